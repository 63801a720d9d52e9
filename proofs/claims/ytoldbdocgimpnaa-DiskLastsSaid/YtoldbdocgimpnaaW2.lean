/- the disk's inner functions -/
import Derived.Test.YtoldbdocgimpnaaW1
import Derived.Test.YtoldbdocgimpnaaS
namespace Go.Proofs.Ytoldbdocgimpnaa
open Go.Vc

/-- a disk's own cells -/
abbrev dskL (sb n : Nat) (op : Option Addr) (on oc : Nat) (dead : Bool) (fu fa dn : Int) : List Value :=
  [.slice (some ⟨sb, 0, none⟩) n n, .slice op on oc, .bool dead, .int .i64 fu, .int .i64 fa, .int .i64 dn]

theorem alive_nil (w : World) : CallsV Try.prog 52 [.pointer none] w fun v w' => v = .int .i64 1 ∧ w' = w := by
  refine calls_enter Try.func52 rfl rfl rfl rfl ?_
  refine c_seq (c_region (wl_p I_ok rfl (wl_nil (f_then (c_seq (c_seq (c_region (wl_p I_ok rfl (wl_nil (f_then (c_condT rfl ?_)))))))))))
  refine c_seq (c_region (wl_p I_ok rfl (wl_nil (f_then (c_ret (f_thenR (f_ret1 rfl rfl ⟨rfl, rfl⟩)))))))

theorem alive_live (w : World) {d sb n : Nat} {op : Option Addr} {on oc : Nat} {dead : Bool} {fu fa dn : Int} (hb : Blk w d 76 (dskL sb n op on oc dead fu fa dn)) :
    CallsV Try.prog 52 [.pointer (some ⟨d, 0, none⟩)] w fun v w' => v = .int .i64 (if dead then 9 else 0) ∧ w' = w := by
  refine calls_enter Try.func52 rfl rfl rfl rfl ?_
  refine c_seq (c_region (wl_p I_ok rfl (wl_nil (f_then (c_seq (c_seq (c_region (wl_p I_ok rfl (wl_nil (f_then (c_condF rfl ?_)))))))))))
  refine c_skip (f_then (c_seq (c_seq (c_region (wl_p I_ok rfl (wl (st_ldb I_ok hb rfl rfl (wl_nil (f_then (c_cond rfl (fun h => ?_) (fun h => ?_)))))))))))
  · refine c_seq (c_region (wl_p I_ok rfl (wl_nil (f_then (c_ret (f_thenR (f_ret1 rfl rfl ⟨by simp [h], rfl⟩)))))))
  · refine c_skip (f_then (c_seq (c_region (wl_p I_ok rfl (wl_nil (f_then (c_ret (f_ret1 rfl rfl ⟨by simp [h], rfl⟩))))))))

/-- operation: what comes of it, `do` by its own contract -/
theorem operation_any (w : World) {d sb n : Nat} {op : Option Addr} {on oc : Nat} {dead : Bool} {fu fa dn : Int} (i : Int) (burns : Bool) {g : Nat} {caps : Array Value}
    (hcf : ∀ args w, (callFunc g args).run Try.prog w = .ok (.enter g args) w)
    (hb : Blk w d 76 (dskL sb n op on oc dead fu fa dn)) (hfu : -1 ≤ fu ∧ fu < 9223372036854775808) (hfa : -1 ≤ fa ∧ fa < 9223372036854775808) (hdn : 0 ≤ dn ∧ dn < 9223372036854775807) (R : Value → World → Prop)
    (hdead : dead = true → R (.int .i64 9) w)
    (harg : dead = false → ¬ (0 ≤ i ∧ i < n) → R (.int .i64 2) w)
    (hio : dead = false → 0 ≤ i ∧ i < n → fa = 0 → ∀ w', Blk w' d 76 (dskL sb n op on oc false fu (-1) dn) → Ext (One d) w w' → R (.int .i64 8) w')
    (hfuse : dead = false → 0 ≤ i ∧ i < n → fa ≠ 0 → burns = true → fu = 0 → ∀ w', Blk w' d 76 (dskL sb n op on oc true (-1) (faultTo fa) dn) → Ext (One d) w w' → R (.int .i64 9) w')
    (hgo : dead = false → 0 ≤ i ∧ i < n → fa ≠ 0 → ¬ (burns = true ∧ fu = 0) → ∀ w', Blk w' d 76 (dskL sb n op on oc false (fuseTo burns fu) (faultTo fa) (dn + 1)) → Ext (One d) w w' →
      CallsV Try.prog g ([.pointer (some ⟨sb, i.toNat * 65, none⟩)] ++ caps.toList) w' fun _ w2 => R (.int .i64 0) w2) :
    CallsV Try.prog 47 [.pointer (some ⟨d, 0, none⟩), .int .i64 i, .bool burns, .func (.func g) #[] caps] w R := by
  refine calls_enter Try.func47 rfl rfl rfl rfl ?_
  refine c_seq (c_region (wl_p I_ok rfl (wl_nil (f_then (c_seq (c_seq (c_region (wl_p I_ok rfl (wl (st_call Try.call52 rfl rfl rfl rfl rfl rfl (alive_live w hb) fun v1 w1 hr1 => ?_))))))))))
  obtain ⟨rfl, rfl⟩ := hr1
  cases dead
  case true =>
    refine wl_p I_ok rfl (wl_nil (f_then (c_seq (c_region (wl_p I_ok rfl (wl_nil (f_then (c_condT rfl ?_))))))))
    exact c_seq (c_region (wl_p I_ok rfl (wl_nil (f_then (c_ret (f_thenR (f_ret1 rfl rfl (hdead rfl))))))))
  refine wl_p I_ok rfl (wl_nil (f_then (c_seq (c_region (wl_p I_ok rfl (wl_nil (f_then (c_condF rfl ?_))))))))
  refine c_skip (f_then (c_seq (c_cutK (α := Bool) [0, 1, 2, 3] rfl (fun z => [(25, .bool z)]) (fun z u => u = w1 ∧ z = decide (¬ (0 ≤ i ∧ i < n))) ?_ ?_)))
  · refine c_region (wl_p I_ok rfl (wl_caseD 17 rfl (fun hg => ?_) (fun hg => ?_)))
    · refine wl_pg I_ok rfl (wl_nil (f_cut true rfl ⟨rfl, ?_⟩))
      simp; omega
    · refine wl_pg I_ok rfl (wl (st_ldb I_ok hb rfl rfl (wl_pg I_ok rfl (wl_nil (f_cut _ rfl ⟨rfl, ?_⟩)))))
      simp only [decide_eq_decide]; omega
  rintro z w ⟨rfl, rfl⟩
  refine c_if rfl (fun hc => ?_) (fun hc => ?_)
  · exact c_seq (c_region (wl_p I_ok rfl (wl_nil (f_then (c_ret (f_thenR (f_ret1 rfl rfl (harg rfl hc))))))))
  have hi : 0 ≤ i ∧ i < n := Decidable.not_not.1 hc
  refine c_skip (f_then (c_cutK (α := Unit) [0, 1, 2, 3] rfl (fun z => []) (fun z u => fa ≠ 0 ∧ Blk u d 76 (dskL sb n op on oc false fu (faultTo fa) dn) ∧ Ext (One d) w u) ?_ ?_))
  · refine c_seq ?_
    refine c_region (wl_p I_ok rfl (wl (st_ldb I_ok hb rfl rfl (wl_p I_ok rfl (wl_nil (f_then (c_if rfl (fun hc => ?_) (fun hc => ?_))))))))
    · refine c_seq ?_
      refine c_region (wl_p I_ok rfl (wl (st_ldb I_ok hb rfl rfl (wl_p I_ok rfl ?_))))
      rw [IntWalk.i64_in _ (by omega)]
      refine wl (st_st I_ok hb rfl rfl rfl fun w2 hb2 hE2 hs2 => ?_)
      refine wl_nil (f_then (c_seq (c_region (wl_p I_ok rfl (wl (st_ldb I_ok hb2 rfl rfl (wl_p I_ok rfl (wl_nil (f_then (c_if rfl (fun hc => ?_) (fun hc => ?_)))))))))))
      · refine c_seq (c_region (wl_p I_ok rfl (wl_nil (f_then (c_ret (f_thenR (f_ret1 rfl rfl ?_)))))))
        rw [hc] at hb2
        exact hio rfl hi (by omega) w2 hb2 hE2
      · refine c_skip (f_cut () rfl ⟨by omega, ?_, hE2⟩)
        rw [show faultTo fa = fa - 1 from if_neg (by omega)]
        exact hb2
    · refine c_skip (f_cut () rfl ⟨by omega, ?_, Ext.refl _ _⟩)
      rw [show faultTo fa = fa from by unfold faultTo; split <;> omega]
      exact hb
  rintro ⟨⟩ w2 ⟨hfa0, hb, hE⟩
  refine c_cutK (α := Unit) [0, 1, 3] rfl (fun z => []) (fun z u => ¬ (burns = true ∧ fu = 0) ∧ Blk u d 76 (dskL sb n op on oc false (fuseTo burns fu) (faultTo fa) dn) ∧ Ext (One d) w u) ?_ ?_
  · refine c_cutK (α := Bool) [0, 1, 3] rfl (fun z => [(50, .bool z)]) (fun z u => u = w2 ∧ z = decide (burns = true ∧ fu ≠ -1)) ?_ ?_
    · refine c_region (wl_p I_ok rfl (wl_case 44 rfl (fun hg => ?_) (fun hg => ?_)))
      · refine wl_pg I_ok rfl (wl (st_ldb I_ok hb rfl rfl (wl_pg I_ok rfl (wl_nil (f_cut _ rfl ⟨rfl, ?_⟩)))))
        simp [hg]
      · refine wl_pg I_ok rfl (wl_nil (f_cut false rfl ⟨rfl, ?_⟩))
        simp [hg]
    rintro z w3 ⟨rfl, rfl⟩
    refine c_if rfl (fun hc => ?_) (fun hc => ?_)
    · refine c_seq (c_region (wl_p I_ok rfl (wl (st_ldb I_ok hb rfl rfl (wl_p I_ok rfl ?_)))))
      rw [IntWalk.i64_in _ (by omega)]
      refine wl (st_st I_ok hb rfl rfl rfl fun w4 hb hE2 hs2 => ?_)
      refine wl_nil (f_then (c_seq (c_region (wl_p I_ok rfl (wl (st_ldb I_ok hb rfl rfl (wl_p I_ok rfl (wl (st_st I_ok hb rfl rfl rfl fun w5 hb hE3 hs3 => ?_)))))))))
      refine wl_nil (f_then (c_seq (c_region (wl_p I_ok rfl (wl (st_ldb I_ok hb rfl rfl (wl_nil (f_then (c_if rfl (fun hd => ?_) (fun hd => ?_))))))))))
      · refine c_seq (c_region (wl_p I_ok rfl (wl_nil (f_then (c_ret (f_thenR (f_ret1 rfl rfl ?_)))))))
        have e : fu = 0 := by omega
        subst e
        exact hfuse rfl hi hfa0 hc.1 rfl w5 (by simpa using hb) (hE.then (hE2.then hE3))
      · refine c_skip (f_cut () rfl ⟨by omega, ?_, hE.then (hE2.then hE3)⟩)
        rw [show fuseTo burns fu = fu - 1 from if_pos hc]
        simpa [hd] using hb
    · refine c_skip (f_cut () rfl ⟨fun h => hc ⟨h.1, by omega⟩, ?_, hE⟩)
      rw [show fuseTo burns fu = fu from if_neg hc]
      exact hb
  rintro ⟨⟩ w3 ⟨hnf, hb, hE⟩
  refine c_seq (c_region (wl_p I_ok rfl (wl (st_ldb I_ok hb rfl rfl (wl_p I_ok rfl ?_)))))
  rw [IntWalk.i64_in _ (by omega)]
  refine wl (st_st I_ok hb rfl rfl rfl fun w4 hb hE2 hs2 => ?_)
  refine wl_nil (f_then (c_seq (c_region (wl_p I_ok rfl (wl (st_ldb I_ok hb rfl rfl (wl_p I_ok rfl (wl (st_ix I_ok rfl 65 rfl i.toNat (by omega) (by omega) (i.toNat * 65) (by omega) ?_)))))))))
  refine wl (st_call hcf rfl rfl rfl rfl rfl rfl (hgo rfl hi hfa0 hnf w4 hb (hE.then hE2)) fun v3 w3 hr3 => ?_)
  exact wl_nil (f_then (c_seq (c_region (wl_p I_ok rfl (wl_nil (f_then (c_ret (f_ret1 rfl rfl hr3))))))))
end Go.Proofs.Ytoldbdocgimpnaa
