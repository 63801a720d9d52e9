/- settle -/
import Derived.Test.YtoldbdocgimpnaaW5
namespace Go.Proofs.Ytoldbdocgimpnaa
open Go.Vc

theorem RowsAt.modify {w : World} {F : Nat → Prop} {secs : List Sec} {L : List (List Value)} (h : RowsAt w F secs L) {k : Nat} {f : Sec → Sec} {r : List Value} (hr : ∀ s, secs[k]? = some s → SecAt w F (f s) r) : RowsAt w F (secs.modify k f) (L.set k r) := by
  refine ⟨by simp [h.1], fun j s x hs hx => ?_⟩
  rw [List.getElem?_modify] at hs
  rw [List.getElem?_set] at hx
  by_cases hkj : k = j
  · subst hkj
    rw [if_pos rfl] at hx
    split at hx
    · simp at hx
      subst hx
      cases hk : secs[k]? with
      | none => rw [hk] at hs; simp at hs
      | some t =>
        rw [hk] at hs
        simp at hs
        subst hs
        exact hr t hk
    · cases hx
  · rw [if_neg hkj] at hx
    cases hk : secs[j]? with
    | none => rw [hk] at hs; simp at hs
    | some t =>
      rw [hk] at hs
      simp [hkj] at hs
      subst hs
      exact h.2 j t x hk hx

theorem settle_calls (w : World) {d m : Nat} {F : Nat → Prop} {D : Dsk} (h : At w d F D) (hok : D.Ok m) (hm : m < 1000000000) (lives : Nat → Bool) {g : Nat} {caps : Array Value}
    (hcf : ∀ args w, (callFunc g args).run Try.prog w = .ok (.enter g args) w)
    (hl : ∀ w1 (i : Nat), i < D.order.length → Ext F w w1 → CallsV Try.prog g ([.int .i64 (i : Int)] ++ caps.toList) w1 fun v w2 => v = .bool (lives i) ∧ Ext No w1 w2) :
    CallsV Try.prog 44 [.pointer (some ⟨d, 0, none⟩), .func (.func g) #[] caps] w fun _ w' => At w' d F (D.settle lives) ∧ Ext F w w' := by
  obtain ⟨sb, op, oc, h⟩ := h
  have hsize := hok.size
  have hfew := hok.few
  refine calls_enter Try.func44 rfl rfl rfl rfl ?_
  refine c_scopeJ (α := Nat × List Sec) 0 rfl
    (fun z u => z.1 ≤ D.order.length ∧ z.2.length = D.secs.length ∧ (∀ k s, z.2[k]? = some s → s.waits.length = (D.order.drop z.1).count k) ∧ settleAll lives (D.order.drop z.1) z.1 z.2 = settleAll lives D.order 0 D.secs ∧
      (∃ L, Blk u sb 94 (List.flatten L) ∧ RowsAt u F z.2 L) ∧ Blk u d 76 (dskL sb D.secs.length op D.order.length oc D.dead D.fuse D.fault D.done) ∧ Own u op D.order.length oc 3 1 (orderL D.order) ∧ Ext F w u)
    (fun z => [(0, .pointer (some ⟨d, 0, none⟩)), (1, .func (.func g) #[] caps), (4, .int .i64 (z.1 : Int))]) (fun z _ => D.order.length - z.1) ?_ ?_
  · refine c_region (wl_p I_ok rfl (wl_nil ?_))
    refine f_first (0, D.secs) rfl ⟨Nat.zero_le _, rfl, fun k s hs => hok.count k s hs, rfl, h.secs, h.head, h.order, Ext.refl F w⟩
  rintro ⟨i, cur⟩ u ⟨hi, hlen, hcount, hset, ⟨L, hL1, hL2⟩, hhead, hord, hX⟩
  dsimp only at hi hlen hcount hset hL2 ⊢
  have hSd : ∀ x, TyB u x 29 → x ≠ sb := fun x hx => hx.ne hL1 (by decide)
  refine c_seq (c_seq (c_region (wl_p I_ok rfl (wl (st_ldb I_ok hhead rfl rfl (wl_p I_ok rfl (wl_nil (f_then (c_if rfl (fun hc => ?_) (fun hc => ?_))))))))))
  · have hi' : i < D.order.length := by omega
    have hk : D.order[i]? = some D.order[i] := by simp [hi']
    generalize hkk : D.order[i] = k at hk
    have hkin : k < D.secs.length := hok.inside k (List.mem_of_getElem? hk)
    obtain ⟨b0, off0, hop, hseg⟩ := hord.sl.2.resolve_left (by omega)
    have hocell : u.cell? ⟨b0, off0 + i, none⟩ = some (.int .i64 (k : Int)) := hseg i _ (by simp [orderL, hk])
    have hb0 : op = some ⟨b0, 0, none⟩ ∧ off0 = 0 := by
      rcases hord with ⟨hp, _⟩ | ⟨b, l, hp, _⟩
      · rw [hp] at hop; cases hop
      · rw [hp] at hop; simp at hop; obtain ⟨rfl, rfl⟩ := hop; exact ⟨hp, rfl⟩
    obtain ⟨hop', rfl⟩ := hb0
    subst hop'
    have hcs : cur[k]? = some (cur[k]'(by omega)) := by simp [show k < cur.length by omega]
    generalize hss : cur[k]'(by omega) = s at hcs
    have hdrop : D.order.drop i = k :: D.order.drop (i + 1) := by
      rw [List.drop_eq_getElem_cons hi', hkk]
    have hcnt := hcount k s hcs
    rw [hdrop, List.count_cons_self] at hcnt
    have hkL : k < L.length := by rw [hL2.1]; omega
    have hr : L[k]? = some L[k] := by simp
    generalize hrd : L[k] = r at hr
    have hsat := hL2.2 k s r hcs hr
    obtain ⟨p, c, hrow, hcap, h64, hw64, hsl, hpF⟩ := hsat
    have hu := hL2.uni
    have hcell : u.cell? ⟨sb, k * 65 + 64, none⟩ = some (.slice p s.waits.length c) := by
      refine hL1.cell ?_
      rw [rows_get hu hr (by decide), hrow]
      simp [secRow, bytesL, h64]
    obtain ⟨wb0, woff, hp, hwseg⟩ := hsl.2.resolve_left (by omega)
    subst hp
    obtain ⟨f0, frest, hwaits⟩ : ∃ f0 frest, s.waits = f0 :: frest := by
      cases hww : s.waits with
      | nil => rw [hww] at hcnt; simp at hcnt
      | cons f0 frest => exact ⟨f0, frest, rfl⟩
    have hf64 : f0.length = 64 := hw64 f0 (by rw [hwaits]; simp)
    have hfseg : Seg u wb0 woff (bytesL f0) := by
      have := hwseg.take 64
      rw [hwaits] at this
      simpa [bl, bytesL, hf64] using this
    have hlenL := rows_length hu
    have hbig := Nat.mul_le_mul_right 65 (Nat.succ_le_of_lt hkL)
    refine c_seq ?_
    refine c_draw rfl 13 [(0, true), (1, true), (2, true), (3, true), (4, true), (5, true), (6, true), (7, true), (8, true), (9, true), (10, true), (11, true), (12, true)] [] No (by kernel_rfl) fun w1 hE1 hs1 => ?_
    refine wd_p I_ok rfl (wd_ld I_ok rfl rfl (fun w' hw' => (hhead.extNo hw').cell rfl) ?_)
    refine wd_p I_ok rfl (wd_ld I_ok rfl rfl (fun w' hw' => (hhead.extNo hw').cell rfl) ?_)
    refine wd_p I_ok rfl (wd_ix I_ok rfl rfl 1 rfl i rfl hi' (0 + i) (by omega) (wd_ld I_ok rfl rfl (fun w' hw' => cell_ext hocell hw' id) ?_))
    refine wd_ix I_ok rfl rfl 65 rfl k rfl hkin (0 + k * 65) (by omega) (wd_p I_ok rfl (wd_sw (wb_nil (f_then ?_))))
    rw [Nat.zero_add]
    have hL10 := hL1
    have hX0 := hX
    have hL1 := hL1.extNo hE1
    have hcell := cell_ext hcell hE1 id
    have hfseg := hfseg.extNo hE1
    have hX := hX.thenNo hE1
    have hTwb : TyB u wb0 29 := (hpF wb0 woff rfl).2
    have hsbF : F sb := h.own.2.1
    refine c_cutK (α := Unit) [0, 1, 4, 5] rfl (fun z => []) (fun z u' => Blk u' sb 94 (L.set k (secRow (settleSec (lives i) s).safe (some ⟨wb0, woff, none⟩) s.waits.length c)).flatten ∧ Ext (Vc.One sb) u u') ?_ ?_
    · refine c_seq ?_
      refine c_region (wl_p I_ok rfl (wl (st_call hcf rfl rfl rfl rfl rfl rfl (hl w1 i hi' hX) fun v2 w2 hr2 => ?_)))
      obtain ⟨rfl, hE2⟩ := hr2
      have hL1 := hL1.extNo hE2
      have hcell := cell_ext hcell hE2 id
      have hfseg := hfseg.extNo hE2
      refine wl_nil (f_then (c_cond rfl (fun hc => ?_) (fun hc => ?_)))
      · refine c_region ?_
        refine wl_p I_ok rfl (wl (st_ld I_ok rfl hcell (wl (st_ix I_ok rfl 64 rfl 0 rfl (by omega) woff (by omega) (wl (st_ldN I_ok rfl hfseg (by simp [bytesL, hf64]) ?_))))))
        refine wl_p I_ok rfl (wl (st_stN I_ok hL1 rfl (by rw [cellsOf_agg]; simp [bytesL, hf64]) (by rw [hlenL]; show k * 65 + 64 ≤ _; omega) (by rw [cellsOf_agg]; exact one_ints) fun w3 hL3 hE3 hs3 => ?_))
        refine wl_nil (f_cut () rfl ⟨?_, hE1.no.then (hE2.no.then hE3)⟩)
        have hL3 : Blk w3 sb 94 (Vc.put L.flatten (k * 65 + 0) (bytesL f0)) := by simpa using hL3
        rw [rows_put hu hr _ (by simp [bytesL, hf64])] at hL3
        have : Vc.put r 0 (bytesL f0) = secRow (settleSec (lives i) s).safe (some ⟨wb0, woff, none⟩) s.waits.length c := by
          rw [hrow, put_eq _ _ _ (by simp [secRow, bytesL, h64, hf64]), hc]
          simp [secRow, bytesL, h64, hf64, settleSec, hwaits]
        rwa [this] at hL3
      · refine c_skip (f_cut () rfl ⟨?_, hE1.no.then hE2.no⟩)
        rw [hc]
        have e : (settleSec false s).safe = s.safe := rfl
        rw [e, ← hrow, ← hrd, List.set_getElem_self]
        exact hL1
    rintro ⟨⟩ u2 ⟨hL2', hE2⟩
    generalize hrow2 : secRow (settleSec (lives i) s).safe (some ⟨wb0, woff, none⟩) s.waits.length c = r2 at hL2'
    have h64' : (settleSec (lives i) s).safe.length = 64 := by
      simp only [settleSec, hwaits, List.headD_cons]
      split
      · exact hf64
      · exact h64
    have hu2 : Uni 65 (L.set k r2) := hu.set k (by rw [← hrow2]; simp [secRow, bytesL, h64'])
    have hr2 : (L.set k r2)[k]? = some r2 := by simp [hkL]
    have hcell2 : u2.cell? ⟨sb, k * 65 + 64, none⟩ = some (.slice (some ⟨wb0, woff, none⟩) s.waits.length c) := by
      refine hL2'.cell ?_
      rw [rows_get hu2 hr2 (by decide), ← hrow2]
      simp [secRow, bytesL, h64']
    have hlenL2 := rows_length hu2
    rw [List.length_set] at hlenL2
    refine c_seq (c_region (wl_p I_ok rfl (wl (st_ld I_ok rfl hcell2 (wl (st_sl I_ok rfl 1 s.waits.length c 64 rfl (.inr ⟨rfl, rfl⟩) (.inr ⟨rfl, rfl⟩) (.inl rfl) (by omega) hcap (Nat.le_refl c) (wl_p I_ok rfl (wl (st_set I_ok hL2' rfl rfl (by show k * 65 + 64 < _; rw [hlenL2]; omega) fun w3 hL3 hE3 hs3 => ?_)))))))))
    have hL3 : Blk w3 sb 94 (Vc.put (L.set k r2).flatten (k * 65 + 64) [Value.slice (slBase (some ⟨wb0, woff, none⟩) 1 c 64) (s.waits.length - 1) (c - 1)]) := hL3
    rw [rows_put hu2 hr2 _ (by simp)] at hL3
    have hE13 : Ext (Vc.One sb) u w3 := hE2.then hE3
    refine wl_nil (f_then (c_seq (c_region (wl_p I_ok rfl ?_))))
    rw [IntWalk.i64_in _ (by omega)]
    refine wl_nil (f_then (c_goto (f_thenG (f_back (i + 1, cur.modify k (settleSec (lives i))) rfl ⟨by simp only; omega, by simp only [List.length_modify]; omega, ?_, ?_, ⟨_, hL3, ?_⟩, ?_, ?_, ?_⟩ ?_))))
    · intro k' s' hs'
      simp only [List.getElem?_modify] at hs'
      by_cases hkk' : k = k'
      · subst hkk'
        rw [hcs] at hs'
        simp at hs'
        subst hs'
        simp only [settleSec, hwaits, List.tail_cons]
        rw [hwaits, List.length_cons] at hcnt
        omega
      · cases hck : cur[k']? with
        | none => rw [hck] at hs'; simp at hs'
        | some t =>
          rw [hck] at hs'
          simp [hkk'] at hs'
          subst hs'
          have := hcount k' t hck
          rw [hdrop, List.count_cons_of_ne hkk'] at this
          exact this
    · rw [← hset, hdrop]; rfl
    · have hL2u : RowsAt w3 F cur L := hL2.ext hE13 fun x _ hx => hSd x hx
      dsimp only
      rw [List.set_set]
      refine RowsAt.modify hL2u fun s' hs' => ?_
      rw [hcs] at hs'
      simp at hs'
      subst hs'
      have hbase : ∀ b off, slBase (some ⟨wb0, woff, none⟩) 1 c 64 = some ⟨b, off, none⟩ → b = wb0 := by
        intro b off hb
        unfold slBase at hb
        split at hb
        · simp at hb; exact hb.1.symm
        · simp [addr_add] at hb; exact hb.1.symm
      have hsl3 := (hsl.slice 1 s.waits.length c (by omega) hcap (Nat.le_refl _)).ext hE13 fun b off hb => by
        rw [hbase b off hb]
        exact hSd _ hTwb
      refine ⟨slBase (some ⟨wb0, woff, none⟩) 1 c 64, c - 1, ?_, ?_, h64', ?_, ?_, ?_⟩
      · rw [← hrow2, put_eq _ _ _ (by simp [secRow, bytesL, h64'])]
        have e1 : (secRow (settleSec (lives i) s).safe (some ⟨wb0, woff, none⟩) s.waits.length c).take 64 = bytesL (settleSec (lives i) s).safe := by
          unfold secRow; rw [List.take_append_of_le_length (by simp [bytesL, h64']), List.take_of_length_le (by simp [bytesL, h64'])]
        rw [e1, List.drop_eq_nil_of_le (by simp [secRow, bytesL, h64'])]
        simp [secRow, settleSec]
      · simp [settleSec]; omega
      · intro b hb
        exact hw64 b (List.mem_of_mem_tail hb)
      · have e1 : (settleSec (lives i) s).waits.length = s.waits.length - 1 := by simp [settleSec]
        have e2 : (bl (settleSec (lives i) s).waits).flatten = ((bl s.waits).flatten.drop (1 * 64)).take ((s.waits.length - 1) * 64) := by
          have hbu : Uni 64 (bl s.waits) := Uni.map fun x hx => by simp [bytesL, hw64 x hx]
          rw [rows_sub hbu]
          congr 1
          rw [List.take_of_length_le (by simp [bl])]
          simp [settleSec, bl, hwaits]
        rw [e1, e2]
        exact hsl3
      · intro b off hb
        have := hbase b off hb
        subst this
        exact ⟨(hpF b woff rfl).1, hTwb.ext hE13 (hSd _ hTwb)⟩
    · exact hhead.ext1 hE13 (hhead.ne hL10 (by decide))
    · exact hord.ext hE13 fun x hx e => (Own.ty hord hx).ne hL10 (by decide) e
    · exact hX0.trans hE13 fun x _ e => e ▸ hsbF
    · simp only; omega
  · have hie : i = D.order.length := by omega
    subst hie
    rw [List.drop_length] at hset
    refine c_skip (f_then (c_region (wl_p I_ok rfl (wl (st_st I_ok hhead rfl rfl rfl fun w1 hb1 hE1 hs1 => ?_)))))
    refine wl_nil (f_jumpN (f_end0 rfl ?_))
    have hFd : F d := h.own.1
    have hsecs : cur = settleAll lives D.order 0 D.secs := hset
    refine ⟨⟨sb, none, 0, ?_, ⟨L, hL1.ext1 hE1 (hL1.ne hhead (by decide)), ?_⟩, .inl ⟨rfl, rfl, rfl, rfl⟩, ⟨hFd, h.own.2.1, fun x hx => by cases hx⟩, ?_⟩, hX.trans hE1 fun x _ e => e ▸ hFd⟩
    · simp only [Dsk.settle, settleAll_length]
      exact hb1
    · simp only [Dsk.settle]
      rw [← hsecs]
      exact hL2.ext hE1 fun x _ hx e => hx.ne hhead (by decide) e
    · intro x hx
      have := hX.size
      have := hE1.size
      have := h.lt x hx
      omega
end Go.Proofs.Ytoldbdocgimpnaa
