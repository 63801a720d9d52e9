/- the disk in memory; what a sector holds; reading, writing -/
import Derived.Test.YtoldbdocgimpnaaW2
namespace Go.Proofs.Ytoldbdocgimpnaa
open Go.Vc

def TyB (w : World) (b T : Nat) : Prop := ∃ l, Blk w b T l
theorem TyB.ext {S : Nat → Prop} {w w' : World} {b T : Nat} (h : TyB w b T) (hE : Ext S w w') (hS : ¬ S b) : TyB w' b T := let ⟨l, hl⟩ := h; ⟨l, hl.ext hE hS⟩
theorem TyB.ne {w : World} {b c T U : Nat} {l : List Value} (h : TyB w b T) (k : Blk w c U l) (hT : T ≠ U) : b ≠ c := let ⟨_, hl⟩ := h; hl.ne k hT

def bytesL (b : List Int) : List Value := b.map (Value.int .u8)
def bl (ws : List (List Int)) : List (List Value) := ws.map bytesL
def secRow (s : List Int) (p : Option Addr) (n c : Nat) : List Value := bytesL s ++ [.slice p n c]

/-- writes that wait, in a row that nobody writes any more; F: the blocks that belong to the disk -/
def WaitsAt (w : World) (F : Nat → Prop) (p : Option Addr) (ws : List (List Int)) : Prop :=
  Sl w p ws.length 64 (bl ws).flatten ∧ ∀ b off, p = some ⟨b, off, none⟩ → F b ∧ TyB w b 29
def SecAt (w : World) (F : Nat → Prop) (s : Sec) (r : List Value) : Prop :=
  ∃ p c, r = secRow s.safe p s.waits.length c ∧ s.waits.length ≤ c ∧ s.safe.length = 64 ∧ (∀ b ∈ s.waits, b.length = 64) ∧ WaitsAt w F p s.waits

theorem WaitsAt.ext {S F : Nat → Prop} {w w' : World} {p : Option Addr} {ws : List (List Int)} (h : WaitsAt w F p ws) (hE : Ext S w w') (hS : ∀ b, F b → TyB w b 29 → ¬ S b) : WaitsAt w' F p ws :=
  ⟨h.1.ext hE fun b off hp => hS b (h.2 b off hp).1 (h.2 b off hp).2, fun b off hp => ⟨(h.2 b off hp).1, (h.2 b off hp).2.ext hE (hS b (h.2 b off hp).1 (h.2 b off hp).2)⟩⟩
theorem WaitsAt.mono {F F' : Nat → Prop} {w : World} {p : Option Addr} {ws : List (List Int)} (h : WaitsAt w F p ws) (hF : ∀ b, F b → F' b) : WaitsAt w F' p ws := ⟨h.1, fun b off hp => ⟨hF b (h.2 b off hp).1, (h.2 b off hp).2⟩⟩
theorem SecAt.ext {S F : Nat → Prop} {w w' : World} {s : Sec} {r : List Value} (h : SecAt w F s r) (hE : Ext S w w') (hS : ∀ b, F b → TyB w b 29 → ¬ S b) : SecAt w' F s r := by
  obtain ⟨p, c, h1, h2, h3, h4, h5⟩ := h
  exact ⟨p, c, h1, h2, h3, h4, h5.ext hE hS⟩
theorem SecAt.mono {F F' : Nat → Prop} {w : World} {s : Sec} {r : List Value} (h : SecAt w F s r) (hF : ∀ b, F b → F' b) : SecAt w F' s r := by
  obtain ⟨p, c, h1, h2, h3, h4, h5⟩ := h
  exact ⟨p, c, h1, h2, h3, h4, h5.mono hF⟩
theorem SecAt.len {w : World} {F : Nat → Prop} {s : Sec} {r : List Value} (h : SecAt w F s r) : r.length = 65 := by
  obtain ⟨p, c, rfl, _, h3, _⟩ := h
  simp [secRow, bytesL, h3]

/-- rows that are sectors -/
def RowsAt (w : World) (F : Nat → Prop) (secs : List Sec) (L : List (List Value)) : Prop :=
  L.length = secs.length ∧ ∀ (i : Nat) (s : Sec) (r : List Value), secs[i]? = some s → L[i]? = some r → SecAt w F s r
theorem RowsAt.uni {w : World} {F : Nat → Prop} {secs : List Sec} {L : List (List Value)} (h : RowsAt w F secs L) : Uni 65 L := fun r hr => by
  obtain ⟨i, hi, rfl⟩ := List.mem_iff_getElem.1 hr
  exact (h.2 i (secs[i]'(by rw [← h.1]; exact hi)) L[i] (by simp) (by simp)).len
theorem RowsAt.ext {S F : Nat → Prop} {w w' : World} {secs : List Sec} {L : List (List Value)} (h : RowsAt w F secs L) (hE : Ext S w w') (hS : ∀ b, F b → TyB w b 29 → ¬ S b) : RowsAt w' F secs L :=
  ⟨h.1, fun i s r hs hr => (h.2 i s r hs hr).ext hE hS⟩
theorem RowsAt.mono {F F' : Nat → Prop} {w : World} {secs : List Sec} {L : List (List Value)} (h : RowsAt w F secs L) (hF : ∀ b, F b → F' b) : RowsAt w F' secs L :=
  ⟨h.1, fun i s r hs hr => (h.2 i s r hs hr).mono hF⟩

abbrev orderL (l : List Nat) : List Value := l.map fun i : Nat => Value.int .i64 (i : Int)

/-- a disk: its head d, its sectors' block, its row of what waits, all its blocks F -/
structure DiskAt (w : World) (d sb : Nat) (op : Option Addr) (oc : Nat) (F : Nat → Prop) (D : Dsk) : Prop where
  head : Blk w d 76 (dskL sb D.secs.length op D.order.length oc D.dead D.fuse D.fault D.done)
  secs : ∃ L, Blk w sb 94 (List.flatten L) ∧ RowsAt w F D.secs L
  order : Own w op D.order.length oc 3 1 (orderL D.order)
  own : F d ∧ F sb ∧ ∀ x, OwnB op x → F x
  lt : ∀ x, F x → x < w.heap.size

theorem DiskAt.ext {S F : Nat → Prop} {w w' : World} {d sb oc : Nat} {op : Option Addr} {D : Dsk} (h : DiskAt w d sb op oc F D) (hE : Ext S w w') (hS : ∀ x, F x → ¬ S x) : DiskAt w' d sb op oc F D := by
  obtain ⟨L, h1, h2⟩ := h.secs
  exact ⟨h.head.ext hE (hS d h.own.1), ⟨L, h1.ext hE (hS sb h.own.2.1), h2.ext hE fun b hb _ => hS b hb⟩, h.order.ext hE fun x hx => hS x (h.own.2.2 x hx), h.own, fun x hx => Nat.lt_of_lt_of_le (h.lt x hx) hE.size⟩
theorem DiskAt.extNo {F : Nat → Prop} {w w' : World} {d sb oc : Nat} {op : Option Addr} {D : Dsk} (h : DiskAt w d sb op oc F D) (hE : Ext No w w') : DiskAt w' d sb op oc F D := h.ext hE fun _ _ => id
theorem DiskAt.extNew {F : Nat → Prop} {w w' : World} {d sb oc b : Nat} {op : Option Addr} {D : Dsk} (h : DiskAt w d sb op oc F D) (hE : Ext (One b) w w') (hb : ¬ F b) : DiskAt w' d sb op oc F D := h.ext hE fun x hx e => hb (e ▸ hx)
/-- the row of the waiting sectors' numbers is of numbers -/
theorem Own.ty {w : World} {p : Option Addr} {n c T sz : Nat} {xs : List Value} (h : Own w p n c T sz xs) {x : Nat} (hx : OwnB p x) : TyB w x T := by
  rcases h with ⟨hp, _⟩ | ⟨b, l, hp, hb, _⟩
  · rw [hp] at hx; cases hx
  · rw [hp] at hx
    obtain rfl : b = x := by simpa using hx
    exact ⟨l, hb⟩
/-- only a disk's head has turned -/
theorem DiskAt.headTo {F : Nat → Prop} {w w' : World} {d sb oc : Nat} {op : Option Addr} {D D' : Dsk} (h : DiskAt w d sb op oc F D) (hs : D'.secs = D.secs) (ho : D'.order = D.order) (hb : Blk w' d 76 (dskL sb D.secs.length op D.order.length oc D'.dead D'.fuse D'.fault D'.done)) (hE : Ext (One d) w w') : DiskAt w' d sb op oc F D' := by
  obtain ⟨L, h1, h2⟩ := h.secs
  have e1 : RowsAt w' F D.secs L := h2.ext hE fun b _ hb e => hb.ne h.head (by decide) e
  have e2 := h.order.ext hE fun _ hx e => (Own.ty h.order hx).ne h.head (by decide) e
  exact ⟨by rw [hs, ho]; exact hb, ⟨L, h1.ext1 hE (h1.ne h.head (by decide)), by rw [hs]; exact e1⟩, by rw [ho]; exact e2, h.own, fun x hx => Nat.lt_of_lt_of_le (h.lt x hx) hE.size⟩

/-- what a sector holds -/
theorem now_calls (w : World) {sb i : Nat} {L : List (List Value)} (hb : Blk w sb 94 L.flatten) (hu : Uni 65 L) {s : Sec} {r : List Value} (hr : L[i]? = some r) {F : Nat → Prop} (hs : SecAt w F s r) (hfew : s.waits.length < 4611686018427387904) :
    CallsV Try.prog 49 [.pointer (some ⟨sb, i * 65, none⟩)] w fun v w' => v = numA .u8 s.now ∧ Ext No w w' := by
  obtain ⟨p, c, hrow, hc, h64, hw64, hsl, _⟩ := hs
  have hcell : w.cell? ⟨sb, i * 65 + 64, none⟩ = some (.slice p s.waits.length c) := by
    refine hb.cell ?_
    rw [rows_get hu hr (by decide), hrow]
    simp [secRow, bytesL, h64]
  have hsafe : Seg w sb (i * 65) (bytesL s.safe) := by
    have := (hb.seg.drop (i * 65)).take 64
    rw [Nat.zero_add] at this
    have e := rows_part hu hr (j := 0) (n := 64) (by decide)
    rw [Nat.add_zero] at e
    rw [e, hrow] at this
    simpa [secRow, bytesL, h64] using this
  refine calls_enter Try.func49 rfl rfl rfl rfl ?_
  have hX := Ext.refl No w
  refine c_seq (c_region (wl (st_al I_ok rfl fun b2 w1 hn2 hb2 hE1 => ?_)))
  have fr2 := Nat.le_trans hX.size hn2
  have hX := hX.thenNo hE1
  have hE0 := hE1
  have hcell1 := cell_ext hcell hE1 id
  have hsafe1 := hsafe.extNo hE1
  have hsl1 := hsl.extNo hE1
  refine wl_nil (f_then (c_seq (c_seq (c_region (wl_p I_ok rfl (wl (st_ld I_ok rfl hcell1 (wl_p I_ok rfl (wl_nil (f_then (c_seq (c_region (wl_p I_ok rfl (wl_nil (f_then (c_if rfl (fun hc => ?_) (fun hc => ?_)))))))))))))))))
  · have hne : s.waits ≠ [] := fun e => by rw [e] at hc; simp at hc
    obtain ⟨b0, off0, rfl, hseg⟩ := hsl1.2.resolve_left (by omega)
    have hwu : Uni 64 (bl s.waits) := Uni.map fun x hx => by simp [bytesL, hw64 x hx]
    have hlast : (bl s.waits)[s.waits.length - 1]? = some (bytesL s.now) := by
      unfold bl Sec.now
      rw [List.getElem?_map, List.getLast?_eq_getElem?]
      have : s.waits.length - 1 < s.waits.length := by omega
      simp [this]
    have hseg' : Seg w1 b0 (off0 + (s.waits.length - 1) * 64) (bytesL s.now) := by
      have := (hseg.drop ((s.waits.length - 1) * 64)).take 64
      rw [rows_row hwu hlast] at this
      exact this
    have hl64 : (bytesL s.now).length = 64 := hwu.get hlast
    refine c_seq (c_region (wl_p I_ok rfl (wl (st_ld I_ok rfl hcell1 (wl_p I_ok rfl ?_)))))
    rw [IntWalk.i64_in _ (by omega)]
    refine wl (st_ix I_ok rfl 64 rfl (s.waits.length - 1) (by omega) (by omega) (off0 + (s.waits.length - 1) * 64) rfl (wl (st_ldN I_ok rfl hseg' hl64 ?_)))
    refine wl (st_stW I_ok hb2 rfl rfl hl64 (by rw [cellsOf_agg, hl64]; rfl) one_ints fun w2 hb2 hE2 hs2 => ?_)
    have hX := hX.thenNew hE2 fr2
    refine wl_nil (f_then (c_ret (f_thenR (f_ret [_] ⟨⟨b2, 0, rfl, ld_all I_ok rfl rfl hb2.seg hl64⟩, trivial⟩ ?_))))
    exact ⟨rfl, hX⟩
  · have he : s.waits = [] := List.eq_nil_of_length_eq_zero (by omega)
    have hnow : s.now = s.safe := by simp [Sec.now, he]
    have hl64 : (bytesL s.safe).length = 64 := by simp [bytesL, h64]
    refine c_skip ?_
    refine f_then (c_seq (c_region (wl_p I_ok rfl (wl (st_ldN I_ok rfl hsafe1 hl64 (wl (st_stW I_ok hb2 rfl rfl hl64 (by rw [cellsOf_agg, hl64]; rfl) one_ints fun w2 hb2 hE2 hs2 => ?_)))))))
    have hX := hX.thenNew hE2 fr2
    refine wl_nil (f_then (c_ret (f_ret [_] ⟨⟨b2, 0, rfl, ld_all I_ok rfl rfl hb2.seg hl64⟩, trivial⟩ ?_)))
    exact ⟨by rw [hnow]; rfl, hX⟩

/-- Read's inner function: what the sector holds goes into b -/
theorem readIn_calls (w : World) {sb i x : Nat} {L : List (List Value)} (hb : Blk w sb 94 L.flatten) (hu : Uni 65 L) {s : Sec} {r : List Value} (hr : L[i]? = some r) {F : Nat → Prop} (hs : SecAt w F s r) (hfew : s.waits.length < 4611686018427387904) {l : List Value} (hx : Blk w x 29 l) (hl : l.length = 64) (hnow : s.now.length = 64) :
    CallsV Try.prog 48 ([.pointer (some ⟨sb, i * 65, none⟩)] ++ #[Value.pointer (some ⟨x, 0, none⟩)].toList) w fun _ w' => Blk w' x 29 (bytesL s.now) ∧ Ext (One x) w w' := by
  refine calls_enter Try.func48 rfl rfl rfl rfl ?_
  refine c_region (wl_p I_ok rfl (wl (st_call Try.call49 rfl rfl rfl rfl rfl rfl (now_calls w hb hu hr hs hfew) fun v1 w1 hr1 => ?_)))
  obtain ⟨rfl, hE1⟩ := hr1
  have h64 : (bytesL s.now).length = 64 := by simp [bytesL, hnow]
  refine wl (st_stW I_ok (hx.extNo hE1) rfl rfl h64 (by rw [hl]; exact h64) one_ints fun w2 hx2 hE2 hs2 => ?_)
  refine wl_nil (f_end0 rfl ?_)
  exact ⟨hx2, hE1.no.then hE2⟩

theorem now_length {D : Dsk} {m : Nat} (hok : D.Ok m) (i : Nat) : (D.now i).length = 64 := by
  rw [Dsk.now]
  cases hs : D.secs[i]? with
  | none => exact zeros_length
  | some s =>
    have hs' := hok.safe s (List.mem_of_getElem? hs)
    simp only [Option.map_some, Option.getD_some, Sec.now]
    cases hl : s.waits.getLast? with
    | none => exact hs'.1
    | some b => exact hs'.2 b (List.mem_of_getLast? hl)
theorem waits_few {D : Dsk} {m : Nat} (hok : D.Ok m) {i : Nat} {s : Sec} (hs : D.secs[i]? = some s) : s.waits.length ≤ m := by
  rw [hok.count i s hs]
  exact Nat.le_trans List.count_le_length hok.few

/-- Read -/
theorem read_calls (w : World) {d sb oc m : Nat} {F : Nat → Prop} {op : Option Addr} {D : Dsk} (h : DiskAt w d sb op oc F D) (hok : D.Ok m) (hm : m < 1000000000) (i : Int) :
    CallsV Try.prog 24 [.pointer (some ⟨d, 0, none⟩), .int .i64 i] w fun v w' => v = .tuple #[numA .u8 (D.read i).2.1, .int .i64 (D.read i).2.2] ∧ DiskAt w' d sb op oc F (D.read i).1 ∧ Ext (One d) w w' := by
  refine calls_enter Try.func24 rfl rfl rfl rfl ?_
  have hX := Ext.refl (One d) w
  refine c_seq (c_region (wl (st_al I_ok rfl fun b4 w1 hn4 hb4 hE1 => ?_)))
  have fr4 := Nat.le_trans hX.size hn4
  have hX := hX.thenNo hE1
  have hF4 : ¬ F b4 := fun e => by have := h.lt b4 e; omega
  have hd4 : d ≠ b4 := fun e => hF4 (e ▸ h.own.1)
  have h := h.extNo hE1
  have hb4 : Blk w1 b4 29 (bytesL zeros) := by
    have e : cellsOf ti29.zero = bytesL zeros := by simp [ti29, zeros, bytesL]
    rw [← e]; exact hb4
  have hop := operation_any w1 i false Try.call48 h.head hok.fuse hok.fault ⟨hok.done.1, by have := hok.done.2; omega⟩
    (fun v w' => v = .int .i64 (D.read i).2.2 ∧ DiskAt w' d sb op oc F (D.read i).1 ∧ Blk w' b4 29 (bytesL (D.read i).2.1) ∧ Ext (fun x => x = d ∨ x = b4) w1 w') (caps := #[.pointer (some ⟨b4, 0, none⟩)])
    (fun hd => ?_) (fun hd hi => ?_) (fun hd hi hf w' hb' hE => ?_) (fun hd hi hf hbu hfu w' hb' hE => ?_) (fun hd hi hf hbu w' hb' hE => ?_)
  · refine wl_p I_ok rfl (wl_nil (f_then (c_seq (c_region (wl_p I_ok rfl (wl (st_call Try.call47 rfl rfl rfl rfl rfl rfl hop fun v2 w2 hr2 => ?_)))))))
    obtain ⟨rfl, h, hb4, hE2⟩ := hr2
    have hl : (bytesL (D.read i).2.1).length = 64 := by
      unfold bytesL
      rw [List.length_map]
      unfold Dsk.read
      dsimp only
      split
      · exact now_length (hok.begin i false) _
      · exact zeros_length
    have hX : Ext (One d) w w2 := hX.trans hE2 fun x hx e => e.resolve_right (by omega)
    refine wl_p I_ok rfl (wl_nil (f_then (c_seq (c_region (wl (st_ldB I_ok hb4 rfl hl (wl_p I_ok rfl (wl (st_stW I_ok hb4 rfl rfl hl (by rw [cellsOf_agg]) one_ints fun w3 hb4 hE3 hs3 => ?_)))))))))
    refine wl_p I_ok rfl (wl_nil (f_then (c_ret (f_ret [_, _] ⟨⟨b4, 0, rfl, ld_all I_ok rfl rfl hb4.seg hl⟩, rfl, trivial⟩ ?_))))
    exact ⟨rfl, h.extNew hE3 hF4, hX.thenNew hE3 fr4⟩
  · have e : D.read i = (D, zeros, 9) := by simp [Dsk.read, Dsk.begin, hd]
    rw [e]
    exact ⟨rfl, h, hb4, Ext.refl _ _⟩
  · have e : D.read i = (D, zeros, 2) := by simp [Dsk.read, Dsk.begin, hd, hi]
    rw [e]
    exact ⟨rfl, h, hb4, Ext.refl _ _⟩
  · have e : D.read i = ({ D with fault := -1 }, zeros, 8) := by simp [Dsk.read, Dsk.begin, hd, hi, hf]
    rw [e]
    have h' := h.headTo (D' := { D with fault := -1 }) rfl rfl (by rw [hd]; exact hb') hE
    exact ⟨rfl, h', hb4.ext1 hE hd4.symm, hE.mono fun x _ e => .inl e⟩
  · cases hbu
  · have e0 : D.begin i false = ({ D with fault := faultTo D.fault, fuse := fuseTo false D.fuse, done := D.done + 1 }, 0) := by simp [Dsk.begin, hd, hi, hf]
    have e : D.read i = ({ D with fault := faultTo D.fault, fuse := fuseTo false D.fuse, done := D.done + 1 }, D.now i.toNat, 0) := by
      simp only [Dsk.read, e0, if_true, Dsk.now]
    rw [e]
    have h' := h.headTo (D' := { D with fault := faultTo D.fault, fuse := fuseTo false D.fuse, done := D.done + 1 }) rfl rfl (by rw [hd]; exact hb') hE
    obtain ⟨L, hL1, hL2⟩ := h'.secs
    have hi' : i.toNat < D.secs.length := by omega
    have hs : D.secs[i.toNat]? = some D.secs[i.toNat] := by simp [hi']
    have hiL : i.toNat < L.length := by rw [hL2.1]; exact hi'
    have hr : L[i.toNat]? = some L[i.toNat] := by simp
    have hnow : D.now i.toNat = D.secs[i.toNat].now := by simp [Dsk.now, hs]
    have hn64 := now_length hok i.toNat
    rw [hnow] at hn64 ⊢
    refine (readIn_calls w' hL1 hL2.uni hr (hL2.2 _ _ _ hs hr) (by have := waits_few hok hs; omega) (hb4.ext1 hE hd4.symm) (by simp [bytesL, zeros]) hn64).mono fun v w2 ⟨hb2, hE2⟩ => ?_
    exact ⟨rfl, h'.extNew hE2 hF4, hb2, (hE.mono fun x _ e => .inl e).then (hE2.mono fun x _ e => .inr e)⟩
end Go.Proofs.Ytoldbdocgimpnaa
