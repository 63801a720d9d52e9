/- what is safe stays: plain facts; rows of what each sector held -/
import Derived.Test.YtoldbdocgimpnaaF0
import Derived.Test.YtoldbdocgimpnaaVcW
namespace Go.Proofs.Ytoldbdocgimpnaa
open Go.Vc

def sec (D : Dsk) (i : Nat) : Sec := (D.secs[i]?).getD ⟨zeros, []⟩
def sinceL (D : Dsk) (i : Nat) : List (List Int) := (sec D i).safe :: (sec D i).waits
theorem sec_some {D : Dsk} {i : Nat} (hi : i < D.secs.length) : D.secs[i]? = some (sec D i) := by simp [sec, hi]
theorem sec_of {D : Dsk} {i : Nat} {s : Sec} (h : D.secs[i]? = some s) : sec D i = s := by simp [sec, h]
theorem now_since {D : Dsk} {i : Nat} (hi : i < D.secs.length) : (sinceL D i).getLast? = some (D.now i) := by
  rw [sinceL, List.getLast?_cons, Dsk.now, sec_some hi]
  rfl
theorem put_since (D : Dsk) {i : Nat} (hi : i < D.secs.length) (b : List Int) (j : Nat) : sinceL (D.put i b) j = if i = j then sinceL D j ++ [b] else sinceL D j := by
  have e : sec (D.put i b) j = if i = j then writeSec b (sec D j) else sec D j := by
    simp only [sec, Dsk.put, List.getElem?_modify]
    by_cases h : i = j
    · subst h; simp [hi]
    · simp [h]
  rw [sinceL, e]
  split <;> rfl
theorem settle_since {D : Dsk} {m : Nat} (hok : D.Ok m) {j : Nat} (hj : j < D.secs.length) : sinceL (D.settle fun _ => true) j = [D.now j] := by
  have hj' : j < (D.settle fun _ => true).secs.length := by rw [settle_len]; exact hj
  have hs := sec_some hj'
  obtain ⟨t, ht, hw⟩ := settleAll_waits _ _ _ _ _ _ hs
  have hw0 : (sec (D.settle fun _ => true) j).waits = [] := by
    rw [hw, List.drop_eq_nil_iff, hok.count j t ht]; exact Nat.le_refl _
  have h1 := now_since hj'
  rw [settle_true_now] at h1
  rw [sinceL, hw0] at h1 ⊢
  simpa using h1
theorem settleAll_mem (lives : Nat → Bool) : ∀ (l : List Nat) (i : Nat) (secs : List Sec) (j : Nat) (s : Sec), (settleAll lives l i secs)[j]? = some s → ∃ t, secs[j]? = some t ∧ s.safe ∈ t.safe :: t.waits ∧ (∀ x ∈ s.waits, x ∈ t.waits) ∧ ((∀ k, lives k = false) → s.safe = t.safe)
  | [], _, secs, j, s, h => ⟨s, h, by simp, fun _ h => h, fun _ => rfl⟩
  | k :: r, i, secs, j, s, h => by
    obtain ⟨t, ht, h1, h2, h3⟩ := settleAll_mem lives r (i + 1) _ j s h
    rw [List.getElem?_modify] at ht
    cases hs : secs[j]? with
    | none => rw [hs] at ht; simp at ht
    | some u =>
      rw [hs] at ht
      refine ⟨u, rfl, ?_⟩
      by_cases hk : k = j
      · subst hk
        simp at ht
        subst ht
        refine ⟨?_, fun x hx => List.mem_of_mem_tail (h2 x hx), fun hf => ?_⟩
        · rcases List.mem_cons.1 h1 with h1 | h1
          · rw [h1]
            simp only [settleSec]
            split
            · cases u.waits with
              | nil => simp
              | cons b r => simp
            · simp
          · exact List.mem_cons_of_mem _ (List.mem_of_mem_tail h1)
        · rw [h3 hf]; simp [settleSec, hf i]
      · simp [hk] at ht
        subst ht
        exact ⟨h1, h2, h3⟩
theorem settleAll_congr {f g : Nat → Bool} : ∀ (l : List Nat) (i : Nat) (secs : List Sec), (∀ k, i ≤ k → k < i + l.length → f k = g k) → settleAll f l i secs = settleAll g l i secs
  | [], _, _, _ => rfl
  | k :: r, i, secs, h => by
    simp only [settleAll, h i (Nat.le_refl _) (by simp)]
    exact settleAll_congr r (i + 1) _ fun k h1 h2 => h k (by omega) (by simp only [List.length_cons]; omega)
theorem crash_now {D : Dsk} {m : Nat} (hok : D.Ok m) (keep : List Bool) {j : Nat} (hj : j < D.secs.length) : (D.crash keep).now j ∈ sinceL D j ∧ (keep = [] → (D.crash keep).now j = (sec D j).safe) := by
  have hj' : j < (D.settle (livesOf keep)).secs.length := by rw [settle_len]; exact hj
  have hs := sec_some hj'
  obtain ⟨t, ht, hw⟩ := settleAll_waits _ _ _ _ _ _ hs
  obtain ⟨t', ht', h1, _, h3⟩ := settleAll_mem _ _ _ _ _ _ hs
  have et := sec_of ht
  rw [ht] at ht'
  cases ht'
  have hw0 : (sec (D.settle (livesOf keep)) j).waits = [] := by
    rw [hw, List.drop_eq_nil_iff, hok.count j t ht]; exact Nat.le_refl _
  have hn : (D.crash keep).now j = (sec (D.settle (livesOf keep)) j).safe := by
    have h1 := now_since hj'
    rw [sinceL, hw0] at h1
    have e : (D.crash keep).now j = (D.settle (livesOf keep)).now j := rfl
    rw [e]
    simpa using h1.symm
  rw [hn]
  subst et
  exact ⟨h1, fun e => h3 fun k => by rw [e]; rfl⟩
theorem crash_all {D : Dsk} (n : Nat) (hn : D.order.length ≤ n) (j : Nat) : (D.crash (List.replicate n true)).now j = D.now j := by
  have e : (D.crash (List.replicate n true)).now j = (D.settle (livesOf (List.replicate n true))).now j := rfl
  rw [e]
  have e2 : D.settle (livesOf (List.replicate n true)) = D.settle fun _ => true := by
    simp only [Dsk.settle, Dsk.mk.injEq, and_self, and_true]
    refine settleAll_congr _ _ _ fun k _ hk => ?_
    have : k < n := by omega
    simp [livesOf, this]
  rw [e2, settle_true_now]
theorem lasts_sync {D : Dsk} (h : D.Calm) {m : Nat} (hok : D.Ok m) (a : PAct) (hk : whichN a.k = 3) {j : Nat} (hj : j < 6) : sinceL (D.act a).1 j = [D.now j] := by
  have e : (D.act a).1 = (D.ran 1).settle fun _ => true := by
    simp only [Dsk.act, hk, h.sync]
    rfl
  rw [e, settle_since (hok.ran 1) (show j < D.secs.length by rw [h.size]; exact hj), Dsk.ran_now]
theorem lasts_read {D : Dsk} (h : D.Calm) (a : PAct) (hk : whichN a.k = 0) (j : Nat) : sinceL (D.act a).1 j = sinceL D j := by
  simp only [Dsk.act, hk, if_true, h.read]
  split <;> rfl
theorem lasts_write {D : Dsk} (h : D.Calm) (a : PAct) (hk : whichN a.k = 1 ∨ whichN a.k = 2) (he : (D.act a).2.2 = 0) : (0 ≤ a.n ∧ a.n < 6) ∧ ∀ j, sinceL (D.act a).1 j = if a.n.toNat = j then sinceL D j ++ [actBytes a.b] else sinceL D j := by
  have h0 : ¬ whichN a.k = 0 := by omega
  simp only [Dsk.act, if_neg h0, if_pos hk, h.write] at he ⊢
  by_cases hi : 0 ≤ a.n ∧ a.n < 6
  · refine ⟨hi, fun j => ?_⟩
    rw [if_pos hi]
    exact put_since (D.ran 1) (show a.n.toNat < D.secs.length by rw [h.size]; omega) _ j
  · rw [if_neg hi] at he
    cases he
theorem lasts_err {D : Dsk} (h : D.Calm) (a : PAct) (hk : whichN a.k < 4) (he : (D.act a).2.2 ≠ 0) (j : Nat) : sinceL (D.act a).1 j = sinceL D j := by
  by_cases h0 : whichN a.k = 0
  · exact lasts_read h a h0 j
  by_cases h1 : whichN a.k = 1 ∨ whichN a.k = 2
  · simp only [Dsk.act, if_neg h0, if_pos h1, h.write] at he ⊢
    by_cases hi : 0 ≤ a.n ∧ a.n < 6
    · rw [if_pos hi] at he; exact absurd rfl he
    · rw [if_neg hi]
  · have h3 : whichN a.k = 3 := by omega
    simp only [Dsk.act, h3, h.sync] at he
    exact absurd rfl he

/-! ### Rows in memory -/
structure Sn where
  pb : Nat → Nat
  po : Nat → Nat
  pc : Nat → Nat
def cellN (S : Sn) (L : Nat → List (List Int)) (i : Nat) : Value := .slice (some ⟨S.pb i, S.po i, none⟩) (L i).length (S.pc i)
abbrev rowN (f : Nat → Value) : List Value := (List.range 6).map f
theorem one_rowN {f : Nat → Value} (h : ∀ i, (f i).oneCell' = true) : ∀ u ∈ rowN f, u.oneCell' = true := fun u hu => by
  obtain ⟨i, _, rfl⟩ := List.mem_map.1 hu
  exact h i
theorem rowN_get (f : Nat → Value) {i : Nat} (hi : i < 6) : (rowN f)[i]? = some (f i) := by simp [rowN, hi]
theorem rowN_set (f : Nat → Value) {i : Nat} (hi : i < 6) (v : Value) : (rowN f).set i v = rowN fun j => if j = i then v else f j := by
  apply List.ext_getElem?
  intro j
  rw [List.getElem?_set]
  by_cases hj : j < 6
  · rw [rowN_get _ hj, rowN_get _ hj]
    by_cases h : i = j
    · subst h; simp [hi]
    · simp [h, Ne.symm h]
  · rw [List.getElem?_eq_none (by simp; omega), List.getElem?_eq_none (by simp; omega)]
    simp; omega
theorem rowN_len (f : Nat → Value) : (rowN f).length = 6 := by simp
/-- each sector's row, in a block of its own -/
structure SI (w u : World) (F : Nat → Prop) (S : Sn) (L : Nat → List (List Int)) : Prop where
  own : ∀ i, i < 6 → OwnF u (some ⟨S.pb i, S.po i, none⟩) (L i).length (S.pc i) 29 64 (bl (L i)).flatten
  inj : ∀ i j, i < 6 → j < 6 → S.pb i = S.pb j → i = j
  new : ∀ i, i < 6 → w.heap.size ≤ S.pb i
  notF : ∀ i, i < 6 → ¬ F (S.pb i)
  blk : ∀ i, i < 6 → ∀ b ∈ L i, b.length = 64
  some : ∀ i, i < 6 → L i ≠ []
  few : ∀ i, i < 6 → (L i).length < 1000
theorem inB_eq {b off x : Nat} (h : InB (some ⟨b, off, none⟩) x) : x = b := by
  obtain ⟨o, h⟩ := h
  simp at h
  exact h.1.symm
theorem SI.ext {w u u' : World} {F T : Nat → Prop} {S : Sn} {L : Nat → List (List Int)} (h : SI w u F S L) (hE : Ext T u u') (hT : ∀ i, i < 6 → ¬ T (S.pb i)) : SI w u' F S L :=
  { h with own := fun i hi => (h.own i hi).ext hE fun x hx => by rw [inB_eq hx]; exact hT i hi }
theorem SI.extNo {w u u' : World} {F : Nat → Prop} {S : Sn} {L : Nat → List (List Int)} (h : SI w u F S L) (hE : Ext No u u') : SI w u' F S L := h.ext hE fun _ _ => id
theorem SI.lt {w u : World} {F : Nat → Prop} {S : Sn} {L : Nat → List (List Int)} (h : SI w u F S L) {i : Nat} (hi : i < 6) : S.pb i < u.heap.size := (h.own i hi).lt ⟨_, rfl⟩
theorem SI.ne {w u : World} {F : Nat → Prop} {S : Sn} {L : Nat → List (List Int)} (h : SI w u F S L) {i : Nat} (hi : i < 6) {y U : Nat} {m : List Value} (k : Blk u y U m) (hT : 29 ≠ U) : S.pb i ≠ y := (h.own i hi).ty ⟨_, rfl⟩ k hT
theorem SI.grow {w u2 : World} {F : Nat → Prop} {S : Sn} {L : Nat → List (List Int)} (h : SI w u2 F S L) {u1 : World} (hl : ∀ i, i < 6 → S.pb i < u1.heap.size) : SI w u2 (Grow F u1 u2) S L :=
  { h with notF := fun i hi e => e.elim (h.notF i hi) fun e => by have := hl i hi; omega }
theorem SI.congr {w u : World} {F : Nat → Prop} {S : Sn} {L L' : Nat → List (List Int)} (h : SI w u F S L) (e : ∀ i, i < 6 → L' i = L i) : SI w u F S L' :=
  { own := fun i hi => by rw [e i hi]; exact h.own i hi, inj := h.inj, new := h.new, notF := h.notF, blk := fun i hi => by rw [e i hi]; exact h.blk i hi, some := fun i hi => by rw [e i hi]; exact h.some i hi, few := fun i hi => by rw [e i hi]; exact h.few i hi }
/-- one row has grown -/
theorem SI.app {w u u' : World} {F : Nat → Prop} {S : Sn} {L : Nat → List (List Int)} (h : SI w u F S L) {k : Nat} (hk : k < 6) {b c : Nat} {off : Nat} {x : List Int} (hx : x.length = 64) (hf : (L k).length + 1 < 1000)
    (ho : OwnF u' (Option.some ⟨b, off, none⟩) ((L k).length + 1) c 29 64 ((bl (L k)).flatten ++ bytesL x)) (hE : Ext (InB (Option.some ⟨S.pb k, S.po k, none⟩)) u u') (hB : b = S.pb k ∨ u.heap.size ≤ b) (hw : w.heap.size ≤ u.heap.size) (hF : ∀ y, F y → y < u.heap.size) :
    SI w u' F ⟨fun j => if j = k then b else S.pb j, fun j => if j = k then off else S.po j, fun j => if j = k then c else S.pc j⟩ (fun j => if j = k then L j ++ [x] else L j) := by
  have hlt : ∀ i, i < 6 → S.pb i < u.heap.size := fun i hi => h.lt hi
  refine ⟨fun i hi => ?_, fun i j hi hj e => ?_, fun i hi => ?_, fun i hi => ?_, fun i hi y hy => ?_, fun i hi => ?_, fun i hi => ?_⟩
  · by_cases e : i = k
    · subst e
      have e3 : (bl (L i ++ [x])).flatten = (bl (L i)).flatten ++ bytesL x := by simp [bl]
      simp only [if_true, List.length_append, List.length_singleton]
      rw [e3]; exact ho
    · simp only [if_neg e]
      exact (h.own i hi).ext hE fun y hy hz => by rw [inB_eq hy] at hz; exact e (h.inj i k hi hk (inB_eq hz))
  · by_cases e1 : i = k <;> by_cases e2 : j = k
    · omega
    · simp only [e1, if_true, if_neg e2] at e
      rcases hB with hB | hB
      · rw [hB] at e; have := h.inj k j hk hj e; omega
      · have := hlt j hj; omega
    · simp only [e2, if_true, if_neg e1] at e
      rcases hB with hB | hB
      · rw [hB] at e; exact e2 ▸ h.inj i k hi hk e
      · have := hlt i hi; omega
    · simp only [if_neg e1, if_neg e2] at e
      exact h.inj i j hi hj e
  · by_cases e : i = k
    · simp only [e, if_true]
      rcases hB with hB | hB
      · rw [hB]; exact h.new k hk
      · omega
    · simp only [if_neg e]; exact h.new i hi
  · by_cases e : i = k
    · simp only [e, if_true]
      rcases hB with hB | hB
      · rw [hB]; exact h.notF k hk
      · intro e; have := hF _ e; omega
    · simp only [if_neg e]; exact h.notF i hi
  · by_cases e : i = k
    · simp only [e, if_true, List.mem_append, List.mem_singleton] at hy
      rcases hy with hy | rfl
      · exact h.blk k hk y hy
      · exact hx
    · simp only [if_neg e] at hy; exact h.blk i hi y hy
  · by_cases e : i = k
    · simp [e]
    · simp only [if_neg e]; exact h.some i hi
  · by_cases e : i = k
    · simp only [e, if_true, List.length_append, List.length_singleton]; exact hf
    · simp only [if_neg e]; exact h.few i hi
/-- every row has become its last -/
theorem SI.last {w u : World} {F : Nat → Prop} {S : Sn} {L L' : Nat → List (List Int)} (h : SI w u F S L) (hl : ∀ i, i < 6 → ∃ x, (L i).getLast? = Option.some x ∧ L' i = [x]) :
    SI w u F ⟨S.pb, fun j => S.po j + ((L j).length - 1) * 64, fun j => S.pc j - ((L j).length - 1)⟩ L' := by
  refine ⟨fun i hi => ?_, h.inj, h.new, h.notF, fun i hi b hb => ?_, fun i hi => ?_, fun i hi => ?_⟩
  · obtain ⟨x, hx, hL⟩ := hl i hi
    have hn : 0 < (L i).length := List.length_pos_iff.2 (h.some i hi)
    have ho := h.own i hi
    have hcap : (L i).length ≤ S.pc i := by obtain ⟨_, _, _, _, _, _, h, _⟩ := ho; exact h
    have ht := ho.tail (k := (L i).length - 1) (by omega) (by omega)
    rw [slBase_eq (by omega)] at ht
    have hu : Uni 64 (bl (L i)) := Uni.map fun y hy => bytesL_len (h.blk i hi y hy)
    have e1 : ((bl (L i)).flatten).drop (((L i).length - 1) * 64) = (bl (L' i)).flatten := by
      rw [rows_drop hu, hL]
      congr 1
      obtain ⟨ys, hy⟩ := List.getLast?_eq_some_iff.1 hx
      rw [hy]
      simp [bl]
    rw [e1] at ht
    have e2 : (L i).length - ((L i).length - 1) = (L' i).length := by rw [hL]; simp; omega
    rw [e2] at ht
    exact ht
  · obtain ⟨x, hx, hL⟩ := hl i hi
    rw [hL] at hb
    simp at hb
    subst hb
    exact h.blk i hi _ (List.mem_of_getLast? hx)
  · obtain ⟨x, hx, hL⟩ := hl i hi
    rw [hL]; simp
  · obtain ⟨x, hx, hL⟩ := hl i hi
    rw [hL]; simp
end Go.Proofs.Ytoldbdocgimpnaa
