/- the law of the latest write: plain facts -/
import Derived.Test.YtoldbdocgimpnaaL4
namespace Go.Proofs.Ytoldbdocgimpnaa
open Go.Vc

theorem settleSec_true_now (s : Sec) : (settleSec true s).now = s.now := by
  obtain ⟨sf, ws⟩ := s
  cases ws with
  | nil => rfl
  | cons x xs =>
    simp only [settleSec, Sec.now, if_true, List.headD_cons, List.tail_cons]
    cases xs with
    | nil => rfl
    | cons y ys => rw [List.getLast?_cons_cons]; simp [List.getLast?_cons]
theorem settleAll_true_now : ∀ (l : List Nat) (i : Nat) (secs : List Sec) (j : Nat), ((settleAll (fun _ => true) l i secs)[j]?).map Sec.now = (secs[j]?).map Sec.now
  | [], _, _, _ => rfl
  | k :: r, i, secs, j => by
    rw [settleAll, settleAll_true_now r (i + 1), List.getElem?_modify]
    cases secs[j]? with
    | none => rfl
    | some s =>
      by_cases h : k = j
      · simp [h, settleSec_true_now]
      · simp [h]
theorem settle_true_now (D : Dsk) (j : Nat) : (D.settle fun _ => true).now j = D.now j := by
  simp only [Dsk.now, Dsk.settle, settleAll_true_now]
theorem put_now (D : Dsk) {i : Nat} (hi : i < D.secs.length) (b : List Int) (j : Nat) : (D.put i b).now j = if i = j then b else D.now j := by
  simp only [Dsk.now, Dsk.put, List.getElem?_modify]
  by_cases h : i = j
  · subst h
    simp [hi, writeSec, Sec.now]
  · simp [h]
theorem put_all {D : Dsk} {i : Nat} (hi : i < 6) (h6 : D.secs.length = 6) (b : List Int) : (D.put i b).all = D.all.set i b := by
  apply List.ext_getElem
  · simp [Dsk.all]
  · intro j h1 h2
    simp only [Dsk.all, List.length_map, List.length_range] at h1
    rw [List.getElem_set]
    simp only [Dsk.all, List.getElem_map, List.getElem_range, put_now D (by omega : i < D.secs.length)]
theorem settle_all (D : Dsk) : (D.settle fun _ => true).all = D.all := by
  simp only [Dsk.all]
  apply List.map_congr_left
  intro j _
  exact settle_true_now D j
theorem ran_all (D : Dsk) (k : Nat) : (D.ran k).all = D.all := rfl

/-- quiet, and without a fuse -/
structure Dsk.Calm (D : Dsk) : Prop extends D.Quiet where
  fuse : D.fuse = -1
theorem Dsk.Calm.ran {D : Dsk} (h : D.Calm) (k : Nat) : (D.ran k).Calm := ⟨h.toQuiet.ran k, h.fuse⟩
theorem Dsk.Calm.put {D : Dsk} (h : D.Calm) (i : Nat) (b : List Int) : (D.put i b).Calm := ⟨⟨h.dead, h.fault, by simpa [Dsk.put] using h.size⟩, h.fuse⟩
theorem Dsk.Calm.settle {D : Dsk} (h : D.Calm) (lives : Nat → Bool) : (D.settle lives).Calm := ⟨⟨h.dead, h.fault, by simpa [Dsk.settle, settleAll_length] using h.size⟩, h.fuse⟩
theorem Dsk.Calm.begin {D : Dsk} (h : D.Calm) (i : Int) (b : Bool) : D.begin i b = if 0 ≤ i ∧ i < 6 then (D.ran 1, 0) else (D, 2) := by
  simp only [Dsk.begin, h.dead, h.fault, h.fuse, h.size]
  rw [if_neg (by decide)]
  by_cases hi : 0 ≤ i ∧ i < 6
  · rw [if_neg (by simpa using hi), if_neg (by decide), if_neg (by simp), if_pos hi]
    simp [faultTo, fuseTo, Dsk.ran, h.dead, h.fuse, h.fault]
  · rw [if_pos (by simpa using hi), if_neg hi]
theorem Dsk.Calm.write {D : Dsk} (h : D.Calm) (i : Int) (b : List Int) : D.write i b = if 0 ≤ i ∧ i < 6 then ((D.ran 1).put i.toNat b, 0) else (D, 2) := by
  rw [Dsk.write, h.begin]
  split <;> simp
theorem Dsk.Calm.sync {D : Dsk} (h : D.Calm) : D.sync = ((D.ran 1).settle fun _ => true, 0) := by
  have e : D.begin 0 true = (D.ran 1, 0) := by rw [h.begin]; rfl
  simp [Dsk.sync, e]
theorem Dsk.Calm.read {D : Dsk} (h : D.Calm) (i : Int) : D.read i = if 0 ≤ i ∧ i < 6 then (D.ran 1, D.now i.toNat, 0) else (D, zeros, 2) := by
  rw [Dsk.read, h.begin]
  split <;> simp [Dsk.ran_now]

/-- what a calm disk is after an act that is no more than a read, a write, a sync -/
theorem Dsk.Calm.act {D : Dsk} (h : D.Calm) (a : PAct) (hk : whichN a.k < 4) : (D.act a).1.Calm ∧
    (whichN a.k = 3 → (D.act a).1.order = [] ∧ (D.act a).1.all = D.all) ∧
    (whichN a.k = 0 → (D.act a).1.order = D.order ∧ (D.act a).1.all = D.all) ∧
    (whichN a.k = 1 ∨ whichN a.k = 2 → 0 ≤ a.n ∧ a.n < 6 → (D.act a).1.order.length = D.order.length + 1 ∧ (D.act a).1.all = D.all.set a.n.toNat (actBytes a.b)) ∧
    (whichN a.k = 1 ∨ whichN a.k = 2 → ¬ (0 ≤ a.n ∧ a.n < 6) → (D.act a).1 = D) := by
  unfold Dsk.act
  by_cases h0 : whichN a.k = 0
  · rw [if_pos h0, h.read]
    refine ⟨?_, fun e => by omega, fun _ => ?_, fun e => by omega, fun e => by omega⟩
    · split
      · exact h.ran 1
      · exact h
    · split
      · exact ⟨rfl, rfl⟩
      · exact ⟨rfl, rfl⟩
  rw [if_neg h0]
  by_cases h1 : whichN a.k = 1 ∨ whichN a.k = 2
  · rw [if_pos h1, h.write]
    refine ⟨?_, fun e => by omega, fun e => by omega, fun _ hn => ?_, fun _ hn => ?_⟩
    · split
      · exact (h.ran 1).put _ _
      · exact h
    · rw [if_pos hn]
      refine ⟨by simp [Dsk.put, Dsk.ran], ?_⟩
      have := put_all (D := D.ran 1) (i := a.n.toNat) (by omega) h.size (actBytes a.b)
      rw [ran_all] at this
      exact this
    · rw [if_neg hn]
  rw [if_neg h1, if_pos (by omega : whichN a.k = 3), h.sync]
  refine ⟨(h.ran 1).settle _, fun _ => ⟨rfl, ?_⟩, fun e => by omega, fun e => absurd e h1, fun e => absurd e h1⟩
  rw [settle_all, ran_all]
end Go.Proofs.Ytoldbdocgimpnaa
