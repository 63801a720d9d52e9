/-
  The disk as plain data: what each of its functions computes.
-/
import Derived.Test.YtoldbdocgimpnaaVcR
namespace Go.Proofs.Ytoldbdocgimpnaa

structure Sec where
  safe : List Int
  waits : List (List Int)

structure Dsk where
  secs : List Sec
  order : List Nat
  dead : Bool
  fuse : Int
  fault : Int
  done : Int

def zeros : List Int := List.replicate 64 0
def Sec.now (s : Sec) : List Int := s.waits.getLast?.getD s.safe
def Dsk.fresh (n : Nat) : Dsk := ⟨List.replicate n ⟨zeros, []⟩, [], false, -1, -1, 0⟩
def Dsk.now (D : Dsk) (i : Nat) : List Int := ((D.secs[i]?).map Sec.now).getD zeros

/-- what an operation does to a disk's numbers before anything else -/
def fuseTo (burns : Bool) (fu : Int) : Int := if burns = true ∧ fu ≠ -1 then fu - 1 else fu
def faultTo (fa : Int) : Int := if fa = -1 then -1 else fa - 1

/-- an operation of a sector: the disk behind what is asked of every one, and the error -/
def Dsk.begin (D : Dsk) (i : Int) (burns : Bool) : Dsk × Int :=
  if D.dead = true then (D, 9)
  else if ¬ (0 ≤ i ∧ i < D.secs.length) then (D, 2)
  else if D.fault = 0 then ({ D with fault := -1 }, 8)
  else if burns = true ∧ D.fuse = 0 then ({ D with fault := faultTo D.fault, fuse := -1, dead := true }, 9)
  else ({ D with fault := faultTo D.fault, fuse := fuseTo burns D.fuse, done := D.done + 1 }, 0)

def writeSec (b : List Int) (s : Sec) : Sec := ⟨s.safe, s.waits ++ [b]⟩
def Dsk.put (D : Dsk) (i : Nat) (b : List Int) : Dsk := { D with secs := D.secs.modify i (writeSec b), order := D.order ++ [i] }
def settleSec (b : Bool) (s : Sec) : Sec := ⟨if b then s.waits.headD s.safe else s.safe, s.waits.tail⟩
def settleAll (lives : Nat → Bool) : List Nat → Nat → List Sec → List Sec
  | [], _, secs => secs
  | k :: r, i, secs => settleAll lives r (i + 1) (secs.modify k (settleSec (lives i)))
def Dsk.settle (D : Dsk) (lives : Nat → Bool) : Dsk := { D with secs := settleAll lives D.order 0 D.secs, order := [] }

def Dsk.read (D : Dsk) (i : Int) : Dsk × List Int × Int :=
  let x := D.begin i false
  (x.1, if x.2 = 0 then x.1.now i.toNat else zeros, x.2)
def Dsk.write (D : Dsk) (i : Int) (b : List Int) : Dsk × Int :=
  let x := D.begin i true
  (if x.2 = 0 then x.1.put i.toNat b else x.1, x.2)
def Dsk.sync (D : Dsk) : Dsk × Int :=
  let x := D.begin 0 true
  (if x.2 = 0 then x.1.settle fun _ => true else x.1, x.2)
def setTo (n : Int) : Int := if n < -1 then -1 else n
def Dsk.arm (D : Dsk) (n : Int) : Dsk × Int := if D.dead = true then (D, 9) else ({ D with fuse := setTo n }, 0)
def Dsk.fail (D : Dsk) (n : Int) : Dsk × Int := if D.dead = true then (D, 9) else ({ D with fault := setTo n }, 0)
def livesOf (keep : List Bool) (i : Nat) : Bool := (keep[i]?).getD false
def Dsk.crash (D : Dsk) (keep : List Bool) : Dsk := { D.settle (livesOf keep) with dead := false, fuse := -1, fault := -1 }

/-- what holds of every disk that comes up -/
structure Dsk.Ok (D : Dsk) (m : Nat) : Prop where
  size : 1 ≤ D.secs.length ∧ D.secs.length ≤ 2048
  safe : ∀ s ∈ D.secs, s.safe.length = 64 ∧ ∀ b ∈ s.waits, b.length = 64
  inside : ∀ k ∈ D.order, k < D.secs.length
  count : ∀ i s, D.secs[i]? = some s → s.waits.length = D.order.count i
  few : D.order.length ≤ m
  fuse : -1 ≤ D.fuse ∧ D.fuse < 9223372036854775808
  fault : -1 ≤ D.fault ∧ D.fault < 9223372036854775808
  done : 0 ≤ D.done ∧ D.done ≤ m

theorem setTo_ge (n : Int) (h : n < 9223372036854775808) : -1 ≤ setTo n ∧ setTo n < 9223372036854775808 := by unfold setTo; split <;> omega
theorem fuseTo_ge (b : Bool) (n : Int) (h : -1 ≤ n ∧ n < 9223372036854775808) : -1 ≤ fuseTo b n ∧ fuseTo b n < 9223372036854775808 := by unfold fuseTo; split <;> omega
theorem faultTo_ge (n : Int) (h : -1 ≤ n ∧ n < 9223372036854775808) : -1 ≤ faultTo n ∧ faultTo n < 9223372036854775808 := by unfold faultTo; split <;> omega

theorem Dsk.Ok.mono {D : Dsk} {m m' : Nat} (h : D.Ok m) (hm : m ≤ m') : D.Ok m' :=
  ⟨h.size, h.safe, h.inside, h.count, Nat.le_trans h.few hm, h.fuse, h.fault, by have := h.done; omega⟩

theorem Dsk.begin_secs (D : Dsk) (i : Int) (b : Bool) : (D.begin i b).1.secs = D.secs ∧ (D.begin i b).1.order = D.order := by
  unfold Dsk.begin
  repeat' split
  all_goals exact ⟨rfl, rfl⟩

theorem Dsk.Ok.begin {D : Dsk} {m : Nat} (h : D.Ok m) (i : Int) (b : Bool) : (D.begin i b).1.Ok (m + 1) := by
  have h1 := fuseTo_ge b _ h.fuse
  have h2 := faultTo_ge _ h.fault
  have h3 := h.done
  have h4 := h.fuse
  have h5 := h.fault
  have h6 := h.few
  unfold Dsk.begin
  repeat' split
  all_goals exact ⟨h.size, h.safe, h.inside, h.count, by simp only; omega, by simp only; omega, by simp only; omega, by simp only; omega⟩

theorem Dsk.begin0 {D : Dsk} (i : Int) (b : Bool) (h0 : (D.begin i b).2 = 0) : 0 ≤ i ∧ i < D.secs.length := by
  unfold Dsk.begin at h0
  repeat' split at h0
  all_goals first | (simp at h0; done) | (rename_i hh _ _; exact Decidable.not_not.1 hh)

theorem modify_length {α : Type} (l : List α) (i : Nat) (f : α → α) : (l.modify i f).length = l.length := by simp

theorem Dsk.Ok.put {D : Dsk} {m : Nat} (h : D.Ok m) {i : Nat} (hi : i < D.secs.length) {b : List Int} (hb : b.length = 64) : (D.put i b).Ok (m + 1) := by
  refine ⟨by simpa [Dsk.put] using h.size, ?_, ?_, ?_, ?_, h.fuse, h.fault, by have := h.done; simp only [Dsk.put]; omega⟩
  · intro s hs
    simp only [Dsk.put] at hs
    obtain ⟨j, hj, rfl⟩ := List.mem_iff_getElem.1 hs
    rw [List.getElem_modify]
    simp only [List.length_modify] at hj
    have := h.safe D.secs[j] (List.getElem_mem hj)
    split
    · refine ⟨this.1, fun c hc => ?_⟩
      simp only [writeSec, List.mem_append, List.mem_singleton] at hc
      rcases hc with hc | rfl
      · exact this.2 c hc
      · exact hb
    · exact this
  · intro k hk
    simp only [Dsk.put, List.mem_append, List.mem_singleton, List.length_modify] at *
    rcases hk with hk | rfl
    · exact h.inside k hk
    · exact hi
  · intro j s hs
    simp only [Dsk.put] at *
    rw [List.getElem?_modify] at hs
    rw [List.count_append, List.count_singleton]
    cases hsj : D.secs[j]? with
    | none => rw [hsj] at hs; simp at hs
    | some t =>
      rw [hsj] at hs
      have := h.count j t hsj
      by_cases hij : i = j
      · subst hij
        simp at hs
        subst hs
        simp [writeSec, this]
      · simp [hij] at hs
        subst hs
        have : (i == j) = false := by simpa using hij
        simp [*]
  · have := h.few
    simp only [Dsk.put, List.length_append, List.length_singleton]
    omega

theorem settleAll_length (lives : Nat → Bool) : ∀ (l : List Nat) (i : Nat) (secs : List Sec), (settleAll lives l i secs).length = secs.length
  | [], _, _ => rfl
  | k :: r, i, secs => by rw [settleAll, settleAll_length lives r]; simp
theorem settleAll_snoc (lives : Nat → Bool) : ∀ (l : List Nat) (k i : Nat) (secs : List Sec), settleAll lives (l ++ [k]) i secs = (settleAll lives l i secs).modify k (settleSec (lives (i + l.length)))
  | [], k, i, secs => rfl
  | x :: r, k, i, secs => by
    simp only [List.cons_append, settleAll, List.length_cons]
    rw [settleAll_snoc lives r k (i + 1)]
    rw [show i + 1 + r.length = i + (r.length + 1) from by omega]
theorem settleAll_good (lives : Nat → Bool) : ∀ (l : List Nat) (i : Nat) (secs : List Sec), (∀ s ∈ secs, s.safe.length = 64 ∧ ∀ b ∈ s.waits, b.length = 64) → ∀ s ∈ settleAll lives l i secs, s.safe.length = 64 ∧ ∀ b ∈ s.waits, b.length = 64
  | [], _, _, h => h
  | k :: r, i, secs, h => by
    refine settleAll_good lives r (i + 1) _ fun s hs => ?_
    obtain ⟨j, hj, rfl⟩ := List.mem_iff_getElem.1 hs
    rw [List.getElem_modify]
    simp only [List.length_modify] at hj
    have := h secs[j] (List.getElem_mem hj)
    split
    · refine ⟨?_, fun b hb => this.2 b (List.mem_of_mem_tail hb)⟩
      simp only [settleSec]
      split
      · cases hw : secs[j].waits with
        | nil => exact this.1
        | cons b r => exact this.2 b (by rw [hw]; simp)
      · exact this.1
    · exact this
theorem settleAll_waits (lives : Nat → Bool) : ∀ (l : List Nat) (i : Nat) (secs : List Sec) (j : Nat) (s : Sec), (settleAll lives l i secs)[j]? = some s → ∃ t, secs[j]? = some t ∧ s.waits = t.waits.drop (l.count j)
  | [], _, secs, j, s, h => ⟨s, h, by simp⟩
  | k :: r, i, secs, j, s, h => by
    obtain ⟨t, ht, hw⟩ := settleAll_waits lives r (i + 1) _ j s h
    rw [List.getElem?_modify] at ht
    cases hs : secs[j]? with
    | none => rw [hs] at ht; simp at ht
    | some u =>
      rw [hs] at ht
      refine ⟨u, rfl, ?_⟩
      by_cases hk : k = j
      · subst hk
        simp at ht
        subst ht
        rw [hw]
        simp only [settleSec, List.count_cons_self]
        rw [List.drop_tail]
      · simp [hk] at ht
        subst ht
        have : (k == j) = false := by simpa using hk
        rw [hw, List.count_cons, this]
        simp

theorem Dsk.Ok.settle {D : Dsk} {m : Nat} (h : D.Ok m) (lives : Nat → Bool) : (D.settle lives).Ok m := by
  refine ⟨by simpa [Dsk.settle, settleAll_length] using h.size, settleAll_good lives _ _ _ h.safe, ?_, ?_, by simp [Dsk.settle], h.fuse, h.fault, h.done⟩
  · intro k hk; simp [Dsk.settle] at hk
  · intro i s hs
    obtain ⟨t, ht, hw⟩ := settleAll_waits lives _ _ _ i s hs
    rw [hw, List.length_drop, h.count i t ht]
    simp [Dsk.settle]
theorem Dsk.Ok.crash {D : Dsk} {m : Nat} (h : D.Ok m) (keep : List Bool) : (D.crash keep).Ok m := by
  have := h.settle (livesOf keep)
  exact ⟨this.size, this.safe, this.inside, this.count, this.few, by simp [Dsk.crash], by simp [Dsk.crash], this.done⟩
theorem zeros_length : zeros.length = 64 := by simp [zeros]
theorem Dsk.Ok.fresh {n : Nat} (h : 1 ≤ n ∧ n ≤ 2048) : (Dsk.fresh n).Ok 0 := by
  refine ⟨by simpa [Dsk.fresh] using h, ?_, ?_, ?_, by simp [Dsk.fresh], by simp [Dsk.fresh], by simp [Dsk.fresh], by simp [Dsk.fresh]⟩
  · intro s hs
    simp only [Dsk.fresh, List.mem_replicate] at hs
    rw [hs.2]
    exact ⟨zeros_length, fun b hb => by cases hb⟩
  · intro k hk; simp [Dsk.fresh] at hk
  · intro i s hs
    simp only [Dsk.fresh, List.getElem?_replicate] at hs
    split at hs
    · cases hs; simp [Dsk.fresh]
    · cases hs
end Go.Proofs.Ytoldbdocgimpnaa
