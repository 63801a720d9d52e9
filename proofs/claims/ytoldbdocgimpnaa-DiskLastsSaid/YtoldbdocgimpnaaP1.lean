/- the document's disk as plain data, and that it goes with the disk -/
import Derived.Test.YtoldbdocgimpnaaL5
namespace Go.Proofs.Ytoldbdocgimpnaa
open Go.Vc

/-- a write that counts -/
structure Ent where
  sec : Int
  blk : List Int
  safe : Bool

/-- the document's disk -/
structure RDsk where
  n : Int
  wr : List Ent
  dead : Bool
  fuse : Int
  fault : Int
  done : Int

def RDsk.holds (x : RDsk) (i : Int) : List Int := x.wr.foldl (fun b e => if e.sec = i then e.blk else b) zeros
def RDsk.waiting (x : RDsk) : List Int := (x.wr.filter fun e => !e.safe).map Ent.sec
def RDsk.begin (x : RDsk) (i : Int) (burns : Bool) : RDsk × Int :=
  if x.dead = true then (x, 9)
  else if i < 0 ∨ x.n ≤ i then (x, 2)
  else if x.fault = 0 then ({ x with fault := -1 }, 8)
  else
    let y := if 0 < x.fault then { x with fault := x.fault - 1 } else x
    if burns = true ∧ y.fuse = 0 then ({ y with fuse := -1, dead := true }, 9)
    else
      let z := if burns = true ∧ 0 < y.fuse then { y with fuse := y.fuse - 1 } else y
      ({ z with done := z.done + 1 }, 0)
def liveL (all : Bool) (keep : List Bool) : List Ent → Nat → List Ent
  | [], _ => []
  | e :: r, k =>
    if e.safe = true then ⟨e.sec, e.blk, true⟩ :: liveL all keep r k
    else if all = true ∨ livesOf keep k = true then ⟨e.sec, e.blk, true⟩ :: liveL all keep r (k + 1)
    else liveL all keep r (k + 1)
def RDsk.read (x : RDsk) (i : Int) : RDsk × List Int × Int := let y := x.begin i false; (y.1, if y.2 = 0 then y.1.holds i else zeros, y.2)
def RDsk.write (x : RDsk) (i : Int) (b : List Int) : RDsk × Int := let y := x.begin i true; (if y.2 = 0 then { y.1 with wr := y.1.wr ++ [⟨i, b, false⟩] } else y.1, y.2)
def RDsk.sync (x : RDsk) : RDsk × Int := let y := x.begin 0 true; (if y.2 = 0 then { y.1 with wr := liveL true [] y.1.wr 0 } else y.1, y.2)
def RDsk.crash (x : RDsk) (keep : List Bool) : RDsk := { x with wr := liveL false keep x.wr 0, dead := false, fuse := -1, fault := -1 }
def rset (n : Int) : Int := if n < 0 then -1 else n
def RDsk.fresh (n : Int) : RDsk := ⟨n, [], false, -1, -1, 0⟩
def RDsk.should (x : RDsk) (a : PAct) : RDsk × List Int × Int :=
  if whichN a.k = 0 then x.read a.n
  else if whichN a.k = 1 ∨ whichN a.k = 2 then ((x.write a.n (actBytes a.b)).1, zeros, (x.write a.n (actBytes a.b)).2)
  else if whichN a.k = 3 then (x.sync.1, zeros, x.sync.2)
  else if whichN a.k = 6 then (x.crash (a.keep.take 200), zeros, 0)
  else if x.dead = true then (x, zeros, 9)
  else if whichN a.k = 4 then ({ x with fuse := rset a.n }, zeros, 0)
  else ({ x with fault := rset a.n }, zeros, 0)

/-! ### The two go together -/
abbrev Wr := List (Nat × List Int)
def lastOf (s : Wr) (i : Nat) : List Int := s.foldl (fun b e => if e.1 = i then e.2 else b) zeros
def waitsOf (u : Wr) (i : Nat) : List (List Int) := (u.filter fun e => e.1 == i).map Prod.snd
def secsOf (n : Nat) (s u : Wr) : List Sec := (List.range n).map fun i => ⟨lastOf s i, waitsOf u i⟩
def ents (safe : Bool) (s : Wr) : List Ent := s.map fun e => ⟨e.1, e.2, safe⟩

structure Goes (D : Dsk) (x : RDsk) (s u : Wr) : Prop where
  n : x.n = D.secs.length
  secs : D.secs = secsOf D.secs.length s u
  order : D.order = u.map Prod.fst
  wr : x.wr = ents true s ++ ents false u
  inside : ∀ e ∈ s ++ u, e.1 < D.secs.length
  dead : x.dead = D.dead
  fuse : x.fuse = D.fuse
  fault : x.fault = D.fault
  done : x.done = D.done

theorem secsOf_get {n : Nat} {s u : Wr} {i : Nat} (hi : i < n) : (secsOf n s u)[i]? = some ⟨lastOf s i, waitsOf u i⟩ := by simp [secsOf, hi]
theorem secsOf_ext {n : Nat} {s u s' u' : Wr} {k : Nat} {f : Sec → Sec} (h : ∀ i, (if k = i then f ⟨lastOf s i, waitsOf u i⟩ else ⟨lastOf s i, waitsOf u i⟩) = ⟨lastOf s' i, waitsOf u' i⟩) : (secsOf n s u).modify k f = secsOf n s' u' := by
  apply List.ext_getElem?
  intro i
  rw [List.getElem?_modify]
  by_cases hi : i < n
  · rw [secsOf_get hi, secsOf_get hi]
    have := h i
    split
    · rename_i hk; rw [if_pos hk] at this; simpa using this
    · rename_i hk; rw [if_neg hk] at this; simpa using this
  · rw [List.getElem?_eq_none (by simp [secsOf]; omega), List.getElem?_eq_none (by simp [secsOf]; omega)]; rfl

theorem put_goes (n : Nat) (s u : Wr) (i : Nat) (b : List Int) : (secsOf n s u).modify i (writeSec b) = secsOf n s (u ++ [(i, b)]) := by
  refine secsOf_ext fun j => ?_
  by_cases h : i = j
  · simp [h, writeSec, waitsOf]
  · simp [h, waitsOf]
theorem settle_goes (n : Nat) (s u : Wr) (k : Nat) (b : List Int) (live : Bool) : (secsOf n s ((k, b) :: u)).modify k (settleSec live) = secsOf n (if live then s ++ [(k, b)] else s) u := by
  refine secsOf_ext fun j => ?_
  by_cases h : k = j
  · subst h
    cases live <;> simp [settleSec, waitsOf, lastOf]
  · cases live <;> simp [h, waitsOf, lastOf]

def keptOf (lives : Nat → Bool) : Wr → Nat → Wr
  | [], _ => []
  | e :: r, k => if lives k = true then e :: keptOf lives r (k + 1) else keptOf lives r (k + 1)
theorem settleAll_goes (lives : Nat → Bool) (n : Nat) : ∀ (u s : Wr) (i : Nat), settleAll lives (u.map Prod.fst) i (secsOf n s u) = secsOf n (s ++ keptOf lives u i) []
  | [], s, i => by simp [settleAll, keptOf]
  | (k, b) :: u, s, i => by
    rw [List.map_cons, settleAll, settle_goes, settleAll_goes lives n u]
    cases h : lives i <;> simp [keptOf, h]
theorem liveL_goes (all : Bool) (keep : List Bool) (lives : Nat → Bool) (hl : ∀ k, lives k = true ↔ all = true ∨ livesOf keep k = true) : ∀ (s u : Wr) (k : Nat), liveL all keep (ents true s ++ ents false u) k = ents true (s ++ keptOf lives u k)
  | e :: s, u, k => by
    have := liveL_goes all keep lives hl s u k
    simp only [ents, List.map_cons, List.cons_append, liveL, if_true] at *
    rw [this]
  | [], [], k => rfl
  | [], e :: u, k => by
    have := liveL_goes all keep lives hl [] u (k + 1)
    simp only [ents, List.map_cons, List.nil_append, List.map_nil, liveL, keptOf, Bool.false_eq_true, if_false] at *
    rw [this]
    by_cases h : lives k = true
    · rw [if_pos ((hl k).1 h), if_pos h]; rfl
    · rw [if_neg (fun h' => h ((hl k).2 h')), if_neg h]
theorem keptOf_mem (lives : Nat → Bool) : ∀ (u : Wr) (k : Nat) (e : Nat × List Int), e ∈ keptOf lives u k → e ∈ u
  | [], _, _, h => h
  | a :: u, k, e, h => by
    simp only [keptOf] at h
    split at h
    · rcases List.mem_cons.1 h with rfl | h
      · simp
      · exact List.mem_cons_of_mem _ (keptOf_mem lives u _ _ h)
    · exact List.mem_cons_of_mem _ (keptOf_mem lives u _ _ h)
end Go.Proofs.Ytoldbdocgimpnaa
