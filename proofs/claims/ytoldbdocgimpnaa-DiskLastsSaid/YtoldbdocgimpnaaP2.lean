/- each act keeps the disk and the document's disk together -/
import Derived.Test.YtoldbdocgimpnaaP1
namespace Go.Proofs.Ytoldbdocgimpnaa
open Go.Vc

theorem begin_goes {D : Dsk} {x : RDsk} {s u : Wr} (h : Goes D x s u) (h1 : -1 ≤ D.fuse) (h2 : -1 ≤ D.fault) (i : Int) (b : Bool) : (x.begin i b).2 = (D.begin i b).2 ∧ Goes (D.begin i b).1 (x.begin i b).1 s u := by
  obtain ⟨n, wr, dead, fuse, fault, done⟩ := x
  obtain ⟨secs, order, dead', fuse', fault', done'⟩ := D
  obtain ⟨g1, g2, g3, g4, g5, g6, g7, g8, g9⟩ := h
  simp only at g1 g2 g3 g4 g5 g6 g7 g8 g9 h1 h2
  subst g1; subst g6; subst g7; subst g8; subst g9
  unfold RDsk.begin Dsk.begin
  simp only
  by_cases c1 : dead = true
  · rw [if_pos c1, if_pos c1]; exact ⟨rfl, rfl, g2, g3, g4, g5, rfl, rfl, rfl, rfl⟩
  rw [if_neg c1, if_neg c1]
  by_cases c2 : i < 0 ∨ (secs.length : Int) ≤ i
  · rw [if_pos c2, if_pos (show ¬ (0 ≤ i ∧ i < (secs.length : Int)) by omega)]; exact ⟨rfl, rfl, g2, g3, g4, g5, rfl, rfl, rfl, rfl⟩
  rw [if_neg c2, if_neg (show ¬ ¬ (0 ≤ i ∧ i < (secs.length : Int)) by omega)]
  by_cases c3 : fault = 0
  · rw [if_pos c3, if_pos c3]; exact ⟨rfl, rfl, g2, g3, g4, g5, rfl, rfl, rfl, rfl⟩
  rw [if_neg c3, if_neg c3]
  have e1 : (if 0 < fault then ({ n := (secs.length : Int), wr := wr, dead := dead, fuse := fuse, fault := fault - 1, done := done } : RDsk) else { n := (secs.length : Int), wr := wr, dead := dead, fuse := fuse, fault := fault, done := done }) = { n := (secs.length : Int), wr := wr, dead := dead, fuse := fuse, fault := faultTo fault, done := done } := by
    unfold faultTo
    by_cases c : 0 < fault
    · rw [if_pos c, if_neg (by omega)]
    · rw [if_neg c, if_pos (by omega)]; congr 1; omega
  rw [e1]
  simp only
  by_cases c4 : b = true ∧ fuse = 0
  · rw [if_pos c4, if_pos c4]; exact ⟨rfl, rfl, g2, g3, g4, g5, rfl, rfl, rfl, rfl⟩
  rw [if_neg c4, if_neg c4]
  have e2 : (if b = true ∧ 0 < fuse then ({ n := (secs.length : Int), wr := wr, dead := dead, fuse := fuse - 1, fault := faultTo fault, done := done } : RDsk) else { n := (secs.length : Int), wr := wr, dead := dead, fuse := fuse, fault := faultTo fault, done := done }) = { n := (secs.length : Int), wr := wr, dead := dead, fuse := fuseTo b fuse, fault := faultTo fault, done := done } := by
    unfold fuseTo
    by_cases c : b = true ∧ 0 < fuse
    · rw [if_pos c, if_pos ⟨c.1, by omega⟩]
    · rw [if_neg c]
      by_cases cb : b = true
      · have : ¬ fuse = 0 := fun e => c4 ⟨cb, e⟩
        have : ¬ 0 < fuse := fun e => c ⟨cb, e⟩
        rw [if_neg (by rintro ⟨_, hh⟩; omega)]
      · rw [if_neg (by rintro ⟨hh, _⟩; exact cb hh)]
  rw [e2]
  exact ⟨rfl, rfl, g2, g3, g4, g5, rfl, rfl, rfl, rfl⟩

theorem foldl_last (i : Nat) : ∀ (u : Wr) (z : List Int), u.foldl (fun b e => if e.1 = i then e.2 else b) z = (waitsOf u i).getLast?.getD z
  | [], z => rfl
  | e :: u, z => by
    rw [List.foldl_cons, foldl_last i u]
    by_cases h : e.1 = i
    · simp only [h, if_true, waitsOf, List.filter_cons, beq_self_eq_true, List.map_cons, List.getLast?_cons]
      simp
    · simp [h, waitsOf]
theorem now_goes {D : Dsk} {x : RDsk} {s u : Wr} (h : Goes D x s u) {i : Nat} (hi : i < D.secs.length) : x.holds i = D.now i := by
  have hs : D.secs[i]? = some ⟨lastOf s i, waitsOf u i⟩ := by rw [h.secs, secsOf_get hi]
  have e : ∀ (b : Bool) (l : Wr) (z : List Int), (ents b l).foldl (fun b e => if e.sec = (i : Int) then e.blk else b) z = l.foldl (fun b e => if e.1 = i then e.2 else b) z := by
    intro b l
    induction l with
    | nil => intro z; rfl
    | cons a l ih => intro z; simp only [ents, List.map_cons, List.foldl_cons, Int.natCast_inj] at *; exact ih _
  simp only [RDsk.holds, h.wr, List.foldl_append, e, Dsk.now, hs, Option.map_some, Option.getD_some, Sec.now, ← foldl_last]
  rfl

theorem act_goes {D : Dsk} {x : RDsk} {s u : Wr} {m : Nat} (h : Goes D x s u) (hok : D.Ok m) (a : PAct) : ∃ s' u', Goes (D.act a).1 (x.should a).1 s' u' ∧ (x.should a).2 = (D.act a).2 := by
  have hb := begin_goes h hok.fuse.1 hok.fault.1
  have hsz := hok.size
  have hw := whichN_lt a.k
  unfold Dsk.act RDsk.should
  by_cases c0 : whichN a.k = 0
  · rw [if_pos c0, if_pos c0]
    obtain ⟨e1, e2⟩ := hb a.n false
    refine ⟨s, u, e2, ?_⟩
    simp only [RDsk.read, Dsk.read, e1]
    by_cases c : (D.begin a.n false).2 = 0
    · have hi := Dsk.begin0 _ _ c
      have hl := (D.begin_secs a.n false).1
      rw [if_pos c, if_pos c]
      have e3 := now_goes e2 (i := a.n.toNat) (by rw [hl]; omega)
      rw [show ((a.n.toNat : Nat) : Int) = a.n from by omega] at e3
      rw [e3]
    · rw [if_neg c, if_neg c]
  rw [if_neg c0, if_neg c0]
  by_cases c1 : whichN a.k = 1 ∨ whichN a.k = 2
  · rw [if_pos c1, if_pos c1]
    obtain ⟨e1, e2⟩ := hb a.n true
    simp only [RDsk.write, Dsk.write, e1]
    by_cases c : (D.begin a.n true).2 = 0
    · have hi := Dsk.begin0 _ _ c
      have hl := (D.begin_secs a.n true).1
      rw [if_pos c, if_pos c]
      have e0 : ((a.n.toNat : Nat) : Int) = a.n := by omega
      have hin : a.n.toNat < (D.begin a.n true).1.secs.length := by rw [hl]; omega
      generalize hD' : (D.begin a.n true).1 = D' at e2 hin
      generalize (x.begin a.n true).1 = x' at e2
      have e3 : (D'.put a.n.toNat (actBytes a.b)).secs.length = D'.secs.length := by simp [Dsk.put]
      refine ⟨s, u ++ [(a.n.toNat, actBytes a.b)], ⟨by rw [e3]; exact e2.n, ?_, ?_, ?_, ?_, e2.dead, e2.fuse, e2.fault, e2.done⟩, trivial⟩
      · rw [e3]
        simp only [Dsk.put]
        rw [e2.secs, ← put_goes]
        simp [secsOf]
      · simp [Dsk.put, e2.order]
      · simp [e2.wr, ents, e0]
      · intro e he
        rw [e3]
        rw [← List.append_assoc, List.mem_append] at he
        rcases he with he | he
        · exact e2.inside e he
        · simp at he; subst he; exact hin
    · rw [if_neg c, if_neg c]
      exact ⟨s, u, e2, trivial⟩
  rw [if_neg c1, if_neg c1]
  have settled : ∀ {D' : Dsk} {x' : RDsk} (h' : Goes D' x' s u) (all : Bool) (keep : List Bool) (lives : Nat → Bool) (hl : ∀ k, lives k = true ↔ all = true ∨ livesOf keep k = true),
      Goes (D'.settle lives) { x' with wr := liveL all keep x'.wr 0 } (s ++ keptOf lives u 0) [] := by
    intro D' x' h' all keep lives hl
    have e3 : (D'.settle lives).secs.length = D'.secs.length := by simp [Dsk.settle, settleAll_length]
    refine ⟨by rw [e3]; exact h'.n, ?_, rfl, ?_, ?_, h'.dead, h'.fuse, h'.fault, h'.done⟩
    · rw [e3]
      simp only [Dsk.settle]
      rw [h'.order]
      have := settleAll_goes lives D'.secs.length u s 0
      rw [← h'.secs] at this
      exact this
    · simp only
      rw [h'.wr, liveL_goes all keep lives hl]
      simp [ents]
    · intro e he
      rw [e3]
      rw [List.append_nil, List.mem_append] at he
      rcases he with he | he
      · exact h'.inside e (List.mem_append_left _ he)
      · exact h'.inside e (List.mem_append_right _ (keptOf_mem _ _ _ _ he))
  by_cases c3 : whichN a.k = 3
  · rw [if_pos c3, if_pos c3]
    obtain ⟨e1, e2⟩ := hb 0 true
    simp only [RDsk.sync, Dsk.sync, e1]
    by_cases c : (D.begin 0 true).2 = 0
    · rw [if_pos c, if_pos c]
      exact ⟨_, _, settled e2 true [] (fun _ => true) (fun k => by simp), trivial⟩
    · rw [if_neg c, if_neg c]
      exact ⟨s, u, e2, trivial⟩
  rw [if_neg c3, if_neg c3]
  have hset : ∀ n, rset n = setTo n := fun n => by unfold rset setTo; split <;> split <;> omega
  by_cases c6 : whichN a.k = 6
  · rw [if_pos c6, if_neg (by omega), if_neg (by omega)]
    have h' := settled h false (a.keep.take 200) (livesOf (a.keep.take 200)) (fun k => by simp)
    exact ⟨_, _, ⟨h'.n, h'.secs, h'.order, h'.wr, h'.inside, rfl, rfl, rfl, h'.done⟩, rfl⟩
  rw [if_neg c6]
  by_cases cd : D.dead = true
  · rw [if_pos (show x.dead = true by rw [h.dead]; exact cd)]
    by_cases c4 : whichN a.k = 4
    · rw [if_pos c4]; simp only [Dsk.arm, cd, if_true]; exact ⟨s, u, h, trivial⟩
    · rw [if_neg c4, if_pos (by omega)]; simp only [Dsk.fail, cd, if_true]; exact ⟨s, u, h, trivial⟩
  · rw [if_neg (show ¬ x.dead = true by rw [h.dead]; exact cd)]
    by_cases c4 : whichN a.k = 4
    · rw [if_pos c4, if_pos c4]; simp only [Dsk.arm, if_neg cd]; exact ⟨s, u, ⟨h.n, h.secs, h.order, h.wr, h.inside, h.dead, hset _, h.fault, h.done⟩, trivial⟩
    · rw [if_neg c4, if_neg c4, if_pos (by omega)]; simp only [Dsk.fail, if_neg cd]; exact ⟨s, u, ⟨h.n, h.secs, h.order, h.wr, h.inside, h.dead, h.fuse, hset _, h.done⟩, trivial⟩

theorem waiting_goes {D : Dsk} {x : RDsk} {s u : Wr} (h : Goes D x s u) : x.waiting = D.order.map fun k : Nat => (k : Int) := by
  have e : ∀ l : Wr, (ents true l).filter (fun e => !e.safe) = [] := fun l => by
    rw [List.filter_eq_nil_iff]
    intro a ha
    obtain ⟨b, _, rfl⟩ := List.mem_map.1 ha
    simp
  have e' : ∀ l : Wr, (ents false l).filter (fun e => !e.safe) = ents false l := fun l => by
    rw [List.filter_eq_self]
    intro a ha
    obtain ⟨b, _, rfl⟩ := List.mem_map.1 ha
    rfl
  rw [RDsk.waiting, h.wr, List.filter_append, e, e', List.nil_append, h.order]
  simp only [ents, List.map_map]
  rfl
theorem fresh_goes (n : Nat) : Goes (Dsk.fresh n) (RDsk.fresh n) [] [] := by
  refine ⟨by simp [RDsk.fresh, Dsk.fresh], ?_, rfl, rfl, fun e he => (by cases he), rfl, rfl, rfl, rfl⟩
  simp only [Dsk.fresh, List.length_replicate, secsOf]
  apply List.ext_getElem <;> simp [lastOf, waitsOf]
end Go.Proofs.Ytoldbdocgimpnaa
