/- a map's parts: the document's and the program's -/
import Derived.Test.YtjghckniloikgaaDoorV7
namespace Go.Proofs.YtjghckniloikgaaDoor
open Go.Vc
/-- texts with one Id are one text -/
def OneText (l : List RowD) : Prop := ∀ x ∈ l, ∀ y ∈ l, idOf (blobO x.text) = idOf (blobO y.text) → x.text = y.text
/-- no text has the tree's Id -/
def TreeNew (l : List RowD) : Prop := ∀ x ∈ l, idOf (blobO x.text) ≠ idOf (treeOf l)
theorem mem_take {α : Type} {l : List α} {i : Nat} (h : i < l.length) {x : α} : x ∈ l.take (i + 1) ↔ x ∈ l.take i ∨ x = l[i] := by
  rw [List.take_succ_eq_append_getElem h, List.mem_append, List.mem_singleton]
theorem refT_mem {l : List RowD} {t : Str} : t ∈ refT l ↔ ∃ r ∈ l, r.text = t := by
  have : ∀ (l : List RowD) (acc : List Str), t ∈ l.foldl addT acc ↔ t ∈ acc ∨ ∃ r ∈ l, r.text = t := by
    intro l
    induction l with
    | nil => intro acc; simp
    | cons r l ih =>
      intro acc
      have h1 : t ∈ addT acc r ↔ t ∈ acc ∨ r.text = t := by
        unfold addT
        split
        · rename_i h
          exact ⟨.inl, fun h' => h'.elim id fun e => e ▸ h⟩
        · rw [List.mem_append, List.mem_singleton]
          exact ⟨fun h => h.imp id Eq.symm, fun h => h.imp id Eq.symm⟩
      rw [List.foldl_cons, ih, h1]
      constructor
      · rintro ((h | h) | ⟨x, hx, h⟩)
        · exact .inl h
        · exact .inr ⟨r, List.mem_cons_self, h⟩
        · exact .inr ⟨x, List.mem_cons_of_mem _ hx, h⟩
      · rintro (h | ⟨x, hx, h⟩)
        · exact .inl (.inl h)
        · rcases List.mem_cons.1 hx with rfl | hx
          · exact .inl (.inr h)
          · exact .inr ⟨x, hx, h⟩
  have h := this l []
  rw [show refT l = l.foldl addT [] from rfl, h]
  exact ⟨fun h => h.elim (fun h => absurd h List.not_mem_nil) id, .inr⟩
theorem refT_nodup (l : List RowD) : (refT l).Nodup := by
  have : ∀ (l : List RowD) (acc : List Str), acc.Nodup → (l.foldl addT acc).Nodup := by
    intro l
    induction l with
    | nil => intro acc h; exact h
    | cons r l ih =>
      intro acc h
      refine ih _ ?_
      unfold addT
      split
      · exact h
      · rename_i hn
        exact List.nodup_append.2 ⟨h, by simp, fun a ha b hb e => hn (by rw [List.mem_singleton.1 hb] at e; exact e ▸ ha)⟩
  exact this l [] List.nodup_nil
theorem textF_some {l : List RowD} {x : List UInt8} {s : Str} (h : textF l x = some s) : ∃ r ∈ l, idOf (blobO r.text) = x ∧ r.text = s := by
  have : ∀ (l : List RowD) (f : List UInt8 → Option Str), l.foldl (fun f r => setM f (idOf (blobO r.text)) r.text) f x = some s → f x = some s ∨ ∃ r ∈ l, idOf (blobO r.text) = x ∧ r.text = s := by
    intro l
    induction l with
    | nil => intro f h; exact .inl h
    | cons r l ih =>
      intro f h
      rcases ih _ h with h | ⟨y, hy, h⟩
      · have h : (if x = idOf (blobO r.text) then some r.text else f x) = some s := h
        split at h
        · rename_i e
          exact .inr ⟨r, List.mem_cons_self, e.symm, Option.some.inj h⟩
        · exact .inl h
      · exact .inr ⟨y, List.mem_cons_of_mem _ hy, h⟩
  rcases this l _ h with h | h
  · cases h
  · exact h
theorem textF_at {l : List RowD} {n : Nat} (hn : n ≤ l.length) (h : ∀ i, i < n → ¬ TwinAt l i) : ∀ a (ha : a < n), textF (l.take n) (idOf (blobO (l[a]'(by omega)).text)) = some (l[a]'(by omega)).text := by
  induction n with
  | zero => intro a ha; omega
  | succ n ih =>
    intro a ha
    have hn' : n < l.length := by omega
    have ih' := ih (by omega) fun i hi => h i (by omega)
    rw [textF_take hn', setM]
    split
    · rename_i e
      by_cases han : a = n
      · subst han; rfl
      · have h1 := ih' a (by omega)
        rw [e] at h1
        congr 1
        exact Decidable.byContradiction fun hne => h n (by omega) ⟨hn', _, h1, fun e2 => hne e2.symm⟩
    · rename_i e
      exact ih' a (Nat.lt_of_le_of_ne (by omega) fun e2 => e (by subst e2; rfl))
theorem noTwin_iff {l : List RowD} : ¬ Twin l ↔ OneText l ∧ TreeNew l := by
  constructor
  · intro h
    have h1 : ∀ i, ¬ TwinAt l i := fun i hi => h (.inl ⟨i, hi⟩)
    have h2 := textF_at (Nat.le_refl l.length) (fun i _ => h1 i)
    rw [List.take_length] at h2
    refine ⟨fun x hx y hy e => ?_, fun x hx e => ?_⟩
    · obtain ⟨a, ha, rfl⟩ := List.mem_iff_getElem.1 hx
      obtain ⟨b, hb, rfl⟩ := List.mem_iff_getElem.1 hy
      have ea := h2 a ha
      rw [e, h2 b hb] at ea
      exact (Option.some.inj ea).symm
    · obtain ⟨a, ha, rfl⟩ := List.mem_iff_getElem.1 hx
      have ea := h2 a ha
      rw [e] at ea
      exact h (.inr (by rw [ea]; rfl))
  · rintro ⟨h1, h2⟩ (⟨i, hi, s, hs, hne⟩ | h)
    · obtain ⟨r, hr, e1, e2⟩ := textF_some hs
      exact hne (e2 ▸ h1 r (List.mem_of_mem_take hr) _ (List.getElem_mem hi) e1)
    · obtain ⟨s, hs⟩ := Option.isSome_iff_exists.1 h
      obtain ⟨r, hr, e1, _⟩ := textF_some hs
      exact h2 r hr e1
theorem refP_len (l : List RowD) (a : ObjP) : (refP l a).length = (refT l).length + 1 := by simp [refP]
theorem refP_blob {l : List RowD} {a : ObjP} {i : Nat} (h : i < (refT l).length) : (refP l a)[i]'(by rw [refP_len]; omega) = heldB ((refT l)[i]) := by
  simp only [refP]
  rw [List.getElem_append_left (by rw [List.length_map]; exact h), List.getElem_map]
theorem refP_tree {l : List RowD} {a : ObjP} {i : Nat} (h : i < (refP l a).length) (hi : ¬ i < (refT l).length) : (refP l a)[i] = ⟨idOf (treeOf l), treeOf l, a⟩ := by
  have hn := refP_len l a
  simp only [refP]
  rw [List.getElem_append_right (by rw [List.length_map]; omega)]
  simp
theorem noTwinsL_iff {l : List RowD} {a : ObjP} : ¬ TwinsL (refP l a) ↔ OneText l ∧ TreeNew l := by
  constructor
  · intro h
    refine ⟨fun x hx y hy e => Decidable.byContradiction fun hne => ?_, fun x hx e => ?_⟩
    · obtain ⟨i, hi, ei⟩ := List.mem_iff_getElem.1 (refT_mem.2 ⟨x, hx, rfl⟩)
      obtain ⟨j, hj, ej⟩ := List.mem_iff_getElem.1 (refT_mem.2 ⟨y, hy, rfl⟩)
      have hb : ∀ {i : Nat} (hi : i < (refT l).length), (refP l a)[i]'(by rw [refP_len]; omega) = heldB ((refT l)[i]) := fun hi => refP_blob hi
      rcases Nat.lt_trichotomy i j with hlt | heq | hgt
      · exact h ⟨j, by rw [refP_len]; omega, i, hlt, by
          rw [TwinOf, hb hi, hb hj, ei, ej]
          exact ⟨e.symm, fun he => hne (congrArg ObjD.text he).symm⟩⟩
      · subst heq; exact hne (ei.symm.trans ej)
      · exact h ⟨i, by rw [refP_len]; omega, j, hgt, by
          rw [TwinOf, hb hi, hb hj, ei, ej]
          exact ⟨e, fun he => hne (congrArg ObjD.text he)⟩⟩
    · obtain ⟨i, hi, ei⟩ := List.mem_iff_getElem.1 (refT_mem.2 ⟨x, hx, rfl⟩)
      have hl : (refT l).length < (refP l a).length := by rw [refP_len]; omega
      exact h ⟨(refT l).length, hl, i, hi, by
        rw [TwinOf, refP_blob hi, refP_tree hl (Nat.lt_irrefl _), ei]
        exact ⟨e.symm, fun he => absurd (congrArg ObjD.kind he) (by decide : ¬ (2 : Int) = 1)⟩⟩
  · rintro ⟨h1, h2⟩ ⟨i, hi, j, hj, e1, e2⟩
    have hj' : j < (refT l).length := by rw [refP_len] at hi; omega
    rw [refP_blob hj'] at e1 e2
    obtain ⟨y, hy, ey⟩ := refT_mem.1 (List.getElem_mem hj')
    by_cases hi' : i < (refT l).length
    · rw [refP_blob hi'] at e1 e2
      obtain ⟨x, hx, ex⟩ := refT_mem.1 (List.getElem_mem hi')
      refine e2 (congrArg blobO ?_)
      rw [← ex, ← ey]
      exact h1 x hx y hy (by rw [ex, ey]; exact e1)
    · rw [refP_tree hi hi'] at e1
      exact h2 y hy (by rw [ey]; exact e1.symm)
theorem twin_same {l : List RowD} {a : ObjP} : Twin l ↔ TwinsL (refP l a) := ⟨fun h => Classical.byContradiction fun h2 => noTwin_iff.2 (noTwinsL_iff.1 h2) h, fun h => Classical.byContradiction fun h2 => noTwinsL_iff.2 (noTwin_iff.1 h2) h⟩
theorem blobs_ref {l : List RowD} (h : OneText l) : blobsOf l = (refT l).map heldB := by
  have : ∀ n, n ≤ l.length → blobsOf (l.take n) = (refT (l.take n)).map heldB := by
    intro n
    induction n with
    | zero => intro _; rfl
    | succ n ih =>
      intro hn
      have hn' : n < l.length := by omega
      rw [blobsOf_take hn', refT_take hn', ih (by omega), addB, addT]
      have e : idOf (blobO (l[n]).text) ∈ ((refT (l.take n)).map heldB).map HeldT.id ↔ (l[n]).text ∈ refT (l.take n) := by
        constructor
        · intro hm
          obtain ⟨k, hk, e1⟩ := List.mem_map.1 hm
          obtain ⟨t, ht, rfl⟩ := List.mem_map.1 hk
          obtain ⟨r, hr, rfl⟩ := refT_mem.1 ht
          have := h r (List.mem_of_mem_take hr) _ (List.getElem_mem hn') e1
          rw [← this]; exact ht
        · intro hm
          exact List.mem_map.2 ⟨_, List.mem_map.2 ⟨_, hm, rfl⟩, rfl⟩
      by_cases hm : (l[n]).text ∈ refT (l.take n)
      · rw [if_pos (e.2 hm), if_pos hm]
      · rw [if_neg (fun h => hm (e.1 h)), if_neg hm, List.map_append]; rfl
  have h1 := this l.length (Nat.le_refl _)
  rwa [List.take_length] at h1
/-- the document's parts; none, if the tree may not be -/
theorem partsTwin {l : List RowD} {a : ObjP} (h1 : RowsOk l) (h : TwinsL (refPL l a)) : partsE l = 161 := by
  by_cases h2 : ObjOk (treeOf l)
  · rw [refPL, if_pos h2] at h
    exact partsE2 h1 h2 (twin_same.2 h)
  · rw [refPL, if_neg h2] at h
    obtain ⟨i, hi, _⟩ := h
    exact absurd hi (Nat.not_lt_zero _)
theorem partsFull {l : List RowD} {a : ObjP} (h1 : RowsOk l) (h : (refPL l a).length = 0) : partsE l = 6 := by
  by_cases h2 : ObjOk (treeOf l)
  · rw [refPL, if_pos h2, refP_len] at h
    omega
  · exact partsE1 h1 h2
theorem partsSame {l : List RowD} {a : ObjP} (h1 : RowsOk l) (h : ¬ TwinsL (refPL l a)) (h0 : (refPL l a).length ≠ 0) : ObjOk (treeOf l) ∧ partsE l = 0 ∧ ∀ b, partsOf l b = refP l b := by
  by_cases h2 : ObjOk (treeOf l)
  · rw [refPL, if_pos h2] at h
    have h3 := noTwinsL_iff.1 h
    refine ⟨h2, partsE3 h1 h2 (noTwin_iff.2 h3), fun b => ?_⟩
    rw [partsOf, if_pos h2, blobs_ref h3.1]
    rfl
  · rw [refPL, if_neg h2] at h0
    exact absurd rfl h0
theorem refP_eq {l : List RowD} {a b : ObjP} {i : Nat} (h : i < (refP l a).length) (h' : i < (refP l b).length) : (refP l a)[i].id = (refP l b)[i].id ∧ (refP l a)[i].o = (refP l b)[i].o := by
  by_cases hi : i < (refT l).length
  · rw [refP_blob hi, refP_blob hi]; exact ⟨rfl, rfl⟩
  · rw [refP_tree h hi, refP_tree h' hi]; exact ⟨rfl, rfl⟩
theorem textsR_len (l : List RowD) : (textsR l).length ≤ 33 := by rw [textsR, List.length_map, List.length_take]; omega
theorem textsR_at {l : List RowD} : ∀ r ∈ textsR l, r.path.length ≤ 49 ∧ r.text.length ≤ 257 := fun r hr => by
  obtain ⟨x, _, rfl⟩ := List.mem_map.1 hr
  exact ⟨by show (x.path.take 49).length ≤ 49; rw [List.length_take]; omega, by show (x.text.take 257).length ≤ 257; rw [List.length_take]; omega⟩
theorem refP_in {w : World} {l : List RowD} (h1 : RowsOk l) {p : Option Addr} {c : Nat} (hl : Own w p (leavesOf l).length c 76 33 ((leavesOf l).flatMap LeafD.cells)) : ∀ h ∈ refP l (lfP p c), HeldIn w h := fun h hh => by
  have hr := rows_at h1
  rcases List.mem_append.1 hh with hh | hh
  · obtain ⟨t, _, rfl⟩ := List.mem_map.1 hh
    exact ⟨idOf_len _, blobO_in _, blob_sh _, blob_l _ _⟩
  · rw [List.mem_singleton.1 hh]
    refine ⟨idOf_len _, treeO_in (leavesOf_in fun r hr' => by have := (hr.2 r hr').1; have := maxLen_big; omega), tree_sh (by rw [leavesOf, List.length_map]; omega) (fun r hr' => by obtain ⟨y, hy, rfl⟩ := List.mem_map.1 hr'; have := (hr.2 y hy).1; show y.path.length < _; omega), ⟨hl.sl, Sl.nil _ _ _, Sl.nil _ _ _⟩⟩
end Go.Proofs.YtjghckniloikgaaDoor
