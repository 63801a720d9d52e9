/- objects and their bytes lead back to one another -/
import Derived.Test.YtjghckniloikgaaDoorSamF
namespace Go.Proofs.YtjghckniloikgaaDoor
open Go.Vc
theorem num_be : ∀ (n k : Nat), k < 256 ^ n → num (be n k) = k
  | 0, k, h => by
    have : k = 0 := by simpa using h
    subst this; rfl
  | n + 1, k, h => by
    rw [be, num_snoc, num_be n (k / 256) (by rw [Nat.pow_succ] at h; omega), UInt8.toNat_ofNat']
    omega
abbrev dS (l : List UInt8) : Ds := ⟨l, false⟩
theorem off_app {l r : List UInt8} {n : Nat} (h : l.length = n) : (dS (l ++ r)).off n = (l, dS r) := by
  have : ¬ ((dS (l ++ r)).bad = true ∨ (dS (l ++ r)).rest.length < n) := by
    rintro (h1 | h1)
    · cases h1
    · rw [List.length_append] at h1; omega
  rw [Ds.off, if_neg this]
  show ((l ++ r).take n, (⟨(l ++ r).drop n, false⟩ : Ds)) = _
  rw [List.take_left' h, List.drop_left' h]
theorem str_app {s : Str} {r : List UInt8} {n : Nat} (h : s.length < 256 ^ n) : (dS (strB n s ++ r)).str n = (s, dS r) := by
  rw [strB, List.append_assoc, Ds.str, off_app (be_len n _)]
  show (dS (s ++ r)).off (num (be n s.length)) = _
  rw [num_be n _ h, off_app rfl]
theorem id_app {x r : List UInt8} (h : x.length = 32) : (dS (x ++ r)).id = (x, dS r) := by
  rw [Ds.id, off_app h, h]
  simp
theorem each_app {α : Type} {f : Ds → α × Ds} {e : α → List UInt8} : ∀ {l : List α} {r : List UInt8}, (∀ x ∈ l, ∀ r, f (dS (e x ++ r)) = (x, dS r)) → Ds.each f l.length (dS (l.flatMap e ++ r)) = (l, dS r)
  | [], r, _ => rfl
  | x :: l, r, h => by
    rw [List.length_cons, Ds.each_step rfl, List.flatMap_cons, List.append_assoc, h x List.mem_cons_self, each_app fun y hy => h y (List.mem_cons_of_mem _ hy)]
theorem row_app {α : Type} {f : Ds → α × Ds} {e : α → List UInt8} {l : List α} {r : List UInt8} (hl : l.length < 256) (h : ∀ x ∈ l, ∀ r, f (dS (e x ++ r)) = (x, dS r)) : (dS (be 1 l.length ++ (l.flatMap e ++ r))).row f = (l, dS r) := by
  rw [Ds.row, off_app (be_len 1 _), num_be 1 _ (by omega)]
  exact each_app h
theorem leaf_app {x : LeafD} (hp : x.path.length < 256) (hi : x.id.length = 32) (r : List UInt8) : (dS (leafB x ++ r)).leaf = (x, dS r) := by
  rw [leafB, List.append_assoc, Ds.leaf, str_app (by omega), id_app hi]
theorem is_app (b : Bool) : num [isB b] = if b then 1 else 0 := by cases b <;> rfl
theorem chg_app {x : ChgD} (hp : x.path.length < 256) (ht : x.text.length < 65536) (r : List UInt8) : (dS (chgB x ++ r)).chg = (x, dS r) := by
  have h1 : (dS ([isB x.is] ++ (strB 2 x.text ++ r))).off 1 = ([isB x.is], dS (strB 2 x.text ++ r)) := off_app rfl
  rw [chgB, List.append_assoc, List.append_assoc, Ds.chg, str_app (by omega), h1, str_app (by omega), is_app]
  obtain ⟨p, b, t⟩ := x
  cases b <;> rfl
theorem flatten_flat (l : List (List UInt8)) : l.flatten = l.flatMap id := by rw [List.flatMap_def, List.map_id]
theorem com_app {o : ObjD} (h : ObjIn o) (hc : ComOk o) (hk : o.kind = 3) : (dS (comB o)).com = (o, dS []) := by
  obtain ⟨hl, hp⟩ := edit_at hc.2.2.2.1
  obtain ⟨hpl, hst⟩ := styled_at hc.2.2.2.2
  have hnl := hc.2.2.1
  have hs3 : o.style.toNat < 256 := by rcases hc.2.2.2.2.2.2 with h | h | h <;> rw [h.1] <;> decide
  have hse : (o.style.toNat : Int) = o.style := Int.toNat_of_nonneg hst
  have e : comB o = be 1 o.style.toNat ++ (o.tree ++ (be 1 o.parents.length ++ (o.parents.flatMap id ++ (o.base ++ (be 1 o.rows.length ++ (o.rows.flatMap chgB ++ (be 4 o.number ++ (be 4 o.author ++ (strB 1 o.note ++ []))))))))) := by
    simp only [comB, List.append_assoc, List.append_nil, flatten_flat]
  rw [e, Ds.com]
  have e1 := off_app (r := o.tree ++ (be 1 o.parents.length ++ (o.parents.flatMap id ++ (o.base ++ (be 1 o.rows.length ++ (o.rows.flatMap chgB ++ (be 4 o.number ++ (be 4 o.author ++ (strB 1 o.note ++ []))))))))) (be_len 1 o.style.toNat)
  have e2 := id_app (r := be 1 o.parents.length ++ (o.parents.flatMap id ++ (o.base ++ (be 1 o.rows.length ++ (o.rows.flatMap chgB ++ (be 4 o.number ++ (be 4 o.author ++ (strB 1 o.note ++ [])))))))) h.tree
  have e3 := row_app (f := Ds.id) (e := id) (l := o.parents) (r := o.base ++ (be 1 o.rows.length ++ (o.rows.flatMap chgB ++ (be 4 o.number ++ (be 4 o.author ++ (strB 1 o.note ++ [])))))) (by omega) (fun x hx r => id_app (h.parents x hx))
  have e4 := id_app (r := be 1 o.rows.length ++ (o.rows.flatMap chgB ++ (be 4 o.number ++ (be 4 o.author ++ (strB 1 o.note ++ []))))) h.base
  have e5 := row_app (f := Ds.chg) (e := chgB) (l := o.rows) (r := be 4 o.number ++ (be 4 o.author ++ (strB 1 o.note ++ []))) (by omega) (fun x hx r => chg_app (by have := (hp x hx).1; omega) (by have := (hp x hx).2; omega) r)
  have e6 := off_app (r := be 4 o.author ++ (strB 1 o.note ++ [])) (be_len 4 o.number)
  have e7 := off_app (r := strB 1 o.note ++ []) (be_len 4 o.author)
  have e8 := str_app (n := 1) (r := []) (show o.note.length < 256 ^ 1 by omega)
  rw [e1]
  dsimp only
  rw [e2]
  dsimp only
  rw [e3]
  dsimp only
  rw [e4]
  dsimp only
  rw [e5]
  dsimp only
  rw [e6]
  dsimp only
  rw [e7]
  dsimp only
  rw [e8, num_be 1 _ (by omega), num_be 4 _ (by have := h.number; omega), num_be 4 _ (by have := h.author; omega), hse]
  obtain ⟨k, tx, lv, st, tr, ba, pa, ro, nu, au, no⟩ := o
  have h1 : tx = [] := hc.1
  have h2 : lv = [] := List.eq_nil_of_length_eq_zero hc.2.1
  have h3 : k = 3 := hk
  subst h1; subst h2; subst h3
  rfl
theorem blob_eq {o : ObjD} (hk : o.kind = 1) (h : BlobOk o) : o = blobO o.text := by
  have := (blob_zero.1 h).2
  obtain ⟨k, tx, lv, st, tr, ba, pa, ro, nu, au, no⟩ := o
  have h3 : k = 1 := hk
  subst h3
  simp only [objZ, ObjD.mk.injEq, true_and] at this
  obtain ⟨a1, a2, a3, a4, a5, a6, a7, a8, a9⟩ := this
  simp only [blobO, objZ, a1, a2, a3, a4, a5, a6, a7, a8, a9]
theorem tree_eq {o : ObjD} (hk : o.kind = 2) (h : TreeOk o) : o = treeO o.leaves := by
  have := (tree_zero.1 h).2
  obtain ⟨k, tx, lv, st, tr, ba, pa, ro, nu, au, no⟩ := o
  have h3 : k = 2 := hk
  subst h3
  simp only [objZ, ObjD.mk.injEq, true_and] at this
  obtain ⟨a1, a2, a3, a4, a5, a6, a7, a8, a9⟩ := this
  simp only [treeO, objZ, a1, a2, a3, a4, a5, a6, a7, a8, a9]
/-- what is taken off bytes of an object, by its kind -/
def parseK (k : Nat) (s : Ds) : Option (ObjD × Ds) :=
  if k = 1 then some ({ objZ with kind := 1, text := (s.str 2).1 }, (s.str 2).2)
  else if k = 2 then some ({ objZ with kind := 2, leaves := (s.row Ds.leaf).1 }, (s.row Ds.leaf).2)
  else if k = 3 then some s.com else none
theorem decB_parse {b : List UInt8} (h : b ≠ []) : decB b = match parseK (num ((dS b).off 1).1) ((dS b).off 1).2 with | some o => endB b o | none => (objZ, 160) := by
  rw [decB, if_neg h]
  unfold parseK
  dsimp only
  split
  · rfl
  · split
    · rfl
    · split
      · rfl
      · rfl
theorem laid_parse {o : ObjD} (h : ObjIn o) (hf : FieldsOk o) : ∃ k t, laidB o = be 1 k ++ t ∧ k < 256 ∧ parseK k (dS t) = some (o, dS []) := by
  rcases hf with ⟨hk, hB⟩ | ⟨hk, hB⟩ | ⟨hk, hB⟩
  · refine ⟨1, strB 2 o.text ++ [], by rw [laidB, if_pos hk, hk, List.append_nil]; rfl, by decide, ?_⟩
    have h1 := hB.1
    rw [parseK, if_pos rfl, str_app (by omega)]
    exact congrArg (fun o => some (o, dS [])) (blob_eq hk hB).symm
  · obtain ⟨hl, hp⟩ := leaved_at hB.1
    refine ⟨2, be 1 o.leaves.length ++ (o.leaves.flatMap leafB ++ []), by rw [laidB, if_neg (by omega), if_pos hk, hk, List.append_nil]; rfl, by decide, ?_⟩
    rw [parseK, if_neg (by decide), if_pos rfl, row_app (by omega) (fun x hx r => leaf_app (by have := hp x hx; omega) (h.leaves x hx).2 r)]
    exact congrArg (fun o => some (o, dS [])) (tree_eq hk hB).symm
  · refine ⟨3, comB o, by rw [laidB, if_neg (by omega), if_neg (by omega), hk]; rfl, by decide, ?_⟩
    rw [parseK, if_neg (by decide), if_neg (by decide), if_pos rfl, com_app h hB hk]
/-- an object that may be comes back -/
theorem dec_laid {o : ObjD} (h : ObjIn o) (hk : ObjOk o) : decB (laidB o) = (o, 0) := by
  obtain ⟨k, t, e, hk2, hp⟩ := laid_parse h hk.1
  have hne : laidB o ≠ [] := by
    rw [e]
    intro h0
    have := congrArg List.length h0
    rw [List.length_append, be_len] at this
    simp at this
  rw [decB_parse hne]
  have e1 : (dS (laidB o)).off 1 = (be 1 k, dS t) := by rw [e, off_app (be_len 1 k)]
  rw [e1, num_be 1 k (by omega), hp]
  show endB (laidB o) (o, dS []) = _
  rw [endB, if_neg (show ¬ (false = true) from Bool.false_ne_true), if_pos ⟨hk, rfl⟩]
/-- bytes of which an object comes are its bytes -/
theorem dec_back {b : List UInt8} (h : (decB b).2 = 0) : ObjOk (decB b).1 ∧ laidB (decB b).1 = b := by
  have key : ∀ o : ObjD × Ds, (endB b o).2 = 0 → ObjOk (endB b o).1 ∧ laidB (endB b o).1 = b := fun o h => by
    unfold endB at h ⊢
    split at h
    · cases h
    · rename_i h0
      rw [if_neg h0]
      split at h
      · rename_i h1
        rw [if_pos h1]
        exact h1
      · cases h
  by_cases hb : b = []
  · rw [decB, if_pos hb] at h; cases h
  · rw [decB_parse hb] at h ⊢
    cases hp : parseK (num ((dS b).off 1).1) ((dS b).off 1).2 with
    | none => rw [hp] at h; cases h
    | some o => rw [hp] at h; exact key o h
theorem dec_err {b : List UInt8} (h : (decB b).2 ≠ 0) : (decB b).1 = objZ ∧ ((decB b).2 = 7 ∨ (decB b).2 = 160) := by
  have key : ∀ o : ObjD × Ds, (endB b o).2 ≠ 0 → (endB b o).1 = objZ ∧ ((endB b o).2 = 7 ∨ (endB b o).2 = 160) := fun o h => by
    unfold endB at h ⊢
    split
    · exact ⟨rfl, .inl rfl⟩
    · rename_i h0
      rw [if_neg h0] at h
      split
      · rename_i h1
        rw [if_pos h1] at h
        exact absurd rfl h
      · exact ⟨rfl, .inr rfl⟩
  by_cases hb : b = []
  · rw [decB, if_pos hb]; exact ⟨rfl, .inl rfl⟩
  · rw [decB_parse hb] at h ⊢
    cases hp : parseK (num ((dS b).off 1).1) ((dS b).off 1).2 with
    | none => exact ⟨rfl, .inr rfl⟩
    | some o => rw [hp] at h; exact key o h

/-! ### Less of it is too short -/
/-- with more behind, it takes the same, or had been too short -/
structure Fore {α : Type} (f : Ds → α × Ds) : Prop where
  bad : ∀ s : Ds, s.bad = true → (f s).2.bad = true
  more : ∀ p q : List UInt8, (f (dS p)).2.bad = true ∨ f (dS (p ++ q)) = ((f (dS p)).1, dS ((f (dS p)).2.rest ++ q)) ∧ (f (dS p)).2 = dS (f (dS p)).2.rest
theorem Fore.off (n : Nat) : Fore (fun s => s.off n) where
  bad := fun s h => by rw [Ds.off, if_pos (.inl h)]
  more := fun p q => by
    by_cases h : p.length < n
    · left
      rw [Ds.off, if_pos (.inr h)]
    · right
      have e1 : (dS p).off n = (p.take n, dS (p.drop n)) := by
        rw [Ds.off, if_neg (fun h2 => h2.elim (fun h3 => by cases h3) h)]
      have e2 : (dS (p ++ q)).off n = ((p ++ q).take n, dS ((p ++ q).drop n)) := by
        rw [Ds.off, if_neg (fun h2 => h2.elim (fun h3 => by cases h3) fun h3 => h (by have h3 : (p ++ q).length < n := h3; rw [List.length_append] at h3; omega))]
      rw [e1, e2]
      refine ⟨?_, rfl⟩
      rw [List.take_append_of_le_length (by omega), List.drop_append_of_le_length (by omega)]
/-- one behind the other -/
theorem Fore.bind {α β γ : Type} {f : Ds → α × Ds} {g : α → Ds → β × Ds} {c : α → β → γ} (hf : Fore f) (hg : ∀ a, Fore (g a)) : Fore (fun s => (c (f s).1 (g (f s).1 (f s).2).1, (g (f s).1 (f s).2).2)) where
  bad := fun s h => (hg _).bad _ (hf.bad s h)
  more := fun p q => by
    rcases hf.more p q with h | ⟨h1, h2⟩
    · exact .inl ((hg _).bad _ h)
    · dsimp only
      rw [h1]
      dsimp only
      have hg' := (hg (f (dS p)).1).more (f (dS p)).2.rest q
      rw [← h2] at hg'
      rcases hg' with h | ⟨h3, h4⟩
      · exact .inl h
      · refine .inr ⟨?_, h4⟩
        rw [h3]
theorem Fore.pure {α : Type} (a : α) : Fore (fun s => (a, s)) := ⟨fun _ h => h, fun _ _ => .inr ⟨rfl, rfl⟩⟩
theorem Fore.map {α β : Type} {f : Ds → α × Ds} (c : α → β) (hf : Fore f) : Fore (fun s => (c (f s).1, (f s).2)) where
  bad := hf.bad
  more := fun p q => by
    rcases hf.more p q with h | ⟨h1, h2⟩
    · exact .inl h
    · refine .inr ⟨?_, h2⟩
      dsimp only
      rw [h1]
theorem Fore.str (n : Nat) : Fore (fun s => s.str n) := (Fore.off n).bind (g := fun a s => s.off (num a)) (c := fun _ b => b) fun _ => Fore.off _
theorem Fore.id : Fore Ds.id := Fore.map (fun a : List UInt8 => a ++ List.replicate (32 - a.length) 0) (Fore.off 32)
theorem Fore.each {α : Type} {f : Ds → α × Ds} (hf : Fore f) : ∀ n, Fore (Ds.each f n)
  | 0 => Fore.pure []
  | n + 1 => by
    have h := hf.bind (g := fun _ s => Ds.each f n s) (c := fun a b => a :: b) fun _ => Fore.each hf n
    exact {
      bad := fun s hs => by rw [Ds.each, if_pos hs]; exact hs
      more := fun p q => by
        have h1 := h.more p q
        rw [Ds.each_step rfl, Ds.each_step rfl]
        exact h1 }
theorem Fore.row {α : Type} {f : Ds → α × Ds} (hf : Fore f) : Fore (fun s => s.row f) := (Fore.off 1).bind (g := fun a s => Ds.each f (num a) s) (c := fun _ b => b) fun _ => Fore.each hf _
theorem Fore.leaf : Fore Ds.leaf := (Fore.str 1).bind (g := fun _ s => s.id) (c := fun a b => (⟨a, b⟩ : LeafD)) fun _ => Fore.id
theorem Fore.chg : Fore Ds.chg := (Fore.str 1).bind (g := fun a s => (((⟨a, decide (0 < num (s.off 1).1), ((s.off 1).2.str 2).1⟩ : ChgD)), ((s.off 1).2.str 2).2)) (c := fun _ b => b) fun a =>
  (Fore.off 1).bind (g := fun _ s => s.str 2) (c := fun x t => (⟨a, decide (0 < num x), t⟩ : ChgD)) fun _ => Fore.str 2
theorem Fore.com : Fore Ds.com :=
  (Fore.off 1).bind (g := fun _a _s => _) (c := fun _ b => b) fun a =>
  Fore.id.bind (g := fun _t _s => _) (c := fun _ b => b) fun t =>
  (Fore.row Fore.id).bind (g := fun _p _s => _) (c := fun _ b => b) fun p =>
  Fore.id.bind (g := fun _b _s => _) (c := fun _ b => b) fun b =>
  (Fore.row Fore.chg).bind (g := fun _r _s => _) (c := fun _ b => b) fun r =>
  (Fore.off 4).bind (g := fun _n _s => _) (c := fun _ b => b) fun n =>
  (Fore.off 4).bind (g := fun _m s => s.str 1) (c := fun m x => (⟨3, [], [], (num a : Nat), t, b, p, r, num n, num m, x⟩ : ObjD)) fun _m => Fore.str 1
theorem Fore.parse {k : Nat} {s : Ds} {o : ObjD × Ds} (h : parseK k s = some o) : ∃ f : Ds → ObjD × Ds, Fore f ∧ ∀ s, parseK k s = some (f s) := by
  unfold parseK at h ⊢
  by_cases h1 : k = 1
  · exact ⟨_, (Fore.str 2).map (fun t => { objZ with kind := 1, text := t }), fun s => if_pos h1⟩
  · by_cases h2 : k = 2
    · exact ⟨_, (Fore.row Fore.leaf).map (fun l => { objZ with kind := 2, leaves := l }), fun s => by rw [if_neg h1, if_pos h2]⟩
    · by_cases h3 : k = 3
      · exact ⟨_, Fore.com, fun s => by rw [if_neg h1, if_neg h2, if_pos h3]⟩
      · rw [if_neg h1, if_neg h2, if_neg h3] at h; cases h
theorem dec_less {o : ObjD} (h : ObjIn o) (hk : FieldsOk o) {n : Nat} (hn : n < (laidB o).length) : decB ((laidB o).take n) = (objZ, 7) := by
  obtain ⟨k, t, e, hk2, hp⟩ := laid_parse h hk
  obtain ⟨f, hf, hfp⟩ := Fore.parse hp
  cases n with
  | zero => rw [List.take_zero, decB, if_pos rfl]
  | succ n =>
    have hbl := be_len 1 k
    rw [e, List.length_append, be_len] at hn
    have e2 : (laidB o).take (n + 1) = be 1 k ++ t.take n := by
      rw [e, List.take_append, be_len, List.take_of_length_le (by omega)]
      rfl
    have hne : be 1 k ++ t.take n ≠ [] := fun h0 => by
      have := congrArg List.length h0
      rw [List.length_append, be_len] at this
      simp at this
    rw [e2, decB_parse hne, off_app (be_len 1 k), num_be 1 k (by omega), hfp]
    show endB _ (f (dS (t.take n))) = _
    have hbad : (f (dS (t.take n))).2.bad = true := by
      rcases hf.more (t.take n) (t.drop n) with h1 | ⟨h1, _⟩
      · exact h1
      · rw [List.take_append_drop] at h1
        have h2 := (hfp (dS t)).symm.trans hp
        have h3 := Option.some.inj h2
        rw [h1] at h3
        have h4 := congrArg (fun x : ObjD × Ds => x.2.rest.length) h3
        simp only [List.length_append, List.length_drop, List.length_nil] at h4
        omega
    rw [endB, if_pos hbad]
end Go.Proofs.YtjghckniloikgaaDoor
