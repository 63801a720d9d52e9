/-
  Walks and laws towards: FetchTakesCardSaid , walked
-/
import Derived.Laws.IdiomRangeMap
import Derived.Shelf.GgSortFunc.InsertionK
import Derived.Shelf.SlSortCmp.WholeK
import Derived.Shelf.SlSortCmp.NoneTotal
import Derived.Test.YtpcdihkcenfgkaaGreatDoorFtE
namespace Go.Vc
theorem heap_alloc_oldK (w : World) (o : Obj) {r : Nat} (h : r < w.heap.size) : (w.alloc o).heap[r]? = w.heap[r]? := by
 show (w.heap.push o)[r]? = w.heap[r]?
 rw [Array.getElem?_push, if_neg (by omega)]
theorem nodup_len {α : Type} : ∀ {l m : List α}, l.Nodup → (∀ x ∈ l, x ∈ m) → l.length ≤ m.length
 | [], _, _, _ => Nat.zero_le _
 | x :: l, m, hn, hs => by
  obtain ⟨a, b, rfl⟩ := List.append_of_mem (hs x (by simp))
  have := nodup_len (l := l) (m := a ++ b) (List.nodup_cons.1 hn).2 fun y hy => by
   have := hs y (by simp [hy])
   rcases List.mem_append.1 this with h | h
   ·exact List.mem_append_left _ h
   ·rcases List.mem_cons.1 h with rfl | h
    ·exact absurd hy (List.nodup_cons.1 hn).1
    ·exact List.mem_append_right _ h
  simp only [List.length_append, List.length_cons] at this ⊢
  omega
def IterB {β : Type} (w : World) (it m : Nat) (enc : β → Value) (g : List UInt8 → Option β) (N : Nat) (done : List (List UInt8)) : Prop :=
  ∃ es clock since seen last, w.heap[it]? = some (.mapIter (some m) since seen last) ∧ w.heap[m]? = some (.map es clock) ∧
    (∀ e ∈ es.toList, ∃ x b, x.length = 32 ∧ e.key = idV x ∧ e.val = enc b ∧ g x = some b) ∧ (∀ x b, g x = some b → ∃ e ∈ es.toList, e.key = idV x) ∧ (es.toList.map (·.key)).Nodup ∧
    (∀ e ∈ es.toList, e.born < since) ∧ (es.toList.map (·.born)).Nodup ∧ since ≤ last ∧ since ≤ clock ∧ done.Nodup ∧ es.size = N ∧ (∀ x ∈ done, ∃ b, g x = some b) ∧ (∀ e ∈ es.toList, ∀ x, e.key = idV x → (seen.contains e.born = true ↔ x ∈ done))
theorem IterB.lt {β : Type} {w : World} {it m N : Nat} {enc : β → Value} {g : List UInt8 → Option β} {done : List (List UInt8)} (h : IterB w it m enc g N done) : it < w.heap.size ∧ m < w.heap.size := by
 obtain ⟨es, c, s, se, la, h1, h2, _⟩ := h
 constructor
 ·rcases Nat.lt_or_ge it w.heap.size with h' | h'
  ·exact h'
  ·rw [Array.getElem?_eq_none h'] at h1; cases h1
 ·rcases Nat.lt_or_ge m w.heap.size with h' | h'
  ·exact h'
  ·rw [Array.getElem?_eq_none h'] at h2; cases h2
theorem IterB.ext {β : Type} {S : Nat → Prop} {w w' : World} {it m N : Nat} {enc : β → Value} {g : List UInt8 → Option β} {done : List (List UInt8)} (h : IterB w it m enc g N done) (hE : Ext S w w') (h1 : ¬ S it) (h2 : ¬ S m) : IterB w' it m enc g N done := by
 obtain ⟨l1, l2⟩ := h.lt
 obtain ⟨es, c, s, se, la, a, b, r⟩ := h
 exact ⟨es, c, s, se, la, (hE.same it l1 h1).trans a, (hE.same m l2 h2).trans b, r⟩
theorem IterB.zq2 {β : Type} {w w' : World} {it m N : Nat} {enc : β → Value} {g : List UInt8 → Option β} {done : List (List UInt8)} (h : IterB w it m enc g N done) (hE : Ext No w w') : IterB w' it m enc g N done := h.ext hE id id
theorem IterB.neB {β : Type} {w : World} {it m N : Nat} {enc : β → Value} {g : List UInt8 → Option β} {done : List (List UInt8)} (h : IterB w it m enc g N done) {b T : Nat} {L : List Value} (hb : Blk w b T L) : it ≠ b ∧ m ≠ b := by
 obtain ⟨es, c, s, se, la, h1, h2, _⟩ := h
 exact ⟨(fun e => by rw [e] at h1; rw [Blk, h1] at hb; cases hb), (fun e => by rw [e] at h2; rw [Blk, h2] at hb; cases hb)⟩
theorem ext_putAt {w : World} {r : Nat} {o : Obj} (h : w.heap[r]? = some o) (o' : Obj) :
  Ext (One r) w { w with heap := w.heap.setIfInBounds r o' } ∧ ({ w with heap := w.heap.setIfInBounds r o' } : World).heap.size = w.heap.size ∧ ({ w with heap := w.heap.setIfInBounds r o' } : World).heap[r]? = some o' := by
 have hlt : r < w.heap.size := by
  rcases Nat.lt_or_ge r w.heap.size with h' | h'
  ·exact h'
  ·rw [Array.getElem?_eq_none h'] at h; cases h
 refine ⟨⟨rfl, rfl, rfl, by simp, fun b hb hS => ?_, Nat.le_refl _⟩, by simp, by simp [hlt]⟩
 exact Array.getElem?_setIfInBounds_ne (fun e' => hS e'.symm)
theorem run_next {P : Program} {w : World} {it m since last clock : Nat} {seen : Array Nat} {es : Array MapEntry} (hi : w.heap[it]? = some (.mapIter (some m) since seen last)) (hm : w.heap[m]? = some (.map es clock)) (hold : ∀ x ∈ es.toList, x.born < since) (hsc : since ≤ last) (ty : TypeId) :
  ((leftOf es seen).size = 0 ∧ (Instr.next (.pointer (some ⟨it, 0, none⟩)) false ty).run P w = .ok (.tuple #[.bool false]) w) ∨
  ∃ e ∈ (leftOf es seen).toList, ∃ w1 : World, (w1 = w ∨ w1 = w.drew) ∧ (Instr.next (.pointer (some ⟨it, 0, none⟩)) false ty).run P w = .ok (.tuple #[.bool true, e.key, e.val]) { w1 with heap := w1.heap.setIfInBounds it (.mapIter (some m) since (seen.push e.born) clock) } := by
 simp only [Instr.next, getObj, Sem.run_bind, Sem.run, hi, hm, Result.andThen, next_test_false seen es since last hold hsc, Bool.false_eq_true, if_false]
 unfold leftOf
 have hmem : ∀ x ∈ (Array.filter (fun e => !seen.contains e.born) es).toList, x.born < since := fun x hx => hold x (by simp at hx ⊢; exact hx.1)
 generalize Array.filter (fun e => !seen.contains e.born) es = L at hmem ⊢
 have e1 : L.filter (fun x => decide (x.born < since)) = L := Array.filter_eq_self.2 (fun x hx => by simpa using hmem x (by simpa using hx))
 have e2 : L.filter (fun x => decide (x.born ≥ since)) = #[] := by
  rw [Array.filter_eq_empty_iff]
  intro x hx
  have := hmem x (by simpa using hx)
  simp
  omega
 simp only [e1, e2, Array.append_empty]
 by_cases h0 : L.size = 0
 ·left
  have : L = #[] := Array.eq_empty_of_size_eq_zero h0
  subst this
  refine ⟨rfl, ?_⟩
  simp [choose, Sem.run, Question.forced]
 ·right
  have hne : L.isEmpty = false := by simp [Array.isEmpty, h0]
  simp only [hne, Bool.false_eq_true, if_false, Array.empty_append, Array.size_map]
  have hch : ∃ (j : Nat) (w1 : World), j < L.size ∧ (w1 = w ∨ w1 = w.drew) ∧ (choose (Question.mapNext L.size)).run P w = .ok j w1 := by
   by_cases hf : L.size ≤ 1
   ·exact ⟨0, w, by omega, .inl rfl, by simp [choose, Sem.run, Question.forced, hf]⟩
   ·exact ⟨_, w.drew, Nat.mod_lt _ (by omega), .inr rfl, by
     simp only [choose, Sem.run, Question.forced, decide_eq_true_eq, hf, if_false, Question.cut]
     rfl⟩
  obtain ⟨j, w1, hj, hal, hrun⟩ := hch
  refine ⟨L[j], by simp, w1, hal, ?_⟩
  have hi1 : w1.heap[it]? = some (.mapIter (some m) since seen last) := by rcases hal with rfl | rfl <;> exact hi
  have hset : ∀ (o' : Obj), (setObj it o').run P w1 = .ok () { w1 with heap := w1.heap.setIfInBounds it o' } := fun o' => by
   simp [setObj, Sem.run, hi1]
  simp only [hrun, Array.getElem?_map, Array.getElem?_eq_getElem hj, Option.map_some, Sem.run_bind, hset, Result.andThen]
  rfl
def Cur (w : World) (it m : Nat) (kx vx : Value) : Prop :=
  ∃ es clock since seen e, w.heap[it]? = some (.mapIter (some m) since seen clock) ∧ w.heap[m]? = some (.map es clock) ∧ seen.back? = some e.born ∧ es.toList.find? (fun x => x.born == e.born) = some e ∧ e.key = kx ∧ e.val = vx
theorem run_entry {P : Program} {w : World} {it m : Nat} {kx vx : Value} (h : Cur w it m kx vx) : (Instr.entry (.pointer (some ⟨it, 0, none⟩))).run P w = .ok (.tuple #[kx, vx]) w := by
 obtain ⟨es, c, s, se, e, h1, h2, h3, h4, rfl, rfl⟩ := h
 have hf : es.find? (fun x => x.born == e.born) = some e := by rw [← Array.find?_toList]; exact h4
 simp only [Instr.entry, getObj, Sem.run_bind, Sem.run, h1, h2, Result.andThen, h3, bne_self_eq_false, Bool.false_eq_true, if_false, hf]
 rfl
section
variable {P : Program} {I : Info} {f : Fs} {ops : Array Oper} {o : Oper} {env : Env} {w : World} {K : Env → World → Prop}
def rgE (I : Info) (n : Nat) (ops : Array Oper) (env : Env) (o : Oper) : Option (Nat × Nat) :=
  match pre n ops env o with
  | false => none
  | true => match o.dst with
    | some d => match o.op with
      | .range t x => match lkT I t with
        | some y => match y.desc with
          | .map _ _ => match evO env x with
            | some (.map (some r)) => some (r, d)
            | _ => none
          | _ => none
        | none => none
      | _ => none
    | none => none
theorem st_rg {β : Type} (hI : I.Ok P) {m d : Nat} (h : rgE I f.n ops env o = some (m, d)) {enc : β → Value} {g : List UInt8 → Option β} (hm : MapB w m enc g)
  (k : ∀ (it N : Nat) w', w.heap.size ≤ it → IterB w' it m enc g N [] → Ext No w w' → K ((d, .pointer (some ⟨it, 0, none⟩)) :: env) w') : St P f ops o env w K := by
 unfold rgE at h
 split at h
 ·cases h
 ·rename_i hp
  obtain ⟨h1, h2⟩ := pre_eq hp
  split at h
  ·rename_i d' hd
   split at h
   ·rename_i t x ho
    split at h
    ·rename_i y hy
     split at h
     ·rename_i k' e he
      split at h
      ·rename_i r' hx
       simp only [Option.some.injEq, Prod.mk.injEq] at h
       obtain ⟨rfl, rfl⟩ := h
       have hu := (hI.get hy).under w
       rw [he] at hu
       have hlt := hm.lt
       obtain ⟨es, c, hh, a1, a2, a3, a4, a5⟩ := hm
       have hrun : (Instr.range t (.map (some r'))).run P w = .ok (.pointer (some ⟨w.heap.size, 0, none⟩)) (w.alloc (.mapIter (some r') c #[] c)) := by
        unfold Instr.range
        rw [run_under_bind hu]
        simp only [Sem.run_bind, MapKept.run_getObj_map hh, Result.andThen_ok]
        rfl
       refine st_v h1 h2 (v := .pointer (some ⟨w.heap.size, 0, none⟩)) (w' := w.alloc (.mapIter (some r') c #[] c)) (fun ρ hρ => ?_) ?_
       ·simp only [execOp, ho, hρ _ _ hx, Sem.run_bind, hrun, Result.andThen_ok, Sem.run_pure]
       ·rw [hd]
        refine k _ es.size _ (Nat.le_refl _) ⟨es, c, c, #[], c, heap_alloc_new w _, ?_, a1, a2, a3, a4, a5, Nat.le_refl _, Nat.le_refl _, List.nodup_nil, rfl, (fun x hx => by cases hx), fun e _ x _ => by simp⟩ ⟨rfl, rfl, rfl, by simp, fun b hb _ => ?_, Nat.le_refl _⟩
        ·rw [heap_alloc_oldK w _ hlt]; exact hh
        ·exact heap_alloc_oldK w _ hb
      ·cases h
     ·cases h
    ·cases h
   ·cases h
  ·cases h
def enE (n : Nat) (ops : Array Oper) (env : Env) (o : Oper) : Option (Nat × Nat) :=
  match pre n ops env o with
  | false => none
  | true => match o.dst with
    | some d => match o.op with
      | .entry x => match evO env x with
        | some (.pointer (some ⟨it, 0, none⟩)) => some (it, d)
        | _ => none
      | _ => none
    | none => none
theorem st_en {it m d : Nat} {kx vx : Value} (h : enE f.n ops env o = some (it, d)) (hc : Cur w it m kx vx) (k : K ((d, .tuple #[kx, vx]) :: env) w) : St P f ops o env w K := by
 unfold enE at h
 split at h
 ·cases h
 ·rename_i hp
  obtain ⟨h1, h2⟩ := pre_eq hp
  split at h
  ·rename_i d' hd
   split at h
   ·rename_i xx ho
    split at h
    ·rename_i it' hx
     simp only [Option.some.injEq, Prod.mk.injEq] at h
     obtain ⟨rfl, rfl⟩ := h
     refine st_v h1 h2 (v := .tuple #[kx, vx]) (w' := w) (fun ρ hρ => ?_) (by rw [hd]; exact k)
     simp only [execOp, ho, hρ _ _ hx, Sem.run_bind, run_entry hc, Result.andThen_ok, Sem.run_pure]
    ·cases h
   ·cases h
  ·cases h
def nxE (n : Nat) (ops : Array Oper) (env : Env) (o : Oper) : Option (Nat × Nat) :=
  match pre n ops env o with
  | false => none
  | true => match o.dst with
    | some d => match o.op with
      | .next x false => match evO env x with
        | some (.pointer (some ⟨it, 0, none⟩)) => some (it, d)
        | _ => none
      | _ => none
    | none => none
theorem st_nx {β : Type} {it d : Nat} (h : nxE f.n ops env o = some (it, d)) {m N : Nat} {enc : β → Value} {g : List UInt8 → Option β} {done : List (List UInt8)} (hit : IterB w it m enc g N done)
  (k0 : (∀ x b, g x = some b → x ∈ done) → K ((d, .tuple #[.bool false]) :: env) w)
  (k1 : ∀ (x : List UInt8) (b : β) w', g x = some b → x.length = 32 → x ∉ done → done.length < N → IterB w' it m enc g N (done ++ [x]) → Cur w' it m (idV x) (enc b) → Ext (One it) w w' → w'.heap.size = w.heap.size → K ((d, .tuple #[.bool true, idV x, enc b]) :: env) w') : St P f ops o env w K := by
 unfold nxE at h
 split at h
 ·cases h
 ·rename_i hp
  obtain ⟨h1, h2⟩ := pre_eq hp
  split at h
  ·rename_i d' hd
   split at h
   ·rename_i xx ho
    split at h
    ·rename_i it' hx
     simp only [Option.some.injEq, Prod.mk.injEq] at h
     obtain ⟨rfl, rfl⟩ := h
     obtain ⟨es, c, s, se, la, hi, hm, a1, a2, a3, a4, a5, a6, a7, b1, b2, b3, b4⟩ := hit
     rcases run_next (P := P) hi hm a4 a6 o.type with ⟨c1, c2⟩ | ⟨e, c1, w1, c2, c3⟩
     ·refine st_v h1 h2 (v := .tuple #[.bool false]) (w' := w) (fun ρ hρ => ?_) ?_
      ·simp only [execOp, ho, hρ _ _ hx, Sem.run_bind, c2, Result.andThen_ok, Sem.run_pure]
      ·rw [hd]
       refine k0 fun x b hg => ?_
       obtain ⟨e, he, hk⟩ := a2 x b hg
       refine (b4 e he x hk).1 (Classical.byContradiction fun hc => ?_)
       have : e ∈ (leftOf es se).toList := Array.mem_toList_iff.2 (Array.mem_filter.2 ⟨Array.mem_toList_iff.1 he, by simpa using hc⟩)
       rw [Array.eq_empty_of_size_eq_zero c1] at this
       simp at this
     ·obtain ⟨hes, hns⟩ := mem_left c1
      obtain ⟨x, b, hx32, hk, hv, hg⟩ := a1 e hes
      have hxd : x ∉ done := fun hxd => by
       have := (b4 e hes x hk).2 hxd
       rw [hns] at this; cases this
      have hi1 : w1.heap[it']? = some (.mapIter (some m) s se la) := by rcases c2 with rfl | rfl <;> exact hi
      have hm1 : w1.heap[m]? = some (.map es c) := by rcases c2 with rfl | rfl <;> exact hm
      have hE1 : Ext No w w1 := by
       rcases c2 with rfl | rfl
       ·exact Ext.refl _ _
       ·exact Ext.drew w
      obtain ⟨p1, p2, p3⟩ := ext_putAt hi1 (.mapIter (some m) s (se.push e.born) c)
      have hne : it' ≠ m := fun q => by rw [q, hm] at hi; cases hi
      refine st_v h1 h2 (v := .tuple #[.bool true, idV x, enc b]) (w' := { w1 with heap := w1.heap.setIfInBounds it' (.mapIter (some m) s (se.push e.born) c) }) (fun ρ hρ => ?_) ?_
      ·rw [hk, hv] at c3
       simp only [execOp, ho, hρ _ _ hx, Sem.run_bind, c3, Result.andThen_ok, Sem.run_pure]
      ·rw [hd]
       have hlt : done.length < N := by
        rw [← b2]
        have hsub : (done ++ [x]).length ≤ (es.toList.map (·.key)).length := by
         have hnd : ((done ++ [x]).map idV).Nodup := by
          rw [List.nodup_iff_pairwise_ne]
          refine List.pairwise_map.2 ((List.nodup_append.2 ⟨b1, by simp, fun a ha b hb => ?_⟩).imp fun hab e => hab (idV_inj e))
          rw [List.mem_singleton.1 hb]
          exact fun e => hxd (e ▸ ha)
         have := nodup_len hnd (m := es.toList.map (·.key)) fun v hv => by
          obtain ⟨y, hy, rfl⟩ := List.mem_map.1 hv
          rcases List.mem_append.1 hy with hy | hy
          ·obtain ⟨b', hb'⟩ := b3 y hy
           obtain ⟨e', he', hk'⟩ := a2 y b' hb'
           exact List.mem_map.2 ⟨e', he', hk'⟩
          ·rw [List.mem_singleton.1 hy]
           exact List.mem_map.2 ⟨e, hes, hk⟩
         rw [List.length_map] at this
         exact this
        rw [List.length_append, List.length_map, Array.length_toList] at hsub
        simp only [List.length_cons, List.length_nil] at hsub
        have hz : es.size = es.toList.length := rfl
        have hz' : es.toList.length = es.size := rfl
        exact Nat.lt_of_lt_of_le (Nat.lt_succ_self _) hsub
       refine k1 x b _ hg hx32 hxd hlt ⟨es, c, s, se.push e.born, c, p3, ?_, a1, a2, a3, a4, a5, a7, a7, ?_, b2, ?_, ?_⟩ ⟨es, c, s, se.push e.born, e, p3, (by
        show (w1.heap.setIfInBounds it' _)[m]? = _
        rw [Array.getElem?_setIfInBounds_ne hne]
        exact hm1), by simp, find_born e es.toList a5 hes, hk, hv⟩ ((hE1.mono fun _ _ q => q.elim).trans p1 fun _ _ q => q) (p2.trans (by rcases c2 with rfl | rfl <;> rfl))
       ·show (w1.heap.setIfInBounds it' _)[m]? = _
        rw [Array.getElem?_setIfInBounds_ne hne]
        exact hm1
       ·exact List.nodup_append.2 ⟨b1, by simp, fun a ha b hb => by rw [List.mem_singleton.1 hb]; exact fun e => hxd (e ▸ ha)⟩
       ·intro y hy
        rcases List.mem_append.1 hy with hy | hy
        ·exact b3 y hy
        ·rw [List.mem_singleton.1 hy]; exact ⟨b, hg⟩
       ·intro e' he' y hy
        rw [contains_push]
        simp only [Bool.or_eq_true, beq_iff_eq, List.mem_append, List.mem_singleton]
        constructor
        ·rintro (q | q)
         ·exact .inl ((b4 e' he' y hy).1 q)
         ·have h1' := find_born e es.toList a5 hes
          have h2' := find_born e' es.toList a5 he'
          rw [q, h1'] at h2'
          have := Option.some.inj h2'
          rw [← this] at hy
          exact .inr (idV_inj (hy.symm.trans hk))
        ·rintro (q | q)
         ·exact .inl ((b4 e' he' y hy).2 q)
         ·refine .inr ?_
          subst q
          have hee : e' = e := by
           have i1 := List.mem_iff_getElem.1 he'
           have i2 := List.mem_iff_getElem.1 hes
           obtain ⟨i, hi', rfl⟩ := i1
           obtain ⟨j, hj', hje⟩ := i2
           have : i = j := by
            have q2 : (es.toList.map (·.key))[i]'(by simpa using hi') = (es.toList.map (·.key))[j]'(by simpa using hj') := by simp only [List.getElem_map]; rw [hy, hje, hk]
            exact (List.getElem_inj a3).1 q2
           subst this
           exact hje
          rw [hee]
    ·cases h
   ·cases h
  ·cases h
end
end Go.Vc
namespace Go.Proofs.YtpcdihkcenfgkaaGreatDoor
open Go.Vc
theorem ledF_some {h : Hp} {x y : IdB} {b : Bool} (hg : ledF h x y = some b) : y ∈ h.led x ∧ b = decide (h.err y = 0) := by
 unfold ledF gotF at hg
 split at hg
 ·rename_i hy
  cases hg
  exact ⟨hy, rfl⟩
 ·cases hg
theorem book_ok {l : List zz4} {x : IdB} (he : (toHp l).err x = 0) : (bookOf l x).getD (objZ, noP) = ((toHp l).obj x, objP l x) := by
 have h1 := book_get l x
 have h2 := book_ptr l x
 cases hb : bookOf l x with
 | none =>
  rw [hb] at h1
  rw [(Hp.err_no h1).1] at he
  exact absurd he (by decide)
 | some y =>
  rw [hb] at h1 h2
  obtain ⟨e1, e2⟩ := Hp.err_at h1
  by_cases hk : ObjOk y.1
  ·rw [(e1 hk).2, h2]
   dsimp only
   rw [if_pos hk]
   rfl
  ·rw [(e2 hk).1] at he
   exact absurd he (by decide)
theorem ledF_on {h : Hp} {x y : IdB} (hy : y ∈ h.led x) : ledF h x y = some (decide (h.err y = 0)) := if_pos hy
theorem closedB_calls (w : World) {p : Option Addr} {r : Nat} {l : List zz4} {x : IdB} (hB : BkIn w p l r) (hx : IdIn x) :
  zz1 Tryz.prog 73 [.map (some r), idV x] w fun v w' => v = .int .i64 ((toHp l).closed x) ∧ Ext No w w' := by
 have h := hB.h
 have hled := h.ledIn hx
 refine zq9 Tryz.func73 rfl rfl rfl rfl ?_
 have hX := Ext.refl No w
 refine zq5 (zq0 (wl (zz9 I_ok rfl fun b3 w1 hn3 hb3 hE1 => ?_)))
 have hX := hX.zq4 hE1
 have hb3 : Blk w1 b3 31 (zq6 x) := hb3
 refine wl_p I_ok rfl (zq3 (zq1 (zq5 (zq5 (zq0 (wl_p I_ok rfl (wl (zj2 I_ok hb3 rfl hx.len (wl (zx2 Tryz.call129 rfl rfl rfl rfl rfl rfl (kindB_calls w1 (hB.zq2 hX) hx 3) fun v2 w2 hr2 => ?_))))))))))
 obtain ⟨rfl, hE2⟩ := hr2
 have hb3 := hb3.zq2 hE2
 have hX := hX.zq4 hE2
 refine wl_p I_ok rfl (wl (zz9 I_ok rfl fun b5 w3 hn5 hb5 hE3 => ?_))
 have ne3_5 : b3 ≠ b5 := Nat.ne_of_lt (Nat.lt_of_lt_of_le hb3.lt hn5)
 have fr5 := Nat.le_trans hX.size hn5
 have hb3 := hb3.zq2 hE3
 have hX := hX.zq4 hE3
 refine wl (zj1 (l' := objC ((toHp l).kObj x 3) (kObjP l x 3)) I_ok hb5 rfl rfl (zq7 (h.kIn x 3)) (by rw [zq7 (h.kIn x 3)]; rfl) OneC.h fun w4 hb5 hE4 hs4 => ?_)
 have hb3 := hb3.ext1 hE4 ne3_5
 have hX := hX.zx1 hE4 fr5
 refine wl_p I_ok rfl (zq3 (zq1 (zq5 (zq0 (wl_p I_ok rfl (zq3 (zq1 (c_if rfl (fun hc => ?_) (fun hc => ?_)))))))))
 ·refine zq5 ?_
  refine zq0 (wl_p I_ok rfl (zq3 (zq1 (zj0 (zx5 (zz2 rfl rfl ?_))))))
  exact ⟨by rw [closed1 hc], hX⟩
 ·have hk0 : (toHp l).kErr x 3 = 0 := Decidable.not_not.1 hc
  refine zx7 (zq1 (zq5 (zq5 (zq0 (wl_p I_ok rfl (wl (zj2 I_ok hb3 rfl hx.len ?_)))))))
  have hX4 := hX.size
  refine wl (zx2 Tryz.call76 rfl rfl rfl rfl rfl rfl (leadsB_calls w4 (hB.zq2 hX) hx) fun v5 w5 hr5 => ?_)
  obtain ⟨m, rfl, hmn, hM, hE5⟩ := hr5
  have hX := hX.zq4 hE5
  refine wl (st_rg I_ok rfl hM fun it N w6 hitn hIt hE6 => ?_)
  have hmw := Nat.le_trans hX4 hmn
  have hitw := Nat.le_trans hX.size hitn
  have hX := hX.zq4 hE6
  refine zq3 (zq1 (zx4 ?_))
  refine zv3 (α := List IdB) [0, 29] rfl (fun z => []) (fun z u => ((∀ y ∈ z, (toHp l).Good y) ∧ IterB u it m Value.bool (ledF (toHp l) x) N z) ∧ Ext No w u) (fun z u => N - z.length) ([]) rfl ⟨⟨fun _ hy => (by cases hy), hIt⟩, hX⟩ ?_
  rintro dn w7 ⟨⟨hok, hIt⟩, hX⟩
  refine zq5 (zq0 (wl (st_nx rfl hIt (fun hall => ?_) (fun y bk w8 hgk hx32 hxd hltN hIt2 hCur hE8 hs8 => ?_))))
  ·have hdone : (toHp l).closed x = 0 := closed2 hk0 fun y hy => hok y (hall y _ (ledF_on hy))
   refine wl_p I_ok rfl (zq3 (zq1 (zq5 (c_condF rfl (c_exit (zx3 (zx3 (zz0 (zq1 (zq5 (zq0 (wl_p I_ok rfl (zq3 (zq1 (zj0 (zz2 rfl rfl ?_))))))))))))))))
   exact ⟨by rw [hdone], hX⟩
  ·have hIt := hIt2
   have hX := hX.zx1 hE8 hitw
   obtain ⟨hym, hbk⟩ := ledF_some hgk
   have hlen : (dn ++ [y]).length = dn.length + 1 := by rw [List.length_append]; rfl
   obtain ⟨hoi0, hos0, hol0⟩ := hB.h.bookIn y
   have hbt := book_tell l y
   have hbo := book_ok (l := l) (x := y)
   obtain ⟨⟨o, a⟩, hoa⟩ : ∃ y0, y0 = (bookOf l y).getD (objZ, noP) := ⟨_, rfl⟩
   rw [← hoa] at hoi0 hos0 hol0 hbt hbo
   dsimp only at hoi0 hos0 hol0 hbt hbo
   have hy := hled y hym
   have hoi := h.objIn y
   refine wl_p I_ok rfl (zq3 (zq1 (zq5 (c_condT rfl (zx7 (zq1 (zx4 (zq5 (zq0 (wl (st_en rfl hCur (wl_p I_ok rfl (wl (zz9 I_ok rfl fun b7 w9 hn7 hb7 hE9 => ?_))))))))))))))
   have fr7 := Nat.le_trans hX.size hn7
   have hIt := hIt.zq2 hE9
   have hX := hX.zq4 hE9
   have hb7o := hb7
   refine wl (zj1 (l' := zq6 y) I_ok hb7 rfl rfl hy.len (by rw [zx0, hy]; rfl) OneC.h fun w10 hb7 hE10 hs10 => ?_)
   have hIt := hIt.ext hE10 (hIt.neB hb7o).1 (hIt.neB hb7o).2
   have hX := hX.zx1 hE10 fr7
   refine wl_p I_ok rfl (zq3 (zq1 (zq5 (zq0 (wl_p I_ok rfl (wl (zj2 I_ok hb7 rfl hy.len (wl (st_lu I_ok rfl idK hy rfl (hB.zq2 hX).m ?_)))))))))
   simp only [Bool.false_eq_true, if_false]
   rw [hbt]
   refine wl (zz9 I_ok rfl fun b9 w11 hn9 hb9 hE11 => ?_)
   have fr9 := Nat.le_trans hX.size hn9
   have hIt := hIt.zq2 hE11
   have hX := hX.zq4 hE11
   have hb9o := hb9
   refine wl (zj1 (l' := objC o a) I_ok hb9 rfl rfl (zq7 hoi0) (by rw [zq7 hoi0]; rfl) OneC.h fun w12 hb9 hE12 hs12 => ?_)
   have hIt := hIt.ext hE12 (hIt.neB hb9o).1 (hIt.neB hb9o).2
   have hX := hX.zx1 hE12 fr9
   refine zq3 (zq1 (zq5 (zq5 (zq0 (wl_p I_ok rfl (zq3 (zq1 (c_cond rfl (fun hc => ?_) (fun hc => ?_)))))))))
   ·have hng : ¬ (toHp l).Good y := fun k => by rw [hbk, decide_eq_true k.1] at hc; cases hc
    refine zq5 (zq0 (wl_p I_ok rfl (zq3 (zq1 (zj0 (zx5 (zz3 (zx5 (zz3 (zx5 (zz2 rfl rfl ?_)))))))))))
    exact ⟨by rw [closed3 hk0 hym hng], hX⟩
   ·have he0 : (toHp l).err y = 0 := by simpa [hbk] using hc
    obtain ⟨rfl, rfl⟩ : o = (toHp l).obj y ∧ a = objP l y := by have := hbo he0; rw [Prod.mk.injEq] at this; exact this
    refine zx7 (zq1 (zq5 (zq5 (zq0 (wl_p I_ok rfl (wl (st_ld I_ok rfl (hb9.seg.obj hoi).kind (wl_p I_ok rfl (zq3 (zq1 (c_if rfl (fun hc => ?_) (fun hc => ?_))))))))))))
    ·have hgd : (toHp l).Good y := ⟨he0, fun k => absurd k hc⟩
     refine c_exit ?_
     exact zx3 (zz0 (zv1 (dn ++ [y]) rfl ⟨⟨fun z hz => by rcases List.mem_append.1 hz with hz | hz; exact hok z hz; rw [List.mem_singleton.1 hz]; exact hgd, hIt⟩, hX⟩ (by first | omega | (dsimp only; omega))))
    ·have hk3 : ((toHp l).obj y).kind = 3 := Decidable.not_not.1 hc
     refine zx7 (zq1 (zq5 (zq5 (zq0 (wl_p I_ok rfl (wl (st_ldN I_ok rfl (hb9.seg.obj hoi).tree (IdIn.len hoi.tree) ?_)))))))
     refine wl (zx2 Tryz.call130 rfl rfl rfl rfl rfl rfl (textsB_calls w12 (hB.zq2 hX) hoi.tree) fun v13 w13 hr13 => ?_)
     obtain ⟨q2, k2, rfl, hq2, hqn2, hE13⟩ := hr13
     have hb9 := hb9.zq2 hE13
     have hIt := hIt.zq2 hE13
     have hX := hX.zq4 hE13
     refine wl_p I_ok rfl (wl (zz9 I_ok rfl fun b10 w14 hn10 hb10 hE14 => ?_))
     have ne9_10 : b9 ≠ b10 := Nat.ne_of_lt (Nat.lt_of_lt_of_le hb9.lt hn10)
     have fr10 := Nat.le_trans hX.size hn10
     have hb9 := hb9.zq2 hE14
     have hIt := hIt.zq2 hE14
     have hX := hX.zq4 hE14
     have hb10o := hb10
     refine wl (zj1 (l' := [.slice q2 ((toHp l).map ((toHp l).obj y).tree).length k2]) I_ok hb10 rfl rfl rfl rfl OneC.h fun w15 hb10 hE15 hs15 => ?_)
     have hb9 := hb9.ext1 hE15 ne9_10
     have hIt := hIt.ext hE15 (hIt.neB hb10o).1 (hIt.neB hb10o).2
     have hX := hX.zx1 hE15 fr10
     refine wl_p I_ok rfl (zq3 (zq1 (zq5 (zq0 (wl_p I_ok rfl (zq3 (zq1 (c_if rfl (fun hc => ?_) (fun hc => ?_)))))))))
     ·have hng : ¬ (toHp l).Good y := fun k => hc (k.2 hk3).1
      refine zq5 (zq0 (wl_p I_ok rfl (zq3 (zq1 (zj0 (zx5 (zz3 (zx5 (zz3 (zx5 (zz2 rfl rfl ?_)))))))))))
      exact ⟨by rw [closed3 hk0 hym hng], hX⟩
     ·have hm0 : (toHp l).mapE ((toHp l).obj y).tree = 0 := Decidable.not_not.1 hc
      have hpl := (h.objSh y).parents
      have hnu := hoi.number
      have hol := h.objL y
      refine zx7 (zq1 (zq5 (zq0 (wl_p I_ok rfl (zq3 (zq1 (zq5 (zq5 (zq0 (wl_p I_ok rfl (wl (st_ld I_ok rfl (hb9.seg.obj hoi).parents (wl_p I_ok rfl (zq3 (zq1 (zx4 ?_))))))))))))))))
      refine zv3 (α := Nat) [0, 9, 29, 53, 54] rfl (fun z => [(12, .int .u32 ((toHp l).top (((toHp l).obj y).parents.take z) : Int)), (55, .int .i64 (z : Int))]) (fun z u => ((z ≤ ((toHp l).obj y).parents.length ∧ ∀ t ∈ ((toHp l).obj y).parents.take z, (toHp l).kErr t 3 = 0 ∧ ((toHp l).kObj t 3).number < ((toHp l).obj y).number) ∧ IterB u it m Value.bool (ledF (toHp l) x) N (dn ++ [y])) ∧ Blk u b9 46 (objC ((toHp l).obj y) (objP l y)) ∧ Ext No w u) (fun z u => ((toHp l).obj y).parents.length - z) (0) rfl ⟨⟨⟨Nat.zero_le _, fun _ h => by simp at h⟩, hIt⟩, hb9, hX⟩ ?_
      rintro i w16 ⟨⟨⟨hi, hpk⟩, hIt⟩, hb9, hX⟩
      refine zq5 (zq0 (wl_p I_ok rfl (zq3 (zq1 (zq5 (c_if rfl (fun hc => ?_) (fun hc => ?_)))))))
      ·have hi : i < ((toHp l).obj y).parents.length := by omega
       obtain ⟨qb, qoff, hp, hsq⟩ := hol.parents.rowAll (fun r hr => IdIn.len (hoi.parents r hr)) (by omega)
       rw [hp]
       have ha1 : IdIn ((toHp l).obj y).parents[i] := hoi.parents _ (List.getElem_mem hi)
       refine zx7 (zq1 (zq5 (zx4 (zq5 (zq0 (wl (st_ix I_ok rfl 32 rfl i rfl (by omega) (qoff + i * 32) rfl (wl (st_ldN I_ok rfl ((hsq i hi).zq2 hX) ha1.len (wl (zz9 I_ok rfl fun b14 w17 hn14 hb14 hE17 => ?_)))))))))))
       have ne9_14 : b9 ≠ b14 := Nat.ne_of_lt (Nat.lt_of_lt_of_le hb9.lt hn14)
       have fr14 := Nat.le_trans hX.size hn14
       have hb9 := hb9.zq2 hE17
       have hIt := hIt.zq2 hE17
       have hX := hX.zq4 hE17
       have hb14o := hb14
       refine wl (zj1 (l' := zq6 ((toHp l).obj y).parents[i]) I_ok hb14 rfl rfl ha1.len (by rw [zx0, ha1]; rfl) OneC.h fun w18 hb14 hE18 hs18 => ?_)
       have hb9 := hb9.ext1 hE18 ne9_14
       have hIt := hIt.ext hE18 (hIt.neB hb14o).1 (hIt.neB hb14o).2
       have hX := hX.zx1 hE18 fr14
       refine zq3 (zq1 (zq5 (zq0 (wl_p I_ok rfl (wl (zj2 I_ok hb14 rfl ha1.len (wl (zx2 Tryz.call129 rfl rfl rfl rfl rfl rfl (kindB_calls w18 (hB.zq2 hX) ha1 3) fun v19 w19 hr19 => ?_))))))))
       obtain ⟨rfl, hE19⟩ := hr19
       have hb9 := hb9.zq2 hE19
       have hIt := hIt.zq2 hE19
       have hX := hX.zq4 hE19
       refine wl_p I_ok rfl (wl (zz9 I_ok rfl fun b15 w20 hn15 hb15 hE20 => ?_))
       have ne9_15 : b9 ≠ b15 := Nat.ne_of_lt (Nat.lt_of_lt_of_le hb9.lt hn15)
       have fr15 := Nat.le_trans hX.size hn15
       have hb9 := hb9.zq2 hE20
       have hIt := hIt.zq2 hE20
       have hX := hX.zq4 hE20
       have hb15o := hb15
       refine wl (zj1 (l' := objC ((toHp l).kObj ((toHp l).obj y).parents[i] 3) (kObjP l ((toHp l).obj y).parents[i] 3)) I_ok hb15 rfl rfl (zq7 (HpIn.kIn h _ 3)) (by rw [zq7 (HpIn.kIn h _ 3)]; rfl) OneC.h fun w21 hb15 hE21 hs21 => ?_)
       have hb9 := hb9.ext1 hE21 ne9_15
       have hIt := hIt.ext hE21 (hIt.neB hb15o).1 (hIt.neB hb15o).2
       have hX := hX.zx1 hE21 fr15
       refine wl_p I_ok rfl (zq3 (zq1 (zq5 ?_)))
       refine c_cutK (α := Bool) [0, 9, 12, 15, 29, 53, 54, 55] rfl (fun z => [(73, .bool z)]) (fun z u => u = w21 ∧ z = decide (¬ ((toHp l).kErr ((toHp l).obj y).parents[i] 3 = 0 ∧ ((toHp l).kObj ((toHp l).obj y).parents[i] 3).number < ((toHp l).obj y).number))) ?_ ?_
       ·refine zq0 ?_
        refine wl_p I_ok rfl (zj4 67 rfl (fun hg => ?_) (fun hg => ?_))
        ·refine zz5 I_ok 6 rfl ?_
         refine zq3 ?_
         exact zz7 (true) rfl ⟨rfl, by symm; rw [decide_eq_true_eq]; exact fun k => hg k.1⟩
        ·refine zz5 I_ok 1 rfl ?_
         refine wl (st_ld I_ok rfl (hb15.seg.obj (HpIn.kIn h _ 3)).number (zz5 I_ok 1 rfl (wl (st_ld I_ok rfl (hb9.seg.obj hoi).number (zz5 I_ok 2 rfl (zq3 ?_))))))
         exact zz7 (_) rfl ⟨rfl, by rw [decide_eq_decide]; exact ⟨fun k k2 => absurd k2.2 (by omega), fun k => by have : ¬ _ := fun k2 => k ⟨Decidable.not_not.1 hg, k2⟩; omega⟩⟩
       rintro z w22 ⟨hu, rfl⟩
       have hu := hu.symm
       subst hu
       refine c_cond rfl (fun hc => ?_) (fun hc => ?_)
       ·have hbad := par_no hi (of_decide_eq_true hc)
        have hng : ¬ (toHp l).Good y := fun k => hbad (k.2 hk3).2
        refine zq5 (zq0 (wl_p I_ok rfl (zq3 (zq1 (zj0 (zx5 (zz3 (zx5 (zx5 (zz3 (zx5 (zz3 (zx5 (zz3 (zx5 (zz2 rfl rfl ?_))))))))))))))))
        exact ⟨by rw [closed3 hk0 hym hng], hX⟩
       ·have hgp := Decidable.not_not.1 (of_decide_eq_false hc)
        have hlt := hgp.2
        have htl := top_le (h := toHp l) fun y hy => (hpk y hy).2
        refine zx7 (zq1 (zq0 (wl_p I_ok rfl (wl (st_ld I_ok rfl (hb15.seg.obj (HpIn.kIn h _ 3)).number (wl_p I_ok rfl (zq3 (zx6 (zq1 (zq0 (wl_p I_ok rfl ?_)))))))))))
        rw [IntWalk.i64_in _ (by omega)]
        refine zq3 ?_
        exact zv1 (i + 1) (by rw [top_take hi, max_u32 hlt hnu]; rfl) ⟨⟨⟨hi, fun y hy => by rw [List.take_succ_eq_append_getElem hi] at hy; rcases List.mem_append.1 hy with hy | hy; exact hpk y hy; rw [List.mem_singleton.1 hy]; exact hgp⟩, hIt⟩, hb9, hX⟩ (by first | omega | (dsimp only; omega))
      ·have h0 : i = ((toHp l).obj y).parents.length := by omega
       subst h0
       rw [List.take_length] at hpk ⊢
       refine c_exit (zx3 (zx3 (zz0 (zq1 (zq5 (zq0 (wl_p I_ok rfl (wl (st_ld I_ok rfl (hb9.seg.obj hoi).number (wl_p I_ok rfl (zq3 (zq1 (c_if rfl (fun hc => ?_) (fun hc => ?_))))))))))))))
       ·have hng : ¬ (toHp l).Good y := fun k => hc (by rw [(k.2 hk3).2.2])
        refine zq5 (zq0 (wl_p I_ok rfl (zq3 (zq1 (zj0 (zz3 (zx5 (zz3 (zx5 (zz2 rfl rfl ?_))))))))))
        exact ⟨by rw [closed3 hk0 hym hng], hX⟩
       ·have hgd : (toHp l).Good y := ⟨he0, fun _ => ⟨hm0, hpk, by have := Decidable.not_not.1 hc; omega⟩⟩
        refine zx7 ?_
        exact zx6 (zv1 (dn ++ [y]) rfl ⟨⟨fun z hz => by rcases List.mem_append.1 hz with hz | hz; exact hok z hz; rw [List.mem_singleton.1 hz]; exact hgd, hIt⟩, hX⟩ (by first | omega | (dsimp only; omega)))
def cmpI (x y : IdB) : Int := if idLt x y then -1 else if x = y then 0 else 1
theorem lessS_calls (w : World) {x y : IdB} (hx : x.length = 32) (hy : y.length = 32) :
  zz1 Tryz.prog 134 [.agg (zq6 x).toArray, .agg (zq6 y).toArray] w fun v w' => v = .bool (decide (idLt x y)) ∧ Ext No w w' := by
 refine zq9 Tryz.func134 rfl rfl rfl rfl ?_
 have hX := Ext.refl No w
 refine zq5 (zq0 (wl (zz9 I_ok rfl fun b2 w1 hn2 hb2 hE1 => ?_)))
 have hX := hX.zq4 hE1
 have hb2 : Blk w1 b2 31 (zq6 x) := hb2
 refine wl (zz9 I_ok rfl fun b3 w2 hn3 hb3 hE2 => ?_)
 have hb2 := hb2.zq2 hE2
 have hX := hX.zq4 hE2
 have hb3 : Blk w2 b3 31 (zq6 y) := hb3
 refine wl_p I_ok rfl (zq3 (zq1 (zq5 (zq5 (zq0 (wl (zj2 I_ok hb2 rfl (IdIn.len hx) (wl (zj2 I_ok hb3 rfl (IdIn.len hy) (wl (st_eqK rfl gId 10 (by decide) kId (idForm hx) (idForm hy) (idKey hx) (idKey hy) idLits_inj ?_)))))))))))
 simp only [if_true]
 refine zq3 (zq1 (c_if rfl (fun hc => ?_) (fun hc => ?_)))
 ·refine zq5 ?_
  refine zq0 (wl_p I_ok rfl (zq3 (zq1 (zj0 (zx5 (zz2 rfl rfl ?_))))))
  exact ⟨congrArg Value.bool (by symm; rw [decide_eq_false_iff_not, hc]; exact idLt_irrefl y), hX⟩
 ·have hne : ¬ x = y := hc
  refine zx7 (zq1 (zq5 (zq0 (wl_p I_ok rfl (zq3 (zq1 (zq5 (zx4 ?_))))))))
  refine zv3 (α := Nat) [2, 3] rfl (fun z => [(5, .int .i64 (z : Int))]) (fun z u => (z < 32 ∧ ∀ k (h1 : k < x.length) (h2 : k < y.length), k < z → x[k] = y[k]) ∧ Blk u b2 31 (zq6 x) ∧ Blk u b3 31 (zq6 y) ∧ Ext No w u) (fun z u => 32 - z) (0) rfl ⟨⟨by decide, fun k _ _ h => absurd h (Nat.not_lt_zero _)⟩, hb2, hb3, hX⟩ ?_
  rintro i w3 ⟨⟨hi, hno⟩, hb2, hb3, hX⟩
  have hix : i < x.length := by omega
  have hiy : i < y.length := by omega
  refine zq5 (zq5 (c_draw rfl 7 [(0, true), (1, true), (2, true), (3, true), (4, true), (5, true), (6, true)] [] (No) (by kernel_rfl) fun w4 hE4 hs4 => ?_))
  have hd2 := hb2
  have hd3 := hb3
  have hb2 := hb2.zq2 hE4
  have hb3 := hb3.zq2 hE4
  have hX := hX.zq4 hE4
  refine wd_k I_ok 1 rfl (wd_ix I_ok rfl rfl 1 rfl i (by omega) (by omega) (0 + i) (by omega) (wd_ld I_ok rfl rfl (fun w' hw' => ((hd2.zq2 hw').seg i _ (bytesU_get x (by rw [hx]; exact hi)))) ?_))
  refine wd_k I_ok 1 rfl (wd_ix I_ok rfl rfl 1 rfl i (by omega) (by omega) (0 + i) (by omega) (wd_ld I_ok rfl rfl (fun w' hw' => ((hd3.zq2 hw').seg i _ (bytesU_get y (by rw [hy]; exact hi)))) ?_))
  refine wd_k I_ok 1 rfl (wd_sw (zv0 (zq1 (c_if rfl (fun hc => ?_) (fun hc => ?_)))))
  ·have he : x[i] = y[i] := Decidable.not_not.1 fun k => byte_ne.2 k hc
   have hno2 : ∀ k (h1 : k < x.length) (h2 : k < y.length), k < i + 1 → x[k] = y[k] := fun k h1 h2 hlt => (Nat.lt_or_eq_of_le (Nat.le_of_lt_succ hlt)).elim (fun h => hno k h1 h2 h) fun h => by subst h; exact he
   have hi2 : i + 1 < 32 := by
    rcases Nat.lt_or_ge (i + 1) 32 with k | k
    ·exact k
    ·exact absurd (List.ext_getElem (by omega) fun j h1 h2 => hno2 j h1 h2 (by omega)) hne
   refine zx7 (zq1 (zx4 (zq0 (wl_p I_ok rfl ?_))))
   rw [IntWalk.i64_in _ (by omega)]
   refine zq3 ?_
   exact zx6 (zv1 (i + 1) rfl ⟨⟨hi2, hno2⟩, hb2, hb3, hX⟩ (by first | omega | (dsimp only; omega)))
  ·have hne2 : x[i] ≠ y[i] := byte_ne.1 hc
   refine c_exit (zx3 (zx3 (zz0 (zq1 (zq5 (c_draw rfl 8 [(0, true), (1, true), (2, true), (3, true), (4, true), (5, true), (6, true), (7, true)] [] (No) (by kernel_rfl) fun w5 hE5 hs5 => ?_))))))
   have hd2 := hb2
   have hd3 := hb3
   have hX := hX.zq4 hE5
   refine wd_k I_ok 1 rfl (wd_ix I_ok rfl rfl 1 rfl i (by omega) (by omega) (0 + i) (by omega) (wd_ld I_ok rfl rfl (fun w' hw' => ((hd2.zq2 hw').seg i _ (bytesU_get x (by rw [hx]; exact hi)))) ?_))
   refine wd_k I_ok 1 rfl (wd_ix I_ok rfl rfl 1 rfl i (by omega) (by omega) (0 + i) (by omega) (wd_ld I_ok rfl rfl (fun w' hw' => ((hd3.zq2 hw').seg i _ (bytesU_get y (by rw [hy]; exact hi)))) ?_))
   refine wd_k I_ok 2 rfl (wd_sw (zv0 (zq1 (zj0 (zz2 rfl rfl ?_)))))
   exact ⟨congrArg Value.bool (by rw [decide_eq_decide, byte_lt, idLt, bl_at i x y hix hiy hno hne2, decide_eq_true_eq]), hX⟩
theorem compared_calls (w : World) {x y : IdB} (hx : x.length = 32) (hy : y.length = 32) :
  zz1 Tryz.prog 77 [.agg (zq6 x).toArray, .agg (zq6 y).toArray] w fun v w' => v = .int .i64 (cmpI x y) ∧ Ext No w w' := by
 refine zq9 Tryz.func77 rfl rfl rfl rfl ?_
 have hX := Ext.refl No w
 refine zq5 (zq0 (wl (zz9 I_ok rfl fun b2 w1 hn2 hb2 hE1 => ?_)))
 have hX := hX.zq4 hE1
 have hb2 : Blk w1 b2 31 (zq6 x) := hb2
 refine wl (zz9 I_ok rfl fun b3 w2 hn3 hb3 hE2 => ?_)
 have hb2 := hb2.zq2 hE2
 have hX := hX.zq4 hE2
 have hb3 : Blk w2 b3 31 (zq6 y) := hb3
 refine wl_p I_ok rfl (zq3 (zq1 (zq5 (zx4 (zq5 (zq0 (wl (zj2 I_ok hb2 rfl (IdIn.len hx) (wl (zj2 I_ok hb3 rfl (IdIn.len hy) ?_))))))))))
 refine wl (zx2 Tryz.call134 rfl rfl rfl rfl rfl rfl (lessS_calls w2 hx hy) fun v3 w3 hr3 => ?_)
 obtain ⟨rfl, hE3⟩ := hr3
 have hb2 := hb2.zq2 hE3
 have hb3 := hb3.zq2 hE3
 have hX := hX.zq4 hE3
 refine wl_p I_ok rfl (zq3 (zq1 (c_if rfl (fun hc => ?_) (fun hc => ?_))))
 ·refine zq5 ?_
  refine zq0 (wl_p I_ok rfl (zq3 (zq1 (zj0 (zz3 (zx5 (zz2 rfl rfl ?_)))))))
  exact ⟨by rw [cmpI, if_pos hc], hX⟩
 ·have hlt := hc
  refine zq5 (zq0 (wl (zj2 I_ok hb2 rfl (IdIn.len hx) (wl (zj2 I_ok hb3 rfl (IdIn.len hy) (wl (st_eqK rfl gId 10 (by decide) kId (idForm hx) (idForm hy) (idKey hx) (idKey hy) idLits_inj ?_)))))))
  simp only [if_true]
  refine wl_p I_ok rfl (zq3 (zq1 (c_if rfl (fun hc => ?_) (fun hc => ?_))))
  ·refine zq5 ?_
   refine zq0 (wl_p I_ok rfl (zq3 (zq1 (zj0 (zz3 (zx5 (zz2 rfl rfl ?_)))))))
   exact ⟨by rw [cmpI, if_neg hlt, if_pos hc], hX⟩
  ·refine zx7 ?_
   refine zx6 (zq1 (zq5 (zq0 (wl_p I_ok rfl (zq3 (zq1 (zj0 (zz2 rfl rfl ?_))))))))
   exact ⟨by rw [cmpI, if_neg hlt, if_neg hc], hX⟩
theorem toHp_len (l : List zz4) : (toHp l).length = l.length := List.length_map _
theorem same_step {l m : List zz4} {i : Nat} (hi : i < l.length) (hm : i < m.length) (h : toHp (l.take i) = toHp (m.take i)) (he : l[i].id = m[i].id) (ho : l[i].o = m[i].o) : toHp (l.take (i + 1)) = toHp (m.take (i + 1)) := by
 unfold toHp at h ⊢
 rw [List.take_succ_eq_append_getElem hi, List.take_succ_eq_append_getElem hm, List.map_append, List.map_append, h]
 simp [he, ho]
theorem same_no {l m : List zz4} {i : Nat} (hi : i < l.length) (hm : i < m.length) (h : ¬ (l[i].id = m[i].id ∧ l[i].o = m[i].o)) : toHp l ≠ toHp m := fun e => by
 have e1 : (toHp l)[i]'(by rw [toHp_len]; exact hi) = (toHp m)[i]'(by rw [toHp_len]; exact hm) := List.getElem_of_eq e _
 simp only [toHp, List.getElem_map, Prod.mk.injEq] at e1
 exact h e1
theorem sameHeap_calls (w : World) {p q : Option Addr} {c d : Nat} {l m : List zz4} (h : HpIn w p l) (h' : HpIn w q m) :
  zz1 Tryz.prog 18 [.agg #[.slice p l.length c], .agg #[.slice q m.length d]] w fun v w' => v = .bool (decide (toHp l = toHp m)) ∧ Ext No w w' := by
 have hl1 := h.len
 have hl2 := h'.len
 refine zq9 Tryz.func18 rfl rfl rfl rfl ?_
 have hX := Ext.refl No w
 refine zq5 (zq0 (wl (zz9 I_ok rfl fun b2 w1 hn2 hb2 hE1 => ?_)))
 have hX := hX.zq4 hE1
 have hb2 : Blk w1 b2 29 ([.slice p l.length c]) := hb2
 refine wl (zz9 I_ok rfl fun b3 w2 hn3 hb3 hE2 => ?_)
 have hb2 := hb2.zq2 hE2
 have hX := hX.zq4 hE2
 have hb3 : Blk w2 b3 29 ([.slice q m.length d]) := hb3
 refine wl_p I_ok rfl (zq3 (zq1 (zq5 (zq5 (zq0 (wl_p I_ok rfl (wl (st_ldb I_ok hb2 rfl rfl (wl_p I_ok rfl (wl (st_ldb I_ok hb3 rfl rfl (wl_p I_ok rfl (zq3 (zq1 (c_if rfl (fun hc => ?_) (fun hc => ?_))))))))))))))))
 ·have hne : toHp l ≠ toHp m := fun e => hc (by have := congrArg List.length e; rw [toHp_len, toHp_len] at this; rw [this])
  refine zq5 (zq0 (wl_p I_ok rfl (zq3 (zq1 (zj0 (zx5 (zz2 rfl rfl ?_)))))))
  exact ⟨congrArg Value.bool (decide_eq_false hne).symm, hX⟩
 ·have hlm : l.length = m.length := by omega
  refine zx7 (zq1 (zq5 (zq5 (zq0 (wl_p I_ok rfl (wl (st_ldb I_ok hb2 rfl rfl (wl_p I_ok rfl (zq3 (zq1 (zx4 ?_)))))))))))
  refine zv3 (α := Nat) [2, 3, 15] rfl (fun z => [(16, .int .i64 (z : Int))]) (fun z u => (z ≤ l.length ∧ toHp (l.take z) = toHp (m.take z)) ∧ Blk u b2 29 ([.slice p l.length c]) ∧ Blk u b3 29 ([.slice q m.length d]) ∧ Ext No w u) (fun z u => l.length - z) (0) rfl ⟨⟨Nat.zero_le _, rfl⟩, hb2, hb3, hX⟩ ?_
  rintro i w3 ⟨⟨hi, hsm⟩, hb2, hb3, hX⟩
  refine zq5 (zq0 (wl_p I_ok rfl (zq3 (zq1 (zq5 (c_if rfl (fun hc => ?_) (fun hc => ?_)))))))
  ·have hi : i < l.length := by omega
   have hm : i < m.length := by omega
   obtain ⟨b1, o1, rfl, hs1⟩ := h.sl.rowAll h.c (by omega)
   obtain ⟨b2', o2, rfl, hs2⟩ := h'.sl.rowAll h'.c (by omega)
   have hni := h.ins _ (List.getElem_mem hi)
   have hnm := h'.ins _ (List.getElem_mem hm)
   refine zx7 (zq1 (zq5 (zx4 (zq5 (zq0 (wl_p I_ok rfl (zq3 (zq1 ?_))))))))
   refine c_cutK (α := Bool) [2, 3, 15, 16] rfl (fun z => [(47, .bool z)]) (fun z u => (z = decide (¬ (l[i].id = m[i].id ∧ l[i].o = m[i].o))) ∧ Blk u b2 29 ([.slice (some ⟨b1, o1, none⟩) l.length c]) ∧ Blk u b3 29 ([.slice (some ⟨b2', o2, none⟩) m.length d]) ∧ Ext No w u) ?_ ?_
   ·refine c_draw rfl 29 [(0, true), (1, true), (2, true), (3, true), (4, true), (5, true), (6, true), (7, true), (8, true), (9, true), (10, true), (11, true), (12, true), (13, true), (14, true), (15, true), (16, true), (17, true), (18, true), (19, true), (20, true), (21, true), (22, true), (23, true), (24, true), (25, true), (26, false), (27, true), (28, true)] [] (No) (by kernel_rfl) fun w4 hE4 hs4 => ?_
    have hd2 := hb2
    have hd3 := hb3
    have hXd := hX
    have hb2 := hb2.zq2 hE4
    have hb3 := hb3.zq2 hE4
    have hX := hX.zq4 hE4
    have hC : Ext (No) _ w4 := hE4.no
    refine wd_k I_ok 1 rfl (wd_ld I_ok rfl rfl (fun w' hw' => (hd2.zq2 hw').cell rfl) ?_)
    refine wd_k I_ok 1 rfl (wd_ix I_ok rfl rfl 105 rfl i (by omega) (by omega) (o1 + i * 105) (by omega) (wd_k I_ok 1 rfl (wd_ldN I_ok rfl rfl (fun w' hw' => (held_id ((hs1 i hi).zq2 (hXd.zq4 hw')))) (IdIn.len hni.id) ?_)))
    refine wd_k I_ok 1 rfl (wd_ld I_ok rfl rfl (fun w' hw' => (hd3.zq2 hw').cell rfl) ?_)
    refine wd_k I_ok 1 rfl (wd_ix I_ok rfl rfl 105 rfl i (by omega) (by omega) (o2 + i * 105) (by omega) (wd_k I_ok 1 rfl (wd_ldN I_ok rfl rfl (fun w' hw' => (held_id ((hs2 i hm).zq2 (hXd.zq4 hw')))) (IdIn.len hnm.id) ?_)))
    refine wd_eqK rfl rfl gId 10 (by decide) kId (idForm hni.id) (idForm hnm.id) (idKey hni.id) (idKey hnm.id) idLits_inj ?_
    simp only [Bool.false_eq_true, if_false]
    refine wd_k I_ok 1 rfl (wd_caseD 32 rfl (fun hg => ?_) (fun hg => ?_))
    ·refine wd_k I_ok 15 rfl ?_
     refine wd_sw (zv0 ?_)
     exact zz7 (true) rfl ⟨by symm; rw [decide_eq_true_eq]; exact fun k => hg k.1, hb2, hb3, hX⟩
    ·refine wd_k I_ok 1 rfl ?_
     refine wd_ld I_ok rfl rfl (fun w' hw' => (hd2.zq2 hw').cell rfl) ?_
     refine wd_k I_ok 1 rfl (wd_ix I_ok rfl rfl 105 rfl i (by omega) (by omega) (o1 + i * 105) (by omega) (wd_k I_ok 1 rfl (wd_ldN I_ok rfl rfl (fun w' hw' => (held_obj ((hs1 i hi).zq2 (hXd.zq4 hw')) hni.id)) (zq7 hni.o) ?_)))
     refine wd_k I_ok 1 rfl (wd_ld I_ok rfl rfl (fun w' hw' => (hd3.zq2 hw').cell rfl) ?_)
     refine wd_k I_ok 1 rfl (wd_ix I_ok rfl rfl 105 rfl i (by omega) (by omega) (o2 + i * 105) (by omega) (wd_k I_ok 1 rfl (wd_ldN I_ok rfl rfl (fun w' hw' => (held_obj ((hs2 i hm).zq2 (hXd.zq4 hw')) hnm.id)) (zq7 hnm.o) ?_)))
     refine wd_l rfl (zx2 Tryz.call17 rfl rfl rfl rfl rfl rfl (same6_calls w4 hni.o hnm.o (hni.l.zq2 hX) (hnm.l.zq2 hX) hni.sh) fun v5 w5 hr5 => ⟨(by obtain ⟨rfl, hE5⟩ := hr5; exact hC.zq4 hE5), ?_⟩)
     obtain ⟨rfl, hE5⟩ := hr5
     have hb2 := hb2.zq2 hE5
     have hb3 := hb3.zq2 hE5
     have hX := hX.zq4 hE5
     refine wd_k I_ok 2 rfl (wd_sw (zv0 ?_))
     exact zz7 (_) rfl ⟨by rw [← decide_not, decide_eq_decide]; exact ⟨fun k k2 => k k2.2, fun k k2 => k ⟨Decidable.not_not.1 hg, k2⟩⟩, hb2, hb3, hX⟩
   rintro z w6 ⟨rfl, hb2, hb3, hX⟩
   refine c_cond rfl (fun hc => ?_) (fun hc => ?_)
   ·have hne := same_no hi hm (of_decide_eq_true hc)
    refine zq5 (zq0 (wl_p I_ok rfl (zq3 (zq1 (zj0 (zz3 (zx5 (zx5 (zz3 (zx5 (zz2 rfl rfl ?_)))))))))))
    exact ⟨congrArg Value.bool (decide_eq_false hne).symm, hX⟩
   ·have heq := Decidable.not_not.1 (of_decide_eq_false hc)
    refine zx7 (zx6 (zq1 (zq0 (wl_p I_ok rfl ?_))))
    rw [IntWalk.i64_in _ (by omega)]
    refine zq3 ?_
    exact zv1 (i + 1) rfl ⟨⟨hi, same_step hi hm hsm heq.1 heq.2⟩, hb2, hb3, hX⟩ (by first | omega | (dsimp only; omega))
  ·have h0 : i = l.length := by omega
   subst h0
   have e1 : toHp l = toHp m := by rw [List.take_length] at hsm; rw [hsm, hlm, List.take_length]
   refine c_exit (zx3 (zx3 (zz0 (zq1 (zq5 (zq0 (wl_p I_ok rfl (zq3 (zq1 (zj0 (zz2 rfl rfl ?_)))))))))))
   exact ⟨congrArg Value.bool (decide_eq_true e1).symm, hX⟩
structure HeldNew (W0 w : World) (h : zz4) : Prop where
  id : h.id.length = 32
  o : ObjIn h.o
  sh : Short h.o
  l : ObjNew W0 w h.o h.a
theorem HeldNew.held {W0 w : World} {h : zz4} (k : HeldNew W0 w h) : HeldIn w h := ⟨k.id, k.o, k.sh, k.l.l⟩
theorem HeldNew.zq2 {W0 w w' : World} {h : zz4} (k : HeldNew W0 w h) (hE : Ext No w w') : HeldNew W0 w' h := ⟨k.id, k.o, k.sh, k.l.zq2 hE⟩
theorem HeldNew.ext1 {W0 w w' : World} {h : zz4} (k : HeldNew W0 w h) {b T : Nat} {L : List Value} (hE : Ext (One b) w w') (hb : Blk w b T L) (h1 : 56 ≠ T) (h2 : 31 ≠ T) (h3 : 114 ≠ T) : HeldNew W0 w' h := ⟨k.id, k.o, k.sh, k.l.ext1 hE hb h1 h2 h3⟩
theorem HeldNew.zq8 {W0 w w' : World} {h : zz4} (k : HeldNew W0 w h) {q : Option Addr} {n c T sz : Nat} {xs : List Value} (ho : Own w q n c T sz xs) (hE : Ext (OwnB q) w w') (h1 : T ≠ 56) (h2 : T ≠ 31) (h3 : T ≠ 114) : HeldNew W0 w' h :=
 ⟨k.id, k.o, k.sh, ⟨k.l.ol.zq8 ho hE h1, k.l.op.zq8 ho hE h2, k.l.or.zq8 ho hE h3, k.l.nl, k.l.np, k.l.nr⟩⟩
theorem HeldNew.older {W0 W1 w : World} {h : zz4} (k : HeldNew W1 w h) (hX : W0.heap.size ≤ W1.heap.size) : HeldNew W0 w h := ⟨k.id, k.o, k.sh, k.l.older hX⟩
theorem hp_take {l L : List zz4} {i : Nat} (hi : i < l.length) (h : toHp L = toHp (l.take i)) (a : ObjP) : toHp (L ++ [⟨l[i].id, l[i].o, a⟩]) = toHp (l.take (i + 1)) := by
 unfold toHp at h ⊢
 rw [List.take_succ_eq_append_getElem hi, List.map_append, List.map_append, h]
 rfl
def heldB (t : Str) : zz4 := ⟨idOf (blobO t), blobO t, noP⟩
def addT (acc : List Str) (r : RowD) : List Str := if r.text ∈ acc then acc else acc ++ [r.text]
def refT (l : List RowD) : List Str := l.foldl addT []
theorem refT_take {l : List RowD} {i : Nat} (h : i < l.length) : refT (l.take (i + 1)) = addT (refT (l.take i)) l[i] := by
 rw [List.take_succ_eq_append_getElem h, refT, List.foldl_append]; rfl
theorem refT_len (l : List RowD) : (refT l).length ≤ l.length := by
 have : ∀ (l : List RowD) (acc : List Str), (l.foldl addT acc).length ≤ acc.length + l.length := by
  intro l
  induction l with
  | nil => intro acc; simp
  | cons r l ih =>
   intro acc
   have h1 := ih (addT acc r)
   have h2 : (addT acc r).length ≤ acc.length + 1 := by unfold addT; split <;> simp
   rw [List.foldl_cons, List.length_cons]
   omega
 simpa [refT] using this l []
theorem heldB_in (t : Str) : (heldC (heldB t)).length = 105 := heldC_len (zj6 _) (blobO_in _)
theorem heldBs {l : List Str} : ∀ h ∈ l.map heldB, (heldC h).length = 105 := fun h hh => by obtain ⟨t, _, rfl⟩ := List.mem_map.1 hh; exact heldB_in t
def refP (l : List RowD) (a : ObjP) : List zz4 := (refT l).map heldB ++ [⟨idOf (treeOf l), treeOf l, a⟩]
theorem mem_step {α : Type} [DecidableEq α] {l : List α} {j : Nat} (h : j < l.length) {x : α} : x ∈ l.take (j + 1) ↔ x ∈ l.take j ∨ l[j] = x := by
 rw [List.take_succ_eq_append_getElem h, List.mem_append, List.mem_singleton]
 exact ⟨fun h => h.imp id Eq.symm, fun h => h.imp id Eq.symm⟩
theorem parts6_calls (w : World) {p : Option Addr} {c : Nat} {rows : List RowD} (hrows : RowsOk rows) (hs : Sl w p rows.length 2 (rows.flatMap RowD.cells)) :
  zz1 Tryz.prog 82 [.agg #[.slice p rows.length c]] w fun v w' => ∃ q k lp lc, (ObjOk (treeOf rows) → v = .slice q (refP rows (lfP lp lc)).length k ∧ Own w' q (refP rows (lfP lp lc)).length k 48 105 ((refP rows (lfP lp lc)).flatMap heldC)) ∧ (¬ ObjOk (treeOf rows) → v = .slice none 0 0) ∧
   (∀ x, OwnB q x → w.heap.size ≤ x) ∧ Own w' lp (leavesOf rows).length lc 56 33 ((leavesOf rows).flatMap zj8.cells) ∧ (∀ x, OwnB lp x → w.heap.size ≤ x) ∧ Ext No w w' := by
 have hr32 := rows_at hrows
 have hll : (leavesOf rows).length = rows.length := by rw [leavesOf, List.length_map]
 refine zq9 Tryz.func82 rfl rfl rfl rfl ?_
 have hX := Ext.refl No w
 refine zq5 (zq0 (wl (zz9 I_ok rfl fun b1 w1 hn1 hb1 hE1 => ?_)))
 have hX := hX.zq4 hE1
 have hb1 : Blk w1 b1 102 ([.slice p rows.length c]) := hb1
 refine wl_p I_ok rfl (zq3 (zq1 (zq5 (zq0 (wl_p I_ok rfl (zq3 (zq1 (zq5 (zq0 (wl (st_bd I_ok rfl ⟨⟨rfl, by decide⟩, trivial⟩ (l' := objC (treeO []) noP) (by rw [← objZ_c]; rfl) ?_)))))))))))
 refine wl (zz9 I_ok rfl fun b4 w2 hn4 hb4 hE2 => ?_)
 have ne1_4 : b1 ≠ b4 := Nat.ne_of_lt (Nat.lt_of_lt_of_le hb1.lt hn4)
 have fr4 := Nat.le_trans hX.size hn4
 have hb1 := hb1.zq2 hE2
 have hX := hX.zq4 hE2
 have hb4o := hb4
 refine wl (zj1 (l' := objC (treeO []) noP) I_ok hb4 rfl rfl rfl rfl OneC.h fun w3 hb4 hE3 hs3 => ?_)
 have hb1 := hb1.ext1 hE3 ne1_4
 have hX := hX.zx1 hE3 fr4
 refine zq3 (zq1 (zq5 (zq5 (zq0 (wl_p I_ok rfl (wl (st_ldb I_ok hb1 rfl rfl (wl_p I_ok rfl (zq3 (zq1 (zx4 ?_)))))))))))
 refine zv3 (α := Nat × (Option Addr × Nat) × (Option Addr × Nat)) [4, 14, 15] rfl (fun z => [(3, .slice z.2.1.1 (refT (rows.take z.1)).length z.2.1.2), (16, .int .i64 (z.1 : Int))]) (fun z u => (z.1 ≤ rows.length ∧ Own u z.2.1.1 (refT (rows.take z.1)).length z.2.1.2 48 105 (((refT (rows.take z.1)).map heldB).flatMap heldC) ∧ (∀ x, OwnB z.2.1.1 x → w.heap.size ≤ x) ∧ Own u z.2.2.1 ((leavesOf rows).take z.1).length z.2.2.2 56 33 (((leavesOf rows).take z.1).flatMap zj8.cells) ∧ (∀ x, OwnB z.2.2.1 x → w.heap.size ≤ x)) ∧ Blk u b1 102 ([.slice p rows.length c]) ∧ Blk u b4 46 (objC (treeO ((leavesOf rows).take z.1)) (lfP z.2.2.1 z.2.2.2)) ∧ Ext No w u) (fun z u => rows.length - z.1) (0, (none, 0), (none, 0)) rfl ⟨⟨Nat.zero_le _, Own.nil _ _ _, noOwn, Own.nil _ _ _, noOwn⟩, hb1, hb4, hX⟩ ?_
 rintro ⟨i, ⟨q, k⟩, ⟨lp, lc⟩⟩ w4 ⟨⟨hi, hq, hqn, hlf, hlfn⟩, hb1, hb4, hX⟩
 try dsimp only
 dsimp only at hi hq hqn hlf hlfn
 refine zq5 (zq0 (wl_p I_ok rfl (zq3 (zq1 (zq5 (c_if rfl (fun hc => ?_) (fun hc => ?_)))))))
 ·have hi : i < rows.length := by omega
  obtain ⟨qb, qoff, hp, hsq⟩ := hs.rowAll (fun r _ => r.len) (by omega)
  rw [hp] at hb1 ⊢
  have hri := hr32.2 _ (List.getElem_mem hi)
  have htl : ((leavesOf rows).take i).length = i := by rw [List.length_take, hll]; omega
  have hacl : (refT (rows.take i)).length ≤ i := Nat.le_trans (refT_len _) (by rw [List.length_take]; omega)
  refine zx7 (zq1 (zq5 (zx4 (zq5 (zq0 (wl (st_ix I_ok rfl 2 rfl i rfl (by omega) (qoff + i * 2) rfl (wl (st_ldN I_ok rfl ((hsq i hi).zq2 hX) rfl (wl (zz9 I_ok rfl fun b6 w5 hn6 hb6 hE5 => ?_)))))))))))
  have ne1_6 : b1 ≠ b6 := Nat.ne_of_lt (Nat.lt_of_lt_of_le hb1.lt hn6)
  have ne4_6 : b4 ≠ b6 := Nat.ne_of_lt (Nat.lt_of_lt_of_le hb4.lt hn6)
  have fr6 := Nat.le_trans hX.size hn6
  have hb1 := hb1.zq2 hE5
  have hb4 := hb4.zq2 hE5
  have hq := hq.ext hE5 fun _ _ => id
  have hlf := hlf.ext hE5 fun _ _ => id
  have hX := hX.zq4 hE5
  skip
  have hb6o := hb6
  refine wl (zj1 (l' := (rows[i]).cells) I_ok hb6 rfl rfl rfl rfl OneC.h fun w6 hb6 hE6 hs6 => ?_)
  have hb1 := hb1.ext1 hE6 ne1_6
  have hb4 := hb4.ext1 hE6 ne4_6
  have hq := hq.zx9 hE6 hb6o (by decide)
  have hlf := hlf.zx9 hE6 hb6o (by decide)
  have hX := hX.zx1 hE6 fr6
  refine zq3 (zq1 (zq5 (zq0 (wl_p I_ok rfl (wl (st_ldb I_ok hb6 rfl rfl (wl (st_bd I_ok rfl ⟨⟨rfl, by decide⟩, ⟨rfl, by decide⟩, trivial⟩ (l' := objC (blobO (rows[i]).text) noP) (by rw [← objZ_c]; rfl) ?_))))))))
  refine wl (zz9 I_ok rfl fun b7 w7 hn7 hb7 hE7 => ?_)
  have ne1_7 : b1 ≠ b7 := Nat.ne_of_lt (Nat.lt_of_lt_of_le hb1.lt hn7)
  have ne4_7 : b4 ≠ b7 := Nat.ne_of_lt (Nat.lt_of_lt_of_le hb4.lt hn7)
  have ne6_7 : b6 ≠ b7 := Nat.ne_of_lt (Nat.lt_of_lt_of_le hb6.lt hn7)
  have fr7 := Nat.le_trans hX.size hn7
  have hb1 := hb1.zq2 hE7
  have hb4 := hb4.zq2 hE7
  have hb6 := hb6.zq2 hE7
  have hq := hq.ext hE7 fun _ _ => id
  have hlf := hlf.ext hE7 fun _ _ => id
  have hX := hX.zq4 hE7
  have hb7o := hb7
  refine wl (zj1 (l' := objC (blobO (rows[i]).text) noP) I_ok hb7 rfl rfl rfl rfl OneC.h fun w8 hb7 hE8 hs8 => ?_)
  have hb1 := hb1.ext1 hE8 ne1_7
  have hb4 := hb4.ext1 hE8 ne4_7
  have hb6 := hb6.ext1 hE8 ne6_7
  have hq := hq.zx9 hE8 hb7o (by decide)
  have hlf := hlf.zx9 hE8 hb7o (by decide)
  have hX := hX.zx1 hE8 fr7
  refine zq3 (zq1 (zq5 (zq0 (wl (zj2 I_ok hb7 rfl rfl (wl (zx2 Tryz.call21 rfl rfl rfl rfl rfl rfl (id6_calls w8 (blobO_in _) (blob_l _ _) (bytes_of (blob_ok hri.2).1)) fun v9 w9 hr9 => ?_)))))))
  obtain ⟨rfl, hE9⟩ := hr9
  have hb1 := hb1.zq2 hE9
  have hb4 := hb4.zq2 hE9
  have hb6 := hb6.zq2 hE9
  have hb7 := hb7.zq2 hE9
  have hq := hq.ext hE9 fun _ _ => id
  have hlf := hlf.ext hE9 fun _ _ => id
  have hX := hX.zq4 hE9
  refine wl (zz9 I_ok rfl fun b8 w10 hn8 hb8 hE10 => ?_)
  have ne1_8 : b1 ≠ b8 := Nat.ne_of_lt (Nat.lt_of_lt_of_le hb1.lt hn8)
  have ne4_8 : b4 ≠ b8 := Nat.ne_of_lt (Nat.lt_of_lt_of_le hb4.lt hn8)
  have ne6_8 : b6 ≠ b8 := Nat.ne_of_lt (Nat.lt_of_lt_of_le hb6.lt hn8)
  have ne7_8 : b7 ≠ b8 := Nat.ne_of_lt (Nat.lt_of_lt_of_le hb7.lt hn8)
  have fr8 := Nat.le_trans hX.size hn8
  have hb1 := hb1.zq2 hE10
  have hb4 := hb4.zq2 hE10
  have hb6 := hb6.zq2 hE10
  have hb7 := hb7.zq2 hE10
  have hq := hq.ext hE10 fun _ _ => id
  have hlf := hlf.ext hE10 fun _ _ => id
  have hX := hX.zq4 hE10
  have hb8o := hb8
  refine wl (zj1 (l' := zq6 (idOf (blobO (rows[i]).text))) I_ok hb8 rfl rfl (by rw [zx0, zj6]) (by rw [zx0, zj6]; rfl) OneC.h fun w11 hb8 hE11 hs11 => ?_)
  have hb1 := hb1.ext1 hE11 ne1_8
  have hb4 := hb4.ext1 hE11 ne4_8
  have hb6 := hb6.ext1 hE11 ne6_8
  have hb7 := hb7.ext1 hE11 ne7_8
  have hq := hq.zx9 hE11 hb8o (by decide)
  have hlf := hlf.zx9 hE11 hb8o (by decide)
  have hX := hX.zx1 hE11 fr8
  refine zq3 (zq1 (zq5 (zq0 (wl_p I_ok rfl (zq3 (zq1 (zq5 (zq5 (zq0 (wl_p I_ok rfl (zq3 (zq1 (zx4 ?_)))))))))))))
  refine zv3 (α := Nat) [3, 4, 6, 7, 8, 14, 15, 16, 25, 26] rfl (fun z => [(9, .bool (decide ((rows[i]).text ∈ (refT (rows.take i)).take z))), (27, .int .i64 (z : Int))]) (fun z u => (z ≤ (refT (rows.take i)).length ∧ Own u q (refT (rows.take i)).length k 48 105 (((refT (rows.take i)).map heldB).flatMap heldC) ∧ Own u lp ((leavesOf rows).take i).length lc 56 33 (((leavesOf rows).take i).flatMap zj8.cells)) ∧ Blk u b1 102 ([.slice (some ⟨qb, qoff, none⟩) rows.length c]) ∧ Blk u b4 46 (objC (treeO ((leavesOf rows).take i)) (lfP lp lc)) ∧ Blk u b6 99 ((rows[i]).cells) ∧ Blk u b7 46 (objC (blobO (rows[i]).text) noP) ∧ Blk u b8 31 (zq6 (idOf (blobO (rows[i]).text))) ∧ Ext No w u) (fun z u => (refT (rows.take i)).length - z) (0) rfl ⟨⟨Nat.zero_le _, hq, hlf⟩, hb1, hb4, hb6, hb7, hb8, hX⟩ ?_
  rintro j w12 ⟨⟨hj, hq, hlf⟩, hb1, hb4, hb6, hb7, hb8, hX⟩
  refine zq5 (zq0 (wl_p I_ok rfl (zq3 (zq1 (zq5 (c_if rfl (fun hc => ?_) (fun hc => ?_)))))))
  ·have hj : j < (refT (rows.take i)).length := by omega
   have hjm : j < ((refT (rows.take i)).map heldB).length := by rw [List.length_map]; exact hj
   have hqs : Sl w12 q ((refT (rows.take i)).map heldB).length 105 (((refT (rows.take i)).map heldB).flatMap heldC) := by rw [List.length_map]; exact hq.sl
   obtain ⟨hb, hoff, hqe, hsh⟩ := hqs.rowAll heldBs (by omega)
   have hrow := hsh j hjm
   rw [List.getElem_map] at hrow
   rw [hqe] at hq ⊢
   have hq0 := hq
   refine zx7 (zq1 ?_)
   refine c_cutK (α := Bool) [3, 4, 6, 7, 8, 14, 15, 16, 25, 26, 27] rfl (fun z => [(9, .bool z)]) (fun z u => (z = decide ((rows[i]).text ∈ (refT (rows.take i)).take (j + 1)) ∧ Own u (some ⟨hb, hoff, none⟩) (refT (rows.take i)).length k 48 105 (((refT (rows.take i)).map heldB).flatMap heldC) ∧ Own u lp ((leavesOf rows).take i).length lc 56 33 (((leavesOf rows).take i).flatMap zj8.cells)) ∧ Blk u b1 102 ([.slice (some ⟨qb, qoff, none⟩) rows.length c]) ∧ Blk u b4 46 (objC (treeO ((leavesOf rows).take i)) (lfP lp lc)) ∧ Blk u b6 99 ((rows[i]).cells) ∧ Blk u b7 46 (objC (blobO (rows[i]).text) noP) ∧ Blk u b8 31 (zq6 (idOf (blobO (rows[i]).text))) ∧ Ext No w u) ?_ ?_
   ·refine zx4 ?_
    refine zq5 (zq0 (wl (st_ix I_ok rfl 105 rfl j rfl hj (hoff + j * 105) rfl (wl (st_ldN I_ok rfl hrow (heldB_in _) (wl (zz9 I_ok rfl fun b11 w13 hn11 hb11 hE13 => ?_)))))))
    have ne1_11 : b1 ≠ b11 := Nat.ne_of_lt (Nat.lt_of_lt_of_le hb1.lt hn11)
    have ne4_11 : b4 ≠ b11 := Nat.ne_of_lt (Nat.lt_of_lt_of_le hb4.lt hn11)
    have ne6_11 : b6 ≠ b11 := Nat.ne_of_lt (Nat.lt_of_lt_of_le hb6.lt hn11)
    have ne7_11 : b7 ≠ b11 := Nat.ne_of_lt (Nat.lt_of_lt_of_le hb7.lt hn11)
    have ne8_11 : b8 ≠ b11 := Nat.ne_of_lt (Nat.lt_of_lt_of_le hb8.lt hn11)
    have fr11 := Nat.le_trans hX.size hn11
    have hb1 := hb1.zq2 hE13
    have hb4 := hb4.zq2 hE13
    have hb6 := hb6.zq2 hE13
    have hb7 := hb7.zq2 hE13
    have hb8 := hb8.zq2 hE13
    have hq := hq.ext hE13 fun _ _ => id
    have hlf := hlf.ext hE13 fun _ _ => id
    have hX := hX.zq4 hE13
    have ne11 : ∀ x, OwnB _ x → x ≠ b11 := fun x hx => Nat.ne_of_lt (Nat.lt_of_lt_of_le (hq0.lt hx) hn11)
    have hb11o := hb11
    refine wl (zj1 (l' := heldC (heldB ((refT (rows.take i))[j]))) I_ok hb11 rfl rfl (heldB_in _) (by rw [heldB_in]; rfl) OneC.h fun w14 hb11 hE14 hs14 => ?_)
    have hb1 := hb1.ext1 hE14 ne1_11
    have hb4 := hb4.ext1 hE14 ne4_11
    have hb6 := hb6.ext1 hE14 ne6_11
    have hb7 := hb7.ext1 hE14 ne7_11
    have hb8 := hb8.ext1 hE14 ne8_11
    have hq := hq.ext hE14 (fun x hx => ne11 x hx)
    have hlf := hlf.zx9 hE14 hb11o (by decide)
    have hX := hX.zx1 hE14 fr11
    refine zq3 (zq1 (zq0 (wl_p I_ok rfl (zj4 32 rfl (fun hg => ?_) (fun hg => ?_)))))
    ·refine zz5 I_ok 12 rfl ?_
     refine zq3 ?_
     exact zx6 (zz7 (true) rfl ⟨⟨(decide_eq_true ((mem_step hj).2 (.inl hg))).symm, hq, hlf⟩, hb1, hb4, hb6, hb7, hb8, hX⟩)
    ·have hg1 := hg
     refine zz5 I_ok 1 rfl (wl (st_ldN I_ok rfl (held_id hb11.seg) (by rw [zx0]; exact zj6 _) (wl (zj2 I_ok hb8 rfl (by rw [zx0, zj6]) ?_))))
     refine wl (st_eqK rfl gId 10 (by decide) kId (idForm (zj6 _)) (idForm (zj6 _)) (idKey (zj6 _)) (idKey (zj6 _)) idLits_inj ?_)
     simp only []
     refine zz5 I_ok 1 rfl (zj4 37 rfl (fun hg => ?_) (fun hg => ?_))
     ·refine zz5 I_ok 1 rfl ?_
      refine wl (st_ldN I_ok rfl (held_obj hb11.seg (zj6 _)) (zq7 (blobO_in _)) (wl (zj2 I_ok hb7 rfl rfl ?_)))
      refine wl (zx2 Tryz.call17 rfl rfl rfl rfl rfl rfl (same6_calls w14 (blobO_in _) (blobO_in _) (blob_l _ _) (blob_l _ _) (blob_sh _)) fun v15 w15 hr15 => ?_)
      obtain ⟨rfl, hE15⟩ := hr15
      have hb1 := hb1.zq2 hE15
      have hb4 := hb4.zq2 hE15
      have hb6 := hb6.zq2 hE15
      have hb7 := hb7.zq2 hE15
      have hb8 := hb8.zq2 hE15
      have hq := hq.ext hE15 fun _ _ => id
      have hlf := hlf.ext hE15 fun _ _ => id
      have hX := hX.zq4 hE15
      refine zz5 I_ok 3 rfl (zq3 ?_)
      exact zx6 (zz7 (_) rfl ⟨⟨by rw [decide_eq_decide, mem_step hj]; exact ⟨fun h => .inr (congrArg ObjD.text h), fun h => h.elim (fun h => absurd h hg1) fun h => congrArg blobO h⟩, hq, hlf⟩, hb1, hb4, hb6, hb7, hb8, hX⟩)
     ·refine zz5 I_ok 7 rfl ?_
      refine zq3 ?_
      exact zx6 (zz7 (false) rfl ⟨⟨(decide_eq_false (fun h => ((mem_step hj).1 h).elim (fun h => hg1 h) fun h => hg (by rw [h]; rfl))).symm, hq, hlf⟩, hb1, hb4, hb6, hb7, hb8, hX⟩)
   rintro z w16 ⟨⟨rfl, hq, hlf⟩, hb1, hb4, hb6, hb7, hb8, hX⟩
   refine zq0 (wl_p I_ok rfl ?_)
   rw [IntWalk.i64_in _ (by omega)]
   refine zq3 ?_
   exact zv1 (j + 1) rfl ⟨⟨hj, hq, hlf⟩, hb1, hb4, hb6, hb7, hb8, hX⟩ (by first | omega | (dsimp only; omega))
  ·have hja : (refT (rows.take i)).take j = (refT (rows.take i)) := List.take_of_length_le (by omega)
   rw [hja]
   refine c_exit (zx3 (zx3 (zz0 (zq1 ?_))))
   refine c_cutK (α := Option Addr × Nat) [4, 6, 8, 14, 15, 16] rfl (fun z => [(3, .slice z.1 (refT (rows.take (i + 1))).length z.2)]) (fun z u => (Own u z.1 (refT (rows.take (i + 1))).length z.2 48 105 (((refT (rows.take (i + 1))).map heldB).flatMap heldC) ∧ (∀ x, OwnB z.1 x → w.heap.size ≤ x) ∧ Own u lp ((leavesOf rows).take i).length lc 56 33 (((leavesOf rows).take i).flatMap zj8.cells)) ∧ Blk u b1 102 ([.slice (some ⟨qb, qoff, none⟩) rows.length c]) ∧ Blk u b4 46 (objC (treeO ((leavesOf rows).take i)) (lfP lp lc)) ∧ Blk u b6 99 ((rows[i]).cells) ∧ Blk u b8 31 (zq6 (idOf (blobO (rows[i]).text))) ∧ Ext No w u) ?_ ?_
   ·refine zq5 ?_
    refine zq0 (wl_p I_ok rfl (zq3 (zq1 (c_cond rfl (fun hc => ?_) (fun hc => ?_)))))
    ·have hnm : ¬ (rows[i]).text ∈ (refT (rows.take i)) := by simpa using hc
     have eA : (refT (rows.take (i + 1))) = (refT (rows.take i)) ++ [(rows[i]).text] := by rw [refT_take hi, addT, if_neg hnm]
     refine zq0 (wl_p I_ok rfl (wl (zj2 I_ok hb8 rfl (by rw [zx0, zj6]) (wl (zj2 I_ok hb7 rfl rfl ?_)))))
     refine wl (st_bd I_ok rfl ⟨⟨by rw [zj9, zx0, zj6 _], by decide⟩, ⟨by rw [zj9]; exact zq7 (blobO_in _), by decide⟩, trivial⟩ (l' := heldC ⟨idOf (blobO (rows[i]).text), blobO (rows[i]).text, noP⟩) (by rw [heldZ_c]; exact held_build (zj6 _) (blobO_in _)) ?_)
     refine wl (st_bs I_ok rfl 105 rfl heldZ_c (by rw [List.length_append, zx0, zq7 objZ_in]; rfl) (by decide) (by decide) ⟨⟨by rw [zj9]; exact heldB_in _, by decide⟩, trivial⟩ (l' := heldC (heldB (rows[i]).text)) (one_held (heldB_in _)) fun b51 w17 hn51 hb51 hE17 hs17 => ?_)
     have hb1 := hb1.zq2 hE17
     have hb4 := hb4.zq2 hE17
     have hb6 := hb6.zq2 hE17
     have hb8 := hb8.zq2 hE17
     have hq := hq.ext hE17 fun _ _ => id
     have hlf := hlf.ext hE17 fun _ _ => id
     have hX := hX.zq4 hE17
     have hX1 := hX
     refine wl (zv2 I_ok rfl 105 224 rfl rfl rfl (by decide) hq (Src.slice (m := 1) ⟨heldB_in _, .inr ⟨b51, 0, rfl, hb51.seg⟩⟩ OneC.h) (by dsimp only [maxLen]; omega) (by dsimp only; omega) fun p18 c18 w18 ho18 hE18 hB18 => ?_)
     dsimp only at ho18 hE18 hB18 ⊢
     have hX := hX1.trans hE18 fun y hy hF => by have := hqn y hF; omega
     have hb1 := hb1.zq8 hq hE18 (by decide)
     have hb4 := hb4.zq8 hq hE18 (by decide)
     have hb6 := hb6.zq8 hq hE18 (by decide)
     have hb8 := hb8.zq8 hq hE18 (by decide)
     have hlf := hlf.ext hE18 (fun x hx hx2 => by obtain ⟨L1, h1⟩ := hlf.blkAt hx; obtain ⟨L2, h2⟩ := hq.blkAt hx2; exact absurd (h1.uniq h2).2 (by decide))
     have hsz1 := hX1.size
     obtain ⟨q2, k2, e1, e2, hq2⟩ : ∃ q2 k2, q2 = p18 ∧ k2 = c18 ∧ Own w18 q2 (refT (rows.take (i + 1))).length k2 48 105 (((refT (rows.take (i + 1))).map heldB).flatMap heldC) := ⟨_, _, rfl, rfl, by
      rw [eA, List.map_append, List.flatMap_append, List.length_append]
      simpa using ho18⟩
     rw [← e1] at hB18
     rw [← e1, ← e2, show (refT (rows.take i)).length + 1 = (refT (rows.take (i + 1))).length from by rw [eA, List.length_append]; rfl]
     have hqn2 : (∀ x, OwnB q2 x → w.heap.size ≤ x) := fun x hx => (hB18 x hx).elim (fun h => hqn x h) fun h => by omega
     refine wl_p I_ok rfl (zq3 ?_)
     exact zz7 (q2, k2) rfl ⟨⟨hq2, hqn2, hlf⟩, hb1, hb4, hb6, hb8, hX⟩
    ·have hnm : (rows[i]).text ∈ (refT (rows.take i)) := by simpa using hc
     have eA : (refT (rows.take (i + 1))) = (refT (rows.take i)) := by rw [refT_take hi, addT, if_pos hnm]
     rw [← eA] at hq ⊢
     refine zx7 ?_
     exact zz7 (q, k) rfl ⟨⟨hq, hqn, hlf⟩, hb1, hb4, hb6, hb8, hX⟩
   rintro ⟨q2, k2⟩ w19 ⟨⟨hq, hqn2, hlf⟩, hb1, hb4, hb6, hb8, hX⟩
   try dsimp only
   dsimp only at hq hqn2 hlf
   refine zq0 (wl_p I_ok rfl (wl (st_ldb I_ok hb4 rfl rfl (wl_p I_ok rfl (wl (st_ldb I_ok hb6 rfl rfl (wl (zj2 I_ok hb8 rfl (by rw [zx0, zj6]) ?_))))))))
   refine wl (st_bd I_ok rfl ⟨⟨rfl, by decide⟩, ⟨by rw [zj9, zx0, zj6], by decide⟩, trivial⟩ (l' := (leafOf rows[i]).cells) (by rw [leafZ_c]; exact leaf_build (zj6 _)) ?_)
   refine wl (st_bs I_ok rfl 33 rfl leafZ_c (zj8.len rfl) (by decide) (by decide) ⟨⟨by rw [zj9]; exact (zj8.len (zj6 _)), by decide⟩, trivial⟩ (l' := (leafOf rows[i]).cells) (one_leaf (zj6 _)) fun b59 w20 hn59 hb59 hE20 hs20 => ?_)
   have hb1 := hb1.zq2 hE20
   have hb4 := hb4.zq2 hE20
   have hq := hq.ext hE20 fun _ _ => id
   have hlf := hlf.ext hE20 fun _ _ => id
   have hX := hX.zq4 hE20
   have hX1 := hX
   refine wl (zv2 I_ok rfl 33 48 rfl rfl rfl (by decide) hlf (Src.slice (m := 1) ⟨zj8.len (zj6 _), .inr ⟨b59, 0, rfl, hb59.seg⟩⟩ OneC.h) (by dsimp only [maxLen]; omega) (by dsimp only; omega) fun p21 c21 w21 ho21 hE21 hB21 => ?_)
   dsimp only at ho21 hE21 hB21 ⊢
   have hX := hX1.trans hE21 fun y hy hF => by have := hlfn y hF; omega
   have hb1 := hb1.zq8 hlf hE21 (by decide)
   have hb4 := hb4.zq8 hlf hE21 (by decide)
   have hq := hq.ext hE21 (fun x hx hx2 => by obtain ⟨L1, h1⟩ := hq.blkAt hx; obtain ⟨L2, h2⟩ := hlf.blkAt hx2; exact absurd (h1.uniq h2).2 (by decide))
   have e3 : ((leavesOf rows).take (i + 1)).length = ((leavesOf rows).take i).length + 1 := by rw [leavesOf_take hi, List.length_append]; rfl
   have hsz1 := hX1.size
   obtain ⟨lp2, lc2, e1, e2, hlf2⟩ : ∃ lp2 lc2, lp2 = p21 ∧ lc2 = c21 ∧ Own w21 lp2 ((leavesOf rows).take (i + 1)).length lc2 56 33 (((leavesOf rows).take (i + 1)).flatMap zj8.cells) := ⟨_, _, rfl, rfl, by
    rw [e3, leavesOf_take hi, List.flatMap_append]
    simpa using ho21⟩
   rw [← e1] at hB21
   rw [← e1, ← e2]
   have hlfn2 : ∀ x, OwnB lp2 x → w.heap.size ≤ x := fun x hx => (hB21 x hx).elim (fun h => hlfn x h) fun h => by omega
   refine wl_p I_ok rfl ?_
   have hb4o := hb4
   refine wl (st_st I_ok hb4 rfl rfl rfl fun w22 hb4 hE22 hs22 => ?_)
   have hb1 := hb1.ext1 hE22 ne1_4
   have hq := hq.zx9 hE22 hb4o (by decide)
   have hlf2 := hlf2.zx9 hE22 hb4o (by decide)
   have hX := hX.zx1 hE22 fr4
   have hb4 : Blk w22 b4 46 (objC (treeO ((leavesOf rows).take (i + 1))) (lfP lp2 lc2)) := (by
    have e : objC (treeO ((leavesOf rows).take (i + 1))) (lfP lp2 lc2) = (objC (treeO ((leavesOf rows).take i)) (lfP lp lc)).set 2 (.slice lp2 (((leavesOf rows).take i).length + 1) lc2) := by simp only [objC, e3]; rfl
    rw [e]
    exact hb4)
   refine zq3 (zx6 (zq1 (zq0 (wl_p I_ok rfl ?_))))
   rw [IntWalk.i64_in _ (by omega)]
   refine zq3 ?_
   exact zv1 (i + 1, (q2, k2), (lp2, lc2)) rfl ⟨⟨hi, hq, hqn2, hlf2, hlfn2⟩, hb1, hb4, hX⟩ (by first | omega | (dsimp only; omega))
 ·have h0 : i = rows.length := by omega
  subst h0
  have et : (leavesOf rows).take rows.length = leavesOf rows := List.take_of_length_le (by rw [hll]; exact Nat.le_refl _)
  rw [List.take_length] at hq
  rw [et] at hlf hb4
  rw [List.take_length]
  have hacl : (refT rows).length ≤ rows.length := refT_len _
  have hlin := leavesOf_in (l := rows) fun r hr => by have := (hr32.2 r hr).1; have := maxLen_big; omega
  have hsh : Short (treeOf rows) := tree_sh (by omega) (fun r hr => by obtain ⟨y, hy, rfl⟩ := List.mem_map.1 hr; have := (hr32.2 y hy).1; show y.path.length < _; omega)
  have htl : ObjL w4 (treeOf rows) (lfP lp lc) := ⟨hlf.sl, Sl.nil _ _ _, Sl.nil _ _ _⟩
  refine c_exit (zx3 (zx3 (zz0 (zq1 (zq5 (zq5 (zq0 (wl (zj2 I_ok hb4 rfl (zq7 (treeO_in hlin)) ?_)))))))))
  refine wl (zx2 Tryz.call20 rfl rfl rfl rfl rfl rfl (right6_calls w4 (treeO_in hlin) htl hsh) fun v23 w23 hr23 => ?_)
  obtain ⟨rfl, hE23⟩ := hr23
  have hb4 := hb4.zq2 hE23
  have hq := hq.ext hE23 fun _ _ => id
  have hlf := hlf.ext hE23 fun _ _ => id
  have hX := hX.zq4 hE23
  have htl := htl.zq2 hE23
  refine wl_p I_ok rfl (zq3 (zq1 (c_cond rfl (fun hc => ?_) (fun hc => ?_))))
  ·have hok : ¬ ObjOk (treeOf rows) := by simpa using hc
   refine zq5 (zq0 (wl_p I_ok rfl (zq3 (zq1 (zj0 (zx5 (zz2 rfl rfl ?_)))))))
   exact ⟨none, 0, lp, lc, fun h => absurd h hok, fun _ => rfl, noOwn, hlf, hlfn, hX⟩
  ·have hok : ObjOk (treeOf rows) := by simpa using hc
   have hn4q : ¬ OwnB q b4 := fun h => hq.neTy h hb4 (by decide) rfl
   refine zx7 (zq1 (zq5 (c_draw rfl 8 [(0, true), (1, true), (3, true), (2, false), (4, true), (5, false), (6, false), (7, true)] [] (OwnB q) (by kernel_rfl) fun w24 hE24 hs24 => ?_)))
   have hd4 := hb4
   have hq := hq.ext hE24 fun _ _ => id
   have hlf := hlf.ext hE24 fun _ _ => id
   have hX := hX.zq4 hE24
   have hC : Ext (OwnB q) _ w24 := hE24.no
   have htl := htl.zq2 hE24
   refine wd_k I_ok 1 rfl (wd_ldN I_ok rfl rfl (fun w' hw' => ((hd4.ext hw' hn4q).seg)) (zq7 (treeO_in hlin)) ?_)
   refine wd_ldN I_ok rfl rfl (fun w' hw' => ((hd4.ext hw' hn4q).seg)) (zq7 (treeO_in hlin)) ?_
   refine wd_l rfl (zx2 Tryz.call21 rfl rfl rfl rfl rfl rfl (id6_calls w24 (treeO_in hlin) htl (bytes_of hok.1)) fun v25 w25 hr25 => ⟨(by obtain ⟨rfl, hE25⟩ := hr25; exact hC.zq4 hE25), ?_⟩)
   obtain ⟨rfl, hE25⟩ := hr25
   have hq := hq.ext hE25 fun _ _ => id
   have hlf := hlf.ext hE25 fun _ _ => id
   have hX := hX.zq4 hE25
   have hC := hC.zq4 hE25
   refine wd_bd I_ok rfl rfl ⟨⟨by rw [zj9, zx0, zj6 _], by decide⟩, ⟨by rw [zj9]; exact zq7 (treeO_in hlin), by decide⟩, trivial⟩ (l' := heldC ⟨idOf (treeOf rows), treeOf rows, lfP lp lc⟩) (by rw [heldZ_c]; exact held_build (zj6 _) (treeO_in hlin)) ?_
   refine wd_l rfl (st_bs I_ok rfl 105 rfl heldZ_c (by rw [List.length_append, zx0, zq7 objZ_in]; rfl) (by decide) (by decide) ⟨⟨by rw [zj9]; exact (heldC_len (zj6 _) (treeO_in hlin)), by decide⟩, trivial⟩ (l' := heldC ⟨idOf (treeOf rows), treeOf rows, lfP lp lc⟩) (one_held (heldC_len (zj6 _) (treeO_in hlin))) fun b71 w26 hn71 hb71 hE26 hs26 => ⟨hC.zq4 hE26, ?_⟩)
   have hq := hq.ext hE26 fun _ _ => id
   have hlf := hlf.ext hE26 fun _ _ => id
   have hX := hX.zq4 hE26
   have hC := hC.zq4 hE26
   have hX1 := hX
   refine wd_l rfl (zv2 I_ok rfl 105 224 rfl rfl rfl (by decide) hq (Src.slice (m := 1) ⟨heldC_len (zj6 _) (treeO_in hlin), .inr ⟨b71, 0, rfl, hb71.seg⟩⟩ OneC.h) (by dsimp only [maxLen]; omega) (by dsimp only; omega) fun p27 c27 w27 ho27 hE27 hB27 => ⟨hC.then hE27, ?_⟩)
   dsimp only at ho27 hE27 hB27 ⊢
   have hX := hX1.trans hE27 fun y hy hF => by have := hqn y hF; omega
   have hlf := hlf.ext hE27 (fun x hx hx2 => by obtain ⟨L1, h1⟩ := hlf.blkAt hx; obtain ⟨L2, h2⟩ := hq.blkAt hx2; exact absurd (h1.uniq h2).2 (by decide))
   have hsz1 := hX1.size
   refine wd_k I_ok 1 rfl (wd_sw (zv0 (zq1 (zj0 (zz2 rfl rfl ?_)))))
   refine ⟨_, _, lp, lc, fun _ => ⟨by rw [show (refP rows (lfP lp lc)).length = (refT rows).length + 1 from by simp [refP]], ?_⟩, fun h => absurd hok h, fun x hx => (hB27 x hx).elim (fun h => hqn x h) fun h => by omega, hlf, hlfn, hX⟩
   rw [refP, List.flatMap_append, List.length_append, List.length_map]
   simpa using ho27
def cut8 (r : RowD) : RowD := ⟨r.path.take 48, r.text.take 256⟩
def tex8 (l : List RowD) : List RowD := (l.take 4).map cut8
theorem cut_step {l : List RowD} {i : Nat} (h : i < l.length) : (l.take (i + 1)).map cut8 = (l.take i).map cut8 ++ [cut8 l[i]] := by
 rw [List.take_succ_eq_append_getElem h, List.map_append]; rfl
theorem tex8_calls (w : World) {p : Option Addr} {c : Nat} {rows : List RowD} (hs : Sl w p rows.length 2 (rows.flatMap RowD.cells)) (hl : rows.length < 9223372036854775808) :
  zz1 Tryz.prog 102 [.agg #[.slice p rows.length c]] w fun v w' => ∃ q k, v = .agg #[.slice q (tex8 rows).length k] ∧ Own w' q (tex8 rows).length k 99 2 ((tex8 rows).flatMap RowD.cells) ∧ (∀ x, OwnB q x → w.heap.size ≤ x) ∧ Ext No w w' := by
 refine zq9 Tryz.func102 rfl rfl rfl rfl ?_
 have hX := Ext.refl No w
 refine zq5 (zq0 (wl (zz9 I_ok rfl fun b1 w1 hn1 hb1 hE1 => ?_)))
 have hX := hX.zq4 hE1
 have hb1 : Blk w1 b1 102 ([.slice p rows.length c]) := hb1
 refine wl (zz9 I_ok rfl fun b2 w2 hn2 hb2 hE2 => ?_)
 have fr2 := Nat.le_trans hX.size hn2
 have hb1 := hb1.zq2 hE2
 have hX := hX.zq4 hE2
 refine zq3 (zq1 (zq5 (zq0 (wl (zz9 I_ok rfl fun b3 w3 hn3 hb3 hE3 => ?_)))))
 have ne1_3 : b1 ≠ b3 := Nat.ne_of_lt (Nat.lt_of_lt_of_le hb1.lt hn3)
 have ne2_3 : b2 ≠ b3 := Nat.ne_of_lt (Nat.lt_of_lt_of_le hb2.lt hn3)
 have fr3 := Nat.le_trans hX.size hn3
 have hb1 := hb1.zq2 hE3
 have hb2 := hb2.zq2 hE3
 have hX := hX.zq4 hE3
 have hb3 : Blk w3 b3 102 ([.slice none 0 0]) := hb3
 refine zq3 (zq1 ?_)
 refine c_cutK (α := Option Addr × Nat) [2, 3] rfl (fun z => []) (fun z u => (Own u z.1 (tex8 rows).length z.2 99 2 ((tex8 rows).flatMap RowD.cells) ∧ (∀ x, OwnB z.1 x → w.heap.size ≤ x)) ∧ Blk u b1 102 ([.slice p rows.length c]) ∧ Blk u b2 102 (cellsOf ti102.zero) ∧ Blk u b3 102 ([.slice z.1 (tex8 rows).length z.2]) ∧ Ext No w u) ?_ ?_
 ·refine zq5 ?_
  refine zq0 (wl_p I_ok rfl (wl (st_ldb I_ok hb1 rfl rfl (wl_p I_ok rfl (zq3 (zq1 (zx4 ?_)))))))
  refine zv3 (α := Nat × Option Addr × Nat) [2, 3, 7, 8] rfl (fun z => [(9, .int .i64 (z.1 : Int))]) (fun z u => (z.1 ≤ rows.length ∧ z.1 ≤ 4 ∧ Own u z.2.1 ((rows.take z.1).map cut8).length z.2.2 99 2 (((rows.take z.1).map cut8).flatMap RowD.cells) ∧ (∀ x, OwnB z.2.1 x → w.heap.size ≤ x)) ∧ Blk u b1 102 ([.slice p rows.length c]) ∧ Blk u b2 102 (cellsOf ti102.zero) ∧ Blk u b3 102 ([.slice z.2.1 ((rows.take z.1).map cut8).length z.2.2]) ∧ Ext No w u) (fun z u => rows.length - z.1) (0, none, 0) rfl ⟨⟨Nat.zero_le _, Nat.zero_le _, Own.nil _ _ _, noOwn⟩, hb1, hb2, hb3, hX⟩ ?_
  rintro ⟨i, q, k⟩ w4 ⟨⟨hi, hi4, hq, hqn⟩, hb1, hb2, hb3, hX⟩
  try dsimp only
  dsimp only at hi hi4 hq hqn
  refine zq5 (zq0 (wl_p I_ok rfl (zq3 (zq1 (zq5 (c_if rfl (fun hc => ?_) (fun hc => ?_)))))))
  ·have hi : i < rows.length := by omega
   obtain ⟨qb, qoff, hp, hsq⟩ := hs.rowAll (fun r _ => r.len) (by omega)
   rw [hp] at hb1 ⊢
   have hal : ((rows.take i).map cut8).length = i := by simp; omega
   refine zx7 (zq1 (zq5 (zx4 (zq5 (zq0 (wl_p I_ok rfl (wl (st_ix I_ok rfl 2 rfl i rfl (by omega) (qoff + i * 2) rfl (wl (st_ldN I_ok rfl ((hsq i hi).zq2 hX) rfl ?_))))))))))
   have hq0 := hq
   refine wl (zz9 I_ok rfl fun b5 w5 hn5 hb5 hE5 => ?_)
   have ne1_5 : b1 ≠ b5 := Nat.ne_of_lt (Nat.lt_of_lt_of_le hb1.lt hn5)
   have ne2_5 : b2 ≠ b5 := Nat.ne_of_lt (Nat.lt_of_lt_of_le hb2.lt hn5)
   have ne3_5 : b3 ≠ b5 := Nat.ne_of_lt (Nat.lt_of_lt_of_le hb3.lt hn5)
   have fr5 := Nat.le_trans hX.size hn5
   have hb1 := hb1.zq2 hE5
   have hb2 := hb2.zq2 hE5
   have hb3 := hb3.zq2 hE5
   have hq := hq.ext hE5 fun _ _ => id
   have hX := hX.zq4 hE5
   have ne5 : ∀ x, OwnB q x → x ≠ b5 := fun x hx => Nat.ne_of_lt (Nat.lt_of_lt_of_le (hq0.lt hx) hn5)
   refine wl_p I_ok rfl ?_
   refine wl (zj1 (l' := (rows[i]).cells) I_ok hb5 rfl rfl rfl rfl OneC.h fun w6 hb5 hE6 hs6 => ?_)
   have hb1 := hb1.ext1 hE6 ne1_5
   have hb2 := hb2.ext1 hE6 ne2_5
   have hb3 := hb3.ext1 hE6 ne3_5
   have hq := hq.ext hE6 (fun x hx => ne5 x hx)
   have hX := hX.zx1 hE6 fr5
   refine zq3 (zq1 (zq5 (zq5 (zq0 (wl_p I_ok rfl (zq3 (zq1 (c_if rfl (fun hc => ?_) (fun hc => ?_)))))))))
   ·have h4 : i = 4 := by omega
    have eT : (rows.take i).map cut8 = tex8 rows := by rw [h4]; rfl
    rw [eT] at hq hb3
    obtain ⟨qT, kT, hqT, hqnT, e1, e2⟩ : ∃ qT kT, Own w6 qT (tex8 rows).length kT 99 2 ((tex8 rows).flatMap RowD.cells) ∧ (∀ x, OwnB qT x → w.heap.size ≤ x) ∧ q = qT ∧ k = kT := ⟨q, k, hq, hqn, rfl, rfl⟩
    rw [e1, e2] at hb3
    refine c_exit ?_
    exact zx3 (f_blockE' rfl (zx3 (zx3 (zz0 (zz7 (qT, kT) rfl ⟨⟨hqT, hqnT⟩, hb1, hb2, hb3, hX⟩)))))
   ·have h4 : i < 4 := by omega
    refine zx7 (zq1 (zq5 ?_))
    refine c_drawL I_ok rfl [] 15 [11, 12, 13] [(0, true), (1, true), (2, true), (3, true), (4, true), (5, true), (6, true), (7, true), (8, true), (9, true), (10, true), (14, true)] [29, 30, 31, 15, 16, 17] (No) (by kernel_rfl) rfl fun w7 hE7 hs7 => ?_
    have hd5 := hb5
    have hb1 := hb1.zq2 hE7
    have hb2 := hb2.zq2 hE7
    have hb3 := hb3.zq2 hE7
    have hb5 := hb5.zq2 hE7
    have hq := hq.ext hE7 fun _ _ => id
    have hX := hX.zq4 hE7
    refine wd_k I_ok 1 rfl (wd_ld I_ok rfl rfl (fun w' hw' => (hd5.zq2 hw').cell rfl) ?_)
    refine wd_k I_ok 1 rfl (wd_ld I_ok rfl rfl (fun w' hw' => (hd5.zq2 hw').cell rfl) ?_)
    refine wd_k I_ok 2 rfl (wd_ss I_ok rfl rfl 0 (min _ 48) (cutBds _ _) ?_)
    rw [strU_cut]
    refine wd_k I_ok 1 rfl (wd_ld I_ok rfl rfl (fun w' hw' => (hd5.zq2 hw').cell rfl) ?_)
    refine wd_k I_ok 1 rfl (wd_ld I_ok rfl rfl (fun w' hw' => (hd5.zq2 hw').cell rfl) ?_)
    refine wd_k I_ok 1 rfl (wd_sw (wbf I_ok (i := 11) rfl rfl rfl rfl rfl (by kernel_rfl) (wbf I_ok (i := 12) rfl rfl rfl rfl rfl (by kernel_rfl) (wb_ss I_ok (i := 13) rfl rfl rfl 0 (min _ 256) (cutBds _ _) (by kernel_rfl) ?_))))
    rw [strU_cut]
    refine wb rfl (st_st I_ok hb5 rfl rfl rfl fun w8 hb5 hE8 hs8 => ?_)
    have hb1 := hb1.ext1 hE8 ne1_5
    have hb2 := hb2.ext1 hE8 ne2_5
    have hb3 := hb3.ext1 hE8 ne3_5
    have hq := hq.ext hE8 (fun x hx => ne5 x hx)
    have hX := hX.zx1 hE8 fr5
    have hb5 : Blk w8 b5 99 ([strV ((rows[i]).path.take 48), strV (rows[i]).text]) := hb5
    refine wb rfl (st_p I_ok rfl rfl rfl ?_)
    refine wb rfl (st_st I_ok hb5 rfl rfl rfl fun w9 hb5 hE9 hs9 => ?_)
    have hb1 := hb1.ext1 hE9 ne1_5
    have hb2 := hb2.ext1 hE9 ne2_5
    have hb3 := hb3.ext1 hE9 ne3_5
    have hq := hq.ext hE9 (fun x hx => ne5 x hx)
    have hX := hX.zx1 hE9 fr5
    have hb5 : Blk w9 b5 99 ((cut8 rows[i]).cells) := hb5
    refine zv0 (zq1 (zq0 (wl_p I_ok rfl (wl (st_ldb I_ok hb3 rfl rfl (wl (zj2 I_ok hb5 rfl rfl ?_)))))))
    refine wl (st_bs I_ok rfl 2 rfl rowZ_c rfl (by decide) (by decide) ⟨⟨rfl, by decide⟩, trivial⟩ (l' := (cut8 rows[i]).cells) rfl fun b35 w10 hn35 hb35 hE10 hs10 => ?_)
    have hb1 := hb1.zq2 hE10
    have hb2 := hb2.zq2 hE10
    have hb3 := hb3.zq2 hE10
    have hq := hq.ext hE10 fun _ _ => id
    have hX := hX.zq4 hE10
    have hX1 := hX
    refine wl (zv2 I_ok rfl 2 32 rfl rfl rfl (by decide) hq (Src.slice (m := 1) ⟨rfl, .inr ⟨b35, 0, rfl, hb35.seg⟩⟩ OneC.h) (by dsimp only [maxLen]; omega) (by dsimp only; omega) fun p11 c11 w11 ho11 hE11 hB11 => ?_)
    dsimp only at ho11 hE11 hB11 ⊢
    have hX := hX1.trans hE11 fun y hy hF => by have := hqn y hF; omega
    have hb1 := hb1.zq8 hq hE11 (by decide)
    have hb2 := hb2.zq8 hq hE11 (by decide)
    have hb3 := hb3.zq8 hq hE11 (by decide)
    have hsz1 := hX1.size
    obtain ⟨q2, k2, e1, e2, hq2⟩ : ∃ q2 k2, q2 = p11 ∧ k2 = c11 ∧ Own w11 q2 ((rows.take (i + 1)).map cut8).length k2 99 2 (((rows.take (i + 1)).map cut8).flatMap RowD.cells) := ⟨_, _, rfl, rfl, by
     rw [cut_step hi, List.flatMap_append, List.length_append]
     simpa using ho11⟩
    rw [← e1] at hB11
    rw [← e1, ← e2]
    have hqn2 : ∀ x, OwnB q2 x → w.heap.size ≤ x := fun x hx => (hB11 x hx).elim (fun h => hqn x h) fun h => by omega
    refine wl_p I_ok rfl ?_
    have hb3o := hb3
    refine wl (st_st I_ok hb3 rfl rfl rfl fun w12 hb3 hE12 hs12 => ?_)
    have hb1 := hb1.ext1 hE12 ne1_3
    have hb2 := hb2.ext1 hE12 ne2_3
    have hq2 := hq2.zx9 hE12 hb3o (by decide)
    have hX := hX.zx1 hE12 fr3
    have hb3 : Blk w12 b3 102 ([.slice q2 ((rows.take (i + 1)).map cut8).length k2]) := (by
     rw [cut_step hi, List.length_append]
     exact hb3)
    refine zq3 (zx6 (zq1 (zq0 (wl_p I_ok rfl ?_))))
    rw [IntWalk.i64_in _ (by omega)]
    refine zq3 ?_
    exact zv1 (i + 1, q2, k2) rfl ⟨⟨hi, h4, hq2, hqn2⟩, hb1, hb2, hb3, hX⟩ (by first | omega | (dsimp only; omega))
  ·have eT : (rows.take i).map cut8 = tex8 rows := by
    rw [tex8, List.take_of_length_le (by omega), List.take_of_length_le (by omega)]
   rw [eT] at hq hb3
   obtain ⟨qT, kT, hqT, hqnT, e1, e2⟩ : ∃ qT kT, Own w4 qT (tex8 rows).length kT 99 2 ((tex8 rows).flatMap RowD.cells) ∧ (∀ x, OwnB qT x → w.heap.size ≤ x) ∧ q = qT ∧ k = kT := ⟨q, k, hq, hqn, rfl, rfl⟩
   rw [e1, e2] at hb3
   refine c_exit ?_
   exact zx3 (zx3 (zz0 (zz7 (qT, kT) rfl ⟨⟨hqT, hqnT⟩, hb1, hb2, hb3, hX⟩)))
 rintro ⟨q, k⟩ w13 ⟨⟨hq, hqn⟩, hb1, hb2, hb3, hX⟩
 try dsimp only
 dsimp only at hq hqn
 refine zq5 (zq0 (wl (zj2 I_ok hb3 rfl rfl ?_)))
 have hb2o := hb2
 refine wl (zj1 (l' := [.slice q (tex8 rows).length k]) I_ok hb2 rfl rfl rfl rfl OneC.h fun w14 hb2 hE14 hs14 => ?_)
 have hq := hq.zx9 hE14 hb2o (by decide)
 have hX := hX.zx1 hE14 fr2
 refine zq3 (zq1 (zj0 (f_ret [_] ⟨⟨b2, 0, rfl, ld_all I_ok rfl rfl hb2.seg rfl⟩, trivial⟩ ?_)))
 exact ⟨q, k, rfl, hq, hqn, hX⟩
abbrev ObjX := ObjD × ObjP
abbrev objX (x : ObjX) : List Value := objC x.1 x.2
instance (x : ObjX) : OneC (objX x) := inferInstanceAs (OneC (objC _ _))
def heldO (x : ObjX) : zz4 := ⟨idOf x.1, x.1, x.2⟩
def putS (acc : List zz4) (x : ObjX) : List zz4 := if idOf x.1 ∈ acc.map zz4.id then acc else acc ++ [heldO x]
def putW (l : List zz4) (xs : List ObjX) : List zz4 := xs.foldl putS l
theorem putW_take {l : List zz4} {xs : List ObjX} {i : Nat} (hi : i < xs.length) : putW l (xs.take (i + 1)) = putS (putW l (xs.take i)) xs[i] := by
 rw [List.take_succ_eq_append_getElem hi, putW, List.foldl_append]; rfl
structure ObjsIn (w : World) (p : Option Addr) (xs : List ObjX) : Prop where
  sl : Sl w p xs.length 73 (xs.flatMap objX)
  o : ∀ x ∈ xs, ObjIn x.1
  sh : ∀ x ∈ xs, Short x.1
  l : ∀ x ∈ xs, ObjL w x.1 x.2
  f : ∀ x ∈ xs, BytesIn x.1
theorem putS_mem {P : zz4 → Prop} {acc : List zz4} {x : ObjX} (h : ∀ y ∈ acc, P y) (hx : P (heldO x)) : ∀ y ∈ putS acc x, P y := fun y hy => by
 unfold putS at hy
 split at hy
 ·exact h y hy
 ·rcases List.mem_append.1 hy with hy | hy
  ·exact h y hy
  ·rw [List.mem_singleton.1 hy]; exact hx
theorem putW_mem {P : zz4 → Prop} : ∀ (xs : List ObjX) {l : List zz4}, (∀ y ∈ l, P y) → (∀ x ∈ xs, P (heldO x)) → ∀ y ∈ putW l xs, P y
 | [], _, h, _ => h
 | x :: xs, l, h, hx => putW_mem xs (l := putS l x) (putS_mem h (hx x List.mem_cons_self)) fun z hz => hx z (List.mem_cons_of_mem _ hz)
theorem putW_len : ∀ (xs : List ObjX) (l : List zz4), (putW l xs).length ≤ l.length + xs.length
 | [], l => Nat.le_refl _
 | x :: xs, l => by
  have := putW_len xs (putS l x)
  have h2 : (putS l x).length ≤ l.length + 1 := by unfold putS; split <;> simp
  rw [List.length_cons]
  show (putW (putS l x) xs).length ≤ _
  omega
theorem putW_lk : ∀ (xs : List ObjX) (l : List zz4), ((putW l xs).flatMap fun e => zj3 e.o).length ≤ (l.flatMap fun e => zj3 e.o).length + (xs.flatMap fun x => zj3 x.1).length
 | [], l => Nat.le_refl _
 | x :: xs, l => by
  have := putW_lk xs (putS l x)
  have h2 : ((putS l x).flatMap fun e => zj3 e.o).length ≤ (l.flatMap fun e => zj3 e.o).length + (zj3 x.1).length := by
   unfold putS
   split
   ·omega
   ·rw [List.flatMap_append, List.length_append, List.flatMap_singleton]; exact Nat.le_refl _
  rw [List.flatMap_cons, List.length_append]
  show ((putW (putS l x) xs).flatMap fun e => zj3 e.o).length ≤ _
  omega
theorem flat_take_le {α β : Type} {f : α → List β} : ∀ (L : List α) (i : Nat), ((L.take i).flatMap f).length ≤ (L.flatMap f).length
 | [], i => by simp
 | a :: L, 0 => by simp
 | a :: L, i + 1 => by
  rw [List.take_succ_cons, List.flatMap_cons, List.flatMap_cons, List.length_append, List.length_append]
  have := flat_take_le (f := f) L i
  omega
theorem HeldIn.objO {w : World} {x : ObjX} (h1 : ObjIn x.1) (h2 : Short x.1) (h3 : ObjL w x.1 x.2) : HeldIn w (heldO x) := ⟨zj6 _, h1, h2, h3⟩
theorem put8_calls (w : World) {p px : Option Addr} {c cx : Nat} {l : List zz4} {xs : List ObjX} (h : HpIn w p l) (hxs : ObjsIn w px xs) (hn : l.length + xs.length < 1000000) (hlk : (l.flatMap fun e => zj3 e.o).length + (xs.flatMap fun x => zj3 x.1).length < 100000) :
  zz1 Tryz.prog 47 [.agg #[.slice p l.length c], .slice px xs.length cx] w fun v w' => ∃ q k, v = .agg #[.slice q (putW l xs).length k] ∧ Own w' q (putW l xs).length k 48 105 ((putW l xs).flatMap heldC) ∧ (∀ y, OwnB q y → w.heap.size ≤ y) ∧ HpIn w' q (putW l xs) ∧ Ext No w w' := by
 have hlen := h.len
 have hins : ∀ i, ∀ y ∈ putW l (xs.take i), HeldIn w y := fun i => putW_mem _ h.ins fun x hx => HeldIn.objO (hxs.o x (List.mem_of_mem_take hx)) (hxs.sh x (List.mem_of_mem_take hx)) (hxs.l x (List.mem_of_mem_take hx))
 refine zq9 Tryz.func47 rfl rfl rfl rfl ?_
 have hX := Ext.refl No w
 refine zq5 (zq0 (wl (zz9 I_ok rfl fun b2 w1 hn2 hb2 hE1 => ?_)))
 have hX := hX.zq4 hE1
 have hb2 : Blk w1 b2 29 ([.slice p l.length c]) := hb2
 refine wl (zz9 I_ok rfl fun b4 w2 hn4 hb4 hE2 => ?_)
 have fr4 := Nat.le_trans hX.size hn4
 have hb2 := hb2.zq2 hE2
 have hX := hX.zq4 hE2
 have hb4 : Blk w2 b4 29 ([.slice none 0 0]) := hb4
 refine zq3 (zq1 (zq5 (zq0 (wl (st_bs I_ok rfl 105 rfl heldZ_c (by rw [List.length_append, zx0, zq7 objZ_in]; rfl) (by decide) (by decide) trivial (l' := []) rfl fun b9 w3 hn9 hb9 hE3 hs3 => ?_)))))
 have fr9 := Nat.le_trans hX.size hn9
 have hb2 := hb2.zq2 hE3
 have hb4 := hb4.zq2 hE3
 have hX := hX.zq4 hE3
 refine wl_p I_ok rfl (wl (st_ldb I_ok hb2 rfl rfl ?_))
 have hX0 := hX
 have hb9o := Own.blk (n := 0) (c := 0) hb9 105 rfl (Nat.le_refl _) (by decide)
 refine wl (zv2 I_ok rfl 105 224 rfl rfl rfl (by decide) (Own.blk (n := 0) (c := 0) hb9 105 rfl (Nat.le_refl _) (by decide)) (Src.slice (h.sl.zq2 hX) OneC.h) (by dsimp only [maxLen]; omega) (by dsimp only; omega) fun p4 c4 w4 ho4 hE4 hB4 => ?_)
 dsimp only at ho4 hE4 hB4 ⊢
 have e9 : ∀ y, OwnB (some ⟨b9, 0, none⟩) y → y = b9 := fun y hy => (congrArg Addr.block (Option.some.inj hy)).symm
 have hX := hX0.trans hE4 fun y hy hF => by have := e9 y hF; omega
 have hb4 := hb4.zq8 hb9o hE4 (by decide)
 obtain ⟨q, k, e1, e2, hq⟩ : ∃ q k, q = p4 ∧ k = c4 ∧ Own w4 q l.length k 48 105 (l.flatMap heldC) := ⟨_, _, rfl, rfl, by have h := ho4; rw [Nat.zero_add] at h; exact h⟩
 have hqn := newW hX0 (newB fr9) hB4
 rw [← e1] at hqn
 rw [← e1, ← e2, Nat.zero_add]
 refine wl (st_bd I_ok rfl ⟨⟨rfl, by decide⟩, trivial⟩ (l' := [.slice q l.length k]) rfl (wl (zz9 I_ok rfl fun b5 w5 hn5 hb5 hE5 => ?_)))
 have ne4_5 : b4 ≠ b5 := Nat.ne_of_lt (Nat.lt_of_lt_of_le hb4.lt hn5)
 have fr5 := Nat.le_trans hX.size hn5
 have hb4 := hb4.zq2 hE5
 have hq := hq.ext hE5 fun _ _ => id
 have hX := hX.zq4 hE5
 have hb5o := hb5
 refine wl (zj1 (l' := [.slice q l.length k]) I_ok hb5 rfl rfl rfl rfl OneC.h fun w6 hb5 hE6 hs6 => ?_)
 have hb4 := hb4.ext1 hE6 ne4_5
 have hq := hq.zx9 hE6 hb5o (by decide)
 have hX := hX.zx1 hE6 fr5
 refine zq3 (zq1 (zq5 (zq5 (zq0 (wl_p I_ok rfl (zq3 (zq1 (zx4 ?_))))))))
 refine zv3 (α := Nat × Option Addr × Nat) [4, 5, 14, 15] rfl (fun z => [(16, .int .i64 (z.1 : Int))]) (fun z u => (z.1 ≤ xs.length ∧ Own u z.2.1 (putW l (xs.take z.1)).length z.2.2 48 105 ((putW l (xs.take z.1)).flatMap heldC) ∧ (∀ y, OwnB z.2.1 y → w.heap.size ≤ y)) ∧ Blk u b4 29 ([.slice none 0 0]) ∧ Blk u b5 29 ([.slice z.2.1 (putW l (xs.take z.1)).length z.2.2]) ∧ Ext No w u) (fun z u => xs.length - z.1) (0, q, k) rfl ⟨⟨Nat.zero_le _, hq, hqn⟩, hb4, hb5, hX⟩ ?_
 rintro ⟨i, q, k⟩ w7 ⟨⟨hi, hq, hqn⟩, hb4, hb5, hX⟩
 try dsimp only
 dsimp only at hi hq hqn
 refine zq5 (zq0 (wl_p I_ok rfl (zq3 (zq1 (zq5 (c_if rfl (fun hc => ?_) (fun hc => ?_)))))))
 ·have hi : i < xs.length := by omega
  obtain ⟨xb, xo, hpx, hsx⟩ := hxs.sl.rowAll (fun r hr => zq7 (hxs.o r hr)) (by omega)
  have hxm := List.getElem_mem hi
  have hoi := hxs.o _ hxm
  have hfo := hxs.f _ hxm
  have hol := hxs.l _ hxm
  have hPl : (putW l (xs.take i)).length ≤ l.length + i := by have := putW_len (xs.take i) l; rw [List.length_take] at this; omega
  have hPn : (putW l (xs.take i)).length < 1000000 := by omega
  have hPk : ((putW l (xs.take i)).flatMap fun e => zj3 e.o).length < 100000 := by
   have k1 := putW_lk (xs.take i) l
   have k2 := flat_take_le (f := fun x : ObjX => zj3 x.1) xs i
   omega
  rw [hpx]
  refine zx7 (zq1 ?_)
  refine c_cutK (α := Option Addr × Nat) [4, 5, 14, 15, 16] rfl (fun z => []) (fun z u => (Own u z.1 (putW l (xs.take (i + 1))).length z.2 48 105 ((putW l (xs.take (i + 1))).flatMap heldC) ∧ (∀ y, OwnB z.1 y → w.heap.size ≤ y)) ∧ Blk u b4 29 ([.slice none 0 0]) ∧ Blk u b5 29 ([.slice z.1 (putW l (xs.take (i + 1))).length z.2]) ∧ Ext No w u) ?_ ?_
  ·refine zx4 ?_
   refine zq5 (zq0 (wl (st_ix I_ok rfl 73 rfl i rfl (by omega) (xo + i * 73) rfl (wl (st_ldN I_ok rfl ((hsx i hi).zq2 hX) (zq7 hoi) (wl (zz9 I_ok rfl fun b7 w8 hn7 hb7 hE8 => ?_)))))))
   have ne4_7 : b4 ≠ b7 := Nat.ne_of_lt (Nat.lt_of_lt_of_le hb4.lt hn7)
   have ne5_7 : b5 ≠ b7 := Nat.ne_of_lt (Nat.lt_of_lt_of_le hb5.lt hn7)
   have fr7 := Nat.le_trans hX.size hn7
   have hb4 := hb4.zq2 hE8
   have hb5 := hb5.zq2 hE8
   have hq := hq.ext hE8 fun _ _ => id
   have hX := hX.zq4 hE8
   have hb7o := hb7
   refine wl (zj1 (l' := objX xs[i]) I_ok hb7 rfl rfl (zq7 hoi) (by rw [zq7 hoi]; rfl) OneC.h fun w9 hb7 hE9 hs9 => ?_)
   have hb4 := hb4.ext1 hE9 ne4_7
   have hb5 := hb5.ext1 hE9 ne5_7
   have hq := hq.zx9 hE9 hb7o (by decide)
   have hX := hX.zx1 hE9 fr7
   refine zq3 (zq1 (zq5 (zq0 (wl (zj2 I_ok hb7 rfl (zq7 hoi) (wl (zx2 Tryz.call21 rfl rfl rfl rfl rfl rfl (id6_calls w9 hoi (hol.zq2 hX) hfo) fun v10 w10 hr10 => ?_)))))))
   obtain ⟨rfl, hE10⟩ := hr10
   have hb4 := hb4.zq2 hE10
   have hb5 := hb5.zq2 hE10
   have hb7 := hb7.zq2 hE10
   have hq := hq.ext hE10 fun _ _ => id
   have hX := hX.zq4 hE10
   refine wl (zz9 I_ok rfl fun b8 w11 hn8 hb8 hE11 => ?_)
   have ne4_8 : b4 ≠ b8 := Nat.ne_of_lt (Nat.lt_of_lt_of_le hb4.lt hn8)
   have ne5_8 : b5 ≠ b8 := Nat.ne_of_lt (Nat.lt_of_lt_of_le hb5.lt hn8)
   have ne7_8 : b7 ≠ b8 := Nat.ne_of_lt (Nat.lt_of_lt_of_le hb7.lt hn8)
   have fr8 := Nat.le_trans hX.size hn8
   have hb4 := hb4.zq2 hE11
   have hb5 := hb5.zq2 hE11
   have hb7 := hb7.zq2 hE11
   have hq := hq.ext hE11 fun _ _ => id
   have hX := hX.zq4 hE11
   have hb8o := hb8
   refine wl (zj1 (l' := zq6 (idOf xs[i].1)) I_ok hb8 rfl rfl (by rw [zx0, zj6]) (by rw [zx0, zj6]; rfl) OneC.h fun w12 hb8 hE12 hs12 => ?_)
   have hb4 := hb4.ext1 hE12 ne4_8
   have hb5 := hb5.ext1 hE12 ne5_8
   have hb7 := hb7.ext1 hE12 ne7_8
   have hq := hq.zx9 hE12 hb8o (by decide)
   have hX := hX.zx1 hE12 fr8
   refine zq3 (zq1 (zq5 (zq0 (wl (zj2 I_ok hb5 rfl rfl (wl (zj2 I_ok hb8 rfl (by rw [zx0, zj6]) ?_)))))))
   refine wl (zx2 Tryz.call103 rfl rfl rfl rfl rfl rfl (there8_calls w12 ⟨hq.sl, fun y hy => (hins i y hy).zq2 hX, hPn, hPk⟩ (zj6 _)) fun v13 w13 hr13 => ?_)
   obtain ⟨rfl, hE13⟩ := hr13
   have hb4 := hb4.zq2 hE13
   have hb5 := hb5.zq2 hE13
   have hb7 := hb7.zq2 hE13
   have hb8 := hb8.zq2 hE13
   have hq := hq.ext hE13 fun _ _ => id
   have hX := hX.zq4 hE13
   refine wl_p I_ok rfl (zq3 (zq1 (c_cond rfl (fun hc => ?_) (fun hc => ?_))))
   ·have hnm : ¬ idOf xs[i].1 ∈ (putW l (xs.take i)).map zz4.id := by simpa using hc
    have eA : (putW l (xs.take (i + 1))) = (putW l (xs.take i)) ++ [heldO xs[i]] := by rw [putW_take hi, putS, if_neg hnm]
    refine zq0 (wl_p I_ok rfl (wl (st_ldb I_ok hb5 rfl rfl (wl (zj2 I_ok hb8 rfl (by rw [zx0, zj6]) (wl (zj2 I_ok hb7 rfl (zq7 hoi) ?_)))))))
    refine wl (st_bd I_ok rfl ⟨⟨by rw [zj9, zx0, zj6 _], by decide⟩, ⟨by rw [zj9]; exact zq7 hoi, by decide⟩, trivial⟩ (l' := heldC ⟨idOf xs[i].1, xs[i].1, xs[i].2⟩) (by rw [heldZ_c]; exact held_build (zj6 _) hoi) ?_)
    refine wl (st_bs I_ok rfl 105 rfl heldZ_c (by rw [List.length_append, zx0, zq7 objZ_in]; rfl) (by decide) (by decide) ⟨⟨by rw [zj9]; exact heldC_len (h := heldO xs[i]) (zj6 _) hoi, by decide⟩, trivial⟩ (l' := heldC (heldO xs[i])) (one_held (h := heldO xs[i]) (heldC_len (h := heldO xs[i]) (zj6 _) hoi)) fun b31 w14 hn31 hb31 hE14 hs14 => ?_)
    have hb4 := hb4.zq2 hE14
    have hb5 := hb5.zq2 hE14
    have hq := hq.ext hE14 fun _ _ => id
    have hX := hX.zq4 hE14
    have hX1 := hX
    have hs31 : Sl w14 (some ⟨b31, 0, none⟩) 1 105 (heldC (heldO xs[i])) := ⟨heldC_len (h := heldO xs[i]) (zj6 _) hoi, .inr ⟨b31, 0, rfl, hb31.seg⟩⟩
    have hr1 : (putW l (xs.take i)).length + 1 ≤ maxLen := room_ml (by omega)
    have hr2 : ((putW l (xs.take i)).length + 1) * 224 ≤ 140737488355328 := by have := hPl; omega
    refine wl (zv2 I_ok rfl 105 224 rfl rfl rfl (by decide) hq (Src.slice (m := 1) hs31 OneC.h) hr1 hr2 fun p15 c15 w15 ho15 hE15 hB15 => ?_)
    dsimp only at ho15 hE15 hB15 ⊢
    have hX := hX1.trans hE15 fun y hy hF => by have := hqn y hF; omega
    have hb4 := hb4.zq8 hq hE15 (by decide)
    have hb5 := hb5.zq8 hq hE15 (by decide)
    have hsz1 := hX1.size
    obtain ⟨q2, k2, e1, e2, hq2⟩ : ∃ q2 k2, q2 = p15 ∧ k2 = c15 ∧ Own w15 q2 (putW l (xs.take (i + 1))).length k2 48 105 ((putW l (xs.take (i + 1))).flatMap heldC) := ⟨_, _, rfl, rfl, by
     rw [eA, List.flatMap_append, List.length_append, List.flatMap_singleton]
     exact ho15⟩
    rw [← e1] at hB15
    rw [← e1, ← e2]
    have hqn2 : (∀ y, OwnB q2 y → w.heap.size ≤ y) := fun x hx => (hB15 x hx).elim (fun h => hqn x h) fun h => by omega
    refine wl_p I_ok rfl ?_
    have hb5o := hb5
    refine wl (st_st I_ok hb5 rfl rfl rfl fun w16 hb5 hE16 hs16 => ?_)
    have hb4 := hb4.ext1 hE16 ne4_5
    have hq2 := hq2.zx9 hE16 hb5o (by decide)
    have hX := hX.zx1 hE16 fr5
    have hb5 : Blk w16 b5 29 ([.slice q2 (putW l (xs.take (i + 1))).length k2]) := (by
     rw [eA, List.length_append]
     exact hb5)
    refine zq3 ?_
    exact zx6 (zz7 (q2, k2) rfl ⟨⟨hq2, hqn2⟩, hb4, hb5, hX⟩)
   ·have hnm : idOf xs[i].1 ∈ (putW l (xs.take i)).map zz4.id := by simpa using hc
    have eA : (putW l (xs.take (i + 1))) = (putW l (xs.take i)) := by rw [putW_take hi, putS, if_pos hnm]
    rw [← eA] at hq hb5
    refine zx7 ?_
    exact zx6 (zz7 (q, k) rfl ⟨⟨hq, hqn⟩, hb4, hb5, hX⟩)
  rintro ⟨q, k⟩ w17 ⟨⟨hq, hqn⟩, hb4, hb5, hX⟩
  try dsimp only
  dsimp only at hq hqn
  refine zq0 (wl_p I_ok rfl ?_)
  rw [IntWalk.i64_in _ (by omega)]
  refine zq3 ?_
  exact zv1 (i + 1, q, k) rfl ⟨⟨hi, hq, hqn⟩, hb4, hb5, hX⟩ (by first | omega | (dsimp only; omega))
 ·have h0 : i = xs.length := by omega
  subst h0
  have hPl := putW_len xs l
  have hPk : ((putW l xs).flatMap fun e => zj3 e.o).length < 100000 := Nat.lt_of_le_of_lt (putW_lk xs l) hlk
  have hii := hins xs.length
  rw [List.take_length] at hq hb5 hii
  refine c_exit (zx3 (zx3 (zz0 (zq1 (zq5 (zq0 (wl (zj2 I_ok hb5 rfl rfl ?_))))))))
  have hb4o := hb4
  refine wl (zj1 (l' := [.slice q (putW l xs).length k]) I_ok hb4 rfl rfl rfl rfl OneC.h fun w18 hb4 hE18 hs18 => ?_)
  have hq := hq.zx9 hE18 hb4o (by decide)
  have hX := hX.zx1 hE18 fr4
  refine zq3 (zq1 (zj0 (f_ret [_] ⟨⟨b4, 0, rfl, ld_all I_ok rfl rfl hb4.seg rfl⟩, trivial⟩ ?_)))
  exact ⟨q, k, rfl, hq, hqn, ⟨hq.sl, fun y hy => (hii y hy).zq2 hX, by omega, hPk⟩, hX⟩
theorem own1 {b x : Nat} (h : OwnB (some ⟨b, 0, none⟩) x) : x = b := (congrArg Addr.block (Option.some.inj h)).symm
theorem cloneL_nil (w : World) {c : Nat} :
  zz1 Tryz.prog 126 [.slice none 0 c] w fun v w' => ∃ q k, v = .slice q 0 k ∧ Own w' q 0 k 56 33 [] ∧ (∀ y, OwnB q y → w.heap.size ≤ y) ∧ Ext No w w' := by
 refine zq9 Tryz.func126 rfl rfl rfl rfl ?_
 have hX := Ext.refl No w
 refine zq5 (zq0 (wl_p I_ok rfl (zq3 (zq1 (zq5 (zq5 (zq0 (wl_p I_ok rfl (zq3 (zq1 (c_condT rfl (zq5 (zq0 (wl_p I_ok rfl (zq3 (zq1 (zj0 (zx5 (zz2 rfl rfl ?_)))))))))))))))))))
 exact ⟨none, 0, rfl, Own.nil _ _ _, fun y hy => (by cases hy), hX⟩
theorem cloneL_some (w : World) {a : Addr} {c : Nat} {l : List zj8} (h : Sl w (some a) l.length 33 (l.flatMap zj8.cells)) (hl : l.length < 1000000000) :
  zz1 Tryz.prog 126 [.slice (some a) l.length c] w fun v w' => ∃ q k, v = .slice q l.length k ∧ Own w' q l.length k 56 33 (l.flatMap zj8.cells) ∧ (∀ y, OwnB q y → w.heap.size ≤ y) ∧ Ext No w w' := by
 refine zq9 Tryz.func126 rfl rfl rfl rfl ?_
 have hX := Ext.refl No w
 refine zq5 (zq0 (wl_p I_ok rfl (zq3 (zq1 (zq5 (zq5 (zq0 (wl_p I_ok rfl (zq3 (zq1 (c_condF rfl (zx7 (zq1 (zq5 (zq0 ?_)))))))))))))))
 refine wl (st_bs I_ok rfl 33 rfl leafZ_c (zj8.len rfl) (by decide) (by decide) trivial (l' := []) rfl fun b5 w1 hn5 hb5 hE1 hs1 => ?_)
 have hX := hX.zq4 hE1
 refine wl_p I_ok rfl ?_
 refine wl (zv2 I_ok rfl 33 48 rfl rfl rfl (by decide) (Own.blk (n := 0) (c := 0) hb5 33 rfl (Nat.le_refl _) (by decide)) (Src.slice (h.zq2 hX) OneC.h) (by dsimp only [maxLen]; omega) (by dsimp only; omega) fun p2 c2 w2 ho2 hE2 hB2 => ?_)
 have hX := hX.trans hE2 fun y hy hF => by have := own1 hF; omega
 have hn1 : ∀ x, OwnB p2 x → w.heap.size ≤ x := fun x hx => (hB2 x hx).elim (fun hF => by have := own1 hF; omega) fun h => by have := hE1.size; omega
 have ho1 : Own w2 p2 (0 + l.length) c2 56 33 (l.flatMap zj8.cells) := ho2
 rw [Nat.zero_add] at ho1
 dsimp only
 rw [Nat.zero_add]
 refine wl_p I_ok rfl (zq3 (zq1 (zj0 (zz2 rfl rfl ?_))))
 exact ⟨_, _, rfl, ho1, hn1, hX⟩
theorem cloneL_calls (w : World) {p : Option Addr} {c : Nat} {l : List zj8} (h : Sl w p l.length 33 (l.flatMap zj8.cells)) (hl : l.length < 1000000000) :
  zz1 Tryz.prog 126 [.slice p l.length c] w fun v w' => ∃ q k, v = .slice q l.length k ∧ Own w' q l.length k 56 33 (l.flatMap zj8.cells) ∧ (∀ y, OwnB q y → w.heap.size ≤ y) ∧ Ext No w w' := by
 cases p with
 | none =>
  have hl0 : l = [] := by
   rcases h.2 with h0 | ⟨b, off, h1, _⟩
   ·exact List.eq_nil_of_length_eq_zero h0
   ·cases h1
  subst hl0
  exact cloneL_nil w
 | some a => exact cloneL_some w h hl
theorem cloneI_nil (w : World) {c : Nat} :
  zz1 Tryz.prog 127 [.slice none 0 c] w fun v w' => ∃ q k, v = .slice q 0 k ∧ Own w' q 0 k 31 32 [] ∧ (∀ y, OwnB q y → w.heap.size ≤ y) ∧ Ext No w w' := by
 refine zq9 Tryz.func127 rfl rfl rfl rfl ?_
 have hX := Ext.refl No w
 refine zq5 (zq0 (wl_p I_ok rfl (zq3 (zq1 (zq5 (zq5 (zq0 (wl_p I_ok rfl (zq3 (zq1 (c_condT rfl (zq5 (zq0 (wl_p I_ok rfl (zq3 (zq1 (zj0 (zx5 (zz2 rfl rfl ?_)))))))))))))))))))
 exact ⟨none, 0, rfl, Own.nil _ _ _, fun y hy => (by cases hy), hX⟩
theorem cloneI_some (w : World) {a : Addr} {c : Nat} {l : List IdB} (h : Sl w (some a) l.length 32 (l.flatMap zq6)) (hl : l.length < 1000000000) :
  zz1 Tryz.prog 127 [.slice (some a) l.length c] w fun v w' => ∃ q k, v = .slice q l.length k ∧ Own w' q l.length k 31 32 (l.flatMap zq6) ∧ (∀ y, OwnB q y → w.heap.size ≤ y) ∧ Ext No w w' := by
 refine zq9 Tryz.func127 rfl rfl rfl rfl ?_
 have hX := Ext.refl No w
 refine zq5 (zq0 (wl_p I_ok rfl (zq3 (zq1 (zq5 (zq5 (zq0 (wl_p I_ok rfl (zq3 (zq1 (c_condF rfl (zx7 (zq1 (zq5 (zq0 ?_)))))))))))))))
 refine wl (st_bs I_ok rfl 32 rfl idZ_c.symm (by rw [zx0]; rfl) (by decide) (by decide) trivial (l' := []) rfl fun b5 w1 hn5 hb5 hE1 hs1 => ?_)
 have hX := hX.zq4 hE1
 refine wl_p I_ok rfl ?_
 refine wl (zv2 I_ok rfl 32 32 rfl rfl rfl (by decide) (Own.blk (n := 0) (c := 0) hb5 32 rfl (Nat.le_refl _) (by decide)) (Src.slice (h.zq2 hX) OneC.h) (by dsimp only [maxLen]; omega) (by dsimp only; omega) fun p2 c2 w2 ho2 hE2 hB2 => ?_)
 have hX := hX.trans hE2 fun y hy hF => by have := own1 hF; omega
 have hn1 : ∀ x, OwnB p2 x → w.heap.size ≤ x := fun x hx => (hB2 x hx).elim (fun hF => by have := own1 hF; omega) fun h => by have := hE1.size; omega
 have ho1 : Own w2 p2 (0 + l.length) c2 31 32 (l.flatMap zq6) := ho2
 rw [Nat.zero_add] at ho1
 dsimp only
 rw [Nat.zero_add]
 refine wl_p I_ok rfl (zq3 (zq1 (zj0 (zz2 rfl rfl ?_))))
 exact ⟨_, _, rfl, ho1, hn1, hX⟩
theorem cloneI_calls (w : World) {p : Option Addr} {c : Nat} {l : List IdB} (h : Sl w p l.length 32 (l.flatMap zq6)) (hl : l.length < 1000000000) :
  zz1 Tryz.prog 127 [.slice p l.length c] w fun v w' => ∃ q k, v = .slice q l.length k ∧ Own w' q l.length k 31 32 (l.flatMap zq6) ∧ (∀ y, OwnB q y → w.heap.size ≤ y) ∧ Ext No w w' := by
 cases p with
 | none =>
  have hl0 : l = [] := by
   rcases h.2 with h0 | ⟨b, off, h1, _⟩
   ·exact List.eq_nil_of_length_eq_zero h0
   ·cases h1
  subst hl0
  exact cloneI_nil w
 | some a => exact cloneI_some w h hl
theorem cloneC_nil (w : World) {c : Nat} :
  zz1 Tryz.prog 128 [.slice none 0 c] w fun v w' => ∃ q k, v = .slice q 0 k ∧ Own w' q 0 k 114 3 [] ∧ (∀ y, OwnB q y → w.heap.size ≤ y) ∧ Ext No w w' := by
 refine zq9 Tryz.func128 rfl rfl rfl rfl ?_
 have hX := Ext.refl No w
 refine zq5 (zq0 (wl_p I_ok rfl (zq3 (zq1 (zq5 (zq5 (zq0 (wl_p I_ok rfl (zq3 (zq1 (c_condT rfl (zq5 (zq0 (wl_p I_ok rfl (zq3 (zq1 (zj0 (zx5 (zz2 rfl rfl ?_)))))))))))))))))))
 exact ⟨none, 0, rfl, Own.nil _ _ _, fun y hy => (by cases hy), hX⟩
theorem cloneC_some (w : World) {a : Addr} {c : Nat} {l : List ChgD} (h : Sl w (some a) l.length 3 (l.flatMap ChgD.cells)) (hl : l.length < 1000000000) :
  zz1 Tryz.prog 128 [.slice (some a) l.length c] w fun v w' => ∃ q k, v = .slice q l.length k ∧ Own w' q l.length k 114 3 (l.flatMap ChgD.cells) ∧ (∀ y, OwnB q y → w.heap.size ≤ y) ∧ Ext No w w' := by
 refine zq9 Tryz.func128 rfl rfl rfl rfl ?_
 have hX := Ext.refl No w
 refine zq5 (zq0 (wl_p I_ok rfl (zq3 (zq1 (zq5 (zq5 (zq0 (wl_p I_ok rfl (zq3 (zq1 (c_condF rfl (zx7 (zq1 (zq5 (zq0 ?_)))))))))))))))
 refine wl (st_bs I_ok rfl 3 rfl chgZ_c rfl (by decide) (by decide) trivial (l' := []) rfl fun b5 w1 hn5 hb5 hE1 hs1 => ?_)
 have hX := hX.zq4 hE1
 refine wl_p I_ok rfl ?_
 refine wl (zv2 I_ok rfl 3 40 rfl rfl rfl (by decide) (Own.blk (n := 0) (c := 0) hb5 3 rfl (Nat.le_refl _) (by decide)) (Src.slice (h.zq2 hX) OneC.h) (by dsimp only [maxLen]; omega) (by dsimp only; omega) fun p2 c2 w2 ho2 hE2 hB2 => ?_)
 have hX := hX.trans hE2 fun y hy hF => by have := own1 hF; omega
 have hn1 : ∀ x, OwnB p2 x → w.heap.size ≤ x := fun x hx => (hB2 x hx).elim (fun hF => by have := own1 hF; omega) fun h => by have := hE1.size; omega
 have ho1 : Own w2 p2 (0 + l.length) c2 114 3 (l.flatMap ChgD.cells) := ho2
 rw [Nat.zero_add] at ho1
 dsimp only
 rw [Nat.zero_add]
 refine wl_p I_ok rfl (zq3 (zq1 (zj0 (zz2 rfl rfl ?_))))
 exact ⟨_, _, rfl, ho1, hn1, hX⟩
theorem cloneC_calls (w : World) {p : Option Addr} {c : Nat} {l : List ChgD} (h : Sl w p l.length 3 (l.flatMap ChgD.cells)) (hl : l.length < 1000000000) :
  zz1 Tryz.prog 128 [.slice p l.length c] w fun v w' => ∃ q k, v = .slice q l.length k ∧ Own w' q l.length k 114 3 (l.flatMap ChgD.cells) ∧ (∀ y, OwnB q y → w.heap.size ≤ y) ∧ Ext No w w' := by
 cases p with
 | none =>
  have hl0 : l = [] := by
   rcases h.2 with h0 | ⟨b, off, h1, _⟩
   ·exact List.eq_nil_of_length_eq_zero h0
   ·cases h1
  subst hl0
  exact cloneC_nil w
 | some a => exact cloneC_some w h hl
theorem owned_calls (w : World) {x : ObjD} {a : ObjP} (hx : ObjIn x) (hxl : ObjL w x a) (hs : Short x) :
  zz1 Tryz.prog 72 [.agg (objC x a).toArray] w fun v w' => ∃ a', v = .agg (objC x a').toArray ∧ ObjNew w w' x a' ∧ Ext No w w' := by
 refine zq9 Tryz.func72 rfl rfl rfl rfl ?_
 have hX := Ext.refl No w
 refine zq5 (zq0 (wl (zz9 I_ok rfl fun b1 w1 hn1 hb1 hE1 => ?_)))
 have fr1 := Nat.le_trans hX.size hn1
 have hX := hX.zq4 hE1
 have hb1 : Blk w1 b1 46 (objC x a) := hb1
 refine wl (zz9 I_ok rfl fun b2 w2 hn2 hb2 hE2 => ?_)
 have ne1_2 : b1 ≠ b2 := Nat.ne_of_lt (Nat.lt_of_lt_of_le hb1.lt hn2)
 have fr2 := Nat.le_trans hX.size hn2
 have hb1 := hb1.zq2 hE2
 have hX := hX.zq4 hE2
 refine zq3 (zq1 (zq5 (c_draw rfl 11 [(0, true), (1, true), (3, true), (4, true), (6, true), (7, true), (8, true), (2, false), (10, true), (5, false), (9, false)] [11, 12, 13, 14, 15, 16] (No) (by kernel_rfl) fun w3 hE3 hs3 => ?_)))
 have hd1 := hb1
 have hb1 := hb1.zq2 hE3
 have hb2 := hb2.zq2 hE3
 have hX := hX.zq4 hE3
 have hC : Ext (No) _ w3 := hE3.no
 refine wd_k I_ok 1 rfl (wd_ld I_ok rfl rfl (fun w' hw' => ((hd1.zq2 hw').seg.obj hx).leaves) ?_)
 refine wd_k I_ok 1 rfl (wd_ld I_ok rfl rfl (fun w' hw' => ((hd1.zq2 hw').seg.obj hx).parents) ?_)
 refine wd_k I_ok 2 rfl (wd_ld I_ok rfl rfl (fun w' hw' => ((hd1.zq2 hw').seg.obj hx).rows) ?_)
 have hXs := hX.size
 refine wd_l rfl (zx2 Tryz.call126 rfl rfl rfl rfl rfl rfl (cloneL_calls w3 (hxl.leaves.zq2 hX) hs.leaves) fun v4 w4 hr4 => ⟨(by obtain ⟨qL, kL, rfl, hL, nL0, hE4⟩ := hr4; exact hC.zq4 hE4), ?_⟩)
 obtain ⟨qL, kL, rfl, hL, nL0, hE4⟩ := hr4
 have hb1 := hb1.zq2 hE4
 have hb2 := hb2.zq2 hE4
 have hX := hX.zq4 hE4
 have hC := hC.zq4 hE4
 have nL : ∀ y, OwnB qL y → w.heap.size ≤ y := fun y hy => Nat.le_trans hXs (nL0 y hy)
 refine wd_k I_ok 1 rfl ?_
 have hXs := hX.size
 refine wd_l rfl (zx2 Tryz.call127 rfl rfl rfl rfl rfl rfl (cloneI_calls w4 (hxl.parents.zq2 hX) hs.parents) fun v5 w5 hr5 => ⟨(by obtain ⟨qP, kP, rfl, hP, nP0, hE5⟩ := hr5; exact hC.zq4 hE5), ?_⟩)
 obtain ⟨qP, kP, rfl, hP, nP0, hE5⟩ := hr5
 have hb1 := hb1.zq2 hE5
 have hb2 := hb2.zq2 hE5
 have hL := hL.ext hE5 fun _ _ => id
 have hX := hX.zq4 hE5
 have hC := hC.zq4 hE5
 have nP : ∀ y, OwnB qP y → w.heap.size ≤ y := fun y hy => Nat.le_trans hXs (nP0 y hy)
 have hXs := hX.size
 refine wd_l rfl (zx2 Tryz.call128 rfl rfl rfl rfl rfl rfl (cloneC_calls w5 (hxl.rows.zq2 hX) hs.rows) fun v6 w6 hr6 => ⟨(by obtain ⟨qR, kR, rfl, hR, nR0, hE6⟩ := hr6; exact hC.zq4 hE6), ?_⟩)
 obtain ⟨qR, kR, rfl, hR, nR0, hE6⟩ := hr6
 have hb1 := hb1.zq2 hE6
 have hb2 := hb2.zq2 hE6
 have hL := hL.ext hE6 fun _ _ => id
 have hP := hP.ext hE6 fun _ _ => id
 have hX := hX.zq4 hE6
 have nR : ∀ y, OwnB qR y → w.heap.size ≤ y := fun y hy => Nat.le_trans hXs (nR0 y hy)
 refine wd_sw ?_
 have hb1o := hb1
 refine wb rfl (st_st I_ok hb1 rfl rfl rfl fun w7 hb1 hE7 hs7 => ?_)
 have hb2 := hb2.ext1 hE7 ne1_2.symm
 have hL := hL.zx9 hE7 hb1o (by decide)
 have hP := hP.zx9 hE7 hb1o (by decide)
 have hR := hR.zx9 hE7 hb1o (by decide)
 have hX := hX.zx1 hE7 fr1
 have hb1 : Blk w7 b1 46 (objC x ⟨qL, kL, a.pp, a.pc, a.rp, a.rc⟩) := hb1
 refine wb rfl (st_p I_ok rfl rfl rfl ?_)
 have hb1o := hb1
 refine wb rfl (st_set I_ok hb1 rfl rfl (by rw [zq7 hx]; decide) fun w8 hb1 hE8 hs8 => ?_)
 have hb2 := hb2.ext1 hE8 ne1_2.symm
 have hL := hL.zx9 hE8 hb1o (by decide)
 have hP := hP.zx9 hE8 hb1o (by decide)
 have hR := hR.zx9 hE8 hb1o (by decide)
 have hX := hX.zx1 hE8 fr1
 have hb1 : Blk w8 b1 46 (objC x ⟨qL, kL, qP, kP, a.rp, a.rc⟩) := (by have h : Blk _ b1 _ ((objC x ⟨qL, kL, a.pp, a.pc, a.rp, a.rc⟩).set (68 + 0) (.slice qP x.parents.length kP)) := hb1; rw [objC_parents hx] at h; exact h)
 refine wb rfl (st_p I_ok rfl rfl rfl (wb rfl (st_p I_ok rfl rfl rfl ?_)))
 have hb1o := hb1
 refine wb rfl (st_set I_ok hb1 rfl rfl (by rw [zq7 hx]; decide) fun w9 hb1 hE9 hs9 => ?_)
 have hb2 := hb2.ext1 hE9 ne1_2.symm
 have hL := hL.zx9 hE9 hb1o (by decide)
 have hP := hP.zx9 hE9 hb1o (by decide)
 have hR := hR.zx9 hE9 hb1o (by decide)
 have hX := hX.zx1 hE9 fr1
 have hb1 : Blk w9 b1 46 (objC x ⟨qL, kL, qP, kP, qR, kR⟩) := (by have h : Blk _ b1 _ ((objC x ⟨qL, kL, qP, kP, a.rp, a.rc⟩).set (68 + 1) (.slice qR x.rows.length kR)) := hb1; rw [objC_rows hx] at h; exact h)
 refine zv0 (zq1 (zq5 (zq0 (wl (zj2 I_ok hb1 rfl (zq7 hx) ?_)))))
 have hb2o := hb2
 refine wl (zj1 (l' := objC x ⟨qL, kL, qP, kP, qR, kR⟩) I_ok hb2 rfl rfl (zq7 hx) (zq7 hx) OneC.h fun w10 hb2 hE10 hs10 => ?_)
 have hL := hL.zx9 hE10 hb2o (by decide)
 have hP := hP.zx9 hE10 hb2o (by decide)
 have hR := hR.zx9 hE10 hb2o (by decide)
 have hX := hX.zx1 hE10 fr2
 refine zq3 (zq1 (zj0 (f_ret [_] ⟨⟨b2, 0, rfl, ld_all I_ok rfl rfl hb2.seg (zq7 hx)⟩, trivial⟩ ?_)))
 exact ⟨⟨qL, kL, qP, kP, qR, kR⟩, rfl, ⟨hL, hP, hR, nL, nP, nR⟩, hX⟩
end Go.Proofs.YtpcdihkcenfgkaaGreatDoor
namespace Go.Vc
section
variable {P : Program} {I : Info} {f : Fs} {ops : Array Oper} {o : Oper} {env : Env} {w : World} {K : Env → World → Prop}
end
section
variable {P : Program} {I : Info} {f : Fs} {ops : Array Oper} {o : Oper} {env : Env} {w : World}
def dvE (n : Nat) (ops : Array Oper) (env : Env) (o : Oper) : Option (Bool × IntKind × Int × Int × Nat) :=
  match pre n ops env o with
  | false => none
  | true => match o.dst with
    | some d => match o.op with
      | .binOp op _ x y _ => match evO env x with
        | some (.int k p) => match evO env y with
          | some (.int k' q) => match decide (k = k') with
            | true => match op with
              | .quo => some (true, k, p, q, d)
              | .rem => some (false, k, p, q, d)
              | _ => none
            | false => none
          | _ => none
        | _ => none
      | _ => none
    | none => none
def dvV (b : Bool) (k : IntKind) (p q : Int) : Value := if b then .int k (k.wrap (p.tdiv q)) else .int k (p.tmod q)
theorem dvE_pev {n : Nat} {b : Bool} {k : IntKind} {p q : Int} {d : Nat} (h : dvE n ops env o = some (b, k, p, q, d)) (hq : q ≠ 0) : pre n ops env o = true ∧ o.dst = some d ∧ pev I o.op env = some (dvV b k p q) := by
  unfold dvE at h
  split at h
  · cases h
  · rename_i hp
    split at h
    · rename_i d' hd
      split at h
      · rename_i op' t x y u ho
        split at h
        · rename_i k' p' hx
          split at h
          · rename_i k2 q' hy
            split at h
            · rename_i hk
              have hk : k' = k2 := of_decide_eq_true hk
              subst hk
              split at h
              all_goals first
                | (cases h; done)
                | (simp only [Option.some.injEq, Prod.mk.injEq] at h
                   obtain ⟨rfl, rfl, rfl, rfl, rfl⟩ := h
                   refine ⟨hp, hd, ?_⟩
                   have hn : decide (q' = 0) = false := decide_eq_false hq
                   rw [ho]
                   simp only [pev, hx, hy, bin, isShift, intBin, hn]
                   simp [dvV])
            · cases h
          · cases h
        · cases h
      · cases h
    · cases h
theorem wd_dv (hI : I.Ok P) {K : Act → World → Prop} {r : Dr} {i : Nat} {pl : List (Nat × Bool)} {dn : List Nat} (ho : ops[i]? = some o) {b : Bool} {k : IntKind} {p q : Int} {d : Nat} (h : dvE f.n ops env o = some (b, k, p, q, d)) (hq : q ≠ 0)
  (kk : WD P f ops K r pl (i :: dn) ((d, dvV b k p q) :: env) w) : WD P f ops K r ((i, true) :: pl) dn env w := by
 obtain ⟨h1, h2, h3⟩ := dvE_pev (I := I) h hq
 exact wd_q ho h1 h2 (fun w' _ => pev_sound hI h3 w') kk
theorem st_dv (hI : I.Ok P) {K : Env → World → Prop} {b : Bool} {k : IntKind} {p q : Int} {d : Nat} (h : dvE f.n ops env o = some (b, k, p, q, d)) (hq : q ≠ 0)
  (kk : K ((d, dvV b k p q) :: env) w) : St P f ops o env w K := by
 obtain ⟨h1, h2, h3⟩ := dvE_pev (I := I) h hq
 obtain ⟨h4, h5⟩ := pre_eq h1
 exact st_v h4 h5 (pev_sound hI h3 w) (by rw [h2]; exact kk)
end
end Go.Vc
namespace Go.Proofs.YtpcdihkcenfgkaaGreatDoor
open Go.Vc
theorem flat_few {α β : Type} {f : α → List β} {n : Nat} : ∀ {L : List α}, (∀ x ∈ L, (f x).length ≤ n) → (L.flatMap f).length ≤ L.length * n
 | [], _ => by simp
 | a :: L, h => by
  have h1 := h a List.mem_cons_self
  have h2 := flat_few (L := L) fun x hx => h x (List.mem_cons_of_mem _ hx)
  rw [List.flatMap_cons, List.length_append, List.length_cons, Nat.succ_mul]
  omega
theorem own_newS {N : Nat} {w : World} {p : Option Addr} {n c T sz : Nat} {xs : List Value} (h : Own w p n c T sz xs) (hn : ∀ y, OwnB p y → N ≤ y) : ∀ x off, p = some ⟨x, off, none⟩ → N ≤ x := fun x off e => by
 rcases h with ⟨rfl, _⟩ | ⟨y, L, rfl, hy, _⟩
 ·cases e
 ·cases e; exact hn _ rfl
theorem u64_pos (a : Int) : 0 ≤ IntKind.u64.wrap a := by
 simp [IntKind.wrap, IntKind.bits, IntKind.signed]
 omega
theorem u64_len {n : Nat} (hn : 0 < n) (hn2 : n < 1000000) : IntKind.u64.wrap (n : Int) ≠ 0 := by
 rw [IntWalk.u64_in _ (by omega)]
 omega
def Stb (S : Nat → Prop) (w : World) (P : World → Prop) : Prop := ∀ w', Ext S w w' → P w'
theorem Stb.now {S : Nat → Prop} {w : World} {P : World → Prop} (h : Stb S w P) : P w := h w (Ext.refl _ _)
theorem Stb.step {S S' T : Nat → Prop} {w w' : World} {P : World → Prop} (h : Stb S w P) (hE : Ext T w w') (hT : ∀ x, x < w.heap.size → T x → S x) (hS : ∀ x, x < w.heap.size → S' x → S x) : Stb S' w' P := fun w2 h2 => h w2 ((hE.mono hT).trans h2 hS)
theorem Stb.sub {S S' : Nat → Prop} {w : World} {P : World → Prop} (h : Stb S w P) (hS : ∀ x, x < w.heap.size → S' x → S x) : Stb S' w P := fun w2 h2 => h w2 (h2.mono hS)
theorem Stb.no {S : Nat → Prop} {w w' : World} {P : World → Prop} (h : Stb S w P) (hE : Ext No w w') : Stb S w' P := h.step hE (fun _ _ k => k.elim) fun _ _ k => k
theorem Stb.one {S : Nat → Prop} {w w' : World} {P : World → Prop} {b : Nat} (h : Stb S w P) (hE : Ext (One b) w w') (hb : S b) : Stb S w' P := h.step hE (fun x _ e => by have e : x = b := e; subst e; exact hb) fun _ _ k => k
def ix64 (a : Int) (n : Nat) : Nat := (IntKind.u64.wrap a).toNat % n
theorem ix64_lt (a : Int) {n : Nat} (hn : 0 < n) : ix64 a n < n := Nat.mod_lt _ hn
theorem ix64_eq (a : Int) {n : Nat} (hn : 0 < n) (hn2 : n < 1000000) : IntKind.i64.wrap ((IntKind.u64.wrap a).tmod (IntKind.u64.wrap (n : Int))) = (ix64 a n : Int) := by
 obtain ⟨N, hN⟩ := Int.eq_ofNat_of_zero_le (u64_pos a)
 have h1 := Nat.mod_lt N hn
 unfold ix64
 rw [IntWalk.u64_in (n : Int) (by omega), hN, ← Int.ofNat_tmod, IntWalk.i64_in _ (by omega)]
 rfl
structure StepD where
  rows : List RowD
  back : List Int
  note : Str
def pickI (ids : List IdB) (b : Int) : IdB := ids.getD (ix64 b ids.length) []
def parD (ids : List IdB) (back : List Int) : List IdB := if ids.length = 0 then [] else match (back.take 2).map (pickI ids) with
  | [a, b] => if b = a then [a] else [a, b]
  | l => l
def comD (h : Hp) (ids : List IdB) (s : StepD) : ObjD := { objZ with kind := 3, style := 1 + ((parD ids s.back).length : Int), tree := idOf (treeOf (tex8 s.rows)), note := s.note.take 200, parents := parD ids s.back, number := h.top (parD ids s.back) }
def putO (h : Hp) (o : ObjD) : Hp := if idOf o ∈ List.map Prod.fst h then h else h ++ [(idOf o, o)]
def putD (h : Hp) (l : List ObjD) : Hp := l.foldl putO h
def partO (rows : List RowD) : List ObjD := (refT rows).map blobO ++ [treeOf rows]
def stepD (x : Hp × List IdB) (s : StepD) : Hp × List IdB := if RowsOk (tex8 s.rows) ∧ ObjOk (treeOf (tex8 s.rows)) then
  (putD x.1 (partO (tex8 s.rows) ++ [comD x.1 x.2 s]), x.2 ++ [idOf (comD x.1 x.2 s)]) else x
def madeD (l : List StepD) : Hp × List IdB := (l.take 6).foldl stepD ([], [])
def madeN (l : List StepD) (n : Nat) : Hp × List IdB := (l.take n).foldl stepD ([], [])
theorem madeN_step {l : List StepD} {i : Nat} (h : i < l.length) : madeN l (i + 1) = stepD (madeN l i) l[i] := by
 rw [madeN, List.take_succ_eq_append_getElem h, List.foldl_append]; rfl
theorem madeN_end {l : List StepD} {i : Nat} (h : i = 6 ∨ i = l.length ∧ i ≤ 6) : madeN l i = madeD l := by
 unfold madeN madeD
 rcases h with h | ⟨h, h8⟩
 ·rw [h]
 ·rw [h, List.take_length, List.take_of_length_le (by omega)]
theorem toHp_putS (l : List zz4) (x : ObjX) : toHp (putS l x) = putO (toHp l) x.1 := by
 unfold putS putO toHp
 rw [List.map_map]
 have e : (l.map ((fun x => x.fst) ∘ fun h => (h.id, h.o))) = l.map zz4.id := rfl
 rw [e]
 split
 ·rfl
 ·rw [List.map_append]; rfl
theorem toHp_putW (xs : List ObjX) : ∀ (l : List zz4), toHp (putW l xs) = putD (toHp l) (xs.map Prod.fst) := by
 induction xs with
 | nil => intro l; rfl
 | cons x xs ih =>
  intro l
  show toHp (putW (putS l x) xs) = putD (putO (toHp l) x.1) (xs.map Prod.fst)
  rw [ih, toHp_putS]
theorem parD_in {ids : List IdB} (hi : ∀ y ∈ ids, IdIn y) (back : List Int) : ∀ y ∈ parD ids back, IdIn y := fun y hy => by
 unfold parD at hy
 split at hy
 ·cases hy
 ·rename_i h0
  have hp : ∀ b, IdIn (pickI ids b) := fun b => by
   unfold pickI
   rw [List.getD_eq_getElem?_getD, List.getElem?_eq_getElem (ix64_lt b (by omega))]
   exact hi _ (List.getElem_mem _)
  have hall : ∀ z ∈ (back.take 2).map (pickI ids), IdIn z := fun z hz => by
   obtain ⟨b, _, rfl⟩ := List.mem_map.1 hz; exact hp b
  split at hy
  ·rename_i a b e
   rw [e] at hall
   split at hy
   ·exact hall y (by rw [List.mem_singleton.1 hy]; simp)
   ·exact hall y hy
  ·exact hall y hy
theorem parD_len (ids : List IdB) (back : List Int) : (parD ids back).length ≤ 2 := by
 unfold parD
 split
 ·exact Nat.zero_le _
 ·have h2 : ((back.take 2).map (pickI ids)).length ≤ 2 := by rw [List.length_map, List.length_take]; omega
  split
  ·split
   ·show 1 ≤ 2; omega
   ·exact Nat.le_refl 2
  ·exact h2
theorem parD_none {ids : List IdB} {back : List Int} (h : ids.length = 0) : parD ids back = [] := if_pos h
theorem parD_all {ids : List IdB} {back : List Int} (h : ids.length ≠ 0) {t : Nat} (ht : t = 2 ∨ t = back.length ∧ t ≤ 2) (hne : ∀ a b, (back.take t).map (pickI ids) = [a, b] → b ≠ a) : parD ids back = (back.take t).map (pickI ids) := by
 have e : back.take t = back.take 2 := by
  rcases ht with rfl | ⟨rfl, h2⟩
  ·rfl
  ·rw [List.take_length, List.take_of_length_le h2]
 rw [parD, if_neg h, ← e]
 split
 ·rename_i a b e2
  rw [if_neg (hne a b e2), e2]
 ·rfl
theorem parD_dup {ids : List IdB} {back : List Int} (h : ids.length ≠ 0) {b : Int} (hb : back[1]? = some b) {a : IdB} (ha : (back.take 1).map (pickI ids) = [a]) (hd : pickI ids b = a) : parD ids back = [a] := by
 rw [parD, if_neg h]
 rcases back with _ | ⟨x, _ | ⟨y, r⟩⟩
 ·cases ha
 ·cases hb
 ·have e1 : pickI ids x = a := by simpa using ha
  have e2 : y = b := by simpa using hb
  subst e2
  simp only [List.take, List.map_cons, List.map_nil]
  rw [hd, e1, if_pos rfl]
theorem comD_in {h : Hp} {ids : List IdB} {s : StepD} (hi : ∀ y ∈ ids, IdIn y) (hn : h.top (parD ids s.back) < 2 ^ 32) : ObjIn (comD h ids s) := ⟨zj6 _, objZ_in.base, fun r hr => parD_in hi _ r hr, fun _ hr => (by cases hr), fun _ hr => (by cases hr), hn, (by show 0 < 2 ^ 32; decide)⟩
theorem comD_bytes (h : Hp) (ids : List IdB) (s : StepD) : BytesIn (comD h ids s) := ⟨.inr (.inr rfl), fun k => absurd k (by show ¬ (3 : Int) = 1; decide), fun k => absurd k (by show ¬ (3 : Int) = 2; decide), fun _ => ⟨Nat.zero_le _, fun _ hr => (by cases hr)⟩, fun _ => ⟨parD_len _ _, by show (0 : Int) ≤ 1 + _; omega⟩, fun _ => by show (s.note.take 200).length ≤ 200; rw [List.length_take]; omega⟩
structure FewN (l : List zz4) (n : Nat) : Prop where
  lk : ∀ h ∈ l, (zj3 h.o).length ≤ 40
  note : ∀ h ∈ l, h.o.note.length ≤ 200
  num : ∀ h ∈ l, h.o.number ≤ n
theorem kObj_num {l : List zz4} {n : Nat} (hn : ∀ h ∈ l, h.o.number ≤ n) (p : IdB) (k : Int) : ((toHp l).kObj p k).number ≤ n := by
 unfold Hp.kObj
 split
 ·exact Nat.zero_le _
 ·rcases Hp.obj_held (l := l) (x := p) with e | ⟨y, hy, e⟩
  ·rw [e]; exact Nat.zero_le _
  ·rw [e]; exact hn y hy
theorem top_snoc (h : Hp) (l : List IdB) (p : IdB) : h.top (l ++ [p]) = max (h.top l) ((h.kObj p 3).number + 1) := by
 rw [Hp.top, List.foldl_append]; rfl
theorem tex8_len (l : List RowD) : (tex8 l).length ≤ 4 := by rw [tex8, List.length_map, List.length_take]; omega
theorem partO_len (l : List RowD) : (partO l).length ≤ l.length + 1 := by rw [partO, List.length_append, List.length_map]; have := refT_len l; show _ + 1 ≤ _; omega
end Go.Proofs.YtpcdihkcenfgkaaGreatDoor
namespace Go.Vc
theorem Ag.shadow {f : Fs} {env : Env} {a : Act} (h : Ag f env a) {d : Nat} {v v' : Value} (hd : lk env d = some v) (hv : v = v') : Ag f ((d, v') :: env) a :=
 ⟨h.defers, h.size, fun i u hi => by
  rw [lk_cons] at hi
  split at hi
  ·rename_i e; subst e; simp at hi; subst hi; subst hv; exact h.get _ _ hd
  ·exact h.get _ _ hi⟩
section
variable {P : Program} {f : Fs} {ops : Array Oper} {Q : XPost} {env : Env} {w : World}
theorem wl_put {l : List Oper} (d : Nat) {v v' : Value} (hd : lk env d = some v) (hv : v = v') (h : WL P f ops Q l ((d, v') :: env) w) : WL P f ops Q l env w := fun a ha => h a (ha.shadow hd hv)
theorem wc_put {c : Code} (d : Nat) {v v' : Value} (hd : lk env d = some v) (hv : v = v') (h : WC P f c Q ((d, v') :: env) w) : WC P f c Q env w := fun a ha => h a (ha.shadow hd hv)
theorem fin_put {e : Exit} (d : Nat) {v v' : Value} (hd : lk env d = some v) (hv : v = v') (h : Fin f Q e ((d, v') :: env) w) : Fin f Q e env w := fun a ha => h a (ha.shadow hd hv)
theorem wd_put {K : Act → World → Prop} {r : Dr} {pl : List (Nat × Bool)} {dn : List Nat} (d : Nat) {v v' : Value} (hd : lk env d = some v) (hv : v = v') (h : WD P f ops K r pl dn ((d, v') :: env) w) : WD P f ops K r pl dn env w :=
 fun h1 h2 h3 h4 a ha => h h1 h2 h3 h4 a (ha.shadow hd hv)
end
end Go.Vc
namespace Go.Proofs.YtpcdihkcenfgkaaGreatDoor
open Go.Vc
structure StepT where
  mp : Option Addr
  mc : Nat
  rows : List RowD
  bp : Option Addr
  bc : Nat
  back : List Int
  note : Str
abbrev StepT.d (s : StepT) : StepD := ⟨s.rows, s.back, s.note⟩
def stepC (s : StepT) : List Value := [.slice s.mp s.rows.length s.mc, .slice s.bp s.back.length s.bc, strV s.note]
instance (s : StepT) : OneC (stepC s) := by unfold stepC; infer_instance
theorem stepC_len (s : StepT) : (stepC s).length = 3 := rfl
def intC (n : Int) : List Value := [.int .i64 n]
structure StepIn (w : World) (s : StepT) : Prop where
  rows : Sl w s.mp s.rows.length 2 (s.rows.flatMap RowD.cells)
  rl : s.rows.length < 9223372036854775808
  back : Sl w s.bp s.back.length 1 (s.back.flatMap intC)
  bl : s.back.length < 9223372036854775808
structure TurnD where
  at_ : Int
  fl : Int
  n : Int
def turnC (t : TurnD) : List Value := [.int .i64 t.at_, .int .i64 t.fl, .int .i64 t.n]
instance (t : TurnD) : OneC (turnC t) := by unfold turnC; infer_instance
def I64 (n : Int) : Prop := -9223372036854775808 ≤ n ∧ n ≤ 9223372036854775807
structure MZ where
  m : List zz4
  q : Option Addr
  k : Nat
  ids : List IdB
  qi : Option Addr
  ki : Nat
structure MadeS (N0 : Nat) (D : Hp × List IdB) (i : Nat) (z : MZ) : Prop where
  e : (toHp z.m, z.ids) = D
  few : FewN z.m i
  len : z.m.length ≤ 6 * i
  new : ∀ y, OwnB z.qi y → N0 ≤ y
  ids : ∀ y ∈ z.ids, IdIn y
  il : z.ids.length ≤ i
structure MadeY (b2 b4 : Nat) (z : MZ) (u : World) : Prop where
  hp : Stb (fun x => x ≤ b2 ∨ x = b4 ∨ OwnB z.qi x) u (fun u => HpIn u z.q z.m)
  own : Own u z.qi z.ids.length z.ki 31 32 (z.ids.flatMap zq6)
structure MadeR (N b2 b4 : Nat) (z : MZ) (u : World) : Prop where
  n : N ≤ u.heap.size
  hp : Stb (fun x => (x ≤ b2 ∨ x = b4 ∨ OwnB z.qi x) ∨ N ≤ x) u (fun u => HpIn u z.q z.m)
  own : Stb (fun x => (x ≤ b2 ∨ x = b4) ∨ N ≤ x) u (fun u => Own u z.qi z.ids.length z.ki 31 32 (z.ids.flatMap zq6))
theorem MadeY.round {b2 b4 : Nat} {z : MZ} {u : World} (h : MadeY b2 b4 z u) {T4 : Nat} {L4 : List Value} (h2 : ∀ y, OwnB z.qi y → b2 + 1 ≤ y) (h4 : Blk u b4 T4 L4) (n4 : 31 ≠ T4) : MadeR u.heap.size b2 b4 z u := by
 refine ⟨Nat.le_refl _, h.hp.sub fun x hx k => k.elim id fun k => absurd hx (by omega), fun w' hE => h.own.ext hE fun x hx k => ?_⟩
 rcases k with (k | k) | k
 ·have := h2 x hx; omega
 ·exact h.own.neTy hx h4 n4 k
 ·have := h.own.lt hx; omega
theorem MadeR.ext {N b2 b4 : Nat} {z : MZ} {u u' : World} (h : MadeR N b2 b4 z u) {T : Nat → Prop} (hE : Ext T u u') (hT : ∀ x, x < u.heap.size → T x → N ≤ x) : MadeR N b2 b4 z u' :=
 ⟨Nat.le_trans h.n hE.size, h.hp.step hE (fun x hx k => .inr (hT x hx k)) fun _ _ k => k, h.own.step hE (fun x hx k => .inr (hT x hx k)) fun _ _ k => k⟩
theorem MadeR.no {N b2 b4 : Nat} {z : MZ} {u u' : World} (h : MadeR N b2 b4 z u) (hE : Ext No u u') : MadeR N b2 b4 z u' := h.ext hE fun _ _ k => k.elim
theorem MadeR.one {N b2 b4 : Nat} {z : MZ} {u u' : World} (h : MadeR N b2 b4 z u) {b : Nat} (hE : Ext (One b) u u') (hb : N ≤ b) : MadeR N b2 b4 z u' := h.ext hE fun x _ e => by have e : x = b := e; omega
theorem MadeR.app {N b2 b4 : Nat} {z : MZ} {u u' : World} (h : MadeR N b2 b4 z u) {q : Option Addr} (hE : Ext (OwnB q) u u') (hq : ∀ x, OwnB q x → N ≤ x) : MadeR N b2 b4 z u' := h.ext hE fun x _ e => hq x e
theorem MadeR.y {N b2 b4 : Nat} {z : MZ} {u : World} (h : MadeR N b2 b4 z u) : MadeY b2 b4 z u := ⟨h.hp.sub fun _ _ k => .inl k, h.own.now⟩
theorem MadeS.done {N0 i : Nat} {L : List StepD} {z : MZ} (h : MadeS N0 (madeN L i) i z) (hi : i = 6 ∨ i = L.length ∧ i ≤ 6) : MadeS N0 (madeD L) 6 z := by
 have h8 : i ≤ 6 := by omega
 exact ⟨h.e.trans (madeN_end hi), ⟨h.few.lk, h.few.note, fun x hx => Nat.le_trans (h.few.num x hx) h8⟩, by have := h.len; omega, h.new, h.ids, by have := h.il; omega⟩
theorem made0 (N0 : Nat) (L : List StepD) : MadeS N0 (madeN L 0) 0 ⟨[], none, 0, [], none, 0⟩ := ⟨rfl, ⟨fun _ h => (by cases h), fun _ h => (by cases h), fun _ h => (by cases h)⟩, Nat.zero_le _, fun y h => (by cases h), fun _ h => (by cases h), Nat.zero_le _⟩
theorem madeY0 (b2 b4 : Nat) (u : World) : MadeY b2 b4 ⟨[], none, 0, [], none, 0⟩ u := ⟨fun w' _ => ⟨Sl.nil _ _ _, fun _ h => (by cases h), by show 0 < 1000000; decide, by show 0 < 100000; decide⟩, Own.nil _ _ _⟩
theorem MadeS.skip {N0 i : Nat} {L : List StepD} {z : MZ} (h : MadeS N0 (madeN L i) i z) (hi : i < L.length) (hn : ¬ (RowsOk (tex8 L[i].rows) ∧ ObjOk (treeOf (tex8 L[i].rows)))) : MadeS N0 (madeN L (i + 1)) (i + 1) z :=
 ⟨by rw [madeN_step hi, stepD, if_neg hn]; exact h.e, ⟨h.few.lk, h.few.note, fun x hx => Nat.le_succ_of_le (h.few.num x hx)⟩, by have := h.len; omega, h.new, h.ids, by have := h.il; omega⟩
abbrev objs (l : List zz4) : List ObjX := l.map fun h => (h.o, h.a)
theorem one_obj {o : ObjD} {a : ObjP} (ho : ObjIn o) : putAll (rep 1 (objC objZ noP)) [(0 * (0 + 73), 0 + 73, .agg (objC o a).toArray)] = objC o a := by
 simp only [putAll, zj9]
 rw [Nat.zero_mul, put_whole (by rw [rep_length, zq7 ho, zq7 objZ_in])]
theorem objX_len {l : List ObjX} (h : ∀ x ∈ l, ObjIn x.1) : ∀ x ∈ l, (objX x).length = 73 := fun x hx => zq7 (h x hx)
theorem objs_step {l : List zz4} {j : Nat} (hj : j < l.length) : (objs (l.take (j + 1))).flatMap objX = (objs (l.take j)).flatMap objX ++ objC l[j].o l[j].a := by
 rw [List.take_succ_eq_append_getElem hj, objs, List.map_append, List.flatMap_append]
 simp [objs]
def comT (h : Hp) (ids : List IdB) (s : StepD) (t : Nat) : ObjD := { objZ with kind := 3, style := 1 + (t : Int), tree := idOf (treeOf (tex8 s.rows)), note := s.note.take 200, parents := (s.back.take t).map (pickI ids), number := h.top ((s.back.take t).map (pickI ids)) }
abbrev parP (p : Option Addr) (c : Nat) : ObjP := ⟨none, 0, p, c, none, 0⟩
theorem pickI_in {ids : List IdB} (hi : ∀ y ∈ ids, IdIn y) (h0 : ids.length ≠ 0) (b : Int) : IdIn (pickI ids b) := by
 unfold pickI
 rw [List.getD_eq_getElem?_getD, List.getElem?_eq_getElem (ix64_lt b (by omega))]
 exact hi _ (List.getElem_mem _)
theorem pickI_at {ids : List IdB} {b : Int} (h : ix64 b ids.length < ids.length) : pickI ids b = ids[ix64 b ids.length] := by
 unfold pickI
 rw [List.getD_eq_getElem?_getD, List.getElem?_eq_getElem h]; rfl
theorem comT_in {h : Hp} {ids : List IdB} {s : StepD} {t : Nat} (hi : ∀ y ∈ ids, IdIn y) (h0 : t = 0 ∨ ids.length ≠ 0) (hn : ∀ p, (h.kObj p 3).number < 1000) : ObjIn (comT h ids s t) := by
 refine ⟨zj6 _, objZ_in.base, fun r hr => ?_, fun _ hr => (by cases hr), fun _ hr => (by cases hr), ?_, (by show 0 < 2 ^ 32; decide)⟩
 ·obtain ⟨b, hb, rfl⟩ := List.mem_map.1 hr
  rcases h0 with rfl | h0
  ·cases hb
  ·exact pickI_in hi h0 b
 ·have : h.top ((s.back.take t).map (pickI ids)) ≤ 1000 := top_le fun p _ => hn p
  show h.top _ < 2 ^ 32
  omega
theorem comT_len {ids : List IdB} {s : StepD} {t : Nat} (ht : t ≤ s.back.length) : ((s.back.take t).map (pickI ids)).length = t := by rw [List.length_map, List.length_take]; omega
theorem comT_done {h : Hp} {ids : List IdB} {s : StepD} {t : Nat} (ht : t ≤ s.back.length) (e : parD ids s.back = (s.back.take t).map (pickI ids)) : comT h ids s t = comD h ids s := by
 unfold comT comD
 rw [e, comT_len ht]
theorem back_snoc {ids : List IdB} {back : List Int} {t : Nat} (ht : t < back.length) : (back.take (t + 1)).map (pickI ids) = (back.take t).map (pickI ids) ++ [pickI ids back[t]] := by
 rw [List.take_succ_eq_append_getElem ht, List.map_append]; rfl
theorem com_build {t : List UInt8} (ht : t.length = 32) (n : Str) : putAll (objC objZ noP) [(0, 1, .int .i64 3), (3, 1, .int .i64 1), (4, 32, .agg (zq6 t).toArray), (72, 1, strV n)] = objC { objZ with kind := 3, style := 1, tree := t, note := n } noP := by
 have l1 : (zq6 t).length = 32 := by rw [zx0, ht]
 have e0 : putAll (objC objZ noP) [(0, 1, .int .i64 3), (3, 1, .int .i64 1)] = ([.int .i64 3, strV [], .slice none 0 0, .int .i64 1] : List Value) ++ (zq6 idZ ++ (zq6 idZ ++ [Value.slice none 0 0, .slice none 0 0, .int .u32 0, .int .u32 0, strV []])) := by kernel_rfl
 have e1 : putAll (objC objZ noP) [(0, 1, .int .i64 3), (3, 1, .int .i64 1), (4, 32, .agg (zq6 t).toArray), (72, 1, strV n)] = put (put (putAll (objC objZ noP) [(0, 1, .int .i64 3), (3, 1, .int .i64 1)]) 4 (zq6 t)) 72 [strV n] := rfl
 rw [e1, e0]
 have l2 : (zq6 idZ).length = 32 := by rw [zx0]; rfl
 rw [put_eq _ 4 _ (by simp only [List.length_append, l1, l2]; decide)]
 obtain ⟨A, hA⟩ : ∃ A : List Value, A = [.int .i64 3, strV [], .slice none 0 0, .int .i64 1] := ⟨_, rfl⟩
 have lA : A.length = 4 := by rw [hA]; rfl
 rw [← hA, List.take_left' lA, l1, ← List.drop_drop, List.drop_left' lA, List.drop_left' l2]
 obtain ⟨B, hB⟩ : ∃ B : List Value, B = [Value.slice none 0 0, .slice none 0 0, .int .u32 0, .int .u32 0] := ⟨_, rfl⟩
 have lB : B.length = 4 := by rw [hB]; rfl
 have e2 : ([Value.slice none 0 0, .slice none 0 0, .int .u32 0, .int .u32 0, strV []] : List Value) = B ++ [strV []] := by rw [hB]; rfl
 rw [e2, ← List.append_assoc (zq6 idZ) B, ← List.append_assoc (A ++ zq6 t)]
 have l3 : (A ++ zq6 t ++ (zq6 idZ ++ B)).length = 72 := by simp only [List.length_append, lA, lB, l1, l2]
 rw [put_eq _ _ _ (by rw [List.length_append, l3]; exact Nat.le_refl _), List.take_left' l3, List.drop_of_length_le (by rw [List.length_append, l3]; exact Nat.le_refl _), List.append_nil, hA, hB]
 simp [objC, objZ]
theorem objC_par {o : ObjD} {a : ObjP} (h : ObjIn o) {l : List IdB} {p : Option Addr} {c : Nat} : (objC o a).set (68 + 0) (.slice p l.length c) = objC { o with parents := l } ⟨a.lp, a.lc, p, c, a.rp, a.rc⟩ := objC_set h 0 _
theorem objC_nu {o : ObjD} {a : ObjP} (h : ObjIn o) {n : Nat} : (objC o a).set (68 + 2) (.int .u32 (n : Int)) = objC { o with number := n } a := objC_set h 2 _
theorem parts_shape {W w' : World} {v : Value} {L : List zz4} {q : Option Addr} {k : Nat} {t : ObjD} (h1 : ObjOk t → v = .slice q L.length k ∧ Own w' q L.length k 48 105 (L.flatMap heldC)) (h2 : ¬ ObjOk t → v = .slice none 0 0) (hn : ∀ x, OwnB q x → W.heap.size ≤ x) :
  ∃ q2 n k2, v = .slice q2 n k2 ∧ (ObjOk t → n = L.length ∧ Own w' q2 L.length k2 48 105 (L.flatMap heldC)) ∧ (¬ ObjOk t → n = 0) ∧ ∀ x, OwnB q2 x → W.heap.size ≤ x := by
 by_cases h : ObjOk t
 ·obtain ⟨e, ho⟩ := h1 h
  exact ⟨q, L.length, k, e, fun _ => ⟨rfl, ho⟩, fun k => absurd h k, hn⟩
 ·exact ⟨none, 0, 0, h2 h, fun k => absurd k h, fun _ => rfl, noOwn⟩
theorem refP_len (l : List RowD) (a : ObjP) : (refP l a).length = (refT l).length + 1 := by rw [refP, List.length_append, List.length_map]; rfl
theorem refP_last (l : List RowD) (a : ObjP) (h : (refP l a).length - 1 < (refP l a).length) : (refP l a)[(refP l a).length - 1] = ⟨idOf (treeOf l), treeOf l, a⟩ := by
 have e : (refP l a).length - 1 = ((refT l).map heldB).length := by rw [refP_len, List.length_map]; rfl
 simp only [e]
 unfold refP
 rw [List.getElem_append_right (Nat.le_refl _)]
 simp
theorem refP_objs (l : List RowD) (a : ObjP) : (objs (refP l a)).map Prod.fst = partO l := by
 unfold refP partO objs
 simp only [List.map_append, List.map_map, List.map_cons, List.map_nil]
 rfl
theorem refP_all {P : zz4 → Prop} {l : List RowD} {a : ObjP} (h1 : ∀ t ∈ refT l, P (heldB t)) (h2 : P ⟨idOf (treeOf l), treeOf l, a⟩) : ∀ x ∈ refP l a, P x := fun x hx => by
 unfold refP at hx
 rcases List.mem_append.1 hx with hx | hx
 ·obtain ⟨t, ht, rfl⟩ := List.mem_map.1 hx; exact h1 t ht
 ·rw [List.mem_singleton.1 hx]; exact h2
theorem refT_mem {l : List RowD} : ∀ t ∈ refT l, ∃ r ∈ l, t = r.text := by
 have : ∀ (l : List RowD) (acc : List Str) (t : Str), t ∈ l.foldl addT acc → t ∈ acc ∨ ∃ r ∈ l, t = r.text := by
  intro l
  induction l with
  | nil => intro acc t h; exact .inl h
  | cons r l ih =>
   intro acc t h
   rcases ih _ t h with k | ⟨r2, h2, e⟩
   ·unfold addT at k
    split at k
    ·exact .inl k
    ·rcases List.mem_append.1 k with k | k
     ·exact .inl k
     ·exact .inr ⟨r, List.mem_cons_self, List.mem_singleton.1 k⟩
   ·exact .inr ⟨r2, List.mem_cons_of_mem _ h2, e⟩
 intro t ht
 rcases this l [] t ht with k | k
 ·cases k
 ·exact k
theorem tex8_in (l : List RowD) : ∀ r ∈ tex8 l, r.path.length ≤ 48 ∧ r.text.length ≤ 256 := fun r hr => by
 obtain ⟨x, _, rfl⟩ := List.mem_map.1 hr
 exact ⟨by show (x.path.take 48).length ≤ 48; rw [List.length_take]; omega, by show (x.text.take 256).length ≤ 256; rw [List.length_take]; omega⟩
theorem tree_ok {l : List RowD} : ObjIn (treeOf (tex8 l)) ∧ Short (treeOf (tex8 l)) := by
 have h := tex8_in l
 have hl := tex8_len l
 have hll : (leavesOf (tex8 l)).length = (tex8 l).length := by rw [leavesOf, List.length_map]
 refine ⟨treeO_in (leavesOf_in fun r hr => by have := (h r hr).1; have := maxLen_big; omega), tree_sh (by omega) fun r hr => ?_⟩
 obtain ⟨y, hy, rfl⟩ := List.mem_map.1 hr
 have := (h y hy).1
 show y.path.length < _
 omega
theorem held_okB (w : World) {l : List RowD} {t : Str} (ht : t ∈ refT (tex8 l)) : HeldIn w (heldB t) ∧ BytesIn (heldB t).o ∧ (zj3 (heldB t).o).length ≤ 40 ∧ (heldB t).o.note.length ≤ 200 ∧ (heldB t).o.number = 0 := by
 obtain ⟨r, hr, rfl⟩ := refT_mem t ht
 have := (tex8_in l r hr).2
 exact ⟨⟨zj6 _, blobO_in _, blob_sh _, blob_l _ _⟩, bytes_of (blob_ok (by omega)).1, Nat.zero_le _, Nat.zero_le _, rfl⟩
structure MadeQ (W w : World) (q : Option Addr) (m : List zz4) (qi : Option Addr) (ki : Nat) (ids : List IdB) : Prop where
  hp : Stb (fun x => x < W.heap.size ∨ OwnB qi x) w (fun u => HpIn u q m)
  own : Own w qi ids.length ki 31 32 (ids.flatMap zq6)
  new : ∀ y, OwnB qi y → W.heap.size ≤ y
  iin : ∀ y ∈ ids, IdIn y
  il : ids.length ≤ 8
  few : m.length ≤ 60
  lks : ∀ x ∈ m, (zj3 x.o).length ≤ 40
theorem lk_few {l : List zz4} (hl : l.length ≤ 1000) (h : ∀ x ∈ l, (zj3 x.o).length ≤ 40) : (l.flatMap fun e => zj3 e.o).length < 100000 := by
 have h1 := flat_few (f := fun e : zz4 => zj3 e.o) (n := 40) h
 have := Nat.mul_le_mul_right 40 hl
 omega
theorem com_few (h : Hp) (ids : List IdB) (s : StepD) : (zj3 (comD h ids s)).length ≤ 40 := by
 have e : zj3 (comD h ids s) = idOf (treeOf (tex8 s.rows)) :: parD ids s.back := rfl
 rw [e, List.length_cons]
 have := parD_len ids s.back
 omega
theorem tree_few (l : List RowD) : (zj3 (treeOf (tex8 l))).length ≤ 40 := by
 have e : zj3 (treeOf (tex8 l)) = (leavesOf (tex8 l)).map zj8.id := rfl
 rw [e, List.length_map, leavesOf, List.length_map]
 have := tex8_len l
 omega
theorem MadeS.go {N0 i : Nat} {L : List StepD} {z : MZ} (h : MadeS N0 (madeN L i) i z) (hi : i < L.length) (hok : RowsOk (tex8 L[i].rows) ∧ ObjOk (treeOf (tex8 L[i].rows))) {xs : List ObjX} (hx : xs.map Prod.fst = partO (tex8 L[i].rows) ++ [comD (toHp z.m) z.ids L[i]]) {q qi : Option Addr} {k ki : Nat} (hn : ∀ y, OwnB qi y → N0 ≤ y) :
  MadeS N0 (madeN L (i + 1)) (i + 1) ⟨putW z.m xs, q, k, z.ids ++ [idOf (comD (toHp z.m) z.ids L[i])], qi, ki⟩ := by
 have hxl : xs.length = (partO (tex8 L[i].rows)).length + 1 := by rw [← List.length_map (f := Prod.fst), hx, List.length_append]; rfl
 have hpl := partO_len (tex8 L[i].rows)
 have h4 := tex8_len L[i].rows
 have hwl := putW_len xs z.m
 have hall : ∀ x ∈ xs, (zj3 x.1).length ≤ 40 ∧ x.1.note.length ≤ 200 ∧ x.1.number ≤ i + 1 := fun x hm => by
  have hm2 : x.1 ∈ partO (tex8 L[i].rows) ++ [comD (toHp z.m) z.ids L[i]] := by rw [← hx]; exact List.mem_map_of_mem hm
  rcases List.mem_append.1 hm2 with k | k
  ·unfold partO at k
   rcases List.mem_append.1 k with k | k
   ·obtain ⟨t, _, e⟩ := List.mem_map.1 k
    rw [← e]; exact ⟨Nat.zero_le _, Nat.zero_le _, Nat.zero_le _⟩
   ·rw [List.mem_singleton.1 k]; exact ⟨tree_few _, Nat.zero_le _, Nat.zero_le _⟩
  ·rw [List.mem_singleton.1 k]
   refine ⟨com_few _ _ _, ?_, top_le fun p _ => Nat.lt_succ_of_le (kObj_num h.few.num p 3)⟩
   show (L[i].note.take 200).length ≤ 200
   rw [List.length_take]; omega
 refine ⟨?_, ⟨?_, ?_, ?_⟩, ?_, hn, ?_, ?_⟩
 ·rw [madeN_step hi, stepD, if_pos hok, ← h.e, toHp_putW, hx]
 ·exact putW_mem (P := fun y => (zj3 y.o).length ≤ 40) xs h.few.lk fun x hm => (hall x hm).1
 ·exact putW_mem (P := fun y => y.o.note.length ≤ 200) xs h.few.note fun x hm => (hall x hm).2.1
 ·exact putW_mem (P := fun y => y.o.number ≤ i + 1) xs (fun y hy => Nat.le_succ_of_le (h.few.num y hy)) fun x hm => (hall x hm).2.2
 ·have := h.len
  dsimp only
  omega
 ·intro y hy
  rcases List.mem_append.1 hy with k | k
  ·exact h.ids y k
  ·rw [List.mem_singleton.1 k]; exact zj6 _
 ·have := h.il
  show (z.ids ++ [_]).length ≤ i + 1
  rw [List.length_append]
  show z.ids.length + 1 ≤ i + 1
  omega
theorem comT_step {h : Hp} {ids : List IdB} {s : StepD} {t : Nat} (ht : t < s.back.length) : comT h ids s (t + 1) = { comT h ids s t with parents := (s.back.take (t + 1)).map (pickI ids), style := 1 + ((t + 1 : Nat) : Int), number := max (comT h ids s t).number ((h.kObj (pickI ids s.back[t]) 3).number + 1) } := by
 unfold comT
 rw [back_snoc ht, top_snoc]
theorem stb_put {S T : Nat → Prop} {w w' : World} {q q2 : Option Addr} {k2 : Nat} {m : List zz4} {xs : List ObjX} (h : Stb T w fun u => HpIn u q m) (hE : Ext No w w') (hST : ∀ x, x < w.heap.size → S x → T x) (ho : Own w' q2 (putW m xs).length k2 48 105 ((putW m xs).flatMap heldC)) (hS : ∀ x, OwnB q2 x → ¬ S x)
  (hx : ∀ x ∈ xs, Stb S w' fun u => HeldIn u (heldO x)) (hl : (putW m xs).length < 1000000) (hk : ((putW m xs).flatMap fun e => zj3 e.o).length < 100000) : Stb S w' fun u => HpIn u q2 (putW m xs) := fun u hu =>
 ⟨(ho.ext hu hS).sl, putW_mem xs ((h.step hE (fun _ _ k => k.elim) hST) u hu).ins fun x hm => hx x hm u hu, hl, hk⟩
theorem made_calls (w : World) {ps : Option Addr} {cs : Nat} {steps : List StepT} (hs : Sl w ps steps.length 3 (steps.flatMap stepC)) (hsi : ∀ s ∈ steps, StepIn w s) (hsl : steps.length < 9223372036854775808) :
  zz1 Tryz.prog 46 [.slice ps steps.length cs] w fun v w' => ∃ q k m qi ki ids, v = .tuple #[.agg #[.slice q m.length k], .slice qi ids.length ki] ∧ MadeQ w w' q m qi ki ids ∧ (toHp m, ids) = madeD (steps.map StepT.d) ∧ Ext No w w' := by
 refine zq9 Tryz.func46 rfl rfl rfl rfl ?_
 have hX := Ext.refl No w
 refine zq5 (zq0 (wl (zz9 I_ok rfl fun b2 w1 hn2 hb2 hE1 => ?_)))
 have fr2 := Nat.le_trans hX.size hn2
 have hX := hX.zq4 hE1
 have hb2 : Blk w1 b2 29 ([.slice none 0 0]) := hb2
 refine wl_p I_ok rfl (zq3 (zq1 (zq5 (zq0 (wl (zz9 I_ok rfl fun b4 w2 hn4 hb4 hE2 => ?_))))))
 have ne2_4 : b2 ≠ b4 := Nat.ne_of_lt (Nat.lt_of_lt_of_le hb2.lt hn4)
 have fr4 := Nat.le_trans hX.size hn4
 have hb2 := hb2.zq2 hE2
 have hX := hX.zq4 hE2
 have hb4 : Blk w2 b4 29 ([.slice none 0 0]) := hb4
 refine zq3 (zq1 (zq5 (zq0 (wl_p I_ok rfl (zq3 (zq1 ?_))))))
 refine c_cutK (α := MZ) [2, 4] rfl (fun z => [(5, .slice z.qi z.ids.length z.ki)]) (fun z u => (MadeS (b2 + 1) (madeD (steps.map StepT.d)) 6 z ∧ MadeY b2 b4 z u) ∧ Blk u b2 29 ([.slice none 0 0]) ∧ Blk u b4 29 ([.slice z.q z.m.length z.k]) ∧ Ext No w u) ?_ ?_
 ·refine zq5 ?_
  refine zq0 (wl_p I_ok rfl (zq3 (zq1 (zx4 ?_))))
  refine zv3 (α := Nat × MZ) [2, 4, 19, 20] rfl (fun z => [(5, .slice z.2.qi z.2.ids.length z.2.ki), (21, .int .i64 (z.1 : Int))]) (fun z u => (z.1 ≤ steps.length ∧ z.1 ≤ 6 ∧ MadeS (b2 + 1) (madeN (steps.map StepT.d) z.1) z.1 z.2 ∧ MadeY b2 b4 z.2 u) ∧ Blk u b2 29 ([.slice none 0 0]) ∧ Blk u b4 29 ([.slice z.2.q z.2.m.length z.2.k]) ∧ Ext No w u) (fun z u => steps.length - z.1) (0, ⟨[], none, 0, [], none, 0⟩) rfl ⟨⟨Nat.zero_le _, Nat.zero_le _, made0 _ _, madeY0 _ _ _⟩, hb2, hb4, hX⟩ ?_
  rintro ⟨i, m, q, k, ids, qi, ki⟩ w3 ⟨⟨hi, hi8, hMS, hMY⟩, hb2, hb4, hX⟩
  try dsimp only
  dsimp only at hi hi8 hMS hMY
  have hR := hMY.round hMS.new hb4 (by decide)
  have hqiL : ∀ x, OwnB qi x → x < w3.heap.size := fun x hx => hMY.own.lt hx
  obtain ⟨N, hN⟩ : ∃ N, N = w3.heap.size := ⟨_, rfl⟩
  rw [← hN] at hR hqiL
  have hNw : w.heap.size ≤ N := by rw [hN]; exact hX.size
  have hb2N : b2 < N := by rw [hN]; exact hb2.lt
  refine zq5 (zq0 (wl_p I_ok rfl (zq3 (zq1 (zq5 (c_if rfl (fun hc => ?_) (fun hc => ?_)))))))
  ·have hi2 : i < steps.length := by omega
   have hiD : i < (steps.map StepT.d).length := by rw [List.length_map]; exact hi2
   have eiD : (steps.map StepT.d)[i] = steps[i].d := by rw [List.getElem_map]
   obtain ⟨sb, so, hp1, hsq⟩ := hs.rowAll (fun r _ => stepC_len r) (by omega)
   have hSi := hsi _ (List.getElem_mem hi2)
   refine wc_put 19 rfl (v' := .slice (some ⟨sb, so, none⟩) steps.length cs) (by rw [hp1]) (zx7 (zq1 ?_))
   refine c_cutK (α := MZ) [2, 4, 19, 20, 21] rfl (fun z => [(5, .slice z.qi z.ids.length z.ki)]) (fun z u => (i < 6 ∧ MadeS (b2 + 1) (madeN (steps.map StepT.d) (i + 1)) (i + 1) z ∧ MadeY b2 b4 z u) ∧ Blk u b2 29 ([.slice none 0 0]) ∧ Blk u b4 29 ([.slice z.q z.m.length z.k]) ∧ Ext No w u) ?_ ?_
   ·refine zx4 ?_
    refine zq5 (zq0 (wl_p I_ok rfl (wl (st_ix I_ok rfl 3 rfl i rfl (by omega) (so + i * 3) rfl (wl (st_ldN I_ok rfl ((hsq i hi2).zq2 hX) rfl ?_))))))
    have hR0 := hR.n
    refine wl (zz9 I_ok rfl fun b7 w4 hn7 hb7 hE4 => ?_)
    have ne2_7 : b2 ≠ b7 := Nat.ne_of_lt (Nat.lt_of_lt_of_le hb2.lt hn7)
    have ne4_7 : b4 ≠ b7 := Nat.ne_of_lt (Nat.lt_of_lt_of_le hb4.lt hn7)
    have fr7 := Nat.le_trans hX.size hn7
    have hb2 := hb2.zq2 hE4
    have hb4 := hb4.zq2 hE4
    have hR := hR.no hE4
    have hX := hX.zq4 hE4
    have fN7 := Nat.le_trans hR0 hn7
    refine wl_p I_ok rfl (wl (zj1 (l' := stepC steps[i]) I_ok hb7 rfl rfl rfl rfl OneC.h fun w5 hb7 hE5 hs5 => ?_))
    have hb2 := hb2.ext1 hE5 ne2_7
    have hb4 := hb4.ext1 hE5 ne4_7
    have hR := hR.one hE5 fN7
    have hX := hX.zx1 hE5 fr7
    refine zq3 (zq1 (zq5 (zq5 (zq0 (wl_p I_ok rfl (zq3 (zq1 (c_if rfl (fun hc => ?_) (fun hc => ?_)))))))))
    ·have h8 : i = 6 := by omega
     refine c_exit ?_
     exact zx3 (f_blockE' rfl (zx3 (zx3 (zz0 (zz7 (⟨m, q, k, ids, qi, ki⟩) rfl ⟨⟨hMS.done (.inl h8), hR.y⟩, hb2, hb4, hX⟩)))))
    ·have h8 : i < 6 := by omega
     refine zx7 (zq1 (zq5 (zq0 (wl_p I_ok rfl (wl (st_ldN I_ok rfl (show Seg _ _ _ [.slice steps[i].mp steps[i].rows.length steps[i].mc] from hb7.seg.take 1) rfl ?_))))))
     refine wl (zx2 Tryz.call102 rfl rfl rfl rfl rfl rfl (tex8_calls w5 (hSi.rows.zq2 hX) hSi.rl) fun v6 w6 hr6 => ?_)
     obtain ⟨q8, k8, rfl, h8o, h8n, hE6⟩ := hr6
     have hb2 := hb2.zq2 hE6
     have hb4 := hb4.zq2 hE6
     have hb7 := hb7.zq2 hE6
     have hR := hR.no hE6
     have hX := hX.zq4 hE6
     have hR0 := hR.n
     refine wl (zz9 I_ok rfl fun b8 w7 hn8 hb8 hE7 => ?_)
     have ne2_8 : b2 ≠ b8 := Nat.ne_of_lt (Nat.lt_of_lt_of_le hb2.lt hn8)
     have ne4_8 : b4 ≠ b8 := Nat.ne_of_lt (Nat.lt_of_lt_of_le hb4.lt hn8)
     have ne7_8 : b7 ≠ b8 := Nat.ne_of_lt (Nat.lt_of_lt_of_le hb7.lt hn8)
     have fr8 := Nat.le_trans hX.size hn8
     have hb2 := hb2.zq2 hE7
     have hb4 := hb4.zq2 hE7
     have hb7 := hb7.zq2 hE7
     have hR := hR.no hE7
     have h8o := h8o.ext hE7 fun _ _ => id
     have hX := hX.zq4 hE7
     have fN8 := Nat.le_trans hR0 hn8
     have hb8o := hb8
     refine wl (zj1 (l' := [.slice q8 (tex8 steps[i].rows).length k8]) I_ok hb8 rfl rfl rfl rfl OneC.h fun w8 hb8 hE8 hs8 => ?_)
     have hb2 := hb2.ext1 hE8 ne2_8
     have hb4 := hb4.ext1 hE8 ne4_8
     have hb7 := hb7.ext1 hE8 ne7_8
     have hR := hR.one hE8 fN8
     have h8o := h8o.zx9 hE8 hb8o (by decide)
     have hX := hX.zx1 hE8 fr8
     refine zq3 (zq1 (zq5 (zq5 (zq0 (wl (zj2 I_ok hb8 rfl rfl ?_))))))
     refine wl (zx2 Tryz.call81 rfl rfl rfl rfl rfl rfl (right5_calls w8 h8o.sl (by have := tex8_len steps[i].rows; omega) (fun r hr => by have := (tex8_in steps[i].rows r hr).1; omega)) fun v9 w9 hr9 => ?_)
     obtain ⟨rfl, hE9⟩ := hr9
     have hb2 := hb2.zq2 hE9
     have hb4 := hb4.zq2 hE9
     have hb7 := hb7.zq2 hE9
     have hb8 := hb8.zq2 hE9
     have hR := hR.no hE9
     have h8o := h8o.ext hE9 fun _ _ => id
     have hX := hX.zq4 hE9
     refine wl_p I_ok rfl (zq3 (zq1 (c_cond rfl (fun hc => ?_) (fun hc => ?_))))
     ·have hro : ¬ RowsOk (tex8 steps[i].rows) := by simpa using hc
      refine c_exit ?_
      exact zx3 (zz0 (zz7 (⟨m, q, k, ids, qi, ki⟩) rfl ⟨⟨h8, hMS.skip hiD (by rw [eiD]; exact fun e => hro e.1), hR.y⟩, hb2, hb4, hX⟩))
     ·have hro : RowsOk (tex8 steps[i].rows) := by simpa using hc
      refine zx7 (zq1 (zq5 (zq0 (wl_p I_ok rfl (zq3 (zq1 (zq5 (zq0 (wl (zj2 I_ok hb8 rfl rfl ?_))))))))))
      have hRp := hR.n
      refine wl (zx2 Tryz.call82 rfl rfl rfl rfl rfl rfl (parts6_calls w9 hro h8o.sl) fun v10 w10 hr10 => ?_)
      obtain ⟨qP0, kP0, lp, lc, hP1, hP2, hPn, hlf, hln, hE10⟩ := hr10
      have hb2 := hb2.zq2 hE10
      have hb4 := hb4.zq2 hE10
      have hb7 := hb7.zq2 hE10
      have hR := hR.no hE10
      have hX := hX.zq4 hE10
      obtain ⟨qP, nP, kP, rfl, hPo, hPz, hPn2⟩ := parts_shape hP1 hP2 hPn
      have hln2 : ∀ y, OwnB lp y → N ≤ y := fun y hy => Nat.le_trans hRp (hln y hy)
      obtain ⟨htin, htsh⟩ := tree_ok (l := steps[i].rows)
      refine wl_p I_ok rfl (zq3 (zq1 (zq5 (zq5 (zq0 (wl_p I_ok rfl (zq3 (zq1 (c_if rfl (fun hc => ?_) (fun hc => ?_))))))))))
      ·have hok : ¬ ObjOk (treeOf (tex8 steps[i].rows)) := fun k => by have := (hPo k).1; rw [refP_len] at this; have h0 : (nP : Int) = 0 := hc; omega
       refine c_exit ?_
       exact zx3 (zz0 (zz7 (⟨m, q, k, ids, qi, ki⟩) rfl ⟨⟨h8, hMS.skip hiD (by rw [eiD]; exact fun e => hok e.2), hR.y⟩, hb2, hb4, hX⟩))
      ·have hok : ObjOk (treeOf (tex8 steps[i].rows)) := Decidable.byContradiction fun k => hc (by rw [hPz k]; rfl)
       obtain ⟨rfl, hpt⟩ := hPo hok
       have hPlen := refP_len (tex8 steps[i].rows) (lfP lp lc)
       have hPl2 := refT_len (tex8 steps[i].rows)
       have hPl3 := tex8_len steps[i].rows
       obtain ⟨pb, Lp, hpb, hpB, hpL, hpc, hpm, hpk⟩ := hpt.opened (by omega)
       subst hpb
       have hPid : ∀ x ∈ (refP (tex8 steps[i].rows) (lfP lp lc)), x.id.length = 32 ∧ ObjIn x.o := refP_all (fun t ht => ⟨zj6 _, blobO_in _⟩) ⟨zj6 _, htin⟩
       have hPc : ∀ x ∈ (refP (tex8 steps[i].rows) (lfP lp lc)), (heldC x).length = 105 := fun x hx => heldC_len (hPid x hx).1 (hPid x hx).2
       obtain ⟨pb2, po2, eq2, hpr⟩ := hpt.sl.rowAll hPc (by omega)
       cases eq2
       have hlt1 : (refP (tex8 steps[i].rows) (lfP lp lc)).length - 1 < (refP (tex8 steps[i].rows) (lfP lp lc)).length := by omega
       have hla := held_id (hpr _ hlt1)
       rw [refP_last] at hla
       dsimp only at hla
       refine zx7 (zq1 (zq5 (zq5 (zq0 (wl_p I_ok rfl (zq3 (zq1 (zx4 ?_))))))))
       refine zv3 (α := Nat × Option Addr × Nat) [2, 4, 5, 7, 10, 19, 20, 21, 39, 40] rfl (fun z => [(9, .slice z.2.1 (objs ((refP (tex8 steps[i].rows) (lfP lp lc)).take z.1)).length z.2.2), (41, .int .i64 (z.1 : Int))]) (fun z u => (z.1 ≤ (refP (tex8 steps[i].rows) (lfP lp lc)).length ∧ Own u z.2.1 (objs ((refP (tex8 steps[i].rows) (lfP lp lc)).take z.1)).length z.2.2 46 73 ((objs ((refP (tex8 steps[i].rows) (lfP lp lc)).take z.1)).flatMap objX) ∧ (∀ y, OwnB z.2.1 y → N ≤ y) ∧ Own u (some ⟨pb, 0, none⟩) (refP (tex8 steps[i].rows) (lfP lp lc)).length kP 48 105 ((refP (tex8 steps[i].rows) (lfP lp lc)).flatMap heldC) ∧ Own u lp (leavesOf (tex8 steps[i].rows)).length lc 56 33 ((leavesOf (tex8 steps[i].rows)).flatMap zj8.cells) ∧ MadeR N b2 b4 ⟨m, q, k, ids, qi, ki⟩ u) ∧ Blk u b2 29 ([.slice none 0 0]) ∧ Blk u b4 29 ([.slice q m.length k]) ∧ Blk u b7 104 (stepC steps[i]) ∧ Ext No w u) (fun z u => (refP (tex8 steps[i].rows) (lfP lp lc)).length - z.1) (0, none, 0) rfl ⟨⟨Nat.zero_le _, Own.nil _ _ _, noOwn, hpt, hlf, hR⟩, hb2, hb4, hb7, hX⟩ ?_
       rintro ⟨j, q9, k9⟩ w11 ⟨⟨hj, h9, h9n, hpt, hlf, hR⟩, hb2, hb4, hb7, hX⟩
       try dsimp only
       dsimp only at hj h9 h9n hpt hlf hR
       refine zq5 (zq0 (wl_p I_ok rfl (zq3 (zq1 (zq5 (c_if rfl (fun hc => ?_) (fun hc => ?_)))))))
       ·have hj2 : j < (refP (tex8 steps[i].rows) (lfP lp lc)).length := by omega
        obtain ⟨pb3, po3, eq3, hpr⟩ := hpt.sl.rowAll hPc (by omega)
        cases eq3
        have hidj := hPid _ (List.getElem_mem hj2)
        have hjl : (objs ((refP (tex8 steps[i].rows) (lfP lp lc)).take j)).length = j := by rw [List.length_map, List.length_take]; omega
        refine zx7 (zq1 (zq5 (zx4 (zq5 (zq0 (wl (st_ix I_ok rfl 105 rfl j rfl hj2 (0 + j * 105) rfl (wl (st_ldN I_ok rfl (hpr j hj2) (hPc _ (List.getElem_mem hj2)) ?_)))))))))
        have hR0 := hR.n
        have hpt0 := hpt
        refine wl (zz9 I_ok rfl fun b12 w12 hn12 hb12 hE12 => ?_)
        have ne2_12 : b2 ≠ b12 := Nat.ne_of_lt (Nat.lt_of_lt_of_le hb2.lt hn12)
        have ne4_12 : b4 ≠ b12 := Nat.ne_of_lt (Nat.lt_of_lt_of_le hb4.lt hn12)
        have ne7_12 : b7 ≠ b12 := Nat.ne_of_lt (Nat.lt_of_lt_of_le hb7.lt hn12)
        have fr12 := Nat.le_trans hX.size hn12
        have hb2 := hb2.zq2 hE12
        have hb4 := hb4.zq2 hE12
        have hb7 := hb7.zq2 hE12
        have hR := hR.no hE12
        have hlf := hlf.ext hE12 fun _ _ => id
        have hpt := hpt.ext hE12 fun _ _ => id
        have h9 := h9.ext hE12 fun _ _ => id
        have hX := hX.zq4 hE12
        have fN12 := Nat.le_trans hR0 hn12
        have ne12 : ∀ x, OwnB (some ⟨pb, 0, none⟩) x → x ≠ b12 := fun x hx => Nat.ne_of_lt (Nat.lt_of_lt_of_le (hpt0.lt hx) hn12)
        have hb12o := hb12
        refine wl (zj1 (l' := heldC (refP (tex8 steps[i].rows) (lfP lp lc))[j]) I_ok hb12 rfl rfl (hPc _ (List.getElem_mem hj2)) (by rw [hPc _ (List.getElem_mem hj2)]; rfl) OneC.h fun w13 hb12 hE13 hs13 => ?_)
        have hb2 := hb2.ext1 hE13 ne2_12
        have hb4 := hb4.ext1 hE13 ne4_12
        have hb7 := hb7.ext1 hE13 ne7_12
        have hR := hR.one hE13 fN12
        have hlf := hlf.zx9 hE13 hb12o (by decide)
        have hpt := hpt.ext hE13 (fun x hx => ne12 x hx)
        have h9 := h9.zx9 hE13 hb12o (by decide)
        have hX := hX.zx1 hE13 fr12
        refine zq3 (zq1 (zq0 (wl_p I_ok rfl (wl (st_ldN I_ok rfl (held_obj hb12.seg hidj.1) (zq7 hidj.2) ?_)))))
        refine wl (st_bs I_ok rfl 73 rfl objZ_c.symm (by rw [zq7 objZ_in]) (by decide) (by decide) ⟨⟨by rw [zj9]; exact zq7 hidj.2, by decide⟩, trivial⟩ (l' := objC (refP (tex8 steps[i].rows) (lfP lp lc))[j].o (refP (tex8 steps[i].rows) (lfP lp lc))[j].a) (one_obj hidj.2) fun b48 w14 hn48 hb48 hE14 hs14 => ?_)
        have hb2 := hb2.zq2 hE14
        have hb4 := hb4.zq2 hE14
        have hb7 := hb7.zq2 hE14
        have hR := hR.no hE14
        have hlf := hlf.ext hE14 fun _ _ => id
        have hpt := hpt.ext hE14 fun _ _ => id
        have h9 := h9.ext hE14 fun _ _ => id
        have hX := hX.zq4 hE14
        have hX1 := hX
        have hR1 := hR.n
        have hs48 : Sl w14 (some ⟨b48, 0, none⟩) 1 73 (objC (refP (tex8 steps[i].rows) (lfP lp lc))[j].o (refP (tex8 steps[i].rows) (lfP lp lc))[j].a) := ⟨zq7 hidj.2, .inr ⟨b48, 0, rfl, hb48.seg⟩⟩
        refine wl (zv2 I_ok rfl 73 192 rfl rfl rfl (by decide) h9 (Src.slice (m := 1) hs48 OneC.h) (by rw [hjl]; dsimp only [maxLen]; omega) (by dsimp only; rw [hjl]; omega) fun p15 c15 w15 ho15 hE15 hB15 => ?_)
        dsimp only at ho15 hE15 hB15 ⊢
        have hX := hX1.trans hE15 fun y hy hF => by have := h9n y hF; omega
        have hb2 := hb2.zq8 h9 hE15 (by decide)
        have hb4 := hb4.zq8 h9 hE15 (by decide)
        have hb7 := hb7.zq8 h9 hE15 (by decide)
        have hR := hR.app hE15 h9n
        have hlf := hlf.ext hE15 (fun x hx hx2 => by obtain ⟨L1, h1⟩ := hlf.blkAt hx; obtain ⟨L2, h2⟩ := h9.blkAt hx2; exact absurd (h1.uniq h2).2 (by decide))
        have hpt := hpt.ext hE15 (fun x hx hx2 => by obtain ⟨L1, h1⟩ := hpt.blkAt hx; obtain ⟨L2, h2⟩ := h9.blkAt hx2; exact absurd (h1.uniq h2).2 (by decide))
        have e3 : (objs ((refP (tex8 steps[i].rows) (lfP lp lc)).take (j + 1))).length = (objs ((refP (tex8 steps[i].rows) (lfP lp lc)).take j)).length + 1 := by rw [hjl, List.length_map, List.length_take]; omega
        obtain ⟨q92, k92, e1, e2, h92⟩ : ∃ q2 k2, q2 = p15 ∧ k2 = c15 ∧ Own w15 q2 (objs ((refP (tex8 steps[i].rows) (lfP lp lc)).take (j + 1))).length k2 46 73 ((objs ((refP (tex8 steps[i].rows) (lfP lp lc)).take (j + 1))).flatMap objX) := ⟨_, _, rfl, rfl, by
         rw [e3, objs_step hj2]
         exact ho15⟩
        rw [← e1] at hB15
        rw [← e1, ← e2, ← e3]
        have h9n2 : (∀ y, OwnB q92 y → N ≤ y) := fun x hx => (hB15 x hx).elim (fun h => h9n x h) fun h => Nat.le_trans hR1 h
        refine wl_p I_ok rfl (zq3 (zx6 (zq1 (zq0 (wl_p I_ok rfl ?_)))))
        rw [IntWalk.i64_in _ (by omega)]
        refine zq3 ?_
        exact zv1 (j + 1, q92, k92) rfl ⟨⟨hj2, h92, h9n2, hpt, hlf, hR⟩, hb2, hb4, hb7, hX⟩ (by first | omega | (dsimp only; omega))
       ·have hjz : j = (refP (tex8 steps[i].rows) (lfP lp lc)).length := by omega
        subst hjz
        rw [List.take_length] at h9
        rw [List.take_length]
        obtain ⟨pb3, po3, eq3, hpr⟩ := hpt.sl.rowAll hPc (by omega)
        cases eq3
        have hla := held_id (hpr _ hlt1)
        rw [refP_last] at hla
        dsimp only at hla
        refine c_exit (zx3 (zx3 (zz0 (zq1 (zq5 ?_)))))
        refine c_draw rfl 16 [(0, true), (1, true), (2, true), (3, true), (4, true), (5, true), (6, true), (7, true), (8, true), (9, true), (10, true), (11, true), (12, true), (13, true), (14, true), (15, false)] [16] (No) (by kernel_rfl) fun w16 hE16 hs16 => ?_
        have hd7 := hb7
        have hlad := hla
        have hb2 := hb2.zq2 hE16
        have hb4 := hb4.zq2 hE16
        have hb7 := hb7.zq2 hE16
        have hR := hR.no hE16
        have hlf := hlf.ext hE16 fun _ _ => id
        have h9 := h9.ext hE16 fun _ _ => id
        have hX := hX.zq4 hE16
        have hC : Ext (No) _ w16 := hE16.no
        refine wd_k I_ok 4 rfl ?_
        rw [show ((((refP (tex8 steps[i].rows) (lfP lp lc)).length : Nat) : Int) - 1) = (((refP (tex8 steps[i].rows) (lfP lp lc)).length - 1 : Nat) : Int) from by omega, IntWalk.i64_in _ (by omega)]
        refine wd_ix I_ok rfl rfl 105 rfl ((refP (tex8 steps[i].rows) (lfP lp lc)).length - 1) rfl hlt1 (0 + ((refP (tex8 steps[i].rows) (lfP lp lc)).length - 1) * 105) rfl (wd_k I_ok 1 rfl ?_)
        refine wd_ldN I_ok rfl rfl (fun w' hw' => (hlad.zq2 hw')) (by rw [zx0, zj6]) ?_
        refine wd_k I_ok 1 rfl (wd_ld I_ok rfl rfl (fun w' hw' => (hd7.zq2 hw').cell rfl) ?_)
        refine wd_k I_ok 1 rfl (wd_ld I_ok rfl rfl (fun w' hw' => (hd7.zq2 hw').cell rfl) ?_)
        refine wd_k I_ok 2 rfl (wd_ss I_ok rfl rfl 0 (min _ 200) (cutBds _ _) ?_)
        rw [strU_cut]
        refine wd_bd I_ok rfl rfl ⟨⟨rfl, by decide⟩, ⟨rfl, by decide⟩, ⟨by rw [zj9, zx0, zj6], by decide⟩, ⟨rfl, by decide⟩, trivial⟩ (l' := objC (comT (toHp m) ids steps[i].d 0) noP) (by rw [← objZ_c]; exact com_build (zj6 _) _) ?_
        have hR0 := hR.n
        have h90 := h9
        have hnu : ∀ p, ((toHp m).kObj p 3).number < 1000 := fun p => by have := kObj_num hMS.few.num p 3; dsimp only at this; omega
        have hc0 := comT_in (s := steps[i].d) hMS.ids (.inl rfl) hnu
        refine wd_l rfl (zz9 I_ok rfl fun b13 w17 hn13 hb13 hE17 => ⟨hC.zq4 hE17, ?_⟩)
        have ne2_13 : b2 ≠ b13 := Nat.ne_of_lt (Nat.lt_of_lt_of_le hb2.lt hn13)
        have ne4_13 : b4 ≠ b13 := Nat.ne_of_lt (Nat.lt_of_lt_of_le hb4.lt hn13)
        have ne7_13 : b7 ≠ b13 := Nat.ne_of_lt (Nat.lt_of_lt_of_le hb7.lt hn13)
        have fr13 := Nat.le_trans hX.size hn13
        have hb2 := hb2.zq2 hE17
        have hb4 := hb4.zq2 hE17
        have hb7 := hb7.zq2 hE17
        have hR := hR.no hE17
        have hlf := hlf.ext hE17 fun _ _ => id
        have h9 := h9.ext hE17 fun _ _ => id
        have hX := hX.zq4 hE17
        have hC := hC.zq4 hE17
        have fN13 := Nat.le_trans hR0 hn13
        have nq9_13 : ∀ x, OwnB q9 x → x ≠ b13 := fun x hx => Nat.ne_of_lt (Nat.lt_of_lt_of_le (h90.lt hx) hn13)
        refine wd_sw ?_
        have hb13o := hb13
        refine wb rfl (zj1 (l' := objC (comT (toHp m) ids steps[i].d 0) noP) I_ok hb13 rfl rfl (zq7 hc0) (by rw [zq7 hc0]; rfl) OneC.h fun w18 hb13 hE18 hs18 => ?_)
        have hb2 := hb2.ext1 hE18 ne2_13
        have hb4 := hb4.ext1 hE18 ne4_13
        have hb7 := hb7.ext1 hE18 ne7_13
        have hR := hR.one hE18 fN13
        have hlf := hlf.zx9 hE18 hb13o (by decide)
        have h9 := h9.ext hE18 (fun x hx => nq9_13 x hx)
        have hX := hX.zx1 hE18 fr13
        refine zv0 (zq1 ?_)
        refine c_cutK (α := Option Addr × Nat) [2, 4, 5, 9, 13, 19, 20, 21] rfl (fun z => []) (fun z u => (Own u z.1 (parD ids steps[i].back).length z.2 31 32 ((parD ids steps[i].back).flatMap zq6) ∧ (∀ y, OwnB z.1 y → N ≤ y) ∧ Own u q9 (objs (refP (tex8 steps[i].rows) (lfP lp lc))).length k9 46 73 ((objs (refP (tex8 steps[i].rows) (lfP lp lc))).flatMap objX) ∧ Own u lp (leavesOf (tex8 steps[i].rows)).length lc 56 33 ((leavesOf (tex8 steps[i].rows)).flatMap zj8.cells) ∧ MadeR N b2 b4 ⟨m, q, k, ids, qi, ki⟩ u) ∧ Blk u b2 29 ([.slice none 0 0]) ∧ Blk u b4 29 ([.slice q m.length k]) ∧ Blk u b13 46 (objC (comD (toHp m) ids steps[i].d) (parP z.1 z.2)) ∧ Ext No w u) ?_ ?_
        ·refine zq5 ?_
         refine zq0 (wl_p I_ok rfl (wl (st_ldb I_ok hb7 rfl rfl (wl_p I_ok rfl (zq3 (zq1 (zx4 ?_)))))))
         refine zv3 (α := Nat × Option Addr × Nat) [2, 4, 5, 9, 13, 19, 20, 21, 67, 68] rfl (fun z => [(69, .int .i64 (z.1 : Int))]) (fun z u => ((z.1 ≤ steps[i].back.length ∧ z.1 ≤ 2 ∧ (z.1 = 0 ∨ ids.length ≠ 0) ∧ ∀ a b, ((steps[i].back.take z.1).map (pickI ids)) = [a, b] → b ≠ a) ∧ Own u z.2.1 ((steps[i].back.take z.1).map (pickI ids)).length z.2.2 31 32 (((steps[i].back.take z.1).map (pickI ids)).flatMap zq6) ∧ (∀ y, OwnB z.2.1 y → N ≤ y) ∧ Own u q9 (objs (refP (tex8 steps[i].rows) (lfP lp lc))).length k9 46 73 ((objs (refP (tex8 steps[i].rows) (lfP lp lc))).flatMap objX) ∧ Own u lp (leavesOf (tex8 steps[i].rows)).length lc 56 33 ((leavesOf (tex8 steps[i].rows)).flatMap zj8.cells) ∧ MadeR N b2 b4 ⟨m, q, k, ids, qi, ki⟩ u) ∧ Blk u b2 29 ([.slice none 0 0]) ∧ Blk u b4 29 ([.slice q m.length k]) ∧ Blk u b13 46 (objC (comT (toHp m) ids steps[i].d z.1) (parP z.2.1 z.2.2)) ∧ Ext No w u) (fun z u => steps[i].back.length - z.1) (0, none, 0) rfl ⟨⟨⟨Nat.zero_le _, Nat.zero_le _, .inl rfl, fun a b e => (by cases e)⟩, Own.nil _ _ _, noOwn, h9, hlf, hR⟩, hb2, hb4, hb13, hX⟩ ?_
         rintro ⟨t, pp, pc⟩ w19 ⟨⟨⟨ht1, ht2, ht3, ht4⟩, hpp, hppn, h9, hlf, hR⟩, hb2, hb4, hb13, hX⟩
         try dsimp only
         dsimp only at ht1 ht2 ht3 ht4 hpp hppn
         refine zq5 (zq0 (wl_p I_ok rfl (zq3 (zq1 (zq5 (c_if rfl (fun hc => ?_) (fun hc => ?_)))))))
         ·have htl : t < steps[i].back.length := by omega
          have hbl := hSi.bl
          obtain ⟨bb, bo, hbp, hbr⟩ := hSi.back.rowAll (fun r _ => rfl) (by omega)
          have hct := comT_in (s := steps[i].d) hMS.ids ht3 hnu
          refine wc_put 67 rfl (v' := .slice (some ⟨bb, bo, none⟩) steps[i].back.length steps[i].bc) (by rw [hbp]) (zx7 (zq1 (zq5 (zx4 (zq5 (zq0 (wl_p I_ok rfl ?_)))))))
          refine wl (st_ix I_ok rfl 1 rfl t rfl (by omega) (bo + t * 1) rfl (wl (st_ld I_ok rfl (by have := ((hbr t htl).zq2 hX) 0 _ rfl; exact this) (wl_p I_ok rfl (zq3 (zq1 (zq5 ?_)))))))
          refine c_cutK (α := Bool) [2, 4, 5, 9, 13, 14, 15, 19, 20, 21, 67, 68, 69] rfl (fun z => [(80, .bool z)]) (fun z u => u = w19 ∧ z = decide (t = 2 ∨ ids.length = 0)) ?_ ?_
          ·refine zq0 ?_
           refine wl_p I_ok rfl (zj4 76 rfl (fun hg => ?_) (fun hg => ?_))
           ·have hg1 : t = 2 := by omega
            refine zz5 I_ok 4 rfl (zq3 ?_)
            exact zz7 (true) rfl ⟨rfl, (decide_eq_true (.inl hg1)).symm⟩
           ·have hg1 : ¬ t = 2 := by omega
            refine zz5 I_ok 4 rfl (zq3 ?_)
            exact zz7 (_) rfl ⟨rfl, by rw [decide_eq_decide]; exact ⟨fun k => .inr (by omega), fun k => k.elim (fun k => absurd k hg1) fun k => by omega⟩⟩
          rintro z w20 ⟨hu, rfl⟩
          have hu := hu.symm
          subst hu
          refine c_if rfl (fun hc => ?_) (fun hc => ?_)
          ·have hpd : parD ids steps[i].back = ((steps[i].back.take t).map (pickI ids)) := by
            by_cases h0 : ids.length = 0
            ·rw [parD_none h0]
             rcases ht3 with k | k
             ·rw [k]; rfl
             ·exact absurd h0 k
            ·exact parD_all h0 (.inl (hc.elim id fun k => absurd k h0)) ht4
           have hcd : (comT (toHp m) ids steps[i].d t) = (comD (toHp m) ids steps[i].d) := comT_done ht1 hpd
           rw [← hpd] at hpp
           rw [hcd] at hb13
           refine c_exit ?_
           exact zx3 (f_blockE' rfl (zx3 (zx3 (zz0 (zz7 (pp, pc) rfl ⟨⟨hpp, hppn, h9, hlf, hR⟩, hb2, hb4, hb13, hX⟩)))))
          ·have ht5 : t < 2 := by omega
           have hl0 : 0 < ids.length := by omega
           have hil := hMS.il
           dsimp only at hil
           have hilen : ids.length < 1000000 := by omega
           have hix := ix64_lt steps[i].back[t] hl0
           have hids := hMS.ids
           dsimp only at hids
           obtain ⟨ib, io, hqi, hir⟩ := (hR.own.now).sl.rowAll (fun r hr => (hids r hr : IdIn r).len) (by dsimp only; omega)
           dsimp only at hqi hir
           have hpi := pickI_in hids (by omega) steps[i].back[t]
           have hpe := pickI_at (b := steps[i].back[t]) hix
           refine wc_put 5 rfl (v' := .slice (some ⟨ib, io, none⟩) ids.length ki) (by rw [hqi]) (zx7 (zq1 (zq5 (zq0 (zz5 I_ok 6 rfl (wl (st_dv I_ok rfl (u64_len hl0 hilen) ?_)))))))
           rw [show dvV false IntKind.u64 (IntKind.u64.wrap steps[i].back[t]) (IntKind.u64.wrap (ids.length : Int)) = .int .u64 ((IntKind.u64.wrap steps[i].back[t]).tmod (IntKind.u64.wrap (ids.length : Int))) from rfl]
           refine wl_p I_ok rfl ?_
           rw [ix64_eq _ hl0 hilen]
           refine wl (st_ix I_ok rfl 32 rfl (ix64 steps[i].back[t] ids.length) rfl hix (io + ix64 steps[i].back[t] ids.length * 32) rfl (wl (st_ldN I_ok rfl (by have := hir _ hix; rw [← hpe] at this; exact this) hpi.len ?_)))
           have hR0 := hR.n
           have h90 := h9
           have hpp0 := hpp
           refine wl (zz9 I_ok rfl fun b16 w21 hn16 hb16 hE21 => ?_)
           have ne2_16 : b2 ≠ b16 := Nat.ne_of_lt (Nat.lt_of_lt_of_le hb2.lt hn16)
           have ne4_16 : b4 ≠ b16 := Nat.ne_of_lt (Nat.lt_of_lt_of_le hb4.lt hn16)
           have ne13_16 : b13 ≠ b16 := Nat.ne_of_lt (Nat.lt_of_lt_of_le hb13.lt hn16)
           have fr16 := Nat.le_trans hX.size hn16
           have hb2 := hb2.zq2 hE21
           have hb4 := hb4.zq2 hE21
           have hb13 := hb13.zq2 hE21
           have hR := hR.no hE21
           have hlf := hlf.ext hE21 fun _ _ => id
           have h9 := h9.ext hE21 fun _ _ => id
           have hpp := hpp.ext hE21 fun _ _ => id
           have hX := hX.zq4 hE21
           have fN16 := Nat.le_trans hR0 hn16
           have nq9_16 : ∀ x, OwnB q9 x → x ≠ b16 := fun x hx => Nat.ne_of_lt (Nat.lt_of_lt_of_le (h90.lt hx) hn16)
           have ne16 : ∀ x, OwnB pp x → x ≠ b16 := fun x hx => Nat.ne_of_lt (Nat.lt_of_lt_of_le (hpp0.lt hx) hn16)
           have hb16o := hb16
           refine wl (zj1 (l' := zq6 (pickI ids steps[i].back[t])) I_ok hb16 rfl rfl hpi.len (by rw [zx0, hpi]; rfl) OneC.h fun w22 hb16 hE22 hs22 => ?_)
           have hb2 := hb2.ext1 hE22 ne2_16
           have hb4 := hb4.ext1 hE22 ne4_16
           have hb13 := hb13.ext1 hE22 ne13_16
           have hR := hR.one hE22 fN16
           have hlf := hlf.zx9 hE22 hb16o (by decide)
           have h9 := h9.ext hE22 (fun x hx => nq9_16 x hx)
           have hpp := hpp.ext hE22 (fun x hx => ne16 x hx)
           have hX := hX.zx1 hE22 fr16
           refine zq3 (zq1 (zq5 ?_))
           refine c_cutK (α := Bool) [2, 4, 5, 9, 13, 16, 19, 20, 21, 67, 68, 69] rfl (fun z => [(100, .bool z)]) (fun z u => (z = decide (t = 1 ∧ ((steps[i].back.take t).map (pickI ids)) = [pickI ids steps[i].back[t]]) ∧ Own u pp ((steps[i].back.take t).map (pickI ids)).length pc 31 32 (((steps[i].back.take t).map (pickI ids)).flatMap zq6) ∧ Own u q9 (objs (refP (tex8 steps[i].rows) (lfP lp lc))).length k9 46 73 ((objs (refP (tex8 steps[i].rows) (lfP lp lc))).flatMap objX) ∧ Own u lp (leavesOf (tex8 steps[i].rows)).length lc 56 33 ((leavesOf (tex8 steps[i].rows)).flatMap zj8.cells) ∧ MadeR N b2 b4 ⟨m, q, k, ids, qi, ki⟩ u) ∧ Blk u b2 29 ([.slice none 0 0]) ∧ Blk u b4 29 ([.slice q m.length k]) ∧ Blk u b13 46 (objC (comT (toHp m) ids steps[i].d t) (parP pp pc)) ∧ Blk u b16 31 (zq6 (pickI ids steps[i].back[t])) ∧ Ext No w u) ?_ ?_
           ·refine c_draw rfl 10 [(0, true), (1, true), (2, true), (3, true), (4, true), (5, true), (6, true), (7, true), (8, true), (9, true)] [] (No) (by kernel_rfl) fun w23 hE23 hs23 => ?_
            have hd13 := hb13
            have hd16 := hb16
            have hppd := hpp
            have hb2 := hb2.zq2 hE23
            have hb4 := hb4.zq2 hE23
            have hb13 := hb13.zq2 hE23
            have hb16 := hb16.zq2 hE23
            have hR := hR.no hE23
            have hlf := hlf.ext hE23 fun _ _ => id
            have h9 := h9.ext hE23 fun _ _ => id
            have hpp := hpp.ext hE23 fun _ _ => id
            have hX := hX.zq4 hE23
            refine wd_k I_ok 3 rfl (wd_caseD 93 rfl (fun hg => ?_) (fun hg => ?_))
            ·have hg1 : t = 1 := by omega
             have hpl : ((steps[i].back.take t).map (pickI ids)).length = 1 := by rw [List.length_map, List.length_take]; omega
             obtain ⟨p0, hp0⟩ : ∃ p0, ((steps[i].back.take t).map (pickI ids)) = [p0] := List.length_eq_one_iff.1 hpl
             have hp0i : IdIn p0 := hct.parents p0 (by show p0 ∈ ((steps[i].back.take t).map (pickI ids)); rw [hp0]; exact List.mem_cons_self)
             obtain ⟨pb4, po4, hpe4, hpr4⟩ := hppd.sl.rowAll (fun r hr => IdIn.len (hct.parents r hr)) (by omega)
             have hpr0 := hpr4 0 (by omega)
             have hpr5 : Seg w22 pb4 (po4 + 0 * 32) (zq6 p0) := by
              have e : ((steps[i].back.take t).map (pickI ids))[0]'(by omega) = p0 := by simp only [hp0, List.getElem_cons_zero]
              rw [← e]; exact hpr0
             refine wd_ldN I_ok rfl rfl (fun w' hw' => (hd16.zq2 hw').seg) hpi.len ?_
             refine wd_k I_ok 1 rfl (wd_ld I_ok rfl rfl (fun w' hw' => ((hd13.zq2 hw').seg.obj hct).parents) ?_)
             refine wd_put 96 rfl (v' := .slice (some ⟨pb4, po4, none⟩) ((steps[i].back.take t).map (pickI ids)).length pc) (by show Value.slice pp _ pc = _; rw [hpe4]; rfl) ?_
             refine wd_ix I_ok rfl rfl 32 rfl 0 rfl (by omega) (po4 + 0 * 32) rfl (wd_ldN I_ok rfl rfl (fun w' hw' => (hpr5.zq2 hw')) hp0i.len ?_)
             refine wd_eqK rfl rfl gId 10 (by decide) kId (idForm hpi) (idForm hp0i) (idKey hpi) (idKey hp0i) idLits_inj ?_
             simp only [if_true]
             refine wd_k I_ok 1 rfl (wd_sw (zv0 ?_))
             exact zz7 (_) rfl ⟨⟨by rw [decide_eq_decide]; exact ⟨fun e => ⟨hg1, by rw [hp0, e]⟩, fun e => by rw [hp0] at e; exact (List.cons.inj e.2).1.symm⟩, hpp, h9, hlf, hR⟩, hb2, hb4, hb13, hb16, hX⟩
            ·have hg1 : ¬ t = 1 := by omega
             refine wd_k I_ok 7 rfl (wd_sw (zv0 ?_))
             exact zz7 (false) rfl ⟨⟨(decide_eq_false fun e => hg1 e.1).symm, hpp, h9, hlf, hR⟩, hb2, hb4, hb13, hb16, hX⟩
           rintro z w24 ⟨⟨rfl, hpp, h9, hlf, hR⟩, hb2, hb4, hb13, hb16, hX⟩
           refine c_if rfl (fun hc => ?_) (fun hc => ?_)
           ·obtain ⟨h1, h2⟩ := hc
            have hpd : parD ids steps[i].back = ((steps[i].back.take t).map (pickI ids)) := by
             rw [h2]
             subst h1
             exact parD_dup (by omega) (List.getElem?_eq_getElem htl) h2 rfl
            have hcd : (comT (toHp m) ids steps[i].d t) = (comD (toHp m) ids steps[i].d) := comT_done ht1 hpd
            rw [← hpd] at hpp
            rw [hcd] at hb13
            refine c_exit (fin_put 5 rfl (v' := .slice qi ids.length ki) (by rw [hqi]) ?_)
            exact zx3 (f_blockE' rfl (zx3 (zx3 (zz0 (zz7 (pp, pc) rfl ⟨⟨hpp, hppn, h9, hlf, hR⟩, hb2, hb4, hb13, hX⟩)))))
           ·refine zx7 ?_
            refine zq1 (zq5 (zq0 (wl_p I_ok rfl (wl (st_ld I_ok rfl (hb13.seg.obj hct).parents ?_)))))
            rw [show Value.slice (parP pp pc).pp (comT (toHp m) ids steps[i].d t).parents.length (parP pp pc).pc = .slice pp ((steps[i].back.take t).map (pickI ids)).length pc from rfl]
            refine wl (zj2 I_ok hb16 rfl hpi.len ?_)
            refine wl (st_bs I_ok rfl 32 rfl idZ_c.symm (by rw [zx0]; rfl) (by decide) (by decide) ⟨⟨by rw [zj9]; exact (IdIn.len hpi), by decide⟩, trivial⟩ (l' := zq6 (pickI ids steps[i].back[t])) (one_id hpi) fun b104 w25 hn104 hb104 hE25 hs25 => ?_)
            have hb2 := hb2.zq2 hE25
            have hb4 := hb4.zq2 hE25
            have hb13 := hb13.zq2 hE25
            have hb16 := hb16.zq2 hE25
            have hR := hR.no hE25
            have hlf := hlf.ext hE25 fun _ _ => id
            have h9 := h9.ext hE25 fun _ _ => id
            have hpp := hpp.ext hE25 fun _ _ => id
            have hX := hX.zq4 hE25
            have hX1 := hX
            have hR1 := hR.n
            have hptl : ((steps[i].back.take t).map (pickI ids)).length = t := by rw [List.length_map, List.length_take]; omega
            refine wl (zv2 I_ok rfl 32 32 rfl rfl rfl (by decide) hpp (Src.slice (m := 1) (one_idS hpi hb104) OneC.h) (by rw [hptl]; dsimp only [maxLen]; omega) (by dsimp only; rw [hptl]; omega) fun p26 c26 w26 ho26 hE26 hB26 => ?_)
            dsimp only at ho26 hE26 hB26 ⊢
            have hX := hX1.trans hE26 fun y hy hF => by have := hppn y hF; omega
            have hb2 := hb2.zq8 hpp hE26 (by decide)
            have hb4 := hb4.zq8 hpp hE26 (by decide)
            have hb13 := hb13.zq8 hpp hE26 (by decide)
            have hb16 := hb16.ext hE26 (fun h => ne16 _ h rfl)
            have hR := hR.app hE26 hppn
            have hlf := hlf.ext hE26 (fun x hx hx2 => by obtain ⟨L1, h1⟩ := hlf.blkAt hx; obtain ⟨L2, h2⟩ := hpp.blkAt hx2; exact absurd (h1.uniq h2).2 (by decide))
            have h9 := h9.ext hE26 (fun x hx hx2 => by obtain ⟨L1, h1⟩ := h9.blkAt hx; obtain ⟨L2, h2⟩ := hpp.blkAt hx2; exact absurd (h1.uniq h2).2 (by decide))
            have e3 : ((steps[i].back.take (t + 1)).map (pickI ids)).length = ((steps[i].back.take t).map (pickI ids)).length + 1 := by rw [back_snoc htl, List.length_append]; rfl
            obtain ⟨pp2, pc2, e1, e2, hpp2⟩ : ∃ q2 k2, q2 = p26 ∧ k2 = c26 ∧ Own w26 q2 ((steps[i].back.take (t + 1)).map (pickI ids)).length k2 31 32 (((steps[i].back.take (t + 1)).map (pickI ids)).flatMap zq6) := ⟨_, _, rfl, rfl, by
             rw [e3, back_snoc htl, List.flatMap_append, List.flatMap_singleton]
             exact ho26⟩
            rw [← e1] at hB26
            rw [← e1, ← e2, show (((steps[i].back.take t).map (pickI ids)).length + 1) = ((steps[i].back.take (t + 1)).map (pickI ids)).length from e3.symm]
            have hppn2 : (∀ y, OwnB pp2 y → N ≤ y) := fun x hx => (hB26 x hx).elim (fun h => hppn x h) fun h => Nat.le_trans hR1 h
            have ne16b : ∀ x, OwnB pp2 x → ¬ x = b13 := fun x hx => hpp2.neTy hx hb13 (by decide)
            refine wl_p I_ok rfl ?_
            have hb13o := hb13
            refine wl (st_set I_ok hb13 rfl rfl (by rw [zq7 hct]; decide) fun w27 hb13 hE27 hs27 => ?_)
            have hb2 := hb2.ext1 hE27 ne2_13
            have hb4 := hb4.ext1 hE27 ne4_13
            have hb16 := hb16.ext1 hE27 ne13_16.symm
            have hR := hR.one hE27 fN13
            have hlf := hlf.zx9 hE27 hb13o (by decide)
            have h9 := h9.ext hE27 (fun x hx => nq9_13 x hx)
            have hpp2 := hpp2.zx9 hE27 hb13o (by decide)
            have hX := hX.zx1 hE27 fr13
            have hb13 : Blk w27 b13 46 (objC { (comT (toHp m) ids steps[i].d t) with parents := ((steps[i].back.take (t + 1)).map (pickI ids)) } (parP pp2 pc2)) := (by have e : (objC (comT (toHp m) ids steps[i].d t) (parP pp pc)).set (68 + 0) (.slice pp2 ((steps[i].back.take (t + 1)).map (pickI ids)).length pc2) = objC { (comT (toHp m) ids steps[i].d t) with parents := ((steps[i].back.take (t + 1)).map (pickI ids)) } (parP pp2 pc2) := objC_par hct; rw [← e]; exact hb13)
            refine zq3 (zq1 (zq5 (zq0 (wl (zj2 I_ok hb4 rfl rfl (wl (zj2 I_ok hb16 rfl hpi.len (wl (zx2 Tryz.call58 rfl rfl rfl rfl rfl rfl (commit8_calls w27 hR.hp.now hpi) fun v28 w28 hr28 => ?_)))))))))
            obtain ⟨rfl, hE28⟩ := hr28
            have hb2 := hb2.zq2 hE28
            have hb4 := hb4.zq2 hE28
            have hb13 := hb13.zq2 hE28
            have hR := hR.no hE28
            have hlf := hlf.ext hE28 fun _ _ => id
            have h9 := h9.ext hE28 fun _ _ => id
            have hpp2 := hpp2.ext hE28 fun _ _ => id
            have hX := hX.zq4 hE28
            refine wl_p I_ok rfl ?_
            have hR0 := hR.n
            have h90 := h9
            refine wl (zz9 I_ok rfl fun b17 w29 hn17 hb17 hE29 => ?_)
            have ne2_17 : b2 ≠ b17 := Nat.ne_of_lt (Nat.lt_of_lt_of_le hb2.lt hn17)
            have ne4_17 : b4 ≠ b17 := Nat.ne_of_lt (Nat.lt_of_lt_of_le hb4.lt hn17)
            have ne13_17 : b13 ≠ b17 := Nat.ne_of_lt (Nat.lt_of_lt_of_le hb13.lt hn17)
            have fr17 := Nat.le_trans hX.size hn17
            have hb2 := hb2.zq2 hE29
            have hb4 := hb4.zq2 hE29
            have hb13 := hb13.zq2 hE29
            have hR := hR.no hE29
            have hlf := hlf.ext hE29 fun _ _ => id
            have h9 := h9.ext hE29 fun _ _ => id
            have hpp2 := hpp2.ext hE29 fun _ _ => id
            have hX := hX.zq4 hE29
            have fN17 := Nat.le_trans hR0 hn17
            have nq9_17 : ∀ x, OwnB q9 x → x ≠ b17 := fun x hx => Nat.ne_of_lt (Nat.lt_of_lt_of_le (h90.lt hx) hn17)
            have hki := hR.hp.now.kIn (pickI ids steps[i].back[t]) 3
            have hb17o := hb17
            refine wl (zj1 (l' := objC ((toHp m).kObj (pickI ids steps[i].back[t]) 3) (kObjP m (pickI ids steps[i].back[t]) 3)) I_ok hb17 rfl rfl (zq7 hki) (by rw [zq7 hki]; rfl) OneC.h fun w30 hb17 hE30 hs30 => ?_)
            have hb2 := hb2.ext1 hE30 ne2_17
            have hb4 := hb4.ext1 hE30 ne4_17
            have hb13 := hb13.ext1 hE30 ne13_17
            have hR := hR.one hE30 fN17
            have hlf := hlf.zx9 hE30 hb17o (by decide)
            have h9 := h9.ext hE30 (fun x hx => nq9_17 x hx)
            have hpp2 := hpp2.zx9 hE30 hb17o (by decide)
            have hX := hX.zx1 hE30 fr17
            refine wl_p I_ok rfl (zq3 (zq1 (c_drawX rfl 12 12 [12] (One b13) (by kernel_rfl) fun w31 hE31 hs31 => ?_)))
            have hd17 := hb17
            have hb2 := hb2.zq2 hE31
            have hb4 := hb4.zq2 hE31
            have hb13 := hb13.zq2 hE31
            have hR := hR.no hE31
            have hlf := hlf.ext hE31 fun _ _ => id
            have h9 := h9.ext hE31 fun _ _ => id
            have hpp2 := hpp2.ext hE31 fun _ _ => id
            have hX := hX.zq4 hE31
            have hC : Ext (One b13) _ w31 := hE31.no
            have hct1 := comT_in (s := steps[i].d) (ids := ids) (t := t + 1) hMS.ids (.inr (by omega)) hnu
            have hcm : ObjIn { comT (toHp m) ids steps[i].d t with parents := (steps[i].back.take (t + 1)).map (pickI ids) } := ⟨hct.tree, hct.base, hct1.parents, hct.leaves, hct.rows, hct.number, hct.author⟩
            have hcm2 : ObjIn { comT (toHp m) ids steps[i].d t with parents := (steps[i].back.take (t + 1)).map (pickI ids), style := 1 + ((t + 1 : Nat) : Int) } := ⟨hct.tree, hct.base, hct1.parents, hct.leaves, hct.rows, hct.number, hct.author⟩
            have ht6 : ∀ a b, (steps[i].back.take (t + 1)).map (pickI ids) = [a, b] → b ≠ a := fun a b e he => by
             have hl : ((steps[i].back.take (t + 1)).map (pickI ids)).length = t + 1 := by rw [List.length_map, List.length_take]; omega
             rw [e] at hl
             have h1 : t = 1 := by have : 2 = t + 1 := hl; omega
             rw [back_snoc htl] at e
             have h2 := List.append_inj' e rfl (s₂ := [a]) (t₂ := [b])
             exact hc ⟨h1, by rw [h2.1, ← he, (List.cons.inj h2.2).1]⟩
            refine wx_plan [(0, true), (3, true), (5, true), (6, true), (7, true)] 7 rfl (by kernel_rfl) (wd_k I_ok 3 rfl (wd_ld I_ok rfl rfl (fun w' hw' => ((hd17.ext1 hw' ne13_17.symm).seg.obj hki).number) ?_))
            refine wd_k I_ok 1 rfl (wd_tail rfl (wx_alt [1, 4] rfl (by kernel_rfl) ⟨⟨_, rfl, ?_⟩, ⟨_, rfl, ?_⟩, trivial⟩))
            ·refine st_ld I_ok rfl (hb13.cell (show _ = some (Value.int .i64 (1 + (t : Int))) from rfl)) ⟨hC, ?_⟩
             refine wx_plan [(2, true), (4, false), (8, true), (9, true), (10, false), (11, true)] 0 rfl (by kernel_rfl) (wd_k I_ok 1 rfl ?_)
             rw [IntWalk.i64_in _ (by omega)]
             rw [show (1 + (t : Int)) + 1 = 1 + ((t + 1 : Nat) : Int) from by omega]
             refine wd_l rfl (st_ld I_ok rfl (hb13.seg.obj hcm).number ⟨hC, ?_⟩)
             refine wd_k I_ok 1 rfl ?_
             rw [max_u32 (m := 1000) (hnu _) (by decide)]
             refine wd_k I_ok 1 rfl ?_
             have hb13o := hb13
             refine wd_l rfl (st_st I_ok hb13 rfl rfl rfl fun w32 hb13 hE32 hs32 => ⟨hC.then hE32, ?_⟩)
             have hb2 := hb2.ext1 hE32 ne2_13
             have hb4 := hb4.ext1 hE32 ne4_13
             have hR := hR.one hE32 fN13
             have hlf := hlf.zx9 hE32 hb13o (by decide)
             have h9 := h9.ext hE32 (fun x hx => nq9_13 x hx)
             have hpp2 := hpp2.zx9 hE32 hb13o (by decide)
             have hX := hX.zx1 hE32 fr13
             have hb13 : Blk w32 b13 46 (objC { comT (toHp m) ids steps[i].d t with parents := (steps[i].back.take (t + 1)).map (pickI ids), style := 1 + ((t + 1 : Nat) : Int) } (parP pp2 pc2)) := hb13
             refine wd_k I_ok 1 rfl (wd_sw ?_)
             have hb13o := hb13
             refine wb rfl (st_set I_ok hb13 rfl rfl (by rw [zq7 hcm2]; decide) fun w33 hb13 hE33 hs33 => ?_)
             have hb2 := hb2.ext1 hE33 ne2_13
             have hb4 := hb4.ext1 hE33 ne4_13
             have hR := hR.one hE33 fN13
             have hlf := hlf.zx9 hE33 hb13o (by decide)
             have h9 := h9.ext hE33 (fun x hx => nq9_13 x hx)
             have hpp2 := hpp2.zx9 hE33 hb13o (by decide)
             have hX := hX.zx1 hE33 fr13
             have hb13 : Blk w33 b13 46 (objC (comT (toHp m) ids steps[i].d (t + 1)) (parP pp2 pc2)) := (by rw [comT_step htl]; have e := objC_nu (a := parP pp2 pc2) hcm2 (n := max (comT (toHp m) ids steps[i].d t).number (((toHp m).kObj (pickI ids steps[i].d.back[t]) 3).number + 1)); rw [← e]; exact hb13)
             refine zv0 (zx6 (zq1 (zq0 (wl_p I_ok rfl ?_))))
             rw [IntWalk.i64_in _ (by omega)]
             refine zq3 (fin_put 5 rfl (v' := .slice qi ids.length ki) (by rw [hqi]) (fin_put 67 rfl (v' := .slice steps[i].bp steps[i].back.length steps[i].bc) (by rw [hbp]) ?_))
             exact zv1 (t + 1, pp2, pc2) rfl ⟨⟨⟨htl, by omega, .inr (by omega), ht6⟩, hpp2, hppn2, h9, hlf, hR⟩, hb2, hb4, hb13, hX⟩ (by first | omega | (dsimp only; omega))
            ·refine st_ld I_ok rfl (hb13.seg.obj hcm).number ⟨hC, ?_⟩
             refine wx_plan [(8, true), (1, false), (2, true), (9, true), (10, false), (11, true)] 0 rfl (by kernel_rfl) (wd_k I_ok 1 rfl ?_)
             rw [max_u32 (m := 1000) (hnu _) (by decide)]
             refine wd_l rfl (st_ld I_ok rfl (hb13.cell (show _ = some (Value.int .i64 (1 + (t : Int))) from rfl)) ⟨hC, ?_⟩)
             refine wd_k I_ok 1 rfl ?_
             rw [IntWalk.i64_in _ (by omega)]
             rw [show (1 + (t : Int)) + 1 = 1 + ((t + 1 : Nat) : Int) from by omega]
             refine wd_k I_ok 1 rfl ?_
             have hb13o := hb13
             refine wd_l rfl (st_st I_ok hb13 rfl rfl rfl fun w34 hb13 hE34 hs34 => ⟨hC.then hE34, ?_⟩)
             have hb2 := hb2.ext1 hE34 ne2_13
             have hb4 := hb4.ext1 hE34 ne4_13
             have hR := hR.one hE34 fN13
             have hlf := hlf.zx9 hE34 hb13o (by decide)
             have h9 := h9.ext hE34 (fun x hx => nq9_13 x hx)
             have hpp2 := hpp2.zx9 hE34 hb13o (by decide)
             have hX := hX.zx1 hE34 fr13
             have hb13 : Blk w34 b13 46 (objC { comT (toHp m) ids steps[i].d t with parents := (steps[i].back.take (t + 1)).map (pickI ids), style := 1 + ((t + 1 : Nat) : Int) } (parP pp2 pc2)) := hb13
             refine wd_k I_ok 1 rfl (wd_sw ?_)
             have hb13o := hb13
             refine wb rfl (st_set I_ok hb13 rfl rfl (by rw [zq7 hcm2]; decide) fun w35 hb13 hE35 hs35 => ?_)
             have hb2 := hb2.ext1 hE35 ne2_13
             have hb4 := hb4.ext1 hE35 ne4_13
             have hR := hR.one hE35 fN13
             have hlf := hlf.zx9 hE35 hb13o (by decide)
             have h9 := h9.ext hE35 (fun x hx => nq9_13 x hx)
             have hpp2 := hpp2.zx9 hE35 hb13o (by decide)
             have hX := hX.zx1 hE35 fr13
             have hb13 : Blk w35 b13 46 (objC (comT (toHp m) ids steps[i].d (t + 1)) (parP pp2 pc2)) := (by rw [comT_step htl]; have e := objC_nu (a := parP pp2 pc2) hcm2 (n := max (comT (toHp m) ids steps[i].d t).number (((toHp m).kObj (pickI ids steps[i].d.back[t]) 3).number + 1)); rw [← e]; exact hb13)
             refine zv0 (zx6 (zq1 (zq0 (wl_p I_ok rfl ?_))))
             rw [IntWalk.i64_in _ (by omega)]
             refine zq3 (fin_put 5 rfl (v' := .slice qi ids.length ki) (by rw [hqi]) (fin_put 67 rfl (v' := .slice steps[i].bp steps[i].back.length steps[i].bc) (by rw [hbp]) ?_))
             exact zv1 (t + 1, pp2, pc2) rfl ⟨⟨⟨htl, by omega, .inr (by omega), ht6⟩, hpp2, hppn2, h9, hlf, hR⟩, hb2, hb4, hb13, hX⟩ (by first | omega | (dsimp only; omega))
         ·have htz : t = steps[i].back.length := by omega
          have hpd : parD ids steps[i].back = ((steps[i].back.take t).map (pickI ids)) := by
           by_cases h0 : ids.length = 0
           ·rw [parD_none h0]
            rcases ht3 with k | k
            ·rw [k]; rfl
            ·exact absurd h0 k
           ·exact parD_all h0 (.inr ⟨htz, ht2⟩) ht4
          have hcd : (comT (toHp m) ids steps[i].d t) = (comD (toHp m) ids steps[i].d) := comT_done ht1 hpd
          rw [← hpd] at hpp
          rw [hcd] at hb13
          refine c_exit ?_
          exact zx3 (zx3 (zz0 (zz7 (pp, pc) rfl ⟨⟨hpp, hppn, h9, hlf, hR⟩, hb2, hb4, hb13, hX⟩)))
        rintro ⟨pp, pc⟩ w36 ⟨⟨hpp, hppn, h9, hlf, hR⟩, hb2, hb4, hb13, hX⟩
        try dsimp only
        dsimp only at hpp hppn
        have hcdi : ObjIn (comD (toHp m) ids steps[i].d) := comD_in hMS.ids (by have : (toHp m).top (parD ids steps[i].back) ≤ 1000 := top_le fun p _ => hnu p; show (toHp m).top (parD ids steps[i].back) < 2 ^ 32; omega)
        refine zq5 (c_draw rfl 6 [(0, true), (1, true), (2, true), (3, false), (4, false), (5, false)] [6] (OwnB q9) (by kernel_rfl) fun w37 hE37 hs37 => ?_)
        have hd4 := hb4
        have hd13 := hb13
        have h9d := h9
        have hb2 := hb2.zq2 hE37
        have hb4 := hb4.zq2 hE37
        have hb13 := hb13.zq2 hE37
        have hR := hR.no hE37
        have hlf := hlf.ext hE37 fun _ _ => id
        have h9 := h9.ext hE37 fun _ _ => id
        have hpp := hpp.ext hE37 fun _ _ => id
        have hX := hX.zq4 hE37
        have hC : Ext (OwnB q9) _ w37 := hE37.no
        refine wd_ldN I_ok rfl rfl (fun w' hw' => ((hd4.ext (show Ext (OwnB q9) _ w' from hw') (fun e => h9d.neTy e hd4 (by decide) rfl)).seg)) rfl ?_
        refine wd_k I_ok 1 rfl (wd_ldN I_ok rfl rfl (fun w' hw' => ((hd13.ext (show Ext (OwnB q9) _ w' from hw') (fun e => nq9_13 _ e rfl)).seg)) (zq7 hcdi) ?_)
        refine wd_l rfl (st_bs I_ok rfl 73 rfl objZ_c.symm (by rw [zq7 objZ_in]) (by decide) (by decide) ⟨⟨by rw [zj9]; exact zq7 hcdi, by decide⟩, trivial⟩ (l' := objC (comD (toHp m) ids steps[i].d) (parP pp pc)) (one_obj hcdi) fun b128 w38 hn128 hb128 hE38 hs38 => ⟨hC.zq4 hE38, ?_⟩)
        have hb2 := hb2.zq2 hE38
        have hb4 := hb4.zq2 hE38
        have hb13 := hb13.zq2 hE38
        have hR := hR.no hE38
        have hlf := hlf.ext hE38 fun _ _ => id
        have h9 := h9.ext hE38 fun _ _ => id
        have hpp := hpp.ext hE38 fun _ _ => id
        have hX := hX.zq4 hE38
        have hC := hC.zq4 hE38
        have hX1 := hX
        have hR1 := hR.n
        have hol : (objs (refP (tex8 steps[i].rows) (lfP lp lc))).length = (refP (tex8 steps[i].rows) (lfP lp lc)).length := List.length_map ..
        have hs128 : Sl w38 (some ⟨b128, 0, none⟩) 1 73 (objC (comD (toHp m) ids steps[i].d) (parP pp pc)) := ⟨zq7 hcdi, .inr ⟨b128, 0, rfl, hb128.seg⟩⟩
        refine wd_l rfl (zv2 I_ok rfl 73 192 rfl rfl rfl (by decide) h9 (Src.slice (m := 1) hs128 OneC.h) (by dsimp only; rw [hol]; dsimp only [maxLen]; omega) (by dsimp only; rw [hol]; omega) fun p39 c39 w39 ho39 hE39 hB39 => ⟨hC.then hE39, ?_⟩)
        have hC := hC.then hE39
        dsimp only at ho39 hE39 hB39 ⊢
        have hX := hX1.trans hE39 fun y hy hF => by have := h9n y hF; omega
        have hb2 := hb2.zq8 h9 hE39 (by decide)
        have hb4 := hb4.zq8 h9 hE39 (by decide)
        have hb13 := hb13.ext hE39 (fun h => nq9_13 _ h rfl)
        have hR := hR.app hE39 h9n
        have hlf := hlf.ext hE39 (fun x hx hx2 => by obtain ⟨L1, h1⟩ := hlf.blkAt hx; obtain ⟨L2, h2⟩ := h9.blkAt hx2; exact absurd (h1.uniq h2).2 (by decide))
        have hpp := hpp.ext hE39 (fun x hx hx2 => by obtain ⟨L1, h1⟩ := hpp.blkAt hx; obtain ⟨L2, h2⟩ := h9.blkAt hx2; exact absurd (h1.uniq h2).2 (by decide))
        obtain ⟨XS, hXS⟩ : ∃ XS, XS = objs (refP (tex8 steps[i].rows) (lfP lp lc)) ++ [((comD (toHp m) ids steps[i].d), parP pp pc)] := ⟨_, rfl⟩
        obtain ⟨q92, k92, e1, e2, h92⟩ : ∃ q2 k2, q2 = p39 ∧ k2 = c39 ∧ Own w39 q2 XS.length k2 46 73 (XS.flatMap objX) := ⟨_, _, rfl, rfl, by
         rw [hXS, List.flatMap_append, List.length_append, List.flatMap_singleton]
         exact ho39⟩
        rw [← e1, ← e2, show (objs (refP (tex8 steps[i].rows) (lfP lp lc))).length + 1 = XS.length from by rw [hXS, List.length_append]; rfl]
        have hXl : XS.length = (refP (tex8 steps[i].rows) (lfP lp lc)).length + 1 := by rw [hXS, List.length_append, hol]; rfl
        have hwl := putW_len XS m
        have hml := hMS.len
        dsimp only at hml
        have hcl : ∀ u, Sl u pp (parD ids steps[i].back).length 32 ((parD ids steps[i].back).flatMap zq6) → ObjL u (comD (toHp m) ids steps[i].d) (parP pp pc) := fun u h => ⟨Sl.nil _ _ _, h, Sl.nil _ _ _⟩
        have htl2 : ∀ u, Own u lp (leavesOf (tex8 steps[i].rows)).length lc 56 33 ((leavesOf (tex8 steps[i].rows)).flatMap zj8.cells) → ObjL u (treeOf (tex8 steps[i].rows)) (lfP lp lc) := fun u h => ⟨h.sl, Sl.nil _ _ _, Sl.nil _ _ _⟩
        have hXall : ∀ {P : ObjX → Prop}, (∀ t ∈ refT (tex8 steps[i].rows), P ((heldB t).o, (heldB t).a)) → P (treeOf (tex8 steps[i].rows), lfP lp lc) → P ((comD (toHp m) ids steps[i].d), parP pp pc) → ∀ x ∈ XS, P x := fun {P} h1 h2 h3 x hx => by
         rw [hXS] at hx
         rcases List.mem_append.1 hx with hx | hx
         ·obtain ⟨y, hy, rfl⟩ := List.mem_map.1 hx
          exact refP_all (P := fun y => P (y.o, y.a)) h1 h2 y hy
         ·rw [List.mem_singleton.1 hx]; exact h3
        have hcsh : Short (comD (toHp m) ids steps[i].d) := ⟨by show 0 < 1000000000; decide, by show (parD ids steps[i].back).length < _; have := parD_len ids steps[i].back; omega, by show 0 < 1000000000; decide, fun _ h => (by cases h), fun _ h => (by cases h)⟩
        have hoIn : ∀ x ∈ XS, ObjIn x.1 := hXall (fun t _ => blobO_in t) htin hcdi
        have hXin : ObjsIn w39 q92 XS := ⟨h92.sl, hoIn, hXall (fun t _ => blob_sh t) htsh hcsh, hXall (fun t _ => blob_l _ _) (htl2 _ hlf) (hcl _ hpp.sl), hXall (fun t ht => (held_okB w39 ht).2.1) (bytes_of hok.1) (comD_bytes _ _ _)⟩
        have hXlk : ∀ x ∈ XS, (zj3 x.1).length ≤ 40 := hXall (fun t _ => Nat.zero_le _) (tree_few _) (com_few _ _ _)
        have hpk : ∀ y ∈ putW m XS, (zj3 y.o).length ≤ 40 := putW_mem XS hMS.few.lk fun x hx => hXlk x hx
        have hpk2 := lk_few (l := putW m XS) (by omega) hpk
        have hb2C := hb2.lt
        have hRc := hR
        have hlkk : (m.flatMap fun e => zj3 e.o).length + (XS.flatMap fun x => zj3 x.1).length < 100000 := by
         have h1 := flat_few (f := fun e : zz4 => zj3 e.o) (n := 40) hMS.few.lk
         have h2 := flat_few (f := fun e : ObjX => zj3 e.1) (n := 40) hXlk
         dsimp only at h1
         have h3 := Nat.mul_le_mul_right 40 (show m.length ≤ 100 by omega)
         have h4 := Nat.mul_le_mul_right 40 (show XS.length ≤ 100 by omega)
         omega
        refine wd_l rfl (zx2 Tryz.call47 rfl rfl rfl rfl rfl rfl (put8_calls w39 (l := m) hR.hp.now hXin (by omega) hlkk) fun v40 w40 hr40 => ⟨(by obtain ⟨q5, k5, rfl, h5o, h5n, h5h, hE40⟩ := hr40; exact hC.zq4 hE40), ?_⟩)
        obtain ⟨q5, k5, rfl, h5o, h5n, h5h, hE40⟩ := hr40
        have hb2 := hb2.zq2 hE40
        have hb4 := hb4.zq2 hE40
        have hb13 := hb13.zq2 hE40
        have hR := hR.no hE40
        have hlf := hlf.ext hE40 fun _ _ => id
        have hpp := hpp.ext hE40 fun _ _ => id
        have hX := hX.zq4 hE40
        have hid := hR.own.now
        dsimp only at hid
        have hst := stb_put (q := q) (m := m) (xs := XS) (S := fun x => x ≤ b2 ∨ x = b4 ∨ OwnB qi x) hRc.hp hE40 (fun _ _ k => .inl k) h5o (fun x hx k => by
          rcases k with k | k | k
          ·have := h5n x hx; omega
          ·exact h5o.neTy hx hb4 (by decide) k
          ·obtain ⟨L1, h1⟩ := h5o.blkAt hx; obtain ⟨L2, h2⟩ := hid.blkAt k; exact absurd (h1.uniq h2).2 (by decide))
         (hXall (fun t ht u hu => (held_okB u ht).1) (fun u hu => HeldIn.objO htin htsh (htl2 u (hlf.ext hu fun x hx k => by
          rcases k with k | k | k
          ·have := hln2 x hx; omega
          ·exact hlf.neTy hx hb4 (by decide) k
          ·obtain ⟨L1, h1⟩ := hlf.blkAt hx; obtain ⟨L2, h2⟩ := hid.blkAt k; exact absurd (h1.uniq h2).2 (by decide))))
          (fun u hu => HeldIn.objO hcdi hcsh (hcl u (hpp.ext hu fun x hx k => by
          rcases k with k | k | k
          ·have := hppn x hx; omega
          ·exact hpp.neTy hx hb4 (by decide) k
          ·have := hqiL x k; have := hppn x hx; omega).sl))) (by omega) hpk2
        refine wd_sw ?_
        have hb4o := hb4
        refine wb rfl (zj1 (l' := [.slice q5 (putW m XS).length k5]) I_ok hb4 rfl rfl rfl rfl OneC.h fun w41 hb4 hE41 hs41 => ?_)
        have hb2 := hb2.ext1 hE41 ne2_4
        have hb13 := hb13.ext1 hE41 ne4_13.symm
        have hpp := hpp.zx9 hE41 hb4o (by decide)
        have hid := hid.zx9 hE41 hb4o (by decide)
        have hst := hst.one hE41 (.inr (.inl rfl))
        have hX := hX.zx1 hE41 fr4
        refine zv0 (zq1 (zq0 (wl_p I_ok rfl (wl (zj2 I_ok hb13 rfl (zq7 hcdi) (wl (zx2 Tryz.call21 rfl rfl rfl rfl rfl rfl (id6_calls w41 hcdi (hcl _ hpp.sl) (comD_bytes _ _ _)) fun v42 w42 hr42 => ?_)))))))
        obtain ⟨rfl, hE42⟩ := hr42
        have hb2 := hb2.zq2 hE42
        have hb4 := hb4.zq2 hE42
        have hid := hid.ext hE42 fun _ _ => id
        have hst := hst.no hE42
        have hX := hX.zq4 hE42
        refine wl (st_bs I_ok rfl 32 rfl idZ_c.symm (by rw [zx0]; rfl) (by decide) (by decide) ⟨⟨by rw [zj9]; exact (IdIn.len (zj6 _)), by decide⟩, trivial⟩ (l' := zq6 (idOf (comD (toHp m) ids steps[i].d))) (one_id (zj6 _)) fun b134 w43 hn134 hb134 hE43 hs43 => ?_)
        have hb2 := hb2.zq2 hE43
        have hb4 := hb4.zq2 hE43
        have hid := hid.ext hE43 fun _ _ => id
        have hst := hst.no hE43
        have hX := hX.zq4 hE43
        have hX1 := hX
        have hb2D := hb2.lt
        refine wl (zv2 I_ok rfl 32 32 rfl rfl rfl (by decide) hid (Src.slice (m := 1) (one_idS (zj6 _) hb134) OneC.h) (by have := hMS.il; dsimp only at this; dsimp only [maxLen]; omega) (by have := hMS.il; dsimp only at this; dsimp only; omega) fun p44 c44 w44 ho44 hE44 hB44 => ?_)
        dsimp only at ho44 hE44 hB44 ⊢
        have hX := hX1.trans hE44 fun y hy hF => by have := hMS.new y hF; omega
        have hb2 := hb2.zq8 hid hE44 (by decide)
        have hb4 := hb4.zq8 hid hE44 (by decide)
        obtain ⟨qi2, ki2, e1, e2, hid2⟩ : ∃ q2 k2, q2 = p44 ∧ k2 = c44 ∧ Own w44 q2 (ids ++ [idOf (comD (toHp m) ids steps[i].d)]).length k2 31 32 ((ids ++ [idOf (comD (toHp m) ids steps[i].d)]).flatMap zq6) := ⟨_, _, rfl, rfl, by
         rw [List.flatMap_append, List.length_append, List.flatMap_singleton]
         exact ho44⟩
        rw [← e1] at hB44
        have hst := hst.step (S' := fun x => x ≤ b2 ∨ x = b4 ∨ OwnB qi2 x) hE44 (fun x _ e => .inr (.inr e)) (fun x hx k => k.elim .inl fun k => k.elim (fun k => .inr (.inl k)) fun k => (hB44 x k).elim (fun k => .inr (.inr k)) fun k => absurd hx (by omega))
        have hin2 : ∀ y, OwnB qi2 y → b2 + 1 ≤ y := fun y hy => (hB44 y hy).elim (hMS.new y) fun e => by omega
        rw [← e1, ← e2, show ids.length + 1 = (ids ++ [idOf (comD (toHp m) ids steps[i].d)]).length from by rw [List.length_append]; rfl]
        refine wl_p I_ok rfl (zq3 ?_)
        have eD : comD (toHp m) ids (steps.map StepT.d)[i] = (comD (toHp m) ids steps[i].d) := by rw [eiD]
        exact zx6 (zz7 (⟨putW m XS, q5, k5, ids ++ [idOf (comD (toHp m) ids steps[i].d)], qi2, ki2⟩) rfl ⟨⟨h8, eD ▸ hMS.go (xs := XS) (q := q5) (k := k5) (ki := ki2) hiD (by rw [eiD]; exact ⟨hro, hok⟩) (by rw [hXS, List.map_append, refP_objs, eiD]; rfl) hin2, ⟨hst, hid2⟩⟩, hb2, hb4, hX⟩)
   rintro ⟨m2, q2, k2, ids2, qi2, ki2⟩ w45 ⟨⟨h8, hMS, hMY⟩, hb2, hb4, hX⟩
   try dsimp only
   try dsimp only at hMS hMY
   refine zq0 (wl_p I_ok rfl ?_)
   rw [IntWalk.i64_in _ (by omega)]
   refine zq3 (fin_put 19 rfl (v' := .slice ps steps.length cs) (by rw [hp1]) ?_)
   exact zv1 (i + 1, ⟨m2, q2, k2, ids2, qi2, ki2⟩) rfl ⟨⟨hi2, h8, hMS, hMY⟩, hb2, hb4, hX⟩ (by first | omega | (dsimp only; omega))
  ·refine c_exit ?_
   exact zx3 (zx3 (zz0 (zz7 (⟨m, q, k, ids, qi, ki⟩) rfl ⟨⟨hMS.done (.inr ⟨by rw [List.length_map]; omega, hi8⟩), hMY⟩, hb2, hb4, hX⟩)))
 rintro ⟨m, q, k, ids, qi, ki⟩ w46 ⟨⟨hMS, hMY⟩, hb2, hb4, hX⟩
 try dsimp only
 try dsimp only at hMS hMY
 refine zq5 (zq0 (wl (zj2 I_ok hb4 rfl rfl (wl_p I_ok rfl ?_))))
 have hb2o := hb2
 have hMY0 := hMY
 refine wl (zj1 (l' := [.slice q m.length k]) I_ok hb2 rfl rfl rfl rfl OneC.h fun w47 hb2 hE47 hs47 => ?_)
 have hX := hX.zx1 hE47 fr2
 refine wl_p I_ok rfl (zq3 (zq1 (zj0 (f_ret [_, _] ⟨⟨b2, 0, rfl, ld_all I_ok rfl rfl hb2.seg rfl⟩, rfl, trivial⟩ ?_))))
 exact ⟨q, k, m, qi, ki, ids, rfl, ⟨hMY0.hp.step hE47 (fun x _ e => .inl (Nat.le_of_eq e)) (fun x _ k => k.elim (fun k => .inl (by omega)) fun k => .inr (.inr k)), hMY0.own.zx9 hE47 hb2o (by decide), fun y hy => by have := hMS.new y hy; omega, hMS.ids, by have := hMS.il; dsimp only at this; omega, by have := hMS.len; dsimp only at this; omega, hMS.few.lk⟩, by have := hMS.e; dsimp only at this; rw [← this], hX⟩
end Go.Proofs.YtpcdihkcenfgkaaGreatDoor
namespace Go.Vc
open Go.Proofs Go.Sort
theorem Ext.grown {w w' : World} (h : Ext No w w') : ∃ q os', w' = grow (w.drewN q) os' := by
 refine ⟨w'.drawn - w.drawn, w'.heap.extract w.heap.size w'.heap.size, ?_⟩
 have hh : w'.heap = w.heap ++ w'.heap.extract w.heap.size w'.heap.size := by
  apply Array.ext_getElem?
  intro i
  rcases Nat.lt_or_ge i w.heap.size with hi | hi
  ·rw [Array.getElem?_append_left hi, h.same i hi id]
  ·rw [Array.getElem?_append_right hi, Array.getElem?_extract]
   have := h.size
   split
   ·rw [show w.heap.size + (i - w.heap.size) = i from by omega]
   ·rw [Array.getElem?_eq_none (by omega)]
 have h1 := h.os
 have h2 := h.tape
 have h3 := h.output
 have h4 := h.drawn
 cases w
 cases w'
 dsimp only at hh h1 h2 h3 h4
 subst h1 h2 h3
 unfold grow World.drewN
 simp only [World.mk.injEq, true_and, and_true]
 exact ⟨hh, by omega⟩
theorem flat_get {α : Type} {enc : α → List Value} {k : Nat} (hk : 0 < k) : ∀ (L : List α) (t : Nat), (∀ x ∈ L, (enc x).length = k) → (L.flatMap enc)[t]? = (L[t / k]?).bind fun x => (enc x)[t % k]?
 | [], t, _ => by simp
 | a :: L, t, h => by
  have ha := h a List.mem_cons_self
  rw [List.flatMap_cons]
  rcases Nat.lt_or_ge t k with ht | ht
  ·rw [List.getElem?_append_left (by omega), Nat.div_eq_of_lt ht, Nat.mod_eq_of_lt ht]
   rfl
  ·rw [List.getElem?_append_right (by omega), ha, flat_get hk L (t - k) fun x hx => h x (List.mem_cons_of_mem _ hx)]
   have e1 : t / k = (t - k) / k + 1 := by rw [Nat.div_eq_sub_div hk ht]
   have e2 : t % k = (t - k) % k := Nat.mod_eq_sub_mod ht
   rw [e1, e2, List.getElem?_cons_succ]
section
variable {α : Type} [Inhabited α] {enc : α → List Value} {k : Nat}
theorem flatK_list (hk : 0 < k) (hl : ∀ x, (enc x).length = k) (d : Array α) : (flatK enc k d).toList = d.toList.flatMap enc := by
 apply List.ext_getElem?
 intro t
 rw [flat_get hk _ _ fun x _ => hl x]
 rcases Nat.lt_or_ge t (d.size * k) with ht | ht
 ·have hd : t / k < d.size := (Nat.div_lt_iff_lt_mul hk).2 ht
  have hm : t % k < k := Nat.mod_lt _ hk
  rw [Array.getElem?_toList, Array.getElem?_toList, Array.getElem?_eq_getElem hd]
  have h1 := get_flatK enc k d t ht
  rw [getElem!_pos _ t (by simpa using ht), getElem!_pos d _ hd] at h1
  rw [Array.getElem?_eq_getElem (by simpa using ht), h1]
  have hx : t % k < (enc d[t / k]).length := by rw [hl]; exact hm
  rw [getElem!_pos (enc d[t / k]) (t % k) hx]
  simp [List.getElem?_eq_getElem hx]
 ·rw [List.getElem?_eq_none (by simpa using ht)]
  rw [List.getElem?_eq_none (by rw [Array.length_toList]; exact (Nat.le_div_iff_mul_le hk).2 ht)]
  rfl
theorem putCells_list {F c : Array Value} (h : F.size ≤ c.size) : (putCells id 0 F c).toList = F.toList ++ c.toList.drop F.size := by
 apply List.ext_getElem?
 intro t
 rw [Array.getElem?_toList]
 unfold putCells
 rw [Array.getElem?_mapIdx]
 rcases Nat.lt_or_ge t F.size with ht | ht
 ·rw [List.getElem?_append_left (by simpa using ht), Array.getElem?_eq_getElem (show t < c.size by omega)]
  simp [ht]
 ·rw [List.getElem?_append_right (by simpa using ht), List.getElem?_drop, Array.length_toList, Array.getElem?_toList, show F.size + (t - F.size) = t from by omega]
  cases c[t]? with
  | none => rfl
  | some v => simp [Nat.not_lt.2 ht]
theorem sortK_ext {w : World} {b T m : Nat} {lc : List Value} (hb : Blk w b T lc) (d : Array α) (os : Array Obj) (hd : d.size * k ≤ lc.length) (hk : 0 < k) (hl : ∀ x, (enc x).length = k) :
  Ext (One b) w (sortWorldK enc k w b 0 m d os) ∧ Blk (sortWorldK enc k w b 0 m d os) b T (d.toList.flatMap enc ++ lc.drop (d.size * k)) := by
 have hlt := hb.lt
 unfold sortWorldK putRowK putRow mapBlock grow Go.Sort.ahead
 refine ⟨⟨rfl, rfl, rfl, by simp, fun x hx hS => ?_, by show w.drawn ≤ w.drawn + m; omega⟩, ?_⟩
 ·show (_ ++ os)[x]? = _
  rw [Array.getElem?_append_left (by simpa using hx), Array.getElem?_modify, if_neg (fun e => hS e.symm)]
 ·unfold Blk at hb ⊢
  show (_ ++ os)[b]? = _
  rw [Array.getElem?_append_left (by simpa using hlt), Array.getElem?_modify, if_pos rfl, hb]
  simp only [Option.map_some, onCells]
  congr 2
  apply Array.ext'
  rw [putCells_list (by rw [size_flatK]; simpa using hd), flatK_list hk hl, size_flatK]
end
open Go.Proofs Go.Shelf Go.Sort
abbrev Id32 := { l : List UInt8 // l.length = 32 }
instance : Inhabited Id32 := ⟨⟨List.replicate 32 0, List.length_replicate⟩⟩
abbrev encI (x : Id32) : List Value := zq6 x.1
theorem encI_len (x : Id32) : (encI x).length = 32 := by rw [encI, zx0, x.2]
theorem sort_ids {P : Program} {ρ : Ren} (L : SlLaysF0.n6 P ρ) (aE : ∀ w, (isAgg (ρ.t 24)).run P w = .ok true w) (zE : ∀ w, (Go.sizeOf (ρ.t 24)).run P w = .ok 32 w) {g : Nat} {cb : Array Value} (eg : ∀ args w, (callFunc g args).run P w = .ok (.enter g args) w)
  (cf : List UInt8 → List UInt8 → Int) (hO : SWO (ltOf fun x y : Id32 => cf x.1 y.1)) {w : World} {q : Option Addr} {c T : Nat} {ids : List (List UInt8)} (hq : Own w q ids.length c T 32 (ids.flatMap zq6)) (hi : ∀ x ∈ ids, x.length = 32) (hn : ids.length < 1000000000)
  (hcmp : ∀ W, Ext (OwnB q) w W → ∀ x y, x.length = 32 → y.length = 32 → zz1 P g (.agg (zq6 x).toArray :: .agg (zq6 y).toArray :: cb.toList) W fun v w' => v = .int .i64 (cf x y) ∧ Ext No W w') :
  zz1 P (ρ.f 6) [.slice q ids.length c, .func (.func g) #[] cb] w fun v w' => v = .tuple #[] ∧ ∃ ids' : List (List UInt8), ids'.Perm ids ∧ ids'.Pairwise (fun a b => ¬ cf b a < 0) ∧ Own w' q ids.length c T 32 (ids'.flatMap zq6) ∧ Ext (OwnB q) w w' := by
 rcases hq with ⟨rfl, h0, rfl, hx⟩ | ⟨b, lc, rfl, hb, hlc, hnc, hcm, htk⟩
 ·have hnil : ids = [] := List.eq_nil_of_length_eq_zero h0
  subst hnil
  refine Calls.mono (AnyF.slices_SortFunc_none L none 0 (.func (.func g) #[] cb) w) ?_
  rintro e w' ⟨rfl, rfl⟩
  exact ⟨rfl, [], List.Perm.refl _, List.Pairwise.nil, Own.nil _ _ _, Ext.refl _ _⟩
 ·obtain ⟨d, hd⟩ : ∃ d : Array Id32, d.toList.map Subtype.val = ids := ⟨(ids.attach.map fun x => (⟨x.1, hi x.1 x.2⟩ : Id32)).toArray, by simp [List.map_attach_eq_pmap]⟩
  have hds : d.size = ids.length := by rw [← hd]; simp
  have hfl : ∀ e : Array Id32, e.toList.flatMap encI = (e.toList.map Subtype.val).flatMap zq6 := fun e => by rw [List.flatMap_map]
  have hroom : d.size * 32 ≤ lc.length := by rw [hlc, hds]; exact Nat.mul_le_mul_right _ hnc
  have hF : (flatK encI 32 d).toList = lc.take (ids.length * 32) := by rw [flatK_list (by decide) encI_len, hfl, hd, htk]
  have hH : HoldsK encI 32 w b 0 d := fun j hj => by
   refine ⟨?_, hb.free _ rfl⟩
   rw [Nat.zero_add]
   refine hb.cell ?_
   have h1 : (flatK encI 32 d).toList[j]? = some (flatK encI 32 d)[j]! := by
    rw [Array.getElem?_toList, Array.getElem?_eq_getElem hj, getElem!_pos _ j hj]
   rw [hF, List.getElem?_take] at h1
   rw [size_flatK, hds] at hj
   rw [if_pos hj] at h1
   exact h1
  have hcl : CmpLays P g cb encI 32 (fun x y : Id32 => cf x.1 y.1) b 0 d.size w := fun m os dk hs x y => by
   have hE := (sortK_ext (m := m) hb dk os (by rw [hs]; exact hroom) (by decide) encI_len).1
   have h := hcmp _ (hE.mono fun z _ e => by have e : z = b := e; rw [e]) x.1 y.1 x.2 y.2
   unfold zz1 at h
   have ea : (.agg (zq6 x.1).toArray :: .agg (zq6 y.1).toArray :: cb.toList : List Value).toArray = #[.agg (encI x).toArray, .agg (encI y).toArray] ++ cb := by apply Array.ext'; simp
   rw [ea] at h
   refine h.mono ?_
   rintro e w' he
   cases e with
   | returned v =>
    obtain ⟨rfl, hE2⟩ := he
    exact ⟨rfl, hE2.grown⟩
   | panicked _ => exact he.elim
   | outgrown => exact he.elim
  refine Calls.mono (by
   have := AnyQ.slices_SortFunc L 32 aE zE encI encI_len (fun x v hv => by obtain ⟨z, _, rfl⟩ := List.mem_map.1 hv; rfl) (fun x y : Id32 => cf x.1 y.1) hO g cb b 0 c d w eg hcl hH hb.lt (by omega)
   rw [hds] at this
   exact this) ?_
  rintro e w' ⟨rfl, d', m, os, ⟨hp1, _, hp3⟩, hs, rfl⟩
  have hd1 : d'.size = ids.length := hp1.trans hds
  have hpm : d'.toList.Perm d.toList := by
   have e1 : d'.extract 0 d.size = d' := by rw [← hp1]; simp
   have e2 : d.extract 0 d.size = d := by simp
   rw [hds] at e1 e2
   rw [e1, e2] at hp3
   exact hp3
  obtain ⟨hE, hB⟩ := sortK_ext (m := m) hb d' os (by rw [hp1]; exact hroom) (by decide) encI_len
  refine ⟨rfl, d'.toList.map Subtype.val, hd ▸ hpm.map _, ?_, ?_, hE.mono fun z _ e => by have e : z = b := e; rw [e]⟩
  ·rw [List.pairwise_map, List.pairwise_iff_getElem]
   intro i j hi' hj' hij
   have hi2 : i < d'.size := by simpa using hi'
   have hj2 : j < d'.size := by simpa using hj'
   have := hs i j (Nat.zero_le _) hij (by rw [← hd1]; exact hj2)
   rw [getElem!_pos d' i hi2, getElem!_pos d' j hj2] at this
   simpa [ltOf] using this
  ·refine .inr ⟨b, _, rfl, hB, ?_, hnc, hcm, ?_⟩
   ·rw [List.length_append, List.length_drop, hfl, flat_len (n := 32) (fun r hr => by obtain ⟨z, _, rfl⟩ := List.mem_map.1 hr; exact encI_len z), List.length_map, Array.length_toList, hd1, hlc]
    have := Nat.mul_le_mul_right 32 hnc
    omega
   ·rw [hfl, List.take_left']
    rw [flat_len (n := 32) (fun r hr => by obtain ⟨z, _, rfl⟩ := List.mem_map.1 hr; exact encI_len z), List.length_map, Array.length_toList, hd1]
end Go.Vc
