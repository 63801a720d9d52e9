/-
  Walks and laws towards: UploadPutsSaid , walked
-/
import Derived.OrdersIn
import Derived.Laws.IdiomRangeMap
import Derived.Test.YtpcdihkcenfgkaaGreatLpD
namespace Go.Proofs.YtpcdihkcenfgkaaGreat
open Go.Vc
theorem closed1 {h : Hp} {x : IdB} (he : h.kErr x 3 ≠ 0) : h.closed x = h.kErr x 3 := if_pos he
theorem closed2 {h : Hp} {x : IdB} (he : h.kErr x 3 = 0) (hg : ∀ y ∈ h.led x, h.Good y) : h.closed x = 0 := (if_neg fun k => k he).trans (if_pos hg)
theorem closed3 {h : Hp} {x y : IdB} (he : h.kErr x 3 = 0) (hy : y ∈ h.led x) (hg : ¬ h.Good y) : h.closed x = 180 := (if_neg fun k => k he).trans (if_neg fun k => hg (k y hy))
theorem HpIn.ledIn {w : World} {p : Option Addr} {l : List HeldT} (h : HpIn w p l) {x : IdB} (hx : IdIn x) : ∀ y ∈ (toHp l).led x, IdIn y := fun y hy => h.leadsIn hx y (((toHp l).led_mem x y).1 hy)
theorem HpIn.ledLen {w : World} {p : Option Addr} {l : List HeldT} (h : HpIn w p l) (x : IdB) : ((toHp l).led x).length < 10000001 := Nat.lt_of_le_of_lt (sub_len (rise_nodup ((toHp l).led_rise x)) fun y hy => (((toHp l).led_mem x y).1 hy).all) (h.allLen x)
end Go.Proofs.YtpcdihkcenfgkaaGreat
namespace Go.Proofs.YtpcdihkcenfgkaaGreat
open Go.Vc
theorem flat_drop32 : ∀ (k : Nat) (L : List IdB), (∀ x ∈ L, IdIn x) → (L.flatMap bytesU).drop (k * 32) = (L.drop k).flatMap bytesU
  | 0, L, _ => by simp
  | k + 1, [], _ => by simp
  | k + 1, b :: L, h => by
    have hb : (bytesU b).length = 32 := by rw [bytesU_len]; exact h b (by simp)
    rw [List.flatMap_cons, List.drop_succ_cons, ← flat_drop32 k L fun x hx => h x (by simp [hx]), List.drop_append, hb, List.drop_eq_nil_of_le (by omega), List.nil_append, show (k + 1) * 32 - 32 = k * 32 from by omega]
theorem flat_take32 : ∀ (k : Nat) (L : List IdB), (∀ x ∈ L, IdIn x) → (L.flatMap bytesU).take (k * 32) = (L.take k).flatMap bytesU
  | 0, L, _ => by simp
  | k + 1, [], _ => by simp
  | k + 1, b :: L, h => by
    have hb : (bytesU b).length = 32 := by rw [bytesU_len]; exact h b (by simp)
    rw [List.flatMap_cons, List.take_succ_cons, List.flatMap_cons, ← flat_take32 k L fun x hx => h x (by simp [hx]), List.take_append, hb, List.take_of_length_le (by omega), show (k + 1) * 32 - 32 = k * 32 from by omega]
theorem Sl.drop32 {w : World} {p : Option Addr} {L : List IdB} (h : Sl w p L.length 32 (L.flatMap bytesU)) (hL : ∀ x ∈ L, IdIn x) {e k : Nat} (he : e ≤ L.length) (hk : L.length ≤ k) : Sl w (slBase p e k 32) (L.drop e).length 32 ((L.drop e).flatMap bytesU) := by
  have := Sl.slice h e L.length k he hk (Nat.le_refl _)
  rw [flat_drop32 e L hL, show (L.length - e) * 32 = ((L.drop e).flatMap bytesU).length from by rw [flat_len (n := 32) fun r hr => (hL r (List.mem_of_mem_drop hr)).len, List.length_drop], List.take_length] at this
  rw [List.length_drop]
  exact this
theorem Sl.take32 {w : World} {p : Option Addr} {L : List IdB} (h : Sl w p L.length 32 (L.flatMap bytesU)) (hL : ∀ x ∈ L, IdIn x) {e : Nat} (he : e ≤ L.length) : Sl w p e 32 ((L.take e).flatMap bytesU) := by
  have := Sl.slice h 0 e e (Nat.zero_le _) (Nat.le_refl _) he
  rw [slBase_zero, Nat.zero_mul, List.drop_zero, Nat.sub_zero, flat_take32 e L hL] at this
  exact this
end Go.Proofs.YtpcdihkcenfgkaaGreat
namespace Go.Proofs.YtpcdihkcenfgkaaGreat
open Go.Vc
end Go.Proofs.YtpcdihkcenfgkaaGreat
namespace Go.Vc

section
variable {F : Fence} {n : Nat} {P : Program} {f : Fs} {Q : XPost} {env : Env} {w : World}
theorem ci_seq {x y : Code} (h : WCI F n P f x (Exit.then (y.wpIn F n P Q) Q) env w) : WCI F n P f (.seq x y) Q env w := fun a ha => wpIn_seq (h a ha)
theorem ci_skip (h : Fin f Q .normal env w) : WCI F n P f .skip Q env w := fun a ha => wpIn_skip (h a ha)
theorem ci_exit {id : Nat} (h : Fin f Q (.exit id) env w) : WCI F n P f (.exit id) Q env w := fun a ha => wpIn_exit (h a ha)
theorem ci_ret (h : Fin f Q .ret env w) : WCI F n P f .ret Q env w := fun a ha => wpIn_ret (h a ha)
theorem ci_cond {c : Operand} {x y : Code} {b : Bool} (hc : evO env c = some (.bool b)) (ht : b = true → WCI F n P f x Q env w) (hf : b = false → WCI F n P f y Q env w) : WCI F n P f (.cond c x y) Q env w :=
  fun a ha => wpIn_cond_split (ha.eval hc) (fun h => ht h a ha) (fun h => hf h a ha)
theorem ci_if {c : Operand} {x y : Code} {p : Prop} [Decidable p] (hc : evO env c = some (.bool (decide p))) (ht : p → WCI F n P f x Q env w) (hf : ¬ p → WCI F n P f y Q env w) : WCI F n P f (.cond c x y) Q env w :=
  ci_cond hc (fun h => ht (of_decide_eq_true h)) (fun h => hf (of_decide_eq_false h))
theorem fi_then {y : Code} (h : WCI F n P f y Q env w) : Fin f (Exit.then (y.wpIn F n P Q) Q) .normal env w := fun a ha => h a ha
end

/-! ### Regions whose order is open, within a fence -/
section
variable {F : Fence} {n : Nat} {P : Program}
variable {f : Fs} {env : Env} {w : World}
/-! A part of the region ahead of a yield's call -/
variable {ops : Array Oper} {Q : XPost}
end

/-! ### Iterators -/
/-- who takes what an iterator hands over: l its loop's record; n0: what lay when the iterator began is below; F: all that a round may turn -/
structure Cons (P : Program) (l n0 N : Nat) (args : Nat → Array Value) (J Jx : Nat → (Nat → Prop) → World → Prop) : Prop where
  st : ∀ {k : Nat} {F S : Nat → Prop} {w w' : World}, J k F w → Ext S w w' → (∀ x, S x → n0 ≤ x ∧ ¬ F x) → J k F w'
  stx : ∀ {k : Nat} {F S : Nat → Prop} {w w' : World}, Jx k F w → Ext S w w' → (∀ x, S x → n0 ≤ x ∧ ¬ F x) → Jx k F w'
  lt : ∀ {k : Nat} {F : Nat → Prop} {w : World}, J k F w → ∀ x, F x → x < w.heap.size
  ltx : ∀ {k : Nat} {F : Nat → Prop} {w : World}, Jx k F w → ∀ x, F x → x < w.heap.size
  round : ∀ {k : Nat} {F : Nat → Prop} {w : World}, J k F w → k < N → YieldAt Fence.wide 8 P l (args k) w fun e w' => ∃ b, e = .returned (.bool b) ∧ ∃ F' : Nat → Prop, Ext F w w' ∧ (∀ x, F' x → F x ∨ w.heap.size ≤ x) ∧ (b = true → J (k + 1) F' w') ∧ (b = false → Jx k F' w')
/-- a function that hands over so many things and no more, if it is not stopped; own: what it looks at -/
def Iter (P : Program) (gf : Nat) (cap : List Value) (N : Nat) (args : Nat → Array Value) (own : Nat → Prop) (w : World) : Prop :=
  ∀ (l : Nat) (J Jx : Nat → (Nat → Prop) → World → Prop) (F : Nat → Prop), Cons P l w.heap.size N args J Jx → J 0 F w → (∀ x, own x → ¬ F x) →
    CallsV P gf (.func (.yield l) #[] #[] :: cap) w fun _ w' => ∃ F' : Nat → Prop, Ext F w w' ∧ (∀ x, F' x → F x ∨ w.heap.size ≤ x) ∧ (J N F' w' ∨ ∃ k, k < N ∧ Jx k F' w')

/-- what a loop's body keeps between its rounds, and how it is left: z its own state; Fp: the blocks that it may turn -/
structure CoS (α : Type) (w : World) where
  Fp : α → Nat → Prop
  J : Nat → α → World → Prop
  Jx : Nat → Code → α → World → Prop
  st : ∀ {k : Nat} {z : α} {S : Nat → Prop} {u u' : World}, J k z u → Ext S u u' → (∀ x, S x → w.heap.size ≤ x ∧ ¬ Fp z x) → J k z u'
  stx : ∀ {k : Nat} {c : Code} {z : α} {S : Nat → Prop} {u u' : World}, Jx k c z u → Ext S u u' → (∀ x, S x → w.heap.size ≤ x ∧ ¬ Fp z x) → Jx k c z u'
  lt : ∀ {k : Nat} {z : α} {u : World}, J k z u → ∀ x, Fp z x → x < u.heap.size
  ltx : ∀ {k : Nat} {c : Code} {z : α} {u : World}, Jx k c z u → ∀ x, Fp z x → x < u.heap.size
abbrev mark0 : Obj := .deferred (some [])
abbrev busy (r : Loop) : Loop := { r with state := .busy }
section
variable {α : Type} {w : World} {P : Program}
def CJ (C : CoS α w) (z0 : α) (l D : Nat) (r : Loop) (k : Nat) (F : Nat → Prop) (u : World) : Prop :=
  ∃ z, F = (fun x => C.Fp z x ∨ x = l ∨ x = D) ∧ C.J k z u ∧ (∀ x, C.Fp z x → x ≠ l ∧ x ≠ D) ∧ u.heap[l]? = some (.loop r) ∧ u.heap[D]? = some mark0 ∧ Ext (C.Fp z0) w u ∧ (∀ x, C.Fp z x → C.Fp z0 x ∨ w.heap.size ≤ x)
def CJx (C : CoS α w) (z0 : α) (l D : Nat) (r : Loop) (k : Nat) (F : Nat → Prop) (u : World) : Prop :=
  ∃ c z, F = (fun x => C.Fp z x ∨ x = l ∨ x = D) ∧ C.Jx k c z u ∧ (∀ x, C.Fp z x → x ≠ l ∧ x ≠ D) ∧ u.heap[l]? = some (.loop { r with state := .done, pending := some c }) ∧ u.heap[D]? = some mark0 ∧ Ext (C.Fp z0) w u ∧ (∀ x, C.Fp z x → C.Fp z0 x ∨ w.heap.size ≤ x)
/-- what a round may lean on -/
structure RdC (C : CoS α w) (z0 : α) (l D : Nat) (r : Loop) (z : α) (W : World) : Prop where
  rd : r.state = .ready
  pe : r.pending = none
  ne : l ≠ D
  lo : w.heap.size ≤ l ∧ w.heap.size ≤ D
  fp : ∀ x, C.Fp z x → x ≠ l ∧ x ≠ D
  l : W.heap[l]? = some (.loop r)
  D : W.heap[D]? = some mark0
  X : Ext (C.Fp z0) w W
  sub : ∀ x, C.Fp z x → C.Fp z0 x ∨ w.heap.size ≤ x
/-- what is asked at its end -/
def RdQ (C : CoS α w) (z0 : α) (l D : Nat) (r : Loop) (k : Nat) (z : α) (W : World) : Ending → World → Prop := fun e w' =>
  ∃ b, e = .returned (.bool b) ∧ ∃ F' : Nat → Prop, Ext (fun x => C.Fp z x ∨ x = l ∨ x = D) W w' ∧ (∀ x, F' x → (C.Fp z x ∨ x = l ∨ x = D) ∨ W.heap.size ≤ x) ∧ (b = true → CJ C z0 l D r (k + 1) F' w') ∧ (b = false → CJx C z0 l D r k F' w')
theorem heap_lt {W : World} {x : Nat} {o : Obj} (h : W.heap[x]? = some o) : x < W.heap.size := (Array.getElem?_eq_some_iff.1 h).1
variable {C : CoS α w} {z0 : α} {l D : Nat} {r : Loop} {k : Nat} {z : α} {W : World} {f : Fs} {env : Env} {u : World}
theorem RdC.ends (h : RdC C z0 l D r z W) (hE : Ext (fun x => C.Fp z x ∨ x = l) W u) {z' : α} (hF : ∀ x, C.Fp z' x → C.Fp z x ∨ W.heap.size ≤ x) :
    u.heap[D]? = some mark0 ∧ (∀ x, C.Fp z' x → x ≠ l ∧ x ≠ D) ∧ Ext (C.Fp z0) w u ∧ (∀ x, C.Fp z' x → C.Fp z0 x ∨ w.heap.size ≤ x) := by
  refine ⟨(hE.same _ (heap_lt h.D) fun e => e.elim (fun e => (h.fp _ e).2 rfl) fun e => h.ne e.symm).trans h.D, fun x hx => ?_, h.X.trans hE fun x hx e => ?_, fun x hx => ?_⟩
  · rcases hF x hx with hx | hx
    · exact h.fp x hx
    · exact ⟨fun e => by have := heap_lt h.l; omega, fun e => by have := heap_lt h.D; omega⟩
  · rcases e with e | e
    · exact (h.sub x e).resolve_right (by omega)
    · have := h.lo.1; omega
  · rcases hF x hx with hx | hx
    · exact h.sub x hx
    · exact .inr (Nat.le_trans h.X.size hx)
theorem fin_next (z' : α) (h : RdC C z0 l D r z W) (hl : u.heap[l]? = some (.loop (busy r))) (hE : Ext (fun x => C.Fp z x ∨ x = l) W u) (hF : ∀ x, C.Fp z' x → C.Fp z x ∨ W.heap.size ≤ x) (hJ : C.J (k + 1) z' u) :
    Fin f (roundPost P l (RdQ C z0 l D r k z W)) .normal env u := by
  intro a _
  obtain ⟨h1, h2, h3, h4⟩ := h.ends hE hF
  have hE2 : Ext (One l) u (u.putObj l (.loop { busy r with state := if (none : Option Code).isNone then .ready else .done, pending := none })) := Ext.putObj hl rfl rfl
  refine ⟨_, _, run_endRound none hl, true, rfl, fun x => C.Fp z' x ∨ x = l ∨ x = D, ?_, fun x hx => ?_, fun _ => ?_, fun e => by cases e⟩
  · exact (hE.mono fun x _ e => e.imp id .inl).then (hE2.mono fun x _ e => .inr (.inl e))
  · rcases hx with hx | hx
    · exact (hF x hx).imp .inl id
    · exact .inl (.inr hx)
  · refine ⟨z', rfl, C.st hJ hE2 fun x e => ?_, h2, ?_, ?_, h3.trans hE2 fun x hx e => ?_, h4⟩
    · have e : x = l := e
      subst e
      exact ⟨h.lo.1, fun e => (h2 _ e).1 rfl⟩
    · rw [World.putObj_heap_same (heap_lt hl)]
      have e1 := h.rd
      have e2 := h.pe
      cases r
      cases e1
      cases e2
      rfl
    · exact (World.putObj_heap_other h.ne.symm).trans h1
    · have e : x = l := e
      have := h.lo.1
      omega
theorem fin_stop {c : Code} {e : Exit} (hc : (e = .ret ∧ c = .ret) ∨ ∃ id, e = .exit id ∧ c = .exit id) (z' : α) (h : RdC C z0 l D r z W) (hl : u.heap[l]? = some (.loop (busy r))) (hE : Ext (fun x => C.Fp z x ∨ x = l) W u) (hF : ∀ x, C.Fp z' x → C.Fp z x ∨ W.heap.size ≤ x) (hJ : C.Jx k c z' u) :
    Fin f (roundPost P l (RdQ C z0 l D r k z W)) e env u := by
  intro a _
  obtain ⟨h1, h2, h3, h4⟩ := h.ends hE hF
  have hE2 : Ext (One l) u (u.putObj l (.loop { busy r with state := if (some c : Option Code).isNone then .ready else .done, pending := some c })) := Ext.putObj hl rfl rfl
  have key : ∃ v w', (Instr.endRound l (some c)).run P u = .ok v w' ∧ RdQ C z0 l D r k z W (.returned v) w' := by
    refine ⟨_, _, run_endRound (some c) hl, false, rfl, fun x => C.Fp z' x ∨ x = l ∨ x = D, ?_, fun x hx => ?_, (fun e => by cases e), fun _ => ?_⟩
    · exact (hE.mono fun x _ e => e.imp id .inl).then (hE2.mono fun x _ e => .inr (.inl e))
    · rcases hx with hx | hx
      · exact (hF x hx).imp .inl id
      · exact .inl (.inr hx)
    · refine ⟨c, z', rfl, C.stx hJ hE2 fun x e => ?_, h2, ?_, ?_, h3.trans hE2 fun x hx e => ?_, h4⟩
      · have e : x = l := e
        subst e
        exact ⟨h.lo.1, fun e => (h2 _ e).1 rfl⟩
      · exact World.putObj_heap_same (heap_lt hl)
      · exact (World.putObj_heap_other h.ne.symm).trans h1
      · have e : x = l := e
        have := h.lo.1
        omega
  rcases hc with ⟨rfl, rfl⟩ | ⟨id, rfl, rfl⟩
  · exact key
  · exact key
/-- between the assignment and the body -/
theorem fin_begin {R : Ending → World → Prop} {body : Code} (h : RdC C z0 l D r z W) (hl : u.heap[l]? = some (.loop r)) (hb : ∀ u', Ext (One l) u u' → u'.heap[l]? = some (.loop (busy r)) → WCI (Fence.wide.inRound l) 8 P f body (roundPost P l R) env u') :
    Fin f (Exit.then (fun a1 w1 => ∃ w2, (Instr.beginRound l).run P w1 = .ok () w2 ∧ body.wpIn (Fence.wide.inRound l) 8 P (roundPost P l R) a1 w2) (fun _ _ _ => False)) .normal env u := fun a ha =>
  begin_round hl h.rd fun w' hE hl' => hb w' hE hl' a ha
def penv : List Tmp → List Value → Env → Env
  | t :: ts, v :: vs, e => penv ts vs ((t, v) :: e)
  | _, _, e => e
theorem ag_fold : ∀ (ts : List Tmp) (vs : List Value) (env : Env) (tmps : Array Value), ts.all (fun t => Nat.blt t f.n) = true → tmps.size = f.n → (∀ i v, lk env i = some v → tmps[i]? = some v) →
    ((ts.zip vs).foldl (fun tmps (x : Tmp × Value) => tmps.setIfInBounds x.1 x.2) tmps).size = f.n ∧ ∀ i v, lk (penv ts vs env) i = some v → ((ts.zip vs).foldl (fun tmps (x : Tmp × Value) => tmps.setIfInBounds x.1 x.2) tmps)[i]? = some v
  | [], vs, env, tmps, _, hs, h => ⟨hs, by cases vs <;> exact h⟩
  | t :: ts, [], env, tmps, _, hs, h => ⟨hs, h⟩
  | t :: ts, v :: vs, env, tmps, ht, hs, h => by
    simp only [List.all_cons, Bool.and_eq_true] at ht
    have htn : t < f.n := Nat.le_of_ble_eq_true ht.1
    refine ag_fold ts vs ((t, v) :: env) (tmps.setIfInBounds t v) ht.2 (by simpa using hs) fun i u hi => ?_
    rw [lk_cons] at hi
    split at hi
    · rename_i e
      subst e
      cases hi
      simp [hs, htn]
    · rename_i e
      rw [Array.getElem?_setIfInBounds_ne e]
      exact h i u hi
theorem c_rangeX {Q : XPost} {g : Operand} {ps : Array Tmp} {assign body : Code} {gf : Nat} {cap : Array Value}
    (hg : evO env g = some (.func (.func gf) #[] cap)) (hcf : ∀ args w, (callFunc gf args).run P w = .ok (.enter gf args) w)
    (H : ∀ (fn : FuncId) (a : Act), Ag f env a → ∀ rec : Loop, rec = { state := .ready, pending := none, fn, tmps := a.tmps, params := ps, assign, body, defers := w.heap.size } →
      ∀ w1, Ext No w w1 → w1.heap[w.heap.size + 1]? = some (.loop rec) → w1.heap[w.heap.size]? = some mark0 → w1.heap.size = w.heap.size + 2 →
      CallsV P gf (.func (.yield (w.heap.size + 1)) #[] #[] :: cap.toList) w1 fun _ w2 => ∃ r2, w2.heap[w.heap.size + 1]? = some (.loop r2) ∧ r2.state ≠ .busy ∧ w2.heap[w.heap.size]? = some mark0 ∧
        ∀ w3, Ext (One (w.heap.size + 1)) w2 w3 → w3.heap[w.heap.size]? = some mark0 → (r2.pending = none → Fin ⟨f.n, { target := .collected w.heap.size, args := #[] } :: f.ds⟩ Q .normal env w3) ∧
          ∀ c, r2.pending = some c → WC P ⟨f.n, { target := .collected w.heap.size, args := #[] } :: f.ds⟩ c Q env w3) :
    WC P f (.rangeFunc g ps assign body) Q env w := by
  intro a ha
  refine (wpIn_wide (n := 9)).1 (wpIn_rangeFunc fun fn _ => ?_)
  obtain ⟨rec, hrec⟩ : ∃ rec : Loop, rec = { state := .ready, pending := none, fn, tmps := a.tmps, params := ps, assign, body, defers := w.heap.size } := ⟨_, rfl⟩
  have e0 : Ext No w (w.alloc (.deferred (some []))) := Ext.allocObj w rfl
  have e1 : Ext No (w.alloc (.deferred (some []))) ((w.alloc (.deferred (some []))).alloc (.loop rec)) := Ext.allocObj _ rfl
  have hL : ((w.alloc (.deferred (some []))).alloc (.loop rec)).heap[w.heap.size + 1]? = some (.loop rec) := by
    have := World.alloc_heap_new (w.alloc (.deferred (some []))) (.loop rec); rwa [World.size_alloc] at this
  have hD : ((w.alloc (.deferred (some []))).alloc (.loop rec)).heap[w.heap.size]? = some (.deferred (some [])) :=
    (e1.same _ (by simp) id).trans (World.alloc_heap_new w _)
  refine ⟨w.heap.size + 1, [{ target := .collected w.heap.size, args := #[] }], (w.alloc (.deferred (some []))).alloc (.loop rec), { target := .fn (.func gf) cap, args := #[.func (.yield (w.heap.size + 1)) #[] #[]] }, (w.alloc (.deferred (some []))).alloc (.loop rec), gf,
    #[.func (.yield (w.heap.size + 1)) #[] #[]] ++ cap, (w.alloc (.deferred (some []))).alloc (.loop rec), ?_, ?_, fun _ _ => trivial, ?_, fun h => (by cases h), ?_⟩
  · rw [hrec]; exact run_enterLoop_outer _ _ _ _ _
  · have hev := ha.eval hg
    simp only [resolve, hev]
    simp [Deferred.ofValue, Act.eval]
  · simp [invoke, hcf]
  · have hc := H fn a ha rec hrec _ (e0.thenNo e1) hL hD (by simp)
    have e2 : (#[.func (.yield (w.heap.size + 1)) #[] #[]] ++ cap : Array Value) = (.func (.yield (w.heap.size + 1)) #[] #[] :: cap.toList).toArray := by
      apply Array.ext'; simp
    rw [e2]
    refine (WideF.none.calls hc).mono ?_
    rintro e w2 he
    cases e with
    | returned v =>
      obtain ⟨r2, hl2, hb2, hd2, hk⟩ := he
      have hend := run_endLoop (P := P) hl2 hb2
      have hd3 : (w2.putObj (w.heap.size + 1) (.loop { r2 with state := .exhausted })).heap[w.heap.size]? = some mark0 := (World.putObj_heap_other (by omega)).trans hd2
      have hE3 : Ext (One (w.heap.size + 1)) w2 (w2.putObj (w.heap.size + 1) (.loop { r2 with state := .exhausted })) := Ext.putObj hl2 rfl rfl
      generalize w2.putObj (w.heap.size + 1) (.loop { r2 with state := .exhausted }) = w3 at hend hd3 hE3
      obtain ⟨hk1, hk2⟩ := hk _ hE3 hd3
      have hag : Ag ⟨f.n, { target := .collected w.heap.size, args := #[] } :: f.ds⟩ env { a with defers := [{ target := .collected w.heap.size, args := #[] }] ++ a.defers } := ⟨by simp [ha.defers], ha.size, ha.get⟩
      refine ⟨_, _, hend, ?_⟩
      split
      · rename_i hp; exact hk1 hp _ hag
      · rename_i c hp; exact wpIn_wide.2 (hk2 c hp _ hag)
    | panicked ch => exact he.elim
    | outgrown => exact he.elim
/-- the statement, over an iterator -/
theorem c_iter (C : CoS α w) (z0 : α) {Q : XPost} {g : Operand} {ps : Array Tmp} {assign body : Code} {gf : Nat} {cap : Array Value} {N : Nat} {args : Nat → Array Value} {own : Nat → Prop}
    (hg : evO env g = some (.func (.func gf) #[] cap)) (hcf : ∀ args w, (callFunc gf args).run P w = .ok (.enter gf args) w)
    (hps : ps.toList.all (fun t => Nat.blt t f.n) = true) (hpn : ∀ k, (args k).size = ps.size)
    (hit : ∀ w1, Ext No w w1 → Iter P gf cap.toList N args own w1) (hown : ∀ x, own x → x < w.heap.size ∧ ¬ C.Fp z0 x) (h0 : C.J 0 z0 w)
    (hround : ∀ (l D : Nat) (r : Loop) (k : Nat) (z : α) (W : World), RdC C z0 l D r z W → C.J k z W → k < N →
      WCI (Fence.wide.inRound l) 8 P ⟨f.n, []⟩ assign (Exit.then (fun a1 w1 => ∃ w2, (Instr.beginRound l).run P w1 = .ok () w2 ∧ body.wpIn (Fence.wide.inRound l) 8 P (roundPost P l (RdQ C z0 l D r k z W)) a1 w2) (fun _ _ _ => False)) (penv ps.toList (args k).toList env) W)
    (hdone : ∀ (D : Nat) (z : α) (W : World), C.J N z W → Ext (C.Fp z0) w W → (∀ x, C.Fp z x → C.Fp z0 x ∨ w.heap.size ≤ x) → w.heap.size ≤ D → W.heap[D]? = some mark0 → (∀ x, C.Fp z x → x ≠ D) →
      Fin ⟨f.n, { target := .collected D, args := #[] } :: f.ds⟩ Q .normal env W)
    (hstop : ∀ (D : Nat) (k : Nat) (c : Code) (z : α) (W : World), k < N → C.Jx k c z W → Ext (C.Fp z0) w W → (∀ x, C.Fp z x → C.Fp z0 x ∨ w.heap.size ≤ x) → w.heap.size ≤ D → W.heap[D]? = some mark0 → (∀ x, C.Fp z x → x ≠ D) →
      WC P ⟨f.n, { target := .collected D, args := #[] } :: f.ds⟩ c Q env W) :
    WC P f (.rangeFunc g ps assign body) Q env w := by
  refine c_rangeX hg hcf fun fn a ha rec hrec w1 hE1 hl1 hd1 hs1 => ?_
  have hlD : w.heap.size + 1 ≠ w.heap.size := by omega
  have hst : rec.state = .ready := by rw [hrec]
  have hpe : rec.pending = none := by rw [hrec]
  have hcons : Cons P (w.heap.size + 1) w1.heap.size N args (CJ C z0 (w.heap.size + 1) w.heap.size rec) (CJx C z0 (w.heap.size + 1) w.heap.size rec) := by
    refine ⟨?_, ?_, ?_, ?_, ?_⟩
    · rintro k F S u u' ⟨z, rfl, h1, h2, h3, h4, h5, h6⟩ hE hS
      have hS1 : ∀ x, S x → w.heap.size ≤ x ∧ ¬ C.Fp z x := fun x hx => ⟨by have := (hS x hx).1; omega, fun e => (hS x hx).2 (.inl e)⟩
      exact ⟨z, rfl, C.st h1 hE hS1, h2, (hE.same _ (heap_lt h3) fun e => (hS _ e).2 (.inr (.inl rfl))).trans h3, (hE.same _ (heap_lt h4) fun e => (hS _ e).2 (.inr (.inr rfl))).trans h4, h5.trans hE fun x hx e => by have := (hS1 x e).1; omega, h6⟩
    · rintro k F S u u' ⟨c, z, rfl, h1, h2, h3, h4, h5, h6⟩ hE hS
      have hS1 : ∀ x, S x → w.heap.size ≤ x ∧ ¬ C.Fp z x := fun x hx => ⟨by have := (hS x hx).1; omega, fun e => (hS x hx).2 (.inl e)⟩
      exact ⟨c, z, rfl, C.stx h1 hE hS1, h2, (hE.same _ (heap_lt h3) fun e => (hS _ e).2 (.inr (.inl rfl))).trans h3, (hE.same _ (heap_lt h4) fun e => (hS _ e).2 (.inr (.inr rfl))).trans h4, h5.trans hE fun x hx e => by have := (hS1 x e).1; omega, h6⟩
    · rintro k F u ⟨z, rfl, h1, h2, h3, h4, h5, h6⟩ x hx
      rcases hx with hx | rfl | rfl
      · exact C.lt h1 x hx
      · exact heap_lt h3
      · exact heap_lt h4
    · rintro k F u ⟨c, z, rfl, h1, h2, h3, h4, h5, h6⟩ x hx
      rcases hx with hx | rfl | rfl
      · exact C.ltx h1 x hx
      · exact heap_lt h3
      · exact heap_lt h4
    · rintro k F u ⟨z, rfl, h1, h2, h3, h4, h5, h6⟩ hk
      have hy := run_yield (P := P) (args := args k) h3 (by rw [hrec]; exact hpn k)
      refine ⟨_, _, _, _, hy, roundIn_of_wpIn trivial ?_⟩
      have hA : rec.assign = assign := by rw [hrec]
      have hB : rec.body = body := by rw [hrec]
      have hT : rec.tmps = a.tmps := by rw [hrec]
      have hP : rec.params = ps := by rw [hrec]
      rw [hA, hB, hT, hP]
      obtain ⟨g1, g2⟩ := ag_fold (f := ⟨f.n, []⟩) ps.toList (args k).toList env a.tmps hps ha.size ha.get
      refine hround (w.heap.size + 1) w.heap.size rec k z u ⟨hst, hpe, hlD, ⟨by omega, Nat.le_refl _⟩, h2, h3, h4, h5, h6⟩ h1 hk _ ⟨rfl, ?_, fun i v hi => ?_⟩
      · rw [← Array.foldl_toList, Array.toList_zip]; exact g1
      · show (Array.foldl _ a.tmps (ps.zip (args k)))[i]? = some v
        rw [← Array.foldl_toList, Array.toList_zip]; exact g2 i v hi
  have hj0 : CJ C z0 (w.heap.size + 1) w.heap.size rec 0 (fun x => C.Fp z0 x ∨ x = w.heap.size + 1 ∨ x = w.heap.size) w1 :=
    ⟨z0, rfl, C.st h0 hE1 fun x e => e.elim, fun x hx => ⟨fun e => by have := C.lt h0 x hx; omega, fun e => by have := C.lt h0 x hx; omega⟩, hl1, hd1, hE1.no, fun x hx => .inl hx⟩
  refine (hit w1 hE1 (w.heap.size + 1) _ _ _ hcons hj0 fun x hx => ?_).mono ?_
  · have := hown x hx
    rintro (e | e | e)
    · exact this.2 e
    · omega
    · omega
  · rintro _ w2 ⟨F', hE2, hF', ⟨z, rfl, h1, h2, h3, h4, h5, h6⟩ | ⟨k, hk, c, z, rfl, h1, h2, h3, h4, h5, h6⟩⟩
    · refine ⟨rec, h3, by rw [hst]; decide, h4, fun w3 hE3 hd3 => ⟨fun _ => ?_, fun c hc => by rw [hpe] at hc; cases hc⟩⟩
      have hS1 : ∀ x, One (w.heap.size + 1) x → w.heap.size ≤ x ∧ ¬ C.Fp z x := fun x hx => by
        have hx : x = w.heap.size + 1 := hx
        exact ⟨by omega, fun e => (h2 x e).1 hx⟩
      exact hdone _ z w3 (C.st h1 hE3 hS1) (h5.trans hE3 fun x hx e => by have := (hS1 x e).1; omega) h6 (Nat.le_refl _) hd3 fun x hx => (h2 x hx).2
    · refine ⟨_, h3, (fun e => by cases e), h4, fun w3 hE3 hd3 => ⟨fun hc => (by cases hc), fun c' hc => ?_⟩⟩
      cases hc
      have hS1 : ∀ x, One (w.heap.size + 1) x → w.heap.size ≤ x ∧ ¬ C.Fp z x := fun x hx => by
        have hx : x = w.heap.size + 1 := hx
        exact ⟨by omega, fun e => (h2 x e).1 hx⟩
      exact hstop _ k c z w3 hk (C.stx h1 hE3 hS1) (h5.trans hE3 fun x hx e => by have := (hS1 x e).1; omega) h6 (Nat.le_refl _) hd3 fun x hx => (h2 x hx).2
end
/-! ### A function's end with marks, and with a deferred call -/
theorem leaves_marks {P : Program} {fn : Func} {tmps : Array Value} {R : Ending → World → Prop} : ∀ (Ds : List Nat) (w : World), Ds.Nodup → (∀ D ∈ Ds, w.heap[D]? = some mark0) →
    (∀ w', Ext (fun x => x ∈ Ds) w w' → LeavesInM Fence.wide 9 P fn tmps R [] .returning w') →
    LeavesInM Fence.wide 9 P fn tmps R (Ds.map fun D => { target := .collected D, args := #[] }) .returning w
  | [], w, _, _, k => k w (Ext.refl _ _)
  | D :: Ds, w, hn, hD, k => by
    have hd := hD D (by simp)
    have hE : Ext (One D) w (w.putObj D (.deferred none)) := Ext.putObj hd rfl rfl
    simp only [List.nodup_cons] at hn
    refine ⟨by simp, .inl ⟨D, _, rfl, run_takeDeferred hd, ?_⟩⟩
    refine leaves_marks Ds _ hn.2 (fun D' hD' => ?_) fun w' hE' => k w' ?_
    · have hne : D' ≠ D := fun e => hn.1 (e ▸ hD')
      exact (World.putObj_heap_other hne).trans (hD D' (by simp [hD']))
    · exact (hE.mono fun x _ e => by have e : x = D := e; subst e; simp).then (hE'.mono fun x _ e => by simp [e])
theorem f_retMs {P : Program} {n : Nat} {fn : Func} {R : Value → World → Prop} {env : Env} {w : World} (Ds : List Nat) (hn : Ds.Nodup) (hD : ∀ D ∈ Ds, w.heap[D]? = some mark0) (vs : List Value)
    (k : ∀ w', Ext (fun x => x ∈ Ds) w w' → ResAll P env w' fn.results.toList vs ∧ R (tupV vs) w') {e : Exit} (he : e = .ret ∨ e = .normal) :
    Fin ⟨n, Ds.map fun D => { target := .collected D, args := #[] }⟩ (bodyPostM Fence.wide 9 P fn (Rv R)) e env w := by
  intro a ha
  have key : LeavesInM Fence.wide 9 P fn a.tmps (Rv R) a.defers .returning w := by
    rw [ha.defers]
    refine leaves_marks Ds w hn hD fun w' hE => ?_
    obtain ⟨h1, h2⟩ := k w' hE
    have hr := run_results (a := { a with defers := [] }) (w := w') (n := n) ⟨rfl, ha.size, ha.get⟩ _ _ h1
    refine ⟨tupV vs, ?_, h2⟩
    unfold results
    rw [Array.mapM_eq_mapM_toList, Sem.run_bind, Sem.run_map]
    erw [hr]
    simp only [Result.andThen_ok, Sem.run_pure]
    congr 1
    cases vs with
    | nil => rfl
    | cons v r => cases r <;> simp [tupV]
  rcases he with rfl | rfl
  · exact key
  · exact key
end Go.Vc
namespace Go.Vc
theorem hl_ext {S : Nat → Prop} {w w' : World} {l : Nat} {o : Obj} (h : w.heap[l]? = some o) (hE : Ext S w w') (hS : ¬ S l) : w'.heap[l]? = some o := (hE.same _ (heap_lt h) hS).trans h
theorem Blk.neL {w : World} {l b T : Nat} {r : Loop} {L : List Value} (hb : Blk w b T L) (h : w.heap[l]? = some (.loop r)) : b ≠ l := fun e => by
  subst e
  unfold Blk at hb
  rw [h] at hb
  cases hb
theorem Blk.extL {w w' : World} {l b T : Nat} {r : Loop} {L : List Value} (hb : Blk w b T L) (h : w.heap[l]? = some (.loop r)) (hE : Ext (One l) w w') : Blk w' b T L := hb.ext1 hE (hb.neL h)
section
variable {P : Program} {I : Info} {f : Fs} {ops : Array Oper} {Q : XPost} {rest l : List Oper} {env : Env} {w : World} {F : Fence} {n : Nat} {k : Nat}
theorem wli_pR (hI : I.Ok P) {l' : List Oper} {env' : Env} (h : pevs I f.n l env = some (l', env')) (c : WLI (Fence.wide.inRound k) 8 P f ops Q l' env' w) (hn : nds l = true := by rfl) : WLI (Fence.wide.inRound k) 8 P f ops Q l env w := wli_p (.round k) hI hn h c
end
section
variable {P : Program} {I : Info} {f : Fs} {ops : Array Oper} {o : Oper} {env : Env} {w : World}
end
section
variable {α : Type} {w : World} {P : Program}
variable {C : CoS α w} {z0 : α} {l D : Nat} {r : Loop} {k : Nat} {z : α} {W : World} {f : Fs} {env : Env} {u : World} {X : Nat → Prop}
variable {Q : XPost}
end

/-! ### A deferred call -/
end Go.Vc
namespace Go.Proofs.YtpcdihkcenfgkaaGreat
open Go.Vc
/-- what is asked of an iterator's walk -/
abbrev ItQ (w : World) (F : Nat → Prop) (N : Nat) (J Jx : Nat → (Nat → Prop) → World → Prop) (w' : World) : Prop :=
  ∃ F' : Nat → Prop, Ext F w w' ∧ (∀ x, F' x → F x ∨ w.heap.size ≤ x) ∧ (J N F' w' ∨ ∃ k, k < N ∧ Jx k F' w')
def stepH (acc : List HeldT) (h : HeldT) : List HeldT := if h.id ∈ acc.map HeldT.id then acc else acc ++ [h]
/-- the first ones of their Ids -/
def firsts (l : List HeldT) : List HeldT := l.foldl stepH []
theorem firsts_take {l : List HeldT} {i : Nat} (hi : i < l.length) : firsts (l.take (i + 1)) = stepH (firsts (l.take i)) l[i] := by
  rw [List.take_succ_eq_append_getElem hi, firsts, List.foldl_append]; rfl
theorem foldH_pre : ∀ (l acc : List HeldT), acc <+: l.foldl stepH acc
  | [], acc => List.prefix_refl _
  | h :: l, acc => by
    refine List.IsPrefix.trans ?_ (foldH_pre l (stepH acc h))
    unfold stepH
    split
    · exact List.prefix_refl _
    · exact List.prefix_append _ _
theorem firsts_pre (l : List HeldT) (i : Nat) : firsts (l.take i) <+: firsts l := by
  have := foldH_pre (l.drop i) (firsts (l.take i))
  have e : (l.drop i).foldl stepH (firsts (l.take i)) = firsts l := by
    unfold firsts
    rw [← List.foldl_append, List.take_append_drop]
  rw [e] at this
  exact this
abbrev hZ : HeldT := ⟨[], objZ, noP⟩
/-- what is handed over -/
def heldA (L : List HeldT) (k : Nat) : Array Value := #[idV (L.getD k hZ).id, .agg (objC (L.getD k hZ).o (L.getD k hZ).a).toArray]
theorem heldA_new {l : List HeldT} {i : Nat} (hi : i < l.length) (hn : ¬ l[i].id ∈ (firsts (l.take i)).map HeldT.id) : (firsts (l.take i)).length < (firsts l).length ∧ heldA (firsts l) (firsts (l.take i)).length = #[idV l[i].id, .agg (objC l[i].o l[i].a).toArray] ∧ firsts (l.take (i + 1)) = firsts (l.take i) ++ [l[i]] := by
  have e : firsts (l.take (i + 1)) = firsts (l.take i) ++ [l[i]] := by rw [firsts_take hi, stepH, if_neg hn]
  have hp := firsts_pre l (i + 1)
  rw [e] at hp
  obtain ⟨t, ht⟩ := hp
  have hlt : (firsts (l.take i)).length < (firsts l).length := by rw [← ht]; simp
  refine ⟨hlt, ?_, e⟩
  have hg : (firsts l).getD (firsts (l.take i)).length hZ = l[i] := by
    rw [← ht, List.append_assoc]; simp
  rw [heldA, hg]
theorem metF_add (l : List HeldT) (h : HeldT) : setM (metF l) h.id true = metF (stepH l h) := by
  funext x
  unfold setM metF stepH
  by_cases h1 : x = h.id
  · subst h1
    by_cases h2 : h.id ∈ l.map HeldT.id
    · simp [h2]
    · simp [h2]
  · by_cases h2 : h.id ∈ l.map HeldT.id
    · simp [h1, h2]
    · simp [h1, h2]
theorem HpIn.rowLt {w : World} {p : Option Addr} {l : List HeldT} (h : HpIn w p l) {b off : Nat} (hp : p = some ⟨b, off, none⟩) (hl : l.length ≠ 0) : b < w.heap.size := by
  rcases h.sl.2 with h0 | ⟨b', off', h1, h2⟩
  · exact absurd h0 hl
  · rw [hp] at h1
    cases h1
    obtain ⟨y, hy⟩ : ∃ y, l = l[0] :: y := by
      cases l with
      | nil => exact absurd rfl hl
      | cons a y => exact ⟨y, rfl⟩
    have hc := h.c l[0] (List.getElem_mem (by omega))
    have : 0 < (l.flatMap heldC).length := by
      rw [hy, List.flatMap_cons, List.length_append]
      omega
    exact h2.lt fun e => by rw [e] at this; exact absurd this (Nat.lt_irrefl _)
theorem met_tell {l : List HeldT} {x : List UInt8} : tell Value.bool (.bool false) (metF l x) = .bool (decide (x ∈ l.map HeldT.id)) := by
  unfold metF
  by_cases h : x ∈ l.map HeldT.id
  · rw [if_pos h, decide_eq_true h]; rfl
  · rw [if_neg h, decide_eq_false h]; rfl
theorem objs1_walk (w : World) {yl b c : Nat} {p : Option Addr} {l : List HeldT} {F : Nat → Prop} {J Jx : Nat → (Nat → Prop) → World → Prop} (hC : Cons Tryz.prog yl w.heap.size (firsts l).length (heldA (firsts l)) J Jx) (hb : Blk w b 26 [.slice p l.length c]) (h : HpIn w p l) (hpF : ∀ y off, p = some ⟨y, off, none⟩ → l.length ≠ 0 → ¬ F y) (h0 : J 0 F w) :
    CallsV Tryz.prog 105 [.func (.yield yl) #[] #[], .pointer (some ⟨b, 0, none⟩)] w fun _ w' => ItQ w F (firsts l).length J Jx w' := by
  refine calls_enter Tryz.func105 rfl rfl rfl rfl ?_
  have hX := Ext.refl F w
  have hFlt := hC.lt h0
  have hlen := h.len
  refine c_seq (c_region (wl (st_mm Value.bool rfl fun r3 w1 hr3 hM hE1 hs1 => ?_)))
  have hX := hX.thenNo hE1
  have hJ := hC.st h0 hE1 fun _ e => e.elim
  have hF3 : ¬ F r3 := fun e => absurd (hFlt _ e) (by omega)
  have hbc := hb.extNo hE1
  have hsl := h.sl.extNo hE1
  have hr3l := hM.lt
  refine wl_p I_ok rfl (wl_nil (f_then (c_seq (c_region (wl_p I_ok rfl (wl (st_ld I_ok rfl (hbc.cell rfl) (wl_p I_ok rfl (wl_nil (f_then (c_block ?_)))))))))))
  refine c_loopK (α := Nat × (Nat → Prop)) [0, 3, 8, 9] rfl (fun z => [(10, .int .i64 (z.1 : Int))]) (fun z u => (z.1 ≤ l.length ∧ J (firsts (l.take z.1)).length z.2 u ∧ MapB u r3 Value.bool (metF (firsts (l.take z.1))) ∧ (∀ x, z.2 x → F x ∨ w.heap.size ≤ x) ∧ (¬ z.2 r3) ∧ Sl u p l.length 105 (l.flatMap heldC)) ∧ Ext F w u) (fun z u => l.length - z.1) (0, F) rfl ⟨⟨Nat.zero_le _, hJ, hM, fun x hx => .inl hx, hF3, hsl⟩, hX⟩ ?_
  rintro ⟨i, G⟩ w2 ⟨⟨hi, hJ, hM, hG, hGr, hsl⟩, hX⟩
  try dsimp only
  dsimp only at hi hJ hM hG hGr
  refine c_seq (c_region (wl_p I_ok rfl (wl_nil (f_then (c_seq (c_if rfl (fun hc => ?_) (fun hc => ?_)))))))
  · have hi : i < l.length := by omega
    obtain ⟨qb, qoff, hp, hsq⟩ := hsl.rowAll h.c (by omega)
    rw [hp] at hsl ⊢
    have hni := h.ins _ (List.getElem_mem hi)
    have hGlt := hC.lt hJ
    have hrl := hM.lt
    have hqF := hpF qb qoff hp (by omega)
    have hqw : qb < w.heap.size := (h.rowLt hp (by omega))
    refine c_skip (f_then (c_seq (c_block (c_seq (c_region (wl (st_ix I_ok rfl 105 rfl i rfl (by omega) (qoff + i * 105) rfl (wl (st_ldN I_ok rfl (hsq i hi) hni.c ?_)))))))))
    have hslA := hsl
    refine wl (st_al I_ok rfl fun b5 w3 hn5 hb5 hE3 => ?_)
    have fr5 := Nat.le_trans hX.size hn5
    have hM := hM.extNo hE3
    have hJ := hC.st hJ hE3 fun _ e => e.elim
    have hX := hX.thenNo hE3
    have hEa5 := hE3
    have hG5 : ¬ G b5 := fun e => absurd (hGlt _ e) (by omega)
    have hb5o := hb5
    refine wl (st_stW (l' := heldC l[i]) I_ok hb5 rfl rfl hni.c (by rw [hni.c]; rfl) OneC.h fun w4 hb5 hE4 hs4 => ?_)
    have hM := hM.ext1 hE4 hb5o
    have hJ := hC.st hJ hE4 fun y e => by have e : y = b5 := e; subst e; exact ⟨fr5, hG5⟩
    have hsl := hslA.extLt ((Ext.no hEa5).trans hE4 fun _ _ k => k) (fun y hy k => by have k : y = b5 := k; omega)
    have hX := hX.thenNew hE4 fr5
    refine wl_nil (f_then (c_seq ?_))
    refine c_cutK (α := Bool × (Nat → Prop)) [0, 3, 5, 8, 9, 10] rfl (fun z => [(27, .bool z.1)]) (fun z u => ((z.1 = false → J (firsts (l.take (i + 1))).length z.2 u) ∧ (z.1 = true → ∃ k, k < (firsts l).length ∧ Jx k z.2 u) ∧ MapB u r3 Value.bool (metF (firsts (l.take i))) ∧ (∀ x, z.2 x → F x ∨ w.heap.size ≤ x) ∧ (¬ z.2 r3) ∧ (¬ z.2 b5) ∧ Sl u (some ⟨qb, qoff, none⟩) l.length 105 (l.flatMap heldC)) ∧ Blk u b5 84 (heldC l[i]) ∧ Ext F w u) ?_ ?_
    · refine c_regionI ?_
      refine wlw_p rfl I_ok rfl (wlw rfl (st_ldN I_ok rfl (held_id hb5.seg) (IdIn.len hni.id) (wlw rfl (st_lu I_ok rfl idK hni.id rfl hM ?_))))
      simp only [Bool.false_eq_true, if_false]
      rw [show tell Value.bool ti4.zero (metF (firsts (l.take i)) l[i].id) = .bool (decide (l[i].id ∈ (firsts (l.take i)).map HeldT.id)) from met_tell]
      refine wlw_p rfl I_ok rfl (wlw_case 19 rfl (fun hg => ?_) (fun hg => ?_))
      · have hnm : ¬ l[i].id ∈ (firsts (l.take i)).map HeldT.id := by simpa using hg
        obtain ⟨hkn, hka, hfe⟩ := heldA_new hi hnm
        refine wlw_pk rfl I_ok 2 rfl (wlw rfl (st_ldN I_ok rfl (held_id hb5.seg) (IdIn.len hni.id) (wlw_pk rfl I_ok 1 rfl (wlw rfl (st_ldN I_ok rfl (held_obj hb5.seg hni.id) (objC_len hni.o) ?_)))))
        have hrd := hC.round hJ hkn
        rw [hka] at hrd
        refine wli_yield rfl rfl rfl rfl rfl rfl hrd fun y w5 hy => ?_
        obtain ⟨G2, hEy, hGy, hyt, hyf⟩ := hy
        have hX0 := hX.size
        have hb5l := hb5.lt
        have hX := hX.trans hEy fun x hx e => (hG x e).resolve_right (by omega)
        have hG2 : ∀ x, G2 x → F x ∨ w.heap.size ≤ x := fun x hx => (hGy x hx).elim (hG x) fun h => .inr (by omega)
        have hM := hM.ext hEy hGr
        have hb5 := hb5.ext hEy hG5
        have hGr2 : ¬ G2 r3 := fun e => (hGy _ e).elim hGr fun h => absurd hrl (by omega)
        have hG52 : ¬ G2 b5 := fun e => (hGy _ e).elim hG5 fun h => by omega
        have hsl := hsl.ext hEy fun b off e k => by cases e; exact (hG _ k).elim hqF (by omega)
        refine wlw_pk rfl I_ok 2 rfl (wli_nil ?_)
        exact f_cut (!y, G2) rfl ⟨⟨fun e => by have e : y = true := (by simpa using e); have k := hyt e; rw [hfe, List.length_append]; exact k, fun e => by have e : y = false := (by simpa using e); exact ⟨_, hkn, hyf e⟩, hM, hG2, hGr2, hG52, hsl⟩, hb5, hX⟩
      · have hnm : l[i].id ∈ (firsts (l.take i)).map HeldT.id := by simpa using hg
        have hfe : (firsts (l.take (i + 1))) = (firsts (l.take i)) := by rw [firsts_take hi, stepH, if_pos hnm]
        refine wlw_pk rfl I_ok 8 rfl (wli_nil ?_)
        exact f_cut (false, G) rfl ⟨⟨fun _ => by rw [hfe]; exact hJ, (fun e => by cases e), hM, hG, hGr, hG5, hsl⟩, hb5, hX⟩
    rintro ⟨z, G2⟩ w6 ⟨⟨hJf, hJx, hM, hG, hGr, hG5, hsl⟩, hb5, hX⟩
    try dsimp only
    dsimp only at hJf hJx hG hGr hG5
    refine c_cond rfl (fun hc => ?_) (fun hc => ?_)
    · obtain ⟨k, hkk, hJx⟩ := hJx hc
      refine c_ret (f_thenR (f_blockR (f_thenR (f_thenR (f_blockR (f_ret0 rfl ?_))))))
      exact ⟨G2, hX, hG, .inr ⟨k, hkk, hJx⟩⟩
    · have hJ := hJf hc
      refine c_skip (f_then (c_region (wl_p I_ok rfl (wl (st_ldN I_ok rfl (held_id hb5.seg) (IdIn.len hni.id) (wl (st_mu I_ok rfl idK hni.id rfl hM (b := true) rfl fun w7 hM2 hE7 hs7 => ?_)))))))
      rw [metF_add, ← firsts_take hi] at hM2
      have hJ2 := hC.st hJ hE7 fun y e => by have e : y = r3 := e; subst e; exact ⟨hr3, hGr⟩
      have hslq : ∀ b off, (some ⟨qb, qoff, none⟩ : Option Addr) = some ⟨b, off, none⟩ → ¬ One r3 b := fun b off e k => by cases e; have k : qb = r3 := k; omega
      have hsl := hsl.ext hE7 hslq
      have hX := hX.thenNew hE7 hr3
      refine wl_nil (f_blockN (f_then (c_region (wl_p I_ok rfl ?_))))
      rw [IntWalk.i64_in _ (by omega)]
      refine wl_nil ?_
      exact f_round (i + 1, G2) rfl ⟨⟨hi, hJ2, hM2, hG, hGr, hsl⟩, hX⟩ (by first | omega | (dsimp only; omega))
  · have h0 : i = l.length := by omega
    subst h0
    rw [List.take_length] at hJ hM
    refine c_exit (f_thenE (f_thenE (f_blockE (f_end0 rfl ?_))))
    exact ⟨G, hX, hG, .inl hJ⟩
theorem objs1_iter (w : World) {b c : Nat} {p : Option Addr} {l : List HeldT} (hb : Blk w b 26 [.slice p l.length c]) (h : HpIn w p l) :
    Iter Tryz.prog 105 [.pointer (some ⟨b, 0, none⟩)] (firsts l).length (heldA (firsts l)) (fun y => ∃ off, p = some ⟨y, off, none⟩ ∧ l.length ≠ 0) w :=
  fun _ _ _ _ hC h0 hown => objs1_walk w hC hb h (fun y off e k => hown y ⟨off, e, k⟩) h0
theorem objects_calls (w : World) {p : Option Addr} {c : Nat} {l : List HeldT} (_h : HpIn w p l) :
    CallsV Tryz.prog 78 [.agg #[.slice p l.length c]] w fun v w' => ∃ b, v = .func (.func 105) #[] #[.pointer (some ⟨b, 0, none⟩)] ∧ w.heap.size ≤ b ∧ Blk w' b 26 [.slice p l.length c] ∧ Ext No w w' := by
  refine calls_enter Tryz.func78 rfl rfl rfl rfl ?_
  have hX := Ext.refl No w
  refine c_seq (c_region (wl (st_al I_ok rfl fun b1 w1 hn1 hb1 hE1 => ?_)))
  have fr1 := Nat.le_trans hX.size hn1
  have hX := hX.thenNo hE1
  have hb1 : Blk w1 b1 26 ([.slice p l.length c]) := hb1
  refine wl_p I_ok rfl (wl_nil (f_then (c_seq (c_region (wl_p I_ok rfl (wl_nil (f_then (c_ret (f_ret1 rfl rfl ?_)))))))))
  exact ⟨b1, rfl, fr1, hb1, hX⟩
end Go.Proofs.YtpcdihkcenfgkaaGreat
namespace Go.Proofs.YtpcdihkcenfgkaaGreat
open Go.Vc
abbrev objV (x : ObjD × ObjP) : Value := .agg (objC x.1 x.2).toArray
/-- which Id has which object -/
def bookOf (l : List HeldT) : List UInt8 → Option (ObjD × ObjP) := fun x => (l.find? fun h => decide (h.id = x)).map fun h => (h.o, h.a)
theorem firsts_ids (l : List HeldT) : ((firsts l).map HeldT.id).Nodup := by
  have : ∀ (l acc : List HeldT), (acc.map HeldT.id).Nodup → ((l.foldl stepH acc).map HeldT.id).Nodup := by
    intro l
    induction l with
    | nil => exact fun _ h => h
    | cons a l ih =>
      intro acc h
      refine ih _ ?_
      unfold stepH
      split
      · exact h
      · rename_i hn
        rw [List.map_append]
        exact List.nodup_append.2 ⟨h, by simp, fun x hx y hy e => by simp at hy; subst hy; exact hn (e ▸ hx)⟩
  exact this l [] (by simp)
theorem firsts_sub (l : List HeldT) : ∀ h ∈ firsts l, h ∈ l := by
  have : ∀ (l acc : List HeldT), ∀ h ∈ l.foldl stepH acc, h ∈ acc ∨ h ∈ l := by
    intro l
    induction l with
    | nil => exact fun _ h hh => .inl hh
    | cons a l ih =>
      intro acc h hh
      rcases ih _ h hh with k | k
      · unfold stepH at k
        split at k
        · exact .inl k
        · rcases List.mem_append.1 k with k | k
          · exact .inl k
          · rw [List.mem_singleton.1 k]; exact .inr List.mem_cons_self
      · exact .inr (List.mem_cons_of_mem _ k)
  exact fun h hh => (this l [] h hh).resolve_left (by simp)
theorem find_firsts (x : IdB) : ∀ (l acc : List HeldT), (l.foldl stepH acc).find? (fun h => decide (h.id = x)) = (acc.find? fun h => decide (h.id = x)).or (l.find? fun h => decide (h.id = x))
  | [], acc => by simp
  | a :: l, acc => by
    rw [List.foldl_cons, find_firsts x l, List.find?_cons]
    unfold stepH
    by_cases hin : a.id ∈ acc.map HeldT.id
    · rw [if_pos hin]
      by_cases hx : a.id = x
      · obtain ⟨b, hb, hbe⟩ := List.mem_map.1 hin
        have : (acc.find? fun h => decide (h.id = x)).isSome = true := by
          rw [List.find?_isSome]
          exact ⟨b, hb, by simp [hbe, hx]⟩
        obtain ⟨y, hy⟩ := Option.isSome_iff_exists.1 this
        rw [hy]; rfl
      · simp [hx]
    · rw [if_neg hin, List.find?_append]
      by_cases hx : a.id = x
      · have : acc.find? (fun h => decide (h.id = x)) = none := by
          rw [List.find?_eq_none]
          intro b hb hbe
          have hbe : b.id = x := by simpa using hbe
          exact hin (List.mem_map.2 ⟨b, hb, hbe.trans hx.symm⟩)
        rw [this]
        simp [hx]
      · simp [hx]
theorem bookOf_firsts (l : List HeldT) : bookOf (firsts l) = bookOf l := by
  funext x
  unfold bookOf firsts
  rw [find_firsts]; rfl
theorem bookOf_step {L : List HeldT} (hn : (L.map HeldT.id).Nodup) {k : Nat} (hk : k < L.length) : setM (bookOf (L.take k)) L[k].id (L[k].o, L[k].a) = bookOf (L.take (k + 1)) := by
  funext x
  unfold setM bookOf
  rw [List.take_succ_eq_append_getElem hk, List.find?_append]
  by_cases hx : x = L[k].id
  · have : (L.take k).find? (fun h => decide (h.id = x)) = none := by
      rw [List.find?_eq_none]
      intro b hb hbe
      have hbe : b.id = x := by simpa using hbe
      obtain ⟨j, hj, rfl⟩ := List.mem_iff_getElem.1 hb
      rw [List.length_take] at hj
      rw [List.getElem_take] at hbe
      have := List.pairwise_iff_getElem.1 hn j k (by rw [List.length_map]; omega) (by rw [List.length_map]; exact hk) (by omega)
      rw [List.getElem_map, List.getElem_map] at this
      exact this (hbe.trans hx)
    rw [this, if_pos hx]
    simp [hx]
  · rw [if_neg hx]
    simp [Ne.symm hx]
def bookC (w : World) (rm : Nat) (l : List HeldT) : CoS Unit w where
  Fp := fun _ => One rm
  J := fun k _ u => MapB u rm objV (bookOf ((firsts l).take k))
  Jx := fun _ _ _ _ => False
  st := fun h hE hS => h.ext hE fun e => (hS _ e).2 rfl
  stx := fun h _ _ => h
  lt := fun h x e => by have e : x = rm := e; rw [e]; exact h.lt
  ltx := fun h => h.elim
theorem readBk_calls (w : World) {p : Option Addr} {c : Nat} {L : List HeldT} (h : HpIn w p L) :
    CallsV Tryz.prog 48 [.agg #[.slice p L.length c]] w fun v w' => ∃ r, v = .map (some r) ∧ w.heap.size ≤ r ∧ MapB w' r objV (bookOf L) ∧ Ext No w w' := by
  refine calls_enterM Tryz.func48 rfl rfl rfl rfl ?_
  have hX := Ext.refl No w
  refine c_seq (c_region (wl (st_al I_ok rfl fun b1 w1 hn1 hb1 hE1 => ?_)))
  have hX := hX.thenNo hE1
  have hb1 : Blk w1 b1 26 ([.slice p L.length c]) := hb1
  refine wl_p I_ok rfl (wl_nil (f_then (c_seq (c_region (wl (st_mm objV rfl fun r6 w2 hr6 hM hE2 hs2 => ?_))))))
  have hr6w := Nat.le_trans hX.size hr6
  have hX := hX.thenNo hE2
  have hb1 := hb1.extNo hE2
  have ne1r : b1 ≠ r6 := fun e => absurd hb1.lt (by have := hM.ne hb1; exact fun _ => this e.symm)
  refine wl (st_al I_ok rfl fun b3 w3 hn3 hb3 hE3 => ?_)
  have ne1_3 : b1 ≠ b3 := Nat.ne_of_lt (Nat.lt_of_lt_of_le hb1.lt hn3)
  have fr3 := Nat.le_trans hX.size hn3
  have hb1 := hb1.extNo hE3
  have hM := hM.extNo hE3
  have hX := hX.thenNo hE3
  have hb3o := hb3
  refine wl (st_st I_ok hb3 rfl rfl rfl fun w4 hb3 hE4 hs4 => ?_)
  have hb1 := hb1.ext1 hE4 ne1_3
  have hM := hM.ext1 hE4 hb3o
  have hX := hX.thenNew hE4 fr3
  have hb3 : Blk w4 b3 104 ([.map (some r6)]) := hb3
  refine wl_nil (f_then (c_seq (c_seq (c_region (wl (st_ldB I_ok hb1 rfl rfl (wl (st_call Tryz.call78 rfl rfl rfl rfl rfl rfl (objects_calls w4 (h.extNo hX)) fun v5 w5 hr5 => ?_))))))))
  obtain ⟨bo, rfl, hno, hbo, hE5⟩ := hr5
  have hb3 := hb3.extNo hE5
  have hM := hM.extNo hE5
  have hX := hX.thenNo hE5
  refine wl_nil (f_then (c_block ?_))
  have hneR : b3 ≠ r6 := fun e => hM.ne hb3 e.symm
  have hXw := hX
  have hXs := hX.size
  have hMl := hM.lt
  have hb3l := hb3.lt
  have hid := firsts_ids L
  refine c_iter (bookC w5 r6 L) (()) rfl Tryz.call105 rfl (fun _ => rfl) (fun w1 hE1 => objs1_iter w1 (hbo.extNo hE1) ((h.extNo hXw).extNo hE1)) (fun x ⟨off, e, hne⟩ => by have k := h.rowLt e hne; exact ⟨by omega, fun e => by have e : x = r6 := e; omega⟩) hM (fun l DD r k z W hRd hJ hk => ?_) (fun DD z W hJ hE hsub hDn hmk hnd => ?_) (fun DD k c z W hk hJ hE hsub hDn hmk hnd => ?_)
  · have hLr := hRd.l
    have hM : MapB W r6 objV (bookOf ((firsts L).take k)) := hJ
    have hWX := hRd.X
    have hb3 := hb3.ext hWX fun e => hneR e
    have hneL := (hRd.fp r6 rfl).1
    obtain ⟨H, hH⟩ : ∃ H, H = (firsts L)[k] := ⟨_, rfl⟩
    have hHg : (firsts L).getD k hZ = H := by rw [hH]; simp [hk]
    rw [show heldA (firsts L) k = #[idV H.id, .agg (objC H.o H.a).toArray] from by rw [heldA, hHg]]
    have hHi : HeldIn w H := h.ins H (by rw [hH]; exact firsts_sub _ _ (List.getElem_mem hk))
    have hst := bookOf_step hid hk
    rw [← hH] at hst
    have hX : Ext (fun x => One r6 x ∨ x = l) W W := Ext.refl _ _
    refine ci_seq (ci_region (wli (.round _) rfl (st_al I_ok rfl fun b4 w6 hn4 hb4 hE6 => ?_)))
    have ne3_4 : b3 ≠ b4 := Nat.ne_of_lt (Nat.lt_of_lt_of_le hb3.lt hn4)
    have fr4 := Nat.le_trans hX.size hn4
    have hb3 := hb3.extNo hE6
    have hM := hM.extNo hE6
    have hLr := hl_ext hLr hE6 id
    have hX := hX.thenNo hE6
    have nl4 := hb4.neL hLr
    have hb4o := hb4
    refine wli (.round _) rfl (st_stW (l' := bytesU H.id) I_ok hb4 rfl rfl (IdIn.len hHi.id) (by rw [bytesU_len, hHi.id]; rfl) OneC.h fun w7 hb4 hE7 hs7 => ?_)
    have hb3 := hb3.ext1 hE7 ne3_4
    have hM := hM.ext1 hE7 hb4o
    have hLr := hl_ext hLr hE7 nl4.symm
    have hX := hX.thenNew hE7 fr4
    refine wli_nil (fi_then (ci_region (wli (.round _) rfl (st_al I_ok rfl fun b5 w8 hn5 hb5 hE8 => ?_))))
    have ne3_5 : b3 ≠ b5 := Nat.ne_of_lt (Nat.lt_of_lt_of_le hb3.lt hn5)
    have ne4_5 : b4 ≠ b5 := Nat.ne_of_lt (Nat.lt_of_lt_of_le hb4.lt hn5)
    have fr5 := Nat.le_trans hX.size hn5
    have hb3 := hb3.extNo hE8
    have hb4 := hb4.extNo hE8
    have hM := hM.extNo hE8
    have hLr := hl_ext hLr hE8 id
    have hX := hX.thenNo hE8
    have nl5 := hb5.neL hLr
    have hb5o := hb5
    refine wli (.round _) rfl (st_stW (l' := objC H.o H.a) I_ok hb5 rfl rfl (objC_len hHi.o) (by rw [objC_len hHi.o]; rfl) OneC.h fun w9 hb5 hE9 hs9 => ?_)
    have hb3 := hb3.ext1 hE9 ne3_5
    have hb4 := hb4.ext1 hE9 ne4_5
    have hM := hM.ext1 hE9 hb5o
    have hLr := hl_ext hLr hE9 nl5.symm
    have hX := hX.thenNew hE9 fr5
    refine wli_nil (fin_begin hRd hLr fun w10 hE10 hL10 => ?_)
    have hb3 := hb3.extL hLr hE10
    have hb4 := hb4.extL hLr hE10
    have hb5 := hb5.extL hLr hE10
    have hM := hM.ext hE10 fun e => hneL e
    have hLr := hL10
    have hX := hX.then (hE10.mono fun x _ e => .inr e)
    refine ci_block (ci_region (wli (.round _) rfl (st_ldb I_ok hb3 rfl rfl (wli (.round _) rfl (st_ldB I_ok hb4 rfl (IdIn.len hHi.id) (wli (.round _) rfl (st_ldB I_ok hb5 rfl (objC_len hHi.o) ?_)))))))
    refine wli (.round _) rfl (st_mu I_ok rfl idK hHi.id rfl hM (b := (H.o, H.a)) rfl fun w11 hM2 hE11 hs11 => ?_)
    rw [hst] at hM2
    have hX := hX.then (hE11.mono fun _ _ e => .inl e)
    have hLr := hl_ext hLr hE11 fun e => hneL e.symm
    refine wli_nil ?_
    exact f_blockN (fin_next (()) hRd hLr hX (fun x hx => .inl hx) (hM2))
  · have hM : MapB W r6 objV (bookOf ((firsts L).take (firsts L).length)) := hJ
    rw [List.take_length, bookOf_firsts] at hM
    have hb3 := hb3.ext hE fun e => hneR e
    have hX : Ext No w W := hXw.trans hE fun x hx e => by have e : x = r6 := e; omega
    refine f_blockN (f_then (c_seq (c_region (wl (st_ldb I_ok hb3 rfl rfl (wl_p I_ok rfl (wl_nil (f_then (c_ret (f_retMs [DD] (by simp) (fun x hx => by rw [List.mem_singleton.1 hx]; exact hmk) [.map (some r6)] (fun w20 hE20 => ?_) (.inl rfl)))))))))))
    refine ⟨⟨rfl, trivial⟩, r6, rfl, hr6w, hM.ext hE20 fun e => ?_, hX.trans hE20 fun x hx e => ?_⟩
    · have e : r6 = DD := List.mem_singleton.1 e
      exact hnd r6 rfl e
    · have e : x = DD := List.mem_singleton.1 e
      omega
  · exact hJ.elim
end Go.Proofs.YtpcdihkcenfgkaaGreat
namespace Go.Proofs.YtpcdihkcenfgkaaGreat
open Go.Vc
/-- a heap and its book -/
structure BkIn (w : World) (p : Option Addr) (l : List HeldT) (r : Nat) : Prop where
  h : HpIn w p l
  m : MapB w r objV (bookOf l)
theorem BkIn.extNo {w w' : World} {p : Option Addr} {l : List HeldT} {r : Nat} (h : BkIn w p l r) (hE : Ext No w w') : BkIn w' p l r := ⟨h.h.extNo hE, h.m.extNo hE⟩
theorem book_get (l : List HeldT) (x : IdB) : (toHp l).get x = (bookOf l x).map Prod.fst := by
  rw [get_find, bookOf, Option.map_map]
  rfl
theorem book_ptr (l : List HeldT) (x : IdB) : objP l x = match bookOf l x with | none => noP | some y => if ObjOk y.1 then y.2 else noP := by
  unfold objP bookOf
  cases l.find? fun h => decide (h.id = x) <;> rfl
theorem objZ_v : ti48.zero = objV (objZ, noP) := by kernel_rfl
theorem book_tell (l : List HeldT) (x : IdB) : tell objV ti48.zero (bookOf l x) = objV ((bookOf l x).getD (objZ, noP)) := by
  rw [objZ_v]
  cases bookOf l x <;> rfl
theorem HpIn.bookIn {w : World} {p : Option Addr} {l : List HeldT} (h : HpIn w p l) (x : IdB) : ObjIn ((bookOf l x).getD (objZ, noP)).1 ∧ Short ((bookOf l x).getD (objZ, noP)).1 ∧ ObjL w ((bookOf l x).getD (objZ, noP)).1 ((bookOf l x).getD (objZ, noP)).2 := by
  unfold bookOf
  cases hf : l.find? fun h => decide (h.id = x) with
  | none => exact ⟨objZ_in, objZ_sh, objZ_l w⟩
  | some y =>
    have := h.ins y (List.mem_of_find?_eq_some hf)
    exact ⟨this.o, this.sh, this.l⟩
theorem getB_calls (w : World) {p : Option Addr} {r : Nat} {l : List HeldT} {x : IdB} (hB : BkIn w p l r) (hx : IdIn x) :
    CallsV Tryz.prog 54 [.map (some r), idV x] w fun v w' => v = .tuple #[.agg (objC ((toHp l).obj x) (objP l x)).toArray, .int .i64 ((toHp l).err x)] ∧ Ext No w w' := by
  obtain ⟨hoi, hos, hol⟩ := hB.h.bookIn x
  have hbt := book_tell l x
  have hbg := book_get l x
  have hbp := book_ptr l x
  obtain ⟨⟨o, a⟩, hoa⟩ : ∃ y, y = (bookOf l x).getD (objZ, noP) := ⟨_, rfl⟩
  rw [← hoa] at hoi hos hol hbt
  dsimp only at hoi hos hol hbt
  refine calls_enter Tryz.func54 rfl rfl rfl rfl ?_
  have hX := Ext.refl No w
  refine c_seq (c_region (wl (st_al I_ok rfl fun b3 w1 hn3 hb3 hE1 => ?_)))
  have hX := hX.thenNo hE1
  have hb3 : Blk w1 b3 31 (bytesU x) := hb3
  refine wl (st_al I_ok rfl fun b4 w2 hn4 hb4 hE2 => ?_)
  have fr4 := Nat.le_trans hX.size hn4
  have hb3 := hb3.extNo hE2
  have hX := hX.thenNo hE2
  refine wl_p I_ok rfl (wl_nil (f_then (c_seq (c_region (wl_p I_ok rfl (wl (st_ldB I_ok hb3 rfl hx.len (wl (st_lu I_ok rfl idK hx rfl (hB.extNo hX).m ?_)))))))))
  simp only [if_true]
  rw [hbt]
  refine wl_p I_ok rfl (wl (st_al I_ok rfl fun b6 w3 hn6 hb6 hE3 => ?_))
  have ne4_6 : b4 ≠ b6 := Nat.ne_of_lt (Nat.lt_of_lt_of_le hb4.lt hn6)
  have fr6 := Nat.le_trans hX.size hn6
  have hb4 := hb4.extNo hE3
  have hX := hX.thenNo hE3
  refine wl (st_stW (l' := objC o a) I_ok hb6 rfl rfl (objC_len hoi) (by rw [objC_len hoi]; rfl) OneC.h fun w4 hb6 hE4 hs4 => ?_)
  have hb4 := hb4.ext1 hE4 ne4_6
  have hX := hX.thenNew hE4 fr6
  refine wl_p I_ok rfl (wl_nil (f_then (c_seq (c_block (c_seq (c_region (wl_p I_ok rfl (wl_nil (f_then (c_cond rfl (fun hc => ?_) (fun hc => ?_)))))))))))
  · have hn : bookOf l x = none := by simpa using hc
    rw [hn] at hbg hbp
    obtain ⟨e1, e2⟩ := Hp.err_no hbg
    refine c_seq (c_region (wl (st_bd I_ok rfl trivial (l' := objC objZ noP) objZ_c.symm (wl (st_stW (l' := objC objZ noP) I_ok hb4 rfl rfl rfl rfl OneC.h fun w5 hb4 hE5 hs5 => ?_)))))
    have hX := hX.thenNew hE5 fr4
    refine wl_p I_ok rfl (wl_nil (f_then (c_ret (f_blockR (f_thenR (f_ret [_, _] ⟨⟨b4, 0, rfl, ld_all I_ok rfl rfl hb4.seg rfl⟩, rfl, trivial⟩ ?_))))))
    exact ⟨by rw [e1, e2, hbp]; rfl, hX⟩
  · obtain ⟨y, hy⟩ : ∃ y, bookOf l x = some y := Option.isSome_iff_exists.1 (by simpa using hc)
    rw [hy] at hoa hbg hbp
    obtain rfl : (o, a) = y := hoa
    obtain ⟨e1, e2⟩ := Hp.err_at hbg
    dsimp only at hbp
    refine c_seq (c_region (wl (st_ldB I_ok hb6 rfl (objC_len hoi) (wl (st_call Tryz.call57 rfl rfl rfl rfl rfl rfl (checkObj_calls w4 hoi (hol.extNo hX) hos) fun v6 w6 hr6 => ?_)))))
    obtain ⟨rfl, hE6⟩ := hr6
    have hb4 := hb4.extNo hE6
    have hb6 := hb6.extNo hE6
    have hX := hX.thenNo hE6
    refine wl_p I_ok rfl (wl_nil (f_then (c_if rfl (fun hc => ?_) (fun hc => ?_))))
    · have hk : ¬ ObjOk o := fun h => hc (if_pos h)
      obtain ⟨e1, e2⟩ := e2 hk
      rw [if_neg hk] at hbp
      refine c_seq (c_region (wl (st_bd I_ok rfl trivial (l' := objC objZ noP) objZ_c.symm (wl (st_stW (l' := objC objZ noP) I_ok hb4 rfl rfl rfl rfl OneC.h fun w7 hb4 hE7 hs7 => ?_)))))
      have hX := hX.thenNew hE7 fr4
      refine wl_p I_ok rfl (wl_nil (f_then (c_ret (f_blockR (f_thenR (f_ret [_, _] ⟨⟨b4, 0, rfl, ld_all I_ok rfl rfl hb4.seg rfl⟩, rfl, trivial⟩ ?_))))))
      exact ⟨by rw [e1, e2, hbp]; rfl, hX⟩
    · have hk : ObjOk o := (if_zero (by decide)).1 (Decidable.not_not.1 hc)
      obtain ⟨e1, e2⟩ := e1 hk
      rw [if_pos hk] at hbp
      refine c_skip (f_blockN (f_then (c_seq (c_region (wl (st_ldB I_ok hb6 rfl (objC_len hoi) (wl (st_stW (l' := objC o a) I_ok hb4 rfl rfl (objC_len hoi) (by rw [objC_len hoi]; rfl) OneC.h fun w8 hb4 hE8 hs8 => ?_))))))))
      have hX := hX.thenNew hE8 fr4
      refine wl_p I_ok rfl (wl_nil (f_then (c_ret (f_ret [_, _] ⟨⟨b4, 0, rfl, ld_all I_ok rfl rfl hb4.seg (by rw [objC_len hoi]; rfl)⟩, rfl, trivial⟩ ?_))))
      exact ⟨by rw [e1, e2, hbp]; rfl, hX⟩

theorem kindB_calls (w : World) {p : Option Addr} {r : Nat} {l : List HeldT} {x : IdB} (hB : BkIn w p l r) (hx : IdIn x) (kd : Int) :
    CallsV Tryz.prog 79 [.map (some r), idV x, .int .i64 kd] w fun v w' => v = .tuple #[.agg (objC ((toHp l).kObj x kd) (kObjP l x kd)).toArray, .int .i64 ((toHp l).kErr x kd)] ∧ Ext No w w' := by
  have h := hB.h
  refine calls_enter Tryz.func79 rfl rfl rfl rfl ?_
  have hX := Ext.refl No w
  refine c_seq (c_region (wl (st_al I_ok rfl fun b4 w1 hn4 hb4 hE1 => ?_)))
  have hX := hX.thenNo hE1
  have hb4 : Blk w1 b4 31 (bytesU x) := hb4
  refine wl (st_al I_ok rfl fun b6 w2 hn6 hb6 hE2 => ?_)
  have fr6 := Nat.le_trans hX.size hn6
  have hb4 := hb4.extNo hE2
  have hX := hX.thenNo hE2
  refine wl_p I_ok rfl (wl_nil (f_then (c_seq (c_region (wl_p I_ok rfl (wl (st_ldB I_ok hb4 rfl hx.len (wl (st_call Tryz.call54 rfl rfl rfl rfl rfl rfl (getB_calls w2 (hB.extNo hX) hx) fun v3 w3 hr3 => ?_)))))))))
  obtain ⟨rfl, hE3⟩ := hr3
  have hb6 := hb6.extNo hE3
  have hX := hX.thenNo hE3
  refine wl_p I_ok rfl (wl (st_al I_ok rfl fun b8 w4 hn8 hb8 hE4 => ?_))
  have ne6_8 : b6 ≠ b8 := Nat.ne_of_lt (Nat.lt_of_lt_of_le hb6.lt hn8)
  have fr8 := Nat.le_trans hX.size hn8
  have hb6 := hb6.extNo hE4
  have hX := hX.thenNo hE4
  refine wl (st_stW (l' := objC ((toHp l).obj x) (objP l x)) I_ok hb8 rfl rfl (objC_len (h.objIn x)) (by rw [objC_len (h.objIn x)]; rfl) OneC.h fun w5 hb8 hE5 hs5 => ?_)
  have hb6 := hb6.ext1 hE5 ne6_8
  have hX := hX.thenNew hE5 fr8
  refine wl_p I_ok rfl (wl_nil (f_then (c_seq (c_cutK (α := Bool) [6, 8, 9] rfl (fun z => [(23, .bool z)]) (fun z u => u = w5 ∧ z = decide ((toHp l).err x = 0 ∧ ((toHp l).obj x).kind ≠ kd)) ?_ ?_))))
  · refine c_region ?_
    refine wl_p I_ok rfl (wl_caseD 18 rfl (fun hg => ?_) (fun hg => ?_))
    · refine wl_pk I_ok 1 rfl ?_
      refine wl (st_ld I_ok rfl (hb8.seg.obj (h.objIn x)).kind (wl_pk I_ok 3 rfl (wl_nil ?_)))
      exact f_cut (_) rfl ⟨rfl, by rw [decide_eq_decide]; exact ⟨fun k => ⟨hg, k⟩, fun k => k.2⟩⟩
    · refine wl_pk I_ok 5 rfl ?_
      refine wl_nil ?_
      exact f_cut (false) rfl ⟨rfl, by symm; rw [decide_eq_false_iff_not]; exact fun k => hg k.1⟩
  rintro z w6 ⟨hu, rfl⟩
  have hu := hu.symm
  subst hu
  refine c_if rfl (fun hc => ?_) (fun hc => ?_)
  · have e1 : (toHp l).kErr x kd = 160 := if_pos hc
    have e2 : (toHp l).kObj x kd = objZ := if_pos hc
    have e3 : kObjP l x kd = noP := if_pos hc
    refine c_seq (c_region (wl (st_bd I_ok rfl trivial (l' := objC objZ noP) objZ_c.symm (wl (st_stW (l' := objC objZ noP) I_ok hb6 rfl rfl rfl rfl OneC.h fun w7 hb6 hE7 hs7 => ?_)))))
    have hX := hX.thenNew hE7 fr6
    refine wl_p I_ok rfl (wl_nil (f_then (c_ret (f_thenR (f_ret [_, _] ⟨⟨b6, 0, rfl, ld_all I_ok rfl rfl hb6.seg rfl⟩, rfl, trivial⟩ ?_)))))
    exact ⟨by rw [e1, e2, e3]; rfl, hX⟩
  · have e1 : (toHp l).kErr x kd = (toHp l).err x := if_neg hc
    have e2 : (toHp l).kObj x kd = (toHp l).obj x := if_neg hc
    have e3 : kObjP l x kd = objP l x := if_neg hc
    refine c_skip (f_then (c_seq (c_region (wl (st_ldB I_ok hb8 rfl (objC_len (h.objIn x)) (wl_p I_ok rfl ?_))))))
    refine wl (st_stW (l' := objC ((toHp l).obj x) (objP l x)) I_ok hb6 rfl rfl (objC_len (h.objIn x)) (by rw [objC_len (h.objIn x)]; rfl) OneC.h fun w8 hb6 hE8 hs8 => ?_)
    have hX := hX.thenNew hE8 fr6
    refine wl_p I_ok rfl (wl_nil (f_then (c_ret (f_ret [_, _] ⟨⟨b6, 0, rfl, ld_all I_ok rfl rfl hb6.seg (by rw [objC_len (h.objIn x)]; rfl)⟩, rfl, trivial⟩ ?_))))
    exact ⟨by rw [e1, e2, e3]; rfl, hX⟩

theorem textsB_calls (w : World) {p : Option Addr} {r : Nat} {l : List HeldT} {x : IdB} (hB : BkIn w p l r) (hx : IdIn x) :
    CallsV Tryz.prog 80 [.map (some r), idV x] w fun v w' => ∃ q k, v = .tuple #[.agg #[.slice q ((toHp l).map x).length k], .int .i64 ((toHp l).mapE x)] ∧ Own w' q ((toHp l).map x).length k 73 2 (((toHp l).map x).flatMap RowD.cells) ∧ (∀ y, OwnB q y → w.heap.size ≤ y) ∧ Ext No w w' := by
  have h := hB.h
  have hoi := h.kIn x 2
  have hol := h.kObjL x 2
  have hll := (h.kSh x 2).leaves
  refine calls_enter Tryz.func80 rfl rfl rfl rfl ?_
  have hX := Ext.refl No w
  refine c_seq (c_region (wl (st_al I_ok rfl fun b3 w1 hn3 hb3 hE1 => ?_)))
  have hX := hX.thenNo hE1
  have hb3 : Blk w1 b3 31 (bytesU x) := hb3
  refine wl (st_al I_ok rfl fun b4 w2 hn4 hb4 hE2 => ?_)
  have fr4 := Nat.le_trans hX.size hn4
  have hb3 := hb3.extNo hE2
  have hX := hX.thenNo hE2
  refine wl_p I_ok rfl (wl_nil (f_then (c_seq (c_region (wl_p I_ok rfl (wl (st_ldB I_ok hb3 rfl hx.len (wl (st_call Tryz.call79 rfl rfl rfl rfl rfl rfl (kindB_calls w2 (hB.extNo hX) hx 2) fun v3 w3 hr3 => ?_)))))))))
  obtain ⟨rfl, hE3⟩ := hr3
  have hb3 := hb3.extNo hE3
  have hb4 := hb4.extNo hE3
  have hX := hX.thenNo hE3
  refine wl_p I_ok rfl (wl (st_al I_ok rfl fun b6 w4 hn6 hb6 hE4 => ?_))
  have ne3_6 : b3 ≠ b6 := Nat.ne_of_lt (Nat.lt_of_lt_of_le hb3.lt hn6)
  have ne4_6 : b4 ≠ b6 := Nat.ne_of_lt (Nat.lt_of_lt_of_le hb4.lt hn6)
  have fr6 := Nat.le_trans hX.size hn6
  have hb3 := hb3.extNo hE4
  have hb4 := hb4.extNo hE4
  have hX := hX.thenNo hE4
  refine wl (st_stW (l' := objC ((toHp l).kObj x 2) (kObjP l x 2)) I_ok hb6 rfl rfl (objC_len hoi) (by rw [objC_len hoi]; rfl) OneC.h fun w5 hb6 hE5 hs5 => ?_)
  have hb3 := hb3.ext1 hE5 ne3_6
  have hb4 := hb4.ext1 hE5 ne4_6
  have hX := hX.thenNew hE5 fr6
  refine wl_p I_ok rfl (wl_nil (f_then (c_seq (c_seq (c_region (wl_p I_ok rfl (wl_nil (f_then (c_if rfl (fun hc => ?_) (fun hc => ?_))))))))))
  · have hE : (toHp l).mapE x = (toHp l).kErr x 2 := if_pos hc
    have hM := Hp.map_no hE hc
    refine c_seq (c_region (wl (st_bd I_ok rfl trivial (l' := [.slice none 0 0]) rfl (wl_p I_ok rfl (wl (st_stW (l' := [.slice none 0 0]) I_ok hb4 rfl rfl rfl rfl OneC.h fun w6 hb4 hE6 hs6 => ?_))))))
    have hX := hX.thenNew hE6 fr4
    refine wl_p I_ok rfl (wl_nil (f_then (c_ret (f_thenR (f_ret [_, _] ⟨⟨b4, 0, rfl, ld_all I_ok rfl rfl hb4.seg rfl⟩, rfl, trivial⟩ ?_)))))
    exact ⟨none, 0, by rw [hE, hM]; rfl, by rw [hM]; exact Own.nil _ _ _, noOwn, hX⟩
  · have hk0 : (toHp l).kErr x 2 = 0 := Decidable.not_not.1 hc
    have hE : (toHp l).mapE x = (toHp l).txErr ((toHp l).kObj x 2).leaves := if_neg hc
    refine c_skip (f_then (c_seq (c_region (wl (st_al I_ok rfl fun b8 w7 hn8 hb8 hE7 => ?_)))))
    have ne3_8 : b3 ≠ b8 := Nat.ne_of_lt (Nat.lt_of_lt_of_le hb3.lt hn8)
    have ne4_8 : b4 ≠ b8 := Nat.ne_of_lt (Nat.lt_of_lt_of_le hb4.lt hn8)
    have fr8 := Nat.le_trans hX.size hn8
    have hb3 := hb3.extNo hE7
    have hb4 := hb4.extNo hE7
    have hb6 := hb6.extNo hE7
    have hX := hX.thenNo hE7
    have hb8 : Blk w7 b8 76 ([.slice none 0 0]) := hb8
    refine wl_nil (f_then (c_seq (c_seq (c_region (wl_p I_ok rfl (wl (st_ld I_ok rfl (hb6.seg.obj hoi).leaves (wl_p I_ok rfl (wl_nil (f_then (c_block ?_)))))))))))
    refine c_loopK (α := Nat × Option Addr × Nat) [0, 4, 8, 24, 25] rfl (fun z => [(26, .int .i64 (z.1 : Int))]) (fun z u => (z.1 ≤ ((toHp l).kObj x 2).leaves.length ∧ (∀ y ∈ ((toHp l).kObj x 2).leaves.take z.1, (toHp l).kErr y.id 1 = 0) ∧ Own u z.2.1 ((toHp l).rowsOf (((toHp l).kObj x 2).leaves.take z.1)).length z.2.2 73 2 (((toHp l).rowsOf (((toHp l).kObj x 2).leaves.take z.1)).flatMap RowD.cells) ∧ (∀ y, OwnB z.2.1 y → w.heap.size ≤ y)) ∧ Blk u b3 31 (bytesU x) ∧ Blk u b4 76 (cellsOf ti76.zero) ∧ Blk u b8 76 ([.slice z.2.1 ((toHp l).rowsOf (((toHp l).kObj x 2).leaves.take z.1)).length z.2.2]) ∧ Ext No w u) (fun z u => ((toHp l).kObj x 2).leaves.length - z.1) (0, none, 0) rfl ⟨⟨Nat.zero_le _, fun _ h => by simp at h, Own.nil _ _ _, noOwn⟩, hb3, hb4, hb8, hX⟩ ?_
    rintro ⟨i, q, k⟩ w8 ⟨⟨hi, hok, hq, hqn⟩, hb3, hb4, hb8, hX⟩
    try dsimp only
    dsimp only at hi hok hq hqn
    refine c_seq (c_region (wl_p I_ok rfl (wl_nil (f_then (c_seq (c_if rfl (fun hc => ?_) (fun hc => ?_)))))))
    · have hi : i < ((toHp l).kObj x 2).leaves.length := by omega
      obtain ⟨qb, qoff, hp, hsq⟩ := hol.leaves.rowAll (fun r hr => LeafD.len (hoi.leaves r hr).2) (by omega)
      rw [hp]
      have ha1 := hoi.leaves _ (List.getElem_mem hi)
      have hrl := rowsOf_len (toHp l) (((toHp l).kObj x 2).leaves.take i)
      rw [List.length_take] at hrl
      have hq0 := hq
      refine c_skip (f_then (c_seq (c_block (c_seq (c_region (wl (st_ix I_ok rfl 33 rfl i rfl (by omega) (qoff + i * 33) rfl (wl (st_ldN I_ok rfl ((hsq i hi).extNo hX) (LeafD.len ha1.2) (wl (st_al I_ok rfl fun b10 w9 hn10 hb10 hE9 => ?_)))))))))))
      have ne3_10 : b3 ≠ b10 := Nat.ne_of_lt (Nat.lt_of_lt_of_le hb3.lt hn10)
      have ne4_10 : b4 ≠ b10 := Nat.ne_of_lt (Nat.lt_of_lt_of_le hb4.lt hn10)
      have ne8_10 : b8 ≠ b10 := Nat.ne_of_lt (Nat.lt_of_lt_of_le hb8.lt hn10)
      have fr10 := Nat.le_trans hX.size hn10
      have hb3 := hb3.extNo hE9
      have hb4 := hb4.extNo hE9
      have hb8 := hb8.extNo hE9
      have hq := hq.ext hE9 fun _ _ => id
      have hX := hX.thenNo hE9
      have hb10o := hb10
      refine wl (st_stW (l' := (((toHp l).kObj x 2).leaves[i]).cells) I_ok hb10 rfl rfl (LeafD.len ha1.2) (LeafD.len ha1.2) OneC.h fun w10 hb10 hE10 hs10 => ?_)
      have hb3 := hb3.ext1 hE10 ne3_10
      have hb4 := hb4.ext1 hE10 ne4_10
      have hb8 := hb8.ext1 hE10 ne8_10
      have hq := hq.extTy hE10 hb10o (by decide)
      have hX := hX.thenNew hE10 fr10
      refine wl_nil (f_then (c_seq (c_region (wl_p I_ok rfl (wl (st_ldN I_ok rfl (by have := hb10.seg.drop 1; exact this) (IdIn.len ha1.2) ?_))))))
      refine wl (st_call Tryz.call79 rfl rfl rfl rfl rfl rfl (kindB_calls w10 (hB.extNo hX) ha1.2 1) fun v11 w11 hr11 => ?_)
      obtain ⟨rfl, hE11⟩ := hr11
      have hb3 := hb3.extNo hE11
      have hb4 := hb4.extNo hE11
      have hb8 := hb8.extNo hE11
      have hb10 := hb10.extNo hE11
      have hq := hq.ext hE11 fun _ _ => id
      have hX := hX.thenNo hE11
      refine wl_p I_ok rfl (wl (st_al I_ok rfl fun b11 w12 hn11 hb11 hE12 => ?_))
      have ne3_11 : b3 ≠ b11 := Nat.ne_of_lt (Nat.lt_of_lt_of_le hb3.lt hn11)
      have ne4_11 : b4 ≠ b11 := Nat.ne_of_lt (Nat.lt_of_lt_of_le hb4.lt hn11)
      have ne8_11 : b8 ≠ b11 := Nat.ne_of_lt (Nat.lt_of_lt_of_le hb8.lt hn11)
      have ne10_11 : b10 ≠ b11 := Nat.ne_of_lt (Nat.lt_of_lt_of_le hb10.lt hn11)
      have fr11 := Nat.le_trans hX.size hn11
      have hb3 := hb3.extNo hE12
      have hb4 := hb4.extNo hE12
      have hb8 := hb8.extNo hE12
      have hb10 := hb10.extNo hE12
      have hq := hq.ext hE12 fun _ _ => id
      have hX := hX.thenNo hE12
      have hb11o := hb11
      refine wl (st_stW (l' := objC ((toHp l).kObj (((toHp l).kObj x 2).leaves[i]).id 1) (kObjP l (((toHp l).kObj x 2).leaves[i]).id 1)) I_ok hb11 rfl rfl (objC_len (h.kIn _ 1)) (by rw [objC_len (h.kIn _ 1)]; rfl) OneC.h fun w13 hb11 hE13 hs13 => ?_)
      have hb3 := hb3.ext1 hE13 ne3_11
      have hb4 := hb4.ext1 hE13 ne4_11
      have hb8 := hb8.ext1 hE13 ne8_11
      have hb10 := hb10.ext1 hE13 ne10_11
      have hq := hq.extTy hE13 hb11o (by decide)
      have hX := hX.thenNew hE13 fr11
      refine wl_p I_ok rfl (wl_nil (f_then (c_seq (c_seq (c_region (wl_p I_ok rfl (wl_nil (f_then (c_if rfl (fun hc => ?_) (fun hc => ?_))))))))))
      · have hE1 := hE.trans (Hp.txErr_bad hi hok hc)
        have hM := Hp.map_no hE1 hc
        refine c_seq (c_region (wl (st_bd I_ok rfl trivial (l' := [.slice none 0 0]) rfl (wl_p I_ok rfl ?_))))
        refine wl (st_stW (l' := [.slice none 0 0]) I_ok hb4 rfl rfl rfl rfl OneC.h fun w14 hb4 hE14 hs14 => ?_)
        have hX := hX.thenNew hE14 fr4
        refine wl_p I_ok rfl (wl_nil (f_then (c_ret (f_thenR (f_blockR (f_thenR (f_thenR (f_blockR (f_thenR (f_ret [_, _] ⟨⟨b4, 0, rfl, ld_all I_ok rfl rfl hb4.seg rfl⟩, rfl, trivial⟩ ?_))))))))))
        exact ⟨none, 0, by rw [hE1, hM]; rfl, by rw [hM]; exact Own.nil _ _ _, noOwn, hX⟩
      · have hk1 : (toHp l).kErr (((toHp l).kObj x 2).leaves[i]).id 1 = 0 := Decidable.not_not.1 hc
        refine c_skip (f_then (c_region (wl_p I_ok rfl (wl (st_ldb I_ok hb8 rfl rfl (wl_p I_ok rfl (wl (st_ldb I_ok hb10 rfl rfl (wl_p I_ok rfl (wl (st_ld I_ok rfl (hb11.seg.obj (h.kIn _ 1)).text ?_)))))))))))
        refine wl (st_bd I_ok rfl ⟨⟨rfl, by decide⟩, ⟨rfl, by decide⟩, trivial⟩ (l' := (row8 l ((toHp l).kObj x 2).leaves[i]).cells) (by rw [rowZ_c]; rfl) ?_)
        refine wl (st_bs I_ok rfl 2 rfl rowZ_c rfl (by decide) (by decide) ⟨⟨rfl, by decide⟩, trivial⟩ (l' := (row8 l ((toHp l).kObj x 2).leaves[i]).cells) rfl fun b48 w15 hn48 hb48 hE15 hs15 => ?_)
        have hb3 := hb3.extNo hE15
        have hb4 := hb4.extNo hE15
        have hb8 := hb8.extNo hE15
        have hq := hq.ext hE15 fun _ _ => id
        have hX := hX.thenNo hE15
        have hX1 := hX
        have hs48 : Sl w15 (some ⟨b48, 0, none⟩) 1 2 (row8 l ((toHp l).kObj x 2).leaves[i]).cells := ⟨RowD.len _, .inr ⟨b48, 0, rfl, hb48.seg⟩⟩
        have hrm : ((toHp l).rowsOf (((toHp l).kObj x 2).leaves.take i)).length + 1 ≤ maxLen := room_ml (by rw [hrl]; exact Nat.le_trans (Nat.min_le_right _ _) (Nat.le_of_lt hll))
        have hrm2 : (((toHp l).rowsOf (((toHp l).kObj x 2).leaves.take i)).length + 1) * 32 ≤ 140737488355328 := room_by (by rw [hrl]; exact Nat.le_trans (Nat.min_le_right _ _) (Nat.le_of_lt hll))
        refine wl (st_app I_ok rfl 2 32 rfl rfl rfl (by decide) hq (Src.slice (m := 1) hs48 OneC.h) hrm hrm2 fun p16 c16 w16 ho16 hE16 hB16 => ?_)
        dsimp only at ho16 hE16 hB16 ⊢
        have hX := hX1.trans hE16 fun y hy hF => by have := hqn y hF; omega
        have hb3 := hb3.extOwn hq hE16 (by decide)
        have hb4 := hb4.extOwn hq hE16 (by decide)
        have hb8 := hb8.extOwn hq hE16 (by decide)
        have hsz1 := hX1.size
        obtain ⟨q2, k2, e1, e2, hq2⟩ : ∃ q2 k2, q2 = p16 ∧ k2 = c16 ∧ Own w16 q2 ((toHp l).rowsOf (((toHp l).kObj x 2).leaves.take (i + 1))).length k2 73 2 (((toHp l).rowsOf (((toHp l).kObj x 2).leaves.take (i + 1))).flatMap RowD.cells) := ⟨_, _, rfl, rfl, by
          rw [rowsOf_take hi, List.flatMap_append, List.length_append]
          simpa using ho16⟩
        rw [← e1] at hB16
        rw [← e1, ← e2]
        have hqn2 : (∀ y, OwnB q2 y → w.heap.size ≤ y) := fun x hx => (hB16 x hx).elim (fun h => hqn x h) fun h => by omega
        refine wl_p I_ok rfl ?_
        have hb8o := hb8
        refine wl (st_st I_ok hb8 rfl rfl rfl fun w17 hb8 hE17 hs17 => ?_)
        have hb3 := hb3.ext1 hE17 ne3_8
        have hb4 := hb4.ext1 hE17 ne4_8
        have hq2 := hq2.extTy hE17 hb8o (by decide)
        have hX := hX.thenNew hE17 fr8
        have hb8 : Blk w17 b8 76 ([.slice q2 ((toHp l).rowsOf (((toHp l).kObj x 2).leaves.take (i + 1))).length k2]) := (by
          rw [rowsOf_take hi, List.length_append]
          exact hb8)
        refine wl_nil (f_blockN (f_then (c_region (wl_p I_ok rfl ?_))))
        rw [IntWalk.i64_in _ (by omega)]
        refine wl_nil ?_
        exact f_round (i + 1, q2, k2) rfl ⟨⟨hi, fun y hy => by rw [List.take_succ_eq_append_getElem hi] at hy; rcases List.mem_append.1 hy with hy | hy; exact hok y hy; rw [List.mem_singleton.1 hy]; exact hk1, hq2, hqn2⟩, hb3, hb4, hb8, hX⟩ (by first | omega | (dsimp only; omega))
    · have h0 : i = ((toHp l).kObj x 2).leaves.length := by omega
      subst h0
      rw [List.take_length] at hok hq hb8
      have hE0 := hE.trans (Hp.txErr_ok hok)
      have hM := Hp.map_ok hE0
      refine c_exit (f_thenE (f_thenE (f_blockE (f_then (c_seq (c_region (wl (st_ldB I_ok hb8 rfl rfl ?_))))))))
      have hb4o := hb4
      refine wl (st_stW (l' := [.slice q ((toHp l).rowsOf ((toHp l).kObj x 2).leaves).length k]) I_ok hb4 rfl rfl rfl rfl OneC.h fun w18 hb4 hE18 hs18 => ?_)
      have hq := hq.extTy hE18 hb4o (by decide)
      have hX := hX.thenNew hE18 fr4
      refine wl_p I_ok rfl (wl_nil (f_then (c_ret (f_ret [_, _] ⟨⟨b4, 0, rfl, ld_all I_ok rfl rfl hb4.seg rfl⟩, rfl, trivial⟩ ?_))))
      exact ⟨q, k, by rw [hE0, hM]; rfl, by rw [hM]; exact hq, hqn, hX⟩
end Go.Proofs.YtpcdihkcenfgkaaGreat
namespace Go.Proofs.YtpcdihkcenfgkaaGreat
open Go.Vc
theorem linksB_obj (h : Hp) (x : IdB) : linksB (h.obj x) = h.links x := by
  unfold Hp.links linksB
  split
  · rfl
  · rename_i hk
    unfold Hp.obj at hk ⊢
    cases hg : h.get x with
    | none => rfl
    | some o =>
      rw [hg] at hk
      dsimp only at hk ⊢
      by_cases ho : ObjOk o
      · exact absurd (by rw [if_pos ho]; exact ho) hk
      · rw [if_neg ho]; rfl
/-- which Ids have come, and whether they are there -/
def gotF (h : Hp) (D : List IdB) : List UInt8 → Option Bool := fun y => if y ∈ D then some (decide (h.err y = 0)) else none
theorem gotF_some (h : Hp) (D : List IdB) (y : IdB) : (gotF h D y).isSome = decide (y ∈ D) := by
  unfold gotF
  by_cases hy : y ∈ D
  · rw [if_pos hy, decide_eq_true hy]; rfl
  · rw [if_neg hy, decide_eq_false hy]; rfl
theorem gotF_step (h : Hp) (D : List IdB) (y : IdB) : setM (gotF h D) y (decide (h.err y = 0)) = gotF h (D ++ [y]) := by
  funext z
  unfold setM gotF
  by_cases hz : z = y
  · subst hz; simp
  · simp [hz]
/-- the search, under way -/
structure Srch (h : Hp) (x : IdB) (D S : List IdB) : Prop where
  nd : D.Nodup
  led : ∀ y ∈ D, h.Leads x y
  stk : ∀ y ∈ S, h.Leads x y
  has : x ∈ D ∨ x ∈ S
  cl : ∀ y ∈ D, ∀ z ∈ h.links y, z ∈ D ∨ z ∈ S
theorem Srch.start (h : Hp) (x : IdB) : Srch h x [] [x] := ⟨List.nodup_nil, (fun _ hy => by cases hy), fun y hy => by rw [List.mem_singleton.1 hy]; exact .here, .inr (by simp), fun _ hy => by cases hy⟩
theorem Srch.pop {h : Hp} {x y : IdB} {D S : List IdB} (hs : Srch h x D (S ++ [y])) (hy : y ∈ D) : Srch h x D S := by
  have key : ∀ z, z ∈ D ∨ z ∈ S ++ [y] → z ∈ D ∨ z ∈ S := fun z hz => by
    rcases hz with hz | hz
    · exact .inl hz
    · rcases List.mem_append.1 hz with hz | hz
      · exact .inr hz
      · rw [List.mem_singleton.1 hz]; exact .inl hy
  exact ⟨hs.nd, hs.led, fun z hz => hs.stk z (List.mem_append_left _ hz), key x hs.has, fun u hu z hz => key z (hs.cl u hu z hz)⟩
theorem Srch.on {h : Hp} {x y : IdB} {D S : List IdB} (hs : Srch h x D (S ++ [y])) (hy : ¬ y ∈ D) : Srch h x (D ++ [y]) (S ++ h.links y) := by
  have hyl := hs.stk y (by simp)
  have key : ∀ z, z ∈ D ∨ z ∈ S ++ [y] → z ∈ D ++ [y] ∨ z ∈ S ++ h.links y := fun z hz => by
    rcases hz with hz | hz
    · exact .inl (List.mem_append_left _ hz)
    · rcases List.mem_append.1 hz with hz | hz
      · exact .inr (List.mem_append_left _ hz)
      · exact .inl (List.mem_append_right _ hz)
  refine ⟨List.nodup_append.2 ⟨hs.nd, by simp, fun a ha b hb e => ?_⟩, fun z hz => ?_, fun z hz => ?_, key x hs.has, fun u hu z hz => ?_⟩
  · rw [List.mem_singleton.1 hb] at e; exact hy (e ▸ ha)
  · rcases List.mem_append.1 hz with hz | hz
    · exact hs.led z hz
    · rw [List.mem_singleton.1 hz]; exact hyl
  · rcases List.mem_append.1 hz with hz | hz
    · exact hs.stk z (List.mem_append_left _ hz)
    · exact .on hyl hz
  · rcases List.mem_append.1 hu with hu | hu
    · exact key z (hs.cl u hu z hz)
    · rw [List.mem_singleton.1 hu] at hz; exact .inr (List.mem_append_right _ hz)
theorem Srch.len {h : Hp} {x : IdB} {D S : List IdB} (hs : Srch h x D S) : D.length ≤ (h.all x).length := sub_len hs.nd fun y hy => (hs.led y hy).all
theorem Srch.done {h : Hp} {x : IdB} {D : List IdB} (hs : Srch h x D []) : ∀ y, y ∈ D ↔ h.Leads x y := fun y =>
  ⟨hs.led y, fun hy => Hp.Leads.sub (S := fun z => z ∈ D) (hs.has.resolve_right (by simp)) (fun u hu z hz => (hs.cl u hu z hz).resolve_right (by simp)) y hy⟩
/-- what an Id leads to: what is there -/
noncomputable def ledF (h : Hp) (x : IdB) : List UInt8 → Option Bool := gotF h (h.led x)
theorem Srch.ledF {h : Hp} {x : IdB} {D : List IdB} (hs : Srch h x D []) : gotF h D = ledF h x := by
  funext y
  unfold Go.Proofs.YtpcdihkcenfgkaaGreat.ledF gotF
  have : y ∈ D ↔ y ∈ h.led x := (hs.done y).trans (h.led_mem x y).symm
  by_cases hy : y ∈ D
  · rw [if_pos hy, if_pos (this.1 hy)]
  · rw [if_neg hy, if_neg fun k => hy (this.2 k)]
def msr (M d s : Nat) : Nat := (M - d) * (M + 1) + s
theorem msr_pop (M d s : Nat) : msr M d s < msr M d (s + 1) := by unfold msr; omega
theorem msr_on {M d s k : Nat} (hd : d + 1 ≤ M) (hk : k ≤ M) : msr M (d + 1) (s + k) < msr M d (s + 1) := by
  unfold msr
  have : M - d = (M - (d + 1)) + 1 := by omega
  rw [this, Nat.succ_mul]
  omega
theorem Own.cut32 {w : World} {q : Option Addr} {k T : Nat} {S : List IdB} {y : IdB} (h : Own w q (S.length + 1) k T 32 ((S ++ [y]).flatMap bytesU)) (hS : ∀ x ∈ S ++ [y], IdIn x) : Own w q S.length k T 32 (S.flatMap bytesU) := by
  rcases h with ⟨_, h0, _⟩ | ⟨b, l, h1, h2, h3, h4, h5, h6⟩
  · omega
  · refine .inr ⟨b, l, h1, h2, h3, by omega, h5, ?_⟩
    have e := flat_take32 S.length (S ++ [y]) hS
    rw [List.take_left, ← h6, List.take_take, Nat.min_eq_left (by omega)] at e
    exact e
theorem own_last {w : World} {q : Option Addr} {k T : Nat} {S : List IdB} {y : IdB} (h : Own w q (S.length + 1) k T 32 ((S ++ [y]).flatMap bytesU)) (hS : ∀ x ∈ S ++ [y], IdIn x) : ∃ qb, q = some ⟨qb, 0, none⟩ ∧ Seg w qb (S.length * 32) (bytesU y) := by
  rcases h with ⟨_, h0, _⟩ | ⟨b, l, h1, h2, h3, h4, h5, h6⟩
  · omega
  · refine ⟨b, h1, ?_⟩
    have hs : Seg w b 0 ((S ++ [y]).flatMap bytesU) := by rw [← h6]; exact h2.seg.take _
    have := hs.drop (S.length * 32)
    rw [flat_drop32 _ _ hS, List.drop_left, List.flatMap_singleton, Nat.zero_add] at this
    exact this
theorem one_own {w : World} {b T : Nat} {x : IdB} (hx : IdIn x) (hb : Blk w b T (bytesU x)) : Own w (some ⟨b, 0, none⟩) 1 1 T 32 ([x].flatMap bytesU) := by
  rw [List.flatMap_singleton]
  exact .inr ⟨b, _, rfl, hb, by rw [bytesU_len, hx], Nat.le_refl _, by decide, List.take_of_length_le (by rw [bytesU_len, hx]; decide)⟩
theorem gotF_nil (h : Hp) : (fun _ => none) = gotF h [] := by
  funext y
  unfold gotF
  simp
theorem HpIn.allLen2 {w : World} {p : Option Addr} {l : List HeldT} (h : HpIn w p l) (x : IdB) : ((toHp l).all x).length < 100001 := by
  have e : (toHp l).flatMap (fun e => linksOf e.2) = l.flatMap fun e => linksOf e.o := by rw [toHp, List.flatMap_map]
  have := h.lk
  rw [Hp.all, e, List.length_cons]
  omega
theorem room_stk {M d s k : Nat} (hM : M < 100001) (hd : d ≤ M) (hs : s ≤ d * M + 1) (hk : k ≤ M) : s + k ≤ maxLen ∧ (s + k) * 32 ≤ 140737488355328 := by
  have h1 : d * M ≤ 100001 * 100001 := Nat.mul_le_mul (by omega) (by omega)
  have h2 : (100001 : Nat) * 100001 = 10000200001 := by decide
  dsimp only [maxLen]
  omega
theorem leadsB_calls (w : World) {p : Option Addr} {r : Nat} {l : List HeldT} {x : IdB} (hB : BkIn w p l r) (hx : IdIn x) :
    CallsV Tryz.prog 52 [.map (some r), idV x] w fun v w' => ∃ m, v = .map (some m) ∧ w.heap.size ≤ m ∧ MapB w' m Value.bool (ledF (toHp l) x) ∧ Ext No w w' := by
  have h := hB.h
  have hidn := h.leadsIn hx
  have hall := h.allLen2 x
  obtain ⟨M, hMd⟩ : ∃ M, M = ((toHp l).all x).length := ⟨_, rfl⟩
  rw [← hMd] at hall
  refine calls_enter Tryz.func52 rfl rfl rfl rfl ?_
  have hX := Ext.refl No w
  refine c_seq (c_region (wl (st_al I_ok rfl fun b3 w1 hn3 hb3 hE1 => ?_)))
  have hX := hX.thenNo hE1
  have hb3 : Blk w1 b3 31 (bytesU x) := hb3
  refine wl_p I_ok rfl (wl_nil (f_then (c_scope (c_seq (c_region (wl (st_mm Value.bool rfl fun r13 w2 hr13 hM hE2 hs2 => ?_)))))))
  have hr13w := Nat.le_trans hX.size hr13
  have hX := hX.thenNo hE2
  have hb3 := hb3.extNo hE2
  refine wl_p I_ok rfl (wl_nil (f_then (c_seq (c_region (wl (st_ldB I_ok hb3 rfl hx.len ?_))))))
  refine wl (st_bs I_ok rfl 32 rfl idZ_c.symm (by rw [bytesU_len]; rfl) (by decide) (by decide) ⟨⟨by rw [cellsOf_agg]; exact (IdIn.len hx), by decide⟩, trivial⟩ (l' := bytesU x) (one_id hx) fun b15 w3 hn15 hb15 hE3 hs3 => ?_)
  have fr15 := Nat.le_trans hX.size hn15
  have hM := hM.extNo hE3
  have hX := hX.thenNo hE3
  refine wl_p I_ok rfl (wl_nil (f_then (c_seq (c_label (f_then (c_seq (c_block ?_)))))))
  refine c_loopK (α := List IdB × List IdB × Option Addr × Nat) [0, 5] rfl (fun z => [(6, .slice z.2.2.1 z.2.1.length z.2.2.2)]) (fun z u => ((Srch (toHp l) x z.1 z.2.1 ∧ z.2.1.length ≤ z.1.length * M + 1) ∧ Own u z.2.2.1 z.2.1.length z.2.2.2 31 32 (z.2.1.flatMap bytesU) ∧ (∀ y, OwnB z.2.2.1 y → w.heap.size ≤ y) ∧ MapB u r13 Value.bool (gotF (toHp l) z.1)) ∧ Ext No w u) (fun z u => msr M z.1.length z.2.1.length) ([], [x], some ⟨b15, 0, none⟩, 1) rfl ⟨⟨⟨Srch.start _ _, by simp⟩, one_own hx hb15, newB fr15, by rw [← gotF_nil]; exact hM⟩, hX⟩ ?_
  rintro ⟨D, S, q, k⟩ w4 ⟨⟨⟨hS, hSl⟩, hq, hqn, hM⟩, hX⟩
  try dsimp only
  dsimp only at hS hSl hq hqn hM
  refine c_block (c_seq (c_region (wl_p I_ok rfl (wl_nil (f_then (c_seq (c_seq (c_region (wl_p I_ok rfl (wl_nil (f_then (c_if rfl (fun hc => ?_) (fun hc => ?_)))))))))))))
  · have h0 : S = [] := List.eq_nil_of_length_eq_zero (by omega)
    subst h0
    rw [hS.ledF] at hM
    refine c_exit (f_thenE (f_blockE' rfl (f_thenE (f_blockE (f_then (c_seq (c_region (wl_p I_ok rfl (wl_nil (f_then (c_ret (f_noGotoR (f_ret1 rfl rfl ?_)))))))))))))
    exact ⟨r13, rfl, hr13w, hM, hX⟩
  · obtain ⟨S, y, rfl⟩ : ∃ S' y, S = S' ++ [y] := ⟨S.dropLast, S.getLast (fun e => hc (by rw [e]; rfl)), (List.dropLast_concat_getLast _).symm⟩
    have hSi : ∀ z ∈ S ++ [y], IdIn z := fun z hz => hidn z (hS.stk z hz)
    have hy := hSi y (by simp)
    have hyl := hS.stk y (by simp)
    have eS : (S ++ [y]).length = S.length + 1 := by rw [List.length_append]; rfl
    rw [eS] at hSl hq ⊢
    have hDl := hS.len
    rw [← hMd] at hDl
    obtain ⟨qb, hqb, hyseg⟩ := own_last hq hSi
    subst hqb
    have hqS := Own.cut32 hq hSi
    have hSl2 : S.length + 1 ≤ D.length * M + 1 := by omega
    have hSb : S.length < 5000000000000 := by have := (room_stk hall hDl hSl2 (Nat.zero_le M)).2; omega
    have hmp := msr_pop M D.length S.length
    refine c_skip (f_then (c_seq (c_region (wl_p I_ok rfl ?_))))
    rw [IntWalk.i64_in _ (by omega)]
    refine wl (st_ix I_ok rfl 32 rfl S.length (by omega) (by omega) (0 + S.length * 32) rfl (wl (st_ldN I_ok rfl (by rw [Nat.zero_add]; exact hyseg) hy.len ?_)))
    have hqSA := hqS
    refine wl (st_al I_ok rfl fun b8 w5 hn8 hb8 hE5 => ?_)
    have fr8 := Nat.le_trans hX.size hn8
    have hM := hM.extNo hE5
    have hX := hX.thenNo hE5
    have hEa8 := hE5
    have hb8o := hb8
    refine wl (st_stW (l' := bytesU y) I_ok hb8 rfl rfl hy.len (by rw [bytesU_len, hy]; rfl) OneC.h fun w6 hb8 hE6 hs6 => ?_)
    have hM := hM.ext1 hE6 hb8o
    have hqS := hqSA.ext ((Ext.no hEa8).trans hE6 fun _ _ k => k) (fun z hz k => by have := hqSA.lt hz; have k : z = b8 := k; omega)
    have hX := hX.thenNew hE6 fr8
    refine wl_nil (f_then (c_seq (c_region (wl_p I_ok rfl ?_))))
    rw [IntWalk.i64_in _ (by omega)]
    refine wl (st_sl I_ok rfl 0 S.length k 32 rfl (.inr ⟨rfl, rfl⟩) (.inl (congrArg some (by omega))) (.inr ⟨rfl, rfl⟩) (Nat.zero_le _) hqS.cap (Nat.le_refl _) ?_)
    dsimp only
    rw [slBase_zero, Nat.sub_zero, Nat.sub_zero]
    refine wl_p I_ok rfl (wl_nil (f_then (c_seq (c_seq (c_region (wl_p I_ok rfl (wl (st_ldB I_ok hb8 rfl hy.len (wl (st_lu I_ok rfl idK hy rfl hM ?_))))))))))
    simp only [if_true]
    rw [gotF_some]
    refine wl_p I_ok rfl (wl_nil (f_then (c_seq (c_region (wl_p I_ok rfl (wl_nil (f_then (c_cond rfl (fun hc => ?_) (fun hc => ?_)))))))))
    · have hyD : y ∈ D := of_decide_eq_true hc
      have hS2 := hS.pop hyD
      refine c_exit ?_
      exact f_thenE (f_blockE (f_round (D, S, some ⟨qb, 0, none⟩, k) rfl ⟨⟨⟨hS2, by dsimp only; omega⟩, hqS, hqn, hM⟩, hX⟩ (by first | omega | (dsimp only; omega))))
    · have hyD : ¬ y ∈ D := of_decide_eq_false hc
      have hS2 := hS.on hyD
      have hDl2 := hS2.len
      rw [← hMd] at hDl2
      have hDe : (D ++ [y]).length = D.length + 1 := by rw [List.length_append]; rfl
      have hlk : ((toHp l).links y).length ≤ M := by rw [hMd]; exact links_len _ _ x
      have hmo := msr_on (M := M) (d := D.length) (s := S.length) (by omega) hlk
      obtain ⟨hr1, hr2⟩ := room_stk (s := S.length) hall hDl (by omega) hlk
      have hmul : (D.length + 1) * M = D.length * M + M := Nat.succ_mul _ _
      refine c_skip (f_then (c_seq (c_region (wl_p I_ok rfl (wl (st_ldB I_ok hb8 rfl hy.len (wl (st_call Tryz.call54 rfl rfl rfl rfl rfl rfl (getB_calls w6 (hB.extNo hX) hy) fun v7 w7 hr7 => ?_))))))))
      obtain ⟨rfl, hE7⟩ := hr7
      have hb8 := hb8.extNo hE7
      have hM := hM.extNo hE7
      have hqS := hqS.ext hE7 fun _ _ => id
      have hX := hX.thenNo hE7
      refine wl_p I_ok rfl ?_
      have hqSA := hqS
      refine wl (st_al I_ok rfl fun b11 w8 hn11 hb11 hE8 => ?_)
      have ne8_11 : b8 ≠ b11 := Nat.ne_of_lt (Nat.lt_of_lt_of_le hb8.lt hn11)
      have fr11 := Nat.le_trans hX.size hn11
      have hb8 := hb8.extNo hE8
      have hM := hM.extNo hE8
      have hX := hX.thenNo hE8
      have hEa11 := hE8
      have hb11o := hb11
      refine wl (st_stW (l' := objC ((toHp l).obj y) (objP l y)) I_ok hb11 rfl rfl (objC_len (h.objIn y)) (by rw [objC_len (h.objIn y)]; rfl) OneC.h fun w9 hb11 hE9 hs9 => ?_)
      have hb8 := hb8.ext1 hE9 ne8_11
      have hM := hM.ext1 hE9 hb11o
      have hqS := hqSA.ext ((Ext.no hEa11).trans hE9 fun _ _ k => k) (fun z hz k => by have := hqSA.lt hz; have k : z = b11 := k; omega)
      have hX := hX.thenNew hE9 fr11
      refine wl_p I_ok rfl (wl_nil (f_then (c_seq (c_region (wl_p I_ok rfl (wl (st_ldB I_ok hb8 rfl hy.len (wl_p I_ok rfl (wl (st_mu I_ok rfl idK hy rfl hM (b := decide ((toHp l).err y = 0)) rfl fun w10 hM2 hE10 hs10 => ?_))))))))))
      rw [gotF_step] at hM2
      have hqS := hqS.extMap hM hE10
      have hb11 := hb11.extMap hM hE10
      have hM := hM2
      have hX := hX.thenNew hE10 hr13w
      refine wl_nil (f_then (c_region (wl_p I_ok rfl (wl (st_ldB I_ok hb11 rfl (objC_len (h.objIn y)) (wl (st_call Tryz.call22 rfl rfl rfl rfl rfl rfl (links_calls w10 (h.objIn y) ((h.extNo hX).objL y) (h.objSh y)) fun v11 w11 hr11 => ?_)))))))
      obtain ⟨ql, kl, rfl, hl0, hln, hE11⟩ := hr11
      have hM := hM.extNo hE11
      have hqS := hqS.ext hE11 fun _ _ => id
      have hX := hX.thenNo hE11
      rw [linksB_obj] at hl0 ⊢
      have hX0 := hX
      refine wl (st_app I_ok rfl 32 32 rfl rfl rfl (by decide) hqS (Src.slice hl0.sl OneC.h) hr1 hr2 fun p12 c12 w12 ho12 hE12 hB12 => ?_)
      dsimp only at ho12 hE12 hB12 ⊢
      have hX := hX0.trans hE12 fun z hz hF => by have := hqn z hF; omega
      have hM := hM.extOwn hqS hE12
      have hqn2 := newW hX0 hqn hB12
      have hl2 : S.length + ((toHp l).links y).length = (S ++ (toHp l).links y).length := List.length_append.symm
      have hq2 : Own w12 p12 (S ++ (toHp l).links y).length c12 31 32 ((S ++ (toHp l).links y).flatMap bytesU) := by
        rw [← hl2, List.flatMap_append]
        exact ho12
      rw [hl2]
      rw [hl2, ← hDe] at hmo
      refine wl_p I_ok rfl (wl_nil ?_)
      exact f_blockN (f_round (D ++ [y], S ++ (toHp l).links y, p12, c12) rfl ⟨⟨⟨hS2, by rw [hDe, hmul, ← hl2]; omega⟩, hq2, hqn2, hM⟩, hX⟩ (by first | omega | (dsimp only; omega)))
end Go.Proofs.YtpcdihkcenfgkaaGreat
namespace Go.Vc
theorem heap_alloc_oldK (w : World) (o : Obj) {r : Nat} (h : r < w.heap.size) : (w.alloc o).heap[r]? = w.heap[r]? := by
  show (w.heap.push o)[r]? = w.heap[r]?
  rw [Array.getElem?_push, if_neg (by omega)]
theorem nodup_len {α : Type} : ∀ {l m : List α}, l.Nodup → (∀ x ∈ l, x ∈ m) → l.length ≤ m.length
  | [], _, _, _ => Nat.zero_le _
  | x :: l, m, hn, hs => by
    obtain ⟨a, b, rfl⟩ := List.append_of_mem (hs x (by simp))
    have := nodup_len (l := l) (m := a ++ b) (List.nodup_cons.1 hn).2 fun y hy => by
      have := hs y (by simp [hy])
      rcases List.mem_append.1 this with h | h
      · exact List.mem_append_left _ h
      · rcases List.mem_cons.1 h with rfl | h
        · exact absurd hy (List.nodup_cons.1 hn).1
        · exact List.mem_append_right _ h
    simp only [List.length_append, List.length_cons] at this ⊢
    omega
/-- a round over a map is under way: what was told so far -/
def IterB {β : Type} (w : World) (it m : Nat) (enc : β → Value) (g : List UInt8 → Option β) (N : Nat) (done : List (List UInt8)) : Prop :=
  ∃ es clock since seen last, w.heap[it]? = some (.mapIter (some m) since seen last) ∧ w.heap[m]? = some (.map es clock) ∧
    (∀ e ∈ es.toList, ∃ x b, x.length = 32 ∧ e.key = idV x ∧ e.val = enc b ∧ g x = some b) ∧ (∀ x b, g x = some b → ∃ e ∈ es.toList, e.key = idV x) ∧ (es.toList.map (·.key)).Nodup ∧
    (∀ e ∈ es.toList, e.born < since) ∧ (es.toList.map (·.born)).Nodup ∧ since ≤ last ∧ since ≤ clock ∧ done.Nodup ∧ es.size = N ∧ (∀ x ∈ done, ∃ b, g x = some b) ∧ (∀ e ∈ es.toList, ∀ x, e.key = idV x → (seen.contains e.born = true ↔ x ∈ done))
theorem IterB.lt {β : Type} {w : World} {it m N : Nat} {enc : β → Value} {g : List UInt8 → Option β} {done : List (List UInt8)} (h : IterB w it m enc g N done) : it < w.heap.size ∧ m < w.heap.size := by
  obtain ⟨es, c, s, se, la, h1, h2, _⟩ := h
  constructor
  · rcases Nat.lt_or_ge it w.heap.size with h' | h'
    · exact h'
    · rw [Array.getElem?_eq_none h'] at h1; cases h1
  · rcases Nat.lt_or_ge m w.heap.size with h' | h'
    · exact h'
    · rw [Array.getElem?_eq_none h'] at h2; cases h2
theorem IterB.ext {β : Type} {S : Nat → Prop} {w w' : World} {it m N : Nat} {enc : β → Value} {g : List UInt8 → Option β} {done : List (List UInt8)} (h : IterB w it m enc g N done) (hE : Ext S w w') (h1 : ¬ S it) (h2 : ¬ S m) : IterB w' it m enc g N done := by
  obtain ⟨l1, l2⟩ := h.lt
  obtain ⟨es, c, s, se, la, a, b, r⟩ := h
  exact ⟨es, c, s, se, la, (hE.same it l1 h1).trans a, (hE.same m l2 h2).trans b, r⟩
theorem IterB.extNo {β : Type} {w w' : World} {it m N : Nat} {enc : β → Value} {g : List UInt8 → Option β} {done : List (List UInt8)} (h : IterB w it m enc g N done) (hE : Ext No w w') : IterB w' it m enc g N done := h.ext hE id id
theorem IterB.neB {β : Type} {w : World} {it m N : Nat} {enc : β → Value} {g : List UInt8 → Option β} {done : List (List UInt8)} (h : IterB w it m enc g N done) {b T : Nat} {L : List Value} (hb : Blk w b T L) : it ≠ b ∧ m ≠ b := by
  obtain ⟨es, c, s, se, la, h1, h2, _⟩ := h
  exact ⟨(fun e => by rw [e] at h1; rw [Blk, h1] at hb; cases hb), (fun e => by rw [e] at h2; rw [Blk, h2] at hb; cases hb)⟩
theorem ext_putAt {w : World} {r : Nat} {o : Obj} (h : w.heap[r]? = some o) (o' : Obj) :
    Ext (One r) w { w with heap := w.heap.setIfInBounds r o' } ∧ ({ w with heap := w.heap.setIfInBounds r o' } : World).heap.size = w.heap.size ∧ ({ w with heap := w.heap.setIfInBounds r o' } : World).heap[r]? = some o' := by
  have hlt : r < w.heap.size := by
    rcases Nat.lt_or_ge r w.heap.size with h' | h'
    · exact h'
    · rw [Array.getElem?_eq_none h'] at h; cases h
  refine ⟨⟨rfl, rfl, rfl, by simp, fun b hb hS => ?_, Nat.le_refl _⟩, by simp, by simp [hlt]⟩
  exact Array.getElem?_setIfInBounds_ne (fun e' => hS e'.symm)

theorem run_next {P : Program} {w : World} {it m since last clock : Nat} {seen : Array Nat} {es : Array MapEntry} (hi : w.heap[it]? = some (.mapIter (some m) since seen last)) (hm : w.heap[m]? = some (.map es clock)) (hold : ∀ x ∈ es.toList, x.born < since) (hsc : since ≤ last) (ty : TypeId) :
    ((leftOf es seen).size = 0 ∧ (Instr.next (.pointer (some ⟨it, 0, none⟩)) false ty).run P w = .ok (.tuple #[.bool false]) w) ∨
    ∃ e ∈ (leftOf es seen).toList, ∃ w1 : World, (w1 = w ∨ w1 = w.drew) ∧ (Instr.next (.pointer (some ⟨it, 0, none⟩)) false ty).run P w = .ok (.tuple #[.bool true, e.key, e.val]) { w1 with heap := w1.heap.setIfInBounds it (.mapIter (some m) since (seen.push e.born) clock) } := by
  simp only [Instr.next, getObj, Sem.run_bind, Sem.run, hi, hm, Result.andThen, next_test_false seen es since last hold hsc, Bool.false_eq_true, if_false]
  unfold leftOf
  have hmem : ∀ x ∈ (Array.filter (fun e => !seen.contains e.born) es).toList, x.born < since := fun x hx => hold x (by simp at hx ⊢; exact hx.1)
  generalize Array.filter (fun e => !seen.contains e.born) es = L at hmem ⊢
  have e1 : L.filter (fun x => decide (x.born < since)) = L := Array.filter_eq_self.2 (fun x hx => by simpa using hmem x (by simpa using hx))
  have e2 : L.filter (fun x => decide (x.born ≥ since)) = #[] := by
    rw [Array.filter_eq_empty_iff]
    intro x hx
    have := hmem x (by simpa using hx)
    simp
    omega
  simp only [e1, e2, Array.append_empty]
  by_cases h0 : L.size = 0
  · left
    have : L = #[] := Array.eq_empty_of_size_eq_zero h0
    subst this
    refine ⟨rfl, ?_⟩
    simp [choose, Sem.run, Question.forced]
  · right
    have hne : L.isEmpty = false := by simp [Array.isEmpty, h0]
    simp only [hne, Bool.false_eq_true, if_false, Array.empty_append, Array.size_map]
    have hch : ∃ (j : Nat) (w1 : World), j < L.size ∧ (w1 = w ∨ w1 = w.drew) ∧ (choose (Question.mapNext L.size)).run P w = .ok j w1 := by
      by_cases hf : L.size ≤ 1
      · exact ⟨0, w, by omega, .inl rfl, by simp [choose, Sem.run, Question.forced, hf]⟩
      · exact ⟨_, w.drew, Nat.mod_lt _ (by omega), .inr rfl, by
          simp only [choose, Sem.run, Question.forced, decide_eq_true_eq, hf, if_false, Question.cut]
          rfl⟩
    obtain ⟨j, w1, hj, hal, hrun⟩ := hch
    refine ⟨L[j], by simp, w1, hal, ?_⟩
    have hi1 : w1.heap[it]? = some (.mapIter (some m) since seen last) := by rcases hal with rfl | rfl <;> exact hi
    have hset : ∀ (o' : Obj), (setObj it o').run P w1 = .ok () { w1 with heap := w1.heap.setIfInBounds it o' } := fun o' => by
      simp [setObj, Sem.run, hi1]
    simp only [hrun, Array.getElem?_map, Array.getElem?_eq_getElem hj, Option.map_some, Sem.run_bind, hset, Result.andThen]
    rfl
/-- what a round over a map has in hand -/
def Cur (w : World) (it m : Nat) (kx vx : Value) : Prop :=
  ∃ es clock since seen e, w.heap[it]? = some (.mapIter (some m) since seen clock) ∧ w.heap[m]? = some (.map es clock) ∧ seen.back? = some e.born ∧ es.toList.find? (fun x => x.born == e.born) = some e ∧ e.key = kx ∧ e.val = vx
theorem run_entry {P : Program} {w : World} {it m : Nat} {kx vx : Value} (h : Cur w it m kx vx) : (Instr.entry (.pointer (some ⟨it, 0, none⟩))).run P w = .ok (.tuple #[kx, vx]) w := by
  obtain ⟨es, c, s, se, e, h1, h2, h3, h4, rfl, rfl⟩ := h
  have hf : es.find? (fun x => x.born == e.born) = some e := by rw [← Array.find?_toList]; exact h4
  simp only [Instr.entry, getObj, Sem.run_bind, Sem.run, h1, h2, Result.andThen, h3, bne_self_eq_false, Bool.false_eq_true, if_false, hf]
  rfl
section
variable {P : Program} {I : Info} {f : Fs} {ops : Array Oper} {o : Oper} {env : Env} {w : World} {K : Env → World → Prop}
/-- a range over a map begins -/
def rgE (I : Info) (n : Nat) (ops : Array Oper) (env : Env) (o : Oper) : Option (Nat × Nat) :=
  match pre n ops env o with
  | false => none
  | true => match o.dst with
    | some d => match o.op with
      | .range t x => match lkT I t with
        | some y => match y.desc with
          | .map _ _ => match evO env x with
            | some (.map (some r)) => some (r, d)
            | _ => none
          | _ => none
        | none => none
      | _ => none
    | none => none
theorem st_rg {β : Type} (hI : I.Ok P) {m d : Nat} (h : rgE I f.n ops env o = some (m, d)) {enc : β → Value} {g : List UInt8 → Option β} (hm : MapB w m enc g)
    (k : ∀ (it N : Nat) w', w.heap.size ≤ it → IterB w' it m enc g N [] → Ext No w w' → K ((d, .pointer (some ⟨it, 0, none⟩)) :: env) w') : St P f ops o env w K := by
  unfold rgE at h
  split at h
  · cases h
  · rename_i hp
    obtain ⟨h1, h2⟩ := pre_eq hp
    split at h
    · rename_i d' hd
      split at h
      · rename_i t x ho
        split at h
        · rename_i y hy
          split at h
          · rename_i k' e he
            split at h
            · rename_i r' hx
              simp only [Option.some.injEq, Prod.mk.injEq] at h
              obtain ⟨rfl, rfl⟩ := h
              have hu := (hI.get hy).under w
              rw [he] at hu
              have hlt := hm.lt
              obtain ⟨es, c, hh, a1, a2, a3, a4, a5⟩ := hm
              have hrun : (Instr.range t (.map (some r'))).run P w = .ok (.pointer (some ⟨w.heap.size, 0, none⟩)) (w.alloc (.mapIter (some r') c #[] c)) := by
                unfold Instr.range
                rw [run_under_bind hu]
                simp only [Sem.run_bind, MapKept.run_getObj_map hh, Result.andThen_ok]
                rfl
              refine st_v h1 h2 (v := .pointer (some ⟨w.heap.size, 0, none⟩)) (w' := w.alloc (.mapIter (some r') c #[] c)) (fun ρ hρ => ?_) ?_
              · simp only [execOp, ho, hρ _ _ hx, Sem.run_bind, hrun, Result.andThen_ok, Sem.run_pure]
              · rw [hd]
                refine k _ es.size _ (Nat.le_refl _) ⟨es, c, c, #[], c, heap_alloc_new w _, ?_, a1, a2, a3, a4, a5, Nat.le_refl _, Nat.le_refl _, List.nodup_nil, rfl, (fun x hx => by cases hx), fun e _ x _ => by simp⟩ ⟨rfl, rfl, rfl, by simp, fun b hb _ => ?_, Nat.le_refl _⟩
                · rw [heap_alloc_oldK w _ hlt]; exact hh
                · exact heap_alloc_oldK w _ hb
            · cases h
          · cases h
        · cases h
      · cases h
    · cases h
/-- what the round has in hand is read -/
def enE (n : Nat) (ops : Array Oper) (env : Env) (o : Oper) : Option (Nat × Nat) :=
  match pre n ops env o with
  | false => none
  | true => match o.dst with
    | some d => match o.op with
      | .entry x => match evO env x with
        | some (.pointer (some ⟨it, 0, none⟩)) => some (it, d)
        | _ => none
      | _ => none
    | none => none
theorem st_en {it m d : Nat} {kx vx : Value} (h : enE f.n ops env o = some (it, d)) (hc : Cur w it m kx vx) (k : K ((d, .tuple #[kx, vx]) :: env) w) : St P f ops o env w K := by
  unfold enE at h
  split at h
  · cases h
  · rename_i hp
    obtain ⟨h1, h2⟩ := pre_eq hp
    split at h
    · rename_i d' hd
      split at h
      · rename_i xx ho
        split at h
        · rename_i it' hx
          simp only [Option.some.injEq, Prod.mk.injEq] at h
          obtain ⟨rfl, rfl⟩ := h
          refine st_v h1 h2 (v := .tuple #[kx, vx]) (w' := w) (fun ρ hρ => ?_) (by rw [hd]; exact k)
          simp only [execOp, ho, hρ _ _ hx, Sem.run_bind, run_entry hc, Result.andThen_ok, Sem.run_pure]
        · cases h
      · cases h
    · cases h
/-- one more of a map is told, or the end -/
def nxE (n : Nat) (ops : Array Oper) (env : Env) (o : Oper) : Option (Nat × Nat) :=
  match pre n ops env o with
  | false => none
  | true => match o.dst with
    | some d => match o.op with
      | .next x false => match evO env x with
        | some (.pointer (some ⟨it, 0, none⟩)) => some (it, d)
        | _ => none
      | _ => none
    | none => none
theorem st_nx {β : Type} {it d : Nat} (h : nxE f.n ops env o = some (it, d)) {m N : Nat} {enc : β → Value} {g : List UInt8 → Option β} {done : List (List UInt8)} (hit : IterB w it m enc g N done)
    (k0 : (∀ x b, g x = some b → x ∈ done) → K ((d, .tuple #[.bool false]) :: env) w)
    (k1 : ∀ (x : List UInt8) (b : β) w', g x = some b → x.length = 32 → x ∉ done → done.length < N → IterB w' it m enc g N (done ++ [x]) → Cur w' it m (idV x) (enc b) → Ext (One it) w w' → w'.heap.size = w.heap.size → K ((d, .tuple #[.bool true, idV x, enc b]) :: env) w') : St P f ops o env w K := by
  unfold nxE at h
  split at h
  · cases h
  · rename_i hp
    obtain ⟨h1, h2⟩ := pre_eq hp
    split at h
    · rename_i d' hd
      split at h
      · rename_i xx ho
        split at h
        · rename_i it' hx
          simp only [Option.some.injEq, Prod.mk.injEq] at h
          obtain ⟨rfl, rfl⟩ := h
          obtain ⟨es, c, s, se, la, hi, hm, a1, a2, a3, a4, a5, a6, a7, b1, b2, b3, b4⟩ := hit
          rcases run_next (P := P) hi hm a4 a6 o.type with ⟨c1, c2⟩ | ⟨e, c1, w1, c2, c3⟩
          · refine st_v h1 h2 (v := .tuple #[.bool false]) (w' := w) (fun ρ hρ => ?_) ?_
            · simp only [execOp, ho, hρ _ _ hx, Sem.run_bind, c2, Result.andThen_ok, Sem.run_pure]
            · rw [hd]
              refine k0 fun x b hg => ?_
              obtain ⟨e, he, hk⟩ := a2 x b hg
              refine (b4 e he x hk).1 (Classical.byContradiction fun hc => ?_)
              have : e ∈ (leftOf es se).toList := Array.mem_toList_iff.2 (Array.mem_filter.2 ⟨Array.mem_toList_iff.1 he, by simpa using hc⟩)
              rw [Array.eq_empty_of_size_eq_zero c1] at this
              simp at this
          · obtain ⟨hes, hns⟩ := mem_left c1
            obtain ⟨x, b, hx32, hk, hv, hg⟩ := a1 e hes
            have hxd : x ∉ done := fun hxd => by
              have := (b4 e hes x hk).2 hxd
              rw [hns] at this; cases this
            have hi1 : w1.heap[it']? = some (.mapIter (some m) s se la) := by rcases c2 with rfl | rfl <;> exact hi
            have hm1 : w1.heap[m]? = some (.map es c) := by rcases c2 with rfl | rfl <;> exact hm
            have hE1 : Ext No w w1 := by
              rcases c2 with rfl | rfl
              · exact Ext.refl _ _
              · exact Ext.drew w
            obtain ⟨p1, p2, p3⟩ := ext_putAt hi1 (.mapIter (some m) s (se.push e.born) c)
            have hne : it' ≠ m := fun q => by rw [q, hm] at hi; cases hi
            refine st_v h1 h2 (v := .tuple #[.bool true, idV x, enc b]) (w' := { w1 with heap := w1.heap.setIfInBounds it' (.mapIter (some m) s (se.push e.born) c) }) (fun ρ hρ => ?_) ?_
            · rw [hk, hv] at c3
              simp only [execOp, ho, hρ _ _ hx, Sem.run_bind, c3, Result.andThen_ok, Sem.run_pure]
            · rw [hd]
              have hlt : done.length < N := by
                rw [← b2]
                have hsub : (done ++ [x]).length ≤ (es.toList.map (·.key)).length := by
                  have hnd : ((done ++ [x]).map idV).Nodup := by
                    rw [List.nodup_iff_pairwise_ne]
                    refine List.pairwise_map.2 ((List.nodup_append.2 ⟨b1, by simp, fun a ha b hb => ?_⟩).imp fun hab e => hab (idV_inj e))
                    rw [List.mem_singleton.1 hb]
                    exact fun e => hxd (e ▸ ha)
                  have := nodup_len hnd (m := es.toList.map (·.key)) fun v hv => by
                    obtain ⟨y, hy, rfl⟩ := List.mem_map.1 hv
                    rcases List.mem_append.1 hy with hy | hy
                    · obtain ⟨b', hb'⟩ := b3 y hy
                      obtain ⟨e', he', hk'⟩ := a2 y b' hb'
                      exact List.mem_map.2 ⟨e', he', hk'⟩
                    · rw [List.mem_singleton.1 hy]
                      exact List.mem_map.2 ⟨e, hes, hk⟩
                  rw [List.length_map] at this
                  exact this
                rw [List.length_append, List.length_map, Array.length_toList] at hsub
                simp only [List.length_cons, List.length_nil] at hsub
                have hz : es.size = es.toList.length := rfl
                have hz' : es.toList.length = es.size := rfl
                exact Nat.lt_of_lt_of_le (Nat.lt_succ_self _) hsub
              refine k1 x b _ hg hx32 hxd hlt ⟨es, c, s, se.push e.born, c, p3, ?_, a1, a2, a3, a4, a5, a7, a7, ?_, b2, ?_, ?_⟩ ⟨es, c, s, se.push e.born, e, p3, (by
                show (w1.heap.setIfInBounds it' _)[m]? = _
                rw [Array.getElem?_setIfInBounds_ne hne]
                exact hm1), by simp, find_born e es.toList a5 hes, hk, hv⟩ ((hE1.mono fun _ _ q => q.elim).trans p1 fun _ _ q => q) (p2.trans (by rcases c2 with rfl | rfl <;> rfl))
              · show (w1.heap.setIfInBounds it' _)[m]? = _
                rw [Array.getElem?_setIfInBounds_ne hne]
                exact hm1
              · exact List.nodup_append.2 ⟨b1, by simp, fun a ha b hb => by rw [List.mem_singleton.1 hb]; exact fun e => hxd (e ▸ ha)⟩
              · intro y hy
                rcases List.mem_append.1 hy with hy | hy
                · exact b3 y hy
                · rw [List.mem_singleton.1 hy]; exact ⟨b, hg⟩
              · intro e' he' y hy
                rw [contains_push]
                simp only [Bool.or_eq_true, beq_iff_eq, List.mem_append, List.mem_singleton]
                constructor
                · rintro (q | q)
                  · exact .inl ((b4 e' he' y hy).1 q)
                  · have h1' := find_born e es.toList a5 hes
                    have h2' := find_born e' es.toList a5 he'
                    rw [q, h1'] at h2'
                    have := Option.some.inj h2'
                    rw [← this] at hy
                    exact .inr (idV_inj (hy.symm.trans hk))
                · rintro (q | q)
                  · exact .inl ((b4 e' he' y hy).2 q)
                  · refine .inr ?_
                    subst q
                    have hee : e' = e := by
                      have i1 := List.mem_iff_getElem.1 he'
                      have i2 := List.mem_iff_getElem.1 hes
                      obtain ⟨i, hi', rfl⟩ := i1
                      obtain ⟨j, hj', hje⟩ := i2
                      have : i = j := by
                        have q2 : (es.toList.map (·.key))[i]'(by simpa using hi') = (es.toList.map (·.key))[j]'(by simpa using hj') := by simp only [List.getElem_map]; rw [hy, hje, hk]
                        exact (List.getElem_inj a3).1 q2
                      subst this
                      exact hje
                    rw [hee]
        · cases h
      · cases h
    · cases h
theorem ov_lu {β : Type} (hI : I.Ok P) {k r d : Nat} {z v : Value} {ok : Bool} (h : luE I f.n ops env o = some (k, z, r, v, ok, d)) (hK : IdKey P k) {x : List UInt8} (hx : x.length = 32) (hv : v = idV x) {enc : β → Value} {g : List UInt8 → Option β} (hm : MapB w r enc g) :
    pre f.n ops env o = true ∧ o.dst = some d ∧ Ov P o env w (if ok then .tuple #[tell enc z (g x), .bool (g x).isSome] else tell enc z (g x)) w := by
  subst hv
  unfold luE at h
  split at h
  · cases h
  · rename_i hp
    obtain ⟨h1, h2⟩ := pre_eq hp
    split at h
    · rename_i d' hd
      split at h
      · rename_i t xx j ok' ho
        split at h
        · rename_i y hy
          split at h
          · rename_i k' e he
            split at h
            · rename_i gg hgg
              split at h
              · rename_i r' hxx
                split at h
                · rename_i v' hj
                  simp only [Option.some.injEq, Prod.mk.injEq] at h
                  obtain ⟨rfl, rfl, rfl, rfl, rfl, rfl⟩ := h
                  have hu := (hI.get hy).under w
                  rw [he] at hu
                  have hz := (hI.get hgg).zeroValue w
                  obtain ⟨es, c, hh, a1, a2, a3, _⟩ := hm
                  obtain ⟨l, hl⟩ := hK.key x hx
                  have hfind := hK.law.find w hl es.toList (MapB.keys hK a1)
                  have hchk := hK.law.check w es.isEmpty hl
                  refine ⟨hp, hd, fun ρ hρ => ?_⟩
                  have hlook : (Instr.lookup t (.map (some r')) (idV x) ok').run P w = .ok (if ok' then .tuple #[tell enc gg.zero (g x), .bool (g x).isSome] else tell enc gg.zero (g x)) w := by
                    unfold Instr.lookup
                    rw [run_under_bind hu]
                    rcases hfind with ⟨f1, f2⟩ | ⟨j', e0, f1, f2, f3⟩
                    · have hg : g x = none := by
                        cases hgx : g x with
                        | none => rfl
                        | some b =>
                          obtain ⟨e, he, hk⟩ := a2 x b hgx
                          exact absurd hk (f2 e he)
                      simp only [Sem.run_bind, MapKept.run_getObj_map hh, Sem.run_pure, Result.andThen_ok, hchk, f1, hz, hg, tell, Option.isSome]
                    · have hmem : e0 ∈ es.toList := List.mem_of_getElem? f2
                      obtain ⟨x', b, _, k1, k2, k3⟩ := a1 e0 hmem
                      have : x' = x := idV_inj (k1.symm.trans f3)
                      subst this
                      simp only [Sem.run_bind, MapKept.run_getObj_map hh, Sem.run_pure, Result.andThen_ok, hchk, f1, k2, k3, tell, Option.isSome]
                  simp only [execOp, ho, hρ _ _ hxx, hρ _ _ hj, Sem.run_bind, hlook, Result.andThen_ok, Sem.run_pure]
                · cases h
              · cases h
            · cases h
          · cases h
        · cases h
      · cases h
    · cases h
theorem wd_lu {K : Act → World → Prop} {β : Type} {r : Dr} {i : Nat} {pl : List (Nat × Bool)} {dn : List Nat} (hI : I.Ok P) (ho : ops[i]? = some o) {k rm d : Nat} {z v : Value} {ok : Bool} (h : luE I f.n ops env o = some (k, z, rm, v, ok, d)) (hK : IdKey P k) {x : List UInt8} (hx : x.length = 32) (hv : v = idV x) {enc : β → Value} {g : List UInt8 → Option β} (hm0 : MapB w rm enc g) (hm : ∀ w', r.C w' → MapB w' rm enc g)
    (kk : WD P f ops K r pl (i :: dn) ((d, if ok then .tuple #[tell enc z (g x), .bool (g x).isSome] else tell enc z (g x)) :: env) w) : WD P f ops K r ((i, true) :: pl) dn env w := by
  obtain ⟨h1, h2, _⟩ := ov_lu (f := f) (w := w) hI h hK hx hv hm0
  exact wd_q ho h1 h2 (fun w' hw' => (ov_lu (f := f) (w := w') hI h hK hx hv (hm w' hw')).2.2) kk
end
end Go.Vc
namespace Go.Proofs.YtpcdihkcenfgkaaGreat
open Go.Vc
theorem ledF_some {h : Hp} {x y : IdB} {b : Bool} (hg : ledF h x y = some b) : y ∈ h.led x ∧ b = decide (h.err y = 0) := by
  unfold ledF gotF at hg
  split at hg
  · rename_i hy
    cases hg
    exact ⟨hy, rfl⟩
  · cases hg
theorem book_ok {l : List HeldT} {x : IdB} (he : (toHp l).err x = 0) : (bookOf l x).getD (objZ, noP) = ((toHp l).obj x, objP l x) := by
  have h1 := book_get l x
  have h2 := book_ptr l x
  cases hb : bookOf l x with
  | none =>
    rw [hb] at h1
    rw [(Hp.err_no h1).1] at he
    exact absurd he (by decide)
  | some y =>
    rw [hb] at h1 h2
    obtain ⟨e1, e2⟩ := Hp.err_at h1
    by_cases hk : ObjOk y.1
    · rw [(e1 hk).2, h2]
      dsimp only
      rw [if_pos hk]
      rfl
    · rw [(e2 hk).1] at he
      exact absurd he (by decide)
theorem ledF_on {h : Hp} {x y : IdB} (hy : y ∈ h.led x) : ledF h x y = some (decide (h.err y = 0)) := if_pos hy
theorem closedB_calls (w : World) {p : Option Addr} {r : Nat} {l : List HeldT} {x : IdB} (hB : BkIn w p l r) (hx : IdIn x) :
    CallsV Tryz.prog 49 [.map (some r), idV x] w fun v w' => v = .int .i64 ((toHp l).closed x) ∧ Ext No w w' := by
  have h := hB.h
  have hled := h.ledIn hx
  refine calls_enter Tryz.func49 rfl rfl rfl rfl ?_
  have hX := Ext.refl No w
  refine c_seq (c_region (wl (st_al I_ok rfl fun b3 w1 hn3 hb3 hE1 => ?_)))
  have hX := hX.thenNo hE1
  have hb3 : Blk w1 b3 31 (bytesU x) := hb3
  refine wl_p I_ok rfl (wl_nil (f_then (c_seq (c_seq (c_region (wl_p I_ok rfl (wl (st_ldB I_ok hb3 rfl hx.len (wl (st_call Tryz.call79 rfl rfl rfl rfl rfl rfl (kindB_calls w1 (hB.extNo hX) hx 3) fun v2 w2 hr2 => ?_))))))))))
  obtain ⟨rfl, hE2⟩ := hr2
  have hb3 := hb3.extNo hE2
  have hX := hX.thenNo hE2
  refine wl_p I_ok rfl (wl (st_al I_ok rfl fun b5 w3 hn5 hb5 hE3 => ?_))
  have ne3_5 : b3 ≠ b5 := Nat.ne_of_lt (Nat.lt_of_lt_of_le hb3.lt hn5)
  have fr5 := Nat.le_trans hX.size hn5
  have hb3 := hb3.extNo hE3
  have hX := hX.thenNo hE3
  refine wl (st_stW (l' := objC ((toHp l).kObj x 3) (kObjP l x 3)) I_ok hb5 rfl rfl (objC_len (h.kIn x 3)) (by rw [objC_len (h.kIn x 3)]; rfl) OneC.h fun w4 hb5 hE4 hs4 => ?_)
  have hb3 := hb3.ext1 hE4 ne3_5
  have hX := hX.thenNew hE4 fr5
  refine wl_p I_ok rfl (wl_nil (f_then (c_seq (c_region (wl_p I_ok rfl (wl_nil (f_then (c_if rfl (fun hc => ?_) (fun hc => ?_)))))))))
  · refine c_seq ?_
    refine c_region (wl_p I_ok rfl (wl_nil (f_then (c_ret (f_thenR (f_ret1 rfl rfl ?_))))))
    exact ⟨by rw [closed1 hc], hX⟩
  · have hk0 : (toHp l).kErr x 3 = 0 := Decidable.not_not.1 hc
    refine c_skip (f_then (c_seq (c_seq (c_region (wl_p I_ok rfl (wl (st_ldB I_ok hb3 rfl hx.len ?_)))))))
    have hX4 := hX.size
    refine wl (st_call Tryz.call52 rfl rfl rfl rfl rfl rfl (leadsB_calls w4 (hB.extNo hX) hx) fun v5 w5 hr5 => ?_)
    obtain ⟨m, rfl, hmn, hM, hE5⟩ := hr5
    have hX := hX.thenNo hE5
    refine wl (st_rg I_ok rfl hM fun it N w6 hitn hIt hE6 => ?_)
    have hmw := Nat.le_trans hX4 hmn
    have hitw := Nat.le_trans hX.size hitn
    have hX := hX.thenNo hE6
    refine wl_nil (f_then (c_block ?_))
    refine c_loopK (α := List IdB) [0, 29] rfl (fun z => []) (fun z u => ((∀ y ∈ z, (toHp l).Good y) ∧ IterB u it m Value.bool (ledF (toHp l) x) N z) ∧ Ext No w u) (fun z u => N - z.length) ([]) rfl ⟨⟨fun _ hy => (by cases hy), hIt⟩, hX⟩ ?_
    rintro dn w7 ⟨⟨hok, hIt⟩, hX⟩
    refine c_seq (c_region (wl (st_nx rfl hIt (fun hall => ?_) (fun y bk w8 hgk hx32 hxd hltN hIt2 hCur hE8 hs8 => ?_))))
    · have hdone : (toHp l).closed x = 0 := closed2 hk0 fun y hy => hok y (hall y _ (ledF_on hy))
      refine wl_p I_ok rfl (wl_nil (f_then (c_seq (c_condF rfl (c_exit (f_thenE (f_thenE (f_blockE (f_then (c_seq (c_region (wl_p I_ok rfl (wl_nil (f_then (c_ret (f_ret1 rfl rfl ?_))))))))))))))))
      exact ⟨by rw [hdone], hX⟩
    · have hIt := hIt2
      have hX := hX.thenNew hE8 hitw
      obtain ⟨hym, hbk⟩ := ledF_some hgk
      have hlen : (dn ++ [y]).length = dn.length + 1 := by rw [List.length_append]; rfl
      obtain ⟨hoi0, hos0, hol0⟩ := hB.h.bookIn y
      have hbt := book_tell l y
      have hbo := book_ok (l := l) (x := y)
      obtain ⟨⟨o, a⟩, hoa⟩ : ∃ y0, y0 = (bookOf l y).getD (objZ, noP) := ⟨_, rfl⟩
      rw [← hoa] at hoi0 hos0 hol0 hbt hbo
      dsimp only at hoi0 hos0 hol0 hbt hbo
      have hy := hled y hym
      have hoi := h.objIn y
      refine wl_p I_ok rfl (wl_nil (f_then (c_seq (c_condT rfl (c_skip (f_then (c_block (c_seq (c_region (wl (st_en rfl hCur (wl_p I_ok rfl (wl (st_al I_ok rfl fun b7 w9 hn7 hb7 hE9 => ?_))))))))))))))
      have fr7 := Nat.le_trans hX.size hn7
      have hIt := hIt.extNo hE9
      have hX := hX.thenNo hE9
      have hb7o := hb7
      refine wl (st_stW (l' := bytesU y) I_ok hb7 rfl rfl hy.len (by rw [bytesU_len, hy]; rfl) OneC.h fun w10 hb7 hE10 hs10 => ?_)
      have hIt := hIt.ext hE10 (hIt.neB hb7o).1 (hIt.neB hb7o).2
      have hX := hX.thenNew hE10 fr7
      refine wl_p I_ok rfl (wl_nil (f_then (c_seq (c_region (wl_p I_ok rfl (wl (st_ldB I_ok hb7 rfl hy.len (wl (st_lu I_ok rfl idK hy rfl (hB.extNo hX).m ?_)))))))))
      simp only [Bool.false_eq_true, if_false]
      rw [hbt]
      refine wl (st_al I_ok rfl fun b9 w11 hn9 hb9 hE11 => ?_)
      have fr9 := Nat.le_trans hX.size hn9
      have hIt := hIt.extNo hE11
      have hX := hX.thenNo hE11
      have hb9o := hb9
      refine wl (st_stW (l' := objC o a) I_ok hb9 rfl rfl (objC_len hoi0) (by rw [objC_len hoi0]; rfl) OneC.h fun w12 hb9 hE12 hs12 => ?_)
      have hIt := hIt.ext hE12 (hIt.neB hb9o).1 (hIt.neB hb9o).2
      have hX := hX.thenNew hE12 fr9
      refine wl_nil (f_then (c_seq (c_seq (c_region (wl_p I_ok rfl (wl_nil (f_then (c_cond rfl (fun hc => ?_) (fun hc => ?_)))))))))
      · have hng : ¬ (toHp l).Good y := fun k => by rw [hbk, decide_eq_true k.1] at hc; cases hc
        refine c_seq (c_region (wl_p I_ok rfl (wl_nil (f_then (c_ret (f_thenR (f_blockR (f_thenR (f_blockR (f_thenR (f_ret1 rfl rfl ?_)))))))))))
        exact ⟨by rw [closed3 hk0 hym hng], hX⟩
      · have he0 : (toHp l).err y = 0 := by simpa [hbk] using hc
        obtain ⟨rfl, rfl⟩ : o = (toHp l).obj y ∧ a = objP l y := by have := hbo he0; rw [Prod.mk.injEq] at this; exact this
        refine c_skip (f_then (c_seq (c_seq (c_region (wl_p I_ok rfl (wl (st_ld I_ok rfl (hb9.seg.obj hoi).kind (wl_p I_ok rfl (wl_nil (f_then (c_if rfl (fun hc => ?_) (fun hc => ?_))))))))))))
        · have hgd : (toHp l).Good y := ⟨he0, fun k => absurd k hc⟩
          refine c_exit ?_
          exact f_thenE (f_blockE (f_round (dn ++ [y]) rfl ⟨⟨fun z hz => by rcases List.mem_append.1 hz with hz | hz; exact hok z hz; rw [List.mem_singleton.1 hz]; exact hgd, hIt⟩, hX⟩ (by first | omega | (dsimp only; omega))))
        · have hk3 : ((toHp l).obj y).kind = 3 := Decidable.not_not.1 hc
          refine c_skip (f_then (c_seq (c_seq (c_region (wl_p I_ok rfl (wl (st_ldN I_ok rfl (hb9.seg.obj hoi).tree (IdIn.len hoi.tree) ?_)))))))
          refine wl (st_call Tryz.call80 rfl rfl rfl rfl rfl rfl (textsB_calls w12 (hB.extNo hX) hoi.tree) fun v13 w13 hr13 => ?_)
          obtain ⟨q2, k2, rfl, hq2, hqn2, hE13⟩ := hr13
          have hb9 := hb9.extNo hE13
          have hIt := hIt.extNo hE13
          have hX := hX.thenNo hE13
          refine wl_p I_ok rfl (wl (st_al I_ok rfl fun b10 w14 hn10 hb10 hE14 => ?_))
          have ne9_10 : b9 ≠ b10 := Nat.ne_of_lt (Nat.lt_of_lt_of_le hb9.lt hn10)
          have fr10 := Nat.le_trans hX.size hn10
          have hb9 := hb9.extNo hE14
          have hIt := hIt.extNo hE14
          have hX := hX.thenNo hE14
          have hb10o := hb10
          refine wl (st_stW (l' := [.slice q2 ((toHp l).map ((toHp l).obj y).tree).length k2]) I_ok hb10 rfl rfl rfl rfl OneC.h fun w15 hb10 hE15 hs15 => ?_)
          have hb9 := hb9.ext1 hE15 ne9_10
          have hIt := hIt.ext hE15 (hIt.neB hb10o).1 (hIt.neB hb10o).2
          have hX := hX.thenNew hE15 fr10
          refine wl_p I_ok rfl (wl_nil (f_then (c_seq (c_region (wl_p I_ok rfl (wl_nil (f_then (c_if rfl (fun hc => ?_) (fun hc => ?_)))))))))
          · have hng : ¬ (toHp l).Good y := fun k => hc (k.2 hk3).1
            refine c_seq (c_region (wl_p I_ok rfl (wl_nil (f_then (c_ret (f_thenR (f_blockR (f_thenR (f_blockR (f_thenR (f_ret1 rfl rfl ?_)))))))))))
            exact ⟨by rw [closed3 hk0 hym hng], hX⟩
          · have hm0 : (toHp l).mapE ((toHp l).obj y).tree = 0 := Decidable.not_not.1 hc
            have hpl := (h.objSh y).parents
            have hnu := hoi.number
            have hol := h.objL y
            refine c_skip (f_then (c_seq (c_region (wl_p I_ok rfl (wl_nil (f_then (c_seq (c_seq (c_region (wl_p I_ok rfl (wl (st_ld I_ok rfl (hb9.seg.obj hoi).parents (wl_p I_ok rfl (wl_nil (f_then (c_block ?_))))))))))))))))
            refine c_loopK (α := Nat) [0, 9, 29, 53, 54] rfl (fun z => [(12, .int .u32 ((toHp l).top (((toHp l).obj y).parents.take z) : Int)), (55, .int .i64 (z : Int))]) (fun z u => ((z ≤ ((toHp l).obj y).parents.length ∧ ∀ t ∈ ((toHp l).obj y).parents.take z, (toHp l).kErr t 3 = 0 ∧ ((toHp l).kObj t 3).number < ((toHp l).obj y).number) ∧ IterB u it m Value.bool (ledF (toHp l) x) N (dn ++ [y])) ∧ Blk u b9 48 (objC ((toHp l).obj y) (objP l y)) ∧ Ext No w u) (fun z u => ((toHp l).obj y).parents.length - z) (0) rfl ⟨⟨⟨Nat.zero_le _, fun _ h => by simp at h⟩, hIt⟩, hb9, hX⟩ ?_
            rintro i w16 ⟨⟨⟨hi, hpk⟩, hIt⟩, hb9, hX⟩
            refine c_seq (c_region (wl_p I_ok rfl (wl_nil (f_then (c_seq (c_if rfl (fun hc => ?_) (fun hc => ?_)))))))
            · have hi : i < ((toHp l).obj y).parents.length := by omega
              obtain ⟨qb, qoff, hp, hsq⟩ := hol.parents.rowAll (fun r hr => IdIn.len (hoi.parents r hr)) (by omega)
              rw [hp]
              have ha1 : IdIn ((toHp l).obj y).parents[i] := hoi.parents _ (List.getElem_mem hi)
              refine c_skip (f_then (c_seq (c_block (c_seq (c_region (wl (st_ix I_ok rfl 32 rfl i rfl (by omega) (qoff + i * 32) rfl (wl (st_ldN I_ok rfl ((hsq i hi).extNo hX) ha1.len (wl (st_al I_ok rfl fun b14 w17 hn14 hb14 hE17 => ?_)))))))))))
              have ne9_14 : b9 ≠ b14 := Nat.ne_of_lt (Nat.lt_of_lt_of_le hb9.lt hn14)
              have fr14 := Nat.le_trans hX.size hn14
              have hb9 := hb9.extNo hE17
              have hIt := hIt.extNo hE17
              have hX := hX.thenNo hE17
              have hb14o := hb14
              refine wl (st_stW (l' := bytesU ((toHp l).obj y).parents[i]) I_ok hb14 rfl rfl ha1.len (by rw [bytesU_len, ha1]; rfl) OneC.h fun w18 hb14 hE18 hs18 => ?_)
              have hb9 := hb9.ext1 hE18 ne9_14
              have hIt := hIt.ext hE18 (hIt.neB hb14o).1 (hIt.neB hb14o).2
              have hX := hX.thenNew hE18 fr14
              refine wl_nil (f_then (c_seq (c_region (wl_p I_ok rfl (wl (st_ldB I_ok hb14 rfl ha1.len (wl (st_call Tryz.call79 rfl rfl rfl rfl rfl rfl (kindB_calls w18 (hB.extNo hX) ha1 3) fun v19 w19 hr19 => ?_))))))))
              obtain ⟨rfl, hE19⟩ := hr19
              have hb9 := hb9.extNo hE19
              have hIt := hIt.extNo hE19
              have hX := hX.thenNo hE19
              refine wl_p I_ok rfl (wl (st_al I_ok rfl fun b15 w20 hn15 hb15 hE20 => ?_))
              have ne9_15 : b9 ≠ b15 := Nat.ne_of_lt (Nat.lt_of_lt_of_le hb9.lt hn15)
              have fr15 := Nat.le_trans hX.size hn15
              have hb9 := hb9.extNo hE20
              have hIt := hIt.extNo hE20
              have hX := hX.thenNo hE20
              have hb15o := hb15
              refine wl (st_stW (l' := objC ((toHp l).kObj ((toHp l).obj y).parents[i] 3) (kObjP l ((toHp l).obj y).parents[i] 3)) I_ok hb15 rfl rfl (objC_len (HpIn.kIn h _ 3)) (by rw [objC_len (HpIn.kIn h _ 3)]; rfl) OneC.h fun w21 hb15 hE21 hs21 => ?_)
              have hb9 := hb9.ext1 hE21 ne9_15
              have hIt := hIt.ext hE21 (hIt.neB hb15o).1 (hIt.neB hb15o).2
              have hX := hX.thenNew hE21 fr15
              refine wl_p I_ok rfl (wl_nil (f_then (c_seq ?_)))
              refine c_cutK (α := Bool) [0, 9, 12, 15, 29, 53, 54, 55] rfl (fun z => [(73, .bool z)]) (fun z u => u = w21 ∧ z = decide (¬ ((toHp l).kErr ((toHp l).obj y).parents[i] 3 = 0 ∧ ((toHp l).kObj ((toHp l).obj y).parents[i] 3).number < ((toHp l).obj y).number))) ?_ ?_
              · refine c_region ?_
                refine wl_p I_ok rfl (wl_caseD 67 rfl (fun hg => ?_) (fun hg => ?_))
                · refine wl_pk I_ok 6 rfl ?_
                  refine wl_nil ?_
                  exact f_cut (true) rfl ⟨rfl, by symm; rw [decide_eq_true_eq]; exact fun k => hg k.1⟩
                · refine wl_pk I_ok 1 rfl ?_
                  refine wl (st_ld I_ok rfl (hb15.seg.obj (HpIn.kIn h _ 3)).number (wl_pk I_ok 1 rfl (wl (st_ld I_ok rfl (hb9.seg.obj hoi).number (wl_pk I_ok 2 rfl (wl_nil ?_))))))
                  exact f_cut (_) rfl ⟨rfl, by rw [decide_eq_decide]; exact ⟨fun k k2 => absurd k2.2 (by omega), fun k => by have : ¬ _ := fun k2 => k ⟨Decidable.not_not.1 hg, k2⟩; omega⟩⟩
              rintro z w22 ⟨hu, rfl⟩
              have hu := hu.symm
              subst hu
              refine c_cond rfl (fun hc => ?_) (fun hc => ?_)
              · have hbad := par_no hi (of_decide_eq_true hc)
                have hng : ¬ (toHp l).Good y := fun k => hbad (k.2 hk3).2
                refine c_seq (c_region (wl_p I_ok rfl (wl_nil (f_then (c_ret (f_thenR (f_blockR (f_thenR (f_thenR (f_blockR (f_thenR (f_blockR (f_thenR (f_blockR (f_thenR (f_ret1 rfl rfl ?_))))))))))))))))
                exact ⟨by rw [closed3 hk0 hym hng], hX⟩
              · have hgp := Decidable.not_not.1 (of_decide_eq_false hc)
                have hlt := hgp.2
                have htl := top_le (h := toHp l) fun y hy => (hpk y hy).2
                refine c_skip (f_then (c_region (wl_p I_ok rfl (wl (st_ld I_ok rfl (hb15.seg.obj (HpIn.kIn h _ 3)).number (wl_p I_ok rfl (wl_nil (f_blockN (f_then (c_region (wl_p I_ok rfl ?_)))))))))))
                rw [IntWalk.i64_in _ (by omega)]
                refine wl_nil ?_
                exact f_round (i + 1) (by rw [top_take hi, max_u32 hlt hnu]; rfl) ⟨⟨⟨hi, fun y hy => by rw [List.take_succ_eq_append_getElem hi] at hy; rcases List.mem_append.1 hy with hy | hy; exact hpk y hy; rw [List.mem_singleton.1 hy]; exact hgp⟩, hIt⟩, hb9, hX⟩ (by first | omega | (dsimp only; omega))
            · have h0 : i = ((toHp l).obj y).parents.length := by omega
              subst h0
              rw [List.take_length] at hpk ⊢
              refine c_exit (f_thenE (f_thenE (f_blockE (f_then (c_seq (c_region (wl_p I_ok rfl (wl (st_ld I_ok rfl (hb9.seg.obj hoi).number (wl_p I_ok rfl (wl_nil (f_then (c_if rfl (fun hc => ?_) (fun hc => ?_))))))))))))))
              · have hng : ¬ (toHp l).Good y := fun k => hc (by rw [(k.2 hk3).2.2])
                refine c_seq (c_region (wl_p I_ok rfl (wl_nil (f_then (c_ret (f_blockR (f_thenR (f_blockR (f_thenR (f_ret1 rfl rfl ?_))))))))))
                exact ⟨by rw [closed3 hk0 hym hng], hX⟩
              · have hgd : (toHp l).Good y := ⟨he0, fun _ => ⟨hm0, hpk, by have := Decidable.not_not.1 hc; omega⟩⟩
                refine c_skip ?_
                exact f_blockN (f_round (dn ++ [y]) rfl ⟨⟨fun z hz => by rcases List.mem_append.1 hz with hz | hz; exact hok z hz; rw [List.mem_singleton.1 hz]; exact hgd, hIt⟩, hX⟩ (by first | omega | (dsimp only; omega)))
end Go.Proofs.YtpcdihkcenfgkaaGreat
namespace Go.Proofs.YtpcdihkcenfgkaaGreat
open Go.Vc
/-- compared's answer -/
def cmpI (x y : IdB) : Int := if idLt x y then -1 else if x = y then 0 else 1
/-- cmp.Compare's answer -/
def cmpN (a b : Nat) : Int := if a < b then -1 else if b < a then 1 else 0
theorem lessS_calls (w : World) {x y : IdB} (hx : x.length = 32) (hy : y.length = 32) :
    CallsV Tryz.prog 73 [.agg (bytesU x).toArray, .agg (bytesU y).toArray] w fun v w' => v = .bool (decide (idLt x y)) ∧ Ext No w w' := by
  refine calls_enter Tryz.func73 rfl rfl rfl rfl ?_
  have hX := Ext.refl No w
  refine c_seq (c_region (wl (st_al I_ok rfl fun b2 w1 hn2 hb2 hE1 => ?_)))
  have hX := hX.thenNo hE1
  have hb2 : Blk w1 b2 31 (bytesU x) := hb2
  refine wl (st_al I_ok rfl fun b3 w2 hn3 hb3 hE2 => ?_)
  have hb2 := hb2.extNo hE2
  have hX := hX.thenNo hE2
  have hb3 : Blk w2 b3 31 (bytesU y) := hb3
  refine wl_p I_ok rfl (wl_nil (f_then (c_seq (c_seq (c_region (wl (st_ldB I_ok hb2 rfl (IdIn.len hx) (wl (st_ldB I_ok hb3 rfl (IdIn.len hy) (wl (st_eqK rfl gId 10 (by decide) kId (idForm hx) (idForm hy) (idKey hx) (idKey hy) idLits_inj ?_)))))))))))
  simp only [if_true]
  refine wl_nil (f_then (c_if rfl (fun hc => ?_) (fun hc => ?_)))
  · refine c_seq ?_
    refine c_region (wl_p I_ok rfl (wl_nil (f_then (c_ret (f_thenR (f_ret1 rfl rfl ?_))))))
    exact ⟨congrArg Value.bool (by symm; rw [decide_eq_false_iff_not, hc]; exact idLt_irrefl y), hX⟩
  · have hne : ¬ x = y := hc
    refine c_skip (f_then (c_seq (c_region (wl_p I_ok rfl (wl_nil (f_then (c_seq (c_block ?_))))))))
    refine c_loopK (α := Nat) [2, 3] rfl (fun z => [(5, .int .i64 (z : Int))]) (fun z u => (z < 32 ∧ ∀ k (h1 : k < x.length) (h2 : k < y.length), k < z → x[k] = y[k]) ∧ Blk u b2 31 (bytesU x) ∧ Blk u b3 31 (bytesU y) ∧ Ext No w u) (fun z u => 32 - z) (0) rfl ⟨⟨by decide, fun k _ _ h => absurd h (Nat.not_lt_zero _)⟩, hb2, hb3, hX⟩ ?_
    rintro i w3 ⟨⟨hi, hno⟩, hb2, hb3, hX⟩
    have hix : i < x.length := by omega
    have hiy : i < y.length := by omega
    refine c_seq (c_seq (c_draw rfl 7 [(0, true), (1, true), (2, true), (3, true), (4, true), (5, true), (6, true)] [] (No) (by kernel_rfl) fun w4 hE4 hs4 => ?_))
    have hd2 := hb2
    have hd3 := hb3
    have hb2 := hb2.extNo hE4
    have hb3 := hb3.extNo hE4
    have hX := hX.thenNo hE4
    refine wd_k I_ok 1 rfl (wd_ix I_ok rfl rfl 1 rfl i (by omega) (by omega) (0 + i) (by omega) (wd_ld I_ok rfl rfl (fun w' hw' => ((hd2.extNo hw').seg i _ (bytesU_get x (by rw [hx]; exact hi)))) ?_))
    refine wd_k I_ok 1 rfl (wd_ix I_ok rfl rfl 1 rfl i (by omega) (by omega) (0 + i) (by omega) (wd_ld I_ok rfl rfl (fun w' hw' => ((hd3.extNo hw').seg i _ (bytesU_get y (by rw [hy]; exact hi)))) ?_))
    refine wd_k I_ok 1 rfl (wd_sw (wb_nil (f_then (c_if rfl (fun hc => ?_) (fun hc => ?_)))))
    · have he : x[i] = y[i] := Decidable.not_not.1 fun k => byte_ne.2 k hc
      have hno2 : ∀ k (h1 : k < x.length) (h2 : k < y.length), k < i + 1 → x[k] = y[k] := fun k h1 h2 hlt => (Nat.lt_or_eq_of_le (Nat.le_of_lt_succ hlt)).elim (fun h => hno k h1 h2 h) fun h => by subst h; exact he
      have hi2 : i + 1 < 32 := by
        rcases Nat.lt_or_ge (i + 1) 32 with k | k
        · exact k
        · exact absurd (List.ext_getElem (by omega) fun j h1 h2 => hno2 j h1 h2 (by omega)) hne
      refine c_skip (f_then (c_block (c_region (wl_p I_ok rfl ?_))))
      rw [IntWalk.i64_in _ (by omega)]
      refine wl_nil ?_
      exact f_blockN (f_round (i + 1) rfl ⟨⟨hi2, hno2⟩, hb2, hb3, hX⟩ (by first | omega | (dsimp only; omega)))
    · have hne2 : x[i] ≠ y[i] := byte_ne.1 hc
      refine c_exit (f_thenE (f_thenE (f_blockE (f_then (c_seq (c_draw rfl 8 [(0, true), (1, true), (2, true), (3, true), (4, true), (5, true), (6, true), (7, true)] [] (No) (by kernel_rfl) fun w5 hE5 hs5 => ?_))))))
      have hd2 := hb2
      have hd3 := hb3
      have hX := hX.thenNo hE5
      refine wd_k I_ok 1 rfl (wd_ix I_ok rfl rfl 1 rfl i (by omega) (by omega) (0 + i) (by omega) (wd_ld I_ok rfl rfl (fun w' hw' => ((hd2.extNo hw').seg i _ (bytesU_get x (by rw [hx]; exact hi)))) ?_))
      refine wd_k I_ok 1 rfl (wd_ix I_ok rfl rfl 1 rfl i (by omega) (by omega) (0 + i) (by omega) (wd_ld I_ok rfl rfl (fun w' hw' => ((hd3.extNo hw').seg i _ (bytesU_get y (by rw [hy]; exact hi)))) ?_))
      refine wd_k I_ok 2 rfl (wd_sw (wb_nil (f_then (c_ret (f_ret1 rfl rfl ?_)))))
      exact ⟨congrArg Value.bool (by rw [decide_eq_decide, byte_lt, idLt, bl_at i x y hix hiy hno hne2, decide_eq_true_eq]), hX⟩

theorem compared_calls (w : World) {x y : IdB} (hx : x.length = 32) (hy : y.length = 32) :
    CallsV Tryz.prog 53 [.agg (bytesU x).toArray, .agg (bytesU y).toArray] w fun v w' => v = .int .i64 (cmpI x y) ∧ Ext No w w' := by
  refine calls_enter Tryz.func53 rfl rfl rfl rfl ?_
  have hX := Ext.refl No w
  refine c_seq (c_region (wl (st_al I_ok rfl fun b2 w1 hn2 hb2 hE1 => ?_)))
  have hX := hX.thenNo hE1
  have hb2 : Blk w1 b2 31 (bytesU x) := hb2
  refine wl (st_al I_ok rfl fun b3 w2 hn3 hb3 hE2 => ?_)
  have hb2 := hb2.extNo hE2
  have hX := hX.thenNo hE2
  have hb3 : Blk w2 b3 31 (bytesU y) := hb3
  refine wl_p I_ok rfl (wl_nil (f_then (c_seq (c_block (c_seq (c_region (wl (st_ldB I_ok hb2 rfl (IdIn.len hx) (wl (st_ldB I_ok hb3 rfl (IdIn.len hy) ?_))))))))))
  refine wl (st_call Tryz.call73 rfl rfl rfl rfl rfl rfl (lessS_calls w2 hx hy) fun v3 w3 hr3 => ?_)
  obtain ⟨rfl, hE3⟩ := hr3
  have hb2 := hb2.extNo hE3
  have hb3 := hb3.extNo hE3
  have hX := hX.thenNo hE3
  refine wl_p I_ok rfl (wl_nil (f_then (c_if rfl (fun hc => ?_) (fun hc => ?_))))
  · refine c_seq ?_
    refine c_region (wl_p I_ok rfl (wl_nil (f_then (c_ret (f_blockR (f_thenR (f_ret1 rfl rfl ?_)))))))
    exact ⟨by rw [cmpI, if_pos hc], hX⟩
  · have hlt := hc
    refine c_seq (c_region (wl (st_ldB I_ok hb2 rfl (IdIn.len hx) (wl (st_ldB I_ok hb3 rfl (IdIn.len hy) (wl (st_eqK rfl gId 10 (by decide) kId (idForm hx) (idForm hy) (idKey hx) (idKey hy) idLits_inj ?_)))))))
    simp only [if_true]
    refine wl_p I_ok rfl (wl_nil (f_then (c_if rfl (fun hc => ?_) (fun hc => ?_))))
    · refine c_seq ?_
      refine c_region (wl_p I_ok rfl (wl_nil (f_then (c_ret (f_blockR (f_thenR (f_ret1 rfl rfl ?_)))))))
      exact ⟨by rw [cmpI, if_neg hlt, if_pos hc], hX⟩
    · refine c_skip ?_
      refine f_blockN (f_then (c_seq (c_region (wl_p I_ok rfl (wl_nil (f_then (c_ret (f_ret1 rfl rfl ?_))))))))
      exact ⟨by rw [cmpI, if_neg hlt, if_neg hc], hX⟩

theorem isNaN_calls (w : World) (a : Nat) :
    CallsV Tryz.prog 72 [.int .u32 (a : Int)] w fun v w' => v = .bool false ∧ w' = w := by
  refine calls_enter Tryz.func72 rfl rfl rfl rfl ?_
  have hX := Ext.refl No w
  refine c_seq (c_region (wl_p I_ok rfl (wl_nil (f_then (c_seq (c_region (wl_p I_ok rfl (wl_nil (f_then (c_ret (f_ret1 rfl rfl ?_)))))))))))
  exact ⟨congrArg Value.bool (by simp), rfl⟩

theorem compareN_calls (w : World) (a b : Nat) :
    CallsV Tryz.prog 38 [.int .u32 (a : Int), .int .u32 (b : Int)] w fun v w' => v = .int .i64 (cmpN a b) ∧ w' = w := by
  refine calls_enter Tryz.func38 rfl rfl rfl rfl ?_
  have hX := Ext.refl No w
  refine c_seq (c_region (wl_p I_ok rfl (wl_nil (f_then (c_seq (c_region (wl_p I_ok rfl (wl (st_call Tryz.call72 rfl rfl rfl rfl rfl rfl (isNaN_calls w a) fun v1 w1 hr1 => ?_)))))))))
  obtain ⟨rfl, rfl⟩ := hr1
  refine wl_p I_ok rfl (wl_nil (f_then (c_seq (c_region (wl_p I_ok rfl (wl (st_call Tryz.call72 rfl rfl rfl rfl rfl rfl (isNaN_calls w1 b) fun v2 w2 hr2 => ?_)))))))
  obtain ⟨rfl, rfl⟩ := hr2
  refine wl_p I_ok rfl (wl_nil (f_then (c_seq (c_seq (c_region (wl_p I_ok rfl (wl_nil (f_then (c_condF rfl (c_skip (f_then (c_seq (c_seq (c_region (wl_p I_ok rfl (wl_nil (f_then (c_condF rfl (c_skip (f_then (c_seq (c_seq ?_))))))))))))))))))))))
  refine c_region (wl_p I_ok rfl (wl_nil (f_then (c_if rfl (fun hc => ?_) (fun hc => ?_)))))
  · refine c_seq ?_
    refine c_region (wl_p I_ok rfl (wl_nil (f_then (c_ret (f_thenR (f_ret1 rfl rfl ?_))))))
    exact ⟨by rw [cmpN, if_pos (Int.ofNat_lt.1 hc)], rfl⟩
  · have hlt := hc
    refine c_skip (f_then (c_seq (c_seq (c_region (wl_p I_ok rfl (wl_nil (f_then (c_if rfl (fun hc => ?_) (fun hc => ?_)))))))))
    · refine c_seq ?_
      refine c_region (wl_p I_ok rfl (wl_nil (f_then (c_ret (f_thenR (f_ret1 rfl rfl ?_))))))
      exact ⟨by rw [cmpN, if_neg (fun k => hlt (Int.ofNat_lt.2 k)), if_pos (Int.ofNat_lt.1 hc)], rfl⟩
    · refine c_skip ?_
      refine f_then (c_seq (c_region (wl_p I_ok rfl (wl_nil (f_then (c_ret (f_ret1 rfl rfl ?_)))))))
      exact ⟨by rw [cmpN, if_neg (fun k => hlt (Int.ofNat_lt.2 k)), if_neg (fun k => hc (Int.ofNat_lt.2 k))], rfl⟩

theorem orI_calls (w : World) {p : Option Addr} {c : Nat} {l : List Int} (h : Sl w p l.length 1 (l.map fun z => Value.int .i64 z)) (hl : l.length < 1000000) :
    CallsV Tryz.prog 36 [.slice p l.length c] w fun v w' => v = .int .i64 ((l.find? fun z => decide (z ≠ 0)).getD 0) ∧ w' = w := by
  refine calls_enter Tryz.func36 rfl rfl rfl rfl ?_
  have hX := Ext.refl No w
  refine c_seq (c_region (wl_p I_ok rfl (wl_nil (f_then (c_seq (c_region (wl_p I_ok rfl (wl_nil (f_then (c_seq (c_seq (c_region (wl_p I_ok rfl (wl_nil (f_then (c_block ?_))))))))))))))))
  refine c_loopK (α := Nat) [3, 6, 7] rfl (fun z => [(8, .int .i64 (z : Int))]) (fun z u => ((z ≤ l.length ∧ ∀ z0 ∈ l.take z, z0 = 0) ∧ u = w) ∧ Ext No w u) (fun z u => l.length - z) (0) rfl ⟨⟨⟨Nat.zero_le _, fun _ h => by simp at h⟩, rfl⟩, hX⟩ ?_
  rintro i w1 ⟨⟨⟨hi, hno⟩, rfl⟩, hX⟩
  refine c_seq (c_region (wl_p I_ok rfl (wl_nil (f_then (c_seq (c_if rfl (fun hc => ?_) (fun hc => ?_)))))))
  · have hi : i < l.length := by omega
    obtain ⟨qb, qoff, rfl, hq⟩ : ∃ qb qo, p = some ⟨qb, qo, none⟩ ∧ Seg w1 qb qo (l.map fun z => Value.int .i64 z) := by
      rcases h.2 with h0 | ⟨b', off, h1, h2⟩
      · omega
      · exact ⟨b', off, h1, h2⟩
    refine c_skip (f_then (c_seq (c_block (c_seq (c_region (wl (st_ix I_ok rfl 1 rfl i rfl hi (qoff + i * 1) rfl (wl (st_ld I_ok rfl (by rw [Nat.mul_one]; exact hq i _ (by rw [List.getElem?_map, List.getElem?_eq_getElem hi]; rfl)) ?_)))))))))
    refine wl_p I_ok rfl (wl_nil (f_then (c_seq (c_region (wl_p I_ok rfl (wl_nil (f_then (c_if rfl (fun hc => ?_) (fun hc => ?_)))))))))
    · have hf : l.find? (fun z => decide (z ≠ 0)) = some l[i] := by
        rw [List.find?_eq_some_iff_append]
        exact ⟨by simpa using hc, l.take i, l.drop (i + 1), by rw [← List.drop_eq_getElem_cons hi, List.take_append_drop], fun z hz => by simp [hno z hz]⟩
      refine c_seq (c_region (wl_p I_ok rfl (wl_nil (f_then (c_ret (f_blockR (f_thenR (f_thenR (f_blockR (f_thenR (f_ret1 rfl rfl ?_)))))))))))
      exact ⟨by rw [hf]; rfl, rfl⟩
    · have hz0 : l[i] = 0 := Decidable.not_not.1 hc
      refine c_skip (f_blockN (f_then (c_region (wl_p I_ok rfl ?_))))
      rw [IntWalk.i64_in _ (by omega)]
      refine wl_nil ?_
      exact f_round (i + 1) rfl ⟨⟨⟨hi, fun z0 hz => by rw [List.take_succ_eq_append_getElem hi] at hz; rcases List.mem_append.1 hz with hz | hz; exact hno z0 hz; rw [List.mem_singleton.1 hz]; exact hz0⟩, rfl⟩, hX⟩ (by first | omega | (dsimp only; omega))
  · have h0 : i = l.length := by omega
    subst h0
    rw [List.take_length] at hno
    have hf : l.find? (fun z => decide (z ≠ 0)) = none := by rw [List.find?_eq_none]; intro z hz; simp [hno z hz]
    refine c_exit (f_thenE (f_thenE (f_blockE (f_then (c_seq (c_region (wl_p I_ok rfl (wl_nil (f_then (c_ret (f_ret1 rfl rfl ?_)))))))))))
    exact ⟨by rw [hf]; rfl, rfl⟩
end Go.Proofs.YtpcdihkcenfgkaaGreat
namespace Go.Proofs.YtpcdihkcenfgkaaGreat
open Go.Vc
theorem objC_num {o : ObjD} {a : ObjP} (h : ObjIn o) : (objC o a)[70]? = some (.int .u32 (o.number : Int)) := by
  unfold objC
  rw [List.getElem?_append_right (by simp), List.getElem?_append_right (by simp [bytesU_len, h.tree]), List.getElem?_append_right (by simp [bytesU_len, h.tree, h.base])]
  simp [bytesU_len, h.tree, h.base]
theorem objC_kind {o : ObjD} {a : ObjP} : (objC o a)[0]? = some (.int .i64 o.kind) := rfl
theorem compareN_ext (w : World) (a b : Nat) : CallsV Tryz.prog 38 [.int .u32 (a : Int), .int .u32 (b : Int)] w fun v w' => v = .int .i64 (cmpN a b) ∧ Ext No w w' := (compareN_calls w a b).mono fun _v w' h => ⟨h.1, h.2 ▸ Ext.refl _ _⟩
theorem orI_ext (w : World) {p : Option Addr} {c : Nat} {l : List Int} (h : Sl w p l.length 1 (l.map fun z => Value.int .i64 z)) (hl : l.length < 1000000) : CallsV Tryz.prog 36 [.slice p l.length c] w fun v w' => v = .int .i64 ((l.find? fun z => decide (z ≠ 0)).getD 0) ∧ Ext No w w' := (orI_calls w h hl).mono fun _v w' h => ⟨h.1, h.2 ▸ Ext.refl _ _⟩
end Go.Proofs.YtpcdihkcenfgkaaGreat
namespace Go.Proofs.YtpcdihkcenfgkaaGreat
open Go.Vc
end Go.Proofs.YtpcdihkcenfgkaaGreat
namespace Go.Proofs.YtpcdihkcenfgkaaGreat
open Go.Vc
end Go.Proofs.YtpcdihkcenfgkaaGreat
namespace Go.Proofs.YtpcdihkcenfgkaaGreat
open Go.Vc
def heldB (t : Str) : HeldT := ⟨idOf (blobO t), blobO t, noP⟩
def addT (acc : List Str) (r : RowD) : List Str := if r.text ∈ acc then acc else acc ++ [r.text]
/-- a map's texts, each once -/
def refT (l : List RowD) : List Str := l.foldl addT []
theorem refT_take {l : List RowD} {i : Nat} (h : i < l.length) : refT (l.take (i + 1)) = addT (refT (l.take i)) l[i] := by
  rw [List.take_succ_eq_append_getElem h, refT, List.foldl_append]; rfl
theorem refT_len (l : List RowD) : (refT l).length ≤ l.length := by
  have : ∀ (l : List RowD) (acc : List Str), (l.foldl addT acc).length ≤ acc.length + l.length := by
    intro l
    induction l with
    | nil => intro acc; simp
    | cons r l ih =>
      intro acc
      have h1 := ih (addT acc r)
      have h2 : (addT acc r).length ≤ acc.length + 1 := by unfold addT; split <;> simp
      rw [List.foldl_cons, List.length_cons]
      omega
  simpa [refT] using this l []
theorem heldB_in (t : Str) : (heldC (heldB t)).length = 105 := heldC_len (idOf_len _) (blobO_in _)
theorem heldBs {l : List Str} : ∀ h ∈ l.map heldB, (heldC h).length = 105 := fun h hh => by obtain ⟨t, _, rfl⟩ := List.mem_map.1 hh; exact heldB_in t
/-- a map's parts, as the document has them -/
def refP (l : List RowD) (a : ObjP) : List HeldT := (refT l).map heldB ++ [⟨idOf (treeOf l), treeOf l, a⟩]
theorem mem_step {α : Type} [DecidableEq α] {l : List α} {j : Nat} (h : j < l.length) {x : α} : x ∈ l.take (j + 1) ↔ x ∈ l.take j ∨ l[j] = x := by
  rw [List.take_succ_eq_append_getElem h, List.mem_append, List.mem_singleton]
  exact ⟨fun h => h.imp id Eq.symm, fun h => h.imp id Eq.symm⟩
theorem parts6_calls (w : World) {p : Option Addr} {c : Nat} {rows : List RowD} (hrows : RowsOk rows) (hs : Sl w p rows.length 2 (rows.flatMap RowD.cells)) :
    CallsV Tryz.prog 30 [.agg #[.slice p rows.length c]] w fun v w' => ∃ q k lp lc, (ObjOk (treeOf rows) → v = .slice q (refP rows (lfP lp lc)).length k ∧ Own w' q (refP rows (lfP lp lc)).length k 84 105 ((refP rows (lfP lp lc)).flatMap heldC)) ∧ (¬ ObjOk (treeOf rows) → v = .slice none 0 0) ∧
      (∀ x, OwnB q x → w.heap.size ≤ x) ∧ Own w' lp (leavesOf rows).length lc 50 33 ((leavesOf rows).flatMap LeafD.cells) ∧ (∀ x, OwnB lp x → w.heap.size ≤ x) ∧ Ext No w w' := by
  have hr32 := rows_at hrows
  have hll : (leavesOf rows).length = rows.length := by rw [leavesOf, List.length_map]
  refine calls_enter Tryz.func30 rfl rfl rfl rfl ?_
  have hX := Ext.refl No w
  refine c_seq (c_region (wl (st_al I_ok rfl fun b1 w1 hn1 hb1 hE1 => ?_)))
  have hX := hX.thenNo hE1
  have hb1 : Blk w1 b1 76 ([.slice p rows.length c]) := hb1
  refine wl_p I_ok rfl (wl_nil (f_then (c_seq (c_region (wl_p I_ok rfl (wl_nil (f_then (c_seq (c_region (wl (st_bd I_ok rfl ⟨⟨rfl, by decide⟩, trivial⟩ (l' := objC (treeO []) noP) (by rw [← objZ_c]; rfl) ?_)))))))))))
  refine wl (st_al I_ok rfl fun b4 w2 hn4 hb4 hE2 => ?_)
  have ne1_4 : b1 ≠ b4 := Nat.ne_of_lt (Nat.lt_of_lt_of_le hb1.lt hn4)
  have fr4 := Nat.le_trans hX.size hn4
  have hb1 := hb1.extNo hE2
  have hX := hX.thenNo hE2
  have hb4o := hb4
  refine wl (st_stW (l' := objC (treeO []) noP) I_ok hb4 rfl rfl rfl rfl OneC.h fun w3 hb4 hE3 hs3 => ?_)
  have hb1 := hb1.ext1 hE3 ne1_4
  have hX := hX.thenNew hE3 fr4
  refine wl_nil (f_then (c_seq (c_seq (c_region (wl_p I_ok rfl (wl (st_ldb I_ok hb1 rfl rfl (wl_p I_ok rfl (wl_nil (f_then (c_block ?_)))))))))))
  refine c_loopK (α := Nat × (Option Addr × Nat) × (Option Addr × Nat)) [4, 14, 15] rfl (fun z => [(3, .slice z.2.1.1 (refT (rows.take z.1)).length z.2.1.2), (16, .int .i64 (z.1 : Int))]) (fun z u => (z.1 ≤ rows.length ∧ Own u z.2.1.1 (refT (rows.take z.1)).length z.2.1.2 84 105 (((refT (rows.take z.1)).map heldB).flatMap heldC) ∧ (∀ x, OwnB z.2.1.1 x → w.heap.size ≤ x) ∧ Own u z.2.2.1 ((leavesOf rows).take z.1).length z.2.2.2 50 33 (((leavesOf rows).take z.1).flatMap LeafD.cells) ∧ (∀ x, OwnB z.2.2.1 x → w.heap.size ≤ x)) ∧ Blk u b1 76 ([.slice p rows.length c]) ∧ Blk u b4 48 (objC (treeO ((leavesOf rows).take z.1)) (lfP z.2.2.1 z.2.2.2)) ∧ Ext No w u) (fun z u => rows.length - z.1) (0, (none, 0), (none, 0)) rfl ⟨⟨Nat.zero_le _, Own.nil _ _ _, noOwn, Own.nil _ _ _, noOwn⟩, hb1, hb4, hX⟩ ?_
  rintro ⟨i, ⟨q, k⟩, ⟨lp, lc⟩⟩ w4 ⟨⟨hi, hq, hqn, hlf, hlfn⟩, hb1, hb4, hX⟩
  try dsimp only
  dsimp only at hi hq hqn hlf hlfn
  refine c_seq (c_region (wl_p I_ok rfl (wl_nil (f_then (c_seq (c_if rfl (fun hc => ?_) (fun hc => ?_)))))))
  · have hi : i < rows.length := by omega
    obtain ⟨qb, qoff, hp, hsq⟩ := hs.rowAll (fun r _ => r.len) (by omega)
    rw [hp] at hb1 ⊢
    have hri := hr32.2 _ (List.getElem_mem hi)
    have htl : ((leavesOf rows).take i).length = i := by rw [List.length_take, hll]; omega
    have hacl : (refT (rows.take i)).length ≤ i := Nat.le_trans (refT_len _) (by rw [List.length_take]; omega)
    refine c_skip (f_then (c_seq (c_block (c_seq (c_region (wl (st_ix I_ok rfl 2 rfl i rfl (by omega) (qoff + i * 2) rfl (wl (st_ldN I_ok rfl ((hsq i hi).extNo hX) rfl (wl (st_al I_ok rfl fun b6 w5 hn6 hb6 hE5 => ?_)))))))))))
    have ne1_6 : b1 ≠ b6 := Nat.ne_of_lt (Nat.lt_of_lt_of_le hb1.lt hn6)
    have ne4_6 : b4 ≠ b6 := Nat.ne_of_lt (Nat.lt_of_lt_of_le hb4.lt hn6)
    have fr6 := Nat.le_trans hX.size hn6
    have hb1 := hb1.extNo hE5
    have hb4 := hb4.extNo hE5
    have hq := hq.ext hE5 fun _ _ => id
    have hlf := hlf.ext hE5 fun _ _ => id
    have hX := hX.thenNo hE5
    skip
    have hb6o := hb6
    refine wl (st_stW (l' := (rows[i]).cells) I_ok hb6 rfl rfl rfl rfl OneC.h fun w6 hb6 hE6 hs6 => ?_)
    have hb1 := hb1.ext1 hE6 ne1_6
    have hb4 := hb4.ext1 hE6 ne4_6
    have hq := hq.extTy hE6 hb6o (by decide)
    have hlf := hlf.extTy hE6 hb6o (by decide)
    have hX := hX.thenNew hE6 fr6
    refine wl_nil (f_then (c_seq (c_region (wl_p I_ok rfl (wl (st_ldb I_ok hb6 rfl rfl (wl (st_bd I_ok rfl ⟨⟨rfl, by decide⟩, ⟨rfl, by decide⟩, trivial⟩ (l' := objC (blobO (rows[i]).text) noP) (by rw [← objZ_c]; rfl) ?_))))))))
    refine wl (st_al I_ok rfl fun b7 w7 hn7 hb7 hE7 => ?_)
    have ne1_7 : b1 ≠ b7 := Nat.ne_of_lt (Nat.lt_of_lt_of_le hb1.lt hn7)
    have ne4_7 : b4 ≠ b7 := Nat.ne_of_lt (Nat.lt_of_lt_of_le hb4.lt hn7)
    have ne6_7 : b6 ≠ b7 := Nat.ne_of_lt (Nat.lt_of_lt_of_le hb6.lt hn7)
    have fr7 := Nat.le_trans hX.size hn7
    have hb1 := hb1.extNo hE7
    have hb4 := hb4.extNo hE7
    have hb6 := hb6.extNo hE7
    have hq := hq.ext hE7 fun _ _ => id
    have hlf := hlf.ext hE7 fun _ _ => id
    have hX := hX.thenNo hE7
    have hb7o := hb7
    refine wl (st_stW (l' := objC (blobO (rows[i]).text) noP) I_ok hb7 rfl rfl rfl rfl OneC.h fun w8 hb7 hE8 hs8 => ?_)
    have hb1 := hb1.ext1 hE8 ne1_7
    have hb4 := hb4.ext1 hE8 ne4_7
    have hb6 := hb6.ext1 hE8 ne6_7
    have hq := hq.extTy hE8 hb7o (by decide)
    have hlf := hlf.extTy hE8 hb7o (by decide)
    have hX := hX.thenNew hE8 fr7
    refine wl_nil (f_then (c_seq (c_region (wl (st_ldB I_ok hb7 rfl rfl (wl (st_call Tryz.call33 rfl rfl rfl rfl rfl rfl (id6_calls w8 (blobO_in _) (blob_l _ _) (bytes_of (blob_ok hri.2).1)) fun v9 w9 hr9 => ?_)))))))
    obtain ⟨rfl, hE9⟩ := hr9
    have hb1 := hb1.extNo hE9
    have hb4 := hb4.extNo hE9
    have hb6 := hb6.extNo hE9
    have hb7 := hb7.extNo hE9
    have hq := hq.ext hE9 fun _ _ => id
    have hlf := hlf.ext hE9 fun _ _ => id
    have hX := hX.thenNo hE9
    refine wl (st_al I_ok rfl fun b8 w10 hn8 hb8 hE10 => ?_)
    have ne1_8 : b1 ≠ b8 := Nat.ne_of_lt (Nat.lt_of_lt_of_le hb1.lt hn8)
    have ne4_8 : b4 ≠ b8 := Nat.ne_of_lt (Nat.lt_of_lt_of_le hb4.lt hn8)
    have ne6_8 : b6 ≠ b8 := Nat.ne_of_lt (Nat.lt_of_lt_of_le hb6.lt hn8)
    have ne7_8 : b7 ≠ b8 := Nat.ne_of_lt (Nat.lt_of_lt_of_le hb7.lt hn8)
    have fr8 := Nat.le_trans hX.size hn8
    have hb1 := hb1.extNo hE10
    have hb4 := hb4.extNo hE10
    have hb6 := hb6.extNo hE10
    have hb7 := hb7.extNo hE10
    have hq := hq.ext hE10 fun _ _ => id
    have hlf := hlf.ext hE10 fun _ _ => id
    have hX := hX.thenNo hE10
    have hb8o := hb8
    refine wl (st_stW (l' := bytesU (idOf (blobO (rows[i]).text))) I_ok hb8 rfl rfl (by rw [bytesU_len, idOf_len]) (by rw [bytesU_len, idOf_len]; rfl) OneC.h fun w11 hb8 hE11 hs11 => ?_)
    have hb1 := hb1.ext1 hE11 ne1_8
    have hb4 := hb4.ext1 hE11 ne4_8
    have hb6 := hb6.ext1 hE11 ne6_8
    have hb7 := hb7.ext1 hE11 ne7_8
    have hq := hq.extTy hE11 hb8o (by decide)
    have hlf := hlf.extTy hE11 hb8o (by decide)
    have hX := hX.thenNew hE11 fr8
    refine wl_nil (f_then (c_seq (c_region (wl_p I_ok rfl (wl_nil (f_then (c_seq (c_seq (c_region (wl_p I_ok rfl (wl_nil (f_then (c_block ?_)))))))))))))
    refine c_loopK (α := Nat) [3, 4, 6, 7, 8, 14, 15, 16, 25, 26] rfl (fun z => [(9, .bool (decide ((rows[i]).text ∈ (refT (rows.take i)).take z))), (27, .int .i64 (z : Int))]) (fun z u => (z ≤ (refT (rows.take i)).length ∧ Own u q (refT (rows.take i)).length k 84 105 (((refT (rows.take i)).map heldB).flatMap heldC) ∧ Own u lp ((leavesOf rows).take i).length lc 50 33 (((leavesOf rows).take i).flatMap LeafD.cells)) ∧ Blk u b1 76 ([.slice (some ⟨qb, qoff, none⟩) rows.length c]) ∧ Blk u b4 48 (objC (treeO ((leavesOf rows).take i)) (lfP lp lc)) ∧ Blk u b6 73 ((rows[i]).cells) ∧ Blk u b7 48 (objC (blobO (rows[i]).text) noP) ∧ Blk u b8 31 (bytesU (idOf (blobO (rows[i]).text))) ∧ Ext No w u) (fun z u => (refT (rows.take i)).length - z) (0) rfl ⟨⟨Nat.zero_le _, hq, hlf⟩, hb1, hb4, hb6, hb7, hb8, hX⟩ ?_
    rintro j w12 ⟨⟨hj, hq, hlf⟩, hb1, hb4, hb6, hb7, hb8, hX⟩
    refine c_seq (c_region (wl_p I_ok rfl (wl_nil (f_then (c_seq (c_if rfl (fun hc => ?_) (fun hc => ?_)))))))
    · have hj : j < (refT (rows.take i)).length := by omega
      have hjm : j < ((refT (rows.take i)).map heldB).length := by rw [List.length_map]; exact hj
      have hqs : Sl w12 q ((refT (rows.take i)).map heldB).length 105 (((refT (rows.take i)).map heldB).flatMap heldC) := by rw [List.length_map]; exact hq.sl
      obtain ⟨hb, hoff, hqe, hsh⟩ := hqs.rowAll heldBs (by omega)
      have hrow := hsh j hjm
      rw [List.getElem_map] at hrow
      rw [hqe] at hq ⊢
      have hq0 := hq
      refine c_skip (f_then ?_)
      refine c_cutK (α := Bool) [3, 4, 6, 7, 8, 14, 15, 16, 25, 26, 27] rfl (fun z => [(9, .bool z)]) (fun z u => (z = decide ((rows[i]).text ∈ (refT (rows.take i)).take (j + 1)) ∧ Own u (some ⟨hb, hoff, none⟩) (refT (rows.take i)).length k 84 105 (((refT (rows.take i)).map heldB).flatMap heldC) ∧ Own u lp ((leavesOf rows).take i).length lc 50 33 (((leavesOf rows).take i).flatMap LeafD.cells)) ∧ Blk u b1 76 ([.slice (some ⟨qb, qoff, none⟩) rows.length c]) ∧ Blk u b4 48 (objC (treeO ((leavesOf rows).take i)) (lfP lp lc)) ∧ Blk u b6 73 ((rows[i]).cells) ∧ Blk u b7 48 (objC (blobO (rows[i]).text) noP) ∧ Blk u b8 31 (bytesU (idOf (blobO (rows[i]).text))) ∧ Ext No w u) ?_ ?_
      · refine c_block ?_
        refine c_seq (c_region (wl (st_ix I_ok rfl 105 rfl j rfl hj (hoff + j * 105) rfl (wl (st_ldN I_ok rfl hrow (heldB_in _) (wl (st_al I_ok rfl fun b11 w13 hn11 hb11 hE13 => ?_)))))))
        have ne1_11 : b1 ≠ b11 := Nat.ne_of_lt (Nat.lt_of_lt_of_le hb1.lt hn11)
        have ne4_11 : b4 ≠ b11 := Nat.ne_of_lt (Nat.lt_of_lt_of_le hb4.lt hn11)
        have ne6_11 : b6 ≠ b11 := Nat.ne_of_lt (Nat.lt_of_lt_of_le hb6.lt hn11)
        have ne7_11 : b7 ≠ b11 := Nat.ne_of_lt (Nat.lt_of_lt_of_le hb7.lt hn11)
        have ne8_11 : b8 ≠ b11 := Nat.ne_of_lt (Nat.lt_of_lt_of_le hb8.lt hn11)
        have fr11 := Nat.le_trans hX.size hn11
        have hb1 := hb1.extNo hE13
        have hb4 := hb4.extNo hE13
        have hb6 := hb6.extNo hE13
        have hb7 := hb7.extNo hE13
        have hb8 := hb8.extNo hE13
        have hq := hq.ext hE13 fun _ _ => id
        have hlf := hlf.ext hE13 fun _ _ => id
        have hX := hX.thenNo hE13
        have ne11 : ∀ x, OwnB _ x → x ≠ b11 := fun x hx => Nat.ne_of_lt (Nat.lt_of_lt_of_le (hq0.lt hx) hn11)
        have hb11o := hb11
        refine wl (st_stW (l' := heldC (heldB ((refT (rows.take i))[j]))) I_ok hb11 rfl rfl (heldB_in _) (by rw [heldB_in]; rfl) OneC.h fun w14 hb11 hE14 hs14 => ?_)
        have hb1 := hb1.ext1 hE14 ne1_11
        have hb4 := hb4.ext1 hE14 ne4_11
        have hb6 := hb6.ext1 hE14 ne6_11
        have hb7 := hb7.ext1 hE14 ne7_11
        have hb8 := hb8.ext1 hE14 ne8_11
        have hq := hq.ext hE14 (fun x hx => ne11 x hx)
        have hlf := hlf.extTy hE14 hb11o (by decide)
        have hX := hX.thenNew hE14 fr11
        refine wl_nil (f_then (c_region (wl_p I_ok rfl (wl_caseD 32 rfl (fun hg => ?_) (fun hg => ?_)))))
        · refine wl_pk I_ok 12 rfl ?_
          refine wl_nil ?_
          exact f_blockN (f_cut (true) rfl ⟨⟨(decide_eq_true ((mem_step hj).2 (.inl hg))).symm, hq, hlf⟩, hb1, hb4, hb6, hb7, hb8, hX⟩)
        · have hg1 := hg
          refine wl_pk I_ok 1 rfl (wl (st_ldN I_ok rfl (held_id hb11.seg) (by rw [bytesU_len]; exact idOf_len _) (wl (st_ldB I_ok hb8 rfl (by rw [bytesU_len, idOf_len]) ?_))))
          refine wl (st_eqK rfl gId 10 (by decide) kId (idForm (idOf_len _)) (idForm (idOf_len _)) (idKey (idOf_len _)) (idKey (idOf_len _)) idLits_inj ?_)
          simp only []
          refine wl_pk I_ok 1 rfl (wl_caseD 37 rfl (fun hg => ?_) (fun hg => ?_))
          · refine wl_pk I_ok 1 rfl ?_
            refine wl (st_ldN I_ok rfl (held_obj hb11.seg (idOf_len _)) (objC_len (blobO_in _)) (wl (st_ldB I_ok hb7 rfl rfl ?_)))
            refine wl (st_call Tryz.call15 rfl rfl rfl rfl rfl rfl (same6_calls w14 (blobO_in _) (blobO_in _) (blob_l _ _) (blob_l _ _) (blob_sh _)) fun v15 w15 hr15 => ?_)
            obtain ⟨rfl, hE15⟩ := hr15
            have hb1 := hb1.extNo hE15
            have hb4 := hb4.extNo hE15
            have hb6 := hb6.extNo hE15
            have hb7 := hb7.extNo hE15
            have hb8 := hb8.extNo hE15
            have hq := hq.ext hE15 fun _ _ => id
            have hlf := hlf.ext hE15 fun _ _ => id
            have hX := hX.thenNo hE15
            refine wl_pk I_ok 3 rfl (wl_nil ?_)
            exact f_blockN (f_cut (_) rfl ⟨⟨by rw [decide_eq_decide, mem_step hj]; exact ⟨fun h => .inr (congrArg ObjD.text h), fun h => h.elim (fun h => absurd h hg1) fun h => congrArg blobO h⟩, hq, hlf⟩, hb1, hb4, hb6, hb7, hb8, hX⟩)
          · refine wl_pk I_ok 7 rfl ?_
            refine wl_nil ?_
            exact f_blockN (f_cut (false) rfl ⟨⟨(decide_eq_false (fun h => ((mem_step hj).1 h).elim (fun h => hg1 h) fun h => hg (by rw [h]; rfl))).symm, hq, hlf⟩, hb1, hb4, hb6, hb7, hb8, hX⟩)
      rintro z w16 ⟨⟨rfl, hq, hlf⟩, hb1, hb4, hb6, hb7, hb8, hX⟩
      refine c_region (wl_p I_ok rfl ?_)
      rw [IntWalk.i64_in _ (by omega)]
      refine wl_nil ?_
      exact f_round (j + 1) rfl ⟨⟨hj, hq, hlf⟩, hb1, hb4, hb6, hb7, hb8, hX⟩ (by first | omega | (dsimp only; omega))
    · have hja : (refT (rows.take i)).take j = (refT (rows.take i)) := List.take_of_length_le (by omega)
      rw [hja]
      refine c_exit (f_thenE (f_thenE (f_blockE (f_then ?_))))
      refine c_cutK (α := Option Addr × Nat) [4, 6, 8, 14, 15, 16] rfl (fun z => [(3, .slice z.1 (refT (rows.take (i + 1))).length z.2)]) (fun z u => (Own u z.1 (refT (rows.take (i + 1))).length z.2 84 105 (((refT (rows.take (i + 1))).map heldB).flatMap heldC) ∧ (∀ x, OwnB z.1 x → w.heap.size ≤ x) ∧ Own u lp ((leavesOf rows).take i).length lc 50 33 (((leavesOf rows).take i).flatMap LeafD.cells)) ∧ Blk u b1 76 ([.slice (some ⟨qb, qoff, none⟩) rows.length c]) ∧ Blk u b4 48 (objC (treeO ((leavesOf rows).take i)) (lfP lp lc)) ∧ Blk u b6 73 ((rows[i]).cells) ∧ Blk u b8 31 (bytesU (idOf (blobO (rows[i]).text))) ∧ Ext No w u) ?_ ?_
      · refine c_seq ?_
        refine c_region (wl_p I_ok rfl (wl_nil (f_then (c_cond rfl (fun hc => ?_) (fun hc => ?_)))))
        · have hnm : ¬ (rows[i]).text ∈ (refT (rows.take i)) := by simpa using hc
          have eA : (refT (rows.take (i + 1))) = (refT (rows.take i)) ++ [(rows[i]).text] := by rw [refT_take hi, addT, if_neg hnm]
          refine c_region (wl_p I_ok rfl (wl (st_ldB I_ok hb8 rfl (by rw [bytesU_len, idOf_len]) (wl (st_ldB I_ok hb7 rfl rfl ?_)))))
          refine wl (st_bd I_ok rfl ⟨⟨by rw [cellsOf_agg, bytesU_len, idOf_len _], by decide⟩, ⟨by rw [cellsOf_agg]; exact objC_len (blobO_in _), by decide⟩, trivial⟩ (l' := heldC ⟨idOf (blobO (rows[i]).text), blobO (rows[i]).text, noP⟩) (by rw [heldZ_c]; exact held_build (idOf_len _) (blobO_in _)) ?_)
          refine wl (st_bs I_ok rfl 105 rfl heldZ_c (by rw [List.length_append, bytesU_len, objC_len objZ_in]; rfl) (by decide) (by decide) ⟨⟨by rw [cellsOf_agg]; exact heldB_in _, by decide⟩, trivial⟩ (l' := heldC (heldB (rows[i]).text)) (one_held (heldB_in _)) fun b51 w17 hn51 hb51 hE17 hs17 => ?_)
          have hb1 := hb1.extNo hE17
          have hb4 := hb4.extNo hE17
          have hb6 := hb6.extNo hE17
          have hb8 := hb8.extNo hE17
          have hq := hq.ext hE17 fun _ _ => id
          have hlf := hlf.ext hE17 fun _ _ => id
          have hX := hX.thenNo hE17
          have hX1 := hX
          refine wl (st_app I_ok rfl 105 224 rfl rfl rfl (by decide) hq (Src.slice (m := 1) ⟨heldB_in _, .inr ⟨b51, 0, rfl, hb51.seg⟩⟩ OneC.h) (by dsimp only [maxLen]; omega) (by dsimp only; omega) fun p18 c18 w18 ho18 hE18 hB18 => ?_)
          dsimp only at ho18 hE18 hB18 ⊢
          have hX := hX1.trans hE18 fun y hy hF => by have := hqn y hF; omega
          have hb1 := hb1.extOwn hq hE18 (by decide)
          have hb4 := hb4.extOwn hq hE18 (by decide)
          have hb6 := hb6.extOwn hq hE18 (by decide)
          have hb8 := hb8.extOwn hq hE18 (by decide)
          have hlf := hlf.ext hE18 (fun x hx hx2 => by obtain ⟨L1, h1⟩ := hlf.blkAt hx; obtain ⟨L2, h2⟩ := hq.blkAt hx2; exact absurd (h1.uniq h2).2 (by decide))
          have hsz1 := hX1.size
          obtain ⟨q2, k2, e1, e2, hq2⟩ : ∃ q2 k2, q2 = p18 ∧ k2 = c18 ∧ Own w18 q2 (refT (rows.take (i + 1))).length k2 84 105 (((refT (rows.take (i + 1))).map heldB).flatMap heldC) := ⟨_, _, rfl, rfl, by
            rw [eA, List.map_append, List.flatMap_append, List.length_append]
            simpa using ho18⟩
          rw [← e1] at hB18
          rw [← e1, ← e2, show (refT (rows.take i)).length + 1 = (refT (rows.take (i + 1))).length from by rw [eA, List.length_append]; rfl]
          have hqn2 : (∀ x, OwnB q2 x → w.heap.size ≤ x) := fun x hx => (hB18 x hx).elim (fun h => hqn x h) fun h => by omega
          refine wl_p I_ok rfl (wl_nil ?_)
          exact f_cut (q2, k2) rfl ⟨⟨hq2, hqn2, hlf⟩, hb1, hb4, hb6, hb8, hX⟩
        · have hnm : (rows[i]).text ∈ (refT (rows.take i)) := by simpa using hc
          have eA : (refT (rows.take (i + 1))) = (refT (rows.take i)) := by rw [refT_take hi, addT, if_pos hnm]
          rw [← eA] at hq ⊢
          refine c_skip ?_
          exact f_cut (q, k) rfl ⟨⟨hq, hqn, hlf⟩, hb1, hb4, hb6, hb8, hX⟩
      rintro ⟨q2, k2⟩ w19 ⟨⟨hq, hqn2, hlf⟩, hb1, hb4, hb6, hb8, hX⟩
      try dsimp only
      dsimp only at hq hqn2 hlf
      refine c_region (wl_p I_ok rfl (wl (st_ldb I_ok hb4 rfl rfl (wl_p I_ok rfl (wl (st_ldb I_ok hb6 rfl rfl (wl (st_ldB I_ok hb8 rfl (by rw [bytesU_len, idOf_len]) ?_))))))))
      refine wl (st_bd I_ok rfl ⟨⟨rfl, by decide⟩, ⟨by rw [cellsOf_agg, bytesU_len, idOf_len], by decide⟩, trivial⟩ (l' := (leafOf rows[i]).cells) (by rw [leafZ_c]; exact leaf_build (idOf_len _)) ?_)
      refine wl (st_bs I_ok rfl 33 rfl leafZ_c (LeafD.len rfl) (by decide) (by decide) ⟨⟨by rw [cellsOf_agg]; exact (LeafD.len (idOf_len _)), by decide⟩, trivial⟩ (l' := (leafOf rows[i]).cells) (one_leaf (idOf_len _)) fun b59 w20 hn59 hb59 hE20 hs20 => ?_)
      have hb1 := hb1.extNo hE20
      have hb4 := hb4.extNo hE20
      have hq := hq.ext hE20 fun _ _ => id
      have hlf := hlf.ext hE20 fun _ _ => id
      have hX := hX.thenNo hE20
      have hX1 := hX
      refine wl (st_app I_ok rfl 33 48 rfl rfl rfl (by decide) hlf (Src.slice (m := 1) ⟨LeafD.len (idOf_len _), .inr ⟨b59, 0, rfl, hb59.seg⟩⟩ OneC.h) (by dsimp only [maxLen]; omega) (by dsimp only; omega) fun p21 c21 w21 ho21 hE21 hB21 => ?_)
      dsimp only at ho21 hE21 hB21 ⊢
      have hX := hX1.trans hE21 fun y hy hF => by have := hlfn y hF; omega
      have hb1 := hb1.extOwn hlf hE21 (by decide)
      have hb4 := hb4.extOwn hlf hE21 (by decide)
      have hq := hq.ext hE21 (fun x hx hx2 => by obtain ⟨L1, h1⟩ := hq.blkAt hx; obtain ⟨L2, h2⟩ := hlf.blkAt hx2; exact absurd (h1.uniq h2).2 (by decide))
      have e3 : ((leavesOf rows).take (i + 1)).length = ((leavesOf rows).take i).length + 1 := by rw [leavesOf_take hi, List.length_append]; rfl
      have hsz1 := hX1.size
      obtain ⟨lp2, lc2, e1, e2, hlf2⟩ : ∃ lp2 lc2, lp2 = p21 ∧ lc2 = c21 ∧ Own w21 lp2 ((leavesOf rows).take (i + 1)).length lc2 50 33 (((leavesOf rows).take (i + 1)).flatMap LeafD.cells) := ⟨_, _, rfl, rfl, by
        rw [e3, leavesOf_take hi, List.flatMap_append]
        simpa using ho21⟩
      rw [← e1] at hB21
      rw [← e1, ← e2]
      have hlfn2 : ∀ x, OwnB lp2 x → w.heap.size ≤ x := fun x hx => (hB21 x hx).elim (fun h => hlfn x h) fun h => by omega
      refine wl_p I_ok rfl ?_
      have hb4o := hb4
      refine wl (st_st I_ok hb4 rfl rfl rfl fun w22 hb4 hE22 hs22 => ?_)
      have hb1 := hb1.ext1 hE22 ne1_4
      have hq := hq.extTy hE22 hb4o (by decide)
      have hlf2 := hlf2.extTy hE22 hb4o (by decide)
      have hX := hX.thenNew hE22 fr4
      have hb4 : Blk w22 b4 48 (objC (treeO ((leavesOf rows).take (i + 1))) (lfP lp2 lc2)) := (by
        have e : objC (treeO ((leavesOf rows).take (i + 1))) (lfP lp2 lc2) = (objC (treeO ((leavesOf rows).take i)) (lfP lp lc)).set 2 (.slice lp2 (((leavesOf rows).take i).length + 1) lc2) := by simp only [objC, e3]; rfl
        rw [e]
        exact hb4)
      refine wl_nil (f_blockN (f_then (c_region (wl_p I_ok rfl ?_))))
      rw [IntWalk.i64_in _ (by omega)]
      refine wl_nil ?_
      exact f_round (i + 1, (q2, k2), (lp2, lc2)) rfl ⟨⟨hi, hq, hqn2, hlf2, hlfn2⟩, hb1, hb4, hX⟩ (by first | omega | (dsimp only; omega))
  · have h0 : i = rows.length := by omega
    subst h0
    have et : (leavesOf rows).take rows.length = leavesOf rows := List.take_of_length_le (by rw [hll]; exact Nat.le_refl _)
    rw [List.take_length] at hq
    rw [et] at hlf hb4
    rw [List.take_length]
    have hacl : (refT rows).length ≤ rows.length := refT_len _
    have hlin := leavesOf_in (l := rows) fun r hr => by have := (hr32.2 r hr).1; have := maxLen_big; omega
    have hsh : Short (treeOf rows) := tree_sh (by omega) (fun r hr => by obtain ⟨y, hy, rfl⟩ := List.mem_map.1 hr; have := (hr32.2 y hy).1; show y.path.length < _; omega)
    have htl : ObjL w4 (treeOf rows) (lfP lp lc) := ⟨hlf.sl, Sl.nil _ _ _, Sl.nil _ _ _⟩
    refine c_exit (f_thenE (f_thenE (f_blockE (f_then (c_seq (c_seq (c_region (wl (st_ldB I_ok hb4 rfl (objC_len (treeO_in hlin)) ?_)))))))))
    refine wl (st_call Tryz.call59 rfl rfl rfl rfl rfl rfl (right6_calls w4 (treeO_in hlin) htl hsh) fun v23 w23 hr23 => ?_)
    obtain ⟨rfl, hE23⟩ := hr23
    have hb4 := hb4.extNo hE23
    have hq := hq.ext hE23 fun _ _ => id
    have hlf := hlf.ext hE23 fun _ _ => id
    have hX := hX.thenNo hE23
    have htl := htl.extNo hE23
    refine wl_p I_ok rfl (wl_nil (f_then (c_cond rfl (fun hc => ?_) (fun hc => ?_))))
    · have hok : ¬ ObjOk (treeOf rows) := by simpa using hc
      refine c_seq (c_region (wl_p I_ok rfl (wl_nil (f_then (c_ret (f_thenR (f_ret1 rfl rfl ?_)))))))
      exact ⟨none, 0, lp, lc, fun h => absurd h hok, fun _ => rfl, noOwn, hlf, hlfn, hX⟩
    · have hok : ObjOk (treeOf rows) := by simpa using hc
      have hn4q : ¬ OwnB q b4 := fun h => hq.neTy h hb4 (by decide) rfl
      refine c_skip (f_then (c_seq (c_draw rfl 8 [(0, true), (1, true), (3, true), (2, false), (4, true), (5, false), (6, false), (7, true)] [] (OwnB q) (by kernel_rfl) fun w24 hE24 hs24 => ?_)))
      have hd4 := hb4
      have hq := hq.ext hE24 fun _ _ => id
      have hlf := hlf.ext hE24 fun _ _ => id
      have hX := hX.thenNo hE24
      have hC : Ext (OwnB q) _ w24 := hE24.no
      have htl := htl.extNo hE24
      refine wd_k I_ok 1 rfl (wd_ldN I_ok rfl rfl (fun w' hw' => ((hd4.ext hw' hn4q).seg)) (objC_len (treeO_in hlin)) ?_)
      refine wd_ldN I_ok rfl rfl (fun w' hw' => ((hd4.ext hw' hn4q).seg)) (objC_len (treeO_in hlin)) ?_
      refine wd_l rfl (st_call Tryz.call33 rfl rfl rfl rfl rfl rfl (id6_calls w24 (treeO_in hlin) htl (bytes_of hok.1)) fun v25 w25 hr25 => ⟨(by obtain ⟨rfl, hE25⟩ := hr25; exact hC.thenNo hE25), ?_⟩)
      obtain ⟨rfl, hE25⟩ := hr25
      have hq := hq.ext hE25 fun _ _ => id
      have hlf := hlf.ext hE25 fun _ _ => id
      have hX := hX.thenNo hE25
      have hC := hC.thenNo hE25
      refine wd_bd I_ok rfl rfl ⟨⟨by rw [cellsOf_agg, bytesU_len, idOf_len _], by decide⟩, ⟨by rw [cellsOf_agg]; exact objC_len (treeO_in hlin), by decide⟩, trivial⟩ (l' := heldC ⟨idOf (treeOf rows), treeOf rows, lfP lp lc⟩) (by rw [heldZ_c]; exact held_build (idOf_len _) (treeO_in hlin)) ?_
      refine wd_l rfl (st_bs I_ok rfl 105 rfl heldZ_c (by rw [List.length_append, bytesU_len, objC_len objZ_in]; rfl) (by decide) (by decide) ⟨⟨by rw [cellsOf_agg]; exact (heldC_len (idOf_len _) (treeO_in hlin)), by decide⟩, trivial⟩ (l' := heldC ⟨idOf (treeOf rows), treeOf rows, lfP lp lc⟩) (one_held (heldC_len (idOf_len _) (treeO_in hlin))) fun b71 w26 hn71 hb71 hE26 hs26 => ⟨hC.thenNo hE26, ?_⟩)
      have hq := hq.ext hE26 fun _ _ => id
      have hlf := hlf.ext hE26 fun _ _ => id
      have hX := hX.thenNo hE26
      have hC := hC.thenNo hE26
      have hX1 := hX
      refine wd_l rfl (st_app I_ok rfl 105 224 rfl rfl rfl (by decide) hq (Src.slice (m := 1) ⟨heldC_len (idOf_len _) (treeO_in hlin), .inr ⟨b71, 0, rfl, hb71.seg⟩⟩ OneC.h) (by dsimp only [maxLen]; omega) (by dsimp only; omega) fun p27 c27 w27 ho27 hE27 hB27 => ⟨hC.then hE27, ?_⟩)
      dsimp only at ho27 hE27 hB27 ⊢
      have hX := hX1.trans hE27 fun y hy hF => by have := hqn y hF; omega
      have hlf := hlf.ext hE27 (fun x hx hx2 => by obtain ⟨L1, h1⟩ := hlf.blkAt hx; obtain ⟨L2, h2⟩ := hq.blkAt hx2; exact absurd (h1.uniq h2).2 (by decide))
      have hsz1 := hX1.size
      refine wd_k I_ok 1 rfl (wd_sw (wb_nil (f_then (c_ret (f_ret1 rfl rfl ?_)))))
      refine ⟨_, _, lp, lc, fun _ => ⟨by rw [show (refP rows (lfP lp lc)).length = (refT rows).length + 1 from by simp [refP]], ?_⟩, fun h => absurd hok h, fun x hx => (hB27 x hx).elim (fun h => hqn x h) fun h => by omega, hlf, hlfn, hX⟩
      rw [refP, List.flatMap_append, List.length_append, List.length_map]
      simpa using ho27
end Go.Proofs.YtpcdihkcenfgkaaGreat
namespace Go.Proofs.YtpcdihkcenfgkaaGreat
open Go.Vc
/-- a map cut short -/
def cut8 (r : RowD) : RowD := ⟨r.path.take 48, r.text.take 20⟩
def tex8 (l : List RowD) : List RowD := (l.take 4).map cut8
theorem cut_step {l : List RowD} {i : Nat} (h : i < l.length) : (l.take (i + 1)).map cut8 = (l.take i).map cut8 ++ [cut8 l[i]] := by
  rw [List.take_succ_eq_append_getElem h, List.map_append]; rfl
theorem tex8_calls (w : World) {p : Option Addr} {c : Nat} {rows : List RowD} (hs : Sl w p rows.length 2 (rows.flatMap RowD.cells)) (hl : rows.length < 9223372036854775808) :
    CallsV Tryz.prog 28 [.agg #[.slice p rows.length c]] w fun v w' => ∃ q k, v = .agg #[.slice q (tex8 rows).length k] ∧ Own w' q (tex8 rows).length k 73 2 ((tex8 rows).flatMap RowD.cells) ∧ (∀ x, OwnB q x → w.heap.size ≤ x) ∧ Ext No w w' := by
  refine calls_enter Tryz.func28 rfl rfl rfl rfl ?_
  have hX := Ext.refl No w
  refine c_seq (c_region (wl (st_al I_ok rfl fun b1 w1 hn1 hb1 hE1 => ?_)))
  have hX := hX.thenNo hE1
  have hb1 : Blk w1 b1 76 ([.slice p rows.length c]) := hb1
  refine wl (st_al I_ok rfl fun b2 w2 hn2 hb2 hE2 => ?_)
  have fr2 := Nat.le_trans hX.size hn2
  have hb1 := hb1.extNo hE2
  have hX := hX.thenNo hE2
  refine wl_nil (f_then (c_seq (c_region (wl (st_al I_ok rfl fun b3 w3 hn3 hb3 hE3 => ?_)))))
  have ne1_3 : b1 ≠ b3 := Nat.ne_of_lt (Nat.lt_of_lt_of_le hb1.lt hn3)
  have ne2_3 : b2 ≠ b3 := Nat.ne_of_lt (Nat.lt_of_lt_of_le hb2.lt hn3)
  have fr3 := Nat.le_trans hX.size hn3
  have hb1 := hb1.extNo hE3
  have hb2 := hb2.extNo hE3
  have hX := hX.thenNo hE3
  have hb3 : Blk w3 b3 76 ([.slice none 0 0]) := hb3
  refine wl_nil (f_then ?_)
  refine c_cutK (α := Option Addr × Nat) [2, 3] rfl (fun z => []) (fun z u => (Own u z.1 (tex8 rows).length z.2 73 2 ((tex8 rows).flatMap RowD.cells) ∧ (∀ x, OwnB z.1 x → w.heap.size ≤ x)) ∧ Blk u b1 76 ([.slice p rows.length c]) ∧ Blk u b2 76 (cellsOf ti76.zero) ∧ Blk u b3 76 ([.slice z.1 (tex8 rows).length z.2]) ∧ Ext No w u) ?_ ?_
  · refine c_seq ?_
    refine c_region (wl_p I_ok rfl (wl (st_ldb I_ok hb1 rfl rfl (wl_p I_ok rfl (wl_nil (f_then (c_block ?_)))))))
    refine c_loopK (α := Nat × Option Addr × Nat) [2, 3, 7, 8] rfl (fun z => [(9, .int .i64 (z.1 : Int))]) (fun z u => (z.1 ≤ rows.length ∧ z.1 ≤ 4 ∧ Own u z.2.1 ((rows.take z.1).map cut8).length z.2.2 73 2 (((rows.take z.1).map cut8).flatMap RowD.cells) ∧ (∀ x, OwnB z.2.1 x → w.heap.size ≤ x)) ∧ Blk u b1 76 ([.slice p rows.length c]) ∧ Blk u b2 76 (cellsOf ti76.zero) ∧ Blk u b3 76 ([.slice z.2.1 ((rows.take z.1).map cut8).length z.2.2]) ∧ Ext No w u) (fun z u => rows.length - z.1) (0, none, 0) rfl ⟨⟨Nat.zero_le _, Nat.zero_le _, Own.nil _ _ _, noOwn⟩, hb1, hb2, hb3, hX⟩ ?_
    rintro ⟨i, q, k⟩ w4 ⟨⟨hi, hi4, hq, hqn⟩, hb1, hb2, hb3, hX⟩
    try dsimp only
    dsimp only at hi hi4 hq hqn
    refine c_seq (c_region (wl_p I_ok rfl (wl_nil (f_then (c_seq (c_if rfl (fun hc => ?_) (fun hc => ?_)))))))
    · have hi : i < rows.length := by omega
      obtain ⟨qb, qoff, hp, hsq⟩ := hs.rowAll (fun r _ => r.len) (by omega)
      rw [hp] at hb1 ⊢
      have hal : ((rows.take i).map cut8).length = i := by simp; omega
      refine c_skip (f_then (c_seq (c_block (c_seq (c_region (wl_p I_ok rfl (wl (st_ix I_ok rfl 2 rfl i rfl (by omega) (qoff + i * 2) rfl (wl (st_ldN I_ok rfl ((hsq i hi).extNo hX) rfl ?_))))))))))
      have hq0 := hq
      refine wl (st_al I_ok rfl fun b5 w5 hn5 hb5 hE5 => ?_)
      have ne1_5 : b1 ≠ b5 := Nat.ne_of_lt (Nat.lt_of_lt_of_le hb1.lt hn5)
      have ne2_5 : b2 ≠ b5 := Nat.ne_of_lt (Nat.lt_of_lt_of_le hb2.lt hn5)
      have ne3_5 : b3 ≠ b5 := Nat.ne_of_lt (Nat.lt_of_lt_of_le hb3.lt hn5)
      have fr5 := Nat.le_trans hX.size hn5
      have hb1 := hb1.extNo hE5
      have hb2 := hb2.extNo hE5
      have hb3 := hb3.extNo hE5
      have hq := hq.ext hE5 fun _ _ => id
      have hX := hX.thenNo hE5
      have ne5 : ∀ x, OwnB q x → x ≠ b5 := fun x hx => Nat.ne_of_lt (Nat.lt_of_lt_of_le (hq0.lt hx) hn5)
      refine wl_p I_ok rfl ?_
      refine wl (st_stW (l' := (rows[i]).cells) I_ok hb5 rfl rfl rfl rfl OneC.h fun w6 hb5 hE6 hs6 => ?_)
      have hb1 := hb1.ext1 hE6 ne1_5
      have hb2 := hb2.ext1 hE6 ne2_5
      have hb3 := hb3.ext1 hE6 ne3_5
      have hq := hq.ext hE6 (fun x hx => ne5 x hx)
      have hX := hX.thenNew hE6 fr5
      refine wl_nil (f_then (c_seq (c_seq (c_region (wl_p I_ok rfl (wl_nil (f_then (c_if rfl (fun hc => ?_) (fun hc => ?_)))))))))
      · have h4 : i = 4 := by omega
        have eT : (rows.take i).map cut8 = tex8 rows := by rw [h4]; rfl
        rw [eT] at hq hb3
        obtain ⟨qT, kT, hqT, hqnT, e1, e2⟩ : ∃ qT kT, Own w6 qT (tex8 rows).length kT 73 2 ((tex8 rows).flatMap RowD.cells) ∧ (∀ x, OwnB qT x → w.heap.size ≤ x) ∧ q = qT ∧ k = kT := ⟨q, k, hq, hqn, rfl, rfl⟩
        rw [e1, e2] at hb3
        refine c_exit ?_
        exact f_thenE (f_blockE' rfl (f_thenE (f_thenE (f_blockE (f_cut (qT, kT) rfl ⟨⟨hqT, hqnT⟩, hb1, hb2, hb3, hX⟩)))))
      · have h4 : i < 4 := by omega
        refine c_skip (f_then (c_seq ?_))
        refine c_drawL I_ok rfl [] 15 [11, 12, 13] [(0, true), (1, true), (2, true), (3, true), (4, true), (5, true), (6, true), (7, true), (8, true), (9, true), (10, true), (14, true)] [29, 30, 31, 15, 16, 17] (No) (by kernel_rfl) rfl fun w7 hE7 hs7 => ?_
        have hd5 := hb5
        have hb1 := hb1.extNo hE7
        have hb2 := hb2.extNo hE7
        have hb3 := hb3.extNo hE7
        have hb5 := hb5.extNo hE7
        have hq := hq.ext hE7 fun _ _ => id
        have hX := hX.thenNo hE7
        refine wd_k I_ok 1 rfl (wd_ld I_ok rfl rfl (fun w' hw' => (hd5.extNo hw').cell rfl) ?_)
        refine wd_k I_ok 1 rfl (wd_ld I_ok rfl rfl (fun w' hw' => (hd5.extNo hw').cell rfl) ?_)
        refine wd_k I_ok 2 rfl (wd_ss I_ok rfl rfl 0 (min _ 48) (cutBds _ _) ?_)
        rw [strU_cut]
        refine wd_k I_ok 1 rfl (wd_ld I_ok rfl rfl (fun w' hw' => (hd5.extNo hw').cell rfl) ?_)
        refine wd_k I_ok 1 rfl (wd_ld I_ok rfl rfl (fun w' hw' => (hd5.extNo hw').cell rfl) ?_)
        refine wd_k I_ok 1 rfl (wd_sw (wbf I_ok (i := 11) rfl rfl rfl rfl rfl (by kernel_rfl) (wbf I_ok (i := 12) rfl rfl rfl rfl rfl (by kernel_rfl) (wb_ss I_ok (i := 13) rfl rfl rfl 0 (min _ 20) (cutBds _ _) (by kernel_rfl) ?_))))
        rw [strU_cut]
        refine wb rfl (st_st I_ok hb5 rfl rfl rfl fun w8 hb5 hE8 hs8 => ?_)
        have hb1 := hb1.ext1 hE8 ne1_5
        have hb2 := hb2.ext1 hE8 ne2_5
        have hb3 := hb3.ext1 hE8 ne3_5
        have hq := hq.ext hE8 (fun x hx => ne5 x hx)
        have hX := hX.thenNew hE8 fr5
        have hb5 : Blk w8 b5 73 ([strV ((rows[i]).path.take 48), strV (rows[i]).text]) := hb5
        refine wb rfl (st_p I_ok rfl rfl rfl ?_)
        refine wb rfl (st_st I_ok hb5 rfl rfl rfl fun w9 hb5 hE9 hs9 => ?_)
        have hb1 := hb1.ext1 hE9 ne1_5
        have hb2 := hb2.ext1 hE9 ne2_5
        have hb3 := hb3.ext1 hE9 ne3_5
        have hq := hq.ext hE9 (fun x hx => ne5 x hx)
        have hX := hX.thenNew hE9 fr5
        have hb5 : Blk w9 b5 73 ((cut8 rows[i]).cells) := hb5
        refine wb_nil (f_then (c_region (wl_p I_ok rfl (wl (st_ldb I_ok hb3 rfl rfl (wl (st_ldB I_ok hb5 rfl rfl ?_)))))))
        refine wl (st_bs I_ok rfl 2 rfl rowZ_c rfl (by decide) (by decide) ⟨⟨rfl, by decide⟩, trivial⟩ (l' := (cut8 rows[i]).cells) rfl fun b35 w10 hn35 hb35 hE10 hs10 => ?_)
        have hb1 := hb1.extNo hE10
        have hb2 := hb2.extNo hE10
        have hb3 := hb3.extNo hE10
        have hq := hq.ext hE10 fun _ _ => id
        have hX := hX.thenNo hE10
        have hX1 := hX
        refine wl (st_app I_ok rfl 2 32 rfl rfl rfl (by decide) hq (Src.slice (m := 1) ⟨rfl, .inr ⟨b35, 0, rfl, hb35.seg⟩⟩ OneC.h) (by dsimp only [maxLen]; omega) (by dsimp only; omega) fun p11 c11 w11 ho11 hE11 hB11 => ?_)
        dsimp only at ho11 hE11 hB11 ⊢
        have hX := hX1.trans hE11 fun y hy hF => by have := hqn y hF; omega
        have hb1 := hb1.extOwn hq hE11 (by decide)
        have hb2 := hb2.extOwn hq hE11 (by decide)
        have hb3 := hb3.extOwn hq hE11 (by decide)
        have hsz1 := hX1.size
        obtain ⟨q2, k2, e1, e2, hq2⟩ : ∃ q2 k2, q2 = p11 ∧ k2 = c11 ∧ Own w11 q2 ((rows.take (i + 1)).map cut8).length k2 73 2 (((rows.take (i + 1)).map cut8).flatMap RowD.cells) := ⟨_, _, rfl, rfl, by
          rw [cut_step hi, List.flatMap_append, List.length_append]
          simpa using ho11⟩
        rw [← e1] at hB11
        rw [← e1, ← e2]
        have hqn2 : ∀ x, OwnB q2 x → w.heap.size ≤ x := fun x hx => (hB11 x hx).elim (fun h => hqn x h) fun h => by omega
        refine wl_p I_ok rfl ?_
        have hb3o := hb3
        refine wl (st_st I_ok hb3 rfl rfl rfl fun w12 hb3 hE12 hs12 => ?_)
        have hb1 := hb1.ext1 hE12 ne1_3
        have hb2 := hb2.ext1 hE12 ne2_3
        have hq2 := hq2.extTy hE12 hb3o (by decide)
        have hX := hX.thenNew hE12 fr3
        have hb3 : Blk w12 b3 76 ([.slice q2 ((rows.take (i + 1)).map cut8).length k2]) := (by
          rw [cut_step hi, List.length_append]
          exact hb3)
        refine wl_nil (f_blockN (f_then (c_region (wl_p I_ok rfl ?_))))
        rw [IntWalk.i64_in _ (by omega)]
        refine wl_nil ?_
        exact f_round (i + 1, q2, k2) rfl ⟨⟨hi, h4, hq2, hqn2⟩, hb1, hb2, hb3, hX⟩ (by first | omega | (dsimp only; omega))
    · have eT : (rows.take i).map cut8 = tex8 rows := by
        rw [tex8, List.take_of_length_le (by omega), List.take_of_length_le (by omega)]
      rw [eT] at hq hb3
      obtain ⟨qT, kT, hqT, hqnT, e1, e2⟩ : ∃ qT kT, Own w4 qT (tex8 rows).length kT 73 2 ((tex8 rows).flatMap RowD.cells) ∧ (∀ x, OwnB qT x → w.heap.size ≤ x) ∧ q = qT ∧ k = kT := ⟨q, k, hq, hqn, rfl, rfl⟩
      rw [e1, e2] at hb3
      refine c_exit ?_
      exact f_thenE (f_thenE (f_blockE (f_cut (qT, kT) rfl ⟨⟨hqT, hqnT⟩, hb1, hb2, hb3, hX⟩)))
  rintro ⟨q, k⟩ w13 ⟨⟨hq, hqn⟩, hb1, hb2, hb3, hX⟩
  try dsimp only
  dsimp only at hq hqn
  refine c_seq (c_region (wl (st_ldB I_ok hb3 rfl rfl ?_)))
  have hb2o := hb2
  refine wl (st_stW (l' := [.slice q (tex8 rows).length k]) I_ok hb2 rfl rfl rfl rfl OneC.h fun w14 hb2 hE14 hs14 => ?_)
  have hq := hq.extTy hE14 hb2o (by decide)
  have hX := hX.thenNew hE14 fr2
  refine wl_nil (f_then (c_ret (f_ret [_] ⟨⟨b2, 0, rfl, ld_all I_ok rfl rfl hb2.seg rfl⟩, trivial⟩ ?_)))
  exact ⟨q, k, rfl, hq, hqn, hX⟩
end Go.Proofs.YtpcdihkcenfgkaaGreat
