/-
  Walks and laws towards: FetchTakesCardSaid , walked
-/
import Derived.WalkKit
import Derived.Scope
import Derived.Orders
import Derived.Below
import Derived.OwnWalk
import Derived.Still
import Derived.Test.YtpcdihkcenfgkaaGreatDoorProg
import Derived.KernelRfl
import Derived.ScopeJumps
namespace Go.Vc
abbrev Env := List (Nat × Value)
def lk : Env → Nat → Option Value
  | [], _ => none
  | (j, v) :: r, i => match Nat.beq j i with
    | true => some v
    | false => lk r i
def evO (env : Env) : Operand → Option Value
  | .tmp t => lk env t
  | .const v => some v
  | .global g => some (.pointer (some ⟨g, 0, none⟩))
  | .func f => some (.func (.func f) #[] #[])
def pushE (dst : Option Tmp) (v : Value) (env : Env) : Env :=
  match dst with
  | some d => (d, v) :: env
  | none => env
def dOk (n : Nat) (dst : Option Tmp) : Bool :=
  match dst with
  | some d => Nat.blt d n
  | none => true
structure Fs where
  n : Nat
  ds : List Deferred
structure Ag (f : Fs) (env : Env) (a : Act) : Prop where
  defers : a.defers = f.ds
  size : a.tmps.size = f.n
  get : ∀ i v, lk env i = some v → a.tmps[i]? = some v
theorem lk_cons (j : Nat) (v : Value) (r : Env) (i : Nat) : lk ((j, v) :: r) i = if j = i then some v else lk r i := by
 show (match Nat.beq j i with | true => some v | false => lk r i) = _
 by_cases h : j = i
 ·subst h; rw [if_pos rfl, Nat.beq_refl]
 ·have : Nat.beq j i = false := by
   cases hb : Nat.beq j i with
   | true => exact absurd (Nat.eq_of_beq_eq_true hb) h
   | false => rfl
  rw [if_neg h, this]
theorem Ag.eval {f : Fs} {env : Env} {a : Act} (h : Ag f env a) {x : Operand} {v : Value} (hx : evO env x = some v) : a.eval x = v := by
 cases x with
 | tmp t =>
  have := h.get t v hx
  simp [Act.eval, this]
 | const u => simpa [evO, Act.eval] using hx
 | global g => simpa [evO, Act.eval] using hx
 | func g => simpa [evO, Act.eval] using hx
theorem Ag.put {f : Fs} {env : Env} {a : Act} (h : Ag f env a) {dst : Option Tmp} {v : Value} (hd : dOk f.n dst = true) : Ag f (pushE dst v env) (a.put dst v) := by
 cases dst with
 | none => exact h
 | some d =>
  have hd' : d < f.n := by simpa [dOk] using hd
  refine ⟨h.defers, by simp [Act.put, h.size], fun i u hi => ?_⟩
  simp only [pushE, lk_cons] at hi
  simp only [Act.put]
  by_cases hdi : d = i
  ·subst hdi
   simp at hi
   subst hi
   simp [h.size, hd']
  ·simp [hdi] at hi
   rw [Array.getElem?_setIfInBounds_ne hdi]
   exact h.get i u hi
def Subs : Env → Env → Prop
  | [], _ => True
  | (j, v) :: r, e => lk e j = some v ∧ Subs r e
theorem Subs.lk {e e' : Env} : Subs e' e → ∀ i v, Vc.lk e' i = some v → Vc.lk e i = some v := by
 induction e' with
 | nil => intro _ i v h; simp [Vc.lk] at h
 | cons p r ih =>
  obtain ⟨j, u⟩ := p
  intro hs i v h
  rw [lk_cons] at h
  by_cases hji : j = i
  ·subst hji
   simp at h
   subst h
   exact hs.1
  ·simp [hji] at h
   exact ih hs.2 i v h
theorem Ag.sub {f : Fs} {env env' : Env} {a : Act} (h : Ag f env a) (hs : Subs env' env) : Ag f env' a :=
 ⟨h.defers, h.size, fun i v hi => h.get i v (hs.lk i v hi)⟩
def pick (env : Env) : List Nat → Option Env
  | [] => some []
  | i :: r => match lk env i with
    | some v => match pick env r with
      | some e => some ((i, v) :: e)
      | none => none
    | none => none
theorem pick_subs {env : Env} : ∀ {ls : List Nat} {env' : Env}, pick env ls = some env' → Subs env' env
 | [], env', h => by simp [pick] at h; subst h; trivial
 | i :: r, env', h => by
  simp only [pick] at h
  split at h
  ·rename_i v hv
   split at h
   ·rename_i e he
    simp at h; subst h
    exact ⟨hv, pick_subs he⟩
   ·simp at h
  ·simp at h
abbrev XPost := Exit → Act → World → Prop
def WL (P : Program) (f : Fs) (ops : Array Oper) (Q : XPost) (l : List Oper) (env : Env) (w : World) : Prop := ∀ a, Ag f env a → wpList P ops Q l a w
def WC (P : Program) (f : Fs) (c : Code) (Q : XPost) (env : Env) (w : World) : Prop := ∀ a, Ag f env a → c.wp P Q a w
def Fin (f : Fs) (Q : XPost) (e : Exit) (env : Env) (w : World) : Prop := ∀ a, Ag f env a → Q e a w
section code
variable {P : Program} {f : Fs} {Q : XPost} {env : Env} {w : World}
theorem zq5 {x y : Code} (h : WC P f x (Exit.then (y.wp P Q) Q) env w) : WC P f (.seq x y) Q env w := fun a ha => wp_seq (h a ha)
theorem zx7 (h : Fin f Q .normal env w) : WC P f .skip Q env w := fun a ha => wp_skip (h a ha)
theorem c_label {l : Nat} (h : Fin f Q .normal env w) : WC P f (.label l) Q env w := fun a ha => wp_label (h a ha)
theorem c_exit {id : Nat} (h : Fin f Q (.exit id) env w) : WC P f (.exit id) Q env w := fun a ha => wp_exit (h a ha)
theorem zj0 (h : Fin f Q .ret env w) : WC P f .ret Q env w := fun a ha => wp_ret (h a ha)
theorem zx4 {id : Nat} {c : Code} (h : WC P f c (Exit.inBlock id Q) env w) : WC P f (.block id c) Q env w := fun a ha => wp_block (h a ha)
theorem c_scope {c : Code} (h : WC P f c (Exit.noGoto Q) env w) : WC P f (.scope c) Q env w := fun a ha => wp_scope_straight (h a ha)
theorem zq0 {id : Nat} {l : List Oper} (h : WL P f l.toArray Q l env w) : WC P f (.region id l.toArray false) Q env w := fun a ha => wp_region_lit (h a ha)
theorem c_cond {c : Operand} {x y : Code} {b : Bool} (hc : evO env c = some (.bool b)) (ht : b = true → WC P f x Q env w) (hf : b = false → WC P f y Q env w) : WC P f (.cond c x y) Q env w :=
 fun a ha => wp_cond_split (ha.eval hc) (fun h => ht h a ha) (fun h => hf h a ha)
theorem c_condT {c : Operand} {x y : Code} (hc : evO env c = some (.bool true)) (ht : WC P f x Q env w) : WC P f (.cond c x y) Q env w :=
 fun a ha => wp_cond_true (ha.eval hc) (ht a ha)
theorem c_condF {c : Operand} {x y : Code} (hc : evO env c = some (.bool false)) (ht : WC P f y Q env w) : WC P f (.cond c x y) Q env w :=
 fun a ha => wp_cond_false (ha.eval hc) (ht a ha)
theorem c_if {c : Operand} {x y : Code} {p : Prop} [Decidable p] (hc : evO env c = some (.bool (decide p))) (ht : p → WC P f x Q env w) (hf : ¬ p → WC P f y Q env w) : WC P f (.cond c x y) Q env w :=
 c_cond hc (fun h => ht (of_decide_eq_true h)) (fun h => hf (of_decide_eq_false h))
def SubE (e env : Env) : Prop := pick env (e.map Prod.fst) = some e
theorem SubE.subs {e env : Env} (h : SubE e env) : Subs e env := pick_subs h
theorem c_cut {x y : Code} {α : Type} (J : α → World → Prop) (E : α → Env)
  (hx : WC P f x (Exit.then (fun a w => ∃ z, Ag f (E z) a ∧ J z w) Q) env w) (hy : ∀ z w', J z w' → WC P f y Q (E z) w') : WC P f (.seq x y) Q env w :=
 fun a ha => wp_seq (wp_mono (hx a ha) fun e a' w' h => by
  cases e <;> first | (obtain ⟨z, hz, hJ⟩ := h; exact hy z w' hJ a' hz) | exact h)
theorem c_cutK {x y : Code} {α : Type} (ls : List Nat) {env0 : Env} (hp : pick env ls = some env0) (C : α → Env) (J : α → World → Prop)
  (hx : WC P f x (Exit.then (fun a w => ∃ z, Ag f (C z ++ env0) a ∧ J z w) Q) env w) (hy : ∀ z w', J z w' → WC P f y Q (C z ++ env0) w') : WC P f (.seq x y) Q env w :=
 have _ := hp
 c_cut J (fun z => C z ++ env0) hx hy
theorem zz7 {α : Type} {J : α → World → Prop} {E : α → Env} (z : α) (hs : SubE (E z) env) (hJ : J z w) : Fin f (Exit.then (fun a w => ∃ z, Ag f (E z) a ∧ J z w) Q) .normal env w :=
 fun _ ha => ⟨z, ha.sub hs.subs, hJ⟩
theorem c_loop {c : Code} {α : Type} (I : α → World → Prop) (E : α → Env) (μ : α → World → Nat) (z : α) (hs : SubE (E z) env) (hI : I z w)
  (round : ∀ z w, I z w → WC P f c (Exit.then (fun a' w' => ∃ z', Ag f (E z') a' ∧ I z' w' ∧ μ z' w' < μ z w) Q) (E z) w) : WC P f (.loop c) Q env w := by
 intro a ha b k cs
 have key : ∀ n (z : α) (w : World) (a : Act), μ z w = n → I z w → Ag f (E z) a →
   ∃ e a' w', Q e a' w' ∧ Arrives P (lone (b.at a (.code c :: .inLoop c :: k)) cs w) b k cs e a' w' := by
  intro n
  induction n using Nat.strongRecOn with
  | _ n ih =>
   intro z w a hn hI ha
   obtain ⟨e, a₁, w₁, hq, harr⟩ := round z w hI a ha b (.inLoop c :: k) cs
   cases e with
   | normal =>
    obtain ⟨z', ha', hI', hlt⟩ := hq
    obtain ⟨e₂, a₂, w₂, hq₂, harr₂⟩ := ih (μ z' w₁) (hn ▸ hlt) z' w₁ a₁ rfl hI' ha'
    exact ⟨e₂, a₂, w₂, hq₂, .of_steps (Steps.trans harr (.one step_inLoop)) harr₂⟩
   | exit id => exact ⟨_, a₁, w₁, hq, .pass (x := .inLoop c) rfl (fun _ _ => .inl (by simp)) harr⟩
   | goto l => exact ⟨_, a₁, w₁, hq, .pass (x := .inLoop c) rfl (fun _ _ => .inl (by simp)) harr⟩
   | ret => exact ⟨_, a₁, w₁, hq, .pass (x := .inLoop c) rfl (fun _ _ => .inl (by simp)) harr⟩
   | panic ch => exact ⟨_, a₁, w₁, hq, .pass (x := .inLoop c) rfl (fun _ _ => .inl (by simp)) harr⟩
   | outgrown => exact ⟨_, a₁, w₁, hq, .pass (x := .inLoop c) rfl (fun _ _ => .inl (by simp)) harr⟩
 obtain ⟨e, a', w', hq, harr⟩ := key _ z w a rfl hI (ha.sub hs.subs)
 exact ⟨e, a', w', hq, .of_steps (.one step_loop) harr⟩
theorem zv1 {α : Type} {I : α → World → Prop} {E : α → Env} {μ : α → World → Nat} {m : Nat} (z : α) (hs : SubE (E z) env) (hI : I z w) (hm : μ z w < m) :
  Fin f (Exit.then (fun a' w' => ∃ z', Ag f (E z') a' ∧ I z' w' ∧ μ z' w' < m) Q) .normal env w :=
 fun _ ha => ⟨z, ha.sub hs.subs, hI, hm⟩
theorem zv3 {c : Code} {α : Type} (ls : List Nat) {env0 : Env} (hp : pick env ls = some env0) (C : α → Env) (I : α → World → Prop) (μ : α → World → Nat) (z : α) (hs : SubE (C z ++ env0) env) (hI : I z w)
  (round : ∀ z w, I z w → WC P f c (Exit.then (fun a' w' => ∃ z', Ag f (C z' ++ env0) a' ∧ I z' w' ∧ μ z' w' < μ z w) Q) (C z ++ env0) w) : WC P f (.loop c) Q env w :=
 have _ := hp
 c_loop I (fun z => C z ++ env0) μ z hs hI round
theorem zq1 {y : Code} (h : WC P f y Q env w) : Fin f (Exit.then (y.wp P Q) Q) .normal env w := fun a ha => h a ha
theorem zx5 {K : Act → World → Prop} (h : Fin f Q .ret env w) : Fin f (Exit.then K Q) .ret env w := fun a ha => h a ha
theorem zx3 {K : Act → World → Prop} {id : Nat} (h : Fin f Q (.exit id) env w) : Fin f (Exit.then K Q) (.exit id) env w := fun a ha => h a ha
theorem zx6 {id : Nat} (h : Fin f Q .normal env w) : Fin f (Exit.inBlock id Q) .normal env w := fun a ha => h a ha
theorem zz3 {id : Nat} (h : Fin f Q .ret env w) : Fin f (Exit.inBlock id Q) .ret env w := fun a ha => h a ha
theorem zz0 {id : Nat} (h : Fin f Q .normal env w) : Fin f (Exit.inBlock id Q) (.exit id) env w := fun a ha => by simpa [Exit.inBlock] using h a ha
theorem f_blockE' {id id' : Nat} (hne : Nat.beq id' id = false) (h : Fin f Q (.exit id') env w) : Fin f (Exit.inBlock id Q) (.exit id') env w := fun a ha => by
 have : id' ≠ id := fun e => by subst e; rw [Nat.beq_refl] at hne; cases hne
 simpa [Exit.inBlock, this] using h a ha
theorem f_noGotoR (h : Fin f Q .ret env w) : Fin f (Exit.noGoto Q) .ret env w := fun a ha => h a ha
end code
/-! ### Operations -/
def evs (env : Env) : List Operand → Option (List Value)
  | [] => some []
  | x :: r => match evO env x with
    | some v => match evs env r with
      | some l => some (v :: l)
      | none => none
    | none => none
def Ov (P : Program) (o : Oper) (env : Env) (w : World) (v : Value) (w' : World) : Prop :=
  ∀ ρ : Operand → Value, (∀ x u, evO env x = some u → ρ x = u) → (execOp ρ o).run P w = .ok (.value v) w'
def Os (P : Program) (o : Oper) (env : Env) (w : World) (w' : World) : Prop :=
  ∀ ρ : Operand → Value, (∀ x u, evO env x = some u → ρ x = u) → (execOp ρ o).run P w = .ok .skip w'
def yldE (ops : Array Oper) (env : Env) (j : Nat) : Option Bool :=
  match ops[j]? with
  | some o => match o.dst with
    | some d => match lk env d with
      | some (.bool b) => some b
      | _ => none
    | none => none
  | none => none
def takes (ops : Array Oper) (env : Env) (o : Oper) : Bool :=
  match o.guard with
  | none => true
  | some (j, want) => match yldE ops env j with
    | some b => match b, want with
      | true, true => true
      | false, false => true
      | _, _ => false
    | none => false
theorem yldE_eq {f : Fs} {ops : Array Oper} {env : Env} {a : Act} (ha : Ag f env a) {j : Nat} {b : Bool} (h : yldE ops env j = some b) : yielded ops a.tmps j = some b := by
 unfold yldE at h
 split at h
 ·rename_i o ho
  split at h
  ·rename_i d hd
   split at h
   ·rename_i b' hb
    simp at h; subst h
    have := ha.get d _ hb
    simp [yielded, ho, hd, this]
   ·simp at h
  ·simp at h
 ·simp at h
theorem takes_wanted {f : Fs} {ops : Array Oper} {env : Env} {a : Act} (ha : Ag f env a) {o : Oper} (h : takes ops env o = true) : Region.wanted o (yielded ops a.tmps) = true := by
 unfold takes at h
 unfold Region.wanted
 split at h
 ·simp [*]
 ·rename_i j want hg
  simp only [hg]
  split at h
  ·rename_i b hb
   rw [yldE_eq ha hb]
   cases b <;> cases want <;> simp_all
  ·simp at h
def yldU (ops : Array Oper) (env : Env) (j : Nat) : Bool :=
  match ops[j]? with
  | some o => match o.dst with
    | some d => match lk env d with
      | some (.tuple _) => true
      | _ => false
    | none => false
  | none => false
theorem yldU_eq {f : Fs} {ops : Array Oper} {env : Env} {a : Act} (ha : Ag f env a) {j : Nat} (h : yldU ops env j = true) : yielded ops a.tmps j = none := by
 unfold yldU at h
 split at h
 ·rename_i o ho
  split at h
  ·rename_i d hd
   split at h
   ·rename_i vs hb
    have := ha.get d _ hb
    simp [yielded, ho, hd, this]
   ·simp at h
  ·simp at h
 ·simp at h
def passes (ops : Array Oper) (env : Env) (o : Oper) : Bool :=
  match o.guard with
  | none => false
  | some (j, want) => match yldE ops env j with
    | some b => match b, want with
      | true, false => true
      | false, true => true
      | _, _ => false
    | none => yldU ops env j
theorem passes_wanted {f : Fs} {ops : Array Oper} {env : Env} {a : Act} (ha : Ag f env a) {o : Oper} (h : passes ops env o = true) : Region.wanted o (yielded ops a.tmps) = false := by
 unfold passes at h
 unfold Region.wanted
 split at h
 ·simp at h
 ·rename_i j want hg
  simp only [hg]
  split at h
  ·rename_i b hb
   rw [yldE_eq ha hb]
   cases b <;> cases want <;> simp_all
  ·rw [yldU_eq ha h]; rfl
def St (P : Program) (f : Fs) (ops : Array Oper) (o : Oper) (env : Env) (w : World) (K : Env → World → Prop) : Prop :=
  ∀ (a : Act) (Q : XPost) (K' : Act → World → Prop), Ag f env a → (∀ env' a' w', Ag f env' a' → K env' w' → K' a' w') →
    if Region.wanted o (yielded ops a.tmps) then o.wp P a w K' Q ∨ (o.asks P a w ∧ LetsOut Q) else K' (a.put o.dst undef) w
section ops
variable {P : Program} {f : Fs} {ops : Array Oper} {Q : XPost} {o : Oper} {rest : List Oper} {env : Env} {w w' : World} {v : Value}
theorem zq3 (h : Fin f Q .normal env w) : WL P f ops Q [] env w := fun a ha => h a ha
theorem wl (h : St P f ops o env w (WL P f ops Q rest)) : WL P f ops Q (o :: rest) env w :=
 fun a ha => h a Q (wpList P ops Q rest) ha fun _ a' _ ha' k => k a' ha'
theorem st_v {K : Env → World → Prop} (hg : takes ops env o = true) (hd : dOk f.n o.dst = true) (h : Ov P o env w v w') (k : K (pushE o.dst v env) w') : St P f ops o env w K := by
 intro a Q K' ha hK
 rw [if_pos (takes_wanted ha hg)]
 refine .inl ?_
 unfold Oper.wp
 rw [h a.eval (fun x u hx => ha.eval hx)]
 exact hK _ _ _ (ha.put hd) k
theorem st_s {K : Env → World → Prop} (hg : takes ops env o = true) (hd : dOk f.n o.dst = true) (h : Os P o env w w') (k : K (pushE o.dst undef env) w') : St P f ops o env w K := by
 intro a Q K' ha hK
 rw [if_pos (takes_wanted ha hg)]
 refine .inl ?_
 unfold Oper.wp
 rw [h a.eval (fun x u hx => ha.eval hx)]
 exact hK _ _ _ (ha.put hd) k
theorem st_pass {K : Env → World → Prop} (hg : passes ops env o = true) (hd : dOk f.n o.dst = true) (k : K (pushE o.dst undef env) w) : St P f ops o env w K := by
 intro a Q K' ha hK
 rw [if_neg (by simp [passes_wanted ha hg])]
 exact hK _ _ _ (ha.put hd) k
theorem wl_case {l : List Oper} (d : Nat) {b : Bool} (hd : lk env d = some (.bool b)) (ht : b = true → WL P f ops Q l ((d, .bool true) :: env) w) (hf : b = false → WL P f ops Q l ((d, .bool false) :: env) w) : WL P f ops Q l env w := by
 cases b
 ·exact fun a ha => hf rfl a ⟨ha.defers, ha.size, fun i u hi => by
   rw [lk_cons] at hi
   split at hi
   ·rename_i e; subst e; simp at hi; subst hi; exact ha.get _ _ hd
   ·exact ha.get _ _ hi⟩
 ·exact fun a ha => ht rfl a ⟨ha.defers, ha.size, fun i u hi => by
   rw [lk_cons] at hi
   split at hi
   ·rename_i e; subst e; simp at hi; subst hi; exact ha.get _ _ hd
   ·exact ha.get _ _ hi⟩
theorem zj4 {l : List Oper} (d : Nat) {p : Prop} [Decidable p] (hd : lk env d = some (.bool (decide p))) (ht : p → WL P f ops Q l ((d, .bool true) :: env) w) (hf : ¬ p → WL P f ops Q l ((d, .bool false) :: env) w) : WL P f ops Q l env w :=
 wl_case d hd (fun h => ht (of_decide_eq_true h)) (fun h => hf (of_decide_eq_false h))
end ops
/-! ### Calls -/
def Rv (R : Value → World → Prop) : Ending → World → Prop
  | .returned v, w => R v w
  | _, _ => False
def zz1 (P : Program) (g : FuncId) (args : List Value) (w : World) (R : Value → World → Prop) : Prop := Calls P g args.toArray w (Rv R)
theorem zz1.mono {P : Program} {g : FuncId} {args : List Value} {w : World} {R R' : Value → World → Prop} (h : zz1 P g args w R) (hr : ∀ v w', R v w' → R' v w') : zz1 P g args w R' :=
 Calls.mono h fun e w' he => by cases e <;> first | exact hr _ _ he | exact he
def envO : Nat → List Value → Option Env
  | _, [] => some []
  | i, v :: r => match envO (i + 1) r with
    | some e => some ((i, v) :: e)
    | none => none
theorem envO_lk : ∀ {l : List Value} {i : Nat} {e : Env}, envO i l = some e → ∀ j v, lk e j = some v → i ≤ j ∧ l[j - i]? = some v
 | [], i, e, h, j, v, hj => by simp [envO] at h; subst h; simp [lk] at hj
 | u :: r, i, e, h, j, v, hj => by
  simp only [envO] at h
  split at h
  ·rename_i e' he
   simp at h; subst h
   rw [lk_cons] at hj
   split at hj
   ·rename_i hij; subst hij; simp at hj; subst hj; simp
   ·rename_i hne
    have := envO_lk he j v hj
    refine ⟨by omega, ?_⟩
    rw [show j - i = (j - (i + 1)) + 1 from by omega]
    simpa using this.2
  ·simp at h
theorem zq9 {P : Program} {g : FuncId} {fn : Func} {c : Code} {args : List Value} {w : World} {R : Value → World → Prop} {n : Nat} {env : Env}
  (hf : P.funcs[g]? = some fn) (hb : fn.body = some c) (hn : fn.ntmps = n) (hl : Nat.ble args.length n = true) (he : envO 0 args = some env) (h : WC P ⟨n, []⟩ c (bodyPost P fn (Rv R)) env w) : zz1 P g args w R := by
 refine calls_of_wp hf hb (h _ ⟨rfl, ?_, fun i v hi => ?_⟩)
 ·have : args.length ≤ n := Nat.le_of_ble_eq_true hl
  simp only [hn, Array.size_append, List.size_toArray, Array.size_replicate]
  omega
 ·have := (envO_lk he i v hi).2
  simp only [Nat.sub_zero] at this
  have hlt : i < args.length := by
   rcases Nat.lt_or_ge i args.length with h' | h'
   ·exact h'
   ·simp [List.getElem?_eq_none h'] at this
  simp only [hn]
  rw [Array.getElem?_append_left (by simpa using hlt)]
  simpa using this
theorem zx2 {P : Program} {f : Fs} {ops : Array Oper} {o : Oper} {env : Env} {K : Env → World → Prop} {w : World} {x : Operand} {xs : Array Operand} {ts : Array TypeId}
  {g : FuncId} {first captured : Array Value} {vs : List Value} {R : Value → World → Prop} (hcf : ∀ args w, (callFunc g args).run P w = .ok (.enter g args) w)
  (ho : o.op = .call { callee := .value x, args := xs, argTypes := ts }) (hg : takes ops env o = true) {d : Nat} (hd : o.dst = some d) (hdn : Nat.blt d f.n = true)
  (hx : evO env x = some (.func (.func g) first captured)) (hvs : evs env xs.toList = some vs)
  (hc : zz1 P g (first.toList ++ vs ++ captured.toList) w R) (k : ∀ v w', R v w' → K ((d, v) :: env) w') : St P f ops o env w K := by
 intro a Q K' ha hK
 rw [if_pos (takes_wanted ha hg)]
 refine .inl ?_
 have hevs : ∀ (l : List Operand) vs, evs env l = some vs → l.map a.eval = vs := by
  intro l
  induction l with
  | nil => intro vs h; simp [evs] at h; subst h; rfl
  | cons y r ih =>
   intro vs h
   simp only [evs] at h
   split at h
   ·rename_i u hu
    split at h
    ·rename_i l' hl'
     simp at h; subst h
     simp [ha.eval hu, ih _ hl']
    ·simp at h
   ·simp at h
 have h1 : xs.map a.eval = vs.toArray := by
  apply Array.ext'
  rw [Array.toList_map, hevs _ _ hvs]
 have hrun : (execOp a.eval o).run P w = .ok (.enter g (first ++ vs.toArray ++ captured)) w := by
  simp only [execOp, ho, resolve, h1, ha.eval hx, Deferred.ofValue, Sem.run_bind, Sem.run_pure, Result.andThen_ok, invoke, hcf]
 unfold Oper.wp
 rw [hrun]
 have e : (first ++ vs.toArray ++ captured) = (first.toList ++ vs ++ captured.toList).toArray := by
  apply Array.ext'; simp
 rw [e]
 refine Calls.mono hc fun e w' he => ?_
 cases e with
 | returned v => exact hK _ _ _ (ha.put (dst := o.dst) (v := v) (by rw [hd]; exact hdn)) (by rw [hd]; exact k v w' he)
 | panicked c => exact he.elim
 | outgrown => exact he.elim
/-! ### The end of a body -/
section ends
variable {P : Program} {f : Fs} {fn : Func} {R : Value → World → Prop} {env : Env} {w : World}
theorem f_ret0 {n : Nat} (hr : fn.results = #[]) (h : R (.tuple #[]) w) : Fin ⟨n, []⟩ (bodyPost P fn (Rv R)) .ret env w :=
 fun _ ha => ⟨ha.defers, _, results_none hr _ _ _, h⟩
theorem f_end0 {n : Nat} (hr : fn.results = #[]) (h : R (.tuple #[]) w) : Fin ⟨n, []⟩ (bodyPost P fn (Rv R)) .normal env w :=
 fun _ ha => ⟨ha.defers, _, results_none hr _ _ _, h⟩
theorem zz2 {n : Nat} {t : Tmp} {v : Value} (hr : fn.results = #[.tmp t]) (hv : lk env t = some v) (h : R v w) : Fin ⟨n, []⟩ (bodyPost P fn (Rv R)) .ret env w :=
 fun a ha => ⟨ha.defers, v, by rw [results_tmp hr]; simp [ha.get _ _ hv], h⟩
end ends
structure Ext (S : Nat → Prop) (w w' : World) : Prop where
  os : w'.os = w.os
  tape : w'.tape = w.tape
  output : w'.output = w.output
  size : w.heap.size ≤ w'.heap.size
  same : ∀ b, b < w.heap.size → ¬ S b → w'.heap[b]? = w.heap[b]?
  drawn : w.drawn ≤ w'.drawn
abbrev No : Nat → Prop := fun _ => False
abbrev One (b : Nat) : Nat → Prop := fun x => x = b
theorem Ext.refl (S : Nat → Prop) (w : World) : Ext S w w := ⟨rfl, rfl, rfl, Nat.le_refl _, fun _ _ _ => rfl, Nat.le_refl _⟩
theorem Ext.trans {S T : Nat → Prop} {a b c : World} (h : Ext S a b) (k : Ext T b c) (hT : ∀ x, x < a.heap.size → T x → S x) : Ext S a c :=
 ⟨k.os.trans h.os, k.tape.trans h.tape, k.output.trans h.output, Nat.le_trans h.size k.size,
  fun x hx hS => (k.same x (Nat.lt_of_lt_of_le hx h.size) fun ht => hS (hT x hx ht)).trans (h.same x hx hS), Nat.le_trans h.drawn k.drawn⟩
theorem Ext.mono {S T : Nat → Prop} {a b : World} (h : Ext T a b) (hT : ∀ x, x < a.heap.size → T x → S x) : Ext S a b :=
 ⟨h.os, h.tape, h.output, h.size, fun x hx hS => h.same x hx fun ht => hS (hT x hx ht), h.drawn⟩
theorem Ext.no {S : Nat → Prop} {a b : World} (h : Ext No a b) : Ext S a b := h.mono fun _ _ f => f.elim
theorem Ext.then {S : Nat → Prop} {a b c : World} (h : Ext S a b) (k : Ext S b c) : Ext S a c := h.trans k fun _ _ h => h
theorem Ext.zq4 {S : Nat → Prop} {a b c : World} (h : Ext S a b) (k : Ext No b c) : Ext S a c := h.trans k fun _ _ h => h.elim
theorem Ext.zx1 {S : Nat → Prop} {b₀ : Nat} {a b c : World} (h : Ext S a b) (k : Ext (One b₀) b c) (hb : a.heap.size ≤ b₀) : Ext S a c :=
 h.trans k fun x hx e => by omega
theorem Ext.drew (w : World) : Ext No w w.drew := ⟨rfl, rfl, rfl, Nat.le_refl _, fun _ _ _ => rfl, Nat.le_succ _⟩
theorem Ext.drew' (w : World) : Ext No w { w with drawn := w.drawn + 1 } := Ext.drew w
theorem Ext.alloc (w : World) (c : Array Value) (T : TypeId) : Ext No w (w.alloc (.cells c T)) :=
 ⟨rfl, rfl, rfl, by simp, fun b hb _ => (by show (w.heap.push _)[b]? = _; rw [Array.getElem?_push, if_neg (by omega)]), Nat.le_refl _⟩
theorem Ext.froz {S : Nat → Prop} {w w' : World} (h : Ext S w w') {a : Addr} (ha : a.block < w.heap.size) (hS : ¬ S a.block) : w'.frozen? a = w.frozen? a := World.frozen?_of_block (h.same _ ha hS)
theorem Ext.kept {S : Nat → Prop} {w w' : World} (h : Ext S w w') (hS : ∀ x, x < w.heap.size → ¬ S x) : w.keptBut w' (fun _ => False) :=
 ⟨h.os, h.output, fun i hi => by
  rw [h.same i hi (hS i hi)]
  split <;> simp_all⟩
def Blk (w : World) (b : Nat) (T : TypeId) (l : List Value) : Prop := w.heap[b]? = some (.cells l.toArray T (0, 0))
def Seg (w : World) (b off : Nat) (l : List Value) : Prop := ∀ (i : Nat) (v : Value), l[i]? = some v → w.cell? ⟨b, off + i, none⟩ = some v
theorem Blk.lt {w : World} {b : Nat} {T : TypeId} {l : List Value} (h : Blk w b T l) : b < w.heap.size := by
 rcases Nat.lt_or_ge b w.heap.size with h' | h'
 ·exact h'
 ·unfold Blk at h; rw [Array.getElem?_eq_none h'] at h; cases h
theorem Blk.ext {S : Nat → Prop} {w w' : World} {b : Nat} {T : TypeId} {l : List Value} (h : Blk w b T l) (hE : Ext S w w') (hS : ¬ S b) : Blk w' b T l :=
 (hE.same b h.lt hS).trans h
theorem Blk.zq2 {w w' : World} {b : Nat} {T : TypeId} {l : List Value} (h : Blk w b T l) (hE : Ext No w w') : Blk w' b T l := h.ext hE id
theorem Blk.ext1 {w w' : World} {b c : Nat} {T : TypeId} {l : List Value} (h : Blk w b T l) (hE : Ext (One c) w w') (hne : b ≠ c) : Blk w' b T l := h.ext hE hne
theorem Blk.cell {w : World} {b : Nat} {T : TypeId} {l : List Value} (h : Blk w b T l) {i : Nat} {v : Value} (hi : l[i]? = some v) : w.cell? ⟨b, i, none⟩ = some v := by
 unfold Blk at h
 simp [World.cell?, h, hi]
theorem Blk.seg {w : World} {b : Nat} {T : TypeId} {l : List Value} (h : Blk w b T l) : Seg w b 0 l := fun i v hi => by
 rw [Nat.zero_add]; exact h.cell hi
theorem Blk.free {w : World} {b : Nat} {T : TypeId} {l : List Value} (h : Blk w b T l) (a : Addr) (ha : a.block = b) : w.frozen? a = false := by
 unfold Blk at h
 subst ha
 simp [World.frozen?, h]
theorem Blk.ne {w : World} {b c : Nat} {T U : TypeId} {l m : List Value} (h : Blk w b T l) (k : Blk w c U m) (hT : T ≠ U) : b ≠ c := by
 intro e; subst e
 unfold Blk at h k
 rw [h] at k
 simp at k
 exact hT k.2
theorem Blk.uniq {w : World} {b : Nat} {T U : TypeId} {l m : List Value} (h : Blk w b T l) (k : Blk w b U m) : l = m ∧ T = U := by
 unfold Blk at h k
 rw [h] at k
 simp at k
 exact k
theorem Seg.ext {S : Nat → Prop} {w w' : World} {b off : Nat} {l : List Value} (h : Seg w b off l) (hE : Ext S w w') (hS : ¬ S b) : Seg w' b off l := fun i v hi => by
 have hc := h i v hi
 have hlt := World.block_lt_of_cell? w ⟨b, off + i, none⟩ hc
 rw [World.cell?_of_block (w := w) (w' := w') (a := ⟨b, off + i, none⟩) (hE.same b hlt hS)]
 exact hc
theorem Seg.zq2 {w w' : World} {b off : Nat} {l : List Value} (h : Seg w b off l) (hE : Ext No w w') : Seg w' b off l := h.ext hE id
theorem Seg.lt {w : World} {b off : Nat} {l : List Value} (h : Seg w b off l) (hl : l ≠ []) : b < w.heap.size := by
 cases l with
 | nil => exact absurd rfl hl
 | cons v r => exact World.block_lt_of_cell? w ⟨b, off + 0, none⟩ (h 0 v rfl)
theorem Seg.drop {w : World} {b off : Nat} {l : List Value} (h : Seg w b off l) (k : Nat) : Seg w b (off + k) (l.drop k) := fun i v hi => by
 rw [Nat.add_assoc]
 exact h (k + i) v (by rw [List.getElem?_drop] at hi; exact hi)
theorem Seg.take {w : World} {b off : Nat} {l : List Value} (h : Seg w b off l) (k : Nat) : Seg w b off (l.take k) := fun i v hi => by
 rw [List.getElem?_take] at hi
 split at hi
 ·exact h i v hi
 ·cases hi
theorem Seg.append {w : World} {b off : Nat} {l m : List Value} : Seg w b off (l ++ m) ↔ Seg w b off l ∧ Seg w b (off + l.length) m := by
 constructor
 ·intro h
  refine ⟨fun i v hi => h i v ?_, fun i v hi => ?_⟩
  ·have : i < l.length := by
    rcases Nat.lt_or_ge i l.length with h' | h'
    ·exact h'
    ·rw [List.getElem?_eq_none h'] at hi; cases hi
   rw [List.getElem?_append_left this]; exact hi
  ·rw [Nat.add_assoc]
   refine h _ v ?_
   rw [List.getElem?_append_right (by omega)]
   rw [Nat.add_sub_cancel_left]; exact hi
 ·rintro ⟨h, k⟩ i v hi
  rcases Nat.lt_or_ge i l.length with h' | h'
  ·rw [List.getElem?_append_left h'] at hi; exact h i v hi
  ·rw [List.getElem?_append_right h'] at hi
   have := k _ v hi
   rwa [show off + l.length + (i - l.length) = off + i from by omega] at this
/-! ### Stores into a block that is known -/
def put (l : List Value) (off : Nat) : List Value → List Value
  | [] => l
  | v :: r => put (l.set off v) (off + 1) r
theorem put_length (l : List Value) (off : Nat) (vs : List Value) : (put l off vs).length = l.length := by
 induction vs generalizing l off with
 | nil => rfl
 | cons v r ih => simp [put, ih]
theorem put_getElem? (vs : List Value) : ∀ (l : List Value) (off i : Nat), off + vs.length ≤ l.length → (put l off vs)[i]? = if off ≤ i ∧ i < off + vs.length then vs[i - off]? else l[i]? := by
 induction vs with
 | nil => intro l off i _; simp [put]; omega
 | cons v r ih =>
  intro l off i h
  simp only [List.length_cons] at h
  rw [put, ih _ _ _ (by simp; omega)]
  by_cases h1 : off = i
  ·subst h1
   rw [if_neg (by omega), if_pos (by simp)]
   simp [show off < l.length from by omega]
  ·by_cases h2 : off + 1 ≤ i ∧ i < off + 1 + r.length
   ·rw [if_pos h2, if_pos (by simp only [List.length_cons]; omega)]
    rw [show i - off = (i - (off + 1)) + 1 from by omega]
    simp
   ·rw [if_neg h2, if_neg (by simp only [List.length_cons]; omega)]
    rw [List.getElem?_set_ne h1]
theorem put_eq (l : List Value) (off : Nat) (vs : List Value) (h : off + vs.length ≤ l.length) : put l off vs = l.take off ++ vs ++ l.drop (off + vs.length) := by
 apply List.ext_getElem?
 intro i
 rw [put_getElem? _ _ _ _ h]
 split
 ·rename_i hi
  rw [List.append_assoc, List.getElem?_append_right (by simp; omega), List.getElem?_append_left (by simp; omega)]
  simp only [List.length_take]
  rw [Nat.min_eq_left (by omega)]
 ·rename_i hi
  rcases Nat.lt_or_ge i off with h' | h'
  ·rw [List.append_assoc, List.getElem?_append_left (by simp; omega), List.getElem?_take, if_pos h']
  ·rw [List.getElem?_append_right (by simp; omega), List.getElem?_drop]
   congr 1
   simp
   omega
theorem setCell_blk {w : World} {b : Nat} {T : TypeId} {l : List Value} (h : Blk w b T l) (off : Nat) (v : Value) :
  Blk (w.setCell ⟨b, off, none⟩ v) b T (l.set off v) ∧ Ext (One b) w (w.setCell ⟨b, off, none⟩ v) := by
 have hlt := h.lt
 unfold Blk at h
 refine ⟨?_, rfl, rfl, rfl, by simp, fun x hx hne => ?_, Nat.le_refl _⟩
 ·unfold Blk
  simp only [World.setCell, Array.getElem?_modify, ↓reduceIte, h, Option.map_some]
  simp
 ·simp only [World.setCell, Array.getElem?_modify]
  rw [if_neg (fun e => hne e.symm)]
theorem run_storeCells_blk {P : Program} {b : Nat} {T : TypeId} : ∀ (vs : List Value) (w : World) (l : List Value) (off i : Nat), Blk w b T l → off + i + vs.length ≤ l.length → (∀ v ∈ vs, v.oneCell' = true) →
  ∃ w', (storeCells ⟨b, off, none⟩ vs i).run P w = .ok () w' ∧ Blk w' b T (put l (off + i) vs) ∧ Ext (One b) w w' ∧ w'.heap.size = w.heap.size
 | [], w, l, off, i, h, _, _ => ⟨w, rfl, h, Ext.refl _ _, rfl⟩
 | v :: r, w, l, off, i, h, hl, h1 => by
  simp only [List.length_cons] at hl
  have hc : w.cell? ⟨b, off + i, none⟩ = some l[off + i] := h.cell (by simp)
  have hadd : (⟨b, off, none⟩ : Addr).add i = ⟨b, off + i, none⟩ := by
   unfold Addr.add; split
   ·rename_i h0; subst h0; rfl
   ·rfl
  obtain ⟨hb', hE⟩ := setCell_blk h (off + i) v
  obtain ⟨w', hr, hb2, hE2, hs⟩ := run_storeCells_blk r (w.setCell ⟨b, off + i, none⟩ v) (l.set (off + i) v) off (i + 1) hb' (by simp; omega) (fun u hu => h1 u (by simp [hu]))
  refine ⟨w', ?_, hb2, hE.then hE2, by rw [hs]; simp⟩
  have hv := h1 v (by simp)
  have hfz := h.free ⟨b, off + i, none⟩ rfl
  have hstore : (store ⟨b, off + i, none⟩ v).run P w = .ok () (w.setCell ⟨b, off + i, none⟩ v) := by
   cases v <;> first | (simp [Value.oneCell'] at hv; done) | (simp only [store, Sem.run, hc, hfz]; simp)
  simp only [storeCells, hadd, Sem.run_bind, hstore, Result.andThen_ok]
  exact hr
theorem run_loadCells_seg {P : Program} {w : World} {b off : Nat} : ∀ (n i : Nat) (l : List Value) (acc : Array Value), Seg w b (off + i) l → l.length = n →
  (loadCellsFrom ⟨b, off, none⟩ i n acc).run P w = .ok (acc ++ l.toArray) w
 | 0, i, l, acc, _, hl => by
  have : l = [] := by simpa using hl
  subst this; simp [loadCellsFrom]
 | n + 1, i, l, acc, h, hl => by
  cases l with
  | nil => simp at hl
  | cons v r =>
   have hadd : (⟨b, off, none⟩ : Addr).add i = ⟨b, off + i, none⟩ := by
    unfold Addr.add; split
    ·rename_i h0; subst h0; rfl
    ·rfl
   have hc : w.cell? ⟨b, off + i, none⟩ = some v := by simpa using h 0 v rfl
   have hr := run_loadCells_seg (P := P) n (i + 1) r (acc.push v) (by
    intro j u hj
    have := h (j + 1) u (by simpa using hj)
    rwa [show off + i + (j + 1) = off + (i + 1) + j from by omega] at this) (by simpa using hl)
   simp only [loadCellsFrom, hadd, Sem.run_bind, run_load, hc, Result.andThen_ok]
   rw [hr]
   congr 1
   apply Array.ext'; simp
theorem alloc_blk (w : World) (l : List Value) (T : TypeId) : Blk (w.alloc (.cells l.toArray T)) w.heap.size T l := by
 unfold Blk
 show (w.heap.push _)[w.heap.size]? = _
 simp
/-! ### Types -/
structure TI where
  desc : TypeDesc
  size : Nat
  bytes : Nat
  zero : Value
abbrev Info := List (Nat × TI)
def lkT : Info → Nat → Option TI
  | [], _ => none
  | (j, v) :: r, i => match Nat.beq j i with
    | true => some v
    | false => lkT r i
def TI.Ok (P : Program) (t : Nat) (x : TI) : Prop := P.underlying t = some x.desc ∧ (P.info? t).map (fun i => (i.size, i.bytes, i.zero)) = some (x.size, x.bytes, some x.zero)
def Info.Ok (P : Program) : Info → Prop
  | [] => True
  | (t, x) :: r => x.Ok P t ∧ Info.Ok P r
theorem Info.Ok.get {P : Program} : ∀ {I : Info}, Info.Ok P I → ∀ {t : Nat} {x : TI}, lkT I t = some x → x.Ok P t
 | [], _, t, x, h => by simp [lkT] at h
 | (j, v) :: r, hI, t, x, h => by
  have h' : (match Nat.beq j t with | true => some v | false => lkT r t) = some x := h
  cases hb : Nat.beq j t with
  | true =>
   rw [hb] at h'
   have := Nat.eq_of_beq_eq_true hb
   subst this
   simp at h'; subst h'
   exact hI.1
  | false => rw [hb] at h'; exact Info.Ok.get hI.2 h'
section types
variable {P : Program} {t : Nat} {x : TI} (h : x.Ok P t) (w : World)
include h
theorem TI.Ok.under : (underlying t).run P w = .ok x.desc w := by
 unfold underlying
 simp [h.1]
theorem TI.Ok.info : ∃ i, P.info? t = some i ∧ i.size = x.size ∧ i.bytes = x.bytes ∧ i.zero = some x.zero := by
 obtain ⟨i, hi, e⟩ := Option.map_eq_some_iff.1 h.2
 simp only [Prod.mk.injEq] at e
 exact ⟨i, hi, e.1, e.2.1, e.2.2⟩
theorem TI.Ok.sizeOf : (sizeOf t).run P w = .ok x.size w := by
 obtain ⟨i, hi, h1, _, _⟩ := TI.Ok.info h
 unfold Go.sizeOf typeInfo
 simp [hi, h1]
theorem TI.Ok.zeroValue : (zeroValue t).run P w = .ok x.zero w := by
 obtain ⟨i, hi, _, _, h3⟩ := TI.Ok.info h
 unfold Go.zeroValue typeInfo
 simp [hi, h3]
end types
def TI.isAgg (x : TI) : Bool :=
  match x.desc with
  | .struct _ => true
  | .array _ _ => true
  | _ => false
theorem TI.Ok.isAgg {P : Program} {t : Nat} {x : TI} (h : x.Ok P t) (w : World) : (Go.isAgg t).run P w = .ok x.isAgg w := by
 unfold Go.isAgg
 simp only [Sem.run_bind, h.under, Result.andThen_ok, TI.isAgg]
 cases x.desc <;> rfl
def nth : List Value → Nat → Option Value
  | [], _ => none
  | v :: _, 0 => some v
  | _ :: r, n + 1 => nth r n
theorem nth_eq : ∀ (l : List Value) (i : Nat), nth l i = l[i]?
 | [], _ => by simp [nth]
 | v :: r, 0 => rfl
 | v :: r, n + 1 => by simp [nth, nth_eq r n]
/-! ### Integers -/
def bitI (op : BinOp) (k : IntKind) (p q : Int) : Int :=
  match op with
  | .and => k.wrap (BitVec.ofInt k.bits p &&& BitVec.ofInt k.bits q).toNat
  | .or => k.wrap (BitVec.ofInt k.bits p ||| BitVec.ofInt k.bits q).toNat
  | .xor => k.wrap (BitVec.ofInt k.bits p ^^^ BitVec.ofInt k.bits q).toNat
  | _ => k.wrap (BitVec.ofInt k.bits p &&& ~~~BitVec.ofInt k.bits q).toNat
def intBin (op : BinOp) (k : IntKind) (p q : Int) : Option Value :=
  match op with
  | .add => some (.int k (k.wrap (p + q)))
  | .sub => some (.int k (k.wrap (p - q)))
  | .mul => some (.int k (k.wrap (p * q)))
  | .quo => match decide (q = 0) with
    | true => none
    | false => some (.int k (k.wrap (p.tdiv q)))
  | .rem => match decide (q = 0) with
    | true => none
    | false => some (.int k (p.tmod q))
  | .and => some (.int k (bitI .and k p q))
  | .or => some (.int k (bitI .or k p q))
  | .xor => some (.int k (bitI .xor k p q))
  | .andNot => some (.int k (bitI .andNot k p q))
  | .eql => some (.bool (decide (p = q)))
  | .neq => some (.bool (decide (p ≠ q)))
  | .lss => some (.bool (decide (p < q)))
  | .leq => some (.bool (decide (p ≤ q)))
  | .gtr => some (.bool (decide (q < p)))
  | .geq => some (.bool (decide (q ≤ p)))
  | _ => none
def shiftBin (op : BinOp) (k : IntKind) (p q : Int) : Option Value :=
  match decide (q < 0) with
  | true => none
  | false => match op with
    | .shl => some (.int k (k.wrap (p * 2 ^ min q.toNat k.bits)))
    | .shr => some (.int k (p.fdiv (2 ^ min q.toNat k.bits)))
    | _ => none
def isShift : BinOp → Bool
  | .shl => true
  | .shr => true
  | _ => false
def nilEq (a b : Value) : Option Bool :=
  match a, b with
  | .pointer none, .pointer none => some true
  | .pointer none, .pointer (some _) => some false
  | .pointer (some _), .pointer none => some false
  | .slice none _ _, .slice none _ _ => some true
  | .slice none _ _, .slice (some _) _ _ => some false
  | .slice (some _) _ _, .slice none _ _ => some false
  | .map none, .map none => some true
  | .map none, .map (some _) => some false
  | .map (some _), .map none => some false
  | .bool p, .bool q => some (p == q)
  | _, _ => none
def eqOk (I : Info) (t : Nat) (a : Value) : Bool :=
  match lkT I t with
  | some x => match x.desc, a with
    | .pointer _, .pointer _ => true
    | .slice _, .slice _ _ _ => true
    | .map _ _, .map _ => true
    | .bool, .bool _ => true
    | _, _ => false
  | none => false
def binNil (I : Info) (t : Nat) (op : BinOp) (a b : Value) : Option Value :=
  match eqOk I t a with
  | false => none
  | true => match op with
    | .eql => match nilEq a b with
      | some r => some (.bool r)
      | none => none
    | .neq => match nilEq a b with
      | some r => some (.bool (!r))
      | none => none
    | _ => none
def SLt (p q : ByteArray) : Prop := Op.bytesLess p.data.toList q.data.toList = true
instance (p q : ByteArray) : Decidable (SLt p q) := inferInstanceAs (Decidable (_ = true))
def strBin (op : BinOp) (p q : ByteArray) : Option Value :=
  match op with
  | .eql => some (.bool (decide (p = q)))
  | .neq => some (.bool (decide (p ≠ q)))
  | .lss => some (.bool (decide (SLt p q)))
  | .leq => some (.bool (decide (SLt p q ∨ p = q)))
  | .gtr => some (.bool (decide (¬ (SLt p q ∨ p = q))))
  | .geq => some (.bool (decide (¬ SLt p q)))
  | _ => none
def bin (I : Info) (t : Nat) (op : BinOp) (a b : Value) : Option Value :=
  match a with
  | .string p => match b with
    | .string q => strBin op p q
    | _ => none
  | .int k p => match b with
    | .int k' q => match isShift op with
      | true => shiftBin op k p q
      | false => match decide (k = k') with
        | true => intBin op k p q
        | false => none
    | _ => none
  | a => binNil I t op a b
def fieldOf (I : Info) (s f : Nat) : Option (Nat × Nat) :=
  match lkT I s with
  | some x => match x.desc with
    | .struct fs => match fs[f]? with
      | some g => match lkT I g.type with
        | some y => match y.size with
          | 0 => none
          | n + 1 => match g.offset with
            | 0 => some (0, n + 1)
            | k + 1 => some (k + 1, n + 1)
        | none => none
      | none => none
    | _ => none
  | none => none
def pev (I : Info) (op : Op) (env : Env) : Option Value :=
  match op with
  | .move x => evO env x
  | .assign x => evO env x
  | .pick c a b => match evO env c with
    | some (.bool true) => evO env a
    | some (.bool false) => evO env b
    | _ => none
  | .nilCheck x => match evO env x with
    | some (.pointer (some a)) => some (.pointer (some a))
    | _ => none
  | .fieldAddr s x f => match evO env x with
    | some (.pointer (some ⟨b, o, none⟩)) => match fieldOf I s f with
      | some (off, _) => some (.pointer (some ⟨b, o + off, none⟩))
      | none => none
    | _ => none
  | .extract x i => match evO env x with
    | some (.tuple vs) => nth vs.toList i
    | _ => none
  | .binOp op t x y _ => match evO env x with
    | some a => match evO env y with
      | some b => bin I t op a b
      | none => none
    | none => none
  | .unOp .not _ x => match evO env x with
    | some (.bool b) => some (.bool (!b))
    | _ => none
  | .convert s d x => match lkT I s with
    | some _ => match lkT I d with
      | some y => match y.desc with
        | .int k => match evO env x with
          | some (.int _ n) => some (.int k (k.wrap n))
          | _ => none
        | _ => none
      | none => none
    | none => none
  | .makeFunc fn first captured => match evs env first.toList with
    | some a => match evs env captured.toList with
      | some c => some (.func fn a.toArray c.toArray)
      | none => none
    | none => none
  | .call { callee := .builtin .len, args := xs, argTypes := ts } => match xs.toList with
    | [x] => match ts.toList with
      | [t] => match lkT I t with
        | some y => match y.desc with
          | .slice _ => match evO env x with
            | some (.slice _ n _) => some (.int .i64 (n : Int))
            | _ => none
          | .string => match evO env x with
            | some (.string s) => some (.int .i64 (s.size : Int))
            | _ => none
          | .array n _ => match evO env x with
            | some _ => some (.int .i64 (n : Int))
            | none => none
          | _ => none
        | none => none
      | _ => none
    | _ => none
  | .call { callee := .builtin .min, args := xs, .. } => match xs.toList with
    | [x, y] => match evO env x with
      | some (.int k p) => match evO env y with
        | some (.int _ q) => some (.int k (if q < p then q else p))
        | _ => none
      | _ => none
    | _ => none
  | .call { callee := .builtin .max, args := xs, .. } => match xs.toList with
    | [x, y] => match evO env x with
      | some (.int k p) => match evO env y with
        | some (.int _ q) => some (.int k (if p < q then q else p))
        | _ => none
      | _ => none
    | _ => none
  | _ => none
theorem beq_decide (p q : Int) : (p == q) = decide (p = q) := by
 by_cases h : p = q <;> simp [h]
theorem bne_decide (p q : Int) : (p != q) = decide (p ≠ q) := by
 by_cases h : p = q <;> simp [h]
theorem run_intBin {P : Program} {op : BinOp} {k : IntKind} {p q : Int} {v : Value} (h : intBin op k p q = some v) (t : TypeId) (w : World) : (binOp op t (.int k p) (.int k q)).run P w = .ok v w := by
 cases op <;> simp only [intBin] at h
 case quo =>
  split at h
  ·cases h
  ·rename_i hq
   have hq' : q ≠ 0 := by simpa using hq
   cases h
   simp [binOp, Op.intDiv, hq']
 case rem =>
  split at h
  ·cases h
  ·rename_i hq
   have hq' : q ≠ 0 := by simpa using hq
   cases h
   simp [binOp, Op.intDiv, hq']
 case shl => cases h
 case shr => cases h
 all_goals (cases h; simp [binOp, Op.intArith, Op.intCmp, Op.intBits, bitI, beq_decide, bne_decide])
theorem run_shiftBin {P : Program} {op : BinOp} {k k' : IntKind} {p q : Int} {v : Value} (h : shiftBin op k p q = some v) (t : TypeId) (w : World) : (binOp op t (.int k p) (.int k' q)).run P w = .ok v w := by
 unfold shiftBin at h
 split at h
 ·cases h
 ·rename_i hq
  have hq' : ¬ q < 0 := by simpa using hq
  cases op <;> simp only at h <;> first | (cases h; done) | (cases h; simp [binOp, Op.shift, hq'])
theorem run_under_bind {P : Program} {t : Nat} {D : TypeDesc} {w : World} {β : Type} (hu : (underlying t).run P w = .ok D w) (k : TypeDesc → Sem β) : (underlying t >>= k).run P w = (k D).run P w := by
 rw [Sem.run_bind, hu]; rfl
theorem run_nilEqIn {P : Program} {I : Info} (hI : I.Ok P) {t : Nat} {a b : Value} {r : Bool} (h : nilEq a b = some r) (ht : eqOk I t a = true) (w : World) (d : Nat) : (Op.equalIn (d + 1) t a b).run P w = .ok r w := by
 unfold eqOk at ht
 cases hx : lkT I t with
 | none => rw [hx] at ht; cases ht
 | some x =>
  rw [hx] at ht
  have hu := (hI.get hx).under w
  unfold Op.equalIn
  rw [run_under_bind hu]
  clear hu hI hx
  obtain ⟨D, n1, n2, n3⟩ := x
  simp only at ht ⊢
  cases a <;> cases D <;> first | (cases ht; done) | skip
  ·cases b <;> cases h; rfl
  ·rename_i p e
   cases p <;> cases b <;> first | (cases h; done) | (rename_i q; cases q <;> cases h <;> rfl)
  ·rename_i p n c e
   cases p <;> cases b <;> first | (cases h; done) | (rename_i q _ _; cases q <;> cases h <;> rfl)
  ·rename_i p e _
   cases p <;> cases b <;> first | (cases h; done) | (rename_i q; cases q <;> cases h <;> rfl)
theorem run_nilEq {P : Program} {I : Info} (hI : I.Ok P) {t : Nat} {a b : Value} {r : Bool} (h : nilEq a b = some r) (ht : eqOk I t a = true) (w : World) : (Op.equal t a b).run P w = .ok r w := by
 have e : Op.equal t a b = Op.equalIn (9999 + 1) t a b := rfl
 rw [e]
 exact run_nilEqIn hI h ht w 9999
theorem nilEq_fits {a b : Value} {r : Bool} (h : nilEq a b = some r) : (∃ p q, a = .pointer p ∧ b = .pointer q) ∨ (∃ p n c q m d, a = .slice p n c ∧ b = .slice q m d) ∨ (∃ p q, a = .map p ∧ b = .map q) ∨ (∃ p q, a = .bool p ∧ b = .bool q) := by
 unfold nilEq at h
 split at h <;> first | (cases h; done) | (simp; done)
theorem str_beq (p q : ByteArray) : (p.toList == q.toList) = decide (p = q) := by
 rw [ByteArray.toList_eq, ByteArray.toList_eq]
 obtain ⟨⟨x⟩⟩ := p
 obtain ⟨⟨y⟩⟩ := q
 rw [Bool.eq_iff_iff]
 simp
theorem run_strBin {P : Program} {op : BinOp} {p q : ByteArray} {v : Value} (h : strBin op p q = some v) (t : TypeId) (x y : Operand) (w : World) : (do eqGuard op t x y (.string p) (.string q); binOp op t (.string p) (.string q) : Sem Value).run P w = .ok v w := by
 have e : (eqGuard op t x y (.string p) (.string q)).run P w = .ok () w := by
  unfold eqGuard
  cases op <;> rfl
 have hl : Op.bytesLess p.toList q.toList = decide (SLt p q) := by
  rw [ByteArray.toList_eq, ByteArray.toList_eq]
  exact (Bool.decide_eq_true (b := Op.bytesLess p.data.toList q.data.toList)).symm
 have hb := str_beq p q
 rw [Sem.run_bind, e, Result.andThen_ok]
 have hs : ∀ o, binOp o t (.string p) (.string q) = Op.stringOp o p q := fun o => by cases o <;> rfl
 rw [hs]
 unfold Op.stringOp
 rw [hl, hb]
 cases op <;> simp only [strBin, Option.some.injEq, reduceCtorEq] at h <;> subst h
 all_goals first | (simp only [Sem.run_pure]; done) | (simp only [Sem.run_pure]; congr 2 <;> simp)
theorem run_bin {P : Program} {I : Info} (hI : I.Ok P) {t : Nat} {op : BinOp} {a b v : Value} (h : bin I t op a b = some v) (x y : Operand) (w : World) :
  (do eqGuard op t x y a b; binOp op t a b : Sem Value).run P w = .ok v w := by
 by_cases hst : ∃ p, a = .string p
 ·obtain ⟨p, rfl⟩ := hst
  simp only [bin] at h
  split at h
  ·exact run_strBin h t x y w
  ·cases h
 by_cases hi : (∃ k p, a = .int k p) ∧ (∃ k' q, b = .int k' q)
 ·obtain ⟨⟨k, p, rfl⟩, k', q, rfl⟩ := hi
  have e : (eqGuard op t x y (.int k p) (.int k' q)).run P w = .ok () w := by
   unfold eqGuard
   cases op <;> rfl
  rw [Sem.run_bind, e, Result.andThen_ok]
  simp only [bin] at h
  split at h
  ·exact run_shiftBin h t w
  ·split at h
   ·rename_i hk
    have hk' : k = k' := of_decide_eq_true hk
    subst hk'
    exact run_intBin h t w
   ·cases h
 ·have h' : binNil I t op a b = some v := by
   cases a <;> first | exact h | exact absurd ⟨_, rfl⟩ hst | skip
   cases b <;> first | (cases h; done) | exact absurd ⟨⟨_, _, rfl⟩, _, _, rfl⟩ hi
  unfold binNil at h'
  split at h'
  ·cases h'
  ·rename_i hok
   split at h'
   ·split at h'
    ·rename_i r hr
     cases h'
     have heq := run_nilEq hI hr hok w
     obtain ⟨p, q, rfl, rfl⟩ | ⟨p, n, c, q, m, d, rfl, rfl⟩ | ⟨p, q, rfl, rfl⟩ | ⟨p, q, rfl, rfl⟩ := nilEq_fits hr
     all_goals
      rw [Sem.run_bind, show (eqGuard .eql t x y _ _).run P w = .ok () w from rfl, Result.andThen_ok]
      show (do pure (Value.bool (← Op.equal t _ _)) : Sem Value).run P w = _
      rw [Sem.run_bind, heq]
      rfl
    ·cases h'
   ·split at h'
    ·rename_i r hr
     cases h'
     have heq := run_nilEq hI hr hok w
     obtain ⟨p, q, rfl, rfl⟩ | ⟨p, n, c, q, m, d, rfl, rfl⟩ | ⟨p, q, rfl, rfl⟩ | ⟨p, q, rfl, rfl⟩ := nilEq_fits hr
     all_goals
      rw [Sem.run_bind, show (eqGuard .neq t x y _ _).run P w = .ok () w from rfl, Result.andThen_ok]
      show (do pure (Value.bool (!(← Op.equal t _ _))) : Sem Value).run P w = _
      rw [Sem.run_bind, heq]
      rfl
    ·cases h'
   ·cases h'
theorem evs_map {env : Env} {ρ : Operand → Value} (hρ : ∀ x u, evO env x = some u → ρ x = u) : ∀ {l : List Operand} {vs : List Value}, evs env l = some vs → l.map ρ = vs
 | [], vs, h => by simp [evs] at h; subst h; rfl
 | y :: r, vs, h => by
  simp only [evs] at h
  split at h
  ·rename_i u hu
   split at h
   ·rename_i l' hl'
    simp at h; subst h
    simp [hρ _ _ hu, evs_map hρ hl']
   ·simp at h
  ·simp at h
theorem evs_arr {env : Env} {ρ : Operand → Value} (hρ : ∀ x u, evO env x = some u → ρ x = u) {xs : Array Operand} {vs : List Value} (h : evs env xs.toList = some vs) : xs.map ρ = vs.toArray := by
 apply Array.ext'
 rw [Array.toList_map, evs_map hρ h]
theorem run_fieldAt {P : Program} {I : Info} (hI : I.Ok P) {s f off n : Nat} (h : fieldOf I s f = some (off, n)) (b o : Nat) (w : World) :
  (Instr.fieldAt s (.pointer (some ⟨b, o, none⟩)) f).run P w = .ok (.pointer (some ⟨b, o + off, none⟩)) w := by
 unfold fieldOf at h
 split at h
 ·rename_i x hx
  have hu := (hI.get hx).under w
  split at h
  ·rename_i fs hfs
   split at h
   ·rename_i g hg
    split at h
    ·rename_i y hy
     have hs := (hI.get hy).sizeOf w
     split at h
     ·cases h
     ·rename_i m hm
      have hoff : off = g.offset := by
       split at h
       ·rename_i h0; cases h; exact h0.symm
       ·rename_i k hk; cases h; exact hk.symm
      subst hoff
      unfold Instr.fieldAt
      rw [run_under_bind hu, hfs]
      simp only [hg, Instr.sureAddr, fieldPlace, Sem.run_bind, Sem.run_pure, Result.andThen_ok, hs, hm]
      simp only [Addr.add]
      by_cases h0 : g.offset = 0
      ·simp [h0]
      ·simp [h0]
    ·cases h
   ·cases h
  ·cases h
 ·cases h
theorem pev_sound {P : Program} {I : Info} (hI : I.Ok P) {o : Oper} {env : Env} {v : Value} (h : pev I o.op env = some v) (w : World) : Ov P o env w v w := by
 intro ρ hρ
 obtain ⟨dst, op, type, pos, after, guard⟩ := o
 simp only at h
 cases op
 case move x => simp only [pev] at h; simp [execOp, hρ _ _ h]
 case assign x => simp only [pev] at h; simp [execOp, hρ _ _ h]
 case pick c a b =>
  simp only [pev] at h
  split at h
  ·rename_i hc; simp [execOp, hρ _ _ hc, hρ _ _ h, asBool]
  ·rename_i hc; simp [execOp, hρ _ _ hc, hρ _ _ h, asBool]
  ·cases h
 case nilCheck x =>
  simp only [pev] at h
  split at h
  ·rename_i a hx; cases h; simp [execOp, hρ _ _ hx]
  ·cases h
 case fieldAddr s x f =>
  simp only [pev] at h
  split at h
  ·rename_i b q hx
   split at h
   ·rename_i off n hf
    cases h
    simp [execOp, hρ _ _ hx, run_fieldAt hI hf]
   ·cases h
  ·cases h
 case extract x i =>
  simp only [pev] at h
  split at h
  ·rename_i vs hx
   rw [nth_eq] at h
   have h' : vs[i]? = some v := by simpa using h
   simp [execOp, hρ _ _ hx, Instr.extract, h']
  ·cases h
 case binOp op t x y u =>
  simp only [pev] at h
  split at h
  ·rename_i a ha
   split at h
   ·rename_i b hb
    have := run_bin hI h x y w
    simp only [execOp, hρ _ _ ha, hρ _ _ hb]
    rw [Sem.run_bind, this]
    rfl
   ·cases h
  ·cases h
 case unOp op t x =>
  cases op <;> simp only [pev] at h <;> first | (cases h; done) | skip
  split at h
  ·rename_i b hx; cases h; simp [execOp, hρ _ _ hx, Op.unary]
  ·cases h
 case convert s d x =>
  simp only [pev] at h
  split at h
  ·rename_i z hz
   have hz' := (hI.get hz).under w
   split at h
   ·rename_i y hy
    have hu := (hI.get hy).under w
    split at h
    ·rename_i k hk
     split at h
     ·rename_i k' n hx
      cases h
      simp only [execOp, hρ _ _ hx, convert]
      rw [Sem.run_bind, run_under_bind hz', run_under_bind hu, hk]
      cases z.desc <;> rfl
     ·cases h
    ·cases h
   ·cases h
  ·cases h
 case makeFunc fn first captured =>
  simp only [pev] at h
  split at h
  ·rename_i a ha
   split at h
   ·rename_i c hc
    cases h
    simp [execOp, Instr.makeFunc, evs_arr hρ ha, evs_arr hρ hc]
   ·cases h
  ·cases h
 case call c =>
  obtain ⟨callee, xs, ts⟩ := c
  cases callee
  case value => cases h
  case invoke => cases h
  case builtin b =>
   cases b
   case len =>
    simp only [pev] at h
    split at h
    ·rename_i x hxs
     have hx1 : xs = #[x] := by apply Array.ext'; simpa using hxs
     subst hx1
     split at h
     ·rename_i t hts
      have ht1 : ts = #[t] := by apply Array.ext'; simpa using hts
      subst ht1
      split at h
      ·rename_i y hy
       have hu := (hI.get hy).under w
       have go : ∀ {u : Value}, ρ x = u → ∀ {r : Value}, (match y.desc, u with
         | .string, .string s => (pure (goInt s.size) : Sem Value)
         | .array n _, _ => pure (goInt n)
         | .slice _, .slice _ n _ => pure (goInt n)
         | _, _ => .halt .blocked).run P w = .ok r w →
         (execOp ρ { dst, op := .call { callee := .builtin .len, args := #[x], argTypes := #[t] }, type, pos, after, guard }).run P w = .ok (.value r) w := by
        intro u hu' r hr
        simp only [execOp, resolve, Sem.run_bind, Sem.run_pure, Result.andThen_ok, invoke, builtin]
        have e : (Builtin.len_ #[t] type (Array.map ρ #[x])).run P w = .ok r w := by
         have em : Array.map ρ #[x] = #[u] := by simp [hu']
         rw [em]
         unfold Builtin.len_
         simp only [List.getElem?_toArray, List.getElem?_cons_zero]
         rw [run_under_bind hu]
         generalize y.desc = D at hr
         cases D <;> cases u <;> first | exact hr | (cases hr; done)
        rw [e]
        rfl
       split at h
       ·rename_i e hd
        split at h
        ·rename_i a n c hx
         cases h
         refine go (hρ _ _ hx) ?_
         rw [hd]; rfl
        ·cases h
       ·rename_i hd
        split at h
        ·rename_i s hx
         cases h
         refine go (hρ _ _ hx) ?_
         rw [hd]; rfl
        ·cases h
       ·rename_i n e hd
        split at h
        ·rename_i u hx
         cases h
         refine go (hρ _ _ hx) ?_
         rw [hd]; cases u <;> rfl
        ·cases h
       ·cases h
      ·cases h
     ·cases h
    ·cases h
   case min =>
    simp only [pev] at h
    split at h
    ·rename_i x y hxs
     have hx1 : xs = #[x, y] := by apply Array.ext'; simpa using hxs
     subst hx1
     split at h
     ·rename_i k p hx
      split at h
      ·rename_i k' q hy
       cases h
       simp [execOp, resolve, invoke, builtin, Builtin.min_, hρ _ _ hx, hρ _ _ hy, Builtin.min2]
      ·cases h
     ·cases h
    ·cases h
   case max =>
    simp only [pev] at h
    split at h
    ·rename_i x y hxs
     have hx1 : xs = #[x, y] := by apply Array.ext'; simpa using hxs
     subst hx1
     split at h
     ·rename_i k p hx
      split at h
      ·rename_i k' q hy
       cases h
       simp [execOp, resolve, invoke, builtin, Builtin.max_, hρ _ _ hx, hρ _ _ hy, Builtin.max2]
      ·cases h
     ·cases h
    ·cases h
   all_goals (cases h; done)
 all_goals (cases h; done)
def pushO (n : Nat) (dst : Option Tmp) (v : Value) (env : Env) : Option Env :=
  match dst with
  | some d => match Nat.blt d n with
    | true => some ((d, v) :: env)
    | false => none
  | none => none
def pevs (I : Info) (n : Nat) : List Oper → Env → Option (List Oper × Env)
  | [], env => some ([], env)
  | o :: r, env => match o.guard with
    | some _ => some (o :: r, env)
    | none => match pev I o.op env with
      | none => some (o :: r, env)
      | some v => match pushO n o.dst v env with
        | some env' => pevs I n r env'
        | none => none
def pevsG (I : Info) (n : Nat) (ops : Array Oper) : List Oper → Env → Option (List Oper × Env)
  | [], env => some ([], env)
  | o :: r, env => match passes ops env o with
    | true => match pushO n o.dst undef env with
      | some env' => pevsG I n ops r env'
      | none => none
    | false => match takes ops env o with
      | false => none
      | true => match pev I o.op env with
        | none => some (o :: r, env)
        | some v => match pushO n o.dst v env with
          | some env' => pevsG I n ops r env'
          | none => none
section
variable {P : Program} {I : Info} {f : Fs} {ops : Array Oper} {Q : XPost} {rest : List Oper} {env : Env} {w : World}
theorem pushO_eq {n : Nat} {dst : Option Tmp} {v : Value} {env env' : Env} (h : pushO n dst v env = some env') : dOk n dst = true ∧ env' = pushE dst v env := by
 unfold pushO at h
 split at h
 ·split at h
  ·rename_i d hd; cases h; exact ⟨hd, rfl⟩
  ·cases h
 ·cases h
theorem wl_p (hI : I.Ok P) {l l' : List Oper} {env' : Env} (h : pevs I f.n l env = some (l', env')) (k : WL P f ops Q l' env' w) : WL P f ops Q l env w := by
 induction l generalizing env with
 | nil => simp [pevs] at h; obtain ⟨rfl, rfl⟩ := h; exact k
 | cons o r ih =>
  simp only [pevs] at h
  split at h
  ·simp at h; obtain ⟨rfl, rfl⟩ := h; exact k
  ·rename_i hg
   split at h
   ·simp at h; obtain ⟨rfl, rfl⟩ := h; exact k
   ·rename_i v hv
    split at h
    ·rename_i e he
     obtain ⟨hd, rfl⟩ := pushO_eq he
     exact wl (st_v (by simp [takes, hg]) hd (pev_sound hI hv w) (ih h))
    ·cases h
end
/-! ### What an operation that touches memory has before it -/
def addrOf (v : Option Value) : Option (Nat × Nat) :=
  match v with
  | some (.pointer (some ⟨b, off, none⟩)) => some (b, off)
  | _ => none
theorem addrOf_eq {v : Option Value} {b off : Nat} (h : addrOf v = some (b, off)) : v = some (.pointer (some ⟨b, off, none⟩)) := by
 unfold addrOf at h
 split at h
 ·cases h; rfl
 ·cases h
def pre (n : Nat) (ops : Array Oper) (env : Env) (o : Oper) : Bool :=
  match takes ops env o with
  | true => dOk n o.dst
  | false => false
theorem pre_eq {n : Nat} {ops : Array Oper} {env : Env} {o : Oper} (h : pre n ops env o = true) : takes ops env o = true ∧ dOk n o.dst = true := by
 unfold pre at h
 split at h
 ·exact ⟨by assumption, h⟩
 ·cases h
def ldE (I : Info) (n : Nat) (ops : Array Oper) (env : Env) (o : Oper) : Option (Nat × Nat × Option Nat × Nat) :=
  match pre n ops env o with
  | false => none
  | true => match o.dst with
    | none => none
    | some d => match o.op with
      | .load t x => match lkT I t with
        | some y => match addrOf (evO env x) with
          | some (b, off) => match y.isAgg with
            | true => match y.size with
              | 0 => none
              | m + 1 => some (b, off, some (m + 1), d)
            | false => some (b, off, none, d)
          | none => none
        | none => none
      | _ => none
def cellsOf (v : Value) : List Value :=
  match v with
  | .agg cs => cs.toList
  | v => [v]
@[simp] theorem zj9 (l : List Value) : cellsOf (.agg l.toArray) = l := rfl
@[simp] theorem cellsOf_int (k : IntKind) (n : Int) : cellsOf (.int k n) = [.int k n] := rfl
@[simp] theorem cellsOf_bool (b : Bool) : cellsOf (.bool b) = [.bool b] := rfl
@[simp] theorem cellsOf_string (b : ByteArray) : cellsOf (.string b) = [.string b] := rfl
@[simp] theorem cellsOf_slice (p : Option Addr) (n c : Nat) : cellsOf (.slice p n c) = [.slice p n c] := rfl
@[simp] theorem cellsOf_pointer (p : Option Addr) : cellsOf (.pointer p) = [.pointer p] := rfl
theorem cellsOf_eq (v : Value) : v.cells.toList = cellsOf v := by cases v <;> rfl
theorem cellsOf_size (v : Value) : v.cells.size = (cellsOf v).length := by rw [← cellsOf_eq]; simp
def stE (I : Info) (n : Nat) (ops : Array Oper) (env : Env) (o : Oper) : Option (Nat × Nat × Nat × Value) :=
  match pre n ops env o with
  | false => none
  | true => match o.op with
    | .store t x z => match lkT I t with
      | some y => match addrOf (evO env x) with
        | some (b, off) => match evO env z with
          | some v => match o.dst with
            | none => match y.size with
              | 0 => none
              | m + 1 => some (b, off, m + 1, v)
            | some _ => none
          | none => none
        | none => none
      | none => none
    | _ => none
def alE (I : Info) (n : Nat) (ops : Array Oper) (env : Env) (o : Oper) : Option (Nat × Value × Nat) :=
  match pre n ops env o with
  | false => none
  | true => match o.dst with
    | some d => match o.op with
      | .alloc t => match lkT I t with
        | some y => some (t, y.zero, d)
        | none => none
      | .box t x => match evO env x with
        | some v => some (t, v, d)
        | none => none
      | _ => none
    | none => none
def ixE (I : Info) (n : Nat) (ops : Array Oper) (env : Env) (o : Oper) : Option (Nat × Nat × Nat × Nat × Int × Nat) :=
  match pre n ops env o with
  | false => none
  | true => match o.dst with
    | some d => match o.op with
      | .indexAddr t x j => match lkT I t with
        | some y => match evO env j with
          | some (.int _ i) => match y.desc with
            | .slice e => match lkT I e with
              | some z => match evO env x with
                | some (.slice (some ⟨b, off, none⟩) len _) => match z.size with
                  | 0 => none
                  | m + 1 => some (b, off, len, m + 1, i, d)
                | _ => none
              | none => none
            | .array len e => match lkT I e with
              | some z => match evO env x with
                | some (.pointer (some ⟨b, off, none⟩)) => match z.size with
                  | 0 => none
                  | m + 1 => some (b, off, len, m + 1, i, d)
                | _ => none
              | none => none
            | _ => none
          | _ => none
        | none => none
      | _ => none
    | none => none
section
variable {P : Program} {I : Info} {f : Fs} {ops : Array Oper} {o : Oper} {env : Env} {w : World} {K : Env → World → Prop}
theorem ldE_eq {n b off d : Nat} {m : Option Nat} (h : ldE I n ops env o = some (b, off, m, d)) : takes ops env o = true ∧ dOk n o.dst = true ∧ o.dst = some d ∧ ∃ t x y, o.op = .load t x ∧ lkT I t = some y ∧ evO env x = some (.pointer (some ⟨b, off, none⟩)) ∧
  ((y.isAgg = true ∧ m = some y.size) ∨ (y.isAgg = false ∧ m = none)) := by
 unfold ldE at h
 split at h
 ·cases h
 ·rename_i hp
  obtain ⟨h1, h2⟩ := pre_eq hp
  refine ⟨h1, h2, ?_⟩
  split at h
  ·cases h
  ·rename_i d' hd
   split at h
   ·rename_i t x ho
    split at h
    ·rename_i y hy
     split at h
     ·rename_i b' off' ha
      split at h
      ·rename_i hagg
       split at h
       ·cases h
       ·rename_i m' hm'; cases h; exact ⟨hd, t, x, y, ho, hy, addrOf_eq ha, .inl ⟨hagg, by rw [hm']⟩⟩
      ·rename_i hagg; cases h; exact ⟨hd, t, x, y, ho, hy, addrOf_eq ha, .inr ⟨hagg, rfl⟩⟩
     ·cases h
    ·cases h
   ·cases h
theorem ov_ld (hI : I.Ok P) {n b off d : Nat} {v : Value} (h : ldE I n ops env o = some (b, off, none, d)) (hc : w.cell? ⟨b, off, none⟩ = some v) : Ov P o env w v w := by
 obtain ⟨h1, h2, _, t, x, y, ho, hy, hx, h3⟩ := ldE_eq h
 have hagg : y.isAgg = false := by
  rcases h3 with ⟨ha, hm⟩ | ⟨ha, _⟩
  ·cases hm
  ·exact ha
 intro ρ hρ
 have h4 := (hI.get hy).isAgg w
 rw [hagg] at h4
 simp [execOp, ho, hρ _ _ hx, Instr.loadAt, Instr.sureAddr, loadVar, h4, hc]
theorem ov_ldN (hI : I.Ok P) {n b off m d : Nat} {l : List Value} (h : ldE I n ops env o = some (b, off, some m, d)) (hs : Seg w b off l) (hl : l.length = m) : Ov P o env w (.agg l.toArray) w := by
 obtain ⟨h1, h2, _, t, x, y, ho, hy, hx, h3⟩ := ldE_eq h
 obtain ⟨hagg, rfl⟩ : y.isAgg = true ∧ m = y.size := by
  rcases h3 with ⟨ha, hm⟩ | ⟨_, hm⟩
  ·exact ⟨ha, Option.some.inj hm⟩
  ·cases hm
 intro ρ hρ
 have h4 := (hI.get hy).isAgg w
 rw [hagg] at h4
 have h5 := (hI.get hy).sizeOf w
 have h6 := run_loadCells_seg (P := P) (w := w) (b := b) (off := off) y.size 0 l #[] (by simpa using hs) hl
 simp only [execOp, ho, hρ _ _ hx, Instr.loadAt, Instr.sureAddr, loadVar, Sem.run_bind, Sem.run_pure, Result.andThen_ok, h4, if_true, h5, loadCells, h6]
 simp
theorem st_ld (hI : I.Ok P) {b off d : Nat} {v : Value} (h : ldE I f.n ops env o = some (b, off, none, d)) (hc : w.cell? ⟨b, off, none⟩ = some v)
  (k : K ((d, v) :: env) w) : St P f ops o env w K :=
 have ⟨h1, h2, h3, _⟩ := ldE_eq h
 st_v h1 h2 (ov_ld hI h hc) (by rw [h3]; exact k)
theorem st_ldb (hI : I.Ok P) {b off d : Nat} {v : Value} {T : Nat} {l : List Value} (hb : Blk w b T l) (h : ldE I f.n ops env o = some (b, off, none, d)) (hv : nth l off = some v)
  (k : K ((d, v) :: env) w) : St P f ops o env w K :=
 st_ld hI h (hb.cell (by rw [← nth_eq]; exact hv)) k
theorem st_ldN (hI : I.Ok P) {b off m d : Nat} {l : List Value} (h : ldE I f.n ops env o = some (b, off, some m, d)) (hs : Seg w b off l) (hl : l.length = m)
  (k : K ((d, .agg l.toArray) :: env) w) : St P f ops o env w K :=
 have ⟨h1, h2, h3, _⟩ := ldE_eq h
 st_v h1 h2 (ov_ldN hI h hs hl) (by rw [h3]; exact k)
theorem zj2 (hI : I.Ok P) {b m d : Nat} {T : Nat} {l : List Value} (hb : Blk w b T l) (h : ldE I f.n ops env o = some (b, 0, some m, d)) (hl : l.length = m)
  (k : K ((d, .agg l.toArray) :: env) w) : St P f ops o env w K :=
 st_ldN hI h hb.seg hl k
theorem stE_eq {n b off m : Nat} {v : Value} (h : stE I n ops env o = some (b, off, m, v)) : takes ops env o = true ∧ dOk n o.dst = true ∧ o.dst = none ∧ ∃ t x z y, o.op = .store t x z ∧ lkT I t = some y ∧ evO env x = some (.pointer (some ⟨b, off, none⟩)) ∧ evO env z = some v ∧ m = y.size := by
 unfold stE at h
 split at h
 ·cases h
 ·rename_i hp
  obtain ⟨h1, h2⟩ := pre_eq hp
  split at h
  ·rename_i t x z ho
   split at h
   ·rename_i y hy
    split at h
    ·rename_i b' off' ha
     split at h
     ·rename_i v' hv
      split at h
      ·rename_i hd
       split at h
       ·cases h
       ·rename_i m' hm'; cases h; exact ⟨h1, h2, hd, t, x, z, y, ho, hy, addrOf_eq ha, hv, hm'.symm⟩
      ·cases h
     ·cases h
    ·cases h
   ·cases h
  ·cases h
theorem st_stN (hI : I.Ok P) {b off m T : Nat} {v : Value} {l : List Value} (hb : Blk w b T l) (h : stE I f.n ops env o = some (b, off, m, v)) (hl : (cellsOf v).length = m) (hroom : off + m ≤ l.length) (h1c : ∀ u ∈ cellsOf v, u.oneCell' = true)
  (k : ∀ w', Blk w' b T (put l off (cellsOf v)) → Ext (One b) w w' → w'.heap.size = w.heap.size → K env w') : St P f ops o env w K := by
 obtain ⟨h1, h2, hd, t, x, z, y, ho, hy, hx, hz, hmy⟩ := stE_eq h
 obtain ⟨w', hr, hb', hE, hs⟩ := run_storeCells_blk (P := P) (cellsOf v) w l off 0 hb (by omega) h1c
 refine st_s (w' := w') h1 h2 (fun ρ hρ => ?_) (by rw [hd]; exact k w' (by simpa using hb') hE hs)
 have h5 := (hI.get hy).sizeOf w
 rw [← hmy] at h5
 simp only [execOp, ho, hρ _ _ hx, hρ _ _ hz, Instr.storeAt, Instr.sureAddr, storeVar, Sem.run_bind, Sem.run_pure, Result.andThen_ok, h5, cellsOf_size, hl, cellsOf_eq]
 simp [hr]
def setF : List Value → Nat → Value → Option (List Value)
  | [], _, _ => none
  | _ :: r, 0, v => some (v :: r)
  | x :: r, n + 1, v => match setF r n v with
    | some r' => some (x :: r')
    | none => none
theorem setF_eq : ∀ {l : List Value} {n : Nat} {v : Value} {l' : List Value}, setF l n v = some l' → l' = l.set n v ∧ n < l.length
 | [], _, _, _, h => by simp [setF] at h
 | x :: r, 0, v, l', h => by simp [setF] at h; subst h; simp
 | x :: r, n + 1, v, l', h => by
  simp only [setF] at h
  split at h
  ·rename_i r' hr
   cases h
   have := setF_eq hr
   simp [this.1, this.2]
  ·cases h
def flat (v : Value) : Bool :=
  match v with
  | .agg _ => false
  | .tuple _ => false
  | _ => true
theorem flat_eq {v : Value} (h : flat v = true) : v.oneCell' = true ∧ cellsOf v = [v] := by
 cases v <;> first | (cases h; done) | exact ⟨rfl, rfl⟩
theorem st_st (hI : I.Ok P) {b off T : Nat} {v : Value} {l l' : List Value} (hb : Blk w b T l) (h : stE I f.n ops env o = some (b, off, 1, v)) (hv : flat v = true) (hl : setF l off v = some l')
  (k : ∀ w', Blk w' b T l' → Ext (One b) w w' → w'.heap.size = w.heap.size → K env w') : St P f ops o env w K := by
 obtain ⟨hf1, hf2⟩ := flat_eq hv
 obtain ⟨rfl, hlt⟩ := setF_eq hl
 refine st_stN hI hb h (by rw [hf2]; rfl) (by omega) (by rw [hf2]; simpa using hf1) fun w' hb' hE hs => k w' ?_ hE hs
 rw [hf2] at hb'
 exact hb'
theorem st_set (hI : I.Ok P) {b off T : Nat} {v : Value} {l : List Value} (hb : Blk w b T l) (h : stE I f.n ops env o = some (b, off, 1, v)) (hv : flat v = true) (hl : off < l.length)
  (k : ∀ w', Blk w' b T (l.set off v) → Ext (One b) w w' → w'.heap.size = w.heap.size → K env w') : St P f ops o env w K := by
 obtain ⟨hf1, hf2⟩ := flat_eq hv
 refine st_stN hI hb h (by rw [hf2]; rfl) (by omega) (by rw [hf2]; simpa using hf1) fun w' hb' hE hs => k w' ?_ hE hs
 rw [hf2] at hb'
 exact hb'
theorem put_whole {l l' : List Value} (h : l'.length = l.length) : put l 0 l' = l' := by
 rw [put_eq _ _ _ (by omega)]
 simp [h]
theorem zj1 (hI : I.Ok P) {b m T : Nat} {v : Value} {l : List Value} (hb : Blk w b T l) (h : stE I f.n ops env o = some (b, 0, m, v)) {l' : List Value} (hv : cellsOf v = l') (hm : l'.length = m) (hl : l'.length = l.length) (h1c : ∀ u ∈ l', u.oneCell' = true)
  (k : ∀ w', Blk w' b T l' → Ext (One b) w w' → w'.heap.size = w.heap.size → K env w') : St P f ops o env w K := by
 subst hv
 exact st_stN hI hb h hm (by omega) h1c fun w' hb' hE hs => k w' (by rw [put_whole hl] at hb'; exact hb') hE hs
theorem alE_eq {n t d : Nat} {v : Value} (h : alE I n ops env o = some (t, v, d)) : takes ops env o = true ∧ dOk n o.dst = true ∧ o.dst = some d ∧ ((∃ y, o.op = .alloc t ∧ lkT I t = some y ∧ v = y.zero) ∨ (∃ x, o.op = .box t x ∧ evO env x = some v)) := by
 unfold alE at h
 split at h
 ·cases h
 ·rename_i hp
  obtain ⟨h1, h2⟩ := pre_eq hp
  split at h
  ·rename_i d' hd
   split at h
   ·rename_i t' ho
    split at h
    ·rename_i y hy; cases h; exact ⟨h1, h2, hd, .inl ⟨y, ho, hy, rfl⟩⟩
    ·cases h
   ·rename_i t' x ho
    split at h
    ·rename_i v' hv; cases h; exact ⟨h1, h2, hd, .inr ⟨x, ho, hv⟩⟩
    ·cases h
   ·cases h
  ·cases h
theorem ov_al (hI : I.Ok P) {n t d : Nat} {v : Value} (h : alE I n ops env o = some (t, v, d)) : Ov P o env w (.pointer (some ⟨w.heap.size, 0, none⟩)) (w.alloc (.cells v.cells t)) := by
 obtain ⟨h1, h2, hd, h3⟩ := alE_eq h
 intro ρ hρ
 rcases h3 with ⟨y, ho, hy, rfl⟩ | ⟨x, ho, hx⟩
 ·have hz := (hI.get hy).zeroValue w
  simp [execOp, ho, Instr.alloc, hz, newVar, newRow]
 ·simp [execOp, ho, Instr.box, hρ _ _ hx, newVar, newRow]
theorem zz9 (hI : I.Ok P) {t d : Nat} {v : Value} (h : alE I f.n ops env o = some (t, v, d))
  (k : ∀ (b : Nat) w', w.heap.size ≤ b → Blk w' b t (cellsOf v) → Ext No w w' → K ((d, .pointer (some ⟨b, 0, none⟩)) :: env) w') : St P f ops o env w K := by
 obtain ⟨h1, h2, hd, h3⟩ := alE_eq h
 refine st_v h1 h2 (ov_al hI h) ?_
 rw [hd]
 refine k _ _ (Nat.le_refl _) ?_ (Ext.alloc _ _ _)
 have := alloc_blk w (cellsOf v) t
 rwa [show (cellsOf v).toArray = v.cells from by rw [← cellsOf_eq]] at this
theorem ixE_eq {n b off len sz d : Nat} {i : Int} (h : ixE I n ops env o = some (b, off, len, sz, i, d)) : takes ops env o = true ∧ dOk n o.dst = true ∧ o.dst = some d ∧ ∃ t x j y z k e, o.op = .indexAddr t x j ∧ lkT I t = some y ∧ lkT I e = some z ∧ sz = z.size ∧ evO env j = some (.int k i) ∧
  ((∃ c, y.desc = .slice e ∧ evO env x = some (.slice (some ⟨b, off, none⟩) len c)) ∨ (y.desc = .array len e ∧ evO env x = some (.pointer (some ⟨b, off, none⟩)))) := by
 unfold ixE at h
 split at h
 ·cases h
 ·rename_i hp
  obtain ⟨h1, h2⟩ := pre_eq hp
  split at h
  ·rename_i d' hd
   split at h
   ·rename_i t x j ho
    split at h
    ·rename_i y hy
     split at h
     ·rename_i k i' hj
      split at h
      ·rename_i e he
       split at h
       ·rename_i z hz
        split at h
        ·rename_i b' off' len' c hx
         split at h
         ·cases h
         ·rename_i m' hm'
          cases h
          exact ⟨h1, h2, hd, t, x, j, y, z, k, e, ho, hy, hz, hm'.symm, hj, .inl ⟨c, he, hx⟩⟩
        ·cases h
       ·cases h
      ·rename_i len' e he
       split at h
       ·rename_i z hz
        split at h
        ·rename_i b' off' hx
         split at h
         ·cases h
         ·rename_i m' hm'
          cases h
          exact ⟨h1, h2, hd, t, x, j, y, z, k, e, ho, hy, hz, hm'.symm, hj, .inr ⟨he, hx⟩⟩
        ·cases h
       ·cases h
      ·cases h
     ·cases h
    ·cases h
   ·cases h
  ·cases h
theorem addr_add (b off n : Nat) : (⟨b, off, none⟩ : Addr).add n = ⟨b, off + n, none⟩ := by
 unfold Addr.add; split
 ·rename_i h0; subst h0; rfl
 ·rfl
theorem ov_ix (hI : I.Ok P) {n b off len sz d : Nat} {i : Int} (h : ixE I n ops env o = some (b, off, len, sz, i, d)) (ss : Nat) (hss : sz = ss) (j : Nat) (hj : i = (j : Int)) (hlt : j < len) (q : Nat) (hq : q = off + j * ss) : Ov P o env w (.pointer (some ⟨b, q, none⟩)) w := by
 subst hss
 obtain ⟨h1, h2, hd, t, x, jx, y, z, k, e, ho, hy, hz, rfl, hjx, h3⟩ := ixE_eq h
 subst hj
 subst hq
 intro ρ hρ
 have hu := (hI.get hy).under w
 have hs := (hI.get hz).sizeOf w
 have hlt' : (0 : Int) ≤ (j : Int) ∧ (j : Int) < (len : Int) := by omega
 rcases h3 with ⟨c, he, hx⟩ | ⟨he, hx⟩
 ·rw [he] at hu
  simp only [execOp, ho, hρ _ _ hx, hρ _ _ hjx, Instr.indexAt, asIntOf, Sem.run_bind, Sem.run_pure, Result.andThen_ok, hu, hlt', and_self, if_true, hs, addr_add, Int.toNat_natCast]
 ·rw [he] at hu
  simp only [execOp, ho, hρ _ _ hx, hρ _ _ hjx, Instr.indexAt, asIntOf, Instr.sureAddr, Sem.run_bind, Sem.run_pure, Result.andThen_ok, hu, hlt', and_self, if_true, hs, addr_add, Int.toNat_natCast]
theorem st_ix (hI : I.Ok P) {b off len sz d : Nat} {i : Int} (h : ixE I f.n ops env o = some (b, off, len, sz, i, d)) (ss : Nat) (hss : sz = ss) (j : Nat) (hj : i = (j : Int)) (hlt : j < len) (q : Nat) (hq : q = off + j * ss)
  (k : K ((d, .pointer (some ⟨b, q, none⟩)) :: env) w) : St P f ops o env w K :=
 have ⟨h1, h2, hd, _⟩ := ixE_eq h
 st_v h1 h2 (ov_ix hI h ss hss j hj hlt q hq) (by rw [hd]; exact k)
end
/-! ### Operations that leave the world as it is, whatever they are given -/
def Qt {α : Type} (s : Sem α) : Prop := ∀ (P : Program) (w : World) (n : α) (w' : World), s.run P w = .ok n w' → w' = w
theorem Qt.pure {α : Type} (a : α) : Qt (pure a : Sem α) := fun P w n w' h => by
 simp only [Sem.run_pure, Result.ok.injEq] at h; exact h.2.symm
theorem Qt.bind {α β : Type} {s : Sem α} {k : α → Sem β} (hs : Qt s) (hk : ∀ a, Qt (k a)) : Qt (s >>= k) := fun P w n w' h => by
 rw [Sem.run_bind] at h
 cases hr : s.run P w with
 | ok a w1 =>
  rw [hr] at h
  have e := hs P w a w1 hr
  subst e
  exact hk a P _ n w' h
 | halt x w1 => rw [hr] at h; cases h
theorem Qt.stuck {α : Type} (m : String) : Qt (stuck m : Sem α) := fun P w n w' h => by simp [Go.stuck] at h
theorem Qt.unsupported {α : Type} (m : Unsupported) : Qt (unsupported m : Sem α) := fun P w n w' h => by simp [Go.unsupported] at h
theorem Qt.program : Qt program := fun P w n w' h => by simp only [run_program, Result.ok.injEq] at h; exact h.2.symm
theorem Qt.getObj (r : Nat) : Qt (getObj r) := fun P w n w' h => by
 simp only [Go.getObj, Sem.run] at h
 split at h <;> simp_all
def Nv {α : Type} (s : Sem α) : Prop := ∀ (P : Program) (w : World) (n : α) (w' : World), s.run P w ≠ .ok n w'
theorem Nv.halt {α : Type} (h : Halt) : Nv (.halt h : Sem α) := fun P w n w' h => by simp at h
theorem Nv.bind {α β : Type} {s : Sem α} {k : α → Sem β} (hk : ∀ a, Nv (k a)) : Nv (s >>= k) := fun P w n w' h => by
 rw [Sem.run_bind] at h
 cases hr : s.run P w with
 | ok a w1 => rw [hr] at h; exact absurd h (hk a P w1 n w')
 | halt x w1 => rw [hr] at h; cases h
theorem Nv.qt {α : Type} {s : Sem α} (h : Nv s) : Qt s := fun P w n w' e => absurd e (h P w n w')
theorem runtimePanic_nv {α : Type} (e : RuntimeError) : Nv (runtimePanic e : Sem α) := by
 unfold runtimePanic
 refine .bind fun p => ?_
 dsimp only
 cases e <;> dsimp only <;> repeat' first | exact Nv.halt _ | refine Nv.bind fun _ => ?_
theorem boundsPanic_nv {α : Type} (k : IntKind) (x y : Int) (c : BoundsCode) : Nv (boundsPanic k x y c : Sem α) := by
 unfold Go.boundsPanic
 dsimp only
 split <;> repeat' first | exact runtimePanic_nv _ | refine Nv.bind fun _ => ?_
theorem Qt.underlying (t : TypeId) : Qt (underlying t) := by
 unfold Go.underlying
 repeat' first | exact Qt.pure _ | exact Qt.stuck _ | exact Qt.unsupported _ | exact Qt.program | exact Qt.getObj _ | exact (boundsPanic_nv _ _ _ _).qt | exact (runtimePanic_nv _).qt | assumption | refine Qt.bind ?_ fun _ => ?_ | split | dsimp only
theorem Qt.sizeOf (t : TypeId) : Qt (Go.sizeOf t) := by
 unfold Go.sizeOf typeInfo
 repeat' first | exact Qt.pure _ | exact Qt.stuck _ | exact Qt.unsupported _ | exact Qt.program | exact Qt.getObj _ | exact (boundsPanic_nv _ _ _ _).qt | exact (runtimePanic_nv _).qt | assumption | refine Qt.bind ?_ fun _ => ?_ | split | dsimp only
theorem Qt.asIntOf (v : Value) : Qt (asIntOf v) := by
 unfold Go.asIntOf
 repeat' first | exact Qt.pure _ | exact Qt.stuck _ | exact Qt.unsupported _ | exact Qt.program | exact Qt.getObj _ | exact (boundsPanic_nv _ _ _ _).qt | exact (runtimePanic_nv _).qt | assumption | refine Qt.bind ?_ fun _ => ?_ | split | dsimp only
theorem Qt.sliceBound (x : Value) (y : Nat) (c : BoundsCode) : Qt (Instr.sliceBound x y c) := by
 unfold Instr.sliceBound
 have := Qt.asIntOf x
 repeat' first | exact Qt.pure _ | exact Qt.stuck _ | exact Qt.unsupported _ | exact Qt.program | exact Qt.getObj _ | exact (boundsPanic_nv _ _ _ _).qt | exact (runtimePanic_nv _).qt | assumption | refine Qt.bind ?_ fun _ => ?_ | split | dsimp only
theorem Qt.sliceBounds (b : Bool) (n c : Nat) (lo hi mx : Option Value) : Qt (Instr.sliceBounds b n c lo hi mx) := by
 unfold Instr.sliceBounds; have := Qt.sliceBound
 repeat' first | exact Qt.sliceBound _ _ _ | exact Qt.pure _ | exact Qt.stuck _ | refine Qt.bind ?_ fun _ => ?_ | split | dsimp only
theorem Qt.asAddr (x : Value) : Qt (asAddr x) := by
 unfold Go.asAddr
 repeat' first | exact Qt.pure _ | exact Qt.stuck _ | exact Qt.unsupported _ | exact Qt.program | exact Qt.getObj _ | exact (boundsPanic_nv _ _ _ _).qt | exact (runtimePanic_nv _).qt | assumption | refine Qt.bind ?_ fun _ => ?_ | split | dsimp only
theorem Qt.sureAddr (x : Value) : Qt (Instr.sureAddr x) := by
 unfold Instr.sureAddr
 repeat' first | exact Qt.pure _ | exact Qt.stuck _ | exact Qt.unsupported _ | exact Qt.program | exact Qt.getObj _ | exact (boundsPanic_nv _ _ _ _).qt | exact (runtimePanic_nv _).qt | assumption | refine Qt.bind ?_ fun _ => ?_ | split | dsimp only
theorem Qt.slice (t : TypeId) (x : Value) (lo hi mx : Option Value) : Qt (Instr.slice t x lo hi mx) := by
 unfold Instr.slice
 repeat' first | exact Qt.underlying _ | exact Qt.sizeOf _ | exact Qt.asAddr _ | exact Qt.sliceBounds _ _ _ _ _ _ | exact Qt.pure _ | exact Qt.stuck _ | refine Qt.bind ?_ fun _ => ?_ | split | dsimp only
theorem Qt.sliceAt (t : TypeId) (x : Value) (lo hi mx : Option Value) : Qt (Instr.sliceAt t x lo hi mx) := by
 unfold Instr.sliceAt
 repeat' first | exact Qt.underlying _ | exact Qt.sizeOf _ | exact Qt.sureAddr _ | exact Qt.slice _ _ _ _ _ | exact Qt.sliceBounds _ _ _ _ _ _ | exact Qt.pure _ | exact Qt.stuck _ | refine Qt.bind ?_ fun _ => ?_ | split | dsimp only
theorem Qt.len (ts : Array TypeId) (t : TypeId) (xs : Array Value) : Qt (Builtin.len_ ts t xs) := by
 unfold Builtin.len_
 repeat' first | exact Qt.underlying _ | exact Qt.getObj _ | exact Qt.pure _ | exact Qt.stuck _ | refine Qt.bind ?_ fun _ => ?_ | split | dsimp only
theorem Qt.minI (ts : Array TypeId) (t : TypeId) (x : Value) (k : IntKind) (n : Int) (xs : Array Value) (h : xs.toList = [x, .int k n]) : Qt (Builtin.min_ ts t xs) := by
 unfold Builtin.min_
 rw [h]
 dsimp only
 refine .bind ?_ fun a => .pure _
 unfold Builtin.min2
 split
 ·exact .pure _
 ·rename_i h2; cases h2
 ·rename_i h2; cases h2
 ·exact .unsupported _
 ·exact .unsupported _
 ·exact .stuck _
def stillK : Op → Bool
  | .move _ | .assign _ => true
  | .call { callee := .builtin .len, .. } => true
  | .call { callee := .builtin .min, args := xs, .. } => match xs.toList with
    | [_, .const (.int _ _)] => true
    | _ => false
  | .slice .. => true
  | _ => false
def QtV (s : Sem Next) : Prop := ∀ (P : Program) (w : World) (n : Next) (w' : World), s.run P w = .ok n w' → w' = w ∧ ∃ v, n = .value v
theorem QtV.pure (v : Value) : QtV (Pure.pure (.value v)) := fun P w n w' h => by
 simp only [Sem.run_pure, Result.ok.injEq] at h; exact ⟨h.2.symm, v, h.1.symm⟩
theorem QtV.val {s : Sem Value} (h : Qt s) : QtV (s >>= fun v => Pure.pure (.value v)) := fun P w n w' e => by
 rw [Sem.run_bind] at e
 cases hr : s.run P w with
 | ok a w1 =>
  rw [hr] at e
  have e1 := h P w a w1 hr
  subst e1
  simp only [Result.andThen, Sem.run_pure, Result.ok.injEq] at e
  exact ⟨e.2.symm, a, e.1.symm⟩
 | halt x w1 => rw [hr] at e; cases e
theorem QtV.pb {α : Type} {x : α} {k : α → Sem Next} (h : QtV (k x)) : QtV (Pure.pure x >>= k) := fun P w n w' e => by
 rw [Sem.run_bind, Sem.run_pure] at e
 exact h P w n w' e
theorem stillK_spec {o : Oper} (h : stillK o.op = true) (a : Act) : QtV (execOp a.eval o) := by
 obtain ⟨dst, op, ty, pos, af, g⟩ := o
 dsimp only at h
 cases op with
 | move x => exact .pure _
 | assign x => exact .pure _
 | slice t x lo hi mx => exact .val (.sliceAt _ _ _ _ _)
 | call c =>
  obtain ⟨cal, xs, ts⟩ := c
  cases cal with
  | builtin b =>
   cases b with
   | len => exact .pb (.val (.len _ _ _))
   | min =>
    simp only [stillK] at h
    split at h
    ·rename_i x0 x k n e
     have e' : (xs.map a.eval).toList = [a.eval x, .int k n] := by simp only [Array.toList_map, e, List.map_cons, List.map_nil, Act.eval]
     exact .pb (.val (.minI _ _ _ _ _ _ e'))
    ·cases h
   | _ => cases h
  | _ => cases h
 | _ => cases h
def stillAt (ops : Array Oper) (j : Nat) : Bool := match ops[j]? with
  | some o => stillK o.op
  | none => false
theorem wpOp_still {P : Program} {ops : Array Oper} {Q : XPost} {i : Nat} {o : Oper} (hi : ops[i]? = some o) (hs : stillK o.op = true) {K : Act → World → Prop} {a : Act} {w : World} (h : wpOp P ops Q i K a w) : wpOp P ops Q i (fun a' w' => w' = w ∧ K a' w') a w := by
 unfold wpOp at *
 simp only [hi] at *
 split
 ·rename_i hw
  simp only [hw, if_true] at h
  rcases h with h | h
  ·refine .inl ?_
   unfold Oper.wp at *
   generalize hr : (execOp a.eval o).run P w = r at *
   cases r with
   | ok n w' =>
    obtain ⟨e, v, rfl⟩ := stillK_spec hs a P w n w' hr
    exact ⟨e, h⟩
   | halt x w' => cases x <;> exact h
  ·exact .inr h
 ·rename_i hw
  simp only [hw, Bool.false_eq_true, if_false] at h
  exact ⟨by trivial, h⟩
def NQ (K : Act → World → Prop) : XPost := fun e a w =>
  match e with
  | .normal => K a w
  | _ => False
section
variable {P : Program} {ops : Array Oper} {C : World → Prop} {K : Act → World → Prop} {A : Nat → Bool}
def allA (A : Nat → Bool) (listed : Array Bool) : Prop := ∀ i, A i = true → listed.getD i true = true
def wpG (P : Program) (ops : Array Oper) (K : Act → World → Prop) (C : World → Prop) (A : Nat → Bool) : Nat → Array Bool → Act → World → Prop
  | 0, listed, a, w => C w ∧ wpAny P .any ops (NQ K) 0 listed a w
  | fuel + 1, listed, a, w => C w ∧ (allA A listed → wpAny P .any ops (NQ K) (fuel + 1) listed a w) ∧
      (¬ allA A listed → Region.ready .any ops listed ≠ [] ∧ ∀ i ∈ Region.ready .any ops listed, wpOp P ops (NQ K) i (wpG P ops K C A fuel (listed.setIfInBounds i true)) a w)
theorem wpG_C : ∀ {fuel : Nat} {listed : Array Bool} {a : Act} {w : World}, wpG P ops K C A fuel listed a w → C w
 | 0, _, _, _, h => h.1
 | _ + 1, _, _, _, h => h.1
theorem wpAny_of_G : ∀ (fuel : Nat) (listed : Array Bool) (a : Act) (w : World), wpG P ops K C A fuel listed a w → wpAny P .any ops (NQ K) fuel listed a w
 | 0, _, _, _, h => h.2
 | fuel + 1, listed, a, w, h => by
  by_cases hA : allA A listed
  ·exact h.2.1 hA
  ·obtain ⟨hne, hall⟩ := h.2.2 hA
   exact ⟨fun h0 => absurd h0 hne, fun i hi => wpOp_mono (fun a' w' h' => wpAny_of_G fuel _ a' w' h') (hall i hi)⟩
def YieldsC (P : Program) (ops : Array Oper) (C : World → Prop) (o : Oper) (v : Value) (a : Act) : Prop :=
  (Region.wanted o (yielded ops a.tmps) = true ∧ ∀ w, C w → (execOp a.eval o).run P w = .ok (.value v) w) ∨
  (Region.wanted o (yielded ops a.tmps) = false ∧ v = undef)
theorem YieldsC.wpOp {Q : XPost} {i : Nat} {o : Oper} {v : Value} {a : Act} (hi : ops[i]? = some o) (hy : YieldsC P ops C o v a) {w : World} (hC : C w) {K' : Act → World → Prop} (h : K' (a.put o.dst v) w) : Go.wpOp P ops Q i K' a w := by
 unfold Go.wpOp
 simp only [hi]
 rcases hy with ⟨hw, hv⟩ | ⟨hw, rfl⟩
 ·simp only [hw, if_true, Oper.wp, hv w hC, Oper.upon]; exact .inl h
 ·simp only [hw, Bool.false_eq_true, if_false]; exact h
theorem YieldsC.of_same {o : Oper} {v : Value} {a a' : Act} (hy : YieldsC P ops C o v a) (he : execOp a'.eval o = execOp a.eval o)
  (hw : Region.wanted o (yielded ops a'.tmps) = Region.wanted o (yielded ops a.tmps)) : YieldsC P ops C o v a' := by
 unfold YieldsC at *
 rw [he, hw]
 exact hy
theorem wpOpC_put {j : Nat} {oi oj : Oper} {v : Value} (hj : ops[j]? = some oj) (hap : oi.apart ops oj = true)
  (hsi : ∀ cs b, oi.op ≠ .select cs b) (hsj : ∀ cs b, oj.op ≠ .select cs b) {K' : Act → World → Prop} {a : Act} {w : World}
  (hy : YieldsC P ops C oi v a) (h : wpOp P ops (NQ K) j K' (a.put oi.dst v) w) :
  wpOp P ops (NQ K) j (fun a' w' => YieldsC P ops C oi v a' ∧ K' (a'.put oi.dst v) w') a w := by
 obtain ⟨h1, h2, h3⟩ := Oper.apart_spec hap
 have keep : ∀ (a : Act), YieldsC P ops C oi v a → ∀ u, YieldsC P ops C oi v (a.put oj.dst u) := fun a hy u =>
  hy.of_same (execOp_put oi hsi a oj.dst u h3) (wanted_put oi a oj.dst u h3)
 have keepD : ∀ d, YieldsC P ops C oi v { a with defers := d :: a.defers } := fun d => hy.of_same rfl rfl
 unfold wpOp at *
 simp only [hj] at *
 rw [wanted_put oj a oi.dst v h1] at h
 split
 ·rename_i hw
  simp only [hw, if_true] at h
  rcases h with h | ⟨hasks, hlets⟩
  case inr => exact .inr ⟨by unfold Oper.asks at *; rw [execOp_put oj hsj a oi.dst v h1] at hasks; exact hasks, hlets⟩
  refine .inl ?_
  unfold Oper.wp at *
  rw [execOp_put oj hsj a oi.dst v h1] at h
  generalize (execOp a.eval oj).run P w = r at *
  cases r with
  | ok n w' =>
   cases n <;> simp only [Oper.upon] at h ⊢
   case value u => exact ⟨keep a hy u, by rw [← Act.put_comm a v u h2]; exact h⟩
   case skip => exact ⟨keep a hy _, by rw [← Act.put_comm a v undef h2]; exact h⟩
   case defer d =>
    refine ⟨keep _ (keepD d) _, ?_⟩
    rw [← Act.put_comm _ v undef h2, ← Act.put_defers]
    exact h
   case enter f args =>
    refine Calls.mono h fun e w'' he => ?_
    cases e with
    | returned u => exact ⟨keep a hy u, by rw [← Act.put_comm a v u h2]; exact he⟩
    | panicked c => exact he
    | outgrown => exact he
   case row row args => exact Rows.mono h fun u w'' he => ⟨keep a hy u, by rw [← Act.put_comm a v u h2]; exact he⟩
  | halt x w' =>
   cases x <;> simp only [Oper.upon] at h ⊢
   case panic u => exact h
 ·rename_i hw
  simp only [hw] at h
  exact ⟨keep a hy _, by rw [← Act.put_comm a v undef h2]; exact h⟩
def Closed (ops : Array Oper) (listed : Array Bool) : Prop := ∀ (j : Nat) (o : Oper), ops[j]? = some o → listed.getD j false = true → ∀ e ∈ o.after, Region.binds .any e = true → listed.getD e.on false = true
theorem Closed.set {ops : Array Oper} {listed : Array Bool} {j : Nat} (h : Closed ops listed) (hj : j ∈ Region.ready .any ops listed) : Closed ops (listed.setIfInBounds j true) := by
 intro k o ho hk e he hb
 obtain ⟨_, oj, hoj, hall⟩ := mem_ready.1 hj
 by_cases hjk : j = k
 ·subst hjk
  rw [hoj] at ho
  cases ho
  exact getD_set_true (hall e he hb)
 ·rw [getD_set_ne false hjk] at hk
  exact getD_set_true (h k o ho hk e he hb)
def reachB (ops : Array Oper) : Nat → Nat → Nat → Bool
  | 0, _, _ => false
  | n + 1, j, i => match ops[j]? with
    | some o => o.after.any fun e => Region.binds .any e && (e.on == i || reachB ops n e.on i)
    | none => false
theorem reachB_listed {ops : Array Oper} {listed : Array Bool} (hc : Closed ops listed) : ∀ (n : Nat) {j i : Nat} {o : Oper}, ops[j]? = some o → (∀ e ∈ o.after, Region.binds .any e = true → listed.getD e.on false = true) → reachB ops n j i = true → listed.getD i false = true
 | 0, _, _, _, _, _, h => by simp [reachB] at h
 | n + 1, j, i, o, ho, hall, h => by
  simp only [reachB, ho] at h
  rw [← Array.any_toList, List.any_eq_true] at h
  obtain ⟨e, he, h⟩ := h
  simp only [Bool.and_eq_true, Bool.or_eq_true, beq_iff_eq] at h
  have hl := hall e (by simpa using he) h.1
  rcases h.2 with h2 | h2
  ·rw [← h2]; exact hl
  ·cases hk : ops[e.on]? with
   | none =>
    cases n with
    | zero => simp [reachB] at h2
    | succ n => simp [reachB, hk] at h2
   | some ok => exact reachB_listed hc n hk (fun e' he' hb' => hc _ ok hk hl e' he' hb') h2
def barOk (ops : Array Oper) (A : Nat → Bool) (fl : List Nat) : Bool :=
  (List.range ops.size).all fun j => (A j || fl.contains j || stillAt ops j) || (List.range ops.size).all fun i => !A i || (reachB ops 6 j i || reachB ops 16 j i)
theorem barOk_spec {fl : List Nat} (h : barOk ops A fl = true) {j : Nat} {o : Oper} (ho : ops[j]? = some o) (hj : A j = false) (hjf : j ∉ fl) {i : Nat} {oi : Oper} (hoi : ops[i]? = some oi) (hi : A i = true) : stillK o.op = true ∨ ∃ n, reachB ops n j i = true := by
 unfold barOk at h
 rw [List.all_eq_true] at h
 have hlt : j < ops.size := (Array.getElem?_eq_some_iff.1 ho).1
 have hlti : i < ops.size := (Array.getElem?_eq_some_iff.1 hoi).1
 have h1 := h j (List.mem_range.2 hlt)
 rw [Bool.or_eq_true] at h1
 rcases h1 with h1 | h1
 ·left
  simp only [hj, Bool.false_or, Bool.or_eq_true, List.contains_iff_mem] at h1
  rcases h1 with h1 | h1
  ·exact absurd h1 hjf
  ·simpa only [stillAt, ho] using h1
 ·right
  rw [List.all_eq_true] at h1
  have h2 := h1 i (List.mem_range.2 hlti)
  rw [hi, Bool.not_true, Bool.false_or, Bool.or_eq_true] at h2
  exact h2.elim (fun h => ⟨_, h⟩) fun h => ⟨_, h⟩
theorem getD_set_keep {l : Array Bool} {j k : Nat} (h : l.getD k true = true) : (l.setIfInBounds j true).getD k true = true := by
 by_cases hjk : j = k
 ·subst hjk
  by_cases hs : j < l.size
  ·simp [hs]
  ·simp [hs]
 ·rw [getD_set_ne true hjk]; exact h
theorem wpG_of_any : ∀ {fuel : Nat} {listed : Array Bool} {a : Act} {w : World}, C w → allA A listed → wpAny P .any ops (NQ K) fuel listed a w → wpG P ops K C A fuel listed a w
 | 0, _, _, _, hC, _, h => ⟨hC, h⟩
 | _ + 1, _, _, _, hC, hA, h => ⟨hC, fun _ => h, fun hn => absurd hA hn⟩
theorem wpG_first {i : Nat} {oi : Oper} {v : Value} {fl : List Nat} (hbar : barOk ops A fl = true) (hi : ops[i]? = some oi) (hiA : A i = true) (hsel : ∀ (j : Nat) (o : Oper) cs b, ops[j]? = some o → o.op ≠ .select cs b) :
  ∀ (fuel : Nat) (listed : Array Bool) (a : Act) (w : World),
   (∀ j oj, ops[j]? = some oj → j ≠ i → listed.getD j true = false → (∀ e ∈ oj.after, Region.binds .any e = true → e.on ≠ i) → oi.apart ops oj = true) →
   (∀ j ∈ fl, listed.getD j true = true) → Closed ops listed → i ∈ Region.ready .any ops listed → YieldsC P ops C oi v a →
   wpG P ops K C A fuel (listed.setIfInBounds i true) (a.put oi.dst v) w → wpG P ops K C A (fuel + 1) listed a w := by
 intro fuel
 induction fuel with
 | zero =>
  intro listed a w _ _ _ hr hy H
  refine ⟨H.1, fun hA => ?_, fun _ => ⟨fun h => (by rw [h] at hr; cases hr), fun j hj => ?_⟩⟩
  ·have := hA i hiA
   rw [(mem_ready.1 hr).1] at this
   cases this
  ·by_cases hji : j = i
   ·subst hji; exact hy.wpOp hi H.1 H
   ·have := ready_mono hj hji
    rw [H.2.1] at this
    cases this
 | succ fuel ih =>
  intro listed a w hfree hfl hcl hr hy H
  refine ⟨H.1, fun hA => ?_, fun _ => ⟨fun h => (by rw [h] at hr; cases hr), fun j hj => ?_⟩⟩
  ·have := hA i hiA
   rw [(mem_ready.1 hr).1] at this
   cases this
  ·by_cases hji : j = i
   ·subst hji; exact hy.wpOp hi H.1 H
   ·obtain ⟨hjun, oj, hoj, hall⟩ := mem_ready.1 hj
    have hnot : ∀ e ∈ oj.after, Region.binds .any e = true → e.on ≠ i := fun e he hb heq => by
     have h1 := hall e he hb
     have h0 := (mem_ready.1 hr).1
     rw [heq] at h1
     rcases Nat.lt_or_ge i listed.size with h' | h'
     ·simp [h'] at h0 h1; rw [h0] at h1; cases h1
     ·simp [Array.getElem?_eq_none h'] at h1
    have hjA : A j = true ∨ stillK oj.op = true := by
     cases h' : A j with
     | true => exact .inl rfl
     | false =>
      have hjf : j ∉ fl := fun hm => by have := hfl j hm; rw [hjun] at this; cases this
      rcases barOk_spec hbar hoj h' hjf hi hiA with hst | ⟨n, hn⟩
      ·exact .inr hst
      ·have hli := reachB_listed hcl n hoj hall hn
       have h0 := (mem_ready.1 hr).1
       rcases Nat.lt_or_ge i listed.size with h' | h'
       ·simp [h'] at h0 hli; rw [h0] at hli; cases hli
       ·simp [Array.getElem?_eq_none h'] at hli
    have h1 : wpOp P ops (NQ K) j (wpG P ops K C A fuel ((listed.setIfInBounds i true).setIfInBounds j true)) (a.put oi.dst v) w := by
     by_cases hnA : allA A (listed.setIfInBounds i true)
     ·have hst : stillK oj.op = true := hjA.resolve_left fun hAj => by
       have := hnA j hAj
       rw [getD_set_ne true (Ne.symm hji), hjun] at this
       cases this
      have h0 := (H.2.1 hnA).2 j (ready_mono hj hji)
      refine wpOp_mono (fun a' w' h3 => ?_) (wpOp_still hoj hst h0)
      obtain ⟨rfl, h3⟩ := h3
      exact wpG_of_any H.1 (fun k hk => getD_set_keep (hnA k hk)) h3
     ·exact (H.2.2 hnA).2 j (ready_mono hj hji)
    have h2 := wpOpC_put hoj (hfree j oj hoj hji hjun hnot) (fun cs b => hsel i oi cs b hi) (fun cs b => hsel j oj cs b hoj) hy h1
    have hfree' : ∀ k ok, ops[k]? = some ok → k ≠ i → (listed.setIfInBounds j true).getD k true = false →
      (∀ e ∈ ok.after, Region.binds .any e = true → e.on ≠ i) → oi.apart ops ok = true := fun k ok hk hki hun hno => by
     refine hfree k ok hk hki ?_ hno
     by_cases hjk : j = k
     ·subst hjk; exact hjun
     ·rw [getD_set_ne true hjk] at hun; exact hun
    have hfl' : ∀ k ∈ fl, (listed.setIfInBounds j true).getD k true = true := fun k hk => getD_set_keep (hfl k hk)
    refine wpOp_mono (fun a' w' h3 => ih (listed.setIfInBounds j true) a' w' hfree' hfl' (hcl.set hj) (ready_mono hr (Ne.symm hji)) h3.1 ?_) h2
    rw [Array.setIfInBounds_comm _ _ hji]
    exact h3.2
theorem wpAny_float {i : Nat} {oi : Oper} {v : Value} (hi : ops[i]? = some oi) (hsel : ∀ (j : Nat) (o : Oper) cs b, ops[j]? = some o → o.op ≠ .select cs b) :
  ∀ (fuel : Nat) (listed : Array Bool) (a : Act) (w : World),
   (∀ j oj, ops[j]? = some oj → j ≠ i → listed.getD j true = false → (∀ e ∈ oj.after, Region.binds .any e = true → e.on ≠ i) → oi.apart ops oj = true) →
   i ∈ Region.ready .any ops listed → YieldsC P ops (fun _ => True) oi v a →
   wpAny P .any ops (NQ K) fuel (listed.setIfInBounds i true) (a.put oi.dst v) w → wpAny P .any ops (NQ K) (fuel + 1) listed a w := by
 intro fuel
 induction fuel with
 | zero =>
  intro listed a w _ hr hy H
  refine ⟨fun h => (by rw [h] at hr; cases hr), fun j hj => ?_⟩
  by_cases hji : j = i
  ·subst hji; exact hy.wpOp hi trivial H
  ·have := ready_mono hj hji
   rw [H.1] at this
   cases this
 | succ fuel ih =>
  intro listed a w hfree hr hy H
  refine ⟨fun h => (by rw [h] at hr; cases hr), fun j hj => ?_⟩
  by_cases hji : j = i
  ·subst hji; exact hy.wpOp hi trivial H
  ·obtain ⟨hjun, oj, hoj, hall⟩ := mem_ready.1 hj
   have hnot : ∀ e ∈ oj.after, Region.binds .any e = true → e.on ≠ i := fun e he hb heq => by
    have h1 := hall e he hb
    have h0 := (mem_ready.1 hr).1
    rw [heq] at h1
    rcases Nat.lt_or_ge i listed.size with h' | h'
    ·simp [h'] at h0 h1; rw [h0] at h1; cases h1
    ·simp [Array.getElem?_eq_none h'] at h1
   have h1 := H.2 j (ready_mono hj hji)
   have h2 := wpOpC_put hoj (hfree j oj hoj hji hjun hnot) (fun cs b => hsel i oi cs b hi) (fun cs b => hsel j oj cs b hoj) hy h1
   have hfree' : ∀ k ok, ops[k]? = some ok → k ≠ i → (listed.setIfInBounds j true).getD k true = false →
     (∀ e ∈ ok.after, Region.binds .any e = true → e.on ≠ i) → oi.apart ops ok = true := fun k ok hk hki hun hno => by
    refine hfree k ok hk hki ?_ hno
    by_cases hjk : j = k
    ·subst hjk; exact hjun
    ·rw [getD_set_ne true hjk] at hun; exact hun
   refine wpOp_mono (fun a' w' h3 => ih (listed.setIfInBounds j true) a' w' hfree' (ready_mono hr (Ne.symm hji)) h3.1 ?_) h2
   rw [Array.setIfInBounds_comm _ _ hji]
   exact h3.2
theorem wpG_float {i : Nat} {oi : Oper} {v : Value} (hi : ops[i]? = some oi) (hiA : A i = false) (hsel : ∀ (j : Nat) (o : Oper) cs b, ops[j]? = some o → o.op ≠ .select cs b) :
  ∀ (fuel : Nat) (listed : Array Bool) (a : Act) (w : World),
   (∀ j oj, ops[j]? = some oj → j ≠ i → listed.getD j true = false → (∀ e ∈ oj.after, Region.binds .any e = true → e.on ≠ i) → oi.apart ops oj = true) →
   i ∈ Region.ready .any ops listed → YieldsC P ops (fun _ => True) oi v a →
   wpG P ops K C A fuel (listed.setIfInBounds i true) (a.put oi.dst v) w → wpG P ops K C A (fuel + 1) listed a w := by
 intro fuel
 induction fuel with
 | zero =>
  intro listed a w hfree hr hy H
  refine ⟨H.1, fun _ => wpAny_float hi hsel 0 listed a w hfree hr hy H.2, fun _ => ⟨fun h => (by rw [h] at hr; cases hr), fun j hj => ?_⟩⟩
  by_cases hji : j = i
  ·subst hji; exact hy.wpOp hi trivial H
  ·have := ready_mono hj hji
   rw [H.2.1] at this
   cases this
 | succ fuel ih =>
  intro listed a w hfree hr hy H
  refine ⟨H.1, fun _ => wpAny_float hi hsel (fuel + 1) listed a w hfree hr hy (wpAny_of_G _ _ _ _ H), fun hnA => ⟨fun h => (by rw [h] at hr; cases hr), fun j hj => ?_⟩⟩
  by_cases hji : j = i
  ·subst hji; exact hy.wpOp hi trivial H
  ·obtain ⟨hjun, oj, hoj, hall⟩ := mem_ready.1 hj
   have hnot : ∀ e ∈ oj.after, Region.binds .any e = true → e.on ≠ i := fun e he hb heq => by
    have h1 := hall e he hb
    have h0 := (mem_ready.1 hr).1
    rw [heq] at h1
    rcases Nat.lt_or_ge i listed.size with h' | h'
    ·simp [h'] at h0 h1; rw [h0] at h1; cases h1
    ·simp [Array.getElem?_eq_none h'] at h1
   have hnA' : ¬ allA A (listed.setIfInBounds i true) := fun hA => hnA fun k hk => by
    have := hA k hk
    rwa [getD_set_ne true (show i ≠ k from fun e => by subst e; rw [hiA] at hk; cases hk)] at this
   have h1 := (H.2.2 hnA').2 j (ready_mono hj hji)
   have h2 := wpOpC_put hoj (hfree j oj hoj hji hjun hnot) (fun cs b => hsel i oi cs b hi) (fun cs b => hsel j oj cs b hoj) hy h1
   have hfree' : ∀ k ok, ops[k]? = some ok → k ≠ i → (listed.setIfInBounds j true).getD k true = false →
     (∀ e ∈ ok.after, Region.binds .any e = true → e.on ≠ i) → oi.apart ops ok = true := fun k ok hk hki hun hno => by
    refine hfree k ok hk hki ?_ hno
    by_cases hjk : j = k
    ·subst hjk; exact hjun
    ·rw [getD_set_ne true hjk] at hun; exact hun
   refine wpOp_mono (fun a' w' h3 => ih (listed.setIfInBounds j true) a' w' hfree' (ready_mono hr (Ne.symm hji)) h3.1 ?_) h2
   rw [Array.setIfInBounds_comm _ _ hji]
   exact h3.2
/-! ### Along a plan -/
def mk (n : Nat) : List Nat → Array Bool
  | [] => Array.replicate n false
  | i :: r => (mk n r).setIfInBounds i true
def planB (ops : Array Oper) : List Nat → List Nat → Bool
  | [], dn => (Region.ready .any ops (mk ops.size dn)).isEmpty
  | i :: r, dn => match Nat.blt i ops.size with
    | true => (Region.ready .any ops (mk ops.size dn) == [i]) && planB ops r (i :: dn)
    | false => (Region.ready .any ops (mk ops.size dn)).contains (i - ops.size) && Region.free .any ops (mk ops.size dn) (i - ops.size) && planB ops r ((i - ops.size) :: dn)
def plansOk (ops : Array Oper) (A : Nat → Bool) (m : Nat) : List (Nat × Bool) → List Nat → List Nat → Bool
  | [], pb, dn => match m with
    | 0 => (List.range ops.size).all (fun i => !A i || (mk ops.size dn).getD i true) && planB ops pb dn
    | _ + 1 => true
  | (i, true) :: r, pb, dn => (Region.ready .any ops (mk ops.size dn)).contains i && Region.free .any ops (mk ops.size dn) i && (A i && plansOk ops A m r pb (i :: dn))
  | (i, false) :: r, pb, dn => (Region.ready .any ops (mk ops.size dn) == [i]) && (A i && plansOk ops A m r pb (i :: dn))
theorem mk_size (n : Nat) : ∀ l : List Nat, (mk n l).size = n
 | [] => by simp [mk]
 | i :: r => by simp [mk, mk_size n r]
structure Dr where
  A : Nat → Bool
  pb : List Nat
  C : World → Prop
  fl : List Nat := []
  m : Nat := 0
def WB (P : Program) (f : Fs) (ops : Array Oper) (K : Act → World → Prop) (pl : List Nat) (dn : List Nat) (env : Env) (w : World) : Prop :=
  planB ops pl dn = true → ∀ a, Ag f env a → wpAny P .any ops (NQ K) pl.length (mk ops.size dn) a w
def WD (P : Program) (f : Fs) (ops : Array Oper) (K : Act → World → Prop) (r : Dr) (pl : List (Nat × Bool)) (dn : List Nat) (env : Env) (w : World) : Prop :=
  plansOk ops r.A r.m pl r.pb dn = true → barOk ops r.A r.fl = true ∧ (∀ j ∈ r.fl, (mk ops.size dn).getD j true = true) ∧ Closed ops (mk ops.size dn) → Region.noSelect ops = true → r.C w → ∀ a, Ag f env a → wpG P ops K r.C r.A (pl.length + r.m + r.pb.length) (mk ops.size dn) a w
variable {f : Fs} {env : Env} {w : World}
theorem zv0 {Q : XPost} {dn : List Nat} (h : Fin f Q .normal env w) : WB P f ops (Q .normal) [] dn env w :=
 fun hp a ha => ⟨by simpa [planB] using hp, h a ha⟩
theorem wb {i : Nat} {o : Oper} {pl dn : List Nat} (ho : ops[i]? = some o) (h : St P f ops o env w (WB P f ops K pl (i :: dn))) : WB P f ops K (i :: pl) dn env w := by
 intro hp a ha
 have hlt : Nat.blt i ops.size = true := by
  have : i < ops.size := (Array.getElem?_eq_some_iff.1 ho).1
  simpa using this
 simp only [planB, hlt, Bool.and_eq_true, beq_iff_eq] at hp
 obtain ⟨hr, hp'⟩ := hp
 refine ⟨fun h0 => (by rw [hr] at h0; cases h0), fun j hj => ?_⟩
 rw [hr] at hj
 obtain rfl : j = i := by simpa using hj
 unfold wpOp
 simp only [ho]
 exact h a (NQ K) _ ha fun env' a' w' ha' hK => hK hp' a' ha'
theorem wbv {i k : Nat} {o : Oper} {pl dn : List Nat} (ho : ops[i]? = some o) (hk : k = ops.size + i) (hp : pre f.n ops env o = true) {d : Nat} (hd : o.dst = some d) {v : Value} (hv : ∀ w', Ov P o env w' v w') (hs : Region.noSelect ops = true)
    (h : WB P f ops K pl (i :: dn) ((d, v) :: env) w) : WB P f ops K (k :: pl) dn env w := by
  subst hk
  intro hpl a ha
  have hlt : Nat.blt (ops.size + i) ops.size = false := by
    cases hb : Nat.blt (ops.size + i) ops.size with
    | false => rfl
    | true => have : ops.size + i < ops.size := Nat.le_of_ble_eq_true hb
              omega
  simp only [planB, hlt, Nat.add_sub_cancel_left, Bool.and_eq_true] at hpl
  obtain ⟨⟨hr, hf⟩, hp'⟩ := hpl
  obtain ⟨h1, h2⟩ := pre_eq hp
  have := h hp' (a.put o.dst v) (by have := ha.put (v := v) h2; rwa [hd] at this ⊢)
  rw [List.length_cons]
  exact wpAny_float ho (Region.noSelect_spec hs) _ _ a w (Region.free_spec ho hf) (by simpa using hr) (.inl ⟨takes_wanted ha h1, fun w' _ => hv w' a.eval (fun x u hx => ha.eval hx)⟩) this
theorem wbf {I : Info} (hI : I.Ok P) {i k : Nat} {o : Oper} {pl dn : List Nat} (ho : ops[i]? = some o) (hk : k = ops.size + i) (hp : pre f.n ops env o = true) {d : Nat} (hd : o.dst = some d) {v : Value} (hv : pev I o.op env = some v) (hs : Region.noSelect ops = true)
  (h : WB P f ops K pl (i :: dn) ((d, v) :: env) w) : WB P f ops K (k :: pl) dn env w :=
 wbv ho hk hp hd (fun w' => pev_sound hI hv w') hs h
theorem wd_sw {r : Dr} {dn : List Nat} (h : WB P f ops K r.pb dn env w) (hm : r.m = 0 := by rfl) : WD P f ops K r [] dn env w := by
 intro hp hb hs hC a ha
 simp only [plansOk, hm, Bool.and_eq_true, List.all_eq_true] at hp
 have hA : allA r.A (mk ops.size dn) := fun i hi => by
  rcases Nat.lt_or_ge i ops.size with h' | h'
  ·have := hp.1 i (List.mem_range.2 h')
   rwa [hi, Bool.not_true, Bool.false_or] at this
  ·rw [Array.getD_eq_getD_getElem?, Array.getElem?_eq_none (by rw [mk_size]; exact h')]; rfl
 have := h hp.2 a ha
 simp only [List.length_nil, Nat.zero_add, hm]
 cases hl : r.pb.length with
 | zero => rw [hl] at this; exact ⟨hC, this⟩
 | succ n => rw [hl] at this; exact ⟨hC, fun _ => this, fun hn => absurd hA hn⟩
theorem wd_q {r : Dr} {i : Nat} {o : Oper} {v : Value} {pl : List (Nat × Bool)} {dn : List Nat} (ho : ops[i]? = some o) (hp : pre f.n ops env o = true) {d : Nat} (hdd : o.dst = some d) (hv : ∀ w', r.C w' → Ov P o env w' v w')
  (k : WD P f ops K r pl (i :: dn) ((d, v) :: env) w) : WD P f ops K r ((i, true) :: pl) dn env w := by
 obtain ⟨hg, hd⟩ := pre_eq hp
 have k : WD P f ops K r pl (i :: dn) (pushE o.dst v env) w := by rw [hdd]; exact k
 intro hp hb hs hC a ha
 simp only [plansOk, Bool.and_eq_true] at hp
 obtain ⟨⟨hr, hf⟩, hiA, hp'⟩ := hp
 have := k hp' ⟨hb.1, fun j hj => getD_set_keep (hb.2.1 j hj), hb.2.2.set (by simpa using hr)⟩ hs hC _ (ha.put hd)
 simp only [List.length_cons]
 rw [show pl.length + 1 + r.m + r.pb.length = (pl.length + r.m + r.pb.length) + 1 from by omega]
 exact wpG_first hb.1 ho hiA (Region.noSelect_spec hs) _ _ a w (Region.free_spec ho hf) hb.2.1 hb.2.2 (by simpa using hr) (.inl ⟨takes_wanted ha hg, fun w' hw' => hv w' hw' a.eval (fun x u hx => ha.eval hx)⟩) this
theorem wd_pass {r : Dr} {i : Nat} {o : Oper} {pl : List (Nat × Bool)} {dn : List Nat} (ho : ops[i]? = some o) (hg : passes ops env o = true) (hd : dOk f.n o.dst = true)
  (k : WD P f ops K r pl (i :: dn) (pushE o.dst undef env) w) : WD P f ops K r ((i, true) :: pl) dn env w := by
 intro hp hb hs hC a ha
 simp only [plansOk, Bool.and_eq_true] at hp
 obtain ⟨⟨hr, hf⟩, hiA, hp'⟩ := hp
 have := k hp' ⟨hb.1, fun j hj => getD_set_keep (hb.2.1 j hj), hb.2.2.set (by simpa using hr)⟩ hs hC _ (ha.put hd)
 simp only [List.length_cons]
 rw [show pl.length + 1 + r.m + r.pb.length = (pl.length + r.m + r.pb.length) + 1 from by omega]
 exact wpG_first hb.1 ho hiA (Region.noSelect_spec hs) _ _ a w (Region.free_spec ho hf) hb.2.1 hb.2.2 (by simpa using hr) (.inr ⟨passes_wanted ha hg, rfl⟩) this
theorem wd_l {r : Dr} {i : Nat} {o : Oper} {pl : List (Nat × Bool)} {dn : List Nat} (ho : ops[i]? = some o) (h : St P f ops o env w (fun env' w' => r.C w' ∧ WD P f ops K r pl (i :: dn) env' w')) : WD P f ops K r ((i, false) :: pl) dn env w := by
 intro hp hb hs hC a ha
 simp only [plansOk, Bool.and_eq_true, beq_iff_eq] at hp
 obtain ⟨hr, hiA, hp'⟩ := hp
 simp only [List.length_cons]
 rw [show pl.length + 1 + r.m + r.pb.length = (pl.length + r.m + r.pb.length) + 1 from by omega]
 have hun : (mk ops.size dn).getD i true = false := (mem_ready.1 (show i ∈ Region.ready .any ops (mk ops.size dn) from by rw [hr]; simp)).1
 refine ⟨hC, fun hA => ?_, fun _ => ⟨by rw [hr]; simp, fun j hj => ?_⟩⟩
 ·have := hA i hiA
  rw [hun] at this; cases this
 ·rw [hr] at hj
  obtain rfl : j = i := by simpa using hj
  unfold wpOp
  simp only [ho]
  exact h a (NQ K) _ ha fun env' a' w' ha' hK => hK.2 hp' ⟨hb.1, fun j hj => getD_set_keep (hb.2.1 j hj), hb.2.2.set (by rw [hr]; simp)⟩ hs hK.1 a' ha'
theorem wd_case {r : Dr} {pl : List (Nat × Bool)} {dn : List Nat} (d : Nat) {b : Bool} (hd : lk env d = some (.bool b)) (ht : b = true → WD P f ops K r pl dn ((d, .bool true) :: env) w) (hf : b = false → WD P f ops K r pl dn ((d, .bool false) :: env) w) : WD P f ops K r pl dn env w := by
 intro h1 h2 h3 h4 a ha
 have key : ∀ b', b = b' → Ag f ((d, .bool b') :: env) a := fun b' e => ⟨ha.defers, ha.size, fun i u hi => by
   rw [lk_cons] at hi
   split at hi
   ·rename_i e'; subst e'; simp at hi; subst hi; subst e; exact ha.get _ _ hd
   ·exact ha.get _ _ hi⟩
 cases b
 ·exact hf rfl h1 h2 h3 h4 a (key _ rfl)
 ·exact ht rfl h1 h2 h3 h4 a (key _ rfl)
theorem wd_caseD {r : Dr} {pl : List (Nat × Bool)} {dn : List Nat} (d : Nat) {p : Prop} [Decidable p] (hd : lk env d = some (.bool (decide p))) (ht : p → WD P f ops K r pl dn ((d, .bool true) :: env) w) (hf : ¬ p → WD P f ops K r pl dn ((d, .bool false) :: env) w) : WD P f ops K r pl dn env w :=
 wd_case d hd (fun h => ht (of_decide_eq_true h)) (fun h => hf (of_decide_eq_false h))
def pevsD (I : Info) (n : Nat) (ops : Array Oper) : List (Nat × Bool) → List Nat → Env → Option (List (Nat × Bool) × List Nat × Env)
  | [], dn, env => some ([], dn, env)
  | (i, false) :: r, dn, env => match ops[i]? with
    | none => none
    | some o => match passes ops env o with
      | true => match pushO n o.dst undef env with
        | some env' => pevsD I n ops r (i :: dn) env'
        | none => none
      | false => some ((i, false) :: r, dn, env)
  | (i, true) :: r, dn, env => match ops[i]? with
    | none => none
    | some o => match passes ops env o with
      | true => match pushO n o.dst undef env with
        | some env' => pevsD I n ops r (i :: dn) env'
        | none => none
      | false => match takes ops env o with
        | false => some ((i, true) :: r, dn, env)
        | true => match pev I o.op env with
          | none => some ((i, true) :: r, dn, env)
          | some v => match pushO n o.dst v env with
            | some env' => pevsD I n ops r (i :: dn) env'
            | none => none
def pevsK (I : Info) (n : Nat) (ops : Array Oper) : Nat → List (Nat × Bool) → List Nat → Env → Option (List (Nat × Bool) × List Nat × Env)
  | 0, pl, dn, env => some (pl, dn, env)
  | _ + 1, [], dn, env => some ([], dn, env)
  | k + 1, (i, q) :: r, dn, env => match ops[i]? with
    | none => none
    | some o => match passes ops env o with
      | true => match pushO n o.dst undef env with
        | some env' => pevsK I n ops k r (i :: dn) env'
        | none => none
      | false => match q with
        | false => some ((i, false) :: r, dn, env)
        | true => match takes ops env o with
          | false => none
          | true => match pev I o.op env with
            | none => none
            | some v => match pushO n o.dst v env with
              | some env' => pevsK I n ops k r (i :: dn) env'
              | none => none
theorem wd_k {I : Info} (hI : I.Ok P) {r : Dr} {pl pl' : List (Nat × Bool)} {dn dn' : List Nat} {env' : Env} (k : Nat) (h : pevsK I f.n ops k pl dn env = some (pl', dn', env')) (hk : WD P f ops K r pl' dn' env' w) : WD P f ops K r pl dn env w := by
 induction k generalizing pl env dn with
 | zero => simp [pevsK] at h; obtain ⟨rfl, rfl, rfl⟩ := h; exact hk
 | succ k ih =>
  cases pl with
  | nil => simp [pevsK] at h; obtain ⟨rfl, rfl, rfl⟩ := h; exact hk
  | cons x pl =>
   obtain ⟨i, q⟩ := x
   simp only [pevsK] at h
   split at h
   ·cases h
   ·rename_i o ho
    split at h
    ·rename_i hp
     split at h
     ·rename_i e he
      obtain ⟨hd, rfl⟩ := pushO_eq he
      cases q with
      | true => exact wd_pass ho hp hd (ih h)
      | false => exact fun h1 h2 h3 hC a ha => wd_l ho (st_pass hp hd ⟨hC, ih h⟩) h1 h2 h3 hC a ha
     ·cases h
    ·cases q with
     | false => simp at h; obtain ⟨rfl, rfl, rfl⟩ := h; exact hk
     | true =>
      simp only at h
      split at h
      ·cases h
      ·rename_i ht
       split at h
       ·cases h
       ·rename_i v hv
        split at h
        ·rename_i e he
         obtain ⟨hd, he'⟩ := pushO_eq he
         cases hdd : o.dst with
         | none => rw [hdd] at he; cases he
         | some d => exact wd_q ho (by simp [pre, ht, hd]) hdd (fun w' _ => pev_sound hI hv w') (by rw [hdd] at he'; subst he'; exact ih h)
        ·cases h
theorem closed_nil (ops : Array Oper) (n : Nat) : Closed ops (mk n []) := by
 intro j o _ hj
 simp only [mk] at hj
 rcases Nat.lt_or_ge j n with h | h
 ·simp [h] at hj
 ·simp [h] at hj
theorem c_draw {Q : XPost} {id : Nat} {l : List Oper} (hm : P.follows .mixedOrders = true) (nA : Nat) (pl : List (Nat × Bool)) (pb : List Nat) (S : Nat → Prop)
  (hok : (plansOk l.toArray (Nat.blt · nA) 0 pl pb [] && barOk l.toArray (Nat.blt · nA) [] && Region.noSelect l.toArray && Nat.beq (pl.length + pb.length) l.length) = true)
  (h : ∀ w1, Ext No w w1 → w1.heap.size = w.heap.size → WD P f l.toArray (Q .normal) ⟨(Nat.blt · nA), pb, Ext S w, [], 0⟩ pl [] env w1) : WC P f (.region id l.toArray true) Q env w := by
 intro a ha
 simp only [Bool.and_eq_true] at hok
 obtain ⟨⟨⟨h1, h2⟩, h3⟩, h4⟩ := hok
 have hG := h _ (Ext.drew' w) rfl h1 ⟨h2, fun _ hj => (by cases hj), closed_nil _ _⟩ h3 (Ext.drew' w).no a ha
 have hl : pl.length + pb.length = l.toArray.size := by simpa using Nat.eq_of_beq_eq_true h4
 refine wp_mono (Q := NQ (Q .normal)) (wp_region_any hm ?_) fun e a' w' he => by cases e <;> first | exact he | exact he.elim
 have := wpAny_of_G _ _ _ _ hG
 simp only [Nat.add_zero] at this
 rwa [hl] at this
def floatsOk (ops : Array Oper) (A : Nat → Bool) : List Nat → List Nat → Bool
  | [], _ => true
  | i :: r, dn => (Region.ready .any ops (mk ops.size dn)).contains i && Region.free .any ops (mk ops.size dn) i && (!A i && floatsOk ops A r (i :: dn))
def floatsE (I : Info) (n : Nat) (ops : Array Oper) : List Nat → List Nat → Env → Option (List Nat × Env)
  | [], dn, env => some (dn, env)
  | i :: r, dn, env => match ops[i]? with
    | none => none
    | some o => match takes ops env o with
      | false => none
      | true => match pev I o.op env with
        | none => none
        | some v => match pushO n o.dst v env with
          | some env' => floatsE I n ops r (i :: dn) env'
          | none => none
theorem floats_G {I : Info} (hI : I.Ok P) {C : World → Prop} {A : Nat → Bool} (hs : Region.noSelect ops = true) : ∀ (fl dn dn' : List Nat) (env env' : Env) (fuel : Nat) (a : Act), floatsOk ops A fl dn = true → floatsE I f.n ops fl dn env = some (dn', env') → Ag f env a →
  (∀ a', Ag f env' a' → wpG P ops K C A fuel (mk ops.size dn') a' w) → wpG P ops K C A (fl.length + fuel) (mk ops.size dn) a w
 | [], dn, dn', env, env', fuel, a, _, h, ha, k => by
  simp only [floatsE, Option.some.injEq, Prod.mk.injEq] at h
  obtain ⟨rfl, rfl⟩ := h
  simpa using k a ha
 | i :: r, dn, dn', env, env', fuel, a, hok, h, ha, k => by
  simp only [floatsOk, Bool.and_eq_true] at hok
  obtain ⟨⟨hr, hf⟩, hiA, hok'⟩ := hok
  simp only [floatsE] at h
  split at h
  ·cases h
  ·rename_i o ho
   split at h
   ·cases h
   ·rename_i ht
    split at h
    ·cases h
    ·rename_i v hv
     split at h
     ·rename_i e1 he
      obtain ⟨hd, rfl⟩ := pushO_eq he
      have := floats_G hI hs r (i :: dn) dn' _ env' fuel _ hok' h (ha.put hd) k
      rw [List.length_cons, show r.length + 1 + fuel = (r.length + fuel) + 1 from by omega]
      exact wpG_float ho (by simpa using hiA) (Region.noSelect_spec hs) _ _ a w (Region.free_spec ho hf) (by simpa using hr) (.inl ⟨takes_wanted ha ht, fun w' _ => pev_sound hI hv w' a.eval (fun x u hx => ha.eval hx)⟩) this
     ·cases h
theorem closed_floats {ops : Array Oper} {A : Nat → Bool} : ∀ (fl dn : List Nat), floatsOk ops A fl dn = true → Closed ops (mk ops.size dn) → Closed ops (mk ops.size (fl.reverse ++ dn))
 | [], _, _, h => h
 | i :: r, dn, hok, h => by
  simp only [floatsOk, Bool.and_eq_true] at hok
  rw [List.reverse_cons, List.append_assoc]
  exact closed_floats r (i :: dn) hok.2.2 (h.set (by simpa using hok.1.1))
theorem c_drawL {I : Info} (hI : I.Ok P) {Q : XPost} {id : Nat} {l : List Oper} (hm : P.follows .mixedOrders = true) (fl : List Nat) (nA : Nat) (late : List Nat) (pl : List (Nat × Bool)) (pb : List Nat) (S : Nat → Prop)
  (hok : (floatsOk l.toArray (fun i => Nat.blt i nA && !late.contains i) fl [] && plansOk l.toArray (fun i => Nat.blt i nA && !late.contains i) 0 pl pb fl.reverse && barOk l.toArray (fun i => Nat.blt i nA && !late.contains i) fl && Region.noSelect l.toArray && Nat.beq (fl.length + (pl.length + pb.length)) l.length && fl.all (fun j => (mk l.toArray.size fl.reverse).getD j true)) = true)
  {env' : Env} (hfl : floatsE I f.n l.toArray fl [] env = some (fl.reverse, env'))
  (h : ∀ w1, Ext No w w1 → w1.heap.size = w.heap.size → WD P f l.toArray (Q .normal) ⟨(fun i => Nat.blt i nA && !late.contains i), pb, Ext S w, fl, 0⟩ pl fl.reverse env' w1) : WC P f (.region id l.toArray true) Q env w := by
 intro a ha
 simp only [Bool.and_eq_true] at hok
 obtain ⟨⟨⟨⟨⟨h0, h1⟩, h2⟩, h3⟩, h4⟩, h5⟩ := hok
 have hl : fl.length + (pl.length + pb.length) = l.toArray.size := by simpa using Nat.eq_of_beq_eq_true h4
 refine wp_mono (Q := NQ (Q .normal)) (wp_region_any hm ?_) fun e a' w' he => by cases e <;> first | exact he | exact he.elim
 have hG := floats_G (w := { w with drawn := w.drawn + 1 }) hI (A := (fun i => Nat.blt i nA && !late.contains i)) (C := Ext S w) (K := Q .normal) h3 fl [] fl.reverse env env' (pl.length + pb.length) a h0 hfl ha
 have := hG fun a' ha' => h _ (Ext.drew' w) rfl h1 ⟨h2, fun j hj => List.all_eq_true.1 h5 j hj, by have := closed_floats fl [] h0 (closed_nil _ _); rwa [List.append_nil] at this⟩ h3 (Ext.drew' w).no a' ha'
 have := wpAny_of_G _ _ _ _ this
 rwa [hl] at this
theorem st_p {I : Info} (hI : I.Ok P) {o : Oper} {v : Value} {K' : Env → World → Prop} (hp : pre f.n ops env o = true) {d : Nat} (hd : o.dst = some d) (hv : pev I o.op env = some v) (k : K' ((d, v) :: env) w) : St P f ops o env w K' :=
 have ⟨h1, h2⟩ := pre_eq hp
 st_v h1 h2 (pev_sound hI hv w) (by rw [hd]; exact k)
/-! ### Several could come -/
def WX (P : Program) (f : Fs) (ops : Array Oper) (K : Act → World → Prop) (r : Dr) (k : Nat) (dn : List Nat) (env : Env) (w : World) : Prop :=
  barOk ops r.A r.fl = true ∧ (∀ j ∈ r.fl, (mk ops.size dn).getD j true = true) ∧ Closed ops (mk ops.size dn) → Region.noSelect ops = true → r.C w → ∀ a, Ag f env a → wpG P ops K r.C r.A (k + r.pb.length) (mk ops.size dn) a w
def Alts (P : Program) (f : Fs) (ops : Array Oper) (K : Act → World → Prop) (r : Dr) (k : Nat) (dn : List Nat) (env : Env) (w : World) : List Nat → Prop
  | [] => True
  | i :: is => (∃ o, ops[i]? = some o ∧ St P f ops o env w (fun env' w' => r.C w' ∧ WX P f ops K r k (i :: dn) env' w')) ∧ Alts P f ops K r k dn env w is
theorem Alts.get {r : Dr} {k : Nat} {dn : List Nat} : ∀ {is : List Nat}, Alts P f ops K r k dn env w is → ∀ i ∈ is, ∃ o, ops[i]? = some o ∧ St P f ops o env w (fun env' w' => r.C w' ∧ WX P f ops K r k (i :: dn) env' w')
 | [], _, i, hi => by cases hi
 | j :: is, h, i, hi => by
  rcases List.mem_cons.1 hi with rfl | hi
  ·exact h.1
  ·exact h.2.get i hi
theorem wd_tail {r : Dr} {dn : List Nat} {k : Nat} (hm : r.m = k) (h : WX P f ops K r k dn env w) : WD P f ops K r [] dn env w := by
 intro _ hb hs hC a ha
 simp only [List.length_nil, Nat.zero_add, hm]
 exact h hb hs hC a ha
theorem wx_plan {r : Dr} {dn : List Nat} {k : Nat} (pl : List (Nat × Bool)) (m : Nat) (hk : k = pl.length + m) (hp : plansOk ops r.A m pl r.pb dn = true) (h : WD P f ops K { r with m := m } pl dn env w) : WX P f ops K r k dn env w := by
 subst hk
 exact fun hb hs hC a ha => h hp hb hs hC a ha
theorem wx_alt {r : Dr} {k m : Nat} {dn : List Nat} (is : List Nat) (hk : k = m + 1) (hr : ((Region.ready .any ops (mk ops.size dn) == is) && is.all r.A && !is.isEmpty) = true) (h : Alts P f ops K r m dn env w is) : WX P f ops K r k dn env w := by
 subst hk
 intro hb hs hC a ha
 simp only [Bool.and_eq_true, beq_iff_eq, List.all_eq_true] at hr
 obtain ⟨⟨hr, hlt⟩, hne⟩ := hr
 have hne' : is ≠ [] := by intro e; subst e; simp at hne
 rw [show m + 1 + r.pb.length = (m + r.pb.length) + 1 from by omega]
 refine ⟨hC, fun hA => ?_, fun _ => ⟨by rw [hr]; exact hne', fun j hj => ?_⟩⟩
 ·obtain ⟨i, hi⟩ := List.exists_mem_of_ne_nil is hne'
  have h1 : i ∈ Region.ready .any ops (mk ops.size dn) := by rw [hr]; exact hi
  have h2 := hA i (hlt i hi)
  rw [(mem_ready.1 h1).1] at h2
  cases h2
 ·have hj' := hj
  rw [hr] at hj'
  obtain ⟨o, ho, hst⟩ := h.get j hj'
  unfold wpOp
  simp only [ho]
  exact hst a (NQ K) _ ha fun env' a' w' ha' hK => hK.2 ⟨hb.1, fun i hi => getD_set_keep (hb.2.1 i hi), hb.2.2.set hj⟩ hs hK.1 a' ha'
theorem c_drawX {Q : XPost} {id : Nat} {l : List Oper} (hm : P.follows .mixedOrders = true) (nA : Nat) (k : Nat) (pb : List Nat) (S : Nat → Prop)
  (hok : (barOk l.toArray (Nat.blt · nA) [] && Region.noSelect l.toArray && Nat.beq (k + pb.length) l.length) = true)
  (h : ∀ w1, Ext No w w1 → w1.heap.size = w.heap.size → WX P f l.toArray (Q .normal) ⟨(Nat.blt · nA), pb, Ext S w, [], 0⟩ k [] env w1) : WC P f (.region id l.toArray true) Q env w := by
 intro a ha
 simp only [Bool.and_eq_true] at hok
 obtain ⟨⟨h2, h3⟩, h4⟩ := hok
 have hG := h _ (Ext.drew' w) rfl ⟨h2, fun _ hj => (by cases hj), closed_nil _ _⟩ h3 (Ext.drew' w).no a ha
 have hl : k + pb.length = l.toArray.size := by simpa using Nat.eq_of_beq_eq_true h4
 refine wp_mono (Q := NQ (Q .normal)) (wp_region_any hm ?_) fun e a' w' he => by cases e <;> first | exact he | exact he.elim
 have := wpAny_of_G _ _ _ _ hG
 rwa [hl] at this
end
/-! ### Rows of equal parts -/
def rep (n : Nat) (z : List Value) : List Value := (List.replicate n z).flatten
theorem rep_length (n : Nat) (z : List Value) : (rep n z).length = n * z.length := by simp [rep]
theorem rep_one (n : Nat) (v : Value) : rep n [v] = List.replicate n v := by
 unfold rep
 induction n with
 | zero => rfl
 | succ n ih => simp [List.replicate_succ, ih]
theorem rep_succ (n : Nat) (z : List Value) : rep (n + 1) z = z ++ rep n z := by simp [rep, List.replicate_succ]
theorem rep_getElem? (z : List Value) (hz : 0 < z.length) : ∀ (n i : Nat), i < n * z.length → (rep n z)[i]? = z[i % z.length]?
 | 0, i, h => by simp at h
 | n + 1, i, h => by
  rw [rep_succ]
  rcases Nat.lt_or_ge i z.length with h' | h'
  ·rw [List.getElem?_append_left h', Nat.mod_eq_of_lt h']
  ·rw [List.getElem?_append_right h', rep_getElem? z hz n (i - z.length) (by rw [Nat.add_mul] at h; omega)]
   rw [Nat.mod_eq_sub_mod h']
theorem madeCells_rep (z : List Value) (n : Nat) (hz : 0 < z.length) : madeCells z.toArray (n * z.length) = (rep n z).toArray := by
 apply Array.ext'
 apply List.ext_getElem?
 intro i
 unfold madeCells
 rw [Array.toList_map, Array.toList_range]
 rcases Nat.lt_or_ge i (n * z.length) with h | h
 ·have hm : i % z.length < z.length := Nat.mod_lt _ hz
  rw [rep_getElem? z hz n i h, List.getElem?_map, List.getElem?_range h]
  simp [hm]
 ·rw [List.getElem?_eq_none (by simp; exact h), List.getElem?_eq_none (by rw [rep_length]; exact h)]
theorem zeroCells_rep (z : List Value) (n : Nat) (hz : 0 < z.length) : Builtin.zeroCells z.toArray n = (rep n z).toArray := by
 rw [← madeCells_rep z n hz]
 simp [Builtin.zeroCells, madeCells]
def Sl (w : World) (p : Option Addr) (n sz : Nat) (xs : List Value) : Prop :=
  xs.length = n * sz ∧ (n = 0 ∨ ∃ b off, p = some ⟨b, off, none⟩ ∧ Seg w b off xs)
def Own (w : World) (p : Option Addr) (n c T sz : Nat) (xs : List Value) : Prop :=
  (p = none ∧ n = 0 ∧ c = 0 ∧ xs = []) ∨ ∃ b l, p = some ⟨b, 0, none⟩ ∧ Blk w b T l ∧ l.length = c * sz ∧ n ≤ c ∧ c ≤ maxLen ∧ l.take (n * sz) = xs
abbrev OwnB (p : Option Addr) : Nat → Prop := fun x => p = some ⟨x, 0, none⟩
theorem Own.nil (w : World) (T sz : Nat) : Own w none 0 0 T sz [] := .inl ⟨rfl, rfl, rfl, rfl⟩
theorem Own.len {w : World} {p : Option Addr} {n c T sz : Nat} {xs : List Value} (h : Own w p n c T sz xs) : xs.length = n * sz := by
 rcases h with ⟨_, rfl, _, rfl⟩ | ⟨b, l, _, _, hl, hn, _, rfl⟩
 ·simp
 ·have : n * sz ≤ c * sz := Nat.mul_le_mul_right _ hn
  rw [List.length_take, hl, Nat.min_eq_left this]
theorem Own.cap {w : World} {p : Option Addr} {n c T sz : Nat} {xs : List Value} (h : Own w p n c T sz xs) : n ≤ c := by
 rcases h with ⟨_, rfl, rfl, _⟩ | ⟨b, l, _, _, _, hn, _, _⟩
 ·exact Nat.le_refl _
 ·exact hn
theorem Own.sl {w : World} {p : Option Addr} {n c T sz : Nat} {xs : List Value} (h : Own w p n c T sz xs) : Sl w p n sz xs := by
 refine ⟨h.len, ?_⟩
 rcases h with ⟨_, hn, _, _⟩ | ⟨b, l, hp, hb, _, _, _, rfl⟩
 ·exact .inl hn
 ·exact .inr ⟨b, 0, hp, hb.seg.take _⟩
theorem Own.ext {S : Nat → Prop} {w w' : World} {p : Option Addr} {n c T sz : Nat} {xs : List Value} (h : Own w p n c T sz xs) (hE : Ext S w w') (hS : ∀ x, OwnB p x → ¬ S x) : Own w' p n c T sz xs := by
 rcases h with h | ⟨b, l, hp, hb, r⟩
 ·exact .inl h
 ·exact .inr ⟨b, l, hp, hb.ext hE (hS b hp), r⟩
theorem Own.lt {w : World} {p : Option Addr} {n c T sz : Nat} {xs : List Value} (h : Own w p n c T sz xs) {x : Nat} (hx : OwnB p x) : x < w.heap.size := by
 rcases h with ⟨hp, _⟩ | ⟨b, l, hp, hb, _⟩
 ·rw [hp] at hx; cases hx
 ·rw [hp] at hx
  obtain rfl : b = x := by simpa using hx
  exact hb.lt
theorem Own.blk {w : World} {b n c T : Nat} {l : List Value} (h : Blk w b T l) (sz : Nat) (hl : l.length = c * sz) (hn : n ≤ c) (hc : c ≤ maxLen) : Own w (some ⟨b, 0, none⟩) n c T sz (l.take (n * sz)) :=
 .inr ⟨b, l, rfl, h, hl, hn, hc, rfl⟩
theorem Sl.ext {S : Nat → Prop} {w w' : World} {p : Option Addr} {n sz : Nat} {xs : List Value} (h : Sl w p n sz xs) (hE : Ext S w w') (hS : ∀ b off, p = some ⟨b, off, none⟩ → ¬ S b) : Sl w' p n sz xs := by
 refine ⟨h.1, ?_⟩
 rcases h.2 with h0 | ⟨b, off, hp, hs⟩
 ·exact .inl h0
 ·exact .inr ⟨b, off, hp, hs.ext hE (hS b off hp)⟩
theorem Sl.zq2 {w w' : World} {p : Option Addr} {n sz : Nat} {xs : List Value} (h : Sl w p n sz xs) (hE : Ext No w w') : Sl w' p n sz xs := h.ext hE fun _ _ _ => id
theorem Sl.nil (w : World) (p : Option Addr) (sz : Nat) : Sl w p 0 sz [] := ⟨by simp, .inl rfl⟩
section
variable {P : Program} {I : Info} {f : Fs} {ops : Array Oper} {o : Oper} {env : Env} {w : World} {K : Env → World → Prop}
def mkE (I : Info) (n : Nat) (ops : Array Oper) (env : Env) (o : Oper) : Option (Nat × TI × Int × Int × Nat) :=
  match pre n ops env o with
  | false => none
  | true => match o.dst with
    | some d => match o.op with
      | .makeSlice t x z => match lkT I t with
        | some y => match y.desc with
          | .slice e => match lkT I e with
            | some g => match evO env x with
              | some (.int _ p) => match evO env z with
                | some (.int _ q) => some (e, g, p, q, d)
                | _ => none
              | _ => none
            | none => none
          | _ => none
        | none => none
      | _ => none
    | none => none
theorem mkE_eq {n e d : Nat} {g : TI} {p q : Int} (h : mkE I n ops env o = some (e, g, p, q, d)) : takes ops env o = true ∧ dOk n o.dst = true ∧ o.dst = some d ∧ ∃ t x z y k k', o.op = .makeSlice t x z ∧ lkT I t = some y ∧ y.desc = .slice e ∧ lkT I e = some g ∧ evO env x = some (.int k p) ∧ evO env z = some (.int k' q) := by
 unfold mkE at h
 split at h
 ·cases h
 ·rename_i hp
  obtain ⟨h1, h2⟩ := pre_eq hp
  split at h
  ·rename_i d' hd
   split at h
   ·rename_i t x z ho
    split at h
    ·rename_i y hy
     split at h
     ·rename_i e' he
      split at h
      ·rename_i g' hg
       split at h
       ·rename_i k p' hx
        split at h
        ·rename_i k' q' hz
         cases h
         exact ⟨h1, h2, hd, t, x, z, y, k, k', ho, hy, he, hg, hx, hz⟩
        ·cases h
       ·cases h
      ·cases h
     ·cases h
    ·cases h
   ·cases h
  ·cases h
theorem st_mk (hI : I.Ok P) {e d : Nat} {g : TI} {p q : Int} (h : mkE I f.n ops env o = some (e, g, p, q, d)) (n c : Nat) (by_ : Nat) (hby : g.bytes = by_) {zs : List Value} (hzs : cellsOf g.zero = zs) (hz : zs.length = g.size) (hz0 : 0 < zs.length) (hn : p = (n : Int)) (hc : q = (c : Int)) (hnc : n ≤ c) (hb : by_ * c ≤ 281474976710656) (hm : c ≤ maxLen)
  (k : ∀ (b : Nat) w', w.heap.size ≤ b → Blk w' b e (rep c zs) → Ext No w w' → w'.heap.size = w.heap.size + 1 → K ((d, .slice (some ⟨b, 0, none⟩) n c) :: env) w') : St P f ops o env w K := by
 subst hby
 subst hzs
 obtain ⟨h1, h2, hd, t, x, z, y, kk, kk', ho, hy, he, hg, hx, hzz⟩ := mkE_eq h
 subst hn; subst hc
 obtain ⟨i, hi, i1, i2, i3⟩ := TI.Ok.info (hI.get hg)
 have hu := (hI.get hy).1
 rw [he] at hu
 unfold maxLen at hm
 have hr := run_make (P := P) w t e i g.zero hu hi i3 kk kk' n c (by omega) (by omega) (by rw [i2, ← Int.natCast_mul]; exact Int.ofNat_le.2 hb) (by omega)
 rw [i1, ← hz, Int.toNat_natCast, Int.toNat_natCast, show g.zero.cells = (cellsOf g.zero).toArray from by rw [← cellsOf_eq], madeCells_rep _ _ (by omega)] at hr
 refine st_v h1 h2 (v := .slice (some ⟨w.heap.size, 0, none⟩) n c) (w' := w.alloc (.cells (rep c (cellsOf g.zero)).toArray e)) (fun ρ hρ => ?_) ?_
 ·simp only [execOp, ho, hρ _ _ hx, hρ _ _ hzz, Sem.run_bind, hr, Result.andThen_ok, Sem.run_pure]
 ·rw [hd]
  exact k _ _ (Nat.le_refl _) (alloc_blk _ _ _) (Ext.alloc _ _ _) (by simp)
/-! ### Slice expressions -/
def slBase (p : Option Addr) (l m sz : Nat) : Option Addr := if m = l then p else p.map (·.add (l * sz))
theorem slBase_eq {b off l m sz : Nat} (h : l ≠ m) : slBase (some ⟨b, off, none⟩) l m sz = some ⟨b, off + l * sz, none⟩ := by
 unfold slBase
 rw [if_neg (fun e => h e.symm)]
 simp [addr_add]
theorem slBase_zero {p : Option Addr} {m sz : Nat} : slBase p 0 m sz = p := by
 unfold slBase
 split
 ·rfl
 ·cases p <;> simp [Addr.add]
def evI (env : Env) (x : Option Operand) : Option (Option Int) :=
  match x with
  | none => some none
  | some y => match evO env y with
    | some (.int _ n) => some (some n)
    | _ => none
structure SlArgs where
  p : Option Addr
  n : Nat
  c : Nat
  sz : Nat
  lo : Option Int
  hi : Option Int
  mx : Option Int
  d : Nat
def slE (I : Info) (n : Nat) (ops : Array Oper) (env : Env) (o : Oper) : Option SlArgs :=
  match pre n ops env o with
  | false => none
  | true => match o.dst with
    | some d => match o.op with
      | .slice t x lo hi mx => match lkT I t with
        | some y => match y.desc with
          | .slice e => match lkT I e with
            | some g => match evO env x with
              | some (.slice p m c) => match evI env lo with
                | some lo' => match evI env hi with
                  | some hi' => match evI env mx with
                    | some mx' => some ⟨p, m, c, g.size, lo', hi', mx', d⟩
                    | none => none
                  | none => none
                | none => none
              | _ => none
            | none => none
          | _ => none
        | none => none
      | _ => none
    | none => none
theorem evI_eq {x : Option Operand} {r : Option Int} (h : evI env x = some r) {ρ : Operand → Value} (hρ : ∀ x u, evO env x = some u → ρ x = u) : (r = none ∧ x.map ρ = none) ∨ (∃ n k, r = some n ∧ x.map ρ = some (.int k n)) := by
 unfold evI at h
 split at h
 ·cases h; exact .inl ⟨rfl, rfl⟩
 ·rename_i y
  split at h
  ·rename_i k n hy
   cases h
   exact .inr ⟨n, k, rfl, by simp [hρ _ _ hy]⟩
  ·cases h
theorem run_bound {P : Program} {w : World} (k : IntKind) (n y : Nat) (code : BoundsCode) (h : n ≤ y) : (Instr.sliceBound (.int k (n : Int)) y code).run P w = .ok n w := by
 have : (0 : Int) ≤ (n : Int) ∧ (n : Int) ≤ (y : Int) := by omega
 simp [Instr.sliceBound, asIntOf, this]
theorem ov_sl (hI : I.Ok P) {nn : Nat} {s : SlArgs} (h : slE I nn ops env o = some s) (l hh m : Nat) (sz : Nat) (hsz : s.sz = sz) (h1 : s.mx = some (m : Int) ∧ s.hi.isSome = true ∨ s.mx = none ∧ m = s.c) (h2 : s.hi = some (hh : Int) ∨ s.hi = none ∧ hh = s.n) (h3 : s.lo = some (l : Int) ∨ s.lo = none ∧ l = 0)
  (hl : l ≤ hh) (hm : hh ≤ m) (hc : m ≤ s.c)
  : takes ops env o = true ∧ dOk nn o.dst = true ∧ o.dst = some s.d ∧ Ov P o env w (.slice (slBase s.p l m sz) (hh - l) (m - l)) w := by
 subst hsz
 unfold slE at h
 split at h
 ·cases h
 ·rename_i hp
  obtain ⟨e1, e2⟩ := pre_eq hp
  split at h
  ·rename_i d' hd
   split at h
   ·rename_i t x lo hi mx ho
    split at h
    ·rename_i y hy
     split at h
     ·rename_i e he
      split at h
      ·rename_i g hg
       split at h
       ·rename_i p n c hx
        split at h
        ·rename_i lo' hlo
         split at h
         ·rename_i hi' hhi
          split at h
          ·rename_i mx' hmx
           cases h
           simp only at *
           refine ⟨e1, e2, hd, fun ρ hρ => ?_⟩
           have hu := (hI.get hy).under w
           have hs := (hI.get hg).sizeOf w
           rw [he] at hu
           have fin : ∀ {lo hi mx : Option Value}, (Instr.sliceBounds true n c lo hi mx).run P w = .ok (l, hh, m) w → (Instr.slice t (.slice p n c) lo hi mx).run P w = .ok (.slice (slBase p l m g.size) (hh - l) (m - l)) w := by
            intro lo hi mx hb
            unfold Instr.slice
            rw [run_under_bind hu]
            simp only [Sem.run_bind, hb, Result.andThen_ok, hs, Sem.run_pure, slBase]
           have go : (Instr.sliceAt t (.slice p n c) (lo.map ρ) (hi.map ρ) (mx.map ρ)).run P w = .ok (.slice (slBase p l m g.size) (hh - l) (m - l)) w := by
            unfold Instr.sliceAt
            rw [run_under_bind hu]
            refine fin ?_
            have q3 : (lo.map ρ = none ∧ l = 0) ∨ ∃ k, lo.map ρ = some (.int k (l : Int)) := by
             rcases evI_eq hlo hρ with ⟨hr, hv⟩ | ⟨nn, kk, hr, hv⟩ <;> rcases h3 with h3 | ⟨h3, h3'⟩ <;> rw [h3] at hr <;> cases hr
             ·exact .inl ⟨hv, h3'⟩
             ·exact .inr ⟨kk, hv⟩
            have q2 : (hi.map ρ = none ∧ hi' = none ∧ hh = n) ∨ ∃ k, hi.map ρ = some (.int k (hh : Int)) := by
             rcases evI_eq hhi hρ with ⟨hr, hv⟩ | ⟨nn, kk, hr, hv⟩ <;> rcases h2 with h2 | ⟨h2, h2'⟩ <;> rw [h2] at hr <;> cases hr
             ·exact .inl ⟨hv, h2, h2'⟩
             ·exact .inr ⟨kk, hv⟩
            have q1 : (mx.map ρ = none ∧ m = c) ∨ (hi'.isSome = true ∧ ∃ k, mx.map ρ = some (.int k (m : Int))) := by
             rcases evI_eq hmx hρ with ⟨hr, hv⟩ | ⟨nn, kk, hr, hv⟩ <;> rcases h1 with ⟨h1, h1'⟩ | ⟨h1, h1'⟩ <;> rw [h1] at hr <;> cases hr
             ·exact .inl ⟨hv, h1'⟩
             ·exact .inr ⟨h1', kk, hv⟩
            clear fin
            unfold Instr.sliceBounds
            rcases q1 with ⟨q1, rfl⟩ | ⟨q1', k1, q1⟩ <;> rcases q2 with ⟨q2, q2', rfl⟩ | ⟨k2, q2⟩ <;> rcases q3 with ⟨q3, rfl⟩ | ⟨k3, q3⟩ <;> rw [q1, q2, q3] <;>
             first
              | (rw [q2'] at q1'; cases q1'; done)
              | (simp only [Sem.run_bind, Sem.run_pure, Result.andThen_ok, if_true, run_bound _ _ _ _ hl, run_bound _ _ _ _ hm, run_bound _ _ _ _ hc]; done)
           simp only [execOp, ho, hρ _ _ hx, Sem.run_bind, go, Result.andThen_ok, Sem.run_pure]
          ·cases h
         ·cases h
        ·cases h
       ·cases h
      ·cases h
     ·cases h
    ·cases h
   ·cases h
  ·cases h
theorem st_sl (hI : I.Ok P) {s : SlArgs} (h : slE I f.n ops env o = some s) (l hh m : Nat) (sz : Nat) (hsz : s.sz = sz) (h1 : s.mx = some (m : Int) ∧ s.hi.isSome = true ∨ s.mx = none ∧ m = s.c) (h2 : s.hi = some (hh : Int) ∨ s.hi = none ∧ hh = s.n) (h3 : s.lo = some (l : Int) ∨ s.lo = none ∧ l = 0)
  (hl : l ≤ hh) (hm : hh ≤ m) (hc : m ≤ s.c) (k : K ((s.d, .slice (slBase s.p l m sz) (hh - l) (m - l)) :: env) w) : St P f ops o env w K :=
 have ⟨e1, e2, hd, hv⟩ := ov_sl (w := w) hI h l hh m sz hsz h1 h2 h3 hl hm hc
 st_v e1 e2 hv (by rw [hd]; exact k)
theorem wb_sl (hI : I.Ok P) {K : Act → World → Prop} {i kk : Nat} {pl dn : List Nat} (ho : ops[i]? = some o) (hk : kk = ops.size + i) {s : SlArgs} (h : slE I f.n ops env o = some s) (l hh m : Nat) (sz : Nat) (hsz : s.sz = sz) (h1 : s.mx = some (m : Int) ∧ s.hi.isSome = true ∨ s.mx = none ∧ m = s.c) (h2 : s.hi = some (hh : Int) ∨ s.hi = none ∧ hh = s.n) (h3 : s.lo = some (l : Int) ∨ s.lo = none ∧ l = 0)
  (hl : l ≤ hh) (hm : hh ≤ m) (hc : m ≤ s.c) (hs : Region.noSelect ops = true) (k : WB P f ops K pl (i :: dn) ((s.d, .slice (slBase s.p l m sz) (hh - l) (m - l)) :: env) w) : WB P f ops K (kk :: pl) dn env w :=
 have ⟨e1, e2, hd, _⟩ := ov_sl (w := w) hI h l hh m sz hsz h1 h2 h3 hl hm hc
 wbv ho hk (by unfold pre; rw [e1]; exact e2) hd (fun _ => (ov_sl hI h l hh m sz hsz h1 h2 h3 hl hm hc).2.2.2) hs k
theorem Sl.slice {w : World} {p : Option Addr} {n sz : Nat} {xs : List Value} (h : Sl w p n sz xs) (l hh m : Nat) (hl : l ≤ hh) (hm : hh ≤ m) (hn : hh ≤ n) : Sl w (slBase p l m sz) (hh - l) sz ((xs.drop (l * sz)).take ((hh - l) * sz)) := by
 obtain ⟨hx, h'⟩ := h
 have e1 : l * sz + (hh - l) * sz ≤ xs.length := by
  rw [hx, ← Nat.add_mul]; exact Nat.mul_le_mul_right _ (by omega)
 refine ⟨by simp; omega, ?_⟩
 by_cases h0 : hh = l
 ·exact .inl (by omega)
 ·rcases h' with h' | ⟨b, off, rfl, hs⟩
  ·omega
  ·exact .inr ⟨b, off + l * sz, slBase_eq (by omega), (hs.drop _).take _⟩
/-! ### append -/
def Src (P : Program) (w : World) (sz : Nat) (x : Value) (m : Nat) (news : List Value) : Prop :=
  Builtin.lenOf x = pure m ∧ news.length = m * sz ∧ (∀ v ∈ news, v.oneCell' = true) ∧ ∀ w', (∀ a, w'.cell? a = w.cell? a) → (Builtin.firstCells sz m x).run P w' = .ok news.toArray w'
theorem Src.slice {P : Program} {w : World} {p : Option Addr} {m c sz : Nat} {news : List Value} (h : Sl w p m sz news) (h1 : ∀ v ∈ news, v.oneCell' = true) : Src P w sz (.slice p m c) m news := by
 refine ⟨rfl, h.1, h1, fun w' hw => ?_⟩
 rcases h.2 with h0 | ⟨b, off, rfl, hs⟩
 ·have : news = [] := by have := h.1; rw [h0] at this; simpa using this
  subst this; subst h0
  cases p with
  | none => rfl
  | some a =>
   unfold Builtin.firstCells loadCells
   rw [Nat.zero_mul]
   rfl
 ·have hs' : Seg w' b (off + 0) news := fun i v hi => by rw [Nat.add_zero, hw]; exact hs i v hi
  have := run_loadCells_seg (P := P) (m * sz) 0 news #[] hs' h.1
  show (loadCellsFrom ⟨b, off, none⟩ 0 (m * sz) #[]).run P w' = _
  rw [this]
  simp
theorem Src.string {P : Program} {w : World} {s : ByteArray} : Src P w 1 (.string s) s.size (s.data.toList.map fun b => .int .u8 b.toNat) := by
 refine ⟨rfl, by rw [List.length_map, Nat.mul_one]; rfl, fun v hv => ?_, fun w' _ => ?_⟩
 ·obtain ⟨b, _, rfl⟩ := List.mem_map.1 hv; rfl
 ·have : s.extract 0 s.size = s := by
   apply ByteArray.ext
   rw [ByteArray.data_extract]
   have : s.size = s.data.size := rfl
   rw [this, Array.extract_size]
  simp only [Builtin.firstCells, this, Sem.run_pure]
  congr 1
  apply Array.ext'
  simp
theorem Src.cells {P : Program} {w w' : World} {sz m : Nat} {x : Value} {news : List Value} (h : Src P w sz x m news) (hw : ∀ a, w'.cell? a = w.cell? a) : (Builtin.firstCells sz m x).run P w' = .ok news.toArray w' := h.2.2.2 w' hw
theorem run_appG (hI : I.Ok P) {t t2 ty e : Nat} {y y2 g : TI} (hy : lkT I t = some y) (he : y.desc = .slice e) (hg : lkT I e = some g) (hy2 : lkT I t2 = some y2) (hd2 : (∃ e2, y2.desc = .slice e2) ∨ y2.desc = .string)
  (hz : (cellsOf g.zero).length = g.size) (hz0 : 0 < g.size) {p : Option Addr} {n c : Nat} {xs : List Value} (hsl : Sl w p n g.size xs) {x : Value} {m : Nat} {news : List Value} (hsrc : Src P w g.size x m news)
  (hm : n + m ≤ maxLen) (hb : (n + m) * g.bytes ≤ 140737488355328) (hgr : c < n + m) :
  ∃ c' w', (Builtin.append_ #[t, t2] ty #[.slice p n c, x]).run P w = .ok (.slice (some ⟨w.heap.size, 0, none⟩) (n + m) c') w' ∧ Own w' (some ⟨w.heap.size, 0, none⟩) (n + m) c' e g.size (xs ++ news) ∧ Ext No w w' := by
 have hu := (hI.get hy).under w
 rw [he] at hu
 have hs := (hI.get hg).sizeOf w
 have hu2 := (hI.get hy2).under w
 obtain ⟨i, hi, i1, i2, i3⟩ := TI.Ok.info (hI.get hg)
 have hxl := hsl.1
 unfold maxLen at hm
 have hlen := hsrc.1
 unfold Builtin.append_
 simp only [List.getElem?_toArray, List.getElem?_cons_zero, List.getElem?_cons_succ]
 rw [run_under_bind hu]
 simp only []
 rw [Sem.run_bind, hs, Result.andThen_ok]
 rw [run_under_bind hu2]
 rcases hd2 with ⟨e2, h2⟩ | h2 <;> rw [h2] <;> simp only [pure_bind, Bool.false_eq_true, if_false, Bool.not_false, if_true, hlen]
 all_goals
  have hfit : ¬ (n + m ≤ c) := by omega
  skip
  ·rw [if_neg hfit]
   have h63 : ¬ ((n + m : Nat) : Int) > IntKind.i64.max := by
    show ¬ ((n + m : Nat) : Int) > 2 ^ (64 - 1) - 1
    omega
   have h48 : ¬ Builtin.nextslicecap (n + m) c * i.bytes > 2 ^ 48 := by
    have := growslice_fits (need := n + m) (old := c) (bytes := i.bytes) (by omega) (by rw [i2]; exact hb)
    simp only [gt_iff_lt, Nat.not_lt]
    exact this
   have hnc : (choose (.appendCap (n + m) c e)).run P w = .ok (grownCap w (n + m) c e) w.drew := by
    simp [Question.forced, grownCap]
   have hbytes : ∀ w : World, (typeInfo e).run P w = .ok i w := fun w => by unfold typeInfo; simp [hi]
   have hold : (Builtin.firstCells g.size n (.slice p n c)).run P w.drew = .ok xs.toArray w.drew := by
    rcases hsl.2 with h0 | ⟨b, off, rfl, hs0⟩
    ·have : xs = [] := by rw [h0] at hxl; simpa using hxl
     subst this; subst h0
     cases p with
     | none => rfl
     | some a =>
      unfold Builtin.firstCells loadCells
      rw [Nat.zero_mul]
      rfl
    ·have hs' : Seg w.drew b (off + 0) xs := hs0
     have := run_loadCells_seg (P := P) (n * g.size) 0 xs #[] hs' hxl
     show (loadCellsFrom ⟨b, off, none⟩ 0 (n * g.size) #[]).run P w.drew = _
     rw [this]
     simp
   have hge : n + m ≤ grownCap w (n + m) c e := by
    unfold grownCap Question.cut
    exact Nat.le_add_right _ _
   have hgm : grownCap w (n + m) c e ≤ maxLen := grownCap_le_maxLen w _ _ _ (by unfold maxLen; omega)
   refine ⟨grownCap w (n + m) c e, w.drew.alloc (.cells (xs ++ news ++ rep (grownCap w (n + m) c e - (n + m)) (cellsOf g.zero)).toArray e), ?_, .inr ⟨_, _, rfl, alloc_blk w.drew _ e, ?_, hge, hgm, ?_⟩, ?_⟩
   ·simp only [Sem.run_bind, hbytes, Result.andThen_ok, Sem.run_ite, h63, false_and, h48, if_false, hnc, run_askRoom, hold, hsrc.cells (w' := w.drew) (fun _ => rfl), (hI.get hg).zeroValue, Sem.run_pure, newRow, run_newObj]
    rw [show g.zero.cells = (cellsOf g.zero).toArray from by rw [← cellsOf_eq], zeroCells_rep _ _ (by omega)]
    simp only [List.append_toArray]
    rfl
   ·rw [List.length_append, List.length_append, rep_length, hz, hxl, hsrc.2.1, ← Nat.add_mul, ← Nat.add_mul]
    congr 1
    omega
   ·rw [Nat.add_mul, ← hxl, ← hsrc.2.1, ← List.length_append, List.take_left]
   ·exact (Ext.drew w).then (Ext.alloc w.drew _ e)
theorem run_app (hI : I.Ok P) {t t2 ty e : Nat} {y y2 g : TI} (hy : lkT I t = some y) (he : y.desc = .slice e) (hg : lkT I e = some g) (hy2 : lkT I t2 = some y2) (hd2 : (∃ e2, y2.desc = .slice e2) ∨ y2.desc = .string)
  (hz : (cellsOf g.zero).length = g.size) (hz0 : 0 < g.size) {p : Option Addr} {n c : Nat} {xs : List Value} (hown : Own w p n c e g.size xs) {x : Value} {m : Nat} {news : List Value} (hsrc : Src P w g.size x m news)
  (hm : n + m ≤ maxLen) (hb : (n + m) * g.bytes ≤ 140737488355328) :
  ∃ p' c' w', (Builtin.append_ #[t, t2] ty #[.slice p n c, x]).run P w = .ok (.slice p' (n + m) c') w' ∧ Own w' p' (n + m) c' e g.size (xs ++ news) ∧ Ext (OwnB p) w w' ∧ (∀ b, OwnB p' b → OwnB p b ∨ w.heap.size ≤ b) ∧ (n + m = 0 ∨ p' ≠ none) := by
 have hu := (hI.get hy).under w
 rw [he] at hu
 have hs := (hI.get hg).sizeOf w
 have hu2 := (hI.get hy2).under w
 obtain ⟨i, hi, i1, i2, i3⟩ := TI.Ok.info (hI.get hg)
 have hcap := hown.cap
 have hxl := hown.len
 unfold maxLen at hm
 have hlen := hsrc.1
 unfold Builtin.append_
 simp only [List.getElem?_toArray, List.getElem?_cons_zero, List.getElem?_cons_succ]
 rw [run_under_bind hu]
 simp only []
 rw [Sem.run_bind, hs, Result.andThen_ok]
 rw [run_under_bind hu2]
 rcases hd2 with ⟨e2, h2⟩ | h2 <;> rw [h2] <;> simp only [pure_bind, Bool.false_eq_true, if_false, Bool.not_false, if_true, hlen]
 all_goals
  by_cases hfit : n + m ≤ c
  ·rw [if_pos hfit]
   simp only [Sem.run_bind, hsrc.cells (fun _ => rfl), Result.andThen_ok]
   rcases hown with ⟨rfl, rfl, rfl, rfl⟩ | ⟨b, l, rfl, hblk, hl, hn, hcm, htk⟩
   ·have hm0 : m = 0 := by omega
    subst hm0
    have : news = [] := by have := hsrc.2.1; simpa using this
    subst this
    exact ⟨none, 0, w, by simp, .inl ⟨rfl, rfl, rfl, rfl⟩, Ext.refl _ _, fun b hb => .inl hb, .inl rfl⟩
   ·have hroom : n * g.size + news.length ≤ l.length := by
     rw [hsrc.2.1, hl, ← Nat.add_mul]; exact Nat.mul_le_mul_right _ hfit
    obtain ⟨w', hr, hb', hE, hsz⟩ := run_storeCells_blk (P := P) news w l (n * g.size) 0 hblk (by omega) hsrc.2.2.1
    refine ⟨some ⟨b, 0, none⟩, c, w', ?_, .inr ⟨b, _, rfl, hb', by rw [put_length, hl], hfit, hcm, ?_⟩, hE.mono ?_, fun x hx => .inl hx, .inr (by simp)⟩
    ·have ha : (⟨b, 0, none⟩ : Addr).add (n * g.size) = ⟨b, n * g.size, none⟩ := by rw [addr_add, Nat.zero_add]
     simp only [ha, Sem.run_bind, hr, Result.andThen_ok, Sem.run_pure]
    ·rw [Nat.add_zero, put_eq _ _ _ hroom, htk, Nat.add_mul, ← hsrc.2.1]
     rw [show n * g.size + news.length = (xs ++ news).length from by simp [hxl]]
     rw [List.take_left]
    ·intro x _ hx
     subst hx
     rfl
  ·rw [if_neg hfit]
   have h63 : ¬ ((n + m : Nat) : Int) > IntKind.i64.max := by
    show ¬ ((n + m : Nat) : Int) > 2 ^ (64 - 1) - 1
    omega
   have h48 : ¬ Builtin.nextslicecap (n + m) c * i.bytes > 2 ^ 48 := by
    have := growslice_fits (need := n + m) (old := c) (bytes := i.bytes) (by omega) (by rw [i2]; exact hb)
    simp only [gt_iff_lt, Nat.not_lt]
    exact this
   have hnc : (choose (.appendCap (n + m) c e)).run P w = .ok (grownCap w (n + m) c e) w.drew := by
    simp [Question.forced, grownCap]
   have hbytes : ∀ w : World, (typeInfo e).run P w = .ok i w := fun w => by unfold typeInfo; simp [hi]
   have hold : (Builtin.firstCells g.size n (.slice p n c)).run P w.drew = .ok xs.toArray w.drew := by
    rcases hown with ⟨rfl, rfl, rfl, rfl⟩ | ⟨b, l, rfl, hblk, hl, hn, hcm, htk⟩
    ·rfl
    ·have hs' : Seg w.drew b (0 + 0) xs := by subst htk; exact hblk.seg.take _
     have := run_loadCells_seg (P := P) (n * g.size) 0 xs #[] hs' hxl
     show (loadCellsFrom ⟨b, 0, none⟩ 0 (n * g.size) #[]).run P w.drew = _
     rw [this]
     simp
   have hge : n + m ≤ grownCap w (n + m) c e := by
    unfold grownCap Question.cut
    exact Nat.le_add_right _ _
   have hgm : grownCap w (n + m) c e ≤ maxLen := grownCap_le_maxLen w _ _ _ (by unfold maxLen; omega)
   refine ⟨some ⟨w.heap.size, 0, none⟩, grownCap w (n + m) c e, w.drew.alloc (.cells (xs ++ news ++ rep (grownCap w (n + m) c e - (n + m)) (cellsOf g.zero)).toArray e), ?_, .inr ⟨_, _, rfl, alloc_blk w.drew _ e, ?_, hge, hgm, ?_⟩, ?_, fun b hb => .inr ?_, .inr (by simp)⟩
   ·simp only [Sem.run_bind, hbytes, Result.andThen_ok, Sem.run_ite, h63, false_and, h48, if_false, hnc, run_askRoom, hold, hsrc.cells (w' := w.drew) (fun _ => rfl), (hI.get hg).zeroValue, Sem.run_pure, newRow, run_newObj]
    rw [show g.zero.cells = (cellsOf g.zero).toArray from by rw [← cellsOf_eq], zeroCells_rep _ _ (by omega)]
    simp only [List.append_toArray]
    rfl
   ·rw [List.length_append, List.length_append, rep_length, hz, hxl, hsrc.2.1, ← Nat.add_mul, ← Nat.add_mul]
    congr 1
    omega
   ·rw [Nat.add_mul, ← hxl, ← hsrc.2.1, ← List.length_append, List.take_left]
   ·exact ((Ext.drew w).then (Ext.alloc w.drew _ e)).no
   ·simp only [OwnB, Option.some.injEq, Addr.mk.injEq] at hb
    omega
end
section
variable {P : Program} {I : Info} {f : Fs} {ops : Array Oper} {o : Oper} {env : Env} {w : World} {K : Env → World → Prop}
structure AppArgs where
  p : Option Addr
  n : Nat
  c : Nat
  e : Nat
  g : TI
  x : Value
  d : Nat
def slOrStr (D : TypeDesc) : Bool :=
  match D with
  | .slice _ => true
  | .string => true
  | _ => false
def appE (I : Info) (n : Nat) (ops : Array Oper) (env : Env) (o : Oper) : Option AppArgs :=
  match pre n ops env o with
  | false => none
  | true => match o.dst with
    | some d => match o.op with
      | .call { callee := .builtin .append, args := xs, argTypes := ts } => match xs.toList with
        | [s, x] => match ts.toList with
          | [t, t2] => match lkT I t with
            | some y => match y.desc with
              | .slice e => match lkT I e with
                | some g => match lkT I t2 with
                  | some y2 => match slOrStr y2.desc with
                    | true => match evO env s with
                      | some (.slice p m c) => match evO env x with
                        | some v => some ⟨p, m, c, e, g, v, d⟩
                        | none => none
                      | _ => none
                    | false => none
                  | none => none
                | none => none
              | _ => none
            | none => none
          | _ => none
        | _ => none
      | _ => none
    | none => none
theorem slOrStr_eq {D : TypeDesc} (h : slOrStr D = true) : (∃ e, D = .slice e) ∨ D = .string := by
 unfold slOrStr at h
 split at h
 ·exact .inl ⟨_, rfl⟩
 ·exact .inr rfl
 ·cases h
theorem zv2 (hI : I.Ok P) {s : AppArgs} (h : appE I f.n ops env o = some s) (sz by_ : Nat) (hsz : s.g.size = sz) (hby : s.g.bytes = by_) (hz : (cellsOf s.g.zero).length = sz) (hz0 : 0 < sz) {xs : List Value} (hown : Own w s.p s.n s.c s.e sz xs) {m : Nat} {news : List Value} (hsrc : Src P w sz s.x m news)
  (hm : s.n + m ≤ maxLen) (hb : (s.n + m) * by_ ≤ 140737488355328)
  (k : ∀ p' c' w', Own w' p' (s.n + m) c' s.e sz (xs ++ news) → Ext (OwnB s.p) w w' → (∀ b, OwnB p' b → OwnB s.p b ∨ w.heap.size ≤ b) → K ((s.d, .slice p' (s.n + m) c') :: env) w') : St P f ops o env w K := by
 subst hsz
 subst hby
 unfold appE at h
 split at h
 ·cases h
 ·rename_i hp
  obtain ⟨e1, e2⟩ := pre_eq hp
  split at h
  ·rename_i d' hd
   split at h
   ·rename_i xs' ts ho
    split at h
    ·rename_i sx xx hxs
     have hx1 : xs' = #[sx, xx] := by apply Array.ext'; simpa using hxs
     subst hx1
     split at h
     ·rename_i t t2 hts
      have ht1 : ts = #[t, t2] := by apply Array.ext'; simpa using hts
      subst ht1
      split at h
      ·rename_i y hy
       split at h
       ·rename_i e he
        split at h
        ·rename_i g hg
         split at h
         ·rename_i y2 hy2
          split at h
          ·rename_i hss
           split at h
           ·rename_i p n c hs
            split at h
            ·rename_i v hv
             cases h
             simp only at *
             obtain ⟨p', c', w', hr, hown', hE, hB, _⟩ := run_app (P := P) (ty := o.type) hI hy he hg hy2 (slOrStr_eq hss) hz hz0 hown hsrc hm hb
             refine st_v e1 e2 (v := .slice p' (n + m) c') (w' := w') (fun ρ hρ => ?_) (by rw [hd]; exact k p' c' w' hown' hE hB)
             have em : Array.map ρ #[sx, xx] = #[.slice p n c, v] := by simp [hρ _ _ hs, hρ _ _ hv]
             simp only [execOp, ho, resolve, Sem.run_bind, Sem.run_pure, Result.andThen_ok, invoke, builtin, em, hr]
            ·cases h
           ·cases h
          ·cases h
         ·cases h
        ·cases h
       ·cases h
      ·cases h
     ·cases h
    ·cases h
   ·cases h
  ·cases h
structure CpArgs where
  b : Nat
  off : Nat
  n : Nat
  g : TI
  x : Value
  d : Nat
def cpE (I : Info) (n : Nat) (ops : Array Oper) (env : Env) (o : Oper) : Option CpArgs :=
  match pre n ops env o with
  | false => none
  | true => match o.dst with
    | some d => match o.op with
      | .call { callee := .builtin .copy, args := xs, argTypes := ts } => match xs.toList with
        | [s, x] => match ts.toList with
          | [t, _] => match lkT I t with
            | some y => match y.desc with
              | .slice e => match lkT I e with
                | some g => match evO env s with
                  | some (.slice (some ⟨b, off, none⟩) m _) => match evO env x with
                    | some v => some ⟨b, off, m, g, v, d⟩
                    | none => none
                  | _ => none
                | none => none
              | _ => none
            | none => none
          | _ => none
        | _ => none
      | _ => none
    | none => none
theorem st_cp (hI : I.Ok P) {s : CpArgs} (h : cpE I f.n ops env o = some s) (sz : Nat) (hsz : s.g.size = sz) {T : Nat} {l : List Value} (hblk : Blk w s.b T l) {m : Nat} {news : List Value} (hsrc : Src P w sz s.x m news)
  (hm : m ≤ s.n) (hroom : s.off + m * sz ≤ l.length)
  (k : ∀ w', Blk w' s.b T (put l s.off news) → Ext (One s.b) w w' → w'.heap.size = w.heap.size → K ((s.d, .int .i64 (m : Int)) :: env) w') : St P f ops o env w K := by
 subst hsz
 unfold cpE at h
 split at h
 ·cases h
 ·rename_i hp
  obtain ⟨e1, e2⟩ := pre_eq hp
  split at h
  ·rename_i d' hd
   split at h
   ·rename_i xs' ts ho
    split at h
    ·rename_i sx xx hxs
     have hx1 : xs' = #[sx, xx] := by apply Array.ext'; simpa using hxs
     subst hx1
     split at h
     ·rename_i t t2 hts
      have ht1 : ts = #[t, t2] := by apply Array.ext'; simpa using hts
      subst ht1
      split at h
      ·rename_i y hy
       split at h
       ·rename_i e he
        split at h
        ·rename_i g hg
         split at h
         ·rename_i b off n c hs
          split at h
          ·rename_i v hv
           cases h
           simp only at *
           have hu := (hI.get hy).under w
           rw [he] at hu
           have hsz := (hI.get hg).sizeOf w
           have hlen := hsrc.1
           have hmin : Nat.min m n = m := Nat.min_eq_left hm
           obtain ⟨w', hr, hb', hE, hs'⟩ := run_storeCells_blk (P := P) news w l off 0 hblk (by rw [hsrc.2.1]; omega) hsrc.2.2.1
           have hrun : (Builtin.copy_ #[t, t2] o.type #[.slice (some ⟨b, off, none⟩) n c, v]).run P w = .ok (.int .i64 (m : Int)) w' := by
            unfold Builtin.copy_
            simp only [List.getElem?_toArray, List.getElem?_cons_zero, List.getElem?_cons_succ]
            rw [run_under_bind hu]
            simp only [hlen, pure_bind, hmin, Sem.run_bind, hsz, Result.andThen_ok, hsrc.cells (fun _ => rfl), hr, Sem.run_pure, goInt]
           refine st_v e1 e2 (v := .int .i64 (m : Int)) (w' := w') (fun ρ hρ => ?_) (by rw [hd]; exact k w' hb' hE hs')
           have em : Array.map ρ #[sx, xx] = #[.slice (some ⟨b, off, none⟩) n c, v] := by simp [hρ _ _ hs, hρ _ _ hv]
           simp only [execOp, ho, resolve, Sem.run_bind, Sem.run_pure, Result.andThen_ok, invoke, builtin, em, hrun]
          ·cases h
         ·cases h
        ·cases h
       ·cases h
      ·cases h
     ·cases h
    ·cases h
   ·cases h
  ·cases h
/-! ### Literals -/
abbrev Parts := List (Nat × Nat × Value)
def putAll (z : List Value) : Parts → List Value
  | [] => z
  | (off, _, v) :: r => putAll (put z off (cellsOf v)) r
def partsOk (n : Nat) : Parts → Prop
  | [] => True
  | (off, sz, v) :: r => ((cellsOf v).length = sz ∧ off + sz ≤ n) ∧ partsOk n r
def placed (place : Nat → Option (Nat × Nat)) (env : Env) : List (Nat × Operand) → Option Parts
  | [] => some []
  | (i, x) :: r => match place i with
    | some (off, sz) => match evO env x with
      | some v => match placed place env r with
        | some l => some ((off, sz, v) :: l)
        | none => none
      | none => none
    | none => none
theorem foldl_put : ∀ (vs : List Value) (cs : Array Value) (off j : Nat),
  ((vs.zipIdx j).foldl (fun cs (x : Value × Nat) => cs.setIfInBounds (off + x.2) x.1) cs).toList = put cs.toList (off + j) vs
 | [], cs, off, j => rfl
 | v :: r, cs, off, j => by
  simp only [List.zipIdx_cons, List.foldl_cons]
  rw [foldl_put r]
  simp [put, Nat.add_assoc]
theorem fill_placed {place : Nat → Option (Nat × Nat)} {env : Env} {ρ : Operand → Value} (hρ : ∀ x u, evO env x = some u → ρ x = u) : ∀ (l : List (Nat × Operand)) (ps : Parts) (z : List Value), placed place env l = some ps → partsOk z.length ps →
  Instr.fill place z.toArray (l.map fun (i, x) => (i, ρ x)) = some (putAll z ps).toArray
 | [], ps, z, h, _ => by simp [placed] at h; subst h; rfl
 | (i, x) :: r, ps, z, h, hok => by
  simp only [placed] at h
  split at h
  ·rename_i off sz hpl
   split at h
   ·rename_i v hv
    split at h
    ·rename_i l' hl'
     cases h
     obtain ⟨⟨h1, h2⟩, h3⟩ := hok
     simp only [List.map_cons, Instr.fill, hpl, hρ _ _ hv]
     have e1 : v.cells.size = sz := by rw [cellsOf_size]; exact h1
     have hcond : (decide (v.cells.size ≠ sz) || decide (off + v.cells.size > z.toArray.size)) = false := by
      simp [e1]; omega
     rw [show (v.cells.size ≠ sz || off + v.cells.size > z.toArray.size) = (decide (v.cells.size ≠ sz) || decide (off + v.cells.size > z.toArray.size)) from rfl, hcond]
     simp only [Bool.false_eq_true, if_false]
     have e2 : (v.cells.zipIdx.foldl (fun cs (x : Value × Nat) => cs.setIfInBounds (off + x.2) x.1) z.toArray) = (put z off (cellsOf v)).toArray := by
      apply Array.ext'
      rw [← Array.foldl_toList, Array.toList_zipIdx, foldl_put]
      simp [cellsOf_eq]
     rw [e2]
     exact fill_placed hρ r l' _ hl' (by rw [put_length]; exact h3)
    ·cases h
   ·cases h
  ·cases h
def fieldPlaces (I : Info) : List Field → Option (List (Nat × Nat))
  | [] => some []
  | g :: r => match lkT I g.type with
    | some y => match y.size with
      | 0 => none
      | m + 1 => match fieldPlaces I r with
        | some l => some ((g.offset, m + 1) :: l)
        | none => none
    | none => none
theorem run_places {P : Program} {I : Info} (hI : I.Ok P) (w : World) : ∀ (fs : List Field) (l : List (Nat × Nat)), fieldPlaces I fs = some l → (fs.mapM fun f => do pure (f.offset, ← sizeOf f.type) : Sem (List (Nat × Nat))).run P w = .ok l w
 | [], l, h => by simp [fieldPlaces] at h; subst h; rfl
 | g :: r, l, h => by
  simp only [fieldPlaces] at h
  split at h
  ·rename_i y hy
   split at h
   ·cases h
   ·rename_i m hm
    split at h
    ·rename_i l' hl'
     cases h
     simp only [List.mapM_cons, Sem.run_bind, Sem.run_pure, (hI.get hy).sizeOf w, Result.andThen_ok, run_places hI w r l' hl', hm]
    ·cases h
  ·cases h
def bdE (I : Info) (n : Nat) (ops : Array Oper) (env : Env) (o : Oper) : Option (List Value × Parts × Nat) :=
  match pre n ops env o with
  | false => none
  | true => match o.dst with
    | some d => match o.op with
      | .build t ps => match lkT I t with
        | some y => match y.desc with
          | .struct fs => match fieldPlaces I fs.toList with
            | some l => match placed (l[·]?) env ps.toList with
              | some q => some (cellsOf y.zero, q, d)
              | none => none
            | none => none
          | .array _ e => match lkT I e with
            | some g => match g.size with
              | 0 => none
              | m + 1 => match placed (fun i => some (i * (m + 1), m + 1)) env ps.toList with
                | some q => some (cellsOf y.zero, q, d)
                | none => none
            | none => none
          | _ => none
        | none => none
      | _ => none
    | none => none
theorem ov_bd (hI : I.Ok P) {n d : Nat} {z : List Value} {q : Parts} (h : bdE I n ops env o = some (z, q, d)) (hok : partsOk z.length q) : takes ops env o = true ∧ dOk n o.dst = true ∧ o.dst = some d ∧ Ov P o env w (.agg (putAll z q).toArray) w := by
 unfold bdE at h
 split at h
 ·cases h
 ·rename_i hp
  obtain ⟨e1, e2⟩ := pre_eq hp
  split at h
  ·rename_i d' hd
   split at h
   ·rename_i t ps ho
    split at h
    ·rename_i y hy
     have hu := (hI.get hy).under w
     have hz := (hI.get hy).zeroValue w
     split at h
     ·rename_i fs hfs
      split at h
      ·rename_i l hl
       split at h
       ·rename_i q' hq
        cases h
        refine ⟨e1, e2, hd, fun ρ hρ => ?_⟩
        have hf := fill_placed hρ ps.toList q _ hq hok
        rw [hfs] at hu
        have hpl : (fs.mapM fun f => do pure (f.offset, ← sizeOf f.type) : Sem (Array (Nat × Nat))).run P w = .ok l.toArray w := by
         have := run_places hI w fs.toList l hl
         rw [Array.mapM_eq_mapM_toList, Sem.run_map, this]
         rfl
        have em : (ps.map fun (i, x) => (i, ρ x)).toList = ps.toList.map fun (i, x) => (i, ρ x) := by simp
        have ez : y.zero.cells = (cellsOf y.zero).toArray := by rw [← cellsOf_eq]
        simp only [execOp, ho, Instr.build, Sem.run_bind, hz, hu, Result.andThen_ok, hpl, em, ez, List.getElem?_toArray]
        rw [hf]
        rfl
       ·cases h
      ·cases h
     ·rename_i len e he
      split at h
      ·rename_i g hg
       split at h
       ·cases h
       ·rename_i m hm
        split at h
        ·rename_i q' hq
         cases h
         refine ⟨e1, e2, hd, fun ρ hρ => ?_⟩
         have hf := fill_placed hρ ps.toList q _ hq hok
         rw [he] at hu
         have hs := (hI.get hg).sizeOf w
         have em : (ps.map fun (i, x) => (i, ρ x)).toList = ps.toList.map fun (i, x) => (i, ρ x) := by simp
         have ez : y.zero.cells = (cellsOf y.zero).toArray := by rw [← cellsOf_eq]
         simp only [execOp, ho, Instr.build, Sem.run_bind, hz, hu, Result.andThen_ok, hs, hm, em, ez]
         rw [hf]
         rfl
        ·cases h
      ·cases h
     ·cases h
    ·cases h
   ·cases h
  ·cases h
theorem st_bd (hI : I.Ok P) {d : Nat} {z l' : List Value} {q : Parts} (h : bdE I f.n ops env o = some (z, q, d)) (hok : partsOk z.length q) (hl : putAll z q = l')
  (k : K ((d, .agg l'.toArray) :: env) w) : St P f ops o env w K := by
 obtain ⟨h1, h2, hd, hv⟩ := ov_bd (w := w) hI h hok
 subst hl
 exact st_v h1 h2 hv (by rw [hd]; exact k)
def bsE (I : Info) (n : Nat) (ops : Array Oper) (env : Env) (o : Oper) : Option (Nat × TI × Nat × Parts × Nat) :=
  match pre n ops env o with
  | false => none
  | true => match o.dst with
    | some d => match o.op with
      | .buildSlice t len ps => match lkT I t with
        | some y => match y.desc with
          | .slice e => match lkT I e with
            | some g => match g.size with
              | 0 => none
              | m + 1 => match placed (fun i => some (i * (m + 1), m + 1)) env ps.toList with
                | some q => some (e, g, len, q, d)
                | none => none
            | none => none
          | _ => none
        | none => none
      | _ => none
    | none => none
theorem st_bs (hI : I.Ok P) {e len d : Nat} {g : TI} {q : Parts} {l' : List Value} (h : bsE I f.n ops env o = some (e, g, len, q, d)) (sz : Nat) {zs : List Value} (hsz : g.size = sz) (hzs : cellsOf g.zero = zs) (hz : zs.length = sz) (hz0 : 0 < sz) (hlen : len * sz ≤ 16777216)
  (hok : partsOk (len * sz) q) (hl : putAll (rep len zs) q = l')
  (k : ∀ (b : Nat) w', w.heap.size ≤ b → Blk w' b e l' → Ext No w w' → w'.heap.size = w.heap.size + 1 → K ((d, .slice (some ⟨b, 0, none⟩) len len) :: env) w') : St P f ops o env w K := by
 subst hsz
 subst hzs
 unfold bsE at h
 split at h
 ·cases h
 ·rename_i hp
  obtain ⟨e1, e2⟩ := pre_eq hp
  split at h
  ·rename_i d' hd
   split at h
   ·rename_i t len' ps ho
    split at h
    ·rename_i y hy
     have hu := (hI.get hy).under w
     split at h
     ·rename_i e' he
      split at h
      ·rename_i g' hg
       split at h
       ·cases h
       ·rename_i m hmg
        split at h
        ·rename_i q' hq
         cases h
         rw [he] at hu
         rw [show m + 1 = g.size from hmg.symm] at hq
         have hs := (hI.get hg).sizeOf w
         have hzv := (hI.get hg).zeroValue w
         have hcells : (Array.range (len * g.size)).map ((if len * g.size = 0 then #[] else (cellsOf g.zero).toArray : Array Value)[· % (if len * g.size = 0 then #[] else (cellsOf g.zero).toArray : Array Value).size]!) = (rep len (cellsOf g.zero)).toArray := by
          by_cases h0 : len * g.size = 0
          ·have : len = 0 := by
            rcases Nat.mul_eq_zero.1 h0 with h' | h'
            ·exact h'
            ·omega
           subst this
           simp [rep]
          ·rw [if_neg h0]
           have := madeCells_rep (cellsOf g.zero) len (by omega)
           rw [hz] at this
           exact this
         have hlim : ¬ len * g.size > 2 ^ 24 := by
          have : (2 : Nat) ^ 24 = 16777216 := by decide
          omega
         refine st_v e1 e2 (v := .slice (some ⟨w.heap.size, 0, none⟩) len len) (w' := w.alloc (.cells (putAll (rep len (cellsOf g.zero)) q).toArray e)) (fun ρ hρ => ?_) ?_
         ·have hf := fill_placed hρ ps.toList q (rep len (cellsOf g.zero)) hq (by rw [rep_length, hz]; exact hok)
          have em : (ps.map fun (i, x) => (i, ρ x)).toList = ps.toList.map fun (i, x) => (i, ρ x) := by simp
          have hf' : Instr.fill (fun i => some (i * g.size, g.size)) (rep len (cellsOf g.zero)).toArray (List.map (fun x => (x.fst, ρ x.snd)) ps.toList) = some (putAll (rep len (cellsOf g.zero)) q).toArray := hf
          by_cases h0 : len * g.size = 0
          ·simp only [if_pos h0] at hcells
           simp only [execOp, ho, Instr.buildSlice, Sem.run_bind, hu, hs, Result.andThen_ok, hlim, if_false, em, if_pos h0, pure_bind]
           rw [hcells, hf']
           simp [newRow]
          ·simp only [if_neg h0] at hcells
           simp only [execOp, ho, Instr.buildSlice, Sem.run_bind, hu, hs, Result.andThen_ok, hlim, if_false, em, if_neg h0, hzv, pure_bind]
           rw [show g.zero.cells = (cellsOf g.zero).toArray from by rw [← cellsOf_eq], hcells, hf']
           simp [newRow]
         ·rw [hd]
          subst hl
          exact k _ _ (Nat.le_refl _) (alloc_blk _ _ _) (Ext.alloc _ _ _) (by simp)
        ·cases h
      ·cases h
     ·cases h
    ·cases h
   ·cases h
  ·cases h
end
section
variable {P : Program} {I : Info} {f : Fs} {ops : Array Oper} {o : Oper} {env : Env} {w : World} {K : Env → World → Prop}
def eqE (I : Info) (n : Nat) (ops : Array Oper) (env : Env) (o : Oper) : Option (Nat × Nat × IntKind × Bool × Value × Value × Nat) :=
  match pre n ops env o with
  | false => none
  | true => match o.dst with
    | some d => match o.op with
      | .binOp op t x y _ => match lkT I t with
        | some g => match g.desc with
          | .array m e => match lkT I e with
            | some h => match h.desc with
              | .int k => match h.size with
                | 1 => match evO env x with
                  | some a => match evO env y with
                    | some b => match op with
                      | .eql => some (t, m, k, true, a, b, d)
                      | .neq => some (t, m, k, false, a, b, d)
                      | _ => none
                    | none => none
                  | none => none
                | _ => none
              | _ => none
            | none => none
          | _ => none
        | none => none
      | _ => none
    | none => none
/-! ### An element of an array's value, a byte of a string -/
def idE (I : Info) (n : Nat) (ops : Array Oper) (env : Env) (o : Oper) : Option (List Value × Nat × Option Nat × Int × Nat) :=
  match pre n ops env o with
  | false => none
  | true => match o.dst with
    | some d => match o.op with
      | .index t x j => match lkT I t with
        | some y => match evO env j with
          | some (.int _ i) => match y.desc with
            | .array len e => match lkT I e with
              | some z => match evO env x with
                | some (.agg cs) => match z.isAgg with
                  | true => some (cs.toList, len, some z.size, i, d)
                  | false => match z.size with
                    | 1 => some (cs.toList, len, none, i, d)
                    | _ => none
                | _ => none
              | none => none
            | _ => none
          | _ => none
        | none => none
      | _ => none
    | none => none
def isE (I : Info) (n : Nat) (ops : Array Oper) (env : Env) (o : Oper) : Option (ByteArray × Int × Nat) :=
  match pre n ops env o with
  | false => none
  | true => match o.dst with
    | some d => match o.op with
      | .index t x j => match lkT I t with
        | some y => match y.desc with
          | .string => match evO env j with
            | some (.int _ i) => match evO env x with
              | some (.string s) => some (s, i, d)
              | _ => none
            | _ => none
          | _ => none
        | none => none
      | _ => none
    | none => none
theorem st_id (hI : I.Ok P) {cs : List Value} {len d : Nat} {m : Option Nat} {i : Int} (h : idE I f.n ops env o = some (cs, len, m, i, d)) (j : Nat) (hj : i = (j : Int)) (hlt : j < len) {v : Value}
  (hv : (m = none ∧ cs[j]? = some v) ∨ (∃ n l', m = some n ∧ (cs.drop (j * n)).take n = l' ∧ v = .agg l'.toArray)) (k : K ((d, v) :: env) w) : St P f ops o env w K := by
 subst hj
 unfold idE at h
 split at h
 ·cases h
 ·rename_i hp
  obtain ⟨e1, e2⟩ := pre_eq hp
  split at h
  ·rename_i d' hd
   split at h
   ·rename_i t x jx ho
    split at h
    ·rename_i y hy
     split at h
     ·rename_i kk i' hjx
      split at h
      ·rename_i len' e he
       split at h
       ·rename_i z hz
        split at h
        ·rename_i cs' hx
         have hu := (hI.get hy).under w
         rw [he] at hu
         have hs := (hI.get hz).sizeOf w
         have ha := (hI.get hz).isAgg w
         have hlt' : (0 : Int) ≤ (j : Int) ∧ (j : Int) < (len : Int) := by omega
         split at h
         ·rename_i hagg
          cases h
          rw [hagg] at ha
          rcases hv with ⟨hm, _⟩ | ⟨n, l', hm, hl, rfl⟩
          ·cases hm
          ·cases hm
           refine st_v e1 e2 (w' := w) (fun ρ hρ => ?_) (by rw [hd]; exact k)
           have e : cs'.extract (j * z.size) (j * z.size + z.size) = l'.toArray := by
            apply Array.ext'
            rw [Array.toList_extract, List.extract_eq_take_drop, Nat.add_sub_cancel_left]
            exact hl
           simp only [execOp, ho, hρ _ _ hx, hρ _ _ hjx, Instr.index, asIntOf, Sem.run_bind, Sem.run_pure, Result.andThen_ok, hu, hlt', and_self, if_true, hs, part, ha, Int.toNat_natCast, e]
         ·rename_i hagg
          split at h
          ·rename_i hsz
           cases h
           rw [hagg] at ha
           rw [hsz] at hs
           rcases hv with ⟨_, hv⟩ | ⟨n, l', hm, _⟩
           ·refine st_v e1 e2 (w' := w) (fun ρ hρ => ?_) (by rw [hd]; exact k)
            have hv' : cs'[j]? = some v := by simpa using hv
            simp only [execOp, ho, hρ _ _ hx, hρ _ _ hjx, Instr.index, asIntOf, Sem.run_bind, Sem.run_pure, Result.andThen_ok, hu, hlt', and_self, if_true, hs, part, ha, Int.toNat_natCast, Nat.mul_one]
            simp [hv']
           ·cases hm
          ·cases h
        ·cases h
       ·cases h
      ·cases h
     ·cases h
    ·cases h
   ·cases h
  ·cases h
theorem st_is (hI : I.Ok P) {s : ByteArray} {d : Nat} {i : Int} (h : isE I f.n ops env o = some (s, i, d)) (j : Nat) (hj : i = (j : Int)) {c : UInt8} (hc : s.data.toList[j]? = some c) (k : K ((d, .int .u8 (c.toNat : Int)) :: env) w) : St P f ops o env w K := by
 subst hj
 unfold isE at h
 split at h
 ·cases h
 ·rename_i hp
  obtain ⟨e1, e2⟩ := pre_eq hp
  split at h
  ·rename_i d' hd
   split at h
   ·rename_i t x jx ho
    split at h
    ·rename_i y hy
     split at h
     ·rename_i he
      split at h
      ·rename_i kk i' hjx
       split at h
       ·rename_i s' hx
        cases h
        have hu := (hI.get hy).under w
        rw [he] at hu
        refine st_v e1 e2 (w' := w) (fun ρ hρ => ?_) (by rw [hd]; exact k)
        have hlt : j < s.data.toList.length := by
         rcases Nat.lt_or_ge j s.data.toList.length with h' | h'
         ·exact h'
         ·rw [List.getElem?_eq_none h'] at hc; cases hc
        have hlt' : j < s.size := by rw [Array.length_toList] at hlt; exact hlt
        have hc' : s[j]? = some c := by
         rw [getElem?_pos s j hlt']
         rw [List.getElem?_eq_getElem hlt] at hc
         exact hc
        simp only [execOp, ho, hρ _ _ hx, hρ _ _ hjx, Instr.index, asIntOf, Sem.run_bind, Sem.run_pure, Result.andThen_ok, hu, Int.natCast_nonneg, if_true, Int.toNat_natCast, hc']
       ·cases h
      ·cases h
     ·cases h
    ·cases h
   ·cases h
  ·cases h
/-! ### Results, some of them in variables -/
def ResAt (P : Program) (env : Env) (w : World) : ResultVar → Value → Prop
  | .tmp t, v => lk env t = some v
  | .cell a t, v => ∃ b off, lk env a = some (.pointer (some ⟨b, off, none⟩)) ∧ (loadVar t ⟨b, off, none⟩).run P w = .ok v w
def ResAll (P : Program) (env : Env) (w : World) : List ResultVar → List Value → Prop
  | [], [] => True
  | r :: rs, v :: vs => ResAt P env w r v ∧ ResAll P env w rs vs
  | _, _ => False
def tupV : List Value → Value
  | [v] => v
  | vs => .tuple vs.toArray
theorem ld_all (hI : I.Ok P) {t b off : Nat} {y : TI} {l : List Value} (hy : lkT I t = some y) (ha : y.isAgg = true) (hs : Seg w b off l) (hl : l.length = y.size) : (loadVar t ⟨b, off, none⟩).run P w = .ok (.agg l.toArray) w := by
 have h4 := (hI.get hy).isAgg w
 rw [ha] at h4
 have h5 := (hI.get hy).sizeOf w
 have h6 := run_loadCells_seg (P := P) (w := w) (b := b) (off := off) y.size 0 l #[] (by simpa using hs) hl
 simp only [loadVar, Sem.run_bind, Result.andThen_ok, h4, if_true, h5, loadCells, h6]
 simp
theorem run_results {n : Nat} {a : Act} (ha : Ag ⟨n, []⟩ env a) : ∀ (rs : List ResultVar) (vs : List Value), ResAll P env w rs vs →
  (rs.mapM fun
   | .tmp t => pure (a.tmps.getD t undef)
   | .cell x t => do loadVar t (← asAddr (a.tmps.getD x undef)) : Sem (List Value)).run P w = .ok vs w
 | [], [], _ => rfl
 | [], _ :: _, h => h.elim
 | _ :: _, [], h => h.elim
 | r :: rs, v :: vs, h => by
  obtain ⟨h1, h2⟩ := h
  have ih := run_results ha rs vs h2
  rw [List.mapM_cons, Sem.run_bind]
  cases r with
  | tmp t =>
   have : a.tmps.getD t undef = v := by
    have := ha.get _ _ h1
    simp [this]
   simp only [this, Sem.run_pure, Result.andThen_ok, Sem.run_bind]
   rw [ih]
   rfl
  | cell x t =>
   obtain ⟨b, off, hx, hld⟩ := h1
   have : a.tmps.getD x undef = .pointer (some ⟨b, off, none⟩) := by
    have := ha.get _ _ hx
    simp [this]
   have hA : asAddr (.pointer (some ⟨b, off, none⟩)) = pure ⟨b, off, none⟩ := rfl
   simp only [this, hA, Sem.run_pure, Result.andThen_ok, Sem.run_bind, hld]
   rw [ih]
   rfl
theorem f_ret {n : Nat} {fn : Func} {R : Value → World → Prop} (vs : List Value) (h : ResAll P env w fn.results.toList vs) (hR : R (tupV vs) w) : Fin ⟨n, []⟩ (bodyPost P fn (Rv R)) .ret env w := by
 intro a ha
 have hr := run_results ha _ _ h
 refine ⟨ha.defers, tupV vs, ?_, hR⟩
 unfold results
 rw [Array.mapM_eq_mapM_toList, Sem.run_bind, Sem.run_map]
 erw [hr]
 simp only [Result.andThen_ok, Sem.run_pure]
 congr 1
 cases vs with
 | nil => rfl
 | cons v r => cases r <;> simp [tupV]
end
def Uni (m : Nat) (L : List (List Value)) : Prop := ∀ r ∈ L, r.length = m
theorem Uni.nil (m : Nat) : Uni m [] := fun _ h => by cases h
theorem Uni.get {m : Nat} {L : List (List Value)} (h : Uni m L) {i : Nat} {r : List Value} (hi : L[i]? = some r) : r.length = m := h r (List.mem_of_getElem? hi)
theorem Uni.take {m : Nat} {L : List (List Value)} (h : Uni m L) (i : Nat) : Uni m (L.take i) := fun x hx => h x (List.mem_of_mem_take hx)
theorem Uni.map {α : Type} {m : Nat} {f : α → List Value} {l : List α} (h : ∀ x ∈ l, (f x).length = m) : Uni m (l.map f) := fun r hr => by
 obtain ⟨x, hx, rfl⟩ := List.mem_map.1 hr; exact h x hx
theorem rows_length {m : Nat} : ∀ {L : List (List Value)}, Uni m L → L.flatten.length = L.length * m
 | [], _ => by simp
 | r :: L, h => by
  rw [List.flatten_cons, List.length_append, rows_length (fun x hx => h x (List.mem_cons_of_mem _ hx)), h r (List.mem_cons_self), List.length_cons, Nat.add_mul]
  omega
theorem rows_drop {m : Nat} : ∀ {L : List (List Value)}, Uni m L → ∀ (i : Nat), L.flatten.drop (i * m) = (L.drop i).flatten
 | [], _, i => by simp
 | r0 :: L, h, 0 => by simp
 | r0 :: L, h, i + 1 => by
  have h0 := h r0 (List.mem_cons_self)
  rw [List.flatten_cons, List.drop_append, List.drop_eq_nil_of_le (by rw [h0, Nat.add_mul]; omega), h0]
  rw [show (i + 1) * m - m = i * m from by rw [Nat.add_mul]; omega]
  simpa using rows_drop (fun x hx => h x (List.mem_cons_of_mem _ hx)) i
theorem rows_take {m : Nat} : ∀ {L : List (List Value)}, Uni m L → ∀ (i : Nat), L.flatten.take (i * m) = (L.take i).flatten
 | [], _, i => by simp
 | r0 :: L, h, 0 => by simp
 | r0 :: L, h, i + 1 => by
  have h0 := h r0 (List.mem_cons_self)
  rw [List.flatten_cons, List.take_append, List.take_of_length_le (by rw [h0, Nat.add_mul]; omega), h0]
  rw [show (i + 1) * m - m = i * m from by rw [Nat.add_mul]; omega, rows_take (fun x hx => h x (List.mem_cons_of_mem _ hx)) i]
  simp
theorem rows_put {m : Nat} {L : List (List Value)} (h : Uni m L) {i j : Nat} {r : List Value} (hi : L[i]? = some r) (vs : List Value) (hv : j + vs.length ≤ m) : put L.flatten (i * m + j) vs = (L.set i (put r j vs)).flatten := by
 have hr := h.get hi
 have hlt : i < L.length := by
  rcases Nat.lt_or_ge i L.length with h' | h'
  ·exact h'
  ·rw [List.getElem?_eq_none h'] at hi; cases hi
 have hri : L[i] = r := by rw [List.getElem?_eq_getElem hlt] at hi; simpa using hi
 have hbound : i * m + j + vs.length ≤ L.flatten.length := by
  rw [rows_length h]
  have : (i + 1) * m ≤ L.length * m := Nat.mul_le_mul_right _ hlt
  rw [Nat.add_mul] at this
  omega
 rw [put_eq _ _ _ hbound, put_eq _ _ _ (by omega)]
 have e1 : L.flatten = (L.take i).flatten ++ (r ++ (L.drop (i + 1)).flatten) := by
  rw [← List.flatten_cons, ← List.flatten_append, ← hri, List.getElem_cons_drop, List.take_append_drop]
 have e2 : (L.set i (r.take j ++ vs ++ r.drop (j + vs.length))).flatten = (L.take i).flatten ++ ((r.take j ++ vs ++ r.drop (j + vs.length)) ++ (L.drop (i + 1)).flatten) := by
  rw [List.set_eq_take_append_cons_drop, if_pos hlt, List.flatten_append, List.flatten_cons]
 have el : (L.take i).flatten.length = i * m := by
  rw [rows_length (h.take i), List.length_take, Nat.min_eq_left (by omega)]
 have key : ∀ (A B : List Value), (A ++ (r ++ B)).take (A.length + j) ++ vs ++ (A ++ (r ++ B)).drop (A.length + j + vs.length) = A ++ ((r.take j ++ vs ++ r.drop (j + vs.length)) ++ B) := fun A B => by
  rw [Nat.add_assoc, List.take_length_add_append, List.drop_length_add_append, List.take_append_of_le_length (by omega), List.drop_append_of_le_length (by omega)]
  simp [List.append_assoc]
 rw [e2, ← key, ← e1, el]
/-! ### Reads in a region whose order is open -/
section
variable {P : Program} {I : Info} {f : Fs} {ops : Array Oper} {K : Act → World → Prop} {r : Dr} {i : Nat} {o : Oper} {pl : List (Nat × Bool)} {dn : List Nat} {env : Env} {w : World}
theorem pre_mk {n : Nat} (h1 : takes ops env o = true) (h2 : dOk n o.dst = true) : pre n ops env o = true := by simp [pre, h1, h2]
theorem wd_ld (hI : I.Ok P) (ho : ops[i]? = some o) {b off d : Nat} {v : Value} (h : ldE I f.n ops env o = some (b, off, none, d)) (hc : ∀ w', r.C w' → w'.cell? ⟨b, off, none⟩ = some v) (k : WD P f ops K r pl (i :: dn) ((d, v) :: env) w) : WD P f ops K r ((i, true) :: pl) dn env w :=
 have ⟨h1, h2, h3, _⟩ := ldE_eq h
 wd_q ho (pre_mk h1 h2) h3 (fun w' hw' => ov_ld hI h (hc w' hw')) k
theorem wd_ldN (hI : I.Ok P) (ho : ops[i]? = some o) {b off d m : Nat} {l : List Value} (h : ldE I f.n ops env o = some (b, off, some m, d)) (hs : ∀ w', r.C w' → Seg w' b off l) (hl : l.length = m) (k : WD P f ops K r pl (i :: dn) ((d, .agg l.toArray) :: env) w) : WD P f ops K r ((i, true) :: pl) dn env w :=
 have ⟨h1, h2, h3, _⟩ := ldE_eq h
 wd_q ho (pre_mk h1 h2) h3 (fun w' hw' => ov_ldN hI h (hs w' hw') hl) k
theorem wd_ix (hI : I.Ok P) (ho : ops[i]? = some o) {b off len sz d : Nat} {x : Int} (h : ixE I f.n ops env o = some (b, off, len, sz, x, d)) (ss : Nat) (hss : sz = ss) (j : Nat) (hj : x = (j : Int)) (hlt : j < len) (q : Nat) (hq : q = off + j * ss) (k : WD P f ops K r pl (i :: dn) ((d, .pointer (some ⟨b, q, none⟩)) :: env) w) : WD P f ops K r ((i, true) :: pl) dn env w :=
 have ⟨h1, h2, h3, _⟩ := ixE_eq h
 wd_q ho (pre_mk h1 h2) h3 (fun _ _ => ov_ix hI h ss hss j hj hlt q hq) k
theorem wd_sl (hI : I.Ok P) (ho : ops[i]? = some o) {s : SlArgs} (h : slE I f.n ops env o = some s) (l hh m : Nat) (sz : Nat) (hsz : s.sz = sz) (h1 : s.mx = some (m : Int) ∧ s.hi.isSome = true ∨ s.mx = none ∧ m = s.c) (h2 : s.hi = some (hh : Int) ∨ s.hi = none ∧ hh = s.n) (h3 : s.lo = some (l : Int) ∨ s.lo = none ∧ l = 0)
  (hl : l ≤ hh) (hm : hh ≤ m) (hc : m ≤ s.c) (k : WD P f ops K r pl (i :: dn) ((s.d, .slice (slBase s.p l m sz) (hh - l) (m - l)) :: env) w) : WD P f ops K r ((i, true) :: pl) dn env w :=
 have ⟨e1, e2, hd, _⟩ := ov_sl (w := w) hI h l hh m sz hsz h1 h2 h3 hl hm hc
 wd_q ho (pre_mk e1 e2) hd (fun w' _ => (ov_sl (w := w') hI h l hh m sz hsz h1 h2 h3 hl hm hc).2.2.2) k
theorem wd_bd (hI : I.Ok P) (ho : ops[i]? = some o) {d : Nat} {z l' : List Value} {q : Parts} (h : bdE I f.n ops env o = some (z, q, d)) (hok : partsOk z.length q) (hl : putAll z q = l') (k : WD P f ops K r pl (i :: dn) ((d, .agg l'.toArray) :: env) w) : WD P f ops K r ((i, true) :: pl) dn env w :=
 have ⟨h1, h2, h3, _⟩ := ov_bd (w := w) hI h hok
 wd_q ho (pre_mk h1 h2) h3 (fun w' _ => by subst hl; exact (ov_bd (w := w') hI h hok).2.2.2) k
end
end Go.Vc
namespace Go.Proofs.YtpcdihkcenfgkaaGreatDoor
open Go.Vc
noncomputable def ti1 : TI := ⟨Tryz.t1.desc, 1, 8, Value.nilFunc⟩
noncomputable def ti3 : TI := ⟨Tryz.t3.desc, 1, 8, Value.int .i64 0⟩
noncomputable def ti4 : TI := ⟨Tryz.t4.desc, 1, 1, Value.bool false⟩
noncomputable def ti5 : TI := ⟨Tryz.t5.desc, 1, 1, Value.int .u8 0⟩
noncomputable def ti9 : TI := ⟨Tryz.t9.desc, 1, 16, Value.string .empty⟩
noncomputable def ti21 : TI := ⟨Tryz.t21.desc, 1, 4, Value.int .i32 0⟩
noncomputable def ti22 : TI := ⟨Tryz.t22.desc, 1, 24, Value.slice none 0 0⟩
noncomputable def ti23 : TI := ⟨Tryz.t23.desc, 1, 24, Value.slice none 0 0⟩
noncomputable def ti25 : TI := ⟨Tryz.t24.desc, 3, 56, Value.agg ([Value.slice none 0 0, Value.slice none 0 0, Value.int .i64 0]).toArray⟩
noncomputable def ti27 : TI := ⟨Tryz.t27.desc, 1, 24, Value.slice none 0 0⟩
noncomputable def ti29 : TI := ⟨Tryz.t28.desc, 1, 24, Value.agg ([Value.slice none 0 0]).toArray⟩
noncomputable def ti31 : TI := ⟨Tryz.t30.desc, 32, 32, Value.agg (List.replicate 32 (Value.int .u8 0)).toArray⟩
noncomputable def ti34 : TI := ⟨Tryz.t34.desc, 1, 24, Value.slice none 0 0⟩
noncomputable def ti35 : TI := ⟨Tryz.t3.desc, 1, 8, Value.int .i64 0⟩
noncomputable def ti40 : TI := ⟨Tryz.t40.desc, 1, 24, Value.slice none 0 0⟩
noncomputable def ti41 : TI := ⟨Tryz.t41.desc, 1, 24, Value.slice none 0 0⟩
noncomputable def ti43 : TI := ⟨Tryz.t42.desc, 1, 24, Value.agg ([Value.slice none 0 0]).toArray⟩
noncomputable def ti44 : TI := ⟨Tryz.t44.desc, 1, 4, Value.int .u32 0⟩
noncomputable def ti46 : TI := ⟨Tryz.t45.desc, 73, 192, Value.agg ([Value.int .i64 0, Value.string .empty, Value.slice none 0 0, Value.int .i64 0] ++ List.replicate 32 (Value.int .u8 0) ++ List.replicate 32 (Value.int .u8 0) ++ [Value.slice none 0 0, Value.slice none 0 0, Value.int .u32 0, Value.int .u32 0, Value.string .empty]).toArray⟩
noncomputable def ti48 : TI := ⟨Tryz.t47.desc, 105, 224, Value.agg (List.replicate 32 (Value.int .u8 0) ++ [Value.int .i64 0, Value.string .empty, Value.slice none 0 0, Value.int .i64 0] ++ List.replicate 32 (Value.int .u8 0) ++ List.replicate 32 (Value.int .u8 0) ++ [Value.slice none 0 0, Value.slice none 0 0, Value.int .u32 0, Value.int .u32 0, Value.string .empty]).toArray⟩
noncomputable def ti49 : TI := ⟨Tryz.t49.desc, 2, 48, Value.agg ([Value.slice none 0 0, Value.slice none 0 0]).toArray⟩
noncomputable def ti50 : TI := ⟨Tryz.t50.desc, 1, 24, Value.slice none 0 0⟩
noncomputable def ti56 : TI := ⟨Tryz.t55.desc, 33, 48, Value.agg ([Value.string .empty] ++ List.replicate 32 (Value.int .u8 0)).toArray⟩
noncomputable def ti60 : TI := ⟨Tryz.t60.desc, 1, 8, Value.int .u64 0⟩
noncomputable def ti61 : TI := ⟨Tryz.t61.desc, 1, 8, Value.nilFunc⟩
noncomputable def ti71 : TI := ⟨Tryz.t71.desc, 1, 24, Value.slice none 0 0⟩
noncomputable def ti81 : TI := ⟨Tryz.t81.desc, 1, 8, Value.nilFunc⟩
noncomputable def ti85 : TI := ⟨Tryz.t85.desc, 1, 24, Value.slice none 0 0⟩
noncomputable def ti90 : TI := ⟨Tryz.t90.desc, 1, 24, Value.slice none 0 0⟩
noncomputable def ti94 : TI := ⟨Tryz.t93.desc, 69, 128, Value.agg ([Value.int .i64 0, Value.int .i64 0, Value.int .u32 0, Value.string .empty] ++ List.replicate 32 (Value.int .u8 0) ++ List.replicate 32 (Value.int .u8 0) ++ [Value.slice none 0 0]).toArray⟩
noncomputable def ti99 : TI := ⟨Tryz.t98.desc, 2, 32, Value.agg ([Value.string .empty, Value.string .empty]).toArray⟩
noncomputable def ti100 : TI := ⟨Tryz.t100.desc, 1, 24, Value.slice none 0 0⟩
noncomputable def ti102 : TI := ⟨Tryz.t101.desc, 1, 24, Value.agg ([Value.slice none 0 0]).toArray⟩
noncomputable def ti104 : TI := ⟨Tryz.t103.desc, 3, 64, Value.agg ([Value.slice none 0 0, Value.slice none 0 0, Value.string .empty]).toArray⟩
noncomputable def ti105 : TI := ⟨Tryz.t105.desc, 4, 32, Value.agg ([Value.int .i64 0, Value.int .i64 0, Value.int .i64 0, Value.int .i64 0]).toArray⟩
noncomputable def ti109 : TI := ⟨Tryz.t109.desc, 1, 8, Value.nilFunc⟩
noncomputable def ti110 : TI := ⟨Tryz.t109.desc, 1, 8, Value.nilFunc⟩
noncomputable def ti114 : TI := ⟨Tryz.t113.desc, 3, 40, Value.agg ([Value.string .empty, Value.bool false, Value.string .empty]).toArray⟩
noncomputable def ti115 : TI := ⟨Tryz.t115.desc, 1, 8, Value.pointer none⟩
noncomputable def ti126 : TI := ⟨Tryz.t126.desc, 1, 8, Value.map none⟩
noncomputable def ti127 : TI := ⟨Tryz.t126.desc, 1, 8, Value.map none⟩
noncomputable def ti132 : TI := ⟨Tryz.t132.desc, 1, 8, Value.nilFunc⟩
noncomputable def ti133 : TI := ⟨Tryz.t132.desc, 1, 8, Value.nilFunc⟩
noncomputable def ti135 : TI := ⟨Tryz.t135.desc, 1, 8, Value.map none⟩
noncomputable def ti137 : TI := ⟨Tryz.t137.desc, 1, 8, Value.nilFunc⟩
noncomputable def ti138 : TI := ⟨Tryz.t103.desc, 3, 64, Value.agg ([Value.slice none 0 0, Value.slice none 0 0, Value.string .empty]).toArray⟩
noncomputable def ti150 : TI := ⟨Tryz.t150.desc, 1, 8, Value.int .u64 0⟩
noncomputable def ti151 : TI := ⟨Tryz.t151.desc, 1, 8, Value.pointer none⟩
noncomputable def ti154 : TI := ⟨Tryz.t153.desc, 1, 8, Value.agg ([Value.pointer none]).toArray⟩
noncomputable def ti163 : TI := ⟨Tryz.t163.desc, 1, 8, Value.nilFunc⟩
noncomputable def ti168 : TI := ⟨Tryz.t168.desc, 8, 32, Value.agg ([Value.int .u32 0, Value.int .u32 0, Value.int .u32 0, Value.int .u32 0, Value.int .u32 0, Value.int .u32 0, Value.int .u32 0, Value.int .u32 0]).toArray⟩
noncomputable def ti170 : TI := ⟨Tryz.t170.desc, 1, 24, Value.slice none 0 0⟩
noncomputable def ti176 : TI := ⟨Tryz.t176.desc, 1, 8, Value.pointer none⟩
noncomputable def ti178 : TI := ⟨Tryz.t177.desc, 1, 24, Value.agg ([Value.slice none 0 0]).toArray⟩
noncomputable def ti184 : TI := ⟨Tryz.t183.desc, 8, 32, Value.agg ([Value.int .u32 0, Value.int .u32 0, Value.int .u32 0, Value.int .u32 0, Value.int .u32 0, Value.int .u32 0, Value.int .u32 0, Value.int .u32 0]).toArray⟩
noncomputable def ti186 : TI := ⟨Tryz.t185.desc, 8, 32, Value.agg ([Value.int .u32 0, Value.int .u32 0, Value.int .u32 0, Value.int .u32 0, Value.int .u32 0, Value.int .u32 0, Value.int .u32 0, Value.int .u32 0]).toArray⟩
noncomputable def ti187 : TI := ⟨Tryz.t187.desc, 1, 8, Value.nilFunc⟩
noncomputable def ti188 : TI := ⟨Tryz.t188.desc, 64, 64, Value.agg (List.replicate 64 (Value.int .u8 0)).toArray⟩
noncomputable def ti189 : TI := ⟨Tryz.t189.desc, 1, 8, Value.nilFunc⟩
noncomputable def ti190 : TI := ⟨Tryz.t189.desc, 1, 8, Value.nilFunc⟩
noncomputable def ti206 : TI := ⟨Tryz.t205.desc, 2, 32, Value.agg ([Value.slice none 0 0, Value.int .i64 0]).toArray⟩
noncomputable def ti208 : TI := ⟨Tryz.t207.desc, 2, 32, Value.agg ([Value.slice none 0 0, Value.int .i64 0]).toArray⟩
noncomputable def ti211 : TI := ⟨Tryz.t211.desc, 1, 2, Value.int .u16 0⟩
noncomputable def ti221 : TI := ⟨Tryz.t221.desc, 1, 8, Value.pointer none⟩
noncomputable def ti222 : TI := ⟨Tryz.t222.desc, 64, 256, Value.agg (List.replicate 64 (Value.int .u32 0)).toArray⟩
noncomputable def ti226 : TI := ⟨Tryz.t226.desc, 1, 8, Value.nilFunc⟩
noncomputable def ti229 : TI := ⟨Tryz.t3.desc, 1, 8, Value.int .i64 0⟩
noncomputable def ti242 : TI := ⟨Tryz.t242.desc, 1, 8, Value.nilFunc⟩
noncomputable def ti244 : TI := ⟨Tryz.t244.desc, 1, 8, Value.nilFunc⟩
noncomputable def ti245 : TI := ⟨Tryz.t245.desc, 1, 8, Value.nilFunc⟩
noncomputable def ti247 : TI := ⟨Tryz.t246.desc, 2, 32, Value.agg ([Value.slice none 0 0, Value.nilFunc]).toArray⟩
noncomputable def ti250 : TI := ⟨Tryz.t150.desc, 1, 8, Value.int .u64 0⟩
noncomputable def ti254 : TI := ⟨Tryz.t254.desc, 1, 8, Value.pointer none⟩
noncomputable def ti257 : TI := ⟨Tryz.t257.desc, 1, 8, Value.nilFunc⟩
noncomputable def ti258 : TI := ⟨Tryz.t258.desc, 1, 8, Value.nilFunc⟩
noncomputable def ti260 : TI := ⟨Tryz.t259.desc, 2, 32, Value.agg ([Value.slice none 0 0, Value.nilFunc]).toArray⟩
noncomputable def ti263 : TI := ⟨Tryz.t263.desc, 1, 8, Value.pointer none⟩
noncomputable def I : Info := [(1, ti1), (3, ti3), (4, ti4), (5, ti5), (9, ti9), (21, ti21), (22, ti22), (23, ti23), (25, ti25), (27, ti27), (29, ti29), (31, ti31), (34, ti34), (35, ti35), (40, ti40), (41, ti41), (43, ti43), (44, ti44), (46, ti46), (48, ti48), (49, ti49), (50, ti50), (56, ti56), (60, ti60), (61, ti61), (71, ti71), (81, ti81), (85, ti85), (90, ti90), (94, ti94), (99, ti99), (100, ti100), (102, ti102), (104, ti104), (105, ti105), (109, ti109), (110, ti110), (114, ti114), (115, ti115), (126, ti126), (127, ti127), (132, ti132), (133, ti133), (135, ti135), (137, ti137), (138, ti138), (150, ti150), (151, ti151), (154, ti154), (163, ti163), (168, ti168), (170, ti170), (176, ti176), (178, ti178), (184, ti184), (186, ti186), (187, ti187), (188, ti188), (189, ti189), (190, ti190), (206, ti206), (208, ti208), (211, ti211), (221, ti221), (222, ti222), (226, ti226), (229, ti229), (242, ti242), (244, ti244), (245, ti245), (247, ti247), (250, ti250), (254, ti254), (257, ti257), (258, ti258), (260, ti260), (263, ti263)]
theorem ti1_ok : ti1.Ok Tryz.prog 1 := ⟨Tryz.underlying1, by kernel_rfl⟩
theorem ti3_ok : ti3.Ok Tryz.prog 3 := ⟨Tryz.underlying3, by kernel_rfl⟩
theorem ti4_ok : ti4.Ok Tryz.prog 4 := ⟨Tryz.underlying4, by kernel_rfl⟩
theorem ti5_ok : ti5.Ok Tryz.prog 5 := ⟨Tryz.underlying5, by kernel_rfl⟩
theorem ti9_ok : ti9.Ok Tryz.prog 9 := ⟨Tryz.underlying9, by kernel_rfl⟩
theorem ti21_ok : ti21.Ok Tryz.prog 21 := ⟨Tryz.underlying21, by kernel_rfl⟩
theorem ti22_ok : ti22.Ok Tryz.prog 22 := ⟨Tryz.underlying22, by kernel_rfl⟩
theorem ti23_ok : ti23.Ok Tryz.prog 23 := ⟨Tryz.underlying23, by kernel_rfl⟩
theorem ti25_ok : ti25.Ok Tryz.prog 25 := ⟨Tryz.underlying25, by kernel_rfl⟩
theorem ti27_ok : ti27.Ok Tryz.prog 27 := ⟨Tryz.underlying27, by kernel_rfl⟩
theorem ti29_ok : ti29.Ok Tryz.prog 29 := ⟨Tryz.underlying29, by kernel_rfl⟩
theorem ti31_ok : ti31.Ok Tryz.prog 31 := ⟨Tryz.underlying31, by kernel_rfl⟩
theorem ti34_ok : ti34.Ok Tryz.prog 34 := ⟨Tryz.underlying34, by kernel_rfl⟩
theorem ti35_ok : ti35.Ok Tryz.prog 35 := ⟨Tryz.underlying35, by kernel_rfl⟩
theorem ti40_ok : ti40.Ok Tryz.prog 40 := ⟨Tryz.underlying40, by kernel_rfl⟩
theorem ti41_ok : ti41.Ok Tryz.prog 41 := ⟨Tryz.underlying41, by kernel_rfl⟩
theorem ti43_ok : ti43.Ok Tryz.prog 43 := ⟨Tryz.underlying43, by kernel_rfl⟩
theorem ti44_ok : ti44.Ok Tryz.prog 44 := ⟨Tryz.underlying44, by kernel_rfl⟩
theorem ti46_ok : ti46.Ok Tryz.prog 46 := ⟨Tryz.underlying46, by kernel_rfl⟩
theorem ti48_ok : ti48.Ok Tryz.prog 48 := ⟨Tryz.underlying48, by kernel_rfl⟩
theorem ti49_ok : ti49.Ok Tryz.prog 49 := ⟨Tryz.underlying49, by kernel_rfl⟩
theorem ti50_ok : ti50.Ok Tryz.prog 50 := ⟨Tryz.underlying50, by kernel_rfl⟩
theorem ti56_ok : ti56.Ok Tryz.prog 56 := ⟨Tryz.underlying56, by kernel_rfl⟩
theorem ti60_ok : ti60.Ok Tryz.prog 60 := ⟨Tryz.underlying60, by kernel_rfl⟩
theorem ti61_ok : ti61.Ok Tryz.prog 61 := ⟨Tryz.underlying61, by kernel_rfl⟩
theorem ti71_ok : ti71.Ok Tryz.prog 71 := ⟨Tryz.underlying71, by kernel_rfl⟩
theorem ti81_ok : ti81.Ok Tryz.prog 81 := ⟨Tryz.underlying81, by kernel_rfl⟩
theorem ti85_ok : ti85.Ok Tryz.prog 85 := ⟨Tryz.underlying85, by kernel_rfl⟩
theorem ti90_ok : ti90.Ok Tryz.prog 90 := ⟨Tryz.underlying90, by kernel_rfl⟩
theorem ti94_ok : ti94.Ok Tryz.prog 94 := ⟨Tryz.underlying94, by kernel_rfl⟩
theorem ti99_ok : ti99.Ok Tryz.prog 99 := ⟨Tryz.underlying99, by kernel_rfl⟩
theorem ti100_ok : ti100.Ok Tryz.prog 100 := ⟨Tryz.underlying100, by kernel_rfl⟩
theorem ti102_ok : ti102.Ok Tryz.prog 102 := ⟨Tryz.underlying102, by kernel_rfl⟩
theorem ti104_ok : ti104.Ok Tryz.prog 104 := ⟨Tryz.underlying104, by kernel_rfl⟩
theorem ti105_ok : ti105.Ok Tryz.prog 105 := ⟨Tryz.underlying105, by kernel_rfl⟩
theorem ti109_ok : ti109.Ok Tryz.prog 109 := ⟨Tryz.underlying109, by kernel_rfl⟩
theorem ti110_ok : ti110.Ok Tryz.prog 110 := ⟨Tryz.underlying110, by kernel_rfl⟩
theorem ti114_ok : ti114.Ok Tryz.prog 114 := ⟨Tryz.underlying114, by kernel_rfl⟩
theorem ti115_ok : ti115.Ok Tryz.prog 115 := ⟨Tryz.underlying115, by kernel_rfl⟩
theorem ti126_ok : ti126.Ok Tryz.prog 126 := ⟨Tryz.underlying126, by kernel_rfl⟩
theorem ti127_ok : ti127.Ok Tryz.prog 127 := ⟨Tryz.underlying127, by kernel_rfl⟩
theorem ti132_ok : ti132.Ok Tryz.prog 132 := ⟨Tryz.underlying132, by kernel_rfl⟩
theorem ti133_ok : ti133.Ok Tryz.prog 133 := ⟨Tryz.underlying133, by kernel_rfl⟩
theorem ti135_ok : ti135.Ok Tryz.prog 135 := ⟨Tryz.underlying135, by kernel_rfl⟩
theorem ti137_ok : ti137.Ok Tryz.prog 137 := ⟨Tryz.underlying137, by kernel_rfl⟩
theorem ti138_ok : ti138.Ok Tryz.prog 138 := ⟨Tryz.underlying138, by kernel_rfl⟩
theorem ti150_ok : ti150.Ok Tryz.prog 150 := ⟨Tryz.underlying150, by kernel_rfl⟩
theorem ti151_ok : ti151.Ok Tryz.prog 151 := ⟨Tryz.underlying151, by kernel_rfl⟩
theorem ti154_ok : ti154.Ok Tryz.prog 154 := ⟨Tryz.underlying154, by kernel_rfl⟩
theorem ti163_ok : ti163.Ok Tryz.prog 163 := ⟨Tryz.underlying163, by kernel_rfl⟩
theorem ti168_ok : ti168.Ok Tryz.prog 168 := ⟨Tryz.underlying168, by kernel_rfl⟩
theorem ti170_ok : ti170.Ok Tryz.prog 170 := ⟨Tryz.underlying170, by kernel_rfl⟩
theorem ti176_ok : ti176.Ok Tryz.prog 176 := ⟨Tryz.underlying176, by kernel_rfl⟩
theorem ti178_ok : ti178.Ok Tryz.prog 178 := ⟨Tryz.underlying178, by kernel_rfl⟩
theorem ti184_ok : ti184.Ok Tryz.prog 184 := ⟨Tryz.underlying184, by kernel_rfl⟩
theorem ti186_ok : ti186.Ok Tryz.prog 186 := ⟨Tryz.underlying186, by kernel_rfl⟩
theorem ti187_ok : ti187.Ok Tryz.prog 187 := ⟨Tryz.underlying187, by kernel_rfl⟩
theorem ti188_ok : ti188.Ok Tryz.prog 188 := ⟨Tryz.underlying188, by kernel_rfl⟩
theorem ti189_ok : ti189.Ok Tryz.prog 189 := ⟨Tryz.underlying189, by kernel_rfl⟩
theorem ti190_ok : ti190.Ok Tryz.prog 190 := ⟨Tryz.underlying190, by kernel_rfl⟩
theorem ti206_ok : ti206.Ok Tryz.prog 206 := ⟨Tryz.underlying206, by kernel_rfl⟩
theorem ti208_ok : ti208.Ok Tryz.prog 208 := ⟨Tryz.underlying208, by kernel_rfl⟩
theorem ti211_ok : ti211.Ok Tryz.prog 211 := ⟨Tryz.underlying211, by kernel_rfl⟩
theorem ti221_ok : ti221.Ok Tryz.prog 221 := ⟨Tryz.underlying221, by kernel_rfl⟩
theorem ti222_ok : ti222.Ok Tryz.prog 222 := ⟨Tryz.underlying222, by kernel_rfl⟩
theorem ti226_ok : ti226.Ok Tryz.prog 226 := ⟨Tryz.underlying226, by kernel_rfl⟩
theorem ti229_ok : ti229.Ok Tryz.prog 229 := ⟨Tryz.underlying229, by kernel_rfl⟩
theorem ti242_ok : ti242.Ok Tryz.prog 242 := ⟨Tryz.underlying242, by kernel_rfl⟩
theorem ti244_ok : ti244.Ok Tryz.prog 244 := ⟨Tryz.underlying244, by kernel_rfl⟩
theorem ti245_ok : ti245.Ok Tryz.prog 245 := ⟨Tryz.underlying245, by kernel_rfl⟩
theorem ti247_ok : ti247.Ok Tryz.prog 247 := ⟨Tryz.underlying247, by kernel_rfl⟩
theorem ti250_ok : ti250.Ok Tryz.prog 250 := ⟨Tryz.underlying250, by kernel_rfl⟩
theorem ti254_ok : ti254.Ok Tryz.prog 254 := ⟨Tryz.underlying254, by kernel_rfl⟩
theorem ti257_ok : ti257.Ok Tryz.prog 257 := ⟨Tryz.underlying257, by kernel_rfl⟩
theorem ti258_ok : ti258.Ok Tryz.prog 258 := ⟨Tryz.underlying258, by kernel_rfl⟩
theorem ti260_ok : ti260.Ok Tryz.prog 260 := ⟨Tryz.underlying260, by kernel_rfl⟩
theorem ti263_ok : ti263.Ok Tryz.prog 263 := ⟨Tryz.underlying263, by kernel_rfl⟩
theorem I_ok : I.Ok Tryz.prog := ⟨ti1_ok, ti3_ok, ti4_ok, ti5_ok, ti9_ok, ti21_ok, ti22_ok, ti23_ok, ti25_ok, ti27_ok, ti29_ok, ti31_ok, ti34_ok, ti35_ok, ti40_ok, ti41_ok, ti43_ok, ti44_ok, ti46_ok, ti48_ok, ti49_ok, ti50_ok, ti56_ok, ti60_ok, ti61_ok, ti71_ok, ti81_ok, ti85_ok, ti90_ok, ti94_ok, ti99_ok, ti100_ok, ti102_ok, ti104_ok, ti105_ok, ti109_ok, ti110_ok, ti114_ok, ti115_ok, ti126_ok, ti127_ok, ti132_ok, ti133_ok, ti135_ok, ti137_ok, ti138_ok, ti150_ok, ti151_ok, ti154_ok, ti163_ok, ti168_ok, ti170_ok, ti176_ok, ti178_ok, ti184_ok, ti186_ok, ti187_ok, ti188_ok, ti189_ok, ti190_ok, ti206_ok, ti208_ok, ti211_ok, ti221_ok, ti222_ok, ti226_ok, ti229_ok, ti242_ok, ti244_ok, ti245_ok, ti247_ok, ti250_ok, ti254_ok, ti257_ok, ti258_ok, ti260_ok, ti263_ok, trivial⟩
end Go.Proofs.YtpcdihkcenfgkaaGreatDoor
namespace Go.Vc
variable {P : Program} {f : Fs} {Q : XPost} {env : Env} {w : World}
section
variable {P : Program} {I : Info} {f : Fs} {ops : Array Oper} {o : Oper} {env : Env} {w : World} {K : Env → World → Prop}
end
class OneC (l : List Value) : Prop where
  h : ∀ u ∈ l, u.oneCell' = true
instance : OneC [] := ⟨fun _ h => by cases h⟩
theorem OneC.cons {v : Value} {l : List Value} (hv : v.oneCell' = true) (hl : OneC l) : OneC (v :: l) := ⟨fun u hu => by
 rcases List.mem_cons.1 hu with rfl | hu
 ·exact hv
 ·exact hl.h u hu⟩
instance (k : IntKind) (n : Int) (l : List Value) [h : OneC l] : OneC (.int k n :: l) := .cons rfl h
instance (b : Bool) (l : List Value) [h : OneC l] : OneC (.bool b :: l) := .cons rfl h
instance (s : ByteArray) (l : List Value) [h : OneC l] : OneC (.string s :: l) := .cons rfl h
instance (p : Option Addr) (l : List Value) [h : OneC l] : OneC (.pointer p :: l) := .cons rfl h
instance (p : Option Addr) (n c : Nat) (l : List Value) [h : OneC l] : OneC (.slice p n c :: l) := .cons rfl h
instance (p : Option Nat) (l : List Value) [h : OneC l] : OneC (.map p :: l) := .cons rfl h
instance (a b : List Value) [ha : OneC a] [hb : OneC b] : OneC (a ++ b) := ⟨fun u hu => (List.mem_append.1 hu).elim (ha.h u) (hb.h u)⟩
instance (k : IntKind) (xs : List Int) : OneC (xs.map (Value.int k)) := ⟨fun u hu => by obtain ⟨x, _, rfl⟩ := List.mem_map.1 hu; rfl⟩
instance (xs : List Bool) : OneC (xs.map Value.bool) := ⟨fun u hu => by obtain ⟨x, _, rfl⟩ := List.mem_map.1 hu; rfl⟩
instance (xs : List ByteArray) : OneC (xs.map Value.string) := ⟨fun u hu => by obtain ⟨x, _, rfl⟩ := List.mem_map.1 hu; rfl⟩
def pevsN (I : Info) (n : Nat) (ops : Array Oper) : Nat → List Oper → Env → Option (List Oper × Env)
  | 0, l, env => some (l, env)
  | _ + 1, [], env => some ([], env)
  | k + 1, o :: r, env => match passes ops env o with
    | true => match pushO n o.dst undef env with
      | some env' => pevsN I n ops k r env'
      | none => none
    | false => match takes ops env o with
      | false => none
      | true => match pev I o.op env with
        | none => none
        | some v => match pushO n o.dst v env with
          | some env' => pevsN I n ops k r env'
          | none => none
theorem zz5 {P : Program} {I : Info} {f : Fs} {ops : Array Oper} {Q : XPost} {env : Env} {w : World} (hI : I.Ok P) (n : Nat) {l l' : List Oper} {env' : Env} (h : pevsN I f.n ops n l env = some (l', env')) (k : WL P f ops Q l' env' w) : WL P f ops Q l env w := by
 induction n generalizing env l with
 | zero => simp [pevsN] at h; obtain ⟨rfl, rfl⟩ := h; exact k
 | succ n ih =>
  cases l with
  | nil => simp [pevsN] at h; obtain ⟨rfl, rfl⟩ := h; exact k
  | cons o r =>
   simp only [pevsN] at h
   split at h
   ·rename_i hp
    split at h
    ·rename_i e he
     obtain ⟨hd, rfl⟩ := pushO_eq he
     exact wl (st_pass hp hd (ih h))
    ·cases h
   ·split at h
    ·cases h
    ·rename_i ht
     split at h
     ·cases h
     ·rename_i v hv
      split at h
      ·rename_i e he
       obtain ⟨hd, rfl⟩ := pushO_eq he
       exact wl (st_v ht hd (pev_sound hI hv w) (ih h))
      ·cases h
section
variable {P : Program} {I : Info} {f : Fs} {ops : Array Oper} {o : Oper} {env : Env} {w : World} {K : Env → World → Prop}
end
end Go.Vc
