/-
  A small logic of triples over the walk: frames as lists of known slots, one lemma for each operation.
-/
import Derived.WalkKit
import Derived.Scope
import Derived.Orders
namespace Go.Vc

abbrev Env := List (Nat × Value)

def lk : Env → Nat → Option Value
  | [], _ => none
  | (j, v) :: r, i => match Nat.beq j i with
    | true => some v
    | false => lk r i

def evO (env : Env) : Operand → Option Value
  | .tmp t => lk env t
  | .const v => some v
  | .global g => some (.pointer (some ⟨g, 0, none⟩))
  | .func f => some (.func (.func f) #[] #[])

def pushE (dst : Option Tmp) (v : Value) (env : Env) : Env :=
  match dst with
  | some d => (d, v) :: env
  | none => env

def dOk (n : Nat) (dst : Option Tmp) : Bool :=
  match dst with
  | some d => Nat.blt d n
  | none => true

/-- The size of a frame, and the deferred calls. -/
structure Fs where
  n : Nat
  ds : List Deferred

structure Ag (f : Fs) (env : Env) (a : Act) : Prop where
  defers : a.defers = f.ds
  size : a.tmps.size = f.n
  get : ∀ i v, lk env i = some v → a.tmps[i]? = some v

theorem lk_cons (j : Nat) (v : Value) (r : Env) (i : Nat) : lk ((j, v) :: r) i = if j = i then some v else lk r i := by
  show (match Nat.beq j i with | true => some v | false => lk r i) = _
  by_cases h : j = i
  · subst h; rw [if_pos rfl, Nat.beq_refl]
  · have : Nat.beq j i = false := by
      cases hb : Nat.beq j i with
      | true => exact absurd (Nat.eq_of_beq_eq_true hb) h
      | false => rfl
    rw [if_neg h, this]

theorem Ag.eval {f : Fs} {env : Env} {a : Act} (h : Ag f env a) {x : Operand} {v : Value} (hx : evO env x = some v) : a.eval x = v := by
  cases x with
  | tmp t =>
    have := h.get t v hx
    simp [Act.eval, this]
  | const u => simpa [evO, Act.eval] using hx
  | global g => simpa [evO, Act.eval] using hx
  | func g => simpa [evO, Act.eval] using hx

theorem Ag.put {f : Fs} {env : Env} {a : Act} (h : Ag f env a) {dst : Option Tmp} {v : Value} (hd : dOk f.n dst = true) : Ag f (pushE dst v env) (a.put dst v) := by
  cases dst with
  | none => exact h
  | some d =>
    have hd' : d < f.n := by simpa [dOk] using hd
    refine ⟨h.defers, by simp [Act.put, h.size], fun i u hi => ?_⟩
    simp only [pushE, lk_cons] at hi
    simp only [Act.put]
    by_cases hdi : d = i
    · subst hdi
      simp at hi
      subst hi
      simp [h.size, hd']
    · simp [hdi] at hi
      rw [Array.getElem?_setIfInBounds_ne hdi]
      exact h.get i u hi

/-- What is known of one frame is known of the other. -/
def Subs : Env → Env → Prop
  | [], _ => True
  | (j, v) :: r, e => lk e j = some v ∧ Subs r e

theorem Subs.lk {e e' : Env} : Subs e' e → ∀ i v, Vc.lk e' i = some v → Vc.lk e i = some v := by
  induction e' with
  | nil => intro _ i v h; simp [Vc.lk] at h
  | cons p r ih =>
    obtain ⟨j, u⟩ := p
    intro hs i v h
    rw [lk_cons] at h
    by_cases hji : j = i
    · subst hji
      simp at h
      subst h
      exact hs.1
    · simp [hji] at h
      exact ih hs.2 i v h

theorem Ag.sub {f : Fs} {env env' : Env} {a : Act} (h : Ag f env a) (hs : Subs env' env) : Ag f env' a :=
  ⟨h.defers, h.size, fun i v hi => h.get i v (hs.lk i v hi)⟩

def pick (env : Env) : List Nat → Option Env
  | [] => some []
  | i :: r => match lk env i with
    | some v => match pick env r with
      | some e => some ((i, v) :: e)
      | none => none
    | none => none

theorem pick_subs {env : Env} : ∀ {ls : List Nat} {env' : Env}, pick env ls = some env' → Subs env' env
  | [], env', h => by simp [pick] at h; subst h; trivial
  | i :: r, env', h => by
    simp only [pick] at h
    split at h
    · rename_i v hv
      split at h
      · rename_i e he
        simp at h; subst h
        exact ⟨hv, pick_subs he⟩
      · simp at h
    · simp at h

abbrev XPost := Exit → Act → World → Prop

def WL (P : Program) (f : Fs) (ops : Array Oper) (Q : XPost) (l : List Oper) (env : Env) (w : World) : Prop := ∀ a, Ag f env a → wpList P ops Q l a w
def WC (P : Program) (f : Fs) (c : Code) (Q : XPost) (env : Env) (w : World) : Prop := ∀ a, Ag f env a → c.wp P Q a w
def Fin (f : Fs) (Q : XPost) (e : Exit) (env : Env) (w : World) : Prop := ∀ a, Ag f env a → Q e a w

section code
variable {P : Program} {f : Fs} {Q : XPost} {env : Env} {w : World}

theorem WC.keep {c : Code} (ls : List Nat) {env' : Env} (hp : pick env ls = some env') (h : WC P f c Q env' w) : WC P f c Q env w :=
  fun a ha => h a (ha.sub (pick_subs hp))
theorem WL.keep {ops : Array Oper} {l : List Oper} (ls : List Nat) {env' : Env} (hp : pick env ls = some env') (h : WL P f ops Q l env' w) : WL P f ops Q l env w :=
  fun a ha => h a (ha.sub (pick_subs hp))
theorem WC.sub {c : Code} {env' : Env} (hp : Subs env' env) (h : WC P f c Q env' w) : WC P f c Q env w := fun a ha => h a (ha.sub hp)
theorem WL.sub {ops : Array Oper} {l : List Oper} {env' : Env} (hp : Subs env' env) (h : WL P f ops Q l env' w) : WL P f ops Q l env w := fun a ha => h a (ha.sub hp)

theorem c_seq {x y : Code} (h : WC P f x (Exit.then (y.wp P Q) Q) env w) : WC P f (.seq x y) Q env w := fun a ha => wp_seq (h a ha)
theorem c_skip (h : Fin f Q .normal env w) : WC P f .skip Q env w := fun a ha => wp_skip (h a ha)
theorem c_label {l : Nat} (h : Fin f Q .normal env w) : WC P f (.label l) Q env w := fun a ha => wp_label (h a ha)
theorem c_exit {id : Nat} (h : Fin f Q (.exit id) env w) : WC P f (.exit id) Q env w := fun a ha => wp_exit (h a ha)
theorem c_goto {l : Nat} (h : Fin f Q (.goto l) env w) : WC P f (.goto l) Q env w := fun a ha => wp_goto (h a ha)
theorem c_ret (h : Fin f Q .ret env w) : WC P f .ret Q env w := fun a ha => wp_ret (h a ha)
theorem c_block {id : Nat} {c : Code} (h : WC P f c (Exit.inBlock id Q) env w) : WC P f (.block id c) Q env w := fun a ha => wp_block (h a ha)
theorem c_scope {c : Code} (h : WC P f c (Exit.noGoto Q) env w) : WC P f (.scope c) Q env w := fun a ha => wp_scope_straight (h a ha)
theorem c_region {id : Nat} {l : List Oper} (h : WL P f l.toArray Q l env w) : WC P f (.region id l.toArray false) Q env w := fun a ha => wp_region_lit (h a ha)
theorem c_cond {c : Operand} {x y : Code} {b : Bool} (hc : evO env c = some (.bool b)) (ht : b = true → WC P f x Q env w) (hf : b = false → WC P f y Q env w) : WC P f (.cond c x y) Q env w :=
  fun a ha => wp_cond_split (ha.eval hc) (fun h => ht h a ha) (fun h => hf h a ha)
theorem c_condT {c : Operand} {x y : Code} (hc : evO env c = some (.bool true)) (ht : WC P f x Q env w) : WC P f (.cond c x y) Q env w :=
  fun a ha => wp_cond_true (ha.eval hc) (ht a ha)
theorem c_condF {c : Operand} {x y : Code} (hc : evO env c = some (.bool false)) (ht : WC P f y Q env w) : WC P f (.cond c x y) Q env w :=
  fun a ha => wp_cond_false (ha.eval hc) (ht a ha)
/-- a test that is a decision -/
theorem c_if {c : Operand} {x y : Code} {p : Prop} [Decidable p] (hc : evO env c = some (.bool (decide p))) (ht : p → WC P f x Q env w) (hf : ¬ p → WC P f y Q env w) : WC P f (.cond c x y) Q env w :=
  c_cond hc (fun h => ht (of_decide_eq_true h)) (fun h => hf (of_decide_eq_false h))

/-- so much of what is known -/
def SubE (e env : Env) : Prop := pick env (e.map Prod.fst) = some e
theorem SubE.subs {e env : Env} (h : SubE e env) : Subs e env := pick_subs h

/-- the ways through x meet ahead of y -/
theorem c_cut {x y : Code} {α : Type} (J : α → World → Prop) (E : α → Env)
    (hx : WC P f x (Exit.then (fun a w => ∃ z, Ag f (E z) a ∧ J z w) Q) env w) (hy : ∀ z w', J z w' → WC P f y Q (E z) w') : WC P f (.seq x y) Q env w :=
  fun a ha => wp_seq (wp_mono (hx a ha) fun e a' w' h => by
    cases e <;> first | (obtain ⟨z, hz, hJ⟩ := h; exact hy z w' hJ a' hz) | exact h)
/-- the same: slots that stay are named by their numbers -/
theorem c_cutK {x y : Code} {α : Type} (ls : List Nat) {env0 : Env} (hp : pick env ls = some env0) (C : α → Env) (J : α → World → Prop)
    (hx : WC P f x (Exit.then (fun a w => ∃ z, Ag f (C z ++ env0) a ∧ J z w) Q) env w) (hy : ∀ z w', J z w' → WC P f y Q (C z ++ env0) w') : WC P f (.seq x y) Q env w :=
  have _ := hp
  c_cut J (fun z => C z ++ env0) hx hy
theorem f_cut {α : Type} {J : α → World → Prop} {E : α → Env} (z : α) (hs : SubE (E z) env) (hJ : J z w) : Fin f (Exit.then (fun a w => ∃ z, Ag f (E z) a ∧ J z w) Q) .normal env w :=
  fun _ ha => ⟨z, ha.sub hs.subs, hJ⟩

theorem c_loop {c : Code} {α : Type} (I : α → World → Prop) (E : α → Env) (μ : α → World → Nat) (z : α) (hs : SubE (E z) env) (hI : I z w)
    (round : ∀ z w, I z w → WC P f c (Exit.then (fun a' w' => ∃ z', Ag f (E z') a' ∧ I z' w' ∧ μ z' w' < μ z w) Q) (E z) w) : WC P f (.loop c) Q env w := by
  intro a ha b k cs
  have key : ∀ n (z : α) (w : World) (a : Act), μ z w = n → I z w → Ag f (E z) a →
      ∃ e a' w', Q e a' w' ∧ Arrives P (lone (b.at a (.code c :: .inLoop c :: k)) cs w) b k cs e a' w' := by
    intro n
    induction n using Nat.strongRecOn with
    | _ n ih =>
      intro z w a hn hI ha
      obtain ⟨e, a₁, w₁, hq, harr⟩ := round z w hI a ha b (.inLoop c :: k) cs
      cases e with
      | normal =>
        obtain ⟨z', ha', hI', hlt⟩ := hq
        obtain ⟨e₂, a₂, w₂, hq₂, harr₂⟩ := ih (μ z' w₁) (hn ▸ hlt) z' w₁ a₁ rfl hI' ha'
        exact ⟨e₂, a₂, w₂, hq₂, .of_steps (Steps.trans harr (.one step_inLoop)) harr₂⟩
      | exit id => exact ⟨_, a₁, w₁, hq, .pass (x := .inLoop c) rfl (fun _ _ => .inl (by simp)) harr⟩
      | goto l => exact ⟨_, a₁, w₁, hq, .pass (x := .inLoop c) rfl (fun _ _ => .inl (by simp)) harr⟩
      | ret => exact ⟨_, a₁, w₁, hq, .pass (x := .inLoop c) rfl (fun _ _ => .inl (by simp)) harr⟩
      | panic ch => exact ⟨_, a₁, w₁, hq, .pass (x := .inLoop c) rfl (fun _ _ => .inl (by simp)) harr⟩
      | outgrown => exact ⟨_, a₁, w₁, hq, .pass (x := .inLoop c) rfl (fun _ _ => .inl (by simp)) harr⟩
  obtain ⟨e, a', w', hq, harr⟩ := key _ z w a rfl hI (ha.sub hs.subs)
  exact ⟨e, a', w', hq, .of_steps (.one step_loop) harr⟩
theorem f_round {α : Type} {I : α → World → Prop} {E : α → Env} {μ : α → World → Nat} {m : Nat} (z : α) (hs : SubE (E z) env) (hI : I z w) (hm : μ z w < m) :
    Fin f (Exit.then (fun a' w' => ∃ z', Ag f (E z') a' ∧ I z' w' ∧ μ z' w' < m) Q) .normal env w :=
  fun _ ha => ⟨z, ha.sub hs.subs, hI, hm⟩

/-- the same: slots that stay are named by their numbers -/
theorem c_loopK {c : Code} {α : Type} (ls : List Nat) {env0 : Env} (hp : pick env ls = some env0) (C : α → Env) (I : α → World → Prop) (μ : α → World → Nat) (z : α) (hs : SubE (C z ++ env0) env) (hI : I z w)
    (round : ∀ z w, I z w → WC P f c (Exit.then (fun a' w' => ∃ z', Ag f (C z' ++ env0) a' ∧ I z' w' ∧ μ z' w' < μ z w) Q) (C z ++ env0) w) : WC P f (.loop c) Q env w :=
  have _ := hp
  c_loop I (fun z => C z ++ env0) μ z hs hI round

theorem f_then {y : Code} (h : WC P f y Q env w) : Fin f (Exit.then (y.wp P Q) Q) .normal env w := fun a ha => h a ha
theorem f_thenX {K : Act → World → Prop} {e : Exit} (he : e ≠ .normal) (h : Fin f Q e env w) : Fin f (Exit.then K Q) e env w :=
  fun a ha => by cases e <;> first | exact absurd rfl he | exact h a ha
theorem f_thenR {K : Act → World → Prop} (h : Fin f Q .ret env w) : Fin f (Exit.then K Q) .ret env w := fun a ha => h a ha
theorem f_thenE {K : Act → World → Prop} {id : Nat} (h : Fin f Q (.exit id) env w) : Fin f (Exit.then K Q) (.exit id) env w := fun a ha => h a ha
theorem f_blockN {id : Nat} (h : Fin f Q .normal env w) : Fin f (Exit.inBlock id Q) .normal env w := fun a ha => h a ha
theorem f_blockR {id : Nat} (h : Fin f Q .ret env w) : Fin f (Exit.inBlock id Q) .ret env w := fun a ha => h a ha
theorem f_blockE {id : Nat} (h : Fin f Q .normal env w) : Fin f (Exit.inBlock id Q) (.exit id) env w := fun a ha => by simpa [Exit.inBlock] using h a ha
theorem f_blockE' {id id' : Nat} (hne : Nat.beq id' id = false) (h : Fin f Q (.exit id') env w) : Fin f (Exit.inBlock id Q) (.exit id') env w := fun a ha => by
  have : id' ≠ id := fun e => by subst e; rw [Nat.beq_refl] at hne; cases hne
  simpa [Exit.inBlock, this] using h a ha
theorem f_noGotoN (h : Fin f Q .normal env w) : Fin f (Exit.noGoto Q) .normal env w := fun a ha => h a ha
theorem f_noGotoR (h : Fin f Q .ret env w) : Fin f (Exit.noGoto Q) .ret env w := fun a ha => h a ha
theorem f_noGotoE {id : Nat} (h : Fin f Q (.exit id) env w) : Fin f (Exit.noGoto Q) (.exit id) env w := fun a ha => h a ha
end code

/-! ### Operations -/

def evs (env : Env) : List Operand → Option (List Value)
  | [] => some []
  | x :: r => match evO env x with
    | some v => match evs env r with
      | some l => some (v :: l)
      | none => none
    | none => none

/-- The operation, at every valuation that the frame fits: a value, and the world that it leaves. -/
def Ov (P : Program) (o : Oper) (env : Env) (w : World) (v : Value) (w' : World) : Prop :=
  ∀ ρ : Operand → Value, (∀ x u, evO env x = some u → ρ x = u) → (execOp ρ o).run P w = .ok (.value v) w'
def Os (P : Program) (o : Oper) (env : Env) (w : World) (w' : World) : Prop :=
  ∀ ρ : Operand → Value, (∀ x u, evO env x = some u → ρ x = u) → (execOp ρ o).run P w = .ok .skip w'

/-- is the operation carried out? -/
def yldE (ops : Array Oper) (env : Env) (j : Nat) : Option Bool :=
  match ops[j]? with
  | some o => match o.dst with
    | some d => match lk env d with
      | some (.bool b) => some b
      | _ => none
    | none => none
  | none => none
def takes (ops : Array Oper) (env : Env) (o : Oper) : Bool :=
  match o.guard with
  | none => true
  | some (j, want) => match yldE ops env j with
    | some b => match b, want with
      | true, true => true
      | false, false => true
      | _, _ => false
    | none => false

theorem yldE_eq {f : Fs} {ops : Array Oper} {env : Env} {a : Act} (ha : Ag f env a) {j : Nat} {b : Bool} (h : yldE ops env j = some b) : yielded ops a.tmps j = some b := by
  unfold yldE at h
  split at h
  · rename_i o ho
    split at h
    · rename_i d hd
      split at h
      · rename_i b' hb
        simp at h; subst h
        have := ha.get d _ hb
        simp [yielded, ho, hd, this]
      · simp at h
    · simp at h
  · simp at h

theorem takes_wanted {f : Fs} {ops : Array Oper} {env : Env} {a : Act} (ha : Ag f env a) {o : Oper} (h : takes ops env o = true) : Region.wanted o (yielded ops a.tmps) = true := by
  unfold takes at h
  unfold Region.wanted
  split at h
  · simp [*]
  · rename_i j want hg
    simp only [hg]
    split at h
    · rename_i b hb
      rw [yldE_eq ha hb]
      cases b <;> cases want <;> simp_all
    · simp at h

/-- was it passed itself? -/
def yldU (ops : Array Oper) (env : Env) (j : Nat) : Bool :=
  match ops[j]? with
  | some o => match o.dst with
    | some d => match lk env d with
      | some (.tuple _) => true
      | _ => false
    | none => false
  | none => false
theorem yldU_eq {f : Fs} {ops : Array Oper} {env : Env} {a : Act} (ha : Ag f env a) {j : Nat} (h : yldU ops env j = true) : yielded ops a.tmps j = none := by
  unfold yldU at h
  split at h
  · rename_i o ho
    split at h
    · rename_i d hd
      split at h
      · rename_i vs hb
        have := ha.get d _ hb
        simp [yielded, ho, hd, this]
      · simp at h
    · simp at h
  · simp at h
def passes (ops : Array Oper) (env : Env) (o : Oper) : Bool :=
  match o.guard with
  | none => false
  | some (j, want) => match yldE ops env j with
    | some b => match b, want with
      | true, false => true
      | false, true => true
      | _, _ => false
    | none => yldU ops env j
theorem passes_wanted {f : Fs} {ops : Array Oper} {env : Env} {a : Act} (ha : Ag f env a) {o : Oper} (h : passes ops env o = true) : Region.wanted o (yielded ops a.tmps) = false := by
  unfold passes at h
  unfold Region.wanted
  split at h
  · simp at h
  · rename_i j want hg
    simp only [hg]
    split at h
    · rename_i b hb
      rw [yldE_eq ha hb]
      cases b <;> cases want <;> simp_all
    · rw [yldU_eq ha h]; rfl

/-- One operation, whatever follows it: K says what must hold of the frame and the world behind it. -/
def St (P : Program) (f : Fs) (ops : Array Oper) (o : Oper) (env : Env) (w : World) (K : Env → World → Prop) : Prop :=
  ∀ (a : Act) (Q : XPost) (K' : Act → World → Prop), Ag f env a → (∀ env' a' w', Ag f env' a' → K env' w' → K' a' w') →
    if Region.wanted o (yielded ops a.tmps) then o.wp P a w K' Q ∨ (o.asks P a w ∧ LetsOut Q) else K' (a.put o.dst undef) w

section ops
variable {P : Program} {f : Fs} {ops : Array Oper} {Q : XPost} {o : Oper} {rest : List Oper} {env : Env} {w w' : World} {v : Value}

theorem wl_nil (h : Fin f Q .normal env w) : WL P f ops Q [] env w := fun a ha => h a ha

theorem wl (h : St P f ops o env w (WL P f ops Q rest)) : WL P f ops Q (o :: rest) env w :=
  fun a ha => h a Q (wpList P ops Q rest) ha fun _ a' _ ha' k => k a' ha'
theorem st_v {K : Env → World → Prop} (hg : takes ops env o = true) (hd : dOk f.n o.dst = true) (h : Ov P o env w v w') (k : K (pushE o.dst v env) w') : St P f ops o env w K := by
  intro a Q K' ha hK
  rw [if_pos (takes_wanted ha hg)]
  refine .inl ?_
  unfold Oper.wp
  rw [h a.eval (fun x u hx => ha.eval hx)]
  exact hK _ _ _ (ha.put hd) k
theorem st_s {K : Env → World → Prop} (hg : takes ops env o = true) (hd : dOk f.n o.dst = true) (h : Os P o env w w') (k : K (pushE o.dst undef env) w') : St P f ops o env w K := by
  intro a Q K' ha hK
  rw [if_pos (takes_wanted ha hg)]
  refine .inl ?_
  unfold Oper.wp
  rw [h a.eval (fun x u hx => ha.eval hx)]
  exact hK _ _ _ (ha.put hd) k
theorem st_pass {K : Env → World → Prop} (hg : passes ops env o = true) (hd : dOk f.n o.dst = true) (k : K (pushE o.dst undef env) w) : St P f ops o env w K := by
  intro a Q K' ha hK
  rw [if_neg (by simp [passes_wanted ha hg])]
  exact hK _ _ _ (ha.put hd) k
/-- a slot's bool is looked at -/
theorem wl_case {l : List Oper} (d : Nat) {b : Bool} (hd : lk env d = some (.bool b)) (ht : b = true → WL P f ops Q l ((d, .bool true) :: env) w) (hf : b = false → WL P f ops Q l ((d, .bool false) :: env) w) : WL P f ops Q l env w := by
  cases b
  · exact fun a ha => hf rfl a ⟨ha.defers, ha.size, fun i u hi => by
      rw [lk_cons] at hi
      split at hi
      · rename_i e; subst e; simp at hi; subst hi; exact ha.get _ _ hd
      · exact ha.get _ _ hi⟩
  · exact fun a ha => ht rfl a ⟨ha.defers, ha.size, fun i u hi => by
      rw [lk_cons] at hi
      split at hi
      · rename_i e; subst e; simp at hi; subst hi; exact ha.get _ _ hd
      · exact ha.get _ _ hi⟩
theorem wl_caseD {l : List Oper} (d : Nat) {p : Prop} [Decidable p] (hd : lk env d = some (.bool (decide p))) (ht : p → WL P f ops Q l ((d, .bool true) :: env) w) (hf : ¬ p → WL P f ops Q l ((d, .bool false) :: env) w) : WL P f ops Q l env w :=
  wl_case d hd (fun h => ht (of_decide_eq_true h)) (fun h => hf (of_decide_eq_false h))
end ops

/-! ### Calls -/

def Rv (R : Value → World → Prop) : Ending → World → Prop
  | .returned v, w => R v w
  | _, _ => False

/-- The call returns, and what it returns and leaves is as R says. -/
def CallsV (P : Program) (g : FuncId) (args : List Value) (w : World) (R : Value → World → Prop) : Prop := Calls P g args.toArray w (Rv R)

theorem CallsV.mono {P : Program} {g : FuncId} {args : List Value} {w : World} {R R' : Value → World → Prop} (h : CallsV P g args w R) (hr : ∀ v w', R v w' → R' v w') : CallsV P g args w R' :=
  Calls.mono h fun e w' he => by cases e <;> first | exact hr _ _ he | exact he

def envO : Nat → List Value → Option Env
  | _, [] => some []
  | i, v :: r => match envO (i + 1) r with
    | some e => some ((i, v) :: e)
    | none => none

theorem envO_lk : ∀ {l : List Value} {i : Nat} {e : Env}, envO i l = some e → ∀ j v, lk e j = some v → i ≤ j ∧ l[j - i]? = some v
  | [], i, e, h, j, v, hj => by simp [envO] at h; subst h; simp [lk] at hj
  | u :: r, i, e, h, j, v, hj => by
    simp only [envO] at h
    split at h
    · rename_i e' he
      simp at h; subst h
      rw [lk_cons] at hj
      split at hj
      · rename_i hij; subst hij; simp at hj; subst hj; simp
      · rename_i hne
        have := envO_lk he j v hj
        refine ⟨by omega, ?_⟩
        rw [show j - i = (j - (i + 1)) + 1 from by omega]
        simpa using this.2
    · simp at h

theorem calls_enter {P : Program} {g : FuncId} {fn : Func} {c : Code} {args : List Value} {w : World} {R : Value → World → Prop} {n : Nat} {env : Env}
    (hf : P.funcs[g]? = some fn) (hb : fn.body = some c) (hn : fn.ntmps = n) (hl : Nat.ble args.length n = true) (he : envO 0 args = some env) (h : WC P ⟨n, []⟩ c (bodyPost P fn (Rv R)) env w) : CallsV P g args w R := by
  refine calls_of_wp hf hb (h _ ⟨rfl, ?_, fun i v hi => ?_⟩)
  · have : args.length ≤ n := Nat.le_of_ble_eq_true hl
    simp only [hn, Array.size_append, List.size_toArray, Array.size_replicate]
    omega
  · have := (envO_lk he i v hi).2
    simp only [Nat.sub_zero] at this
    have hlt : i < args.length := by
      rcases Nat.lt_or_ge i args.length with h' | h'
      · exact h'
      · simp [List.getElem?_eq_none h'] at this
    simp only [hn]
    rw [Array.getElem?_append_left (by simpa using hlt)]
    simpa using this

/-- the operation calls a function of the program -/
theorem st_call {P : Program} {f : Fs} {ops : Array Oper} {o : Oper} {env : Env} {K : Env → World → Prop} {w : World} {x : Operand} {xs : Array Operand} {ts : Array TypeId}
    {g : FuncId} {first captured : Array Value} {vs : List Value} {R : Value → World → Prop} (hcf : ∀ args w, (callFunc g args).run P w = .ok (.enter g args) w)
    (ho : o.op = .call { callee := .value x, args := xs, argTypes := ts }) (hg : takes ops env o = true) {d : Nat} (hd : o.dst = some d) (hdn : Nat.blt d f.n = true)
    (hx : evO env x = some (.func (.func g) first captured)) (hvs : evs env xs.toList = some vs)
    (hc : CallsV P g (first.toList ++ vs ++ captured.toList) w R) (k : ∀ v w', R v w' → K ((d, v) :: env) w') : St P f ops o env w K := by
  intro a Q K' ha hK
  rw [if_pos (takes_wanted ha hg)]
  refine .inl ?_
  have hevs : ∀ (l : List Operand) vs, evs env l = some vs → l.map a.eval = vs := by
    intro l
    induction l with
    | nil => intro vs h; simp [evs] at h; subst h; rfl
    | cons y r ih =>
      intro vs h
      simp only [evs] at h
      split at h
      · rename_i u hu
        split at h
        · rename_i l' hl'
          simp at h; subst h
          simp [ha.eval hu, ih _ hl']
        · simp at h
      · simp at h
  have h1 : xs.map a.eval = vs.toArray := by
    apply Array.ext'
    rw [Array.toList_map, hevs _ _ hvs]
  have hrun : (execOp a.eval o).run P w = .ok (.enter g (first ++ vs.toArray ++ captured)) w := by
    simp only [execOp, ho, resolve, h1, ha.eval hx, Deferred.ofValue, Sem.run_bind, Sem.run_pure, Result.andThen_ok, invoke, hcf]
  unfold Oper.wp
  rw [hrun]
  have e : (first ++ vs.toArray ++ captured) = (first.toList ++ vs ++ captured.toList).toArray := by
    apply Array.ext'; simp
  rw [e]
  refine Calls.mono hc fun e w' he => ?_
  cases e with
  | returned v => exact hK _ _ _ (ha.put (dst := o.dst) (v := v) (by rw [hd]; exact hdn)) (by rw [hd]; exact k v w' he)
  | panicked c => exact he.elim
  | outgrown => exact he.elim

/-! ### The end of a body -/
section ends
variable {P : Program} {f : Fs} {fn : Func} {R : Value → World → Prop} {env : Env} {w : World}

theorem f_ret0 {n : Nat} (hr : fn.results = #[]) (h : R (.tuple #[]) w) : Fin ⟨n, []⟩ (bodyPost P fn (Rv R)) .ret env w :=
  fun _ ha => ⟨ha.defers, _, results_none hr _ _ _, h⟩
theorem f_end0 {n : Nat} (hr : fn.results = #[]) (h : R (.tuple #[]) w) : Fin ⟨n, []⟩ (bodyPost P fn (Rv R)) .normal env w :=
  fun _ ha => ⟨ha.defers, _, results_none hr _ _ _, h⟩
theorem f_ret1 {n : Nat} {t : Tmp} {v : Value} (hr : fn.results = #[.tmp t]) (hv : lk env t = some v) (h : R v w) : Fin ⟨n, []⟩ (bodyPost P fn (Rv R)) .ret env w :=
  fun a ha => ⟨ha.defers, v, by rw [results_tmp hr]; simp [ha.get _ _ hv], h⟩
theorem f_ret2 {n : Nat} {t t' : Tmp} {v v' : Value} (hr : fn.results = #[.tmp t, .tmp t']) (hv : lk env t = some v) (hv' : lk env t' = some v') (h : R (.tuple #[v, v']) w) : Fin ⟨n, []⟩ (bodyPost P fn (Rv R)) .ret env w :=
  fun a ha => ⟨ha.defers, _, by rw [results_tmp2 hr]; simp [ha.get _ _ hv, ha.get _ _ hv'], h⟩
theorem f_ret3 {n : Nat} {t t' t2 : Tmp} {v v' v2 : Value} (hr : fn.results = #[.tmp t, .tmp t', .tmp t2]) (hv : lk env t = some v) (hv' : lk env t' = some v') (hv2 : lk env t2 = some v2) (h : R (.tuple #[v, v', v2]) w) : Fin ⟨n, []⟩ (bodyPost P fn (Rv R)) .ret env w :=
  fun a ha => ⟨ha.defers, _, by simp [results, hr, ha.get _ _ hv, ha.get _ _ hv', ha.get _ _ hv2], h⟩
end ends

end Go.Vc
