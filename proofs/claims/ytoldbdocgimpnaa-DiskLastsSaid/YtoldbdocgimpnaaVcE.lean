/-
  Regions whose order is open: operations that only read, in every world of a class, may be taken first; what stands behind all of them goes in its order.
-/
import Derived.Test.YtoldbdocgimpnaaVcD
import Derived.Still
namespace Go.Vc

/-- the post of an operation of a region: it goes on, or never panics -/
def NQ (K : Act → World → Prop) : XPost := fun e a w =>
  match e with
  | .normal => K a w
  | _ => False

section
variable {P : Program} {ops : Array Oper} {C : World → Prop} {K : Act → World → Prop} {nA : Nat}

def allA (nA : Nat) (listed : Array Bool) : Prop := ∀ i, i < nA → listed.getD i true = true

def wpG (P : Program) (ops : Array Oper) (K : Act → World → Prop) (C : World → Prop) (nA : Nat) : Nat → Array Bool → Act → World → Prop
  | 0, listed, a, w => C w ∧ wpAny P .any ops (NQ K) 0 listed a w
  | fuel + 1, listed, a, w => C w ∧ (allA nA listed → wpAny P .any ops (NQ K) (fuel + 1) listed a w) ∧
      (¬ allA nA listed → Region.ready .any ops listed ≠ [] ∧ ∀ i ∈ Region.ready .any ops listed, wpOp P ops (NQ K) i (wpG P ops K C nA fuel (listed.setIfInBounds i true)) a w)

theorem wpG_C : ∀ {fuel : Nat} {listed : Array Bool} {a : Act} {w : World}, wpG P ops K C nA fuel listed a w → C w
  | 0, _, _, _, h => h.1
  | _ + 1, _, _, _, h => h.1

theorem wpAny_of_G : ∀ (fuel : Nat) (listed : Array Bool) (a : Act) (w : World), wpG P ops K C nA fuel listed a w → wpAny P .any ops (NQ K) fuel listed a w
  | 0, _, _, _, h => h.2
  | fuel + 1, listed, a, w, h => by
    by_cases hA : allA nA listed
    · exact h.2.1 hA
    · obtain ⟨hne, hall⟩ := h.2.2 hA
      exact ⟨fun h0 => absurd h0 hne, fun i hi => wpOp_mono (fun a' w' h' => wpAny_of_G fuel _ a' w' h') (hall i hi)⟩

/-- in this state, in every world of the class, the operation leaves v in its slot, and the world as it is -/
def YieldsC (P : Program) (ops : Array Oper) (C : World → Prop) (o : Oper) (v : Value) (a : Act) : Prop :=
  (Region.wanted o (yielded ops a.tmps) = true ∧ ∀ w, C w → (execOp a.eval o).run P w = .ok (.value v) w) ∨
  (Region.wanted o (yielded ops a.tmps) = false ∧ v = undef)

theorem YieldsC.wpOp {Q : XPost} {i : Nat} {o : Oper} {v : Value} {a : Act} (hi : ops[i]? = some o) (hy : YieldsC P ops C o v a) {w : World} (hC : C w) {K' : Act → World → Prop} (h : K' (a.put o.dst v) w) : Go.wpOp P ops Q i K' a w := by
  unfold Go.wpOp
  simp only [hi]
  rcases hy with ⟨hw, hv⟩ | ⟨hw, rfl⟩
  · simp only [hw, if_true, Oper.wp, hv w hC, Oper.upon]; exact .inl h
  · simp only [hw, Bool.false_eq_true, if_false]; exact h
theorem YieldsC.of_same {o : Oper} {v : Value} {a a' : Act} (hy : YieldsC P ops C o v a) (he : execOp a'.eval o = execOp a.eval o)
    (hw : Region.wanted o (yielded ops a'.tmps) = Region.wanted o (yielded ops a.tmps)) : YieldsC P ops C o v a' := by
  unfold YieldsC at *
  rw [he, hw]
  exact hy

theorem wpOpC_put {j : Nat} {oi oj : Oper} {v : Value} (hj : ops[j]? = some oj) (hap : oi.apart ops oj = true)
    (hsi : ∀ cs b, oi.op ≠ .select cs b) (hsj : ∀ cs b, oj.op ≠ .select cs b) {K' : Act → World → Prop} {a : Act} {w : World}
    (hy : YieldsC P ops C oi v a) (h : wpOp P ops (NQ K) j K' (a.put oi.dst v) w) :
    wpOp P ops (NQ K) j (fun a' w' => YieldsC P ops C oi v a' ∧ K' (a'.put oi.dst v) w') a w := by
  obtain ⟨h1, h2, h3⟩ := Oper.apart_spec hap
  have keep : ∀ (a : Act), YieldsC P ops C oi v a → ∀ u, YieldsC P ops C oi v (a.put oj.dst u) := fun a hy u =>
    hy.of_same (execOp_put oi hsi a oj.dst u h3) (wanted_put oi a oj.dst u h3)
  have keepD : ∀ d, YieldsC P ops C oi v { a with defers := d :: a.defers } := fun d => hy.of_same rfl rfl
  unfold wpOp at *
  simp only [hj] at *
  rw [wanted_put oj a oi.dst v h1] at h
  split
  · rename_i hw
    simp only [hw, if_true] at h
    rcases h with h | ⟨hasks, hlets⟩
    case inr => exact .inr ⟨by unfold Oper.asks at *; rw [execOp_put oj hsj a oi.dst v h1] at hasks; exact hasks, hlets⟩
    refine .inl ?_
    unfold Oper.wp at *
    rw [execOp_put oj hsj a oi.dst v h1] at h
    generalize (execOp a.eval oj).run P w = r at *
    cases r with
    | ok n w' =>
      cases n <;> simp only [Oper.upon] at h ⊢
      case value u => exact ⟨keep a hy u, by rw [← Act.put_comm a v u h2]; exact h⟩
      case skip => exact ⟨keep a hy _, by rw [← Act.put_comm a v undef h2]; exact h⟩
      case defer d =>
        refine ⟨keep _ (keepD d) _, ?_⟩
        rw [← Act.put_comm _ v undef h2, ← Act.put_defers]
        exact h
      case enter f args =>
        refine Calls.mono h fun e w'' he => ?_
        cases e with
        | returned u => exact ⟨keep a hy u, by rw [← Act.put_comm a v u h2]; exact he⟩
        | panicked c => exact he
        | outgrown => exact he
      case row row args => exact Rows.mono h fun u w'' he => ⟨keep a hy u, by rw [← Act.put_comm a v u h2]; exact he⟩
    | halt x w' =>
      cases x <;> simp only [Oper.upon] at h ⊢
      case panic u => exact h
  · rename_i hw
    simp only [hw] at h
    exact ⟨keep a hy _, by rw [← Act.put_comm a v undef h2]; exact h⟩

/-- all that an operation waits for is carried out -/
def Closed (ops : Array Oper) (listed : Array Bool) : Prop := ∀ (j : Nat) (o : Oper), ops[j]? = some o → listed.getD j false = true → ∀ e ∈ o.after, Region.binds .any e = true → listed.getD e.on false = true
theorem Closed.set {ops : Array Oper} {listed : Array Bool} {j : Nat} (h : Closed ops listed) (hj : j ∈ Region.ready .any ops listed) : Closed ops (listed.setIfInBounds j true) := by
  intro k o ho hk e he hb
  obtain ⟨_, oj, hoj, hall⟩ := mem_ready.1 hj
  by_cases hjk : j = k
  · subst hjk
    rw [hoj] at ho
    cases ho
    exact getD_set_true (hall e he hb)
  · rw [getD_set_ne false hjk] at hk
    exact getD_set_true (h k o ho hk e he hb)
/-- does the one wait for the other? -/
def reachB (ops : Array Oper) : Nat → Nat → Nat → Bool
  | 0, _, _ => false
  | n + 1, j, i => match ops[j]? with
    | some o => o.after.any fun e => Region.binds .any e && (e.on == i || reachB ops n e.on i)
    | none => false
theorem reachB_listed {ops : Array Oper} {listed : Array Bool} (hc : Closed ops listed) : ∀ (n : Nat) {j i : Nat} {o : Oper}, ops[j]? = some o → (∀ e ∈ o.after, Region.binds .any e = true → listed.getD e.on false = true) → reachB ops n j i = true → listed.getD i false = true
  | 0, _, _, _, _, _, h => by simp [reachB] at h
  | n + 1, j, i, o, ho, hall, h => by
    simp only [reachB, ho] at h
    rw [← Array.any_toList, List.any_eq_true] at h
    obtain ⟨e, he, h⟩ := h
    simp only [Bool.and_eq_true, Bool.or_eq_true, beq_iff_eq] at h
    have hl := hall e (by simpa using he) h.1
    rcases h.2 with h2 | h2
    · rw [← h2]; exact hl
    · cases hk : ops[e.on]? with
      | none =>
        cases n with
        | zero => simp [reachB] at h2
        | succ n => simp [reachB, hk] at h2
      | some ok => exact reachB_listed hc n hk (fun e' he' hb' => hc _ ok hk hl e' he' hb') h2

/-- what stands behind waits for all that stands ahead -/
def barOk (ops : Array Oper) (nA : Nat) (fl : List Nat) : Bool :=
  (List.range ops.size).all fun j => (j < nA || fl.contains j) || (List.range nA).all fun i => reachB ops 6 j i

theorem barOk_spec {fl : List Nat} (h : barOk ops nA fl = true) {j : Nat} {o : Oper} (ho : ops[j]? = some o) (hj : nA ≤ j) (hjf : j ∉ fl) {i : Nat} (hi : i < nA) : reachB ops 6 j i = true := by
  unfold barOk at h
  rw [List.all_eq_true] at h
  have hlt : j < ops.size := (Array.getElem?_eq_some_iff.1 ho).1
  have h1 := h j (List.mem_range.2 hlt)
  have : (decide (j < nA) || fl.contains j) = false := by simp [hjf]; omega
  rw [this, Bool.false_or, List.all_eq_true] at h1
  exact h1 i (List.mem_range.2 hi)

theorem getD_set_keep {l : Array Bool} {j k : Nat} (h : l.getD k true = true) : (l.setIfInBounds j true).getD k true = true := by
  by_cases hjk : j = k
  · subst hjk
    by_cases hs : j < l.size
    · simp [hs]
    · simp [hs]
  · rw [getD_set_ne true hjk]; exact h

theorem wpG_first {i : Nat} {oi : Oper} {v : Value} {fl : List Nat} (hbar : barOk ops nA fl = true) (hi : ops[i]? = some oi) (hiA : i < nA) (hsel : ∀ (j : Nat) (o : Oper) cs b, ops[j]? = some o → o.op ≠ .select cs b) :
    ∀ (fuel : Nat) (listed : Array Bool) (a : Act) (w : World),
      (∀ j oj, ops[j]? = some oj → j ≠ i → listed.getD j true = false → (∀ e ∈ oj.after, Region.binds .any e = true → e.on ≠ i) → oi.apart ops oj = true) →
      (∀ j ∈ fl, listed.getD j true = true) → Closed ops listed → i ∈ Region.ready .any ops listed → YieldsC P ops C oi v a →
      wpG P ops K C nA fuel (listed.setIfInBounds i true) (a.put oi.dst v) w → wpG P ops K C nA (fuel + 1) listed a w := by
  intro fuel
  induction fuel with
  | zero =>
    intro listed a w _ _ _ hr hy H
    refine ⟨H.1, fun hA => ?_, fun _ => ⟨fun h => (by rw [h] at hr; cases hr), fun j hj => ?_⟩⟩
    · have := hA i hiA
      rw [(mem_ready.1 hr).1] at this
      cases this
    · by_cases hji : j = i
      · subst hji; exact hy.wpOp hi H.1 H
      · have := ready_mono hj hji
        rw [H.2.1] at this
        cases this
  | succ fuel ih =>
    intro listed a w hfree hfl hcl hr hy H
    refine ⟨H.1, fun hA => ?_, fun _ => ⟨fun h => (by rw [h] at hr; cases hr), fun j hj => ?_⟩⟩
    · have := hA i hiA
      rw [(mem_ready.1 hr).1] at this
      cases this
    · by_cases hji : j = i
      · subst hji; exact hy.wpOp hi H.1 H
      · obtain ⟨hjun, oj, hoj, hall⟩ := mem_ready.1 hj
        have hnot : ∀ e ∈ oj.after, Region.binds .any e = true → e.on ≠ i := fun e he hb heq => by
          have h1 := hall e he hb
          have h0 := (mem_ready.1 hr).1
          rw [heq] at h1
          rcases Nat.lt_or_ge i listed.size with h' | h'
          · simp [h'] at h0 h1; rw [h0] at h1; cases h1
          · simp [Array.getElem?_eq_none h'] at h1
        have hjA : j < nA := by
          rcases Nat.lt_or_ge j nA with h' | h'
          · exact h'
          · have hjf : j ∉ fl := fun hm => by have := hfl j hm; rw [hjun] at this; cases this
            have hli := reachB_listed hcl 6 hoj hall (barOk_spec hbar hoj h' hjf hiA)
            have h0 := (mem_ready.1 hr).1
            rcases Nat.lt_or_ge i listed.size with h' | h'
            · simp [h'] at h0 hli; rw [h0] at hli; cases hli
            · simp [Array.getElem?_eq_none h'] at hli
        have hnA : ¬ allA nA (listed.setIfInBounds i true) := fun hA => by
          have := hA j hjA
          rw [getD_set_ne true (Ne.symm hji), hjun] at this
          cases this
        have h1 := (H.2.2 hnA).2 j (ready_mono hj hji)
        have h2 := wpOpC_put hoj (hfree j oj hoj hji hjun hnot) (fun cs b => hsel i oi cs b hi) (fun cs b => hsel j oj cs b hoj) hy h1
        have hfree' : ∀ k ok, ops[k]? = some ok → k ≠ i → (listed.setIfInBounds j true).getD k true = false →
            (∀ e ∈ ok.after, Region.binds .any e = true → e.on ≠ i) → oi.apart ops ok = true := fun k ok hk hki hun hno => by
          refine hfree k ok hk hki ?_ hno
          by_cases hjk : j = k
          · subst hjk; exact hjun
          · rw [getD_set_ne true hjk] at hun; exact hun
        have hfl' : ∀ k ∈ fl, (listed.setIfInBounds j true).getD k true = true := fun k hk => getD_set_keep (hfl k hk)
        refine wpOp_mono (fun a' w' h3 => ih (listed.setIfInBounds j true) a' w' hfree' hfl' (hcl.set hj) (ready_mono hr (Ne.symm hji)) h3.1 ?_) h2
        rw [Array.setIfInBounds_comm _ _ hji]
        exact h3.2

/-- an operation that only computes may be taken first wherever it stands -/
theorem wpAny_float {i : Nat} {oi : Oper} {v : Value} (hi : ops[i]? = some oi) (hsel : ∀ (j : Nat) (o : Oper) cs b, ops[j]? = some o → o.op ≠ .select cs b) :
    ∀ (fuel : Nat) (listed : Array Bool) (a : Act) (w : World),
      (∀ j oj, ops[j]? = some oj → j ≠ i → listed.getD j true = false → (∀ e ∈ oj.after, Region.binds .any e = true → e.on ≠ i) → oi.apart ops oj = true) →
      i ∈ Region.ready .any ops listed → YieldsC P ops (fun _ => True) oi v a →
      wpAny P .any ops (NQ K) fuel (listed.setIfInBounds i true) (a.put oi.dst v) w → wpAny P .any ops (NQ K) (fuel + 1) listed a w := by
  intro fuel
  induction fuel with
  | zero =>
    intro listed a w _ hr hy H
    refine ⟨fun h => (by rw [h] at hr; cases hr), fun j hj => ?_⟩
    by_cases hji : j = i
    · subst hji; exact hy.wpOp hi trivial H
    · have := ready_mono hj hji
      rw [H.1] at this
      cases this
  | succ fuel ih =>
    intro listed a w hfree hr hy H
    refine ⟨fun h => (by rw [h] at hr; cases hr), fun j hj => ?_⟩
    by_cases hji : j = i
    · subst hji; exact hy.wpOp hi trivial H
    · obtain ⟨hjun, oj, hoj, hall⟩ := mem_ready.1 hj
      have hnot : ∀ e ∈ oj.after, Region.binds .any e = true → e.on ≠ i := fun e he hb heq => by
        have h1 := hall e he hb
        have h0 := (mem_ready.1 hr).1
        rw [heq] at h1
        rcases Nat.lt_or_ge i listed.size with h' | h'
        · simp [h'] at h0 h1; rw [h0] at h1; cases h1
        · simp [Array.getElem?_eq_none h'] at h1
      have h1 := H.2 j (ready_mono hj hji)
      have h2 := wpOpC_put hoj (hfree j oj hoj hji hjun hnot) (fun cs b => hsel i oi cs b hi) (fun cs b => hsel j oj cs b hoj) hy h1
      have hfree' : ∀ k ok, ops[k]? = some ok → k ≠ i → (listed.setIfInBounds j true).getD k true = false →
          (∀ e ∈ ok.after, Region.binds .any e = true → e.on ≠ i) → oi.apart ops ok = true := fun k ok hk hki hun hno => by
        refine hfree k ok hk hki ?_ hno
        by_cases hjk : j = k
        · subst hjk; exact hjun
        · rw [getD_set_ne true hjk] at hun; exact hun
      refine wpOp_mono (fun a' w' h3 => ih (listed.setIfInBounds j true) a' w' hfree' (ready_mono hr (Ne.symm hji)) h3.1 ?_) h2
      rw [Array.setIfInBounds_comm _ _ hji]
      exact h3.2
theorem wpG_float {i : Nat} {oi : Oper} {v : Value} (hi : ops[i]? = some oi) (hiA : nA ≤ i) (hsel : ∀ (j : Nat) (o : Oper) cs b, ops[j]? = some o → o.op ≠ .select cs b) :
    ∀ (fuel : Nat) (listed : Array Bool) (a : Act) (w : World),
      (∀ j oj, ops[j]? = some oj → j ≠ i → listed.getD j true = false → (∀ e ∈ oj.after, Region.binds .any e = true → e.on ≠ i) → oi.apart ops oj = true) →
      i ∈ Region.ready .any ops listed → YieldsC P ops (fun _ => True) oi v a →
      wpG P ops K C nA fuel (listed.setIfInBounds i true) (a.put oi.dst v) w → wpG P ops K C nA (fuel + 1) listed a w := by
  intro fuel
  induction fuel with
  | zero =>
    intro listed a w hfree hr hy H
    refine ⟨H.1, fun _ => wpAny_float hi hsel 0 listed a w hfree hr hy H.2, fun _ => ⟨fun h => (by rw [h] at hr; cases hr), fun j hj => ?_⟩⟩
    by_cases hji : j = i
    · subst hji; exact hy.wpOp hi trivial H
    · have := ready_mono hj hji
      rw [H.2.1] at this
      cases this
  | succ fuel ih =>
    intro listed a w hfree hr hy H
    refine ⟨H.1, fun _ => wpAny_float hi hsel (fuel + 1) listed a w hfree hr hy (wpAny_of_G _ _ _ _ H), fun hnA => ⟨fun h => (by rw [h] at hr; cases hr), fun j hj => ?_⟩⟩
    by_cases hji : j = i
    · subst hji; exact hy.wpOp hi trivial H
    · obtain ⟨hjun, oj, hoj, hall⟩ := mem_ready.1 hj
      have hnot : ∀ e ∈ oj.after, Region.binds .any e = true → e.on ≠ i := fun e he hb heq => by
        have h1 := hall e he hb
        have h0 := (mem_ready.1 hr).1
        rw [heq] at h1
        rcases Nat.lt_or_ge i listed.size with h' | h'
        · simp [h'] at h0 h1; rw [h0] at h1; cases h1
        · simp [Array.getElem?_eq_none h'] at h1
      have hnA' : ¬ allA nA (listed.setIfInBounds i true) := fun hA => hnA fun k hk => by
        have := hA k hk
        rwa [getD_set_ne true (show i ≠ k by omega)] at this
      have h1 := (H.2.2 hnA').2 j (ready_mono hj hji)
      have h2 := wpOpC_put hoj (hfree j oj hoj hji hjun hnot) (fun cs b => hsel i oi cs b hi) (fun cs b => hsel j oj cs b hoj) hy h1
      have hfree' : ∀ k ok, ops[k]? = some ok → k ≠ i → (listed.setIfInBounds j true).getD k true = false →
          (∀ e ∈ ok.after, Region.binds .any e = true → e.on ≠ i) → oi.apart ops ok = true := fun k ok hk hki hun hno => by
        refine hfree k ok hk hki ?_ hno
        by_cases hjk : j = k
        · subst hjk; exact hjun
        · rw [getD_set_ne true hjk] at hun; exact hun
      refine wpOp_mono (fun a' w' h3 => ih (listed.setIfInBounds j true) a' w' hfree' (ready_mono hr (Ne.symm hji)) h3.1 ?_) h2
      rw [Array.setIfInBounds_comm _ _ hji]
      exact h3.2

/-! ### Along a plan -/
def mk (n : Nat) : List Nat → Array Bool
  | [] => Array.replicate n false
  | i :: r => (mk n r).setIfInBounds i true

/-- is this an order in which each is ready, and may be taken first (true) or is alone (false)? -/
def planOk (ops : Array Oper) (nA : Nat) : List (Nat × Bool) → List Nat → Bool
  | [], dn => (Region.ready .any ops (mk ops.size dn)).isEmpty
  | (i, true) :: r, dn => (Region.ready .any ops (mk ops.size dn)).contains i && Region.free .any ops (mk ops.size dn) i && (decide (i < nA) && planOk ops nA r (i :: dn))
  | (i, false) :: r, dn => (Region.ready .any ops (mk ops.size dn) == [i]) && (decide (i < nA) && planOk ops nA r (i :: dn))
def planB (ops : Array Oper) : List Nat → List Nat → Bool
  | [], dn => (Region.ready .any ops (mk ops.size dn)).isEmpty
  | i :: r, dn => match Nat.blt i ops.size with
    | true => (Region.ready .any ops (mk ops.size dn) == [i]) && planB ops r (i :: dn)
    | false => (Region.ready .any ops (mk ops.size dn)).contains (i - ops.size) && Region.free .any ops (mk ops.size dn) (i - ops.size) && planB ops r ((i - ops.size) :: dn)
def plansOk (ops : Array Oper) (nA m : Nat) : List (Nat × Bool) → List Nat → List Nat → Bool
  | [], pb, dn => match m with
    | 0 => (List.range nA).all (fun i => (mk ops.size dn).getD i true) && planB ops pb dn
    | _ + 1 => true
  | (i, true) :: r, pb, dn => (Region.ready .any ops (mk ops.size dn)).contains i && Region.free .any ops (mk ops.size dn) i && (decide (i < nA) && plansOk ops nA m r pb (i :: dn))
  | (i, false) :: r, pb, dn => (Region.ready .any ops (mk ops.size dn) == [i]) && (decide (i < nA) && plansOk ops nA m r pb (i :: dn))

structure Dr where
  nA : Nat
  pb : List Nat
  C : World → Prop
  fl : List Nat := []
  m : Nat := 0

/-- the second part: one behind the other -/
def WB (P : Program) (f : Fs) (ops : Array Oper) (K : Act → World → Prop) (pl : List Nat) (dn : List Nat) (env : Env) (w : World) : Prop :=
  planB ops pl dn = true → ∀ a, Ag f env a → wpAny P .any ops (NQ K) pl.length (mk ops.size dn) a w
/-- the first part: what only reads may be taken first -/
def WD (P : Program) (f : Fs) (ops : Array Oper) (K : Act → World → Prop) (r : Dr) (pl : List (Nat × Bool)) (dn : List Nat) (env : Env) (w : World) : Prop :=
  plansOk ops r.nA r.m pl r.pb dn = true → barOk ops r.nA r.fl = true ∧ (∀ j ∈ r.fl, (mk ops.size dn).getD j true = true) ∧ Closed ops (mk ops.size dn) → Region.noSelect ops = true → r.C w → ∀ a, Ag f env a → wpG P ops K r.C r.nA (pl.length + r.m + r.pb.length) (mk ops.size dn) a w

variable {f : Fs} {env : Env} {w : World}

theorem wb_nil {Q : XPost} {dn : List Nat} (h : Fin f Q .normal env w) : WB P f ops (Q .normal) [] dn env w :=
  fun hp a ha => ⟨by simpa [planB] using hp, h a ha⟩
theorem wb {i : Nat} {o : Oper} {pl dn : List Nat} (ho : ops[i]? = some o) (h : St P f ops o env w (WB P f ops K pl (i :: dn))) : WB P f ops K (i :: pl) dn env w := by
  intro hp a ha
  have hlt : Nat.blt i ops.size = true := by
    have : i < ops.size := (Array.getElem?_eq_some_iff.1 ho).1
    simpa using this
  simp only [planB, hlt, Bool.and_eq_true, beq_iff_eq] at hp
  obtain ⟨hr, hp'⟩ := hp
  refine ⟨fun h0 => (by rw [hr] at h0; cases h0), fun j hj => ?_⟩
  rw [hr] at hj
  obtain rfl : j = i := by simpa using hj
  unfold wpOp
  simp only [ho]
  exact h a (NQ K) _ ha fun env' a' w' ha' hK => hK hp' a' ha'

/-- an operation that only computes, though others could come: in the list it stands as the number of all operations and its own -/
theorem wbf {I : Info} (hI : I.Ok P) {i k : Nat} {o : Oper} {pl dn : List Nat} (ho : ops[i]? = some o) (hk : k = ops.size + i) (hp : pre f.n ops env o = true) {d : Nat} (hd : o.dst = some d) {v : Value} (hv : pev I o.op env = some v) (hs : Region.noSelect ops = true)
    (h : WB P f ops K pl (i :: dn) ((d, v) :: env) w) : WB P f ops K (k :: pl) dn env w := by
  subst hk
  intro hpl a ha
  have hlt : Nat.blt (ops.size + i) ops.size = false := by
    cases hb : Nat.blt (ops.size + i) ops.size with
    | false => rfl
    | true => have : ops.size + i < ops.size := Nat.le_of_ble_eq_true hb
              omega
  simp only [planB, hlt, Nat.add_sub_cancel_left, Bool.and_eq_true] at hpl
  obtain ⟨⟨hr, hf⟩, hp'⟩ := hpl
  obtain ⟨h1, h2⟩ := pre_eq hp
  have := h hp' (a.put o.dst v) (by have := ha.put (v := v) h2; rwa [hd] at this ⊢)
  rw [List.length_cons]
  exact wpAny_float ho (Region.noSelect_spec hs) _ _ a w (Region.free_spec ho hf) (by simpa using hr) (.inl ⟨takes_wanted ha h1, fun w' _ => pev_sound hI hv w' a.eval (fun x u hx => ha.eval hx)⟩) this

theorem wb_pass {i : Nat} {o : Oper} {pl dn : List Nat} (ho : ops[i]? = some o) (hg : passes ops env o = true) (hd : dOk f.n o.dst = true) (h : WB P f ops K pl (i :: dn) (pushE o.dst undef env) w) : WB P f ops K (i :: pl) dn env w :=
  wb ho (st_pass hg hd h)

theorem wd_sw {r : Dr} {dn : List Nat} (h : WB P f ops K r.pb dn env w) (hm : r.m = 0 := by rfl) : WD P f ops K r [] dn env w := by
  intro hp hb hs hC a ha
  simp only [plansOk, hm, Bool.and_eq_true, List.all_eq_true] at hp
  have hA : allA r.nA (mk ops.size dn) := fun i hi => hp.1 i (List.mem_range.2 hi)
  have := h hp.2 a ha
  simp only [List.length_nil, Nat.zero_add, hm]
  cases hl : r.pb.length with
  | zero => rw [hl] at this; exact ⟨hC, this⟩
  | succ n => rw [hl] at this; exact ⟨hC, fun _ => this, fun hn => absurd hA hn⟩

/-- it only reads -/
theorem wd_q {r : Dr} {i : Nat} {o : Oper} {v : Value} {pl : List (Nat × Bool)} {dn : List Nat} (ho : ops[i]? = some o) (hp : pre f.n ops env o = true) {d : Nat} (hdd : o.dst = some d) (hv : ∀ w', r.C w' → Ov P o env w' v w')
    (k : WD P f ops K r pl (i :: dn) ((d, v) :: env) w) : WD P f ops K r ((i, true) :: pl) dn env w := by
  obtain ⟨hg, hd⟩ := pre_eq hp
  have k : WD P f ops K r pl (i :: dn) (pushE o.dst v env) w := by rw [hdd]; exact k
  intro hp hb hs hC a ha
  simp only [plansOk, Bool.and_eq_true, decide_eq_true_eq] at hp
  obtain ⟨⟨hr, hf⟩, hiA, hp'⟩ := hp
  have := k hp' ⟨hb.1, fun j hj => getD_set_keep (hb.2.1 j hj), hb.2.2.set (by simpa using hr)⟩ hs hC _ (ha.put hd)
  simp only [List.length_cons]
  rw [show pl.length + 1 + r.m + r.pb.length = (pl.length + r.m + r.pb.length) + 1 from by omega]
  exact wpG_first hb.1 ho hiA (Region.noSelect_spec hs) _ _ a w (Region.free_spec ho hf) hb.2.1 hb.2.2 (by simpa using hr) (.inl ⟨takes_wanted ha hg, fun w' hw' => hv w' hw' a.eval (fun x u hx => ha.eval hx)⟩) this
theorem wd_pass {r : Dr} {i : Nat} {o : Oper} {pl : List (Nat × Bool)} {dn : List Nat} (ho : ops[i]? = some o) (hg : passes ops env o = true) (hd : dOk f.n o.dst = true)
    (k : WD P f ops K r pl (i :: dn) (pushE o.dst undef env) w) : WD P f ops K r ((i, true) :: pl) dn env w := by
  intro hp hb hs hC a ha
  simp only [plansOk, Bool.and_eq_true, decide_eq_true_eq] at hp
  obtain ⟨⟨hr, hf⟩, hiA, hp'⟩ := hp
  have := k hp' ⟨hb.1, fun j hj => getD_set_keep (hb.2.1 j hj), hb.2.2.set (by simpa using hr)⟩ hs hC _ (ha.put hd)
  simp only [List.length_cons]
  rw [show pl.length + 1 + r.m + r.pb.length = (pl.length + r.m + r.pb.length) + 1 from by omega]
  exact wpG_first hb.1 ho hiA (Region.noSelect_spec hs) _ _ a w (Region.free_spec ho hf) hb.2.1 hb.2.2 (by simpa using hr) (.inr ⟨passes_wanted ha hg, rfl⟩) this
/-- it is the only one that can come now: the world that it leaves is of the class, too -/
theorem wd_l {r : Dr} {i : Nat} {o : Oper} {pl : List (Nat × Bool)} {dn : List Nat} (ho : ops[i]? = some o) (h : St P f ops o env w (fun env' w' => r.C w' ∧ WD P f ops K r pl (i :: dn) env' w')) : WD P f ops K r ((i, false) :: pl) dn env w := by
  intro hp hb hs hC a ha
  simp only [plansOk, Bool.and_eq_true, decide_eq_true_eq, beq_iff_eq] at hp
  obtain ⟨hr, hiA, hp'⟩ := hp
  simp only [List.length_cons]
  rw [show pl.length + 1 + r.m + r.pb.length = (pl.length + r.m + r.pb.length) + 1 from by omega]
  have hun : (mk ops.size dn).getD i true = false := (mem_ready.1 (show i ∈ Region.ready .any ops (mk ops.size dn) from by rw [hr]; simp)).1
  refine ⟨hC, fun hA => ?_, fun _ => ⟨by rw [hr]; simp, fun j hj => ?_⟩⟩
  · have := hA i hiA
    rw [hun] at this; cases this
  · rw [hr] at hj
    obtain rfl : j = i := by simpa using hj
    unfold wpOp
    simp only [ho]
    exact h a (NQ K) _ ha fun env' a' w' ha' hK => hK.2 hp' ⟨hb.1, fun j hj => getD_set_keep (hb.2.1 j hj), hb.2.2.set (by rw [hr]; simp)⟩ hs hK.1 a' ha'

theorem wd_case {r : Dr} {pl : List (Nat × Bool)} {dn : List Nat} (d : Nat) {b : Bool} (hd : lk env d = some (.bool b)) (ht : b = true → WD P f ops K r pl dn ((d, .bool true) :: env) w) (hf : b = false → WD P f ops K r pl dn ((d, .bool false) :: env) w) : WD P f ops K r pl dn env w := by
  intro h1 h2 h3 h4 a ha
  have key : ∀ b', b = b' → Ag f ((d, .bool b') :: env) a := fun b' e => ⟨ha.defers, ha.size, fun i u hi => by
      rw [lk_cons] at hi
      split at hi
      · rename_i e'; subst e'; simp at hi; subst hi; subst e; exact ha.get _ _ hd
      · exact ha.get _ _ hi⟩
  cases b
  · exact hf rfl h1 h2 h3 h4 a (key _ rfl)
  · exact ht rfl h1 h2 h3 h4 a (key _ rfl)
theorem wd_caseD {r : Dr} {pl : List (Nat × Bool)} {dn : List Nat} (d : Nat) {p : Prop} [Decidable p] (hd : lk env d = some (.bool (decide p))) (ht : p → WD P f ops K r pl dn ((d, .bool true) :: env) w) (hf : ¬ p → WD P f ops K r pl dn ((d, .bool false) :: env) w) : WD P f ops K r pl dn env w :=
  wd_case d hd (fun h => ht (of_decide_eq_true h)) (fun h => hf (of_decide_eq_false h))

/-- as many as only compute -/
def pevsD (I : Info) (n : Nat) (ops : Array Oper) : List (Nat × Bool) → List Nat → Env → Option (List (Nat × Bool) × List Nat × Env)
  | [], dn, env => some ([], dn, env)
  | (i, false) :: r, dn, env => match ops[i]? with
    | none => none
    | some o => match passes ops env o with
      | true => match pushO n o.dst undef env with
        | some env' => pevsD I n ops r (i :: dn) env'
        | none => none
      | false => some ((i, false) :: r, dn, env)
  | (i, true) :: r, dn, env => match ops[i]? with
    | none => none
    | some o => match passes ops env o with
      | true => match pushO n o.dst undef env with
        | some env' => pevsD I n ops r (i :: dn) env'
        | none => none
      | false => match takes ops env o with
        | false => some ((i, true) :: r, dn, env)
        | true => match pev I o.op env with
          | none => some ((i, true) :: r, dn, env)
          | some v => match pushO n o.dst v env with
            | some env' => pevsD I n ops r (i :: dn) env'
            | none => none

theorem wd_p {I : Info} (hI : I.Ok P) {r : Dr} {pl pl' : List (Nat × Bool)} {dn dn' : List Nat} {env' : Env} (h : pevsD I f.n ops pl dn env = some (pl', dn', env')) (k : WD P f ops K r pl' dn' env' w) : WD P f ops K r pl dn env w := by
  induction pl generalizing env dn with
  | nil => simp [pevsD] at h; obtain ⟨rfl, rfl, rfl⟩ := h; exact k
  | cons x pl ih =>
    obtain ⟨i, q⟩ := x
    cases q with
    | false =>
      simp only [pevsD] at h
      split at h
      · cases h
      · rename_i o ho
        split at h
        · rename_i hp
          split at h
          · rename_i e he
            obtain ⟨hd, rfl⟩ := pushO_eq he
            exact fun h1 h2 h3 hC a ha => wd_l ho (st_pass hp hd ⟨hC, ih h⟩) h1 h2 h3 hC a ha
          · cases h
        · simp at h; obtain ⟨rfl, rfl, rfl⟩ := h; exact k
    | true =>
      simp only [pevsD] at h
      split at h
      · cases h
      · rename_i o ho
        split at h
        · rename_i hp
          split at h
          · rename_i e he
            obtain ⟨hd, rfl⟩ := pushO_eq he
            exact wd_pass ho hp hd (ih h)
          · cases h
        · split at h
          · simp at h; obtain ⟨rfl, rfl, rfl⟩ := h; exact k
          · rename_i ht
            split at h
            · simp at h; obtain ⟨rfl, rfl, rfl⟩ := h; exact k
            · rename_i v hv
              split at h
              · rename_i e he
                obtain ⟨hd, he'⟩ := pushO_eq he
                cases hdd : o.dst with
                | none => rw [hdd] at he; cases he
                | some d => exact wd_q ho (by simp [pre, ht, hd]) hdd (fun w' _ => pev_sound hI hv w') (by rw [hdd] at he'; subst he'; exact ih h)
              · cases h

/-- the same, so many of them -/
def pevsK (I : Info) (n : Nat) (ops : Array Oper) : Nat → List (Nat × Bool) → List Nat → Env → Option (List (Nat × Bool) × List Nat × Env)
  | 0, pl, dn, env => some (pl, dn, env)
  | _ + 1, [], dn, env => some ([], dn, env)
  | k + 1, (i, q) :: r, dn, env => match ops[i]? with
    | none => none
    | some o => match passes ops env o with
      | true => match pushO n o.dst undef env with
        | some env' => pevsK I n ops k r (i :: dn) env'
        | none => none
      | false => match q with
        | false => some ((i, false) :: r, dn, env)
        | true => match takes ops env o with
          | false => none
          | true => match pev I o.op env with
            | none => none
            | some v => match pushO n o.dst v env with
              | some env' => pevsK I n ops k r (i :: dn) env'
              | none => none
theorem wd_k {I : Info} (hI : I.Ok P) {r : Dr} {pl pl' : List (Nat × Bool)} {dn dn' : List Nat} {env' : Env} (k : Nat) (h : pevsK I f.n ops k pl dn env = some (pl', dn', env')) (hk : WD P f ops K r pl' dn' env' w) : WD P f ops K r pl dn env w := by
  induction k generalizing pl env dn with
  | zero => simp [pevsK] at h; obtain ⟨rfl, rfl, rfl⟩ := h; exact hk
  | succ k ih =>
    cases pl with
    | nil => simp [pevsK] at h; obtain ⟨rfl, rfl, rfl⟩ := h; exact hk
    | cons x pl =>
      obtain ⟨i, q⟩ := x
      simp only [pevsK] at h
      split at h
      · cases h
      · rename_i o ho
        split at h
        · rename_i hp
          split at h
          · rename_i e he
            obtain ⟨hd, rfl⟩ := pushO_eq he
            cases q with
            | true => exact wd_pass ho hp hd (ih h)
            | false => exact fun h1 h2 h3 hC a ha => wd_l ho (st_pass hp hd ⟨hC, ih h⟩) h1 h2 h3 hC a ha
          · cases h
        · cases q with
          | false => simp at h; obtain ⟨rfl, rfl, rfl⟩ := h; exact hk
          | true =>
            simp only at h
            split at h
            · cases h
            · rename_i ht
              split at h
              · cases h
              · rename_i v hv
                split at h
                · rename_i e he
                  obtain ⟨hd, he'⟩ := pushO_eq he
                  cases hdd : o.dst with
                  | none => rw [hdd] at he; cases he
                  | some d => exact wd_q ho (by simp [pre, ht, hd]) hdd (fun w' _ => pev_sound hI hv w') (by rw [hdd] at he'; subst he'; exact ih h)
                · cases h

theorem closed_nil (ops : Array Oper) (n : Nat) : Closed ops (mk n []) := by
  intro j o _ hj
  simp only [mk] at hj
  rcases Nat.lt_or_ge j n with h | h
  · simp [h] at hj
  · simp [h] at hj

/-- the region: what it reads is the same in every world that is as w but for S and for what is new -/
theorem c_draw {Q : XPost} {id : Nat} {l : List Oper} (hm : P.follows .mixedOrders = true) (nA : Nat) (pl : List (Nat × Bool)) (pb : List Nat) (S : Nat → Prop)
    (hok : (plansOk l.toArray nA 0 pl pb [] && barOk l.toArray nA [] && Region.noSelect l.toArray && Nat.beq (pl.length + pb.length) l.length) = true)
    (h : ∀ w1, Ext No w w1 → w1.heap.size = w.heap.size → WD P f l.toArray (Q .normal) ⟨nA, pb, Ext S w, [], 0⟩ pl [] env w1) : WC P f (.region id l.toArray true) Q env w := by
  intro a ha
  simp only [Bool.and_eq_true] at hok
  obtain ⟨⟨⟨h1, h2⟩, h3⟩, h4⟩ := hok
  have hG := h _ (Ext.drew' w) rfl h1 ⟨h2, fun _ hj => (by cases hj), closed_nil _ _⟩ h3 (Ext.drew' w).no a ha
  have hl : pl.length + pb.length = l.toArray.size := by simpa using Nat.eq_of_beq_eq_true h4
  refine wp_mono (Q := NQ (Q .normal)) (wp_region_any hm ?_) fun e a' w' he => by cases e <;> first | exact he | exact he.elim
  have := wpAny_of_G _ _ _ _ hG
  simp only [Nat.add_zero] at this
  rwa [hl] at this

/-- those that only compute and stand anywhere: they are taken first -/
def floatsOk (ops : Array Oper) (nA : Nat) : List Nat → List Nat → Bool
  | [], _ => true
  | i :: r, dn => (Region.ready .any ops (mk ops.size dn)).contains i && Region.free .any ops (mk ops.size dn) i && (Nat.ble nA i && floatsOk ops nA r (i :: dn))
def floatsE (I : Info) (n : Nat) (ops : Array Oper) : List Nat → List Nat → Env → Option (List Nat × Env)
  | [], dn, env => some (dn, env)
  | i :: r, dn, env => match ops[i]? with
    | none => none
    | some o => match takes ops env o with
      | false => none
      | true => match pev I o.op env with
        | none => none
        | some v => match pushO n o.dst v env with
          | some env' => floatsE I n ops r (i :: dn) env'
          | none => none
theorem floats_G {I : Info} (hI : I.Ok P) {C : World → Prop} {nA : Nat} (hs : Region.noSelect ops = true) : ∀ (fl dn dn' : List Nat) (env env' : Env) (fuel : Nat) (a : Act), floatsOk ops nA fl dn = true → floatsE I f.n ops fl dn env = some (dn', env') → Ag f env a →
    (∀ a', Ag f env' a' → wpG P ops K C nA fuel (mk ops.size dn') a' w) → wpG P ops K C nA (fl.length + fuel) (mk ops.size dn) a w
  | [], dn, dn', env, env', fuel, a, _, h, ha, k => by
    simp only [floatsE, Option.some.injEq, Prod.mk.injEq] at h
    obtain ⟨rfl, rfl⟩ := h
    simpa using k a ha
  | i :: r, dn, dn', env, env', fuel, a, hok, h, ha, k => by
    simp only [floatsOk, Bool.and_eq_true] at hok
    obtain ⟨⟨hr, hf⟩, hiA, hok'⟩ := hok
    simp only [floatsE] at h
    split at h
    · cases h
    · rename_i o ho
      split at h
      · cases h
      · rename_i ht
        split at h
        · cases h
        · rename_i v hv
          split at h
          · rename_i e1 he
            obtain ⟨hd, rfl⟩ := pushO_eq he
            have := floats_G hI hs r (i :: dn) dn' _ env' fuel _ hok' h (ha.put hd) k
            rw [List.length_cons, show r.length + 1 + fuel = (r.length + fuel) + 1 from by omega]
            exact wpG_float ho (Nat.le_of_ble_eq_true hiA) (Region.noSelect_spec hs) _ _ a w (Region.free_spec ho hf) (by simpa using hr) (.inl ⟨takes_wanted ha ht, fun w' _ => pev_sound hI hv w' a.eval (fun x u hx => ha.eval hx)⟩) this
          · cases h

theorem closed_floats {ops : Array Oper} {nA : Nat} : ∀ (fl dn : List Nat), floatsOk ops nA fl dn = true → Closed ops (mk ops.size dn) → Closed ops (mk ops.size (fl.reverse ++ dn))
  | [], _, _, h => h
  | i :: r, dn, hok, h => by
    simp only [floatsOk, Bool.and_eq_true] at hok
    rw [List.reverse_cons, List.append_assoc]
    exact closed_floats r (i :: dn) hok.2.2 (h.set (by simpa using hok.1.1))

/-- the region, with floats -/
theorem c_drawF {I : Info} (hI : I.Ok P) {Q : XPost} {id : Nat} {l : List Oper} (hm : P.follows .mixedOrders = true) (fl : List Nat) (nA : Nat) (pl : List (Nat × Bool)) (pb : List Nat) (S : Nat → Prop)
    (hok : (floatsOk l.toArray nA fl [] && plansOk l.toArray nA 0 pl pb fl.reverse && barOk l.toArray nA fl && Region.noSelect l.toArray && Nat.beq (fl.length + (pl.length + pb.length)) l.length && fl.all (fun j => (mk l.toArray.size fl.reverse).getD j true)) = true)
    {env' : Env} (hfl : floatsE I f.n l.toArray fl [] env = some (fl.reverse, env'))
    (h : ∀ w1, Ext No w w1 → w1.heap.size = w.heap.size → WD P f l.toArray (Q .normal) ⟨nA, pb, Ext S w, fl, 0⟩ pl fl.reverse env' w1) : WC P f (.region id l.toArray true) Q env w := by
  intro a ha
  simp only [Bool.and_eq_true] at hok
  obtain ⟨⟨⟨⟨⟨h0, h1⟩, h2⟩, h3⟩, h4⟩, h5⟩ := hok
  have hl : fl.length + (pl.length + pb.length) = l.toArray.size := by simpa using Nat.eq_of_beq_eq_true h4
  refine wp_mono (Q := NQ (Q .normal)) (wp_region_any hm ?_) fun e a' w' he => by cases e <;> first | exact he | exact he.elim
  have hG := floats_G (w := { w with drawn := w.drawn + 1 }) hI (nA := nA) (C := Ext S w) (K := Q .normal) h3 fl [] fl.reverse env env' (pl.length + pb.length) a h0 hfl ha
  have := hG fun a' ha' => h _ (Ext.drew' w) rfl h1 ⟨h2, fun j hj => List.all_eq_true.1 h5 j hj, by have := closed_floats fl [] h0 (closed_nil _ _); rwa [List.append_nil] at this⟩ h3 (Ext.drew' w).no a' ha'
  have := wpAny_of_G _ _ _ _ this
  rwa [hl] at this

/-- an operation that only computes -/
theorem st_p {I : Info} (hI : I.Ok P) {o : Oper} {v : Value} {K' : Env → World → Prop} (hp : pre f.n ops env o = true) {d : Nat} (hd : o.dst = some d) (hv : pev I o.op env = some v) (k : K' ((d, v) :: env) w) : St P f ops o env w K' :=
  have ⟨h1, h2⟩ := pre_eq hp
  st_v h1 h2 (pev_sound hI hv w) (by rw [hd]; exact k)

theorem wd_keep {r : Dr} {pl : List (Nat × Bool)} {dn : List Nat} (ls : List Nat) {env' : Env} (hp : pick env ls = some env') (h : WD P f ops K r pl dn env' w) : WD P f ops K r pl dn env w :=
  fun h1 h2 h3 h4 a ha => h h1 h2 h3 h4 a (ha.sub (pick_subs hp))

/-! ### Several could come -/
/-- so many operations of the first part are to come, in whatever order -/
def WX (P : Program) (f : Fs) (ops : Array Oper) (K : Act → World → Prop) (r : Dr) (k : Nat) (dn : List Nat) (env : Env) (w : World) : Prop :=
  barOk ops r.nA r.fl = true ∧ (∀ j ∈ r.fl, (mk ops.size dn).getD j true = true) ∧ Closed ops (mk ops.size dn) → Region.noSelect ops = true → r.C w → ∀ a, Ag f env a → wpG P ops K r.C r.nA (k + r.pb.length) (mk ops.size dn) a w
def Alts (P : Program) (f : Fs) (ops : Array Oper) (K : Act → World → Prop) (r : Dr) (k : Nat) (dn : List Nat) (env : Env) (w : World) : List Nat → Prop
  | [] => True
  | i :: is => (∃ o, ops[i]? = some o ∧ St P f ops o env w (fun env' w' => r.C w' ∧ WX P f ops K r k (i :: dn) env' w')) ∧ Alts P f ops K r k dn env w is
theorem Alts.get {r : Dr} {k : Nat} {dn : List Nat} : ∀ {is : List Nat}, Alts P f ops K r k dn env w is → ∀ i ∈ is, ∃ o, ops[i]? = some o ∧ St P f ops o env w (fun env' w' => r.C w' ∧ WX P f ops K r k (i :: dn) env' w')
  | [], _, i, hi => by cases hi
  | j :: is, h, i, hi => by
    rcases List.mem_cons.1 hi with rfl | hi
    · exact h.1
    · exact h.2.get i hi
theorem wd_tail {r : Dr} {dn : List Nat} {k : Nat} (hm : r.m = k) (h : WX P f ops K r k dn env w) : WD P f ops K r [] dn env w := by
  intro _ hb hs hC a ha
  simp only [List.length_nil, Nat.zero_add, hm]
  exact h hb hs hC a ha
theorem wx_plan {r : Dr} {dn : List Nat} {k : Nat} (pl : List (Nat × Bool)) (m : Nat) (hk : k = pl.length + m) (hp : plansOk ops r.nA m pl r.pb dn = true) (h : WD P f ops K { r with m := m } pl dn env w) : WX P f ops K r k dn env w := by
  subst hk
  exact fun hb hs hC a ha => h hp hb hs hC a ha
theorem wx_alt {r : Dr} {k m : Nat} {dn : List Nat} (is : List Nat) (hk : k = m + 1) (hr : ((Region.ready .any ops (mk ops.size dn) == is) && is.all (fun i => Nat.blt i r.nA) && !is.isEmpty) = true) (h : Alts P f ops K r m dn env w is) : WX P f ops K r k dn env w := by
  subst hk
  intro hb hs hC a ha
  simp only [Bool.and_eq_true, beq_iff_eq, List.all_eq_true] at hr
  obtain ⟨⟨hr, hlt⟩, hne⟩ := hr
  have hne' : is ≠ [] := by intro e; subst e; simp at hne
  rw [show m + 1 + r.pb.length = (m + r.pb.length) + 1 from by omega]
  refine ⟨hC, fun hA => ?_, fun _ => ⟨by rw [hr]; exact hne', fun j hj => ?_⟩⟩
  · obtain ⟨i, hi⟩ := List.exists_mem_of_ne_nil is hne'
    have h1 : i ∈ Region.ready .any ops (mk ops.size dn) := by rw [hr]; exact hi
    have h2 := hA i (by simpa using hlt i hi)
    rw [(mem_ready.1 h1).1] at h2
    cases h2
  · have hj' := hj
    rw [hr] at hj'
    obtain ⟨o, ho, hst⟩ := h.get j hj'
    unfold wpOp
    simp only [ho]
    exact hst a (NQ K) _ ha fun env' a' w' ha' hK => hK.2 ⟨hb.1, fun i hi => getD_set_keep (hb.2.1 i hi), hb.2.2.set hj⟩ hs hK.1 a' ha'
/-- the region in which several could come -/
theorem c_drawX {Q : XPost} {id : Nat} {l : List Oper} (hm : P.follows .mixedOrders = true) (nA : Nat) (k : Nat) (pb : List Nat) (S : Nat → Prop)
    (hok : (barOk l.toArray nA [] && Region.noSelect l.toArray && Nat.beq (k + pb.length) l.length) = true)
    (h : ∀ w1, Ext No w w1 → w1.heap.size = w.heap.size → WX P f l.toArray (Q .normal) ⟨nA, pb, Ext S w, [], 0⟩ k [] env w1) : WC P f (.region id l.toArray true) Q env w := by
  intro a ha
  simp only [Bool.and_eq_true] at hok
  obtain ⟨⟨h2, h3⟩, h4⟩ := hok
  have hG := h _ (Ext.drew' w) rfl ⟨h2, fun _ hj => (by cases hj), closed_nil _ _⟩ h3 (Ext.drew' w).no a ha
  have hl : k + pb.length = l.toArray.size := by simpa using Nat.eq_of_beq_eq_true h4
  refine wp_mono (Q := NQ (Q .normal)) (wp_region_any hm ?_) fun e a' w' he => by cases e <;> first | exact he | exact he.elim
  have := wpAny_of_G _ _ _ _ hG
  rwa [hl] at this
end
end Go.Vc
