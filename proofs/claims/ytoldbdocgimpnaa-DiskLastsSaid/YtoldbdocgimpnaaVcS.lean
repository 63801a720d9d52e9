/-
  Scopes in which the run jumps back to one label.
-/
import Derived.Test.YtoldbdocgimpnaaVcR
import Derived.ScopeJumps
namespace Go.Vc

variable {P : Program} {f : Fs} {Q : XPost} {env : Env} {w : World}

/-- A way into a label, and the rounds from it: each one jumps back to it, and then the measure is less, or leaves. -/
theorem c_scopeJ {x y : Code} {α : Type} (l : Nat) (hf : findLabel (.seq x (.seq (.label l) y)) l = some (.seq .skip y)) (I : α → World → Prop) (E : α → Env) (μ : α → World → Nat)
    (first : WC P f x (Exit.then (fun a w => ∃ z, Ag f (E z) a ∧ I z w) (Exit.noGoto Q)) env w)
    (round : ∀ z w, I z w → WC P f y (Exit.jump l (fun a' w' => ∃ z', Ag f (E z') a' ∧ I z' w' ∧ μ z' w' < μ z w) Q) (E z) w) :
    WC P f (.scope (.seq x (.seq (.label l) y))) Q env w := by
  intro a ha b k cs
  have hg : gotoIn l (.inScope (.seq x (.seq (.label l) y)) :: k) = some (.code (.seq .skip y) :: .inScope (.seq x (.seq (.label l) y)) :: k) := by simp only [gotoIn, hf]
  have key : ∀ n z a w, μ z w = n → I z w → Ag f (E z) a → ∃ e a' w', Q e a' w' ∧ Arrives P (lone (b.at a (.code (.seq .skip y) :: .inScope (.seq x (.seq (.label l) y)) :: k)) cs w) b k cs e a' w' := by
    intro n
    induction n using Nat.strongRecOn with
    | _ n ih =>
      intro z a w hn hI hag
      have hy : (Code.seq .skip y).wp P (Exit.jump l (fun a' w' => ∃ z', Ag f (E z') a' ∧ I z' w' ∧ μ z' w' < μ z w) Q) a w := wp_seq (wp_skip (round z w hI a hag))
      obtain ⟨e, a₁, w₁, hq, harr⟩ := hy b (.inScope (.seq x (.seq (.label l) y)) :: k) cs
      cases e with
      | normal => exact ⟨.normal, a₁, w₁, hq, Steps.trans harr (.one step_inScope)⟩
      | exit id => exact ⟨.exit id, a₁, w₁, hq, fun k' hk => harr k' (by simp [exitTo, hk])⟩
      | goto l' =>
        obtain ⟨rfl, z', hag', hI', hlt⟩ := hq
        obtain ⟨e₂, a₂, w₂, hq₂, harr₂⟩ := ih _ (by omega) z' a₁ w₁ rfl hI' hag'
        exact ⟨e₂, a₂, w₂, hq₂, .of_steps (harr _ hg) harr₂⟩
      | ret => exact ⟨_, a₁, w₁, hq, harr⟩
      | panic ch => exact ⟨_, a₁, w₁, hq, harr⟩
      | outgrown => exact ⟨_, a₁, w₁, hq, harr⟩
  have hfirst : (Code.seq x (.seq (.label l) y)).wp P (Exit.jump l (fun a' w' => ∃ z', Ag f (E z') a' ∧ I z' w') Q) a w := by
    refine wp_seq (wp_mono (first a ha) fun e a' w' h => ?_)
    cases e with
    | normal =>
      obtain ⟨z, hag, hI⟩ := h
      refine wp_seq (wp_label (wp_mono (round z w' hI a' hag) fun e a'' w'' h => ?_))
      cases e with
      | goto l' => obtain ⟨rfl, z', hag', hI', _⟩ := h; exact ⟨rfl, z', hag', hI'⟩
      | normal => exact h
      | exit id => exact h
      | ret => exact h
      | panic ch => exact h
      | outgrown => exact h
    | goto l' => exact h.elim
    | exit id => exact h
    | ret => exact h
    | panic ch => exact h
    | outgrown => exact h
  obtain ⟨e, a₁, w₁, hq, harr⟩ := hfirst b (.inScope (.seq x (.seq (.label l) y)) :: k) cs
  cases e with
  | normal => exact ⟨.normal, a₁, w₁, hq, .head step_scope (Steps.trans harr (.one step_inScope))⟩
  | exit id => exact ⟨.exit id, a₁, w₁, hq, fun k' hk => .head step_scope (harr k' (by simp [exitTo, hk]))⟩
  | goto l' =>
    obtain ⟨rfl, z, hag, hI⟩ := hq
    obtain ⟨e₂, a₂, w₂, hq₂, harr₂⟩ := key _ z a₁ w₁ rfl hI hag
    exact ⟨e₂, a₂, w₂, hq₂, .of_steps (.head step_scope (harr _ hg)) harr₂⟩
  | ret => exact ⟨_, a₁, w₁, hq, .of_steps (.one step_scope) harr⟩
  | panic ch => exact ⟨_, a₁, w₁, hq, .of_steps (.one step_scope) harr⟩
  | outgrown => exact ⟨_, a₁, w₁, hq, .of_steps (.one step_scope) harr⟩

/-- into the label -/
theorem f_first {α : Type} {I : α → World → Prop} {E : α → Env} (z : α) (hs : SubE (E z) env) (hI : I z w) : Fin f (Exit.then (fun a w => ∃ z, Ag f (E z) a ∧ I z w) (Exit.noGoto Q)) .normal env w :=
  fun _ ha => ⟨z, ha.sub hs.subs, hI⟩
/-- back to the label -/
theorem f_back {α : Type} {l : Nat} {I : α → World → Prop} {E : α → Env} {μ : α → World → Nat} {m : Nat} (z : α) (hs : SubE (E z) env) (hI : I z w) (hm : μ z w < m) :
    Fin f (Exit.jump l (fun a' w' => ∃ z', Ag f (E z') a' ∧ I z' w' ∧ μ z' w' < m) Q) (.goto l) env w :=
  fun _ ha => ⟨rfl, z, ha.sub hs.subs, hI, hm⟩
theorem f_jumpN {l : Nat} {J : Act → World → Prop} (h : Fin f Q .normal env w) : Fin f (Exit.jump l J Q) .normal env w := fun a ha => h a ha
theorem f_jumpR {l : Nat} {J : Act → World → Prop} (h : Fin f Q .ret env w) : Fin f (Exit.jump l J Q) .ret env w := fun a ha => h a ha
theorem f_thenG {K : Act → World → Prop} {l : Nat} (h : Fin f Q (.goto l) env w) : Fin f (Exit.then K Q) (.goto l) env w := fun a ha => h a ha
end Go.Vc
