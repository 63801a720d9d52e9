/-
  Arrays of arrays of numbers held against each other.
-/
import Derived.Test.YtoldbdocgimpnaaVcS
namespace Go.Vc

section
variable {P : Program} {I : Info} {f : Fs} {ops : Array Oper} {o : Oper} {env : Env} {w : World} {K : Env → World → Prop}

theorem equalIn_row (hI : I.Ok P) {t e n : Nat} {x y : TI} {k : IntKind} (hx : lkT I t = some x) (hd : x.desc = .array n e) (hy : lkT I e = some y) (hk : y.desc = .int k) (hs : y.size = 1) (xs ys : List Int) (h1 : xs.length = n) (h2 : ys.length = n) (w : World) (d : Nat) :
    (Op.equalIn (d + 1 + 1) t (.agg (xs.map (Value.int k)).toArray) (.agg (ys.map (Value.int k)).toArray)).run P w = .ok (decide (xs = ys)) w := by
  have hu := (hI.get hx).under w
  rw [hd] at hu
  have hsz := (hI.get hy).sizeOf w
  rw [hs] at hsz
  have hl := loop_eq (P := P) hI hy hk w d xs ys n 0 (by omega) (by omega)
  rw [Op.equalIn.eq_def]
  dsimp only
  rw [run_under_bind hu]
  simp only [Sem.run_bind, hsz, Result.andThen_ok, Std.Legacy.Range.forIn_eq_forIn_range', Std.Legacy.Range.size]
  simp only [Nat.sub_zero, Nat.add_one_sub_one, Nat.div_one]
  rw [hl]
  by_cases h : xs = ys
  · simp [h]
  · simp [h]

/-- the numbers of rows, row by row -/
def rowsA (k : IntKind) (L : List (List Int)) : List Value := (L.map fun r => r.map (Value.int k)).flatten
theorem rowsA_flat (k : IntKind) (L : List (List Int)) : rowsA k L = L.flatten.map (Value.int k) := by simp [rowsA, List.map_flatten]

theorem loop_eqR (hI : I.Ok P) {e n e2 : Nat} {x y : TI} {k : IntKind} (hx : lkT I e = some x) (hd : x.desc = .array n e2) (hxs : x.size = n) (hy : lkT I e2 = some y) (hk : y.desc = .int k) (hs : y.size = 1) (w : World) (d : Nat) (L M : List (List Int)) (hL : ∀ r ∈ L, r.length = n) (hM : ∀ r ∈ M, r.length = n) : ∀ (c s : Nat), s + c = L.length → s + c = M.length →
    (forIn (List.range' s c) ((none : Option Bool), PUnit.unit) (fun i _ => (do
      if !(← Op.equalIn (d + 1 + 1) e (← part e (rowsA k L).toArray (i * n)) (← part e (rowsA k M).toArray (i * n))) then pure (ForInStep.done (some false, PUnit.unit)) else pure (ForInStep.yield (none, PUnit.unit)) : Sem (ForInStep (Option Bool × PUnit)))) : Sem (Option Bool × PUnit)).run P w =
      .ok (if L.drop s = M.drop s then none else some false, PUnit.unit) w := by
  intro c
  induction c with
  | zero =>
    intro s h1 h2
    have e1 : L.drop s = [] := List.drop_eq_nil_of_le (by omega)
    have e2 : M.drop s = [] := List.drop_eq_nil_of_le (by omega)
    simp [e1, e2]
  | succ c ih =>
    intro s h1 h2
    have hl : s < L.length := by omega
    have hm : s < M.length := by omega
    have hagg := (hI.get hx).isAgg w
    have ha : x.isAgg = true := by unfold TI.isAgg; rw [hd]
    rw [ha] at hagg
    have hsz := (hI.get hx).sizeOf w
    rw [hxs] at hsz
    have hp : ∀ (N : List (List Int)) (_ : ∀ r ∈ N, r.length = n) (h : s < N.length), (part e (rowsA k N).toArray (s * n)).run P w = .ok (.agg (N[s].map (Value.int k)).toArray) w := fun N hN h => by
      unfold part
      simp only [Sem.run_bind, hagg, Result.andThen_ok, if_true, hsz, Sem.run_pure]
      congr 2
      have hu : Uni n (N.map fun r => r.map (Value.int k)) := Uni.map fun r hr => by simp [hN r hr]
      have hr : (N.map fun r => r.map (Value.int k))[s]? = some (N[s].map (Value.int k)) := by simp [h]
      have := rows_row hu hr
      rw [List.extract_toArray, List.extract_eq_take_drop, ← this]
      unfold rowsA
      congr 2
      omega
    rw [List.range'_succ, List.forIn_cons, Sem.run_bind]
    simp only [Sem.run_bind, hp L hL hl, hp M hM hm, Result.andThen_ok, equalIn_row hI hx hd hy hk hs _ _ (hL _ (List.getElem_mem hl)) (hM _ (List.getElem_mem hm))]
    have ex : L.drop s = L[s] :: L.drop (s + 1) := List.drop_eq_getElem_cons hl
    have ey : M.drop s = M[s] :: M.drop (s + 1) := List.drop_eq_getElem_cons hm
    by_cases heq : L[s] = M[s]
    · simp only [heq, decide_true, Bool.not_true, Bool.false_eq_true, if_false, Sem.run_pure, Result.andThen_ok]
      rw [ih (s + 1) (by omega) (by omega), ex, ey, heq]
      simp only [List.cons.injEq, true_and]
    · rw [ex, ey]
      simp only [heq, decide_false, Bool.not_false, if_true, Sem.run_pure, Result.andThen_ok, List.cons.injEq, false_and, if_false]

theorem run_eqAA (hI : I.Ok P) {t e e2 n c : Nat} {z x y : TI} {k : IntKind} (hz : lkT I t = some z) (hzd : z.desc = .array c e) (hx : lkT I e = some x) (hd : x.desc = .array n e2) (hxs : x.size = n) (hy : lkT I e2 = some y) (hk : y.desc = .int k) (hs : y.size = 1)
    (L M : List (List Int)) (hL : ∀ r ∈ L, r.length = n) (hM : ∀ r ∈ M, r.length = n) (h1 : L.length = c) (h2 : M.length = c) (w : World) :
    (Op.equal t (.agg (rowsA k L).toArray) (.agg (rowsA k M).toArray)).run P w = .ok (decide (L = M)) w := by
  have e1 : Op.equal t (.agg (rowsA k L).toArray) (.agg (rowsA k M).toArray) = Op.equalIn (9997 + 1 + 1 + 1) t (.agg (rowsA k L).toArray) (.agg (rowsA k M).toArray) := rfl
  rw [e1]
  have hu := (hI.get hz).under w
  rw [hzd] at hu
  have hsz := (hI.get hx).sizeOf w
  rw [hxs] at hsz
  have hl := loop_eqR (P := P) hI hx hd hxs hy hk hs w 9997 L M hL hM c 0 (by omega) (by omega)
  rw [Op.equalIn.eq_def]
  dsimp only
  rw [run_under_bind hu]
  simp only [Sem.run_bind, hsz, Result.andThen_ok, Std.Legacy.Range.forIn_eq_forIn_range', Std.Legacy.Range.size]
  simp only [Nat.sub_zero, Nat.add_one_sub_one, Nat.div_one]
  rw [hl]
  by_cases h : L = M
  · simp [h]
  · simp [h]

/-- two arrays of arrays of numbers are held against each other -/
def eqEA (I : Info) (n : Nat) (ops : Array Oper) (env : Env) (o : Oper) : Option (Nat × Nat × Nat × IntKind × Bool × Value × Value × Nat) :=
  match pre n ops env o with
  | false => none
  | true => match o.dst with
    | some d => match o.op with
      | .binOp op t x y _ => match lkT I t with
        | some g => match g.desc with
          | .array c e => match lkT I e with
            | some h => match h.desc with
              | .array m e2 => match Nat.beq h.size m with
                | true => match lkT I e2 with
                  | some q => match q.desc with
                    | .int k => match q.size with
                      | 1 => match evO env x with
                        | some a => match evO env y with
                          | some b => match op with
                            | .eql => some (t, c, m, k, true, a, b, d)
                            | .neq => some (t, c, m, k, false, a, b, d)
                            | _ => none
                          | none => none
                        | none => none
                      | _ => none
                    | _ => none
                  | none => none
                | false => none
              | _ => none
            | none => none
          | _ => none
        | none => none
      | _ => none
    | none => none

theorem st_eqAA (hI : I.Ok P) {t m c d : Nat} {k : IntKind} {q : Bool} {a b : Value} (h : eqEA I f.n ops env o = some (t, c, m, k, q, a, b, d)) (hgd : P.eqGuardType P.depth t = false) {L M : List (List Int)} (ha : a = .agg (rowsA k L).toArray) (hb : b = .agg (rowsA k M).toArray) (hL : ∀ r ∈ L, r.length = m) (hM : ∀ r ∈ M, r.length = m) (h1 : L.length = c) (h2 : M.length = c)
    (kk : K ((d, .bool (decide (if q then L = M else L ≠ M))) :: env) w) : St P f ops o env w K := by
  unfold eqEA at h
  split at h
  · cases h
  rename_i hp
  obtain ⟨e1, e2⟩ := pre_eq hp
  split at h
  case h_2 => cases h
  rename_i d' hd
  split at h
  case h_2 => cases h
  rename_i op t' x y u ho
  split at h
  case h_2 => cases h
  rename_i g hg
  split at h
  case h_2 => cases h
  rename_i c' e hc
  split at h
  case h_2 => cases h
  rename_i hh hhe
  split at h
  case h_2 => cases h
  rename_i m' e2' hm
  split at h
  case h_2 => cases h
  rename_i hsz
  have hsz := Nat.eq_of_beq_eq_true hsz
  split at h
  case h_2 => cases h
  rename_i z hz
  split at h
  case h_2 => cases h
  rename_i k' hk
  split at h
  case h_2 => cases h
  rename_i hs1
  split at h
  case h_2 => cases h
  rename_i a' ha'
  split at h
  case h_2 => cases h
  rename_i b' hb'
  have key : L.length = c' → (∀ r ∈ L, r.length = m') → (∀ r ∈ M, r.length = m') → M.length = c' → ∀ w : World, (Op.equal t' (.agg (rowsA k' L).toArray) (.agg (rowsA k' M).toArray)).run P w = .ok (decide (L = M)) w :=
    fun g1 g2 g3 g4 w => run_eqAA hI hg hc hhe hm hsz hz hk hs1 L M g2 g3 g1 g4 w
  have gd : ∀ op, t' = t → (eqGuard op t' x y (.agg (rowsA k' L).toArray) (.agg (rowsA k' M).toArray)).run P w = .ok () w := fun op ht => by
    subst ht
    unfold eqGuard
    cases op <;> simp [hgd]
  split at h
  · cases h
    subst ha; subst hb
    have key' := key h1 hL hM h2 w
    refine st_v e1 e2 (v := .bool (decide (L = M))) (w' := w) (fun ρ hρ => ?_) (by rw [hd]; exact kk)
    simp only [execOp, ho, hρ _ _ ha', hρ _ _ hb', Sem.run_bind, gd .eql rfl, Result.andThen_ok]
    show ((do pure (Value.bool (← Op.equal t _ _)) : Sem Value).run P w).andThen _ = _
    rw [Sem.run_bind, key']
    rfl
  · cases h
    subst ha; subst hb
    have key' := key h1 hL hM h2 w
    refine st_v e1 e2 (v := .bool (decide (L ≠ M))) (w' := w) (fun ρ hρ => ?_) (by rw [hd]; exact kk)
    simp only [execOp, ho, hρ _ _ ha', hρ _ _ hb', Sem.run_bind, gd .neq rfl, Result.andThen_ok]
    show ((do pure (Value.bool (!(← Op.equal t _ _))) : Sem Value).run P w).andThen _ = _
    rw [Sem.run_bind, key']
    simp
  · cases h
/-- the same, of the operation alone -/
theorem ov_eqA {I : Info} {w : World} (hI : I.Ok P) {t m d : Nat} {k : IntKind} {n : Nat} {q : Bool} {a b : Value} (h : eqE I n ops env o = some (t, m, k, q, a, b, d)) (hgd : P.eqGuardType P.depth t = false) {xs ys : List Int} (ha : a = numA k xs) (hb : b = numA k ys) (h1 : xs.length = m) (h2 : ys.length = m) :
    Ov P o env w (.bool (decide (if q then xs = ys else xs ≠ ys))) w := by
  unfold eqE at h
  split at h
  · cases h
  · rename_i hp
    
    split at h
    · rename_i d' hd
      split at h
      · rename_i op t' x y u ho
        split at h
        · rename_i g hg
          split at h
          · rename_i m' e hm
            split at h
            · rename_i hh hhe
              split at h
              · rename_i k' hk
                split at h
                · rename_i hsz
                  split at h
                  · rename_i a' ha'
                    split at h
                    · rename_i b' hb'
                      have key : ∀ w : World, (Op.equal t' (numA k' xs) (numA k' ys)).run P w = .ok (decide (xs = ys)) w ∨ ¬ (xs.length = m' ∧ ys.length = m') := fun w => by
                        by_cases hl : xs.length = m' ∧ ys.length = m'
                        · exact .inl (run_eqA hI hg hm hhe hk hsz xs ys hl.1 hl.2 w)
                        · exact .inr hl
                      have gd : ∀ op, t' = t → (eqGuard op t' x y (numA k' xs) (numA k' ys)).run P w = .ok () w := fun op ht => by
                        subst ht
                        unfold eqGuard numA
                        cases op <;> simp [hgd]
                      split at h
                      · cases h
                        subst ha; subst hb
                        have key' := (key w).resolve_right (fun hn => hn ⟨h1, h2⟩)
                        intro ρ hρ
                        simp only [execOp, ho, hρ _ _ ha', hρ _ _ hb', Sem.run_bind, gd .eql rfl, Result.andThen_ok]
                        show ((do pure (Value.bool (← Op.equal t (numA k xs) (numA k ys))) : Sem Value).run P w).andThen _ = _
                        rw [Sem.run_bind, key']
                        rfl
                      · cases h
                        subst ha; subst hb
                        have key' := (key w).resolve_right (fun hn => hn ⟨h1, h2⟩)
                        intro ρ hρ
                        simp only [execOp, ho, hρ _ _ ha', hρ _ _ hb', Sem.run_bind, gd .neq rfl, Result.andThen_ok]
                        show ((do pure (Value.bool (!(← Op.equal t (numA k xs) (numA k ys)))) : Sem Value).run P w).andThen _ = _
                        rw [Sem.run_bind, key']
                        simp
                      · cases h
                    · cases h
                  · cases h
                · cases h
              · cases h
            · cases h
          · cases h
        · cases h
      · cases h
    · cases h

theorem eqE_pre {I : Info} {n t m d : Nat} {k : IntKind} {q : Bool} {a b : Value} (h : eqE I n ops env o = some (t, m, k, q, a, b, d)) : pre n ops env o = true ∧ o.dst = some d := by
  unfold eqE at h
  split at h
  case h_1 => cases h
  rename_i hp
  refine ⟨hp, ?_⟩
  split at h
  case h_2 => cases h
  rename_i d' hd
  rw [hd]
  split at h
  case h_2 => cases h
  split at h
  case h_2 => cases h
  split at h
  case h_2 => cases h
  split at h
  case h_2 => cases h
  split at h
  case h_2 => cases h
  split at h
  case h_2 => cases h
  split at h
  case h_2 => cases h
  split at h
  case h_2 => cases h
  split at h
  · cases h; rfl
  · cases h; rfl
  · cases h

theorem wd_eqA {K : Act → World → Prop} (hI : I.Ok P) {r : Dr} {i : Nat} {o : Oper} {pl : List (Nat × Bool)} {dn : List Nat} (ho : ops[i]? = some o) {t m d : Nat} {k : IntKind} {q : Bool} {a b : Value} (h : eqE I f.n ops env o = some (t, m, k, q, a, b, d)) (hgd : P.eqGuardType P.depth t = false) {xs ys : List Int} (ha : a = numA k xs) (hb : b = numA k ys) (h1 : xs.length = m) (h2 : ys.length = m)
    (kk : WD P f ops K r pl (i :: dn) ((d, .bool (decide (if q then xs = ys else xs ≠ ys))) :: env) w) : WD P f ops K r ((i, true) :: pl) dn env w := by
  obtain ⟨h3, h4⟩ := eqE_pre h
  exact wd_q ho h3 h4 (fun w' _ => ov_eqA hI h hgd ha hb h1 h2) kk
end
end Go.Vc
