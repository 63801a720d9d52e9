/-
  Indices of values; arrays of numbers held against each other.
-/
import Derived.Test.YtoldbdocgimpnaaVcG
namespace Go.Vc

section
variable {P : Program} {I : Info} {f : Fs} {ops : Array Oper} {o : Oper} {env : Env} {w : World} {K : Env → World → Prop}

theorem equalIn_int {I : Info} (hI : I.Ok P) {e : Nat} {y : TI} {k : IntKind} (hy : lkT I e = some y) (hk : y.desc = .int k) (a b : Int) (w : World) (d : Nat) : (Op.equalIn (d + 1) e (.int k a) (.int k b)).run P w = .ok (decide (a = b)) w := by
  have hu := (hI.get hy).under w
  rw [hk] at hu
  unfold Op.equalIn
  rw [run_under_bind hu]
  simp [beq_decide]

theorem loop_eq {I : Info} (hI : I.Ok P) {e : Nat} {y : TI} {k : IntKind} (hy : lkT I e = some y) (hk : y.desc = .int k) (w : World) (d : Nat) (xs ys : List Int) : ∀ (n s : Nat), s + n = xs.length → s + n = ys.length →
    (forIn (List.range' s n) ((none : Option Bool), PUnit.unit) (fun i _ => (do
      if !(← Op.equalIn (d + 1) e (← part e (xs.map (Value.int k)).toArray (i * 1)) (← part e (ys.map (Value.int k)).toArray (i * 1))) then pure (ForInStep.done (some false, PUnit.unit)) else pure (ForInStep.yield (none, PUnit.unit)) : Sem (ForInStep (Option Bool × PUnit)))) : Sem (Option Bool × PUnit)).run P w =
      .ok (if xs.drop s = ys.drop s then none else some false, PUnit.unit) w := by
  intro n
  induction n with
  | zero =>
    intro s h1 h2
    have e1 : xs.drop s = [] := List.drop_eq_nil_of_le (by omega)
    have e2 : ys.drop s = [] := List.drop_eq_nil_of_le (by omega)
    simp [e1, e2]
  | succ n ih =>
    intro s h1 h2
    have hx : s < xs.length := by omega
    have hy' : s < ys.length := by omega
    have hagg := (hI.get hy).isAgg w
    have ha : y.isAgg = false := by unfold TI.isAgg; rw [hk]
    rw [ha] at hagg
    have hp : ∀ (l : List Int) (h : s < l.length), (part e (l.map (Value.int k)).toArray (s * 1)).run P w = .ok (.int k l[s]) w := fun l h => by
      unfold part
      simp [hagg, h]
    rw [List.range'_succ, List.forIn_cons, Sem.run_bind]
    simp only [Sem.run_bind, hp xs hx, hp ys hy', Result.andThen_ok, equalIn_int hI hy hk]
    have ex : xs.drop s = xs[s] :: xs.drop (s + 1) := List.drop_eq_getElem_cons hx
    have ey : ys.drop s = ys[s] :: ys.drop (s + 1) := List.drop_eq_getElem_cons hy'
    by_cases heq : xs[s] = ys[s]
    · simp only [heq, decide_true, Bool.not_true, Bool.false_eq_true, if_false, Sem.run_pure, Result.andThen_ok]
      rw [ih (s + 1) (by omega) (by omega), ex, ey, heq]
      simp only [List.cons.injEq, true_and]
    · rw [ex, ey]
      simp only [heq, decide_false, Bool.not_false, if_true, Sem.run_pure, Result.andThen_ok, List.cons.injEq, false_and, if_false]

theorem run_eqA {I : Info} (hI : I.Ok P) {t e n : Nat} {x y : TI} {k : IntKind} (hx : lkT I t = some x) (hd : x.desc = .array n e) (hy : lkT I e = some y) (hk : y.desc = .int k) (hs : y.size = 1) (xs ys : List Int) (h1 : xs.length = n) (h2 : ys.length = n) (w : World) :
    (Op.equal t (.agg (xs.map (Value.int k)).toArray) (.agg (ys.map (Value.int k)).toArray)).run P w = .ok (decide (xs = ys)) w := by
  have e1 : Op.equal t (.agg (xs.map (Value.int k)).toArray) (.agg (ys.map (Value.int k)).toArray) = Op.equalIn (9999 + 1) t (.agg (xs.map (Value.int k)).toArray) (.agg (ys.map (Value.int k)).toArray) := rfl
  rw [e1]
  have hu := (hI.get hx).under w
  rw [hd] at hu
  have hsz := (hI.get hy).sizeOf w
  rw [hs] at hsz
  have hl := loop_eq (P := P) hI hy hk w 9998 xs ys n 0 (by omega) (by omega)
  have e2 : ((9999 : Nat)) = 9998 + 1 := rfl
  rw [e2]
  unfold Op.equalIn
  rw [run_under_bind hu]
  simp only [Sem.run_bind, hsz, Result.andThen_ok, Std.Legacy.Range.forIn_eq_forIn_range', Std.Legacy.Range.size]
  simp only [Nat.sub_zero, Nat.add_one_sub_one, Nat.div_one]
  rw [show (9998 + 1 : Nat) = 9999 from rfl] at hl
  rw [hl]
  by_cases h : xs = ys
  · simp [h]
  · simp [h]

/-- two arrays of numbers are held against each other -/
def eqE (I : Info) (n : Nat) (ops : Array Oper) (env : Env) (o : Oper) : Option (Nat × Nat × IntKind × Bool × Value × Value × Nat) :=
  match pre n ops env o with
  | false => none
  | true => match o.dst with
    | some d => match o.op with
      | .binOp op t x y _ => match lkT I t with
        | some g => match g.desc with
          | .array m e => match lkT I e with
            | some h => match h.desc with
              | .int k => match h.size with
                | 1 => match evO env x with
                  | some a => match evO env y with
                    | some b => match op with
                      | .eql => some (t, m, k, true, a, b, d)
                      | .neq => some (t, m, k, false, a, b, d)
                      | _ => none
                    | none => none
                  | none => none
                | _ => none
              | _ => none
            | none => none
          | _ => none
        | none => none
      | _ => none
    | none => none

def numA (k : IntKind) (xs : List Int) : Value := .agg (xs.map (Value.int k)).toArray

theorem st_eqA (hI : I.Ok P) {t m d : Nat} {k : IntKind} {q : Bool} {a b : Value} (h : eqE I f.n ops env o = some (t, m, k, q, a, b, d)) (hgd : P.eqGuardType P.depth t = false) {xs ys : List Int} (ha : a = numA k xs) (hb : b = numA k ys) (h1 : xs.length = m) (h2 : ys.length = m)
    (kk : K ((d, .bool (decide (if q then xs = ys else xs ≠ ys))) :: env) w) : St P f ops o env w K := by
  unfold eqE at h
  split at h
  · cases h
  · rename_i hp
    obtain ⟨e1, e2⟩ := pre_eq hp
    split at h
    · rename_i d' hd
      split at h
      · rename_i op t' x y u ho
        split at h
        · rename_i g hg
          split at h
          · rename_i m' e hm
            split at h
            · rename_i hh hhe
              split at h
              · rename_i k' hk
                split at h
                · rename_i hsz
                  split at h
                  · rename_i a' ha'
                    split at h
                    · rename_i b' hb'
                      have key : ∀ w : World, (Op.equal t' (numA k' xs) (numA k' ys)).run P w = .ok (decide (xs = ys)) w ∨ ¬ (xs.length = m' ∧ ys.length = m') := fun w => by
                        by_cases hl : xs.length = m' ∧ ys.length = m'
                        · exact .inl (run_eqA hI hg hm hhe hk hsz xs ys hl.1 hl.2 w)
                        · exact .inr hl
                      have gd : ∀ op, t' = t → (eqGuard op t' x y (numA k' xs) (numA k' ys)).run P w = .ok () w := fun op ht => by
                        subst ht
                        unfold eqGuard numA
                        cases op <;> simp [hgd]
                      split at h
                      · cases h
                        subst ha; subst hb
                        have key' := (key w).resolve_right (fun hn => hn ⟨h1, h2⟩)
                        refine st_v e1 e2 (v := .bool (decide (xs = ys))) (w' := w) (fun ρ hρ => ?_) (by rw [hd]; exact kk)
                        simp only [execOp, ho, hρ _ _ ha', hρ _ _ hb', Sem.run_bind, gd .eql rfl, Result.andThen_ok]
                        show ((do pure (Value.bool (← Op.equal t (numA k xs) (numA k ys))) : Sem Value).run P w).andThen _ = _
                        rw [Sem.run_bind, key']
                        rfl
                      · cases h
                        subst ha; subst hb
                        have key' := (key w).resolve_right (fun hn => hn ⟨h1, h2⟩)
                        refine st_v e1 e2 (v := .bool (decide (xs ≠ ys))) (w' := w) (fun ρ hρ => ?_) (by rw [hd]; exact kk)
                        simp only [execOp, ho, hρ _ _ ha', hρ _ _ hb', Sem.run_bind, gd .neq rfl, Result.andThen_ok]
                        show ((do pure (Value.bool (!(← Op.equal t (numA k xs) (numA k ys)))) : Sem Value).run P w).andThen _ = _
                        rw [Sem.run_bind, key']
                        simp
                      · cases h
                    · cases h
                  · cases h
                · cases h
              · cases h
            · cases h
          · cases h
        · cases h
      · cases h
    · cases h

/-! ### An element of an array's value, a byte of a string -/
def idE (I : Info) (n : Nat) (ops : Array Oper) (env : Env) (o : Oper) : Option (List Value × Nat × Option Nat × Int × Nat) :=
  match pre n ops env o with
  | false => none
  | true => match o.dst with
    | some d => match o.op with
      | .index t x j => match lkT I t with
        | some y => match evO env j with
          | some (.int _ i) => match y.desc with
            | .array len e => match lkT I e with
              | some z => match evO env x with
                | some (.agg cs) => match z.isAgg with
                  | true => some (cs.toList, len, some z.size, i, d)
                  | false => match z.size with
                    | 1 => some (cs.toList, len, none, i, d)
                    | _ => none
                | _ => none
              | none => none
            | _ => none
          | _ => none
        | none => none
      | _ => none
    | none => none
def isE (I : Info) (n : Nat) (ops : Array Oper) (env : Env) (o : Oper) : Option (ByteArray × Int × Nat) :=
  match pre n ops env o with
  | false => none
  | true => match o.dst with
    | some d => match o.op with
      | .index t x j => match lkT I t with
        | some y => match y.desc with
          | .string => match evO env j with
            | some (.int _ i) => match evO env x with
              | some (.string s) => some (s, i, d)
              | _ => none
            | _ => none
          | _ => none
        | none => none
      | _ => none
    | none => none

theorem st_id (hI : I.Ok P) {cs : List Value} {len d : Nat} {m : Option Nat} {i : Int} (h : idE I f.n ops env o = some (cs, len, m, i, d)) (j : Nat) (hj : i = (j : Int)) (hlt : j < len) {v : Value}
    (hv : (m = none ∧ cs[j]? = some v) ∨ (∃ n l', m = some n ∧ (cs.drop (j * n)).take n = l' ∧ v = .agg l'.toArray)) (k : K ((d, v) :: env) w) : St P f ops o env w K := by
  subst hj
  unfold idE at h
  split at h
  · cases h
  · rename_i hp
    obtain ⟨e1, e2⟩ := pre_eq hp
    split at h
    · rename_i d' hd
      split at h
      · rename_i t x jx ho
        split at h
        · rename_i y hy
          split at h
          · rename_i kk i' hjx
            split at h
            · rename_i len' e he
              split at h
              · rename_i z hz
                split at h
                · rename_i cs' hx
                  have hu := (hI.get hy).under w
                  rw [he] at hu
                  have hs := (hI.get hz).sizeOf w
                  have ha := (hI.get hz).isAgg w
                  have hlt' : (0 : Int) ≤ (j : Int) ∧ (j : Int) < (len : Int) := by omega
                  split at h
                  · rename_i hagg
                    cases h
                    rw [hagg] at ha
                    rcases hv with ⟨hm, _⟩ | ⟨n, l', hm, hl, rfl⟩
                    · cases hm
                    · cases hm
                      refine st_v e1 e2 (w' := w) (fun ρ hρ => ?_) (by rw [hd]; exact k)
                      have e : cs'.extract (j * z.size) (j * z.size + z.size) = l'.toArray := by
                        apply Array.ext'
                        rw [Array.toList_extract, List.extract_eq_take_drop, Nat.add_sub_cancel_left]
                        exact hl
                      simp only [execOp, ho, hρ _ _ hx, hρ _ _ hjx, Instr.index, asIntOf, Sem.run_bind, Sem.run_pure, Result.andThen_ok, hu, hlt', and_self, if_true, hs, part, ha, Int.toNat_natCast, e]
                  · rename_i hagg
                    split at h
                    · rename_i hsz
                      cases h
                      rw [hagg] at ha
                      rw [hsz] at hs
                      rcases hv with ⟨_, hv⟩ | ⟨n, l', hm, _⟩
                      · refine st_v e1 e2 (w' := w) (fun ρ hρ => ?_) (by rw [hd]; exact k)
                        have hv' : cs'[j]? = some v := by simpa using hv
                        simp only [execOp, ho, hρ _ _ hx, hρ _ _ hjx, Instr.index, asIntOf, Sem.run_bind, Sem.run_pure, Result.andThen_ok, hu, hlt', and_self, if_true, hs, part, ha, Int.toNat_natCast, Nat.mul_one]
                        simp [hv']
                      · cases hm
                    · cases h
                · cases h
              · cases h
            · cases h
          · cases h
        · cases h
      · cases h
    · cases h

theorem st_is (hI : I.Ok P) {s : ByteArray} {d : Nat} {i : Int} (h : isE I f.n ops env o = some (s, i, d)) (j : Nat) (hj : i = (j : Int)) {c : UInt8} (hc : s.data.toList[j]? = some c) (k : K ((d, .int .u8 (c.toNat : Int)) :: env) w) : St P f ops o env w K := by
  subst hj
  unfold isE at h
  split at h
  · cases h
  · rename_i hp
    obtain ⟨e1, e2⟩ := pre_eq hp
    split at h
    · rename_i d' hd
      split at h
      · rename_i t x jx ho
        split at h
        · rename_i y hy
          split at h
          · rename_i he
            split at h
            · rename_i kk i' hjx
              split at h
              · rename_i s' hx
                cases h
                have hu := (hI.get hy).under w
                rw [he] at hu
                refine st_v e1 e2 (w' := w) (fun ρ hρ => ?_) (by rw [hd]; exact k)
                have hlt : j < s.data.toList.length := by
                  rcases Nat.lt_or_ge j s.data.toList.length with h' | h'
                  · exact h'
                  · rw [List.getElem?_eq_none h'] at hc; cases hc
                have hlt' : j < s.size := by rw [Array.length_toList] at hlt; exact hlt
                have hc' : s[j]? = some c := by
                  rw [getElem?_pos s j hlt']
                  rw [List.getElem?_eq_getElem hlt] at hc
                  exact hc
                simp only [execOp, ho, hρ _ _ hx, hρ _ _ hjx, Instr.index, asIntOf, Sem.run_bind, Sem.run_pure, Result.andThen_ok, hu, Int.natCast_nonneg, if_true, Int.toNat_natCast, hc']
              · cases h
            · cases h
          · cases h
        · cases h
      · cases h
    · cases h

/-! ### Results, some of them in variables -/
def ResAt (P : Program) (env : Env) (w : World) : ResultVar → Value → Prop
  | .tmp t, v => lk env t = some v
  | .cell a t, v => ∃ b off, lk env a = some (.pointer (some ⟨b, off, none⟩)) ∧ (loadVar t ⟨b, off, none⟩).run P w = .ok v w
def ResAll (P : Program) (env : Env) (w : World) : List ResultVar → List Value → Prop
  | [], [] => True
  | r :: rs, v :: vs => ResAt P env w r v ∧ ResAll P env w rs vs
  | _, _ => False
def tupV : List Value → Value
  | [v] => v
  | vs => .tuple vs.toArray

theorem ld_one (hI : I.Ok P) {t b off : Nat} {y : TI} {v : Value} (hy : lkT I t = some y) (ha : y.isAgg = false) (hc : w.cell? ⟨b, off, none⟩ = some v) : (loadVar t ⟨b, off, none⟩).run P w = .ok v w := by
  have h4 := (hI.get hy).isAgg w
  rw [ha] at h4
  simp [loadVar, h4, hc]
theorem ld_all (hI : I.Ok P) {t b off : Nat} {y : TI} {l : List Value} (hy : lkT I t = some y) (ha : y.isAgg = true) (hs : Seg w b off l) (hl : l.length = y.size) : (loadVar t ⟨b, off, none⟩).run P w = .ok (.agg l.toArray) w := by
  have h4 := (hI.get hy).isAgg w
  rw [ha] at h4
  have h5 := (hI.get hy).sizeOf w
  have h6 := run_loadCells_seg (P := P) (w := w) (b := b) (off := off) y.size 0 l #[] (by simpa using hs) hl
  simp only [loadVar, Sem.run_bind, Result.andThen_ok, h4, if_true, h5, loadCells, h6]
  simp

theorem run_results {n : Nat} {a : Act} (ha : Ag ⟨n, []⟩ env a) : ∀ (rs : List ResultVar) (vs : List Value), ResAll P env w rs vs →
    (rs.mapM fun
      | .tmp t => pure (a.tmps.getD t undef)
      | .cell x t => do loadVar t (← asAddr (a.tmps.getD x undef)) : Sem (List Value)).run P w = .ok vs w
  | [], [], _ => rfl
  | [], _ :: _, h => h.elim
  | _ :: _, [], h => h.elim
  | r :: rs, v :: vs, h => by
    obtain ⟨h1, h2⟩ := h
    have ih := run_results ha rs vs h2
    rw [List.mapM_cons, Sem.run_bind]
    cases r with
    | tmp t =>
      have : a.tmps.getD t undef = v := by
        have := ha.get _ _ h1
        simp [this]
      simp only [this, Sem.run_pure, Result.andThen_ok, Sem.run_bind]
      rw [ih]
      rfl
    | cell x t =>
      obtain ⟨b, off, hx, hld⟩ := h1
      have : a.tmps.getD x undef = .pointer (some ⟨b, off, none⟩) := by
        have := ha.get _ _ hx
        simp [this]
      have hA : asAddr (.pointer (some ⟨b, off, none⟩)) = pure ⟨b, off, none⟩ := rfl
      simp only [this, hA, Sem.run_pure, Result.andThen_ok, Sem.run_bind, hld]
      rw [ih]
      rfl

theorem f_ret {n : Nat} {fn : Func} {R : Value → World → Prop} (vs : List Value) (h : ResAll P env w fn.results.toList vs) (hR : R (tupV vs) w) : Fin ⟨n, []⟩ (bodyPost P fn (Rv R)) .ret env w := by
  intro a ha
  have hr := run_results ha _ _ h
  refine ⟨ha.defers, tupV vs, ?_, hR⟩
  unfold results
  rw [Array.mapM_eq_mapM_toList, Sem.run_bind, Sem.run_map]
  erw [hr]
  simp only [Result.andThen_ok, Sem.run_pure]
  congr 1
  cases vs with
  | nil => rfl
  | cons v r => cases r <;> simp [tupV]
end
end Go.Vc
