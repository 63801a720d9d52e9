/-
  Operations that compute, all at once; operations that touch memory, one lemma each.
-/
import Derived.Test.YtoldbdocgimpnaaVcB
namespace Go.Vc

def nth : List Value → Nat → Option Value
  | [], _ => none
  | v :: _, 0 => some v
  | _ :: r, n + 1 => nth r n
theorem nth_eq : ∀ (l : List Value) (i : Nat), nth l i = l[i]?
  | [], _ => by simp [nth]
  | v :: r, 0 => rfl
  | v :: r, n + 1 => by simp [nth, nth_eq r n]

/-! ### Integers -/
def bitI (op : BinOp) (k : IntKind) (p q : Int) : Int :=
  match op with
  | .and => k.wrap (BitVec.ofInt k.bits p &&& BitVec.ofInt k.bits q).toNat
  | .or => k.wrap (BitVec.ofInt k.bits p ||| BitVec.ofInt k.bits q).toNat
  | .xor => k.wrap (BitVec.ofInt k.bits p ^^^ BitVec.ofInt k.bits q).toNat
  | _ => k.wrap (BitVec.ofInt k.bits p &&& ~~~BitVec.ofInt k.bits q).toNat

def intBin (op : BinOp) (k : IntKind) (p q : Int) : Option Value :=
  match op with
  | .add => some (.int k (k.wrap (p + q)))
  | .sub => some (.int k (k.wrap (p - q)))
  | .mul => some (.int k (k.wrap (p * q)))
  | .quo => match decide (q = 0) with
    | true => none
    | false => some (.int k (k.wrap (p.tdiv q)))
  | .rem => match decide (q = 0) with
    | true => none
    | false => some (.int k (p.tmod q))
  | .and => some (.int k (bitI .and k p q))
  | .or => some (.int k (bitI .or k p q))
  | .xor => some (.int k (bitI .xor k p q))
  | .andNot => some (.int k (bitI .andNot k p q))
  | .eql => some (.bool (decide (p = q)))
  | .neq => some (.bool (decide (p ≠ q)))
  | .lss => some (.bool (decide (p < q)))
  | .leq => some (.bool (decide (p ≤ q)))
  | .gtr => some (.bool (decide (q < p)))
  | .geq => some (.bool (decide (q ≤ p)))
  | _ => none

def shiftBin (op : BinOp) (k : IntKind) (p q : Int) : Option Value :=
  match decide (q < 0) with
  | true => none
  | false => match op with
    | .shl => some (.int k (k.wrap (p * 2 ^ min q.toNat k.bits)))
    | .shr => some (.int k (p.fdiv (2 ^ min q.toNat k.bits)))
    | _ => none

def isShift : BinOp → Bool
  | .shl => true
  | .shr => true
  | _ => false

def nilEq (a b : Value) : Option Bool :=
  match a, b with
  | .pointer none, .pointer none => some true
  | .pointer none, .pointer (some _) => some false
  | .pointer (some _), .pointer none => some false
  | .slice none _ _, .slice none _ _ => some true
  | .slice none _ _, .slice (some _) _ _ => some false
  | .slice (some _) _ _, .slice none _ _ => some false
  | .map none, .map none => some true
  | .map none, .map (some _) => some false
  | .map (some _), .map none => some false
  | .bool p, .bool q => some (p == q)
  | _, _ => none

/-- what the type of an equality must be -/
def eqOk (I : Info) (t : Nat) (a : Value) : Bool :=
  match lkT I t with
  | some x => match x.desc, a with
    | .pointer _, .pointer _ => true
    | .slice _, .slice _ _ _ => true
    | .map _ _, .map _ => true
    | .bool, .bool _ => true
    | _, _ => false
  | none => false

def binNil (I : Info) (t : Nat) (op : BinOp) (a b : Value) : Option Value :=
  match eqOk I t a with
  | false => none
  | true => match op with
    | .eql => match nilEq a b with
      | some r => some (.bool r)
      | none => none
    | .neq => match nilEq a b with
      | some r => some (.bool (!r))
      | none => none
    | _ => none

def bin (I : Info) (t : Nat) (op : BinOp) (a b : Value) : Option Value :=
  match a with
  | .int k p => match b with
    | .int k' q => match isShift op with
      | true => shiftBin op k p q
      | false => match decide (k = k') with
        | true => intBin op k p q
        | false => none
    | _ => none
  | a => binNil I t op a b

def fieldOf (I : Info) (s f : Nat) : Option (Nat × Nat) :=
  match lkT I s with
  | some x => match x.desc with
    | .struct fs => match fs[f]? with
      | some g => match lkT I g.type with
        | some y => match y.size with
          | 0 => none
          | n + 1 => match g.offset with
            | 0 => some (0, n + 1)
            | k + 1 => some (k + 1, n + 1)
        | none => none
      | none => none
    | _ => none
  | none => none

def addO (o n : Nat) : Nat := match n with
  | 0 => o
  | n + 1 => match o with
    | 0 => n + 1
    | _ => o + (n + 1)
theorem addO_eq (o n : Nat) : addO o n = o + n := by
  unfold addO; split
  · rfl
  · split <;> omega

def lenV (v : Value) : Option Value :=
  match v with
  | .slice _ n _ => some (.int .i64 (n : Int))
  | .string s => some (.int .i64 (s.size : Int))
  | _ => none

/-- what an operation computes that looks at no memory -/
def pev (I : Info) (op : Op) (env : Env) : Option Value :=
  match op with
  | .move x => evO env x
  | .assign x => evO env x
  | .pick c a b => match evO env c with
    | some (.bool true) => evO env a
    | some (.bool false) => evO env b
    | _ => none
  | .nilCheck x => match evO env x with
    | some (.pointer (some a)) => some (.pointer (some a))
    | _ => none
  | .fieldAddr s x f => match evO env x with
    | some (.pointer (some ⟨b, o, none⟩)) => match fieldOf I s f with
      | some (off, _) => some (.pointer (some ⟨b, o + off, none⟩))
      | none => none
    | _ => none
  | .extract x i => match evO env x with
    | some (.tuple vs) => nth vs.toList i
    | _ => none
  | .binOp op t x y _ => match evO env x with
    | some a => match evO env y with
      | some b => bin I t op a b
      | none => none
    | none => none
  | .unOp .not _ x => match evO env x with
    | some (.bool b) => some (.bool (!b))
    | _ => none
  | .convert s d x => match lkT I s with
    | some _ => match lkT I d with
      | some y => match y.desc with
        | .int k => match evO env x with
          | some (.int _ n) => some (.int k (k.wrap n))
          | _ => none
        | _ => none
      | none => none
    | none => none
  | .makeFunc fn first captured => match evs env first.toList with
    | some a => match evs env captured.toList with
      | some c => some (.func fn a.toArray c.toArray)
      | none => none
    | none => none
  | .call { callee := .builtin .len, args := xs, argTypes := ts } => match xs.toList with
    | [x] => match ts.toList with
      | [t] => match lkT I t with
        | some y => match y.desc with
          | .slice _ => match evO env x with
            | some (.slice _ n _) => some (.int .i64 (n : Int))
            | _ => none
          | .string => match evO env x with
            | some (.string s) => some (.int .i64 (s.size : Int))
            | _ => none
          | .array n _ => match evO env x with
            | some _ => some (.int .i64 (n : Int))
            | none => none
          | _ => none
        | none => none
      | _ => none
    | _ => none
  | .call { callee := .builtin .min, args := xs, .. } => match xs.toList with
    | [x, y] => match evO env x with
      | some (.int k p) => match evO env y with
        | some (.int _ q) => some (.int k (if q < p then q else p))
        | _ => none
      | _ => none
    | _ => none
  | .call { callee := .builtin .max, args := xs, .. } => match xs.toList with
    | [x, y] => match evO env x with
      | some (.int k p) => match evO env y with
        | some (.int _ q) => some (.int k (if p < q then q else p))
        | _ => none
      | _ => none
    | _ => none
  | _ => none

theorem beq_decide (p q : Int) : (p == q) = decide (p = q) := by
  by_cases h : p = q <;> simp [h]
theorem bne_decide (p q : Int) : (p != q) = decide (p ≠ q) := by
  by_cases h : p = q <;> simp [h]

theorem run_intBin {P : Program} {op : BinOp} {k : IntKind} {p q : Int} {v : Value} (h : intBin op k p q = some v) (t : TypeId) (w : World) : (binOp op t (.int k p) (.int k q)).run P w = .ok v w := by
  cases op <;> simp only [intBin] at h
  case quo =>
    split at h
    · cases h
    · rename_i hq
      have hq' : q ≠ 0 := by simpa using hq
      cases h
      simp [binOp, Op.intDiv, hq']
  case rem =>
    split at h
    · cases h
    · rename_i hq
      have hq' : q ≠ 0 := by simpa using hq
      cases h
      simp [binOp, Op.intDiv, hq']
  case shl => cases h
  case shr => cases h
  all_goals (cases h; simp [binOp, Op.intArith, Op.intCmp, Op.intBits, bitI, beq_decide, bne_decide])

theorem run_shiftBin {P : Program} {op : BinOp} {k k' : IntKind} {p q : Int} {v : Value} (h : shiftBin op k p q = some v) (t : TypeId) (w : World) : (binOp op t (.int k p) (.int k' q)).run P w = .ok v w := by
  unfold shiftBin at h
  split at h
  · cases h
  · rename_i hq
    have hq' : ¬ q < 0 := by simpa using hq
    cases op <;> simp only at h <;> first | (cases h; done) | (cases h; simp [binOp, Op.shift, hq'])

theorem run_under_bind {P : Program} {t : Nat} {D : TypeDesc} {w : World} {β : Type} (hu : (underlying t).run P w = .ok D w) (k : TypeDesc → Sem β) : (underlying t >>= k).run P w = (k D).run P w := by
  rw [Sem.run_bind, hu]; rfl

theorem run_nilEqIn {P : Program} {I : Info} (hI : I.Ok P) {t : Nat} {a b : Value} {r : Bool} (h : nilEq a b = some r) (ht : eqOk I t a = true) (w : World) (d : Nat) : (Op.equalIn (d + 1) t a b).run P w = .ok r w := by
  unfold eqOk at ht
  cases hx : lkT I t with
  | none => rw [hx] at ht; cases ht
  | some x =>
    rw [hx] at ht
    have hu := (hI.get hx).under w
    unfold Op.equalIn
    rw [run_under_bind hu]
    clear hu hI hx
    obtain ⟨D, n1, n2, n3⟩ := x
    simp only at ht ⊢
    cases a <;> cases D <;> first | (cases ht; done) | skip
    · cases b <;> cases h; rfl
    · rename_i p e
      cases p <;> cases b <;> first | (cases h; done) | (rename_i q; cases q <;> cases h <;> rfl)
    · rename_i p n c e
      cases p <;> cases b <;> first | (cases h; done) | (rename_i q _ _; cases q <;> cases h <;> rfl)
    · rename_i p e _
      cases p <;> cases b <;> first | (cases h; done) | (rename_i q; cases q <;> cases h <;> rfl)
theorem run_nilEq {P : Program} {I : Info} (hI : I.Ok P) {t : Nat} {a b : Value} {r : Bool} (h : nilEq a b = some r) (ht : eqOk I t a = true) (w : World) : (Op.equal t a b).run P w = .ok r w := by
  have e : Op.equal t a b = Op.equalIn (9999 + 1) t a b := rfl
  rw [e]
  exact run_nilEqIn hI h ht w 9999

theorem nilEq_fits {a b : Value} {r : Bool} (h : nilEq a b = some r) : (∃ p q, a = .pointer p ∧ b = .pointer q) ∨ (∃ p n c q m d, a = .slice p n c ∧ b = .slice q m d) ∨ (∃ p q, a = .map p ∧ b = .map q) ∨ (∃ p q, a = .bool p ∧ b = .bool q) := by
  unfold nilEq at h
  split at h <;> first | (cases h; done) | (simp; done)

theorem run_bin {P : Program} {I : Info} (hI : I.Ok P) {t : Nat} {op : BinOp} {a b v : Value} (h : bin I t op a b = some v) (x y : Operand) (w : World) :
    (do eqGuard op t x y a b; binOp op t a b : Sem Value).run P w = .ok v w := by
  by_cases hi : (∃ k p, a = .int k p) ∧ (∃ k' q, b = .int k' q)
  · obtain ⟨⟨k, p, rfl⟩, k', q, rfl⟩ := hi
    have e : (eqGuard op t x y (.int k p) (.int k' q)).run P w = .ok () w := by
      unfold eqGuard
      cases op <;> rfl
    rw [Sem.run_bind, e, Result.andThen_ok]
    simp only [bin] at h
    split at h
    · exact run_shiftBin h t w
    · split at h
      · rename_i hk
        have hk' : k = k' := of_decide_eq_true hk
        subst hk'
        exact run_intBin h t w
      · cases h
  · have h' : binNil I t op a b = some v := by
      cases a <;> first | exact h | skip
      cases b <;> first | (cases h; done) | exact absurd ⟨⟨_, _, rfl⟩, _, _, rfl⟩ hi
    unfold binNil at h'
    split at h'
    · cases h'
    · rename_i hok
      split at h'
      · split at h'
        · rename_i r hr
          cases h'
          have heq := run_nilEq hI hr hok w
          obtain ⟨p, q, rfl, rfl⟩ | ⟨p, n, c, q, m, d, rfl, rfl⟩ | ⟨p, q, rfl, rfl⟩ | ⟨p, q, rfl, rfl⟩ := nilEq_fits hr
          all_goals
            rw [Sem.run_bind, show (eqGuard .eql t x y _ _).run P w = .ok () w from rfl, Result.andThen_ok]
            show (do pure (Value.bool (← Op.equal t _ _)) : Sem Value).run P w = _
            rw [Sem.run_bind, heq]
            rfl
        · cases h'
      · split at h'
        · rename_i r hr
          cases h'
          have heq := run_nilEq hI hr hok w
          obtain ⟨p, q, rfl, rfl⟩ | ⟨p, n, c, q, m, d, rfl, rfl⟩ | ⟨p, q, rfl, rfl⟩ | ⟨p, q, rfl, rfl⟩ := nilEq_fits hr
          all_goals
            rw [Sem.run_bind, show (eqGuard .neq t x y _ _).run P w = .ok () w from rfl, Result.andThen_ok]
            show (do pure (Value.bool (!(← Op.equal t _ _))) : Sem Value).run P w = _
            rw [Sem.run_bind, heq]
            rfl
        · cases h'
      · cases h'

theorem evs_map {env : Env} {ρ : Operand → Value} (hρ : ∀ x u, evO env x = some u → ρ x = u) : ∀ {l : List Operand} {vs : List Value}, evs env l = some vs → l.map ρ = vs
  | [], vs, h => by simp [evs] at h; subst h; rfl
  | y :: r, vs, h => by
    simp only [evs] at h
    split at h
    · rename_i u hu
      split at h
      · rename_i l' hl'
        simp at h; subst h
        simp [hρ _ _ hu, evs_map hρ hl']
      · simp at h
    · simp at h
theorem evs_arr {env : Env} {ρ : Operand → Value} (hρ : ∀ x u, evO env x = some u → ρ x = u) {xs : Array Operand} {vs : List Value} (h : evs env xs.toList = some vs) : xs.map ρ = vs.toArray := by
  apply Array.ext'
  rw [Array.toList_map, evs_map hρ h]

theorem run_fieldAt {P : Program} {I : Info} (hI : I.Ok P) {s f off n : Nat} (h : fieldOf I s f = some (off, n)) (b o : Nat) (w : World) :
    (Instr.fieldAt s (.pointer (some ⟨b, o, none⟩)) f).run P w = .ok (.pointer (some ⟨b, o + off, none⟩)) w := by
  unfold fieldOf at h
  split at h
  · rename_i x hx
    have hu := (hI.get hx).under w
    split at h
    · rename_i fs hfs
      split at h
      · rename_i g hg
        split at h
        · rename_i y hy
          have hs := (hI.get hy).sizeOf w
          split at h
          · cases h
          · rename_i m hm
            have hoff : off = g.offset := by
              split at h
              · rename_i h0; cases h; exact h0.symm
              · rename_i k hk; cases h; exact hk.symm
            subst hoff
            unfold Instr.fieldAt
            rw [run_under_bind hu, hfs]
            simp only [hg, Instr.sureAddr, fieldPlace, Sem.run_bind, Sem.run_pure, Result.andThen_ok, hs, hm]
            simp only [Addr.add]
            by_cases h0 : g.offset = 0
            · simp [h0]
            · simp [h0]
        · cases h
      · cases h
    · cases h
  · cases h

theorem pev_sound {P : Program} {I : Info} (hI : I.Ok P) {o : Oper} {env : Env} {v : Value} (h : pev I o.op env = some v) (w : World) : Ov P o env w v w := by
  intro ρ hρ
  obtain ⟨dst, op, type, pos, after, guard⟩ := o
  simp only at h
  cases op
  case move x => simp only [pev] at h; simp [execOp, hρ _ _ h]
  case assign x => simp only [pev] at h; simp [execOp, hρ _ _ h]
  case pick c a b =>
    simp only [pev] at h
    split at h
    · rename_i hc; simp [execOp, hρ _ _ hc, hρ _ _ h, asBool]
    · rename_i hc; simp [execOp, hρ _ _ hc, hρ _ _ h, asBool]
    · cases h
  case nilCheck x =>
    simp only [pev] at h
    split at h
    · rename_i a hx; cases h; simp [execOp, hρ _ _ hx]
    · cases h
  case fieldAddr s x f =>
    simp only [pev] at h
    split at h
    · rename_i b q hx
      split at h
      · rename_i off n hf
        cases h
        simp [execOp, hρ _ _ hx, run_fieldAt hI hf]
      · cases h
    · cases h
  case extract x i =>
    simp only [pev] at h
    split at h
    · rename_i vs hx
      rw [nth_eq] at h
      have h' : vs[i]? = some v := by simpa using h
      simp [execOp, hρ _ _ hx, Instr.extract, h']
    · cases h
  case binOp op t x y u =>
    simp only [pev] at h
    split at h
    · rename_i a ha
      split at h
      · rename_i b hb
        have := run_bin hI h x y w
        simp only [execOp, hρ _ _ ha, hρ _ _ hb]
        rw [Sem.run_bind, this]
        rfl
      · cases h
    · cases h
  case unOp op t x =>
    cases op <;> simp only [pev] at h <;> first | (cases h; done) | skip
    split at h
    · rename_i b hx; cases h; simp [execOp, hρ _ _ hx, Op.unary]
    · cases h
  case convert s d x =>
    simp only [pev] at h
    split at h
    · rename_i z hz
      have hz' := (hI.get hz).under w
      split at h
      · rename_i y hy
        have hu := (hI.get hy).under w
        split at h
        · rename_i k hk
          split at h
          · rename_i k' n hx
            cases h
            simp only [execOp, hρ _ _ hx, convert]
            rw [Sem.run_bind, run_under_bind hz', run_under_bind hu, hk]
            cases z.desc <;> rfl
          · cases h
        · cases h
      · cases h
    · cases h
  case makeFunc fn first captured =>
    simp only [pev] at h
    split at h
    · rename_i a ha
      split at h
      · rename_i c hc
        cases h
        simp [execOp, Instr.makeFunc, evs_arr hρ ha, evs_arr hρ hc]
      · cases h
    · cases h
  case call c =>
    obtain ⟨callee, xs, ts⟩ := c
    cases callee
    case value => cases h
    case invoke => cases h
    case builtin b =>
      cases b
      case len =>
        simp only [pev] at h
        split at h
        · rename_i x hxs
          have hx1 : xs = #[x] := by apply Array.ext'; simpa using hxs
          subst hx1
          split at h
          · rename_i t hts
            have ht1 : ts = #[t] := by apply Array.ext'; simpa using hts
            subst ht1
            split at h
            · rename_i y hy
              have hu := (hI.get hy).under w
              have go : ∀ {u : Value}, ρ x = u → ∀ {r : Value}, (match y.desc, u with
                  | .string, .string s => (pure (goInt s.size) : Sem Value)
                  | .array n _, _ => pure (goInt n)
                  | .slice _, .slice _ n _ => pure (goInt n)
                  | _, _ => .halt .blocked).run P w = .ok r w →
                  (execOp ρ { dst, op := .call { callee := .builtin .len, args := #[x], argTypes := #[t] }, type, pos, after, guard }).run P w = .ok (.value r) w := by
                intro u hu' r hr
                simp only [execOp, resolve, Sem.run_bind, Sem.run_pure, Result.andThen_ok, invoke, builtin]
                have e : (Builtin.len_ #[t] type (Array.map ρ #[x])).run P w = .ok r w := by
                  have em : Array.map ρ #[x] = #[u] := by simp [hu']
                  rw [em]
                  unfold Builtin.len_
                  simp only [List.getElem?_toArray, List.getElem?_cons_zero]
                  rw [run_under_bind hu]
                  generalize y.desc = D at hr
                  cases D <;> cases u <;> first | exact hr | (cases hr; done)
                rw [e]
                rfl
              split at h
              · rename_i e hd
                split at h
                · rename_i a n c hx
                  cases h
                  refine go (hρ _ _ hx) ?_
                  rw [hd]; rfl
                · cases h
              · rename_i hd
                split at h
                · rename_i s hx
                  cases h
                  refine go (hρ _ _ hx) ?_
                  rw [hd]; rfl
                · cases h
              · rename_i n e hd
                split at h
                · rename_i u hx
                  cases h
                  refine go (hρ _ _ hx) ?_
                  rw [hd]; cases u <;> rfl
                · cases h
              · cases h
            · cases h
          · cases h
        · cases h
      case min =>
        simp only [pev] at h
        split at h
        · rename_i x y hxs
          have hx1 : xs = #[x, y] := by apply Array.ext'; simpa using hxs
          subst hx1
          split at h
          · rename_i k p hx
            split at h
            · rename_i k' q hy
              cases h
              simp [execOp, resolve, invoke, builtin, Builtin.min_, hρ _ _ hx, hρ _ _ hy, Builtin.min2]
            · cases h
          · cases h
        · cases h
      case max =>
        simp only [pev] at h
        split at h
        · rename_i x y hxs
          have hx1 : xs = #[x, y] := by apply Array.ext'; simpa using hxs
          subst hx1
          split at h
          · rename_i k p hx
            split at h
            · rename_i k' q hy
              cases h
              simp [execOp, resolve, invoke, builtin, Builtin.max_, hρ _ _ hx, hρ _ _ hy, Builtin.max2]
            · cases h
          · cases h
        · cases h
      all_goals (cases h; done)
  all_goals (cases h; done)

end Go.Vc
