/-
  All operations that only compute, at one step; loads, stores, new blocks.
-/
import Derived.Test.YtoldbdocgimpnaaVcC
namespace Go.Vc

def pushO (n : Nat) (dst : Option Tmp) (v : Value) (env : Env) : Option Env :=
  match dst with
  | some d => match Nat.blt d n with
    | true => some ((d, v) :: env)
    | false => none
  | none => none

/-- as many operations as only compute and bear no guard -/
def pevs (I : Info) (n : Nat) : List Oper → Env → Option (List Oper × Env)
  | [], env => some ([], env)
  | o :: r, env => match o.guard with
    | some _ => some (o :: r, env)
    | none => match pev I o.op env with
      | none => some (o :: r, env)
      | some v => match pushO n o.dst v env with
        | some env' => pevs I n r env'
        | none => none

/-- the same, guards looked at -/
def pevsG (I : Info) (n : Nat) (ops : Array Oper) : List Oper → Env → Option (List Oper × Env)
  | [], env => some ([], env)
  | o :: r, env => match passes ops env o with
    | true => match pushO n o.dst undef env with
      | some env' => pevsG I n ops r env'
      | none => none
    | false => match takes ops env o with
      | false => none
      | true => match pev I o.op env with
        | none => some (o :: r, env)
        | some v => match pushO n o.dst v env with
          | some env' => pevsG I n ops r env'
          | none => none

section
variable {P : Program} {I : Info} {f : Fs} {ops : Array Oper} {Q : XPost} {rest : List Oper} {env : Env} {w : World}

theorem pushO_eq {n : Nat} {dst : Option Tmp} {v : Value} {env env' : Env} (h : pushO n dst v env = some env') : dOk n dst = true ∧ env' = pushE dst v env := by
  unfold pushO at h
  split at h
  · split at h
    · rename_i d hd; cases h; exact ⟨hd, rfl⟩
    · cases h
  · cases h

theorem wl_p (hI : I.Ok P) {l l' : List Oper} {env' : Env} (h : pevs I f.n l env = some (l', env')) (k : WL P f ops Q l' env' w) : WL P f ops Q l env w := by
  induction l generalizing env with
  | nil => simp [pevs] at h; obtain ⟨rfl, rfl⟩ := h; exact k
  | cons o r ih =>
    simp only [pevs] at h
    split at h
    · simp at h; obtain ⟨rfl, rfl⟩ := h; exact k
    · rename_i hg
      split at h
      · simp at h; obtain ⟨rfl, rfl⟩ := h; exact k
      · rename_i v hv
        split at h
        · rename_i e he
          obtain ⟨hd, rfl⟩ := pushO_eq he
          exact wl (st_v (by simp [takes, hg]) hd (pev_sound hI hv w) (ih h))
        · cases h

theorem wl_pg (hI : I.Ok P) {l l' : List Oper} {env' : Env} (h : pevsG I f.n ops l env = some (l', env')) (k : WL P f ops Q l' env' w) : WL P f ops Q l env w := by
  induction l generalizing env with
  | nil => simp [pevsG] at h; obtain ⟨rfl, rfl⟩ := h; exact k
  | cons o r ih =>
    simp only [pevsG] at h
    split at h
    · rename_i hp
      split at h
      · rename_i e he
        obtain ⟨hd, rfl⟩ := pushO_eq he
        exact wl (st_pass hp hd (ih h))
      · cases h
    · split at h
      · cases h
      · rename_i ht
        split at h
        · simp at h; obtain ⟨rfl, rfl⟩ := h; exact k
        · rename_i v hv
          split at h
          · rename_i e he
            obtain ⟨hd, rfl⟩ := pushO_eq he
            exact wl (st_v ht hd (pev_sound hI hv w) (ih h))
          · cases h
end

/-! ### What an operation that touches memory has before it -/
def addrOf (v : Option Value) : Option (Nat × Nat) :=
  match v with
  | some (.pointer (some ⟨b, off, none⟩)) => some (b, off)
  | _ => none
theorem addrOf_eq {v : Option Value} {b off : Nat} (h : addrOf v = some (b, off)) : v = some (.pointer (some ⟨b, off, none⟩)) := by
  unfold addrOf at h
  split at h
  · cases h; rfl
  · cases h
def pre (n : Nat) (ops : Array Oper) (env : Env) (o : Oper) : Bool :=
  match takes ops env o with
  | true => dOk n o.dst
  | false => false
theorem pre_eq {n : Nat} {ops : Array Oper} {env : Env} {o : Oper} (h : pre n ops env o = true) : takes ops env o = true ∧ dOk n o.dst = true := by
  unfold pre at h
  split at h
  · exact ⟨by assumption, h⟩
  · cases h

/-- a load: its place, and how many cells if it is a struct's or an array's -/
def ldE (I : Info) (n : Nat) (ops : Array Oper) (env : Env) (o : Oper) : Option (Nat × Nat × Option Nat × Nat) :=
  match pre n ops env o with
  | false => none
  | true => match o.dst with
    | none => none
    | some d => match o.op with
      | .load t x => match lkT I t with
        | some y => match addrOf (evO env x) with
          | some (b, off) => match y.isAgg with
            | true => match y.size with
              | 0 => none
              | m + 1 => some (b, off, some (m + 1), d)
            | false => some (b, off, none, d)
          | none => none
        | none => none
      | _ => none

def cellsOf (v : Value) : List Value :=
  match v with
  | .agg cs => cs.toList
  | v => [v]
@[simp] theorem cellsOf_agg (l : List Value) : cellsOf (.agg l.toArray) = l := rfl
@[simp] theorem cellsOf_int (k : IntKind) (n : Int) : cellsOf (.int k n) = [.int k n] := rfl
@[simp] theorem cellsOf_bool (b : Bool) : cellsOf (.bool b) = [.bool b] := rfl
@[simp] theorem cellsOf_string (b : ByteArray) : cellsOf (.string b) = [.string b] := rfl
@[simp] theorem cellsOf_slice (p : Option Addr) (n c : Nat) : cellsOf (.slice p n c) = [.slice p n c] := rfl
@[simp] theorem cellsOf_pointer (p : Option Addr) : cellsOf (.pointer p) = [.pointer p] := rfl
theorem cellsOf_eq (v : Value) : v.cells.toList = cellsOf v := by cases v <;> rfl
theorem cellsOf_size (v : Value) : v.cells.size = (cellsOf v).length := by rw [← cellsOf_eq]; simp

/-- a store: its place, how many cells, what is stored -/
def stE (I : Info) (n : Nat) (ops : Array Oper) (env : Env) (o : Oper) : Option (Nat × Nat × Nat × Value) :=
  match pre n ops env o with
  | false => none
  | true => match o.op with
    | .store t x z => match lkT I t with
      | some y => match addrOf (evO env x) with
        | some (b, off) => match evO env z with
          | some v => match o.dst with
            | none => match y.size with
              | 0 => none
              | m + 1 => some (b, off, m + 1, v)
            | some _ => none
          | none => none
        | none => none
      | none => none
    | _ => none

/-- a new variable: its type, its cells, its slot -/
def alE (I : Info) (n : Nat) (ops : Array Oper) (env : Env) (o : Oper) : Option (Nat × Value × Nat) :=
  match pre n ops env o with
  | false => none
  | true => match o.dst with
    | some d => match o.op with
      | .alloc t => match lkT I t with
        | some y => some (t, y.zero, d)
        | none => none
      | .box t x => match evO env x with
        | some v => some (t, v, d)
        | none => none
      | _ => none
    | none => none

/-- the address of an element: the first one's place, how many there are, an element's cells, the index, the slot -/
def ixE (I : Info) (n : Nat) (ops : Array Oper) (env : Env) (o : Oper) : Option (Nat × Nat × Nat × Nat × Int × Nat) :=
  match pre n ops env o with
  | false => none
  | true => match o.dst with
    | some d => match o.op with
      | .indexAddr t x j => match lkT I t with
        | some y => match evO env j with
          | some (.int _ i) => match y.desc with
            | .slice e => match lkT I e with
              | some z => match evO env x with
                | some (.slice (some ⟨b, off, none⟩) len _) => match z.size with
                  | 0 => none
                  | m + 1 => some (b, off, len, m + 1, i, d)
                | _ => none
              | none => none
            | .array len e => match lkT I e with
              | some z => match evO env x with
                | some (.pointer (some ⟨b, off, none⟩)) => match z.size with
                  | 0 => none
                  | m + 1 => some (b, off, len, m + 1, i, d)
                | _ => none
              | none => none
            | _ => none
          | _ => none
        | none => none
      | _ => none
    | none => none

/-- a part of a struct's value: its cells, where they begin, how many if it is a struct's or an array's, the slot -/
def fdE (I : Info) (n : Nat) (ops : Array Oper) (env : Env) (o : Oper) : Option (List Value × Nat × Option Nat × Nat) :=
  match pre n ops env o with
  | false => none
  | true => match o.dst with
    | some d => match o.op with
      | .field s x k => match evO env x with
        | some (.agg cs) => match lkT I s with
          | some y => match y.desc with
            | .struct fs => match fs[k]? with
              | some g => match lkT I g.type with
                | some z => match z.isAgg with
                  | true => match z.size with
                    | 0 => none
                    | m + 1 => some (cs.toList, g.offset, some (m + 1), d)
                  | false => some (cs.toList, g.offset, none, d)
                | none => none
              | none => none
            | _ => none
          | none => none
        | _ => none
      | _ => none
    | none => none

section
variable {P : Program} {I : Info} {f : Fs} {ops : Array Oper} {o : Oper} {env : Env} {w : World} {K : Env → World → Prop}

theorem ldE_eq {n b off d : Nat} {m : Option Nat} (h : ldE I n ops env o = some (b, off, m, d)) : takes ops env o = true ∧ dOk n o.dst = true ∧ o.dst = some d ∧ ∃ t x y, o.op = .load t x ∧ lkT I t = some y ∧ evO env x = some (.pointer (some ⟨b, off, none⟩)) ∧
    ((y.isAgg = true ∧ m = some y.size) ∨ (y.isAgg = false ∧ m = none)) := by
  unfold ldE at h
  split at h
  · cases h
  · rename_i hp
    obtain ⟨h1, h2⟩ := pre_eq hp
    refine ⟨h1, h2, ?_⟩
    split at h
    · cases h
    · rename_i d' hd
      split at h
      · rename_i t x ho
        split at h
        · rename_i y hy
          split at h
          · rename_i b' off' ha
            split at h
            · rename_i hagg
              split at h
              · cases h
              · rename_i m' hm'; cases h; exact ⟨hd, t, x, y, ho, hy, addrOf_eq ha, .inl ⟨hagg, by rw [hm']⟩⟩
            · rename_i hagg; cases h; exact ⟨hd, t, x, y, ho, hy, addrOf_eq ha, .inr ⟨hagg, rfl⟩⟩
          · cases h
        · cases h
      · cases h

theorem ov_ld (hI : I.Ok P) {n b off d : Nat} {v : Value} (h : ldE I n ops env o = some (b, off, none, d)) (hc : w.cell? ⟨b, off, none⟩ = some v) : Ov P o env w v w := by
  obtain ⟨h1, h2, _, t, x, y, ho, hy, hx, h3⟩ := ldE_eq h
  have hagg : y.isAgg = false := by
    rcases h3 with ⟨ha, hm⟩ | ⟨ha, _⟩
    · cases hm
    · exact ha
  intro ρ hρ
  have h4 := (hI.get hy).isAgg w
  rw [hagg] at h4
  simp [execOp, ho, hρ _ _ hx, Instr.loadAt, Instr.sureAddr, loadVar, h4, hc]
theorem ov_ldN (hI : I.Ok P) {n b off m d : Nat} {l : List Value} (h : ldE I n ops env o = some (b, off, some m, d)) (hs : Seg w b off l) (hl : l.length = m) : Ov P o env w (.agg l.toArray) w := by
  obtain ⟨h1, h2, _, t, x, y, ho, hy, hx, h3⟩ := ldE_eq h
  obtain ⟨hagg, rfl⟩ : y.isAgg = true ∧ m = y.size := by
    rcases h3 with ⟨ha, hm⟩ | ⟨_, hm⟩
    · exact ⟨ha, Option.some.inj hm⟩
    · cases hm
  intro ρ hρ
  have h4 := (hI.get hy).isAgg w
  rw [hagg] at h4
  have h5 := (hI.get hy).sizeOf w
  have h6 := run_loadCells_seg (P := P) (w := w) (b := b) (off := off) y.size 0 l #[] (by simpa using hs) hl
  simp only [execOp, ho, hρ _ _ hx, Instr.loadAt, Instr.sureAddr, loadVar, Sem.run_bind, Sem.run_pure, Result.andThen_ok, h4, if_true, h5, loadCells, h6]
  simp
/-- a load of one cell -/
theorem st_ld (hI : I.Ok P) {b off d : Nat} {v : Value} (h : ldE I f.n ops env o = some (b, off, none, d)) (hc : w.cell? ⟨b, off, none⟩ = some v)
    (k : K ((d, v) :: env) w) : St P f ops o env w K :=
  have ⟨h1, h2, h3, _⟩ := ldE_eq h
  st_v h1 h2 (ov_ld hI h hc) (by rw [h3]; exact k)
/-- a load out of a block that is known -/
theorem st_ldb (hI : I.Ok P) {b off d : Nat} {v : Value} {T : Nat} {l : List Value} (hb : Blk w b T l) (h : ldE I f.n ops env o = some (b, off, none, d)) (hv : nth l off = some v)
    (k : K ((d, v) :: env) w) : St P f ops o env w K :=
  st_ld hI h (hb.cell (by rw [← nth_eq]; exact hv)) k
/-- a struct or an array is loaded -/
theorem st_ldN (hI : I.Ok P) {b off m d : Nat} {l : List Value} (h : ldE I f.n ops env o = some (b, off, some m, d)) (hs : Seg w b off l) (hl : l.length = m)
    (k : K ((d, .agg l.toArray) :: env) w) : St P f ops o env w K :=
  have ⟨h1, h2, h3, _⟩ := ldE_eq h
  st_v h1 h2 (ov_ldN hI h hs hl) (by rw [h3]; exact k)
theorem st_ldB (hI : I.Ok P) {b m d : Nat} {T : Nat} {l : List Value} (hb : Blk w b T l) (h : ldE I f.n ops env o = some (b, 0, some m, d)) (hl : l.length = m)
    (k : K ((d, .agg l.toArray) :: env) w) : St P f ops o env w K :=
  st_ldN hI h hb.seg hl k

theorem stE_eq {n b off m : Nat} {v : Value} (h : stE I n ops env o = some (b, off, m, v)) : takes ops env o = true ∧ dOk n o.dst = true ∧ o.dst = none ∧ ∃ t x z y, o.op = .store t x z ∧ lkT I t = some y ∧ evO env x = some (.pointer (some ⟨b, off, none⟩)) ∧ evO env z = some v ∧ m = y.size := by
  unfold stE at h
  split at h
  · cases h
  · rename_i hp
    obtain ⟨h1, h2⟩ := pre_eq hp
    split at h
    · rename_i t x z ho
      split at h
      · rename_i y hy
        split at h
        · rename_i b' off' ha
          split at h
          · rename_i v' hv
            split at h
            · rename_i hd
              split at h
              · cases h
              · rename_i m' hm'; cases h; exact ⟨h1, h2, hd, t, x, z, y, ho, hy, addrOf_eq ha, hv, hm'.symm⟩
            · cases h
          · cases h
        · cases h
      · cases h
    · cases h

/-- a store into a block that is known -/
theorem st_stN (hI : I.Ok P) {b off m T : Nat} {v : Value} {l : List Value} (hb : Blk w b T l) (h : stE I f.n ops env o = some (b, off, m, v)) (hl : (cellsOf v).length = m) (hroom : off + m ≤ l.length) (h1c : ∀ u ∈ cellsOf v, u.oneCell' = true)
    (k : ∀ w', Blk w' b T (put l off (cellsOf v)) → Ext (One b) w w' → w'.heap.size = w.heap.size → K env w') : St P f ops o env w K := by
  obtain ⟨h1, h2, hd, t, x, z, y, ho, hy, hx, hz, hmy⟩ := stE_eq h
  obtain ⟨w', hr, hb', hE, hs⟩ := run_storeCells_blk (P := P) (cellsOf v) w l off 0 hb (by omega) h1c
  refine st_s (w' := w') h1 h2 (fun ρ hρ => ?_) (by rw [hd]; exact k w' (by simpa using hb') hE hs)
  have h5 := (hI.get hy).sizeOf w
  rw [← hmy] at h5
  simp only [execOp, ho, hρ _ _ hx, hρ _ _ hz, Instr.storeAt, Instr.sureAddr, storeVar, Sem.run_bind, Sem.run_pure, Result.andThen_ok, h5, cellsOf_size, hl, cellsOf_eq]
  simp [hr]

def setF : List Value → Nat → Value → Option (List Value)
  | [], _, _ => none
  | _ :: r, 0, v => some (v :: r)
  | x :: r, n + 1, v => match setF r n v with
    | some r' => some (x :: r')
    | none => none
theorem setF_eq : ∀ {l : List Value} {n : Nat} {v : Value} {l' : List Value}, setF l n v = some l' → l' = l.set n v ∧ n < l.length
  | [], _, _, _, h => by simp [setF] at h
  | x :: r, 0, v, l', h => by simp [setF] at h; subst h; simp
  | x :: r, n + 1, v, l', h => by
    simp only [setF] at h
    split at h
    · rename_i r' hr
      cases h
      have := setF_eq hr
      simp [this.1, this.2]
    · cases h
def flat (v : Value) : Bool :=
  match v with
  | .agg _ => false
  | .tuple _ => false
  | _ => true
theorem flat_eq {v : Value} (h : flat v = true) : v.oneCell' = true ∧ cellsOf v = [v] := by
  cases v <;> first | (cases h; done) | exact ⟨rfl, rfl⟩

/-- a store of one cell into a block whose cells stand there one by one -/
theorem st_st (hI : I.Ok P) {b off T : Nat} {v : Value} {l l' : List Value} (hb : Blk w b T l) (h : stE I f.n ops env o = some (b, off, 1, v)) (hv : flat v = true) (hl : setF l off v = some l')
    (k : ∀ w', Blk w' b T l' → Ext (One b) w w' → w'.heap.size = w.heap.size → K env w') : St P f ops o env w K := by
  obtain ⟨hf1, hf2⟩ := flat_eq hv
  obtain ⟨rfl, hlt⟩ := setF_eq hl
  refine st_stN hI hb h (by rw [hf2]; rfl) (by omega) (by rw [hf2]; simpa using hf1) fun w' hb' hE hs => k w' ?_ hE hs
  rw [hf2] at hb'
  exact hb'

/-- a store of one cell into a row -/
theorem st_set (hI : I.Ok P) {b off T : Nat} {v : Value} {l : List Value} (hb : Blk w b T l) (h : stE I f.n ops env o = some (b, off, 1, v)) (hv : flat v = true) (hl : off < l.length)
    (k : ∀ w', Blk w' b T (l.set off v) → Ext (One b) w w' → w'.heap.size = w.heap.size → K env w') : St P f ops o env w K := by
  obtain ⟨hf1, hf2⟩ := flat_eq hv
  refine st_stN hI hb h (by rw [hf2]; rfl) (by omega) (by rw [hf2]; simpa using hf1) fun w' hb' hE hs => k w' ?_ hE hs
  rw [hf2] at hb'
  exact hb'

theorem put_whole {l l' : List Value} (h : l'.length = l.length) : put l 0 l' = l' := by
  rw [put_eq _ _ _ (by omega)]
  simp [h]
/-- a variable is stored whole -/
theorem st_stW (hI : I.Ok P) {b m T : Nat} {v : Value} {l : List Value} (hb : Blk w b T l) (h : stE I f.n ops env o = some (b, 0, m, v)) {l' : List Value} (hv : cellsOf v = l') (hm : l'.length = m) (hl : l'.length = l.length) (h1c : ∀ u ∈ l', u.oneCell' = true)
    (k : ∀ w', Blk w' b T l' → Ext (One b) w w' → w'.heap.size = w.heap.size → K env w') : St P f ops o env w K := by
  subst hv
  exact st_stN hI hb h hm (by omega) h1c fun w' hb' hE hs => k w' (by rw [put_whole hl] at hb'; exact hb') hE hs
theorem one_ints {k : IntKind} {xs : List Int} : ∀ u ∈ xs.map (Value.int k), u.oneCell' = true := fun u hu => by
  obtain ⟨x, _, rfl⟩ := List.mem_map.1 hu; rfl

theorem alE_eq {n t d : Nat} {v : Value} (h : alE I n ops env o = some (t, v, d)) : takes ops env o = true ∧ dOk n o.dst = true ∧ o.dst = some d ∧ ((∃ y, o.op = .alloc t ∧ lkT I t = some y ∧ v = y.zero) ∨ (∃ x, o.op = .box t x ∧ evO env x = some v)) := by
  unfold alE at h
  split at h
  · cases h
  · rename_i hp
    obtain ⟨h1, h2⟩ := pre_eq hp
    split at h
    · rename_i d' hd
      split at h
      · rename_i t' ho
        split at h
        · rename_i y hy; cases h; exact ⟨h1, h2, hd, .inl ⟨y, ho, hy, rfl⟩⟩
        · cases h
      · rename_i t' x ho
        split at h
        · rename_i v' hv; cases h; exact ⟨h1, h2, hd, .inr ⟨x, ho, hv⟩⟩
        · cases h
      · cases h
    · cases h

theorem ov_al (hI : I.Ok P) {n t d : Nat} {v : Value} (h : alE I n ops env o = some (t, v, d)) : Ov P o env w (.pointer (some ⟨w.heap.size, 0, none⟩)) (w.alloc (.cells v.cells t)) := by
  obtain ⟨h1, h2, hd, h3⟩ := alE_eq h
  intro ρ hρ
  rcases h3 with ⟨y, ho, hy, rfl⟩ | ⟨x, ho, hx⟩
  · have hz := (hI.get hy).zeroValue w
    simp [execOp, ho, Instr.alloc, hz, newVar, newRow]
  · simp [execOp, ho, Instr.box, hρ _ _ hx, newVar, newRow]

/-- a new variable -/
theorem st_al (hI : I.Ok P) {t d : Nat} {v : Value} (h : alE I f.n ops env o = some (t, v, d))
    (k : ∀ (b : Nat) w', w.heap.size ≤ b → Blk w' b t (cellsOf v) → Ext No w w' → K ((d, .pointer (some ⟨b, 0, none⟩)) :: env) w') : St P f ops o env w K := by
  obtain ⟨h1, h2, hd, h3⟩ := alE_eq h
  refine st_v h1 h2 (ov_al hI h) ?_
  rw [hd]
  refine k _ _ (Nat.le_refl _) ?_ (Ext.alloc _ _ _)
  have := alloc_blk w (cellsOf v) t
  rwa [show (cellsOf v).toArray = v.cells from by rw [← cellsOf_eq]] at this

theorem ixE_eq {n b off len sz d : Nat} {i : Int} (h : ixE I n ops env o = some (b, off, len, sz, i, d)) : takes ops env o = true ∧ dOk n o.dst = true ∧ o.dst = some d ∧ ∃ t x j y z k e, o.op = .indexAddr t x j ∧ lkT I t = some y ∧ lkT I e = some z ∧ sz = z.size ∧ evO env j = some (.int k i) ∧
    ((∃ c, y.desc = .slice e ∧ evO env x = some (.slice (some ⟨b, off, none⟩) len c)) ∨ (y.desc = .array len e ∧ evO env x = some (.pointer (some ⟨b, off, none⟩)))) := by
  unfold ixE at h
  split at h
  · cases h
  · rename_i hp
    obtain ⟨h1, h2⟩ := pre_eq hp
    split at h
    · rename_i d' hd
      split at h
      · rename_i t x j ho
        split at h
        · rename_i y hy
          split at h
          · rename_i k i' hj
            split at h
            · rename_i e he
              split at h
              · rename_i z hz
                split at h
                · rename_i b' off' len' c hx
                  split at h
                  · cases h
                  · rename_i m' hm'
                    cases h
                    exact ⟨h1, h2, hd, t, x, j, y, z, k, e, ho, hy, hz, hm'.symm, hj, .inl ⟨c, he, hx⟩⟩
                · cases h
              · cases h
            · rename_i len' e he
              split at h
              · rename_i z hz
                split at h
                · rename_i b' off' hx
                  split at h
                  · cases h
                  · rename_i m' hm'
                    cases h
                    exact ⟨h1, h2, hd, t, x, j, y, z, k, e, ho, hy, hz, hm'.symm, hj, .inr ⟨he, hx⟩⟩
                · cases h
              · cases h
            · cases h
          · cases h
        · cases h
      · cases h
    · cases h

theorem addr_add (b off n : Nat) : (⟨b, off, none⟩ : Addr).add n = ⟨b, off + n, none⟩ := by
  unfold Addr.add; split
  · rename_i h0; subst h0; rfl
  · rfl

theorem ov_ix (hI : I.Ok P) {n b off len sz d : Nat} {i : Int} (h : ixE I n ops env o = some (b, off, len, sz, i, d)) (ss : Nat) (hss : sz = ss) (j : Nat) (hj : i = (j : Int)) (hlt : j < len) (q : Nat) (hq : q = off + j * ss) : Ov P o env w (.pointer (some ⟨b, q, none⟩)) w := by
  subst hss
  obtain ⟨h1, h2, hd, t, x, jx, y, z, k, e, ho, hy, hz, rfl, hjx, h3⟩ := ixE_eq h
  subst hj
  subst hq
  intro ρ hρ
  have hu := (hI.get hy).under w
  have hs := (hI.get hz).sizeOf w
  have hlt' : (0 : Int) ≤ (j : Int) ∧ (j : Int) < (len : Int) := by omega
  rcases h3 with ⟨c, he, hx⟩ | ⟨he, hx⟩
  · rw [he] at hu
    simp only [execOp, ho, hρ _ _ hx, hρ _ _ hjx, Instr.indexAt, asIntOf, Sem.run_bind, Sem.run_pure, Result.andThen_ok, hu, hlt', and_self, if_true, hs, addr_add, Int.toNat_natCast]
  · rw [he] at hu
    simp only [execOp, ho, hρ _ _ hx, hρ _ _ hjx, Instr.indexAt, asIntOf, Instr.sureAddr, Sem.run_bind, Sem.run_pure, Result.andThen_ok, hu, hlt', and_self, if_true, hs, addr_add, Int.toNat_natCast]
/-- the address of an element -/
theorem st_ix (hI : I.Ok P) {b off len sz d : Nat} {i : Int} (h : ixE I f.n ops env o = some (b, off, len, sz, i, d)) (ss : Nat) (hss : sz = ss) (j : Nat) (hj : i = (j : Int)) (hlt : j < len) (q : Nat) (hq : q = off + j * ss)
    (k : K ((d, .pointer (some ⟨b, q, none⟩)) :: env) w) : St P f ops o env w K :=
  have ⟨h1, h2, hd, _⟩ := ixE_eq h
  st_v h1 h2 (ov_ix hI h ss hss j hj hlt q hq) (by rw [hd]; exact k)

theorem fdE_eq {n off d : Nat} {m : Option Nat} {l : List Value} (h : fdE I n ops env o = some (l, off, m, d)) : takes ops env o = true ∧ dOk n o.dst = true ∧ o.dst = some d ∧ ∃ s x k cs y fs g z, o.op = .field s x k ∧ evO env x = some (.agg cs) ∧ l = cs.toList ∧ lkT I s = some y ∧ y.desc = .struct fs ∧ fs[k]? = some g ∧ lkT I g.type = some z ∧ off = g.offset ∧
    ((z.isAgg = true ∧ m = some z.size) ∨ (z.isAgg = false ∧ m = none)) := by
  unfold fdE at h
  split at h
  · cases h
  · rename_i hp
    obtain ⟨h1, h2⟩ := pre_eq hp
    split at h
    · rename_i d' hd
      split at h
      · rename_i s x k ho
        split at h
        · rename_i cs hx
          split at h
          · rename_i y hy
            split at h
            · rename_i fs hfs
              split at h
              · rename_i g hg
                split at h
                · rename_i z hz
                  split at h
                  · rename_i ha
                    split at h
                    · cases h
                    · rename_i m' hm'; cases h; exact ⟨h1, h2, hd, s, x, k, cs, y, fs, g, z, ho, hx, rfl, hy, hfs, hg, hz, rfl, .inl ⟨ha, by rw [hm']⟩⟩
                  · rename_i ha; cases h; exact ⟨h1, h2, hd, s, x, k, cs, y, fs, g, z, ho, hx, rfl, hy, hfs, hg, hz, rfl, .inr ⟨ha, rfl⟩⟩
                · cases h
              · cases h
            · cases h
          · cases h
        · cases h
      · cases h
    · cases h

theorem ov_fd (hI : I.Ok P) {n off d : Nat} {l : List Value} {v : Value} (h : fdE I n ops env o = some (l, off, none, d)) (hv : l[off]? = some v) : Ov P o env w v w := by
  obtain ⟨h1, h2, hd, s, x, k, cs, y, fs, g, z, ho, hx, rfl, hy, hfs, hg, hz, rfl, h3⟩ := fdE_eq h
  have ha : z.isAgg = false := by
    rcases h3 with ⟨_, hm⟩ | ⟨ha, _⟩
    · cases hm
    · exact ha
  intro ρ hρ
  have hu := (hI.get hy).under w
  have h4 := (hI.get hz).isAgg w
  rw [hfs] at hu
  rw [ha] at h4
  have hv' : cs[g.offset]? = some v := by simpa using hv
  simp only [execOp, ho, hρ _ _ hx, Instr.field, Sem.run_bind, Result.andThen_ok, hu, hg, part, asAgg, Sem.run_pure, h4]
  simp [hv']
theorem ov_fdN (hI : I.Ok P) {n off d m : Nat} {l l' : List Value} (h : fdE I n ops env o = some (l, off, some m, d)) (hv : (l.drop off).take m = l') : Ov P o env w (.agg l'.toArray) w := by
  obtain ⟨h1, h2, hd, s, x, k, cs, y, fs, g, z, ho, hx, rfl, hy, hfs, hg, hz, rfl, h3⟩ := fdE_eq h
  obtain ⟨ha, rfl⟩ : z.isAgg = true ∧ m = z.size := by
    rcases h3 with ⟨ha, hm⟩ | ⟨_, hm⟩
    · exact ⟨ha, Option.some.inj hm⟩
    · cases hm
  intro ρ hρ
  have hu := (hI.get hy).under w
  have h4 := (hI.get hz).isAgg w
  have h5 := (hI.get hz).sizeOf w
  rw [hfs] at hu
  rw [ha] at h4
  simp only [execOp, ho, hρ _ _ hx, Instr.field, Sem.run_bind, Result.andThen_ok, hu, hg, part, asAgg, Sem.run_pure, h4, if_true, h5]
  have e : cs.extract g.offset (g.offset + z.size) = l'.toArray := by
    apply Array.ext'
    rw [Array.toList_extract, List.extract_eq_take_drop, Nat.add_sub_cancel_left]
    exact hv
  rw [e]
theorem st_fd (hI : I.Ok P) {off d : Nat} {l : List Value} {v : Value} (h : fdE I f.n ops env o = some (l, off, none, d)) (hv : l[off]? = some v) (k : K ((d, v) :: env) w) : St P f ops o env w K :=
  have ⟨h1, h2, hd, _⟩ := fdE_eq h
  st_v h1 h2 (ov_fd hI h hv) (by rw [hd]; exact k)
theorem st_fdN (hI : I.Ok P) {off d m : Nat} {l l' : List Value} (h : fdE I f.n ops env o = some (l, off, some m, d)) (hv : (l.drop off).take m = l') (k : K ((d, .agg l'.toArray) :: env) w) : St P f ops o env w K :=
  have ⟨h1, h2, hd, _⟩ := fdE_eq h
  st_v h1 h2 (ov_fdN hI h hv) (by rw [hd]; exact k)
end
end Go.Vc
