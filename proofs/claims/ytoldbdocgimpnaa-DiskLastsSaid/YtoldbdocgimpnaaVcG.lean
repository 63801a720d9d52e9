/-
  append, copy, literals, indices, equality of arrays: as steps.
-/
import Derived.Test.YtoldbdocgimpnaaVcF
namespace Go.Vc

section
variable {P : Program} {I : Info} {f : Fs} {ops : Array Oper} {o : Oper} {env : Env} {w : World} {K : Env → World → Prop}

structure AppArgs where
  p : Option Addr
  n : Nat
  c : Nat
  e : Nat
  g : TI
  x : Value
  d : Nat
def slOrStr (D : TypeDesc) : Bool :=
  match D with
  | .slice _ => true
  | .string => true
  | _ => false
def appE (I : Info) (n : Nat) (ops : Array Oper) (env : Env) (o : Oper) : Option AppArgs :=
  match pre n ops env o with
  | false => none
  | true => match o.dst with
    | some d => match o.op with
      | .call { callee := .builtin .append, args := xs, argTypes := ts } => match xs.toList with
        | [s, x] => match ts.toList with
          | [t, t2] => match lkT I t with
            | some y => match y.desc with
              | .slice e => match lkT I e with
                | some g => match lkT I t2 with
                  | some y2 => match slOrStr y2.desc with
                    | true => match evO env s with
                      | some (.slice p m c) => match evO env x with
                        | some v => some ⟨p, m, c, e, g, v, d⟩
                        | none => none
                      | _ => none
                    | false => none
                  | none => none
                | none => none
              | _ => none
            | none => none
          | _ => none
        | _ => none
      | _ => none
    | none => none

theorem slOrStr_eq {D : TypeDesc} (h : slOrStr D = true) : (∃ e, D = .slice e) ∨ D = .string := by
  unfold slOrStr at h
  split at h
  · exact .inl ⟨_, rfl⟩
  · exact .inr rfl
  · cases h

theorem st_app (hI : I.Ok P) {s : AppArgs} (h : appE I f.n ops env o = some s) (sz by_ : Nat) (hsz : s.g.size = sz) (hby : s.g.bytes = by_) (hz : (cellsOf s.g.zero).length = sz) (hz0 : 0 < sz) {xs : List Value} (hown : Own w s.p s.n s.c s.e sz xs) {m : Nat} {news : List Value} (hsrc : Src P w sz s.x m news)
    (hm : s.n + m ≤ maxLen) (hb : (s.n + m) * by_ ≤ 140737488355328)
    (k : ∀ p' c' w', Own w' p' (s.n + m) c' s.e sz (xs ++ news) → Ext (OwnB s.p) w w' → (∀ b, OwnB p' b → OwnB s.p b ∨ w.heap.size ≤ b) → K ((s.d, .slice p' (s.n + m) c') :: env) w') : St P f ops o env w K := by
  subst hsz
  subst hby
  unfold appE at h
  split at h
  · cases h
  · rename_i hp
    obtain ⟨e1, e2⟩ := pre_eq hp
    split at h
    · rename_i d' hd
      split at h
      · rename_i xs' ts ho
        split at h
        · rename_i sx xx hxs
          have hx1 : xs' = #[sx, xx] := by apply Array.ext'; simpa using hxs
          subst hx1
          split at h
          · rename_i t t2 hts
            have ht1 : ts = #[t, t2] := by apply Array.ext'; simpa using hts
            subst ht1
            split at h
            · rename_i y hy
              split at h
              · rename_i e he
                split at h
                · rename_i g hg
                  split at h
                  · rename_i y2 hy2
                    split at h
                    · rename_i hss
                      split at h
                      · rename_i p n c hs
                        split at h
                        · rename_i v hv
                          cases h
                          simp only at *
                          obtain ⟨p', c', w', hr, hown', hE, hB, _⟩ := run_app (P := P) (ty := o.type) hI hy he hg hy2 (slOrStr_eq hss) hz hz0 hown hsrc hm hb
                          refine st_v e1 e2 (v := .slice p' (n + m) c') (w' := w') (fun ρ hρ => ?_) (by rw [hd]; exact k p' c' w' hown' hE hB)
                          have em : Array.map ρ #[sx, xx] = #[.slice p n c, v] := by simp [hρ _ _ hs, hρ _ _ hv]
                          simp only [execOp, ho, resolve, Sem.run_bind, Sem.run_pure, Result.andThen_ok, invoke, builtin, em, hr]
                        · cases h
                      · cases h
                    · cases h
                  · cases h
                · cases h
              · cases h
            · cases h
          · cases h
        · cases h
      · cases h
    · cases h

/-- append where there is no room: a new row -/
theorem st_appG (hI : I.Ok P) {s : AppArgs} (h : appE I f.n ops env o = some s) (sz by_ : Nat) (hsz : s.g.size = sz) (hby : s.g.bytes = by_) (hz : (cellsOf s.g.zero).length = sz) (hz0 : 0 < sz) {xs : List Value} (hsl : Sl w s.p s.n sz xs) {m : Nat} {news : List Value} (hsrc : Src P w sz s.x m news)
    (hm : s.n + m ≤ maxLen) (hb : (s.n + m) * by_ ≤ 140737488355328) (hgr : s.c < s.n + m)
    (k : ∀ b c' w', w.heap.size ≤ b → Own w' (some ⟨b, 0, none⟩) (s.n + m) c' s.e sz (xs ++ news) → Ext No w w' → K ((s.d, .slice (some ⟨b, 0, none⟩) (s.n + m) c') :: env) w') : St P f ops o env w K := by
  subst hsz
  subst hby
  unfold appE at h
  split at h
  · cases h
  · rename_i hp
    obtain ⟨e1, e2⟩ := pre_eq hp
    split at h
    · rename_i d' hd
      split at h
      · rename_i xs' ts ho
        split at h
        · rename_i sx xx hxs
          have hx1 : xs' = #[sx, xx] := by apply Array.ext'; simpa using hxs
          subst hx1
          split at h
          · rename_i t t2 hts
            have ht1 : ts = #[t, t2] := by apply Array.ext'; simpa using hts
            subst ht1
            split at h
            · rename_i y hy
              split at h
              · rename_i e he
                split at h
                · rename_i g hg
                  split at h
                  · rename_i y2 hy2
                    split at h
                    · rename_i hss
                      split at h
                      · rename_i p n c hs
                        split at h
                        · rename_i v hv
                          cases h
                          simp only at *
                          obtain ⟨c', w', hr, hown', hE⟩ := run_appG (P := P) (ty := o.type) hI hy he hg hy2 (slOrStr_eq hss) hz hz0 hsl hsrc hm hb hgr
                          refine st_v e1 e2 (v := .slice (some ⟨w.heap.size, 0, none⟩) (n + m) c') (w' := w') (fun ρ hρ => ?_) (by rw [hd]; exact k _ c' w' (Nat.le_refl _) hown' hE)
                          have em : Array.map ρ #[sx, xx] = #[.slice p n c, v] := by simp [hρ _ _ hs, hρ _ _ hv]
                          simp only [execOp, ho, resolve, Sem.run_bind, Sem.run_pure, Result.andThen_ok, invoke, builtin, em, hr]
                        · cases h
                      · cases h
                    · cases h
                  · cases h
                · cases h
              · cases h
            · cases h
          · cases h
        · cases h
      · cases h
    · cases h

structure CpArgs where
  b : Nat
  off : Nat
  n : Nat
  g : TI
  x : Value
  d : Nat
def cpE (I : Info) (n : Nat) (ops : Array Oper) (env : Env) (o : Oper) : Option CpArgs :=
  match pre n ops env o with
  | false => none
  | true => match o.dst with
    | some d => match o.op with
      | .call { callee := .builtin .copy, args := xs, argTypes := ts } => match xs.toList with
        | [s, x] => match ts.toList with
          | [t, _] => match lkT I t with
            | some y => match y.desc with
              | .slice e => match lkT I e with
                | some g => match evO env s with
                  | some (.slice (some ⟨b, off, none⟩) m _) => match evO env x with
                    | some v => some ⟨b, off, m, g, v, d⟩
                    | none => none
                  | _ => none
                | none => none
              | _ => none
            | none => none
          | _ => none
        | _ => none
      | _ => none
    | none => none

/-- copy, where there is room for all that comes -/
theorem st_cp (hI : I.Ok P) {s : CpArgs} (h : cpE I f.n ops env o = some s) (sz : Nat) (hsz : s.g.size = sz) {T : Nat} {l : List Value} (hblk : Blk w s.b T l) {m : Nat} {news : List Value} (hsrc : Src P w sz s.x m news)
    (hm : m ≤ s.n) (hroom : s.off + m * sz ≤ l.length)
    (k : ∀ w', Blk w' s.b T (put l s.off news) → Ext (One s.b) w w' → w'.heap.size = w.heap.size → K ((s.d, .int .i64 (m : Int)) :: env) w') : St P f ops o env w K := by
  subst hsz
  unfold cpE at h
  split at h
  · cases h
  · rename_i hp
    obtain ⟨e1, e2⟩ := pre_eq hp
    split at h
    · rename_i d' hd
      split at h
      · rename_i xs' ts ho
        split at h
        · rename_i sx xx hxs
          have hx1 : xs' = #[sx, xx] := by apply Array.ext'; simpa using hxs
          subst hx1
          split at h
          · rename_i t t2 hts
            have ht1 : ts = #[t, t2] := by apply Array.ext'; simpa using hts
            subst ht1
            split at h
            · rename_i y hy
              split at h
              · rename_i e he
                split at h
                · rename_i g hg
                  split at h
                  · rename_i b off n c hs
                    split at h
                    · rename_i v hv
                      cases h
                      simp only at *
                      have hu := (hI.get hy).under w
                      rw [he] at hu
                      have hsz := (hI.get hg).sizeOf w
                      have hlen := hsrc.1
                      have hmin : Nat.min m n = m := Nat.min_eq_left hm
                      obtain ⟨w', hr, hb', hE, hs'⟩ := run_storeCells_blk (P := P) news w l off 0 hblk (by rw [hsrc.2.1]; omega) hsrc.2.2.1
                      have hrun : (Builtin.copy_ #[t, t2] o.type #[.slice (some ⟨b, off, none⟩) n c, v]).run P w = .ok (.int .i64 (m : Int)) w' := by
                        unfold Builtin.copy_
                        simp only [List.getElem?_toArray, List.getElem?_cons_zero, List.getElem?_cons_succ]
                        rw [run_under_bind hu]
                        simp only [hlen, pure_bind, hmin, Sem.run_bind, hsz, Result.andThen_ok, hsrc.cells (fun _ => rfl), hr, Sem.run_pure, goInt]
                      refine st_v e1 e2 (v := .int .i64 (m : Int)) (w' := w') (fun ρ hρ => ?_) (by rw [hd]; exact k w' hb' hE hs')
                      have em : Array.map ρ #[sx, xx] = #[.slice (some ⟨b, off, none⟩) n c, v] := by simp [hρ _ _ hs, hρ _ _ hv]
                      simp only [execOp, ho, resolve, Sem.run_bind, Sem.run_pure, Result.andThen_ok, invoke, builtin, em, hrun]
                    · cases h
                  · cases h
                · cases h
              · cases h
            · cases h
          · cases h
        · cases h
      · cases h
    · cases h

/-! ### Literals -/
abbrev Parts := List (Nat × Nat × Value)
def putAll (z : List Value) : Parts → List Value
  | [] => z
  | (off, _, v) :: r => putAll (put z off (cellsOf v)) r
def partsOk (n : Nat) : Parts → Prop
  | [] => True
  | (off, sz, v) :: r => ((cellsOf v).length = sz ∧ off + sz ≤ n) ∧ partsOk n r
theorem putAll_length : ∀ (ps : Parts) (z : List Value), (putAll z ps).length = z.length
  | [], _ => rfl
  | (off, _, v) :: r, z => by rw [putAll, putAll_length r, put_length]

def placed (place : Nat → Option (Nat × Nat)) (env : Env) : List (Nat × Operand) → Option Parts
  | [] => some []
  | (i, x) :: r => match place i with
    | some (off, sz) => match evO env x with
      | some v => match placed place env r with
        | some l => some ((off, sz, v) :: l)
        | none => none
      | none => none
    | none => none

theorem foldl_put : ∀ (vs : List Value) (cs : Array Value) (off j : Nat),
    ((vs.zipIdx j).foldl (fun cs (x : Value × Nat) => cs.setIfInBounds (off + x.2) x.1) cs).toList = put cs.toList (off + j) vs
  | [], cs, off, j => rfl
  | v :: r, cs, off, j => by
    simp only [List.zipIdx_cons, List.foldl_cons]
    rw [foldl_put r]
    simp [put, Nat.add_assoc]

theorem fill_placed {place : Nat → Option (Nat × Nat)} {env : Env} {ρ : Operand → Value} (hρ : ∀ x u, evO env x = some u → ρ x = u) : ∀ (l : List (Nat × Operand)) (ps : Parts) (z : List Value), placed place env l = some ps → partsOk z.length ps →
    Instr.fill place z.toArray (l.map fun (i, x) => (i, ρ x)) = some (putAll z ps).toArray
  | [], ps, z, h, _ => by simp [placed] at h; subst h; rfl
  | (i, x) :: r, ps, z, h, hok => by
    simp only [placed] at h
    split at h
    · rename_i off sz hpl
      split at h
      · rename_i v hv
        split at h
        · rename_i l' hl'
          cases h
          obtain ⟨⟨h1, h2⟩, h3⟩ := hok
          simp only [List.map_cons, Instr.fill, hpl, hρ _ _ hv]
          have e1 : v.cells.size = sz := by rw [cellsOf_size]; exact h1
          have hcond : (decide (v.cells.size ≠ sz) || decide (off + v.cells.size > z.toArray.size)) = false := by
            simp [e1]; omega
          rw [show (v.cells.size ≠ sz || off + v.cells.size > z.toArray.size) = (decide (v.cells.size ≠ sz) || decide (off + v.cells.size > z.toArray.size)) from rfl, hcond]
          simp only [Bool.false_eq_true, if_false]
          have e2 : (v.cells.zipIdx.foldl (fun cs (x : Value × Nat) => cs.setIfInBounds (off + x.2) x.1) z.toArray) = (put z off (cellsOf v)).toArray := by
            apply Array.ext'
            rw [← Array.foldl_toList, Array.toList_zipIdx, foldl_put]
            simp [cellsOf_eq]
          rw [e2]
          exact fill_placed hρ r l' _ hl' (by rw [put_length]; exact h3)
        · cases h
      · cases h
    · cases h

def fieldPlaces (I : Info) : List Field → Option (List (Nat × Nat))
  | [] => some []
  | g :: r => match lkT I g.type with
    | some y => match y.size with
      | 0 => none
      | m + 1 => match fieldPlaces I r with
        | some l => some ((g.offset, m + 1) :: l)
        | none => none
    | none => none
theorem run_places {P : Program} {I : Info} (hI : I.Ok P) (w : World) : ∀ (fs : List Field) (l : List (Nat × Nat)), fieldPlaces I fs = some l → (fs.mapM fun f => do pure (f.offset, ← sizeOf f.type) : Sem (List (Nat × Nat))).run P w = .ok l w
  | [], l, h => by simp [fieldPlaces] at h; subst h; rfl
  | g :: r, l, h => by
    simp only [fieldPlaces] at h
    split at h
    · rename_i y hy
      split at h
      · cases h
      · rename_i m hm
        split at h
        · rename_i l' hl'
          cases h
          simp only [List.mapM_cons, Sem.run_bind, Sem.run_pure, (hI.get hy).sizeOf w, Result.andThen_ok, run_places hI w r l' hl', hm]
        · cases h
    · cases h

/-- a struct's or an array's literal -/
def bdE (I : Info) (n : Nat) (ops : Array Oper) (env : Env) (o : Oper) : Option (List Value × Parts × Nat) :=
  match pre n ops env o with
  | false => none
  | true => match o.dst with
    | some d => match o.op with
      | .build t ps => match lkT I t with
        | some y => match y.desc with
          | .struct fs => match fieldPlaces I fs.toList with
            | some l => match placed (l[·]?) env ps.toList with
              | some q => some (cellsOf y.zero, q, d)
              | none => none
            | none => none
          | .array _ e => match lkT I e with
            | some g => match g.size with
              | 0 => none
              | m + 1 => match placed (fun i => some (i * (m + 1), m + 1)) env ps.toList with
                | some q => some (cellsOf y.zero, q, d)
                | none => none
            | none => none
          | _ => none
        | none => none
      | _ => none
    | none => none

theorem ov_bd (hI : I.Ok P) {n d : Nat} {z : List Value} {q : Parts} (h : bdE I n ops env o = some (z, q, d)) (hok : partsOk z.length q) : takes ops env o = true ∧ dOk n o.dst = true ∧ o.dst = some d ∧ Ov P o env w (.agg (putAll z q).toArray) w := by
  unfold bdE at h
  split at h
  · cases h
  · rename_i hp
    obtain ⟨e1, e2⟩ := pre_eq hp
    split at h
    · rename_i d' hd
      split at h
      · rename_i t ps ho
        split at h
        · rename_i y hy
          have hu := (hI.get hy).under w
          have hz := (hI.get hy).zeroValue w
          split at h
          · rename_i fs hfs
            split at h
            · rename_i l hl
              split at h
              · rename_i q' hq
                cases h
                refine ⟨e1, e2, hd, fun ρ hρ => ?_⟩
                have hf := fill_placed hρ ps.toList q _ hq hok
                rw [hfs] at hu
                have hpl : (fs.mapM fun f => do pure (f.offset, ← sizeOf f.type) : Sem (Array (Nat × Nat))).run P w = .ok l.toArray w := by
                  have := run_places hI w fs.toList l hl
                  rw [Array.mapM_eq_mapM_toList, Sem.run_map, this]
                  rfl
                have em : (ps.map fun (i, x) => (i, ρ x)).toList = ps.toList.map fun (i, x) => (i, ρ x) := by simp
                have ez : y.zero.cells = (cellsOf y.zero).toArray := by rw [← cellsOf_eq]
                simp only [execOp, ho, Instr.build, Sem.run_bind, hz, hu, Result.andThen_ok, hpl, em, ez, List.getElem?_toArray]
                rw [hf]
                rfl
              · cases h
            · cases h
          · rename_i len e he
            split at h
            · rename_i g hg
              split at h
              · cases h
              · rename_i m hm
                split at h
                · rename_i q' hq
                  cases h
                  refine ⟨e1, e2, hd, fun ρ hρ => ?_⟩
                  have hf := fill_placed hρ ps.toList q _ hq hok
                  rw [he] at hu
                  have hs := (hI.get hg).sizeOf w
                  have em : (ps.map fun (i, x) => (i, ρ x)).toList = ps.toList.map fun (i, x) => (i, ρ x) := by simp
                  have ez : y.zero.cells = (cellsOf y.zero).toArray := by rw [← cellsOf_eq]
                  simp only [execOp, ho, Instr.build, Sem.run_bind, hz, hu, Result.andThen_ok, hs, hm, em, ez]
                  rw [hf]
                  rfl
                · cases h
            · cases h
          · cases h
        · cases h
      · cases h
    · cases h
theorem st_bd (hI : I.Ok P) {d : Nat} {z l' : List Value} {q : Parts} (h : bdE I f.n ops env o = some (z, q, d)) (hok : partsOk z.length q) (hl : putAll z q = l')
    (k : K ((d, .agg l'.toArray) :: env) w) : St P f ops o env w K := by
  obtain ⟨h1, h2, hd, hv⟩ := ov_bd (w := w) hI h hok
  subst hl
  exact st_v h1 h2 hv (by rw [hd]; exact k)

/-- a slice's literal -/
def bsE (I : Info) (n : Nat) (ops : Array Oper) (env : Env) (o : Oper) : Option (Nat × TI × Nat × Parts × Nat) :=
  match pre n ops env o with
  | false => none
  | true => match o.dst with
    | some d => match o.op with
      | .buildSlice t len ps => match lkT I t with
        | some y => match y.desc with
          | .slice e => match lkT I e with
            | some g => match g.size with
              | 0 => none
              | m + 1 => match placed (fun i => some (i * (m + 1), m + 1)) env ps.toList with
                | some q => some (e, g, len, q, d)
                | none => none
            | none => none
          | _ => none
        | none => none
      | _ => none
    | none => none
theorem st_bs (hI : I.Ok P) {e len d : Nat} {g : TI} {q : Parts} {l' : List Value} (h : bsE I f.n ops env o = some (e, g, len, q, d)) (sz : Nat) {zs : List Value} (hsz : g.size = sz) (hzs : cellsOf g.zero = zs) (hz : zs.length = sz) (hz0 : 0 < sz) (hlen : len * sz ≤ 16777216)
    (hok : partsOk (len * sz) q) (hl : putAll (rep len zs) q = l')
    (k : ∀ (b : Nat) w', w.heap.size ≤ b → Blk w' b e l' → Ext No w w' → w'.heap.size = w.heap.size + 1 → K ((d, .slice (some ⟨b, 0, none⟩) len len) :: env) w') : St P f ops o env w K := by
  subst hsz
  subst hzs
  unfold bsE at h
  split at h
  · cases h
  · rename_i hp
    obtain ⟨e1, e2⟩ := pre_eq hp
    split at h
    · rename_i d' hd
      split at h
      · rename_i t len' ps ho
        split at h
        · rename_i y hy
          have hu := (hI.get hy).under w
          split at h
          · rename_i e' he
            split at h
            · rename_i g' hg
              split at h
              · cases h
              · rename_i m hmg
                split at h
                · rename_i q' hq
                  cases h
                  rw [he] at hu
                  rw [show m + 1 = g.size from hmg.symm] at hq
                  have hs := (hI.get hg).sizeOf w
                  have hzv := (hI.get hg).zeroValue w
                  have hcells : (Array.range (len * g.size)).map ((if len * g.size = 0 then #[] else (cellsOf g.zero).toArray : Array Value)[· % (if len * g.size = 0 then #[] else (cellsOf g.zero).toArray : Array Value).size]!) = (rep len (cellsOf g.zero)).toArray := by
                    by_cases h0 : len * g.size = 0
                    · have : len = 0 := by
                        rcases Nat.mul_eq_zero.1 h0 with h' | h'
                        · exact h'
                        · omega
                      subst this
                      simp [rep]
                    · rw [if_neg h0]
                      have := madeCells_rep (cellsOf g.zero) len (by omega)
                      rw [hz] at this
                      exact this
                  have hlim : ¬ len * g.size > 2 ^ 24 := by
                    have : (2 : Nat) ^ 24 = 16777216 := by decide
                    omega
                  refine st_v e1 e2 (v := .slice (some ⟨w.heap.size, 0, none⟩) len len) (w' := w.alloc (.cells (putAll (rep len (cellsOf g.zero)) q).toArray e)) (fun ρ hρ => ?_) ?_
                  · have hf := fill_placed hρ ps.toList q (rep len (cellsOf g.zero)) hq (by rw [rep_length, hz]; exact hok)
                    have em : (ps.map fun (i, x) => (i, ρ x)).toList = ps.toList.map fun (i, x) => (i, ρ x) := by simp
                    have hf' : Instr.fill (fun i => some (i * g.size, g.size)) (rep len (cellsOf g.zero)).toArray (List.map (fun x => (x.fst, ρ x.snd)) ps.toList) = some (putAll (rep len (cellsOf g.zero)) q).toArray := hf
                    by_cases h0 : len * g.size = 0
                    · simp only [if_pos h0] at hcells
                      simp only [execOp, ho, Instr.buildSlice, Sem.run_bind, hu, hs, Result.andThen_ok, hlim, if_false, em, if_pos h0, pure_bind]
                      rw [hcells, hf']
                      simp [newRow]
                    · simp only [if_neg h0] at hcells
                      simp only [execOp, ho, Instr.buildSlice, Sem.run_bind, hu, hs, Result.andThen_ok, hlim, if_false, em, if_neg h0, hzv, pure_bind]
                      rw [show g.zero.cells = (cellsOf g.zero).toArray from by rw [← cellsOf_eq], hcells, hf']
                      simp [newRow]
                  · rw [hd]
                    subst hl
                    exact k _ _ (Nat.le_refl _) (alloc_blk _ _ _) (Ext.alloc _ _ _) (by simp)
                · cases h
            · cases h
          · cases h
        · cases h
      · cases h
    · cases h
end
end Go.Vc
