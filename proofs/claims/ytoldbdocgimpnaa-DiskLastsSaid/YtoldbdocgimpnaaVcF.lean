/-
  Slices: make, slice expressions, append, copy; literals.
-/
import Derived.Test.YtoldbdocgimpnaaVcE
namespace Go.Vc

/-! ### Rows of equal parts -/
def rep (n : Nat) (z : List Value) : List Value := (List.replicate n z).flatten
theorem rep_length (n : Nat) (z : List Value) : (rep n z).length = n * z.length := by simp [rep]
theorem rep_one (n : Nat) (v : Value) : rep n [v] = List.replicate n v := by
  unfold rep
  induction n with
  | zero => rfl
  | succ n ih => simp [List.replicate_succ, ih]
theorem rep_succ (n : Nat) (z : List Value) : rep (n + 1) z = z ++ rep n z := by simp [rep, List.replicate_succ]
theorem rep_getElem? (z : List Value) (hz : 0 < z.length) : ∀ (n i : Nat), i < n * z.length → (rep n z)[i]? = z[i % z.length]?
  | 0, i, h => by simp at h
  | n + 1, i, h => by
    rw [rep_succ]
    rcases Nat.lt_or_ge i z.length with h' | h'
    · rw [List.getElem?_append_left h', Nat.mod_eq_of_lt h']
    · rw [List.getElem?_append_right h', rep_getElem? z hz n (i - z.length) (by rw [Nat.add_mul] at h; omega)]
      rw [Nat.mod_eq_sub_mod h']

theorem madeCells_rep (z : List Value) (n : Nat) (hz : 0 < z.length) : madeCells z.toArray (n * z.length) = (rep n z).toArray := by
  apply Array.ext'
  apply List.ext_getElem?
  intro i
  unfold madeCells
  rw [Array.toList_map, Array.toList_range]
  rcases Nat.lt_or_ge i (n * z.length) with h | h
  · have hm : i % z.length < z.length := Nat.mod_lt _ hz
    rw [rep_getElem? z hz n i h, List.getElem?_map, List.getElem?_range h]
    simp [hm]
  · rw [List.getElem?_eq_none (by simp; exact h), List.getElem?_eq_none (by rw [rep_length]; exact h)]
theorem zeroCells_rep (z : List Value) (n : Nat) (hz : 0 < z.length) : Builtin.zeroCells z.toArray n = (rep n z).toArray := by
  rw [← madeCells_rep z n hz]
  simp [Builtin.zeroCells, madeCells]

/-- A slice that reads as so many cells. -/
def Sl (w : World) (p : Option Addr) (n sz : Nat) (xs : List Value) : Prop :=
  xs.length = n * sz ∧ (n = 0 ∨ ∃ b off, p = some ⟨b, off, none⟩ ∧ Seg w b off xs)

/-- A slice at the head of a block of one's own. -/
def Own (w : World) (p : Option Addr) (n c T sz : Nat) (xs : List Value) : Prop :=
  (p = none ∧ n = 0 ∧ c = 0 ∧ xs = []) ∨ ∃ b l, p = some ⟨b, 0, none⟩ ∧ Blk w b T l ∧ l.length = c * sz ∧ n ≤ c ∧ c ≤ maxLen ∧ l.take (n * sz) = xs
abbrev OwnB (p : Option Addr) : Nat → Prop := fun x => p = some ⟨x, 0, none⟩

theorem Own.nil (w : World) (T sz : Nat) : Own w none 0 0 T sz [] := .inl ⟨rfl, rfl, rfl, rfl⟩
theorem Own.len {w : World} {p : Option Addr} {n c T sz : Nat} {xs : List Value} (h : Own w p n c T sz xs) : xs.length = n * sz := by
  rcases h with ⟨_, rfl, _, rfl⟩ | ⟨b, l, _, _, hl, hn, _, rfl⟩
  · simp
  · have : n * sz ≤ c * sz := Nat.mul_le_mul_right _ hn
    rw [List.length_take, hl, Nat.min_eq_left this]
theorem Own.cap {w : World} {p : Option Addr} {n c T sz : Nat} {xs : List Value} (h : Own w p n c T sz xs) : n ≤ c := by
  rcases h with ⟨_, rfl, rfl, _⟩ | ⟨b, l, _, _, _, hn, _, _⟩
  · exact Nat.le_refl _
  · exact hn
theorem Own.sl {w : World} {p : Option Addr} {n c T sz : Nat} {xs : List Value} (h : Own w p n c T sz xs) : Sl w p n sz xs := by
  refine ⟨h.len, ?_⟩
  rcases h with ⟨_, hn, _, _⟩ | ⟨b, l, hp, hb, _, _, _, rfl⟩
  · exact .inl hn
  · exact .inr ⟨b, 0, hp, hb.seg.take _⟩
theorem Own.ext {S : Nat → Prop} {w w' : World} {p : Option Addr} {n c T sz : Nat} {xs : List Value} (h : Own w p n c T sz xs) (hE : Ext S w w') (hS : ∀ x, OwnB p x → ¬ S x) : Own w' p n c T sz xs := by
  rcases h with h | ⟨b, l, hp, hb, r⟩
  · exact .inl h
  · exact .inr ⟨b, l, hp, hb.ext hE (hS b hp), r⟩
theorem Own.lt {w : World} {p : Option Addr} {n c T sz : Nat} {xs : List Value} (h : Own w p n c T sz xs) {x : Nat} (hx : OwnB p x) : x < w.heap.size := by
  rcases h with ⟨hp, _⟩ | ⟨b, l, hp, hb, _⟩
  · rw [hp] at hx; cases hx
  · rw [hp] at hx
    obtain rfl : b = x := by simpa using hx
    exact hb.lt
theorem Own.blk {w : World} {b n c T : Nat} {l : List Value} (h : Blk w b T l) (sz : Nat) (hl : l.length = c * sz) (hn : n ≤ c) (hc : c ≤ maxLen) : Own w (some ⟨b, 0, none⟩) n c T sz (l.take (n * sz)) :=
  .inr ⟨b, l, rfl, h, hl, hn, hc, rfl⟩
theorem Sl.ext {S : Nat → Prop} {w w' : World} {p : Option Addr} {n sz : Nat} {xs : List Value} (h : Sl w p n sz xs) (hE : Ext S w w') (hS : ∀ b off, p = some ⟨b, off, none⟩ → ¬ S b) : Sl w' p n sz xs := by
  refine ⟨h.1, ?_⟩
  rcases h.2 with h0 | ⟨b, off, hp, hs⟩
  · exact .inl h0
  · exact .inr ⟨b, off, hp, hs.ext hE (hS b off hp)⟩
theorem Sl.extNo {w w' : World} {p : Option Addr} {n sz : Nat} {xs : List Value} (h : Sl w p n sz xs) (hE : Ext No w w') : Sl w' p n sz xs := h.ext hE fun _ _ _ => id
theorem Sl.nil (w : World) (p : Option Addr) (sz : Nat) : Sl w p 0 sz [] := ⟨by simp, .inl rfl⟩

section
variable {P : Program} {I : Info} {f : Fs} {ops : Array Oper} {o : Oper} {env : Env} {w : World} {K : Env → World → Prop}

/-- make -/
def mkE (I : Info) (n : Nat) (ops : Array Oper) (env : Env) (o : Oper) : Option (Nat × TI × Int × Int × Nat) :=
  match pre n ops env o with
  | false => none
  | true => match o.dst with
    | some d => match o.op with
      | .makeSlice t x z => match lkT I t with
        | some y => match y.desc with
          | .slice e => match lkT I e with
            | some g => match evO env x with
              | some (.int _ p) => match evO env z with
                | some (.int _ q) => some (e, g, p, q, d)
                | _ => none
              | _ => none
            | none => none
          | _ => none
        | none => none
      | _ => none
    | none => none
theorem mkE_eq {n e d : Nat} {g : TI} {p q : Int} (h : mkE I n ops env o = some (e, g, p, q, d)) : takes ops env o = true ∧ dOk n o.dst = true ∧ o.dst = some d ∧ ∃ t x z y k k', o.op = .makeSlice t x z ∧ lkT I t = some y ∧ y.desc = .slice e ∧ lkT I e = some g ∧ evO env x = some (.int k p) ∧ evO env z = some (.int k' q) := by
  unfold mkE at h
  split at h
  · cases h
  · rename_i hp
    obtain ⟨h1, h2⟩ := pre_eq hp
    split at h
    · rename_i d' hd
      split at h
      · rename_i t x z ho
        split at h
        · rename_i y hy
          split at h
          · rename_i e' he
            split at h
            · rename_i g' hg
              split at h
              · rename_i k p' hx
                split at h
                · rename_i k' q' hz
                  cases h
                  exact ⟨h1, h2, hd, t, x, z, y, k, k', ho, hy, he, hg, hx, hz⟩
                · cases h
              · cases h
            · cases h
          · cases h
        · cases h
      · cases h
    · cases h

theorem st_mk (hI : I.Ok P) {e d : Nat} {g : TI} {p q : Int} (h : mkE I f.n ops env o = some (e, g, p, q, d)) (n c : Nat) (by_ : Nat) (hby : g.bytes = by_) {zs : List Value} (hzs : cellsOf g.zero = zs) (hz : zs.length = g.size) (hz0 : 0 < zs.length) (hn : p = (n : Int)) (hc : q = (c : Int)) (hnc : n ≤ c) (hb : by_ * c ≤ 281474976710656) (hm : c ≤ maxLen)
    (k : ∀ (b : Nat) w', w.heap.size ≤ b → Blk w' b e (rep c zs) → Ext No w w' → w'.heap.size = w.heap.size + 1 → K ((d, .slice (some ⟨b, 0, none⟩) n c) :: env) w') : St P f ops o env w K := by
  subst hby
  subst hzs
  obtain ⟨h1, h2, hd, t, x, z, y, kk, kk', ho, hy, he, hg, hx, hzz⟩ := mkE_eq h
  subst hn; subst hc
  obtain ⟨i, hi, i1, i2, i3⟩ := TI.Ok.info (hI.get hg)
  have hu := (hI.get hy).1
  rw [he] at hu
  unfold maxLen at hm
  have hr := run_make (P := P) w t e i g.zero hu hi i3 kk kk' n c (by omega) (by omega) (by rw [i2, ← Int.natCast_mul]; exact Int.ofNat_le.2 hb) (by omega)
  rw [i1, ← hz, Int.toNat_natCast, Int.toNat_natCast, show g.zero.cells = (cellsOf g.zero).toArray from by rw [← cellsOf_eq], madeCells_rep _ _ (by omega)] at hr
  refine st_v h1 h2 (v := .slice (some ⟨w.heap.size, 0, none⟩) n c) (w' := w.alloc (.cells (rep c (cellsOf g.zero)).toArray e)) (fun ρ hρ => ?_) ?_
  · simp only [execOp, ho, hρ _ _ hx, hρ _ _ hzz, Sem.run_bind, hr, Result.andThen_ok, Sem.run_pure]
  · rw [hd]
    exact k _ _ (Nat.le_refl _) (alloc_blk _ _ _) (Ext.alloc _ _ _) (by simp)

/-! ### Slice expressions -/
def slBase (p : Option Addr) (l m sz : Nat) : Option Addr := if m = l then p else p.map (·.add (l * sz))
theorem slBase_eq {b off l m sz : Nat} (h : l ≠ m) : slBase (some ⟨b, off, none⟩) l m sz = some ⟨b, off + l * sz, none⟩ := by
  unfold slBase
  rw [if_neg (fun e => h e.symm)]
  simp [addr_add]
theorem slBase_zero {p : Option Addr} {m sz : Nat} : slBase p 0 m sz = p := by
  unfold slBase
  split
  · rfl
  · cases p <;> simp [Addr.add]

def evI (env : Env) (x : Option Operand) : Option (Option Int) :=
  match x with
  | none => some none
  | some y => match evO env y with
    | some (.int _ n) => some (some n)
    | _ => none
structure SlArgs where
  p : Option Addr
  n : Nat
  c : Nat
  sz : Nat
  lo : Option Int
  hi : Option Int
  mx : Option Int
  d : Nat
def slE (I : Info) (n : Nat) (ops : Array Oper) (env : Env) (o : Oper) : Option SlArgs :=
  match pre n ops env o with
  | false => none
  | true => match o.dst with
    | some d => match o.op with
      | .slice t x lo hi mx => match lkT I t with
        | some y => match y.desc with
          | .slice e => match lkT I e with
            | some g => match evO env x with
              | some (.slice p m c) => match evI env lo with
                | some lo' => match evI env hi with
                  | some hi' => match evI env mx with
                    | some mx' => some ⟨p, m, c, g.size, lo', hi', mx', d⟩
                    | none => none
                  | none => none
                | none => none
              | _ => none
            | none => none
          | _ => none
        | none => none
      | _ => none
    | none => none

theorem evI_eq {x : Option Operand} {r : Option Int} (h : evI env x = some r) {ρ : Operand → Value} (hρ : ∀ x u, evO env x = some u → ρ x = u) : (r = none ∧ x.map ρ = none) ∨ (∃ n k, r = some n ∧ x.map ρ = some (.int k n)) := by
  unfold evI at h
  split at h
  · cases h; exact .inl ⟨rfl, rfl⟩
  · rename_i y
    split at h
    · rename_i k n hy
      cases h
      exact .inr ⟨n, k, rfl, by simp [hρ _ _ hy]⟩
    · cases h

theorem run_bound {P : Program} {w : World} (k : IntKind) (n y : Nat) (code : BoundsCode) (h : n ≤ y) : (Instr.sliceBound (.int k (n : Int)) y code).run P w = .ok n w := by
  have : (0 : Int) ≤ (n : Int) ∧ (n : Int) ≤ (y : Int) := by omega
  simp [Instr.sliceBound, asIntOf, this]

theorem ov_sl (hI : I.Ok P) {nn : Nat} {s : SlArgs} (h : slE I nn ops env o = some s) (l hh m : Nat) (sz : Nat) (hsz : s.sz = sz) (h1 : s.mx = some (m : Int) ∧ s.hi.isSome = true ∨ s.mx = none ∧ m = s.c) (h2 : s.hi = some (hh : Int) ∨ s.hi = none ∧ hh = s.n) (h3 : s.lo = some (l : Int) ∨ s.lo = none ∧ l = 0)
    (hl : l ≤ hh) (hm : hh ≤ m) (hc : m ≤ s.c)
    : takes ops env o = true ∧ dOk nn o.dst = true ∧ o.dst = some s.d ∧ Ov P o env w (.slice (slBase s.p l m sz) (hh - l) (m - l)) w := by
  subst hsz
  unfold slE at h
  split at h
  · cases h
  · rename_i hp
    obtain ⟨e1, e2⟩ := pre_eq hp
    split at h
    · rename_i d' hd
      split at h
      · rename_i t x lo hi mx ho
        split at h
        · rename_i y hy
          split at h
          · rename_i e he
            split at h
            · rename_i g hg
              split at h
              · rename_i p n c hx
                split at h
                · rename_i lo' hlo
                  split at h
                  · rename_i hi' hhi
                    split at h
                    · rename_i mx' hmx
                      cases h
                      simp only at *
                      refine ⟨e1, e2, hd, fun ρ hρ => ?_⟩
                      have hu := (hI.get hy).under w
                      have hs := (hI.get hg).sizeOf w
                      rw [he] at hu
                      have fin : ∀ {lo hi mx : Option Value}, (Instr.sliceBounds true n c lo hi mx).run P w = .ok (l, hh, m) w → (Instr.slice t (.slice p n c) lo hi mx).run P w = .ok (.slice (slBase p l m g.size) (hh - l) (m - l)) w := by
                        intro lo hi mx hb
                        unfold Instr.slice
                        rw [run_under_bind hu]
                        simp only [Sem.run_bind, hb, Result.andThen_ok, hs, Sem.run_pure, slBase]
                      have go : (Instr.sliceAt t (.slice p n c) (lo.map ρ) (hi.map ρ) (mx.map ρ)).run P w = .ok (.slice (slBase p l m g.size) (hh - l) (m - l)) w := by
                        unfold Instr.sliceAt
                        rw [run_under_bind hu]
                        refine fin ?_
                        have q3 : (lo.map ρ = none ∧ l = 0) ∨ ∃ k, lo.map ρ = some (.int k (l : Int)) := by
                          rcases evI_eq hlo hρ with ⟨hr, hv⟩ | ⟨nn, kk, hr, hv⟩ <;> rcases h3 with h3 | ⟨h3, h3'⟩ <;> rw [h3] at hr <;> cases hr
                          · exact .inl ⟨hv, h3'⟩
                          · exact .inr ⟨kk, hv⟩
                        have q2 : (hi.map ρ = none ∧ hi' = none ∧ hh = n) ∨ ∃ k, hi.map ρ = some (.int k (hh : Int)) := by
                          rcases evI_eq hhi hρ with ⟨hr, hv⟩ | ⟨nn, kk, hr, hv⟩ <;> rcases h2 with h2 | ⟨h2, h2'⟩ <;> rw [h2] at hr <;> cases hr
                          · exact .inl ⟨hv, h2, h2'⟩
                          · exact .inr ⟨kk, hv⟩
                        have q1 : (mx.map ρ = none ∧ m = c) ∨ (hi'.isSome = true ∧ ∃ k, mx.map ρ = some (.int k (m : Int))) := by
                          rcases evI_eq hmx hρ with ⟨hr, hv⟩ | ⟨nn, kk, hr, hv⟩ <;> rcases h1 with ⟨h1, h1'⟩ | ⟨h1, h1'⟩ <;> rw [h1] at hr <;> cases hr
                          · exact .inl ⟨hv, h1'⟩
                          · exact .inr ⟨h1', kk, hv⟩
                        clear fin
                        unfold Instr.sliceBounds
                        rcases q1 with ⟨q1, rfl⟩ | ⟨q1', k1, q1⟩ <;> rcases q2 with ⟨q2, q2', rfl⟩ | ⟨k2, q2⟩ <;> rcases q3 with ⟨q3, rfl⟩ | ⟨k3, q3⟩ <;> rw [q1, q2, q3] <;>
                          first
                            | (rw [q2'] at q1'; cases q1'; done)
                            | (simp only [Sem.run_bind, Sem.run_pure, Result.andThen_ok, if_true, run_bound _ _ _ _ hl, run_bound _ _ _ _ hm, run_bound _ _ _ _ hc]; done)
                      simp only [execOp, ho, hρ _ _ hx, Sem.run_bind, go, Result.andThen_ok, Sem.run_pure]
                    · cases h
                  · cases h
                · cases h
              · cases h
            · cases h
          · cases h
        · cases h
      · cases h
    · cases h

theorem st_sl (hI : I.Ok P) {s : SlArgs} (h : slE I f.n ops env o = some s) (l hh m : Nat) (sz : Nat) (hsz : s.sz = sz) (h1 : s.mx = some (m : Int) ∧ s.hi.isSome = true ∨ s.mx = none ∧ m = s.c) (h2 : s.hi = some (hh : Int) ∨ s.hi = none ∧ hh = s.n) (h3 : s.lo = some (l : Int) ∨ s.lo = none ∧ l = 0)
    (hl : l ≤ hh) (hm : hh ≤ m) (hc : m ≤ s.c) (k : K ((s.d, .slice (slBase s.p l m sz) (hh - l) (m - l)) :: env) w) : St P f ops o env w K :=
  have ⟨e1, e2, hd, hv⟩ := ov_sl (w := w) hI h l hh m sz hsz h1 h2 h3 hl hm hc
  st_v e1 e2 hv (by rw [hd]; exact k)

theorem Sl.slice {w : World} {p : Option Addr} {n sz : Nat} {xs : List Value} (h : Sl w p n sz xs) (l hh m : Nat) (hl : l ≤ hh) (hm : hh ≤ m) (hn : hh ≤ n) : Sl w (slBase p l m sz) (hh - l) sz ((xs.drop (l * sz)).take ((hh - l) * sz)) := by
  obtain ⟨hx, h'⟩ := h
  have e1 : l * sz + (hh - l) * sz ≤ xs.length := by
    rw [hx, ← Nat.add_mul]; exact Nat.mul_le_mul_right _ (by omega)
  refine ⟨by simp; omega, ?_⟩
  by_cases h0 : hh = l
  · exact .inl (by omega)
  · rcases h' with h' | ⟨b, off, rfl, hs⟩
    · omega
    · exact .inr ⟨b, off + l * sz, slBase_eq (by omega), (hs.drop _).take _⟩

/-! ### append -/
/-- what is appended, or copied: so many elements, these cells -/
def Src (P : Program) (w : World) (sz : Nat) (x : Value) (m : Nat) (news : List Value) : Prop :=
  Builtin.lenOf x = pure m ∧ news.length = m * sz ∧ (∀ v ∈ news, v.oneCell' = true) ∧ ∀ w', (∀ a, w'.cell? a = w.cell? a) → (Builtin.firstCells sz m x).run P w' = .ok news.toArray w'

theorem Src.slice {P : Program} {w : World} {p : Option Addr} {m c sz : Nat} {news : List Value} (h : Sl w p m sz news) (h1 : ∀ v ∈ news, v.oneCell' = true) : Src P w sz (.slice p m c) m news := by
  refine ⟨rfl, h.1, h1, fun w' hw => ?_⟩
  rcases h.2 with h0 | ⟨b, off, rfl, hs⟩
  · have : news = [] := by have := h.1; rw [h0] at this; simpa using this
    subst this; subst h0
    cases p with
    | none => rfl
    | some a =>
      unfold Builtin.firstCells loadCells
      rw [Nat.zero_mul]
      rfl
  · have hs' : Seg w' b (off + 0) news := fun i v hi => by rw [Nat.add_zero, hw]; exact hs i v hi
    have := run_loadCells_seg (P := P) (m * sz) 0 news #[] hs' h.1
    show (loadCellsFrom ⟨b, off, none⟩ 0 (m * sz) #[]).run P w' = _
    rw [this]
    simp
theorem Src.string {P : Program} {w : World} {s : ByteArray} : Src P w 1 (.string s) s.size (s.data.toList.map fun b => .int .u8 b.toNat) := by
  refine ⟨rfl, by rw [List.length_map, Nat.mul_one]; rfl, fun v hv => ?_, fun w' _ => ?_⟩
  · obtain ⟨b, _, rfl⟩ := List.mem_map.1 hv; rfl
  · have : s.extract 0 s.size = s := by
      apply ByteArray.ext
      rw [ByteArray.data_extract]
      have : s.size = s.data.size := rfl
      rw [this, Array.extract_size]
    simp only [Builtin.firstCells, this, Sem.run_pure]
    congr 1
    apply Array.ext'
    simp

theorem Src.cells {P : Program} {w w' : World} {sz m : Nat} {x : Value} {news : List Value} (h : Src P w sz x m news) (hw : ∀ a, w'.cell? a = w.cell? a) : (Builtin.firstCells sz m x).run P w' = .ok news.toArray w' := h.2.2.2 w' hw

/-- append where there is no room: a new row -/
theorem run_appG (hI : I.Ok P) {t t2 ty e : Nat} {y y2 g : TI} (hy : lkT I t = some y) (he : y.desc = .slice e) (hg : lkT I e = some g) (hy2 : lkT I t2 = some y2) (hd2 : (∃ e2, y2.desc = .slice e2) ∨ y2.desc = .string)
    (hz : (cellsOf g.zero).length = g.size) (hz0 : 0 < g.size) {p : Option Addr} {n c : Nat} {xs : List Value} (hsl : Sl w p n g.size xs) {x : Value} {m : Nat} {news : List Value} (hsrc : Src P w g.size x m news)
    (hm : n + m ≤ maxLen) (hb : (n + m) * g.bytes ≤ 140737488355328) (hgr : c < n + m) :
    ∃ c' w', (Builtin.append_ #[t, t2] ty #[.slice p n c, x]).run P w = .ok (.slice (some ⟨w.heap.size, 0, none⟩) (n + m) c') w' ∧ Own w' (some ⟨w.heap.size, 0, none⟩) (n + m) c' e g.size (xs ++ news) ∧ Ext No w w' := by
  have hu := (hI.get hy).under w
  rw [he] at hu
  have hs := (hI.get hg).sizeOf w
  have hu2 := (hI.get hy2).under w
  obtain ⟨i, hi, i1, i2, i3⟩ := TI.Ok.info (hI.get hg)
  have hxl := hsl.1
  unfold maxLen at hm
  have hlen := hsrc.1
  unfold Builtin.append_
  simp only [List.getElem?_toArray, List.getElem?_cons_zero, List.getElem?_cons_succ]
  rw [run_under_bind hu]
  simp only []
  rw [Sem.run_bind, hs, Result.andThen_ok]
  rw [run_under_bind hu2]
  rcases hd2 with ⟨e2, h2⟩ | h2 <;> rw [h2] <;> simp only [pure_bind, Bool.false_eq_true, if_false, Bool.not_false, if_true, hlen]
  all_goals
    have hfit : ¬ (n + m ≤ c) := by omega
    skip
    · rw [if_neg hfit]
      have h63 : ¬ ((n + m : Nat) : Int) > IntKind.i64.max := by
        show ¬ ((n + m : Nat) : Int) > 2 ^ (64 - 1) - 1
        omega
      have h48 : ¬ Builtin.nextslicecap (n + m) c * i.bytes > 2 ^ 48 := by
        have := growslice_fits (need := n + m) (old := c) (bytes := i.bytes) (by omega) (by rw [i2]; exact hb)
        simp only [gt_iff_lt, Nat.not_lt]
        exact this
      have hnc : (choose (.appendCap (n + m) c e)).run P w = .ok (grownCap w (n + m) c e) w.drew := by
        simp [Question.forced, grownCap]
      have hbytes : ∀ w : World, (typeInfo e).run P w = .ok i w := fun w => by unfold typeInfo; simp [hi]
      have hold : (Builtin.firstCells g.size n (.slice p n c)).run P w.drew = .ok xs.toArray w.drew := by
        rcases hsl.2 with h0 | ⟨b, off, rfl, hs0⟩
        · have : xs = [] := by rw [h0] at hxl; simpa using hxl
          subst this; subst h0
          cases p with
          | none => rfl
          | some a =>
            unfold Builtin.firstCells loadCells
            rw [Nat.zero_mul]
            rfl
        · have hs' : Seg w.drew b (off + 0) xs := hs0
          have := run_loadCells_seg (P := P) (n * g.size) 0 xs #[] hs' hxl
          show (loadCellsFrom ⟨b, off, none⟩ 0 (n * g.size) #[]).run P w.drew = _
          rw [this]
          simp
      have hge : n + m ≤ grownCap w (n + m) c e := by
        unfold grownCap Question.cut
        exact Nat.le_add_right _ _
      have hgm : grownCap w (n + m) c e ≤ maxLen := grownCap_le_maxLen w _ _ _ (by unfold maxLen; omega)
      refine ⟨grownCap w (n + m) c e, w.drew.alloc (.cells (xs ++ news ++ rep (grownCap w (n + m) c e - (n + m)) (cellsOf g.zero)).toArray e), ?_, .inr ⟨_, _, rfl, alloc_blk w.drew _ e, ?_, hge, hgm, ?_⟩, ?_⟩
      · simp only [Sem.run_bind, hbytes, Result.andThen_ok, Sem.run_ite, h63, false_and, h48, if_false, hnc, run_askRoom, hold, hsrc.cells (w' := w.drew) (fun _ => rfl), (hI.get hg).zeroValue, Sem.run_pure, newRow, run_newObj]
        rw [show g.zero.cells = (cellsOf g.zero).toArray from by rw [← cellsOf_eq], zeroCells_rep _ _ (by omega)]
        simp only [List.append_toArray]
        rfl
      · rw [List.length_append, List.length_append, rep_length, hz, hxl, hsrc.2.1, ← Nat.add_mul, ← Nat.add_mul]
        congr 1
        omega
      · rw [Nat.add_mul, ← hxl, ← hsrc.2.1, ← List.length_append, List.take_left]
      · exact (Ext.drew w).then (Ext.alloc w.drew _ e)

/-- append to a slice of one's own: it has what it had and what comes -/
theorem run_app (hI : I.Ok P) {t t2 ty e : Nat} {y y2 g : TI} (hy : lkT I t = some y) (he : y.desc = .slice e) (hg : lkT I e = some g) (hy2 : lkT I t2 = some y2) (hd2 : (∃ e2, y2.desc = .slice e2) ∨ y2.desc = .string)
    (hz : (cellsOf g.zero).length = g.size) (hz0 : 0 < g.size) {p : Option Addr} {n c : Nat} {xs : List Value} (hown : Own w p n c e g.size xs) {x : Value} {m : Nat} {news : List Value} (hsrc : Src P w g.size x m news)
    (hm : n + m ≤ maxLen) (hb : (n + m) * g.bytes ≤ 140737488355328) :
    ∃ p' c' w', (Builtin.append_ #[t, t2] ty #[.slice p n c, x]).run P w = .ok (.slice p' (n + m) c') w' ∧ Own w' p' (n + m) c' e g.size (xs ++ news) ∧ Ext (OwnB p) w w' ∧ (∀ b, OwnB p' b → OwnB p b ∨ w.heap.size ≤ b) ∧ (n + m = 0 ∨ p' ≠ none) := by
  have hu := (hI.get hy).under w
  rw [he] at hu
  have hs := (hI.get hg).sizeOf w
  have hu2 := (hI.get hy2).under w
  obtain ⟨i, hi, i1, i2, i3⟩ := TI.Ok.info (hI.get hg)
  have hcap := hown.cap
  have hxl := hown.len
  unfold maxLen at hm
  have hlen := hsrc.1
  unfold Builtin.append_
  simp only [List.getElem?_toArray, List.getElem?_cons_zero, List.getElem?_cons_succ]
  rw [run_under_bind hu]
  simp only []
  rw [Sem.run_bind, hs, Result.andThen_ok]
  rw [run_under_bind hu2]
  rcases hd2 with ⟨e2, h2⟩ | h2 <;> rw [h2] <;> simp only [pure_bind, Bool.false_eq_true, if_false, Bool.not_false, if_true, hlen]
  all_goals
    by_cases hfit : n + m ≤ c
    · rw [if_pos hfit]
      simp only [Sem.run_bind, hsrc.cells (fun _ => rfl), Result.andThen_ok]
      rcases hown with ⟨rfl, rfl, rfl, rfl⟩ | ⟨b, l, rfl, hblk, hl, hn, hcm, htk⟩
      · have hm0 : m = 0 := by omega
        subst hm0
        have : news = [] := by have := hsrc.2.1; simpa using this
        subst this
        exact ⟨none, 0, w, by simp, .inl ⟨rfl, rfl, rfl, rfl⟩, Ext.refl _ _, fun b hb => .inl hb, .inl rfl⟩
      · have hroom : n * g.size + news.length ≤ l.length := by
          rw [hsrc.2.1, hl, ← Nat.add_mul]; exact Nat.mul_le_mul_right _ hfit
        obtain ⟨w', hr, hb', hE, hsz⟩ := run_storeCells_blk (P := P) news w l (n * g.size) 0 hblk (by omega) hsrc.2.2.1
        refine ⟨some ⟨b, 0, none⟩, c, w', ?_, .inr ⟨b, _, rfl, hb', by rw [put_length, hl], hfit, hcm, ?_⟩, hE.mono ?_, fun x hx => .inl hx, .inr (by simp)⟩
        · have ha : (⟨b, 0, none⟩ : Addr).add (n * g.size) = ⟨b, n * g.size, none⟩ := by rw [addr_add, Nat.zero_add]
          simp only [ha, Sem.run_bind, hr, Result.andThen_ok, Sem.run_pure]
        · rw [Nat.add_zero, put_eq _ _ _ hroom, htk, Nat.add_mul, ← hsrc.2.1]
          rw [show n * g.size + news.length = (xs ++ news).length from by simp [hxl]]
          rw [List.take_left]
        · intro x _ hx
          subst hx
          rfl
    · rw [if_neg hfit]
      have h63 : ¬ ((n + m : Nat) : Int) > IntKind.i64.max := by
        show ¬ ((n + m : Nat) : Int) > 2 ^ (64 - 1) - 1
        omega
      have h48 : ¬ Builtin.nextslicecap (n + m) c * i.bytes > 2 ^ 48 := by
        have := growslice_fits (need := n + m) (old := c) (bytes := i.bytes) (by omega) (by rw [i2]; exact hb)
        simp only [gt_iff_lt, Nat.not_lt]
        exact this
      have hnc : (choose (.appendCap (n + m) c e)).run P w = .ok (grownCap w (n + m) c e) w.drew := by
        simp [Question.forced, grownCap]
      have hbytes : ∀ w : World, (typeInfo e).run P w = .ok i w := fun w => by unfold typeInfo; simp [hi]
      have hold : (Builtin.firstCells g.size n (.slice p n c)).run P w.drew = .ok xs.toArray w.drew := by
        rcases hown with ⟨rfl, rfl, rfl, rfl⟩ | ⟨b, l, rfl, hblk, hl, hn, hcm, htk⟩
        · rfl
        · have hs' : Seg w.drew b (0 + 0) xs := by subst htk; exact hblk.seg.take _
          have := run_loadCells_seg (P := P) (n * g.size) 0 xs #[] hs' hxl
          show (loadCellsFrom ⟨b, 0, none⟩ 0 (n * g.size) #[]).run P w.drew = _
          rw [this]
          simp
      have hge : n + m ≤ grownCap w (n + m) c e := by
        unfold grownCap Question.cut
        exact Nat.le_add_right _ _
      have hgm : grownCap w (n + m) c e ≤ maxLen := grownCap_le_maxLen w _ _ _ (by unfold maxLen; omega)
      refine ⟨some ⟨w.heap.size, 0, none⟩, grownCap w (n + m) c e, w.drew.alloc (.cells (xs ++ news ++ rep (grownCap w (n + m) c e - (n + m)) (cellsOf g.zero)).toArray e), ?_, .inr ⟨_, _, rfl, alloc_blk w.drew _ e, ?_, hge, hgm, ?_⟩, ?_, fun b hb => .inr ?_, .inr (by simp)⟩
      · simp only [Sem.run_bind, hbytes, Result.andThen_ok, Sem.run_ite, h63, false_and, h48, if_false, hnc, run_askRoom, hold, hsrc.cells (w' := w.drew) (fun _ => rfl), (hI.get hg).zeroValue, Sem.run_pure, newRow, run_newObj]
        rw [show g.zero.cells = (cellsOf g.zero).toArray from by rw [← cellsOf_eq], zeroCells_rep _ _ (by omega)]
        simp only [List.append_toArray]
        rfl
      · rw [List.length_append, List.length_append, rep_length, hz, hxl, hsrc.2.1, ← Nat.add_mul, ← Nat.add_mul]
        congr 1
        omega
      · rw [Nat.add_mul, ← hxl, ← hsrc.2.1, ← List.length_append, List.take_left]
      · exact ((Ext.drew w).then (Ext.alloc w.drew _ e)).no
      · simp only [OwnB, Option.some.injEq, Addr.mk.injEq] at hb
        omega
end
end Go.Vc
