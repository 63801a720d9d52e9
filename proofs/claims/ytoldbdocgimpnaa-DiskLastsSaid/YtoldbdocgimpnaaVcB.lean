/-
  Worlds: what stays, what is known of a block.
-/
import Derived.Test.YtoldbdocgimpnaaVcA
import Derived.Below
import Derived.OwnWalk
namespace Go.Vc

/-- From w to w' nothing has turned but blocks of S and new ones. -/
structure Ext (S : Nat → Prop) (w w' : World) : Prop where
  os : w'.os = w.os
  tape : w'.tape = w.tape
  output : w'.output = w.output
  size : w.heap.size ≤ w'.heap.size
  same : ∀ b, b < w.heap.size → ¬ S b → w'.heap[b]? = w.heap[b]?
  froz : ∀ a, w'.frozen? a = w.frozen? a

abbrev No : Nat → Prop := fun _ => False
abbrev One (b : Nat) : Nat → Prop := fun x => x = b

theorem Ext.refl (S : Nat → Prop) (w : World) : Ext S w w := ⟨rfl, rfl, rfl, Nat.le_refl _, fun _ _ _ => rfl, fun _ => rfl⟩
theorem Ext.trans {S T : Nat → Prop} {a b c : World} (h : Ext S a b) (k : Ext T b c) (hT : ∀ x, x < a.heap.size → T x → S x) : Ext S a c :=
  ⟨k.os.trans h.os, k.tape.trans h.tape, k.output.trans h.output, Nat.le_trans h.size k.size,
    fun x hx hS => (k.same x (Nat.lt_of_lt_of_le hx h.size) fun ht => hS (hT x hx ht)).trans (h.same x hx hS), fun x => (k.froz x).trans (h.froz x)⟩
theorem Ext.mono {S T : Nat → Prop} {a b : World} (h : Ext T a b) (hT : ∀ x, x < a.heap.size → T x → S x) : Ext S a b :=
  ⟨h.os, h.tape, h.output, h.size, fun x hx hS => h.same x hx fun ht => hS (hT x hx ht), h.froz⟩
theorem Ext.no {S : Nat → Prop} {a b : World} (h : Ext No a b) : Ext S a b := h.mono fun _ _ f => f.elim
theorem Ext.then {S : Nat → Prop} {a b c : World} (h : Ext S a b) (k : Ext S b c) : Ext S a c := h.trans k fun _ _ h => h
theorem Ext.thenNo {S : Nat → Prop} {a b c : World} (h : Ext S a b) (k : Ext No b c) : Ext S a c := h.trans k fun _ _ h => h.elim
theorem Ext.thenNew {S : Nat → Prop} {b₀ : Nat} {a b c : World} (h : Ext S a b) (k : Ext (One b₀) b c) (hb : a.heap.size ≤ b₀) : Ext S a c :=
  h.trans k fun x hx e => by omega
theorem Ext.drew (w : World) : Ext No w w.drew := ⟨rfl, rfl, rfl, Nat.le_refl _, fun _ _ _ => rfl, fun _ => rfl⟩
theorem Ext.drew' (w : World) : Ext No w { w with drawn := w.drawn + 1 } := Ext.drew w
theorem Ext.alloc (w : World) (c : Array Value) (T : TypeId) : Ext No w (w.alloc (.cells c T)) :=
  ⟨rfl, rfl, rfl, by simp, fun b hb _ => by show (w.heap.push _)[b]? = _; rw [Array.getElem?_push, if_neg (by omega)],
    fun a => by
      by_cases h : a.block = w.heap.size
      · have e1 : (w.alloc (.cells c T)).heap[a.block]? = some (.cells c T) := by rw [h]; show (w.heap.push _)[w.heap.size]? = _; simp
        have e2 : w.heap[a.block]? = none := by rw [h]; simp
        simp [World.frozen?, e1, e2]
      · exact World.frozen?_alloc_old _ _ _ h⟩
theorem Ext.grown {S : Nat → Prop} {w w' : World} (h : Ext S w w') (hS : ∀ x, x < w.heap.size → ¬ S x) : RowKit.Grown w w' :=
  ⟨⟨h.os, h.output, fun i hi => by
    rw [h.same i hi (hS i hi)]
    split <;> simp_all⟩, h.froz, h.size⟩

/-- A block of cells that is known whole. -/
def Blk (w : World) (b : Nat) (T : TypeId) (l : List Value) : Prop := w.heap[b]? = some (.cells l.toArray T (0, 0))
/-- Cells from a place on. -/
def Seg (w : World) (b off : Nat) (l : List Value) : Prop := ∀ (i : Nat) (v : Value), l[i]? = some v → w.cell? ⟨b, off + i, none⟩ = some v

theorem Blk.lt {w : World} {b : Nat} {T : TypeId} {l : List Value} (h : Blk w b T l) : b < w.heap.size := by
  rcases Nat.lt_or_ge b w.heap.size with h' | h'
  · exact h'
  · unfold Blk at h; rw [Array.getElem?_eq_none h'] at h; cases h
theorem Blk.ext {S : Nat → Prop} {w w' : World} {b : Nat} {T : TypeId} {l : List Value} (h : Blk w b T l) (hE : Ext S w w') (hS : ¬ S b) : Blk w' b T l :=
  (hE.same b h.lt hS).trans h
theorem Blk.extNo {w w' : World} {b : Nat} {T : TypeId} {l : List Value} (h : Blk w b T l) (hE : Ext No w w') : Blk w' b T l := h.ext hE id
theorem Blk.ext1 {w w' : World} {b c : Nat} {T : TypeId} {l : List Value} (h : Blk w b T l) (hE : Ext (One c) w w') (hne : b ≠ c) : Blk w' b T l := h.ext hE hne
theorem Blk.cell {w : World} {b : Nat} {T : TypeId} {l : List Value} (h : Blk w b T l) {i : Nat} {v : Value} (hi : l[i]? = some v) : w.cell? ⟨b, i, none⟩ = some v := by
  unfold Blk at h
  simp [World.cell?, h, hi]
theorem Blk.seg {w : World} {b : Nat} {T : TypeId} {l : List Value} (h : Blk w b T l) : Seg w b 0 l := fun i v hi => by
  rw [Nat.zero_add]; exact h.cell hi
theorem Blk.free {w : World} {b : Nat} {T : TypeId} {l : List Value} (h : Blk w b T l) (a : Addr) (ha : a.block = b) : w.frozen? a = false := by
  unfold Blk at h
  subst ha
  simp [World.frozen?, h]
theorem Blk.ne {w : World} {b c : Nat} {T U : TypeId} {l m : List Value} (h : Blk w b T l) (k : Blk w c U m) (hT : T ≠ U) : b ≠ c := by
  intro e; subst e
  unfold Blk at h k
  rw [h] at k
  simp at k
  exact hT k.2
theorem Blk.uniq {w : World} {b : Nat} {T U : TypeId} {l m : List Value} (h : Blk w b T l) (k : Blk w b U m) : l = m ∧ T = U := by
  unfold Blk at h k
  rw [h] at k
  simp at k
  exact k
theorem Seg.ext {S : Nat → Prop} {w w' : World} {b off : Nat} {l : List Value} (h : Seg w b off l) (hE : Ext S w w') (hS : ¬ S b) : Seg w' b off l := fun i v hi => by
  have hc := h i v hi
  have hlt := World.block_lt_of_cell? w ⟨b, off + i, none⟩ hc
  rw [World.cell?_of_block (w := w) (w' := w') (a := ⟨b, off + i, none⟩) (hE.same b hlt hS)]
  exact hc
theorem cell_ext {S : Nat → Prop} {w w' : World} {b off : Nat} {v : Value} (h : w.cell? ⟨b, off, none⟩ = some v) (hE : Ext S w w') (hS : ¬ S b) : w'.cell? ⟨b, off, none⟩ = some v := by
  have hlt := World.block_lt_of_cell? w ⟨b, off, none⟩ h
  rw [World.cell?_of_block (w := w) (w' := w') (a := ⟨b, off, none⟩) (hE.same b hlt hS)]
  exact h
theorem Seg.extNo {w w' : World} {b off : Nat} {l : List Value} (h : Seg w b off l) (hE : Ext No w w') : Seg w' b off l := h.ext hE id
theorem Seg.lt {w : World} {b off : Nat} {l : List Value} (h : Seg w b off l) (hl : l ≠ []) : b < w.heap.size := by
  cases l with
  | nil => exact absurd rfl hl
  | cons v r => exact World.block_lt_of_cell? w ⟨b, off + 0, none⟩ (h 0 v rfl)
theorem Seg.drop {w : World} {b off : Nat} {l : List Value} (h : Seg w b off l) (k : Nat) : Seg w b (off + k) (l.drop k) := fun i v hi => by
  rw [Nat.add_assoc]
  exact h (k + i) v (by rw [List.getElem?_drop] at hi; exact hi)
theorem Seg.take {w : World} {b off : Nat} {l : List Value} (h : Seg w b off l) (k : Nat) : Seg w b off (l.take k) := fun i v hi => by
  rw [List.getElem?_take] at hi
  split at hi
  · exact h i v hi
  · cases hi
theorem Seg.append {w : World} {b off : Nat} {l m : List Value} : Seg w b off (l ++ m) ↔ Seg w b off l ∧ Seg w b (off + l.length) m := by
  constructor
  · intro h
    refine ⟨fun i v hi => h i v ?_, fun i v hi => ?_⟩
    · have : i < l.length := by
        rcases Nat.lt_or_ge i l.length with h' | h'
        · exact h'
        · rw [List.getElem?_eq_none h'] at hi; cases hi
      rw [List.getElem?_append_left this]; exact hi
    · rw [Nat.add_assoc]
      refine h _ v ?_
      rw [List.getElem?_append_right (by omega)]
      rw [Nat.add_sub_cancel_left]; exact hi
  · rintro ⟨h, k⟩ i v hi
    rcases Nat.lt_or_ge i l.length with h' | h'
    · rw [List.getElem?_append_left h'] at hi; exact h i v hi
    · rw [List.getElem?_append_right h'] at hi
      have := k _ v hi
      rwa [show off + l.length + (i - l.length) = off + i from by omega] at this

/-! ### Stores into a block that is known -/
def put (l : List Value) (off : Nat) : List Value → List Value
  | [] => l
  | v :: r => put (l.set off v) (off + 1) r
theorem put_length (l : List Value) (off : Nat) (vs : List Value) : (put l off vs).length = l.length := by
  induction vs generalizing l off with
  | nil => rfl
  | cons v r ih => simp [put, ih]
theorem put_getElem? (vs : List Value) : ∀ (l : List Value) (off i : Nat), off + vs.length ≤ l.length → (put l off vs)[i]? = if off ≤ i ∧ i < off + vs.length then vs[i - off]? else l[i]? := by
  induction vs with
  | nil => intro l off i _; simp [put]; omega
  | cons v r ih =>
    intro l off i h
    simp only [List.length_cons] at h
    rw [put, ih _ _ _ (by simp; omega)]
    by_cases h1 : off = i
    · subst h1
      rw [if_neg (by omega), if_pos (by simp)]
      simp [show off < l.length from by omega]
    · by_cases h2 : off + 1 ≤ i ∧ i < off + 1 + r.length
      · rw [if_pos h2, if_pos (by simp only [List.length_cons]; omega)]
        rw [show i - off = (i - (off + 1)) + 1 from by omega]
        simp
      · rw [if_neg h2, if_neg (by simp only [List.length_cons]; omega)]
        rw [List.getElem?_set_ne h1]
theorem put_eq (l : List Value) (off : Nat) (vs : List Value) (h : off + vs.length ≤ l.length) : put l off vs = l.take off ++ vs ++ l.drop (off + vs.length) := by
  apply List.ext_getElem?
  intro i
  rw [put_getElem? _ _ _ _ h]
  split
  · rename_i hi
    rw [List.append_assoc, List.getElem?_append_right (by simp; omega), List.getElem?_append_left (by simp; omega)]
    simp only [List.length_take]
    rw [Nat.min_eq_left (by omega)]
  · rename_i hi
    rcases Nat.lt_or_ge i off with h' | h'
    · rw [List.append_assoc, List.getElem?_append_left (by simp; omega), List.getElem?_take, if_pos h']
    · rw [List.getElem?_append_right (by simp; omega), List.getElem?_drop]
      congr 1
      simp
      omega

/-- what was loaded whole is stored back -/
abbrev cellsOf0 (l : List Value) : List Value := l
theorem put_self (l : List Value) : put l 0 (cellsOf0 l) = l := by
  unfold cellsOf0
  rw [put_eq _ _ _ (by simp)]
  simp
theorem setCell_blk {w : World} {b : Nat} {T : TypeId} {l : List Value} (h : Blk w b T l) (off : Nat) (v : Value) :
    Blk (w.setCell ⟨b, off, none⟩ v) b T (l.set off v) ∧ Ext (One b) w (w.setCell ⟨b, off, none⟩ v) := by
  have hlt := h.lt
  unfold Blk at h
  refine ⟨?_, rfl, rfl, rfl, by simp, fun x hx hne => ?_, fun a => by simp⟩
  · unfold Blk
    simp only [World.setCell, Array.getElem?_modify, ↓reduceIte, h, Option.map_some]
    simp
  · simp only [World.setCell, Array.getElem?_modify]
    rw [if_neg (fun e => hne e.symm)]

theorem run_storeCells_blk {P : Program} {b : Nat} {T : TypeId} : ∀ (vs : List Value) (w : World) (l : List Value) (off i : Nat), Blk w b T l → off + i + vs.length ≤ l.length → (∀ v ∈ vs, v.oneCell' = true) →
    ∃ w', (storeCells ⟨b, off, none⟩ vs i).run P w = .ok () w' ∧ Blk w' b T (put l (off + i) vs) ∧ Ext (One b) w w' ∧ w'.heap.size = w.heap.size
  | [], w, l, off, i, h, _, _ => ⟨w, rfl, h, Ext.refl _ _, rfl⟩
  | v :: r, w, l, off, i, h, hl, h1 => by
    simp only [List.length_cons] at hl
    have hc : w.cell? ⟨b, off + i, none⟩ = some l[off + i] := h.cell (by simp)
    have hadd : (⟨b, off, none⟩ : Addr).add i = ⟨b, off + i, none⟩ := by
      unfold Addr.add; split
      · rename_i h0; subst h0; rfl
      · rfl
    obtain ⟨hb', hE⟩ := setCell_blk h (off + i) v
    obtain ⟨w', hr, hb2, hE2, hs⟩ := run_storeCells_blk r (w.setCell ⟨b, off + i, none⟩ v) (l.set (off + i) v) off (i + 1) hb' (by simp; omega) (fun u hu => h1 u (by simp [hu]))
    refine ⟨w', ?_, hb2, hE.then hE2, by rw [hs]; simp⟩
    have hv := h1 v (by simp)
    have hfz := h.free ⟨b, off + i, none⟩ rfl
    have hstore : (store ⟨b, off + i, none⟩ v).run P w = .ok () (w.setCell ⟨b, off + i, none⟩ v) := by
      cases v <;> first | (simp [Value.oneCell'] at hv; done) | (simp only [store, Sem.run, hc, hfz]; simp)
    simp only [storeCells, hadd, Sem.run_bind, hstore, Result.andThen_ok]
    exact hr

theorem run_loadCells_seg {P : Program} {w : World} {b off : Nat} : ∀ (n i : Nat) (l : List Value) (acc : Array Value), Seg w b (off + i) l → l.length = n →
    (loadCellsFrom ⟨b, off, none⟩ i n acc).run P w = .ok (acc ++ l.toArray) w
  | 0, i, l, acc, _, hl => by
    have : l = [] := by simpa using hl
    subst this; simp [loadCellsFrom]
  | n + 1, i, l, acc, h, hl => by
    cases l with
    | nil => simp at hl
    | cons v r =>
      have hadd : (⟨b, off, none⟩ : Addr).add i = ⟨b, off + i, none⟩ := by
        unfold Addr.add; split
        · rename_i h0; subst h0; rfl
        · rfl
      have hc : w.cell? ⟨b, off + i, none⟩ = some v := by simpa using h 0 v rfl
      have hr := run_loadCells_seg (P := P) n (i + 1) r (acc.push v) (by
        intro j u hj
        have := h (j + 1) u (by simpa using hj)
        rwa [show off + i + (j + 1) = off + (i + 1) + j from by omega] at this) (by simpa using hl)
      simp only [loadCellsFrom, hadd, Sem.run_bind, run_load, hc, Result.andThen_ok]
      rw [hr]
      congr 1
      apply Array.ext'; simp

theorem alloc_blk (w : World) (l : List Value) (T : TypeId) : Blk (w.alloc (.cells l.toArray T)) w.heap.size T l := by
  unfold Blk
  show (w.heap.push _)[w.heap.size]? = _
  simp

/-! ### Types -/
structure TI where
  desc : TypeDesc
  size : Nat
  bytes : Nat
  zero : Value

abbrev Info := List (Nat × TI)
def lkT : Info → Nat → Option TI
  | [], _ => none
  | (j, v) :: r, i => match Nat.beq j i with
    | true => some v
    | false => lkT r i

def TI.Ok (P : Program) (t : Nat) (x : TI) : Prop := P.underlying t = some x.desc ∧ (P.info? t).map (fun i => (i.size, i.bytes, i.zero)) = some (x.size, x.bytes, some x.zero)
def Info.Ok (P : Program) : Info → Prop
  | [] => True
  | (t, x) :: r => x.Ok P t ∧ Info.Ok P r

theorem Info.Ok.get {P : Program} : ∀ {I : Info}, Info.Ok P I → ∀ {t : Nat} {x : TI}, lkT I t = some x → x.Ok P t
  | [], _, t, x, h => by simp [lkT] at h
  | (j, v) :: r, hI, t, x, h => by
    have h' : (match Nat.beq j t with | true => some v | false => lkT r t) = some x := h
    cases hb : Nat.beq j t with
    | true =>
      rw [hb] at h'
      have := Nat.eq_of_beq_eq_true hb
      subst this
      simp at h'; subst h'
      exact hI.1
    | false => rw [hb] at h'; exact Info.Ok.get hI.2 h'

section types
variable {P : Program} {t : Nat} {x : TI} (h : x.Ok P t) (w : World)
include h
theorem TI.Ok.under : (underlying t).run P w = .ok x.desc w := by
  unfold underlying
  simp [h.1]
theorem TI.Ok.info : ∃ i, P.info? t = some i ∧ i.size = x.size ∧ i.bytes = x.bytes ∧ i.zero = some x.zero := by
  obtain ⟨i, hi, e⟩ := Option.map_eq_some_iff.1 h.2
  simp only [Prod.mk.injEq] at e
  exact ⟨i, hi, e.1, e.2.1, e.2.2⟩
theorem TI.Ok.sizeOf : (sizeOf t).run P w = .ok x.size w := by
  obtain ⟨i, hi, h1, _, _⟩ := TI.Ok.info h
  unfold Go.sizeOf typeInfo
  simp [hi, h1]
theorem TI.Ok.zeroValue : (zeroValue t).run P w = .ok x.zero w := by
  obtain ⟨i, hi, _, _, h3⟩ := TI.Ok.info h
  unfold Go.zeroValue typeInfo
  simp [hi, h3]
end types

def TI.isAgg (x : TI) : Bool :=
  match x.desc with
  | .struct _ => true
  | .array _ _ => true
  | _ => false
theorem TI.Ok.isAgg {P : Program} {t : Nat} {x : TI} (h : x.Ok P t) (w : World) : (Go.isAgg t).run P w = .ok x.isAgg w := by
  unfold Go.isAgg
  simp only [Sem.run_bind, h.under, Result.andThen_ok, TI.isAgg]
  cases x.desc <;> rfl

end Go.Vc
