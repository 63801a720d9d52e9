/-
  Walks and laws towards: WalGoes: whatever is done to a log, with areas of any size, whatever fails, and whenever the power goes: what is told, and what stands on the disk, is as the document says, write by write.
-/
import Derived.Test.YtlfdlodcjiaiiaaGreatDoorRows
import Derived.ProofKit
import Derived.LaidMore
import Derived.OpenShut
import Derived.Lib.LaidTab
import Derived.Test.YtlfdlodcjiaiiaaGreatDoorSamC
namespace Go.Vc
abbrev Str := List UInt8
abbrev strV (l : Str) : Value := .string (strU l)

def okC (c : UInt8) : Prop := 33 ≤ c.toNat ∧ c.toNat ≤ 126
instance (c : UInt8) : Decidable (okC c) := inferInstanceAs (Decidable (_ ∧ _))
/-- is a text a path? -/
def PathOk (l : Str) : Prop := (∀ c ∈ l, okC c) ∧ 1 ≤ l.length ∧ l.length ≤ 48
instance (l : Str) : Decidable (PathOk l) := inferInstanceAs (Decidable (_ ∧ _))
theorem pathNo {l : Str} {i : Nat} (hi : i < l.length) (h : ¬ okC l[i]) : ¬ PathOk l := fun hp => h (hp.1 _ (List.getElem_mem hi))
theorem pathIs {l : Str} (h : ∀ i (hi : i < l.length), okC l[i]) : PathOk l ↔ 1 ≤ l.length ∧ l.length ≤ 48 :=
  ⟨fun hp => hp.2, fun hl => ⟨fun c hc => by obtain ⟨i, hi, rfl⟩ := List.mem_iff_getElem.1 hc; exact h i hi, hl⟩⟩

theorem allStep {α : Type} {p : α → Prop} {l : List α} {i : Nat} (h : ∀ k (hk : k < l.length), k < i → p l[k]) (hi : i < l.length) (h1 : p l[i]) : ∀ k (hk : k < l.length), k < i + 1 → p l[k] := fun k hk hlt => by
  rcases Nat.lt_or_ge k i with h' | h'
  · exact h k hk h'
  · obtain rfl : k = i := by omega
    exact h1
structure RowD where
  path : Str
  text : Str
  deriving DecidableEq
structure LeafD where
  path : Str
  id : List UInt8
  deriving DecidableEq
structure ChgD where
  path : Str
  is : Bool
  text : Str
  deriving DecidableEq
def RowD.cells (r : RowD) : List Value := [strV r.path, strV r.text]
def LeafD.cells (r : LeafD) : List Value := strV r.path :: bytesU r.id
def ChgD.cells (r : ChgD) : List Value := [strV r.path, .bool r.is, strV r.text]
theorem flat_at {α : Type} {f : α → List Value} {n : Nat} : ∀ {l : List α}, (∀ x ∈ l, (f x).length = n) → ∀ {i : Nat} (hi : i < l.length), ((l.flatMap f).drop (i * n)).take n = f l[i]
  | [], _, i, hi => absurd hi (Nat.not_lt_zero _)
  | x :: r, h, 0, _ => by
    rw [Nat.zero_mul, List.drop_zero, List.flatMap_cons, List.take_append_of_le_length (by rw [h x (by simp)]; exact Nat.le_refl _), List.take_of_length_le (by rw [h x (by simp)]; exact Nat.le_refl _)]
    rfl
  | x :: r, h, i + 1, hi => by
    have hx := h x (by simp)
    rw [List.flatMap_cons, Nat.succ_mul, Nat.add_comm, ← List.drop_drop, ← hx, List.drop_left, hx, flat_at (fun y hy => h y (by simp [hy])) (by simpa using hi)]
    rfl
theorem flat_len {α : Type} {f : α → List Value} {n : Nat} : ∀ {l : List α}, (∀ x ∈ l, (f x).length = n) → (l.flatMap f).length = l.length * n
  | [], _ => by simp
  | x :: r, h => by
    rw [List.flatMap_cons, List.length_append, h x (by simp), flat_len (fun y hy => h y (by simp [hy])), List.length_cons, Nat.succ_mul, Nat.add_comm]
theorem Sl.rowAt {α : Type} {w : World} {p : Option Addr} {f : α → List Value} {n : Nat} {l : List α} (h : Sl w p l.length n (l.flatMap f)) (hn : ∀ x ∈ l, (f x).length = n) {i : Nat} (hi : i < l.length) :
    ∃ b off, p = some ⟨b, off, none⟩ ∧ Seg w b (off + i * n) (f l[i]) := by
  obtain ⟨_, h0 | ⟨b, off, hp, hs⟩⟩ := h
  · omega
  · refine ⟨b, off, hp, ?_⟩
    have := (hs.drop (i * n)).take n
    rw [flat_at hn hi] at this
    exact this
theorem Sl.rowAll {α : Type} {w : World} {p : Option Addr} {f : α → List Value} {n : Nat} {l : List α} (h : Sl w p l.length n (l.flatMap f)) (hn : ∀ x ∈ l, (f x).length = n) (h0 : 0 < l.length) :
    ∃ b off, p = some ⟨b, off, none⟩ ∧ ∀ i (hi : i < l.length), Seg w b (off + i * n) (f l[i]) := by
  obtain ⟨_, h1 | ⟨b, off, hp, hs⟩⟩ := h
  · omega
  · refine ⟨b, off, hp, fun i hi => ?_⟩
    have := (hs.drop (i * n)).take n
    rw [flat_at hn hi] at this
    exact this
theorem RowD.len (r : RowD) : r.cells.length = 2 := rfl
theorem ChgD.len (r : ChgD) : r.cells.length = 3 := rfl
theorem LeafD.len {r : LeafD} (h : r.id.length = 32) : r.cells.length = 33 := by simp [LeafD.cells, bytesU_len, h]
instance (r : RowD) : OneC r.cells := by unfold RowD.cells; infer_instance
instance (r : ChgD) : OneC r.cells := by unfold ChgD.cells; infer_instance
instance (r : LeafD) : OneC r.cells := by unfold LeafD.cells; infer_instance
/-- paths that rise -/
def Rises (l : List Str) : Prop := l.length ≤ 32 ∧ ∀ i (hi : i < l.length), PathOk l[i] ∧ (0 < i → SLt (strU (l[i - 1]'(by omega))) (strU l[i]))
instance (l : List Str) : Decidable (Rises l) := inferInstanceAs (Decidable (_ ∧ _))
def RowsOk (l : List RowD) : Prop := ¬ (∃ r ∈ l, 256 < r.text.length) ∧ Rises (l.map RowD.path)
instance (l : List RowD) : Decidable (RowsOk l) := inferInstanceAs (Decidable (_ ∧ _))
theorem bl_total : ∀ (x y : List UInt8), (Op.bytesLess x y = true ∨ x = y) ∨ Op.bytesLess y x = true
  | [], [] => .inl (.inr rfl)
  | [], _ :: _ => .inl (.inl rfl)
  | _ :: _, [] => .inr rfl
  | a :: x, b :: y => by
    simp only [Op.bytesLess, Bool.or_eq_true, Bool.and_eq_true, decide_eq_true_eq, beq_iff_eq]
    rcases Nat.lt_trichotomy a.toNat b.toNat with h | h | h
    · exact .inl (.inl (.inl (UInt8.lt_iff_toNat_lt.2 h)))
    · obtain rfl : a = b := UInt8.toNat_inj.1 h
      rcases bl_total x y with (h1 | h1) | h1
      · exact .inl (.inl (.inr ⟨rfl, h1⟩))
      · exact .inl (.inr (by rw [h1]))
      · exact .inr (.inr ⟨rfl, h1⟩)
    · exact .inr (.inl (UInt8.lt_iff_toNat_lt.2 h))
theorem bl_asymm : ∀ (x y : List UInt8), Op.bytesLess x y = true → Op.bytesLess y x = true → False
  | [], [], h, _ => by cases h
  | [], _ :: _, _, h => by cases h
  | _ :: _, [], h, _ => by cases h
  | a :: x, b :: y, h, k => by
    simp only [Op.bytesLess, Bool.or_eq_true, Bool.and_eq_true, decide_eq_true_eq, beq_iff_eq] at h k
    rcases h with h | ⟨rfl, h⟩
    · rcases k with k | ⟨rfl, k⟩
      · have := UInt8.lt_iff_toNat_lt.1 h; have := UInt8.lt_iff_toNat_lt.1 k; omega
      · have := UInt8.lt_iff_toNat_lt.1 h; omega
    · rcases k with k | ⟨_, k⟩
      · have := UInt8.lt_iff_toNat_lt.1 k; omega
      · exact bl_asymm x y h k
theorem slt_flip (a b : ByteArray) : ¬ (SLt a b ∨ a = b) ↔ SLt b a := by
  constructor
  · intro h
    rcases bl_total a.data.toList b.data.toList with (h1 | h1) | h1
    · exact absurd (.inl h1) h
    · refine absurd (.inr ?_) h
      obtain ⟨⟨x⟩⟩ := a
      obtain ⟨⟨y⟩⟩ := b
      have h1 : x = y := h1
      rw [h1]
    · exact h1
  · rintro h (k | rfl)
    · exact bl_asymm _ _ h k
    · exact bl_asymm _ _ h h
/-- is the i-th row right? -/
def RowGood (l : List RowD) (i : Nat) (hi : i < l.length) : Prop := i ≠ 32 ∧ PathOk l[i].path ∧ l[i].text.length ≤ 256 ∧ (0 < i → SLt (strU (l[i - 1]'(by omega)).path) (strU l[i].path))
instance (l : List RowD) (i : Nat) (hi : i < l.length) : Decidable (RowGood l i hi) := inferInstanceAs (Decidable (_ ∧ _))
theorem rowsOk_iff {l : List RowD} : RowsOk l ↔ ∀ i (hi : i < l.length), RowGood l i hi := by
  constructor
  · rintro ⟨h1, h2, h3⟩ i hi
    rw [List.length_map] at h2
    have := h3 i (by rw [List.length_map]; exact hi)
    refine ⟨by omega, by simpa using this.1, ?_, fun h0 => by simpa using this.2 h0⟩
    exact Nat.not_lt.1 fun h => h1 ⟨_, List.getElem_mem hi, h⟩
  · intro h
    refine ⟨fun ⟨r, hr, ht⟩ => ?_, ?_, fun i hi => ?_⟩
    · obtain ⟨i, hi, rfl⟩ := List.mem_iff_getElem.1 hr
      have := (h i hi).2.2.1
      omega
    · rw [List.length_map]
      exact Nat.not_lt.1 fun hl => (h 32 hl).1 rfl
    · rw [List.length_map] at hi
      have := h i hi
      simp only [List.getElem_map]
      exact ⟨this.2.1, this.2.2.2⟩
def ChgBad (c : ChgD) : Prop := 256 < c.text.length ∨ c.is = false ∧ c.text ≠ []
instance (c : ChgD) : Decidable (ChgBad c) := inferInstanceAs (Decidable (_ ∨ _))
theorem chg_nil (t : Str) : (strU t ≠ ByteArray.mk #[]) ↔ t ≠ [] :=
  ⟨fun h1 h2 => h1 (by rw [h2]; rfl), fun h1 h2 => h1 (strU_inj h2)⟩
def EditOk (l : List ChgD) : Prop := ¬ (∃ r ∈ l, ChgBad r) ∧ Rises (l.map ChgD.path)
instance (l : List ChgD) : Decidable (EditOk l) := inferInstanceAs (Decidable (_ ∧ _))
def ChgGood (l : List ChgD) (i : Nat) (hi : i < l.length) : Prop := i ≠ 32 ∧ PathOk l[i].path ∧ ¬ ChgBad l[i] ∧ (0 < i → SLt (strU (l[i - 1]'(by omega)).path) (strU l[i].path))
instance (l : List ChgD) (i : Nat) (hi : i < l.length) : Decidable (ChgGood l i hi) := inferInstanceAs (Decidable (_ ∧ _))
theorem editOk_iff {l : List ChgD} : EditOk l ↔ ∀ i (hi : i < l.length), ChgGood l i hi := by
  constructor
  · rintro ⟨h1, h2, h3⟩ i hi
    rw [List.length_map] at h2
    have := h3 i (by rw [List.length_map]; exact hi)
    refine ⟨by omega, by simpa using this.1, ?_, fun h0 => by simpa using this.2 h0⟩
    exact fun h => h1 ⟨_, List.getElem_mem hi, h⟩
  · intro h
    refine ⟨fun ⟨r, hr, ht⟩ => ?_, ?_, fun i hi => ?_⟩
    · obtain ⟨i, hi, rfl⟩ := List.mem_iff_getElem.1 hr
      exact (h i hi).2.2.1 ht
    · rw [List.length_map]
      exact Nat.not_lt.1 fun hl => (h 32 hl).1 rfl
    · rw [List.length_map] at hi
      have := h i hi
      simp only [List.getElem_map]
      exact ⟨this.2.1, this.2.2.2⟩
end Go.Vc
namespace Go.Proofs.YtlfdlodcjiaiiaaGreatDoor
open Go.Vc
theorem sectN_zero {n : Nat} : sectN n = 0 ↔ 40000 < n := by unfold sectN; split <;> omega
def PieceNew (w w' : World) (q : Option Addr) (k : Nat) (b : Bytes) : Prop := b.length ≤ k ∧ SlB w' q b ∧ ∀ y off, q = some ⟨y, off, none⟩ → w.heap.size ≤ y ∧ TyB w' y 5
def LiesQ (w w' : World) (o : Option Bytes) (v : Value) : Prop := match o with
  | none => v = .tuple #[.slice none 0 0, .bool false]
  | some b => ∃ q k, v = .tuple #[.slice q b.length k, .bool true] ∧ PieceNew w w' q k b
theorem PieceNew.extNo {w u u' : World} {q : Option Addr} {k : Nat} {b : Bytes} (h : PieceNew w u q k b) (hE : Ext No u u') : PieceNew w u' q k b := ⟨h.1, h.2.1.extNo hE, fun y off e => ⟨(h.2.2 y off e).1, (h.2.2 y off e).2.ext hE id⟩⟩
theorem PieceNew.extB {w u u' : World} {q : Option Addr} {k x T : Nat} {b : Bytes} {L : List Value} (h : PieceNew w u q k b) (hE : Ext (One x) u u') (hx : Blk u x T L) (hT : 5 ≠ T) : PieceNew w u' q k b :=
  have key : ∀ y off, q = some ⟨y, off, none⟩ → ¬ One x y := fun y off e h' => ((h.2.2 y off e).2.ne hx hT) h'
  ⟨h.1, h.2.1.ext hE key, fun y off e => ⟨(h.2.2 y off e).1, (h.2.2 y off e).2.ext hE (key y off e)⟩⟩
theorem PieceNew.ext {S : Nat → Prop} {w u u' : World} {q : Option Addr} {k : Nat} {b : Bytes} (h : PieceNew w u q k b) (hE : Ext S u u') (hS : ∀ y, TyB u y 5 → ¬ S y) : PieceNew w u' q k b :=
  ⟨h.1, h.2.1.ext hE fun y off e => hS y (h.2.2 y off e).2, fun y off e => ⟨(h.2.2 y off e).1, (h.2.2 y off e).2.ext hE (hS y (h.2.2 y off e).2)⟩⟩
theorem allB_take {L : List Bytes} {i : Nat} (h : i < L.length) : allB (L.take (i + 1)) = allB (L.take i) ++ (L[i]).drop 16 := by
  rw [List.take_succ_eq_append_getElem h, allB, List.flatMap_append]
  simp [allB]
theorem allB_len {L : List Bytes} (hL : ∀ b ∈ L, b.length = 64) {i : Nat} (h : i ≤ L.length) : (allB (L.take i)).length = 48 * i := by
  induction i with
  | zero => simp [allB]
  | succ i ih =>
    rw [allB_take (by omega), List.length_append, ih (by omega), List.length_drop, hL _ (List.getElem_mem _)]
    omega
theorem liesB_no {L : List Bytes} (h0 : 0 < L.length) (t n : Nat) (h : 40000 < manyB L[0] ∨ L.length < sectN (manyB L[0])) : liesB L t n = none := by
  cases L with
  | nil => simp at h0
  | cons s r => exact if_pos h
theorem liesB_yes {L : List Bytes} (h0 : 0 < L.length) (t n : Nat) (h : ¬ (40000 < manyB L[0] ∨ L.length < sectN (manyB L[0]))) :
    liesB L t n = if pieceB t n (((allB (L.take (sectN (manyB L[0])))).drop 4).take (manyB L[0])) = L.take (sectN (manyB L[0])) then some (((allB (L.take (sectN (manyB L[0])))).drop 4).take (manyB L[0])) else none := by
  cases L with
  | nil => simp at h0
  | cons s r => exact if_neg h
def LieJ (L : List Bytes) (t n : Nat) (b : Bytes) (b6 b7 b15 : Nat) (k : Nat) (u : World) : Prop :=
  Blk u b15 3 [.int .i64 (k : Int)] ∧ (∃ v, Blk u b6 56 [v]) ∧ (∃ v, Blk u b7 4 [v]) ∧ ∀ j, j < k → pieceAt t n b j = L.getD j []
def LieX (L : List Bytes) (t n : Nat) (b : Bytes) (b6 b7 b15 k : Nat) (c : Code) (u : World) : Prop :=
  c = .ret ∧ b15 < u.heap.size ∧ Blk u b6 56 [.slice none 0 0] ∧ Blk u b7 4 [.bool false] ∧ pieceAt t n b k ≠ L.getD k []
def lieC (w : World) (L : List Bytes) (t n : Nat) (b : Bytes) (b6 b7 b15 : Nat) : CoS Unit w where
  Fp := fun _ x => x = b6 ∨ x = b7 ∨ x = b15
  J := fun k _ u => LieJ L t n b b6 b7 b15 k u
  Jx := fun k c _ u => LieX L t n b b6 b7 b15 k c u
  st := by
    rintro k z S u u' ⟨h1, ⟨v, h2⟩, ⟨v', h3⟩, h4⟩ hE hS
    exact ⟨h1.ext hE fun e => (hS _ e).2 (.inr (.inr rfl)), ⟨v, h2.ext hE fun e => (hS _ e).2 (.inl rfl)⟩, ⟨v', h3.ext hE fun e => (hS _ e).2 (.inr (.inl rfl))⟩, h4⟩
  stx := by
    rintro k c z S u u' ⟨h1, h2, h3, h4, h5⟩ hE hS
    exact ⟨h1, Nat.lt_of_lt_of_le h2 hE.size, h3.ext hE fun e => (hS _ e).2 (.inl rfl), h4.ext hE fun e => (hS _ e).2 (.inr (.inl rfl)), h5⟩
  lt := by
    rintro k z u ⟨h1, ⟨v, h2⟩, ⟨v', h3⟩, h4⟩ x (rfl | rfl | rfl)
    · exact h2.lt
    · exact h3.lt
    · exact h1.lt
  ltx := by
    rintro k c z u ⟨h1, h2, h3, h4, h5⟩ x (rfl | rfl | rfl)
    · exact h3.lt
    · exact h4.lt
    · exact h2
theorem lies_calls (w : World) {p : Option Addr} {c t n : Nat} {L : List Bytes} (hs : Sl w p L.length 64 (L.flatMap bytesU)) (hL : ∀ b ∈ L, b.length = 64) (hc : L.length ≤ c) (hLl : L.length ≤ 100000) (ht : t < 4294967296) (hn : n < 4294967296) (hr : Rt w) :
    CallsV Tryz.prog 56 [.slice p L.length c, .int .u32 (t : Int), .int .u32 (n : Int)] w fun v w' => LiesQ w w' (liesB L t n) v ∧ Ext No w w' := by
  refine calls_enterM Tryz.func56 rfl rfl rfl rfl ?_
  have hX := Ext.refl No w
  have hr0 := hr.lt
  refine c_seq (c_region (wl (st_al I_ok rfl fun b3 w1 hn3 hb3 hE1 => ?_)))
  have fr3 := Nat.le_trans hX.size hn3
  have hr := Rt.ext hr hE1 id
  have hX := hX.thenNo hE1
  have hb3 : Blk w1 b3 77 ([.slice p L.length c]) := hb3
  refine wl (st_al I_ok rfl fun b6 w2 hn6 hb6 hE2 => ?_)
  have ne3_6 : b3 ≠ b6 := Nat.ne_of_lt (Nat.lt_of_lt_of_le hb3.lt hn6)
  have fr6 := Nat.le_trans hX.size hn6
  have hb3 := hb3.extNo hE2
  have hr := Rt.ext hr hE2 id
  have hX := hX.thenNo hE2
  have hb6 : Blk w2 b6 56 ([.slice none 0 0]) := hb6
  refine wl (st_al I_ok rfl fun b7 w3 hn7 hb7 hE3 => ?_)
  have ne3_7 : b3 ≠ b7 := Nat.ne_of_lt (Nat.lt_of_lt_of_le hb3.lt hn7)
  have ne6_7 : b6 ≠ b7 := Nat.ne_of_lt (Nat.lt_of_lt_of_le hb6.lt hn7)
  have fr7 := Nat.le_trans hX.size hn7
  have hb3 := hb3.extNo hE3
  have hb6 := hb6.extNo hE3
  have hr := Rt.ext hr hE3 id
  have hX := hX.thenNo hE3
  have hb7 : Blk w3 b7 4 ([.bool false]) := hb7
  refine wl_nil (f_then (c_seq (c_seq (c_region ?_))))
  have hN0 := hX
  refine wl (st_ldb I_ok hb3 rfl rfl (wl_p I_ok rfl (wl_nil (f_then (c_if rfl (fun hc => ?_) (fun hc => ?_))))))
  · have hL0 : L = [] := List.eq_nil_of_length_eq_zero (by omega)
    refine c_seq (c_region (wl (st_st I_ok hb6 rfl rfl rfl fun w4 hb6 hE4 hs4 => ?_)))
    have hb3 := hb3.ext1 hE4 ne3_6
    have hb7 := hb7.ext1 hE4 ne6_7.symm
    have hr := Rt.ext hr hE4 fun e => by have e : 0 = b6 := e; omega
    have hX := hX.thenNew hE4 fr6
    refine wl (st_st I_ok hb7 rfl rfl rfl fun w5 hb7 hE5 hs5 => ?_)
    have hb3 := hb3.ext1 hE5 ne3_7
    have hb6 := hb6.ext1 hE5 ne6_7
    have hr := Rt.ext hr hE5 fun e => by have e : 0 = b7 := e; omega
    have hX := hX.thenNew hE5 fr7
    refine wl_nil (f_then (c_ret (f_thenR (f_retMs [] List.nodup_nil (fun _ h => (by cases h)) [.slice none 0 0, .bool false] (fun w20 hE20 => ?_) (.inl rfl)))))
    refine ⟨⟨⟨b6, 0, rfl, ld_one I_ok rfl rfl ((hb6.ext hE20 (fun e => by cases e)).cell rfl)⟩, ⟨b7, 0, rfl, ld_one I_ok rfl rfl ((hb7.ext hE20 (fun e => by cases e)).cell rfl)⟩, trivial⟩, ?_⟩
    exact ⟨by rw [hL0]; rfl, hX.trans hE20 fun x _ e => by cases e⟩
  · have hpos : 0 < L.length := by omega
    obtain ⟨pb, po, rfl, hsg⟩ := hs.rowAll (fun r hr => bytesU_64 (hL r hr)) hpos
    have hpb : pb < w.heap.size := (hsg 0 hpos).lt (fun e => by have := congrArg List.length e; rw [bytesU_64 (hL _ (List.getElem_mem _))] at this; cases this)
    obtain ⟨s0, hs0⟩ : ∃ s0, s0 = L[0] := ⟨_, rfl⟩
    have hs64 : s0.length = 64 := by rw [hs0]; exact hL _ (List.getElem_mem _)
    have hsg := fun i hi => (hsg i hi).extNo hN0
    refine c_skip (f_then (c_seq (c_region (wl (st_ldb I_ok hb3 rfl rfl (wl (st_ix I_ok rfl 64 rfl 0 rfl hpos (po + 0 * 64) rfl (wl (st_sa I_ok rfl 16 20 64 1 rfl ⟨.inr ⟨rfl, rfl⟩, .inl rfl, .inl rfl, by decide, by decide, by decide⟩ ?_)))))))))
    rw [slBase_eq (by decide)]
    obtain ⟨l4, hl4⟩ : ∃ l4, l4 = (s0.drop 16).take 4 := ⟨_, rfl⟩
    have hll4 : l4.length = 4 := by rw [hl4, List.length_take, List.length_drop]; omega
    have hsl4 : SlB w3 (some ⟨pb, po + 0 * 64 + 16 * 1, none⟩) l4 := ⟨by rw [bytesU_len, Nat.mul_one], .inr ⟨pb, _, rfl, by
      have e := ((hsg 0 hpos).drop 16).take 4
      rw [← hs0, bytesU_drop, bytesU_take, ← hl4] at e
      exact e⟩⟩
    rw [show Value.slice (some ⟨pb, po + 0 * 64 + 16 * 1, none⟩) (20 - 16) (64 - 16) = .slice (some ⟨pb, po + 0 * 64 + 16 * 1, none⟩) l4.length 48 from by rw [hll4]]
    have l3 := hb3.lt
    have l6 := hb6.lt
    have l7 := hb7.lt
    have hXr := hX.size
    refine wl (st_call Tryz.call90 rfl rfl rfl rfl rfl rfl (read_calls w3 hsl4 (by omega)) fun v6 w6 hr6 => ?_)
    obtain ⟨rb, rfl, hnr, hR, hE6⟩ := hr6
    have hb3 := hb3.extNo hE6
    have hb6 := hb6.extNo hE6
    have hb7 := hb7.extNo hE6
    have hr := Rt.ext hr hE6 id
    have hsg := fun i hi => (hsg i hi).extNo hE6
    have hX := hX.thenNo hE6
    refine wl_p I_ok rfl (wl_nil (f_then (c_seq (c_region (wl_p I_ok rfl ?_)))))
    have hoff : (offR l4 0 4).1 = l4 := by rw [offR, if_neg (by decide), if_neg (by decide), if_neg (by omega)]; exact List.take_of_length_le (by rw [hll4]; decide)
    refine wl (st_call Tryz.call92 rfl rfl rfl rfl rfl rfl (u32_calls w6 hR (by omega)) fun v7 w7 hr7 => ?_)
    obtain ⟨rfl, _, hE7⟩ := hr7
    have hb3 := hb3.ext1 hE7 (by omega)
    have hb6 := hb6.ext1 hE7 (by omega)
    have hb7 := hb7.ext1 hE7 (by omega)
    have hX := hX.thenNew hE7 (by omega)
    have hsg := fun i hi => (hsg i hi).ext hE7 (fun e => by have e : pb = rb := e; omega)
    have hr := Rt.ext hr hE7 (fun e => by have e : 0 = rb := e; omega)
    rw [hoff]
    obtain ⟨many, hmany⟩ : ∃ many, many = num l4 := ⟨_, rfl⟩
    have hmlt : many < 4294967296 := by have := num_lt l4; rw [hll4] at this; rw [hmany]; exact this
    have hmB : manyB L[0] = many := by rw [hmany, hl4, hs0]; rfl
    rw [← hmany]
    refine wl_p I_ok rfl ?_
    rw [IntWalk.i64_in (many : Int) (by omega)]
    refine wl_p I_ok rfl (wl_nil (f_then (c_seq (c_region (wl_p I_ok rfl (wl (st_call Tryz.call22 rfl rfl rfl rfl rfl rfl (sectors_calls w7 (many : Int)) fun v8 w8 hr8 => ?_)))))))
    obtain ⟨rfl, hE8⟩ := hr8
    have hb3 := hb3.extNo hE8
    have hb6 := hb6.extNo hE8
    have hb7 := hb7.extNo hE8
    have hr := Rt.ext hr hE8 id
    have hsg := fun i hi => (hsg i hi).extNo hE8
    have hX := hX.thenNo hE8
    rw [sectZ_nat]
    refine wl_p I_ok rfl (wl_nil (f_then (c_seq (c_cutK (α := Bool) [1, 2, 3, 6, 7, 9, 10] rfl (fun z => [(36, .bool z)]) (fun z u => u = w8 ∧ z = decide (40000 < many ∨ L.length < sectN many)) ?_ ?_))))
    · refine c_region ?_
      refine wl_p I_ok rfl (wl_caseD 31 rfl (fun hg => ?_) (fun hg => ?_))
      · have h40 := sectN_zero.1 (show sectN many = 0 by omega)
        refine wl_pk I_ok 5 rfl (wl_nil ?_)
        exact f_cut (true) rfl ⟨rfl, by symm; rw [decide_eq_true_iff]; exact .inl h40⟩
      · have h40 : ¬ 40000 < many := fun h => hg (by rw [sectN_zero.2 h]; rfl)
        refine wl_pk I_ok 1 rfl (wl (st_ldb I_ok hb3 rfl rfl (wl_pk I_ok 3 rfl (wl_nil ?_))))
        exact f_cut (_) rfl ⟨rfl, by rw [decide_eq_decide]; omega⟩
    rintro z w9 ⟨hu, rfl⟩
    have hu := hu.symm
    subst hu
    refine c_if rfl (fun hc => ?_) (fun hc => ?_)
    · have hno := liesB_no hpos t n (by rw [hmB]; exact hc)
      refine c_seq (c_region (wl (st_st I_ok hb6 rfl rfl rfl fun w10 hb6 hE10 hs10 => ?_)))
      have hb3 := hb3.ext1 hE10 ne3_6
      have hb7 := hb7.ext1 hE10 ne6_7.symm
      have hr := Rt.ext hr hE10 fun e => by have e : 0 = b6 := e; omega
      have hsg := fun i hi => (hsg i hi).ext hE10 (fun e => by have e : pb = b6 := e; omega)
      have hX := hX.thenNew hE10 fr6
      refine wl (st_st I_ok hb7 rfl rfl rfl fun w11 hb7 hE11 hs11 => ?_)
      have hb3 := hb3.ext1 hE11 ne3_7
      have hb6 := hb6.ext1 hE11 ne6_7
      have hr := Rt.ext hr hE11 fun e => by have e : 0 = b7 := e; omega
      have hsg := fun i hi => (hsg i hi).ext hE11 (fun e => by have e : pb = b7 := e; omega)
      have hX := hX.thenNew hE11 fr7
      refine wl_nil (f_then (c_ret (f_thenR (f_retMs [] List.nodup_nil (fun _ h => (by cases h)) [.slice none 0 0, .bool false] (fun w20 hE20 => ?_) (.inl rfl)))))
      refine ⟨⟨⟨b6, 0, rfl, ld_one I_ok rfl rfl ((hb6.ext hE20 (fun e => by cases e)).cell rfl)⟩, ⟨b7, 0, rfl, ld_one I_ok rfl rfl ((hb7.ext hE20 (fun e => by cases e)).cell rfl)⟩, trivial⟩, ?_⟩
      exact ⟨by rw [hno]; rfl, hX.trans hE20 fun x _ e => by cases e⟩
    · have hyes := liesB_yes hpos t n (by rw [hmB]; exact hc)
      rw [hmB] at hyes
      have hm4 : many ≤ 40000 := by omega
      obtain ⟨K, hK⟩ : ∃ K, K = sectN many := ⟨_, rfl⟩
      have hKl : K ≤ L.length := by omega
      have hroom := sectN_room hm4
      rw [← hK] at hyes hroom ⊢
      have hK8 : K ≤ 834 := by rw [hK]; exact sectN_le _
      refine c_skip (f_then (c_seq (c_region (wl_p I_ok rfl (wl_nil (f_then (c_seq (c_seq (c_region (wl (st_ldb I_ok hb3 rfl rfl (wl_p I_ok rfl ?_))))))))))))
      refine wl (st_sl I_ok rfl 0 K c 64 rfl (.inr ⟨rfl, rfl⟩) (.inl rfl) (.inr ⟨rfl, rfl⟩) (Nat.zero_le _) (by omega) (Nat.le_refl _) ?_)
      dsimp only
      rw [slBase_zero, Nat.sub_zero]
      refine wl_p I_ok rfl (wl_nil (f_then (c_block ?_)))
      refine c_loopK (α := Nat × Option Addr × Nat) [1, 2, 3, 6, 7, 9, 39, 40] rfl (fun z => [(11, .slice z.2.1 (48 * z.1) z.2.2), (41, .int .i64 (z.1 : Int))]) (fun z u => (z.1 ≤ K ∧ Own u z.2.1 (48 * z.1) z.2.2 5 1 (bytesU (allB (L.take z.1))) ∧ (∀ y, OwnB z.2.1 y → w.heap.size ≤ y) ∧ (∀ i (hi : i < L.length), Seg u pb (po + i * 64) (bytesU L[i])) ∧ Rt u) ∧ Blk u b3 77 ([.slice (some ⟨pb, po, none⟩) L.length c]) ∧ Blk u b6 56 ([.slice none 0 0]) ∧ Blk u b7 4 ([.bool false]) ∧ Ext No w u) (fun z u => K - z.1) (0, none, 0) rfl ⟨⟨Nat.zero_le _, Own.nil _ _ _, fun y hy => (by cases hy), hsg, hr⟩, hb3, hb6, hb7, hX⟩ ?_
      rintro ⟨i, q, k⟩ w12 ⟨⟨hi, hq, hqn, hsg, hr⟩, hb3, hb6, hb7, hX⟩
      try dsimp only
      dsimp only at hi hq hqn
      refine c_seq (c_region (wl_p I_ok rfl (wl_nil (f_then (c_seq (c_if rfl (fun hc => ?_) (fun hc => ?_)))))))
      · have hiK : i < K := by omega
        have hiL : i < L.length := by omega
        have hi64 := hL _ (List.getElem_mem hiL)
        have hqlt := fun y (hy : OwnB q y) => hq.lt hy
        refine c_skip (f_then (c_seq (c_block (c_seq (c_region (wl (st_ix I_ok rfl 64 rfl i rfl hiK (po + i * 64) rfl (wl (st_ldN I_ok rfl (hsg i hiL) (bytesU_64 hi64) ?_)))))))))
        have hsz0 := hX.size
        refine wl (st_al I_ok rfl fun b13 w13 hn13 hb13 hE13 => ?_)
        have ne3_13 : b3 ≠ b13 := Nat.ne_of_lt (Nat.lt_of_lt_of_le hb3.lt hn13)
        have ne6_13 : b6 ≠ b13 := Nat.ne_of_lt (Nat.lt_of_lt_of_le hb6.lt hn13)
        have ne7_13 : b7 ≠ b13 := Nat.ne_of_lt (Nat.lt_of_lt_of_le hb7.lt hn13)
        have fr13 := Nat.le_trans hX.size hn13
        have hb3 := hb3.extNo hE13
        have hb6 := hb6.extNo hE13
        have hb7 := hb7.extNo hE13
        have hr := Rt.ext hr hE13 id
        have hsg := fun i hi => (hsg i hi).extNo hE13
        have hq := hq.ext hE13 fun _ _ => id
        have hX := hX.thenNo hE13
        refine wl (st_stW (l' := bytesU L[i]) I_ok hb13 rfl rfl (bytesU_64 hi64) (by rw [bytesU_64 hi64]; rfl) OneC.h fun w14 hb13 hE14 hs14 => ?_)
        have hb3 := hb3.ext1 hE14 ne3_13
        have hb6 := hb6.ext1 hE14 ne6_13
        have hb7 := hb7.ext1 hE14 ne7_13
        have hr := Rt.ext hr hE14 fun e => by have e : 0 = b13 := e; omega
        have hsg := fun i hi => (hsg i hi).ext hE14 (fun e => by have e : pb = b13 := e; omega)
        have hq := hq.ext hE14 fun y hy e => by have e : y = b13 := e; have := hqlt y hy; omega
        have hX := hX.thenNew hE14 fr13
        refine wl_nil (f_then (c_region (wl_p I_ok rfl (wl (st_sa I_ok rfl 16 64 64 1 rfl ⟨.inr ⟨rfl, rfl⟩, .inr ⟨rfl, rfl⟩, .inl rfl, by decide, by decide, by decide⟩ ?_)))))
        rw [slBase_eq (by decide)]
        have hsr : Sl w14 (some ⟨b13, 0 + 16 * 1, none⟩) 48 1 (bytesU ((L[i]).drop 16)) := ⟨by rw [bytesU_len, List.length_drop, hi64], .inr ⟨b13, _, rfl, by have e := hb13.seg.drop 16; rw [bytesU_drop] at e; exact e⟩⟩
        have hXq := hX.size
        have nq3 : ¬ OwnB q b3 := fun e => (Own.ty hq e).ne hb3 (by decide) rfl
        have nq6 : ¬ OwnB q b6 := fun e => (Own.ty hq e).ne hb6 (by decide) rfl
        have nq7 : ¬ OwnB q b7 := fun e => (Own.ty hq e).ne hb7 (by decide) rfl
        refine wl (st_app I_ok rfl 1 1 rfl rfl rfl (by decide) hq (Src.slice hsr OneC.h) (by dsimp only [maxLen]; omega) (by dsimp only; omega) fun p15 c15 w15 ho15 hE15 hB15 => ?_)
        have hb3 := hb3.ext hE15 fun e => nq3 e
        have hb6 := hb6.ext hE15 fun e => nq6 e
        have hb7 := hb7.ext hE15 fun e => nq7 e
        have hX := hX.trans hE15 fun y hy e => by have := hqn y e; omega
        have hsg := fun j hj => (hsg j hj).ext hE15 fun e => by have := hqn _ e; omega
        have hr := Rt.ext hr hE15 fun e => by have := hqn _ e; omega
        have hqn2 : ∀ y, OwnB p15 y → w.heap.size ≤ y := fun y hy => (hB15 y hy).elim (hqn y) fun e => by omega
        have hq2 : Own w15 p15 (48 * (i + 1)) c15 5 1 (bytesU (allB (L.take (i + 1)))) := by
          rw [allB_take hiL, bytesU_append, show 48 * (i + 1) = 48 * i + 48 from by omega]
          exact ho15
        dsimp only
        rw [show 48 * i + 48 = 48 * (i + 1) from by omega]
        refine wl_p I_ok rfl (wl_nil (f_blockN (f_then (c_region (wl_p I_ok rfl ?_)))))
        rw [IntWalk.i64_in _ (by omega)]
        refine wl_nil ?_
        exact f_round (i + 1, p15, c15) rfl ⟨⟨hiK, hq2, hqn2, hsg, hr⟩, hb3, hb6, hb7, hX⟩ (by first | omega | (dsimp only; omega))
      · have hiK : i = K := by omega
        subst hiK
        have hKl0 : i ≤ L.length := hKl
        refine c_exit (f_thenE (f_thenE (f_blockE (f_then (c_seq (c_region (wl_p I_ok rfl ?_)))))))
        rw [IntWalk.i64_in _ (by omega)]
        rw [show (4 : Int) + (many : Int) = ((4 + many : Nat) : Int) from by omega]
        have hal := allB_len hL hKl0
        obtain ⟨A, hA⟩ : ∃ A, A = allB (L.take i) := ⟨_, rfl⟩
        obtain ⟨b, hb⟩ : ∃ b, b = (A.drop 4).take many := ⟨_, rfl⟩
        rw [← hA] at hal hyes hq
        have hbl : b.length = many := by rw [hb, List.length_take, List.length_drop]; omega
        rw [← hb] at hyes
        have hsq := hq.sl
        rw [← hal] at hsq
        have hsb : SlB w12 (slBase q 4 (4 + many) 1) b := by
          have e := Sl.slice hsq 4 (4 + many) (4 + many) (by omega) (Nat.le_refl _) (by omega)
          rw [Nat.mul_one, Nat.mul_one, bytesU_drop, bytesU_take, show 4 + many - 4 = many from by omega, ← hb] at e
          rw [SlB, hbl]
          exact e
        have hqb : ∀ y off, slBase q 4 (4 + many) 1 = some ⟨y, off, none⟩ → OwnB q y := fun y off e => by
          obtain ⟨bq, lq, hq1, _⟩ : ∃ bq lq, q = some ⟨bq, 0, none⟩ ∧ Blk w12 bq 5 lq := by
            rcases hq with ⟨_, h0, _⟩ | ⟨bq, lq, h1, h2, _⟩
            · omega
            · exact ⟨bq, lq, h1, h2⟩
          obtain ⟨off', e'⟩ := slBase_some e (fun x o sp e => by rw [hq1] at e; cases e; rfl)
          rw [hq1] at e'
          cases e'
          exact hq1
        have hqty : ∀ y, OwnB q y → TyB w12 y 5 := fun y hy => Own.ty hq hy
        refine wl (st_sl I_ok rfl 4 (4 + many) (4 + many) 1 rfl (.inl ⟨rfl, rfl⟩) (.inl rfl) (.inl rfl) (by omega) (Nat.le_refl _) (by have := hq.cap; dsimp only; omega) ?_)
        dsimp only
        obtain ⟨qb, hqbd⟩ : ∃ qb, qb = slBase q 4 (4 + many) 1 := ⟨_, rfl⟩
        rw [← hqbd] at hsb hqb ⊢
        rw [show 4 + many - 4 = b.length from by omega]
        have hpn : PieceNew w w12 qb b.length b := ⟨Nat.le_refl _, hsb, fun y off e => ⟨hqn y (hqb y off e), hqty y (hqb y off e)⟩⟩
        refine wl_p I_ok rfl (wl_nil (f_then (c_seq (c_region (wl (st_al I_ok rfl fun b15 w16 hn15 hb15 hE16 => ?_))))))
        have ne3_15 : b3 ≠ b15 := Nat.ne_of_lt (Nat.lt_of_lt_of_le hb3.lt hn15)
        have ne6_15 : b6 ≠ b15 := Nat.ne_of_lt (Nat.lt_of_lt_of_le hb6.lt hn15)
        have ne7_15 : b7 ≠ b15 := Nat.ne_of_lt (Nat.lt_of_lt_of_le hb7.lt hn15)
        have fr15 := Nat.le_trans hX.size hn15
        have hb3 := hb3.extNo hE16
        have hb6 := hb6.extNo hE16
        have hb7 := hb7.extNo hE16
        have hr := Rt.ext hr hE16 id
        have hsg := fun i hi => (hsg i hi).extNo hE16
        have hpn := hpn.extNo hE16
        have hX := hX.thenNo hE16
        have hb15 : Blk w16 b15 3 ([.int .i64 0]) := hb15
        have hb15o := hb15
        refine wl (st_st I_ok hb15 rfl rfl rfl fun w17 hb15 hE17 hs17 => ?_)
        have hb3 := hb3.ext1 hE17 ne3_15
        have hb6 := hb6.ext1 hE17 ne6_15
        have hb7 := hb7.ext1 hE17 ne7_15
        have hr := Rt.ext hr hE17 fun e => by have e : 0 = b15 := e; omega
        have hsg := fun i hi => (hsg i hi).ext hE17 (fun e => by have e : pb = b15 := e; omega)
        have hpn := hpn.extB hE17 hb15o (by decide)
        have hX := hX.thenNew hE17 fr15
        refine wl_nil (f_then (c_seq (c_seq (c_region (wl_p I_ok rfl (wl (st_call Tryz.call52 rfl rfl rfl rfl rfl rfl (piece_calls w17 t n (p := qb) (m := b.length) (c := b.length)) fun v18 w18 hr18 => ?_)))))))
        obtain ⟨bb, bt, bn, rfl, hnn, hbb, hbt, hbn, hE18⟩ := hr18
        have hb3 := hb3.extNo hE18
        have hb6 := hb6.extNo hE18
        have hb7 := hb7.extNo hE18
        have hb15 := hb15.extNo hE18
        have hr := Rt.ext hr hE18 id
        have hsg := fun i hi => (hsg i hi).extNo hE18
        have hpn := hpn.extNo hE18
        have hX := hX.thenNo hE18
        refine wl_nil (f_then (c_block ?_))
        have l3 := hb3.lt
        have l6 := hb6.lt
        have l7 := hb7.lt
        have l15 := hb15.lt
        have hXL := hX.size
        have hb6p := hb6
        have hb7p := hb7
        have hb15p := hb15
        have hsw := hpn.2.1
        have hKb : sectN b.length = i := by rw [hbl, hK]
        have hbl4 : b.length ≤ 40000 := by omega
        refine c_iter (lieC w18 L t n b b6 b7 b15) (()) rfl Tryz.call86 rfl (fun _ => rfl) (fun w1 hE1 => piece_iter w1 (hbb.extNo hE1) (hbt.extNo hE1) (hbn.extNo hE1) (hsw.extNo hE1) ht hn hbl4 (hr.ext hE1 id)) (fun x e => by subst e; exact ⟨by omega, fun e => by rcases e with e | e | e <;> omega⟩) ⟨hb15, ⟨_, hb6⟩, ⟨_, hb7⟩, fun j hj => absurd hj (Nat.not_lt_zero _)⟩ (fun l DD r k z W hRd hJ hk => ?_) (fun DD z W hJ hE hsub hDn hmk hnd => ?_) (fun DD k c z W hk hJ hE hsub hDn hmk hnd => ?_)
        · have hLr := hRd.l
          obtain ⟨hb15, ⟨v6, hb6⟩, ⟨v7, hb7⟩, heq⟩ := hJ
          have hWX := hRd.X
          have hWs := hWX.size
          have hb3 := hb3.ext hWX fun e => by rcases e with e | e | e <;> omega
          have hsg := fun j hj => (hsg j hj).ext hWX fun e => by rcases e with e | e | e <;> omega
          have hlo := hRd.lo
          rw [hKb] at hk
          have hkL : k < L.length := by omega
          have hkb := piece_get t n b (k := k) (by rw [hKb]; exact hk)
          obtain ⟨Pk, hPk⟩ : ∃ Pk, Pk = pieceAt t n b k := ⟨_, rfl⟩
          have hP64 : Pk.length = 64 := by rw [hPk]; exact pieceAt_len _ _ _ _
          rw [show argB (pieceB t n b) k = #[numB Pk] from by rw [argB, hkb, hPk]]
          have hLk : L.getD k [] = L[k] := by simp [hkL]
          have hL64 := hL _ (List.getElem_mem hkL)
          have nl3 := hb3.neL hLr
          have nl6 := hb6.neL hLr
          have nl7 := hb7.neL hLr
          have nl15 := hb15.neL hLr
          have hX : Ext (fun x => (x = b6 ∨ x = b7 ∨ x = b15) ∨ x = l) W W := Ext.refl _ _
          refine ci_region (wli (.round _) rfl (st_al I_ok rfl fun b16 w19 hn16 hb16 hE19 => ?_))
          have ne3_16 : b3 ≠ b16 := Nat.ne_of_lt (Nat.lt_of_lt_of_le hb3.lt hn16)
          have ne6_16 : b6 ≠ b16 := Nat.ne_of_lt (Nat.lt_of_lt_of_le hb6.lt hn16)
          have ne7_16 : b7 ≠ b16 := Nat.ne_of_lt (Nat.lt_of_lt_of_le hb7.lt hn16)
          have ne15_16 : b15 ≠ b16 := Nat.ne_of_lt (Nat.lt_of_lt_of_le hb15.lt hn16)
          have fr16 := Nat.le_trans hX.size hn16
          have hb3 := hb3.extNo hE19
          have hb6 := hb6.extNo hE19
          have hb7 := hb7.extNo hE19
          have hb15 := hb15.extNo hE19
          have hsg := fun i hi => (hsg i hi).extNo hE19
          have hLr := hl_ext hLr hE19 id
          have hX := hX.thenNo hE19
          have nl16 := hb16.neL hLr
          refine wli (.round _) rfl (st_stW (l' := bytesU Pk) I_ok hb16 rfl rfl (bytesU_64 hP64) (by rw [bytesU_64 hP64]; rfl) OneC.h fun w20 hb16 hE20 hs20 => ?_)
          have hb3 := hb3.ext1 hE20 ne3_16
          have hb6 := hb6.ext1 hE20 ne6_16
          have hb7 := hb7.ext1 hE20 ne7_16
          have hb15 := hb15.ext1 hE20 ne15_16
          have hsg := fun i hi => (hsg i hi).ext hE20 (fun e => by have e : pb = b16 := e; omega)
          have hLr := hl_ext hLr hE20 nl16.symm
          have hX := hX.thenNew hE20 fr16
          refine wli_nil (fin_begin hRd hLr fun w21 hE21 hL21 => ?_)
          have hb3 := hb3.extL hLr hE21
          have hb6 := hb6.extL hLr hE21
          have hb7 := hb7.extL hLr hE21
          have hb15 := hb15.extL hLr hE21
          have hb16 := hb16.extL hLr hE21
          have hsg := fun i hi => (hsg i hi).ext hE21 (fun e => by have e : pb = l := e; omega)
          have hLr := hL21
          have hX := hX.then (hE21.mono fun x _ e => .inr e)
          refine ci_block (ci_seq (ci_seq (ci_draw (.round _) rfl rfl 6 [(0, true), (1, true), (2, true), (3, true), (4, true), (5, true)] [] (No) (by kernel_rfl) fun w22 hE22 hs22 => ?_)))
          have hd3 := hb3
          have hd6 := hb6
          have hd7 := hb7
          have hd15 := hb15
          have hd16 := hb16
          have hsgd := hsg
          have hLrd := hLr
          have hXd := hX
          have hb3 := hb3.extNo hE22
          have hb6 := hb6.extNo hE22
          have hb7 := hb7.extNo hE22
          have hb15 := hb15.extNo hE22
          have hb16 := hb16.extNo hE22
          have hsg := fun i hi => (hsg i hi).extNo hE22
          have hLr := hl_ext hLr hE22 id
          have hX := hX.thenNo hE22
          have hC : Ext (No) _ w22 := hE22.no
          refine wd_ldN I_ok rfl rfl (fun w' hw' => ((hd16.extNo hw').seg)) (bytesU_64 hP64) ?_
          refine wd_ld I_ok rfl rfl (fun w' hw' => ((hd3.extNo hw').cell rfl)) ?_
          refine wd_ld I_ok rfl rfl (fun w' hw' => ((hd15.extNo hw').cell rfl)) ?_
          refine wd_ix I_ok rfl rfl 64 rfl k rfl hkL (po + k * 64) rfl (wd_ldN I_ok rfl rfl (fun w' hw' => ((hsgd k hkL).extNo hw')) (bytesU_64 hL64) ?_)
          refine wd_eqA (xs := natsI Pk) (ys := natsI L[k]) I_ok rfl rfl (by kernel_rfl) (numB_eq _) (numB_eq _) (by rw [natsI_len, hP64]) (by rw [natsI_len, hL64]) ?_
          simp only [Bool.false_eq_true, if_false]
          refine wd_sw (wb_nil (fi_then (ci_if rfl (fun hc => ?_) (fun hc => ?_))))
          · have hne : pieceAt t n b k ≠ L.getD k [] := fun e => hc (natsI_inj.2 (by rw [hPk, e, hLk]))
            refine ci_seq (ci_region (wli (.round _) rfl (st_st I_ok hb6 rfl rfl rfl fun w23 hb6 hE23 hs23 => ?_)))
            have hb3 := hb3.ext1 hE23 ne3_6
            have hb7 := hb7.ext1 hE23 ne6_7.symm
            have hb15 := hb15.ext1 hE23 ne6_15.symm
            have hb16 := hb16.ext1 hE23 ne6_16.symm
            have hsg := fun i hi => (hsg i hi).ext hE23 (fun e => by have e : pb = b6 := e; omega)
            have hLr := hl_ext hLr hE23 nl6.symm
            have hX := hX.then (hE23.mono fun x _ e => by have e : x = b6 := e; subst e; exact .inl (.inl rfl))
            refine wli (.round _) rfl (st_st I_ok hb7 rfl rfl rfl fun w24 hb7 hE24 hs24 => ?_)
            have hb3 := hb3.ext1 hE24 ne3_7
            have hb6 := hb6.ext1 hE24 ne6_7
            have hb15 := hb15.ext1 hE24 ne7_15.symm
            have hb16 := hb16.ext1 hE24 ne7_16.symm
            have hsg := fun i hi => (hsg i hi).ext hE24 (fun e => by have e : pb = b7 := e; omega)
            have hLr := hl_ext hLr hE24 nl7.symm
            have hX := hX.then (hE24.mono fun x _ e => by have e : x = b7 := e; subst e; exact .inl (.inr (.inl rfl)))
            refine wli_nil (fi_then (ci_ret ?_))
            exact f_thenR (f_blockR (fin_stop (.inl ⟨rfl, rfl⟩) (()) hRd hLr hX (fun x hx => .inl hx) (⟨rfl, hb15.lt, hb6, hb7, hne⟩)))
          · have heqk : pieceAt t n b k = L.getD k [] := by rw [← hPk, hLk]; exact natsI_inj.1 (Decidable.not_not.1 hc)
            refine ci_skip (fi_then (ci_region (wli (.round _) rfl (st_ldb I_ok hb15 rfl rfl (wli_pR I_ok rfl ?_)))))
            rw [IntWalk.i64_in _ (by omega)]
            refine wli (.round _) rfl (st_st I_ok hb15 rfl rfl rfl fun w25 hb15 hE25 hs25 => ?_)
            have hb3 := hb3.ext1 hE25 ne3_15
            have hb6 := hb6.ext1 hE25 ne6_15
            have hb7 := hb7.ext1 hE25 ne7_15
            have hb16 := hb16.ext1 hE25 ne15_16.symm
            have hsg := fun i hi => (hsg i hi).ext hE25 (fun e => by have e : pb = b15 := e; omega)
            have hLr := hl_ext hLr hE25 nl15.symm
            have hX := hX.then (hE25.mono fun x _ e => by have e : x = b15 := e; subst e; exact .inl (.inr (.inr rfl)))
            refine wli_nil ?_
            exact f_blockN (fin_next (()) hRd hLr hX (fun x hx => .inl hx) (⟨hb15, ⟨_, hb6⟩, ⟨_, hb7⟩, fun j hj => by rcases Nat.lt_or_ge j k with h | h; exact heq j h; rw [show j = k from by omega]; exact heqk⟩))
        · obtain ⟨hb15, ⟨v6, hb6⟩, ⟨v7, hb7⟩, heq⟩ := hJ
          have hT6 := hb6p.lt
          have hpn : PieceNew w W qb b.length b := hpn.ext hE fun y hy h => by
            rcases h with h | h | h
            · exact hy.ne hb6p (by decide) h
            · exact hy.ne hb7p (by decide) h
            · exact hy.ne hb15p (by decide) h
          have nd6 : b6 ≠ DD := by omega
          have nd7 : b7 ≠ DD := by omega
          have hX : Ext No w W := hX.trans hE fun x hx e => by rcases e with e | e | e <;> omega
          rw [hKb] at heq
          have hpc : pieceB t n b = L.take i := by
            refine List.ext_getElem (by rw [pieceB_length, hKb, List.length_take]; omega) fun j h1 h2 => ?_
            have hj : j < i := by rw [pieceB_length, hKb] at h1; exact h1
            have e := heq j hj
            rw [← piece_get t n b (by rw [hKb]; exact hj)] at e
            have e1 : (pieceB t n b).getD j [] = (pieceB t n b)[j] := by simp [h1]
            have e2 : L.getD j [] = L[j]'(by omega) := by simp [show j < L.length by omega]
            rw [← e1, e, e2, List.getElem_take]
          rw [if_pos hpc] at hyes
          refine f_blockN (f_then (c_seq (c_region (wl_p I_ok rfl ?_))))
          have hb6o := hb6
          refine wl (st_st I_ok hb6 rfl rfl rfl fun w26 hb6 hE26 hs26 => ?_)
          have hb7 := hb7.ext1 hE26 ne6_7.symm
          have hmk := hl_ext hmk hE26 nd6.symm
          have hpn := hpn.extB hE26 hb6o (by decide)
          have hX := hX.thenNew hE26 fr6
          have hb7o := hb7
          refine wl (st_st I_ok hb7 rfl rfl rfl fun w27 hb7 hE27 hs27 => ?_)
          have hb6 := hb6.ext1 hE27 ne6_7
          have hmk := hl_ext hmk hE27 nd7.symm
          have hpn := hpn.extB hE27 hb7o (by decide)
          have hX := hX.thenNew hE27 fr7
          refine wl_nil (f_then (c_ret (f_retMs [DD] (by simp) (fun x hx => by rw [List.mem_singleton.1 hx]; exact hmk) [.slice qb b.length b.length, .bool true] (fun w20 hE20 => ?_) (.inl rfl))))
          refine ⟨⟨⟨b6, 0, rfl, ld_one I_ok rfl rfl ((hb6.ext hE20 (fun e => nd6 (List.mem_singleton.1 e))).cell rfl)⟩, ⟨b7, 0, rfl, ld_one I_ok rfl rfl ((hb7.ext hE20 (fun e => nd7 (List.mem_singleton.1 e))).cell rfl)⟩, trivial⟩, ?_⟩
          rw [hyes]
          exact ⟨⟨qb, b.length, rfl, hpn.ext hE20 fun y hy h => by rw [List.mem_singleton.1 h] at hy; obtain ⟨l, hl⟩ := hy; unfold Blk at hl; rw [hmk] at hl; cases hl⟩, hX.trans hE20 fun y hy e => by rw [List.mem_singleton.1 e] at hy; omega⟩
        · obtain ⟨rfl, hl15, hb6, hb7, hne⟩ := hJ
          have nd6 : b6 ≠ DD := by omega
          have nd7 : b7 ≠ DD := by omega
          have hX : Ext No w W := hX.trans hE fun x hx e => by rcases e with e | e | e <;> omega
          rw [hKb] at hk
          have hpc : ¬ pieceB t n b = L.take i := fun e => by
            have e1 := piece_get t n b (k := k) (by rw [hKb]; exact hk)
            rw [e] at e1
            refine hne (e1.symm.trans ?_)
            have e2 : L.getD k [] = L[k]'(by omega) := by simp [show k < L.length by omega]
            have e3 : (L.take i).getD k [] = L[k]'(by omega) := by simp [hk, show k < L.length by omega]
            rw [e2, e3]
          rw [if_neg hpc] at hyes
          refine c_ret (f_blockR (f_thenR (f_retMs [DD] (by simp) (fun x hx => by rw [List.mem_singleton.1 hx]; exact hmk) [.slice none 0 0, .bool false] (fun w20 hE20 => ?_) (.inl rfl))))
          refine ⟨⟨⟨b6, 0, rfl, ld_one I_ok rfl rfl ((hb6.ext hE20 (fun e => nd6 (List.mem_singleton.1 e))).cell rfl)⟩, ⟨b7, 0, rfl, ld_one I_ok rfl rfl ((hb7.ext hE20 (fun e => nd7 (List.mem_singleton.1 e))).cell rfl)⟩, trivial⟩, ?_⟩
          rw [hyes]
          exact ⟨rfl, hX.trans hE20 fun y hy e => by rw [List.mem_singleton.1 e] at hy; omega⟩
end Go.Proofs.YtlfdlodcjiaiiaaGreatDoor
namespace Go.Proofs.YtlfdlodcjiaiiaaGreatDoor
open Go.Vc
def nwV (d : Nat) (o : Option (Nat × Nat)) : List Value := match o with
  | none => [.pointer none, .int .i64 0]
  | some (_, n) => [.pointer (some ⟨d, 0, none⟩), .int .i64 (n : Int)]
theorem nwV_len (d : Nat) (o : Option (Nat × Nat)) : (nwV d o).length = 2 := by cases o <;> rfl
theorem nwV_one (d : Nat) (o : Option (Nat × Nat)) : ∀ v ∈ nwV d o, v.oneCell' = true := by
  cases o with
  | none => exact OneC.h (l := [.pointer none, .int .i64 0])
  | some x => exact OneC.h (l := [.pointer (some ⟨d, 0, none⟩), .int .i64 (x.2 : Int)])
instance (d : Nat) (o : Option (Nat × Nat)) : OneC (nwV d o) := ⟨nwV_one d o⟩
theorem newestGo_step {S i : Nat} (hi : i < 2) (D : Dsk) (o : Option (Nat × Nat)) : newestGo S (2 - i) i D o = if (D.read i).2.2 ≠ 0 then ((D.read i).1, (D.read i).2.2, none) else newestGo S (2 - (i + 1)) (i + 1) (D.read i).1 (newer i S (D.read i).2.1 o) := by
  obtain ⟨k, hk⟩ : ∃ k, 2 - i = k + 1 := ⟨1 - i, by omega⟩
  rw [hk, show 2 - (i + 1) = k from by omega]
  rfl
theorem newer_no {i S : Nat} {b : Bytes} {o : Option (Nat × Nat)} (h : ¬ HeadOk i S b) : newer i S b o = o := if_neg h
theorem newer_yes {i S : Nat} {b : Bytes} {o : Option (Nat × Nat)} (h : HeadOk i S b) (hn : nwE o ≠ 0 ∨ nwT o < turnOf b) : newer i S b o = some (turnOf b, sizeOf4 b) := by
  unfold newer
  rw [if_pos h]
  cases o with
  | none => rfl
  | some x => exact if_pos (hn.resolve_left fun e => e rfl)
theorem newer_old {i S : Nat} {b : Bytes} {o : Option (Nat × Nat)} (h : HeadOk i S b) (hn : ¬ (nwE o ≠ 0 ∨ nwT o < turnOf b)) : newer i S b o = o := by
  unfold newer
  rw [if_pos h]
  cases o with
  | none => exact absurd (.inl (by decide)) hn
  | some x => exact if_neg fun e => hn (.inr e)
theorem read_zero {D : Dsk} {i : Int} (h : (D.read i).2.2 ≠ 0) : (D.read i).2.1 = zeros := if_neg h
theorem read_64 {D : Dsk} {m : Nat} (hok : D.Ok m) (i : Int) : (D.read i).2.1.length = 64 := by
  unfold Dsk.read
  dsimp only
  split
  · exact now_length (hok.begin i false) _
  · exact zeros_length
theorem newest_calls (w : World) {d m : Nat} {F : Nat → Prop} {D : Dsk} (h : At w d F D) (hok : D.Ok m) (hm : m + 10 < 1000000000) (hr : Rt w) (hF0 : ¬ F 0) :
    CallsV Tryz.prog 55 [.pointer (some ⟨d, 0, none⟩)] w fun v w' => v = .tuple #[.agg (nwV d (newestD D).2.2).toArray, .int .u32 (nwT (newestD D).2.2 : Int), .int .i64 (newestD D).2.1] ∧ At w' d F (newestD D).1 ∧ Ext F w w' := by
  refine calls_enter Tryz.func55 rfl rfl rfl rfl ?_
  have hX := Ext.refl F w
  have hFlt := h.lt
  have hr0 := hr.lt
  have hA := h
  refine c_seq (c_region (wl (st_al I_ok rfl fun b2 w1 hn2 hb2 hE1 => ?_)))
  have fr2 := Nat.le_trans hX.size hn2
  have hA := hA.extNo hE1
  have hr := Rt.ext hr hE1 id
  have hX := hX.thenNo hE1
  have hb2 : Blk w1 b2 89 (nwV d none) := hb2
  have hF2 : ¬ F b2 := fun e => by have := hFlt _ e; omega
  refine wl_p I_ok rfl (wl_nil (f_then (c_seq (c_region (wl_p I_ok rfl (wl_nil (f_then (c_seq (c_seq (c_region (wl_p I_ok rfl (wl_nil (f_then (c_block ?_))))))))))))))
  refine c_loopK (α := Nat × Dsk × Option (Nat × Nat)) [0, 2] rfl (fun z => [(3, .int .u32 (nwT z.2.2 : Int)), (4, .int .i64 (nwE z.2.2)), (12, .int .i64 (z.1 : Int))]) (fun z u => (z.1 ≤ 2 ∧ At u d F z.2.1 ∧ z.2.1.Ok (m + z.1) ∧ newestD D = newestGo D.secs.length (2 - z.1) z.1 z.2.1 z.2.2 ∧ nwT z.2.2 < 4294967296 ∧ z.2.1.secs.length = D.secs.length ∧ Rt u) ∧ Blk u b2 89 (nwV d z.2.2) ∧ Ext F w u) (fun z u => 2 - z.1) (0, D, none) rfl ⟨⟨Nat.zero_le _, hA, hok, rfl, (show 0 < 4294967296 by decide), rfl, hr⟩, hb2, hX⟩ ?_
  rintro ⟨i, D1, o⟩ w2 ⟨⟨hi, hA, hok1, hgo, hnt, hsec, hr⟩, hb2, hX⟩
  try dsimp only
  dsimp only at hi hA hok1 hgo hnt hsec
  refine c_seq (c_region (wl_p I_ok rfl (wl_nil (f_then (c_seq (c_if rfl (fun hc => ?_) (fun hc => ?_)))))))
  · have hi2 : i < 2 := by omega
    rw [newestGo_step hi2] at hgo
    refine c_skip (f_then ?_)
    refine c_cutK (α := Dsk × Option (Nat × Nat)) [0, 2, 12] rfl (fun z => [(3, .int .u32 (nwT z.2 : Int)), (4, .int .i64 (nwE z.2))]) (fun z u => (At u d F z.1 ∧ z.1.Ok (m + (i + 1)) ∧ newestD D = newestGo D.secs.length (2 - (i + 1)) (i + 1) z.1 z.2 ∧ nwT z.2 < 4294967296 ∧ z.1.secs.length = D.secs.length ∧ Rt u) ∧ Blk u b2 89 (nwV d z.2) ∧ Ext F w u) ?_ ?_
    · refine c_block ?_
      refine c_seq (c_region (wl_p I_ok rfl (wl_nil (f_then (c_seq (c_region (wl_p I_ok rfl ?_)))))))
      have hl2 := hb2.lt
      refine wl (st_call Tryz.call12 rfl rfl rfl rfl rfl rfl (dkRead w2 hA hok1 (by omega) (i : Int)) fun v3 w3 hr3 => ?_)
      obtain ⟨rfl, hA, hE3⟩ := hr3
      have hb2 := hb2.ext hE3 hF2
      have hX := hX.then hE3
      have hr := Rt.ext hr hE3 hF0
      have hlt3 := hA.lt
      obtain ⟨x, hx⟩ : ∃ x, x = D1.read (i : Int) := ⟨_, rfl⟩
      have hx64 := read_64 hok1 (i : Int)
      have hxok := hok1.read (i : Int)
      have hxs : (D1.read (i : Int)).1.secs.length = D.secs.length := by rw [Dsk.read_secs, hsec]
      rw [← hx] at hgo hx64 hxok hxs hA ⊢
      obtain ⟨D2, B, e⟩ := x
      dsimp only at hgo hx64 hxok hxs hA ⊢
      refine wl_p I_ok rfl (wl (st_al I_ok rfl fun b6 w4 hn6 hb6 hE4 => ?_))
      have ne2_6 : b2 ≠ b6 := Nat.ne_of_lt (Nat.lt_of_lt_of_le hb2.lt hn6)
      have fr6 := Nat.le_trans hX.size hn6
      have hb2 := hb2.extNo hE4
      have hA := hA.extNo hE4
      have hr := Rt.ext hr hE4 id
      have hX := hX.thenNo hE4
      have hF6 : ¬ F b6 := fun e => by have := hlt3 _ e; omega
      refine wl (st_stW (l' := bytesU B) I_ok hb6 rfl rfl (bytesU_64 hx64) (by rw [bytesU_64 hx64]; rfl) OneC.h fun w5 hb6 hE5 hs5 => ?_)
      have hb2 := hb2.ext1 hE5 ne2_6
      have hA := hA.ext hE5 fun x hx e => by have e : x = b6 := e; subst e; exact hF6 hx
      have hr := Rt.ext hr hE5 fun e => by have e : 0 = b6 := e; omega
      have hX := hX.thenNew hE5 fr6
      refine wl_p I_ok rfl (wl_nil (f_then (c_seq (c_seq (c_region (wl_p I_ok rfl (wl_nil (f_then (c_if rfl (fun hc => ?_) (fun hc => ?_))))))))))
      · rw [if_pos hc] at hgo
        rw [hgo]
        refine c_seq (c_region (wl (st_bd I_ok rfl trivial (l' := nwV d none) rfl (wl_p I_ok rfl (wl (st_stW (l' := nwV d none) I_ok hb2 rfl rfl rfl (by rw [nwV_len, nwV_len]) (nwV_one _ _) fun w6 hb2 hE6 hs6 => ?_))))))
        have hb6 := hb6.ext1 hE6 ne2_6.symm
        have hA := hA.ext hE6 fun x hx e => by have e : x = b2 := e; subst e; exact hF2 hx
        have hr := Rt.ext hr hE6 fun e => by have e : 0 = b2 := e; omega
        have hX := hX.thenNew hE6 fr2
        refine wl_p I_ok rfl (wl_nil (f_then (c_ret (f_thenR (f_blockR (f_thenR (f_thenR (f_blockR (f_thenR (f_ret [_, _, _] ⟨⟨b2, 0, rfl, ld_all I_ok rfl rfl hb2.seg rfl⟩, rfl, rfl, trivial⟩ ?_))))))))))
        exact ⟨rfl, hA, hX⟩
      · rw [if_neg hc] at hgo
        refine c_skip (f_then (c_seq (c_region (wl (st_sa I_ok rfl 0 64 64 1 rfl ⟨.inr ⟨rfl, rfl⟩, .inr ⟨rfl, rfl⟩, .inr ⟨rfl, rfl⟩, by decide, by decide, by decide⟩ ?_)))))
        rw [slBase_zero, Nat.sub_zero]
        rw [show Value.slice (some ⟨b6, 0, none⟩) 64 64 = .slice (some ⟨b6, 0, none⟩) B.length 64 from by rw [hx64]]
        have hXr := hX.size
        have l2 := hb2.lt
        have l6 := hb6.lt
        have lA := hA.lt
        refine wl (st_call Tryz.call90 rfl rfl rfl rfl rfl rfl (read_calls w5 hb6.slB (by omega)) fun v7 w7 hr7 => ?_)
        obtain ⟨rb, rfl, hnr, hR, hE7⟩ := hr7
        have hb2 := hb2.extNo hE7
        have hb6 := hb6.extNo hE7
        have hA := hA.extNo hE7
        have hr := Rt.ext hr hE7 id
        have hX := hX.thenNo hE7
        refine wl_p I_ok rfl (wl_nil (f_then (c_seq (c_region (wl_p I_ok rfl (wl (st_call Tryz.call91 rfl rfl rfl rfl rfl rfl (raw_calls w7 hR (by omega) 12) fun v8 w8 hr8 => ?_)))))))
        obtain ⟨_, _, rfl, _, hR, hE8⟩ := hr8
        have hb2 := hb2.ext1 hE8 (by omega)
        have hb6 := hb6.ext1 hE8 (by omega)
        have hX := hX.thenNew hE8 (by omega)
        rw [show (12 : Int) = ((12 : Nat) : Int) from rfl, offR_ok (by omega)] at hR
        have hA := hA.ext hE8 fun y hy e => by have e : y = rb := e; have := lA y hy; omega
        have hr := Rt.ext hr hE8 fun e => by have e : 0 = rb := e; omega
        refine wl_nil (f_then (c_seq (c_region (wl_p I_ok rfl (wl (st_call Tryz.call92 rfl rfl rfl rfl rfl rfl (u32_calls w8 hR (by simp; omega)) fun v9 w9 hr9 => ?_))))))
        obtain ⟨rfl, hR, hE9⟩ := hr9
        have hb2 := hb2.ext1 hE9 (by omega)
        have hb6 := hb6.ext1 hE9 (by omega)
        have hX := hX.thenNew hE9 (by omega)
        rw [show (4 : Int) = ((4 : Nat) : Int) from rfl, offR_ok (by rw [List.length_drop]; omega)] at hR ⊢
        have hA := hA.ext hE9 fun y hy e => by have e : y = rb := e; have := lA y hy; omega
        have hr := Rt.ext hr hE9 fun e => by have e : 0 = rb := e; omega
        refine wl_p I_ok rfl (wl (st_call Tryz.call92 rfl rfl rfl rfl rfl rfl (u32_calls w9 hR (by simp; omega)) fun v10 w10 hr10 => ?_))
        obtain ⟨rfl, _, hE10⟩ := hr10
        have hb2 := hb2.ext1 hE10 (by omega)
        have hb6 := hb6.ext1 hE10 (by omega)
        have hX := hX.thenNew hE10 (by omega)
        rw [show (4 : Int) = ((4 : Nat) : Int) from rfl, offR_ok (by rw [List.length_drop, List.length_drop]; omega)]
        have hA := hA.ext hE10 fun y hy e => by have e : y = rb := e; have := lA y hy; omega
        have hr := Rt.ext hr hE10 fun e => by have e : 0 = rb := e; omega
        obtain ⟨t, ht⟩ : ∃ t, t = turnOf B := ⟨_, rfl⟩
        obtain ⟨n, hn⟩ : ∃ n, n = sizeOf4 B := ⟨_, rfl⟩
        have htl : t < 4294967296 := by have := num_lt ((B.drop 12).take 4); rw [List.length_take, List.length_drop, hx64] at this; rw [ht]; exact this
        have hnl : n < 4294967296 := by have := num_lt ((B.drop 16).take 4); rw [List.length_take, List.length_drop, hx64] at this; rw [hn]; exact this
        dsimp only
        rw [show num ((B.drop 12).take 4) = t from ht.symm, show num (((B.drop 12).drop 4).take 4) = n from by rw [List.drop_drop]; exact hn.symm]
        refine wl_p I_ok rfl (wl_nil (f_then (c_seq (c_region (wl_p I_ok rfl ?_)))))
        rw [IntWalk.i64_in (n : Int) (by omega)]
        refine wl (st_bd I_ok rfl ⟨⟨rfl, by decide⟩, ⟨rfl, by decide⟩, trivial⟩ (l' := [.pointer (some ⟨d, 0, none⟩), .int .i64 (n : Int)]) rfl ?_)
        have lA11 := hA.lt
        refine wl (st_al I_ok rfl fun b11 w11 hn11 hb11 hE11 => ?_)
        have ne2_11 : b2 ≠ b11 := Nat.ne_of_lt (Nat.lt_of_lt_of_le hb2.lt hn11)
        have ne6_11 : b6 ≠ b11 := Nat.ne_of_lt (Nat.lt_of_lt_of_le hb6.lt hn11)
        have fr11 := Nat.le_trans hX.size hn11
        have hb2 := hb2.extNo hE11
        have hb6 := hb6.extNo hE11
        have hA := hA.extNo hE11
        have hr := Rt.ext hr hE11 id
        have hX := hX.thenNo hE11
        have hF11 : ¬ F b11 := fun e => by have := lA11 _ e; omega
        refine wl (st_stW (l' := [.pointer (some ⟨d, 0, none⟩), .int .i64 (n : Int)]) I_ok hb11 rfl rfl rfl rfl OneC.h fun w12 hb11 hE12 hs12 => ?_)
        have hb2 := hb2.ext1 hE12 ne2_11
        have hb6 := hb6.ext1 hE12 ne6_11
        have hA := hA.ext hE12 fun x hx e => by have e : x = b11 := e; subst e; exact hF11 hx
        have hr := Rt.ext hr hE12 fun e => by have e : 0 = b11 := e; omega
        have hX := hX.thenNew hE12 fr11
        refine wl_nil (f_then (c_seq ?_))
        refine c_cutK (α := Bool) [0, 2, 3, 4, 9, 11, 12] rfl (fun z => [(53, .bool z)]) (fun z u => (z = decide (¬ HeadOk i D.secs.length B) ∧ At u d F D2 ∧ Rt u) ∧ Blk u b2 89 (nwV d o) ∧ Blk u b6 37 (bytesU B) ∧ Blk u b11 89 ([.pointer (some ⟨d, 0, none⟩), .int .i64 (n : Int)]) ∧ Ext F w u) ?_ ?_
        · refine c_draw rfl 17 [(0, true), (1, true), (2, true), (3, true), (4, true), (5, true), (6, true), (7, false), (8, true), (9, true), (10, true), (11, true), (12, true), (14, true), (13, false), (15, true), (16, true)] [] (No) (by kernel_rfl) fun w13 hE13 hs13 => ?_
          have hd2 := hb2
          have hd6 := hb6
          have hd11 := hb11
          have hAd := hA
          have hrd := hr
          have hXd := hX
          have hb2 := hb2.extNo hE13
          have hb6 := hb6.extNo hE13
          have hb11 := hb11.extNo hE13
          have hA := hA.extNo hE13
          have hr := Rt.ext hr hE13 id
          have hX := hX.thenNo hE13
          have hC : Ext (No) _ w13 := hE13.no
          refine wd_k I_ok 2 rfl ?_
          rw [and1 t htl]
          refine wd_k I_ok 1 rfl ?_
          rw [IntWalk.i64_in ((t % 2 : Nat) : Int) (by omega)]
          refine wd_k I_ok 3 rfl (wd_caseD 42 rfl (fun hg => ?_) (fun hg => ?_))
          · refine wd_k I_ok 11 rfl ?_
            refine wd_sw (wb_nil ?_)
            exact f_cut (true) rfl ⟨⟨by symm; rw [decide_eq_true_iff]; exact fun h => hg (by rw [ht, h.1]), hA, hr⟩, hb2, hb6, hb11, hX⟩
          · have hgi : turnOf B % 2 = i := by rw [← ht]; omega
            refine wd_ldN I_ok rfl rfl (fun w' hw' => ((hd11.extNo hw').seg)) rfl ?_
            refine wd_l rfl (st_call Tryz.call44 rfl rfl rfl rfl rfl rfl (fits_calls w13 hA (n : Int) (by omega)) fun v14 w14 hr14 => ⟨(by obtain ⟨rfl, hE14⟩ := hr14; exact hC.thenNo hE14), ?_⟩)
            obtain ⟨rfl, hE14⟩ := hr14
            have hb2 := hb2.extNo hE14
            have hb6 := hb6.extNo hE14
            have hb11 := hb11.extNo hE14
            have hA := hA.extNo hE14
            have hr := Rt.ext hr hE14 id
            have hX := hX.thenNo hE14
            have hC := hC.thenNo hE14
            rw [hxs, Int.toNat_natCast]
            refine wd_k I_ok 3 rfl (wd_case 47 rfl (fun hg => ?_) (fun hg => ?_))
            · have hgf : ¬ FitsB (sizeOf4 B) D.secs.length := by rw [← hn]; intro h; rw [decide_eq_true ⟨Int.natCast_nonneg n, h⟩] at hg; cases hg
              refine wd_k I_ok 6 rfl (wd_sw (wb_nil ?_))
              exact f_cut (true) rfl ⟨⟨by symm; rw [decide_eq_true_iff]; exact fun h => hgf h.2.1, hA, hr⟩, hb2, hb6, hb11, hX⟩
            · have hgf : FitsB (sizeOf4 B) D.secs.length := by rw [← hn]; simpa using hg
              refine wd_ldN I_ok rfl rfl (fun w' hw' => ((hd11.extNo hw').seg)) rfl ?_
              refine wd_k I_ok 1 rfl (wd_ldN I_ok rfl rfl (fun w' hw' => ((hd6.extNo hw').seg)) (bytesU_64 hx64) ?_)
              refine wd_l rfl (st_call Tryz.call84 rfl rfl rfl rfl rfl rfl (head_calls w14 (.pointer (some ⟨d, 0, none⟩)) n t hnl htl rfl hr) fun v15 w15 hr15 => ⟨(by obtain ⟨rfl, hE15⟩ := hr15; exact hC.thenNo hE15), ?_⟩)
              obtain ⟨rfl, hE15⟩ := hr15
              have hb2 := hb2.extNo hE15
              have hb6 := hb6.extNo hE15
              have hb11 := hb11.extNo hE15
              have hA := hA.extNo hE15
              have hr := Rt.ext hr hE15 id
              have hX := hX.thenNo hE15
              have hC := hC.thenNo hE15
              refine wd_eqA (xs := natsI (headB t n)) (ys := natsI B) I_ok rfl rfl (by kernel_rfl) (numB_eq _) (numB_eq _) (by rw [natsI_len, headB_len]) (by rw [natsI_len, hx64]) ?_
              simp only [Bool.false_eq_true, if_false]
              refine wd_k I_ok 1 rfl (wd_sw (wb_nil ?_))
              exact f_cut (_) rfl ⟨⟨by rw [decide_eq_decide, ht, hn]; exact ⟨fun h h2 => h (by rw [h2.2.2]), fun h h2 => h ⟨hgi, hgf, natsI_inj.1 h2⟩⟩, hA, hr⟩, hb2, hb6, hb11, hX⟩
        rintro z w16 ⟨⟨rfl, hA, hr⟩, hb2, hb6, hb11, hX⟩
        refine c_if rfl (fun hc => ?_) (fun hc => ?_)
        · refine c_exit ?_
          exact f_thenE (f_blockE (f_cut (D2, o) rfl ⟨⟨hA, hxok, by rw [hgo, newer_no hc], hnt, hxs, hr⟩, hb2, hX⟩))
        · have hHd : HeadOk i D.secs.length B := Decidable.not_not.1 hc
          refine c_skip (f_then (c_cutK (α := Bool) [0, 2, 3, 4, 9, 11, 12] rfl (fun z => [(60, .bool z)]) (fun z u => u = w16 ∧ z = decide (nwE o ≠ 0 ∨ nwT o < t)) ?_ ?_))
          · refine c_region ?_
            refine wl_p I_ok rfl (wl_caseD 56 rfl (fun hg => ?_) (fun hg => ?_))
            · refine wl_pk I_ok 4 rfl ?_
              refine wl_nil ?_
              exact f_cut (true) rfl ⟨rfl, by symm; rw [decide_eq_true_iff]; exact .inl hg⟩
            · refine wl_pk I_ok 4 rfl ?_
              refine wl_nil ?_
              exact f_cut (_) rfl ⟨rfl, by rw [decide_eq_decide]; omega⟩
          rintro z w17 ⟨hu, rfl⟩
          have hu := hu.symm
          subst hu
          refine c_if rfl (fun hc => ?_) (fun hc => ?_)
          · refine c_region ?_
            refine wl (st_ldB I_ok hb11 rfl rfl (wl_p I_ok rfl (wl (st_stW (l' := [.pointer (some ⟨d, 0, none⟩), .int .i64 (n : Int)]) I_ok hb2 rfl rfl rfl (by rw [nwV_len]; rfl) OneC.h fun w18 hb2 hE18 hs18 => ?_))))
            have hb6 := hb6.ext1 hE18 ne2_6.symm
            have hb11 := hb11.ext1 hE18 ne2_11.symm
            have hA := hA.ext hE18 fun x hx e => by have e : x = b2 := e; subst e; exact hF2 hx
            have hr := Rt.ext hr hE18 fun e => by have e : 0 = b2 := e; omega
            have hX := hX.thenNew hE18 fr2
            refine wl_p I_ok rfl (wl_nil ?_)
            exact f_blockN (f_cut (D2, some (t, n)) rfl ⟨⟨hA, hxok, by rw [hgo, newer_yes hHd (by rw [← ht]; exact hc), ht, hn], htl, hxs, hr⟩, hb2, hX⟩)
          · refine c_skip ?_
            exact f_blockN (f_cut (D2, o) rfl ⟨⟨hA, hxok, by rw [hgo, newer_old hHd (by rw [← ht]; exact hc)], hnt, hxs, hr⟩, hb2, hX⟩)
    rintro ⟨D2, o2⟩ w19 ⟨⟨hA, hok2, hgo, hnt, hsec, hr⟩, hb2, hX⟩
    try dsimp only
    dsimp only at hA hok2 hgo hnt hsec
    refine c_region (wl_p I_ok rfl ?_)
    rw [IntWalk.i64_in _ (by omega)]
    refine wl_nil ?_
    exact f_round (i + 1, D2, o2) rfl ⟨⟨by omega, hA, hok2, hgo, hnt, hsec, hr⟩, hb2, hX⟩ (by first | omega | (dsimp only; omega))
  · have hi2 : i = 2 := by omega
    subst hi2
    rw [hgo]
    refine c_exit (f_thenE (f_thenE (f_blockE (f_then (c_seq (c_region (wl (st_ldB I_ok hb2 rfl (nwV_len _ _) (wl_p I_ok rfl ?_)))))))))
    refine wl (st_stW (l' := nwV d o) I_ok hb2 rfl rfl (nwV_len _ _) (by rw [nwV_len]) (nwV_one _ _) fun w20 hb2 hE20 hs20 => ?_)
    have hA := hA.ext hE20 fun x hx e => by have e : x = b2 := e; subst e; exact hF2 hx
    have hr := Rt.ext hr hE20 fun e => by have e : 0 = b2 := e; omega
    have hX := hX.thenNew hE20 fr2
    refine wl_p I_ok rfl (wl_nil (f_then (c_ret (f_ret [_, _, _] ⟨⟨b2, 0, rfl, ld_all I_ok rfl rfl hb2.seg (nwV_len _ _)⟩, rfl, rfl, trivial⟩ ?_))))
    exact ⟨rfl, hA, hX⟩
end Go.Proofs.YtlfdlodcjiaiiaaGreatDoor
namespace Go.Proofs.YtlfdlodcjiaiiaaGreatDoor
open Go.Vc
theorem hsl_len : ∀ {R : List Bytes}, (∀ b ∈ R, b.length = 64) → (R.flatMap bytesU).length = R.length * 64
  | [], _ => rfl
  | b :: R, h => by
    rw [List.flatMap_cons, List.length_append, bytesU_64 (h b (by simp)), hsl_len fun x hx => h x (by simp [hx]), List.length_cons]
    omega
theorem take_zero {R : List Bytes} {i : Nat} (hi : i < R.length) : (∀ b ∈ R.take (i + 1), b = zeros) ↔ (∀ b ∈ R.take i, b = zeros) ∧ R[i] = zeros := by
  rw [List.take_succ_eq_append_getElem hi]
  constructor
  · exact fun h => ⟨fun b hb => h b (List.mem_append_left _ hb), h _ (List.mem_append_right _ (List.mem_singleton.2 rfl))⟩
  · rintro ⟨h1, h2⟩ b hb
    rcases List.mem_append.1 hb with hb | hb
    · exact h1 b hb
    · rw [List.mem_singleton.1 hb]; exact h2
theorem clean_calls (w : World) {x d m c : Nat} {H F : Nat → Prop} {W : Wl} {D : Dsk} {p : Option Addr} {L : List Bytes} (hW : LogAt w x d H W) (h : At w d F D) (hok : D.Ok m) (hm : m + 2 * L.length + 10 < 1000000000) (hs : Sl w p L.length 64 (L.flatMap bytesU)) (hL : ∀ b ∈ L, b.length = 64) (hc : L.length ≤ c) (hu : W.used ≤ L.length) (hLl : L.length ≤ 100000) (hsz : W.size < 1000000) (htu : W.turn < 4294967296)
    (hHF : ∀ y, H y → ¬ F y) (hpF : ∀ y off, p = some ⟨y, off, none⟩ → 0 < L.length → ¬ F y) :
    CallsV Tryz.prog 57 [.pointer (some ⟨x, 0, none⟩), .slice p L.length c] w fun v w' => v = .int .i64 (cleanD D ((areaB W.turn W.size + W.used : Nat) : Int) (L.drop W.used)).2 ∧ DkQ w d F (cleanD D ((areaB W.turn W.size + W.used : Nat) : Int) (L.drop W.used)).1 w' := by
  obtain ⟨⟨q, cq, rows, hbx, hrw, hps, hqH⟩, hxH, hlt⟩ := hW
  have hFlt := h.lt
  have hA := h
  have hGx := hHF x hxH
  have hxl := hbx.lt
  obtain ⟨R, hR⟩ : ∃ R, R = L.drop W.used := ⟨_, rfl⟩
  have hRl : R.length = L.length - W.used := by rw [hR, List.length_drop]
  have hR64 : ∀ b ∈ R, b.length = 64 := fun b hb => hL b (by rw [hR] at hb; exact List.mem_of_mem_drop hb)
  have hsR : Sl w (slBase p W.used c 64) R.length 64 (R.flatMap bytesU) := by
    have e := hs.slice W.used L.length c hu hc (Nat.le_refl _)
    rw [flat_drop64 _ _ hL, ← hR, ← hRl, List.take_of_length_le (Nat.le_of_eq (hsl_len hR64))] at e
    exact e
  have hsw := hs
  have hsR0 := hsR
  obtain ⟨at_, hat⟩ : ∃ at_ : Int, at_ = ((areaB W.turn W.size + W.used : Nat) : Int) := ⟨_, rfl⟩
  have har : areaB W.turn W.size ≤ 1000002 := by unfold areaB; split <;> omega
  rw [← hR, ← hat]
  refine calls_enter Tryz.func57 rfl rfl rfl rfl ?_
  have hX := Ext.refl F w
  refine c_seq (c_region (wl_p I_ok rfl (wl_nil (f_then (c_seq (c_region (wl_p I_ok rfl (wl (st_ld I_ok rfl (hbx.cell rfl) (wl (st_call Tryz.call77 rfl rfl rfl rfl rfl rfl (dk_pending w hA hok (by omega)) fun v1 w1 hr1 => ?_)))))))))))
  obtain ⟨bp, rfl, _, _, hE1⟩ := hr1
  have hA := hA.extNo hE1
  have hbx := hbx.extNo hE1
  have hsR := hsR.extNo hE1
  have hX := hX.thenNo hE1
  refine wl_p I_ok rfl (wl_nil (f_then (c_seq (c_seq (c_region (wl_p I_ok rfl (wl (st_ld I_ok rfl (hbx.cell rfl) (wl (st_sl I_ok rfl W.used L.length c 64 rfl (.inr ⟨rfl, rfl⟩) (.inr ⟨rfl, rfl⟩) (.inl rfl) hu hc (Nat.le_refl _) ?_))))))))))
  dsimp only
  rw [← hRl]
  refine wl_p I_ok rfl (wl_nil (f_then (c_block ?_)))
  refine c_loopK (α := Nat × Bool × (Nat → Prop) × Dsk) [0, 22, 23] rfl (fun z => [(5, .bool z.2.1), (24, .int .i64 (z.1 : Int))]) (fun z u => (z.1 ≤ R.length ∧ At u d z.2.2.1 z.2.2.2 ∧ z.2.2.2.Ok (m + 2 * z.1) ∧ wipeD D at_ R = wipeD z.2.2.2 (at_ + (z.1 : Nat)) (R.drop z.1) ∧ (z.2.1 = true ↔ D.order = [] ∧ ∀ b ∈ R.take z.1, b = zeros) ∧ (∀ y, z.2.2.1 y → F y ∨ w.heap.size ≤ y) ∧ Blk u x 98 [.pointer (some ⟨d, 0, none⟩), .int .i64 (W.size : Int), .int .u32 (W.turn : Int), .slice q W.pieces.length cq, .int .i64 (W.used : Int), .bool W.broken] ∧ Sl u (slBase p W.used c 64) R.length 64 (R.flatMap bytesU)) ∧ Ext F w u) (fun z u => R.length - z.1) (0, decide ((D.order.length : Int) = 0), F, D) rfl ⟨⟨Nat.zero_le _, hA, hok, by simp, by simp, fun y hy => .inl hy, hbx, hsR⟩, hX⟩ ?_
  rintro ⟨i, fl, G, Dz⟩ w2 ⟨⟨hi, hA, hok1, hwp, hfl, hG, hbx, hsR⟩, hX⟩
  try dsimp only
  dsimp only at hi hA hok1 hwp hfl hG
  have hGx : ¬ G x := fun e => (hG x e).elim hGx (by omega)
  have hXz := hX.size
  refine c_seq (c_region (wl_p I_ok rfl (wl_nil (f_then (c_seq (c_if rfl (fun hc => ?_) (fun hc => ?_)))))))
  · have hiR : i < R.length := by omega
    obtain ⟨pb, po, hpo, hsr⟩ := hsR.rowAll (fun r hr => bytesU_64 (hR64 r hr)) (by omega)
    have hpb : pb < w.heap.size := by
      obtain ⟨pb', po', hpo', hsr'⟩ := hsR0.rowAll (fun r hr => bytesU_64 (hR64 r hr)) (by omega)
      rw [hpo] at hpo'
      cases hpo'
      exact (hsr' i hiR).lt (fun e => by have := congrArg List.length e; rw [bytesU_64 (hR64 _ (List.getElem_mem _))] at this; cases this)
    have hpbF : ¬ F pb := by
      obtain ⟨pL, oL, hpL, _⟩ := hsw.rowAll (fun r hr => bytesU_64 (hL r hr)) (by omega)
      obtain ⟨off', e'⟩ := slBase_some hpo (fun y o sp e => by rw [hpL] at e; cases e; rfl)
      exact hpF pb off' e' (by omega)
    have hGpb : ¬ G pb := fun e => (hG pb e).elim hpbF (by omega)
    rw [hpo] at hsR ⊢
    have hi64 := hR64 _ (List.getElem_mem hiR)
    refine c_skip (f_then ?_)
    refine c_cutK (α := Bool × (Nat → Prop) × Dsk) [0, 22, 23, 24] rfl (fun z => [(5, .bool z.1)]) (fun z u => (At u d z.2.1 z.2.2 ∧ z.2.2.Ok (m + 2 * (i + 1)) ∧ wipeD D at_ R = wipeD z.2.2 (at_ + (i + 1 : Nat)) (R.drop (i + 1)) ∧ (z.1 = true ↔ D.order = [] ∧ ∀ b ∈ R.take (i + 1), b = zeros) ∧ (∀ y, z.2.1 y → F y ∨ w.heap.size ≤ y) ∧ Blk u x 98 [.pointer (some ⟨d, 0, none⟩), .int .i64 (W.size : Int), .int .u32 (W.turn : Int), .slice q W.pieces.length cq, .int .i64 (W.used : Int), .bool W.broken] ∧ Sl u (some ⟨pb, po, none⟩) R.length 64 (R.flatMap bytesU)) ∧ Ext F w u) ?_ ?_
    · refine c_block ?_
      refine c_seq (c_region (wl_p I_ok rfl (wl (st_ix I_ok rfl 64 rfl i rfl hiR (po + i * 64) rfl (wl (st_ldN I_ok rfl (hsr i hiR) (bytesU_64 hi64) ?_))))))
      have hAl := hA.lt
      refine wl (st_al I_ok rfl fun b7 w3 hn7 hb7 hE3 => ?_)
      have fr7 := Nat.le_trans hX.size hn7
      have hA := hA.extNo hE3
      have hbx := hbx.extNo hE3
      have hsR := hsR.extNo hE3
      have hX := hX.thenNo hE3
      refine wl_p I_ok rfl ?_
      have hG7 : ¬ G b7 := fun e => by have := hAl _ e; omega
      refine wl (st_stW (l' := bytesU R[i]) I_ok hb7 rfl rfl (bytesU_64 hi64) (by rw [bytesU_64 hi64]; rfl) OneC.h fun w4 hb7 hE4 hs4 => ?_)
      have hA := hA.ext hE4 fun x hx e => by have e : x = b7 := e; subst e; exact hG7 hx
      have hbx := hbx.ext hE4 fun e => by have e : x = b7 := e; omega
      have hsR := hsR.ext hE4 fun b o e h => by cases e; have h : pb = b7 := h; omega
      have hX := hX.thenNew hE4 fr7
      refine wl_nil (f_then (c_seq (c_seq (c_region (wl (st_ldB I_ok hb7 rfl (bytesU_64 hi64) (wl (st_bd I_ok rfl trivial (l' := bytesU zeros) (by rw [zeros_b]; rfl) ?_))))))))
      refine wl (st_eqA (xs := natsI R[i]) (ys := natsI zeros) I_ok rfl (by kernel_rfl) (numB_eq _) (numB_eq _) (by rw [natsI_len, hi64]) (by rw [natsI_len, zeros_length]) ?_)
      simp only [if_true]
      refine wl_nil (f_then (c_if rfl (fun hc => ?_) (fun hc => ?_)))
      · have hz := natsI_inj.1 hc
        rw [wipeD_zero hiR hz] at hwp
        refine c_exit ?_
        exact f_thenE (f_blockE (f_cut (fl, G, Dz) rfl ⟨⟨hA, hok1.mono (by omega), hwp, hfl.trans (by rw [take_zero hiR]; exact ⟨fun h => ⟨h.1, h.2, hz⟩, fun h => ⟨h.1, h.2.1⟩⟩), hG, hbx, hsR⟩, hX⟩))
      · have hz : ¬ R[i] = zeros := fun e => hc (natsI_inj.2 e)
        rw [wipeD_step hiR hz] at hwp
        refine c_skip (f_then (c_seq (c_region (wl_p I_ok rfl (wl_nil (f_then (c_seq ?_)))))))
        refine c_draw rfl 24 [(0, true), (1, true), (2, true), (3, true), (4, true), (5, true), (6, true), (7, true), (8, true), (9, true), (10, true), (11, true), (12, true), (14, true), (15, true), (16, true), (17, true), (19, true), (21, true), (13, false), (18, true), (20, true), (22, false), (23, true)] [] (G) (by kernel_rfl) fun w5 hE5 hs5 => ?_
        have hd7 := hb7
        have hAd := hA
        have hbxd := hbx
        have hsRd := hsR
        have hXd := hX
        have hb7 := hb7.extNo hE5
        have hA := hA.extNo hE5
        have hbx := hbx.extNo hE5
        have hsR := hsR.extNo hE5
        have hX := hX.thenNo hE5
        have hC : Ext (G) _ w5 := hE5.no
        refine wd_k I_ok 4 rfl (wd_ld I_ok rfl rfl (fun w' hw' => ((hbxd.ext hw' hGx).cell rfl)) ?_)
        refine wd_k I_ok 3 rfl (wd_ldN I_ok rfl rfl (fun w' hw' => ((hbxd.ext hw' hGx).seg.take 2)) rfl ?_)
        refine wd_k I_ok 3 rfl (wd_ld I_ok rfl rfl (fun w' hw' => ((hbxd.ext hw' hGx).cell rfl)) ?_)
        refine wd_k I_ok 3 rfl (wd_ld I_ok rfl rfl (fun w' hw' => ((hbxd.ext hw' hGx).cell rfl)) ?_)
        refine wd_k I_ok 1 rfl (wd_bd I_ok rfl rfl trivial (l' := bytesU zeros) (by rw [zeros_b]; rfl) ?_)
        refine wd_l rfl (st_call Tryz.call51 rfl rfl rfl rfl rfl rfl (area_calls w5 (.pointer (some ⟨d, 0, none⟩)) W.size W.turn (by omega) htu rfl) fun v6 w6 hr6 => ⟨(by obtain ⟨rfl, hE6⟩ := hr6; exact hC.thenNo hE6), ?_⟩)
        obtain ⟨rfl, hE6⟩ := hr6
        have hb7 := hb7.extNo hE6
        have hA := hA.extNo hE6
        have hbx := hbx.extNo hE6
        have hsR := hsR.extNo hE6
        have hX := hX.thenNo hE6
        have hC := hC.thenNo hE6
        refine wd_k I_ok 2 rfl ?_
        rw [show IntKind.i64.wrap (IntKind.i64.wrap ((areaB W.turn W.size : Int) + (W.used : Int)) + (i : Int)) = at_ + (i : Nat) from by rw [IntWalk.i64_in ((areaB W.turn W.size : Int) + (W.used : Int)) (by omega), IntWalk.i64_in _ (by omega), hat]; omega]
        have hXw := hX.size
        refine wd_l rfl (st_call Tryz.call13 rfl rfl rfl rfl rfl rfl (dkWrite w6 hA hok1 (by omega) (at_ + (i : Nat)) zeros_length) fun v7 w7 hr7 => ⟨(by obtain ⟨rfl, G2, hA2, hE7, hGs⟩ := hr7; exact hC.then hE7), ?_⟩)
        obtain ⟨rfl, G2, hA2, hE7, hGs⟩ := hr7
        have hC := hC.then hE7
        have hX := hX.trans hE7 fun y hy e => (hG y e).resolve_right (by omega)
        have hbx := hbx.ext hE7 hGx
        have hsR := hsR.ext hE7 fun b o e h => by cases e; exact hGpb h
        have hG2 := grow_sub hG hXw hGs
        refine wd_k I_ok 1 rfl (wd_sw (wb_nil (f_then (c_seq (c_region (wl_p I_ok rfl (wl_nil (f_then (c_if rfl (fun hc => ?_) (fun hc => ?_))))))))))
        · rw [if_pos hc] at hwp
          have hcl : cleanD D at_ R = Dz.write (at_ + (i : Nat)) zeros := by unfold cleanD; dsimp only; rw [hwp, if_pos hc]
          rw [hcl]
          refine c_seq (c_region (wl_p I_ok rfl (wl_nil (f_then (c_ret (f_blockR (f_thenR (f_thenR (f_blockR (f_thenR (f_ret1 rfl rfl ?_)))))))))))
          exact ⟨rfl, G2, hA2, hX, hG2⟩
        · rw [if_neg hc] at hwp
          refine c_skip ?_
          exact f_blockN (f_cut (false, G2, (Dz.write (at_ + (i : Nat)) zeros).1) rfl ⟨⟨hA2, hok1.write _ zeros_length, hwp, ⟨fun h => (by cases h), fun h => absurd (((take_zero hiR).1 h.2).2) hz⟩, hG2, hbx, hsR⟩, hX⟩)
    rintro ⟨fl2, G2, D2⟩ w8 ⟨⟨hA, hok2, hwp, hfl, hG2, hbx, hsR⟩, hX⟩
    refine c_region (wl_p I_ok rfl ?_)
    rw [IntWalk.i64_in _ (by omega)]
    refine wl_nil ?_
    exact f_round (i + 1, fl2, G2, D2) rfl ⟨⟨hiR, hA, hok2, hwp, hfl, hG2, hbx, hsR⟩, hX⟩ (by first | omega | (dsimp only; omega))
  · have hiR : i = R.length := by omega
    subst hiR
    rw [List.drop_length] at hwp
    rw [List.take_length] at hfl
    have hcl : cleanD D at_ R = if fl = true then (Dz, 0) else Dz.sync := by
      unfold cleanD
      dsimp only
      rw [hwp]
      show (if (0 : Int) ≠ 0 then _ else _) = _
      rw [if_neg (by decide)]
      by_cases hf : fl = true
      · rw [if_pos (hfl.1 hf), if_pos hf]; rfl
      · rw [if_neg (fun e => hf (hfl.2 e)), if_neg hf]; rfl
    rw [hcl]
    refine c_exit (f_thenE (f_thenE (f_blockE (f_then (c_seq (c_seq (c_region (wl_p I_ok rfl (wl_nil (f_then (c_cond rfl (fun hc => ?_) (fun hc => ?_))))))))))))
    · rw [if_pos hc]
      refine c_seq (c_region (wl_p I_ok rfl (wl_nil (f_then (c_ret (f_thenR (f_ret1 rfl rfl ?_)))))))
      exact ⟨rfl, G, hA, hX, hG⟩
    · rw [if_neg (by rw [hc]; decide)]
      refine c_skip (f_then (c_seq (c_region (wl_p I_ok rfl (wl (st_ld I_ok rfl (hbx.cell rfl) (wl (st_call Tryz.call14 rfl rfl rfl rfl rfl rfl (dkSync w2 hA hok1 (by omega)) fun v9 w9 hr9 => ?_))))))))
      obtain ⟨rfl, G2, hA2, hE9, hGs⟩ := hr9
      have hX2 := hX.trans hE9 fun y hy e => (hG y e).resolve_right (by omega)
      refine wl_p I_ok rfl (wl_nil (f_then (c_ret (f_ret1 rfl rfl ?_))))
      exact ⟨rfl, G2, hA2, hX2, grow_sub hG hXz hGs⟩
end Go.Proofs.YtlfdlodcjiaiiaaGreatDoor
namespace Go.Vc
structure ObjD where
  kind : Int
  text : Str
  leaves : List LeafD
  style : Int
  tree : List UInt8
  base : List UInt8
  parents : List (List UInt8)
  rows : List ChgD
  number : Nat
  author : Nat
  note : Str
  deriving DecidableEq
/-- where an object's lists begin, and how far they reach -/
structure ObjP where
  lp : Option Addr
  lc : Nat
  pp : Option Addr
  pc : Nat
  rp : Option Addr
  rc : Nat
def objC (o : ObjD) (a : ObjP) : List Value :=
  [.int .i64 o.kind, strV o.text, .slice a.lp o.leaves.length a.lc, .int .i64 o.style] ++ (bytesU o.tree ++ (bytesU o.base ++
    [.slice a.pp o.parents.length a.pc, .slice a.rp o.rows.length a.rc, .int .u32 (o.number : Int), .int .u32 (o.author : Int), strV o.note]))
instance (o : ObjD) (a : ObjP) : OneC (objC o a) := by unfold objC; infer_instance
/-- what every object has -/
structure ObjIn (o : ObjD) : Prop where
  tree : o.tree.length = 32
  base : o.base.length = 32
  parents : ∀ r ∈ o.parents, r.length = 32
  leaves : ∀ r ∈ o.leaves, r.path.length ≤ maxLen ∧ r.id.length = 32
  rows : ∀ r ∈ o.rows, r.path.length ≤ maxLen ∧ r.text.length ≤ maxLen
  number : o.number < 2 ^ 32
  author : o.author < 2 ^ 32
theorem objC_len {o : ObjD} {a : ObjP} (h : ObjIn o) : (objC o a).length = 73 := by
  simp only [objC, List.length_append, bytesU_len, h.tree, h.base, List.length_cons, List.length_nil]
/-- an object's lists -/
structure ObjL (w : World) (o : ObjD) (a : ObjP) : Prop where
  leaves : Sl w a.lp o.leaves.length 33 (o.leaves.flatMap LeafD.cells)
  parents : Sl w a.pp o.parents.length 32 (o.parents.flatMap bytesU)
  rows : Sl w a.rp o.rows.length 3 (o.rows.flatMap ChgD.cells)
theorem ObjL.extNo {w w' : World} {o : ObjD} {a : ObjP} (h : ObjL w o a) (hE : Ext No w w') : ObjL w' o a := ⟨h.leaves.extNo hE, h.parents.extNo hE, h.rows.extNo hE⟩
/-- an object's own cells -/
structure ObjAt (w : World) (b off : Nat) (o : ObjD) (a : ObjP) : Prop where
  kind : w.cell? ⟨b, off, none⟩ = some (.int .i64 o.kind)
  text : w.cell? ⟨b, off + 1, none⟩ = some (strV o.text)
  leaves : w.cell? ⟨b, off + 2, none⟩ = some (.slice a.lp o.leaves.length a.lc)
  style : w.cell? ⟨b, off + 3, none⟩ = some (.int .i64 o.style)
  tree : Seg w b (off + 4) (bytesU o.tree)
  base : Seg w b (off + 36) (bytesU o.base)
  parents : w.cell? ⟨b, off + 68, none⟩ = some (.slice a.pp o.parents.length a.pc)
  rows : w.cell? ⟨b, off + 69, none⟩ = some (.slice a.rp o.rows.length a.rc)
  number : w.cell? ⟨b, off + 70, none⟩ = some (.int .u32 (o.number : Int))
  author : w.cell? ⟨b, off + 71, none⟩ = some (.int .u32 (o.author : Int))
  note : w.cell? ⟨b, off + 72, none⟩ = some (strV o.note)
theorem Seg.obj {w : World} {b off : Nat} {o : ObjD} {a : ObjP} (hs : Seg w b off (objC o a)) (h : ObjIn o) : ObjAt w b off o a := by
  unfold objC at hs
  obtain ⟨h1, h2⟩ := Seg.append.1 hs
  obtain ⟨h3, h4⟩ := Seg.append.1 h2
  obtain ⟨h5, h6⟩ := Seg.append.1 h4
  have e1 : off + 4 + (bytesU o.tree).length = off + 36 := by rw [bytesU_len, h.tree]
  have h5 : Seg w b (off + 4 + (bytesU o.tree).length) (bytesU o.base) := h5
  have h6 : Seg w b (off + 4 + (bytesU o.tree).length + (bytesU o.base).length) _ := h6
  rw [e1] at h5 h6
  rw [bytesU_len, h.base] at h6
  exact ⟨h1 0 _ rfl, h1 1 _ rfl, h1 2 _ rfl, h1 3 _ rfl, h3, h5, h6 0 _ rfl, h6 1 _ rfl, h6 2 _ rfl, h6 3 _ rfl, h6 4 _ rfl⟩
theorem ObjAt.extNo {w w' : World} {b off : Nat} {o : ObjD} {a : ObjP} (hs : ObjAt w b off o a) (hE : Ext No w w') : ObjAt w' b off o a := by
  have key : ∀ {k : Nat} {v : Value}, w.cell? ⟨b, k, none⟩ = some v → w'.cell? ⟨b, k, none⟩ = some v := fun {k v} hk => by
    have hS : Seg w b k [v] := fun i u hi => by
      cases i with
      | zero => cases hi; exact hk
      | succ i => cases hi
    exact (hS.extNo hE) 0 v rfl
  exact ⟨key hs.kind, key hs.text, key hs.leaves, key hs.style, hs.tree.extNo hE, hs.base.extNo hE, key hs.parents, key hs.rows, key hs.number, key hs.author, key hs.note⟩
end Go.Vc
namespace Go.Vc
abbrev idZ : List UInt8 := List.replicate 32 0
def objZ : ObjD := ⟨0, [], [], 0, idZ, idZ, [], [], 0, 0, []⟩
theorem objZ_in : ObjIn objZ := ⟨rfl, rfl, fun _ h => absurd h List.not_mem_nil, fun _ h => absurd h List.not_mem_nil, fun _ h => absurd h List.not_mem_nil, by decide, by decide⟩
def StyleIs (o : ObjD) : Prop :=
  o.style = 1 ∧ o.parents.length = 0 ∧ o.base = idZ ∧ o.rows.length = 0 ∧ o.number = 0 ∨
  o.style = 2 ∧ o.parents.length = 1 ∧ o.base = idZ ∧ 0 < o.number ∨
  o.style = 3 ∧ o.parents.length = 2 ∧ o.parents.getD 0 [] ≠ o.parents.getD 1 [] ∧ 0 < o.number
instance (o : ObjD) : Decidable (StyleIs o) := inferInstanceAs (Decidable (_ ∨ _))
def StyleOk (o : ObjD) : Prop := idZ ∉ o.parents ∧ StyleIs o
instance (o : ObjD) : Decidable (StyleOk o) := inferInstanceAs (Decidable (_ ∧ _))
/-- a commit is right by its style -/
def Styled (o : ObjD) : Prop := o.tree ≠ idZ ∧ StyleOk o
instance (o : ObjD) : Decidable (Styled o) := inferInstanceAs (Decidable (_ ∧ _))
/-- nothing of a commit is there -/
def NoCom (o : ObjD) : Prop := o.style = 0 ∧ o.tree = idZ ∧ o.base = idZ ∧ o.parents.length = 0 ∧ o.rows.length = 0 ∧ o.number = 0 ∧ o.author = 0 ∧ o.note = []
instance (o : ObjD) : Decidable (NoCom o) := inferInstanceAs (Decidable (_ ∧ _))
def Leaved (l : List LeafD) : Prop := Rises (l.map LeafD.path) ∧ ∀ x ∈ l, x.id ≠ idZ
instance (l : List LeafD) : Decidable (Leaved l) := inferInstanceAs (Decidable (_ ∧ _))
def BlobOk (o : ObjD) : Prop := o.text.length ≤ 256 ∧ o.leaves.length = 0 ∧ NoCom o
instance (o : ObjD) : Decidable (BlobOk o) := inferInstanceAs (Decidable (_ ∧ _))
def TreeOk (o : ObjD) : Prop := Leaved o.leaves ∧ o.text = [] ∧ NoCom o
instance (o : ObjD) : Decidable (TreeOk o) := inferInstanceAs (Decidable (_ ∧ _))
def ComOk (o : ObjD) : Prop := o.text = [] ∧ o.leaves.length = 0 ∧ o.note.length ≤ 200 ∧ EditOk o.rows ∧ Styled o
instance (o : ObjD) : Decidable (ComOk o) := inferInstanceAs (Decidable (_ ∧ _))
/-- the fields are right -/
def FieldsOk (o : ObjD) : Prop := o.kind = 1 ∧ BlobOk o ∨ o.kind = 2 ∧ TreeOk o ∨ o.kind = 3 ∧ ComOk o
instance (o : ObjD) : Decidable (FieldsOk o) := inferInstanceAs (Decidable (_ ∨ _))
theorem blob_zero {o : ObjD} : BlobOk o ↔ o.text.length ≤ 256 ∧ { o with kind := 0, text := [] } = objZ := by
  obtain ⟨k, t, l, s, tr, ba, p, r, n, a, no⟩ := o
  simp only [BlobOk, NoCom, objZ, ObjD.mk.injEq, List.length_eq_zero_iff, true_and]
theorem tree_zero {o : ObjD} : TreeOk o ↔ Leaved o.leaves ∧ { o with kind := 0, leaves := [] } = objZ := by
  obtain ⟨k, t, l, s, tr, ba, p, r, n, a, no⟩ := o
  simp only [TreeOk, NoCom, objZ, ObjD.mk.injEq, List.length_eq_zero_iff, true_and]

/-! ### Bytes -/
def strB (n : Nat) (s : Str) : List UInt8 := be n s.length ++ s
def isB (b : Bool) : UInt8 := if b then 1 else 0
def leafB (r : LeafD) : List UInt8 := strB 1 r.path ++ r.id
def chgB (r : ChgD) : List UInt8 := strB 1 r.path ++ [isB r.is] ++ strB 2 r.text
def treeB (l : List LeafD) : List UInt8 := be 1 l.length ++ l.flatMap leafB
def comB (o : ObjD) : List UInt8 := be 1 o.style.toNat ++ o.tree ++ be 1 o.parents.length ++ o.parents.flatten ++ o.base ++ be 1 o.rows.length ++ o.rows.flatMap chgB ++ be 4 o.number ++ be 4 o.author ++ strB 1 o.note
def laidB (o : ObjD) : List UInt8 :=
  be 1 o.kind.toNat ++ if o.kind = 1 then strB 2 o.text else if o.kind = 2 then treeB o.leaves else comB o
/-- an object may be -/
def ObjOk (o : ObjD) : Prop := FieldsOk o ∧ (laidB o).length ≤ 800
instance (o : ObjD) : Decidable (ObjOk o) := inferInstanceAs (Decidable (_ ∧ _))
def idOf (o : ObjD) : List UInt8 := sumW (laidB o)
def linksOf (o : ObjD) : List (List UInt8) := if o.kind = 2 then o.leaves.map LeafD.id else if o.kind = 3 then o.tree :: o.parents else []

theorem flat_le {α β : Type} {f : α → List β} {n : Nat} : ∀ {l : List α}, (∀ x ∈ l, (f x).length ≤ n) → (l.flatMap f).length ≤ l.length * n
  | [], _ => by simp
  | x :: r, h => by
    have h1 := h x (by simp)
    have h2 := flat_le (f := f) (n := n) (l := r) fun y hy => h y (by simp [hy])
    rw [List.flatMap_cons, List.length_append, List.length_cons, Nat.succ_mul]
    omega
theorem flatten_len {l : List (List UInt8)} {n : Nat} (h : ∀ x ∈ l, x.length = n) : l.flatten.length = l.length * n := by
  induction l with
  | nil => simp
  | cons x r ih => rw [List.flatten_cons, List.length_append, h x (by simp), ih fun y hy => h y (by simp [hy]), List.length_cons, Nat.succ_mul, Nat.add_comm]
theorem bytesU_flat (l : List (List UInt8)) : l.flatMap bytesU = bytesU l.flatten := by
  induction l with
  | nil => rfl
  | cons x r ih => rw [List.flatMap_cons, ih, List.flatten_cons, bytesU_append]

/-! ### What is taken off bytes -/
structure Ds where
  rest : List UInt8
  bad : Bool
def Ds.off (s : Ds) (n : Nat) : List UInt8 × Ds := if s.bad = true ∨ s.rest.length < n then ([], ⟨s.rest, true⟩) else (s.rest.take n, ⟨s.rest.drop n, false⟩)
def Ds.err (s : Ds) : Int := if s.bad then 7 else 0
def Ds.str (s : Ds) (n : Nat) : Str × Ds := (s.off n).2.off (num (s.off n).1)
/-- an Id: what came of it, zeros behind it -/
def Ds.id (s : Ds) : List UInt8 × Ds := ((s.off 32).1 ++ List.replicate (32 - (s.off 32).1.length) 0, (s.off 32).2)
def Ds.each {α : Type} (f : Ds → α × Ds) : Nat → Ds → List α × Ds
  | 0, s => ([], s)
  | n + 1, s => if s.bad then ([], s) else ((f s).1 :: (Ds.each f n (f s).2).1, (Ds.each f n (f s).2).2)
def Ds.leaf (s : Ds) : LeafD × Ds := (⟨(s.str 1).1, (s.str 1).2.id.1⟩, (s.str 1).2.id.2)
def Ds.chg (s : Ds) : ChgD × Ds :=
  (⟨(s.str 1).1, decide (0 < num ((s.str 1).2.off 1).1), (((s.str 1).2.off 1).2.str 2).1⟩, (((s.str 1).2.off 1).2.str 2).2)
/-- a row of parts, and how many they are -/
def Ds.row {α : Type} (f : Ds → α × Ds) (s : Ds) : List α × Ds := Ds.each f (num (s.off 1).1) (s.off 1).2
def Ds.com (s : Ds) : ObjD × Ds :=
  let a := s.off 1
  let t := a.2.id
  let p := t.2.row Ds.id
  let b := p.2.id
  let r := b.2.row Ds.chg
  let n := r.2.off 4
  let m := n.2.off 4
  let x := m.2.str 1
  (⟨3, [], [], (num a.1 : Nat), t.1, b.1, p.1, r.1, num n.1, num m.1, x.1⟩, x.2)
/-- the object of bytes, and its error -/
def endB (b : List UInt8) (o : ObjD × Ds) : ObjD × Int :=
  if o.2.bad then (objZ, 7) else if ObjOk o.1 ∧ laidB o.1 = b then (o.1, 0) else (objZ, 160)
def decB (b : List UInt8) : ObjD × Int :=
  if b = [] then (objZ, 7)
  else
    let a := (⟨b, false⟩ : Ds).off 1
    if num a.1 = 1 then endB b ({ objZ with kind := 1, text := (a.2.str 2).1 }, (a.2.str 2).2)
    else if num a.1 = 2 then endB b ({ objZ with kind := 2, leaves := (a.2.row Ds.leaf).1 }, (a.2.row Ds.leaf).2)
    else if num a.1 = 3 then endB b a.2.com
    else (objZ, 160)
theorem Ds.off_len (s : Ds) (n : Nat) : (s.off n).1.length ≤ n ∧ (s.off n).2.rest.length ≤ s.rest.length ∧ (s.off n).1.length ≤ s.rest.length := by
  unfold Ds.off
  split <;> simp <;> omega
theorem Ds.id_len (s : Ds) : s.id.1.length = 32 ∧ s.id.2.rest.length ≤ s.rest.length := by
  have := s.off_len 32
  simp only [Ds.id, List.length_append, List.length_replicate]
  omega
theorem Ds.str_len (s : Ds) (n : Nat) : (s.str n).1.length ≤ s.rest.length ∧ (s.str n).2.rest.length ≤ s.rest.length := by
  have h1 := s.off_len n
  have h2 := (s.off n).2.off_len (num (s.off n).1)
  simp only [Ds.str]
  omega
theorem Ds.each_step {α : Type} {f : Ds → α × Ds} {n : Nat} {s : Ds} (h : s.bad = false) : Ds.each f (n + 1) s = ((f s).1 :: (Ds.each f n (f s).2).1, (Ds.each f n (f s).2).2) := by
  rw [Ds.each, h]; rfl
theorem Ds.each_end {α : Type} {f : Ds → α × Ds} {n : Nat} {s : Ds} (h : n = 0 ∨ s.bad = true) : Ds.each f n s = ([], s) := by
  cases n with
  | zero => rfl
  | succ n => rw [Ds.each, if_pos (h.resolve_left (by omega))]
theorem Ds.each_len {α : Type} {f : Ds → α × Ds} : ∀ (n : Nat) (s : Ds), (Ds.each f n s).1.length ≤ n
  | 0, s => by simp [Ds.each]
  | n + 1, s => by
    rw [Ds.each]
    split
    · simp
    · have := Ds.each_len (f := f) n (f s).2
      simp only [List.length_cons]
      omega
end Go.Vc
namespace Go.Vc
theorem Own.blkAt {w : World} {p : Option Addr} {n c T sz : Nat} {xs : List Value} (h : Own w p n c T sz xs) {x : Nat} (hx : OwnB p x) : ∃ l, Blk w x T l := by
  rcases h with ⟨hp, _⟩ | ⟨b, l, hp, hb, _⟩
  · rw [hp] at hx; cases hx
  · rw [hp] at hx
    obtain rfl : b = x := by simpa using hx
    exact ⟨l, hb⟩
theorem Own.neTy {w : World} {p : Option Addr} {n c T sz : Nat} {xs : List Value} (h : Own w p n c T sz xs) {x b U : Nat} {m : List Value} (hx : OwnB p x) (hb : Blk w b U m) (hT : T ≠ U) : x ≠ b := by
  obtain ⟨l, hl⟩ := h.blkAt hx
  exact hl.ne hb hT
theorem Own.extTy {w w' : World} {p : Option Addr} {n c T sz : Nat} {xs : List Value} (h : Own w p n c T sz xs) {b U : Nat} {m : List Value} (hE : Ext (One b) w w') (hb : Blk w b U m) (hT : T ≠ U) : Own w' p n c T sz xs :=
  h.ext hE fun _ hx e => h.neTy hx hb hT e
theorem Blk.extOwn {w w' : World} {p : Option Addr} {n c T sz : Nat} {xs : List Value} {b U : Nat} {m : List Value} (hb : Blk w b U m) (h : Own w p n c T sz xs) (hE : Ext (OwnB p) w w') (hT : T ≠ U) : Blk w' b U m :=
  hb.ext hE fun hx => h.neTy hx hb hT rfl
theorem Sl.lt {w : World} {p : Option Addr} {n sz : Nat} {xs : List Value} (h : Sl w p n sz xs) {b off : Nat} (hp : p = some ⟨b, off, none⟩) (hx : xs ≠ []) : b < w.heap.size := by
  obtain ⟨hl, h0 | ⟨b', off', hp', hs⟩⟩ := h
  · subst h0
    rw [Nat.zero_mul] at hl
    exact absurd (List.eq_nil_of_length_eq_zero hl) hx
  · rw [hp] at hp'
    cases hp'
    exact hs.lt hx
/-- a row that lies below, over what was not there -/
theorem Sl.extLt {S : Nat → Prop} {w w' : World} {p : Option Addr} {n sz : Nat} {xs : List Value} (h : Sl w p n sz xs) (hE : Ext S w w') (hS : ∀ x, x < w.heap.size → ¬ S x) : Sl w' p n sz xs := by
  refine ⟨h.1, ?_⟩
  rcases h.2 with h0 | ⟨b, off, hp, hs⟩
  · exact .inl h0
  · refine .inr ⟨b, off, hp, fun i v hi => ?_⟩
    have hlt : b < w.heap.size := hs.lt fun e => by rw [e] at hi; cases hi
    exact hs.ext hE (hS b hlt) i v hi
theorem Seg.one {w : World} {b off : Nat} {v : Value} (h : w.cell? ⟨b, off, none⟩ = some v) : Seg w b off [v] := fun i u hi => by
  cases i with
  | zero => cases hi; exact h
  | succ i => cases hi
instance {α : Type} (l : List α) (f : α → List Value) [∀ x, OneC (f x)] : OneC (l.flatMap f) := ⟨fun u hu => by
  obtain ⟨r, _, hr⟩ := List.mem_flatMap.1 hu
  exact OneC.h u hr⟩
end Go.Vc
namespace Go.Proofs.YtlfdlodcjiaiiaaGreatDoor
open Go.Vc
theorem lies_calls' (w : World) {p : Option Addr} {c t n : Nat} {L : List Bytes} (hs : Sl w p L.length 64 (L.flatMap bytesU)) (hL : ∀ b ∈ L, b.length = 64) (hc : L.length ≤ c) (hLl : L.length ≤ 100000) (ht : t < 4294967296) (hn : n < 4294967296) (hr : Rt w) :
    CallsV Tryz.prog 56 [.slice p L.length c, .int .u32 (t : Int), .int .u32 (n : Int)] w fun v w' => ∃ q k, v = .tuple #[.slice q ((liesB L t n).getD []).length k, .bool (liesB L t n).isSome] ∧ (∀ b, liesB L t n = some b → PieceNew w w' q k b) ∧ Ext No w w' := by
  refine (lies_calls w hs hL hc hLl ht hn hr).mono ?_
  rintro v w' ⟨h, hE⟩
  cases ho : liesB L t n with
  | none => rw [ho] at h; exact ⟨none, 0, h, (fun b e => by cases e), hE⟩
  | some b => rw [ho] at h; obtain ⟨q, k, h1, h2⟩ := h; exact ⟨q, k, h1, (fun b' e => by cases e; exact h2), hE⟩
theorem noOwnB {w : World} : ∀ y, OwnB none y → w.heap.size ≤ y := fun y h => by cases h
theorem TyB.lt {w : World} {b T : Nat} (h : TyB w b T) : b < w.heap.size := let ⟨_, h⟩ := h; h.lt
theorem flat_rep (n : Nat) : (List.replicate n zeros).flatMap bytesU = rep n (bytesU zeros) := by
  unfold rep
  rw [List.flatMap_def, List.map_replicate]
theorem pad64 {R : List Bytes} (h : ∀ b ∈ R, b.length = 64) {n : Nat} : ∀ b ∈ R ++ List.replicate n zeros, b.length = 64 := fun b hb => (List.mem_append.1 hb).elim (h b) (zeros_64 b)
theorem pad_len {R : List Bytes} {n i : Nat} (hi : i ≤ n) (hR : R.length = i) : (R ++ List.replicate (n - i) zeros).length = n := by simp [hR]; omega
theorem flat_set {R : List Bytes} {n i : Nat} (hi : i < n) (hR : R.length = i) (h64 : ∀ b ∈ R, b.length = 64) {b : Bytes} (hb : b.length = 64) :
    Vc.put ((R ++ List.replicate (n - i) zeros).flatMap bytesU) (i * 64) (bytesU b) = ((R ++ [b]) ++ List.replicate (n - (i + 1)) zeros).flatMap bytesU := by
  have e1 : (R.flatMap bytesU).length = i * 64 := by rw [hsl_len h64, hR]
  have e2 : List.replicate (n - i) zeros = zeros :: List.replicate (n - (i + 1)) zeros := by rw [show n - i = (n - (i + 1)) + 1 from by omega, List.replicate_succ]
  have hz : (bytesU zeros).length = 64 := bytesU_64 zeros_length
  have hbl : (bytesU b).length = 64 := bytesU_64 hb
  rw [e2, List.flatMap_append, List.flatMap_cons, put_eq _ _ _ (by simp only [List.length_append, e1, hz, hbl]; omega), List.take_left' e1, hbl]
  rw [List.drop_append, List.drop_eq_nil_of_le (by omega), e1, List.nil_append, show i * 64 + 64 - i * 64 = 64 from by omega, List.drop_left' hz]
  simp [List.flatMap_append, List.append_assoc]
theorem open_nil (w : World) :
    CallsV Tryz.prog 19 [.pointer none] w fun v w' => v = .tuple #[.pointer none, .int .i64 1] ∧ Ext No w w' := by
  refine calls_enter Tryz.func19 rfl rfl rfl rfl ?_
  have hX := Ext.refl No w
  refine c_seq (c_region (wl_p I_ok rfl (wl_nil (f_then (c_scope (c_seq (c_seq (c_region (wl_p I_ok rfl (wl_nil (f_then (c_condT rfl (c_seq (c_region (wl_p I_ok rfl (wl_nil (f_then (c_ret ?_))))))))))))))))))
  refine f_thenR (f_noGotoR (f_ret [_, _] ⟨rfl, rfl, trivial⟩ ?_))
  exact ⟨rfl, hX⟩

theorem open_calls (w : World) {d m : Nat} {F : Nat → Prop} {D : Dsk} (h : At w d F D) (hok : D.Ok m) (hm : m + 10000 < 1000000000) (hr : Rt w) (hF0 : ¬ F 0) :
    CallsV Tryz.prog 19 [.pointer (some ⟨d, 0, none⟩)] w fun v w' => ∃ (xo : Option Addr) (F' : Nat → Prop), v = .tuple #[.pointer xo, .int .i64 (openW D).2.1] ∧ At w' d F' (openW D).1 ∧ Ext F w w' ∧ (∀ y, F' y → F y ∨ w.heap.size ≤ y) ∧ ((openW D).2.1 ≠ 0 → xo = none) ∧ ((openW D).2.1 = 0 → LogOf w w' d F' xo (Wl.opened (openW D))) := by
  refine calls_enter Tryz.func19 rfl rfl rfl rfl ?_
  have hX := Ext.refl F w
  have hFlt := h.lt
  have hr0 := hr.lt
  have hA := h
  refine c_seq (c_region (wl_p I_ok rfl (wl_nil (f_then (c_scope (c_seq (c_seq (c_region (wl_p I_ok rfl (wl_nil (f_then (c_condF rfl (c_skip (f_then (c_seq (c_region (wl_p I_ok rfl ?_)))))))))))))))))
  refine wl (st_call Tryz.call55 rfl rfl rfl rfl rfl rfl (newest_calls w hA hok (by omega) hr hF0) fun v1 w1 hr1 => ?_)
  obtain ⟨rfl, hA, hE1⟩ := hr1
  have hX := hX.then hE1
  have hr := Rt.ext hr hE1 hF0
  obtain ⟨⟨hok1, hsec, hord⟩, hcase⟩ := newestD_spec hok
  obtain ⟨e, he⟩ : ∃ e, e = (newestD D).2.1 := ⟨_, rfl⟩
  rw [← he] at hcase ⊢
  refine wl_p I_ok rfl (wl (st_al I_ok rfl fun b4 w2 hn4 hb4 hE2 => ?_))
  have fr4 := Nat.le_trans hX.size hn4
  have hA := hA.extNo hE2
  have hr := Rt.ext hr hE2 id
  have hX := hX.thenNo hE2
  have hF4 : ¬ F b4 := fun e => by have := hFlt _ e; omega
  refine wl (st_stW (l' := nwV d (newestD D).2.2) I_ok hb4 rfl rfl (nwV_len _ _) (by rw [nwV_len]; rfl) (nwV_one _ _) fun w3 hb4 hE3 hs3 => ?_)
  have hA := hA.ext hE3 fun x hx e => by have e : x = b4 := e; subst e; exact hF4 hx
  have hr := Rt.ext hr hE3 fun e => by have e : 0 = b4 := e; omega
  have hX := hX.thenNew hE3 fr4
  refine wl_p I_ok rfl (wl_nil (f_then (c_seq (c_seq (c_region (wl_p I_ok rfl (wl_nil (f_then (c_if rfl (fun hc => ?_) (fun hc => ?_))))))))))
  · have hno : (newestD D).2.2 = none := hcase.elim (fun h => h.1) fun ⟨t, n, _, h, _⟩ => absurd h hc
    have ho := openW_no hno
    rw [← he] at ho
    rw [ho]
    refine c_seq (c_region (wl_p I_ok rfl (wl_nil (f_then (c_ret (f_thenR (f_noGotoR (f_ret [_, _] ⟨rfl, rfl, trivial⟩ ?_))))))))
    exact ⟨none, F, rfl, hA, hX, fun y hy => .inl hy, fun _ => rfl, fun e => absurd e hc⟩
  · obtain ⟨t, n, hsome, _, hfit, ht⟩ := hcase.resolve_left fun h => h.2 (Decidable.not_not.1 hc)
    rw [hsome] at hb4 ⊢
    have hb4 : Blk w3 b4 89 [.pointer (some ⟨d, 0, none⟩), .int .i64 (n : Int)] := hb4
    have ho := openW_yes hsome
    rw [ho]
    obtain ⟨D1, hD1⟩ : ∃ D1, D1 = (newestD D).1 := ⟨_, rfl⟩
    rw [← hD1] at hA hok1 hsec hord ⊢
    have hn4 := hfit.1
    have hn1 := hfit.2.1
    have har : areaB t n ≤ 1002 := by unfold areaB; split <;> omega
    dsimp only [nwT]
    refine c_skip (f_then (c_seq (c_region (wl_p I_ok rfl (wl (st_ld I_ok rfl (hb4.cell rfl) ?_))))))
    refine wl (st_mk I_ok rfl n n 64 rfl (zs := bytesU zeros) z29 rfl (by decide) rfl rfl (Nat.le_refl _) (by omega) (by unfold maxLen; omega) fun b26 w4 hn26 hb26 hE4 hs4 => ?_)
    have ne4_26 : b4 ≠ b26 := Nat.ne_of_lt (Nat.lt_of_lt_of_le hb4.lt hn26)
    have fr26 := Nat.le_trans hX.size hn26
    have hb4 := hb4.extNo hE4
    have hA := hA.extNo hE4
    have hr := Rt.ext hr hE4 id
    have hX := hX.thenNo hE4
    have hb26 : Blk w4 b26 37 ((([] : List Bytes) ++ List.replicate (n - 0) zeros).flatMap bytesU) := by (rw [List.nil_append, Nat.sub_zero, flat_rep]; exact hb26)
    have hF26 : ¬ F b26 := fun e => by have := hFlt _ e; omega
    refine wl_p I_ok rfl (wl_nil (f_then (c_seq (c_seq (c_region (wl_p I_ok rfl (wl_nil (f_then (c_block ?_)))))))))
    refine c_loopK (α := Nat × Dsk × List Bytes) [0, 4, 5, 7, 28] rfl (fun z => [(29, .int .i64 (z.1 : Int))]) (fun z u => (z.1 ≤ n ∧ At u d F z.2.1 ∧ z.2.1.Ok (m + 2 + z.1) ∧ z.2.2.length = z.1 ∧ (∀ b ∈ z.2.2, b.length = 64) ∧ readsD D1 (areaB t n) n = ((readsD z.2.1 ((areaB t n : Int) + (z.1 : Nat)) (n - z.1)).1, z.2.2 ++ (readsD z.2.1 ((areaB t n : Int) + (z.1 : Nat)) (n - z.1)).2.1, (readsD z.2.1 ((areaB t n : Int) + (z.1 : Nat)) (n - z.1)).2.2) ∧ Rt u) ∧ Blk u b4 89 ([.pointer (some ⟨d, 0, none⟩), .int .i64 (n : Int)]) ∧ Blk u b26 37 ((z.2.2 ++ List.replicate (n - z.1) zeros).flatMap bytesU) ∧ Ext F w u) (fun z u => n - z.1) (0, D1, []) rfl ⟨⟨Nat.zero_le _, hA, hok1, rfl, (fun b hb => by cases hb), by simp, hr⟩, hb4, hb26, hX⟩ ?_
    rintro ⟨i, Di, R⟩ w5 ⟨⟨hi, hA, hok2, hRl, hR64, hrds, hr⟩, hb4, hb26, hX⟩
    try dsimp only
    dsimp only at hi hA hok2 hRl hR64 hrds
    refine c_seq (c_region (wl_p I_ok rfl (wl_nil (f_then (c_seq (c_if rfl (fun hc => ?_) (fun hc => ?_)))))))
    · have hin : i < n := by omega
      rw [show n - i = (n - (i + 1)) + 1 from by omega, readsD_step] at hrds
      refine c_skip (f_then (c_seq (c_block (c_seq (c_region (wl_p I_ok rfl (wl_nil (f_then (c_seq (c_region (wl_p I_ok rfl (wl (st_ldB I_ok hb4 rfl rfl (wl_p I_ok rfl ?_))))))))))))))
      refine wl (st_call Tryz.call51 rfl rfl rfl rfl rfl rfl (area_calls w5 (.pointer (some ⟨d, 0, none⟩)) n t (by omega) ht rfl) fun v6 w6 hr6 => ?_)
      obtain ⟨rfl, hE6⟩ := hr6
      have hb4 := hb4.extNo hE6
      have hb26 := hb26.extNo hE6
      have hA := hA.extNo hE6
      have hr := Rt.ext hr hE6 id
      have hX := hX.thenNo hE6
      refine wl_p I_ok rfl ?_
      rw [IntWalk.i64_in _ (by omega)]
      refine wl (st_call Tryz.call12 rfl rfl rfl rfl rfl rfl (dkRead w6 hA hok2 (by omega) ((areaB t n : Int) + (i : Nat))) fun v7 w7 hr7 => ?_)
      obtain ⟨rfl, hA, hE7⟩ := hr7
      have hb4 := hb4.ext hE7 hF4
      have hb26 := hb26.ext hE7 hF26
      have hX := hX.then hE7
      have hr := Rt.ext hr hE7 hF0
      obtain ⟨x, hx⟩ : ∃ x, x = Di.read ((areaB t n : Int) + (i : Nat)) := ⟨_, rfl⟩
      have hx64 := read_64 hok2 ((areaB t n : Int) + (i : Nat))
      have hxok := hok2.read ((areaB t n : Int) + (i : Nat))
      rw [← hx] at hrds hx64 hxok hA ⊢
      obtain ⟨D2, B, e2⟩ := x
      dsimp only at hrds hx64 hxok hA ⊢
      refine wl_p I_ok rfl (wl (st_ix I_ok rfl 64 rfl i rfl hin (0 + i * 64) rfl ?_))
      refine wl (st_stN I_ok hb26 rfl (by rw [cellsOf_agg]; exact bytesU_64 hx64) (by rw [hsl_len (pad64 hR64), pad_len (by omega) hRl]; show 0 + i * 64 + 64 ≤ n * 64; omega) (by rw [cellsOf_agg]; exact one_bytes) fun w8 hb26 hE8 hs8 => ?_)
      have hb4 := hb4.ext1 hE8 ne4_26
      have hA := hA.ext hE8 fun x hx e => by have e : x = b26 := e; subst e; exact hF26 hx
      have hr := Rt.ext hr hE8 fun e => by have e : 0 = b26 := e; omega
      have hX := hX.thenNew hE8 fr26
      have hb26 : Blk w8 b26 37 (((R ++ [B]) ++ List.replicate (n - (i + 1)) zeros).flatMap bytesU) := (by rw [← flat_set hin hRl hR64 hx64]; have e := hb26; rw [Nat.zero_add] at e; simpa using e)
      refine wl_p I_ok rfl (wl_nil (f_then (c_seq (c_region (wl_p I_ok rfl (wl_nil (f_then (c_if rfl (fun hc => ?_) (fun hc => ?_)))))))))
      · rw [if_pos hc] at hrds
        have hoe : openAt D1 t n = (D2, e2, 0, 0, []) := by
          unfold openAt
          dsimp only
          rw [hrds, if_pos hc]
        rw [hoe]
        refine c_seq (c_region (wl_p I_ok rfl (wl_nil (f_then (c_ret (f_blockR (f_thenR (f_thenR (f_blockR (f_thenR (f_noGotoR (f_ret [_, _] ⟨rfl, rfl, trivial⟩ ?_))))))))))))
        exact ⟨none, F, rfl, hA, hX, fun y hy => .inl hy, fun _ => rfl, fun e => absurd e hc⟩
      · rw [if_neg hc] at hrds
        refine c_skip (f_blockN (f_then (c_region (wl_p I_ok rfl ?_))))
        rw [IntWalk.i64_in _ (by omega)]
        refine wl_nil ?_
        exact f_round (i + 1, D2, R ++ [B]) rfl ⟨⟨hin, hA, hxok, by simp [hRl], fun b hb => (List.mem_append.1 hb).elim (hR64 b) fun h => by rw [List.mem_singleton.1 h]; exact hx64, by rw [hrds]; dsimp only; rw [show (areaB t n : Int) + ((i + 1 : Nat) : Int) = (areaB t n : Int) + (i : Nat) + 1 from by omega, List.append_assoc]; rfl, hr⟩, hb4, hb26, hX⟩ (by first | omega | (dsimp only; omega))
    · have hin : n = i := by omega
      subst hin
      rw [Nat.sub_self] at hrds hb26
      have hrds : readsD D1 (areaB t n) n = (Di, R, 0) := by rw [hrds]; show (Di, R ++ [], (0 : Int)) = _; rw [List.append_nil]
      rw [List.replicate_zero, List.append_nil] at hb26
      refine c_exit (f_thenE (f_thenE (f_blockE (f_then (c_seq (c_region (wl (st_ldB I_ok hb4 rfl rfl (wl_p I_ok rfl ?_)))))))))
      refine wl (st_bd I_ok rfl ⟨⟨rfl, by decide⟩, ⟨rfl, by decide⟩, trivial⟩ (l' := [.pointer (some ⟨d, 0, none⟩), .int .i64 (n : Int), .int .u32 (t : Int), .slice none 0 0, .int .i64 (0 : Int), .bool false]) rfl ?_)
      refine wl (st_al I_ok rfl fun b52 w9 hn52 hb52 hE9 => ?_)
      have ne4_52 : b4 ≠ b52 := Nat.ne_of_lt (Nat.lt_of_lt_of_le hb4.lt hn52)
      have ne26_52 : b26 ≠ b52 := Nat.ne_of_lt (Nat.lt_of_lt_of_le hb26.lt hn52)
      have fr52 := Nat.le_trans hX.size hn52
      have hb4 := hb4.extNo hE9
      have hb26 := hb26.extNo hE9
      have hA := hA.extNo hE9
      have hr := Rt.ext hr hE9 id
      have hX := hX.thenNo hE9
      have hb52 : Blk w9 b52 98 ([.pointer (some ⟨d, 0, none⟩), .int .i64 (n : Int), .int .u32 (t : Int), .slice none ([] : List Bytes).length 0, .int .i64 (usedB [] : Int), .bool false]) := hb52
      have hF52 : ¬ F b52 := fun e => by have := hFlt _ e; omega
      have h52w := hn52
      have hX14 := hX.size
      refine wl_p I_ok rfl (wl_nil (f_then (c_seq (c_label (f_then (c_seq (c_block ?_)))))))
      refine c_loopK (α := List Bytes × Option Addr × Nat × List Value) [5, 7, 9] rfl (fun z => []) (fun z u => (usedB z.1 ≤ n ∧ z.1.length ≤ usedB z.1 ∧ (∀ b ∈ z.1, b.length ≤ 40000) ∧ lyingB R t = z.1 ++ lyGo t (R.length - z.1.length) (R.drop (usedB z.1)) z.1.length ∧ At u d F Di ∧ Rt u ∧ Own u z.2.1 z.1.length z.2.2.1 56 1 z.2.2.2 ∧ (∀ y, OwnB z.2.1 y → w.heap.size ≤ y) ∧ PiecesAt u (fun y => w.heap.size ≤ y ∧ y < u.heap.size) z.1 z.2.2.2) ∧ Blk u b4 89 ([.pointer (some ⟨d, 0, none⟩), .int .i64 (n : Int)]) ∧ Blk u b26 37 (R.flatMap bytesU) ∧ Blk u b52 98 ([.pointer (some ⟨d, 0, none⟩), .int .i64 (n : Int), .int .u32 (t : Int), .slice z.2.1 z.1.length z.2.2.1, .int .i64 (usedB z.1 : Int), .bool false]) ∧ Ext F w u) (fun z u => n - usedB z.1) ([], none, 0, []) rfl ⟨⟨Nat.zero_le _, Nat.le_refl _, (fun b hb => by cases hb), rfl, hA, hr, Own.nil _ _ _, noOwnB, ⟨rfl, fun i b v h => by cases h⟩⟩, hb4, hb26, hb52, hX⟩ ?_
      rintro ⟨ps, q, cq, rows⟩ w10 ⟨⟨hus, hpl, hsh, hly, hA, hr, hrw, hqn, hps⟩, hb4, hb26, hb52, hX⟩
      try dsimp only
      dsimp only at hus hpl hsh hly hrw hqn hps hb52
      have hdl : (R.drop (usedB ps)).length = n - usedB ps := by rw [List.length_drop, hRl]
      have hd64 : ∀ b ∈ R.drop (usedB ps), b.length = 64 := fun b hb => hR64 b (List.mem_of_mem_drop hb)
      rw [lyGo_step t _ _ _ hd64 (by rw [hdl, hRl]; omega)] at hly
      refine c_block (c_seq ?_)
      refine c_draw rfl 19 [(0, true), (1, true), (2, true), (3, true), (4, true), (5, true), (6, true), (7, true), (8, true), (9, true), (10, true), (11, true), (12, true), (13, false), (14, true), (15, true), (16, true), (17, true), (18, true)] [] (No) (by kernel_rfl) fun w11 hE11 hs11 => ?_
      have hd4 := hb4
      have hd26 := hb26
      have hd52 := hb52
      have hAd := hA
      have hrd := hr
      have hpsd := hps
      have hrwd := hrw
      have hXd := hX
      have hb4 := hb4.extNo hE11
      have hb26 := hb26.extNo hE11
      have hb52 := hb52.extNo hE11
      have hA := hA.extNo hE11
      have hr := Rt.ext hr hE11 id
      have hps := PiecesAt.mono (H' := fun y => w.heap.size ≤ y ∧ y < w11.heap.size) (hps.ext hE11 fun _ _ _ => id) fun y hy => And.intro hy.1 (Nat.lt_of_lt_of_le hy.2 hE11.size)
      have hrw := hrw.ext hE11 fun _ _ => id
      have hX := hX.thenNo hE11
      have hC : Ext (No) _ w11 := hE11.no
      refine wd_k I_ok 4 rfl (wd_ld I_ok rfl rfl (fun w' hw' => ((hd52.extNo hw').cell rfl)) ?_)
      refine wd_sl I_ok rfl rfl (usedB ps) n n 64 rfl (.inr ⟨rfl, rfl⟩) (.inr ⟨rfl, rfl⟩) (.inl rfl) hus (Nat.le_refl _) (Nat.le_refl _) ?_
      dsimp only
      rw [← hdl]
      refine wd_k I_ok 4 rfl (wd_ld I_ok rfl rfl (fun w' hw' => ((hd52.extNo hw').cell rfl)) ?_)
      refine wd_k I_ok 2 rfl ?_
      rw [wrap32 ps.length (by omega)]
      have hsd : Sl w11 (slBase (some ⟨b26, 0, none⟩) (usedB ps) n 64) (R.drop (usedB ps)).length 64 ((R.drop (usedB ps)).flatMap bytesU) := by
        have hs0 : Sl w11 (some ⟨b26, 0, none⟩) n 64 (R.flatMap bytesU) := ⟨by rw [hsl_len hR64, hRl], .inr ⟨b26, 0, rfl, hb26.seg⟩⟩
        have e := hs0.slice (usedB ps) n n hus (Nat.le_refl _) (Nat.le_refl _)
        rw [flat_drop64 _ _ hR64, List.take_of_length_le (by rw [hsl_len hd64, hdl]; exact Nat.le_refl _), ← hdl] at e
        exact e
      have hXl := hX.size
      refine wd_l rfl (st_call Tryz.call56 rfl rfl rfl rfl rfl rfl (lies_calls' w11 (c := (R.drop (usedB ps)).length) hsd hd64 (Nat.le_refl _) (by omega) ht (n := ps.length) (by omega) hr) fun v12 w12 hr12 => ⟨(by obtain ⟨qp, kp, rfl, hpn, hE12⟩ := hr12; exact hC.thenNo hE12), ?_⟩)
      obtain ⟨qp, kp, rfl, hpn, hE12⟩ := hr12
      have hb4 := hb4.extNo hE12
      have hb26 := hb26.extNo hE12
      have hb52 := hb52.extNo hE12
      have hA := hA.extNo hE12
      have hr := Rt.ext hr hE12 id
      have hps := PiecesAt.mono (H' := fun y => w.heap.size ≤ y ∧ y < w12.heap.size) (hps.ext hE12 fun _ _ _ => id) fun y hy => And.intro hy.1 (Nat.lt_of_lt_of_le hy.2 hE12.size)
      have hrw := hrw.ext hE12 fun _ _ => id
      have hX := hX.thenNo hE12
      have hC := hC.thenNo hE12
      refine wd_k I_ok 5 rfl (wd_sw (wb_nil (f_then (c_seq (c_seq (c_region (wl_p I_ok rfl (wl_nil (f_then (c_cond rfl (fun hc => ?_) (fun hc => ?_)))))))))))
      · have hlb : liesB (R.drop (usedB ps)) t ps.length = none := by
          cases hl : liesB (R.drop (usedB ps)) t ps.length with
          | none => rfl
          | some b => rw [hl] at hc; cases hc
        rw [hlb, List.append_nil] at hly
        refine c_exit (f_thenE (f_blockE' rfl (f_thenE (f_blockE (f_then (c_seq (c_seq (c_region (wl_p I_ok rfl (wl (st_ld I_ok rfl (hb52.cell rfl) (wl_p I_ok rfl (wl_nil (f_then (c_if rfl (fun hc => ?_) (fun hc => ?_))))))))))))))))
        · have hp0 : ps = [] := List.eq_nil_of_length_eq_zero (by omega)
          have hoe : openAt D1 t n = (Di, 140, 0, 0, []) := by
            unfold openAt
            dsimp only
            rw [hrds, if_neg (by simp), hly, if_pos hp0]
          rw [hoe]
          refine c_seq (c_region (wl_p I_ok rfl (wl_nil (f_then (c_ret (f_thenR (f_noGotoR (f_ret [_, _] ⟨rfl, rfl, trivial⟩ ?_))))))))
          exact ⟨none, F, rfl, hA, hX, fun y hy => .inl hy, fun _ => rfl, fun e => absurd (show (140 : Int) = 0 from e) (by decide)⟩
        · have hp0 : ps ≠ [] := fun e => hc (by rw [e]; rfl)
          obtain ⟨C, hC⟩ : ∃ C, C = cleanD Di ((areaB t n + usedB ps : Nat) : Int) (R.drop (usedB ps)) := ⟨_, rfl⟩
          have hoe : openAt D1 t n = (C.1, C.2, t, n, ps) := by
            unfold openAt
            dsimp only
            rw [hrds, if_neg (by simp), hly, if_neg hp0, hC]
          rw [hoe]
          have hlog : LogAt w12 b52 d (fun y => w.heap.size ≤ y ∧ y < w12.heap.size) ⟨Di, n, t, ps, usedB ps, false⟩ := ⟨⟨q, cq, rows, hb52, hrw, hps, fun y hy => ⟨hqn y hy, hrw.lt hy⟩⟩, ⟨fr52, hb52.lt⟩, fun y hy => hy.2⟩
          have hs26 : Sl w12 (some ⟨b26, 0, none⟩) R.length 64 (R.flatMap bytesU) := ⟨hsl_len hR64, .inr ⟨b26, 0, rfl, hb26.seg⟩⟩
          have hwc := hX.size
          refine c_skip (f_then (c_seq (c_seq (c_region (wl_p I_ok rfl ?_)))))
          rw [show Value.slice (some ⟨b26, 0, none⟩) n n = .slice (some ⟨b26, 0, none⟩) R.length n from by rw [hRl]]
          refine wl (st_call Tryz.call57 rfl rfl rfl rfl rfl rfl (clean_calls w12 (c := n) hlog hA hok2 (by rw [hRl]; omega) hs26 hR64 (by omega) (by dsimp only; omega) (by omega) (by dsimp only; omega) ht (fun y hy e => by have := hFlt y e; have := hy.1; omega) (fun y off e _ h => by cases e; exact hF26 h)) fun v13 w13 hr13 => ?_)
          obtain ⟨rfl, F2, hA2, hE13, hF2⟩ := hr13
          rw [← hC] at hA2 ⊢
          have hX := hX.then hE13
          have hlog2 := hlog.ext hE13 fun y hy e => by have := hFlt y e; have := hy.1; omega
          have hF3 := grow_sub (fun y => .inl) hwc hF2
          refine wl_p I_ok rfl (wl_nil (f_then (c_seq (c_region (wl_p I_ok rfl (wl_nil (f_then (c_if rfl (fun hc => ?_) (fun hc => ?_)))))))))
          · refine c_seq ?_
            refine c_region (wl_p I_ok rfl (wl_nil (f_then (c_ret (f_thenR (f_noGotoR (f_ret [_, _] ⟨rfl, rfl, trivial⟩ ?_)))))))
            exact ⟨none, F2, rfl, hA2, hX, hF3, fun _ => rfl, fun e => absurd e hc⟩
          · refine c_skip ?_
            refine f_then (c_seq (c_region (wl_p I_ok rfl (wl_nil (f_then (c_ret (f_noGotoR (f_ret [_, _] ⟨rfl, rfl, trivial⟩ ?_))))))))
            have hc0 : C.2 = 0 := Decidable.not_not.1 hc
            refine ⟨some ⟨b52, 0, none⟩, F2, by dsimp only; rw [hc0]; rfl, hA2, hX, hF3, fun e => absurd hc0 e, fun _ => ⟨b52, _, rfl, hlog2.data rfl rfl rfl rfl rfl, fun y hy => ⟨hy.1, fun e => ?_⟩⟩⟩
            rcases hF2 y e with e | e
            · have := hFlt y e; have := hy.1; omega
            · have := hy.2; omega
      · obtain ⟨b, hlb⟩ : ∃ b, liesB (R.drop (usedB ps)) t ps.length = some b := by
          cases hl : liesB (R.drop (usedB ps)) t ps.length with
          | none => rw [hl] at hc; cases hc
          | some b => exact ⟨b, rfl⟩
        rw [hlb] at hly hpn ⊢
        obtain ⟨hb40, hbs, _⟩ := liesB_some hd64 hlb
        have hbp := sectN_pos hb40
        obtain ⟨hpk, hps1, hps2⟩ := hpn b rfl
        have hpc : PieceAt w12 (fun y => w.heap.size ≤ y ∧ y < w12.heap.size) (.slice qp b.length kp) b := ⟨qp, kp, rfl, hpk, hps1, fun y off e => ⟨⟨by have := (hps2 y off e).1; omega, (hps2 y off e).2.lt⟩, (hps2 y off e).2⟩⟩
        dsimp only [Option.getD_some]
        have hps := hps.snoc hpc
        refine c_skip (f_then (c_seq (c_region (wl_p I_ok rfl (wl (st_ld I_ok rfl (hb52.cell rfl) (wl_p I_ok rfl ?_)))))))
        have hrwl := fun y (hy : OwnB q y) => hrw.lt hy
        refine wl (st_bs I_ok rfl 1 rfl rfl rfl (by decide) (by decide) (by simp [partsOk]) (l' := [.slice qp b.length kp]) rfl fun b78 w14 hn78 hb78 hE14 hs14 => ?_)
        have ne4_78 : b4 ≠ b78 := Nat.ne_of_lt (Nat.lt_of_lt_of_le hb4.lt hn78)
        have ne26_78 : b26 ≠ b78 := Nat.ne_of_lt (Nat.lt_of_lt_of_le hb26.lt hn78)
        have ne52_78 : b52 ≠ b78 := Nat.ne_of_lt (Nat.lt_of_lt_of_le hb52.lt hn78)
        have fr78 := Nat.le_trans hX.size hn78
        have hb4 := hb4.extNo hE14
        have hb26 := hb26.extNo hE14
        have hb52 := hb52.extNo hE14
        have hA := hA.extNo hE14
        have hr := Rt.ext hr hE14 id
        have hps := PiecesAt.mono (H' := fun y => w.heap.size ≤ y ∧ y < w14.heap.size) (hps.ext hE14 fun _ _ _ => id) fun y hy => And.intro hy.1 (Nat.lt_of_lt_of_le hy.2 hE14.size)
        have hrw := hrw.ext hE14 fun _ _ => id
        have hX := hX.thenNo hE14
        have hXq := hX.size
        refine wl (st_app I_ok rfl 1 24 rfl rfl rfl (by decide) hrw (Src.slice (m := 1) ⟨rfl, .inr ⟨b78, 0, rfl, hb78.seg⟩⟩ OneC.h) (by dsimp only [maxLen]; omega) (by dsimp only; omega) fun p15 c15 w15 ho15 hE15 hB15 => ?_)
        have hb4 := hb4.ext hE15 fun e => (Own.ty hrw e).ne hb4 (by decide) rfl
        have hb26 := hb26.ext hE15 fun e => (Own.ty hrw e).ne hb26 (by decide) rfl
        have hb52 := hb52.ext hE15 fun e => (Own.ty hrw e).ne hb52 (by decide) rfl
        have hb78 := hb78.ext hE15 fun e => by have := hrwl _ e; omega
        have hX := hX.trans hE15 fun y hy e => by have := hqn y e; omega
        have hA := hA.ext hE15 fun y hy e => by have := hqn y e; have := hFlt y hy; omega
        have hr := Rt.ext hr hE15 fun e => by have := hqn _ e; omega
        have hps := PiecesAt.mono (H' := fun y => w.heap.size ≤ y ∧ y < w15.heap.size) (hps.ext hE15 fun y hy ht h => by obtain ⟨l, hl⟩ := Own.ty hrw h; exact ht.ne hl (by decide) rfl) fun y hy => And.intro hy.1 (Nat.lt_of_lt_of_le hy.2 hE15.size)
        have hqn2 : ∀ y, OwnB p15 y → w.heap.size ≤ y := fun y hy => (hB15 y hy).elim (hqn y) fun e => by omega
        have hrw : Own w15 p15 (ps ++ [b]).length c15 56 1 (rows ++ [.slice qp b.length kp]) := by rw [List.length_append]; exact ho15
        dsimp only
        refine wl_p I_ok rfl ?_
        have hb52o := hb52
        obtain ⟨pn, hpn0⟩ : ∃ pn, pn = p15 := ⟨_, rfl⟩
        obtain ⟨cn, hcn0⟩ : ∃ cn, cn = c15 := ⟨_, rfl⟩
        rw [← hpn0] at hrw hqn2 ⊢
        rw [← hcn0] at hrw ⊢
        refine wl (st_st I_ok hb52 rfl rfl rfl fun w16 hb52 hE16 hs16 => ?_)
        have hb4 := hb4.ext1 hE16 ne4_52
        have hb26 := hb26.ext1 hE16 ne26_52
        have hb78 := hb78.ext1 hE16 ne52_78.symm
        have hA := hA.ext hE16 fun x hx e => by have e : x = b52 := e; subst e; exact hF52 hx
        have hr := Rt.ext hr hE16 fun e => by have e : 0 = b52 := e; omega
        have hps := PiecesAt.mono (H' := fun y => w.heap.size ≤ y ∧ y < w16.heap.size) (hps.ext hE16 fun y hy ht h => by have h : y = b52 := h; subst h; exact ht.ne hb52o (by decide) rfl) fun y hy => And.intro hy.1 (Nat.lt_of_lt_of_le hy.2 hE16.size)
        have hrw := hrw.extTy hE16 hb52o (by decide)
        have hX := hX.thenNew hE16 fr52
        have hb52 : Blk w16 b52 98 ([.pointer (some ⟨d, 0, none⟩), .int .i64 (n : Int), .int .u32 (t : Int), .slice pn (ps ++ [b]).length cn, .int .i64 (usedB ps : Int), .bool false]) := by (rw [List.length_append]; exact hb52)
        refine wl_nil (f_then (c_draw rfl 10 [(0, true), (1, true), (2, true), (3, true), (4, true), (5, true), (6, false), (7, true), (8, true), (9, true)] [10] (No) (by kernel_rfl) fun w17 hE17 hs17 => ?_))
        have hd4 := hb4
        have hd26 := hb26
        have hd52 := hb52
        have hd78 := hb78
        have hAd := hA
        have hrd := hr
        have hpsd := hps
        have hrwd := hrw
        have hXd := hX
        have hb4 := hb4.extNo hE17
        have hb26 := hb26.extNo hE17
        have hb52 := hb52.extNo hE17
        have hb78 := hb78.extNo hE17
        have hA := hA.extNo hE17
        have hr := Rt.ext hr hE17 id
        have hps := PiecesAt.mono (H' := fun y => w.heap.size ≤ y ∧ y < w17.heap.size) (hps.ext hE17 fun _ _ _ => id) fun y hy => And.intro hy.1 (Nat.lt_of_lt_of_le hy.2 hE17.size)
        have hrw := hrw.ext hE17 fun _ _ => id
        have hX := hX.thenNo hE17
        have hC : Ext (No) _ w17 := hE17.no
        refine wd_k I_ok 3 rfl (wd_ld I_ok rfl rfl (fun w' hw' => ((hd52.ext hw' id).cell rfl)) ?_)
        refine wd_k I_ok 2 rfl (wd_l rfl (st_call Tryz.call22 rfl rfl rfl rfl rfl rfl (sectors_calls w17 (b.length : Int)) fun v18 w18 hr18 => ⟨(by obtain ⟨rfl, hE18⟩ := hr18; exact hC.thenNo hE18), ?_⟩))
        obtain ⟨rfl, hE18⟩ := hr18
        have hb4 := hb4.extNo hE18
        have hb26 := hb26.extNo hE18
        have hb52 := hb52.extNo hE18
        have hb78 := hb78.extNo hE18
        have hA := hA.extNo hE18
        have hr := Rt.ext hr hE18 id
        have hps := PiecesAt.mono (H' := fun y => w.heap.size ≤ y ∧ y < w18.heap.size) (hps.ext hE18 fun _ _ _ => id) fun y hy => And.intro hy.1 (Nat.lt_of_lt_of_le hy.2 hE18.size)
        have hrw := hrw.ext hE18 fun _ _ => id
        have hX := hX.thenNo hE18
        have hC := hC.thenNo hE18
        rw [sectZ_nat]
        refine wd_k I_ok 1 rfl ?_
        rw [show IntKind.i64.wrap ((usedB ps : Int) + (sectN b.length : Int)) = (usedB (ps ++ [b]) : Int) from by rw [IntWalk.i64_in _ (by omega), usedB_snoc]; omega]
        refine wd_k I_ok 2 rfl (wd_sw ?_)
        have hb52o := hb52
        refine wb rfl (st_st I_ok hb52 rfl rfl rfl fun w19 hb52 hE19 hs19 => ?_)
        have hb4 := hb4.ext1 hE19 ne4_52
        have hb26 := hb26.ext1 hE19 ne26_52
        have hb78 := hb78.ext1 hE19 ne52_78.symm
        have hA := hA.ext hE19 fun x hx e => by have e : x = b52 := e; subst e; exact hF52 hx
        have hr := Rt.ext hr hE19 fun e => by have e : 0 = b52 := e; omega
        have hps := PiecesAt.mono (H' := fun y => w.heap.size ≤ y ∧ y < w19.heap.size) (hps.ext hE19 fun y hy ht h => by have h : y = b52 := h; subst h; exact ht.ne hb52o (by decide) rfl) fun y hy => And.intro hy.1 (Nat.lt_of_lt_of_le hy.2 hE19.size)
        have hrw := hrw.extTy hE19 hb52o (by decide)
        have hX := hX.thenNew hE19 fr52
        have hb52 : Blk w19 b52 98 ([.pointer (some ⟨d, 0, none⟩), .int .i64 (n : Int), .int .u32 (t : Int), .slice pn (ps ++ [b]).length cn, .int .i64 (usedB (ps ++ [b]) : Int), .bool false]) := hb52
        refine wb_nil ?_
        exact f_blockN (f_round (ps ++ [b], pn, cn, rows ++ [.slice qp b.length kp]) rfl ⟨⟨by dsimp only; rw [usedB_snoc]; omega, by dsimp only; rw [usedB_snoc, List.length_append]; simp only [List.length_cons, List.length_nil]; omega, fun x hx => (List.mem_append.1 hx).elim (hsh x) fun h => by rw [List.mem_singleton.1 h]; exact hb40, by dsimp only; rw [hly]; dsimp only; rw [usedB_snoc, List.length_append, List.drop_drop, List.append_assoc, Nat.sub_sub]; rfl, hA, hr, hrw, hqn2, hps⟩, hb4, hb26, hb52, hX⟩ (by dsimp only; rw [usedB_snoc]; omega))
end Go.Proofs.YtlfdlodcjiaiiaaGreatDoor
namespace Go.Proofs.YtlfdlodcjiaiiaaGreatDoor
open Go.Vc
theorem does1_calls (w : World) {bx be x : Nat} {e : Int} {a0 a1 a2 a3 a4 : Value} {b0 : Bool} (hbx : Blk w bx 43 [.pointer (some ⟨x, 0, none⟩)]) (hbe : Blk w be 40 [.int .i64 e]) (hb : Blk w x 98 [a0, a1, a2, a3, a4, .bool b0]) :
    CallsDIn Fence.wide 8 Tryz.prog 85 #[.pointer (some ⟨be, 0, none⟩), .pointer (some ⟨bx, 0, none⟩)] .returning w fun e' u' w' => u' = .returning ∧ Rv (fun _ w' => Blk w' x 98 [a0, a1, a2, a3, a4, .bool (decide (e ≠ 0))] ∧ Ext (One x) w w') e' w' := by
  refine callsD_enter Tryz.func85 rfl rfl rfl rfl ?_
  have hX := Ext.refl (One x) w
  refine c_region (wl (st_ld I_ok rfl (hbx.cell rfl) (wl (st_ld I_ok rfl (hbe.cell rfl) (wl_p I_ok rfl (wl (st_set I_ok hb rfl rfl (Nat.lt_of_lt_of_eq (by decide : 0 + (4 + 1) < 6) rfl) fun w1 hb hE1 hs1 => ?_)))))))
  have hX := hX.trans hE1 fun y hy h => h
  refine wl_nil (f_end0 rfl ?_)
  exact ⟨hb, hX⟩
abbrev wlBlk (u : World) (x d : Nat) (W : Wl) (q : Option Addr) (c : Nat) : Prop := Blk u x 98 [.pointer (some ⟨d, 0, none⟩), .int .i64 (W.size : Int), .int .u32 (W.turn : Int), .slice q W.pieces.length c, .int .i64 (W.used : Int), .bool W.broken]
theorem does_calls (w : World) {x d gf : Nat} {H F : Nat → Prop} {W : Wl} {cap : Array Value} {e : Int} {D' : Dsk} (h : LogAt w x d H W) (hFlt : ∀ y, F y → y < w.heap.size) (hHF : ∀ y, H y → ¬ F y)
    (hcf : ∀ args w, (callFunc gf args).run Tryz.prog w = .ok (.enter gf args) w) (hwhat : ∀ w1, Ext No w w1 → CallsV Tryz.prog gf cap.toList w1 fun v w2 => v = .int .i64 e ∧ DkQ w1 d F D' w2) :
    CallsV Tryz.prog 49 [.pointer (some ⟨x, 0, none⟩), .func (.func gf) #[] cap] w fun v w' => v = .int .i64 e ∧ ∃ F', At w' d F' D' ∧ (∀ y, F' y → F y ∨ w.heap.size ≤ y) ∧ LogAt w' x d H { W with broken := decide (e ≠ 0) } ∧ (∀ y, H y → ¬ F' y) ∧ Ext (fun y => F y ∨ y = x) w w' := by
  refine calls_enterM Tryz.func49 rfl rfl rfl rfl ?_
  have hX := Ext.refl (fun y => F y ∨ y = x) w
  have hN0 := Ext.refl No w
  refine c_seq (c_region (wl (st_al I_ok rfl fun b2 w1 hn2 hb2 hE1 => ?_)))
  have fr2 := Nat.le_trans hX.size hn2
  have hN0 := hN0.thenNo hE1
  have hX := hX.thenNo hE1
  refine wl (st_al I_ok rfl fun b4 w2 hn4 hb4 hE2 => ?_)
  have ne2_4 : b2 ≠ b4 := Nat.ne_of_lt (Nat.lt_of_lt_of_le hb2.lt hn4)
  have fr4 := Nat.le_trans hX.size hn4
  have hb2 := hb2.extNo hE2
  have hN0 := hN0.thenNo hE2
  have hX := hX.thenNo hE2
  refine wl_nil (f_then (c_seq (c_region (wl_p I_ok rfl (wl_defer rfl rfl rfl rfl (wl_nil (f_then (c_seq (c_region (wl_p I_ok rfl ?_))))))))))
  have hF2 : ¬ F b2 := fun e => by have := hFlt _ e; omega
  have hF4 : ¬ F b4 := fun e => by have := hFlt _ e; omega
  have hX2 := hX.size
  have hb4o := hb4
  refine wl (st_call hcf rfl rfl rfl rfl rfl rfl (hwhat w2 hN0) fun v3 w3 hr3 => ?_)
  obtain ⟨rfl, F2, hA2, hE3, hFs⟩ := hr3
  have hb2 := hb2.ext hE3 hF2
  have hb4 := hb4.ext hE3 hF4
  have hX := hX.then (hE3.mono fun y _ e => .inl e)
  have hlog := (h.extNo hN0).ext hE3 hHF
  have hF24 : ¬ F2 b4 := own_out hF4 hb4o.lt hFs
  refine wl (st_st I_ok hb4 rfl rfl rfl fun w4 hb4 hE4 hs4 => ?_)
  have hb2 := hb2.ext1 hE4 ne2_4
  have hlog := hlog.ext hE4 fun y hy e => by have e : y = b4 := e; have := h.lt y hy; omega
  have hA2 := hA2.ext hE4 fun y hy e => by have e : y = b4 := e; subst e; exact hF24 hy
  have hX := hX.thenNew hE4 fr4
  refine wl_nil (f_then (c_ret ?_))
  obtain ⟨⟨q, cq, rows, hbl, hrw, hps, hqH⟩, hxH, hlt⟩ := hlog
  refine f_retD [.int .i64 e] Tryz.call85 (does1_calls w4 hb2 hb4 (a0 := .pointer (some ⟨d, 0, none⟩)) hbl) (fun v w5 hq => ?_)
  obtain ⟨hbl2, hE9⟩ := hq
  have hx2 : ¬ F2 x := fun e => (hFs x e).elim (hHF x hxH) fun e => by have := hlt x hxH; have := h.lt x hxH; omega
  have hb4' := hb4.ext hE9 fun e => by have e : b4 = x := e; have := h.lt x hxH; omega
  refine ⟨⟨⟨b4, 0, rfl, ld_one I_ok rfl rfl (hb4'.cell rfl)⟩, trivial⟩, rfl, F2, hA2.ext hE9 fun y hy e => by have e : y = x := e; subst e; exact hx2 hy, fun y hy => (hFs y hy).imp id (by omega), ⟨⟨q, cq, rows, hbl2, ?_, ?_, hqH⟩, hxH, fun y hy => Nat.lt_of_lt_of_le (hlt y hy) hE9.size⟩, fun y hy e => (hFs y e).elim (hHF y hy) fun e => by have := h.lt y hy; omega, hX.then (hE9.mono fun y _ e => .inr e)⟩
  · exact hrw.ext hE9 fun y hy e => by have e : y = x := e; subst e; obtain ⟨l, hl⟩ := Own.ty hrw hy; exact absurd rfl (hl.ne hbl (by decide))
  · exact hps.ext hE9 fun y _ ht e => by have e : y = x := e; subst e; exact absurd rfl (ht.ne hbl (by decide))

theorem app1_calls (w : World) {bx bb x d m c : Nat} {H F : Nat → Prop} {W : Wl} {p : Option Addr} {b : Bytes} (hbx : Blk w bx 43 [.pointer (some ⟨x, 0, none⟩)]) (hbb : Blk w bb 56 [.slice p b.length c]) (h : LogAt w x d H W) (hA : At w d F W.D) (hok : W.D.Ok m) (hm : m + 2000 < 1000000000) (hW : Wl.Ok W) (hs : SlB w p b) (hbl : b.length ≤ 40000) (hr : Rt w) (hF0 : ¬ F 0) (hF1 : ¬ F bx) (hF2 : ¬ F bb) (hHF : ∀ y, H y → ¬ F y) :
    CallsV Tryz.prog 50 [.pointer (some ⟨bx, 0, none⟩), .pointer (some ⟨bb, 0, none⟩)] w fun v w' => v = .int .i64 (layD W.D ((areaB W.turn W.size + W.used : Nat) : Int) (pieceB W.turn W.pieces.length b)).2 ∧ DkQ w d F (layD W.D ((areaB W.turn W.size + W.used : Nat) : Int) (pieceB W.turn W.pieces.length b)).1 w' := by
  refine calls_enter Tryz.func50 rfl rfl rfl rfl ?_
  have hX := Ext.refl F w
  have hsl := sectN_le b.length
  have hr0 := hr.lt
  have hFlt := hA.lt
  obtain ⟨hz1, hz2⟩ := hW.size
  have hz3 := hW.few
  have hz4 := hW.room
  have hz5 := hW.turn
  have har : areaB W.turn W.size ≤ 2 + W.size := by unfold areaB; split <;> omega
  obtain ⟨⟨q, cq, rows, hbk, hrw, hps, hqH⟩, hxH, hlt⟩ := h
  have hFx := hHF x hxH
  have hlb := hbk
  have hq1 := hbx
  have hq2 := hbb
  have hat := hA
  have hsb := hs
  have hrt := hr
  refine c_seq (c_region (wl_p I_ok rfl (wl_nil (f_then (c_seq ?_)))))
  refine c_draw rfl 32 [(0, true), (1, true), (2, true), (3, true), (4, true), (5, true), (6, true), (7, true), (8, true), (9, true), (10, true), (11, true), (13, true), (14, true), (15, true), (16, true), (18, true), (19, true), (20, true), (21, true), (22, true), (23, true), (24, true), (25, true), (26, true), (27, true), (28, true), (12, false), (17, true), (29, false), (30, false), (31, true)] [] (F) (by kernel_rfl) fun w1 hE1 hs1 => ?_
  have hlbd := hlb
  have hq1d := hq1
  have hq2d := hq2
  have hatd := hat
  have hsbd := hsb
  have hrtd := hrt
  have hXd := hX
  have hlb := hlb.extNo hE1
  have hq1 := hq1.extNo hE1
  have hq2 := hq2.extNo hE1
  have hat := hat.extNo hE1
  have hsb := hsb.extNo hE1
  have hrt := Rt.ext hrt hE1 id
  have hX := hX.thenNo hE1
  have hC : Ext (F) _ w1 := hE1.no
  refine wd_ld I_ok rfl rfl (fun w' hw' => ((hq1d.ext hw' hF1).cell rfl)) ?_
  refine wd_k I_ok 2 rfl (wd_ldN I_ok rfl rfl (fun w' hw' => ((hlbd.ext hw' hFx).seg.take 2)) rfl ?_)
  refine wd_ld I_ok rfl rfl (fun w' hw' => ((hq1d.ext hw' hF1).cell rfl)) ?_
  refine wd_k I_ok 2 rfl (wd_ldN I_ok rfl rfl (fun w' hw' => ((hlbd.ext hw' hFx).seg.take 2)) rfl ?_)
  refine wd_ld I_ok rfl rfl (fun w' hw' => ((hq1d.ext hw' hF1).cell rfl)) ?_
  refine wd_k I_ok 2 rfl (wd_ld I_ok rfl rfl (fun w' hw' => ((hlbd.ext hw' hFx).cell rfl)) ?_)
  refine wd_ld I_ok rfl rfl (fun w' hw' => ((hq1d.ext hw' hF1).cell rfl)) ?_
  refine wd_k I_ok 2 rfl (wd_ld I_ok rfl rfl (fun w' hw' => ((hlbd.ext hw' hFx).cell rfl)) ?_)
  refine wd_ld I_ok rfl rfl (fun w' hw' => ((hq1d.ext hw' hF1).cell rfl)) ?_
  refine wd_k I_ok 2 rfl (wd_ld I_ok rfl rfl (fun w' hw' => ((hlbd.ext hw' hFx).cell rfl)) ?_)
  refine wd_ld I_ok rfl rfl (fun w' hw' => ((hq1d.ext hw' hF1).cell rfl)) ?_
  refine wd_k I_ok 2 rfl (wd_ld I_ok rfl rfl (fun w' hw' => ((hlbd.ext hw' hFx).cell rfl)) ?_)
  refine wd_k I_ok 2 rfl ?_
  rw [wrap32 W.pieces.length (by omega)]
  refine wd_ld I_ok rfl rfl (fun w' hw' => ((hq2d.ext hw' hF2).cell rfl)) ?_
  refine wd_l rfl (st_call Tryz.call51 rfl rfl rfl rfl rfl rfl (area_calls w1 (.pointer (some ⟨d, 0, none⟩)) W.size W.turn (by omega) hz5 rfl) fun v2 w2 hr2 => ⟨(by obtain ⟨rfl, hE2⟩ := hr2; exact hC.thenNo hE2), ?_⟩)
  obtain ⟨rfl, hE2⟩ := hr2
  have hlb := hlb.extNo hE2
  have hq1 := hq1.extNo hE2
  have hq2 := hq2.extNo hE2
  have hat := hat.extNo hE2
  have hsb := hsb.extNo hE2
  have hrt := Rt.ext hrt hE2 id
  have hX := hX.thenNo hE2
  have hC := hC.thenNo hE2
  refine wd_k I_ok 1 rfl ?_
  rw [show IntKind.i64.wrap ((areaB W.turn W.size : Int) + (W.used : Int)) = ((areaB W.turn W.size + W.used : Nat) : Int) from by rw [IntWalk.i64_in _ (by omega)]; omega]
  refine wd_l rfl (st_call Tryz.call52 rfl rfl rfl rfl rfl rfl (piece_calls w2 W.turn W.pieces.length (p := p) (m := b.length) (c := c)) fun v3 w3 hr3 => ⟨(by obtain ⟨bb2, bt, bn, rfl, hnn, hbb2, hbt, hbn, hE3⟩ := hr3; exact hC.thenNo hE3), ?_⟩)
  obtain ⟨bb2, bt, bn, rfl, hnn, hbb2, hbt, hbn, hE3⟩ := hr3
  have hlb := hlb.extNo hE3
  have hq1 := hq1.extNo hE3
  have hq2 := hq2.extNo hE3
  have hat := hat.extNo hE3
  have hsb := hsb.extNo hE3
  have hrt := Rt.ext hrt hE3 id
  have hX := hX.thenNo hE3
  have hC := hC.thenNo hE3
  have hX1 := hX.size
  refine wd_l rfl (st_call Tryz.call45 rfl rfl rfl rfl rfl rfl (put_calls w3 (n := W.size) (L := pieceB W.turn W.pieces.length b) (own := fun x => x = 0) hat hok (by rw [pieceB_length]; omega) ((areaB W.turn W.size + W.used : Nat) : Int) (by omega) (pieceB_len _ _ b) Tryz.call86 (fun w1 hE1 => by rw [pieceB_length]; exact piece_iter w1 (hbb2.extNo hE1) (hbt.extNo hE1) (hbn.extNo hE1) (hsb.extNo hE1) hz5 (by omega) hbl (hrt.ext hE1 id)) (fun x e => by subst e; exact ⟨Nat.lt_of_lt_of_le hr0 (by have := hX.size; omega), hF0⟩)) fun v4 w4 hr4 => ⟨(by obtain ⟨rfl, F2, h2, hE4, hFs⟩ := hr4; exact hC.then hE4), ?_⟩)
  obtain ⟨rfl, F2, h2, hE4, hFs⟩ := hr4
  have hC := hC.then hE4
  have hX := hX.then hE4
  refine wd_k I_ok 1 rfl (wd_sw (wb_nil (f_then (c_ret (f_ret1 rfl rfl ?_)))))
  exact ⟨rfl, F2, h2, hX, grow_sub (fun x => .inl) hX1 hFs⟩
theorem append_no {W : Wl} {b : Bytes} (h : W.refuses b ((W.size : Int) - W.used) ≠ 0) : W.append b = (W, W.refuses b ((W.size : Int) - W.used)) := if_pos h
theorem append_bad {W : Wl} {b : Bytes} (h : W.refuses b ((W.size : Int) - W.used) = 0) {y : Dsk × Int} (hy : y = layD W.D ((areaB W.turn W.size + W.used : Nat) : Int) (pieceB W.turn W.pieces.length b)) (h2 : y.2 ≠ 0) : W.append b = ({ W with D := y.1, broken := true }, y.2) := by
  unfold Wl.append; dsimp only; rw [if_neg (fun e => e h), ← hy, if_pos h2]
theorem append_ok {W : Wl} {b : Bytes} (h : W.refuses b ((W.size : Int) - W.used) = 0) {y : Dsk × Int} (hy : y = layD W.D ((areaB W.turn W.size + W.used : Nat) : Int) (pieceB W.turn W.pieces.length b)) (h2 : y.2 = 0) : W.append b = ({ W with D := y.1, broken := false, pieces := W.pieces ++ [b], used := W.used + sectN b.length }, 0) := by
  unfold Wl.append; dsimp only; rw [if_neg (fun e => e h), ← hy, if_neg (fun e => e h2)]
/-- a log that has turned, after a call -/
def LogQ (w : World) (x d : Nat) (F H : Nat → Prop) (r : Wl × Int) (v : Value) (w' : World) : Prop :=
  v = .int .i64 r.2 ∧ ∃ F' H' : Nat → Prop, At w' d F' r.1.D ∧ LogAt w' x d H' r.1 ∧ (∀ y, F' y → F y ∨ w.heap.size ≤ y) ∧ (∀ y, H' y → H y ∨ w.heap.size ≤ y) ∧ (∀ y, H' y → ¬ F' y) ∧ Ext (fun y => F y ∨ H y) w w'
theorem PieceAt.ofOwn {u : World} {H : Nat → Prop} {q : Option Addr} {k : Nat} {b : Bytes} (ho : Own u q b.length k 5 1 (bytesU b)) (hH : ∀ y, OwnB q y → H y) : PieceAt u H (.slice q b.length k) b := by
  refine ⟨q, k, rfl, ho.cap, ho.sl, fun y off e => ?_⟩
  have e' : OwnB q y := by
    rcases ho with ⟨h1, _⟩ | ⟨b', l, h1, _⟩
    · rw [h1] at e; cases e
    · rw [h1] at e; cases e; exact h1
  exact ⟨hH y e', Own.ty ho e'⟩
theorem append_calls (w : World) {x d m c : Nat} {H F : Nat → Prop} {W : Wl} {p : Option Addr} {b : Bytes} (h : LogAt w x d H W) (hA : At w d F W.D) (hok : W.D.Ok m) (hm : m + 2000 < 1000000000) (hW : Wl.Ok W) (hs : SlB w p b) (hbl : b.length < 1000000000) (hr : Rt w) (hF0 : ¬ F 0) (hHF : ∀ y, H y → ¬ F y) (hpF : ∀ y off, p = some ⟨y, off, none⟩ → ¬ F y ∧ ¬ H y) :
    CallsV Tryz.prog 17 [.pointer (some ⟨x, 0, none⟩), .slice p b.length c] w fun v w' => LogQ w x d F H (W.append b) v w' := by
  refine calls_enter Tryz.func17 rfl rfl rfl rfl ?_
  have hX := Ext.refl (fun y => F y ∨ H y) w
  have hsl := sectN_le b.length
  have hFlt := hA.lt
  have hHlt := h.lt
  obtain ⟨hz1, hz2⟩ := hW.size
  have hz3 := hW.few
  have hz4 := hW.room
  have hxH := h.own
  have hlog := h
  have hat := hA
  have hsb := hs
  have hrt := hr
  refine c_seq (c_region (wl (st_al I_ok rfl fun b2 w1 hn2 hb2 hE1 => ?_)))
  have fr2 := Nat.le_trans hX.size hn2
  have hlog := hlog.extNo hE1
  have hat := hat.extNo hE1
  have hsb := hsb.extNo hE1
  have hrt := Rt.ext hrt hE1 id
  have hX := hX.thenNo hE1
  have hb2 : Blk w1 b2 43 ([.pointer (some ⟨x, 0, none⟩)]) := hb2
  refine wl (st_al I_ok rfl fun b3 w2 hn3 hb3 hE2 => ?_)
  have ne2_3 : b2 ≠ b3 := Nat.ne_of_lt (Nat.lt_of_lt_of_le hb2.lt hn3)
  have fr3 := Nat.le_trans hX.size hn3
  have hb2 := hb2.extNo hE2
  have hlog := hlog.extNo hE2
  have hat := hat.extNo hE2
  have hsb := hsb.extNo hE2
  have hrt := Rt.ext hrt hE2 id
  have hX := hX.thenNo hE2
  have hb3 : Blk w2 b3 56 ([.slice p b.length c]) := hb3
  refine wl_p I_ok rfl (wl_nil (f_then (c_seq (c_seq (c_region (wl (st_ldb I_ok hb2 rfl rfl (wl (st_ldb I_ok hb3 rfl rfl ?_)))))))))
  refine wl (st_call Tryz.call48 rfl rfl rfl rfl rfl rfl (ready_calls w2 hlog (p := p) (n := b.length) (k := c)) fun v3 w3 hr3 => ?_)
  obtain ⟨rfl, hE3⟩ := hr3
  have hb2 := hb2.extNo hE3
  have hb3 := hb3.extNo hE3
  have hlog := hlog.extNo hE3
  have hat := hat.extNo hE3
  have hsb := hsb.extNo hE3
  have hrt := Rt.ext hrt hE3 id
  have hX := hX.thenNo hE3
  refine wl_p I_ok rfl (wl_nil (f_then (c_seq (c_region (wl_p I_ok rfl (wl_nil (f_then (c_if rfl (fun hc => ?_) (fun hc => ?_)))))))))
  · refine c_seq ?_
    refine c_region (wl_p I_ok rfl (wl_nil (f_then (c_ret (f_thenR (f_ret1 rfl rfl ?_))))))
    have hre : W.refuses b ((W.size : Int) - W.used) = if 40000 < b.length then (3 : Int) else if W.broken = true then 8 else 0 := by
      unfold Wl.refuses
      by_cases h1 : 40000 < b.length
      · rw [if_pos h1, if_pos h1]
      · rw [if_neg h1, if_neg h1] at *
        by_cases h2 : W.broken = true
        · rw [if_pos h2, if_pos h2]
        · rw [if_neg h2] at hc; exact absurd rfl hc
    rw [append_no (by rw [hre]; exact hc), hre]
    exact ⟨rfl, F, H, hat, hlog, fun y => .inl, fun y => .inl, hHF, hX⟩
  · have hc0 : (if 40000 < b.length then (3 : Int) else if W.broken = true then 8 else 0) = 0 := Decidable.not_not.1 hc
    have hb40 : b.length ≤ 40000 := by
      rcases Nat.lt_or_ge 40000 b.length with h1 | h1
      · rw [if_pos h1] at hc0; cases hc0
      · exact h1
    rw [if_neg (by omega)] at hc0
    have hbr : ¬ W.broken = true := fun e => by rw [if_pos e] at hc0; cases hc0
    have hre : W.refuses b ((W.size : Int) - W.used) = if (W.size : Int) - W.used < sectN b.length then 6 else 0 := by unfold Wl.refuses; rw [if_neg (by omega), if_neg hbr]
    have hF1 : ¬ (F b2 ∨ H b2) := fun e => by rcases e with e | e; have := hFlt _ e; omega; have := hHlt _ e; omega
    have hF2 : ¬ (F b3 ∨ H b3) := fun e => by rcases e with e | e; have := hFlt _ e; omega; have := hHlt _ e; omega
    refine c_skip (f_then (c_seq (c_seq (c_draw rfl 6 [(0, true), (1, true), (3, true), (2, false), (4, false), (5, true)] [] (No) (by kernel_rfl) fun w4 hE4 hs4 => ?_))))
    have hd2 := hb2
    have hd3 := hb3
    have hlogd := hlog
    have hatd := hat
    have hsbd := hsb
    have hrtd := hrt
    have hXd := hX
    have hb2 := hb2.extNo hE4
    have hb3 := hb3.extNo hE4
    have hlog := hlog.extNo hE4
    have hat := hat.extNo hE4
    have hsb := hsb.extNo hE4
    have hrt := Rt.ext hrt hE4 id
    have hX := hX.thenNo hE4
    have hC : Ext (No) _ w4 := hE4.no
    refine wd_ld I_ok rfl rfl (fun w' hw' => (hd3.extNo hw').cell rfl) ?_
    refine wd_k I_ok 1 rfl (wd_ld I_ok rfl rfl (fun w' hw' => (hd2.extNo hw').cell rfl) ?_)
    refine wd_l rfl (st_call Tryz.call22 rfl rfl rfl rfl rfl rfl (sectors_calls w4 (b.length : Int)) fun v5 w5 hr5 => ⟨(by obtain ⟨rfl, hE5⟩ := hr5; exact hC.thenNo hE5), ?_⟩)
    obtain ⟨rfl, hE5⟩ := hr5
    have hb2 := hb2.extNo hE5
    have hb3 := hb3.extNo hE5
    have hlog := hlog.extNo hE5
    have hat := hat.extNo hE5
    have hsb := hsb.extNo hE5
    have hrt := Rt.ext hrt hE5 id
    have hX := hX.thenNo hE5
    have hC := hC.thenNo hE5
    rw [sectZ_nat]
    refine wd_l rfl (st_call Tryz.call21 rfl rfl rfl rfl rfl rfl (left_calls w5 hlog (by omega) (by omega)) fun v6 w6 hr6 => ⟨(by obtain ⟨rfl, hE6⟩ := hr6; exact hC.thenNo hE6), ?_⟩)
    obtain ⟨rfl, hE6⟩ := hr6
    have hb2 := hb2.extNo hE6
    have hb3 := hb3.extNo hE6
    have hlog := hlog.extNo hE6
    have hat := hat.extNo hE6
    have hsb := hsb.extNo hE6
    have hrt := Rt.ext hrt hE6 id
    have hX := hX.thenNo hE6
    have hC := hC.thenNo hE6
    refine wd_k I_ok 1 rfl (wd_sw (wb_nil (f_then (c_if rfl (fun hc => ?_) (fun hc => ?_)))))
    · rw [if_pos hc] at hre
      refine c_seq (c_region (wl_p I_ok rfl (wl_nil (f_then (c_ret (f_thenR (f_ret1 rfl rfl ?_)))))))
      rw [append_no (by rw [hre]; decide), hre]
      exact ⟨rfl, F, H, hat, hlog, fun y => .inl, fun y => .inl, hHF, hX⟩
    · rw [if_neg hc] at hre
      refine c_skip (f_then (c_seq (c_region (wl (st_ldb I_ok hb2 rfl rfl (wl_p I_ok rfl ?_))))))
      have hX1 := hX.size
      have l2 := hb2.lt
      have l3 := hb3.lt
      refine wl (st_call Tryz.call49 rfl rfl rfl rfl rfl rfl (does_calls w6 hlog hat.lt hHF Tryz.call50 (fun w1 hE1 => app1_calls w1 (hb2.extNo hE1) (hb3.extNo hE1) (hlog.extNo hE1) (hat.extNo hE1) hok hm hW (hsb.extNo hE1) hb40 (hrt.ext hE1 id) hF0 (fun e => hF1 (.inl e)) (fun e => hF2 (.inl e)) hHF)) fun v7 w7 hr7 => ?_)
      obtain ⟨rfl, F2, hat2, hFs, hlog2, hHF2, hE7⟩ := hr7
      obtain ⟨y, hy⟩ : ∃ y, y = layD W.D ((areaB W.turn W.size + W.used : Nat) : Int) (pieceB W.turn W.pieces.length b) := ⟨_, rfl⟩
      rw [← hy] at hat2 hlog2 ⊢
      have hxb : ∀ z, F z ∨ z = x → F z ∨ H z := fun z hz => hz.imp id fun e => by rw [e]; exact hxH
      have hb2 := hb2.ext hE7 fun e => hF1 (hxb _ e)
      have hb3 := hb3.ext hE7 fun e => hF2 (hxb _ e)
      have hX := hX.then (hE7.mono fun z _ e => hxb z e)
      have hsb : SlB w7 p b := hsb.ext hE7 fun z off e hz => (hxb z hz).elim (hpF z off e).1 (hpF z off e).2
      have hFs := grow_sub (fun z => .inl) hX1 hFs
      obtain ⟨N, hN⟩ : ∃ N, N = w7.heap.size := ⟨_, rfl⟩
      have hNw : w.heap.size ≤ N := by rw [hN]; exact hX.size
      have hF2lt : ∀ z, F2 z → z < N := by rw [hN]; exact hat2.lt
      refine wl_p I_ok rfl (wl_nil (f_then ?_))
      refine c_cutK (α := Wl × (Nat → Prop)) [6] rfl (fun z => []) (fun z u => (LogAt u x d z.2 z.1 ∧ At u d F2 z.1.D ∧ (∀ y, z.2 y → H y ∨ w.heap.size ≤ y) ∧ (∀ y, z.2 y → ¬ F2 y) ∧ W.append b = (z.1, y.2)) ∧ Blk u b2 43 ([.pointer (some ⟨x, 0, none⟩)]) ∧ Blk u b3 56 ([.slice p b.length c]) ∧ Ext (fun y => F y ∨ H y) w u) ?_ ?_
      · refine c_seq ?_
        refine c_region (wl_p I_ok rfl (wl_nil (f_then (c_if rfl (fun hc => ?_) (fun hc => ?_)))))
        · have hy0 : y.2 = 0 := hc
          obtain ⟨⟨q, cq, rows, hlb, hrw, hps, hqH⟩, _, hHl2⟩ := id hlog2
          dsimp only at hlb hrw hps
          rw [show decide (y.2 ≠ 0) = false from decide_eq_false fun e => e hy0] at hlb
          have hxl := hHlt x hxH
          have hqx : ¬ OwnB q x := fun e => (Own.ty hrw e).ne hlb (by decide) rfl
          have hq2 : ¬ OwnB q b2 := fun e => by have := hHlt _ (hqH _ e); omega
          have hq3 : ¬ OwnB q b3 := fun e => by have := hHlt _ (hqH _ e); omega
          refine c_seq (c_draw rfl 11 [(0, true), (1, true), (2, true), (3, true), (4, true), (5, true), (6, false), (7, false), (8, false), (9, true), (10, true)] [11] (fun z => OwnB q z) (by kernel_rfl) fun w8 hE8 hs8 => ?_)
          have hd2 := hb2
          have hd3 := hb3
          have hlogd := hlog
          have hatd := hat
          have hsbd := hsb
          have hrtd := hrt
          have hlog2d := hlog2
          have hat2d := hat2
          have hlbd := hlb
          have hrwd := hrw
          have hpsd := hps
          have hXd := hX
          have hb2 := hb2.extNo hE8
          have hb3 := hb3.extNo hE8
          have hsb := hsb.extNo hE8
          have hat2 := hat2.extNo hE8
          have hlb := hlb.extNo hE8
          have hrw := hrw.ext hE8 fun _ _ => id
          have hps := hps.ext hE8 fun _ _ _ => id
          have hX := hX.thenNo hE8
          have hC : Ext (fun z => OwnB q z) _ w8 := hE8.no
          refine wd_ld I_ok rfl rfl (fun w' hw' => ((hd2.ext hw' hq2).cell rfl)) ?_
          refine wd_ld I_ok rfl rfl (fun w' hw' => ((hd2.ext hw' hq2).cell rfl)) ?_
          refine wd_k I_ok 2 rfl (wd_ld I_ok rfl rfl (fun w' hw' => ((hlbd.ext hw' hqx).cell rfl)) ?_)
          refine wd_ld I_ok rfl rfl (fun w' hw' => ((hd3.ext hw' hq3).cell rfl)) ?_
          have hNs0 := hC.size
          refine wd_l rfl (st_call Tryz.call53 rfl rfl rfl rfl rfl rfl (cloneB_calls w8 hsb hbl) fun v9 w9 hr9 => ⟨(by obtain ⟨q2, k2, rfl, ho2, hnq, hE9⟩ := hr9; exact hC.thenNo hE9), ?_⟩)
          obtain ⟨q2, k2, rfl, ho2, hnq, hE9⟩ := hr9
          have hb2 := hb2.extNo hE9
          have hb3 := hb3.extNo hE9
          have hsb := hsb.extNo hE9
          have hat2 := hat2.extNo hE9
          have hlb := hlb.extNo hE9
          have hrw := hrw.ext hE9 fun _ _ => id
          have hps := hps.ext hE9 fun _ _ _ => id
          have hX := hX.thenNo hE9
          have hC := hC.thenNo hE9
          have hnN : ∀ z, OwnB q2 z → N ≤ z := fun z hz => by have := hnq z hz; omega
          have hnq : ∀ z, OwnB q2 z → w.heap.size ≤ z := fun z hz => Nat.le_trans hNw (hnN z hz)
          refine wd_l rfl (st_bs I_ok rfl 1 rfl rfl rfl (by decide) (by decide) (by simp [partsOk]) (l' := [.slice q2 b.length k2]) rfl fun b31 w10 hn31 hb31 hE10 hs10 => ⟨hC.thenNo hE10, ?_⟩)
          have ne2_31 : b2 ≠ b31 := Nat.ne_of_lt (Nat.lt_of_lt_of_le hb2.lt hn31)
          have ne3_31 : b3 ≠ b31 := Nat.ne_of_lt (Nat.lt_of_lt_of_le hb3.lt hn31)
          have fr31 := Nat.le_trans hX.size hn31
          have hb2 := hb2.extNo hE10
          have hb3 := hb3.extNo hE10
          have hat2 := hat2.extNo hE10
          have hlb := hlb.extNo hE10
          have hrw := hrw.ext hE10 fun _ _ => id
          have hps := hps.ext hE10 fun _ _ _ => id
          have ho2 := ho2.ext hE10 fun _ _ => id
          have hX := hX.thenNo hE10
          have hC := hC.thenNo hE10
          have hNs := hC.size
          refine wd_l rfl (st_app I_ok rfl 1 24 rfl rfl rfl (by decide) hrw (Src.slice (m := 1) ⟨rfl, .inr ⟨b31, 0, rfl, hb31.seg⟩⟩ OneC.h) (by dsimp only [maxLen]; omega) (by dsimp only; omega) fun p11 c11 w11 ho11 hE11 hB11 => ⟨(hC.then hE11), ?_⟩)
          have hC := (hC.then hE11)
          have hb2 := hb2.ext hE11 hq2
          have hb3 := hb3.ext hE11 hq3
          have hb31 := hb31.ext hE11 fun e => by have := hHlt _ (hqH _ e); omega
          have hX := hX.then (hE11.mono fun z _ e => .inr (hqH z e))
          have hlb := hlb.ext hE11 hqx
          have hat2 := hat2.ext hE11 fun z hz e => hHF2 z (hqH z e) hz
          have ho2 := ho2.ext hE11 fun z hz e => by have := hnq z hz; have := hHlt _ (hqH _ e); omega
          have hps := hps.ext hE11 fun z hz ht e => by obtain ⟨l, hl⟩ := Own.ty hrw e; exact ht.ne hl (by decide) rfl
          have hqn : ∀ z, OwnB p11 z → H z ∨ N ≤ z := fun z hz => (hB11 z hz).imp (hqH z) fun e => by omega
          have hrw : Own w11 p11 (W.pieces ++ [b]).length c11 56 1 (rows ++ [.slice q2 b.length k2]) := by rw [List.length_append]; exact ho11
          dsimp only
          obtain ⟨pn, hpn0⟩ : ∃ pn, pn = p11 := ⟨_, rfl⟩
          obtain ⟨cn, hcn0⟩ : ∃ cn, cn = c11 := ⟨_, rfl⟩
          rw [← hpn0] at hrw hqn ⊢
          rw [← hcn0] at hrw ⊢
          refine wd_k I_ok 2 rfl (wd_sw ?_)
          have hlb0 := hlb
          refine wb rfl (st_set I_ok hlb rfl rfl (Nat.lt_of_lt_of_eq (by decide : 0 + (2 + 1) < 6) rfl) fun w12 hlb hE12 hs12 => ?_)
          have hb2 := hb2.ext hE12 fun e => by have e : b2 = x := e; omega
          have hb3 := hb3.ext hE12 fun e => by have e : b3 = x := e; omega
          have hb31 := hb31.ext hE12 fun e => by have e : b31 = x := e; omega
          have hX := hX.then (hE12.mono fun z _ e => .inr (by have e : z = x := e; rw [e]; exact hxH))
          have hat2 := hat2.ext hE12 fun z hz e => by have e : z = x := e; subst e; exact hHF2 z hxH hz
          have ho2 := ho2.extTy hE12 hlb0 (by decide)
          have hrw := hrw.extTy hE12 hlb0 (by decide)
          have hps := hps.ext hE12 fun z _ ht e => by have e : z = x := e; subst e; exact ht.ne hlb0 (by decide) rfl
          refine wb_nil (f_then (c_draw rfl 10 [(0, true), (1, true), (2, true), (3, true), (4, true), (5, true), (6, false), (7, true), (8, true), (9, true)] [10] (No) (by kernel_rfl) fun w13 hE13 hs13 => ?_))
          have hd2 := hb2
          have hd3 := hb3
          have hd31 := hb31
          have hlogd := hlog
          have hatd := hat
          have hsbd := hsb
          have hrtd := hrt
          have hlog2d := hlog2
          have hat2d := hat2
          have hlbd := hlb
          have hrwd := hrw
          have hpsd := hps
          have ho2d := ho2
          have hXd := hX
          have hb2 := hb2.extNo hE13
          have hb3 := hb3.extNo hE13
          have hb31 := hb31.extNo hE13
          have hat2 := hat2.extNo hE13
          have hlb := hlb.extNo hE13
          have hrw := hrw.ext hE13 fun _ _ => id
          have hps := hps.ext hE13 fun _ _ _ => id
          have ho2 := ho2.ext hE13 fun _ _ => id
          have hX := hX.thenNo hE13
          have hC : Ext (No) _ w13 := hE13.no
          refine wd_ld I_ok rfl rfl (fun w' hw' => (hd2.extNo hw').cell rfl) ?_
          refine wd_k I_ok 2 rfl (wd_ld I_ok rfl rfl (fun w' hw' => ((hlbd.extNo hw').cell rfl)) ?_)
          refine wd_ld I_ok rfl rfl (fun w' hw' => (hd3.extNo hw').cell rfl) ?_
          refine wd_k I_ok 1 rfl (wd_l rfl (st_call Tryz.call22 rfl rfl rfl rfl rfl rfl (sectors_calls w13 (b.length : Int)) fun v14 w14 hr14 => ⟨(by obtain ⟨rfl, hE14⟩ := hr14; exact hC.thenNo hE14), ?_⟩))
          obtain ⟨rfl, hE14⟩ := hr14
          have hb2 := hb2.extNo hE14
          have hb3 := hb3.extNo hE14
          have hb31 := hb31.extNo hE14
          have hat2 := hat2.extNo hE14
          have hlb := hlb.extNo hE14
          have hrw := hrw.ext hE14 fun _ _ => id
          have hps := hps.ext hE14 fun _ _ _ => id
          have ho2 := ho2.ext hE14 fun _ _ => id
          have hX := hX.thenNo hE14
          have hC := hC.thenNo hE14
          rw [sectZ_nat]
          refine wd_k I_ok 1 rfl ?_
          rw [show IntKind.i64.wrap ((W.used : Int) + (sectN b.length : Int)) = ((W.used + sectN b.length : Nat) : Int) from by rw [IntWalk.i64_in _ (by omega)]; omega]
          refine wd_k I_ok 2 rfl (wd_sw ?_)
          have hlb0 := hlb
          refine wb rfl (st_set I_ok hlb rfl rfl (Nat.lt_of_lt_of_eq (by decide : 0 + (3 + 1) < 6) rfl) fun w15 hlb hE15 hs15 => ?_)
          have hb2 := hb2.ext hE15 fun e => by have e : b2 = x := e; omega
          have hb3 := hb3.ext hE15 fun e => by have e : b3 = x := e; omega
          have hb31 := hb31.ext hE15 fun e => by have e : b31 = x := e; omega
          have hX := hX.then (hE15.mono fun z _ e => .inr (by have e : z = x := e; rw [e]; exact hxH))
          have hat2 := hat2.ext hE15 fun z hz e => by have e : z = x := e; subst e; exact hHF2 z hxH hz
          have ho2 := ho2.extTy hE15 hlb0 (by decide)
          have hrw := hrw.extTy hE15 hlb0 (by decide)
          have hps := hps.ext hE15 fun z _ ht e => by have e : z = x := e; subst e; exact ht.ne hlb0 (by decide) rfl
          have hnw := hat2.lt
          have hho := fun z (hz : OwnB q2 z) => ho2.lt hz
          have hhr := fun z (hz : OwnB pn z) => hrw.lt hz
          have hxw := hX.size
          refine wb_nil ?_
          exact f_cut ({ W with D := y.1, broken := false, pieces := W.pieces ++ [b], used := W.used + sectN b.length }, fun z => H z ∨ (N ≤ z ∧ z < w15.heap.size)) rfl ⟨⟨⟨⟨pn, cn, _, by dsimp only; rw [List.length_append]; exact hlb, hrw, (PiecesAt.mono hps fun z hz => .inl hz).snoc (PieceAt.ofOwn ho2 fun z hz => .inr ⟨hnN z hz, hho z hz⟩), fun z hz => (hqn z hz).imp id fun e => ⟨e, hhr z hz⟩⟩, .inl hxH, fun z hz => hz.elim (fun e => Nat.lt_of_lt_of_le (hHlt z e) hxw) fun e => e.2⟩, hat2, fun z hz => hz.imp id fun e => Nat.le_trans hNw e.1, fun z hz e => hz.elim (fun h => hHF2 z h e) fun h => by have := hF2lt z e; omega, by rw [hy0]; exact append_ok hre hy hy0⟩, hb2, hb3, hX⟩
        · refine c_skip ?_
          exact f_cut ({ W with D := y.1, broken := true }, H) rfl ⟨⟨by have e := hlog2; rw [decide_eq_true hc] at e; exact e.data rfl rfl rfl rfl rfl, hat2, fun z hz => .inl hz, hHF2, append_bad hre hy hc⟩, hb2, hb3, hX⟩
      rintro ⟨V, G⟩ w16 ⟨⟨hlog3, hat3, hGs, hGF, hap⟩, hb2, hb3, hX⟩
      refine c_seq (c_region (wl_p I_ok rfl (wl_nil (f_then (c_ret (f_ret1 rfl rfl ?_))))))
      rw [hap]
      exact ⟨rfl, F2, G, hat3, hlog3, hFs, hGs, hGF, hX⟩

theorem ckp1_calls (w : World) {bx bt bb x d m c t : Nat} {H F : Nat → Prop} {W : Wl} {p : Option Addr} {b : Bytes} (hbx : Blk w bx 43 [.pointer (some ⟨x, 0, none⟩)]) (hbt : Blk w bt 95 [.int .u32 (t : Int)]) (hbb : Blk w bb 56 [.slice p b.length c]) (h : LogAt w x d H W) (hA : At w d F W.D) (hok : W.D.Ok m) (hm : m + 2000 < 1000000000) (hz2 : W.size ≤ 1000) (ht : t < 4294967296) (hs : SlB w p b) (hbl : b.length ≤ 40000) (hr : Rt w) (hF0 : ¬ F 0) (hF1 : ¬ F bx) (hFt : ¬ F bt) (hF2 : ¬ F bb) (hHF : ∀ y, H y → ¬ F y) :
    CallsV Tryz.prog 67 [.pointer (some ⟨bx, 0, none⟩), .pointer (some ⟨bt, 0, none⟩), .pointer (some ⟨bb, 0, none⟩)] w fun v w' => v = .int .i64 (beginD W.D t W.size b).2 ∧ DkQ w d F (beginD W.D t W.size b).1 w' := by
  refine calls_enter Tryz.func67 rfl rfl rfl rfl ?_
  have hX := Ext.refl F w
  have hr0 := hr.lt
  have hFlt := hA.lt
  obtain ⟨⟨q, cq, rows, hbk, hrw, hps, hqH⟩, hxH, hlt⟩ := h
  have hFx := hHF x hxH
  have hlb := hbk
  have hq1 := hbx
  have hqt := hbt
  have hq2 := hbb
  have hat := hA
  have hsb := hs
  have hrt := hr
  refine c_seq (c_region (wl_p I_ok rfl (wl_nil (f_then (c_seq (c_draw rfl 8 [(0, true), (1, true), (2, true), (3, true), (4, true), (5, true), (6, false), (7, true)] [] (F) (by kernel_rfl) fun w1 hE1 hs1 => ?_))))))
  have hlbd := hlb
  have hq1d := hq1
  have hq2d := hq2
  have hatd := hat
  have hsbd := hsb
  have hrtd := hrt
  have hqtd := hqt
  have hXd := hX
  have hlb := hlb.extNo hE1
  have hq1 := hq1.extNo hE1
  have hq2 := hq2.extNo hE1
  have hat := hat.extNo hE1
  have hsb := hsb.extNo hE1
  have hrt := Rt.ext hrt hE1 id
  have hqt := hqt.extNo hE1
  have hX := hX.thenNo hE1
  have hC : Ext (F) _ w1 := hE1.no
  refine wd_ld I_ok rfl rfl (fun w' hw' => ((hq1d.ext hw' hF1).cell rfl)) ?_
  refine wd_k I_ok 2 rfl (wd_ldN I_ok rfl rfl (fun w' hw' => ((hlbd.ext hw' hFx).seg.take 2)) rfl ?_)
  refine wd_ld I_ok rfl rfl (fun w' hw' => ((hqtd.ext hw' hFt).cell rfl)) ?_
  refine wd_ld I_ok rfl rfl (fun w' hw' => ((hq2d.ext hw' hF2).cell rfl)) ?_
  have hX1 := hX.size
  refine wd_l rfl (st_call Tryz.call47 rfl rfl rfl rfl rfl rfl (begin_calls w1 (n := W.size) hat hok hm (by omega) ht hsb hbl hrt hF0) fun v2 w2 hr2 => ⟨(by obtain ⟨rfl, F2, h2, hE2, hFs⟩ := hr2; exact hC.then hE2), ?_⟩)
  obtain ⟨rfl, F2, h2, hE2, hFs⟩ := hr2
  have hC := hC.then hE2
  have hX := hX.then hE2
  refine wd_k I_ok 1 rfl (wd_sw (wb_nil (f_then (c_ret (f_ret1 rfl rfl ?_)))))
  exact ⟨rfl, F2, h2, hX, grow_sub (fun x => .inl) hX1 hFs⟩
theorem ckp_no {W : Wl} {b : Bytes} (h : W.refuses b (if W.turn = 4294967295 then 0 else (W.size : Int)) ≠ 0) : W.checkpoint b = (W, W.refuses b (if W.turn = 4294967295 then 0 else (W.size : Int))) := if_pos h
theorem ckp_bad {W : Wl} {b : Bytes} (h : W.refuses b (if W.turn = 4294967295 then 0 else (W.size : Int)) = 0) {y : Dsk × Int} (hy : y = beginD W.D (W.turn + 1) W.size b) (h2 : y.2 ≠ 0) : W.checkpoint b = ({ W with D := y.1, broken := true }, y.2) := by
  unfold Wl.checkpoint; dsimp only; rw [if_neg (fun e => e h), ← hy, if_pos h2]
theorem ckp_ok {W : Wl} {b : Bytes} (h : W.refuses b (if W.turn = 4294967295 then 0 else (W.size : Int)) = 0) {y : Dsk × Int} (hy : y = beginD W.D (W.turn + 1) W.size b) (h2 : y.2 = 0) : W.checkpoint b = ({ W with D := y.1, broken := false, turn := W.turn + 1, pieces := [b], used := sectN b.length }, 0) := by
  unfold Wl.checkpoint; dsimp only; rw [if_neg (fun e => e h), ← hy, if_neg (fun e => e h2)]
theorem next_turn {t : Nat} (ht : t < 4294967296) : IntKind.u32.wrap ((t : Int) + 1) = ((if t = 4294967295 then 0 else t + 1 : Nat) : Int) := by
  by_cases h : t = 4294967295
  · subst h; decide
  · rw [if_neg h]; exact wrap32 (t + 1) (by omega)
theorem checkpoint_calls (w : World) {x d m c : Nat} {H F : Nat → Prop} {W : Wl} {p : Option Addr} {b : Bytes} (h : LogAt w x d H W) (hA : At w d F W.D) (hok : W.D.Ok m) (hm : m + 2000 < 1000000000) (hW : Wl.Ok W) (hs : SlB w p b) (hbl : b.length < 1000000000) (hr : Rt w) (hF0 : ¬ F 0) (hHF : ∀ y, H y → ¬ F y) (hpF : ∀ y off, p = some ⟨y, off, none⟩ → ¬ F y ∧ ¬ H y ∧ y < w.heap.size) :
    CallsV Tryz.prog 28 [.pointer (some ⟨x, 0, none⟩), .slice p b.length c] w fun v w' => LogQ w x d F H (W.checkpoint b) v w' := by
  refine calls_enter Tryz.func28 rfl rfl rfl rfl ?_
  have hX := Ext.refl (fun y => F y ∨ H y) w
  have hsl := sectN_le b.length
  have hFlt := hA.lt
  have hHlt := h.lt
  obtain ⟨hz1, hz2⟩ := hW.size
  have hz5 := hW.turn
  have hxH := h.own
  have hlog := h
  have hat := hA
  have hsb := hs
  have hrt := hr
  refine c_seq (c_region (wl (st_al I_ok rfl fun b2 w1 hn2 hb2 hE1 => ?_)))
  have fr2 := Nat.le_trans hX.size hn2
  have hlog := hlog.extNo hE1
  have hat := hat.extNo hE1
  have hsb := hsb.extNo hE1
  have hrt := Rt.ext hrt hE1 id
  have hX := hX.thenNo hE1
  have hb2 : Blk w1 b2 43 ([.pointer (some ⟨x, 0, none⟩)]) := hb2
  refine wl (st_al I_ok rfl fun b3 w2 hn3 hb3 hE2 => ?_)
  have ne2_3 : b2 ≠ b3 := Nat.ne_of_lt (Nat.lt_of_lt_of_le hb2.lt hn3)
  have fr3 := Nat.le_trans hX.size hn3
  have hb2 := hb2.extNo hE2
  have hlog := hlog.extNo hE2
  have hat := hat.extNo hE2
  have hsb := hsb.extNo hE2
  have hrt := Rt.ext hrt hE2 id
  have hX := hX.thenNo hE2
  have hb3 : Blk w2 b3 56 ([.slice p b.length c]) := hb3
  refine wl_p I_ok rfl (wl_nil (f_then (c_seq (c_seq (c_region (wl (st_ldb I_ok hb2 rfl rfl (wl (st_ldb I_ok hb3 rfl rfl ?_)))))))))
  refine wl (st_call Tryz.call48 rfl rfl rfl rfl rfl rfl (ready_calls w2 hlog (p := p) (n := b.length) (k := c)) fun v3 w3 hr3 => ?_)
  obtain ⟨rfl, hE3⟩ := hr3
  have hb2 := hb2.extNo hE3
  have hb3 := hb3.extNo hE3
  have hlog := hlog.extNo hE3
  have hat := hat.extNo hE3
  have hsb := hsb.extNo hE3
  have hrt := Rt.ext hrt hE3 id
  have hX := hX.thenNo hE3
  refine wl_p I_ok rfl (wl_nil (f_then (c_seq (c_region (wl_p I_ok rfl (wl_nil (f_then (c_if rfl (fun hc => ?_) (fun hc => ?_)))))))))
  · refine c_seq ?_
    refine c_region (wl_p I_ok rfl (wl_nil (f_then (c_ret (f_thenR (f_ret1 rfl rfl ?_))))))
    have hre : W.refuses b (if W.turn = 4294967295 then 0 else (W.size : Int)) = if 40000 < b.length then (3 : Int) else if W.broken = true then 8 else 0 := by
      unfold Wl.refuses
      by_cases h1 : 40000 < b.length
      · rw [if_pos h1, if_pos h1]
      · rw [if_neg h1, if_neg h1] at *
        by_cases h2 : W.broken = true
        · rw [if_pos h2, if_pos h2]
        · rw [if_neg h2] at hc; exact absurd rfl hc
    rw [ckp_no (by rw [hre]; exact hc), hre]
    exact ⟨rfl, F, H, hat, hlog, fun y => .inl, fun y => .inl, hHF, hX⟩
  · have hc0 : (if 40000 < b.length then (3 : Int) else if W.broken = true then 8 else 0) = 0 := Decidable.not_not.1 hc
    have hb40 : b.length ≤ 40000 := by
      rcases Nat.lt_or_ge 40000 b.length with h1 | h1
      · rw [if_pos h1] at hc0; cases hc0
      · exact h1
    rw [if_neg (by omega)] at hc0
    have hbr : ¬ W.broken = true := fun e => by rw [if_pos e] at hc0; cases hc0
    have hbp := sectN_pos hb40
    have hre : W.refuses b (if W.turn = 4294967295 then 0 else (W.size : Int)) = if W.size < sectN b.length ∨ W.turn = 4294967295 then 6 else 0 := by
      unfold Wl.refuses
      rw [if_neg (by omega), if_neg hbr]
      by_cases ht : W.turn = 4294967295
      · rw [if_pos ht, if_pos (by omega), if_pos (.inr ht)]
      · rw [if_neg ht]
        by_cases h1 : W.size < sectN b.length
        · rw [if_pos (by omega), if_pos (.inl h1)]
        · rw [if_neg (by omega), if_neg (fun e => e.elim h1 ht)]
    have hF1 : ¬ (F b2 ∨ H b2) := fun e => by rcases e with e | e; have := hFlt _ e; omega; have := hHlt _ e; omega
    have hF2 : ¬ (F b3 ∨ H b3) := fun e => by rcases e with e | e; have := hFlt _ e; omega; have := hHlt _ e; omega
    obtain ⟨⟨q0, cq0, rows0, hlb0, _, _, _⟩, _, _⟩ := id hlog
    obtain ⟨nx, hnx⟩ : ∃ nx, nx = if W.turn = 4294967295 then 0 else W.turn + 1 := ⟨_, rfl⟩
    have hnxl : nx < 4294967296 := by rw [hnx]; split <;> omega
    refine c_skip (f_then (c_seq (c_region (wl (st_ldb I_ok hb2 rfl rfl (wl_p I_ok rfl (wl (st_ld I_ok rfl (hlb0.cell rfl) (wl_p I_ok rfl ?_)))))))))
    rw [next_turn hz5, ← hnx]
    refine wl (st_al I_ok rfl fun b6 w4 hn6 hb6 hE4 => ?_)
    have ne2_6 : b2 ≠ b6 := Nat.ne_of_lt (Nat.lt_of_lt_of_le hb2.lt hn6)
    have ne3_6 : b3 ≠ b6 := Nat.ne_of_lt (Nat.lt_of_lt_of_le hb3.lt hn6)
    have fr6 := Nat.le_trans hX.size hn6
    have hb2 := hb2.extNo hE4
    have hb3 := hb3.extNo hE4
    have hlog := hlog.extNo hE4
    have hat := hat.extNo hE4
    have hsb := hsb.extNo hE4
    have hrt := Rt.ext hrt hE4 id
    have hX := hX.thenNo hE4
    have hr6 := hr.lt
    refine wl (st_st I_ok hb6 rfl rfl rfl fun w5 hb6 hE5 hs5 => ?_)
    have hb2 := hb2.ext1 hE5 ne2_6
    have hb3 := hb3.ext1 hE5 ne3_6
    have hX := hX.thenNew hE5 fr6
    have hb6 : Blk w5 b6 95 ([.int .u32 (nx : Int)]) := hb6
    have hlog := hlog.ext hE5 fun y hy e => by have e : y = b6 := e; have := hHlt y hy; omega
    have hat := hat.ext hE5 fun y hy e => by have e : y = b6 := e; have := hFlt y hy; omega
    have hsb : SlB w5 p b := hsb.ext hE5 fun y off e hz => by have hz : y = b6 := hz; have := (hpF y off e).2.2; omega
    have hrt := Rt.ext hrt hE5 fun e => by have e : 0 = b6 := e; omega
    obtain ⟨⟨q1, cq1, rows1, hlb1, _, _, _⟩, _, _⟩ := id hlog
    have hF6 : ¬ (F b6 ∨ H b6) := fun e => by rcases e with e | e; have := hFlt _ e; omega; have := hHlt _ e; omega
    refine wl_nil (f_then (c_seq ?_))
    refine c_cutK (α := Bool) [2, 3, 6] rfl (fun z => [(31, .bool z)]) (fun z u => (z = decide (W.size < sectN b.length ∨ W.turn = 4294967295) ∧ LogAt u x d H W ∧ At u d F W.D ∧ SlB u p b ∧ Rt u) ∧ Blk u b2 43 ([.pointer (some ⟨x, 0, none⟩)]) ∧ Blk u b3 56 ([.slice p b.length c]) ∧ Blk u b6 95 ([.int .u32 (nx : Int)]) ∧ Ext (fun y => F y ∨ H y) w u) ?_ ?_
    · refine c_draw rfl 13 [(0, true), (1, true), (3, true), (4, true), (5, true), (6, true), (7, true), (2, false), (8, true), (9, true), (10, true), (11, true), (12, true)] [] (No) (by kernel_rfl) fun w6 hE6 hs6 => ?_
      have hd2 := hb2
      have hd3 := hb3
      have hd6 := hb6
      have hlogd := hlog
      have hatd := hat
      have hsbd := hsb
      have hrtd := hrt
      have hXd := hX
      have hb2 := hb2.extNo hE6
      have hb3 := hb3.extNo hE6
      have hb6 := hb6.extNo hE6
      have hlog := hlog.extNo hE6
      have hat := hat.extNo hE6
      have hsb := hsb.extNo hE6
      have hrt := Rt.ext hrt hE6 id
      have hX := hX.thenNo hE6
      have hC : Ext (No) _ w6 := hE6.no
      refine wd_ld I_ok rfl rfl (fun w' hw' => (hd3.extNo hw').cell rfl) ?_
      refine wd_k I_ok 1 rfl (wd_ld I_ok rfl rfl (fun w' hw' => (hd2.extNo hw').cell rfl) ?_)
      refine wd_k I_ok 3 rfl (wd_ld I_ok rfl rfl (fun w' hw' => ((hlb1.extNo hw').cell rfl)) ?_)
      refine wd_l rfl (st_call Tryz.call22 rfl rfl rfl rfl rfl rfl (sectors_calls w6 (b.length : Int)) fun v7 w7 hr7 => ⟨(by obtain ⟨rfl, hE7⟩ := hr7; exact hC.thenNo hE7), ?_⟩)
      obtain ⟨rfl, hE7⟩ := hr7
      have hb2 := hb2.extNo hE7
      have hb3 := hb3.extNo hE7
      have hb6 := hb6.extNo hE7
      have hlog := hlog.extNo hE7
      have hat := hat.extNo hE7
      have hsb := hsb.extNo hE7
      have hrt := Rt.ext hrt hE7 id
      have hX := hX.thenNo hE7
      have hC := hC.thenNo hE7
      rw [sectZ_nat]
      refine wd_k I_ok 2 rfl (wd_caseD 28 rfl (fun hg => ?_) (fun hg => ?_))
      · refine wd_k I_ok 3 rfl ?_
        refine wd_sw (wb_nil ?_)
        exact f_cut (true) rfl ⟨⟨(decide_eq_true (.inl (by omega))).symm, hlog, hat, hsb, hrt⟩, hb2, hb3, hb6, hX⟩
      · refine wd_ld I_ok rfl rfl (fun w' hw' => (hd6.extNo hw').cell rfl) ?_
        refine wd_k I_ok 2 rfl (wd_sw (wb_nil ?_))
        exact f_cut (decide ((nx : Int) = 0)) rfl ⟨⟨by
  rw [decide_eq_decide]
  constructor
  · intro h0; refine .inr ?_; rcases Nat.lt_or_ge W.turn 4294967295 with h1 | h1; rw [if_neg (by omega)] at hnx; omega; omega
  · intro h0; rcases h0 with h0 | h0; omega; rw [if_pos h0] at hnx; omega, hlog, hat, hsb, hrt⟩, hb2, hb3, hb6, hX⟩
    rintro z w8 ⟨⟨hz, hlog, hat, hsb, hrt⟩, hb2, hb3, hb6, hX⟩
    refine c_cond rfl (fun hc => ?_) (fun hc => ?_)
    · have hcx := of_decide_eq_true (hz.symm.trans hc)
      rw [if_pos hcx] at hre
      refine c_seq (c_region (wl_p I_ok rfl (wl_nil (f_then (c_ret (f_thenR (f_ret1 rfl rfl ?_)))))))
      rw [ckp_no (by rw [hre]; decide), hre]
      exact ⟨rfl, F, H, hat, hlog, fun y => .inl, fun y => .inl, hHF, hX⟩
    · have hcx : ¬ (W.size < sectN b.length ∨ W.turn = 4294967295) := of_decide_eq_false (hz.symm.trans hc)
      rw [if_neg hcx] at hre
      rw [if_neg (fun e => hcx (.inr e))] at hnx
      refine c_skip (f_then (c_seq (c_region (wl (st_ldb I_ok hb2 rfl rfl (wl_p I_ok rfl ?_))))))
      have hX1 := hX.size
      have l2 := hb2.lt
      have l3 := hb3.lt
      have l6 := hb6.lt
      refine wl (st_call Tryz.call49 rfl rfl rfl rfl rfl rfl (does_calls w8 hlog hat.lt hHF Tryz.call67 (fun w1 hE1 => ckp1_calls w1 (hb2.extNo hE1) (hb6.extNo hE1) (hb3.extNo hE1) (hlog.extNo hE1) (hat.extNo hE1) hok hm hz2 hnxl (hsb.extNo hE1) hb40 (hrt.ext hE1 id) hF0 (fun e => hF1 (.inl e)) (fun e => hF6 (.inl e)) (fun e => hF2 (.inl e)) hHF)) fun v9 w9 hr9 => ?_)
      obtain ⟨rfl, F2, hat2, hFs, hlog2, hHF2, hE9⟩ := hr9
      obtain ⟨y, hy⟩ : ∃ y, y = beginD W.D nx W.size b := ⟨_, rfl⟩
      rw [← hy] at hat2 hlog2 ⊢
      rw [hnx] at hy
      have hxb : ∀ z, F z ∨ z = x → F z ∨ H z := fun z hz => hz.imp id fun e => by rw [e]; exact hxH
      have hb2 := hb2.ext hE9 fun e => hF1 (hxb _ e)
      have hb3 := hb3.ext hE9 fun e => hF2 (hxb _ e)
      have hb6 := hb6.ext hE9 fun e => hF6 (hxb _ e)
      have hX := hX.then (hE9.mono fun z _ e => hxb z e)
      have hsb : SlB w9 p b := hsb.ext hE9 fun z off e hz => (hxb z hz).elim (hpF z off e).1 (hpF z off e).2.1
      have hFs := grow_sub (fun z => .inl) hX1 hFs
      obtain ⟨N, hN⟩ : ∃ N, N = w9.heap.size := ⟨_, rfl⟩
      have hNw : w.heap.size ≤ N := by rw [hN]; exact hX.size
      have hF2lt : ∀ z, F2 z → z < N := by rw [hN]; exact hat2.lt
      refine wl_p I_ok rfl (wl_nil (f_then ?_))
      refine c_cutK (α := Wl × (Nat → Prop)) [7] rfl (fun z => []) (fun z u => (LogAt u x d z.2 z.1 ∧ At u d F2 z.1.D ∧ (∀ y, z.2 y → H y ∨ w.heap.size ≤ y) ∧ (∀ y, z.2 y → ¬ F2 y) ∧ W.checkpoint b = (z.1, y.2)) ∧ Blk u b2 43 ([.pointer (some ⟨x, 0, none⟩)]) ∧ Blk u b3 56 ([.slice p b.length c]) ∧ Blk u b6 95 ([.int .u32 (nx : Int)]) ∧ Ext (fun y => F y ∨ H y) w u) ?_ ?_
      · refine c_seq ?_
        refine c_region (wl_p I_ok rfl (wl_nil (f_then (c_if rfl (fun hc => ?_) (fun hc => ?_)))))
        · have hy0 : y.2 = 0 := hc
          obtain ⟨⟨q, cq, rows, hlb, _, _, _⟩, _, _⟩ := id hlog2
          dsimp only at hlb
          rw [show decide (y.2 ≠ 0) = false from decide_eq_false fun e => e hy0] at hlb
          have hxl := hHlt x hxH
          have h2x : ¬ One x b2 := fun e => by have e : b2 = x := e; omega
          have h3x : ¬ One x b3 := fun e => by have e : b3 = x := e; omega
          have h6x : ¬ One x b6 := fun e => by have e : b6 = x := e; omega
          have hNC : N = w9.heap.size := hN
          refine c_drawX rfl 19 19 [] (One x) (by kernel_rfl) fun w10 hE10 hs10 => ?_
          have hd2 := hb2
          have hd3 := hb3
          have hd6 := hb6
          have hlogd := hlog
          have hatd := hat
          have hsbd := hsb
          have hrtd := hrt
          have hlog2d := hlog2
          have hat2d := hat2
          have hlbd := hlb
          have hXd := hX
          have hb2 := hb2.extNo hE10
          have hb3 := hb3.extNo hE10
          have hb6 := hb6.extNo hE10
          have hsb := hsb.extNo hE10
          have hat2 := hat2.extNo hE10
          have hlb := hlb.extNo hE10
          have hX := hX.thenNo hE10
          have hC : Ext (One x) _ w10 := hE10.no
          refine wx_plan [(0, true), (1, true), (2, true), (3, true), (4, true), (7, true), (8, true), (5, false)] 11 rfl (by kernel_rfl) (wd_ld I_ok rfl rfl (fun w' hw' => ((hd2.ext hw' h2x).cell rfl)) ?_)
          refine wd_ld I_ok rfl rfl (fun w' hw' => ((hd2.ext hw' h2x).cell rfl)) ?_
          refine wd_ld I_ok rfl rfl (fun w' hw' => ((hd2.ext hw' h2x).cell rfl)) ?_
          refine wd_ld I_ok rfl rfl (fun w' hw' => ((hd6.ext hw' h6x).cell rfl)) ?_
          refine wd_ld I_ok rfl rfl (fun w' hw' => ((hd3.ext hw' h3x).cell rfl)) ?_
          refine wd_ld I_ok rfl rfl (fun w' hw' => ((hd3.ext hw' h3x).cell rfl)) ?_
          refine wd_k I_ok 1 rfl ?_
          have hNs0 := hC.size
          refine wd_l rfl (st_call Tryz.call53 rfl rfl rfl rfl rfl rfl (cloneB_calls w10 hsb hbl) fun v11 w11 hr11 => ⟨(by obtain ⟨q2, k2, rfl, ho2, hnq, hE11⟩ := hr11; exact hC.thenNo hE11), ?_⟩)
          obtain ⟨q2, k2, rfl, ho2, hnq, hE11⟩ := hr11
          have hb2 := hb2.extNo hE11
          have hb3 := hb3.extNo hE11
          have hb6 := hb6.extNo hE11
          have hsb := hsb.extNo hE11
          have hat2 := hat2.extNo hE11
          have hlb := hlb.extNo hE11
          have hX := hX.thenNo hE11
          have hC := hC.thenNo hE11
          have hnN : ∀ z, OwnB q2 z → N ≤ z := fun z hz => by have := hnq z hz; omega
          refine wd_tail rfl (wx_alt [6, 9] rfl (by kernel_rfl) ⟨⟨_, rfl, ?_⟩, ⟨_, rfl, ?_⟩, trivial⟩)
          · refine st_bs I_ok rfl 1 rfl rfl rfl (by decide) (by decide) (by simp [partsOk]) (l' := [.slice q2 b.length k2]) rfl fun b43 w12 hn43 hb43 hE12 hs12 => ⟨hC.thenNo hE12, ?_⟩
            have ne2_43 : b2 ≠ b43 := Nat.ne_of_lt (Nat.lt_of_lt_of_le hb2.lt hn43)
            have ne3_43 : b3 ≠ b43 := Nat.ne_of_lt (Nat.lt_of_lt_of_le hb3.lt hn43)
            have ne6_43 : b6 ≠ b43 := Nat.ne_of_lt (Nat.lt_of_lt_of_le hb6.lt hn43)
            have fr43 := Nat.le_trans hX.size hn43
            have frhC43 := Nat.le_trans hC.size hn43
            have hb2 := hb2.extNo hE12
            have hb3 := hb3.extNo hE12
            have hb6 := hb6.extNo hE12
            have hat2 := hat2.extNo hE12
            have hlb := hlb.extNo hE12
            have ho2 := ho2.ext hE12 fun _ _ => id
            have hX := hX.thenNo hE12
            have hC := hC.thenNo hE12
            refine wx_plan [(9, false), (10, true), (11, true), (12, false), (13, true), (14, true), (15, false), (16, true), (17, true), (18, false)] 0 rfl (by kernel_rfl) ?_
            refine wd_l rfl (st_call Tryz.call22 rfl rfl rfl rfl rfl rfl (sectors_calls w12 (b.length : Int)) fun v13 w13 hr13 => ⟨(by obtain ⟨rfl, hE13⟩ := hr13; exact hC.thenNo hE13), ?_⟩)
            obtain ⟨rfl, hE13⟩ := hr13
            have hb2 := hb2.extNo hE13
            have hb3 := hb3.extNo hE13
            have hb6 := hb6.extNo hE13
            have hb43 := hb43.extNo hE13
            have hat2 := hat2.extNo hE13
            have hlb := hlb.extNo hE13
            have ho2 := ho2.ext hE13 fun _ _ => id
            have hX := hX.thenNo hE13
            have hC := hC.thenNo hE13
            rw [sectZ_nat]
            refine wd_k I_ok 2 rfl ?_
            have hlb0 := hlb
            refine wd_l rfl (st_set I_ok hlb rfl rfl (Nat.lt_of_lt_of_eq (by decide : 0 + (1 + 1) < 6) rfl) fun w14 hlb hE14 hs14 => ⟨hC.then hE14, ?_⟩)
            have hb2 := hb2.ext hE14 h2x
            have hb3 := hb3.ext hE14 h3x
            have hb6 := hb6.ext hE14 h6x
            have hb43 := hb43.ext hE14 fun e => by have e : b43 = x := e; omega
            have hC := hC.then hE14
            have hX := hX.then (hE14.mono fun z _ e => .inr (by have e : z = x := e; rw [e]; exact hxH))
            have hat2 := hat2.ext hE14 fun z hz e => by have e : z = x := e; subst e; exact hHF2 z hxH hz
            have ho2 := ho2.extTy hE14 hlb0 (by decide)
            refine wd_k I_ok 2 rfl ?_
            have hlb0 := hlb
            refine wd_l rfl (st_set I_ok hlb rfl rfl (Nat.lt_of_lt_of_eq (by decide : 0 + (2 + 1) < 6) rfl) fun w15 hlb hE15 hs15 => ⟨hC.then hE15, ?_⟩)
            have hb2 := hb2.ext hE15 h2x
            have hb3 := hb3.ext hE15 h3x
            have hb6 := hb6.ext hE15 h6x
            have hb43 := hb43.ext hE15 fun e => by have e : b43 = x := e; omega
            have hC := hC.then hE15
            have hX := hX.then (hE15.mono fun z _ e => .inr (by have e : z = x := e; rw [e]; exact hxH))
            have hat2 := hat2.ext hE15 fun z hz e => by have e : z = x := e; subst e; exact hHF2 z hxH hz
            have ho2 := ho2.extTy hE15 hlb0 (by decide)
            refine wd_k I_ok 2 rfl ?_
            have hlb0 := hlb
            refine wd_l rfl (st_set I_ok hlb rfl rfl (Nat.lt_of_lt_of_eq (by decide : 0 + (3 + 1) < 6) rfl) fun w16 hlb hE16 hs16 => ⟨hC.then hE16, ?_⟩)
            have hb2 := hb2.ext hE16 h2x
            have hb3 := hb3.ext hE16 h3x
            have hb6 := hb6.ext hE16 h6x
            have hb43 := hb43.ext hE16 fun e => by have e : b43 = x := e; omega
            have hC := hC.then hE16
            have hX := hX.then (hE16.mono fun z _ e => .inr (by have e : z = x := e; rw [e]; exact hxH))
            have hat2 := hat2.ext hE16 fun z hz e => by have e : z = x := e; subst e; exact hHF2 z hxH hz
            have ho2 := ho2.extTy hE16 hlb0 (by decide)
            have hho := fun z (hz : OwnB q2 z) => ho2.lt hz
            have hxw := hX.size
            refine wd_sw (wb_nil ?_)
            exact f_cut ({ W with D := y.1, broken := false, turn := W.turn + 1, pieces := [b], used := sectN b.length }, fun z => z = x ∨ z = b43 ∨ OwnB q2 z) rfl ⟨⟨⟨⟨some ⟨b43, 0, none⟩, 1, _, (by rw [hnx] at hlb; exact hlb), Own.blk (n := 1) (c := 1) hb43 1 rfl (Nat.le_refl _) (by decide), PiecesAt.snoc (ps := []) (rows := []) ⟨rfl, fun i b v h => by cases h⟩ (PieceAt.ofOwn ho2 fun z hz => .inr (.inr hz)), fun z hz => by cases hz; exact .inr (.inl rfl)⟩, .inl rfl, fun z hz => by rcases hz with rfl | rfl | hz; exact hlb.lt; exact hb43.lt; exact hho z hz⟩, hat2, fun z hz => by rcases hz with rfl | rfl | hz; exact .inl hxH; exact .inr fr43; exact .inr (Nat.le_trans hNw (hnN z hz)), fun z hz e => by rcases hz with rfl | rfl | hz; exact hHF2 _ hxH e; have := hF2lt _ e; omega; have := hF2lt z e; have := hnN z hz; omega, by rw [hy0]; exact ckp_ok hre hy hy0⟩, hb2, hb3, hb6, hX⟩
          · refine st_call Tryz.call22 rfl rfl rfl rfl rfl rfl (sectors_calls w11 (b.length : Int)) fun v17 w17 hr17 => ⟨(by obtain ⟨rfl, hE17⟩ := hr17; exact hC.thenNo hE17), ?_⟩
            obtain ⟨rfl, hE17⟩ := hr17
            have hb2 := hb2.extNo hE17
            have hb3 := hb3.extNo hE17
            have hb6 := hb6.extNo hE17
            have hat2 := hat2.extNo hE17
            have hlb := hlb.extNo hE17
            have ho2 := ho2.ext hE17 fun _ _ => id
            have hX := hX.thenNo hE17
            have hC := hC.thenNo hE17
            rw [sectZ_nat]
            refine wx_plan [(10, true), (11, true)] 8 rfl (by kernel_rfl) (wd_k I_ok 2 rfl (wd_tail rfl (wx_alt [6, 12] rfl (by kernel_rfl) ⟨⟨_, rfl, ?_⟩, ⟨_, rfl, ?_⟩, trivial⟩)))
            · refine st_bs I_ok rfl 1 rfl rfl rfl (by decide) (by decide) (by simp [partsOk]) (l' := [.slice q2 b.length k2]) rfl fun b43 w18 hn43 hb43 hE18 hs18 => ⟨hC.thenNo hE18, ?_⟩
              have ne2_43 : b2 ≠ b43 := Nat.ne_of_lt (Nat.lt_of_lt_of_le hb2.lt hn43)
              have ne3_43 : b3 ≠ b43 := Nat.ne_of_lt (Nat.lt_of_lt_of_le hb3.lt hn43)
              have ne6_43 : b6 ≠ b43 := Nat.ne_of_lt (Nat.lt_of_lt_of_le hb6.lt hn43)
              have fr43 := Nat.le_trans hX.size hn43
              have frhC43 := Nat.le_trans hC.size hn43
              have hb2 := hb2.extNo hE18
              have hb3 := hb3.extNo hE18
              have hb6 := hb6.extNo hE18
              have hat2 := hat2.extNo hE18
              have hlb := hlb.extNo hE18
              have ho2 := ho2.ext hE18 fun _ _ => id
              have hX := hX.thenNo hE18
              have hC := hC.thenNo hE18
              refine wx_plan [(12, false), (13, true), (14, true), (15, false), (16, true), (17, true), (18, false)] 0 rfl (by kernel_rfl) ?_
              have hlb0 := hlb
              refine wd_l rfl (st_set I_ok hlb rfl rfl (Nat.lt_of_lt_of_eq (by decide : 0 + (1 + 1) < 6) rfl) fun w19 hlb hE19 hs19 => ⟨hC.then hE19, ?_⟩)
              have hb2 := hb2.ext hE19 h2x
              have hb3 := hb3.ext hE19 h3x
              have hb6 := hb6.ext hE19 h6x
              have hb43 := hb43.ext hE19 fun e => by have e : b43 = x := e; omega
              have hC := hC.then hE19
              have hX := hX.then (hE19.mono fun z _ e => .inr (by have e : z = x := e; rw [e]; exact hxH))
              have hat2 := hat2.ext hE19 fun z hz e => by have e : z = x := e; subst e; exact hHF2 z hxH hz
              have ho2 := ho2.extTy hE19 hlb0 (by decide)
              refine wd_k I_ok 2 rfl ?_
              have hlb0 := hlb
              refine wd_l rfl (st_set I_ok hlb rfl rfl (Nat.lt_of_lt_of_eq (by decide : 0 + (2 + 1) < 6) rfl) fun w20 hlb hE20 hs20 => ⟨hC.then hE20, ?_⟩)
              have hb2 := hb2.ext hE20 h2x
              have hb3 := hb3.ext hE20 h3x
              have hb6 := hb6.ext hE20 h6x
              have hb43 := hb43.ext hE20 fun e => by have e : b43 = x := e; omega
              have hC := hC.then hE20
              have hX := hX.then (hE20.mono fun z _ e => .inr (by have e : z = x := e; rw [e]; exact hxH))
              have hat2 := hat2.ext hE20 fun z hz e => by have e : z = x := e; subst e; exact hHF2 z hxH hz
              have ho2 := ho2.extTy hE20 hlb0 (by decide)
              refine wd_k I_ok 2 rfl ?_
              have hlb0 := hlb
              refine wd_l rfl (st_set I_ok hlb rfl rfl (Nat.lt_of_lt_of_eq (by decide : 0 + (3 + 1) < 6) rfl) fun w21 hlb hE21 hs21 => ⟨hC.then hE21, ?_⟩)
              have hb2 := hb2.ext hE21 h2x
              have hb3 := hb3.ext hE21 h3x
              have hb6 := hb6.ext hE21 h6x
              have hb43 := hb43.ext hE21 fun e => by have e : b43 = x := e; omega
              have hC := hC.then hE21
              have hX := hX.then (hE21.mono fun z _ e => .inr (by have e : z = x := e; rw [e]; exact hxH))
              have hat2 := hat2.ext hE21 fun z hz e => by have e : z = x := e; subst e; exact hHF2 z hxH hz
              have ho2 := ho2.extTy hE21 hlb0 (by decide)
              have hho := fun z (hz : OwnB q2 z) => ho2.lt hz
              have hxw := hX.size
              refine wd_sw (wb_nil ?_)
              exact f_cut ({ W with D := y.1, broken := false, turn := W.turn + 1, pieces := [b], used := sectN b.length }, fun z => z = x ∨ z = b43 ∨ OwnB q2 z) rfl ⟨⟨⟨⟨some ⟨b43, 0, none⟩, 1, _, (by rw [hnx] at hlb; exact hlb), Own.blk (n := 1) (c := 1) hb43 1 rfl (Nat.le_refl _) (by decide), PiecesAt.snoc (ps := []) (rows := []) ⟨rfl, fun i b v h => by cases h⟩ (PieceAt.ofOwn ho2 fun z hz => .inr (.inr hz)), fun z hz => by cases hz; exact .inr (.inl rfl)⟩, .inl rfl, fun z hz => by rcases hz with rfl | rfl | hz; exact hlb.lt; exact hb43.lt; exact hho z hz⟩, hat2, fun z hz => by rcases hz with rfl | rfl | hz; exact .inl hxH; exact .inr fr43; exact .inr (Nat.le_trans hNw (hnN z hz)), fun z hz e => by rcases hz with rfl | rfl | hz; exact hHF2 _ hxH e; have := hF2lt _ e; omega; have := hF2lt z e; have := hnN z hz; omega, by rw [hy0]; exact ckp_ok hre hy hy0⟩, hb2, hb3, hb6, hX⟩
            · have hlb0 := hlb
              refine st_set I_ok hlb rfl rfl (Nat.lt_of_lt_of_eq (by decide : 0 + (1 + 1) < 6) rfl) fun w22 hlb hE22 hs22 => ⟨hC.then hE22, ?_⟩
              have hb2 := hb2.ext hE22 h2x
              have hb3 := hb3.ext hE22 h3x
              have hb6 := hb6.ext hE22 h6x
              have hC := hC.then hE22
              have hX := hX.then (hE22.mono fun z _ e => .inr (by have e : z = x := e; rw [e]; exact hxH))
              have hat2 := hat2.ext hE22 fun z hz e => by have e : z = x := e; subst e; exact hHF2 z hxH hz
              have ho2 := ho2.extTy hE22 hlb0 (by decide)
              refine wx_plan [(6, false), (13, true), (14, true), (15, false), (16, true), (17, true), (18, false)] 0 rfl (by kernel_rfl) ?_
              refine wd_l rfl (st_bs I_ok rfl 1 rfl rfl rfl (by decide) (by decide) (by simp [partsOk]) (l' := [.slice q2 b.length k2]) rfl fun b43 w23 hn43 hb43 hE23 hs23 => ⟨hC.thenNo hE23, ?_⟩)
              have ne2_43 : b2 ≠ b43 := Nat.ne_of_lt (Nat.lt_of_lt_of_le hb2.lt hn43)
              have ne3_43 : b3 ≠ b43 := Nat.ne_of_lt (Nat.lt_of_lt_of_le hb3.lt hn43)
              have ne6_43 : b6 ≠ b43 := Nat.ne_of_lt (Nat.lt_of_lt_of_le hb6.lt hn43)
              have fr43 := Nat.le_trans hX.size hn43
              have frhC43 := Nat.le_trans hC.size hn43
              have hb2 := hb2.extNo hE23
              have hb3 := hb3.extNo hE23
              have hb6 := hb6.extNo hE23
              have hat2 := hat2.extNo hE23
              have hlb := hlb.extNo hE23
              have ho2 := ho2.ext hE23 fun _ _ => id
              have hX := hX.thenNo hE23
              have hC := hC.thenNo hE23
              refine wd_k I_ok 2 rfl ?_
              have hlb0 := hlb
              refine wd_l rfl (st_set I_ok hlb rfl rfl (Nat.lt_of_lt_of_eq (by decide : 0 + (2 + 1) < 6) rfl) fun w24 hlb hE24 hs24 => ⟨hC.then hE24, ?_⟩)
              have hb2 := hb2.ext hE24 h2x
              have hb3 := hb3.ext hE24 h3x
              have hb6 := hb6.ext hE24 h6x
              have hb43 := hb43.ext hE24 fun e => by have e : b43 = x := e; omega
              have hC := hC.then hE24
              have hX := hX.then (hE24.mono fun z _ e => .inr (by have e : z = x := e; rw [e]; exact hxH))
              have hat2 := hat2.ext hE24 fun z hz e => by have e : z = x := e; subst e; exact hHF2 z hxH hz
              have ho2 := ho2.extTy hE24 hlb0 (by decide)
              refine wd_k I_ok 2 rfl ?_
              have hlb0 := hlb
              refine wd_l rfl (st_set I_ok hlb rfl rfl (Nat.lt_of_lt_of_eq (by decide : 0 + (3 + 1) < 6) rfl) fun w25 hlb hE25 hs25 => ⟨hC.then hE25, ?_⟩)
              have hb2 := hb2.ext hE25 h2x
              have hb3 := hb3.ext hE25 h3x
              have hb6 := hb6.ext hE25 h6x
              have hb43 := hb43.ext hE25 fun e => by have e : b43 = x := e; omega
              have hC := hC.then hE25
              have hX := hX.then (hE25.mono fun z _ e => .inr (by have e : z = x := e; rw [e]; exact hxH))
              have hat2 := hat2.ext hE25 fun z hz e => by have e : z = x := e; subst e; exact hHF2 z hxH hz
              have ho2 := ho2.extTy hE25 hlb0 (by decide)
              have hho := fun z (hz : OwnB q2 z) => ho2.lt hz
              have hxw := hX.size
              refine wd_sw (wb_nil ?_)
              exact f_cut ({ W with D := y.1, broken := false, turn := W.turn + 1, pieces := [b], used := sectN b.length }, fun z => z = x ∨ z = b43 ∨ OwnB q2 z) rfl ⟨⟨⟨⟨some ⟨b43, 0, none⟩, 1, _, (by rw [hnx] at hlb; exact hlb), Own.blk (n := 1) (c := 1) hb43 1 rfl (Nat.le_refl _) (by decide), PiecesAt.snoc (ps := []) (rows := []) ⟨rfl, fun i b v h => by cases h⟩ (PieceAt.ofOwn ho2 fun z hz => .inr (.inr hz)), fun z hz => by cases hz; exact .inr (.inl rfl)⟩, .inl rfl, fun z hz => by rcases hz with rfl | rfl | hz; exact hlb.lt; exact hb43.lt; exact hho z hz⟩, hat2, fun z hz => by rcases hz with rfl | rfl | hz; exact .inl hxH; exact .inr fr43; exact .inr (Nat.le_trans hNw (hnN z hz)), fun z hz e => by rcases hz with rfl | rfl | hz; exact hHF2 _ hxH e; have := hF2lt _ e; omega; have := hF2lt z e; have := hnN z hz; omega, by rw [hy0]; exact ckp_ok hre hy hy0⟩, hb2, hb3, hb6, hX⟩
        · refine c_skip ?_
          exact f_cut ({ W with D := y.1, broken := true }, H) rfl ⟨⟨by have e := hlog2; rw [decide_eq_true hc] at e; exact e.data rfl rfl rfl rfl rfl, hat2, fun z hz => .inl hz, hHF2, ckp_bad hre hy hc⟩, hb2, hb3, hb6, hX⟩
      rintro ⟨V, G⟩ w26 ⟨⟨hlog3, hat3, hGs, hGF, hap⟩, hb2, hb3, hb6, hX⟩
      refine c_seq (c_region (wl_p I_ok rfl (wl_nil (f_then (c_ret (f_ret1 rfl rfl ?_))))))
      rw [hap]
      exact ⟨rfl, F2, G, hat3, hlog3, hFs, hGs, hGF, hX⟩
end Go.Proofs.YtlfdlodcjiaiiaaGreatDoor
namespace Go.Proofs.YtlfdlodcjiaiiaaGreatDoor
open Go.Vc
theorem ready_nil (w : World) {p : Option Addr} {n k : Nat} :
    CallsV Tryz.prog 48 [.pointer none, .slice p n k] w fun v w' => v = .int .i64 1 ∧ Ext No w w' := by
  refine calls_enter Tryz.func48 rfl rfl rfl rfl ?_
  have hX := Ext.refl No w
  refine c_seq (c_region (wl_p I_ok rfl (wl_nil (f_then (c_seq (c_block (c_seq (c_region (wl_p I_ok rfl (wl_nil (f_then (c_condT rfl (c_seq (c_region (wl_p I_ok rfl (wl_nil (f_then (c_ret (f_blockR (f_thenR (f_ret1 rfl rfl ?_)))))))))))))))))))))
  exact ⟨rfl, hX⟩

theorem append_nil (w : World) {p : Option Addr} {n k : Nat} :
    CallsV Tryz.prog 17 [.pointer none, .slice p n k] w fun v w' => v = .int .i64 1 ∧ Ext No w w' := by
  refine calls_enter Tryz.func17 rfl rfl rfl rfl ?_
  have hX := Ext.refl No w
  refine c_seq (c_region (wl (st_al I_ok rfl fun b2 w1 hn2 hb2 hE1 => ?_)))
  have fr2 := Nat.le_trans hX.size hn2
  have hX := hX.thenNo hE1
  have hb2 : Blk w1 b2 43 ([.pointer none]) := hb2
  refine wl (st_al I_ok rfl fun b3 w2 hn3 hb3 hE2 => ?_)
  have ne2_3 : b2 ≠ b3 := Nat.ne_of_lt (Nat.lt_of_lt_of_le hb2.lt hn3)
  have fr3 := Nat.le_trans hX.size hn3
  have hb2 := hb2.extNo hE2
  have hX := hX.thenNo hE2
  have hb3 : Blk w2 b3 56 ([.slice p n k]) := hb3
  refine wl_p I_ok rfl (wl_nil (f_then (c_seq (c_seq (c_region (wl (st_ldb I_ok hb2 rfl rfl (wl (st_ldb I_ok hb3 rfl rfl (wl (st_call Tryz.call48 rfl rfl rfl rfl rfl rfl (ready_nil w2 (p := p) (n := n) (k := k)) fun v3 w3 hr3 => ?_)))))))))))
  obtain ⟨rfl, hE3⟩ := hr3
  have hb2 := hb2.extNo hE3
  have hb3 := hb3.extNo hE3
  have hX := hX.thenNo hE3
  refine wl_p I_ok rfl (wl_nil (f_then (c_seq (c_region (wl_p I_ok rfl (wl_nil (f_then (c_condT rfl (c_seq (c_region (wl_p I_ok rfl (wl_nil (f_then (c_ret (f_thenR (f_ret1 rfl rfl ?_))))))))))))))))
  exact ⟨rfl, hX⟩

theorem checkpoint_nil (w : World) {p : Option Addr} {n k : Nat} :
    CallsV Tryz.prog 28 [.pointer none, .slice p n k] w fun v w' => v = .int .i64 1 ∧ Ext No w w' := by
  refine calls_enter Tryz.func28 rfl rfl rfl rfl ?_
  have hX := Ext.refl No w
  refine c_seq (c_region (wl (st_al I_ok rfl fun b2 w1 hn2 hb2 hE1 => ?_)))
  have fr2 := Nat.le_trans hX.size hn2
  have hX := hX.thenNo hE1
  have hb2 : Blk w1 b2 43 ([.pointer none]) := hb2
  refine wl (st_al I_ok rfl fun b3 w2 hn3 hb3 hE2 => ?_)
  have ne2_3 : b2 ≠ b3 := Nat.ne_of_lt (Nat.lt_of_lt_of_le hb2.lt hn3)
  have fr3 := Nat.le_trans hX.size hn3
  have hb2 := hb2.extNo hE2
  have hX := hX.thenNo hE2
  have hb3 : Blk w2 b3 56 ([.slice p n k]) := hb3
  refine wl_p I_ok rfl (wl_nil (f_then (c_seq (c_seq (c_region (wl (st_ldb I_ok hb2 rfl rfl (wl (st_ldb I_ok hb3 rfl rfl (wl (st_call Tryz.call48 rfl rfl rfl rfl rfl rfl (ready_nil w2 (p := p) (n := n) (k := k)) fun v3 w3 hr3 => ?_)))))))))))
  obtain ⟨rfl, hE3⟩ := hr3
  have hb2 := hb2.extNo hE3
  have hb3 := hb3.extNo hE3
  have hX := hX.thenNo hE3
  refine wl_p I_ok rfl (wl_nil (f_then (c_seq (c_region (wl_p I_ok rfl (wl_nil (f_then (c_condT rfl (c_seq (c_region (wl_p I_ok rfl (wl_nil (f_then (c_ret (f_thenR (f_ret1 rfl rfl ?_))))))))))))))))
  exact ⟨rfl, hX⟩

theorem snapshot_nil (w : World) :
    CallsV Tryz.prog 74 [.pointer none] w fun v w' => v = .slice none 0 0 ∧ Ext No w w' := by
  refine calls_enter Tryz.func74 rfl rfl rfl rfl ?_
  have hX := Ext.refl No w
  refine c_seq (c_region (wl_p I_ok rfl (wl_nil (f_then (c_seq (c_seq (c_region (wl_p I_ok rfl (wl_nil (f_then (c_condT rfl (c_seq (c_region (wl_p I_ok rfl (wl_nil (f_then (c_ret (f_thenR (f_ret1 rfl rfl ?_)))))))))))))))))))
  exact ⟨rfl, hX⟩

theorem logLen_nil (w : World) :
    CallsV Tryz.prog 20 [.pointer none] w fun v w' => v = .int .i64 0 ∧ Ext No w w' := by
  refine calls_enter Tryz.func20 rfl rfl rfl rfl ?_
  have hX := Ext.refl No w
  refine c_seq (c_region (wl_p I_ok rfl (wl_nil (f_then (c_seq (c_seq (c_region (wl_p I_ok rfl (wl_nil (f_then (c_condT rfl (c_seq (c_region (wl_p I_ok rfl (wl_nil (f_then (c_ret (f_thenR (f_ret1 rfl rfl ?_)))))))))))))))))))
  exact ⟨rfl, hX⟩

theorem left_nil (w : World) :
    CallsV Tryz.prog 21 [.pointer none] w fun v w' => v = .int .i64 0 ∧ Ext No w w' := by
  refine calls_enter Tryz.func21 rfl rfl rfl rfl ?_
  have hX := Ext.refl No w
  refine c_seq (c_region (wl_p I_ok rfl (wl_nil (f_then (c_seq (c_seq (c_region (wl_p I_ok rfl (wl_nil (f_then (c_condT rfl (c_seq (c_region (wl_p I_ok rfl (wl_nil (f_then (c_ret (f_thenR (f_ret1 rfl rfl ?_)))))))))))))))))))
  exact ⟨rfl, hX⟩

theorem turn_nil (w : World) :
    CallsV Tryz.prog 72 [.pointer none] w fun v w' => v = .int .u32 0 ∧ Ext No w w' := by
  refine calls_enter Tryz.func72 rfl rfl rfl rfl ?_
  have hX := Ext.refl No w
  refine c_seq (c_region (wl_p I_ok rfl (wl_nil (f_then (c_seq (c_seq (c_region (wl_p I_ok rfl (wl_nil (f_then (c_condT rfl (c_seq (c_region (wl_p I_ok rfl (wl_nil (f_then (c_ret (f_thenR (f_ret1 rfl rfl ?_)))))))))))))))))))
  exact ⟨rfl, hX⟩

theorem logDisk_nil (w : World) :
    CallsV Tryz.prog 34 [.pointer none] w fun v w' => v = .pointer none ∧ Ext No w w' := by
  refine calls_enter Tryz.func34 rfl rfl rfl rfl ?_
  have hX := Ext.refl No w
  refine c_seq (c_region (wl_p I_ok rfl (wl_nil (f_then (c_seq (c_seq (c_region (wl_p I_ok rfl (wl_nil (f_then (c_condT rfl (c_seq (c_region (wl_p I_ok rfl (wl_nil (f_then (c_ret (f_thenR (f_ret1 rfl rfl ?_)))))))))))))))))))
  exact ⟨rfl, hX⟩

theorem broken_nil (w : World) :
    CallsV Tryz.prog 73 [.pointer none] w fun v w' => v = .bool false ∧ Ext No w w' := by
  refine calls_enter Tryz.func73 rfl rfl rfl rfl ?_
  have hX := Ext.refl No w
  refine c_seq (c_region (wl_p I_ok rfl (wl_nil (f_then (c_cutK (α := Bool) [] rfl (fun z => [(2, .bool z)]) (fun z u => u = w ∧ z = false) ?_ ?_)))))
  · refine c_region ?_
    refine wl_p I_ok rfl (wl_case 5 rfl (fun hg => ?_) (fun hg => ?_))
    · cases hg
    · refine wl_pk I_ok 6 rfl ?_
      refine wl_nil ?_
      exact f_cut (_) rfl ⟨rfl, rfl⟩
  rintro z w1 ⟨hu, rfl⟩
  have hu := hu.symm
  subst hu
  refine c_ret (f_ret1 rfl rfl ?_)
  exact ⟨rfl, hX⟩

theorem all_nil (w : World) :
    CallsV Tryz.prog 23 [.pointer none] w fun v w' => ∃ b, v = .func (.func 59) #[] #[.pointer (some ⟨b, 0, none⟩)] ∧ Blk w' b 96 [.slice none 0 0] ∧ w.heap.size ≤ b ∧ Ext No w w' := by
  refine calls_enter Tryz.func23 rfl rfl rfl rfl ?_
  have hX := Ext.refl No w
  refine c_seq (c_region (wl_p I_ok rfl (wl_nil (f_then (c_seq (c_region (wl (st_al I_ok rfl fun b3 w1 hn3 hb3 hE1 => ?_))))))))
  have fr3 := Nat.le_trans hX.size hn3
  have hX := hX.thenNo hE1
  refine wl_nil (f_then (c_cutK (α := Unit) [3] rfl (fun z => []) (fun z u => Blk u b3 96 ([.slice none 0 0]) ∧ Ext No w u) ?_ ?_))
  · refine c_seq ?_
    refine c_region (wl_p I_ok rfl (wl_nil (f_then (c_condF rfl (c_skip ?_)))))
    exact f_cut (()) rfl ⟨hb3, hX⟩
  rintro ⟨⟩ w2 ⟨hb3, hX⟩
  refine c_seq (c_region (wl_p I_ok rfl (wl_nil (f_then (c_ret (f_ret1 rfl rfl ?_))))))
  exact ⟨b3, rfl, hb3, fr3, hX⟩
end Go.Proofs.YtlfdlodcjiaiiaaGreatDoor
namespace Go.Proofs.YtlfdlodcjiaiiaaGreatDoor
open Go.Vc
theorem formatW_ok {D : Dsk} {m : Nat} (hok : D.Ok m) (area : Int) : (formatW D area).1.Ok (m + 6000) ∧ (formatW D area).1.secs.length = D.secs.length := by
  by_cases h : 0 ≤ area ∧ FitsB area.toNat D.secs.length
  · obtain ⟨a, rfl⟩ : ∃ a : Nat, area = (a : Int) := ⟨area.toNat, by omega⟩
    rw [Int.toNat_natCast] at h
    have h1 := layD_ok (List.replicate (2 + 2 * a) zeros) 0 hok (zeros_rep _)
    rw [List.length_replicate] at h1
    have h2 := h.2.2.1
    rw [formatW_yes h.2]
    split
    · exact ⟨h1.mono (by omega), layD_secs _ _ _⟩
    · exact ⟨(beginD_ok h1 0 a []).mono (by have : sectN ([] : Bytes).length = 1 := rfl; omega), by rw [beginD_secs, layD_secs]⟩
  · rw [formatW_no h]
    exact ⟨hok.mono (by omega), rfl⟩
theorem format_fine {D : Dsk} {a : Nat} (h : (formatW D (a : Int)).2 = 0) {m : Nat} (hok : D.Ok m) : Wl.Ok (Wl.fresh (formatW D (a : Int)).1 a) ∧ FitsB a D.secs.length := by
  have hf : FitsB a D.secs.length := by
    refine Decidable.byContradiction fun hn => ?_
    rw [formatW_no (fun e => hn (by have := e.2; rwa [Int.toNat_natCast] at this))] at h
    exact absurd (show (2 : Int) = 0 from h) (by decide)
  have hs := (formatW_ok hok (a : Int)).2
  exact ⟨⟨⟨hf.1, hf.2.1⟩, by show 2 + 2 * a ≤ _; rw [show (Wl.fresh (formatW D (a : Int)).1 a).D = (formatW D (a : Int)).1 from rfl, hs]; exact hf.2.2, by show 0 < 4294967296; decide, by simp [Wl.fresh], fun b hb => by rw [List.mem_singleton.1 hb]; exact Nat.zero_le _, by have := hf.1; show 1 ≤ a; omega, rfl, by have := hf.1; show 1 ≤ a; omega⟩, hf⟩
theorem append_fine {W : Wl} {m : Nat} (hok : W.D.Ok m) (hW : Wl.Ok W) (b : Bytes) : (W.append b).1.D.Ok (m + 2000) ∧ Wl.Ok (W.append b).1 := by
  by_cases hr : W.refuses b ((W.size : Int) - W.used) = 0
  · obtain ⟨y, hy⟩ : ∃ y, y = layD W.D ((areaB W.turn W.size + W.used : Nat) : Int) (pieceB W.turn W.pieces.length b) := ⟨_, rfl⟩
    have h1 := layD_ok (pieceB W.turn W.pieces.length b) ((areaB W.turn W.size + W.used : Nat) : Int) hok (pieceB_len _ _ _)
    have h2 := layD_secs (pieceB W.turn W.pieces.length b) W.D ((areaB W.turn W.size + W.used : Nat) : Int)
    rw [← hy, pieceB_length] at h1
    rw [← hy] at h2
    have hsl := sectN_le b.length
    by_cases h0 : y.2 = 0
    · rw [append_ok hr hy h0]
      have hb40 : b.length ≤ 40000 := by
        rcases Nat.lt_or_ge 40000 b.length with h | h
        · unfold Wl.refuses at hr; rw [if_pos h] at hr; cases hr
        · exact h
      have hrm : W.used + sectN b.length ≤ W.size := by
        unfold Wl.refuses at hr
        rw [if_neg (by omega)] at hr
        split at hr
        · cases hr
        · split at hr
          · cases hr
          · omega
      have hp := sectN_pos hb40
      have hus : W.pieces.length ≤ usedB W.pieces := by
        have : ∀ (l : List Bytes), (∀ b ∈ l, b.length ≤ 40000) → l.length ≤ usedB l := by
          intro l
          induction l with
          | nil => intro _; exact Nat.le_refl _
          | cons a l ih =>
            intro h
            have := sectN_pos (h a (by simp))
            have e : usedB (a :: l) = sectN a.length + usedB l := by simp [usedB]
            rw [e, List.length_cons]
            have := ih fun x hx => h x (by simp [hx])
            omega
        exact this _ hW.short
      have hu := hW.used
      refine ⟨h1.mono (by omega), ⟨hW.size, by show _ ≤ y.1.secs.length; rw [h2]; exact hW.secs, hW.turn, by simp, fun x hx => ?_, ?_, ?_, hrm⟩⟩
      · rcases List.mem_append.1 hx with hx | hx
        · exact hW.short x hx
        · rw [List.mem_singleton.1 hx]; exact hb40
      · show (W.pieces ++ [b]).length ≤ W.size
        rw [List.length_append, List.length_singleton]
        omega
      · show W.used + sectN b.length = usedB (W.pieces ++ [b])
        rw [usedB_snoc, hu]
    · rw [append_bad hr hy h0]
      exact ⟨h1.mono (by omega), ⟨hW.size, by show _ ≤ y.1.secs.length; rw [h2]; exact hW.secs, hW.turn, hW.some, hW.short, hW.few, hW.used, hW.room⟩⟩
  · rw [append_no hr]
    exact ⟨hok.mono (by omega), hW⟩
theorem ckp_fine {W : Wl} {m : Nat} (hok : W.D.Ok m) (hW : Wl.Ok W) (b : Bytes) : (W.checkpoint b).1.D.Ok (m + 2000) ∧ Wl.Ok (W.checkpoint b).1 := by
  by_cases hr : W.refuses b (if W.turn = 4294967295 then 0 else (W.size : Int)) = 0
  · obtain ⟨y, hy⟩ : ∃ y, y = beginD W.D (W.turn + 1) W.size b := ⟨_, rfl⟩
    have h1 := beginD_ok hok (W.turn + 1) W.size b
    have h2 := beginD_secs W.D (W.turn + 1) W.size b
    rw [← hy] at h1 h2
    have hsl := sectN_le b.length
    by_cases h0 : y.2 = 0
    · rw [ckp_ok hr hy h0]
      have hb40 : b.length ≤ 40000 := by
        rcases Nat.lt_or_ge 40000 b.length with h | h
        · unfold Wl.refuses at hr; rw [if_pos h] at hr; cases hr
        · exact h
      have hp := sectN_pos hb40
      have hrm : sectN b.length ≤ W.size ∧ W.turn ≠ 4294967295 := by
        unfold Wl.refuses at hr
        rw [if_neg (by omega)] at hr
        split at hr
        · cases hr
        · by_cases ht4 : W.turn = 4294967295
          · rw [if_pos ht4, if_pos (by omega)] at hr; cases hr
          · rw [if_neg ht4] at hr
            by_cases h6 : (W.size : Int) < sectN b.length
            · rw [if_pos h6] at hr; cases hr
            · exact ⟨by omega, ht4⟩
      have hz := hW.size.1
      have ht := hW.turn
      refine ⟨h1.mono (by omega), ⟨hW.size, by show _ ≤ y.1.secs.length; rw [h2]; exact hW.secs, by show W.turn + 1 < _; have := hrm.2; omega, by simp, fun x hx => ?_, ?_, ?_, hrm.1⟩⟩
      · rw [List.mem_singleton.1 hx]; exact hb40
      · show 1 ≤ W.size
        omega
      · show sectN b.length = usedB [b]
        simp [usedB]
    · rw [ckp_bad hr hy h0]
      exact ⟨h1.mono (by omega), ⟨hW.size, by show _ ≤ y.1.secs.length; rw [h2]; exact hW.secs, hW.turn, hW.some, hW.short, hW.few, hW.used, hW.room⟩⟩
  · rw [ckp_no hr]
    exact ⟨hok.mono (by omega), hW⟩
theorem readsD_ok : ∀ (k : Nat) {D : Dsk} {m : Nat} (at_ : Int), D.Ok m → (readsD D at_ k).1.Ok (m + k) ∧ (readsD D at_ k).1.secs = D.secs ∧ (readsD D at_ k).1.order = D.order ∧ ((readsD D at_ k).2.2 = 0 → (readsD D at_ k).2.1.length = k ∧ ∀ s ∈ (readsD D at_ k).2.1, s.length = 64)
  | 0, D, m, at_, h => ⟨h, rfl, rfl, fun _ => ⟨rfl, fun s hs => (by cases hs)⟩⟩
  | k + 1, D, m, at_, h => by
    have h1 := h.read at_
    have h2 := Dsk.begin_secs D at_ false
    rw [readsD_step]
    split
    · rename_i he
      exact ⟨h1.mono (by omega), h2.1, h2.2, fun e => absurd e he⟩
    · obtain ⟨a1, a2, a3, a4⟩ := readsD_ok k (at_ + 1) h1
      refine ⟨a1.mono (by omega), a2.trans h2.1, a3.trans h2.2, fun e => ?_⟩
      obtain ⟨b1, b2⟩ := a4 e
      refine ⟨by rw [List.length_cons, b1], fun s hs => ?_⟩
      rcases List.mem_cons.1 hs with rfl | hs
      · unfold Dsk.read
        dsimp only
        split
        · exact now_length (h.begin at_ false) _
        · exact zeros_length
      · exact b2 s hs
theorem lyGo_fine (t : Nat) : ∀ (f : Nat) (area : List Bytes) (n : Nat), (∀ s ∈ area, s.length = 64) → (∀ b ∈ lyGo t f area n, b.length ≤ 40000) ∧ usedB (lyGo t f area n) ≤ area.length
  | 0, area, n, h => ⟨fun b hb => (by cases hb), Nat.zero_le _⟩
  | f + 1, area, n, h => by
    unfold lyGo
    cases hl : liesB area t n with
    | none => exact ⟨fun b hb => (by cases hb), Nat.zero_le _⟩
    | some b =>
      obtain ⟨h1, h2, h3⟩ := liesB_some h hl
      obtain ⟨i1, i2⟩ := lyGo_fine t f (area.drop (sectN b.length)) (n + 1) fun s hs => h s (List.mem_of_mem_drop hs)
      dsimp only
      refine ⟨fun x hx => ?_, ?_⟩
      · rcases List.mem_cons.1 hx with rfl | hx
        · exact h1
        · exact i1 x hx
      · rw [List.length_drop] at i2
        have e : usedB (b :: lyGo t f (area.drop (sectN b.length)) (n + 1)) = sectN b.length + usedB (lyGo t f (area.drop (sectN b.length)) (n + 1)) := by simp [usedB]
        rw [e]
        omega
theorem used_few : ∀ (l : List Bytes), (∀ b ∈ l, b.length ≤ 40000) → l.length ≤ usedB l
  | [], _ => Nat.le_refl _
  | a :: l, h => by
    have := sectN_pos (h a (by simp))
    have e : usedB (a :: l) = sectN a.length + usedB l := by simp [usedB]
    rw [e, List.length_cons]
    have := used_few l fun x hx => h x (by simp [hx])
    omega
theorem openAt_fine {D : Dsk} {m t n : Nat} (hok : D.Ok m) (hn : n ≤ 1000) : (openAt D t n).1.Ok (m + 4000) ∧ (openAt D t n).1.secs.length = D.secs.length ∧ ((openAt D t n).2.1 = 0 → (openAt D t n).2.2.1 = t ∧ (openAt D t n).2.2.2.1 = n ∧ (openAt D t n).2.2.2.2 ≠ [] ∧ (∀ b ∈ (openAt D t n).2.2.2.2, b.length ≤ 40000) ∧ usedB (openAt D t n).2.2.2.2 ≤ n) := by
  obtain ⟨a1, a2, a3, a4⟩ := readsD_ok n (areaB t n) hok
  unfold openAt
  dsimp only
  split
  · rename_i he
    exact ⟨a1.mono (by omega), by rw [a2], fun e => absurd e he⟩
  · rename_i he
    obtain ⟨b1, b2⟩ := a4 (Decidable.not_not.1 he)
    obtain ⟨c1, c2⟩ := lyGo_fine t (readsD D (areaB t n) n).2.1.length (readsD D (areaB t n) n).2.1 0 b2
    split
    · exact ⟨a1.mono (by omega), by rw [a2], fun e => absurd (show (140 : Int) = 0 from e) (by decide)⟩
    · rename_i hne
      have hcl := cleanD_ok a1 ((areaB t n + usedB (lyingB (readsD D (areaB t n) n).2.1 t) : Nat) : Int) ((readsD D (areaB t n) n).2.1.drop (usedB (lyingB (readsD D (areaB t n) n).2.1 t)))
      rw [List.length_drop, b1] at hcl
      exact ⟨hcl.mono (by omega), by rw [cleanD_secs, a2], fun _ => ⟨rfl, rfl, hne, c1, Nat.le_trans c2 (Nat.le_of_eq b1)⟩⟩
theorem openW_fine {D : Dsk} {m : Nat} (hok : D.Ok m) : (openW D).1.Ok (m + 5000) ∧ (openW D).1.secs.length = D.secs.length ∧ ((openW D).2.1 = 0 → Wl.Ok (Wl.opened (openW D))) := by
  obtain ⟨⟨h1, h2, h3⟩, h4 | ⟨t, n, h4, h5, h6, h7⟩⟩ := newestD_spec hok
  · rw [openW_no h4.1]
    exact ⟨h1.mono (by omega), by rw [h2], fun e => absurd e h4.2⟩
  · rw [openW_yes h4]
    obtain ⟨a1, a2, a3⟩ := openAt_fine (t := t) h1 h6.2.1
    have hsl : (openAt (newestD D).1 t n).1.secs.length = D.secs.length := by rw [a2, h2]
    refine ⟨a1.mono (by omega), hsl, fun e => ?_⟩
    obtain ⟨b1, b2, b3, b4, b5⟩ := a3 e
    have hz1 := h6.1
    have hz2 := h6.2.1
    have hz3 := h6.2.2
    refine ⟨?_, ?_, ?_, b3, b4, ?_, rfl, ?_⟩
    · show 4 ≤ (openAt (newestD D).1 t n).2.2.2.1 ∧ (openAt (newestD D).1 t n).2.2.2.1 ≤ 1000
      rw [b2]; exact ⟨hz1, hz2⟩
    · show 2 + 2 * (openAt (newestD D).1 t n).2.2.2.1 ≤ (openAt (newestD D).1 t n).1.secs.length
      rw [b2, hsl]; exact hz3
    · show (openAt (newestD D).1 t n).2.2.1 < 4294967296
      rw [b1]; exact h7
    · show (openAt (newestD D).1 t n).2.2.2.2.length ≤ (openAt (newestD D).1 t n).2.2.2.1
      rw [b2]; exact Nat.le_trans (used_few _ b4) b5
    · show usedB (openAt (newestD D).1 t n).2.2.2.2 ≤ (openAt (newestD D).1 t n).2.2.2.1
      rw [b2]; exact b5
/-- a disk that is made -/
theorem new_calls (w : World) {n : Nat} (h : 1 ≤ n ∧ n ≤ 2048) :
    CallsV Tryz.prog 15 [.int .i64 (n : Int)] w fun v w' => ∃ (d : Nat) (F : Nat → Prop), v = .tuple #[.pointer (some ⟨d, 0, none⟩), .int .i64 0] ∧ At w' d F (Dsk.fresh n) ∧ (∀ y, F y → w.heap.size ≤ y) ∧ Ext No w w' :=
  (dk_new w (n : Int)).mono fun v w' hq => by
    rw [if_pos (by omega)] at hq
    obtain ⟨d, h1, h2, h3, h4⟩ := hq
    rw [Int.toNat_natCast] at h3
    exact ⟨d, _, h1, h3, fun y hy => hy.elim (fun e => e.elim) fun e => e.1, h4⟩
/-- what the layer does, for one log -/
def wkA : Wl := Wl.fresh (formatW (Dsk.fresh 10) 4).1 4
def wkB : Wl := (wkA.append [7, 8]).1
def wkO : Dsk × Int × Nat × Nat × List Bytes := openW (wkB.D.crash [])
theorem wk1 : (formatW (Dsk.fresh 10) 4).2 = 0 := by decide +kernel
theorem wk2 : (wkA.append [7, 8]).2 = 0 := by decide +kernel
theorem wk3 : wkO.2 = (0, 0, 4, [[], [7, 8]]) := by decide +kernel
end Go.Proofs.YtlfdlodcjiaiiaaGreatDoor
namespace Go.Vc
theorem objC_tree {o : ObjD} {a : ObjP} (h : ObjIn o) {t : List UInt8} (ht : t.length = 32) : put (objC o a) 4 (bytesU t) = objC { o with tree := t } a := by
  rw [put_eq _ _ _ (by rw [objC_len h, bytesU_len, ht]; decide), bytesU_len, ht]
  simp only [objC]
  rw [List.take_left' (by rfl), List.append_assoc, ← List.drop_drop, List.drop_left' (by rfl), List.drop_left' (by rw [bytesU_len, h.tree])]
theorem objC_base {o : ObjD} {a : ObjP} (h : ObjIn o) {t : List UInt8} (ht : t.length = 32) : put (objC o a) 36 (bytesU t) = objC { o with base := t } a := by
  rw [put_eq _ _ _ (by rw [objC_len h, bytesU_len, ht]; decide), bytesU_len, ht]
  simp only [objC]
  rw [← List.append_assoc, List.take_left' (by rw [List.length_append, bytesU_len, h.tree]; rfl), List.append_assoc, List.append_assoc, ← List.drop_drop, ← List.append_assoc, List.drop_left' (by rw [List.length_append, bytesU_len, h.tree]; rfl), List.drop_left' (by rw [bytesU_len, h.base])]
  simp only [List.append_assoc]
theorem objC_set {o : ObjD} {a : ObjP} (h : ObjIn o) (i : Nat) (v : Value) : (objC o a).set (68 + i) v =
    [.int .i64 o.kind, strV o.text, .slice a.lp o.leaves.length a.lc, .int .i64 o.style] ++ (bytesU o.tree ++ (bytesU o.base ++
      ([.slice a.pp o.parents.length a.pc, .slice a.rp o.rows.length a.rc, .int .u32 (o.number : Int), .int .u32 (o.author : Int), strV o.note] : List Value).set i v)) := by
  have e1 : 68 + i - 4 - 32 - 32 = i := by omega
  rw [objC, List.set_append_right _ _ (by simp; omega), List.set_append_right _ _ (by rw [bytesU_len, h.tree]; simp; omega), List.set_append_right _ _ (by rw [bytesU_len, bytesU_len, h.tree, h.base]; simp; omega), bytesU_len, bytesU_len, h.tree, h.base]
  rw [show 68 + i - ([.int .i64 o.kind, strV o.text, .slice a.lp o.leaves.length a.lc, .int .i64 o.style] : List Value).length - 32 - 32 = i from e1]
theorem Ds.num_lt (s : Ds) (n : Nat) : num (s.off n).1 < 256 ^ n :=
  Nat.lt_of_lt_of_le (Vc.num_lt _) (Nat.pow_le_pow_right (by decide) (s.off_len n).1)
end Go.Vc
namespace Go.Proofs.YtlfdlodcjiaiiaaGreatDoor
open Go.Vc
theorem str_iff {a b : Str} : strU a = strU b ↔ a = b := ⟨fun h => strU_inj h, fun h => h ▸ rfl⟩
theorem bytesEqual_calls (w : World) {p q : Option Addr} {c d : Nat} {l m : List UInt8} (h : SlB w p l) (h' : SlB w q m) :
    CallsV Tryz.prog 24 [.slice p l.length c, .slice q m.length d] w fun v w' => v = .bool (decide (l = m)) ∧ w' = w := by
  refine calls_enter Tryz.func24 rfl rfl rfl rfl ?_
  have hX := Ext.refl No w
  refine c_seq (c_region (wl_p I_ok rfl (wl_nil (f_then (c_seq (c_region (wl_p I_ok rfl (wl (st_b2s I_ok rfl rfl h (wl_p I_ok rfl (wl (st_b2s I_ok rfl rfl h' (wl_p I_ok rfl (wl_nil (f_then (c_ret (f_ret1 rfl rfl ?_)))))))))))))))))
  exact ⟨congrArg Value.bool (decide_eq_decide.2 str_iff), rfl⟩
def wkW : Wl := ⟨wkO.1, 4, 0, [[], [7, 8]], 2, false⟩
theorem wk4 : Wl.opened wkO = wkW := by
  unfold Wl.opened
  rw [wk3]
  rfl
theorem AllA.one {vs : Array Value} {X : Nat → Prop} {W : World} (h : AllA [[7, 8]] 0 vs X W) : ∃ q c, vs = #[.int .i64 1, .slice q 2 c] ∧ Own W q 2 c 5 1 (bytesU [7, 8]) ∧ X = OwnB q := h
def wakC (w : World) (b5 : Nat) : CoS Unit w where
  Fp := fun _ y => y = b5
  J := fun k _ u => Blk u b5 4 [.bool (decide (0 < k))]
  Jx := fun _ _ _ _ => False
  st := fun h hE hS => h.ext hE fun e => (hS _ e).2 rfl
  stx := fun h _ _ => h.elim
  lt := fun h x e => by rw [show x = b5 from e]; exact h.lt
  ltx := fun h => h.elim
theorem wakes_calls (w : World) (hr : Rt w) :
    CallsV Tryz.prog 5 [] w fun v w' => v = .bool true ∧ Ext No w w' := by
  refine calls_enterM Tryz.func5 rfl rfl rfl rfl ?_
  have hX := Ext.refl No w
  have hr0 := hr.lt
  have hrt := hr
  refine c_seq (c_region (wl_p I_ok rfl (wl_nil (f_then (c_seq (c_region (wl (st_call Tryz.call15 rfl rfl rfl rfl rfl rfl (new_calls w (n := 10) (by decide)) fun v1 w1 hr1 => ?_))))))))
  obtain ⟨d, F1, rfl, hA, hFn, hE1⟩ := hr1
  have hrt := Rt.ext hrt hE1 id
  have hX := hX.thenNo hE1
  have hA := hA
  have hok0 : (Dsk.fresh 10).Ok 0 := Dsk.Ok.fresh (by decide)
  have hok1 := (formatW_ok hok0 4).1
  have hW1 : Wl.Ok wkA := (format_fine (a := 4) wk1 hok0).1
  obtain ⟨hok2, hW2⟩ := append_fine (W := wkA) hok1 hW1 [7, 8]
  have hok3 := hok2.crash []
  have hX1 := hX.size
  refine wl_p I_ok rfl (wl_nil (f_then (c_seq (c_seq (c_region (wl_p I_ok rfl (wl_nil (f_then (c_condF rfl (c_skip (f_then (c_seq (c_region (wl_p I_ok rfl ?_))))))))))))))
  have hXf := hX.size
  refine wl (st_call Tryz.call16 rfl rfl rfl rfl rfl rfl (format_calls w1 hA hok0 (by decide) 4 (by decide) hrt (fun e => by have := hFn 0 e; omega)) fun v2 w2 hr2 => ?_)
  obtain ⟨xo, F2, rfl, hA2, hE2, hFs2, hno, hlo⟩ := hr2
  have hX := hX.trans hE2 fun y hy e => by have := hFn y e; omega
  have hrt := Rt.ext hrt hE2 fun e => by have := hFn 0 e; omega
  have hFn2 : ∀ y, F2 y → w.heap.size ≤ y := fun y hy => (hFs2 y hy).elim (hFn y) fun e => by omega
  obtain ⟨x, H, rfl, hlog, hH⟩ := hlo wk1
  have hlog : LogAt w2 x d H wkA := hlog
  have hA2 : At w2 d F2 wkA.D := hA2
  have hHn : ∀ y, H y → w.heap.size ≤ y := fun y hy => by have := (hH y hy).1; omega
  rw [wk1]
  refine wl_p I_ok rfl (wl_nil (f_then (c_seq (c_cutK (α := Bool × (Nat → Prop)) [1] rfl (fun z => [(31, .bool z.1)]) (fun z u => (z.1 = false ∧ At u d z.2 (wkB.D.crash []) ∧ (∀ y, z.2 y → w.heap.size ≤ y) ∧ Rt u) ∧ Ext No w u) ?_ ?_))))
  · refine c_region ?_
    refine wl_p I_ok rfl (wl_case 21 rfl (fun hg => ?_) (fun hg => ?_))
    · cases hg
    · refine wl_pk I_ok 1 rfl ?_
      have hA2l := hA2.lt
      have hlogl := hlog.lt
      refine wl (st_bs I_ok rfl 1 rfl rfl rfl (by decide) (by decide) (by simp [partsOk]) (l' := bytesU [7, 8]) rfl fun b23 w3 hn23 hb23 hE3 hs3 => ?_)
      have fr23 := Nat.le_trans hX.size hn23
      have hrt := Rt.ext hrt hE3 id
      have hA2 := hA2.extNo hE3
      have hlog := hlog.extNo hE3
      have hX := hX.thenNo hE3
      have hXa := hX.size
      refine wl (st_call Tryz.call17 rfl rfl rfl rfl rfl rfl (append_calls w3 (b := [7, 8]) hlog hA2 hok1 (by decide) hW1 ⟨rfl, .inr ⟨b23, 0, rfl, hb23.seg⟩⟩ (by decide) hrt (fun e => by have := hFn2 0 e; omega) (fun y hy => (hH y hy).2) (fun y off e => by cases e; exact ⟨fun e => by have := hA2l _ e; omega, fun e => by have := hlogl _ e; omega⟩)) fun v4 w4 hr4 => ?_)
      obtain ⟨rfl, F4, H4, hA4, hlog4, hFs4, hHs4, hHF4, hE4⟩ := hr4
      have hFn4 : ∀ y, F4 y → w.heap.size ≤ y := fun y hy => (hFs4 y hy).elim (hFn2 y) fun e => by omega
      have hX := hX.trans hE4 fun y hy e => by rcases e with e | e; have := hFn2 y e; omega; have := hHn y e; omega
      have hrt := Rt.ext hrt hE4 fun e => by rcases e with e | e; have := hFn2 0 e; omega; have := hHn 0 e; omega
      rw [wk2]
      refine wl_pk I_ok 3 rfl (wl_case 27 rfl (fun hg => ?_) (fun hg => ?_))
      · cases hg
      · refine wl_pk I_ok 1 rfl ?_
        refine wl (st_call Tryz.call18 rfl rfl rfl rfl rfl rfl (dk_crash w4 (n := 0) (c := 0) (kp := none) (keep := []) hA4 hok2 (by decide) rfl (Sl.nil _ _ _) (fun _ _ e => by cases e)) fun v5 w5 hr5 => ?_)
        obtain ⟨rfl, hA5, hE5⟩ := hr5
        have hX := hX.trans hE5 fun y hy e => by have := hFn4 y e; omega
        have hrt := Rt.ext hrt hE5 fun e => by have := hFn4 0 e; omega
        refine wl_pk I_ok 2 rfl (wl_nil ?_)
        exact f_cut (false, F4) rfl ⟨⟨rfl, hA5, hFn4, hrt⟩, hX⟩
  rintro ⟨z, F3⟩ w6 ⟨⟨rfl, hA3, hFn3, hrt⟩, hX⟩
  refine c_condF rfl (c_skip (f_then (c_seq (c_region (wl_p I_ok rfl ?_)))))
  have hXo := hX.size
  refine wl (st_call Tryz.call19 rfl rfl rfl rfl rfl rfl (open_calls w6 hA3 hok3 (by decide) hrt (fun e => by have := hFn3 0 e; omega)) fun v7 w7 hr7 => ?_)
  obtain ⟨xo, F6, rfl, hA6, hE7, hFs6, hno6, hlo6⟩ := hr7
  have hX := hX.trans hE7 fun y hy e => by have := hFn3 y e; omega
  have hrt := Rt.ext hrt hE7 fun e => by have := hFn3 0 e; omega
  have hwo : openW (wkB.D.crash []) = wkO := rfl
  have hw0 : wkO.2.1 = 0 := by rw [wk3]
  rw [hwo] at hlo6 ⊢
  obtain ⟨x7, H7, rfl, hlog7, hH7⟩ := hlo6 hw0
  rw [wk4] at hlog7
  have hHn7 : ∀ y, H7 y → w.heap.size ≤ y := fun y hy => by have := (hH7 y hy).1; omega
  rw [hw0]
  refine wl_p I_ok rfl (wl_nil (f_then (c_seq (c_cutK (α := Bool) [4] rfl (fun z => [(52, .bool z)]) (fun z u => (z = false ∧ LogAt u x7 d H7 wkW) ∧ Ext No w u) ?_ ?_))))
  · refine c_region ?_
    refine wl_p I_ok rfl (wl_case 39 rfl (fun hg => ?_) (fun hg => ?_))
    · cases hg
    · refine wl_pk I_ok 1 rfl ?_
      refine wl (st_call Tryz.call20 rfl rfl rfl rfl rfl rfl (logLen_calls w7 hlog7 (by decide)) fun v8 w8 hr8 => ?_)
      obtain ⟨rfl, hE8⟩ := hr8
      have hrt := Rt.ext hrt hE8 id
      have hlog7 := hlog7.extNo hE8
      have hX := hX.thenNo hE8
      rw [show ((wkW.pieces.length : Int) - 1) = 1 from rfl]
      refine wl_pk I_ok 3 rfl (wl_case 44 rfl (fun hg => ?_) (fun hg => ?_))
      · cases hg
      · refine wl_pk I_ok 1 rfl ?_
        refine wl (st_call Tryz.call21 rfl rfl rfl rfl rfl rfl (left_calls w8 hlog7 (by decide) (by decide)) fun v9 w9 hr9 => ?_)
        obtain ⟨rfl, hE9⟩ := hr9
        have hrt := Rt.ext hrt hE9 id
        have hlog7 := hlog7.extNo hE9
        have hX := hX.thenNo hE9
        rw [show ((wkW.size : Int) - wkW.used) = 2 from rfl]
        refine wl_pk I_ok 3 rfl (wl_case 49 rfl (fun hg => ?_) (fun hg => ?_))
        · cases hg
        · refine wl (st_call Tryz.call22 rfl rfl rfl rfl rfl rfl (sectors_calls w9 45) fun v10 w10 hr10 => ?_)
          obtain ⟨rfl, hE10⟩ := hr10
          have hrt := Rt.ext hrt hE10 id
          have hlog7 := hlog7.extNo hE10
          have hX := hX.thenNo hE10
          rw [show sectZ 45 = 2 from by decide]
          refine wl_pk I_ok 2 rfl (wl_nil ?_)
          exact f_cut (false) rfl ⟨⟨rfl, hlog7⟩, hX⟩
  rintro z w11 ⟨⟨rfl, hlog7⟩, hX⟩
  refine c_condF rfl (c_skip (f_then (c_seq (c_region ?_))))
  have hlog7l := hlog7.lt
  refine wl (st_al I_ok rfl fun b5 w12 hn5 hb5 hE12 => ?_)
  have fr5 := Nat.le_trans hX.size hn5
  have hlog7 := hlog7.extNo hE12
  have hX := hX.thenNo hE12
  have hl7 := hlog7l
  refine wl (st_st I_ok hb5 rfl rfl rfl fun w13 hb5 hE13 hs13 => ?_)
  have hlog7 := hlog7.ext hE13 fun y hy e => by have e : y = b5 := e; have := hl7 y hy; omega
  have hX := hX.thenNew hE13 fr5
  have hb5 : Blk w13 b5 4 ([.bool false]) := hb5
  refine wl_nil (f_then (c_seq (c_seq (c_region (wl_p I_ok rfl ?_)))))
  have l5 := hb5.lt
  have h7l := hlog7.lt
  have h7b : ∀ y, H7 y → y ≠ b5 := fun y hy e => by have := hl7 y hy; omega
  refine wl (st_call Tryz.call23 rfl rfl rfl rfl rfl rfl (all_calls w13 hlog7 (by decide) (by decide)) fun v14 w14 hr14 => ?_)
  obtain ⟨bA, qA, cA, rowsA, rfl, hbA, hsA, hpA, hAn, hqA, hE14⟩ := hr14
  have hb5 := hb5.extNo hE14
  have hlog7 := hlog7.extNo hE14
  have hX := hX.thenNo hE14
  have hbA : Blk w14 bA 96 [.slice qA 1 cA] := hbA
  have hsA : Sl w14 qA 1 1 rowsA := hsA
  have hpA : PiecesAt w14 H7 [[7, 8]] rowsA := hpA
  have hlw := hX.size
  refine wl_nil (f_then (c_block ?_))
  refine c_iterV (wakC w14 b5) (()) rfl Tryz.call59 rfl AllA.size (fun w1 hE1 => all1_iter w1 (ps := [[7, 8]]) (hbA.extNo hE1) (hsA.extNo hE1) (hpA.ext hE1 fun _ _ _ => id) (fun y off e _ => Nat.lt_of_lt_of_le (hqA y off e (by decide)).2 hE1.size) (fun y hy => by have := h7l y hy; have := hE14.size; have := hE1.size; omega) (by decide) (by decide)) (fun y hy => by rcases hy with ⟨off, e, h⟩ | hy; exact ⟨(hqA y off e (by decide)).2, fun e2 => by have := (hqA y off e (by decide)).1; have e2 : y = b5 := e2; omega⟩; exact ⟨by have := h7l y hy; have := hE14.size; omega, fun e2 => by have e2 : y = b5 := e2; subst e2; exact h7b _ hy rfl⟩) hb5 (fun l DD r k z W vs Xn hRd hNx hJ hk hA => ?_) (fun DD z W hJ hE hsub hDn hmk hnd => ?_) (fun DD k c z W hk hJ hE hsub hDn hmk hnd => ?_)
  · have hLr := hRd.l
    have hk0 : k = 0 := by have hk : k < 1 := hk; omega
    subst hk0
    obtain ⟨q, c, rfl, hown, rfl⟩ := hA.one
    have hb5 : Blk W b5 4 [.bool false] := hJ
    have nl5 := hb5.neL hLr
    have hX : Ext (fun x => (x = b5 ∨ x = l) ∨ OwnB q x) W W := Ext.refl _ _
    refine ci_seq (ci_region (wli_pR I_ok rfl (wli_nil (fi_then (ci_region (wli_pR I_ok rfl (wli_nil (fin_begin hRd hLr fun w15 hE15 hL15 => ?_))))))))
    have hb5 := hb5.extL hLr hE15
    have hown := hown.ext hE15 fun y hy e => (hNx.ne y hy).2.1 e
    have hLr := hL15
    have hX := hX.then (hE15.mono fun x _ e => .inl (.inr e))
    refine ci_block (ci_region (wli_pR I_ok rfl (wli_case 59 rfl (fun hg => ?_) (fun hg => ?_))))
    · refine wli_pkR I_ok 1 rfl ?_
      refine wli (.round _) rfl (st_bs I_ok rfl 1 rfl rfl rfl (by decide) (by decide) (by simp [partsOk]) (l' := bytesU [7, 8]) rfl fun b61 w16 hn61 hb61 hE16 hs16 => ?_)
      have ne5_61 : b5 ≠ b61 := Nat.ne_of_lt (Nat.lt_of_lt_of_le hb5.lt hn61)
      have fr61 := Nat.le_trans hX.size hn61
      have hb5 := hb5.extNo hE16
      have hown := hown.ext hE16 fun _ _ => id
      have hLr := hl_ext hLr hE16 id
      have hX := hX.thenNo hE16
      have nl61 := hb61.neL hLr
      refine wli (.round _) rfl (st_call Tryz.call24 rfl rfl rfl rfl rfl rfl (bytesEqual_calls w16 (l := [7, 8]) (m := [7, 8]) hown.sl ⟨rfl, .inr ⟨b61, 0, rfl, hb61.seg⟩⟩) fun v17 w17 hr17 => ?_)
      obtain ⟨rfl, rfl⟩ := hr17
      refine wli_pR I_ok rfl (wli (.round _) rfl (st_st I_ok hb5 rfl rfl rfl fun w18 hb5 hE18 hs18 => ?_))
      have hb61 := hb61.ext1 hE18 ne5_61.symm
      have hLr := hl_ext hLr hE18 nl5.symm
      have hX := hX.then (hE18.mono fun x _ e => by have e : x = b5 := e; subst e; exact (.inl (.inl rfl)))
      have hb5 : Blk w18 b5 4 ([.bool true]) := hb5
      refine wli_nil ?_
      exact f_blockN (fin_nextV (()) hRd hNx hLr hX (fun x hx => .inl hx) (hb5))
    · cases hg
  · have hb5 : Blk W b5 4 [.bool true] := hJ
    have hX : Ext No w W := hX.trans hE fun y hy e => by have e : y = b5 := e; omega
    refine f_blockN (f_then (c_seq (c_region (wl (st_ldb I_ok hb5 rfl rfl (wl_p I_ok rfl (wl_nil (f_then (c_ret (f_retMs [DD] (by simp) (fun x hx => by rw [List.mem_singleton.1 hx]; exact hmk) [.bool true] (fun w20 hE20 => ?_) (.inl rfl)))))))))))
    refine ⟨⟨rfl, trivial⟩, rfl, hX.trans hE20 fun x hx e => by rw [List.mem_singleton.1 e] at hx; omega⟩
  · exact hJ.elim
end Go.Proofs.YtlfdlodcjiaiiaaGreatDoor
namespace Go.Proofs.YtlfdlodcjiaiiaaGreatDoor
open Go.Vc
theorem minI (n k : Nat) : (if (k : Int) < (n : Int) then (k : Int) else (n : Int)) = ((min n k : Nat) : Int) := by split <;> omega
theorem min_take {α : Type} (l : List α) (k : Nat) : min l.length k = (l.take k).length := by simp [Nat.min_comm]
def nilC (w : World) (b4 : Nat) : CoS Unit w where
  Fp := fun _ y => y = b4
  J := fun _ _ u => ∃ b, Blk u b4 4 [.bool b]
  Jx := fun _ _ _ _ => False
  st := fun ⟨b, h⟩ hE hS => ⟨b, h.ext hE fun e => (hS _ e).2 rfl⟩
  stx := fun h _ _ => h.elim
  lt := fun ⟨_, h⟩ x e => by rw [show x = b4 from e]; exact h.lt
  ltx := fun h => h.elim
end Go.Proofs.YtlfdlodcjiaiiaaGreatDoor
namespace Go.Proofs.YtlfdlodcjiaiiaaGreatDoor
open Go.Vc Go.WideShapes Go.ChangeShapes Go.ChangeAt Go.RowKit
section
variable {H : Type} {enc : TypeId × Value → H} {W : World} {sp : Nat → Bool} {held : Bool}

theorem list_of {α β : Type} {R : α → β → Prop} : ∀ (L : List β), (∀ r ∈ L, ∃ a, R a r) → ∃ l : List α, l.length = L.length ∧ ∀ (i : Nat) (a : α) (r : β), l[i]? = some a → L[i]? = some r → R a r
  | [], _ => ⟨[], rfl, fun i a r h => by simp at h⟩
  | r :: L, h => by
    obtain ⟨a, ha⟩ := h r (by simp)
    obtain ⟨l, h1, h2⟩ := list_of L fun x hx => h x (by simp [hx])
    refine ⟨a :: l, by simp [h1], fun i b x hb hx => ?_⟩
    cases i with
    | zero => simp at hb hx; subst hb; subst hx; exact ha
    | succ i => exact h2 i b x (by simpa using hb) (by simpa using hx)
/-- a slice of rows, each opened -/
theorem open_list {α : Type} {cells : α → List Value} {ok : α → Prop} {fuel t e m : Nat} {cs : List Value} {x : DataW H × List MemPlace} (ht : Tryz.prog.underlying t = some (.slice e)) (hm : Tryz.prog.cellsOf e = m) (hm0 : 0 < m)
    (hrow : ∀ {k : Nat} {r : List Value} {y : DataW H × List MemPlace}, DataW.trod enc Tryz.prog W 0 sp held k e r = some y → ∃ a, r = cells a ∧ ok a)
    (h : DataW.trod enc Tryz.prog W 0 sp held fuel t cs = some x) :
    ∃ (p : Option Addr) (l : List α) (c : Nat), cs = [.slice p l.length c] ∧ l.length ≤ c ∧ c ≤ maxLen ∧ Sl W p l.length m (l.flatMap cells) ∧ (∀ a ∈ l, ok a) ∧ (l ≠ [] → ∀ b off, p = some ⟨b, off, none⟩ → b < W.heap.size) := by
  obtain ⟨p, n, c, L, rfl, hn, hc, hL, hu, hs, hlt, hr⟩ := open_rows ht hm hm0 h
  obtain ⟨l, h1, h2⟩ := list_of (R := fun a r => r = cells a ∧ ok a) L fun r hr' => by
    obtain ⟨k, y, hy⟩ := hr r hr'
    exact hrow hy
  have e : L = l.map cells := by
    apply List.ext_getElem?
    intro i
    rw [List.getElem?_map]
    by_cases hi : i < l.length
    · have hi' : i < L.length := by omega
      have := (h2 i l[i] L[i] (by simp) (by simp)).1
      simp [hi, hi', this]
    · rw [List.getElem?_eq_none (by omega), List.getElem?_eq_none (by omega)]; rfl
  have hln : l.length = n := by omega
  subst hln
  refine ⟨p, l, c, rfl, hn, hc, by rw [List.flatMap_def, ← e]; exact hs, fun a ha => ?_, fun hne => hlt fun h0 => hne (List.eq_nil_of_length_eq_zero h0)⟩
  obtain ⟨i, hi, rfl⟩ := List.mem_iff_getElem.1 ha
  have hi' : i < L.length := by omega
  exact (h2 i l[i] L[i] (by simp) (by simp)).2
theorem open_byte {fuel : Nat} {cs : List Value} {x : DataW H × List MemPlace} (h : DataW.trod enc Tryz.prog W 0 sp held fuel 5 cs = some x) : ∃ b : UInt8, cs = [byteV b] := by
  obtain ⟨n, rfl, _, hw⟩ := DataW.trod_int Tryz.underlying5 h
  have hw : 0 ≤ n ∧ n ≤ 255 := by simpa [Lit.wf, IntKind.min, IntKind.max, IntKind.signed, IntKind.bits] using hw
  refine ⟨UInt8.ofNat n.toNat, ?_⟩
  show _ = [Value.int .u8 ((UInt8.ofNat n.toNat).toNat : Int)]
  have e : (UInt8.ofNat n.toNat).toNat = n.toNat := UInt8.toNat_ofNat_of_lt' (by show n.toNat < 256; omega)
  rw [e, Int.toNat_of_nonneg hw.1]
end
theorem own : ownKnob Tryz.prog.godebug = none := by kernel_rfl
theorem gRoots : Tryz.prog.globalNamed "confluence/sha.roots" = some 0 := by kernel_rfl
abbrev laidR : List (String × DataW Unit) := [("confluence/sha.roots", Rows.laid_confluence_sha_roots)]
theorem roots_data {H : Type} : (Rows.laid_confluence_sha_roots : DataW H) = Lib.tabData .u32 (rootsW.map fun x => (x.toNat : Int)) := rfl
theorem roots_of {W : World} (h : laidMetH Tryz.prog laidR W) : Seg W 0 0 (wordsV rootsW) := by
  rw [MakeChecks.laidMetH_plain _ _ _ (by kernel_rfl)] at h
  have h : laidMet Tryz.prog [("confluence/sha.roots", Lib.tabData .u32 (rootsW.map fun x => (x.toNat : Int)))] W := h
  have ht := Lib.tabIs_of_head gRoots (t := 161) (e := 95) (n := 64) (by kernel_rfl) (by kernel_rfl) (by kernel_rfl) (by kernel_rfl) (by kernel_rfl) h
  intro i v hi
  have hlt : i < rootsW.length := by
    have := (List.getElem?_eq_some_iff.1 hi).1
    simpa [wordsV] using this
  have hc := ht.cell gRoots i (by rw [List.length_map]; exact hlt)
  rw [Nat.zero_add, hc, ← hi, wordsV_get rootsW hlt]
  rw [List.getD_eq_getElem?_getD, List.getElem?_map, List.getElem?_eq_getElem hlt]
  rfl
theorem door_met (os : Os) (args : Array Value) : laidMetH Tryz.prog laidR ((World.doorLaid Tryz.prog 400 os).forCall (fun _ _ => 0) ⟨#[], args, []⟩).memory :=
  laidMetH_of_parts3 (fuel := 70) (laidMet_of_run' 70 (by kernel_rfl) (by kernel_rfl)) (by kernel_rfl) (by kernel_rfl)
end Go.Proofs.YtlfdlodcjiaiiaaGreatDoor
namespace Go.Proofs.YtlfdlodcjiaiiaaGreatDoor
open Go.Vc
structure DeedD where
  kind : Int
  num : Int
  byte : UInt8
  p : Option Addr
  keep : List Bool
  c : Nat
def DeedD.cells (o : DeedD) : List Value := [.int .i64 o.kind, .int .i64 o.num, byteV o.byte, .slice o.p o.keep.length o.c]
abbrev DeedD.v (o : DeedD) : Value := .agg o.cells.toArray
def u64N (i : Int) : Nat := (IntKind.u64.wrap i).toNat
def whichD (o : DeedD) : Nat := u64N o.kind % 7 - 2
def lenD (o : DeedD) : Nat := u64N o.num % 400
def bytesD (o : DeedD) : Bytes := (List.range (lenD o)).map fun i => o.byte ^^^ UInt8.ofNat (i + i / 7)
theorem bytesD_len (o : DeedD) : (bytesD o).length = lenD o := by simp [bytesD]
theorem lenD_lt (o : DeedD) : lenD o < 400 := Nat.mod_lt _ (by decide)
theorem u64N_eq (i : Int) : IntKind.u64.wrap i = (u64N i : Int) := by
  have h : 0 ≤ IntKind.u64.wrap i := by rw [IntKind.wrap_u64]; omega
  unfold u64N
  omega
theorem u64_mod (i : Int) (k : Nat) (hk : 0 < k) (hk2 : k < 1000000) : IntKind.i64.wrap ((IntKind.u64.wrap i).tmod (k : Int)) = ((u64N i % k : Nat) : Int) := by
  rw [u64N_eq, Int.tmod_eq_emod_of_nonneg (Int.natCast_nonneg _), ← Int.natCast_emod]
  have := Nat.mod_lt (u64N i) hk
  exact IntWalk.i64_in _ (by omega)
def byteD (o : DeedD) (i : Nat) : UInt8 := o.byte ^^^ UInt8.ofNat (i + i / 7)
theorem byte_at (o : DeedD) (i : Nat) : bitI .xor .u8 (o.byte.toNat : Int) (IntKind.u8.wrap ((i + i / 7 : Nat) : Int)) = ((byteD o i).toNat : Int) := by
  have e1 : IntKind.u8.wrap ((i + i / 7 : Nat) : Int) = ((UInt8.ofNat (i + i / 7)).toNat : Int) := by
    rw [IntKind.wrap_u8, UInt8.toNat_ofNat']
    omega
  rw [e1]
  unfold byteD
  generalize UInt8.ofNat (i + i / 7) = y
  generalize o.byte = x
  show IntKind.u8.wrap ((BitVec.ofInt 8 (x.toNat : Int) ^^^ BitVec.ofInt 8 (y.toNat : Int)).toNat : Int) = _
  have e2 : ∀ z : UInt8, BitVec.ofInt 8 (z.toNat : Int) = z.toBitVec := fun z => by
    apply BitVec.eq_of_toNat_eq
    rw [BitVec.toNat_ofInt]
    have := z.toNat_lt
    show _ = z.toNat
    omega
  rw [e2, e2, ← UInt8.toBitVec_xor]
  have := (x ^^^ y).toNat_lt
  rw [IntKind.wrap_u8]
  show (((x ^^^ y).toNat : Int)) % 256 = _
  omega
def fillD (o : DeedD) (i : Nat) : Bytes := (List.range (lenD o)).map fun j => if j < i then byteD o j else 0
theorem fillD_len (o : DeedD) (i : Nat) : (fillD o i).length = lenD o := by simp [fillD]
theorem fillD_zero (o : DeedD) : fillD o 0 = List.replicate (lenD o) 0 := by
  apply List.ext_getElem
  · simp [fillD]
  · intro i h1 h2; simp [fillD]
theorem fillD_all (o : DeedD) : fillD o (lenD o) = bytesD o := by
  apply List.ext_getElem
  · simp [fillD, bytesD]
  · intro i h1 h2
    rw [fillD_len] at h1
    simp [fillD, bytesD, h1, byteD]
theorem fillD_set (o : DeedD) {i : Nat} (_hi : i < lenD o) : (bytesU (fillD o i)).set i (byteV (byteD o i)) = bytesU (fillD o (i + 1)) := by
  rw [bytesU, ← List.map_set, bytesU]
  congr 1
  apply List.ext_getElem
  · simp [fillD]
  · intro j h1 h2
    rw [List.getElem_set]
    simp only [fillD, List.getElem_map, List.getElem_range]
    by_cases h : i = j
    · subst h; simp
    · rw [if_neg h]
      by_cases h3 : j < i
      · rw [if_pos h3, if_pos (by omega)]
      · rw [if_neg h3, if_neg (by omega)]
theorem which_calls (w : World) (o : DeedD) :
    CallsV Tryz.prog 11 [o.v] w fun v w' => v = .int .i64 (whichD o : Int) ∧ Ext No w w' := by
  refine calls_enter Tryz.func11 rfl rfl rfl rfl ?_
  have hX := Ext.refl No w
  refine c_seq (c_region (wl (st_al I_ok rfl fun b1 w1 hn1 hb1 hE1 => ?_)))
  have fr1 := Nat.le_trans hX.size hn1
  have hX := hX.thenNo hE1
  have hb1 : Blk w1 b1 31 (o.cells) := hb1
  refine wl_p I_ok rfl (wl_nil (f_then (c_seq (c_region (wl_p I_ok rfl (wl (st_ld I_ok rfl (hb1.cell rfl) (wl_p I_ok rfl ?_))))))))
  have h7 := Nat.mod_lt (u64N o.kind) (by decide : 0 < 7)
  rw [show IntKind.i64.wrap ((IntKind.u64.wrap o.kind).tmod 7) = ((u64N o.kind % 7 : Nat) : Int) from u64_mod o.kind 7 (by decide) (by decide)]
  refine wl_p I_ok rfl ?_
  rw [IntWalk.i64_in _ (by omega)]
  refine wl_nil (f_then (c_ret (f_ret1 rfl rfl (⟨?_, hX⟩))))
  unfold whichD
  split
  · rw [show u64N o.kind % 7 - 2 = 0 from by omega]; rfl
  · rw [show ((u64N o.kind % 7 - 2 : Nat) : Int) = ((u64N o.kind % 7 : Nat) : Int) - 2 from by omega]

theorem dbytes_calls (w : World) (o : DeedD) :
    CallsV Tryz.prog 26 [o.v] w fun v w' => ∃ q c, v = .slice q (bytesD o).length c ∧ Own w' q (bytesD o).length c 5 1 (bytesU (bytesD o)) ∧ (∀ y, OwnB q y → w.heap.size ≤ y) ∧ Ext No w w' := by
  refine calls_enter Tryz.func26 rfl rfl rfl rfl ?_
  have hX := Ext.refl No w
  refine c_seq (c_region (wl (st_al I_ok rfl fun b1 w1 hn1 hb1 hE1 => ?_)))
  have fr1 := Nat.le_trans hX.size hn1
  have hX := hX.thenNo hE1
  have hb1 : Blk w1 b1 31 (o.cells) := hb1
  refine wl_p I_ok rfl (wl_nil (f_then (c_seq (c_region (wl_p I_ok rfl (wl (st_ld I_ok rfl (hb1.cell rfl) (wl_p I_ok rfl ?_))))))))
  have h4 := lenD_lt o
  rw [show (IntKind.u64.wrap o.num).tmod 400 = (lenD o : Int) from by rw [u64N_eq, Int.tmod_eq_emod_of_nonneg (Int.natCast_nonneg _)]; rfl]
  refine wl (st_mk I_ok rfl (lenD o) (lenD o) 1 rfl rfl rfl (by decide) rfl rfl (by omega) (by omega) (by dsimp only [maxLen]; omega) fun b9 w2 hn9 hb9 hE2 hs2 => ?_)
  have ne1_9 : b1 ≠ b9 := Nat.ne_of_lt (Nat.lt_of_lt_of_le hb1.lt hn9)
  have fr9 := Nat.le_trans hX.size hn9
  have hb1 := hb1.extNo hE2
  have hX := hX.thenNo hE2
  have hb9 : Blk w2 b9 5 (bytesU (fillD o 0)) := by (rw [fillD_zero, ← rep_bytes]; exact hb9)
  refine wl_p I_ok rfl (wl_nil (f_then (c_seq (c_seq (c_region (wl_p I_ok rfl (wl_nil (f_then (c_block ?_)))))))))
  refine c_loopK (α := Nat) [1, 3, 11] rfl (fun z => [(12, .int .i64 (z : Int))]) (fun z u => (z ≤ lenD o) ∧ Blk u b1 31 (o.cells) ∧ Blk u b9 5 (bytesU (fillD o z)) ∧ Ext No w u) (fun z u => lenD o - z) (0) rfl ⟨Nat.zero_le _, hb1, hb9, hX⟩ ?_
  rintro i w3 ⟨hi, hb1, hb9, hX⟩
  refine c_seq (c_region (wl_p I_ok rfl (wl_nil (f_then (c_seq (c_if rfl (fun hc => ?_) (fun hc => ?_)))))))
  · have hil : i < lenD o := by omega
    refine c_skip (f_then (c_seq (c_block (c_seq (c_region (wl_p I_ok rfl (wl_nil (f_then (c_region (wl_p I_ok rfl (wl (st_ld I_ok rfl (hb1.cell rfl) (wl_p I_ok rfl ?_)))))))))))))
    rw [show IntKind.i64.wrap ((i : Int).tdiv 7) = ((i / 7 : Nat) : Int) from by rw [Int.tdiv_eq_ediv_of_nonneg (Int.natCast_nonneg _), IntWalk.i64_in _ (by omega)]; omega]
    refine wl_p I_ok rfl ?_
    rw [show IntKind.i64.wrap ((i : Int) + ((i / 7 : Nat) : Int)) = ((i + i / 7 : Nat) : Int) from by rw [IntWalk.i64_in _ (by omega)]; omega]
    refine wl_p I_ok rfl ?_
    rw [byte_at o i]
    refine wl (st_ix I_ok rfl 1 rfl i rfl hil (0 + i * 1) rfl (wl (st_set I_ok hb9 rfl rfl (by rw [bytesU_len, fillD_len]; omega) fun w4 hb9 hE4 hs4 => ?_)))
    have hb1 := hb1.ext1 hE4 ne1_9
    have hX := hX.thenNew hE4 fr9
    have hb9 : Blk w4 b9 5 (bytesU (fillD o (i + 1))) := by (have e := hb9; rw [show 0 + i * 1 = i from by omega, fillD_set o hil] at e; exact e)
    refine wl_nil (f_blockN (f_then (c_region (wl_p I_ok rfl ?_))))
    rw [IntWalk.i64_in _ (by omega)]
    refine wl_nil ?_
    exact f_round (i + 1) rfl ⟨by omega, hb1, hb9, hX⟩ (by first | omega | (dsimp only; omega))
  · have hil : i = lenD o := by omega
    subst hil
    refine c_exit (f_thenE (f_thenE (f_blockE (f_then (c_seq (c_region (wl_p I_ok rfl (wl_nil (f_then (c_ret (f_ret1 rfl rfl (⟨_, (bytesD o).length, by rw [bytesD_len], ?_, fun y hy => by cases hy; exact fr9, hX⟩))))))))))))
    have e := Own.blk (n := lenD o) (c := lenD o) hb9 1 (by rw [bytesU_len, fillD_len, Nat.mul_one]) (Nat.le_refl _) (by dsimp only [maxLen]; omega)
    rw [List.take_of_length_le (by rw [bytesU_len, fillD_len]; omega), fillD_all, ← bytesD_len] at e
    exact e
end Go.Proofs.YtlfdlodcjiaiiaaGreatDoor
namespace Go.Proofs.YtlfdlodcjiaiiaaGreatDoor
open Go.Vc Go.WideShapes Go.ChangeShapes Go.ChangeAt Go.RowKit
/-- what a deed keeps stands in memory -/
def DeedAt (w : World) (o : DeedD) : Prop := Sl w o.p o.keep.length 1 (o.keep.map Value.bool) ∧ o.keep.length ≤ o.c ∧ (o.keep ≠ [] → ∀ b off, o.p = some ⟨b, off, none⟩ → b < w.heap.size)
theorem list_four {α : Type} : ∀ {cs : List α}, cs.length = 4 → ∃ a b c d, cs = [a, b, c, d]
  | [a, b, c, d], _ => ⟨a, b, c, d, rfl⟩
section
variable {H : Type} {enc : TypeId × Value → H} {W : World} {sp : Nat → Bool} {held : Bool}
theorem open_num {fuel : Nat} {cs : List Value} {x : DataW H × List MemPlace} (h : DataW.trod enc Tryz.prog W 0 sp held fuel 3 cs = some x) : ∃ n : Int, cs = [.int .i64 n] := by
  obtain ⟨n, rfl, _, hw⟩ := DataW.trod_int Tryz.underlying3 h
  exact ⟨n, rfl⟩
theorem open_deed {fuel : Nat} {cs : List Value} {x : DataW H × List MemPlace} (h : DataW.trod enc Tryz.prog W 0 sp held fuel 31 cs = some x) : ∃ o : DeedD, cs = o.cells ∧ DeedAt W o := by
  obtain ⟨xs, k, rfl, _, hlen, hxs, hf⟩ := DataW.trod_struct Tryz.underlying31 h
  have k36 : Tryz.prog.cellsOf 31 = 4 := by kernel_rfl
  have k3 : Tryz.prog.cellsOf 3 = 1 := by kernel_rfl
  have k5 : Tryz.prog.cellsOf 5 = 1 := by kernel_rfl
  have k34 : Tryz.prog.cellsOf 29 = 1 := by kernel_rfl
  have hxs : xs.length = 4 := hxs
  have g0 : DataW.trod enc Tryz.prog W 0 sp held k 3 ((cs.drop 0).take (Tryz.prog.cellsOf 3)) = _ := hf 0 _ rfl
  have g1 : DataW.trod enc Tryz.prog W 0 sp held k 3 ((cs.drop 1).take (Tryz.prog.cellsOf 3)) = _ := hf 1 _ rfl
  have g2 : DataW.trod enc Tryz.prog W 0 sp held k 5 ((cs.drop 2).take (Tryz.prog.cellsOf 5)) = _ := hf 2 _ rfl
  have g3 : DataW.trod enc Tryz.prog W 0 sp held k 29 ((cs.drop 3).take (Tryz.prog.cellsOf 29)) = _ := hf 3 _ rfl
  rw [k3, List.getElem?_eq_getElem (by omega)] at g0 g1
  rw [k5, List.getElem?_eq_getElem (by omega)] at g2
  rw [k34, List.getElem?_eq_getElem (by omega)] at g3
  rw [k36] at hlen
  obtain ⟨n0, e0⟩ := open_num g0
  obtain ⟨n1, e1⟩ := open_num g1
  obtain ⟨n2, e2⟩ := open_byte g2
  obtain ⟨p, l, c, e3, hc, _, hs, _, hlt⟩ := open_list (cells := fun b => [Value.bool b]) (ok := fun _ => True) Tryz.underlying29 (by kernel_rfl : Tryz.prog.cellsOf 4 = 1) (by decide) (fun h => by obtain ⟨b, hb, _⟩ := DataW.trod_bool Tryz.underlying4 h; exact ⟨b, hb, trivial⟩) g3
  refine ⟨⟨n0, n1, n2, p, l, c⟩, ?_, ?_, hc, hlt⟩
  · clear g0 g1 g2 g3 hf
    obtain ⟨a, b, c', d, rfl⟩ := list_four hlen
    simp only [List.drop_zero, List.drop_succ_cons, List.take_succ_cons, List.take_zero, List.cons.injEq, and_true] at e0 e1 e2 e3
    rw [e0, e1, e2, e3]
    rfl
  · have e : l.flatMap (fun b => [Value.bool b]) = l.map Value.bool := by rw [List.map_eq_flatMap]
    rw [e] at hs
    exact hs
theorem open_deeds {fuel : Nat} {cs : List Value} {x : DataW H × List MemPlace} (h : DataW.trod enc Tryz.prog W 0 sp held fuel 22 cs = some x) :
    ∃ (p : Option Addr) (l : List DeedD) (c : Nat), cs = [.slice p l.length c] ∧ l.length ≤ c ∧ Sl W p l.length 4 (l.flatMap DeedD.cells) ∧ (∀ o ∈ l, DeedAt W o) ∧ (l ≠ [] → ∀ b off, p = some ⟨b, off, none⟩ → b < W.heap.size) := by
  obtain ⟨p, l, c, e, hc, _, hs, hin, hlt⟩ := open_list (cells := DeedD.cells) (ok := DeedAt W) Tryz.underlying22 (by kernel_rfl : Tryz.prog.cellsOf 31 = 4) (by decide) (fun h => open_deed h) h
  exact ⟨p, l, c, e, hc, hs, hin, hlt⟩
end
end Go.Proofs.YtlfdlodcjiaiiaaGreatDoor
namespace Go.Proofs.YtlfdlodcjiaiiaaGreatDoor
open Go.Vc
theorem sectN_find {n k : Nat} (hn : n ≤ 40000) (h1 : 48 * (k - 1) < n + 4) (h2 : n + 4 ≤ 48 * k) (hk : 1 ≤ k) : k = sectN n := by
  rw [sectN, if_neg (by omega)]
  omega
theorem refSectors_calls (w : World) (n : Int) :
    CallsV Tryz.prog 68 [.int .i64 n] w fun v w' => v = .int .i64 (sectZ n) ∧ Ext No w w' := by
  refine calls_enter Tryz.func68 rfl rfl rfl rfl ?_
  have hX := Ext.refl No w
  refine c_seq (c_region (wl_p I_ok rfl (wl_nil (f_then (c_seq (c_cutK (α := Bool) [0] rfl (fun z => [(9, .bool z)]) (fun z u => u = w ∧ z = decide (n < 0 ∨ 40000 < n)) ?_ ?_))))))
  · refine c_region ?_
    refine wl_p I_ok rfl (wl_caseD 6 rfl (fun hg => ?_) (fun hg => ?_))
    · refine wl_pk I_ok 3 rfl ?_
      refine wl_nil ?_
      exact f_cut (true) rfl ⟨rfl, by simp [hg]⟩
    · refine wl_pk I_ok 3 rfl ?_
      refine wl_nil ?_
      exact f_cut (_) rfl ⟨rfl, by simp [hg]⟩
  rintro z w1 ⟨hu, rfl⟩
  have hu := hu.symm
  subst hu
  refine c_if rfl (fun hc => ?_) (fun hc => ?_)
  · have e1 : sectZ n = 0 := if_pos hc
    rw [e1]
    refine c_seq (c_region (wl_p I_ok rfl (wl_nil (f_then (c_ret (f_thenR (f_ret1 rfl rfl ?_)))))))
    exact ⟨rfl, hX⟩
  · obtain ⟨m, rfl⟩ : ∃ m : Nat, n = (m : Int) := ⟨n.toNat, by omega⟩
    rw [sectZ_nat]
    have hm : m ≤ 40000 := by omega
    refine c_skip (f_then (c_seq (c_region (wl_p I_ok rfl (wl_nil (f_then (c_seq (c_block ?_))))))))
    refine c_loopK (α := Nat) [0] rfl (fun z => [(3, .int .i64 (z : Int))]) (fun z u => (1 ≤ z ∧ 48 * (z - 1) < m + 4) ∧ Ext No w u) (fun z u => m + 4 - z) (1) rfl ⟨⟨Nat.le_refl _, by omega⟩, hX⟩ ?_
    rintro k w2 ⟨⟨hk1, hk⟩, hX⟩
    refine c_seq (c_seq (c_region (wl_p I_ok rfl ?_)))
    rw [IntWalk.i64_in _ (by omega)]
    rw [IntWalk.i64_in _ (by omega)]
    refine wl_nil (f_then (c_if rfl (fun hc => ?_) (fun hc => ?_)))
    · refine c_skip ?_
      refine f_then (c_block (c_region (wl_p I_ok rfl ?_)))
      rw [IntWalk.i64_in _ (by omega)]
      refine wl_nil ?_
      exact f_blockN (f_round (k + 1) rfl ⟨⟨by omega, by omega⟩, hX⟩ (by first | omega | (dsimp only; omega)))
    · have hks : k = sectN m := sectN_find hm hk (by omega) hk1
      refine c_exit (f_thenE (f_thenE (f_blockE (f_then (c_seq (c_region (wl_p I_ok rfl (wl_nil (f_then (c_ret (f_ret1 rfl rfl ?_)))))))))))
      exact ⟨by rw [hks], hX⟩

theorem refFits_calls (w : World) (n : Int) (S : Nat) (_hS : S < 1000000) :
    CallsV Tryz.prog 60 [.int .i64 n, .int .i64 (S : Int)] w fun v w' => v = .bool (decide (0 ≤ n ∧ FitsB n.toNat S)) ∧ Ext No w w' := by
  refine calls_enter Tryz.func60 rfl rfl rfl rfl ?_
  have hX := Ext.refl No w
  refine c_seq (c_region (wl_p I_ok rfl (wl_nil (f_then (c_cutK (α := Bool) [] rfl (fun z => [(4, .bool z)]) (fun z u => (z = decide (0 ≤ n ∧ FitsB n.toNat S)) ∧ Ext No w u) ?_ ?_)))))
  · refine c_region ?_
    refine wl_p I_ok rfl (wl_caseD 7 rfl (fun hg => ?_) (fun hg => ?_))
    · refine wl_pk I_ok 4 rfl ?_
      refine wl_caseD 11 rfl (fun hg => ?_) (fun hg => ?_)
      · have hg2 := hg
        refine wl_pk I_ok 7 rfl (wl_nil ?_)
        exact f_cut (_) rfl ⟨by rw [IntWalk.i64_in (2 * n) (by omega), IntWalk.i64_in (2 + 2 * n) (by omega), decide_eq_decide]; unfold FitsB; omega, hX⟩
      · refine wl_pk I_ok 7 rfl ?_
        refine wl_nil ?_
        exact f_cut (false) rfl ⟨by symm; rw [decide_eq_false_iff_not]; unfold FitsB; omega, hX⟩
    · refine wl_pk I_ok 11 rfl ?_
      refine wl_nil ?_
      exact f_cut (false) rfl ⟨by symm; rw [decide_eq_false_iff_not]; unfold FitsB; omega, hX⟩
  rintro z w1 ⟨rfl, hX⟩
  refine c_ret (f_ret1 rfl rfl ?_)
  exact ⟨rfl, hX⟩

theorem refFrom_calls (w : World) (t n : Nat) (_ht : t < 4294967296) (hn : n < 1000000) :
    CallsV Tryz.prog 66 [.int .u32 (t : Int), .int .i64 (n : Int)] w fun v w' => v = .int .i64 (areaB t n : Int) ∧ Ext No w w' := by
  refine calls_enter Tryz.func66 rfl rfl rfl rfl ?_
  have hX := Ext.refl No w
  refine c_seq (c_region (wl_p I_ok rfl (wl_nil (f_then (c_seq (c_region (wl_p I_ok rfl (wl_nil (f_then (c_ret (f_ret1 rfl rfl (⟨?_, hX⟩))))))))))))
  have e0 : ((t : Int).tmod 2) = ((t % 2 : Nat) : Int) := by rw [Int.tmod_eq_emod_of_nonneg (Int.natCast_nonneg _)]; omega
  rw [e0, areaB_eq]
  rcases Nat.mod_two_eq_zero_or_one t with h | h
  · rw [h, IntWalk.i64_in ((0 : Nat) : Int) (by omega), show (((0 : Nat) : Int) * (n : Int)) = 0 from by simp, IntWalk.i64_in 0 (by omega), IntWalk.i64_in _ (by omega)]
    simp
  · rw [h, IntWalk.i64_in ((1 : Nat) : Int) (by omega), show (((1 : Nat) : Int) * (n : Int)) = n from by simp, IntWalk.i64_in (n : Int) (by omega), IntWalk.i64_in _ (by omega)]
    simp

theorem refSealed_calls (w : World) {p : Option Addr} {c : Nat} {l : Bytes} (h : SlB w p l) (hl : l.length ≤ 60) :
    CallsV Tryz.prog 96 [.slice p l.length c] w fun v w' => v = numB (sealB l) ∧ Ext No w w' := by
  refine calls_enter Tryz.func96 rfl rfl rfl rfl ?_
  have hX := Ext.refl No w
  have hsl := h
  obtain ⟨R, hR⟩ : ∃ R, R = l ++ List.replicate (60 - l.length) 0 := ⟨_, rfl⟩
  have hRl : R.length = 60 := by rw [hR]; simp; omega
  have hS : sealB l = (sumW R).take 4 ++ R := by rw [hR]; rfl
  refine c_seq (c_region (wl (st_al I_ok rfl fun b2 w1 hn2 hb2 hE1 => ?_)))
  have fr2 := Nat.le_trans hX.size hn2
  have hsl := hsl.extNo hE1
  have hX := hX.thenNo hE1
  have hb2 : Blk w1 b2 37 (bytesU (List.replicate 64 0)) := by (rw [show bytesU (List.replicate 64 0) = cellsOf ti37.zero from zeros_b]; exact hb2)
  refine wl_nil (f_then (c_seq (c_region (wl_p I_ok rfl ?_))))
  rw [IntWalk.i64_in _ (by omega)]
  rw [show (60 : Int) - (l.length : Int) = ((60 - l.length : Nat) : Int) from by omega]
  refine wl (st_mk I_ok rfl (60 - l.length) (60 - l.length) 1 rfl rfl rfl (by decide) rfl rfl (by omega) (by omega) (by dsimp only [maxLen]; omega) fun b9 w2 hn9 hb9 hE2 hs2 => ?_)
  have ne2_9 : b2 ≠ b9 := Nat.ne_of_lt (Nat.lt_of_lt_of_le hb2.lt hn9)
  have fr9 := Nat.le_trans hX.size hn9
  have hb2 := hb2.extNo hE2
  have hsl := hsl.extNo hE2
  have hX := hX.thenNo hE2
  have hb9 : Blk w2 b9 5 (bytesU (List.replicate (60 - l.length) 0)) := by (rw [← rep_bytes]; exact hb9)
  rw [show Value.slice (some ⟨b9, 0, none⟩) (60 - l.length) (60 - l.length) = .slice (some ⟨b9, 0, none⟩) (List.replicate (60 - l.length) (0 : UInt8)).length (60 - l.length) from by rw [List.length_replicate]]
  refine wl (st_call Tryz.call94 rfl rfl rfl rfl rfl rfl (both_calls w2 (m := List.replicate (60 - l.length) 0) hsl hb9.slB (by omega) (by rw [List.length_replicate]; omega)) fun v3 w3 hr3 => ?_)
  obtain ⟨q, k, rfl, hq, hqn, hE3⟩ := hr3
  have hb2 := hb2.extNo hE3
  have hb9 := hb9.extNo hE3
  have hsl := hsl.extNo hE3
  have hX := hX.thenNo hE3
  rw [← hR] at hq ⊢
  refine wl_p I_ok rfl (wl_nil (f_then (c_seq (c_region (wl_p I_ok rfl (wl (st_call Tryz.call104 rfl rfl rfl rfl rfl rfl (refSum_calls w3 hq.sl (by omega)) fun v4 w4 hr4 => ?_)))))))
  obtain ⟨rfl, hE4⟩ := hr4
  have hb2 := hb2.extNo hE4
  have hb9 := hb9.extNo hE4
  have hq := hq.ext hE4 fun _ _ => id
  have hX := hX.thenNo hE4
  have hql := fun y (hy : OwnB q y) => hq.lt hy
  refine wl (st_al I_ok rfl fun b4 w5 hn4 hb4 hE5 => ?_)
  have ne2_4 : b2 ≠ b4 := Nat.ne_of_lt (Nat.lt_of_lt_of_le hb2.lt hn4)
  have ne9_4 : b9 ≠ b4 := Nat.ne_of_lt (Nat.lt_of_lt_of_le hb9.lt hn4)
  have fr4 := Nat.le_trans hX.size hn4
  have hb2 := hb2.extNo hE5
  have hb9 := hb9.extNo hE5
  have hq := hq.ext hE5 fun _ _ => id
  have hX := hX.thenNo hE5
  refine wl (st_stW (l' := bytesU (sumW R)) I_ok hb4 rfl rfl (by rw [bytesU_len, sumW_len]) (by rw [bytesU_len, sumW_len]; rfl) OneC.h fun w6 hb4 hE6 hs6 => ?_)
  have hb2 := hb2.ext1 hE6 ne2_4
  have hb9 := hb9.ext1 hE6 ne9_4
  have hq := hq.ext hE6 fun y hy e => by have e : y = b4 := e; have := hql y hy; omega
  have hX := hX.thenNew hE6 fr4
  have hb4 : Blk w6 b4 142 (bytesU (sumW R)) := hb4
  refine wl_nil (f_then (c_seq (c_region (wl (st_sa I_ok rfl 0 4 32 1 rfl ⟨.inr ⟨rfl, rfl⟩, .inl rfl, .inr ⟨rfl, rfl⟩, by decide, by decide, by decide⟩ ?_)))))
  have h4 : ((sumW R).take 4).length = 4 := by rw [List.length_take, sumW_len]; rfl
  have hs4 : SlB w6 (some ⟨b4, 0, none⟩) ((sumW R).take 4) := ⟨by rw [bytesU_len, Nat.mul_one], .inr ⟨b4, 0, rfl, by have e := hb4.seg.take 4; rwa [bytesU_take] at e⟩⟩
  rw [slBase_zero, Nat.sub_zero, show Value.slice (some ⟨b4, 0, none⟩) 4 (32 - 0) = .slice (some ⟨b4, 0, none⟩) ((sumW R).take 4).length 32 from by rw [h4]]
  refine wl_p I_ok rfl (wl (st_call Tryz.call94 rfl rfl rfl rfl rfl rfl (both_calls w6 hs4 hq.sl (by omega) (by omega)) fun v7 w7 hr7 => ?_))
  obtain ⟨q2, k2, rfl, hq2, hqn2, hE7⟩ := hr7
  have hb2 := hb2.extNo hE7
  have hb9 := hb9.extNo hE7
  have hb4 := hb4.extNo hE7
  have hq := hq.ext hE7 fun _ _ => id
  have hX := hX.thenNo hE7
  rw [← hS] at hq2 ⊢
  have hSl : (sealB l).length = 64 := sealB_len hl
  obtain ⟨bq, off, rfl, hseg⟩ : ∃ bq off, q2 = some ⟨bq, off, none⟩ ∧ Seg w7 bq off (bytesU (sealB l)) := by
    rcases hq2.sl.2 with h0 | h1
    · omega
    · exact h1
  refine wl (st_sp I_ok rfl (Nat.le_of_eq hSl.symm) (wl (st_ldN I_ok rfl hseg (by rw [bytesU_len, hSl]) (wl (st_stW (l' := bytesU (sealB l)) I_ok hb2 rfl rfl (by rw [bytesU_len, hSl]) (by rw [bytesU_len, hSl]; rfl) OneC.h fun w8 hb2 hE8 hs8 => ?_)))))
  have hb9 := hb9.ext1 hE8 ne2_9.symm
  have hb4 := hb4.ext1 hE8 ne2_4.symm
  have hX := hX.thenNew hE8 fr2
  refine wl_nil (f_then (c_ret (f_ret [_] ⟨⟨b2, 0, rfl, ld_all I_ok rfl rfl hb2.seg (by rw [bytesU_len, hSl]; rfl)⟩, trivial⟩ ?_)))
  exact ⟨rfl, hX⟩
theorem wrap64 (n : Nat) (h : n < 18446744073709551616) : IntKind.u64.wrap (n : Int) = (n : Int) := by rw [IntKind.wrap_u64]; omega
theorem hi_sl {q : Option Addr} {n x c : Nat} : Value.slice q n c = .slice q (be n x).length c := by rw [be_len]
theorem refHead_calls (w : World) (t n : Nat) (ht : t < 4294967296) (hn : n < 4294967296) :
    CallsV Tryz.prog 93 [.int .u32 (t : Int), .int .i64 (n : Int)] w fun v w' => v = numB (headB t n) ∧ Ext No w w' := by
  refine calls_enter Tryz.func93 rfl rfl rfl rfl ?_
  have hX := Ext.refl No w
  refine c_seq (c_region (wl (st_al I_ok rfl fun b4 w1 hn4 hb4 hE1 => ?_)))
  have fr4 := Nat.le_trans hX.size hn4
  have hX := hX.thenNo hE1
  refine wl_nil (f_then (c_seq (c_region (wl (st_bs I_ok rfl 1 rfl rfl rfl (by decide) (by decide) (by simp [partsOk]) (l' := bytesU lettersB) rfl fun b6 w2 hn6 hb6 hE2 hs2 => ?_)))))
  have ne4_6 : b4 ≠ b6 := Nat.ne_of_lt (Nat.lt_of_lt_of_le hb4.lt hn6)
  have fr6 := Nat.le_trans hX.size hn6
  have hb4 := hb4.extNo hE2
  have hX := hX.thenNo hE2
  refine wl (st_cv I_ok rfl hb6 fun w3 hEn hsg6 hsn => ?_)
  have hX := hX.thenNew hEn fr6
  have hb4 := hb4.ext1 hEn ne4_6
  have hs6 : SlB w3 (some ⟨b6, 0, none⟩) lettersB := ⟨rfl, .inr ⟨b6, 0, rfl, hsg6⟩⟩
  refine wl_p I_ok rfl ?_
  rw [wrap64 t (by omega)]
  refine wl (st_call Tryz.call95 rfl rfl rfl rfl rfl rfl (high_calls 4 (by decide) w3 t (by omega)) fun v4 w4 hr4 => ?_)
  obtain ⟨qh, kh, rfl, hqh, hqhn, hE4⟩ := hr4
  have hb4 := hb4.extNo hE4
  have hs6 := hs6.extNo hE4
  have hX := hX.thenNo hE4
  rw [hi_sl (q := qh) (n := 4) (x := t) (c := kh)]
  have hqh : Own w4 qh (be 4 t).length kh 5 1 (bytesU (be 4 t)) := by rw [be_len]; exact hqh
  refine wl (st_call Tryz.call94 rfl rfl rfl rfl rfl rfl (both_calls w4 (l := lettersB) hs6 hqh.sl (by decide) (by rw [be_len]; decide)) fun v5 w5 hr5 => ?_)
  obtain ⟨q1, k1, rfl, hq1, hqn1, hE5⟩ := hr5
  have hb4 := hb4.extNo hE5
  have hs6 := hs6.extNo hE5
  have hqh := hqh.ext hE5 fun _ _ => id
  have hX := hX.thenNo hE5
  refine wl_p I_ok rfl (wl_nil (f_then (c_seq (c_region (wl_p I_ok rfl ?_)))))
  rw [wrap64 n (by omega)]
  refine wl (st_call Tryz.call95 rfl rfl rfl rfl rfl rfl (high_calls 4 (by decide) w5 n (by omega)) fun v6 w6 hr6 => ?_)
  obtain ⟨qh, kh, rfl, hqh, hqhn, hE6⟩ := hr6
  have hb4 := hb4.extNo hE6
  have hs6 := hs6.extNo hE6
  have hq1 := hq1.ext hE6 fun _ _ => id
  have hX := hX.thenNo hE6
  rw [hi_sl (q := qh) (n := 4) (x := n) (c := kh)]
  have hqh : Own w6 qh (be 4 n).length kh 5 1 (bytesU (be 4 n)) := by rw [be_len]; exact hqh
  refine wl (st_call Tryz.call94 rfl rfl rfl rfl rfl rfl (both_calls w6 hq1.sl hqh.sl (by simp [lettersB, be_len]) (by rw [be_len]; decide)) fun v7 w7 hr7 => ?_)
  obtain ⟨q2, k2, rfl, hq2, hqn2, hE7⟩ := hr7
  have hb4 := hb4.extNo hE7
  have hs6 := hs6.extNo hE7
  have hqh := hqh.ext hE7 fun _ _ => id
  have hq1 := hq1.ext hE7 fun _ _ => id
  have hX := hX.thenNo hE7
  refine wl (st_call Tryz.call96 rfl rfl rfl rfl rfl rfl (refSealed_calls w7 hq2.sl (by simp [lettersB, be_len])) fun v8 w8 hr8 => ?_)
  obtain ⟨rfl, hE8⟩ := hr8
  have hb4 := hb4.extNo hE8
  have hs6 := hs6.extNo hE8
  have hqh := hqh.ext hE8 fun _ _ => id
  have hq1 := hq1.ext hE8 fun _ _ => id
  have hX := hX.thenNo hE8
  refine wl (st_stW (l' := bytesU (headB t n)) I_ok hb4 rfl rfl (by rw [bytesU_len, headB_len]) (by rw [bytesU_len, headB_len]; rfl) OneC.h fun w9 hb4 hE9 hs9 => ?_)
  have hX := hX.thenNew hE9 fr4
  refine wl_nil (f_then (c_ret (f_ret [_] ⟨⟨b4, 0, rfl, ld_all I_ok rfl rfl hb4.seg (by rw [bytesU_len, headB_len]; rfl)⟩, trivial⟩ ?_)))
  exact ⟨rfl, hX⟩
end Go.Proofs.YtlfdlodcjiaiiaaGreatDoor
namespace Go.Proofs.YtlfdlodcjiaiiaaGreatDoor
open Go.Vc
theorem pieceB_take (t n : Nat) (b : Bytes) {j : Nat} (h : j < sectN b.length) : (pieceB t n b).take (j + 1) = (pieceB t n b).take j ++ [pieceAt t n b j] := by
  have hl : j < (pieceB t n b).length := by rw [pieceB_length]; exact h
  rw [List.take_succ_eq_append_getElem hl]
  simp [pieceB]
theorem put_all {xs ys : List Value} (h : xs.length = ys.length) : Vc.put xs 0 ys = ys := by
  rw [put_eq _ _ _ (by omega), List.take_zero, List.nil_append, List.drop_eq_nil_of_le (by omega), List.append_nil]
theorem flat_bytes_len {l : List Bytes} (h : ∀ s ∈ l, s.length = 64) : (l.flatMap bytesU).length = l.length * 64 := by
  induction l with
  | nil => rfl
  | cons a r ih =>
    rw [List.flatMap_cons, List.length_append, bytesU_64 (h a (by simp)), ih fun x hx => h x (by simp [hx]), List.length_cons]
    omega
theorem refPiece_calls (w : World) (t n : Nat) (ht : t < 4294967296) (hn : n < 4294967296) {p : Option Addr} {c : Nat} {b : Bytes} (h : SlB w p b) (hb : b.length ≤ 40000) :
    CallsV Tryz.prog 65 [.int .u32 (t : Int), .int .u32 (n : Int), .slice p b.length c] w fun v w' => ∃ q k, v = .slice q (pieceB t n b).length k ∧ Own w' q (pieceB t n b).length k 37 64 ((pieceB t n b).flatMap bytesU) ∧ (∀ y, OwnB q y → w.heap.size ≤ y) ∧ Ext No w w' := by
  refine calls_enter Tryz.func65 rfl rfl rfl rfl ?_
  have hX := Ext.refl No w
  have hsl := h
  have hsn := sectN_le b.length
  have hroom := sectN_room hb
  have htight := sectN_tight hb
  have hbl := bodyB_len b
  refine c_seq (c_region (wl_p I_ok rfl (wl_nil (f_then (c_seq (c_region (wl_p I_ok rfl (wl_nil (f_then (c_seq (c_region (wl_p I_ok rfl ?_))))))))))))
  rw [wrap64 b.length (by omega)]
  refine wl (st_call Tryz.call95 rfl rfl rfl rfl rfl rfl (high_calls 4 (by decide) w b.length (by omega)) fun v1 w1 hr1 => ?_)
  obtain ⟨qha, kha, rfl, ha, nha, hE1⟩ := hr1
  have hsl := hsl.extNo hE1
  have hX := hX.thenNo hE1
  rw [hi_sl (q := qha) (n := 4) (x := b.length) (c := kha)]
  have ha : Own w1 qha (be 4 b.length).length kha 5 1 (bytesU (be 4 b.length)) := by rw [be_len]; exact ha
  refine wl_p I_ok rfl (wl (st_call Tryz.call94 rfl rfl rfl rfl rfl rfl (both_calls w1 ha.sl hsl (by rw [be_len]; decide) (by omega)) fun v2 w2 hr2 => ?_))
  obtain ⟨qa, ka, rfl, hall, hna, hE2⟩ := hr2
  have hsl := hsl.extNo hE2
  have ha := ha.ext hE2 fun _ _ => id
  have hX := hX.thenNo hE2
  rw [show be 4 b.length ++ b = bodyB b from rfl] at hall ⊢
  refine wl_p I_ok rfl (wl_nil (f_then (c_seq (c_region (wl_p I_ok rfl ?_)))))
  have hallc := hall.cap
  refine wl (st_call Tryz.call68 rfl rfl rfl rfl rfl rfl (refSectors_calls w2 (b.length : Int)) fun v3 w3 hr3 => ?_)
  obtain ⟨rfl, hE3⟩ := hr3
  have hsl := hsl.extNo hE3
  have hall := hall.ext hE3 fun _ _ => id
  have hX := hX.thenNo hE3
  rw [sectZ_nat]
  have hkc : (bodyB b).length ≤ ka := hallc
  refine wl_p I_ok rfl (wl_nil (f_then (c_seq (c_seq (c_region (wl_p I_ok rfl (wl_nil (f_then (c_block ?_)))))))))
  refine c_loopK (α := Nat × Option Addr × Nat) [0, 1, 8, 9] rfl (fun z => [(7, .slice z.2.1 z.1 z.2.2), (10, .int .i64 (z.1 : Int))]) (fun z u => (z.1 ≤ sectN b.length ∧ Own u z.2.1 z.1 z.2.2 37 64 (((pieceB t n b).take z.1).flatMap bytesU) ∧ (∀ y, OwnB z.2.1 y → w.heap.size ≤ y) ∧ Own u qa (bodyB b).length ka 5 1 (bytesU (bodyB b))) ∧ Ext No w u) (fun z u => sectN b.length - z.1) (0, none, 0) rfl ⟨⟨Nat.zero_le _, Own.nil _ _ _, fun y hy => (by cases hy), hall⟩, hX⟩ ?_
  rintro ⟨j, q, k⟩ w4 ⟨⟨hj, hout, hon, hall⟩, hX⟩
  try dsimp only
  dsimp only at hj hout hon
  refine c_seq (c_seq (c_region (wl_p I_ok rfl (wl_nil (f_then (c_if rfl (fun hc => ?_) (fun hc => ?_)))))))
  · have hjl : j < sectN b.length := by omega
    refine c_skip (f_then (c_seq (c_block (c_seq (c_region (wl_p I_ok rfl ?_))))))
    rw [IntWalk.i64_in (48 * (j : Int)) (by omega), IntWalk.i64_in (48 * (j : Int) + 48) (by omega), show 48 * (j : Int) + 48 = ((48 * j + 48 : Nat) : Int) from by omega]
    refine wl_p I_ok rfl (wl_nil (f_then (c_cutK (α := Nat) [0, 1, 7, 8, 9, 10] rfl (fun z => [(11, .int .i64 (z : Int))]) (fun z u => u = w4 ∧ z = min (48 * j + 48) (bodyB b).length) ?_ ?_)))
    · refine c_seq ?_
      refine c_region (wl_p I_ok rfl (wl_nil (f_then (c_if rfl (fun hc => ?_) (fun hc => ?_)))))
      · refine c_region ?_
        refine wl_p I_ok rfl (wl_nil ?_)
        exact f_cut ((bodyB b).length) rfl ⟨rfl, by omega⟩
      · refine c_skip ?_
        exact f_cut (48 * j + 48) rfl ⟨rfl, by omega⟩
    rintro en w5 ⟨hu, hen⟩
    have hu := hu.symm
    subst hu
    refine c_seq (c_region (wl_p I_ok rfl ?_))
    rw [wrap64 t (by omega)]
    refine wl (st_call Tryz.call95 rfl rfl rfl rfl rfl rfl (high_calls 4 (by decide) w4 t (by omega)) fun v6 w6 hr6 => ?_)
    obtain ⟨qhh, khh, rfl, hh, nhh, hE6⟩ := hr6
    have hall := hall.ext hE6 fun _ _ => id
    have hout := hout.ext hE6 fun _ _ => id
    have hX := hX.thenNo hE6
    rw [hi_sl (q := qhh) (n := 4) (x := t) (c := khh)]
    have hh : Own w6 qhh (be 4 t).length khh 5 1 (bytesU (be 4 t)) := by rw [be_len]; exact hh
    refine wl_p I_ok rfl ?_
    rw [wrap64 n (by omega)]
    refine wl (st_call Tryz.call95 rfl rfl rfl rfl rfl rfl (high_calls 4 (by decide) w6 n (by omega)) fun v7 w7 hr7 => ?_)
    obtain ⟨qhi, khi, rfl, hi, nhi, hE7⟩ := hr7
    have hall := hall.ext hE7 fun _ _ => id
    have hout := hout.ext hE7 fun _ _ => id
    have hh := hh.ext hE7 fun _ _ => id
    have hX := hX.thenNo hE7
    rw [hi_sl (q := qhi) (n := 4) (x := n) (c := khi)]
    have hi : Own w7 qhi (be 4 n).length khi 5 1 (bytesU (be 4 n)) := by rw [be_len]; exact hi
    refine wl (st_call Tryz.call94 rfl rfl rfl rfl rfl rfl (both_calls w7 hh.sl hi.sl (by rw [be_len]; decide) (by rw [be_len]; decide)) fun v8 w8 hr8 => ?_)
    obtain ⟨q6, k6, rfl, h6, n6, hE8⟩ := hr8
    have hall := hall.ext hE8 fun _ _ => id
    have hout := hout.ext hE8 fun _ _ => id
    have hh := hh.ext hE8 fun _ _ => id
    have hi := hi.ext hE8 fun _ _ => id
    have hX := hX.thenNo hE8
    refine wl_p I_ok rfl (wl_nil (f_then (c_seq (c_region (wl_p I_ok rfl ?_)))))
    rw [wrap64 j (by omega)]
    refine wl (st_call Tryz.call95 rfl rfl rfl rfl rfl rfl (high_calls 2 (by decide) w8 j (by omega)) fun v9 w9 hr9 => ?_)
    obtain ⟨qhh, khh, rfl, hh, nhh, hE9⟩ := hr9
    have hall := hall.ext hE9 fun _ _ => id
    have hout := hout.ext hE9 fun _ _ => id
    have h6 := h6.ext hE9 fun _ _ => id
    have hX := hX.thenNo hE9
    rw [hi_sl (q := qhh) (n := 2) (x := j) (c := khh)]
    have hh : Own w9 qhh (be 2 j).length khh 5 1 (bytesU (be 2 j)) := by rw [be_len]; exact hh
    refine wl (st_call Tryz.call94 rfl rfl rfl rfl rfl rfl (both_calls w9 h6.sl hh.sl (by simp [be_len]) (by rw [be_len]; decide)) fun v10 w10 hr10 => ?_)
    obtain ⟨q7, k7, rfl, h7, n7, hE10⟩ := hr10
    have hall := hall.ext hE10 fun _ _ => id
    have hout := hout.ext hE10 fun _ _ => id
    have hh := hh.ext hE10 fun _ _ => id
    have h6 := h6.ext hE10 fun _ _ => id
    have hX := hX.thenNo hE10
    refine wl_p I_ok rfl (wl_nil (f_then (c_seq (c_region (wl_p I_ok rfl ?_)))))
    rw [wrap64 (sectN b.length) (by omega)]
    refine wl (st_call Tryz.call95 rfl rfl rfl rfl rfl rfl (high_calls 2 (by decide) w10 (sectN b.length) (by omega)) fun v11 w11 hr11 => ?_)
    obtain ⟨qhh, khh, rfl, hh, nhh, hE11⟩ := hr11
    have hall := hall.ext hE11 fun _ _ => id
    have hout := hout.ext hE11 fun _ _ => id
    have h7 := h7.ext hE11 fun _ _ => id
    have hX := hX.thenNo hE11
    rw [hi_sl (q := qhh) (n := 2) (x := (sectN b.length)) (c := khh)]
    have hh : Own w11 qhh (be 2 (sectN b.length)).length khh 5 1 (bytesU (be 2 (sectN b.length))) := by rw [be_len]; exact hh
    refine wl (st_call Tryz.call94 rfl rfl rfl rfl rfl rfl (both_calls w11 h7.sl hh.sl (by simp [be_len]) (by rw [be_len]; decide)) fun v12 w12 hr12 => ?_)
    obtain ⟨q8, k8, rfl, h8, n8, hE12⟩ := hr12
    have hall := hall.ext hE12 fun _ _ => id
    have hout := hout.ext hE12 fun _ _ => id
    have hh := hh.ext hE12 fun _ _ => id
    have h7 := h7.ext hE12 fun _ _ => id
    have hX := hX.thenNo hE12
    refine wl_p I_ok rfl (wl_nil (f_then (c_region (wl_p I_ok rfl ?_))))
    rw [IntWalk.i64_in _ (by omega)]
    refine wl (st_sl I_ok rfl (48 * j) en ka 1 rfl (.inr ⟨rfl, rfl⟩) (.inl rfl) (.inl (congrArg some (by omega))) (by omega) (by omega) (Nat.le_refl _) ?_)
    have hch : SlB w12 (slBase qa (48 * j) ka 1) (((bodyB b).drop (48 * j)).take 48) := by
      have e := Sl.slice hall.sl (48 * j) en ka (by omega) (by omega) (by omega)
      rw [Nat.mul_one, Nat.mul_one, bytesU_drop, bytesU_take] at e
      have e2 : ((bodyB b).drop (48 * j)).take (en - 48 * j) = ((bodyB b).drop (48 * j)).take 48 := by
        rw [hen]
        rcases Nat.le_total (48 * j + 48) (bodyB b).length with h | h
        · rw [Nat.min_eq_left h]; congr 1; omega
        · rw [Nat.min_eq_right h, List.take_of_length_le (by rw [List.length_drop]; omega), List.take_of_length_le (by rw [List.length_drop]; omega)]
      rw [e2] at e
      have e3 : (((bodyB b).drop (48 * j)).take 48).length = en - 48 * j := by rw [List.length_take, List.length_drop]; omega
      rw [SlB, e3]
      exact e
    have hcl : (((bodyB b).drop (48 * j)).take 48).length = en - 48 * j := by rw [List.length_take, List.length_drop]; omega
    rw [← hcl]
    refine wl (st_call Tryz.call94 rfl rfl rfl rfl rfl rfl (both_calls w12 h8.sl hch (by simp [be_len]) (by omega)) fun v13 w13 hr13 => ?_)
    obtain ⟨q9, k9, rfl, h9, n9, hE13⟩ := hr13
    have hall := hall.ext hE13 fun _ _ => id
    have hout := hout.ext hE13 fun _ _ => id
    have h8 := h8.ext hE13 fun _ _ => id
    have hX := hX.thenNo hE13
    refine wl (st_call Tryz.call96 rfl rfl rfl rfl rfl rfl (refSealed_calls w13 h9.sl (by simp only [List.length_append, be_len]; omega)) fun v14 w14 hr14 => ?_)
    obtain ⟨rfl, hE14⟩ := hr14
    have hall := hall.ext hE14 fun _ _ => id
    have hout := hout.ext hE14 fun _ _ => id
    have hX := hX.thenNo hE14
    rw [show sealB (be 4 t ++ be 4 n ++ be 2 j ++ be 2 (sectN b.length) ++ ((bodyB b).drop (48 * j)).take 48) = pieceAt t n b j from rfl]
    refine wl (st_bs I_ok rfl 64 rfl rfl rfl (by decide) (by decide) ⟨⟨by show (bytesU (pieceAt t n b j)).length = 64; rw [bytesU_len, pieceAt_len], by decide⟩, trivial⟩ (l' := bytesU (pieceAt t n b j)) (put_all (by show (rep 1 (cellsOf ti37.zero)).length = (bytesU (pieceAt t n b j)).length; rw [bytesU_len, pieceAt_len]; rfl)) fun b62 w15 hn62 hb62 hE15 hs15 => ?_)
    have fr62 := Nat.le_trans hX.size hn62
    have hall := hall.ext hE15 fun _ _ => id
    have hout := hout.ext hE15 fun _ _ => id
    have hX := hX.thenNo hE15
    have hs13 := hX.size
    refine wl (st_app I_ok rfl 64 64 rfl rfl rfl (by decide) hout (Src.slice (m := 1) ⟨by rw [bytesU_len, pieceAt_len], .inr ⟨b62, 0, rfl, hb62.seg⟩⟩ one_bytes) (by dsimp only [maxLen]; omega) (by dsimp only; omega) fun p16 c16 w16 ho16 hE16 hB16 => ?_)
    have hX := hX.trans hE16 fun y hy e => by have := hon y e; omega
    have hout2 : Own w16 p16 (j + 1) c16 37 64 (((pieceB t n b).take (j + 1)).flatMap bytesU) := by
      rw [pieceB_take t n b hjl, List.flatMap_append, List.flatMap_singleton]
      exact ho16
    have hon2 : ∀ y, OwnB p16 y → w.heap.size ≤ y := fun y hy => (hB16 y hy).elim (hon y) fun h => by omega
    have hall := hall.ext hE16 fun y hy e => by obtain ⟨l, hl⟩ := Own.ty hout e; exact (Own.ty hall hy).ne hl (by decide) rfl
    refine wl_p I_ok rfl (wl_nil (f_blockN (f_then (c_region (wl_p I_ok rfl ?_)))))
    rw [IntWalk.i64_in _ (by omega)]
    refine wl_nil ?_
    exact f_round (j + 1, p16, c16) rfl ⟨⟨by dsimp only; omega, hout2, hon2, hall⟩, hX⟩ (by first | omega | (dsimp only; omega))
  · have hjl : j = sectN b.length := by omega
    refine c_exit (f_thenE (f_thenE (f_blockE (f_then (c_seq (c_region (wl_p I_ok rfl (wl_nil (f_then (c_ret (f_ret1 rfl rfl ?_)))))))))))
    exact ⟨q, k, by rw [pieceB_length, hjl], by rw [hjl, show (pieceB t n b).take (sectN b.length) = pieceB t n b from List.take_of_length_le (by rw [pieceB_length]; omega)] at hout; rw [pieceB_length]; exact hout, hon, hX⟩
end Go.Proofs.YtlfdlodcjiaiiaaGreatDoor
namespace Go.Proofs.YtlfdlodcjiaiiaaGreatDoor
open Go.Vc
theorem OwnB.of {w : World} {q : Option Addr} {n c T sz : Nat} {xs : List Value} (h : Own w q n c T sz xs) {y off : Nat} (e : q = some ⟨y, off, none⟩) : OwnB q y := by
  rcases h with ⟨h1, _⟩ | ⟨b, l, h1, _⟩
  · rw [h1] at e; cases e
  · rw [h1] at e; cases e; exact h1
/-- a book: x its own block; H: all its blocks -/
structure BookAt (u : World) (x d : Nat) (H : Nat → Prop) (W : Wl) : Prop where
  box : ∃ q c rows, Blk u x 112 [.pointer (some ⟨d, 0, none⟩), .int .i64 (W.size : Int), .int .u32 (W.turn : Int), .slice q W.pieces.length c, .int .i64 (W.used : Int), .bool W.broken] ∧ Own u q W.pieces.length c 56 1 rows ∧ PiecesAt u H W.pieces rows ∧ ∀ y, OwnB q y → H y
  own : H x
  lt : ∀ y, H y → y < u.heap.size
theorem BookAt.ext {S H : Nat → Prop} {u u' : World} {x d : Nat} {W : Wl} (h : BookAt u x d H W) (hE : Ext S u u') (hS : ∀ y, H y → ¬ S y) : BookAt u' x d H W := by
  obtain ⟨⟨q, c, rows, h1, h2, h3, h4⟩, h5, h6⟩ := h
  exact ⟨⟨q, c, rows, h1.ext hE (hS x h5), h2.ext hE fun y hy => hS y (h4 y hy), h3.ext hE fun y hy _ => hS y hy, h4⟩, h5, fun y hy => Nat.lt_of_lt_of_le (h6 y hy) hE.size⟩
theorem BookAt.extNo {H : Nat → Prop} {u u' : World} {x d : Nat} {W : Wl} (h : BookAt u x d H W) (hE : Ext No u u') : BookAt u' x d H W := h.ext hE fun _ _ => id
theorem BookAt.data {H : Nat → Prop} {u : World} {x d : Nat} {W W' : Wl} (h : BookAt u x d H W) (h1 : W'.size = W.size) (h2 : W'.turn = W.turn) (h3 : W'.pieces = W.pieces) (h4 : W'.used = W.used) (h5 : W'.broken = W.broken) : BookAt u x d H W' := by
  obtain ⟨hb, ho, hl⟩ := h
  exact ⟨by rw [h1, h2, h3, h4, h5]; exact hb, ho, hl⟩
/-- a book that has turned, after a call -/
def BookQ (w : World) (x d : Nat) (F H : Nat → Prop) (r : Wl × Int) (v : Value) (w' : World) : Prop :=
  v = .int .i64 r.2 ∧ ∃ F' H' : Nat → Prop, At w' d F' r.1.D ∧ BookAt w' x d H' r.1 ∧ (∀ y, F' y → F y ∨ w.heap.size ≤ y) ∧ (∀ y, H' y → H y ∨ w.heap.size ≤ y) ∧ (∀ y, H' y → ¬ F' y) ∧ Ext (fun y => F y ∨ H y) w w'
theorem refuses_zero {W : Wl} {b : Bytes} {r : Int} (h : W.refuses b r = 0) : b.length ≤ 40000 ∧ (sectN b.length : Int) ≤ r := by
  unfold Wl.refuses at h
  split at h
  · cases h
  · split at h
    · cases h
    · split at h
      · cases h
      · exact ⟨by omega, by omega⟩
theorem flat_row {L : List Bytes} (h : ∀ b ∈ L, b.length = 64) : ∀ b ∈ L, (bytesU b).length = 64 := fun b hb => bytesU_64 (h b hb)
theorem lay_calls (w : World) {d m c : Nat} {F : Nat → Prop} {D : Dsk} {L : List Bytes} {p : Option Addr} (h : At w d F D) (hok : D.Ok m) (hm : m + 2 * L.length + 3 < 1000000000) (at_ : Int) (hat : -1000000000 ≤ at_ ∧ at_ ≤ 1000000000) (hL64 : ∀ b ∈ L, b.length = 64) (hL0 : L ≠ [])
    (hs : Sl w p L.length 64 (L.flatMap bytesU)) (hpF : ∀ y off, p = some ⟨y, off, none⟩ → ¬ F y) :
    CallsV Tryz.prog 62 [.pointer (some ⟨d, 0, none⟩), .int .i64 at_, .slice p L.length c] w fun v w' => v = .int .i64 (layD D at_ L).2 ∧ DkQ w d F (layD D at_ L).1 w' := by
  refine calls_enter Tryz.func62 rfl rfl rfl rfl ?_
  have hX := Ext.refl F w
  have hFlt := h.lt
  have hL1 : 0 < L.length := by cases L with | nil => exact absurd rfl hL0 | cons a l => simp
  obtain ⟨pb, po, rfl, hrows⟩ := hs.rowAll (flat_row hL64) hL1
  refine c_seq (c_region (wl_p I_ok rfl (wl_nil (f_then (c_seq (c_seq (c_region (wl_p I_ok rfl (wl_nil (f_then (c_block ?_)))))))))))
  refine c_loopK (α := Nat × (Nat → Prop) × Dsk) [0, 1, 10, 11] rfl (fun z => [(12, .int .i64 (z.1 : Int))]) (fun z u => (z.1 ≤ L.length ∧ At u d z.2.1 z.2.2 ∧ z.2.2.Ok (m + 2 * z.1) ∧ layD D at_ L = layD z.2.2 (at_ + z.1) (L.drop z.1) ∧ (∀ y, z.2.1 y → F y ∨ w.heap.size ≤ y)) ∧ Ext F w u) (fun z u => L.length - z.1) (0, F, D) rfl ⟨⟨Nat.zero_le _, h, hok, by simp, fun y => .inl⟩, hX⟩ ?_
  rintro ⟨k, G, D2⟩ w1 ⟨⟨hk0, hA, hok2, hlay, hGF⟩, hX⟩
  try dsimp only
  dsimp only at hk0 hA hok2 hlay hGF
  refine c_seq (c_region (wl_p I_ok rfl (wl_nil (f_then (c_seq (c_if rfl (fun hc => ?_) (fun hc => ?_)))))))
  · have hk : k < L.length := by omega
    obtain ⟨Bk, hBk⟩ : ∃ Bk, Bk = L[k] := ⟨_, rfl⟩
    have hB64 : Bk.length = 64 := by rw [hBk]; exact hL64 _ (List.getElem_mem hk)
    have hrow : Seg w1 pb (po + k * 64) (bytesU Bk) := by
      have e := Seg.ext (hrows k hk) hX (hpF pb po rfl)
      rw [← hBk] at e
      exact e
    refine c_skip (f_then (c_seq (c_block (c_seq (c_region (wl_p I_ok rfl (wl (st_ix I_ok rfl 64 rfl k rfl hk (po + k * 64) rfl (wl (st_ldN I_ok rfl hrow (by rw [bytesU_len, hB64]) ?_))))))))))
    have hGl := hA.lt
    refine wl (st_al I_ok rfl fun b8 w2 hn8 hb8 hE2 => ?_)
    have fr8 := Nat.le_trans hX.size hn8
    have hA := hA.extNo hE2
    have hX := hX.thenNo hE2
    have hnb : ∀ x, G x → x ≠ b8 := fun x hx e => by have := hGl x hx; omega
    refine wl_p I_ok rfl (wl (st_stW (l' := bytesU Bk) I_ok hb8 rfl rfl (by rw [bytesU_len, hB64]) (by rw [bytesU_len, hB64]; rfl) OneC.h fun w3 hb8 hE3 hs3 => ?_))
    have hA := hA.ext hE3 fun x hx e => by have e : x = b8 := e; exact hnb x hx e
    have hX := hX.thenNew hE3 fr8
    refine wl_nil (f_then (c_seq (c_region (wl_p I_ok rfl ?_))))
    rw [IntWalk.i64_in _ (by omega)]
    refine wl (st_ldB I_ok hb8 rfl (by rw [bytesU_len, hB64]) ?_)
    have hX4 := hX.size
    have hstep := layD_step hk D2 at_
    have hgd : L.getD k [] = Bk := by rw [hBk]; simp [hk]
    rw [← hlay, hgd] at hstep
    refine wl (st_call Tryz.call13 rfl rfl rfl rfl rfl rfl (dkWrite w3 hA hok2 (by omega) (at_ + k) hB64) fun v4 w4 hr4 => ?_)
    obtain ⟨rfl, G2, hA2, hE4, hGs⟩ := hr4
    have hX := hX.trans hE4 fun x hx e => (hGF x e).resolve_right (by omega)
    have hG2 := grow_sub hGF hX4 hGs
    have hok3 := hok2.write (at_ + k) hB64
    refine wl_p I_ok rfl (wl_nil (f_then (c_seq (c_region (wl_p I_ok rfl (wl_nil (f_then (c_if rfl (fun hc => ?_) (fun hc => ?_)))))))))
    · rw [if_pos hc] at hstep
      refine c_seq (c_region (wl_p I_ok rfl (wl_nil (f_then (c_ret (f_blockR (f_thenR (f_thenR (f_blockR (f_thenR (f_ret1 rfl rfl ?_)))))))))))
      rw [hstep]
      exact ⟨rfl, G2, hA2, hX, hG2⟩
    · rw [if_neg hc] at hstep
      refine c_skip (f_blockN (f_then (c_region (wl_p I_ok rfl ?_))))
      rw [IntWalk.i64_in _ (by omega)]
      refine wl_nil ?_
      exact f_round (k + 1, G2, (D2.write (at_ + k) Bk).1) rfl ⟨⟨by dsimp only; omega, hA2, by dsimp only; rw [show m + 2 * (k + 1) = m + 2 * k + 2 from by omega]; exact hok3, hstep, hG2⟩, hX⟩ (by first | omega | (dsimp only; omega))
  · have hk : k = L.length := by omega
    rw [hk, List.drop_length] at hlay
    refine c_exit (f_thenE (f_thenE (f_blockE (f_then (c_seq (c_region (wl_p I_ok rfl ?_)))))))
    have hX4 := hX.size
    refine wl (st_call Tryz.call14 rfl rfl rfl rfl rfl rfl (dkSync w1 hA hok2 (by omega)) fun v5 w5 hr5 => ?_)
    obtain ⟨rfl, G2, hA2, hE5, hGs⟩ := hr5
    have hX := hX.trans hE5 fun x hx e => (hGF x e).resolve_right (by omega)
    have hG2 := grow_sub hGF hX4 hGs
    refine wl_p I_ok rfl (wl_nil (f_then (c_ret (f_ret1 rfl rfl ?_))))
    rw [hlay]
    exact ⟨rfl, G2, hA2, hX, hG2⟩
end Go.Proofs.YtlfdlodcjiaiiaaGreatDoor
