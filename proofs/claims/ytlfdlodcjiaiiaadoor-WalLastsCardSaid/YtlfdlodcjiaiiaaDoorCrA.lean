/-
  logs, disks, and the power that goes
-/
import Derived.Test.YtlfdlodcjiaiiaaDoorSenA
namespace Go.Proofs.YtlfdlodcjiaiiaaDoor
open Go.Vc
theorem num_be : ∀ (n x : Nat), x < 256 ^ n → num (be n x) = x
  | 0, x, h => by
    have : x = 0 := by simpa using h
    subst this
    rfl
  | n + 1, x, h => by
    have h : x < 256 ^ n * 256 := h
    rw [be, num_snoc, num_be n (x / 256) (by omega)]
    have e : (UInt8.ofNat x).toNat = x % 256 := by simp [UInt8.toNat_ofNat']
    rw [e]
    omega
theorem be_inj {n x y : Nat} (hx : x < 256 ^ n) (hy : y < 256 ^ n) (h : be n x = be n y) : x = y := by
  rw [← num_be n x hx, h, num_be n y hy]
/-- the bytes behind a sector's digest -/
theorem seal_drop (b : Bytes) : (sealB b).drop 4 = b ++ List.replicate (60 - b.length) 0 := by
  unfold sealB
  rw [List.drop_append, List.drop_eq_nil_of_le (by rw [List.length_take]; omega), List.length_take, sumW_len, List.nil_append]
  rfl
def partB (_t _n : Nat) (b : Bytes) (k : Nat) : Bytes := ((bodyB b).drop (48 * k)).take 48
theorem piece_drop4 (t n : Nat) (b : Bytes) (k : Nat) : ∃ z : Bytes, (pieceAt t n b k).drop 4 = be 4 t ++ (be 4 n ++ (be 2 k ++ (be 2 (sectN b.length) ++ z))) ∧ z = ((bodyB b).drop (48 * k)).take 48 ++ List.replicate (48 - (((bodyB b).drop (48 * k)).take 48).length) 0 := by
  refine ⟨_, ?_, rfl⟩
  unfold pieceAt
  rw [seal_drop]
  have e : ∀ x y : Nat, 60 - (x - 0) = y → 60 - x = y := fun x y h => by omega
  rw [show 60 - (be 4 t ++ be 4 n ++ be 2 k ++ be 2 (sectN b.length) ++ ((bodyB b).drop (48 * k)).take 48).length = 48 - (((bodyB b).drop (48 * k)).take 48).length from by simp only [List.length_append, be_len]; omega]
  simp only [List.append_assoc]
theorem piece_turn (t n : Nat) (b : Bytes) (k : Nat) : ((pieceAt t n b k).drop 4).take 4 = be 4 t := by
  obtain ⟨z, e, _⟩ := piece_drop4 t n b k
  rw [e, List.take_append_of_le_length (by rw [be_len]; omega), List.take_of_length_le (by rw [be_len]; omega)]
theorem piece_parts (t n : Nat) (b : Bytes) (k : Nat) : ((pieceAt t n b k).drop 14).take 2 = be 2 (sectN b.length) := by
  obtain ⟨z, e, _⟩ := piece_drop4 t n b k
  have e2 : (pieceAt t n b k).drop 14 = ((pieceAt t n b k).drop 4).drop 10 := by rw [List.drop_drop]
  rw [e2, e, ← List.append_assoc, ← List.append_assoc, List.drop_append_of_le_length (by simp [be_len]), List.drop_eq_nil_of_le (by simp [be_len]), List.nil_append, List.take_append_of_le_length (by rw [be_len]; omega), List.take_of_length_le (by rw [be_len]; omega)]
theorem piece_rest (t n : Nat) (b : Bytes) (k : Nat) : (pieceAt t n b k).drop 16 = ((bodyB b).drop (48 * k)).take 48 ++ List.replicate (48 - (((bodyB b).drop (48 * k)).take 48).length) 0 := by
  obtain ⟨z, e, hz⟩ := piece_drop4 t n b k
  have e2 : (pieceAt t n b k).drop 16 = ((pieceAt t n b k).drop 4).drop 12 := by rw [List.drop_drop]
  rw [e2, e, ← hz, ← List.append_assoc, ← List.append_assoc, ← List.append_assoc, List.drop_append, List.drop_eq_nil_of_le (by simp [be_len]), List.nil_append]
  simp [be_len]
theorem sectN_small (n : Nat) : sectN n < 256 ^ 2 := by have := sectN_le n; omega
/-- a sector that no piece of a turn, or of a later one, has -/
def Old (t : Nat) (s : Bytes) : Prop := ∀ (t' n : Nat) (b : Bytes) (k : Nat), t ≤ t' → t' < 4294967296 → b.length ≤ 40000 → s ≠ pieceAt t' n b k
theorem Old.mono {t t' : Nat} {s : Bytes} (h : Old t s) (ht : t ≤ t') : Old t' s := fun u n b k h1 h2 h3 => h u n b k (Nat.le_trans ht h1) h2 h3
theorem old_zeros (t : Nat) : Old t zeros := fun u n b k _ _ hb e => by
  have h : be 2 (sectN b.length) = be 2 0 := by rw [← piece_parts u n b k, ← e]; rfl
  have := be_inj (sectN_small _) (by decide) h
  have := sectN_pos hb
  omega
theorem old_piece {t u : Nat} (n : Nat) (b : Bytes) (k : Nat) (h : t < u) : Old u (pieceAt t n b k) := fun t' n' b' k' h1 h2 _ e => by
  have h : be 4 t = be 4 t' := by rw [← piece_turn t n b k, e, piece_turn]
  have := be_inj (show t < 256 ^ 4 by omega) (show t' < 256 ^ 4 by omega) h
  omega
theorem piece_sect {t n : Nat} {b : Bytes} {k t' n' : Nat} {b' : Bytes} {k' : Nat} (h : pieceAt t n b k = pieceAt t' n' b' k') : sectN b.length = sectN b'.length :=
  be_inj (sectN_small _) (sectN_small _) (by rw [← piece_parts t n b k, h, piece_parts])

/-! ### heads -/
theorem head_drop (t n : Nat) : (headB t n).drop 4 = lettersB ++ (be 4 t ++ (be 4 n ++ List.replicate 44 0)) := by
  unfold headB
  rw [seal_drop, show 60 - (lettersB ++ be 4 t ++ be 4 n).length = 44 from by simp [lettersB, be_len]]
  simp only [List.append_assoc]
theorem head_turn {t : Nat} (n : Nat) (h : t < 4294967296) : turnOf (headB t n) = t := by
  unfold turnOf
  have e2 : (headB t n).drop 12 = ((headB t n).drop 4).drop 8 := by rw [List.drop_drop]
  rw [e2, head_drop, List.drop_append_of_le_length (by simp [lettersB]), List.drop_eq_nil_of_le (by simp [lettersB]), List.nil_append, List.take_append_of_le_length (by rw [be_len]; omega), List.take_of_length_le (by rw [be_len]; omega)]
  exact num_be 4 t h
theorem head_size (t : Nat) {n : Nat} (h : n < 4294967296) : sizeOf4 (headB t n) = n := by
  unfold sizeOf4
  have e2 : (headB t n).drop 16 = ((headB t n).drop 4).drop 12 := by rw [List.drop_drop]
  rw [e2, head_drop, ← List.append_assoc, List.drop_append_of_le_length (by simp [lettersB, be_len]), List.drop_eq_nil_of_le (by simp [lettersB, be_len]), List.nil_append, List.take_append_of_le_length (by rw [be_len]; omega), List.take_of_length_le (by rw [be_len]; omega)]
  exact num_be 4 n h
theorem head_ok {t n S : Nat} (ht : t < 4294967296) (hf : FitsB n S) : HeadOk (t % 2) S (headB t n) := by
  have h1 := head_turn n ht
  have h2 := head_size t (n := n) (by have := hf.2.1; omega)
  exact ⟨by rw [h1], by rw [h2]; exact hf, by rw [h1, h2]⟩
theorem head_zeros {S : Nat} : ¬ HeadOk 1 S zeros := fun h => by
  have : turnOf zeros = 0 := by decide
  have := h.1
  omega
/-- the head of a turn is the newest one -/
def NewOk (f : Nat → Bytes) (S t n : Nat) : Prop := f (t % 2) = headB t n ∧ (HeadOk ((t + 1) % 2) S (f ((t + 1) % 2)) → turnOf (f ((t + 1) % 2)) < t)
theorem NewOk.newest {f : Nat → Bytes} {S t n : Nat} (h : NewOk f S t n) (ht : t < 4294967296) (hf : FitsB n S) : newestB (f 0) (f 1) S = some (t, n) := by
  obtain ⟨h1, h2⟩ := h
  have hh := head_ok ht hf
  have e1 := head_turn n ht
  have e2 := head_size t (n := n) (by have := hf.2.1; omega)
  rw [← h1] at hh e1 e2
  unfold newestB
  rcases Nat.mod_two_eq_zero_or_one t with h | h
  · have h' : (t + 1) % 2 = 1 := by omega
    rw [h] at hh e1 e2
    rw [h'] at h2
    have a : newer 0 S (f 0) none = some (t, n) := by unfold newer; rw [if_pos hh, e1, e2]
    rw [a]
    unfold newer
    split
    · rename_i h3
      have := h2 h3
      dsimp only
      rw [if_neg (by omega)]
    · rfl
  · have h' : (t + 1) % 2 = 0 := by omega
    rw [h] at hh e1 e2
    rw [h'] at h2
    obtain ⟨o, ho⟩ : ∃ o, o = newer 0 S (f 0) none := ⟨_, rfl⟩
    have hb : ∀ x, o = some x → x.1 < t := fun x e => by
      rw [ho] at e
      unfold newer at e
      split at e
      · rename_i h3
        cases e
        exact h2 h3
      · cases e
    rw [← ho]
    unfold newer
    rw [if_pos hh, e1, e2]
    cases o with
    | none => rfl
    | some x =>
      have := hb x rfl
      dsimp only
      rw [if_pos this]

/-! ### the round trip -/
theorem chunks_all : ∀ (K : Nat) (Y : Bytes), Y.length = 48 * K → (List.range K).flatMap (fun k => (Y.drop (48 * k)).take 48) = Y
  | 0, Y, h => by rw [List.eq_nil_of_length_eq_zero (show Y.length = 0 by omega)]; rfl
  | K + 1, Y, h => by
    rw [List.range_succ_eq_map, List.flatMap_cons, List.flatMap_map]
    have e : ∀ k, (Y.drop (48 * (k + 1))).take 48 = ((Y.drop 48).drop (48 * k)).take 48 := fun k => by rw [List.drop_drop, Nat.mul_add, Nat.add_comm]
    have : (List.range K).flatMap (fun k => (Y.drop (48 * (k + 1))).take 48) = Y.drop 48 := by
      simp only [e]
      exact chunks_all K (Y.drop 48) (by rw [List.length_drop]; omega)
    rw [this, Nat.mul_zero, List.drop_zero, List.take_append_drop]
theorem body_len (b : Bytes) : (bodyB b).length = b.length + 4 := by rw [bodyB, List.length_append, be_len]; omega
theorem piece_chunk {t n : Nat} {b : Bytes} {k : Nat} (hb : b.length ≤ 40000) (hk : k < sectN b.length) : (pieceAt t n b k).drop 16 = ((bodyB b ++ List.replicate (48 * sectN b.length - (b.length + 4)) 0).drop (48 * k)).take 48 := by
  have h1 := sectN_room hb
  have h2 := sectN_tight hb
  rw [piece_rest, List.drop_append, List.take_append, List.length_take, List.length_drop, body_len, List.drop_replicate, List.take_replicate]
  congr 2
  omega
theorem all_piece {t n : Nat} {b : Bytes} (hb : b.length ≤ 40000) : allB (pieceB t n b) = bodyB b ++ List.replicate (48 * sectN b.length - (b.length + 4)) 0 := by
  have h1 := sectN_room hb
  unfold allB pieceB
  rw [List.flatMap_map]
  have e : (List.range (sectN b.length)).map (fun k => (pieceAt t n b k).drop 16) = (List.range (sectN b.length)).map fun k => ((bodyB b ++ List.replicate (48 * sectN b.length - (b.length + 4)) 0).drop (48 * k)).take 48 :=
    List.map_congr_left fun k hk => piece_chunk hb (List.mem_range.1 hk)
  rw [List.flatMap_def, e, ← List.flatMap_def]
  exact chunks_all _ _ (by rw [List.length_append, body_len, List.length_replicate]; omega)
theorem many_piece {t n : Nat} {b : Bytes} (hb : b.length ≤ 40000) : manyB (pieceAt t n b 0) = b.length := by
  unfold manyB
  rw [piece_rest, Nat.mul_zero, List.drop_zero, List.take_append, List.take_take, show min 4 48 = 4 from rfl, List.length_take, body_len, show 4 - min 48 (b.length + 4) = 0 from by omega, List.take_zero, List.append_nil, bodyB, List.take_append_of_le_length (by rw [be_len]; omega), List.take_of_length_le (by rw [be_len]; omega)]
  exact num_be 4 _ (by omega)
theorem lies_piece {t n : Nat} {b : Bytes} (hb : b.length ≤ 40000) (R : List Bytes) : liesB (pieceB t n b ++ R) t n = some b := by
  have hp := sectN_pos hb
  obtain ⟨K, hK⟩ : ∃ K, sectN b.length = K + 1 := ⟨sectN b.length - 1, by omega⟩
  obtain ⟨r, hr⟩ : ∃ r, pieceB t n b = pieceAt t n b 0 :: r := by
    unfold pieceB
    rw [hK, List.range_succ_eq_map]
    exact ⟨_, rfl⟩
  have hL : (pieceAt t n b 0 :: (r ++ R)).take (sectN b.length) = pieceB t n b := by
    rw [← List.cons_append, ← hr, List.take_append_of_le_length (by rw [pieceB_length]; omega), List.take_of_length_le (by rw [pieceB_length]; omega)]
  rw [hr, List.cons_append]
  show (if 40000 < manyB (pieceAt t n b 0) ∨ (pieceAt t n b 0 :: (r ++ R)).length < sectN (manyB (pieceAt t n b 0)) then none
      else if pieceB t n (((allB ((pieceAt t n b 0 :: (r ++ R)).take (sectN (manyB (pieceAt t n b 0))))).drop 4).take (manyB (pieceAt t n b 0))) = (pieceAt t n b 0 :: (r ++ R)).take (sectN (manyB (pieceAt t n b 0))) then some (((allB ((pieceAt t n b 0 :: (r ++ R)).take (sectN (manyB (pieceAt t n b 0))))).drop 4).take (manyB (pieceAt t n b 0))) else none) = some b
  have hd : ((bodyB b ++ List.replicate (48 * sectN b.length - (b.length + 4)) 0).drop 4).take b.length = b := by
    rw [bodyB, List.append_assoc, List.drop_append, List.drop_eq_nil_of_le (by rw [be_len]; omega), be_len, List.nil_append, Nat.sub_self, List.drop_zero, List.take_append_of_le_length (Nat.le_refl _), List.take_length]
  have hlen : ¬ (pieceAt t n b 0 :: (r ++ R)).length < sectN b.length := by
    rw [← List.cons_append, ← hr, List.length_append, pieceB_length]
    omega
  rw [many_piece hb, hL, all_piece hb, hd, if_neg (fun h => h.elim (fun h => by omega) hlen), if_pos rfl]
theorem lies_none {L : List Bytes} {t n : Nat} (hL : ∀ s ∈ L, s.length = 64) (h : ∀ b : Bytes, b.length ≤ 40000 → sectN b.length ≤ L.length → pieceB t n b ≠ L.take (sectN b.length)) : liesB L t n = none := by
  cases hx : liesB L t n with
  | none => rfl
  | some b =>
    obtain ⟨h1, h2, h3⟩ := liesB_some hL hx
    exact absurd h3 (h b h1 h2)
/-- the sectors of pieces, one behind the other -/
def flatP (t : Nat) : Nat → List Bytes → List Bytes
  | _, [] => []
  | i, b :: r => pieceB t i b ++ flatP t (i + 1) r
theorem used_cons (b : Bytes) (r : List Bytes) : usedB (b :: r) = sectN b.length + usedB r := by simp [usedB]
theorem flatP_len (t : Nat) : ∀ (ps : List Bytes) (i : Nat), (flatP t i ps).length = usedB ps
  | [], i => rfl
  | b :: r, i => by rw [flatP, List.length_append, pieceB_length, flatP_len t r, used_cons]
theorem flatP_snoc (t : Nat) (b : Bytes) : ∀ (ps : List Bytes) (i : Nat), flatP t i (ps ++ [b]) = flatP t i ps ++ pieceB t (i + ps.length) b
  | [], i => by simp [flatP]
  | a :: r, i => by
    rw [List.cons_append, flatP, flatP, flatP_snoc t b r (i + 1), List.append_assoc, List.length_cons, show i + 1 + r.length = i + (r.length + 1) from by omega]
theorem flatP_mem (t : Nat) : ∀ (ps : List Bytes) (i : Nat) (s : Bytes), s ∈ flatP t i ps → ∃ n b k, s = pieceAt t n b k
  | [], i, s, h => by cases h
  | b :: r, i, s, h => by
    rcases List.mem_append.1 h with h | h
    · obtain ⟨k, _, rfl⟩ := List.mem_map.1 h
      exact ⟨_, _, _, rfl⟩
    · exact flatP_mem t r (i + 1) s h
theorem lyGo_flat (t : Nat) : ∀ (ps : List Bytes) (i f : Nat) (R : List Bytes), (∀ p ∈ ps, p.length ≤ 40000) → (∀ s ∈ flatP t i ps ++ R, s.length = 64) → (flatP t i ps ++ R).length ≤ f → liesB R t (i + ps.length) = none → lyGo t f (flatP t i ps ++ R) i = ps
  | [], i, f, R, _, h64, hf, hn => by
    have hn : liesB (flatP t i [] ++ R) t i = none := hn
    rw [lyGo_step t f _ i h64 hf, hn]
  | b :: r, i, f, R, hs, h64, hf, hn => by
    have hb := hs b (by simp)
    have hp := sectN_pos hb
    have e : liesB (flatP t i (b :: r) ++ R) t i = some b := by rw [flatP, List.append_assoc]; exact lies_piece hb _
    have ed : (flatP t i (b :: r) ++ R).drop (sectN b.length) = flatP t (i + 1) r ++ R := by
      rw [flatP, List.append_assoc, List.drop_append, List.drop_eq_nil_of_le (by rw [pieceB_length]; omega), List.nil_append, pieceB_length, Nat.sub_self, List.drop_zero]
    rw [lyGo_step t f _ i h64 hf, e]
    dsimp only
    rw [ed]
    congr 1
    refine lyGo_flat t r (i + 1) (f - 1) R (fun p hq => hs p (by simp [hq])) (fun s h => h64 s (by rw [flatP, List.append_assoc]; exact List.mem_append_right _ h)) ?_ (by rw [← hn, List.length_cons, show i + 1 + r.length = i + (r.length + 1) from by omega])
    rw [flatP, List.append_assoc, List.length_append, pieceB_length] at hf
    omega
end Go.Proofs.YtlfdlodcjiaiiaaDoor
namespace Go.Proofs.YtlfdlodcjiaiiaaDoor
open Go.Vc
theorem now_some {D : Dsk} {i : Nat} {s : Sec} (h : D.secs[i]? = some s) : D.now i = s.now := by unfold Dsk.now; rw [h]; rfl
theorem now_none {D : Dsk} {i : Nat} (h : D.secs.length ≤ i) : D.now i = zeros := by unfold Dsk.now; rw [List.getElem?_eq_none h]; rfl
theorem now_of_secs {D D' : Dsk} (h : D'.secs = D.secs) (i : Nat) : D'.now i = D.now i := by unfold Dsk.now; rw [h]
theorem now_put (D : Dsk) (i : Nat) (b : Bytes) (j : Nat) (hi : i < D.secs.length) : (D.put i b).now j = if j = i then b else D.now j := by
  unfold Dsk.now Dsk.put
  simp only [List.getElem?_modify]
  by_cases h : i = j
  · subst h
    rw [if_pos rfl, List.getElem?_eq_getElem hi]
    simp [writeSec, Sec.now]
  · rw [if_neg (fun e => h e.symm)]
    simp [h]
theorem settle_sec_true (s : Sec) : (settleSec true s).now = s.now := by
  unfold settleSec Sec.now
  cases hw : s.waits with
  | nil => rfl
  | cons b r =>
    cases r with
    | nil => rfl
    | cons c r =>
      obtain ⟨z, hz⟩ : ∃ z, (c :: r).getLast? = some z := ⟨_, List.getLast?_cons⟩
      simp [List.getLast?_cons_cons, hz]
theorem settleAll_now : ∀ (l : List Nat) (i : Nat) (secs : List Sec) (j : Nat), (settleAll (fun _ => true) l i secs)[j]?.map Sec.now = secs[j]?.map Sec.now
  | [], _, _, _ => rfl
  | k :: r, i, secs, j => by
    rw [settleAll, settleAll_now r (i + 1), List.getElem?_modify]
    by_cases h : k = j
    · subst h
      cases secs[k]? with
      | none => rfl
      | some s => simp [settle_sec_true]
    · cases secs[j]? <;> simp [h]
theorem settle_now (D : Dsk) (j : Nat) : (D.settle fun _ => true).now j = D.now j := by
  unfold Dsk.now Dsk.settle
  rw [settleAll_now]
/-- nothing waits -/
theorem rest_waits {D : Dsk} {m : Nat} (h : D.Ok m) (ho : D.order = []) {i : Nat} {s : Sec} (hs : D.secs[i]? = some s) : s.waits = [] := by
  have := h.count i s hs
  rw [ho] at this
  exact List.eq_nil_of_length_eq_zero this
theorem rest_now {D : Dsk} {m : Nat} (h : D.Ok m) (ho : D.order = []) {i : Nat} {s : Sec} (hs : D.secs[i]? = some s) : D.now i = s.safe := by
  rw [now_some hs]
  unfold Sec.now
  rw [rest_waits h ho hs]
  rfl
/-- all that a disk may come to hold -/
def Within (D : Dsk) (P : Nat → Bytes → Prop) : Prop := ∀ i s, D.secs[i]? = some s → P i s.safe ∧ ∀ b ∈ s.waits, P i b
theorem Within.secs {D D' : Dsk} {P : Nat → Bytes → Prop} (h : Within D P) (he : D'.secs = D.secs) : Within D' P := by
  unfold Within
  rw [he]
  exact h
theorem Within.mono {D : Dsk} {P Q : Nat → Bytes → Prop} (h : Within D P) (hq : ∀ i b, P i b → Q i b) : Within D Q := fun i s hs => ⟨hq _ _ (h i s hs).1, fun b hb => hq _ _ ((h i s hs).2 b hb)⟩
theorem rest_within {D : Dsk} {m : Nat} (h : D.Ok m) (ho : D.order = []) : Within D fun i b => b = D.now i := fun i s hs => ⟨(rest_now h ho hs).symm, fun b hb => by rw [rest_waits h ho hs] at hb; cases hb⟩
theorem Within.put {D : Dsk} {P : Nat → Bytes → Prop} (h : Within D P) {i : Nat} {b : Bytes} (hb : P i b) : Within (D.put i b) P := by
  intro j s hs
  unfold Dsk.put at hs
  simp only [List.getElem?_modify] at hs
  cases hj : D.secs[j]? with
  | none => rw [hj] at hs; simp at hs
  | some t =>
    rw [hj] at hs
    have ht := h j t hj
    by_cases e : i = j
    · subst e
      simp at hs
      subst hs
      refine ⟨ht.1, fun c hc => ?_⟩
      simp only [writeSec, List.mem_append, List.mem_singleton] at hc
      rcases hc with hc | rfl
      · exact ht.2 c hc
      · exact hb
    · simp [e] at hs
      subst hs
      exact ht
theorem settleAll_within (lives : Nat → Bool) {P : Nat → Bytes → Prop} : ∀ (l : List Nat) (i : Nat) (secs : List Sec), (∀ j s, secs[j]? = some s → P j s.safe ∧ ∀ b ∈ s.waits, P j b) → ∀ j s, (settleAll lives l i secs)[j]? = some s → P j s.safe ∧ ∀ b ∈ s.waits, P j b
  | [], _, _, h => h
  | k :: r, i, secs, h => by
    refine settleAll_within lives r (i + 1) _ fun j s hs => ?_
    rw [List.getElem?_modify] at hs
    cases hj : secs[j]? with
    | none => rw [hj] at hs; simp at hs
    | some t =>
      rw [hj] at hs
      have ht := h j t hj
      by_cases e : k = j
      · subst e
        simp at hs
        subst hs
        refine ⟨?_, fun b hb => ht.2 b (List.mem_of_mem_tail hb)⟩
        simp only [settleSec]
        split
        · cases hw : t.waits with
          | nil => exact ht.1
          | cons b r => exact ht.2 b (by rw [hw]; simp)
        · exact ht.1
      · simp [e] at hs
        subst hs
        exact ht
theorem Within.settle {D : Dsk} {P : Nat → Bytes → Prop} (h : Within D P) (lives : Nat → Bool) : Within (D.settle lives) P := settleAll_within lives D.order 0 D.secs h
theorem Within.write {D : Dsk} {P : Nat → Bytes → Prop} (h : Within D P) {i : Nat} {b : Bytes} (hb : P i b) : Within (D.write (i : Int) b).1 P := by
  unfold Dsk.write
  dsimp only
  have h1 := h.secs (Dsk.begin_secs D (i : Int) true).1
  split
  · rw [Int.toNat_natCast]; exact h1.put hb
  · exact h1
theorem Within.sync {D : Dsk} {P : Nat → Bytes → Prop} (h : Within D P) : Within D.sync.1 P := by
  unfold Dsk.sync
  dsimp only
  have h1 := h.secs (Dsk.begin_secs D 0 true).1
  split
  · exact h1.settle _
  · exact h1
theorem Within.lay {P : Nat → Bytes → Prop} : ∀ (l : List Bytes) {D : Dsk} (a : Nat), Within D P → (∀ j, j < l.length → P (a + j) (l.getD j [])) → Within (layD D (a : Int) l).1 P
  | [], D, a, h, _ => h.sync
  | b :: r, D, a, h, hl => by
    have hb : P a b := hl 0 (by simp)
    have h1 := h.write hb
    unfold layD
    split
    · exact h1
    · exact Within.lay r (a + 1) h1 fun j hj => by
        have := hl (j + 1) (by simpa using hj)
        rw [show a + (j + 1) = a + 1 + j from by omega] at this
        exact this
theorem Within.wipe {P : Nat → Bytes → Prop} : ∀ (l : List Bytes) {D : Dsk} (a : Nat), Within D P → (∀ j, j < l.length → P (a + j) zeros) → Within (wipeD D (a : Int) l).1 P
  | [], D, a, h, _ => h
  | b :: r, D, a, h, hl => by
    have hr : ∀ j, j < r.length → P (a + 1 + j) zeros := fun j hj => by
      have := hl (j + 1) (by simpa using hj)
      rwa [show a + (j + 1) = a + 1 + j from by omega] at this
    have h1 := h.write (hl 0 (by simp))
    rw [Nat.add_zero] at h1
    unfold wipeD
    split
    · exact Within.wipe r (a + 1) h hr
    · split
      · exact h1
      · exact Within.wipe r (a + 1) h1 hr
theorem Within.clean {P : Nat → Bytes → Prop} {l : List Bytes} {D : Dsk} {a : Nat} (h : Within D P) (hl : ∀ j, j < l.length → P (a + j) zeros) : Within (cleanD D (a : Int) l).1 P := by
  have h1 := Within.wipe l a h hl
  unfold cleanD
  dsimp only
  split
  · exact h1
  · split
    · exact h1
    · exact h1.sync
/-- the power goes -/
theorem crash_rest {D : Dsk} {m : Nat} (h : D.Ok m) {P : Nat → Bytes → Prop} (hw : Within D P) (keep : List Bool) : Calm (D.crash keep) ∧ (D.crash keep).order = [] ∧ (D.crash keep).secs.length = D.secs.length ∧ ∀ i, i < D.secs.length → P i ((D.crash keep).now i) := by
  have h1 := h.crash keep
  have hl : (D.crash keep).secs.length = D.secs.length := settleAll_length _ _ _ _
  refine ⟨⟨rfl, rfl, rfl⟩, rfl, hl, fun i hi => ?_⟩
  have hs : (D.crash keep).secs[i]? = some (D.crash keep).secs[i] := List.getElem?_eq_getElem (by omega)
  rw [rest_now h1 rfl hs]
  exact ((hw.settle (livesOf keep)) i _ hs).1
theorem crash_same {D : Dsk} {m : Nat} (h : D.Ok m) (ho : D.order = []) (keep : List Bool) (i : Nat) : (D.crash keep).now i = D.now i := by
  obtain ⟨_, _, hl, h4⟩ := crash_rest h (rest_within h ho) keep
  rcases Nat.lt_or_ge i D.secs.length with hi | hi
  · exact h4 i hi
  · rw [now_none (by omega), now_none hi]

/-! ### disks that may die, but not fail -/
def Alive (D : Dsk) : Prop := D.dead = false ∧ D.fault = -1
theorem Calm.alive {D : Dsk} (h : Calm D) : Alive D := ⟨h.1, h.2.2⟩
theorem begin_read {D : Dsk} (h : Alive D) {i : Int} (hi : 0 ≤ i ∧ i < D.secs.length) : D.begin i false = ({ D with done := D.done + 1 }, 0) := by
  obtain ⟨h1, h2⟩ := h
  unfold Dsk.begin
  rw [if_neg (by rw [h1]; decide), if_neg (by simpa using hi), if_neg (by rw [h2]; decide), if_neg (by simp)]
  have e1 : faultTo D.fault = D.fault := by rw [h2]; rfl
  have e2 : fuseTo false D.fuse = D.fuse := by simp [fuseTo]
  rw [e1, e2]
theorem begin_burn {D : Dsk} (h : Alive D) {i : Int} (hi : 0 ≤ i ∧ i < D.secs.length) : D.begin i true = if D.fuse = 0 then ({ D with fuse := -1, dead := true }, 9) else ({ D with fuse := fuseTo true D.fuse, done := D.done + 1 }, 0) := by
  obtain ⟨h1, h2⟩ := h
  unfold Dsk.begin
  rw [if_neg (by rw [h1]; decide), if_neg (by simpa using hi), if_neg (by rw [h2]; decide)]
  have e1 : faultTo D.fault = D.fault := by rw [h2]; rfl
  rw [e1]
  by_cases h0 : D.fuse = 0
  · rw [if_pos ⟨rfl, h0⟩, if_pos h0]
  · rw [if_neg (fun e => h0 e.2), if_neg h0]
theorem read_alive {D : Dsk} (h : Alive D) {i : Nat} (hi : i < D.secs.length) : D.read (i : Int) = ({ D with done := D.done + 1 }, D.now i, 0) := by
  unfold Dsk.read
  dsimp only
  rw [begin_read h ⟨Int.natCast_nonneg i, by omega⟩, Int.toNat_natCast]
  rfl
theorem reads_alive : ∀ (k : Nat) {D : Dsk} (a : Nat), Alive D → a + k ≤ D.secs.length → readsD D (a : Int) k = ({ D with done := D.done + k }, (List.range k).map fun j => D.now (a + j), 0)
  | 0, D, a, h, hk => by
    show (D, ([] : List Bytes), (0 : Int)) = _
    simp
  | k + 1, D, a, h, hk => by
    have h1 : Alive { D with done := D.done + 1 } := h
    rw [readsD_step, read_alive h (by omega), if_neg (by simp)]
    have := reads_alive k (D := { D with done := D.done + 1 }) (a + 1) h1 (by show a + 1 + k ≤ D.secs.length; omega)
    rw [show ((a : Int) + 1) = ((a + 1 : Nat) : Int) from by omega, this, List.range_succ_eq_map, List.map_cons, List.map_map]
    dsimp only
    have e : (List.range k).map (fun j => ({ D with done := D.done + 1 } : Dsk).now (a + 1 + j)) = (List.range k).map ((fun j => D.now (a + j)) ∘ Nat.succ) := by
      refine List.map_congr_left fun j _ => ?_
      show D.now (a + 1 + j) = D.now (a + (j + 1))
      rw [show a + 1 + j = a + (j + 1) from by omega]
    rw [e, show D.done + 1 + (k : Int) = D.done + ((k + 1 : Nat) : Int) from by omega]
    rfl
theorem newest_alive {D : Dsk} (h : Alive D) (hs : 2 ≤ D.secs.length) {x : Nat × Nat} (hx : newestB (D.now 0) (D.now 1) D.secs.length = some x) : newestD D = ({ D with done := D.done + 2 }, 0, some x) := by
  have h1 : Alive { D with done := D.done + 1 } := h
  have r0 := read_alive h (i := 0) (by omega)
  have r1 := read_alive h1 (i := 1) (by show 1 < D.secs.length; omega)
  unfold newestD newestGo
  rw [r0, if_neg (by simp)]
  unfold newestGo
  rw [show (0 + 1 : Nat) = 1 from rfl, r1, if_neg (by simp)]
  unfold newestGo
  unfold newestB at hx
  have e : ({ D with done := D.done + 1 } : Dsk).now 1 = D.now 1 := rfl
  dsimp only at *
  rw [e, hx]
  rw [show D.done + 1 + 1 = D.done + 2 from by omega]
  rfl
theorem write_alive {D : Dsk} (h : Alive D) {i : Nat} (hi : i < D.secs.length) (b : Bytes) : ((D.write (i : Int) b).2 = 0 ∧ Alive (D.write (i : Int) b).1 ∧ ∀ j, (D.write (i : Int) b).1.now j = if j = i then b else D.now j) ∨ (D.write (i : Int) b).2 = 9 := by
  unfold Dsk.write
  dsimp only
  rw [begin_burn h ⟨Int.natCast_nonneg i, by omega⟩]
  by_cases h0 : D.fuse = 0
  · rw [if_pos h0]
    exact .inr rfl
  · rw [if_neg h0, if_pos rfl, Int.toNat_natCast]
    exact .inl ⟨rfl, h, fun j => now_put _ i b j hi⟩
theorem sync_alive {D : Dsk} (h : Alive D) (hs : 0 < D.secs.length) : (D.sync.2 = 0 ∧ Alive D.sync.1 ∧ D.sync.1.order = [] ∧ ∀ j, D.sync.1.now j = D.now j) ∨ D.sync.2 = 9 := by
  unfold Dsk.sync
  dsimp only
  rw [begin_burn h ⟨Int.le_refl _, by omega⟩]
  by_cases h0 : D.fuse = 0
  · rw [if_pos h0]
    exact .inr rfl
  · rw [if_neg h0, if_pos rfl]
    exact .inl ⟨rfl, h, rfl, fun j => settle_now _ j⟩
theorem lay_alive : ∀ (l : List Bytes) {D : Dsk} (a : Nat), Alive D → a + l.length ≤ D.secs.length → 0 < D.secs.length →
    ((layD D (a : Int) l).2 = 0 ∧ Alive (layD D (a : Int) l).1 ∧ (layD D (a : Int) l).1.order = [] ∧ ∀ j, (layD D (a : Int) l).1.now j = if a ≤ j ∧ j < a + l.length then l.getD (j - a) [] else D.now j) ∨ (layD D (a : Int) l).2 = 9
  | [], D, a, h, hk, hs => by
    unfold layD
    rcases sync_alive h hs with ⟨h1, h2, h3, h4⟩ | h1
    · exact .inl ⟨h1, h2, h3, fun j => by rw [h4, if_neg (by rw [List.length_nil]; omega)]⟩
    · exact .inr h1
  | b :: r, D, a, h, hk, hs => by
    rw [List.length_cons] at hk
    unfold layD
    rcases write_alive h (i := a) (by omega) b with ⟨h1, h2, h3⟩ | h1
    · rw [if_neg (by rw [h1]; decide)]
      rcases lay_alive r (a + 1) h2 (by rw [D.write_secs]; omega) (by rw [D.write_secs]; exact hs) with ⟨i1, i2, i3, i4⟩ | i1
      · refine .inl ⟨i1, i2, i3, fun j => ?_⟩
        have i4 := i4 j
        refine i4.trans ?_
        rw [h3, List.length_cons]
        by_cases c1 : a + 1 ≤ j ∧ j < a + 1 + r.length
        · rw [if_pos c1, if_pos (by omega), show j - a = (j - (a + 1)) + 1 from by omega]
          rfl
        · rw [if_neg c1]
          by_cases c2 : j = a
          · rw [if_pos c2, if_pos (by omega), c2, Nat.sub_self]
            rfl
          · rw [if_neg c2, if_neg (by omega)]
      · exact .inr i1
    · rw [if_pos (by rw [h1]; decide)]
      exact .inr h1
theorem wipe_alive : ∀ (l : List Bytes) {D : Dsk} (a : Nat), Alive D → a + l.length ≤ D.secs.length → (∀ j, j < l.length → l.getD j [] = D.now (a + j)) →
    ((wipeD D (a : Int) l).2 = 0 ∧ Alive (wipeD D (a : Int) l).1 ∧ ∀ j, (wipeD D (a : Int) l).1.now j = if a ≤ j ∧ j < a + l.length then zeros else D.now j) ∨ (wipeD D (a : Int) l).2 = 9
  | [], D, a, h, hk, hl => .inl ⟨rfl, h, fun j => by rw [if_neg (by rw [List.length_nil]; omega)]; rfl⟩
  | b :: r, D, a, h, hk, hl => by
    rw [List.length_cons] at hk
    have h0 : b = D.now a := hl 0 (by simp)
    have hr : ∀ j, j < r.length → r.getD j [] = D.now (a + 1 + j) := fun j hj => by
      have := hl (j + 1) (by simpa using hj)
      rw [show a + (j + 1) = a + 1 + j from by omega] at this
      exact this
    unfold wipeD
    by_cases hz : b = zeros
    · rw [if_pos hz]
      rcases wipe_alive r (a + 1) h (by omega) hr with ⟨i1, i2, i3⟩ | i1
      · refine .inl ⟨i1, i2, fun j => (i3 j).trans ?_⟩
        rw [List.length_cons]
        by_cases c1 : a + 1 ≤ j ∧ j < a + 1 + r.length
        · rw [if_pos c1, if_pos (by omega)]
        · rw [if_neg c1]
          by_cases c2 : j = a
          · rw [if_pos (by omega), c2, ← h0, hz]
          · rw [if_neg (by omega)]
      · exact .inr i1
    · rw [if_neg hz]
      rcases write_alive h (i := a) (by omega) zeros with ⟨h1, h2, h3⟩ | h1
      · rw [if_neg (by rw [h1]; decide)]
        rcases wipe_alive r (a + 1) h2 (by rw [D.write_secs]; omega) (fun j hj => by rw [hr j hj, h3, if_neg (by omega)]) with ⟨i1, i2, i3⟩ | i1
        · refine .inl ⟨i1, i2, fun j => (i3 j).trans ?_⟩
          rw [List.length_cons, h3]
          by_cases c1 : a + 1 ≤ j ∧ j < a + 1 + r.length
          · rw [if_pos c1, if_pos (by omega)]
          · rw [if_neg c1]
            by_cases c2 : j = a
            · rw [if_pos c2, if_pos (by omega)]
            · rw [if_neg c2, if_neg (by omega)]
        · exact .inr i1
      · rw [if_pos (by rw [h1]; decide)]
        exact .inr h1
theorem wipe_calm : ∀ (l : List Bytes) {D : Dsk} (a : Nat), Calm D → a + l.length ≤ D.secs.length → (wipeD D (a : Int) l).2 = 0 ∧ Calm (wipeD D (a : Int) l).1
  | [], D, a, h, hk => ⟨rfl, h⟩
  | b :: r, D, a, h, hk => by
    rw [List.length_cons] at hk
    unfold wipeD
    split
    · exact wipe_calm r (a + 1) h (by omega)
    · obtain ⟨h1, h2⟩ := write_calm h (i := (a : Int)) (by omega) zeros
      rw [if_neg (by rw [h1]; decide)]
      exact wipe_calm r (a + 1) h2 (by rw [D.write_secs]; omega)
theorem clean_calm {l : List Bytes} {D : Dsk} {a : Nat} (h : Calm D) (hk : a + l.length ≤ D.secs.length) (hs : 0 < D.secs.length) : (cleanD D (a : Int) l).2 = 0 ∧ Calm (cleanD D (a : Int) l).1 := by
  obtain ⟨h1, h2⟩ := wipe_calm l a h hk
  unfold cleanD
  dsimp only
  rw [if_neg (by rw [h1]; decide)]
  split
  · exact ⟨h1, h2⟩
  · exact sync_calm h2 (by rw [wipeD_secs]; exact hs)
theorem wipe_none : ∀ (l : List Bytes) (D : Dsk) (a : Int), (∀ b ∈ l, b = zeros) → wipeD D a l = (D, 0)
  | [], D, a, _ => rfl
  | b :: r, D, a, h => by
    unfold wipeD
    rw [if_pos (h b (by simp))]
    exact wipe_none r D (a + 1) fun x hx => h x (by simp [hx])
theorem clean_none {l : List Bytes} {D : Dsk} {a : Int} (ho : D.order = []) (h : ∀ b ∈ l, b = zeros) : cleanD D a l = (D, 0) := by
  unfold cleanD
  dsimp only
  rw [wipe_none l D a h, if_neg (by simp), if_pos ⟨ho, h⟩]
theorem clean_alive {l : List Bytes} {D : Dsk} {a : Nat} (h : Alive D) (ho : D.order = []) (hk : a + l.length ≤ D.secs.length) (hs : 0 < D.secs.length) (hl : ∀ j, j < l.length → l.getD j [] = D.now (a + j)) :
    ((cleanD D (a : Int) l).2 = 0 ∧ Alive (cleanD D (a : Int) l).1 ∧ (cleanD D (a : Int) l).1.order = [] ∧ ∀ j, (cleanD D (a : Int) l).1.now j = if a ≤ j ∧ j < a + l.length then zeros else D.now j) ∨ (cleanD D (a : Int) l).2 = 9 := by
  by_cases hz : ∀ b ∈ l, b = zeros
  · rw [clean_none ho hz]
    refine .inl ⟨rfl, h, ho, fun j => ?_⟩
    split
    · rename_i hj
      have hj' : j - a < l.length := by omega
      have h1 := hl (j - a) hj'
      rw [show a + (j - a) = j from by omega, show l.getD (j - a) [] = l[j - a] from by simp [hj'], hz _ (List.getElem_mem hj')] at h1
      exact h1.symm
    · rfl
  · unfold cleanD
    dsimp only
    rcases wipe_alive l a h hk hl with ⟨h1, h2, h3⟩ | h1
    · rw [if_neg (by rw [h1]; decide), if_neg (fun e => hz e.2)]
      rcases sync_alive h2 (by rw [wipeD_secs]; exact hs) with ⟨i1, i2, i3, i4⟩ | i1
      · exact .inl ⟨i1, i2, i3, fun j => (i4 j).trans (h3 j)⟩
      · exact .inr i1
    · rw [if_pos (by rw [h1]; decide)]
      exact .inr h1
end Go.Proofs.YtlfdlodcjiaiiaaDoor
namespace Go.Proofs.YtlfdlodcjiaiiaaDoor
open Go.Vc
theorem getD_left {α : Type} {l r : List α} {i : Nat} {d : α} (h : i < l.length) : (l ++ r).getD i d = l.getD i d := by
  rw [List.getD_eq_getElem?_getD, List.getElem?_append_left h, ← List.getD_eq_getElem?_getD]
theorem getD_right {α : Type} {l r : List α} {i : Nat} {d : α} (h : l.length ≤ i) : (l ++ r).getD i d = r.getD (i - l.length) d := by
  rw [List.getD_eq_getElem?_getD, List.getElem?_append_right h, ← List.getD_eq_getElem?_getD]
structure Told (f : Nat → Bytes) (S t n : Nat) (ps : List Bytes) : Prop where
  lt : t < 4294967296
  fit : FitsB n S
  new : NewOk f S t n
  few : usedB ps ≤ n
  ne : ps ≠ []
  short : ∀ p ∈ ps, p.length ≤ 40000
  lies : ∀ i, i < usedB ps → f (areaB t n + i) = (flatP t 0 ps).getD i []
/-- no piece more lies there -/
def NoMore (f : Nat → Bytes) (t n : Nat) (ps : List Bytes) : Prop := ∀ b : Bytes, b.length ≤ 40000 → usedB ps + sectN b.length ≤ n → ∃ j, j < sectN b.length ∧ f (areaB t n + usedB ps + j) ≠ pieceAt t ps.length b j
def TailOld (f : Nat → Bytes) (t n : Nat) (ps : List Bytes) : Prop := ∀ i, usedB ps ≤ i → i < n → Old t (f (areaB t n + i))
theorem areas (t n : Nat) : (t % 2 = 0 ∧ (t + 1) % 2 = 1 ∧ areaB t n = 2 ∧ areaB (t + 1) n = 2 + n ∧ areaB (t + 2) n = 2) ∨ (t % 2 = 1 ∧ (t + 1) % 2 = 0 ∧ areaB t n = 2 + n ∧ areaB (t + 1) n = 2 ∧ areaB (t + 2) n = 2 + n) := by
  unfold areaB
  rcases Nat.mod_two_eq_zero_or_one t with h | h
  · exact .inl ⟨h, by omega, if_neg (by omega), if_pos (by omega), if_neg (by omega)⟩
  · exact .inr ⟨h, by omega, if_pos (by omega), if_neg (by omega), if_pos (by omega)⟩
theorem Told.len {f : Nat → Bytes} {S t n : Nat} {ps : List Bytes} (h : Told f S t n ps) : ps.length ≤ usedB ps := by
  have : ∀ (l : List Bytes), (∀ b ∈ l, b.length ≤ 40000) → l.length ≤ usedB l := by
    intro l
    induction l with
    | nil => intro _; exact Nat.le_refl _
    | cons a l ih =>
      intro h
      have := sectN_pos (h a (by simp))
      rw [used_cons, List.length_cons]
      have := ih fun x hx => h x (by simp [hx])
      omega
  exact this _ h.short
theorem Told.same {f g : Nat → Bytes} {S t n : Nat} {ps : List Bytes} (h : Told f S t n ps) (hg : ∀ i, i < 2 ∨ (areaB t n ≤ i ∧ i < areaB t n + usedB ps) → g i = f i) : Told g S t n ps := by
  refine ⟨h.lt, h.fit, ⟨?_, ?_⟩, h.few, h.ne, h.short, fun i hi => ?_⟩
  · rw [hg _ (.inl (by omega))]; exact h.new.1
  · rw [hg _ (.inl (by omega))]; exact h.new.2
  · rw [hg _ (.inr (by omega))]; exact h.lies i hi
theorem NoMore.wiped {f g : Nat → Bytes} {t n : Nat} {ps : List Bytes} (h : NoMore f t n ps) (hg : ∀ i, areaB t n + usedB ps ≤ i → i < areaB t n + n → g i = f i ∨ g i = zeros) (ht : t < 4294967296) : NoMore g t n ps := by
  intro b hb hk
  obtain ⟨j, hj, hne⟩ := h b hb hk
  refine ⟨j, hj, ?_⟩
  rcases hg (areaB t n + usedB ps + j) (by omega) (by omega) with e | e
  · rw [e]; exact hne
  · rw [e]; exact old_zeros t t _ b j (Nat.le_refl _) ht hb
theorem TailOld.no {f : Nat → Bytes} {t n : Nat} {ps : List Bytes} (h : TailOld f t n ps) (ht : t < 4294967296) : NoMore f t n ps := by
  intro b hb hk
  have hp := sectN_pos hb
  exact ⟨0, hp, h (usedB ps) (Nat.le_refl _) (by omega) t _ b 0 (Nat.le_refl _) ht hb⟩

/-! ### what is opened -/
theorem range_split {α : Type} (g : Nat → α) {u n : Nat} (h : u ≤ n) : (List.range n).map g = (List.range u).map g ++ (List.range (n - u)).map fun j => g (u + j) := by
  have e : n = u + (n - u) := by omega
  rw [show List.range n = List.range (u + (n - u)) from congrArg List.range e, List.range_add, List.map_append, List.map_map]
  rfl
theorem open_told {D : Dsk} {m S t n : Nat} {ps : List Bytes} (hok : D.Ok m) (ha : Alive D) (hS : D.secs.length = S) (h : Told D.now S t n ps) (hn : NoMore D.now t n ps) :
    openW D = ((cleanD { D with done := D.done + 2 + n } ((areaB t n + usedB ps : Nat) : Int) ((List.range (n - usedB ps)).map fun j => D.now (areaB t n + usedB ps + j))).1, (cleanD { D with done := D.done + 2 + n } ((areaB t n + usedB ps : Nat) : Int) ((List.range (n - usedB ps)).map fun j => D.now (areaB t n + usedB ps + j))).2, t, n, ps) := by
  have hfit := h.fit
  have hf2 := hfit.2.2
  have hne := newest_alive ha (by omega) (x := (t, n)) (by rw [hS]; exact h.new.newest h.lt hfit)
  have har := areas t n
  have hrd := reads_alive n (D := { D with done := D.done + 2 }) (areaB t n) ha (by show areaB t n + n ≤ D.secs.length; omega)
  have hz : (List.range n).map (fun j => D.now (areaB t n + j)) = flatP t 0 ps ++ (List.range (n - usedB ps)).map fun j => D.now (areaB t n + usedB ps + j) := by
    rw [range_split _ h.few]
    congr 1
    · refine List.ext_getElem (by rw [List.length_map, List.length_range, flatP_len]) fun i h1 h2 => ?_
      rw [List.getElem_map, List.getElem_range, h.lies i (by rw [flatP_len] at h2; exact h2)]
      simp [h2]
    · refine List.map_congr_left fun j _ => ?_
      rw [Nat.add_assoc]
  obtain ⟨R, hR⟩ : ∃ R, R = (List.range (n - usedB ps)).map fun j => D.now (areaB t n + usedB ps + j) := ⟨_, rfl⟩
  have hRl : R.length = n - usedB ps := by rw [hR, List.length_map, List.length_range]
  have h64 : ∀ s ∈ flatP t 0 ps ++ R, s.length = 64 := by
    rw [hR, ← hz]
    intro s hs
    obtain ⟨j, _, rfl⟩ := List.mem_map.1 hs
    exact now_length hok _
  rw [← hR] at hz ⊢
  have hly : lyingB (flatP t 0 ps ++ R) t = ps := by
    unfold lyingB
    refine lyGo_flat t ps 0 _ R h.short h64 (Nat.le_refl _) ?_
    refine lies_none (fun s hs => h64 s (List.mem_append_right _ hs)) fun b hb hk e => ?_
    rw [hRl] at hk
    have hfew := h.few
    obtain ⟨j, hj, hne⟩ := hn b hb (by omega)
    have h1 : (pieceB t (0 + ps.length) b)[j]? = (R.take (sectN b.length))[j]? := by rw [e]
    rw [List.getElem?_take_of_lt hj, hR, List.getElem?_map, List.getElem?_range (by omega), Nat.zero_add, pieceB, List.getElem?_map, List.getElem?_range hj] at h1
    exact hne (Option.some.inj h1).symm
  rw [openW_yes (by rw [hne]), hne]
  unfold openAt
  dsimp only
  rw [hrd]
  have hz' : (List.range n).map (fun j => ({ D with done := D.done + 2 } : Dsk).now (areaB t n + j)) = flatP t 0 ps ++ R := hz
  have hdr : (flatP t 0 ps ++ R).drop (usedB ps) = R := by
    rw [List.drop_append_of_le_length (by rw [flatP_len]; exact Nat.le_refl _), List.drop_eq_nil_of_le (by rw [flatP_len]; exact Nat.le_refl _), List.nil_append]
  dsimp only
  rw [hz', if_neg (by simp), hly, if_neg h.ne, hdr]
theorem open_fate {D : Dsk} {m S t n : Nat} {ps : List Bytes} (hok : D.Ok m) (ha : Alive D) (ho : D.order = []) (hS : D.secs.length = S) (h : Told D.now S t n ps) (hn : NoMore D.now t n ps) :
    (openW D).2.2 = (t, n, ps) ∧ (((openW D).2.1 = 0 ∧ Alive (openW D).1 ∧ (openW D).1.order = [] ∧ Told (openW D).1.now S t n ps ∧ ∀ i, usedB ps ≤ i → i < n → (openW D).1.now (areaB t n + i) = zeros) ∨ (openW D).2.1 = 9) ∧
    (∀ keep, Told ((openW D).1.crash keep).now S t n ps ∧ NoMore ((openW D).1.crash keep).now t n ps) ∧ (Calm D → (openW D).2.1 = 0 ∧ Calm (openW D).1) ∧
    ((∀ i, usedB ps ≤ i → i < n → D.now (areaB t n + i) = zeros) → openW D = ({ D with done := D.done + 2 + n }, 0, t, n, ps)) := by
  have hwf := openW_fine hok
  have e := open_told hok ha hS h hn
  have hfit := h.fit
  have hf2 := hfit.2.2
  have hfew := h.few
  have har := areas t n
  obtain ⟨D2, hD2⟩ : ∃ D2 : Dsk, D2 = { D with done := D.done + 2 + n } := ⟨_, rfl⟩
  have hD2s : D2.secs = D.secs := by rw [hD2]
  have hD2o : D2.order = [] := by rw [hD2]; exact ho
  have hD2a : Alive D2 := by rw [hD2]; exact ha
  have hnow : ∀ i, D2.now i = D.now i := now_of_secs hD2s
  obtain ⟨R, hR⟩ : ∃ R, R = (List.range (n - usedB ps)).map fun j => D.now (areaB t n + usedB ps + j) := ⟨_, rfl⟩
  have hRl : R.length = n - usedB ps := by rw [hR, List.length_map, List.length_range]
  have hRg : ∀ j, j < R.length → R.getD j [] = D2.now (areaB t n + usedB ps + j) := fun j hj => by
    rw [hRl] at hj
    rw [hR, hnow]
    simp [hj]
  rw [← hR, ← hD2] at e
  obtain ⟨x, hx⟩ : ∃ x, x = openW D := ⟨_, rfl⟩
  rw [← hx] at e hwf ⊢
  have hx1 : x.1 = (cleanD D2 ((areaB t n + usedB ps : Nat) : Int) R).1 := by rw [e]
  have hx2 : x.2.1 = (cleanD D2 ((areaB t n + usedB ps : Nat) : Int) R).2 := by rw [e]
  have hx3 : x.2.2 = (t, n, ps) := by rw [e]
  refine ⟨hx3, ?_, fun keep => ?_, fun hc => ?_, fun hz => ?_⟩
  · rcases clean_alive (l := R) (a := areaB t n + usedB ps) hD2a hD2o (by rw [hRl, hD2s]; omega) (by rw [hD2s]; omega) hRg with ⟨h1, h2, h3, h4⟩ | h1
    · rw [← hx1] at h2 h3 h4
      rw [← hx2] at h1
      refine .inl ⟨h1, h2, h3, h.same fun i hi => ?_, fun i hi1 hi2 => ?_⟩
      · rw [h4, if_neg (by rw [hRl]; omega), hnow]
      · rw [h4, if_pos (by rw [hRl]; omega)]
    · rw [← hx2] at h1
      exact .inr h1
  · have hw : Within x.1 fun i b => b = D.now i ∨ (areaB t n + usedB ps ≤ i ∧ b = zeros) := by
      rw [hx1]
      refine Within.clean (((rest_within hok ho).secs hD2s).mono fun i b hb => .inl hb) fun j _ => .inr ⟨by omega, rfl⟩
    obtain ⟨_, _, hl, hc⟩ := crash_rest hwf.1 hw keep
    have hc' : ∀ i, (x.1.crash keep).now i = D.now i ∨ (areaB t n + usedB ps ≤ i ∧ (x.1.crash keep).now i = zeros) := fun i => by
      rcases Nat.lt_or_ge i x.1.secs.length with hi | hi
      · exact hc i hi
      · rw [now_none (by omega), now_none (by omega)]; exact .inl rfl
    exact ⟨h.same fun i hi => (hc' i).elim id fun e => by omega, hn.wiped (fun i _ _ => (hc' i).imp id And.right) h.lt⟩
  · have hc2 : Calm D2 := by rw [hD2]; exact hc
    obtain ⟨h1, h2⟩ := clean_calm (l := R) (a := areaB t n + usedB ps) hc2 (by rw [hRl, hD2s]; omega) (by rw [hD2s]; omega)
    rw [← hx1] at h2
    rw [← hx2] at h1
    exact ⟨h1, h2⟩
  · rw [e, ← hD2, clean_none hD2o fun b hb => ?_]
    rw [hR] at hb
    obtain ⟨j, hj, rfl⟩ := List.mem_map.1 hb
    have := hz (usedB ps + j) (by omega) (by have := List.mem_range.1 hj; omega)
    rwa [← Nat.add_assoc] at this

/-! ### what is put -/
theorem piece_getD {t k : Nat} {b : Bytes} {j : Nat} (h : j < sectN b.length) : (pieceB t k b).getD j [] = pieceAt t k b j := by
  unfold pieceB
  simp [h]
theorem told_snoc {f g : Nat → Bytes} {S t n : Nat} {ps : List Bytes} {b : Bytes} (h : Told f S t n ps) (ho : TailOld f t n ps) (hb : b.length ≤ 40000) (hk : usedB ps + sectN b.length ≤ n)
    (hs : ∀ i, i < 2 ∨ (areaB t n ≤ i ∧ i < areaB t n + n) → ¬ (areaB t n + usedB ps ≤ i ∧ i < areaB t n + usedB ps + sectN b.length) → g i = f i) (hl : ∀ j, j < sectN b.length → g (areaB t n + usedB ps + j) = pieceAt t ps.length b j) :
    Told g S t n (ps ++ [b]) ∧ TailOld g t n (ps ++ [b]) := by
  have har := areas t n
  have hfew := h.few
  refine ⟨⟨h.lt, h.fit, ⟨?_, ?_⟩, by rw [usedB_snoc]; exact hk, by simp, fun p hp => ?_, fun i hi => ?_⟩, fun i h1 h2 => ?_⟩
  · rw [hs _ (.inl (by omega)) (by omega)]; exact h.new.1
  · rw [hs _ (.inl (by omega)) (by omega)]; exact h.new.2
  · rcases List.mem_append.1 hp with hp | hp
    · exact h.short p hp
    · rw [List.mem_singleton.1 hp]; exact hb
  · rw [usedB_snoc] at hi
    rw [flatP_snoc, Nat.zero_add]
    by_cases c : i < usedB ps
    · rw [hs _ (.inr (by omega)) (by omega), h.lies i c, getD_left (by rw [flatP_len]; exact c)]
    · have := hl (i - usedB ps) (by omega)
      rw [show areaB t n + usedB ps + (i - usedB ps) = areaB t n + i from by omega] at this
      rw [this, getD_right (by rw [flatP_len]; omega), flatP_len, piece_getD (by omega)]
  · rw [usedB_snoc] at h1
    rw [hs _ (.inr (by omega)) (by omega)]
    exact ho i (by omega) h2
/-- so many of the sectors of a piece were written -/
theorem told_some {f g : Nat → Bytes} {S t n : Nat} {ps : List Bytes} {b : Bytes} (h : Told f S t n ps) (ho : TailOld f t n ps) (hb : b.length ≤ 40000) (hk : usedB ps + sectN b.length ≤ n)
    (hg : ∀ i, i < S → g i = f i ∨ (areaB t n + usedB ps ≤ i ∧ i < areaB t n + usedB ps + sectN b.length ∧ g i = pieceAt t ps.length b (i - (areaB t n + usedB ps)))) :
    (Told g S t n ps ∧ NoMore g t n ps) ∨ (Told g S t n (ps ++ [b]) ∧ NoMore g t n (ps ++ [b])) := by
  have har := areas t n
  have hf2 := h.fit.2.2
  have hfew := h.few
  by_cases c : ∀ j, j < sectN b.length → g (areaB t n + usedB ps + j) = pieceAt t ps.length b j
  · have h2 := told_snoc (g := g) h ho hb hk (fun i hi hn => (hg i (by omega)).elim id fun e => absurd ⟨e.1, e.2.1⟩ hn) c
    exact .inr ⟨h2.1, h2.2.no h.lt⟩
  · refine .inl ⟨h.same fun i hi => (hg i (by omega)).elim id fun e => by omega, fun b' hb' hk' => ?_⟩
    refine Decidable.byContradiction fun hno => ?_
    have hall : ∀ j, j < sectN b'.length → g (areaB t n + usedB ps + j) = pieceAt t ps.length b' j := fun j hj => Decidable.byContradiction fun e => hno ⟨j, hj, e⟩
    have hp := sectN_pos hb'
    have h0 := hall 0 hp
    have hold : ∀ j, j < n - usedB ps → Old t (f (areaB t n + usedB ps + j)) := fun j hj => by
      have := ho (usedB ps + j) (by omega) (by omega)
      rwa [← Nat.add_assoc] at this
    rcases hg (areaB t n + usedB ps + 0) (by omega) with e | ⟨_, _, e⟩
    · rw [e] at h0
      exact hold 0 (by omega) t _ b' 0 (Nat.le_refl _) h.lt hb' h0
    · rw [h0, show areaB t n + usedB ps + 0 - (areaB t n + usedB ps) = 0 from by omega] at e
      have hsc := piece_sect e
      refine c fun j hj => ?_
      rcases hg (areaB t n + usedB ps + j) (by omega) with e2 | ⟨_, _, e2⟩
      · have h3 := hall j (by omega)
        rw [e2] at h3
        exact absurd h3 (hold j (by omega) t _ b' j (Nat.le_refl _) h.lt hb')
      · rw [e2, show areaB t n + usedB ps + j - (areaB t n + usedB ps) = j from by omega]
/-- the other area may be written -/
def NextOld (f : Nat → Bytes) (t n : Nat) : Prop := ∀ i, i < n → Old (t + 1) (f (areaB (t + 1) n + i))
theorem told_next {f g : Nat → Bytes} {S t n : Nat} {ps : List Bytes} {b : Bytes} (h : Told f S t n ps) (ho : TailOld f t n ps) (hx : NextOld f t n) (ht : t + 1 < 4294967296) (hb : b.length ≤ 40000) (hk : sectN b.length ≤ n)
    (hh : g ((t + 1) % 2) = headB (t + 1) n) (hl : ∀ j, j < sectN b.length → g (areaB (t + 1) n + j) = pieceAt (t + 1) 0 b j)
    (hs : ∀ i, i < S → i ≠ (t + 1) % 2 → ¬ (areaB (t + 1) n ≤ i ∧ i < areaB (t + 1) n + sectN b.length) → g i = f i) : Told g S (t + 1) n [b] ∧ TailOld g (t + 1) n [b] ∧ NextOld g (t + 1) n := by
  have har := areas t n
  have hf2 := h.fit.2.2
  have hfew := h.few
  have hu : usedB [b] = sectN b.length := by simp [usedB]
  have hp := sectN_pos hb
  refine ⟨⟨ht, h.fit, ⟨hh, fun hd => ?_⟩, by rw [hu]; exact hk, by simp, fun p hp => by rw [List.mem_singleton.1 hp]; exact hb, fun i hi => ?_⟩, fun i h1 h2 => ?_, fun i hi => ?_⟩
  · have e : (t + 1 + 1) % 2 = t % 2 := by omega
    rw [e, hs _ (by omega) (by omega) (by omega), h.new.1, head_turn n h.lt]
    omega
  · rw [hu] at hi
    rw [hl i hi, flatP, flatP, List.append_nil, piece_getD hi]
  · rw [hu] at h1
    rw [hs _ (by omega) (by omega) (by omega)]
    exact hx i h2
  · have e : areaB (t + 1 + 1) n = areaB t n := by
      rw [show t + 1 + 1 = t + 2 from rfl]
      omega
    rw [e, hs _ (by omega) (by omega) (by omega)]
    by_cases c : i < usedB ps
    · rw [h.lies i c]
      have hm : (flatP t 0 ps).getD i [] ∈ flatP t 0 ps := by
        have hi2 : i < (flatP t 0 ps).length := by rw [flatP_len]; exact c
        rw [show (flatP t 0 ps).getD i [] = (flatP t 0 ps)[i] from by simp [hi2]]
        exact List.getElem_mem hi2
      obtain ⟨n', b', k', e⟩ := flatP_mem t ps 0 _ hm
      rw [e]
      exact old_piece n' b' k' (by omega)
    · exact (ho i (by omega) hi).mono (by omega)
end Go.Proofs.YtlfdlodcjiaiiaaDoor
namespace Go.Proofs.YtlfdlodcjiaiiaaDoor
open Go.Vc
theorem refuses_in (W : Wl) (b : Bytes) (r : Int) : (W.refuses b r = 0 ∧ b.length ≤ 40000 ∧ W.broken = false ∧ (sectN b.length : Int) ≤ r) ∨ (W.refuses b r ≠ 0 ∧ W.refuses b r ≠ 9) := by
  unfold Wl.refuses
  split
  · exact .inr ⟨by decide, by decide⟩
  · split
    · exact .inr ⟨by decide, by decide⟩
    · split
      · exact .inr ⟨by decide, by decide⟩
      · rename_i h1 h2 h3
        refine .inl ⟨rfl, by omega, ?_, by omega⟩
        cases hb : W.broken with
        | true => exact absurd hb h2
        | false => rfl
structure Firm (W : Wl) (S : Nat) : Prop where
  told : Told W.D.now S W.turn W.size W.pieces
  tail : TailOld W.D.now W.turn W.size W.pieces
  rest : W.D.order = []
  secs : W.D.secs.length = S
  used : W.used = usedB W.pieces
abbrev Nexts (W : Wl) : Prop := NextOld W.D.now W.turn W.size
theorem append_fate {W : Wl} {m S : Nat} (hok : W.D.Ok m) (ha : Alive W.D) (h : Firm W S) (b : Bytes) :
    ((W.append b).2 = 0 ∧ Alive (W.append b).1.D ∧ Firm (W.append b).1 S ∧ (W.append b).1.pieces = W.pieces ++ [b] ∧ (W.append b).1.size = W.size ∧ (Nexts W → Nexts (W.append b).1)) ∨
    ((W.append b).2 ≠ 0 ∧ (W.append b).2 ≠ 9 ∧ (W.append b).1 = W) ∨
    ((W.append b).2 = 9 ∧ ∀ keep, ∃ ps, (ps = W.pieces ∨ ps = W.pieces ++ [b]) ∧ Told ((W.append b).1.D.crash keep).now S W.turn W.size ps ∧ NoMore ((W.append b).1.D.crash keep).now W.turn W.size ps) := by
  obtain ⟨ht, hl, hr, hs, hu⟩ := h
  have hfit := ht.fit.2.2
  have har := areas W.turn W.size
  have hfew := ht.few
  rcases refuses_in W b ((W.size : Int) - W.used) with ⟨h0, h1, h2, h3⟩ | ⟨h0, h9⟩
  · have hk : usedB W.pieces + sectN b.length ≤ W.size := by omega
    obtain ⟨y, hy⟩ : ∃ y, y = layD W.D ((areaB W.turn W.size + W.used : Nat) : Int) (pieceB W.turn W.pieces.length b) := ⟨_, rfl⟩
    have hf := lay_alive (pieceB W.turn W.pieces.length b) (areaB W.turn W.size + W.used) ha (by rw [pieceB_length]; omega) (by omega)
    have hyk := layD_ok (pieceB W.turn W.pieces.length b) ((areaB W.turn W.size + W.used : Nat) : Int) hok (pieceB_len _ _ _)
    have hys := layD_secs (pieceB W.turn W.pieces.length b) W.D ((areaB W.turn W.size + W.used : Nat) : Int)
    have hyw : Within y.1 fun i c => c = W.D.now i ∨ (areaB W.turn W.size + usedB W.pieces ≤ i ∧ i < areaB W.turn W.size + usedB W.pieces + sectN b.length ∧ c = pieceAt W.turn W.pieces.length b (i - (areaB W.turn W.size + usedB W.pieces))) := by
      rw [hy]
      refine Within.lay _ _ ((rest_within hok hr).mono fun i c e => .inl e) fun j hj => .inr ?_
      rw [pieceB_length] at hj
      exact ⟨by omega, by omega, by rw [piece_getD hj, show areaB W.turn W.size + W.used + j - (areaB W.turn W.size + usedB W.pieces) = j from by omega]⟩
    rw [← hy] at hf hyk hys
    rw [pieceB_length] at hf
    rcases hf with ⟨f1, f2, f3, f4⟩ | f1
    · left
      rw [append_ok h0 hy f1]
      have hg := told_snoc (g := y.1.now) ht hl h1 hk (fun i hi hn => by rw [f4, if_neg (by omega)]) fun j hj => by
        rw [f4, if_pos (by omega), show areaB W.turn W.size + usedB W.pieces + j - (areaB W.turn W.size + W.used) = j from by omega, piece_getD hj]
      refine ⟨rfl, f2, ⟨hg.1, hg.2, f3, hys.trans hs, by show W.used + sectN b.length = _; rw [usedB_snoc, hu]⟩, rfl, rfl, fun hx i hi => ?_⟩
      show Old (W.turn + 1) (y.1.now (areaB (W.turn + 1) W.size + i))
      rw [f4, if_neg (by have hi : i < W.size := hi; omega)]
      exact hx i hi
    · right; right
      rw [append_bad h0 hy (by rw [f1]; decide)]
      refine ⟨f1, fun keep => ?_⟩
      obtain ⟨_, _, c3, c4⟩ := crash_rest hyk hyw keep
      rcases told_some (g := (y.1.crash keep).now) ht hl h1 hk (fun i hi => c4 i (by omega)) with c | c
      · exact ⟨_, .inl rfl, c⟩
      · exact ⟨_, .inr rfl, c⟩
  · right; left
    rw [append_no h0]
    exact ⟨h0, h9, rfl⟩
theorem ckp_fate {W : Wl} {m S : Nat} (hok : W.D.Ok m) (ha : Alive W.D) (h : Firm W S) (hx : Nexts W) (b : Bytes) :
    ((W.checkpoint b).2 = 0 ∧ Alive (W.checkpoint b).1.D ∧ Firm (W.checkpoint b).1 S ∧ (W.checkpoint b).1.pieces = [b] ∧ (W.checkpoint b).1.size = W.size ∧ Nexts (W.checkpoint b).1) ∨
    ((W.checkpoint b).2 ≠ 0 ∧ (W.checkpoint b).2 ≠ 9 ∧ (W.checkpoint b).1 = W) ∨
    ((W.checkpoint b).2 = 9 ∧ ∀ keep, ∃ t ps, (ps = W.pieces ∨ ps = [b]) ∧ Told ((W.checkpoint b).1.D.crash keep).now S t W.size ps ∧ NoMore ((W.checkpoint b).1.D.crash keep).now t W.size ps) := by
  obtain ⟨ht, hl, hr, hs, hu⟩ := h
  have hfit := ht.fit.2.2
  have har := areas W.turn W.size
  have hfew := ht.few
  have hlt := ht.lt
  rcases refuses_in W b (if W.turn = 4294967295 then 0 else (W.size : Int)) with ⟨h0, h1, h2, h3⟩ | ⟨h0, h9⟩
  · have hp := sectN_pos h1
    have htn : W.turn ≠ 4294967295 := fun e => by rw [if_pos e] at h3; omega
    rw [if_neg htn] at h3
    have hk : sectN b.length ≤ W.size := by omega
    have ht1 : W.turn + 1 < 4294967296 := by omega
    obtain ⟨y, hy⟩ : ∃ y, y = beginD W.D (W.turn + 1) W.size b := ⟨_, rfl⟩
    obtain ⟨z, hz⟩ : ∃ z, z = layD W.D ((areaB (W.turn + 1) W.size : Nat) : Int) (pieceB (W.turn + 1) 0 b) := ⟨_, rfl⟩
    have hf := lay_alive (pieceB (W.turn + 1) 0 b) (areaB (W.turn + 1) W.size) ha (by rw [pieceB_length]; omega) (by omega)
    have hzk := layD_ok (pieceB (W.turn + 1) 0 b) ((areaB (W.turn + 1) W.size : Nat) : Int) hok (pieceB_len _ _ _)
    have hzs := layD_secs (pieceB (W.turn + 1) 0 b) W.D ((areaB (W.turn + 1) W.size : Nat) : Int)
    have hzw : Within z.1 fun i c => c = W.D.now i ∨ (areaB (W.turn + 1) W.size ≤ i ∧ i < areaB (W.turn + 1) W.size + sectN b.length) := by
      rw [hz]
      refine Within.lay _ _ ((rest_within hok hr).mono fun i c e => .inl e) fun j hj => .inr ?_
      rw [pieceB_length] at hj
      exact ⟨by omega, by omega⟩
    rw [← hz] at hf hzk hzs
    rw [pieceB_length] at hf
    have hyz : y = if z.2 ≠ 0 then z else layD z.1 (((W.turn + 1) % 2 : Nat) : Int) [headB (W.turn + 1) W.size] := by
      rw [hy, hz]
      rfl
    have hsame : ∀ g : Nat → Bytes, (∀ i, i < S → g i = W.D.now i ∨ (areaB (W.turn + 1) W.size ≤ i ∧ i < areaB (W.turn + 1) W.size + sectN b.length)) → Told g S W.turn W.size W.pieces ∧ NoMore g W.turn W.size W.pieces := fun g hg => by
      refine ⟨ht.same fun i hi => (hg i (by omega)).elim id fun e => by omega, TailOld.no (fun i hi1 hi2 => ?_) ht.lt⟩
      rcases hg (areaB W.turn W.size + i) (by omega) with e | e
      · rw [e]; exact hl i hi1 hi2
      · omega
    rcases hf with ⟨f1, f2, f3, f4⟩ | f1
    · rw [if_neg (by rw [f1]; decide)] at hyz
      have hg := lay_alive [headB (W.turn + 1) W.size] ((W.turn + 1) % 2) f2 (by rw [hzs, List.length_singleton]; omega) (by omega)
      have hyk := layD_ok [headB (W.turn + 1) W.size] (((W.turn + 1) % 2 : Nat) : Int) hzk fun c hc => by rw [List.mem_singleton.1 hc]; exact headB_len _ _
      have hys := layD_secs [headB (W.turn + 1) W.size] z.1 (((W.turn + 1) % 2 : Nat) : Int)
      have hyw : Within y.1 fun i c => c = z.1.now i ∨ (i = (W.turn + 1) % 2 ∧ c = headB (W.turn + 1) W.size) := by
        rw [hyz]
        refine Within.lay _ _ ((rest_within hzk f3).mono fun i c e => .inl e) fun j hj => .inr ?_
        have hj0 : j = 0 := by simpa using hj
        subst hj0
        exact ⟨rfl, rfl⟩
      rw [← hyz] at hg hyk hys
      rw [List.length_singleton] at hg
      have hnew : ∀ g : Nat → Bytes, g ((W.turn + 1) % 2) = headB (W.turn + 1) W.size → (∀ i, i < S → i ≠ (W.turn + 1) % 2 → g i = z.1.now i) → Told g S (W.turn + 1) W.size [b] ∧ TailOld g (W.turn + 1) W.size [b] ∧ NextOld g (W.turn + 1) W.size := fun g e1 e2 => by
        refine told_next (g := g) ht hl hx ht1 h1 hk e1 (fun j hj => ?_) fun i hi hn hn2 => ?_
        · rw [e2 _ (by omega) (by omega), f4, if_pos (by omega), Nat.add_sub_cancel_left, piece_getD hj]
        · rw [e2 i hi hn, f4, if_neg hn2]
      rcases hg with ⟨g1, g2, g3, g4⟩ | g1
      · left
        rw [ckp_ok h0 hy g1]
        obtain ⟨n1, n2, n3⟩ := hnew y.1.now (by rw [g4, if_pos (by omega), Nat.sub_self]; rfl) fun i _ hn => by rw [g4, if_neg (by omega)]
        exact ⟨rfl, g2, ⟨n1, n2, g3, (hys.trans hzs).trans hs, by show sectN b.length = usedB [b]; simp [usedB]⟩, rfl, rfl, n3⟩
      · right; right
        rw [ckp_bad h0 hy (by rw [g1]; decide)]
        refine ⟨g1, fun keep => ?_⟩
        obtain ⟨_, _, c3, c4⟩ := crash_rest hyk hyw keep
        have hlen : y.1.secs.length = S := (hys.trans hzs).trans hs
        rcases c4 ((W.turn + 1) % 2) (by omega) with e | ⟨_, e⟩
        · refine ⟨W.turn, _, .inl rfl, hsame _ fun i hi => ?_⟩
          have hi2 : (y.1.crash keep).now i = z.1.now i := by
            rcases c4 i (by omega) with e2 | ⟨e2, _⟩
            · exact e2
            · rw [e2]; exact e
          rw [show ({ W with D := y.1, broken := true } : Wl).D = y.1 from rfl, hi2, f4]
          by_cases c : areaB (W.turn + 1) W.size ≤ i ∧ i < areaB (W.turn + 1) W.size + sectN b.length
          · exact .inr c
          · rw [if_neg c]; exact .inl rfl
        · obtain ⟨n1, n2, _⟩ := hnew (y.1.crash keep).now e fun i hi hn => (c4 i (by omega)).elim id fun e => absurd e.1 hn
          exact ⟨W.turn + 1, _, .inr rfl, n1, n2.no ht1⟩
    · right; right
      rw [if_pos (by rw [f1]; decide)] at hyz
      rw [ckp_bad h0 hy (by rw [hyz, f1]; decide)]
      refine ⟨by rw [hyz]; exact f1, fun keep => ⟨W.turn, _, .inl rfl, hsame _ fun i hi => ?_⟩⟩
      show (y.1.crash keep).now i = _ ∨ _
      rw [hyz]
      exact (crash_rest hzk hzw keep).2.2.2 i (by omega)
  · right; left
    rw [ckp_no h0]
    exact ⟨h0, h9, rfl⟩
theorem put_fate {W : Wl} {m S : Nat} (hok : W.D.Ok m) (ha : Alive W.D) (h : Firm W S) (hx : Nexts W) (o : DeedD) :
    ((putD W o).2 = 0 ∧ Alive (putD W o).1.D ∧ Firm (putD W o).1 S ∧ (putD W o).1.pieces = thenD W.pieces o ∧ (putD W o).1.size = W.size ∧ Nexts (putD W o).1) ∨
    ((putD W o).2 ≠ 0 ∧ (putD W o).2 ≠ 9 ∧ (putD W o).1 = W) ∨
    ((putD W o).2 = 9 ∧ ∀ keep, ∃ t ps, (ps = W.pieces ∨ ps = thenD W.pieces o) ∧ Told ((putD W o).1.D.crash keep).now S t W.size ps ∧ NoMore ((putD W o).1.D.crash keep).now t W.size ps) := by
  unfold putD thenD
  by_cases hw : whichD o = 1
  · rw [if_pos hw, if_pos hw]
    exact ckp_fate hok ha h hx (bytesD o)
  · rw [if_neg hw, if_neg hw]
    rcases append_fate hok ha h (bytesD o) with ⟨h1, h2, h3, h4, h5, h6⟩ | h1 | ⟨h1, h2⟩
    · exact .inl ⟨h1, h2, h3, h4, h5, h6 hx⟩
    · exact .inr (.inl h1)
    · exact .inr (.inr ⟨h1, fun keep => by obtain ⟨ps, h3⟩ := h2 keep; exact ⟨_, ps, h3⟩⟩)

/-! ### logs that lived -/
theorem fresh_now (n i : Nat) : (Dsk.fresh n).now i = zeros := by
  rcases Nat.lt_or_ge i n with h | h
  · refine (now_some (s := ⟨zeros, []⟩) ?_).trans rfl
    simp [Dsk.fresh, h]
  · exact now_none (by simp [Dsk.fresh, h])
theorem calm_lay {l : List Bytes} {D : Dsk} {a : Nat} (h : Calm D) (hk : a + l.length ≤ D.secs.length) (hs : 0 < D.secs.length) : (layD D (a : Int) l).2 = 0 ∧ Calm (layD D (a : Int) l).1 ∧ (layD D (a : Int) l).1.order = [] ∧ ∀ j, (layD D (a : Int) l).1.now j = if a ≤ j ∧ j < a + l.length then l.getD (j - a) [] else D.now j := by
  obtain ⟨h1, h2⟩ := layD_calm l h (Int.natCast_nonneg a) (by omega) hs
  rcases lay_alive l a h.alive hk hs with ⟨_, _, f3, f4⟩ | f1
  · exact ⟨h1, h2, f3, f4⟩
  · rw [f1] at h1; exact absurd h1 (by decide)
theorem start_firm {a : Nat} (ha : 4 ≤ a ∧ a ≤ 1000) : Firm (Wl.fresh (formatW (Dsk.fresh (2 + 2 * a)) (a : Int)).1 a) (2 + 2 * a) ∧ Nexts (Wl.fresh (formatW (Dsk.fresh (2 + 2 * a)) (a : Int)).1 a) := by
  have hS : (Dsk.fresh (2 + 2 * a)).secs.length = 2 + 2 * a := by simp [Dsk.fresh]
  have hfit : FitsB a (2 + 2 * a) := ⟨ha.1, ha.2, Nat.le_refl _⟩
  obtain ⟨a1, a2, a3, a4⟩ := calm_lay (l := List.replicate (2 + 2 * a) zeros) (a := 0) (fresh_calm (2 + 2 * a)) (by rw [List.length_replicate, hS]; omega) (by omega)
  have asz := layD_secs (List.replicate (2 + 2 * a) zeros) (Dsk.fresh (2 + 2 * a)) ((0 : Nat) : Int)
  obtain ⟨D1, hD1⟩ : ∃ D1, D1 = layD (Dsk.fresh (2 + 2 * a)) ((0 : Nat) : Int) (List.replicate (2 + 2 * a) zeros) := ⟨_, rfl⟩
  rw [← hD1] at a1 a2 a3 a4 asz
  have hz : ∀ j, D1.1.now j = zeros := fun j => by
    rw [a4]
    split
    · rename_i h
      rw [List.length_replicate] at h
      rw [List.getD_eq_getElem?_getD, List.getElem?_replicate, if_pos (by omega)]
      rfl
    · exact fresh_now _ _
  have hu : sectN ([] : Bytes).length = 1 := rfl
  obtain ⟨b1, b2, b3, b4⟩ := calm_lay (l := pieceB 0 0 []) (a := 2) a2 (by rw [pieceB_length, asz, hS, hu]; omega) (by omega)
  have bs := layD_secs (pieceB 0 0 []) D1.1 ((2 : Nat) : Int)
  obtain ⟨D2, hD2⟩ : ∃ D2, D2 = layD D1.1 ((2 : Nat) : Int) (pieceB 0 0 []) := ⟨_, rfl⟩
  rw [← hD2] at b1 b2 b3 b4 bs
  obtain ⟨c1, c2, c3, c4⟩ := calm_lay (l := [headB 0 a]) (a := 0) b2 (by rw [List.length_singleton, bs, asz, hS]; omega) (by omega)
  have cs := layD_secs [headB 0 a] D2.1 ((0 : Nat) : Int)
  have hf : formatW (Dsk.fresh (2 + 2 * a)) (a : Int) = layD D2.1 ((0 : Nat) : Int) [headB 0 a] := by
    rw [formatW_yes (by rw [hS]; exact hfit)]
    rw [← show D1 = layD (Dsk.fresh (2 + 2 * a)) 0 (List.replicate (2 + 2 * a) zeros) from hD1, if_neg (by rw [a1]; decide)]
    unfold beginD
    dsimp only
    rw [show (areaB 0 a : Int) = ((2 : Nat) : Int) from rfl, ← hD2, if_neg (by rw [b1]; decide)]
  rw [← hf] at c1 c2 c3 c4 cs
  obtain ⟨D3, hD3⟩ : ∃ D3, D3 = formatW (Dsk.fresh (2 + 2 * a)) (a : Int) := ⟨_, rfl⟩
  rw [← hD3] at c1 c2 c3 c4 cs ⊢
  rw [pieceB_length, hu] at b4
  rw [List.length_singleton] at c4
  have hA0 : areaB 0 a = 2 := rfl
  have hA1 : areaB 1 a = 2 + a := rfl
  have hub : usedB [([] : Bytes)] = 1 := rfl
  have hone : ∀ i, i ≠ 0 → i ≠ 2 → D3.1.now i = zeros := fun i h0 h2 => by rw [c4, if_neg (by omega), b4, if_neg (by omega), hz]
  refine ⟨⟨⟨show 0 < 4294967296 by decide, hfit, ⟨?_, fun hd => ?_⟩, ?_, by simp [Wl.fresh], fun p hp => ?_, fun i hi => ?_⟩, fun i h1 h2 => ?_, c3, ((cs.trans bs).trans asz).trans hS, rfl⟩, fun i hi => ?_⟩
  · show D3.1.now (0 % 2) = headB 0 a
    rw [c4, if_pos (by omega)]
    rfl
  · have e : D3.1.now ((0 + 1) % 2) = zeros := hone _ (by decide) (by decide)
    exact absurd (show HeadOk 1 (2 + 2 * a) zeros by have hd : HeadOk ((0 + 1) % 2) (2 + 2 * a) (D3.1.now ((0 + 1) % 2)) := hd; rw [e] at hd; exact hd) head_zeros
  · show usedB [([] : Bytes)] ≤ a
    omega
  · have : p = [] := by simpa [Wl.fresh] using hp
    rw [this]; exact Nat.zero_le _
  · have hi0 : i = 0 := by have hi : i < usedB [([] : Bytes)] := hi; omega
    subst hi0
    show D3.1.now (2 + 0) = _
    rw [c4, if_neg (by omega), b4, if_pos (by omega)]
    rfl
  · show Old 0 (D3.1.now (areaB 0 a + i))
    rw [hone _ (by omega) (by have h1 : usedB [([] : Bytes)] ≤ i := h1; omega)]
    exact old_zeros _
  · show Old 1 (D3.1.now (areaB 1 a + i))
    rw [hone _ (by omega) (by omega)]
    exact old_zeros _
theorem put_calm9 {W : Wl} (h : Calm W.D) (hW : Wl.Ok W) (o : DeedD) : (putD W o).2 ≠ 9 := by
  unfold putD
  split
  · rw [(ckp_calm h hW (bytesD o) _ rfl).1]
    rcases refuses_in W (bytesD o) (if W.turn = 4294967295 then 0 else (W.size : Int)) with e | e
    · rw [e.1]; decide
    · exact e.2
  · rw [(append_calm h hW (bytesD o)).1]
    rcases refuses_in W (bytesD o) ((W.size : Int) - W.used) with e | e
    · rw [e.1]; decide
    · exact e.2
theorem live_firm {a : Nat} (ha : 4 ≤ a ∧ a ≤ 1000) (L : List DeedD) : ∀ i, i ≤ L.length → Firm (livedD a (L.take i)) (2 + 2 * a) ∧ Nexts (livedD a (L.take i))
  | 0, _ => start_firm ha
  | i + 1, h => by
    rw [livedD_step a L (show i < L.length by omega)]
    obtain ⟨h1, h2⟩ := live_firm ha L i (by omega)
    have hlv := live_take ha L i (by omega)
    unfold stepD
    split
    · exact ⟨h1, h2⟩
    · rcases put_fate hlv.dk hlv.calm.alive h1 h2 L[i] with ⟨_, _, f3, _, _, f6⟩ | ⟨_, _, f3⟩ | ⟨f1, _⟩
      · exact ⟨f3, f6⟩
      · rw [f3]; exact ⟨h1, h2⟩
      · exact absurd f1 (put_calm9 hlv.calm hlv.ok L[i])
end Go.Proofs.YtlfdlodcjiaiiaaDoor
namespace Go.Proofs.YtlfdlodcjiaiiaaDoor
open Go.Vc
def keepD (o : DeedD) : List Bool := o.keep.take 100
theorem keepD_len (o : DeedD) : (keepD o).length = min o.keep.length 100 := by rw [keepD, List.length_take, Nat.min_comm]
theorem bool_one (l : List Bool) : ∀ v ∈ l.map Value.bool, v.oneCell' = true := fun v hv => by obtain ⟨b, _, rfl⟩ := List.mem_map.1 hv; rfl
theorem keep_calls (w : World) (o : DeedD) (hs : Sl w o.p o.keep.length 1 (o.keep.map Value.bool)) (hc : o.keep.length ≤ o.c) :
    CallsV Tryd.prog 22 [o.v] w fun v w' => ∃ q c, v = .slice q (keepD o).length c ∧ Sl w' q (keepD o).length 1 ((keepD o).map Value.bool) ∧ (∀ y off, q = some ⟨y, off, none⟩ → w.heap.size ≤ y) ∧ Ext No w w' := by
  refine calls_enter Tryd.func22 rfl rfl rfl rfl ?_
  have hX := Ext.refl No w
  have hkl := keepD_len o
  have hsl : Sl w o.p (keepD o).length 1 ((keepD o).map Value.bool) := by
    have e := Sl.slice hs 0 (min o.keep.length 100) o.keep.length (Nat.zero_le _) (by omega) (by omega)
    rw [slBase_zero, Nat.sub_zero, Nat.mul_one, Nat.zero_mul, List.drop_zero, ← List.map_take, ← hkl, show o.keep.take (keepD o).length = keepD o from by rw [hkl, Nat.min_comm, ← List.take_take, List.take_length]; rfl] at e
    exact e
  refine c_seq (c_region (wl (st_al I_ok rfl fun b1 w1 hn1 hb1 hE1 => ?_)))
  have fr1 := Nat.le_trans hX.size hn1
  have hsl := hsl.extNo hE1
  have hX := hX.thenNo hE1
  have hb1 : Blk w1 b1 36 (o.cells) := hb1
  refine wl_p I_ok rfl (wl_nil (f_then (c_seq (c_region (wl (st_bs I_ok rfl 1 rfl rfl rfl (by decide) (by decide) (by simp [partsOk]) (l' := []) rfl fun b3 w2 hn3 hb3 hE2 hs2 => ?_))))))
  have ne1_3 : b1 ≠ b3 := Nat.ne_of_lt (Nat.lt_of_lt_of_le hb1.lt hn3)
  have fr3 := Nat.le_trans hX.size hn3
  have hb1 := hb1.extNo hE2
  have hsl := hsl.extNo hE2
  have hX := hX.thenNo hE2
  refine wl_p I_ok rfl (wl (st_ld I_ok rfl (hb1.cell rfl) (wl_p I_ok rfl (wl (st_ld I_ok rfl (hb1.cell rfl) (wl_p I_ok rfl ?_))))))
  refine wl (st_sl I_ok rfl 0 (min o.keep.length 100) o.c 1 rfl (.inr ⟨rfl, rfl⟩) (.inl (congrArg some (minI _ _))) (.inr ⟨rfl, rfl⟩) (Nat.zero_le _) (by omega) (Nat.le_refl _) ?_)
  rw [slBase_zero, Nat.sub_zero, Nat.sub_zero, ← hkl]
  have hXa := hX.size
  refine wl (st_app I_ok rfl 1 1 rfl rfl rfl (by decide) (Own.blk (n := 0) (c := 0) hb3 1 rfl (Nat.le_refl _) (by decide)) (Src.slice hsl (bool_one _)) (by dsimp only [maxLen]; omega) (by dsimp only; omega) fun p3 c3 w3 ho3 hE3 hB3 => ?_)
  have hX := hX.trans hE3 fun y hy e => by cases e; omega
  have ho1 : Own w3 p3 (0 + (keepD o).length) c3 4 1 ((keepD o).map Value.bool) := ho3
  have hn1 : ∀ x, OwnB p3 x → w.heap.size ≤ x := fun x hx => (hB3 x hx).elim (fun hF => by cases hF; omega) fun h => by omega
  rw [Nat.zero_add] at ho1
  dsimp only
  rw [Nat.zero_add]
  refine wl_p I_ok rfl (wl_nil (f_then (c_ret (f_ret1 rfl rfl ?_))))
  exact ⟨_, _, rfl, ho1.sl, fun y off e => hn1 y (OwnB.of ho1 e), hX⟩
end Go.Proofs.YtlfdlodcjiaiiaaDoor
namespace Go.Proofs.YtlfdlodcjiaiiaaDoor
open Go.Vc
def armW (W : Wl) (n : Nat) : Wl := { W with D := { W.D with fuse := (n : Int) } }
theorem arm_calm {D : Dsk} (h : Calm D) (n : Nat) : D.arm (n : Int) = ({ D with fuse := (n : Int) }, 0) := by
  unfold Dsk.arm
  rw [if_neg (by rw [h.1]; decide), show setTo (n : Int) = n from if_neg (by omega)]
theorem dsk_armed {D : Dsk} {m : Nat} (h : D.Ok m) {n : Nat} (hn : n < 1000000) : ({ D with fuse := (n : Int) } : Dsk).Ok m := ⟨h.size, h.safe, h.inside, h.count, h.few, by show (-1 : Int) ≤ n ∧ (n : Int) < _; omega, h.fault, h.done⟩
theorem Wl.Ok.armed {W : Wl} (h : Wl.Ok W) (n : Nat) : Wl.Ok (armW W n) := ⟨h.size, h.secs, h.turn, h.some, h.short, h.few, h.used, h.room⟩
theorem Wl.Ok.rid {D D' : Dsk} {t n : Nat} {ps : List Bytes} (h : Wl.Ok ⟨D, n, t, ps, usedB ps, false⟩) (hs : D'.secs = D.secs) : Wl.Ok ⟨D', n, t, ps, usedB ps, false⟩ :=
  ⟨h.size, by show 2 + 2 * n ≤ D'.secs.length; rw [hs]; exact h.secs, h.turn, h.some, h.short, h.few, h.used, h.room⟩
theorem Firm.armed {W : Wl} {S : Nat} (h : Firm W S) (n : Nat) : Firm (armW W n) S := ⟨h.told, h.tail, h.rest, h.secs, h.used⟩
theorem putD_secs (W : Wl) (o : DeedD) : (putD W o).1.D.secs.length = W.D.secs.length := by
  unfold putD
  split
  · unfold Wl.checkpoint
    dsimp only
    generalize (if W.turn = 4294967295 then 0 else (W.size : Int)) = r
    split
    · rfl
    · split
      · exact beginD_secs _ _ _ _
      · exact beginD_secs _ _ _ _
  · unfold Wl.append
    dsimp only
    split
    · rfl
    · split
      · exact layD_secs _ _ _
      · exact layD_secs _ _ _
/-- a disk that came up -/
structure Down (D : Dsk) (m S t n : Nat) (ps : List Bytes) : Prop where
  ok : D.Ok m
  calm : Calm D
  rest : D.order = []
  secs : D.secs.length = S
  told : Told D.now S t n ps
  no : NoMore D.now t n ps
theorem Down.mono {D : Dsk} {m m' S t n : Nat} {ps : List Bytes} (h : Down D m S t n ps) (hm : m ≤ m') : Down D m' S t n ps := ⟨h.ok.mono hm, h.calm, h.rest, h.secs, h.told, h.no⟩
def Zeroed (D : Dsk) (t n : Nat) (ps : List Bytes) : Prop := ∀ i, usedB ps ≤ i → i < n → D.now (areaB t n + i) = zeros
theorem zeroed_old {D : Dsk} {t n : Nat} {ps : List Bytes} (h : Zeroed D t n ps) : TailOld D.now t n ps := fun i h1 h2 => by rw [h i h1 h2]; exact old_zeros t
/-- the log that it is opened to -/
abbrev upW (D : Dsk) (t n : Nat) (ps : List Bytes) : Wl := ⟨D, n, t, ps, usedB ps, false⟩
theorem crash_secs (D : Dsk) (keep : List Bool) : (D.crash keep).secs.length = D.secs.length := settleAll_length _ _ _ _
theorem crash_down {D : Dsk} {m S t n : Nat} {ps : List Bytes} (hok : D.Ok m) (hs : D.secs.length = S) (keep : List Bool) (h : Told (D.crash keep).now S t n ps ∧ NoMore (D.crash keep).now t n ps) : Down (D.crash keep) m S t n ps :=
  ⟨hok.crash keep, ⟨rfl, rfl, rfl⟩, rfl, (crash_secs D keep).trans hs, h.1, h.2⟩
theorem put_armed {a m S : Nat} {W : Wl} (h : LiveOk a m W) (hf : Firm W S) (hx : Nexts W) {n : Nat} (hn : n < 1000000) (o : DeedD) (keep : List Bool) :
    ∃ t ps, Down ((putD (armW W n) o).1.D.crash keep) (m + 2000) S t a ps ∧ ((putD (armW W n) o).2 = 0 → ps = thenD W.pieces o) ∧ ((putD (armW W n) o).2 ≠ 0 → (putD (armW W n) o).2 ≠ 9 → ps = W.pieces) ∧ (ps = W.pieces ∨ ps = thenD W.pieces o) := by
  have hok := (put_fine (dsk_armed h.dk hn) (h.ok.armed n) o).1
  have hsz := h.size
  have hs : (putD (armW W n) o).1.D.secs.length = S := (putD_secs _ _).trans hf.secs
  have key := put_fate (W := armW W n) (dsk_armed h.dk hn) h.calm.alive (hf.armed n) hx o
  obtain ⟨r, hr⟩ : ∃ r, r = putD (armW W n) o := ⟨_, rfl⟩
  rw [← hr] at hok hs key ⊢
  rcases key with ⟨f1, f2, f3, f4, f5, f6⟩ | ⟨f1, f2, f3⟩ | ⟨f1, f2⟩
  · have ht := f3.told
    rw [f4, f5, show (armW W n).size = a from hsz] at ht
    have hl := f3.tail
    rw [f4, f5, show (armW W n).size = a from hsz] at hl
    have hno := hl.no ht.lt
    have hc := crash_same hok f3.rest keep
    refine ⟨r.1.turn, thenD W.pieces o, crash_down hok hs keep ⟨ht.same fun i _ => hc i, hno.wiped (fun i _ _ => .inl (hc i)) ht.lt⟩, fun _ => rfl, fun e => absurd f1 e, .inr rfl⟩
  · have ht := hf.told
    have hl := hf.tail
    rw [hsz] at ht hl
    have hrest : r.1.D.order = [] := by rw [f3]; exact hf.rest
    have hc := crash_same hok hrest keep
    have hn : ∀ i, r.1.D.now i = W.D.now i := fun i => by rw [f3]; rfl
    refine ⟨W.turn, W.pieces, crash_down hok hs keep ⟨ht.same fun i _ => (hc i).trans (hn i), (hl.no ht.lt).wiped (fun i _ _ => .inl ((hc i).trans (hn i))) ht.lt⟩, fun e => absurd e f1, fun _ _ => rfl, .inl rfl⟩
  · obtain ⟨t, ps, g1, g2⟩ := f2 keep
    rw [show (armW W n).size = a from hsz] at g2
    exact ⟨t, ps, crash_down hok hs keep g2, fun e => by rw [f1] at e; exact absurd e (by decide), fun _ e => absurd f1 e, g1⟩
/-- it is opened -/
theorem Down.opens {D : Dsk} {m S t n : Nat} {ps : List Bytes} (h : Down D m S t n ps) : ∃ D', openW D = (D', 0, t, n, ps) ∧ Down D' (m + 5000) S t n ps ∧ Zeroed D' t n ps ∧ Wl.Ok (upW D' t n ps) ∧ Wl.opened (openW D) = upW D' t n ps := by
  obtain ⟨o1, o2, o3, o4, o5⟩ := open_fate h.ok h.calm.alive h.rest h.secs h.told h.no
  obtain ⟨f1, f2, f3⟩ := openW_fine h.ok
  obtain ⟨c1, c2⟩ := o4 h.calm
  obtain ⟨x, hx⟩ : ∃ x, x = openW D := ⟨_, rfl⟩
  rw [← hx] at o1 o2 f1 f2 f3 c1 c2 ⊢
  have e : x = (x.1, 0, t, n, ps) := by rw [← c1, ← o1]
  have hW : Wl.opened x = upW x.1 t n ps := by rw [e]; rfl
  rcases o2 with ⟨_, _, g3, g4, g5⟩ | g1
  · exact ⟨x.1, e, ⟨f1, c2, g3, f2.trans h.secs, g4, (zeroed_old g5).no g4.lt⟩, g5, by have := f3 c1; rwa [hW] at this, hW⟩
  · rw [c1] at g1; exact absurd g1 (by decide)
/-- it is opened, and may die on the way -/
theorem Down.armed {D : Dsk} {m S t n : Nat} {ps : List Bytes} (h : Down D m S t n ps) {k : Nat} (hk : k < 1000000) :
    (openW { D with fuse := (k : Int) }).1.Ok (m + 5000) ∧ ((openW { D with fuse := (k : Int) }).2.1 = 0 ∨ (openW { D with fuse := (k : Int) }).2.1 = 9) ∧ ∀ keep, Down ((openW { D with fuse := (k : Int) }).1.crash keep) (m + 5000) S t n ps := by
  obtain ⟨o1, o2, o3, o4, o5⟩ := open_fate (D := { D with fuse := (k : Int) }) (dsk_armed h.ok hk) h.calm.alive h.rest h.secs h.told h.no
  obtain ⟨f1, f2, f3⟩ := openW_fine (dsk_armed h.ok hk)
  exact ⟨f1, o2.imp And.left id, fun keep => crash_down f1 (f2.trans h.secs) keep (o3 keep)⟩
/-- opened again it is as it is -/
theorem Down.again {D : Dsk} {m S t n : Nat} {ps : List Bytes} (h : Down D m S t n ps) (hz : Zeroed D t n ps) {k : Nat} (hk : k < 1000000) : openW { D with fuse := (k : Int) } = ({ D with fuse := (k : Int), done := D.done + 2 + n }, 0, t, n, ps) :=
  (open_fate (D := { D with fuse := (k : Int) }) (dsk_armed h.ok hk) h.calm.alive h.rest h.secs h.told h.no).2.2.2.2 hz
/-- and may go on -/
theorem Down.append {D : Dsk} {m S t n : Nat} {ps : List Bytes} (h : Down D m S t n ps) (hz : Zeroed D t n ps) (hW : Wl.Ok (upW D t n ps)) (b : Bytes) :
    ((upW D t n ps).append b).1.D.Ok (m + 2000) ∧ ∃ ps', Down ((((upW D t n ps).append b).1.D).crash []) (m + 2000) S t n ps' ∧ ps' = if ((upW D t n ps).append b).2 = 0 then ps ++ [b] else ps := by
  have hf : Firm (upW D t n ps) S := ⟨h.told, zeroed_old hz, h.rest, h.secs, rfl⟩
  obtain ⟨c1, c2, c3, c4, c5, c6⟩ := append_calm (W := upW D t n ps) h.calm hW b
  have hok := (append_fine (W := upW D t n ps) h.ok hW b).1
  have hs : ((upW D t n ps).append b).1.D.secs.length = S := by
    have := putD_secs (upW D t n ps) ⟨0, 0, 0, none, [], 0⟩
    rcases append_fate (W := upW D t n ps) h.ok h.calm.alive hf b with g | g | g
    · exact g.2.2.1.secs
    · rw [g.2.2]; exact h.secs
    · unfold Wl.append
      dsimp only
      split
      · exact h.secs
      · split
        · exact (layD_secs _ _ _).trans h.secs
        · exact (layD_secs _ _ _).trans h.secs
  obtain ⟨r, hr⟩ : ∃ r, r = (upW D t n ps).append b := ⟨_, rfl⟩
  have key := append_fate (W := upW D t n ps) h.ok h.calm.alive hf b
  rw [← hr] at c1 c2 c3 c4 hok hs key ⊢
  refine ⟨hok, ?_⟩
  rcases key with ⟨f1, f2, f3, f4, f5, f6⟩ | ⟨f1, f2, f3⟩ | ⟨f1, f2⟩
  · have ht := f3.told
    have hl := f3.tail
    rw [f4, f5, c4] at ht hl
    have hc := crash_same hok f3.rest []
    refine ⟨ps ++ [b], crash_down hok hs [] ⟨ht.same fun i _ => hc i, (hl.no ht.lt).wiped (fun i _ _ => .inl (hc i)) ht.lt⟩, ?_⟩
    rw [if_pos f1]
  · have hrest : r.1.D.order = [] := by rw [f3]; exact h.rest
    have hc := crash_same hok hrest []
    have hn : ∀ i, r.1.D.now i = D.now i := fun i => by rw [f3]
    refine ⟨ps, crash_down hok hs [] ⟨h.told.same fun i _ => (hc i).trans (hn i), h.no.wiped (fun i _ _ => .inl ((hc i).trans (hn i))) h.told.lt⟩, ?_⟩
    rw [if_neg f1]
  · rw [c1] at f1
    rcases refuses_in (upW D t n ps) b ((n : Int) - usedB ps) with e | e
    · exact absurd (e.1.symm.trans f1) (by decide)
    · exact absurd f1 e.2

/-! ### in memory -/
theorem LvI.disk {w u u' : World} {d x : Nat} {W : Wl} {T : List Bytes} {z : LvZ} {D' : Dsk} (h : LvI w u d x W T z) (hw : 0 < w.heap.size) (hA : At u' d z.1 D') (hE : Ext z.1 u u') : LvI w u' d x { W with D := D' } T z :=
  ⟨hA, (h.log.ext hE fun y hy e => h.hf y hy e).data rfl rfl rfl rfl rfl, h.tale.ext hE fun y hy e => (h.gf y hy).1 e, fun y hy => ⟨(h.lo y hy).1, Nat.lt_of_lt_of_le (h.lo y hy).2 hE.size⟩, h.hf, h.gf, Rt.ext h.rt hE fun e => by have := (h.lo 0 (.inl e)).1; omega⟩
theorem LvI.no {w v u u' : World} {d x : Nat} {W : Wl} {T : List Bytes} {z : LvZ} (h : LvI v u d x W T z) (hs : w.heap.size ≤ v.heap.size) (hX : Ext No w u) (hE : Ext z.1 u u') : Ext No w u' := hX.trans hE fun y hy e => by
  have := (h.lo y (.inl e)).1
  omega
theorem LvI.put2 {w v u u' : World} {d x : Nat} {W : Wl} {T : List Bytes} {z : LvZ} {r : Wl × Int} {a : Value} (h : LvI v u d x W T z) (hs0 : w.heap.size ≤ v.heap.size) (hv : v.heap.size ≤ u.heap.size) (hw : 0 < v.heap.size) (hX : Ext No w u) (hq : LogQ u x d z.1 z.2.1 r a u') :
    a = .int .i64 r.2 ∧ Ext No w u' ∧ Ext (fun y => z.1 y ∨ z.2.1 y) u u' ∧ ∃ F2 H2 : Nat → Prop, LvI v u' d x r.1 T (F2, H2, z.2.2.1, z.2.2.2) := by
  obtain ⟨rfl, F2, H2, h1, h2, h3, h4, h5, hE⟩ := hq
  have hs2 := hE.size
  have hl := h1.lt
  have hl2 := h2.lt
  refine ⟨rfl, hX.trans hE fun y hy e => ?_, hE, F2, H2, h1, h2, h.tale.ext hE fun y hy e => ?_, fun y hy => ?_, h5, fun y hy => ⟨fun e => ?_, fun e => ?_⟩, Rt.ext h.rt hE fun e => ?_⟩
  · rcases e with e | e
    · have := (h.lo y (.inl e)).1; omega
    · have := (h.lo y (.inr (.inl e))).1; omega
  · exact e.elim (h.gf y hy).1 (h.gf y hy).2
  · rcases hy with hy | hy | hy
    · refine ⟨(h3 y hy).elim (fun e => (h.lo y (.inl e)).1) fun e => by omega, hl y hy⟩
    · refine ⟨(h4 y hy).elim (fun e => (h.lo y (.inr (.inl e))).1) fun e => by omega, hl2 y hy⟩
    · have := h.lo y (.inr (.inr hy)); exact ⟨this.1, Nat.lt_of_lt_of_le this.2 hs2⟩
  · exact (h3 y e).elim (h.gf y hy).1 fun e => by have := (h.lo y (.inr (.inr hy))).2; omega
  · exact (h4 y e).elim (h.gf y hy).2 fun e => by have := (h.lo y (.inr (.inr hy))).2; omega
  · rcases e with e | e
    · have := (h.lo 0 (.inl e)).1; omega
    · have := (h.lo 0 (.inr (.inl e))).1; omega
/-- a disk in memory, of blocks that are not older than a world -/
structure DvI (v u : World) (d : Nat) (F : Nat → Prop) (D : Dsk) : Prop where
  at_ : At u d F D
  lo : ∀ y, F y → v.heap.size ≤ y
  rt : Rt u
theorem DvI.extNo {v u u' : World} {d : Nat} {F : Nat → Prop} {D : Dsk} (h : DvI v u d F D) (hE : Ext No u u') : DvI v u' d F D := ⟨h.at_.extNo hE, h.lo, Rt.ext h.rt hE id⟩
theorem DvI.ext {S : Nat → Prop} {v u u' : World} {d : Nat} {F : Nat → Prop} {D : Dsk} (h : DvI v u d F D) (hE : Ext S u u') (hS : ∀ y, F y → ¬ S y) (h0 : ¬ S 0) : DvI v u' d F D := ⟨h.at_.ext hE hS, h.lo, Rt.ext h.rt hE h0⟩
theorem DvI.to {v u u' : World} {d : Nat} {F F' : Nat → Prop} {D D' : Dsk} (h : DvI v u d F D) (hv : 0 < v.heap.size ∧ v.heap.size ≤ u.heap.size) (hA : At u' d F' D') (hE : Ext F u u') (hF : ∀ y, F' y → F y ∨ u.heap.size ≤ y) : DvI v u' d F' D' :=
  ⟨hA, fun y hy => (hF y hy).elim (h.lo y) fun e => by omega, Rt.ext h.rt hE fun e => by have := h.lo 0 e; omega⟩
theorem DvI.no {w v u u' : World} {d : Nat} {F : Nat → Prop} {D : Dsk} (h : DvI v u d F D) (hs : w.heap.size ≤ v.heap.size) (hX : Ext No w u) (hE : Ext F u u') : Ext No w u' := hX.trans hE fun y hy e => by
  have := h.lo y e
  omega
theorem DvI.own {v u : World} {d : Nat} {F : Nat → Prop} {D : Dsk} (h : DvI v u d F D) : F d := by
  obtain ⟨sb, op, oc, h1⟩ := h.at_
  exact h1.own.1
theorem DvI.size {v u : World} {d : Nat} {F : Nat → Prop} {D : Dsk} (h : DvI v u d F D) : v.heap.size ≤ u.heap.size := by
  have h1 := h.lo d h.own
  have h2 := h.at_.lt d h.own
  omega
theorem LvI.dv {v u : World} {d x : Nat} {W : Wl} {T : List Bytes} {z : LvZ} (h : LvI v u d x W T z) : DvI v u d z.1 W.D := ⟨h.at_, fun y hy => (h.lo y (.inl hy)).1, h.rt⟩
end Go.Proofs.YtlfdlodcjiaiiaaDoor
