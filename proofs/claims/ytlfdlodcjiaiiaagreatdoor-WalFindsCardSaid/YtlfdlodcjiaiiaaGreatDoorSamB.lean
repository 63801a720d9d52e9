/-
  Walks and laws towards: WalGoes: whatever is done to a log, with areas of any size, whatever fails, and whenever the power goes: what is told, and what stands on the disk, is as the document says, write by write.
-/
import Derived.ChangeSame
import Derived.ReadAgain
import Derived.RowKit
import Derived.ChangeBears
import Derived.OpenShut
import Derived.DeepKeys
import Derived.DeepKeys3
import Derived.MapKept
import Derived.MapFrom
import Derived.TacticsIn
import Derived.RangeFuncSeq
import Derived.RangeFuncLeaves
import Derived.Test.YtlfdlodcjiaiiaaGreatDoorSamA
namespace Go.Vc
section
variable {P : Program} {I : Info} {f : Fs} {ops : Array Oper} {o : Oper} {env : Env} {w : World}

def shE (n : Nat) (ops : Array Oper) (env : Env) (o : Oper) : Option (BinOp × IntKind × Int × Int × Nat) :=
  match pre n ops env o with
  | false => none
  | true => match o.dst with
    | some d => match o.op with
      | .binOp op _ x y _ => match isShift op with
        | true => match evO env x with
          | some (.int k p) => match evO env y with
            | some (.int _ q) => some (op, k, p, q, d)
            | _ => none
          | _ => none
        | false => none
      | _ => none
    | none => none
def shV (op : BinOp) (k : IntKind) (p q : Int) : Value :=
  match op with
  | .shl => .int k (k.wrap (p * 2 ^ min q.toNat k.bits))
  | _ => .int k (p.fdiv (2 ^ min q.toNat k.bits))
theorem shE_pev {n : Nat} {op : BinOp} {k : IntKind} {p q : Int} {d : Nat} (h : shE n ops env o = some (op, k, p, q, d)) (hq : 0 ≤ q) : pre n ops env o = true ∧ o.dst = some d ∧ pev I o.op env = some (shV op k p q) := by
  unfold shE at h
  split at h
  · cases h
  · rename_i hp
    split at h
    · rename_i d' hd
      split at h
      · rename_i op' t x y u ho
        split at h
        · rename_i hs
          split at h
          · rename_i k' p' hx
            split at h
            · rename_i k2 q' hy
              simp only [Option.some.injEq, Prod.mk.injEq] at h
              obtain ⟨rfl, rfl, rfl, rfl, rfl⟩ := h
              refine ⟨hp, hd, ?_⟩
              have hn : decide (q' < 0) = false := decide_eq_false (by omega)
              rw [ho]
              simp only [pev, hx, hy, bin, hs, shiftBin, hn]
              cases op' <;> first | rfl | cases hs
            · cases h
          · cases h
        · cases h
      · cases h
    · cases h
theorem wd_sh (hI : I.Ok P) {K : Act → World → Prop} {r : Dr} {i : Nat} {pl : List (Nat × Bool)} {dn : List Nat} (ho : ops[i]? = some o) {op : BinOp} {k : IntKind} {p q : Int} {d : Nat} (h : shE f.n ops env o = some (op, k, p, q, d)) (hq : 0 ≤ q)
    (kk : WD P f ops K r pl (i :: dn) ((d, shV op k p q) :: env) w) : WD P f ops K r ((i, true) :: pl) dn env w := by
  obtain ⟨h1, h2, h3⟩ := shE_pev (I := I) h hq
  exact wd_q ho h1 h2 (fun w' _ => pev_sound hI h3 w') kk
theorem st_sh (hI : I.Ok P) {K : Env → World → Prop} {op : BinOp} {k : IntKind} {p q : Int} {d : Nat} (h : shE f.n ops env o = some (op, k, p, q, d)) (hq : 0 ≤ q)
    (kk : K ((d, shV op k p q) :: env) w) : St P f ops o env w K := by
  obtain ⟨h1, h2, h3⟩ := shE_pev (I := I) h hq
  obtain ⟨h4, h5⟩ := pre_eq h1
  exact st_v h4 h5 (pev_sound hI h3 w) (by rw [h2]; exact kk)
end
end Go.Vc
namespace Go.Vc

abbrev W32 := BitVec 32
abbrev wordV (x : W32) : Value := .int .u32 (x.toNat : Int)
def wordsV (l : List W32) : List Value := l.map wordV
theorem wordsV_len (l : List W32) : (wordsV l).length = l.length := by simp [wordsV]
theorem wordsV_append (a b : List W32) : wordsV (a ++ b) = wordsV a ++ wordsV b := by simp [wordsV]
theorem wordsV_get (l : List W32) {i : Nat} (h : i < l.length) : (wordsV l)[i]? = some (wordV l[i]) := by simp [wordsV, h]
instance (l : List W32) : OneC (wordsV l) := ⟨fun u hu => by obtain ⟨x, _, rfl⟩ := List.mem_map.1 hu; rfl⟩

theorem w_ofInt (x : W32) : BitVec.ofInt 32 (x.toNat : Int) = x := by
  apply BitVec.eq_of_toNat_eq
  have := x.isLt
  rw [BitVec.toNat_ofInt]
  omega
theorem w_in (x : W32) : IntKind.u32.wrap (x.toNat : Int) = (x.toNat : Int) := by
  have := x.isLt
  rw [IntKind.wrap_u32]; omega
theorem w_wrap (n : Nat) : IntKind.u32.wrap (n : Int) = ((BitVec.ofNat 32 n).toNat : Int) := by
  rw [IntKind.wrap_u32, BitVec.toNat_ofNat]; omega
theorem w_add (x y : W32) : IntKind.u32.wrap ((x.toNat : Int) + (y.toNat : Int)) = ((x + y).toNat : Int) := by
  rw [IntKind.wrap_u32, BitVec.toNat_add]; omega
theorem w_mul (x y : W32) : IntKind.u32.wrap ((x.toNat : Int) * (y.toNat : Int)) = ((x * y).toNat : Int) := by
  rw [IntKind.wrap_u32, BitVec.toNat_mul, ← Int.natCast_mul]; omega
theorem w_not (x : W32) : IntKind.u32.wrap (4294967295 - (x.toNat : Int)) = ((~~~x).toNat : Int) := by
  have := x.isLt
  rw [IntKind.wrap_u32, BitVec.toNat_not]; omega
theorem w_xor (x y : W32) : bitI .xor .u32 (x.toNat : Int) (y.toNat : Int) = ((x ^^^ y).toNat : Int) := by
  show IntKind.u32.wrap ((BitVec.ofInt 32 (x.toNat : Int) ^^^ BitVec.ofInt 32 (y.toNat : Int)).toNat : Int) = _
  rw [w_ofInt, w_ofInt, w_in]
theorem w_and (x y : W32) : bitI .and .u32 (x.toNat : Int) (y.toNat : Int) = ((x &&& y).toNat : Int) := by
  show IntKind.u32.wrap ((BitVec.ofInt 32 (x.toNat : Int) &&& BitVec.ofInt 32 (y.toNat : Int)).toNat : Int) = _
  rw [w_ofInt, w_ofInt, w_in]
theorem w_or (x y : W32) : bitI .or .u32 (x.toNat : Int) (y.toNat : Int) = ((x ||| y).toNat : Int) := by
  show IntKind.u32.wrap ((BitVec.ofInt 32 (x.toNat : Int) ||| BitVec.ofInt 32 (y.toNat : Int)).toNat : Int) = _
  rw [w_ofInt, w_ofInt, w_in]
theorem w_shr (x : W32) (q : Int) : Int.fdiv (x.toNat : Int) (2 ^ min q.toNat IntKind.u32.bits) = ((x >>> q.toNat).toNat : Int) := by
  have hx := x.isLt
  rw [show (2 : Int) ^ min q.toNat IntKind.u32.bits = ((2 ^ min q.toNat 32 : Nat) : Int) from by rw [Int.natCast_pow]; rfl, Int.fdiv_eq_ediv_of_nonneg _ (Int.natCast_nonneg _), ← Int.natCast_ediv, BitVec.toNat_ushiftRight, Nat.shiftRight_eq_div_pow]
  rcases Nat.le_total q.toNat 32 with h | h
  · rw [Nat.min_eq_left h]
  · rw [Nat.min_eq_right h, Nat.div_eq_of_lt hx, Nat.div_eq_of_lt (Nat.lt_of_lt_of_le hx (Nat.pow_le_pow_right (by decide) h))]
theorem w_shl (x : W32) (q : Int) : IntKind.u32.wrap ((x.toNat : Int) * 2 ^ min q.toNat IntKind.u32.bits) = ((x <<< q.toNat).toNat : Int) := by
  rw [show (2 : Int) ^ min q.toNat IntKind.u32.bits = ((2 ^ min q.toNat 32 : Nat) : Int) from by rw [Int.natCast_pow]; rfl, ← Int.natCast_mul, w_wrap]
  congr 1
  rw [BitVec.toNat_ofNat, BitVec.toNat_shiftLeft, Nat.shiftLeft_eq]
  rcases Nat.le_total q.toNat 32 with h | h
  · rw [Nat.min_eq_left h]
  · rw [Nat.min_eq_right h, Nat.mul_mod_left]
    obtain ⟨k, hk⟩ := Nat.exists_eq_add_of_le h
    rw [hk, Nat.pow_add, ← Nat.mul_assoc, Nat.mul_right_comm, Nat.mul_mod_left]

/-- a word turned round -/
def rot (x : W32) (n : Nat) : W32 := x >>> n ||| x <<< (32 - n)
/-- several turns together -/
def mixW (x : W32) (ns : List Nat) : W32 := ns.foldl (fun o n => o ^^^ rot x n) 0
theorem mixW_snoc (x : W32) (l : List Nat) (n : Nat) : mixW x (l ++ [n]) = mixW x l ^^^ rot x n := by simp [mixW]
theorem rot_eq (x : W32) (n : Nat) (h : 0 < n ∧ n < 32) : (rot x n).toNat = x.toNat / 2 ^ n + (x.toNat % 2 ^ n) * 2 ^ (32 - n) := by
  have hx := x.isLt
  obtain ⟨k, hk⟩ : ∃ k, 32 = k + n := ⟨32 - n, by omega⟩
  have hk' : 32 - n = k := by omega
  have e : 2 ^ 32 = 2 ^ k * 2 ^ n := by rw [← Nat.pow_add, ← hk]
  rw [rot, hk', BitVec.toNat_or, BitVec.toNat_ushiftRight, BitVec.toNat_shiftLeft, Nat.shiftRight_eq_div_pow, Nat.shiftLeft_eq, e, Nat.mul_comm x.toNat, Nat.mul_mod_mul_left]
  have hlt : x.toNat / 2 ^ n < 2 ^ k := Nat.div_lt_of_lt_mul (by rw [Nat.mul_comm, ← e]; exact hx)
  have h2 := Nat.two_pow_add_eq_or_of_lt hlt (x.toNat % 2 ^ n)
  rw [Nat.or_comm, ← h2, Nat.add_comm, Nat.mul_comm]

theorem turn_eq (x : W32) (n : Nat) (h : 0 < n ∧ n < 32) : IntKind.u32.wrap (IntKind.u32.wrap ((x.toNat : Int).tdiv ((2 ^ n : Nat) : Int)) + IntKind.u32.wrap ((x.toNat : Int).tmod ((2 ^ n : Nat) : Int) * ((2 ^ (32 - n) : Nat) : Int))) = ((rot x n).toNat : Int) := by
  have e := rot_eq x n h
  have hr := (rot x n).isLt
  have e1 : (x.toNat : Int).tdiv ((2 ^ n : Nat) : Int) = ((x.toNat / 2 ^ n : Nat) : Int) := rfl
  have e2 : (x.toNat : Int).tmod ((2 ^ n : Nat) : Int) = ((x.toNat % 2 ^ n : Nat) : Int) := rfl
  rw [e1, e2, ← Int.natCast_mul]
  rw [IntKind.wrap_u32, IntKind.wrap_u32, IntKind.wrap_u32]
  omega
theorem div_eq (x : W32) (n : Nat) : IntKind.u32.wrap ((x.toNat : Int).tdiv ((2 ^ n : Nat) : Int)) = ((x >>> n).toNat : Int) := by
  have e1 : (x.toNat : Int).tdiv ((2 ^ n : Nat) : Int) = ((x.toNat / 2 ^ n : Nat) : Int) := rfl
  have hx := x.isLt
  have h2 : x.toNat / 2 ^ n ≤ x.toNat := Nat.div_le_self _ _
  rw [e1, BitVec.toNat_ushiftRight, Nat.shiftRight_eq_div_pow, IntKind.wrap_u32]
  generalize x.toNat / 2 ^ n = q at h2 ⊢
  omega
def natsV (l : List Nat) : List Value := l.map fun n : Nat => .int .i64 (n : Int)
theorem natsV_len (l : List Nat) : (natsV l).length = l.length := by simp [natsV]
theorem Sl.natAt {w : World} {p : Option Addr} {l : List Nat} (h : Sl w p l.length 1 (natsV l)) {i : Nat} (hi : i < l.length) : ∃ b off, p = some ⟨b, off, none⟩ ∧ w.cell? ⟨b, off + i * 1, none⟩ = some (.int .i64 (l[i] : Int)) := by
  obtain ⟨_, h0 | ⟨b, off, hp, hs⟩⟩ := h
  · omega
  · exact ⟨b, off, hp, by rw [Nat.mul_one]; exact hs i _ (by simp [natsV, hi])⟩
theorem mixW_take (x : W32) (l : List Nat) {i : Nat} (h : i < l.length) : mixW x (l.take (i + 1)) = mixW x (l.take i) ^^^ rot x l[i] := by
  rw [List.take_succ_eq_append_getElem h, mixW_snoc]
/-- the next word of a block that is drawn out -/
def nextW (b : List UInt8) (l : List W32) : W32 :=
  if l.length < 16 then BitVec.ofNat 32 (num ((b.drop (4 * l.length)).take 4))
  else l.getD (l.length - 16) 0 + l.getD (l.length - 7) 0 + (mixW (l.getD (l.length - 2) 0) [17, 19] ^^^ l.getD (l.length - 2) 0 >>> 10) + (mixW (l.getD (l.length - 15) 0) [7, 18] ^^^ l.getD (l.length - 15) 0 >>> 3)
def sched (b : List UInt8) : Nat → List W32
  | 0 => []
  | t + 1 => sched b t ++ [nextW b (sched b t)]
theorem sched_len (b : List UInt8) (t : Nat) : (sched b t).length = t := by
  induction t with
  | zero => rfl
  | succ t ih => simp [sched, ih]
theorem words_at (l r : List W32) {i : Nat} (h : i < l.length) : (wordsV (l ++ r))[0 + i * 1]? = some (wordV (l.getD i 0)) := by
  rw [Nat.zero_add, Nat.mul_one, wordsV_get _ (by rw [List.length_append]; omega), List.getElem_append_left h, List.getD_eq_getElem?_getD, List.getElem?_eq_getElem h]
  rfl
theorem words_getD (l : List W32) {i : Nat} (h : i < l.length) : (wordsV l)[i]? = some (wordV (l.getD i 0)) := by
  rw [wordsV_get _ h, List.getD_eq_getElem?_getD, List.getElem?_eq_getElem h]
  rfl
theorem words_set (l : List W32) (k i : Nat) (x : W32) (hi : i = l.length) : (wordsV (l ++ List.replicate (k + 1) 0)).set (0 + i * 1) (wordV x) = wordsV (l ++ [x] ++ List.replicate k 0) := by
  subst hi
  rw [Nat.zero_add, Nat.mul_one, wordsV, ← List.map_set, List.set_append_right _ _ (Nat.le_refl _), Nat.sub_self, List.replicate_succ, List.append_assoc]
  rfl
theorem rep_words (n : Nat) : rep n [Value.int .u32 0] = wordsV (List.replicate n 0) := by
  rw [rep_one]
  simp [wordsV]
theorem nextW_raw {b : List UInt8} {l : List W32} (h : l.length < 16) : nextW b l = BitVec.ofNat 32 (num ((b.drop (4 * l.length)).take 4)) := if_pos h
theorem nextW_mix {b : List UInt8} {l : List W32} (h : ¬ l.length < 16) : nextW b l = l.getD (l.length - 16) 0 + l.getD (l.length - 7) 0 + (mixW (l.getD (l.length - 2) 0) [17, 19] ^^^ l.getD (l.length - 2) 0 >>> 10) + (mixW (l.getD (l.length - 15) 0) [7, 18] ^^^ l.getD (l.length - 15) 0 >>> 3) := if_neg h
/-- one turn of the eight words -/
def turnW (l : List W32) (k w : W32) : List W32 :=
  match l with
  | [a, b, c, d, e, f, g, h] =>
    let x := h + mixW e [6, 11, 25] + (g ^^^ (e &&& (f ^^^ g))) + k + w
    let y := mixW a [2, 13, 22] + ((a &&& b) ||| (c &&& (a ||| b)))
    [x + y, a, b, c, d + x, e, f, g]
  | l => l
def turnsW (h ks ws : List W32) : Nat → List W32
  | 0 => h
  | t + 1 => turnW (turnsW h ks ws t) (ks.getD t 0) (ws.getD t 0)
theorem turnW_len (l : List W32) (k w : W32) : (turnW l k w).length = l.length := by
  unfold turnW
  split <;> rfl
theorem turnsW_len (h ks ws : List W32) (t : Nat) : (turnsW h ks ws t).length = h.length := by
  induction t with
  | zero => rfl
  | succ t ih => rw [turnsW, turnW_len, ih]
theorem eight {α : Type} {l : List α} (h : l.length = 8) : ∃ a b c d e f g i, l = [a, b, c, d, e, f, g, i] := by
  match l, h with
  | [a, b, c, d, e, f, g, i], _ => exact ⟨a, b, c, d, e, f, g, i, rfl⟩
theorem zip_set {f : W32 → W32 → W32} {h l : List W32} {i : Nat} (h1 : i < h.length) (h2 : i < l.length) : (wordsV (List.zipWith f (h.take i) (l.take i) ++ h.drop i)).set (0 + i * 1) (wordV (f h[i] l[i])) = wordsV (List.zipWith f (h.take (i + 1)) (l.take (i + 1)) ++ h.drop (i + 1)) := by
  have e1 : (List.zipWith f (h.take i) (l.take i)).length = i := by simp; omega
  rw [Nat.zero_add, Nat.mul_one, wordsV, ← List.map_set, List.set_append_right _ _ (by omega), e1, Nat.sub_self, List.drop_eq_getElem_cons h1, List.set_cons_zero, List.take_succ_eq_append_getElem h1, List.take_succ_eq_append_getElem h2, List.zipWith_append (by simp; omega)]
  simp [wordsV]
theorem zip_at {f : W32 → W32 → W32} {h l : List W32} {i : Nat} (h1 : i < h.length) (h2 : i < l.length) : (wordsV (List.zipWith f (h.take i) (l.take i) ++ h.drop i))[0 + i * 1]? = some (wordV h[i]) := by
  have e1 : (List.zipWith f (h.take i) (l.take i)).length = i := by simp; omega
  rw [Nat.zero_add, Nat.mul_one, wordsV, List.getElem?_map, List.getElem?_append_right (by omega), e1, Nat.sub_self, List.drop_eq_getElem_cons h1]
  rfl
def intoW (ks h : List W32) (b : List UInt8) : List W32 := List.zipWith (· + ·) h (turnsW h ks (sched b 64) 64)
theorem intoW_len (ks h : List W32) (b : List UInt8) : (intoW ks h b).length = h.length := by
  rw [intoW, List.length_zipWith, turnsW_len, Nat.min_self]
/-- the words after so many blocks -/
def blocksW (ks h : List W32) (p : List UInt8) : Nat → List W32
  | 0 => h
  | n + 1 => intoW ks (blocksW ks h p n) ((p.drop (64 * n)).take 64)
theorem blocksW_len (ks h : List W32) (p : List UInt8) (n : Nat) : (blocksW ks h p n).length = h.length := by
  induction n with
  | zero => rfl
  | succ n ih => rw [blocksW, intoW_len, ih]
def padW (l : List UInt8) : List UInt8 := l ++ [128] ++ List.replicate ((l.length + 72) / 64 * 64 - 8 - (l.length + 1)) 0 ++ be 8 (8 * l.length)
def rootsW : List W32 := [1116352408, 1899447441, 3049323471, 3921009573, 961987163, 1508970993, 2453635748, 2870763221,
  3624381080, 310598401, 607225278, 1426881987, 1925078388, 2162078206, 2614888103, 3248222580,
  3835390401, 4022224774, 264347078, 604807628, 770255983, 1249150122, 1555081692, 1996064986,
  2554220882, 2821834349, 2952996808, 3210313671, 3336571891, 3584528711, 113926993, 338241895,
  666307205, 773529912, 1294757372, 1396182291, 1695183700, 1986661051, 2177026350, 2456956037,
  2730485921, 2820302411, 3259730800, 3345764771, 3516065817, 3600352804, 4094571909, 275423344,
  430227734, 506948616, 659060556, 883997877, 958139571, 1322822218, 1537002063, 1747873779,
  1955562222, 2024104815, 2227730452, 2361852424, 2428436474, 2756734187, 3204031479, 3329325298]
def startW : List W32 := [1779033703, 3144134277, 1013904242, 2773480762, 1359893119, 2600822924, 528734635, 1541459225]
/-- the digest of bytes -/
def sumW (l : List UInt8) : List UInt8 := (blocksW rootsW startW (padW l) ((padW l).length / 64)).flatMap fun x => be 4 x.toNat
theorem padW_len (l : List UInt8) : (padW l).length = (l.length + 72) / 64 * 64 := by
  simp only [padW, List.length_append, List.length_replicate, be_len, List.length_cons, List.length_nil]
  omega
theorem flat4_len (l : List W32) : (l.flatMap fun x => be 4 x.toNat).length = 4 * l.length := by
  induction l with
  | nil => rfl
  | cons x r ih => rw [List.flatMap_cons, List.length_append, ih, be_len, List.length_cons]; omega
theorem sumW_len (l : List UInt8) : (sumW l).length = 32 := by
  rw [sumW, flat4_len, blocksW_len]; rfl
end Go.Vc
namespace Go.Vc

structure Sec where
  safe : List UInt8
  waits : List (List UInt8)

structure Dsk where
  secs : List Sec
  order : List Nat
  dead : Bool
  fuse : Int
  fault : Int
  done : Int

def zeros : List UInt8 := List.replicate 64 0
def Sec.now (s : Sec) : List UInt8 := s.waits.getLast?.getD s.safe
def Dsk.fresh (n : Nat) : Dsk := ⟨List.replicate n ⟨zeros, []⟩, [], false, -1, -1, 0⟩
def Dsk.now (D : Dsk) (i : Nat) : List UInt8 := ((D.secs[i]?).map Sec.now).getD zeros

/-- what an operation does to a disk's numbers before anything else -/
def fuseTo (burns : Bool) (fu : Int) : Int := if burns = true ∧ fu ≠ -1 then fu - 1 else fu
def faultTo (fa : Int) : Int := if fa = -1 then -1 else fa - 1

/-- an operation of a sector: the disk behind what is asked of every one, and the error -/
def Dsk.begin (D : Dsk) (i : Int) (burns : Bool) : Dsk × Int :=
  if D.dead = true then (D, 9)
  else if ¬ (0 ≤ i ∧ i < D.secs.length) then (D, 2)
  else if D.fault = 0 then ({ D with fault := -1 }, 8)
  else if burns = true ∧ D.fuse = 0 then ({ D with fault := faultTo D.fault, fuse := -1, dead := true }, 9)
  else ({ D with fault := faultTo D.fault, fuse := fuseTo burns D.fuse, done := D.done + 1 }, 0)

def writeSec (b : List UInt8) (s : Sec) : Sec := ⟨s.safe, s.waits ++ [b]⟩
def Dsk.put (D : Dsk) (i : Nat) (b : List UInt8) : Dsk := { D with secs := D.secs.modify i (writeSec b), order := D.order ++ [i] }
def settleSec (b : Bool) (s : Sec) : Sec := ⟨if b then s.waits.headD s.safe else s.safe, s.waits.tail⟩
def settleAll (lives : Nat → Bool) : List Nat → Nat → List Sec → List Sec
  | [], _, secs => secs
  | k :: r, i, secs => settleAll lives r (i + 1) (secs.modify k (settleSec (lives i)))
def Dsk.settle (D : Dsk) (lives : Nat → Bool) : Dsk := { D with secs := settleAll lives D.order 0 D.secs, order := [] }

def Dsk.read (D : Dsk) (i : Int) : Dsk × List UInt8 × Int :=
  let x := D.begin i false
  (x.1, if x.2 = 0 then x.1.now i.toNat else zeros, x.2)
def Dsk.write (D : Dsk) (i : Int) (b : List UInt8) : Dsk × Int :=
  let x := D.begin i true
  (if x.2 = 0 then x.1.put i.toNat b else x.1, x.2)
def Dsk.sync (D : Dsk) : Dsk × Int :=
  let x := D.begin 0 true
  (if x.2 = 0 then x.1.settle fun _ => true else x.1, x.2)
def setTo (n : Int) : Int := if n < -1 then -1 else n
def Dsk.arm (D : Dsk) (n : Int) : Dsk × Int := if D.dead = true then (D, 9) else ({ D with fuse := setTo n }, 0)
def Dsk.fail (D : Dsk) (n : Int) : Dsk × Int := if D.dead = true then (D, 9) else ({ D with fault := setTo n }, 0)
def livesOf (keep : List Bool) (i : Nat) : Bool := (keep[i]?).getD false
def Dsk.crash (D : Dsk) (keep : List Bool) : Dsk := { D.settle (livesOf keep) with dead := false, fuse := -1, fault := -1 }

/-- what holds of every disk that comes up -/
structure Dsk.Ok (D : Dsk) (m : Nat) : Prop where
  size : 1 ≤ D.secs.length ∧ D.secs.length ≤ 2048
  safe : ∀ s ∈ D.secs, s.safe.length = 64 ∧ ∀ b ∈ s.waits, b.length = 64
  inside : ∀ k ∈ D.order, k < D.secs.length
  count : ∀ i s, D.secs[i]? = some s → s.waits.length = D.order.count i
  few : D.order.length ≤ m
  fuse : -1 ≤ D.fuse ∧ D.fuse < 9223372036854775808
  fault : -1 ≤ D.fault ∧ D.fault < 9223372036854775808
  done : 0 ≤ D.done ∧ D.done ≤ m

theorem setTo_ge (n : Int) (h : n < 9223372036854775808) : -1 ≤ setTo n ∧ setTo n < 9223372036854775808 := by unfold setTo; split <;> omega
theorem fuseTo_ge (b : Bool) (n : Int) (h : -1 ≤ n ∧ n < 9223372036854775808) : -1 ≤ fuseTo b n ∧ fuseTo b n < 9223372036854775808 := by unfold fuseTo; split <;> omega
theorem faultTo_ge (n : Int) (h : -1 ≤ n ∧ n < 9223372036854775808) : -1 ≤ faultTo n ∧ faultTo n < 9223372036854775808 := by unfold faultTo; split <;> omega

theorem Dsk.Ok.mono {D : Dsk} {m m' : Nat} (h : D.Ok m) (hm : m ≤ m') : D.Ok m' :=
  ⟨h.size, h.safe, h.inside, h.count, Nat.le_trans h.few hm, h.fuse, h.fault, by have := h.done; omega⟩

theorem Dsk.begin_secs (D : Dsk) (i : Int) (b : Bool) : (D.begin i b).1.secs = D.secs ∧ (D.begin i b).1.order = D.order := by
  unfold Dsk.begin
  repeat' split
  all_goals exact ⟨rfl, rfl⟩

theorem Dsk.Ok.begin {D : Dsk} {m : Nat} (h : D.Ok m) (i : Int) (b : Bool) : (D.begin i b).1.Ok (m + 1) := by
  have h1 := fuseTo_ge b _ h.fuse
  have h2 := faultTo_ge _ h.fault
  have h3 := h.done
  have h4 := h.fuse
  have h5 := h.fault
  have h6 := h.few
  unfold Dsk.begin
  repeat' split
  all_goals exact ⟨h.size, h.safe, h.inside, h.count, by simp only; omega, by simp only; omega, by simp only; omega, by simp only; omega⟩

theorem Dsk.begin0 {D : Dsk} (i : Int) (b : Bool) (h0 : (D.begin i b).2 = 0) : 0 ≤ i ∧ i < D.secs.length := by
  unfold Dsk.begin at h0
  repeat' split at h0
  all_goals first | (simp at h0; done) | (rename_i hh _ _; exact Decidable.not_not.1 hh)

theorem modify_length {α : Type} (l : List α) (i : Nat) (f : α → α) : (l.modify i f).length = l.length := by simp

theorem Dsk.Ok.put {D : Dsk} {m : Nat} (h : D.Ok m) {i : Nat} (hi : i < D.secs.length) {b : List UInt8} (hb : b.length = 64) : (D.put i b).Ok (m + 1) := by
  refine ⟨by simpa [Dsk.put] using h.size, ?_, ?_, ?_, ?_, h.fuse, h.fault, by have := h.done; simp only [Dsk.put]; omega⟩
  · intro s hs
    simp only [Dsk.put] at hs
    obtain ⟨j, hj, rfl⟩ := List.mem_iff_getElem.1 hs
    rw [List.getElem_modify]
    simp only [List.length_modify] at hj
    have := h.safe D.secs[j] (List.getElem_mem hj)
    split
    · refine ⟨this.1, fun c hc => ?_⟩
      simp only [writeSec, List.mem_append, List.mem_singleton] at hc
      rcases hc with hc | rfl
      · exact this.2 c hc
      · exact hb
    · exact this
  · intro k hk
    simp only [Dsk.put, List.mem_append, List.mem_singleton, List.length_modify] at *
    rcases hk with hk | rfl
    · exact h.inside k hk
    · exact hi
  · intro j s hs
    simp only [Dsk.put] at *
    rw [List.getElem?_modify] at hs
    rw [List.count_append, List.count_singleton]
    cases hsj : D.secs[j]? with
    | none => rw [hsj] at hs; simp at hs
    | some t =>
      rw [hsj] at hs
      have := h.count j t hsj
      by_cases hij : i = j
      · subst hij
        simp at hs
        subst hs
        simp [writeSec, this]
      · simp [hij] at hs
        subst hs
        have : (i == j) = false := by simpa using hij
        simp [*]
  · have := h.few
    simp only [Dsk.put, List.length_append, List.length_singleton]
    omega

theorem settleAll_length (lives : Nat → Bool) : ∀ (l : List Nat) (i : Nat) (secs : List Sec), (settleAll lives l i secs).length = secs.length
  | [], _, _ => rfl
  | k :: r, i, secs => by rw [settleAll, settleAll_length lives r]; simp
theorem settleAll_snoc (lives : Nat → Bool) : ∀ (l : List Nat) (k i : Nat) (secs : List Sec), settleAll lives (l ++ [k]) i secs = (settleAll lives l i secs).modify k (settleSec (lives (i + l.length)))
  | [], k, i, secs => rfl
  | x :: r, k, i, secs => by
    simp only [List.cons_append, settleAll, List.length_cons]
    rw [settleAll_snoc lives r k (i + 1)]
    rw [show i + 1 + r.length = i + (r.length + 1) from by omega]
theorem settleAll_good (lives : Nat → Bool) : ∀ (l : List Nat) (i : Nat) (secs : List Sec), (∀ s ∈ secs, s.safe.length = 64 ∧ ∀ b ∈ s.waits, b.length = 64) → ∀ s ∈ settleAll lives l i secs, s.safe.length = 64 ∧ ∀ b ∈ s.waits, b.length = 64
  | [], _, _, h => h
  | k :: r, i, secs, h => by
    refine settleAll_good lives r (i + 1) _ fun s hs => ?_
    obtain ⟨j, hj, rfl⟩ := List.mem_iff_getElem.1 hs
    rw [List.getElem_modify]
    simp only [List.length_modify] at hj
    have := h secs[j] (List.getElem_mem hj)
    split
    · refine ⟨?_, fun b hb => this.2 b (List.mem_of_mem_tail hb)⟩
      simp only [settleSec]
      split
      · cases hw : secs[j].waits with
        | nil => exact this.1
        | cons b r => exact this.2 b (by rw [hw]; simp)
      · exact this.1
    · exact this
theorem settleAll_waits (lives : Nat → Bool) : ∀ (l : List Nat) (i : Nat) (secs : List Sec) (j : Nat) (s : Sec), (settleAll lives l i secs)[j]? = some s → ∃ t, secs[j]? = some t ∧ s.waits = t.waits.drop (l.count j)
  | [], _, secs, j, s, h => ⟨s, h, by simp⟩
  | k :: r, i, secs, j, s, h => by
    obtain ⟨t, ht, hw⟩ := settleAll_waits lives r (i + 1) _ j s h
    rw [List.getElem?_modify] at ht
    cases hs : secs[j]? with
    | none => rw [hs] at ht; simp at ht
    | some u =>
      rw [hs] at ht
      refine ⟨u, rfl, ?_⟩
      by_cases hk : k = j
      · subst hk
        simp at ht
        subst ht
        rw [hw]
        simp only [settleSec, List.count_cons_self]
        rw [List.drop_tail]
      · simp [hk] at ht
        subst ht
        have : (k == j) = false := by simpa using hk
        rw [hw, List.count_cons, this]
        simp

theorem Dsk.Ok.settle {D : Dsk} {m : Nat} (h : D.Ok m) (lives : Nat → Bool) : (D.settle lives).Ok m := by
  refine ⟨by simpa [Dsk.settle, settleAll_length] using h.size, settleAll_good lives _ _ _ h.safe, ?_, ?_, by simp [Dsk.settle], h.fuse, h.fault, h.done⟩
  · intro k hk; simp [Dsk.settle] at hk
  · intro i s hs
    obtain ⟨t, ht, hw⟩ := settleAll_waits lives _ _ _ i s hs
    rw [hw, List.length_drop, h.count i t ht]
    simp [Dsk.settle]
theorem Dsk.Ok.crash {D : Dsk} {m : Nat} (h : D.Ok m) (keep : List Bool) : (D.crash keep).Ok m := by
  have := h.settle (livesOf keep)
  exact ⟨this.size, this.safe, this.inside, this.count, this.few, by simp [Dsk.crash], by simp [Dsk.crash], this.done⟩
theorem zeros_length : zeros.length = 64 := by simp [zeros]
theorem Dsk.Ok.fresh {n : Nat} (h : 1 ≤ n ∧ n ≤ 2048) : (Dsk.fresh n).Ok 0 := by
  refine ⟨by simpa [Dsk.fresh] using h, ?_, ?_, ?_, by simp [Dsk.fresh], by simp [Dsk.fresh], by simp [Dsk.fresh], by simp [Dsk.fresh]⟩
  · intro s hs
    simp only [Dsk.fresh, List.mem_replicate] at hs
    rw [hs.2]
    exact ⟨zeros_length, fun b hb => by cases hb⟩
  · intro k hk; simp [Dsk.fresh] at hk
  · intro i s hs
    simp only [Dsk.fresh, List.getElem?_replicate] at hs
    split at hs
    · cases hs; simp [Dsk.fresh]
    · cases hs
end Go.Vc
namespace Go.Vc

abbrev Bytes := List UInt8
abbrev numB (b : Bytes) : Value := .agg (bytesU b).toArray
theorem one_bytes {b : Bytes} : ∀ u ∈ bytesU b, u.oneCell' = true := fun u hu => by
  obtain ⟨x, _, rfl⟩ := List.mem_map.1 hu; rfl
theorem bytesU_64 {b : Bytes} (h : b.length = 64) : (bytesU b).length = 64 := by rw [bytesU_len, h]
def natsI (b : Bytes) : List Int := b.map fun x => (x.toNat : Int)
theorem natsI_len (b : Bytes) : (natsI b).length = b.length := by simp [natsI]
theorem numB_eq (b : Bytes) : numB b = numA .u8 (natsI b) := by simp [numB, numA, natsI, bytesU, Function.comp_def]
theorem natsI_inj {a b : Bytes} : natsI a = natsI b ↔ a = b := by
  refine List.map_inj_right (f := fun x : UInt8 => (x.toNat : Int)) fun x y e => ?_
  exact UInt8.toNat_inj.1 (by have e : (x.toNat : Int) = y.toNat := e; omega)
/-- how many sectors a piece of n bytes has -/
def sectN (n : Nat) : Nat := if 40000 < n then 0 else (n + 3) / 48 + 1
def sectZ (n : Int) : Int := if n < 0 ∨ 40000 < n then 0 else ((n.toNat + 3) / 48 + 1 : Nat)
theorem sectZ_nat (n : Nat) : sectZ (n : Int) = (sectN n : Int) := by
  unfold sectZ sectN
  by_cases h : 40000 < n
  · rw [if_pos (by omega), if_pos h]; rfl
  · rw [if_neg (by omega), if_neg h, Int.toNat_natCast]
theorem sectN_pos {n : Nat} (h : n ≤ 40000) : 0 < sectN n := by rw [sectN, if_neg (by omega)]; omega
theorem sectN_le (n : Nat) : sectN n ≤ 834 := by unfold sectN; split <;> omega
theorem sectN_room {n : Nat} (h : n ≤ 40000) : n + 4 ≤ 48 * sectN n := by rw [sectN, if_neg (by omega)]; omega
theorem sectN_tight {n : Nat} (h : n ≤ 40000) : 48 * (sectN n - 1) < n + 4 := by rw [sectN, if_neg (by omega)]; omega
/-- the sector of some bytes -/
def sealB (b : Bytes) : Bytes := (sumW (b ++ List.replicate (60 - b.length) 0)).take 4 ++ (b ++ List.replicate (60 - b.length) 0)
theorem sealB_len {b : Bytes} (h : b.length ≤ 60) : (sealB b).length = 64 := by
  simp only [sealB, List.length_append, List.length_take, sumW_len, List.length_replicate]
  omega
def lettersB : Bytes := [114, 105, 118, 101, 114, 108, 111, 103]
def headB (turn n : Nat) : Bytes := sealB (lettersB ++ be 4 turn ++ be 4 n)
theorem headB_len (turn n : Nat) : (headB turn n).length = 64 := sealB_len (by simp [lettersB, be_len])
def bodyB (b : Bytes) : Bytes := be 4 b.length ++ b
def pieceAt (turn number : Nat) (b : Bytes) (k : Nat) : Bytes := sealB (be 4 turn ++ be 4 number ++ be 2 k ++ be 2 (sectN b.length) ++ ((bodyB b).drop (48 * k)).take 48)
theorem pieceAt_len (turn number : Nat) (b : Bytes) (k : Nat) : (pieceAt turn number b k).length = 64 := sealB_len (by
  simp only [List.length_append, be_len, List.length_take]; omega)
def pieceB (turn number : Nat) (b : Bytes) : List Bytes := (List.range (sectN b.length)).map (pieceAt turn number b)
theorem pieceB_length (turn number : Nat) (b : Bytes) : (pieceB turn number b).length = sectN b.length := by simp [pieceB]
theorem pieceB_len (turn number : Nat) (b : Bytes) : ∀ s ∈ pieceB turn number b, s.length = 64 := fun s hs => by
  obtain ⟨k, _, rfl⟩ := List.mem_map.1 hs
  exact pieceAt_len _ _ _ _
def FitsB (n sectors : Nat) : Prop := 4 ≤ n ∧ n ≤ 1000 ∧ 2 + 2 * n ≤ sectors
instance (n s : Nat) : Decidable (FitsB n s) := inferInstanceAs (Decidable (_ ∧ _ ∧ _))
def areaB (turn n : Nat) : Nat := if turn % 2 = 1 then 2 + n else 2
theorem areaB_eq (turn n : Nat) : areaB turn n = 2 + turn % 2 * n := by
  unfold areaB
  rcases Nat.mod_two_eq_zero_or_one turn with h | h <;> rw [h] <;> simp

/-- a head that holds in its place -/
def turnOf (b : Bytes) : Nat := num ((b.drop 12).take 4)
def sizeOf4 (b : Bytes) : Nat := num ((b.drop 16).take 4)
def HeadOk (i sectors : Nat) (b : Bytes) : Prop := turnOf b % 2 = i ∧ FitsB (sizeOf4 b) sectors ∧ headB (turnOf b) (sizeOf4 b) = b
instance (i s : Nat) (b : Bytes) : Decidable (HeadOk i s b) := inferInstanceAs (Decidable (_ ∧ _ ∧ _))
/-- one head more -/
def newer (i sectors : Nat) (b : Bytes) (o : Option (Nat × Nat)) : Option (Nat × Nat) :=
  if HeadOk i sectors b then match o with
    | none => some (turnOf b, sizeOf4 b)
    | some (t, n) => if t < turnOf b then some (turnOf b, sizeOf4 b) else some (t, n)
  else o
def newestB (first second : Bytes) (sectors : Nat) : Option (Nat × Nat) := newer 1 sectors second (newer 0 sectors first none)

/-- the bytes of so many sectors, without what stands ahead of them -/
def allB (l : List Bytes) : Bytes := l.flatMap (·.drop 16)
def manyB (s : Bytes) : Nat := num ((s.drop 16).take 4)
def liesB (l : List Bytes) (turn number : Nat) : Option Bytes :=
  match l with
  | [] => none
  | s :: _ =>
    if 40000 < manyB s ∨ l.length < sectN (manyB s) then none
    else if pieceB turn number (((allB (l.take (sectN (manyB s)))).drop 4).take (manyB s)) = l.take (sectN (manyB s)) then some (((allB (l.take (sectN (manyB s)))).drop 4).take (manyB s)) else none
def lyGo (turn : Nat) : Nat → List Bytes → Nat → List Bytes
  | 0, _, _ => []
  | f + 1, area, n => match liesB area turn n with
    | none => []
    | some b => b :: lyGo turn f (area.drop (sectN b.length)) (n + 1)
def lyingB (area : List Bytes) (turn : Nat) : List Bytes := lyGo turn area.length area 0
def usedB (l : List Bytes) : Nat := (l.map fun b => sectN b.length).sum

/-- sectors from a place on, and a sync -/
def layD : Dsk → Int → List Bytes → Dsk × Int
  | D, _, [] => D.sync
  | D, at_, b :: r => if (D.write at_ b).2 ≠ 0 then D.write at_ b else layD (D.write at_ b).1 (at_ + 1) r
def beginD (D : Dsk) (turn n : Nat) (x : Bytes) : Dsk × Int :=
  let y := layD D (areaB turn n) (pieceB turn 0 x)
  if y.2 ≠ 0 then y else layD y.1 ((turn % 2 : Nat) : Int) [headB turn n]

/-- a log -/
structure Wl where
  D : Dsk
  size : Nat
  turn : Nat
  pieces : List Bytes
  used : Nat
  broken : Bool

def formatW (D : Dsk) (area : Int) : Dsk × Int :=
  if ¬ (0 ≤ area ∧ FitsB area.toNat D.secs.length) then (D, 2)
  else
    let y := layD D 0 (List.replicate (2 + 2 * area.toNat) zeros)
    if y.2 ≠ 0 then y else beginD y.1 0 area.toNat []
/-- so many sectors read; those that came, if no error did -/
def readsD : Dsk → Int → Nat → Dsk × List Bytes × Int
  | D, _, 0 => (D, [], 0)
  | D, at_, k + 1 =>
    let x := D.read at_
    if x.2.2 ≠ 0 then (x.1, [], x.2.2) else
      let y := readsD x.1 (at_ + 1) k
      (y.1, x.2.1 :: y.2.1, y.2.2)
/-- noughts over what lies there -/
def wipeD : Dsk → Int → List Bytes → Dsk × Int
  | D, _, [] => (D, 0)
  | D, at_, b :: r => if b = zeros then wipeD D (at_ + 1) r else if (D.write at_ zeros).2 ≠ 0 then D.write at_ zeros else wipeD (D.write at_ zeros).1 (at_ + 1) r
def cleanD (D : Dsk) (at_ : Int) (rest : List Bytes) : Dsk × Int :=
  let y := wipeD D at_ rest
  if y.2 ≠ 0 then y else if D.order = [] ∧ (∀ b ∈ rest, b = zeros) then y else y.1.sync
/-- what a head said so far tells -/
def nwE (o : Option (Nat × Nat)) : Int := match o with | none => 140 | some _ => 0
def nwT (o : Option (Nat × Nat)) : Nat := match o with | none => 0 | some (t, _) => t
/-- heads read, one after the other -/
def newestGo (S : Nat) : Nat → Nat → Dsk → Option (Nat × Nat) → Dsk × Int × Option (Nat × Nat)
  | 0, _, D, o => (D, nwE o, o)
  | k + 1, i, D, o => if (D.read i).2.2 ≠ 0 then ((D.read i).1, (D.read i).2.2, none) else newestGo S k (i + 1) (D.read i).1 (newer i S (D.read i).2.1 o)
def newestD (D : Dsk) : Dsk × Int × Option (Nat × Nat) := newestGo D.secs.length 2 0 D none
def openAt (D : Dsk) (turn n : Nat) : Dsk × Int × Nat × Nat × List Bytes :=
  let z := readsD D (areaB turn n) n
  if z.2.2 ≠ 0 then (z.1, z.2.2, 0, 0, []) else
  let ps := lyingB z.2.1 turn
  if ps = [] then (z.1, 140, 0, 0, []) else
  let c := cleanD z.1 ((areaB turn n + usedB ps : Nat) : Int) (z.2.1.drop (usedB ps))
  (c.1, c.2, turn, n, ps)
def openW (D : Dsk) : Dsk × Int × Nat × Nat × List Bytes :=
  match newestD D with
  | (D', _, some (turn, n)) => openAt D' turn n
  | (D', e, none) => (D', e, 0, 0, [])
def Wl.opened (x : Dsk × Int × Nat × Nat × List Bytes) : Wl := ⟨x.1, x.2.2.2.1, x.2.2.1, x.2.2.2.2, usedB x.2.2.2.2, false⟩

/-- why a piece may not come -/
def Wl.refuses (W : Wl) (x : Bytes) (room : Int) : Int :=
  if 40000 < x.length then 3 else if W.broken = true then 8 else if room < sectN x.length then 6 else 0
def Wl.append (W : Wl) (x : Bytes) : Wl × Int :=
  let e := W.refuses x ((W.size : Int) - W.used)
  if e ≠ 0 then (W, e) else
  let y := layD W.D ((areaB W.turn W.size + W.used : Nat) : Int) (pieceB W.turn W.pieces.length x)
  if y.2 ≠ 0 then ({ W with D := y.1, broken := true }, y.2) else ({ W with D := y.1, broken := false, pieces := W.pieces ++ [x], used := W.used + sectN x.length }, 0)
def Wl.checkpoint (W : Wl) (x : Bytes) : Wl × Int :=
  let e := W.refuses x (if W.turn = 4294967295 then 0 else W.size)
  if e ≠ 0 then (W, e) else
  let y := beginD W.D (W.turn + 1) W.size x
  if y.2 ≠ 0 then ({ W with D := y.1, broken := true }, y.2) else ({ W with D := y.1, broken := false, turn := W.turn + 1, pieces := [x], used := sectN x.length }, 0)

/-! ### What holds of disks on the way -/
theorem Dsk.Ok.write {D : Dsk} {m : Nat} (h : D.Ok m) (i : Int) {b : Bytes} (hb : b.length = 64) : (D.write i b).1.Ok (m + 2) := by
  unfold Dsk.write
  dsimp only
  have h1 := h.begin i true
  split
  · rename_i h0
    have h2 := Dsk.begin0 i true h0
    refine h1.put ?_ hb
    rw [(Dsk.begin_secs D i true).1]
    omega
  · exact h1.mono (by omega)
theorem Dsk.Ok.sync {D : Dsk} {m : Nat} (h : D.Ok m) : D.sync.1.Ok (m + 1) := by
  unfold Dsk.sync
  dsimp only
  have h1 := h.begin 0 true
  split
  · exact h1.settle _
  · exact h1
theorem Dsk.Ok.read {D : Dsk} {m : Nat} (h : D.Ok m) (i : Int) : (D.read i).1.Ok (m + 1) := h.begin i false
theorem Dsk.write_secs (D : Dsk) (i : Int) (b : Bytes) : (D.write i b).1.secs.length = D.secs.length := by
  unfold Dsk.write
  dsimp only
  split
  · simp [Dsk.put, (Dsk.begin_secs D i true).1]
  · rw [(Dsk.begin_secs D i true).1]
theorem Dsk.sync_secs (D : Dsk) : D.sync.1.secs.length = D.secs.length := by
  unfold Dsk.sync
  dsimp only
  split
  · simp [Dsk.settle, settleAll_length, (Dsk.begin_secs D 0 true).1]
  · rw [(Dsk.begin_secs D 0 true).1]
theorem Dsk.read_secs (D : Dsk) (i : Int) : (D.read i).1.secs = D.secs := (Dsk.begin_secs D i false).1
theorem layD_ok : ∀ (l : List Bytes) {D : Dsk} {m : Nat} (at_ : Int), D.Ok m → (∀ b ∈ l, b.length = 64) → (layD D at_ l).1.Ok (m + 2 * l.length + 1)
  | [], D, m, at_, h, _ => h.sync
  | b :: r, D, m, at_, h, hl => by
    have h1 := h.write at_ (hl b (by simp))
    unfold layD
    split
    · exact h1.mono (by simp only [List.length_cons]; omega)
    · exact (layD_ok r (at_ + 1) h1 fun x hx => hl x (by simp [hx])).mono (by simp; omega)
theorem layD_secs : ∀ (l : List Bytes) (D : Dsk) (at_ : Int), (layD D at_ l).1.secs.length = D.secs.length
  | [], D, at_ => D.sync_secs
  | b :: r, D, at_ => by
    unfold layD
    split
    · exact D.write_secs at_ b
    · rw [layD_secs r, D.write_secs]
theorem beginD_ok {D : Dsk} {m : Nat} (h : D.Ok m) (turn n : Nat) (x : Bytes) : (beginD D turn n x).1.Ok (m + 2 * sectN x.length + 4) := by
  unfold beginD
  dsimp only
  have h1 := layD_ok (pieceB turn 0 x) (areaB turn n : Int) h (pieceB_len turn 0 x)
  rw [pieceB_length] at h1
  split
  · exact h1.mono (by omega)
  · exact (layD_ok [headB turn n] _ h1 fun b hb => by rw [List.mem_singleton.1 hb]; exact headB_len _ _).mono (by simp)
theorem beginD_secs (D : Dsk) (turn n : Nat) (x : Bytes) : (beginD D turn n x).1.secs.length = D.secs.length := by
  unfold beginD
  dsimp only
  split
  · rw [layD_secs]
  · rw [layD_secs, layD_secs]
/-- sector after sector -/
theorem layD_step {L : List Bytes} {k : Nat} (hk : k < L.length) (D : Dsk) (at_ : Int) : layD D (at_ + k) (L.drop k) = if (D.write (at_ + k) (L.getD k [])).2 ≠ 0 then D.write (at_ + k) (L.getD k []) else layD (D.write (at_ + k) (L.getD k [])).1 (at_ + (k + 1 : Nat)) (L.drop (k + 1)) := by
  have e : L.getD k [] = L[k] := by simp [hk]
  rw [List.drop_eq_getElem_cons hk, layD, e, Int.natCast_add, ← Int.add_assoc]
  rfl

theorem formatW_no {D : Dsk} {area : Int} (h : ¬ (0 ≤ area ∧ FitsB area.toNat D.secs.length)) : formatW D area = (D, 2) := if_pos h
theorem formatW_yes {D : Dsk} {a : Nat} (h : FitsB a D.secs.length) : formatW D (a : Int) = if (layD D 0 (List.replicate (2 + 2 * a) zeros)).2 ≠ 0 then layD D 0 (List.replicate (2 + 2 * a) zeros) else beginD (layD D 0 (List.replicate (2 + 2 * a) zeros)).1 0 a [] := by
  unfold formatW
  rw [if_neg (fun h' => h' ⟨Int.natCast_nonneg a, by rw [Int.toNat_natCast]; exact h⟩), Int.toNat_natCast]
theorem zeros_rep (n : Nat) : ∀ b ∈ List.replicate n zeros, b.length = 64 := fun b hb => by rw [(List.mem_replicate.1 hb).2]; exact zeros_length

theorem wipeD_zero {R : List Bytes} {i : Nat} (hi : i < R.length) (h : R[i] = zeros) (D : Dsk) (at_ : Int) : wipeD D (at_ + i) (R.drop i) = wipeD D (at_ + (i + 1 : Nat)) (R.drop (i + 1)) := by
  rw [List.drop_eq_getElem_cons hi, wipeD, if_pos h, Int.natCast_add, ← Int.add_assoc]
  rfl
theorem wipeD_step {R : List Bytes} {i : Nat} (hi : i < R.length) (h : R[i] ≠ zeros) (D : Dsk) (at_ : Int) : wipeD D (at_ + i) (R.drop i) = if (D.write (at_ + i) zeros).2 ≠ 0 then D.write (at_ + i) zeros else wipeD (D.write (at_ + i) zeros).1 (at_ + (i + 1 : Nat)) (R.drop (i + 1)) := by
  rw [List.drop_eq_getElem_cons hi, wipeD, if_neg h, Int.natCast_add, ← Int.add_assoc]
  rfl
theorem wipeD_ok : ∀ (l : List Bytes) {D : Dsk} {m : Nat} (at_ : Int), D.Ok m → (wipeD D at_ l).1.Ok (m + 2 * l.length)
  | [], D, m, at_, h => h
  | b :: r, D, m, at_, h => by
    unfold wipeD
    split
    · exact (wipeD_ok r (at_ + 1) h).mono (by simp only [List.length_cons]; omega)
    · have h1 := h.write at_ zeros_length
      split
      · exact h1.mono (by simp only [List.length_cons]; omega)
      · exact (wipeD_ok r (at_ + 1) h1).mono (by simp only [List.length_cons]; omega)
theorem wipeD_secs : ∀ (l : List Bytes) (D : Dsk) (at_ : Int), (wipeD D at_ l).1.secs.length = D.secs.length
  | [], D, at_ => rfl
  | b :: r, D, at_ => by
    unfold wipeD
    split
    · exact wipeD_secs r D _
    · split
      · exact D.write_secs _ _
      · rw [wipeD_secs r, D.write_secs]
theorem cleanD_ok {D : Dsk} {m : Nat} (h : D.Ok m) (at_ : Int) (l : List Bytes) : (cleanD D at_ l).1.Ok (m + 2 * l.length + 1) := by
  unfold cleanD
  dsimp only
  have h1 := wipeD_ok l at_ h
  split
  · exact h1.mono (by omega)
  · split
    · exact h1.mono (by omega)
    · exact h1.sync
theorem cleanD_secs (D : Dsk) (at_ : Int) (l : List Bytes) : (cleanD D at_ l).1.secs.length = D.secs.length := by
  unfold cleanD
  dsimp only
  split
  · exact wipeD_secs _ _ _
  · split
    · exact wipeD_secs _ _ _
    · rw [Dsk.sync_secs, wipeD_secs]
theorem flat_drop64 : ∀ (k : Nat) (L : List Bytes), (∀ b ∈ L, b.length = 64) → (L.flatMap bytesU).drop (k * 64) = (L.drop k).flatMap bytesU
  | 0, L, _ => by simp
  | k + 1, [], _ => by simp
  | k + 1, b :: L, h => by
    rw [List.flatMap_cons, List.drop_succ_cons, ← flat_drop64 k L fun x hx => h x (by simp [hx]), List.drop_append, bytesU_64 (h b (by simp)), List.drop_eq_nil_of_le (by rw [bytesU_64 (h b (by simp))]; omega), List.nil_append, show (k + 1) * 64 - 64 = k * 64 from by omega]

/-! ### Opening -/
def NwOk (S : Nat) (o : Option (Nat × Nat)) : Prop := ∀ t n, o = some (t, n) → FitsB n S ∧ t < 4294967296
theorem turnOf_lt {b : Bytes} : turnOf b < 4294967296 := by
  have h := num_lt ((b.drop 12).take 4)
  have hl : ((b.drop 12).take 4).length ≤ 4 := by rw [List.length_take]; omega
  have h2 : 256 ^ ((b.drop 12).take 4).length ≤ 256 ^ 4 := Nat.pow_le_pow_right (by decide) hl
  exact Nat.lt_of_lt_of_le h h2
theorem newer_ok {i S : Nat} {b : Bytes} {o : Option (Nat × Nat)} (h : NwOk S o) : NwOk S (newer i S b o) := by
  intro t n e
  unfold newer at e
  split at e
  · rename_i hd
    cases o with
    | none => simp at e; obtain ⟨rfl, rfl⟩ := e; exact ⟨hd.2.1, turnOf_lt⟩
    | some x =>
      simp only at e
      split at e
      · simp at e; obtain ⟨rfl, rfl⟩ := e; exact ⟨hd.2.1, turnOf_lt⟩
      · exact h t n e
  · exact h t n e
theorem newestGo_spec (S : Nat) : ∀ (k i : Nat) (D : Dsk) (o : Option (Nat × Nat)) (m : Nat), NwOk S o → D.Ok m →
    ((newestGo S k i D o).1.Ok (m + k) ∧ (newestGo S k i D o).1.secs = D.secs ∧ (newestGo S k i D o).1.order = D.order) ∧ (((newestGo S k i D o).2.2 = none ∧ (newestGo S k i D o).2.1 ≠ 0) ∨ ∃ t n, (newestGo S k i D o).2.2 = some (t, n) ∧ (newestGo S k i D o).2.1 = 0 ∧ FitsB n S ∧ t < 4294967296)
  | 0, i, D, o, m, ho, hok => by
    refine ⟨⟨hok, rfl, rfl⟩, ?_⟩
    cases o with
    | none => exact .inl ⟨rfl, by simp [newestGo, nwE]⟩
    | some x => exact .inr ⟨x.1, x.2, rfl, rfl, ho x.1 x.2 rfl⟩
  | k + 1, i, D, o, m, ho, hok => by
    have h1 := hok.read (i : Int)
    have h2 := Dsk.begin_secs D (i : Int) false
    unfold newestGo
    split
    · rename_i he
      exact ⟨⟨h1.mono (by omega), h2.1, h2.2⟩, .inl ⟨rfl, he⟩⟩
    · obtain ⟨⟨a1, a2, a3⟩, b⟩ := newestGo_spec S k (i + 1) (D.read i).1 (newer i S (D.read i).2.1 o) (m + 1) (newer_ok ho) h1
      exact ⟨⟨a1.mono (by omega), a2.trans h2.1, a3.trans h2.2⟩, b⟩
theorem newestD_spec {D : Dsk} {m : Nat} (hok : D.Ok m) : ((newestD D).1.Ok (m + 2) ∧ (newestD D).1.secs = D.secs ∧ (newestD D).1.order = D.order) ∧ (((newestD D).2.2 = none ∧ (newestD D).2.1 ≠ 0) ∨ ∃ t n, (newestD D).2.2 = some (t, n) ∧ (newestD D).2.1 = 0 ∧ FitsB n D.secs.length ∧ t < 4294967296) :=
  newestGo_spec D.secs.length 2 0 D none m (fun _ _ e => by cases e) hok
theorem openW_no {D : Dsk} (h : (newestD D).2.2 = none) : openW D = ((newestD D).1, (newestD D).2.1, 0, 0, []) := by
  unfold openW
  generalize newestD D = x at h
  obtain ⟨D', e, o⟩ := x
  dsimp only at h
  subst h
  rfl
theorem openW_yes {D : Dsk} {t n : Nat} (h : (newestD D).2.2 = some (t, n)) : openW D = openAt (newestD D).1 t n := by
  unfold openW
  generalize newestD D = x at h
  obtain ⟨D', e, o⟩ := x
  dsimp only at h
  subst h
  rfl
theorem readsD_step (D : Dsk) (at_ : Int) (k : Nat) : readsD D at_ (k + 1) = if (D.read at_).2.2 ≠ 0 then ((D.read at_).1, [], (D.read at_).2.2) else ((readsD (D.read at_).1 (at_ + 1) k).1, (D.read at_).2.1 :: (readsD (D.read at_).1 (at_ + 1) k).2.1, (readsD (D.read at_).1 (at_ + 1) k).2.2) := by
  rfl
theorem usedB_snoc (l : List Bytes) (b : Bytes) : usedB (l ++ [b]) = usedB l + sectN b.length := by simp [usedB]
theorem liesB_some {L : List Bytes} {t n : Nat} {b : Bytes} (hL : ∀ s ∈ L, s.length = 64) (h : liesB L t n = some b) : b.length ≤ 40000 ∧ sectN b.length ≤ L.length ∧ pieceB t n b = L.take (sectN b.length) := by
  cases L with
  | nil => cases h
  | cons s r =>
    have h : (if 40000 < manyB s ∨ (s :: r).length < sectN (manyB s) then none
      else if pieceB t n (((allB ((s :: r).take (sectN (manyB s)))).drop 4).take (manyB s)) = (s :: r).take (sectN (manyB s)) then some (((allB ((s :: r).take (sectN (manyB s)))).drop 4).take (manyB s)) else none) = some b := h
    split at h
    · cases h
    · rename_i hc
      split at h
      · rename_i hp
        simp only [Option.some.injEq] at h
        have hm : manyB s ≤ 40000 := by omega
        have hk : sectN (manyB s) ≤ (s :: r).length := by omega
        have hal : (allB ((s :: r).take (sectN (manyB s)))).length = 48 * sectN (manyB s) := by
          have : ∀ (L : List Bytes), (∀ b ∈ L, b.length = 64) → (allB L).length = 48 * L.length := by
            intro L
            induction L with
            | nil => intro _; rfl
            | cons a L ih =>
              intro h
              have e : allB (a :: L) = a.drop 16 ++ allB L := rfl
              rw [e, List.length_append, List.length_drop, h a (by simp), ih fun x hx => h x (by simp [hx]), List.length_cons]
              omega
          rw [this _ fun b hb => hL b (List.mem_of_mem_take hb), List.length_take, Nat.min_eq_left hk]
        have hroom := sectN_room hm
        have hb : b.length = manyB s := by rw [← h, List.length_take, List.length_drop, hal]; omega
        rw [h] at hp
        rw [hb]
        exact ⟨hm, hk, hp⟩
      · cases h
theorem lyGo_step (t : Nat) : ∀ (f : Nat) (area : List Bytes) (n : Nat), (∀ s ∈ area, s.length = 64) → area.length ≤ f → lyGo t f area n = match liesB area t n with
    | none => []
    | some b => b :: lyGo t (f - 1) (area.drop (sectN b.length)) (n + 1)
  | 0, area, n, _, h => by
    have : area = [] := List.eq_nil_of_length_eq_zero (by omega)
    subst this
    rfl
  | f + 1, area, n, _, _ => rfl
theorem zeros_64 {n : Nat} : ∀ s ∈ List.replicate n zeros, s.length = 64 := fun s hs => by rw [(List.mem_replicate.1 hs).2]; exact zeros_length
end Go.Vc
namespace Go.Vc
open Go.WideShapes Go.ChangeShapes Go.RowKit

section
variable {H : Type} {enc : TypeId × Value → H} {P : Program} {w w' : World}

theorem Ext.sameAt (hE : Ext No w w') {p : MemPlace} (hp : p.block < w.heap.size) : w.sameAt w' p := by
  cases p with
  | cell b off =>
    have := hE.same b hp id
    show w'.cell? ⟨b, off, none⟩ = w.cell? ⟨b, off, none⟩
    unfold World.cell?
    rw [this]
  | map b => exact hE.same b hp id

theorem trodAll_carry {base : Nat} {sp : Nat → Bool} {held : Bool} : ∀ {ts : List TypeId} {vs : List Value} {ds : List (DataW H)} {ps : List MemPlace}, DataW.TrodAll enc P w base sp held ts vs ds ps → (∀ p ∈ ps, w.sameAt w' p) → DataW.TrodAll enc P w' base sp held ts vs ds ps
  | [], [], [], _, h, _ => h
  | _ :: _, _ :: _, _ :: _, _, ⟨p, q, ⟨n, h1⟩, h2, e⟩, hs => ⟨p, q, ⟨n, DataW.trod_carry n _ _ _ h1 fun x hx => hs x (by rw [e]; exact List.mem_append_left _ hx)⟩, trodAll_carry h2 fun x hx => hs x (by rw [e]; exact List.mem_append_right _ hx), e⟩

/-- what came in reads as it read; of what is frozen only that is asked which lay there before -/
theorem post_of_old {f : Func} {s : ChangeSpec} {apart fresh handsOn again : Bool} {W W' : World} {args : Array Value} {v : Value} {ds gs : List (DataW H)} {before pa pv : List MemPlace}
    (hW : DataW.Whole enc P f.params.toList s.vars apart W args.toList ds gs before)
    (hres : ∀ (b : Nat) (sp : Nat → Bool) (hd : Bool), DataW.TrodAll enc P W' b sp hd f.resultTypes.toList (v.resultList f.resultTypes.size) (s.fn H (ds ++ gs)).results [])
    (hargs : ∀ sp : Nat → Bool, (∀ p ∈ before, sp p.block = true) → DataW.TrodAll enc P W' 0 sp true f.params.toList args.toList (s.fn H (ds ++ gs)).args pa)
    (hvars : ∀ sp : Nat → Bool, (∀ p ∈ before, sp p.block = true) → DataW.TrodVars enc P W' sp s.vars (s.fn H (ds ++ gs)).vars pv)
    (hps : before = pa ++ pv) (hk : W.keptBut W' (· ∈ before)) (hfz : ∀ a : Addr, a.block < W.heap.size → W'.frozen? a = W.frozen? a)
    (hok : ∀ (j : Nat) (t : TypeId) (r : Value), f.resultTypes[j]? = some t → (v.resultList f.resultTypes.size)[j]? = some r → Value.okWide P W' .any 0 t r) :
    s.post enc P f apart fresh handsOn again W args v W' := by
  have hlt : ∀ p ∈ before, p.block < W.heap.size := fun p hp => hW.lt p hp
  have hold : ∀ p ∈ before, (fun b => decide (b < W.heap.size)) p.block = true := fun p hp => by simpa using hlt p hp
  have e1 : ∀ p, p ∈ [] ++ pa ++ pv ↔ p ∈ before := fun p => by rw [hps, List.nil_append]
  refine ⟨ds, gs, before, [], pa, pv, hW, hres _ _ _, hargs _ hold, hvars _ hold, World.keptBut_mono (fun p hp => ⟨hp, .inr (List.mem_append.1 (hps ▸ hp))⟩) hk, fun _ => ?_⟩
  obtain ⟨_, _, _, _, _, hz, hn⟩ := hW
  refine ⟨hok, _, _, ([] ++ pa) ++ pv, ⟨[] ++ pa, pv, trodAll_append (hargs _ (fun _ _ => rfl)) (hres _ _ _), hvars _ (fun _ _ => rfl), rfl, fun b off hp => ?_, fun ha => ?_⟩, fun p hp _ => (e1 p).1 hp⟩
  · have hb := (e1 _).1 hp
    rw [hfz _ (hlt _ hb)]
    exact hz b off hb
  · have := hn ha
    rw [hps] at this
    exact this
/-- a law that returns true and leaves all that was there -/
theorem post_true {f : Func} {s : ChangeSpec} {fresh handsOn again : Bool} {W W' : World} {args : Array Value} {ds gs : List (DataW H)} {before : List MemPlace} (hl : laidOutB P = true) (hm : mapsRowed P = true) (hz : ((List.range P.types.size).all fun t => match P.underlying t with | some (.slice e) => decide (0 < P.cellsOf e) | _ => true) = true)
    (hW : DataW.Whole enc P f.params.toList s.vars false W args.toList ds gs before) (hv : s.vars = []) (hts : f.params.toList.all (fun t => decide (t < P.types.size)) = true)
    {tb : TypeId} (hrt : f.resultTypes = #[tb]) (htb : P.underlying tb = some .bool) (hr : (s.fn H (ds ++ gs)).results = [.lit (.bool true)]) (ha : (s.fn H (ds ++ gs)).args = ds) (hvr : (s.fn H (ds ++ gs)).vars = []) (hE : Ext No W W') :
    s.post enc P f false fresh handsOn again W args (.bool true) W' := by
  have hW0 := hW
  obtain ⟨p, q, hA, hV, rfl, _, _⟩ := hW
  rw [hv] at hV
  obtain ⟨rfl, rfl⟩ := trodVars_none hV
  refine post_of_old (pa := p) (pv := []) hW0 (fun _ _ _ => ?_) (fun sp hsp => ?_) (fun _ _ => ?_) (by simp) (World.keptBut_mono (fun _ f => f.elim) (hE.kept fun _ _ => id)) (fun a ha => hE.froz ha id) ?_
  · rw [hrt, hr]
    exact trodAll_cons_mk (RowKit.shut_bool htb true) trodAll_mk0
  · rw [ha]
    refine trodAll_carry (hA.respare (kids_rows hl hm) (slices_full_of P hz) (fun t ht => by simpa using List.all_eq_true.1 hts t ht) fun x hx => hsp x (by simpa using hx)) fun x hx => ?_
    exact hE.sameAt (hA.lt x hx)
  · rw [hv, hvr]; rfl
  · exact ok_one hrt rfl (RowKit.okWide_bool_mk htb true)

/-- cells that were read stand in a row -/
theorem cells?_seg {a : Addr} {m : Nat} {r : List Value} (h : w.cells? 0 a m = some r) (hm : 0 < m) : a = ⟨a.block, a.off, none⟩ ∧ r.length = m ∧ Seg w a.block a.off r ∧ a.block < w.heap.size := by
  have hlt := World.cells?_block h hm
  unfold World.cells? at h
  rw [if_pos (Nat.zero_le _)] at h
  have hlen := mapM_some_length h
  have hget : ∀ i, i < m → w.cell? (a.add i) = r[i]? := fun i hi => mapM_some_get h i i (by simp [hi])
  simp only [List.length_range] at hlen
  have hspot : a.spot = none := by
    have h0 := hget 0 hm
    have hr0 : r[0]? = some r[0] := by simp
    rw [hr0] at h0
    have e : a.add 0 = a := by simp [Addr.add]
    rw [e] at h0
    unfold World.cell? at h0
    split at h0
    · split at h0
      · cases h0
      · rename_i hs; simpa using hs
    · cases h0
  have ha : a = ⟨a.block, a.off, none⟩ := by rw [← hspot]
  refine ⟨ha, hlen, fun i v hv => ?_, hlt⟩
  have hi : i < m := by
    have := (List.getElem?_eq_some_iff.1 hv).1
    omega
  have hi' := hget i hi
  rw [hv] at hi'
  have e : a.add i = ⟨a.block, a.off + i, none⟩ := by rw [ha]; exact addr_add _ _ _
  rw [e] at hi'
  exact hi'

theorem rows_seg {b m : Nat} : ∀ {L : List (List Value)} {off : Nat}, Uni m L → (∀ (i : Nat) (r : List Value), L[i]? = some r → Seg w b (off + i * m) r) → Seg w b off L.flatten
  | [], _, _, _ => fun i v hv => by simp at hv
  | r :: L, off, hu, h => by
    rw [List.flatten_cons, Seg.append]
    have hr := hu r (by simp)
    refine ⟨by simpa using h 0 r rfl, ?_⟩
    rw [hr]
    refine rows_seg (fun x hx => hu x (by simp [hx])) fun i x hx => ?_
    have := h (i + 1) x (by simpa using hx)
    rwa [show off + (i + 1) * m = off + m + i * m from by rw [Nat.succ_mul]; omega] at this

/-- a slice that the statement reads: its rows -/
theorem open_rows {sp : Nat → Bool} {held : Bool} {fuel : Nat} {t e m : Nat} {cs : List Value} {x : DataW H × List MemPlace} (ht : P.underlying t = some (.slice e)) (hm : P.cellsOf e = m) (hm0 : 0 < m) (h : DataW.trod enc P w 0 sp held fuel t cs = some x) :
    ∃ (p : Option Addr) (n c : Nat) (L : List (List Value)), cs = [.slice p n c] ∧ n ≤ c ∧ c ≤ maxLen ∧ L.length = n ∧ Uni m L ∧ Sl w p n m L.flatten ∧ (n ≠ 0 → ∀ b off, p = some ⟨b, off, none⟩ → b < w.heap.size) ∧
      ∀ r ∈ L, ∃ k y, DataW.trod enc P w 0 sp held k e r = some y := by
  subst hm
  rcases DataW.trod_slice ht h with ⟨hcs, _⟩ | ⟨a, len, cap, elems, rest, n, _, hcs, _, _, hl, hc, hlen, hel, _⟩
  · exact ⟨none, 0, 0, [], hcs, Nat.le_refl _, by unfold maxLen; omega, rfl, Uni.nil _, Sl.nil _ _ _, fun h => absurd rfl h, fun r hr => by cases hr⟩
  · have hrow : ∀ i, i < len → ∃ r y, w.cells? 0 (a.add (i * P.cellsOf e)) (P.cellsOf e) = some r ∧ DataW.trod enc P w 0 sp held n e r = some y := by
      intro i hi
      have := hel i hi
      rw [List.getElem?_eq_getElem (by omega), Option.bind_eq_some_iff] at this
      obtain ⟨r, h1, h2⟩ := this
      exact ⟨r, _, h1, h2⟩
    have hrow' : ∀ i : _root_.Fin len, ∃ r y, w.cells? 0 (a.add (i.1 * P.cellsOf e)) (P.cellsOf e) = some r ∧ DataW.trod enc P w 0 sp held n e r = some y := fun i => hrow i.1 i.2
    let L : List (List Value) := List.ofFn fun i : _root_.Fin len => Classical.choose (hrow' i)
    have hL : ∀ (i : Nat) (r : List Value), L[i]? = some r → i < len ∧ w.cells? 0 (a.add (i * P.cellsOf e)) (P.cellsOf e) = some r ∧ ∃ y, DataW.trod enc P w 0 sp held n e r = some y := by
      intro i r hr
      have hi : i < len := by
        have := (List.getElem?_eq_some_iff.1 hr).1
        simpa [L] using this
      have : r = Classical.choose (hrow' ⟨i, hi⟩) := by
        simp only [L, List.getElem?_ofFn, hi, dif_pos, Option.some.injEq] at hr
        exact hr.symm
      subst this
      obtain ⟨y, h1, h2⟩ := Classical.choose_spec (hrow' ⟨i, hi⟩)
      exact ⟨hi, h1, y, h2⟩
    have hLlen : L.length = len := by simp [L]
    have hu : Uni (P.cellsOf e) L := fun r hr => by
      obtain ⟨i, hi, rfl⟩ := List.mem_iff_getElem.1 hr
      have := hL i L[i] (by simp)
      exact (cells?_seg this.2.1 hm0).2.1
    refine ⟨some a, len, cap, L, hcs, hl, hc, hLlen, hu, ⟨by rw [rows_length hu, hLlen], ?_⟩, ?_, fun r hr => ?_⟩
    · rcases Nat.eq_zero_or_pos len with h0 | h0
      · exact .inl h0
      · right
        have h00 := hL 0 L[0] (by simp)
        have e0 : a.add (0 * P.cellsOf e) = a := by simp [Addr.add]
        rw [e0] at h00
        have ha := (cells?_seg h00.2.1 hm0).1
        refine ⟨a.block, a.off, congrArg some ha, rows_seg hu fun i r hr => ?_⟩
        have hi := hL i r hr
        have := (cells?_seg hi.2.1 hm0).2.2.1
        have e1 : a.add (i * P.cellsOf e) = ⟨a.block, a.off + i * P.cellsOf e, none⟩ := by
          conv => lhs; rw [ha]
          exact addr_add _ _ _
        rw [e1] at this
        exact this
    · intro hn b off hb
      have h00 := hL 0 (L[0]'(by omega)) (by simp)
      have e0 : a.add (0 * P.cellsOf e) = a := by simp [Addr.add]
      rw [e0] at h00
      have := (cells?_seg h00.2.1 hm0).2.2.2
      simp only [Option.some.injEq] at hb
      rw [hb] at this
      exact this
    · obtain ⟨i, hi, rfl⟩ := List.mem_iff_getElem.1 hr
      obtain ⟨_, _, y, hy⟩ := hL i L[i] (by simp)
      exact ⟨n, y, hy⟩
end
end Go.Vc
namespace Go.Vc

/-- the bounds of a part: what is said, or what holds if nothing is said -/
structure Bds where
  lo : Option Int
  hi : Option Int
  mx : Option Int
def Bds.Is (s : Bds) (n c l hh m : Nat) : Prop :=
  (s.mx = some (m : Int) ∧ s.hi.isSome = true ∨ s.mx = none ∧ m = c) ∧ (s.hi = some (hh : Int) ∨ s.hi = none ∧ hh = n) ∧ (s.lo = some (l : Int) ∨ s.lo = none ∧ l = 0) ∧ l ≤ hh ∧ hh ≤ m ∧ m ≤ c

section
variable {P : Program} {I : Info} {f : Fs} {ops : Array Oper} {o : Oper} {env : Env} {w : World}

def evB (env : Env) (lo hi mx : Option Operand) : Option Bds :=
  match evI env lo with
  | some lo' => match evI env hi with
    | some hi' => match evI env mx with
      | some mx' => some ⟨lo', hi', mx'⟩
      | none => none
    | none => none
  | none => none

theorem run_bds {lo hi mx : Option Operand} {s : Bds} (h : evB env lo hi mx = some s) {ρ : Operand → Value} (hρ : ∀ x u, evO env x = some u → ρ x = u) {n c l hh m : Nat} (hs : s.Is n c l hh m) (b : Bool) :
    (Instr.sliceBounds b n c (lo.map ρ) (hi.map ρ) (mx.map ρ)).run P w = .ok (l, hh, m) w := by
  obtain ⟨h1, h2, h3, hl, hm, hc⟩ := hs
  unfold evB at h
  split at h
  · rename_i lo' hlo
    split at h
    · rename_i hi' hhi
      split at h
      · rename_i mx' hmx
        cases h
        simp only at h1 h2 h3
        have q3 : (lo.map ρ = none ∧ l = 0) ∨ ∃ k, lo.map ρ = some (.int k (l : Int)) := by
          rcases evI_eq hlo hρ with ⟨hr, hv⟩ | ⟨nn, kk, hr, hv⟩ <;> rcases h3 with h3 | ⟨h3, h3'⟩ <;> rw [h3] at hr <;> cases hr
          · exact .inl ⟨hv, h3'⟩
          · exact .inr ⟨kk, hv⟩
        have q2 : (hi.map ρ = none ∧ hi' = none ∧ hh = n) ∨ ∃ k, hi.map ρ = some (.int k (hh : Int)) := by
          rcases evI_eq hhi hρ with ⟨hr, hv⟩ | ⟨nn, kk, hr, hv⟩ <;> rcases h2 with h2 | ⟨h2, h2'⟩ <;> rw [h2] at hr <;> cases hr
          · exact .inl ⟨hv, h2, h2'⟩
          · exact .inr ⟨kk, hv⟩
        have q1 : (mx.map ρ = none ∧ m = c) ∨ (hi'.isSome = true ∧ ∃ k, mx.map ρ = some (.int k (m : Int))) := by
          rcases evI_eq hmx hρ with ⟨hr, hv⟩ | ⟨nn, kk, hr, hv⟩ <;> rcases h1 with ⟨h1, h1'⟩ | ⟨h1, h1'⟩ <;> rw [h1] at hr <;> cases hr
          · exact .inl ⟨hv, h1'⟩
          · exact .inr ⟨h1', kk, hv⟩
        unfold Instr.sliceBounds
        rcases q1 with ⟨q1, rfl⟩ | ⟨q1', k1, q1⟩ <;> rcases q2 with ⟨q2, q2', rfl⟩ | ⟨k2, q2⟩ <;> rcases q3 with ⟨q3, rfl⟩ | ⟨k3, q3⟩ <;> rw [q1, q2, q3] <;>
          first
            | (rw [q2'] at q1'; cases q1'; done)
            | (cases b <;> simp only [Sem.run_bind, Sem.run_pure, Result.andThen_ok, if_true, run_bound _ _ _ _ hl, run_bound _ _ _ _ hm, run_bound _ _ _ _ hc]; done)
      · cases h
    · cases h
  · cases h

/-- a part of an array in memory -/
def saE (I : Info) (n : Nat) (ops : Array Oper) (env : Env) (o : Oper) : Option (Nat × Nat × Nat × Nat × Bds × Nat) :=
  match pre n ops env o with
  | false => none
  | true => match o.dst with
    | some d => match o.op with
      | .slice t x lo hi mx => match lkT I t with
        | some y => match y.desc with
          | .array m e => match lkT I e with
            | some g => match evO env x with
              | some (.pointer (some ⟨b, off, none⟩)) => match evB env lo hi mx with
                | some s => some (b, off, m, g.size, s, d)
                | none => none
              | _ => none
            | none => none
          | _ => none
        | none => none
      | _ => none
    | none => none

theorem ov_sa (hI : I.Ok P) {nn b off len sz0 d : Nat} {s : Bds} (h : saE I nn ops env o = some (b, off, len, sz0, s, d)) (l hh m sz : Nat) (hsz : sz0 = sz) (hs : s.Is len len l hh m) :
    pre nn ops env o = true ∧ o.dst = some d ∧ Ov P o env w (.slice (slBase (some ⟨b, off, none⟩) l m sz) (hh - l) (m - l)) w := by
  subst hsz
  unfold saE at h
  split at h
  · cases h
  · rename_i hp
    split at h
    · rename_i d' hd
      split at h
      · rename_i t x lo hi mx ho
        split at h
        · rename_i y hy
          split at h
          · rename_i m' e he
            split at h
            · rename_i g hg
              split at h
              · rename_i b' off' hx
                split at h
                · rename_i s' hsb
                  simp only [Option.some.injEq, Prod.mk.injEq] at h
                  obtain ⟨rfl, rfl, rfl, rfl, rfl, rfl⟩ := h
                  refine ⟨hp, hd, fun ρ hρ => ?_⟩
                  have hu := (hI.get hy).under w
                  have hz := (hI.get hg).sizeOf w
                  rw [he] at hu
                  have go : (Instr.sliceAt t (.pointer (some ⟨b', off', none⟩)) (lo.map ρ) (hi.map ρ) (mx.map ρ)).run P w = .ok (.slice (slBase (some ⟨b', off', none⟩) l m g.size) (hh - l) (m - l)) w := by
                    unfold Instr.sliceAt
                    rw [run_under_bind hu]
                    simp only [Instr.sureAddr, Sem.run_bind, Sem.run_pure, Result.andThen_ok, run_bds hsb hρ hs false, hz, slBase]
                    split <;> rfl
                  simp only [execOp, ho, hρ _ _ hx, Sem.run_bind, go, Result.andThen_ok, Sem.run_pure]
                · cases h
              · cases h
            · cases h
          · cases h
        · cases h
      · cases h
    · cases h
theorem st_sa (hI : I.Ok P) {K : Env → World → Prop} {b off len sz0 d : Nat} {s : Bds} (h : saE I f.n ops env o = some (b, off, len, sz0, s, d)) (l hh m sz : Nat) (hsz : sz0 = sz) (hs : s.Is len len l hh m)
    (k : K ((d, .slice (slBase (some ⟨b, off, none⟩) l m sz) (hh - l) (m - l)) :: env) w) : St P f ops o env w K := by
  obtain ⟨h1, h2, h3⟩ := ov_sa (w := w) hI h l hh m sz hsz hs
  obtain ⟨h4, h5⟩ := pre_eq h1
  exact st_v h4 h5 h3 (by rw [h2]; exact k)
theorem wd_sa (hI : I.Ok P) {K : Act → World → Prop} {r : Dr} {i : Nat} {pl : List (Nat × Bool)} {dn : List Nat} (ho : ops[i]? = some o) {b off len sz0 d : Nat} {s : Bds} (h : saE I f.n ops env o = some (b, off, len, sz0, s, d)) (l hh m sz : Nat) (hsz : sz0 = sz) (hs : s.Is len len l hh m)
    (k : WD P f ops K r pl (i :: dn) ((d, .slice (slBase (some ⟨b, off, none⟩) l m sz) (hh - l) (m - l)) :: env) w) : WD P f ops K r ((i, true) :: pl) dn env w := by
  obtain ⟨h1, h2, _⟩ := ov_sa (w := w) hI h l hh m sz hsz hs
  exact wd_q ho h1 h2 (fun w' _ => (ov_sa (w := w') hI h l hh m sz hsz hs).2.2) k

/-- a part of a string -/
def ssE (I : Info) (n : Nat) (ops : Array Oper) (env : Env) (o : Oper) : Option (ByteArray × Bds × Nat) :=
  match pre n ops env o with
  | false => none
  | true => match o.dst with
    | some d => match o.op with
      | .slice t x lo hi none => match lkT I t with
        | some y => match y.desc with
          | .string => match evO env x with
            | some (.string s) => match evB env lo hi none with
              | some bs => some (s, bs, d)
              | none => none
            | _ => none
          | _ => none
        | none => none
      | _ => none
    | none => none
theorem ov_ss (hI : I.Ok P) {nn d : Nat} {s : ByteArray} {bs : Bds} (h : ssE I nn ops env o = some (s, bs, d)) (l hh : Nat) (hs : bs.Is s.size s.size l hh s.size) :
    pre nn ops env o = true ∧ o.dst = some d ∧ Ov P o env w (.string (s.extract l hh)) w := by
  unfold ssE at h
  split at h
  · cases h
  · rename_i hp
    split at h
    · rename_i d' hd
      split at h
      · rename_i t x lo hi ho
        split at h
        · rename_i y hy
          split at h
          · rename_i he
            split at h
            · rename_i s' hx
              split at h
              · rename_i bs' hsb
                simp only [Option.some.injEq, Prod.mk.injEq] at h
                obtain ⟨rfl, rfl, rfl⟩ := h
                refine ⟨hp, hd, fun ρ hρ => ?_⟩
                have hu := (hI.get hy).under w
                rw [he] at hu
                have hb := run_bds (P := P) (w := w) hsb hρ hs false
                simp only [Option.map_none] at hb
                have go : (Instr.sliceAt t (.string s') (lo.map ρ) (hi.map ρ) none).run P w = .ok (.string (s'.extract l hh)) w := by
                  unfold Instr.sliceAt
                  rw [run_under_bind hu]
                  show (Instr.slice t (.string s') (lo.map ρ) (hi.map ρ) none).run P w = _
                  unfold Instr.slice
                  rw [run_under_bind hu]
                  simp only [Option.isSome_none, Bool.false_eq_true, if_false, Sem.run_bind, Sem.run_pure, Result.andThen_ok, hb]
                simp only [execOp, ho, hρ _ _ hx, Option.map_none, Sem.run_bind, go, Result.andThen_ok, Sem.run_pure]
              · cases h
            · cases h
          · cases h
        · cases h
      · cases h
    · cases h
theorem st_ss (hI : I.Ok P) {K : Env → World → Prop} {d : Nat} {s : ByteArray} {bs : Bds} (h : ssE I f.n ops env o = some (s, bs, d)) (l hh : Nat) (hs : bs.Is s.size s.size l hh s.size)
    (k : K ((d, .string (s.extract l hh)) :: env) w) : St P f ops o env w K := by
  obtain ⟨h1, h2, h3⟩ := ov_ss (w := w) hI h l hh hs
  obtain ⟨h4, h5⟩ := pre_eq h1
  exact st_v h4 h5 h3 (by rw [h2]; exact k)
theorem wb_ss (hI : I.Ok P) {K : Act → World → Prop} {i kk : Nat} {pl dn : List Nat} (ho : ops[i]? = some o) (hk : kk = ops.size + i) {d : Nat} {s : ByteArray} {bs : Bds} (h : ssE I f.n ops env o = some (s, bs, d)) (l hh : Nat) (hs : bs.Is s.size s.size l hh s.size) (hn : Region.noSelect ops = true)
    (k : WB P f ops K pl (i :: dn) ((d, .string (s.extract l hh)) :: env) w) : WB P f ops K (kk :: pl) dn env w := by
  obtain ⟨h1, h2, _⟩ := ov_ss (w := w) hI h l hh hs
  exact wbv ho hk h1 h2 (fun w' => (ov_ss (w := w') hI h l hh hs).2.2) hn k
theorem wd_ss (hI : I.Ok P) {K : Act → World → Prop} {r : Dr} {i : Nat} {pl : List (Nat × Bool)} {dn : List Nat} (ho : ops[i]? = some o) {d : Nat} {s : ByteArray} {bs : Bds} (h : ssE I f.n ops env o = some (s, bs, d)) (l hh : Nat) (hs : bs.Is s.size s.size l hh s.size)
    (k : WD P f ops K r pl (i :: dn) ((d, .string (s.extract l hh)) :: env) w) : WD P f ops K r ((i, true) :: pl) dn env w := by
  obtain ⟨h1, h2, _⟩ := ov_ss (w := w) hI h l hh hs
  exact wd_q ho h1 h2 (fun w' _ => (ov_ss (w := w') hI h l hh hs).2.2) k

/-- an array where a slice begins -/
def spE (I : Info) (n : Nat) (ops : Array Oper) (env : Env) (o : Oper) : Option (Option Addr × Nat × Nat × Nat) :=
  match pre n ops env o with
  | false => none
  | true => match o.dst with
    | some d => match o.op with
      | .sliceToArrayPointer t x => match lkT I t with
        | some y => match y.desc with
          | .array m _ => match evO env x with
            | some (.slice p len _) => some (p, len, m, d)
            | _ => none
          | _ => none
        | none => none
      | _ => none
    | none => none
theorem ov_sp (hI : I.Ok P) {nn len m d : Nat} {p : Option Addr} (h : spE I nn ops env o = some (p, len, m, d)) (hm : m ≤ len) :
    pre nn ops env o = true ∧ o.dst = some d ∧ Ov P o env w (.pointer p) w := by
  unfold spE at h
  split at h
  · cases h
  · rename_i hp
    split at h
    · rename_i d' hd
      split at h
      · rename_i t x ho
        split at h
        · rename_i y hy
          split at h
          · rename_i m' e he
            split at h
            · rename_i p' len' c' hx
              simp only [Option.some.injEq, Prod.mk.injEq] at h
              obtain ⟨rfl, rfl, rfl, rfl⟩ := h
              refine ⟨hp, hd, fun ρ hρ => ?_⟩
              have hu := (hI.get hy).under w
              rw [he] at hu
              have go : (Instr.arrayAt t (.slice p' len' c')).run P w = .ok (.pointer p') w := by
                unfold Instr.arrayAt
                rw [run_under_bind hu]
                simp only [if_neg (Nat.not_lt.2 hm), Sem.run_pure]
              simp only [execOp, ho, hρ _ _ hx, Sem.run_bind, go, Result.andThen_ok, Sem.run_pure]
            · cases h
          · cases h
        · cases h
      · cases h
    · cases h
theorem st_sp (hI : I.Ok P) {K : Env → World → Prop} {len m d : Nat} {p : Option Addr} (h : spE I f.n ops env o = some (p, len, m, d)) (hm : m ≤ len)
    (k : K ((d, .pointer p) :: env) w) : St P f ops o env w K := by
  obtain ⟨h1, h2, h3⟩ := ov_sp (w := w) hI h hm
  obtain ⟨h4, h5⟩ := pre_eq h1
  exact st_v h4 h5 h3 (by rw [h2]; exact k)
/-- a function with what it has caught -/
def mfE (n : Nat) (ops : Array Oper) (env : Env) (o : Oper) : Option (FuncId × List Value × List Value × Nat) :=
  match pre n ops env o with
  | false => none
  | true => match o.dst with
    | some d => match o.op with
      | .makeFunc (.func g) fs cs => match evs env fs.toList with
        | some l => match evs env cs.toList with
          | some m => some (g, l, m, d)
          | none => none
        | none => none
      | _ => none
    | none => none
theorem ov_mf {nn d : Nat} {g : FuncId} {l m : List Value} (h : mfE nn ops env o = some (g, l, m, d)) :
    pre nn ops env o = true ∧ o.dst = some d ∧ Ov P o env w (.func (.func g) l.toArray m.toArray) w := by
  unfold mfE at h
  split at h
  · cases h
  · rename_i hp
    split at h
    · rename_i d' hd
      split at h
      · rename_i g' fs cs ho
        split at h
        · rename_i l' hl
          split at h
          · rename_i m' hm
            simp only [Option.some.injEq, Prod.mk.injEq] at h
            obtain ⟨rfl, rfl, rfl, rfl⟩ := h
            refine ⟨hp, hd, fun ρ hρ => ?_⟩
            simp only [execOp, ho, Instr.makeFunc, evs_arr hρ hl, evs_arr hρ hm, Sem.run_bind, Result.andThen_ok, Sem.run_pure]
          · cases h
        · cases h
      · cases h
    · cases h
theorem st_mf {K : Env → World → Prop} {d : Nat} {g : FuncId} {l m : List Value} (h : mfE f.n ops env o = some (g, l, m, d))
    (k : K ((d, .func (.func g) l.toArray m.toArray) :: env) w) : St P f ops o env w K := by
  obtain ⟨h1, h2, h3⟩ := ov_mf (P := P) (w := w) h
  obtain ⟨h4, h5⟩ := pre_eq h1
  exact st_v h4 h5 h3 (by rw [h2]; exact k)
end
end Go.Vc
namespace Go.Vc

/-- the string of bytes -/
def strU (l : List UInt8) : ByteArray := ⟨l.toArray⟩
theorem strU_data (l : List UInt8) : (strU l).data.toList = l := rfl
theorem strU_size (l : List UInt8) : (strU l).size = l.length := rfl
theorem strU_of (s : ByteArray) : strU s.data.toList = s := by obtain ⟨⟨x⟩⟩ := s; rfl
theorem strU_inj {a b : List UInt8} (h : strU a = strU b) : a = b := by
  have e := congrArg (fun s : ByteArray => s.data.toList) h
  exact e

section
variable {P : Program} {I : Info} {f : Fs} {ops : Array Oper} {o : Oper} {env : Env} {w : World}

theorem run_b2s {p : Option Addr} {l : List UInt8} (h : SlB w p l) (c : Nat) : (Conv.bytesToString (.slice p l.length c)).run P w = .ok (.string (strU l)) w := by
  unfold Conv.bytesToString
  cases p with
  | none =>
    obtain ⟨_, h0 | ⟨b, off, hp, _⟩⟩ := h
    · have : l = [] := List.eq_nil_of_length_eq_zero h0
      subst this
      rfl
    · cases hp
  | some a =>
    have hl : (loadCells a l.length).run P w = .ok (bytesU l).toArray w := by
      obtain ⟨_, h0 | ⟨b, off, hp, hs⟩⟩ := h
      · have : l = [] := List.eq_nil_of_length_eq_zero h0
        subst this
        rfl
      · cases hp
        unfold loadCells
        have := run_loadCells_seg (P := P) l.length 0 (bytesU l) #[] (by simpa using hs) (bytesU_len l)
        simpa using this
    simp only [Sem.run_bind, hl, Result.andThen_ok]
    have go : ∀ (m : List UInt8) (s : ByteArray), (forIn (m := Sem) (bytesU m) s fun c s => do
        match c with
        | .int .u8 n => pure (ForInStep.yield (s.push (UInt8.ofNat n.toNat)))
        | _ => do
          stuck "bytesToString: byte expected"
          pure (ForInStep.yield s)).run P w = .ok (⟨s.data ++ m.toArray⟩ : ByteArray) w := by
      intro m
      induction m with
      | nil => intro s; simp [bytesU]
      | cons x r ih =>
        intro s
        rw [show bytesU (x :: r) = byteV x :: bytesU r from rfl, List.forIn_cons]
        simp only [Sem.run_bind, Sem.run_pure, Result.andThen_ok]
        rw [ih]
        congr 2
        simp [ByteArray.push]
    rw [← Array.forIn_toList]
    refine (congrArg (fun r => Result.andThen r _) (go l ByteArray.empty)).trans ?_
    simp only [Result.andThen_ok, Sem.run_pure]
    congr 2
    simp [strU, ByteArray.empty, ByteArray.emptyWithCapacity]
    rfl

/-- a string out of bytes in memory -/
def b2sE (I : Info) (n : Nat) (ops : Array Oper) (env : Env) (o : Oper) : Option (Option Addr × Nat × Nat × Nat) :=
  match pre n ops env o with
  | false => none
  | true => match o.dst with
    | some d => match o.op with
      | .convert s t x => match lkT I s with
        | some y => match y.desc with
          | .slice e => match lkT I e with
            | some g => match g.desc with
              | .int .u8 => match lkT I t with
                | some z => match z.desc with
                  | .string => match evO env x with
                    | some (.slice p m c) => some (p, m, c, d)
                    | _ => none
                  | _ => none
                | none => none
              | _ => none
            | none => none
          | _ => none
        | none => none
      | _ => none
    | none => none
theorem ov_b2s (hI : I.Ok P) {nn m c d : Nat} {p : Option Addr} (h : b2sE I nn ops env o = some (p, m, c, d)) {l : List UInt8} (hl : m = l.length) (hs : SlB w p l) :
    pre nn ops env o = true ∧ o.dst = some d ∧ Ov P o env w (.string (strU l)) w := by
  subst hl
  unfold b2sE at h
  split at h
  · cases h
  · rename_i hp
    split at h
    · rename_i d' hd
      split at h
      · rename_i s t x ho
        split at h
        · rename_i y hy
          split at h
          · rename_i e he
            split at h
            · rename_i g hg
              split at h
              · rename_i hgd
                split at h
                · rename_i z hz
                  split at h
                  · rename_i hzd
                    split at h
                    · rename_i p' m' c' hx
                      simp only [Option.some.injEq, Prod.mk.injEq] at h
                      obtain ⟨rfl, rfl, rfl, rfl⟩ := h
                      refine ⟨hp, hd, fun ρ hρ => ?_⟩
                      have hu := (hI.get hy).under w
                      have hv := (hI.get hz).under w
                      have hw := (hI.get hg).under w
                      rw [he] at hu
                      rw [hzd] at hv
                      rw [hgd] at hw
                      have hb := run_b2s (P := P) hs c'
                      have go : (convert s t (.slice p' l.length c')).run P w = .ok (.string (strU l)) w := by
                        unfold convert
                        rw [run_under_bind hu, run_under_bind hv]
                        show (underlying e >>= _).run P w = _
                        rw [run_under_bind hw]
                        exact hb
                      simp only [execOp, ho, hρ _ _ hx, Sem.run_bind, go, Result.andThen_ok, Sem.run_pure]
                    · cases h
                  · cases h
                · cases h
              · cases h
            · cases h
          · cases h
        · cases h
      · cases h
    · cases h
theorem st_b2s (hI : I.Ok P) {K : Env → World → Prop} {m c d : Nat} {p : Option Addr} (h : b2sE I f.n ops env o = some (p, m, c, d)) {l : List UInt8} (hl : m = l.length) (hs : SlB w p l)
    (k : K ((d, .string (strU l)) :: env) w) : St P f ops o env w K := by
  obtain ⟨h1, h2, h3⟩ := ov_b2s (w := w) hI h hl hs
  obtain ⟨h4, h5⟩ := pre_eq h1
  exact st_v h4 h5 h3 (by rw [h2]; exact k)
theorem wd_b2s (hI : I.Ok P) {K : Act → World → Prop} {r : Dr} {i : Nat} {pl : List (Nat × Bool)} {dn : List Nat} (ho : ops[i]? = some o) {m c d : Nat} {p : Option Addr} (h : b2sE I f.n ops env o = some (p, m, c, d)) {l : List UInt8} (hl : m = l.length) (hs : ∀ w', r.C w' → SlB w' p l)
    (hs0 : SlB w p l) (k : WD P f ops K r pl (i :: dn) ((d, .string (strU l)) :: env) w) : WD P f ops K r ((i, true) :: pl) dn env w := by
  obtain ⟨h1, h2, _⟩ := ov_b2s (w := w) hI h hl hs0
  exact wd_q ho h1 h2 (fun w' hw => (ov_b2s (w := w') hI h hl (hs w' hw)).2.2) k

/-- equality of two values whose types may be keys -/
def eqKE (n : Nat) (ops : Array Oper) (env : Env) (o : Oper) : Option (Nat × Bool × Value × Value × Nat) :=
  match pre n ops env o with
  | false => none
  | true => match o.dst with
    | some d => match o.op with
      | .binOp op t x y _ => match evO env x with
        | some (.agg a) => match evO env y with
          | some (.agg b) => match op with
            | .eql => some (t, true, .agg a, .agg b, d)
            | .neq => some (t, false, .agg a, .agg b, d)
            | _ => none
          | _ => none
        | _ => none
      | _ => none
    | none => none
theorem ov_eqK {nn t d : Nat} {q : Bool} {a b : Value} (h : eqKE nn ops env o = some (t, q, a, b, d)) (hgd : P.eqGuardType P.depth t = false) (m : Nat) (hm : m ≤ 10000) (hk : P.keyTypeAt m t = true)
    {D D' : Nat} {la lb : List Lit} (fa : a.formed P t = true) (fb : b.formed P t = true) (ha : P.keyLits D t a.cells.toList = some la) (hb : P.keyLits D' t b.cells.toList = some lb) {p : Prop} [Decidable p] (hp : la = lb ↔ p) :
    pre nn ops env o = true ∧ o.dst = some d ∧ Ov P o env w (.bool (if q then decide p else decide (¬ p))) w := by
  unfold eqKE at h
  split at h
  · cases h
  · rename_i hpr
    split at h
    · rename_i d' hd
      split at h
      · rename_i op t' x y u ho
        split at h
        · rename_i xa hx
          split at h
          · rename_i ya hy
            have key : ∃ r : Bool, (Op.equal t' (.agg xa) (.agg ya)).run P w = .ok r w ∧ (r = true ↔ p) ∨ t' ≠ t ∨ a ≠ .agg xa ∨ b ≠ .agg ya := by
              by_cases ht : t' = t ∧ a = .agg xa ∧ b = .agg ya
              · obtain ⟨rfl, rfl, rfl⟩ := ht
                obtain ⟨r, h1, h2⟩ := run_equalIn_deep (P := P) (10000 - m) m t' hk w D D' _ _ la lb fa fb ha hb
                rw [Nat.sub_add_cancel hm] at h1
                exact ⟨r, .inl ⟨h1, h2.trans hp⟩⟩
              · refine ⟨true, .inr ?_⟩
                by_cases h1 : t' = t
                · by_cases h2 : a = .agg xa
                  · exact .inr (.inr fun h3 => ht ⟨h1, h2, h3⟩)
                  · exact .inr (.inl h2)
                · exact .inl h1
            split at h
            all_goals first
              | (cases h; done)
              | (simp only [Option.some.injEq, Prod.mk.injEq] at h
                 obtain ⟨rfl, rfl, rfl, rfl, rfl⟩ := h
                 obtain ⟨r, ⟨hr, hrp⟩ | hne | hne | hne⟩ := key
                 · refine ⟨hpr, hd, fun ρ hρ => ?_⟩
                   have hrd : r = decide p := by
                     rw [Bool.eq_iff_iff, hrp]; simp
                   have hg := run_eqGuard_agg (P := P) w (BinOp.eql) t' x y xa ya hgd
                   have hg2 := run_eqGuard_agg (P := P) w (BinOp.neq) t' x y xa ya hgd
                   first
                     | (simp only [execOp, ho, hρ _ _ hx, hρ _ _ hy, Sem.run_bind, hg, hg2, Result.andThen_ok, binOp, hr, Sem.run_pure, hrd]; simp; done)
                     | (simp only [execOp, ho, hρ _ _ hx, hρ _ _ hy, Sem.run_bind, hg, hg2, Result.andThen_ok, binOp, hr, Sem.run_pure, hrd]; done)
                 · exact absurd rfl hne
                 · exact absurd rfl hne
                 · exact absurd rfl hne)
          · cases h
        · cases h
      · cases h
    · cases h
theorem st_eqK {K : Env → World → Prop} {t d : Nat} {q : Bool} {a b : Value} (h : eqKE f.n ops env o = some (t, q, a, b, d)) (hgd : P.eqGuardType P.depth t = false) (m : Nat) (hm : m ≤ 10000) (hk : P.keyTypeAt m t = true)
    {D D' : Nat} {la lb : List Lit} (fa : a.formed P t = true) (fb : b.formed P t = true) (ha : P.keyLits D t a.cells.toList = some la) (hb : P.keyLits D' t b.cells.toList = some lb) {p : Prop} [Decidable p] (hp : la = lb ↔ p)
    (k : K ((d, .bool (if q then decide p else decide (¬ p))) :: env) w) : St P f ops o env w K := by
  obtain ⟨h1, h2, h3⟩ := ov_eqK (P := P) (w := w) h hgd m hm hk fa fb ha hb hp
  obtain ⟨h4, h5⟩ := pre_eq h1
  exact st_v h4 h5 h3 (by rw [h2]; exact k)
end
theorem wd_eqK {P : Program} {f : Fs} {ops : Array Oper} {o : Oper} {env : Env} {w : World} {K : Act → World → Prop} {r : Dr} {i : Nat} {pl : List (Nat × Bool)} {dn : List Nat} (ho : ops[i]? = some o) {t d : Nat} {q : Bool} {a b : Value} (h : eqKE f.n ops env o = some (t, q, a, b, d)) (hgd : P.eqGuardType P.depth t = false) (m : Nat) (hm : m ≤ 10000) (hk : P.keyTypeAt m t = true)
    {D D' : Nat} {la lb : List Lit} (fa : a.formed P t = true) (fb : b.formed P t = true) (ha : P.keyLits D t a.cells.toList = some la) (hb : P.keyLits D' t b.cells.toList = some lb) {p : Prop} [Decidable p] (hp : la = lb ↔ p)
    (k : WD P f ops K r pl (i :: dn) ((d, .bool (if q then decide p else decide (¬ p))) :: env) w) : WD P f ops K r ((i, true) :: pl) dn env w := by
  obtain ⟨h1, h2, _⟩ := ov_eqK (P := P) (w := w) h hgd m hm hk fa fb ha hb hp
  exact wd_q ho h1 h2 (fun w' _ => (ov_eqK (P := P) (w := w') h hgd m hm hk fa fb ha hb hp).2.2) k

/-! ### What a key's cells read as -/
theorem mapM_some {α β : Type} {f : α → Option β} {g : α → β} : ∀ {L : List α}, (∀ x ∈ L, f x = some (g x)) → L.mapM f = some (L.map g)
  | [], _ => by simp
  | x :: r, h => by
    rw [List.mapM_cons, h x (by simp), mapM_some (L := r) fun y hy => h y (by simp [hy])]
    rfl
theorem flat_single {α β : Type} (f : α → β) (L : List α) : (L.map fun x => [f x]).flatten = L.map f := by
  induction L with
  | nil => rfl
  | cons x r ih => rw [List.map_cons, List.flatten_cons, ih]; rfl
def idLits (l : List UInt8) : List Lit := l.map fun b => Lit.int .u8 (b.toNat : Int)
theorem idLits_inj {a b : List UInt8} : idLits a = idLits b ↔ a = b := by
  refine ⟨fun h => (List.map_inj_right fun x y e => ?_).1 h, fun h => by rw [h]⟩
  simp only [Lit.int.injEq, true_and] at e
  exact UInt8.toNat_inj.1 (by omega)
theorem lits_bytes {P : Program} {d t e n : Nat} (hu : P.underlying t = some (.array n e)) (hc : P.cellsOf t = n) (he : P.underlying e = some (.int .u8)) (hce : P.cellsOf e = 1) {l : List UInt8} (hl : l.length = n) : P.keyLits (d + 2) t (bytesU l) = some (idLits l) := by
  unfold Program.keyLits
  simp only [hu, hc, hce, bytesU_len, hl, if_true]
  have h1 : ∀ i ∈ List.range n, P.keyLits (d + 1) e (((bytesU l).drop (i * 1)).take 1) = some [Lit.int .u8 ((l.getD i 0).toNat : Int)] := by
    intro i hi
    have hi : i < l.length := by rw [hl]; exact List.mem_range.1 hi
    have e1 : ((bytesU l).drop (i * 1)).take 1 = [byteV (l.getD i 0)] := by
      rw [Nat.mul_one, bytesU, ← List.map_drop, List.drop_eq_getElem_cons hi, List.getD_eq_getElem?_getD, List.getElem?_eq_getElem hi]
      rfl
    rw [e1]
    unfold Program.keyLits
    simp only [he]
    have := (l.getD i 0).toNat_lt
    rw [if_pos]
    refine ⟨trivial, ?_⟩
    have e1 : IntKind.u8.min = 0 := rfl
    have e2 : IntKind.u8.max = 255 := rfl
    simp only [Lit.wf, e1, e2, Bool.and_eq_true, decide_eq_true_eq]
    omega
  rw [mapM_some h1]
  simp only [Option.map_some, Option.some.injEq]
  rw [← hl]
  apply List.ext_getElem?
  intro i
  have : ((List.range l.length).map fun i => [Lit.int .u8 ((l.getD i 0).toNat : Int)]).flatten = (List.range l.length).map fun i => Lit.int .u8 ((l.getD i 0).toNat : Int) := by
    exact flat_single _ _
  rw [this]
  simp only [idLits, List.getElem?_map]
  by_cases hi : i < l.length
  · rw [List.getElem?_eq_getElem hi, List.getElem?_eq_getElem (by simpa using hi)]
    simp [List.getD_eq_getElem?_getD, List.getElem?_eq_getElem hi]
  · rw [List.getElem?_eq_none (l := List.range l.length) (by rw [List.length_range]; omega), List.getElem?_eq_none (l := l) (by omega)]
    rfl
theorem lits_str {P : Program} {d t : Nat} (hu : P.underlying t = some .string) {s : List UInt8} (hs : s.length ≤ maxLen) : P.keyLits (d + 1) t [.string (strU s)] = some [.string s] := by
  unfold Program.keyLits
  simp only [hu]
  exact if_pos hs
theorem lits_bool {P : Program} {d t : Nat} (hu : P.underlying t = some .bool) (b : Bool) : P.keyLits (d + 1) t [.bool b] = some [.bool b] := by
  unfold Program.keyLits
  simp only [hu]
theorem lits_struct {P : Program} {d t : Nat} {cs : List Value} {L : List (Nat × Nat)} (hu : P.underlying t = some (.struct (P.fieldsOf t))) (hn : (P.fieldsOf t).all (·.name != "_") = true) (hc : cs.length = P.cellsOf t)
    (hf : (P.fieldsOf t).toList.map (fun f => (f.type, f.offset)) = L) {ls : List (List Lit)} (hm : L.mapM (fun p => P.keyLits d p.1 ((cs.drop p.2).take (P.cellsOf p.1))) = some ls) : P.keyLits (d + 1) t cs = some ls.flatten := by
  unfold Program.keyLits
  simp only [hu]
  rw [if_pos ⟨hc, hn⟩]
  subst hf
  have : (P.fieldsOf t).toList.mapM (fun f => P.keyLits d f.type ((cs.drop f.offset).take (P.cellsOf f.type))) = some ls := by
    rw [← hm]
    generalize (P.fieldsOf t).toList = fs
    induction fs with
    | nil => rfl
    | cons f fs ih => simp only [List.map_cons, List.mapM_cons, ih]
  rw [this]
  rfl
end Go.Vc
namespace Go.Vc
abbrev idV (x : List UInt8) : Value := .agg (bytesU x).toArray
theorem idV_inj {x y : List UInt8} (h : idV x = idV y) : x = y := by
  injection h with h
  exact bytesU_inj (by simpa using h)
/-- a map in memory, by what stands in it -/
def MapB {β : Type} (w : World) (r : Nat) (enc : β → Value) (f : List UInt8 → Option β) : Prop :=
  ∃ es clock, w.heap[r]? = some (.map es clock) ∧ (∀ e ∈ es.toList, ∃ x b, x.length = 32 ∧ e.key = idV x ∧ e.val = enc b ∧ f x = some b) ∧
    (∀ x b, f x = some b → ∃ e ∈ es.toList, e.key = idV x) ∧ (es.toList.map (·.key)).Nodup
/-- a type of digests may be a key's -/
structure IdKey (P : Program) (k : TypeId) : Prop where
  law : WideMaps.KeyLaw P k
  key : ∀ x : List UInt8, x.length = 32 → ∃ l, keyOf P k (idV x) = some l
theorem MapB.lt {β : Type} {w : World} {r : Nat} {enc : β → Value} {f : List UInt8 → Option β} (h : MapB w r enc f) : r < w.heap.size := by
  obtain ⟨es, c, h, _⟩ := h
  rcases Nat.lt_or_ge r w.heap.size with h' | h'
  · exact h'
  · rw [Array.getElem?_eq_none h'] at h; cases h
theorem MapB.ext {β : Type} {S : Nat → Prop} {w w' : World} {r : Nat} {enc : β → Value} {f : List UInt8 → Option β} (h : MapB w r enc f) (hE : Ext S w w') (hS : ¬ S r) : MapB w' r enc f := by
  have hlt := h.lt
  obtain ⟨es, c, h, r1⟩ := h
  exact ⟨es, c, (hE.same r hlt hS).trans h, r1⟩
theorem MapB.extNo {β : Type} {w w' : World} {r : Nat} {enc : β → Value} {f : List UInt8 → Option β} (h : MapB w r enc f) (hE : Ext No w w') : MapB w' r enc f := h.ext hE id
theorem MapB.ne {β : Type} {w : World} {r b T : Nat} {L : List Value} {enc : β → Value} {f : List UInt8 → Option β} (h : MapB w r enc f) (hb : Blk w b T L) : r ≠ b := fun e => by
  obtain ⟨es, c, h, _⟩ := h
  rw [e] at h
  rw [Blk, h] at hb
  cases hb
theorem MapB.ext1 {β : Type} {w w' : World} {r b T : Nat} {L : List Value} {enc : β → Value} {f : List UInt8 → Option β} (h : MapB w r enc f) (hE : Ext (One b) w w') (hb : Blk w b T L) : MapB w' r enc f := h.ext hE (h.ne hb)
theorem MapB.extOwn {β : Type} {w w' : World} {r : Nat} {enc : β → Value} {f : List UInt8 → Option β} (h : MapB w r enc f) {p : Option Addr} {n c T sz : Nat} {xs : List Value} (ho : Own w p n c T sz xs) (hE : Ext (OwnB p) w w') : MapB w' r enc f :=
  h.ext hE fun hx => by
    rcases ho with ⟨hp, _⟩ | ⟨b, l, hp, hb, _⟩
    · rw [hp] at hx; cases hx
    · rw [hp] at hx
      obtain rfl : b = r := by simpa using hx
      exact h.ne hb rfl

section
variable {P : Program} {I : Info} {f : Fs} {ops : Array Oper} {o : Oper} {env : Env} {w : World} {K : Env → World → Prop}

theorem ext_setMap {w : World} {r : Nat} {es : Array MapEntry} {c : Nat} (h : w.heap[r]? = some (.map es c)) (es' : Array MapEntry) (c' : Nat) :
    Ext (One r) w { w with heap := w.heap.setIfInBounds r (.map es' c') } ∧ ({ w with heap := w.heap.setIfInBounds r (.map es' c') } : World).heap.size = w.heap.size ∧ ({ w with heap := w.heap.setIfInBounds r (.map es' c') } : World).heap[r]? = some (.map es' c') := by
  have hlt : r < w.heap.size := by
    rcases Nat.lt_or_ge r w.heap.size with h' | h'
    · exact h'
    · rw [Array.getElem?_eq_none h'] at h; cases h
  refine ⟨⟨rfl, rfl, rfl, by simp, fun b hb hS => ?_⟩, by simp, by simp [hlt]⟩
  exact Array.getElem?_setIfInBounds_ne (fun e' => hS e'.symm)

/-- a map is made -/
def mmE (n : Nat) (ops : Array Oper) (env : Env) (o : Oper) : Option Nat :=
  match pre n ops env o with
  | false => none
  | true => match o.dst with
    | some d => match o.op with
      | .makeMap _ none => some d
      | _ => none
    | none => none
theorem st_mm {β : Type} (enc : β → Value) {d : Nat} (h : mmE f.n ops env o = some d)
    (k : ∀ (r : Nat) w', w.heap.size ≤ r → MapB w' r enc (fun _ => none) → Ext No w w' → w'.heap.size = w.heap.size + 1 → K ((d, .map (some r)) :: env) w') : St P f ops o env w K := by
  unfold mmE at h
  split at h
  · cases h
  · rename_i hp
    obtain ⟨h1, h2⟩ := pre_eq hp
    split at h
    · rename_i d' hd
      split at h
      · rename_i t ho
        cases h
        refine st_v h1 h2 (v := .map (some w.heap.size)) (w' := w.alloc (.map #[] 0)) (fun ρ hρ => ?_) ?_
        · simp only [execOp, ho, Option.map_none, Sem.run_bind]
          rfl
        · rw [hd]
          refine k _ _ (Nat.le_refl _) ⟨#[], 0, ?_, ?_, ?_, ?_⟩ ⟨rfl, rfl, rfl, by simp, fun b hb _ => ?_⟩ (by simp)
          · show (w.heap.push _)[w.heap.size]? = _
            simp
          · intro e he; simp at he
          · intro x b hb; cases hb
          · simp
          · show (w.heap.push _)[b]? = _
            rw [Array.getElem?_push, if_neg (by omega)]
      · cases h
    · cases h

/-- what stands under a key -/
def luE (I : Info) (n : Nat) (ops : Array Oper) (env : Env) (o : Oper) : Option (Nat × Value × Nat × Value × Bool × Nat) :=
  match pre n ops env o with
  | false => none
  | true => match o.dst with
    | some d => match o.op with
      | .lookup t x j ok => match lkT I t with
        | some y => match y.desc with
          | .map k e => match lkT I e with
            | some g => match evO env x with
              | some (.map (some r)) => match evO env j with
                | some v => some (k, g.zero, r, v, ok, d)
                | none => none
              | _ => none
            | none => none
          | _ => none
        | none => none
      | _ => none
    | none => none
theorem MapB.keys {β : Type} {k : TypeId} (hK : IdKey P k) {es : List MapEntry} {enc : β → Value} {g : List UInt8 → Option β} (h : ∀ e ∈ es, ∃ x b, x.length = 32 ∧ e.key = idV x ∧ e.val = enc b ∧ g x = some b) : ∀ e ∈ es, ∃ l, keyOf P k e.key = some l := fun e he => by
  obtain ⟨x, b, hx, h1, _⟩ := h e he
  rw [h1]
  exact hK.key x hx
def tell {β : Type} (enc : β → Value) (z : Value) (o : Option β) : Value := match o with | some b => enc b | none => z
theorem st_lu {β : Type} (hI : I.Ok P) {k r d : Nat} {z v : Value} {ok : Bool} (h : luE I f.n ops env o = some (k, z, r, v, ok, d)) (hK : IdKey P k) {x : List UInt8} (hx : x.length = 32) (hv : v = idV x) {enc : β → Value} {g : List UInt8 → Option β} (hm : MapB w r enc g)
    (kk : K ((d, if ok then .tuple #[tell enc z (g x), .bool (g x).isSome] else tell enc z (g x)) :: env) w) : St P f ops o env w K := by
  subst hv
  unfold luE at h
  split at h
  · cases h
  · rename_i hp
    obtain ⟨h1, h2⟩ := pre_eq hp
    split at h
    · rename_i d' hd
      split at h
      · rename_i t xx j ok' ho
        split at h
        · rename_i y hy
          split at h
          · rename_i k' e he
            split at h
            · rename_i gg hgg
              split at h
              · rename_i r' hxx
                split at h
                · rename_i v' hj
                  simp only [Option.some.injEq, Prod.mk.injEq] at h
                  obtain ⟨rfl, rfl, rfl, rfl, rfl, rfl⟩ := h
                  have hu := (hI.get hy).under w
                  rw [he] at hu
                  have hz := (hI.get hgg).zeroValue w
                  obtain ⟨es, c, hh, a1, a2, a3⟩ := hm
                  obtain ⟨l, hl⟩ := hK.key x hx
                  have hfind := hK.law.find w hl es.toList (MapB.keys hK a1)
                  have hchk := hK.law.check w es.isEmpty hl
                  refine st_v h1 h2 (w' := w) (v := if ok' then .tuple #[tell enc gg.zero (g x), .bool (g x).isSome] else tell enc gg.zero (g x)) (fun ρ hρ => ?_) (by rw [hd]; exact kk)
                  have hlook : (Instr.lookup t (.map (some r')) (idV x) ok').run P w = .ok (if ok' then .tuple #[tell enc gg.zero (g x), .bool (g x).isSome] else tell enc gg.zero (g x)) w := by
                    unfold Instr.lookup
                    rw [run_under_bind hu]
                    rcases hfind with ⟨f1, f2⟩ | ⟨j', e0, f1, f2, f3⟩
                    · have hg : g x = none := by
                        cases hgx : g x with
                        | none => rfl
                        | some b =>
                          obtain ⟨e, he, hk⟩ := a2 x b hgx
                          exact absurd hk (f2 e he)
                      simp only [Sem.run_bind, MapKept.run_getObj_map hh, Sem.run_pure, Result.andThen_ok, hchk, f1, hz, hg, tell, Option.isSome]
                    · have hmem : e0 ∈ es.toList := List.mem_of_getElem? f2
                      obtain ⟨x', b, _, k1, k2, k3⟩ := a1 e0 hmem
                      have : x' = x := idV_inj (k1.symm.trans f3)
                      subst this
                      simp only [Sem.run_bind, MapKept.run_getObj_map hh, Sem.run_pure, Result.andThen_ok, hchk, f1, k2, k3, tell, Option.isSome]
                  simp only [execOp, ho, hρ _ _ hxx, hρ _ _ hj, Sem.run_bind, hlook, Result.andThen_ok, Sem.run_pure]
                · cases h
              · cases h
            · cases h
          · cases h
        · cases h
      · cases h
    · cases h

/-- what is set under a key -/
def muE (I : Info) (n : Nat) (ops : Array Oper) (env : Env) (o : Oper) : Option (Nat × Nat × Value × Value) :=
  match pre n ops env o with
  | false => none
  | true => match o.dst with
    | none => match o.op with
      | .mapUpdate t x j u => match lkT I t with
        | some y => match y.desc with
          | .map k _ => match evO env x with
            | some (.map (some r)) => match evO env j with
              | some v => match evO env u with
                | some b => some (k, r, v, b)
                | none => none
              | none => none
            | _ => none
          | _ => none
        | none => none
      | _ => none
    | some _ => none
def setM {β : Type} (g : List UInt8 → Option β) (x : List UInt8) (b : β) : List UInt8 → Option β := fun y => if y = x then some b else g y
theorem st_mu {β : Type} (hI : I.Ok P) {k r : Nat} {v u : Value} (h : muE I f.n ops env o = some (k, r, v, u)) (hK : IdKey P k) {x : List UInt8} (hx : x.length = 32) (hv : v = idV x) {enc : β → Value} {g : List UInt8 → Option β} (hm : MapB w r enc g) {b : β} (hb : u = enc b)
    (kk : ∀ w', MapB w' r enc (setM g x b) → Ext (One r) w w' → w'.heap.size = w.heap.size → K env w') : St P f ops o env w K := by
  subst hv
  subst hb
  unfold muE at h
  split at h
  · cases h
  · rename_i hp
    obtain ⟨h1, h2⟩ := pre_eq hp
    split at h
    · rename_i hd
      split at h
      · rename_i t xx j uu ho
        split at h
        · rename_i y hy
          split at h
          · rename_i k' e he
            split at h
            · rename_i r' hxx
              split at h
              · rename_i v' hj
                split at h
                · rename_i u' huu
                  simp only [Option.some.injEq, Prod.mk.injEq] at h
                  obtain ⟨rfl, rfl, rfl, rfl⟩ := h
                  have hu := (hI.get hy).under w
                  rw [he] at hu
                  obtain ⟨es, c, hh, a1, a2, a3⟩ := hm
                  obtain ⟨l, hl⟩ := hK.key x hx
                  have hfind := hK.law.find w hl es.toList (MapB.keys hK a1)
                  have hchk := hK.law.check w false hl
                  obtain ⟨es', c', hr, hM⟩ : ∃ es' c', (Instr.mapUpdate t (.map (some r')) (idV x) (enc b)).run P w = .ok () { w with heap := w.heap.setIfInBounds r' (.map es' c') } ∧
                      ((∀ e ∈ es'.toList, ∃ y b', y.length = 32 ∧ e.key = idV y ∧ e.val = enc b' ∧ setM g x b y = some b') ∧ (∀ y b', setM g x b y = some b' → ∃ e ∈ es'.toList, e.key = idV y) ∧ (es'.toList.map (·.key)).Nodup) := by
                    rcases hfind with ⟨f1, f2⟩ | ⟨j', e0, f1, f2, f3⟩
                    · refine ⟨es.push ⟨idV x, enc b, c⟩, c + 1, ?_, ?_, ?_, ?_⟩
                      · unfold Instr.mapUpdate
                        rw [run_under_bind hu]
                        simp [MapKept.run_getObj_map hh, hchk, f1, MapKept.run_setObj_map _ hh, Result.andThen]
                      · intro e he
                        simp only [Array.toList_push, List.mem_append, List.mem_singleton] at he
                        rcases he with he | rfl
                        · obtain ⟨y, b', q1, q2, q3, q4⟩ := a1 e he
                          refine ⟨y, b', q1, q2, q3, ?_⟩
                          rw [setM, if_neg fun e1 => f2 e he (by rw [q2, e1])]
                          exact q4
                        · exact ⟨x, b, hx, rfl, rfl, if_pos rfl⟩
                      · intro y b' hy'
                        by_cases e1 : y = x
                        · exact ⟨⟨idV x, enc b, c⟩, by simp, by rw [e1]⟩
                        · rw [setM, if_neg e1] at hy'
                          obtain ⟨e, he, hk⟩ := a2 y b' hy'
                          exact ⟨e, by simp [Array.mem_toList_iff.1 he], hk⟩
                      · rw [Array.toList_push, List.map_append, List.nodup_append]
                        refine ⟨a3, by simp, fun q hq q' hq' e1 => ?_⟩
                        simp only [List.map_cons, List.map_nil, List.mem_singleton] at hq'
                        obtain ⟨e, he, rfl⟩ := List.mem_map.1 hq
                        exact f2 e he (e1.trans hq')
                    · have hj' : es[j']? = some e0 := by simpa using f2
                      have hjl : j' < es.toList.length := (List.getElem?_eq_some_iff.1 f2).1
                      have hlist : (es.modify j' (fun e' => { e' with key := idV x, val := enc b })).toList = es.toList.set j' { e0 with key := idV x, val := enc b } := by rw [Array.toList_modify, ChangeMaps.modify_eq_set _ _ _ _ f2]
                      have hkeys : (es.toList.set j' { e0 with key := idV x, val := enc b }).map (·.key) = es.toList.map (·.key) := by
                        rw [List.map_set]
                        refine List.ext_getElem? fun i => ?_
                        rw [List.getElem?_set]
                        split
                        · rename_i hij
                          subst hij
                          rw [List.getElem?_map, f2]
                          have hjs : j' < es.size := by simpa using hjl
                          simp [hjs, f3]
                        · rfl
                      have hmem : e0 ∈ es.toList := List.mem_of_getElem? f2
                      refine ⟨es.modify j' (fun e' => { e' with key := idV x, val := enc b }), c, ?_, ?_, ?_, ?_⟩
                      · unfold Instr.mapUpdate
                        rw [run_under_bind hu]
                        simp [MapKept.run_getObj_map hh, hchk, f1, hj', f3, hK.law.stays w hl, MapKept.run_setObj_map _ hh, Result.andThen]
                      · rw [hlist]
                        intro e he
                        obtain ⟨i, hi, rfl⟩ := List.mem_iff_getElem.1 he
                        rw [List.length_set] at hi
                        by_cases hij : j' = i
                        · subst hij
                          rw [List.getElem_set_self]
                          exact ⟨x, b, hx, rfl, rfl, if_pos rfl⟩
                        · rw [List.getElem_set_ne hij]
                          obtain ⟨y, b', q1, q2, q3, q4⟩ := a1 _ (List.getElem_mem hi)
                          refine ⟨y, b', q1, q2, q3, ?_⟩
                          rw [setM, if_neg fun e1 => ?_]
                          · exact q4
                          · rw [e1, ← f3] at q2
                            have h6 := List.pairwise_iff_getElem.1 a3
                            have h7 := (List.getElem?_eq_some_iff.1 f2).2
                            rcases Nat.lt_or_gt_of_ne hij with hlt | hlt
                            · refine h6 j' i (by simpa using hjl) (by simpa using hi) hlt ?_
                              simp only [List.getElem_map]
                              rw [h7, q2]
                            · refine h6 i j' (by simpa using hi) (by simpa using hjl) hlt ?_
                              simp only [List.getElem_map]
                              rw [h7, q2]
                      · rw [hlist]
                        intro y b' hy'
                        by_cases e1 : y = x
                        · exact ⟨{ e0 with key := idV x, val := enc b }, List.mem_iff_getElem.2 ⟨j', by rw [List.length_set]; exact hjl, List.getElem_set_self _⟩, by rw [e1]⟩
                        · rw [setM, if_neg e1] at hy'
                          obtain ⟨e, he, hk⟩ := a2 y b' hy'
                          have : e.key ∈ (es.toList.set j' { e0 with key := idV x, val := enc b }).map (·.key) := by rw [hkeys]; exact List.mem_map.2 ⟨e, he, rfl⟩
                          obtain ⟨e', he', hk'⟩ := List.mem_map.1 this
                          exact ⟨e', he', hk'.trans hk⟩
                      · rw [hlist, hkeys]
                        exact a3
                  obtain ⟨m1, m2, m3⟩ := ext_setMap hh es' c'
                  refine st_s h1 h2 (fun ρ hρ => ?_) (by rw [hd]; exact kk _ ⟨es', c', m3, hM⟩ m1 m2)
                  simp only [execOp, ho, hρ _ _ hxx, hρ _ _ hj, hρ _ _ huu, Sem.run_bind, hr, Result.andThen_ok, Sem.run_pure]
                · cases h
              · cases h
            · cases h
          · cases h
        · cases h
      · cases h
    · cases h
end
end Go.Vc
namespace Go.Vc

/-- the widest fence, in a round or in none -/
inductive WideF : Fence → Prop where
  | none : WideF Fence.wide
  | round (l : Nat) : WideF (Fence.wide.inRound l)
section
variable {F : Fence} {n : Nat} {P : Program}
theorem WideF.fn (h : WideF F) (g : FuncId) : F.fn g := by cases h <;> trivial
theorem WideF.depth (h : WideF F) : F.depth.isSome = true → 1 ≤ n := by cases h <;> (intro h; cases h)
theorem WideF.calls (h : WideF F) {f : FuncId} {args : Array Value} {w : World} {R : Ending → World → Prop} (hc : Calls P f args w R) : CallsIn F n P f args w R := by
  cases h with
  | none => exact callsIn_wide.2 hc
  | round l => exact (callsIn_wide (n := n)).2 hc
theorem WideF.rows (h : WideF F) {row : String} {args : Array Value} {w : World} {R : Value → World → Prop} (hc : Rows P row args w R) : RowsIn F n P row args w R := by
  have key : RowsIn Fence.wide n P row args w R := fun c cs _ => by
    obtain ⟨v, w', r, s⟩ := hc c cs
    exact ⟨v, w', r, stepsIn_wide.2 s⟩
  cases h with
  | none => exact key
  | round l => exact key
def nd : Op → Bool
  | .defer _ => false
  | _ => true
theorem upon_in (hF : WideF F) {o : Oper} {a : Act} {next : Act → World → Prop} {Q : Exit → Act → World → Prop} {r : Result Next} (h : o.upon P a next (fun _ _ _ => False) r) : o.uponIn F n P a next Q r := by
  cases r with
  | ok x w' =>
    cases x <;> simp only [Oper.upon, Oper.uponIn] at h ⊢
    all_goals first
      | exact h
      | exact h.elim
      | exact ⟨hF.depth, (hF.calls h).mono fun e w' he => by
          cases e
          · exact he
          · exact he.elim
          · obtain ⟨_, _, hf⟩ := he
            exact hf.elim⟩
      | exact ⟨hF.depth, hF.rows h⟩
  | halt x w' =>
    cases x <;> simp only [Oper.upon] at h ⊢
    all_goals first
      | exact h
      | exact h.elim
end

/-- a list of operations, walked within a fence -/
def WLI (F : Fence) (n : Nat) (P : Program) (f : Fs) (ops : Array Oper) (Q : XPost) (l : List Oper) (env : Env) (w : World) : Prop := ∀ a, Ag f env a → wpListIn F n P ops Q l a w
section
variable {F : Fence} {n : Nat} {P : Program} {I : Info} {f : Fs} {ops : Array Oper} {Q : XPost} {o : Oper} {rest l : List Oper} {env : Env} {w : World}
theorem wli (hF : WideF F) (hnd : nd o.op = true) (h : St P f ops o env w (WLI F n P f ops Q rest)) : WLI F n P f ops Q (o :: rest) env w := by
  intro a ha
  have h1 := h a (fun _ _ _ => False) (wpListIn F n P ops Q rest) ha fun _ a' _ ha' k => k a' ha'
  unfold wpListIn
  split at h1
  · rename_i hw
    rw [if_pos hw]
    rcases h1 with h1 | ⟨_, _, _, hf⟩
    · refine ⟨fun g _ => hF.fn g, ?_⟩
      rw [Oper.semAt_eq _ _ _ (fun c e => by rw [e] at hnd; cases hnd)]
      exact upon_in hF h1
    · exact hf.elim
  · rename_i hw
    rw [if_neg hw]
    exact ⟨fun g _ => hF.fn g, h1⟩
theorem wli_nil (h : Fin f Q .normal env w) : WLI F n P f ops Q [] env w := fun a ha => h a ha
def nds (l : List Oper) : Bool := l.all fun o => nd o.op
theorem nds_cons (h : nds (o :: l) = true) : nd o.op = true ∧ nds l = true := by simpa [nds] using h
theorem wli_p (hF : WideF F) (hI : I.Ok P) {l' : List Oper} {env' : Env} (hn : nds l = true) (h : pevs I f.n l env = some (l', env')) (k : WLI F n P f ops Q l' env' w) : WLI F n P f ops Q l env w := by
  induction l generalizing env with
  | nil => simp [pevs] at h; obtain ⟨rfl, rfl⟩ := h; exact k
  | cons o r ih =>
    simp only [pevs] at h
    split at h
    · simp at h; obtain ⟨rfl, rfl⟩ := h; exact k
    · rename_i hg
      split at h
      · simp at h; obtain ⟨rfl, rfl⟩ := h; exact k
      · rename_i v hv
        split at h
        · rename_i e he
          obtain ⟨hd, rfl⟩ := pushO_eq he
          exact wli hF (nds_cons hn).1 (st_v (by simp [takes, hg]) hd (pev_sound hI hv w) (ih (nds_cons hn).2 h))
        · cases h
theorem wli_pk (hF : WideF F) (hI : I.Ok P) (m : Nat) {l' : List Oper} {env' : Env} (hn : nds l = true) (h : pevsN I f.n ops m l env = some (l', env')) (k : WLI F n P f ops Q l' env' w) : WLI F n P f ops Q l env w := by
  induction m generalizing env l with
  | zero => simp [pevsN] at h; obtain ⟨rfl, rfl⟩ := h; exact k
  | succ m ih =>
    cases l with
    | nil => simp [pevsN] at h; obtain ⟨rfl, rfl⟩ := h; exact k
    | cons o r =>
      simp only [pevsN] at h
      split at h
      · rename_i hp
        split at h
        · rename_i e he
          obtain ⟨hd, rfl⟩ := pushO_eq he
          exact wli hF (nds_cons hn).1 (st_pass hp hd (ih (nds_cons hn).2 h))
        · cases h
      · split at h
        · cases h
        · rename_i ht
          split at h
          · cases h
          · rename_i v hv
            split at h
            · rename_i e he
              obtain ⟨hd, rfl⟩ := pushO_eq he
              exact wli hF (nds_cons hn).1 (st_v ht hd (pev_sound hI hv w) (ih (nds_cons hn).2 h))
            · cases h
theorem wli_case (d : Nat) {b : Bool} (hd : lk env d = some (.bool b)) (ht : b = true → WLI F n P f ops Q l ((d, .bool true) :: env) w) (hf : b = false → WLI F n P f ops Q l ((d, .bool false) :: env) w) : WLI F n P f ops Q l env w := by
  cases b
  · exact fun a ha => hf rfl a ⟨ha.defers, ha.size, fun i u hi => by
      rw [lk_cons] at hi
      split at hi
      · rename_i e; subst e; simp at hi; subst hi; exact ha.get _ _ hd
      · exact ha.get _ _ hi⟩
  · exact fun a ha => ht rfl a ⟨ha.defers, ha.size, fun i u hi => by
      rw [lk_cons] at hi
      split at hi
      · rename_i e; subst e; simp at hi; subst hi; exact ha.get _ _ hd
      · exact ha.get _ _ hi⟩
theorem wli_caseD (d : Nat) {p : Prop} [Decidable p] (hd : lk env d = some (.bool (decide p))) (ht : p → WLI F n P f ops Q l ((d, .bool true) :: env) w) (hf : ¬ p → WLI F n P f ops Q l ((d, .bool false) :: env) w) : WLI F n P f ops Q l env w :=
  wli_case d hd (fun h => ht (of_decide_eq_true h)) (fun h => hf (of_decide_eq_false h))
theorem c_regionI {id : Nat} {l : List Oper} (h : WLI Fence.wide 9 P f l.toArray Q l env w) : WC P f (.region id l.toArray false) Q env w := fun a ha => wpIn_wide.1 (wpIn_region_lit (h a ha))

/-- the call of a yield -/
theorem wli_yield {g : Nat} {x : Operand} {xs : Array Operand} {ts : Array TypeId} {d : Nat} {vs : List Value} {R : Bool → World → Prop} (ho : o.op = .call { callee := .value x, args := xs, argTypes := ts })
    (hg : takes ops env o = true) (hd : o.dst = some d) (hdn : Nat.blt d f.n = true) (hx : evO env x = some (.func (.yield g) #[] #[])) (hvs : evs env xs.toList = some vs)
    (hY : YieldAt Fence.wide (n - 1) P g vs.toArray w fun e w' => ∃ b, e = .returned (.bool b) ∧ R b w') (k : ∀ b w', R b w' → WLI Fence.wide n P f ops Q rest ((d, .bool b) :: env) w') : WLI Fence.wide n P f ops Q (o :: rest) env w := by
  intro a ha
  unfold wpListIn
  rw [if_pos (takes_wanted ha hg)]
  have hevs : ∀ (l : List Operand) vs, evs env l = some vs → l.map a.eval = vs := by
    intro l
    induction l with
    | nil => intro vs h; simp [evs] at h; subst h; rfl
    | cons y r ih =>
      intro vs h
      simp only [evs] at h
      split at h
      · rename_i u hu
        split at h
        · rename_i l' hl'
          simp at h; subst h
          simp [ha.eval hu, ih _ hl']
        · simp at h
      · simp at h
  have h1 : xs.map a.eval = vs.toArray := by
    apply Array.ext'
    rw [Array.toList_map, hevs _ _ hvs]
  obtain ⟨fn, tmps, assign, body, hr, hR⟩ := hY
  have hrun : (execOp a.eval o).run P w = .ok (.round g fn tmps assign body) w := by
    simp only [execOp, ho, resolve, h1, ha.eval hx, Deferred.ofValue, Sem.run_bind, Sem.run_pure, Result.andThen_ok, invoke]
    simpa using hr
  refine ⟨fun _ _ => trivial, ?_⟩
  rw [Oper.semAt_eq _ _ _ (fun c e => by rw [ho] at e; cases e), hrun, Oper.uponIn_round]
  refine ⟨fun h => (by cases h), hR.mono ?_⟩
  rintro e w' ⟨b, rfl, hb⟩
  refine k b w' hb _ ?_
  have := ha.put (dst := some d) (v := .bool b) (by rw [dOk]; exact hdn)
  rw [hd]
  exact this
end

/-! ### The loop's record, and worlds -/
def notCells : Obj → Bool
  | .cells .. => false
  | _ => true
theorem froz_not {w : World} {r : Nat} {o : Obj} (h : w.heap[r]? = some o) (ho : notCells o = true) (a : Addr) (ha : a.block = r) : w.frozen? a = false := by
  subst ha
  unfold World.frozen?
  rw [h]
  cases o <;> first | rfl | cases ho
theorem Ext.putObj {w : World} {r : Nat} {o : Obj} (_ : w.heap[r]? = some o) (_ : notCells o = true) {o' : Obj} (_ : notCells o' = true) : Ext (One r) w (w.putObj r o') :=
  ⟨rfl, rfl, rfl, by simp, fun b _ hS => World.putObj_heap_other hS⟩
theorem Ext.allocObj (w : World) {o : Obj} (_ : notCells o = true) : Ext No w (w.alloc o) := by
  refine ⟨rfl, rfl, rfl, by simp, fun b hb _ => ?_⟩
  show (w.heap.push _)[b]? = _
  rw [Array.getElem?_push, if_neg (by omega)]
/-- the statement: its record and the mark are laid; the function is called with yield; and behind it -/
theorem c_range {P : Program} {f : Fs} {Q : XPost} {env : Env} {w : World} {g : Operand} {ps : Array Tmp} {assign body : Code} {gf : Nat} {cap : Array Value}
    (hg : evO env g = some (.func (.func gf) #[] cap)) (hcf : ∀ args w, (callFunc gf args).run P w = .ok (.enter gf args) w)
    (H : ∀ (fn : FuncId) (a : Act), Ag f env a → ∀ rec : LoopState → Option Code → Loop, rec = (fun st pe => { state := st, pending := pe, fn, tmps := a.tmps, params := ps, assign, body, defers := w.heap.size }) →
      ∀ w1, Ext No w w1 → w1.heap[w.heap.size + 1]? = some (.loop (rec .ready none)) → w1.heap[w.heap.size]? = some (.deferred (some [])) → w1.heap.size = w.heap.size + 2 →
      CallsV P gf (.func (.yield (w.heap.size + 1)) #[] #[] :: cap.toList) w1 fun _ w2 => w2.heap[w.heap.size + 1]? = some (.loop (rec .ready none)) ∧ w2.heap[w.heap.size]? = some (.deferred (some [])) ∧
        ∀ w3, Ext (One (w.heap.size + 1)) w2 w3 → w3.heap[w.heap.size]? = some (.deferred (some [])) → Fin ⟨f.n, { target := .collected w.heap.size, args := #[] } :: f.ds⟩ Q .normal env w3) :
    WC P f (.rangeFunc g ps assign body) Q env w := by
  intro a ha
  refine (wpIn_wide (n := 9)).1 (wpIn_rangeFunc fun fn _ => ?_)
  obtain ⟨rec, hrec⟩ : ∃ rec : LoopState → Option Code → Loop, rec = fun st pe => { state := st, pending := pe, fn, tmps := a.tmps, params := ps, assign, body, defers := w.heap.size } := ⟨_, rfl⟩
  have e0 : Ext No w (w.alloc (.deferred (some []))) := Ext.allocObj w rfl
  have e1 : Ext No (w.alloc (.deferred (some []))) ((w.alloc (.deferred (some []))).alloc (.loop (rec .ready none))) := Ext.allocObj _ rfl
  have hL : ((w.alloc (.deferred (some []))).alloc (.loop (rec .ready none))).heap[w.heap.size + 1]? = some (.loop (rec .ready none)) := by
    have := World.alloc_heap_new (w.alloc (.deferred (some []))) (.loop (rec .ready none)); rwa [World.size_alloc] at this
  have hD : ((w.alloc (.deferred (some []))).alloc (.loop (rec .ready none))).heap[w.heap.size]? = some (.deferred (some [])) :=
    (e1.same _ (by simp) id).trans (World.alloc_heap_new w _)
  refine ⟨w.heap.size + 1, [{ target := .collected w.heap.size, args := #[] }], (w.alloc (.deferred (some []))).alloc (.loop (rec .ready none)), { target := .fn (.func gf) cap, args := #[.func (.yield (w.heap.size + 1)) #[] #[]] }, (w.alloc (.deferred (some []))).alloc (.loop (rec .ready none)), gf,
    #[.func (.yield (w.heap.size + 1)) #[] #[]] ++ cap, (w.alloc (.deferred (some []))).alloc (.loop (rec .ready none)), ?_, ?_, fun _ _ => trivial, ?_, fun h => (by cases h), ?_⟩
  · rw [hrec]; exact run_enterLoop_outer _ _ _ _ _
  · have hev := ha.eval hg
    simp only [resolve, hev]
    simp [Deferred.ofValue, Act.eval]
  · simp [invoke, hcf]
  · have hc := H fn a ha rec hrec _ (e0.thenNo e1) hL hD (by simp)
    have e2 : (#[.func (.yield (w.heap.size + 1)) #[] #[]] ++ cap : Array Value) = (.func (.yield (w.heap.size + 1)) #[] #[] :: cap.toList).toArray := by
      apply Array.ext'; simp
    rw [e2]
    refine (WideF.none.calls hc).mono ?_
    rintro e w2 he
    cases e with
    | returned v =>
      obtain ⟨hl2, hd2, hk⟩ := he
      have hend := run_endLoop (P := P) hl2 (by rw [hrec]; simp)
      refine ⟨none, _, by rw [show (none : Option Code) = (rec .ready none).pending from by rw [hrec]]; exact hend, ?_⟩
      refine hk _ (Ext.putObj hl2 rfl rfl) ?_ _ ⟨?_, ha.size, ha.get⟩
      · exact (World.putObj_heap_other (by omega)).trans hd2
      · simp [ha.defers]
    | panicked ch => exact he.elim
    | outgrown => exact he.elim
/-- a function's contract, where its body holds such a statement -/
theorem calls_enterM {P : Program} {g : FuncId} {fn : Func} {c : Code} {args : List Value} {w : World} {R : Value → World → Prop} {n : Nat} {env : Env}
    (hf : P.funcs[g]? = some fn) (hb : fn.body = some c) (hn : fn.ntmps = n) (hl : Nat.ble args.length n = true) (he : envO 0 args = some env) (h : WC P ⟨n, []⟩ c (bodyPostM Fence.wide 9 P fn (Rv R)) env w) : CallsV P g args w R := by
  refine callsIn_wide.1 (callsIn_of_wp_marks (n := 9) hf hb trivial (wpIn_wide.2 (h _ ⟨rfl, ?_, fun i v hi => ?_⟩)))
  · have : args.length ≤ n := Nat.le_of_ble_eq_true hl
    simp only [hn, Array.size_append, List.size_toArray, Array.size_replicate]
    omega
  · have := (envO_lk he i v hi).2
    simp only [Nat.sub_zero] at this
    have hlt : i < args.length := by
      rcases Nat.lt_or_ge i args.length with h' | h'
      · exact h'
      · simp [List.getElem?_eq_none h'] at this
    simp only [hn]
    rw [Array.getElem?_append_left (by simpa using hlt)]
    simpa using this
theorem f_retM {P : Program} {n D t : Nat} {fn : Func} {R : Value → World → Prop} {env : Env} {w : World} {v : Value} (hr : fn.results = #[.tmp t]) (hv : lk env t = some v) (hD : w.heap[D]? = some (.deferred (some []))) (k : ∀ w', Ext (One D) w w' → R v w') :
    Fin ⟨n, [{ target := .collected D, args := #[] }]⟩ (bodyPostM Fence.wide 9 P fn (Rv R)) .ret env w := by
  intro a ha
  show LeavesInM Fence.wide 9 P fn a.tmps (Rv R) a.defers .returning w
  rw [ha.defers]
  refine ⟨by simp, .inl ⟨D, _, rfl, run_takeDeferred hD, ?_⟩⟩
  refine ⟨_, results_tmp hr _ _ _, ?_⟩
  have : a.tmps.getD t undef = v := by
    have := ha.get _ _ hv
    simp [this]
  rw [this]
  exact k _ (Ext.putObj hD rfl rfl)
/-- one round: the assignment, the body -/
def WCI (F : Fence) (n : Nat) (P : Program) (f : Fs) (c : Code) (Q : XPost) (env : Env) (w : World) : Prop := ∀ a, Ag f env a → c.wpIn F n P Q a w
section
variable {F : Fence} {n : Nat} {P : Program} {f : Fs} {Q : XPost} {env : Env} {w : World}
theorem ci_region {id : Nat} {l : List Oper} (h : WLI F n P f l.toArray Q l env w) : WCI F n P f (.region id l.toArray false) Q env w := fun a ha => wpIn_region_lit (h a ha)
theorem ci_block {id : Nat} {c : Code} (h : WCI F n P f c (Exit.inBlock id Q) env w) : WCI F n P f (.block id c) Q env w := fun a ha => wpIn_block (h a ha)
theorem round_of {l m t : Nat} {W : World} {r : Loop} {v : Value} {R : Bool → World → Prop} (hl : W.heap[l]? = some (.loop r)) (_hr : r.state = .ready) (hp : r.params = #[t]) {a : Act} (hat : r.tmps = a.tmps) (ha : Ag f env a) (ht : t < f.n)
    (h : WCI (Fence.wide.inRound l) m P ⟨f.n, []⟩ r.assign (Exit.then (fun a1 w1 => ∃ w2, (Instr.beginRound l).run P w1 = .ok () w2 ∧ r.body.wpIn (Fence.wide.inRound l) m P (roundPost P l fun e w' => ∃ b, e = .returned (.bool b) ∧ R b w') a1 w2) (fun _ _ _ => False)) ((t, v) :: env) W) :
    YieldAt Fence.wide m P l #[v] W fun e w' => ∃ b, e = .returned (.bool b) ∧ R b w' := by
  have hy := run_yield (P := P) (args := #[v]) hl (by rw [hp]; rfl)
  refine ⟨_, _, _, _, hy, roundIn_of_wpIn trivial (h _ ⟨rfl, ?_, fun i u hi => ?_⟩)⟩
  · rw [hp, hat]; simp [ha.size]
  · rw [hp, hat]
    rw [lk_cons] at hi
    have e0 : (Array.foldl (fun tmps (x : Tmp × Value) => tmps.setIfInBounds x.1 x.2) a.tmps (#[t].zip #[v])) = a.tmps.setIfInBounds t v := by simp
    refine (congrArg (fun z : Array Value => z[i]?) e0).trans ?_
    show (a.tmps.setIfInBounds t v)[i]? = some u
    split at hi
    · rename_i e
      subst e
      cases hi
      simp [ha.size, ht]
    · rename_i e
      simp [Array.getElem?_setIfInBounds_ne e, ha.get _ _ hi]
end
end Go.Vc
namespace Go.Vc
section
variable {P : Program} {I : Info} {f : Fs} {ops : Array Oper} {Q : XPost} {o : Oper} {rest l : List Oper} {env : Env} {w : World}
theorem wlw (hnd : nd o.op = true) (h : St P f ops o env w (WLI Fence.wide 9 P f ops Q rest)) : WLI Fence.wide 9 P f ops Q (o :: rest) env w := wli .none hnd h
theorem wlw_p (hn : nds l = true) (hI : I.Ok P) {l' : List Oper} {env' : Env} (h : pevs I f.n l env = some (l', env')) (k : WLI Fence.wide 9 P f ops Q l' env' w) : WLI Fence.wide 9 P f ops Q l env w := wli_p .none hI hn h k
theorem wlw_pk (hn : nds l = true) (hI : I.Ok P) (m : Nat) {l' : List Oper} {env' : Env} (h : pevsN I f.n ops m l env = some (l', env')) (k : WLI Fence.wide 9 P f ops Q l' env' w) : WLI Fence.wide 9 P f ops Q l env w := wli_pk .none hI m hn h k
theorem wlw_case (d : Nat) {b : Bool} (hd : lk env d = some (.bool b)) (ht : b = true → WLI Fence.wide 9 P f ops Q l ((d, .bool true) :: env) w) (hf : b = false → WLI Fence.wide 9 P f ops Q l ((d, .bool false) :: env) w) : WLI Fence.wide 9 P f ops Q l env w := wli_case d hd ht hf
theorem wlw_caseD (d : Nat) {p : Prop} [Decidable p] (hd : lk env d = some (.bool (decide p))) (ht : p → WLI Fence.wide 9 P f ops Q l ((d, .bool true) :: env) w) (hf : ¬ p → WLI Fence.wide 9 P f ops Q l ((d, .bool false) :: env) w) : WLI Fence.wide 9 P f ops Q l env w := wli_caseD d hd ht hf
end
end Go.Vc
namespace Go.Vc
section
variable {P : Program} {l : Nat} {r : Loop} {w : World}
theorem begin_round (h : w.heap[l]? = some (.loop r)) (hr : r.state = .ready) {Q : World → Prop} (k : ∀ w', Ext (One l) w w' → w'.heap[l]? = some (.loop { r with state := .busy }) → Q w') : ∃ w2, (Instr.beginRound l).run P w = .ok () w2 ∧ Q w2 :=
  ⟨_, run_beginRound h hr, k _ (Ext.putObj h rfl rfl) (World.putObj_heap_same (Array.getElem?_eq_some_iff.1 h).1)⟩
theorem end_round (h : w.heap[l]? = some (.loop { r with state := .busy })) (hr : r.state = .ready) (hp : r.pending = none) {R : Bool → World → Prop} (k : ∀ w', Ext (One l) w w' → w'.heap[l]? = some (.loop r) → R true w') :
    ∃ v w', (Instr.endRound l none).run P w = .ok v w' ∧ ∃ b, Ending.returned v = .returned (.bool b) ∧ R b w' := by
  refine ⟨_, _, run_endRound none h, true, rfl, k _ (Ext.putObj h rfl rfl) ?_⟩
  rw [World.putObj_heap_same (Array.getElem?_eq_some_iff.1 h).1]
  cases r
  cases hr
  cases hp
  rfl
end
end Go.Vc
namespace Go.Proofs.YtlfdlodcjiaiiaaGreatDoor
open Go.Vc

/-- a disk's own cells -/
abbrev dskL (sb n : Nat) (op : Option Addr) (on oc : Nat) (dead : Bool) (fu fa dn : Int) : List Value :=
  [.slice (some ⟨sb, 0, none⟩) n n, .slice op on oc, .bool dead, .int .i64 fu, .int .i64 fa, .int .i64 dn]

theorem alive_nil (w : World) : CallsV Tryz.prog 81 [.pointer none] w fun v w' => v = .int .i64 1 ∧ w' = w := by
  refine calls_enter Tryz.func81 rfl rfl rfl rfl ?_
  refine c_seq (c_region (wl_p I_ok rfl (wl_nil (f_then (c_seq (c_seq (c_region (wl_p I_ok rfl (wl_nil (f_then (c_condT rfl ?_)))))))))))
  refine c_seq (c_region (wl_p I_ok rfl (wl_nil (f_then (c_ret (f_thenR (f_ret1 rfl rfl ⟨rfl, rfl⟩)))))))

theorem alive_live (w : World) {d sb n : Nat} {op : Option Addr} {on oc : Nat} {dead : Bool} {fu fa dn : Int} (hb : Blk w d 85 (dskL sb n op on oc dead fu fa dn)) :
    CallsV Tryz.prog 81 [.pointer (some ⟨d, 0, none⟩)] w fun v w' => v = .int .i64 (if dead then 9 else 0) ∧ w' = w := by
  refine calls_enter Tryz.func81 rfl rfl rfl rfl ?_
  refine c_seq (c_region (wl_p I_ok rfl (wl_nil (f_then (c_seq (c_seq (c_region (wl_p I_ok rfl (wl_nil (f_then (c_condF rfl ?_)))))))))))
  refine c_skip (f_then (c_seq (c_seq (c_region (wl_p I_ok rfl (wl (st_ldb I_ok hb rfl rfl (wl_nil (f_then (c_cond rfl (fun h => ?_) (fun h => ?_)))))))))))
  · refine c_seq (c_region (wl_p I_ok rfl (wl_nil (f_then (c_ret (f_thenR (f_ret1 rfl rfl ⟨by simp [h], rfl⟩)))))))
  · refine c_skip (f_then (c_seq (c_region (wl_p I_ok rfl (wl_nil (f_then (c_ret (f_ret1 rfl rfl ⟨by simp [h], rfl⟩))))))))

/-- operation: what comes of it, `do` by its own contract -/
theorem operation_any (w : World) {d sb n : Nat} {op : Option Addr} {on oc : Nat} {dead : Bool} {fu fa dn : Int} (i : Int) (burns : Bool) {g : Nat} {caps : Array Value}
    (hcf : ∀ args w, (callFunc g args).run Tryz.prog w = .ok (.enter g args) w)
    (hb : Blk w d 85 (dskL sb n op on oc dead fu fa dn)) (hfu : -1 ≤ fu ∧ fu < 9223372036854775808) (hfa : -1 ≤ fa ∧ fa < 9223372036854775808) (hdn : 0 ≤ dn ∧ dn < 9223372036854775807) (R : Value → World → Prop)
    (hdead : dead = true → R (.int .i64 9) w)
    (harg : dead = false → ¬ (0 ≤ i ∧ i < n) → R (.int .i64 2) w)
    (hio : dead = false → 0 ≤ i ∧ i < n → fa = 0 → ∀ w', Blk w' d 85 (dskL sb n op on oc false fu (-1) dn) → Ext (One d) w w' → R (.int .i64 8) w')
    (hfuse : dead = false → 0 ≤ i ∧ i < n → fa ≠ 0 → burns = true → fu = 0 → ∀ w', Blk w' d 85 (dskL sb n op on oc true (-1) (faultTo fa) dn) → Ext (One d) w w' → R (.int .i64 9) w')
    (hgo : dead = false → 0 ≤ i ∧ i < n → fa ≠ 0 → ¬ (burns = true ∧ fu = 0) → ∀ w', Blk w' d 85 (dskL sb n op on oc false (fuseTo burns fu) (faultTo fa) (dn + 1)) → Ext (One d) w w' →
      CallsV Tryz.prog g ([.pointer (some ⟨sb, i.toNat * 65, none⟩)] ++ caps.toList) w' fun _ w2 => R (.int .i64 0) w2) :
    CallsV Tryz.prog 37 [.pointer (some ⟨d, 0, none⟩), .int .i64 i, .bool burns, .func (.func g) #[] caps] w R := by
  refine calls_enter Tryz.func37 rfl rfl rfl rfl ?_
  refine c_seq (c_region (wl_p I_ok rfl (wl_nil (f_then (c_seq (c_seq (c_region (wl_p I_ok rfl (wl (st_call Tryz.call81 rfl rfl rfl rfl rfl rfl (alive_live w hb) fun v1 w1 hr1 => ?_))))))))))
  obtain ⟨rfl, rfl⟩ := hr1
  cases dead
  case true =>
    refine wl_p I_ok rfl (wl_nil (f_then (c_seq (c_region (wl_p I_ok rfl (wl_nil (f_then (c_condT rfl ?_))))))))
    exact c_seq (c_region (wl_p I_ok rfl (wl_nil (f_then (c_ret (f_thenR (f_ret1 rfl rfl (hdead rfl))))))))
  refine wl_p I_ok rfl (wl_nil (f_then (c_seq (c_region (wl_p I_ok rfl (wl_nil (f_then (c_condF rfl ?_))))))))
  refine c_skip (f_then (c_seq (c_cutK (α := Bool) [0, 1, 2, 3] rfl (fun z => [(25, .bool z)]) (fun z u => u = w1 ∧ z = decide (¬ (0 ≤ i ∧ i < n))) ?_ ?_)))
  · refine c_region (wl_p I_ok rfl (wl_caseD 17 rfl (fun hg => ?_) (fun hg => ?_)))
    · refine wl_pg I_ok rfl (wl_nil (f_cut true rfl ⟨rfl, ?_⟩))
      simp; omega
    · refine wl_pg I_ok rfl (wl (st_ldb I_ok hb rfl rfl (wl_pg I_ok rfl (wl_nil (f_cut _ rfl ⟨rfl, ?_⟩)))))
      simp only [decide_eq_decide]; omega
  rintro z w ⟨rfl, rfl⟩
  refine c_if rfl (fun hc => ?_) (fun hc => ?_)
  · exact c_seq (c_region (wl_p I_ok rfl (wl_nil (f_then (c_ret (f_thenR (f_ret1 rfl rfl (harg rfl hc))))))))
  have hi : 0 ≤ i ∧ i < n := Decidable.not_not.1 hc
  refine c_skip (f_then (c_cutK (α := Unit) [0, 1, 2, 3] rfl (fun z => []) (fun z u => fa ≠ 0 ∧ Blk u d 85 (dskL sb n op on oc false fu (faultTo fa) dn) ∧ Ext (One d) w u) ?_ ?_))
  · refine c_seq ?_
    refine c_region (wl_p I_ok rfl (wl (st_ldb I_ok hb rfl rfl (wl_p I_ok rfl (wl_nil (f_then (c_if rfl (fun hc => ?_) (fun hc => ?_))))))))
    · refine c_seq ?_
      refine c_region (wl_p I_ok rfl (wl (st_ldb I_ok hb rfl rfl (wl_p I_ok rfl ?_))))
      rw [IntWalk.i64_in _ (by omega)]
      refine wl (st_st I_ok hb rfl rfl rfl fun w2 hb2 hE2 hs2 => ?_)
      refine wl_nil (f_then (c_seq (c_region (wl_p I_ok rfl (wl (st_ldb I_ok hb2 rfl rfl (wl_p I_ok rfl (wl_nil (f_then (c_if rfl (fun hc => ?_) (fun hc => ?_)))))))))))
      · refine c_seq (c_region (wl_p I_ok rfl (wl_nil (f_then (c_ret (f_thenR (f_ret1 rfl rfl ?_)))))))
        rw [hc] at hb2
        exact hio rfl hi (by omega) w2 hb2 hE2
      · refine c_skip (f_cut () rfl ⟨by omega, ?_, hE2⟩)
        rw [show faultTo fa = fa - 1 from if_neg (by omega)]
        exact hb2
    · refine c_skip (f_cut () rfl ⟨by omega, ?_, Ext.refl _ _⟩)
      rw [show faultTo fa = fa from by unfold faultTo; split <;> omega]
      exact hb
  rintro ⟨⟩ w2 ⟨hfa0, hb, hE⟩
  refine c_cutK (α := Unit) [0, 1, 3] rfl (fun z => []) (fun z u => ¬ (burns = true ∧ fu = 0) ∧ Blk u d 85 (dskL sb n op on oc false (fuseTo burns fu) (faultTo fa) dn) ∧ Ext (One d) w u) ?_ ?_
  · refine c_cutK (α := Bool) [0, 1, 3] rfl (fun z => [(50, .bool z)]) (fun z u => u = w2 ∧ z = decide (burns = true ∧ fu ≠ -1)) ?_ ?_
    · refine c_region (wl_p I_ok rfl (wl_case 44 rfl (fun hg => ?_) (fun hg => ?_)))
      · refine wl_pg I_ok rfl (wl (st_ldb I_ok hb rfl rfl (wl_pg I_ok rfl (wl_nil (f_cut _ rfl ⟨rfl, ?_⟩)))))
        simp [hg]
      · refine wl_pg I_ok rfl (wl_nil (f_cut false rfl ⟨rfl, ?_⟩))
        simp [hg]
    rintro z w3 ⟨rfl, rfl⟩
    refine c_if rfl (fun hc => ?_) (fun hc => ?_)
    · refine c_seq (c_region (wl_p I_ok rfl (wl (st_ldb I_ok hb rfl rfl (wl_p I_ok rfl ?_)))))
      rw [IntWalk.i64_in _ (by omega)]
      refine wl (st_st I_ok hb rfl rfl rfl fun w4 hb hE2 hs2 => ?_)
      refine wl_nil (f_then (c_seq (c_region (wl_p I_ok rfl (wl (st_ldb I_ok hb rfl rfl (wl_p I_ok rfl (wl (st_st I_ok hb rfl rfl rfl fun w5 hb hE3 hs3 => ?_)))))))))
      refine wl_nil (f_then (c_seq (c_region (wl_p I_ok rfl (wl (st_ldb I_ok hb rfl rfl (wl_nil (f_then (c_if rfl (fun hd => ?_) (fun hd => ?_))))))))))
      · refine c_seq (c_region (wl_p I_ok rfl (wl_nil (f_then (c_ret (f_thenR (f_ret1 rfl rfl ?_)))))))
        have e : fu = 0 := by omega
        subst e
        exact hfuse rfl hi hfa0 hc.1 rfl w5 (by simpa using hb) (hE.then (hE2.then hE3))
      · refine c_skip (f_cut () rfl ⟨by omega, ?_, hE.then (hE2.then hE3)⟩)
        rw [show fuseTo burns fu = fu - 1 from if_pos hc]
        simpa [hd] using hb
    · refine c_skip (f_cut () rfl ⟨fun h => hc ⟨h.1, by omega⟩, ?_, hE⟩)
      rw [show fuseTo burns fu = fu from if_neg hc]
      exact hb
  rintro ⟨⟩ w3 ⟨hnf, hb, hE⟩
  refine c_seq (c_region (wl_p I_ok rfl (wl (st_ldb I_ok hb rfl rfl (wl_p I_ok rfl ?_)))))
  rw [IntWalk.i64_in _ (by omega)]
  refine wl (st_st I_ok hb rfl rfl rfl fun w4 hb hE2 hs2 => ?_)
  refine wl_nil (f_then (c_seq (c_region (wl_p I_ok rfl (wl (st_ldb I_ok hb rfl rfl (wl_p I_ok rfl (wl (st_ix I_ok rfl 65 rfl i.toNat (by omega) (by omega) (i.toNat * 65) (by omega) ?_)))))))))
  refine wl (st_call hcf rfl rfl rfl rfl rfl rfl (hgo rfl hi hfa0 hnf w4 hb (hE.then hE2)) fun v3 w3 hr3 => ?_)
  exact wl_nil (f_then (c_seq (c_region (wl_p I_ok rfl (wl_nil (f_then (c_ret (f_ret1 rfl rfl hr3))))))))
end Go.Proofs.YtlfdlodcjiaiiaaGreatDoor
namespace Go.Proofs.YtlfdlodcjiaiiaaGreatDoor
open Go.Vc

def TyB (w : World) (b T : Nat) : Prop := ∃ l, Blk w b T l
theorem TyB.ext {S : Nat → Prop} {w w' : World} {b T : Nat} (h : TyB w b T) (hE : Ext S w w') (hS : ¬ S b) : TyB w' b T := let ⟨l, hl⟩ := h; ⟨l, hl.ext hE hS⟩
theorem TyB.ne {w : World} {b c T U : Nat} {l : List Value} (h : TyB w b T) (k : Blk w c U l) (hT : T ≠ U) : b ≠ c := let ⟨_, hl⟩ := h; hl.ne k hT

def bl (ws : List Bytes) : List (List Value) := ws.map bytesU
def secRow (s : Bytes) (p : Option Addr) (n c : Nat) : List Value := bytesU s ++ [.slice p n c]

/-- writes that wait, in a row that nobody writes any more; F: the blocks that belong to the disk -/
def WaitsAt (w : World) (F : Nat → Prop) (p : Option Addr) (ws : List Bytes) : Prop :=
  Sl w p ws.length 64 (bl ws).flatten ∧ ∀ b off, p = some ⟨b, off, none⟩ → F b ∧ TyB w b 37
def SecAt (w : World) (F : Nat → Prop) (s : Sec) (r : List Value) : Prop :=
  ∃ p c, r = secRow s.safe p s.waits.length c ∧ s.waits.length ≤ c ∧ s.safe.length = 64 ∧ (∀ b ∈ s.waits, b.length = 64) ∧ WaitsAt w F p s.waits

theorem WaitsAt.ext {S F : Nat → Prop} {w w' : World} {p : Option Addr} {ws : List Bytes} (h : WaitsAt w F p ws) (hE : Ext S w w') (hS : ∀ b, F b → TyB w b 37 → ¬ S b) : WaitsAt w' F p ws :=
  ⟨h.1.ext hE fun b off hp => hS b (h.2 b off hp).1 (h.2 b off hp).2, fun b off hp => ⟨(h.2 b off hp).1, (h.2 b off hp).2.ext hE (hS b (h.2 b off hp).1 (h.2 b off hp).2)⟩⟩
theorem WaitsAt.mono {F F' : Nat → Prop} {w : World} {p : Option Addr} {ws : List Bytes} (h : WaitsAt w F p ws) (hF : ∀ b, F b → F' b) : WaitsAt w F' p ws := ⟨h.1, fun b off hp => ⟨hF b (h.2 b off hp).1, (h.2 b off hp).2⟩⟩
theorem SecAt.ext {S F : Nat → Prop} {w w' : World} {s : Sec} {r : List Value} (h : SecAt w F s r) (hE : Ext S w w') (hS : ∀ b, F b → TyB w b 37 → ¬ S b) : SecAt w' F s r := by
  obtain ⟨p, c, h1, h2, h3, h4, h5⟩ := h
  exact ⟨p, c, h1, h2, h3, h4, h5.ext hE hS⟩
theorem SecAt.mono {F F' : Nat → Prop} {w : World} {s : Sec} {r : List Value} (h : SecAt w F s r) (hF : ∀ b, F b → F' b) : SecAt w F' s r := by
  obtain ⟨p, c, h1, h2, h3, h4, h5⟩ := h
  exact ⟨p, c, h1, h2, h3, h4, h5.mono hF⟩
theorem SecAt.len {w : World} {F : Nat → Prop} {s : Sec} {r : List Value} (h : SecAt w F s r) : r.length = 65 := by
  obtain ⟨p, c, rfl, _, h3, _⟩ := h
  simp [secRow, bytesU, h3]

/-- rows that are sectors -/
def RowsAt (w : World) (F : Nat → Prop) (secs : List Sec) (L : List (List Value)) : Prop :=
  L.length = secs.length ∧ ∀ (i : Nat) (s : Sec) (r : List Value), secs[i]? = some s → L[i]? = some r → SecAt w F s r
theorem RowsAt.uni {w : World} {F : Nat → Prop} {secs : List Sec} {L : List (List Value)} (h : RowsAt w F secs L) : Uni 65 L := fun r hr => by
  obtain ⟨i, hi, rfl⟩ := List.mem_iff_getElem.1 hr
  exact (h.2 i (secs[i]'(by rw [← h.1]; exact hi)) L[i] (by simp) (by simp)).len
theorem RowsAt.ext {S F : Nat → Prop} {w w' : World} {secs : List Sec} {L : List (List Value)} (h : RowsAt w F secs L) (hE : Ext S w w') (hS : ∀ b, F b → TyB w b 37 → ¬ S b) : RowsAt w' F secs L :=
  ⟨h.1, fun i s r hs hr => (h.2 i s r hs hr).ext hE hS⟩
theorem RowsAt.mono {F F' : Nat → Prop} {w : World} {secs : List Sec} {L : List (List Value)} (h : RowsAt w F secs L) (hF : ∀ b, F b → F' b) : RowsAt w F' secs L :=
  ⟨h.1, fun i s r hs hr => (h.2 i s r hs hr).mono hF⟩

abbrev orderL (l : List Nat) : List Value := l.map fun i : Nat => Value.int .i64 (i : Int)

/-- a disk: its head d, its sectors' block, its row of what waits, all its blocks F -/
structure DiskAt (w : World) (d sb : Nat) (op : Option Addr) (oc : Nat) (F : Nat → Prop) (D : Dsk) : Prop where
  head : Blk w d 85 (dskL sb D.secs.length op D.order.length oc D.dead D.fuse D.fault D.done)
  secs : ∃ L, Blk w sb 81 (List.flatten L) ∧ RowsAt w F D.secs L
  order : Own w op D.order.length oc 3 1 (orderL D.order)
  own : F d ∧ F sb ∧ ∀ x, OwnB op x → F x
  lt : ∀ x, F x → x < w.heap.size

theorem DiskAt.ext {S F : Nat → Prop} {w w' : World} {d sb oc : Nat} {op : Option Addr} {D : Dsk} (h : DiskAt w d sb op oc F D) (hE : Ext S w w') (hS : ∀ x, F x → ¬ S x) : DiskAt w' d sb op oc F D := by
  obtain ⟨L, h1, h2⟩ := h.secs
  exact ⟨h.head.ext hE (hS d h.own.1), ⟨L, h1.ext hE (hS sb h.own.2.1), h2.ext hE fun b hb _ => hS b hb⟩, h.order.ext hE fun x hx => hS x (h.own.2.2 x hx), h.own, fun x hx => Nat.lt_of_lt_of_le (h.lt x hx) hE.size⟩
theorem DiskAt.extNo {F : Nat → Prop} {w w' : World} {d sb oc : Nat} {op : Option Addr} {D : Dsk} (h : DiskAt w d sb op oc F D) (hE : Ext No w w') : DiskAt w' d sb op oc F D := h.ext hE fun _ _ => id
theorem DiskAt.extNew {F : Nat → Prop} {w w' : World} {d sb oc b : Nat} {op : Option Addr} {D : Dsk} (h : DiskAt w d sb op oc F D) (hE : Ext (One b) w w') (hb : ¬ F b) : DiskAt w' d sb op oc F D := h.ext hE fun _x hx e => hb (e ▸ hx)
/-- the row of the waiting sectors' numbers is of numbers -/
theorem Own.ty {w : World} {p : Option Addr} {n c T sz : Nat} {xs : List Value} (h : Own w p n c T sz xs) {x : Nat} (hx : OwnB p x) : TyB w x T := by
  rcases h with ⟨hp, _⟩ | ⟨b, l, hp, hb, _⟩
  · rw [hp] at hx; cases hx
  · rw [hp] at hx
    obtain rfl : b = x := by simpa using hx
    exact ⟨l, hb⟩
/-- only a disk's head has turned -/
theorem DiskAt.headTo {F : Nat → Prop} {w w' : World} {d sb oc : Nat} {op : Option Addr} {D D' : Dsk} (h : DiskAt w d sb op oc F D) (hs : D'.secs = D.secs) (ho : D'.order = D.order) (hb : Blk w' d 85 (dskL sb D.secs.length op D.order.length oc D'.dead D'.fuse D'.fault D'.done)) (hE : Ext (One d) w w') : DiskAt w' d sb op oc F D' := by
  obtain ⟨L, h1, h2⟩ := h.secs
  have e1 : RowsAt w' F D.secs L := h2.ext hE fun b _ hb e => hb.ne h.head (by decide) e
  have e2 := h.order.ext hE fun _ hx e => (Own.ty h.order hx).ne h.head (by decide) e
  exact ⟨by rw [hs, ho]; exact hb, ⟨L, h1.ext1 hE (h1.ne h.head (by decide)), by rw [hs]; exact e1⟩, by rw [ho]; exact e2, h.own, fun x hx => Nat.lt_of_lt_of_le (h.lt x hx) hE.size⟩

/-- what a sector holds -/
theorem dk_now (w : World) {sb i : Nat} {L : List (List Value)} (hb : Blk w sb 81 L.flatten) (hu : Uni 65 L) {s : Sec} {r : List Value} (hr : L[i]? = some r) {F : Nat → Prop} (hs : SecAt w F s r) (hfew : s.waits.length < 4611686018427387904) :
    CallsV Tryz.prog 39 [.pointer (some ⟨sb, i * 65, none⟩)] w fun v w' => v = numB s.now ∧ Ext No w w' := by
  obtain ⟨p, c, hrow, hc, h64, hw64, hsl, _⟩ := hs
  have hcell : w.cell? ⟨sb, i * 65 + 64, none⟩ = some (.slice p s.waits.length c) := by
    refine hb.cell ?_
    rw [rows_get hu hr (by decide), hrow]
    simp [secRow, bytesU, h64]
  have hsafe : Seg w sb (i * 65) (bytesU s.safe) := by
    have := (hb.seg.drop (i * 65)).take 64
    rw [Nat.zero_add] at this
    have e := rows_part hu hr (j := 0) (n := 64) (by decide)
    rw [Nat.add_zero] at e
    rw [e, hrow] at this
    simpa [secRow, bytesU, h64] using this
  refine calls_enter Tryz.func39 rfl rfl rfl rfl ?_
  have hX := Ext.refl No w
  refine c_seq (c_region (wl (st_al I_ok rfl fun b2 w1 hn2 hb2 hE1 => ?_)))
  have fr2 := Nat.le_trans hX.size hn2
  have hX := hX.thenNo hE1
  have hE0 := hE1
  have hcell1 := cell_ext hcell hE1 id
  have hsafe1 := hsafe.extNo hE1
  have hsl1 := hsl.extNo hE1
  refine wl_nil (f_then (c_seq (c_seq (c_region (wl_p I_ok rfl (wl (st_ld I_ok rfl hcell1 (wl_p I_ok rfl (wl_nil (f_then (c_seq (c_region (wl_p I_ok rfl (wl_nil (f_then (c_if rfl (fun hc => ?_) (fun hc => ?_)))))))))))))))))
  · have hne : s.waits ≠ [] := fun e => by rw [e] at hc; simp at hc
    obtain ⟨b0, off0, rfl, hseg⟩ := hsl1.2.resolve_left (by omega)
    have hwu : Uni 64 (bl s.waits) := Uni.map fun x hx => by simp [bytesU, hw64 x hx]
    have hlast : (bl s.waits)[s.waits.length - 1]? = some (bytesU s.now) := by
      unfold bl Sec.now
      rw [List.getElem?_map, List.getLast?_eq_getElem?]
      have : s.waits.length - 1 < s.waits.length := by omega
      simp [this]
    have hseg' : Seg w1 b0 (off0 + (s.waits.length - 1) * 64) (bytesU s.now) := by
      have := (hseg.drop ((s.waits.length - 1) * 64)).take 64
      rw [rows_row hwu hlast] at this
      exact this
    have hl64 : (bytesU s.now).length = 64 := hwu.get hlast
    refine c_seq (c_region (wl_p I_ok rfl (wl (st_ld I_ok rfl hcell1 (wl_p I_ok rfl ?_)))))
    rw [IntWalk.i64_in _ (by omega)]
    refine wl (st_ix I_ok rfl 64 rfl (s.waits.length - 1) (by omega) (by omega) (off0 + (s.waits.length - 1) * 64) rfl (wl (st_ldN I_ok rfl hseg' hl64 ?_)))
    refine wl (st_stW I_ok hb2 rfl rfl hl64 (by rw [cellsOf_agg, hl64]; rfl) one_bytes fun w2 hb2 hE2 hs2 => ?_)
    have hX := hX.thenNew hE2 fr2
    refine wl_nil (f_then (c_ret (f_thenR (f_ret [_] ⟨⟨b2, 0, rfl, ld_all I_ok rfl rfl hb2.seg hl64⟩, trivial⟩ ?_))))
    exact ⟨rfl, hX⟩
  · have he : s.waits = [] := List.eq_nil_of_length_eq_zero (by omega)
    have hnow : s.now = s.safe := by simp [Sec.now, he]
    have hl64 : (bytesU s.safe).length = 64 := by simp [bytesU, h64]
    refine c_skip ?_
    refine f_then (c_seq (c_region (wl_p I_ok rfl (wl (st_ldN I_ok rfl hsafe1 hl64 (wl (st_stW I_ok hb2 rfl rfl hl64 (by rw [cellsOf_agg, hl64]; rfl) one_bytes fun w2 hb2 hE2 hs2 => ?_)))))))
    have hX := hX.thenNew hE2 fr2
    refine wl_nil (f_then (c_ret (f_ret [_] ⟨⟨b2, 0, rfl, ld_all I_ok rfl rfl hb2.seg hl64⟩, trivial⟩ ?_)))
    exact ⟨by rw [hnow]; rfl, hX⟩

/-- Read's inner function: what the sector holds goes into b -/
theorem dk_readIn (w : World) {sb i x : Nat} {L : List (List Value)} (hb : Blk w sb 81 L.flatten) (hu : Uni 65 L) {s : Sec} {r : List Value} (hr : L[i]? = some r) {F : Nat → Prop} (hs : SecAt w F s r) (hfew : s.waits.length < 4611686018427387904) {l : List Value} (hx : Blk w x 37 l) (hl : l.length = 64) (hnow : s.now.length = 64) :
    CallsV Tryz.prog 38 ([.pointer (some ⟨sb, i * 65, none⟩)] ++ #[Value.pointer (some ⟨x, 0, none⟩)].toList) w fun _ w' => Blk w' x 37 (bytesU s.now) ∧ Ext (One x) w w' := by
  refine calls_enter Tryz.func38 rfl rfl rfl rfl ?_
  refine c_region (wl_p I_ok rfl (wl (st_call Tryz.call39 rfl rfl rfl rfl rfl rfl (dk_now w hb hu hr hs hfew) fun v1 w1 hr1 => ?_)))
  obtain ⟨rfl, hE1⟩ := hr1
  have h64 : (bytesU s.now).length = 64 := by simp [bytesU, hnow]
  refine wl (st_stW I_ok (hx.extNo hE1) rfl rfl h64 (by rw [hl]; exact h64) one_bytes fun w2 hx2 hE2 hs2 => ?_)
  refine wl_nil (f_end0 rfl ?_)
  exact ⟨hx2, hE1.no.then hE2⟩

theorem now_length {D : Dsk} {m : Nat} (hok : D.Ok m) (i : Nat) : (D.now i).length = 64 := by
  rw [Dsk.now]
  cases hs : D.secs[i]? with
  | none => exact zeros_length
  | some s =>
    have hs' := hok.safe s (List.mem_of_getElem? hs)
    simp only [Option.map_some, Option.getD_some, Sec.now]
    cases hl : s.waits.getLast? with
    | none => exact hs'.1
    | some b => exact hs'.2 b (List.mem_of_getLast? hl)
theorem waits_few {D : Dsk} {m : Nat} (hok : D.Ok m) {i : Nat} {s : Sec} (hs : D.secs[i]? = some s) : s.waits.length ≤ m := by
  rw [hok.count i s hs]
  exact Nat.le_trans List.count_le_length hok.few

/-- Read -/
theorem dk_read (w : World) {d sb oc m : Nat} {F : Nat → Prop} {op : Option Addr} {D : Dsk} (h : DiskAt w d sb op oc F D) (hok : D.Ok m) (hm : m < 1000000000) (i : Int) :
    CallsV Tryz.prog 12 [.pointer (some ⟨d, 0, none⟩), .int .i64 i] w fun v w' => v = .tuple #[numB (D.read i).2.1, .int .i64 (D.read i).2.2] ∧ DiskAt w' d sb op oc F (D.read i).1 ∧ Ext (One d) w w' := by
  refine calls_enter Tryz.func12 rfl rfl rfl rfl ?_
  have hX := Ext.refl (One d) w
  refine c_seq (c_region (wl (st_al I_ok rfl fun b4 w1 hn4 hb4 hE1 => ?_)))
  have fr4 := Nat.le_trans hX.size hn4
  have hX := hX.thenNo hE1
  have hF4 : ¬ F b4 := fun e => by have := h.lt b4 e; omega
  have hd4 : d ≠ b4 := fun e => hF4 (e ▸ h.own.1)
  have h := h.extNo hE1
  have hb4 : Blk w1 b4 37 (bytesU zeros) := by
    have e : cellsOf ti37.zero = bytesU zeros := by simp [ti37, zeros, bytesU]
    rw [← e]; exact hb4
  have hop := operation_any w1 i false Tryz.call38 h.head hok.fuse hok.fault ⟨hok.done.1, by have := hok.done.2; omega⟩
    (fun v w' => v = .int .i64 (D.read i).2.2 ∧ DiskAt w' d sb op oc F (D.read i).1 ∧ Blk w' b4 37 (bytesU (D.read i).2.1) ∧ Ext (fun x => x = d ∨ x = b4) w1 w') (caps := #[.pointer (some ⟨b4, 0, none⟩)])
    (fun hd => ?_) (fun hd hi => ?_) (fun hd hi hf w' hb' hE => ?_) (fun hd hi hf hbu hfu w' hb' hE => ?_) (fun hd hi hf hbu w' hb' hE => ?_)
  · refine wl_p I_ok rfl (wl_nil (f_then (c_seq (c_region (wl_p I_ok rfl (wl (st_call Tryz.call37 rfl rfl rfl rfl rfl rfl hop fun v2 w2 hr2 => ?_)))))))
    obtain ⟨rfl, h, hb4, hE2⟩ := hr2
    have hl : (bytesU (D.read i).2.1).length = 64 := by
      unfold bytesU
      rw [List.length_map]
      unfold Dsk.read
      dsimp only
      split
      · exact now_length (hok.begin i false) _
      · exact zeros_length
    have hX : Ext (One d) w w2 := hX.trans hE2 fun x hx e => e.resolve_right (by omega)
    refine wl_p I_ok rfl (wl_nil (f_then (c_seq (c_region (wl (st_ldB I_ok hb4 rfl hl (wl_p I_ok rfl (wl (st_stW I_ok hb4 rfl rfl hl (by rw [cellsOf_agg]) one_bytes fun w3 hb4 hE3 hs3 => ?_)))))))))
    refine wl_p I_ok rfl (wl_nil (f_then (c_ret (f_ret [_, _] ⟨⟨b4, 0, rfl, ld_all I_ok rfl rfl hb4.seg hl⟩, rfl, trivial⟩ ?_))))
    exact ⟨rfl, h.extNew hE3 hF4, hX.thenNew hE3 fr4⟩
  · have e : D.read i = (D, zeros, 9) := by simp [Dsk.read, Dsk.begin, hd]
    rw [e]
    exact ⟨rfl, h, hb4, Ext.refl _ _⟩
  · have e : D.read i = (D, zeros, 2) := by simp [Dsk.read, Dsk.begin, hd, hi]
    rw [e]
    exact ⟨rfl, h, hb4, Ext.refl _ _⟩
  · have e : D.read i = ({ D with fault := -1 }, zeros, 8) := by simp [Dsk.read, Dsk.begin, hd, hi, hf]
    rw [e]
    have h' := h.headTo (D' := { D with fault := -1 }) rfl rfl (by rw [hd]; exact hb') hE
    exact ⟨rfl, h', hb4.ext1 hE hd4.symm, hE.mono fun x _ e => .inl e⟩
  · cases hbu
  · have e0 : D.begin i false = ({ D with fault := faultTo D.fault, fuse := fuseTo false D.fuse, done := D.done + 1 }, 0) := by simp [Dsk.begin, hd, hi, hf]
    have e : D.read i = ({ D with fault := faultTo D.fault, fuse := fuseTo false D.fuse, done := D.done + 1 }, D.now i.toNat, 0) := by
      simp only [Dsk.read, e0, if_true, Dsk.now]
    rw [e]
    have h' := h.headTo (D' := { D with fault := faultTo D.fault, fuse := fuseTo false D.fuse, done := D.done + 1 }) rfl rfl (by rw [hd]; exact hb') hE
    obtain ⟨L, hL1, hL2⟩ := h'.secs
    have hi' : i.toNat < D.secs.length := by omega
    have hs : D.secs[i.toNat]? = some D.secs[i.toNat] := by simp [hi']
    have hiL : i.toNat < L.length := by rw [hL2.1]; exact hi'
    have hr : L[i.toNat]? = some L[i.toNat] := by simp
    have hnow : D.now i.toNat = D.secs[i.toNat].now := by simp [Dsk.now, hs]
    have hn64 := now_length hok i.toNat
    rw [hnow] at hn64 ⊢
    refine (dk_readIn w' hL1 hL2.uni hr (hL2.2 _ _ _ hs hr) (by have := waits_few hok hs; omega) (hb4.ext1 hE hd4.symm) (by simp [bytesU, zeros]) hn64).mono fun v w2 ⟨hb2, hE2⟩ => ?_
    exact ⟨rfl, h'.extNew hE2 hF4, hb2, (hE.mono fun x _ e => .inl e).then (hE2.mono fun x _ e => .inr e)⟩
end Go.Proofs.YtlfdlodcjiaiiaaGreatDoor
namespace Go.Proofs.YtlfdlodcjiaiiaaGreatDoor
open Go.Vc

/-- a disk's blocks and all that are new -/
def Grow (F : Nat → Prop) (w w' : World) : Nat → Prop := fun x => F x ∨ (w.heap.size ≤ x ∧ x < w'.heap.size)
theorem Grow.old {F : Nat → Prop} {w w' : World} {x : Nat} (h : F x) : Grow F w w' x := .inl h

theorem z29 : cellsOf ti37.zero = bytesU zeros := by simp [ti37, zeros, bytesU]

theorem orderL_snoc (l : List Nat) (i : Nat) : orderL (l ++ [i]) = orderL l ++ [.int .i64 (i : Int)] := by simp [orderL]

theorem dk_writeIn (w : World) {d sb oc m b1 b2 b3 : Nat} {F : Nat → Prop} {op : Option Addr} {D : Dsk} (h : DiskAt w d sb op oc F D) (hok : D.Ok m) (hm : m < 1000000000) {i : Nat} (hi : i < D.secs.length) {b : Bytes} (hb64 : b.length = 64)
    (hb1 : Blk w b1 37 (bytesU b)) (hb2 : Blk w b2 42 [.pointer (some ⟨d, 0, none⟩)]) (hb3 : Blk w b3 3 [.int .i64 (i : Int)]) (hF3 : ¬ F b1 ∧ ¬ F b2 ∧ ¬ F b3) :
    CallsV Tryz.prog 40 ([.pointer (some ⟨sb, i * 65, none⟩)] ++ #[Value.pointer (some ⟨b1, 0, none⟩), .pointer (some ⟨b2, 0, none⟩), .pointer (some ⟨b3, 0, none⟩)].toList) w
      fun _ w' => ∃ op' oc', DiskAt w' d sb op' oc' (Grow F w w') (D.put i b) ∧ Ext F w w' := by
  obtain ⟨L, hL1, hL2⟩ := h.secs
  have hu := hL2.uni
  have hs : D.secs[i]? = some D.secs[i] := by simp [hi]
  have hiL : i < L.length := by rw [hL2.1]; exact hi
  have hr : L[i]? = some L[i] := by simp
  obtain ⟨p, c, hrow, hc, h64, hw64, hsl, hpF⟩ := hL2.2 _ _ _ hs hr
  generalize hsd : D.secs[i] = s at *
  generalize hrd : L[i] = r at *
  have hfew := waits_few hok hs
  have hcell : w.cell? ⟨sb, i * 65 + 64, none⟩ = some (.slice p s.waits.length c) := by
    refine hL1.cell ?_
    rw [rows_get hu hr (by decide), hrow]
    simp [secRow, bytesU, h64]
  refine calls_enter Tryz.func40 rfl rfl rfl rfl ?_
  have hX := Ext.refl F w
  refine c_seq ?_
  refine c_draw rfl 19 [(0, true), (1, true), (2, true), (3, true), (4, true), (5, true), (6, true), (7, true), (8, true), (9, true), (10, true), (11, true), (12, true), (13, true), (14, true), (15, true), (16, true), (17, false), (18, false)] [19, 20, 21] No (by kernel_rfl) fun w1 hE1 hs1 => ?_
  have hX := hX.thenNo hE1
  refine wd_p I_ok rfl (wd_ld I_ok rfl rfl (fun w' hw' => cell_ext hcell hw' id) ?_)
  refine wd_p I_ok rfl (wd_ld I_ok rfl rfl (fun w' hw' => cell_ext hcell hw' id) ?_)
  refine wd_p I_ok rfl (wd_ld I_ok rfl rfl (fun w' hw' => cell_ext hcell hw' id) ?_)
  refine wd_p I_ok rfl (wd_sl I_ok rfl rfl 0 s.waits.length s.waits.length 64 rfl (.inl ⟨rfl, rfl⟩) (.inl rfl) (.inr ⟨rfl, rfl⟩) (by omega) (by omega) (by simpa using hc) ?_)
  refine wd_ldN I_ok rfl rfl (fun w' hw' => (hb1.extNo hw').seg) (by simp [bytesU, hb64]) ?_
  refine wd_l rfl (st_bs I_ok rfl 64 rfl z29 (bytesU_64 zeros_length) (by decide) (by decide) ⟨⟨bytesU_64 hb64, by decide⟩, trivial⟩ (l' := bytesU b) ?_ fun b22 w2 hn22 hb22 hE2 hs2 => ⟨hE1.thenNo hE2, ?_⟩)
  · simp only [putAll, cellsOf_agg]
    rw [Nat.zero_mul, put_whole]
    rw [rep_length, bytesU_64 hb64, bytesU_64 zeros_length]
  have fr22 := Nat.le_trans hX.size hn22
  have hX := hX.thenNo hE2
  have hE12 := hE1.thenNo hE2
  have hsl2 : Sl w2 (slBase p 0 s.waits.length 64) (s.waits.length - 0) 64 (bl s.waits).flatten := by rw [slBase_zero]; exact hsl.extNo hE12
  have hsrc : Src Tryz.prog w2 64 (.slice (some ⟨b22, 0, none⟩) 1 1) 1 (bytesU b) := Src.slice ⟨by rw [bytesU_64 hb64], .inr ⟨b22, 0, rfl, hb22.seg⟩⟩ one_bytes
  refine wd_l rfl (st_appG I_ok rfl 64 64 rfl rfl (by rw [z29]; exact bytesU_64 zeros_length) (by decide) hsl2 hsrc (by dsimp only [maxLen]; omega) (by dsimp only; omega) (by dsimp only; omega) fun b23 c3 w3 hn23 ho3 hE3 => ⟨hE12.thenNo hE3, ?_⟩)
  have ho3 : Own w3 (some ⟨b23, 0, none⟩) (s.waits.length + 1) c3 37 64 ((bl s.waits).flatten ++ bytesU b) := ho3
  have fr23 := Nat.le_trans hX.size hn23
  have hX := hX.thenNo hE3
  have hE13 := hE12.thenNo hE3
  have hL1' := hL1.extNo hE13
  have h' := h.extNo hE13
  have hL2' : RowsAt w3 F D.secs L := hL2.ext hE13 fun _ _ _ => id
  have hlen := rows_length hu
  refine wd_sw (wb rfl (st_p I_ok rfl rfl rfl (wb rfl (st_p I_ok rfl rfl rfl (wb rfl (st_set I_ok hL1' rfl rfl (by show i * 65 + 64 < _; rw [hlen]; have := Nat.mul_le_mul_right 65 hiL; omega) fun w4 hL4 hE4 hs4 => ?_))))))
  have hL4 : Blk w4 sb 81 (Vc.put L.flatten (i * 65 + 64) [Value.slice (some ⟨b23, 0, none⟩) (s.waits.length + 1) c3]) := hL4
  rw [rows_put hu hr _ (by simp)] at hL4
  have hX : Ext F w w4 := hX.trans hE4 fun x hx e => by rw [e]; exact h.own.2.1
  have hne : d ≠ sb := (h'.head.ne hL1' (by decide))
  have hhead := h'.head.ext1 hE4 hne
  have hord : Own w4 op D.order.length oc 3 1 (orderL D.order) := h'.order.ext hE4 fun x hx e => (Own.ty h'.order hx).ne hL1' (by decide) e
  have hb2' := (hb2.extNo hE13).ext1 hE4 fun e => hF3.2.1 (e ▸ h.own.2.1)
  have hb3' := (hb3.extNo hE13).ext1 hE4 fun e => hF3.2.2 (e ▸ h.own.2.1)
  have hop2 : ∀ x, OwnB op x → b2 ≠ x := fun x hx e => hF3.2.1 (e ▸ h.own.2.2 x hx)
  have hop3 : ∀ x, OwnB op x → b3 ≠ x := fun x hx e => hF3.2.2 (e ▸ h.own.2.2 x hx)
  have hopd : ∀ x, OwnB op x → d ≠ x := fun x hx e => (Own.ty h'.order hx).ne h'.head (by decide) e.symm
  refine wb_nil (f_then (c_draw rfl 8 [(0, true), (1, true), (2, true), (3, true), (4, true), (5, true), (6, false), (7, false)] [8, 9, 10] (OwnB op) (by kernel_rfl) fun w5 hE5 hs5 => ?_))
  have hX := hX.thenNo hE5
  refine wd_ld I_ok rfl rfl (fun w' hw' => (hb2'.ext hw' fun e => hop2 _ e rfl).cell rfl) ?_
  refine wd_ld I_ok rfl rfl (fun w' hw' => (hb2'.ext hw' fun e => hop2 _ e rfl).cell rfl) ?_
  refine wd_p I_ok rfl (wd_ld I_ok rfl rfl (fun w' hw' => (hhead.ext hw' fun e => hopd _ e rfl).cell rfl) ?_)
  refine wd_ld I_ok rfl rfl (fun w' hw' => (hb3'.ext hw' fun e => hop3 _ e rfl).cell rfl) ?_
  refine wd_l rfl (st_bs I_ok rfl 1 rfl rfl rfl (by decide) (by decide) ⟨⟨rfl, by decide⟩, trivial⟩ (l' := [.int .i64 (i : Int)]) rfl fun b32 w6 hn32 hb32 hE6 hs6 => ⟨(hE5.thenNo hE6).no, ?_⟩)
  have fr32 := Nat.le_trans hX.size hn32
  have hX := hX.thenNo hE6
  have hE56 := hE5.thenNo hE6
  have hord := hord.ext hE56 fun _ _ => id
  have hsrc2 : Src Tryz.prog w6 1 (.slice (some ⟨b32, 0, none⟩) 1 1) 1 [.int .i64 (i : Int)] := Src.slice ⟨rfl, .inr ⟨b32, 0, rfl, hb32.seg⟩⟩ (fun v hv => by simp at hv; subst hv; rfl)
  have hfo := hok.few
  refine wd_l rfl (st_app I_ok rfl 1 8 rfl rfl rfl (by decide) hord hsrc2 (by dsimp only [maxLen]; omega) (by dsimp only; omega) fun p7 c7 w7 ho7 hE7 hB7 => ⟨hE56.no.then hE7, ?_⟩)
  have ho7 : Own w7 p7 (D.order.length + 1) c7 3 1 (orderL D.order ++ [.int .i64 (i : Int)]) := ho7
  have hX : Ext F w w7 := hX.trans hE7 fun x hx e => h.own.2.2 x e
  have hhead := (hhead.extNo hE56).ext hE7 fun e => hopd _ e rfl
  have hhead7 := hhead
  refine wd_sw (wb rfl (st_p I_ok rfl rfl rfl (wb rfl (st_p I_ok rfl rfl rfl (wb rfl (st_st I_ok hhead rfl rfl rfl fun w8 hhead hE8 hs8 => ?_))))))
  have hX : Ext F w w8 := hX.trans hE8 fun x hx e => by rw [e]; exact h.own.1
  refine wb_nil (f_end0 rfl ?_)
  refine ⟨p7, c7, ?_, hX⟩
  have hsbd : sb ≠ d := hne.symm
  have hsbo : ∀ x, OwnB op x → sb ≠ x := fun x hx e => (Own.ty h'.order hx).ne hL1' (by decide) e.symm
  -- what has turned since w3
  have hE38 : Ext (fun x => x = sb ∨ OwnB op x ∨ x = d) w3 w8 :=
    ((hE4.mono fun _ _ e => .inl e).thenNo hE56).then ((hE7.mono fun _ _ e => .inr (.inl e)).then (hE8.mono fun _ _ e => .inr (.inr e)))
  have hS29 : ∀ x, TyB w3 x 37 → ¬ (x = sb ∨ OwnB op x ∨ x = d) := fun x hx e => by
    rcases e with e | e | e
    · exact hx.ne hL1' (by decide) e
    · obtain ⟨l, hl⟩ := Own.ty h'.order e
      exact hx.ne hl (by decide) rfl
    · exact hx.ne h'.head (by decide) e
  have hL8 : Blk w8 sb 81 (L.set i (Vc.put r 64 [Value.slice (some ⟨b23, 0, none⟩) (s.waits.length + 1) c3])).flatten :=
    ((hL4.extNo hE56).ext hE7 fun e => hsbo _ e rfl).ext1 hE8 hsbd
  have hord8 := ho7.ext hE8 fun x hx e => (Own.ty ho7 hx).ne hhead7 (by decide) e
  have h23 : TyB w3 b23 37 := Own.ty ho3 rfl
  have hrow' : Vc.put r 64 [Value.slice (some ⟨b23, 0, none⟩) (s.waits.length + 1) c3] = secRow s.safe (some ⟨b23, 0, none⟩) (s.waits.length + 1) c3 := by
    rw [hrow, put_eq _ _ _ (by simp [secRow, bytesU, h64])]
    have e1 : (secRow s.safe p s.waits.length c).take 64 = bytesU s.safe := by
      unfold secRow; rw [List.take_append_of_le_length (by simp [bytesU, h64]), List.take_of_length_le (by simp [bytesU, h64])]
    rw [e1, List.drop_eq_nil_of_le (by simp [secRow, bytesU, h64])]
    simp [secRow]
  refine ⟨?_, ⟨_, hL8, ?_, ?_⟩, ?_, ⟨.inl h.own.1, .inl h.own.2.1, fun x hx => ?_⟩, fun x hx => ?_⟩
  · have e : (D.put i b).secs.length = D.secs.length := by simp [Dsk.put]
    have e2 : (D.put i b).order.length = D.order.length + 1 := by simp [Dsk.put]
    rw [e, e2]
    exact hhead
  · simp [Dsk.put, hL2.1]
  · intro j s' r' hs' hr'
    simp only [Dsk.put, List.getElem?_modify] at hs'
    rw [List.getElem?_set] at hr'
    by_cases hij : i = j
    · subst hij
      rw [if_pos rfl, if_pos hiL] at hr'
      rw [hs] at hs'
      simp at hs' hr'
      subst hs'
      rw [hrow'] at hr'
      subst hr'
      refine ⟨some ⟨b23, 0, none⟩, c3, ?_, ?_, h64, ?_, ?_, ?_⟩
      · simp [writeSec]
      · have := ho3.cap
        simp only [writeSec, List.length_append, List.length_singleton]
        omega
      · intro x hx
        simp only [writeSec, List.mem_append, List.mem_singleton] at hx
        rcases hx with hx | rfl
        · exact hw64 x hx
        · exact hb64
      · have e3 := ho3.sl.ext hE38 fun x off hp => by
          simp only [Option.some.injEq, Addr.mk.injEq] at hp
          rw [← hp.1]
          exact hS29 _ h23
        have e4 : (bl (writeSec b s).waits).flatten = (bl s.waits).flatten ++ bytesU b := by simp [bl, writeSec]
        rw [e4]
        simpa [writeSec] using e3
      · intro x off hp
        simp only [Option.some.injEq, Addr.mk.injEq] at hp
        rw [← hp.1]
        have h8 := h23.ext hE38 (hS29 _ h23)
        obtain ⟨l, hl⟩ := h8
        exact ⟨.inr ⟨fr23, hl.lt⟩, l, hl⟩
    · rw [if_neg hij] at hr'
      have hs'' : D.secs[j]? = some s' := by
        cases hj : D.secs[j]? with
        | none => rw [hj] at hs'; simp at hs'
        | some t => rw [hj] at hs'; simpa [hij] using hs'
      exact ((hL2'.2 j s' r' hs'' hr').ext hE38 fun x _ hx => hS29 x hx).mono fun x hx => .inl hx
  · have e2 : (D.put i b).order.length = D.order.length + 1 := by simp [Dsk.put]
    rw [e2]
    simpa [Dsk.put, orderL] using hord8
  · rcases hB7 x hx with hx' | hx'
    · exact .inl (h.own.2.2 x hx')
    · refine .inr ⟨?_, hord8.lt hx⟩
      have := (hE13.thenNo (Ext.refl No w3)).size
      have := hE4.size
      have := hE56.size
      omega
  · rcases hx with hx | hx
    · exact Nat.lt_of_lt_of_le (h.lt x hx) hX.size
    · exact hx.2
end Go.Proofs.YtlfdlodcjiaiiaaGreatDoor
namespace Go.Proofs.YtlfdlodcjiaiiaaGreatDoor
open Go.Vc

/-- a disk, wherever its rows are -/
def At (w : World) (d : Nat) (F : Nat → Prop) (D : Dsk) : Prop := ∃ sb op oc, DiskAt w d sb op oc F D

theorem DiskAt.mono {F F' : Nat → Prop} {w : World} {d sb oc : Nat} {op : Option Addr} {D : Dsk} (h : DiskAt w d sb op oc F D) (hF : ∀ x, F x → F' x) (hlt : ∀ x, F' x → x < w.heap.size) : DiskAt w d sb op oc F' D := by
  obtain ⟨L, h1, h2⟩ := h.secs
  exact ⟨h.head, ⟨L, h1, h2.mono hF⟩, h.order, ⟨hF _ h.own.1, hF _ h.own.2.1, fun x hx => hF _ (h.own.2.2 x hx)⟩, hlt⟩
theorem DiskAt.grow {F : Nat → Prop} {w w' : World} {d sb oc : Nat} {op : Option Addr} {D : Dsk} (h : DiskAt w' d sb op oc F D) : DiskAt w' d sb op oc (Grow F w w') D :=
  h.mono (fun _ => .inl) fun x hx => hx.elim (h.lt x) fun hx => hx.2
theorem At.ext {S F : Nat → Prop} {w w' : World} {d : Nat} {D : Dsk} (h : At w d F D) (hE : Ext S w w') (hS : ∀ x, F x → ¬ S x) : At w' d F D := let ⟨sb, op, oc, h⟩ := h; ⟨sb, op, oc, h.ext hE hS⟩
theorem At.extNo {F : Nat → Prop} {w w' : World} {d : Nat} {D : Dsk} (h : At w d F D) (hE : Ext No w w') : At w' d F D := let ⟨sb, op, oc, h⟩ := h; ⟨sb, op, oc, h.extNo hE⟩
theorem At.grow {F : Nat → Prop} {w w' : World} {d : Nat} {D : Dsk} (h : At w' d F D) : At w' d (Grow F w w') D := let ⟨sb, op, oc, h⟩ := h; ⟨sb, op, oc, h.grow⟩
theorem At.mono {F F' : Nat → Prop} {w : World} {d : Nat} {D : Dsk} (h : At w d F D) (hF : ∀ x, F x → F' x) (hlt : ∀ x, F' x → x < w.heap.size) : At w d F' D := let ⟨sb, op, oc, h⟩ := h; ⟨sb, op, oc, h.mono hF hlt⟩
theorem At.lt {F : Nat → Prop} {w : World} {d : Nat} {D : Dsk} (h : At w d F D) : ∀ x, F x → x < w.heap.size := let ⟨_, _, _, h⟩ := h; h.lt
theorem At.own {F : Nat → Prop} {w : World} {d : Nat} {D : Dsk} (h : At w d F D) : F d := let ⟨_, _, _, h⟩ := h; h.own.1
theorem Grow.wide {F : Nat → Prop} {w0 w w' w1 : World} (h0 : w0.heap.size ≤ w.heap.size) (h1 : w'.heap.size ≤ w1.heap.size) {x : Nat} (h : Grow F w w' x) : Grow F w0 w1 x :=
  h.imp id fun h => ⟨Nat.le_trans h0 h.1, Nat.lt_of_lt_of_le h.2 h1⟩

theorem cells_num (b : Bytes) : cellsOf (numB b) = bytesU b := by simp [bytesU, cellsOf_agg]

theorem dk_write (w : World) {d m : Nat} {F : Nat → Prop} {D : Dsk} (h : At w d F D) (hok : D.Ok m) (hm : m + 1 < 1000000000) (i : Int) {b : Bytes} (hb : b.length = 64) :
    CallsV Tryz.prog 13 [.pointer (some ⟨d, 0, none⟩), .int .i64 i, numB b] w fun v w' => v = .int .i64 (D.write i b).2 ∧ At w' d (Grow F w w') (D.write i b).1 ∧ Ext F w w' := by
  obtain ⟨sb, op, oc, h⟩ := h
  refine calls_enter Tryz.func13 rfl rfl rfl rfl ?_
  have hX := Ext.refl F w
  refine c_seq (c_region (wl (st_al I_ok rfl fun b3 w1 hn3 hb3 hE1 => ?_)))
  have fr3 := Nat.le_trans hX.size hn3
  have hX := hX.thenNo hE1
  refine wl (st_al I_ok rfl fun b4 w2 hn4 hb4 hE2 => ?_)
  have ne3_4 : b3 ≠ b4 := Nat.ne_of_lt (Nat.lt_of_lt_of_le hb3.lt hn4)
  have fr4 := Nat.le_trans hX.size hn4
  have hb3 := hb3.extNo hE2
  have hX := hX.thenNo hE2
  refine wl (st_al I_ok rfl fun b5 w3 hn5 hb5 hE3 => ?_)
  have fr5 := Nat.le_trans hX.size hn5
  have hb3 := hb3.extNo hE3
  have hb4 := hb4.extNo hE3
  have hX := hX.thenNo hE3
  have hF : ∀ x, w.heap.size ≤ x → ¬ F x := fun x hx e => by have := h.lt x e; omega
  have h := ((h.extNo hE1).extNo hE2).extNo hE3
  have hb5 : Blk w3 b5 37 (bytesU b) := by rw [← cells_num]; exact hb5
  have hop := operation_any w3 i true Tryz.call40 h.head hok.fuse hok.fault ⟨hok.done.1, by have := hok.done.2; omega⟩
    (fun v w' => v = .int .i64 (D.write i b).2 ∧ At w' d (Grow F w w') (D.write i b).1 ∧ Ext F w w') (caps := #[.pointer (some ⟨b5, 0, none⟩), .pointer (some ⟨b3, 0, none⟩), .pointer (some ⟨b4, 0, none⟩)])
    (fun hd => ?_) (fun hd hi => ?_) (fun hd hi hf w' hb' hE => ?_) (fun hd hi hf hbu hfu w' hb' hE => ?_) (fun hd hi hf hbu w' hb' hE => ?_)
  · refine wl_p I_ok rfl (wl_nil (f_then (c_seq (c_region (wl (st_ldb I_ok hb3 rfl rfl (wl (st_ldb I_ok hb4 rfl rfl (wl_p I_ok rfl (wl (st_call Tryz.call37 rfl rfl rfl rfl rfl rfl hop fun v4 w4 hr4 => ?_)))))))))))
    obtain ⟨rfl, hr4⟩ := hr4
    refine wl_p I_ok rfl (wl_nil (f_then (c_ret (f_ret1 rfl rfl ?_))))
    exact ⟨rfl, hr4⟩
  · have e : D.write i b = (D, 9) := by simp [Dsk.write, Dsk.begin, hd]
    rw [e]
    exact ⟨rfl, ⟨_, _, _, h.grow⟩, hX⟩
  · have e : D.write i b = (D, 2) := by simp [Dsk.write, Dsk.begin, hd, hi]
    rw [e]
    exact ⟨rfl, ⟨_, _, _, h.grow⟩, hX⟩
  · have e : D.write i b = ({ D with fault := -1 }, 8) := by simp [Dsk.write, Dsk.begin, hd, hi, hf]
    rw [e]
    have h' := h.headTo (D' := { D with fault := -1 }) rfl rfl (by rw [hd]; exact hb') hE
    exact ⟨rfl, ⟨_, _, _, h'.grow⟩, hX.trans hE fun x _ e => e ▸ h.own.1⟩
  · have e : D.write i b = ({ D with fault := faultTo D.fault, fuse := -1, dead := true }, 9) := by simp [Dsk.write, Dsk.begin, hd, hi, hf, hfu]
    rw [e]
    have h' := h.headTo (D' := { D with fault := faultTo D.fault, fuse := -1, dead := true }) rfl rfl hb' hE
    exact ⟨rfl, ⟨_, _, _, h'.grow⟩, hX.trans hE fun x _ e => e ▸ h.own.1⟩
  · have hbu' : ¬ (D.fuse = 0) := fun e => hbu ⟨rfl, e⟩
    have e0 : D.begin i true = ({ D with fault := faultTo D.fault, fuse := fuseTo true D.fuse, done := D.done + 1 }, 0) := by simp [Dsk.begin, hd, hi, hf, hbu']
    have e : D.write i b = (({ D with fault := faultTo D.fault, fuse := fuseTo true D.fuse, done := D.done + 1 } : Dsk).put i.toNat b, 0) := by
      simp only [Dsk.write, e0, if_true]
    rw [e]
    have h' := h.headTo (D' := { D with fault := faultTo D.fault, fuse := fuseTo true D.fuse, done := D.done + 1 }) rfl rfl (by rw [hd]; exact hb') hE
    have hok' := hok.begin i true
    rw [e0] at hok'
    have nd : ∀ x, w.heap.size ≤ x → x ≠ d := fun x hx e => hF x hx (e ▸ h.own.1)
    have hi' : (i.toNat : Int) = i := by omega
    refine (dk_writeIn w' h' hok' (by omega) (i := i.toNat) (by simp only; omega) hb (hb5.ext1 hE (nd _ fr5)) (hb3.ext1 hE (nd _ fr3)) (by rw [hi']; exact hb4.ext1 hE (nd _ fr4)) ⟨hF _ fr5, hF _ fr3, hF _ fr4⟩).mono fun v w2 ⟨op', oc', h2, hE2⟩ => ?_
    have hXw : Ext F w w' := hX.trans hE fun x _ e => e ▸ h.own.1
    refine ⟨rfl, ⟨_, _, _, h2.mono (fun x hx => hx.wide hXw.size (Nat.le_refl _)) fun x hx => ?_⟩, hXw.trans hE2 fun x _ => id⟩
    exact hx.elim (fun hx => h2.lt x (.inl hx)) fun hx => hx.2
end Go.Proofs.YtlfdlodcjiaiiaaGreatDoor
namespace Go.Proofs.YtlfdlodcjiaiiaaGreatDoor
open Go.Vc

theorem RowsAt.modify {w : World} {F : Nat → Prop} {secs : List Sec} {L : List (List Value)} (h : RowsAt w F secs L) {k : Nat} {f : Sec → Sec} {r : List Value} (hr : ∀ s, secs[k]? = some s → SecAt w F (f s) r) : RowsAt w F (secs.modify k f) (L.set k r) := by
  refine ⟨by simp [h.1], fun j s x hs hx => ?_⟩
  rw [List.getElem?_modify] at hs
  rw [List.getElem?_set] at hx
  by_cases hkj : k = j
  · subst hkj
    rw [if_pos rfl] at hx
    split at hx
    · simp at hx
      subst hx
      cases hk : secs[k]? with
      | none => rw [hk] at hs; simp at hs
      | some t =>
        rw [hk] at hs
        simp at hs
        subst hs
        exact hr t hk
    · cases hx
  · rw [if_neg hkj] at hx
    cases hk : secs[j]? with
    | none => rw [hk] at hs; simp at hs
    | some t =>
      rw [hk] at hs
      simp [hkj] at hs
      subst hs
      exact h.2 j t x hk hx

theorem dk_settle (w : World) {d m : Nat} {F : Nat → Prop} {D : Dsk} (h : At w d F D) (hok : D.Ok m) (hm : m < 1000000000) (lives : Nat → Bool) {g : Nat} {caps : Array Value}
    (hcf : ∀ args w, (callFunc g args).run Tryz.prog w = .ok (.enter g args) w)
    (hl : ∀ w1 (i : Nat), i < D.order.length → Ext F w w1 → CallsV Tryz.prog g ([.int .i64 (i : Int)] ++ caps.toList) w1 fun v w2 => v = .bool (lives i) ∧ Ext No w1 w2) :
    CallsV Tryz.prog 42 [.pointer (some ⟨d, 0, none⟩), .func (.func g) #[] caps] w fun _ w' => At w' d F (D.settle lives) ∧ Ext F w w' := by
  obtain ⟨sb, op, oc, h⟩ := h
  have hsize := hok.size
  have hfew := hok.few
  refine calls_enter Tryz.func42 rfl rfl rfl rfl ?_
  refine c_scopeJ (α := Nat × List Sec) 0 rfl
    (fun z u => z.1 ≤ D.order.length ∧ z.2.length = D.secs.length ∧ (∀ k s, z.2[k]? = some s → s.waits.length = (D.order.drop z.1).count k) ∧ settleAll lives (D.order.drop z.1) z.1 z.2 = settleAll lives D.order 0 D.secs ∧
      (∃ L, Blk u sb 81 (List.flatten L) ∧ RowsAt u F z.2 L) ∧ Blk u d 85 (dskL sb D.secs.length op D.order.length oc D.dead D.fuse D.fault D.done) ∧ Own u op D.order.length oc 3 1 (orderL D.order) ∧ Ext F w u)
    (fun z => [(0, .pointer (some ⟨d, 0, none⟩)), (1, .func (.func g) #[] caps), (4, .int .i64 (z.1 : Int))]) (fun z _ => D.order.length - z.1) ?_ ?_
  · refine c_region (wl_p I_ok rfl (wl_nil ?_))
    refine f_first (0, D.secs) rfl ⟨Nat.zero_le _, rfl, fun k s hs => hok.count k s hs, rfl, h.secs, h.head, h.order, Ext.refl F w⟩
  rintro ⟨i, cur⟩ u ⟨hi, hlen, hcount, hset, ⟨L, hL1, hL2⟩, hhead, hord, hX⟩
  dsimp only at hi hlen hcount hset hL2 ⊢
  have hSd : ∀ x, TyB u x 37 → x ≠ sb := fun x hx => hx.ne hL1 (by decide)
  refine c_seq (c_seq (c_region (wl_p I_ok rfl (wl (st_ldb I_ok hhead rfl rfl (wl_p I_ok rfl (wl_nil (f_then (c_if rfl (fun hc => ?_) (fun hc => ?_))))))))))
  · have hi' : i < D.order.length := by omega
    have hk : D.order[i]? = some D.order[i] := by simp [hi']
    generalize hkk : D.order[i] = k at hk
    have hkin : k < D.secs.length := hok.inside k (List.mem_of_getElem? hk)
    obtain ⟨b0, off0, hop, hseg⟩ := hord.sl.2.resolve_left (by omega)
    have hocell : u.cell? ⟨b0, off0 + i, none⟩ = some (.int .i64 (k : Int)) := hseg i _ (by simp [orderL, hk])
    have hb0 : op = some ⟨b0, 0, none⟩ ∧ off0 = 0 := by
      rcases hord with ⟨hp, _⟩ | ⟨b, l, hp, _⟩
      · rw [hp] at hop; cases hop
      · rw [hp] at hop; simp at hop; obtain ⟨rfl, rfl⟩ := hop; exact ⟨hp, rfl⟩
    obtain ⟨hop', rfl⟩ := hb0
    subst hop'
    have hcs : cur[k]? = some (cur[k]'(by omega)) := by simp [show k < cur.length by omega]
    generalize hss : cur[k]'(by omega) = s at hcs
    have hdrop : D.order.drop i = k :: D.order.drop (i + 1) := by
      rw [List.drop_eq_getElem_cons hi', hkk]
    have hcnt := hcount k s hcs
    rw [hdrop, List.count_cons_self] at hcnt
    have hkL : k < L.length := by rw [hL2.1]; omega
    have hr : L[k]? = some L[k] := by simp
    generalize hrd : L[k] = r at hr
    have hsat := hL2.2 k s r hcs hr
    obtain ⟨p, c, hrow, hcap, h64, hw64, hsl, hpF⟩ := hsat
    have hu := hL2.uni
    have hcell : u.cell? ⟨sb, k * 65 + 64, none⟩ = some (.slice p s.waits.length c) := by
      refine hL1.cell ?_
      rw [rows_get hu hr (by decide), hrow]
      simp [secRow, bytesU, h64]
    obtain ⟨wb0, woff, hp, hwseg⟩ := hsl.2.resolve_left (by omega)
    subst hp
    obtain ⟨f0, frest, hwaits⟩ : ∃ f0 frest, s.waits = f0 :: frest := by
      cases hww : s.waits with
      | nil => rw [hww] at hcnt; simp at hcnt
      | cons f0 frest => exact ⟨f0, frest, rfl⟩
    have hf64 : f0.length = 64 := hw64 f0 (by rw [hwaits]; simp)
    have hfseg : Seg u wb0 woff (bytesU f0) := by
      have := hwseg.take 64
      rw [hwaits] at this
      simpa [bl, bytesU, hf64] using this
    have hlenL := rows_length hu
    have hbig := Nat.mul_le_mul_right 65 (Nat.succ_le_of_lt hkL)
    refine c_seq ?_
    refine c_draw rfl 13 [(0, true), (1, true), (2, true), (3, true), (4, true), (5, true), (6, true), (7, true), (8, true), (9, true), (10, true), (11, true), (12, true)] [] No (by kernel_rfl) fun w1 hE1 hs1 => ?_
    refine wd_p I_ok rfl (wd_ld I_ok rfl rfl (fun w' hw' => (hhead.extNo hw').cell rfl) ?_)
    refine wd_p I_ok rfl (wd_ld I_ok rfl rfl (fun w' hw' => (hhead.extNo hw').cell rfl) ?_)
    refine wd_p I_ok rfl (wd_ix I_ok rfl rfl 1 rfl i rfl hi' (0 + i) (by omega) (wd_ld I_ok rfl rfl (fun w' hw' => cell_ext hocell hw' id) ?_))
    refine wd_ix I_ok rfl rfl 65 rfl k rfl hkin (0 + k * 65) (by omega) (wd_p I_ok rfl (wd_sw (wb_nil (f_then ?_))))
    rw [Nat.zero_add]
    have hL10 := hL1
    have hX0 := hX
    have hL1 := hL1.extNo hE1
    have hcell := cell_ext hcell hE1 id
    have hfseg := hfseg.extNo hE1
    have hX := hX.thenNo hE1
    have hTwb : TyB u wb0 37 := (hpF wb0 woff rfl).2
    have hsbF : F sb := h.own.2.1
    refine c_cutK (α := Unit) [0, 1, 4, 5] rfl (fun z => []) (fun z u' => Blk u' sb 81 (L.set k (secRow (settleSec (lives i) s).safe (some ⟨wb0, woff, none⟩) s.waits.length c)).flatten ∧ Ext (Vc.One sb) u u') ?_ ?_
    · refine c_seq ?_
      refine c_region (wl_p I_ok rfl (wl (st_call hcf rfl rfl rfl rfl rfl rfl (hl w1 i hi' hX) fun v2 w2 hr2 => ?_)))
      obtain ⟨rfl, hE2⟩ := hr2
      have hL1 := hL1.extNo hE2
      have hcell := cell_ext hcell hE2 id
      have hfseg := hfseg.extNo hE2
      refine wl_nil (f_then (c_cond rfl (fun hc => ?_) (fun hc => ?_)))
      · refine c_region ?_
        refine wl_p I_ok rfl (wl (st_ld I_ok rfl hcell (wl (st_ix I_ok rfl 64 rfl 0 rfl (by omega) woff (by omega) (wl (st_ldN I_ok rfl hfseg (by simp [bytesU, hf64]) ?_))))))
        refine wl_p I_ok rfl (wl (st_stN I_ok hL1 rfl (by rw [cellsOf_agg]; simp [bytesU, hf64]) (by rw [hlenL]; show k * 65 + 64 ≤ _; omega) (by rw [cellsOf_agg]; exact one_bytes) fun w3 hL3 hE3 hs3 => ?_))
        refine wl_nil (f_cut () rfl ⟨?_, hE1.no.then (hE2.no.then hE3)⟩)
        have hL3 : Blk w3 sb 81 (Vc.put L.flatten (k * 65 + 0) (bytesU f0)) := by simpa using hL3
        rw [rows_put hu hr _ (by simp [bytesU, hf64])] at hL3
        have : Vc.put r 0 (bytesU f0) = secRow (settleSec (lives i) s).safe (some ⟨wb0, woff, none⟩) s.waits.length c := by
          rw [hrow, put_eq _ _ _ (by simp [secRow, bytesU, h64, hf64]), hc]
          simp [secRow, bytesU, h64, hf64, settleSec, hwaits]
        rwa [this] at hL3
      · refine c_skip (f_cut () rfl ⟨?_, hE1.no.then hE2.no⟩)
        rw [hc]
        have e : (settleSec false s).safe = s.safe := rfl
        rw [e, ← hrow, ← hrd, List.set_getElem_self]
        exact hL1
    rintro ⟨⟩ u2 ⟨hL2', hE2⟩
    generalize hrow2 : secRow (settleSec (lives i) s).safe (some ⟨wb0, woff, none⟩) s.waits.length c = r2 at hL2'
    have h64' : (settleSec (lives i) s).safe.length = 64 := by
      simp only [settleSec, hwaits, List.headD_cons]
      split
      · exact hf64
      · exact h64
    have hu2 : Uni 65 (L.set k r2) := hu.set k (by rw [← hrow2]; simp [secRow, bytesU, h64'])
    have hr2 : (L.set k r2)[k]? = some r2 := by simp [hkL]
    have hcell2 : u2.cell? ⟨sb, k * 65 + 64, none⟩ = some (.slice (some ⟨wb0, woff, none⟩) s.waits.length c) := by
      refine hL2'.cell ?_
      rw [rows_get hu2 hr2 (by decide), ← hrow2]
      simp [secRow, bytesU, h64']
    have hlenL2 := rows_length hu2
    rw [List.length_set] at hlenL2
    refine c_seq (c_region (wl_p I_ok rfl (wl (st_ld I_ok rfl hcell2 (wl (st_sl I_ok rfl 1 s.waits.length c 64 rfl (.inr ⟨rfl, rfl⟩) (.inr ⟨rfl, rfl⟩) (.inl rfl) (by omega) hcap (Nat.le_refl c) (wl_p I_ok rfl (wl (st_set I_ok hL2' rfl rfl (by show k * 65 + 64 < _; rw [hlenL2]; omega) fun w3 hL3 hE3 hs3 => ?_)))))))))
    have hL3 : Blk w3 sb 81 (Vc.put (L.set k r2).flatten (k * 65 + 64) [Value.slice (slBase (some ⟨wb0, woff, none⟩) 1 c 64) (s.waits.length - 1) (c - 1)]) := hL3
    rw [rows_put hu2 hr2 _ (by simp)] at hL3
    have hE13 : Ext (Vc.One sb) u w3 := hE2.then hE3
    refine wl_nil (f_then (c_seq (c_region (wl_p I_ok rfl ?_))))
    rw [IntWalk.i64_in _ (by omega)]
    refine wl_nil (f_then (c_goto (f_thenG (f_back (i + 1, cur.modify k (settleSec (lives i))) rfl ⟨by simp only; omega, by simp only [List.length_modify]; omega, ?_, ?_, ⟨_, hL3, ?_⟩, ?_, ?_, ?_⟩ ?_))))
    · intro k' s' hs'
      simp only [List.getElem?_modify] at hs'
      by_cases hkk' : k = k'
      · subst hkk'
        rw [hcs] at hs'
        simp at hs'
        subst hs'
        simp only [settleSec, hwaits, List.tail_cons]
        rw [hwaits, List.length_cons] at hcnt
        omega
      · cases hck : cur[k']? with
        | none => rw [hck] at hs'; simp at hs'
        | some t =>
          rw [hck] at hs'
          simp [hkk'] at hs'
          subst hs'
          have := hcount k' t hck
          rw [hdrop, List.count_cons_of_ne hkk'] at this
          exact this
    · rw [← hset, hdrop]; rfl
    · have hL2u : RowsAt w3 F cur L := hL2.ext hE13 fun x _ hx => hSd x hx
      dsimp only
      rw [List.set_set]
      refine RowsAt.modify hL2u fun s' hs' => ?_
      rw [hcs] at hs'
      simp at hs'
      subst hs'
      have hbase : ∀ b off, slBase (some ⟨wb0, woff, none⟩) 1 c 64 = some ⟨b, off, none⟩ → b = wb0 := by
        intro b off hb
        unfold slBase at hb
        split at hb
        · simp at hb; exact hb.1.symm
        · simp [addr_add] at hb; exact hb.1.symm
      have hsl3 := (hsl.slice 1 s.waits.length c (by omega) hcap (Nat.le_refl _)).ext hE13 fun b off hb => by
        rw [hbase b off hb]
        exact hSd _ hTwb
      refine ⟨slBase (some ⟨wb0, woff, none⟩) 1 c 64, c - 1, ?_, ?_, h64', ?_, ?_, ?_⟩
      · rw [← hrow2, put_eq _ _ _ (by simp [secRow, bytesU, h64'])]
        have e1 : (secRow (settleSec (lives i) s).safe (some ⟨wb0, woff, none⟩) s.waits.length c).take 64 = bytesU (settleSec (lives i) s).safe := by
          unfold secRow; rw [List.take_append_of_le_length (by simp [bytesU, h64']), List.take_of_length_le (by simp [bytesU, h64'])]
        rw [e1, List.drop_eq_nil_of_le (by simp [secRow, bytesU, h64'])]
        simp [secRow, settleSec]
      · simp [settleSec]; omega
      · intro b hb
        exact hw64 b (List.mem_of_mem_tail hb)
      · have e1 : (settleSec (lives i) s).waits.length = s.waits.length - 1 := by simp [settleSec]
        have e2 : (bl (settleSec (lives i) s).waits).flatten = ((bl s.waits).flatten.drop (1 * 64)).take ((s.waits.length - 1) * 64) := by
          have hbu : Uni 64 (bl s.waits) := Uni.map fun x hx => by simp [bytesU, hw64 x hx]
          rw [rows_sub hbu]
          congr 1
          rw [List.take_of_length_le (by simp [bl])]
          simp [settleSec, bl, hwaits]
        rw [e1, e2]
        exact hsl3
      · intro b off hb
        have := hbase b off hb
        subst this
        exact ⟨(hpF b woff rfl).1, hTwb.ext hE13 (hSd _ hTwb)⟩
    · exact hhead.ext1 hE13 (hhead.ne hL10 (by decide))
    · exact hord.ext hE13 fun x hx e => (Own.ty hord hx).ne hL10 (by decide) e
    · exact hX0.trans hE13 fun x _ e => e ▸ hsbF
    · simp only; omega
  · have hie : i = D.order.length := by omega
    subst hie
    rw [List.drop_length] at hset
    refine c_skip (f_then (c_region (wl_p I_ok rfl (wl (st_st I_ok hhead rfl rfl rfl fun w1 hb1 hE1 hs1 => ?_)))))
    refine wl_nil (f_jumpN (f_end0 rfl ?_))
    have hFd : F d := h.own.1
    have hsecs : cur = settleAll lives D.order 0 D.secs := hset
    refine ⟨⟨sb, none, 0, ?_, ⟨L, hL1.ext1 hE1 (hL1.ne hhead (by decide)), ?_⟩, .inl ⟨rfl, rfl, rfl, rfl⟩, ⟨hFd, h.own.2.1, fun x hx => by cases hx⟩, ?_⟩, hX.trans hE1 fun x _ e => e ▸ hFd⟩
    · simp only [Dsk.settle, settleAll_length]
      exact hb1
    · simp only [Dsk.settle]
      rw [← hsecs]
      exact hL2.ext hE1 fun x _ hx e => hx.ne hhead (by decide) e
    · intro x hx
      have := hX.size
      have := hE1.size
      have := h.lt x hx
      omega
end Go.Proofs.YtlfdlodcjiaiiaaGreatDoor
namespace Go.Proofs.YtlfdlodcjiaiiaaGreatDoor
open Go.Vc

theorem dk_yes (w : World) (i : Nat) : CallsV Tryz.prog 43 ([.int .i64 (i : Int)] ++ (#[] : Array Value).toList) w fun v w' => v = .bool true ∧ Ext No w w' := by
  refine calls_enter Tryz.func43 rfl rfl rfl rfl ?_
  refine c_seq (c_region (wl_p I_ok rfl (wl_nil (f_then (c_seq (c_region (wl_p I_ok rfl (wl_nil (f_then (c_ret (f_ret1 rfl rfl ?_)))))))))))
  exact ⟨rfl, Ext.refl _ _⟩

theorem dk_sync (w : World) {d m : Nat} {F : Nat → Prop} {D : Dsk} (h : At w d F D) (hok : D.Ok m) (hm : m + 1 < 1000000000) :
    CallsV Tryz.prog 14 [.pointer (some ⟨d, 0, none⟩)] w fun v w' => v = .int .i64 D.sync.2 ∧ At w' d F D.sync.1 ∧ Ext F w w' := by
  obtain ⟨sb, op, oc, h⟩ := h
  refine calls_enter Tryz.func14 rfl rfl rfl rfl ?_
  have hX := Ext.refl F w
  refine c_seq (c_region (wl (st_al I_ok rfl fun b1 w1 hn1 hb1 hE1 => ?_)))
  have fr1 := Nat.le_trans hX.size hn1
  have hX := hX.thenNo hE1
  have hF1 : ¬ F b1 := fun e => by have := h.lt b1 e; omega
  have h := h.extNo hE1
  have hsz := hok.size
  have hop := operation_any w1 0 true Tryz.call41 h.head hok.fuse hok.fault ⟨hok.done.1, by have := hok.done.2; omega⟩
    (fun v w' => v = .int .i64 D.sync.2 ∧ At w' d F D.sync.1 ∧ Ext F w w') (caps := #[.pointer (some ⟨b1, 0, none⟩)])
    (fun hd => ?_) (fun hd hi => ?_) (fun hd hi hf w' hb' hE => ?_) (fun hd hi hf hbu hfu w' hb' hE => ?_) (fun hd hi hf hbu w' hb' hE => ?_)
  · refine wl_p I_ok rfl (wl_nil (f_then (c_seq (c_region (wl (st_ldb I_ok hb1 rfl rfl (wl_p I_ok rfl (wl (st_call Tryz.call37 rfl rfl rfl rfl rfl rfl hop fun v2 w2 hr2 => ?_)))))))))
    obtain ⟨rfl, hr2⟩ := hr2
    refine wl_p I_ok rfl (wl_nil (f_then (c_ret (f_ret1 rfl rfl ?_))))
    exact ⟨rfl, hr2⟩
  · have e : D.sync = (D, 9) := by simp [Dsk.sync, Dsk.begin, hd]
    rw [e]
    exact ⟨rfl, ⟨_, _, _, h⟩, hX⟩
  · exact absurd (by omega) hi
  · have hi' : (0 : Int) ≤ 0 ∧ (0 : Int) < D.secs.length := hi
    have e : D.sync = ({ D with fault := -1 }, 8) := by simp [Dsk.sync, Dsk.begin, hd, hf, show 0 < D.secs.length by omega]
    rw [e]
    have h' := h.headTo (D' := { D with fault := -1 }) rfl rfl (by rw [hd]; exact hb') hE
    exact ⟨rfl, ⟨_, _, _, h'⟩, hX.trans hE fun x _ e => e ▸ h.own.1⟩
  · have e : D.sync = ({ D with fault := faultTo D.fault, fuse := -1, dead := true }, 9) := by simp [Dsk.sync, Dsk.begin, hd, hf, hfu, show 0 < D.secs.length by omega]
    rw [e]
    have h' := h.headTo (D' := { D with fault := faultTo D.fault, fuse := -1, dead := true }) rfl rfl hb' hE
    exact ⟨rfl, ⟨_, _, _, h'⟩, hX.trans hE fun x _ e => e ▸ h.own.1⟩
  · have hbu' : ¬ (D.fuse = 0) := fun e => hbu ⟨rfl, e⟩
    have e0 : D.begin 0 true = ({ D with fault := faultTo D.fault, fuse := fuseTo true D.fuse, done := D.done + 1 }, 0) := by simp [Dsk.begin, hd, hf, hbu', show 0 < D.secs.length by omega]
    have e : D.sync = (({ D with fault := faultTo D.fault, fuse := fuseTo true D.fuse, done := D.done + 1 } : Dsk).settle fun _ => true, 0) := by
      simp only [Dsk.sync, e0, if_true]
    rw [e]
    have h' := h.headTo (D' := { D with fault := faultTo D.fault, fuse := fuseTo true D.fuse, done := D.done + 1 }) rfl rfl (by rw [hd]; exact hb') hE
    have hok' := hok.begin 0 true
    rw [e0] at hok'
    have hXw : Ext F w w' := hX.trans hE fun x _ e => e ▸ h.own.1
    have hb1 := hb1.ext1 hE fun e => hF1 (e ▸ h.own.1)
    refine calls_enter Tryz.func41 rfl rfl rfl rfl ?_
    refine c_region (wl (st_ldb I_ok hb1 rfl rfl (wl (st_call Tryz.call42 rfl rfl rfl rfl rfl rfl (dk_settle w' ⟨_, _, _, h'⟩ hok' (by omega) (fun _ => true) (caps := #[]) Tryz.call43 fun w1 i _ _ => dk_yes w1 i) fun v1 w2 hr1 => ?_))))
    refine wl_nil (f_end0 rfl ?_)
    exact ⟨rfl, hr1.1, hXw.trans hr1.2 fun x _ => id⟩

theorem dk_keep (w : World) {b3 n c : Nat} {kp : Option Addr} {keep : List Bool} (hb3 : Blk w b3 29 [.slice kp n c]) (hn : keep.length = n) (hk : Sl w kp n 1 (keep.map Value.bool)) (i : Nat) :
    CallsV Tryz.prog 54 ([.int .i64 (i : Int)] ++ (#[.pointer (some ⟨b3, 0, none⟩)] : Array Value).toList) w fun v w' => v = .bool (livesOf keep i) ∧ Ext No w w' := by
  refine calls_enter Tryz.func54 rfl rfl rfl rfl ?_
  refine c_seq (c_region (wl_p I_ok rfl (wl_nil (f_then (c_cutK (α := Bool) [] rfl (fun z => [(3, .bool z)]) (fun z u => u = w ∧ z = livesOf keep i) ?_ ?_)))))
  · refine c_region ?_
    refine wl_p I_ok rfl (wl (st_ldb I_ok hb3 rfl rfl (wl_p I_ok rfl (wl_caseD 8 rfl (fun hg => ?_) (fun hg => ?_)))))
    · refine wl (st_ldb I_ok hb3 rfl rfl ?_)
      obtain ⟨kb, koff, rfl, hseg⟩ := hk.2.resolve_left (by omega)
      have hi : i < keep.length := by omega
      have hcell : w.cell? ⟨kb, koff + i, none⟩ = some (.bool keep[i]) := hseg i _ (by simp [hi])
      refine wl_pg I_ok rfl (wl (st_ix I_ok rfl 1 rfl i rfl (by omega) (koff + i) (by omega) (wl (st_ld I_ok rfl hcell (wl_pg I_ok rfl (wl_nil ?_))))))
      exact f_cut _ rfl ⟨rfl, by simp [livesOf, hi]⟩
    · refine wl_pg I_ok rfl ?_
      refine wl_nil ?_
      have hi : keep.length ≤ i := by omega
      exact f_cut _ rfl ⟨rfl, by simp [livesOf, hi]⟩
  rintro z w ⟨rfl, rfl⟩
  exact c_ret (f_ret1 rfl rfl ⟨rfl, Ext.refl _ _⟩)

theorem dk_crash (w : World) {d m : Nat} {F : Nat → Prop} {D : Dsk} (h : At w d F D) (hok : D.Ok m) (hm : m < 1000000000) {n c : Nat} {kp : Option Addr} {keep : List Bool} (hn : keep.length = n) (hk : Sl w kp n 1 (keep.map Value.bool)) (hkF : ∀ b off, kp = some ⟨b, off, none⟩ → ¬ F b) :
    CallsV Tryz.prog 18 [.pointer (some ⟨d, 0, none⟩), .slice kp n c] w fun v w' => v = .int .i64 0 ∧ At w' d F (D.crash keep) ∧ Ext F w w' := by
  refine calls_enter Tryz.func18 rfl rfl rfl rfl ?_
  have hX := Ext.refl F w
  refine c_seq (c_region (wl (st_al I_ok rfl fun b3 w1 hn3 hb3 hE1 => ?_)))
  have fr3 := Nat.le_trans hX.size hn3
  have hX := hX.thenNo hE1
  have hF3 : ¬ F b3 := fun e => by have := h.lt b3 e; omega
  have hFd := h.own
  have h := h.extNo hE1
  have hk := hk.extNo hE1
  refine wl_p I_ok rfl (wl_nil (f_then (c_seq (c_seq (c_region (wl_p I_ok rfl (wl_nil (f_then (c_condF rfl ?_)))))))))
  refine c_skip ?_
  refine f_then (c_seq (c_region (wl_p I_ok rfl (wl (st_call Tryz.call42 rfl rfl rfl rfl rfl rfl (dk_settle w1 h hok hm (livesOf keep) (caps := #[.pointer (some ⟨b3, 0, none⟩)]) Tryz.call54 fun w2 i _ hE => dk_keep w2 (c := c) (hb3.ext hE hF3) hn (hk.ext hE hkF) i) fun v2 w2 hr2 => ?_)))))
  obtain ⟨⟨sb, op, oc, h2⟩, hE2⟩ := hr2
  have hX := hX.trans hE2 fun x _ => id
  have hhead := h2.head
  refine wl_nil (f_then (c_seq (c_region (wl_p I_ok rfl (wl (st_st I_ok hhead rfl rfl rfl fun w3 hhead hE3 hs3 => ?_))))))
  refine wl_p I_ok rfl (wl (st_st I_ok hhead rfl rfl rfl fun w4 hhead hE4 hs4 => ?_))
  refine wl_p I_ok rfl (wl (st_st I_ok hhead rfl rfl rfl fun w5 hhead hE5 hs5 => ?_))
  have hE := hE3.then (hE4.then hE5)
  refine wl_nil (f_then (c_seq (c_region (wl_p I_ok rfl (wl_nil (f_then (c_ret (f_ret1 rfl rfl ?_))))))))
  exact ⟨rfl, ⟨sb, op, oc, h2.headTo (D' := D.crash keep) rfl rfl hhead hE⟩, hX.trans hE fun x _ e => e ▸ hFd⟩

/-- set: the fuse or the fault, by where it is -/
theorem set_any (w : World) {d sb oc : Nat} {F : Nat → Prop} {op : Option Addr} {D : Dsk} (h : DiskAt w d sb op oc F D) (n : Int) {g : Nat} {caps : Array Value} (hcf : ∀ args w, (callFunc g args).run Tryz.prog w = .ok (.enter g args) w) {k : Nat} (hk : k = 3 ∨ k = 4)
    (hg : CallsV Tryz.prog g caps.toList w fun v w' => v = .pointer (some ⟨d, k, none⟩) ∧ Ext No w w') :
    CallsV Tryz.prog 69 [.pointer (some ⟨d, 0, none⟩), .func (.func g) #[] caps, .int .i64 n] w fun v w' => ∃ D', v = .int .i64 (if D.dead = true then 9 else 0) ∧ D' = (if D.dead = true then D else if k = 3 then { D with fuse := setTo n } else { D with fault := setTo n }) ∧ At w' d F D' ∧ Ext F w w' := by
  refine calls_enter Tryz.func69 rfl rfl rfl rfl ?_
  refine c_seq (c_region (wl_p I_ok rfl (wl_nil (f_then (c_seq (c_region (wl_p I_ok rfl (wl (st_call Tryz.call81 rfl rfl rfl rfl rfl rfl (alive_live w h.head) fun v1 w1 hr1 => ?_)))))))))
  obtain ⟨rfl, rfl⟩ := hr1
  cases hd : D.dead
  · refine wl_p I_ok rfl (wl_nil (f_then (c_cutK (α := Unit) [7] rfl (fun z => []) (fun z u => At u d F (if k = 3 then { D with fuse := setTo n } else { D with fault := setTo n }) ∧ Ext F w1 u) ?_ ?_)))
    · refine c_seq ?_
      refine c_region (wl_p I_ok rfl (wl_nil (f_then (c_condT rfl ?_))))
      refine c_region ?_
      refine wl_p I_ok rfl (wl (st_call hcf rfl rfl rfl rfl rfl rfl hg fun v2 w2 hr2 => ?_))
      obtain ⟨rfl, hE2⟩ := hr2
      have h := h.extNo hE2
      refine wl_p I_ok rfl ?_
      rcases hk with rfl | rfl
      · refine wl (st_st I_ok h.head rfl rfl rfl fun w3 hb3 hE3 hs3 => ?_)
        have hb3 : Blk w3 d 85 (dskL sb D.secs.length op D.order.length oc D.dead (setTo n) D.fault D.done) := hb3
        exact wl_nil (f_cut () rfl ⟨⟨sb, op, oc, h.headTo (D' := { D with fuse := setTo n }) rfl rfl hb3 hE3⟩, hE2.no.then (hE3.mono fun x _ e => e ▸ h.own.1)⟩)
      · refine wl (st_st I_ok h.head rfl rfl rfl fun w3 hb3 hE3 hs3 => ?_)
        have hb3 : Blk w3 d 85 (dskL sb D.secs.length op D.order.length oc D.dead D.fuse (setTo n) D.done) := hb3
        exact wl_nil (f_cut () rfl ⟨⟨sb, op, oc, h.headTo (D' := { D with fault := setTo n }) rfl rfl hb3 hE3⟩, hE2.no.then (hE3.mono fun x _ e => e ▸ h.own.1)⟩)
    rintro ⟨⟩ w ⟨h1, h2⟩
    refine c_seq (c_region (wl_p I_ok rfl (wl_nil (f_then (c_ret (f_ret1 rfl rfl ?_))))))
    exact ⟨_, rfl, by rw [if_neg (show ¬ (false = true) by decide), hd], h1, h2⟩
  · refine wl_p I_ok rfl (wl_nil (f_then (c_cutK (α := Unit) [7] rfl (fun z => []) (fun z u => u = w1) ?_ ?_)))
    · refine c_seq ?_
      refine c_region (wl_p I_ok rfl (wl_nil (f_then (c_condF rfl ?_))))
      exact c_skip (f_cut () rfl rfl)
    rintro ⟨⟩ w rfl
    refine c_seq (c_region (wl_p I_ok rfl (wl_nil (f_then (c_ret (f_ret1 rfl rfl ?_))))))
    exact ⟨_, rfl, rfl, ⟨_, _, _, h⟩, Ext.refl _ _⟩

theorem dk_arm (w : World) {d : Nat} {F : Nat → Prop} {D : Dsk} (h : At w d F D) (n : Int) :
    CallsV Tryz.prog 31 [.pointer (some ⟨d, 0, none⟩), .int .i64 n] w fun v w' => v = .int .i64 (D.arm n).2 ∧ At w' d F (D.arm n).1 ∧ Ext F w w' := by
  obtain ⟨sb, op, oc, h⟩ := h
  refine calls_enter Tryz.func31 rfl rfl rfl rfl ?_
  refine c_seq (c_region (wl (st_al I_ok rfl fun b2 w1 hn2 hb2 hE1 => ?_)))
  have h := h.extNo hE1
  have hg : CallsV Tryz.prog 71 (#[.pointer (some ⟨b2, 0, none⟩)] : Array Value).toList w1 fun v w' => v = .pointer (some ⟨d, 3, none⟩) ∧ Ext No w1 w' := by
    refine calls_enter Tryz.func71 rfl rfl rfl rfl ?_
    refine c_seq (c_region (wl_p I_ok rfl (wl_nil (f_then (c_seq (c_region (wl (st_ldb I_ok hb2 rfl rfl (wl_p I_ok rfl (wl_nil (f_then (c_ret (f_ret1 rfl rfl ?_)))))))))))))
    exact ⟨rfl, Ext.refl _ _⟩
  refine wl_p I_ok rfl (wl_nil (f_then (c_seq (c_region (wl (st_ldb I_ok hb2 rfl rfl (wl_p I_ok rfl (wl (st_call Tryz.call69 rfl rfl rfl rfl rfl rfl (set_any w1 h n Tryz.call71 (.inl rfl) hg) fun v2 w2 hr2 => ?_)))))))))
  obtain ⟨D', rfl, rfl, h2, hE2⟩ := hr2
  refine wl_p I_ok rfl (wl_nil (f_then (c_ret (f_ret1 rfl rfl ?_))))
  rw [if_pos rfl] at h2
  unfold Dsk.arm
  refine ⟨?_, ?_, hE1.no.then hE2⟩
  · split <;> rfl
  · split
    · rw [if_pos ‹_›] at h2; exact h2
    · rw [if_neg ‹_›] at h2; exact h2
theorem dk_fail (w : World) {d : Nat} {F : Nat → Prop} {D : Dsk} (h : At w d F D) (n : Int) :
    CallsV Tryz.prog 30 [.pointer (some ⟨d, 0, none⟩), .int .i64 n] w fun v w' => v = .int .i64 (D.fail n).2 ∧ At w' d F (D.fail n).1 ∧ Ext F w w' := by
  obtain ⟨sb, op, oc, h⟩ := h
  refine calls_enter Tryz.func30 rfl rfl rfl rfl ?_
  refine c_seq (c_region (wl (st_al I_ok rfl fun b2 w1 hn2 hb2 hE1 => ?_)))
  have h := h.extNo hE1
  have hg : CallsV Tryz.prog 70 (#[.pointer (some ⟨b2, 0, none⟩)] : Array Value).toList w1 fun v w' => v = .pointer (some ⟨d, 4, none⟩) ∧ Ext No w1 w' := by
    refine calls_enter Tryz.func70 rfl rfl rfl rfl ?_
    refine c_seq (c_region (wl_p I_ok rfl (wl_nil (f_then (c_seq (c_region (wl (st_ldb I_ok hb2 rfl rfl (wl_p I_ok rfl (wl_nil (f_then (c_ret (f_ret1 rfl rfl ?_)))))))))))))
    exact ⟨rfl, Ext.refl _ _⟩
  refine wl_p I_ok rfl (wl_nil (f_then (c_seq (c_region (wl (st_ldb I_ok hb2 rfl rfl (wl_p I_ok rfl (wl (st_call Tryz.call69 rfl rfl rfl rfl rfl rfl (set_any w1 h n Tryz.call70 (.inr rfl) hg) fun v2 w2 hr2 => ?_)))))))))
  obtain ⟨D', rfl, rfl, h2, hE2⟩ := hr2
  refine wl_p I_ok rfl (wl_nil (f_then (c_ret (f_ret1 rfl rfl ?_))))
  rw [if_neg (by decide : ¬ (4 = 3))] at h2
  unfold Dsk.fail
  refine ⟨?_, ?_, hE1.no.then hE2⟩
  · split <;> rfl
  · split
    · rw [if_pos ‹_›] at h2; exact h2
    · rw [if_neg ‹_›] at h2; exact h2

theorem dk_dead (w : World) {d : Nat} {F : Nat → Prop} {D : Dsk} (h : At w d F D) :
    CallsV Tryz.prog 76 [.pointer (some ⟨d, 0, none⟩)] w fun v w' => v = .bool D.dead ∧ w' = w := by
  obtain ⟨sb, op, oc, h⟩ := h
  refine calls_enter Tryz.func76 rfl rfl rfl rfl ?_
  refine c_seq (c_region (wl_p I_ok rfl (wl_nil (f_then (c_seq (c_region (wl_p I_ok rfl (wl (st_call Tryz.call81 rfl rfl rfl rfl rfl rfl (alive_live w h.head) fun v1 w1 hr1 => ?_)))))))))
  obtain ⟨rfl, rfl⟩ := hr1
  refine wl_p I_ok rfl (wl_nil (f_then (c_ret (f_ret1 rfl rfl ?_))))
  refine ⟨?_, rfl⟩
  cases D.dead <;> rfl
theorem dk_ops (w : World) {d : Nat} {F : Nat → Prop} {D : Dsk} (h : At w d F D) :
    CallsV Tryz.prog 75 [.pointer (some ⟨d, 0, none⟩)] w fun v w' => v = .int .i64 D.done ∧ w' = w := by
  obtain ⟨sb, op, oc, h⟩ := h
  refine calls_enter Tryz.func75 rfl rfl rfl rfl ?_
  refine c_seq (c_region (wl_p I_ok rfl (wl_nil (f_then (c_seq (c_seq (c_region (wl_p I_ok rfl (wl_nil (f_then (c_condF rfl ?_)))))))))))
  refine c_skip (f_then (c_seq (c_region (wl_p I_ok rfl (wl (st_ldb I_ok h.head rfl rfl (wl_p I_ok rfl (wl_nil (f_then (c_ret (f_ret1 rfl rfl ?_)))))))))))
  exact ⟨rfl, rfl⟩
theorem dk_len (w : World) {d : Nat} {F : Nat → Prop} {D : Dsk} (h : At w d F D) :
    CallsV Tryz.prog 61 [.pointer (some ⟨d, 0, none⟩)] w fun v w' => v = .int .i64 (D.secs.length : Int) ∧ w' = w := by
  obtain ⟨sb, op, oc, h⟩ := h
  refine calls_enter Tryz.func61 rfl rfl rfl rfl ?_
  refine c_seq (c_region (wl_p I_ok rfl (wl_nil (f_then (c_seq (c_seq (c_region (wl_p I_ok rfl (wl_nil (f_then (c_condF rfl ?_)))))))))))
  refine c_skip (f_then (c_seq (c_region (wl_p I_ok rfl (wl (st_ldb I_ok h.head rfl rfl (wl_p I_ok rfl (wl_nil (f_then (c_ret (f_ret1 rfl rfl ?_)))))))))))
  exact ⟨rfl, rfl⟩
end Go.Proofs.YtlfdlodcjiaiiaaGreatDoor
namespace Go.Proofs.YtlfdlodcjiaiiaaGreatDoor
open Go.Vc

theorem DiskAt.order_src {w : World} {d sb oc : Nat} {F : Nat → Prop} {op : Option Addr} {D : Dsk} (h : DiskAt w d sb op oc F D) {w' : World} (hE : Ext No w w') : Src Tryz.prog w' 1 (.slice op D.order.length oc) D.order.length (orderL D.order) :=
  Src.slice (h.order.sl.extNo hE) fun v hv => by
    obtain ⟨x, _, rfl⟩ := List.mem_map.1 hv
    rfl

theorem dk_pending (w : World) {d m : Nat} {F : Nat → Prop} {D : Dsk} (h : At w d F D) (hok : D.Ok m) (hm : m < 1000000000) :
    CallsV Tryz.prog 77 [.pointer (some ⟨d, 0, none⟩)] w fun v w' => ∃ b, v = .slice (some ⟨b, 0, none⟩) D.order.length D.order.length ∧ w.heap.size ≤ b ∧ Blk w' b 3 (orderL D.order) ∧ Ext No w w' := by
  obtain ⟨sb, op, oc, h⟩ := h
  have hfew := hok.few
  refine calls_enter Tryz.func77 rfl rfl rfl rfl ?_
  have hX := Ext.refl No w
  refine c_seq (c_region (wl_p I_ok rfl (wl_nil (f_then (c_seq (c_seq (c_region (wl_p I_ok rfl (wl_nil (f_then (c_condF rfl ?_)))))))))))
  refine c_skip ?_
  refine f_then (c_seq (c_region (wl_p I_ok rfl (wl (st_ldb I_ok h.head rfl rfl (wl_p I_ok rfl (wl (st_mk I_ok rfl D.order.length D.order.length 8 rfl (zs := [.int .i64 0]) rfl rfl (by decide) rfl rfl (Nat.le_refl _) (by omega) (by unfold maxLen; omega) fun b11 w1 hn11 hb11 hE1 hs1 => ?_))))))))
  have h1 := h.extNo hE1
  have hX := hX.thenNo hE1
  refine wl_p I_ok rfl (wl_nil (f_then (c_seq (c_region (wl_p I_ok rfl (wl (st_ldb I_ok h1.head rfl rfl (wl (st_cp I_ok rfl 1 rfl hb11 (h1.order_src (Ext.refl _ _)) (Nat.le_refl _) (by rw [rep_length]; simp) fun w2 hc2 hE2 hs2 => ?_)))))))))
  have hX := hX.thenNew hE2 hn11
  refine wl_nil (f_then (c_seq (c_region (wl_p I_ok rfl (wl_nil (f_then (c_ret (f_ret1 rfl rfl ?_))))))))
  refine ⟨b11, rfl, hn11, ?_, hX⟩
  have hc2 : Blk w2 b11 3 (put (rep D.order.length [.int .i64 0]) 0 (orderL D.order)) := hc2
  rwa [put_whole (by rw [rep_length]; simp [orderL])] at hc2

theorem dk_nilPending (w : World) : CallsV Tryz.prog 77 [.pointer none] w fun v w' => v = .slice none 0 0 ∧ w' = w := by
  refine calls_enter Tryz.func77 rfl rfl rfl rfl ?_
  refine c_seq (c_region (wl_p I_ok rfl (wl_nil (f_then (c_seq (c_seq (c_region (wl_p I_ok rfl (wl_nil (f_then (c_condT rfl ?_)))))))))))
  refine c_seq ?_
  refine c_region (wl_p I_ok rfl (wl_nil (f_then (c_ret (f_thenR (f_ret1 rfl rfl ?_))))))
  exact ⟨rfl, rfl⟩

theorem fresh_rows (w : World) (F : Nat → Prop) (n : Nat) : RowsAt w F (Dsk.fresh n).secs (List.replicate n (secRow zeros none 0 0)) := by
  refine ⟨by simp [Dsk.fresh], fun i s r hs hr => ?_⟩
  simp only [Dsk.fresh] at hs
  have h1 := List.mem_of_getElem? hs
  have h2 := List.mem_of_getElem? hr
  rw [List.eq_of_mem_replicate h1, List.eq_of_mem_replicate h2]
  refine ⟨none, 0, rfl, Nat.le_refl _, zeros_length, fun b hb => (by cases hb), ⟨rfl, .inl rfl⟩, fun b off hb => (by cases hb)⟩

theorem dk_new (w : World) (n : Int) : CallsV Tryz.prog 15 [.int .i64 n] w fun v w' =>
    if 1 ≤ n ∧ n ≤ 2048 then ∃ d, v = .tuple #[.pointer (some ⟨d, 0, none⟩), .int .i64 0] ∧ w.heap.size ≤ d ∧ At w' d (Grow No w w') (Dsk.fresh n.toNat) ∧ Ext No w w'
    else v = .tuple #[.pointer none, .int .i64 2] ∧ Ext No w w' := by
  refine calls_enter Tryz.func15 rfl rfl rfl rfl ?_
  have hX := Ext.refl No w
  refine c_seq (c_region (wl_p I_ok rfl (wl_nil (f_then (c_seq (c_cutK (α := Bool) [0] rfl (fun z => [(9, .bool z)]) (fun z u => u = w ∧ z = decide (¬ (1 ≤ n ∧ n ≤ 2048))) ?_ ?_))))))
  · refine c_region ?_
    refine wl_p I_ok rfl (wl_caseD 6 rfl (fun hg => ?_) (fun hg => ?_))
    · refine wl_pg I_ok rfl (wl_nil (f_cut _ rfl ⟨rfl, ?_⟩))
      simp; omega
    · refine wl_pg I_ok rfl (wl_nil (f_cut _ rfl ⟨rfl, ?_⟩))
      simp only [decide_eq_decide]; omega
  rintro z w ⟨rfl, rfl⟩
  refine c_if rfl (fun hc => ?_) (fun hc => ?_)
  · refine c_seq ?_
    refine c_region (wl_p I_ok rfl (wl_nil (f_then (c_ret (f_thenR (f_ret2 rfl rfl rfl ?_))))))
    rw [if_neg hc]
    exact ⟨rfl, hX⟩
  · have hn := Decidable.not_not.1 hc
    refine c_skip ?_
    refine f_then (c_seq (c_region (wl_p I_ok rfl (wl (st_mk I_ok rfl n.toNat n.toNat 88 rfl (zs := secRow zeros none 0 0) (by simp [ti81, secRow, zeros, bytesU]) rfl (by decide) (by omega) (by omega) (Nat.le_refl _) (by omega) (by unfold maxLen; omega) fun b11 w1 hn11 hb11 hE1 hs1 => ?_)))))
    have hX := hX.thenNo hE1
    refine wl (st_bd I_ok rfl (by simp [partsOk, ti85]) rfl (wl (st_al I_ok rfl fun b13 w2 hn13 hb13 hE2 => ?_)))
    have fr13 := Nat.le_trans hX.size hn13
    have hb11' := hb11.extNo hE2
    have hX := hX.thenNo hE2
    refine wl_p I_ok rfl (wl_nil (f_then (c_ret (f_ret2 rfl rfl rfl ?_))))
    rw [if_pos hn]
    have e : (Dsk.fresh n.toNat).secs.length = n.toNat := by simp [Dsk.fresh]
    refine ⟨b13, rfl, fr13, ⟨b11, none, 0, ?_, ⟨_, hb11', fresh_rows _ _ _⟩, .inl ⟨rfl, rfl, rfl, rfl⟩, ⟨.inr ⟨fr13, hb13.lt⟩, .inr ⟨hn11, hb11'.lt⟩, fun x hx => (by cases hx)⟩, fun x hx => hx.elim False.elim fun h => h.2⟩, hX⟩
    rw [e]
    exact hb13
end Go.Proofs.YtlfdlodcjiaiiaaGreatDoor
namespace Go.Proofs.YtlfdlodcjiaiiaaGreatDoor
open Go.Vc

theorem flat_sec (s : Bytes) (p : Option Addr) (n c : Nat) : ∀ u ∈ secRow s p n c, u.oneCell' = true := fun u hu => by
  simp only [secRow, List.mem_append, List.mem_singleton] at hu
  rcases hu with hu | rfl
  · exact one_bytes u hu
  · rfl

theorem dk_copy (w : World) {d m : Nat} {F : Nat → Prop} {D : Dsk} (h : At w d F D) (hok : D.Ok m) (hm : m < 1000000000) :
    CallsV Tryz.prog 78 [.pointer (some ⟨d, 0, none⟩)] w fun v w' => ∃ c, v = .pointer (some ⟨c, 0, none⟩) ∧ w.heap.size ≤ c ∧ At w' c (Grow No w w') D ∧ Ext No w w' := by
  obtain ⟨sb, op, oc, h⟩ := h
  have hfew := hok.few
  have hsize := hok.size
  refine calls_enter Tryz.func78 rfl rfl rfl rfl ?_
  have hX := Ext.refl No w
  refine c_seq (c_region (wl_p I_ok rfl (wl_nil (f_then (c_seq (c_seq (c_region (wl_p I_ok rfl (wl_nil (f_then (c_condF rfl ?_)))))))))))
  refine c_skip ?_
  refine f_then (c_seq (c_region (wl_p I_ok rfl (wl (st_ldB I_ok h.head rfl rfl (wl (st_al I_ok rfl fun b3 w1 hn3 hb3 hE1 => ?_)))))))
  have fr3 := Nat.le_trans hX.size hn3
  have hX := hX.thenNo hE1
  refine wl (st_stW I_ok hb3 rfl rfl rfl rfl (by simp; exact ⟨rfl, rfl, rfl, rfl, rfl, rfl⟩) fun w2 hb3 hE2 hs2 => ?_)
  have hX := hX.thenNew hE2 fr3
  have h2 := h.extNo hX
  refine wl_nil (f_then (c_seq (c_region (wl_p I_ok rfl (wl (st_call Tryz.call77 rfl rfl rfl rfl rfl rfl (dk_pending w2 ⟨_, _, _, h2⟩ hok hm) fun v3 w3 hr3 => ?_))))))
  obtain ⟨bo, rfl, hno, hbo, hE3⟩ := hr3
  have ne3_o : b3 ≠ bo := Nat.ne_of_lt (Nat.lt_of_lt_of_le hb3.lt hno)
  have fro := Nat.le_trans hX.size hno
  have hb3 := hb3.extNo hE3
  have hX := hX.thenNo hE3
  refine wl_p I_ok rfl (wl (st_st I_ok hb3 rfl rfl rfl fun w4 hb3 hE4 hs4 => ?_))
  have hbo := hbo.ext1 hE4 ne3_o.symm
  have hX := hX.thenNew hE4 fr3
  have h4 := h.extNo hX
  refine wl_nil (f_then (c_seq (c_region (wl_p I_ok rfl (wl (st_ldb I_ok h4.head rfl rfl (wl_p I_ok rfl (wl (st_mk I_ok rfl D.secs.length D.secs.length 88 rfl (zs := secRow zeros none 0 0) (by simp [ti81, secRow, zeros, bytesU]) rfl (by decide) rfl rfl (Nat.le_refl _) (by omega) (by unfold maxLen; omega) fun b19 w5 hn19 hb19 hE5 hs5 => ?_)))))))))
  have ne3_19 : b3 ≠ b19 := Nat.ne_of_lt (Nat.lt_of_lt_of_le hb3.lt hn19)
  have neo_19 : bo ≠ b19 := Nat.ne_of_lt (Nat.lt_of_lt_of_le hbo.lt hn19)
  have fr19 := Nat.le_trans hX.size hn19
  have hb3 := hb3.extNo hE5
  have hbo := hbo.extNo hE5
  have hX := hX.thenNo hE5
  refine wl_p I_ok rfl (wl (st_st I_ok hb3 rfl rfl rfl fun w6 hb3 hE6 hs6 => ?_))
  have hb19 := hb19.ext1 hE6 ne3_19.symm
  have hbo := hbo.ext1 hE6 ne3_o.symm
  have hX := hX.thenNew hE6 fr3
  have hb3 : Blk w6 b3 85 (dskL b19 D.secs.length (some ⟨bo, 0, none⟩) D.order.length D.order.length D.dead D.fuse D.fault D.done) := hb3
  have h6 := h.extNo hX
  obtain ⟨L, hL1, hL2⟩ := h.secs
  have hu := hL2.uni
  have hlenL := rows_length hu
  refine wl_nil (f_then (c_seq (c_seq (c_region (wl_p I_ok rfl (wl (st_ldb I_ok h6.head rfl rfl (wl_p I_ok rfl (wl_nil (f_then (c_block ?_)))))))))))
  refine c_loop (α := Nat × List Sec) (fun z u => z.1 ≤ D.secs.length ∧ z.2.length = D.secs.length ∧ (∀ j, j < z.1 → z.2[j]? = D.secs[j]?) ∧ Ext No w u ∧
      Blk u b3 85 (dskL b19 D.secs.length (some ⟨bo, 0, none⟩) D.order.length D.order.length D.dead D.fuse D.fault D.done) ∧ Blk u bo 3 (orderL D.order) ∧ ∃ M, Blk u b19 81 (List.flatten M) ∧ RowsAt u (Grow No w u) z.2 M)
    (fun z => [(26, .int .i64 (z.1 : Int)), (3, .pointer (some ⟨b3, 0, none⟩)), (24, .slice (some ⟨sb, 0, none⟩) D.secs.length D.secs.length), (25, .int .i64 (D.secs.length : Int))]) (fun z u => D.secs.length - z.1) (0, (Dsk.fresh D.secs.length).secs) rfl ?_ ?_
  · exact ⟨Nat.zero_le _, by simp [Dsk.fresh], fun j hj => absurd hj (by simp), hX, hb3, hbo, _, hb19, fresh_rows _ _ _⟩
  rintro ⟨i, cur⟩ u ⟨hi, hlen, hsame, hXu, hb3, hbo, M, hM1, hM2⟩
  dsimp only at hi hlen hsame hM2 ⊢
  refine c_seq ?_
  refine c_region (wl_p I_ok rfl (wl_nil (f_then (c_seq (c_if rfl (fun hc => ?_) (fun hc => ?_))))))
  · have hi' : i < D.secs.length := by omega
    have hs : D.secs[i]? = some D.secs[i] := by simp [hi']
    generalize hss : D.secs[i] = s at hs
    have hiL : i < L.length := by rw [hL2.1]; exact hi'
    have hr : L[i]? = some L[i] := by simp
    generalize hrd : L[i] = r at hr
    obtain ⟨p, c, hrow, hcap, h64, hw64, hsl, hpF⟩ := (hL2.2 i s r hs hr).ext hXu fun _ _ _ => id
    have hfewS := waits_few hok hs
    have hrlen : r.length = 65 := by rw [hrow]; simp [secRow, bytesU, h64]
    have hrseg : Seg u sb (0 + i * 65) r := by
      have := ((hL1.extNo hXu).seg.drop (i * 65)).take 65
      rwa [rows_row hu hr] at this
    refine c_skip ?_
    refine f_then (c_seq (c_block (c_seq (c_region (wl_p I_ok rfl (wl (st_ix I_ok rfl 65 rfl i rfl hi' (0 + i * 65) rfl (wl (st_ldN I_ok rfl hrseg hrlen (wl (st_al I_ok rfl fun b5 w7 hn5 hb5 hE7 => ?_)))))))))))
    have ne3_5 : b3 ≠ b5 := Nat.ne_of_lt (Nat.lt_of_lt_of_le hb3.lt hn5)
    have neo_5 : bo ≠ b5 := Nat.ne_of_lt (Nat.lt_of_lt_of_le hbo.lt hn5)
    have ne19_5 : b19 ≠ b5 := Nat.ne_of_lt (Nat.lt_of_lt_of_le hM1.lt hn5)
    have fr5 := Nat.le_trans hXu.size hn5
    have hb3 := hb3.extNo hE7
    have hbo := hbo.extNo hE7
    have hM1u := hM1
    have hM1 := hM1.extNo hE7
    have hX := hXu.thenNo hE7
    have hXX : Ext No u w7 := hE7
    subst hrow
    refine wl_p I_ok rfl (wl (st_stW I_ok hb5 rfl rfl (by rw [cellsOf_agg]; exact hrlen) (by rw [cellsOf_agg, hrlen]; rfl) (by rw [cellsOf_agg]; exact flat_sec _ _ _ _) fun w8 hb5 hE8 hs8 => ?_))
    have hb5 : Blk w8 b5 81 (secRow s.safe p s.waits.length c) := hb5
    have hb3 := hb3.ext1 hE8 ne3_5
    have hbo := hbo.ext1 hE8 neo_5
    have hM1 := hM1.ext1 hE8 ne19_5
    have hXX := hXX.thenNew hE8 hn5
    have hX := hX.thenNew hE8 fr5
    have hMlen : M.length = D.secs.length := hM2.1.trans hlen
    have hiM : i < M.length := by omega
    have hx : M[i]? = some M[i] := by simp
    generalize hxd : M[i] = x at hx
    have hcs : cur[i]? = some (cur[i]'(by omega)) := by simp [show i < cur.length by omega]
    generalize hcd : cur[i]'(by omega) = s0 at hcs
    obtain ⟨p0, c0, hrow0, _, h640, _, _, _⟩ := hM2.2 i s0 x hcs hx
    have huM := hM2.uni
    have hlenM := rows_length huM
    have hbig := Nat.mul_le_mul_right 65 (Nat.succ_le_of_lt hiM)
    have hcell5 : w8.cell? ⟨b5, 64, none⟩ = some (.slice p s.waits.length c) := hb5.cell (by simp [secRow, bytesU, h64])
    have hseg5 : Seg w8 b5 0 (bytesU s.safe) := by
      have := hb5.seg.take 64
      simpa [secRow, bytesU, h64] using this
    refine wl_nil (f_then (c_seq (c_region (wl_p I_ok rfl (wl (st_ldb I_ok hb3 rfl rfl (wl_p I_ok rfl (wl (st_ldN I_ok rfl hseg5 (by simp [bytesU, h64]) (wl (st_ix I_ok rfl 65 rfl i rfl (by omega) (0 + i * 65) rfl (wl_p I_ok rfl ?_))))))))))))
    refine wl (st_stN I_ok hM1 rfl (by rw [cellsOf_agg]; simp [bytesU, h64]) (by rw [hlenM]; show 0 + i * 65 + 64 ≤ _; omega) (by rw [cellsOf_agg]; exact one_bytes) fun w9 hM9 hE9 hs9 => ?_)
    have hM9 : Blk w9 b19 81 (Vc.put M.flatten (i * 65 + 0) (bytesU s.safe)) := by simpa using hM9
    rw [rows_put huM hx _ (by simp [bytesU, h64])] at hM9
    have hrow9 : Vc.put x 0 (bytesU s.safe) = secRow s.safe p0 s0.waits.length c0 := by
      rw [hrow0, put_eq _ _ _ (by simp [secRow, bytesU, h64, h640])]
      simp [secRow, bytesU, h64, h640]
    rw [hrow9] at hM9
    have hb3 := hb3.ext1 hE9 ne3_19
    have hbo := hbo.ext1 hE9 neo_19
    have hcell5 := cell_ext hcell5 hE9 (Ne.symm ne19_5)
    have hX := hX.thenNew hE9 fr19
    have hXX : Ext (Vc.One b19) u w9 := hXX.no.then hE9
    refine wl_nil (f_then (c_draw rfl 7 [(0, true), (1, true), (2, true), (4, true), (5, true), (3, false), (6, false)] [7, 8, 9] No (by kernel_rfl) fun w10 hE10 hs10 => ?_))
    have hXX := hXX.thenNo hE10
    have hX := hX.thenNo hE10
    refine wd_p I_ok rfl (wd_ld I_ok rfl rfl (fun w' hw' => (hb3.extNo hw').cell rfl) ?_)
    refine wd_p I_ok rfl (wd_ld I_ok rfl rfl (fun w' hw' => cell_ext hcell5 hw' id) ?_)
    refine wd_l rfl (st_bs I_ok rfl 64 rfl z29 (bytesU_64 zeros_length) (by decide) (by decide) trivial (l' := []) rfl fun b43 w11 hn43 hb43 hE11 hs11 => ⟨hE10.thenNo hE11, ?_⟩)
    have fr43 := Nat.le_trans hX.size hn43
    have fr43u := Nat.le_trans hXX.size hn43
    have hXX := hXX.thenNo hE11
    have hX := hX.thenNo hE11
    have hE911 := hE10.thenNo hE11
    have hown : Own w11 (some ⟨b43, 0, none⟩) 0 0 37 64 [] := .inr ⟨b43, [], rfl, hb43, rfl, Nat.le_refl _, by unfold maxLen; omega, rfl⟩
    have hSt : ∀ x, TyB u x 37 → x ≠ b19 := fun x hx => hx.ne hM1u (by decide)
    have hsl11 := hsl.ext hXX fun b off hb => hSt b (hpF b off hb).2
    have hsrc : Src Tryz.prog w11 64 (.slice p s.waits.length c) s.waits.length (bl s.waits).flatten := Src.slice hsl11 fun v hv => by
      simp only [bl, bytesU, List.mem_flatten, List.mem_map] at hv
      obtain ⟨l, ⟨b, _, rfl⟩, hv⟩ := hv
      exact one_bytes v hv
    refine wd_l rfl (st_app I_ok rfl 64 64 rfl rfl (by rw [z29]; exact bytesU_64 zeros_length) (by decide) hown hsrc (by dsimp only [maxLen]; omega) (by dsimp only; omega) fun p12 c12 w12 ho12 hE12 hB12 => ⟨hE911.trans hE12 fun x hx e => ?_, ?_⟩)
    · simp at e
    have ho12 : Own w12 p12 (0 + s.waits.length) c12 37 64 (bl s.waits).flatten := ho12
    rw [Nat.zero_add] at ho12
    have hE12' : Ext (Vc.One b43) w11 w12 := hE12.mono fun x _ e => by simp at e; exact e.symm
    have hXX := hXX.thenNew hE12' fr43u
    have hX := hX.thenNew hE12' fr43
    have hM12 := (hM9.extNo hE911).ext1 hE12' (Nat.ne_of_lt (Nat.lt_of_lt_of_le hM9.lt (Nat.le_trans hE10.size hn43)))
    have hu9 : Uni 65 (M.set i (secRow s.safe p0 s0.waits.length c0)) := huM.set i (by simp [secRow, bytesU, h64])
    have hx9 : (M.set i (secRow s.safe p0 s0.waits.length c0))[i]? = some (secRow s.safe p0 s0.waits.length c0) := by simp [hiM]
    have hlen9 := rows_length hu9
    rw [List.length_set] at hlen9
    refine wd_sw (wb rfl (st_ix I_ok rfl 65 rfl i rfl (by omega) (0 + i * 65) rfl (wb rfl (st_p I_ok rfl rfl rfl (wb rfl (st_set I_ok hM12 rfl rfl (by rw [hlen9]; show 0 + i * 65 + 64 < _; omega) fun w13 hM13 hE13 hs13 => ?_))))))
    have hM13 : Blk w13 b19 81 ((M.set i (secRow s.safe p0 s0.waits.length c0)).flatten.set (0 + i * 65 + 64) (.slice p12 (0 + s.waits.length) c12)) := hM13
    rw [Nat.zero_add, Nat.zero_add] at hM13
    have hM13 : Blk w13 b19 81 (Vc.put (M.set i (secRow s.safe p0 s0.waits.length c0)).flatten (i * 65 + 64) [.slice p12 s.waits.length c12]) := hM13
    rw [rows_put hu9 hx9 _ (by simp), List.set_set] at hM13
    have hXX := hXX.then hE13
    have hX := hX.thenNew hE13 fr19
    have hrow13 : Vc.put (secRow s.safe p0 s0.waits.length c0) 64 [.slice p12 s.waits.length c12] = secRow s.safe p12 s.waits.length c12 := by
      rw [put_eq _ _ _ (by simp [secRow, bytesU, h64])]
      simp [secRow, bytesU, h64]
    rw [hrow13] at hM13
    have hE913 : Ext (fun x => x = b43 ∨ x = b19) w9 w13 := ((hE911.no.then (hE12'.mono fun _ _ e => .inl e))).then (hE13.mono fun _ _ e => .inr e)
    have hb3' := hb3.ext hE913 fun e => e.elim (fun e => Nat.ne_of_lt (Nat.lt_of_lt_of_le hb3.lt (Nat.le_trans hE10.size hn43)) e) ne3_19
    have hbo' := hbo.ext hE913 fun e => e.elim (fun e => Nat.ne_of_lt (Nat.lt_of_lt_of_le hbo.lt (Nat.le_trans hE10.size hn43)) e) neo_19
    refine wb_nil (f_blockN (f_then (c_region (wl_p I_ok rfl ?_))))
    rw [IntWalk.i64_in _ (by omega)]
    refine wl_nil (f_round (i + 1, cur.modify i fun _ => s) rfl ⟨by simp only; omega, by simp only [List.length_modify]; omega, ?_, hX, hb3', hbo', _, hM13, ?_⟩ (by simp only; omega))
    · intro j hj
      simp only at hj ⊢
      rw [List.getElem?_modify]
      by_cases hij : i = j
      · subst hij
        rw [hcs, hs]
        simp
      · rw [hsame j (by omega)]
        simp [hij]
    · have hM2u : RowsAt w13 (Grow No w w13) cur M := (hM2.ext hXX fun x _ hx => hSt x hx).mono fun x hx => hx.wide (Nat.le_refl _) hXX.size
      refine hM2u.modify fun _ _ => ?_
      have hnew : ∀ b off, p12 = some ⟨b, off, none⟩ → w.heap.size ≤ b ∧ TyB w12 b 37 ∧ off = 0 := by
        intro b off hb
        have hown12 : OwnB p12 b ∧ off = 0 := by
          rcases ho12 with ⟨hp, _⟩ | ⟨b', l, hp, _⟩
          · rw [hp] at hb; cases hb
          · rw [hp] at hb; simp at hb; obtain ⟨rfl, rfl⟩ := hb; exact ⟨hp, rfl⟩
        refine ⟨?_, Own.ty ho12 hown12.1, hown12.2⟩
        rcases hB12 b hown12.1 with h' | h'
        · have h' : some (⟨b43, 0, none⟩ : Addr) = some ⟨b, 0, none⟩ := h'
          have h' : b43 = b := by simp at h'; exact h'
          omega
        · have := hb43.lt
          omega
      have hb19at : ∀ b, TyB w12 b 37 → b ≠ b19 := fun b hb => hb.ne hM12 (by decide)
      refine ⟨p12, c12, rfl, ho12.cap, h64, hw64, ?_, fun b off hb => ?_⟩
      · exact ho12.sl.ext hE13 fun b off hb => hb19at b (hnew b off hb).2.1
      · have hty := (hnew b off hb).2.1.ext hE13 (hb19at b (hnew b off hb).2.1)
        obtain ⟨l, hl⟩ := hty
        exact ⟨.inr ⟨(hnew b off hb).1, hl.lt⟩, l, hl⟩
  · have hie : i = D.secs.length := by omega
    refine c_exit ?_
    refine f_thenE (f_thenE (f_blockE (f_then (c_seq (c_region (wl_p I_ok rfl (wl_nil (f_then (c_ret (f_ret1 rfl rfl ?_))))))))))
    have hcur : cur = D.secs := by
      apply List.ext_getElem?
      intro j
      by_cases hj : j < i
      · exact hsame j hj
      · rw [List.getElem?_eq_none (by omega), List.getElem?_eq_none (by omega)]
    rw [hcur] at hM2
    refine ⟨b3, rfl, fr3, ⟨b19, some ⟨bo, 0, none⟩, D.order.length, hb3, ⟨M, hM1, hM2⟩, ?_, ⟨.inr ⟨fr3, hb3.lt⟩, .inr ⟨fr19, hM1.lt⟩, fun x hx => ?_⟩, fun x hx => hx.elim False.elim fun h => h.2⟩, hXu⟩
    · have := Own.blk hbo 1 (n := D.order.length) (c := D.order.length) (by simp [orderL]) (Nat.le_refl _) (by unfold maxLen; omega)
      rwa [List.take_of_length_le (by simp [orderL])] at this
    · simp at hx
      subst hx
      exact .inr ⟨fro, hbo.lt⟩
end Go.Proofs.YtlfdlodcjiaiiaaGreatDoor
namespace Go.Proofs.YtlfdlodcjiaiiaaGreatDoor
open Go.Vc
theorem lies16_calls (w : World) {p : Option Addr} {c : Nat} {l : List UInt8} (h : SlB w p l) (hl : l.length < 1000000000) (x n : Nat) (hn : n < 100) (hx : x < 2 ^ 16) :
    CallsV Tryz.prog 101 [.slice p l.length c, .int .u16 (x : Int), .int .i64 (n : Int)] w fun v w' => ∃ b, v = .slice (some ⟨b, 0, none⟩) (l.length + n) (l.length + n) ∧ w.heap.size ≤ b ∧ Blk w' b 5 (bytesU (l ++ be n x)) ∧ Ext No w w' := by
  refine calls_enter Tryz.func101 rfl rfl rfl rfl ?_
  have hX := Ext.refl No w
  refine c_seq (c_region (wl_p I_ok rfl (wl_nil (f_then (c_seq (c_region (wl_p I_ok rfl ?_)))))))
  rw [IntWalk.i64_in _ (by omega)]
  refine wl (st_mk I_ok rfl (l.length + n) (l.length + n) 1 rfl rfl rfl (by decide) (by omega) (by omega) (Nat.le_refl _) (by omega) (by unfold maxLen; omega) fun b14 w1 hn14 hb14 hE1 hs1 => ?_)
  have fr14 := Nat.le_trans hX.size hn14
  have hX := hX.thenNo hE1
  have hb14 : Blk w1 b14 5 (bytesU (List.replicate (l.length + n) 0)) := by (have e : rep (l.length + n) (cellsOf ti5.zero) = bytesU (List.replicate (l.length + n) 0) := rep_bytes _); rw [← e]; exact hb14
  refine wl_p I_ok rfl (wl_nil (f_then (c_seq (c_region (wl_p I_ok rfl (wl (st_cp I_ok rfl 1 rfl hb14 (Src.slice (h.extNo hX) OneC.h) (by dsimp only; omega) (by rw [bytesU_len, List.length_replicate]; dsimp only; omega) fun w2 hc2 hE2 hs2 => ?_)))))))
  have hb14 : Blk w2 b14 5 (bytesU (l ++ (List.replicate n 0 ++ []))) := by
    have e : Vc.put (bytesU (List.replicate (l.length + n) 0)) 0 (bytesU l) = bytesU (l ++ (List.replicate n 0 ++ [])) := by
      rw [put_eq _ _ _ (by simp [bytesU_len])]
      rw [bytesU_drop]
      simp [bytesU_append, bytesU_len]
    rw [← e]; exact hc2
  have hX := hX.thenNew hE2 fr14
  refine wl_p I_ok rfl (wl_nil (f_then (c_seq (c_seq (c_region (wl_p I_ok rfl (wl_nil (f_then (c_block ?_)))))))))
  refine c_loopK (α := Nat × Nat × List UInt8) [7, 8] rfl (fun z => [(1, .int .u16 (z.2.1 : Int)), (9, .int .i64 ((l.length + z.1 : Nat) : Int))]) (fun z u => (z.1 ≤ n ∧ z.2.1 < 2 ^ 16 ∧ be n x = be z.1 z.2.1 ++ z.2.2 ∧ Blk u b14 5 (bytesU (l ++ (List.replicate z.1 0 ++ z.2.2)))) ∧ Ext No w u) (fun z u => z.1) (n, x, []) rfl ⟨⟨Nat.le_refl _, hx, by simp, hb14⟩, hX⟩ ?_
  rintro ⟨j, y, t⟩ w3 ⟨⟨hj, hy, hbe, hb14⟩, hX⟩
  try dsimp only
  dsimp only at hj hy hbe hb14
  refine c_seq (c_seq (c_region (wl_p I_ok rfl (wl_nil (f_then (c_if rfl (fun hc => ?_) (fun hc => ?_)))))))
  · obtain ⟨i, rfl⟩ : ∃ i, j = i + 1 := ⟨j - 1, by omega⟩
    refine c_skip (f_then (c_block (c_seq (c_region (wl_p I_ok rfl ?_)))))
    rw [IntWalk.i64_in _ (by omega)]
    refine wl_nil (f_then (c_seq (c_region (wl_p I_ok rfl ?_))))
    rw [show (((l.length + (i + 1) : Nat) : Int) - 1) = ((l.length + i : Nat) : Int) from by omega]
    rw [wrap_byte]
    refine wl (st_ix I_ok rfl 1 rfl (l.length + i) rfl (by omega) (0 + (l.length + i) * 1) rfl (wl (st_set I_ok hb14 rfl rfl (by rw [bytesU_len]; simp; omega) fun w4 hb14 hE4 hs4 => ?_)))
    have hX := hX.thenNew hE4 fr14
    have hb14 : Blk w4 b14 5 (bytesU (l ++ (List.replicate i 0 ++ (UInt8.ofNat y :: t)))) := by
      rw [Nat.zero_add, Nat.mul_one, fill_byte] at hb14
      exact hb14
    refine wl_nil (f_then (c_seq (c_region (wl_p I_ok rfl (wl_nil (f_then (c_region (wl_p I_ok rfl ?_))))))))
    rw [show Int.fdiv (Int.fdiv (y : Int) (2 ^ min (4 : Int).toNat IntKind.u16.bits)) (2 ^ min (4 : Int).toNat IntKind.u16.bits) = ((y / 16 / 16 : Nat) : Int) from by rw [show (2 : Int) ^ min (4 : Int).toNat IntKind.u16.bits = 2 ^ 4 from rfl, shr4, shr4]]
    refine wl_nil ?_
    exact f_blockN (f_round (i, y / 16 / 16, UInt8.ofNat y :: t) rfl ⟨⟨by dsimp only; omega, by dsimp only; omega, by dsimp only; rw [hbe, be, Nat.div_div_eq_div_mul]; simp, hb14⟩, hX⟩ (by first | omega | (dsimp only; omega)))
  · have hj0 : j = 0 := by omega
    subst hj0
    have hbe : be n x = t := by rw [hbe]; rfl
    rw [List.replicate_zero, List.nil_append, ← hbe] at hb14
    refine c_exit (f_thenE (f_thenE (f_blockE (f_then (c_seq (c_region (wl_p I_ok rfl (wl_nil (f_then (c_ret (f_ret1 rfl rfl ?_)))))))))))
    exact ⟨b14, rfl, fr14, hb14, hX⟩

theorem put16_calls (w : World) {p : Option Addr} {c : Nat} {l : List UInt8} (h : SlB w p l) (hl : l.length < 1000000000) (x : Nat) (hx : x < 2 ^ 16) :
    CallsV Tryz.prog 89 [.slice p l.length c, .int .u16 (x : Int)] w fun v w' => ∃ b, v = .slice (some ⟨b, 0, none⟩) (l ++ be 2 x).length (l ++ be 2 x).length ∧ w.heap.size ≤ b ∧ Blk w' b 5 (bytesU (l ++ be 2 x)) ∧ Ext No w w' := by
  refine calls_enter Tryz.func89 rfl rfl rfl rfl ?_
  have hX := Ext.refl No w
  refine c_seq (c_region (wl_p I_ok rfl (wl_nil (f_then (c_seq (c_region (wl_p I_ok rfl ?_)))))))
  have hX0 := hX
  refine wl (st_call Tryz.call101 rfl rfl rfl rfl rfl rfl (lies16_calls w (h.extNo hX) hl x 2 (by decide) hx) fun v1 w1 hr1 => ?_)
  obtain ⟨b, rfl, hn, hb, hE1⟩ := hr1
  have hX := hX.thenNo hE1
  refine wl_p I_ok rfl (wl_nil (f_then (c_ret (f_ret1 rfl rfl ?_))))
  exact ⟨b, by simp [be_len], Nat.le_trans hX0.size hn, hb, hX⟩

theorem lies32_calls (w : World) {p : Option Addr} {c : Nat} {l : List UInt8} (h : SlB w p l) (hl : l.length < 1000000000) (x n : Nat) (hn : n < 100) (hx : x < 2 ^ 32) :
    CallsV Tryz.prog 99 [.slice p l.length c, .int .u32 (x : Int), .int .i64 (n : Int)] w fun v w' => ∃ b, v = .slice (some ⟨b, 0, none⟩) (l.length + n) (l.length + n) ∧ w.heap.size ≤ b ∧ Blk w' b 5 (bytesU (l ++ be n x)) ∧ Ext No w w' := by
  refine calls_enter Tryz.func99 rfl rfl rfl rfl ?_
  have hX := Ext.refl No w
  refine c_seq (c_region (wl_p I_ok rfl (wl_nil (f_then (c_seq (c_region (wl_p I_ok rfl ?_)))))))
  rw [IntWalk.i64_in _ (by omega)]
  refine wl (st_mk I_ok rfl (l.length + n) (l.length + n) 1 rfl rfl rfl (by decide) (by omega) (by omega) (Nat.le_refl _) (by omega) (by unfold maxLen; omega) fun b14 w1 hn14 hb14 hE1 hs1 => ?_)
  have fr14 := Nat.le_trans hX.size hn14
  have hX := hX.thenNo hE1
  have hb14 : Blk w1 b14 5 (bytesU (List.replicate (l.length + n) 0)) := by (have e : rep (l.length + n) (cellsOf ti5.zero) = bytesU (List.replicate (l.length + n) 0) := rep_bytes _); rw [← e]; exact hb14
  refine wl_p I_ok rfl (wl_nil (f_then (c_seq (c_region (wl_p I_ok rfl (wl (st_cp I_ok rfl 1 rfl hb14 (Src.slice (h.extNo hX) OneC.h) (by dsimp only; omega) (by rw [bytesU_len, List.length_replicate]; dsimp only; omega) fun w2 hc2 hE2 hs2 => ?_)))))))
  have hb14 : Blk w2 b14 5 (bytesU (l ++ (List.replicate n 0 ++ []))) := by
    have e : Vc.put (bytesU (List.replicate (l.length + n) 0)) 0 (bytesU l) = bytesU (l ++ (List.replicate n 0 ++ [])) := by
      rw [put_eq _ _ _ (by simp [bytesU_len])]
      rw [bytesU_drop]
      simp [bytesU_append, bytesU_len]
    rw [← e]; exact hc2
  have hX := hX.thenNew hE2 fr14
  refine wl_p I_ok rfl (wl_nil (f_then (c_seq (c_seq (c_region (wl_p I_ok rfl (wl_nil (f_then (c_block ?_)))))))))
  refine c_loopK (α := Nat × Nat × List UInt8) [7, 8] rfl (fun z => [(1, .int .u32 (z.2.1 : Int)), (9, .int .i64 ((l.length + z.1 : Nat) : Int))]) (fun z u => (z.1 ≤ n ∧ z.2.1 < 2 ^ 32 ∧ be n x = be z.1 z.2.1 ++ z.2.2 ∧ Blk u b14 5 (bytesU (l ++ (List.replicate z.1 0 ++ z.2.2)))) ∧ Ext No w u) (fun z u => z.1) (n, x, []) rfl ⟨⟨Nat.le_refl _, hx, by simp, hb14⟩, hX⟩ ?_
  rintro ⟨j, y, t⟩ w3 ⟨⟨hj, hy, hbe, hb14⟩, hX⟩
  try dsimp only
  dsimp only at hj hy hbe hb14
  refine c_seq (c_seq (c_region (wl_p I_ok rfl (wl_nil (f_then (c_if rfl (fun hc => ?_) (fun hc => ?_)))))))
  · obtain ⟨i, rfl⟩ : ∃ i, j = i + 1 := ⟨j - 1, by omega⟩
    refine c_skip (f_then (c_block (c_seq (c_region (wl_p I_ok rfl ?_)))))
    rw [IntWalk.i64_in _ (by omega)]
    refine wl_nil (f_then (c_seq (c_region (wl_p I_ok rfl ?_))))
    rw [show (((l.length + (i + 1) : Nat) : Int) - 1) = ((l.length + i : Nat) : Int) from by omega]
    rw [wrap_byte]
    refine wl (st_ix I_ok rfl 1 rfl (l.length + i) rfl (by omega) (0 + (l.length + i) * 1) rfl (wl (st_set I_ok hb14 rfl rfl (by rw [bytesU_len]; simp; omega) fun w4 hb14 hE4 hs4 => ?_)))
    have hX := hX.thenNew hE4 fr14
    have hb14 : Blk w4 b14 5 (bytesU (l ++ (List.replicate i 0 ++ (UInt8.ofNat y :: t)))) := by
      rw [Nat.zero_add, Nat.mul_one, fill_byte] at hb14
      exact hb14
    refine wl_nil (f_then (c_seq (c_region (wl_p I_ok rfl (wl_nil (f_then (c_region (wl_p I_ok rfl ?_))))))))
    rw [show Int.fdiv (Int.fdiv (y : Int) (2 ^ min (4 : Int).toNat IntKind.u32.bits)) (2 ^ min (4 : Int).toNat IntKind.u32.bits) = ((y / 16 / 16 : Nat) : Int) from by rw [show (2 : Int) ^ min (4 : Int).toNat IntKind.u32.bits = 2 ^ 4 from rfl, shr4, shr4]]
    refine wl_nil ?_
    exact f_blockN (f_round (i, y / 16 / 16, UInt8.ofNat y :: t) rfl ⟨⟨by dsimp only; omega, by dsimp only; omega, by dsimp only; rw [hbe, be, Nat.div_div_eq_div_mul]; simp, hb14⟩, hX⟩ (by first | omega | (dsimp only; omega)))
  · have hj0 : j = 0 := by omega
    subst hj0
    have hbe : be n x = t := by rw [hbe]; rfl
    rw [List.replicate_zero, List.nil_append, ← hbe] at hb14
    refine c_exit (f_thenE (f_thenE (f_blockE (f_then (c_seq (c_region (wl_p I_ok rfl (wl_nil (f_then (c_ret (f_ret1 rfl rfl ?_)))))))))))
    exact ⟨b14, rfl, fr14, hb14, hX⟩

theorem put32_calls (w : World) {p : Option Addr} {c : Nat} {l : List UInt8} (h : SlB w p l) (hl : l.length < 1000000000) (x : Nat) (hx : x < 2 ^ 32) :
    CallsV Tryz.prog 87 [.slice p l.length c, .int .u32 (x : Int)] w fun v w' => ∃ b, v = .slice (some ⟨b, 0, none⟩) (l ++ be 4 x).length (l ++ be 4 x).length ∧ w.heap.size ≤ b ∧ Blk w' b 5 (bytesU (l ++ be 4 x)) ∧ Ext No w w' := by
  refine calls_enter Tryz.func87 rfl rfl rfl rfl ?_
  have hX := Ext.refl No w
  refine c_seq (c_region (wl_p I_ok rfl (wl_nil (f_then (c_seq (c_region (wl_p I_ok rfl ?_)))))))
  have hX0 := hX
  refine wl (st_call Tryz.call99 rfl rfl rfl rfl rfl rfl (lies32_calls w (h.extNo hX) hl x 4 (by decide) hx) fun v1 w1 hr1 => ?_)
  obtain ⟨b, rfl, hn, hb, hE1⟩ := hr1
  have hX := hX.thenNo hE1
  refine wl_p I_ok rfl (wl_nil (f_then (c_ret (f_ret1 rfl rfl ?_))))
  exact ⟨b, by simp [be_len], Nat.le_trans hX0.size hn, hb, hX⟩

theorem lies64_calls (w : World) {p : Option Addr} {c : Nat} {l : List UInt8} (h : SlB w p l) (hl : l.length < 1000000000) (x n : Nat) (hn : n < 100) (hx : x < 2 ^ 64) :
    CallsV Tryz.prog 116 [.slice p l.length c, .int .u64 (x : Int), .int .i64 (n : Int)] w fun v w' => ∃ b, v = .slice (some ⟨b, 0, none⟩) (l.length + n) (l.length + n) ∧ w.heap.size ≤ b ∧ Blk w' b 5 (bytesU (l ++ be n x)) ∧ Ext No w w' := by
  refine calls_enter Tryz.func116 rfl rfl rfl rfl ?_
  have hX := Ext.refl No w
  refine c_seq (c_region (wl_p I_ok rfl (wl_nil (f_then (c_seq (c_region (wl_p I_ok rfl ?_)))))))
  rw [IntWalk.i64_in _ (by omega)]
  refine wl (st_mk I_ok rfl (l.length + n) (l.length + n) 1 rfl rfl rfl (by decide) (by omega) (by omega) (Nat.le_refl _) (by omega) (by unfold maxLen; omega) fun b14 w1 hn14 hb14 hE1 hs1 => ?_)
  have fr14 := Nat.le_trans hX.size hn14
  have hX := hX.thenNo hE1
  have hb14 : Blk w1 b14 5 (bytesU (List.replicate (l.length + n) 0)) := by (have e : rep (l.length + n) (cellsOf ti5.zero) = bytesU (List.replicate (l.length + n) 0) := rep_bytes _); rw [← e]; exact hb14
  refine wl_p I_ok rfl (wl_nil (f_then (c_seq (c_region (wl_p I_ok rfl (wl (st_cp I_ok rfl 1 rfl hb14 (Src.slice (h.extNo hX) OneC.h) (by dsimp only; omega) (by rw [bytesU_len, List.length_replicate]; dsimp only; omega) fun w2 hc2 hE2 hs2 => ?_)))))))
  have hb14 : Blk w2 b14 5 (bytesU (l ++ (List.replicate n 0 ++ []))) := by
    have e : Vc.put (bytesU (List.replicate (l.length + n) 0)) 0 (bytesU l) = bytesU (l ++ (List.replicate n 0 ++ [])) := by
      rw [put_eq _ _ _ (by simp [bytesU_len])]
      rw [bytesU_drop]
      simp [bytesU_append, bytesU_len]
    rw [← e]; exact hc2
  have hX := hX.thenNew hE2 fr14
  refine wl_p I_ok rfl (wl_nil (f_then (c_seq (c_seq (c_region (wl_p I_ok rfl (wl_nil (f_then (c_block ?_)))))))))
  refine c_loopK (α := Nat × Nat × List UInt8) [7, 8] rfl (fun z => [(1, .int .u64 (z.2.1 : Int)), (9, .int .i64 ((l.length + z.1 : Nat) : Int))]) (fun z u => (z.1 ≤ n ∧ z.2.1 < 2 ^ 64 ∧ be n x = be z.1 z.2.1 ++ z.2.2 ∧ Blk u b14 5 (bytesU (l ++ (List.replicate z.1 0 ++ z.2.2)))) ∧ Ext No w u) (fun z u => z.1) (n, x, []) rfl ⟨⟨Nat.le_refl _, hx, by simp, hb14⟩, hX⟩ ?_
  rintro ⟨j, y, t⟩ w3 ⟨⟨hj, hy, hbe, hb14⟩, hX⟩
  try dsimp only
  dsimp only at hj hy hbe hb14
  refine c_seq (c_seq (c_region (wl_p I_ok rfl (wl_nil (f_then (c_if rfl (fun hc => ?_) (fun hc => ?_)))))))
  · obtain ⟨i, rfl⟩ : ∃ i, j = i + 1 := ⟨j - 1, by omega⟩
    refine c_skip (f_then (c_block (c_seq (c_region (wl_p I_ok rfl ?_)))))
    rw [IntWalk.i64_in _ (by omega)]
    refine wl_nil (f_then (c_seq (c_region (wl_p I_ok rfl ?_))))
    rw [show (((l.length + (i + 1) : Nat) : Int) - 1) = ((l.length + i : Nat) : Int) from by omega]
    rw [wrap_byte]
    refine wl (st_ix I_ok rfl 1 rfl (l.length + i) rfl (by omega) (0 + (l.length + i) * 1) rfl (wl (st_set I_ok hb14 rfl rfl (by rw [bytesU_len]; simp; omega) fun w4 hb14 hE4 hs4 => ?_)))
    have hX := hX.thenNew hE4 fr14
    have hb14 : Blk w4 b14 5 (bytesU (l ++ (List.replicate i 0 ++ (UInt8.ofNat y :: t)))) := by
      rw [Nat.zero_add, Nat.mul_one, fill_byte] at hb14
      exact hb14
    refine wl_nil (f_then (c_seq (c_region (wl_p I_ok rfl (wl_nil (f_then (c_region (wl_p I_ok rfl ?_))))))))
    rw [show Int.fdiv (Int.fdiv (y : Int) (2 ^ min (4 : Int).toNat IntKind.u64.bits)) (2 ^ min (4 : Int).toNat IntKind.u64.bits) = ((y / 16 / 16 : Nat) : Int) from by rw [show (2 : Int) ^ min (4 : Int).toNat IntKind.u64.bits = 2 ^ 4 from rfl, shr4, shr4]]
    refine wl_nil ?_
    exact f_blockN (f_round (i, y / 16 / 16, UInt8.ofNat y :: t) rfl ⟨⟨by dsimp only; omega, by dsimp only; omega, by dsimp only; rw [hbe, be, Nat.div_div_eq_div_mul]; simp, hb14⟩, hX⟩ (by first | omega | (dsimp only; omega)))
  · have hj0 : j = 0 := by omega
    subst hj0
    have hbe : be n x = t := by rw [hbe]; rfl
    rw [List.replicate_zero, List.nil_append, ← hbe] at hb14
    refine c_exit (f_thenE (f_thenE (f_blockE (f_then (c_seq (c_region (wl_p I_ok rfl (wl_nil (f_then (c_ret (f_ret1 rfl rfl ?_)))))))))))
    exact ⟨b14, rfl, fr14, hb14, hX⟩

theorem put64_calls (w : World) {p : Option Addr} {c : Nat} {l : List UInt8} (h : SlB w p l) (hl : l.length < 1000000000) (x : Nat) (hx : x < 2 ^ 64) :
    CallsV Tryz.prog 113 [.slice p l.length c, .int .u64 (x : Int)] w fun v w' => ∃ b, v = .slice (some ⟨b, 0, none⟩) (l ++ be 8 x).length (l ++ be 8 x).length ∧ w.heap.size ≤ b ∧ Blk w' b 5 (bytesU (l ++ be 8 x)) ∧ Ext No w w' := by
  refine calls_enter Tryz.func113 rfl rfl rfl rfl ?_
  have hX := Ext.refl No w
  refine c_seq (c_region (wl_p I_ok rfl (wl_nil (f_then (c_seq (c_region (wl_p I_ok rfl ?_)))))))
  have hX0 := hX
  refine wl (st_call Tryz.call116 rfl rfl rfl rfl rfl rfl (lies64_calls w (h.extNo hX) hl x 8 (by decide) hx) fun v1 w1 hr1 => ?_)
  obtain ⟨b, rfl, hn, hb, hE1⟩ := hr1
  have hX := hX.thenNo hE1
  refine wl_p I_ok rfl (wl_nil (f_then (c_ret (f_ret1 rfl rfl ?_))))
  exact ⟨b, by simp [be_len], Nat.le_trans hX0.size hn, hb, hX⟩

end Go.Proofs.YtlfdlodcjiaiiaaGreatDoor
namespace Go.Proofs.YtlfdlodcjiaiiaaGreatDoor
open Go.Vc

/-- a row of bytes in blocks of bytes -/
def TyU (w : World) (p : Option Addr) : Prop := ∀ a, p = some a → ∃ L, Blk w a.block 5 L
theorem TyU.ext {S : Nat → Prop} {w w' : World} {p : Option Addr} (h : TyU w p) (hE : Ext S w w') (hS : ∀ b L, Blk w b 5 L → ¬ S b) : TyU w' p := fun a ha => by
  obtain ⟨L, hL⟩ := h a ha
  exact ⟨L, hL.ext hE (hS _ L hL)⟩
theorem TyU.nil (w : World) : TyU w none := fun _ h => by cases h
theorem TyU.of {w : World} {b : Nat} {L : List Value} (h : Blk w b 5 L) (o : Nat) (e : Option Nat) : TyU w (some ⟨b, o, e⟩) := fun a ha => by cases ha; exact ⟨L, h⟩
theorem TyU.sub {w : World} {p : Option Addr} (h : TyU w p) (l m sz : Nat) : TyU w (slBase p l m sz) := fun a ha => by
  unfold slBase at ha
  split at ha
  · exact h a ha
  · cases p with
    | none => cases ha
    | some a0 =>
      have h0 := h a0 rfl
      simp only [Option.map_some, Option.some.injEq, Addr.add] at ha
      subst ha
      obtain ⟨L, hL⟩ := h0
      refine ⟨L, ?_⟩
      split <;> exact hL
theorem SlB.extTy {S : Nat → Prop} {w w' : World} {p : Option Addr} {l : List UInt8} (h : SlB w p l) (ht : TyU w p) (hE : Ext S w w') (hS : ∀ b L, Blk w b 5 L → ¬ S b) : SlB w' p l :=
  h.ext hE fun b off hb => by obtain ⟨L, hL⟩ := ht _ hb; exact hS b L hL
/-- a reader: what is there still, and why it takes off nothing more -/
def Rd (w : World) (rb : Nat) (l : List UInt8) (e : Int) : Prop :=
  ∃ p c, Blk w rb 148 [.slice p l.length c, .int .i64 e] ∧ l.length ≤ c ∧ SlB w p l ∧ TyU w p
theorem Rd.ext {S : Nat → Prop} {w w' : World} {rb : Nat} {l : List UInt8} {e : Int} (h : Rd w rb l e) (hE : Ext S w w') (h1 : ¬ S rb) (h2 : ∀ b L, Blk w b 5 L → ¬ S b) : Rd w' rb l e := by
  obtain ⟨p, c, hb, hc, hs, ht⟩ := h
  exact ⟨p, c, hb.ext hE h1, hc, SlB.extTy hs ht hE h2, ht.ext hE h2⟩
theorem Rd.extNo {w w' : World} {rb : Nat} {l : List UInt8} {e : Int} (h : Rd w rb l e) (hE : Ext No w w') : Rd w' rb l e := h.ext hE id fun _ _ _ => id
theorem Rd.lt {w : World} {rb : Nat} {l : List UInt8} {e : Int} (h : Rd w rb l e) : rb < w.heap.size := by obtain ⟨_, _, hb, _⟩ := h; exact hb.lt
theorem Rd.ne {w : World} {rb : Nat} {l : List UInt8} {e : Int} (h : Rd w rb l e) {b T : Nat} {L : List Value} (hb : Blk w b T L) (hT : 148 ≠ T) : rb ≠ b := by obtain ⟨_, _, h, _⟩ := h; exact h.ne hb hT
/-- what is taken off, what is left, and the error -/
def offR (l : List UInt8) (e n : Int) : List UInt8 × List UInt8 × Int :=
  if e ≠ 0 then ([], l, e) else if n < 0 then ([], l, 2) else if (l.length : Int) < n then ([], l, 7) else (l.take n.toNat, l.drop n.toNat, 0)
theorem offR_len (l : List UInt8) (e n : Int) : (offR l e n).1.length ≤ n.toNat ∧ (offR l e n).2.1.length ≤ l.length ∧ (offR l e n).1.length ≤ l.length := by
  unfold offR
  repeat' split
  all_goals simp
  all_goals omega
theorem read_calls (w : World) {p : Option Addr} {c : Nat} {l : List UInt8} (h : SlB w p l) (hl : l.length < 1000000000) :
    CallsV Tryz.prog 90 [.slice p l.length c] w fun v w' => ∃ rb, v = .pointer (some ⟨rb, 0, none⟩) ∧ w.heap.size ≤ rb ∧ Rd w' rb l 0 ∧ Ext No w w' := by
  refine calls_enter Tryz.func90 rfl rfl rfl rfl ?_
  have hX := Ext.refl No w
  refine c_seq (c_region (wl_p I_ok rfl (wl_nil (f_then (c_seq (c_region (wl_p I_ok rfl ?_)))))))
  refine wl (st_mk I_ok rfl l.length l.length 1 rfl rfl rfl (by decide) rfl rfl (Nat.le_refl _) (by omega) (by unfold maxLen; omega) fun b6 w1 hn6 hb6 hE1 hs1 => ?_)
  have fr6 := Nat.le_trans hX.size hn6
  have hX := hX.thenNo hE1
  have hb6 : Blk w1 b6 5 (bytesU (List.replicate l.length 0)) := by (have e : rep l.length (cellsOf ti5.zero) = bytesU (List.replicate l.length 0) := rep_bytes _); rw [← e]; exact hb6
  refine wl_p I_ok rfl (wl_nil (f_then (c_seq (c_region (wl_p I_ok rfl (wl (st_cp I_ok rfl 1 rfl hb6 (Src.slice (h.extNo hX) OneC.h) (Nat.le_refl _) (by rw [bytesU_len, List.length_replicate]; dsimp only; omega) fun w2 hc2 hE2 hs2 => ?_)))))))
  have hb6 : Blk w2 b6 5 (bytesU l) := by
    have e : Vc.put (bytesU (List.replicate l.length 0)) 0 (bytesU l) = bytesU l := put_whole (by simp [bytesU_len])
    rw [← e]; exact hc2
  have hX := hX.thenNew hE2 fr6
  refine wl_nil (f_then (c_seq (c_region (wl_p I_ok rfl (wl (st_bd I_ok rfl ⟨⟨rfl, by decide⟩, trivial⟩ (l' := [.slice (some ⟨b6, 0, none⟩) l.length l.length, .int .i64 0]) rfl ?_))))))
  refine wl (st_bd I_ok rfl ⟨⟨rfl, by decide⟩, trivial⟩ (l' := [.slice (some ⟨b6, 0, none⟩) l.length l.length, .int .i64 0]) rfl (wl (st_al I_ok rfl fun b13 w3 hn13 hb13 hE3 => ?_)))
  have fr13 := Nat.le_trans hX.size hn13
  have hX := hX.thenNo hE3
  have hb13 : Blk w3 b13 148 ([.slice (some ⟨b6, 0, none⟩) l.length l.length, .int .i64 0]) := hb13
  have hb6 := hb6.extNo hE3
  refine wl_p I_ok rfl (wl_nil (f_then (c_ret (f_ret1 rfl rfl ?_))))
  exact ⟨b13, rfl, fr13, ⟨_, _, hb13, Nat.le_refl _, ⟨by simp [bytesU_len], .inr ⟨b6, 0, rfl, hb6.seg⟩⟩, TyU.of hb6 _ _⟩, hX⟩

theorem off_calls (w : World) {rb : Nat} {l : List UInt8} {e : Int} (h : Rd w rb l e) (_hl : l.length < 1000000000) (n : Int) :
    CallsV Tryz.prog 102 [.pointer (some ⟨rb, 0, none⟩), .int .i64 n] w fun v w' => ∃ q c', v = .slice q (offR l e n).1.length c' ∧ SlB w' q (offR l e n).1 ∧ TyU w' q ∧ Rd w' rb (offR l e n).2.1 (offR l e n).2.2 ∧ Ext (One rb) w w' := by
  have h0 := h
  obtain ⟨p, c, hrb, hcap, hs, ht⟩ := h
  have hty : ∀ (w2 : World) (b : Nat) (L : List Value), Blk w b 5 L → ¬ One rb b := fun _ b L hb e => hb.ne hrb (by decide) e
  refine calls_enter Tryz.func102 rfl rfl rfl rfl ?_
  have hX := Ext.refl (One rb) w
  refine c_seq (c_region (wl_p I_ok rfl (wl_nil (f_then (c_seq (c_cutK (α := Bool) [0, 1] rfl (fun z => [(15, .bool z)]) (fun z u => u = w ∧ z = decide (e ≠ 0)) ?_ ?_))))))
  · refine c_region ?_
    refine wl_p I_ok rfl (wl_case 8 rfl (fun hg => ?_) (fun hg => ?_))
    · cases hg
    · refine wl_pk I_ok 4 rfl ?_
      refine wl (st_ld I_ok rfl (hrb.cell rfl) (wl_pk I_ok 2 rfl (wl_nil ?_)))
      exact f_cut (_) rfl ⟨rfl, rfl⟩
  rintro z w1 ⟨hu, rfl⟩
  have hu := hu.symm
  subst hu
  refine c_if rfl (fun hc => ?_) (fun hc => ?_)
  · have e1 : offR l e n = ([], l, e) := if_pos hc
    rw [e1]
    refine c_seq (c_region (wl_p I_ok rfl (wl_nil (f_then (c_ret (f_thenR (f_ret1 rfl rfl ?_)))))))
    exact ⟨none, 0, rfl, Sl.nil _ _ _, TyU.nil _, h0, Ext.refl _ _⟩
  · have he : e = 0 := Decidable.not_not.1 hc
    refine c_skip (f_then (c_seq (c_seq (c_region (wl_p I_ok rfl (wl_nil (f_then (c_if rfl (fun hc => ?_) (fun hc => ?_)))))))))
    · have e1 : offR l e n = ([], l, 2) := by rw [offR, if_neg (by simpa using he), if_pos hc]
      rw [e1]
      refine c_seq (c_region (wl_p I_ok rfl (wl (st_st I_ok hrb rfl rfl rfl fun w2 hrb2 hE2 hs2 => ?_))))
      have hEE := hE2
      have hrb := hrb2
      have hR : Rd w2 rb l 2 := ⟨p, c, hrb, hcap, SlB.extTy hs ht hE2 (hty w2), ht.ext hE2 (hty w2)⟩
      refine wl_nil (f_then (c_seq (c_region (wl_p I_ok rfl (wl_nil (f_then (c_ret (f_thenR (f_ret1 rfl rfl ?_)))))))))
      exact ⟨none, 0, rfl, Sl.nil _ _ _, TyU.nil _, hR, hEE⟩
    · have hn0 : ¬ n < 0 := hc
      refine c_skip (f_then (c_seq (c_seq (c_region (wl_p I_ok rfl (wl (st_ld I_ok rfl (hrb.cell rfl) (wl_p I_ok rfl (wl_nil (f_then (c_if rfl (fun hc => ?_) (fun hc => ?_))))))))))))
      · have e1 : offR l e n = ([], l, 7) := by rw [offR, if_neg (by simpa using he), if_neg hn0, if_pos hc]
        rw [e1]
        refine c_seq (c_region (wl_p I_ok rfl (wl (st_st I_ok hrb rfl rfl rfl fun w3 hrb2 hE3 hs3 => ?_))))
        have hEE := hE3
        have hrb := hrb2
        have hR : Rd w3 rb l 7 := ⟨p, c, hrb, hcap, SlB.extTy hs ht hE3 (hty w3), ht.ext hE3 (hty w3)⟩
        refine wl_nil (f_then (c_seq (c_region (wl_p I_ok rfl (wl_nil (f_then (c_ret (f_thenR (f_ret1 rfl rfl ?_)))))))))
        exact ⟨none, 0, rfl, Sl.nil _ _ _, TyU.nil _, hR, hEE⟩
      · have e1 : offR l e n = (l.take n.toNat, l.drop n.toNat, 0) := by rw [offR, if_neg (by simpa using he), if_neg hn0, if_neg hc]
        rw [e1]
        have hnn : n = (n.toNat : Int) := by omega
        have hnl : n.toNat ≤ l.length := by omega
        refine c_skip (f_then (c_seq (c_region (wl_p I_ok rfl (wl (st_ld I_ok rfl (hrb.cell rfl) (wl_p I_ok rfl ?_)))))))
        refine wl (st_sl I_ok rfl 0 n.toNat n.toNat 1 rfl (.inl ⟨congrArg some hnn, rfl⟩) (.inl (congrArg some hnn)) (.inr ⟨rfl, rfl⟩) (Nat.zero_le _) (Nat.le_refl _) (by dsimp only; omega) ?_)
        dsimp only
        rw [slBase_zero, Nat.sub_zero]
        refine wl_p I_ok rfl (wl_nil (f_then (c_seq (c_region (wl_p I_ok rfl (wl (st_ld I_ok rfl (hrb.cell rfl) (wl_p I_ok rfl ?_))))))))
        refine wl (st_sl I_ok rfl n.toNat l.length c 1 rfl (.inr ⟨rfl, rfl⟩) (.inr ⟨rfl, rfl⟩) (.inl (congrArg some hnn)) hnl hcap (Nat.le_refl _) ?_)
        dsimp only
        refine wl_p I_ok rfl (wl (st_st I_ok hrb rfl rfl rfl fun w4 hrb2 hE4 hs4 => ?_))
        have hEE := hE4
        have hrb := hrb2
        have hs1 := hs.slice 0 n.toNat n.toNat (Nat.zero_le _) (Nat.le_refl _) hnl
        have hs2 := hs.slice n.toNat l.length c hnl hcap (Nat.le_refl _)
        rw [slBase_zero, Nat.sub_zero, Nat.zero_mul, List.drop_zero, Nat.mul_one, bytesU_take] at hs1
        rw [Nat.mul_one, Nat.mul_one, bytesU_drop, bytesU_take, List.take_of_length_le (by simp)] at hs2
        have l1 : (l.take n.toNat).length = n.toNat := by rw [List.length_take]; omega
        have l2 : (l.drop n.toNat).length = l.length - n.toNat := by simp
        have hs1 : SlB w p (l.take n.toNat) := by rw [SlB, l1]; exact hs1
        have hs2 : SlB w (slBase p n.toNat c 1) (l.drop n.toNat) := by rw [SlB, l2]; exact hs2
        have hrb : Blk w4 rb 148 [.slice (slBase p n.toNat c 1) (l.drop n.toNat).length (c - n.toNat), .int .i64 0] := by rw [l2, ← he]; exact hrb2
        have hR : Rd w4 rb (l.drop n.toNat) 0 := ⟨_, _, hrb, by rw [l2]; omega, SlB.extTy hs2 (ht.sub _ _ _) hE4 (hty w4), (ht.sub _ _ _).ext hE4 (hty w4)⟩
        have hq := SlB.extTy hs1 ht hE4 (hty w4)
        have hqt := ht.ext hE4 (hty w4)
        refine wl_nil (f_then (c_seq (c_region (wl_p I_ok rfl (wl_nil (f_then (c_ret (f_ret1 rfl rfl ?_))))))))
        exact ⟨p, n.toNat, by rw [l1], hq, hqt, hR, hEE⟩
end Go.Proofs.YtlfdlodcjiaiiaaGreatDoor
namespace Go.Proofs.YtlfdlodcjiaiiaaGreatDoor
open Go.Vc


theorem next32_calls (w : World) {rb : Nat} {l : List UInt8} {e : Int} (h : Rd w rb l e) (hl : l.length < 1000000000) (n : Nat) (hn : 256 ^ n ≤ 2 ^ 32) :
    CallsV Tryz.prog 103 [.pointer (some ⟨rb, 0, none⟩), .int .i64 (n : Int)] w fun v w' => v = .int .u32 ((num (offR l e n).1 : Nat) : Int) ∧ Rd w' rb (offR l e n).2.1 (offR l e n).2.2 ∧ Ext (One rb) w w' := by
  refine calls_enter Tryz.func103 rfl rfl rfl rfl ?_
  have hX := Ext.refl (One rb) w
  refine c_seq (c_region (wl_p I_ok rfl (wl_nil (f_then (c_seq (c_seq (c_region (wl_p I_ok rfl (wl (st_call Tryz.call102 rfl rfl rfl rfl rfl rfl (off_calls w h hl (n : Int)) fun v1 w1 hr1 => ?_))))))))))
  obtain ⟨q, c, rfl, hq, hqt, hR, hE1⟩ := hr1
  have hX := hX.then hE1
  obtain ⟨hl1, hl2, hl3⟩ := offR_len l e n
  obtain ⟨s, hs⟩ : ∃ s, s = (offR l e n).1 := ⟨_, rfl⟩
  rw [← hs] at hq hl1 hl3 ⊢
  refine wl_p I_ok rfl (wl_nil (f_then (c_block ?_)))
  refine c_loopK (α := Nat) [9, 10] rfl (fun z => [(4, .int .u32 ((num (s.take z) : Nat) : Int)), (11, .int .i64 (z : Int))]) (fun z u => (z ≤ s.length ∧ SlB u q s ∧ Rd u rb (offR l e n).2.1 (offR l e n).2.2) ∧ Ext (One rb) w u) (fun z u => s.length - z) (0) rfl ⟨⟨Nat.zero_le _, hq, hR⟩, hX⟩ ?_
  rintro i w2 ⟨⟨hi, hq, hR⟩, hX⟩
  try dsimp only
  refine c_seq (c_region (wl_p I_ok rfl (wl_nil (f_then (c_seq (c_if rfl (fun hc => ?_) (fun hc => ?_)))))))
  · have hi : i < s.length := by omega
    obtain ⟨b, off, rfl, hcell⟩ := hq.at hi
    have hx1 := num_take s hi
    have hx2 := num_lt (s.take (i + 1))
    have hx3 : 256 ^ (s.take (i + 1)).length ≤ 2 ^ 32 := Nat.le_trans (Nat.pow_le_pow_right (by decide) (by rw [List.length_take]; omega)) hn
    have hx4 := (s[i]).toNat_lt
    have hw : IntKind.u32.wrap (IntKind.u32.wrap (IntKind.u32.wrap (((num (s.take i) : Nat) : Int) * 2 ^ min (4 : Int).toNat IntKind.u32.bits) * 2 ^ min (4 : Int).toNat IntKind.u32.bits) + IntKind.u32.wrap ((s[i]).toNat : Int)) = ((num (s.take (i + 1)) : Nat) : Int) := by
      rw [show (2 : Int) ^ min (4 : Int).toNat IntKind.u32.bits = 16 from rfl, IntWalk.u32_in ((s[i]).toNat : Int) (by omega), IntWalk.u32_in (((num (s.take i) : Nat) : Int) * 16) (by omega), IntWalk.u32_in (((num (s.take i) : Nat) : Int) * 16 * 16) (by omega), IntWalk.u32_in _ (by omega)]
      omega
    refine c_skip (f_then (c_seq (c_block (c_seq (c_region (wl (st_ix I_ok rfl 1 rfl i rfl (by omega) (off + i * 1) rfl (wl (st_ld I_ok rfl hcell (wl_p I_ok rfl (wl_nil (f_then (c_seq (c_region (wl_p I_ok rfl (wl_nil (f_then (c_seq ?_))))))))))))))))))
    refine c_region (wl_p I_ok rfl (wl_nil (f_then (c_region (wl_p I_ok rfl ?_)))))
    rw [hw]
    refine wl_nil (f_blockN (f_then (c_region (wl_p I_ok rfl ?_))))
    rw [IntWalk.i64_in _ (by omega)]
    refine wl_nil ?_
    exact f_round (i + 1) rfl ⟨⟨hi, hq, hR⟩, hX⟩ (by first | omega | (dsimp only; omega))
  · have e : s.take i = s := List.take_of_length_le (by omega)
    rw [e]
    refine c_exit (f_thenE (f_thenE (f_blockE (f_then (c_seq (c_region (wl_p I_ok rfl (wl_nil (f_then (c_ret (f_ret1 rfl rfl ?_)))))))))))
    exact ⟨rfl, hR, hX⟩



theorem u32_calls (w : World) {rb : Nat} {l : List UInt8} {e : Int} (h : Rd w rb l e) (hl : l.length < 1000000000) :
    CallsV Tryz.prog 92 [.pointer (some ⟨rb, 0, none⟩)] w fun v w' => v = .int .u32 ((num (offR l e 4).1 : Nat) : Int) ∧ Rd w' rb (offR l e 4).2.1 (offR l e 4).2.2 ∧ Ext (One rb) w w' := by
  refine calls_enter Tryz.func92 rfl rfl rfl rfl ?_
  have hX := Ext.refl (One rb) w
  refine c_seq (c_region (wl_p I_ok rfl (wl_nil (f_then (c_seq (c_region (wl_p I_ok rfl (wl (st_call Tryz.call103 rfl rfl rfl rfl rfl rfl (next32_calls w h hl 4 (by decide)) fun v1 w1 hr1 => ?_)))))))))
  obtain ⟨rfl, hR, hE1⟩ := hr1
  have hX := hX.then hE1
  refine wl_p I_ok rfl (wl_nil (f_then (c_ret (f_ret1 rfl rfl ?_))))
  exact ⟨rfl, hR, hX⟩

theorem raw_calls (w : World) {rb : Nat} {l : List UInt8} {e : Int} (h : Rd w rb l e) (hl : l.length < 1000000000) (n : Int) :
    CallsV Tryz.prog 91 [.pointer (some ⟨rb, 0, none⟩), .int .i64 n] w fun v w' => ∃ q c, v = .slice q (offR l e n).1.length c ∧ SlB w' q (offR l e n).1 ∧ Rd w' rb (offR l e n).2.1 (offR l e n).2.2 ∧ Ext (One rb) w w' := by
  refine calls_enter Tryz.func91 rfl rfl rfl rfl ?_
  have hX := Ext.refl (One rb) w
  refine c_seq (c_region (wl_p I_ok rfl (wl_nil (f_then (c_seq (c_region (wl_p I_ok rfl (wl (st_call Tryz.call102 rfl rfl rfl rfl rfl rfl (off_calls w h hl n) fun v1 w1 hr1 => ?_)))))))))
  obtain ⟨q, c, rfl, hq, hqt, hR, hE1⟩ := hr1
  have hX := hX.then hE1
  obtain ⟨hl1, hl2, hl3⟩ := offR_len l e n
  obtain ⟨s, hs⟩ : ∃ s, s = (offR l e n).1 := ⟨_, rfl⟩
  rw [← hs] at hq hl1 hl3 ⊢
  refine wl_p I_ok rfl (wl_nil (f_then (c_seq (c_seq (c_region (wl_p I_ok rfl (wl_nil (f_then (c_if rfl (fun hc => ?_) (fun hc => ?_))))))))))
  · have h0 : s = [] := List.eq_nil_of_length_eq_zero (by omega)
    subst h0
    refine c_seq (c_region (wl_p I_ok rfl (wl_nil (f_then (c_ret (f_thenR (f_ret1 rfl rfl ?_)))))))
    exact ⟨none, 0, rfl, Sl.nil _ _ _, hR, hX⟩
  · refine c_skip ?_
    refine f_then (c_seq (c_region (wl_p I_ok rfl ?_)))
    have hq0 := hq
    have hX0 := hX
    refine wl (st_mk I_ok rfl 0 s.length 1 rfl rfl rfl (by decide) rfl rfl (Nat.zero_le _) (by omega) (by unfold maxLen; omega) fun b14 w2 hn14 hb14 hE2 hs2 => ?_)
    have fr14 := Nat.le_trans hX.size hn14
    have hX := hX.thenNo hE2
    refine wl_p I_ok rfl ?_
    refine wl (st_app I_ok rfl 1 1 rfl rfl rfl (by decide) (Own.blk hb14 1 (by rw [rep_length]; rfl) (Nat.zero_le _) (by dsimp only [maxLen]; omega)) (Src.slice (hq0.extNo hE2) OneC.h) (by dsimp only [maxLen]; omega) (by dsimp only; omega) fun p3 c3 w3 ho3 hE3 hB3 => ?_)
    have hY : Ext No w1 w3 := hE2.trans hE3 fun y hy hF => by have e : b14 = y := congrArg Addr.block (Option.some.inj hF); omega
    have hX := hX0.then (hY.no (S := One rb))
    have ho := ho3.sl
    refine wl_p I_ok rfl (wl_nil (f_then (c_ret (f_ret1 rfl rfl ?_))))
    exact ⟨p3, c3, by simp, by simpa using ho, hR.extNo hY, hX⟩

end Go.Proofs.YtlfdlodcjiaiiaaGreatDoor
namespace Go.Proofs.YtlfdlodcjiaiiaaGreatDoor
open Go.Vc
theorem high_calls (n : Nat) (hn : n < 100) : ∀ (w : World) (x : Nat), x < 2 ^ 64 →
    CallsV Tryz.prog 95 [.int .u64 (x : Int), .int .i64 (n : Int)] w fun v w' => ∃ q c, v = .slice q n c ∧ Own w' q n c 5 1 (bytesU (be n x)) ∧ (∀ b, OwnB q b → w.heap.size ≤ b) ∧ Ext No w w' := by
  induction n using Nat.strongRecOn
  rename_i n ih
  intro w x hx
  refine calls_enter Tryz.func95 rfl rfl rfl rfl ?_
  have hX := Ext.refl No w
  refine c_seq (c_region (wl_p I_ok rfl (wl_nil (f_then (c_seq (c_seq (c_region (wl_p I_ok rfl (wl_nil (f_then (c_if rfl (fun hc => ?_) (fun hc => ?_))))))))))))
  · have h0 : n = 0 := by omega
    subst h0
    refine c_seq (c_region (wl_p I_ok rfl (wl_nil (f_then (c_ret (f_thenR (f_ret1 rfl rfl ?_)))))))
    exact ⟨none, 0, rfl, Own.nil _ _ _, fun b hb => by (cases hb), hX⟩
  · obtain ⟨m, rfl⟩ : ∃ m, n = m + 1 := ⟨n - 1, by omega⟩
    refine c_skip (f_then (c_seq (c_region (wl_p I_ok rfl ?_))))
    rw [IntWalk.i64_in _ (by omega)]
    have e0 : IntKind.u64.wrap ((x : Int).tdiv 256) = ((x / 256 : Nat) : Int) := by rw [IntWalk.u64_quo _ _ (by omega)]; rfl
    rw [e0]
    rw [show (((m + 1 : Nat) : Int) - 1) = (m : Int) from by omega]
    refine wl (st_call Tryz.call95 rfl rfl rfl rfl rfl rfl (ih m (by omega) (by omega) w (x / 256) (by omega)) fun v1 w1 hr1 => ?_)
    obtain ⟨q, c, rfl, hq, hqn, hE1⟩ := hr1
    have hX := hX.thenNo hE1
    refine wl_p I_ok rfl (wl (st_bs I_ok rfl 1 rfl rfl rfl (by decide) (by decide) (by simp [partsOk]) rfl fun b15 w2 hn15 hb15 hE2 hs2 => ?_))
    have fr15 := Nat.le_trans hX.size hn15
    have hX := hX.thenNo hE2
    have hb15 : Blk w2 b15 5 (bytesU [UInt8.ofNat x]) := by
      have e1 : IntKind.u8.wrap ((x : Int).tmod 256) = ((UInt8.ofNat x).toNat : Int) := by
        rw [Int.tmod_eq_emod_of_nonneg (by omega), IntKind.wrap_u8, UInt8.toNat_ofNat']; omega
      have e2 := hb15
      rw [e1] at e2
      exact e2
    refine wl (st_app I_ok rfl 1 1 rfl rfl rfl (by decide) (hq.ext hE2 fun _ _ => id) (Src.slice (m := 1) ⟨rfl, .inr ⟨b15, 0, rfl, hb15.seg⟩⟩ OneC.h) (by dsimp only [maxLen]; omega) (by dsimp only; omega) fun p3 c3 w3 ho3 hE3 hB3 => ?_)
    have hX := hX.trans hE3 fun y hy hF => by have := hqn y hF; omega
    refine wl_p I_ok rfl (wl_nil (f_then (c_ret (f_ret1 rfl rfl ?_))))
    exact ⟨p3, c3, rfl, by rw [be, bytesU_append]; exact ho3, fun b hb => (hB3 b hb).elim (fun h => hqn b h) fun h => by have := hE1.size; have := hE2.size; omega, hX⟩

theorem number_calls (w : World) {p : Option Addr} {c : Nat} {l : List UInt8} (h : SlB w p l) (hl : l.length ≤ 8) :
    CallsV Tryz.prog 97 [.slice p l.length c] w fun v w' => v = .int .u64 (num l : Int) ∧ w' = w := by
  refine calls_enter Tryz.func97 rfl rfl rfl rfl ?_
  have hX := Ext.refl No w
  refine c_seq (c_region (wl_p I_ok rfl (wl_nil (f_then (c_seq (c_region (wl_p I_ok rfl (wl_nil (f_then (c_seq (c_seq (c_region (wl_p I_ok rfl (wl_nil (f_then (c_block ?_))))))))))))))))
  refine c_loopK (α := Nat × Nat × Nat) [0] rfl (fun z => [(3, .int .u64 (z.2.1 : Int)), (4, .int .u64 (z.2.2 : Int)), (5, .int .i64 (z.1 : Int))]) (fun z u => ((z.1 ≤ l.length ∧ z.2.1 = num (l.drop z.1) ∧ z.2.2 = 256 ^ (l.length - z.1) % 2 ^ 64) ∧ u = w) ∧ Ext No w u) (fun z u => z.1) ((l.length, 0, 1)) rfl ⟨⟨⟨Nat.le_refl _, by simp [num], by simp⟩, rfl⟩, hX⟩ ?_
  rintro ⟨i, x, q⟩ w1 ⟨⟨⟨hi, hx, hq⟩, rfl⟩, hX⟩
  try dsimp only
  dsimp only at hi hx hq
  subst hx hq
  refine c_seq (c_seq (c_region (wl_p I_ok rfl (wl_nil (f_then (c_if rfl (fun hc => ?_) (fun hc => ?_)))))))
  · obtain ⟨k, rfl⟩ : ∃ k, i = k + 1 := ⟨i - 1, by omega⟩
    have hk : k < l.length := by omega
    obtain ⟨b, off, rfl, hcell⟩ := h.at hk
    have hx1 := num_drop l hk
    have hx2 := num_lt (l.drop k)
    rw [List.length_drop] at hx2
    have hx3 : l.length - k = (l.length - (k + 1)) + 1 := by omega
    have hx4 : 256 ^ (l.length - k) ≤ 256 ^ 8 := Nat.pow_le_pow_right (by decide) (by omega)
    have hx5 : 256 ^ (l.length - (k + 1)) ≤ 256 ^ 7 := Nat.pow_le_pow_right (by decide) (by omega)
    have hx6 := (l[k]).toNat_lt
    have hx7 : 256 ^ (l.length - (k + 1)) % 2 ^ 64 = 256 ^ (l.length - (k + 1)) := Nat.mod_eq_of_lt (Nat.lt_of_le_of_lt hx5 (by decide))
    rw [hx7]
    have hw : IntKind.u64.wrap ((num (l.drop (k + 1)) : Int) + IntKind.u64.wrap (((256 ^ (l.length - (k + 1)) : Nat) : Int) * IntKind.u64.wrap ((l[k]).toNat : Int))) = ((num (l.drop k) : Nat) : Int) := by
      rw [IntWalk.u64_in ((l[k]).toNat : Int) (by omega), ← Int.natCast_mul, Nat.mul_comm, IntWalk.u64_in (((l[k]).toNat * 256 ^ (l.length - (k + 1)) : Nat) : Int) (by omega), IntWalk.u64_in _ (by omega)]
      omega
    have hw2 : IntKind.u64.wrap (((256 ^ (l.length - (k + 1)) : Nat) : Int) * 256) = ((256 ^ (l.length - k) % 2 ^ 64 : Nat) : Int) := by
      rw [hx3, Nat.pow_succ, IntKind.wrap_u64]; omega
    refine c_skip (f_then (c_seq (c_block (c_seq (c_region (wl_p I_ok rfl ?_))))))
    rw [IntWalk.i64_in _ (by omega)]
    refine wl (st_ix I_ok rfl 1 rfl k (by omega) (by omega) (off + k * 1) rfl (wl (st_ld I_ok rfl hcell (wl_p I_ok rfl ?_))))
    rw [hw]
    refine wl_nil (f_then (c_region (wl_p I_ok rfl ?_)))
    rw [hw2]
    refine wl_nil (f_blockN (f_then (c_region (wl_p I_ok rfl ?_))))
    rw [IntWalk.i64_in _ (by omega)]
    rw [show (((k + 1 : Nat) : Int) - 1) = (k : Int) from by omega]
    refine wl_nil ?_
    exact f_round (k, num (l.drop k), 256 ^ (l.length - k) % 2 ^ 64) rfl ⟨⟨⟨by dsimp only; omega, rfl, rfl⟩, rfl⟩, hX⟩ (by first | omega | (dsimp only; omega))
  · have h0 : i = 0 := by omega
    subst h0
    rw [List.drop_zero]
    refine c_exit (f_thenE (f_thenE (f_blockE (f_then (c_seq (c_region (wl_p I_ok rfl (wl_nil (f_then (c_ret (f_ret1 rfl rfl ?_)))))))))))
    exact ⟨rfl, rfl⟩

theorem both_calls (w : World) {p q : Option Addr} {c d : Nat} {l m : List UInt8} (h : SlB w p l) (h' : SlB w q m) (hl : l.length < 1000000000) (hm : m.length < 1000000000) :
    CallsV Tryz.prog 94 [.slice p l.length c, .slice q m.length d] w fun v w' => ∃ r k, v = .slice r (l ++ m).length k ∧ Own w' r (l ++ m).length k 5 1 (bytesU (l ++ m)) ∧ (∀ b, OwnB r b → w.heap.size ≤ b) ∧ Ext No w w' := by
  refine calls_enter Tryz.func94 rfl rfl rfl rfl ?_
  have hX := Ext.refl No w
  refine c_seq (c_region (wl_p I_ok rfl (wl_nil (f_then (c_seq (c_region (wl (st_bs I_ok rfl 1 rfl rfl rfl (by decide) (by decide) trivial (l' := []) rfl fun b6 w1 hn6 hb6 hE1 hs1 => ?_))))))))
  have fr6 := Nat.le_trans hX.size hn6
  have hX := hX.thenNo hE1
  have hX0 := hX
  refine wl_p I_ok rfl ?_
  refine wl (st_app I_ok rfl 1 1 rfl rfl rfl (by decide) (Own.blk (n := 0) (c := 0) hb6 1 rfl (Nat.le_refl _) (by decide)) (Src.slice (h.extNo hX) OneC.h) (by dsimp only [maxLen]; omega) (by dsimp only; omega) fun p2 c2 w2 ho2 hE2 hB2 => ?_)
  have hX := hX.trans hE2 fun y hy hF => by have e : b6 = y := congrArg Addr.block (Option.some.inj hF); omega
  have hn1 : ∀ x, OwnB p2 x → w.heap.size ≤ x := fun x hx => (hB2 x hx).elim (fun hF => by have e : b6 = x := congrArg Addr.block (Option.some.inj hF); omega) fun h => by have := hE1.size; omega
  have ho1 : Own w2 p2 (0 + l.length) c2 5 1 (bytesU l) := ho2
  refine wl_p I_ok rfl (wl_nil (f_then (c_seq (c_region (wl_p I_ok rfl ?_)))))
  have hX2 := hX
  refine wl (st_app I_ok rfl 1 1 rfl rfl rfl (by decide) ho1 (Src.slice (h'.extNo hX) OneC.h) (by dsimp only [maxLen]; omega) (by dsimp only; omega) fun p3 c3 w3 ho3 hE3 hB3 => ?_)
  have hX := hX2.trans hE3 fun y hy hF => by have := hn1 y hF; omega
  have hn2 : ∀ x, OwnB p3 x → w.heap.size ≤ x := fun x hx => (hB3 x hx).elim (fun h => hn1 x h) fun h => Nat.le_trans hX2.size h
  refine wl_p I_ok rfl (wl_nil (f_then (c_ret (f_ret1 rfl rfl ?_))))
  exact ⟨p3, c3, by dsimp only; rw [List.length_append, Nat.zero_add], by rw [List.length_append, bytesU_append]; rw [Nat.zero_add] at ho3; exact ho3, hn2, hX⟩
end Go.Proofs.YtlfdlodcjiaiiaaGreatDoor
namespace Go.Proofs.YtlfdlodcjiaiiaaGreatDoor
open Go.Vc
theorem mixed_calls (w : World) (x : W32) {p : Option Addr} {c : Nat} {ns : List Nat} (h : Sl w p ns.length 1 (natsV ns)) (hns : ∀ n ∈ ns, n ≤ 32) (hlen : ns.length < 1000) :
    CallsV Tryz.prog 112 [wordV x, .slice p ns.length c] w fun v w' => v = wordV (mixW x ns) ∧ Ext No w w' := by
  refine calls_enter Tryz.func112 rfl rfl rfl rfl ?_
  have hX := Ext.refl No w
  refine c_seq (c_region (wl_p I_ok rfl (wl_nil (f_then (c_seq (c_region (wl_p I_ok rfl (wl_nil (f_then (c_seq (c_seq (c_region (wl_p I_ok rfl (wl_nil (f_then (c_block ?_))))))))))))))))
  refine c_loopK (α := Nat) [0, 9, 10] rfl (fun z => [(5, wordV (mixW x (ns.take z))), (11, .int .i64 (z : Int))]) (fun z u => (z ≤ ns.length) ∧ Ext No w u) (fun z u => ns.length - z) (0) rfl ⟨Nat.zero_le _, hX⟩ ?_
  rintro i w1 ⟨hi, hX⟩
  try dsimp only
  refine c_seq (c_region (wl_p I_ok rfl (wl_nil (f_then (c_seq (c_if rfl (fun hc => ?_) (fun hc => ?_)))))))
  · have hi : i < ns.length := by omega
    obtain ⟨b, off, rfl, hcell⟩ := (h.extNo hX).natAt hi
    have h32 := hns _ (List.getElem_mem hi)
    refine c_skip (f_then (c_seq (c_block (c_seq (c_region (wl (st_ix I_ok rfl 1 rfl i rfl (by omega) (off + i * 1) rfl (wl (st_ld I_ok rfl hcell (wl_p I_ok rfl (wl_nil (f_then ?_))))))))))))
    refine c_draw rfl 11 [(0, true), (1, true), (2, true), (3, true), (4, true), (5, true), (6, true), (7, true), (8, true), (9, true), (10, true)] [] (No) (by kernel_rfl) fun w2 hE2 hs2 => ?_
    have hXd := hX
    have hX := hX.thenNo hE2
    have hC : Ext (No) _ w2 := hE2.no
    refine wd_k I_ok 3 rfl (wd_sh I_ok rfl rfl (Int.natCast_nonneg _) ?_)
    dsimp only [shV]
    refine wd_k I_ok 3 rfl ?_
    rw [IntWalk.i64_in _ (by omega)]
    refine wd_sh I_ok rfl rfl (by omega) ?_
    dsimp only [shV]
    refine wd_k I_ok 3 rfl ?_
    rw [show (32 - ((ns[i] : Nat) : Int)) = ((32 - ns[i] : Nat) : Int) from by omega, w_shr, w_shl, w_or, w_xor, Int.toNat_natCast, Int.toNat_natCast, show (x >>> ns[i] ||| x <<< (32 - ns[i])) = rot x ns[i] from rfl, ← mixW_take x ns hi]
    refine wd_sw (wb_nil (f_blockN (f_then (c_region (wl_p I_ok rfl ?_)))))
    rw [IntWalk.i64_in _ (by omega)]
    refine wl_nil ?_
    exact f_round (i + 1) rfl ⟨hi, hX⟩ (by first | omega | (dsimp only; omega))
  · have e : ns.take i = ns := List.take_of_length_le (by omega)
    rw [e]
    refine c_exit (f_thenE (f_thenE (f_blockE (f_then (c_seq (c_region (wl_p I_ok rfl (wl_nil (f_then (c_ret (f_ret1 rfl rfl ?_)))))))))))
    exact ⟨rfl, hX⟩
end Go.Proofs.YtlfdlodcjiaiiaaGreatDoor
