/-
  Walks and laws towards: FetchTakesCardSaid , walked
-/
import Derived.IntWalk
import Derived.DeepKeys
import Derived.Test.YtpcdihkcenfgkaaGreatDoorFtA
namespace Go.Vc
abbrev byteV (b : UInt8) : Value := .int .u8 (b.toNat : Int)
def zq6 (l : List UInt8) : List Value := l.map byteV
theorem zx0 (l : List UInt8) : (zq6 l).length = l.length := by simp [zq6]
instance (l : List UInt8) : OneC (zq6 l) := ⟨fun u hu => by obtain ⟨x, _, rfl⟩ := List.mem_map.1 hu; rfl⟩
theorem zz8 (a b : List UInt8) : zq6 (a ++ b) = zq6 a ++ zq6 b := by simp [zq6]
theorem bytesU_take (l : List UInt8) (n : Nat) : (zq6 l).take n = zq6 (l.take n) := by simp [zq6]
theorem bytesU_drop (l : List UInt8) (n : Nat) : (zq6 l).drop n = zq6 (l.drop n) := by simp [zq6]
theorem bytesU_get (l : List UInt8) {i : Nat} (h : i < l.length) : (zq6 l)[i]? = some (byteV l[i]) := by simp [zq6, h]
theorem bytesU_inj {a b : List UInt8} (h : zq6 a = zq6 b) : a = b := by
 refine (List.map_inj_right (f := byteV) fun x y e => ?_).1 h
 simp only [byteV, Value.int.injEq, true_and] at e
 exact UInt8.toNat_inj.1 (by omega)
abbrev SlB (w : World) (p : Option Addr) (l : List UInt8) : Prop := Sl w p l.length 1 (zq6 l)
def be : Nat → Nat → List UInt8
  | 0, _ => []
  | n + 1, x => be n (x / 256) ++ [UInt8.ofNat x]
theorem zj5 (n x : Nat) : (be n x).length = n := by
 induction n generalizing x with
 | zero => rfl
 | succ n ih => simp [be, ih]
theorem wrap_byte (x : Nat) : IntKind.u8.wrap (x : Int) = ((UInt8.ofNat x).toNat : Int) := by
 rw [IntKind.wrap_u8, UInt8.toNat_ofNat']
 omega
theorem shr4 (x : Nat) : Int.fdiv (x : Int) (2 ^ 4) = ((x / 16 : Nat) : Int) := by
 rw [Int.fdiv_eq_ediv_of_nonneg _ (by decide)]
 rfl
theorem fill_byte (l t : List UInt8) (k : Nat) (b : UInt8) : (zq6 (l ++ (List.replicate (k + 1) 0 ++ t))).set (l.length + k) (byteV b) = zq6 (l ++ (List.replicate k 0 ++ (b :: t))) := by
 rw [zq6, ← List.map_set, List.set_append_right _ _ (by omega), Nat.add_sub_cancel_left, List.replicate_succ', List.append_assoc, List.set_append_right _ _ (by simp)]
 simp [zq6]
theorem rep_bytes (n : Nat) : rep n [Value.int .u8 0] = zq6 (List.replicate n 0) := by
 rw [rep_one]
 simp [zq6, byteV]
def num (l : List UInt8) : Nat := l.foldl (fun x b => x * 256 + b.toNat) 0
theorem num_snoc (l : List UInt8) (b : UInt8) : num (l ++ [b]) = num l * 256 + b.toNat := by simp [num]
theorem num_take (l : List UInt8) {i : Nat} (h : i < l.length) : num (l.take (i + 1)) = num (l.take i) * 256 + (l[i]).toNat := by
 rw [List.take_succ_eq_append_getElem h, num_snoc]
theorem SlB.at {w : World} {p : Option Addr} {l : List UInt8} (h : SlB w p l) {i : Nat} (hi : i < l.length) : ∃ b off, p = some ⟨b, off, none⟩ ∧ w.cell? ⟨b, off + i * 1, none⟩ = some (byteV l[i]) := by
 obtain ⟨_, h0 | ⟨b, off, hp, hs⟩⟩ := h
 ·omega
 ·exact ⟨b, off, hp, by rw [Nat.mul_one]; exact hs i _ (bytesU_get l hi)⟩
theorem num_lt (l : List UInt8) : num l < 256 ^ l.length := by
 have : ∀ (l : List UInt8), num l < 256 ^ l.length := by
  intro l
  generalize hn : l.length = n
  induction n generalizing l with
  | zero =>
   have : l = [] := List.eq_nil_of_length_eq_zero hn
   subst this; simp [num]
  | succ n ih =>
   have hne : l ≠ [] := fun e => by subst e; simp at hn
   obtain ⟨b, hb⟩ : ∃ b, l = l.dropLast ++ [b] := ⟨l.getLast hne, (List.dropLast_concat_getLast hne).symm⟩
   rw [hb, num_snoc]
   have h1 := ih l.dropLast (by simp [hn])
   have h2 := b.toNat_lt
   rw [Nat.pow_succ]
   omega
 exact this l
theorem num_go (l : List UInt8) (x : Nat) : l.foldl (fun x b => x * 256 + b.toNat) x = x * 256 ^ l.length + num l := by
 induction l generalizing x with
 | nil => simp [num]
 | cons b r ih =>
  have e : num (b :: r) = (0 * 256 + b.toNat) * 256 ^ r.length + num r := ih _
  rw [List.foldl_cons, ih, e, List.length_cons, Nat.pow_succ, Nat.add_mul, Nat.zero_mul, Nat.zero_add, Nat.add_assoc, Nat.mul_assoc, Nat.mul_comm 256]
theorem num_cons (b : UInt8) (l : List UInt8) : num (b :: l) = b.toNat * 256 ^ l.length + num l := by
 have e : num (b :: l) = (0 * 256 + b.toNat) * 256 ^ l.length + num l := num_go l _
 rw [e, Nat.zero_mul, Nat.zero_add]
theorem num_drop (l : List UInt8) {i : Nat} (h : i < l.length) : num (l.drop i) = (l[i]).toNat * 256 ^ (l.length - (i + 1)) + num (l.drop (i + 1)) := by
 rw [List.drop_eq_getElem_cons h, num_cons, List.length_drop]
end Go.Vc
namespace Go.Proofs.YtpcdihkcenfgkaaGreatDoor
open Go.Vc
theorem lies16_calls (w : World) {p : Option Addr} {c : Nat} {l : List UInt8} (h : SlB w p l) (hl : l.length < 1000000000) (x n : Nat) (hn : n < 100) (hx : x < 2 ^ 16) :
  zz1 Tryz.prog 182 [.slice p l.length c, .int .u16 (x : Int), .int .i64 (n : Int)] w fun v w' => ∃ b, v = .slice (some ⟨b, 0, none⟩) (l.length + n) (l.length + n) ∧ w.heap.size ≤ b ∧ Blk w' b 5 (zq6 (l ++ be n x)) ∧ Ext No w w' := by
 refine zq9 Tryz.func182 rfl rfl rfl rfl ?_
 have hX := Ext.refl No w
 refine zq5 (zq0 (wl_p I_ok rfl (zq3 (zq1 (zq5 (zq0 (wl_p I_ok rfl ?_)))))))
 rw [IntWalk.i64_in _ (by omega)]
 refine wl (st_mk I_ok rfl (l.length + n) (l.length + n) 1 rfl rfl rfl (by decide) (by omega) (by omega) (Nat.le_refl _) (by omega) (by unfold maxLen; omega) fun b14 w1 hn14 hb14 hE1 hs1 => ?_)
 have fr14 := Nat.le_trans hX.size hn14
 have hX := hX.zq4 hE1
 have hb14 : Blk w1 b14 5 (zq6 (List.replicate (l.length + n) 0)) := by (have e : rep (l.length + n) (cellsOf ti5.zero) = zq6 (List.replicate (l.length + n) 0) := rep_bytes _); rw [← e]; exact hb14
 refine wl_p I_ok rfl (zq3 (zq1 (zq5 (zq0 (wl_p I_ok rfl (wl (st_cp I_ok rfl 1 rfl hb14 (Src.slice (h.zq2 hX) OneC.h) (by dsimp only; omega) (by rw [zx0, List.length_replicate]; dsimp only; omega) fun w2 hc2 hE2 hs2 => ?_)))))))
 have hb14 : Blk w2 b14 5 (zq6 (l ++ (List.replicate n 0 ++ []))) := by
  have e : Vc.put (zq6 (List.replicate (l.length + n) 0)) 0 (zq6 l) = zq6 (l ++ (List.replicate n 0 ++ [])) := by
   rw [put_eq _ _ _ (by simp [zx0])]
   rw [bytesU_drop]
   simp [zz8, zx0]
  rw [← e]; exact hc2
 have hX := hX.zx1 hE2 fr14
 refine wl_p I_ok rfl (zq3 (zq1 (zq5 (zq5 (zq0 (wl_p I_ok rfl (zq3 (zq1 (zx4 ?_)))))))))
 refine zv3 (α := Nat × Nat × List UInt8) [7, 8] rfl (fun z => [(1, .int .u16 (z.2.1 : Int)), (9, .int .i64 ((l.length + z.1 : Nat) : Int))]) (fun z u => (z.1 ≤ n ∧ z.2.1 < 2 ^ 16 ∧ be n x = be z.1 z.2.1 ++ z.2.2 ∧ Blk u b14 5 (zq6 (l ++ (List.replicate z.1 0 ++ z.2.2)))) ∧ Ext No w u) (fun z u => z.1) (n, x, []) rfl ⟨⟨Nat.le_refl _, hx, by simp, hb14⟩, hX⟩ ?_
 rintro ⟨j, y, t⟩ w3 ⟨⟨hj, hy, hbe, hb14⟩, hX⟩
 try dsimp only
 dsimp only at hj hy hbe hb14
 refine zq5 (zq5 (zq0 (wl_p I_ok rfl (zq3 (zq1 (c_if rfl (fun hc => ?_) (fun hc => ?_)))))))
 ·obtain ⟨i, rfl⟩ : ∃ i, j = i + 1 := ⟨j - 1, by omega⟩
  refine zx7 (zq1 (zx4 (zq5 (zq0 (wl_p I_ok rfl ?_)))))
  rw [IntWalk.i64_in _ (by omega)]
  refine zq3 (zq1 (zq5 (zq0 (wl_p I_ok rfl ?_))))
  rw [show (((l.length + (i + 1) : Nat) : Int) - 1) = ((l.length + i : Nat) : Int) from by omega]
  rw [wrap_byte]
  refine wl (st_ix I_ok rfl 1 rfl (l.length + i) rfl (by omega) (0 + (l.length + i) * 1) rfl (wl (st_set I_ok hb14 rfl rfl (by rw [zx0]; simp; omega) fun w4 hb14 hE4 hs4 => ?_)))
  have hX := hX.zx1 hE4 fr14
  have hb14 : Blk w4 b14 5 (zq6 (l ++ (List.replicate i 0 ++ (UInt8.ofNat y :: t)))) := by
   rw [Nat.zero_add, Nat.mul_one, fill_byte] at hb14
   exact hb14
  refine zq3 (zq1 (zq5 (zq0 (wl_p I_ok rfl (zq3 (zq1 (zq0 (wl_p I_ok rfl ?_))))))))
  rw [show Int.fdiv (Int.fdiv (y : Int) (2 ^ min (4 : Int).toNat IntKind.u16.bits)) (2 ^ min (4 : Int).toNat IntKind.u16.bits) = ((y / 16 / 16 : Nat) : Int) from by rw [show (2 : Int) ^ min (4 : Int).toNat IntKind.u16.bits = 2 ^ 4 from rfl, shr4, shr4]]
  refine zq3 ?_
  exact zx6 (zv1 (i, y / 16 / 16, UInt8.ofNat y :: t) rfl ⟨⟨by dsimp only; omega, by dsimp only; omega, by dsimp only; rw [hbe, be, Nat.div_div_eq_div_mul]; simp, hb14⟩, hX⟩ (by first | omega | (dsimp only; omega)))
 ·have hj0 : j = 0 := by omega
  subst hj0
  have hbe : be n x = t := by rw [hbe]; rfl
  rw [List.replicate_zero, List.nil_append, ← hbe] at hb14
  refine c_exit (zx3 (zx3 (zz0 (zq1 (zq5 (zq0 (wl_p I_ok rfl (zq3 (zq1 (zj0 (zz2 rfl rfl ?_)))))))))))
  exact ⟨b14, rfl, fr14, hb14, hX⟩
theorem put16_calls (w : World) {p : Option Addr} {c : Nat} {l : List UInt8} (h : SlB w p l) (hl : l.length < 1000000000) (x : Nat) (hx : x < 2 ^ 16) :
  zz1 Tryz.prog 154 [.slice p l.length c, .int .u16 (x : Int)] w fun v w' => ∃ b, v = .slice (some ⟨b, 0, none⟩) (l ++ be 2 x).length (l ++ be 2 x).length ∧ w.heap.size ≤ b ∧ Blk w' b 5 (zq6 (l ++ be 2 x)) ∧ Ext No w w' := by
 refine zq9 Tryz.func154 rfl rfl rfl rfl ?_
 have hX := Ext.refl No w
 refine zq5 (zq0 (wl_p I_ok rfl (zq3 (zq1 (zq5 (zq0 (wl_p I_ok rfl ?_)))))))
 have hX0 := hX
 refine wl (zx2 Tryz.call182 rfl rfl rfl rfl rfl rfl (lies16_calls w (h.zq2 hX) hl x 2 (by decide) hx) fun v1 w1 hr1 => ?_)
 obtain ⟨b, rfl, hn, hb, hE1⟩ := hr1
 have hX := hX.zq4 hE1
 refine wl_p I_ok rfl (zq3 (zq1 (zj0 (zz2 rfl rfl ?_))))
 exact ⟨b, by simp [zj5], Nat.le_trans hX0.size hn, hb, hX⟩
theorem lies32_calls (w : World) {p : Option Addr} {c : Nat} {l : List UInt8} (h : SlB w p l) (hl : l.length < 1000000000) (x n : Nat) (hn : n < 100) (hx : x < 2 ^ 32) :
  zz1 Tryz.prog 155 [.slice p l.length c, .int .u32 (x : Int), .int .i64 (n : Int)] w fun v w' => ∃ b, v = .slice (some ⟨b, 0, none⟩) (l.length + n) (l.length + n) ∧ w.heap.size ≤ b ∧ Blk w' b 5 (zq6 (l ++ be n x)) ∧ Ext No w w' := by
 refine zq9 Tryz.func155 rfl rfl rfl rfl ?_
 have hX := Ext.refl No w
 refine zq5 (zq0 (wl_p I_ok rfl (zq3 (zq1 (zq5 (zq0 (wl_p I_ok rfl ?_)))))))
 rw [IntWalk.i64_in _ (by omega)]
 refine wl (st_mk I_ok rfl (l.length + n) (l.length + n) 1 rfl rfl rfl (by decide) (by omega) (by omega) (Nat.le_refl _) (by omega) (by unfold maxLen; omega) fun b14 w1 hn14 hb14 hE1 hs1 => ?_)
 have fr14 := Nat.le_trans hX.size hn14
 have hX := hX.zq4 hE1
 have hb14 : Blk w1 b14 5 (zq6 (List.replicate (l.length + n) 0)) := by (have e : rep (l.length + n) (cellsOf ti5.zero) = zq6 (List.replicate (l.length + n) 0) := rep_bytes _); rw [← e]; exact hb14
 refine wl_p I_ok rfl (zq3 (zq1 (zq5 (zq0 (wl_p I_ok rfl (wl (st_cp I_ok rfl 1 rfl hb14 (Src.slice (h.zq2 hX) OneC.h) (by dsimp only; omega) (by rw [zx0, List.length_replicate]; dsimp only; omega) fun w2 hc2 hE2 hs2 => ?_)))))))
 have hb14 : Blk w2 b14 5 (zq6 (l ++ (List.replicate n 0 ++ []))) := by
  have e : Vc.put (zq6 (List.replicate (l.length + n) 0)) 0 (zq6 l) = zq6 (l ++ (List.replicate n 0 ++ [])) := by
   rw [put_eq _ _ _ (by simp [zx0])]
   rw [bytesU_drop]
   simp [zz8, zx0]
  rw [← e]; exact hc2
 have hX := hX.zx1 hE2 fr14
 refine wl_p I_ok rfl (zq3 (zq1 (zq5 (zq5 (zq0 (wl_p I_ok rfl (zq3 (zq1 (zx4 ?_)))))))))
 refine zv3 (α := Nat × Nat × List UInt8) [7, 8] rfl (fun z => [(1, .int .u32 (z.2.1 : Int)), (9, .int .i64 ((l.length + z.1 : Nat) : Int))]) (fun z u => (z.1 ≤ n ∧ z.2.1 < 2 ^ 32 ∧ be n x = be z.1 z.2.1 ++ z.2.2 ∧ Blk u b14 5 (zq6 (l ++ (List.replicate z.1 0 ++ z.2.2)))) ∧ Ext No w u) (fun z u => z.1) (n, x, []) rfl ⟨⟨Nat.le_refl _, hx, by simp, hb14⟩, hX⟩ ?_
 rintro ⟨j, y, t⟩ w3 ⟨⟨hj, hy, hbe, hb14⟩, hX⟩
 try dsimp only
 dsimp only at hj hy hbe hb14
 refine zq5 (zq5 (zq0 (wl_p I_ok rfl (zq3 (zq1 (c_if rfl (fun hc => ?_) (fun hc => ?_)))))))
 ·obtain ⟨i, rfl⟩ : ∃ i, j = i + 1 := ⟨j - 1, by omega⟩
  refine zx7 (zq1 (zx4 (zq5 (zq0 (wl_p I_ok rfl ?_)))))
  rw [IntWalk.i64_in _ (by omega)]
  refine zq3 (zq1 (zq5 (zq0 (wl_p I_ok rfl ?_))))
  rw [show (((l.length + (i + 1) : Nat) : Int) - 1) = ((l.length + i : Nat) : Int) from by omega]
  rw [wrap_byte]
  refine wl (st_ix I_ok rfl 1 rfl (l.length + i) rfl (by omega) (0 + (l.length + i) * 1) rfl (wl (st_set I_ok hb14 rfl rfl (by rw [zx0]; simp; omega) fun w4 hb14 hE4 hs4 => ?_)))
  have hX := hX.zx1 hE4 fr14
  have hb14 : Blk w4 b14 5 (zq6 (l ++ (List.replicate i 0 ++ (UInt8.ofNat y :: t)))) := by
   rw [Nat.zero_add, Nat.mul_one, fill_byte] at hb14
   exact hb14
  refine zq3 (zq1 (zq5 (zq0 (wl_p I_ok rfl (zq3 (zq1 (zq0 (wl_p I_ok rfl ?_))))))))
  rw [show Int.fdiv (Int.fdiv (y : Int) (2 ^ min (4 : Int).toNat IntKind.u32.bits)) (2 ^ min (4 : Int).toNat IntKind.u32.bits) = ((y / 16 / 16 : Nat) : Int) from by rw [show (2 : Int) ^ min (4 : Int).toNat IntKind.u32.bits = 2 ^ 4 from rfl, shr4, shr4]]
  refine zq3 ?_
  exact zx6 (zv1 (i, y / 16 / 16, UInt8.ofNat y :: t) rfl ⟨⟨by dsimp only; omega, by dsimp only; omega, by dsimp only; rw [hbe, be, Nat.div_div_eq_div_mul]; simp, hb14⟩, hX⟩ (by first | omega | (dsimp only; omega)))
 ·have hj0 : j = 0 := by omega
  subst hj0
  have hbe : be n x = t := by rw [hbe]; rfl
  rw [List.replicate_zero, List.nil_append, ← hbe] at hb14
  refine c_exit (zx3 (zx3 (zz0 (zq1 (zq5 (zq0 (wl_p I_ok rfl (zq3 (zq1 (zj0 (zz2 rfl rfl ?_)))))))))))
  exact ⟨b14, rfl, fr14, hb14, hX⟩
theorem put32_calls (w : World) {p : Option Addr} {c : Nat} {l : List UInt8} (h : SlB w p l) (hl : l.length < 1000000000) (x : Nat) (hx : x < 2 ^ 32) :
  zz1 Tryz.prog 121 [.slice p l.length c, .int .u32 (x : Int)] w fun v w' => ∃ b, v = .slice (some ⟨b, 0, none⟩) (l ++ be 4 x).length (l ++ be 4 x).length ∧ w.heap.size ≤ b ∧ Blk w' b 5 (zq6 (l ++ be 4 x)) ∧ Ext No w w' := by
 refine zq9 Tryz.func121 rfl rfl rfl rfl ?_
 have hX := Ext.refl No w
 refine zq5 (zq0 (wl_p I_ok rfl (zq3 (zq1 (zq5 (zq0 (wl_p I_ok rfl ?_)))))))
 have hX0 := hX
 refine wl (zx2 Tryz.call155 rfl rfl rfl rfl rfl rfl (lies32_calls w (h.zq2 hX) hl x 4 (by decide) hx) fun v1 w1 hr1 => ?_)
 obtain ⟨b, rfl, hn, hb, hE1⟩ := hr1
 have hX := hX.zq4 hE1
 refine wl_p I_ok rfl (zq3 (zq1 (zj0 (zz2 rfl rfl ?_))))
 exact ⟨b, by simp [zj5], Nat.le_trans hX0.size hn, hb, hX⟩
theorem lies64_calls (w : World) {p : Option Addr} {c : Nat} {l : List UInt8} (h : SlB w p l) (hl : l.length < 1000000000) (x n : Nat) (hn : n < 100) (hx : x < 2 ^ 64) :
  zz1 Tryz.prog 183 [.slice p l.length c, .int .u64 (x : Int), .int .i64 (n : Int)] w fun v w' => ∃ b, v = .slice (some ⟨b, 0, none⟩) (l.length + n) (l.length + n) ∧ w.heap.size ≤ b ∧ Blk w' b 5 (zq6 (l ++ be n x)) ∧ Ext No w w' := by
 refine zq9 Tryz.func183 rfl rfl rfl rfl ?_
 have hX := Ext.refl No w
 refine zq5 (zq0 (wl_p I_ok rfl (zq3 (zq1 (zq5 (zq0 (wl_p I_ok rfl ?_)))))))
 rw [IntWalk.i64_in _ (by omega)]
 refine wl (st_mk I_ok rfl (l.length + n) (l.length + n) 1 rfl rfl rfl (by decide) (by omega) (by omega) (Nat.le_refl _) (by omega) (by unfold maxLen; omega) fun b14 w1 hn14 hb14 hE1 hs1 => ?_)
 have fr14 := Nat.le_trans hX.size hn14
 have hX := hX.zq4 hE1
 have hb14 : Blk w1 b14 5 (zq6 (List.replicate (l.length + n) 0)) := by (have e : rep (l.length + n) (cellsOf ti5.zero) = zq6 (List.replicate (l.length + n) 0) := rep_bytes _); rw [← e]; exact hb14
 refine wl_p I_ok rfl (zq3 (zq1 (zq5 (zq0 (wl_p I_ok rfl (wl (st_cp I_ok rfl 1 rfl hb14 (Src.slice (h.zq2 hX) OneC.h) (by dsimp only; omega) (by rw [zx0, List.length_replicate]; dsimp only; omega) fun w2 hc2 hE2 hs2 => ?_)))))))
 have hb14 : Blk w2 b14 5 (zq6 (l ++ (List.replicate n 0 ++ []))) := by
  have e : Vc.put (zq6 (List.replicate (l.length + n) 0)) 0 (zq6 l) = zq6 (l ++ (List.replicate n 0 ++ [])) := by
   rw [put_eq _ _ _ (by simp [zx0])]
   rw [bytesU_drop]
   simp [zz8, zx0]
  rw [← e]; exact hc2
 have hX := hX.zx1 hE2 fr14
 refine wl_p I_ok rfl (zq3 (zq1 (zq5 (zq5 (zq0 (wl_p I_ok rfl (zq3 (zq1 (zx4 ?_)))))))))
 refine zv3 (α := Nat × Nat × List UInt8) [7, 8] rfl (fun z => [(1, .int .u64 (z.2.1 : Int)), (9, .int .i64 ((l.length + z.1 : Nat) : Int))]) (fun z u => (z.1 ≤ n ∧ z.2.1 < 2 ^ 64 ∧ be n x = be z.1 z.2.1 ++ z.2.2 ∧ Blk u b14 5 (zq6 (l ++ (List.replicate z.1 0 ++ z.2.2)))) ∧ Ext No w u) (fun z u => z.1) (n, x, []) rfl ⟨⟨Nat.le_refl _, hx, by simp, hb14⟩, hX⟩ ?_
 rintro ⟨j, y, t⟩ w3 ⟨⟨hj, hy, hbe, hb14⟩, hX⟩
 try dsimp only
 dsimp only at hj hy hbe hb14
 refine zq5 (zq5 (zq0 (wl_p I_ok rfl (zq3 (zq1 (c_if rfl (fun hc => ?_) (fun hc => ?_)))))))
 ·obtain ⟨i, rfl⟩ : ∃ i, j = i + 1 := ⟨j - 1, by omega⟩
  refine zx7 (zq1 (zx4 (zq5 (zq0 (wl_p I_ok rfl ?_)))))
  rw [IntWalk.i64_in _ (by omega)]
  refine zq3 (zq1 (zq5 (zq0 (wl_p I_ok rfl ?_))))
  rw [show (((l.length + (i + 1) : Nat) : Int) - 1) = ((l.length + i : Nat) : Int) from by omega]
  rw [wrap_byte]
  refine wl (st_ix I_ok rfl 1 rfl (l.length + i) rfl (by omega) (0 + (l.length + i) * 1) rfl (wl (st_set I_ok hb14 rfl rfl (by rw [zx0]; simp; omega) fun w4 hb14 hE4 hs4 => ?_)))
  have hX := hX.zx1 hE4 fr14
  have hb14 : Blk w4 b14 5 (zq6 (l ++ (List.replicate i 0 ++ (UInt8.ofNat y :: t)))) := by
   rw [Nat.zero_add, Nat.mul_one, fill_byte] at hb14
   exact hb14
  refine zq3 (zq1 (zq5 (zq0 (wl_p I_ok rfl (zq3 (zq1 (zq0 (wl_p I_ok rfl ?_))))))))
  rw [show Int.fdiv (Int.fdiv (y : Int) (2 ^ min (4 : Int).toNat IntKind.u64.bits)) (2 ^ min (4 : Int).toNat IntKind.u64.bits) = ((y / 16 / 16 : Nat) : Int) from by rw [show (2 : Int) ^ min (4 : Int).toNat IntKind.u64.bits = 2 ^ 4 from rfl, shr4, shr4]]
  refine zq3 ?_
  exact zx6 (zv1 (i, y / 16 / 16, UInt8.ofNat y :: t) rfl ⟨⟨by dsimp only; omega, by dsimp only; omega, by dsimp only; rw [hbe, be, Nat.div_div_eq_div_mul]; simp, hb14⟩, hX⟩ (by first | omega | (dsimp only; omega)))
 ·have hj0 : j = 0 := by omega
  subst hj0
  have hbe : be n x = t := by rw [hbe]; rfl
  rw [List.replicate_zero, List.nil_append, ← hbe] at hb14
  refine c_exit (zx3 (zx3 (zz0 (zq1 (zq5 (zq0 (wl_p I_ok rfl (zq3 (zq1 (zj0 (zz2 rfl rfl ?_)))))))))))
  exact ⟨b14, rfl, fr14, hb14, hX⟩
theorem put64_calls (w : World) {p : Option Addr} {c : Nat} {l : List UInt8} (h : SlB w p l) (hl : l.length < 1000000000) (x : Nat) (hx : x < 2 ^ 64) :
  zz1 Tryz.prog 158 [.slice p l.length c, .int .u64 (x : Int)] w fun v w' => ∃ b, v = .slice (some ⟨b, 0, none⟩) (l ++ be 8 x).length (l ++ be 8 x).length ∧ w.heap.size ≤ b ∧ Blk w' b 5 (zq6 (l ++ be 8 x)) ∧ Ext No w w' := by
 refine zq9 Tryz.func158 rfl rfl rfl rfl ?_
 have hX := Ext.refl No w
 refine zq5 (zq0 (wl_p I_ok rfl (zq3 (zq1 (zq5 (zq0 (wl_p I_ok rfl ?_)))))))
 have hX0 := hX
 refine wl (zx2 Tryz.call183 rfl rfl rfl rfl rfl rfl (lies64_calls w (h.zq2 hX) hl x 8 (by decide) hx) fun v1 w1 hr1 => ?_)
 obtain ⟨b, rfl, hn, hb, hE1⟩ := hr1
 have hX := hX.zq4 hE1
 refine wl_p I_ok rfl (zq3 (zq1 (zj0 (zz2 rfl rfl ?_))))
 exact ⟨b, by simp [zj5], Nat.le_trans hX0.size hn, hb, hX⟩
def TyU (w : World) (p : Option Addr) : Prop := ∀ a, p = some a → ∃ L, Blk w a.block 5 L
theorem TyU.ext {S : Nat → Prop} {w w' : World} {p : Option Addr} (h : TyU w p) (hE : Ext S w w') (hS : ∀ b L, Blk w b 5 L → ¬ S b) : TyU w' p := fun a ha => by
 obtain ⟨L, hL⟩ := h a ha
 exact ⟨L, hL.ext hE (hS _ L hL)⟩
theorem TyU.nil (w : World) : TyU w none := fun _ h => by cases h
theorem TyU.of {w : World} {b : Nat} {L : List Value} (h : Blk w b 5 L) (o : Nat) (e : Option Nat) : TyU w (some ⟨b, o, e⟩) := fun a ha => by cases ha; exact ⟨L, h⟩
theorem TyU.sub {w : World} {p : Option Addr} (h : TyU w p) (l m sz : Nat) : TyU w (slBase p l m sz) := fun a ha => by
 unfold slBase at ha
 split at ha
 ·exact h a ha
 ·cases p with
  | none => cases ha
  | some a0 =>
   have h0 := h a0 rfl
   simp only [Option.map_some, Option.some.injEq, Addr.add] at ha
   subst ha
   obtain ⟨L, hL⟩ := h0
   refine ⟨L, ?_⟩
   split <;> exact hL
theorem SlB.zx9 {S : Nat → Prop} {w w' : World} {p : Option Addr} {l : List UInt8} (h : SlB w p l) (ht : TyU w p) (hE : Ext S w w') (hS : ∀ b L, Blk w b 5 L → ¬ S b) : SlB w' p l :=
 h.ext hE fun b off hb => by obtain ⟨L, hL⟩ := ht _ hb; exact hS b L hL
def Rd (w : World) (rb : Nat) (l : List UInt8) (e : Int) : Prop :=
  ∃ p c, Blk w rb 208 [.slice p l.length c, .int .i64 e] ∧ l.length ≤ c ∧ SlB w p l ∧ TyU w p
theorem Rd.ext {S : Nat → Prop} {w w' : World} {rb : Nat} {l : List UInt8} {e : Int} (h : Rd w rb l e) (hE : Ext S w w') (h1 : ¬ S rb) (h2 : ∀ b L, Blk w b 5 L → ¬ S b) : Rd w' rb l e := by
 obtain ⟨p, c, hb, hc, hs, ht⟩ := h
 exact ⟨p, c, hb.ext hE h1, hc, SlB.zx9 hs ht hE h2, ht.ext hE h2⟩
theorem Rd.zq2 {w w' : World} {rb : Nat} {l : List UInt8} {e : Int} (h : Rd w rb l e) (hE : Ext No w w') : Rd w' rb l e := h.ext hE id fun _ _ _ => id
theorem Rd.ne {w : World} {rb : Nat} {l : List UInt8} {e : Int} (h : Rd w rb l e) {b T : Nat} {L : List Value} (hb : Blk w b T L) (hT : 208 ≠ T) : rb ≠ b := by obtain ⟨_, _, h, _⟩ := h; exact h.ne hb hT
def offR (l : List UInt8) (e n : Int) : List UInt8 × List UInt8 × Int :=
  if e ≠ 0 then ([], l, e) else if n < 0 then ([], l, 2) else if (l.length : Int) < n then ([], l, 7) else (l.take n.toNat, l.drop n.toNat, 0)
theorem offR_len (l : List UInt8) (e n : Int) : (offR l e n).1.length ≤ n.toNat ∧ (offR l e n).2.1.length ≤ l.length ∧ (offR l e n).1.length ≤ l.length := by
 unfold offR
 repeat' split
 all_goals simp
 all_goals omega
theorem read_calls (w : World) {p : Option Addr} {c : Nat} {l : List UInt8} (h : SlB w p l) (hl : l.length < 1000000000) :
  zz1 Tryz.prog 90 [.slice p l.length c] w fun v w' => ∃ rb, v = .pointer (some ⟨rb, 0, none⟩) ∧ w.heap.size ≤ rb ∧ Rd w' rb l 0 ∧ Ext No w w' := by
 refine zq9 Tryz.func90 rfl rfl rfl rfl ?_
 have hX := Ext.refl No w
 refine zq5 (zq0 (wl_p I_ok rfl (zq3 (zq1 (zq5 (zq0 (wl_p I_ok rfl ?_)))))))
 refine wl (st_mk I_ok rfl l.length l.length 1 rfl rfl rfl (by decide) rfl rfl (Nat.le_refl _) (by omega) (by unfold maxLen; omega) fun b6 w1 hn6 hb6 hE1 hs1 => ?_)
 have fr6 := Nat.le_trans hX.size hn6
 have hX := hX.zq4 hE1
 have hb6 : Blk w1 b6 5 (zq6 (List.replicate l.length 0)) := by (have e : rep l.length (cellsOf ti5.zero) = zq6 (List.replicate l.length 0) := rep_bytes _); rw [← e]; exact hb6
 refine wl_p I_ok rfl (zq3 (zq1 (zq5 (zq0 (wl_p I_ok rfl (wl (st_cp I_ok rfl 1 rfl hb6 (Src.slice (h.zq2 hX) OneC.h) (Nat.le_refl _) (by rw [zx0, List.length_replicate]; dsimp only; omega) fun w2 hc2 hE2 hs2 => ?_)))))))
 have hb6 : Blk w2 b6 5 (zq6 l) := by
  have e : Vc.put (zq6 (List.replicate l.length 0)) 0 (zq6 l) = zq6 l := put_whole (by simp [zx0])
  rw [← e]; exact hc2
 have hX := hX.zx1 hE2 fr6
 refine zq3 (zq1 (zq5 (zq0 (wl_p I_ok rfl (wl (st_bd I_ok rfl ⟨⟨rfl, by decide⟩, trivial⟩ (l' := [.slice (some ⟨b6, 0, none⟩) l.length l.length, .int .i64 0]) rfl ?_))))))
 refine wl (st_bd I_ok rfl ⟨⟨rfl, by decide⟩, trivial⟩ (l' := [.slice (some ⟨b6, 0, none⟩) l.length l.length, .int .i64 0]) rfl (wl (zz9 I_ok rfl fun b13 w3 hn13 hb13 hE3 => ?_)))
 have fr13 := Nat.le_trans hX.size hn13
 have hX := hX.zq4 hE3
 have hb13 : Blk w3 b13 208 ([.slice (some ⟨b6, 0, none⟩) l.length l.length, .int .i64 0]) := hb13
 have hb6 := hb6.zq2 hE3
 refine wl_p I_ok rfl (zq3 (zq1 (zj0 (zz2 rfl rfl ?_))))
 exact ⟨b13, rfl, fr13, ⟨_, _, hb13, Nat.le_refl _, ⟨by simp [zx0], .inr ⟨b6, 0, rfl, hb6.seg⟩⟩, TyU.of hb6 _ _⟩, hX⟩
theorem off_calls (w : World) {rb : Nat} {l : List UInt8} {e : Int} (h : Rd w rb l e) (_hl : l.length < 1000000000) (n : Int) :
  zz1 Tryz.prog 172 [.pointer (some ⟨rb, 0, none⟩), .int .i64 n] w fun v w' => ∃ q c', v = .slice q (offR l e n).1.length c' ∧ SlB w' q (offR l e n).1 ∧ TyU w' q ∧ Rd w' rb (offR l e n).2.1 (offR l e n).2.2 ∧ Ext (One rb) w w' := by
 have h0 := h
 obtain ⟨p, c, hrb, hcap, hs, ht⟩ := h
 have hty : ∀ (w2 : World) (b : Nat) (L : List Value), Blk w b 5 L → ¬ One rb b := fun _ b L hb e => hb.ne hrb (by decide) e
 refine zq9 Tryz.func172 rfl rfl rfl rfl ?_
 have hX := Ext.refl (One rb) w
 refine zq5 (zq0 (wl_p I_ok rfl (zq3 (zq1 (zq5 (c_cutK (α := Bool) [0, 1] rfl (fun z => [(15, .bool z)]) (fun z u => u = w ∧ z = decide (e ≠ 0)) ?_ ?_))))))
 ·refine zq0 ?_
  refine wl_p I_ok rfl (wl_case 8 rfl (fun hg => ?_) (fun hg => ?_))
  ·cases hg
  ·refine zz5 I_ok 4 rfl ?_
   refine wl (st_ld I_ok rfl (hrb.cell rfl) (zz5 I_ok 2 rfl (zq3 ?_)))
   exact zz7 (_) rfl ⟨rfl, rfl⟩
 rintro z w1 ⟨hu, rfl⟩
 have hu := hu.symm
 subst hu
 refine c_if rfl (fun hc => ?_) (fun hc => ?_)
 ·have e1 : offR l e n = ([], l, e) := if_pos hc
  rw [e1]
  refine zq5 (zq0 (wl_p I_ok rfl (zq3 (zq1 (zj0 (zx5 (zz2 rfl rfl ?_)))))))
  exact ⟨none, 0, rfl, Sl.nil _ _ _, TyU.nil _, h0, Ext.refl _ _⟩
 ·have he : e = 0 := Decidable.not_not.1 hc
  refine zx7 (zq1 (zq5 (zq5 (zq0 (wl_p I_ok rfl (zq3 (zq1 (c_if rfl (fun hc => ?_) (fun hc => ?_)))))))))
  ·have e1 : offR l e n = ([], l, 2) := by rw [offR, if_neg (by simpa using he), if_pos hc]
   rw [e1]
   refine zq5 (zq0 (wl_p I_ok rfl (wl (st_st I_ok hrb rfl rfl rfl fun w2 hrb2 hE2 hs2 => ?_))))
   have hEE := hE2
   have hrb := hrb2
   have hR : Rd w2 rb l 2 := ⟨p, c, hrb, hcap, SlB.zx9 hs ht hE2 (hty w2), ht.ext hE2 (hty w2)⟩
   refine zq3 (zq1 (zq5 (zq0 (wl_p I_ok rfl (zq3 (zq1 (zj0 (zx5 (zz2 rfl rfl ?_)))))))))
   exact ⟨none, 0, rfl, Sl.nil _ _ _, TyU.nil _, hR, hEE⟩
  ·have hn0 : ¬ n < 0 := hc
   refine zx7 (zq1 (zq5 (zq5 (zq0 (wl_p I_ok rfl (wl (st_ld I_ok rfl (hrb.cell rfl) (wl_p I_ok rfl (zq3 (zq1 (c_if rfl (fun hc => ?_) (fun hc => ?_))))))))))))
   ·have e1 : offR l e n = ([], l, 7) := by rw [offR, if_neg (by simpa using he), if_neg hn0, if_pos hc]
    rw [e1]
    refine zq5 (zq0 (wl_p I_ok rfl (wl (st_st I_ok hrb rfl rfl rfl fun w3 hrb2 hE3 hs3 => ?_))))
    have hEE := hE3
    have hrb := hrb2
    have hR : Rd w3 rb l 7 := ⟨p, c, hrb, hcap, SlB.zx9 hs ht hE3 (hty w3), ht.ext hE3 (hty w3)⟩
    refine zq3 (zq1 (zq5 (zq0 (wl_p I_ok rfl (zq3 (zq1 (zj0 (zx5 (zz2 rfl rfl ?_)))))))))
    exact ⟨none, 0, rfl, Sl.nil _ _ _, TyU.nil _, hR, hEE⟩
   ·have e1 : offR l e n = (l.take n.toNat, l.drop n.toNat, 0) := by rw [offR, if_neg (by simpa using he), if_neg hn0, if_neg hc]
    rw [e1]
    have hnn : n = (n.toNat : Int) := by omega
    have hnl : n.toNat ≤ l.length := by omega
    refine zx7 (zq1 (zq5 (zq0 (wl_p I_ok rfl (wl (st_ld I_ok rfl (hrb.cell rfl) (wl_p I_ok rfl ?_)))))))
    refine wl (st_sl I_ok rfl 0 n.toNat n.toNat 1 rfl (.inl ⟨congrArg some hnn, rfl⟩) (.inl (congrArg some hnn)) (.inr ⟨rfl, rfl⟩) (Nat.zero_le _) (Nat.le_refl _) (by dsimp only; omega) ?_)
    dsimp only
    rw [slBase_zero, Nat.sub_zero]
    refine wl_p I_ok rfl (zq3 (zq1 (zq5 (zq0 (wl_p I_ok rfl (wl (st_ld I_ok rfl (hrb.cell rfl) (wl_p I_ok rfl ?_))))))))
    refine wl (st_sl I_ok rfl n.toNat l.length c 1 rfl (.inr ⟨rfl, rfl⟩) (.inr ⟨rfl, rfl⟩) (.inl (congrArg some hnn)) hnl hcap (Nat.le_refl _) ?_)
    dsimp only
    refine wl_p I_ok rfl (wl (st_st I_ok hrb rfl rfl rfl fun w4 hrb2 hE4 hs4 => ?_))
    have hEE := hE4
    have hrb := hrb2
    have hs1 := hs.slice 0 n.toNat n.toNat (Nat.zero_le _) (Nat.le_refl _) hnl
    have hs2 := hs.slice n.toNat l.length c hnl hcap (Nat.le_refl _)
    rw [slBase_zero, Nat.sub_zero, Nat.zero_mul, List.drop_zero, Nat.mul_one, bytesU_take] at hs1
    rw [Nat.mul_one, Nat.mul_one, bytesU_drop, bytesU_take, List.take_of_length_le (by simp)] at hs2
    have l1 : (l.take n.toNat).length = n.toNat := by rw [List.length_take]; omega
    have l2 : (l.drop n.toNat).length = l.length - n.toNat := by simp
    have hs1 : SlB w p (l.take n.toNat) := by rw [SlB, l1]; exact hs1
    have hs2 : SlB w (slBase p n.toNat c 1) (l.drop n.toNat) := by rw [SlB, l2]; exact hs2
    have hrb : Blk w4 rb 208 [.slice (slBase p n.toNat c 1) (l.drop n.toNat).length (c - n.toNat), .int .i64 0] := by rw [l2, ← he]; exact hrb2
    have hR : Rd w4 rb (l.drop n.toNat) 0 := ⟨_, _, hrb, by rw [l2]; omega, SlB.zx9 hs2 (ht.sub _ _ _) hE4 (hty w4), (ht.sub _ _ _).ext hE4 (hty w4)⟩
    have hq := SlB.zx9 hs1 ht hE4 (hty w4)
    have hqt := ht.ext hE4 (hty w4)
    refine zq3 (zq1 (zq5 (zq0 (wl_p I_ok rfl (zq3 (zq1 (zj0 (zz2 rfl rfl ?_))))))))
    exact ⟨p, n.toNat, by rw [l1], hq, hqt, hR, hEE⟩
theorem next8_calls (w : World) {rb : Nat} {l : List UInt8} {e : Int} (h : Rd w rb l e) (hl : l.length < 1000000000) (n : Nat) (hn : 256 ^ n ≤ 2 ^ 8) :
  zz1 Tryz.prog 142 [.pointer (some ⟨rb, 0, none⟩), .int .i64 (n : Int)] w fun v w' => v = .int .u8 ((num (offR l e n).1 : Nat) : Int) ∧ Rd w' rb (offR l e n).2.1 (offR l e n).2.2 ∧ Ext (One rb) w w' := by
 refine zq9 Tryz.func142 rfl rfl rfl rfl ?_
 have hX := Ext.refl (One rb) w
 refine zq5 (zq0 (wl_p I_ok rfl (zq3 (zq1 (zq5 (zq5 (zq0 (wl_p I_ok rfl (wl (zx2 Tryz.call172 rfl rfl rfl rfl rfl rfl (off_calls w h hl (n : Int)) fun v1 w1 hr1 => ?_))))))))))
 obtain ⟨q, c, rfl, hq, hqt, hR, hE1⟩ := hr1
 have hX := hX.then hE1
 obtain ⟨hl1, hl2, hl3⟩ := offR_len l e n
 obtain ⟨s, hs⟩ : ∃ s, s = (offR l e n).1 := ⟨_, rfl⟩
 rw [← hs] at hq hl1 hl3 ⊢
 refine wl_p I_ok rfl (zq3 (zq1 (zx4 ?_)))
 refine zv3 (α := Nat) [9, 10] rfl (fun z => [(4, .int .u8 ((num (s.take z) : Nat) : Int)), (11, .int .i64 (z : Int))]) (fun z u => (z ≤ s.length ∧ SlB u q s ∧ Rd u rb (offR l e n).2.1 (offR l e n).2.2) ∧ Ext (One rb) w u) (fun z u => s.length - z) (0) rfl ⟨⟨Nat.zero_le _, hq, hR⟩, hX⟩ ?_
 rintro i w2 ⟨⟨hi, hq, hR⟩, hX⟩
 try dsimp only
 refine zq5 (zq0 (wl_p I_ok rfl (zq3 (zq1 (zq5 (c_if rfl (fun hc => ?_) (fun hc => ?_)))))))
 ·have hi : i < s.length := by omega
  obtain ⟨b, off, rfl, hcell⟩ := hq.at hi
  have hx1 := num_take s hi
  have hx2 := num_lt (s.take (i + 1))
  have hx3 : 256 ^ (s.take (i + 1)).length ≤ 2 ^ 8 := Nat.le_trans (Nat.pow_le_pow_right (by decide) (by rw [List.length_take]; omega)) hn
  have hx4 := (s[i]).toNat_lt
  have hw : IntKind.u8.wrap (IntKind.u8.wrap (IntKind.u8.wrap (((num (s.take i) : Nat) : Int) * 2 ^ min (4 : Int).toNat IntKind.u8.bits) * 2 ^ min (4 : Int).toNat IntKind.u8.bits) + ((s[i]).toNat : Int)) = ((num (s.take (i + 1)) : Nat) : Int) := by
   rw [show (2 : Int) ^ min (4 : Int).toNat IntKind.u8.bits = 16 from rfl, IntWalk.u8_in (((num (s.take i) : Nat) : Int) * 16) (by omega), IntWalk.u8_in (((num (s.take i) : Nat) : Int) * 16 * 16) (by omega), IntWalk.u8_in _ (by omega)]
   omega
  refine zx7 (zq1 (zq5 (zx4 (zq5 (zq0 (wl (st_ix I_ok rfl 1 rfl i rfl (by omega) (off + i * 1) rfl (wl (st_ld I_ok rfl hcell (wl_p I_ok rfl (zq3 (zq1 (zq5 (zq0 (wl_p I_ok rfl (zq3 (zq1 (zq5 ?_))))))))))))))))))
  refine zq0 (wl_p I_ok rfl (zq3 (zq1 (zq0 (wl_p I_ok rfl ?_)))))
  rw [hw]
  refine zq3 (zx6 (zq1 (zq0 (wl_p I_ok rfl ?_))))
  rw [IntWalk.i64_in _ (by omega)]
  refine zq3 ?_
  exact zv1 (i + 1) rfl ⟨⟨hi, hq, hR⟩, hX⟩ (by first | omega | (dsimp only; omega))
 ·have e : s.take i = s := List.take_of_length_le (by omega)
  rw [e]
  refine c_exit (zx3 (zx3 (zz0 (zq1 (zq5 (zq0 (wl_p I_ok rfl (zq3 (zq1 (zj0 (zz2 rfl rfl ?_)))))))))))
  exact ⟨rfl, hR, hX⟩
theorem next32_calls (w : World) {rb : Nat} {l : List UInt8} {e : Int} (h : Rd w rb l e) (hl : l.length < 1000000000) (n : Nat) (hn : 256 ^ n ≤ 2 ^ 32) :
  zz1 Tryz.prog 145 [.pointer (some ⟨rb, 0, none⟩), .int .i64 (n : Int)] w fun v w' => v = .int .u32 ((num (offR l e n).1 : Nat) : Int) ∧ Rd w' rb (offR l e n).2.1 (offR l e n).2.2 ∧ Ext (One rb) w w' := by
 refine zq9 Tryz.func145 rfl rfl rfl rfl ?_
 have hX := Ext.refl (One rb) w
 refine zq5 (zq0 (wl_p I_ok rfl (zq3 (zq1 (zq5 (zq5 (zq0 (wl_p I_ok rfl (wl (zx2 Tryz.call172 rfl rfl rfl rfl rfl rfl (off_calls w h hl (n : Int)) fun v1 w1 hr1 => ?_))))))))))
 obtain ⟨q, c, rfl, hq, hqt, hR, hE1⟩ := hr1
 have hX := hX.then hE1
 obtain ⟨hl1, hl2, hl3⟩ := offR_len l e n
 obtain ⟨s, hs⟩ : ∃ s, s = (offR l e n).1 := ⟨_, rfl⟩
 rw [← hs] at hq hl1 hl3 ⊢
 refine wl_p I_ok rfl (zq3 (zq1 (zx4 ?_)))
 refine zv3 (α := Nat) [9, 10] rfl (fun z => [(4, .int .u32 ((num (s.take z) : Nat) : Int)), (11, .int .i64 (z : Int))]) (fun z u => (z ≤ s.length ∧ SlB u q s ∧ Rd u rb (offR l e n).2.1 (offR l e n).2.2) ∧ Ext (One rb) w u) (fun z u => s.length - z) (0) rfl ⟨⟨Nat.zero_le _, hq, hR⟩, hX⟩ ?_
 rintro i w2 ⟨⟨hi, hq, hR⟩, hX⟩
 try dsimp only
 refine zq5 (zq0 (wl_p I_ok rfl (zq3 (zq1 (zq5 (c_if rfl (fun hc => ?_) (fun hc => ?_)))))))
 ·have hi : i < s.length := by omega
  obtain ⟨b, off, rfl, hcell⟩ := hq.at hi
  have hx1 := num_take s hi
  have hx2 := num_lt (s.take (i + 1))
  have hx3 : 256 ^ (s.take (i + 1)).length ≤ 2 ^ 32 := Nat.le_trans (Nat.pow_le_pow_right (by decide) (by rw [List.length_take]; omega)) hn
  have hx4 := (s[i]).toNat_lt
  have hw : IntKind.u32.wrap (IntKind.u32.wrap (IntKind.u32.wrap (((num (s.take i) : Nat) : Int) * 2 ^ min (4 : Int).toNat IntKind.u32.bits) * 2 ^ min (4 : Int).toNat IntKind.u32.bits) + IntKind.u32.wrap ((s[i]).toNat : Int)) = ((num (s.take (i + 1)) : Nat) : Int) := by
   rw [show (2 : Int) ^ min (4 : Int).toNat IntKind.u32.bits = 16 from rfl, IntWalk.u32_in ((s[i]).toNat : Int) (by omega), IntWalk.u32_in (((num (s.take i) : Nat) : Int) * 16) (by omega), IntWalk.u32_in (((num (s.take i) : Nat) : Int) * 16 * 16) (by omega), IntWalk.u32_in _ (by omega)]
   omega
  refine zx7 (zq1 (zq5 (zx4 (zq5 (zq0 (wl (st_ix I_ok rfl 1 rfl i rfl (by omega) (off + i * 1) rfl (wl (st_ld I_ok rfl hcell (wl_p I_ok rfl (zq3 (zq1 (zq5 (zq0 (wl_p I_ok rfl (zq3 (zq1 (zq5 ?_))))))))))))))))))
  refine zq0 (wl_p I_ok rfl (zq3 (zq1 (zq0 (wl_p I_ok rfl ?_)))))
  rw [hw]
  refine zq3 (zx6 (zq1 (zq0 (wl_p I_ok rfl ?_))))
  rw [IntWalk.i64_in _ (by omega)]
  refine zq3 ?_
  exact zv1 (i + 1) rfl ⟨⟨hi, hq, hR⟩, hX⟩ (by first | omega | (dsimp only; omega))
 ·have e : s.take i = s := List.take_of_length_le (by omega)
  rw [e]
  refine c_exit (zx3 (zx3 (zz0 (zq1 (zq5 (zq0 (wl_p I_ok rfl (zq3 (zq1 (zj0 (zz2 rfl rfl ?_)))))))))))
  exact ⟨rfl, hR, hX⟩
theorem u32_calls (w : World) {rb : Nat} {l : List UInt8} {e : Int} (h : Rd w rb l e) (hl : l.length < 1000000000) :
  zz1 Tryz.prog 99 [.pointer (some ⟨rb, 0, none⟩)] w fun v w' => v = .int .u32 ((num (offR l e 4).1 : Nat) : Int) ∧ Rd w' rb (offR l e 4).2.1 (offR l e 4).2.2 ∧ Ext (One rb) w w' := by
 refine zq9 Tryz.func99 rfl rfl rfl rfl ?_
 have hX := Ext.refl (One rb) w
 refine zq5 (zq0 (wl_p I_ok rfl (zq3 (zq1 (zq5 (zq0 (wl_p I_ok rfl (wl (zx2 Tryz.call145 rfl rfl rfl rfl rfl rfl (next32_calls w h hl 4 (by decide)) fun v1 w1 hr1 => ?_)))))))))
 obtain ⟨rfl, hR, hE1⟩ := hr1
 have hX := hX.then hE1
 refine wl_p I_ok rfl (zq3 (zq1 (zj0 (zz2 rfl rfl ?_))))
 exact ⟨rfl, hR, hX⟩
theorem high_calls (n : Nat) (hn : n < 100) : ∀ (w : World) (x : Nat), x < 2 ^ 64 →
  zz1 Tryz.prog 106 [.int .u64 (x : Int), .int .i64 (n : Int)] w fun v w' => ∃ q c, v = .slice q n c ∧ Own w' q n c 5 1 (zq6 (be n x)) ∧ (∀ b, OwnB q b → w.heap.size ≤ b) ∧ Ext No w w' := by
 induction n using Nat.strongRecOn
 rename_i n ih
 intro w x hx
 refine zq9 Tryz.func106 rfl rfl rfl rfl ?_
 have hX := Ext.refl No w
 refine zq5 (zq0 (wl_p I_ok rfl (zq3 (zq1 (zq5 (zq5 (zq0 (wl_p I_ok rfl (zq3 (zq1 (c_if rfl (fun hc => ?_) (fun hc => ?_))))))))))))
 ·have h0 : n = 0 := by omega
  subst h0
  refine zq5 (zq0 (wl_p I_ok rfl (zq3 (zq1 (zj0 (zx5 (zz2 rfl rfl ?_)))))))
  exact ⟨none, 0, rfl, Own.nil _ _ _, fun b hb => by (cases hb), hX⟩
 ·obtain ⟨m, rfl⟩ : ∃ m, n = m + 1 := ⟨n - 1, by omega⟩
  refine zx7 (zq1 (zq5 (zq0 (wl_p I_ok rfl ?_))))
  rw [IntWalk.i64_in _ (by omega)]
  have e0 : IntKind.u64.wrap ((x : Int).tdiv 256) = ((x / 256 : Nat) : Int) := by rw [IntWalk.u64_quo _ _ (by omega)]; rfl
  rw [e0]
  rw [show (((m + 1 : Nat) : Int) - 1) = (m : Int) from by omega]
  refine wl (zx2 Tryz.call106 rfl rfl rfl rfl rfl rfl (ih m (by omega) (by omega) w (x / 256) (by omega)) fun v1 w1 hr1 => ?_)
  obtain ⟨q, c, rfl, hq, hqn, hE1⟩ := hr1
  have hX := hX.zq4 hE1
  refine wl_p I_ok rfl (wl (st_bs I_ok rfl 1 rfl rfl rfl (by decide) (by decide) (by simp [partsOk]) rfl fun b15 w2 hn15 hb15 hE2 hs2 => ?_))
  have hX := hX.zq4 hE2
  have hb15 : Blk w2 b15 5 (zq6 [UInt8.ofNat x]) := by
   have e1 : IntKind.u8.wrap ((x : Int).tmod 256) = ((UInt8.ofNat x).toNat : Int) := by
    rw [Int.tmod_eq_emod_of_nonneg (by omega), IntKind.wrap_u8, UInt8.toNat_ofNat']; omega
   have e2 := hb15
   rw [e1] at e2
   exact e2
  refine wl (zv2 I_ok rfl 1 1 rfl rfl rfl (by decide) (hq.ext hE2 fun _ _ => id) (Src.slice (m := 1) ⟨rfl, .inr ⟨b15, 0, rfl, hb15.seg⟩⟩ OneC.h) (by dsimp only [maxLen]; omega) (by dsimp only; omega) fun p3 c3 w3 ho3 hE3 hB3 => ?_)
  have hX := hX.trans hE3 fun y hy hF => by have := hqn y hF; omega
  refine wl_p I_ok rfl (zq3 (zq1 (zj0 (zz2 rfl rfl ?_))))
  exact ⟨p3, c3, rfl, by rw [be, zz8]; exact ho3, fun b hb => (hB3 b hb).elim (fun h => hqn b h) fun h => by have := hE1.size; have := hE2.size; omega, hX⟩
theorem number_calls (w : World) {p : Option Addr} {c : Nat} {l : List UInt8} (h : SlB w p l) (hl : l.length ≤ 8) :
  zz1 Tryz.prog 174 [.slice p l.length c] w fun v w' => v = .int .u64 (num l : Int) ∧ w' = w := by
 refine zq9 Tryz.func174 rfl rfl rfl rfl ?_
 have hX := Ext.refl No w
 refine zq5 (zq0 (wl_p I_ok rfl (zq3 (zq1 (zq5 (zq0 (wl_p I_ok rfl (zq3 (zq1 (zq5 (zq5 (zq0 (wl_p I_ok rfl (zq3 (zq1 (zx4 ?_))))))))))))))))
 refine zv3 (α := Nat × Nat × Nat) [0] rfl (fun z => [(3, .int .u64 (z.2.1 : Int)), (4, .int .u64 (z.2.2 : Int)), (5, .int .i64 (z.1 : Int))]) (fun z u => ((z.1 ≤ l.length ∧ z.2.1 = num (l.drop z.1) ∧ z.2.2 = 256 ^ (l.length - z.1) % 2 ^ 64) ∧ u = w) ∧ Ext No w u) (fun z u => z.1) ((l.length, 0, 1)) rfl ⟨⟨⟨Nat.le_refl _, by simp [num], by simp⟩, rfl⟩, hX⟩ ?_
 rintro ⟨i, x, q⟩ w1 ⟨⟨⟨hi, hx, hq⟩, rfl⟩, hX⟩
 try dsimp only
 dsimp only at hi hx hq
 subst hx hq
 refine zq5 (zq5 (zq0 (wl_p I_ok rfl (zq3 (zq1 (c_if rfl (fun hc => ?_) (fun hc => ?_)))))))
 ·obtain ⟨k, rfl⟩ : ∃ k, i = k + 1 := ⟨i - 1, by omega⟩
  have hk : k < l.length := by omega
  obtain ⟨b, off, rfl, hcell⟩ := h.at hk
  have hx1 := num_drop l hk
  have hx2 := num_lt (l.drop k)
  rw [List.length_drop] at hx2
  have hx3 : l.length - k = (l.length - (k + 1)) + 1 := by omega
  have hx4 : 256 ^ (l.length - k) ≤ 256 ^ 8 := Nat.pow_le_pow_right (by decide) (by omega)
  have hx5 : 256 ^ (l.length - (k + 1)) ≤ 256 ^ 7 := Nat.pow_le_pow_right (by decide) (by omega)
  have hx6 := (l[k]).toNat_lt
  have hx7 : 256 ^ (l.length - (k + 1)) % 2 ^ 64 = 256 ^ (l.length - (k + 1)) := Nat.mod_eq_of_lt (Nat.lt_of_le_of_lt hx5 (by decide))
  rw [hx7]
  have hw : IntKind.u64.wrap ((num (l.drop (k + 1)) : Int) + IntKind.u64.wrap (((256 ^ (l.length - (k + 1)) : Nat) : Int) * IntKind.u64.wrap ((l[k]).toNat : Int))) = ((num (l.drop k) : Nat) : Int) := by
   rw [IntWalk.u64_in ((l[k]).toNat : Int) (by omega), ← Int.natCast_mul, Nat.mul_comm, IntWalk.u64_in (((l[k]).toNat * 256 ^ (l.length - (k + 1)) : Nat) : Int) (by omega), IntWalk.u64_in _ (by omega)]
   omega
  have hw2 : IntKind.u64.wrap (((256 ^ (l.length - (k + 1)) : Nat) : Int) * 256) = ((256 ^ (l.length - k) % 2 ^ 64 : Nat) : Int) := by
   rw [hx3, Nat.pow_succ, IntKind.wrap_u64]; omega
  refine zx7 (zq1 (zq5 (zx4 (zq5 (zq0 (wl_p I_ok rfl ?_))))))
  rw [IntWalk.i64_in _ (by omega)]
  refine wl (st_ix I_ok rfl 1 rfl k (by omega) (by omega) (off + k * 1) rfl (wl (st_ld I_ok rfl hcell (wl_p I_ok rfl ?_))))
  rw [hw]
  refine zq3 (zq1 (zq0 (wl_p I_ok rfl ?_)))
  rw [hw2]
  refine zq3 (zx6 (zq1 (zq0 (wl_p I_ok rfl ?_))))
  rw [IntWalk.i64_in _ (by omega)]
  rw [show (((k + 1 : Nat) : Int) - 1) = (k : Int) from by omega]
  refine zq3 ?_
  exact zv1 (k, num (l.drop k), 256 ^ (l.length - k) % 2 ^ 64) rfl ⟨⟨⟨by dsimp only; omega, rfl, rfl⟩, rfl⟩, hX⟩ (by first | omega | (dsimp only; omega))
 ·have h0 : i = 0 := by omega
  subst h0
  rw [List.drop_zero]
  refine c_exit (zx3 (zx3 (zz0 (zq1 (zq5 (zq0 (wl_p I_ok rfl (zq3 (zq1 (zj0 (zz2 rfl rfl ?_)))))))))))
  exact ⟨rfl, rfl⟩
theorem both_calls (w : World) {p q : Option Addr} {c d : Nat} {l m : List UInt8} (h : SlB w p l) (h' : SlB w q m) (hl : l.length < 1000000000) (hm : m.length < 1000000000) :
  zz1 Tryz.prog 146 [.slice p l.length c, .slice q m.length d] w fun v w' => ∃ r k, v = .slice r (l ++ m).length k ∧ Own w' r (l ++ m).length k 5 1 (zq6 (l ++ m)) ∧ (∀ b, OwnB r b → w.heap.size ≤ b) ∧ Ext No w w' := by
 refine zq9 Tryz.func146 rfl rfl rfl rfl ?_
 have hX := Ext.refl No w
 refine zq5 (zq0 (wl_p I_ok rfl (zq3 (zq1 (zq5 (zq0 (wl (st_bs I_ok rfl 1 rfl rfl rfl (by decide) (by decide) trivial (l' := []) rfl fun b6 w1 hn6 hb6 hE1 hs1 => ?_))))))))
 have hX := hX.zq4 hE1
 refine wl_p I_ok rfl ?_
 refine wl (zv2 I_ok rfl 1 1 rfl rfl rfl (by decide) (Own.blk (n := 0) (c := 0) hb6 1 rfl (Nat.le_refl _) (by decide)) (Src.slice (h.zq2 hX) OneC.h) (by dsimp only [maxLen]; omega) (by dsimp only; omega) fun p2 c2 w2 ho2 hE2 hB2 => ?_)
 have hX := hX.trans hE2 fun y hy hF => by have e : b6 = y := congrArg Addr.block (Option.some.inj hF); omega
 have hn1 : ∀ x, OwnB p2 x → w.heap.size ≤ x := fun x hx => (hB2 x hx).elim (fun hF => by have e : b6 = x := congrArg Addr.block (Option.some.inj hF); omega) fun h => by have := hE1.size; omega
 have ho1 : Own w2 p2 (0 + l.length) c2 5 1 (zq6 l) := ho2
 refine wl_p I_ok rfl (zq3 (zq1 (zq5 (zq0 (wl_p I_ok rfl ?_)))))
 have hX2 := hX
 refine wl (zv2 I_ok rfl 1 1 rfl rfl rfl (by decide) ho1 (Src.slice (h'.zq2 hX) OneC.h) (by dsimp only [maxLen]; omega) (by dsimp only; omega) fun p3 c3 w3 ho3 hE3 hB3 => ?_)
 have hX := hX2.trans hE3 fun y hy hF => by have := hn1 y hF; omega
 have hn2 : ∀ x, OwnB p3 x → w.heap.size ≤ x := fun x hx => (hB3 x hx).elim (fun h => hn1 x h) fun h => Nat.le_trans hX2.size h
 refine wl_p I_ok rfl (zq3 (zq1 (zj0 (zz2 rfl rfl ?_))))
 exact ⟨p3, c3, by dsimp only; rw [List.length_append, Nat.zero_add], by rw [List.length_append, zz8]; rw [Nat.zero_add] at ho3; exact ho3, hn2, hX⟩
end Go.Proofs.YtpcdihkcenfgkaaGreatDoor
namespace Go.Vc
section
variable {P : Program} {I : Info} {f : Fs} {ops : Array Oper} {o : Oper} {env : Env} {w : World}
def shE (n : Nat) (ops : Array Oper) (env : Env) (o : Oper) : Option (BinOp × IntKind × Int × Int × Nat) :=
  match pre n ops env o with
  | false => none
  | true => match o.dst with
    | some d => match o.op with
      | .binOp op _ x y _ => match isShift op with
        | true => match evO env x with
          | some (.int k p) => match evO env y with
            | some (.int _ q) => some (op, k, p, q, d)
            | _ => none
          | _ => none
        | false => none
      | _ => none
    | none => none
def shV (op : BinOp) (k : IntKind) (p q : Int) : Value :=
  match op with
  | .shl => .int k (k.wrap (p * 2 ^ min q.toNat k.bits))
  | _ => .int k (p.fdiv (2 ^ min q.toNat k.bits))
theorem shE_pev {n : Nat} {op : BinOp} {k : IntKind} {p q : Int} {d : Nat} (h : shE n ops env o = some (op, k, p, q, d)) (hq : 0 ≤ q) : pre n ops env o = true ∧ o.dst = some d ∧ pev I o.op env = some (shV op k p q) := by
 unfold shE at h
 split at h
 ·cases h
 ·rename_i hp
  split at h
  ·rename_i d' hd
   split at h
   ·rename_i op' t x y u ho
    split at h
    ·rename_i hs
     split at h
     ·rename_i k' p' hx
      split at h
      ·rename_i k2 q' hy
       simp only [Option.some.injEq, Prod.mk.injEq] at h
       obtain ⟨rfl, rfl, rfl, rfl, rfl⟩ := h
       refine ⟨hp, hd, ?_⟩
       have hn : decide (q' < 0) = false := decide_eq_false (by omega)
       rw [ho]
       simp only [pev, hx, hy, bin, hs, shiftBin, hn]
       cases op' <;> first | rfl | cases hs
      ·cases h
     ·cases h
    ·cases h
   ·cases h
  ·cases h
theorem wd_sh (hI : I.Ok P) {K : Act → World → Prop} {r : Dr} {i : Nat} {pl : List (Nat × Bool)} {dn : List Nat} (ho : ops[i]? = some o) {op : BinOp} {k : IntKind} {p q : Int} {d : Nat} (h : shE f.n ops env o = some (op, k, p, q, d)) (hq : 0 ≤ q)
  (kk : WD P f ops K r pl (i :: dn) ((d, shV op k p q) :: env) w) : WD P f ops K r ((i, true) :: pl) dn env w := by
 obtain ⟨h1, h2, h3⟩ := shE_pev (I := I) h hq
 exact wd_q ho h1 h2 (fun w' _ => pev_sound hI h3 w') kk
end
abbrev W32 := BitVec 32
abbrev wordV (x : W32) : Value := .int .u32 (x.toNat : Int)
def wordsV (l : List W32) : List Value := l.map wordV
theorem wordsV_len (l : List W32) : (wordsV l).length = l.length := by simp [wordsV]
theorem wordsV_append (a b : List W32) : wordsV (a ++ b) = wordsV a ++ wordsV b := by simp [wordsV]
theorem wordsV_get (l : List W32) {i : Nat} (h : i < l.length) : (wordsV l)[i]? = some (wordV l[i]) := by simp [wordsV, h]
instance (l : List W32) : OneC (wordsV l) := ⟨fun u hu => by obtain ⟨x, _, rfl⟩ := List.mem_map.1 hu; rfl⟩
theorem w_ofInt (x : W32) : BitVec.ofInt 32 (x.toNat : Int) = x := by
 apply BitVec.eq_of_toNat_eq
 have := x.isLt
 rw [BitVec.toNat_ofInt]
 omega
theorem w_in (x : W32) : IntKind.u32.wrap (x.toNat : Int) = (x.toNat : Int) := by
 have := x.isLt
 rw [IntKind.wrap_u32]; omega
theorem w_wrap (n : Nat) : IntKind.u32.wrap (n : Int) = ((BitVec.ofNat 32 n).toNat : Int) := by
 rw [IntKind.wrap_u32, BitVec.toNat_ofNat]; omega
theorem w_add (x y : W32) : IntKind.u32.wrap ((x.toNat : Int) + (y.toNat : Int)) = ((x + y).toNat : Int) := by
 rw [IntKind.wrap_u32, BitVec.toNat_add]; omega
theorem w_not (x : W32) : IntKind.u32.wrap (4294967295 - (x.toNat : Int)) = ((~~~x).toNat : Int) := by
 have := x.isLt
 rw [IntKind.wrap_u32, BitVec.toNat_not]; omega
theorem w_xor (x y : W32) : bitI .xor .u32 (x.toNat : Int) (y.toNat : Int) = ((x ^^^ y).toNat : Int) := by
 show IntKind.u32.wrap ((BitVec.ofInt 32 (x.toNat : Int) ^^^ BitVec.ofInt 32 (y.toNat : Int)).toNat : Int) = _
 rw [w_ofInt, w_ofInt, w_in]
theorem w_and (x y : W32) : bitI .and .u32 (x.toNat : Int) (y.toNat : Int) = ((x &&& y).toNat : Int) := by
 show IntKind.u32.wrap ((BitVec.ofInt 32 (x.toNat : Int) &&& BitVec.ofInt 32 (y.toNat : Int)).toNat : Int) = _
 rw [w_ofInt, w_ofInt, w_in]
theorem w_or (x y : W32) : bitI .or .u32 (x.toNat : Int) (y.toNat : Int) = ((x ||| y).toNat : Int) := by
 show IntKind.u32.wrap ((BitVec.ofInt 32 (x.toNat : Int) ||| BitVec.ofInt 32 (y.toNat : Int)).toNat : Int) = _
 rw [w_ofInt, w_ofInt, w_in]
theorem w_shr (x : W32) (q : Int) : Int.fdiv (x.toNat : Int) (2 ^ min q.toNat IntKind.u32.bits) = ((x >>> q.toNat).toNat : Int) := by
 have hx := x.isLt
 rw [show (2 : Int) ^ min q.toNat IntKind.u32.bits = ((2 ^ min q.toNat 32 : Nat) : Int) from by rw [Int.natCast_pow]; rfl, Int.fdiv_eq_ediv_of_nonneg _ (Int.natCast_nonneg _), ← Int.natCast_ediv, BitVec.toNat_ushiftRight, Nat.shiftRight_eq_div_pow]
 rcases Nat.le_total q.toNat 32 with h | h
 ·rw [Nat.min_eq_left h]
 ·rw [Nat.min_eq_right h, Nat.div_eq_of_lt hx, Nat.div_eq_of_lt (Nat.lt_of_lt_of_le hx (Nat.pow_le_pow_right (by decide) h))]
theorem w_shl (x : W32) (q : Int) : IntKind.u32.wrap ((x.toNat : Int) * 2 ^ min q.toNat IntKind.u32.bits) = ((x <<< q.toNat).toNat : Int) := by
 rw [show (2 : Int) ^ min q.toNat IntKind.u32.bits = ((2 ^ min q.toNat 32 : Nat) : Int) from by rw [Int.natCast_pow]; rfl, ← Int.natCast_mul, w_wrap]
 congr 1
 rw [BitVec.toNat_ofNat, BitVec.toNat_shiftLeft, Nat.shiftLeft_eq]
 rcases Nat.le_total q.toNat 32 with h | h
 ·rw [Nat.min_eq_left h]
 ·rw [Nat.min_eq_right h, Nat.mul_mod_left]
  obtain ⟨k, hk⟩ := Nat.exists_eq_add_of_le h
  rw [hk, Nat.pow_add, ← Nat.mul_assoc, Nat.mul_right_comm, Nat.mul_mod_left]
def rot (x : W32) (n : Nat) : W32 := x >>> n ||| x <<< (32 - n)
def mixW (x : W32) (ns : List Nat) : W32 := ns.foldl (fun o n => o ^^^ rot x n) 0
theorem mixW_snoc (x : W32) (l : List Nat) (n : Nat) : mixW x (l ++ [n]) = mixW x l ^^^ rot x n := by simp [mixW]
theorem rot_eq (x : W32) (n : Nat) (h : 0 < n ∧ n < 32) : (rot x n).toNat = x.toNat / 2 ^ n + (x.toNat % 2 ^ n) * 2 ^ (32 - n) := by
 have hx := x.isLt
 obtain ⟨k, hk⟩ : ∃ k, 32 = k + n := ⟨32 - n, by omega⟩
 have hk' : 32 - n = k := by omega
 have e : 2 ^ 32 = 2 ^ k * 2 ^ n := by rw [← Nat.pow_add, ← hk]
 rw [rot, hk', BitVec.toNat_or, BitVec.toNat_ushiftRight, BitVec.toNat_shiftLeft, Nat.shiftRight_eq_div_pow, Nat.shiftLeft_eq, e, Nat.mul_comm x.toNat, Nat.mul_mod_mul_left]
 have hlt : x.toNat / 2 ^ n < 2 ^ k := Nat.div_lt_of_lt_mul (by rw [Nat.mul_comm, ← e]; exact hx)
 have h2 := Nat.two_pow_add_eq_or_of_lt hlt (x.toNat % 2 ^ n)
 rw [Nat.or_comm, ← h2, Nat.add_comm, Nat.mul_comm]
theorem turn_eq (x : W32) (n : Nat) (h : 0 < n ∧ n < 32) : IntKind.u32.wrap (IntKind.u32.wrap ((x.toNat : Int).tdiv ((2 ^ n : Nat) : Int)) + IntKind.u32.wrap ((x.toNat : Int).tmod ((2 ^ n : Nat) : Int) * ((2 ^ (32 - n) : Nat) : Int))) = ((rot x n).toNat : Int) := by
 have e := rot_eq x n h
 have hr := (rot x n).isLt
 have e1 : (x.toNat : Int).tdiv ((2 ^ n : Nat) : Int) = ((x.toNat / 2 ^ n : Nat) : Int) := rfl
 have e2 : (x.toNat : Int).tmod ((2 ^ n : Nat) : Int) = ((x.toNat % 2 ^ n : Nat) : Int) := rfl
 rw [e1, e2, ← Int.natCast_mul]
 rw [IntKind.wrap_u32, IntKind.wrap_u32, IntKind.wrap_u32]
 omega
theorem div_eq (x : W32) (n : Nat) : IntKind.u32.wrap ((x.toNat : Int).tdiv ((2 ^ n : Nat) : Int)) = ((x >>> n).toNat : Int) := by
 have e1 : (x.toNat : Int).tdiv ((2 ^ n : Nat) : Int) = ((x.toNat / 2 ^ n : Nat) : Int) := rfl
 have hx := x.isLt
 have h2 : x.toNat / 2 ^ n ≤ x.toNat := Nat.div_le_self _ _
 rw [e1, BitVec.toNat_ushiftRight, Nat.shiftRight_eq_div_pow, IntKind.wrap_u32]
 generalize x.toNat / 2 ^ n = q at h2 ⊢
 omega
def natsV (l : List Nat) : List Value := l.map fun n : Nat => .int .i64 (n : Int)
theorem Sl.natAt {w : World} {p : Option Addr} {l : List Nat} (h : Sl w p l.length 1 (natsV l)) {i : Nat} (hi : i < l.length) : ∃ b off, p = some ⟨b, off, none⟩ ∧ w.cell? ⟨b, off + i * 1, none⟩ = some (.int .i64 (l[i] : Int)) := by
 obtain ⟨_, h0 | ⟨b, off, hp, hs⟩⟩ := h
 ·omega
 ·exact ⟨b, off, hp, by rw [Nat.mul_one]; exact hs i _ (by simp [natsV, hi])⟩
theorem mixW_take (x : W32) (l : List Nat) {i : Nat} (h : i < l.length) : mixW x (l.take (i + 1)) = mixW x (l.take i) ^^^ rot x l[i] := by
 rw [List.take_succ_eq_append_getElem h, mixW_snoc]
def nextW (b : List UInt8) (l : List W32) : W32 :=
  if l.length < 16 then BitVec.ofNat 32 (num ((b.drop (4 * l.length)).take 4))
  else l.getD (l.length - 16) 0 + l.getD (l.length - 7) 0 + (mixW (l.getD (l.length - 2) 0) [17, 19] ^^^ l.getD (l.length - 2) 0 >>> 10) + (mixW (l.getD (l.length - 15) 0) [7, 18] ^^^ l.getD (l.length - 15) 0 >>> 3)
def sched (b : List UInt8) : Nat → List W32
  | 0 => []
  | t + 1 => sched b t ++ [nextW b (sched b t)]
theorem sched_len (b : List UInt8) (t : Nat) : (sched b t).length = t := by
 induction t with
 | zero => rfl
 | succ t ih => simp [sched, ih]
theorem words_at (l r : List W32) {i : Nat} (h : i < l.length) : (wordsV (l ++ r))[0 + i * 1]? = some (wordV (l.getD i 0)) := by
 rw [Nat.zero_add, Nat.mul_one, wordsV_get _ (by rw [List.length_append]; omega), List.getElem_append_left h, List.getD_eq_getElem?_getD, List.getElem?_eq_getElem h]
 rfl
theorem words_getD (l : List W32) {i : Nat} (h : i < l.length) : (wordsV l)[i]? = some (wordV (l.getD i 0)) := by
 rw [wordsV_get _ h, List.getD_eq_getElem?_getD, List.getElem?_eq_getElem h]
 rfl
theorem words_set (l : List W32) (k i : Nat) (x : W32) (hi : i = l.length) : (wordsV (l ++ List.replicate (k + 1) 0)).set (0 + i * 1) (wordV x) = wordsV (l ++ [x] ++ List.replicate k 0) := by
 subst hi
 rw [Nat.zero_add, Nat.mul_one, wordsV, ← List.map_set, List.set_append_right _ _ (Nat.le_refl _), Nat.sub_self, List.replicate_succ, List.append_assoc]
 rfl
theorem nextW_raw {b : List UInt8} {l : List W32} (h : l.length < 16) : nextW b l = BitVec.ofNat 32 (num ((b.drop (4 * l.length)).take 4)) := if_pos h
theorem nextW_mix {b : List UInt8} {l : List W32} (h : ¬ l.length < 16) : nextW b l = l.getD (l.length - 16) 0 + l.getD (l.length - 7) 0 + (mixW (l.getD (l.length - 2) 0) [17, 19] ^^^ l.getD (l.length - 2) 0 >>> 10) + (mixW (l.getD (l.length - 15) 0) [7, 18] ^^^ l.getD (l.length - 15) 0 >>> 3) := if_neg h
def turnW (l : List W32) (k w : W32) : List W32 :=
  match l with
  | [a, b, c, d, e, f, g, h] =>
    let x := h + mixW e [6, 11, 25] + (g ^^^ (e &&& (f ^^^ g))) + k + w
    let y := mixW a [2, 13, 22] + ((a &&& b) ||| (c &&& (a ||| b)))
    [x + y, a, b, c, d + x, e, f, g]
  | l => l
def turnsW (h ks ws : List W32) : Nat → List W32
  | 0 => h
  | t + 1 => turnW (turnsW h ks ws t) (ks.getD t 0) (ws.getD t 0)
theorem turnW_len (l : List W32) (k w : W32) : (turnW l k w).length = l.length := by
 unfold turnW
 split <;> rfl
theorem turnsW_len (h ks ws : List W32) (t : Nat) : (turnsW h ks ws t).length = h.length := by
 induction t with
 | zero => rfl
 | succ t ih => rw [turnsW, turnW_len, ih]
theorem eight {α : Type} {l : List α} (h : l.length = 8) : ∃ a b c d e f g i, l = [a, b, c, d, e, f, g, i] := by
 match l, h with
 | [a, b, c, d, e, f, g, i], _ => exact ⟨a, b, c, d, e, f, g, i, rfl⟩
theorem zip_set {f : W32 → W32 → W32} {h l : List W32} {i : Nat} (h1 : i < h.length) (h2 : i < l.length) : (wordsV (List.zipWith f (h.take i) (l.take i) ++ h.drop i)).set (0 + i * 1) (wordV (f h[i] l[i])) = wordsV (List.zipWith f (h.take (i + 1)) (l.take (i + 1)) ++ h.drop (i + 1)) := by
 have e1 : (List.zipWith f (h.take i) (l.take i)).length = i := by simp; omega
 rw [Nat.zero_add, Nat.mul_one, wordsV, ← List.map_set, List.set_append_right _ _ (by omega), e1, Nat.sub_self, List.drop_eq_getElem_cons h1, List.set_cons_zero, List.take_succ_eq_append_getElem h1, List.take_succ_eq_append_getElem h2, List.zipWith_append (by simp; omega)]
 simp [wordsV]
theorem zip_at {f : W32 → W32 → W32} {h l : List W32} {i : Nat} (h1 : i < h.length) (h2 : i < l.length) : (wordsV (List.zipWith f (h.take i) (l.take i) ++ h.drop i))[0 + i * 1]? = some (wordV h[i]) := by
 have e1 : (List.zipWith f (h.take i) (l.take i)).length = i := by simp; omega
 rw [Nat.zero_add, Nat.mul_one, wordsV, List.getElem?_map, List.getElem?_append_right (by omega), e1, Nat.sub_self, List.drop_eq_getElem_cons h1]
 rfl
def intoW (ks h : List W32) (b : List UInt8) : List W32 := List.zipWith (· + ·) h (turnsW h ks (sched b 64) 64)
theorem intoW_len (ks h : List W32) (b : List UInt8) : (intoW ks h b).length = h.length := by
 rw [intoW, List.length_zipWith, turnsW_len, Nat.min_self]
def blocksW (ks h : List W32) (p : List UInt8) : Nat → List W32
  | 0 => h
  | n + 1 => intoW ks (blocksW ks h p n) ((p.drop (64 * n)).take 64)
theorem blocksW_len (ks h : List W32) (p : List UInt8) (n : Nat) : (blocksW ks h p n).length = h.length := by
 induction n with
 | zero => rfl
 | succ n ih => rw [blocksW, intoW_len, ih]
def padW (l : List UInt8) : List UInt8 := l ++ [128] ++ List.replicate ((l.length + 72) / 64 * 64 - 8 - (l.length + 1)) 0 ++ be 8 (8 * l.length)
def rootsW : List W32 := [1116352408, 1899447441, 3049323471, 3921009573, 961987163, 1508970993, 2453635748, 2870763221,
  3624381080, 310598401, 607225278, 1426881987, 1925078388, 2162078206, 2614888103, 3248222580,
  3835390401, 4022224774, 264347078, 604807628, 770255983, 1249150122, 1555081692, 1996064986,
  2554220882, 2821834349, 2952996808, 3210313671, 3336571891, 3584528711, 113926993, 338241895,
  666307205, 773529912, 1294757372, 1396182291, 1695183700, 1986661051, 2177026350, 2456956037,
  2730485921, 2820302411, 3259730800, 3345764771, 3516065817, 3600352804, 4094571909, 275423344,
  430227734, 506948616, 659060556, 883997877, 958139571, 1322822218, 1537002063, 1747873779,
  1955562222, 2024104815, 2227730452, 2361852424, 2428436474, 2756734187, 3204031479, 3329325298]
def startW : List W32 := [1779033703, 3144134277, 1013904242, 2773480762, 1359893119, 2600822924, 528734635, 1541459225]
def sumW (l : List UInt8) : List UInt8 := (blocksW rootsW startW (padW l) ((padW l).length / 64)).flatMap fun x => be 4 x.toNat
theorem padW_len (l : List UInt8) : (padW l).length = (l.length + 72) / 64 * 64 := by
 simp only [padW, List.length_append, List.length_replicate, zj5, List.length_cons, List.length_nil]
 omega
theorem flat4_len (l : List W32) : (l.flatMap fun x => be 4 x.toNat).length = 4 * l.length := by
 induction l with
 | nil => rfl
 | cons x r ih => rw [List.flatMap_cons, List.length_append, ih, zj5, List.length_cons]; omega
theorem sumW_len (l : List UInt8) : (sumW l).length = 32 := by
 rw [sumW, flat4_len, blocksW_len]; rfl
end Go.Vc
namespace Go.Proofs.YtpcdihkcenfgkaaGreatDoor
open Go.Vc
theorem mixed_calls (w : World) (x : W32) {p : Option Addr} {c : Nat} {ns : List Nat} (h : Sl w p ns.length 1 (natsV ns)) (hns : ∀ n ∈ ns, n ≤ 32) (hlen : ns.length < 1000) :
  zz1 Tryz.prog 157 [wordV x, .slice p ns.length c] w fun v w' => v = wordV (mixW x ns) ∧ Ext No w w' := by
 refine zq9 Tryz.func157 rfl rfl rfl rfl ?_
 have hX := Ext.refl No w
 refine zq5 (zq0 (wl_p I_ok rfl (zq3 (zq1 (zq5 (zq0 (wl_p I_ok rfl (zq3 (zq1 (zq5 (zq5 (zq0 (wl_p I_ok rfl (zq3 (zq1 (zx4 ?_))))))))))))))))
 refine zv3 (α := Nat) [0, 9, 10] rfl (fun z => [(5, wordV (mixW x (ns.take z))), (11, .int .i64 (z : Int))]) (fun z u => (z ≤ ns.length) ∧ Ext No w u) (fun z u => ns.length - z) (0) rfl ⟨Nat.zero_le _, hX⟩ ?_
 rintro i w1 ⟨hi, hX⟩
 try dsimp only
 refine zq5 (zq0 (wl_p I_ok rfl (zq3 (zq1 (zq5 (c_if rfl (fun hc => ?_) (fun hc => ?_)))))))
 ·have hi : i < ns.length := by omega
  obtain ⟨b, off, rfl, hcell⟩ := (h.zq2 hX).natAt hi
  have h32 := hns _ (List.getElem_mem hi)
  refine zx7 (zq1 (zq5 (zx4 (zq5 (zq0 (wl (st_ix I_ok rfl 1 rfl i rfl (by omega) (off + i * 1) rfl (wl (st_ld I_ok rfl hcell (wl_p I_ok rfl (zq3 (zq1 ?_))))))))))))
  refine c_draw rfl 11 [(0, true), (1, true), (2, true), (3, true), (4, true), (5, true), (6, true), (7, true), (8, true), (9, true), (10, true)] [] (No) (by kernel_rfl) fun w2 hE2 hs2 => ?_
  have hX := hX.zq4 hE2
  refine wd_k I_ok 3 rfl (wd_sh I_ok rfl rfl (Int.natCast_nonneg _) ?_)
  dsimp only [shV]
  refine wd_k I_ok 3 rfl ?_
  rw [IntWalk.i64_in _ (by omega)]
  refine wd_sh I_ok rfl rfl (by omega) ?_
  dsimp only [shV]
  refine wd_k I_ok 3 rfl ?_
  rw [show (32 - ((ns[i] : Nat) : Int)) = ((32 - ns[i] : Nat) : Int) from by omega, w_shr, w_shl, w_or, w_xor, Int.toNat_natCast, Int.toNat_natCast, show (x >>> ns[i] ||| x <<< (32 - ns[i])) = rot x ns[i] from rfl, ← mixW_take x ns hi]
  refine wd_sw (zv0 (zx6 (zq1 (zq0 (wl_p I_ok rfl ?_)))))
  rw [IntWalk.i64_in _ (by omega)]
  refine zq3 ?_
  exact zv1 (i + 1) rfl ⟨hi, hX⟩ (by first | omega | (dsimp only; omega))
 ·have e : ns.take i = ns := List.take_of_length_le (by omega)
  rw [e]
  refine c_exit (zx3 (zx3 (zz0 (zq1 (zq5 (zq0 (wl_p I_ok rfl (zq3 (zq1 (zj0 (zz2 rfl rfl ?_)))))))))))
  exact ⟨rfl, hX⟩
end Go.Proofs.YtpcdihkcenfgkaaGreatDoor
namespace Go.Vc
structure Bds where
  lo : Option Int
  hi : Option Int
  mx : Option Int
def Bds.Is (s : Bds) (n c l hh m : Nat) : Prop :=
  (s.mx = some (m : Int) ∧ s.hi.isSome = true ∨ s.mx = none ∧ m = c) ∧ (s.hi = some (hh : Int) ∨ s.hi = none ∧ hh = n) ∧ (s.lo = some (l : Int) ∨ s.lo = none ∧ l = 0) ∧ l ≤ hh ∧ hh ≤ m ∧ m ≤ c
section
variable {P : Program} {I : Info} {f : Fs} {ops : Array Oper} {o : Oper} {env : Env} {w : World}
def evB (env : Env) (lo hi mx : Option Operand) : Option Bds :=
  match evI env lo with
  | some lo' => match evI env hi with
    | some hi' => match evI env mx with
      | some mx' => some ⟨lo', hi', mx'⟩
      | none => none
    | none => none
  | none => none
theorem run_bds {lo hi mx : Option Operand} {s : Bds} (h : evB env lo hi mx = some s) {ρ : Operand → Value} (hρ : ∀ x u, evO env x = some u → ρ x = u) {n c l hh m : Nat} (hs : s.Is n c l hh m) (b : Bool) :
  (Instr.sliceBounds b n c (lo.map ρ) (hi.map ρ) (mx.map ρ)).run P w = .ok (l, hh, m) w := by
 obtain ⟨h1, h2, h3, hl, hm, hc⟩ := hs
 unfold evB at h
 split at h
 ·rename_i lo' hlo
  split at h
  ·rename_i hi' hhi
   split at h
   ·rename_i mx' hmx
    cases h
    simp only at h1 h2 h3
    have q3 : (lo.map ρ = none ∧ l = 0) ∨ ∃ k, lo.map ρ = some (.int k (l : Int)) := by
     rcases evI_eq hlo hρ with ⟨hr, hv⟩ | ⟨nn, kk, hr, hv⟩ <;> rcases h3 with h3 | ⟨h3, h3'⟩ <;> rw [h3] at hr <;> cases hr
     ·exact .inl ⟨hv, h3'⟩
     ·exact .inr ⟨kk, hv⟩
    have q2 : (hi.map ρ = none ∧ hi' = none ∧ hh = n) ∨ ∃ k, hi.map ρ = some (.int k (hh : Int)) := by
     rcases evI_eq hhi hρ with ⟨hr, hv⟩ | ⟨nn, kk, hr, hv⟩ <;> rcases h2 with h2 | ⟨h2, h2'⟩ <;> rw [h2] at hr <;> cases hr
     ·exact .inl ⟨hv, h2, h2'⟩
     ·exact .inr ⟨kk, hv⟩
    have q1 : (mx.map ρ = none ∧ m = c) ∨ (hi'.isSome = true ∧ ∃ k, mx.map ρ = some (.int k (m : Int))) := by
     rcases evI_eq hmx hρ with ⟨hr, hv⟩ | ⟨nn, kk, hr, hv⟩ <;> rcases h1 with ⟨h1, h1'⟩ | ⟨h1, h1'⟩ <;> rw [h1] at hr <;> cases hr
     ·exact .inl ⟨hv, h1'⟩
     ·exact .inr ⟨h1', kk, hv⟩
    unfold Instr.sliceBounds
    rcases q1 with ⟨q1, rfl⟩ | ⟨q1', k1, q1⟩ <;> rcases q2 with ⟨q2, q2', rfl⟩ | ⟨k2, q2⟩ <;> rcases q3 with ⟨q3, rfl⟩ | ⟨k3, q3⟩ <;> rw [q1, q2, q3] <;>
     first
      | (rw [q2'] at q1'; cases q1'; done)
      | (cases b <;> simp only [Sem.run_bind, Sem.run_pure, Result.andThen_ok, if_true, run_bound _ _ _ _ hl, run_bound _ _ _ _ hm, run_bound _ _ _ _ hc]; done)
   ·cases h
  ·cases h
 ·cases h
def saE (I : Info) (n : Nat) (ops : Array Oper) (env : Env) (o : Oper) : Option (Nat × Nat × Nat × Nat × Bds × Nat) :=
  match pre n ops env o with
  | false => none
  | true => match o.dst with
    | some d => match o.op with
      | .slice t x lo hi mx => match lkT I t with
        | some y => match y.desc with
          | .array m e => match lkT I e with
            | some g => match evO env x with
              | some (.pointer (some ⟨b, off, none⟩)) => match evB env lo hi mx with
                | some s => some (b, off, m, g.size, s, d)
                | none => none
              | _ => none
            | none => none
          | _ => none
        | none => none
      | _ => none
    | none => none
theorem ov_sa (hI : I.Ok P) {nn b off len sz0 d : Nat} {s : Bds} (h : saE I nn ops env o = some (b, off, len, sz0, s, d)) (l hh m sz : Nat) (hsz : sz0 = sz) (hs : s.Is len len l hh m) :
  pre nn ops env o = true ∧ o.dst = some d ∧ Ov P o env w (.slice (slBase (some ⟨b, off, none⟩) l m sz) (hh - l) (m - l)) w := by
 subst hsz
 unfold saE at h
 split at h
 ·cases h
 ·rename_i hp
  split at h
  ·rename_i d' hd
   split at h
   ·rename_i t x lo hi mx ho
    split at h
    ·rename_i y hy
     split at h
     ·rename_i m' e he
      split at h
      ·rename_i g hg
       split at h
       ·rename_i b' off' hx
        split at h
        ·rename_i s' hsb
         simp only [Option.some.injEq, Prod.mk.injEq] at h
         obtain ⟨rfl, rfl, rfl, rfl, rfl, rfl⟩ := h
         refine ⟨hp, hd, fun ρ hρ => ?_⟩
         have hu := (hI.get hy).under w
         have hz := (hI.get hg).sizeOf w
         rw [he] at hu
         have go : (Instr.sliceAt t (.pointer (some ⟨b', off', none⟩)) (lo.map ρ) (hi.map ρ) (mx.map ρ)).run P w = .ok (.slice (slBase (some ⟨b', off', none⟩) l m g.size) (hh - l) (m - l)) w := by
          unfold Instr.sliceAt
          rw [run_under_bind hu]
          simp only [Instr.sureAddr, Sem.run_bind, Sem.run_pure, Result.andThen_ok, run_bds hsb hρ hs false, hz, slBase]
          split <;> rfl
         simp only [execOp, ho, hρ _ _ hx, Sem.run_bind, go, Result.andThen_ok, Sem.run_pure]
        ·cases h
       ·cases h
      ·cases h
     ·cases h
    ·cases h
   ·cases h
  ·cases h
theorem st_sa (hI : I.Ok P) {K : Env → World → Prop} {b off len sz0 d : Nat} {s : Bds} (h : saE I f.n ops env o = some (b, off, len, sz0, s, d)) (l hh m sz : Nat) (hsz : sz0 = sz) (hs : s.Is len len l hh m)
  (k : K ((d, .slice (slBase (some ⟨b, off, none⟩) l m sz) (hh - l) (m - l)) :: env) w) : St P f ops o env w K := by
 obtain ⟨h1, h2, h3⟩ := ov_sa (w := w) hI h l hh m sz hsz hs
 obtain ⟨h4, h5⟩ := pre_eq h1
 exact st_v h4 h5 h3 (by rw [h2]; exact k)
theorem wd_sa (hI : I.Ok P) {K : Act → World → Prop} {r : Dr} {i : Nat} {pl : List (Nat × Bool)} {dn : List Nat} (ho : ops[i]? = some o) {b off len sz0 d : Nat} {s : Bds} (h : saE I f.n ops env o = some (b, off, len, sz0, s, d)) (l hh m sz : Nat) (hsz : sz0 = sz) (hs : s.Is len len l hh m)
  (k : WD P f ops K r pl (i :: dn) ((d, .slice (slBase (some ⟨b, off, none⟩) l m sz) (hh - l) (m - l)) :: env) w) : WD P f ops K r ((i, true) :: pl) dn env w := by
 obtain ⟨h1, h2, _⟩ := ov_sa (w := w) hI h l hh m sz hsz hs
 exact wd_q ho h1 h2 (fun w' _ => (ov_sa (w := w') hI h l hh m sz hsz hs).2.2) k
def ssE (I : Info) (n : Nat) (ops : Array Oper) (env : Env) (o : Oper) : Option (ByteArray × Bds × Nat) :=
  match pre n ops env o with
  | false => none
  | true => match o.dst with
    | some d => match o.op with
      | .slice t x lo hi none => match lkT I t with
        | some y => match y.desc with
          | .string => match evO env x with
            | some (.string s) => match evB env lo hi none with
              | some bs => some (s, bs, d)
              | none => none
            | _ => none
          | _ => none
        | none => none
      | _ => none
    | none => none
theorem ov_ss (hI : I.Ok P) {nn d : Nat} {s : ByteArray} {bs : Bds} (h : ssE I nn ops env o = some (s, bs, d)) (l hh : Nat) (hs : bs.Is s.size s.size l hh s.size) :
  pre nn ops env o = true ∧ o.dst = some d ∧ Ov P o env w (.string (s.extract l hh)) w := by
 unfold ssE at h
 split at h
 ·cases h
 ·rename_i hp
  split at h
  ·rename_i d' hd
   split at h
   ·rename_i t x lo hi ho
    split at h
    ·rename_i y hy
     split at h
     ·rename_i he
      split at h
      ·rename_i s' hx
       split at h
       ·rename_i bs' hsb
        simp only [Option.some.injEq, Prod.mk.injEq] at h
        obtain ⟨rfl, rfl, rfl⟩ := h
        refine ⟨hp, hd, fun ρ hρ => ?_⟩
        have hu := (hI.get hy).under w
        rw [he] at hu
        have hb := run_bds (P := P) (w := w) hsb hρ hs false
        simp only [Option.map_none] at hb
        have go : (Instr.sliceAt t (.string s') (lo.map ρ) (hi.map ρ) none).run P w = .ok (.string (s'.extract l hh)) w := by
         unfold Instr.sliceAt
         rw [run_under_bind hu]
         show (Instr.slice t (.string s') (lo.map ρ) (hi.map ρ) none).run P w = _
         unfold Instr.slice
         rw [run_under_bind hu]
         simp only [Option.isSome_none, Bool.false_eq_true, if_false, Sem.run_bind, Sem.run_pure, Result.andThen_ok, hb]
        simp only [execOp, ho, hρ _ _ hx, Option.map_none, Sem.run_bind, go, Result.andThen_ok, Sem.run_pure]
       ·cases h
      ·cases h
     ·cases h
    ·cases h
   ·cases h
  ·cases h
theorem wb_ss (hI : I.Ok P) {K : Act → World → Prop} {i kk : Nat} {pl dn : List Nat} (ho : ops[i]? = some o) (hk : kk = ops.size + i) {d : Nat} {s : ByteArray} {bs : Bds} (h : ssE I f.n ops env o = some (s, bs, d)) (l hh : Nat) (hs : bs.Is s.size s.size l hh s.size) (hn : Region.noSelect ops = true)
  (k : WB P f ops K pl (i :: dn) ((d, .string (s.extract l hh)) :: env) w) : WB P f ops K (kk :: pl) dn env w := by
 obtain ⟨h1, h2, _⟩ := ov_ss (w := w) hI h l hh hs
 exact wbv ho hk h1 h2 (fun w' => (ov_ss (w := w') hI h l hh hs).2.2) hn k
theorem wd_ss (hI : I.Ok P) {K : Act → World → Prop} {r : Dr} {i : Nat} {pl : List (Nat × Bool)} {dn : List Nat} (ho : ops[i]? = some o) {d : Nat} {s : ByteArray} {bs : Bds} (h : ssE I f.n ops env o = some (s, bs, d)) (l hh : Nat) (hs : bs.Is s.size s.size l hh s.size)
  (k : WD P f ops K r pl (i :: dn) ((d, .string (s.extract l hh)) :: env) w) : WD P f ops K r ((i, true) :: pl) dn env w := by
 obtain ⟨h1, h2, _⟩ := ov_ss (w := w) hI h l hh hs
 exact wd_q ho h1 h2 (fun w' _ => (ov_ss (w := w') hI h l hh hs).2.2) k
def spE (I : Info) (n : Nat) (ops : Array Oper) (env : Env) (o : Oper) : Option (Option Addr × Nat × Nat × Nat) :=
  match pre n ops env o with
  | false => none
  | true => match o.dst with
    | some d => match o.op with
      | .sliceToArrayPointer t x => match lkT I t with
        | some y => match y.desc with
          | .array m _ => match evO env x with
            | some (.slice p len _) => some (p, len, m, d)
            | _ => none
          | _ => none
        | none => none
      | _ => none
    | none => none
theorem ov_sp (hI : I.Ok P) {nn len m d : Nat} {p : Option Addr} (h : spE I nn ops env o = some (p, len, m, d)) (hm : m ≤ len) :
  pre nn ops env o = true ∧ o.dst = some d ∧ Ov P o env w (.pointer p) w := by
 unfold spE at h
 split at h
 ·cases h
 ·rename_i hp
  split at h
  ·rename_i d' hd
   split at h
   ·rename_i t x ho
    split at h
    ·rename_i y hy
     split at h
     ·rename_i m' e he
      split at h
      ·rename_i p' len' c' hx
       simp only [Option.some.injEq, Prod.mk.injEq] at h
       obtain ⟨rfl, rfl, rfl, rfl⟩ := h
       refine ⟨hp, hd, fun ρ hρ => ?_⟩
       have hu := (hI.get hy).under w
       rw [he] at hu
       have go : (Instr.arrayAt t (.slice p' len' c')).run P w = .ok (.pointer p') w := by
        unfold Instr.arrayAt
        rw [run_under_bind hu]
        simp only [if_neg (Nat.not_lt.2 hm), Sem.run_pure]
       simp only [execOp, ho, hρ _ _ hx, Sem.run_bind, go, Result.andThen_ok, Sem.run_pure]
      ·cases h
     ·cases h
    ·cases h
   ·cases h
  ·cases h
theorem st_sp (hI : I.Ok P) {K : Env → World → Prop} {len m d : Nat} {p : Option Addr} (h : spE I f.n ops env o = some (p, len, m, d)) (hm : m ≤ len)
  (k : K ((d, .pointer p) :: env) w) : St P f ops o env w K := by
 obtain ⟨h1, h2, h3⟩ := ov_sp (w := w) hI h hm
 obtain ⟨h4, h5⟩ := pre_eq h1
 exact st_v h4 h5 h3 (by rw [h2]; exact k)
def mfE (n : Nat) (ops : Array Oper) (env : Env) (o : Oper) : Option (FuncId × List Value × List Value × Nat) :=
  match pre n ops env o with
  | false => none
  | true => match o.dst with
    | some d => match o.op with
      | .makeFunc (.func g) fs cs => match evs env fs.toList with
        | some l => match evs env cs.toList with
          | some m => some (g, l, m, d)
          | none => none
        | none => none
      | _ => none
    | none => none
theorem ov_mf {nn d : Nat} {g : FuncId} {l m : List Value} (h : mfE nn ops env o = some (g, l, m, d)) :
  pre nn ops env o = true ∧ o.dst = some d ∧ Ov P o env w (.func (.func g) l.toArray m.toArray) w := by
 unfold mfE at h
 split at h
 ·cases h
 ·rename_i hp
  split at h
  ·rename_i d' hd
   split at h
   ·rename_i g' fs cs ho
    split at h
    ·rename_i l' hl
     split at h
     ·rename_i m' hm
      simp only [Option.some.injEq, Prod.mk.injEq] at h
      obtain ⟨rfl, rfl, rfl, rfl⟩ := h
      refine ⟨hp, hd, fun ρ hρ => ?_⟩
      simp only [execOp, ho, Instr.makeFunc, evs_arr hρ hl, evs_arr hρ hm, Sem.run_bind, Result.andThen_ok, Sem.run_pure]
     ·cases h
    ·cases h
   ·cases h
  ·cases h
theorem st_mf {K : Env → World → Prop} {d : Nat} {g : FuncId} {l m : List Value} (h : mfE f.n ops env o = some (g, l, m, d))
  (k : K ((d, .func (.func g) l.toArray m.toArray) :: env) w) : St P f ops o env w K := by
 obtain ⟨h1, h2, h3⟩ := ov_mf (P := P) (w := w) h
 obtain ⟨h4, h5⟩ := pre_eq h1
 exact st_v h4 h5 h3 (by rw [h2]; exact k)
end
end Go.Vc
namespace Go.Proofs.YtpcdihkcenfgkaaGreatDoor
open Go.Vc
theorem offR_ok {l : List UInt8} {n : Nat} (h : n ≤ l.length) : offR l 0 (n : Int) = (l.take n, l.drop n, 0) := by
 unfold offR
 rw [if_neg (by simp), if_neg (by omega), if_neg (by omega)]
 simp
theorem drawn_calls (w : World) {b : List UInt8} (hb : b.length = 64) :
  zz1 Tryz.prog 156 [.agg (zq6 b).toArray] w fun v w' => v = .agg (wordsV (sched b 64)).toArray ∧ Ext No w w' := by
 refine zq9 Tryz.func156 rfl rfl rfl rfl ?_
 have hX := Ext.refl No w
 refine zq5 (zq0 (wl (zz9 I_ok rfl fun b1 w1 hn1 hb1 hE1 => ?_)))
 have hX := hX.zq4 hE1
 refine wl (zz9 I_ok rfl fun b2 w2 hn2 hb2 hE2 => ?_)
 have fr2 := Nat.le_trans hX.size hn2
 have hb1 := hb1.zq2 hE2
 have hX := hX.zq4 hE2
 have hb2 : Blk w2 b2 222 (wordsV (sched b 0 ++ List.replicate (64 - 0) 0)) := hb2
 refine zq3 (zq1 (zq5 (zq0 (wl (st_sa I_ok rfl 0 64 64 1 rfl ⟨.inr ⟨rfl, rfl⟩, .inr ⟨rfl, rfl⟩, .inr ⟨rfl, rfl⟩, by decide, by decide, by decide⟩ ?_)))))
 rw [slBase_zero, Nat.sub_zero]
 rw [show Value.slice (some ⟨b1, 0, none⟩) 64 64 = .slice (some ⟨b1, 0, none⟩) b.length b.length from by rw [hb]]
 have hX0 := hX
 refine wl (zx2 Tryz.call90 rfl rfl rfl rfl rfl rfl (read_calls w2 (p := some ⟨b1, 0, none⟩) (c := b.length) (l := b) ⟨by simp [zx0], .inr ⟨b1, 0, rfl, hb1.seg⟩⟩ (by omega)) fun v3 w3 hr3 => ?_)
 obtain ⟨rb, rfl, hrb, hR, hE3⟩ := hr3
 have hb2 := hb2.zq2 hE3
 have hX := hX.zq4 hE3
 have hrw := Nat.le_trans hX0.size hrb
 refine wl_p I_ok rfl (zq3 (zq1 (zq5 (zq5 (zq0 (wl_p I_ok rfl (zq3 (zq1 (zx4 ?_)))))))))
 refine zv3 (α := Nat) [2, 3] rfl (fun z => [(9, .int .i64 (z : Int))]) (fun z u => (z ≤ 64 ∧ Rd u rb (b.drop (4 * min z 16)) 0) ∧ Blk u b2 222 (wordsV (sched b z ++ List.replicate (64 - z) 0)) ∧ Ext No w u) (fun z u => 64 - z) (0) rfl ⟨⟨by decide, by simpa using hR⟩, hb2, hX⟩ ?_
 rintro t w4 ⟨⟨ht, hR⟩, hb2, hX⟩
 refine zq5 (zq0 (wl_p I_ok rfl (zq3 (zq1 (zq5 (c_if rfl (fun hc => ?_) (fun hc => ?_)))))))
 ·have ht : t < 64 := by omega
  refine zx7 (zq1 (c_cutK (α := Unit) [2, 3, 9] rfl (fun z => []) (fun z u => (Rd u rb (b.drop (4 * min (t + 1) 16)) 0) ∧ Blk u b2 222 (wordsV (sched b (t + 1) ++ List.replicate (64 - (t + 1)) 0)) ∧ Ext No w u) ?_ ?_))
  ·refine zx4 ?_
   refine zq5 (zq0 (wl_p I_ok rfl (zq3 (zq1 (zq5 (zq5 (zq0 (wl_p I_ok rfl (zq3 (zq1 (c_if rfl (fun hc => ?_) (fun hc => ?_))))))))))))
   ·have ht16 : t < 16 := by omega
    have e4 : min t 16 = t := by omega
    have e5 : min (t + 1) 16 = t + 1 := by omega
    rw [e4] at hR
    refine zq5 (zq0 (wl_p I_ok rfl ?_))
    have hne := hR.ne hb2 (by decide)
    refine wl (zx2 Tryz.call99 rfl rfl rfl rfl rfl rfl (u32_calls w4 hR (by rw [List.length_drop]; omega)) fun v5 w5 hr5 => ?_)
    obtain ⟨rfl, hR, hE5⟩ := hr5
    have hb2 := hb2.ext hE5 (fun e => hne e.symm)
    have hX := hX.zx1 hE5 hrw
    have e6 := offR_ok (l := b.drop (4 * t)) (n := 4) (by rw [List.length_drop]; omega)
    have e6 : offR (b.drop (4 * t)) 0 4 = _ := e6
    rw [e6] at hR
    rw [e6]
    have e7 : List.drop 4 (b.drop (4 * t)) = b.drop (4 * min (t + 1) 16) := by rw [List.drop_drop, e5, Nat.mul_add]
    rw [e7] at hR
    have e8 : (num ((b.drop (4 * t)).take 4) : Int) = ((nextW b (sched b t)).toNat : Int) := by
     rw [nextW_raw (by rw [sched_len]; exact ht16), sched_len, BitVec.toNat_ofNat]
     have := num_lt ((b.drop (4 * t)).take 4)
     rw [List.length_take, List.length_drop] at this
     have h4 : min 4 (b.length - 4 * t) = 4 := by omega
     rw [h4] at this
     omega
    dsimp only
    rw [e8]
    refine wl (st_ix I_ok rfl 1 rfl t rfl (by omega) (0 + t * 1) rfl ?_)
    have hb2o := hb2
    refine wl (st_set I_ok hb2 rfl rfl (by rw [wordsV_len, List.length_append, sched_len, List.length_replicate]; omega) fun w6 hb2 hE6 hs6 => ?_)
    have hX := hX.zx1 hE6 fr2
    have hb2 : Blk w6 b2 222 (wordsV (sched b (t + 1) ++ List.replicate (64 - (t + 1)) 0)) := by
     have e : 64 - t = (64 - (t + 1)) + 1 := by omega
     have e2 := hb2
     rw [e, words_set _ _ _ _ (sched_len b t).symm] at e2
     exact e2
    have hne := hR.ne hb2o (by decide)
    have hR := hR.ext hE6 (fun e => hne e) (fun b' L h e => h.ne hb2o (by decide) e)
    refine zq3 (zq1 (c_exit ?_))
    exact zx3 (zz0 (zz7 (()) rfl ⟨hR, hb2, hX⟩))
   ·have ht16 : ¬ t < 16 := by omega
    have e4 : min t 16 = min (t + 1) 16 := by omega
    rw [e4] at hR
    have w_nx := nextW_mix (b := b) (l := sched b t) (by rw [sched_len]; exact ht16)
    rw [sched_len] at w_nx
    have hnx : IntKind.u32.wrap (IntKind.u32.wrap (IntKind.u32.wrap ((((sched b t).getD (t - 16) 0).toNat : Int) + (((sched b t).getD (t - 7) 0).toNat : Int)) + bitI .xor .u32 ((mixW ((sched b t).getD (t - 2) 0) [17, 19]).toNat : Int) (Int.fdiv (((sched b t).getD (t - 2) 0).toNat : Int) (2 ^ min (10 : Int).toNat IntKind.u32.bits))) + bitI .xor .u32 ((mixW ((sched b t).getD (t - 15) 0) [7, 18]).toNat : Int) (Int.fdiv (((sched b t).getD (t - 15) 0).toNat : Int) (2 ^ min (3 : Int).toNat IntKind.u32.bits))) = ((nextW b (sched b t)).toNat : Int) := by
     rw [w_nx, w_add, w_shr, w_xor, w_add, w_shr, w_xor, w_add]
     rfl
    refine zx7 (zq1 (zq5 (c_draw rfl 10 [(0, true), (1, true), (2, true), (3, true), (4, true), (5, true), (6, true), (7, true), (8, true), (9, true)] [] (No) (by kernel_rfl) fun w7 hE7 hs7 => ?_)))
    have hd2 := hb2
    have hb2 := hb2.zq2 hE7
    have hR := hR.zq2 hE7
    have hX := hX.zq4 hE7
    refine wd_k I_ok 2 rfl ?_
    rw [IntWalk.i64_in _ (by omega)]
    refine wd_ix I_ok rfl rfl 1 rfl (t - 2) (by omega) (by omega) (0 + (t - 2) * 1) rfl ?_
    refine wd_ld I_ok rfl rfl (fun w' hw' => (hd2.zq2 hw').cell (i := 0 + (t - 2) * 1) (v := wordV ((sched b t).getD (t - 2) 0)) (words_at _ _ (by rw [sched_len]; omega))) ?_
    refine wd_k I_ok 2 rfl ?_
    rw [IntWalk.i64_in _ (by omega)]
    refine wd_ix I_ok rfl rfl 1 rfl (t - 15) (by omega) (by omega) (0 + (t - 15) * 1) rfl ?_
    refine wd_ld I_ok rfl rfl (fun w' hw' => (hd2.zq2 hw').cell (i := 0 + (t - 15) * 1) (v := wordV ((sched b t).getD (t - 15) 0)) (words_at _ _ (by rw [sched_len]; omega))) ?_
    refine wd_k I_ok 2 rfl (wd_sw (zv0 (zq1 (c_drawX rfl 25 25 [25] (No) (by kernel_rfl) fun w8 hE8 hs8 => ?_))))
    have hd2 := hb2
    have hb2 := hb2.zq2 hE8
    have hR := hR.zq2 hE8
    have hX := hX.zq4 hE8
    have hC : Ext No _ w8 := hE8
    refine wx_plan [(0, true), (1, true), (2, true), (3, true), (4, true), (5, true), (6, true), (7, true), (8, true), (9, true), (10, true), (13, true), (14, true), (17, true), (20, true), (21, true)] 9 rfl (by kernel_rfl) (wd_k I_ok 3 rfl ?_)
    rw [IntWalk.i64_in _ (by omega)]
    refine wd_ix I_ok rfl rfl 1 rfl (t - 16) (by omega) (by omega) (0 + (t - 16) * 1) rfl ?_
    refine wd_ld I_ok rfl rfl (fun w' hw' => (hd2.zq2 hw').cell (i := 0 + (t - 16) * 1) (v := wordV ((sched b t).getD (t - 16) 0)) (words_at _ _ (by rw [sched_len]; omega))) ?_
    refine wd_k I_ok 2 rfl ?_
    rw [IntWalk.i64_in _ (by omega)]
    refine wd_ix I_ok rfl rfl 1 rfl (t - 7) (by omega) (by omega) (0 + (t - 7) * 1) rfl ?_
    refine wd_ld I_ok rfl rfl (fun w' hw' => (hd2.zq2 hw').cell (i := 0 + (t - 7) * 1) (v := wordV ((sched b t).getD (t - 7) 0)) (words_at _ _ (by rw [sched_len]; omega))) ?_
    refine wd_k I_ok 7 rfl (wd_tail rfl (wx_alt [11, 18] rfl (by kernel_rfl) ⟨⟨_, rfl, ?_⟩, ⟨_, rfl, ?_⟩, trivial⟩))
    ·refine st_bs I_ok rfl 1 rfl rfl rfl (by decide) (by decide) (by simp [partsOk]) rfl fun b37 w9 hn37 hb37 hE9 hs9 => ⟨hC.zq4 hE9, ?_⟩
     have frhC37 := Nat.le_trans hC.size hn37
     have hb2 := hb2.zq2 hE9
     have hR := hR.zq2 hE9
     have hX := hX.zq4 hE9
     have hC := hC.zq4 hE9
     refine wx_plan [] 8 rfl (by kernel_rfl) (wd_tail rfl (wx_alt [12, 18] rfl (by kernel_rfl) ⟨⟨_, rfl, ?_⟩, ⟨_, rfl, ?_⟩, trivial⟩))
     ·refine zx2 Tryz.call157 rfl rfl rfl rfl rfl rfl (mixed_calls w9 _ (p := some ⟨b37, 0, none⟩) (c := 2) (ns := [17, 19]) ⟨rfl, .inr ⟨b37, 0, rfl, hb37.seg⟩⟩ (by decide) (by decide)) fun v10 w10 hr10 => ⟨(by obtain ⟨rfl, hE10⟩ := hr10; exact hC.zq4 hE10), ?_⟩
      obtain ⟨rfl, hE10⟩ := hr10
      have hb2 := hb2.zq2 hE10
      have hR := hR.zq2 hE10
      have hX := hX.zq4 hE10
      have hC := hC.zq4 hE10
      refine wx_plan [(15, true), (16, true), (18, false), (19, false), (22, true), (23, true), (24, true)] 0 rfl (by kernel_rfl) (wd_k I_ok 2 rfl ?_)
      refine wd_l rfl (st_bs I_ok rfl 1 rfl rfl rfl (by decide) (by decide) (by simp [partsOk]) rfl fun b44 w11 hn44 hb44 hE11 hs11 => ⟨hC.zq4 hE11, ?_⟩)
      have frhC44 := Nat.le_trans hC.size hn44
      have hb2 := hb2.zq2 hE11
      have hR := hR.zq2 hE11
      have hX := hX.zq4 hE11
      have hC := hC.zq4 hE11
      refine wd_l rfl (zx2 Tryz.call157 rfl rfl rfl rfl rfl rfl (mixed_calls w11 _ (p := some ⟨b44, 0, none⟩) (c := 2) (ns := [7, 18]) ⟨rfl, .inr ⟨b44, 0, rfl, hb44.seg⟩⟩ (by decide) (by decide)) fun v12 w12 hr12 => ⟨(by obtain ⟨rfl, hE12⟩ := hr12; exact hC.zq4 hE12), ?_⟩)
      obtain ⟨rfl, hE12⟩ := hr12
      have hb2 := hb2.zq2 hE12
      have hR := hR.zq2 hE12
      have hX := hX.zq4 hE12
      refine wd_k I_ok 2 rfl ?_
      rw [hnx]
      refine wd_ix I_ok rfl rfl 1 rfl t rfl (by omega) (0 + t * 1) rfl (wd_sw ?_)
      have hb2o := hb2
      refine wb rfl (st_set I_ok hb2 rfl rfl (by rw [wordsV_len, List.length_append, sched_len, List.length_replicate]; omega) fun w13 hb2 hE13 hs13 => ?_)
      have hX := hX.zx1 hE13 fr2
      have hb2 : Blk w13 b2 222 (wordsV (sched b (t + 1) ++ List.replicate (64 - (t + 1)) 0)) := by
       have e : 64 - t = (64 - (t + 1)) + 1 := by omega
       have e2 := hb2
       rw [e, words_set _ _ _ _ (sched_len b t).symm] at e2
       exact e2
      have hne := hR.ne hb2o (by decide)
      have hR := hR.ext hE13 (fun e => hne e) (fun b' L h e => h.ne hb2o (by decide) e)
      refine zv0 ?_
      exact zx6 (zz7 (()) rfl ⟨hR, hb2, hX⟩)
     ·refine st_bs I_ok rfl 1 rfl rfl rfl (by decide) (by decide) (by simp [partsOk]) rfl fun b44 w14 hn44 hb44 hE14 hs14 => ⟨hC.zq4 hE14, ?_⟩
      have frhC44 := Nat.le_trans hC.size hn44
      have hb2 := hb2.zq2 hE14
      have hb37 := hb37.zq2 hE14
      have hR := hR.zq2 hE14
      have hX := hX.zq4 hE14
      have hC := hC.zq4 hE14
      refine wx_plan [(12, false), (15, true), (16, true), (19, false), (22, true), (23, true), (24, true)] 0 rfl (by kernel_rfl) ?_
      refine wd_l rfl (zx2 Tryz.call157 rfl rfl rfl rfl rfl rfl (mixed_calls w14 _ (p := some ⟨b37, 0, none⟩) (c := 2) (ns := [17, 19]) ⟨rfl, .inr ⟨b37, 0, rfl, hb37.seg⟩⟩ (by decide) (by decide)) fun v15 w15 hr15 => ⟨(by obtain ⟨rfl, hE15⟩ := hr15; exact hC.zq4 hE15), ?_⟩)
      obtain ⟨rfl, hE15⟩ := hr15
      have hb2 := hb2.zq2 hE15
      have hb44 := hb44.zq2 hE15
      have hR := hR.zq2 hE15
      have hX := hX.zq4 hE15
      have hC := hC.zq4 hE15
      refine wd_k I_ok 2 rfl ?_
      refine wd_l rfl (zx2 Tryz.call157 rfl rfl rfl rfl rfl rfl (mixed_calls w15 _ (p := some ⟨b44, 0, none⟩) (c := 2) (ns := [7, 18]) ⟨rfl, .inr ⟨b44, 0, rfl, hb44.seg⟩⟩ (by decide) (by decide)) fun v16 w16 hr16 => ⟨(by obtain ⟨rfl, hE16⟩ := hr16; exact hC.zq4 hE16), ?_⟩)
      obtain ⟨rfl, hE16⟩ := hr16
      have hb2 := hb2.zq2 hE16
      have hR := hR.zq2 hE16
      have hX := hX.zq4 hE16
      refine wd_k I_ok 2 rfl ?_
      rw [hnx]
      refine wd_ix I_ok rfl rfl 1 rfl t rfl (by omega) (0 + t * 1) rfl (wd_sw ?_)
      have hb2o := hb2
      refine wb rfl (st_set I_ok hb2 rfl rfl (by rw [wordsV_len, List.length_append, sched_len, List.length_replicate]; omega) fun w17 hb2 hE17 hs17 => ?_)
      have hX := hX.zx1 hE17 fr2
      have hb2 : Blk w17 b2 222 (wordsV (sched b (t + 1) ++ List.replicate (64 - (t + 1)) 0)) := by
       have e : 64 - t = (64 - (t + 1)) + 1 := by omega
       have e2 := hb2
       rw [e, words_set _ _ _ _ (sched_len b t).symm] at e2
       exact e2
      have hne := hR.ne hb2o (by decide)
      have hR := hR.ext hE17 (fun e => hne e) (fun b' L h e => h.ne hb2o (by decide) e)
      refine zv0 ?_
      exact zx6 (zz7 (()) rfl ⟨hR, hb2, hX⟩)
    ·refine st_bs I_ok rfl 1 rfl rfl rfl (by decide) (by decide) (by simp [partsOk]) rfl fun b44 w18 hn44 hb44 hE18 hs18 => ⟨hC.zq4 hE18, ?_⟩
     have frhC44 := Nat.le_trans hC.size hn44
     have hb2 := hb2.zq2 hE18
     have hR := hR.zq2 hE18
     have hX := hX.zq4 hE18
     have hC := hC.zq4 hE18
     refine wx_plan [(11, false), (12, false), (15, true), (16, true), (19, false), (22, true), (23, true), (24, true)] 0 rfl (by kernel_rfl) ?_
     refine wd_l rfl (st_bs I_ok rfl 1 rfl rfl rfl (by decide) (by decide) (by simp [partsOk]) rfl fun b37 w19 hn37 hb37 hE19 hs19 => ⟨hC.zq4 hE19, ?_⟩)
     have frhC37 := Nat.le_trans hC.size hn37
     have hb2 := hb2.zq2 hE19
     have hb44 := hb44.zq2 hE19
     have hR := hR.zq2 hE19
     have hX := hX.zq4 hE19
     have hC := hC.zq4 hE19
     refine wd_l rfl (zx2 Tryz.call157 rfl rfl rfl rfl rfl rfl (mixed_calls w19 _ (p := some ⟨b37, 0, none⟩) (c := 2) (ns := [17, 19]) ⟨rfl, .inr ⟨b37, 0, rfl, hb37.seg⟩⟩ (by decide) (by decide)) fun v20 w20 hr20 => ⟨(by obtain ⟨rfl, hE20⟩ := hr20; exact hC.zq4 hE20), ?_⟩)
     obtain ⟨rfl, hE20⟩ := hr20
     have hb2 := hb2.zq2 hE20
     have hb44 := hb44.zq2 hE20
     have hR := hR.zq2 hE20
     have hX := hX.zq4 hE20
     have hC := hC.zq4 hE20
     refine wd_k I_ok 2 rfl ?_
     refine wd_l rfl (zx2 Tryz.call157 rfl rfl rfl rfl rfl rfl (mixed_calls w20 _ (p := some ⟨b44, 0, none⟩) (c := 2) (ns := [7, 18]) ⟨rfl, .inr ⟨b44, 0, rfl, hb44.seg⟩⟩ (by decide) (by decide)) fun v21 w21 hr21 => ⟨(by obtain ⟨rfl, hE21⟩ := hr21; exact hC.zq4 hE21), ?_⟩)
     obtain ⟨rfl, hE21⟩ := hr21
     have hb2 := hb2.zq2 hE21
     have hR := hR.zq2 hE21
     have hX := hX.zq4 hE21
     refine wd_k I_ok 2 rfl ?_
     rw [hnx]
     refine wd_ix I_ok rfl rfl 1 rfl t rfl (by omega) (0 + t * 1) rfl (wd_sw ?_)
     have hb2o := hb2
     refine wb rfl (st_set I_ok hb2 rfl rfl (by rw [wordsV_len, List.length_append, sched_len, List.length_replicate]; omega) fun w22 hb2 hE22 hs22 => ?_)
     have hX := hX.zx1 hE22 fr2
     have hb2 : Blk w22 b2 222 (wordsV (sched b (t + 1) ++ List.replicate (64 - (t + 1)) 0)) := by
      have e : 64 - t = (64 - (t + 1)) + 1 := by omega
      have e2 := hb2
      rw [e, words_set _ _ _ _ (sched_len b t).symm] at e2
      exact e2
     have hne := hR.ne hb2o (by decide)
     have hR := hR.ext hE22 (fun e => hne e) (fun b' L h e => h.ne hb2o (by decide) e)
     refine zv0 ?_
     exact zx6 (zz7 (()) rfl ⟨hR, hb2, hX⟩)
  rintro z w23 ⟨hR, hb2, hX⟩
  refine zq0 (wl_p I_ok rfl ?_)
  rw [IntWalk.i64_in _ (by omega)]
  refine zq3 ?_
  exact zv1 (t + 1) rfl ⟨⟨by omega, hR⟩, hb2, hX⟩ (by first | omega | (dsimp only; omega))
 ·have h0 : t = 64 := by omega
  subst h0
  have hb2 : Blk w4 b2 222 (wordsV (sched b 64)) := by simpa using hb2
  have hlen : (wordsV (sched b 64)).length = 64 := by rw [wordsV_len, sched_len]
  generalize sched b 64 = S at hb2 hlen ⊢
  refine c_exit (zx3 (zx3 (zz0 (zq1 (zq5 (zq0 (wl (zj2 I_ok hb2 rfl hlen (wl (zj1 (l' := wordsV S) I_ok hb2 rfl rfl hlen rfl OneC.h fun w24 hb2 hE24 hs24 => ?_))))))))))
  have hX := hX.zx1 hE24 fr2
  refine zq3 (zq1 (zj0 (f_ret [_] ⟨⟨b2, 0, rfl, ld_all I_ok rfl rfl hb2.seg hlen⟩, trivial⟩ ?_)))
  exact ⟨rfl, hX⟩
theorem into_calls (w : World) {sb : Nat} {h : List W32} (hs : Blk w sb 186 (wordsV h)) (hl : h.length = 8) {b : List UInt8} (hb : b.length = 64) (hg : Seg w 0 0 (wordsV rootsW)) :
  zz1 Tryz.prog 123 [.pointer (some ⟨sb, 0, none⟩), .agg (zq6 b).toArray] w fun _ w' => Blk w' sb 186 (wordsV (intoW rootsW h b)) ∧ Ext (One sb) w w' := by
 have hs0 := hs
 have hlt := hs.lt
 have hglt : 0 < w.heap.size := Nat.zero_lt_of_lt hlt
 refine zq9 Tryz.func123 rfl rfl rfl rfl ?_
 have hX := Ext.refl (One sb) w
 refine zq5 (zq0 (wl (zz9 I_ok rfl fun b3 w1 hn3 hb3 hE1 => ?_)))
 have hX := hX.zq4 hE1
 have hb3 : Blk w1 b3 188 (zq6 b) := hb3
 refine zq3 (zq1 (zq5 (zq0 (wl_p I_ok rfl ?_))))
 have hs := hs.zq2 hE1
 have hg := hg.zq2 hE1
 refine wl (st_ldN I_ok rfl hs.seg (by rw [wordsV_len, hl]) (wl (zz9 I_ok rfl fun b4 w2 hn4 hb4 hE2 => ?_)))
 have ne3_4 : b3 ≠ b4 := Nat.ne_of_lt (Nat.lt_of_lt_of_le hb3.lt hn4)
 have fr4 := Nat.le_trans hX.size hn4
 have hb3 := hb3.zq2 hE2
 have hs := hs.zq2 hE2
 have hg := hg.zq2 hE2
 have hX := hX.zq4 hE2
 have hsb4 : ¬ One b4 sb := fun e => by have e : sb = b4 := e; omega
 have h0b4 : ¬ One b4 0 := fun e => by have e : 0 = b4 := e; omega
 refine wl (zj1 (l' := wordsV h) I_ok hb4 rfl rfl (by rw [wordsV_len, hl]) (by rw [wordsV_len, hl]; rfl) OneC.h fun w3 hb4 hE3 hs3 => ?_)
 have hb3 := hb3.ext1 hE3 ne3_4
 have hs := hs.ext hE3 hsb4
 have hg := hg.ext hE3 h0b4
 have hX := hX.zx1 hE3 fr4
 refine zq3 (zq1 (zq5 (zq5 (zq0 (wl (st_ldN I_ok rfl hb3.seg (by rw [zx0, hb]) (wl (zx2 Tryz.call156 rfl rfl rfl rfl rfl rfl (drawn_calls w3 hb) fun v4 w4 hr4 => ?_))))))))
 obtain ⟨rfl, hE4⟩ := hr4
 have hb4 := hb4.zq2 hE4
 have hs := hs.zq2 hE4
 have hg := hg.zq2 hE4
 have hX := hX.zq4 hE4
 have hWl := sched_len b 64
 have hi : intoW rootsW h b = List.zipWith (· + ·) h (turnsW h rootsW (sched b 64) 64) := rfl
 rw [hi]
 generalize sched b 64 = W at hWl ⊢
 refine wl_p I_ok rfl (zq3 (zq1 (zx4 ?_)))
 refine zv3 (α := Nat) [0, 4, 19] rfl (fun z => [(20, .int .i64 (z : Int))]) (fun z u => (z ≤ 64 ∧ Blk u sb 186 (wordsV h) ∧ Seg u 0 0 (wordsV rootsW)) ∧ Blk u b4 168 (wordsV (turnsW h rootsW W z)) ∧ Ext (One sb) w u) (fun z u => 64 - z) (0) rfl ⟨⟨by decide, hs, hg⟩, hb4, hX⟩ ?_
 rintro t w5 ⟨⟨ht, hs, hg⟩, hb4, hX⟩
 refine zq5 (zq0 (wl_p I_ok rfl (zq3 (zq1 (zq5 (c_if rfl (fun hc => ?_) (fun hc => ?_)))))))
 ·have ht : t < 64 := by omega
  obtain ⟨a0, a1, a2, a3, a4, a5, a6, a7, h8⟩ := eight (l := turnsW h rootsW W t) (by rw [turnsW_len, hl])
  rw [h8] at hb4
  have hW := wordsV_get W (i := t) (by omega)
  have hk := wordsV_get rootsW (i := t) ht
  refine zx7 (zq1 (zq5 (zx4 (zq5 (zq0 (wl_p I_ok rfl (wl (st_id I_ok rfl t rfl ht (.inl ⟨rfl, by simpa using hW⟩) (wl_p I_ok rfl (zq3 (zq1 (zq5 ?_))))))))))))
  refine c_draw rfl 6 [(0, true), (1, true), (2, true), (3, true), (4, true), (5, true)] [] (No) (by kernel_rfl) fun w6 hE6 hs6 => ?_
  have hd4 := hb4
  have hb4 := hb4.zq2 hE6
  have hs := hs.zq2 hE6
  have hg := hg.zq2 hE6
  have hX := hX.zq4 hE6
  refine wd_ix I_ok rfl rfl 1 rfl 0 rfl (by decide) 0 rfl (wd_ld I_ok rfl rfl (fun w' hw' => (hd4.zq2 hw').cell rfl) ?_)
  refine wd_ix I_ok rfl rfl 1 rfl 4 rfl (by decide) 4 rfl (wd_ld I_ok rfl rfl (fun w' hw' => (hd4.zq2 hw').cell rfl) ?_)
  refine wd_k I_ok 2 rfl (wd_sw (zv0 (zq1 (zq5 ?_))))
  refine c_draw rfl 24 [(0, true), (1, true), (2, true), (6, true), (7, true), (8, true), (9, true), (10, true), (11, true), (12, true), (13, true), (14, true), (15, true), (17, true), (18, true), (19, true), (21, true), (3, false), (4, false), (5, true), (16, true), (20, true), (22, true), (23, true)] [] (No) (by kernel_rfl) fun w7 hE7 hs7 => ?_
  have hd4 := hb4
  have hgd := hg
  have hb4 := hb4.zq2 hE7
  have hs := hs.zq2 hE7
  have hg := hg.zq2 hE7
  have hX := hX.zq4 hE7
  have hC : Ext (No) _ w7 := hE7.no
  refine wd_ix I_ok rfl rfl 1 rfl 7 rfl (by decide) 7 rfl (wd_ld I_ok rfl rfl (fun w' hw' => (hd4.zq2 hw').cell rfl) ?_)
  refine wd_k I_ok 1 rfl (wd_ix I_ok rfl rfl 1 rfl 6 rfl (by decide) 6 rfl (wd_ld I_ok rfl rfl (fun w' hw' => (hd4.zq2 hw').cell rfl) ?_))
  refine wd_k I_ok 1 rfl (wd_ix I_ok rfl rfl 1 rfl 5 rfl (by decide) 5 rfl (wd_ld I_ok rfl rfl (fun w' hw' => (hd4.zq2 hw').cell rfl) ?_))
  refine wd_ix I_ok rfl rfl 1 rfl 6 rfl (by decide) 6 rfl (wd_ld I_ok rfl rfl (fun w' hw' => (hd4.zq2 hw').cell rfl) ?_)
  refine wd_k I_ok 4 rfl (wd_ix I_ok rfl rfl 1 rfl t rfl ht (0 + t) (by omega) (wd_ld I_ok rfl rfl (fun w' hw' => (hgd.zq2 hw') t _ hk) ?_))
  refine wd_k I_ok 1 rfl (wd_l rfl (st_bs I_ok rfl 1 rfl rfl rfl (by decide) (by decide) (by simp [partsOk]) rfl fun b31 w8 hn31 hb31 hE8 hs8 => ⟨hC.zq4 hE8, ?_⟩))
  have hb4 := hb4.zq2 hE8
  have hs := hs.zq2 hE8
  have hg := hg.zq2 hE8
  have hX := hX.zq4 hE8
  have hC := hC.zq4 hE8
  refine wd_l rfl (zx2 Tryz.call157 rfl rfl rfl rfl rfl rfl (mixed_calls w8 _ (p := some ⟨b31, 0, none⟩) (c := 3) (ns := [6, 11, 25]) ⟨rfl, .inr ⟨b31, 0, rfl, hb31.seg⟩⟩ (by decide) (by decide)) fun v9 w9 hr9 => ⟨(by obtain ⟨rfl, hE9⟩ := hr9; exact hC.zq4 hE9), ?_⟩)
  obtain ⟨rfl, hE9⟩ := hr9
  have hb4 := hb4.zq2 hE9
  have hs := hs.zq2 hE9
  have hg := hg.zq2 hE9
  have hX := hX.zq4 hE9
  refine wd_k I_ok 4 rfl ?_
  rw [w_xor, w_and, w_xor, w_add, w_add, w_add, w_add]
  refine wd_k I_ok 1 rfl (wd_sw (zv0 (zq1 (zq5 ?_))))
  refine c_draw rfl 17 [(0, true), (3, true), (4, true), (5, true), (6, true), (7, true), (8, true), (9, true), (10, true), (11, true), (12, true), (13, true), (14, true), (1, false), (2, false), (15, true), (16, true)] [] (No) (by kernel_rfl) fun w10 hE10 hs10 => ?_
  have hd4 := hb4
  have hb4 := hb4.zq2 hE10
  have hs := hs.zq2 hE10
  have hg := hg.zq2 hE10
  have hX := hX.zq4 hE10
  have hC : Ext (No) _ w10 := hE10.no
  refine wd_k I_ok 2 rfl (wd_ix I_ok rfl rfl 1 rfl 1 rfl (by decide) 1 rfl (wd_ld I_ok rfl rfl (fun w' hw' => (hd4.zq2 hw').cell rfl) ?_))
  refine wd_k I_ok 1 rfl (wd_ix I_ok rfl rfl 1 rfl 2 rfl (by decide) 2 rfl (wd_ld I_ok rfl rfl (fun w' hw' => (hd4.zq2 hw').cell rfl) ?_))
  refine wd_k I_ok 1 rfl (wd_ix I_ok rfl rfl 1 rfl 1 rfl (by decide) 1 rfl (wd_ld I_ok rfl rfl (fun w' hw' => (hd4.zq2 hw').cell rfl) ?_))
  refine wd_k I_ok 3 rfl (wd_l rfl (st_bs I_ok rfl 1 rfl rfl rfl (by decide) (by decide) (by simp [partsOk]) rfl fun b52 w11 hn52 hb52 hE11 hs11 => ⟨hC.zq4 hE11, ?_⟩))
  have hb4 := hb4.zq2 hE11
  have hs := hs.zq2 hE11
  have hg := hg.zq2 hE11
  have hX := hX.zq4 hE11
  have hC := hC.zq4 hE11
  refine wd_l rfl (zx2 Tryz.call157 rfl rfl rfl rfl rfl rfl (mixed_calls w11 _ (p := some ⟨b52, 0, none⟩) (c := 3) (ns := [2, 13, 22]) ⟨rfl, .inr ⟨b52, 0, rfl, hb52.seg⟩⟩ (by decide) (by decide)) fun v12 w12 hr12 => ⟨(by obtain ⟨rfl, hE12⟩ := hr12; exact hC.zq4 hE12), ?_⟩)
  obtain ⟨rfl, hE12⟩ := hr12
  have hb4 := hb4.zq2 hE12
  have hs := hs.zq2 hE12
  have hg := hg.zq2 hE12
  have hX := hX.zq4 hE12
  refine wd_k I_ok 1 rfl ?_
  rw [w_and, w_or, w_and, w_or, w_add]
  refine wd_k I_ok 1 rfl (wd_sw (zv0 (zq1 (zq5 (c_draw rfl 3 [(0, true), (1, true), (2, false)] [] (One b4) (by kernel_rfl) fun w13 hE13 hs13 => ?_)))))
  have hb4 := hb4.zq2 hE13
  have hs := hs.zq2 hE13
  have hg := hg.zq2 hE13
  have hX := hX.zq4 hE13
  have hC : Ext (One b4) _ w13 := hE13.no
  refine wd_sa I_ok rfl rfl 1 8 8 1 rfl ⟨.inr ⟨rfl, rfl⟩, .inr ⟨rfl, rfl⟩, .inl rfl, by decide, by decide, by decide⟩ (wd_sa I_ok rfl rfl 0 7 8 1 rfl ⟨.inr ⟨rfl, rfl⟩, .inl rfl, .inr ⟨rfl, rfl⟩, by decide, by decide, by decide⟩ ?_)
  refine wd_l rfl (st_cp I_ok rfl 1 rfl hb4 (Src.slice (m := 7) (news := wordsV [a0, a1, a2, a3, a4, a5, a6]) ⟨rfl, .inr ⟨b4, 0, rfl, (hb4.seg.take 7)⟩⟩ OneC.h) (show 7 ≤ 7 from by decide) (show 8 ≤ 8 from by decide) fun w14 hc4 hE14 hs14 => ⟨hC.then hE14, ?_⟩)
  have hb4 : Blk w14 b4 168 (wordsV [a0, a0, a1, a2, a3, a4, a5, a6]) := hc4
  have hs := hs.ext hE14 hsb4
  have hg := hg.ext hE14 h0b4
  have hX := hX.zx1 hE14 fr4
  refine wd_sw (zv0 (zq1 (zq5 (zq0 (wl_p I_ok rfl ?_)))))
  rw [w_add]
  refine wl (st_ix I_ok rfl 1 rfl 0 rfl (by decide) 0 rfl (wl (st_set I_ok hb4 rfl rfl (show 0 < 8 from by decide) fun w15 hb4 hE15 hs15 => ?_)))
  have hs := hs.ext hE15 hsb4
  have hg := hg.ext hE15 h0b4
  have hX := hX.zx1 hE15 fr4
  refine zq3 (zq1 (zq0 (wl (st_ix I_ok rfl 1 rfl 4 rfl (by decide) 4 rfl (wl (st_ldb I_ok hb4 rfl rfl (wl_p I_ok rfl ?_)))))))
  rw [w_add]
  refine wl (st_ix I_ok rfl 1 rfl 4 rfl (by decide) 4 rfl (wl (st_set I_ok hb4 rfl rfl (show 4 < 8 from by decide) fun w16 hb4 hE16 hs16 => ?_)))
  have hs := hs.ext hE16 hsb4
  have hg := hg.ext hE16 h0b4
  have hX := hX.zx1 hE16 fr4
  have hb4 : Blk w16 b4 168 (wordsV (turnsW h rootsW W (t + 1))) := by
   have e1 : W.getD t 0 = W[t]'(by omega) := by rw [List.getD_eq_getElem?_getD, List.getElem?_eq_getElem (by omega)]; rfl
   have e2 : rootsW.getD t 0 = rootsW[t]'ht := by rw [List.getD_eq_getElem?_getD, List.getElem?_eq_getElem ht]; rfl
   rw [turnsW, h8, e1, e2]
   exact hb4
  refine zq3 (zx6 (zq1 (zq0 (wl_p I_ok rfl ?_))))
  rw [IntWalk.i64_in _ (by omega)]
  refine zq3 ?_
  exact zv1 (t + 1) rfl ⟨⟨by omega, hs, hg⟩, hb4, hX⟩ (by first | omega | (dsimp only; omega))
 ·have h0 : t = 64 := by omega
  subst h0
  have hLl : (turnsW h rootsW W 64).length = 8 := by rw [turnsW_len, hl]
  generalize turnsW h rootsW W 64 = L at hb4 hLl ⊢
  refine c_exit (zx3 (zx3 (zz0 (zq1 (zq5 (zq0 (wl (zj2 I_ok hb4 rfl (by rw [wordsV_len, hLl]) (wl_p I_ok rfl (zq3 (zq1 (zx4 ?_))))))))))))
  refine zv3 (α := Nat) [0, 80] rfl (fun z => [(81, .int .i64 (z : Int))]) (fun z u => (z ≤ 8 ∧ Blk u sb 186 (wordsV (List.zipWith (· + ·) (h.take z) (L.take z) ++ h.drop z))) ∧ Ext (One sb) w u) (fun z u => 8 - z) (0) rfl ⟨⟨by decide, by simpa using hs⟩, hX⟩ ?_
  rintro i w17 ⟨⟨hi8, hs⟩, hX⟩
  refine zq5 (zq0 (wl_p I_ok rfl (zq3 (zq1 (zq5 (c_if rfl (fun hc => ?_) (fun hc => ?_)))))))
  ·have hi8 : i < 8 := by omega
   have h1 : i < h.length := by omega
   have h2 : i < L.length := by omega
   have hLw := wordsV_get L h2
   refine zx7 (zq1 (zq5 (zx4 (zq5 (zq0 (wl_p I_ok rfl (wl (st_id I_ok rfl i rfl hi8 (.inl ⟨rfl, by simpa using hLw⟩) (wl_p I_ok rfl (zq3 (zq1 ?_)))))))))))
   refine c_draw rfl 13 [(0, true), (1, true), (2, true), (3, true), (4, true), (5, true), (6, true), (7, true), (8, true), (9, true), (10, true), (11, true), (12, true)] [13] (No) (by kernel_rfl) fun w18 hE18 hs18 => ?_
   have hsd := hs
   have hs := hs.zq2 hE18
   have hX := hX.zq4 hE18
   refine wd_k I_ok 5 rfl (wd_ix I_ok rfl rfl 1 rfl i rfl hi8 (0 + i * 1) rfl (wd_ld I_ok rfl rfl (fun w' hw' => (hsd.zq2 hw').cell (i := 0 + i * 1) (v := wordV h[i]) (zip_at h1 h2)) ?_))
   refine wd_k I_ok 2 rfl ?_
   rw [w_add]
   refine wd_k I_ok 3 rfl (wd_ix I_ok rfl rfl 1 rfl i rfl hi8 (0 + i * 1) rfl (wd_sw ?_))
   refine wb rfl (st_set I_ok hs rfl rfl (by rw [wordsV_len, List.length_append, List.length_zipWith, List.length_take, List.length_take, List.length_drop]; omega) fun w19 hs2 hE19 hs19 => ?_)
   rw [zip_set h1 h2] at hs2
   have hs := hs2
   have hX := hX.then hE19
   refine zv0 (zx6 (zq1 (zq0 (wl_p I_ok rfl ?_))))
   rw [IntWalk.i64_in _ (by omega)]
   refine zq3 ?_
   exact zv1 (i + 1) rfl ⟨⟨by omega, hs⟩, hX⟩ (by first | omega | (dsimp only; omega))
  ·have h0 : i = 8 := by omega
   subst h0
   have e1 : h.take 8 = h := List.take_of_length_le (by omega)
   have e2 : L.take 8 = L := List.take_of_length_le (by omega)
   have e3 : h.drop 8 = [] := List.drop_eq_nil_of_le (by omega)
   rw [e1, e2, e3, List.append_nil] at hs
   refine c_exit (zx3 (zx3 (zz0 (f_end0 rfl ?_))))
   exact ⟨hs, hX⟩
theorem start_calls (w : World) :
  zz1 Tryz.prog 122 [] w fun v w' => v = .agg (wordsV startW).toArray ∧ Ext No w w' := by
 refine zq9 Tryz.func122 rfl rfl rfl rfl ?_
 have hX := Ext.refl No w
 refine zq5 (zq0 (wl (zz9 I_ok rfl fun b0 w1 hn0 hb0 hE1 => ?_)))
 have fr0 := Nat.le_trans hX.size hn0
 have hX := hX.zq4 hE1
 refine zq3 (zq1 (zq5 (zq0 (wl (st_bd I_ok rfl (by simp [partsOk]; decide) (l' := wordsV startW) rfl (wl (zj1 (l' := wordsV startW) I_ok hb0 rfl rfl rfl rfl OneC.h fun w2 hb0 hE2 hs2 => ?_)))))))
 have hX := hX.zx1 hE2 fr0
 refine zq3 (zq1 (zj0 (f_ret [_] ⟨⟨b0, 0, rfl, ld_all I_ok rfl rfl hb0.seg rfl⟩, trivial⟩ ?_)))
 exact ⟨rfl, hX⟩
theorem pad_calls (w : World) {p : Option Addr} {c : Nat} {l : List UInt8} (h : SlB w p l) (hl : l.length < 100000000) :
  zz1 Tryz.prog 124 [.slice p l.length c] w fun v w' => ∃ b, v = .slice (some ⟨b, 0, none⟩) (padW l).length (padW l).length ∧ w.heap.size ≤ b ∧ Blk w' b 5 (zq6 (padW l)) ∧ Ext No w w' := by
 obtain ⟨F, hF⟩ : ∃ F, F = (l.length + 72) / 64 * 64 - 8 := ⟨_, rfl⟩
 have hF1 : l.length + 1 ≤ F := by omega
 obtain ⟨k, hk⟩ : ∃ k, F = l.length + (k + 1) := ⟨F - (l.length + 1), by omega⟩
 have e1 : IntKind.i64.wrap (IntKind.i64.wrap ((IntKind.i64.wrap ((l.length : Int) + 72)).tdiv 64) * 64) = ((F + 8 : Nat) : Int) := by
  rw [IntWalk.i64_in ((l.length : Int) + 72) (by omega), IntWalk.i64_quo _ _ (by omega), IntWalk.i64_in _ (by omega)]
  omega
 refine zq9 Tryz.func124 rfl rfl rfl rfl ?_
 have hX := Ext.refl No w
 refine zq5 (zq0 (wl_p I_ok rfl (zq3 (zq1 (zq5 (zq0 (wl_p I_ok rfl ?_)))))))
 rw [e1]
 refine zq3 (zq1 (zq5 (zq0 (wl_p I_ok rfl ?_))))
 rw [show IntKind.i64.wrap (((F + 8 : Nat) : Int) - 8) = (F : Int) from by rw [IntWalk.i64_in _ (by omega)]; omega]
 refine wl (st_mk I_ok rfl F F 1 rfl rfl rfl (by decide) rfl rfl (Nat.le_refl _) (by omega) (by unfold maxLen; omega) fun b12 w1 hn12 hb12 hE1 hs1 => ?_)
 have fr12 := Nat.le_trans hX.size hn12
 have hX := hX.zq4 hE1
 have hb12 : Blk w1 b12 5 (zq6 (List.replicate F 0)) := by (have e : rep F (cellsOf ti5.zero) = zq6 (List.replicate F 0) := rep_bytes _); rw [← e]; exact hb12
 refine wl_p I_ok rfl (zq3 (zq1 (zq5 (zq0 (wl_p I_ok rfl (wl (st_cp I_ok rfl 1 rfl hb12 (Src.slice (h.zq2 hX) OneC.h) (by dsimp only; omega) (by rw [zx0, List.length_replicate]; dsimp only; omega) fun w2 hc2 hE2 hs2 => ?_)))))))
 have hb12 : Blk w2 b12 5 (zq6 (l ++ (List.replicate (k + 1) 0 ++ []))) := by
  have e : Vc.put (zq6 (List.replicate F 0)) 0 (zq6 l) = zq6 (l ++ (List.replicate (k + 1) 0 ++ [])) := by
   rw [put_eq _ _ _ (by simp [zx0]; omega)]
   rw [bytesU_drop]
   subst hk
   simp [zz8, zx0]
  rw [← e]; exact hc2
 have hX := hX.zx1 hE2 fr12
 refine zq3 (zq1 (zq5 (zq0 (wl_p I_ok rfl (wl (st_ix I_ok rfl 1 rfl l.length rfl (by omega) (0 + l.length * 1) rfl (wl (st_set I_ok hb12 rfl rfl (by rw [zx0]; simp) fun w3 hb12 hE3 hs3 => ?_))))))))
 have hX := hX.zx1 hE3 fr12
 have hpad : l ++ (128 :: (List.replicate k 0 ++ [])) ++ be 8 (8 * l.length) = padW l := by
  have hk2 : k = (l.length + 72) / 64 * 64 - 8 - (l.length + 1) := by omega
  rw [padW, hk2]
  simp
 have hb12 : Blk w3 b12 5 (zq6 (l ++ (128 :: (List.replicate k 0 ++ [])))) := by
  rw [Nat.zero_add, Nat.mul_one, show (Value.int .u8 128) = byteV 128 from rfl, zq6, ← List.map_set, List.set_append_right _ _ (Nat.le_refl _), Nat.sub_self, List.replicate_succ] at hb12
  exact hb12
 have hlen2 : (l ++ (128 :: (List.replicate k 0 ++ []))).length = F := by simp; omega
 refine zq3 (zq1 (zq5 (zq0 (wl_p I_ok rfl ?_))))
 rw [show IntKind.u64.wrap (IntKind.u64.wrap (l.length : Int) * 2 ^ min (3 : Int).toNat IntKind.u64.bits) = ((8 * l.length : Nat) : Int) from by rw [show (2 : Int) ^ min (3 : Int).toNat IntKind.u64.bits = 8 from rfl, IntWalk.u64_in (l.length : Int) (by omega), IntWalk.u64_in _ (by omega)]; omega]
 rw [show Value.slice (some ⟨b12, 0, none⟩) F F = .slice (some ⟨b12, 0, none⟩) (l ++ (128 :: (List.replicate k 0 ++ []))).length F from by rw [hlen2]]
 have hX0 := hX
 refine wl (zx2 Tryz.call158 rfl rfl rfl rfl rfl rfl (put64_calls w3 (l := l ++ (128 :: (List.replicate k 0 ++ []))) ⟨by simp [zx0], .inr ⟨b12, 0, rfl, hb12.seg⟩⟩ (by omega) (8 * l.length) (by omega)) fun v4 w4 hr4 => ?_)
 obtain ⟨b, rfl, hnb, hb, hE4⟩ := hr4
 have hX := hX.zq4 hE4
 rw [hpad] at hb ⊢
 refine wl_p I_ok rfl (zq3 (zq1 (zj0 (zz2 rfl rfl ?_))))
 exact ⟨b, rfl, Nat.le_trans hX0.size hnb, hb, hX⟩
theorem sum_calls (w : World) {p : Option Addr} {c : Nat} {l : List UInt8} (h : SlB w p l) (hl : l.length < 100000000) (hg : Seg w 0 0 (wordsV rootsW)) :
  zz1 Tryz.prog 64 [.slice p l.length c] w fun v w' => v = .agg (zq6 (sumW l)).toArray ∧ Ext No w w' := by
 have hglt : 0 < w.heap.size := hg.lt (by decide)
 refine zq9 Tryz.func64 rfl rfl rfl rfl ?_
 have hX := Ext.refl No w
 refine zq5 (zq0 (wl (zz9 I_ok rfl fun b2 w1 hn2 hb2 hE1 => ?_)))
 have fr2 := Nat.le_trans hX.size hn2
 have hg := hg.zq2 hE1
 have hX := hX.zq4 hE1
 refine zq3 (zq1 (zq5 (zq0 (wl (zx2 Tryz.call122 rfl rfl rfl rfl rfl rfl (start_calls w1) fun v2 w2 hr2 => ?_)))))
 obtain ⟨rfl, hE2⟩ := hr2
 have hb2 := hb2.zq2 hE2
 have hg := hg.zq2 hE2
 have hX := hX.zq4 hE2
 refine wl (st_bd I_ok rfl (by simp [partsOk]; decide) (l' := wordsV startW) rfl (wl (st_bd I_ok rfl (by simp [partsOk]; decide) (l' := wordsV startW) rfl (wl (zz9 I_ok rfl fun b3 w3 hn3 hb3 hE3 => ?_)))))
 have ne2_3 : b2 ≠ b3 := Nat.ne_of_lt (Nat.lt_of_lt_of_le hb2.lt hn3)
 have fr3 := Nat.le_trans hX.size hn3
 have hb2 := hb2.zq2 hE3
 have hg := hg.zq2 hE3
 have hX := hX.zq4 hE3
 have h0b3 : ¬ One b3 0 := fun e => by have e : 0 = b3 := e; have := hE1.size; omega
 have hne32 : ¬ One b3 b2 := fun e => by have e : b2 = b3 := e; omega
 refine wl (zj1 (l' := wordsV startW) I_ok hb3 rfl rfl rfl rfl OneC.h fun w4 hb3 hE4 hs4 => ?_)
 have hb2 := hb2.ext1 hE4 ne2_3
 have hg := hg.ext hE4 h0b3
 have hX := hX.zx1 hE4 fr3
 have hE4 := hX
 refine zq3 (zq1 (zq5 (zq0 (wl (st_mf rfl (wl_p I_ok rfl (zq3 (zq1 (zq5 (zq5 (zq0 (wl_p I_ok rfl ?_))))))))))))
 have hX0 := hX
 refine wl (zx2 Tryz.call124 rfl rfl rfl rfl rfl rfl (pad_calls w4 (h.zq2 hX) hl) fun v5 w5 hr5 => ?_)
 obtain ⟨bp, rfl, hnp, hbp, hE5⟩ := hr5
 have hb2 := hb2.zq2 hE5
 have hg := hg.zq2 hE5
 have hX := hX.zq4 hE5
 have hb3 := hb3.zq2 hE5
 have hnp := Nat.le_trans hX0.size hnp
 have hPl : (padW l).length % 64 = 0 := by rw [padW_len]; omega
 have hPm : (padW l).length < 200000000 := by rw [padW_len]; omega
 have hsum : sumW l = (blocksW rootsW startW (padW l) ((padW l).length / 64)).flatMap fun x => be 4 x.toNat := rfl
 rw [hsum]
 generalize padW l = P at hbp hPl hPm ⊢
 refine wl_p I_ok rfl (zq3 (zq1 (zx4 ?_)))
 refine zv3 (α := Nat × Option Addr × Nat) [2, 3, 4] rfl (fun z => [(5, .slice z.2.1 (P.drop (64 * z.1)).length z.2.2)]) (fun z u => (64 * z.1 ≤ P.length ∧ SlB u z.2.1 (P.drop (64 * z.1)) ∧ TyU u z.2.1 ∧ (P.drop (64 * z.1)).length ≤ z.2.2 ∧ Blk u b3 186 (wordsV (blocksW rootsW startW P z.1)) ∧ Seg u 0 0 (wordsV rootsW)) ∧ Blk u b2 31 (cellsOf ti31.zero) ∧ Ext No w u) (fun z u => (P.drop (64 * z.1)).length) (0, some ⟨bp, 0, none⟩, P.length) rfl ⟨⟨Nat.zero_le _, ⟨by simp [zx0], .inr ⟨bp, 0, rfl, hbp.seg⟩⟩, TyU.of hbp _ _, Nat.le_refl _, hb3, hg⟩, hb2, hX⟩ ?_
 rintro ⟨k, q, cq⟩ w6 ⟨⟨hk, hq, hty, hcq, hb3, hg⟩, hb2, hX⟩
 try dsimp only
 dsimp only at hk hq hty hcq hb3
 refine zq5 (zq5 (zq0 (wl_p I_ok rfl (zq3 (zq1 (c_if rfl (fun hc => ?_) (fun hc => ?_)))))))
 ·have hdl : (P.drop (64 * k)).length = P.length - 64 * k := List.length_drop
  have h64 : 64 ≤ (P.drop (64 * k)).length := by omega
  obtain ⟨bq, off, rfl, hseg⟩ : ∃ bq off, q = some ⟨bq, off, none⟩ ∧ Seg w6 bq off (zq6 (P.drop (64 * k))) := by
   rcases hq.2 with h0 | h1
   ·omega
   ·exact h1
  have hseg := hseg.take 64
  rw [bytesU_take] at hseg
  have htl : ((P.drop (64 * k)).take 64).length = 64 := by rw [List.length_take]; omega
  refine zx7 (zq1 (zq5 (zx4 (zq0 (wl_p I_ok rfl (wl (st_sl I_ok rfl 0 64 64 1 rfl (.inl ⟨rfl, rfl⟩) (.inl rfl) (.inr ⟨rfl, rfl⟩) (Nat.zero_le _) (Nat.le_refl _) (by dsimp only; omega) ?_)))))))
  dsimp only
  rw [slBase_zero]
  refine wl (st_sp I_ok rfl (show 64 ≤ 64 - 0 from Nat.le_refl _) (wl (st_ldN I_ok rfl hseg (by rw [zx0, htl]) (wl (zx2 Tryz.call123 rfl rfl rfl rfl rfl rfl (into_calls w6 hb3 (by rw [blocksW_len]; rfl) htl hg) fun v7 w7 hr7 => ?_)))))
  obtain ⟨hb3n, hE7⟩ := hr7
  have hb2 := hb2.ext hE7 hne32
  have hX := hX.zx1 hE7 fr3
  have hg := hg.ext hE7 h0b3
  have hq : SlB _ _ _ := SlB.zx9 hq hty hE7 (fun b L hb e => hb.ne hb3 (by decide) e)
  have hty := hty.ext hE7 (fun b L hb e => hb.ne hb3 (by decide) e)
  have hb3 := hb3n
  refine zq3 (zx6 (zq1 (zq0 (wl_p I_ok rfl (wl (st_sl I_ok rfl 64 (P.drop (64 * k)).length cq 1 rfl (.inr ⟨rfl, rfl⟩) (.inr ⟨rfl, rfl⟩) (.inl rfl) h64 hcq (Nat.le_refl _) ?_))))))
  dsimp only
  have e2 : (P.drop (64 * k)).length - 64 = (P.drop (64 * (k + 1))).length := by simp only [List.length_drop]; omega
  have hq2 := Sl.slice hq 64 (P.drop (64 * k)).length cq h64 hcq (Nat.le_refl _)
  rw [Nat.mul_one, Nat.mul_one, bytesU_drop, bytesU_take, List.drop_drop, e2] at hq2
  rw [show 64 * k + 64 = 64 * (k + 1) from rfl, List.take_of_length_le (Nat.le_refl _)] at hq2
  rw [e2]
  refine wl_p I_ok rfl (zq3 ?_)
  exact zv1 (k + 1, slBase (some ⟨bq, off, none⟩) 64 cq 1, cq - 64) rfl ⟨⟨by dsimp only; omega, hq2, hty.sub _ _ _, by dsimp only; omega, hb3, hg⟩, hb2, hX⟩ (by dsimp only; simp only [List.length_drop]; omega)
 ·have hdl : (P.drop (64 * k)).length = P.length - 64 * k := List.length_drop
  have h0 : k = P.length / 64 := by omega
  subst h0
  have hHl : (blocksW rootsW startW P (P.length / 64)).length = 8 := by rw [blocksW_len]; rfl
  generalize blocksW rootsW startW P (P.length / 64) = H at hb3 hHl ⊢
  refine c_exit (zx3 (zx3 (zz0 (zq1 (zq5 (zq0 (wl_p I_ok rfl (zq3 (zq1 (zq5 (zq5 (zq0 (wl_p I_ok rfl (wl (st_ldN I_ok rfl hb3.seg (by rw [wordsV_len, hHl]) (wl_p I_ok rfl (zq3 (zq1 ?_))))))))))))))))))
  refine zx4 ?_
  refine zv3 (α := Nat × Option Addr × Nat × List UInt8) [2, 28] rfl (fun z => [(6, .slice z.2.1 z.2.2.2.length z.2.2.1), (29, .int .i64 (z.1 : Int))]) (fun z u => (z.1 ≤ 8 ∧ SlB u z.2.1 z.2.2.2 ∧ z.2.2.2 = (H.take z.1).flatMap (fun x => be 4 x.toNat)) ∧ Blk u b2 31 (cellsOf ti31.zero) ∧ Ext No w u) (fun z u => 8 - z.1) (0, none, 0, []) rfl ⟨⟨by decide, Sl.nil _ _ _, by simp⟩, hb2, hX⟩ ?_
  rintro ⟨i, q, cq, O⟩ w8 ⟨⟨hi8, hO, hOe⟩, hb2, hX⟩
  try dsimp only
  dsimp only at hi8 hO hOe
  refine zq5 (zq0 (wl_p I_ok rfl (zq3 (zq1 (zq5 (c_if rfl (fun hc => ?_) (fun hc => ?_)))))))
  ·have hi8 : i < 8 := by omega
   have hHw := wordsV_get H (i := i) (by omega)
   have hOl : O.length = 4 * i := by rw [hOe, flat4_len, List.length_take]; omega
   refine zx7 (zq1 (zq5 (zx4 (zq5 (zq0 (wl (st_id I_ok rfl i rfl hi8 (.inl ⟨rfl, by simpa using hHw⟩) (wl_p I_ok rfl (zq3 (zq1 (zq0 (wl_p I_ok rfl ?_))))))))))))
   refine wl (zx2 Tryz.call121 rfl rfl rfl rfl rfl rfl (put32_calls w8 hO (by omega) _ (BitVec.isLt _)) fun v9 w9 hr9 => ?_)
   obtain ⟨bo, rfl, hno, hbo, hE9⟩ := hr9
   have hb2 := hb2.zq2 hE9
   have hX := hX.zq4 hE9
   refine wl_p I_ok rfl (zq3 (zx6 (zq1 (zq0 (wl_p I_ok rfl ?_)))))
   rw [IntWalk.i64_in _ (by omega)]
   refine zq3 ?_
   exact zv1 (i + 1, some ⟨bo, 0, none⟩, (O ++ be 4 (H[i]).toNat).length, O ++ be 4 (H[i]).toNat) rfl ⟨⟨by dsimp only; omega, ⟨by simp [zx0], .inr ⟨bo, 0, rfl, hbo.seg⟩⟩, by dsimp only; rw [List.take_succ_eq_append_getElem (by omega), List.flatMap_append, hOe]; simp⟩, hb2, hX⟩ (by first | omega | (dsimp only; omega))
  ·have h0 : i = 8 := by omega
   subst h0
   have hOl : O.length = 32 := by rw [hOe, flat4_len, List.length_take]; omega
   have hOe : O = H.flatMap (fun x => be 4 x.toNat) := by rw [hOe, List.take_of_length_le (by omega)]
   obtain ⟨bq, off, rfl, hseg⟩ : ∃ bq off, q = some ⟨bq, off, none⟩ ∧ Seg w8 bq off (zq6 O) := by
    rcases hO.2 with h0 | h1
    ·omega
    ·exact h1
   refine c_exit (zx3 (zx3 (zz0 (zq1 (zq5 (zq0 (wl_p I_ok rfl (wl (st_sp I_ok rfl (Nat.le_of_eq hOl.symm) (wl (st_ldN I_ok rfl hseg (by rw [zx0, hOl]) ?_)))))))))))
   refine wl (zj1 (l' := zq6 O) I_ok hb2 rfl rfl (by rw [zx0, hOl]) (by rw [zx0, hOl]; rfl) OneC.h fun w10 hb2 hE10 hs10 => ?_)
   have hX := hX.zx1 hE10 fr2
   refine zq3 (zq1 (zj0 (f_ret [_] ⟨⟨b2, 0, rfl, ld_all I_ok rfl rfl hb2.seg (by rw [zx0, hOl]; rfl)⟩, trivial⟩ ?_)))
   exact ⟨by rw [hOe]; rfl, hX⟩
theorem turned2_calls (w : World) (x : W32) :
  zz1 Tryz.prog 148 [wordV x, .int .u64 2] w fun v w' => v = wordV (rot x 2) ∧ w' = w := by
 refine zq9 Tryz.func148 rfl rfl rfl rfl ?_
 have hX := Ext.refl No w
 refine zq5 (zq0 (wl_p I_ok rfl (zq3 (zq1 (zq5 (zq0 (wl_p I_ok rfl (zq3 (zq1 (zq5 (zq0 (wl_p I_ok rfl (zq3 (zq1 (zj0 (zz2 rfl rfl ?_))))))))))))))))
 exact ⟨congrArg (Value.int .u32) (turn_eq x 2 (by decide)), rfl⟩
theorem turned6_calls (w : World) (x : W32) :
  zz1 Tryz.prog 148 [wordV x, .int .u64 6] w fun v w' => v = wordV (rot x 6) ∧ w' = w := by
 refine zq9 Tryz.func148 rfl rfl rfl rfl ?_
 have hX := Ext.refl No w
 refine zq5 (zq0 (wl_p I_ok rfl (zq3 (zq1 (zq5 (zq0 (wl_p I_ok rfl (zq3 (zq1 (zq5 (zq0 (wl_p I_ok rfl (zq3 (zq1 (zj0 (zz2 rfl rfl ?_))))))))))))))))
 exact ⟨congrArg (Value.int .u32) (turn_eq x 6 (by decide)), rfl⟩
theorem turned7_calls (w : World) (x : W32) :
  zz1 Tryz.prog 148 [wordV x, .int .u64 7] w fun v w' => v = wordV (rot x 7) ∧ w' = w := by
 refine zq9 Tryz.func148 rfl rfl rfl rfl ?_
 have hX := Ext.refl No w
 refine zq5 (zq0 (wl_p I_ok rfl (zq3 (zq1 (zq5 (zq0 (wl_p I_ok rfl (zq3 (zq1 (zq5 (zq0 (wl_p I_ok rfl (zq3 (zq1 (zj0 (zz2 rfl rfl ?_))))))))))))))))
 exact ⟨congrArg (Value.int .u32) (turn_eq x 7 (by decide)), rfl⟩
theorem turned11_calls (w : World) (x : W32) :
  zz1 Tryz.prog 148 [wordV x, .int .u64 11] w fun v w' => v = wordV (rot x 11) ∧ w' = w := by
 refine zq9 Tryz.func148 rfl rfl rfl rfl ?_
 have hX := Ext.refl No w
 refine zq5 (zq0 (wl_p I_ok rfl (zq3 (zq1 (zq5 (zq0 (wl_p I_ok rfl (zq3 (zq1 (zq5 (zq0 (wl_p I_ok rfl (zq3 (zq1 (zj0 (zz2 rfl rfl ?_))))))))))))))))
 exact ⟨congrArg (Value.int .u32) (turn_eq x 11 (by decide)), rfl⟩
theorem turned13_calls (w : World) (x : W32) :
  zz1 Tryz.prog 148 [wordV x, .int .u64 13] w fun v w' => v = wordV (rot x 13) ∧ w' = w := by
 refine zq9 Tryz.func148 rfl rfl rfl rfl ?_
 have hX := Ext.refl No w
 refine zq5 (zq0 (wl_p I_ok rfl (zq3 (zq1 (zq5 (zq0 (wl_p I_ok rfl (zq3 (zq1 (zq5 (zq0 (wl_p I_ok rfl (zq3 (zq1 (zj0 (zz2 rfl rfl ?_))))))))))))))))
 exact ⟨congrArg (Value.int .u32) (turn_eq x 13 (by decide)), rfl⟩
theorem turned17_calls (w : World) (x : W32) :
  zz1 Tryz.prog 148 [wordV x, .int .u64 17] w fun v w' => v = wordV (rot x 17) ∧ w' = w := by
 refine zq9 Tryz.func148 rfl rfl rfl rfl ?_
 have hX := Ext.refl No w
 refine zq5 (zq0 (wl_p I_ok rfl (zq3 (zq1 (zq5 (zq0 (wl_p I_ok rfl (zq3 (zq1 (zq5 (zq0 (wl_p I_ok rfl (zq3 (zq1 (zj0 (zz2 rfl rfl ?_))))))))))))))))
 exact ⟨congrArg (Value.int .u32) (turn_eq x 17 (by decide)), rfl⟩
theorem turned18_calls (w : World) (x : W32) :
  zz1 Tryz.prog 148 [wordV x, .int .u64 18] w fun v w' => v = wordV (rot x 18) ∧ w' = w := by
 refine zq9 Tryz.func148 rfl rfl rfl rfl ?_
 have hX := Ext.refl No w
 refine zq5 (zq0 (wl_p I_ok rfl (zq3 (zq1 (zq5 (zq0 (wl_p I_ok rfl (zq3 (zq1 (zq5 (zq0 (wl_p I_ok rfl (zq3 (zq1 (zj0 (zz2 rfl rfl ?_))))))))))))))))
 exact ⟨congrArg (Value.int .u32) (turn_eq x 18 (by decide)), rfl⟩
theorem turned19_calls (w : World) (x : W32) :
  zz1 Tryz.prog 148 [wordV x, .int .u64 19] w fun v w' => v = wordV (rot x 19) ∧ w' = w := by
 refine zq9 Tryz.func148 rfl rfl rfl rfl ?_
 have hX := Ext.refl No w
 refine zq5 (zq0 (wl_p I_ok rfl (zq3 (zq1 (zq5 (zq0 (wl_p I_ok rfl (zq3 (zq1 (zq5 (zq0 (wl_p I_ok rfl (zq3 (zq1 (zj0 (zz2 rfl rfl ?_))))))))))))))))
 exact ⟨congrArg (Value.int .u32) (turn_eq x 19 (by decide)), rfl⟩
theorem turned22_calls (w : World) (x : W32) :
  zz1 Tryz.prog 148 [wordV x, .int .u64 22] w fun v w' => v = wordV (rot x 22) ∧ w' = w := by
 refine zq9 Tryz.func148 rfl rfl rfl rfl ?_
 have hX := Ext.refl No w
 refine zq5 (zq0 (wl_p I_ok rfl (zq3 (zq1 (zq5 (zq0 (wl_p I_ok rfl (zq3 (zq1 (zq5 (zq0 (wl_p I_ok rfl (zq3 (zq1 (zj0 (zz2 rfl rfl ?_))))))))))))))))
 exact ⟨congrArg (Value.int .u32) (turn_eq x 22 (by decide)), rfl⟩
theorem turned25_calls (w : World) (x : W32) :
  zz1 Tryz.prog 148 [wordV x, .int .u64 25] w fun v w' => v = wordV (rot x 25) ∧ w' = w := by
 refine zq9 Tryz.func148 rfl rfl rfl rfl ?_
 have hX := Ext.refl No w
 refine zq5 (zq0 (wl_p I_ok rfl (zq3 (zq1 (zq5 (zq0 (wl_p I_ok rfl (zq3 (zq1 (zq5 (zq0 (wl_p I_ok rfl (zq3 (zq1 (zj0 (zz2 rfl rfl ?_))))))))))))))))
 exact ⟨congrArg (Value.int .u32) (turn_eq x 25 (by decide)), rfl⟩
theorem known_calls (w : World) :
  zz1 Tryz.prog 112 [] w fun v w' => ∃ b, v = .slice (some ⟨b, 0, none⟩) 64 64 ∧ w.heap.size ≤ b ∧ Blk w' b 44 (wordsV rootsW) ∧ Ext No w w' := by
 refine zq9 Tryz.func112 rfl rfl rfl rfl ?_
 have hX := Ext.refl No w
 refine zq5 (zq0 (wl_p I_ok rfl (zq3 (zq1 (zq5 (zq0 (wl (st_bs I_ok rfl 1 rfl rfl rfl (by decide) (by decide) (by simp [partsOk]) rfl fun b1 w1 hn1 hb1 hE1 hs1 => ?_))))))))
 have fr1 := Nat.le_trans hX.size hn1
 have hX := hX.zq4 hE1
 refine wl_p I_ok rfl (zq3 (zq1 (zj0 (zz2 rfl rfl ?_))))
 exact ⟨b1, rfl, fr1, hb1, hX⟩
theorem mix2 (x : W32) (a b : Nat) : mixW x [a, b] = rot x a ^^^ rot x b := by simp [mixW]
theorem div1024 (x : W32) : IntKind.u32.wrap ((x.toNat : Int).tdiv 1024) = ((x >>> 10).toNat : Int) := div_eq x 10
theorem div8 (x : W32) : IntKind.u32.wrap ((x.toNat : Int).tdiv 8) = ((x >>> 3).toNat : Int) := div_eq x 3
theorem mix3 (x : W32) (a b c : Nat) : mixW x [a, b, c] = rot x a ^^^ rot x b ^^^ rot x c := by simp [mixW]
theorem out_calls (w : World) {p : Option Addr} {c : Nat} {b : List UInt8} (h : SlB w p b) (hb : b.length = 64) (hc : 64 ≤ c) :
  zz1 Tryz.prog 147 [.slice p b.length c] w fun v w' => ∃ q k, v = .slice q 64 k ∧ Own w' q 64 k 44 1 (wordsV (sched b 64)) ∧ (∀ x, OwnB q x → w.heap.size ≤ x) ∧ Ext No w w' := by
 refine zq9 Tryz.func147 rfl rfl rfl rfl ?_
 have hX := Ext.refl No w
 refine zq5 (zq0 (wl_p I_ok rfl (zq3 (zq1 (zq5 (zq0 (wl_p I_ok rfl (zq3 (zq1 (zq5 (zq5 (zq0 (wl_p I_ok rfl (zq3 (zq1 (zx4 ?_))))))))))))))))
 refine zv3 (α := Nat × Option Addr × Nat) [0] rfl (fun z => [(3, .slice z.2.1 z.1 z.2.2), (4, .int .i64 (z.1 : Int))]) (fun z u => (z.1 ≤ 64 ∧ Own u z.2.1 z.1 z.2.2 44 1 (wordsV (sched b z.1)) ∧ (∀ x, OwnB z.2.1 x → w.heap.size ≤ x)) ∧ Ext No w u) (fun z u => 64 - z.1) (0, none, 0) rfl ⟨⟨by decide, Own.nil _ _ _, fun x hx => by cases hx⟩, hX⟩ ?_
 rintro ⟨t, q, k⟩ w1 ⟨⟨ht, hq, hqn⟩, hX⟩
 try dsimp only
 dsimp only at ht hq hqn
 refine zq5 (zq5 (zq0 (wl_p I_ok rfl (zq3 (zq1 (c_if rfl (fun hc => ?_) (fun hc => ?_)))))))
 ·have ht : t < 64 := by omega
  refine zx7 (zq1 (c_cutK (α := Option Addr × Nat) [0, 4] rfl (fun z => [(3, .slice z.1 (t + 1) z.2)]) (fun z u => (Own u z.1 (t + 1) z.2 44 1 (wordsV (sched b (t + 1))) ∧ (∀ x, OwnB z.1 x → w.heap.size ≤ x)) ∧ Ext No w u) ?_ ?_))
  ·refine zx4 ?_
   refine zq5 (zq5 (zq0 (wl_p I_ok rfl (zq3 (zq1 (c_if rfl (fun hc => ?_) (fun hc => ?_)))))))
   ·have ht16 : t < 16 := by omega
    have w_nx := nextW_raw (b := b) (l := sched b t) (by rw [sched_len]; exact ht16)
    rw [sched_len] at w_nx
    have h4l : ((b.drop (4 * t)).take 4).length = 4 := by rw [List.length_take, List.length_drop]; omega
    have hs4 : SlB w1 (slBase p (4 * t) c 1) ((b.drop (4 * t)).take 4) := by
     have e := Sl.slice (h.zq2 hX) (4 * t) (4 * t + 4) c (by omega) (by omega) (by omega)
     rw [Nat.mul_one, Nat.mul_one, bytesU_drop, bytesU_take, show 4 * t + 4 - 4 * t = 4 from by omega] at e
     rw [SlB, h4l]
     exact e
    refine zq5 (zq0 (wl_p I_ok rfl ?_))
    rw [IntWalk.i64_in (4 * (t : Int)) (by omega), IntWalk.i64_in _ (by omega)]
    refine wl (st_sl I_ok rfl (4 * t) (4 * t + 4) c 1 rfl (.inr ⟨rfl, rfl⟩) (.inl (congrArg some (by omega))) (.inl (congrArg some (by omega))) (by omega) (by omega) (Nat.le_refl _) ?_)
    dsimp only
    rw [show 4 * t + 4 - 4 * t = ((b.drop (4 * t)).take 4).length from by rw [h4l]; omega]
    refine wl (zx2 Tryz.call174 rfl rfl rfl rfl rfl rfl (number_calls w1 hs4 (by rw [h4l]; decide)) fun v2 w2 hr2 => ?_)
    obtain ⟨rfl, rfl⟩ := hr2
    refine wl_p I_ok rfl ?_
    rw [w_wrap, ← w_nx]
    refine wl (st_bs I_ok rfl 1 rfl rfl rfl (by decide) (by decide) (by simp [partsOk]) rfl fun b23 w3 hn23 hb23 hE3 hs3 => ?_)
    have hq := hq.ext hE3 fun _ _ => id
    have hX := hX.zq4 hE3
    have hb23 : Blk w3 b23 44 (wordsV [nextW b (sched b t)]) := hb23
    have hX1 := hX
    refine wl (zv2 I_ok rfl 1 4 rfl rfl rfl (by decide) hq (Src.slice (m := 1) ⟨rfl, .inr ⟨b23, 0, rfl, hb23.seg⟩⟩ OneC.h) (by dsimp only [maxLen]; omega) (by dsimp only; omega) fun p4 c4 w4 ho4 hE4 hB4 => ?_)
    have hX := hX1.trans hE4 fun y hy hF => by have := hqn y hF; omega
    have hqn2 : ∀ x, OwnB p4 x → w.heap.size ≤ x := fun x hx => (hB4 x hx).elim (fun h => hqn x h) fun h => Nat.le_trans hX1.size h
    have hq2 : Own w4 p4 (t + 1) c4 44 1 (wordsV (sched b (t + 1))) := by
     rw [sched, wordsV_append]
     exact ho4
    refine wl_p I_ok rfl (zq3 (zq1 (c_exit ?_)))
    exact zx3 (zz0 (zz7 (p4, c4) rfl ⟨⟨hq2, hqn2⟩, hX⟩))
   ·have ht16 : ¬ t < 16 := by omega
    have w_nx := nextW_mix (b := b) (l := sched b t) (by rw [sched_len]; exact ht16)
    rw [sched_len] at w_nx
    obtain ⟨bq, rfl, hseg⟩ : ∃ bq, q = some ⟨bq, 0, none⟩ ∧ Seg w1 bq 0 (wordsV (sched b t)) := by
     rcases hq with ⟨_, h0, _⟩ | ⟨bq, l, h1, h2, _, _, _, h3⟩
     ·omega
     ·refine ⟨bq, h1, ?_⟩
      rw [← h3]
      exact h2.seg.take _
    have hnx : (mixW ((sched b t).getD (t - 2) 0) [17, 19] ^^^ (sched b t).getD (t - 2) 0 >>> 10) + (sched b t).getD (t - 7) 0 + (mixW ((sched b t).getD (t - 15) 0) [7, 18] ^^^ (sched b t).getD (t - 15) 0 >>> 3) + (sched b t).getD (t - 16) 0 = nextW b (sched b t) := by
     rw [w_nx]
     ac_rfl
    refine zx7 (zq1 (zq5 (c_draw rfl 12 [(0, true), (1, true), (2, true), (3, true), (4, true), (5, true), (6, true), (7, true), (8, true), (9, true), (10, true), (11, true)] [] (No) (by kernel_rfl) fun w5 hE5 hs5 => ?_)))
    have hsegd := hseg
    have hq := hq.ext hE5 fun _ _ => id
    have hseg := hseg.zq2 hE5
    have hX := hX.zq4 hE5
    refine wd_k I_ok 3 rfl ?_
    rw [IntWalk.i64_in _ (by omega)]
    refine wd_ix I_ok rfl rfl 1 rfl (t - 2) (by omega) (by omega) (0 + (t - 2)) (by omega) (wd_ld I_ok rfl rfl (fun w' hw' => (hsegd.zq2 hw') (t - 2) _ (words_getD _ (by rw [sched_len]; omega))) ?_)
    refine wd_k I_ok 3 rfl ?_
    rw [IntWalk.i64_in _ (by omega)]
    refine wd_ix I_ok rfl rfl 1 rfl (t - 15) (by omega) (by omega) (0 + (t - 15)) (by omega) (wd_ld I_ok rfl rfl (fun w' hw' => (hsegd.zq2 hw') (t - 15) _ (words_getD _ (by rw [sched_len]; omega))) ?_)
    refine wd_k I_ok 2 rfl (wd_sw (zv0 (zq1 (zq5 (zq0 (wl_p I_ok rfl (wl (zx2 Tryz.call148 rfl rfl rfl rfl rfl rfl (turned17_calls w5 _) fun v6 w6 hr6 => ?_))))))))
    obtain ⟨rfl, rfl⟩ := hr6
    refine wl_p I_ok rfl (wl (zx2 Tryz.call148 rfl rfl rfl rfl rfl rfl (turned19_calls w6 _) fun v7 w7 hr7 => ?_))
    obtain ⟨rfl, rfl⟩ := hr7
    refine wl_p I_ok rfl ?_
    rw [w_xor, div1024, w_xor, ← mix2]
    refine zq3 (zq1 (zq5 (zq0 (wl_p I_ok rfl (wl (zx2 Tryz.call148 rfl rfl rfl rfl rfl rfl (turned7_calls w7 _) fun v8 w8 hr8 => ?_))))))
    obtain ⟨rfl, rfl⟩ := hr8
    refine wl_p I_ok rfl (wl (zx2 Tryz.call148 rfl rfl rfl rfl rfl rfl (turned18_calls w8 _) fun v9 w9 hr9 => ?_))
    obtain ⟨rfl, rfl⟩ := hr9
    refine wl_p I_ok rfl ?_
    rw [w_xor, div8, w_xor, ← mix2]
    refine zq3 (zq1 ?_)
    refine c_draw rfl 17 [(0, true), (1, true), (2, true), (3, true), (4, true), (5, true), (6, true), (7, true), (8, true), (9, true), (10, true), (11, true), (12, true), (13, true), (14, true), (15, true), (16, false)] [17, 18] (No) (by kernel_rfl) fun w10 hE10 hs10 => ?_
    have hsegd := hseg
    have hq := hq.ext hE10 fun _ _ => id
    have hX := hX.zq4 hE10
    have hC : Ext (No) _ w10 := hE10.no
    refine wd_k I_ok 5 rfl ?_
    rw [IntWalk.i64_in _ (by omega)]
    refine wd_ix I_ok rfl rfl 1 rfl (t - 7) (by omega) (by omega) (0 + (t - 7)) (by omega) (wd_ld I_ok rfl rfl (fun w' hw' => (hsegd.zq2 hw') (t - 7) _ (words_getD _ (by rw [sched_len]; omega))) ?_)
    refine wd_k I_ok 6 rfl ?_
    rw [IntWalk.i64_in _ (by omega)]
    refine wd_ix I_ok rfl rfl 1 rfl (t - 16) (by omega) (by omega) (0 + (t - 16)) (by omega) (wd_ld I_ok rfl rfl (fun w' hw' => (hsegd.zq2 hw') (t - 16) _ (words_getD _ (by rw [sched_len]; omega))) ?_)
    refine wd_k I_ok 1 rfl ?_
    rw [w_add, w_add, w_add, hnx]
    refine wd_l rfl (st_bs I_ok rfl 1 rfl rfl rfl (by decide) (by decide) (by simp [partsOk]) rfl fun b67 w11 hn67 hb67 hE11 hs11 => ⟨hC.zq4 hE11, ?_⟩)
    have hq := hq.ext hE11 fun _ _ => id
    have hX := hX.zq4 hE11
    have hb67 : Blk w11 b67 44 (wordsV [nextW b (sched b t)]) := hb67
    refine wd_sw ?_
    have hX1 := hX
    refine wb rfl (zv2 I_ok rfl 1 4 rfl rfl rfl (by decide) hq (Src.slice (m := 1) ⟨rfl, .inr ⟨b67, 0, rfl, hb67.seg⟩⟩ OneC.h) (by dsimp only [maxLen]; omega) (by dsimp only; omega) fun p12 c12 w12 ho12 hE12 hB12 => ?_)
    have hX := hX1.trans hE12 fun y hy hF => by have := hqn y hF; omega
    have hqn2 : ∀ x, OwnB p12 x → w.heap.size ≤ x := fun x hx => (hB12 x hx).elim (fun h => hqn x h) fun h => Nat.le_trans hX1.size h
    have hq2 : Own w12 p12 (t + 1) c12 44 1 (wordsV (sched b (t + 1))) := by
     rw [sched, wordsV_append]
     exact ho12
    refine wb rfl (st_p I_ok rfl rfl rfl (zv0 ?_))
    exact zx6 (zz7 (p12, c12) rfl ⟨⟨hq2, hqn2⟩, hX⟩)
  rintro ⟨q, k⟩ w13 ⟨⟨hq, hqn⟩, hX⟩
  dsimp only at hq hqn
  refine zq0 (wl_p I_ok rfl ?_)
  rw [IntWalk.i64_in _ (by omega)]
  refine zq3 ?_
  exact zv1 (t + 1, q, k) rfl ⟨⟨by dsimp only; omega, hq, hqn⟩, hX⟩ (by first | omega | (dsimp only; omega))
 ·have h0 : t = 64 := by omega
  subst h0
  refine c_exit (zx3 (zx3 (zz0 (zq1 (zq5 (zq0 (wl_p I_ok rfl (zq3 (zq1 (zj0 (zz2 rfl rfl ?_)))))))))))
  exact ⟨q, k, rfl, hq, hqn, hX⟩
theorem ch_eq (e f g : W32) : (e &&& f ||| ~~~e &&& g) = g ^^^ (e &&& (f ^^^ g)) := by
 apply BitVec.eq_of_getLsbD_eq
 intro i hi
 simp only [BitVec.getLsbD_or, BitVec.getLsbD_and, BitVec.getLsbD_xor, BitVec.getLsbD_not, hi, decide_true, Bool.true_and]
 cases e.getLsbD i <;> cases f.getLsbD i <;> cases g.getLsbD i <;> rfl
theorem maj_eq (a b c : W32) : (a &&& b ||| a &&& c ||| b &&& c) = (a &&& b ||| c &&& (a ||| b)) := by
 apply BitVec.eq_of_getLsbD_eq
 intro i hi
 simp only [BitVec.getLsbD_or, BitVec.getLsbD_and]
 cases a.getLsbD i <;> cases b.getLsbD i <;> cases c.getLsbD i <;> rfl
theorem refInto_calls (w : World) {h : List W32} (hl : h.length = 8) {p : Option Addr} {c : Nat} {b : List UInt8} (hsb : SlB w p b) (hb : b.length = 64) (hc : 64 ≤ c) {kb : Nat} {d : Nat} (hk : Seg w kb 0 (wordsV rootsW)) :
  zz1 Tryz.prog 113 [.agg (wordsV h).toArray, .slice p b.length c, .slice (some ⟨kb, 0, none⟩) 64 d] w fun v w' => v = .agg (wordsV (intoW rootsW h b)).toArray ∧ Ext No w w' := by
 have hkl := hk.lt (by decide)
 refine zq9 Tryz.func113 rfl rfl rfl rfl ?_
 have hX := Ext.refl No w
 refine zq5 (zq0 (wl (zz9 I_ok rfl fun b3 w1 hn3 hb3 hE1 => ?_)))
 have fr3 := Nat.le_trans hX.size hn3
 have hk := hk.zq2 hE1
 have hX := hX.zq4 hE1
 have hb3 : Blk w1 b3 168 (wordsV h) := hb3
 refine wl (zz9 I_ok rfl fun b6 w2 hn6 hb6 hE2 => ?_)
 have ne3_6 : b3 ≠ b6 := Nat.ne_of_lt (Nat.lt_of_lt_of_le hb3.lt hn6)
 have fr6 := Nat.le_trans hX.size hn6
 have hb3 := hb3.zq2 hE2
 have hk := hk.zq2 hE2
 have hX := hX.zq4 hE2
 refine zq3 (zq1 (zq5 (zq0 (wl_p I_ok rfl ?_))))
 refine wl (zx2 Tryz.call147 rfl rfl rfl rfl rfl rfl (out_calls w2 (hsb.zq2 hX) hb hc) fun v3 w3 hr3 => ?_)
 obtain ⟨q, kq, rfl, hq, hqn, hE3⟩ := hr3
 have hb3 := hb3.zq2 hE3
 have hb6 := hb6.zq2 hE3
 have hk := hk.zq2 hE3
 have hX := hX.zq4 hE3
 obtain ⟨bq, rfl, hseg⟩ : ∃ bq, q = some ⟨bq, 0, none⟩ ∧ Seg w3 bq 0 (wordsV (sched b 64)) := by
  rcases hq with ⟨_, h0, _⟩ | ⟨bq, l, h1, h2, _, _, _, h3⟩
  ·omega
  ·refine ⟨bq, h1, ?_⟩
   rw [← h3]
   exact h2.seg.take _
 have hbqn := hqn bq rfl
 have hWl := sched_len b 64
 have hbql := hseg.lt (by intro e; have e := congrArg List.length e; rw [wordsV_len, hWl] at e; cases e)
 have hi : intoW rootsW h b = List.zipWith (· + ·) h (turnsW h rootsW (sched b 64) 64) := rfl
 rw [hi]
 generalize sched b 64 = W at hWl hseg ⊢
 refine wl_p I_ok rfl (zq3 (zq1 (zq5 (zq0 (wl (zj2 I_ok hb3 rfl (by rw [wordsV_len, hl]) (wl (zz9 I_ok rfl fun b8 w4 hn8 hb8 hE4 => ?_))))))))
 have ne3_8 : b3 ≠ b8 := Nat.ne_of_lt (Nat.lt_of_lt_of_le hb3.lt hn8)
 have ne6_8 : b6 ≠ b8 := Nat.ne_of_lt (Nat.lt_of_lt_of_le hb6.lt hn8)
 have fr8 := Nat.le_trans hX.size hn8
 have hb3 := hb3.zq2 hE4
 have hb6 := hb6.zq2 hE4
 have hk := hk.zq2 hE4
 have hseg := hseg.zq2 hE4
 have hX := hX.zq4 hE4
 have hkb8 : ¬ One b8 kb := fun e => by have e : kb = b8 := e; omega
 have hbq8 : ¬ One b8 bq := fun e => by have e : bq = b8 := e; omega
 refine wl (zj1 (l' := wordsV h) I_ok hb8 rfl rfl (by rw [wordsV_len, hl]) (by rw [wordsV_len, hl]; rfl) OneC.h fun w5 hb8 hE5 hs5 => ?_)
 have hb3 := hb3.ext1 hE5 ne3_8
 have hb6 := hb6.ext1 hE5 ne6_8
 have hk := hk.ext hE5 hkb8
 have hseg := hseg.ext hE5 hbq8
 have hX := hX.zx1 hE5 fr8
 refine zq3 (zq1 (zq5 (zq5 (zq0 (wl_p I_ok rfl (zq3 (zq1 (zx4 ?_))))))))
 refine zv3 (α := Nat) [2, 3, 6, 7, 8] rfl (fun z => [(9, .int .i64 (z : Int))]) (fun z u => (z ≤ 64 ∧ Seg u bq 0 (wordsV W) ∧ Seg u kb 0 (wordsV rootsW)) ∧ Blk u b3 168 (wordsV h) ∧ Blk u b6 168 (cellsOf ti168.zero) ∧ Blk u b8 168 (wordsV (turnsW h rootsW W z)) ∧ Ext No w u) (fun z u => 64 - z) (0) rfl ⟨⟨by decide, hseg, hk⟩, hb3, hb6, hb8, hX⟩ ?_
 rintro t w6 ⟨⟨ht, hseg, hk⟩, hb3, hb6, hb8, hX⟩
 refine zq5 (zq5 (zq0 (wl_p I_ok rfl (zq3 (zq1 (c_if rfl (fun hc => ?_) (fun hc => ?_)))))))
 ·have ht : t < 64 := by omega
  obtain ⟨a0, a1, a2, a3, a4, a5, a6, a7, h8⟩ := eight (l := turnsW h rootsW W t) (by rw [turnsW_len, hl])
  rw [h8] at hb8
  have hW := words_getD W (i := t) (by omega)
  have hkt := words_getD rootsW (i := t) ht
  refine zx7 (zq1 (zq5 (zx4 (zq5 (zq0 (wl (st_ix I_ok rfl 1 rfl 4 rfl (by decide) 4 rfl (wl (st_ldb I_ok hb8 rfl rfl (wl_p I_ok rfl (zq3 (zq1 (zq5 ?_)))))))))))))
  refine c_draw rfl 33 [(0, true), (1, true), (2, true), (4, true), (7, true), (11, true), (12, true), (13, true), (14, true), (15, true), (16, true), (17, true), (18, true), (19, true), (20, true), (22, true), (23, true), (24, true), (25, true), (27, true), (28, true), (29, true), (30, true), (3, false), (5, false), (6, true), (8, false), (9, true), (10, true), (21, true), (26, true), (31, true), (32, true)] [] (No) (by kernel_rfl) fun w7 hE7 hs7 => ?_
  have hd8 := hb8
  have hkd := hk
  have hsegd := hseg
  have hb3 := hb3.zq2 hE7
  have hb6 := hb6.zq2 hE7
  have hb8 := hb8.zq2 hE7
  have hk := hk.zq2 hE7
  have hseg := hseg.zq2 hE7
  have hX := hX.zq4 hE7
  have hC : Ext (No) _ w7 := hE7.no
  refine wd_ix I_ok rfl rfl 1 rfl 7 rfl (by decide) 7 rfl (wd_ld I_ok rfl rfl (fun w' hw' => (hd8.zq2 hw').cell rfl) ?_)
  refine wd_k I_ok 4 rfl (wd_ix I_ok rfl rfl 1 rfl 5 rfl (by decide) 5 rfl (wd_ld I_ok rfl rfl (fun w' hw' => (hd8.zq2 hw').cell rfl) ?_))
  refine wd_k I_ok 3 rfl (wd_ix I_ok rfl rfl 1 rfl 6 rfl (by decide) 6 rfl (wd_ld I_ok rfl rfl (fun w' hw' => (hd8.zq2 hw').cell rfl) ?_))
  refine wd_k I_ok 4 rfl (wd_ix I_ok rfl rfl 1 rfl t rfl ht (0 + t) (by omega) (wd_ld I_ok rfl rfl (fun w' hw' => (hkd.zq2 hw') t _ hkt) ?_))
  refine wd_k I_ok 2 rfl (wd_ix I_ok rfl rfl 1 rfl t rfl ht (0 + t) (by omega) (wd_ld I_ok rfl rfl (fun w' hw' => (hsegd.zq2 hw') t _ hW) ?_))
  refine wd_l rfl (zx2 Tryz.call148 rfl rfl rfl rfl rfl rfl (turned6_calls w7 _) fun v8 w8 hr8 => ⟨(by obtain ⟨rfl, rfl⟩ := hr8; exact hC), ?_⟩)
  obtain ⟨rfl, rfl⟩ := hr8
  have hC := hC
  refine wd_l rfl (zx2 Tryz.call148 rfl rfl rfl rfl rfl rfl (turned11_calls w8 _) fun v9 w9 hr9 => ⟨(by obtain ⟨rfl, rfl⟩ := hr9; exact hC), ?_⟩)
  obtain ⟨rfl, rfl⟩ := hr9
  have hC := hC
  refine wd_k I_ok 1 rfl (wd_l rfl (zx2 Tryz.call148 rfl rfl rfl rfl rfl rfl (turned25_calls w9 _) fun v10 w10 hr10 => ⟨(by obtain ⟨rfl, rfl⟩ := hr10; exact hC), ?_⟩))
  obtain ⟨rfl, rfl⟩ := hr10
  refine wd_k I_ok 5 rfl ?_
  rw [w_xor, w_xor, w_not, w_and, w_and, w_or, w_add, w_add, w_add, w_add, ← mix3, ch_eq]
  refine wd_k I_ok 1 rfl (wd_sw (zv0 (zq1 (zq5 (zq0 (wl (st_ix I_ok rfl 1 rfl 0 rfl (by decide) 0 rfl (wl (st_ldb I_ok hb8 rfl rfl (wl_p I_ok rfl (zq3 (zq1 (zq5 ?_)))))))))))))
  refine c_draw rfl 25 [(0, true), (2, true), (5, true), (8, true), (9, true), (10, true), (11, true), (12, true), (13, true), (14, true), (15, true), (16, true), (17, true), (18, true), (19, true), (20, true), (21, true), (22, true), (1, false), (3, false), (4, true), (6, false), (7, true), (23, true), (24, true)] [] (No) (by kernel_rfl) fun w11 hE11 hs11 => ?_
  have hd8 := hb8
  have hb3 := hb3.zq2 hE11
  have hb6 := hb6.zq2 hE11
  have hb8 := hb8.zq2 hE11
  have hk := hk.zq2 hE11
  have hseg := hseg.zq2 hE11
  have hX := hX.zq4 hE11
  have hC : Ext (No) _ w11 := hE11.no
  refine wd_k I_ok 4 rfl (wd_ix I_ok rfl rfl 1 rfl 1 rfl (by decide) 1 rfl (wd_ld I_ok rfl rfl (fun w' hw' => (hd8.zq2 hw').cell rfl) ?_))
  refine wd_k I_ok 2 rfl (wd_ix I_ok rfl rfl 1 rfl 2 rfl (by decide) 2 rfl (wd_ld I_ok rfl rfl (fun w' hw' => (hd8.zq2 hw').cell rfl) ?_))
  refine wd_k I_ok 2 rfl (wd_ix I_ok rfl rfl 1 rfl 1 rfl (by decide) 1 rfl (wd_ld I_ok rfl rfl (fun w' hw' => (hd8.zq2 hw').cell rfl) ?_))
  refine wd_ix I_ok rfl rfl 1 rfl 2 rfl (by decide) 2 rfl (wd_ld I_ok rfl rfl (fun w' hw' => (hd8.zq2 hw').cell rfl) ?_)
  refine wd_k I_ok 2 rfl (wd_l rfl (zx2 Tryz.call148 rfl rfl rfl rfl rfl rfl (turned2_calls w11 _) fun v12 w12 hr12 => ⟨(by obtain ⟨rfl, rfl⟩ := hr12; exact hC), ?_⟩))
  obtain ⟨rfl, rfl⟩ := hr12
  have hC := hC
  refine wd_l rfl (zx2 Tryz.call148 rfl rfl rfl rfl rfl rfl (turned13_calls w12 _) fun v13 w13 hr13 => ⟨(by obtain ⟨rfl, rfl⟩ := hr13; exact hC), ?_⟩)
  obtain ⟨rfl, rfl⟩ := hr13
  have hC := hC
  refine wd_k I_ok 1 rfl (wd_l rfl (zx2 Tryz.call148 rfl rfl rfl rfl rfl rfl (turned22_calls w13 _) fun v14 w14 hr14 => ⟨(by obtain ⟨rfl, rfl⟩ := hr14; exact hC), ?_⟩))
  obtain ⟨rfl, rfl⟩ := hr14
  refine wd_k I_ok 2 rfl ?_
  rw [w_xor, w_xor, w_and, w_and, w_and, w_or, w_or, w_add, ← mix3, maj_eq]
  refine wd_k I_ok 1 rfl (wd_sw (zv0 (zq1 (zq0 (wl_p I_ok rfl ?_)))))
  rw [w_add]
  refine wl (st_ix I_ok rfl 1 rfl 0 rfl (by decide) 0 rfl (wl (st_ldb I_ok hb8 rfl rfl (wl (st_ix I_ok rfl 1 rfl 1 rfl (by decide) 1 rfl (wl (st_ldb I_ok hb8 rfl rfl (wl (st_ix I_ok rfl 1 rfl 2 rfl (by decide) 2 rfl ?_)))))))))
  refine wl (st_ldb I_ok hb8 rfl rfl (wl (st_ix I_ok rfl 1 rfl 3 rfl (by decide) 3 rfl (wl (st_ldb I_ok hb8 rfl rfl (wl_p I_ok rfl ?_))))))
  rw [w_add]
  refine wl (st_ix I_ok rfl 1 rfl 4 rfl (by decide) 4 rfl (wl (st_ldb I_ok hb8 rfl rfl (wl (st_ix I_ok rfl 1 rfl 5 rfl (by decide) 5 rfl (wl (st_ldb I_ok hb8 rfl rfl (wl (st_ix I_ok rfl 1 rfl 6 rfl (by decide) 6 rfl ?_)))))))))
  refine wl (st_ldb I_ok hb8 rfl rfl ?_)
  refine wl (st_bd I_ok rfl (by simp [partsOk]; decide) (l' := wordsV [(a7 + mixW a4 [6, 11, 25] + (a6 ^^^ (a4 &&& (a5 ^^^ a6))) + rootsW.getD t 0 + W.getD t 0) + (mixW a0 [2, 13, 22] + ((a0 &&& a1) ||| (a2 &&& (a0 ||| a1)))), a0, a1, a2, a3 + (a7 + mixW a4 [6, 11, 25] + (a6 ^^^ (a4 &&& (a5 ^^^ a6))) + rootsW.getD t 0 + W.getD t 0), a4, a5, a6]) rfl ?_)
  refine wl (zj1 (l' := wordsV [(a7 + mixW a4 [6, 11, 25] + (a6 ^^^ (a4 &&& (a5 ^^^ a6))) + rootsW.getD t 0 + W.getD t 0) + (mixW a0 [2, 13, 22] + ((a0 &&& a1) ||| (a2 &&& (a0 ||| a1)))), a0, a1, a2, a3 + (a7 + mixW a4 [6, 11, 25] + (a6 ^^^ (a4 &&& (a5 ^^^ a6))) + rootsW.getD t 0 + W.getD t 0), a4, a5, a6]) I_ok hb8 rfl rfl rfl rfl OneC.h fun w15 hb8 hE15 hs15 => ?_)
  have hb3 := hb3.ext1 hE15 ne3_8
  have hb6 := hb6.ext1 hE15 ne6_8
  have hk := hk.ext hE15 hkb8
  have hseg := hseg.ext hE15 hbq8
  have hX := hX.zx1 hE15 fr8
  have hb8 : Blk w15 b8 168 (wordsV (turnsW h rootsW W (t + 1))) := by
   rw [turnsW, h8]
   exact hb8
  refine zq3 (zx6 (zq1 (zq0 (wl_p I_ok rfl ?_))))
  rw [IntWalk.i64_in _ (by omega)]
  refine zq3 ?_
  exact zv1 (t + 1) rfl ⟨⟨by omega, hseg, hk⟩, hb3, hb6, hb8, hX⟩ (by first | omega | (dsimp only; omega))
 ·have h0 : t = 64 := by omega
  subst h0
  have hLl : (turnsW h rootsW W 64).length = 8 := by rw [turnsW_len, hl]
  generalize turnsW h rootsW W 64 = L at hb8 hLl ⊢
  refine c_exit (zx3 (zx3 (zz0 (zq1 (zq5 (zq5 (zq0 (wl_p I_ok rfl (zq3 (zq1 (zx4 ?_)))))))))))
  refine zv3 (α := Nat) [3, 6, 8] rfl (fun z => [(14, .int .i64 (z : Int))]) (fun z u => (z ≤ 8) ∧ Blk u b3 168 (wordsV (List.zipWith (· + ·) (h.take z) (L.take z) ++ h.drop z)) ∧ Blk u b6 168 (cellsOf ti168.zero) ∧ Blk u b8 168 (wordsV L) ∧ Ext No w u) (fun z u => 8 - z) (0) rfl ⟨by decide, hb3, hb6, hb8, hX⟩ ?_
  rintro i w16 ⟨hi8, hb3, hb6, hb8, hX⟩
  refine zq5 (zq5 (zq0 (wl_p I_ok rfl (zq3 (zq1 (c_if rfl (fun hc => ?_) (fun hc => ?_)))))))
  ·have hi8 : i < 8 := by omega
   have h1 : i < h.length := by omega
   have h2 : i < L.length := by omega
   have hLw := wordsV_get L h2
   refine zx7 (zq1 (zq5 (zx4 (c_draw rfl 9 [(0, true), (1, true), (2, true), (3, true), (4, true), (5, true), (6, true), (7, true), (8, true)] [9] (No) (by kernel_rfl) fun w17 hE17 hs17 => ?_))))
   have hd3 := hb3
   have hd8 := hb8
   have hb3 := hb3.zq2 hE17
   have hb6 := hb6.zq2 hE17
   have hb8 := hb8.zq2 hE17
   have hX := hX.zq4 hE17
   refine wd_k I_ok 2 rfl (wd_ix I_ok rfl rfl 1 rfl i rfl hi8 (0 + i * 1) rfl (wd_ld I_ok rfl rfl (fun w' hw' => (hd3.zq2 hw').cell (i := 0 + i * 1) (v := wordV h[i]) (zip_at h1 h2)) ?_))
   refine wd_k I_ok 1 rfl (wd_ix I_ok rfl rfl 1 rfl i rfl hi8 (0 + i) (by omega) (wd_ld I_ok rfl rfl (fun w' hw' => (hd8.zq2 hw').cell (i := 0 + i) (v := wordV L[i]) (by rw [Nat.zero_add]; exact hLw)) ?_))
   refine wd_k I_ok 1 rfl ?_
   rw [w_add]
   refine wd_ix I_ok rfl rfl 1 rfl i rfl hi8 (0 + i * 1) rfl (wd_sw ?_)
   refine wb rfl (st_set I_ok hb3 rfl rfl (by rw [wordsV_len, List.length_append, List.length_zipWith, List.length_take, List.length_take, List.length_drop]; omega) fun w18 hb3 hE18 hs18 => ?_)
   have hb6 := hb6.ext1 hE18 ne3_6.symm
   have hb8 := hb8.ext1 hE18 ne3_8.symm
   have hX := hX.zx1 hE18 fr3
   rw [zip_set h1 h2] at hb3
   refine zv0 (zx6 (zq1 (zq0 (wl_p I_ok rfl ?_))))
   rw [IntWalk.i64_in _ (by omega)]
   refine zq3 ?_
   exact zv1 (i + 1) rfl ⟨by omega, hb3, hb6, hb8, hX⟩ (by first | omega | (dsimp only; omega))
  ·have h0 : i = 8 := by omega
   subst h0
   have e1 : h.take 8 = h := List.take_of_length_le (by omega)
   have e2 : L.take 8 = L := List.take_of_length_le (by omega)
   have e3 : h.drop 8 = [] := List.drop_eq_nil_of_le (by omega)
   rw [e1, e2, e3, List.append_nil] at hb3
   have hZ : (wordsV (List.zipWith (· + ·) h L)).length = 8 := by rw [wordsV_len, List.length_zipWith]; omega
   refine c_exit (zx3 (zx3 (zz0 (zq1 (zq5 (zq0 (wl (zj2 I_ok hb3 rfl hZ (wl (zj1 (l' := wordsV (List.zipWith (· + ·) h L)) I_ok hb6 rfl rfl hZ (by rw [hZ]; rfl) OneC.h fun w19 hb6 hE19 hs19 => ?_))))))))))
   have hX := hX.zx1 hE19 fr6
   refine zq3 (zq1 (zj0 (f_ret [_] ⟨⟨b6, 0, rfl, ld_all I_ok rfl rfl hb6.seg (by rw [hZ]; rfl)⟩, trivial⟩ ?_)))
   exact ⟨rfl, hX⟩
def padJ (l : List UInt8) (j : Nat) : List UInt8 := l ++ (128 :: List.replicate j 0)
theorem padJ_len (l : List UInt8) (j : Nat) : (padJ l j).length = l.length + 1 + j := by simp [padJ]; omega
theorem padJ_succ (l : List UInt8) (j : Nat) : padJ l (j + 1) = padJ l j ++ [0] := by rw [padJ, List.replicate_succ', padJ]; simp
theorem refPad_calls (w : World) {p : Option Addr} {c : Nat} {l : List UInt8} (h : SlB w p l) (hl : l.length < 100000000) :
  zz1 Tryz.prog 111 [.slice p l.length c] w fun v w' => ∃ q k, v = .slice q (padW l).length k ∧ Own w' q (padW l).length k 5 1 (zq6 (padW l)) ∧ (∀ b, OwnB q b → w.heap.size ≤ b) ∧ Ext No w w' := by
 obtain ⟨K, hK⟩ : ∃ K, K = (l.length + 72) / 64 * 64 - 8 - (l.length + 1) := ⟨_, rfl⟩
 have hpad : padJ l K ++ be 8 (8 * l.length) = padW l := by rw [padW, ← hK, padJ]; simp
 refine zq9 Tryz.func111 rfl rfl rfl rfl ?_
 have hX := Ext.refl No w
 refine zq5 (zq0 (wl_p I_ok rfl (zq3 (zq1 (zq5 (zq0 (wl_p I_ok rfl (wl (st_bs I_ok rfl 1 rfl rfl rfl (by decide) (by decide) (by simp [partsOk]) rfl fun b5 w1 hn5 hb5 hE1 hs1 => ?_)))))))))
 have hX := hX.zq4 hE1
 have hb5 : Blk w1 b5 5 (zq6 [128]) := hb5
 have hX0 := hX
 refine wl (zx2 Tryz.call146 rfl rfl rfl rfl rfl rfl (both_calls w1 (m := [128]) (h.zq2 hX) ⟨rfl, .inr ⟨b5, 0, rfl, hb5.seg⟩⟩ (by omega) (by decide)) fun v2 w2 hr2 => ?_)
 obtain ⟨q, k, rfl, hq, hqn, hE2⟩ := hr2
 have hX := hX.zq4 hE2
 have hqn : ∀ x, OwnB q x → w.heap.size ≤ x := fun x hx => Nat.le_trans hX0.size (hqn x hx)
 refine wl_p I_ok rfl (zq3 (zq1 (zq5 (zx4 ?_))))
 refine zv3 (α := Nat × Option Addr × Nat) [0] rfl (fun z => [(3, .slice z.2.1 (padJ l z.1).length z.2.2)]) (fun z u => (z.1 ≤ K ∧ Own u z.2.1 (padJ l z.1).length z.2.2 5 1 (zq6 (padJ l z.1)) ∧ (∀ x, OwnB z.2.1 x → w.heap.size ≤ x)) ∧ Ext No w u) (fun z u => K - z.1) (0, q, k) rfl ⟨⟨Nat.zero_le _, hq, hqn⟩, hX⟩ ?_
 rintro ⟨j, q, k⟩ w3 ⟨⟨hj, hq, hqn⟩, hX⟩
 try dsimp only
 dsimp only at hj hq hqn
 have hll := padJ_len l j
 have e8 : (IntKind.i64.wrap (((padJ l j).length : Int) + 8)).tmod 64 = (((l.length + 9 + j) % 64 : Nat) : Int) := by
  rw [IntWalk.i64_in _ (by omega), Int.tmod_eq_emod_of_nonneg (by omega)]
  omega
 refine zq5 (zq5 (zq0 (wl_p I_ok rfl ?_)))
 rw [e8]
 refine wl_p I_ok rfl (zq3 (zq1 (c_if rfl (fun hc => ?_) (fun hc => ?_))))
 ·have hjK : j < K := by omega
  refine zx7 (zq1 (zx4 (zq0 (wl_p I_ok rfl (wl (st_bs I_ok rfl 1 rfl rfl rfl (by decide) (by decide) (by simp [partsOk]) rfl fun b13 w4 hn13 hb13 hE4 hs4 => ?_))))))
  have hq := hq.ext hE4 fun _ _ => id
  have hX := hX.zq4 hE4
  have hb13 : Blk w4 b13 5 (zq6 [0]) := hb13
  have hX1 := hX
  refine wl (zv2 I_ok rfl 1 1 rfl rfl rfl (by decide) hq (Src.slice (m := 1) ⟨rfl, .inr ⟨b13, 0, rfl, hb13.seg⟩⟩ OneC.h) (by dsimp only [maxLen]; omega) (by dsimp only; omega) fun p5 c5 w5 ho5 hE5 hB5 => ?_)
  have hX := hX1.trans hE5 fun y hy hF => by have := hqn y hF; omega
  have hqn2 : ∀ x, OwnB p5 x → w.heap.size ≤ x := fun x hx => (hB5 x hx).elim (fun h => hqn x h) fun h => Nat.le_trans hX1.size h
  have e9 := padJ_succ l j
  have e10 : (padJ l j).length + 1 = (padJ l (j + 1)).length := by rw [padJ_len, padJ_len]; omega
  have hq2 : Own w5 p5 (padJ l (j + 1)).length c5 5 1 (zq6 (padJ l (j + 1))) := by
   rw [← e10, e9, zz8]
   exact ho5
  dsimp only
  rw [e10]
  refine wl_p I_ok rfl (zq3 ?_)
  exact zx6 (zv1 (j + 1, p5, c5) rfl ⟨⟨by dsimp only; omega, hq2, hqn2⟩, hX⟩ (by first | omega | (dsimp only; omega)))
 ·have h0 : j = K := by omega
  subst h0
  refine c_exit (zx3 (zx3 (zz0 (zq1 (zq5 (zq0 (wl_p I_ok rfl ?_)))))))
  rw [show IntKind.u64.wrap (IntKind.u64.wrap (l.length : Int) * 8) = ((8 * l.length : Nat) : Int) from by rw [IntWalk.u64_in (l.length : Int) (by omega), IntWalk.u64_in _ (by omega)]; omega]
  refine wl (zx2 Tryz.call106 rfl rfl rfl rfl rfl rfl (high_calls 8 (by decide) w3 (8 * l.length) (by omega)) fun v6 w6 hr6 => ?_)
  obtain ⟨qh, kh, rfl, hqh, hqhn, hE6⟩ := hr6
  have hq := hq.ext hE6 fun _ _ => id
  have hX := hX.zq4 hE6
  rw [show Value.slice qh 8 kh = .slice qh (be 8 (8 * l.length)).length kh from by rw [zj5]]
  have hX0 := hX
  refine wl (zx2 Tryz.call146 rfl rfl rfl rfl rfl rfl (both_calls w6 hq.sl (by rw [SlB, zj5]; exact hqh.sl) (by omega) (by rw [zj5]; decide)) fun v7 w7 hr7 => ?_)
  obtain ⟨r, kr, rfl, hr, hrn, hE7⟩ := hr7
  have hX := hX.zq4 hE7
  rw [hpad] at hr ⊢
  refine wl_p I_ok rfl (zq3 (zq1 (zj0 (zz2 rfl rfl ?_))))
  exact ⟨r, kr, rfl, hr, fun b hb => Nat.le_trans hX0.size (hrn b hb), hX⟩
theorem flat4_get (H : List W32) {j : Nat} (hj : j < 4 * H.length) : (H.flatMap fun x => be 4 x.toNat)[j]? = (be 4 (H.getD (j / 4) 0).toNat)[j % 4]? := by
 induction H generalizing j with
 | nil => simp at hj
 | cons x r ih =>
  rw [List.flatMap_cons]
  by_cases h4 : j < 4
  ·rw [List.getElem?_append_left (by rw [zj5]; exact h4), Nat.div_eq_of_lt h4, Nat.mod_eq_of_lt h4]
   rfl
  ·obtain ⟨i, rfl⟩ : ∃ i, j = i + 4 := ⟨j - 4, by omega⟩
   rw [List.getElem?_append_right (by rw [zj5]; omega), zj5, Nat.add_sub_cancel, ih (by rw [List.length_cons] at hj; omega), Nat.add_mod_right, Nat.add_div_right _ (by decide)]
   rfl
theorem bytes_set (D : List UInt8) {j n : Nat} (h1 : j < D.length) (h2 : j < n) : (zq6 (D.take j ++ List.replicate (n - j) 0)).set (0 + j * 1) (byteV D[j]) = zq6 (D.take (j + 1) ++ List.replicate (n - (j + 1)) 0) := by
 have e1 : (D.take j).length = j := by rw [List.length_take]; omega
 have e2 : n - j = (n - (j + 1)) + 1 := by omega
 rw [Nat.zero_add, Nat.mul_one, zq6, ← List.map_set, List.set_append_right _ _ (by omega), e1, Nat.sub_self, e2, List.replicate_succ, List.set_cons_zero, List.take_succ_eq_append_getElem h1, List.append_assoc]
 rfl
theorem refSum_calls (w : World) {p : Option Addr} {c : Nat} {l : List UInt8} (h : SlB w p l) (hl : l.length < 100000000) :
  zz1 Tryz.prog 56 [.slice p l.length c] w fun v w' => v = .agg (zq6 (sumW l)).toArray ∧ Ext No w w' := by
 refine zq9 Tryz.func56 rfl rfl rfl rfl ?_
 have hX := Ext.refl No w
 refine zq5 (zq0 (wl (zz9 I_ok rfl fun b2 w1 hn2 hb2 hE1 => ?_)))
 have fr2 := Nat.le_trans hX.size hn2
 have hX := hX.zq4 hE1
 refine zq3 (zq1 (zq5 (zq0 (wl (st_bd I_ok rfl (by simp [partsOk]; decide) (l' := wordsV startW) rfl (wl (zz9 I_ok rfl fun b3 w2 hn3 hb3 hE2 => ?_)))))))
 have ne2_3 : b2 ≠ b3 := Nat.ne_of_lt (Nat.lt_of_lt_of_le hb2.lt hn3)
 have fr3 := Nat.le_trans hX.size hn3
 have hb2 := hb2.zq2 hE2
 have hX := hX.zq4 hE2
 refine wl (zj1 (l' := wordsV startW) I_ok hb3 rfl rfl rfl rfl OneC.h fun w3 hb3 hE3 hs3 => ?_)
 have hb2 := hb2.ext1 hE3 ne2_3
 have hX := hX.zx1 hE3 fr3
 refine zq3 (zq1 (zq5 (zq0 (wl_p I_ok rfl ?_))))
 have hb3l := hb3.lt
 have hb2l := hb2.lt
 refine wl (zx2 Tryz.call111 rfl rfl rfl rfl rfl rfl (refPad_calls w3 (h.zq2 hX) hl) fun v4 w4 hr4 => ?_)
 obtain ⟨q, kq, rfl, hq, hqn, hE4⟩ := hr4
 have hb2 := hb2.zq2 hE4
 have hb3 := hb3.zq2 hE4
 have hX := hX.zq4 hE4
 have hPl : (padW l).length % 64 = 0 := by rw [padW_len]; omega
 have hPm : (padW l).length < 200000000 := by rw [padW_len]; omega
 have hsum : sumW l = (blocksW rootsW startW (padW l) ((padW l).length / 64)).flatMap fun x => be 4 x.toNat := rfl
 rw [hsum]
 have hcap := hq.cap
 have hP : SlB w4 q (padW l) := hq.sl
 have hqb3 : ∀ b off, q = some ⟨b, off, none⟩ → ¬ One b3 b := fun b off e hb => by
  have hb : b = b3 := hb
  rcases hq with ⟨_, h0, _⟩ | ⟨bq, _, h1, _⟩
  ·rw [padW_len] at h0; omega
  ·rw [h1] at e
   cases e
   have := hqn b h1
   omega
 clear hq
 generalize padW l = P at hP hPl hPm hcap ⊢
 have hb3l := Nat.lt_of_lt_of_le hb3l hE4.size
 refine wl_p I_ok rfl (zq3 (zq1 (zq5 (zq0 (wl (zx2 Tryz.call112 rfl rfl rfl rfl rfl rfl (known_calls w4) fun v5 w5 hr5 => ?_))))))
 obtain ⟨bk, rfl, hnk, hbk, hE5⟩ := hr5
 have hb2 := hb2.zq2 hE5
 have hb3 := hb3.zq2 hE5
 have hP := hP.zq2 hE5
 have hX := hX.zq4 hE5
 have hsk : Seg w5 bk 0 (wordsV rootsW) := hbk.seg
 have hkb3 : ¬ One b3 bk := fun e => by have e : bk = b3 := e; omega
 refine wl_p I_ok rfl (zq3 (zq1 (zq5 (zq5 (zq0 (wl_p I_ok rfl (zq3 (zq1 (zx4 ?_)))))))))
 refine zv3 (α := Nat) [2, 3, 4, 5] rfl (fun z => [(6, .int .i64 ((64 * z : Nat) : Int))]) (fun z u => (64 * z ≤ P.length ∧ SlB u q P ∧ Seg u bk 0 (wordsV rootsW)) ∧ Blk u b2 31 (cellsOf ti31.zero) ∧ Blk u b3 168 (wordsV (blocksW rootsW startW P z)) ∧ Ext No w u) (fun z u => P.length - 64 * z) (0) rfl ⟨⟨Nat.zero_le _, hP, hsk⟩, hb2, hb3, hX⟩ ?_
 rintro k w6 ⟨⟨hk, hP, hsk⟩, hb2, hb3, hX⟩
 refine zq5 (zq5 (zq0 (wl_p I_ok rfl (zq3 (zq1 (c_if rfl (fun hc => ?_) (fun hc => ?_)))))))
 ·have hk64 : 64 * k + 64 ≤ P.length := by omega
  have htl : ((P.drop (64 * k)).take 64).length = 64 := by rw [List.length_take, List.length_drop]; omega
  have hBl : (blocksW rootsW startW P k).length = 8 := by rw [blocksW_len]; rfl
  refine zx7 (zq1 (zq5 (zx4 (c_draw rfl 8 [(0, true), (1, true), (2, true), (3, true), (4, true), (5, true), (6, true), (7, false)] [8] (No) (by kernel_rfl) fun w7 hE7 hs7 => ?_))))
  have hd3 := hb3
  have hb2 := hb2.zq2 hE7
  have hb3 := hb3.zq2 hE7
  have hP := hP.zq2 hE7
  have hsk := hsk.zq2 hE7
  have hX := hX.zq4 hE7
  have hC : Ext (No) _ w7 := hE7.no
  refine wd_ldN I_ok rfl rfl (fun w' hw' => (hd3.zq2 hw').seg) (by rw [wordsV_len, hBl]) ?_
  refine wd_k I_ok 4 rfl ?_
  rw [IntWalk.i64_in _ (by omega)]
  refine wd_sl I_ok rfl rfl (64 * k) (64 * k + 64) kq 1 rfl (.inr ⟨rfl, rfl⟩) (.inl (congrArg some (by omega))) (.inl (congrArg some (by omega))) (by omega) (by omega) (Nat.le_refl _) ?_
  dsimp only
  rw [show 64 * k + 64 - 64 * k = ((P.drop (64 * k)).take 64).length from by rw [htl]; omega]
  refine wd_k I_ok 1 rfl ?_
  have hsp : SlB w7 (slBase q (64 * k) kq 1) ((P.drop (64 * k)).take 64) := by
   have e := Sl.slice hP (64 * k) (64 * k + 64) kq (by omega) (by omega) (by omega)
   rw [Nat.mul_one, Nat.mul_one, bytesU_drop, bytesU_take, show 64 * k + 64 - 64 * k = 64 from by omega] at e
   rw [SlB, htl]
   exact e
  refine wd_l rfl (zx2 Tryz.call113 rfl rfl rfl rfl rfl rfl (refInto_calls w7 hBl (b := (P.drop (64 * k)).take 64) hsp htl (by omega) hsk) fun v8 w8 hr8 => ⟨(by obtain ⟨rfl, hE8⟩ := hr8; exact hC.zq4 hE8), ?_⟩)
  obtain ⟨rfl, hE8⟩ := hr8
  have hb2 := hb2.zq2 hE8
  have hb3 := hb3.zq2 hE8
  have hP := hP.zq2 hE8
  have hsk := hsk.zq2 hE8
  have hX := hX.zq4 hE8
  refine wd_sw ?_
  refine wb rfl (zj1 (l' := wordsV (intoW rootsW (blocksW rootsW startW P k) ((P.drop (64 * k)).take 64))) I_ok hb3 rfl rfl (by rw [wordsV_len, intoW_len, hBl]) (by rw [wordsV_len, intoW_len, hBl, wordsV_len, hBl]) OneC.h fun w9 hb3 hE9 hs9 => ?_)
  have hb2 := hb2.ext1 hE9 ne2_3
  have hP := hP.ext hE9 hqb3
  have hsk := hsk.ext hE9 hkb3
  have hX := hX.zx1 hE9 fr3
  refine zv0 (zx6 (zq1 (zq0 (wl_p I_ok rfl ?_))))
  rw [IntWalk.i64_in _ (by omega)]
  refine zq3 ?_
  exact zv1 (k + 1) rfl ⟨⟨by omega, hP, hsk⟩, hb2, hb3, hX⟩ (by first | omega | (dsimp only; omega))
 ·have h0 : k = P.length / 64 := by omega
  subst h0
  have hHl : (blocksW rootsW startW P (P.length / 64)).length = 8 := by rw [blocksW_len]; rfl
  generalize blocksW rootsW startW P (P.length / 64) = H at hb3 hHl ⊢
  have hDl := flat4_len H
  have hDg : ∀ j, j < 4 * H.length → (H.flatMap fun x => be 4 x.toNat)[j]? = (be 4 (H.getD (j / 4) 0).toNat)[j % 4]? := fun j => flat4_get H
  generalize (H.flatMap fun x => be 4 x.toNat) = D at hDl hDg ⊢
  refine c_exit (zx3 (zx3 (zz0 (zq1 (zq5 (zq0 (wl (zz9 I_ok rfl fun b7 w10 hn7 hb7 hE10 => ?_))))))))
  have ne2_7 : b2 ≠ b7 := Nat.ne_of_lt (Nat.lt_of_lt_of_le hb2.lt hn7)
  have ne3_7 : b3 ≠ b7 := Nat.ne_of_lt (Nat.lt_of_lt_of_le hb3.lt hn7)
  have fr7 := Nat.le_trans hX.size hn7
  have hb2 := hb2.zq2 hE10
  have hb3 := hb3.zq2 hE10
  have hX := hX.zq4 hE10
  have hb7 : Blk w10 b7 31 (zq6 (D.take 0 ++ List.replicate (32 - 0) 0)) := hb7
  refine zq3 (zq1 (zq5 (zq5 (zq0 (wl_p I_ok rfl (zq3 (zq1 (zx4 ?_))))))))
  refine zv3 (α := Nat) [2, 3, 7] rfl (fun z => [(8, .int .i64 (z : Int))]) (fun z u => (z ≤ 32) ∧ Blk u b2 31 (cellsOf ti31.zero) ∧ Blk u b3 168 (wordsV H) ∧ Blk u b7 31 (zq6 (D.take z ++ List.replicate (32 - z) 0)) ∧ Ext No w u) (fun z u => 32 - z) (0) rfl ⟨by decide, hb2, hb3, hb7, hX⟩ ?_
  rintro j w11 ⟨hj, hb2, hb3, hb7, hX⟩
  refine zq5 (zq5 (zq0 (wl_p I_ok rfl (zq3 (zq1 (c_if rfl (fun hc => ?_) (fun hc => ?_)))))))
  ·have hj32 : j < 32 := by omega
   have hDj := hDg j (by omega)
   rw [List.getElem?_eq_getElem (by omega)] at hDj
   have hHj := words_getD H (i := j / 4) (by omega)
   refine zx7 (zq1 (zq5 (zx4 (zq0 (wl_p I_ok rfl ?_)))))
   rw [show IntKind.i64.wrap ((j : Int).tdiv 4) = ((j / 4 : Nat) : Int) from by rw [IntWalk.i64_quo _ _ (by omega)]; omega]
   refine wl (st_ix I_ok rfl 1 rfl (j / 4) rfl (by omega) (0 + j / 4) (by omega) (wl (st_ld I_ok rfl (hb3.cell (i := 0 + j / 4) (v := wordV (H.getD (j / 4) 0)) (by rw [Nat.zero_add]; exact hHj)) (wl_p I_ok rfl ?_))))
   rw [show IntKind.u64.wrap ((H.getD (j / 4) 0).toNat : Int) = ((H.getD (j / 4) 0).toNat : Int) from by have := (H.getD (j / 4) 0).isLt; rw [IntWalk.u64_in _ (by omega)]]
   refine wl (zx2 Tryz.call106 rfl rfl rfl rfl rfl rfl (high_calls 4 (by decide) w11 (H.getD (j / 4) 0).toNat (by have := (H.getD (j / 4) 0).isLt; omega)) fun v12 w12 hr12 => ?_)
   obtain ⟨qh, kh, rfl, hqh, hqhn, hE12⟩ := hr12
   have hb2 := hb2.zq2 hE12
   have hb3 := hb3.zq2 hE12
   have hb7 := hb7.zq2 hE12
   have hX := hX.zq4 hE12
   obtain ⟨bh, rfl, hsh⟩ : ∃ bh, qh = some ⟨bh, 0, none⟩ ∧ Seg w12 bh 0 (zq6 (be 4 (H.getD (j / 4) 0).toNat)) := by
    rcases hqh with ⟨_, h0, _⟩ | ⟨bh, l, h1, h2, _, _, _, h3⟩
    ·omega
    ·refine ⟨bh, h1, ?_⟩
     rw [← h3]
     exact h2.seg.take _
   have hbj : (zq6 (be 4 (H.getD (j / 4) 0).toNat))[j % 4]? = some (byteV (D[j]'(by omega))) := by rw [zq6, List.getElem?_map, ← hDj]; rfl
   refine wl_p I_ok rfl ?_
   rw [show ((j : Int).tmod 4) = ((j % 4 : Nat) : Int) from rfl]
   refine wl (st_ix I_ok rfl 1 rfl (j % 4) rfl (by omega) (0 + j % 4) (by omega) (wl (st_ld I_ok rfl (hsh (j % 4) _ hbj) (wl (st_ix I_ok rfl 1 rfl j rfl hj32 (0 + j * 1) rfl ?_)))))
   refine wl (st_set I_ok hb7 rfl rfl (by rw [zx0, List.length_append, List.length_take, List.length_replicate]; omega) fun w13 hb7 hE13 hs13 => ?_)
   have hb2 := hb2.ext1 hE13 ne2_7
   have hb3 := hb3.ext1 hE13 ne3_7
   have hX := hX.zx1 hE13 fr7
   rw [bytes_set D (by omega) hj32] at hb7
   refine zq3 (zx6 (zq1 (zq0 (wl_p I_ok rfl ?_))))
   rw [IntWalk.i64_in _ (by omega)]
   refine zq3 ?_
   exact zv1 (j + 1) rfl ⟨by omega, hb2, hb3, hb7, hX⟩ (by first | omega | (dsimp only; omega))
  ·have h0 : j = 32 := by omega
   subst h0
   have e1 : D.take 32 ++ List.replicate (32 - 32) 0 = D := by rw [List.take_of_length_le (by omega)]; simp
   rw [e1] at hb7
   have hD32 : (zq6 D).length = 32 := by rw [zx0]; omega
   refine c_exit (zx3 (zx3 (zz0 (zq1 (zq5 (zq0 (wl (zj2 I_ok hb7 rfl hD32 (wl (zj1 (l' := zq6 D) I_ok hb2 rfl rfl hD32 (by rw [hD32]; rfl) OneC.h fun w14 hb2 hE14 hs14 => ?_))))))))))
   have hX := hX.zx1 hE14 fr2
   refine zq3 (zq1 (zj0 (f_ret [_] ⟨⟨b2, 0, rfl, ld_all I_ok rfl rfl hb2.seg (by rw [hD32]; rfl)⟩, trivial⟩ ?_)))
   exact ⟨rfl, hX⟩
end Go.Proofs.YtpcdihkcenfgkaaGreatDoor
namespace Go.Vc
def strU (l : List UInt8) : ByteArray := ⟨l.toArray⟩
theorem strU_size (l : List UInt8) : (strU l).size = l.length := rfl
theorem strU_of (s : ByteArray) : strU s.data.toList = s := by obtain ⟨⟨x⟩⟩ := s; rfl
theorem strU_inj {a b : List UInt8} (h : strU a = strU b) : a = b := by
 have e := congrArg (fun s : ByteArray => s.data.toList) h
 exact e
section
variable {P : Program} {I : Info} {f : Fs} {ops : Array Oper} {o : Oper} {env : Env} {w : World}
def b2sE (I : Info) (n : Nat) (ops : Array Oper) (env : Env) (o : Oper) : Option (Option Addr × Nat × Nat × Nat) :=
  match pre n ops env o with
  | false => none
  | true => match o.dst with
    | some d => match o.op with
      | .convert s t x => match lkT I s with
        | some y => match y.desc with
          | .slice e => match lkT I e with
            | some g => match g.desc with
              | .int .u8 => match lkT I t with
                | some z => match z.desc with
                  | .string => match evO env x with
                    | some (.slice p m c) => some (p, m, c, d)
                    | _ => none
                  | _ => none
                | none => none
              | _ => none
            | none => none
          | _ => none
        | none => none
      | _ => none
    | none => none
def eqKE (n : Nat) (ops : Array Oper) (env : Env) (o : Oper) : Option (Nat × Bool × Value × Value × Nat) :=
  match pre n ops env o with
  | false => none
  | true => match o.dst with
    | some d => match o.op with
      | .binOp op t x y _ => match evO env x with
        | some (.agg a) => match evO env y with
          | some (.agg b) => match op with
            | .eql => some (t, true, .agg a, .agg b, d)
            | .neq => some (t, false, .agg a, .agg b, d)
            | _ => none
          | _ => none
        | _ => none
      | _ => none
    | none => none
theorem ov_eqK {nn t d : Nat} {q : Bool} {a b : Value} (h : eqKE nn ops env o = some (t, q, a, b, d)) (hgd : P.eqGuardType P.depth t = false) (m : Nat) (hm : m ≤ 10000) (hk : P.keyTypeAt m t = true)
    {D D' : Nat} {la lb : List Lit} (fa : a.formed P t = true) (fb : b.formed P t = true) (ha : P.keyLits D t a.cells.toList = some la) (hb : P.keyLits D' t b.cells.toList = some lb) {p : Prop} [Decidable p] (hp : la = lb ↔ p) :
    pre nn ops env o = true ∧ o.dst = some d ∧ Ov P o env w (.bool (if q then decide p else decide (¬ p))) w := by
  unfold eqKE at h
  split at h
  · cases h
  · rename_i hpr
    split at h
    · rename_i d' hd
      split at h
      · rename_i op t' x y u ho
        split at h
        · rename_i xa hx
          split at h
          · rename_i ya hy
            have key : ∃ r : Bool, (Op.equal t' (.agg xa) (.agg ya)).run P w = .ok r w ∧ (r = true ↔ p) ∨ t' ≠ t ∨ a ≠ .agg xa ∨ b ≠ .agg ya := by
              by_cases ht : t' = t ∧ a = .agg xa ∧ b = .agg ya
              · obtain ⟨rfl, rfl, rfl⟩ := ht
                obtain ⟨r, h1, h2⟩ := run_equalIn_deep (P := P) (10000 - m) m t' hk w D D' _ _ la lb fa fb ha hb
                rw [Nat.sub_add_cancel hm] at h1
                exact ⟨r, .inl ⟨h1, h2.trans hp⟩⟩
              · refine ⟨true, .inr ?_⟩
                by_cases h1 : t' = t
                · by_cases h2 : a = .agg xa
                  · exact .inr (.inr fun h3 => ht ⟨h1, h2, h3⟩)
                  · exact .inr (.inl h2)
                · exact .inl h1
            split at h
            all_goals first
              | (cases h; done)
              | (simp only [Option.some.injEq, Prod.mk.injEq] at h
                 obtain ⟨rfl, rfl, rfl, rfl, rfl⟩ := h
                 obtain ⟨r, ⟨hr, hrp⟩ | hne | hne | hne⟩ := key
                 · refine ⟨hpr, hd, fun ρ hρ => ?_⟩
                   have hrd : r = decide p := by
                     rw [Bool.eq_iff_iff, hrp]; simp
                   have hg := run_eqGuard_agg (P := P) w (BinOp.eql) t' x y xa ya hgd
                   have hg2 := run_eqGuard_agg (P := P) w (BinOp.neq) t' x y xa ya hgd
                   first
                     | (simp only [execOp, ho, hρ _ _ hx, hρ _ _ hy, Sem.run_bind, hg, hg2, Result.andThen_ok, binOp, hr, Sem.run_pure, hrd]; simp; done)
                     | (simp only [execOp, ho, hρ _ _ hx, hρ _ _ hy, Sem.run_bind, hg, hg2, Result.andThen_ok, binOp, hr, Sem.run_pure, hrd]; done)
                 · exact absurd rfl hne
                 · exact absurd rfl hne
                 · exact absurd rfl hne)
          · cases h
        · cases h
      · cases h
    · cases h
theorem st_eqK {K : Env → World → Prop} {t d : Nat} {q : Bool} {a b : Value} (h : eqKE f.n ops env o = some (t, q, a, b, d)) (hgd : P.eqGuardType P.depth t = false) (m : Nat) (hm : m ≤ 10000) (hk : P.keyTypeAt m t = true)
  {D D' : Nat} {la lb : List Lit} (fa : a.formed P t = true) (fb : b.formed P t = true) (ha : P.keyLits D t a.cells.toList = some la) (hb : P.keyLits D' t b.cells.toList = some lb) {p : Prop} [Decidable p] (hp : la = lb ↔ p)
  (k : K ((d, .bool (if q then decide p else decide (¬ p))) :: env) w) : St P f ops o env w K := by
 obtain ⟨h1, h2, h3⟩ := ov_eqK (P := P) (w := w) h hgd m hm hk fa fb ha hb hp
 obtain ⟨h4, h5⟩ := pre_eq h1
 exact st_v h4 h5 h3 (by rw [h2]; exact k)
end
theorem wd_eqK {P : Program} {f : Fs} {ops : Array Oper} {o : Oper} {env : Env} {w : World} {K : Act → World → Prop} {r : Dr} {i : Nat} {pl : List (Nat × Bool)} {dn : List Nat} (ho : ops[i]? = some o) {t d : Nat} {q : Bool} {a b : Value} (h : eqKE f.n ops env o = some (t, q, a, b, d)) (hgd : P.eqGuardType P.depth t = false) (m : Nat) (hm : m ≤ 10000) (hk : P.keyTypeAt m t = true)
  {D D' : Nat} {la lb : List Lit} (fa : a.formed P t = true) (fb : b.formed P t = true) (ha : P.keyLits D t a.cells.toList = some la) (hb : P.keyLits D' t b.cells.toList = some lb) {p : Prop} [Decidable p] (hp : la = lb ↔ p)
  (k : WD P f ops K r pl (i :: dn) ((d, .bool (if q then decide p else decide (¬ p))) :: env) w) : WD P f ops K r ((i, true) :: pl) dn env w := by
 obtain ⟨h1, h2, _⟩ := ov_eqK (P := P) (w := w) h hgd m hm hk fa fb ha hb hp
 exact wd_q ho h1 h2 (fun w' _ => (ov_eqK (P := P) (w := w') h hgd m hm hk fa fb ha hb hp).2.2) k
/-! ### What a key's cells read as -/
theorem mapM_some {α β : Type} {f : α → Option β} {g : α → β} : ∀ {L : List α}, (∀ x ∈ L, f x = some (g x)) → L.mapM f = some (L.map g)
 | [], _ => by simp
 | x :: r, h => by
  rw [List.mapM_cons, h x (by simp), mapM_some (L := r) fun y hy => h y (by simp [hy])]
  rfl
theorem flat_single {α β : Type} (f : α → β) (L : List α) : (L.map fun x => [f x]).flatten = L.map f := by
 induction L with
 | nil => rfl
 | cons x r ih => rw [List.map_cons, List.flatten_cons, ih]; rfl
def idLits (l : List UInt8) : List Lit := l.map fun b => Lit.int .u8 (b.toNat : Int)
theorem idLits_inj {a b : List UInt8} : idLits a = idLits b ↔ a = b := by
 refine ⟨fun h => (List.map_inj_right fun x y e => ?_).1 h, fun h => by rw [h]⟩
 simp only [Lit.int.injEq, true_and] at e
 exact UInt8.toNat_inj.1 (by omega)
theorem lits_bytes {P : Program} {d t e n : Nat} (hu : P.underlying t = some (.array n e)) (hc : P.cellsOf t = n) (he : P.underlying e = some (.int .u8)) (hce : P.cellsOf e = 1) {l : List UInt8} (hl : l.length = n) : P.keyLits (d + 2) t (zq6 l) = some (idLits l) := by
 unfold Program.keyLits
 simp only [hu, hc, hce, zx0, hl, if_true]
 have h1 : ∀ i ∈ List.range n, P.keyLits (d + 1) e (((zq6 l).drop (i * 1)).take 1) = some [Lit.int .u8 ((l.getD i 0).toNat : Int)] := by
  intro i hi
  have hi : i < l.length := by rw [hl]; exact List.mem_range.1 hi
  have e1 : ((zq6 l).drop (i * 1)).take 1 = [byteV (l.getD i 0)] := by
   rw [Nat.mul_one, zq6, ← List.map_drop, List.drop_eq_getElem_cons hi, List.getD_eq_getElem?_getD, List.getElem?_eq_getElem hi]
   rfl
  rw [e1]
  unfold Program.keyLits
  simp only [he]
  have := (l.getD i 0).toNat_lt
  rw [if_pos]
  refine ⟨trivial, ?_⟩
  have e1 : IntKind.u8.min = 0 := rfl
  have e2 : IntKind.u8.max = 255 := rfl
  simp only [Lit.wf, e1, e2, Bool.and_eq_true, decide_eq_true_eq]
  omega
 rw [mapM_some h1]
 simp only [Option.map_some, Option.some.injEq]
 rw [← hl]
 apply List.ext_getElem?
 intro i
 have : ((List.range l.length).map fun i => [Lit.int .u8 ((l.getD i 0).toNat : Int)]).flatten = (List.range l.length).map fun i => Lit.int .u8 ((l.getD i 0).toNat : Int) := by
  exact flat_single _ _
 rw [this]
 simp only [idLits, List.getElem?_map]
 by_cases hi : i < l.length
 ·rw [List.getElem?_eq_getElem hi, List.getElem?_eq_getElem (by simpa using hi)]
  simp [List.getD_eq_getElem?_getD, List.getElem?_eq_getElem hi]
 ·rw [List.getElem?_eq_none (l := List.range l.length) (by rw [List.length_range]; omega), List.getElem?_eq_none (l := l) (by omega)]
  rfl
theorem lits_str {P : Program} {d t : Nat} (hu : P.underlying t = some .string) {s : List UInt8} (hs : s.length ≤ maxLen) : P.keyLits (d + 1) t [.string (strU s)] = some [.string s] := by
 unfold Program.keyLits
 simp only [hu]
 exact if_pos hs
theorem lits_bool {P : Program} {d t : Nat} (hu : P.underlying t = some .bool) (b : Bool) : P.keyLits (d + 1) t [.bool b] = some [.bool b] := by
 unfold Program.keyLits
 simp only [hu]
theorem lits_struct {P : Program} {d t : Nat} {cs : List Value} {L : List (Nat × Nat)} (hu : P.underlying t = some (.struct (P.fieldsOf t))) (hn : (P.fieldsOf t).all (·.name != "_") = true) (hc : cs.length = P.cellsOf t)
  (hf : (P.fieldsOf t).toList.map (fun f => (f.type, f.offset)) = L) {ls : List (List Lit)} (hm : L.mapM (fun p => P.keyLits d p.1 ((cs.drop p.2).take (P.cellsOf p.1))) = some ls) : P.keyLits (d + 1) t cs = some ls.flatten := by
 unfold Program.keyLits
 simp only [hu]
 rw [if_pos ⟨hc, hn⟩]
 subst hf
 have : (P.fieldsOf t).toList.mapM (fun f => P.keyLits d f.type ((cs.drop f.offset).take (P.cellsOf f.type))) = some ls := by
  rw [← hm]
  generalize (P.fieldsOf t).toList = fs
  induction fs with
  | nil => rfl
  | cons f fs ih => simp only [List.map_cons, List.mapM_cons, ih]
 rw [this]
 rfl
abbrev Str := List UInt8
abbrev strV (l : Str) : Value := .string (strU l)
def okC (c : UInt8) : Prop := 33 ≤ c.toNat ∧ c.toNat ≤ 126
instance (c : UInt8) : Decidable (okC c) := inferInstanceAs (Decidable (_ ∧ _))
def PathOk (l : Str) : Prop := (∀ c ∈ l, okC c) ∧ 1 ≤ l.length ∧ l.length ≤ 48
instance (l : Str) : Decidable (PathOk l) := inferInstanceAs (Decidable (_ ∧ _))
theorem pathNo {l : Str} {i : Nat} (hi : i < l.length) (h : ¬ okC l[i]) : ¬ PathOk l := fun hp => h (hp.1 _ (List.getElem_mem hi))
theorem pathIs {l : Str} (h : ∀ i (hi : i < l.length), okC l[i]) : PathOk l ↔ 1 ≤ l.length ∧ l.length ≤ 48 :=
 ⟨fun hp => hp.2, fun hl => ⟨fun c hc => by obtain ⟨i, hi, rfl⟩ := List.mem_iff_getElem.1 hc; exact h i hi, hl⟩⟩
theorem allStep {α : Type} {p : α → Prop} {l : List α} {i : Nat} (h : ∀ k (hk : k < l.length), k < i → p l[k]) (hi : i < l.length) (h1 : p l[i]) : ∀ k (hk : k < l.length), k < i + 1 → p l[k] := fun k hk hlt => by
 rcases Nat.lt_or_ge k i with h' | h'
 ·exact h k hk h'
 ·obtain rfl : k = i := by omega
  exact h1
structure RowD where
  path : Str
  text : Str
  deriving DecidableEq
structure zj8 where
  path : Str
  id : List UInt8
  deriving DecidableEq
structure ChgD where
  path : Str
  is : Bool
  text : Str
  deriving DecidableEq
def RowD.cells (r : RowD) : List Value := [strV r.path, strV r.text]
def zj8.cells (r : zj8) : List Value := strV r.path :: zq6 r.id
def ChgD.cells (r : ChgD) : List Value := [strV r.path, .bool r.is, strV r.text]
theorem flat_at {α : Type} {f : α → List Value} {n : Nat} : ∀ {l : List α}, (∀ x ∈ l, (f x).length = n) → ∀ {i : Nat} (hi : i < l.length), ((l.flatMap f).drop (i * n)).take n = f l[i]
 | [], _, i, hi => absurd hi (Nat.not_lt_zero _)
 | x :: r, h, 0, _ => by
  rw [Nat.zero_mul, List.drop_zero, List.flatMap_cons, List.take_append_of_le_length (by rw [h x (by simp)]; exact Nat.le_refl _), List.take_of_length_le (by rw [h x (by simp)]; exact Nat.le_refl _)]
  rfl
 | x :: r, h, i + 1, hi => by
  have hx := h x (by simp)
  rw [List.flatMap_cons, Nat.succ_mul, Nat.add_comm, ← List.drop_drop, ← hx, List.drop_left, hx, flat_at (fun y hy => h y (by simp [hy])) (by simpa using hi)]
  rfl
theorem flat_len {α : Type} {f : α → List Value} {n : Nat} : ∀ {l : List α}, (∀ x ∈ l, (f x).length = n) → (l.flatMap f).length = l.length * n
 | [], _ => by simp
 | x :: r, h => by
  rw [List.flatMap_cons, List.length_append, h x (by simp), flat_len (fun y hy => h y (by simp [hy])), List.length_cons, Nat.succ_mul, Nat.add_comm]
theorem Sl.rowAt {α : Type} {w : World} {p : Option Addr} {f : α → List Value} {n : Nat} {l : List α} (h : Sl w p l.length n (l.flatMap f)) (hn : ∀ x ∈ l, (f x).length = n) {i : Nat} (hi : i < l.length) :
  ∃ b off, p = some ⟨b, off, none⟩ ∧ Seg w b (off + i * n) (f l[i]) := by
 obtain ⟨_, h0 | ⟨b, off, hp, hs⟩⟩ := h
 ·omega
 ·refine ⟨b, off, hp, ?_⟩
  have := (hs.drop (i * n)).take n
  rw [flat_at hn hi] at this
  exact this
theorem Sl.rowAll {α : Type} {w : World} {p : Option Addr} {f : α → List Value} {n : Nat} {l : List α} (h : Sl w p l.length n (l.flatMap f)) (hn : ∀ x ∈ l, (f x).length = n) (h0 : 0 < l.length) :
  ∃ b off, p = some ⟨b, off, none⟩ ∧ ∀ i (hi : i < l.length), Seg w b (off + i * n) (f l[i]) := by
 obtain ⟨_, h1 | ⟨b, off, hp, hs⟩⟩ := h
 ·omega
 ·refine ⟨b, off, hp, fun i hi => ?_⟩
  have := (hs.drop (i * n)).take n
  rw [flat_at hn hi] at this
  exact this
theorem RowD.len (r : RowD) : r.cells.length = 2 := rfl
theorem ChgD.len (r : ChgD) : r.cells.length = 3 := rfl
theorem zj8.len {r : zj8} (h : r.id.length = 32) : r.cells.length = 33 := by simp [zj8.cells, zx0, h]
instance (r : RowD) : OneC r.cells := by unfold RowD.cells; infer_instance
instance (r : ChgD) : OneC r.cells := by unfold ChgD.cells; infer_instance
instance (r : zj8) : OneC r.cells := by unfold zj8.cells; infer_instance
def Rises (l : List Str) : Prop := l.length ≤ 32 ∧ ∀ i (hi : i < l.length), PathOk l[i] ∧ (0 < i → SLt (strU (l[i - 1]'(by omega))) (strU l[i]))
instance (l : List Str) : Decidable (Rises l) := inferInstanceAs (Decidable (_ ∧ _))
def RowsOk (l : List RowD) : Prop := ¬ (∃ r ∈ l, 256 < r.text.length) ∧ Rises (l.map RowD.path)
instance (l : List RowD) : Decidable (RowsOk l) := inferInstanceAs (Decidable (_ ∧ _))
theorem bl_total : ∀ (x y : List UInt8), (Op.bytesLess x y = true ∨ x = y) ∨ Op.bytesLess y x = true
 | [], [] => .inl (.inr rfl)
 | [], _ :: _ => .inl (.inl rfl)
 | _ :: _, [] => .inr rfl
 | a :: x, b :: y => by
  simp only [Op.bytesLess, Bool.or_eq_true, Bool.and_eq_true, decide_eq_true_eq, beq_iff_eq]
  rcases Nat.lt_trichotomy a.toNat b.toNat with h | h | h
  ·exact .inl (.inl (.inl (UInt8.lt_iff_toNat_lt.2 h)))
  ·obtain rfl : a = b := UInt8.toNat_inj.1 h
   rcases bl_total x y with (h1 | h1) | h1
   ·exact .inl (.inl (.inr ⟨rfl, h1⟩))
   ·exact .inl (.inr (by rw [h1]))
   ·exact .inr (.inr ⟨rfl, h1⟩)
  ·exact .inr (.inl (UInt8.lt_iff_toNat_lt.2 h))
theorem bl_asymm : ∀ (x y : List UInt8), Op.bytesLess x y = true → Op.bytesLess y x = true → False
 | [], [], h, _ => by cases h
 | [], _ :: _, _, h => by cases h
 | _ :: _, [], h, _ => by cases h
 | a :: x, b :: y, h, k => by
  simp only [Op.bytesLess, Bool.or_eq_true, Bool.and_eq_true, decide_eq_true_eq, beq_iff_eq] at h k
  rcases h with h | ⟨rfl, h⟩
  ·rcases k with k | ⟨rfl, k⟩
   ·have := UInt8.lt_iff_toNat_lt.1 h; have := UInt8.lt_iff_toNat_lt.1 k; omega
   ·have := UInt8.lt_iff_toNat_lt.1 h; omega
  ·rcases k with k | ⟨_, k⟩
   ·have := UInt8.lt_iff_toNat_lt.1 k; omega
   ·exact bl_asymm x y h k
theorem slt_flip (a b : ByteArray) : ¬ (SLt a b ∨ a = b) ↔ SLt b a := by
 constructor
 ·intro h
  rcases bl_total a.data.toList b.data.toList with (h1 | h1) | h1
  ·exact absurd (.inl h1) h
  ·refine absurd (.inr ?_) h
   obtain ⟨⟨x⟩⟩ := a
   obtain ⟨⟨y⟩⟩ := b
   have h1 : x = y := h1
   rw [h1]
  ·exact h1
 ·rintro h (k | rfl)
  ·exact bl_asymm _ _ h k
  ·exact bl_asymm _ _ h h
def RowGood (l : List RowD) (i : Nat) (hi : i < l.length) : Prop := i ≠ 32 ∧ PathOk l[i].path ∧ l[i].text.length ≤ 256 ∧ (0 < i → SLt (strU (l[i - 1]'(by omega)).path) (strU l[i].path))
instance (l : List RowD) (i : Nat) (hi : i < l.length) : Decidable (RowGood l i hi) := inferInstanceAs (Decidable (_ ∧ _))
theorem rowsOk_iff {l : List RowD} : RowsOk l ↔ ∀ i (hi : i < l.length), RowGood l i hi := by
 constructor
 ·rintro ⟨h1, h2, h3⟩ i hi
  rw [List.length_map] at h2
  have := h3 i (by rw [List.length_map]; exact hi)
  refine ⟨by omega, by simpa using this.1, ?_, fun h0 => by simpa using this.2 h0⟩
  exact Nat.not_lt.1 fun h => h1 ⟨_, List.getElem_mem hi, h⟩
 ·intro h
  refine ⟨fun ⟨r, hr, ht⟩ => ?_, ?_, fun i hi => ?_⟩
  ·obtain ⟨i, hi, rfl⟩ := List.mem_iff_getElem.1 hr
   have := (h i hi).2.2.1
   omega
  ·rw [List.length_map]
   exact Nat.not_lt.1 fun hl => (h 32 hl).1 rfl
  ·rw [List.length_map] at hi
   have := h i hi
   simp only [List.getElem_map]
   exact ⟨this.2.1, this.2.2.2⟩
def ChgBad (c : ChgD) : Prop := 256 < c.text.length ∨ c.is = false ∧ c.text ≠ []
instance (c : ChgD) : Decidable (ChgBad c) := inferInstanceAs (Decidable (_ ∨ _))
theorem chg_nil (t : Str) : (strU t ≠ ByteArray.mk #[]) ↔ t ≠ [] :=
 ⟨fun h1 h2 => h1 (by rw [h2]; rfl), fun h1 h2 => h1 (strU_inj h2)⟩
def EditOk (l : List ChgD) : Prop := ¬ (∃ r ∈ l, ChgBad r) ∧ Rises (l.map ChgD.path)
instance (l : List ChgD) : Decidable (EditOk l) := inferInstanceAs (Decidable (_ ∧ _))
def ChgGood (l : List ChgD) (i : Nat) (hi : i < l.length) : Prop := i ≠ 32 ∧ PathOk l[i].path ∧ ¬ ChgBad l[i] ∧ (0 < i → SLt (strU (l[i - 1]'(by omega)).path) (strU l[i].path))
instance (l : List ChgD) (i : Nat) (hi : i < l.length) : Decidable (ChgGood l i hi) := inferInstanceAs (Decidable (_ ∧ _))
theorem editOk_iff {l : List ChgD} : EditOk l ↔ ∀ i (hi : i < l.length), ChgGood l i hi := by
 constructor
 ·rintro ⟨h1, h2, h3⟩ i hi
  rw [List.length_map] at h2
  have := h3 i (by rw [List.length_map]; exact hi)
  refine ⟨by omega, by simpa using this.1, ?_, fun h0 => by simpa using this.2 h0⟩
  exact fun h => h1 ⟨_, List.getElem_mem hi, h⟩
 ·intro h
  refine ⟨fun ⟨r, hr, ht⟩ => ?_, ?_, fun i hi => ?_⟩
  ·obtain ⟨i, hi, rfl⟩ := List.mem_iff_getElem.1 hr
   exact (h i hi).2.2.1 ht
  ·rw [List.length_map]
   exact Nat.not_lt.1 fun hl => (h 32 hl).1 rfl
  ·rw [List.length_map] at hi
   have := h i hi
   simp only [List.getElem_map]
   exact ⟨this.2.1, this.2.2.2⟩
end Go.Vc
namespace Go.Proofs.YtpcdihkcenfgkaaGreatDoor
open Go.Vc
theorem path_calls (w : World) (l : Str) (hl : l.length < 1000000000) :
  zz1 Tryz.prog 195 [strV l] w fun v w' => v = .bool (decide (PathOk l)) ∧ w' = w := by
 have hs : (strU l).size = l.length := rfl
 refine zq9 Tryz.func195 rfl rfl rfl rfl ?_
 have hX := Ext.refl No w
 refine zq5 (zq0 (wl_p I_ok rfl (zq3 (zq1 (zq5 (zq5 (zq0 (wl_p I_ok rfl (zq3 (zq1 (zx4 ?_)))))))))))
 refine zv3 (α := Nat) [0, 5] rfl (fun z => [(6, .int .i64 (z : Int))]) (fun z u => ((z ≤ l.length ∧ ∀ k (hk : k < l.length), k < z → okC l[k]) ∧ u = w) ∧ Ext No w u) (fun z u => l.length - z) (0) rfl ⟨⟨⟨Nat.zero_le _, fun k _ h => absurd h (Nat.not_lt_zero _)⟩, rfl⟩, hX⟩ ?_
 rintro i w1 ⟨⟨⟨hi, hok⟩, rfl⟩, hX⟩
 refine zq5 (zq0 (wl_p I_ok rfl (zq3 (zq1 (zq5 (c_if rfl (fun hc => ?_) (fun hc => ?_)))))))
 ·have hi : i < l.length := by omega
  have hci : (strU l).data.toList[i]? = some l[i] := List.getElem?_eq_getElem hi
  refine zx7 (zq1 (zq5 (zx4 (zq5 (zq0 (wl_p I_ok rfl (zq3 (zq1 (c_cutK (α := Bool) [0, 5, 6] rfl (fun z => [(18, .bool z)]) (fun z u => u = w1 ∧ z = decide (¬ okC l[i])) ?_ ?_)))))))))
  ·refine zq0 ?_
   refine wl_p I_ok rfl (wl (st_is I_ok rfl i rfl hci (wl_p I_ok rfl (zj4 13 rfl (fun hg => ?_) (fun hg => ?_)))))
   ·refine zz5 I_ok 5 rfl ?_
    refine zq3 ?_
    exact zz7 (true) rfl ⟨rfl, by symm; rw [decide_eq_true_eq]; intro h; have := h.1; omega⟩
   ·refine zz5 I_ok 2 rfl ?_
    refine wl (st_is I_ok rfl i rfl hci (zz5 I_ok 2 rfl (zq3 ?_)))
    exact zz7 (_) rfl ⟨rfl, by rw [decide_eq_decide]; unfold okC; omega⟩
  rintro z w2 ⟨hu, rfl⟩
  have hu := hu.symm
  subst hu
  refine c_if rfl (fun hc => ?_) (fun hc => ?_)
  ·have hno := pathNo hi hc
   refine zq5 (zq0 (wl_p I_ok rfl (zq3 (zq1 (zj0 (zz3 (zx5 (zx5 (zz3 (zx5 (zz2 rfl rfl ?_)))))))))))
   exact ⟨by rw [decide_eq_false hno], rfl⟩
  ·have hoi : okC l[i] := Decidable.not_not.1 hc
   refine zx7 (zx6 (zq1 (zq0 (wl_p I_ok rfl ?_))))
   rw [IntWalk.i64_in _ (by omega)]
   refine zq3 ?_
   exact zv1 (i + 1) rfl ⟨⟨⟨by omega, allStep hok hi hoi⟩, rfl⟩, hX⟩ (by first | omega | (dsimp only; omega))
 ·have hall := pathIs (l := l) fun k hk => hok k hk (by omega)
  refine c_exit (zx3 (zx3 (zz0 (zq1 (c_cutK (α := Bool) [] rfl (fun z => [(2, .bool z)]) (fun z u => u = w1 ∧ z = decide (1 ≤ l.length ∧ l.length ≤ 48)) ?_ ?_)))))
  ·refine zq0 ?_
   refine wl_p I_ok rfl (zj4 23 rfl (fun hg => ?_) (fun hg => ?_))
   ·refine zz5 I_ok 5 rfl ?_
    refine zq3 ?_
    exact zz7 (_) rfl ⟨rfl, by rw [decide_eq_decide]; omega⟩
   ·refine zz5 I_ok 5 rfl ?_
    refine zq3 ?_
    exact zz7 (_) rfl ⟨rfl, by symm; rw [decide_eq_false_iff_not]; omega⟩
  rintro z w3 ⟨hu, rfl⟩
  have hu := hu.symm
  subst hu
  refine zj0 (zz2 rfl rfl ?_)
  exact ⟨by rw [decide_eq_decide.2 hall], rfl⟩
theorem path5_calls (w : World) (l : Str) (hl : l.length < 1000000000) :
  zz1 Tryz.prog 136 [strV l] w fun v w' => v = .bool (decide (PathOk l)) ∧ w' = w := by
 have hs : (strU l).size = l.length := rfl
 refine zq9 Tryz.func136 rfl rfl rfl rfl ?_
 have hX := Ext.refl No w
 refine zq5 (zq0 (wl_p I_ok rfl (zq3 (zq1 (zq5 (zq5 (zq0 (wl_p I_ok rfl (zq3 (zq1 (zx4 ?_)))))))))))
 refine zv3 (α := Nat) [0] rfl (fun z => [(3, .int .i64 (z : Int))]) (fun z u => ((z ≤ l.length ∧ ∀ k (hk : k < l.length), k < z → okC l[k]) ∧ u = w) ∧ Ext No w u) (fun z u => l.length - z) (0) rfl ⟨⟨⟨Nat.zero_le _, fun k _ h => absurd h (Nat.not_lt_zero _)⟩, rfl⟩, hX⟩ ?_
 rintro i w1 ⟨⟨⟨hi, hok⟩, rfl⟩, hX⟩
 refine zq5 (zq5 (zq0 (wl_p I_ok rfl (zq3 (zq1 (c_if rfl (fun hc => ?_) (fun hc => ?_)))))))
 ·have hi : i < l.length := by omega
  have hci : (strU l).data.toList[i]? = some l[i] := List.getElem?_eq_getElem hi
  refine zx7 (zq1 (zq5 (zx4 (c_cutK (α := Bool) [0, 3] rfl (fun z => [(19, .bool z)]) (fun z u => u = w1 ∧ z = decide (¬ okC l[i])) ?_ ?_))))
  ·refine zq0 ?_
   refine wl_p I_ok rfl (wl (st_is I_ok rfl i rfl hci (wl_p I_ok rfl (zj4 14 rfl (fun hg => ?_) (fun hg => ?_)))))
   ·refine zz5 I_ok 5 rfl ?_
    refine zq3 ?_
    exact zz7 (true) rfl ⟨rfl, by symm; rw [decide_eq_true_eq]; intro h; have := h.1; omega⟩
   ·refine zz5 I_ok 2 rfl ?_
    refine wl (st_is I_ok rfl i rfl hci (zz5 I_ok 2 rfl (zq3 ?_)))
    exact zz7 (_) rfl ⟨rfl, by rw [decide_eq_decide]; unfold okC; omega⟩
  rintro z w2 ⟨hu, rfl⟩
  have hu := hu.symm
  subst hu
  refine c_if rfl (fun hc => ?_) (fun hc => ?_)
  ·have hno := pathNo hi hc
   refine zq5 (zq0 (wl_p I_ok rfl (zq3 (zq1 (zj0 (zz3 (zx5 (zx5 (zz3 (zx5 (zz2 rfl rfl ?_)))))))))))
   exact ⟨by rw [decide_eq_false hno], rfl⟩
  ·have hoi : okC l[i] := Decidable.not_not.1 hc
   refine zx7 (zx6 (zq1 (zq0 (wl_p I_ok rfl ?_))))
   rw [IntWalk.i64_in _ (by omega)]
   refine zq3 ?_
   exact zv1 (i + 1) rfl ⟨⟨⟨by omega, allStep hok hi hoi⟩, rfl⟩, hX⟩ (by first | omega | (dsimp only; omega))
 ·have hall := pathIs (l := l) fun k hk => hok k hk (by omega)
  refine c_exit (zx3 (zx3 (zz0 (zq1 (c_cutK (α := Bool) [] rfl (fun z => [(2, .bool z)]) (fun z u => u = w1 ∧ z = decide (1 ≤ l.length ∧ l.length ≤ 48)) ?_ ?_)))))
  ·refine zq0 ?_
   refine wl_p I_ok rfl (zj4 23 rfl (fun hg => ?_) (fun hg => ?_))
   ·refine zz5 I_ok 5 rfl ?_
    refine zq3 ?_
    exact zz7 (_) rfl ⟨rfl, by rw [decide_eq_decide]; omega⟩
   ·refine zz5 I_ok 5 rfl ?_
    refine zq3 ?_
    exact zz7 (_) rfl ⟨rfl, by symm; rw [decide_eq_false_iff_not]; omega⟩
  rintro z w3 ⟨hu, rfl⟩
  have hu := hu.symm
  subst hu
  refine zj0 (zz2 rfl rfl ?_)
  exact ⟨by rw [decide_eq_decide.2 hall], rfl⟩
theorem path6_calls (w : World) (l : Str) (hl : l.length < 1000000000) :
  zz1 Tryz.prog 108 [strV l] w fun v w' => v = .bool (decide (PathOk l)) ∧ w' = w := by
 have hs : (strU l).size = l.length := rfl
 refine zq9 Tryz.func108 rfl rfl rfl rfl ?_
 have hX := Ext.refl No w
 refine zq5 (zq0 (wl_p I_ok rfl (zq3 (zq1 (zq5 (zq5 (zq0 (wl_p I_ok rfl (zq3 (zq1 (zx4 ?_)))))))))))
 refine zv3 (α := Nat) [0, 5] rfl (fun z => [(6, .int .i64 (z : Int))]) (fun z u => ((z ≤ l.length ∧ ∀ k (hk : k < l.length), k < z → okC l[k]) ∧ u = w) ∧ Ext No w u) (fun z u => l.length - z) (0) rfl ⟨⟨⟨Nat.zero_le _, fun k _ h => absurd h (Nat.not_lt_zero _)⟩, rfl⟩, hX⟩ ?_
 rintro i w1 ⟨⟨⟨hi, hok⟩, rfl⟩, hX⟩
 refine zq5 (zq0 (wl_p I_ok rfl (zq3 (zq1 (zq5 (c_if rfl (fun hc => ?_) (fun hc => ?_)))))))
 ·have hi : i < l.length := by omega
  have hci : (strU l).data.toList[i]? = some l[i] := List.getElem?_eq_getElem hi
  refine zx7 (zq1 (zq5 (zx4 (zq5 (zq0 (wl_p I_ok rfl (zq3 (zq1 (c_cutK (α := Bool) [0, 5, 6] rfl (fun z => [(18, .bool z)]) (fun z u => u = w1 ∧ z = decide (¬ okC l[i])) ?_ ?_)))))))))
  ·refine zq0 ?_
   refine wl_p I_ok rfl (wl (st_is I_ok rfl i rfl hci (wl_p I_ok rfl (zj4 13 rfl (fun hg => ?_) (fun hg => ?_)))))
   ·refine zz5 I_ok 5 rfl ?_
    refine zq3 ?_
    exact zz7 (true) rfl ⟨rfl, by symm; rw [decide_eq_true_eq]; intro h; have := h.1; omega⟩
   ·refine zz5 I_ok 2 rfl ?_
    refine wl (st_is I_ok rfl i rfl hci (zz5 I_ok 2 rfl (zq3 ?_)))
    exact zz7 (_) rfl ⟨rfl, by rw [decide_eq_decide]; unfold okC; omega⟩
  rintro z w2 ⟨hu, rfl⟩
  have hu := hu.symm
  subst hu
  refine c_if rfl (fun hc => ?_) (fun hc => ?_)
  ·have hno := pathNo hi hc
   refine zq5 (zq0 (wl_p I_ok rfl (zq3 (zq1 (zj0 (zz3 (zx5 (zx5 (zz3 (zx5 (zz2 rfl rfl ?_)))))))))))
   exact ⟨by rw [decide_eq_false hno], rfl⟩
  ·have hoi : okC l[i] := Decidable.not_not.1 hc
   refine zx7 (zx6 (zq1 (zq0 (wl_p I_ok rfl ?_))))
   rw [IntWalk.i64_in _ (by omega)]
   refine zq3 ?_
   exact zv1 (i + 1) rfl ⟨⟨⟨by omega, allStep hok hi hoi⟩, rfl⟩, hX⟩ (by first | omega | (dsimp only; omega))
 ·have hall := pathIs (l := l) fun k hk => hok k hk (by omega)
  refine c_exit (zx3 (zx3 (zz0 (zq1 (c_cutK (α := Bool) [] rfl (fun z => [(2, .bool z)]) (fun z u => u = w1 ∧ z = decide (1 ≤ l.length ∧ l.length ≤ 48)) ?_ ?_)))))
  ·refine zq0 ?_
   refine wl_p I_ok rfl (zj4 23 rfl (fun hg => ?_) (fun hg => ?_))
   ·refine zz5 I_ok 5 rfl ?_
    refine zq3 ?_
    exact zz7 (_) rfl ⟨rfl, by rw [decide_eq_decide]; omega⟩
   ·refine zz5 I_ok 5 rfl ?_
    refine zq3 ?_
    exact zz7 (_) rfl ⟨rfl, by symm; rw [decide_eq_false_iff_not]; omega⟩
  rintro z w3 ⟨hu, rfl⟩
  have hu := hu.symm
  subst hu
  refine zj0 (zz2 rfl rfl ?_)
  exact ⟨by rw [decide_eq_decide.2 hall], rfl⟩
theorem rowPath_calls (w : World) (r : RowD) :
  zz1 Tryz.prog 191 [.agg r.cells.toArray] w fun v w' => v = strV r.path ∧ Ext No w w' := by
 refine zq9 Tryz.func191 rfl rfl rfl rfl ?_
 have hX := Ext.refl No w
 refine zq5 (zq0 (wl (zz9 I_ok rfl fun b1 w1 hn1 hb1 hE1 => ?_)))
 have hX := hX.zq4 hE1
 have hb1 : Blk w1 b1 99 (r.cells) := hb1
 refine wl_p I_ok rfl (zq3 (zq1 (zq5 (zq0 (wl_p I_ok rfl (wl (st_ldb I_ok hb1 rfl rfl (wl_p I_ok rfl (zq3 (zq1 (zj0 (zz2 rfl rfl ?_))))))))))))
 exact ⟨rfl, hX⟩
theorem changePath_calls (w : World) (r : ChgD) :
  zz1 Tryz.prog 180 [.agg r.cells.toArray] w fun v w' => v = strV r.path ∧ Ext No w w' := by
 refine zq9 Tryz.func180 rfl rfl rfl rfl ?_
 have hX := Ext.refl No w
 refine zq5 (zq0 (wl (zz9 I_ok rfl fun b1 w1 hn1 hb1 hE1 => ?_)))
 have hX := hX.zq4 hE1
 have hb1 : Blk w1 b1 114 (r.cells) := hb1
 refine wl_p I_ok rfl (zq3 (zq1 (zq5 (zq0 (wl_p I_ok rfl (wl (st_ldb I_ok hb1 rfl rfl (wl_p I_ok rfl (zq3 (zq1 (zj0 (zz2 rfl rfl ?_))))))))))))
 exact ⟨rfl, hX⟩
theorem check1_calls (w : World) (r : RowD) :
  zz1 Tryz.prog 190 [.agg r.cells.toArray] w fun v w' => v = .bool (decide (256 < r.text.length)) ∧ Ext No w w' := by
 refine zq9 Tryz.func190 rfl rfl rfl rfl ?_
 have hX := Ext.refl No w
 refine zq5 (zq0 (wl (zz9 I_ok rfl fun b1 w1 hn1 hb1 hE1 => ?_)))
 have hX := hX.zq4 hE1
 have hb1 : Blk w1 b1 99 (r.cells) := hb1
 refine wl_p I_ok rfl (zq3 (zq1 (zq5 (zq0 (wl_p I_ok rfl (wl (st_ldb I_ok hb1 rfl rfl (wl_p I_ok rfl (zq3 (zq1 (zj0 (zz2 rfl rfl ?_))))))))))))
 exact ⟨congrArg Value.bool (decide_eq_decide.2 (by have : (strU r.text).size = r.text.length := rfl; omega)), hX⟩
theorem indexFuncRow_calls (w : World) {p : Option Addr} {c G : Nat} {l : List RowD} (h : Sl w p l.length 2 (l.flatMap RowD.cells)) (hl : l.length < 1000000000) (Q : RowD → Prop) [DecidablePred Q]
  (hcf : ∀ args w, (callFunc G args).run Tryz.prog w = .ok (.enter G args) w) (hQ : ∀ w (r : RowD), r.cells.length = 2 → zz1 Tryz.prog G [.agg r.cells.toArray] w fun v w' => v = .bool (decide (Q r)) ∧ Ext No w w') :
  zz1 Tryz.prog 197 [.slice p l.length c, .func (.func G) #[] #[]] w fun v w' => ∃ n : Int, v = .int .i64 n ∧ (0 ≤ n ↔ ∃ r ∈ l, Q r) ∧ Ext No w w' := by
 refine zq9 Tryz.func197 rfl rfl rfl rfl ?_
 have hX := Ext.refl No w
 refine zq5 (zq0 (wl_p I_ok rfl (zq3 (zq1 (zq5 (zq5 (zq0 (wl_p I_ok rfl (zq3 (zq1 (zx4 ?_)))))))))))
 refine zv3 (α := Nat) [0, 1, 7] rfl (fun z => [(8, .int .i64 (z : Int))]) (fun z u => (z ≤ l.length ∧ ∀ k (hk : k < l.length), k < z → ¬ Q l[k]) ∧ Ext No w u) (fun z u => l.length - z) (0) rfl ⟨⟨Nat.zero_le _, fun k _ h => absurd h (Nat.not_lt_zero _)⟩, hX⟩ ?_
 rintro i w1 ⟨⟨hi, hno⟩, hX⟩
 refine zq5 (zq0 (wl_p I_ok rfl (zq3 (zq1 (zq5 (c_if rfl (fun hc => ?_) (fun hc => ?_)))))))
 ·have hi : i < l.length := by omega
  obtain ⟨b, off, rfl, hseg⟩ := (h.zq2 hX).rowAt (fun r _ => r.len) hi
  refine zx7 (zq1 (zq5 (zx4 (zq5 (zq0 (wl_p I_ok rfl (zq3 (zq1 (zq5 (zq0 (wl_p I_ok rfl (wl (st_ix I_ok rfl 2 rfl i rfl (by omega) (off + i * 2) rfl (wl (st_ldN I_ok rfl hseg rfl ?_)))))))))))))))
  refine wl (zx2 hcf rfl rfl rfl rfl rfl rfl (hQ w1 l[i] rfl) fun v2 w2 hr2 => ?_)
  obtain ⟨rfl, hE2⟩ := hr2
  have hX := hX.zq4 hE2
  refine zq3 (zq1 (c_if rfl (fun hc => ?_) (fun hc => ?_)))
  ·refine zq5 ?_
   refine zq0 (wl_p I_ok rfl (zq3 (zq1 (zj0 (zz3 (zx5 (zx5 (zz3 (zx5 (zz2 rfl rfl ?_))))))))))
   exact ⟨_, rfl, ⟨fun _ => ⟨_, List.getElem_mem hi, hc⟩, fun _ => Int.natCast_nonneg _⟩, hX⟩
  ·refine zx7 ?_
   refine zx6 (zq1 (zq0 (wl_p I_ok rfl ?_)))
   rw [IntWalk.i64_in _ (by omega)]
   refine zq3 ?_
   exact zv1 (i + 1) rfl ⟨⟨by omega, allStep (p := fun x => ¬ Q x) hno hi hc⟩, hX⟩ (by first | omega | (dsimp only; omega))
 ·have hall : ¬ ∃ r ∈ l, Q r := fun ⟨r, hr, hq⟩ => by
   obtain ⟨k, hk, rfl⟩ := List.mem_iff_getElem.1 hr
   exact hno k hk (by omega) hq
  refine c_exit (zx3 (zx3 (zz0 (zq1 (zq5 (zq0 (wl_p I_ok rfl (zq3 (zq1 (zj0 (zz2 rfl rfl ?_)))))))))))
  exact ⟨_, rfl, ⟨fun h => absurd h (by decide), fun h => absurd h hall⟩, hX⟩
theorem containsFuncRow_calls (w : World) {p : Option Addr} {c G : Nat} {l : List RowD} (h : Sl w p l.length 2 (l.flatMap RowD.cells)) (hl : l.length < 1000000000) (Q : RowD → Prop) [DecidablePred Q]
  (hcf : ∀ args w, (callFunc G args).run Tryz.prog w = .ok (.enter G args) w) (hQ : ∀ w (r : RowD), r.cells.length = 2 → zz1 Tryz.prog G [.agg r.cells.toArray] w fun v w' => v = .bool (decide (Q r)) ∧ Ext No w w') :
  zz1 Tryz.prog 189 [.slice p l.length c, .func (.func G) #[] #[]] w fun v w' => v = .bool (decide (∃ r ∈ l, Q r)) ∧ Ext No w w' := by
 refine zq9 Tryz.func189 rfl rfl rfl rfl ?_
 have hX := Ext.refl No w
 refine zq5 (zq0 (wl_p I_ok rfl (zq3 (zq1 (zq5 (zq0 (wl_p I_ok rfl (wl (zx2 Tryz.call197 rfl rfl rfl rfl rfl rfl (indexFuncRow_calls w (h.zq2 hX) hl Q hcf hQ) fun v1 w1 hr1 => ?_)))))))))
 obtain ⟨n, rfl, hn1, hE1⟩ := hr1
 have hX := hX.zq4 hE1
 refine wl_p I_ok rfl (zq3 (zq1 (zj0 (zz2 rfl rfl ?_))))
 exact ⟨congrArg Value.bool (decide_eq_decide.2 hn1), hX⟩
theorem indexFuncChange_calls (w : World) {p : Option Addr} {c G : Nat} {l : List ChgD} (h : Sl w p l.length 3 (l.flatMap ChgD.cells)) (hl : l.length < 1000000000) (Q : ChgD → Prop) [DecidablePred Q]
  (hcf : ∀ args w, (callFunc G args).run Tryz.prog w = .ok (.enter G args) w) (hQ : ∀ w (r : ChgD), r.cells.length = 3 → zz1 Tryz.prog G [.agg r.cells.toArray] w fun v w' => v = .bool (decide (Q r)) ∧ Ext No w w') :
  zz1 Tryz.prog 194 [.slice p l.length c, .func (.func G) #[] #[]] w fun v w' => ∃ n : Int, v = .int .i64 n ∧ (0 ≤ n ↔ ∃ r ∈ l, Q r) ∧ Ext No w w' := by
 refine zq9 Tryz.func194 rfl rfl rfl rfl ?_
 have hX := Ext.refl No w
 refine zq5 (zq0 (wl_p I_ok rfl (zq3 (zq1 (zq5 (zq5 (zq0 (wl_p I_ok rfl (zq3 (zq1 (zx4 ?_)))))))))))
 refine zv3 (α := Nat) [0, 1, 7] rfl (fun z => [(8, .int .i64 (z : Int))]) (fun z u => (z ≤ l.length ∧ ∀ k (hk : k < l.length), k < z → ¬ Q l[k]) ∧ Ext No w u) (fun z u => l.length - z) (0) rfl ⟨⟨Nat.zero_le _, fun k _ h => absurd h (Nat.not_lt_zero _)⟩, hX⟩ ?_
 rintro i w1 ⟨⟨hi, hno⟩, hX⟩
 refine zq5 (zq0 (wl_p I_ok rfl (zq3 (zq1 (zq5 (c_if rfl (fun hc => ?_) (fun hc => ?_)))))))
 ·have hi : i < l.length := by omega
  obtain ⟨b, off, rfl, hseg⟩ := (h.zq2 hX).rowAt (fun r _ => r.len) hi
  refine zx7 (zq1 (zq5 (zx4 (zq5 (zq0 (wl_p I_ok rfl (zq3 (zq1 (zq5 (zq0 (wl_p I_ok rfl (wl (st_ix I_ok rfl 3 rfl i rfl (by omega) (off + i * 3) rfl (wl (st_ldN I_ok rfl hseg rfl ?_)))))))))))))))
  refine wl (zx2 hcf rfl rfl rfl rfl rfl rfl (hQ w1 l[i] rfl) fun v2 w2 hr2 => ?_)
  obtain ⟨rfl, hE2⟩ := hr2
  have hX := hX.zq4 hE2
  refine zq3 (zq1 (c_if rfl (fun hc => ?_) (fun hc => ?_)))
  ·refine zq5 ?_
   refine zq0 (wl_p I_ok rfl (zq3 (zq1 (zj0 (zz3 (zx5 (zx5 (zz3 (zx5 (zz2 rfl rfl ?_))))))))))
   exact ⟨_, rfl, ⟨fun _ => ⟨_, List.getElem_mem hi, hc⟩, fun _ => Int.natCast_nonneg _⟩, hX⟩
  ·refine zx7 ?_
   refine zx6 (zq1 (zq0 (wl_p I_ok rfl ?_)))
   rw [IntWalk.i64_in _ (by omega)]
   refine zq3 ?_
   exact zv1 (i + 1) rfl ⟨⟨by omega, allStep (p := fun x => ¬ Q x) hno hi hc⟩, hX⟩ (by first | omega | (dsimp only; omega))
 ·have hall : ¬ ∃ r ∈ l, Q r := fun ⟨r, hr, hq⟩ => by
   obtain ⟨k, hk, rfl⟩ := List.mem_iff_getElem.1 hr
   exact hno k hk (by omega) hq
  refine c_exit (zx3 (zx3 (zz0 (zq1 (zq5 (zq0 (wl_p I_ok rfl (zq3 (zq1 (zj0 (zz2 rfl rfl ?_)))))))))))
  exact ⟨_, rfl, ⟨fun h => absurd h (by decide), fun h => absurd h hall⟩, hX⟩
theorem containsFuncChange_calls (w : World) {p : Option Addr} {c G : Nat} {l : List ChgD} (h : Sl w p l.length 3 (l.flatMap ChgD.cells)) (hl : l.length < 1000000000) (Q : ChgD → Prop) [DecidablePred Q]
  (hcf : ∀ args w, (callFunc G args).run Tryz.prog w = .ok (.enter G args) w) (hQ : ∀ w (r : ChgD), r.cells.length = 3 → zz1 Tryz.prog G [.agg r.cells.toArray] w fun v w' => v = .bool (decide (Q r)) ∧ Ext No w w') :
  zz1 Tryz.prog 178 [.slice p l.length c, .func (.func G) #[] #[]] w fun v w' => v = .bool (decide (∃ r ∈ l, Q r)) ∧ Ext No w w' := by
 refine zq9 Tryz.func178 rfl rfl rfl rfl ?_
 have hX := Ext.refl No w
 refine zq5 (zq0 (wl_p I_ok rfl (zq3 (zq1 (zq5 (zq0 (wl_p I_ok rfl (wl (zx2 Tryz.call194 rfl rfl rfl rfl rfl rfl (indexFuncChange_calls w (h.zq2 hX) hl Q hcf hQ) fun v1 w1 hr1 => ?_)))))))))
 obtain ⟨n, rfl, hn1, hE1⟩ := hr1
 have hX := hX.zq4 hE1
 refine wl_p I_ok rfl (zq3 (zq1 (zj0 (zz2 rfl rfl ?_))))
 exact ⟨congrArg Value.bool (decide_eq_decide.2 hn1), hX⟩
theorem indexFuncLeaf_calls (w : World) {p : Option Addr} {c G : Nat} {l : List zj8} (hn : ∀ x ∈ l, (zj8.cells x).length = 33) (h : Sl w p l.length 33 (l.flatMap zj8.cells)) (hl : l.length < 1000000000) (Q : zj8 → Prop) [DecidablePred Q]
  (hcf : ∀ args w, (callFunc G args).run Tryz.prog w = .ok (.enter G args) w) (hQ : ∀ w (r : zj8), r.cells.length = 33 → zz1 Tryz.prog G [.agg r.cells.toArray] w fun v w' => v = .bool (decide (Q r)) ∧ Ext No w w') :
  zz1 Tryz.prog 193 [.slice p l.length c, .func (.func G) #[] #[]] w fun v w' => ∃ n : Int, v = .int .i64 n ∧ (0 ≤ n ↔ ∃ r ∈ l, Q r) ∧ Ext No w w' := by
 refine zq9 Tryz.func193 rfl rfl rfl rfl ?_
 have hX := Ext.refl No w
 refine zq5 (zq0 (wl_p I_ok rfl (zq3 (zq1 (zq5 (zq5 (zq0 (wl_p I_ok rfl (zq3 (zq1 (zx4 ?_)))))))))))
 refine zv3 (α := Nat) [0, 1, 7] rfl (fun z => [(8, .int .i64 (z : Int))]) (fun z u => (z ≤ l.length ∧ ∀ k (hk : k < l.length), k < z → ¬ Q l[k]) ∧ Ext No w u) (fun z u => l.length - z) (0) rfl ⟨⟨Nat.zero_le _, fun k _ h => absurd h (Nat.not_lt_zero _)⟩, hX⟩ ?_
 rintro i w1 ⟨⟨hi, hno⟩, hX⟩
 refine zq5 (zq0 (wl_p I_ok rfl (zq3 (zq1 (zq5 (c_if rfl (fun hc => ?_) (fun hc => ?_)))))))
 ·have hi : i < l.length := by omega
  obtain ⟨b, off, rfl, hseg⟩ := (h.zq2 hX).rowAt (hn) hi
  refine zx7 (zq1 (zq5 (zx4 (zq5 (zq0 (wl_p I_ok rfl (zq3 (zq1 (zq5 (zq0 (wl_p I_ok rfl (wl (st_ix I_ok rfl 33 rfl i rfl (by omega) (off + i * 33) rfl ?_)))))))))))))
  refine wl (st_ldN I_ok rfl hseg (hn _ (List.getElem_mem hi)) (wl (zx2 hcf rfl rfl rfl rfl rfl rfl (hQ w1 l[i] (hn _ (List.getElem_mem hi))) fun v2 w2 hr2 => ?_)))
  obtain ⟨rfl, hE2⟩ := hr2
  have hX := hX.zq4 hE2
  refine zq3 (zq1 (c_if rfl (fun hc => ?_) (fun hc => ?_)))
  ·refine zq5 ?_
   refine zq0 (wl_p I_ok rfl (zq3 (zq1 (zj0 (zz3 (zx5 (zx5 (zz3 (zx5 (zz2 rfl rfl ?_))))))))))
   exact ⟨_, rfl, ⟨fun _ => ⟨_, List.getElem_mem hi, hc⟩, fun _ => Int.natCast_nonneg _⟩, hX⟩
  ·refine zx7 ?_
   refine zx6 (zq1 (zq0 (wl_p I_ok rfl ?_)))
   rw [IntWalk.i64_in _ (by omega)]
   refine zq3 ?_
   exact zv1 (i + 1) rfl ⟨⟨by omega, allStep (p := fun x => ¬ Q x) hno hi hc⟩, hX⟩ (by first | omega | (dsimp only; omega))
 ·have hall : ¬ ∃ r ∈ l, Q r := fun ⟨r, hr, hq⟩ => by
   obtain ⟨k, hk, rfl⟩ := List.mem_iff_getElem.1 hr
   exact hno k hk (by omega) hq
  refine c_exit (zx3 (zx3 (zz0 (zq1 (zq5 (zq0 (wl_p I_ok rfl (zq3 (zq1 (zj0 (zz2 rfl rfl ?_)))))))))))
  exact ⟨_, rfl, ⟨fun h => absurd h (by decide), fun h => absurd h hall⟩, hX⟩
theorem containsFuncLeaf_calls (w : World) {p : Option Addr} {c G : Nat} {l : List zj8} (hn : ∀ x ∈ l, (zj8.cells x).length = 33) (h : Sl w p l.length 33 (l.flatMap zj8.cells)) (hl : l.length < 1000000000) (Q : zj8 → Prop) [DecidablePred Q]
  (hcf : ∀ args w, (callFunc G args).run Tryz.prog w = .ok (.enter G args) w) (hQ : ∀ w (r : zj8), r.cells.length = 33 → zz1 Tryz.prog G [.agg r.cells.toArray] w fun v w' => v = .bool (decide (Q r)) ∧ Ext No w w') :
  zz1 Tryz.prog 176 [.slice p l.length c, .func (.func G) #[] #[]] w fun v w' => v = .bool (decide (∃ r ∈ l, Q r)) ∧ Ext No w w' := by
 refine zq9 Tryz.func176 rfl rfl rfl rfl ?_
 have hX := Ext.refl No w
 refine zq5 (zq0 (wl_p I_ok rfl (zq3 (zq1 (zq5 (zq0 (wl_p I_ok rfl (wl (zx2 Tryz.call193 rfl rfl rfl rfl rfl rfl (indexFuncLeaf_calls w hn (h.zq2 hX) hl Q hcf hQ) fun v1 w1 hr1 => ?_)))))))))
 obtain ⟨n, rfl, hn1, hE1⟩ := hr1
 have hX := hX.zq4 hE1
 refine wl_p I_ok rfl (zq3 (zq1 (zj0 (zz2 rfl rfl ?_))))
 exact ⟨congrArg Value.bool (decide_eq_decide.2 hn1), hX⟩
theorem checkEdit1_calls (w : World) (r : ChgD) :
  zz1 Tryz.prog 179 [.agg r.cells.toArray] w fun v w' => v = .bool (decide (ChgBad r)) ∧ Ext No w w' := by
 have hs : (strU r.text).size = r.text.length := rfl
 refine zq9 Tryz.func179 rfl rfl rfl rfl ?_
 have hX := Ext.refl No w
 refine zq5 (zq0 (wl (zz9 I_ok rfl fun b1 w1 hn1 hb1 hE1 => ?_)))
 have hX := hX.zq4 hE1
 have hb1 : Blk w1 b1 114 (r.cells) := hb1
 refine wl_p I_ok rfl (zq3 (zq1 (c_cutK (α := Bool) [] rfl (fun z => [(2, .bool z)]) (fun z u => (z = decide (ChgBad r)) ∧ Ext No w u) ?_ ?_)))
 ·refine zq0 ?_
  refine wl_p I_ok rfl (wl (st_ldb I_ok hb1 rfl rfl (wl_p I_ok rfl (zj4 7 rfl (fun hg => ?_) (fun hg => ?_)))))
  ·refine zz5 I_ok 10 rfl ?_
   refine zq3 ?_
   exact zz7 (true) rfl ⟨by symm; rw [decide_eq_true_eq]; exact .inl (by omega), hX⟩
  ·refine zz5 I_ok 1 rfl ?_
   refine wl (st_ldb I_ok hb1 rfl rfl (zz5 I_ok 2 rfl (wl_case 11 rfl (fun hg => ?_) (fun hg => ?_))))
   ·refine zz5 I_ok 1 rfl ?_
    refine wl (st_ldb I_ok hb1 rfl rfl (zz5 I_ok 4 rfl (zq3 ?_)))
    exact zz7 (_) rfl ⟨by
 have hi : r.is = false := by simpa using hg
 have e : (strU r.text ≠ ByteArray.mk #[]) ↔ r.text ≠ [] := by
  constructor
  ·intro h1 h2; exact h1 (by rw [h2]; rfl)
  ·intro h1 h2; exact h1 (strU_inj h2)
 rw [decide_eq_decide]
 refine e.trans ⟨fun h => .inr ⟨hi, h⟩, fun h => h.elim (fun h => absurd h (by omega)) fun h => h.2⟩, hX⟩
   ·refine zz5 I_ok 6 rfl ?_
    refine zq3 ?_
    exact zz7 (false) rfl ⟨by symm; rw [decide_eq_false_iff_not]; have hi : r.is = true := (by simpa using hg); exact fun h => h.elim (fun h => absurd h (by omega)) fun h => absurd (hi.symm.trans h.1) (by decide), hX⟩
 rintro z w2 ⟨rfl, hX⟩
 refine zj0 (zz2 rfl rfl ?_)
 exact ⟨rfl, hX⟩
theorem risingRow_calls (w : World) {p : Option Addr} {c G : Nat} {l : List RowD} (h : Sl w p l.length 2 (l.flatMap RowD.cells)) (hl : l.length < 1000000000) (hlen : ∀ r ∈ l, r.path.length < 1000000000)
  (hcf : ∀ args w, (callFunc G args).run Tryz.prog w = .ok (.enter G args) w) (hQ : ∀ w (r : RowD), zz1 Tryz.prog G [.agg r.cells.toArray] w fun v w' => v = strV r.path ∧ Ext No w w') :
  zz1 Tryz.prog 192 [.agg #[.slice p l.length c, .func (.func G) #[] #[]]] w fun v w' => v = .bool (decide (Rises (l.map RowD.path))) ∧ Ext No w w' := by
 refine zq9 Tryz.func192 rfl rfl rfl rfl ?_
 have hX := Ext.refl No w
 refine zq5 (zq0 (wl (zz9 I_ok rfl fun b1 w1 hn1 hb1 hE1 => ?_)))
 have hX := hX.zq4 hE1
 have hb1 : Blk w1 b1 260 ([.slice p l.length c, .func (.func G) #[] #[]]) := hb1
 refine wl_p I_ok rfl (zq3 (zq1 (zq5 (zq5 (zq0 (wl_p I_ok rfl (wl (st_ldb I_ok hb1 rfl rfl (wl_p I_ok rfl (zq3 (zq1 (c_if rfl (fun hc => ?_) (fun hc => ?_)))))))))))))
 ·refine zq5 ?_
  refine zq0 (wl_p I_ok rfl (zq3 (zq1 (zj0 (zx5 (zz2 rfl rfl ?_))))))
  exact ⟨congrArg Value.bool (by symm; rw [decide_eq_false_iff_not]; intro h; have := h.1; rw [List.length_map] at this; omega), hX⟩
 ·have h32 : l.length ≤ 32 := by omega
  refine zx7 (zq1 (zq5 (zq5 (zq0 (wl_p I_ok rfl (wl (st_ldb I_ok hb1 rfl rfl (wl_p I_ok rfl (zq3 (zq1 (zx4 ?_)))))))))))
  refine zv3 (α := Nat) [1, 10, 11] rfl (fun z => [(12, .int .i64 (z : Int))]) (fun z u => (z ≤ l.length ∧ ∀ k (hk : k < l.length), k < z → PathOk l[k].path ∧ (0 < k → SLt (strU l[k - 1].path) (strU l[k].path))) ∧ Blk u b1 260 ([.slice p l.length c, .func (.func G) #[] #[]]) ∧ Ext No w u) (fun z u => l.length - z) (0) rfl ⟨⟨Nat.zero_le _, fun k _ h => absurd h (Nat.not_lt_zero _)⟩, hb1, hX⟩ ?_
  rintro i w2 ⟨⟨hi, hok⟩, hb1, hX⟩
  refine zq5 (zq0 (wl_p I_ok rfl (zq3 (zq1 (zq5 (c_if rfl (fun hc => ?_) (fun hc => ?_)))))))
  ·have hi : i < l.length := by omega
   obtain ⟨b, off, rfl, hseg0⟩ := h.rowAll (fun r _ => r.len) (by omega)
   refine zx7 (zq1 (zq5 (zx4 (zq5 (zq0 (wl_p I_ok rfl (wl (st_ix I_ok rfl 2 rfl i rfl (by omega) (off + i * 2) rfl (wl (st_ldN I_ok rfl ((hseg0 i hi).zq2 hX) rfl (wl (zz9 I_ok rfl fun b4 w3 hn4 hb4 hE3 => ?_))))))))))))
   have ne1_4 : b1 ≠ b4 := Nat.ne_of_lt (Nat.lt_of_lt_of_le hb1.lt hn4)
   have fr4 := Nat.le_trans hX.size hn4
   have hb1 := hb1.zq2 hE3
   have hX := hX.zq4 hE3
   refine wl_p I_ok rfl (wl (zj1 (l' := (l[i]).cells) I_ok hb4 rfl rfl rfl rfl OneC.h fun w4 hb4 hE4 hs4 => ?_))
   have hb1 := hb1.ext1 hE4 ne1_4
   have hX := hX.zx1 hE4 fr4
   refine zq3 (zq1 ?_)
   refine c_cutK (α := Bool) [1, 10, 11, 12] rfl (fun z => [(42, .bool z)]) (fun z u => (z = decide (¬ (PathOk l[i].path ∧ (0 < i → SLt (strU l[i - 1].path) (strU l[i].path))))) ∧ Blk u b1 260 ([.slice (some ⟨b, off, none⟩) l.length c, .func (.func G) #[] #[]]) ∧ Ext No w u) ?_ ?_
   ·refine c_draw rfl 26 [(0, true), (1, true), (2, true), (3, false), (4, false), (5, true), (6, true), (7, true), (8, true), (9, true), (10, true), (11, true), (12, true), (13, true), (14, true), (15, true), (16, true), (17, true), (19, true), (20, true), (21, true), (18, false), (22, false), (23, true), (24, true), (25, true)] [] (No) (by kernel_rfl) fun w5 hE5 hs5 => ?_
    have hd1 := hb1
    have hd4 := hb4
    have hXd := hX
    have hb1 := hb1.zq2 hE5
    have hX := hX.zq4 hE5
    have hC : Ext (No) _ w5 := hE5.no
    refine wd_k I_ok 1 rfl (wd_ld I_ok rfl rfl (fun w' hw' => (hd1.zq2 hw').cell rfl) ?_)
    refine wd_ldN I_ok rfl rfl (fun w' hw' => (hd4.zq2 hw').seg) rfl ?_
    refine wd_l rfl (zx2 hcf rfl rfl rfl rfl rfl rfl (hQ w5 l[i]) fun v6 w6 hr6 => ⟨(by obtain ⟨rfl, hE6⟩ := hr6; exact hC.zq4 hE6), ?_⟩)
    obtain ⟨rfl, hE6⟩ := hr6
    have hb1 := hb1.zq2 hE6
    have hX := hX.zq4 hE6
    have hC := hC.zq4 hE6
    refine wd_l rfl (zx2 Tryz.call195 rfl rfl rfl rfl rfl rfl (path_calls w6 l[i].path (hlen _ (List.getElem_mem hi))) fun v7 w7 hr7 => ⟨(by obtain ⟨rfl, rfl⟩ := hr7; exact hC), ?_⟩)
    obtain ⟨rfl, rfl⟩ := hr7
    have hC := hC
    refine wd_k I_ok 2 rfl (wd_case 23 rfl (fun hg => ?_) (fun hg => ?_))
    ·have hnp : ¬ PathOk l[i].path := by simpa using hg
     refine wd_k I_ok 19 rfl (wd_sw (zv0 ?_))
     exact zz7 (true) rfl ⟨by symm; rw [decide_eq_true_eq]; exact fun h => hnp h.1, hb1, hX⟩
    ·have hip : PathOk l[i].path := by simpa using hg
     refine wd_k I_ok 3 rfl (wd_caseD 26 rfl (fun hg => ?_) (fun hg => ?_))
     ·refine wd_k I_ok 1 rfl ?_
      refine wd_ld I_ok rfl rfl (fun w' hw' => (hd1.zq2 hw').cell rfl) ?_
      refine wd_k I_ok 1 rfl (wd_ld I_ok rfl rfl (fun w' hw' => (hd1.zq2 hw').cell rfl) ?_)
      refine wd_k I_ok 2 rfl ?_
      rw [IntWalk.i64_in _ (by omega)]
      refine wd_ix I_ok rfl rfl 2 rfl (i - 1) (by omega) (by omega) (off + (i - 1) * 2) rfl (wd_ldN I_ok rfl rfl (fun w' hw' => ((hseg0 (i - 1) (by omega)).zq2 (hXd.zq4 hw'))) rfl ?_)
      refine wd_k I_ok 1 rfl (wd_ld I_ok rfl rfl (fun w' hw' => (hd1.zq2 hw').cell rfl) ?_)
      refine wd_ldN I_ok rfl rfl (fun w' hw' => (hd4.zq2 hw').seg) rfl ?_
      refine wd_l rfl (zx2 hcf rfl rfl rfl rfl rfl rfl (hQ w7 _) fun v8 w8 hr8 => ⟨(by obtain ⟨rfl, hE8⟩ := hr8; exact hC.zq4 hE8), ?_⟩)
      obtain ⟨rfl, hE8⟩ := hr8
      have hb1 := hb1.zq2 hE8
      have hX := hX.zq4 hE8
      have hC := hC.zq4 hE8
      refine wd_l rfl (zx2 hcf rfl rfl rfl rfl rfl rfl (hQ w8 _) fun v9 w9 hr9 => ⟨(by obtain ⟨rfl, hE9⟩ := hr9; exact hC.zq4 hE9), ?_⟩)
      obtain ⟨rfl, hE9⟩ := hr9
      have hb1 := hb1.zq2 hE9
      have hX := hX.zq4 hE9
      refine wd_k I_ok 3 rfl (wd_sw (zv0 ?_))
      exact zz7 (_) rfl ⟨by rw [decide_eq_decide]; exact ⟨fun h1 h2 => h1 (h2.2 (by omega)), fun h1 h2 => h1 ⟨hip, fun _ => h2⟩⟩, hb1, hX⟩
     ·refine wd_k I_ok 16 rfl ?_
      refine wd_sw (zv0 ?_)
      exact zz7 (false) rfl ⟨by symm; rw [decide_eq_false_iff_not]; exact fun h => h ⟨hip, fun h0 => absurd h0 (by omega)⟩, hb1, hX⟩
   rintro z w10 ⟨rfl, hb1, hX⟩
   refine c_if rfl (fun hc => ?_) (fun hc => ?_)
   ·refine zq5 ?_
    refine zq0 (wl_p I_ok rfl (zq3 (zq1 (zj0 (zz3 (zx5 (zx5 (zz3 (zx5 (zz2 rfl rfl ?_))))))))))
    exact ⟨congrArg Value.bool (by symm; rw [decide_eq_false_iff_not]; intro h; have := h.2 i (by rw [List.length_map]; exact hi); exact hc (by simpa using this)), hX⟩
   ·have hki := Decidable.not_not.1 hc
    have hok2 : ∀ k (hk : k < l.length), k < i + 1 → PathOk l[k].path ∧ (0 < k → SLt (strU l[k - 1].path) (strU l[k].path)) := fun k hk hlt => by
     rcases Nat.lt_or_ge k i with h' | h'
     ·exact hok k hk h'
     ·obtain rfl : k = i := by omega
      exact hki
    refine zx7 (zx6 (zq1 (zq0 (wl_p I_ok rfl ?_))))
    rw [IntWalk.i64_in _ (by omega)]
    refine zq3 ?_
    exact zv1 (i + 1) rfl ⟨⟨by omega, hok2⟩, hb1, hX⟩ (by first | omega | (dsimp only; omega))
  ·have hall : Rises (l.map RowD.path) := ⟨by rw [List.length_map]; exact h32, fun k hk => by rw [List.length_map] at hk; simpa using hok k hk (by omega)⟩
   refine c_exit (zx3 (zx3 (zz0 (zq1 (zq5 (zq0 (wl_p I_ok rfl (zq3 (zq1 (zj0 (zz2 rfl rfl ?_)))))))))))
   exact ⟨congrArg Value.bool (decide_eq_true hall).symm, hX⟩
theorem risingChange_calls (w : World) {p : Option Addr} {c G : Nat} {l : List ChgD} (h : Sl w p l.length 3 (l.flatMap ChgD.cells)) (hl : l.length < 1000000000) (hlen : ∀ r ∈ l, r.path.length < 1000000000)
  (hcf : ∀ args w, (callFunc G args).run Tryz.prog w = .ok (.enter G args) w) (hQ : ∀ w (r : ChgD), zz1 Tryz.prog G [.agg r.cells.toArray] w fun v w' => v = strV r.path ∧ Ext No w w') :
  zz1 Tryz.prog 181 [.agg #[.slice p l.length c, .func (.func G) #[] #[]]] w fun v w' => v = .bool (decide (Rises (l.map ChgD.path))) ∧ Ext No w w' := by
 refine zq9 Tryz.func181 rfl rfl rfl rfl ?_
 have hX := Ext.refl No w
 refine zq5 (zq0 (wl (zz9 I_ok rfl fun b1 w1 hn1 hb1 hE1 => ?_)))
 have hX := hX.zq4 hE1
 have hb1 : Blk w1 b1 247 ([.slice p l.length c, .func (.func G) #[] #[]]) := hb1
 refine wl_p I_ok rfl (zq3 (zq1 (zq5 (zq5 (zq0 (wl_p I_ok rfl (wl (st_ldb I_ok hb1 rfl rfl (wl_p I_ok rfl (zq3 (zq1 (c_if rfl (fun hc => ?_) (fun hc => ?_)))))))))))))
 ·refine zq5 ?_
  refine zq0 (wl_p I_ok rfl (zq3 (zq1 (zj0 (zx5 (zz2 rfl rfl ?_))))))
  exact ⟨congrArg Value.bool (by symm; rw [decide_eq_false_iff_not]; intro h; have := h.1; rw [List.length_map] at this; omega), hX⟩
 ·have h32 : l.length ≤ 32 := by omega
  refine zx7 (zq1 (zq5 (zq5 (zq0 (wl_p I_ok rfl (wl (st_ldb I_ok hb1 rfl rfl (wl_p I_ok rfl (zq3 (zq1 (zx4 ?_)))))))))))
  refine zv3 (α := Nat) [1, 10, 11] rfl (fun z => [(12, .int .i64 (z : Int))]) (fun z u => (z ≤ l.length ∧ ∀ k (hk : k < l.length), k < z → PathOk l[k].path ∧ (0 < k → SLt (strU l[k - 1].path) (strU l[k].path))) ∧ Blk u b1 247 ([.slice p l.length c, .func (.func G) #[] #[]]) ∧ Ext No w u) (fun z u => l.length - z) (0) rfl ⟨⟨Nat.zero_le _, fun k _ h => absurd h (Nat.not_lt_zero _)⟩, hb1, hX⟩ ?_
  rintro i w2 ⟨⟨hi, hok⟩, hb1, hX⟩
  refine zq5 (zq0 (wl_p I_ok rfl (zq3 (zq1 (zq5 (c_if rfl (fun hc => ?_) (fun hc => ?_)))))))
  ·have hi : i < l.length := by omega
   obtain ⟨b, off, rfl, hseg0⟩ := h.rowAll (fun r _ => r.len) (by omega)
   refine zx7 (zq1 (zq5 (zx4 (zq5 (zq0 (wl_p I_ok rfl (wl (st_ix I_ok rfl 3 rfl i rfl (by omega) (off + i * 3) rfl (wl (st_ldN I_ok rfl ((hseg0 i hi).zq2 hX) rfl (wl (zz9 I_ok rfl fun b4 w3 hn4 hb4 hE3 => ?_))))))))))))
   have ne1_4 : b1 ≠ b4 := Nat.ne_of_lt (Nat.lt_of_lt_of_le hb1.lt hn4)
   have fr4 := Nat.le_trans hX.size hn4
   have hb1 := hb1.zq2 hE3
   have hX := hX.zq4 hE3
   refine wl_p I_ok rfl (wl (zj1 (l' := (l[i]).cells) I_ok hb4 rfl rfl rfl rfl OneC.h fun w4 hb4 hE4 hs4 => ?_))
   have hb1 := hb1.ext1 hE4 ne1_4
   have hX := hX.zx1 hE4 fr4
   refine zq3 (zq1 ?_)
   refine c_cutK (α := Bool) [1, 10, 11, 12] rfl (fun z => [(42, .bool z)]) (fun z u => (z = decide (¬ (PathOk l[i].path ∧ (0 < i → SLt (strU l[i - 1].path) (strU l[i].path))))) ∧ Blk u b1 247 ([.slice (some ⟨b, off, none⟩) l.length c, .func (.func G) #[] #[]]) ∧ Ext No w u) ?_ ?_
   ·refine c_draw rfl 26 [(0, true), (1, true), (2, true), (3, false), (4, false), (5, true), (6, true), (7, true), (8, true), (9, true), (10, true), (11, true), (12, true), (13, true), (14, true), (15, true), (16, true), (17, true), (19, true), (20, true), (21, true), (18, false), (22, false), (23, true), (24, true), (25, true)] [] (No) (by kernel_rfl) fun w5 hE5 hs5 => ?_
    have hd1 := hb1
    have hd4 := hb4
    have hXd := hX
    have hb1 := hb1.zq2 hE5
    have hX := hX.zq4 hE5
    have hC : Ext (No) _ w5 := hE5.no
    refine wd_k I_ok 1 rfl (wd_ld I_ok rfl rfl (fun w' hw' => (hd1.zq2 hw').cell rfl) ?_)
    refine wd_ldN I_ok rfl rfl (fun w' hw' => (hd4.zq2 hw').seg) rfl ?_
    refine wd_l rfl (zx2 hcf rfl rfl rfl rfl rfl rfl (hQ w5 l[i]) fun v6 w6 hr6 => ⟨(by obtain ⟨rfl, hE6⟩ := hr6; exact hC.zq4 hE6), ?_⟩)
    obtain ⟨rfl, hE6⟩ := hr6
    have hb1 := hb1.zq2 hE6
    have hX := hX.zq4 hE6
    have hC := hC.zq4 hE6
    refine wd_l rfl (zx2 Tryz.call195 rfl rfl rfl rfl rfl rfl (path_calls w6 l[i].path (hlen _ (List.getElem_mem hi))) fun v7 w7 hr7 => ⟨(by obtain ⟨rfl, rfl⟩ := hr7; exact hC), ?_⟩)
    obtain ⟨rfl, rfl⟩ := hr7
    have hC := hC
    refine wd_k I_ok 2 rfl (wd_case 23 rfl (fun hg => ?_) (fun hg => ?_))
    ·have hnp : ¬ PathOk l[i].path := by simpa using hg
     refine wd_k I_ok 19 rfl (wd_sw (zv0 ?_))
     exact zz7 (true) rfl ⟨by symm; rw [decide_eq_true_eq]; exact fun h => hnp h.1, hb1, hX⟩
    ·have hip : PathOk l[i].path := by simpa using hg
     refine wd_k I_ok 3 rfl (wd_caseD 26 rfl (fun hg => ?_) (fun hg => ?_))
     ·refine wd_k I_ok 1 rfl ?_
      refine wd_ld I_ok rfl rfl (fun w' hw' => (hd1.zq2 hw').cell rfl) ?_
      refine wd_k I_ok 1 rfl (wd_ld I_ok rfl rfl (fun w' hw' => (hd1.zq2 hw').cell rfl) ?_)
      refine wd_k I_ok 2 rfl ?_
      rw [IntWalk.i64_in _ (by omega)]
      refine wd_ix I_ok rfl rfl 3 rfl (i - 1) (by omega) (by omega) (off + (i - 1) * 3) rfl (wd_ldN I_ok rfl rfl (fun w' hw' => ((hseg0 (i - 1) (by omega)).zq2 (hXd.zq4 hw'))) rfl ?_)
      refine wd_k I_ok 1 rfl (wd_ld I_ok rfl rfl (fun w' hw' => (hd1.zq2 hw').cell rfl) ?_)
      refine wd_ldN I_ok rfl rfl (fun w' hw' => (hd4.zq2 hw').seg) rfl ?_
      refine wd_l rfl (zx2 hcf rfl rfl rfl rfl rfl rfl (hQ w7 _) fun v8 w8 hr8 => ⟨(by obtain ⟨rfl, hE8⟩ := hr8; exact hC.zq4 hE8), ?_⟩)
      obtain ⟨rfl, hE8⟩ := hr8
      have hb1 := hb1.zq2 hE8
      have hX := hX.zq4 hE8
      have hC := hC.zq4 hE8
      refine wd_l rfl (zx2 hcf rfl rfl rfl rfl rfl rfl (hQ w8 _) fun v9 w9 hr9 => ⟨(by obtain ⟨rfl, hE9⟩ := hr9; exact hC.zq4 hE9), ?_⟩)
      obtain ⟨rfl, hE9⟩ := hr9
      have hb1 := hb1.zq2 hE9
      have hX := hX.zq4 hE9
      refine wd_k I_ok 3 rfl (wd_sw (zv0 ?_))
      exact zz7 (_) rfl ⟨by rw [decide_eq_decide]; exact ⟨fun h1 h2 => h1 (h2.2 (by omega)), fun h1 h2 => h1 ⟨hip, fun _ => h2⟩⟩, hb1, hX⟩
     ·refine wd_k I_ok 16 rfl ?_
      refine wd_sw (zv0 ?_)
      exact zz7 (false) rfl ⟨by symm; rw [decide_eq_false_iff_not]; exact fun h => h ⟨hip, fun h0 => absurd h0 (by omega)⟩, hb1, hX⟩
   rintro z w10 ⟨rfl, hb1, hX⟩
   refine c_if rfl (fun hc => ?_) (fun hc => ?_)
   ·refine zq5 ?_
    refine zq0 (wl_p I_ok rfl (zq3 (zq1 (zj0 (zz3 (zx5 (zx5 (zz3 (zx5 (zz2 rfl rfl ?_))))))))))
    exact ⟨congrArg Value.bool (by symm; rw [decide_eq_false_iff_not]; intro h; have := h.2 i (by rw [List.length_map]; exact hi); exact hc (by simpa using this)), hX⟩
   ·have hki := Decidable.not_not.1 hc
    have hok2 : ∀ k (hk : k < l.length), k < i + 1 → PathOk l[k].path ∧ (0 < k → SLt (strU l[k - 1].path) (strU l[k].path)) := fun k hk hlt => by
     rcases Nat.lt_or_ge k i with h' | h'
     ·exact hok k hk h'
     ·obtain rfl : k = i := by omega
      exact hki
    refine zx7 (zx6 (zq1 (zq0 (wl_p I_ok rfl ?_))))
    rw [IntWalk.i64_in _ (by omega)]
    refine zq3 ?_
    exact zv1 (i + 1) rfl ⟨⟨by omega, hok2⟩, hb1, hX⟩ (by first | omega | (dsimp only; omega))
  ·have hall : Rises (l.map ChgD.path) := ⟨by rw [List.length_map]; exact h32, fun k hk => by rw [List.length_map] at hk; simpa using hok k hk (by omega)⟩
   refine c_exit (zx3 (zx3 (zz0 (zq1 (zq5 (zq0 (wl_p I_ok rfl (zq3 (zq1 (zj0 (zz2 rfl rfl ?_)))))))))))
   exact ⟨congrArg Value.bool (decide_eq_true hall).symm, hX⟩
theorem check_calls (w : World) {p : Option Addr} {c : Nat} {l : List RowD} (h : Sl w p l.length 2 (l.flatMap RowD.cells)) (hl : l.length < 1000000000) (hlen : ∀ r ∈ l, r.path.length < 1000000000) :
  zz1 Tryz.prog 175 [.agg #[.slice p l.length c]] w fun v w' => v = .int .i64 (if RowsOk l then 0 else 150) ∧ Ext No w w' := by
 refine zq9 Tryz.func175 rfl rfl rfl rfl ?_
 have hX := Ext.refl No w
 refine zq5 (zq0 (wl (zz9 I_ok rfl fun b1 w1 hn1 hb1 hE1 => ?_)))
 have hX := hX.zq4 hE1
 have hb1 : Blk w1 b1 102 ([.slice p l.length c]) := hb1
 refine wl_p I_ok rfl (zq3 (zq1 (zq5 (zq0 (wl_p I_ok rfl (wl (st_ldb I_ok hb1 rfl rfl ?_)))))))
 refine wl (zx2 Tryz.call189 rfl rfl rfl rfl rfl rfl (containsFuncRow_calls w1 (h.zq2 hX) hl (fun r => 256 < r.text.length) Tryz.call190 fun w r _ => check1_calls w r) fun v2 w2 hr2 => ?_)
 obtain ⟨rfl, hE2⟩ := hr2
 have hb1 := hb1.zq2 hE2
 have hX := hX.zq4 hE2
 refine wl_p I_ok rfl (zq3 (zq1 (zq5 (c_cutK (α := Bool) [] rfl (fun z => [(14, .bool z)]) (fun z u => (z = decide (¬ RowsOk l)) ∧ Ext No w u) ?_ ?_))))
 ·refine zq0 ?_
  refine wl_p I_ok rfl (zj4 8 rfl (fun hg => ?_) (fun hg => ?_))
  ·refine zz5 I_ok 6 rfl ?_
   refine zq3 ?_
   exact zz7 (true) rfl ⟨by symm; rw [decide_eq_true_eq]; exact fun h => h.1 hg, hX⟩
  ·refine zz5 I_ok 1 rfl ?_
   refine wl (st_ldb I_ok hb1 rfl rfl (wl (st_bd I_ok rfl (by simp [partsOk]; decide) (l' := [.slice p l.length c, .func (.func 191) #[] #[]]) rfl ?_)))
   refine wl (zx2 Tryz.call192 rfl rfl rfl rfl rfl rfl (risingRow_calls w2 (h.zq2 hX) hl hlen Tryz.call191 rowPath_calls) fun v3 w3 hr3 => ?_)
   obtain ⟨rfl, hE3⟩ := hr3
   have hX := hX.zq4 hE3
   refine zz5 I_ok 2 rfl (zq3 ?_)
   exact zz7 (_) rfl ⟨by rw [← decide_not, decide_eq_decide]; exact ⟨fun h1 h2 => h1 h2.2, fun h1 h2 => h1 ⟨hg, h2⟩⟩, hX⟩
 rintro z w4 ⟨rfl, hX⟩
 refine c_if rfl (fun hc => ?_) (fun hc => ?_)
 ·refine zq5 ?_
  refine zq0 (wl_p I_ok rfl (zq3 (zq1 (zj0 (zx5 (zz2 rfl rfl ?_))))))
  exact ⟨by rw [if_neg hc], hX⟩
 ·refine zx7 ?_
  refine zq1 (zq5 (zq0 (wl_p I_ok rfl (zq3 (zq1 (zj0 (zz2 rfl rfl ?_)))))))
  exact ⟨by rw [if_pos (Decidable.not_not.1 hc)], hX⟩
theorem checkEdit_calls (w : World) {p : Option Addr} {c : Nat} {l : List ChgD} (h : Sl w p l.length 3 (l.flatMap ChgD.cells)) (hl : l.length < 1000000000) (hlen : ∀ r ∈ l, r.path.length < 1000000000) :
  zz1 Tryz.prog 152 [.agg #[.slice p l.length c]] w fun v w' => v = .int .i64 (if EditOk l then 0 else 151) ∧ Ext No w w' := by
 refine zq9 Tryz.func152 rfl rfl rfl rfl ?_
 have hX := Ext.refl No w
 refine zq5 (zq0 (wl (zz9 I_ok rfl fun b1 w1 hn1 hb1 hE1 => ?_)))
 have hX := hX.zq4 hE1
 have hb1 : Blk w1 b1 43 ([.slice p l.length c]) := hb1
 refine wl_p I_ok rfl (zq3 (zq1 (zq5 (zq0 (wl_p I_ok rfl (wl (st_ldb I_ok hb1 rfl rfl ?_)))))))
 refine wl (zx2 Tryz.call178 rfl rfl rfl rfl rfl rfl (containsFuncChange_calls w1 (h.zq2 hX) hl ChgBad Tryz.call179 fun w r _ => checkEdit1_calls w r) fun v2 w2 hr2 => ?_)
 obtain ⟨rfl, hE2⟩ := hr2
 have hb1 := hb1.zq2 hE2
 have hX := hX.zq4 hE2
 refine wl_p I_ok rfl (zq3 (zq1 (zq5 (c_cutK (α := Bool) [] rfl (fun z => [(14, .bool z)]) (fun z u => (z = decide (¬ EditOk l)) ∧ Ext No w u) ?_ ?_))))
 ·refine zq0 ?_
  refine wl_p I_ok rfl (zj4 8 rfl (fun hg => ?_) (fun hg => ?_))
  ·refine zz5 I_ok 6 rfl ?_
   refine zq3 ?_
   exact zz7 (true) rfl ⟨by symm; rw [decide_eq_true_eq]; exact fun h => h.1 hg, hX⟩
  ·refine zz5 I_ok 1 rfl ?_
   refine wl (st_ldb I_ok hb1 rfl rfl (wl (st_bd I_ok rfl (by simp [partsOk]; decide) (l' := [.slice p l.length c, .func (.func 180) #[] #[]]) rfl ?_)))
   refine wl (zx2 Tryz.call181 rfl rfl rfl rfl rfl rfl (risingChange_calls w2 (h.zq2 hX) hl hlen Tryz.call180 changePath_calls) fun v3 w3 hr3 => ?_)
   obtain ⟨rfl, hE3⟩ := hr3
   have hX := hX.zq4 hE3
   refine zz5 I_ok 2 rfl (zq3 ?_)
   exact zz7 (_) rfl ⟨by rw [← decide_not, decide_eq_decide]; exact ⟨fun h1 h2 => h1 h2.2, fun h1 h2 => h1 ⟨hg, h2⟩⟩, hX⟩
 rintro z w4 ⟨rfl, hX⟩
 refine c_if rfl (fun hc => ?_) (fun hc => ?_)
 ·refine zq5 ?_
  refine zq0 (wl_p I_ok rfl (zq3 (zq1 (zj0 (zx5 (zz2 rfl rfl ?_))))))
  exact ⟨by rw [if_neg hc], hX⟩
 ·refine zx7 ?_
  refine zq1 (zq5 (zq0 (wl_p I_ok rfl (zq3 (zq1 (zj0 (zz2 rfl rfl ?_)))))))
  exact ⟨by rw [if_pos (Decidable.not_not.1 hc)], hX⟩
theorem right5_calls (w : World) {p : Option Addr} {c : Nat} {l : List RowD} (h : Sl w p l.length 2 (l.flatMap RowD.cells)) (hl : l.length < 1000000000) (hlen : ∀ r ∈ l, r.path.length < 1000000000) :
  zz1 Tryz.prog 81 [.agg #[.slice p l.length c]] w fun v w' => v = .bool (decide (RowsOk l)) ∧ Ext No w w' := by
 refine zq9 Tryz.func81 rfl rfl rfl rfl ?_
 have hX := Ext.refl No w
 refine zq5 (zq0 (wl (zz9 I_ok rfl fun b1 w1 hn1 hb1 hE1 => ?_)))
 have hX := hX.zq4 hE1
 have hb1 : Blk w1 b1 102 ([.slice p l.length c]) := hb1
 refine wl_p I_ok rfl (zq3 (zq1 (zq5 (zq5 (zq0 (wl_p I_ok rfl (zq3 (zq1 (zx4 ?_)))))))))
 refine zv3 (α := Nat) [1] rfl (fun z => [(3, .int .i64 (z : Int))]) (fun z u => (z ≤ l.length ∧ ∀ k (hk : k < l.length), k < z → RowGood l k hk) ∧ Blk u b1 102 ([.slice p l.length c]) ∧ Ext No w u) (fun z u => l.length - z) (0) rfl ⟨⟨Nat.zero_le _, fun k _ h => absurd h (Nat.not_lt_zero _)⟩, hb1, hX⟩ ?_
 rintro i w2 ⟨⟨hi, hok⟩, hb1, hX⟩
 refine zq5 (zq5 (zq0 (wl_p I_ok rfl (wl (st_ldb I_ok hb1 rfl rfl (wl_p I_ok rfl (zq3 (zq1 (c_if rfl (fun hc => ?_) (fun hc => ?_))))))))))
 ·have hi : i < l.length := by omega
  obtain ⟨b, off, rfl, hseg0⟩ := h.rowAll (fun r _ => r.len) (by omega)
  have hst : (strU l[i].text).size = l[i].text.length := rfl
  refine zx7 (zq1 (zq5 (zx4 (c_cutK (α := Bool) [1, 3] rfl (fun z => [(52, .bool z)]) (fun z u => (z = decide (¬ RowGood l i hi)) ∧ Blk u b1 102 ([.slice (some ⟨b, off, none⟩) l.length c]) ∧ Ext No w u) ?_ ?_))))
  ·refine c_draw rfl 42 [(0, true), (1, true), (2, true), (3, true), (4, true), (5, true), (6, true), (7, true), (8, true), (9, false), (10, true), (11, true), (12, true), (13, true), (14, true), (15, true), (16, true), (17, true), (18, true), (19, true), (20, true), (21, true), (22, true), (23, true), (24, true), (25, true), (26, true), (27, true), (28, true), (29, true), (30, true), (31, true), (32, true), (33, true), (34, true), (35, true), (36, true), (37, true), (38, true), (39, true), (40, true), (41, true)] [] (No) (by kernel_rfl) fun w3 hE3 hs3 => ?_
   have hd1 := hb1
   have hXd := hX
   have hb1 := hb1.zq2 hE3
   have hX := hX.zq4 hE3
   have hC : Ext (No) _ w3 := hE3.no
   refine wd_k I_ok 3 rfl (wd_caseD 13 rfl (fun hg => ?_) (fun hg => ?_))
   ·refine wd_k I_ok 39 rfl ?_
    refine wd_sw (zv0 ?_)
    exact zz7 (true) rfl ⟨by symm; rw [decide_eq_true_eq]; exact fun h => h.1 (by omega), hb1, hX⟩
   ·refine wd_k I_ok 1 rfl ?_
    refine wd_ld I_ok rfl rfl (fun w' hw' => (hd1.zq2 hw').cell rfl) ?_
    refine wd_k I_ok 1 rfl (wd_ix I_ok rfl rfl 2 rfl i rfl (by omega) (off + i * 2) rfl (wd_k I_ok 1 rfl (wd_ld I_ok rfl rfl (fun w' hw' => (((hseg0 i hi).zq2 (hXd.zq4 hw')) 0 _ rfl)) ?_)))
    refine wd_l rfl (zx2 Tryz.call136 rfl rfl rfl rfl rfl rfl (path5_calls w3 l[i].path (hlen _ (List.getElem_mem hi))) fun v4 w4 hr4 => ⟨(by obtain ⟨rfl, rfl⟩ := hr4; exact hC), ?_⟩)
    obtain ⟨rfl, rfl⟩ := hr4
    refine wd_k I_ok 3 rfl (wd_case 23 rfl (fun hg => ?_) (fun hg => ?_))
    ·have hnp : ¬ PathOk l[i].path := by simpa using hg
     refine wd_k I_ok 29 rfl (wd_sw (zv0 ?_))
     exact zz7 (true) rfl ⟨by symm; rw [decide_eq_true_eq]; exact fun h => hnp h.2.1, hb1, hX⟩
    ·have hip : PathOk l[i].path := by simpa using hg
     refine wd_k I_ok 1 rfl (wd_ld I_ok rfl rfl (fun w' hw' => (hd1.zq2 hw').cell rfl) ?_)
     refine wd_k I_ok 1 rfl (wd_ix I_ok rfl rfl 2 rfl i rfl (by omega) (off + i * 2) rfl (wd_k I_ok 1 rfl (wd_ld I_ok rfl rfl (fun w' hw' => (((hseg0 i hi).zq2 (hXd.zq4 hw')) 1 _ rfl)) ?_)))
     refine wd_k I_ok 4 rfl (wd_caseD 33 rfl (fun hg => ?_) (fun hg => ?_))
     ·refine wd_k I_ok 19 rfl ?_
      refine wd_sw (zv0 ?_)
      exact zz7 (true) rfl ⟨by symm; rw [decide_eq_true_eq]; exact fun h => (by have := h.2.2.1; omega), hb1, hX⟩
     ·refine wd_k I_ok 3 rfl ?_
      refine wd_caseD 36 rfl (fun hg => ?_) (fun hg => ?_)
      ·refine wd_k I_ok 1 rfl ?_
       refine wd_ld I_ok rfl rfl (fun w' hw' => (hd1.zq2 hw').cell rfl) ?_
       refine wd_k I_ok 1 rfl (wd_ix I_ok rfl rfl 2 rfl i rfl (by omega) (off + i * 2) rfl (wd_k I_ok 1 rfl (wd_ld I_ok rfl rfl (fun w' hw' => (((hseg0 i hi).zq2 (hXd.zq4 hw')) 0 _ rfl)) ?_)))
       refine wd_k I_ok 1 rfl (wd_ld I_ok rfl rfl (fun w' hw' => (hd1.zq2 hw').cell rfl) ?_)
       refine wd_k I_ok 2 rfl ?_
       rw [IntWalk.i64_in _ (by omega)]
       refine wd_ix I_ok rfl rfl 2 rfl (i - 1) (by omega) (by omega) (off + (i - 1) * 2) rfl (wd_k I_ok 1 rfl (wd_ld I_ok rfl rfl (fun w' hw' => (((hseg0 (i - 1) (by omega)).zq2 (hXd.zq4 hw')) 0 _ rfl)) ?_))
       refine wd_k I_ok 3 rfl (wd_sw (zv0 ?_))
       exact zz7 (_) rfl ⟨by rw [decide_eq_decide]; exact ⟨fun h1 h2 => (slt_flip _ _).2 (h2.2.2.2 (by omega)) (h1.imp id fun e => e), fun h1 => Decidable.not_not.1 fun h2 => h1 ⟨by omega, hip, by omega, fun _ => (slt_flip _ _).1 h2⟩⟩, hb1, hX⟩
      ·refine wd_k I_ok 16 rfl ?_
       refine wd_sw (zv0 ?_)
       exact zz7 (false) rfl ⟨by symm; rw [decide_eq_false_iff_not]; exact fun h => h ⟨by omega, hip, by omega, fun h0 => absurd h0 (by omega)⟩, hb1, hX⟩
  rintro z w5 ⟨rfl, hb1, hX⟩
  refine c_if rfl (fun hc => ?_) (fun hc => ?_)
  ·refine zq5 ?_
   refine zq0 (wl_p I_ok rfl (zq3 (zq1 (zj0 (zz3 (zx5 (zx5 (zz3 (zx5 (zz2 rfl rfl ?_))))))))))
   exact ⟨congrArg Value.bool (by symm; rw [decide_eq_false_iff_not]; exact fun h => hc (rowsOk_iff.1 h i hi)), hX⟩
  ·have hgi := Decidable.not_not.1 hc
   refine zx7 (zx6 (zq1 (zq0 (wl_p I_ok rfl ?_))))
   rw [IntWalk.i64_in _ (by omega)]
   refine zq3 ?_
   exact zv1 (i + 1) rfl ⟨⟨by omega, fun k hk hlt => (by rcases Nat.lt_or_ge k i with h0 | h0; exact hok k hk h0; (have e : k = i := (by omega)); subst e; exact hgi)⟩, hb1, hX⟩ (by first | omega | (dsimp only; omega))
 ·have hall : RowsOk l := rowsOk_iff.2 fun k hk => hok k hk (by omega)
  refine c_exit (zx3 (zx3 (zz0 (zq1 (zq5 (zq0 (wl_p I_ok rfl (zq3 (zq1 (zj0 (zz2 rfl rfl ?_)))))))))))
  exact ⟨congrArg Value.bool (decide_eq_true hall).symm, hX⟩
theorem rightEdit5_calls (w : World) {p : Option Addr} {c : Nat} {l : List ChgD} (h : Sl w p l.length 3 (l.flatMap ChgD.cells)) (hl : l.length < 1000000000) (hlen : ∀ r ∈ l, r.path.length < 1000000000) :
  zz1 Tryz.prog 109 [.agg #[.slice p l.length c]] w fun v w' => v = .bool (decide (EditOk l)) ∧ Ext No w w' := by
 refine zq9 Tryz.func109 rfl rfl rfl rfl ?_
 have hX := Ext.refl No w
 refine zq5 (zq0 (wl (zz9 I_ok rfl fun b1 w1 hn1 hb1 hE1 => ?_)))
 have hX := hX.zq4 hE1
 have hb1 : Blk w1 b1 43 ([.slice p l.length c]) := hb1
 refine wl_p I_ok rfl (zq3 (zq1 (zq5 (zq5 (zq0 (wl_p I_ok rfl (zq3 (zq1 (zx4 ?_)))))))))
 refine zv3 (α := Nat) [1] rfl (fun z => [(3, .int .i64 (z : Int))]) (fun z u => (z ≤ l.length ∧ ∀ k (hk : k < l.length), k < z → ChgGood l k hk) ∧ Blk u b1 43 ([.slice p l.length c]) ∧ Ext No w u) (fun z u => l.length - z) (0) rfl ⟨⟨Nat.zero_le _, fun k _ h => absurd h (Nat.not_lt_zero _)⟩, hb1, hX⟩ ?_
 rintro i w2 ⟨⟨hi, hok⟩, hb1, hX⟩
 refine zq5 (zq5 (zq0 (wl_p I_ok rfl (wl (st_ldb I_ok hb1 rfl rfl (wl_p I_ok rfl (zq3 (zq1 (c_if rfl (fun hc => ?_) (fun hc => ?_))))))))))
 ·have hi : i < l.length := by omega
  obtain ⟨b, off, rfl, hseg0⟩ := h.rowAll (fun r _ => r.len) (by omega)
  have hst : (strU l[i].text).size = l[i].text.length := rfl
  refine zx7 (zq1 (zq5 (zx4 (zq5 (zq0 (wl_p I_ok rfl (wl (st_ldb I_ok hb1 rfl rfl (wl_p I_ok rfl (wl (st_ix I_ok rfl 3 rfl i rfl (by omega) (off + i * 3) rfl (wl (st_ldN I_ok rfl ((hseg0 i hi).zq2 hX) rfl ?_)))))))))))))
  refine wl (zz9 I_ok rfl fun b4 w3 hn4 hb4 hE3 => ?_)
  have ne1_4 : b1 ≠ b4 := Nat.ne_of_lt (Nat.lt_of_lt_of_le hb1.lt hn4)
  have fr4 := Nat.le_trans hX.size hn4
  have hb1 := hb1.zq2 hE3
  have hX := hX.zq4 hE3
  refine wl (zj1 (l' := (l[i]).cells) I_ok hb4 rfl rfl rfl rfl OneC.h fun w4 hb4 hE4 hs4 => ?_)
  have hb1 := hb1.ext1 hE4 ne1_4
  have hX := hX.zx1 hE4 fr4
  refine zq3 (zq1 (c_cutK (α := Bool) [1, 3] rfl (fun z => [(56, .bool z)]) (fun z u => (z = decide (¬ ChgGood l i hi)) ∧ Blk u b1 43 ([.slice (some ⟨b, off, none⟩) l.length c]) ∧ Ext No w u) ?_ ?_))
  ·refine c_draw rfl 40 [(0, true), (1, true), (2, true), (3, true), (4, true), (5, false), (6, true), (7, true), (8, true), (9, true), (10, true), (11, true), (12, true), (13, true), (14, true), (15, true), (16, true), (17, true), (18, true), (19, true), (20, true), (21, true), (22, true), (23, true), (24, true), (25, true), (26, true), (27, true), (28, true), (29, true), (30, true), (31, true), (32, true), (33, true), (34, true), (35, true), (36, true), (37, true), (38, true), (39, true)] [] (No) (by kernel_rfl) fun w5 hE5 hs5 => ?_
   have hd1 := hb1
   have hd4 := hb4
   have hXd := hX
   have hb1 := hb1.zq2 hE5
   have hX := hX.zq4 hE5
   have hC : Ext (No) _ w5 := hE5.no
   refine wd_k I_ok 3 rfl (wd_caseD 19 rfl (fun hg => ?_) (fun hg => ?_))
   ·refine wd_k I_ok 37 rfl ?_
    refine wd_sw (zv0 ?_)
    exact zz7 (true) rfl ⟨by symm; rw [decide_eq_true_eq]; exact fun h => h.1 (by omega), hb1, hX⟩
   ·refine wd_k I_ok 1 rfl ?_
    refine wd_ld I_ok rfl rfl (fun w' hw' => (hd4.zq2 hw').cell rfl) ?_
    refine wd_l rfl (zx2 Tryz.call136 rfl rfl rfl rfl rfl rfl (path5_calls w5 l[i].path (hlen _ (List.getElem_mem hi))) fun v6 w6 hr6 => ⟨(by obtain ⟨rfl, rfl⟩ := hr6; exact hC), ?_⟩)
    obtain ⟨rfl, rfl⟩ := hr6
    refine wd_k I_ok 3 rfl (wd_case 25 rfl (fun hg => ?_) (fun hg => ?_))
    ·have hnp : ¬ PathOk l[i].path := by simpa using hg
     refine wd_k I_ok 31 rfl (wd_sw (zv0 ?_))
     exact zz7 (true) rfl ⟨by symm; rw [decide_eq_true_eq]; exact fun h => hnp h.2.1, hb1, hX⟩
    ·have hip : PathOk l[i].path := by simpa using hg
     refine wd_k I_ok 1 rfl (wd_ld I_ok rfl rfl (fun w' hw' => (hd4.zq2 hw').cell rfl) ?_)
     refine wd_k I_ok 4 rfl (wd_caseD 31 rfl (fun hg => ?_) (fun hg => ?_))
     ·refine wd_k I_ok 25 rfl ?_
      refine wd_sw (zv0 ?_)
      exact zz7 (true) rfl ⟨by symm; rw [decide_eq_true_eq]; exact fun h => h.2.2.1 (.inl (by omega)), hb1, hX⟩
     ·refine wd_k I_ok 1 rfl ?_
      refine wd_ld I_ok rfl rfl (fun w' hw' => (hd4.zq2 hw').cell rfl) ?_
      refine wd_k I_ok 2 rfl (wd_case 35 rfl (fun hg => ?_) (fun hg => ?_))
      ·have his : l[i].is = false := (by simpa using hg)
       refine wd_k I_ok 1 rfl (wd_ld I_ok rfl rfl (fun w' hw' => (hd4.zq2 hw').cell rfl) ?_)
       refine wd_k I_ok 4 rfl (wd_caseD 41 rfl (fun hg => ?_) (fun hg => ?_))
       ·have htx := (chg_nil _).1 hg
        refine wd_k I_ok 15 rfl (wd_sw (zv0 ?_))
        exact zz7 (true) rfl ⟨by symm; rw [decide_eq_true_eq]; exact fun h => h.2.2.1 (.inr ⟨his, htx⟩), hb1, hX⟩
       ·have htx : ¬ l[i].text ≠ [] := fun h => hg ((chg_nil _).2 h)
        have hnb : ¬ ChgBad l[i] := fun h => h.elim (fun h => absurd h (by omega)) fun h => htx h.2
        refine wd_k I_ok 3 rfl (wd_caseD 44 rfl (fun hg => ?_) (fun hg => ?_))
        ·refine wd_k I_ok 1 rfl ?_
         refine wd_ld I_ok rfl rfl (fun w' hw' => (hd4.zq2 hw').cell rfl) ?_
         refine wd_k I_ok 1 rfl (wd_ld I_ok rfl rfl (fun w' hw' => (hd1.zq2 hw').cell rfl) ?_)
         refine wd_k I_ok 2 rfl ?_
         rw [IntWalk.i64_in _ (by omega)]
         refine wd_ix I_ok rfl rfl 3 rfl (i - 1) (by omega) (by omega) (off + (i - 1) * 3) rfl (wd_k I_ok 1 rfl (wd_ld I_ok rfl rfl (fun w' hw' => (((hseg0 (i - 1) (by omega)).zq2 (hXd.zq4 hw')) 0 _ rfl)) ?_))
         refine wd_k I_ok 3 rfl (wd_sw (zv0 ?_))
         exact zz7 (_) rfl ⟨by rw [decide_eq_decide]; exact ⟨fun h1 h2 => (slt_flip _ _).2 (h2.2.2.2 (by omega)) (h1.imp id fun e => e), fun h1 => Decidable.not_not.1 fun h2 => h1 ⟨by omega, hip, hnb, fun _ => (slt_flip _ _).1 h2⟩⟩, hb1, hX⟩
        ·refine wd_k I_ok 12 rfl ?_
         refine wd_sw (zv0 ?_)
         exact zz7 (false) rfl ⟨by symm; rw [decide_eq_false_iff_not]; exact fun h => h ⟨by omega, hip, hnb, fun h0 => absurd h0 (by omega)⟩, hb1, hX⟩
      ·have his : l[i].is = true := (by simpa using hg)
       have hnb : ¬ ChgBad l[i] := fun h => h.elim (fun h => absurd h (by omega)) fun h => absurd (his.symm.trans h.1) (by decide)
       refine wd_k I_ok 9 rfl (wd_caseD 44 rfl (fun hg => ?_) (fun hg => ?_))
       ·refine wd_k I_ok 1 rfl ?_
        refine wd_ld I_ok rfl rfl (fun w' hw' => (hd4.zq2 hw').cell rfl) ?_
        refine wd_k I_ok 1 rfl (wd_ld I_ok rfl rfl (fun w' hw' => (hd1.zq2 hw').cell rfl) ?_)
        refine wd_k I_ok 2 rfl ?_
        rw [IntWalk.i64_in _ (by omega)]
        refine wd_ix I_ok rfl rfl 3 rfl (i - 1) (by omega) (by omega) (off + (i - 1) * 3) rfl (wd_k I_ok 1 rfl (wd_ld I_ok rfl rfl (fun w' hw' => (((hseg0 (i - 1) (by omega)).zq2 (hXd.zq4 hw')) 0 _ rfl)) ?_))
        refine wd_k I_ok 3 rfl (wd_sw (zv0 ?_))
        exact zz7 (_) rfl ⟨by rw [decide_eq_decide]; exact ⟨fun h1 h2 => (slt_flip _ _).2 (h2.2.2.2 (by omega)) (h1.imp id fun e => e), fun h1 => Decidable.not_not.1 fun h2 => h1 ⟨by omega, hip, hnb, fun _ => (slt_flip _ _).1 h2⟩⟩, hb1, hX⟩
       ·refine wd_k I_ok 12 rfl ?_
        refine wd_sw (zv0 ?_)
        exact zz7 (false) rfl ⟨by symm; rw [decide_eq_false_iff_not]; exact fun h => h ⟨by omega, hip, hnb, fun h0 => absurd h0 (by omega)⟩, hb1, hX⟩
  rintro z w7 ⟨rfl, hb1, hX⟩
  refine c_if rfl (fun hc => ?_) (fun hc => ?_)
  ·refine zq5 ?_
   refine zq0 (wl_p I_ok rfl (zq3 (zq1 (zj0 (zz3 (zx5 (zx5 (zz3 (zx5 (zz2 rfl rfl ?_))))))))))
   exact ⟨congrArg Value.bool (by symm; rw [decide_eq_false_iff_not]; exact fun h => hc (editOk_iff.1 h i hi)), hX⟩
  ·have hgi := Decidable.not_not.1 hc
   refine zx7 (zx6 (zq1 (zq0 (wl_p I_ok rfl ?_))))
   rw [IntWalk.i64_in _ (by omega)]
   refine zq3 ?_
   exact zv1 (i + 1) rfl ⟨⟨by omega, fun k hk hlt => (by rcases Nat.lt_or_ge k i with h0 | h0; exact hok k hk h0; (have e : k = i := (by omega)); subst e; exact hgi)⟩, hb1, hX⟩ (by first | omega | (dsimp only; omega))
 ·have hall : EditOk l := editOk_iff.2 fun k hk => hok k hk (by omega)
  refine c_exit (zx3 (zx3 (zz0 (zq1 (zq5 (zq0 (wl_p I_ok rfl (zq3 (zq1 (zj0 (zz2 rfl rfl ?_)))))))))))
  exact ⟨congrArg Value.bool (decide_eq_true hall).symm, hX⟩
end Go.Proofs.YtpcdihkcenfgkaaGreatDoor
