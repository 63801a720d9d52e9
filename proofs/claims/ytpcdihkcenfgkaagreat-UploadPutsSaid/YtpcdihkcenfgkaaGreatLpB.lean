/-
  Walks and laws towards: UploadPutsSaid , walked
-/
import Derived.DeepKeys
import Derived.Test.YtpcdihkcenfgkaaGreatLpA
namespace Go.Proofs.YtpcdihkcenfgkaaGreat
open Go.Vc
theorem lies16_calls (w : World) {p : Option Addr} {c : Nat} {l : List UInt8} (h : SlB w p l) (hl : l.length < 1000000000) (x n : Nat) (hn : n < 100) (hx : x < 2 ^ 16) :
    CallsV Tryz.prog 148 [.slice p l.length c, .int .u16 (x : Int), .int .i64 (n : Int)] w fun v w' => ∃ b, v = .slice (some ⟨b, 0, none⟩) (l.length + n) (l.length + n) ∧ w.heap.size ≤ b ∧ Blk w' b 5 (bytesU (l ++ be n x)) ∧ Ext No w w' := by
  refine calls_enter Tryz.func148 rfl rfl rfl rfl ?_
  have hX := Ext.refl No w
  refine c_seq (c_region (wl_p I_ok rfl (wl_nil (f_then (c_seq (c_region (wl_p I_ok rfl ?_)))))))
  rw [IntWalk.i64_in _ (by omega)]
  refine wl (st_mk I_ok rfl (l.length + n) (l.length + n) 1 rfl rfl rfl (by decide) (by omega) (by omega) (Nat.le_refl _) (by omega) (by unfold maxLen; omega) fun b14 w1 hn14 hb14 hE1 hs1 => ?_)
  have fr14 := Nat.le_trans hX.size hn14
  have hX := hX.thenNo hE1
  have hb14 : Blk w1 b14 5 (bytesU (List.replicate (l.length + n) 0)) := by (have e : rep (l.length + n) (cellsOf ti5.zero) = bytesU (List.replicate (l.length + n) 0) := rep_bytes _); rw [← e]; exact hb14
  refine wl_p I_ok rfl (wl_nil (f_then (c_seq (c_region (wl_p I_ok rfl (wl (st_cp I_ok rfl 1 rfl hb14 (Src.slice (h.extNo hX) OneC.h) (by dsimp only; omega) (by rw [bytesU_len, List.length_replicate]; dsimp only; omega) fun w2 hc2 hE2 hs2 => ?_)))))))
  have hb14 : Blk w2 b14 5 (bytesU (l ++ (List.replicate n 0 ++ []))) := by
    have e : Vc.put (bytesU (List.replicate (l.length + n) 0)) 0 (bytesU l) = bytesU (l ++ (List.replicate n 0 ++ [])) := by
      rw [put_eq _ _ _ (by simp [bytesU_len])]
      rw [bytesU_drop]
      simp [bytesU_append, bytesU_len]
    rw [← e]; exact hc2
  have hX := hX.thenNew hE2 fr14
  refine wl_p I_ok rfl (wl_nil (f_then (c_seq (c_seq (c_region (wl_p I_ok rfl (wl_nil (f_then (c_block ?_)))))))))
  refine c_loopK (α := Nat × Nat × List UInt8) [7, 8] rfl (fun z => [(1, .int .u16 (z.2.1 : Int)), (9, .int .i64 ((l.length + z.1 : Nat) : Int))]) (fun z u => (z.1 ≤ n ∧ z.2.1 < 2 ^ 16 ∧ be n x = be z.1 z.2.1 ++ z.2.2 ∧ Blk u b14 5 (bytesU (l ++ (List.replicate z.1 0 ++ z.2.2)))) ∧ Ext No w u) (fun z u => z.1) (n, x, []) rfl ⟨⟨Nat.le_refl _, hx, by simp, hb14⟩, hX⟩ ?_
  rintro ⟨j, y, t⟩ w3 ⟨⟨hj, hy, hbe, hb14⟩, hX⟩
  try dsimp only
  dsimp only at hj hy hbe hb14
  refine c_seq (c_seq (c_region (wl_p I_ok rfl (wl_nil (f_then (c_if rfl (fun hc => ?_) (fun hc => ?_)))))))
  · obtain ⟨i, rfl⟩ : ∃ i, j = i + 1 := ⟨j - 1, by omega⟩
    refine c_skip (f_then (c_block (c_seq (c_region (wl_p I_ok rfl ?_)))))
    rw [IntWalk.i64_in _ (by omega)]
    refine wl_nil (f_then (c_seq (c_region (wl_p I_ok rfl ?_))))
    rw [show (((l.length + (i + 1) : Nat) : Int) - 1) = ((l.length + i : Nat) : Int) from by omega]
    rw [wrap_byte]
    refine wl (st_ix I_ok rfl 1 rfl (l.length + i) rfl (by omega) (0 + (l.length + i) * 1) rfl (wl (st_set I_ok hb14 rfl rfl (by rw [bytesU_len]; simp; omega) fun w4 hb14 hE4 hs4 => ?_)))
    have hX := hX.thenNew hE4 fr14
    have hb14 : Blk w4 b14 5 (bytesU (l ++ (List.replicate i 0 ++ (UInt8.ofNat y :: t)))) := by
      rw [Nat.zero_add, Nat.mul_one, fill_byte] at hb14
      exact hb14
    refine wl_nil (f_then (c_seq (c_region (wl_p I_ok rfl (wl_nil (f_then (c_region (wl_p I_ok rfl ?_))))))))
    rw [show Int.fdiv (Int.fdiv (y : Int) (2 ^ min (4 : Int).toNat IntKind.u16.bits)) (2 ^ min (4 : Int).toNat IntKind.u16.bits) = ((y / 16 / 16 : Nat) : Int) from by rw [show (2 : Int) ^ min (4 : Int).toNat IntKind.u16.bits = 2 ^ 4 from rfl, shr4, shr4]]
    refine wl_nil ?_
    exact f_blockN (f_round (i, y / 16 / 16, UInt8.ofNat y :: t) rfl ⟨⟨by dsimp only; omega, by dsimp only; omega, by dsimp only; rw [hbe, be, Nat.div_div_eq_div_mul]; simp, hb14⟩, hX⟩ (by first | omega | (dsimp only; omega)))
  · have hj0 : j = 0 := by omega
    subst hj0
    have hbe : be n x = t := by rw [hbe]; rfl
    rw [List.replicate_zero, List.nil_append, ← hbe] at hb14
    refine c_exit (f_thenE (f_thenE (f_blockE (f_then (c_seq (c_region (wl_p I_ok rfl (wl_nil (f_then (c_ret (f_ret1 rfl rfl ?_)))))))))))
    exact ⟨b14, rfl, fr14, hb14, hX⟩

theorem put16_calls (w : World) {p : Option Addr} {c : Nat} {l : List UInt8} (h : SlB w p l) (hl : l.length < 1000000000) (x : Nat) (hx : x < 2 ^ 16) :
    CallsV Tryz.prog 134 [.slice p l.length c, .int .u16 (x : Int)] w fun v w' => ∃ b, v = .slice (some ⟨b, 0, none⟩) (l ++ be 2 x).length (l ++ be 2 x).length ∧ w.heap.size ≤ b ∧ Blk w' b 5 (bytesU (l ++ be 2 x)) ∧ Ext No w w' := by
  refine calls_enter Tryz.func134 rfl rfl rfl rfl ?_
  have hX := Ext.refl No w
  refine c_seq (c_region (wl_p I_ok rfl (wl_nil (f_then (c_seq (c_region (wl_p I_ok rfl ?_)))))))
  have hX0 := hX
  refine wl (st_call Tryz.call148 rfl rfl rfl rfl rfl rfl (lies16_calls w (h.extNo hX) hl x 2 (by decide) hx) fun v1 w1 hr1 => ?_)
  obtain ⟨b, rfl, hn, hb, hE1⟩ := hr1
  have hX := hX.thenNo hE1
  refine wl_p I_ok rfl (wl_nil (f_then (c_ret (f_ret1 rfl rfl ?_))))
  exact ⟨b, by simp [be_len], Nat.le_trans hX0.size hn, hb, hX⟩

theorem lies32_calls (w : World) {p : Option Addr} {c : Nat} {l : List UInt8} (h : SlB w p l) (hl : l.length < 1000000000) (x n : Nat) (hn : n < 100) (hx : x < 2 ^ 32) :
    CallsV Tryz.prog 135 [.slice p l.length c, .int .u32 (x : Int), .int .i64 (n : Int)] w fun v w' => ∃ b, v = .slice (some ⟨b, 0, none⟩) (l.length + n) (l.length + n) ∧ w.heap.size ≤ b ∧ Blk w' b 5 (bytesU (l ++ be n x)) ∧ Ext No w w' := by
  refine calls_enter Tryz.func135 rfl rfl rfl rfl ?_
  have hX := Ext.refl No w
  refine c_seq (c_region (wl_p I_ok rfl (wl_nil (f_then (c_seq (c_region (wl_p I_ok rfl ?_)))))))
  rw [IntWalk.i64_in _ (by omega)]
  refine wl (st_mk I_ok rfl (l.length + n) (l.length + n) 1 rfl rfl rfl (by decide) (by omega) (by omega) (Nat.le_refl _) (by omega) (by unfold maxLen; omega) fun b14 w1 hn14 hb14 hE1 hs1 => ?_)
  have fr14 := Nat.le_trans hX.size hn14
  have hX := hX.thenNo hE1
  have hb14 : Blk w1 b14 5 (bytesU (List.replicate (l.length + n) 0)) := by (have e : rep (l.length + n) (cellsOf ti5.zero) = bytesU (List.replicate (l.length + n) 0) := rep_bytes _); rw [← e]; exact hb14
  refine wl_p I_ok rfl (wl_nil (f_then (c_seq (c_region (wl_p I_ok rfl (wl (st_cp I_ok rfl 1 rfl hb14 (Src.slice (h.extNo hX) OneC.h) (by dsimp only; omega) (by rw [bytesU_len, List.length_replicate]; dsimp only; omega) fun w2 hc2 hE2 hs2 => ?_)))))))
  have hb14 : Blk w2 b14 5 (bytesU (l ++ (List.replicate n 0 ++ []))) := by
    have e : Vc.put (bytesU (List.replicate (l.length + n) 0)) 0 (bytesU l) = bytesU (l ++ (List.replicate n 0 ++ [])) := by
      rw [put_eq _ _ _ (by simp [bytesU_len])]
      rw [bytesU_drop]
      simp [bytesU_append, bytesU_len]
    rw [← e]; exact hc2
  have hX := hX.thenNew hE2 fr14
  refine wl_p I_ok rfl (wl_nil (f_then (c_seq (c_seq (c_region (wl_p I_ok rfl (wl_nil (f_then (c_block ?_)))))))))
  refine c_loopK (α := Nat × Nat × List UInt8) [7, 8] rfl (fun z => [(1, .int .u32 (z.2.1 : Int)), (9, .int .i64 ((l.length + z.1 : Nat) : Int))]) (fun z u => (z.1 ≤ n ∧ z.2.1 < 2 ^ 32 ∧ be n x = be z.1 z.2.1 ++ z.2.2 ∧ Blk u b14 5 (bytesU (l ++ (List.replicate z.1 0 ++ z.2.2)))) ∧ Ext No w u) (fun z u => z.1) (n, x, []) rfl ⟨⟨Nat.le_refl _, hx, by simp, hb14⟩, hX⟩ ?_
  rintro ⟨j, y, t⟩ w3 ⟨⟨hj, hy, hbe, hb14⟩, hX⟩
  try dsimp only
  dsimp only at hj hy hbe hb14
  refine c_seq (c_seq (c_region (wl_p I_ok rfl (wl_nil (f_then (c_if rfl (fun hc => ?_) (fun hc => ?_)))))))
  · obtain ⟨i, rfl⟩ : ∃ i, j = i + 1 := ⟨j - 1, by omega⟩
    refine c_skip (f_then (c_block (c_seq (c_region (wl_p I_ok rfl ?_)))))
    rw [IntWalk.i64_in _ (by omega)]
    refine wl_nil (f_then (c_seq (c_region (wl_p I_ok rfl ?_))))
    rw [show (((l.length + (i + 1) : Nat) : Int) - 1) = ((l.length + i : Nat) : Int) from by omega]
    rw [wrap_byte]
    refine wl (st_ix I_ok rfl 1 rfl (l.length + i) rfl (by omega) (0 + (l.length + i) * 1) rfl (wl (st_set I_ok hb14 rfl rfl (by rw [bytesU_len]; simp; omega) fun w4 hb14 hE4 hs4 => ?_)))
    have hX := hX.thenNew hE4 fr14
    have hb14 : Blk w4 b14 5 (bytesU (l ++ (List.replicate i 0 ++ (UInt8.ofNat y :: t)))) := by
      rw [Nat.zero_add, Nat.mul_one, fill_byte] at hb14
      exact hb14
    refine wl_nil (f_then (c_seq (c_region (wl_p I_ok rfl (wl_nil (f_then (c_region (wl_p I_ok rfl ?_))))))))
    rw [show Int.fdiv (Int.fdiv (y : Int) (2 ^ min (4 : Int).toNat IntKind.u32.bits)) (2 ^ min (4 : Int).toNat IntKind.u32.bits) = ((y / 16 / 16 : Nat) : Int) from by rw [show (2 : Int) ^ min (4 : Int).toNat IntKind.u32.bits = 2 ^ 4 from rfl, shr4, shr4]]
    refine wl_nil ?_
    exact f_blockN (f_round (i, y / 16 / 16, UInt8.ofNat y :: t) rfl ⟨⟨by dsimp only; omega, by dsimp only; omega, by dsimp only; rw [hbe, be, Nat.div_div_eq_div_mul]; simp, hb14⟩, hX⟩ (by first | omega | (dsimp only; omega)))
  · have hj0 : j = 0 := by omega
    subst hj0
    have hbe : be n x = t := by rw [hbe]; rfl
    rw [List.replicate_zero, List.nil_append, ← hbe] at hb14
    refine c_exit (f_thenE (f_thenE (f_blockE (f_then (c_seq (c_region (wl_p I_ok rfl (wl_nil (f_then (c_ret (f_ret1 rfl rfl ?_)))))))))))
    exact ⟨b14, rfl, fr14, hb14, hX⟩

theorem put32_calls (w : World) {p : Option Addr} {c : Nat} {l : List UInt8} (h : SlB w p l) (hl : l.length < 1000000000) (x : Nat) (hx : x < 2 ^ 32) :
    CallsV Tryz.prog 113 [.slice p l.length c, .int .u32 (x : Int)] w fun v w' => ∃ b, v = .slice (some ⟨b, 0, none⟩) (l ++ be 4 x).length (l ++ be 4 x).length ∧ w.heap.size ≤ b ∧ Blk w' b 5 (bytesU (l ++ be 4 x)) ∧ Ext No w w' := by
  refine calls_enter Tryz.func113 rfl rfl rfl rfl ?_
  have hX := Ext.refl No w
  refine c_seq (c_region (wl_p I_ok rfl (wl_nil (f_then (c_seq (c_region (wl_p I_ok rfl ?_)))))))
  have hX0 := hX
  refine wl (st_call Tryz.call135 rfl rfl rfl rfl rfl rfl (lies32_calls w (h.extNo hX) hl x 4 (by decide) hx) fun v1 w1 hr1 => ?_)
  obtain ⟨b, rfl, hn, hb, hE1⟩ := hr1
  have hX := hX.thenNo hE1
  refine wl_p I_ok rfl (wl_nil (f_then (c_ret (f_ret1 rfl rfl ?_))))
  exact ⟨b, by simp [be_len], Nat.le_trans hX0.size hn, hb, hX⟩



end Go.Proofs.YtpcdihkcenfgkaaGreat


namespace Go.Proofs.YtpcdihkcenfgkaaGreat
open Go.Vc
theorem high_calls (n : Nat) (hn : n < 100) : ∀ (w : World) (x : Nat), x < 2 ^ 64 →
    CallsV Tryz.prog 89 [.int .u64 (x : Int), .int .i64 (n : Int)] w fun v w' => ∃ q c, v = .slice q n c ∧ Own w' q n c 5 1 (bytesU (be n x)) ∧ (∀ b, OwnB q b → w.heap.size ≤ b) ∧ Ext No w w' := by
  induction n using Nat.strongRecOn
  rename_i n ih
  intro w x hx
  refine calls_enter Tryz.func89 rfl rfl rfl rfl ?_
  have hX := Ext.refl No w
  refine c_seq (c_region (wl_p I_ok rfl (wl_nil (f_then (c_seq (c_seq (c_region (wl_p I_ok rfl (wl_nil (f_then (c_if rfl (fun hc => ?_) (fun hc => ?_))))))))))))
  · have h0 : n = 0 := by omega
    subst h0
    refine c_seq (c_region (wl_p I_ok rfl (wl_nil (f_then (c_ret (f_thenR (f_ret1 rfl rfl ?_)))))))
    exact ⟨none, 0, rfl, Own.nil _ _ _, fun b hb => by (cases hb), hX⟩
  · obtain ⟨m, rfl⟩ : ∃ m, n = m + 1 := ⟨n - 1, by omega⟩
    refine c_skip (f_then (c_seq (c_region (wl_p I_ok rfl ?_))))
    rw [IntWalk.i64_in _ (by omega)]
    have e0 : IntKind.u64.wrap ((x : Int).tdiv 256) = ((x / 256 : Nat) : Int) := by rw [IntWalk.u64_quo _ _ (by omega)]; rfl
    rw [e0]
    rw [show (((m + 1 : Nat) : Int) - 1) = (m : Int) from by omega]
    refine wl (st_call Tryz.call89 rfl rfl rfl rfl rfl rfl (ih m (by omega) (by omega) w (x / 256) (by omega)) fun v1 w1 hr1 => ?_)
    obtain ⟨q, c, rfl, hq, hqn, hE1⟩ := hr1
    have hX := hX.thenNo hE1
    refine wl_p I_ok rfl (wl (st_bs I_ok rfl 1 rfl rfl rfl (by decide) (by decide) (by simp [partsOk]) rfl fun b15 w2 hn15 hb15 hE2 hs2 => ?_))
    have hX := hX.thenNo hE2
    have hb15 : Blk w2 b15 5 (bytesU [UInt8.ofNat x]) := by
      have e1 : IntKind.u8.wrap ((x : Int).tmod 256) = ((UInt8.ofNat x).toNat : Int) := by
        rw [Int.tmod_eq_emod_of_nonneg (by omega), IntKind.wrap_u8, UInt8.toNat_ofNat']; omega
      have e2 := hb15
      rw [e1] at e2
      exact e2
    refine wl (st_app I_ok rfl 1 1 rfl rfl rfl (by decide) (hq.ext hE2 fun _ _ => id) (Src.slice (m := 1) ⟨rfl, .inr ⟨b15, 0, rfl, hb15.seg⟩⟩ OneC.h) (by dsimp only [maxLen]; omega) (by dsimp only; omega) fun p3 c3 w3 ho3 hE3 hB3 => ?_)
    have hX := hX.trans hE3 fun y hy hF => by have := hqn y hF; omega
    refine wl_p I_ok rfl (wl_nil (f_then (c_ret (f_ret1 rfl rfl ?_))))
    exact ⟨p3, c3, rfl, by rw [be, bytesU_append]; exact ho3, fun b hb => (hB3 b hb).elim (fun h => hqn b h) fun h => by have := hE1.size; have := hE2.size; omega, hX⟩

theorem number_calls (w : World) {p : Option Addr} {c : Nat} {l : List UInt8} (h : SlB w p l) (hl : l.length ≤ 8) :
    CallsV Tryz.prog 136 [.slice p l.length c] w fun v w' => v = .int .u64 (num l : Int) ∧ w' = w := by
  refine calls_enter Tryz.func136 rfl rfl rfl rfl ?_
  have hX := Ext.refl No w
  refine c_seq (c_region (wl_p I_ok rfl (wl_nil (f_then (c_seq (c_region (wl_p I_ok rfl (wl_nil (f_then (c_seq (c_seq (c_region (wl_p I_ok rfl (wl_nil (f_then (c_block ?_))))))))))))))))
  refine c_loopK (α := Nat × Nat × Nat) [0] rfl (fun z => [(3, .int .u64 (z.2.1 : Int)), (4, .int .u64 (z.2.2 : Int)), (5, .int .i64 (z.1 : Int))]) (fun z u => ((z.1 ≤ l.length ∧ z.2.1 = num (l.drop z.1) ∧ z.2.2 = 256 ^ (l.length - z.1) % 2 ^ 64) ∧ u = w) ∧ Ext No w u) (fun z u => z.1) ((l.length, 0, 1)) rfl ⟨⟨⟨Nat.le_refl _, by simp [num], by simp⟩, rfl⟩, hX⟩ ?_
  rintro ⟨i, x, q⟩ w1 ⟨⟨⟨hi, hx, hq⟩, rfl⟩, hX⟩
  try dsimp only
  dsimp only at hi hx hq
  subst hx hq
  refine c_seq (c_seq (c_region (wl_p I_ok rfl (wl_nil (f_then (c_if rfl (fun hc => ?_) (fun hc => ?_)))))))
  · obtain ⟨k, rfl⟩ : ∃ k, i = k + 1 := ⟨i - 1, by omega⟩
    have hk : k < l.length := by omega
    obtain ⟨b, off, rfl, hcell⟩ := h.at hk
    have hx1 := num_drop l hk
    have hx2 := num_lt (l.drop k)
    rw [List.length_drop] at hx2
    have hx3 : l.length - k = (l.length - (k + 1)) + 1 := by omega
    have hx4 : 256 ^ (l.length - k) ≤ 256 ^ 8 := Nat.pow_le_pow_right (by decide) (by omega)
    have hx5 : 256 ^ (l.length - (k + 1)) ≤ 256 ^ 7 := Nat.pow_le_pow_right (by decide) (by omega)
    have hx6 := (l[k]).toNat_lt
    have hx7 : 256 ^ (l.length - (k + 1)) % 2 ^ 64 = 256 ^ (l.length - (k + 1)) := Nat.mod_eq_of_lt (Nat.lt_of_le_of_lt hx5 (by decide))
    rw [hx7]
    have hw : IntKind.u64.wrap ((num (l.drop (k + 1)) : Int) + IntKind.u64.wrap (((256 ^ (l.length - (k + 1)) : Nat) : Int) * IntKind.u64.wrap ((l[k]).toNat : Int))) = ((num (l.drop k) : Nat) : Int) := by
      rw [IntWalk.u64_in ((l[k]).toNat : Int) (by omega), ← Int.natCast_mul, Nat.mul_comm, IntWalk.u64_in (((l[k]).toNat * 256 ^ (l.length - (k + 1)) : Nat) : Int) (by omega), IntWalk.u64_in _ (by omega)]
      omega
    have hw2 : IntKind.u64.wrap (((256 ^ (l.length - (k + 1)) : Nat) : Int) * 256) = ((256 ^ (l.length - k) % 2 ^ 64 : Nat) : Int) := by
      rw [hx3, Nat.pow_succ, IntKind.wrap_u64]; omega
    refine c_skip (f_then (c_seq (c_block (c_seq (c_region (wl_p I_ok rfl ?_))))))
    rw [IntWalk.i64_in _ (by omega)]
    refine wl (st_ix I_ok rfl 1 rfl k (by omega) (by omega) (off + k * 1) rfl (wl (st_ld I_ok rfl hcell (wl_p I_ok rfl ?_))))
    rw [hw]
    refine wl_nil (f_then (c_region (wl_p I_ok rfl ?_)))
    rw [hw2]
    refine wl_nil (f_blockN (f_then (c_region (wl_p I_ok rfl ?_))))
    rw [IntWalk.i64_in _ (by omega)]
    rw [show (((k + 1 : Nat) : Int) - 1) = (k : Int) from by omega]
    refine wl_nil ?_
    exact f_round (k, num (l.drop k), 256 ^ (l.length - k) % 2 ^ 64) rfl ⟨⟨⟨by dsimp only; omega, rfl, rfl⟩, rfl⟩, hX⟩ (by first | omega | (dsimp only; omega))
  · have h0 : i = 0 := by omega
    subst h0
    rw [List.drop_zero]
    refine c_exit (f_thenE (f_thenE (f_blockE (f_then (c_seq (c_region (wl_p I_ok rfl (wl_nil (f_then (c_ret (f_ret1 rfl rfl ?_)))))))))))
    exact ⟨rfl, rfl⟩

theorem both_calls (w : World) {p q : Option Addr} {c d : Nat} {l m : List UInt8} (h : SlB w p l) (h' : SlB w q m) (hl : l.length < 1000000000) (hm : m.length < 1000000000) :
    CallsV Tryz.prog 118 [.slice p l.length c, .slice q m.length d] w fun v w' => ∃ r k, v = .slice r (l ++ m).length k ∧ Own w' r (l ++ m).length k 5 1 (bytesU (l ++ m)) ∧ (∀ b, OwnB r b → w.heap.size ≤ b) ∧ Ext No w w' := by
  refine calls_enter Tryz.func118 rfl rfl rfl rfl ?_
  have hX := Ext.refl No w
  refine c_seq (c_region (wl_p I_ok rfl (wl_nil (f_then (c_seq (c_region (wl (st_bs I_ok rfl 1 rfl rfl rfl (by decide) (by decide) trivial (l' := []) rfl fun b6 w1 hn6 hb6 hE1 hs1 => ?_))))))))
  have hX := hX.thenNo hE1
  refine wl_p I_ok rfl ?_
  refine wl (st_app I_ok rfl 1 1 rfl rfl rfl (by decide) (Own.blk (n := 0) (c := 0) hb6 1 rfl (Nat.le_refl _) (by decide)) (Src.slice (h.extNo hX) OneC.h) (by dsimp only [maxLen]; omega) (by dsimp only; omega) fun p2 c2 w2 ho2 hE2 hB2 => ?_)
  have hX := hX.trans hE2 fun y hy hF => by have e : b6 = y := congrArg Addr.block (Option.some.inj hF); omega
  have hn1 : ∀ x, OwnB p2 x → w.heap.size ≤ x := fun x hx => (hB2 x hx).elim (fun hF => by have e : b6 = x := congrArg Addr.block (Option.some.inj hF); omega) fun h => by have := hE1.size; omega
  have ho1 : Own w2 p2 (0 + l.length) c2 5 1 (bytesU l) := ho2
  refine wl_p I_ok rfl (wl_nil (f_then (c_seq (c_region (wl_p I_ok rfl ?_)))))
  have hX2 := hX
  refine wl (st_app I_ok rfl 1 1 rfl rfl rfl (by decide) ho1 (Src.slice (h'.extNo hX) OneC.h) (by dsimp only [maxLen]; omega) (by dsimp only; omega) fun p3 c3 w3 ho3 hE3 hB3 => ?_)
  have hX := hX2.trans hE3 fun y hy hF => by have := hn1 y hF; omega
  have hn2 : ∀ x, OwnB p3 x → w.heap.size ≤ x := fun x hx => (hB3 x hx).elim (fun h => hn1 x h) fun h => Nat.le_trans hX2.size h
  refine wl_p I_ok rfl (wl_nil (f_then (c_ret (f_ret1 rfl rfl ?_))))
  exact ⟨p3, c3, by dsimp only; rw [List.length_append, Nat.zero_add], by rw [List.length_append, bytesU_append]; rw [Nat.zero_add] at ho3; exact ho3, hn2, hX⟩
end Go.Proofs.YtpcdihkcenfgkaaGreat
namespace Go.Vc
section
variable {P : Program} {I : Info} {f : Fs} {ops : Array Oper} {o : Oper} {env : Env} {w : World}

end
end Go.Vc
namespace Go.Vc

abbrev W32 := BitVec 32
abbrev wordV (x : W32) : Value := .int .u32 (x.toNat : Int)
def wordsV (l : List W32) : List Value := l.map wordV
theorem wordsV_len (l : List W32) : (wordsV l).length = l.length := by simp [wordsV]
theorem wordsV_append (a b : List W32) : wordsV (a ++ b) = wordsV a ++ wordsV b := by simp [wordsV]
theorem wordsV_get (l : List W32) {i : Nat} (h : i < l.length) : (wordsV l)[i]? = some (wordV l[i]) := by simp [wordsV, h]
instance (l : List W32) : OneC (wordsV l) := ⟨fun u hu => by obtain ⟨x, _, rfl⟩ := List.mem_map.1 hu; rfl⟩

theorem w_ofInt (x : W32) : BitVec.ofInt 32 (x.toNat : Int) = x := by
  apply BitVec.eq_of_toNat_eq
  have := x.isLt
  rw [BitVec.toNat_ofInt]
  omega
theorem w_in (x : W32) : IntKind.u32.wrap (x.toNat : Int) = (x.toNat : Int) := by
  have := x.isLt
  rw [IntKind.wrap_u32]; omega
theorem w_wrap (n : Nat) : IntKind.u32.wrap (n : Int) = ((BitVec.ofNat 32 n).toNat : Int) := by
  rw [IntKind.wrap_u32, BitVec.toNat_ofNat]; omega
theorem w_add (x y : W32) : IntKind.u32.wrap ((x.toNat : Int) + (y.toNat : Int)) = ((x + y).toNat : Int) := by
  rw [IntKind.wrap_u32, BitVec.toNat_add]; omega
theorem w_not (x : W32) : IntKind.u32.wrap (4294967295 - (x.toNat : Int)) = ((~~~x).toNat : Int) := by
  have := x.isLt
  rw [IntKind.wrap_u32, BitVec.toNat_not]; omega
theorem w_xor (x y : W32) : bitI .xor .u32 (x.toNat : Int) (y.toNat : Int) = ((x ^^^ y).toNat : Int) := by
  show IntKind.u32.wrap ((BitVec.ofInt 32 (x.toNat : Int) ^^^ BitVec.ofInt 32 (y.toNat : Int)).toNat : Int) = _
  rw [w_ofInt, w_ofInt, w_in]
theorem w_and (x y : W32) : bitI .and .u32 (x.toNat : Int) (y.toNat : Int) = ((x &&& y).toNat : Int) := by
  show IntKind.u32.wrap ((BitVec.ofInt 32 (x.toNat : Int) &&& BitVec.ofInt 32 (y.toNat : Int)).toNat : Int) = _
  rw [w_ofInt, w_ofInt, w_in]
theorem w_or (x y : W32) : bitI .or .u32 (x.toNat : Int) (y.toNat : Int) = ((x ||| y).toNat : Int) := by
  show IntKind.u32.wrap ((BitVec.ofInt 32 (x.toNat : Int) ||| BitVec.ofInt 32 (y.toNat : Int)).toNat : Int) = _
  rw [w_ofInt, w_ofInt, w_in]
/-- a word turned round -/
def rot (x : W32) (n : Nat) : W32 := x >>> n ||| x <<< (32 - n)
/-- several turns together -/
def mixW (x : W32) (ns : List Nat) : W32 := ns.foldl (fun o n => o ^^^ rot x n) 0
theorem rot_eq (x : W32) (n : Nat) (h : 0 < n ∧ n < 32) : (rot x n).toNat = x.toNat / 2 ^ n + (x.toNat % 2 ^ n) * 2 ^ (32 - n) := by
  have hx := x.isLt
  obtain ⟨k, hk⟩ : ∃ k, 32 = k + n := ⟨32 - n, by omega⟩
  have hk' : 32 - n = k := by omega
  have e : 2 ^ 32 = 2 ^ k * 2 ^ n := by rw [← Nat.pow_add, ← hk]
  rw [rot, hk', BitVec.toNat_or, BitVec.toNat_ushiftRight, BitVec.toNat_shiftLeft, Nat.shiftRight_eq_div_pow, Nat.shiftLeft_eq, e, Nat.mul_comm x.toNat, Nat.mul_mod_mul_left]
  have hlt : x.toNat / 2 ^ n < 2 ^ k := Nat.div_lt_of_lt_mul (by rw [Nat.mul_comm, ← e]; exact hx)
  have h2 := Nat.two_pow_add_eq_or_of_lt hlt (x.toNat % 2 ^ n)
  rw [Nat.or_comm, ← h2, Nat.add_comm, Nat.mul_comm]

theorem turn_eq (x : W32) (n : Nat) (h : 0 < n ∧ n < 32) : IntKind.u32.wrap (IntKind.u32.wrap ((x.toNat : Int).tdiv ((2 ^ n : Nat) : Int)) + IntKind.u32.wrap ((x.toNat : Int).tmod ((2 ^ n : Nat) : Int) * ((2 ^ (32 - n) : Nat) : Int))) = ((rot x n).toNat : Int) := by
  have e := rot_eq x n h
  have hr := (rot x n).isLt
  have e1 : (x.toNat : Int).tdiv ((2 ^ n : Nat) : Int) = ((x.toNat / 2 ^ n : Nat) : Int) := rfl
  have e2 : (x.toNat : Int).tmod ((2 ^ n : Nat) : Int) = ((x.toNat % 2 ^ n : Nat) : Int) := rfl
  rw [e1, e2, ← Int.natCast_mul]
  rw [IntKind.wrap_u32, IntKind.wrap_u32, IntKind.wrap_u32]
  omega
theorem div_eq (x : W32) (n : Nat) : IntKind.u32.wrap ((x.toNat : Int).tdiv ((2 ^ n : Nat) : Int)) = ((x >>> n).toNat : Int) := by
  have e1 : (x.toNat : Int).tdiv ((2 ^ n : Nat) : Int) = ((x.toNat / 2 ^ n : Nat) : Int) := rfl
  have hx := x.isLt
  have h2 : x.toNat / 2 ^ n ≤ x.toNat := Nat.div_le_self _ _
  rw [e1, BitVec.toNat_ushiftRight, Nat.shiftRight_eq_div_pow, IntKind.wrap_u32]
  generalize x.toNat / 2 ^ n = q at h2 ⊢
  omega
/-- the next word of a block that is drawn out -/
def nextW (b : List UInt8) (l : List W32) : W32 :=
  if l.length < 16 then BitVec.ofNat 32 (num ((b.drop (4 * l.length)).take 4))
  else l.getD (l.length - 16) 0 + l.getD (l.length - 7) 0 + (mixW (l.getD (l.length - 2) 0) [17, 19] ^^^ l.getD (l.length - 2) 0 >>> 10) + (mixW (l.getD (l.length - 15) 0) [7, 18] ^^^ l.getD (l.length - 15) 0 >>> 3)
def sched (b : List UInt8) : Nat → List W32
  | 0 => []
  | t + 1 => sched b t ++ [nextW b (sched b t)]
theorem sched_len (b : List UInt8) (t : Nat) : (sched b t).length = t := by
  induction t with
  | zero => rfl
  | succ t ih => simp [sched, ih]
theorem words_getD (l : List W32) {i : Nat} (h : i < l.length) : (wordsV l)[i]? = some (wordV (l.getD i 0)) := by
  rw [wordsV_get _ h, List.getD_eq_getElem?_getD, List.getElem?_eq_getElem h]
  rfl
theorem nextW_raw {b : List UInt8} {l : List W32} (h : l.length < 16) : nextW b l = BitVec.ofNat 32 (num ((b.drop (4 * l.length)).take 4)) := if_pos h
theorem nextW_mix {b : List UInt8} {l : List W32} (h : ¬ l.length < 16) : nextW b l = l.getD (l.length - 16) 0 + l.getD (l.length - 7) 0 + (mixW (l.getD (l.length - 2) 0) [17, 19] ^^^ l.getD (l.length - 2) 0 >>> 10) + (mixW (l.getD (l.length - 15) 0) [7, 18] ^^^ l.getD (l.length - 15) 0 >>> 3) := if_neg h
/-- one turn of the eight words -/
def turnW (l : List W32) (k w : W32) : List W32 :=
  match l with
  | [a, b, c, d, e, f, g, h] =>
    let x := h + mixW e [6, 11, 25] + (g ^^^ (e &&& (f ^^^ g))) + k + w
    let y := mixW a [2, 13, 22] + ((a &&& b) ||| (c &&& (a ||| b)))
    [x + y, a, b, c, d + x, e, f, g]
  | l => l
def turnsW (h ks ws : List W32) : Nat → List W32
  | 0 => h
  | t + 1 => turnW (turnsW h ks ws t) (ks.getD t 0) (ws.getD t 0)
theorem turnW_len (l : List W32) (k w : W32) : (turnW l k w).length = l.length := by
  unfold turnW
  split <;> rfl
theorem turnsW_len (h ks ws : List W32) (t : Nat) : (turnsW h ks ws t).length = h.length := by
  induction t with
  | zero => rfl
  | succ t ih => rw [turnsW, turnW_len, ih]
theorem eight {α : Type} {l : List α} (h : l.length = 8) : ∃ a b c d e f g i, l = [a, b, c, d, e, f, g, i] := by
  match l, h with
  | [a, b, c, d, e, f, g, i], _ => exact ⟨a, b, c, d, e, f, g, i, rfl⟩
theorem zip_set {f : W32 → W32 → W32} {h l : List W32} {i : Nat} (h1 : i < h.length) (h2 : i < l.length) : (wordsV (List.zipWith f (h.take i) (l.take i) ++ h.drop i)).set (0 + i * 1) (wordV (f h[i] l[i])) = wordsV (List.zipWith f (h.take (i + 1)) (l.take (i + 1)) ++ h.drop (i + 1)) := by
  have e1 : (List.zipWith f (h.take i) (l.take i)).length = i := by simp; omega
  rw [Nat.zero_add, Nat.mul_one, wordsV, ← List.map_set, List.set_append_right _ _ (by omega), e1, Nat.sub_self, List.drop_eq_getElem_cons h1, List.set_cons_zero, List.take_succ_eq_append_getElem h1, List.take_succ_eq_append_getElem h2, List.zipWith_append (by simp; omega)]
  simp [wordsV]
theorem zip_at {f : W32 → W32 → W32} {h l : List W32} {i : Nat} (h1 : i < h.length) (h2 : i < l.length) : (wordsV (List.zipWith f (h.take i) (l.take i) ++ h.drop i))[0 + i * 1]? = some (wordV h[i]) := by
  have e1 : (List.zipWith f (h.take i) (l.take i)).length = i := by simp; omega
  rw [Nat.zero_add, Nat.mul_one, wordsV, List.getElem?_map, List.getElem?_append_right (by omega), e1, Nat.sub_self, List.drop_eq_getElem_cons h1]
  rfl
def intoW (ks h : List W32) (b : List UInt8) : List W32 := List.zipWith (· + ·) h (turnsW h ks (sched b 64) 64)
theorem intoW_len (ks h : List W32) (b : List UInt8) : (intoW ks h b).length = h.length := by
  rw [intoW, List.length_zipWith, turnsW_len, Nat.min_self]
/-- the words after so many blocks -/
def blocksW (ks h : List W32) (p : List UInt8) : Nat → List W32
  | 0 => h
  | n + 1 => intoW ks (blocksW ks h p n) ((p.drop (64 * n)).take 64)
theorem blocksW_len (ks h : List W32) (p : List UInt8) (n : Nat) : (blocksW ks h p n).length = h.length := by
  induction n with
  | zero => rfl
  | succ n ih => rw [blocksW, intoW_len, ih]
def padW (l : List UInt8) : List UInt8 := l ++ [128] ++ List.replicate ((l.length + 72) / 64 * 64 - 8 - (l.length + 1)) 0 ++ be 8 (8 * l.length)
def rootsW : List W32 := [1116352408, 1899447441, 3049323471, 3921009573, 961987163, 1508970993, 2453635748, 2870763221,
  3624381080, 310598401, 607225278, 1426881987, 1925078388, 2162078206, 2614888103, 3248222580,
  3835390401, 4022224774, 264347078, 604807628, 770255983, 1249150122, 1555081692, 1996064986,
  2554220882, 2821834349, 2952996808, 3210313671, 3336571891, 3584528711, 113926993, 338241895,
  666307205, 773529912, 1294757372, 1396182291, 1695183700, 1986661051, 2177026350, 2456956037,
  2730485921, 2820302411, 3259730800, 3345764771, 3516065817, 3600352804, 4094571909, 275423344,
  430227734, 506948616, 659060556, 883997877, 958139571, 1322822218, 1537002063, 1747873779,
  1955562222, 2024104815, 2227730452, 2361852424, 2428436474, 2756734187, 3204031479, 3329325298]
def startW : List W32 := [1779033703, 3144134277, 1013904242, 2773480762, 1359893119, 2600822924, 528734635, 1541459225]
/-- the digest of bytes -/
def sumW (l : List UInt8) : List UInt8 := (blocksW rootsW startW (padW l) ((padW l).length / 64)).flatMap fun x => be 4 x.toNat
theorem padW_len (l : List UInt8) : (padW l).length = (l.length + 72) / 64 * 64 := by
  simp only [padW, List.length_append, List.length_replicate, be_len, List.length_cons, List.length_nil]
  omega
theorem flat4_len (l : List W32) : (l.flatMap fun x => be 4 x.toNat).length = 4 * l.length := by
  induction l with
  | nil => rfl
  | cons x r ih => rw [List.flatMap_cons, List.length_append, ih, be_len, List.length_cons]; omega
theorem sumW_len (l : List UInt8) : (sumW l).length = 32 := by
  rw [sumW, flat4_len, blocksW_len]; rfl
end Go.Vc
namespace Go.Proofs.YtpcdihkcenfgkaaGreat
open Go.Vc
end Go.Proofs.YtpcdihkcenfgkaaGreat



namespace Go.Proofs.YtpcdihkcenfgkaaGreat
open Go.Vc
theorem turned2_calls (w : World) (x : W32) :
    CallsV Tryz.prog 120 [wordV x, .int .u64 2] w fun v w' => v = wordV (rot x 2) ∧ w' = w := by
  refine calls_enter Tryz.func120 rfl rfl rfl rfl ?_
  have hX := Ext.refl No w
  refine c_seq (c_region (wl_p I_ok rfl (wl_nil (f_then (c_seq (c_region (wl_p I_ok rfl (wl_nil (f_then (c_seq (c_region (wl_p I_ok rfl (wl_nil (f_then (c_ret (f_ret1 rfl rfl ?_))))))))))))))))
  exact ⟨congrArg (Value.int .u32) (turn_eq x 2 (by decide)), rfl⟩

theorem turned6_calls (w : World) (x : W32) :
    CallsV Tryz.prog 120 [wordV x, .int .u64 6] w fun v w' => v = wordV (rot x 6) ∧ w' = w := by
  refine calls_enter Tryz.func120 rfl rfl rfl rfl ?_
  have hX := Ext.refl No w
  refine c_seq (c_region (wl_p I_ok rfl (wl_nil (f_then (c_seq (c_region (wl_p I_ok rfl (wl_nil (f_then (c_seq (c_region (wl_p I_ok rfl (wl_nil (f_then (c_ret (f_ret1 rfl rfl ?_))))))))))))))))
  exact ⟨congrArg (Value.int .u32) (turn_eq x 6 (by decide)), rfl⟩

theorem turned7_calls (w : World) (x : W32) :
    CallsV Tryz.prog 120 [wordV x, .int .u64 7] w fun v w' => v = wordV (rot x 7) ∧ w' = w := by
  refine calls_enter Tryz.func120 rfl rfl rfl rfl ?_
  have hX := Ext.refl No w
  refine c_seq (c_region (wl_p I_ok rfl (wl_nil (f_then (c_seq (c_region (wl_p I_ok rfl (wl_nil (f_then (c_seq (c_region (wl_p I_ok rfl (wl_nil (f_then (c_ret (f_ret1 rfl rfl ?_))))))))))))))))
  exact ⟨congrArg (Value.int .u32) (turn_eq x 7 (by decide)), rfl⟩

theorem turned11_calls (w : World) (x : W32) :
    CallsV Tryz.prog 120 [wordV x, .int .u64 11] w fun v w' => v = wordV (rot x 11) ∧ w' = w := by
  refine calls_enter Tryz.func120 rfl rfl rfl rfl ?_
  have hX := Ext.refl No w
  refine c_seq (c_region (wl_p I_ok rfl (wl_nil (f_then (c_seq (c_region (wl_p I_ok rfl (wl_nil (f_then (c_seq (c_region (wl_p I_ok rfl (wl_nil (f_then (c_ret (f_ret1 rfl rfl ?_))))))))))))))))
  exact ⟨congrArg (Value.int .u32) (turn_eq x 11 (by decide)), rfl⟩

theorem turned13_calls (w : World) (x : W32) :
    CallsV Tryz.prog 120 [wordV x, .int .u64 13] w fun v w' => v = wordV (rot x 13) ∧ w' = w := by
  refine calls_enter Tryz.func120 rfl rfl rfl rfl ?_
  have hX := Ext.refl No w
  refine c_seq (c_region (wl_p I_ok rfl (wl_nil (f_then (c_seq (c_region (wl_p I_ok rfl (wl_nil (f_then (c_seq (c_region (wl_p I_ok rfl (wl_nil (f_then (c_ret (f_ret1 rfl rfl ?_))))))))))))))))
  exact ⟨congrArg (Value.int .u32) (turn_eq x 13 (by decide)), rfl⟩

theorem turned17_calls (w : World) (x : W32) :
    CallsV Tryz.prog 120 [wordV x, .int .u64 17] w fun v w' => v = wordV (rot x 17) ∧ w' = w := by
  refine calls_enter Tryz.func120 rfl rfl rfl rfl ?_
  have hX := Ext.refl No w
  refine c_seq (c_region (wl_p I_ok rfl (wl_nil (f_then (c_seq (c_region (wl_p I_ok rfl (wl_nil (f_then (c_seq (c_region (wl_p I_ok rfl (wl_nil (f_then (c_ret (f_ret1 rfl rfl ?_))))))))))))))))
  exact ⟨congrArg (Value.int .u32) (turn_eq x 17 (by decide)), rfl⟩

theorem turned18_calls (w : World) (x : W32) :
    CallsV Tryz.prog 120 [wordV x, .int .u64 18] w fun v w' => v = wordV (rot x 18) ∧ w' = w := by
  refine calls_enter Tryz.func120 rfl rfl rfl rfl ?_
  have hX := Ext.refl No w
  refine c_seq (c_region (wl_p I_ok rfl (wl_nil (f_then (c_seq (c_region (wl_p I_ok rfl (wl_nil (f_then (c_seq (c_region (wl_p I_ok rfl (wl_nil (f_then (c_ret (f_ret1 rfl rfl ?_))))))))))))))))
  exact ⟨congrArg (Value.int .u32) (turn_eq x 18 (by decide)), rfl⟩

theorem turned19_calls (w : World) (x : W32) :
    CallsV Tryz.prog 120 [wordV x, .int .u64 19] w fun v w' => v = wordV (rot x 19) ∧ w' = w := by
  refine calls_enter Tryz.func120 rfl rfl rfl rfl ?_
  have hX := Ext.refl No w
  refine c_seq (c_region (wl_p I_ok rfl (wl_nil (f_then (c_seq (c_region (wl_p I_ok rfl (wl_nil (f_then (c_seq (c_region (wl_p I_ok rfl (wl_nil (f_then (c_ret (f_ret1 rfl rfl ?_))))))))))))))))
  exact ⟨congrArg (Value.int .u32) (turn_eq x 19 (by decide)), rfl⟩

theorem turned22_calls (w : World) (x : W32) :
    CallsV Tryz.prog 120 [wordV x, .int .u64 22] w fun v w' => v = wordV (rot x 22) ∧ w' = w := by
  refine calls_enter Tryz.func120 rfl rfl rfl rfl ?_
  have hX := Ext.refl No w
  refine c_seq (c_region (wl_p I_ok rfl (wl_nil (f_then (c_seq (c_region (wl_p I_ok rfl (wl_nil (f_then (c_seq (c_region (wl_p I_ok rfl (wl_nil (f_then (c_ret (f_ret1 rfl rfl ?_))))))))))))))))
  exact ⟨congrArg (Value.int .u32) (turn_eq x 22 (by decide)), rfl⟩

theorem turned25_calls (w : World) (x : W32) :
    CallsV Tryz.prog 120 [wordV x, .int .u64 25] w fun v w' => v = wordV (rot x 25) ∧ w' = w := by
  refine calls_enter Tryz.func120 rfl rfl rfl rfl ?_
  have hX := Ext.refl No w
  refine c_seq (c_region (wl_p I_ok rfl (wl_nil (f_then (c_seq (c_region (wl_p I_ok rfl (wl_nil (f_then (c_seq (c_region (wl_p I_ok rfl (wl_nil (f_then (c_ret (f_ret1 rfl rfl ?_))))))))))))))))
  exact ⟨congrArg (Value.int .u32) (turn_eq x 25 (by decide)), rfl⟩

theorem known_calls (w : World) :
    CallsV Tryz.prog 92 [] w fun v w' => ∃ b, v = .slice (some ⟨b, 0, none⟩) 64 64 ∧ w.heap.size ≤ b ∧ Blk w' b 46 (wordsV rootsW) ∧ Ext No w w' := by
  refine calls_enter Tryz.func92 rfl rfl rfl rfl ?_
  have hX := Ext.refl No w
  refine c_seq (c_region (wl_p I_ok rfl (wl_nil (f_then (c_seq (c_region (wl (st_bs I_ok rfl 1 rfl rfl rfl (by decide) (by decide) (by simp [partsOk]) rfl fun b1 w1 hn1 hb1 hE1 hs1 => ?_))))))))
  have fr1 := Nat.le_trans hX.size hn1
  have hX := hX.thenNo hE1
  refine wl_p I_ok rfl (wl_nil (f_then (c_ret (f_ret1 rfl rfl ?_))))
  exact ⟨b1, rfl, fr1, hb1, hX⟩
theorem mix2 (x : W32) (a b : Nat) : mixW x [a, b] = rot x a ^^^ rot x b := by simp [mixW]
theorem div1024 (x : W32) : IntKind.u32.wrap ((x.toNat : Int).tdiv 1024) = ((x >>> 10).toNat : Int) := div_eq x 10
theorem div8 (x : W32) : IntKind.u32.wrap ((x.toNat : Int).tdiv 8) = ((x >>> 3).toNat : Int) := div_eq x 3
theorem mix3 (x : W32) (a b c : Nat) : mixW x [a, b, c] = rot x a ^^^ rot x b ^^^ rot x c := by simp [mixW]
theorem out_calls (w : World) {p : Option Addr} {c : Nat} {b : List UInt8} (h : SlB w p b) (hb : b.length = 64) (hc : 64 ≤ c) :
    CallsV Tryz.prog 119 [.slice p b.length c] w fun v w' => ∃ q k, v = .slice q 64 k ∧ Own w' q 64 k 46 1 (wordsV (sched b 64)) ∧ (∀ x, OwnB q x → w.heap.size ≤ x) ∧ Ext No w w' := by
  refine calls_enter Tryz.func119 rfl rfl rfl rfl ?_
  have hX := Ext.refl No w
  refine c_seq (c_region (wl_p I_ok rfl (wl_nil (f_then (c_seq (c_region (wl_p I_ok rfl (wl_nil (f_then (c_seq (c_seq (c_region (wl_p I_ok rfl (wl_nil (f_then (c_block ?_))))))))))))))))
  refine c_loopK (α := Nat × Option Addr × Nat) [0] rfl (fun z => [(3, .slice z.2.1 z.1 z.2.2), (4, .int .i64 (z.1 : Int))]) (fun z u => (z.1 ≤ 64 ∧ Own u z.2.1 z.1 z.2.2 46 1 (wordsV (sched b z.1)) ∧ (∀ x, OwnB z.2.1 x → w.heap.size ≤ x)) ∧ Ext No w u) (fun z u => 64 - z.1) (0, none, 0) rfl ⟨⟨by decide, Own.nil _ _ _, fun x hx => by cases hx⟩, hX⟩ ?_
  rintro ⟨t, q, k⟩ w1 ⟨⟨ht, hq, hqn⟩, hX⟩
  try dsimp only
  dsimp only at ht hq hqn
  refine c_seq (c_seq (c_region (wl_p I_ok rfl (wl_nil (f_then (c_if rfl (fun hc => ?_) (fun hc => ?_)))))))
  · have ht : t < 64 := by omega
    refine c_skip (f_then (c_cutK (α := Option Addr × Nat) [0, 4] rfl (fun z => [(3, .slice z.1 (t + 1) z.2)]) (fun z u => (Own u z.1 (t + 1) z.2 46 1 (wordsV (sched b (t + 1))) ∧ (∀ x, OwnB z.1 x → w.heap.size ≤ x)) ∧ Ext No w u) ?_ ?_))
    · refine c_block ?_
      refine c_seq (c_seq (c_region (wl_p I_ok rfl (wl_nil (f_then (c_if rfl (fun hc => ?_) (fun hc => ?_)))))))
      · have ht16 : t < 16 := by omega
        have w_nx := nextW_raw (b := b) (l := sched b t) (by rw [sched_len]; exact ht16)
        rw [sched_len] at w_nx
        have h4l : ((b.drop (4 * t)).take 4).length = 4 := by rw [List.length_take, List.length_drop]; omega
        have hs4 : SlB w1 (slBase p (4 * t) c 1) ((b.drop (4 * t)).take 4) := by
          have e := Sl.slice (h.extNo hX) (4 * t) (4 * t + 4) c (by omega) (by omega) (by omega)
          rw [Nat.mul_one, Nat.mul_one, bytesU_drop, bytesU_take, show 4 * t + 4 - 4 * t = 4 from by omega] at e
          rw [SlB, h4l]
          exact e
        refine c_seq (c_region (wl_p I_ok rfl ?_))
        rw [IntWalk.i64_in (4 * (t : Int)) (by omega), IntWalk.i64_in _ (by omega)]
        refine wl (st_sl I_ok rfl (4 * t) (4 * t + 4) c 1 rfl (.inr ⟨rfl, rfl⟩) (.inl (congrArg some (by omega))) (.inl (congrArg some (by omega))) (by omega) (by omega) (Nat.le_refl _) ?_)
        dsimp only
        rw [show 4 * t + 4 - 4 * t = ((b.drop (4 * t)).take 4).length from by rw [h4l]; omega]
        refine wl (st_call Tryz.call136 rfl rfl rfl rfl rfl rfl (number_calls w1 hs4 (by rw [h4l]; decide)) fun v2 w2 hr2 => ?_)
        obtain ⟨rfl, rfl⟩ := hr2
        refine wl_p I_ok rfl ?_
        rw [w_wrap, ← w_nx]
        refine wl (st_bs I_ok rfl 1 rfl rfl rfl (by decide) (by decide) (by simp [partsOk]) rfl fun b23 w3 hn23 hb23 hE3 hs3 => ?_)
        have hq := hq.ext hE3 fun _ _ => id
        have hX := hX.thenNo hE3
        have hb23 : Blk w3 b23 46 (wordsV [nextW b (sched b t)]) := hb23
        have hX1 := hX
        refine wl (st_app I_ok rfl 1 4 rfl rfl rfl (by decide) hq (Src.slice (m := 1) ⟨rfl, .inr ⟨b23, 0, rfl, hb23.seg⟩⟩ OneC.h) (by dsimp only [maxLen]; omega) (by dsimp only; omega) fun p4 c4 w4 ho4 hE4 hB4 => ?_)
        have hX := hX1.trans hE4 fun y hy hF => by have := hqn y hF; omega
        have hqn2 : ∀ x, OwnB p4 x → w.heap.size ≤ x := fun x hx => (hB4 x hx).elim (fun h => hqn x h) fun h => Nat.le_trans hX1.size h
        have hq2 : Own w4 p4 (t + 1) c4 46 1 (wordsV (sched b (t + 1))) := by
          rw [sched, wordsV_append]
          exact ho4
        refine wl_p I_ok rfl (wl_nil (f_then (c_exit ?_)))
        exact f_thenE (f_blockE (f_cut (p4, c4) rfl ⟨⟨hq2, hqn2⟩, hX⟩))
      · have ht16 : ¬ t < 16 := by omega
        have w_nx := nextW_mix (b := b) (l := sched b t) (by rw [sched_len]; exact ht16)
        rw [sched_len] at w_nx
        obtain ⟨bq, rfl, hseg⟩ : ∃ bq, q = some ⟨bq, 0, none⟩ ∧ Seg w1 bq 0 (wordsV (sched b t)) := by
          rcases hq with ⟨_, h0, _⟩ | ⟨bq, l, h1, h2, _, _, _, h3⟩
          · omega
          · refine ⟨bq, h1, ?_⟩
            rw [← h3]
            exact h2.seg.take _
        have hnx : (mixW ((sched b t).getD (t - 2) 0) [17, 19] ^^^ (sched b t).getD (t - 2) 0 >>> 10) + (sched b t).getD (t - 7) 0 + (mixW ((sched b t).getD (t - 15) 0) [7, 18] ^^^ (sched b t).getD (t - 15) 0 >>> 3) + (sched b t).getD (t - 16) 0 = nextW b (sched b t) := by
          rw [w_nx]
          ac_rfl
        refine c_skip (f_then (c_seq (c_draw rfl 12 [(0, true), (1, true), (2, true), (3, true), (4, true), (5, true), (6, true), (7, true), (8, true), (9, true), (10, true), (11, true)] [] (No) (by kernel_rfl) fun w5 hE5 hs5 => ?_)))
        have hsegd := hseg
        have hq := hq.ext hE5 fun _ _ => id
        have hseg := hseg.extNo hE5
        have hX := hX.thenNo hE5
        refine wd_k I_ok 3 rfl ?_
        rw [IntWalk.i64_in _ (by omega)]
        refine wd_ix I_ok rfl rfl 1 rfl (t - 2) (by omega) (by omega) (0 + (t - 2)) (by omega) (wd_ld I_ok rfl rfl (fun w' hw' => (hsegd.extNo hw') (t - 2) _ (words_getD _ (by rw [sched_len]; omega))) ?_)
        refine wd_k I_ok 3 rfl ?_
        rw [IntWalk.i64_in _ (by omega)]
        refine wd_ix I_ok rfl rfl 1 rfl (t - 15) (by omega) (by omega) (0 + (t - 15)) (by omega) (wd_ld I_ok rfl rfl (fun w' hw' => (hsegd.extNo hw') (t - 15) _ (words_getD _ (by rw [sched_len]; omega))) ?_)
        refine wd_k I_ok 2 rfl (wd_sw (wb_nil (f_then (c_seq (c_region (wl_p I_ok rfl (wl (st_call Tryz.call120 rfl rfl rfl rfl rfl rfl (turned17_calls w5 _) fun v6 w6 hr6 => ?_))))))))
        obtain ⟨rfl, rfl⟩ := hr6
        refine wl_p I_ok rfl (wl (st_call Tryz.call120 rfl rfl rfl rfl rfl rfl (turned19_calls w6 _) fun v7 w7 hr7 => ?_))
        obtain ⟨rfl, rfl⟩ := hr7
        refine wl_p I_ok rfl ?_
        rw [w_xor, div1024, w_xor, ← mix2]
        refine wl_nil (f_then (c_seq (c_region (wl_p I_ok rfl (wl (st_call Tryz.call120 rfl rfl rfl rfl rfl rfl (turned7_calls w7 _) fun v8 w8 hr8 => ?_))))))
        obtain ⟨rfl, rfl⟩ := hr8
        refine wl_p I_ok rfl (wl (st_call Tryz.call120 rfl rfl rfl rfl rfl rfl (turned18_calls w8 _) fun v9 w9 hr9 => ?_))
        obtain ⟨rfl, rfl⟩ := hr9
        refine wl_p I_ok rfl ?_
        rw [w_xor, div8, w_xor, ← mix2]
        refine wl_nil (f_then ?_)
        refine c_draw rfl 17 [(0, true), (1, true), (2, true), (3, true), (4, true), (5, true), (6, true), (7, true), (8, true), (9, true), (10, true), (11, true), (12, true), (13, true), (14, true), (15, true), (16, false)] [17, 18] (No) (by kernel_rfl) fun w10 hE10 hs10 => ?_
        have hsegd := hseg
        have hq := hq.ext hE10 fun _ _ => id
        have hX := hX.thenNo hE10
        have hC : Ext (No) _ w10 := hE10.no
        refine wd_k I_ok 5 rfl ?_
        rw [IntWalk.i64_in _ (by omega)]
        refine wd_ix I_ok rfl rfl 1 rfl (t - 7) (by omega) (by omega) (0 + (t - 7)) (by omega) (wd_ld I_ok rfl rfl (fun w' hw' => (hsegd.extNo hw') (t - 7) _ (words_getD _ (by rw [sched_len]; omega))) ?_)
        refine wd_k I_ok 6 rfl ?_
        rw [IntWalk.i64_in _ (by omega)]
        refine wd_ix I_ok rfl rfl 1 rfl (t - 16) (by omega) (by omega) (0 + (t - 16)) (by omega) (wd_ld I_ok rfl rfl (fun w' hw' => (hsegd.extNo hw') (t - 16) _ (words_getD _ (by rw [sched_len]; omega))) ?_)
        refine wd_k I_ok 1 rfl ?_
        rw [w_add, w_add, w_add, hnx]
        refine wd_l rfl (st_bs I_ok rfl 1 rfl rfl rfl (by decide) (by decide) (by simp [partsOk]) rfl fun b67 w11 hn67 hb67 hE11 hs11 => ⟨hC.thenNo hE11, ?_⟩)
        have hq := hq.ext hE11 fun _ _ => id
        have hX := hX.thenNo hE11
        have hb67 : Blk w11 b67 46 (wordsV [nextW b (sched b t)]) := hb67
        refine wd_sw ?_
        have hX1 := hX
        refine wb rfl (st_app I_ok rfl 1 4 rfl rfl rfl (by decide) hq (Src.slice (m := 1) ⟨rfl, .inr ⟨b67, 0, rfl, hb67.seg⟩⟩ OneC.h) (by dsimp only [maxLen]; omega) (by dsimp only; omega) fun p12 c12 w12 ho12 hE12 hB12 => ?_)
        have hX := hX1.trans hE12 fun y hy hF => by have := hqn y hF; omega
        have hqn2 : ∀ x, OwnB p12 x → w.heap.size ≤ x := fun x hx => (hB12 x hx).elim (fun h => hqn x h) fun h => Nat.le_trans hX1.size h
        have hq2 : Own w12 p12 (t + 1) c12 46 1 (wordsV (sched b (t + 1))) := by
          rw [sched, wordsV_append]
          exact ho12
        refine wb rfl (st_p I_ok rfl rfl rfl (wb_nil ?_))
        exact f_blockN (f_cut (p12, c12) rfl ⟨⟨hq2, hqn2⟩, hX⟩)
    rintro ⟨q, k⟩ w13 ⟨⟨hq, hqn⟩, hX⟩
    dsimp only at hq hqn
    refine c_region (wl_p I_ok rfl ?_)
    rw [IntWalk.i64_in _ (by omega)]
    refine wl_nil ?_
    exact f_round (t + 1, q, k) rfl ⟨⟨by dsimp only; omega, hq, hqn⟩, hX⟩ (by first | omega | (dsimp only; omega))
  · have h0 : t = 64 := by omega
    subst h0
    refine c_exit (f_thenE (f_thenE (f_blockE (f_then (c_seq (c_region (wl_p I_ok rfl (wl_nil (f_then (c_ret (f_ret1 rfl rfl ?_)))))))))))
    exact ⟨q, k, rfl, hq, hqn, hX⟩
end Go.Proofs.YtpcdihkcenfgkaaGreat
namespace Go.Proofs.YtpcdihkcenfgkaaGreat
open Go.Vc

theorem ch_eq (e f g : W32) : (e &&& f ||| ~~~e &&& g) = g ^^^ (e &&& (f ^^^ g)) := by
  apply BitVec.eq_of_getLsbD_eq
  intro i hi
  simp only [BitVec.getLsbD_or, BitVec.getLsbD_and, BitVec.getLsbD_xor, BitVec.getLsbD_not, hi, decide_true, Bool.true_and]
  cases e.getLsbD i <;> cases f.getLsbD i <;> cases g.getLsbD i <;> rfl
theorem maj_eq (a b c : W32) : (a &&& b ||| a &&& c ||| b &&& c) = (a &&& b ||| c &&& (a ||| b)) := by
  apply BitVec.eq_of_getLsbD_eq
  intro i hi
  simp only [BitVec.getLsbD_or, BitVec.getLsbD_and]
  cases a.getLsbD i <;> cases b.getLsbD i <;> cases c.getLsbD i <;> rfl
theorem refInto_calls (w : World) {h : List W32} (hl : h.length = 8) {p : Option Addr} {c : Nat} {b : List UInt8} (hsb : SlB w p b) (hb : b.length = 64) (hc : 64 ≤ c) {kb : Nat} {d : Nat} (hk : Seg w kb 0 (wordsV rootsW)) :
    CallsV Tryz.prog 93 [.agg (wordsV h).toArray, .slice p b.length c, .slice (some ⟨kb, 0, none⟩) 64 d] w fun v w' => v = .agg (wordsV (intoW rootsW h b)).toArray ∧ Ext No w w' := by
  have hkl := hk.lt (by decide)
  refine calls_enter Tryz.func93 rfl rfl rfl rfl ?_
  have hX := Ext.refl No w
  refine c_seq (c_region (wl (st_al I_ok rfl fun b3 w1 hn3 hb3 hE1 => ?_)))
  have fr3 := Nat.le_trans hX.size hn3
  have hk := hk.extNo hE1
  have hX := hX.thenNo hE1
  have hb3 : Blk w1 b3 147 (wordsV h) := hb3
  refine wl (st_al I_ok rfl fun b6 w2 hn6 hb6 hE2 => ?_)
  have ne3_6 : b3 ≠ b6 := Nat.ne_of_lt (Nat.lt_of_lt_of_le hb3.lt hn6)
  have fr6 := Nat.le_trans hX.size hn6
  have hb3 := hb3.extNo hE2
  have hk := hk.extNo hE2
  have hX := hX.thenNo hE2
  refine wl_nil (f_then (c_seq (c_region (wl_p I_ok rfl ?_))))
  refine wl (st_call Tryz.call119 rfl rfl rfl rfl rfl rfl (out_calls w2 (hsb.extNo hX) hb hc) fun v3 w3 hr3 => ?_)
  obtain ⟨q, kq, rfl, hq, hqn, hE3⟩ := hr3
  have hb3 := hb3.extNo hE3
  have hb6 := hb6.extNo hE3
  have hk := hk.extNo hE3
  have hX := hX.thenNo hE3
  obtain ⟨bq, rfl, hseg⟩ : ∃ bq, q = some ⟨bq, 0, none⟩ ∧ Seg w3 bq 0 (wordsV (sched b 64)) := by
    rcases hq with ⟨_, h0, _⟩ | ⟨bq, l, h1, h2, _, _, _, h3⟩
    · omega
    · refine ⟨bq, h1, ?_⟩
      rw [← h3]
      exact h2.seg.take _
  have hbqn := hqn bq rfl
  have hWl := sched_len b 64
  have hbql := hseg.lt (by intro e; have e := congrArg List.length e; rw [wordsV_len, hWl] at e; cases e)
  have hi : intoW rootsW h b = List.zipWith (· + ·) h (turnsW h rootsW (sched b 64) 64) := rfl
  rw [hi]
  generalize sched b 64 = W at hWl hseg ⊢
  refine wl_p I_ok rfl (wl_nil (f_then (c_seq (c_region (wl (st_ldB I_ok hb3 rfl (by rw [wordsV_len, hl]) (wl (st_al I_ok rfl fun b8 w4 hn8 hb8 hE4 => ?_))))))))
  have ne3_8 : b3 ≠ b8 := Nat.ne_of_lt (Nat.lt_of_lt_of_le hb3.lt hn8)
  have ne6_8 : b6 ≠ b8 := Nat.ne_of_lt (Nat.lt_of_lt_of_le hb6.lt hn8)
  have fr8 := Nat.le_trans hX.size hn8
  have hb3 := hb3.extNo hE4
  have hb6 := hb6.extNo hE4
  have hk := hk.extNo hE4
  have hseg := hseg.extNo hE4
  have hX := hX.thenNo hE4
  have hkb8 : ¬ One b8 kb := fun e => by have e : kb = b8 := e; omega
  have hbq8 : ¬ One b8 bq := fun e => by have e : bq = b8 := e; omega
  refine wl (st_stW (l' := wordsV h) I_ok hb8 rfl rfl (by rw [wordsV_len, hl]) (by rw [wordsV_len, hl]; rfl) OneC.h fun w5 hb8 hE5 hs5 => ?_)
  have hb3 := hb3.ext1 hE5 ne3_8
  have hb6 := hb6.ext1 hE5 ne6_8
  have hk := hk.ext hE5 hkb8
  have hseg := hseg.ext hE5 hbq8
  have hX := hX.thenNew hE5 fr8
  refine wl_nil (f_then (c_seq (c_seq (c_region (wl_p I_ok rfl (wl_nil (f_then (c_block ?_))))))))
  refine c_loopK (α := Nat) [2, 3, 6, 7, 8] rfl (fun z => [(9, .int .i64 (z : Int))]) (fun z u => (z ≤ 64 ∧ Seg u bq 0 (wordsV W) ∧ Seg u kb 0 (wordsV rootsW)) ∧ Blk u b3 147 (wordsV h) ∧ Blk u b6 147 (cellsOf ti147.zero) ∧ Blk u b8 147 (wordsV (turnsW h rootsW W z)) ∧ Ext No w u) (fun z u => 64 - z) (0) rfl ⟨⟨by decide, hseg, hk⟩, hb3, hb6, hb8, hX⟩ ?_
  rintro t w6 ⟨⟨ht, hseg, hk⟩, hb3, hb6, hb8, hX⟩
  refine c_seq (c_seq (c_region (wl_p I_ok rfl (wl_nil (f_then (c_if rfl (fun hc => ?_) (fun hc => ?_)))))))
  · have ht : t < 64 := by omega
    obtain ⟨a0, a1, a2, a3, a4, a5, a6, a7, h8⟩ := eight (l := turnsW h rootsW W t) (by rw [turnsW_len, hl])
    rw [h8] at hb8
    have hW := words_getD W (i := t) (by omega)
    have hkt := words_getD rootsW (i := t) ht
    refine c_skip (f_then (c_seq (c_block (c_seq (c_region (wl (st_ix I_ok rfl 1 rfl 4 rfl (by decide) 4 rfl (wl (st_ldb I_ok hb8 rfl rfl (wl_p I_ok rfl (wl_nil (f_then (c_seq ?_)))))))))))))
    refine c_draw rfl 33 [(0, true), (1, true), (2, true), (4, true), (7, true), (11, true), (12, true), (13, true), (14, true), (15, true), (16, true), (17, true), (18, true), (19, true), (20, true), (22, true), (23, true), (24, true), (25, true), (27, true), (28, true), (29, true), (30, true), (3, false), (5, false), (6, true), (8, false), (9, true), (10, true), (21, true), (26, true), (31, true), (32, true)] [] (No) (by kernel_rfl) fun w7 hE7 hs7 => ?_
    have hd8 := hb8
    have hkd := hk
    have hsegd := hseg
    have hb3 := hb3.extNo hE7
    have hb6 := hb6.extNo hE7
    have hb8 := hb8.extNo hE7
    have hk := hk.extNo hE7
    have hseg := hseg.extNo hE7
    have hX := hX.thenNo hE7
    have hC : Ext (No) _ w7 := hE7.no
    refine wd_ix I_ok rfl rfl 1 rfl 7 rfl (by decide) 7 rfl (wd_ld I_ok rfl rfl (fun w' hw' => (hd8.extNo hw').cell rfl) ?_)
    refine wd_k I_ok 4 rfl (wd_ix I_ok rfl rfl 1 rfl 5 rfl (by decide) 5 rfl (wd_ld I_ok rfl rfl (fun w' hw' => (hd8.extNo hw').cell rfl) ?_))
    refine wd_k I_ok 3 rfl (wd_ix I_ok rfl rfl 1 rfl 6 rfl (by decide) 6 rfl (wd_ld I_ok rfl rfl (fun w' hw' => (hd8.extNo hw').cell rfl) ?_))
    refine wd_k I_ok 4 rfl (wd_ix I_ok rfl rfl 1 rfl t rfl ht (0 + t) (by omega) (wd_ld I_ok rfl rfl (fun w' hw' => (hkd.extNo hw') t _ hkt) ?_))
    refine wd_k I_ok 2 rfl (wd_ix I_ok rfl rfl 1 rfl t rfl ht (0 + t) (by omega) (wd_ld I_ok rfl rfl (fun w' hw' => (hsegd.extNo hw') t _ hW) ?_))
    refine wd_l rfl (st_call Tryz.call120 rfl rfl rfl rfl rfl rfl (turned6_calls w7 _) fun v8 w8 hr8 => ⟨(by obtain ⟨rfl, rfl⟩ := hr8; exact hC), ?_⟩)
    obtain ⟨rfl, rfl⟩ := hr8
    have hC := hC
    refine wd_l rfl (st_call Tryz.call120 rfl rfl rfl rfl rfl rfl (turned11_calls w8 _) fun v9 w9 hr9 => ⟨(by obtain ⟨rfl, rfl⟩ := hr9; exact hC), ?_⟩)
    obtain ⟨rfl, rfl⟩ := hr9
    have hC := hC
    refine wd_k I_ok 1 rfl (wd_l rfl (st_call Tryz.call120 rfl rfl rfl rfl rfl rfl (turned25_calls w9 _) fun v10 w10 hr10 => ⟨(by obtain ⟨rfl, rfl⟩ := hr10; exact hC), ?_⟩))
    obtain ⟨rfl, rfl⟩ := hr10
    refine wd_k I_ok 5 rfl ?_
    rw [w_xor, w_xor, w_not, w_and, w_and, w_or, w_add, w_add, w_add, w_add, ← mix3, ch_eq]
    refine wd_k I_ok 1 rfl (wd_sw (wb_nil (f_then (c_seq (c_region (wl (st_ix I_ok rfl 1 rfl 0 rfl (by decide) 0 rfl (wl (st_ldb I_ok hb8 rfl rfl (wl_p I_ok rfl (wl_nil (f_then (c_seq ?_)))))))))))))
    refine c_draw rfl 25 [(0, true), (2, true), (5, true), (8, true), (9, true), (10, true), (11, true), (12, true), (13, true), (14, true), (15, true), (16, true), (17, true), (18, true), (19, true), (20, true), (21, true), (22, true), (1, false), (3, false), (4, true), (6, false), (7, true), (23, true), (24, true)] [] (No) (by kernel_rfl) fun w11 hE11 hs11 => ?_
    have hd8 := hb8
    have hb3 := hb3.extNo hE11
    have hb6 := hb6.extNo hE11
    have hb8 := hb8.extNo hE11
    have hk := hk.extNo hE11
    have hseg := hseg.extNo hE11
    have hX := hX.thenNo hE11
    have hC : Ext (No) _ w11 := hE11.no
    refine wd_k I_ok 4 rfl (wd_ix I_ok rfl rfl 1 rfl 1 rfl (by decide) 1 rfl (wd_ld I_ok rfl rfl (fun w' hw' => (hd8.extNo hw').cell rfl) ?_))
    refine wd_k I_ok 2 rfl (wd_ix I_ok rfl rfl 1 rfl 2 rfl (by decide) 2 rfl (wd_ld I_ok rfl rfl (fun w' hw' => (hd8.extNo hw').cell rfl) ?_))
    refine wd_k I_ok 2 rfl (wd_ix I_ok rfl rfl 1 rfl 1 rfl (by decide) 1 rfl (wd_ld I_ok rfl rfl (fun w' hw' => (hd8.extNo hw').cell rfl) ?_))
    refine wd_ix I_ok rfl rfl 1 rfl 2 rfl (by decide) 2 rfl (wd_ld I_ok rfl rfl (fun w' hw' => (hd8.extNo hw').cell rfl) ?_)
    refine wd_k I_ok 2 rfl (wd_l rfl (st_call Tryz.call120 rfl rfl rfl rfl rfl rfl (turned2_calls w11 _) fun v12 w12 hr12 => ⟨(by obtain ⟨rfl, rfl⟩ := hr12; exact hC), ?_⟩))
    obtain ⟨rfl, rfl⟩ := hr12
    have hC := hC
    refine wd_l rfl (st_call Tryz.call120 rfl rfl rfl rfl rfl rfl (turned13_calls w12 _) fun v13 w13 hr13 => ⟨(by obtain ⟨rfl, rfl⟩ := hr13; exact hC), ?_⟩)
    obtain ⟨rfl, rfl⟩ := hr13
    have hC := hC
    refine wd_k I_ok 1 rfl (wd_l rfl (st_call Tryz.call120 rfl rfl rfl rfl rfl rfl (turned22_calls w13 _) fun v14 w14 hr14 => ⟨(by obtain ⟨rfl, rfl⟩ := hr14; exact hC), ?_⟩))
    obtain ⟨rfl, rfl⟩ := hr14
    refine wd_k I_ok 2 rfl ?_
    rw [w_xor, w_xor, w_and, w_and, w_and, w_or, w_or, w_add, ← mix3, maj_eq]
    refine wd_k I_ok 1 rfl (wd_sw (wb_nil (f_then (c_region (wl_p I_ok rfl ?_)))))
    rw [w_add]
    refine wl (st_ix I_ok rfl 1 rfl 0 rfl (by decide) 0 rfl (wl (st_ldb I_ok hb8 rfl rfl (wl (st_ix I_ok rfl 1 rfl 1 rfl (by decide) 1 rfl (wl (st_ldb I_ok hb8 rfl rfl (wl (st_ix I_ok rfl 1 rfl 2 rfl (by decide) 2 rfl ?_)))))))))
    refine wl (st_ldb I_ok hb8 rfl rfl (wl (st_ix I_ok rfl 1 rfl 3 rfl (by decide) 3 rfl (wl (st_ldb I_ok hb8 rfl rfl (wl_p I_ok rfl ?_))))))
    rw [w_add]
    refine wl (st_ix I_ok rfl 1 rfl 4 rfl (by decide) 4 rfl (wl (st_ldb I_ok hb8 rfl rfl (wl (st_ix I_ok rfl 1 rfl 5 rfl (by decide) 5 rfl (wl (st_ldb I_ok hb8 rfl rfl (wl (st_ix I_ok rfl 1 rfl 6 rfl (by decide) 6 rfl ?_)))))))))
    refine wl (st_ldb I_ok hb8 rfl rfl ?_)
    refine wl (st_bd I_ok rfl (by simp [partsOk]; decide) (l' := wordsV [(a7 + mixW a4 [6, 11, 25] + (a6 ^^^ (a4 &&& (a5 ^^^ a6))) + rootsW.getD t 0 + W.getD t 0) + (mixW a0 [2, 13, 22] + ((a0 &&& a1) ||| (a2 &&& (a0 ||| a1)))), a0, a1, a2, a3 + (a7 + mixW a4 [6, 11, 25] + (a6 ^^^ (a4 &&& (a5 ^^^ a6))) + rootsW.getD t 0 + W.getD t 0), a4, a5, a6]) rfl ?_)
    refine wl (st_stW (l' := wordsV [(a7 + mixW a4 [6, 11, 25] + (a6 ^^^ (a4 &&& (a5 ^^^ a6))) + rootsW.getD t 0 + W.getD t 0) + (mixW a0 [2, 13, 22] + ((a0 &&& a1) ||| (a2 &&& (a0 ||| a1)))), a0, a1, a2, a3 + (a7 + mixW a4 [6, 11, 25] + (a6 ^^^ (a4 &&& (a5 ^^^ a6))) + rootsW.getD t 0 + W.getD t 0), a4, a5, a6]) I_ok hb8 rfl rfl rfl rfl OneC.h fun w15 hb8 hE15 hs15 => ?_)
    have hb3 := hb3.ext1 hE15 ne3_8
    have hb6 := hb6.ext1 hE15 ne6_8
    have hk := hk.ext hE15 hkb8
    have hseg := hseg.ext hE15 hbq8
    have hX := hX.thenNew hE15 fr8
    have hb8 : Blk w15 b8 147 (wordsV (turnsW h rootsW W (t + 1))) := by
      rw [turnsW, h8]
      exact hb8
    refine wl_nil (f_blockN (f_then (c_region (wl_p I_ok rfl ?_))))
    rw [IntWalk.i64_in _ (by omega)]
    refine wl_nil ?_
    exact f_round (t + 1) rfl ⟨⟨by omega, hseg, hk⟩, hb3, hb6, hb8, hX⟩ (by first | omega | (dsimp only; omega))
  · have h0 : t = 64 := by omega
    subst h0
    have hLl : (turnsW h rootsW W 64).length = 8 := by rw [turnsW_len, hl]
    generalize turnsW h rootsW W 64 = L at hb8 hLl ⊢
    refine c_exit (f_thenE (f_thenE (f_blockE (f_then (c_seq (c_seq (c_region (wl_p I_ok rfl (wl_nil (f_then (c_block ?_)))))))))))
    refine c_loopK (α := Nat) [3, 6, 8] rfl (fun z => [(14, .int .i64 (z : Int))]) (fun z u => (z ≤ 8) ∧ Blk u b3 147 (wordsV (List.zipWith (· + ·) (h.take z) (L.take z) ++ h.drop z)) ∧ Blk u b6 147 (cellsOf ti147.zero) ∧ Blk u b8 147 (wordsV L) ∧ Ext No w u) (fun z u => 8 - z) (0) rfl ⟨by decide, hb3, hb6, hb8, hX⟩ ?_
    rintro i w16 ⟨hi8, hb3, hb6, hb8, hX⟩
    refine c_seq (c_seq (c_region (wl_p I_ok rfl (wl_nil (f_then (c_if rfl (fun hc => ?_) (fun hc => ?_)))))))
    · have hi8 : i < 8 := by omega
      have h1 : i < h.length := by omega
      have h2 : i < L.length := by omega
      have hLw := wordsV_get L h2
      refine c_skip (f_then (c_seq (c_block (c_draw rfl 9 [(0, true), (1, true), (2, true), (3, true), (4, true), (5, true), (6, true), (7, true), (8, true)] [9] (No) (by kernel_rfl) fun w17 hE17 hs17 => ?_))))
      have hd3 := hb3
      have hd8 := hb8
      have hb3 := hb3.extNo hE17
      have hb6 := hb6.extNo hE17
      have hb8 := hb8.extNo hE17
      have hX := hX.thenNo hE17
      refine wd_k I_ok 2 rfl (wd_ix I_ok rfl rfl 1 rfl i rfl hi8 (0 + i * 1) rfl (wd_ld I_ok rfl rfl (fun w' hw' => (hd3.extNo hw').cell (i := 0 + i * 1) (v := wordV h[i]) (zip_at h1 h2)) ?_))
      refine wd_k I_ok 1 rfl (wd_ix I_ok rfl rfl 1 rfl i rfl hi8 (0 + i) (by omega) (wd_ld I_ok rfl rfl (fun w' hw' => (hd8.extNo hw').cell (i := 0 + i) (v := wordV L[i]) (by rw [Nat.zero_add]; exact hLw)) ?_))
      refine wd_k I_ok 1 rfl ?_
      rw [w_add]
      refine wd_ix I_ok rfl rfl 1 rfl i rfl hi8 (0 + i * 1) rfl (wd_sw ?_)
      refine wb rfl (st_set I_ok hb3 rfl rfl (by rw [wordsV_len, List.length_append, List.length_zipWith, List.length_take, List.length_take, List.length_drop]; omega) fun w18 hb3 hE18 hs18 => ?_)
      have hb6 := hb6.ext1 hE18 ne3_6.symm
      have hb8 := hb8.ext1 hE18 ne3_8.symm
      have hX := hX.thenNew hE18 fr3
      rw [zip_set h1 h2] at hb3
      refine wb_nil (f_blockN (f_then (c_region (wl_p I_ok rfl ?_))))
      rw [IntWalk.i64_in _ (by omega)]
      refine wl_nil ?_
      exact f_round (i + 1) rfl ⟨by omega, hb3, hb6, hb8, hX⟩ (by first | omega | (dsimp only; omega))
    · have h0 : i = 8 := by omega
      subst h0
      have e1 : h.take 8 = h := List.take_of_length_le (by omega)
      have e2 : L.take 8 = L := List.take_of_length_le (by omega)
      have e3 : h.drop 8 = [] := List.drop_eq_nil_of_le (by omega)
      rw [e1, e2, e3, List.append_nil] at hb3
      have hZ : (wordsV (List.zipWith (· + ·) h L)).length = 8 := by rw [wordsV_len, List.length_zipWith]; omega
      refine c_exit (f_thenE (f_thenE (f_blockE (f_then (c_seq (c_region (wl (st_ldB I_ok hb3 rfl hZ (wl (st_stW (l' := wordsV (List.zipWith (· + ·) h L)) I_ok hb6 rfl rfl hZ (by rw [hZ]; rfl) OneC.h fun w19 hb6 hE19 hs19 => ?_))))))))))
      have hX := hX.thenNew hE19 fr6
      refine wl_nil (f_then (c_ret (f_ret [_] ⟨⟨b6, 0, rfl, ld_all I_ok rfl rfl hb6.seg (by rw [hZ]; rfl)⟩, trivial⟩ ?_)))
      exact ⟨rfl, hX⟩
end Go.Proofs.YtpcdihkcenfgkaaGreat
namespace Go.Proofs.YtpcdihkcenfgkaaGreat
open Go.Vc

def padJ (l : List UInt8) (j : Nat) : List UInt8 := l ++ (128 :: List.replicate j 0)
theorem padJ_len (l : List UInt8) (j : Nat) : (padJ l j).length = l.length + 1 + j := by simp [padJ]; omega
theorem padJ_succ (l : List UInt8) (j : Nat) : padJ l (j + 1) = padJ l j ++ [0] := by rw [padJ, List.replicate_succ', padJ]; simp
theorem refPad_calls (w : World) {p : Option Addr} {c : Nat} {l : List UInt8} (h : SlB w p l) (hl : l.length < 100000000) :
    CallsV Tryz.prog 91 [.slice p l.length c] w fun v w' => ∃ q k, v = .slice q (padW l).length k ∧ Own w' q (padW l).length k 5 1 (bytesU (padW l)) ∧ (∀ b, OwnB q b → w.heap.size ≤ b) ∧ Ext No w w' := by
  obtain ⟨K, hK⟩ : ∃ K, K = (l.length + 72) / 64 * 64 - 8 - (l.length + 1) := ⟨_, rfl⟩
  have hpad : padJ l K ++ be 8 (8 * l.length) = padW l := by rw [padW, ← hK, padJ]; simp
  refine calls_enter Tryz.func91 rfl rfl rfl rfl ?_
  have hX := Ext.refl No w
  refine c_seq (c_region (wl_p I_ok rfl (wl_nil (f_then (c_seq (c_region (wl_p I_ok rfl (wl (st_bs I_ok rfl 1 rfl rfl rfl (by decide) (by decide) (by simp [partsOk]) rfl fun b5 w1 hn5 hb5 hE1 hs1 => ?_)))))))))
  have hX := hX.thenNo hE1
  have hb5 : Blk w1 b5 5 (bytesU [128]) := hb5
  have hX0 := hX
  refine wl (st_call Tryz.call118 rfl rfl rfl rfl rfl rfl (both_calls w1 (m := [128]) (h.extNo hX) ⟨rfl, .inr ⟨b5, 0, rfl, hb5.seg⟩⟩ (by omega) (by decide)) fun v2 w2 hr2 => ?_)
  obtain ⟨q, k, rfl, hq, hqn, hE2⟩ := hr2
  have hX := hX.thenNo hE2
  have hqn : ∀ x, OwnB q x → w.heap.size ≤ x := fun x hx => Nat.le_trans hX0.size (hqn x hx)
  refine wl_p I_ok rfl (wl_nil (f_then (c_seq (c_block ?_))))
  refine c_loopK (α := Nat × Option Addr × Nat) [0] rfl (fun z => [(3, .slice z.2.1 (padJ l z.1).length z.2.2)]) (fun z u => (z.1 ≤ K ∧ Own u z.2.1 (padJ l z.1).length z.2.2 5 1 (bytesU (padJ l z.1)) ∧ (∀ x, OwnB z.2.1 x → w.heap.size ≤ x)) ∧ Ext No w u) (fun z u => K - z.1) (0, q, k) rfl ⟨⟨Nat.zero_le _, hq, hqn⟩, hX⟩ ?_
  rintro ⟨j, q, k⟩ w3 ⟨⟨hj, hq, hqn⟩, hX⟩
  try dsimp only
  dsimp only at hj hq hqn
  have hll := padJ_len l j
  have e8 : (IntKind.i64.wrap (((padJ l j).length : Int) + 8)).tmod 64 = (((l.length + 9 + j) % 64 : Nat) : Int) := by
    rw [IntWalk.i64_in _ (by omega), Int.tmod_eq_emod_of_nonneg (by omega)]
    omega
  refine c_seq (c_seq (c_region (wl_p I_ok rfl ?_)))
  rw [e8]
  refine wl_p I_ok rfl (wl_nil (f_then (c_if rfl (fun hc => ?_) (fun hc => ?_))))
  · have hjK : j < K := by omega
    refine c_skip (f_then (c_block (c_region (wl_p I_ok rfl (wl (st_bs I_ok rfl 1 rfl rfl rfl (by decide) (by decide) (by simp [partsOk]) rfl fun b13 w4 hn13 hb13 hE4 hs4 => ?_))))))
    have hq := hq.ext hE4 fun _ _ => id
    have hX := hX.thenNo hE4
    have hb13 : Blk w4 b13 5 (bytesU [0]) := hb13
    have hX1 := hX
    refine wl (st_app I_ok rfl 1 1 rfl rfl rfl (by decide) hq (Src.slice (m := 1) ⟨rfl, .inr ⟨b13, 0, rfl, hb13.seg⟩⟩ OneC.h) (by dsimp only [maxLen]; omega) (by dsimp only; omega) fun p5 c5 w5 ho5 hE5 hB5 => ?_)
    have hX := hX1.trans hE5 fun y hy hF => by have := hqn y hF; omega
    have hqn2 : ∀ x, OwnB p5 x → w.heap.size ≤ x := fun x hx => (hB5 x hx).elim (fun h => hqn x h) fun h => Nat.le_trans hX1.size h
    have e9 := padJ_succ l j
    have e10 : (padJ l j).length + 1 = (padJ l (j + 1)).length := by rw [padJ_len, padJ_len]; omega
    have hq2 : Own w5 p5 (padJ l (j + 1)).length c5 5 1 (bytesU (padJ l (j + 1))) := by
      rw [← e10, e9, bytesU_append]
      exact ho5
    dsimp only
    rw [e10]
    refine wl_p I_ok rfl (wl_nil ?_)
    exact f_blockN (f_round (j + 1, p5, c5) rfl ⟨⟨by dsimp only; omega, hq2, hqn2⟩, hX⟩ (by first | omega | (dsimp only; omega)))
  · have h0 : j = K := by omega
    subst h0
    refine c_exit (f_thenE (f_thenE (f_blockE (f_then (c_seq (c_region (wl_p I_ok rfl ?_)))))))
    rw [show IntKind.u64.wrap (IntKind.u64.wrap (l.length : Int) * 8) = ((8 * l.length : Nat) : Int) from by rw [IntWalk.u64_in (l.length : Int) (by omega), IntWalk.u64_in _ (by omega)]; omega]
    refine wl (st_call Tryz.call89 rfl rfl rfl rfl rfl rfl (high_calls 8 (by decide) w3 (8 * l.length) (by omega)) fun v6 w6 hr6 => ?_)
    obtain ⟨qh, kh, rfl, hqh, hqhn, hE6⟩ := hr6
    have hq := hq.ext hE6 fun _ _ => id
    have hX := hX.thenNo hE6
    rw [show Value.slice qh 8 kh = .slice qh (be 8 (8 * l.length)).length kh from by rw [be_len]]
    have hX0 := hX
    refine wl (st_call Tryz.call118 rfl rfl rfl rfl rfl rfl (both_calls w6 hq.sl (by rw [SlB, be_len]; exact hqh.sl) (by omega) (by rw [be_len]; decide)) fun v7 w7 hr7 => ?_)
    obtain ⟨r, kr, rfl, hr, hrn, hE7⟩ := hr7
    have hX := hX.thenNo hE7
    rw [hpad] at hr ⊢
    refine wl_p I_ok rfl (wl_nil (f_then (c_ret (f_ret1 rfl rfl ?_))))
    exact ⟨r, kr, rfl, hr, fun b hb => Nat.le_trans hX0.size (hrn b hb), hX⟩
theorem flat4_get (H : List W32) {j : Nat} (hj : j < 4 * H.length) : (H.flatMap fun x => be 4 x.toNat)[j]? = (be 4 (H.getD (j / 4) 0).toNat)[j % 4]? := by
  induction H generalizing j with
  | nil => simp at hj
  | cons x r ih =>
    rw [List.flatMap_cons]
    by_cases h4 : j < 4
    · rw [List.getElem?_append_left (by rw [be_len]; exact h4), Nat.div_eq_of_lt h4, Nat.mod_eq_of_lt h4]
      rfl
    · obtain ⟨i, rfl⟩ : ∃ i, j = i + 4 := ⟨j - 4, by omega⟩
      rw [List.getElem?_append_right (by rw [be_len]; omega), be_len, Nat.add_sub_cancel, ih (by rw [List.length_cons] at hj; omega), Nat.add_mod_right, Nat.add_div_right _ (by decide)]
      rfl
theorem bytes_set (D : List UInt8) {j n : Nat} (h1 : j < D.length) (h2 : j < n) : (bytesU (D.take j ++ List.replicate (n - j) 0)).set (0 + j * 1) (byteV D[j]) = bytesU (D.take (j + 1) ++ List.replicate (n - (j + 1)) 0) := by
  have e1 : (D.take j).length = j := by rw [List.length_take]; omega
  have e2 : n - j = (n - (j + 1)) + 1 := by omega
  rw [Nat.zero_add, Nat.mul_one, bytesU, ← List.map_set, List.set_append_right _ _ (by omega), e1, Nat.sub_self, e2, List.replicate_succ, List.set_cons_zero, List.take_succ_eq_append_getElem h1, List.append_assoc]
  rfl
theorem refSum_calls (w : World) {p : Option Addr} {c : Nat} {l : List UInt8} (h : SlB w p l) (hl : l.length < 100000000) :
    CallsV Tryz.prog 68 [.slice p l.length c] w fun v w' => v = .agg (bytesU (sumW l)).toArray ∧ Ext No w w' := by
  refine calls_enter Tryz.func68 rfl rfl rfl rfl ?_
  have hX := Ext.refl No w
  refine c_seq (c_region (wl (st_al I_ok rfl fun b2 w1 hn2 hb2 hE1 => ?_)))
  have fr2 := Nat.le_trans hX.size hn2
  have hX := hX.thenNo hE1
  refine wl_nil (f_then (c_seq (c_region (wl (st_bd I_ok rfl (by simp [partsOk]; decide) (l' := wordsV startW) rfl (wl (st_al I_ok rfl fun b3 w2 hn3 hb3 hE2 => ?_)))))))
  have ne2_3 : b2 ≠ b3 := Nat.ne_of_lt (Nat.lt_of_lt_of_le hb2.lt hn3)
  have fr3 := Nat.le_trans hX.size hn3
  have hb2 := hb2.extNo hE2
  have hX := hX.thenNo hE2
  refine wl (st_stW (l' := wordsV startW) I_ok hb3 rfl rfl rfl rfl OneC.h fun w3 hb3 hE3 hs3 => ?_)
  have hb2 := hb2.ext1 hE3 ne2_3
  have hX := hX.thenNew hE3 fr3
  refine wl_nil (f_then (c_seq (c_region (wl_p I_ok rfl ?_))))
  have hb3l := hb3.lt
  have hb2l := hb2.lt
  refine wl (st_call Tryz.call91 rfl rfl rfl rfl rfl rfl (refPad_calls w3 (h.extNo hX) hl) fun v4 w4 hr4 => ?_)
  obtain ⟨q, kq, rfl, hq, hqn, hE4⟩ := hr4
  have hb2 := hb2.extNo hE4
  have hb3 := hb3.extNo hE4
  have hX := hX.thenNo hE4
  have hPl : (padW l).length % 64 = 0 := by rw [padW_len]; omega
  have hPm : (padW l).length < 200000000 := by rw [padW_len]; omega
  have hsum : sumW l = (blocksW rootsW startW (padW l) ((padW l).length / 64)).flatMap fun x => be 4 x.toNat := rfl
  rw [hsum]
  have hcap := hq.cap
  have hP : SlB w4 q (padW l) := hq.sl
  have hqb3 : ∀ b off, q = some ⟨b, off, none⟩ → ¬ One b3 b := fun b off e hb => by
    have hb : b = b3 := hb
    rcases hq with ⟨_, h0, _⟩ | ⟨bq, _, h1, _⟩
    · rw [padW_len] at h0; omega
    · rw [h1] at e
      cases e
      have := hqn b h1
      omega
  clear hq
  generalize padW l = P at hP hPl hPm hcap ⊢
  have hb3l := Nat.lt_of_lt_of_le hb3l hE4.size
  refine wl_p I_ok rfl (wl_nil (f_then (c_seq (c_region (wl (st_call Tryz.call92 rfl rfl rfl rfl rfl rfl (known_calls w4) fun v5 w5 hr5 => ?_))))))
  obtain ⟨bk, rfl, hnk, hbk, hE5⟩ := hr5
  have hb2 := hb2.extNo hE5
  have hb3 := hb3.extNo hE5
  have hP := hP.extNo hE5
  have hX := hX.thenNo hE5
  have hsk : Seg w5 bk 0 (wordsV rootsW) := hbk.seg
  have hkb3 : ¬ One b3 bk := fun e => by have e : bk = b3 := e; omega
  refine wl_p I_ok rfl (wl_nil (f_then (c_seq (c_seq (c_region (wl_p I_ok rfl (wl_nil (f_then (c_block ?_)))))))))
  refine c_loopK (α := Nat) [2, 3, 4, 5] rfl (fun z => [(6, .int .i64 ((64 * z : Nat) : Int))]) (fun z u => (64 * z ≤ P.length ∧ SlB u q P ∧ Seg u bk 0 (wordsV rootsW)) ∧ Blk u b2 31 (cellsOf ti31.zero) ∧ Blk u b3 147 (wordsV (blocksW rootsW startW P z)) ∧ Ext No w u) (fun z u => P.length - 64 * z) (0) rfl ⟨⟨Nat.zero_le _, hP, hsk⟩, hb2, hb3, hX⟩ ?_
  rintro k w6 ⟨⟨hk, hP, hsk⟩, hb2, hb3, hX⟩
  refine c_seq (c_seq (c_region (wl_p I_ok rfl (wl_nil (f_then (c_if rfl (fun hc => ?_) (fun hc => ?_)))))))
  · have hk64 : 64 * k + 64 ≤ P.length := by omega
    have htl : ((P.drop (64 * k)).take 64).length = 64 := by rw [List.length_take, List.length_drop]; omega
    have hBl : (blocksW rootsW startW P k).length = 8 := by rw [blocksW_len]; rfl
    refine c_skip (f_then (c_seq (c_block (c_draw rfl 8 [(0, true), (1, true), (2, true), (3, true), (4, true), (5, true), (6, true), (7, false)] [8] (No) (by kernel_rfl) fun w7 hE7 hs7 => ?_))))
    have hd3 := hb3
    have hb2 := hb2.extNo hE7
    have hb3 := hb3.extNo hE7
    have hP := hP.extNo hE7
    have hsk := hsk.extNo hE7
    have hX := hX.thenNo hE7
    have hC : Ext (No) _ w7 := hE7.no
    refine wd_ldN I_ok rfl rfl (fun w' hw' => (hd3.extNo hw').seg) (by rw [wordsV_len, hBl]) ?_
    refine wd_k I_ok 4 rfl ?_
    rw [IntWalk.i64_in _ (by omega)]
    refine wd_sl I_ok rfl rfl (64 * k) (64 * k + 64) kq 1 rfl (.inr ⟨rfl, rfl⟩) (.inl (congrArg some (by omega))) (.inl (congrArg some (by omega))) (by omega) (by omega) (Nat.le_refl _) ?_
    dsimp only
    rw [show 64 * k + 64 - 64 * k = ((P.drop (64 * k)).take 64).length from by rw [htl]; omega]
    refine wd_k I_ok 1 rfl ?_
    have hsp : SlB w7 (slBase q (64 * k) kq 1) ((P.drop (64 * k)).take 64) := by
      have e := Sl.slice hP (64 * k) (64 * k + 64) kq (by omega) (by omega) (by omega)
      rw [Nat.mul_one, Nat.mul_one, bytesU_drop, bytesU_take, show 64 * k + 64 - 64 * k = 64 from by omega] at e
      rw [SlB, htl]
      exact e
    refine wd_l rfl (st_call Tryz.call93 rfl rfl rfl rfl rfl rfl (refInto_calls w7 hBl (b := (P.drop (64 * k)).take 64) hsp htl (by omega) hsk) fun v8 w8 hr8 => ⟨(by obtain ⟨rfl, hE8⟩ := hr8; exact hC.thenNo hE8), ?_⟩)
    obtain ⟨rfl, hE8⟩ := hr8
    have hb2 := hb2.extNo hE8
    have hb3 := hb3.extNo hE8
    have hP := hP.extNo hE8
    have hsk := hsk.extNo hE8
    have hX := hX.thenNo hE8
    refine wd_sw ?_
    refine wb rfl (st_stW (l' := wordsV (intoW rootsW (blocksW rootsW startW P k) ((P.drop (64 * k)).take 64))) I_ok hb3 rfl rfl (by rw [wordsV_len, intoW_len, hBl]) (by rw [wordsV_len, intoW_len, hBl, wordsV_len, hBl]) OneC.h fun w9 hb3 hE9 hs9 => ?_)
    have hb2 := hb2.ext1 hE9 ne2_3
    have hP := hP.ext hE9 hqb3
    have hsk := hsk.ext hE9 hkb3
    have hX := hX.thenNew hE9 fr3
    refine wb_nil (f_blockN (f_then (c_region (wl_p I_ok rfl ?_))))
    rw [IntWalk.i64_in _ (by omega)]
    refine wl_nil ?_
    exact f_round (k + 1) rfl ⟨⟨by omega, hP, hsk⟩, hb2, hb3, hX⟩ (by first | omega | (dsimp only; omega))
  · have h0 : k = P.length / 64 := by omega
    subst h0
    have hHl : (blocksW rootsW startW P (P.length / 64)).length = 8 := by rw [blocksW_len]; rfl
    generalize blocksW rootsW startW P (P.length / 64) = H at hb3 hHl ⊢
    have hDl := flat4_len H
    have hDg : ∀ j, j < 4 * H.length → (H.flatMap fun x => be 4 x.toNat)[j]? = (be 4 (H.getD (j / 4) 0).toNat)[j % 4]? := fun j => flat4_get H
    generalize (H.flatMap fun x => be 4 x.toNat) = D at hDl hDg ⊢
    refine c_exit (f_thenE (f_thenE (f_blockE (f_then (c_seq (c_region (wl (st_al I_ok rfl fun b7 w10 hn7 hb7 hE10 => ?_))))))))
    have ne2_7 : b2 ≠ b7 := Nat.ne_of_lt (Nat.lt_of_lt_of_le hb2.lt hn7)
    have ne3_7 : b3 ≠ b7 := Nat.ne_of_lt (Nat.lt_of_lt_of_le hb3.lt hn7)
    have fr7 := Nat.le_trans hX.size hn7
    have hb2 := hb2.extNo hE10
    have hb3 := hb3.extNo hE10
    have hX := hX.thenNo hE10
    have hb7 : Blk w10 b7 31 (bytesU (D.take 0 ++ List.replicate (32 - 0) 0)) := hb7
    refine wl_nil (f_then (c_seq (c_seq (c_region (wl_p I_ok rfl (wl_nil (f_then (c_block ?_))))))))
    refine c_loopK (α := Nat) [2, 3, 7] rfl (fun z => [(8, .int .i64 (z : Int))]) (fun z u => (z ≤ 32) ∧ Blk u b2 31 (cellsOf ti31.zero) ∧ Blk u b3 147 (wordsV H) ∧ Blk u b7 31 (bytesU (D.take z ++ List.replicate (32 - z) 0)) ∧ Ext No w u) (fun z u => 32 - z) (0) rfl ⟨by decide, hb2, hb3, hb7, hX⟩ ?_
    rintro j w11 ⟨hj, hb2, hb3, hb7, hX⟩
    refine c_seq (c_seq (c_region (wl_p I_ok rfl (wl_nil (f_then (c_if rfl (fun hc => ?_) (fun hc => ?_)))))))
    · have hj32 : j < 32 := by omega
      have hDj := hDg j (by omega)
      rw [List.getElem?_eq_getElem (by omega)] at hDj
      have hHj := words_getD H (i := j / 4) (by omega)
      refine c_skip (f_then (c_seq (c_block (c_region (wl_p I_ok rfl ?_)))))
      rw [show IntKind.i64.wrap ((j : Int).tdiv 4) = ((j / 4 : Nat) : Int) from by rw [IntWalk.i64_quo _ _ (by omega)]; omega]
      refine wl (st_ix I_ok rfl 1 rfl (j / 4) rfl (by omega) (0 + j / 4) (by omega) (wl (st_ld I_ok rfl (hb3.cell (i := 0 + j / 4) (v := wordV (H.getD (j / 4) 0)) (by rw [Nat.zero_add]; exact hHj)) (wl_p I_ok rfl ?_))))
      rw [show IntKind.u64.wrap ((H.getD (j / 4) 0).toNat : Int) = ((H.getD (j / 4) 0).toNat : Int) from by have := (H.getD (j / 4) 0).isLt; rw [IntWalk.u64_in _ (by omega)]]
      refine wl (st_call Tryz.call89 rfl rfl rfl rfl rfl rfl (high_calls 4 (by decide) w11 (H.getD (j / 4) 0).toNat (by have := (H.getD (j / 4) 0).isLt; omega)) fun v12 w12 hr12 => ?_)
      obtain ⟨qh, kh, rfl, hqh, hqhn, hE12⟩ := hr12
      have hb2 := hb2.extNo hE12
      have hb3 := hb3.extNo hE12
      have hb7 := hb7.extNo hE12
      have hX := hX.thenNo hE12
      obtain ⟨bh, rfl, hsh⟩ : ∃ bh, qh = some ⟨bh, 0, none⟩ ∧ Seg w12 bh 0 (bytesU (be 4 (H.getD (j / 4) 0).toNat)) := by
        rcases hqh with ⟨_, h0, _⟩ | ⟨bh, l, h1, h2, _, _, _, h3⟩
        · omega
        · refine ⟨bh, h1, ?_⟩
          rw [← h3]
          exact h2.seg.take _
      have hbj : (bytesU (be 4 (H.getD (j / 4) 0).toNat))[j % 4]? = some (byteV (D[j]'(by omega))) := by rw [bytesU, List.getElem?_map, ← hDj]; rfl
      refine wl_p I_ok rfl ?_
      rw [show ((j : Int).tmod 4) = ((j % 4 : Nat) : Int) from rfl]
      refine wl (st_ix I_ok rfl 1 rfl (j % 4) rfl (by omega) (0 + j % 4) (by omega) (wl (st_ld I_ok rfl (hsh (j % 4) _ hbj) (wl (st_ix I_ok rfl 1 rfl j rfl hj32 (0 + j * 1) rfl ?_)))))
      refine wl (st_set I_ok hb7 rfl rfl (by rw [bytesU_len, List.length_append, List.length_take, List.length_replicate]; omega) fun w13 hb7 hE13 hs13 => ?_)
      have hb2 := hb2.ext1 hE13 ne2_7
      have hb3 := hb3.ext1 hE13 ne3_7
      have hX := hX.thenNew hE13 fr7
      rw [bytes_set D (by omega) hj32] at hb7
      refine wl_nil (f_blockN (f_then (c_region (wl_p I_ok rfl ?_))))
      rw [IntWalk.i64_in _ (by omega)]
      refine wl_nil ?_
      exact f_round (j + 1) rfl ⟨by omega, hb2, hb3, hb7, hX⟩ (by first | omega | (dsimp only; omega))
    · have h0 : j = 32 := by omega
      subst h0
      have e1 : D.take 32 ++ List.replicate (32 - 32) 0 = D := by rw [List.take_of_length_le (by omega)]; simp
      rw [e1] at hb7
      have hD32 : (bytesU D).length = 32 := by rw [bytesU_len]; omega
      refine c_exit (f_thenE (f_thenE (f_blockE (f_then (c_seq (c_region (wl (st_ldB I_ok hb7 rfl hD32 (wl (st_stW (l' := bytesU D) I_ok hb2 rfl rfl hD32 (by rw [hD32]; rfl) OneC.h fun w14 hb2 hE14 hs14 => ?_))))))))))
      have hX := hX.thenNew hE14 fr2
      refine wl_nil (f_then (c_ret (f_ret [_] ⟨⟨b2, 0, rfl, ld_all I_ok rfl rfl hb2.seg (by rw [hD32]; rfl)⟩, trivial⟩ ?_)))
      exact ⟨rfl, hX⟩
end Go.Proofs.YtpcdihkcenfgkaaGreat
namespace Go.Vc

/-- the bounds of a part: what is said, or what holds if nothing is said -/
structure Bds where
  lo : Option Int
  hi : Option Int
  mx : Option Int
def Bds.Is (s : Bds) (n c l hh m : Nat) : Prop :=
  (s.mx = some (m : Int) ∧ s.hi.isSome = true ∨ s.mx = none ∧ m = c) ∧ (s.hi = some (hh : Int) ∨ s.hi = none ∧ hh = n) ∧ (s.lo = some (l : Int) ∨ s.lo = none ∧ l = 0) ∧ l ≤ hh ∧ hh ≤ m ∧ m ≤ c

section
variable {P : Program} {I : Info} {f : Fs} {ops : Array Oper} {o : Oper} {env : Env} {w : World}

def evB (env : Env) (lo hi mx : Option Operand) : Option Bds :=
  match evI env lo with
  | some lo' => match evI env hi with
    | some hi' => match evI env mx with
      | some mx' => some ⟨lo', hi', mx'⟩
      | none => none
    | none => none
  | none => none

theorem run_bds {lo hi mx : Option Operand} {s : Bds} (h : evB env lo hi mx = some s) {ρ : Operand → Value} (hρ : ∀ x u, evO env x = some u → ρ x = u) {n c l hh m : Nat} (hs : s.Is n c l hh m) (b : Bool) :
    (Instr.sliceBounds b n c (lo.map ρ) (hi.map ρ) (mx.map ρ)).run P w = .ok (l, hh, m) w := by
  obtain ⟨h1, h2, h3, hl, hm, hc⟩ := hs
  unfold evB at h
  split at h
  · rename_i lo' hlo
    split at h
    · rename_i hi' hhi
      split at h
      · rename_i mx' hmx
        cases h
        simp only at h1 h2 h3
        have q3 : (lo.map ρ = none ∧ l = 0) ∨ ∃ k, lo.map ρ = some (.int k (l : Int)) := by
          rcases evI_eq hlo hρ with ⟨hr, hv⟩ | ⟨nn, kk, hr, hv⟩ <;> rcases h3 with h3 | ⟨h3, h3'⟩ <;> rw [h3] at hr <;> cases hr
          · exact .inl ⟨hv, h3'⟩
          · exact .inr ⟨kk, hv⟩
        have q2 : (hi.map ρ = none ∧ hi' = none ∧ hh = n) ∨ ∃ k, hi.map ρ = some (.int k (hh : Int)) := by
          rcases evI_eq hhi hρ with ⟨hr, hv⟩ | ⟨nn, kk, hr, hv⟩ <;> rcases h2 with h2 | ⟨h2, h2'⟩ <;> rw [h2] at hr <;> cases hr
          · exact .inl ⟨hv, h2, h2'⟩
          · exact .inr ⟨kk, hv⟩
        have q1 : (mx.map ρ = none ∧ m = c) ∨ (hi'.isSome = true ∧ ∃ k, mx.map ρ = some (.int k (m : Int))) := by
          rcases evI_eq hmx hρ with ⟨hr, hv⟩ | ⟨nn, kk, hr, hv⟩ <;> rcases h1 with ⟨h1, h1'⟩ | ⟨h1, h1'⟩ <;> rw [h1] at hr <;> cases hr
          · exact .inl ⟨hv, h1'⟩
          · exact .inr ⟨h1', kk, hv⟩
        unfold Instr.sliceBounds
        rcases q1 with ⟨q1, rfl⟩ | ⟨q1', k1, q1⟩ <;> rcases q2 with ⟨q2, q2', rfl⟩ | ⟨k2, q2⟩ <;> rcases q3 with ⟨q3, rfl⟩ | ⟨k3, q3⟩ <;> rw [q1, q2, q3] <;>
          first
            | (rw [q2'] at q1'; cases q1'; done)
            | (cases b <;> simp only [Sem.run_bind, Sem.run_pure, Result.andThen_ok, if_true, run_bound _ _ _ _ hl, run_bound _ _ _ _ hm, run_bound _ _ _ _ hc]; done)
      · cases h
    · cases h
  · cases h

/-- a part of an array in memory -/
def saE (I : Info) (n : Nat) (ops : Array Oper) (env : Env) (o : Oper) : Option (Nat × Nat × Nat × Nat × Bds × Nat) :=
  match pre n ops env o with
  | false => none
  | true => match o.dst with
    | some d => match o.op with
      | .slice t x lo hi mx => match lkT I t with
        | some y => match y.desc with
          | .array m e => match lkT I e with
            | some g => match evO env x with
              | some (.pointer (some ⟨b, off, none⟩)) => match evB env lo hi mx with
                | some s => some (b, off, m, g.size, s, d)
                | none => none
              | _ => none
            | none => none
          | _ => none
        | none => none
      | _ => none
    | none => none

theorem ov_sa (hI : I.Ok P) {nn b off len sz0 d : Nat} {s : Bds} (h : saE I nn ops env o = some (b, off, len, sz0, s, d)) (l hh m sz : Nat) (hsz : sz0 = sz) (hs : s.Is len len l hh m) :
    pre nn ops env o = true ∧ o.dst = some d ∧ Ov P o env w (.slice (slBase (some ⟨b, off, none⟩) l m sz) (hh - l) (m - l)) w := by
  subst hsz
  unfold saE at h
  split at h
  · cases h
  · rename_i hp
    split at h
    · rename_i d' hd
      split at h
      · rename_i t x lo hi mx ho
        split at h
        · rename_i y hy
          split at h
          · rename_i m' e he
            split at h
            · rename_i g hg
              split at h
              · rename_i b' off' hx
                split at h
                · rename_i s' hsb
                  simp only [Option.some.injEq, Prod.mk.injEq] at h
                  obtain ⟨rfl, rfl, rfl, rfl, rfl, rfl⟩ := h
                  refine ⟨hp, hd, fun ρ hρ => ?_⟩
                  have hu := (hI.get hy).under w
                  have hz := (hI.get hg).sizeOf w
                  rw [he] at hu
                  have go : (Instr.sliceAt t (.pointer (some ⟨b', off', none⟩)) (lo.map ρ) (hi.map ρ) (mx.map ρ)).run P w = .ok (.slice (slBase (some ⟨b', off', none⟩) l m g.size) (hh - l) (m - l)) w := by
                    unfold Instr.sliceAt
                    rw [run_under_bind hu]
                    simp only [Instr.sureAddr, Sem.run_bind, Sem.run_pure, Result.andThen_ok, run_bds hsb hρ hs false, hz, slBase]
                    split <;> rfl
                  simp only [execOp, ho, hρ _ _ hx, Sem.run_bind, go, Result.andThen_ok, Sem.run_pure]
                · cases h
              · cases h
            · cases h
          · cases h
        · cases h
      · cases h
    · cases h
theorem st_sa (hI : I.Ok P) {K : Env → World → Prop} {b off len sz0 d : Nat} {s : Bds} (h : saE I f.n ops env o = some (b, off, len, sz0, s, d)) (l hh m sz : Nat) (hsz : sz0 = sz) (hs : s.Is len len l hh m)
    (k : K ((d, .slice (slBase (some ⟨b, off, none⟩) l m sz) (hh - l) (m - l)) :: env) w) : St P f ops o env w K := by
  obtain ⟨h1, h2, h3⟩ := ov_sa (w := w) hI h l hh m sz hsz hs
  obtain ⟨h4, h5⟩ := pre_eq h1
  exact st_v h4 h5 h3 (by rw [h2]; exact k)
theorem wd_sa (hI : I.Ok P) {K : Act → World → Prop} {r : Dr} {i : Nat} {pl : List (Nat × Bool)} {dn : List Nat} (ho : ops[i]? = some o) {b off len sz0 d : Nat} {s : Bds} (h : saE I f.n ops env o = some (b, off, len, sz0, s, d)) (l hh m sz : Nat) (hsz : sz0 = sz) (hs : s.Is len len l hh m)
    (k : WD P f ops K r pl (i :: dn) ((d, .slice (slBase (some ⟨b, off, none⟩) l m sz) (hh - l) (m - l)) :: env) w) : WD P f ops K r ((i, true) :: pl) dn env w := by
  obtain ⟨h1, h2, _⟩ := ov_sa (w := w) hI h l hh m sz hsz hs
  exact wd_q ho h1 h2 (fun w' _ => (ov_sa (w := w') hI h l hh m sz hsz hs).2.2) k

/-- a part of a string -/
def ssE (I : Info) (n : Nat) (ops : Array Oper) (env : Env) (o : Oper) : Option (ByteArray × Bds × Nat) :=
  match pre n ops env o with
  | false => none
  | true => match o.dst with
    | some d => match o.op with
      | .slice t x lo hi none => match lkT I t with
        | some y => match y.desc with
          | .string => match evO env x with
            | some (.string s) => match evB env lo hi none with
              | some bs => some (s, bs, d)
              | none => none
            | _ => none
          | _ => none
        | none => none
      | _ => none
    | none => none
theorem ov_ss (hI : I.Ok P) {nn d : Nat} {s : ByteArray} {bs : Bds} (h : ssE I nn ops env o = some (s, bs, d)) (l hh : Nat) (hs : bs.Is s.size s.size l hh s.size) :
    pre nn ops env o = true ∧ o.dst = some d ∧ Ov P o env w (.string (s.extract l hh)) w := by
  unfold ssE at h
  split at h
  · cases h
  · rename_i hp
    split at h
    · rename_i d' hd
      split at h
      · rename_i t x lo hi ho
        split at h
        · rename_i y hy
          split at h
          · rename_i he
            split at h
            · rename_i s' hx
              split at h
              · rename_i bs' hsb
                simp only [Option.some.injEq, Prod.mk.injEq] at h
                obtain ⟨rfl, rfl, rfl⟩ := h
                refine ⟨hp, hd, fun ρ hρ => ?_⟩
                have hu := (hI.get hy).under w
                rw [he] at hu
                have hb := run_bds (P := P) (w := w) hsb hρ hs false
                simp only [Option.map_none] at hb
                have go : (Instr.sliceAt t (.string s') (lo.map ρ) (hi.map ρ) none).run P w = .ok (.string (s'.extract l hh)) w := by
                  unfold Instr.sliceAt
                  rw [run_under_bind hu]
                  show (Instr.slice t (.string s') (lo.map ρ) (hi.map ρ) none).run P w = _
                  unfold Instr.slice
                  rw [run_under_bind hu]
                  simp only [Option.isSome_none, Bool.false_eq_true, if_false, Sem.run_bind, Sem.run_pure, Result.andThen_ok, hb]
                simp only [execOp, ho, hρ _ _ hx, Option.map_none, Sem.run_bind, go, Result.andThen_ok, Sem.run_pure]
              · cases h
            · cases h
          · cases h
        · cases h
      · cases h
    · cases h
theorem wb_ss (hI : I.Ok P) {K : Act → World → Prop} {i kk : Nat} {pl dn : List Nat} (ho : ops[i]? = some o) (hk : kk = ops.size + i) {d : Nat} {s : ByteArray} {bs : Bds} (h : ssE I f.n ops env o = some (s, bs, d)) (l hh : Nat) (hs : bs.Is s.size s.size l hh s.size) (hn : Region.noSelect ops = true)
    (k : WB P f ops K pl (i :: dn) ((d, .string (s.extract l hh)) :: env) w) : WB P f ops K (kk :: pl) dn env w := by
  obtain ⟨h1, h2, _⟩ := ov_ss (w := w) hI h l hh hs
  exact wbv ho hk h1 h2 (fun w' => (ov_ss (w := w') hI h l hh hs).2.2) hn k
theorem wd_ss (hI : I.Ok P) {K : Act → World → Prop} {r : Dr} {i : Nat} {pl : List (Nat × Bool)} {dn : List Nat} (ho : ops[i]? = some o) {d : Nat} {s : ByteArray} {bs : Bds} (h : ssE I f.n ops env o = some (s, bs, d)) (l hh : Nat) (hs : bs.Is s.size s.size l hh s.size)
    (k : WD P f ops K r pl (i :: dn) ((d, .string (s.extract l hh)) :: env) w) : WD P f ops K r ((i, true) :: pl) dn env w := by
  obtain ⟨h1, h2, _⟩ := ov_ss (w := w) hI h l hh hs
  exact wd_q ho h1 h2 (fun w' _ => (ov_ss (w := w') hI h l hh hs).2.2) k

end
end Go.Vc
namespace Go.Vc

/-- the string of bytes -/
def strU (l : List UInt8) : ByteArray := ⟨l.toArray⟩
theorem strU_size (l : List UInt8) : (strU l).size = l.length := rfl
theorem strU_of (s : ByteArray) : strU s.data.toList = s := by obtain ⟨⟨x⟩⟩ := s; rfl
theorem strU_inj {a b : List UInt8} (h : strU a = strU b) : a = b := by
  have e := congrArg (fun s : ByteArray => s.data.toList) h
  exact e

section
variable {P : Program} {I : Info} {f : Fs} {ops : Array Oper} {o : Oper} {env : Env} {w : World}

/-- a string out of bytes in memory -/
def b2sE (I : Info) (n : Nat) (ops : Array Oper) (env : Env) (o : Oper) : Option (Option Addr × Nat × Nat × Nat) :=
  match pre n ops env o with
  | false => none
  | true => match o.dst with
    | some d => match o.op with
      | .convert s t x => match lkT I s with
        | some y => match y.desc with
          | .slice e => match lkT I e with
            | some g => match g.desc with
              | .int .u8 => match lkT I t with
                | some z => match z.desc with
                  | .string => match evO env x with
                    | some (.slice p m c) => some (p, m, c, d)
                    | _ => none
                  | _ => none
                | none => none
              | _ => none
            | none => none
          | _ => none
        | none => none
      | _ => none
    | none => none
/-- equality of two values whose types may be keys -/
def eqKE (n : Nat) (ops : Array Oper) (env : Env) (o : Oper) : Option (Nat × Bool × Value × Value × Nat) :=
  match pre n ops env o with
  | false => none
  | true => match o.dst with
    | some d => match o.op with
      | .binOp op t x y _ => match evO env x with
        | some (.agg a) => match evO env y with
          | some (.agg b) => match op with
            | .eql => some (t, true, .agg a, .agg b, d)
            | .neq => some (t, false, .agg a, .agg b, d)
            | _ => none
          | _ => none
        | _ => none
      | _ => none
    | none => none
theorem ov_eqK {nn t d : Nat} {q : Bool} {a b : Value} (h : eqKE nn ops env o = some (t, q, a, b, d)) (hgd : P.eqGuardType P.depth t = false) (m : Nat) (hm : m ≤ 10000) (hk : P.keyTypeAt m t = true)
    {D D' : Nat} {la lb : List Lit} (fa : a.formed P t = true) (fb : b.formed P t = true) (ha : P.keyLits D t a.cells.toList = some la) (hb : P.keyLits D' t b.cells.toList = some lb) {p : Prop} [Decidable p] (hp : la = lb ↔ p) :
    pre nn ops env o = true ∧ o.dst = some d ∧ Ov P o env w (.bool (if q then decide p else decide (¬ p))) w := by
  unfold eqKE at h
  split at h
  · cases h
  · rename_i hpr
    split at h
    · rename_i d' hd
      split at h
      · rename_i op t' x y u ho
        split at h
        · rename_i xa hx
          split at h
          · rename_i ya hy
            have key : ∃ r : Bool, (Op.equal t' (.agg xa) (.agg ya)).run P w = .ok r w ∧ (r = true ↔ p) ∨ t' ≠ t ∨ a ≠ .agg xa ∨ b ≠ .agg ya := by
              by_cases ht : t' = t ∧ a = .agg xa ∧ b = .agg ya
              · obtain ⟨rfl, rfl, rfl⟩ := ht
                obtain ⟨r, h1, h2⟩ := run_equalIn_deep (P := P) (10000 - m) m t' hk w D D' _ _ la lb fa fb ha hb
                rw [Nat.sub_add_cancel hm] at h1
                exact ⟨r, .inl ⟨h1, h2.trans hp⟩⟩
              · refine ⟨true, .inr ?_⟩
                by_cases h1 : t' = t
                · by_cases h2 : a = .agg xa
                  · exact .inr (.inr fun h3 => ht ⟨h1, h2, h3⟩)
                  · exact .inr (.inl h2)
                · exact .inl h1
            split at h
            all_goals first
              | (cases h; done)
              | (simp only [Option.some.injEq, Prod.mk.injEq] at h
                 obtain ⟨rfl, rfl, rfl, rfl, rfl⟩ := h
                 obtain ⟨r, ⟨hr, hrp⟩ | hne | hne | hne⟩ := key
                 · refine ⟨hpr, hd, fun ρ hρ => ?_⟩
                   have hrd : r = decide p := by
                     rw [Bool.eq_iff_iff, hrp]; simp
                   have hg := run_eqGuard_agg (P := P) w (BinOp.eql) t' x y xa ya hgd
                   have hg2 := run_eqGuard_agg (P := P) w (BinOp.neq) t' x y xa ya hgd
                   first
                     | (simp only [execOp, ho, hρ _ _ hx, hρ _ _ hy, Sem.run_bind, hg, hg2, Result.andThen_ok, binOp, hr, Sem.run_pure, hrd]; simp; done)
                     | (simp only [execOp, ho, hρ _ _ hx, hρ _ _ hy, Sem.run_bind, hg, hg2, Result.andThen_ok, binOp, hr, Sem.run_pure, hrd]; done)
                 · exact absurd rfl hne
                 · exact absurd rfl hne
                 · exact absurd rfl hne)
          · cases h
        · cases h
      · cases h
    · cases h
theorem st_eqK {K : Env → World → Prop} {t d : Nat} {q : Bool} {a b : Value} (h : eqKE f.n ops env o = some (t, q, a, b, d)) (hgd : P.eqGuardType P.depth t = false) (m : Nat) (hm : m ≤ 10000) (hk : P.keyTypeAt m t = true)
    {D D' : Nat} {la lb : List Lit} (fa : a.formed P t = true) (fb : b.formed P t = true) (ha : P.keyLits D t a.cells.toList = some la) (hb : P.keyLits D' t b.cells.toList = some lb) {p : Prop} [Decidable p] (hp : la = lb ↔ p)
    (k : K ((d, .bool (if q then decide p else decide (¬ p))) :: env) w) : St P f ops o env w K := by
  obtain ⟨h1, h2, h3⟩ := ov_eqK (P := P) (w := w) h hgd m hm hk fa fb ha hb hp
  obtain ⟨h4, h5⟩ := pre_eq h1
  exact st_v h4 h5 h3 (by rw [h2]; exact k)
end
theorem wd_eqK {P : Program} {f : Fs} {ops : Array Oper} {o : Oper} {env : Env} {w : World} {K : Act → World → Prop} {r : Dr} {i : Nat} {pl : List (Nat × Bool)} {dn : List Nat} (ho : ops[i]? = some o) {t d : Nat} {q : Bool} {a b : Value} (h : eqKE f.n ops env o = some (t, q, a, b, d)) (hgd : P.eqGuardType P.depth t = false) (m : Nat) (hm : m ≤ 10000) (hk : P.keyTypeAt m t = true)
    {D D' : Nat} {la lb : List Lit} (fa : a.formed P t = true) (fb : b.formed P t = true) (ha : P.keyLits D t a.cells.toList = some la) (hb : P.keyLits D' t b.cells.toList = some lb) {p : Prop} [Decidable p] (hp : la = lb ↔ p)
    (k : WD P f ops K r pl (i :: dn) ((d, .bool (if q then decide p else decide (¬ p))) :: env) w) : WD P f ops K r ((i, true) :: pl) dn env w := by
  obtain ⟨h1, h2, _⟩ := ov_eqK (P := P) (w := w) h hgd m hm hk fa fb ha hb hp
  exact wd_q ho h1 h2 (fun w' _ => (ov_eqK (P := P) (w := w') h hgd m hm hk fa fb ha hb hp).2.2) k

/-! ### What a key's cells read as -/
theorem mapM_some {α β : Type} {f : α → Option β} {g : α → β} : ∀ {L : List α}, (∀ x ∈ L, f x = some (g x)) → L.mapM f = some (L.map g)
  | [], _ => by simp
  | x :: r, h => by
    rw [List.mapM_cons, h x (by simp), mapM_some (L := r) fun y hy => h y (by simp [hy])]
    rfl
theorem flat_single {α β : Type} (f : α → β) (L : List α) : (L.map fun x => [f x]).flatten = L.map f := by
  induction L with
  | nil => rfl
  | cons x r ih => rw [List.map_cons, List.flatten_cons, ih]; rfl
def idLits (l : List UInt8) : List Lit := l.map fun b => Lit.int .u8 (b.toNat : Int)
theorem idLits_inj {a b : List UInt8} : idLits a = idLits b ↔ a = b := by
  refine ⟨fun h => (List.map_inj_right fun x y e => ?_).1 h, fun h => by rw [h]⟩
  simp only [Lit.int.injEq, true_and] at e
  exact UInt8.toNat_inj.1 (by omega)
theorem lits_bytes {P : Program} {d t e n : Nat} (hu : P.underlying t = some (.array n e)) (hc : P.cellsOf t = n) (he : P.underlying e = some (.int .u8)) (hce : P.cellsOf e = 1) {l : List UInt8} (hl : l.length = n) : P.keyLits (d + 2) t (bytesU l) = some (idLits l) := by
  unfold Program.keyLits
  simp only [hu, hc, hce, bytesU_len, hl, if_true]
  have h1 : ∀ i ∈ List.range n, P.keyLits (d + 1) e (((bytesU l).drop (i * 1)).take 1) = some [Lit.int .u8 ((l.getD i 0).toNat : Int)] := by
    intro i hi
    have hi : i < l.length := by rw [hl]; exact List.mem_range.1 hi
    have e1 : ((bytesU l).drop (i * 1)).take 1 = [byteV (l.getD i 0)] := by
      rw [Nat.mul_one, bytesU, ← List.map_drop, List.drop_eq_getElem_cons hi, List.getD_eq_getElem?_getD, List.getElem?_eq_getElem hi]
      rfl
    rw [e1]
    unfold Program.keyLits
    simp only [he]
    have := (l.getD i 0).toNat_lt
    rw [if_pos]
    refine ⟨trivial, ?_⟩
    have e1 : IntKind.u8.min = 0 := rfl
    have e2 : IntKind.u8.max = 255 := rfl
    simp only [Lit.wf, e1, e2, Bool.and_eq_true, decide_eq_true_eq]
    omega
  rw [mapM_some h1]
  simp only [Option.map_some, Option.some.injEq]
  rw [← hl]
  apply List.ext_getElem?
  intro i
  have : ((List.range l.length).map fun i => [Lit.int .u8 ((l.getD i 0).toNat : Int)]).flatten = (List.range l.length).map fun i => Lit.int .u8 ((l.getD i 0).toNat : Int) := by
    exact flat_single _ _
  rw [this]
  simp only [idLits, List.getElem?_map]
  by_cases hi : i < l.length
  · rw [List.getElem?_eq_getElem hi, List.getElem?_eq_getElem (by simpa using hi)]
    simp [List.getD_eq_getElem?_getD, List.getElem?_eq_getElem hi]
  · rw [List.getElem?_eq_none (l := List.range l.length) (by rw [List.length_range]; omega), List.getElem?_eq_none (l := l) (by omega)]
    rfl
theorem lits_str {P : Program} {d t : Nat} (hu : P.underlying t = some .string) {s : List UInt8} (hs : s.length ≤ maxLen) : P.keyLits (d + 1) t [.string (strU s)] = some [.string s] := by
  unfold Program.keyLits
  simp only [hu]
  exact if_pos hs
theorem lits_bool {P : Program} {d t : Nat} (hu : P.underlying t = some .bool) (b : Bool) : P.keyLits (d + 1) t [.bool b] = some [.bool b] := by
  unfold Program.keyLits
  simp only [hu]
theorem lits_struct {P : Program} {d t : Nat} {cs : List Value} {L : List (Nat × Nat)} (hu : P.underlying t = some (.struct (P.fieldsOf t))) (hn : (P.fieldsOf t).all (·.name != "_") = true) (hc : cs.length = P.cellsOf t)
    (hf : (P.fieldsOf t).toList.map (fun f => (f.type, f.offset)) = L) {ls : List (List Lit)} (hm : L.mapM (fun p => P.keyLits d p.1 ((cs.drop p.2).take (P.cellsOf p.1))) = some ls) : P.keyLits (d + 1) t cs = some ls.flatten := by
  unfold Program.keyLits
  simp only [hu]
  rw [if_pos ⟨hc, hn⟩]
  subst hf
  have : (P.fieldsOf t).toList.mapM (fun f => P.keyLits d f.type ((cs.drop f.offset).take (P.cellsOf f.type))) = some ls := by
    rw [← hm]
    generalize (P.fieldsOf t).toList = fs
    induction fs with
    | nil => rfl
    | cons f fs ih => simp only [List.map_cons, List.mapM_cons, ih]
  rw [this]
  rfl
end Go.Vc
namespace Go.Vc
abbrev Str := List UInt8
abbrev strV (l : Str) : Value := .string (strU l)

def okC (c : UInt8) : Prop := 33 ≤ c.toNat ∧ c.toNat ≤ 126
instance (c : UInt8) : Decidable (okC c) := inferInstanceAs (Decidable (_ ∧ _))
/-- is a text a path? -/
def PathOk (l : Str) : Prop := (∀ c ∈ l, okC c) ∧ 1 ≤ l.length ∧ l.length ≤ 48
instance (l : Str) : Decidable (PathOk l) := inferInstanceAs (Decidable (_ ∧ _))
theorem pathNo {l : Str} {i : Nat} (hi : i < l.length) (h : ¬ okC l[i]) : ¬ PathOk l := fun hp => h (hp.1 _ (List.getElem_mem hi))
theorem pathIs {l : Str} (h : ∀ i (hi : i < l.length), okC l[i]) : PathOk l ↔ 1 ≤ l.length ∧ l.length ≤ 48 :=
  ⟨fun hp => hp.2, fun hl => ⟨fun c hc => by obtain ⟨i, hi, rfl⟩ := List.mem_iff_getElem.1 hc; exact h i hi, hl⟩⟩

theorem allStep {α : Type} {p : α → Prop} {l : List α} {i : Nat} (h : ∀ k (hk : k < l.length), k < i → p l[k]) (hi : i < l.length) (h1 : p l[i]) : ∀ k (hk : k < l.length), k < i + 1 → p l[k] := fun k hk hlt => by
  rcases Nat.lt_or_ge k i with h' | h'
  · exact h k hk h'
  · obtain rfl : k = i := by omega
    exact h1
structure RowD where
  path : Str
  text : Str
  deriving DecidableEq
structure LeafD where
  path : Str
  id : List UInt8
  deriving DecidableEq
structure ChgD where
  path : Str
  is : Bool
  text : Str
  deriving DecidableEq
def RowD.cells (r : RowD) : List Value := [strV r.path, strV r.text]
def LeafD.cells (r : LeafD) : List Value := strV r.path :: bytesU r.id
def ChgD.cells (r : ChgD) : List Value := [strV r.path, .bool r.is, strV r.text]
theorem flat_at {α : Type} {f : α → List Value} {n : Nat} : ∀ {l : List α}, (∀ x ∈ l, (f x).length = n) → ∀ {i : Nat} (hi : i < l.length), ((l.flatMap f).drop (i * n)).take n = f l[i]
  | [], _, i, hi => absurd hi (Nat.not_lt_zero _)
  | x :: r, h, 0, _ => by
    rw [Nat.zero_mul, List.drop_zero, List.flatMap_cons, List.take_append_of_le_length (by rw [h x (by simp)]; exact Nat.le_refl _), List.take_of_length_le (by rw [h x (by simp)]; exact Nat.le_refl _)]
    rfl
  | x :: r, h, i + 1, hi => by
    have hx := h x (by simp)
    rw [List.flatMap_cons, Nat.succ_mul, Nat.add_comm, ← List.drop_drop, ← hx, List.drop_left, hx, flat_at (fun y hy => h y (by simp [hy])) (by simpa using hi)]
    rfl
theorem flat_len {α : Type} {f : α → List Value} {n : Nat} : ∀ {l : List α}, (∀ x ∈ l, (f x).length = n) → (l.flatMap f).length = l.length * n
  | [], _ => by simp
  | x :: r, h => by
    rw [List.flatMap_cons, List.length_append, h x (by simp), flat_len (fun y hy => h y (by simp [hy])), List.length_cons, Nat.succ_mul, Nat.add_comm]
theorem Sl.rowAt {α : Type} {w : World} {p : Option Addr} {f : α → List Value} {n : Nat} {l : List α} (h : Sl w p l.length n (l.flatMap f)) (hn : ∀ x ∈ l, (f x).length = n) {i : Nat} (hi : i < l.length) :
    ∃ b off, p = some ⟨b, off, none⟩ ∧ Seg w b (off + i * n) (f l[i]) := by
  obtain ⟨_, h0 | ⟨b, off, hp, hs⟩⟩ := h
  · omega
  · refine ⟨b, off, hp, ?_⟩
    have := (hs.drop (i * n)).take n
    rw [flat_at hn hi] at this
    exact this
theorem Sl.rowAll {α : Type} {w : World} {p : Option Addr} {f : α → List Value} {n : Nat} {l : List α} (h : Sl w p l.length n (l.flatMap f)) (hn : ∀ x ∈ l, (f x).length = n) (h0 : 0 < l.length) :
    ∃ b off, p = some ⟨b, off, none⟩ ∧ ∀ i (hi : i < l.length), Seg w b (off + i * n) (f l[i]) := by
  obtain ⟨_, h1 | ⟨b, off, hp, hs⟩⟩ := h
  · omega
  · refine ⟨b, off, hp, fun i hi => ?_⟩
    have := (hs.drop (i * n)).take n
    rw [flat_at hn hi] at this
    exact this
theorem RowD.len (r : RowD) : r.cells.length = 2 := rfl
theorem ChgD.len (r : ChgD) : r.cells.length = 3 := rfl
theorem LeafD.len {r : LeafD} (h : r.id.length = 32) : r.cells.length = 33 := by simp [LeafD.cells, bytesU_len, h]
instance (r : RowD) : OneC r.cells := by unfold RowD.cells; infer_instance
instance (r : ChgD) : OneC r.cells := by unfold ChgD.cells; infer_instance
instance (r : LeafD) : OneC r.cells := by unfold LeafD.cells; infer_instance
/-- paths that rise -/
def Rises (l : List Str) : Prop := l.length ≤ 32 ∧ ∀ i (hi : i < l.length), PathOk l[i] ∧ (0 < i → SLt (strU (l[i - 1]'(by omega))) (strU l[i]))
instance (l : List Str) : Decidable (Rises l) := inferInstanceAs (Decidable (_ ∧ _))
def RowsOk (l : List RowD) : Prop := ¬ (∃ r ∈ l, 256 < r.text.length) ∧ Rises (l.map RowD.path)
instance (l : List RowD) : Decidable (RowsOk l) := inferInstanceAs (Decidable (_ ∧ _))
theorem bl_total : ∀ (x y : List UInt8), (Op.bytesLess x y = true ∨ x = y) ∨ Op.bytesLess y x = true
  | [], [] => .inl (.inr rfl)
  | [], _ :: _ => .inl (.inl rfl)
  | _ :: _, [] => .inr rfl
  | a :: x, b :: y => by
    simp only [Op.bytesLess, Bool.or_eq_true, Bool.and_eq_true, decide_eq_true_eq, beq_iff_eq]
    rcases Nat.lt_trichotomy a.toNat b.toNat with h | h | h
    · exact .inl (.inl (.inl (UInt8.lt_iff_toNat_lt.2 h)))
    · obtain rfl : a = b := UInt8.toNat_inj.1 h
      rcases bl_total x y with (h1 | h1) | h1
      · exact .inl (.inl (.inr ⟨rfl, h1⟩))
      · exact .inl (.inr (by rw [h1]))
      · exact .inr (.inr ⟨rfl, h1⟩)
    · exact .inr (.inl (UInt8.lt_iff_toNat_lt.2 h))
theorem bl_asymm : ∀ (x y : List UInt8), Op.bytesLess x y = true → Op.bytesLess y x = true → False
  | [], [], h, _ => by cases h
  | [], _ :: _, _, h => by cases h
  | _ :: _, [], h, _ => by cases h
  | a :: x, b :: y, h, k => by
    simp only [Op.bytesLess, Bool.or_eq_true, Bool.and_eq_true, decide_eq_true_eq, beq_iff_eq] at h k
    rcases h with h | ⟨rfl, h⟩
    · rcases k with k | ⟨rfl, k⟩
      · have := UInt8.lt_iff_toNat_lt.1 h; have := UInt8.lt_iff_toNat_lt.1 k; omega
      · have := UInt8.lt_iff_toNat_lt.1 h; omega
    · rcases k with k | ⟨_, k⟩
      · have := UInt8.lt_iff_toNat_lt.1 k; omega
      · exact bl_asymm x y h k
theorem slt_flip (a b : ByteArray) : ¬ (SLt a b ∨ a = b) ↔ SLt b a := by
  constructor
  · intro h
    rcases bl_total a.data.toList b.data.toList with (h1 | h1) | h1
    · exact absurd (.inl h1) h
    · refine absurd (.inr ?_) h
      obtain ⟨⟨x⟩⟩ := a
      obtain ⟨⟨y⟩⟩ := b
      have h1 : x = y := h1
      rw [h1]
    · exact h1
  · rintro h (k | rfl)
    · exact bl_asymm _ _ h k
    · exact bl_asymm _ _ h h
/-- is the i-th row right? -/
def RowGood (l : List RowD) (i : Nat) (hi : i < l.length) : Prop := i ≠ 32 ∧ PathOk l[i].path ∧ l[i].text.length ≤ 256 ∧ (0 < i → SLt (strU (l[i - 1]'(by omega)).path) (strU l[i].path))
instance (l : List RowD) (i : Nat) (hi : i < l.length) : Decidable (RowGood l i hi) := inferInstanceAs (Decidable (_ ∧ _))
theorem rowsOk_iff {l : List RowD} : RowsOk l ↔ ∀ i (hi : i < l.length), RowGood l i hi := by
  constructor
  · rintro ⟨h1, h2, h3⟩ i hi
    rw [List.length_map] at h2
    have := h3 i (by rw [List.length_map]; exact hi)
    refine ⟨by omega, by simpa using this.1, ?_, fun h0 => by simpa using this.2 h0⟩
    exact Nat.not_lt.1 fun h => h1 ⟨_, List.getElem_mem hi, h⟩
  · intro h
    refine ⟨fun ⟨r, hr, ht⟩ => ?_, ?_, fun i hi => ?_⟩
    · obtain ⟨i, hi, rfl⟩ := List.mem_iff_getElem.1 hr
      have := (h i hi).2.2.1
      omega
    · rw [List.length_map]
      exact Nat.not_lt.1 fun hl => (h 32 hl).1 rfl
    · rw [List.length_map] at hi
      have := h i hi
      simp only [List.getElem_map]
      exact ⟨this.2.1, this.2.2.2⟩
def ChgBad (c : ChgD) : Prop := 256 < c.text.length ∨ c.is = false ∧ c.text ≠ []
instance (c : ChgD) : Decidable (ChgBad c) := inferInstanceAs (Decidable (_ ∨ _))
theorem chg_nil (t : Str) : (strU t ≠ ByteArray.mk #[]) ↔ t ≠ [] :=
  ⟨fun h1 h2 => h1 (by rw [h2]; rfl), fun h1 h2 => h1 (strU_inj h2)⟩
def EditOk (l : List ChgD) : Prop := ¬ (∃ r ∈ l, ChgBad r) ∧ Rises (l.map ChgD.path)
instance (l : List ChgD) : Decidable (EditOk l) := inferInstanceAs (Decidable (_ ∧ _))
def ChgGood (l : List ChgD) (i : Nat) (hi : i < l.length) : Prop := i ≠ 32 ∧ PathOk l[i].path ∧ ¬ ChgBad l[i] ∧ (0 < i → SLt (strU (l[i - 1]'(by omega)).path) (strU l[i].path))
instance (l : List ChgD) (i : Nat) (hi : i < l.length) : Decidable (ChgGood l i hi) := inferInstanceAs (Decidable (_ ∧ _))
theorem editOk_iff {l : List ChgD} : EditOk l ↔ ∀ i (hi : i < l.length), ChgGood l i hi := by
  constructor
  · rintro ⟨h1, h2, h3⟩ i hi
    rw [List.length_map] at h2
    have := h3 i (by rw [List.length_map]; exact hi)
    refine ⟨by omega, by simpa using this.1, ?_, fun h0 => by simpa using this.2 h0⟩
    exact fun h => h1 ⟨_, List.getElem_mem hi, h⟩
  · intro h
    refine ⟨fun ⟨r, hr, ht⟩ => ?_, ?_, fun i hi => ?_⟩
    · obtain ⟨i, hi, rfl⟩ := List.mem_iff_getElem.1 hr
      exact (h i hi).2.2.1 ht
    · rw [List.length_map]
      exact Nat.not_lt.1 fun hl => (h 32 hl).1 rfl
    · rw [List.length_map] at hi
      have := h i hi
      simp only [List.getElem_map]
      exact ⟨this.2.1, this.2.2.2⟩
end Go.Vc
namespace Go.Proofs.YtpcdihkcenfgkaaGreat
open Go.Vc
theorem path_calls (w : World) (l : Str) (hl : l.length < 1000000000) :
    CallsV Tryz.prog 147 [strV l] w fun v w' => v = .bool (decide (PathOk l)) ∧ w' = w := by
  have hs : (strU l).size = l.length := rfl
  refine calls_enter Tryz.func147 rfl rfl rfl rfl ?_
  have hX := Ext.refl No w
  refine c_seq (c_region (wl_p I_ok rfl (wl_nil (f_then (c_seq (c_seq (c_region (wl_p I_ok rfl (wl_nil (f_then (c_block ?_)))))))))))
  refine c_loopK (α := Nat) [0, 5] rfl (fun z => [(6, .int .i64 (z : Int))]) (fun z u => ((z ≤ l.length ∧ ∀ k (hk : k < l.length), k < z → okC l[k]) ∧ u = w) ∧ Ext No w u) (fun z u => l.length - z) (0) rfl ⟨⟨⟨Nat.zero_le _, fun k _ h => absurd h (Nat.not_lt_zero _)⟩, rfl⟩, hX⟩ ?_
  rintro i w1 ⟨⟨⟨hi, hok⟩, rfl⟩, hX⟩
  refine c_seq (c_region (wl_p I_ok rfl (wl_nil (f_then (c_seq (c_if rfl (fun hc => ?_) (fun hc => ?_)))))))
  · have hi : i < l.length := by omega
    have hci : (strU l).data.toList[i]? = some l[i] := List.getElem?_eq_getElem hi
    refine c_skip (f_then (c_seq (c_block (c_seq (c_region (wl_p I_ok rfl (wl_nil (f_then (c_cutK (α := Bool) [0, 5, 6] rfl (fun z => [(18, .bool z)]) (fun z u => u = w1 ∧ z = decide (¬ okC l[i])) ?_ ?_)))))))))
    · refine c_region ?_
      refine wl_p I_ok rfl (wl (st_is I_ok rfl i rfl hci (wl_p I_ok rfl (wl_caseD 13 rfl (fun hg => ?_) (fun hg => ?_)))))
      · refine wl_pk I_ok 5 rfl ?_
        refine wl_nil ?_
        exact f_cut (true) rfl ⟨rfl, by symm; rw [decide_eq_true_eq]; intro h; have := h.1; omega⟩
      · refine wl_pk I_ok 2 rfl ?_
        refine wl (st_is I_ok rfl i rfl hci (wl_pk I_ok 2 rfl (wl_nil ?_)))
        exact f_cut (_) rfl ⟨rfl, by rw [decide_eq_decide]; unfold okC; omega⟩
    rintro z w2 ⟨hu, rfl⟩
    have hu := hu.symm
    subst hu
    refine c_if rfl (fun hc => ?_) (fun hc => ?_)
    · have hno := pathNo hi hc
      refine c_seq (c_region (wl_p I_ok rfl (wl_nil (f_then (c_ret (f_blockR (f_thenR (f_thenR (f_blockR (f_thenR (f_ret1 rfl rfl ?_)))))))))))
      exact ⟨by rw [decide_eq_false hno], rfl⟩
    · have hoi : okC l[i] := Decidable.not_not.1 hc
      refine c_skip (f_blockN (f_then (c_region (wl_p I_ok rfl ?_))))
      rw [IntWalk.i64_in _ (by omega)]
      refine wl_nil ?_
      exact f_round (i + 1) rfl ⟨⟨⟨by omega, allStep hok hi hoi⟩, rfl⟩, hX⟩ (by first | omega | (dsimp only; omega))
  · have hall := pathIs (l := l) fun k hk => hok k hk (by omega)
    refine c_exit (f_thenE (f_thenE (f_blockE (f_then (c_cutK (α := Bool) [] rfl (fun z => [(2, .bool z)]) (fun z u => u = w1 ∧ z = decide (1 ≤ l.length ∧ l.length ≤ 48)) ?_ ?_)))))
    · refine c_region ?_
      refine wl_p I_ok rfl (wl_caseD 23 rfl (fun hg => ?_) (fun hg => ?_))
      · refine wl_pk I_ok 5 rfl ?_
        refine wl_nil ?_
        exact f_cut (_) rfl ⟨rfl, by rw [decide_eq_decide]; omega⟩
      · refine wl_pk I_ok 5 rfl ?_
        refine wl_nil ?_
        exact f_cut (_) rfl ⟨rfl, by symm; rw [decide_eq_false_iff_not]; omega⟩
    rintro z w3 ⟨hu, rfl⟩
    have hu := hu.symm
    subst hu
    refine c_ret (f_ret1 rfl rfl ?_)
    exact ⟨by rw [decide_eq_decide.2 hall], rfl⟩

theorem path5_calls (w : World) (l : Str) (hl : l.length < 1000000000) :
    CallsV Tryz.prog 65 [strV l] w fun v w' => v = .bool (decide (PathOk l)) ∧ w' = w := by
  have hs : (strU l).size = l.length := rfl
  refine calls_enter Tryz.func65 rfl rfl rfl rfl ?_
  have hX := Ext.refl No w
  refine c_seq (c_region (wl_p I_ok rfl (wl_nil (f_then (c_seq (c_seq (c_region (wl_p I_ok rfl (wl_nil (f_then (c_block ?_)))))))))))
  refine c_loopK (α := Nat) [0] rfl (fun z => [(3, .int .i64 (z : Int))]) (fun z u => ((z ≤ l.length ∧ ∀ k (hk : k < l.length), k < z → okC l[k]) ∧ u = w) ∧ Ext No w u) (fun z u => l.length - z) (0) rfl ⟨⟨⟨Nat.zero_le _, fun k _ h => absurd h (Nat.not_lt_zero _)⟩, rfl⟩, hX⟩ ?_
  rintro i w1 ⟨⟨⟨hi, hok⟩, rfl⟩, hX⟩
  refine c_seq (c_seq (c_region (wl_p I_ok rfl (wl_nil (f_then (c_if rfl (fun hc => ?_) (fun hc => ?_)))))))
  · have hi : i < l.length := by omega
    have hci : (strU l).data.toList[i]? = some l[i] := List.getElem?_eq_getElem hi
    refine c_skip (f_then (c_seq (c_block (c_cutK (α := Bool) [0, 3] rfl (fun z => [(19, .bool z)]) (fun z u => u = w1 ∧ z = decide (¬ okC l[i])) ?_ ?_))))
    · refine c_region ?_
      refine wl_p I_ok rfl (wl (st_is I_ok rfl i rfl hci (wl_p I_ok rfl (wl_caseD 14 rfl (fun hg => ?_) (fun hg => ?_)))))
      · refine wl_pk I_ok 5 rfl ?_
        refine wl_nil ?_
        exact f_cut (true) rfl ⟨rfl, by symm; rw [decide_eq_true_eq]; intro h; have := h.1; omega⟩
      · refine wl_pk I_ok 2 rfl ?_
        refine wl (st_is I_ok rfl i rfl hci (wl_pk I_ok 2 rfl (wl_nil ?_)))
        exact f_cut (_) rfl ⟨rfl, by rw [decide_eq_decide]; unfold okC; omega⟩
    rintro z w2 ⟨hu, rfl⟩
    have hu := hu.symm
    subst hu
    refine c_if rfl (fun hc => ?_) (fun hc => ?_)
    · have hno := pathNo hi hc
      refine c_seq (c_region (wl_p I_ok rfl (wl_nil (f_then (c_ret (f_blockR (f_thenR (f_thenR (f_blockR (f_thenR (f_ret1 rfl rfl ?_)))))))))))
      exact ⟨by rw [decide_eq_false hno], rfl⟩
    · have hoi : okC l[i] := Decidable.not_not.1 hc
      refine c_skip (f_blockN (f_then (c_region (wl_p I_ok rfl ?_))))
      rw [IntWalk.i64_in _ (by omega)]
      refine wl_nil ?_
      exact f_round (i + 1) rfl ⟨⟨⟨by omega, allStep hok hi hoi⟩, rfl⟩, hX⟩ (by first | omega | (dsimp only; omega))
  · have hall := pathIs (l := l) fun k hk => hok k hk (by omega)
    refine c_exit (f_thenE (f_thenE (f_blockE (f_then (c_cutK (α := Bool) [] rfl (fun z => [(2, .bool z)]) (fun z u => u = w1 ∧ z = decide (1 ≤ l.length ∧ l.length ≤ 48)) ?_ ?_)))))
    · refine c_region ?_
      refine wl_p I_ok rfl (wl_caseD 23 rfl (fun hg => ?_) (fun hg => ?_))
      · refine wl_pk I_ok 5 rfl ?_
        refine wl_nil ?_
        exact f_cut (_) rfl ⟨rfl, by rw [decide_eq_decide]; omega⟩
      · refine wl_pk I_ok 5 rfl ?_
        refine wl_nil ?_
        exact f_cut (_) rfl ⟨rfl, by symm; rw [decide_eq_false_iff_not]; omega⟩
    rintro z w3 ⟨hu, rfl⟩
    have hu := hu.symm
    subst hu
    refine c_ret (f_ret1 rfl rfl ?_)
    exact ⟨by rw [decide_eq_decide.2 hall], rfl⟩

theorem path6_calls (w : World) (l : Str) (hl : l.length < 1000000000) :
    CallsV Tryz.prog 115 [strV l] w fun v w' => v = .bool (decide (PathOk l)) ∧ w' = w := by
  have hs : (strU l).size = l.length := rfl
  refine calls_enter Tryz.func115 rfl rfl rfl rfl ?_
  have hX := Ext.refl No w
  refine c_seq (c_region (wl_p I_ok rfl (wl_nil (f_then (c_seq (c_seq (c_region (wl_p I_ok rfl (wl_nil (f_then (c_block ?_)))))))))))
  refine c_loopK (α := Nat) [0, 5] rfl (fun z => [(6, .int .i64 (z : Int))]) (fun z u => ((z ≤ l.length ∧ ∀ k (hk : k < l.length), k < z → okC l[k]) ∧ u = w) ∧ Ext No w u) (fun z u => l.length - z) (0) rfl ⟨⟨⟨Nat.zero_le _, fun k _ h => absurd h (Nat.not_lt_zero _)⟩, rfl⟩, hX⟩ ?_
  rintro i w1 ⟨⟨⟨hi, hok⟩, rfl⟩, hX⟩
  refine c_seq (c_region (wl_p I_ok rfl (wl_nil (f_then (c_seq (c_if rfl (fun hc => ?_) (fun hc => ?_)))))))
  · have hi : i < l.length := by omega
    have hci : (strU l).data.toList[i]? = some l[i] := List.getElem?_eq_getElem hi
    refine c_skip (f_then (c_seq (c_block (c_seq (c_region (wl_p I_ok rfl (wl_nil (f_then (c_cutK (α := Bool) [0, 5, 6] rfl (fun z => [(18, .bool z)]) (fun z u => u = w1 ∧ z = decide (¬ okC l[i])) ?_ ?_)))))))))
    · refine c_region ?_
      refine wl_p I_ok rfl (wl (st_is I_ok rfl i rfl hci (wl_p I_ok rfl (wl_caseD 13 rfl (fun hg => ?_) (fun hg => ?_)))))
      · refine wl_pk I_ok 5 rfl ?_
        refine wl_nil ?_
        exact f_cut (true) rfl ⟨rfl, by symm; rw [decide_eq_true_eq]; intro h; have := h.1; omega⟩
      · refine wl_pk I_ok 2 rfl ?_
        refine wl (st_is I_ok rfl i rfl hci (wl_pk I_ok 2 rfl (wl_nil ?_)))
        exact f_cut (_) rfl ⟨rfl, by rw [decide_eq_decide]; unfold okC; omega⟩
    rintro z w2 ⟨hu, rfl⟩
    have hu := hu.symm
    subst hu
    refine c_if rfl (fun hc => ?_) (fun hc => ?_)
    · have hno := pathNo hi hc
      refine c_seq (c_region (wl_p I_ok rfl (wl_nil (f_then (c_ret (f_blockR (f_thenR (f_thenR (f_blockR (f_thenR (f_ret1 rfl rfl ?_)))))))))))
      exact ⟨by rw [decide_eq_false hno], rfl⟩
    · have hoi : okC l[i] := Decidable.not_not.1 hc
      refine c_skip (f_blockN (f_then (c_region (wl_p I_ok rfl ?_))))
      rw [IntWalk.i64_in _ (by omega)]
      refine wl_nil ?_
      exact f_round (i + 1) rfl ⟨⟨⟨by omega, allStep hok hi hoi⟩, rfl⟩, hX⟩ (by first | omega | (dsimp only; omega))
  · have hall := pathIs (l := l) fun k hk => hok k hk (by omega)
    refine c_exit (f_thenE (f_thenE (f_blockE (f_then (c_cutK (α := Bool) [] rfl (fun z => [(2, .bool z)]) (fun z u => u = w1 ∧ z = decide (1 ≤ l.length ∧ l.length ≤ 48)) ?_ ?_)))))
    · refine c_region ?_
      refine wl_p I_ok rfl (wl_caseD 23 rfl (fun hg => ?_) (fun hg => ?_))
      · refine wl_pk I_ok 5 rfl ?_
        refine wl_nil ?_
        exact f_cut (_) rfl ⟨rfl, by rw [decide_eq_decide]; omega⟩
      · refine wl_pk I_ok 5 rfl ?_
        refine wl_nil ?_
        exact f_cut (_) rfl ⟨rfl, by symm; rw [decide_eq_false_iff_not]; omega⟩
    rintro z w3 ⟨hu, rfl⟩
    have hu := hu.symm
    subst hu
    refine c_ret (f_ret1 rfl rfl ?_)
    exact ⟨by rw [decide_eq_decide.2 hall], rfl⟩

end Go.Proofs.YtpcdihkcenfgkaaGreat
namespace Go.Proofs.YtpcdihkcenfgkaaGreat
open Go.Vc
theorem rowPath_calls (w : World) (r : RowD) :
    CallsV Tryz.prog 143 [.agg r.cells.toArray] w fun v w' => v = strV r.path ∧ Ext No w w' := by
  refine calls_enter Tryz.func143 rfl rfl rfl rfl ?_
  have hX := Ext.refl No w
  refine c_seq (c_region (wl (st_al I_ok rfl fun b1 w1 hn1 hb1 hE1 => ?_)))
  have hX := hX.thenNo hE1
  have hb1 : Blk w1 b1 73 (r.cells) := hb1
  refine wl_p I_ok rfl (wl_nil (f_then (c_seq (c_region (wl_p I_ok rfl (wl (st_ldb I_ok hb1 rfl rfl (wl_p I_ok rfl (wl_nil (f_then (c_ret (f_ret1 rfl rfl ?_))))))))))))
  exact ⟨rfl, hX⟩

theorem changePath_calls (w : World) (r : ChgD) :
    CallsV Tryz.prog 132 [.agg r.cells.toArray] w fun v w' => v = strV r.path ∧ Ext No w w' := by
  refine calls_enter Tryz.func132 rfl rfl rfl rfl ?_
  have hX := Ext.refl No w
  refine c_seq (c_region (wl (st_al I_ok rfl fun b1 w1 hn1 hb1 hE1 => ?_)))
  have hX := hX.thenNo hE1
  have hb1 : Blk w1 b1 102 (r.cells) := hb1
  refine wl_p I_ok rfl (wl_nil (f_then (c_seq (c_region (wl_p I_ok rfl (wl (st_ldb I_ok hb1 rfl rfl (wl_p I_ok rfl (wl_nil (f_then (c_ret (f_ret1 rfl rfl ?_))))))))))))
  exact ⟨rfl, hX⟩

theorem check1_calls (w : World) (r : RowD) :
    CallsV Tryz.prog 142 [.agg r.cells.toArray] w fun v w' => v = .bool (decide (256 < r.text.length)) ∧ Ext No w w' := by
  refine calls_enter Tryz.func142 rfl rfl rfl rfl ?_
  have hX := Ext.refl No w
  refine c_seq (c_region (wl (st_al I_ok rfl fun b1 w1 hn1 hb1 hE1 => ?_)))
  have hX := hX.thenNo hE1
  have hb1 : Blk w1 b1 73 (r.cells) := hb1
  refine wl_p I_ok rfl (wl_nil (f_then (c_seq (c_region (wl_p I_ok rfl (wl (st_ldb I_ok hb1 rfl rfl (wl_p I_ok rfl (wl_nil (f_then (c_ret (f_ret1 rfl rfl ?_))))))))))))
  exact ⟨congrArg Value.bool (decide_eq_decide.2 (by have : (strU r.text).size = r.text.length := rfl; omega)), hX⟩

theorem indexFuncRow_calls (w : World) {p : Option Addr} {c G : Nat} {l : List RowD} (h : Sl w p l.length 2 (l.flatMap RowD.cells)) (hl : l.length < 1000000000) (Q : RowD → Prop) [DecidablePred Q]
    (hcf : ∀ args w, (callFunc G args).run Tryz.prog w = .ok (.enter G args) w) (hQ : ∀ w (r : RowD), r.cells.length = 2 → CallsV Tryz.prog G [.agg r.cells.toArray] w fun v w' => v = .bool (decide (Q r)) ∧ Ext No w w') :
    CallsV Tryz.prog 149 [.slice p l.length c, .func (.func G) #[] #[]] w fun v w' => ∃ n : Int, v = .int .i64 n ∧ (0 ≤ n ↔ ∃ r ∈ l, Q r) ∧ Ext No w w' := by
  refine calls_enter Tryz.func149 rfl rfl rfl rfl ?_
  have hX := Ext.refl No w
  refine c_seq (c_region (wl_p I_ok rfl (wl_nil (f_then (c_seq (c_seq (c_region (wl_p I_ok rfl (wl_nil (f_then (c_block ?_)))))))))))
  refine c_loopK (α := Nat) [0, 1, 7] rfl (fun z => [(8, .int .i64 (z : Int))]) (fun z u => (z ≤ l.length ∧ ∀ k (hk : k < l.length), k < z → ¬ Q l[k]) ∧ Ext No w u) (fun z u => l.length - z) (0) rfl ⟨⟨Nat.zero_le _, fun k _ h => absurd h (Nat.not_lt_zero _)⟩, hX⟩ ?_
  rintro i w1 ⟨⟨hi, hno⟩, hX⟩
  refine c_seq (c_region (wl_p I_ok rfl (wl_nil (f_then (c_seq (c_if rfl (fun hc => ?_) (fun hc => ?_)))))))
  · have hi : i < l.length := by omega
    obtain ⟨b, off, rfl, hseg⟩ := (h.extNo hX).rowAt (fun r _ => r.len) hi
    refine c_skip (f_then (c_seq (c_block (c_seq (c_region (wl_p I_ok rfl (wl_nil (f_then (c_seq (c_region (wl_p I_ok rfl (wl (st_ix I_ok rfl 2 rfl i rfl (by omega) (off + i * 2) rfl (wl (st_ldN I_ok rfl hseg rfl ?_)))))))))))))))
    refine wl (st_call hcf rfl rfl rfl rfl rfl rfl (hQ w1 l[i] rfl) fun v2 w2 hr2 => ?_)
    obtain ⟨rfl, hE2⟩ := hr2
    have hX := hX.thenNo hE2
    refine wl_nil (f_then (c_if rfl (fun hc => ?_) (fun hc => ?_)))
    · refine c_seq ?_
      refine c_region (wl_p I_ok rfl (wl_nil (f_then (c_ret (f_blockR (f_thenR (f_thenR (f_blockR (f_thenR (f_ret1 rfl rfl ?_))))))))))
      exact ⟨_, rfl, ⟨fun _ => ⟨_, List.getElem_mem hi, hc⟩, fun _ => Int.natCast_nonneg _⟩, hX⟩
    · refine c_skip ?_
      refine f_blockN (f_then (c_region (wl_p I_ok rfl ?_)))
      rw [IntWalk.i64_in _ (by omega)]
      refine wl_nil ?_
      exact f_round (i + 1) rfl ⟨⟨by omega, allStep (p := fun x => ¬ Q x) hno hi hc⟩, hX⟩ (by first | omega | (dsimp only; omega))
  · have hall : ¬ ∃ r ∈ l, Q r := fun ⟨r, hr, hq⟩ => by
      obtain ⟨k, hk, rfl⟩ := List.mem_iff_getElem.1 hr
      exact hno k hk (by omega) hq
    refine c_exit (f_thenE (f_thenE (f_blockE (f_then (c_seq (c_region (wl_p I_ok rfl (wl_nil (f_then (c_ret (f_ret1 rfl rfl ?_)))))))))))
    exact ⟨_, rfl, ⟨fun h => absurd h (by decide), fun h => absurd h hall⟩, hX⟩

theorem containsFuncRow_calls (w : World) {p : Option Addr} {c G : Nat} {l : List RowD} (h : Sl w p l.length 2 (l.flatMap RowD.cells)) (hl : l.length < 1000000000) (Q : RowD → Prop) [DecidablePred Q]
    (hcf : ∀ args w, (callFunc G args).run Tryz.prog w = .ok (.enter G args) w) (hQ : ∀ w (r : RowD), r.cells.length = 2 → CallsV Tryz.prog G [.agg r.cells.toArray] w fun v w' => v = .bool (decide (Q r)) ∧ Ext No w w') :
    CallsV Tryz.prog 141 [.slice p l.length c, .func (.func G) #[] #[]] w fun v w' => v = .bool (decide (∃ r ∈ l, Q r)) ∧ Ext No w w' := by
  refine calls_enter Tryz.func141 rfl rfl rfl rfl ?_
  have hX := Ext.refl No w
  refine c_seq (c_region (wl_p I_ok rfl (wl_nil (f_then (c_seq (c_region (wl_p I_ok rfl (wl (st_call Tryz.call149 rfl rfl rfl rfl rfl rfl (indexFuncRow_calls w (h.extNo hX) hl Q hcf hQ) fun v1 w1 hr1 => ?_)))))))))
  obtain ⟨n, rfl, hn1, hE1⟩ := hr1
  have hX := hX.thenNo hE1
  refine wl_p I_ok rfl (wl_nil (f_then (c_ret (f_ret1 rfl rfl ?_))))
  exact ⟨congrArg Value.bool (decide_eq_decide.2 hn1), hX⟩

theorem indexFuncChange_calls (w : World) {p : Option Addr} {c G : Nat} {l : List ChgD} (h : Sl w p l.length 3 (l.flatMap ChgD.cells)) (hl : l.length < 1000000000) (Q : ChgD → Prop) [DecidablePred Q]
    (hcf : ∀ args w, (callFunc G args).run Tryz.prog w = .ok (.enter G args) w) (hQ : ∀ w (r : ChgD), r.cells.length = 3 → CallsV Tryz.prog G [.agg r.cells.toArray] w fun v w' => v = .bool (decide (Q r)) ∧ Ext No w w') :
    CallsV Tryz.prog 146 [.slice p l.length c, .func (.func G) #[] #[]] w fun v w' => ∃ n : Int, v = .int .i64 n ∧ (0 ≤ n ↔ ∃ r ∈ l, Q r) ∧ Ext No w w' := by
  refine calls_enter Tryz.func146 rfl rfl rfl rfl ?_
  have hX := Ext.refl No w
  refine c_seq (c_region (wl_p I_ok rfl (wl_nil (f_then (c_seq (c_seq (c_region (wl_p I_ok rfl (wl_nil (f_then (c_block ?_)))))))))))
  refine c_loopK (α := Nat) [0, 1, 7] rfl (fun z => [(8, .int .i64 (z : Int))]) (fun z u => (z ≤ l.length ∧ ∀ k (hk : k < l.length), k < z → ¬ Q l[k]) ∧ Ext No w u) (fun z u => l.length - z) (0) rfl ⟨⟨Nat.zero_le _, fun k _ h => absurd h (Nat.not_lt_zero _)⟩, hX⟩ ?_
  rintro i w1 ⟨⟨hi, hno⟩, hX⟩
  refine c_seq (c_region (wl_p I_ok rfl (wl_nil (f_then (c_seq (c_if rfl (fun hc => ?_) (fun hc => ?_)))))))
  · have hi : i < l.length := by omega
    obtain ⟨b, off, rfl, hseg⟩ := (h.extNo hX).rowAt (fun r _ => r.len) hi
    refine c_skip (f_then (c_seq (c_block (c_seq (c_region (wl_p I_ok rfl (wl_nil (f_then (c_seq (c_region (wl_p I_ok rfl (wl (st_ix I_ok rfl 3 rfl i rfl (by omega) (off + i * 3) rfl (wl (st_ldN I_ok rfl hseg rfl ?_)))))))))))))))
    refine wl (st_call hcf rfl rfl rfl rfl rfl rfl (hQ w1 l[i] rfl) fun v2 w2 hr2 => ?_)
    obtain ⟨rfl, hE2⟩ := hr2
    have hX := hX.thenNo hE2
    refine wl_nil (f_then (c_if rfl (fun hc => ?_) (fun hc => ?_)))
    · refine c_seq ?_
      refine c_region (wl_p I_ok rfl (wl_nil (f_then (c_ret (f_blockR (f_thenR (f_thenR (f_blockR (f_thenR (f_ret1 rfl rfl ?_))))))))))
      exact ⟨_, rfl, ⟨fun _ => ⟨_, List.getElem_mem hi, hc⟩, fun _ => Int.natCast_nonneg _⟩, hX⟩
    · refine c_skip ?_
      refine f_blockN (f_then (c_region (wl_p I_ok rfl ?_)))
      rw [IntWalk.i64_in _ (by omega)]
      refine wl_nil ?_
      exact f_round (i + 1) rfl ⟨⟨by omega, allStep (p := fun x => ¬ Q x) hno hi hc⟩, hX⟩ (by first | omega | (dsimp only; omega))
  · have hall : ¬ ∃ r ∈ l, Q r := fun ⟨r, hr, hq⟩ => by
      obtain ⟨k, hk, rfl⟩ := List.mem_iff_getElem.1 hr
      exact hno k hk (by omega) hq
    refine c_exit (f_thenE (f_thenE (f_blockE (f_then (c_seq (c_region (wl_p I_ok rfl (wl_nil (f_then (c_ret (f_ret1 rfl rfl ?_)))))))))))
    exact ⟨_, rfl, ⟨fun h => absurd h (by decide), fun h => absurd h hall⟩, hX⟩

theorem containsFuncChange_calls (w : World) {p : Option Addr} {c G : Nat} {l : List ChgD} (h : Sl w p l.length 3 (l.flatMap ChgD.cells)) (hl : l.length < 1000000000) (Q : ChgD → Prop) [DecidablePred Q]
    (hcf : ∀ args w, (callFunc G args).run Tryz.prog w = .ok (.enter G args) w) (hQ : ∀ w (r : ChgD), r.cells.length = 3 → CallsV Tryz.prog G [.agg r.cells.toArray] w fun v w' => v = .bool (decide (Q r)) ∧ Ext No w w') :
    CallsV Tryz.prog 130 [.slice p l.length c, .func (.func G) #[] #[]] w fun v w' => v = .bool (decide (∃ r ∈ l, Q r)) ∧ Ext No w w' := by
  refine calls_enter Tryz.func130 rfl rfl rfl rfl ?_
  have hX := Ext.refl No w
  refine c_seq (c_region (wl_p I_ok rfl (wl_nil (f_then (c_seq (c_region (wl_p I_ok rfl (wl (st_call Tryz.call146 rfl rfl rfl rfl rfl rfl (indexFuncChange_calls w (h.extNo hX) hl Q hcf hQ) fun v1 w1 hr1 => ?_)))))))))
  obtain ⟨n, rfl, hn1, hE1⟩ := hr1
  have hX := hX.thenNo hE1
  refine wl_p I_ok rfl (wl_nil (f_then (c_ret (f_ret1 rfl rfl ?_))))
  exact ⟨congrArg Value.bool (decide_eq_decide.2 hn1), hX⟩

theorem indexFuncLeaf_calls (w : World) {p : Option Addr} {c G : Nat} {l : List LeafD} (hn : ∀ x ∈ l, (LeafD.cells x).length = 33) (h : Sl w p l.length 33 (l.flatMap LeafD.cells)) (hl : l.length < 1000000000) (Q : LeafD → Prop) [DecidablePred Q]
    (hcf : ∀ args w, (callFunc G args).run Tryz.prog w = .ok (.enter G args) w) (hQ : ∀ w (r : LeafD), r.cells.length = 33 → CallsV Tryz.prog G [.agg r.cells.toArray] w fun v w' => v = .bool (decide (Q r)) ∧ Ext No w w') :
    CallsV Tryz.prog 145 [.slice p l.length c, .func (.func G) #[] #[]] w fun v w' => ∃ n : Int, v = .int .i64 n ∧ (0 ≤ n ↔ ∃ r ∈ l, Q r) ∧ Ext No w w' := by
  refine calls_enter Tryz.func145 rfl rfl rfl rfl ?_
  have hX := Ext.refl No w
  refine c_seq (c_region (wl_p I_ok rfl (wl_nil (f_then (c_seq (c_seq (c_region (wl_p I_ok rfl (wl_nil (f_then (c_block ?_)))))))))))
  refine c_loopK (α := Nat) [0, 1, 7] rfl (fun z => [(8, .int .i64 (z : Int))]) (fun z u => (z ≤ l.length ∧ ∀ k (hk : k < l.length), k < z → ¬ Q l[k]) ∧ Ext No w u) (fun z u => l.length - z) (0) rfl ⟨⟨Nat.zero_le _, fun k _ h => absurd h (Nat.not_lt_zero _)⟩, hX⟩ ?_
  rintro i w1 ⟨⟨hi, hno⟩, hX⟩
  refine c_seq (c_region (wl_p I_ok rfl (wl_nil (f_then (c_seq (c_if rfl (fun hc => ?_) (fun hc => ?_)))))))
  · have hi : i < l.length := by omega
    obtain ⟨b, off, rfl, hseg⟩ := (h.extNo hX).rowAt (hn) hi
    refine c_skip (f_then (c_seq (c_block (c_seq (c_region (wl_p I_ok rfl (wl_nil (f_then (c_seq (c_region (wl_p I_ok rfl (wl (st_ix I_ok rfl 33 rfl i rfl (by omega) (off + i * 33) rfl ?_)))))))))))))
    refine wl (st_ldN I_ok rfl hseg (hn _ (List.getElem_mem hi)) (wl (st_call hcf rfl rfl rfl rfl rfl rfl (hQ w1 l[i] (hn _ (List.getElem_mem hi))) fun v2 w2 hr2 => ?_)))
    obtain ⟨rfl, hE2⟩ := hr2
    have hX := hX.thenNo hE2
    refine wl_nil (f_then (c_if rfl (fun hc => ?_) (fun hc => ?_)))
    · refine c_seq ?_
      refine c_region (wl_p I_ok rfl (wl_nil (f_then (c_ret (f_blockR (f_thenR (f_thenR (f_blockR (f_thenR (f_ret1 rfl rfl ?_))))))))))
      exact ⟨_, rfl, ⟨fun _ => ⟨_, List.getElem_mem hi, hc⟩, fun _ => Int.natCast_nonneg _⟩, hX⟩
    · refine c_skip ?_
      refine f_blockN (f_then (c_region (wl_p I_ok rfl ?_)))
      rw [IntWalk.i64_in _ (by omega)]
      refine wl_nil ?_
      exact f_round (i + 1) rfl ⟨⟨by omega, allStep (p := fun x => ¬ Q x) hno hi hc⟩, hX⟩ (by first | omega | (dsimp only; omega))
  · have hall : ¬ ∃ r ∈ l, Q r := fun ⟨r, hr, hq⟩ => by
      obtain ⟨k, hk, rfl⟩ := List.mem_iff_getElem.1 hr
      exact hno k hk (by omega) hq
    refine c_exit (f_thenE (f_thenE (f_blockE (f_then (c_seq (c_region (wl_p I_ok rfl (wl_nil (f_then (c_ret (f_ret1 rfl rfl ?_)))))))))))
    exact ⟨_, rfl, ⟨fun h => absurd h (by decide), fun h => absurd h hall⟩, hX⟩

theorem containsFuncLeaf_calls (w : World) {p : Option Addr} {c G : Nat} {l : List LeafD} (hn : ∀ x ∈ l, (LeafD.cells x).length = 33) (h : Sl w p l.length 33 (l.flatMap LeafD.cells)) (hl : l.length < 1000000000) (Q : LeafD → Prop) [DecidablePred Q]
    (hcf : ∀ args w, (callFunc G args).run Tryz.prog w = .ok (.enter G args) w) (hQ : ∀ w (r : LeafD), r.cells.length = 33 → CallsV Tryz.prog G [.agg r.cells.toArray] w fun v w' => v = .bool (decide (Q r)) ∧ Ext No w w') :
    CallsV Tryz.prog 128 [.slice p l.length c, .func (.func G) #[] #[]] w fun v w' => v = .bool (decide (∃ r ∈ l, Q r)) ∧ Ext No w w' := by
  refine calls_enter Tryz.func128 rfl rfl rfl rfl ?_
  have hX := Ext.refl No w
  refine c_seq (c_region (wl_p I_ok rfl (wl_nil (f_then (c_seq (c_region (wl_p I_ok rfl (wl (st_call Tryz.call145 rfl rfl rfl rfl rfl rfl (indexFuncLeaf_calls w hn (h.extNo hX) hl Q hcf hQ) fun v1 w1 hr1 => ?_)))))))))
  obtain ⟨n, rfl, hn1, hE1⟩ := hr1
  have hX := hX.thenNo hE1
  refine wl_p I_ok rfl (wl_nil (f_then (c_ret (f_ret1 rfl rfl ?_))))
  exact ⟨congrArg Value.bool (decide_eq_decide.2 hn1), hX⟩

end Go.Proofs.YtpcdihkcenfgkaaGreat
namespace Go.Proofs.YtpcdihkcenfgkaaGreat
open Go.Vc
theorem checkEdit1_calls (w : World) (r : ChgD) :
    CallsV Tryz.prog 131 [.agg r.cells.toArray] w fun v w' => v = .bool (decide (ChgBad r)) ∧ Ext No w w' := by
  have hs : (strU r.text).size = r.text.length := rfl
  refine calls_enter Tryz.func131 rfl rfl rfl rfl ?_
  have hX := Ext.refl No w
  refine c_seq (c_region (wl (st_al I_ok rfl fun b1 w1 hn1 hb1 hE1 => ?_)))
  have hX := hX.thenNo hE1
  have hb1 : Blk w1 b1 102 (r.cells) := hb1
  refine wl_p I_ok rfl (wl_nil (f_then (c_cutK (α := Bool) [] rfl (fun z => [(2, .bool z)]) (fun z u => (z = decide (ChgBad r)) ∧ Ext No w u) ?_ ?_)))
  · refine c_region ?_
    refine wl_p I_ok rfl (wl (st_ldb I_ok hb1 rfl rfl (wl_p I_ok rfl (wl_caseD 7 rfl (fun hg => ?_) (fun hg => ?_)))))
    · refine wl_pk I_ok 10 rfl ?_
      refine wl_nil ?_
      exact f_cut (true) rfl ⟨by symm; rw [decide_eq_true_eq]; exact .inl (by omega), hX⟩
    · refine wl_pk I_ok 1 rfl ?_
      refine wl (st_ldb I_ok hb1 rfl rfl (wl_pk I_ok 2 rfl (wl_case 11 rfl (fun hg => ?_) (fun hg => ?_))))
      · refine wl_pk I_ok 1 rfl ?_
        refine wl (st_ldb I_ok hb1 rfl rfl (wl_pk I_ok 4 rfl (wl_nil ?_)))
        exact f_cut (_) rfl ⟨by
  have hi : r.is = false := by simpa using hg
  have e : (strU r.text ≠ ByteArray.mk #[]) ↔ r.text ≠ [] := by
    constructor
    · intro h1 h2; exact h1 (by rw [h2]; rfl)
    · intro h1 h2; exact h1 (strU_inj h2)
  rw [decide_eq_decide]
  refine e.trans ⟨fun h => .inr ⟨hi, h⟩, fun h => h.elim (fun h => absurd h (by omega)) fun h => h.2⟩, hX⟩
      · refine wl_pk I_ok 6 rfl ?_
        refine wl_nil ?_
        exact f_cut (false) rfl ⟨by symm; rw [decide_eq_false_iff_not]; have hi : r.is = true := (by simpa using hg); exact fun h => h.elim (fun h => absurd h (by omega)) fun h => absurd (hi.symm.trans h.1) (by decide), hX⟩
  rintro z w2 ⟨rfl, hX⟩
  refine c_ret (f_ret1 rfl rfl ?_)
  exact ⟨rfl, hX⟩

theorem risingRow_calls (w : World) {p : Option Addr} {c G : Nat} {l : List RowD} (h : Sl w p l.length 2 (l.flatMap RowD.cells)) (hl : l.length < 1000000000) (hlen : ∀ r ∈ l, r.path.length < 1000000000)
    (hcf : ∀ args w, (callFunc G args).run Tryz.prog w = .ok (.enter G args) w) (hQ : ∀ w (r : RowD), CallsV Tryz.prog G [.agg r.cells.toArray] w fun v w' => v = strV r.path ∧ Ext No w w') :
    CallsV Tryz.prog 144 [.agg #[.slice p l.length c, .func (.func G) #[] #[]]] w fun v w' => v = .bool (decide (Rises (l.map RowD.path))) ∧ Ext No w w' := by
  refine calls_enter Tryz.func144 rfl rfl rfl rfl ?_
  have hX := Ext.refl No w
  refine c_seq (c_region (wl (st_al I_ok rfl fun b1 w1 hn1 hb1 hE1 => ?_)))
  have hX := hX.thenNo hE1
  have hb1 : Blk w1 b1 202 ([.slice p l.length c, .func (.func G) #[] #[]]) := hb1
  refine wl_p I_ok rfl (wl_nil (f_then (c_seq (c_seq (c_region (wl_p I_ok rfl (wl (st_ldb I_ok hb1 rfl rfl (wl_p I_ok rfl (wl_nil (f_then (c_if rfl (fun hc => ?_) (fun hc => ?_)))))))))))))
  · refine c_seq ?_
    refine c_region (wl_p I_ok rfl (wl_nil (f_then (c_ret (f_thenR (f_ret1 rfl rfl ?_))))))
    exact ⟨congrArg Value.bool (by symm; rw [decide_eq_false_iff_not]; intro h; have := h.1; rw [List.length_map] at this; omega), hX⟩
  · have h32 : l.length ≤ 32 := by omega
    refine c_skip (f_then (c_seq (c_seq (c_region (wl_p I_ok rfl (wl (st_ldb I_ok hb1 rfl rfl (wl_p I_ok rfl (wl_nil (f_then (c_block ?_)))))))))))
    refine c_loopK (α := Nat) [1, 10, 11] rfl (fun z => [(12, .int .i64 (z : Int))]) (fun z u => (z ≤ l.length ∧ ∀ k (hk : k < l.length), k < z → PathOk l[k].path ∧ (0 < k → SLt (strU l[k - 1].path) (strU l[k].path))) ∧ Blk u b1 202 ([.slice p l.length c, .func (.func G) #[] #[]]) ∧ Ext No w u) (fun z u => l.length - z) (0) rfl ⟨⟨Nat.zero_le _, fun k _ h => absurd h (Nat.not_lt_zero _)⟩, hb1, hX⟩ ?_
    rintro i w2 ⟨⟨hi, hok⟩, hb1, hX⟩
    refine c_seq (c_region (wl_p I_ok rfl (wl_nil (f_then (c_seq (c_if rfl (fun hc => ?_) (fun hc => ?_)))))))
    · have hi : i < l.length := by omega
      obtain ⟨b, off, rfl, hseg0⟩ := h.rowAll (fun r _ => r.len) (by omega)
      refine c_skip (f_then (c_seq (c_block (c_seq (c_region (wl_p I_ok rfl (wl (st_ix I_ok rfl 2 rfl i rfl (by omega) (off + i * 2) rfl (wl (st_ldN I_ok rfl ((hseg0 i hi).extNo hX) rfl (wl (st_al I_ok rfl fun b4 w3 hn4 hb4 hE3 => ?_))))))))))))
      have ne1_4 : b1 ≠ b4 := Nat.ne_of_lt (Nat.lt_of_lt_of_le hb1.lt hn4)
      have fr4 := Nat.le_trans hX.size hn4
      have hb1 := hb1.extNo hE3
      have hX := hX.thenNo hE3
      refine wl_p I_ok rfl (wl (st_stW (l' := (l[i]).cells) I_ok hb4 rfl rfl rfl rfl OneC.h fun w4 hb4 hE4 hs4 => ?_))
      have hb1 := hb1.ext1 hE4 ne1_4
      have hX := hX.thenNew hE4 fr4
      refine wl_nil (f_then ?_)
      refine c_cutK (α := Bool) [1, 10, 11, 12] rfl (fun z => [(42, .bool z)]) (fun z u => (z = decide (¬ (PathOk l[i].path ∧ (0 < i → SLt (strU l[i - 1].path) (strU l[i].path))))) ∧ Blk u b1 202 ([.slice (some ⟨b, off, none⟩) l.length c, .func (.func G) #[] #[]]) ∧ Ext No w u) ?_ ?_
      · refine c_draw rfl 26 [(0, true), (1, true), (2, true), (3, false), (4, false), (5, true), (6, true), (7, true), (8, true), (9, true), (10, true), (11, true), (12, true), (13, true), (14, true), (15, true), (16, true), (17, true), (19, true), (20, true), (21, true), (18, false), (22, false), (23, true), (24, true), (25, true)] [] (No) (by kernel_rfl) fun w5 hE5 hs5 => ?_
        have hd1 := hb1
        have hd4 := hb4
        have hXd := hX
        have hb1 := hb1.extNo hE5
        have hX := hX.thenNo hE5
        have hC : Ext (No) _ w5 := hE5.no
        refine wd_k I_ok 1 rfl (wd_ld I_ok rfl rfl (fun w' hw' => (hd1.extNo hw').cell rfl) ?_)
        refine wd_ldN I_ok rfl rfl (fun w' hw' => (hd4.extNo hw').seg) rfl ?_
        refine wd_l rfl (st_call hcf rfl rfl rfl rfl rfl rfl (hQ w5 l[i]) fun v6 w6 hr6 => ⟨(by obtain ⟨rfl, hE6⟩ := hr6; exact hC.thenNo hE6), ?_⟩)
        obtain ⟨rfl, hE6⟩ := hr6
        have hb1 := hb1.extNo hE6
        have hX := hX.thenNo hE6
        have hC := hC.thenNo hE6
        refine wd_l rfl (st_call Tryz.call147 rfl rfl rfl rfl rfl rfl (path_calls w6 l[i].path (hlen _ (List.getElem_mem hi))) fun v7 w7 hr7 => ⟨(by obtain ⟨rfl, rfl⟩ := hr7; exact hC), ?_⟩)
        obtain ⟨rfl, rfl⟩ := hr7
        have hC := hC
        refine wd_k I_ok 2 rfl (wd_case 23 rfl (fun hg => ?_) (fun hg => ?_))
        · have hnp : ¬ PathOk l[i].path := by simpa using hg
          refine wd_k I_ok 19 rfl (wd_sw (wb_nil ?_))
          exact f_cut (true) rfl ⟨by symm; rw [decide_eq_true_eq]; exact fun h => hnp h.1, hb1, hX⟩
        · have hip : PathOk l[i].path := by simpa using hg
          refine wd_k I_ok 3 rfl (wd_caseD 26 rfl (fun hg => ?_) (fun hg => ?_))
          · refine wd_k I_ok 1 rfl ?_
            refine wd_ld I_ok rfl rfl (fun w' hw' => (hd1.extNo hw').cell rfl) ?_
            refine wd_k I_ok 1 rfl (wd_ld I_ok rfl rfl (fun w' hw' => (hd1.extNo hw').cell rfl) ?_)
            refine wd_k I_ok 2 rfl ?_
            rw [IntWalk.i64_in _ (by omega)]
            refine wd_ix I_ok rfl rfl 2 rfl (i - 1) (by omega) (by omega) (off + (i - 1) * 2) rfl (wd_ldN I_ok rfl rfl (fun w' hw' => ((hseg0 (i - 1) (by omega)).extNo (hXd.thenNo hw'))) rfl ?_)
            refine wd_k I_ok 1 rfl (wd_ld I_ok rfl rfl (fun w' hw' => (hd1.extNo hw').cell rfl) ?_)
            refine wd_ldN I_ok rfl rfl (fun w' hw' => (hd4.extNo hw').seg) rfl ?_
            refine wd_l rfl (st_call hcf rfl rfl rfl rfl rfl rfl (hQ w7 _) fun v8 w8 hr8 => ⟨(by obtain ⟨rfl, hE8⟩ := hr8; exact hC.thenNo hE8), ?_⟩)
            obtain ⟨rfl, hE8⟩ := hr8
            have hb1 := hb1.extNo hE8
            have hX := hX.thenNo hE8
            have hC := hC.thenNo hE8
            refine wd_l rfl (st_call hcf rfl rfl rfl rfl rfl rfl (hQ w8 _) fun v9 w9 hr9 => ⟨(by obtain ⟨rfl, hE9⟩ := hr9; exact hC.thenNo hE9), ?_⟩)
            obtain ⟨rfl, hE9⟩ := hr9
            have hb1 := hb1.extNo hE9
            have hX := hX.thenNo hE9
            refine wd_k I_ok 3 rfl (wd_sw (wb_nil ?_))
            exact f_cut (_) rfl ⟨by rw [decide_eq_decide]; exact ⟨fun h1 h2 => h1 (h2.2 (by omega)), fun h1 h2 => h1 ⟨hip, fun _ => h2⟩⟩, hb1, hX⟩
          · refine wd_k I_ok 16 rfl ?_
            refine wd_sw (wb_nil ?_)
            exact f_cut (false) rfl ⟨by symm; rw [decide_eq_false_iff_not]; exact fun h => h ⟨hip, fun h0 => absurd h0 (by omega)⟩, hb1, hX⟩
      rintro z w10 ⟨rfl, hb1, hX⟩
      refine c_if rfl (fun hc => ?_) (fun hc => ?_)
      · refine c_seq ?_
        refine c_region (wl_p I_ok rfl (wl_nil (f_then (c_ret (f_blockR (f_thenR (f_thenR (f_blockR (f_thenR (f_ret1 rfl rfl ?_))))))))))
        exact ⟨congrArg Value.bool (by symm; rw [decide_eq_false_iff_not]; intro h; have := h.2 i (by rw [List.length_map]; exact hi); exact hc (by simpa using this)), hX⟩
      · have hki := Decidable.not_not.1 hc
        have hok2 : ∀ k (hk : k < l.length), k < i + 1 → PathOk l[k].path ∧ (0 < k → SLt (strU l[k - 1].path) (strU l[k].path)) := fun k hk hlt => by
          rcases Nat.lt_or_ge k i with h' | h'
          · exact hok k hk h'
          · obtain rfl : k = i := by omega
            exact hki
        refine c_skip (f_blockN (f_then (c_region (wl_p I_ok rfl ?_))))
        rw [IntWalk.i64_in _ (by omega)]
        refine wl_nil ?_
        exact f_round (i + 1) rfl ⟨⟨by omega, hok2⟩, hb1, hX⟩ (by first | omega | (dsimp only; omega))
    · have hall : Rises (l.map RowD.path) := ⟨by rw [List.length_map]; exact h32, fun k hk => by rw [List.length_map] at hk; simpa using hok k hk (by omega)⟩
      refine c_exit (f_thenE (f_thenE (f_blockE (f_then (c_seq (c_region (wl_p I_ok rfl (wl_nil (f_then (c_ret (f_ret1 rfl rfl ?_)))))))))))
      exact ⟨congrArg Value.bool (decide_eq_true hall).symm, hX⟩

theorem risingChange_calls (w : World) {p : Option Addr} {c G : Nat} {l : List ChgD} (h : Sl w p l.length 3 (l.flatMap ChgD.cells)) (hl : l.length < 1000000000) (hlen : ∀ r ∈ l, r.path.length < 1000000000)
    (hcf : ∀ args w, (callFunc G args).run Tryz.prog w = .ok (.enter G args) w) (hQ : ∀ w (r : ChgD), CallsV Tryz.prog G [.agg r.cells.toArray] w fun v w' => v = strV r.path ∧ Ext No w w') :
    CallsV Tryz.prog 133 [.agg #[.slice p l.length c, .func (.func G) #[] #[]]] w fun v w' => v = .bool (decide (Rises (l.map ChgD.path))) ∧ Ext No w w' := by
  refine calls_enter Tryz.func133 rfl rfl rfl rfl ?_
  have hX := Ext.refl No w
  refine c_seq (c_region (wl (st_al I_ok rfl fun b1 w1 hn1 hb1 hE1 => ?_)))
  have hX := hX.thenNo hE1
  have hb1 : Blk w1 b1 188 ([.slice p l.length c, .func (.func G) #[] #[]]) := hb1
  refine wl_p I_ok rfl (wl_nil (f_then (c_seq (c_seq (c_region (wl_p I_ok rfl (wl (st_ldb I_ok hb1 rfl rfl (wl_p I_ok rfl (wl_nil (f_then (c_if rfl (fun hc => ?_) (fun hc => ?_)))))))))))))
  · refine c_seq ?_
    refine c_region (wl_p I_ok rfl (wl_nil (f_then (c_ret (f_thenR (f_ret1 rfl rfl ?_))))))
    exact ⟨congrArg Value.bool (by symm; rw [decide_eq_false_iff_not]; intro h; have := h.1; rw [List.length_map] at this; omega), hX⟩
  · have h32 : l.length ≤ 32 := by omega
    refine c_skip (f_then (c_seq (c_seq (c_region (wl_p I_ok rfl (wl (st_ldb I_ok hb1 rfl rfl (wl_p I_ok rfl (wl_nil (f_then (c_block ?_)))))))))))
    refine c_loopK (α := Nat) [1, 10, 11] rfl (fun z => [(12, .int .i64 (z : Int))]) (fun z u => (z ≤ l.length ∧ ∀ k (hk : k < l.length), k < z → PathOk l[k].path ∧ (0 < k → SLt (strU l[k - 1].path) (strU l[k].path))) ∧ Blk u b1 188 ([.slice p l.length c, .func (.func G) #[] #[]]) ∧ Ext No w u) (fun z u => l.length - z) (0) rfl ⟨⟨Nat.zero_le _, fun k _ h => absurd h (Nat.not_lt_zero _)⟩, hb1, hX⟩ ?_
    rintro i w2 ⟨⟨hi, hok⟩, hb1, hX⟩
    refine c_seq (c_region (wl_p I_ok rfl (wl_nil (f_then (c_seq (c_if rfl (fun hc => ?_) (fun hc => ?_)))))))
    · have hi : i < l.length := by omega
      obtain ⟨b, off, rfl, hseg0⟩ := h.rowAll (fun r _ => r.len) (by omega)
      refine c_skip (f_then (c_seq (c_block (c_seq (c_region (wl_p I_ok rfl (wl (st_ix I_ok rfl 3 rfl i rfl (by omega) (off + i * 3) rfl (wl (st_ldN I_ok rfl ((hseg0 i hi).extNo hX) rfl (wl (st_al I_ok rfl fun b4 w3 hn4 hb4 hE3 => ?_))))))))))))
      have ne1_4 : b1 ≠ b4 := Nat.ne_of_lt (Nat.lt_of_lt_of_le hb1.lt hn4)
      have fr4 := Nat.le_trans hX.size hn4
      have hb1 := hb1.extNo hE3
      have hX := hX.thenNo hE3
      refine wl_p I_ok rfl (wl (st_stW (l' := (l[i]).cells) I_ok hb4 rfl rfl rfl rfl OneC.h fun w4 hb4 hE4 hs4 => ?_))
      have hb1 := hb1.ext1 hE4 ne1_4
      have hX := hX.thenNew hE4 fr4
      refine wl_nil (f_then ?_)
      refine c_cutK (α := Bool) [1, 10, 11, 12] rfl (fun z => [(42, .bool z)]) (fun z u => (z = decide (¬ (PathOk l[i].path ∧ (0 < i → SLt (strU l[i - 1].path) (strU l[i].path))))) ∧ Blk u b1 188 ([.slice (some ⟨b, off, none⟩) l.length c, .func (.func G) #[] #[]]) ∧ Ext No w u) ?_ ?_
      · refine c_draw rfl 26 [(0, true), (1, true), (2, true), (3, false), (4, false), (5, true), (6, true), (7, true), (8, true), (9, true), (10, true), (11, true), (12, true), (13, true), (14, true), (15, true), (16, true), (17, true), (19, true), (20, true), (21, true), (18, false), (22, false), (23, true), (24, true), (25, true)] [] (No) (by kernel_rfl) fun w5 hE5 hs5 => ?_
        have hd1 := hb1
        have hd4 := hb4
        have hXd := hX
        have hb1 := hb1.extNo hE5
        have hX := hX.thenNo hE5
        have hC : Ext (No) _ w5 := hE5.no
        refine wd_k I_ok 1 rfl (wd_ld I_ok rfl rfl (fun w' hw' => (hd1.extNo hw').cell rfl) ?_)
        refine wd_ldN I_ok rfl rfl (fun w' hw' => (hd4.extNo hw').seg) rfl ?_
        refine wd_l rfl (st_call hcf rfl rfl rfl rfl rfl rfl (hQ w5 l[i]) fun v6 w6 hr6 => ⟨(by obtain ⟨rfl, hE6⟩ := hr6; exact hC.thenNo hE6), ?_⟩)
        obtain ⟨rfl, hE6⟩ := hr6
        have hb1 := hb1.extNo hE6
        have hX := hX.thenNo hE6
        have hC := hC.thenNo hE6
        refine wd_l rfl (st_call Tryz.call147 rfl rfl rfl rfl rfl rfl (path_calls w6 l[i].path (hlen _ (List.getElem_mem hi))) fun v7 w7 hr7 => ⟨(by obtain ⟨rfl, rfl⟩ := hr7; exact hC), ?_⟩)
        obtain ⟨rfl, rfl⟩ := hr7
        have hC := hC
        refine wd_k I_ok 2 rfl (wd_case 23 rfl (fun hg => ?_) (fun hg => ?_))
        · have hnp : ¬ PathOk l[i].path := by simpa using hg
          refine wd_k I_ok 19 rfl (wd_sw (wb_nil ?_))
          exact f_cut (true) rfl ⟨by symm; rw [decide_eq_true_eq]; exact fun h => hnp h.1, hb1, hX⟩
        · have hip : PathOk l[i].path := by simpa using hg
          refine wd_k I_ok 3 rfl (wd_caseD 26 rfl (fun hg => ?_) (fun hg => ?_))
          · refine wd_k I_ok 1 rfl ?_
            refine wd_ld I_ok rfl rfl (fun w' hw' => (hd1.extNo hw').cell rfl) ?_
            refine wd_k I_ok 1 rfl (wd_ld I_ok rfl rfl (fun w' hw' => (hd1.extNo hw').cell rfl) ?_)
            refine wd_k I_ok 2 rfl ?_
            rw [IntWalk.i64_in _ (by omega)]
            refine wd_ix I_ok rfl rfl 3 rfl (i - 1) (by omega) (by omega) (off + (i - 1) * 3) rfl (wd_ldN I_ok rfl rfl (fun w' hw' => ((hseg0 (i - 1) (by omega)).extNo (hXd.thenNo hw'))) rfl ?_)
            refine wd_k I_ok 1 rfl (wd_ld I_ok rfl rfl (fun w' hw' => (hd1.extNo hw').cell rfl) ?_)
            refine wd_ldN I_ok rfl rfl (fun w' hw' => (hd4.extNo hw').seg) rfl ?_
            refine wd_l rfl (st_call hcf rfl rfl rfl rfl rfl rfl (hQ w7 _) fun v8 w8 hr8 => ⟨(by obtain ⟨rfl, hE8⟩ := hr8; exact hC.thenNo hE8), ?_⟩)
            obtain ⟨rfl, hE8⟩ := hr8
            have hb1 := hb1.extNo hE8
            have hX := hX.thenNo hE8
            have hC := hC.thenNo hE8
            refine wd_l rfl (st_call hcf rfl rfl rfl rfl rfl rfl (hQ w8 _) fun v9 w9 hr9 => ⟨(by obtain ⟨rfl, hE9⟩ := hr9; exact hC.thenNo hE9), ?_⟩)
            obtain ⟨rfl, hE9⟩ := hr9
            have hb1 := hb1.extNo hE9
            have hX := hX.thenNo hE9
            refine wd_k I_ok 3 rfl (wd_sw (wb_nil ?_))
            exact f_cut (_) rfl ⟨by rw [decide_eq_decide]; exact ⟨fun h1 h2 => h1 (h2.2 (by omega)), fun h1 h2 => h1 ⟨hip, fun _ => h2⟩⟩, hb1, hX⟩
          · refine wd_k I_ok 16 rfl ?_
            refine wd_sw (wb_nil ?_)
            exact f_cut (false) rfl ⟨by symm; rw [decide_eq_false_iff_not]; exact fun h => h ⟨hip, fun h0 => absurd h0 (by omega)⟩, hb1, hX⟩
      rintro z w10 ⟨rfl, hb1, hX⟩
      refine c_if rfl (fun hc => ?_) (fun hc => ?_)
      · refine c_seq ?_
        refine c_region (wl_p I_ok rfl (wl_nil (f_then (c_ret (f_blockR (f_thenR (f_thenR (f_blockR (f_thenR (f_ret1 rfl rfl ?_))))))))))
        exact ⟨congrArg Value.bool (by symm; rw [decide_eq_false_iff_not]; intro h; have := h.2 i (by rw [List.length_map]; exact hi); exact hc (by simpa using this)), hX⟩
      · have hki := Decidable.not_not.1 hc
        have hok2 : ∀ k (hk : k < l.length), k < i + 1 → PathOk l[k].path ∧ (0 < k → SLt (strU l[k - 1].path) (strU l[k].path)) := fun k hk hlt => by
          rcases Nat.lt_or_ge k i with h' | h'
          · exact hok k hk h'
          · obtain rfl : k = i := by omega
            exact hki
        refine c_skip (f_blockN (f_then (c_region (wl_p I_ok rfl ?_))))
        rw [IntWalk.i64_in _ (by omega)]
        refine wl_nil ?_
        exact f_round (i + 1) rfl ⟨⟨by omega, hok2⟩, hb1, hX⟩ (by first | omega | (dsimp only; omega))
    · have hall : Rises (l.map ChgD.path) := ⟨by rw [List.length_map]; exact h32, fun k hk => by rw [List.length_map] at hk; simpa using hok k hk (by omega)⟩
      refine c_exit (f_thenE (f_thenE (f_blockE (f_then (c_seq (c_region (wl_p I_ok rfl (wl_nil (f_then (c_ret (f_ret1 rfl rfl ?_)))))))))))
      exact ⟨congrArg Value.bool (decide_eq_true hall).symm, hX⟩

theorem check_calls (w : World) {p : Option Addr} {c : Nat} {l : List RowD} (h : Sl w p l.length 2 (l.flatMap RowD.cells)) (hl : l.length < 1000000000) (hlen : ∀ r ∈ l, r.path.length < 1000000000) :
    CallsV Tryz.prog 127 [.agg #[.slice p l.length c]] w fun v w' => v = .int .i64 (if RowsOk l then 0 else 150) ∧ Ext No w w' := by
  refine calls_enter Tryz.func127 rfl rfl rfl rfl ?_
  have hX := Ext.refl No w
  refine c_seq (c_region (wl (st_al I_ok rfl fun b1 w1 hn1 hb1 hE1 => ?_)))
  have hX := hX.thenNo hE1
  have hb1 : Blk w1 b1 76 ([.slice p l.length c]) := hb1
  refine wl_p I_ok rfl (wl_nil (f_then (c_seq (c_region (wl_p I_ok rfl (wl (st_ldb I_ok hb1 rfl rfl ?_)))))))
  refine wl (st_call Tryz.call141 rfl rfl rfl rfl rfl rfl (containsFuncRow_calls w1 (h.extNo hX) hl (fun r => 256 < r.text.length) Tryz.call142 fun w r _ => check1_calls w r) fun v2 w2 hr2 => ?_)
  obtain ⟨rfl, hE2⟩ := hr2
  have hb1 := hb1.extNo hE2
  have hX := hX.thenNo hE2
  refine wl_p I_ok rfl (wl_nil (f_then (c_seq (c_cutK (α := Bool) [] rfl (fun z => [(14, .bool z)]) (fun z u => (z = decide (¬ RowsOk l)) ∧ Ext No w u) ?_ ?_))))
  · refine c_region ?_
    refine wl_p I_ok rfl (wl_caseD 8 rfl (fun hg => ?_) (fun hg => ?_))
    · refine wl_pk I_ok 6 rfl ?_
      refine wl_nil ?_
      exact f_cut (true) rfl ⟨by symm; rw [decide_eq_true_eq]; exact fun h => h.1 hg, hX⟩
    · refine wl_pk I_ok 1 rfl ?_
      refine wl (st_ldb I_ok hb1 rfl rfl (wl (st_bd I_ok rfl (by simp [partsOk]; decide) (l' := [.slice p l.length c, .func (.func 143) #[] #[]]) rfl ?_)))
      refine wl (st_call Tryz.call144 rfl rfl rfl rfl rfl rfl (risingRow_calls w2 (h.extNo hX) hl hlen Tryz.call143 rowPath_calls) fun v3 w3 hr3 => ?_)
      obtain ⟨rfl, hE3⟩ := hr3
      have hX := hX.thenNo hE3
      refine wl_pk I_ok 2 rfl (wl_nil ?_)
      exact f_cut (_) rfl ⟨by rw [← decide_not, decide_eq_decide]; exact ⟨fun h1 h2 => h1 h2.2, fun h1 h2 => h1 ⟨hg, h2⟩⟩, hX⟩
  rintro z w4 ⟨rfl, hX⟩
  refine c_if rfl (fun hc => ?_) (fun hc => ?_)
  · refine c_seq ?_
    refine c_region (wl_p I_ok rfl (wl_nil (f_then (c_ret (f_thenR (f_ret1 rfl rfl ?_))))))
    exact ⟨by rw [if_neg hc], hX⟩
  · refine c_skip ?_
    refine f_then (c_seq (c_region (wl_p I_ok rfl (wl_nil (f_then (c_ret (f_ret1 rfl rfl ?_)))))))
    exact ⟨by rw [if_pos (Decidable.not_not.1 hc)], hX⟩

theorem checkEdit_calls (w : World) {p : Option Addr} {c : Nat} {l : List ChgD} (h : Sl w p l.length 3 (l.flatMap ChgD.cells)) (hl : l.length < 1000000000) (hlen : ∀ r ∈ l, r.path.length < 1000000000) :
    CallsV Tryz.prog 108 [.agg #[.slice p l.length c]] w fun v w' => v = .int .i64 (if EditOk l then 0 else 151) ∧ Ext No w w' := by
  refine calls_enter Tryz.func108 rfl rfl rfl rfl ?_
  have hX := Ext.refl No w
  refine c_seq (c_region (wl (st_al I_ok rfl fun b1 w1 hn1 hb1 hE1 => ?_)))
  have hX := hX.thenNo hE1
  have hb1 : Blk w1 b1 45 ([.slice p l.length c]) := hb1
  refine wl_p I_ok rfl (wl_nil (f_then (c_seq (c_region (wl_p I_ok rfl (wl (st_ldb I_ok hb1 rfl rfl ?_)))))))
  refine wl (st_call Tryz.call130 rfl rfl rfl rfl rfl rfl (containsFuncChange_calls w1 (h.extNo hX) hl ChgBad Tryz.call131 fun w r _ => checkEdit1_calls w r) fun v2 w2 hr2 => ?_)
  obtain ⟨rfl, hE2⟩ := hr2
  have hb1 := hb1.extNo hE2
  have hX := hX.thenNo hE2
  refine wl_p I_ok rfl (wl_nil (f_then (c_seq (c_cutK (α := Bool) [] rfl (fun z => [(14, .bool z)]) (fun z u => (z = decide (¬ EditOk l)) ∧ Ext No w u) ?_ ?_))))
  · refine c_region ?_
    refine wl_p I_ok rfl (wl_caseD 8 rfl (fun hg => ?_) (fun hg => ?_))
    · refine wl_pk I_ok 6 rfl ?_
      refine wl_nil ?_
      exact f_cut (true) rfl ⟨by symm; rw [decide_eq_true_eq]; exact fun h => h.1 hg, hX⟩
    · refine wl_pk I_ok 1 rfl ?_
      refine wl (st_ldb I_ok hb1 rfl rfl (wl (st_bd I_ok rfl (by simp [partsOk]; decide) (l' := [.slice p l.length c, .func (.func 132) #[] #[]]) rfl ?_)))
      refine wl (st_call Tryz.call133 rfl rfl rfl rfl rfl rfl (risingChange_calls w2 (h.extNo hX) hl hlen Tryz.call132 changePath_calls) fun v3 w3 hr3 => ?_)
      obtain ⟨rfl, hE3⟩ := hr3
      have hX := hX.thenNo hE3
      refine wl_pk I_ok 2 rfl (wl_nil ?_)
      exact f_cut (_) rfl ⟨by rw [← decide_not, decide_eq_decide]; exact ⟨fun h1 h2 => h1 h2.2, fun h1 h2 => h1 ⟨hg, h2⟩⟩, hX⟩
  rintro z w4 ⟨rfl, hX⟩
  refine c_if rfl (fun hc => ?_) (fun hc => ?_)
  · refine c_seq ?_
    refine c_region (wl_p I_ok rfl (wl_nil (f_then (c_ret (f_thenR (f_ret1 rfl rfl ?_))))))
    exact ⟨by rw [if_neg hc], hX⟩
  · refine c_skip ?_
    refine f_then (c_seq (c_region (wl_p I_ok rfl (wl_nil (f_then (c_ret (f_ret1 rfl rfl ?_)))))))
    exact ⟨by rw [if_pos (Decidable.not_not.1 hc)], hX⟩
end Go.Proofs.YtpcdihkcenfgkaaGreat
namespace Go.Proofs.YtpcdihkcenfgkaaGreat
open Go.Vc
theorem right5_calls (w : World) {p : Option Addr} {c : Nat} {l : List RowD} (h : Sl w p l.length 2 (l.flatMap RowD.cells)) (hl : l.length < 1000000000) (hlen : ∀ r ∈ l, r.path.length < 1000000000) :
    CallsV Tryz.prog 29 [.agg #[.slice p l.length c]] w fun v w' => v = .bool (decide (RowsOk l)) ∧ Ext No w w' := by
  refine calls_enter Tryz.func29 rfl rfl rfl rfl ?_
  have hX := Ext.refl No w
  refine c_seq (c_region (wl (st_al I_ok rfl fun b1 w1 hn1 hb1 hE1 => ?_)))
  have hX := hX.thenNo hE1
  have hb1 : Blk w1 b1 76 ([.slice p l.length c]) := hb1
  refine wl_p I_ok rfl (wl_nil (f_then (c_seq (c_seq (c_region (wl_p I_ok rfl (wl_nil (f_then (c_block ?_)))))))))
  refine c_loopK (α := Nat) [1] rfl (fun z => [(3, .int .i64 (z : Int))]) (fun z u => (z ≤ l.length ∧ ∀ k (hk : k < l.length), k < z → RowGood l k hk) ∧ Blk u b1 76 ([.slice p l.length c]) ∧ Ext No w u) (fun z u => l.length - z) (0) rfl ⟨⟨Nat.zero_le _, fun k _ h => absurd h (Nat.not_lt_zero _)⟩, hb1, hX⟩ ?_
  rintro i w2 ⟨⟨hi, hok⟩, hb1, hX⟩
  refine c_seq (c_seq (c_region (wl_p I_ok rfl (wl (st_ldb I_ok hb1 rfl rfl (wl_p I_ok rfl (wl_nil (f_then (c_if rfl (fun hc => ?_) (fun hc => ?_))))))))))
  · have hi : i < l.length := by omega
    obtain ⟨b, off, rfl, hseg0⟩ := h.rowAll (fun r _ => r.len) (by omega)
    have hst : (strU l[i].text).size = l[i].text.length := rfl
    refine c_skip (f_then (c_seq (c_block (c_cutK (α := Bool) [1, 3] rfl (fun z => [(52, .bool z)]) (fun z u => (z = decide (¬ RowGood l i hi)) ∧ Blk u b1 76 ([.slice (some ⟨b, off, none⟩) l.length c]) ∧ Ext No w u) ?_ ?_))))
    · refine c_draw rfl 42 [(0, true), (1, true), (2, true), (3, true), (4, true), (5, true), (6, true), (7, true), (8, true), (9, false), (10, true), (11, true), (12, true), (13, true), (14, true), (15, true), (16, true), (17, true), (18, true), (19, true), (20, true), (21, true), (22, true), (23, true), (24, true), (25, true), (26, true), (27, true), (28, true), (29, true), (30, true), (31, true), (32, true), (33, true), (34, true), (35, true), (36, true), (37, true), (38, true), (39, true), (40, true), (41, true)] [] (No) (by kernel_rfl) fun w3 hE3 hs3 => ?_
      have hd1 := hb1
      have hXd := hX
      have hb1 := hb1.extNo hE3
      have hX := hX.thenNo hE3
      have hC : Ext (No) _ w3 := hE3.no
      refine wd_k I_ok 3 rfl (wd_caseD 13 rfl (fun hg => ?_) (fun hg => ?_))
      · refine wd_k I_ok 39 rfl ?_
        refine wd_sw (wb_nil ?_)
        exact f_cut (true) rfl ⟨by symm; rw [decide_eq_true_eq]; exact fun h => h.1 (by omega), hb1, hX⟩
      · refine wd_k I_ok 1 rfl ?_
        refine wd_ld I_ok rfl rfl (fun w' hw' => (hd1.extNo hw').cell rfl) ?_
        refine wd_k I_ok 1 rfl (wd_ix I_ok rfl rfl 2 rfl i rfl (by omega) (off + i * 2) rfl (wd_k I_ok 1 rfl (wd_ld I_ok rfl rfl (fun w' hw' => (((hseg0 i hi).extNo (hXd.thenNo hw')) 0 _ rfl)) ?_)))
        refine wd_l rfl (st_call Tryz.call65 rfl rfl rfl rfl rfl rfl (path5_calls w3 l[i].path (hlen _ (List.getElem_mem hi))) fun v4 w4 hr4 => ⟨(by obtain ⟨rfl, rfl⟩ := hr4; exact hC), ?_⟩)
        obtain ⟨rfl, rfl⟩ := hr4
        refine wd_k I_ok 3 rfl (wd_case 23 rfl (fun hg => ?_) (fun hg => ?_))
        · have hnp : ¬ PathOk l[i].path := by simpa using hg
          refine wd_k I_ok 29 rfl (wd_sw (wb_nil ?_))
          exact f_cut (true) rfl ⟨by symm; rw [decide_eq_true_eq]; exact fun h => hnp h.2.1, hb1, hX⟩
        · have hip : PathOk l[i].path := by simpa using hg
          refine wd_k I_ok 1 rfl (wd_ld I_ok rfl rfl (fun w' hw' => (hd1.extNo hw').cell rfl) ?_)
          refine wd_k I_ok 1 rfl (wd_ix I_ok rfl rfl 2 rfl i rfl (by omega) (off + i * 2) rfl (wd_k I_ok 1 rfl (wd_ld I_ok rfl rfl (fun w' hw' => (((hseg0 i hi).extNo (hXd.thenNo hw')) 1 _ rfl)) ?_)))
          refine wd_k I_ok 4 rfl (wd_caseD 33 rfl (fun hg => ?_) (fun hg => ?_))
          · refine wd_k I_ok 19 rfl ?_
            refine wd_sw (wb_nil ?_)
            exact f_cut (true) rfl ⟨by symm; rw [decide_eq_true_eq]; exact fun h => (by have := h.2.2.1; omega), hb1, hX⟩
          · refine wd_k I_ok 3 rfl ?_
            refine wd_caseD 36 rfl (fun hg => ?_) (fun hg => ?_)
            · refine wd_k I_ok 1 rfl ?_
              refine wd_ld I_ok rfl rfl (fun w' hw' => (hd1.extNo hw').cell rfl) ?_
              refine wd_k I_ok 1 rfl (wd_ix I_ok rfl rfl 2 rfl i rfl (by omega) (off + i * 2) rfl (wd_k I_ok 1 rfl (wd_ld I_ok rfl rfl (fun w' hw' => (((hseg0 i hi).extNo (hXd.thenNo hw')) 0 _ rfl)) ?_)))
              refine wd_k I_ok 1 rfl (wd_ld I_ok rfl rfl (fun w' hw' => (hd1.extNo hw').cell rfl) ?_)
              refine wd_k I_ok 2 rfl ?_
              rw [IntWalk.i64_in _ (by omega)]
              refine wd_ix I_ok rfl rfl 2 rfl (i - 1) (by omega) (by omega) (off + (i - 1) * 2) rfl (wd_k I_ok 1 rfl (wd_ld I_ok rfl rfl (fun w' hw' => (((hseg0 (i - 1) (by omega)).extNo (hXd.thenNo hw')) 0 _ rfl)) ?_))
              refine wd_k I_ok 3 rfl (wd_sw (wb_nil ?_))
              exact f_cut (_) rfl ⟨by rw [decide_eq_decide]; exact ⟨fun h1 h2 => (slt_flip _ _).2 (h2.2.2.2 (by omega)) (h1.imp id fun e => e), fun h1 => Decidable.not_not.1 fun h2 => h1 ⟨by omega, hip, by omega, fun _ => (slt_flip _ _).1 h2⟩⟩, hb1, hX⟩
            · refine wd_k I_ok 16 rfl ?_
              refine wd_sw (wb_nil ?_)
              exact f_cut (false) rfl ⟨by symm; rw [decide_eq_false_iff_not]; exact fun h => h ⟨by omega, hip, by omega, fun h0 => absurd h0 (by omega)⟩, hb1, hX⟩
    rintro z w5 ⟨rfl, hb1, hX⟩
    refine c_if rfl (fun hc => ?_) (fun hc => ?_)
    · refine c_seq ?_
      refine c_region (wl_p I_ok rfl (wl_nil (f_then (c_ret (f_blockR (f_thenR (f_thenR (f_blockR (f_thenR (f_ret1 rfl rfl ?_))))))))))
      exact ⟨congrArg Value.bool (by symm; rw [decide_eq_false_iff_not]; exact fun h => hc (rowsOk_iff.1 h i hi)), hX⟩
    · have hgi := Decidable.not_not.1 hc
      refine c_skip (f_blockN (f_then (c_region (wl_p I_ok rfl ?_))))
      rw [IntWalk.i64_in _ (by omega)]
      refine wl_nil ?_
      exact f_round (i + 1) rfl ⟨⟨by omega, fun k hk hlt => (by rcases Nat.lt_or_ge k i with h0 | h0; exact hok k hk h0; (have e : k = i := (by omega)); subst e; exact hgi)⟩, hb1, hX⟩ (by first | omega | (dsimp only; omega))
  · have hall : RowsOk l := rowsOk_iff.2 fun k hk => hok k hk (by omega)
    refine c_exit (f_thenE (f_thenE (f_blockE (f_then (c_seq (c_region (wl_p I_ok rfl (wl_nil (f_then (c_ret (f_ret1 rfl rfl ?_)))))))))))
    exact ⟨congrArg Value.bool (decide_eq_true hall).symm, hX⟩

theorem rightEdit5_calls (w : World) {p : Option Addr} {c : Nat} {l : List ChgD} (h : Sl w p l.length 3 (l.flatMap ChgD.cells)) (hl : l.length < 1000000000) (hlen : ∀ r ∈ l, r.path.length < 1000000000) :
    CallsV Tryz.prog 116 [.agg #[.slice p l.length c]] w fun v w' => v = .bool (decide (EditOk l)) ∧ Ext No w w' := by
  refine calls_enter Tryz.func116 rfl rfl rfl rfl ?_
  have hX := Ext.refl No w
  refine c_seq (c_region (wl (st_al I_ok rfl fun b1 w1 hn1 hb1 hE1 => ?_)))
  have hX := hX.thenNo hE1
  have hb1 : Blk w1 b1 45 ([.slice p l.length c]) := hb1
  refine wl_p I_ok rfl (wl_nil (f_then (c_seq (c_seq (c_region (wl_p I_ok rfl (wl_nil (f_then (c_block ?_)))))))))
  refine c_loopK (α := Nat) [1] rfl (fun z => [(3, .int .i64 (z : Int))]) (fun z u => (z ≤ l.length ∧ ∀ k (hk : k < l.length), k < z → ChgGood l k hk) ∧ Blk u b1 45 ([.slice p l.length c]) ∧ Ext No w u) (fun z u => l.length - z) (0) rfl ⟨⟨Nat.zero_le _, fun k _ h => absurd h (Nat.not_lt_zero _)⟩, hb1, hX⟩ ?_
  rintro i w2 ⟨⟨hi, hok⟩, hb1, hX⟩
  refine c_seq (c_seq (c_region (wl_p I_ok rfl (wl (st_ldb I_ok hb1 rfl rfl (wl_p I_ok rfl (wl_nil (f_then (c_if rfl (fun hc => ?_) (fun hc => ?_))))))))))
  · have hi : i < l.length := by omega
    obtain ⟨b, off, rfl, hseg0⟩ := h.rowAll (fun r _ => r.len) (by omega)
    have hst : (strU l[i].text).size = l[i].text.length := rfl
    refine c_skip (f_then (c_seq (c_block (c_seq (c_region (wl_p I_ok rfl (wl (st_ldb I_ok hb1 rfl rfl (wl_p I_ok rfl (wl (st_ix I_ok rfl 3 rfl i rfl (by omega) (off + i * 3) rfl (wl (st_ldN I_ok rfl ((hseg0 i hi).extNo hX) rfl ?_)))))))))))))
    refine wl (st_al I_ok rfl fun b4 w3 hn4 hb4 hE3 => ?_)
    have ne1_4 : b1 ≠ b4 := Nat.ne_of_lt (Nat.lt_of_lt_of_le hb1.lt hn4)
    have fr4 := Nat.le_trans hX.size hn4
    have hb1 := hb1.extNo hE3
    have hX := hX.thenNo hE3
    refine wl (st_stW (l' := (l[i]).cells) I_ok hb4 rfl rfl rfl rfl OneC.h fun w4 hb4 hE4 hs4 => ?_)
    have hb1 := hb1.ext1 hE4 ne1_4
    have hX := hX.thenNew hE4 fr4
    refine wl_nil (f_then (c_cutK (α := Bool) [1, 3] rfl (fun z => [(56, .bool z)]) (fun z u => (z = decide (¬ ChgGood l i hi)) ∧ Blk u b1 45 ([.slice (some ⟨b, off, none⟩) l.length c]) ∧ Ext No w u) ?_ ?_))
    · refine c_draw rfl 40 [(0, true), (1, true), (2, true), (3, true), (4, true), (5, false), (6, true), (7, true), (8, true), (9, true), (10, true), (11, true), (12, true), (13, true), (14, true), (15, true), (16, true), (17, true), (18, true), (19, true), (20, true), (21, true), (22, true), (23, true), (24, true), (25, true), (26, true), (27, true), (28, true), (29, true), (30, true), (31, true), (32, true), (33, true), (34, true), (35, true), (36, true), (37, true), (38, true), (39, true)] [] (No) (by kernel_rfl) fun w5 hE5 hs5 => ?_
      have hd1 := hb1
      have hd4 := hb4
      have hXd := hX
      have hb1 := hb1.extNo hE5
      have hX := hX.thenNo hE5
      have hC : Ext (No) _ w5 := hE5.no
      refine wd_k I_ok 3 rfl (wd_caseD 19 rfl (fun hg => ?_) (fun hg => ?_))
      · refine wd_k I_ok 37 rfl ?_
        refine wd_sw (wb_nil ?_)
        exact f_cut (true) rfl ⟨by symm; rw [decide_eq_true_eq]; exact fun h => h.1 (by omega), hb1, hX⟩
      · refine wd_k I_ok 1 rfl ?_
        refine wd_ld I_ok rfl rfl (fun w' hw' => (hd4.extNo hw').cell rfl) ?_
        refine wd_l rfl (st_call Tryz.call65 rfl rfl rfl rfl rfl rfl (path5_calls w5 l[i].path (hlen _ (List.getElem_mem hi))) fun v6 w6 hr6 => ⟨(by obtain ⟨rfl, rfl⟩ := hr6; exact hC), ?_⟩)
        obtain ⟨rfl, rfl⟩ := hr6
        refine wd_k I_ok 3 rfl (wd_case 25 rfl (fun hg => ?_) (fun hg => ?_))
        · have hnp : ¬ PathOk l[i].path := by simpa using hg
          refine wd_k I_ok 31 rfl (wd_sw (wb_nil ?_))
          exact f_cut (true) rfl ⟨by symm; rw [decide_eq_true_eq]; exact fun h => hnp h.2.1, hb1, hX⟩
        · have hip : PathOk l[i].path := by simpa using hg
          refine wd_k I_ok 1 rfl (wd_ld I_ok rfl rfl (fun w' hw' => (hd4.extNo hw').cell rfl) ?_)
          refine wd_k I_ok 4 rfl (wd_caseD 31 rfl (fun hg => ?_) (fun hg => ?_))
          · refine wd_k I_ok 25 rfl ?_
            refine wd_sw (wb_nil ?_)
            exact f_cut (true) rfl ⟨by symm; rw [decide_eq_true_eq]; exact fun h => h.2.2.1 (.inl (by omega)), hb1, hX⟩
          · refine wd_k I_ok 1 rfl ?_
            refine wd_ld I_ok rfl rfl (fun w' hw' => (hd4.extNo hw').cell rfl) ?_
            refine wd_k I_ok 2 rfl (wd_case 35 rfl (fun hg => ?_) (fun hg => ?_))
            · have his : l[i].is = false := (by simpa using hg)
              refine wd_k I_ok 1 rfl (wd_ld I_ok rfl rfl (fun w' hw' => (hd4.extNo hw').cell rfl) ?_)
              refine wd_k I_ok 4 rfl (wd_caseD 41 rfl (fun hg => ?_) (fun hg => ?_))
              · have htx := (chg_nil _).1 hg
                refine wd_k I_ok 15 rfl (wd_sw (wb_nil ?_))
                exact f_cut (true) rfl ⟨by symm; rw [decide_eq_true_eq]; exact fun h => h.2.2.1 (.inr ⟨his, htx⟩), hb1, hX⟩
              · have htx : ¬ l[i].text ≠ [] := fun h => hg ((chg_nil _).2 h)
                have hnb : ¬ ChgBad l[i] := fun h => h.elim (fun h => absurd h (by omega)) fun h => htx h.2
                refine wd_k I_ok 3 rfl (wd_caseD 44 rfl (fun hg => ?_) (fun hg => ?_))
                · refine wd_k I_ok 1 rfl ?_
                  refine wd_ld I_ok rfl rfl (fun w' hw' => (hd4.extNo hw').cell rfl) ?_
                  refine wd_k I_ok 1 rfl (wd_ld I_ok rfl rfl (fun w' hw' => (hd1.extNo hw').cell rfl) ?_)
                  refine wd_k I_ok 2 rfl ?_
                  rw [IntWalk.i64_in _ (by omega)]
                  refine wd_ix I_ok rfl rfl 3 rfl (i - 1) (by omega) (by omega) (off + (i - 1) * 3) rfl (wd_k I_ok 1 rfl (wd_ld I_ok rfl rfl (fun w' hw' => (((hseg0 (i - 1) (by omega)).extNo (hXd.thenNo hw')) 0 _ rfl)) ?_))
                  refine wd_k I_ok 3 rfl (wd_sw (wb_nil ?_))
                  exact f_cut (_) rfl ⟨by rw [decide_eq_decide]; exact ⟨fun h1 h2 => (slt_flip _ _).2 (h2.2.2.2 (by omega)) (h1.imp id fun e => e), fun h1 => Decidable.not_not.1 fun h2 => h1 ⟨by omega, hip, hnb, fun _ => (slt_flip _ _).1 h2⟩⟩, hb1, hX⟩
                · refine wd_k I_ok 12 rfl ?_
                  refine wd_sw (wb_nil ?_)
                  exact f_cut (false) rfl ⟨by symm; rw [decide_eq_false_iff_not]; exact fun h => h ⟨by omega, hip, hnb, fun h0 => absurd h0 (by omega)⟩, hb1, hX⟩
            · have his : l[i].is = true := (by simpa using hg)
              have hnb : ¬ ChgBad l[i] := fun h => h.elim (fun h => absurd h (by omega)) fun h => absurd (his.symm.trans h.1) (by decide)
              refine wd_k I_ok 9 rfl (wd_caseD 44 rfl (fun hg => ?_) (fun hg => ?_))
              · refine wd_k I_ok 1 rfl ?_
                refine wd_ld I_ok rfl rfl (fun w' hw' => (hd4.extNo hw').cell rfl) ?_
                refine wd_k I_ok 1 rfl (wd_ld I_ok rfl rfl (fun w' hw' => (hd1.extNo hw').cell rfl) ?_)
                refine wd_k I_ok 2 rfl ?_
                rw [IntWalk.i64_in _ (by omega)]
                refine wd_ix I_ok rfl rfl 3 rfl (i - 1) (by omega) (by omega) (off + (i - 1) * 3) rfl (wd_k I_ok 1 rfl (wd_ld I_ok rfl rfl (fun w' hw' => (((hseg0 (i - 1) (by omega)).extNo (hXd.thenNo hw')) 0 _ rfl)) ?_))
                refine wd_k I_ok 3 rfl (wd_sw (wb_nil ?_))
                exact f_cut (_) rfl ⟨by rw [decide_eq_decide]; exact ⟨fun h1 h2 => (slt_flip _ _).2 (h2.2.2.2 (by omega)) (h1.imp id fun e => e), fun h1 => Decidable.not_not.1 fun h2 => h1 ⟨by omega, hip, hnb, fun _ => (slt_flip _ _).1 h2⟩⟩, hb1, hX⟩
              · refine wd_k I_ok 12 rfl ?_
                refine wd_sw (wb_nil ?_)
                exact f_cut (false) rfl ⟨by symm; rw [decide_eq_false_iff_not]; exact fun h => h ⟨by omega, hip, hnb, fun h0 => absurd h0 (by omega)⟩, hb1, hX⟩
    rintro z w7 ⟨rfl, hb1, hX⟩
    refine c_if rfl (fun hc => ?_) (fun hc => ?_)
    · refine c_seq ?_
      refine c_region (wl_p I_ok rfl (wl_nil (f_then (c_ret (f_blockR (f_thenR (f_thenR (f_blockR (f_thenR (f_ret1 rfl rfl ?_))))))))))
      exact ⟨congrArg Value.bool (by symm; rw [decide_eq_false_iff_not]; exact fun h => hc (editOk_iff.1 h i hi)), hX⟩
    · have hgi := Decidable.not_not.1 hc
      refine c_skip (f_blockN (f_then (c_region (wl_p I_ok rfl ?_))))
      rw [IntWalk.i64_in _ (by omega)]
      refine wl_nil ?_
      exact f_round (i + 1) rfl ⟨⟨by omega, fun k hk hlt => (by rcases Nat.lt_or_ge k i with h0 | h0; exact hok k hk h0; (have e : k = i := (by omega)); subst e; exact hgi)⟩, hb1, hX⟩ (by first | omega | (dsimp only; omega))
  · have hall : EditOk l := editOk_iff.2 fun k hk => hok k hk (by omega)
    refine c_exit (f_thenE (f_thenE (f_blockE (f_then (c_seq (c_region (wl_p I_ok rfl (wl_nil (f_then (c_ret (f_ret1 rfl rfl ?_)))))))))))
    exact ⟨congrArg Value.bool (decide_eq_true hall).symm, hX⟩
end Go.Proofs.YtpcdihkcenfgkaaGreat
namespace Go.Proofs.YtpcdihkcenfgkaaGreat
open Go.Vc

theorem uStr : Tryz.prog.underlying 9 = some .string := by kernel_rfl
theorem uBool : Tryz.prog.underlying 4 = some .bool := by kernel_rfl
theorem uByte : Tryz.prog.underlying 5 = some (.int .u8) := by kernel_rfl
theorem uId : Tryz.prog.underlying 31 = some (.array 32 5) := by kernel_rfl
theorem cStr : Tryz.prog.cellsOf 9 = 1 := by kernel_rfl
theorem cBool : Tryz.prog.cellsOf 4 = 1 := by kernel_rfl
theorem cByte : Tryz.prog.cellsOf 5 = 1 := by kernel_rfl
theorem cId : Tryz.prog.cellsOf 31 = 32 := by kernel_rfl
theorem kId : Tryz.prog.keyTypeAt 10 31 = true := by kernel_rfl
theorem gId : Tryz.prog.eqGuardType Tryz.prog.depth 31 = false := by kernel_rfl
theorem idKey {l : List UInt8} (hl : l.length = 32) : Tryz.prog.keyLits 2 31 (bytesU l) = some (idLits l) := lits_bytes uId cId uByte cByte hl
theorem idForm {l : List UInt8} (hl : l.length = 32) : (Value.agg (bytesU l).toArray).formed Tryz.prog 31 = true := by
  simp [Value.formed, cId, bytesU_len, hl]
theorem uChgD : Tryz.prog.underlying 102 = some (.struct (Tryz.prog.fieldsOf 102)) := by kernel_rfl
theorem cChgD : Tryz.prog.cellsOf 102 = 3 := by kernel_rfl
theorem kChgD : Tryz.prog.keyTypeAt 10 102 = true := by kernel_rfl
theorem gChgD : Tryz.prog.eqGuardType Tryz.prog.depth 102 = false := by kernel_rfl
theorem chgKey {r : ChgD} (h1 : r.path.length ≤ maxLen) (h2 : r.text.length ≤ maxLen) : Tryz.prog.keyLits 3 102 r.cells = some ([.string r.path, .bool r.is, .string r.text]) := by
  have hm : [(9, 0), (4, 1), (9, 2)].mapM (fun p : Nat × Nat => Tryz.prog.keyLits 2 p.1 ((r.cells.drop p.2).take (Tryz.prog.cellsOf p.1))) = some [[.string r.path], [.bool r.is], [.string r.text]] := by
    have a1 : ((r.cells.drop 0).take (Tryz.prog.cellsOf 9)) = [.string (strU r.path)] := by rw [cStr]; rfl
    have a2 : ((r.cells.drop 1).take (Tryz.prog.cellsOf 4)) = [.bool r.is] := by rw [cBool]; rfl
    have a3 : ((r.cells.drop 2).take (Tryz.prog.cellsOf 9)) = [.string (strU r.text)] := by rw [cStr]; rfl
    simp only [List.mapM_cons, List.mapM_nil, a1, a2, a3, lits_str (d := 1) uStr h1, lits_bool (d := 1) uBool, lits_str (d := 1) uStr h2]
    rfl
  have e := lits_struct (d := 2) (cs := r.cells) uChgD (by kernel_rfl) (by rw [cChgD]; exact rfl) (L := [(9, 0), (4, 1), (9, 2)]) (by kernel_rfl) hm
  rw [e]
  simp
theorem chgForm {r : ChgD} (h : r.cells.length = 3) : (Value.agg r.cells.toArray).formed Tryz.prog 102 = true := by
  simp [Value.formed, cChgD, h]
theorem uLeafD : Tryz.prog.underlying 50 = some (.struct (Tryz.prog.fieldsOf 50)) := by kernel_rfl
theorem cLeafD : Tryz.prog.cellsOf 50 = 33 := by kernel_rfl
theorem kLeafD : Tryz.prog.keyTypeAt 10 50 = true := by kernel_rfl
theorem gLeafD : Tryz.prog.eqGuardType Tryz.prog.depth 50 = false := by kernel_rfl
theorem leafKey {r : LeafD} (h1 : r.path.length ≤ maxLen) (h2 : r.id.length = 32) : Tryz.prog.keyLits 3 50 r.cells = some (.string r.path :: idLits r.id) := by
  have hm : [(9, 0), (31, 1)].mapM (fun p : Nat × Nat => Tryz.prog.keyLits 2 p.1 ((r.cells.drop p.2).take (Tryz.prog.cellsOf p.1))) = some [[.string r.path], idLits r.id] := by
    have a1 : ((r.cells.drop 0).take (Tryz.prog.cellsOf 9)) = [.string (strU r.path)] := by rw [cStr]; rfl
    have a2 : ((r.cells.drop 1).take (Tryz.prog.cellsOf 31)) = bytesU r.id := by rw [cId]; exact List.take_of_length_le (by rw [← h2]; exact Nat.le_of_eq (bytesU_len _))
    simp only [List.mapM_cons, List.mapM_nil, a1, a2, lits_str (d := 1) uStr h1, idKey h2]
    rfl
  have e := lits_struct (d := 2) (cs := r.cells) uLeafD (by kernel_rfl) (by rw [cLeafD]; exact LeafD.len h2) (L := [(9, 0), (31, 1)]) (by kernel_rfl) hm
  rw [e]
  simp
theorem leafForm {r : LeafD} (h : r.cells.length = 33) : (Value.agg r.cells.toArray).formed Tryz.prog 50 = true := by
  simp [Value.formed, cLeafD, h]
end Go.Proofs.YtpcdihkcenfgkaaGreat
namespace Go.Proofs.YtpcdihkcenfgkaaGreat
open Go.Vc
theorem chg_eq {r s : ChgD} : ([.string r.path, .bool r.is, .string r.text] : List Lit) = [.string s.path, .bool s.is, .string s.text] ↔ r = s := by
  obtain ⟨a, b, c⟩ := r
  obtain ⟨d, e, f⟩ := s
  simp
theorem leaf_eq {r s : LeafD} : ((.string r.path : Lit) :: idLits r.id) = .string s.path :: idLits s.id ↔ r = s := by
  obtain ⟨a, b⟩ := r
  obtain ⟨c, d⟩ := s
  simp [idLits_inj]
theorem list_ext {α : Type} {l m : List α} (hl : l.length = m.length) (h : ∀ k (hk : k < l.length), l[k] = m[k]'(by omega)) : l = m :=
  List.ext_getElem hl fun k h1 _ => h k h1
def RowsIn (l : List RowD) : Prop := ∀ r ∈ l, r.path.length ≤ maxLen ∧ r.text.length ≤ maxLen
end Go.Proofs.YtpcdihkcenfgkaaGreat
namespace Go.Proofs.YtpcdihkcenfgkaaGreat
open Go.Vc
def LeafIn (r : LeafD) : Prop := r.path.length ≤ maxLen ∧ r.id.length = 32
def ChgIn (r : ChgD) : Prop := r.path.length ≤ maxLen ∧ r.text.length ≤ maxLen
def IdIn (r : List UInt8) : Prop := r.length = 32
theorem IdIn.len {r : List UInt8} (h : IdIn r) : (bytesU r).length = 32 := by rw [bytesU_len]; exact h
theorem equalLeaf_calls (w : World) {p q : Option Addr} {c d : Nat} {l m : (List (LeafD))} (h : Sl w p l.length 33 (l.flatMap LeafD.cells)) (h' : Sl w q m.length 33 (m.flatMap LeafD.cells)) (hl : l.length < 1000000000) (h1 : ∀ r ∈ l, LeafIn r) (h2 : ∀ r ∈ m, LeafIn r) :
    CallsV Tryz.prog 138 [.slice p l.length c, .slice q m.length d] w fun v w' => v = .bool (decide (l = m)) ∧ Ext No w w' := by
  refine calls_enter Tryz.func138 rfl rfl rfl rfl ?_
  have hX := Ext.refl No w
  refine c_seq (c_region (wl_p I_ok rfl (wl_nil (f_then (c_seq (c_seq (c_region (wl_p I_ok rfl (wl_nil (f_then (c_if rfl (fun hc => ?_) (fun hc => ?_))))))))))))
  · refine c_seq ?_
    refine c_region (wl_p I_ok rfl (wl_nil (f_then (c_ret (f_thenR (f_ret1 rfl rfl ?_))))))
    exact ⟨congrArg Value.bool (by symm; rw [decide_eq_false_iff_not]; intro h; rw [h] at hc; exact hc rfl), hX⟩
  · have hlm : l.length = m.length := by omega
    refine c_skip (f_then (c_seq (c_seq (c_region (wl_p I_ok rfl (wl_nil (f_then (c_block ?_))))))))
    refine c_loopK (α := Nat) [0, 1, 12] rfl (fun z => [(13, .int .i64 (z : Int))]) (fun z u => (z ≤ l.length ∧ ∀ k (hk : k < l.length), k < z → l[k] = m[k]'(by omega)) ∧ Ext No w u) (fun z u => l.length - z) (0) rfl ⟨⟨Nat.zero_le _, fun k _ h => absurd h (Nat.not_lt_zero _)⟩, hX⟩ ?_
    rintro i w1 ⟨⟨hi, hok⟩, hX⟩
    refine c_seq (c_region (wl_p I_ok rfl (wl_nil (f_then (c_seq (c_if rfl (fun hc => ?_) (fun hc => ?_)))))))
    · have hi : i < l.length := by omega
      have him : i < m.length := by omega
      obtain ⟨b, off, rfl, hsa⟩ := h.rowAll (fun r hr => LeafD.len (h1 r hr).2) (by omega)
      obtain ⟨b', off', rfl, hsb⟩ := h'.rowAll (fun r hr => LeafD.len (h2 r hr).2) (by omega)
      have ha1 := h1 _ (List.getElem_mem hi)
      have ha2 := h2 _ (List.getElem_mem him)
      refine c_skip (f_then (c_seq (c_block (c_seq (c_region (wl_p I_ok rfl (wl_nil (f_then (c_seq ?_)))))))))
      refine c_draw rfl 9 [(0, true), (1, true), (2, true), (3, true), (4, true), (5, true), (6, true), (7, true), (8, true)] [] (No) (by kernel_rfl) fun w2 hE2 hs2 => ?_
      have hXd := hX
      have hX := hX.thenNo hE2
      refine wd_k I_ok 2 rfl (wd_ix I_ok rfl rfl 33 rfl i rfl (by omega) (off + i * 33) rfl (wd_ldN I_ok rfl rfl (fun w' hw' => ((hsa i hi).extNo (hXd.thenNo hw'))) (LeafD.len ha1.2) ?_))
      refine wd_k I_ok 2 rfl (wd_ix I_ok rfl rfl 33 rfl i rfl (by omega) (off' + i * 33) rfl (wd_ldN I_ok rfl rfl (fun w' hw' => ((hsb i him).extNo (hXd.thenNo hw'))) (LeafD.len ha2.2) ?_))
      refine wd_eqK rfl rfl gLeafD 10 (by decide) kLeafD (leafForm (LeafD.len ha1.2)) (leafForm (LeafD.len ha2.2)) (leafKey ha1.1 ha1.2) (leafKey ha2.1 ha2.2) leaf_eq ?_
      simp only [Bool.false_eq_true, if_false]
      refine wd_sw (wb_nil (f_then (c_if rfl (fun hc => ?_) (fun hc => ?_))))
      · refine c_seq ?_
        refine c_region (wl_p I_ok rfl (wl_nil (f_then (c_ret (f_blockR (f_thenR (f_thenR (f_blockR (f_thenR (f_ret1 rfl rfl ?_))))))))))
        exact ⟨congrArg Value.bool (by symm; rw [decide_eq_false_iff_not]; intro e; subst e; exact hc rfl), hX⟩
      · have hei := Decidable.not_not.1 hc
        refine c_skip (f_blockN (f_then (c_region (wl_p I_ok rfl ?_))))
        rw [IntWalk.i64_in _ (by omega)]
        refine wl_nil ?_
        exact f_round (i + 1) rfl ⟨⟨by omega, fun k hk hlt => (by rcases Nat.lt_or_ge k i with h0 | h0; exact hok k hk h0; (have e : k = i := (by omega)); subst e; exact hei)⟩, hX⟩ (by first | omega | (dsimp only; omega))
    · have hall : l = m := list_ext hlm fun k hk => hok k hk (by omega)
      refine c_exit (f_thenE (f_thenE (f_blockE (f_then (c_seq (c_region (wl_p I_ok rfl (wl_nil (f_then (c_ret (f_ret1 rfl rfl ?_)))))))))))
      exact ⟨congrArg Value.bool (decide_eq_true hall).symm, hX⟩

theorem equalChange_calls (w : World) {p q : Option Addr} {c d : Nat} {l m : (List (ChgD))} (h : Sl w p l.length 3 (l.flatMap ChgD.cells)) (h' : Sl w q m.length 3 (m.flatMap ChgD.cells)) (hl : l.length < 1000000000) (h1 : ∀ r ∈ l, ChgIn r) (h2 : ∀ r ∈ m, ChgIn r) :
    CallsV Tryz.prog 140 [.slice p l.length c, .slice q m.length d] w fun v w' => v = .bool (decide (l = m)) ∧ Ext No w w' := by
  refine calls_enter Tryz.func140 rfl rfl rfl rfl ?_
  have hX := Ext.refl No w
  refine c_seq (c_region (wl_p I_ok rfl (wl_nil (f_then (c_seq (c_seq (c_region (wl_p I_ok rfl (wl_nil (f_then (c_if rfl (fun hc => ?_) (fun hc => ?_))))))))))))
  · refine c_seq ?_
    refine c_region (wl_p I_ok rfl (wl_nil (f_then (c_ret (f_thenR (f_ret1 rfl rfl ?_))))))
    exact ⟨congrArg Value.bool (by symm; rw [decide_eq_false_iff_not]; intro h; rw [h] at hc; exact hc rfl), hX⟩
  · have hlm : l.length = m.length := by omega
    refine c_skip (f_then (c_seq (c_seq (c_region (wl_p I_ok rfl (wl_nil (f_then (c_block ?_))))))))
    refine c_loopK (α := Nat) [0, 1, 12] rfl (fun z => [(13, .int .i64 (z : Int))]) (fun z u => (z ≤ l.length ∧ ∀ k (hk : k < l.length), k < z → l[k] = m[k]'(by omega)) ∧ Ext No w u) (fun z u => l.length - z) (0) rfl ⟨⟨Nat.zero_le _, fun k _ h => absurd h (Nat.not_lt_zero _)⟩, hX⟩ ?_
    rintro i w1 ⟨⟨hi, hok⟩, hX⟩
    refine c_seq (c_region (wl_p I_ok rfl (wl_nil (f_then (c_seq (c_if rfl (fun hc => ?_) (fun hc => ?_)))))))
    · have hi : i < l.length := by omega
      have him : i < m.length := by omega
      obtain ⟨b, off, rfl, hsa⟩ := h.rowAll (fun r _ => r.len) (by omega)
      obtain ⟨b', off', rfl, hsb⟩ := h'.rowAll (fun r _ => r.len) (by omega)
      have ha1 := h1 _ (List.getElem_mem hi)
      have ha2 := h2 _ (List.getElem_mem him)
      refine c_skip (f_then (c_seq (c_block (c_seq (c_region (wl_p I_ok rfl (wl_nil (f_then (c_seq ?_)))))))))
      refine c_draw rfl 9 [(0, true), (1, true), (2, true), (3, true), (4, true), (5, true), (6, true), (7, true), (8, true)] [] (No) (by kernel_rfl) fun w2 hE2 hs2 => ?_
      have hXd := hX
      have hX := hX.thenNo hE2
      refine wd_k I_ok 2 rfl (wd_ix I_ok rfl rfl 3 rfl i rfl (by omega) (off + i * 3) rfl (wd_ldN I_ok rfl rfl (fun w' hw' => ((hsa i hi).extNo (hXd.thenNo hw'))) rfl ?_))
      refine wd_k I_ok 2 rfl (wd_ix I_ok rfl rfl 3 rfl i rfl (by omega) (off' + i * 3) rfl (wd_ldN I_ok rfl rfl (fun w' hw' => ((hsb i him).extNo (hXd.thenNo hw'))) rfl ?_))
      refine wd_eqK rfl rfl gChgD 10 (by decide) kChgD (chgForm rfl) (chgForm rfl) (chgKey ha1.1 ha1.2) (chgKey ha2.1 ha2.2) chg_eq ?_
      simp only [Bool.false_eq_true, if_false]
      refine wd_sw (wb_nil (f_then (c_if rfl (fun hc => ?_) (fun hc => ?_))))
      · refine c_seq ?_
        refine c_region (wl_p I_ok rfl (wl_nil (f_then (c_ret (f_blockR (f_thenR (f_thenR (f_blockR (f_thenR (f_ret1 rfl rfl ?_))))))))))
        exact ⟨congrArg Value.bool (by symm; rw [decide_eq_false_iff_not]; intro e; subst e; exact hc rfl), hX⟩
      · have hei := Decidable.not_not.1 hc
        refine c_skip (f_blockN (f_then (c_region (wl_p I_ok rfl ?_))))
        rw [IntWalk.i64_in _ (by omega)]
        refine wl_nil ?_
        exact f_round (i + 1) rfl ⟨⟨by omega, fun k hk hlt => (by rcases Nat.lt_or_ge k i with h0 | h0; exact hok k hk h0; (have e : k = i := (by omega)); subst e; exact hei)⟩, hX⟩ (by first | omega | (dsimp only; omega))
    · have hall : l = m := list_ext hlm fun k hk => hok k hk (by omega)
      refine c_exit (f_thenE (f_thenE (f_blockE (f_then (c_seq (c_region (wl_p I_ok rfl (wl_nil (f_then (c_ret (f_ret1 rfl rfl ?_)))))))))))
      exact ⟨congrArg Value.bool (decide_eq_true hall).symm, hX⟩

theorem equalId_calls (w : World) {p q : Option Addr} {c d : Nat} {l m : (List (List UInt8))} (h : Sl w p l.length 32 (l.flatMap bytesU)) (h' : Sl w q m.length 32 (m.flatMap bytesU)) (hl : l.length < 1000000000) (h1 : ∀ r ∈ l, IdIn r) (h2 : ∀ r ∈ m, IdIn r) :
    CallsV Tryz.prog 139 [.slice p l.length c, .slice q m.length d] w fun v w' => v = .bool (decide (l = m)) ∧ Ext No w w' := by
  refine calls_enter Tryz.func139 rfl rfl rfl rfl ?_
  have hX := Ext.refl No w
  refine c_seq (c_region (wl_p I_ok rfl (wl_nil (f_then (c_seq (c_seq (c_region (wl_p I_ok rfl (wl_nil (f_then (c_if rfl (fun hc => ?_) (fun hc => ?_))))))))))))
  · refine c_seq ?_
    refine c_region (wl_p I_ok rfl (wl_nil (f_then (c_ret (f_thenR (f_ret1 rfl rfl ?_))))))
    exact ⟨congrArg Value.bool (by symm; rw [decide_eq_false_iff_not]; intro h; rw [h] at hc; exact hc rfl), hX⟩
  · have hlm : l.length = m.length := by omega
    refine c_skip (f_then (c_seq (c_seq (c_region (wl_p I_ok rfl (wl_nil (f_then (c_block ?_))))))))
    refine c_loopK (α := Nat) [0, 1, 12] rfl (fun z => [(13, .int .i64 (z : Int))]) (fun z u => (z ≤ l.length ∧ ∀ k (hk : k < l.length), k < z → l[k] = m[k]'(by omega)) ∧ Ext No w u) (fun z u => l.length - z) (0) rfl ⟨⟨Nat.zero_le _, fun k _ h => absurd h (Nat.not_lt_zero _)⟩, hX⟩ ?_
    rintro i w1 ⟨⟨hi, hok⟩, hX⟩
    refine c_seq (c_region (wl_p I_ok rfl (wl_nil (f_then (c_seq (c_if rfl (fun hc => ?_) (fun hc => ?_)))))))
    · have hi : i < l.length := by omega
      have him : i < m.length := by omega
      obtain ⟨b, off, rfl, hsa⟩ := h.rowAll (fun r hr => (h1 r hr).len) (by omega)
      obtain ⟨b', off', rfl, hsb⟩ := h'.rowAll (fun r hr => (h2 r hr).len) (by omega)
      have ha1 := h1 _ (List.getElem_mem hi)
      have ha2 := h2 _ (List.getElem_mem him)
      refine c_skip (f_then (c_seq (c_block (c_seq (c_region (wl_p I_ok rfl (wl_nil (f_then (c_seq ?_)))))))))
      refine c_draw rfl 9 [(0, true), (1, true), (2, true), (3, true), (4, true), (5, true), (6, true), (7, true), (8, true)] [] (No) (by kernel_rfl) fun w2 hE2 hs2 => ?_
      have hXd := hX
      have hX := hX.thenNo hE2
      refine wd_k I_ok 2 rfl (wd_ix I_ok rfl rfl 32 rfl i rfl (by omega) (off + i * 32) rfl (wd_ldN I_ok rfl rfl (fun w' hw' => ((hsa i hi).extNo (hXd.thenNo hw'))) (IdIn.len ha1) ?_))
      refine wd_k I_ok 2 rfl (wd_ix I_ok rfl rfl 32 rfl i rfl (by omega) (off' + i * 32) rfl (wd_ldN I_ok rfl rfl (fun w' hw' => ((hsb i him).extNo (hXd.thenNo hw'))) (IdIn.len ha2) ?_))
      refine wd_eqK rfl rfl gId 10 (by decide) kId (idForm ha1) (idForm ha2) (idKey ha1) (idKey ha2) idLits_inj ?_
      simp only [Bool.false_eq_true, if_false]
      refine wd_sw (wb_nil (f_then (c_if rfl (fun hc => ?_) (fun hc => ?_))))
      · refine c_seq ?_
        refine c_region (wl_p I_ok rfl (wl_nil (f_then (c_ret (f_blockR (f_thenR (f_thenR (f_blockR (f_thenR (f_ret1 rfl rfl ?_))))))))))
        exact ⟨congrArg Value.bool (by symm; rw [decide_eq_false_iff_not]; intro e; subst e; exact hc rfl), hX⟩
      · have hei := Decidable.not_not.1 hc
        refine c_skip (f_blockN (f_then (c_region (wl_p I_ok rfl ?_))))
        rw [IntWalk.i64_in _ (by omega)]
        refine wl_nil ?_
        exact f_round (i + 1) rfl ⟨⟨by omega, fun k hk hlt => (by rcases Nat.lt_or_ge k i with h0 | h0; exact hok k hk h0; (have e : k = i := (by omega)); subst e; exact hei)⟩, hX⟩ (by first | omega | (dsimp only; omega))
    · have hall : l = m := list_ext hlm fun k hk => hok k hk (by omega)
      refine c_exit (f_thenE (f_thenE (f_blockE (f_then (c_seq (c_region (wl_p I_ok rfl (wl_nil (f_then (c_ret (f_ret1 rfl rfl ?_)))))))))))
      exact ⟨congrArg Value.bool (decide_eq_true hall).symm, hX⟩

end Go.Proofs.YtpcdihkcenfgkaaGreat
namespace Go.Vc
structure ObjD where
  kind : Int
  text : Str
  leaves : List LeafD
  style : Int
  tree : List UInt8
  base : List UInt8
  parents : List (List UInt8)
  rows : List ChgD
  number : Nat
  author : Nat
  note : Str
  deriving DecidableEq
/-- where an object's lists begin, and how far they reach -/
structure ObjP where
  lp : Option Addr
  lc : Nat
  pp : Option Addr
  pc : Nat
  rp : Option Addr
  rc : Nat
def objC (o : ObjD) (a : ObjP) : List Value :=
  [.int .i64 o.kind, strV o.text, .slice a.lp o.leaves.length a.lc, .int .i64 o.style] ++ (bytesU o.tree ++ (bytesU o.base ++
    [.slice a.pp o.parents.length a.pc, .slice a.rp o.rows.length a.rc, .int .u32 (o.number : Int), .int .u32 (o.author : Int), strV o.note]))
instance (o : ObjD) (a : ObjP) : OneC (objC o a) := by unfold objC; infer_instance
/-- what every object has -/
structure ObjIn (o : ObjD) : Prop where
  tree : o.tree.length = 32
  base : o.base.length = 32
  parents : ∀ r ∈ o.parents, r.length = 32
  leaves : ∀ r ∈ o.leaves, r.path.length ≤ maxLen ∧ r.id.length = 32
  rows : ∀ r ∈ o.rows, r.path.length ≤ maxLen ∧ r.text.length ≤ maxLen
  number : o.number < 2 ^ 32
  author : o.author < 2 ^ 32
theorem objC_len {o : ObjD} {a : ObjP} (h : ObjIn o) : (objC o a).length = 73 := by
  simp only [objC, List.length_append, bytesU_len, h.tree, h.base, List.length_cons, List.length_nil]
/-- an object's lists -/
structure ObjL (w : World) (o : ObjD) (a : ObjP) : Prop where
  leaves : Sl w a.lp o.leaves.length 33 (o.leaves.flatMap LeafD.cells)
  parents : Sl w a.pp o.parents.length 32 (o.parents.flatMap bytesU)
  rows : Sl w a.rp o.rows.length 3 (o.rows.flatMap ChgD.cells)
theorem ObjL.extNo {w w' : World} {o : ObjD} {a : ObjP} (h : ObjL w o a) (hE : Ext No w w') : ObjL w' o a := ⟨h.leaves.extNo hE, h.parents.extNo hE, h.rows.extNo hE⟩
/-- an object's own cells -/
structure ObjAt (w : World) (b off : Nat) (o : ObjD) (a : ObjP) : Prop where
  kind : w.cell? ⟨b, off, none⟩ = some (.int .i64 o.kind)
  text : w.cell? ⟨b, off + 1, none⟩ = some (strV o.text)
  leaves : w.cell? ⟨b, off + 2, none⟩ = some (.slice a.lp o.leaves.length a.lc)
  style : w.cell? ⟨b, off + 3, none⟩ = some (.int .i64 o.style)
  tree : Seg w b (off + 4) (bytesU o.tree)
  base : Seg w b (off + 36) (bytesU o.base)
  parents : w.cell? ⟨b, off + 68, none⟩ = some (.slice a.pp o.parents.length a.pc)
  rows : w.cell? ⟨b, off + 69, none⟩ = some (.slice a.rp o.rows.length a.rc)
  number : w.cell? ⟨b, off + 70, none⟩ = some (.int .u32 (o.number : Int))
  author : w.cell? ⟨b, off + 71, none⟩ = some (.int .u32 (o.author : Int))
  note : w.cell? ⟨b, off + 72, none⟩ = some (strV o.note)
theorem Seg.obj {w : World} {b off : Nat} {o : ObjD} {a : ObjP} (hs : Seg w b off (objC o a)) (h : ObjIn o) : ObjAt w b off o a := by
  unfold objC at hs
  obtain ⟨h1, h2⟩ := Seg.append.1 hs
  obtain ⟨h3, h4⟩ := Seg.append.1 h2
  obtain ⟨h5, h6⟩ := Seg.append.1 h4
  have e1 : off + 4 + (bytesU o.tree).length = off + 36 := by rw [bytesU_len, h.tree]
  have h5 : Seg w b (off + 4 + (bytesU o.tree).length) (bytesU o.base) := h5
  have h6 : Seg w b (off + 4 + (bytesU o.tree).length + (bytesU o.base).length) _ := h6
  rw [e1] at h5 h6
  rw [bytesU_len, h.base] at h6
  exact ⟨h1 0 _ rfl, h1 1 _ rfl, h1 2 _ rfl, h1 3 _ rfl, h3, h5, h6 0 _ rfl, h6 1 _ rfl, h6 2 _ rfl, h6 3 _ rfl, h6 4 _ rfl⟩
theorem ObjAt.extNo {w w' : World} {b off : Nat} {o : ObjD} {a : ObjP} (hs : ObjAt w b off o a) (hE : Ext No w w') : ObjAt w' b off o a := by
  have key : ∀ {k : Nat} {v : Value}, w.cell? ⟨b, k, none⟩ = some v → w'.cell? ⟨b, k, none⟩ = some v := fun {k v} hk => by
    have hS : Seg w b k [v] := fun i u hi => by
      cases i with
      | zero => cases hi; exact hk
      | succ i => cases hi
    exact (hS.extNo hE) 0 v rfl
  exact ⟨key hs.kind, key hs.text, key hs.leaves, key hs.style, hs.tree.extNo hE, hs.base.extNo hE, key hs.parents, key hs.rows, key hs.number, key hs.author, key hs.note⟩
end Go.Vc
namespace Go.Vc
abbrev idZ : List UInt8 := List.replicate 32 0
def objZ : ObjD := ⟨0, [], [], 0, idZ, idZ, [], [], 0, 0, []⟩
theorem objZ_in : ObjIn objZ := ⟨rfl, rfl, fun _ h => absurd h List.not_mem_nil, fun _ h => absurd h List.not_mem_nil, fun _ h => absurd h List.not_mem_nil, by decide, by decide⟩
def StyleIs (o : ObjD) : Prop :=
  o.style = 1 ∧ o.parents.length = 0 ∧ o.base = idZ ∧ o.rows.length = 0 ∧ o.number = 0 ∨
  o.style = 2 ∧ o.parents.length = 1 ∧ o.base = idZ ∧ 0 < o.number ∨
  o.style = 3 ∧ o.parents.length = 2 ∧ o.parents.getD 0 [] ≠ o.parents.getD 1 [] ∧ 0 < o.number
instance (o : ObjD) : Decidable (StyleIs o) := inferInstanceAs (Decidable (_ ∨ _))
def StyleOk (o : ObjD) : Prop := idZ ∉ o.parents ∧ StyleIs o
instance (o : ObjD) : Decidable (StyleOk o) := inferInstanceAs (Decidable (_ ∧ _))
/-- a commit is right by its style -/
def Styled (o : ObjD) : Prop := o.tree ≠ idZ ∧ StyleOk o
instance (o : ObjD) : Decidable (Styled o) := inferInstanceAs (Decidable (_ ∧ _))
/-- nothing of a commit is there -/
def NoCom (o : ObjD) : Prop := o.style = 0 ∧ o.tree = idZ ∧ o.base = idZ ∧ o.parents.length = 0 ∧ o.rows.length = 0 ∧ o.number = 0 ∧ o.author = 0 ∧ o.note = []
instance (o : ObjD) : Decidable (NoCom o) := inferInstanceAs (Decidable (_ ∧ _))
def Leaved (l : List LeafD) : Prop := Rises (l.map LeafD.path) ∧ ∀ x ∈ l, x.id ≠ idZ
instance (l : List LeafD) : Decidable (Leaved l) := inferInstanceAs (Decidable (_ ∧ _))
def BlobOk (o : ObjD) : Prop := o.text.length ≤ 256 ∧ o.leaves.length = 0 ∧ NoCom o
instance (o : ObjD) : Decidable (BlobOk o) := inferInstanceAs (Decidable (_ ∧ _))
def TreeOk (o : ObjD) : Prop := Leaved o.leaves ∧ o.text = [] ∧ NoCom o
instance (o : ObjD) : Decidable (TreeOk o) := inferInstanceAs (Decidable (_ ∧ _))
def ComOk (o : ObjD) : Prop := o.text = [] ∧ o.leaves.length = 0 ∧ o.note.length ≤ 200 ∧ EditOk o.rows ∧ Styled o
instance (o : ObjD) : Decidable (ComOk o) := inferInstanceAs (Decidable (_ ∧ _))
/-- the fields are right -/
def FieldsOk (o : ObjD) : Prop := o.kind = 1 ∧ BlobOk o ∨ o.kind = 2 ∧ TreeOk o ∨ o.kind = 3 ∧ ComOk o
instance (o : ObjD) : Decidable (FieldsOk o) := inferInstanceAs (Decidable (_ ∨ _))
theorem blob_zero {o : ObjD} : BlobOk o ↔ o.text.length ≤ 256 ∧ { o with kind := 0, text := [] } = objZ := by
  obtain ⟨k, t, l, s, tr, ba, p, r, n, a, no⟩ := o
  simp only [BlobOk, NoCom, objZ, ObjD.mk.injEq, List.length_eq_zero_iff, true_and]
theorem tree_zero {o : ObjD} : TreeOk o ↔ Leaved o.leaves ∧ { o with kind := 0, leaves := [] } = objZ := by
  obtain ⟨k, t, l, s, tr, ba, p, r, n, a, no⟩ := o
  simp only [TreeOk, NoCom, objZ, ObjD.mk.injEq, List.length_eq_zero_iff, true_and]

/-! ### Bytes -/
def strB (n : Nat) (s : Str) : List UInt8 := be n s.length ++ s
def isB (b : Bool) : UInt8 := if b then 1 else 0
def leafB (r : LeafD) : List UInt8 := strB 1 r.path ++ r.id
def chgB (r : ChgD) : List UInt8 := strB 1 r.path ++ [isB r.is] ++ strB 2 r.text
def treeB (l : List LeafD) : List UInt8 := be 1 l.length ++ l.flatMap leafB
def comB (o : ObjD) : List UInt8 := be 1 o.style.toNat ++ o.tree ++ be 1 o.parents.length ++ o.parents.flatten ++ o.base ++ be 1 o.rows.length ++ o.rows.flatMap chgB ++ be 4 o.number ++ be 4 o.author ++ strB 1 o.note
def laidB (o : ObjD) : List UInt8 :=
  be 1 o.kind.toNat ++ if o.kind = 1 then strB 2 o.text else if o.kind = 2 then treeB o.leaves else comB o
/-- an object may be -/
def ObjOk (o : ObjD) : Prop := FieldsOk o ∧ (laidB o).length ≤ 800
instance (o : ObjD) : Decidable (ObjOk o) := inferInstanceAs (Decidable (_ ∧ _))
def idOf (o : ObjD) : List UInt8 := sumW (laidB o)
def linksOf (o : ObjD) : List (List UInt8) := if o.kind = 2 then o.leaves.map LeafD.id else if o.kind = 3 then o.tree :: o.parents else []

theorem flat_le {α β : Type} {f : α → List β} {n : Nat} : ∀ {l : List α}, (∀ x ∈ l, (f x).length ≤ n) → (l.flatMap f).length ≤ l.length * n
  | [], _ => by simp
  | x :: r, h => by
    have h1 := h x (by simp)
    have h2 := flat_le (f := f) (n := n) (l := r) fun y hy => h y (by simp [hy])
    rw [List.flatMap_cons, List.length_append, List.length_cons, Nat.succ_mul]
    omega
theorem flatten_len {l : List (List UInt8)} {n : Nat} (h : ∀ x ∈ l, x.length = n) : l.flatten.length = l.length * n := by
  induction l with
  | nil => simp
  | cons x r ih => rw [List.flatten_cons, List.length_append, h x (by simp), ih fun y hy => h y (by simp [hy]), List.length_cons, Nat.succ_mul, Nat.add_comm]
/-! ### What is taken off bytes -/
end Go.Vc
namespace Go.Proofs.YtpcdihkcenfgkaaGreat
open Go.Vc
/-- all but the lists -/
def Flat (x y : ObjD) : Prop := x.kind = y.kind ∧ x.text = y.text ∧ x.style = y.style ∧ x.tree = y.tree ∧ x.base = y.base ∧ x.number = y.number ∧ x.author = y.author ∧ x.note = y.note
instance (x y : ObjD) : Decidable (Flat x y) := inferInstanceAs (Decidable (_ ∧ _))
theorem same_iff {x y : ObjD} : x = y ↔ Flat x y ∧ x.leaves = y.leaves ∧ x.parents = y.parents ∧ x.rows = y.rows := by
  cases x; cases y
  simp only [Flat, ObjD.mk.injEq]
  constructor
  · rintro ⟨rfl, rfl, rfl, rfl, rfl, rfl, rfl, rfl, rfl, rfl, rfl⟩
    exact ⟨⟨rfl, rfl, rfl, rfl, rfl, rfl, rfl, rfl⟩, rfl, rfl, rfl⟩
  · rintro ⟨⟨rfl, rfl, rfl, rfl, rfl, rfl, rfl, rfl⟩, rfl, rfl, rfl⟩
    exact ⟨rfl, rfl, rfl, rfl, rfl, rfl, rfl, rfl, rfl, rfl, rfl⟩
theorem str_iff {a b : Str} : strU a = strU b ↔ a = b := ⟨fun h => strU_inj h, fun h => h ▸ rfl⟩
/-- lists that a walk can go along -/
structure Short (x : ObjD) : Prop where
  leaves : x.leaves.length < 1000000000
  parents : x.parents.length < 1000000000
  rows : x.rows.length < 1000000000
  leafP : ∀ r ∈ x.leaves, r.path.length < 1000000000
  rowP : ∀ r ∈ x.rows, r.path.length < 1000000000
theorem sameObj_calls (w : World) {x y : ObjD} {a b : ObjP} (hx : ObjIn x) (hy : ObjIn y) (hxl : ObjL w x a) (hyl : ObjL w y b) (hsx : Short x) :
    CallsV Tryz.prog 126 [.agg (objC x a).toArray, .agg (objC y b).toArray] w fun v w' => v = .bool (decide (x = y)) ∧ Ext No w w' := by
  refine calls_enter Tryz.func126 rfl rfl rfl rfl ?_
  have hX := Ext.refl No w
  refine c_seq (c_region (wl (st_al I_ok rfl fun b2 w1 hn2 hb2 hE1 => ?_)))
  have hX := hX.thenNo hE1
  have hb2 : Blk w1 b2 48 (objC x a) := hb2
  have oa := hb2.seg.obj hx
  refine wl (st_al I_ok rfl fun b3 w2 hn3 hb3 hE2 => ?_)
  have hb2 := hb2.extNo hE2
  have oa := oa.extNo hE2
  have hX := hX.thenNo hE2
  have hb3 : Blk w2 b3 48 (objC y b) := hb3
  have ob := hb3.seg.obj hy
  refine wl_p I_ok rfl (wl_nil (f_then (c_cutK (α := Bool) [2, 3] rfl (fun z => [(5, .bool z)]) (fun z u => (z = decide (Flat x y)) ∧ Blk u b2 48 (objC x a) ∧ Blk u b3 48 (objC y b) ∧ Ext No w u) ?_ ?_)))
  · refine c_region ?_
    refine wl_p I_ok rfl (wl (st_ld I_ok rfl oa.kind (wl_p I_ok rfl (wl (st_ld I_ok rfl ob.kind (wl_p I_ok rfl (wl_caseD 11 rfl (fun hg => ?_) (fun hg => ?_))))))))
    · have e1 : x.kind = y.kind := by exact hg
      refine wl_pk I_ok 1 rfl (wl (st_ld I_ok rfl oa.text (wl_pk I_ok 1 rfl (wl (st_ld I_ok rfl ob.text (wl_pk I_ok 3 rfl (wl_caseD 18 rfl (fun hg => ?_) (fun hg => ?_))))))))
      · have e2 : x.text = y.text := by exact str_iff.1 hg
        refine wl_pk I_ok 1 rfl (wl (st_ld I_ok rfl oa.style (wl_pk I_ok 1 rfl (wl (st_ld I_ok rfl ob.style (wl_pk I_ok 3 rfl (wl_caseD 25 rfl (fun hg => ?_) (fun hg => ?_))))))))
        · have e3 : x.style = y.style := by exact hg
          refine wl_pk I_ok 1 rfl (wl (st_ldN I_ok rfl oa.tree (IdIn.len hx.tree) (wl_pk I_ok 1 rfl (wl (st_ldN I_ok rfl ob.tree (IdIn.len hy.tree) ?_)))))
          refine wl (st_eqK rfl gId 10 (by decide) kId (idForm hx.tree) (idForm hy.tree) (idKey hx.tree) (idKey hy.tree) idLits_inj ?_)
          simp only [if_true]
          refine wl_p I_ok rfl (wl_caseD 32 rfl (fun hg => ?_) (fun hg => ?_))
          · have e4 : x.tree = y.tree := by exact hg
            refine wl_pk I_ok 1 rfl (wl (st_ldN I_ok rfl oa.base (IdIn.len hx.base) (wl_pk I_ok 1 rfl (wl (st_ldN I_ok rfl ob.base (IdIn.len hy.base) ?_)))))
            refine wl (st_eqK rfl gId 10 (by decide) kId (idForm hx.base) (idForm hy.base) (idKey hx.base) (idKey hy.base) idLits_inj ?_)
            simp only [if_true]
            refine wl_p I_ok rfl (wl_caseD 39 rfl (fun hg => ?_) (fun hg => ?_))
            · have e5 : x.base = y.base := by exact hg
              refine wl_pk I_ok 1 rfl (wl (st_ld I_ok rfl oa.number (wl_pk I_ok 1 rfl (wl (st_ld I_ok rfl ob.number (wl_pk I_ok 3 rfl (wl_caseD 46 rfl (fun hg => ?_) (fun hg => ?_))))))))
              · have e6 : x.number = y.number := by omega
                refine wl_pk I_ok 1 rfl (wl (st_ld I_ok rfl oa.author (wl_pk I_ok 1 rfl (wl (st_ld I_ok rfl ob.author (wl_pk I_ok 3 rfl (wl_caseD 53 rfl (fun hg => ?_) (fun hg => ?_))))))))
                · have e7 : x.author = y.author := by omega
                  refine wl_pk I_ok 1 rfl (wl (st_ld I_ok rfl oa.note (wl_pk I_ok 1 rfl (wl (st_ld I_ok rfl ob.note (wl_pk I_ok 3 rfl (wl_nil ?_)))))))
                  exact f_cut (_) rfl ⟨by rw [decide_eq_decide, str_iff]; exact ⟨fun h => ⟨e1, e2, e3, e4, e5, e6, e7, h⟩, fun h => h.2.2.2.2.2.2.2⟩, hb2, hb3, hX⟩
                · have n7 : ¬ x.author = y.author := fun e => hg (by rw [e])
                  refine wl_pk I_ok 7 rfl (wl_nil ?_)
                  exact f_cut (false) rfl ⟨by symm; rw [decide_eq_false_iff_not]; exact fun h => n7 h.2.2.2.2.2.2.1, hb2, hb3, hX⟩
              · have n6 : ¬ x.number = y.number := fun e => hg (by rw [e])
                refine wl_pk I_ok 14 rfl (wl_nil ?_)
                exact f_cut (false) rfl ⟨by symm; rw [decide_eq_false_iff_not]; exact fun h => n6 h.2.2.2.2.2.1, hb2, hb3, hX⟩
            · have n5 : ¬ x.base = y.base := fun e => hg (by rw [e])
              refine wl_pk I_ok 21 rfl (wl_nil ?_)
              exact f_cut (false) rfl ⟨by symm; rw [decide_eq_false_iff_not]; exact fun h => n5 h.2.2.2.2.1, hb2, hb3, hX⟩
          · have n4 : ¬ x.tree = y.tree := fun e => hg (by rw [e])
            refine wl_pk I_ok 28 rfl (wl_nil ?_)
            exact f_cut (false) rfl ⟨by symm; rw [decide_eq_false_iff_not]; exact fun h => n4 h.2.2.2.1, hb2, hb3, hX⟩
        · have n3 : ¬ x.style = y.style := fun e => hg (by rw [e])
          refine wl_pk I_ok 35 rfl (wl_nil ?_)
          exact f_cut (false) rfl ⟨by symm; rw [decide_eq_false_iff_not]; exact fun h => n3 h.2.2.1, hb2, hb3, hX⟩
      · have n2 : ¬ x.text = y.text := fun e => hg (by rw [e])
        refine wl_pk I_ok 42 rfl (wl_nil ?_)
        exact f_cut (false) rfl ⟨by symm; rw [decide_eq_false_iff_not]; exact fun h => n2 h.2.1, hb2, hb3, hX⟩
    · have n1 : ¬ x.kind = y.kind := fun e => hg (by rw [e])
      refine wl_pk I_ok 49 rfl (wl_nil ?_)
      exact f_cut (false) rfl ⟨by symm; rw [decide_eq_false_iff_not]; exact fun h => n1 h.1, hb2, hb3, hX⟩
  rintro z w3 ⟨hz, hb2, hb3, hX⟩
  have oa := hb2.seg.obj hx
  have ob := hb3.seg.obj hy
  refine c_cutK (α := Bool) [] rfl (fun z => [(4, .bool z)]) (fun z u => (z = decide (x = y)) ∧ Ext No w u) ?_ ?_
  · refine c_region ?_
    refine wl_p I_ok rfl (wl_case 61 rfl (fun hg => ?_) (fun hg => ?_))
    · have hz : Flat x y := by simpa [hg] using hz
      refine wl_pk I_ok 1 rfl (wl (st_ld I_ok rfl oa.leaves (wl_pk I_ok 1 rfl (wl (st_ld I_ok rfl ob.leaves ?_)))))
      refine wl (st_call Tryz.call138 rfl rfl rfl rfl rfl rfl (equalLeaf_calls w3 (hxl.leaves.extNo hX) (hyl.leaves.extNo hX) hsx.leaves hx.leaves hy.leaves) fun v4 w4 hr4 => ?_)
      obtain ⟨rfl, hE4⟩ := hr4
      have oa := oa.extNo hE4
      have ob := ob.extNo hE4
      have hX := hX.thenNo hE4
      refine wl_p I_ok rfl (wl_caseD 68 rfl (fun hg => ?_) (fun hg => ?_))
      · have hl1 := hg
        refine wl_pk I_ok 1 rfl (wl (st_ld I_ok rfl oa.parents (wl_pk I_ok 1 rfl (wl (st_ld I_ok rfl ob.parents ?_)))))
        refine wl (st_call Tryz.call139 rfl rfl rfl rfl rfl rfl (equalId_calls w4 (hxl.parents.extNo hX) (hyl.parents.extNo hX) hsx.parents hx.parents hy.parents) fun v5 w5 hr5 => ?_)
        obtain ⟨rfl, hE5⟩ := hr5
        have oa := oa.extNo hE5
        have ob := ob.extNo hE5
        have hX := hX.thenNo hE5
        refine wl_p I_ok rfl (wl_caseD 75 rfl (fun hg => ?_) (fun hg => ?_))
        · have hl2 := hg
          refine wl_pk I_ok 2 rfl (wl (st_ld I_ok rfl oa.rows (wl_pk I_ok 2 rfl (wl (st_ld I_ok rfl ob.rows ?_)))))
          refine wl (st_call Tryz.call140 rfl rfl rfl rfl rfl rfl (equalChange_calls w5 (hxl.rows.extNo hX) (hyl.rows.extNo hX) hsx.rows hx.rows hy.rows) fun v6 w6 hr6 => ?_)
          obtain ⟨rfl, hE6⟩ := hr6
          have hX := hX.thenNo hE6
          refine wl_p I_ok rfl (wl_nil ?_)
          exact f_cut (_) rfl ⟨by rw [decide_eq_decide]; exact ⟨fun h => same_iff.2 ⟨hz, hl1, hl2, h⟩, fun h => (same_iff.1 h).2.2.2⟩, hX⟩
        · have hl2 := hg
          refine wl_pk I_ok 9 rfl (wl_nil ?_)
          exact f_cut (false) rfl ⟨by symm; rw [decide_eq_false_iff_not]; exact fun h => hl2 (same_iff.1 h).2.2.1, hX⟩
      · have hl1 := hg
        refine wl_pk I_ok 16 rfl (wl_nil ?_)
        exact f_cut (false) rfl ⟨by symm; rw [decide_eq_false_iff_not]; exact fun h => hl1 (same_iff.1 h).2.1, hX⟩
    · have hz : ¬ Flat x y := by simpa [hg] using hz
      refine wl_pk I_ok 23 rfl (wl_nil ?_)
      exact f_cut (false) rfl ⟨by symm; rw [decide_eq_false_iff_not]; exact fun h => hz (same_iff.1 h).1, hX⟩
  rintro z w7 ⟨rfl, hX⟩
  refine c_ret (f_ret1 rfl rfl ?_)
  exact ⟨rfl, hX⟩
theorem objZ_l (w : World) : ObjL w objZ ⟨none, 0, none, 0, none, 0⟩ := ⟨Sl.nil _ _ _, Sl.nil _ _ _, Sl.nil _ _ _⟩
theorem objZ_c : objC objZ ⟨none, 0, none, 0, none, 0⟩ = cellsOf ti48.zero := by kernel_rfl
theorem zeroObj_calls (w : World) {x : ObjD} {a : ObjP} (hx : ObjIn x) (hxl : ObjL w x a) (hsx : Short x) :
    CallsV Tryz.prog 106 [.agg (objC x a).toArray] w fun v w' => v = .bool (decide (x = objZ)) ∧ Ext No w w' := by
  refine calls_enter Tryz.func106 rfl rfl rfl rfl ?_
  have hX := Ext.refl No w
  refine c_seq (c_region (wl (st_al I_ok rfl fun b1 w1 hn1 hb1 hE1 => ?_)))
  have hX := hX.thenNo hE1
  have hb1 : Blk w1 b1 48 (objC x a) := hb1
  refine wl_p I_ok rfl (wl_nil (f_then (c_seq (c_region (wl (st_ldB I_ok hb1 rfl (objC_len hx) (wl (st_bd I_ok rfl trivial (l' := objC objZ ⟨none, 0, none, 0, none, 0⟩) objZ_c.symm ?_))))))))
  refine wl (st_call Tryz.call126 rfl rfl rfl rfl rfl rfl (sameObj_calls w1 hx objZ_in (hxl.extNo hX) (objZ_l _) hsx) fun v2 w2 hr2 => ?_)
  obtain ⟨rfl, hE2⟩ := hr2
  have hX := hX.thenNo hE2
  refine wl_p I_ok rfl (wl_nil (f_then (c_ret (f_ret1 rfl rfl ?_))))
  exact ⟨rfl, hX⟩
end Go.Proofs.YtpcdihkcenfgkaaGreat
namespace Go.Proofs.YtpcdihkcenfgkaaGreat
open Go.Vc
theorem idZ_c : bytesU idZ = cellsOf ti31.zero := by kernel_rfl
theorem idZ_in : IdIn idZ := rfl
theorem indexId_calls (w : World) {p : Option Addr} {c : Nat} {l : List (List UInt8)} {x : List UInt8} (h : Sl w p l.length 32 (l.flatMap bytesU)) (hl : l.length < 1000000000) (h1 : ∀ r ∈ l, IdIn r) (hx : IdIn x) :
    CallsV Tryz.prog 56 [.slice p l.length c, .agg (bytesU x).toArray] w fun v w' => ∃ n : Int, v = .int .i64 n ∧ (0 ≤ n ↔ x ∈ l) ∧ Ext No w w' := by
  refine calls_enter Tryz.func56 rfl rfl rfl rfl ?_
  have hX := Ext.refl No w
  refine c_seq (c_region (wl (st_al I_ok rfl fun b3 w1 hn3 hb3 hE1 => ?_)))
  have hX := hX.thenNo hE1
  have hb3 : Blk w1 b3 31 (bytesU x) := hb3
  refine wl_p I_ok rfl (wl_nil (f_then (c_seq (c_seq (c_region (wl_p I_ok rfl (wl_nil (f_then (c_block ?_)))))))))
  refine c_loopK (α := Nat) [0, 3, 7] rfl (fun z => [(8, .int .i64 (z : Int))]) (fun z u => (z ≤ l.length ∧ ∀ k (hk : k < l.length), k < z → ¬ x = l[k]) ∧ Blk u b3 31 (bytesU x) ∧ Ext No w u) (fun z u => l.length - z) (0) rfl ⟨⟨Nat.zero_le _, fun k _ h => absurd h (Nat.not_lt_zero _)⟩, hb3, hX⟩ ?_
  rintro i w2 ⟨⟨hi, hno⟩, hb3, hX⟩
  refine c_seq (c_region (wl_p I_ok rfl (wl_nil (f_then (c_seq (c_if rfl (fun hc => ?_) (fun hc => ?_)))))))
  · have hi : i < l.length := by omega
    obtain ⟨b, off, rfl, hseg⟩ := (h.rowAll (fun r hr => (h1 r hr).len) (by omega))
    have ha1 := h1 _ (List.getElem_mem hi)
    refine c_skip (f_then (c_seq (c_block (c_seq (c_region (wl_p I_ok rfl (wl_nil (f_then (c_seq (c_draw rfl 6 [(0, true), (1, true), (2, true), (3, true), (4, true), (5, true)] [] (No) (by kernel_rfl) fun w3 hE3 hs3 => ?_))))))))))
    have hd3 := hb3
    have hXd := hX
    have hb3 := hb3.extNo hE3
    have hX := hX.thenNo hE3
    refine wd_ldN I_ok rfl rfl (fun w' hw' => (hd3.extNo hw').seg) hx.len ?_
    refine wd_k I_ok 2 rfl (wd_ix I_ok rfl rfl 32 rfl i rfl (by omega) (off + i * 32) rfl (wd_ldN I_ok rfl rfl (fun w' hw' => ((hseg i hi).extNo (hXd.thenNo hw'))) ha1.len ?_))
    refine wd_eqK rfl rfl gId 10 (by decide) kId (idForm hx) (idForm ha1) (idKey hx) (idKey ha1) idLits_inj ?_
    simp only [if_true]
    refine wd_sw (wb_nil (f_then (c_if rfl (fun hc => ?_) (fun hc => ?_))))
    · refine c_seq ?_
      refine c_region (wl_p I_ok rfl (wl_nil (f_then (c_ret (f_blockR (f_thenR (f_thenR (f_blockR (f_thenR (f_ret1 rfl rfl ?_))))))))))
      exact ⟨_, rfl, ⟨fun _ => hc ▸ List.getElem_mem hi, fun _ => Int.natCast_nonneg _⟩, hX⟩
    · refine c_skip ?_
      refine f_blockN (f_then (c_region (wl_p I_ok rfl ?_)))
      rw [IntWalk.i64_in _ (by omega)]
      refine wl_nil ?_
      exact f_round (i + 1) rfl ⟨⟨by omega, allStep (p := fun y => ¬ x = y) hno hi hc⟩, hb3, hX⟩ (by first | omega | (dsimp only; omega))
  · have hall : ¬ x ∈ l := fun hr => by
      obtain ⟨k, hk, e⟩ := List.mem_iff_getElem.1 hr
      exact hno k hk (by omega) e.symm
    refine c_exit (f_thenE (f_thenE (f_blockE (f_then (c_seq (c_region (wl_p I_ok rfl (wl_nil (f_then (c_ret (f_ret1 rfl rfl ?_)))))))))))
    exact ⟨_, rfl, ⟨fun h => absurd h (by decide), fun h => absurd h hall⟩, hX⟩

theorem containsId_calls (w : World) {p : Option Addr} {c : Nat} {l : List (List UInt8)} {x : List UInt8} (h : Sl w p l.length 32 (l.flatMap bytesU)) (hl : l.length < 1000000000) (h1 : ∀ r ∈ l, IdIn r) (hx : IdIn x) :
    CallsV Tryz.prog 21 [.slice p l.length c, .agg (bytesU x).toArray] w fun v w' => v = .bool (decide (x ∈ l)) ∧ Ext No w w' := by
  refine calls_enter Tryz.func21 rfl rfl rfl rfl ?_
  have hX := Ext.refl No w
  refine c_seq (c_region (wl (st_al I_ok rfl fun b3 w1 hn3 hb3 hE1 => ?_)))
  have hX := hX.thenNo hE1
  have hb3 : Blk w1 b3 31 (bytesU x) := hb3
  refine wl_p I_ok rfl (wl_nil (f_then (c_seq (c_region (wl_p I_ok rfl (wl (st_ldB I_ok hb3 rfl hx.len (wl (st_call Tryz.call56 rfl rfl rfl rfl rfl rfl (indexId_calls w1 (h.extNo hX) hl h1 hx) fun v2 w2 hr2 => ?_)))))))))
  obtain ⟨n, rfl, hn1, hE2⟩ := hr2
  have hX := hX.thenNo hE2
  refine wl_p I_ok rfl (wl_nil (f_then (c_ret (f_ret1 rfl rfl ?_))))
  exact ⟨congrArg Value.bool (decide_eq_decide.2 hn1), hX⟩
/-- which style a commit has -/
theorem styled_no {o : ObjD} (h : idZ ∈ o.parents ∨ o.tree = idZ) : ¬ Styled o := fun hs => h.elim hs.2.1 hs.1
theorem styled1 {o : ObjD} (h : ¬ (idZ ∈ o.parents ∨ o.tree = idZ)) (hs : o.style = 1) : Styled o ↔ o.parents.length = 0 ∧ o.base = idZ ∧ o.rows.length = 0 ∧ o.number = 0 := by
  constructor
  · rintro ⟨_, _, h1 | h1 | h1⟩
    · exact h1.2
    · exact absurd (hs.symm.trans h1.1) (by decide)
    · exact absurd (hs.symm.trans h1.1) (by decide)
  · exact fun h1 => ⟨fun e => h (.inr e), fun e => h (.inl e), .inl ⟨hs, h1⟩⟩
theorem styled2 {o : ObjD} (h : ¬ (idZ ∈ o.parents ∨ o.tree = idZ)) (hs : o.style = 2) : Styled o ↔ o.parents.length = 1 ∧ o.base = idZ ∧ 0 < o.number := by
  constructor
  · rintro ⟨_, _, h1 | h1 | h1⟩
    · exact absurd (hs.symm.trans h1.1) (by decide)
    · exact h1.2
    · exact absurd (hs.symm.trans h1.1) (by decide)
  · exact fun h1 => ⟨fun e => h (.inr e), fun e => h (.inl e), .inr (.inl ⟨hs, h1⟩)⟩
theorem styled3 {o : ObjD} (h : ¬ (idZ ∈ o.parents ∨ o.tree = idZ)) (hs : o.style = 3) : Styled o ↔ o.parents.length = 2 ∧ o.parents.getD 0 [] ≠ o.parents.getD 1 [] ∧ 0 < o.number := by
  constructor
  · rintro ⟨_, _, h1 | h1 | h1⟩
    · exact absurd (hs.symm.trans h1.1) (by decide)
    · exact absurd (hs.symm.trans h1.1) (by decide)
    · exact h1.2
  · exact fun h1 => ⟨fun e => h (.inr e), fun e => h (.inl e), .inr (.inr ⟨hs, h1⟩)⟩
theorem styled0 {o : ObjD} (h1 : ¬ o.style = 1) (h2 : ¬ o.style = 2) (h3 : ¬ o.style = 3) : ¬ Styled o := fun h => h.2.2.elim (fun h => h1 h.1) fun h => h.elim (fun h => h2 h.1) fun h => h3 h.1
theorem getD_get {α : Type} {l : List α} {i : Nat} (h : i < l.length) (d : α) : l.getD i d = l[i] := by rw [List.getD_eq_getElem?_getD, List.getElem?_eq_getElem h]; rfl
theorem styledObj_calls (w : World) {x : ObjD} {a : ObjP} (hx : ObjIn x) (hxl : ObjL w x a) (hsx : Short x) :
    CallsV Tryz.prog 109 [.agg (objC x a).toArray] w fun v w' => v = .bool (decide (Styled x)) ∧ Ext No w w' := by
  refine calls_enter Tryz.func109 rfl rfl rfl rfl ?_
  have hX := Ext.refl No w
  refine c_seq (c_region (wl (st_al I_ok rfl fun b1 w1 hn1 hb1 hE1 => ?_)))
  have hX := hX.thenNo hE1
  have hb1 : Blk w1 b1 48 (objC x a) := hb1
  have oa := hb1.seg.obj hx
  refine wl_p I_ok rfl (wl_nil (f_then (c_seq (c_cutK (α := Bool) [1] rfl (fun z => [(13, .bool z)]) (fun z u => (z = decide (idZ ∈ x.parents ∨ x.tree = idZ)) ∧ Blk u b1 48 (objC x a) ∧ Ext No w u) ?_ ?_))))
  · refine c_region ?_
    refine wl_p I_ok rfl (wl (st_ld I_ok rfl oa.parents (wl (st_bd I_ok rfl trivial (l' := bytesU idZ) idZ_c.symm ?_))))
    refine wl (st_call Tryz.call21 rfl rfl rfl rfl rfl rfl (containsId_calls w1 (hxl.parents.extNo hX) hsx.parents hx.parents idZ_in) fun v2 w2 hr2 => ?_)
    obtain ⟨rfl, hE2⟩ := hr2
    have hb1 := hb1.extNo hE2
    have oa := oa.extNo hE2
    have hX := hX.thenNo hE2
    refine wl_p I_ok rfl (wl_caseD 8 rfl (fun hg => ?_) (fun hg => ?_))
    · refine wl_pk I_ok 5 rfl ?_
      refine wl_nil ?_
      exact f_cut (true) rfl ⟨by symm; rw [decide_eq_true_eq]; exact .inl hg, hb1, hX⟩
    · refine wl_pk I_ok 1 rfl ?_
      refine wl (st_ldN I_ok rfl oa.tree (IdIn.len hx.tree) (wl (st_bd I_ok rfl trivial (l' := bytesU idZ) idZ_c.symm (wl (st_eqK rfl gId 10 (by decide) kId (idForm hx.tree) (idForm idZ_in) (idKey hx.tree) (idKey idZ_in) idLits_inj ?_)))))
      simp only [if_true]
      refine wl_p I_ok rfl (wl_nil ?_)
      exact f_cut (_) rfl ⟨by rw [decide_eq_decide]; exact ⟨fun h => .inr h, fun h => h.resolve_left hg⟩, hb1, hX⟩
  rintro z w3 ⟨rfl, hb1, hX⟩
  have oa := hb1.seg.obj hx
  refine c_if rfl (fun hc => ?_) (fun hc => ?_)
  · have hno := styled_no hc
    refine c_seq (c_region (wl_p I_ok rfl (wl_nil (f_then (c_ret (f_thenR (f_ret1 rfl rfl ?_)))))))
    exact ⟨congrArg Value.bool (decide_eq_false hno).symm, hX⟩
  · have h0 := hc
    refine c_skip (f_then (c_seq (c_region (wl_p I_ok rfl (wl (st_ld I_ok rfl oa.parents (wl_p I_ok rfl (wl_nil (f_then (c_seq (c_seq (c_region (wl_p I_ok rfl (wl (st_ld I_ok rfl oa.style (wl_nil (f_then (c_block (c_seq (c_region ?_))))))))))))))))))))
    refine wl_p I_ok rfl (wl_nil (f_then (c_if rfl (fun hc => ?_) (fun hc => ?_))))
    · have h1 : x.style = 1 := hc
      refine c_cutK (α := Bool) [] rfl (fun z => [(2, .bool z)]) (fun z u => (z = decide (Styled x)) ∧ Ext No w u) ?_ ?_
      · refine c_region ?_
        refine wl_p I_ok rfl (wl_caseD 23 rfl (fun hg => ?_) (fun hg => ?_))
        · refine wl_pk I_ok 1 rfl ?_
          refine wl (st_ldN I_ok rfl oa.base (IdIn.len hx.base) (wl (st_bd I_ok rfl trivial (l' := bytesU idZ) idZ_c.symm (wl (st_eqK rfl gId 10 (by decide) kId (idForm hx.base) (idForm idZ_in) (idKey hx.base) (idKey idZ_in) idLits_inj ?_)))))
          simp only [if_true]
          refine wl_p I_ok rfl (wl_caseD 29 rfl (fun hg => ?_) (fun hg => ?_))
          · have hb := hg
            refine wl_pk I_ok 2 rfl (wl (st_ld I_ok rfl oa.rows (wl_pk I_ok 4 rfl (wl_caseD 36 rfl (fun hg => ?_) (fun hg => ?_)))))
            · refine wl_pk I_ok 1 rfl ?_
              refine wl (st_ld I_ok rfl oa.number (wl_pk I_ok 3 rfl (wl_nil ?_)))
              exact f_cut (_) rfl ⟨by rw [decide_eq_decide, styled1 h0 h1]; exact ⟨fun h => ⟨by omega, hb, by omega, by omega⟩, fun h => by omega⟩, hX⟩
            · refine wl_pk I_ok 5 rfl ?_
              refine wl_nil ?_
              exact f_cut (false) rfl ⟨by symm; rw [decide_eq_false_iff_not, styled1 h0 h1]; intro h; omega, hX⟩
          · have hb := hg
            refine wl_pk I_ok 12 rfl (wl_nil ?_)
            exact f_cut (false) rfl ⟨by symm; rw [decide_eq_false_iff_not, styled1 h0 h1]; intro h; exact hb h.2.1, hX⟩
        · refine wl_pk I_ok 18 rfl ?_
          refine wl_nil ?_
          exact f_cut (false) rfl ⟨by symm; rw [decide_eq_false_iff_not, styled1 h0 h1]; intro h; omega, hX⟩
      rintro z w4 ⟨rfl, hX⟩
      refine c_ret (f_blockR (f_thenR (f_ret1 rfl rfl ?_)))
      exact ⟨rfl, hX⟩
    · have h1 : ¬ x.style = 1 := hc
      refine c_seq (c_region (wl_p I_ok rfl (wl_nil (f_then (c_if rfl (fun hc => ?_) (fun hc => ?_))))))
      · have h2 : x.style = 2 := hc
        refine c_cutK (α := Bool) [] rfl (fun z => [(2, .bool z)]) (fun z u => (z = decide (Styled x)) ∧ Ext No w u) ?_ ?_
        · refine c_region ?_
          refine wl_p I_ok rfl (wl_caseD 45 rfl (fun hg => ?_) (fun hg => ?_))
          · refine wl_pk I_ok 1 rfl ?_
            refine wl (st_ldN I_ok rfl oa.base (IdIn.len hx.base) (wl (st_bd I_ok rfl trivial (l' := bytesU idZ) idZ_c.symm (wl (st_eqK rfl gId 10 (by decide) kId (idForm hx.base) (idForm idZ_in) (idKey hx.base) (idKey idZ_in) idLits_inj ?_)))))
            simp only [if_true]
            refine wl_p I_ok rfl (wl_caseD 51 rfl (fun hg => ?_) (fun hg => ?_))
            · have hb := hg
              refine wl_pk I_ok 1 rfl (wl (st_ld I_ok rfl oa.number (wl_pk I_ok 3 rfl (wl_nil ?_))))
              exact f_cut (_) rfl ⟨by rw [decide_eq_decide, styled2 h0 h2]; exact ⟨fun h => ⟨by omega, hb, by omega⟩, fun h => by omega⟩, hX⟩
            · have hb := hg
              refine wl_pk I_ok 5 rfl (wl_nil ?_)
              exact f_cut (false) rfl ⟨by symm; rw [decide_eq_false_iff_not, styled2 h0 h2]; intro h; exact hb h.2.1, hX⟩
          · refine wl_pk I_ok 11 rfl ?_
            refine wl_nil ?_
            exact f_cut (false) rfl ⟨by symm; rw [decide_eq_false_iff_not, styled2 h0 h2]; intro h; omega, hX⟩
        rintro z w5 ⟨rfl, hX⟩
        refine c_ret (f_blockR (f_thenR (f_ret1 rfl rfl ?_)))
        exact ⟨rfl, hX⟩
      · have h2 : ¬ x.style = 2 := hc
        refine c_seq (c_region (wl_p I_ok rfl (wl_nil (f_then (c_if rfl (fun hc => ?_) (fun hc => ?_))))))
        · have h3 : x.style = 3 := hc
          refine c_cutK (α := Bool) [] rfl (fun z => [(2, .bool z)]) (fun z u => (z = decide (Styled x)) ∧ Ext No w u) ?_ ?_
          · refine c_draw rfl 19 [(0, true), (1, true), (2, true), (3, true), (4, true), (5, true), (6, true), (7, true), (8, true), (9, true), (10, true), (11, true), (12, true), (13, true), (14, true), (15, true), (16, true), (17, true), (18, true)] [] (No) (by kernel_rfl) fun w6 hE6 hs6 => ?_
            have oad := oa
            have hXd := hX
            have hX := hX.thenNo hE6
            refine wd_k I_ok 3 rfl (wd_caseD 60 rfl (fun hg => ?_) (fun hg => ?_))
            · have hl2 : x.parents.length = 2 := by omega
              obtain ⟨b, off, hp, hsa⟩ := hxl.parents.rowAll (fun r hr => IdIn.len (hx.parents r hr)) (by omega)
              have ha0 := hx.parents _ (List.getElem_mem (show 0 < x.parents.length by omega))
              have ha1 := hx.parents _ (List.getElem_mem (show 1 < x.parents.length by omega))
              refine wd_k I_ok 1 rfl (wd_ld I_ok rfl rfl (fun w' hw' => (oad.extNo hw').parents) ?_)
              rw [hp]
              refine wd_ix I_ok rfl rfl 32 rfl 0 rfl (by omega) (off + 0 * 32) rfl (wd_ldN I_ok rfl rfl (fun w' hw' => ((hsa 0 (by omega)).extNo (hXd.thenNo hw'))) (IdIn.len ha0) ?_)
              refine wd_k I_ok 1 rfl (wd_ld I_ok rfl rfl (fun w' hw' => (oad.extNo hw').parents) ?_)
              rw [hp]
              refine wd_ix I_ok rfl rfl 32 rfl 1 rfl (by omega) (off + 1 * 32) rfl (wd_ldN I_ok rfl rfl (fun w' hw' => ((hsa 1 (by omega)).extNo (hXd.thenNo hw'))) (IdIn.len ha1) ?_)
              refine wd_eqK rfl rfl gId 10 (by decide) kId (idForm ha0) (idForm ha1) (idKey ha0) (idKey ha1) idLits_inj ?_
              simp only [Bool.false_eq_true, if_false]
              refine wd_k I_ok 2 rfl (wd_caseD 71 rfl (fun hg => ?_) (fun hg => ?_))
              · have hne := hg
                refine wd_k I_ok 1 rfl (wd_ld I_ok rfl rfl (fun w' hw' => (oad.extNo hw').number) ?_)
                refine wd_k I_ok 3 rfl (wd_sw (wb_nil ?_))
                exact f_cut (_) rfl ⟨by rw [decide_eq_decide, styled3 h0 h3, getD_get (by omega), getD_get (by omega)]; exact ⟨fun h => ⟨hl2, hne, by omega⟩, fun h => by omega⟩, hX⟩
              · have hne := hg
                refine wd_k I_ok 5 rfl (wd_sw (wb_nil ?_))
                exact f_cut (false) rfl ⟨by symm; rw [decide_eq_false_iff_not, styled3 h0 h3, getD_get (by omega), getD_get (by omega)]; intro h; exact hne h.2.1, hX⟩
            · refine wd_k I_ok 16 rfl ?_
              refine wd_sw (wb_nil ?_)
              exact f_cut (false) rfl ⟨by symm; rw [decide_eq_false_iff_not, styled3 h0 h3]; intro h; omega, hX⟩
          rintro z w7 ⟨rfl, hX⟩
          refine c_ret (f_blockR (f_thenR (f_ret1 rfl rfl ?_)))
          exact ⟨rfl, hX⟩
        · have h3 : ¬ x.style = 3 := hc
          refine c_skip (f_blockN (f_then (c_seq (c_region (wl_p I_ok rfl (wl_nil (f_then (c_ret (f_ret1 rfl rfl ?_)))))))))
          exact ⟨congrArg Value.bool (decide_eq_false (styled0 h1 h2 h3)).symm, hX⟩
end Go.Proofs.YtpcdihkcenfgkaaGreat
namespace Go.Vc
theorem Own.blkAt {w : World} {p : Option Addr} {n c T sz : Nat} {xs : List Value} (h : Own w p n c T sz xs) {x : Nat} (hx : OwnB p x) : ∃ l, Blk w x T l := by
  rcases h with ⟨hp, _⟩ | ⟨b, l, hp, hb, _⟩
  · rw [hp] at hx; cases hx
  · rw [hp] at hx
    obtain rfl : b = x := by simpa using hx
    exact ⟨l, hb⟩
theorem Own.neTy {w : World} {p : Option Addr} {n c T sz : Nat} {xs : List Value} (h : Own w p n c T sz xs) {x b U : Nat} {m : List Value} (hx : OwnB p x) (hb : Blk w b U m) (hT : T ≠ U) : x ≠ b := by
  obtain ⟨l, hl⟩ := h.blkAt hx
  exact hl.ne hb hT
theorem Own.extTy {w w' : World} {p : Option Addr} {n c T sz : Nat} {xs : List Value} (h : Own w p n c T sz xs) {b U : Nat} {m : List Value} (hE : Ext (One b) w w') (hb : Blk w b U m) (hT : T ≠ U) : Own w' p n c T sz xs :=
  h.ext hE fun _ hx e => h.neTy hx hb hT e
theorem Blk.extOwn {w w' : World} {p : Option Addr} {n c T sz : Nat} {xs : List Value} {b U : Nat} {m : List Value} (hb : Blk w b U m) (h : Own w p n c T sz xs) (hE : Ext (OwnB p) w w') (hT : T ≠ U) : Blk w' b U m :=
  hb.ext hE fun hx => h.neTy hx hb hT rfl
theorem Sl.lt {w : World} {p : Option Addr} {n sz : Nat} {xs : List Value} (h : Sl w p n sz xs) {b off : Nat} (hp : p = some ⟨b, off, none⟩) (hx : xs ≠ []) : b < w.heap.size := by
  obtain ⟨hl, h0 | ⟨b', off', hp', hs⟩⟩ := h
  · subst h0
    rw [Nat.zero_mul] at hl
    exact absurd (List.eq_nil_of_length_eq_zero hl) hx
  · rw [hp] at hp'
    cases hp'
    exact hs.lt hx
/-- a row that lies below, over what was not there -/
theorem Sl.extLt {S : Nat → Prop} {w w' : World} {p : Option Addr} {n sz : Nat} {xs : List Value} (h : Sl w p n sz xs) (hE : Ext S w w') (hS : ∀ x, x < w.heap.size → ¬ S x) : Sl w' p n sz xs := by
  refine ⟨h.1, ?_⟩
  rcases h.2 with h0 | ⟨b, off, hp, hs⟩
  · exact .inl h0
  · refine .inr ⟨b, off, hp, fun i v hi => ?_⟩
    have hlt : b < w.heap.size := hs.lt fun e => by rw [e] at hi; cases hi
    exact hs.ext hE (hS b hlt) i v hi
theorem Seg.one {w : World} {b off : Nat} {v : Value} (h : w.cell? ⟨b, off, none⟩ = some v) : Seg w b off [v] := fun i u hi => by
  cases i with
  | zero => cases hi; exact h
  | succ i => cases hi
instance {α : Type} (l : List α) (f : α → List Value) [∀ x, OneC (f x)] : OneC (l.flatMap f) := ⟨fun u hu => by
  obtain ⟨r, _, hr⟩ := List.mem_flatMap.1 hu
  exact OneC.h u hr⟩
end Go.Vc
namespace Go.Proofs.YtpcdihkcenfgkaaGreat
open Go.Vc
def leafRow (x : LeafD) : RowD := ⟨x.path, []⟩
theorem leafRows_ok {l : List LeafD} : RowsOk (l.map leafRow) ↔ Rises (l.map LeafD.path) := by
  have e : (l.map leafRow).map RowD.path = l.map LeafD.path := by rw [List.map_map]; rfl
  rw [RowsOk, e]
  refine ⟨fun h => h.2, fun h => ⟨fun ⟨r, hr, ht⟩ => ?_, h⟩⟩
  obtain ⟨x, _, rfl⟩ := List.mem_map.1 hr
  exact absurd ht (by simp [leafRow])
def leafRows (l : List LeafD) : List Value := (l.map leafRow).flatMap RowD.cells
theorem leafRows_take (l : List LeafD) {i : Nat} (h : i < l.length) : leafRows (l.take (i + 1)) = leafRows (l.take i) ++ (leafRow l[i]).cells := by
  rw [leafRows, List.take_succ_eq_append_getElem h, List.map_append, List.flatMap_append]
  simp [leafRows]
theorem maxLen_big : 1000000000 ≤ maxLen := by decide
theorem leaved1_calls (w : World) (r : LeafD) (hr : r.cells.length = 33) :
    CallsV Tryz.prog 129 [.agg r.cells.toArray] w fun v w' => v = .bool (decide (r.id = idZ)) ∧ Ext No w w' := by
  have hi : IdIn r.id := by have := hr; simp only [LeafD.cells, List.length_cons, bytesU_len] at this; exact Nat.succ.inj this
  refine calls_enter Tryz.func129 rfl rfl rfl rfl ?_
  have hX := Ext.refl No w
  refine c_seq (c_region (wl (st_al I_ok rfl fun b1 w1 hn1 hb1 hE1 => ?_)))
  have hX := hX.thenNo hE1
  have hb1 : Blk w1 b1 50 (r.cells) := hb1
  refine wl_p I_ok rfl (wl_nil (f_then (c_seq (c_region (wl_p I_ok rfl (wl (st_ldN I_ok rfl (by have := hb1.seg.drop 1; exact this) hi.len (wl (st_bd I_ok rfl trivial (l' := bytesU idZ) idZ_c.symm ?_)))))))))
  refine wl (st_eqK rfl gId 10 (by decide) kId (idForm hi) (idForm idZ_in) (idKey hi) (idKey idZ_in) idLits_inj ?_)
  simp only [if_true]
  refine wl_p I_ok rfl (wl_nil (f_then (c_ret (f_ret1 rfl rfl ?_))))
  exact ⟨rfl, hX⟩

theorem leaved_calls (w : World) {p : Option Addr} {c : Nat} {l : List LeafD} (h : Sl w p l.length 33 (l.flatMap LeafD.cells)) (hl : l.length < 1000000000) (h1 : ∀ r ∈ l, LeafIn r) (h2 : ∀ r ∈ l, r.path.length < 1000000000) :
    CallsV Tryz.prog 107 [.slice p l.length c] w fun v w' => v = .bool (decide (Leaved l)) ∧ Ext No w w' := by
  refine calls_enter Tryz.func107 rfl rfl rfl rfl ?_
  have hX := Ext.refl No w
  refine c_seq (c_region (wl_p I_ok rfl (wl_nil (f_then (c_seq (c_region (wl (st_al I_ok rfl fun b3 w1 hn3 hb3 hE1 => ?_))))))))
  have fr3 := Nat.le_trans hX.size hn3
  have hX := hX.thenNo hE1
  have hb3 : Blk w1 b3 76 ([.slice none 0 0]) := hb3
  refine wl_nil (f_then (c_seq (c_seq (c_region (wl_p I_ok rfl (wl_nil (f_then (c_block ?_))))))))
  refine c_loopK (α := Nat × Option Addr × Nat) [0, 3, 6, 7] rfl (fun z => [(8, .int .i64 (z.1 : Int))]) (fun z u => (z.1 ≤ l.length ∧ Own u z.2.1 z.1 z.2.2 73 2 (leafRows (l.take z.1)) ∧ (∀ x, OwnB z.2.1 x → w.heap.size ≤ x)) ∧ Blk u b3 76 ([.slice z.2.1 z.1 z.2.2]) ∧ Ext No w u) (fun z u => l.length - z.1) (0, none, 0) rfl ⟨⟨Nat.zero_le _, Own.nil _ _ _, fun x hx => by cases hx⟩, hb3, hX⟩ ?_
  rintro ⟨i, q, k⟩ w2 ⟨⟨hi, hq, hqn⟩, hb3, hX⟩
  try dsimp only
  dsimp only at hi hq hqn hb3
  refine c_seq (c_region (wl_p I_ok rfl (wl_nil (f_then (c_seq (c_if rfl (fun hc => ?_) (fun hc => ?_)))))))
  · have hi : i < l.length := by omega
    obtain ⟨b, off, rfl, hseg⟩ := h.rowAll (fun r hr => LeafD.len (h1 r hr).2) (by omega)
    have ha1 := h1 _ (List.getElem_mem hi)
    refine c_skip (f_then (c_seq (c_block (c_seq (c_region (wl (st_ix I_ok rfl 33 rfl i rfl (by omega) (off + i * 33) rfl (wl (st_ldN I_ok rfl ((hseg i hi).extNo hX) (LeafD.len ha1.2) (wl (st_al I_ok rfl fun b5 w3 hn5 hb5 hE3 => ?_)))))))))))
    have ne3_5 : b3 ≠ b5 := Nat.ne_of_lt (Nat.lt_of_lt_of_le hb3.lt hn5)
    have fr5 := Nat.le_trans hX.size hn5
    have hb3 := hb3.extNo hE3
    have hq := hq.ext hE3 fun _ _ => id
    have hX := hX.thenNo hE3
    have hb5o := hb5
    refine wl (st_stW (l' := (l[i]).cells) I_ok hb5 rfl rfl (LeafD.len ha1.2) (LeafD.len ha1.2) OneC.h fun w4 hb5 hE4 hs4 => ?_)
    have hb3 := hb3.ext1 hE4 ne3_5
    have hq := hq.extTy hE4 hb5o (by decide)
    have hX := hX.thenNew hE4 fr5
    refine wl_nil (f_then (c_region (wl_p I_ok rfl (wl (st_ldb I_ok hb3 rfl rfl (wl_p I_ok rfl (wl (st_ldb I_ok hb5 rfl rfl (wl (st_bd I_ok rfl ⟨⟨rfl, by decide⟩, trivial⟩ (l' := (leafRow l[i]).cells) rfl ?_))))))))))
    refine wl (st_bs I_ok rfl 2 rfl rfl rfl (by decide) (by decide) ⟨⟨rfl, by decide⟩, trivial⟩ (l' := (leafRow l[i]).cells) rfl fun b17 w5 hn17 hb17 hE5 hs5 => ?_)
    have hb3 := hb3.extNo hE5
    have hq := hq.ext hE5 fun _ _ => id
    have hX := hX.thenNo hE5
    have hX1 := hX
    refine wl (st_app I_ok rfl 2 32 rfl rfl rfl (by decide) hq (Src.slice (m := 1) ⟨rfl, .inr ⟨b17, 0, rfl, hb17.seg⟩⟩ OneC.h) (by dsimp only [maxLen]; omega) (by dsimp only; omega) fun p6 c6 w6 ho6 hE6 hB6 => ?_)
    have hX := hX1.trans hE6 fun y hy hF => by have := hqn y hF; omega
    have hb3 := hb3.extOwn hq hE6 (by decide)
    have hqn2 : ∀ x, OwnB p6 x → w.heap.size ≤ x := fun x hx => (hB6 x hx).elim (fun h => hqn x h) fun h => Nat.le_trans hX1.size h
    obtain ⟨q2, k2, hq2, hb2, hn2⟩ : ∃ q2 k2, q2 = p6 ∧ k2 = c6 ∧ Own w6 q2 (i + 1) k2 73 2 (leafRows (l.take (i + 1))) := ⟨_, _, rfl, rfl, by rw [leafRows_take _ hi]; exact ho6⟩
    rw [← hq2] at hqn2
    rw [← hq2, ← hb2]
    have hb3o := hb3
    refine wl_p I_ok rfl (wl (st_st I_ok hb3 rfl rfl rfl fun w7 hb3 hE7 hs7 => ?_))
    have hn2 := hn2.extTy hE7 hb3o (by decide)
    have hX := hX.thenNew hE7 fr3
    refine wl_nil (f_blockN (f_then (c_region (wl_p I_ok rfl ?_))))
    rw [IntWalk.i64_in _ (by omega)]
    refine wl_nil ?_
    exact f_round (i + 1, q2, k2) rfl ⟨⟨hi, hn2, hqn2⟩, hb3, hX⟩ (by first | omega | (dsimp only; omega))
  · have h0 : i = l.length := by omega
    subst h0
    rw [List.take_length] at hq
    refine c_exit (f_thenE (f_thenE (f_blockE (f_then (c_cutK (α := Bool) [] rfl (fun z => [(2, .bool z)]) (fun z u => (z = decide (Leaved l)) ∧ Ext No w u) ?_ ?_)))))
    · refine c_region ?_
      refine wl (st_ldB I_ok hb3 rfl rfl ?_)
      rw [show Value.slice q l.length k = .slice q (l.map leafRow).length k from by rw [List.length_map]]
      refine wl (st_call Tryz.call127 rfl rfl rfl rfl rfl rfl (check_calls w2 (c := k) (l := l.map leafRow) (by have := hq.sl; rw [List.length_map]; exact this) (by rw [List.length_map]; exact hl) (fun r hr => by obtain ⟨x, hx, rfl⟩ := List.mem_map.1 hr; exact h2 x hx)) fun v8 w8 hr8 => ?_)
      obtain ⟨rfl, hE8⟩ := hr8
      have hX := hX.thenNo hE8
      refine wl_p I_ok rfl (wl_caseD 24 rfl (fun hg => ?_) (fun hg => ?_))
      · have hr := leafRows_ok.1 (show RowsOk (l.map leafRow) from by by_cases h : RowsOk (l.map leafRow); exact h; rw [if_neg h] at hg; exact absurd hg (by decide))
        refine wl_pk I_ok 1 rfl ?_
        refine wl (st_call Tryz.call128 rfl rfl rfl rfl rfl rfl (containsFuncLeaf_calls w8 (fun r hr => LeafD.len (h1 r hr).2) (h.extNo hX) hl (fun r => r.id = idZ) Tryz.call129 fun w r hr => leaved1_calls w r hr) fun v9 w9 hr9 => ?_)
        obtain ⟨rfl, hE9⟩ := hr9
        have hX := hX.thenNo hE9
        refine wl_pk I_ok 3 rfl (wl_nil ?_)
        exact f_cut (_) rfl ⟨by rw [← decide_not, decide_eq_decide]; exact ⟨fun h => ⟨hr, fun x hx e => h ⟨x, hx, e⟩⟩, fun h ⟨x, hx, e⟩ => h.2 x hx e⟩, hX⟩
      · have hr : ¬ Rises (l.map LeafD.path) := fun h => hg (if_pos (leafRows_ok.2 h))
        refine wl_pk I_ok 5 rfl (wl_nil ?_)
        exact f_cut (false) rfl ⟨by symm; rw [decide_eq_false_iff_not]; exact fun h => hr h.1, hX⟩
    rintro z w10 ⟨rfl, hX⟩
    refine c_ret (f_ret1 rfl rfl ?_)
    exact ⟨rfl, hX⟩
theorem if_zero {p : Prop} [Decidable p] {n : Int} (hn : n ≠ 0) : (if p then 0 else n) = 0 ↔ p := by
  by_cases h : p
  · simp [h]
  · simp [h, hn]
theorem fields1 {o : ObjD} (h : o.kind = 1) : FieldsOk o ↔ BlobOk o := by
  constructor
  · rintro (h1 | h1 | h1)
    · exact h1.2
    · exact absurd (h.symm.trans h1.1) (by decide)
    · exact absurd (h.symm.trans h1.1) (by decide)
  · exact fun h1 => .inl ⟨h, h1⟩
theorem fields2 {o : ObjD} (h : o.kind = 2) : FieldsOk o ↔ TreeOk o := by
  constructor
  · rintro (h1 | h1 | h1)
    · exact absurd (h.symm.trans h1.1) (by decide)
    · exact h1.2
    · exact absurd (h.symm.trans h1.1) (by decide)
  · exact fun h1 => .inr (.inl ⟨h, h1⟩)
theorem fields3 {o : ObjD} (h : o.kind = 3) : FieldsOk o ↔ ComOk o := by
  constructor
  · rintro (h1 | h1 | h1)
    · exact absurd (h.symm.trans h1.1) (by decide)
    · exact absurd (h.symm.trans h1.1) (by decide)
    · exact h1.2
  · exact fun h1 => .inr (.inr ⟨h, h1⟩)
theorem fields0 {o : ObjD} (h1 : ¬ o.kind = 1) (h2 : ¬ o.kind = 2) (h3 : ¬ o.kind = 3) : ¬ FieldsOk o := fun h => h.elim (fun h => h1 h.1) fun h => h.elim (fun h => h2 h.1) fun h => h3 h.1
theorem fielded_calls (w : World) {x : ObjD} {a : ObjP} (hx : ObjIn x) (hxl : ObjL w x a) (hsx : Short x) :
    CallsV Tryz.prog 85 [.agg (objC x a).toArray] w fun v w' => v = .bool (decide (FieldsOk x)) ∧ Ext No w w' := by
  have hs : (strU x.text).size = x.text.length := rfl
  have hsn : (strU x.note).size = x.note.length := rfl
  have hy1 : ObjIn { x with kind := 0, text := [] } := ⟨hx.tree, hx.base, hx.parents, hx.leaves, hx.rows, hx.number, hx.author⟩
  have hs1 : Short { x with kind := 0, text := [] } := ⟨hsx.leaves, hsx.parents, hsx.rows, hsx.leafP, hsx.rowP⟩
  have hl1 : ObjL w { x with kind := 0, text := [] } a := ⟨hxl.leaves, hxl.parents, hxl.rows⟩
  have hy2 : ObjIn { x with kind := 0, leaves := [] } := ⟨hx.tree, hx.base, hx.parents, fun _ h => absurd h List.not_mem_nil, hx.rows, hx.number, hx.author⟩
  have hs2 : Short { x with kind := 0, leaves := [] } := ⟨(by decide : (0 : Nat) < 1000000000), hsx.parents, hsx.rows, fun _ h => absurd h List.not_mem_nil, hsx.rowP⟩
  have hl2 : ObjL w { x with kind := 0, leaves := [] } ⟨none, 0, a.pp, a.pc, a.rp, a.rc⟩ := ⟨Sl.nil _ _ _, hxl.parents, hxl.rows⟩
  refine calls_enter Tryz.func85 rfl rfl rfl rfl ?_
  have hX := Ext.refl No w
  refine c_seq (c_region (wl (st_al I_ok rfl fun b1 w1 hn1 hb1 hE1 => ?_)))
  have hX := hX.thenNo hE1
  have hb1 : Blk w1 b1 48 (objC x a) := hb1
  refine wl_p I_ok rfl (wl_nil (f_then (c_seq (c_region (wl (st_ldB I_ok hb1 rfl (objC_len hx) (wl (st_al I_ok rfl fun b3 w2 hn3 hb3 hE2 => ?_))))))))
  have ne1_3 : b1 ≠ b3 := Nat.ne_of_lt (Nat.lt_of_lt_of_le hb1.lt hn3)
  have fr3 := Nat.le_trans hX.size hn3
  have hb1 := hb1.extNo hE2
  have hX := hX.thenNo hE2
  refine wl (st_stW (l' := objC x a) I_ok hb3 rfl rfl (objC_len hx) (objC_len hx) OneC.h fun w3 hb3 hE3 hs3 => ?_)
  have hb1 := hb1.ext1 hE3 ne1_3
  have hX := hX.thenNew hE3 fr3
  refine wl_nil (f_then (c_seq (c_region (wl_p I_ok rfl (wl (st_st I_ok hb3 rfl rfl rfl fun w4 hb3 hE4 hs4 => ?_))))))
  have hb1 := hb1.ext1 hE4 ne1_3
  have hX := hX.thenNew hE4 fr3
  have hb3 : Blk w4 b3 48 (objC { x with kind := 0 } a) := hb3
  have oa := hb1.seg.obj hx
  refine wl_nil (f_then (c_seq (c_region (wl_p I_ok rfl (wl_nil (f_then (c_cutK (α := Bool) [] rfl (fun z => [(4, .bool z)]) (fun z u => (z = decide (FieldsOk x)) ∧ Ext No w u) ?_ ?_)))))))
  · refine c_seq ?_
    refine c_region (wl_p I_ok rfl (wl (st_ld I_ok rfl oa.kind (wl_nil (f_then (c_block (c_seq (c_region (wl_p I_ok rfl (wl_nil (f_then (c_if rfl (fun hc => ?_) (fun hc => ?_)))))))))))))
    · have h1 : x.kind = 1 := hc
      refine c_seq (c_region (wl_p I_ok rfl (wl (st_st I_ok hb3 rfl rfl rfl fun w5 hb3 hE5 hs5 => ?_))))
      have hb1 := hb1.ext1 hE5 ne1_3
      have oa := (hb1.seg.obj hx)
      have hX := hX.thenNew hE5 fr3
      have hb3 : Blk w5 b3 48 (objC { x with kind := 0, text := [] } a) := hb3
      refine wl_nil (f_then (c_region (wl_p I_ok rfl (wl (st_ld I_ok rfl oa.text (wl_p I_ok rfl (wl_caseD 16 rfl (fun hg => ?_) (fun hg => ?_))))))))
      · refine wl (st_ldB I_ok hb3 rfl (objC_len hy1) ?_)
        refine wl (st_call Tryz.call106 rfl rfl rfl rfl rfl rfl (zeroObj_calls w5 hy1 (hl1.extNo hX) hs1) fun v6 w6 hr6 => ?_)
        obtain ⟨rfl, hE6⟩ := hr6
        have hX := hX.thenNo hE6
        refine wl_p I_ok rfl (wl_nil ?_)
        exact f_blockN (f_cut (_) rfl ⟨by rw [decide_eq_decide, fields1 h1, blob_zero]; exact ⟨fun h => ⟨by omega, h⟩, fun h => h.2⟩, hX⟩)
      · refine wl_pk I_ok 4 rfl ?_
        refine wl_nil ?_
        exact f_blockN (f_cut (false) rfl ⟨by symm; rw [decide_eq_false_iff_not, fields1 h1]; exact fun h => absurd h.1 (by omega), hX⟩)
    · have h1 : ¬ x.kind = 1 := hc
      refine c_seq (c_region (wl_p I_ok rfl (wl_nil (f_then (c_if rfl (fun hc => ?_) (fun hc => ?_))))))
      · have h2 : x.kind = 2 := hc
        refine c_seq (c_region (wl_p I_ok rfl (wl (st_st I_ok hb3 rfl rfl rfl fun w7 hb3 hE7 hs7 => ?_))))
        have hb1 := hb1.ext1 hE7 ne1_3
        have oa := (hb1.seg.obj hx)
        have hX := hX.thenNew hE7 fr3
        have hb3 : Blk w7 b3 48 (objC { x with kind := 0, leaves := [] } ⟨none, 0, a.pp, a.pc, a.rp, a.rc⟩) := hb3
        refine wl_nil (f_then (c_region (wl_p I_ok rfl (wl (st_ld I_ok rfl oa.leaves (wl (st_call Tryz.call107 rfl rfl rfl rfl rfl rfl (leaved_calls w7 (hxl.leaves.extNo hX) hsx.leaves hx.leaves hsx.leafP) fun v8 w8 hr8 => ?_)))))))
        obtain ⟨rfl, hE8⟩ := hr8
        have hb3 := hb3.extNo hE8
        have hX := hX.thenNo hE8
        refine wl_p I_ok rfl (wl_caseD 26 rfl (fun hg => ?_) (fun hg => ?_))
        · have hlv := hg
          refine wl (st_ldB I_ok hb3 rfl (objC_len hy2) (wl (st_call Tryz.call106 rfl rfl rfl rfl rfl rfl (zeroObj_calls w8 hy2 (hl2.extNo hX) hs2) fun v9 w9 hr9 => ?_)))
          obtain ⟨rfl, hE9⟩ := hr9
          have hX := hX.thenNo hE9
          refine wl_p I_ok rfl (wl_nil ?_)
          exact f_blockN (f_cut (_) rfl ⟨by rw [decide_eq_decide, fields2 h2, tree_zero]; exact ⟨fun h => ⟨hlv, h⟩, fun h => h.2⟩, hX⟩)
        · have hlv := hg
          refine wl_pk I_ok 4 rfl (wl_nil ?_)
          exact f_blockN (f_cut (false) rfl ⟨by symm; rw [decide_eq_false_iff_not, fields2 h2]; exact fun h => hlv h.1, hX⟩)
      · have h2 : ¬ x.kind = 2 := hc
        refine c_seq (c_region (wl_p I_ok rfl (wl_nil (f_then (c_if rfl (fun hc => ?_) (fun hc => ?_))))))
        · have h3 : x.kind = 3 := hc
          refine c_region (wl_p I_ok rfl (wl (st_ld I_ok rfl oa.text (wl_p I_ok rfl (wl_caseD 35 rfl (fun hg => ?_) (fun hg => ?_))))))
          · have e1 : x.text = [] := strU_inj (b := []) hg
            refine wl_pk I_ok 1 rfl (wl (st_ld I_ok rfl oa.leaves (wl_pk I_ok 4 rfl (wl_caseD 41 rfl (fun hg => ?_) (fun hg => ?_)))))
            · refine wl_pk I_ok 1 rfl ?_
              refine wl (st_ld I_ok rfl oa.note (wl_pk I_ok 4 rfl (wl_caseD 47 rfl (fun hg => ?_) (fun hg => ?_))))
              · refine wl_pk I_ok 1 rfl ?_
                refine wl (st_ldN I_ok rfl (Seg.one oa.rows) rfl (wl (st_call Tryz.call108 rfl rfl rfl rfl rfl rfl (checkEdit_calls w4 (hxl.rows.extNo hX) hsx.rows hsx.rowP) fun v10 w10 hr10 => ?_)))
                obtain ⟨rfl, hE10⟩ := hr10
                have hb1 := hb1.extNo hE10
                have hX := hX.thenNo hE10
                refine wl_pk I_ok 3 rfl (wl_caseD 53 rfl (fun hg => ?_) (fun hg => ?_))
                · have e6 : EditOk x.rows := (if_zero (by decide)).1 hg
                  refine wl (st_ldB I_ok hb1 rfl (objC_len hx) (wl (st_call Tryz.call109 rfl rfl rfl rfl rfl rfl (styledObj_calls w10 hx (hxl.extNo hX) hsx) fun v11 w11 hr11 => ?_)))
                  obtain ⟨rfl, hE11⟩ := hr11
                  have hX := hX.thenNo hE11
                  refine wl_p I_ok rfl (wl_nil ?_)
                  exact f_blockN (f_cut (_) rfl ⟨by rw [decide_eq_decide, fields3 h3]; exact ⟨fun h => ⟨e1, by omega, by omega, e6, h⟩, fun h => h.2.2.2.2⟩, hX⟩)
                · have e6 : ¬ EditOk x.rows := fun h => hg (if_pos h)
                  refine wl_pk I_ok 4 rfl (wl_nil ?_)
                  exact f_blockN (f_cut (false) rfl ⟨by symm; rw [decide_eq_false_iff_not, fields3 h3]; exact fun h => e6 h.2.2.2.1, hX⟩)
              · refine wl_pk I_ok 10 rfl ?_
                refine wl_nil ?_
                exact f_blockN (f_cut (false) rfl ⟨by symm; rw [decide_eq_false_iff_not, fields3 h3]; exact fun h => absurd h.2.2.1 (by omega), hX⟩)
            · refine wl_pk I_ok 16 rfl ?_
              refine wl_nil ?_
              exact f_blockN (f_cut (false) rfl ⟨by symm; rw [decide_eq_false_iff_not, fields3 h3]; exact fun h => absurd h.2.1 (by omega), hX⟩)
          · have e1 : ¬ x.text = [] := fun e => hg (by rw [e]; rfl)
            refine wl_pk I_ok 22 rfl (wl_nil ?_)
            exact f_blockN (f_cut (false) rfl ⟨by symm; rw [decide_eq_false_iff_not, fields3 h3]; exact fun h => e1 h.1, hX⟩)
        · have h3 : ¬ x.kind = 3 := hc
          refine c_skip ?_
          exact f_blockN (f_cut (false) rfl ⟨(decide_eq_false (fields0 h1 h2 h3)).symm, hX⟩)
  rintro z w12 ⟨rfl, hX⟩
  refine c_seq (c_region (wl_p I_ok rfl (wl_nil (f_then (c_ret (f_ret1 rfl rfl ?_))))))
  exact ⟨rfl, hX⟩
end Go.Proofs.YtpcdihkcenfgkaaGreat
namespace Go.Proofs.YtpcdihkcenfgkaaGreat
open Go.Vc
/-- a writer, and where its bytes lie -/
def Wr (w : World) (b : Nat) (p : Option Addr) (l : List UInt8) : Prop :=
  ∃ c, Blk w b 167 [.slice p l.length c] ∧ Own w p l.length c 5 1 (bytesU l)
abbrev WrF (b : Nat) (p : Option Addr) : Nat → Prop := fun x => x = b ∨ OwnB p x
theorem _root_.Go.Vc.Blk.keepW {w w' : World} {b : Nat} {p : Option Addr} {l : List UInt8} {x T : Nat} {L : List Value} (hb : Blk w x T L) (h : Wr w b p l) (hE : Ext (WrF b p) w w') (h1 : 167 ≠ T) (h2 : 5 ≠ T) : Blk w' x T L := by
  obtain ⟨c, hw, ho⟩ := h
  exact hb.ext hE fun hF => hF.elim (fun e => hw.ne hb h1 e.symm) fun hx => ho.neTy hx hb h2 rfl
theorem _root_.Go.Vc.Ext.thenW {w0 w w' : World} {b : Nat} {p : Option Addr} (hX : Ext No w0 w) (hE : Ext (WrF b p) w w') (h1 : w0.heap.size ≤ b) (h2 : ∀ x, OwnB p x → w0.heap.size ≤ x) : Ext No w0 w' :=
  hX.trans hE fun y hy hF => hF.elim (fun e => by omega) fun h => by have := h2 y h; omega
theorem newW {w0 w : World} {p p' : Option Addr} (hX : Ext No w0 w) (h2 : ∀ x, OwnB p x → w0.heap.size ≤ x) (h3 : ∀ x, OwnB p' x → OwnB p x ∨ w.heap.size ≤ x) : ∀ x, OwnB p' x → w0.heap.size ≤ x :=
  fun x hx => (h3 x hx).elim (fun h => h2 x h) fun h => Nat.le_trans hX.size h
theorem small_calls (w : World) {b : Nat} {p : Option Addr} {l : List UInt8} (h : Wr w b p l) (s : Str) (hl : l.length + s.length < 900000000) :
    CallsV Tryz.prog 111 [.pointer (some ⟨b, 0, none⟩), strV s] w fun v w' => v = .tuple #[] ∧ ∃ p', Wr w' b p' (l ++ strB 1 s) ∧ (∀ x, OwnB p' x → OwnB p x ∨ w.heap.size ≤ x) ∧ Ext (WrF b p) w w' := by
  obtain ⟨c, hwb, hwo⟩ := h
  have hsz : (strU s).size = s.length := rfl
  refine calls_enter Tryz.func111 rfl rfl rfl rfl ?_
  have hX := Ext.refl (WrF b p) w
  refine c_region (wl_p I_ok rfl (wl (st_ld I_ok rfl (hwb.cell rfl) (wl_p I_ok rfl ?_))))
  rw [wrap_byte]
  refine wl (st_bs I_ok rfl 1 rfl rfl rfl (by decide) (by decide) (by simp [partsOk]) (l' := bytesU [UInt8.ofNat s.length]) rfl fun b12 w1 hn12 hb12 hE1 hs1 => ?_)
  have hX := hX.thenNo hE1
  have hwb := hwb.extNo hE1
  have hwo := hwo.ext hE1 fun _ _ => id
  have hX0 := hX
  refine wl (st_app I_ok rfl 1 1 rfl rfl rfl (by decide) hwo (Src.slice (m := 1) ⟨rfl, .inr ⟨b12, 0, rfl, hb12.seg⟩⟩ OneC.h) (by dsimp only [maxLen]; omega) (by dsimp only; omega) fun p2 c2 w2 ho2 hE2 hB2 => ?_)
  dsimp only at ho2 hE2 hB2 ⊢
  have hX := hX.trans hE2 fun y hy hF => .inr hF
  have hwb := hwb.extOwn hwo hE2 (show (5 : Nat) ≠ 167 from by decide)
  obtain ⟨q1, k1, e1, e2⟩ : ∃ q1 k1, q1 = p2 ∧ k1 = c2 := ⟨_, _, rfl, rfl⟩
  rw [← e1, ← e2] at ho2
  rw [← e1] at hB2
  rw [← e1, ← e2]
  have ho1 := ho2
  have hn1 := hB2
  have hn1 : ∀ x, OwnB q1 x → OwnB p x ∨ w.heap.size ≤ x := fun x hx => (hn1 x hx).elim .inl fun h => .inr (Nat.le_trans hX0.size h)
  refine wl_p I_ok rfl ?_
  have hX2 := hX
  refine wl (st_app I_ok rfl 1 1 rfl rfl rfl (by decide) ho1 Src.string (by dsimp only [maxLen]; omega) (by dsimp only; omega) fun p3 c3 w3 ho3 hE3 hB3 => ?_)
  dsimp only at ho3 hE3 hB3 ⊢
  have hX := hX.trans hE3 fun y hy hF => (hn1 y hF).elim .inr fun h => absurd hy (by omega)
  have hwb := hwb.extOwn ho1 hE3 (show (5 : Nat) ≠ 167 from by decide)
  have hn2 : ∀ x, OwnB p3 x → OwnB p x ∨ w.heap.size ≤ x := fun x hx => (hB3 x hx).elim (fun h => hn1 x h) fun h => .inr (Nat.le_trans hX2.size h)
  have e3 : l.length + 1 + (strU s).size = (l ++ strB 1 s).length := by simp [strB, be]; omega
  have ho2 : Own w3 p3 (l ++ strB 1 s).length c3 5 1 (bytesU (l ++ strB 1 s)) := by
    have e4 : l ++ strB 1 s = l ++ [UInt8.ofNat s.length] ++ s := by simp [strB, be]
    rw [← e3, e4, bytesU_append, bytesU_append]
    exact ho3
  rw [e3]
  refine wl_p I_ok rfl (wl (st_st I_ok hwb rfl rfl rfl fun w4 hwb2 hE4 hs4 => ?_))
  have ho3 := ho2.extTy hE4 hwb (by decide)
  have hX := hX.trans hE4 fun y hy hF => .inl hF
  refine wl_nil (f_end0 rfl ?_)
  exact ⟨rfl, _, ⟨_, hwb2, ho3⟩, hn2, hX⟩

theorem text_calls (w : World) {b : Nat} {p : Option Addr} {l : List UInt8} (h : Wr w b p l) (s : Str) (hl : l.length < 900000000) (hs : s.length < 65536) :
    CallsV Tryz.prog 110 [.pointer (some ⟨b, 0, none⟩), strV s] w fun v w' => v = .tuple #[] ∧ ∃ p', Wr w' b p' (l ++ strB 2 s) ∧ (∀ x, OwnB p' x → OwnB p x ∨ w.heap.size ≤ x) ∧ Ext (WrF b p) w w' := by
  obtain ⟨c, hwb, hwo⟩ := h
  have hsz : (strU s).size = s.length := rfl
  refine calls_enter Tryz.func110 rfl rfl rfl rfl ?_
  have hX := Ext.refl (WrF b p) w
  refine c_region (wl_p I_ok rfl (wl (st_ld I_ok rfl (hwb.cell rfl) (wl_p I_ok rfl ?_))))
  rw [IntWalk.u16_in _ (by omega)]
  refine wl (st_call Tryz.call134 rfl rfl rfl rfl rfl rfl (put16_calls w hwo.sl (by omega) s.length hs) fun v1 w1 hr1 => ?_)
  obtain ⟨bp, rfl, hnp, hbp, hE1⟩ := hr1
  have hX := hX.thenNo hE1
  have hwb := hwb.extNo hE1
  have hX0 := hX
  have hbl : (bytesU (l ++ be 2 s.length)).length = (l ++ be 2 s.length).length * 1 := by rw [bytesU_len, Nat.mul_one]
  refine wl_p I_ok rfl ?_
  refine wl (st_app I_ok rfl 1 1 rfl rfl rfl (by decide) (Own.blk (n := (l ++ be 2 s.length).length) (c := (l ++ be 2 s.length).length) hbp 1 hbl (Nat.le_refl _) (by rw [List.length_append, be_len]; dsimp only [maxLen]; omega)) Src.string (by rw [List.length_append, be_len]; dsimp only [maxLen]; omega) (by dsimp only; rw [List.length_append, be_len]; omega) fun p2 c2 w2 ho2 hE2 hB2 => ?_)
  dsimp only at ho2 hE2 hB2 ⊢
  have hX := hX.trans hE2 fun y hy hF => by have e : bp = y := congrArg Addr.block (Option.some.inj hF); omega
  have hwbo := hwb
  have hwb := hwb.extOwn (Own.blk (n := 0) (c := (l ++ be 2 s.length).length) hbp 1 hbl (Nat.zero_le _) (by rw [List.length_append, be_len]; dsimp only [maxLen]; omega)) hE2 (show (5 : Nat) ≠ 167 from by decide)
  have hn2 : ∀ x, OwnB p2 x → OwnB p x ∨ w.heap.size ≤ x := fun x hx => (hB2 x hx).elim (fun hF => by have e : bp = x := congrArg Addr.block (Option.some.inj hF); exact .inr (by omega)) fun h => .inr (Nat.le_trans hX0.size h)
  have e3 : (l ++ be 2 s.length).length + (strU s).size = (l ++ strB 2 s).length := by simp only [strB, List.length_append, hsz]; omega
  have ho2 : Own w2 p2 (l ++ strB 2 s).length c2 5 1 (bytesU (l ++ strB 2 s)) := by
    have e4 : bytesU (l ++ strB 2 s) = bytesU (l ++ be 2 s.length) ++ bytesU s := by rw [strB, ← List.append_assoc, bytesU_append]
    have e5 : (bytesU (l ++ be 2 s.length)).take ((l ++ be 2 s.length).length * 1) = bytesU (l ++ be 2 s.length) := List.take_of_length_le (by rw [hbl]; exact Nat.le_refl _)
    rw [← e3, e4]
    rw [e5] at ho2
    exact ho2
  rw [e3]
  refine wl_p I_ok rfl (wl (st_st I_ok hwb rfl rfl rfl fun w3 hwb2 hE3 hs3 => ?_))
  have ho3 := ho2.extTy hE3 hwb (by decide)
  have hX := hX.trans hE3 fun y hy hF => .inl hF
  refine wl_nil (f_end0 rfl ?_)
  exact ⟨rfl, _, ⟨_, hwb2, ho3⟩, hn2, hX⟩
end Go.Proofs.YtpcdihkcenfgkaaGreat
