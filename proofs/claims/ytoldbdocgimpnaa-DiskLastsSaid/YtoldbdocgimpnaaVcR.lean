/-
  Arrays of structs: rows of one length, one behind the other.
-/
import Derived.Test.YtoldbdocgimpnaaVcH
namespace Go.Vc

def Uni (m : Nat) (L : List (List Value)) : Prop := ∀ r ∈ L, r.length = m

theorem Uni.nil (m : Nat) : Uni m [] := fun _ h => by cases h
theorem Uni.cons {m : Nat} {r : List Value} {L : List (List Value)} (h : r.length = m) (k : Uni m L) : Uni m (r :: L) := fun x hx => by
  cases hx with
  | head => exact h
  | tail _ hx => exact k x hx
theorem Uni.append {m : Nat} {L M : List (List Value)} (h : Uni m L) (k : Uni m M) : Uni m (L ++ M) := fun x hx => by
  rcases List.mem_append.1 hx with h' | h'
  · exact h x h'
  · exact k x h'
theorem Uni.set {m : Nat} {L : List (List Value)} (h : Uni m L) (i : Nat) {r : List Value} (hr : r.length = m) : Uni m (L.set i r) := fun x hx => by
  rcases List.mem_or_eq_of_mem_set hx with h' | h'
  · exact h x h'
  · rw [h']; exact hr
theorem Uni.get {m : Nat} {L : List (List Value)} (h : Uni m L) {i : Nat} {r : List Value} (hi : L[i]? = some r) : r.length = m := h r (List.mem_of_getElem? hi)
theorem Uni.drop {m : Nat} {L : List (List Value)} (h : Uni m L) (i : Nat) : Uni m (L.drop i) := fun x hx => h x (List.mem_of_mem_drop hx)
theorem Uni.take {m : Nat} {L : List (List Value)} (h : Uni m L) (i : Nat) : Uni m (L.take i) := fun x hx => h x (List.mem_of_mem_take hx)
theorem Uni.replicate {m : Nat} (n : Nat) {r : List Value} (h : r.length = m) : Uni m (List.replicate n r) := fun x hx => by rw [List.eq_of_mem_replicate hx]; exact h
theorem Uni.map {α : Type} {m : Nat} {f : α → List Value} {l : List α} (h : ∀ x ∈ l, (f x).length = m) : Uni m (l.map f) := fun r hr => by
  obtain ⟨x, hx, rfl⟩ := List.mem_map.1 hr; exact h x hx

theorem rows_length {m : Nat} : ∀ {L : List (List Value)}, Uni m L → L.flatten.length = L.length * m
  | [], _ => by simp
  | r :: L, h => by
    rw [List.flatten_cons, List.length_append, rows_length (fun x hx => h x (List.mem_cons_of_mem _ hx)), h r (List.mem_cons_self), List.length_cons, Nat.add_mul]
    omega
theorem rows_get {m : Nat} : ∀ {L : List (List Value)}, Uni m L → ∀ {i j : Nat} {r : List Value}, L[i]? = some r → j < m → L.flatten[i * m + j]? = r[j]?
  | [], _, i, j, r, hi, _ => by simp at hi
  | r0 :: L, h, 0, j, r, hi, hj => by
    have h0 := h r0 (List.mem_cons_self)
    simp at hi; subst hi
    rw [List.flatten_cons, Nat.zero_mul, Nat.zero_add, List.getElem?_append_left (by omega)]
  | r0 :: L, h, i + 1, j, r, hi, hj => by
    have h0 := h r0 (List.mem_cons_self)
    rw [List.flatten_cons, List.getElem?_append_right (by rw [h0, Nat.add_mul]; omega), h0]
    rw [show (i + 1) * m + j - m = i * m + j from by rw [Nat.add_mul]; omega]
    exact rows_get (fun x hx => h x (List.mem_cons_of_mem _ hx)) (by simpa using hi) hj
theorem rows_drop {m : Nat} : ∀ {L : List (List Value)}, Uni m L → ∀ (i : Nat), L.flatten.drop (i * m) = (L.drop i).flatten
  | [], _, i => by simp
  | r0 :: L, h, 0 => by simp
  | r0 :: L, h, i + 1 => by
    have h0 := h r0 (List.mem_cons_self)
    rw [List.flatten_cons, List.drop_append, List.drop_eq_nil_of_le (by rw [h0, Nat.add_mul]; omega), h0]
    rw [show (i + 1) * m - m = i * m from by rw [Nat.add_mul]; omega]
    simpa using rows_drop (fun x hx => h x (List.mem_cons_of_mem _ hx)) i
theorem rows_take {m : Nat} : ∀ {L : List (List Value)}, Uni m L → ∀ (i : Nat), L.flatten.take (i * m) = (L.take i).flatten
  | [], _, i => by simp
  | r0 :: L, h, 0 => by simp
  | r0 :: L, h, i + 1 => by
    have h0 := h r0 (List.mem_cons_self)
    rw [List.flatten_cons, List.take_append, List.take_of_length_le (by rw [h0, Nat.add_mul]; omega), h0]
    rw [show (i + 1) * m - m = i * m from by rw [Nat.add_mul]; omega, rows_take (fun x hx => h x (List.mem_cons_of_mem _ hx)) i]
    simp
theorem rows_sub {m : Nat} {L : List (List Value)} (h : Uni m L) (i n : Nat) : (L.flatten.drop (i * m)).take (n * m) = ((L.drop i).take n).flatten := by
  rw [rows_drop h, rows_take (h.drop i)]
theorem rows_row {m : Nat} {L : List (List Value)} (h : Uni m L) {i : Nat} {r : List Value} (hi : L[i]? = some r) : (L.flatten.drop (i * m)).take m = r := by
  have := rows_sub h i 1
  rw [Nat.one_mul] at this
  rw [this]
  have hlt : i < L.length := by
    rcases Nat.lt_or_ge i L.length with h' | h'
    · exact h'
    · rw [List.getElem?_eq_none h'] at hi; cases hi
  rw [List.drop_eq_getElem_cons hlt]
  rw [List.getElem?_eq_getElem hlt] at hi
  simp at hi
  simp [hi]
theorem rows_part {m : Nat} {L : List (List Value)} (h : Uni m L) {i j n : Nat} {r : List Value} (hi : L[i]? = some r) (hj : j + n ≤ m) : (L.flatten.drop (i * m + j)).take n = (r.drop j).take n := by
  have h1 := rows_row h hi
  rw [← h1, ← List.drop_drop, List.drop_take, List.take_take, Nat.min_eq_left (by omega)]
theorem rows_put {m : Nat} {L : List (List Value)} (h : Uni m L) {i j : Nat} {r : List Value} (hi : L[i]? = some r) (vs : List Value) (hv : j + vs.length ≤ m) : put L.flatten (i * m + j) vs = (L.set i (put r j vs)).flatten := by
  have hr := h.get hi
  have hlt : i < L.length := by
    rcases Nat.lt_or_ge i L.length with h' | h'
    · exact h'
    · rw [List.getElem?_eq_none h'] at hi; cases hi
  have hri : L[i] = r := by rw [List.getElem?_eq_getElem hlt] at hi; simpa using hi
  have hbound : i * m + j + vs.length ≤ L.flatten.length := by
    rw [rows_length h]
    have : (i + 1) * m ≤ L.length * m := Nat.mul_le_mul_right _ hlt
    rw [Nat.add_mul] at this
    omega
  rw [put_eq _ _ _ hbound, put_eq _ _ _ (by omega)]
  have e1 : L.flatten = (L.take i).flatten ++ (r ++ (L.drop (i + 1)).flatten) := by
    rw [← List.flatten_cons, ← List.flatten_append, ← hri, List.getElem_cons_drop, List.take_append_drop]
  have e2 : (L.set i (r.take j ++ vs ++ r.drop (j + vs.length))).flatten = (L.take i).flatten ++ ((r.take j ++ vs ++ r.drop (j + vs.length)) ++ (L.drop (i + 1)).flatten) := by
    rw [List.set_eq_take_append_cons_drop, if_pos hlt, List.flatten_append, List.flatten_cons]
  have el : (L.take i).flatten.length = i * m := by
    rw [rows_length (h.take i), List.length_take, Nat.min_eq_left (by omega)]
  have key : ∀ (A B : List Value), (A ++ (r ++ B)).take (A.length + j) ++ vs ++ (A ++ (r ++ B)).drop (A.length + j + vs.length) = A ++ ((r.take j ++ vs ++ r.drop (j + vs.length)) ++ B) := fun A B => by
    rw [Nat.add_assoc, List.take_length_add_append, List.drop_length_add_append, List.take_append_of_le_length (by omega), List.drop_append_of_le_length (by omega)]
    simp [List.append_assoc]
  rw [e2, ← key, ← e1, el]

/-! ### Reads in a region whose order is open -/
section
variable {P : Program} {I : Info} {f : Fs} {ops : Array Oper} {K : Act → World → Prop} {r : Dr} {i : Nat} {o : Oper} {pl : List (Nat × Bool)} {dn : List Nat} {env : Env} {w : World}
theorem pre_mk {n : Nat} (h1 : takes ops env o = true) (h2 : dOk n o.dst = true) : pre n ops env o = true := by simp [pre, h1, h2]
theorem wd_ld (hI : I.Ok P) (ho : ops[i]? = some o) {b off d : Nat} {v : Value} (h : ldE I f.n ops env o = some (b, off, none, d)) (hc : ∀ w', r.C w' → w'.cell? ⟨b, off, none⟩ = some v) (k : WD P f ops K r pl (i :: dn) ((d, v) :: env) w) : WD P f ops K r ((i, true) :: pl) dn env w :=
  have ⟨h1, h2, h3, _⟩ := ldE_eq h
  wd_q ho (pre_mk h1 h2) h3 (fun w' hw' => ov_ld hI h (hc w' hw')) k
theorem wd_ldN (hI : I.Ok P) (ho : ops[i]? = some o) {b off d m : Nat} {l : List Value} (h : ldE I f.n ops env o = some (b, off, some m, d)) (hs : ∀ w', r.C w' → Seg w' b off l) (hl : l.length = m) (k : WD P f ops K r pl (i :: dn) ((d, .agg l.toArray) :: env) w) : WD P f ops K r ((i, true) :: pl) dn env w :=
  have ⟨h1, h2, h3, _⟩ := ldE_eq h
  wd_q ho (pre_mk h1 h2) h3 (fun w' hw' => ov_ldN hI h (hs w' hw') hl) k
theorem wd_ix (hI : I.Ok P) (ho : ops[i]? = some o) {b off len sz d : Nat} {x : Int} (h : ixE I f.n ops env o = some (b, off, len, sz, x, d)) (ss : Nat) (hss : sz = ss) (j : Nat) (hj : x = (j : Int)) (hlt : j < len) (q : Nat) (hq : q = off + j * ss) (k : WD P f ops K r pl (i :: dn) ((d, .pointer (some ⟨b, q, none⟩)) :: env) w) : WD P f ops K r ((i, true) :: pl) dn env w :=
  have ⟨h1, h2, h3, _⟩ := ixE_eq h
  wd_q ho (pre_mk h1 h2) h3 (fun _ _ => ov_ix hI h ss hss j hj hlt q hq) k
theorem wd_sl (hI : I.Ok P) (ho : ops[i]? = some o) {s : SlArgs} (h : slE I f.n ops env o = some s) (l hh m : Nat) (sz : Nat) (hsz : s.sz = sz) (h1 : s.mx = some (m : Int) ∧ s.hi.isSome = true ∨ s.mx = none ∧ m = s.c) (h2 : s.hi = some (hh : Int) ∨ s.hi = none ∧ hh = s.n) (h3 : s.lo = some (l : Int) ∨ s.lo = none ∧ l = 0)
    (hl : l ≤ hh) (hm : hh ≤ m) (hc : m ≤ s.c) (k : WD P f ops K r pl (i :: dn) ((s.d, .slice (slBase s.p l m sz) (hh - l) (m - l)) :: env) w) : WD P f ops K r ((i, true) :: pl) dn env w :=
  have ⟨e1, e2, hd, _⟩ := ov_sl (w := w) hI h l hh m sz hsz h1 h2 h3 hl hm hc
  wd_q ho (pre_mk e1 e2) hd (fun w' _ => (ov_sl (w := w') hI h l hh m sz hsz h1 h2 h3 hl hm hc).2.2.2) k
theorem wd_fd (hI : I.Ok P) (ho : ops[i]? = some o) {off d : Nat} {l : List Value} {v : Value} (h : fdE I f.n ops env o = some (l, off, none, d)) (hv : l[off]? = some v) (k : WD P f ops K r pl (i :: dn) ((d, v) :: env) w) : WD P f ops K r ((i, true) :: pl) dn env w :=
  have ⟨h1, h2, h3, _⟩ := fdE_eq h
  wd_q ho (pre_mk h1 h2) h3 (fun _ _ => ov_fd hI h hv) k
theorem wd_fdN (hI : I.Ok P) (ho : ops[i]? = some o) {off d m : Nat} {l l' : List Value} (h : fdE I f.n ops env o = some (l, off, some m, d)) (hv : (l.drop off).take m = l') (k : WD P f ops K r pl (i :: dn) ((d, .agg l'.toArray) :: env) w) : WD P f ops K r ((i, true) :: pl) dn env w :=
  have ⟨h1, h2, h3, _⟩ := fdE_eq h
  wd_q ho (pre_mk h1 h2) h3 (fun _ _ => ov_fdN hI h hv) k
theorem wd_bd (hI : I.Ok P) (ho : ops[i]? = some o) {d : Nat} {z l' : List Value} {q : Parts} (h : bdE I f.n ops env o = some (z, q, d)) (hok : partsOk z.length q) (hl : putAll z q = l') (k : WD P f ops K r pl (i :: dn) ((d, .agg l'.toArray) :: env) w) : WD P f ops K r ((i, true) :: pl) dn env w :=
  have ⟨h1, h2, h3, _⟩ := ov_bd (w := w) hI h hok
  wd_q ho (pre_mk h1 h2) h3 (fun w' _ => by subst hl; exact (ov_bd (w := w') hI h hok).2.2.2) k
end
end Go.Vc
