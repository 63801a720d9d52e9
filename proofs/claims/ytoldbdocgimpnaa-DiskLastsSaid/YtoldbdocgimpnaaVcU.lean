/-
  Rows of values each of which fits one cell: found by themselves.
-/
import Derived.Test.YtoldbdocgimpnaaVcT
namespace Go.Vc

class OneC (l : List Value) : Prop where
  h : ∀ u ∈ l, u.oneCell' = true

instance : OneC [] := ⟨fun _ h => by cases h⟩
theorem OneC.cons {v : Value} {l : List Value} (hv : v.oneCell' = true) (hl : OneC l) : OneC (v :: l) := ⟨fun u hu => by
  rcases List.mem_cons.1 hu with rfl | hu
  · exact hv
  · exact hl.h u hu⟩
instance (k : IntKind) (n : Int) (l : List Value) [h : OneC l] : OneC (.int k n :: l) := .cons rfl h
instance (b : Bool) (l : List Value) [h : OneC l] : OneC (.bool b :: l) := .cons rfl h
instance (s : ByteArray) (l : List Value) [h : OneC l] : OneC (.string s :: l) := .cons rfl h
instance (p : Option Addr) (l : List Value) [h : OneC l] : OneC (.pointer p :: l) := .cons rfl h
instance (p : Option Addr) (n c : Nat) (l : List Value) [h : OneC l] : OneC (.slice p n c :: l) := .cons rfl h
instance (p : Option Nat) (l : List Value) [h : OneC l] : OneC (.map p :: l) := .cons rfl h
instance (a b : List Value) [ha : OneC a] [hb : OneC b] : OneC (a ++ b) := ⟨fun u hu => (List.mem_append.1 hu).elim (ha.h u) (hb.h u)⟩
instance (k : IntKind) (xs : List Int) : OneC (xs.map (Value.int k)) := ⟨fun u hu => by obtain ⟨x, _, rfl⟩ := List.mem_map.1 hu; rfl⟩
instance (xs : List Bool) : OneC (xs.map Value.bool) := ⟨fun u hu => by obtain ⟨x, _, rfl⟩ := List.mem_map.1 hu; rfl⟩
instance (xs : List ByteArray) : OneC (xs.map Value.string) := ⟨fun u hu => by obtain ⟨x, _, rfl⟩ := List.mem_map.1 hu; rfl⟩
theorem OneC.flatMap {α : Type} {f : α → List Value} {l : List α} (h : ∀ x ∈ l, OneC (f x)) : OneC (l.map f).flatten := ⟨fun u hu => by
  obtain ⟨r, hr, hu⟩ := List.mem_flatten.1 hu
  obtain ⟨x, hx, rfl⟩ := List.mem_map.1 hr
  exact (h x hx).h u hu⟩
/-- so many operations, that only compute or are passed -/
def pevsN (I : Info) (n : Nat) (ops : Array Oper) : Nat → List Oper → Env → Option (List Oper × Env)
  | 0, l, env => some (l, env)
  | _ + 1, [], env => some ([], env)
  | k + 1, o :: r, env => match passes ops env o with
    | true => match pushO n o.dst undef env with
      | some env' => pevsN I n ops k r env'
      | none => none
    | false => match takes ops env o with
      | false => none
      | true => match pev I o.op env with
        | none => none
        | some v => match pushO n o.dst v env with
          | some env' => pevsN I n ops k r env'
          | none => none
theorem wl_pk {P : Program} {I : Info} {f : Fs} {ops : Array Oper} {Q : XPost} {env : Env} {w : World} (hI : I.Ok P) (n : Nat) {l l' : List Oper} {env' : Env} (h : pevsN I f.n ops n l env = some (l', env')) (k : WL P f ops Q l' env' w) : WL P f ops Q l env w := by
  induction n generalizing env l with
  | zero => simp [pevsN] at h; obtain ⟨rfl, rfl⟩ := h; exact k
  | succ n ih =>
    cases l with
    | nil => simp [pevsN] at h; obtain ⟨rfl, rfl⟩ := h; exact k
    | cons o r =>
      simp only [pevsN] at h
      split at h
      · rename_i hp
        split at h
        · rename_i e he
          obtain ⟨hd, rfl⟩ := pushO_eq he
          exact wl (st_pass hp hd (ih h))
        · cases h
      · split at h
        · cases h
        · rename_i ht
          split at h
          · cases h
          · rename_i v hv
            split at h
            · rename_i e he
              obtain ⟨hd, rfl⟩ := pushO_eq he
              exact wl (st_v ht hd (pev_sound hI hv w) (ih h))
            · cases h

/-- a call that leaves the world as it is -/
theorem CallsV.same {P : Program} {g : FuncId} {args : List Value} {w : World} {R : Value → Prop} (h : CallsV P g args w fun v w' => R v ∧ w' = w) : CallsV P g args w fun v w' => R v ∧ Ext No w w' :=
  h.mono fun _ _ ⟨h1, h2⟩ => ⟨h1, h2 ▸ Ext.refl _ _⟩
end Go.Vc
