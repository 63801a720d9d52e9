/- what is decoded is an object, and short -/
import Derived.Test.YtjghckniloikgaaDoorSamF
namespace Go.Proofs.YtjghckniloikgaaDoor
open Go.Vc
theorem each_all {α : Type} {f : Ds → α × Ds} {P : α → Prop} (hf : ∀ s, (f s).2.rest.length ≤ s.rest.length) (hp : ∀ s, s.rest.length < 1000000000 → P (f s).1) : ∀ (n : Nat) (s : Ds), s.rest.length < 1000000000 → ∀ x ∈ (Ds.each f n s).1, P x
  | 0, s, _, x, hx => by cases hx
  | n + 1, s, hs, x, hx => by
    rw [Ds.each] at hx
    split at hx
    · cases hx
    · rcases List.mem_cons.1 hx with rfl | hx
      · exact hp s hs
      · exact each_all hf hp n _ (Nat.lt_of_le_of_lt (hf s) hs) x hx
theorem row_len {α : Type} {f : Ds → α × Ds} (s : Ds) : (s.row f).1.length < 1000000000 :=
  Nat.lt_of_le_of_lt (Ds.each_len _ _) (Nat.lt_trans (s.num_lt 1) (by decide))
theorem row_rest {α : Type} {f : Ds → α × Ds} (hf : ∀ s, (f s).2.rest.length ≤ s.rest.length) (s : Ds) : (s.row f).2.rest.length ≤ s.rest.length :=
  Nat.le_trans (each_len hf _ _) (s.off_len 1).2.1
theorem row_all {α : Type} {f : Ds → α × Ds} {P : α → Prop} (hf : ∀ s, (f s).2.rest.length ≤ s.rest.length) (hp : ∀ s, s.rest.length < 1000000000 → P (f s).1) {s : Ds} (hs : s.rest.length < 1000000000) : ∀ x ∈ (s.row f).1, P x :=
  each_all hf hp _ _ (Nat.lt_of_le_of_lt (s.off_len 1).2.1 hs)
theorem Ds.id_le (s : Ds) : s.id.2.rest.length ≤ s.rest.length := s.id_len.2
def DecOk (o : ObjD) : Prop := ObjIn o ∧ Short o
theorem objZ_dec : DecOk objZ := ⟨objZ_in, objZ_sh⟩
theorem endB_dec {b : List UInt8} {o : ObjD × Ds} (h : DecOk o.1) : DecOk (endB b o).1 := by
  unfold endB
  split
  · exact objZ_dec
  · split
    · exact h
    · exact objZ_dec
theorem com_dec {s : Ds} (hs : s.rest.length < 1000000000) : DecOk s.com.1 := by
  have h1 : (s.off 1).2.rest.length < 1000000000 := Nat.lt_of_le_of_lt (s.off_len 1).2.1 hs
  have h2 : (s.off 1).2.id.2.rest.length < 1000000000 := Nat.lt_of_le_of_lt (Ds.id_le _) h1
  have h3 : ((s.off 1).2.id.2.row Ds.id).2.rest.length < 1000000000 := Nat.lt_of_le_of_lt (row_rest Ds.id_le _) h2
  have h4 : ((s.off 1).2.id.2.row Ds.id).2.id.2.rest.length < 1000000000 := Nat.lt_of_le_of_lt (Ds.id_le _) h3
  refine ⟨⟨(Ds.id_len _).1, (Ds.id_len _).1, row_all Ds.id_le (fun s _ => (Ds.id_len s).1) h2, fun _ h => absurd h List.not_mem_nil, ?_, Ds.num_lt _ 4, Ds.num_lt _ 4⟩, ⟨(show ([] : List LeafD).length < 1000000000 from by decide), row_len _, row_len _, fun _ h => absurd h List.not_mem_nil, ?_⟩⟩
  · exact row_all (P := fun r : ChgD => r.path.length ≤ maxLen ∧ r.text.length ≤ maxLen) Ds.chg_le (fun s hs => Ds.chg_in hs) h4
  · exact row_all (P := fun r : ChgD => r.path.length < 1000000000) Ds.chg_le (fun s hs => Nat.lt_of_le_of_lt (s.str_len 1).1 hs) h4
theorem dec_ok {l : List UInt8} (hl : l.length < 1000000000) : DecOk (decB l).1 := by
  have h1 : ((⟨l, false⟩ : Ds).off 1).2.rest.length < 1000000000 := Nat.lt_of_le_of_lt (Ds.off_len _ 1).2.1 hl
  unfold decB
  split
  · exact objZ_dec
  · dsimp only
    split
    · exact endB_dec ⟨⟨objZ_in.tree, objZ_in.base, objZ_in.parents, objZ_in.leaves, objZ_in.rows, objZ_in.number, objZ_in.author⟩, ⟨objZ_sh.leaves, objZ_sh.parents, objZ_sh.rows, objZ_sh.leafP, objZ_sh.rowP⟩⟩
    · split
      · exact endB_dec ⟨⟨objZ_in.tree, objZ_in.base, objZ_in.parents, row_all (P := fun r : LeafD => r.path.length ≤ maxLen ∧ r.id.length = 32) Ds.leaf_le (fun s hs => Ds.leaf_in hs) h1, objZ_in.rows, objZ_in.number, objZ_in.author⟩, ⟨row_len _, objZ_sh.parents, objZ_sh.rows, row_all (P := fun r : LeafD => r.path.length < 1000000000) Ds.leaf_le (fun s hs => Nat.lt_of_le_of_lt (s.str_len 1).1 hs) h1, objZ_sh.rowP⟩⟩
      · split
        · exact endB_dec (com_dec h1)
        · exact objZ_dec
end Go.Proofs.YtjghckniloikgaaDoor
