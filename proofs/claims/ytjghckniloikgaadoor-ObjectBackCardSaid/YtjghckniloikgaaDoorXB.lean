/- bytes that a statement reads -/
import Derived.Test.YtjghckniloikgaaDoorV3
namespace Go.Proofs.YtjghckniloikgaaDoor
open Go.Vc Go.ChangeShapes Go.WideShapes Go.ChangeAt Go.RowKit Go
theorem open_bsl {H : Type} {enc : TypeId × Value → H} {W : World} {sp : Nat → Bool} {held : Bool} {fuel : Nat} {cs : List Value} {x : DataW H × List MemPlace} (h : DataW.trod enc Tryd.prog W 0 sp held fuel 35 cs = some x) : ∃ r : BSl, cs = r.cell ∧ SlB W r.p r.l ∧ r.l.length ≤ r.c := by
  obtain ⟨p, l, c, e, h1, _, h2, _, _⟩ := open_list (cells := fun b => [byteV b]) (ok := fun _ => True) Tryd.underlying35 (by kernel_rfl : Tryd.prog.cellsOf 5 = 1) (by decide) (fun h => by obtain ⟨b, hb⟩ := open_byte h; exact ⟨b, hb, trivial⟩) h
  refine ⟨⟨p, l, c⟩, e, ?_, h1⟩
  have e2 : l.flatMap (fun b => [byteV b]) = bytesU l := by rw [bytesU, List.map_eq_flatMap]
  rw [e2] at h2
  exact h2
end Go.Proofs.YtjghckniloikgaaDoor
