/- a map that a statement reads -/
import Derived.Test.YtjghckniloikgaaDoorSamF
namespace Go.Proofs.YtjghckniloikgaaDoor
open Go.Vc Go.ChangeShapes Go.WideShapes Go.ChangeAt Go.RowKit Go
theorem open_map {H : Type} {enc : TypeId × Value → H} {W : World} {sp : Nat → Bool} {held : Bool} {fuel : Nat} {cs : List Value} {x : DataW H × List MemPlace} (h : DataW.trod enc Tryd.prog W 0 sp held fuel 58 cs = some x) : ∃ (p : Option Addr) (l : List RowD) (c : Nat), cs = [.slice p l.length c] ∧ Sl W p l.length 2 (l.flatMap RowD.cells) := by
  obtain ⟨xs, k, rfl, _, hlen, hxs, hf⟩ := DataW.trod_struct Tryd.underlying58 h
  have k58 : Tryd.prog.cellsOf 58 = 1 := by kernel_rfl
  have k56 : Tryd.prog.cellsOf 56 = 1 := by kernel_rfl
  have hxs : xs.length = 1 := hxs
  have g0 : DataW.trod enc Tryd.prog W 0 sp held k 56 ((cs.drop 0).take (Tryd.prog.cellsOf 56)) = _ := hf 0 _ rfl
  rw [k56, List.getElem?_eq_getElem (by omega)] at g0
  obtain ⟨p, l, c, e, _, _, hs, _, _⟩ := open_list (cells := RowD.cells) (ok := fun r => r.path.length ≤ maxLen ∧ r.text.length ≤ maxLen) Tryd.underlying56 (by kernel_rfl : Tryd.prog.cellsOf 78 = 2) (by decide) (fun h => open_row h) g0
  rw [k58] at hlen
  refine ⟨p, l, c, ?_, hs⟩
  have e2 : cs = cs.drop 0 := rfl
  rw [e2, split_at cs 0 1, e, List.drop_eq_nil_of_le (by omega), List.append_nil]
end Go.Proofs.YtjghckniloikgaaDoor
