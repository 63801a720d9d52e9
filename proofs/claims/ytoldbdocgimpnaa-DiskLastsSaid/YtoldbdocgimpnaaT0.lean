/- arguments of the statements -/
import Derived.Test.YtoldbdocgimpnaaL6
import Derived.Test.YtoldbdocgimpnaaVcX
namespace Go.Proofs.Ytoldbdocgimpnaa
open Go.Vc Go.WideShapes Go.ChangeShapes

section
variable {H : Type} {enc : TypeId × Value → H} {W : World} {sp : Nat → Bool} {held : Bool}

theorem list_of {α β : Type} {R : α → β → Prop} : ∀ (L : List β), (∀ r ∈ L, ∃ a, R a r) → ∃ l : List α, l.length = L.length ∧ ∀ (i : Nat) (a : α) (r : β), l[i]? = some a → L[i]? = some r → R a r
  | [], _ => ⟨[], rfl, fun i a r h => by simp at h⟩
  | r :: L, h => by
    obtain ⟨a, ha⟩ := h r (by simp)
    obtain ⟨l, h1, h2⟩ := list_of L fun x hx => h x (by simp [hx])
    refine ⟨a :: l, by simp [h1], fun i b x hb hx => ?_⟩
    cases i with
    | zero => simp at hb hx; subst hb; subst hx; exact ha
    | succ i => exact h2 i b x (by simpa using hb) (by simpa using hx)

theorem open_bools {fuel : Nat} {cs : List Value} {x : DataW H × List MemPlace} (h : DataW.trod enc Try.prog W 0 sp held fuel 33 cs = some x) :
    ∃ (p : Option Addr) (l : List Bool) (c : Nat), cs = [.slice p l.length c] ∧ l.length ≤ c ∧ c ≤ maxLen ∧ Sl W p l.length 1 (boolsL l) ∧ (l ≠ [] → ∀ b off, p = some ⟨b, off, none⟩ → b < W.heap.size) := by
  obtain ⟨p, n, c, L, rfl, hn, hc, hL, hu, hs, hlt, hrow⟩ := open_rows (e := 4) (m := 1) Try.underlying33 (by kernel_rfl) (by decide) h
  obtain ⟨l, h1, h2⟩ := list_of (R := fun (b : Bool) r => r = [.bool b]) L fun r hr => by
    obtain ⟨k, y, hy⟩ := hrow r hr
    obtain ⟨b, hb, _⟩ := DataW.trod_bool Try.underlying4 hy
    exact ⟨b, hb⟩
  have e : L.flatten = boolsL l := by
    have : L = l.map fun b => [Value.bool b] := by
      apply List.ext_getElem?
      intro i
      rw [List.getElem?_map]
      by_cases hi : i < l.length
      · have hi' : i < L.length := by omega
        have := h2 i l[i] L[i] (by simp) (by simp)
        simp [hi, hi', this]
      · rw [List.getElem?_eq_none (by omega), List.getElem?_eq_none (by omega)]; rfl
    rw [this, boolsL]
    clear this h1 h2
    induction l with
    | nil => rfl
    | cons b l ih => simp [ih]
  have hln : l.length = n := by omega
  subst hln
  refine ⟨p, l, c, rfl, hn, hc, by rw [← e]; exact hs, fun hne => hlt fun h0 => hne (List.eq_nil_of_length_eq_zero h0)⟩

theorem open_act {n : Nat} {r : List Value} {y : DataW H × List MemPlace} (h : DataW.trod enc Try.prog W 0 sp held n 35 r = some y) : ∃ a, ActAt W (fun x => x < W.heap.size) a r := by
  obtain ⟨xs, k, rfl, _, hlen, hxs, hf⟩ := DataW.trod_struct Try.underlying35 h
  have hlen : r.length = 4 := hlen.trans (by kernel_rfl)
  match r, hlen with
  | [c0, c1, c2, c3], _ =>
    have hxs : xs.length = 4 := hxs
    have k3 : Try.prog.cellsOf 3 = 1 := by kernel_rfl
    have k5 : Try.prog.cellsOf 5 = 1 := by kernel_rfl
    have k33 : Try.prog.cellsOf 33 = 1 := by kernel_rfl
    have g0 : DataW.trod enc Try.prog W 0 sp held k 3 (List.take (Try.prog.cellsOf 3) [c0, c1, c2, c3]) = _ := hf 0 _ rfl
    have g1 : DataW.trod enc Try.prog W 0 sp held k 3 (List.take (Try.prog.cellsOf 3) [c1, c2, c3]) = _ := hf 1 _ rfl
    have g2 : DataW.trod enc Try.prog W 0 sp held k 5 (List.take (Try.prog.cellsOf 5) [c2, c3]) = _ := hf 2 _ rfl
    have g3 : DataW.trod enc Try.prog W 0 sp held k 33 (List.take (Try.prog.cellsOf 33) [c3]) = _ := hf 3 _ rfl
    rw [k3, List.getElem?_eq_getElem (by omega)] at g0 g1
    rw [k5, List.getElem?_eq_getElem (by omega)] at g2
    rw [k33, List.getElem?_eq_getElem (by omega)] at g3
    obtain ⟨n0, e0, _, w0⟩ := DataW.trod_int Try.underlying3 g0
    obtain ⟨n1, e1, _, w1⟩ := DataW.trod_int Try.underlying3 g1
    obtain ⟨n2, e2, _, w2⟩ := DataW.trod_int Try.underlying5 g2
    obtain ⟨p, l, c, e3, h1, h2, h3, h4⟩ := open_bools g3
    simp only [List.take_succ_cons, List.take_zero, List.cons.injEq, and_true] at e0 e1 e2 e3
    subst e0; subst e1; subst e2; subst e3
    have hw : -9223372036854775808 ≤ n1 ∧ n1 ≤ 9223372036854775807 := by simpa [Lit.wf, IntKind.min, IntKind.max, IntKind.signed, IntKind.bits] using w1
    exact ⟨⟨n0, n1, n2, l⟩, p, c, rfl, h1, h2, h3, h4, hw.1, by show n1 < _; omega⟩

theorem open_acts {r : Reach} {base : Nat} {v : Value} {d : DataW H} {ps : List MemPlace} (hval : Value.okWide Try.prog W r base 22 v) (h : DataW.Trod enc Try.prog W 0 sp held 22 v d ps) :
    ∃ (p : Option Addr) (l : List PAct) (c : Nat), v = .slice p l.length c ∧ l.length ≤ c ∧ ActsSl W (fun x => x < W.heap.size) p l := by
  obtain ⟨a, len, cap, rfl⟩ := okWide_slice Try.underlying22 hval
  obtain ⟨fuel, hf⟩ := h
  obtain ⟨p, n, c, L, hcs, hn, hc, hL, hu, hs, hlt, hrow⟩ := open_rows (e := 35) (m := 4) Try.underlying22 (by kernel_rfl) (by decide) hf
  simp only [Value.cells, List.cons.injEq, and_true, Value.slice.injEq] at hcs
  obtain ⟨rfl, rfl, rfl⟩ := hcs
  obtain ⟨l, h1, h2⟩ := list_of (R := fun (a : PAct) r => ActAt W (fun x => x < W.heap.size) a r) L fun r hr => by
    obtain ⟨k, y, hy⟩ := hrow r hr
    exact open_act hy
  have hln : l.length = len := by omega
  subst hln
  exact ⟨a, l, cap, rfl, hn, L, hs, ⟨h1.symm, h2⟩⟩
theorem open_actV {r : Reach} {base : Nat} {v : Value} {d : DataW H} {ps : List MemPlace} (hval : Value.okWide Try.prog W r base 35 v) (h : DataW.Trod enc Try.prog W 0 sp held 35 v d ps) :
    ∃ a r, v = .agg (List.toArray r) ∧ ActAt W (fun x => x < W.heap.size) a r := by
  obtain ⟨cs, rfl, _⟩ := okWide_struct Try.underlying35 hval
  obtain ⟨fuel, hf⟩ := h
  obtain ⟨a, ha⟩ := open_act hf
  exact ⟨a, _, by simp [Value.cells], ha⟩
theorem open_int {r : Reach} {base t : Nat} {k : IntKind} {v : Value} {d : DataW H} {ps : List MemPlace} (ht : Try.prog.underlying t = some (.int k)) (hval : Value.okWide Try.prog W r base t v) (h : DataW.Trod enc Try.prog W 0 sp held t v d ps) :
    ∃ n, v = .int k n ∧ (Lit.int k n).wf = true := by
  obtain ⟨n, rfl⟩ := okWide_int ht hval
  obtain ⟨fuel, hf⟩ := h
  obtain ⟨n', e, _, hw⟩ := DataW.trod_int ht hf
  simp only [Value.cells, List.cons.injEq, Value.int.injEq, true_and, and_true] at e
  subst e
  exact ⟨n, rfl, hw⟩
end
end Go.Proofs.Ytoldbdocgimpnaa
