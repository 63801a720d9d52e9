/-
  Walks and laws towards: StoreLasts: wherever the power goes, what is opened again has what was there, or what the batch was to bring, and all that its objects link to; for whatever deeds.
-/
import Derived.Test.YtpdiphfjmepijaaGreatDoorTie
import Derived.Test.YtpdiphfjmepijaaGreatDoorCards
import Derived.SevenTiedAt
import Derived.Test.YtpdiphfjmepijaaGreatDoorLaJ
open Array renaming ext'→cH
namespace Go.Proofs.YtpdiphfjmepijaaGreatDoor
open Go.Proofs.Tryz
open Go.Vc Go.ChangeShapes Go.WideShapes Go.ChangeAt Go.RowKit Go
set_option maxRecDepth 100000 in
theorem lasts_lifted (os : Os) (started : os.Started) (H : Type) (enc : TypeId × Value -> H) :
    ReturnsInHanded {} Tryz.checked os 8 .any (λw args => (Rows.storeLastsSpec.pre enc prog Tryz.f8 [] false w args /\ laidMetH prog laidR w) /\ sizedMet enc prog Tryz.f8 (OpenSpec.ofChange Rows.storeLastsSpec) false w args)
      (Rows.storeLastsSpec.post enc prog Tryz.f8 false true false false) := by
  refine returnsInHanded_of_change_and (C := Tryz.checked) (X := λw _ => laidMetH prog laidR w) (λ_ _ _ hh h => h.of_heap hh) own started zf func8
    (ChangeSpec.witness_shaped (enc := enc) (C := Tryz.checked) (os := os) (X := λw _ => laidMetH prog laidR w) false (World.doorLaid prog 400 os) #[.slice none 0 0, .agg #[.int .i64 0, .int .i64 0, .slice none 0 0, .slice none 0 0, .slice none 0 0, .slice none 0 0], .slice none 0 0] 40 Z (World.shaped_of_RefB zf zf) zf zf zf (door_met os _)) ?_
  intro W base args ds gs before hval0 hW _ _ hL _
  have hval : ∀ (j : Nat) t v, Tryz.f8.params[j]? = some t -> args[j]? = some v -> Value.okWide prog W .any base t v := hval0
  have hW' := hW
  obtain ⟨p, q, hA0, hV, rfl, hfz, hnd⟩ := hW
  have hA : DataW.TrodAll enc prog W 0 (λ_ => true) true Tryz.f8.params.toList args.toList ds p := hA0
  rw [Tryz.params8] at hA hval
  obtain ⟨v0, vs0, d0, ds0, p0, q0, hargs, rfl, rfl, h0, r0⟩ := trodAll_cons hA
  obtain ⟨v1, vs1, d1, ds1, p1, q1, rfl, rfl, rfl, h1, r1⟩ := trodAll_cons r0
  obtain ⟨v2, vs2, d2, ds2, p2, q2, rfl, rfl, rfl, h2, r2⟩ := trodAll_cons r1
  obtain ⟨rfl, rfl, rfl⟩ := trodAll_nil r2
  obtain rfl : args = #[v0, v1, v2] := by cases args; simp_all
  obtain ⟨rfl, rfl⟩ := trodVars_none hV
  have w0 := hval 0 68 v0 Z Z
  have w1 := hval 1 76 v1 Z Z
  have w2 := hval 2 68 v2 Z Z
  obtain ⟨k0, h0⟩ := h0
  obtain ⟨k1, h1⟩ := h1
  obtain ⟨k2, h2⟩ := h2
  obtain ⟨a0, len0, cap0, rfl⟩ := okWide_slice Tryz.underlying68 w0
  obtain ⟨c1, rfl, _⟩ := okWide_struct Tryz.underlying76 w1
  obtain ⟨a2, len2, cap2, rfl⟩ := okWide_slice Tryz.underlying68 w2
  obtain ⟨p0, l0, c0, e0, hc0, hs0, hd0⟩ := open_dees h0
  obtain ⟨o, e1, ho⟩ := open_dee h1
  obtain rfl : c1 = o.cells.toArray := by apply cH; exact e1
  obtain ⟨p2, l2, c2, e2, hc2, hs2, hd2⟩ := open_dees h2
  simp only [Value.cells, List.cons.injEq, and_true, Value.slice.injEq] at e0 e2
  obtain ⟨rfl, rfl, rfl⟩ := e0
  obtain ⟨rfl, rfl, rfl⟩ := e2
  clear hA0 hval0
  simp only [bE] at hW'
  refine Calls.mono (storelasts_calls W (roots_of hL) hs0 hc0 hd0 ho hs2 hc2 hd2) λe W' he =>?_
  cases e with
  | returned v =>
    obtain ⟨rfl, hE⟩ : v = .bool true /\ Ext No W W' := he
    refine ⟨_, rfl, post_true zf zf zf hW' Z zf zf Tryz.underlying4 Z Z Z hE⟩
  | panicked _ => exact he.elim
  | outgrown => exact he.elim
end Go.Proofs.YtpdiphfjmepijaaGreatDoor
