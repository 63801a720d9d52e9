/-
  From the statement to the walk and back: arguments opened as rows, read again behind the call.
-/
import Derived.Test.YtoldbdocgimpnaaVcT
import Derived.ChangeSame
import Derived.ReadAgain
import Derived.RowKit
import Derived.ChangeBears
import Derived.OpenShut
namespace Go.Vc
open Go.WideShapes Go.ChangeShapes Go.RowKit

section
variable {H : Type} {enc : TypeId × Value → H} {P : Program} {w w' : World}

theorem Ext.sameAt (hE : Ext No w w') {p : MemPlace} (hp : p.block < w.heap.size) : w.sameAt w' p := by
  cases p with
  | cell b off =>
    have := hE.same b hp id
    show w'.cell? ⟨b, off, none⟩ = w.cell? ⟨b, off, none⟩
    unfold World.cell?
    rw [this]
  | map b => exact hE.same b hp id

theorem trodAll_carry {base : Nat} {sp : Nat → Bool} {held : Bool} : ∀ {ts : List TypeId} {vs : List Value} {ds : List (DataW H)} {ps : List MemPlace}, DataW.TrodAll enc P w base sp held ts vs ds ps → (∀ p ∈ ps, w.sameAt w' p) → DataW.TrodAll enc P w' base sp held ts vs ds ps
  | [], [], [], _, h, _ => h
  | _ :: _, _ :: _, _ :: _, _, ⟨p, q, ⟨n, h1⟩, h2, e⟩, hs => ⟨p, q, ⟨n, DataW.trod_carry n _ _ _ h1 fun x hx => hs x (by rw [e]; exact List.mem_append_left _ hx)⟩, trodAll_carry h2 fun x hx => hs x (by rw [e]; exact List.mem_append_right _ hx), e⟩

/-- a law that returns true and leaves all that was there -/
theorem post_true {f : Func} {s : ChangeSpec} {fresh handsOn again : Bool} {W W' : World} {args : Array Value} {ds gs : List (DataW H)} {before : List MemPlace} (hl : laidOutB P = true) (hm : mapsRowed P = true) (hz : ((List.range P.types.size).all fun t => match P.underlying t with | some (.slice e) => decide (0 < P.cellsOf e) | _ => true) = true)
    (hW : DataW.Whole enc P f.params.toList s.vars false W args.toList ds gs before) (hv : s.vars = []) (hts : f.params.toList.all (fun t => decide (t < P.types.size)) = true)
    {tb : TypeId} (hrt : f.resultTypes = #[tb]) (htb : P.underlying tb = some .bool) (hr : (s.fn H (ds ++ gs)).results = [.lit (.bool true)]) (ha : (s.fn H (ds ++ gs)).args = ds) (hvr : (s.fn H (ds ++ gs)).vars = []) (hE : Ext No W W') :
    s.post enc P f false fresh handsOn again W args (.bool true) W' := by
  have hW0 := hW
  obtain ⟨p, q, hA, hV, rfl, _, _⟩ := hW
  rw [hv] at hV
  obtain ⟨rfl, rfl⟩ := trodVars_none hV
  have hg := hE.grown fun _ _ => id
  refine post_of_same (pa := p) (pv := []) hW0 (fun _ _ _ => ?_) (fun sp hsp => ?_) (fun _ _ => ?_) (by simp) (hg.frame _) hg.2.1 ?_
  · rw [hrt, hr]
    exact trodAll_cons_mk (RowKit.shut_bool htb true) trodAll_mk0
  · rw [ha]
    refine trodAll_carry (hA.respare (kids_rows hl hm) (slices_full_of P hz) (fun t ht => by simpa using List.all_eq_true.1 hts t ht) fun x hx => hsp x (by simpa using hx)) fun x hx => ?_
    exact hE.sameAt (hA.lt x hx)
  · rw [hv, hvr]; rfl
  · exact ok_one hrt rfl (RowKit.okWide_bool_mk htb true)

/-- cells that were read stand in a row -/
theorem cells?_seg {a : Addr} {m : Nat} {r : List Value} (h : w.cells? 0 a m = some r) (hm : 0 < m) : a = ⟨a.block, a.off, none⟩ ∧ r.length = m ∧ Seg w a.block a.off r ∧ a.block < w.heap.size := by
  have hlt := World.cells?_block h hm
  unfold World.cells? at h
  rw [if_pos (Nat.zero_le _)] at h
  have hlen := mapM_some_length h
  have hget : ∀ i, i < m → w.cell? (a.add i) = r[i]? := fun i hi => mapM_some_get h i i (by simp [hi])
  simp only [List.length_range] at hlen
  have hspot : a.spot = none := by
    have h0 := hget 0 hm
    have hr0 : r[0]? = some r[0] := by simp
    rw [hr0] at h0
    have e : a.add 0 = a := by simp [Addr.add]
    rw [e] at h0
    unfold World.cell? at h0
    split at h0
    · split at h0
      · cases h0
      · rename_i hs; simpa using hs
    · cases h0
  have ha : a = ⟨a.block, a.off, none⟩ := by rw [← hspot]
  refine ⟨ha, hlen, fun i v hv => ?_, hlt⟩
  have hi : i < m := by
    have := (List.getElem?_eq_some_iff.1 hv).1
    omega
  have hi' := hget i hi
  rw [hv] at hi'
  have e : a.add i = ⟨a.block, a.off + i, none⟩ := by rw [ha]; exact addr_add _ _ _
  rw [e] at hi'
  exact hi'

theorem rows_seg {b m : Nat} : ∀ {L : List (List Value)} {off : Nat}, Uni m L → (∀ (i : Nat) (r : List Value), L[i]? = some r → Seg w b (off + i * m) r) → Seg w b off L.flatten
  | [], _, _, _ => fun i v hv => by simp at hv
  | r :: L, off, hu, h => by
    rw [List.flatten_cons, Seg.append]
    have hr := hu r (by simp)
    refine ⟨by simpa using h 0 r rfl, ?_⟩
    rw [hr]
    refine rows_seg (fun x hx => hu x (by simp [hx])) fun i x hx => ?_
    have := h (i + 1) x (by simpa using hx)
    rwa [show off + (i + 1) * m = off + m + i * m from by rw [Nat.succ_mul]; omega] at this

/-- a slice that the statement reads: its rows -/
theorem open_rows {sp : Nat → Bool} {held : Bool} {fuel : Nat} {t e m : Nat} {cs : List Value} {x : DataW H × List MemPlace} (ht : P.underlying t = some (.slice e)) (hm : P.cellsOf e = m) (hm0 : 0 < m) (h : DataW.trod enc P w 0 sp held fuel t cs = some x) :
    ∃ (p : Option Addr) (n c : Nat) (L : List (List Value)), cs = [.slice p n c] ∧ n ≤ c ∧ c ≤ maxLen ∧ L.length = n ∧ Uni m L ∧ Sl w p n m L.flatten ∧ (n ≠ 0 → ∀ b off, p = some ⟨b, off, none⟩ → b < w.heap.size) ∧
      ∀ r ∈ L, ∃ k y, DataW.trod enc P w 0 sp held k e r = some y := by
  subst hm
  rcases DataW.trod_slice ht h with ⟨hcs, _⟩ | ⟨a, len, cap, elems, rest, n, _, hcs, _, _, hl, hc, hlen, hel, _⟩
  · exact ⟨none, 0, 0, [], hcs, Nat.le_refl _, by unfold maxLen; omega, rfl, Uni.nil _, Sl.nil _ _ _, fun h => absurd rfl h, fun r hr => by cases hr⟩
  · have hrow : ∀ i, i < len → ∃ r y, w.cells? 0 (a.add (i * P.cellsOf e)) (P.cellsOf e) = some r ∧ DataW.trod enc P w 0 sp held n e r = some y := by
      intro i hi
      have := hel i hi
      rw [List.getElem?_eq_getElem (by omega), Option.bind_eq_some_iff] at this
      obtain ⟨r, h1, h2⟩ := this
      exact ⟨r, _, h1, h2⟩
    have hrow' : ∀ i : _root_.Fin len, ∃ r y, w.cells? 0 (a.add (i.1 * P.cellsOf e)) (P.cellsOf e) = some r ∧ DataW.trod enc P w 0 sp held n e r = some y := fun i => hrow i.1 i.2
    let L : List (List Value) := List.ofFn fun i : _root_.Fin len => Classical.choose (hrow' i)
    have hL : ∀ (i : Nat) (r : List Value), L[i]? = some r → i < len ∧ w.cells? 0 (a.add (i * P.cellsOf e)) (P.cellsOf e) = some r ∧ ∃ y, DataW.trod enc P w 0 sp held n e r = some y := by
      intro i r hr
      have hi : i < len := by
        have := (List.getElem?_eq_some_iff.1 hr).1
        simpa [L] using this
      have : r = Classical.choose (hrow' ⟨i, hi⟩) := by
        simp only [L, List.getElem?_ofFn, hi, dif_pos, Option.some.injEq] at hr
        exact hr.symm
      subst this
      obtain ⟨y, h1, h2⟩ := Classical.choose_spec (hrow' ⟨i, hi⟩)
      exact ⟨hi, h1, y, h2⟩
    have hLlen : L.length = len := by simp [L]
    have hu : Uni (P.cellsOf e) L := fun r hr => by
      obtain ⟨i, hi, rfl⟩ := List.mem_iff_getElem.1 hr
      have := hL i L[i] (by simp)
      exact (cells?_seg this.2.1 hm0).2.1
    refine ⟨some a, len, cap, L, hcs, hl, hc, hLlen, hu, ⟨by rw [rows_length hu, hLlen], ?_⟩, ?_, fun r hr => ?_⟩
    · rcases Nat.eq_zero_or_pos len with h0 | h0
      · exact .inl h0
      · right
        have h00 := hL 0 L[0] (by simp)
        have e0 : a.add (0 * P.cellsOf e) = a := by simp [Addr.add]
        rw [e0] at h00
        have ha := (cells?_seg h00.2.1 hm0).1
        refine ⟨a.block, a.off, congrArg some ha, rows_seg hu fun i r hr => ?_⟩
        have hi := hL i r hr
        have := (cells?_seg hi.2.1 hm0).2.2.1
        have e1 : a.add (i * P.cellsOf e) = ⟨a.block, a.off + i * P.cellsOf e, none⟩ := by
          conv => lhs; rw [ha]
          exact addr_add _ _ _
        rw [e1] at this
        exact this
    · intro hn b off hb
      have h00 := hL 0 (L[0]'(by omega)) (by simp)
      have e0 : a.add (0 * P.cellsOf e) = a := by simp [Addr.add]
      rw [e0] at h00
      have := (cells?_seg h00.2.1 hm0).2.2.2
      simp only [Option.some.injEq] at hb
      rw [hb] at this
      exact this
    · obtain ⟨i, hi, rfl⟩ := List.mem_iff_getElem.1 hr
      obtain ⟨_, _, y, hy⟩ := hL i L[i] (by simp)
      exact ⟨n, y, hy⟩
end
end Go.Vc
