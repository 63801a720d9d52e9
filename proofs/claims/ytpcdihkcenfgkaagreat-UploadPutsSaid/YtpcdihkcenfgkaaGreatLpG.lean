/-
  Walks and laws towards: UploadPutsSaid , walked
-/
import Derived.ChangeSame
import Derived.ReadAgain
import Derived.RowKit
import Derived.ChangeBears
import Derived.OpenShut
import Derived.Test.YtpcdihkcenfgkaaGreatLpF
namespace Go.Proofs.YtpcdihkcenfgkaaGreat
open Go.Vc
/-- it holds, and goes on to hold as long as only what is newer turns -/
structure KS (N : Nat) (w : World) (P : World → Prop) : Prop where
  n : N ≤ w.heap.size
  st : Stb (fun x => N ≤ x) w P
theorem KS.now {N : Nat} {w : World} {P : World → Prop} (h : KS N w P) : P w := h.st.now
theorem KS.ext {N : Nat} {w w' : World} {P : World → Prop} (h : KS N w P) {T : Nat → Prop} (hE : Ext T w w') (hT : ∀ x, x < w.heap.size → T x → N ≤ x) : KS N w' P := ⟨Nat.le_trans h.n hE.size, h.st.step hE hT fun _ _ k => k⟩
theorem KS.no {N : Nat} {w w' : World} {P : World → Prop} (h : KS N w P) (hE : Ext No w w') : KS N w' P := h.ext hE fun _ _ k => k.elim
theorem KS.one {N b : Nat} {w w' : World} {P : World → Prop} (h : KS N w P) (hE : Ext (One b) w w') (hb : N ≤ b) : KS N w' P := h.ext hE fun x _ e => by have e : x = b := e; omega
theorem KS.mk0 {w : World} {P : World → Prop} (h : ∀ u, Ext No w u → P u) : KS w.heap.size w P := ⟨Nat.le_refl _, fun u hu => h u (hu.mono fun x hx k => by omega)⟩
theorem KS.add {N : Nat} {w : World} {P Q : World → Prop} (h : KS N w P) (hQ : ∀ u, Ext No w u → Q u) : KS w.heap.size w (fun u => P u ∧ Q u) := KS.mk0 fun u hu => ⟨(h.no hu).now, hQ u hu⟩
theorem MadeQ.ks {W w : World} {q : Option Addr} {m : List HeldT} {qi : Option Addr} {ki : Nat} {ids : List IdB} (h : MadeQ W w q m qi ki ids) : KS w.heap.size w (fun u => HpIn u q m ∧ Sl u qi ids.length 32 (ids.flatMap bytesU)) :=
  KS.mk0 fun u hu => ⟨h.hp u (hu.mono fun _ _ k => k.elim), (h.own.sl).extNo hu⟩
end Go.Proofs.YtpcdihkcenfgkaaGreat
namespace Go.Proofs.YtpcdihkcenfgkaaGreat
open Go.Vc
theorem kErr_err {h : Hp} {x : IdB} {k : Int} (e : h.kErr x k = 0) : h.err x = 0 ∧ (h.obj x).kind = k ∧ h.kObj x k = h.obj x := by
  unfold Hp.kErr at e
  unfold Hp.kObj
  split at e
  · cases e
  · rename_i hn
    rw [if_neg hn]
    exact ⟨e, Decidable.byContradiction fun hk => hn ⟨e, hk⟩, rfl⟩
theorem kErr_of {h : Hp} {x : IdB} {k : Int} (e : h.err x = 0) (hk : (h.obj x).kind = k) : h.kErr x k = 0 := by
  unfold Hp.kErr
  rw [if_neg fun c => c.2 hk]
  exact e
theorem mapE_tree {h : Hp} {x : IdB} (e : h.mapE x = 0) : h.kErr x 2 = 0 ∧ h.txErr (h.obj x).leaves = 0 := by
  unfold Hp.mapE at e
  split at e
  · rename_i c; exact absurd e c
  · rename_i c
    have h0 : h.kErr x 2 = 0 := Decidable.not_not.1 c
    refine ⟨h0, ?_⟩
    rw [(kErr_err h0).2.2] at e
    exact e
theorem txErr_all {h : Hp} {L : List LeafD} (e : h.txErr L = 0) : ∀ l ∈ L, h.kErr l.id 1 = 0 := by
  unfold Hp.txErr at e
  split at e
  · rename_i hf
    intro l hl
    have := List.find?_eq_none.1 hf l hl
    simpa using this
  · rename_i l hf
    have := List.find?_some hf
    simp at this
    exact absurd e this
theorem closed_at {h : Hp} {x : IdB} (e : h.closed x = 0) : h.kErr x 3 = 0 ∧ ∀ y, h.Leads x y → h.Good y := by
  unfold Hp.closed at e
  split at e
  · rename_i c; exact absurd e c
  · rename_i c
    split at e
    · rename_i c2; exact ⟨Decidable.not_not.1 c, fun y hy => c2 y ((h.led_mem x y).2 hy)⟩
    · cases e
theorem links_com {h : Hp} {y : IdB} (e : h.kErr y 3 = 0) : h.links y = (h.obj y).tree :: (h.obj y).parents := by
  obtain ⟨_, hk, _⟩ := kErr_err e
  unfold Hp.links linksOf
  rw [if_neg (by rw [hk]; decide), if_pos hk]
theorem num_obj {h : Hp} {y : IdB} (e : h.kErr y 3 = 0) : h.num y = (h.obj y).number := by rw [Hp.num, (kErr_err e).2.2]
/-- all commits behind a closed one have lesser numbers, and its trees have maps -/
theorem behind {h : Hp} {x : IdB} (e : h.closed x = 0) : ∀ y, h.Leads x y → (h.kErr y 3 = 0 → y = x ∨ h.num y < h.num x) ∧ ((h.obj y).kind = 2 → h.mapE y = 0) := by
  obtain ⟨h3, hg⟩ := closed_at e
  intro y hy
  induction hy with
  | here => exact ⟨fun _ => .inl rfl, fun k => by rw [(kErr_err h3).2.1] at k; cases k⟩
  | @on y z hy hz ih =>
    have gy := hg y hy
    by_cases hc : (h.obj y).kind = 3
    · have hy3 := kErr_of gy.1 hc
      rw [links_com hy3] at hz
      obtain ⟨hm, hp⟩ := gy.2 hc
      rcases List.mem_cons.1 hz with rfl | hz
      · have h2 := (mapE_tree hm).1
        refine ⟨fun k => ?_, fun _ => hm⟩
        have := (kErr_err h2).2.1
        rw [(kErr_err k).2.1] at this
        cases this
      · obtain ⟨p1, p2⟩ := hp.1 z hz
        have hn : h.num z < h.num y := by rw [num_obj hy3]; exact p2
        refine ⟨fun _ => .inr ?_, fun k => by rw [(kErr_err p1).2.1] at k; cases k⟩
        rcases ih.1 hy3 with rfl | hlt
        · exact hn
        · omega
    · by_cases hk : (h.obj y).kind = 2
      · have hm := (mapE_tree (ih.2 hk)).2
        have hz2 : ∃ l ∈ (h.obj y).leaves, l.id = z := by
          unfold Hp.links linksOf at hz
          rw [if_pos hk] at hz
          exact List.mem_map.1 hz
        obtain ⟨l, hl, rfl⟩ := hz2
        have h1 := (kErr_err (txErr_all hm l hl)).2.1
        exact ⟨fun k => absurd ((kErr_err k).2.1.symm.trans h1) (by decide), fun k => absurd (k.symm.trans h1) (by decide)⟩
      · unfold Hp.links linksOf at hz
        rw [if_neg hk, if_neg hc] at hz
        cases hz
end Go.Proofs.YtpcdihkcenfgkaaGreat
namespace Go.Proofs.YtpcdihkcenfgkaaGreat
open Go.Vc
/-- of two of one kind: the lesser number, then the lesser Id -/
def cLt (h : Hp) (a b : IdB) : Prop := (h.obj a).number < (h.obj b).number ∨ (h.obj a).number = (h.obj b).number ∧ idLt a b
/-- put in behind all that have no greater number -/
def cIns (h : Hp) (l : List IdB) (x : IdB) : List IdB := (l.filter fun y => decide ((h.obj y).number ≤ (h.obj x).number)) ++ x :: (l.filter fun y => decide ((h.obj x).number < (h.obj y).number))
theorem cIns_mem (h : Hp) (l : List IdB) (x y : IdB) : y ∈ cIns h l x ↔ y = x ∨ y ∈ l := by
  unfold cIns
  simp only [List.mem_append, List.mem_filter, List.mem_cons, decide_eq_true_eq]
  constructor
  · rintro (e | e | e); exact .inr e.1; exact .inl e; exact .inr e.1
  · rintro (e | e)
    · exact .inr (.inl e)
    · rcases Nat.lt_or_ge (h.obj x).number (h.obj y).number with k | k
      · exact .inr (.inr ⟨e, k⟩)
      · exact .inl ⟨e, k⟩
theorem cIns_sorted (h : Hp) {l : List IdB} {x : IdB} (hl : l.Pairwise (cLt h)) (hx : ∀ y ∈ l, idLt y x) : (cIns h l x).Pairwise (cLt h) := by
  unfold cIns
  refine List.pairwise_append.2 ⟨hl.filter _, List.pairwise_cons.2 ⟨fun y hy => ?_, hl.filter _⟩, fun a ha b hb => ?_⟩
  · exact .inl (by simpa using (List.mem_filter.1 hy).2)
  · have ha' : a ∈ l ∧ (h.obj a).number ≤ (h.obj x).number := by simpa using List.mem_filter.1 ha
    rcases List.mem_cons.1 hb with rfl | hb
    · rcases Nat.lt_or_eq_of_le ha'.2 with k | k
      · exact .inl k
      · exact .inr ⟨k, hx a ha'.1⟩
    · have hb' : b ∈ l ∧ (h.obj x).number < (h.obj b).number := by simpa using List.mem_filter.1 hb
      exact .inl (by omega)
theorem cIns_go (h : Hp) : ∀ (xs acc : List IdB), Rise xs → acc.Pairwise (cLt h) → (∀ y ∈ acc, ∀ x ∈ xs, idLt y x) → (xs.foldl (cIns h) acc).Pairwise (cLt h) ∧ ∀ y, y ∈ xs.foldl (cIns h) acc ↔ y ∈ xs ∨ y ∈ acc
  | [], acc, _, ha, _ => ⟨ha, fun y => by simp⟩
  | x :: r, acc, hr, ha, hlt => by
    have hr' := List.pairwise_cons.1 hr
    obtain ⟨h1, h2⟩ := cIns_go h r (cIns h acc x) hr'.2 (cIns_sorted h ha fun y hy => hlt y hy x List.mem_cons_self) fun y hy z hz => by
      rcases (cIns_mem h acc x y).1 hy with rfl | hy
      · exact hr'.1 z hz
      · exact hlt y hy z (List.mem_cons_of_mem _ hz)
    refine ⟨h1, fun y => ?_⟩
    rw [List.foldl_cons, h2, cIns_mem, List.mem_cons]
    constructor
    · rintro (e | e | e); exact .inl (.inr e); exact .inl (.inl e); exact .inr e
    · rintro ((e | e) | e); exact .inr (.inl e); exact .inl e; exact .inr (.inr e)
/-- the order: the texts, the trees, the commits by their numbers -/
noncomputable def ordD (h : Hp) (x : IdB) : List IdB :=
  ((h.led x).filter fun y => decide ((h.obj y).kind = 1)) ++ ((h.led x).filter fun y => decide ((h.obj y).kind = 2)) ++ ((h.led x).filter fun y => decide ((h.obj y).kind ≠ 1 ∧ (h.obj y).kind ≠ 2)).foldl (cIns h) []
/-- ahead in the order -/
def oLt (h : Hp) (a b : IdB) : Prop := (h.obj a).kind < (h.obj b).kind ∨ (h.obj a).kind = (h.obj b).kind ∧ cLt h a b
theorem cLt_irrefl (h : Hp) (a : IdB) : ¬ cLt h a a := fun e => e.elim (fun e => absurd e (Nat.lt_irrefl _)) fun e => idLt_irrefl a e.2
theorem cLt_asymm (h : Hp) (a b : IdB) (e : cLt h a b) : ¬ cLt h b a := fun k => by
  rcases e with e | ⟨e, e'⟩ <;> rcases k with k | ⟨k, k'⟩
  · omega
  · omega
  · omega
  · exact idLt_asymm e' k'
theorem oLt_irrefl (h : Hp) (a : IdB) : ¬ oLt h a a := fun e => e.elim (fun e => absurd e (Int.lt_irrefl _)) fun e => cLt_irrefl h a e.2
theorem oLt_asymm (h : Hp) (a b : IdB) (e : oLt h a b) : ¬ oLt h b a := fun k => by
  rcases e with e | ⟨e, e'⟩ <;> rcases k with k | ⟨k, k'⟩
  · omega
  · omega
  · omega
  · exact cLt_asymm h a b e' k'
theorem coms (h : Hp) (x : IdB) : (((h.led x).filter fun y => decide ((h.obj y).kind ≠ 1 ∧ (h.obj y).kind ≠ 2)).foldl (cIns h) []).Pairwise (cLt h) ∧ ∀ y, y ∈ ((h.led x).filter fun y => decide ((h.obj y).kind ≠ 1 ∧ (h.obj y).kind ≠ 2)).foldl (cIns h) [] ↔ y ∈ ((h.led x).filter fun y => decide ((h.obj y).kind ≠ 1 ∧ (h.obj y).kind ≠ 2)) ∨ y ∈ ([] : List IdB) := cIns_go h ((h.led x).filter fun y => decide ((h.obj y).kind ≠ 1 ∧ (h.obj y).kind ≠ 2)) [] ((h.led_rise x).filter _) List.Pairwise.nil fun _ hy => by cases hy
theorem ordD_mem (h : Hp) (x y : IdB) : y ∈ ordD h x ↔ h.Leads x y := by
  unfold ordD
  rw [List.mem_append, List.mem_append, (coms h x).2 y, List.mem_filter, List.mem_filter, List.mem_filter, h.led_mem]
  simp only [decide_eq_true_eq, List.not_mem_nil, or_false]
  constructor
  · rintro ((e | e) | e) <;> exact e.1
  · intro e
    by_cases h1 : (h.obj y).kind = 1
    · exact .inl (.inl ⟨e, h1⟩)
    · by_cases h2 : (h.obj y).kind = 2
      · exact .inl (.inr ⟨e, h2⟩)
      · exact .inr ⟨e, h1, h2⟩
/-- which kinds a closed commit leads to, and whither these lead -/
theorem kindL {h : Hp} {x : IdB} (hc : h.closed x = 0) {y : IdB} (hy : h.Leads x y) :
    (h.obj y).kind = 1 ∨ (h.obj y).kind = 3 ∨ (h.obj y).kind = 2 ∧ ∀ l ∈ (h.obj y).leaves, (h.obj l.id).kind = 1 := by
  obtain ⟨h3, hgood⟩ := closed_at hc
  induction hy with
  | here => exact .inr (.inl (kErr_err h3).2.1)
  | @on y z hy hz ih =>
    rcases ih with k | k | ⟨k, hl⟩
    · unfold Hp.links linksOf at hz
      rw [if_neg (by rw [k]; decide), if_neg (by rw [k]; decide)] at hz
      cases hz
    · obtain ⟨e0, hg⟩ := hgood y hy
      obtain ⟨hm, hp⟩ := hg k
      rw [links_com (kErr_of e0 k)] at hz
      rcases List.mem_cons.1 hz with rfl | hz
      · obtain ⟨m1, m2⟩ := mapE_tree hm
        exact .inr (.inr ⟨(kErr_err m1).2.1, fun l hl => (kErr_err (txErr_all m2 l hl)).2.1⟩)
      · exact .inr (.inl (kErr_err (hp.1 z hz).1).2.1)
    · unfold Hp.links linksOf at hz
      rw [if_pos k] at hz
      obtain ⟨l, hl2, rfl⟩ := List.mem_map.1 hz
      exact .inl (hl l hl2)
theorem ordD_sorted {h : Hp} {x : IdB} (hc : h.closed x = 0) (hz : ∀ y, h.Leads x y → (h.obj y).kind ≠ 3 → (h.obj y).number = 0) : (ordD h x).Pairwise (oLt h) := by
  have hk : ∀ y, h.Leads x y → (h.obj y).kind = 1 ∨ (h.obj y).kind = 2 ∨ (h.obj y).kind = 3 := fun y hy => by
    rcases kindL hc hy with k | k | k
    · exact .inl k
    · exact .inr (.inr k)
    · exact .inr (.inl k.1)
  have hf : ∀ k : Int, k ≠ 3 → ((h.led x).filter fun y => decide ((h.obj y).kind = k)).Pairwise (oLt h) := fun k hk3 => by
    refine List.Pairwise.imp_of_mem (fun {a b} ha hb hab => ?_) ((h.led_rise x).filter _)
    have ha' : a ∈ h.led x ∧ (h.obj a).kind = k := by simpa using List.mem_filter.1 ha
    have hb' : b ∈ h.led x ∧ (h.obj b).kind = k := by simpa using List.mem_filter.1 hb
    refine .inr ⟨by rw [ha'.2, hb'.2], .inr ⟨?_, hab⟩⟩
    rw [hz a ((h.led_mem x a).1 ha'.1) (by rw [ha'.2]; exact hk3), hz b ((h.led_mem x b).1 hb'.1) (by rw [hb'.2]; exact hk3)]
  have h3 : ∀ y, y ∈ ((h.led x).filter fun y => decide ((h.obj y).kind ≠ 1 ∧ (h.obj y).kind ≠ 2)).foldl (cIns h) [] → (h.obj y).kind = 3 := fun y hy => by
    have := ((coms h x).2 y).1 hy
    rcases this with e | e
    · have e' : y ∈ h.led x ∧ (h.obj y).kind ≠ 1 ∧ (h.obj y).kind ≠ 2 := by simpa using List.mem_filter.1 e
      rcases hk y ((h.led_mem x y).1 e'.1) with k | k | k
      · exact absurd k e'.2.1
      · exact absurd k e'.2.2
      · exact k
    · cases e
  unfold ordD
  refine List.pairwise_append.2 ⟨List.pairwise_append.2 ⟨hf 1 (by decide), hf 2 (by decide), fun a ha b hb => ?_⟩, ?_, fun a ha b hb => ?_⟩
  · have ha' : (h.obj a).kind = 1 := by simpa using (List.mem_filter.1 ha).2
    have hb' : (h.obj b).kind = 2 := by simpa using (List.mem_filter.1 hb).2
    exact .inl (by omega)
  · exact List.Pairwise.imp_of_mem (fun {a b} ha hb hab => .inr ⟨by rw [h3 a ha, h3 b hb], hab⟩) (coms h x).1
  · have hb' := h3 b hb
    rcases List.mem_append.1 ha with ha | ha
    · have ha' : (h.obj a).kind = 1 := by simpa using (List.mem_filter.1 ha).2
      exact .inl (by omega)
    · have ha' : (h.obj a).kind = 2 := by simpa using (List.mem_filter.1 ha).2
      exact .inl (by omega)
/-- whoever puts them in order has this one -/
theorem ordD_eq {h : Hp} {x : IdB} {L : List IdB} (hc : h.closed x = 0) (hz : ∀ y, h.Leads x y → (h.obj y).kind ≠ 3 → (h.obj y).number = 0) (hs : L.Pairwise (oLt h)) (hm : ∀ y, y ∈ L ↔ h.Leads x y) : L = ordD h x :=
  sorted_one (oLt_irrefl h) (oLt_asymm h) hs (ordD_sorted hc hz) fun y => (hm y).trans (ordD_mem h x y).symm
/-- one that goes, of a row -/
def lackGo (has : List IdB) (out : List IdB) (x : IdB) : List IdB := if x ∈ has ∨ x ∈ out then out else out ++ [x]
/-- what of a row is lacking, each once -/
def lackU (l has : List IdB) : List IdB := l.foldl (lackGo has) []
theorem lackU_step {l has : List IdB} {i : Nat} (hi : i < l.length) : lackU (l.take (i + 1)) has = lackGo has (lackU (l.take i) has) l[i] := by
  unfold lackU
  rw [List.take_succ_eq_append_getElem hi, List.foldl_append]; rfl
theorem lackGo_mem (has : List IdB) : ∀ (l out : List IdB) (y : IdB), y ∈ l.foldl (lackGo has) out ↔ y ∈ out ∨ y ∈ l ∧ y ∉ has
  | [], out, y => by simp
  | x :: l, out, y => by
    rw [List.foldl_cons, lackGo_mem has l, lackGo]
    split
    · rename_i c
      constructor
      · rintro (e | e)
        · exact .inl e
        · exact .inr ⟨List.mem_cons_of_mem _ e.1, e.2⟩
      · rintro (e | e)
        · exact .inl e
        · rcases List.mem_cons.1 e.1 with rfl | k
          · rcases c with c | c
            · exact absurd c e.2
            · exact .inl c
          · exact .inr ⟨k, e.2⟩
    · rename_i c
      have c1 : x ∉ has := fun k => c (.inl k)
      simp only [List.mem_append, List.mem_cons, List.not_mem_nil, or_false]
      constructor
      · rintro ((e | rfl) | e)
        · exact .inl e
        · exact .inr ⟨.inl rfl, c1⟩
        · exact .inr ⟨.inr e.1, e.2⟩
      · rintro (e | ⟨rfl | e, k⟩)
        · exact .inl (.inl e)
        · exact .inl (.inr rfl)
        · exact .inr ⟨e, k⟩
theorem lackU_mem (l has : List IdB) (y : IdB) : y ∈ lackU l has ↔ y ∈ l ∧ y ∉ has := by
  unfold lackU
  rw [lackGo_mem]
  simp
theorem lackGo_len (has : List IdB) : ∀ (l out : List IdB), (l.foldl (lackGo has) out).length ≤ out.length + l.length
  | [], _ => Nat.le_refl _
  | x :: l, out => by
    have h1 := lackGo_len has l (lackGo has out x)
    have h2 : (lackGo has out x).length ≤ out.length + 1 := by
      unfold lackGo
      split
      · exact Nat.le_succ _
      · rw [List.length_append]; exact Nat.le_refl _
    rw [List.foldl_cons, List.length_cons]
    omega
theorem lackU_len (l has : List IdB) : (lackU l has).length ≤ l.length := by
  have := lackGo_len has l []
  simpa [lackU] using this
/-- which Ids are met, once some of a row have been looked at -/
theorem lackU_met (l has : List IdB) (i : Nat) (y : IdB) : (y ∈ has ∨ y ∈ l.take i) ↔ (y ∈ has ∨ y ∈ lackU (l.take i) has) := by
  rw [lackU_mem]
  constructor
  · rintro (e | e)
    · exact .inl e
    · by_cases k : y ∈ has
      · exact .inl k
      · exact .inr ⟨e, k⟩
  · rintro (e | e)
    · exact .inl e
    · exact .inr e.1
end Go.Proofs.YtpcdihkcenfgkaaGreat
namespace Go.Proofs.YtpcdihkcenfgkaaGreat
open Go.Vc
def metI (l : List IdB) : List UInt8 → Option Bool := fun x => if x ∈ l then some true else none
theorem metI_nil : metI [] = fun _ => none := by funext x; simp [metI]
theorem metI_add (l : List IdB) (y : IdB) : setM (metI l) y true = metI (l ++ [y]) := by
  funext x
  unfold setM metI
  by_cases h1 : x = y
  · subst h1; simp
  · simp [h1]
theorem metI_tell {l : List IdB} {x : List UInt8} : tell Value.bool (.bool false) (metI l x) = .bool (decide (x ∈ l)) := by
  unfold metI
  by_cases h : x ∈ l
  · rw [if_pos h, decide_eq_true h]; rfl
  · rw [if_neg h, decide_eq_false h]; rfl
/-- what is handed over -/
def lackA (L : List IdB) (k : Nat) : Array Value := #[idV (L.getD k [])]
theorem lackGo_pre (H : List IdB) : ∀ (l out : List IdB), out <+: l.foldl (lackGo H) out
  | [], out => List.prefix_refl _
  | x :: l, out => by
    refine List.IsPrefix.trans ?_ (lackGo_pre H l (lackGo H out x))
    unfold lackGo
    split
    · exact List.prefix_refl _
    · exact List.prefix_append _ _
theorem lackU_pre (L H : List IdB) (i : Nat) : lackU (L.take i) H <+: lackU L H := by
  have := lackGo_pre H (L.drop i) (lackU (L.take i) H)
  have e : (L.drop i).foldl (lackGo H) (lackU (L.take i) H) = lackU L H := by
    unfold lackU
    rw [← List.foldl_append, List.take_append_drop]
  rw [e] at this
  exact this
theorem lackU_new {L H : List IdB} {i : Nat} (hi : i < L.length) (hn : ¬ L[i] ∈ H ++ L.take i) : (lackU (L.take i) H).length < (lackU L H).length ∧ lackA (lackU L H) (lackU (L.take i) H).length = #[idV L[i]] ∧ lackU (L.take (i + 1)) H = lackU (L.take i) H ++ [L[i]] := by
  have hn2 : ¬ (L[i] ∈ H ∨ L[i] ∈ lackU (L.take i) H) := fun k => hn (List.mem_append.2 ((lackU_met L H i _).2 k))
  have e : lackU (L.take (i + 1)) H = lackU (L.take i) H ++ [L[i]] := by rw [lackU_step hi, lackGo, if_neg hn2]
  have hp := lackU_pre L H (i + 1)
  rw [e] at hp
  obtain ⟨t, ht⟩ := hp
  have hlt : (lackU (L.take i) H).length < (lackU L H).length := by rw [← ht]; simp
  refine ⟨hlt, ?_, e⟩
  have hg : (lackU L H).getD (lackU (L.take i) H).length [] = L[i] := by
    rw [← ht, List.append_assoc]; simp
  rw [lackA, hg]
theorem lackU_old {L H : List IdB} {i : Nat} (hi : i < L.length) (hn : L[i] ∈ H ++ L.take i) : lackU (L.take (i + 1)) H = lackU (L.take i) H := by
  have hn2 : L[i] ∈ H ∨ L[i] ∈ lackU (L.take i) H := (lackU_met L H i _).1 (List.mem_append.1 hn)
  rw [lackU_step hi, lackGo, if_pos hn2]
theorem ids_lt {w : World} {p : Option Addr} {l : List IdB} (h : Sl w p l.length 32 (l.flatMap bytesU)) (_hi : ∀ x ∈ l, IdIn x) {b off : Nat} (hp : p = some ⟨b, off, none⟩) (hl : l.length ≠ 0) : b < w.heap.size := by
  rcases h.2 with h0 | ⟨b', off', h1, h2⟩
  · exact absurd h0 hl
  · rw [hp] at h1
    cases h1
    refine h2.lt fun e => ?_
    have := h.1
    rw [e] at this
    have : 0 = l.length * 32 := this
    omega
theorem going1_walk (w : World) {yl bh bl ch cl : Nat} {ph pl : Option Addr} {H L : List IdB} {F : Nat → Prop} {J Jx : Nat → (Nat → Prop) → World → Prop} (hC : Cons Tryz.prog yl w.heap.size (lackU L H).length (lackA (lackU L H)) J Jx) (hbh : Blk w bh 27 [.slice ph H.length ch]) (hbl : Blk w bl 27 [.slice pl L.length cl])
    (hsh : Sl w ph H.length 32 (H.flatMap bytesU)) (hsl : Sl w pl L.length 32 (L.flatMap bytesU)) (hHi : ∀ y ∈ H, IdIn y) (hLi : ∀ y ∈ L, IdIn y) (hHl : H.length < 9223372036854775808) (hLl : L.length < 9223372036854775808) (hpF : ∀ y off, pl = some ⟨y, off, none⟩ → L.length ≠ 0 → ¬ F y) (h0 : J 0 F w) :
    CallsV Tryz.prog 76 [.func (.yield yl) #[] #[], .pointer (some ⟨bh, 0, none⟩), .pointer (some ⟨bl, 0, none⟩)] w fun _ w' => ItQ w F (lackU L H).length J Jx w' := by
  have hslw := hsl
  refine calls_enter Tryz.func76 rfl rfl rfl rfl ?_
  have hX := Ext.refl F w
  have hFlt := hC.lt h0
  refine c_seq (c_region (wl (st_mm Value.bool rfl fun r9 w1 hr9 hM hE1 hs1 => ?_)))
  rw [← metI_nil] at hM
  have hX := hX.thenNo hE1
  have hJ := hC.st h0 hE1 fun _ e => e.elim
  have hF9 : ¬ F r9 := fun e => absurd (hFlt _ e) (by omega)
  have hZ := hE1
  refine wl_p I_ok rfl (wl_nil (f_then (c_seq (c_seq (c_region (wl (st_ld I_ok rfl ((hbh.extNo hZ).cell rfl) (wl_p I_ok rfl (wl_nil (f_then (c_block ?_)))))))))))
  refine c_loopK (α := Nat) [0, 2, 4, 10, 11] rfl (fun z => [(12, .int .i64 (z : Int))]) (fun z u => (z ≤ H.length ∧ J 0 F u ∧ MapB u r9 Value.bool (metI (H.take z)) ∧ Ext No w u) ∧ Ext F w u) (fun z u => H.length - z) (0) rfl ⟨⟨Nat.zero_le _, hJ, hM, hZ⟩, hX⟩ ?_
  rintro i w2 ⟨⟨hi, hJ, hM, hZ⟩, hX⟩
  refine c_seq (c_region (wl_p I_ok rfl (wl_nil (f_then (c_seq (c_if rfl (fun hc => ?_) (fun hc => ?_)))))))
  · have hi : i < H.length := by omega
    obtain ⟨qb, qoff, hp, hsq⟩ := (hsh.extNo hZ).rowAll (fun r hr => (hHi r hr).len) (by omega)
    rw [hp] at hsh ⊢
    have hyi := hHi _ (List.getElem_mem hi)
    refine c_skip (f_then (c_seq (c_block (c_seq (c_region (wl (st_ix I_ok rfl 32 rfl i rfl (by omega) (qoff + i * 32) rfl (wl (st_ldN I_ok rfl (hsq i hi) hyi.len (wl (st_al I_ok rfl fun b6 w3 hn6 hb6 hE3 => ?_)))))))))))
    have fr6 := Nat.le_trans hX.size hn6
    have hM := hM.extNo hE3
    have hZ := hZ.thenNo hE3
    have hJ := hC.st hJ hE3 fun _ e => e.elim
    have hX := hX.thenNo hE3
    have hG6 : ¬ F b6 := fun e => absurd (hFlt _ e) (by omega)
    have hb6o := hb6
    refine wl (st_stW (l' := bytesU H[i]) I_ok hb6 rfl rfl hyi.len (by rw [bytesU_len, hyi]; rfl) OneC.h fun w4 hb6 hE4 hs4 => ?_)
    have hM := hM.ext1 hE4 hb6o
    have hZ := hZ.thenNew hE4 fr6
    have hJ := hC.st hJ hE4 fun y e => by have e : y = b6 := e; subst e; exact ⟨fr6, hG6⟩
    have hX := hX.thenNew hE4 fr6
    refine wl_nil (f_then (c_region (wl_p I_ok rfl (wl (st_ldB I_ok hb6 rfl hyi.len (wl (st_mu I_ok rfl idK hyi rfl hM (b := true) rfl fun w5 hM2 hE5 hs5 => ?_)))))))
    rw [metI_add, show H.take i ++ [H[i]] = H.take (i + 1) from (List.take_succ_eq_append_getElem hi).symm] at hM2
    have hJ2 := hC.st hJ hE5 fun y e => by have e : y = r9 := e; subst e; exact ⟨hr9, hF9⟩
    have hZ2 := hZ.thenNew hE5 hr9
    have hX := hX.thenNew hE5 hr9
    refine wl_nil (f_blockN (f_then (c_region (wl_p I_ok rfl ?_))))
    rw [IntWalk.i64_in _ (by omega)]
    refine wl_nil ?_
    exact f_round (i + 1) rfl ⟨⟨hi, hJ2, hM2, hZ2⟩, hX⟩ (by first | omega | (dsimp only; omega))
  · have h0 : i = H.length := by omega
    subst h0
    rw [List.take_length] at hM
    refine c_exit (f_thenE (f_thenE (f_blockE (f_then (c_seq (c_region ?_))))))
    have hsl := hsl.extNo hZ
    refine wl (st_ld I_ok rfl ((hbl.extNo hZ).cell rfl) (wl_p I_ok rfl (wl_nil (f_then (c_block ?_)))))
    refine c_loopK (α := Nat × (Nat → Prop)) [0, 4, 19, 20] rfl (fun z => [(21, .int .i64 (z.1 : Int))]) (fun z u => (z.1 ≤ L.length ∧ J (lackU (L.take z.1) H).length z.2 u ∧ MapB u r9 Value.bool (metI (H ++ L.take z.1)) ∧ (∀ x, z.2 x → F x ∨ w.heap.size ≤ x) ∧ (¬ z.2 r9) ∧ Sl u pl L.length 32 (L.flatMap bytesU)) ∧ Ext F w u) (fun z u => L.length - z.1) (0, F) rfl ⟨⟨Nat.zero_le _, hJ, by rw [List.take_zero, List.append_nil]; exact hM, fun x hx => .inl hx, hF9, hsl⟩, hX⟩ ?_
    rintro ⟨i, G⟩ w6 ⟨⟨hi, hJ, hM, hG, hGr, hsl⟩, hX⟩
    try dsimp only
    dsimp only at hi hJ hM hG hGr
    refine c_seq (c_region (wl_p I_ok rfl (wl_nil (f_then (c_seq (c_if rfl (fun hc => ?_) (fun hc => ?_)))))))
    · have hi : i < L.length := by omega
      have hni := hLi _ (List.getElem_mem hi)
      obtain ⟨qb, qoff, hp, hsq⟩ := hsl.rowAll (fun r hr => (hLi r hr).len) (by omega)
      rw [hp] at hsl ⊢
      have hGlt := hC.lt hJ
      have hrl := hM.lt
      have hqF := hpF qb qoff hp (by omega)
      have hqw : qb < w.heap.size := ids_lt hslw hLi hp (by omega)
      refine c_skip (f_then (c_seq (c_block (c_seq (c_region (wl (st_ix I_ok rfl 32 rfl i rfl (by omega) (qoff + i * 32) rfl (wl (st_ldN I_ok rfl (hsq i hi) hni.len ?_)))))))))
      have hslA := hsl
      refine wl (st_al I_ok rfl fun b8 w7 hn8 hb8 hE7 => ?_)
      have fr8 := Nat.le_trans hX.size hn8
      have hM := hM.extNo hE7
      have hJ := hC.st hJ hE7 fun _ e => e.elim
      have hX := hX.thenNo hE7
      have hEa8 := hE7
      have hG8 : ¬ G b8 := fun e => absurd (hGlt _ e) (by omega)
      have hb8o := hb8
      refine wl (st_stW (l' := bytesU L[i]) I_ok hb8 rfl rfl hni.len (by rw [bytesU_len, hni]; rfl) OneC.h fun w8 hb8 hE8 hs8 => ?_)
      have hM := hM.ext1 hE8 hb8o
      have hJ := hC.st hJ hE8 fun y e => by have e : y = b8 := e; subst e; exact ⟨fr8, hG8⟩
      have hsl := hslA.extLt ((Ext.no hEa8).trans hE8 fun _ _ k => k) (fun y hy k => by have k : y = b8 := k; omega)
      have hX := hX.thenNew hE8 fr8
      refine wl_nil (f_then (c_seq ?_))
      refine c_cutK (α := Bool × (Nat → Prop)) [0, 4, 8, 19, 20, 21] rfl (fun z => [(34, .bool z.1)]) (fun z u => ((z.1 = false → J (lackU (L.take (i + 1)) H).length z.2 u) ∧ (z.1 = true → ∃ k, k < (lackU L H).length ∧ Jx k z.2 u) ∧ MapB u r9 Value.bool (metI (H ++ L.take i)) ∧ (∀ x, z.2 x → F x ∨ w.heap.size ≤ x) ∧ (¬ z.2 r9) ∧ (¬ z.2 b8) ∧ Sl u (some ⟨qb, qoff, none⟩) L.length 32 (L.flatMap bytesU)) ∧ Blk u b8 31 (bytesU L[i]) ∧ Ext F w u) ?_ ?_
      · refine c_regionI ?_
        refine wlw_p rfl I_ok rfl (wlw rfl (st_ldB I_ok hb8 rfl hni.len (wlw rfl (st_lu I_ok rfl idK hni rfl hM ?_))))
        simp only [Bool.false_eq_true, if_false]
        rw [show tell Value.bool ti4.zero (metI (H ++ L.take i) L[i]) = .bool (decide (L[i] ∈ H ++ L.take i)) from metI_tell]
        refine wlw_p rfl I_ok rfl (wlw_case 29 rfl (fun hg => ?_) (fun hg => ?_))
        · have hnm : ¬ L[i] ∈ H ++ L.take i := by simpa using hg
          obtain ⟨hkn, hka, hfe⟩ := lackU_new hi hnm
          refine wlw_pk rfl I_ok 1 rfl (wlw rfl (st_ldB I_ok hb8 rfl hni.len ?_))
          have hrd := hC.round hJ hkn
          rw [hka] at hrd
          refine wli_yield rfl rfl rfl rfl rfl rfl hrd fun y w9 hy => ?_
          obtain ⟨G2, hEy, hGy, hyt, hyf⟩ := hy
          have hX0 := hX.size
          have hb8l := hb8.lt
          have hX := hX.trans hEy fun x hx e => (hG x e).resolve_right (by omega)
          have hG2 : ∀ x, G2 x → F x ∨ w.heap.size ≤ x := fun x hx => (hGy x hx).elim (hG x) fun h => .inr (by omega)
          have hM := hM.ext hEy hGr
          have hb8 := hb8.ext hEy hG8
          have hGr2 : ¬ G2 r9 := fun e => (hGy _ e).elim hGr fun h => absurd hrl (by omega)
          have hG82 : ¬ G2 b8 := fun e => (hGy _ e).elim hG8 fun h => by omega
          have hsl := hsl.ext hEy fun b off e k => by cases e; exact (hG _ k).elim hqF (by omega)
          refine wlw_pk rfl I_ok 2 rfl (wli_nil ?_)
          exact f_cut (!y, G2) rfl ⟨⟨fun e => by have e : y = true := (by simpa using e); have k := hyt e; rw [hfe, List.length_append]; exact k, fun e => by have e : y = false := (by simpa using e); exact ⟨_, hkn, hyf e⟩, hM, hG2, hGr2, hG82, hsl⟩, hb8, hX⟩
        · have hnm : L[i] ∈ H ++ L.take i := by
            rcases Decidable.em (L[i] ∈ H ++ L.take i) with k | k
            · exact k
            · rw [decide_eq_false k] at hg; cases hg
          have hfe := lackU_old hi hnm
          refine wlw_pk rfl I_ok 5 rfl (wli_nil ?_)
          exact f_cut (false, G) rfl ⟨⟨fun _ => by rw [hfe]; exact hJ, (fun e => by cases e), hM, hG, hGr, hG8, hsl⟩, hb8, hX⟩
      rintro ⟨z, G2⟩ w10 ⟨⟨hJf, hJx, hM, hG, hGr, hG8, hsl⟩, hb8, hX⟩
      try dsimp only
      dsimp only at hJf hJx hG hGr hG8
      refine c_cond rfl (fun hc => ?_) (fun hc => ?_)
      · obtain ⟨k, hkk, hJx⟩ := hJx hc
        refine c_ret (f_thenR (f_blockR (f_thenR (f_thenR (f_blockR (f_ret0 rfl ?_))))))
        exact ⟨G2, hX, hG, .inr ⟨k, hkk, hJx⟩⟩
      · have hJ := hJf hc
        refine c_skip (f_then (c_region (wl_p I_ok rfl (wl (st_ldB I_ok hb8 rfl hni.len (wl (st_mu I_ok rfl idK hni rfl hM (b := true) rfl fun w11 hM2 hE11 hs11 => ?_)))))))
        rw [metI_add, show (H ++ L.take i) ++ [L[i]] = H ++ L.take (i + 1) from by rw [List.append_assoc, ← List.take_succ_eq_append_getElem hi]] at hM2
        have hJ2 := hC.st hJ hE11 fun y e => by have e : y = r9 := e; subst e; exact ⟨hr9, hGr⟩
        have hslq : ∀ b off, (some ⟨qb, qoff, none⟩ : Option Addr) = some ⟨b, off, none⟩ → ¬ One r9 b := fun b off e k => by cases e; have k : qb = r9 := k; omega
        have hsl := hsl.ext hE11 hslq
        have hX := hX.thenNew hE11 hr9
        refine wl_nil (f_blockN (f_then (c_region (wl_p I_ok rfl ?_))))
        rw [IntWalk.i64_in _ (by omega)]
        refine wl_nil ?_
        exact f_round (i + 1, G2) rfl ⟨⟨hi, hJ2, hM2, hG, hGr, hsl⟩, hX⟩ (by first | omega | (dsimp only; omega))
    · have h0 : i = L.length := by omega
      subst h0
      rw [List.take_length] at hJ hM
      refine c_exit (f_thenE (f_thenE (f_blockE (f_end0 rfl ?_))))
      exact ⟨G, hX, hG, .inl hJ⟩
theorem going1_iter (w : World) {bh bl ch cl : Nat} {ph pl : Option Addr} {H L : List IdB} (hbh : Blk w bh 27 [.slice ph H.length ch]) (hbl : Blk w bl 27 [.slice pl L.length cl])
    (hsh : Sl w ph H.length 32 (H.flatMap bytesU)) (hsl : Sl w pl L.length 32 (L.flatMap bytesU)) (hHi : ∀ y ∈ H, IdIn y) (hLi : ∀ y ∈ L, IdIn y) (hHl : H.length < 9223372036854775808) (hLl : L.length < 9223372036854775808) :
    Iter Tryz.prog 76 [.pointer (some ⟨bh, 0, none⟩), .pointer (some ⟨bl, 0, none⟩)] (lackU L H).length (lackA (lackU L H)) (fun y => ∃ off, pl = some ⟨y, off, none⟩ ∧ L.length ≠ 0) w :=
  fun _ _ _ _ hC h0 hown => going1_walk w hC hbh hbl hsh hsl hHi hLi hHl hLl (fun y off e k => hown y ⟨off, e, k⟩) h0
theorem going_calls (w : World) {pl ph : Option Addr} {cl ch : Nat} {L H : List IdB} :
    CallsV Tryz.prog 45 [.slice pl L.length cl, .slice ph H.length ch] w fun v w' => ∃ bl bh, v = .func (.func 76) #[] #[.pointer (some ⟨bh, 0, none⟩), .pointer (some ⟨bl, 0, none⟩)] ∧ w.heap.size ≤ bl ∧ w.heap.size ≤ bh ∧ Blk w' bl 27 [.slice pl L.length cl] ∧ Blk w' bh 27 [.slice ph H.length ch] ∧ Ext No w w' := by
  refine calls_enter Tryz.func45 rfl rfl rfl rfl ?_
  have hX := Ext.refl No w
  refine c_seq (c_region (wl (st_al I_ok rfl fun b2 w1 hn2 hb2 hE1 => ?_)))
  have fr2 := Nat.le_trans hX.size hn2
  have hX := hX.thenNo hE1
  have hb2 : Blk w1 b2 27 ([.slice pl L.length cl]) := hb2
  refine wl (st_al I_ok rfl fun b3 w2 hn3 hb3 hE2 => ?_)
  have fr3 := Nat.le_trans hX.size hn3
  have hb2 := hb2.extNo hE2
  have hX := hX.thenNo hE2
  have hb3 : Blk w2 b3 27 ([.slice ph H.length ch]) := hb3
  refine wl_p I_ok rfl (wl_nil (f_then (c_seq (c_region (wl_p I_ok rfl (wl_nil (f_then (c_ret (f_ret1 rfl rfl ?_)))))))))
  exact ⟨b2, b3, rfl, fr2, fr3, hb2, hb3, hX⟩
end Go.Proofs.YtpcdihkcenfgkaaGreat
namespace Go.Proofs.YtpcdihkcenfgkaaGreat
open Go.Vc
/-- a row of objects in memory of their own: what one holds is older than what a later one holds -/
structure OutQ (W u : World) (q : Option Addr) (k : Nat) (L : List ObjX) : Prop where
  own : Own u q L.length k 48 73 (L.flatMap objX)
  nw : ∀ y, OwnB q y → W.heap.size ≤ y
  new : ∀ x ∈ L, ObjNew W u x.1 x.2
  ap : L.Pairwise fun x y => ∀ b c, ObjF x.2 b → ObjF y.2 c → b < c
  ins : ∀ x ∈ L, ObjIn x.1 ∧ Short x.1
abbrev OutB (q : Option Addr) (L : List ObjX) : Nat → Prop := fun x => OwnB q x ∨ ∃ o ∈ L, ObjF o.2 x
theorem ObjNew.ltF {W0 w : World} {o : ObjD} {a : ObjP} (h : ObjNew W0 w o a) : ∀ x, ObjF a x → x < w.heap.size := fun x hx => by
  rcases hx with k | k | k
  · exact h.ol.lt k
  · exact h.op.lt k
  · exact h.or.lt k
theorem ObjNew.geF {W0 w : World} {o : ObjD} {a : ObjP} (h : ObjNew W0 w o a) : ∀ x, ObjF a x → W0.heap.size ≤ x := fun x hx => by
  rcases hx with k | k | k
  · exact h.nl x k
  · exact h.np x k
  · exact h.nr x k
theorem ObjNew.extS {W0 w w' : World} {o : ObjD} {a : ObjP} (h : ObjNew W0 w o a) {S : Nat → Prop} (hE : Ext S w w') (hS : ∀ x, ObjF a x → ¬ S x) : ObjNew W0 w' o a :=
  ⟨h.ol.ext hE fun x k => hS x (.inl k), h.op.ext hE fun x k => hS x (.inr (.inl k)), h.or.ext hE fun x k => hS x (.inr (.inr k)), h.nl, h.np, h.nr⟩
theorem ObjNew.extO {W0 w w' : World} {o : ObjD} {a : ObjP} (h : ObjNew W0 w o a) {q : Option Addr} {n c T sz : Nat} {xs : List Value} (ho : Own w q n c T sz xs) (hE : Ext (OwnB q) w w') (h1 : 50 ≠ T) (h2 : 31 ≠ T) (h3 : 102 ≠ T) : ObjNew W0 w' o a := h.extS hE fun x hx e => by
  obtain ⟨L2, k2⟩ := ho.blkAt e
  rcases hx with k | k | k
  · obtain ⟨L1, k1⟩ := h.ol.blkAt k; exact absurd (k1.uniq k2).2 h1
  · obtain ⟨L1, k1⟩ := h.op.blkAt k; exact absurd (k1.uniq k2).2 h2
  · obtain ⟨L1, k1⟩ := h.or.blkAt k; exact absurd (k1.uniq k2).2 h3
theorem OutQ.ext {W u u' : World} {q : Option Addr} {k : Nat} {L : List ObjX} (h : OutQ W u q k L) {S : Nat → Prop} (hE : Ext S u u') (hS : ∀ x, OutB q L x → ¬ S x) : OutQ W u' q k L :=
  ⟨h.own.ext hE fun x hx => hS x (.inl hx), h.nw, fun x hx => (h.new x hx).extS hE fun y hy => hS y (.inr ⟨x, hx, hy⟩), h.ap, h.ins⟩
theorem OutQ.extNo {W u u' : World} {q : Option Addr} {k : Nat} {L : List ObjX} (h : OutQ W u q k L) (hE : Ext No u u') : OutQ W u' q k L := h.ext hE fun _ _ => id
theorem OutQ.lt {W u : World} {q : Option Addr} {k : Nat} {L : List ObjX} (h : OutQ W u q k L) : ∀ x, OutB q L x → x < u.heap.size := fun x hx => by
  rcases hx with k | ⟨o, ho, k⟩
  · exact h.own.lt k
  · exact (h.new o ho).ltF x k
theorem OutQ.nil (W u : World) : OutQ W u none 0 [] := ⟨Own.nil _ _ _, noOwn, fun _ h => (by cases h), .nil, fun _ h => (by cases h)⟩
theorem OutQ.older {W W0 u : World} {q : Option Addr} {k : Nat} {L : List ObjX} (h : OutQ W u q k L) (hW : W0.heap.size ≤ W.heap.size) : OutQ W0 u q k L := ⟨h.own, fun y hy => Nat.le_trans hW (h.nw y hy), fun x hx => (h.new x hx).older hW, h.ap, h.ins⟩
theorem OutQ.one {W u u' : World} {q : Option Addr} {k : Nat} {L : List ObjX} (h : OutQ W u q k L) {b T : Nat} {l : List Value} (hE : Ext (One b) u u') (hb : Blk u b T l) (h0 : 48 ≠ T) (h1 : 50 ≠ T) (h2 : 31 ≠ T) (h3 : 102 ≠ T) : OutQ W u' q k L :=
  ⟨h.own.extTy hE hb h0, h.nw, fun x hx => (h.new x hx).ext1 hE hb h1 h2 h3, h.ap, h.ins⟩
theorem OutQ.snoc {W u u' : World} {q q2 : Option Addr} {k k2 n : Nat} {L : List ObjX} {o : ObjD} {a : ObjP} (h : OutQ W u q k L) (hN : ObjNew W u o a) (hlt : ∀ x ∈ L, ∀ b, ObjF x.2 b → b < n) (hge : ∀ c, ObjF a c → n ≤ c) (hi : ObjIn o ∧ Short o) (hE : Ext (OwnB q) u u')
    (ho : Own u' q2 (L.length + 1) k2 48 73 (L.flatMap objX ++ objC o a)) (hB : ∀ b, OwnB q2 b → OwnB q b ∨ u.heap.size ≤ b) (hW : W.heap.size ≤ u.heap.size) : OutQ W u' q2 k2 (L ++ [(o, a)]) := by
  refine ⟨?_, fun y hy => (hB y hy).elim (h.nw y) fun e => Nat.le_trans hW e, fun x hx => ?_, List.pairwise_append.2 ⟨h.ap, List.pairwise_singleton _ _, fun x hx y hy b c hb hc => ?_⟩, fun x hx => ?_⟩
  · rw [List.length_append, List.flatMap_append, List.flatMap_singleton]; exact ho
  · rcases List.mem_append.1 hx with hx | hx
    · exact (h.new x hx).extO h.own hE (by decide) (by decide) (by decide)
    · rw [List.mem_singleton.1 hx]; exact hN.extO h.own hE (by decide) (by decide) (by decide)
  · rw [List.mem_singleton.1 hy] at hc
    have := hlt x hx b hb
    have := hge c hc
    omega
  · rcases List.mem_append.1 hx with hx | hx
    · exact h.ins x hx
    · rw [List.mem_singleton.1 hx]; exact hi
/-- Send's error -/
def sendE (h : Hp) (U : List IdB) (n : Int) : Int := if n < 1 then 2 else ((U.take n.toNat).find? fun y => decide (h.err y ≠ 0)).elim 0 h.err
/-- what goes -/
def sendO (h : Hp) (U : List IdB) (n : Int) : List ObjD := if sendE h U n = 0 then (U.take n.toNat).map h.obj else []
theorem sendE_arg {h : Hp} {U : List IdB} {n : Int} (hn : n < 1) : sendE h U n = 2 := if_pos hn
theorem sendE_ok {h : Hp} {U : List IdB} {m : Nat} (hm : 0 < m) (ho : ∀ y ∈ U.take m, h.err y = 0) : sendE h U (m : Int) = 0 ∧ sendO h U (m : Int) = (U.take m).map h.obj := by
  have e : sendE h U (m : Int) = 0 := by
    rw [sendE, if_neg (by omega), show ((m : Int)).toNat = m from by omega, List.find?_eq_none.2 fun y hy => by simp [ho y hy]]; rfl
  refine ⟨e, ?_⟩
  rw [sendO, if_pos e, show ((m : Int)).toNat = m from by omega]
theorem sendE_bad {h : Hp} {U : List IdB} {m k : Nat} (hk : k < m) (ho : ∀ y ∈ U.take k, h.err y = 0) {y : IdB} (hy : U[k]? = some y) (he : h.err y ≠ 0) : sendE h U (m : Int) = h.err y ∧ sendO h U (m : Int) = [] := by
  obtain ⟨hkl, hy⟩ := List.getElem?_eq_some_iff.1 hy
  have e : sendE h U (m : Int) = h.err y := by
    have hf : (U.take m).find? (fun y => decide (h.err y ≠ 0)) = some y := by
      rw [List.find?_eq_some_iff_append]
      refine ⟨by simpa using he, U.take k, (U.take m).drop (k + 1), ?_, fun z hz => by simp [ho z hz]⟩
      have h1 : k < (U.take m).length := by rw [List.length_take]; omega
      have h2 : (U.take m)[k] = y := by rw [List.getElem_take]; exact hy
      rw [← h2, ← List.drop_eq_getElem_cons h1]
      have h3 : U.take k = (U.take m).take k := by rw [List.take_take, Nat.min_eq_left (by omega)]
      rw [h3, List.take_append_drop]
    rw [sendE, if_neg (by omega), show ((m : Int)).toNat = m from by omega, hf]; rfl
  exact ⟨e, if_neg (by rw [e]; exact he)⟩
structure SendJ (W u : World) (h : Hp) (U : List IdB) (n b8 b9 b10 k : Nat) (z : List ObjX × Option Addr × Nat) : Prop where
  o : OutQ W u z.2.1 z.2.2 z.1
  e : z.1.map Prod.fst = (U.take k).map h.obj
  ok : ∀ y ∈ U.take k, h.err y = 0
  kn : k ≤ n
  c10 : Blk u b10 38 [.slice z.2.1 z.1.length z.2.2]
  c8 : Blk u b8 38 [.slice none 0 0]
  c9 : Blk u b9 32 [.int .i64 0]
structure SendX (W u : World) (h : Hp) (U : List IdB) (n b8 b9 b10 k : Nat) : Prop where
  kn : k < n
  ok : ∀ y ∈ U.take k, h.err y = 0
  at_ : ∃ y, U[k]? = some y ∧ h.err y ≠ 0 ∧ Blk u b9 32 [.int .i64 (h.err y)]
  c8 : Blk u b8 38 [.slice none 0 0]
  c10 : b10 < u.heap.size
def sendC (w : World) (h : Hp) (U : List IdB) (n b8 b9 b10 : Nat) : CoS (List ObjX × Option Addr × Nat) w where
  Fp := fun z x => ((x = b8 ∨ x = b9) ∨ x = b10) ∨ OutB z.2.1 z.1 x
  J := fun k z u => SendJ w u h U n b8 b9 b10 k z
  Jx := fun k c z u => (c = .exit 0 ∧ k = n ∧ SendJ w u h U n b8 b9 b10 k z) ∨ (c = .ret ∧ z = ([], none, 0) ∧ SendX w u h U n b8 b9 b10 k)
  st := fun ⟨h1, h2, h3, h4, h5, h6, h7⟩ hE hS => ⟨h1.ext hE fun x hx e => (hS x e).2 (.inr hx), h2, h3, h4, h5.ext hE fun e => (hS _ e).2 (.inl (.inr rfl)), h6.ext hE fun e => (hS _ e).2 (.inl (.inl (.inl rfl))), h7.ext hE fun e => (hS _ e).2 (.inl (.inl (.inr rfl)))⟩
  stx := fun h hE hS => by
    rcases h with ⟨e, e2, h1, h2, h3, h4, h5, h6, h7⟩ | ⟨e, ez, h1, h2, ⟨y, a1, a2, a3⟩, h4, h5⟩
    · exact .inl ⟨e, e2, h1.ext hE fun x hx e => (hS x e).2 (.inr hx), h2, h3, h4, h5.ext hE fun e => (hS _ e).2 (.inl (.inr rfl)), h6.ext hE fun e => (hS _ e).2 (.inl (.inl (.inl rfl))), h7.ext hE fun e => (hS _ e).2 (.inl (.inl (.inr rfl)))⟩
    · exact .inr ⟨e, ez, h1, h2, ⟨y, a1, a2, a3.ext hE fun e => (hS _ e).2 (.inl (.inl (.inr rfl)))⟩, h4.ext hE fun e => (hS _ e).2 (.inl (.inl (.inl rfl))), Nat.lt_of_lt_of_le h5 hE.size⟩
  lt := fun h x e => by
    rcases e with ((rfl | rfl) | rfl) | e
    · exact h.c8.lt
    · exact h.c9.lt
    · exact h.c10.lt
    · exact h.o.lt x e
  ltx := fun h x e => by
    rcases h with ⟨_, _, h⟩ | ⟨_, rfl, h⟩
    · rcases e with ((rfl | rfl) | rfl) | e
      · exact h.c8.lt
      · exact h.c9.lt
      · exact h.c10.lt
      · exact h.o.lt x e
    · rcases e with ((rfl | rfl) | rfl) | e
      · exact h.c8.lt
      · exact h.at_.elim fun y a => a.2.2.lt
      · exact h.c10
      · exact (OutQ.nil w _).lt x e
end Go.Proofs.YtpcdihkcenfgkaaGreat
namespace Go.Proofs.YtpcdihkcenfgkaaGreat
open Go.Vc
theorem send_calls (w : World) {p pl ph : Option Addr} {c cl ch : Nat} {M : List HeldT} {L H : List IdB} (h : HpIn w p M) (hsl : Sl w pl L.length 32 (L.flatMap bytesU)) (hsh : Sl w ph H.length 32 (H.flatMap bytesU)) (hLi : ∀ y ∈ L, IdIn y) (hHi : ∀ y ∈ H, IdIn y) (hLl : L.length < 100000000) (hHl : H.length < 100000000) (n : Int) :
    CallsV Tryz.prog 13 [.agg #[.slice p M.length c], .slice pl L.length cl, .slice ph H.length ch, .int .i64 n] w fun v w' => ∃ q k out, v = .tuple #[.slice q out.length k, .int .i64 (sendE (toHp M) (lackU L H) n)] ∧ out.map Prod.fst = sendO (toHp M) (lackU L H) n ∧ OutQ w w' q k out ∧ Ext No w w' := by
  refine calls_enterM Tryz.func13 rfl rfl rfl rfl ?_
  have hX := Ext.refl No w
  refine c_seq (c_region (wl (st_al I_ok rfl fun b4 w1 hn4 hb4 hE1 => ?_)))
  have fr4 := Nat.le_trans hX.size hn4
  have hX := hX.thenNo hE1
  have hb4 : Blk w1 b4 26 ([.slice p M.length c]) := hb4
  refine wl (st_al I_ok rfl fun b7 w2 hn7 hb7 hE2 => ?_)
  have ne4_7 : b4 ≠ b7 := Nat.ne_of_lt (Nat.lt_of_lt_of_le hb4.lt hn7)
  have fr7 := Nat.le_trans hX.size hn7
  have hb4 := hb4.extNo hE2
  have hX := hX.thenNo hE2
  have hb7 : Blk w2 b7 3 ([.int .i64 n]) := hb7
  refine wl (st_al I_ok rfl fun b8 w3 hn8 hb8 hE3 => ?_)
  have ne4_8 : b4 ≠ b8 := Nat.ne_of_lt (Nat.lt_of_lt_of_le hb4.lt hn8)
  have ne7_8 : b7 ≠ b8 := Nat.ne_of_lt (Nat.lt_of_lt_of_le hb7.lt hn8)
  have fr8 := Nat.le_trans hX.size hn8
  have hb4 := hb4.extNo hE3
  have hb7 := hb7.extNo hE3
  have hX := hX.thenNo hE3
  have hb8 : Blk w3 b8 38 ([.slice none 0 0]) := hb8
  refine wl (st_al I_ok rfl fun b9 w4 hn9 hb9 hE4 => ?_)
  have ne4_9 : b4 ≠ b9 := Nat.ne_of_lt (Nat.lt_of_lt_of_le hb4.lt hn9)
  have ne7_9 : b7 ≠ b9 := Nat.ne_of_lt (Nat.lt_of_lt_of_le hb7.lt hn9)
  have ne8_9 : b8 ≠ b9 := Nat.ne_of_lt (Nat.lt_of_lt_of_le hb8.lt hn9)
  have fr9 := Nat.le_trans hX.size hn9
  have hb4 := hb4.extNo hE4
  have hb7 := hb7.extNo hE4
  have hb8 := hb8.extNo hE4
  have hX := hX.thenNo hE4
  have hb9 : Blk w4 b9 32 ([.int .i64 0]) := hb9
  refine wl_nil (f_then (c_seq (c_seq (c_region (wl (st_ldb I_ok hb7 rfl rfl (wl_p I_ok rfl (wl_nil (f_then (c_if rfl (fun hc => ?_) (fun hc => ?_)))))))))))
  · have hn1 : n < 1 := hc
    refine c_seq (c_region (wl (st_st I_ok hb8 rfl rfl rfl fun w5 hb8 hE5 hs5 => ?_)))
    have hb4 := hb4.ext1 hE5 ne4_8
    have hb7 := hb7.ext1 hE5 ne7_8
    have hb9 := hb9.ext1 hE5 ne8_9.symm
    have hX := hX.thenNew hE5 fr8
    refine wl (st_st I_ok hb9 rfl rfl rfl fun w6 hb9 hE6 hs6 => ?_)
    have hb4 := hb4.ext1 hE6 ne4_9
    have hb7 := hb7.ext1 hE6 ne7_9
    have hb8 := hb8.ext1 hE6 ne8_9
    have hX := hX.thenNew hE6 fr9
    have hb9 : Blk w6 b9 32 ([.int .i64 2]) := hb9
    refine wl_nil (f_then (c_ret (f_thenR (f_retMs [] (by simp) (fun x hx => by cases hx) [.slice none 0 0, .int .i64 2] (fun w20 hE20 => ?_) (.inl rfl)))))
    refine ⟨⟨⟨b8, 0, rfl, ld_one I_ok rfl rfl ((hb8.ext hE20 (by simp)).cell rfl)⟩, ⟨b9, 0, rfl, ld_one I_ok rfl rfl ((hb9.ext hE20 (by simp)).cell rfl)⟩, trivial⟩, none, 0, [], by rw [sendE_arg hn1]; rfl, by rw [sendO, sendE_arg hn1]; rfl, OutQ.nil _ _, hX.trans hE20 fun x hx e => by simp at e⟩
  · obtain ⟨m, hm⟩ : ∃ m : Nat, n = (m : Int) := ⟨n.toNat, by omega⟩
    have hm0 : 0 < m := by omega
    rw [hm] at hb7 ⊢
    refine c_skip (f_then (c_seq (c_region (wl (st_al I_ok rfl fun b10 w7 hn10 hb10 hE7 => ?_)))))
    have ne4_10 : b4 ≠ b10 := Nat.ne_of_lt (Nat.lt_of_lt_of_le hb4.lt hn10)
    have ne7_10 : b7 ≠ b10 := Nat.ne_of_lt (Nat.lt_of_lt_of_le hb7.lt hn10)
    have ne8_10 : b8 ≠ b10 := Nat.ne_of_lt (Nat.lt_of_lt_of_le hb8.lt hn10)
    have ne9_10 : b9 ≠ b10 := Nat.ne_of_lt (Nat.lt_of_lt_of_le hb9.lt hn10)
    have fr10 := Nat.le_trans hX.size hn10
    have hb4 := hb4.extNo hE7
    have hb7 := hb7.extNo hE7
    have hb8 := hb8.extNo hE7
    have hb9 := hb9.extNo hE7
    have hX := hX.thenNo hE7
    have hb10 : Blk w7 b10 38 ([.slice none 0 0]) := hb10
    refine wl_nil (f_then (c_seq (c_seq (c_region (wl_p I_ok rfl (wl (st_call Tryz.call45 rfl rfl rfl rfl rfl rfl (going_calls w7 (pl := pl) (ph := ph) (L := L) (H := H)) fun v8 w8 hr8 => ?_)))))))
    obtain ⟨bl, bh, rfl, hbln, hbhn, hbl, hbh, hE8⟩ := hr8
    have hb4 := hb4.extNo hE8
    have hb7 := hb7.extNo hE8
    have hb8 := hb8.extNo hE8
    have hb9 := hb9.extNo hE8
    have hb10 := hb10.extNo hE8
    have hX := hX.thenNo hE8
    refine wl_nil (f_then (c_block ?_))
    have hXw := hX
    have hXs := hX.size
    have hl8 := hb8.lt
    have hl9 := hb9.lt
    have hl10 := hb10.lt
    have hb4w := hb4
    have hb7w := hb7
    refine c_iter (sendC w8 (toHp M) (lackU L H) m b8 b9 b10) (([], none, 0)) rfl Tryz.call76 rfl (fun _ => rfl) (fun w1 hE1 => going1_iter w1 (hbh.extNo hE1) (hbl.extNo hE1) ((hsh.extNo hXw).extNo hE1) ((hsl.extNo hXw).extNo hE1) hHi hLi (by omega) (by omega)) (fun x ⟨off, e, hne⟩ => by have k := ids_lt hsl hLi e hne; exact ⟨by omega, fun e => by rcases e with ((e | e) | e) | e | ⟨_, e, _⟩; omega; omega; omega; cases e; cases e⟩) ⟨OutQ.nil _ _, rfl, fun _ hy => (by simp at hy), Nat.zero_le _, hb10, hb8, hb9⟩ (fun l DD r k z W hRd hJ hk => ?_) (fun DD z W hJ hE hsub hDn hmk hnd => ?_) (fun DD k c z W hk hJ hE hsub hDn hmk hnd => ?_)
    · have hLr := hRd.l
      obtain ⟨out, q, kq⟩ := z
      obtain ⟨hO, hOe, hok, hkn, hb10, hb8, hb9⟩ := hJ
      dsimp only at hO hOe hok hkn hb10 hb8 hb9
      have hb4 := hb4w.ext hRd.X (fun e => by rcases e with ((e | e) | e) | e | ⟨_, e, _⟩; exact ne4_8 e; exact ne4_9 e; exact ne4_10 e; cases e; cases e)
      have hb7 := hb7w.ext hRd.X (fun e => by rcases e with ((e | e) | e) | e | ⟨_, e, _⟩; exact ne7_8 e; exact ne7_9 e; exact ne7_10 e; cases e; cases e)
      have hXW : Ext No w W := hXw.trans hRd.X fun x hx e => by rcases e with ((e | e) | e) | e | ⟨_, e, _⟩; omega; omega; omega; cases e; cases e
      have hXW0 := hXW.size
      have hOl := hO.lt
      have hol : out.length = k := by have := congrArg List.length hOe; rw [List.length_map, List.length_map, List.length_take] at this; omega
      obtain ⟨y, hyk⟩ : ∃ y, y = (lackU L H)[k] := ⟨_, rfl⟩
      have hya : (lackU L H)[k]? = some y := by rw [hyk, List.getElem?_eq_getElem hk]
      rw [show lackA (lackU L H) k = #[idV y] from by rw [lackA, List.getD_eq_getElem?_getD, hya]; rfl]
      have hyi : IdIn y := hLi y ((lackU_mem L H y).1 (by rw [hyk]; exact List.getElem_mem hk)).1
      have hoi := h.objIn y
      have hos := h.objSh y
      have hUt : (lackU L H).take (k + 1) = (lackU L H).take k ++ [y] := by rw [List.take_succ_eq_append_getElem hk, ← hyk]
      have nl4 := hb4.neL hLr
      have nl7 := hb7.neL hLr
      have nl8 := hb8.neL hLr
      have nl9 := hb9.neL hLr
      have nl10 := hb10.neL hLr
      have hX : Ext (fun x => (((x = b8 ∨ x = b9) ∨ x = b10) ∨ OutB q out x) ∨ x = l) W W := Ext.refl _ _
      refine ci_region (wli (.round _) rfl (st_al I_ok rfl fun b11 w9 hn11 hb11 hE9 => ?_))
      have ne4_11 : b4 ≠ b11 := Nat.ne_of_lt (Nat.lt_of_lt_of_le hb4.lt hn11)
      have ne7_11 : b7 ≠ b11 := Nat.ne_of_lt (Nat.lt_of_lt_of_le hb7.lt hn11)
      have ne8_11 : b8 ≠ b11 := Nat.ne_of_lt (Nat.lt_of_lt_of_le hb8.lt hn11)
      have ne9_11 : b9 ≠ b11 := Nat.ne_of_lt (Nat.lt_of_lt_of_le hb9.lt hn11)
      have ne10_11 : b10 ≠ b11 := Nat.ne_of_lt (Nat.lt_of_lt_of_le hb10.lt hn11)
      have fr11 := Nat.le_trans hX.size hn11
      have hb4 := hb4.extNo hE9
      have hb7 := hb7.extNo hE9
      have hb8 := hb8.extNo hE9
      have hb9 := hb9.extNo hE9
      have hb10 := hb10.extNo hE9
      have hO := hO.extNo hE9
      have hXW := hXW.thenNo hE9
      have hLr := hl_ext hLr hE9 id
      have hX := hX.thenNo hE9
      have nl11 := hb11.neL hLr
      refine wli (.round _) rfl (st_stW (l' := bytesU y) I_ok hb11 rfl rfl (by rw [bytesU_len, hyi]) (by rw [bytesU_len, hyi]; rfl) OneC.h fun w10 hb11 hE10 hs10 => ?_)
      have hb4 := hb4.ext1 hE10 ne4_11
      have hb7 := hb7.ext1 hE10 ne7_11
      have hb8 := hb8.ext1 hE10 ne8_11
      have hb9 := hb9.ext1 hE10 ne9_11
      have hb10 := hb10.ext1 hE10 ne10_11
      have hO := hO.ext hE10 (fun x hx e => by have := hOl x hx; have e : x = b11 := e; omega)
      have hXW := hXW.thenNew hE10 (Nat.le_trans hXW0 fr11)
      have hLr := hl_ext hLr hE10 nl11.symm
      have hX := hX.thenNew hE10 fr11
      refine wli_nil (fin_begin hRd hLr fun w11 hE11 hL11 => ?_)
      have hb4 := hb4.extL hLr hE11
      have hb7 := hb7.extL hLr hE11
      have hb8 := hb8.extL hLr hE11
      have hb9 := hb9.extL hLr hE11
      have hb10 := hb10.extL hLr hE11
      have hb11 := hb11.extL hLr hE11
      have hO := hO.ext hE11 (fun x hx e => by have e : x = l := e; subst e; exact (hRd.fp _ (.inr hx)).1 rfl)
      have hXW := hXW.thenNew hE11 (Nat.le_trans hXs hRd.lo.1)
      have hLr := hL11
      have hX := hX.then (hE11.mono fun x _ e => .inr e)
      refine ci_block (ci_seq (ci_seq (ci_region (wli (.round _) rfl (st_ldb I_ok hb10 rfl rfl (wli_pR I_ok rfl (wli (.round _) rfl (st_ldb I_ok hb7 rfl rfl (wli_pR I_ok rfl (wli_nil (fi_then (ci_if rfl (fun hc => ?_) (fun hc => ?_)))))))))))))
      · have hkm : k = m := by have hc : (out.length : Int) = (m : Int) := hc; omega
        refine ci_exit ?_
        exact f_thenE (f_blockE' rfl (fin_stop (.inr ⟨0, rfl, rfl⟩) ((out, q, kq)) hRd hLr hX (fun x hx => .inl hx) (.inl ⟨rfl, hkm, hO, hOe, hok, hkn, hb10, hb8, hb9⟩)))
      · have hkm : k < m := by have hc : ¬ (out.length : Int) = (m : Int) := hc; omega
        refine ci_skip (fi_then (ci_seq (ci_region (wli (.round _) rfl (st_ldB I_ok hb4 rfl rfl (wli (.round _) rfl (st_ldB I_ok hb11 rfl (by rw [bytesU_len, hyi]) ?_)))))))
        obtain ⟨N1, hN1⟩ : ∃ N1, N1 = w11.heap.size := ⟨_, rfl⟩
        have hOlt : ∀ x ∈ out, ∀ b, ObjF x.2 b → b < N1 := fun x hx b hb => by rw [hN1]; exact (hO.new x hx).ltF b hb
        have hWN : W.heap.size ≤ N1 := by rw [hN1]; exact hX.size
        have hwN := Nat.le_trans hRd.X.size hX.size
        refine wli (.round _) rfl (st_call Tryz.call20 rfl rfl rfl rfl rfl rfl (getD_calls w11 (h.extNo hXW) hyi) fun v12 w12 hr12 => ?_)
        obtain ⟨a2, rfl, hN, hE12⟩ := hr12
        have hb4 := hb4.extNo hE12
        have hb7 := hb7.extNo hE12
        have hb8 := hb8.extNo hE12
        have hb9 := hb9.extNo hE12
        have hb10 := hb10.extNo hE12
        have hb11 := hb11.extNo hE12
        have hO := hO.extNo hE12
        have hXW := hXW.thenNo hE12
        have hLr := hl_ext hLr hE12 id
        have hX := hX.thenNo hE12
        have hNg := hN.geF
        rw [← hN1] at hNg
        have hN := hN.older hwN
        refine wli_pR I_ok rfl (wli (.round _) rfl (st_al I_ok rfl fun b12 w13 hn12 hb12 hE13 => ?_))
        have ne4_12 : b4 ≠ b12 := Nat.ne_of_lt (Nat.lt_of_lt_of_le hb4.lt hn12)
        have ne7_12 : b7 ≠ b12 := Nat.ne_of_lt (Nat.lt_of_lt_of_le hb7.lt hn12)
        have ne8_12 : b8 ≠ b12 := Nat.ne_of_lt (Nat.lt_of_lt_of_le hb8.lt hn12)
        have ne9_12 : b9 ≠ b12 := Nat.ne_of_lt (Nat.lt_of_lt_of_le hb9.lt hn12)
        have ne10_12 : b10 ≠ b12 := Nat.ne_of_lt (Nat.lt_of_lt_of_le hb10.lt hn12)
        have ne11_12 : b11 ≠ b12 := Nat.ne_of_lt (Nat.lt_of_lt_of_le hb11.lt hn12)
        have fr12 := Nat.le_trans hX.size hn12
        have hb4 := hb4.extNo hE13
        have hb7 := hb7.extNo hE13
        have hb8 := hb8.extNo hE13
        have hb9 := hb9.extNo hE13
        have hb10 := hb10.extNo hE13
        have hb11 := hb11.extNo hE13
        have hO := hO.extNo hE13
        have hXW := hXW.thenNo hE13
        have hLr := hl_ext hLr hE13 id
        have hN := hN.extNo hE13
        have hX := hX.thenNo hE13
        have nl12 := hb12.neL hLr
        have hb12o := hb12
        refine wli (.round _) rfl (st_stW (l' := objC ((toHp M).obj y) a2) I_ok hb12 rfl rfl (objC_len hoi) (by rw [objC_len hoi]; rfl) OneC.h fun w14 hb12 hE14 hs14 => ?_)
        have hb4 := hb4.ext1 hE14 ne4_12
        have hb7 := hb7.ext1 hE14 ne7_12
        have hb8 := hb8.ext1 hE14 ne8_12
        have hb9 := hb9.ext1 hE14 ne9_12
        have hb10 := hb10.ext1 hE14 ne10_12
        have hb11 := hb11.ext1 hE14 ne11_12
        have hO := hO.ext hE14 (fun x hx e => by have := hOl x hx; have e : x = b12 := e; omega)
        have hXW := hXW.thenNew hE14 (Nat.le_trans hXW0 fr12)
        have hLr := hl_ext hLr hE14 nl12.symm
        have hN := hN.ext1 hE14 hb12o (by decide) (by decide) (by decide)
        have hX := hX.thenNew hE14 fr12
        refine wli_pR I_ok rfl (wli_nil (fi_then (ci_seq (ci_seq (ci_region (wli_pR I_ok rfl (wli_nil (fi_then (ci_if rfl (fun hc => ?_) (fun hc => ?_))))))))))
        · have hen : (toHp M).err y ≠ 0 := hc
          refine ci_seq (ci_region (wli_pR I_ok rfl (wli (.round _) rfl (st_st I_ok hb8 rfl rfl rfl fun w15 hb8 hE15 hs15 => ?_))))
          have hb4 := hb4.ext1 hE15 ne4_8
          have hb7 := hb7.ext1 hE15 ne7_8
          have hb9 := hb9.ext1 hE15 ne8_9.symm
          have hb10 := hb10.ext1 hE15 ne8_10.symm
          have hb11 := hb11.ext1 hE15 ne8_11.symm
          have hb12 := hb12.ext1 hE15 ne8_12.symm
          have hLr := hl_ext hLr hE15 nl8.symm
          have hX := hX.then (hE15.mono fun x _ e => by have e : x = b8 := e; subst e; exact (.inl (.inl (.inl (.inl rfl)))))
          have hb8 : Blk w15 b8 38 ([.slice none 0 0]) := hb8
          refine wli (.round _) rfl (st_st I_ok hb9 rfl rfl rfl fun w16 hb9 hE16 hs16 => ?_)
          have hb4 := hb4.ext1 hE16 ne4_9
          have hb7 := hb7.ext1 hE16 ne7_9
          have hb8 := hb8.ext1 hE16 ne8_9
          have hb10 := hb10.ext1 hE16 ne9_10.symm
          have hb11 := hb11.ext1 hE16 ne9_11.symm
          have hb12 := hb12.ext1 hE16 ne9_12.symm
          have hLr := hl_ext hLr hE16 nl9.symm
          have hX := hX.then (hE16.mono fun x _ e => by have e : x = b9 := e; subst e; exact (.inl (.inl (.inl (.inr rfl)))))
          have hb9 : Blk w16 b9 32 ([.int .i64 ((toHp M).err y)]) := hb9
          refine wli_nil (fi_then (ci_ret ?_))
          exact f_thenR (f_blockR (fin_stop (.inl ⟨rfl, rfl⟩) (([], none, 0)) hRd hLr hX (fun x hx => .inl (hx.elim .inl fun e => by rcases e with e | ⟨_, e, _⟩; cases e; cases e)) (.inr ⟨rfl, rfl, hkm, hok, ⟨y, hya, hen, hb9⟩, hb8, hb10.lt⟩)))
        · have hen : (toHp M).err y = 0 := Decidable.not_not.1 hc
          refine ci_skip (fi_then (ci_region (wli (.round _) rfl (st_ldb I_ok hb10 rfl rfl (wli (.round _) rfl (st_ldB I_ok hb12 rfl (objC_len hoi) ?_))))))
          refine wli (.round _) rfl (st_bs I_ok rfl 73 rfl objZ_c.symm (by rw [objC_len objZ_in]) (by decide) (by decide) ⟨⟨by rw [cellsOf_agg]; exact objC_len hoi, by decide⟩, trivial⟩ (l' := objC ((toHp M).obj y) a2) (one_obj hoi) fun b35 w17 hn35 hb35 hE17 hs17 => ?_)
          have ne4_35 : b4 ≠ b35 := Nat.ne_of_lt (Nat.lt_of_lt_of_le hb4.lt hn35)
          have ne7_35 : b7 ≠ b35 := Nat.ne_of_lt (Nat.lt_of_lt_of_le hb7.lt hn35)
          have ne8_35 : b8 ≠ b35 := Nat.ne_of_lt (Nat.lt_of_lt_of_le hb8.lt hn35)
          have ne9_35 : b9 ≠ b35 := Nat.ne_of_lt (Nat.lt_of_lt_of_le hb9.lt hn35)
          have ne10_35 : b10 ≠ b35 := Nat.ne_of_lt (Nat.lt_of_lt_of_le hb10.lt hn35)
          have ne11_35 : b11 ≠ b35 := Nat.ne_of_lt (Nat.lt_of_lt_of_le hb11.lt hn35)
          have ne12_35 : b12 ≠ b35 := Nat.ne_of_lt (Nat.lt_of_lt_of_le hb12.lt hn35)
          have fr35 := Nat.le_trans hX.size hn35
          have hb4 := hb4.extNo hE17
          have hb7 := hb7.extNo hE17
          have hb8 := hb8.extNo hE17
          have hb9 := hb9.extNo hE17
          have hb10 := hb10.extNo hE17
          have hb11 := hb11.extNo hE17
          have hb12 := hb12.extNo hE17
          have hO := hO.extNo hE17
          have hXW := hXW.thenNo hE17
          have hLr := hl_ext hLr hE17 id
          have hN := hN.extNo hE17
          have hX := hX.thenNo hE17
          have nl35 := hb35.neL hLr
          have hX1 := hX
          have hX1s := hX.size
          have hUl := lackU_len L H
          have hs35 : Sl w17 (some ⟨b35, 0, none⟩) 1 73 (objC ((toHp M).obj y) a2) := ⟨objC_len hoi, .inr ⟨b35, 0, rfl, hb35.seg⟩⟩
          refine wli (.round _) rfl (st_app I_ok rfl 73 192 rfl rfl rfl (by decide) hO.own (Src.slice (m := 1) hs35 OneC.h) (by dsimp only; dsimp only [maxLen]; omega) (by dsimp only; omega) fun p18 c18 w18 ho18 hE18 hB18 => ?_)
          dsimp only at ho18 hE18 hB18 ⊢
          have hX := hX1.then (hE18.mono fun x _ e => .inl (.inr (.inl e)))
          have hb4 := hb4.extOwn hO.own hE18 (by decide)
          have hb7 := hb7.extOwn hO.own hE18 (by decide)
          have hb8 := hb8.extOwn hO.own hE18 (by decide)
          have hb9 := hb9.extOwn hO.own hE18 (by decide)
          have hb10 := hb10.extOwn hO.own hE18 (by decide)
          have hLr := hl_ext hLr hE18 fun e => (hRd.fp _ (.inr (.inl e))).1 rfl
          obtain ⟨q2, k2, e1, e2, hoo⟩ : ∃ q2 k2, q2 = p18 ∧ k2 = c18 ∧ Own w18 q2 (out.length + 1) k2 48 73 (out.flatMap objX ++ objC ((toHp M).obj y) a2) := ⟨_, _, rfl, rfl, ho18⟩
          rw [← e1] at hB18
          rw [← e1, ← e2, show out.length + 1 = (out ++ [(((toHp M).obj y), a2)]).length from by rw [List.length_append]; rfl]
          have hO2 := hO.snoc hN hOlt hNg ⟨hoi, hos⟩ hE18 hoo hB18 (Nat.le_trans hRd.X.size hX1s)
          have hqB := hB18
          have hb10o := hb10
          refine wli (.round _) rfl (st_st I_ok hb10 rfl rfl rfl fun w19 hb10 hE19 hs19 => ?_)
          have hb4 := hb4.ext1 hE19 ne4_10
          have hb7 := hb7.ext1 hE19 ne7_10
          have hb8 := hb8.ext1 hE19 ne8_10
          have hb9 := hb9.ext1 hE19 ne9_10
          have hLr := hl_ext hLr hE19 nl10.symm
          have hO2 := hO2.one hE19 hb10o (by decide) (by decide) (by decide) (by decide)
          have hX := hX.then (hE19.mono fun x _ e => by have e : x = b10 := e; subst e; exact (.inl (.inl (.inr rfl))))
          have hb10 : Blk w19 b10 38 ([.slice q2 (out ++ [(((toHp M).obj y), a2)]).length k2]) := hb10
          refine wli_nil ?_
          exact f_blockN (fin_next ((out ++ [(((toHp M).obj y), a2)], q2, k2)) hRd hLr hX (fun x hx => by
    rcases hx with hx | hx | ⟨o, ho, hx⟩
    · exact .inl (.inl hx)
    · exact (hqB x hx).elim (fun h => .inl (.inr (.inl h))) fun h => .inr (Nat.le_trans hX1s h)
    · rcases List.mem_append.1 ho with ho | ho
      · exact .inl (.inr (.inr ⟨o, ho, hx⟩))
      · rw [List.mem_singleton.1 ho] at hx; exact .inr (Nat.le_trans hWN (hNg x hx))) (⟨hO2, by rw [List.map_append, hOe, hUt, List.map_append]; rfl, fun z hz => by
    rw [hUt] at hz
    rcases List.mem_append.1 hz with hz | hz
    · exact hok z hz
    · rw [List.mem_singleton.1 hz]; exact hen, hkm, hb10, hb8, hb9⟩))
    · obtain ⟨out, q, kq⟩ := z
      obtain ⟨hO, hOe, hok, hkn, hb10, hb8, hb9⟩ := hJ
      dsimp only at hO hOe hok hkn hb10 hb8 hb9
      have hX : Ext No w W := hXw.trans hE fun x hx e => by rcases e with ((e | e) | e) | e | ⟨_, e, _⟩; omega; omega; omega; cases e; cases e
      have nD8 : ¬ One b8 DD := fun e => hnd b8 (.inl (.inl (.inl rfl))) (show DD = b8 from e).symm
      have nD9 : ¬ One b9 DD := fun e => hnd b9 (.inl (.inl (.inr rfl))) (show DD = b9 from e).symm
      have hOD := fun x hx => hnd x (.inr hx)
      have s8 : ¬ b8 ∈ [DD] := fun e => nD8 (List.mem_singleton.1 e).symm
      have s9 : ¬ b9 ∈ [DD] := fun e => nD9 (List.mem_singleton.1 e).symm
      have eU : (lackU L H).take m = (lackU L H).take (lackU L H).length := by rw [List.take_length, List.take_of_length_le hkn]
      have hse := sendE_ok (h := (toHp M)) (U := (lackU L H)) hm0 (by rw [eU]; exact hok)
      rw [eU, ← hOe] at hse
      refine f_blockN (f_then (c_seq (c_region (wl (st_ldb I_ok hb10 rfl rfl ?_)))))
      have hb8o := hb8
      refine wl (st_st I_ok hb8 rfl rfl rfl fun w20 hb8 hE20 hs20 => ?_)
      have hb9 := hb9.ext1 hE20 ne8_9.symm
      have hb10 := hb10.ext1 hE20 ne8_10.symm
      have hO := hO.one hE20 hb8o (by decide) (by decide) (by decide) (by decide)
      have hmk := (hE20.same _ (heap_lt hmk) nD8).trans hmk
      have hX := hX.thenNew hE20 fr8
      have hb8 : Blk w20 b8 38 ([.slice q out.length kq]) := hb8
      have hb9o := hb9
      refine wl (st_st I_ok hb9 rfl rfl rfl fun w21 hb9 hE21 hs21 => ?_)
      have hb8 := hb8.ext1 hE21 ne8_9
      have hb10 := hb10.ext1 hE21 ne9_10.symm
      have hO := hO.one hE21 hb9o (by decide) (by decide) (by decide) (by decide)
      have hmk := (hE21.same _ (heap_lt hmk) nD9).trans hmk
      have hX := hX.thenNew hE21 fr9
      have hb9 : Blk w21 b9 32 ([.int .i64 0]) := hb9
      refine wl_nil (f_then (c_ret (f_retMs [DD] (by simp) (fun x hx => by rw [List.mem_singleton.1 hx]; exact hmk) [.slice q out.length kq, .int .i64 0] (fun w20 hE20 => ?_) (.inl rfl))))
      exact ⟨⟨⟨b8, 0, rfl, ld_one I_ok rfl rfl ((hb8.ext hE20 s8).cell rfl)⟩, ⟨b9, 0, rfl, ld_one I_ok rfl rfl ((hb9.ext hE20 s9).cell rfl)⟩, trivial⟩, q, kq, out, by rw [hse.1]; rfl, hse.2.symm, (hO.ext hE20 fun x hx e => hOD x hx (List.mem_singleton.1 e)).older hXs, hX.trans hE20 fun x hx e => by have := List.mem_singleton.1 e; omega⟩
    · rcases hJ with ⟨rfl, hkm, hJ⟩ | ⟨rfl, rfl, hJ⟩
      · obtain ⟨out, q, kq⟩ := z
        obtain ⟨hO, hOe, hok, hkn, hb10, hb8, hb9⟩ := hJ
        dsimp only at hO hOe hok hkn hb10 hb8 hb9
        have hX : Ext No w W := hXw.trans hE fun x hx e => by rcases e with ((e | e) | e) | e | ⟨_, e, _⟩; omega; omega; omega; cases e; cases e
        have nD8 : ¬ One b8 DD := fun e => hnd b8 (.inl (.inl (.inl rfl))) (show DD = b8 from e).symm
        have nD9 : ¬ One b9 DD := fun e => hnd b9 (.inl (.inl (.inr rfl))) (show DD = b9 from e).symm
        have hOD := fun x hx => hnd x (.inr hx)
        have s8 : ¬ b8 ∈ [DD] := fun e => nD8 (List.mem_singleton.1 e).symm
        have s9 : ¬ b9 ∈ [DD] := fun e => nD9 (List.mem_singleton.1 e).symm
        have hse := sendE_ok (h := (toHp M)) (U := (lackU L H)) hm0 (by rw [← hkm]; exact hok)
        rw [← hkm, ← hOe, hkm] at hse
        refine c_exit (f_blockE (f_then (c_seq (c_region (wl (st_ldb I_ok hb10 rfl rfl ?_))))))
        have hb8o := hb8
        refine wl (st_st I_ok hb8 rfl rfl rfl fun w22 hb8 hE22 hs22 => ?_)
        have hb9 := hb9.ext1 hE22 ne8_9.symm
        have hb10 := hb10.ext1 hE22 ne8_10.symm
        have hO := hO.one hE22 hb8o (by decide) (by decide) (by decide) (by decide)
        have hmk := (hE22.same _ (heap_lt hmk) nD8).trans hmk
        have hX := hX.thenNew hE22 fr8
        have hb8 : Blk w22 b8 38 ([.slice q out.length kq]) := hb8
        have hb9o := hb9
        refine wl (st_st I_ok hb9 rfl rfl rfl fun w23 hb9 hE23 hs23 => ?_)
        have hb8 := hb8.ext1 hE23 ne8_9
        have hb10 := hb10.ext1 hE23 ne9_10.symm
        have hO := hO.one hE23 hb9o (by decide) (by decide) (by decide) (by decide)
        have hmk := (hE23.same _ (heap_lt hmk) nD9).trans hmk
        have hX := hX.thenNew hE23 fr9
        have hb9 : Blk w23 b9 32 ([.int .i64 0]) := hb9
        refine wl_nil (f_then (c_ret (f_retMs [DD] (by simp) (fun x hx => by rw [List.mem_singleton.1 hx]; exact hmk) [.slice q out.length kq, .int .i64 0] (fun w20 hE20 => ?_) (.inl rfl))))
        exact ⟨⟨⟨b8, 0, rfl, ld_one I_ok rfl rfl ((hb8.ext hE20 s8).cell rfl)⟩, ⟨b9, 0, rfl, ld_one I_ok rfl rfl ((hb9.ext hE20 s9).cell rfl)⟩, trivial⟩, q, kq, out, by rw [hse.1]; rfl, hse.2.symm, (hO.ext hE20 fun x hx e => hOD x hx (List.mem_singleton.1 e)).older hXs, hX.trans hE20 fun x hx e => by have := List.mem_singleton.1 e; omega⟩
      · obtain ⟨hkm, hok, ⟨y, hya, hye, hb9⟩, hb8, _⟩ := hJ
        have hX : Ext No w W := hXw.trans hE fun x hx e => by rcases e with ((e | e) | e) | e | ⟨_, e, _⟩; omega; omega; omega; cases e; cases e
        have s8 : ¬ b8 ∈ [DD] := fun e => hnd b8 (.inl (.inl (.inl rfl))) (List.mem_singleton.1 e)
        have s9 : ¬ b9 ∈ [DD] := fun e => hnd b9 (.inl (.inl (.inr rfl))) (List.mem_singleton.1 e)
        have hse := sendE_bad (h := (toHp M)) (U := (lackU L H)) hkm hok hya hye
        refine c_ret (f_blockR (f_thenR (f_retMs [DD] (by simp) (fun x hx => by rw [List.mem_singleton.1 hx]; exact hmk) [.slice none 0 0, .int .i64 ((toHp M).err y)] (fun w20 hE20 => ?_) (.inl rfl))))
        exact ⟨⟨⟨b8, 0, rfl, ld_one I_ok rfl rfl ((hb8.ext hE20 s8).cell rfl)⟩, ⟨b9, 0, rfl, ld_one I_ok rfl rfl ((hb9.ext hE20 s9).cell rfl)⟩, trivial⟩, none, 0, [], by rw [hse.1]; rfl, hse.2.symm, OutQ.nil _ _, hX.trans hE20 fun x hx e => by have := List.mem_singleton.1 e; omega⟩
end Go.Proofs.YtpcdihkcenfgkaaGreat
namespace Go.Proofs.YtpcdihkcenfgkaaGreat
open Go.Vc
/-- Order's answer -/
noncomputable def ordR (h : Hp) (x : IdB) : List IdB := if h.closed x = 0 then ordD h x else []
theorem led_nodup (h : Hp) (x : IdB) : (h.led x).Nodup := List.Pairwise.imp (fun {a b} (hab : idLt a b) (e : a = b) => idLt_irrefl b (e ▸ hab)) (h.led_rise x)
theorem ord_of {h : Hp} {x : IdB} {g : IdB → Option (ObjD × ObjP)} {ids : List IdB} (hc : h.closed x = 0) (hz : ∀ y, (h.obj y).kind ≠ 3 → (h.obj y).number = 0) (hg : ∀ y ∈ h.led x, ∃ a, g y = some (h.obj y, a)) (hp : ids.Perm (h.led x)) (hs : ids.Pairwise fun a b => ¬ cmpO g b a < 0) : ids = ordD h x := by
  have hm : ∀ y, y ∈ ids ↔ h.Leads x y := fun y => by rw [hp.mem_iff, h.led_mem]
  have hnd : ids.Nodup := hp.symm.nodup (led_nodup h x)
  have hgo : ∀ y ∈ ids, (gO g y).1 = h.obj y := fun y hy => by
    obtain ⟨a, ha⟩ := hg y (hp.mem_iff.1 hy)
    unfold gO
    rw [ha]; rfl
  refine ordD_eq hc (fun y _ => hz y) ?_ hm
  rw [List.pairwise_iff_getElem] at hs ⊢
  intro i j hi hj hij
  have h1 := hs i j hi hj hij
  rw [cmpO_neg] at h1
  have hne : ids[i] ≠ ids[j] := fun e => by have := (List.getElem_inj hnd).1 e; omega
  have hni := hgo _ (List.getElem_mem hi)
  have hnj := hgo _ (List.getElem_mem hj)
  unfold aheadO at h1
  rw [hni, hnj] at h1
  unfold oLt cLt
  rcases Int.lt_trichotomy (h.obj ids[i]).kind (h.obj ids[j]).kind with c | c | c
  · exact .inl c
  · refine .inr ⟨c, ?_⟩
    rcases Nat.lt_trichotomy (h.obj ids[i]).number (h.obj ids[j]).number with d | d | d
    · exact .inl d
    · rcases idLt_total ids[i] ids[j] with e | e | e
      · exact .inr ⟨d, e⟩
      · exact absurd e hne
      · exact absurd (.inr ⟨c.symm, .inr ⟨d.symm, e⟩⟩) h1
    · exact absurd (.inr ⟨c.symm, .inl d⟩) h1
  · exact absurd (.inl c) h1
theorem order_calls (w : World) {p : Option Addr} {c : Nat} {M : List HeldT} {x : IdB} (h : HpIn w p M) (hz : ∀ y, ((toHp M).obj y).kind ≠ 3 → ((toHp M).obj y).number = 0) (hx : IdIn x) :
    CallsV Tryz.prog 9 [.agg #[.slice p M.length c], .agg (bytesU x).toArray] w fun v w' => ∃ q k, v = .tuple #[.slice q (ordR (toHp M) x).length k, .int .i64 ((toHp M).closed x)] ∧ Own w' q (ordR (toHp M) x).length k 31 32 ((ordR (toHp M) x).flatMap bytesU) ∧ (∀ y, OwnB q y → w.heap.size ≤ y) ∧ Ext No w w' := by
  have hled := h.ledIn hx
  have hll := h.ledLen x
  refine calls_enter Tryz.func9 rfl rfl rfl rfl ?_
  have hX := Ext.refl No w
  refine c_seq (c_region (wl (st_al I_ok rfl fun b2 w1 hn2 hb2 hE1 => ?_)))
  have fr2 := Nat.le_trans hX.size hn2
  have hX := hX.thenNo hE1
  have hb2 : Blk w1 b2 26 ([.slice p M.length c]) := hb2
  refine wl (st_al I_ok rfl fun b3 w2 hn3 hb3 hE2 => ?_)
  have ne2_3 : b2 ≠ b3 := Nat.ne_of_lt (Nat.lt_of_lt_of_le hb2.lt hn3)
  have fr3 := Nat.le_trans hX.size hn3
  have hb2 := hb2.extNo hE2
  have hX := hX.thenNo hE2
  have hb3 : Blk w2 b3 31 (bytesU x) := hb3
  refine wl_p I_ok rfl (wl_nil (f_then (c_seq (c_region (wl (st_ldB I_ok hb2 rfl rfl (wl (st_ldB I_ok hb3 rfl hx.len ?_))))))))
  have hXs := hX.size
  refine wl (st_call Tryz.call19 rfl rfl rfl rfl rfl rfl (reachD_calls w2 (h.extNo hX) hx) fun v3 w3 hr3 => ?_)
  obtain ⟨q, k, rfl, hq, hqn0, hE3⟩ := hr3
  have hb2 := hb2.extNo hE3
  have hb3 := hb3.extNo hE3
  have hX := hX.thenNo hE3
  have hqn : ∀ y, OwnB q y → w.heap.size ≤ y := fun y hy => Nat.le_trans hXs (hqn0 y hy)
  refine wl_p I_ok rfl (wl_nil (f_then (c_seq (c_seq (c_region (wl_p I_ok rfl (wl_nil (f_then (c_if rfl (fun hc => ?_) (fun hc => ?_))))))))))
  · have eH : reachE (toHp M) x = [] := if_neg hc
    have eO : ordR (toHp M) x = [] := if_neg hc
    refine c_seq (c_region (wl_p I_ok rfl (wl_nil (f_then (c_ret (f_thenR (f_ret [_, _] ⟨rfl, rfl, trivial⟩ ?_)))))))
    exact ⟨none, 0, by rw [eO]; rfl, by rw [eO]; exact Own.nil _ _ _, noOwn, hX⟩
  · have hcl : (toHp M).closed x = 0 := Decidable.not_not.1 hc
    have eH : reachE (toHp M) x = ((toHp M).led x) := if_pos hcl
    have eO : ordR (toHp M) x = ordD (toHp M) x := if_pos hcl
    rw [eH] at hq ⊢
    refine c_skip (f_then (c_seq (c_region (wl (st_mm objV rfl fun r20 w4 hr20 hM hE4 hs4 => ?_)))))
    have hrw : w.heap.size ≤ r20 := Nat.le_trans hX.size hr20
    have hX := hX.thenNo hE4
    have hb2 := hb2.extNo hE4
    have hb3 := hb3.extNo hE4
    have hq := hq.ext hE4 fun _ _ => id
    refine wl (st_al I_ok rfl fun b8 w5 hn8 hb8 hE5 => ?_)
    have ne2_8 : b2 ≠ b8 := Nat.ne_of_lt (Nat.lt_of_lt_of_le hb2.lt hn8)
    have ne3_8 : b3 ≠ b8 := Nat.ne_of_lt (Nat.lt_of_lt_of_le hb3.lt hn8)
    have fr8 := Nat.le_trans hX.size hn8
    have hb2 := hb2.extNo hE5
    have hb3 := hb3.extNo hE5
    have hq := hq.ext hE5 fun _ _ => id
    have hM := hM.extNo hE5
    have hX := hX.thenNo hE5
    have hb8o := hb8
    refine wl (st_st I_ok hb8 rfl rfl rfl fun w6 hb8 hE6 hs6 => ?_)
    have hb2 := hb2.ext1 hE6 ne2_8
    have hb3 := hb3.ext1 hE6 ne3_8
    have hq := hq.extTy hE6 hb8o (by decide)
    have hM := hM.ext1 hE6 hb8o
    have hX := hX.thenNew hE6 fr8
    have hb8 : Blk w6 b8 88 ([.map (some r20)]) := hb8
    refine wl_nil (f_then (c_seq (c_seq (c_region (wl_p I_ok rfl (wl_nil (f_then (c_block ?_))))))))
    refine c_loopK (α := Nat × (IdB → Option (ObjD × ObjP))) [2, 6, 8, 21, 22] rfl (fun z => [(23, .int .i64 (z.1 : Int))]) (fun z u => ((z.1 ≤ ((toHp M).led x).length ∧ (∀ y ∈ ((toHp M).led x).take z.1, ∃ a, z.2 y = some ((toHp M).obj y, a)) ∧ ∀ y b, z.2 y = some b → ObjIn b.1) ∧ MapB u r20 objV z.2 ∧ Own u q ((toHp M).led x).length k 31 32 (((toHp M).led x).flatMap bytesU)) ∧ Blk u b2 26 ([.slice p M.length c]) ∧ Blk u b8 88 ([.map (some r20)]) ∧ Ext No w u) (fun z u => ((toHp M).led x).length - z.1) (0, fun _ => none) rfl ⟨⟨⟨Nat.zero_le _, fun _ hy => (by simp at hy), fun _ _ e => (by cases e)⟩, hM, hq⟩, hb2, hb8, hX⟩ ?_
    rintro ⟨i, g⟩ w7 ⟨⟨⟨hi, hg, hgi⟩, hM, hq⟩, hb2, hb8, hX⟩
    try dsimp only
    dsimp only at hi hg hgi hM
    refine c_seq (c_region (wl_p I_ok rfl (wl_nil (f_then (c_seq (c_if rfl (fun hc => ?_) (fun hc => ?_)))))))
    · have hi2 : i < ((toHp M).led x).length := by omega
      obtain ⟨qb, qo, hqe, hqr⟩ := hq.sl.rowAll (fun r hr => IdIn.len (hled r hr)) (by omega)
      obtain ⟨y, hy⟩ : ∃ y, y = ((toHp M).led x)[i] := ⟨_, rfl⟩
      have hyi : IdIn y := by rw [hy]; exact hled _ (List.getElem_mem hi2)
      have hqi := hqr i hi2
      rw [← hy] at hqi
      have hoi := h.objIn y
      refine wc_put 21 rfl (v' := .slice (some ⟨qb, qo, none⟩) ((toHp M).led x).length k) (by rw [hqe]) (c_skip (f_then (c_seq (c_block (c_seq (c_region (wl (st_ix I_ok rfl 32 rfl i rfl (by omega) (qo + i * 32) rfl ?_))))))))
      refine wl (st_ldN I_ok rfl hqi hyi.len ?_)
      have hq0 := hq
      refine wl (st_al I_ok rfl fun b10 w8 hn10 hb10 hE8 => ?_)
      have ne2_10 : b2 ≠ b10 := Nat.ne_of_lt (Nat.lt_of_lt_of_le hb2.lt hn10)
      have ne8_10 : b8 ≠ b10 := Nat.ne_of_lt (Nat.lt_of_lt_of_le hb8.lt hn10)
      have fr10 := Nat.le_trans hX.size hn10
      have hb2 := hb2.extNo hE8
      have hb8 := hb8.extNo hE8
      have hq := hq.ext hE8 fun _ _ => id
      have hM := hM.extNo hE8
      have hX := hX.thenNo hE8
      have hb10o := hb10
      have ne10 : ∀ z, OwnB q z → z ≠ b10 := fun z hz => Nat.ne_of_lt (Nat.lt_of_lt_of_le (hq0.lt hz) hn10)
      have hb10o := hb10
      refine wl (st_stW (l' := bytesU y) I_ok hb10 rfl rfl hyi.len (by rw [bytesU_len, hyi]; rfl) OneC.h fun w9 hb10 hE9 hs9 => ?_)
      have hb2 := hb2.ext1 hE9 ne2_10
      have hb8 := hb8.ext1 hE9 ne8_10
      have hq := hq.ext hE9 (fun z hz => ne10 z hz)
      have hM := hM.ext1 hE9 hb10o
      have hX := hX.thenNew hE9 fr10
      have m8 : ¬ One r20 b8 := fun e => hM.ne hb8 (show b8 = r20 from e).symm
      have m10 : ¬ One r20 b10 := fun e => hM.ne hb10 (show b10 = r20 from e).symm
      have m2 : ¬ One r20 b2 := fun e => hM.ne hb2 (show b2 = r20 from e).symm
      refine wl_nil (f_then (c_draw rfl 9 [(0, true), (1, true), (2, true), (3, true), (4, false), (5, true), (6, true), (7, true), (8, false)] [] (One r20) (by kernel_rfl) fun w10 hE10 hs10 => ?_))
      have hd2 := hb2
      have hd8 := hb8
      have hd10 := hb10
      have hqd := hq
      have hMd := hM
      have hXd := hX
      have hb2 := hb2.extNo hE10
      have hb8 := hb8.extNo hE10
      have hb10 := hb10.extNo hE10
      have hq := hq.ext hE10 fun _ _ => id
      have hM := hM.extNo hE10
      have hX := hX.thenNo hE10
      have hC : Ext (One r20) _ w10 := hE10.no
      refine wd_ld I_ok rfl rfl (fun w' hw' => ((hd8.ext hw' m8).cell rfl)) ?_
      refine wd_ldN I_ok rfl rfl (fun w' hw' => ((hd10.ext hw' m10).seg)) hyi.len ?_
      refine wd_ldN I_ok rfl rfl (fun w' hw' => ((hd2.ext hw' m2).seg)) rfl ?_
      refine wd_ldN I_ok rfl rfl (fun w' hw' => ((hd10.ext hw' m10).seg)) hyi.len ?_
      refine wd_l rfl (st_call Tryz.call20 rfl rfl rfl rfl rfl rfl (getD_calls w10 (h.extNo hX) hyi) fun v11 w11 hr11 => ⟨(by obtain ⟨a2, rfl, _, hE11⟩ := hr11; exact hC.thenNo hE11), ?_⟩)
      obtain ⟨a2, rfl, _, hE11⟩ := hr11
      have hb2 := hb2.extNo hE11
      have hb8 := hb8.extNo hE11
      have hb10 := hb10.extNo hE11
      have hq := hq.ext hE11 fun _ _ => id
      have hM := hM.extNo hE11
      have hX := hX.thenNo hE11
      have hC := hC.thenNo hE11
      refine wd_k I_ok 3 rfl (wd_l rfl (st_mu I_ok rfl idK hyi rfl hM (b := ((toHp M).obj y, a2)) rfl fun w12 hM2 hE12 hs12 => ⟨hC.then hE12, ?_⟩))
      have hX := hX.thenNew hE12 hrw
      have hb2 := hb2.ext hE12 m2
      have hb8 := hb8.ext hE12 m8
      have hq2 := hq.extMap hM hE12
      have hLt : ((toHp M).led x).take (i + 1) = ((toHp M).led x).take i ++ [y] := by rw [List.take_succ_eq_append_getElem hi2, ← hy]
      refine wd_sw (wb_nil (f_blockN (f_then (c_region (wl_p I_ok rfl ?_)))))
      rw [IntWalk.i64_in _ (by omega)]
      refine wl_nil (fin_put 21 rfl (v' := .slice q ((toHp M).led x).length k) (by rw [hqe]) ?_)
      exact f_round (i + 1, setM g y ((toHp M).obj y, a2)) rfl ⟨⟨⟨hi2, fun z hz => by
    rw [hLt] at hz
    dsimp only
    unfold setM
    by_cases e : z = y
    · rw [if_pos e, e]; exact ⟨a2, rfl⟩
    · rw [if_neg e]
      rcases List.mem_append.1 hz with hz | hz
      · exact hg z hz
      · exact absurd (List.mem_singleton.1 hz) e, fun z b e => by
    dsimp only at e
    unfold setM at e
    split at e
    · cases e; exact hoi
    · exact hgi z b e⟩, hM2, hq2⟩, hb2, hb8, hX⟩ (by first | omega | (dsimp only; omega))
    · have h0 : i = ((toHp M).led x).length := by omega
      subst h0
      rw [List.take_length] at hg
      have hOb : ∀ x, ObjIn (gO g x).1 := fun x => by
        unfold gO
        cases e : g x with
        | none => exact objZ_in
        | some b => exact hgi x b e
      have n8q : ¬ OwnB q b8 := fun e => hq.neTy e hb8 (by decide) rfl
      refine c_exit (f_thenE (f_thenE (f_blockE (f_then (c_seq (c_region (wl_p I_ok rfl ?_)))))))
      have hq0 := hq
      refine wl (st_call Tryz.call34 rfl rfl rfl rfl rfl rfl (sortI_calls Tryz.call35 (cmpO g) (aheadO_swo g) hq (fun y hy => hled y hy) (by omega) (fun W hE a c ha hc => ordCmp_calls W (hb8.ext hE n8q) (hM.extOwn hq hE) hOb ha hc)) fun v13 w13 hr13 => ?_)
      obtain ⟨rfl, ids, hpm, hpw, hq2, hE13⟩ := hr13
      have hb2 := hb2.extOwn hq hE13 (by decide)
      have hb8 := hb8.extOwn hq hE13 (by decide)
      have hX := hX.trans hE13 fun y hy hF => by have := hqn y hF; omega
      have eD := ord_of hcl hz hg hpm hpw
      have eL : ((toHp M).led x).length = (ordD (toHp M) x).length := by rw [← eD, hpm.length_eq]
      rw [eL, eD] at hq2
      rw [eL]
      refine wl_nil (f_then (c_seq (c_region (wl_p I_ok rfl (wl_nil (f_then (c_ret (f_ret [_, _] ⟨rfl, rfl, trivial⟩ ?_))))))))
      exact ⟨q, k, by rw [eO, hcl]; rfl, by rw [eO]; exact hq2, hqn, hX⟩
end Go.Proofs.YtpcdihkcenfgkaaGreat
namespace Go.Proofs.YtpcdihkcenfgkaaGreat
open Go.Vc
/-- what is collected so far -/
def ColI (U : List IdB) (b2 : Nat) (k : Nat) (z : Option Addr × Nat) (u : World) : Prop :=
  Own u z.1 (U.take k).length z.2 31 32 ((U.take k).flatMap bytesU) ∧ Blk u b2 27 [.slice z.1 (U.take k).length z.2]
def colI (w : World) (U : List IdB) (b2 : Nat) : CoS (Option Addr × Nat) w where
  Fp := fun z x => x = b2 ∨ OwnB z.1 x
  J := ColI U b2
  Jx := fun _ _ _ _ => False
  st := fun ⟨h1, h2⟩ hE hS => ⟨h1.ext hE fun x hx e => (hS x e).2 (.inr hx), h2.ext hE fun e => (hS _ e).2 (.inl rfl)⟩
  stx := fun h _ _ => h
  lt := fun ⟨h1, h2⟩ x e => by rcases e with rfl | e; exact h2.lt; exact h1.lt e
  ltx := fun h => h.elim
theorem appendSeqI_calls (w : World) {gf : Nat} {cap : Array Value} {U : List IdB} {own : Nat → Prop} (hcf : ∀ args w, (callFunc gf args).run Tryz.prog w = .ok (.enter gf args) w) (hit : ∀ w1, Ext No w w1 → Iter Tryz.prog gf cap.toList U.length (lackA U) own w1) (hown : ∀ x, own x → x < w.heap.size) (hUi : ∀ y ∈ U, IdIn y) (hUl : U.length < 100000000) :
    CallsV Tryz.prog 77 [.slice none 0 0, .func (.func gf) #[] cap] w fun v w' => ∃ (q : Option Addr) (k : Nat), v = .slice q U.length k ∧ Own w' q U.length k 31 32 (U.flatMap bytesU) ∧ (∀ y, OwnB q y → w.heap.size ≤ y) ∧ Ext No w w' := by
  refine calls_enterM Tryz.func77 rfl rfl rfl rfl ?_
  have hX := Ext.refl No w
  refine c_seq (c_region (wl (st_al I_ok rfl fun b2 w1 hn2 hb2 hE1 => ?_)))
  have hX := hX.thenNo hE1
  have hb2 : Blk w1 b2 27 ([.slice none 0 0]) := hb2
  refine wl_p I_ok rfl (wl_nil (f_then (c_seq (c_seq (c_region (wl_p I_ok rfl (wl_nil (f_then (c_block ?_)))))))))
  have hXw := hX
  have hXs := hX.size
  have hb2l := hb2.lt
  refine c_iter (colI w1 U b2) (none, 0) rfl hcf rfl (fun _ => rfl) (fun w1 hE1 => hit w1 (hXw.thenNo hE1)) (fun x hx => by have := hown x hx; exact ⟨by omega, fun e => by rcases e with e | e; omega; cases e⟩) ⟨Own.nil _ _ _, hb2⟩ (fun l DD r k z W hRd hJ hk => ?_) (fun DD z W hJ hE hsub hDn hmk hnd => ?_) (fun DD k c z W hk hJ hE hsub hDn hmk hnd => ?_)
  · have hLr := hRd.l
    obtain ⟨q, kq⟩ := z
    obtain ⟨hq, hb2⟩ := hJ
    dsimp only at hq hb2
    obtain ⟨y, hyk⟩ : ∃ y, y = U[k] := ⟨_, rfl⟩
    have hya : U[k]? = some y := by rw [hyk, List.getElem?_eq_getElem hk]
    rw [show lackA U k = #[idV y] from by rw [lackA, List.getD_eq_getElem?_getD, hya]; rfl]
    have hy : IdIn y := by rw [hyk]; exact hUi _ (List.getElem_mem hk)
    have hUt : U.take (k + 1) = U.take k ++ [y] := by rw [List.take_succ_eq_append_getElem hk, ← hyk]
    have hlen : (U.take (k + 1)).length = (U.take k).length + 1 := by rw [hUt, List.length_append]; rfl
    have hkb : (U.take k).length ≤ U.length := by rw [List.length_take]; omega
    have hqlt := fun x hx => hq.lt (x := x) hx
    have nl2 := hb2.neL hLr
    have hX : Ext (fun x => (x = b2 ∨ OwnB q x) ∨ x = l) W W := Ext.refl _ _
    refine ci_region ?_
    have hq0 := hq
    refine wli (.round _) rfl (st_al I_ok rfl fun b5 w2 hn5 hb5 hE2 => ?_)
    have ne2_5 : b2 ≠ b5 := Nat.ne_of_lt (Nat.lt_of_lt_of_le hb2.lt hn5)
    have fr5 := Nat.le_trans hX.size hn5
    have hb2 := hb2.extNo hE2
    have hq := hq.ext hE2 fun _ _ => id
    have hLr := hl_ext hLr hE2 id
    have hX := hX.thenNo hE2
    have nl5 := hb5.neL hLr
    have ne5 : ∀ z, OwnB q z → z ≠ b5 := fun z hz => Nat.ne_of_lt (Nat.lt_of_lt_of_le (hq0.lt hz) hn5)
    refine wli (.round _) rfl (st_stW (l' := bytesU y) I_ok hb5 rfl rfl (by rw [bytesU_len, hy]) (by rw [bytesU_len, hy]; rfl) OneC.h fun w3 hb5 hE3 hs3 => ?_)
    have hb2 := hb2.ext1 hE3 ne2_5
    have hq := hq.ext hE3 (fun z hz => ne5 z hz)
    have hLr := hl_ext hLr hE3 nl5.symm
    have hX := hX.thenNew hE3 fr5
    refine wli_nil (fin_begin hRd hLr fun w4 hE4 hL4 => ?_)
    have hb2 := hb2.extL hLr hE4
    have hb5 := hb5.extL hLr hE4
    have hq := hq.ext hE4 fun x hx e => by have e : x = l := e; subst e; exact (hRd.fp _ (.inr hx)).1 rfl
    have hLr := hL4
    have hX := hX.then (hE4.mono fun x _ e => .inr e)
    refine ci_block (ci_region (wli (.round _) rfl (st_ldb I_ok hb2 rfl rfl (wli (.round _) rfl (st_ldB I_ok hb5 rfl (by rw [bytesU_len, hy]) ?_)))))
    refine wli (.round _) rfl (st_bs I_ok rfl 32 rfl idZ_c.symm (by rw [bytesU_len]; rfl) (by decide) (by decide) ⟨⟨by rw [cellsOf_agg]; exact (IdIn.len hy), by decide⟩, trivial⟩ (l' := bytesU y) (one_id hy) fun b10 w5 hn10 hb10 hE5 hs5 => ?_)
    have hb2 := hb2.extNo hE5
    have hq := hq.ext hE5 fun _ _ => id
    have hLr := hl_ext hLr hE5 id
    have hX := hX.thenNo hE5
    have hX0 := hX
    have hXz := hX.size
    refine wli (.round _) rfl (st_app I_ok rfl 32 32 rfl rfl rfl (by decide) hq (Src.slice (m := 1) (one_idS hy hb10) OneC.h) (by dsimp only [maxLen]; omega) (by dsimp only; omega) fun p6 c6 w6 ho6 hE6 hB6 => ?_)
    dsimp only at ho6 hE6 hB6 ⊢
    have hX := hX0.then (hE6.mono fun x _ e => .inl (.inr e))
    have hb2 := hb2.extOwn hq hE6 (by decide)
    have hLr := hl_ext hLr hE6 fun e => (hRd.fp _ (.inr e)).1 rfl
    obtain ⟨q2, kq2, e1, e2, hq2⟩ : ∃ q2 kq2, q2 = p6 ∧ kq2 = c6 ∧ Own w6 q2 (U.take (k + 1)).length kq2 31 32 ((U.take (k + 1)).flatMap bytesU) := ⟨_, _, rfl, rfl, by
      rw [hlen, hUt, List.flatMap_append]
      simpa using ho6⟩
    rw [← e1] at hB6
    rw [← e1, ← e2, ← hlen]
    have hqB := hB6
    have hb2o := hb2
    refine wli (.round _) rfl (st_st I_ok hb2 rfl rfl rfl fun w7 hb2 hE7 hs7 => ?_)
    have hLr := hl_ext hLr hE7 nl2.symm
    have hq2 := hq2.extTy hE7 hb2o (by decide)
    have hX := hX.then (hE7.mono fun x _ e => by have e : x = b2 := e; subst e; exact (.inl (.inl rfl)))
    have hb2 : Blk w7 b2 27 ([.slice q2 (U.take (k + 1)).length kq2]) := hb2
    refine wli_nil ?_
    exact f_blockN (fin_next (q2, kq2) hRd hLr hX (fun x hx => by rcases hx with rfl | hx; exact .inl (.inl rfl); exact (hqB x hx).elim (fun h => .inl (.inr h)) fun h => .inr (by omega)) (⟨hq2, hb2⟩))
  · obtain ⟨q, kq⟩ := z
    have hnd1 := hnd
    obtain ⟨hq, hb2⟩ := hJ
    dsimp only at hq hb2
    rw [List.take_length] at hq hb2
    have hX : Ext No w W := hXw.trans hE fun x hx e => by rcases e with e | e; omega; cases e
    have hnd0 : ∀ x, OwnB q x → x ≠ DD := fun x hx => hnd1 x (.inr hx)
    have hqn : ∀ y, OwnB q y → w.heap.size ≤ y := fun y hy => (hsub y (.inr hy)).elim (fun e => by rcases e with e | e; omega; cases e) fun e => by omega
    refine f_blockN (f_then (c_seq (c_region (wl (st_ldb I_ok hb2 rfl rfl (wl_p I_ok rfl (wl_nil (f_then (c_ret ?_)))))))))
    refine f_retMs [DD] (by simp) (fun x hx => by rw [List.mem_singleton.1 hx]; exact hmk) [.slice q U.length kq] (fun w20 hE20 => ?_) (.inl rfl)
    have hs20 : ∀ x, x ∈ [DD] → x = DD := fun x hx => List.mem_singleton.1 hx
    refine ⟨⟨rfl, trivial⟩, q, kq, rfl, hq.ext hE20 fun x hx e => hnd0 x hx (hs20 x e), hqn, hX.trans hE20 fun x hx e => by have := hs20 x e; omega⟩
  · exact hJ.elim

theorem collectI_calls (w : World) {gf : Nat} {cap : Array Value} {U : List IdB} {own : Nat → Prop} (hcf : ∀ args w, (callFunc gf args).run Tryz.prog w = .ok (.enter gf args) w) (hit : ∀ w1, Ext No w w1 → Iter Tryz.prog gf cap.toList U.length (lackA U) own w1) (hown : ∀ x, own x → x < w.heap.size) (hUi : ∀ y ∈ U, IdIn y) (hUl : U.length < 100000000) :
    CallsV Tryz.prog 46 [.func (.func gf) #[] cap] w fun v w' => ∃ (q : Option Addr) (k : Nat), v = .slice q U.length k ∧ Own w' q U.length k 31 32 (U.flatMap bytesU) ∧ (∀ y, OwnB q y → w.heap.size ≤ y) ∧ Ext No w w' := by
  refine calls_enter Tryz.func46 rfl rfl rfl rfl ?_
  have hX := Ext.refl No w
  refine c_seq (c_region (wl_p I_ok rfl (wl_nil (f_then (c_seq (c_region (wl_p I_ok rfl (wl (st_call Tryz.call77 rfl rfl rfl rfl rfl rfl (appendSeqI_calls w hcf hit hown hUi hUl) fun v1 w1 hr1 => ?_)))))))))
  obtain ⟨q, k, rfl, hq, hqn, hE1⟩ := hr1
  have hX := hX.thenNo hE1
  refine wl_p I_ok rfl (wl_nil (f_then (c_ret (f_ret1 rfl rfl ?_))))
  exact ⟨q, k, rfl, hq, hqn, hX⟩
theorem lackU_in {L H : List IdB} (hL : ∀ y ∈ L, IdIn y) : ∀ y ∈ lackU L H, IdIn y := fun y hy => hL y ((lackU_mem L H y).1 hy).1
theorem upLacks_calls (w : World) {pl ph : Option Addr} {cl ch : Nat} {L H : List IdB} (hsl : Sl w pl L.length 32 (L.flatMap bytesU)) (hsh : Sl w ph H.length 32 (H.flatMap bytesU)) (hLi : ∀ y ∈ L, IdIn y) (hHi : ∀ y ∈ H, IdIn y) (hLl : L.length < 100000000) (hHl : H.length < 100000000) :
    CallsV Tryz.prog 17 [.slice pl L.length cl, .slice ph H.length ch] w fun v w' => ∃ (q : Option Addr) (k : Nat), v = .slice q (lackU L H).length k ∧ Own w' q (lackU L H).length k 31 32 ((lackU L H).flatMap bytesU) ∧ (∀ y, OwnB q y → w.heap.size ≤ y) ∧ Ext No w w' := by
  refine calls_enter Tryz.func17 rfl rfl rfl rfl ?_
  have hX := Ext.refl No w
  refine c_seq (c_region (wl_p I_ok rfl (wl_nil (f_then (c_seq (c_region (wl_p I_ok rfl (wl (st_call Tryz.call45 rfl rfl rfl rfl rfl rfl (going_calls w (pl := pl) (ph := ph) (L := L) (H := H)) fun v1 w1 hr1 => ?_)))))))))
  obtain ⟨bl, bh, rfl, hbln, hbhn, hbl, hbh, hE1⟩ := hr1
  have hX := hX.thenNo hE1
  have hXw := hX
  have hUl := lackU_len L H
  have hXs := hX.size
  refine wl (st_call Tryz.call46 rfl rfl rfl rfl rfl rfl (collectI_calls w1 (U := lackU L H) Tryz.call76 (fun w1 hE1 => going1_iter w1 (hbh.extNo hE1) (hbl.extNo hE1) ((hsh.extNo hXw).extNo hE1) ((hsl.extNo hXw).extNo hE1) hHi hLi (by omega) (by omega)) (fun x ⟨off, e, hne⟩ => by have k := ids_lt hsl hLi e hne; omega) (lackU_in hLi) (by omega)) fun v2 w2 hr2 => ?_)
  obtain ⟨q, k, rfl, hq, hqn0, hE2⟩ := hr2
  have hX := hX.thenNo hE2
  have hqn : ∀ y, OwnB q y → w.heap.size ≤ y := fun y hy => Nat.le_trans hXs (hqn0 y hy)
  refine wl_p I_ok rfl (wl_nil (f_then (c_ret (f_ret1 rfl rfl ?_))))
  exact ⟨q, k, rfl, hq, hqn, hX⟩
end Go.Proofs.YtpcdihkcenfgkaaGreat
namespace Go.Proofs.YtpcdihkcenfgkaaGreat
open Go.Vc
theorem own_app {w w' : World} {p q : Option Addr} {n c T sz n' c' T' sz' : Nat} {xs xs' : List Value} (h : Own w p n c T sz xs) (k : Own w q n' c' T' sz' xs') (hE : Ext (OwnB q) w w') (hT : T ≠ T') : Own w' p n c T sz xs := h.ext hE fun x hx e => by
  obtain ⟨L1, h1⟩ := h.blkAt hx
  obtain ⟨L2, h2⟩ := k.blkAt e
  exact absurd (h1.uniq h2).2 hT
end Go.Proofs.YtpcdihkcenfgkaaGreat
namespace Go.Proofs.YtpcdihkcenfgkaaGreat
open Go.Vc
def tx (h : Hp) (L : List IdB) : List IdB := L.filter fun y => decide ((h.obj y).kind = 1)
def tr (h : Hp) (L : List IdB) : List IdB := L.filter fun y => decide ((h.obj y).kind = 2)
def cm (h : Hp) (L : List IdB) : List IdB := (L.filter fun y => decide ((h.obj y).kind ≠ 1 ∧ (h.obj y).kind ≠ 2)).foldl (cIns h) []
theorem ordD_parts (h : Hp) (x : IdB) : ordD h x = tx h (h.led x) ++ tr h (h.led x) ++ cm h (h.led x) := rfl
section
variable {h : Hp} {L : List IdB} {y : IdB}
end
end Go.Proofs.YtpcdihkcenfgkaaGreat
namespace Go.Proofs.YtpcdihkcenfgkaaGreat
open Go.Vc
/-- a command's cells -/
def cmdV (kd cl : Int) (sq : Nat) (p : Option Addr) (n k : Nat) : List Value := [.int .i64 kd, .int .i64 cl, .int .u32 (sq : Int), strV []] ++ (bytesU idZ ++ (bytesU idZ ++ [.slice p n k]))
theorem cmd_len (kd cl : Int) (sq : Nat) (p : Option Addr) (n k : Nat) : (cmdV kd cl sq p n k).length = 69 := rfl
instance (kd cl : Int) (sq : Nat) (p : Option Addr) (n k : Nat) : OneC (cmdV kd cl sq p n k) := by unfold cmdV; infer_instance
theorem cmd_data (kd cl : Int) (sq : Nat) (p : Option Addr) (n k : Nat) : (cmdV kd cl sq p n k)[68]? = some (.slice p n k) := rfl
theorem cmdZ_c : cellsOf ti67.zero = cmdV 0 0 0 none 0 0 := by kernel_rfl
theorem cmd_old {w : World} {b off : Nat} {kd cl : Int} {sq : Nat} {p : Option Addr} {n k : Nat} (h : Seg w b off (cmdV kd cl sq p n k)) : Seg w b (off + 4) (bytesU idZ) := (Seg.append.1 (Seg.append.1 h).2).1
theorem cmd_new {w : World} {b off : Nat} {kd cl : Int} {sq : Nat} {p : Option Addr} {n k : Nat} (h : Seg w b off (cmdV kd cl sq p n k)) : Seg w b (off + 36) (bytesU idZ) := by
  have h1 := (Seg.append.1 (Seg.append.1 (Seg.append.1 h).2).2).1
  exact h1
theorem cmd_build (cl : Int) (sq : Nat) (p : Option Addr) (n k : Nat) : putAll (cmdV 0 0 0 none 0 0) [(0, 1, .int .i64 4), (1, 1, .int .i64 cl), (2, 1, .int .u32 (sq : Int)), (68, 1, .slice p n k)] = cmdV 4 cl sq p n k := by rfl
/-- which puts may be -/
def CmdOk1 (cl : Int) (sq : Nat) : Prop := 1 ≤ cl ∧ cl ≤ 3 ∧ 0 < sq
def CmdOk (cl : Int) (sq n : Nat) : Prop := CmdOk1 cl sq ∧ 1 ≤ n ∧ n ≤ 800
instance (cl : Int) (sq : Nat) : Decidable (CmdOk1 cl sq) := by unfold CmdOk1; infer_instance
instance (cl : Int) (sq n : Nat) : Decidable (CmdOk cl sq n) := by unfold CmdOk; infer_instance
theorem idZ_in2 : IdIn idZ := rfl
theorem checkCmd_calls (w : World) (cl : Int) (sq : Nat) (p : Option Addr) (n k : Nat) :
    CallsV Tryz.prog 63 [.agg (cmdV 4 cl sq p n k).toArray] w fun v w' => v = .int .i64 (if CmdOk cl sq n then 0 else 210) ∧ Ext No w w' := by
  refine calls_enter Tryz.func63 rfl rfl rfl rfl ?_
  have hX := Ext.refl No w
  refine c_seq (c_region (wl (st_al I_ok rfl fun b1 w1 hn1 hb1 hE1 => ?_)))
  have hX := hX.thenNo hE1
  have hb1 : Blk w1 b1 67 (cmdV 4 cl sq p n k) := hb1
  refine wl_p I_ok rfl (wl_nil (f_then (c_cutK (α := Bool) [1] rfl (fun z => [(3, .bool z)]) (fun z u => u = w1 ∧ z = decide (CmdOk1 cl sq)) ?_ ?_)))
  · refine c_region ?_
    refine wl_p I_ok rfl (wl (st_ldb I_ok hb1 rfl rfl (wl_p I_ok rfl (wl_caseD 8 rfl (fun hg => ?_) (fun hg => ?_)))))
    · refine wl_pk I_ok 1 rfl ?_
      refine wl (st_ldb I_ok hb1 rfl rfl (wl_pk I_ok 3 rfl (wl_caseD 13 rfl (fun hg => ?_) (fun hg => ?_))))
      · refine wl_pk I_ok 1 rfl ?_
        refine wl (st_ldb I_ok hb1 rfl rfl (wl_pk I_ok 3 rfl (wl_caseD 18 rfl (fun hg => ?_) (fun hg => ?_))))
        · have h1 : 1 ≤ cl := hg
          refine wl_pk I_ok 1 rfl (wl (st_ldb I_ok hb1 rfl rfl (wl_pk I_ok 3 rfl (wl_caseD 23 rfl (fun hg => ?_) (fun hg => ?_)))))
          · have h2 : cl ≤ 3 := hg
            refine wl_pk I_ok 1 rfl (wl (st_ldb I_ok hb1 rfl rfl (wl_pk I_ok 3 rfl (wl_nil ?_))))
            exact f_cut (_) rfl ⟨rfl, by rw [decide_eq_decide]; exact ⟨fun k => ⟨h1, h2, by omega⟩, fun k => by have := k.2.2; omega⟩⟩
          · have h2 : ¬ cl ≤ 3 := hg
            refine wl_pk I_ok 5 rfl (wl_nil ?_)
            exact f_cut (false) rfl ⟨rfl, (decide_eq_false fun k => h2 k.2.1).symm⟩
        · have h1 : ¬ 1 ≤ cl := hg
          refine wl_pk I_ok 10 rfl (wl_nil ?_)
          exact f_cut (false) rfl ⟨rfl, (decide_eq_false fun k => h1 k.1).symm⟩
      · exact absurd (by decide) hg
    · exact absurd (by decide) hg
  rintro z w2 ⟨hu, rfl⟩
  have hu := hu.symm
  subst hu
  refine c_cutK (α := Unit) [1, 3] rfl (fun z => [(4, .bool false)]) (fun z u => u = w1) ?_ ?_
  · refine c_region ?_
    refine wl_p I_ok rfl (wl (st_ldb I_ok hb1 rfl rfl (wl_p I_ok rfl (wl_caseD 31 rfl (fun hg => ?_) (fun hg => ?_)))))
    · exact absurd hg (by decide)
    · refine wl_pk I_ok 1 rfl ?_
      refine wl (st_ldb I_ok hb1 rfl rfl (wl_pk I_ok 3 rfl (wl_nil ?_)))
      exact f_cut (()) rfl rfl
  rintro z w3 hu
  have hu := hu.symm
  subst hu
  refine c_cutK (α := Bool) [1] rfl (fun z => [(3, .bool z)]) (fun z u => u = w1 ∧ z = decide (CmdOk1 cl sq)) ?_ ?_
  · refine c_region ?_
    refine wl_p I_ok rfl (wl_case 37 rfl (fun hg => ?_) (fun hg => ?_))
    · have h1 : CmdOk1 cl sq := by simpa using hg
      refine wl_pk I_ok 1 rfl (wl (st_ldb I_ok hb1 rfl rfl (wl_pk I_ok 2 rfl (wl_caseD 41 rfl (fun hg => ?_) (fun hg => ?_)))))
      · exact absurd hg (by decide)
      · refine wl_pk I_ok 1 rfl ?_
        refine wl (st_ldN I_ok rfl (cmd_old hb1.seg) rfl (wl (st_bd I_ok rfl trivial (l' := bytesU idZ) idZ_c.symm (wl (st_eqK rfl gId 10 (by decide) kId (idForm idZ_in2) (idForm idZ_in2) (idKey idZ_in2) (idKey idZ_in2) idLits_inj ?_)))))
        simp only [if_true]
        refine wl_pk I_ok 3 rfl (wl_case 48 rfl (fun hg => ?_) (fun hg => ?_))
        · refine wl_pk I_ok 2 rfl ?_
          refine wl_case 50 rfl (fun hg => ?_) (fun hg => ?_)
          · exact absurd hg (by decide)
          · refine wl_pk I_ok 1 rfl ?_
            refine wl (st_ldN I_ok rfl (cmd_new hb1.seg) rfl (wl (st_bd I_ok rfl trivial (l' := bytesU idZ) idZ_c.symm (wl (st_eqK rfl gId 10 (by decide) kId (idForm idZ_in2) (idForm idZ_in2) (idKey idZ_in2) (idKey idZ_in2) idLits_inj ?_)))))
            simp only [if_true]
            refine wl_pk I_ok 3 rfl (wl_nil ?_)
            exact f_cut (_) rfl ⟨rfl, by simp [h1]⟩
        · exact absurd hg (by simp)
    · have h1 : ¬ CmdOk1 cl sq := by simpa using hg
      refine wl_pk I_ok 20 rfl (wl_nil ?_)
      exact f_cut (false) rfl ⟨rfl, (decide_eq_false h1).symm⟩
  rintro z w4 ⟨hu, hz⟩
  have hu := hu.symm
  subst hu
  refine c_cutK (α := Bool) [] rfl (fun z => [(3, .bool z)]) (fun z u => u = w1 ∧ z = decide (CmdOk cl sq n)) ?_ ?_
  · refine c_seq ?_
    refine c_region (wl_p I_ok rfl (wl (st_ldb I_ok hb1 rfl rfl (wl_p I_ok rfl (wl_nil (f_then (c_condT rfl (c_region (wl_p I_ok rfl (wl_case 61 rfl (fun hg => ?_) (fun hg => ?_)))))))))))
    · have h1 : CmdOk1 cl sq := by rw [hz] at hg; simpa using hg
      refine wl_pk I_ok 1 rfl (wl (st_ldb I_ok hb1 rfl rfl (wl_pk I_ok 3 rfl (wl_case 66 rfl (fun hg => ?_) (fun hg => ?_)))))
      · refine wl_pk I_ok 1 rfl ?_
        refine wl (st_ld I_ok rfl (hb1.cell (cmd_data _ _ _ _ _ _)) (wl_pk I_ok 4 rfl (wl_caseD 72 rfl (fun hg => ?_) (fun hg => ?_))))
        · have h2 : 1 ≤ n := by omega
          refine wl_pk I_ok 1 rfl (wl (st_ld I_ok rfl (hb1.cell (cmd_data _ _ _ _ _ _)) (wl_pk I_ok 4 rfl (wl_nil ?_))))
          exact f_cut (_) rfl ⟨rfl, by rw [decide_eq_decide]; exact ⟨fun k => ⟨h1, h2, by omega⟩, fun k => by have := k.2.2; omega⟩⟩
        · have h2 : ¬ 1 ≤ n := by omega
          refine wl_pk I_ok 6 rfl (wl_nil ?_)
          exact f_cut (false) rfl ⟨rfl, (decide_eq_false fun k => h2 k.2.1).symm⟩
      · exact absurd hg (by decide)
    · have h1 : ¬ CmdOk1 cl sq := by rw [hz] at hg; simpa using hg
      refine wl_pk I_ok 17 rfl (wl_nil ?_)
      exact f_cut (false) rfl ⟨rfl, (decide_eq_false fun k => h1 k.1).symm⟩
  rintro z w5 ⟨hu, hz⟩
  have hu := hu.symm
  subst hu
  refine c_seq (c_seq (c_region (wl_p I_ok rfl (wl_nil (f_then (c_cond rfl (fun hc => ?_) (fun hc => ?_)))))))
  · have hno : ¬ CmdOk cl sq n := by rw [hz] at hc; simpa using hc
    refine c_seq (c_region (wl_p I_ok rfl (wl_nil (f_then (c_ret (f_thenR (f_ret1 rfl rfl ?_)))))))
    exact ⟨by rw [if_neg hno], hX⟩
  · have hok : CmdOk cl sq n := by rw [hz] at hc; simpa using hc
    refine c_skip (f_then (c_seq (c_region (wl_p I_ok rfl (wl_nil (f_then (c_ret (f_ret1 rfl rfl ?_))))))))
    exact ⟨by rw [if_pos hok], hX⟩

theorem rightCmd_calls (w : World) (cl : Int) (sq : Nat) (p : Option Addr) (n k : Nat) :
    CallsV Tryz.prog 61 [.agg (cmdV 4 cl sq p n k).toArray] w fun v w' => v = .bool (decide (CmdOk cl sq n)) ∧ Ext No w w' := by
  refine calls_enter Tryz.func61 rfl rfl rfl rfl ?_
  have hX := Ext.refl No w
  refine c_seq (c_region (wl (st_al I_ok rfl fun b1 w1 hn1 hb1 hE1 => ?_)))
  have hX := hX.thenNo hE1
  have hb1 : Blk w1 b1 67 (cmdV 4 cl sq p n k) := hb1
  refine wl_p I_ok rfl (wl_nil (f_then (c_seq (c_region (wl (st_bd I_ok rfl trivial (l' := bytesU idZ) idZ_c.symm (wl (st_al I_ok rfl fun b3 w2 hn3 hb3 hE2 => ?_))))))))
  have ne1_3 : b1 ≠ b3 := Nat.ne_of_lt (Nat.lt_of_lt_of_le hb1.lt hn3)
  have fr3 := Nat.le_trans hX.size hn3
  have hb1 := hb1.extNo hE2
  have hX := hX.thenNo hE2
  refine wl (st_stW (l' := bytesU idZ) I_ok hb3 rfl rfl rfl rfl OneC.h fun w3 hb3 hE3 hs3 => ?_)
  have hb1 := hb1.ext1 hE3 ne1_3
  have hX := hX.thenNew hE3 fr3
  refine wl_nil (f_then (c_seq (c_cutK (α := Bool) [1, 3] rfl (fun z => [(28, .bool z)]) (fun z u => u = w3 ∧ z = decide (¬ CmdOk1 cl sq)) ?_ ?_)))
  · refine c_region ?_
    refine wl_p I_ok rfl (wl (st_ldb I_ok hb1 rfl rfl (wl_p I_ok rfl (wl_caseD 9 rfl (fun hg => ?_) (fun hg => ?_)))))
    · exact absurd hg (by decide)
    · refine wl_pk I_ok 1 rfl ?_
      refine wl (st_ldb I_ok hb1 rfl rfl (wl_pk I_ok 3 rfl (wl_caseD 14 rfl (fun hg => ?_) (fun hg => ?_))))
      · exact absurd hg (by decide)
      · refine wl_pk I_ok 1 rfl ?_
        refine wl (st_ldb I_ok hb1 rfl rfl (wl_pk I_ok 3 rfl (wl_caseD 19 rfl (fun hg => ?_) (fun hg => ?_))))
        · have h1 : cl < 1 := hg
          refine wl_pk I_ok 9 rfl (wl_nil ?_)
          exact f_cut (true) rfl ⟨rfl, by symm; rw [decide_eq_true_eq]; exact fun k => by have := k.1; omega⟩
        · have h1 : ¬ cl < 1 := hg
          refine wl_pk I_ok 1 rfl (wl (st_ldb I_ok hb1 rfl rfl (wl_pk I_ok 3 rfl (wl_caseD 24 rfl (fun hg => ?_) (fun hg => ?_)))))
          · have h2 : 3 < cl := hg
            refine wl_pk I_ok 4 rfl (wl_nil ?_)
            exact f_cut (true) rfl ⟨rfl, by symm; rw [decide_eq_true_eq]; exact fun k => by have := k.2.1; omega⟩
          · have h2 : ¬ 3 < cl := hg
            refine wl_pk I_ok 1 rfl (wl (st_ldb I_ok hb1 rfl rfl (wl_pk I_ok 2 rfl (wl_nil ?_))))
            exact f_cut (_) rfl ⟨rfl, by rw [decide_eq_decide]; exact ⟨fun k e => by have := e.2.2; omega, fun k => by rcases Nat.eq_zero_or_pos sq with e | e; omega; exact absurd ⟨by omega, by omega, e⟩ k⟩⟩
  rintro z w4 ⟨hu, hz⟩
  have hu := hu.symm
  subst hu
  refine c_cond rfl (fun hc => ?_) (fun hc => ?_)
  · have h1 : ¬ CmdOk1 cl sq := by rw [hz] at hc; simpa using hc
    refine c_seq (c_region (wl_p I_ok rfl (wl_nil (f_then (c_ret (f_thenR (f_ret1 rfl rfl ?_)))))))
    exact ⟨congrArg Value.bool (decide_eq_false fun k => h1 k.1).symm, hX⟩
  · have h1 : CmdOk1 cl sq := by rw [hz] at hc; simpa using hc
    refine c_skip (f_then (c_seq (c_seq (c_region (wl_p I_ok rfl (wl (st_ldb I_ok hb1 rfl rfl (wl_p I_ok rfl (wl_nil (f_then (c_condT rfl ?_)))))))))))
    refine c_cutK (α := Bool) [] rfl (fun z => [(2, .bool z)]) (fun z u => u = w3 ∧ z = decide (CmdOk cl sq n)) ?_ ?_
    · refine c_region ?_
      refine wl_p I_ok rfl (wl (st_ldb I_ok hb1 rfl rfl (wl_p I_ok rfl (wl_case 35 rfl (fun hg => ?_) (fun hg => ?_)))))
      · refine wl_pk I_ok 1 rfl ?_
        refine wl (st_ldN I_ok rfl (cmd_old hb1.seg) rfl (wl (st_ldB I_ok hb3 rfl rfl (wl (st_eqK rfl gId 10 (by decide) kId (idForm idZ_in2) (idForm idZ_in2) (idKey idZ_in2) (idKey idZ_in2) idLits_inj ?_)))))
        simp only [if_true]
        refine wl_p I_ok rfl (wl_case 41 rfl (fun hg => ?_) (fun hg => ?_))
        · refine wl_pk I_ok 1 rfl ?_
          refine wl (st_ldN I_ok rfl (cmd_new hb1.seg) rfl (wl (st_ldB I_ok hb3 rfl rfl (wl (st_eqK rfl gId 10 (by decide) kId (idForm idZ_in2) (idForm idZ_in2) (idKey idZ_in2) (idKey idZ_in2) idLits_inj ?_)))))
          simp only [if_true]
          refine wl_p I_ok rfl (wl_case 47 rfl (fun hg => ?_) (fun hg => ?_))
          · refine wl_pk I_ok 1 rfl ?_
            refine wl (st_ld I_ok rfl (hb1.cell (cmd_data _ _ _ _ _ _)) (wl_pk I_ok 4 rfl (wl_caseD 53 rfl (fun hg => ?_) (fun hg => ?_))))
            · have h2 : 1 ≤ n := by omega
              refine wl_pk I_ok 1 rfl (wl (st_ld I_ok rfl (hb1.cell (cmd_data _ _ _ _ _ _)) (wl_pk I_ok 4 rfl (wl_nil ?_))))
              exact f_cut (_) rfl ⟨rfl, by rw [decide_eq_decide]; exact ⟨fun k => ⟨h1, h2, by omega⟩, fun k => by have := k.2.2; omega⟩⟩
            · have h2 : ¬ 1 ≤ n := by omega
              refine wl_pk I_ok 6 rfl (wl_nil ?_)
              exact f_cut (false) rfl ⟨rfl, (decide_eq_false fun k => h2 k.2.1).symm⟩
          · exact absurd hg (by simp)
        · exact absurd hg (by simp)
      · exact absurd hg (by decide)
    rintro z w5 ⟨hu, hz⟩
    have hu := hu.symm
    subst hu
    refine c_ret (f_thenR (f_ret1 rfl rfl ?_))
    exact ⟨by rw [hz], hX⟩
theorem take_eq {l m : List UInt8} {i : Nat} (h1 : i < l.length) (h2 : i < m.length) (hs : l.take i = m.take i) (he : l[i] = m[i]) : l.take (i + 1) = m.take (i + 1) := by
  rw [List.take_succ_eq_append_getElem h1, List.take_succ_eq_append_getElem h2, hs, he]
theorem byte_dec {a b : UInt8} : decide (((a.toNat : Nat) : Int) = (b.toNat : Int)) = decide (a = b) := by
  rw [decide_eq_decide]
  exact ⟨fun e => UInt8.toNat_inj.1 (Int.ofNat.inj e), fun e => by rw [e]⟩
theorem same01_calls (w : World) {p q : Option Addr} {c d : Nat} {l m : List UInt8} (h : SlB w p l) (h' : SlB w q m) (hl : l.length < 1000000000) :
    CallsV Tryz.prog 64 [.slice p l.length c, .slice q m.length d] w fun v w' => v = .bool (decide (l = m)) ∧ Ext No w w' := by
  refine calls_enter Tryz.func64 rfl rfl rfl rfl ?_
  have hX := Ext.refl No w
  refine c_seq (c_region (wl_p I_ok rfl (wl_nil (f_then (c_seq (c_region (wl_p I_ok rfl (wl_nil (f_then (c_seq (c_seq (c_region (wl_p I_ok rfl (wl_nil (f_then (c_block ?_))))))))))))))))
  refine c_loopK (α := Bool × Nat) [0, 1] rfl (fun z => [(5, .bool z.1), (6, .int .i64 (z.2 : Int))]) (fun z u => (z.2 ≤ l.length ∧ (z.1 = true → l.length = m.length ∧ l.take z.2 = m.take z.2) ∧ (z.1 = false → l ≠ m)) ∧ Ext No w u) (fun z u => l.length - z.2) (decide ((l.length : Int) = (m.length : Int)), 0) rfl ⟨⟨Nat.zero_le _, fun k => ⟨Int.ofNat.inj (of_decide_eq_true k), rfl⟩, fun k e => of_decide_eq_false k (by rw [e])⟩, hX⟩ ?_
  rintro ⟨s, i⟩ w1 ⟨⟨hi, ht, hf⟩, hX⟩
  try dsimp only
  dsimp only at hi ht hf
  refine c_seq (c_cutK (α := Bool) [0, 1, 5, 6] rfl (fun z => [(18, .bool z)]) (fun z u => u = w1 ∧ (z = true ↔ s = true ∧ i < l.length)) ?_ ?_)
  · refine c_region ?_
    refine wl_p I_ok rfl (wl_case 13 rfl (fun hg => ?_) (fun hg => ?_))
    · have hs := hg
      refine wl_pk I_ok 5 rfl (wl_nil ?_)
      exact f_cut (_) rfl ⟨rfl, ⟨fun k => ⟨hs, by have := of_decide_eq_true k; omega⟩, fun k => decide_eq_true (by have := k.2; omega)⟩⟩
    · have hs := hg
      refine wl_pk I_ok 5 rfl (wl_nil ?_)
      exact f_cut (false) rfl ⟨rfl, ⟨fun k => (by cases k), fun k => by rw [hs] at k; cases k.1⟩⟩
  rintro z w2 ⟨hu, hz⟩
  have hu := hu.symm
  subst hu
  refine c_cond rfl (fun hc => ?_) (fun hc => ?_)
  · obtain ⟨hs, hi2⟩ := hz.1 hc
    obtain ⟨hlm, htk⟩ := ht hs
    have hi3 : i < m.length := by omega
    obtain ⟨lb, lo, hpl, hsl⟩ : ∃ b off, p = some ⟨b, off, none⟩ ∧ Seg w b off (bytesU l) := by
      rcases h.2 with h0 | h0
      · omega
      · exact h0
    obtain ⟨mb, mo, hpm, hsm⟩ : ∃ b off, q = some ⟨b, off, none⟩ ∧ Seg w b off (bytesU m) := by
      rcases h'.2 with h0 | h0
      · omega
      · exact h0
    refine wc_put 0 rfl (v' := .slice (some ⟨lb, lo, none⟩) l.length c) (by rw [hpl]) (wc_put 1 rfl (v' := .slice (some ⟨mb, mo, none⟩) m.length d) (by rw [hpm]) (c_skip (f_then (c_seq (c_block ?_)))))
    refine c_draw rfl 10 [(0, true), (1, true), (2, true), (3, true), (4, true), (5, true), (6, true), (7, true), (8, true), (9, true)] [] (No) (by kernel_rfl) fun w3 hE3 hs3 => ?_
    have hXd := hX
    have hX := hX.thenNo hE3
    refine wd_k I_ok 2 rfl (wd_ix I_ok rfl rfl 1 rfl i rfl (by omega) (lo + i * 1) rfl (wd_ld I_ok rfl rfl (fun w' hw' => (by rw [Nat.mul_one]; exact (hsl.extNo (hXd.thenNo hw')) i _ (bytesU_get l hi2))) ?_))
    refine wd_k I_ok 2 rfl (wd_ix I_ok rfl rfl 1 rfl i rfl (by omega) (mo + i * 1) rfl (wd_ld I_ok rfl rfl (fun w' hw' => (by rw [Nat.mul_one]; exact (hsm.extNo (hXd.thenNo hw')) i _ (bytesU_get m hi3))) ?_))
    refine wd_k I_ok 2 rfl (wd_sw (wb_nil (f_blockN (f_then (c_region (wl_p I_ok rfl ?_))))))
    rw [IntWalk.i64_in _ (by omega)]
    refine wl_nil (fin_put 0 rfl (v' := .slice p l.length c) (by rw [hpl]) (fin_put 1 rfl (v' := .slice q m.length d) (by rw [hpm]) ?_))
    exact f_round (decide (l[i] = m[i]), i + 1) (by rw [← byte_dec]; rfl) ⟨⟨hi2, fun k => ⟨hlm, take_eq hi2 hi3 htk (of_decide_eq_true k)⟩, fun k e => of_decide_eq_false k (List.getElem_of_eq e _)⟩, hX⟩ (by first | omega | (dsimp only; omega))
  · have hz2 : s = decide (l = m) := by
      cases s
      · exact (decide_eq_false (hf rfl)).symm
      · obtain ⟨hlm, htk⟩ := ht rfl
        have h0 : i = l.length := by
          rcases Nat.lt_or_ge i l.length with k | k
          · have := hz.2 ⟨rfl, k⟩; rw [this] at hc; cases hc
          · omega
        subst h0
        rw [List.take_length, hlm, List.take_length] at htk
        exact (decide_eq_true htk).symm
    rw [hz2]
    refine c_exit (f_thenE (f_thenE (f_blockE (f_then (c_seq (c_region (wl_p I_ok rfl (wl_nil (f_then (c_ret (f_ret1 rfl rfl ?_)))))))))))
    exact ⟨rfl, hX⟩
end Go.Proofs.YtpcdihkcenfgkaaGreat
namespace Go.Proofs.YtpcdihkcenfgkaaGreat
open Go.Vc
/-- a put, or what stands in its place when it is refused -/
structure CmdD where
  kd : Int
  cl : Int
  sq : Nat
  data : List UInt8
  deriving DecidableEq
/-- a put's error -/
def putUE (x : ObjD) (cl : Int) (sq : Nat) : Int := if ¬ ObjOk x then 160 else if CmdOk cl sq (laidB x).length then 0 else 210
/-- a put -/
def putUC (x : ObjD) (cl : Int) (sq : Nat) : CmdD := if putUE x cl sq = 0 then ⟨4, cl, sq, laidB x⟩ else ⟨0, 0, 0, []⟩
abbrev cmdC (c : CmdD) (p : Option Addr) (k : Nat) : List Value := cmdV c.kd c.cl c.sq p c.data.length k
theorem putU_no {x : ObjD} {cl : Int} {sq : Nat} (h : ¬ ObjOk x) : putUE x cl sq = 160 ∧ putUC x cl sq = ⟨0, 0, 0, []⟩ := by
  have e : putUE x cl sq = 160 := if_pos h
  exact ⟨e, if_neg (by rw [e]; decide)⟩
theorem putU_bad {x : ObjD} {cl : Int} {sq : Nat} (h : ObjOk x) (h2 : ¬ CmdOk cl sq (laidB x).length) : putUE x cl sq = 210 ∧ putUC x cl sq = ⟨0, 0, 0, []⟩ := by
  have e : putUE x cl sq = 210 := by rw [putUE, if_neg (fun k => k h), if_neg h2]
  exact ⟨e, if_neg (by rw [e]; decide)⟩
theorem putU_ok {x : ObjD} {cl : Int} {sq : Nat} (h : ObjOk x) (h2 : CmdOk cl sq (laidB x).length) : putUE x cl sq = 0 ∧ putUC x cl sq = ⟨4, cl, sq, laidB x⟩ := by
  have e : putUE x cl sq = 0 := by rw [putUE, if_neg (fun k => k h), if_pos h2]
  exact ⟨e, if_pos e⟩
/-- where a put's bytes lie -/
def CmdAt (w : World) (c : CmdD) (p : Option Addr) (k : Nat) : Prop := Own w p c.data.length k 5 1 (bytesU c.data)
theorem CmdAt.ext {S : Nat → Prop} {w w' : World} {c : CmdD} {p : Option Addr} {k : Nat} (h : CmdAt w c p k) (hE : Ext S w w') (hS : ∀ x, OwnB p x → ¬ S x) : CmdAt w' c p k := Own.ext h hE hS
theorem CmdAt.no {w w' : World} {c : CmdD} {p : Option Addr} {k : Nat} (h : CmdAt w c p k) (hE : Ext No w w') : CmdAt w' c p k := h.ext hE fun _ _ => id
theorem CmdAt.one {w w' : World} {c : CmdD} {p : Option Addr} {k b T : Nat} {l : List Value} (h : CmdAt w c p k) (hE : Ext (One b) w w') (hb : Blk w b T l) (hT : 5 ≠ T) : CmdAt w' c p k := Own.extTy h hE hb hT
theorem CmdAt.nil (w : World) : CmdAt w ⟨0, 0, 0, []⟩ none 0 := Own.nil _ _ _
theorem putU_len {x : ObjD} {cl : Int} {sq : Nat} : (putUC x cl sq).data.length ≤ 800 := by
  by_cases h : ObjOk x
  · by_cases h2 : CmdOk cl sq (laidB x).length
    · rw [(putU_ok h h2).2]; exact h2.2.2
    · rw [(putU_bad h h2).2]; exact Nat.zero_le _
  · rw [(putU_no h).2]; exact Nat.zero_le _
theorem sameCmd_calls (w : World) {c d : CmdD} {p q : Option Addr} {k j : Nat} (h : SlB w p c.data) (h' : SlB w q d.data) (hl : c.data.length < 1000000000) :
    CallsV Tryz.prog 27 [.agg (cmdC c p k).toArray, .agg (cmdC d q j).toArray] w fun v w' => v = .bool (decide (c = d)) ∧ Ext No w w' := by
  refine calls_enter Tryz.func27 rfl rfl rfl rfl ?_
  have hX := Ext.refl No w
  refine c_seq (c_region (wl (st_al I_ok rfl fun b2 w1 hn2 hb2 hE1 => ?_)))
  have hX := hX.thenNo hE1
  have hb2 : Blk w1 b2 67 (cmdC c p k) := hb2
  refine wl (st_al I_ok rfl fun b3 w2 hn3 hb3 hE2 => ?_)
  have hb2 := hb2.extNo hE2
  have hX := hX.thenNo hE2
  have hb3 : Blk w2 b3 67 (cmdC d q j) := hb3
  refine wl_p I_ok rfl (wl_nil (f_then (c_cutK (α := Bool) [] rfl (fun z => [(4, .bool z)]) (fun z u => (z = decide (c = d)) ∧ Blk u b2 67 (cmdC c p k) ∧ Blk u b3 67 (cmdC d q j) ∧ Ext No w u) ?_ ?_)))
  · refine c_region ?_
    refine wl_p I_ok rfl (wl (st_ldb I_ok hb2 rfl rfl (wl_p I_ok rfl (wl (st_ldb I_ok hb3 rfl rfl (wl_p I_ok rfl (wl_caseD 10 rfl (fun hg => ?_) (fun hg => ?_))))))))
    · have h1 : c.kd = d.kd := hg
      refine wl_pk I_ok 1 rfl (wl (st_ldb I_ok hb2 rfl rfl (wl_pk I_ok 1 rfl (wl (st_ldb I_ok hb3 rfl rfl (wl_pk I_ok 3 rfl (wl_caseD 17 rfl (fun hg => ?_) (fun hg => ?_))))))))
      · have h2 : c.cl = d.cl := hg
        refine wl_pk I_ok 1 rfl (wl (st_ldb I_ok hb2 rfl rfl (wl_pk I_ok 1 rfl (wl (st_ldb I_ok hb3 rfl rfl (wl_pk I_ok 3 rfl (wl_caseD 24 rfl (fun hg => ?_) (fun hg => ?_))))))))
        · have h3 : c.sq = d.sq := Int.ofNat.inj hg
          refine wl_pk I_ok 1 rfl (wl (st_ldb I_ok hb2 rfl rfl (wl_pk I_ok 1 rfl (wl (st_ldb I_ok hb3 rfl rfl (wl_pk I_ok 3 rfl (wl_case 31 rfl (fun hg => ?_) (fun hg => ?_))))))))
          · refine wl_pk I_ok 1 rfl ?_
            refine wl (st_ldN I_ok rfl (cmd_old hb2.seg) rfl (wl_pk I_ok 1 rfl (wl (st_ldN I_ok rfl (cmd_old hb3.seg) rfl (wl (st_eqK rfl gId 10 (by decide) kId (idForm idZ_in2) (idForm idZ_in2) (idKey idZ_in2) (idKey idZ_in2) idLits_inj ?_))))))
            simp only [if_true]
            refine wl_p I_ok rfl (wl_case 38 rfl (fun hg => ?_) (fun hg => ?_))
            · refine wl_pk I_ok 1 rfl ?_
              refine wl (st_ldN I_ok rfl (cmd_new hb2.seg) rfl (wl_pk I_ok 1 rfl (wl (st_ldN I_ok rfl (cmd_new hb3.seg) rfl (wl (st_eqK rfl gId 10 (by decide) kId (idForm idZ_in2) (idForm idZ_in2) (idKey idZ_in2) (idKey idZ_in2) idLits_inj ?_))))))
              simp only [if_true]
              refine wl_p I_ok rfl (wl_case 45 rfl (fun hg => ?_) (fun hg => ?_))
              · refine wl_pk I_ok 1 rfl ?_
                refine wl (st_ld I_ok rfl (hb2.cell (cmd_data _ _ _ _ _ _)) (wl_pk I_ok 1 rfl (wl (st_ld I_ok rfl (hb3.cell (cmd_data _ _ _ _ _ _)) ?_))))
                refine wl (st_call Tryz.call64 rfl rfl rfl rfl rfl rfl (same01_calls w2 (show SlB _ _ _ from Sl.extNo h hX) (show SlB _ _ _ from Sl.extNo h' hX) hl) fun v3 w3 hr3 => ?_)
                obtain ⟨rfl, hE3⟩ := hr3
                have hb2 := hb2.extNo hE3
                have hb3 := hb3.extNo hE3
                have hX := hX.thenNo hE3
                refine wl_p I_ok rfl (wl_nil ?_)
                exact f_cut (_) rfl ⟨by rw [decide_eq_decide]; exact ⟨fun e => by cases c; cases d; dsimp only at h1 h2 h3 e; subst h1 h2 h3 e; rfl, fun e => by rw [e]⟩, hb2, hb3, hX⟩
              · exact absurd hg (by simp)
            · exact absurd hg (by simp)
          · exact absurd hg (by simp)
        · have h3 : ¬ c.sq = d.sq := fun e => hg (by rw [e])
          refine wl_pk I_ok 28 rfl (wl_nil ?_)
          exact f_cut (false) rfl ⟨(decide_eq_false fun e => h3 (by rw [e])).symm, hb2, hb3, hX⟩
      · have h2 : ¬ c.cl = d.cl := hg
        refine wl_pk I_ok 35 rfl (wl_nil ?_)
        exact f_cut (false) rfl ⟨(decide_eq_false fun e => h2 (by rw [e])).symm, hb2, hb3, hX⟩
    · have h1 : ¬ c.kd = d.kd := hg
      refine wl_pk I_ok 42 rfl (wl_nil ?_)
      exact f_cut (false) rfl ⟨(decide_eq_false fun e => h1 (by rw [e])).symm, hb2, hb3, hX⟩
  rintro z w4 ⟨hz, hb2, hb3, hX⟩
  refine c_ret (f_ret1 rfl rfl ?_)
  exact ⟨by rw [hz], hX⟩

theorem put_calls (w : World) {x : ObjD} {a : ObjP} (hx : ObjIn x) (hxl : ObjL w x a) (hsx : Short x) (cl : Int) (sq : Nat) :
    CallsV Tryz.prog 26 [.agg (objC x a).toArray, .int .i64 cl, .int .u32 (sq : Int)] w fun v w' => ∃ q k, v = .tuple #[.agg (cmdC (putUC x cl sq) q k).toArray, .int .i64 (putUE x cl sq)] ∧ CmdAt w' (putUC x cl sq) q k ∧ (∀ y, OwnB q y → w.heap.size ≤ y) ∧ Ext No w w' := by
  refine calls_enter Tryz.func26 rfl rfl rfl rfl ?_
  have hX := Ext.refl No w
  refine c_seq (c_region (wl (st_al I_ok rfl fun b3 w1 hn3 hb3 hE1 => ?_)))
  have hX := hX.thenNo hE1
  have hb3 : Blk w1 b3 48 (objC x a) := hb3
  refine wl (st_al I_ok rfl fun b6 w2 hn6 hb6 hE2 => ?_)
  have fr6 := Nat.le_trans hX.size hn6
  have hb3 := hb3.extNo hE2
  have hX := hX.thenNo hE2
  have hb6o := hb6
  refine wl_p I_ok rfl (wl_nil (f_then (c_seq (c_region (wl (st_ldB I_ok hb3 rfl (objC_len hx) ?_))))))
  have hXs := hX.size
  refine wl (st_call Tryz.call62 rfl rfl rfl rfl rfl rfl (encode_calls w2 hx (hxl.extNo hX) hsx) fun v3 w3 hr3 => ?_)
  obtain ⟨q, k, rfl, hq, hqn0, hE3⟩ := hr3
  have hb6 := hb6.extNo hE3
  have hX := hX.thenNo hE3
  refine wl_p I_ok rfl (wl_nil (f_then (c_seq (c_seq (c_region (wl_p I_ok rfl (wl_nil (f_then (c_if rfl (fun hc => ?_) (fun hc => ?_))))))))))
  · have hno : ¬ ObjOk x := fun e => hc (if_pos e)
    have hU := putU_no (cl := cl) (sq := sq) hno
    refine c_seq (c_region (wl (st_bd I_ok rfl trivial (l' := cmdV 0 0 0 none 0 0) cmdZ_c (wl_p I_ok rfl ?_))))
    refine wl (st_stW (l' := cmdV 0 0 0 none 0 0) I_ok hb6 rfl rfl rfl rfl OneC.h fun w4 hb6 hE4 hs4 => ?_)
    have hX := hX.thenNew hE4 fr6
    refine wl_p I_ok rfl (wl_nil (f_then (c_ret (f_thenR (f_ret [_, _] ⟨⟨b6, 0, rfl, ld_all I_ok rfl rfl hb6.seg rfl⟩, rfl, trivial⟩ ?_)))))
    exact ⟨none, 0, by rw [hU.1, hU.2, show objE x = 160 from if_neg hno]; rfl, by rw [hU.2]; exact CmdAt.nil _, noOwn, hX⟩
  · have hok : ObjOk x := (if_zero (by decide)).1 (Decidable.not_not.1 hc)
    have eB : encB x = laidB x := if_pos hok
    have hA : CmdAt w3 ⟨4, cl, sq, laidB x⟩ q k := by rw [eB] at hq; exact hq
    rw [eB]
    refine c_skip (f_then (c_seq (c_region (wl_p I_ok rfl ?_))))
    refine wl (st_bd I_ok rfl ⟨⟨rfl, by decide⟩, ⟨rfl, by decide⟩, ⟨rfl, by decide⟩, ⟨rfl, by decide⟩, trivial⟩ (l' := cmdV 4 cl sq q (laidB x).length k) (by rw [cmdZ_c]; exact cmd_build _ _ _ _ _) (wl (st_al I_ok rfl fun b10 w5 hn10 hb10 hE5 => ?_)))
    have ne6_10 : b6 ≠ b10 := Nat.ne_of_lt (Nat.lt_of_lt_of_le hb6.lt hn10)
    have fr10 := Nat.le_trans hX.size hn10
    have hb6 := hb6.extNo hE5
    have hA := hA.no hE5
    have hX := hX.thenNo hE5
    have hb10o := hb10
    refine wl (st_stW (l' := cmdV 4 cl sq q (laidB x).length k) I_ok hb10 rfl rfl rfl rfl OneC.h fun w6 hb10 hE6 hs6 => ?_)
    have hb6 := hb6.ext1 hE6 ne6_10
    have hA := hA.one hE6 hb10o (by decide)
    have hX := hX.thenNew hE6 fr10
    refine wl_nil (f_then (c_seq (c_seq (c_region (wl (st_ldB I_ok hb10 rfl rfl (wl (st_call Tryz.call63 rfl rfl rfl rfl rfl rfl (checkCmd_calls w6 cl sq q (laidB x).length k) fun v7 w7 hr7 => ?_))))))))
    obtain ⟨rfl, hE7⟩ := hr7
    have hb6 := hb6.extNo hE7
    have hb10 := hb10.extNo hE7
    have hA := hA.no hE7
    have hX := hX.thenNo hE7
    refine wl_p I_ok rfl (wl_nil (f_then (c_seq (c_region (wl_p I_ok rfl (wl_nil (f_then (c_if rfl (fun hc => ?_) (fun hc => ?_)))))))))
    · have hn2 : ¬ CmdOk cl sq (laidB x).length := fun e => hc (if_pos e)
      have hU := putU_bad hok hn2
      refine c_seq (c_region (wl (st_bd I_ok rfl trivial (l' := cmdV 0 0 0 none 0 0) cmdZ_c (wl_p I_ok rfl ?_))))
      refine wl (st_stW (l' := cmdV 0 0 0 none 0 0) I_ok hb6 rfl rfl rfl rfl OneC.h fun w8 hb6 hE8 hs8 => ?_)
      have hX := hX.thenNew hE8 fr6
      refine wl_p I_ok rfl (wl_nil (f_then (c_ret (f_thenR (f_ret [_, _] ⟨⟨b6, 0, rfl, ld_all I_ok rfl rfl hb6.seg rfl⟩, rfl, trivial⟩ ?_)))))
      exact ⟨none, 0, by rw [hU.1, hU.2, if_neg hn2]; rfl, by rw [hU.2]; exact CmdAt.nil _, noOwn, hX⟩
    · have ho2 : CmdOk cl sq (laidB x).length := (if_zero (by decide)).1 (Decidable.not_not.1 hc)
      have hU := putU_ok hok ho2
      refine c_skip (f_then (c_seq (c_region (wl (st_ldB I_ok hb10 rfl rfl ?_)))))
      have hb6o := hb6
      refine wl (st_stW (l' := cmdV 4 cl sq q (laidB x).length k) I_ok hb6 rfl rfl rfl rfl OneC.h fun w9 hb6 hE9 hs9 => ?_)
      have hA := hA.one hE9 hb6o (by decide)
      have hX := hX.thenNew hE9 fr6
      refine wl_p I_ok rfl (wl_nil (f_then (c_ret (f_ret [_, _] ⟨⟨b6, 0, rfl, ld_all I_ok rfl rfl hb6.seg rfl⟩, rfl, trivial⟩ ?_))))
      exact ⟨q, k, by rw [hU.1, hU.2]; rfl, by rw [hU.2]; exact hA, fun y hy => Nat.le_trans hXs (hqn0 y hy), hX⟩

theorem put18_calls (w : World) {x : ObjD} {a : ObjP} (hx : ObjIn x) (hxl : ObjL w x a) (hsx : Short x) (cl : Int) (sq : Nat) :
    CallsV Tryz.prog 25 [.agg (objC x a).toArray, .int .i64 cl, .int .u32 (sq : Int)] w fun v w' => ∃ q k, v = .tuple #[.agg (cmdC (putUC x cl sq) q k).toArray, .int .i64 (putUE x cl sq)] ∧ CmdAt w' (putUC x cl sq) q k ∧ (∀ y, OwnB q y → w.heap.size ≤ y) ∧ Ext No w w' := by
  refine calls_enter Tryz.func25 rfl rfl rfl rfl ?_
  have hX := Ext.refl No w
  refine c_seq (c_region (wl (st_al I_ok rfl fun b3 w1 hn3 hb3 hE1 => ?_)))
  have hX := hX.thenNo hE1
  have hb3 : Blk w1 b3 48 (objC x a) := hb3
  refine wl (st_al I_ok rfl fun b6 w2 hn6 hb6 hE2 => ?_)
  have fr6 := Nat.le_trans hX.size hn6
  have hb3 := hb3.extNo hE2
  have hX := hX.thenNo hE2
  have hb6o := hb6
  refine wl_p I_ok rfl (wl_nil (f_then (c_seq (c_seq (c_region (wl (st_ldB I_ok hb3 rfl (objC_len hx) (wl (st_call Tryz.call59 rfl rfl rfl rfl rfl rfl (right6_calls w2 hx (hxl.extNo hX) hsx) fun v3 w3 hr3 => ?_)))))))))
  obtain ⟨rfl, hE3⟩ := hr3
  have hb3 := hb3.extNo hE3
  have hb6 := hb6.extNo hE3
  have hX := hX.thenNo hE3
  refine wl_p I_ok rfl (wl_nil (f_then (c_cond rfl (fun hc => ?_) (fun hc => ?_))))
  · have hno : ¬ ObjOk x := by simpa using hc
    have hU := putU_no (cl := cl) (sq := sq) hno
    refine c_seq (c_region (wl (st_bd I_ok rfl trivial (l' := cmdV 0 0 0 none 0 0) cmdZ_c ?_)))
    refine wl (st_stW (l' := cmdV 0 0 0 none 0 0) I_ok hb6 rfl rfl rfl rfl OneC.h fun w4 hb6 hE4 hs4 => ?_)
    have hX := hX.thenNew hE4 fr6
    refine wl_p I_ok rfl (wl_nil (f_then (c_ret (f_thenR (f_ret [_, _] ⟨⟨b6, 0, rfl, ld_all I_ok rfl rfl hb6.seg rfl⟩, rfl, trivial⟩ ?_)))))
    exact ⟨none, 0, by rw [hU.1, hU.2]; rfl, by rw [hU.2]; exact CmdAt.nil _, noOwn, hX⟩
  · have hok : ObjOk x := by simpa using hc
    refine c_skip (f_then (c_seq (c_region (wl_p I_ok rfl (wl (st_ldB I_ok hb3 rfl (objC_len hx) ?_))))))
    have hXs := hX.size
    refine wl (st_call Tryz.call60 rfl rfl rfl rfl rfl rfl (bytes6_calls w3 hx (hxl.extNo hX) (bytes_of hok.1)) fun v5 w5 hr5 => ?_)
    obtain ⟨q, k, rfl, hq, hqn0, hE5⟩ := hr5
    have hb6 := hb6.extNo hE5
    have hX := hX.thenNo hE5
    have hA : CmdAt w5 ⟨4, cl, sq, laidB x⟩ q k := hq
    refine wl (st_bd I_ok rfl ⟨⟨rfl, by decide⟩, ⟨rfl, by decide⟩, ⟨rfl, by decide⟩, ⟨rfl, by decide⟩, trivial⟩ (l' := cmdV 4 cl sq q (laidB x).length k) (by rw [cmdZ_c]; exact cmd_build _ _ _ _ _) (wl (st_al I_ok rfl fun b8 w6 hn8 hb8 hE6 => ?_)))
    have ne6_8 : b6 ≠ b8 := Nat.ne_of_lt (Nat.lt_of_lt_of_le hb6.lt hn8)
    have fr8 := Nat.le_trans hX.size hn8
    have hb6 := hb6.extNo hE6
    have hA := hA.no hE6
    have hX := hX.thenNo hE6
    have hb8o := hb8
    refine wl (st_stW (l' := cmdV 4 cl sq q (laidB x).length k) I_ok hb8 rfl rfl rfl rfl OneC.h fun w7 hb8 hE7 hs7 => ?_)
    have hb6 := hb6.ext1 hE7 ne6_8
    have hA := hA.one hE7 hb8o (by decide)
    have hX := hX.thenNew hE7 fr8
    refine wl_nil (f_then (c_seq (c_seq (c_region (wl (st_ldB I_ok hb8 rfl rfl (wl (st_call Tryz.call61 rfl rfl rfl rfl rfl rfl (rightCmd_calls w7 cl sq q (laidB x).length k) fun v8 w8 hr8 => ?_))))))))
    obtain ⟨rfl, hE8⟩ := hr8
    have hb6 := hb6.extNo hE8
    have hb8 := hb8.extNo hE8
    have hA := hA.no hE8
    have hX := hX.thenNo hE8
    refine wl_p I_ok rfl (wl_nil (f_then (c_cond rfl (fun hc => ?_) (fun hc => ?_))))
    · have hn2 : ¬ CmdOk cl sq (laidB x).length := by simpa using hc
      have hU := putU_bad hok hn2
      refine c_seq (c_region (wl (st_bd I_ok rfl trivial (l' := cmdV 0 0 0 none 0 0) cmdZ_c ?_)))
      refine wl (st_stW (l' := cmdV 0 0 0 none 0 0) I_ok hb6 rfl rfl rfl rfl OneC.h fun w9 hb6 hE9 hs9 => ?_)
      have hX := hX.thenNew hE9 fr6
      refine wl_p I_ok rfl (wl_nil (f_then (c_ret (f_thenR (f_ret [_, _] ⟨⟨b6, 0, rfl, ld_all I_ok rfl rfl hb6.seg rfl⟩, rfl, trivial⟩ ?_)))))
      exact ⟨none, 0, by rw [hU.1, hU.2]; rfl, by rw [hU.2]; exact CmdAt.nil _, noOwn, hX⟩
    · have ho2 : CmdOk cl sq (laidB x).length := by simpa using hc
      have hU := putU_ok hok ho2
      refine c_skip (f_then (c_seq (c_region (wl (st_ldB I_ok hb8 rfl rfl ?_)))))
      have hb6o := hb6
      refine wl (st_stW (l' := cmdV 4 cl sq q (laidB x).length k) I_ok hb6 rfl rfl rfl rfl OneC.h fun w10 hb6 hE10 hs10 => ?_)
      have hA := hA.one hE10 hb6o (by decide)
      have hX := hX.thenNew hE10 fr6
      refine wl_p I_ok rfl (wl_nil (f_then (c_ret (f_ret [_, _] ⟨⟨b6, 0, rfl, ld_all I_ok rfl rfl hb6.seg rfl⟩, rfl, trivial⟩ ?_))))
      exact ⟨q, k, by rw [hU.1, hU.2]; rfl, by rw [hU.2]; exact hA, fun y hy => Nat.le_trans hXs (hqn0 y hy), hX⟩

end Go.Proofs.YtpcdihkcenfgkaaGreat
namespace Go.Proofs.YtpcdihkcenfgkaaGreat
open Go.Vc
section
variable {h n : Hp} {x : IdB}
end
end Go.Proofs.YtpcdihkcenfgkaaGreat
namespace Go.Proofs.YtpcdihkcenfgkaaGreat
open Go.Vc
section
variable {c s : Hp} {x : IdB}
end
end Go.Proofs.YtpcdihkcenfgkaaGreat
namespace Go.Proofs.YtpcdihkcenfgkaaGreat
open Go.Vc
/-- each object stands under its Id, each Id once, and only commits have numbers -/
structure Kept (h : Hp) : Prop where
  id : ∀ e ∈ h, idOf e.2 = e.1
  num : ∀ e ∈ h, e.2.kind ≠ 3 → e.2.number = 0
  one : (List.map Prod.fst h).Nodup
theorem Kept.nil : Kept [] := ⟨fun _ h => (by cases h), fun _ h => (by cases h), List.nodup_nil⟩
theorem Kept.put1 {h : Hp} (k : Kept h) {o : ObjD} (ho : o.kind ≠ 3 → o.number = 0) : Kept (putO h o) := by
  unfold putO
  split
  · exact k
  · rename_i c
    refine ⟨fun e he => ?_, fun e he => ?_, ?_⟩
    · rcases List.mem_append.1 he with he | he
      · exact k.id e he
      · rw [List.mem_singleton.1 he]
    · rcases List.mem_append.1 he with he | he
      · exact k.num e he
      · rw [List.mem_singleton.1 he]; exact ho
    · rw [List.map_append, List.nodup_append]
      refine ⟨k.one, by simp, fun a ha b hb e => ?_⟩
      have hb : b = idOf o := by simpa using hb
      subst hb; subst e
      exact c ha
theorem Kept.put : ∀ (A : List ObjD) {h : Hp}, Kept h → (∀ o ∈ A, o.kind ≠ 3 → o.number = 0) → Kept (putD h A)
  | [], _, k, _ => k
  | o :: A, _, k, hA => Kept.put A (k.put1 (hA o List.mem_cons_self)) fun y hy => hA y (List.mem_cons_of_mem _ hy)
theorem partO_num (rows : List RowD) : ∀ o ∈ partO rows, o.kind ≠ 3 → o.number = 0 := fun o ho _ => by
  unfold partO at ho
  rcases List.mem_append.1 ho with ho | ho
  · obtain ⟨t, _, rfl⟩ := List.mem_map.1 ho; rfl
  · rw [List.mem_singleton.1 ho]; rfl
theorem Kept.step {x : Hp × List IdB} (k : Kept x.1) (s : StepD) : Kept (stepD x s).1 := by
  unfold stepD
  split
  · refine k.put _ fun o ho hk => ?_
    rcases List.mem_append.1 ho with ho | ho
    · exact partO_num _ o ho hk
    · rw [List.mem_singleton.1 ho] at hk ⊢
      exact absurd rfl hk
  · exact k
theorem Kept.made : ∀ (L : List StepD) {x : Hp × List IdB}, Kept x.1 → Kept (L.foldl stepD x).1
  | [], _, k => k
  | s :: L, _, k => Kept.made L (k.step s)
theorem Kept.get {h : Hp} (k : Kept h) {y : IdB} {o : ObjD} (e : h.get y = some o) : idOf o = y ∧ (o.kind ≠ 3 → o.number = 0) ∧ (y, o) ∈ h := by
  unfold Hp.get at e
  rw [Option.map_eq_some_iff] at e
  obtain ⟨⟨a, b⟩, h1, rfl⟩ := e
  have h2 := List.mem_of_find?_eq_some h1
  have h3 := List.find?_some h1
  have h3 : a = y := by simpa using h3
  subst h3
  exact ⟨k.id _ h2, k.num _ h2, h2⟩
/-- what is read of it has a number only as a commit -/
theorem Kept.obj {h : Hp} (k : Kept h) (y : IdB) : (h.obj y).kind ≠ 3 → (h.obj y).number = 0 := fun hk => by
  unfold Hp.obj at hk ⊢
  cases e : h.get y with
  | none => rfl
  | some o =>
    rw [e] at hk
    dsimp only at hk ⊢
    split
    · rename_i c
      rw [if_pos c] at hk
      exact (k.get e).2.1 hk
    · rfl
end Go.Proofs.YtpcdihkcenfgkaaGreat
namespace Go.Proofs.YtpcdihkcenfgkaaGreat
open Go.Vc
def Hp.waveN (h : Hp) : Nat → List IdB → List IdB
  | 0, L => L
  | n + 1, L => Hp.waveN h n (h.waveGo L L)
theorem Hp.waveN_part (h : Hp) {x : IdB} : ∀ (n : Nat) {L : List IdB}, h.Part x L → h.Part x (Hp.waveN h n L)
  | 0, _, hp => hp
  | n + 1, _, hp => Hp.waveN_part h n hp.wave
theorem Hp.led_of {h : Hp} {x : IdB} {L : List IdB} (n : Nat) (hL : Hp.waveN h n [x] = L) (hw : (h.waveGo L L).length = L.length) : h.led x = L := by
  have hp : h.Part x L := by
    rw [← hL]
    exact Hp.waveN_part h n ⟨List.pairwise_singleton _ _, List.mem_singleton.2 rfl, fun y hy => by rw [List.mem_singleton.1 hy]; exact .here⟩
  exact (hp.done hw).symm
def wkR : List RowD := [⟨[97], [49]⟩]
def wkS : List StepD := [⟨wkR, [], []⟩]
@[irreducible] def wkH : Hp := (madeD wkS).1
@[irreducible] def wkI : List IdB := (madeD wkS).2
@[irreducible] def wkX : IdB := wkI.getD 0 []
@[irreducible] def wkL : List IdB := Hp.waveN wkH 2 [wkX]
@[irreducible] def wkO : List IdB := tx wkH wkL ++ tr wkH wkL ++ cm wkH wkL
def hiO : ObjD := { objZ with kind := 1, text := [104, 105] }
def wkOk : Bool := decide (wkI.length = 1 ∧ wkH.length = 3) && decide ((wkH.waveGo wkL wkL).length = wkL.length) && decide (wkH.kErr wkX 3 = 0) && wkL.all (fun y => decide (wkH.Good y)) &&
  decide (wkO.length = 3 ∧ wkO.getD 2 [] = wkX) && decide (sendE wkH (lackU wkO (wkO.take 1)) 1 = 0) && decide ((sendO wkH (lackU wkO (wkO.take 1)) 1).map ObjD.kind = [2]) && decide ((lackU wkO (wkO.drop 1)).length = 1) &&
  decide (putUE hiO 1 5 = 0 ∧ (laidB hiO).length = 5 ∧ ObjOk hiO ∧ CmdOk 1 5 (laidB hiO).length)
theorem wkH_eq : (madeD wkS).1 = wkH := by unfold wkH; rfl
theorem wkI_eq : (madeD wkS).2 = wkI := by unfold wkI; rfl
theorem wk_ok : wkOk = true := by decide +kernel
theorem wk_all : (wkI.length = 1 ∧ wkH.length = 3) ∧ ((wkH.waveGo wkL wkL).length = wkL.length) ∧ (wkH.kErr wkX 3 = 0) ∧ (∀ y ∈ wkL, wkH.Good y) ∧ (wkO.length = 3 ∧ wkO.getD 2 [] = wkX) ∧ (sendE wkH (lackU wkO (wkO.take 1)) 1 = 0) ∧ ((sendO wkH (lackU wkO (wkO.take 1)) 1).map ObjD.kind = [2]) ∧ ((lackU wkO (wkO.drop 1)).length = 1) ∧
  (putUE hiO 1 5 = 0 ∧ (laidB hiO).length = 5 ∧ ObjOk hiO ∧ CmdOk 1 5 (laidB hiO).length) := by
  have h := wk_ok
  unfold wkOk at h
  simp only [Bool.and_eq_true, decide_eq_true_eq, List.all_eq_true] at h
  obtain ⟨⟨⟨⟨⟨⟨⟨⟨h1, h2⟩, h3⟩, h4⟩, h5⟩, h6⟩, h7⟩, h8⟩, h9⟩ := h
  exact ⟨h1, h2, h3, h4, h5, h6, h7, h8, h9⟩
theorem wk_led : wkH.led wkX = wkL := Hp.led_of 2 (by unfold wkL; rfl) wk_all.2.1
theorem wk_cl : wkH.closed wkX = 0 := by
  rw [Hp.closed, if_neg fun k => k wk_all.2.2.1, wk_led, if_pos wk_all.2.2.2.1]
theorem wk_ord : ordR wkH wkX = wkO := by
  rw [ordR, if_pos wk_cl, ordD_parts, wk_led]
  unfold wkO
  rfl
theorem wk_put : putUE hiO 1 5 = 0 ∧ putUC hiO 1 5 = ⟨4, 1, 5, laidB hiO⟩ := putU_ok wk_all.2.2.2.2.2.2.2.2.2.2.1 wk_all.2.2.2.2.2.2.2.2.2.2.2
theorem sl_at {w : World} {b o : Nat} {L : List IdB} (h : Sl w (some ⟨b, o, none⟩) L.length 32 (L.flatMap bytesU)) (hL : ∀ y ∈ L, IdIn y) {i : Nat} (hi : i < L.length) : Seg w b (o + i * 32) (bytesU L[i]) := by
  obtain ⟨b2, o2, e, h2⟩ := h.rowAll (fun r hr => IdIn.len (hL r hr)) (by omega)
  cases e
  exact h2 i hi
end Go.Proofs.YtpcdihkcenfgkaaGreat
namespace Go.Proofs.YtpcdihkcenfgkaaGreat
open Go.Vc
theorem wkR_in : ∀ w : World, ∀ b : Nat, Blk w b 73 (wkR.flatMap RowD.cells) → Sl w (some ⟨b, 0, none⟩) wkR.length 2 (wkR.flatMap RowD.cells) := fun _ b h => ⟨rfl, .inr ⟨b, 0, rfl, h.seg⟩⟩
def wkT (b : Nat) : List StepT := [⟨some ⟨b, 0, none⟩, 1, wkR, none, 0, [], []⟩]
theorem gone_no (h : Hp) : goneD 0 h = h := if_neg fun k => absurd k.1 (Int.lt_irrefl 0)
theorem hi_in : ObjIn hiO ∧ Short hiO := ⟨blobO_in [104, 105], blob_sh [104, 105]⟩
theorem wkX_at {ids : List IdB} (h : ids = wkI) (h0 : 0 < ids.length) : ids[0] = wkX := by
  subst h
  unfold wkX
  rw [List.getD_eq_getElem?_getD, List.getElem?_eq_getElem h0]; rfl
theorem wakes_calls (w : World) : CallsV Tryz.prog 7 [] w fun v w' => v = .bool true ∧ Ext No w w' := by
  refine calls_enter Tryz.func7 rfl rfl rfl rfl ?_
  have hX := Ext.refl No w
  refine c_seq (c_region (wl_p I_ok rfl (wl_nil (f_then (c_seq (c_region (wl (st_bd I_ok rfl ⟨⟨rfl, by decide⟩, ⟨rfl, by decide⟩, trivial⟩ (l' := RowD.cells ⟨[97], [49]⟩) (by rw [rowZ_c]; rfl) ?_))))))))
  refine wl (st_bs I_ok rfl 2 rfl rowZ_c rfl (by decide) (by decide) ⟨⟨rfl, by decide⟩, trivial⟩ (l' := wkR.flatMap RowD.cells) rfl fun b10 w1 hn10 hb10 hE1 hs1 => ?_)
  have hX := hX.thenNo hE1
  refine wl (st_bd I_ok rfl ⟨⟨rfl, by decide⟩, trivial⟩ (l' := [.slice (some ⟨b10, 0, none⟩) wkR.length 1]) rfl (wl (st_bd I_ok rfl ⟨⟨rfl, by decide⟩, trivial⟩ (l' := stepC ⟨some ⟨b10, 0, none⟩, 1, wkR, none, 0, [], []⟩) rfl ?_)))
  refine wl (st_bs I_ok rfl 3 rfl rfl rfl (by decide) (by decide) ⟨⟨rfl, by decide⟩, trivial⟩ (l' := (wkT b10).flatMap stepC) rfl fun b13 w2 hn13 hb13 hE2 hs2 => ?_)
  have hb10 := hb10.extNo hE2
  have hX := hX.thenNo hE2
  refine wl (st_call Tryz.call8 rfl rfl rfl rfl rfl rfl (made_calls w2 (steps := wkT b10) ⟨rfl, .inr ⟨b13, 0, rfl, hb13.seg⟩⟩ (fun s hs => by rw [List.mem_singleton.1 hs]; exact ⟨wkR_in _ _ hb10, (by show 1 < 9223372036854775808; decide), Sl.nil _ _ _, (by show 0 < 9223372036854775808; decide)⟩) (show 1 < 9223372036854775808 by decide) 0) fun v3 w3 hr3 => ?_)
  obtain ⟨q, k, m, qi, ki, ids, rfl, hMQ, hMD, hE3⟩ := hr3
  have hb10 := hb10.extNo hE3
  have hb13 := hb13.extNo hE3
  have hX := hX.thenNo hE3
  rw [show List.map StepT.d (wkT b10) = wkS from rfl, gone_no] at hMD
  have hM : toHp m = wkH := (Prod.mk.inj hMD).1.trans wkH_eq
  have hI : ids = wkI := (Prod.mk.inj hMD).2.trans wkI_eq
  have hil : ids.length = 1 := by rw [hI]; exact wk_all.1.1
  have hiin := hMQ.iin
  have hkp : Kept (toHp m) := by rw [hM, ← wkH_eq]; exact Kept.made _ Kept.nil
  have hX0 : ids[0]'(by omega) = wkX := wkX_at hI _
  have hXi : IdIn wkX := by rw [← hX0]; exact hiin _ (List.getElem_mem _)
  have hOi : ∀ y ∈ wkO, IdIn y := fun y hy => hMQ.ks.now.1.ledIn hXi y (by
    rw [hM]
    rw [← wk_ord, ordR, if_pos wk_cl, ordD_mem] at hy
    exact (wkH.led_mem _ _).2 hy)
  have hol : wkO.length = 3 := wk_all.2.2.2.2.1.1
  have ho2 : wkO[2]'(by omega) = wkX := by have := wk_all.2.2.2.2.1.2; rw [List.getD_eq_getElem?_getD, List.getElem?_eq_getElem (by omega)] at this; exact this
  obtain ⟨ib, io, rfl, _⟩ := hMQ.own.sl.rowAll (fun r hr => IdIn.len (hiin r hr)) (by omega)
  have hK := hMQ.ks
  obtain ⟨N, hN⟩ : ∃ N, N = w3.heap.size := ⟨_, rfl⟩
  rw [← hN] at hK
  refine wl_p I_ok rfl ?_
  have hR0 := hK.n
  refine wl (st_al I_ok rfl fun b1 w4 hn1 hb1 hE4 => ?_)
  have ne10_1 : b10 ≠ b1 := Nat.ne_of_lt (Nat.lt_of_lt_of_le hb10.lt hn1)
  have ne13_1 : b13 ≠ b1 := Nat.ne_of_lt (Nat.lt_of_lt_of_le hb13.lt hn1)
  have fr1 := Nat.le_trans hX.size hn1
  have hb10 := hb10.extNo hE4
  have hb13 := hb13.extNo hE4
  have hK := hK.no hE4
  have hX := hX.thenNo hE4
  have fN1 := Nat.le_trans hR0 hn1
  refine wl (st_stW (l' := [.slice q m.length k]) I_ok hb1 rfl rfl rfl rfl OneC.h fun w5 hb1 hE5 hs5 => ?_)
  have hb10 := hb10.ext1 hE5 ne10_1
  have hb13 := hb13.ext1 hE5 ne13_1
  have hK := hK.one hE5 fN1
  have hX := hX.thenNew hE5 fr1
  refine wl_p I_ok rfl (wl_nil (f_then (c_seq (c_draw rfl 10 [(0, true), (1, true), (2, true), (3, true), (4, false), (5, true), (6, true), (7, true), (8, true), (9, true)] [] (No) (by kernel_rfl) fun w6 hE6 hs6 => ?_))))
  have hd1 := hb1
  have hKd := hK
  have hb10 := hb10.extNo hE6
  have hb13 := hb13.extNo hE6
  have hb1 := hb1.extNo hE6
  have hK := hK.no hE6
  have hX := hX.thenNo hE6
  have hC : Ext (No) _ w6 := hE6.no
  have hi0 := sl_at hKd.now.2 hiin (i := 0) (by omega)
  rw [hX0] at hi0
  refine wd_ldN I_ok rfl rfl (fun w' hw' => (hd1.extNo hw').seg) rfl ?_
  refine wd_k I_ok 1 rfl (wd_ix I_ok rfl rfl 32 rfl 0 rfl (by omega) (io + 0 * 32) rfl (wd_ldN I_ok rfl rfl (fun w' hw' => (hi0.extNo hw')) hXi.len ?_))
  refine wd_l rfl (st_call Tryz.call9 rfl rfl rfl rfl rfl rfl (order_calls w6 hK.now.1 (fun y => hkp.obj y) hXi) fun v7 w7 hr7 => ⟨(by obtain ⟨qo, ko, rfl, hO, hOn, hE7⟩ := hr7; exact hC.thenNo hE7), ?_⟩)
  obtain ⟨qo, ko, rfl, hO, hOn, hE7⟩ := hr7
  have hb10 := hb10.extNo hE7
  have hb13 := hb13.extNo hE7
  have hb1 := hb1.extNo hE7
  have hK := hK.no hE7
  have hX := hX.thenNo hE7
  rw [hM, wk_ord] at hO ⊢
  rw [wk_cl]
  obtain ⟨ob, oo, rfl, _⟩ := hO.sl.rowAll (fun r hr => IdIn.len (hOi r hr)) (by omega)
  refine wd_k I_ok 5 rfl (wd_sw (wb_nil (f_then (c_seq ?_))))
  refine c_cutK (α := Unit) [1, 3] rfl (fun z => [(40, .bool false)]) (fun z u => (KS N u (fun u => HpIn u q m ∧ Sl u (some ⟨ib, io, none⟩) ids.length 32 (ids.flatMap bytesU)) ∧ Own u (some ⟨ob, oo, none⟩) wkO.length ko 31 32 (wkO.flatMap bytesU)) ∧ Blk u b10 73 (wkR.flatMap RowD.cells) ∧ Blk u b13 79 ((wkT b10).flatMap stepC) ∧ Blk u b1 26 ([.slice q m.length k]) ∧ Ext No w u) ?_ ?_
  · refine c_draw rfl 16 [(0, true), (1, true), (2, true), (3, true), (4, true), (5, true), (6, true), (7, true), (8, true), (9, true), (10, true), (11, true), (12, true), (13, true), (14, true), (15, true)] [] (No) (by kernel_rfl) fun w8 hE8 hs8 => ?_
    have hKd := hK
    have hOd := hO
    have hb10 := hb10.extNo hE8
    have hb13 := hb13.extNo hE8
    have hb1 := hb1.extNo hE8
    have hK := hK.no hE8
    have hO := hO.ext hE8 fun _ _ => id
    have hX := hX.thenNo hE8
    have hi0 := sl_at hKd.now.2 hiin (i := 0) (by omega)
    rw [hX0] at hi0
    have ht2 := sl_at hOd.sl hOi (i := 2) (by omega)
    rw [ho2] at ht2
    refine wd_k I_ok 3 rfl (wd_caseD 27 rfl (fun hg => ?_) (fun hg => ?_))
    · exact absurd hg (by decide)
    · refine wd_k I_ok 5 rfl ?_
      refine wd_case 32 rfl (fun hg => ?_) (fun hg => ?_)
      · exact absurd hg (by rw [hol]; decide)
      · refine wd_k I_ok 1 rfl ?_
        refine wd_ix I_ok rfl rfl 32 rfl 2 rfl (by omega) (oo + 2 * 32) rfl (wd_ldN I_ok rfl rfl (fun w' hw' => (ht2.extNo hw')) hXi.len ?_)
        refine wd_k I_ok 1 rfl (wd_ix I_ok rfl rfl 32 rfl 0 rfl (by omega) (io + 0 * 32) rfl (wd_ldN I_ok rfl rfl (fun w' hw' => (hi0.extNo hw')) hXi.len ?_))
        refine wd_eqK rfl rfl gId 10 (by decide) kId (idForm hXi) (idForm hXi) (idKey hXi) (idKey hXi) idLits_inj ?_
        rw [if_neg Bool.false_ne_true]
        rw [show decide (¬ wkX = wkX) = false from decide_eq_false fun k => k rfl]
        refine wd_k I_ok 1 rfl (wd_sw (wb_nil ?_))
        exact f_cut (()) rfl ⟨⟨hK, hO⟩, hb10, hb13, hb1, hX⟩
  rintro z w9 ⟨⟨hK, hO⟩, hb10, hb13, hb1, hX⟩
  refine c_condF rfl (c_skip (f_then (c_seq (c_draw rfl 10 [(0, true), (1, true), (2, true), (3, true), (4, false), (5, true), (6, true), (7, true), (8, true), (9, true)] [] (No) (by kernel_rfl) fun w10 hE10 hs10 => ?_))))
  have hd1 := hb1
  have hOd := hO
  have hK := hK.no hE10
  have hO := hO.ext hE10 fun _ _ => id
  have hX := hX.thenNo hE10
  have hC : Ext (No) _ w10 := hE10.no
  have hcap := hOd.cap
  have htk1 : (wkO.take 1).length = 1 := by rw [List.length_take, hol]; rfl
  refine wd_ldN I_ok rfl rfl (fun w' hw' => (hd1.extNo hw').seg) rfl ?_
  refine wd_k I_ok 2 rfl (wd_sl I_ok rfl rfl 0 1 ko 32 rfl (.inr ⟨rfl, rfl⟩) (.inl rfl) (.inr ⟨rfl, rfl⟩) (Nat.zero_le _) (by omega) (Nat.le_refl _) ?_)
  refine wd_put 45 rfl (v' := .slice (some ⟨ob, oo, none⟩) (wkO.take 1).length (ko - 0)) (by rw [slBase_zero, htk1]) ?_
  refine wd_l rfl (st_call Tryz.call13 rfl rfl rfl rfl rfl rfl (send_calls w10 (M := m) (L := wkO) (H := wkO.take 1) hK.now.1 hO.sl (by rw [htk1]; exact Sl.take32 hO.sl hOi (e := 1) (by omega)) hOi (fun y hy => hOi y (List.mem_of_mem_take hy)) (by omega) (by omega) 1) fun v11 w11 hr11 => ⟨(by obtain ⟨q3, k3, out, rfl, hoe, hout, hE11⟩ := hr11; exact hC.thenNo hE11), ?_⟩)
  obtain ⟨q3, k3, out, rfl, hoe, hout, hE11⟩ := hr11
  have hO := hO.ext hE11 fun _ _ => id
  have hX := hX.thenNo hE11
  rw [hM] at hoe ⊢
  rw [wk_all.2.2.2.2.2.1]
  have hkk := wk_all.2.2.2.2.2.2.1
  rw [← hoe, List.map_map] at hkk
  have hol1 : out.length = 1 := by have := congrArg List.length hkk; rw [List.length_map] at this; exact this
  have hkd : (out[0]'(by omega)).1.kind = 2 := by
    have h1 : (out.map (ObjD.kind ∘ Prod.fst))[0]? = some 2 := by rw [hkk]; rfl
    rw [List.getElem?_map, List.getElem?_eq_getElem (by omega)] at h1
    exact Option.some.inj h1
  obtain ⟨sb, so, rfl, _⟩ := hout.own.sl.rowAll (objX_len fun x hx => (hout.ins x hx).1) (by omega)
  refine wd_k I_ok 5 rfl (wd_sw (wb_nil (f_then (c_seq (c_region (wl (st_bd I_ok rfl ⟨⟨rfl, by decide⟩, ⟨rfl, by decide⟩, trivial⟩ (l' := objC hiO noP) (by rw [← objZ_c]; rfl) ?_)))))))
  refine wl (st_call Tryz.call26 rfl rfl rfl rfl rfl rfl (put_calls w11 (x := hiO) (a := noP) hi_in.1 ⟨Sl.nil _ _ _, Sl.nil _ _ _, Sl.nil _ _ _⟩ hi_in.2 1 5) fun v12 w12 hr12 => ?_)
  obtain ⟨q4, k4, rfl, hA, _, hE12⟩ := hr12
  have hO := hO.ext hE12 fun _ _ => id
  have hout := hout.extNo hE12
  have hX := hX.thenNo hE12
  rw [wk_put.1, wk_put.2] at *
  refine wl_p I_ok rfl (wl (st_al I_ok rfl fun b6 w13 hn6 hb6 hE13 => ?_))
  have fr6 := Nat.le_trans hX.size hn6
  have hO := hO.ext hE13 fun _ _ => id
  have hout := hout.extNo hE13
  have hX := hX.thenNo hE13
  have hb6o := hb6
  refine wl (st_stW (l' := cmdC ⟨4, 1, 5, laidB hiO⟩ q4 k4) I_ok hb6 rfl rfl rfl rfl OneC.h fun w14 hb6 hE14 hs14 => ?_)
  have hO := hO.extTy hE14 hb6o (by decide)
  have hout := hout.one hE14 hb6o (by decide) (by decide) (by decide) (by decide)
  have hX := hX.thenNew hE14 fr6
  refine wl_p I_ok rfl (wl_nil (f_then (c_cutK (α := Unit) [] rfl (fun z => [(0, .bool true)]) (fun z u => Ext No w u) ?_ ?_)))
  · refine c_region ?_
    refine wl_p I_ok rfl (wl_caseD 56 rfl (fun hg => ?_) (fun hg => ?_))
    · refine wl_pk I_ok 4 rfl ?_
      refine wl_case 60 rfl (fun hg => ?_) (fun hg => ?_)
      · refine wl_pk I_ok 5 rfl ?_
        refine wl_case 65 rfl (fun hg => ?_) (fun hg => ?_)
        · refine wl_pk I_ok 1 rfl ?_
          refine wl (st_ix I_ok rfl 73 rfl 0 rfl (by omega) (so + 0 * 73) rfl (wl_pk I_ok 1 rfl ?_))
          obtain ⟨sb2, so2, eqs, hsr⟩ := hout.own.sl.rowAll (objX_len fun x hx => (hout.ins x hx).1) (by omega)
          cases eqs
          have hs0 := hsr 0 (by omega)
          refine wl (st_ld I_ok rfl (hs0 0 _ objC_kind) ?_)
          rw [hkd]
          refine wl_pk I_ok 3 rfl (wl_case 72 rfl (fun hg => ?_) (fun hg => ?_))
          · refine wl_pk I_ok 1 rfl ?_
            refine wl (st_ldb I_ok hb6 rfl rfl (wl_pk I_ok 3 rfl (wl_case 77 rfl (fun hg => ?_) (fun hg => ?_))))
            · refine wl_pk I_ok 1 rfl ?_
              refine wl (st_ld I_ok rfl (hb6.cell (cmd_data _ _ _ _ _ _)) (wl_pk I_ok 4 rfl (wl_case 83 rfl (fun hg => ?_) (fun hg => ?_))))
              · refine wl_pk I_ok 2 rfl ?_
                refine wl (st_sl I_ok rfl 1 wkO.length ko 32 rfl (.inr ⟨rfl, rfl⟩) (.inr ⟨rfl, rfl⟩) (.inl rfl) (by omega) hO.cap (Nat.le_refl _) ?_)
                refine wl_put 86 rfl (v' := .slice (slBase (some ⟨ob, oo, none⟩) 1 ko 32) (wkO.drop 1).length (ko - 1)) (by rw [List.length_drop]) ?_
                refine wl (st_call Tryz.call17 rfl rfl rfl rfl rfl rfl (upLacks_calls w14 hO.sl (Sl.drop32 hO.sl hOi (e := 1) (by omega) hO.cap) hOi (fun y hy => hOi y (List.mem_of_mem_drop hy)) (by omega) (by rw [List.length_drop]; omega)) fun v15 w15 hr15 => ?_)
                obtain ⟨q5, k5, rfl, _, _, hE15⟩ := hr15
                have hX := hX.thenNo hE15
                rw [wk_all.2.2.2.2.2.2.2.1]
                refine wl_pk I_ok 4 rfl (wl_nil ?_)
                exact f_cut (()) rfl hX
              · exact absurd hg (by rw [wk_all.2.2.2.2.2.2.2.2.2.1]; decide)
            · exact absurd hg (by decide)
          · exact absurd hg (by decide)
        · exact absurd hg (by rw [hol1]; decide)
      · exact absurd hg (by decide)
    · exact absurd (by decide) hg
  rintro z w16 hX
  refine c_ret (f_ret1 rfl rfl ?_)
  exact ⟨rfl, hX⟩
end Go.Proofs.YtpcdihkcenfgkaaGreat
namespace Go.Vc
open Go.WideShapes Go.ChangeShapes Go.RowKit

section
variable {H : Type} {enc : TypeId × Value → H} {P : Program} {w w' : World}

theorem Ext.sameAt (hE : Ext No w w') {p : MemPlace} (hp : p.block < w.heap.size) : w.sameAt w' p := by
  cases p with
  | cell b off =>
    have := hE.same b hp id
    show w'.cell? ⟨b, off, none⟩ = w.cell? ⟨b, off, none⟩
    unfold World.cell?
    rw [this]
  | map b => exact hE.same b hp id

theorem trodAll_carry {base : Nat} {sp : Nat → Bool} {held : Bool} : ∀ {ts : List TypeId} {vs : List Value} {ds : List (DataW H)} {ps : List MemPlace}, DataW.TrodAll enc P w base sp held ts vs ds ps → (∀ p ∈ ps, w.sameAt w' p) → DataW.TrodAll enc P w' base sp held ts vs ds ps
  | [], [], [], _, h, _ => h
  | _ :: _, _ :: _, _ :: _, _, ⟨p, q, ⟨n, h1⟩, h2, e⟩, hs => ⟨p, q, ⟨n, DataW.trod_carry n _ _ _ h1 fun x hx => hs x (by rw [e]; exact List.mem_append_left _ hx)⟩, trodAll_carry h2 fun x hx => hs x (by rw [e]; exact List.mem_append_right _ hx), e⟩

/-- what came in reads as it read; of what is frozen only that is asked which lay there before -/
theorem post_of_old {f : Func} {s : ChangeSpec} {apart fresh handsOn again : Bool} {W W' : World} {args : Array Value} {v : Value} {ds gs : List (DataW H)} {before pa pv : List MemPlace}
    (hW : DataW.Whole enc P f.params.toList s.vars apart W args.toList ds gs before)
    (hres : ∀ (b : Nat) (sp : Nat → Bool) (hd : Bool), DataW.TrodAll enc P W' b sp hd f.resultTypes.toList (v.resultList f.resultTypes.size) (s.fn H (ds ++ gs)).results [])
    (hargs : ∀ sp : Nat → Bool, (∀ p ∈ before, sp p.block = true) → DataW.TrodAll enc P W' 0 sp true f.params.toList args.toList (s.fn H (ds ++ gs)).args pa)
    (hvars : ∀ sp : Nat → Bool, (∀ p ∈ before, sp p.block = true) → DataW.TrodVars enc P W' sp s.vars (s.fn H (ds ++ gs)).vars pv)
    (hps : before = pa ++ pv) (hk : W.keptBut W' (· ∈ before)) (hfz : ∀ a : Addr, a.block < W.heap.size → W'.frozen? a = W.frozen? a)
    (hok : ∀ (j : Nat) (t : TypeId) (r : Value), f.resultTypes[j]? = some t → (v.resultList f.resultTypes.size)[j]? = some r → Value.okWide P W' .any 0 t r) :
    s.post enc P f apart fresh handsOn again W args v W' := by
  have hlt : ∀ p ∈ before, p.block < W.heap.size := fun p hp => hW.lt p hp
  have hold : ∀ p ∈ before, (fun b => decide (b < W.heap.size)) p.block = true := fun p hp => by simpa using hlt p hp
  have e1 : ∀ p, p ∈ [] ++ pa ++ pv ↔ p ∈ before := fun p => by rw [hps, List.nil_append]
  refine ⟨ds, gs, before, [], pa, pv, hW, hres _ _ _, hargs _ hold, hvars _ hold, World.keptBut_mono (fun p hp => ⟨hp, .inr (List.mem_append.1 (hps ▸ hp))⟩) hk, fun _ => ?_⟩
  obtain ⟨_, _, _, _, _, hz, hn⟩ := hW
  refine ⟨hok, _, _, ([] ++ pa) ++ pv, ⟨[] ++ pa, pv, trodAll_append (hargs _ (fun _ _ => rfl)) (hres _ _ _), hvars _ (fun _ _ => rfl), rfl, fun b off hp => ?_, fun ha => ?_⟩, fun p hp _ => (e1 p).1 hp⟩
  · have hb := (e1 _).1 hp
    rw [hfz _ (hlt _ hb)]
    exact hz b off hb
  · have := hn ha
    rw [hps] at this
    exact this
/-- a law that returns true and leaves all that was there -/
theorem post_true {f : Func} {s : ChangeSpec} {fresh handsOn again : Bool} {W W' : World} {args : Array Value} {ds gs : List (DataW H)} {before : List MemPlace} (hl : laidOutB P = true) (hm : mapsRowed P = true) (hz : ((List.range P.types.size).all fun t => match P.underlying t with | some (.slice e) => decide (0 < P.cellsOf e) | _ => true) = true)
    (hW : DataW.Whole enc P f.params.toList s.vars false W args.toList ds gs before) (hv : s.vars = []) (hts : f.params.toList.all (fun t => decide (t < P.types.size)) = true)
    {tb : TypeId} (hrt : f.resultTypes = #[tb]) (htb : P.underlying tb = some .bool) (hr : (s.fn H (ds ++ gs)).results = [.lit (.bool true)]) (ha : (s.fn H (ds ++ gs)).args = ds) (hvr : (s.fn H (ds ++ gs)).vars = []) (hE : Ext No W W') :
    s.post enc P f false fresh handsOn again W args (.bool true) W' := by
  have hW0 := hW
  obtain ⟨p, q, hA, hV, rfl, _, _⟩ := hW
  rw [hv] at hV
  obtain ⟨rfl, rfl⟩ := trodVars_none hV
  refine post_of_old (pa := p) (pv := []) hW0 (fun _ _ _ => ?_) (fun sp hsp => ?_) (fun _ _ => ?_) (by simp) (World.keptBut_mono (fun _ f => f.elim) (hE.kept fun _ _ => id)) (fun a ha => hE.froz ha id) ?_
  · rw [hrt, hr]
    exact trodAll_cons_mk (RowKit.shut_bool htb true) trodAll_mk0
  · rw [ha]
    refine trodAll_carry (hA.respare (kids_rows hl hm) (slices_full_of P hz) (fun t ht => by simpa using List.all_eq_true.1 hts t ht) fun x hx => hsp x (by simpa using hx)) fun x hx => ?_
    exact hE.sameAt (hA.lt x hx)
  · rw [hv, hvr]; rfl
  · exact ok_one hrt rfl (RowKit.okWide_bool_mk htb true)

/-- cells that were read stand in a row -/
theorem cells?_seg {a : Addr} {m : Nat} {r : List Value} (h : w.cells? 0 a m = some r) (hm : 0 < m) : a = ⟨a.block, a.off, none⟩ ∧ r.length = m ∧ Seg w a.block a.off r ∧ a.block < w.heap.size := by
  have hlt := World.cells?_block h hm
  unfold World.cells? at h
  rw [if_pos (Nat.zero_le _)] at h
  have hlen := mapM_some_length h
  have hget : ∀ i, i < m → w.cell? (a.add i) = r[i]? := fun i hi => mapM_some_get h i i (by simp [hi])
  simp only [List.length_range] at hlen
  have hspot : a.spot = none := by
    have h0 := hget 0 hm
    have hr0 : r[0]? = some r[0] := by simp
    rw [hr0] at h0
    have e : a.add 0 = a := by simp [Addr.add]
    rw [e] at h0
    unfold World.cell? at h0
    split at h0
    · split at h0
      · cases h0
      · rename_i hs; simpa using hs
    · cases h0
  have ha : a = ⟨a.block, a.off, none⟩ := by rw [← hspot]
  refine ⟨ha, hlen, fun i v hv => ?_, hlt⟩
  have hi : i < m := by
    have := (List.getElem?_eq_some_iff.1 hv).1
    omega
  have hi' := hget i hi
  rw [hv] at hi'
  have e : a.add i = ⟨a.block, a.off + i, none⟩ := by rw [ha]; exact addr_add _ _ _
  rw [e] at hi'
  exact hi'

theorem rows_seg {b m : Nat} : ∀ {L : List (List Value)} {off : Nat}, Uni m L → (∀ (i : Nat) (r : List Value), L[i]? = some r → Seg w b (off + i * m) r) → Seg w b off L.flatten
  | [], _, _, _ => fun i v hv => by simp at hv
  | r :: L, off, hu, h => by
    rw [List.flatten_cons, Seg.append]
    have hr := hu r (by simp)
    refine ⟨by simpa using h 0 r rfl, ?_⟩
    rw [hr]
    refine rows_seg (fun x hx => hu x (by simp [hx])) fun i x hx => ?_
    have := h (i + 1) x (by simpa using hx)
    rwa [show off + (i + 1) * m = off + m + i * m from by rw [Nat.succ_mul]; omega] at this

/-- a slice that the statement reads: its rows -/
theorem open_rows {sp : Nat → Bool} {held : Bool} {fuel : Nat} {t e m : Nat} {cs : List Value} {x : DataW H × List MemPlace} (ht : P.underlying t = some (.slice e)) (hm : P.cellsOf e = m) (hm0 : 0 < m) (h : DataW.trod enc P w 0 sp held fuel t cs = some x) :
    ∃ (p : Option Addr) (n c : Nat) (L : List (List Value)), cs = [.slice p n c] ∧ n ≤ c ∧ c ≤ maxLen ∧ L.length = n ∧ Uni m L ∧ Sl w p n m L.flatten ∧ (n ≠ 0 → ∀ b off, p = some ⟨b, off, none⟩ → b < w.heap.size) ∧
      ∀ r ∈ L, ∃ k y, DataW.trod enc P w 0 sp held k e r = some y := by
  subst hm
  rcases DataW.trod_slice ht h with ⟨hcs, _⟩ | ⟨a, len, cap, elems, rest, n, _, hcs, _, _, hl, hc, hlen, hel, _⟩
  · exact ⟨none, 0, 0, [], hcs, Nat.le_refl _, by unfold maxLen; omega, rfl, Uni.nil _, Sl.nil _ _ _, fun h => absurd rfl h, fun r hr => by cases hr⟩
  · have hrow : ∀ i, i < len → ∃ r y, w.cells? 0 (a.add (i * P.cellsOf e)) (P.cellsOf e) = some r ∧ DataW.trod enc P w 0 sp held n e r = some y := by
      intro i hi
      have := hel i hi
      rw [List.getElem?_eq_getElem (by omega), Option.bind_eq_some_iff] at this
      obtain ⟨r, h1, h2⟩ := this
      exact ⟨r, _, h1, h2⟩
    have hrow' : ∀ i : _root_.Fin len, ∃ r y, w.cells? 0 (a.add (i.1 * P.cellsOf e)) (P.cellsOf e) = some r ∧ DataW.trod enc P w 0 sp held n e r = some y := fun i => hrow i.1 i.2
    let L : List (List Value) := List.ofFn fun i : _root_.Fin len => Classical.choose (hrow' i)
    have hL : ∀ (i : Nat) (r : List Value), L[i]? = some r → i < len ∧ w.cells? 0 (a.add (i * P.cellsOf e)) (P.cellsOf e) = some r ∧ ∃ y, DataW.trod enc P w 0 sp held n e r = some y := by
      intro i r hr
      have hi : i < len := by
        have := (List.getElem?_eq_some_iff.1 hr).1
        simpa [L] using this
      have : r = Classical.choose (hrow' ⟨i, hi⟩) := by
        simp only [L, List.getElem?_ofFn, hi, dif_pos, Option.some.injEq] at hr
        exact hr.symm
      subst this
      obtain ⟨y, h1, h2⟩ := Classical.choose_spec (hrow' ⟨i, hi⟩)
      exact ⟨hi, h1, y, h2⟩
    have hLlen : L.length = len := by simp [L]
    have hu : Uni (P.cellsOf e) L := fun r hr => by
      obtain ⟨i, hi, rfl⟩ := List.mem_iff_getElem.1 hr
      have := hL i L[i] (by simp)
      exact (cells?_seg this.2.1 hm0).2.1
    refine ⟨some a, len, cap, L, hcs, hl, hc, hLlen, hu, ⟨by rw [rows_length hu, hLlen], ?_⟩, ?_, fun r hr => ?_⟩
    · rcases Nat.eq_zero_or_pos len with h0 | h0
      · exact .inl h0
      · right
        have h00 := hL 0 L[0] (by simp)
        have e0 : a.add (0 * P.cellsOf e) = a := by simp [Addr.add]
        rw [e0] at h00
        have ha := (cells?_seg h00.2.1 hm0).1
        refine ⟨a.block, a.off, congrArg some ha, rows_seg hu fun i r hr => ?_⟩
        have hi := hL i r hr
        have := (cells?_seg hi.2.1 hm0).2.2.1
        have e1 : a.add (i * P.cellsOf e) = ⟨a.block, a.off + i * P.cellsOf e, none⟩ := by
          conv => lhs; rw [ha]
          exact addr_add _ _ _
        rw [e1] at this
        exact this
    · intro hn b off hb
      have h00 := hL 0 (L[0]'(by omega)) (by simp)
      have e0 : a.add (0 * P.cellsOf e) = a := by simp [Addr.add]
      rw [e0] at h00
      have := (cells?_seg h00.2.1 hm0).2.2.2
      simp only [Option.some.injEq] at hb
      rw [hb] at this
      exact this
    · obtain ⟨i, hi, rfl⟩ := List.mem_iff_getElem.1 hr
      obtain ⟨_, _, y, hy⟩ := hL i L[i] (by simp)
      exact ⟨n, y, hy⟩
end
end Go.Vc
namespace Go.Proofs.YtpcdihkcenfgkaaGreat
open Go.Vc Go.WideShapes Go.ChangeShapes
section
variable {H : Type} {enc : TypeId × Value → H} {W : World} {sp : Nat → Bool} {held : Bool}
theorem list_of {α β : Type} {R : α → β → Prop} : ∀ (L : List β), (∀ r ∈ L, ∃ a, R a r) → ∃ l : List α, l.length = L.length ∧ ∀ (i : Nat) (a : α) (r : β), l[i]? = some a → L[i]? = some r → R a r
  | [], _ => ⟨[], rfl, fun i a r h => by simp at h⟩
  | r :: L, h => by
    obtain ⟨a, ha⟩ := h r (by simp)
    obtain ⟨l, h1, h2⟩ := list_of L fun x hx => h x (by simp [hx])
    refine ⟨a :: l, by simp [h1], fun i b x hb hx => ?_⟩
    cases i with
    | zero => simp at hb hx; subst hb; subst hx; exact ha
    | succ i => exact h2 i b x (by simpa using hb) (by simpa using hx)
/-- a slice of rows, each opened -/
theorem open_list {α : Type} {cells : α → List Value} {ok : α → Prop} {fuel t e m : Nat} {cs : List Value} {x : DataW H × List MemPlace} (ht : Tryz.prog.underlying t = some (.slice e)) (hm : Tryz.prog.cellsOf e = m) (hm0 : 0 < m)
    (hrow : ∀ {k : Nat} {r : List Value} {y : DataW H × List MemPlace}, DataW.trod enc Tryz.prog W 0 sp held k e r = some y → ∃ a, r = cells a ∧ ok a)
    (h : DataW.trod enc Tryz.prog W 0 sp held fuel t cs = some x) :
    ∃ (p : Option Addr) (l : List α) (c : Nat), cs = [.slice p l.length c] ∧ l.length ≤ c ∧ c ≤ maxLen ∧ Sl W p l.length m (l.flatMap cells) ∧ (∀ a ∈ l, ok a) ∧ (l ≠ [] → ∀ b off, p = some ⟨b, off, none⟩ → b < W.heap.size) := by
  obtain ⟨p, n, c, L, rfl, hn, hc, hL, hu, hs, hlt, hr⟩ := open_rows ht hm hm0 h
  obtain ⟨l, h1, h2⟩ := list_of (R := fun a r => r = cells a ∧ ok a) L fun r hr' => by
    obtain ⟨k, y, hy⟩ := hr r hr'
    exact hrow hy
  have e : L = l.map cells := by
    apply List.ext_getElem?
    intro i
    rw [List.getElem?_map]
    by_cases hi : i < l.length
    · have hi' : i < L.length := by omega
      have := (h2 i l[i] L[i] (by simp) (by simp)).1
      simp [hi, hi', this]
    · rw [List.getElem?_eq_none (by omega), List.getElem?_eq_none (by omega)]; rfl
  have hln : l.length = n := by omega
  subst hln
  refine ⟨p, l, c, rfl, hn, hc, by rw [List.flatMap_def, ← e]; exact hs, fun a ha => ?_, fun hne => hlt fun h0 => hne (List.eq_nil_of_length_eq_zero h0)⟩
  obtain ⟨i, hi, rfl⟩ := List.mem_iff_getElem.1 ha
  have hi' : i < L.length := by omega
  exact (h2 i l[i] L[i] (by simp) (by simp)).2
theorem open_byte {fuel : Nat} {cs : List Value} {x : DataW H × List MemPlace} (h : DataW.trod enc Tryz.prog W 0 sp held fuel 5 cs = some x) : ∃ b : UInt8, cs = [byteV b] := by
  obtain ⟨n, rfl, _, hw⟩ := DataW.trod_int Tryz.underlying5 h
  have hw : 0 ≤ n ∧ n ≤ 255 := by simpa [Lit.wf, IntKind.min, IntKind.max, IntKind.signed, IntKind.bits] using hw
  refine ⟨UInt8.ofNat n.toNat, ?_⟩
  show _ = [Value.int .u8 ((UInt8.ofNat n.toNat).toNat : Int)]
  have e : (UInt8.ofNat n.toNat).toNat = n.toNat := UInt8.toNat_ofNat_of_lt' (by show n.toNat < 256; omega)
  rw [e, Int.toNat_of_nonneg hw.1]
theorem open_str {fuel : Nat} {cs : List Value} {x : DataW H × List MemPlace} (h : DataW.trod enc Tryz.prog W 0 sp held fuel 9 cs = some x) : ∃ s : Str, cs = [strV s] ∧ s.length ≤ maxLen := by
  obtain ⟨s, rfl, _, hw⟩ := DataW.trod_string Tryz.underlying9 h
  exact ⟨s.data.toList, by show _ = [Value.string (strU s.data.toList)]; rw [strU_of], hw⟩
theorem open_id {fuel : Nat} {cs : List Value} {x : DataW H × List MemPlace} (h : DataW.trod enc Tryz.prog W 0 sp held fuel 31 cs = some x) : ∃ l : List UInt8, cs = bytesU l ∧ l.length = 32 := by
  obtain ⟨xs, m, rfl, _, hlen, hn, hel⟩ := DataW.trod_array Tryz.underlying31 h
  have c5 : Tryz.prog.cellsOf 5 = 1 := by kernel_rfl
  have c26 : Tryz.prog.cellsOf 31 = 32 := by kernel_rfl
  rw [c26] at hlen
  obtain ⟨l, h1, h2⟩ := list_of (R := fun (b : UInt8) v => v = byteV b) cs fun v hv => by
    obtain ⟨i, hi, rfl⟩ := List.mem_iff_getElem.1 hv
    have hi32 : i < 32 := by omega
    have h0 := hel i hi32
    rw [c5, Nat.mul_one, List.getElem?_eq_getElem (show i < xs.length by rw [hn]; exact hi32)] at h0
    obtain ⟨b, hb⟩ := open_byte h0
    rw [List.drop_eq_getElem_cons hi, List.take_succ_cons, List.take_zero] at hb
    exact ⟨b, (List.cons.inj hb).1⟩
  refine ⟨l, ?_, by omega⟩
  apply List.ext_getElem?
  intro i
  rw [bytesU, List.getElem?_map]
  by_cases hi : i < l.length
  · have hi' : i < cs.length := by omega
    have := h2 i l[i] cs[i] (by simp) (by simp)
    simp [hi, hi', this]
  · rw [List.getElem?_eq_none (by omega), List.getElem?_eq_none (by omega)]; rfl
theorem split_at (cs : List Value) (o n : Nat) : cs.drop o = (cs.drop o).take n ++ cs.drop (o + n) := by
  rw [← List.drop_drop, List.take_append_drop]
theorem open_leaf {fuel : Nat} {cs : List Value} {x : DataW H × List MemPlace} (h : DataW.trod enc Tryz.prog W 0 sp held fuel 50 cs = some x) : ∃ r : LeafD, cs = r.cells ∧ r.path.length ≤ maxLen ∧ r.id.length = 32 := by
  obtain ⟨xs, k, rfl, _, hlen, hxs, hf⟩ := DataW.trod_struct Tryz.underlying50 h
  have k76 : Tryz.prog.cellsOf 50 = 33 := by kernel_rfl
  have k9 : Tryz.prog.cellsOf 9 = 1 := by kernel_rfl
  have k26 : Tryz.prog.cellsOf 31 = 32 := by kernel_rfl
  have hxs : xs.length = 2 := hxs
  have g0 : DataW.trod enc Tryz.prog W 0 sp held k 9 ((cs.drop 0).take (Tryz.prog.cellsOf 9)) = _ := hf 0 _ rfl
  have g1 : DataW.trod enc Tryz.prog W 0 sp held k 31 ((cs.drop 1).take (Tryz.prog.cellsOf 31)) = _ := hf 1 _ rfl
  rw [k9, List.getElem?_eq_getElem (by omega)] at g0
  rw [k26, List.getElem?_eq_getElem (by omega)] at g1
  obtain ⟨s, e0, h0⟩ := open_str g0
  obtain ⟨l, e1, h1⟩ := open_id g1
  rw [k76] at hlen
  refine ⟨⟨s, l⟩, ?_, h0, h1⟩
  have e : cs = cs.drop 0 := rfl
  rw [e, split_at cs 0 1, e0, split_at cs (0 + 1) 32, e1, List.drop_eq_nil_of_le (by omega), List.append_nil]
  rfl
theorem open_chg {fuel : Nat} {cs : List Value} {x : DataW H × List MemPlace} (h : DataW.trod enc Tryz.prog W 0 sp held fuel 102 cs = some x) : ∃ r : ChgD, cs = r.cells ∧ r.path.length ≤ maxLen ∧ r.text.length ≤ maxLen := by
  obtain ⟨xs, k, rfl, _, hlen, hxs, hf⟩ := DataW.trod_struct Tryz.underlying102 h
  have k82 : Tryz.prog.cellsOf 102 = 3 := by kernel_rfl
  have k9 : Tryz.prog.cellsOf 9 = 1 := by kernel_rfl
  have k4 : Tryz.prog.cellsOf 4 = 1 := by kernel_rfl
  have hxs : xs.length = 3 := hxs
  have g0 : DataW.trod enc Tryz.prog W 0 sp held k 9 ((cs.drop 0).take (Tryz.prog.cellsOf 9)) = _ := hf 0 _ rfl
  have g1 : DataW.trod enc Tryz.prog W 0 sp held k 4 ((cs.drop 1).take (Tryz.prog.cellsOf 4)) = _ := hf 1 _ rfl
  have g2 : DataW.trod enc Tryz.prog W 0 sp held k 9 ((cs.drop 2).take (Tryz.prog.cellsOf 9)) = _ := hf 2 _ rfl
  rw [k9, List.getElem?_eq_getElem (by omega)] at g0 g2
  rw [k4, List.getElem?_eq_getElem (by omega)] at g1
  obtain ⟨s, e0, h0⟩ := open_str g0
  obtain ⟨b, e1, _⟩ := DataW.trod_bool Tryz.underlying4 g1
  obtain ⟨t, e2, h2⟩ := open_str g2
  rw [k82] at hlen
  refine ⟨⟨s, b, t⟩, ?_, h0, h2⟩
  have e : cs = cs.drop 0 := rfl
  rw [e, split_at cs 0 1, e0, split_at cs (0 + 1) 1, e1, split_at cs (0 + 1 + 1) 1, e2, List.drop_eq_nil_of_le (by omega), List.append_nil]
  rfl
theorem open_u32 {fuel : Nat} {cs : List Value} {x : DataW H × List MemPlace} (h : DataW.trod enc Tryz.prog W 0 sp held fuel 46 cs = some x) : ∃ n : Nat, cs = [.int .u32 (n : Int)] ∧ n < 2 ^ 32 := by
  obtain ⟨n, rfl, _, hw⟩ := DataW.trod_int Tryz.underlying46 h
  have hw : 0 ≤ n ∧ n ≤ 4294967295 := by simpa [Lit.wf, IntKind.min, IntKind.max, IntKind.signed, IntKind.bits] using hw
  exact ⟨n.toNat, by rw [Int.toNat_of_nonneg hw.1], by omega⟩
theorem open_int {fuel : Nat} {cs : List Value} {x : DataW H × List MemPlace} (h : DataW.trod enc Tryz.prog W 0 sp held fuel 3 cs = some x) : ∃ n : Int, cs = intC n ∧ I64 n := by
  obtain ⟨n, rfl, _, hw⟩ := DataW.trod_int Tryz.underlying3 h
  have hw : -9223372036854775808 ≤ n ∧ n ≤ 9223372036854775807 := by simpa [Lit.wf, IntKind.min, IntKind.max, IntKind.signed, IntKind.bits] using hw
  exact ⟨n, rfl, hw⟩
theorem ml_lt {n : Nat} (h : n ≤ maxLen) : n < 9223372036854775808 := by unfold maxLen at h; omega
end
end Go.Proofs.YtpcdihkcenfgkaaGreat
