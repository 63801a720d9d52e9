/-
  Walks and laws towards: FetchTakesCardSaid , walked
-/
import Derived.OrdersIn
import Derived.Test.YtpcdihkcenfgkaaGreatDoorFtD
namespace Go.Vc
abbrev IdB := List UInt8
abbrev Hp := List (IdB × ObjD)
def Hp.get (h : Hp) (x : IdB) : Option ObjD := (h.find? fun e => decide (e.1 = x)).map (·.2)
def Hp.err (h : Hp) (x : IdB) : Int := match h.get x with
  | none => 4
  | some o => if ObjOk o then 0 else 160
def Hp.obj (h : Hp) (x : IdB) : ObjD := match h.get x with
  | none => objZ
  | some o => if ObjOk o then o else objZ
def Hp.kErr (h : Hp) (x : IdB) (k : Int) : Int := if h.err x = 0 ∧ (h.obj x).kind ≠ k then 160 else h.err x
def Hp.kObj (h : Hp) (x : IdB) (k : Int) : ObjD := if h.err x = 0 ∧ (h.obj x).kind ≠ k then objZ else h.obj x
def Hp.txErr (h : Hp) (L : List zj8) : Int := match L.find? (fun l => decide (h.kErr l.id 1 ≠ 0)) with
  | none => 0
  | some l => h.kErr l.id 1
def Hp.rowsOf (h : Hp) (L : List zj8) : List RowD := L.map fun l => ⟨l.path, (h.kObj l.id 1).text⟩
def Hp.mapE (h : Hp) (x : IdB) : Int := if h.kErr x 2 ≠ 0 then h.kErr x 2 else h.txErr (h.kObj x 2).leaves
def Hp.map (h : Hp) (x : IdB) : List RowD := if h.mapE x ≠ 0 then [] else h.rowsOf (h.kObj x 2).leaves
theorem Hp.txErr_ok {h : Hp} {L : List zj8} (hL : ∀ l ∈ L, h.kErr l.id 1 = 0) : h.txErr L = 0 := by
 unfold Hp.txErr
 rw [List.find?_eq_none.2 fun l hl => by simp [hL l hl]]
theorem Hp.txErr_bad {h : Hp} {L : List zj8} {i : Nat} (hi : i < L.length) (hL : ∀ l ∈ L.take i, h.kErr l.id 1 = 0) (hb : h.kErr L[i].id 1 ≠ 0) : h.txErr L = h.kErr L[i].id 1 := by
 unfold Hp.txErr
 have e : L.find? (fun l => decide (h.kErr l.id 1 ≠ 0)) = some L[i] := by
  rw [List.find?_eq_some_iff_append]
  refine ⟨by simpa using hb, L.take i, L.drop (i + 1), by simp, fun l hl => by simp [hL l hl]⟩
 rw [e]
def Hp.links (h : Hp) (x : IdB) : List IdB := zj3 (h.obj x)
inductive Hp.Leads (h : Hp) (x : IdB) : IdB → Prop
  | here : Hp.Leads h x x
  | on {y z : IdB} : Hp.Leads h x y → z ∈ h.links y → Hp.Leads h x z
def Hp.all (h : Hp) (x : IdB) : List IdB := x :: h.flatMap fun e => zj3 e.2
theorem Hp.obj_mem (h : Hp) (x : IdB) : h.obj x = objZ ∨ ∃ e ∈ h, h.obj x = e.2 := by
 unfold Hp.obj Hp.get
 cases hf : h.find? fun e => decide (e.1 = x) with
 | none => exact .inl rfl
 | some e =>
  simp only [Option.map_some]
  split
  ·exact .inr ⟨e, List.mem_of_find?_eq_some hf, rfl⟩
  ·exact .inl rfl
theorem linksOf_objZ : zj3 objZ = [] := rfl
theorem Hp.links_all (h : Hp) (x y : IdB) : ∀ z ∈ h.links y, z ∈ h.all x := fun z hz => by
 unfold Hp.links at hz
 rcases h.obj_mem y with e | ⟨e, he, e'⟩
 ·rw [e, linksOf_objZ] at hz; cases hz
 ·rw [e'] at hz
  exact List.mem_cons_of_mem _ (List.mem_flatMap.2 ⟨e, he, hz⟩)
theorem Hp.Leads.all {h : Hp} {x y : IdB} (hl : h.Leads x y) : y ∈ h.all x := by
 cases hl with
 | here => exact List.mem_cons_self
 | on _ hz => exact h.links_all x _ _ hz
theorem Hp.Leads.sub {h : Hp} {x : IdB} {S : IdB → Prop} (hx : S x) (hS : ∀ y, S y → ∀ z ∈ h.links y, S z) : ∀ y, h.Leads x y → S y := fun y hy => by
 induction hy with
 | here => exact hx
 | on _ hz ih => exact hS _ ih _ hz
/-! ### Rising rows of Ids -/
def idLt (a b : IdB) : Prop := Op.bytesLess a b = true
instance (a b : IdB) : Decidable (idLt a b) := inferInstanceAs (Decidable (_ = true))
theorem idLt_irrefl (a : IdB) : ¬ idLt a a := fun h => bl_asymm a a h h
theorem idLt_asymm {a b : IdB} (h : idLt a b) : ¬ idLt b a := fun k => bl_asymm a b h k
theorem idLt_total (a b : IdB) : idLt a b ∨ a = b ∨ idLt b a := by
 rcases bl_total a b with (h | h) | h
 ·exact .inl h
 ·exact .inr (.inl h)
 ·exact .inr (.inr h)
theorem bl_trans : ∀ (x y z : List UInt8), Op.bytesLess x y = true → Op.bytesLess y z = true → Op.bytesLess x z = true
 | [], [], _, h, _ => by cases h
 | [], _ :: _, [], _, h => by cases h
 | [], _ :: _, _ :: _, _, _ => rfl
 | _ :: _, [], _, h, _ => by cases h
 | _ :: _, _ :: _, [], _, h => by cases h
 | a :: x, b :: y, c :: z, h, k => by
  simp only [Op.bytesLess, Bool.or_eq_true, Bool.and_eq_true, decide_eq_true_eq, beq_iff_eq] at h k ⊢
  rcases h with h | ⟨rfl, h⟩
  ·rcases k with k | ⟨rfl, k⟩
   ·exact .inl (UInt8.lt_trans h k)
   ·exact .inl h
  ·rcases k with k | ⟨rfl, k⟩
   ·exact .inl k
   ·exact .inr ⟨rfl, bl_trans x y z h k⟩
theorem idLt_trans {a b c : IdB} (h : idLt a b) (k : idLt b c) : idLt a c := bl_trans a b c h k
def Rise (l : List IdB) : Prop := l.Pairwise idLt
theorem sorted_one {α : Type} {R : α → α → Prop} (hirr : ∀ a, ¬ R a a) (hasym : ∀ a b, R a b → ¬ R b a) : ∀ {l m : List α}, l.Pairwise R → m.Pairwise R → (∀ x, x ∈ l ↔ x ∈ m) → l = m
 | [], [], _, _, _ => rfl
 | [], b :: m, _, _, h => by have := (h b).2 List.mem_cons_self; cases this
 | a :: l, [], _, _, h => by have := (h a).1 List.mem_cons_self; cases this
 | a :: l, b :: m, hl, hm, h => by
  have hl' := List.pairwise_cons.1 hl
  have hm' := List.pairwise_cons.1 hm
  have hab : a = b := by
   rcases List.mem_cons.1 ((h a).1 List.mem_cons_self) with e | e
   ·exact e
   ·rcases List.mem_cons.1 ((h b).2 List.mem_cons_self) with e' | e'
    ·exact e'.symm
    ·exact absurd (hl'.1 b e') (hasym _ _ (hm'.1 a e))
  subst hab
  congr 1
  refine sorted_one hirr hasym hl'.2 hm'.2 fun x => ⟨fun hx => ?_, fun hx => ?_⟩
  ·rcases List.mem_cons.1 ((h x).1 (List.mem_cons_of_mem _ hx)) with e | e
   ·subst e; exact absurd (hl'.1 _ hx) (hirr _)
   ·exact e
  ·rcases List.mem_cons.1 ((h x).2 (List.mem_cons_of_mem _ hx)) with e | e
   ·subst e; exact absurd (hm'.1 _ hx) (hirr _)
   ·exact e
theorem rise_one {l m : List IdB} (hl : Rise l) (hm : Rise m) (h : ∀ x, x ∈ l ↔ x ∈ m) : l = m := sorted_one idLt_irrefl (fun _ _ h => idLt_asymm h) hl hm h
def insId : List IdB → IdB → List IdB
  | [], x => [x]
  | y :: r, x => if idLt x y then x :: y :: r else y :: insId r x
def withId (l : List IdB) (x : IdB) : List IdB := if x ∈ l then l else insId l x
theorem insId_mem (x : IdB) : ∀ (l : List IdB) (y : IdB), y ∈ insId l x ↔ y = x ∨ y ∈ l
 | [], y => by simp [insId]
 | z :: r, y => by
  unfold insId
  split
  ·simp
  ·simp only [List.mem_cons, insId_mem x r y]
   constructor
   ·rintro (h | h | h); exact .inr (.inl h); exact .inl h; exact .inr (.inr h)
   ·rintro (h | h | h); exact .inr (.inl h); exact .inl h; exact .inr (.inr h)
theorem insId_rise (x : IdB) : ∀ {l : List IdB}, Rise l → x ∉ l → Rise (insId l x)
 | [], _, _ => by unfold insId Rise; simp
 | z :: r, h, hx => by
  have h' := List.pairwise_cons.1 h
  unfold insId
  split
  ·rename_i hlt
   refine List.pairwise_cons.2 ⟨fun y hy => ?_, h⟩
   rcases List.mem_cons.1 hy with rfl | hy
   ·exact hlt
   ·exact idLt_trans hlt (h'.1 y hy)
  ·rename_i hlt
   refine List.pairwise_cons.2 ⟨fun y hy => ?_, insId_rise x h'.2 fun e => hx (List.mem_cons_of_mem _ e)⟩
   rcases (insId_mem x r y).1 hy with rfl | hy
   ·rcases idLt_total z y with e | e | e
    ·exact e
    ·exact absurd (e ▸ List.mem_cons_self) hx
    ·exact absurd e hlt
   ·exact h'.1 y hy
theorem withId_mem (l : List IdB) (x y : IdB) : y ∈ withId l x ↔ y = x ∨ y ∈ l := by
 unfold withId
 split
 ·rename_i h; exact ⟨.inr, fun e => e.elim (fun e => e ▸ h) id⟩
 ·exact insId_mem x l y
theorem withId_rise {l : List IdB} (h : Rise l) (x : IdB) : Rise (withId l x) := by
 unfold withId
 split
 ·exact h
 ·rename_i hx; exact insId_rise x h hx
theorem foldWith_mem : ∀ (xs l : List IdB) (y : IdB), y ∈ xs.foldl withId l ↔ y ∈ xs ∨ y ∈ l
 | [], l, y => by simp
 | x :: r, l, y => by
  rw [List.foldl_cons, foldWith_mem r, withId_mem, List.mem_cons]
  constructor
  ·rintro (h | h | h); exact .inl (.inr h); exact .inl (.inl h); exact .inr h
  ·rintro ((h | h) | h); exact .inr (.inl h); exact .inl h; exact .inr (.inr h)
theorem foldWith_rise : ∀ (xs : List IdB) {l : List IdB}, Rise l → Rise (xs.foldl withId l)
 | [], _, h => h
 | x :: r, _, h => foldWith_rise r (withId_rise h x)
theorem rise_nodup {l : List IdB} (h : Rise l) : l.Nodup := List.Pairwise.imp (fun {a b} (hab : idLt a b) (e : a = b) => idLt_irrefl b (e ▸ hab)) h
theorem sub_len {l m : List IdB} (hl : l.Nodup) (hs : ∀ x ∈ l, x ∈ m) : l.length ≤ m.length := by
 induction l generalizing m with
 | nil => exact Nat.zero_le _
 | cons a l ih =>
  have hl' := List.nodup_cons.1 hl
  have ha := hs a List.mem_cons_self
  have := ih hl'.2 (m := m.erase a) fun x hx => by
   have hne : x ≠ a := fun e => hl'.1 (e ▸ hx)
   exact (List.mem_erase_of_ne hne).2 (hs x (List.mem_cons_of_mem _ hx))
  rw [List.length_erase_of_mem ha] at this
  have h0 : 0 < m.length := List.length_pos_of_mem ha
  rw [List.length_cons]
  omega
theorem sub_all {l m : List IdB} (hl : l.Nodup) (_hm : m.Nodup) (hs : ∀ x ∈ l, x ∈ m) (hn : m.length ≤ l.length) : ∀ x ∈ m, x ∈ l := fun x hx => by
 refine Classical.byContradiction fun hnl => ?_
 have := sub_len (l := x :: l) (m := m) (List.nodup_cons.2 ⟨hnl, hl⟩) fun y hy => by
  rcases List.mem_cons.1 hy with rfl | hy
  ·exact hx
  ·exact hs y hy
 rw [List.length_cons] at this
 omega
/-! ### All that an Id leads to -/
open Classical in
noncomputable def Hp.led (h : Hp) (x : IdB) : List IdB := ((h.all x).filter fun y => decide (h.Leads x y)).foldl withId []
theorem Hp.led_rise (h : Hp) (x : IdB) : Rise (h.led x) := foldWith_rise _ List.Pairwise.nil
theorem Hp.led_mem (h : Hp) (x y : IdB) : y ∈ h.led x ↔ h.Leads x y := by
 unfold Hp.led
 rw [foldWith_mem]
 simp only [List.mem_filter, decide_eq_true_eq, List.not_mem_nil, or_false]
 exact ⟨fun e => e.2, fun e => ⟨e.all, e⟩⟩
theorem Hp.led_eq {h : Hp} {x : IdB} {L : List IdB} (hr : Rise L) (hm : ∀ y, y ∈ L ↔ h.Leads x y) : L = h.led x := rise_one hr (h.led_rise x) fun y => (hm y).trans (h.led_mem x y).symm
def Hp.waveGo (h : Hp) (ys acc : List IdB) : List IdB := ys.foldl (fun acc y => (h.links y).foldl withId acc) acc
theorem Hp.waveGo_mem (h : Hp) : ∀ (ys acc : List IdB) (z : IdB), z ∈ h.waveGo ys acc ↔ z ∈ acc ∨ ∃ y ∈ ys, z ∈ h.links y
 | [], acc, z => by simp [Hp.waveGo]
 | y :: r, acc, z => by
  show z ∈ h.waveGo r ((h.links y).foldl withId acc) ↔ _
  rw [Hp.waveGo_mem h r, foldWith_mem]
  constructor
  ·rintro ((e | e) | ⟨u, hu, e⟩)
   ·exact .inr ⟨y, List.mem_cons_self, e⟩
   ·exact .inl e
   ·exact .inr ⟨u, List.mem_cons_of_mem _ hu, e⟩
  ·rintro (e | ⟨u, hu, e⟩)
   ·exact .inl (.inr e)
   ·rcases List.mem_cons.1 hu with rfl | hu
    ·exact .inl (.inl e)
    ·exact .inr ⟨u, hu, e⟩
theorem Hp.waveGo_rise (h : Hp) : ∀ (ys : List IdB) {acc : List IdB}, Rise acc → Rise (h.waveGo ys acc)
 | [], _, ha => ha
 | _y :: r, _, ha => Hp.waveGo_rise h r (foldWith_rise _ ha)
structure Hp.Part (h : Hp) (x : IdB) (L : List IdB) : Prop where
  rise : Rise L
  has : x ∈ L
  led : ∀ y ∈ L, h.Leads x y
theorem Hp.Part.wave {h : Hp} {x : IdB} {L : List IdB} (hp : h.Part x L) : h.Part x (h.waveGo L L) := by
 refine ⟨h.waveGo_rise L hp.rise, (h.waveGo_mem L L x).2 (.inl hp.has), fun y hy => ?_⟩
 rcases (h.waveGo_mem L L y).1 hy with e | ⟨u, hu, e⟩
 ·exact hp.led y e
 ·exact .on (hp.led u hu) e
theorem Hp.Part.done {h : Hp} {x : IdB} {L : List IdB} (hp : h.Part x L) (hn : (h.waveGo L L).length = L.length) : L = h.led x := by
 refine Hp.led_eq hp.rise fun y => ⟨hp.led y, fun hy => ?_⟩
 have hall := sub_all (rise_nodup hp.rise) (rise_nodup hp.wave.rise) (fun z hz => (h.waveGo_mem L L z).2 (.inl hz)) (by omega)
 exact Hp.Leads.sub (S := fun z => z ∈ L) hp.has (fun u hu z hz => hall z ((h.waveGo_mem L L z).2 (.inr ⟨u, hu, hz⟩))) y hy
/-! ### Closed commits -/
def Hp.top (h : Hp) (l : List IdB) : Nat := l.foldl (fun t p => max t ((h.kObj p 3).number + 1)) 0
def Hp.ParOk (h : Hp) (o : ObjD) : Prop := (∀ p ∈ o.parents, h.kErr p 3 = 0 ∧ (h.kObj p 3).number < o.number) ∧ h.top o.parents = o.number
instance (h : Hp) (o : ObjD) : Decidable (h.ParOk o) := inferInstanceAs (Decidable (_ ∧ _))
def Hp.Good (h : Hp) (x : IdB) : Prop := h.err x = 0 ∧ ((h.obj x).kind = 3 → h.mapE (h.obj x).tree = 0 ∧ h.ParOk (h.obj x))
instance (h : Hp) (x : IdB) : Decidable (h.Good x) := inferInstanceAs (Decidable (_ ∧ _))
noncomputable def Hp.closed (h : Hp) (x : IdB) : Int := if h.kErr x 3 ≠ 0 then h.kErr x 3 else if ∀ y ∈ h.led x, h.Good y then 0 else 180
noncomputable def Hp.lacks (h : Hp) (x : IdB) : List IdB := (h.led x).filter fun y => decide (h.err y ≠ 0)
def Hp.num (h : Hp) (x : IdB) : Nat := (h.kObj x 3).number
end Go.Vc
namespace Go.Proofs.YtpcdihkcenfgkaaGreatDoor
open Go.Vc
abbrev toHp (l : List zz4) : Hp := l.map fun h => (h.id, h.o)
structure HpIn (w : World) (p : Option Addr) (l : List zz4) : Prop where
  sl : Sl w p l.length 105 (l.flatMap heldC)
  ins : ∀ h ∈ l, HeldIn w h
  len : l.length < 1000000
  lk : (l.flatMap fun e => zj3 e.o).length < 100000
theorem HpIn.zq2 {w w' : World} {p : Option Addr} {l : List zz4} (h : HpIn w p l) (hE : Ext No w w') : HpIn w' p l := ⟨h.sl.zq2 hE, fun x hx => (h.ins x hx).zq2 hE, h.len, h.lk⟩
theorem HpIn.c {w : World} {p : Option Addr} {l : List zz4} (h : HpIn w p l) : ∀ x ∈ l, (heldC x).length = 105 := fun x hx => (h.ins x hx).c
def objP (l : List zz4) (x : IdB) : ObjP := match l.find? fun h => decide (h.id = x) with
  | none => noP
  | some h => if ObjOk h.o then h.a else noP
def kObjP (l : List zz4) (x : IdB) (k : Int) : ObjP := if (toHp l).err x = 0 ∧ ((toHp l).obj x).kind ≠ k then noP else objP l x
theorem find_at {l : List zz4} {x : IdB} {i : Nat} (hi : i < l.length) (hno : ∀ k (hk : k < l.length), k < i → ¬ l[k].id = x) (he : l[i].id = x) : l.find? (fun h => decide (h.id = x)) = some l[i] := by
 rw [List.find?_eq_some_iff_append]
 refine ⟨by simpa using he, l.take i, l.drop (i + 1), ?_, fun e hm => ?_⟩
 ·rw [← List.drop_eq_getElem_cons hi, List.take_append_drop]
 ·obtain ⟨k, hk, rfl⟩ := List.mem_iff_getElem.1 hm
  rw [List.length_take] at hk
  have hk2 : k < l.length := by omega
  have := hno k hk2 (by omega)
  simp [this]
theorem find_no {l : List zz4} {x : IdB} (hno : ∀ k (hk : k < l.length), k < l.length → ¬ l[k].id = x) : l.find? (fun h => decide (h.id = x)) = none := by
 rw [List.find?_eq_none]
 intro e hm
 obtain ⟨k, hk, rfl⟩ := List.mem_iff_getElem.1 hm
 have := hno k hk hk
 simp [this]
theorem get_find (l : List zz4) (x : IdB) : (toHp l).get x = (l.find? fun h => decide (h.id = x)).map zz4.o := by
 unfold Hp.get toHp
 rw [List.find?_map, Option.map_map]
 rfl
theorem get_at {l : List zz4} {x : IdB} {i : Nat} (hi : i < l.length) (hno : ∀ k (hk : k < l.length), k < i → ¬ l[k].id = x) (he : l[i].id = x) : (toHp l).get x = some l[i].o := by rw [get_find, find_at hi hno he]; rfl
theorem get_no {l : List zz4} {x : IdB} (hno : ∀ k (hk : k < l.length), k < l.length → ¬ l[k].id = x) : (toHp l).get x = none := by rw [get_find, find_no hno]; rfl
theorem objP_at {l : List zz4} {x : IdB} {i : Nat} (hi : i < l.length) (hno : ∀ k (hk : k < l.length), k < i → ¬ l[k].id = x) (he : l[i].id = x) : (ObjOk l[i].o → objP l x = l[i].a) ∧ (¬ ObjOk l[i].o → objP l x = noP) := by
 unfold objP
 rw [find_at hi hno he]
 exact ⟨fun k => if_pos k, fun k => if_neg k⟩
theorem objP_no {l : List zz4} {x : IdB} (hno : ∀ k (hk : k < l.length), k < l.length → ¬ l[k].id = x) : objP l x = noP := by
 unfold objP
 rw [find_no hno]
theorem Hp.obj_held {l : List zz4} {x : IdB} : (toHp l).obj x = objZ ∨ ∃ h ∈ l, (toHp l).obj x = h.o := by
 rcases (toHp l).obj_mem x with e | ⟨e, he, e'⟩
 ·exact .inl e
 ·obtain ⟨h, hh, rfl⟩ := List.mem_map.1 he
  exact .inr ⟨h, hh, e'⟩
theorem HpIn.objIn {w : World} {p : Option Addr} {l : List zz4} (h : HpIn w p l) (x : IdB) : ObjIn ((toHp l).obj x) := by
 rcases Hp.obj_held (l := l) (x := x) with e | ⟨y, hy, e⟩
 ·rw [e]; exact objZ_in
 ·rw [e]; exact (h.ins y hy).o
theorem HpIn.objSh {w : World} {p : Option Addr} {l : List zz4} (h : HpIn w p l) (x : IdB) : Short ((toHp l).obj x) := by
 rcases Hp.obj_held (l := l) (x := x) with e | ⟨y, hy, e⟩
 ·rw [e]; exact objZ_sh
 ·rw [e]; exact (h.ins y hy).sh
theorem Hp.err_at {h : Hp} {x : IdB} {o : ObjD} (hg : h.get x = some o) : (ObjOk o → h.err x = 0 ∧ h.obj x = o) ∧ (¬ ObjOk o → h.err x = 160 ∧ h.obj x = objZ) := by
 unfold Hp.err Hp.obj
 rw [hg]
 exact ⟨fun k => ⟨if_pos k, if_pos k⟩, fun k => ⟨if_neg k, if_neg k⟩⟩
theorem HpIn.objL {w : World} {p : Option Addr} {l : List zz4} (h : HpIn w p l) (x : IdB) : ObjL w ((toHp l).obj x) (objP l x) := by
 unfold Hp.obj objP
 rw [get_find]
 cases hf : l.find? fun h => decide (h.id = x) with
 | none => exact objZ_l w
 | some e =>
  simp only [Option.map_some]
  split
  ·exact (h.ins e (List.mem_of_find?_eq_some hf)).l
  ·exact objZ_l w
theorem HpIn.kObjL {w : World} {p : Option Addr} {l : List zz4} (h : HpIn w p l) (x : IdB) (k : Int) : ObjL w ((toHp l).kObj x k) (kObjP l x k) := by
 unfold Hp.kObj kObjP
 split
 ·exact objZ_l w
 ·exact h.objL x
theorem Hp.err_no {h : Hp} {x : IdB} (hg : h.get x = none) : h.err x = 4 ∧ h.obj x = objZ := by
 unfold Hp.err Hp.obj
 rw [hg]
 exact ⟨rfl, rfl⟩
theorem get8_calls (w : World) {p : Option Addr} {c : Nat} {l : List zz4} {x : IdB} (h : HpIn w p l) (hx : IdIn x) :
  zz1 Tryz.prog 51 [.agg #[.slice p l.length c], .agg (zq6 x).toArray] w fun v w' => v = .tuple #[.agg (objC ((toHp l).obj x) (objP l x)).toArray, .int .i64 ((toHp l).err x)] ∧ Ext No w w' := by
 have hlen := h.len
 refine zq9 Tryz.func51 rfl rfl rfl rfl ?_
 have hX := Ext.refl No w
 refine zq5 (zq0 (wl (zz9 I_ok rfl fun b2 w1 hn2 hb2 hE1 => ?_)))
 have hX := hX.zq4 hE1
 have hb2 : Blk w1 b2 29 ([.slice p l.length c]) := hb2
 refine wl (zz9 I_ok rfl fun b3 w2 hn3 hb3 hE2 => ?_)
 have hb2 := hb2.zq2 hE2
 have hX := hX.zq4 hE2
 have hb3 : Blk w2 b3 31 (zq6 x) := hb3
 refine wl (zz9 I_ok rfl fun b4 w3 hn4 hb4 hE3 => ?_)
 have fr4 := Nat.le_trans hX.size hn4
 have hb2 := hb2.zq2 hE3
 have hb3 := hb3.zq2 hE3
 have hX := hX.zq4 hE3
 refine wl_p I_ok rfl (zq3 (zq1 (zq5 (zq5 (zq0 (wl_p I_ok rfl (wl (st_ldb I_ok hb2 rfl rfl (wl_p I_ok rfl (zq3 (zq1 (zx4 ?_))))))))))))
 refine zv3 (α := Nat) [3, 4, 9, 10] rfl (fun z => [(11, .int .i64 (z : Int))]) (fun z u => (z ≤ l.length ∧ ∀ k (hk : k < l.length), k < z → ¬ l[k].id = x) ∧ Blk u b2 29 ([.slice p l.length c]) ∧ Blk u b3 31 (zq6 x) ∧ Blk u b4 46 (cellsOf ti46.zero) ∧ Ext No w u) (fun z u => l.length - z) (0) rfl ⟨⟨Nat.zero_le _, fun k _ h => absurd h (Nat.not_lt_zero _)⟩, hb2, hb3, hb4, hX⟩ ?_
 rintro i w4 ⟨⟨hi, hno⟩, hb2, hb3, hb4, hX⟩
 refine zq5 (zq0 (wl_p I_ok rfl (zq3 (zq1 (zq5 (c_if rfl (fun hc => ?_) (fun hc => ?_)))))))
 ·have hi : i < l.length := by omega
  obtain ⟨qb, qoff, hp, hsq⟩ := h.sl.rowAll h.c (by omega)
  rw [hp] at hb2 ⊢
  have hni := h.ins _ (List.getElem_mem hi)
  refine zx7 (zq1 (zq5 (zx4 (zq5 (zq0 (wl (st_ix I_ok rfl 105 rfl i rfl (by omega) (qoff + i * 105) rfl (wl (st_ldN I_ok rfl ((hsq i hi).zq2 hX) hni.c (wl (zz9 I_ok rfl fun b7 w5 hn7 hb7 hE5 => ?_)))))))))))
  have ne2_7 : b2 ≠ b7 := Nat.ne_of_lt (Nat.lt_of_lt_of_le hb2.lt hn7)
  have ne3_7 : b3 ≠ b7 := Nat.ne_of_lt (Nat.lt_of_lt_of_le hb3.lt hn7)
  have ne4_7 : b4 ≠ b7 := Nat.ne_of_lt (Nat.lt_of_lt_of_le hb4.lt hn7)
  have fr7 := Nat.le_trans hX.size hn7
  have hb2 := hb2.zq2 hE5
  have hb3 := hb3.zq2 hE5
  have hb4 := hb4.zq2 hE5
  have hX := hX.zq4 hE5
  refine wl (zj1 (l' := heldC l[i]) I_ok hb7 rfl rfl hni.c (by rw [hni.c]; rfl) OneC.h fun w6 hb7 hE6 hs6 => ?_)
  have hb2 := hb2.ext1 hE6 ne2_7
  have hb3 := hb3.ext1 hE6 ne3_7
  have hb4 := hb4.ext1 hE6 ne4_7
  have hX := hX.zx1 hE6 fr7
  refine zq3 (zq1 (zq5 (zq5 (zq0 (wl_p I_ok rfl (wl (st_ldN I_ok rfl (held_id hb7.seg) (IdIn.len hni.id) (wl (zj2 I_ok hb3 rfl hx.len ?_)))))))))
  refine wl (st_eqK rfl gId 10 (by decide) kId (idForm hni.id) (idForm hx) (idKey hni.id) (idKey hx) idLits_inj ?_)
  simp only [Bool.false_eq_true, if_false]
  refine zq3 (zq1 (c_if rfl (fun hc => ?_) (fun hc => ?_)))
  ·refine c_exit ?_
   refine zx3 (zz0 (zq1 (zq0 (wl_p I_ok rfl ?_))))
   rw [IntWalk.i64_in _ (by omega)]
   refine zq3 ?_
   exact zv1 (i + 1) rfl ⟨⟨by omega, fun k hk hlt => (Nat.lt_or_eq_of_le (Nat.le_of_lt_succ hlt)).elim (fun h => hno k hk h) fun h => by subst h; exact hc⟩, hb2, hb3, hb4, hX⟩ (by first | omega | (dsimp only; omega))
  ·have he : l[i].id = x := Decidable.not_not.1 hc
   have hg := get_at hi hno he
   obtain ⟨e1, e2⟩ := Hp.err_at hg
   obtain ⟨e3, e4⟩ := objP_at hi hno he
   refine zx7 (zq1 (zq5 (zq5 (zq0 (wl_p I_ok rfl (wl (st_ldN I_ok rfl (held_obj hb7.seg hni.id) (zq7 hni.o) ?_)))))))
   refine wl (zx2 Tryz.call20 rfl rfl rfl rfl rfl rfl (right6_calls w6 hni.o (hni.l.zq2 hX) hni.sh) fun v7 w7 hr7 => ?_)
   obtain ⟨rfl, hE7⟩ := hr7
   have hb4 := hb4.zq2 hE7
   have hb7 := hb7.zq2 hE7
   have hX := hX.zq4 hE7
   refine wl_p I_ok rfl (zq3 (zq1 (c_cond rfl (fun hc => ?_) (fun hc => ?_))))
   ·have hk : ¬ ObjOk l[i].o := by simpa using hc
    obtain ⟨e1, e2⟩ := e2 hk
    have e3 := e4 hk
    refine zq5 (zq0 (wl (st_bd I_ok rfl trivial (l' := objC objZ noP) objZ_c.symm (wl (zj1 (l' := objC objZ noP) I_ok hb4 rfl rfl rfl rfl OneC.h fun w8 hb4 hE8 hs8 => ?_)))))
    have hX := hX.zx1 hE8 fr4
    refine wl_p I_ok rfl (zq3 (zq1 (zj0 (zx5 (zz3 (zx5 (zx5 (zz3 (zx5 (f_ret [_, _] ⟨⟨b4, 0, rfl, ld_all I_ok rfl rfl hb4.seg rfl⟩, rfl, trivial⟩ ?_))))))))))
    exact ⟨by rw [e1, e2, e3]; rfl, hX⟩
   ·have hk : ObjOk l[i].o := by simpa using hc
    obtain ⟨e1, e2⟩ := e1 hk
    have e3 := e3 hk
    refine zx7 (zq1 (zq5 (zq0 (wl_p I_ok rfl (wl (st_ldN I_ok rfl (held_obj hb7.seg hni.id) (zq7 hni.o) ?_))))))
    refine wl (zj1 (l' := objC l[i].o l[i].a) I_ok hb4 rfl rfl (zq7 hni.o) (by rw [zq7 hni.o]; rfl) OneC.h fun w9 hb4 hE9 hs9 => ?_)
    have hX := hX.zx1 hE9 fr4
    refine wl_p I_ok rfl (zq3 (zq1 (zj0 (zz3 (zx5 (zx5 (zz3 (zx5 (f_ret [_, _] ⟨⟨b4, 0, rfl, ld_all I_ok rfl rfl hb4.seg (by rw [zq7 hni.o]; rfl)⟩, rfl, trivial⟩ ?_)))))))))
    exact ⟨by rw [e1, e2, e3]; rfl, hX⟩
 ·have hi0 : i = l.length := by omega
  subst hi0
  have hg := get_no hno
  obtain ⟨e1, e2⟩ := Hp.err_no hg
  have e3 := objP_no hno
  refine c_exit (zx3 (zx3 (zz0 (zq1 (zq5 (zq0 (wl (st_bd I_ok rfl trivial (l' := objC objZ noP) objZ_c.symm (wl (zj1 (l' := objC objZ noP) I_ok hb4 rfl rfl rfl rfl OneC.h fun w10 hb4 hE10 hs10 => ?_))))))))))
  have hX := hX.zx1 hE10 fr4
  refine wl_p I_ok rfl (zq3 (zq1 (zj0 (f_ret [_, _] ⟨⟨b4, 0, rfl, ld_all I_ok rfl rfl hb4.seg rfl⟩, rfl, trivial⟩ ?_))))
  exact ⟨by rw [e1, e2, e3]; rfl, hX⟩
theorem HpIn.kIn {w : World} {p : Option Addr} {l : List zz4} (h : HpIn w p l) (x : IdB) (k : Int) : ObjIn ((toHp l).kObj x k) := by
 unfold Hp.kObj
 split
 ·exact objZ_in
 ·exact h.objIn x
theorem HpIn.kSh {w : World} {p : Option Addr} {l : List zz4} (h : HpIn w p l) (x : IdB) (k : Int) : Short ((toHp l).kObj x k) := by
 unfold Hp.kObj
 split
 ·exact objZ_sh
 ·exact h.objSh x
theorem of8_calls (w : World) {p : Option Addr} {c : Nat} {l : List zz4} {x : IdB} (h : HpIn w p l) (hx : IdIn x) (kd : Int) :
  zz1 Tryz.prog 114 [.agg #[.slice p l.length c], .agg (zq6 x).toArray, .int .i64 kd] w fun v w' => v = .tuple #[.agg (objC ((toHp l).kObj x kd) (kObjP l x kd)).toArray, .int .i64 ((toHp l).kErr x kd)] ∧ Ext No w w' := by
 refine zq9 Tryz.func114 rfl rfl rfl rfl ?_
 have hX := Ext.refl No w
 refine zq5 (zq0 (wl (zz9 I_ok rfl fun b3 w1 hn3 hb3 hE1 => ?_)))
 have hX := hX.zq4 hE1
 have hb3 : Blk w1 b3 29 ([.slice p l.length c]) := hb3
 refine wl (zz9 I_ok rfl fun b4 w2 hn4 hb4 hE2 => ?_)
 have hb3 := hb3.zq2 hE2
 have hX := hX.zq4 hE2
 have hb4 : Blk w2 b4 31 (zq6 x) := hb4
 refine wl (zz9 I_ok rfl fun b6 w3 hn6 hb6 hE3 => ?_)
 have fr6 := Nat.le_trans hX.size hn6
 have hb3 := hb3.zq2 hE3
 have hb4 := hb4.zq2 hE3
 have hX := hX.zq4 hE3
 refine wl_p I_ok rfl (zq3 (zq1 (zq5 (zq0 (wl (zj2 I_ok hb3 rfl rfl (wl (zj2 I_ok hb4 rfl (IdIn.len hx) (wl (zx2 Tryz.call51 rfl rfl rfl rfl rfl rfl (get8_calls w3 (h.zq2 hX) hx) fun v4 w4 hr4 => ?_))))))))))
 obtain ⟨rfl, hE4⟩ := hr4
 have hb6 := hb6.zq2 hE4
 have hX := hX.zq4 hE4
 refine wl_p I_ok rfl (wl (zz9 I_ok rfl fun b8 w5 hn8 hb8 hE5 => ?_))
 have ne6_8 : b6 ≠ b8 := Nat.ne_of_lt (Nat.lt_of_lt_of_le hb6.lt hn8)
 have fr8 := Nat.le_trans hX.size hn8
 have hb6 := hb6.zq2 hE5
 have hX := hX.zq4 hE5
 refine wl (zj1 (l' := objC ((toHp l).obj x) (objP l x)) I_ok hb8 rfl rfl (zq7 (h.objIn x)) (by rw [zq7 (h.objIn x)]; rfl) OneC.h fun w6 hb8 hE6 hs6 => ?_)
 have hb6 := hb6.ext1 hE6 ne6_8
 have hX := hX.zx1 hE6 fr8
 refine wl_p I_ok rfl (zq3 (zq1 (zq5 (c_cutK (α := Bool) [6, 8, 9] rfl (fun z => [(23, .bool z)]) (fun z u => u = w6 ∧ z = decide ((toHp l).err x = 0 ∧ ((toHp l).obj x).kind ≠ kd)) ?_ ?_))))
 ·refine zq0 ?_
  refine wl_p I_ok rfl (zj4 18 rfl (fun hg => ?_) (fun hg => ?_))
  ·refine zz5 I_ok 1 rfl ?_
   refine wl (st_ld I_ok rfl (hb8.seg.obj (h.objIn x)).kind (zz5 I_ok 3 rfl (zq3 ?_)))
   exact zz7 (_) rfl ⟨rfl, by rw [decide_eq_decide]; exact ⟨fun k => ⟨hg, k⟩, fun k => k.2⟩⟩
  ·refine zz5 I_ok 5 rfl ?_
   refine zq3 ?_
   exact zz7 (false) rfl ⟨rfl, by symm; rw [decide_eq_false_iff_not]; exact fun k => hg k.1⟩
 rintro z w7 ⟨hu, rfl⟩
 have hu := hu.symm
 subst hu
 refine c_if rfl (fun hc => ?_) (fun hc => ?_)
 ·have e1 : (toHp l).kErr x kd = 160 := if_pos hc
  have e2 : (toHp l).kObj x kd = objZ := if_pos hc
  have e3 : kObjP l x kd = noP := if_pos hc
  refine zq5 (zq0 (wl (st_bd I_ok rfl trivial (l' := objC objZ noP) objZ_c.symm (wl (zj1 (l' := objC objZ noP) I_ok hb6 rfl rfl rfl rfl OneC.h fun w8 hb6 hE8 hs8 => ?_)))))
  have hX := hX.zx1 hE8 fr6
  refine wl_p I_ok rfl (zq3 (zq1 (zj0 (zx5 (f_ret [_, _] ⟨⟨b6, 0, rfl, ld_all I_ok rfl rfl hb6.seg rfl⟩, rfl, trivial⟩ ?_)))))
  exact ⟨by rw [e1, e2, e3]; rfl, hX⟩
 ·have e1 : (toHp l).kErr x kd = (toHp l).err x := if_neg hc
  have e2 : (toHp l).kObj x kd = (toHp l).obj x := if_neg hc
  have e3 : kObjP l x kd = objP l x := if_neg hc
  refine zx7 (zq1 (zq5 (zq0 (wl (zj2 I_ok hb8 rfl (zq7 (h.objIn x)) (wl_p I_ok rfl ?_))))))
  refine wl (zj1 (l' := objC ((toHp l).obj x) (objP l x)) I_ok hb6 rfl rfl (zq7 (h.objIn x)) (by rw [zq7 (h.objIn x)]; rfl) OneC.h fun w9 hb6 hE9 hs9 => ?_)
  have hX := hX.zx1 hE9 fr6
  refine wl_p I_ok rfl (zq3 (zq1 (zj0 (f_ret [_, _] ⟨⟨b6, 0, rfl, ld_all I_ok rfl rfl hb6.seg (by rw [zq7 (h.objIn x)]; rfl)⟩, rfl, trivial⟩ ?_))))
  exact ⟨by rw [e1, e2, e3]; rfl, hX⟩
theorem commit8_calls (w : World) {p : Option Addr} {c : Nat} {l : List zz4} {x : IdB} (h : HpIn w p l) (hx : IdIn x) :
  zz1 Tryz.prog 58 [.agg #[.slice p l.length c], .agg (zq6 x).toArray] w fun v w' => v = .tuple #[.agg (objC ((toHp l).kObj x 3) (kObjP l x 3)).toArray, .int .i64 ((toHp l).kErr x 3)] ∧ Ext No w w' := by
 refine zq9 Tryz.func58 rfl rfl rfl rfl ?_
 have hX := Ext.refl No w
 refine zq5 (zq0 (wl (zz9 I_ok rfl fun b2 w1 hn2 hb2 hE1 => ?_)))
 have hX := hX.zq4 hE1
 have hb2 : Blk w1 b2 29 ([.slice p l.length c]) := hb2
 refine wl (zz9 I_ok rfl fun b3 w2 hn3 hb3 hE2 => ?_)
 have hb2 := hb2.zq2 hE2
 have hX := hX.zq4 hE2
 have hb3 : Blk w2 b3 31 (zq6 x) := hb3
 refine wl (zz9 I_ok rfl fun b4 w3 hn4 hb4 hE3 => ?_)
 have fr4 := Nat.le_trans hX.size hn4
 have hb2 := hb2.zq2 hE3
 have hb3 := hb3.zq2 hE3
 have hX := hX.zq4 hE3
 refine wl_p I_ok rfl (zq3 (zq1 (zq5 (zq0 (wl (zj2 I_ok hb2 rfl rfl (wl (zj2 I_ok hb3 rfl (IdIn.len hx) (wl (zx2 Tryz.call114 rfl rfl rfl rfl rfl rfl (of8_calls w3 (h.zq2 hX) hx 3) fun v4 w4 hr4 => ?_))))))))))
 obtain ⟨rfl, hE4⟩ := hr4
 have hb4 := hb4.zq2 hE4
 have hX := hX.zq4 hE4
 refine wl_p I_ok rfl (wl (zj1 (l' := objC ((toHp l).kObj x 3) (kObjP l x 3)) I_ok hb4 rfl rfl (zq7 (h.kIn x 3)) (by rw [zq7 (h.kIn x 3)]; rfl) OneC.h fun w5 hb4 hE5 hs5 => ?_))
 have hX := hX.zx1 hE5 fr4
 refine wl_p I_ok rfl (zq3 (zq1 (zj0 (f_ret [_, _] ⟨⟨b4, 0, rfl, ld_all I_ok rfl rfl hb4.seg (by rw [zq7 (h.kIn x 3)]; rfl)⟩, rfl, trivial⟩ ?_))))
 exact ⟨rfl, hX⟩
theorem bl_at : ∀ (i : Nat) (a b : List UInt8) (ha : i < a.length) (hb : i < b.length), (∀ k (h1 : k < a.length) (h2 : k < b.length), k < i → a[k] = b[k]) → a[i] ≠ b[i] → Op.bytesLess a b = decide (a[i] < b[i])
 | 0, x :: a, y :: b, _, _, _, hne => by
  have hne : x ≠ y := hne
  show (decide (x < y) || (x == y && Op.bytesLess a b)) = decide (x < y)
  rw [show (x == y) = false from by simpa using hne]
  simp
 | i + 1, x :: a, y :: b, ha, hb, hk, hne => by
  have h0 : x = y := hk 0 (by simp) (by simp) (by omega)
  subst h0
  have ha' : i < a.length := by simpa using ha
  have hb' : i < b.length := by simpa using hb
  show (decide (x < x) || (x == x && Op.bytesLess a b)) = decide (a[i] < b[i])
  rw [bl_at i a b (by simpa using ha) (by simpa using hb) (fun k h1 h2 hlt => by have := hk (k + 1) (by simpa using h1) (by simpa using h2) (by omega); simpa using this) (by simpa using hne)]
  simp
theorem byte_ne {a b : UInt8} : (¬ ((a.toNat : Int) = (b.toNat : Int))) ↔ a ≠ b := by
 rw [Int.ofNat_inj, UInt8.toNat_inj]
theorem byte_lt {a b : UInt8} : ((a.toNat : Int) < (b.toNat : Int)) ↔ a < b := by
 rw [Int.ofNat_lt]; exact UInt8.lt_iff_toNat_lt.symm
theorem has8_calls (w : World) {p : Option Addr} {c : Nat} {l : List IdB} {x : IdB} (h : Sl w p l.length 32 (l.flatMap zq6)) (hl : l.length < 1000000000) (h1 : ∀ r ∈ l, IdIn r) (hx : IdIn x) :
  zz1 Tryz.prog 52 [.slice p l.length c, .agg (zq6 x).toArray] w fun v w' => v = .bool (decide (x ∈ l)) ∧ Ext No w w' := by
 refine zq9 Tryz.func52 rfl rfl rfl rfl ?_
 have hX := Ext.refl No w
 refine zq5 (zq0 (wl (zz9 I_ok rfl fun b3 w1 hn3 hb3 hE1 => ?_)))
 have hX := hX.zq4 hE1
 have hb3 : Blk w1 b3 31 (zq6 x) := hb3
 refine wl_p I_ok rfl (zq3 (zq1 (zq5 (zq5 (zq0 (wl_p I_ok rfl (zq3 (zq1 (zx4 ?_)))))))))
 refine zv3 (α := Nat) [3, 7, 8] rfl (fun z => [(9, .int .i64 (z : Int))]) (fun z u => (z ≤ l.length ∧ ∀ k (hk : k < l.length), k < z → ¬ l[k] = x) ∧ Blk u b3 31 (zq6 x) ∧ Ext No w u) (fun z u => l.length - z) (0) rfl ⟨⟨Nat.zero_le _, fun k _ h => absurd h (Nat.not_lt_zero _)⟩, hb3, hX⟩ ?_
 rintro i w2 ⟨⟨hi, hno⟩, hb3, hX⟩
 refine zq5 (zq0 (wl_p I_ok rfl (zq3 (zq1 (zq5 (c_if rfl (fun hc => ?_) (fun hc => ?_)))))))
 ·have hi : i < l.length := by omega
  obtain ⟨qb, qoff, hp, hsq⟩ := h.rowAll (fun r hr => (h1 r hr).len) (by omega)
  subst hp
  have ha1 := h1 _ (List.getElem_mem hi)
  refine zx7 (zq1 (zq5 (zx4 (zq5 (zq0 (wl (st_ix I_ok rfl 32 rfl i rfl (by omega) (qoff + i * 32) rfl (wl (st_ldN I_ok rfl ((hsq i hi).zq2 hX) ha1.len (wl (zz9 I_ok rfl fun b6 w3 hn6 hb6 hE3 => ?_)))))))))))
  have ne3_6 : b3 ≠ b6 := Nat.ne_of_lt (Nat.lt_of_lt_of_le hb3.lt hn6)
  have fr6 := Nat.le_trans hX.size hn6
  have hb3 := hb3.zq2 hE3
  have hX := hX.zq4 hE3
  refine wl (zj1 (l' := zq6 l[i]) I_ok hb6 rfl rfl ha1.len (by rw [zx0, ha1]; rfl) OneC.h fun w4 hb6 hE4 hs4 => ?_)
  have hb3 := hb3.ext1 hE4 ne3_6
  have hX := hX.zx1 hE4 fr6
  refine zq3 (zq1 (zq5 (zq0 (wl (zj2 I_ok hb6 rfl ha1.len (wl (zj2 I_ok hb3 rfl hx.len (wl (st_eqK rfl gId 10 (by decide) kId (idForm ha1) (idForm hx) (idKey ha1) (idKey hx) idLits_inj ?_)))))))))
  simp only [if_true]
  refine zq3 (zq1 (c_if rfl (fun hc => ?_) (fun hc => ?_)))
  ·refine zq5 ?_
   refine zq0 (wl_p I_ok rfl (zq3 (zq1 (zj0 (zz3 (zx5 (zx5 (zz3 (zx5 (zz2 rfl rfl ?_))))))))))
   exact ⟨congrArg Value.bool (by symm; rw [decide_eq_true_eq]; exact hc ▸ List.getElem_mem hi), hX⟩
  ·refine zx7 ?_
   refine zx6 (zq1 (zq0 (wl_p I_ok rfl ?_)))
   rw [IntWalk.i64_in _ (by omega)]
   refine zq3 ?_
   exact zv1 (i + 1) rfl ⟨⟨by omega, fun k hk hlt => (Nat.lt_or_eq_of_le (Nat.le_of_lt_succ hlt)).elim (fun h => hno k hk h) fun h => by subst h; exact hc⟩, hb3, hX⟩ (by first | omega | (dsimp only; omega))
 ·have hall : ¬ x ∈ l := fun hr => by
   obtain ⟨k, hk, e⟩ := List.mem_iff_getElem.1 hr
   exact hno k hk (by omega) e
  refine c_exit (zx3 (zx3 (zz0 (zq1 (zq5 (zq0 (wl_p I_ok rfl (zq3 (zq1 (zj0 (zz2 rfl rfl ?_)))))))))))
  exact ⟨congrArg Value.bool (by symm; rw [decide_eq_false_iff_not]; exact hall), hX⟩
theorem there8_calls (w : World) {p : Option Addr} {c : Nat} {l : List zz4} {x : IdB} (h : HpIn w p l) (hx : IdIn x) :
  zz1 Tryz.prog 103 [.agg #[.slice p l.length c], .agg (zq6 x).toArray] w fun v w' => v = .bool (decide (x ∈ l.map zz4.id)) ∧ Ext No w w' := by
 have hlen := h.len
 refine zq9 Tryz.func103 rfl rfl rfl rfl ?_
 have hX := Ext.refl No w
 refine zq5 (zq0 (wl (zz9 I_ok rfl fun b2 w1 hn2 hb2 hE1 => ?_)))
 have hX := hX.zq4 hE1
 have hb2 : Blk w1 b2 29 ([.slice p l.length c]) := hb2
 refine wl (zz9 I_ok rfl fun b3 w2 hn3 hb3 hE2 => ?_)
 have hb2 := hb2.zq2 hE2
 have hX := hX.zq4 hE2
 have hb3 : Blk w2 b3 31 (zq6 x) := hb3
 refine wl_p I_ok rfl (zq3 (zq1 (zq5 (zq5 (zq0 (wl_p I_ok rfl (wl (st_ldb I_ok hb2 rfl rfl (wl_p I_ok rfl (zq3 (zq1 (zx4 ?_))))))))))))
 refine zv3 (α := Nat) [3, 8, 9] rfl (fun z => [(10, .int .i64 (z : Int))]) (fun z u => (z ≤ l.length ∧ ∀ k (hk : k < l.length), k < z → ¬ l[k].id = x) ∧ Blk u b2 29 ([.slice p l.length c]) ∧ Blk u b3 31 (zq6 x) ∧ Ext No w u) (fun z u => l.length - z) (0) rfl ⟨⟨Nat.zero_le _, fun k _ h => absurd h (Nat.not_lt_zero _)⟩, hb2, hb3, hX⟩ ?_
 rintro i w3 ⟨⟨hi, hno⟩, hb2, hb3, hX⟩
 refine zq5 (zq0 (wl_p I_ok rfl (zq3 (zq1 (zq5 (c_if rfl (fun hc => ?_) (fun hc => ?_)))))))
 ·have hi : i < l.length := by omega
  obtain ⟨qb, qoff, hp, hsq⟩ := h.sl.rowAll h.c (by omega)
  rw [hp] at hb2 ⊢
  have hni := h.ins _ (List.getElem_mem hi)
  refine zx7 (zq1 (zq5 (zx4 (zq5 (zq0 (wl (st_ix I_ok rfl 105 rfl i rfl (by omega) (qoff + i * 105) rfl (wl (st_ldN I_ok rfl ((hsq i hi).zq2 hX) hni.c (wl (zz9 I_ok rfl fun b6 w4 hn6 hb6 hE4 => ?_)))))))))))
  have ne2_6 : b2 ≠ b6 := Nat.ne_of_lt (Nat.lt_of_lt_of_le hb2.lt hn6)
  have ne3_6 : b3 ≠ b6 := Nat.ne_of_lt (Nat.lt_of_lt_of_le hb3.lt hn6)
  have fr6 := Nat.le_trans hX.size hn6
  have hb2 := hb2.zq2 hE4
  have hb3 := hb3.zq2 hE4
  have hX := hX.zq4 hE4
  refine wl (zj1 (l' := heldC l[i]) I_ok hb6 rfl rfl hni.c (by rw [hni.c]; rfl) OneC.h fun w5 hb6 hE5 hs5 => ?_)
  have hb2 := hb2.ext1 hE5 ne2_6
  have hb3 := hb3.ext1 hE5 ne3_6
  have hX := hX.zx1 hE5 fr6
  refine zq3 (zq1 (zq5 (zq0 (wl_p I_ok rfl (wl (st_ldN I_ok rfl (held_id hb6.seg) (IdIn.len hni.id) (wl (zj2 I_ok hb3 rfl hx.len ?_))))))))
  refine wl (st_eqK rfl gId 10 (by decide) kId (idForm hni.id) (idForm hx) (idKey hni.id) (idKey hx) idLits_inj ?_)
  simp only [if_true]
  refine zq3 (zq1 (c_if rfl (fun hc => ?_) (fun hc => ?_)))
  ·refine zq5 ?_
   refine zq0 (wl_p I_ok rfl (zq3 (zq1 (zj0 (zz3 (zx5 (zx5 (zz3 (zx5 (zz2 rfl rfl ?_))))))))))
   exact ⟨congrArg Value.bool (by symm; rw [decide_eq_true_eq]; exact List.mem_map.2 ⟨_, List.getElem_mem hi, hc⟩), hX⟩
  ·refine zx7 ?_
   refine zx6 (zq1 (zq0 (wl_p I_ok rfl ?_)))
   rw [IntWalk.i64_in _ (by omega)]
   refine zq3 ?_
   exact zv1 (i + 1) rfl ⟨⟨by omega, fun k hk hlt => (Nat.lt_or_eq_of_le (Nat.le_of_lt_succ hlt)).elim (fun h => hno k hk h) fun h => by subst h; exact hc⟩, hb2, hb3, hX⟩ (by first | omega | (dsimp only; omega))
 ·have hall : ¬ x ∈ l.map zz4.id := fun hr => by
   obtain ⟨y, hy, e⟩ := List.mem_map.1 hr
   obtain ⟨k, hk, rfl⟩ := List.mem_iff_getElem.1 hy
   exact hno k hk (by omega) e
  refine c_exit (zx3 (zx3 (zz0 (zq1 (zq5 (zq0 (wl_p I_ok rfl (zq3 (zq1 (zj0 (zz2 rfl rfl ?_)))))))))))
  exact ⟨congrArg Value.bool (by symm; rw [decide_eq_false_iff_not]; exact hall), hX⟩
theorem linksOf_in {o : ObjD} (h : ObjIn o) : ∀ z ∈ zj3 o, IdIn z := fun z hz => by
 unfold zj3 at hz
 split at hz
 ·obtain ⟨y, hy, rfl⟩ := List.mem_map.1 hz; exact (h.leaves y hy).2
 ·split at hz
  ·rcases List.mem_cons.1 hz with rfl | hz
   ·exact h.tree
   ·exact h.parents z hz
  ·cases hz
theorem HpIn.leadsIn {w : World} {p : Option Addr} {l : List zz4} (h : HpIn w p l) {x : IdB} (hx : IdIn x) : ∀ y, (toHp l).Leads x y → IdIn y := fun y hy => by
 cases hy with
 | here => exact hx
 | on _ hz => exact linksOf_in (h.objIn _) _ hz
theorem HpIn.allLen {w : World} {p : Option Addr} {l : List zz4} (h : HpIn w p l) (x : IdB) : ((toHp l).all x).length < 10000001 := by
 have e : (toHp l).flatMap (fun e => zj3 e.2) = l.flatMap fun e => zj3 e.o := by rw [toHp, List.flatMap_map]
 have := h.lk
 rw [Hp.all, e, List.length_cons]
 omega
theorem links_len (h : Hp) (y : IdB) : ∀ x, (h.links y).length ≤ (h.all x).length := fun x => by
 unfold Hp.links
 rcases h.obj_mem y with e | ⟨e, he, e'⟩
 ·rw [e]; exact Nat.zero_le _
 ·rw [e', Hp.all, List.length_cons]
  obtain ⟨a, b, hab⟩ := List.append_of_mem he
  rw [hab, List.flatMap_append, List.flatMap_cons]
  simp only [List.length_append]
  omega
theorem rowZ_c : cellsOf ti99.zero = RowD.cells ⟨[], []⟩ := by kernel_rfl
theorem room_ml {n : Nat} (h : n ≤ 1000000000) : n + 1 ≤ maxLen := by dsimp only [maxLen]; omega
theorem room_by {n : Nat} (h : n ≤ 1000000000) : (n + 1) * 32 ≤ 140737488355328 := by omega
def row8 (l : List zz4) (y : zj8) : RowD := ⟨y.path, ((toHp l).kObj y.id 1).text⟩
theorem rowsOf_take {l : List zz4} {L : List zj8} {i : Nat} (hi : i < L.length) : (toHp l).rowsOf (L.take (i + 1)) = (toHp l).rowsOf (L.take i) ++ [row8 l L[i]] := by
 rw [List.take_succ_eq_append_getElem hi, Hp.rowsOf, List.map_append]; rfl
theorem rowsOf_len (h : Hp) (L : List zj8) : (h.rowsOf L).length = L.length := List.length_map _
theorem Hp.map_no {h : Hp} {x : IdB} {e : Int} (he : h.mapE x = e) (hn : e ≠ 0) : h.map x = [] := if_pos (by rw [he]; exact hn)
theorem Hp.map_ok {h : Hp} {x : IdB} (he : h.mapE x = 0) : h.map x = h.rowsOf (h.kObj x 2).leaves := if_neg (by rw [he]; exact fun k => k rfl)
theorem top_take {h : Hp} {L : List IdB} {i : Nat} (hi : i < L.length) : h.top (L.take (i + 1)) = max (h.top (L.take i)) ((h.kObj L[i] 3).number + 1) := by
 rw [List.take_succ_eq_append_getElem hi, Hp.top, List.foldl_append]; rfl
theorem max_u32 {t n m : Nat} (h : n < m) (hm : m < 2 ^ 32) : (if (t : Int) < IntKind.u32.wrap ((n : Int) + 1) then IntKind.u32.wrap ((n : Int) + 1) else (t : Int)) = ((max t (n + 1) : Nat) : Int) := by
 rw [IntWalk.u32_in _ (by omega)]
 split <;> omega
theorem top_le {h : Hp} {m : Nat} {L : List IdB} (hL : ∀ p ∈ L, (h.kObj p 3).number < m) : h.top L ≤ m := by
 have : ∀ (L : List IdB) (t : Nat), t ≤ m → (∀ p ∈ L, (h.kObj p 3).number < m) → L.foldl (fun t p => max t ((h.kObj p 3).number + 1)) t ≤ m := by
  intro L
  induction L with
  | nil => intro t ht _; exact ht
  | cons a L ih =>
   intro t ht hL
   have := hL a List.mem_cons_self
   exact ih _ (by show max t _ ≤ m; omega) fun p hp => hL p (List.mem_cons_of_mem _ hp)
 exact this _ 0 (Nat.zero_le _) hL
theorem par_no {h : Hp} {o : ObjD} {i : Nat} (hi : i < o.parents.length) (hc : ¬ (h.kErr o.parents[i] 3 = 0 ∧ (h.kObj o.parents[i] 3).number < o.number)) : ¬ h.ParOk o := fun k => hc (k.1 _ (List.getElem_mem hi))
theorem closed1 {h : Hp} {x : IdB} (he : h.kErr x 3 ≠ 0) : h.closed x = h.kErr x 3 := if_pos he
theorem closed2 {h : Hp} {x : IdB} (he : h.kErr x 3 = 0) (hg : ∀ y ∈ h.led x, h.Good y) : h.closed x = 0 := (if_neg fun k => k he).trans (if_pos hg)
theorem closed3 {h : Hp} {x y : IdB} (he : h.kErr x 3 = 0) (hy : y ∈ h.led x) (hg : ¬ h.Good y) : h.closed x = 180 := (if_neg fun k => k he).trans (if_neg fun k => hg (k y hy))
theorem HpIn.ledIn {w : World} {p : Option Addr} {l : List zz4} (h : HpIn w p l) {x : IdB} (hx : IdIn x) : ∀ y ∈ (toHp l).led x, IdIn y := fun y hy => h.leadsIn hx y (((toHp l).led_mem x y).1 hy)
theorem HpIn.ledLen {w : World} {p : Option Addr} {l : List zz4} (h : HpIn w p l) (x : IdB) : ((toHp l).led x).length < 10000001 := Nat.lt_of_le_of_lt (sub_len (rise_nodup ((toHp l).led_rise x)) fun y hy => (((toHp l).led_mem x y).1 hy).all) (h.allLen x)
theorem flat_drop32 : ∀ (k : Nat) (L : List IdB), (∀ x ∈ L, IdIn x) → (L.flatMap zq6).drop (k * 32) = (L.drop k).flatMap zq6
 | 0, L, _ => by simp
 | k + 1, [], _ => by simp
 | k + 1, b :: L, h => by
  have hb : (zq6 b).length = 32 := by rw [zx0]; exact h b (by simp)
  rw [List.flatMap_cons, List.drop_succ_cons, ← flat_drop32 k L fun x hx => h x (by simp [hx]), List.drop_append, hb, List.drop_eq_nil_of_le (by omega), List.nil_append, show (k + 1) * 32 - 32 = k * 32 from by omega]
theorem flat_take32 : ∀ (k : Nat) (L : List IdB), (∀ x ∈ L, IdIn x) → (L.flatMap zq6).take (k * 32) = (L.take k).flatMap zq6
 | 0, L, _ => by simp
 | k + 1, [], _ => by simp
 | k + 1, b :: L, h => by
  have hb : (zq6 b).length = 32 := by rw [zx0]; exact h b (by simp)
  rw [List.flatMap_cons, List.take_succ_cons, List.flatMap_cons, ← flat_take32 k L fun x hx => h x (by simp [hx]), List.take_append, hb, List.take_of_length_le (by omega), show (k + 1) * 32 - 32 = k * 32 from by omega]
end Go.Proofs.YtpcdihkcenfgkaaGreatDoor
namespace Go.Vc
section
variable {F : Fence} {n : Nat} {P : Program} {f : Fs} {Q : XPost} {env : Env} {w : World}
theorem ci_seq {x y : Code} (h : WCI F n P f x (Exit.then (y.wpIn F n P Q) Q) env w) : WCI F n P f (.seq x y) Q env w := fun a ha => wpIn_seq (h a ha)
theorem ci_skip (h : Fin f Q .normal env w) : WCI F n P f .skip Q env w := fun a ha => wpIn_skip (h a ha)
theorem ci_exit {id : Nat} (h : Fin f Q (.exit id) env w) : WCI F n P f (.exit id) Q env w := fun a ha => wpIn_exit (h a ha)
theorem ci_cond {c : Operand} {x y : Code} {b : Bool} (hc : evO env c = some (.bool b)) (ht : b = true → WCI F n P f x Q env w) (hf : b = false → WCI F n P f y Q env w) : WCI F n P f (.cond c x y) Q env w :=
 fun a ha => wpIn_cond_split (ha.eval hc) (fun h => ht h a ha) (fun h => hf h a ha)
theorem ci_if {c : Operand} {x y : Code} {p : Prop} [Decidable p] (hc : evO env c = some (.bool (decide p))) (ht : p → WCI F n P f x Q env w) (hf : ¬ p → WCI F n P f y Q env w) : WCI F n P f (.cond c x y) Q env w :=
 ci_cond hc (fun h => ht (of_decide_eq_true h)) (fun h => hf (of_decide_eq_false h))
theorem fi_then {y : Code} (h : WCI F n P f y Q env w) : Fin f (Exit.then (y.wpIn F n P Q) Q) .normal env w := fun a ha => h a ha
end
/-! ### Regions whose order is open, within a fence -/
section
variable {F : Fence} {n : Nat} {P : Program}
variable {f : Fs} {env : Env} {w : World}
/-! A part of the region ahead of a yield's call -/
variable {ops : Array Oper} {Q : XPost}
end
/-! ### Iterators -/
structure Cons (P : Program) (l n0 N : Nat) (args : Nat → Array Value) (J Jx : Nat → (Nat → Prop) → World → Prop) : Prop where
  st : ∀ {k : Nat} {F S : Nat → Prop} {w w' : World}, J k F w → Ext S w w' → (∀ x, S x → n0 ≤ x ∧ ¬ F x) → J k F w'
  stx : ∀ {k : Nat} {F S : Nat → Prop} {w w' : World}, Jx k F w → Ext S w w' → (∀ x, S x → n0 ≤ x ∧ ¬ F x) → Jx k F w'
  lt : ∀ {k : Nat} {F : Nat → Prop} {w : World}, J k F w → ∀ x, F x → x < w.heap.size
  ltx : ∀ {k : Nat} {F : Nat → Prop} {w : World}, Jx k F w → ∀ x, F x → x < w.heap.size
  round : ∀ {k : Nat} {F : Nat → Prop} {w : World}, J k F w → k < N → YieldAt Fence.wide 8 P l (args k) w fun e w' => ∃ b, e = .returned (.bool b) ∧ ∃ F' : Nat → Prop, Ext F w w' ∧ (∀ x, F' x → F x ∨ w.heap.size ≤ x) ∧ (b = true → J (k + 1) F' w') ∧ (b = false → Jx k F' w')
def Iter (P : Program) (gf : Nat) (cap : List Value) (N : Nat) (args : Nat → Array Value) (own : Nat → Prop) (w : World) : Prop :=
  ∀ (l : Nat) (J Jx : Nat → (Nat → Prop) → World → Prop) (F : Nat → Prop), Cons P l w.heap.size N args J Jx → J 0 F w → (∀ x, own x → ¬ F x) →
    zz1 P gf (.func (.yield l) #[] #[] :: cap) w fun _ w' => ∃ F' : Nat → Prop, Ext F w w' ∧ (∀ x, F' x → F x ∨ w.heap.size ≤ x) ∧ (J N F' w' ∨ ∃ k, k < N ∧ Jx k F' w')
structure CoS (α : Type) (w : World) where
  Fp : α → Nat → Prop
  J : Nat → α → World → Prop
  Jx : Nat → Code → α → World → Prop
  st : ∀ {k : Nat} {z : α} {S : Nat → Prop} {u u' : World}, J k z u → Ext S u u' → (∀ x, S x → w.heap.size ≤ x ∧ ¬ Fp z x) → J k z u'
  stx : ∀ {k : Nat} {c : Code} {z : α} {S : Nat → Prop} {u u' : World}, Jx k c z u → Ext S u u' → (∀ x, S x → w.heap.size ≤ x ∧ ¬ Fp z x) → Jx k c z u'
  lt : ∀ {k : Nat} {z : α} {u : World}, J k z u → ∀ x, Fp z x → x < u.heap.size
  ltx : ∀ {k : Nat} {c : Code} {z : α} {u : World}, Jx k c z u → ∀ x, Fp z x → x < u.heap.size
abbrev mark0 : Obj := .deferred (some [])
abbrev busy (r : Loop) : Loop := { r with state := .busy }
section
variable {α : Type} {w : World} {P : Program}
def CJ (C : CoS α w) (z0 : α) (l D : Nat) (r : Loop) (k : Nat) (F : Nat → Prop) (u : World) : Prop :=
  ∃ z, F = (fun x => C.Fp z x ∨ x = l ∨ x = D) ∧ C.J k z u ∧ (∀ x, C.Fp z x → x ≠ l ∧ x ≠ D) ∧ u.heap[l]? = some (.loop r) ∧ u.heap[D]? = some mark0 ∧ Ext (C.Fp z0) w u ∧ (∀ x, C.Fp z x → C.Fp z0 x ∨ w.heap.size ≤ x)
def CJx (C : CoS α w) (z0 : α) (l D : Nat) (r : Loop) (k : Nat) (F : Nat → Prop) (u : World) : Prop :=
  ∃ c z, F = (fun x => C.Fp z x ∨ x = l ∨ x = D) ∧ C.Jx k c z u ∧ (∀ x, C.Fp z x → x ≠ l ∧ x ≠ D) ∧ u.heap[l]? = some (.loop { r with state := .done, pending := some c }) ∧ u.heap[D]? = some mark0 ∧ Ext (C.Fp z0) w u ∧ (∀ x, C.Fp z x → C.Fp z0 x ∨ w.heap.size ≤ x)
structure RdC (C : CoS α w) (z0 : α) (l D : Nat) (r : Loop) (z : α) (W : World) : Prop where
  rd : r.state = .ready
  pe : r.pending = none
  ne : l ≠ D
  lo : w.heap.size ≤ l ∧ w.heap.size ≤ D
  fp : ∀ x, C.Fp z x → x ≠ l ∧ x ≠ D
  l : W.heap[l]? = some (.loop r)
  D : W.heap[D]? = some mark0
  X : Ext (C.Fp z0) w W
  sub : ∀ x, C.Fp z x → C.Fp z0 x ∨ w.heap.size ≤ x
def RdQ (C : CoS α w) (z0 : α) (l D : Nat) (r : Loop) (k : Nat) (z : α) (W : World) : Ending → World → Prop := fun e w' =>
  ∃ b, e = .returned (.bool b) ∧ ∃ F' : Nat → Prop, Ext (fun x => C.Fp z x ∨ x = l ∨ x = D) W w' ∧ (∀ x, F' x → (C.Fp z x ∨ x = l ∨ x = D) ∨ W.heap.size ≤ x) ∧ (b = true → CJ C z0 l D r (k + 1) F' w') ∧ (b = false → CJx C z0 l D r k F' w')
theorem heap_lt {W : World} {x : Nat} {o : Obj} (h : W.heap[x]? = some o) : x < W.heap.size := (Array.getElem?_eq_some_iff.1 h).1
variable {C : CoS α w} {z0 : α} {l D : Nat} {r : Loop} {k : Nat} {z : α} {W : World} {f : Fs} {env : Env} {u : World}
theorem RdC.ends (h : RdC C z0 l D r z W) (hE : Ext (fun x => C.Fp z x ∨ x = l) W u) {z' : α} (hF : ∀ x, C.Fp z' x → C.Fp z x ∨ W.heap.size ≤ x) :
  u.heap[D]? = some mark0 ∧ (∀ x, C.Fp z' x → x ≠ l ∧ x ≠ D) ∧ Ext (C.Fp z0) w u ∧ (∀ x, C.Fp z' x → C.Fp z0 x ∨ w.heap.size ≤ x) := by
 refine ⟨(hE.same _ (heap_lt h.D) fun e => e.elim (fun e => (h.fp _ e).2 rfl) fun e => h.ne e.symm).trans h.D, fun x hx => ?_, h.X.trans hE fun x hx e => ?_, fun x hx => ?_⟩
 ·rcases hF x hx with hx | hx
  ·exact h.fp x hx
  ·exact ⟨fun e => by have := heap_lt h.l; omega, fun e => by have := heap_lt h.D; omega⟩
 ·rcases e with e | e
  ·exact (h.sub x e).resolve_right (by omega)
  ·have := h.lo.1; omega
 ·rcases hF x hx with hx | hx
  ·exact h.sub x hx
  ·exact .inr (Nat.le_trans h.X.size hx)
theorem fin_next (z' : α) (h : RdC C z0 l D r z W) (hl : u.heap[l]? = some (.loop (busy r))) (hE : Ext (fun x => C.Fp z x ∨ x = l) W u) (hF : ∀ x, C.Fp z' x → C.Fp z x ∨ W.heap.size ≤ x) (hJ : C.J (k + 1) z' u) :
  Fin f (roundPost P l (RdQ C z0 l D r k z W)) .normal env u := by
 intro a _
 obtain ⟨h1, h2, h3, h4⟩ := h.ends hE hF
 have hE2 : Ext (One l) u (u.putObj l (.loop { busy r with state := if (none : Option Code).isNone then .ready else .done, pending := none })) := Ext.putObj hl rfl rfl
 refine ⟨_, _, run_endRound none hl, true, rfl, fun x => C.Fp z' x ∨ x = l ∨ x = D, ?_, fun x hx => ?_, fun _ => ?_, fun e => by cases e⟩
 ·exact (hE.mono fun x _ e => e.imp id .inl).then (hE2.mono fun x _ e => .inr (.inl e))
 ·rcases hx with hx | hx
  ·exact (hF x hx).imp .inl id
  ·exact .inl (.inr hx)
 ·refine ⟨z', rfl, C.st hJ hE2 fun x e => ?_, h2, ?_, ?_, h3.trans hE2 fun x hx e => ?_, h4⟩
  ·have e : x = l := e
   subst e
   exact ⟨h.lo.1, fun e => (h2 _ e).1 rfl⟩
  ·rw [World.putObj_heap_same (heap_lt hl)]
   have e1 := h.rd
   have e2 := h.pe
   cases r
   cases e1
   cases e2
   rfl
  ·exact (World.putObj_heap_other h.ne.symm).trans h1
  ·have e : x = l := e
   have := h.lo.1
   omega
theorem fin_begin {R : Ending → World → Prop} {body : Code} (h : RdC C z0 l D r z W) (hl : u.heap[l]? = some (.loop r)) (hb : ∀ u', Ext (One l) u u' → u'.heap[l]? = some (.loop (busy r)) → WCI (Fence.wide.inRound l) 8 P f body (roundPost P l R) env u') :
  Fin f (Exit.then (fun a1 w1 => ∃ w2, (Instr.beginRound l).run P w1 = .ok () w2 ∧ body.wpIn (Fence.wide.inRound l) 8 P (roundPost P l R) a1 w2) (fun _ _ _ => False)) .normal env u := fun a ha =>
 begin_round hl h.rd fun w' hE hl' => hb w' hE hl' a ha
def penv : List Tmp → List Value → Env → Env
  | t :: ts, v :: vs, e => penv ts vs ((t, v) :: e)
  | _, _, e => e
theorem ag_fold : ∀ (ts : List Tmp) (vs : List Value) (env : Env) (tmps : Array Value), ts.all (fun t => Nat.blt t f.n) = true → tmps.size = f.n → (∀ i v, lk env i = some v → tmps[i]? = some v) →
  ((ts.zip vs).foldl (fun tmps (x : Tmp × Value) => tmps.setIfInBounds x.1 x.2) tmps).size = f.n ∧ ∀ i v, lk (penv ts vs env) i = some v → ((ts.zip vs).foldl (fun tmps (x : Tmp × Value) => tmps.setIfInBounds x.1 x.2) tmps)[i]? = some v
 | [], vs, env, tmps, _, hs, h => ⟨hs, by cases vs <;> exact h⟩
 | t :: ts, [], env, tmps, _, hs, h => ⟨hs, h⟩
 | t :: ts, v :: vs, env, tmps, ht, hs, h => by
  simp only [List.all_cons, Bool.and_eq_true] at ht
  have htn : t < f.n := Nat.le_of_ble_eq_true ht.1
  refine ag_fold ts vs ((t, v) :: env) (tmps.setIfInBounds t v) ht.2 (by simpa using hs) fun i u hi => ?_
  rw [lk_cons] at hi
  split at hi
  ·rename_i e
   subst e
   cases hi
   simp [hs, htn]
  ·rename_i e
   rw [Array.getElem?_setIfInBounds_ne e]
   exact h i u hi
theorem c_rangeX {Q : XPost} {g : Operand} {ps : Array Tmp} {assign body : Code} {gf : Nat} {cap : Array Value}
  (hg : evO env g = some (.func (.func gf) #[] cap)) (hcf : ∀ args w, (callFunc gf args).run P w = .ok (.enter gf args) w)
  (H : ∀ (fn : FuncId) (a : Act), Ag f env a → ∀ rec : Loop, rec = { state := .ready, pending := none, fn, tmps := a.tmps, params := ps, assign, body, defers := w.heap.size } →
   ∀ w1, Ext No w w1 → w1.heap[w.heap.size + 1]? = some (.loop rec) → w1.heap[w.heap.size]? = some mark0 → w1.heap.size = w.heap.size + 2 →
   zz1 P gf (.func (.yield (w.heap.size + 1)) #[] #[] :: cap.toList) w1 fun _ w2 => ∃ r2, w2.heap[w.heap.size + 1]? = some (.loop r2) ∧ r2.state ≠ .busy ∧ w2.heap[w.heap.size]? = some mark0 ∧
    ∀ w3, Ext (One (w.heap.size + 1)) w2 w3 → w3.heap[w.heap.size]? = some mark0 → (r2.pending = none → Fin ⟨f.n, { target := .collected w.heap.size, args := #[] } :: f.ds⟩ Q .normal env w3) ∧
     ∀ c, r2.pending = some c → WC P ⟨f.n, { target := .collected w.heap.size, args := #[] } :: f.ds⟩ c Q env w3) :
  WC P f (.rangeFunc g ps assign body) Q env w := by
 intro a ha
 refine (wpIn_wide (n := 9)).1 (wpIn_rangeFunc fun fn _ => ?_)
 obtain ⟨rec, hrec⟩ : ∃ rec : Loop, rec = { state := .ready, pending := none, fn, tmps := a.tmps, params := ps, assign, body, defers := w.heap.size } := ⟨_, rfl⟩
 have e0 : Ext No w (w.alloc (.deferred (some []))) := Ext.allocObj w rfl
 have e1 : Ext No (w.alloc (.deferred (some []))) ((w.alloc (.deferred (some []))).alloc (.loop rec)) := Ext.allocObj _ rfl
 have hL : ((w.alloc (.deferred (some []))).alloc (.loop rec)).heap[w.heap.size + 1]? = some (.loop rec) := by
  have := World.alloc_heap_new (w.alloc (.deferred (some []))) (.loop rec); rwa [World.size_alloc] at this
 have hD : ((w.alloc (.deferred (some []))).alloc (.loop rec)).heap[w.heap.size]? = some (.deferred (some [])) :=
  (e1.same _ (by simp) id).trans (World.alloc_heap_new w _)
 refine ⟨w.heap.size + 1, [{ target := .collected w.heap.size, args := #[] }], (w.alloc (.deferred (some []))).alloc (.loop rec), { target := .fn (.func gf) cap, args := #[.func (.yield (w.heap.size + 1)) #[] #[]] }, (w.alloc (.deferred (some []))).alloc (.loop rec), gf,
  #[.func (.yield (w.heap.size + 1)) #[] #[]] ++ cap, (w.alloc (.deferred (some []))).alloc (.loop rec), ?_, ?_, fun _ _ => trivial, ?_, fun h => (by cases h), ?_⟩
 ·rw [hrec]; exact run_enterLoop_outer _ _ _ _ _
 ·have hev := ha.eval hg
  simp only [resolve, hev]
  simp [Deferred.ofValue, Act.eval]
 ·simp [invoke, hcf]
 ·have hc := H fn a ha rec hrec _ (e0.zq4 e1) hL hD (by simp)
  have e2 : (#[.func (.yield (w.heap.size + 1)) #[] #[]] ++ cap : Array Value) = (.func (.yield (w.heap.size + 1)) #[] #[] :: cap.toList).toArray := by
   apply Array.ext'; simp
  rw [e2]
  refine (WideF.none.calls hc).mono ?_
  rintro e w2 he
  cases e with
  | returned v =>
   obtain ⟨r2, hl2, hb2, hd2, hk⟩ := he
   have hend := run_endLoop (P := P) hl2 hb2
   have hd3 : (w2.putObj (w.heap.size + 1) (.loop { r2 with state := .exhausted })).heap[w.heap.size]? = some mark0 := (World.putObj_heap_other (by omega)).trans hd2
   have hE3 : Ext (One (w.heap.size + 1)) w2 (w2.putObj (w.heap.size + 1) (.loop { r2 with state := .exhausted })) := Ext.putObj hl2 rfl rfl
   generalize w2.putObj (w.heap.size + 1) (.loop { r2 with state := .exhausted }) = w3 at hend hd3 hE3
   obtain ⟨hk1, hk2⟩ := hk _ hE3 hd3
   have hag : Ag ⟨f.n, { target := .collected w.heap.size, args := #[] } :: f.ds⟩ env { a with defers := [{ target := .collected w.heap.size, args := #[] }] ++ a.defers } := ⟨by simp [ha.defers], ha.size, ha.get⟩
   refine ⟨_, _, hend, ?_⟩
   split
   ·rename_i hp; exact hk1 hp _ hag
   ·rename_i c hp; exact wpIn_wide.2 (hk2 c hp _ hag)
  | panicked ch => exact he.elim
  | outgrown => exact he.elim
theorem c_iter (C : CoS α w) (z0 : α) {Q : XPost} {g : Operand} {ps : Array Tmp} {assign body : Code} {gf : Nat} {cap : Array Value} {N : Nat} {args : Nat → Array Value} {own : Nat → Prop}
  (hg : evO env g = some (.func (.func gf) #[] cap)) (hcf : ∀ args w, (callFunc gf args).run P w = .ok (.enter gf args) w)
  (hps : ps.toList.all (fun t => Nat.blt t f.n) = true) (hpn : ∀ k, (args k).size = ps.size)
  (hit : ∀ w1, Ext No w w1 → Iter P gf cap.toList N args own w1) (hown : ∀ x, own x → x < w.heap.size ∧ ¬ C.Fp z0 x) (h0 : C.J 0 z0 w)
  (hround : ∀ (l D : Nat) (r : Loop) (k : Nat) (z : α) (W : World), RdC C z0 l D r z W → C.J k z W → k < N →
   WCI (Fence.wide.inRound l) 8 P ⟨f.n, []⟩ assign (Exit.then (fun a1 w1 => ∃ w2, (Instr.beginRound l).run P w1 = .ok () w2 ∧ body.wpIn (Fence.wide.inRound l) 8 P (roundPost P l (RdQ C z0 l D r k z W)) a1 w2) (fun _ _ _ => False)) (penv ps.toList (args k).toList env) W)
  (hdone : ∀ (D : Nat) (z : α) (W : World), C.J N z W → Ext (C.Fp z0) w W → (∀ x, C.Fp z x → C.Fp z0 x ∨ w.heap.size ≤ x) → w.heap.size ≤ D → W.heap[D]? = some mark0 → (∀ x, C.Fp z x → x ≠ D) →
   Fin ⟨f.n, { target := .collected D, args := #[] } :: f.ds⟩ Q .normal env W)
  (hstop : ∀ (D : Nat) (k : Nat) (c : Code) (z : α) (W : World), k < N → C.Jx k c z W → Ext (C.Fp z0) w W → (∀ x, C.Fp z x → C.Fp z0 x ∨ w.heap.size ≤ x) → w.heap.size ≤ D → W.heap[D]? = some mark0 → (∀ x, C.Fp z x → x ≠ D) →
   WC P ⟨f.n, { target := .collected D, args := #[] } :: f.ds⟩ c Q env W) :
  WC P f (.rangeFunc g ps assign body) Q env w := by
 refine c_rangeX hg hcf fun fn a ha rec hrec w1 hE1 hl1 hd1 hs1 => ?_
 have hlD : w.heap.size + 1 ≠ w.heap.size := by omega
 have hst : rec.state = .ready := by rw [hrec]
 have hpe : rec.pending = none := by rw [hrec]
 have hcons : Cons P (w.heap.size + 1) w1.heap.size N args (CJ C z0 (w.heap.size + 1) w.heap.size rec) (CJx C z0 (w.heap.size + 1) w.heap.size rec) := by
  refine ⟨?_, ?_, ?_, ?_, ?_⟩
  ·rintro k F S u u' ⟨z, rfl, h1, h2, h3, h4, h5, h6⟩ hE hS
   have hS1 : ∀ x, S x → w.heap.size ≤ x ∧ ¬ C.Fp z x := fun x hx => ⟨by have := (hS x hx).1; omega, fun e => (hS x hx).2 (.inl e)⟩
   exact ⟨z, rfl, C.st h1 hE hS1, h2, (hE.same _ (heap_lt h3) fun e => (hS _ e).2 (.inr (.inl rfl))).trans h3, (hE.same _ (heap_lt h4) fun e => (hS _ e).2 (.inr (.inr rfl))).trans h4, h5.trans hE fun x hx e => by have := (hS1 x e).1; omega, h6⟩
  ·rintro k F S u u' ⟨c, z, rfl, h1, h2, h3, h4, h5, h6⟩ hE hS
   have hS1 : ∀ x, S x → w.heap.size ≤ x ∧ ¬ C.Fp z x := fun x hx => ⟨by have := (hS x hx).1; omega, fun e => (hS x hx).2 (.inl e)⟩
   exact ⟨c, z, rfl, C.stx h1 hE hS1, h2, (hE.same _ (heap_lt h3) fun e => (hS _ e).2 (.inr (.inl rfl))).trans h3, (hE.same _ (heap_lt h4) fun e => (hS _ e).2 (.inr (.inr rfl))).trans h4, h5.trans hE fun x hx e => by have := (hS1 x e).1; omega, h6⟩
  ·rintro k F u ⟨z, rfl, h1, h2, h3, h4, h5, h6⟩ x hx
   rcases hx with hx | rfl | rfl
   ·exact C.lt h1 x hx
   ·exact heap_lt h3
   ·exact heap_lt h4
  ·rintro k F u ⟨c, z, rfl, h1, h2, h3, h4, h5, h6⟩ x hx
   rcases hx with hx | rfl | rfl
   ·exact C.ltx h1 x hx
   ·exact heap_lt h3
   ·exact heap_lt h4
  ·rintro k F u ⟨z, rfl, h1, h2, h3, h4, h5, h6⟩ hk
   have hy := run_yield (P := P) (args := args k) h3 (by rw [hrec]; exact hpn k)
   refine ⟨_, _, _, _, hy, roundIn_of_wpIn trivial ?_⟩
   have hA : rec.assign = assign := by rw [hrec]
   have hB : rec.body = body := by rw [hrec]
   have hT : rec.tmps = a.tmps := by rw [hrec]
   have hP : rec.params = ps := by rw [hrec]
   rw [hA, hB, hT, hP]
   obtain ⟨g1, g2⟩ := ag_fold (f := ⟨f.n, []⟩) ps.toList (args k).toList env a.tmps hps ha.size ha.get
   refine hround (w.heap.size + 1) w.heap.size rec k z u ⟨hst, hpe, hlD, ⟨by omega, Nat.le_refl _⟩, h2, h3, h4, h5, h6⟩ h1 hk _ ⟨rfl, ?_, fun i v hi => ?_⟩
   ·rw [← Array.foldl_toList, Array.toList_zip]; exact g1
   ·show (Array.foldl _ a.tmps (ps.zip (args k)))[i]? = some v
    rw [← Array.foldl_toList, Array.toList_zip]; exact g2 i v hi
 have hj0 : CJ C z0 (w.heap.size + 1) w.heap.size rec 0 (fun x => C.Fp z0 x ∨ x = w.heap.size + 1 ∨ x = w.heap.size) w1 :=
  ⟨z0, rfl, C.st h0 hE1 fun x e => e.elim, fun x hx => ⟨fun e => by have := C.lt h0 x hx; omega, fun e => by have := C.lt h0 x hx; omega⟩, hl1, hd1, hE1.no, fun x hx => .inl hx⟩
 refine (hit w1 hE1 (w.heap.size + 1) _ _ _ hcons hj0 fun x hx => ?_).mono ?_
 ·have := hown x hx
  rintro (e | e | e)
  ·exact this.2 e
  ·omega
  ·omega
 ·rintro _ w2 ⟨F', hE2, hF', ⟨z, rfl, h1, h2, h3, h4, h5, h6⟩ | ⟨k, hk, c, z, rfl, h1, h2, h3, h4, h5, h6⟩⟩
  ·refine ⟨rec, h3, by rw [hst]; decide, h4, fun w3 hE3 hd3 => ⟨fun _ => ?_, fun c hc => by rw [hpe] at hc; cases hc⟩⟩
   have hS1 : ∀ x, One (w.heap.size + 1) x → w.heap.size ≤ x ∧ ¬ C.Fp z x := fun x hx => by
    have hx : x = w.heap.size + 1 := hx
    exact ⟨by omega, fun e => (h2 x e).1 hx⟩
   exact hdone _ z w3 (C.st h1 hE3 hS1) (h5.trans hE3 fun x hx e => by have := (hS1 x e).1; omega) h6 (Nat.le_refl _) hd3 fun x hx => (h2 x hx).2
  ·refine ⟨_, h3, (fun e => by cases e), h4, fun w3 hE3 hd3 => ⟨fun hc => (by cases hc), fun c' hc => ?_⟩⟩
   cases hc
   have hS1 : ∀ x, One (w.heap.size + 1) x → w.heap.size ≤ x ∧ ¬ C.Fp z x := fun x hx => by
    have hx : x = w.heap.size + 1 := hx
    exact ⟨by omega, fun e => (h2 x e).1 hx⟩
   exact hstop _ k c z w3 hk (C.stx h1 hE3 hS1) (h5.trans hE3 fun x hx e => by have := (hS1 x e).1; omega) h6 (Nat.le_refl _) hd3 fun x hx => (h2 x hx).2
end
/-! ### A function's end with marks, and with a deferred call -/
theorem leaves_marks {P : Program} {fn : Func} {tmps : Array Value} {R : Ending → World → Prop} : ∀ (Ds : List Nat) (w : World), Ds.Nodup → (∀ D ∈ Ds, w.heap[D]? = some mark0) →
  (∀ w', Ext (fun x => x ∈ Ds) w w' → LeavesInM Fence.wide 9 P fn tmps R [] .returning w') →
  LeavesInM Fence.wide 9 P fn tmps R (Ds.map fun D => { target := .collected D, args := #[] }) .returning w
 | [], w, _, _, k => k w (Ext.refl _ _)
 | D :: Ds, w, hn, hD, k => by
  have hd := hD D (by simp)
  have hE : Ext (One D) w (w.putObj D (.deferred none)) := Ext.putObj hd rfl rfl
  simp only [List.nodup_cons] at hn
  refine ⟨by simp, .inl ⟨D, _, rfl, run_takeDeferred hd, ?_⟩⟩
  refine leaves_marks Ds _ hn.2 (fun D' hD' => ?_) fun w' hE' => k w' ?_
  ·have hne : D' ≠ D := fun e => hn.1 (e ▸ hD')
   exact (World.putObj_heap_other hne).trans (hD D' (by simp [hD']))
  ·exact (hE.mono fun x _ e => by have e : x = D := e; subst e; simp).then (hE'.mono fun x _ e => by simp [e])
theorem f_retMs {P : Program} {n : Nat} {fn : Func} {R : Value → World → Prop} {env : Env} {w : World} (Ds : List Nat) (hn : Ds.Nodup) (hD : ∀ D ∈ Ds, w.heap[D]? = some mark0) (vs : List Value)
  (k : ∀ w', Ext (fun x => x ∈ Ds) w w' → ResAll P env w' fn.results.toList vs ∧ R (tupV vs) w') {e : Exit} (he : e = .ret ∨ e = .normal) :
  Fin ⟨n, Ds.map fun D => { target := .collected D, args := #[] }⟩ (bodyPostM Fence.wide 9 P fn (Rv R)) e env w := by
 intro a ha
 have key : LeavesInM Fence.wide 9 P fn a.tmps (Rv R) a.defers .returning w := by
  rw [ha.defers]
  refine leaves_marks Ds w hn hD fun w' hE => ?_
  obtain ⟨h1, h2⟩ := k w' hE
  have hr := run_results (a := { a with defers := [] }) (w := w') (n := n) ⟨rfl, ha.size, ha.get⟩ _ _ h1
  refine ⟨tupV vs, ?_, h2⟩
  unfold results
  rw [Array.mapM_eq_mapM_toList, Sem.run_bind, Sem.run_map]
  erw [hr]
  simp only [Result.andThen_ok, Sem.run_pure]
  congr 1
  cases vs with
  | nil => rfl
  | cons v r => cases r <;> simp [tupV]
 rcases he with rfl | rfl
 ·exact key
 ·exact key
theorem hl_ext {S : Nat → Prop} {w w' : World} {l : Nat} {o : Obj} (h : w.heap[l]? = some o) (hE : Ext S w w') (hS : ¬ S l) : w'.heap[l]? = some o := (hE.same _ (heap_lt h) hS).trans h
theorem Blk.neL {w : World} {l b T : Nat} {r : Loop} {L : List Value} (hb : Blk w b T L) (h : w.heap[l]? = some (.loop r)) : b ≠ l := fun e => by
 subst e
 unfold Blk at hb
 rw [h] at hb
 cases hb
theorem Blk.extL {w w' : World} {l b T : Nat} {r : Loop} {L : List Value} (hb : Blk w b T L) (h : w.heap[l]? = some (.loop r)) (hE : Ext (One l) w w') : Blk w' b T L := hb.ext1 hE (hb.neL h)
section
variable {P : Program} {I : Info} {f : Fs} {ops : Array Oper} {Q : XPost} {rest l : List Oper} {env : Env} {w : World} {F : Fence} {n : Nat} {k : Nat}
theorem wli_pR (hI : I.Ok P) {l' : List Oper} {env' : Env} (h : pevs I f.n l env = some (l', env')) (c : WLI (Fence.wide.inRound k) 8 P f ops Q l' env' w) (hn : nds l = true := by rfl) : WLI (Fence.wide.inRound k) 8 P f ops Q l env w := wli_p (.round k) hI hn h c
end
section
variable {P : Program} {I : Info} {f : Fs} {ops : Array Oper} {o : Oper} {env : Env} {w : World}
end
structure ConsV (P : Program) (l n0 N : Nat) (A : Nat → Array Value → (Nat → Prop) → World → Prop) (J Jx : Nat → (Nat → Prop) → World → Prop) : Prop where
  st : ∀ {k : Nat} {F S : Nat → Prop} {w w' : World}, J k F w → Ext S w w' → (∀ x, S x → n0 ≤ x ∧ ¬ F x) → J k F w'
  stx : ∀ {k : Nat} {F S : Nat → Prop} {w w' : World}, Jx k F w → Ext S w w' → (∀ x, S x → n0 ≤ x ∧ ¬ F x) → Jx k F w'
  lt : ∀ {k : Nat} {F : Nat → Prop} {w : World}, J k F w → ∀ x, F x → x < w.heap.size
  ltx : ∀ {k : Nat} {F : Nat → Prop} {w : World}, Jx k F w → ∀ x, F x → x < w.heap.size
  round : ∀ {k : Nat} {F : Nat → Prop} {w : World}, J k F w → k < N → ∀ (vs : Array Value) (X : Nat → Prop), A k vs X w → (∀ x, X x → n0 ≤ x ∧ ¬ F x) →
    YieldAt Fence.wide 8 P l vs w fun e w' => ∃ b, e = .returned (.bool b) ∧ ∃ F' : Nat → Prop, Ext (fun x => F x ∨ X x) w w' ∧ (∀ x, F' x → F x ∨ X x ∨ w.heap.size ≤ x) ∧ (b = true → J (k + 1) F' w') ∧ (b = false → Jx k F' w')
def IterV (P : Program) (gf : Nat) (cap : List Value) (N : Nat) (A : Nat → Array Value → (Nat → Prop) → World → Prop) (own : Nat → Prop) (w : World) : Prop :=
  ∀ (l : Nat) (J Jx : Nat → (Nat → Prop) → World → Prop) (F : Nat → Prop), ConsV P l w.heap.size N A J Jx → J 0 F w → (∀ x, own x → ¬ F x) →
    zz1 P gf (.func (.yield l) #[] #[] :: cap) w fun _ w' => ∃ F' : Nat → Prop, Ext F w w' ∧ (∀ x, F' x → F x ∨ w.heap.size ≤ x) ∧ (J N F' w' ∨ ∃ k, k < N ∧ Jx k F' w')
section
variable {α : Type} {w : World} {P : Program}
structure RdX (C : CoS α w) (l D : Nat) (z : α) (W : World) (X : Nat → Prop) : Prop where
  ne : ∀ x, X x → w.heap.size ≤ x ∧ x ≠ l ∧ x ≠ D ∧ ¬ C.Fp z x
def RdV (C : CoS α w) (z0 : α) (l D : Nat) (r : Loop) (k : Nat) (z : α) (W : World) (X : Nat → Prop) : Ending → World → Prop := fun e w' =>
  ∃ b, e = .returned (.bool b) ∧ ∃ F' : Nat → Prop, Ext (fun x => (C.Fp z x ∨ x = l ∨ x = D) ∨ X x) W w' ∧ (∀ x, F' x → (C.Fp z x ∨ x = l ∨ x = D) ∨ X x ∨ W.heap.size ≤ x) ∧ (b = true → CJ C z0 l D r (k + 1) F' w') ∧ (b = false → CJx C z0 l D r k F' w')
variable {C : CoS α w} {z0 : α} {l D : Nat} {r : Loop} {k : Nat} {z : α} {W : World} {f : Fs} {env : Env} {u : World} {X : Nat → Prop}
theorem RdC.endsV (h : RdC C z0 l D r z W) (hN : RdX C l D z W X) (hE : Ext (fun x => (C.Fp z x ∨ x = l) ∨ X x) W u) {z' : α} (hF : ∀ x, C.Fp z' x → C.Fp z x ∨ X x ∨ W.heap.size ≤ x) :
  u.heap[D]? = some mark0 ∧ (∀ x, C.Fp z' x → x ≠ l ∧ x ≠ D) ∧ Ext (C.Fp z0) w u ∧ (∀ x, C.Fp z' x → C.Fp z0 x ∨ w.heap.size ≤ x) := by
 refine ⟨(hE.same _ (heap_lt h.D) fun e => e.elim (fun e => e.elim (fun e => (h.fp _ e).2 rfl) fun e => h.ne e.symm) fun e => (hN.ne _ e).2.2.1 rfl).trans h.D, fun x hx => ?_, h.X.trans hE fun x hx e => ?_, fun x hx => ?_⟩
 ·rcases hF x hx with hx | hx | hx
  ·exact h.fp x hx
  ·exact ⟨(hN.ne x hx).2.1, (hN.ne x hx).2.2.1⟩
  ·exact ⟨fun e => by have := heap_lt h.l; omega, fun e => by have := heap_lt h.D; omega⟩
 ·rcases e with (e | e) | e
  ·exact (h.sub x e).resolve_right (by omega)
  ·have := h.lo.1; omega
  ·have := (hN.ne x e).1; omega
 ·rcases hF x hx with hx | hx | hx
  ·exact h.sub x hx
  ·exact .inr (hN.ne x hx).1
  ·exact .inr (Nat.le_trans h.X.size hx)
theorem fin_nextV (z' : α) (h : RdC C z0 l D r z W) (hN : RdX C l D z W X) (hl : u.heap[l]? = some (.loop (busy r))) (hE : Ext (fun x => (C.Fp z x ∨ x = l) ∨ X x) W u) (hF : ∀ x, C.Fp z' x → C.Fp z x ∨ X x ∨ W.heap.size ≤ x) (hJ : C.J (k + 1) z' u) :
  Fin f (roundPost P l (RdV C z0 l D r k z W X)) .normal env u := by
 intro a _
 obtain ⟨h1, h2, h3, h4⟩ := h.endsV hN hE hF
 have hE2 : Ext (One l) u (u.putObj l (.loop { busy r with state := if (none : Option Code).isNone then .ready else .done, pending := none })) := Ext.putObj hl rfl rfl
 refine ⟨_, _, run_endRound none hl, true, rfl, fun x => C.Fp z' x ∨ x = l ∨ x = D, ?_, fun x hx => ?_, fun _ => ?_, fun e => by cases e⟩
 ·exact (hE.mono fun x _ e => e.imp (fun e => e.imp id .inl) id).then (hE2.mono fun x _ e => .inl (.inr (.inl e)))
 ·rcases hx with hx | hx
  ·exact (hF x hx).imp .inl id
  ·exact .inl (.inr hx)
 ·refine ⟨z', rfl, C.st hJ hE2 fun x e => ?_, h2, ?_, ?_, h3.trans hE2 fun x hx e => ?_, h4⟩
  ·have e : x = l := e
   subst e
   exact ⟨h.lo.1, fun e => (h2 _ e).1 rfl⟩
  ·rw [World.putObj_heap_same (heap_lt hl)]
   have e1 := h.rd
   have e2 := h.pe
   cases r
   cases e1
   cases e2
   rfl
  ·exact (World.putObj_heap_other h.ne.symm).trans h1
  ·have e : x = l := e
   have := h.lo.1
   omega
theorem fin_stopV {c : Code} {e : Exit} (hc : (e = .ret ∧ c = .ret) ∨ ∃ id, e = .exit id ∧ c = .exit id) (z' : α) (h : RdC C z0 l D r z W) (hN : RdX C l D z W X) (hl : u.heap[l]? = some (.loop (busy r))) (hE : Ext (fun x => (C.Fp z x ∨ x = l) ∨ X x) W u) (hF : ∀ x, C.Fp z' x → C.Fp z x ∨ X x ∨ W.heap.size ≤ x) (hJ : C.Jx k c z' u) :
  Fin f (roundPost P l (RdV C z0 l D r k z W X)) e env u := by
 intro a _
 obtain ⟨h1, h2, h3, h4⟩ := h.endsV hN hE hF
 have hE2 : Ext (One l) u (u.putObj l (.loop { busy r with state := if (some c : Option Code).isNone then .ready else .done, pending := some c })) := Ext.putObj hl rfl rfl
 have key : ∃ v w', (Instr.endRound l (some c)).run P u = .ok v w' ∧ RdV C z0 l D r k z W X (.returned v) w' := by
  refine ⟨_, _, run_endRound (some c) hl, false, rfl, fun x => C.Fp z' x ∨ x = l ∨ x = D, ?_, fun x hx => ?_, (fun e => by cases e), fun _ => ?_⟩
  ·exact (hE.mono fun x _ e => e.imp (fun e => e.imp id .inl) id).then (hE2.mono fun x _ e => .inl (.inr (.inl e)))
  ·rcases hx with hx | hx
   ·exact (hF x hx).imp .inl id
   ·exact .inl (.inr hx)
  ·refine ⟨c, z', rfl, C.stx hJ hE2 fun x e => ?_, h2, ?_, ?_, h3.trans hE2 fun x hx e => ?_, h4⟩
   ·have e : x = l := e
    subst e
    exact ⟨h.lo.1, fun e => (h2 _ e).1 rfl⟩
   ·exact World.putObj_heap_same (heap_lt hl)
   ·exact (World.putObj_heap_other h.ne.symm).trans h1
   ·have e : x = l := e
    have := h.lo.1
    omega
 rcases hc with ⟨rfl, rfl⟩ | ⟨id, rfl, rfl⟩
 ·exact key
 ·exact key
variable {Q : XPost}
theorem c_iterV (C : CoS α w) (z0 : α) {g : Operand} {ps : Array Tmp} {assign body : Code} {gf : Nat} {cap : Array Value} {N : Nat} {A : Nat → Array Value → (Nat → Prop) → World → Prop} {own : Nat → Prop}
  (hg : evO env g = some (.func (.func gf) #[] cap)) (hcf : ∀ args w, (callFunc gf args).run P w = .ok (.enter gf args) w)
  (hps : ps.toList.all (fun t => Nat.blt t f.n) = true) (hpn : ∀ k vs X W, A k vs X W → vs.size = ps.size)
  (hit : ∀ w1, Ext No w w1 → IterV P gf cap.toList N A own w1) (hown : ∀ x, own x → x < w.heap.size ∧ ¬ C.Fp z0 x) (h0 : C.J 0 z0 w)
  (hround : ∀ (l D : Nat) (r : Loop) (k : Nat) (z : α) (W : World) (vs : Array Value) (X : Nat → Prop), RdC C z0 l D r z W → RdX C l D z W X → C.J k z W → k < N → A k vs X W →
   WCI (Fence.wide.inRound l) 8 P ⟨f.n, []⟩ assign (Exit.then (fun a1 w1 => ∃ w2, (Instr.beginRound l).run P w1 = .ok () w2 ∧ body.wpIn (Fence.wide.inRound l) 8 P (roundPost P l (RdV C z0 l D r k z W X)) a1 w2) (fun _ _ _ => False)) (penv ps.toList vs.toList env) W)
  (hdone : ∀ (D : Nat) (z : α) (W : World), C.J N z W → Ext (C.Fp z0) w W → (∀ x, C.Fp z x → C.Fp z0 x ∨ w.heap.size ≤ x) → w.heap.size ≤ D → W.heap[D]? = some mark0 → (∀ x, C.Fp z x → x ≠ D) →
   Fin ⟨f.n, { target := .collected D, args := #[] } :: f.ds⟩ Q .normal env W)
  (hstop : ∀ (D : Nat) (k : Nat) (c : Code) (z : α) (W : World), k < N → C.Jx k c z W → Ext (C.Fp z0) w W → (∀ x, C.Fp z x → C.Fp z0 x ∨ w.heap.size ≤ x) → w.heap.size ≤ D → W.heap[D]? = some mark0 → (∀ x, C.Fp z x → x ≠ D) →
   WC P ⟨f.n, { target := .collected D, args := #[] } :: f.ds⟩ c Q env W) :
  WC P f (.rangeFunc g ps assign body) Q env w := by
 refine c_rangeX hg hcf fun fn a ha rec hrec w1 hE1 hl1 hd1 hs1 => ?_
 have hlD : w.heap.size + 1 ≠ w.heap.size := by omega
 have hst : rec.state = .ready := by rw [hrec]
 have hpe : rec.pending = none := by rw [hrec]
 have hcons : ConsV P (w.heap.size + 1) w1.heap.size N A (CJ C z0 (w.heap.size + 1) w.heap.size rec) (CJx C z0 (w.heap.size + 1) w.heap.size rec) := by
  refine ⟨?_, ?_, ?_, ?_, ?_⟩
  ·rintro k F S u u' ⟨z, rfl, h1, h2, h3, h4, h5, h6⟩ hE hS
   have hS1 : ∀ x, S x → w.heap.size ≤ x ∧ ¬ C.Fp z x := fun x hx => ⟨by have := (hS x hx).1; omega, fun e => (hS x hx).2 (.inl e)⟩
   exact ⟨z, rfl, C.st h1 hE hS1, h2, (hE.same _ (heap_lt h3) fun e => (hS _ e).2 (.inr (.inl rfl))).trans h3, (hE.same _ (heap_lt h4) fun e => (hS _ e).2 (.inr (.inr rfl))).trans h4, h5.trans hE fun x hx e => by have := (hS1 x e).1; omega, h6⟩
  ·rintro k F S u u' ⟨c, z, rfl, h1, h2, h3, h4, h5, h6⟩ hE hS
   have hS1 : ∀ x, S x → w.heap.size ≤ x ∧ ¬ C.Fp z x := fun x hx => ⟨by have := (hS x hx).1; omega, fun e => (hS x hx).2 (.inl e)⟩
   exact ⟨c, z, rfl, C.stx h1 hE hS1, h2, (hE.same _ (heap_lt h3) fun e => (hS _ e).2 (.inr (.inl rfl))).trans h3, (hE.same _ (heap_lt h4) fun e => (hS _ e).2 (.inr (.inr rfl))).trans h4, h5.trans hE fun x hx e => by have := (hS1 x e).1; omega, h6⟩
  ·rintro k F u ⟨z, rfl, h1, h2, h3, h4, h5, h6⟩ x hx
   rcases hx with hx | rfl | rfl
   ·exact C.lt h1 x hx
   ·exact heap_lt h3
   ·exact heap_lt h4
  ·rintro k F u ⟨c, z, rfl, h1, h2, h3, h4, h5, h6⟩ x hx
   rcases hx with hx | rfl | rfl
   ·exact C.ltx h1 x hx
   ·exact heap_lt h3
   ·exact heap_lt h4
  ·rintro k F u ⟨z, rfl, h1, h2, h3, h4, h5, h6⟩ hk vs X hAk hX
   have hy := run_yield (P := P) (args := vs) h3 (by rw [hrec]; exact hpn k vs X u hAk)
   refine ⟨_, _, _, _, hy, roundIn_of_wpIn trivial ?_⟩
   have hA : rec.assign = assign := by rw [hrec]
   have hB : rec.body = body := by rw [hrec]
   have hT : rec.tmps = a.tmps := by rw [hrec]
   have hP : rec.params = ps := by rw [hrec]
   rw [hA, hB, hT, hP]
   obtain ⟨g1, g2⟩ := ag_fold (f := ⟨f.n, []⟩) ps.toList vs.toList env a.tmps hps ha.size ha.get
   refine hround (w.heap.size + 1) w.heap.size rec k z u vs X ⟨hst, hpe, hlD, ⟨by omega, Nat.le_refl _⟩, h2, h3, h4, h5, h6⟩ ⟨fun x hx => ⟨by have := (hX x hx).1; omega, fun e => (hX x hx).2 (.inr (.inl e)), fun e => (hX x hx).2 (.inr (.inr e)), fun e => (hX x hx).2 (.inl e)⟩⟩ h1 hk hAk _ ⟨rfl, ?_, fun i v hi => ?_⟩
   ·rw [← Array.foldl_toList, Array.toList_zip]; exact g1
   ·show (Array.foldl _ a.tmps (ps.zip vs))[i]? = some v
    rw [← Array.foldl_toList, Array.toList_zip]; exact g2 i v hi
 have hj0 : CJ C z0 (w.heap.size + 1) w.heap.size rec 0 (fun x => C.Fp z0 x ∨ x = w.heap.size + 1 ∨ x = w.heap.size) w1 :=
  ⟨z0, rfl, C.st h0 hE1 fun x e => e.elim, fun x hx => ⟨fun e => by have := C.lt h0 x hx; omega, fun e => by have := C.lt h0 x hx; omega⟩, hl1, hd1, hE1.no, fun x hx => .inl hx⟩
 refine (hit w1 hE1 (w.heap.size + 1) _ _ _ hcons hj0 fun x hx => ?_).mono ?_
 ·have := hown x hx
  rintro (e | e | e)
  ·exact this.2 e
  ·omega
  ·omega
 ·rintro _ w2 ⟨F', hE2, hF', ⟨z, rfl, h1, h2, h3, h4, h5, h6⟩ | ⟨k, hk, c, z, rfl, h1, h2, h3, h4, h5, h6⟩⟩
  ·refine ⟨rec, h3, by rw [hst]; decide, h4, fun w3 hE3 hd3 => ⟨fun _ => ?_, fun c hc => by rw [hpe] at hc; cases hc⟩⟩
   have hS1 : ∀ x, One (w.heap.size + 1) x → w.heap.size ≤ x ∧ ¬ C.Fp z x := fun x hx => by
    have hx : x = w.heap.size + 1 := hx
    exact ⟨by omega, fun e => (h2 x e).1 hx⟩
   exact hdone _ z w3 (C.st h1 hE3 hS1) (h5.trans hE3 fun x hx e => by have := (hS1 x e).1; omega) h6 (Nat.le_refl _) hd3 fun x hx => (h2 x hx).2
  ·refine ⟨_, h3, (fun e => by cases e), h4, fun w3 hE3 hd3 => ⟨fun hc => (by cases hc), fun c' hc => ?_⟩⟩
   cases hc
   have hS1 : ∀ x, One (w.heap.size + 1) x → w.heap.size ≤ x ∧ ¬ C.Fp z x := fun x hx => by
    have hx : x = w.heap.size + 1 := hx
    exact ⟨by omega, fun e => (h2 x e).1 hx⟩
   exact hstop _ k c z w3 hk (C.stx h1 hE3 hS1) (h5.trans hE3 fun x hx e => by have := (hS1 x e).1; omega) h6 (Nat.le_refl _) hd3 fun x hx => (h2 x hx).2
end
/-! ### A deferred call -/
end Go.Vc
namespace Go.Proofs.YtpcdihkcenfgkaaGreatDoor
open Go.Vc
abbrev ItQ (w : World) (F : Nat → Prop) (N : Nat) (J Jx : Nat → (Nat → Prop) → World → Prop) (w' : World) : Prop :=
  ∃ F' : Nat → Prop, Ext F w w' ∧ (∀ x, F' x → F x ∨ w.heap.size ≤ x) ∧ (J N F' w' ∨ ∃ k, k < N ∧ Jx k F' w')
def stepH (acc : List zz4) (h : zz4) : List zz4 := if h.id ∈ acc.map zz4.id then acc else acc ++ [h]
def firsts (l : List zz4) : List zz4 := l.foldl stepH []
theorem firsts_take {l : List zz4} {i : Nat} (hi : i < l.length) : firsts (l.take (i + 1)) = stepH (firsts (l.take i)) l[i] := by
 rw [List.take_succ_eq_append_getElem hi, firsts, List.foldl_append]; rfl
theorem foldH_pre : ∀ (l acc : List zz4), acc <+: l.foldl stepH acc
 | [], acc => List.prefix_refl _
 | h :: l, acc => by
  refine List.IsPrefix.trans ?_ (foldH_pre l (stepH acc h))
  unfold stepH
  split
  ·exact List.prefix_refl _
  ·exact List.prefix_append _ _
theorem firsts_pre (l : List zz4) (i : Nat) : firsts (l.take i) <+: firsts l := by
 have := foldH_pre (l.drop i) (firsts (l.take i))
 have e : (l.drop i).foldl stepH (firsts (l.take i)) = firsts l := by
  unfold firsts
  rw [← List.foldl_append, List.take_append_drop]
 rw [e] at this
 exact this
abbrev hZ : zz4 := ⟨[], objZ, noP⟩
def heldA (L : List zz4) (k : Nat) : Array Value := #[idV (L.getD k hZ).id, .agg (objC (L.getD k hZ).o (L.getD k hZ).a).toArray]
theorem heldA_new {l : List zz4} {i : Nat} (hi : i < l.length) (hn : ¬ l[i].id ∈ (firsts (l.take i)).map zz4.id) : (firsts (l.take i)).length < (firsts l).length ∧ heldA (firsts l) (firsts (l.take i)).length = #[idV l[i].id, .agg (objC l[i].o l[i].a).toArray] ∧ firsts (l.take (i + 1)) = firsts (l.take i) ++ [l[i]] := by
 have e : firsts (l.take (i + 1)) = firsts (l.take i) ++ [l[i]] := by rw [firsts_take hi, stepH, if_neg hn]
 have hp := firsts_pre l (i + 1)
 rw [e] at hp
 obtain ⟨t, ht⟩ := hp
 have hlt : (firsts (l.take i)).length < (firsts l).length := by rw [← ht]; simp
 refine ⟨hlt, ?_, e⟩
 have hg : (firsts l).getD (firsts (l.take i)).length hZ = l[i] := by
  rw [← ht, List.append_assoc]; simp
 rw [heldA, hg]
theorem metF_add (l : List zz4) (h : zz4) : setM (metF l) h.id true = metF (stepH l h) := by
 funext x
 unfold setM metF stepH
 by_cases h1 : x = h.id
 ·subst h1
  by_cases h2 : h.id ∈ l.map zz4.id
  ·simp [h2]
  ·simp [h2]
 ·by_cases h2 : h.id ∈ l.map zz4.id
  ·simp [h1, h2]
  ·simp [h1, h2]
theorem HpIn.rowLt {w : World} {p : Option Addr} {l : List zz4} (h : HpIn w p l) {b off : Nat} (hp : p = some ⟨b, off, none⟩) (hl : l.length ≠ 0) : b < w.heap.size := by
 rcases h.sl.2 with h0 | ⟨b', off', h1, h2⟩
 ·exact absurd h0 hl
 ·rw [hp] at h1
  cases h1
  obtain ⟨y, hy⟩ : ∃ y, l = l[0] :: y := by
   cases l with
   | nil => exact absurd rfl hl
   | cons a y => exact ⟨y, rfl⟩
  have hc := h.c l[0] (List.getElem_mem (by omega))
  have : 0 < (l.flatMap heldC).length := by
   rw [hy, List.flatMap_cons, List.length_append]
   omega
  exact h2.lt fun e => by rw [e] at this; exact absurd this (Nat.lt_irrefl _)
theorem met_tell {l : List zz4} {x : List UInt8} : tell Value.bool (.bool false) (metF l x) = .bool (decide (x ∈ l.map zz4.id)) := by
 unfold metF
 by_cases h : x ∈ l.map zz4.id
 ·rw [if_pos h, decide_eq_true h]; rfl
 ·rw [if_neg h, decide_eq_false h]; rfl
theorem objs1_walk (w : World) {yl b c : Nat} {p : Option Addr} {l : List zz4} {F : Nat → Prop} {J Jx : Nat → (Nat → Prop) → World → Prop} (hC : Cons Tryz.prog yl w.heap.size (firsts l).length (heldA (firsts l)) J Jx) (hb : Blk w b 29 [.slice p l.length c]) (h : HpIn w p l) (hpF : ∀ y off, p = some ⟨y, off, none⟩ → l.length ≠ 0 → ¬ F y) (h0 : J 0 F w) :
  zz1 Tryz.prog 159 [.func (.yield yl) #[] #[], .pointer (some ⟨b, 0, none⟩)] w fun _ w' => ItQ w F (firsts l).length J Jx w' := by
 refine zq9 Tryz.func159 rfl rfl rfl rfl ?_
 have hX := Ext.refl F w
 have hFlt := hC.lt h0
 have hlen := h.len
 refine zq5 (zq0 (wl (st_mm Value.bool rfl fun r3 w1 hr3 hM hE1 hs1 => ?_)))
 have hX := hX.zq4 hE1
 have hJ := hC.st h0 hE1 fun _ e => e.elim
 have hF3 : ¬ F r3 := fun e => absurd (hFlt _ e) (by omega)
 have hbc := hb.zq2 hE1
 have hsl := h.sl.zq2 hE1
 have hr3l := hM.lt
 refine wl_p I_ok rfl (zq3 (zq1 (zq5 (zq0 (wl_p I_ok rfl (wl (st_ld I_ok rfl (hbc.cell rfl) (wl_p I_ok rfl (zq3 (zq1 (zx4 ?_)))))))))))
 refine zv3 (α := Nat × (Nat → Prop)) [0, 3, 8, 9] rfl (fun z => [(10, .int .i64 (z.1 : Int))]) (fun z u => (z.1 ≤ l.length ∧ J (firsts (l.take z.1)).length z.2 u ∧ MapB u r3 Value.bool (metF (firsts (l.take z.1))) ∧ (∀ x, z.2 x → F x ∨ w.heap.size ≤ x) ∧ (¬ z.2 r3) ∧ Sl u p l.length 105 (l.flatMap heldC)) ∧ Ext F w u) (fun z u => l.length - z.1) (0, F) rfl ⟨⟨Nat.zero_le _, hJ, hM, fun x hx => .inl hx, hF3, hsl⟩, hX⟩ ?_
 rintro ⟨i, G⟩ w2 ⟨⟨hi, hJ, hM, hG, hGr, hsl⟩, hX⟩
 try dsimp only
 dsimp only at hi hJ hM hG hGr
 refine zq5 (zq0 (wl_p I_ok rfl (zq3 (zq1 (zq5 (c_if rfl (fun hc => ?_) (fun hc => ?_)))))))
 ·have hi : i < l.length := by omega
  obtain ⟨qb, qoff, hp, hsq⟩ := hsl.rowAll h.c (by omega)
  rw [hp] at hsl ⊢
  have hni := h.ins _ (List.getElem_mem hi)
  have hGlt := hC.lt hJ
  have hrl := hM.lt
  have hqF := hpF qb qoff hp (by omega)
  have hqw : qb < w.heap.size := (h.rowLt hp (by omega))
  refine zx7 (zq1 (zq5 (zx4 (zq5 (zq0 (wl (st_ix I_ok rfl 105 rfl i rfl (by omega) (qoff + i * 105) rfl (wl (st_ldN I_ok rfl (hsq i hi) hni.c ?_)))))))))
  have hslA := hsl
  refine wl (zz9 I_ok rfl fun b5 w3 hn5 hb5 hE3 => ?_)
  have fr5 := Nat.le_trans hX.size hn5
  have hM := hM.zq2 hE3
  have hJ := hC.st hJ hE3 fun _ e => e.elim
  have hX := hX.zq4 hE3
  have hEa5 := hE3
  have hG5 : ¬ G b5 := fun e => absurd (hGlt _ e) (by omega)
  have hb5o := hb5
  refine wl (zj1 (l' := heldC l[i]) I_ok hb5 rfl rfl hni.c (by rw [hni.c]; rfl) OneC.h fun w4 hb5 hE4 hs4 => ?_)
  have hM := hM.ext1 hE4 hb5o
  have hJ := hC.st hJ hE4 fun y e => by have e : y = b5 := e; subst e; exact ⟨fr5, hG5⟩
  have hsl := hslA.extLt ((Ext.no hEa5).trans hE4 fun _ _ k => k) (fun y hy k => by have k : y = b5 := k; omega)
  have hX := hX.zx1 hE4 fr5
  refine zq3 (zq1 (zq5 ?_))
  refine c_cutK (α := Bool × (Nat → Prop)) [0, 3, 5, 8, 9, 10] rfl (fun z => [(27, .bool z.1)]) (fun z u => ((z.1 = false → J (firsts (l.take (i + 1))).length z.2 u) ∧ (z.1 = true → ∃ k, k < (firsts l).length ∧ Jx k z.2 u) ∧ MapB u r3 Value.bool (metF (firsts (l.take i))) ∧ (∀ x, z.2 x → F x ∨ w.heap.size ≤ x) ∧ (¬ z.2 r3) ∧ (¬ z.2 b5) ∧ Sl u (some ⟨qb, qoff, none⟩) l.length 105 (l.flatMap heldC)) ∧ Blk u b5 48 (heldC l[i]) ∧ Ext F w u) ?_ ?_
  ·refine c_regionI ?_
   refine wlw_p rfl I_ok rfl (wlw rfl (st_ldN I_ok rfl (held_id hb5.seg) (IdIn.len hni.id) (wlw rfl (st_lu I_ok rfl idK hni.id rfl hM ?_))))
   simp only [Bool.false_eq_true, if_false]
   rw [show tell Value.bool ti4.zero (metF (firsts (l.take i)) l[i].id) = .bool (decide (l[i].id ∈ (firsts (l.take i)).map zz4.id)) from met_tell]
   refine wlw_p rfl I_ok rfl (wlw_case 19 rfl (fun hg => ?_) (fun hg => ?_))
   ·have hnm : ¬ l[i].id ∈ (firsts (l.take i)).map zz4.id := by simpa using hg
    obtain ⟨hkn, hka, hfe⟩ := heldA_new hi hnm
    refine wlw_pk rfl I_ok 2 rfl (wlw rfl (st_ldN I_ok rfl (held_id hb5.seg) (IdIn.len hni.id) (wlw_pk rfl I_ok 1 rfl (wlw rfl (st_ldN I_ok rfl (held_obj hb5.seg hni.id) (zq7 hni.o) ?_)))))
    have hrd := hC.round hJ hkn
    rw [hka] at hrd
    refine wli_yield rfl rfl rfl rfl rfl rfl hrd fun y w5 hy => ?_
    obtain ⟨G2, hEy, hGy, hyt, hyf⟩ := hy
    have hX0 := hX.size
    have hb5l := hb5.lt
    have hX := hX.trans hEy fun x hx e => (hG x e).resolve_right (by omega)
    have hG2 : ∀ x, G2 x → F x ∨ w.heap.size ≤ x := fun x hx => (hGy x hx).elim (hG x) fun h => .inr (by omega)
    have hM := hM.ext hEy hGr
    have hb5 := hb5.ext hEy hG5
    have hGr2 : ¬ G2 r3 := fun e => (hGy _ e).elim hGr fun h => absurd hrl (by omega)
    have hG52 : ¬ G2 b5 := fun e => (hGy _ e).elim hG5 fun h => by omega
    have hsl := hsl.ext hEy fun b off e k => by cases e; exact (hG _ k).elim hqF (by omega)
    refine wlw_pk rfl I_ok 2 rfl (wli_nil ?_)
    exact zz7 (!y, G2) rfl ⟨⟨fun e => by have e : y = true := (by simpa using e); have k := hyt e; rw [hfe, List.length_append]; exact k, fun e => by have e : y = false := (by simpa using e); exact ⟨_, hkn, hyf e⟩, hM, hG2, hGr2, hG52, hsl⟩, hb5, hX⟩
   ·have hnm : l[i].id ∈ (firsts (l.take i)).map zz4.id := by simpa using hg
    have hfe : (firsts (l.take (i + 1))) = (firsts (l.take i)) := by rw [firsts_take hi, stepH, if_pos hnm]
    refine wlw_pk rfl I_ok 8 rfl (wli_nil ?_)
    exact zz7 (false, G) rfl ⟨⟨fun _ => by rw [hfe]; exact hJ, (fun e => by cases e), hM, hG, hGr, hG5, hsl⟩, hb5, hX⟩
  rintro ⟨z, G2⟩ w6 ⟨⟨hJf, hJx, hM, hG, hGr, hG5, hsl⟩, hb5, hX⟩
  try dsimp only
  dsimp only at hJf hJx hG hGr hG5
  refine c_cond rfl (fun hc => ?_) (fun hc => ?_)
  ·obtain ⟨k, hkk, hJx⟩ := hJx hc
   refine zj0 (zx5 (zz3 (zx5 (zx5 (zz3 (f_ret0 rfl ?_))))))
   exact ⟨G2, hX, hG, .inr ⟨k, hkk, hJx⟩⟩
  ·have hJ := hJf hc
   refine zx7 (zq1 (zq0 (wl_p I_ok rfl (wl (st_ldN I_ok rfl (held_id hb5.seg) (IdIn.len hni.id) (wl (st_mu I_ok rfl idK hni.id rfl hM (b := true) rfl fun w7 hM2 hE7 hs7 => ?_)))))))
   rw [metF_add, ← firsts_take hi] at hM2
   have hJ2 := hC.st hJ hE7 fun y e => by have e : y = r3 := e; subst e; exact ⟨hr3, hGr⟩
   have hslq : ∀ b off, (some ⟨qb, qoff, none⟩ : Option Addr) = some ⟨b, off, none⟩ → ¬ One r3 b := fun b off e k => by cases e; have k : qb = r3 := k; omega
   have hsl := hsl.ext hE7 hslq
   have hX := hX.zx1 hE7 hr3
   refine zq3 (zx6 (zq1 (zq0 (wl_p I_ok rfl ?_))))
   rw [IntWalk.i64_in _ (by omega)]
   refine zq3 ?_
   exact zv1 (i + 1, G2) rfl ⟨⟨hi, hJ2, hM2, hG, hGr, hsl⟩, hX⟩ (by first | omega | (dsimp only; omega))
 ·have h0 : i = l.length := by omega
  subst h0
  rw [List.take_length] at hJ hM
  refine c_exit (zx3 (zx3 (zz0 (f_end0 rfl ?_))))
  exact ⟨G, hX, hG, .inl hJ⟩
theorem objs1_iter (w : World) {b c : Nat} {p : Option Addr} {l : List zz4} (hb : Blk w b 29 [.slice p l.length c]) (h : HpIn w p l) :
  Iter Tryz.prog 159 [.pointer (some ⟨b, 0, none⟩)] (firsts l).length (heldA (firsts l)) (fun y => ∃ off, p = some ⟨y, off, none⟩ ∧ l.length ≠ 0) w :=
 fun _ _ _ _ hC h0 hown => objs1_walk w hC hb h (fun y off e k => hown y ⟨off, e, k⟩) h0
theorem objects_calls (w : World) {p : Option Addr} {c : Nat} {l : List zz4} (_h : HpIn w p l) :
  zz1 Tryz.prog 125 [.agg #[.slice p l.length c]] w fun v w' => ∃ b, v = .func (.func 159) #[] #[.pointer (some ⟨b, 0, none⟩)] ∧ w.heap.size ≤ b ∧ Blk w' b 29 [.slice p l.length c] ∧ Ext No w w' := by
 refine zq9 Tryz.func125 rfl rfl rfl rfl ?_
 have hX := Ext.refl No w
 refine zq5 (zq0 (wl (zz9 I_ok rfl fun b1 w1 hn1 hb1 hE1 => ?_)))
 have fr1 := Nat.le_trans hX.size hn1
 have hX := hX.zq4 hE1
 have hb1 : Blk w1 b1 29 ([.slice p l.length c]) := hb1
 refine wl_p I_ok rfl (zq3 (zq1 (zq5 (zq0 (wl_p I_ok rfl (zq3 (zq1 (zj0 (zz2 rfl rfl ?_)))))))))
 exact ⟨b1, rfl, fr1, hb1, hX⟩
abbrev objV (x : ObjD × ObjP) : Value := .agg (objC x.1 x.2).toArray
def bookOf (l : List zz4) : List UInt8 → Option (ObjD × ObjP) := fun x => (l.find? fun h => decide (h.id = x)).map fun h => (h.o, h.a)
theorem firsts_ids (l : List zz4) : ((firsts l).map zz4.id).Nodup := by
 have : ∀ (l acc : List zz4), (acc.map zz4.id).Nodup → ((l.foldl stepH acc).map zz4.id).Nodup := by
  intro l
  induction l with
  | nil => exact fun _ h => h
  | cons a l ih =>
   intro acc h
   refine ih _ ?_
   unfold stepH
   split
   ·exact h
   ·rename_i hn
    rw [List.map_append]
    exact List.nodup_append.2 ⟨h, by simp, fun x hx y hy e => by simp at hy; subst hy; exact hn (e ▸ hx)⟩
 exact this l [] (by simp)
theorem firsts_sub (l : List zz4) : ∀ h ∈ firsts l, h ∈ l := by
 have : ∀ (l acc : List zz4), ∀ h ∈ l.foldl stepH acc, h ∈ acc ∨ h ∈ l := by
  intro l
  induction l with
  | nil => exact fun _ h hh => .inl hh
  | cons a l ih =>
   intro acc h hh
   rcases ih _ h hh with k | k
   ·unfold stepH at k
    split at k
    ·exact .inl k
    ·rcases List.mem_append.1 k with k | k
     ·exact .inl k
     ·rw [List.mem_singleton.1 k]; exact .inr List.mem_cons_self
   ·exact .inr (List.mem_cons_of_mem _ k)
 exact fun h hh => (this l [] h hh).resolve_left (by simp)
theorem find_firsts (x : IdB) : ∀ (l acc : List zz4), (l.foldl stepH acc).find? (fun h => decide (h.id = x)) = (acc.find? fun h => decide (h.id = x)).or (l.find? fun h => decide (h.id = x))
 | [], acc => by simp
 | a :: l, acc => by
  rw [List.foldl_cons, find_firsts x l, List.find?_cons]
  unfold stepH
  by_cases hin : a.id ∈ acc.map zz4.id
  ·rw [if_pos hin]
   by_cases hx : a.id = x
   ·obtain ⟨b, hb, hbe⟩ := List.mem_map.1 hin
    have : (acc.find? fun h => decide (h.id = x)).isSome = true := by
     rw [List.find?_isSome]
     exact ⟨b, hb, by simp [hbe, hx]⟩
    obtain ⟨y, hy⟩ := Option.isSome_iff_exists.1 this
    rw [hy]; rfl
   ·simp [hx]
  ·rw [if_neg hin, List.find?_append]
   by_cases hx : a.id = x
   ·have : acc.find? (fun h => decide (h.id = x)) = none := by
     rw [List.find?_eq_none]
     intro b hb hbe
     have hbe : b.id = x := by simpa using hbe
     exact hin (List.mem_map.2 ⟨b, hb, hbe.trans hx.symm⟩)
    rw [this]
    simp [hx]
   ·simp [hx]
theorem bookOf_firsts (l : List zz4) : bookOf (firsts l) = bookOf l := by
 funext x
 unfold bookOf firsts
 rw [find_firsts]; rfl
theorem bookOf_step {L : List zz4} (hn : (L.map zz4.id).Nodup) {k : Nat} (hk : k < L.length) : setM (bookOf (L.take k)) L[k].id (L[k].o, L[k].a) = bookOf (L.take (k + 1)) := by
 funext x
 unfold setM bookOf
 rw [List.take_succ_eq_append_getElem hk, List.find?_append]
 by_cases hx : x = L[k].id
 ·have : (L.take k).find? (fun h => decide (h.id = x)) = none := by
   rw [List.find?_eq_none]
   intro b hb hbe
   have hbe : b.id = x := by simpa using hbe
   obtain ⟨j, hj, rfl⟩ := List.mem_iff_getElem.1 hb
   rw [List.length_take] at hj
   rw [List.getElem_take] at hbe
   have := List.pairwise_iff_getElem.1 hn j k (by rw [List.length_map]; omega) (by rw [List.length_map]; exact hk) (by omega)
   rw [List.getElem_map, List.getElem_map] at this
   exact this (hbe.trans hx)
  rw [this, if_pos hx]
  simp [hx]
 ·rw [if_neg hx]
  simp [Ne.symm hx]
def bookC (w : World) (rm : Nat) (l : List zz4) : CoS Unit w where
  Fp := fun _ => One rm
  J := fun k _ u => MapB u rm objV (bookOf ((firsts l).take k))
  Jx := fun _ _ _ _ => False
  st := fun h hE hS => h.ext hE fun e => (hS _ e).2 rfl
  stx := fun h _ _ => h
  lt := fun h x e => by have e : x = rm := e; rw [e]; exact h.lt
  ltx := fun h => h.elim
theorem readBk_calls (w : World) {p : Option Addr} {c : Nat} {L : List zz4} (h : HpIn w p L) :
  zz1 Tryz.prog 70 [.agg #[.slice p L.length c]] w fun v w' => ∃ r, v = .map (some r) ∧ w.heap.size ≤ r ∧ MapB w' r objV (bookOf L) ∧ Ext No w w' := by
 refine calls_enterM Tryz.func70 rfl rfl rfl rfl ?_
 have hX := Ext.refl No w
 refine zq5 (zq0 (wl (zz9 I_ok rfl fun b1 w1 hn1 hb1 hE1 => ?_)))
 have hX := hX.zq4 hE1
 have hb1 : Blk w1 b1 29 ([.slice p L.length c]) := hb1
 refine wl_p I_ok rfl (zq3 (zq1 (zq5 (zq0 (wl (st_mm objV rfl fun r6 w2 hr6 hM hE2 hs2 => ?_))))))
 have hr6w := Nat.le_trans hX.size hr6
 have hX := hX.zq4 hE2
 have hb1 := hb1.zq2 hE2
 have ne1r : b1 ≠ r6 := fun e => absurd hb1.lt (by have := hM.ne hb1; exact fun _ => this e.symm)
 refine wl (zz9 I_ok rfl fun b3 w3 hn3 hb3 hE3 => ?_)
 have ne1_3 : b1 ≠ b3 := Nat.ne_of_lt (Nat.lt_of_lt_of_le hb1.lt hn3)
 have fr3 := Nat.le_trans hX.size hn3
 have hb1 := hb1.zq2 hE3
 have hM := hM.zq2 hE3
 have hX := hX.zq4 hE3
 have hb3o := hb3
 refine wl (st_st I_ok hb3 rfl rfl rfl fun w4 hb3 hE4 hs4 => ?_)
 have hb1 := hb1.ext1 hE4 ne1_3
 have hM := hM.ext1 hE4 hb3o
 have hX := hX.zx1 hE4 fr3
 have hb3 : Blk w4 b3 127 ([.map (some r6)]) := hb3
 refine zq3 (zq1 (zq5 (zq5 (zq0 (wl (zj2 I_ok hb1 rfl rfl (wl (zx2 Tryz.call125 rfl rfl rfl rfl rfl rfl (objects_calls w4 (h.zq2 hX)) fun v5 w5 hr5 => ?_))))))))
 obtain ⟨bo, rfl, hno, hbo, hE5⟩ := hr5
 have hb3 := hb3.zq2 hE5
 have hM := hM.zq2 hE5
 have hX := hX.zq4 hE5
 refine zq3 (zq1 (zx4 ?_))
 have hneR : b3 ≠ r6 := fun e => hM.ne hb3 e.symm
 have hXw := hX
 have hXs := hX.size
 have hMl := hM.lt
 have hb3l := hb3.lt
 have hid := firsts_ids L
 refine c_iter (bookC w5 r6 L) (()) rfl Tryz.call159 rfl (fun _ => rfl) (fun w1 hE1 => objs1_iter w1 (hbo.zq2 hE1) ((h.zq2 hXw).zq2 hE1)) (fun x ⟨off, e, hne⟩ => by have k := h.rowLt e hne; exact ⟨by omega, fun e => by have e : x = r6 := e; omega⟩) hM (fun l DD r k z W hRd hJ hk => ?_) (fun DD z W hJ hE hsub hDn hmk hnd => ?_) (fun DD k c z W hk hJ hE hsub hDn hmk hnd => ?_)
 ·have hLr := hRd.l
  have hM : MapB W r6 objV (bookOf ((firsts L).take k)) := hJ
  have hWX := hRd.X
  have hb3 := hb3.ext hWX fun e => hneR e
  have hneL := (hRd.fp r6 rfl).1
  obtain ⟨H, hH⟩ : ∃ H, H = (firsts L)[k] := ⟨_, rfl⟩
  have hHg : (firsts L).getD k hZ = H := by rw [hH]; simp [hk]
  rw [show heldA (firsts L) k = #[idV H.id, .agg (objC H.o H.a).toArray] from by rw [heldA, hHg]]
  have hHi : HeldIn w H := h.ins H (by rw [hH]; exact firsts_sub _ _ (List.getElem_mem hk))
  have hst := bookOf_step hid hk
  rw [← hH] at hst
  have hX : Ext (fun x => One r6 x ∨ x = l) W W := Ext.refl _ _
  refine ci_seq (ci_region (wli (.round _) rfl (zz9 I_ok rfl fun b4 w6 hn4 hb4 hE6 => ?_)))
  have ne3_4 : b3 ≠ b4 := Nat.ne_of_lt (Nat.lt_of_lt_of_le hb3.lt hn4)
  have fr4 := Nat.le_trans hX.size hn4
  have hb3 := hb3.zq2 hE6
  have hM := hM.zq2 hE6
  have hLr := hl_ext hLr hE6 id
  have hX := hX.zq4 hE6
  have nl4 := hb4.neL hLr
  have hb4o := hb4
  refine wli (.round _) rfl (zj1 (l' := zq6 H.id) I_ok hb4 rfl rfl (IdIn.len hHi.id) (by rw [zx0, hHi.id]; rfl) OneC.h fun w7 hb4 hE7 hs7 => ?_)
  have hb3 := hb3.ext1 hE7 ne3_4
  have hM := hM.ext1 hE7 hb4o
  have hLr := hl_ext hLr hE7 nl4.symm
  have hX := hX.zx1 hE7 fr4
  refine wli_nil (fi_then (ci_region (wli (.round _) rfl (zz9 I_ok rfl fun b5 w8 hn5 hb5 hE8 => ?_))))
  have ne3_5 : b3 ≠ b5 := Nat.ne_of_lt (Nat.lt_of_lt_of_le hb3.lt hn5)
  have ne4_5 : b4 ≠ b5 := Nat.ne_of_lt (Nat.lt_of_lt_of_le hb4.lt hn5)
  have fr5 := Nat.le_trans hX.size hn5
  have hb3 := hb3.zq2 hE8
  have hb4 := hb4.zq2 hE8
  have hM := hM.zq2 hE8
  have hLr := hl_ext hLr hE8 id
  have hX := hX.zq4 hE8
  have nl5 := hb5.neL hLr
  have hb5o := hb5
  refine wli (.round _) rfl (zj1 (l' := objC H.o H.a) I_ok hb5 rfl rfl (zq7 hHi.o) (by rw [zq7 hHi.o]; rfl) OneC.h fun w9 hb5 hE9 hs9 => ?_)
  have hb3 := hb3.ext1 hE9 ne3_5
  have hb4 := hb4.ext1 hE9 ne4_5
  have hM := hM.ext1 hE9 hb5o
  have hLr := hl_ext hLr hE9 nl5.symm
  have hX := hX.zx1 hE9 fr5
  refine wli_nil (fin_begin hRd hLr fun w10 hE10 hL10 => ?_)
  have hb3 := hb3.extL hLr hE10
  have hb4 := hb4.extL hLr hE10
  have hb5 := hb5.extL hLr hE10
  have hM := hM.ext hE10 fun e => hneL e
  have hLr := hL10
  have hX := hX.then (hE10.mono fun x _ e => .inr e)
  refine ci_block (ci_region (wli (.round _) rfl (st_ldb I_ok hb3 rfl rfl (wli (.round _) rfl (zj2 I_ok hb4 rfl (IdIn.len hHi.id) (wli (.round _) rfl (zj2 I_ok hb5 rfl (zq7 hHi.o) ?_)))))))
  refine wli (.round _) rfl (st_mu I_ok rfl idK hHi.id rfl hM (b := (H.o, H.a)) rfl fun w11 hM2 hE11 hs11 => ?_)
  rw [hst] at hM2
  have hX := hX.then (hE11.mono fun _ _ e => .inl e)
  have hLr := hl_ext hLr hE11 fun e => hneL e.symm
  refine wli_nil ?_
  exact zx6 (fin_next (()) hRd hLr hX (fun x hx => .inl hx) (hM2))
 ·have hM : MapB W r6 objV (bookOf ((firsts L).take (firsts L).length)) := hJ
  rw [List.take_length, bookOf_firsts] at hM
  have hb3 := hb3.ext hE fun e => hneR e
  have hX : Ext No w W := hXw.trans hE fun x hx e => by have e : x = r6 := e; omega
  refine zx6 (zq1 (zq5 (zq0 (wl (st_ldb I_ok hb3 rfl rfl (wl_p I_ok rfl (zq3 (zq1 (zj0 (f_retMs [DD] (by simp) (fun x hx => by rw [List.mem_singleton.1 hx]; exact hmk) [.map (some r6)] (fun w20 hE20 => ?_) (.inl rfl)))))))))))
  refine ⟨⟨rfl, trivial⟩, r6, rfl, hr6w, hM.ext hE20 fun e => ?_, hX.trans hE20 fun x hx e => ?_⟩
  ·have e : r6 = DD := List.mem_singleton.1 e
   exact hnd r6 rfl e
  ·have e : x = DD := List.mem_singleton.1 e
   omega
 ·exact hJ.elim
structure BkIn (w : World) (p : Option Addr) (l : List zz4) (r : Nat) : Prop where
  h : HpIn w p l
  m : MapB w r objV (bookOf l)
theorem BkIn.zq2 {w w' : World} {p : Option Addr} {l : List zz4} {r : Nat} (h : BkIn w p l r) (hE : Ext No w w') : BkIn w' p l r := ⟨h.h.zq2 hE, h.m.zq2 hE⟩
theorem book_get (l : List zz4) (x : IdB) : (toHp l).get x = (bookOf l x).map Prod.fst := by
 rw [get_find, bookOf, Option.map_map]
 rfl
theorem book_ptr (l : List zz4) (x : IdB) : objP l x = match bookOf l x with | none => noP | some y => if ObjOk y.1 then y.2 else noP := by
 unfold objP bookOf
 cases l.find? fun h => decide (h.id = x) <;> rfl
theorem objZ_v : ti46.zero = objV (objZ, noP) := by kernel_rfl
theorem book_tell (l : List zz4) (x : IdB) : tell objV ti46.zero (bookOf l x) = objV ((bookOf l x).getD (objZ, noP)) := by
 rw [objZ_v]
 cases bookOf l x <;> rfl
theorem HpIn.bookIn {w : World} {p : Option Addr} {l : List zz4} (h : HpIn w p l) (x : IdB) : ObjIn ((bookOf l x).getD (objZ, noP)).1 ∧ Short ((bookOf l x).getD (objZ, noP)).1 ∧ ObjL w ((bookOf l x).getD (objZ, noP)).1 ((bookOf l x).getD (objZ, noP)).2 := by
 unfold bookOf
 cases hf : l.find? fun h => decide (h.id = x) with
 | none => exact ⟨objZ_in, objZ_sh, objZ_l w⟩
 | some y =>
  have := h.ins y (List.mem_of_find?_eq_some hf)
  exact ⟨this.o, this.sh, this.l⟩
theorem getB_calls (w : World) {p : Option Addr} {r : Nat} {l : List zz4} {x : IdB} (hB : BkIn w p l r) (hx : IdIn x) :
  zz1 Tryz.prog 71 [.map (some r), idV x] w fun v w' => v = .tuple #[.agg (objC ((toHp l).obj x) (objP l x)).toArray, .int .i64 ((toHp l).err x)] ∧ Ext No w w' := by
 obtain ⟨hoi, hos, hol⟩ := hB.h.bookIn x
 have hbt := book_tell l x
 have hbg := book_get l x
 have hbp := book_ptr l x
 obtain ⟨⟨o, a⟩, hoa⟩ : ∃ y, y = (bookOf l x).getD (objZ, noP) := ⟨_, rfl⟩
 rw [← hoa] at hoi hos hol hbt
 dsimp only at hoi hos hol hbt
 refine zq9 Tryz.func71 rfl rfl rfl rfl ?_
 have hX := Ext.refl No w
 refine zq5 (zq0 (wl (zz9 I_ok rfl fun b3 w1 hn3 hb3 hE1 => ?_)))
 have hX := hX.zq4 hE1
 have hb3 : Blk w1 b3 31 (zq6 x) := hb3
 refine wl (zz9 I_ok rfl fun b4 w2 hn4 hb4 hE2 => ?_)
 have fr4 := Nat.le_trans hX.size hn4
 have hb3 := hb3.zq2 hE2
 have hX := hX.zq4 hE2
 refine wl_p I_ok rfl (zq3 (zq1 (zq5 (zq0 (wl_p I_ok rfl (wl (zj2 I_ok hb3 rfl hx.len (wl (st_lu I_ok rfl idK hx rfl (hB.zq2 hX).m ?_)))))))))
 simp only [if_true]
 rw [hbt]
 refine wl_p I_ok rfl (wl (zz9 I_ok rfl fun b6 w3 hn6 hb6 hE3 => ?_))
 have ne4_6 : b4 ≠ b6 := Nat.ne_of_lt (Nat.lt_of_lt_of_le hb4.lt hn6)
 have fr6 := Nat.le_trans hX.size hn6
 have hb4 := hb4.zq2 hE3
 have hX := hX.zq4 hE3
 refine wl (zj1 (l' := objC o a) I_ok hb6 rfl rfl (zq7 hoi) (by rw [zq7 hoi]; rfl) OneC.h fun w4 hb6 hE4 hs4 => ?_)
 have hb4 := hb4.ext1 hE4 ne4_6
 have hX := hX.zx1 hE4 fr6
 refine wl_p I_ok rfl (zq3 (zq1 (zq5 (zx4 (zq5 (zq0 (wl_p I_ok rfl (zq3 (zq1 (c_cond rfl (fun hc => ?_) (fun hc => ?_)))))))))))
 ·have hn : bookOf l x = none := by simpa using hc
  rw [hn] at hbg hbp
  obtain ⟨e1, e2⟩ := Hp.err_no hbg
  refine zq5 (zq0 (wl (st_bd I_ok rfl trivial (l' := objC objZ noP) objZ_c.symm (wl (zj1 (l' := objC objZ noP) I_ok hb4 rfl rfl rfl rfl OneC.h fun w5 hb4 hE5 hs5 => ?_)))))
  have hX := hX.zx1 hE5 fr4
  refine wl_p I_ok rfl (zq3 (zq1 (zj0 (zz3 (zx5 (f_ret [_, _] ⟨⟨b4, 0, rfl, ld_all I_ok rfl rfl hb4.seg rfl⟩, rfl, trivial⟩ ?_))))))
  exact ⟨by rw [e1, e2, hbp]; rfl, hX⟩
 ·obtain ⟨y, hy⟩ : ∃ y, bookOf l x = some y := Option.isSome_iff_exists.1 (by simpa using hc)
  rw [hy] at hoa hbg hbp
  obtain rfl : (o, a) = y := hoa
  obtain ⟨e1, e2⟩ := Hp.err_at hbg
  dsimp only at hbp
  refine zq5 (zq0 (wl (zj2 I_ok hb6 rfl (zq7 hoi) (wl (zx2 Tryz.call62 rfl rfl rfl rfl rfl rfl (checkObj_calls w4 hoi (hol.zq2 hX) hos) fun v6 w6 hr6 => ?_)))))
  obtain ⟨rfl, hE6⟩ := hr6
  have hb4 := hb4.zq2 hE6
  have hb6 := hb6.zq2 hE6
  have hX := hX.zq4 hE6
  refine wl_p I_ok rfl (zq3 (zq1 (c_if rfl (fun hc => ?_) (fun hc => ?_))))
  ·have hk : ¬ ObjOk o := fun h => hc (if_pos h)
   obtain ⟨e1, e2⟩ := e2 hk
   rw [if_neg hk] at hbp
   refine zq5 (zq0 (wl (st_bd I_ok rfl trivial (l' := objC objZ noP) objZ_c.symm (wl (zj1 (l' := objC objZ noP) I_ok hb4 rfl rfl rfl rfl OneC.h fun w7 hb4 hE7 hs7 => ?_)))))
   have hX := hX.zx1 hE7 fr4
   refine wl_p I_ok rfl (zq3 (zq1 (zj0 (zz3 (zx5 (f_ret [_, _] ⟨⟨b4, 0, rfl, ld_all I_ok rfl rfl hb4.seg rfl⟩, rfl, trivial⟩ ?_))))))
   exact ⟨by rw [e1, e2, hbp]; rfl, hX⟩
  ·have hk : ObjOk o := (if_zero (by decide)).1 (Decidable.not_not.1 hc)
   obtain ⟨e1, e2⟩ := e1 hk
   rw [if_pos hk] at hbp
   refine zx7 (zx6 (zq1 (zq5 (zq0 (wl (zj2 I_ok hb6 rfl (zq7 hoi) (wl (zj1 (l' := objC o a) I_ok hb4 rfl rfl (zq7 hoi) (by rw [zq7 hoi]; rfl) OneC.h fun w8 hb4 hE8 hs8 => ?_))))))))
   have hX := hX.zx1 hE8 fr4
   refine wl_p I_ok rfl (zq3 (zq1 (zj0 (f_ret [_, _] ⟨⟨b4, 0, rfl, ld_all I_ok rfl rfl hb4.seg (by rw [zq7 hoi]; rfl)⟩, rfl, trivial⟩ ?_))))
   exact ⟨by rw [e1, e2, hbp]; rfl, hX⟩
theorem kindB_calls (w : World) {p : Option Addr} {r : Nat} {l : List zz4} {x : IdB} (hB : BkIn w p l r) (hx : IdIn x) (kd : Int) :
  zz1 Tryz.prog 129 [.map (some r), idV x, .int .i64 kd] w fun v w' => v = .tuple #[.agg (objC ((toHp l).kObj x kd) (kObjP l x kd)).toArray, .int .i64 ((toHp l).kErr x kd)] ∧ Ext No w w' := by
 have h := hB.h
 refine zq9 Tryz.func129 rfl rfl rfl rfl ?_
 have hX := Ext.refl No w
 refine zq5 (zq0 (wl (zz9 I_ok rfl fun b4 w1 hn4 hb4 hE1 => ?_)))
 have hX := hX.zq4 hE1
 have hb4 : Blk w1 b4 31 (zq6 x) := hb4
 refine wl (zz9 I_ok rfl fun b6 w2 hn6 hb6 hE2 => ?_)
 have fr6 := Nat.le_trans hX.size hn6
 have hb4 := hb4.zq2 hE2
 have hX := hX.zq4 hE2
 refine wl_p I_ok rfl (zq3 (zq1 (zq5 (zq0 (wl_p I_ok rfl (wl (zj2 I_ok hb4 rfl hx.len (wl (zx2 Tryz.call71 rfl rfl rfl rfl rfl rfl (getB_calls w2 (hB.zq2 hX) hx) fun v3 w3 hr3 => ?_)))))))))
 obtain ⟨rfl, hE3⟩ := hr3
 have hb6 := hb6.zq2 hE3
 have hX := hX.zq4 hE3
 refine wl_p I_ok rfl (wl (zz9 I_ok rfl fun b8 w4 hn8 hb8 hE4 => ?_))
 have ne6_8 : b6 ≠ b8 := Nat.ne_of_lt (Nat.lt_of_lt_of_le hb6.lt hn8)
 have fr8 := Nat.le_trans hX.size hn8
 have hb6 := hb6.zq2 hE4
 have hX := hX.zq4 hE4
 refine wl (zj1 (l' := objC ((toHp l).obj x) (objP l x)) I_ok hb8 rfl rfl (zq7 (h.objIn x)) (by rw [zq7 (h.objIn x)]; rfl) OneC.h fun w5 hb8 hE5 hs5 => ?_)
 have hb6 := hb6.ext1 hE5 ne6_8
 have hX := hX.zx1 hE5 fr8
 refine wl_p I_ok rfl (zq3 (zq1 (zq5 (c_cutK (α := Bool) [6, 8, 9] rfl (fun z => [(23, .bool z)]) (fun z u => u = w5 ∧ z = decide ((toHp l).err x = 0 ∧ ((toHp l).obj x).kind ≠ kd)) ?_ ?_))))
 ·refine zq0 ?_
  refine wl_p I_ok rfl (zj4 18 rfl (fun hg => ?_) (fun hg => ?_))
  ·refine zz5 I_ok 1 rfl ?_
   refine wl (st_ld I_ok rfl (hb8.seg.obj (h.objIn x)).kind (zz5 I_ok 3 rfl (zq3 ?_)))
   exact zz7 (_) rfl ⟨rfl, by rw [decide_eq_decide]; exact ⟨fun k => ⟨hg, k⟩, fun k => k.2⟩⟩
  ·refine zz5 I_ok 5 rfl ?_
   refine zq3 ?_
   exact zz7 (false) rfl ⟨rfl, by symm; rw [decide_eq_false_iff_not]; exact fun k => hg k.1⟩
 rintro z w6 ⟨hu, rfl⟩
 have hu := hu.symm
 subst hu
 refine c_if rfl (fun hc => ?_) (fun hc => ?_)
 ·have e1 : (toHp l).kErr x kd = 160 := if_pos hc
  have e2 : (toHp l).kObj x kd = objZ := if_pos hc
  have e3 : kObjP l x kd = noP := if_pos hc
  refine zq5 (zq0 (wl (st_bd I_ok rfl trivial (l' := objC objZ noP) objZ_c.symm (wl (zj1 (l' := objC objZ noP) I_ok hb6 rfl rfl rfl rfl OneC.h fun w7 hb6 hE7 hs7 => ?_)))))
  have hX := hX.zx1 hE7 fr6
  refine wl_p I_ok rfl (zq3 (zq1 (zj0 (zx5 (f_ret [_, _] ⟨⟨b6, 0, rfl, ld_all I_ok rfl rfl hb6.seg rfl⟩, rfl, trivial⟩ ?_)))))
  exact ⟨by rw [e1, e2, e3]; rfl, hX⟩
 ·have e1 : (toHp l).kErr x kd = (toHp l).err x := if_neg hc
  have e2 : (toHp l).kObj x kd = (toHp l).obj x := if_neg hc
  have e3 : kObjP l x kd = objP l x := if_neg hc
  refine zx7 (zq1 (zq5 (zq0 (wl (zj2 I_ok hb8 rfl (zq7 (h.objIn x)) (wl_p I_ok rfl ?_))))))
  refine wl (zj1 (l' := objC ((toHp l).obj x) (objP l x)) I_ok hb6 rfl rfl (zq7 (h.objIn x)) (by rw [zq7 (h.objIn x)]; rfl) OneC.h fun w8 hb6 hE8 hs8 => ?_)
  have hX := hX.zx1 hE8 fr6
  refine wl_p I_ok rfl (zq3 (zq1 (zj0 (f_ret [_, _] ⟨⟨b6, 0, rfl, ld_all I_ok rfl rfl hb6.seg (by rw [zq7 (h.objIn x)]; rfl)⟩, rfl, trivial⟩ ?_))))
  exact ⟨by rw [e1, e2, e3]; rfl, hX⟩
theorem textsB_calls (w : World) {p : Option Addr} {r : Nat} {l : List zz4} {x : IdB} (hB : BkIn w p l r) (hx : IdIn x) :
  zz1 Tryz.prog 130 [.map (some r), idV x] w fun v w' => ∃ q k, v = .tuple #[.agg #[.slice q ((toHp l).map x).length k], .int .i64 ((toHp l).mapE x)] ∧ Own w' q ((toHp l).map x).length k 99 2 (((toHp l).map x).flatMap RowD.cells) ∧ (∀ y, OwnB q y → w.heap.size ≤ y) ∧ Ext No w w' := by
 have h := hB.h
 have hoi := h.kIn x 2
 have hol := h.kObjL x 2
 have hll := (h.kSh x 2).leaves
 refine zq9 Tryz.func130 rfl rfl rfl rfl ?_
 have hX := Ext.refl No w
 refine zq5 (zq0 (wl (zz9 I_ok rfl fun b3 w1 hn3 hb3 hE1 => ?_)))
 have hX := hX.zq4 hE1
 have hb3 : Blk w1 b3 31 (zq6 x) := hb3
 refine wl (zz9 I_ok rfl fun b4 w2 hn4 hb4 hE2 => ?_)
 have fr4 := Nat.le_trans hX.size hn4
 have hb3 := hb3.zq2 hE2
 have hX := hX.zq4 hE2
 refine wl_p I_ok rfl (zq3 (zq1 (zq5 (zq0 (wl_p I_ok rfl (wl (zj2 I_ok hb3 rfl hx.len (wl (zx2 Tryz.call129 rfl rfl rfl rfl rfl rfl (kindB_calls w2 (hB.zq2 hX) hx 2) fun v3 w3 hr3 => ?_)))))))))
 obtain ⟨rfl, hE3⟩ := hr3
 have hb3 := hb3.zq2 hE3
 have hb4 := hb4.zq2 hE3
 have hX := hX.zq4 hE3
 refine wl_p I_ok rfl (wl (zz9 I_ok rfl fun b6 w4 hn6 hb6 hE4 => ?_))
 have ne3_6 : b3 ≠ b6 := Nat.ne_of_lt (Nat.lt_of_lt_of_le hb3.lt hn6)
 have ne4_6 : b4 ≠ b6 := Nat.ne_of_lt (Nat.lt_of_lt_of_le hb4.lt hn6)
 have fr6 := Nat.le_trans hX.size hn6
 have hb3 := hb3.zq2 hE4
 have hb4 := hb4.zq2 hE4
 have hX := hX.zq4 hE4
 refine wl (zj1 (l' := objC ((toHp l).kObj x 2) (kObjP l x 2)) I_ok hb6 rfl rfl (zq7 hoi) (by rw [zq7 hoi]; rfl) OneC.h fun w5 hb6 hE5 hs5 => ?_)
 have hb3 := hb3.ext1 hE5 ne3_6
 have hb4 := hb4.ext1 hE5 ne4_6
 have hX := hX.zx1 hE5 fr6
 refine wl_p I_ok rfl (zq3 (zq1 (zq5 (zq5 (zq0 (wl_p I_ok rfl (zq3 (zq1 (c_if rfl (fun hc => ?_) (fun hc => ?_))))))))))
 ·have hE : (toHp l).mapE x = (toHp l).kErr x 2 := if_pos hc
  have hM := Hp.map_no hE hc
  refine zq5 (zq0 (wl (st_bd I_ok rfl trivial (l' := [.slice none 0 0]) rfl (wl_p I_ok rfl (wl (zj1 (l' := [.slice none 0 0]) I_ok hb4 rfl rfl rfl rfl OneC.h fun w6 hb4 hE6 hs6 => ?_))))))
  have hX := hX.zx1 hE6 fr4
  refine wl_p I_ok rfl (zq3 (zq1 (zj0 (zx5 (f_ret [_, _] ⟨⟨b4, 0, rfl, ld_all I_ok rfl rfl hb4.seg rfl⟩, rfl, trivial⟩ ?_)))))
  exact ⟨none, 0, by rw [hE, hM]; rfl, by rw [hM]; exact Own.nil _ _ _, noOwn, hX⟩
 ·have hk0 : (toHp l).kErr x 2 = 0 := Decidable.not_not.1 hc
  have hE : (toHp l).mapE x = (toHp l).txErr ((toHp l).kObj x 2).leaves := if_neg hc
  refine zx7 (zq1 (zq5 (zq0 (wl (zz9 I_ok rfl fun b8 w7 hn8 hb8 hE7 => ?_)))))
  have ne3_8 : b3 ≠ b8 := Nat.ne_of_lt (Nat.lt_of_lt_of_le hb3.lt hn8)
  have ne4_8 : b4 ≠ b8 := Nat.ne_of_lt (Nat.lt_of_lt_of_le hb4.lt hn8)
  have fr8 := Nat.le_trans hX.size hn8
  have hb3 := hb3.zq2 hE7
  have hb4 := hb4.zq2 hE7
  have hb6 := hb6.zq2 hE7
  have hX := hX.zq4 hE7
  have hb8 : Blk w7 b8 102 ([.slice none 0 0]) := hb8
  refine zq3 (zq1 (zq5 (zq5 (zq0 (wl_p I_ok rfl (wl (st_ld I_ok rfl (hb6.seg.obj hoi).leaves (wl_p I_ok rfl (zq3 (zq1 (zx4 ?_)))))))))))
  refine zv3 (α := Nat × Option Addr × Nat) [0, 4, 8, 24, 25] rfl (fun z => [(26, .int .i64 (z.1 : Int))]) (fun z u => (z.1 ≤ ((toHp l).kObj x 2).leaves.length ∧ (∀ y ∈ ((toHp l).kObj x 2).leaves.take z.1, (toHp l).kErr y.id 1 = 0) ∧ Own u z.2.1 ((toHp l).rowsOf (((toHp l).kObj x 2).leaves.take z.1)).length z.2.2 99 2 (((toHp l).rowsOf (((toHp l).kObj x 2).leaves.take z.1)).flatMap RowD.cells) ∧ (∀ y, OwnB z.2.1 y → w.heap.size ≤ y)) ∧ Blk u b3 31 (zq6 x) ∧ Blk u b4 102 (cellsOf ti102.zero) ∧ Blk u b8 102 ([.slice z.2.1 ((toHp l).rowsOf (((toHp l).kObj x 2).leaves.take z.1)).length z.2.2]) ∧ Ext No w u) (fun z u => ((toHp l).kObj x 2).leaves.length - z.1) (0, none, 0) rfl ⟨⟨Nat.zero_le _, fun _ h => by simp at h, Own.nil _ _ _, noOwn⟩, hb3, hb4, hb8, hX⟩ ?_
  rintro ⟨i, q, k⟩ w8 ⟨⟨hi, hok, hq, hqn⟩, hb3, hb4, hb8, hX⟩
  try dsimp only
  dsimp only at hi hok hq hqn
  refine zq5 (zq0 (wl_p I_ok rfl (zq3 (zq1 (zq5 (c_if rfl (fun hc => ?_) (fun hc => ?_)))))))
  ·have hi : i < ((toHp l).kObj x 2).leaves.length := by omega
   obtain ⟨qb, qoff, hp, hsq⟩ := hol.leaves.rowAll (fun r hr => zj8.len (hoi.leaves r hr).2) (by omega)
   rw [hp]
   have ha1 := hoi.leaves _ (List.getElem_mem hi)
   have hrl := rowsOf_len (toHp l) (((toHp l).kObj x 2).leaves.take i)
   rw [List.length_take] at hrl
   have hq0 := hq
   refine zx7 (zq1 (zq5 (zx4 (zq5 (zq0 (wl (st_ix I_ok rfl 33 rfl i rfl (by omega) (qoff + i * 33) rfl (wl (st_ldN I_ok rfl ((hsq i hi).zq2 hX) (zj8.len ha1.2) (wl (zz9 I_ok rfl fun b10 w9 hn10 hb10 hE9 => ?_)))))))))))
   have ne3_10 : b3 ≠ b10 := Nat.ne_of_lt (Nat.lt_of_lt_of_le hb3.lt hn10)
   have ne4_10 : b4 ≠ b10 := Nat.ne_of_lt (Nat.lt_of_lt_of_le hb4.lt hn10)
   have ne8_10 : b8 ≠ b10 := Nat.ne_of_lt (Nat.lt_of_lt_of_le hb8.lt hn10)
   have fr10 := Nat.le_trans hX.size hn10
   have hb3 := hb3.zq2 hE9
   have hb4 := hb4.zq2 hE9
   have hb8 := hb8.zq2 hE9
   have hq := hq.ext hE9 fun _ _ => id
   have hX := hX.zq4 hE9
   have hb10o := hb10
   refine wl (zj1 (l' := (((toHp l).kObj x 2).leaves[i]).cells) I_ok hb10 rfl rfl (zj8.len ha1.2) (zj8.len ha1.2) OneC.h fun w10 hb10 hE10 hs10 => ?_)
   have hb3 := hb3.ext1 hE10 ne3_10
   have hb4 := hb4.ext1 hE10 ne4_10
   have hb8 := hb8.ext1 hE10 ne8_10
   have hq := hq.zx9 hE10 hb10o (by decide)
   have hX := hX.zx1 hE10 fr10
   refine zq3 (zq1 (zq5 (zq0 (wl_p I_ok rfl (wl (st_ldN I_ok rfl (by have := hb10.seg.drop 1; exact this) (IdIn.len ha1.2) ?_))))))
   refine wl (zx2 Tryz.call129 rfl rfl rfl rfl rfl rfl (kindB_calls w10 (hB.zq2 hX) ha1.2 1) fun v11 w11 hr11 => ?_)
   obtain ⟨rfl, hE11⟩ := hr11
   have hb3 := hb3.zq2 hE11
   have hb4 := hb4.zq2 hE11
   have hb8 := hb8.zq2 hE11
   have hb10 := hb10.zq2 hE11
   have hq := hq.ext hE11 fun _ _ => id
   have hX := hX.zq4 hE11
   refine wl_p I_ok rfl (wl (zz9 I_ok rfl fun b11 w12 hn11 hb11 hE12 => ?_))
   have ne3_11 : b3 ≠ b11 := Nat.ne_of_lt (Nat.lt_of_lt_of_le hb3.lt hn11)
   have ne4_11 : b4 ≠ b11 := Nat.ne_of_lt (Nat.lt_of_lt_of_le hb4.lt hn11)
   have ne8_11 : b8 ≠ b11 := Nat.ne_of_lt (Nat.lt_of_lt_of_le hb8.lt hn11)
   have ne10_11 : b10 ≠ b11 := Nat.ne_of_lt (Nat.lt_of_lt_of_le hb10.lt hn11)
   have fr11 := Nat.le_trans hX.size hn11
   have hb3 := hb3.zq2 hE12
   have hb4 := hb4.zq2 hE12
   have hb8 := hb8.zq2 hE12
   have hb10 := hb10.zq2 hE12
   have hq := hq.ext hE12 fun _ _ => id
   have hX := hX.zq4 hE12
   have hb11o := hb11
   refine wl (zj1 (l' := objC ((toHp l).kObj (((toHp l).kObj x 2).leaves[i]).id 1) (kObjP l (((toHp l).kObj x 2).leaves[i]).id 1)) I_ok hb11 rfl rfl (zq7 (h.kIn _ 1)) (by rw [zq7 (h.kIn _ 1)]; rfl) OneC.h fun w13 hb11 hE13 hs13 => ?_)
   have hb3 := hb3.ext1 hE13 ne3_11
   have hb4 := hb4.ext1 hE13 ne4_11
   have hb8 := hb8.ext1 hE13 ne8_11
   have hb10 := hb10.ext1 hE13 ne10_11
   have hq := hq.zx9 hE13 hb11o (by decide)
   have hX := hX.zx1 hE13 fr11
   refine wl_p I_ok rfl (zq3 (zq1 (zq5 (zq5 (zq0 (wl_p I_ok rfl (zq3 (zq1 (c_if rfl (fun hc => ?_) (fun hc => ?_))))))))))
   ·have hE1 := hE.trans (Hp.txErr_bad hi hok hc)
    have hM := Hp.map_no hE1 hc
    refine zq5 (zq0 (wl (st_bd I_ok rfl trivial (l' := [.slice none 0 0]) rfl (wl_p I_ok rfl ?_))))
    refine wl (zj1 (l' := [.slice none 0 0]) I_ok hb4 rfl rfl rfl rfl OneC.h fun w14 hb4 hE14 hs14 => ?_)
    have hX := hX.zx1 hE14 fr4
    refine wl_p I_ok rfl (zq3 (zq1 (zj0 (zx5 (zz3 (zx5 (zx5 (zz3 (zx5 (f_ret [_, _] ⟨⟨b4, 0, rfl, ld_all I_ok rfl rfl hb4.seg rfl⟩, rfl, trivial⟩ ?_))))))))))
    exact ⟨none, 0, by rw [hE1, hM]; rfl, by rw [hM]; exact Own.nil _ _ _, noOwn, hX⟩
   ·have hk1 : (toHp l).kErr (((toHp l).kObj x 2).leaves[i]).id 1 = 0 := Decidable.not_not.1 hc
    refine zx7 (zq1 (zq0 (wl_p I_ok rfl (wl (st_ldb I_ok hb8 rfl rfl (wl_p I_ok rfl (wl (st_ldb I_ok hb10 rfl rfl (wl_p I_ok rfl (wl (st_ld I_ok rfl (hb11.seg.obj (h.kIn _ 1)).text ?_)))))))))))
    refine wl (st_bd I_ok rfl ⟨⟨rfl, by decide⟩, ⟨rfl, by decide⟩, trivial⟩ (l' := (row8 l ((toHp l).kObj x 2).leaves[i]).cells) (by rw [rowZ_c]; rfl) ?_)
    refine wl (st_bs I_ok rfl 2 rfl rowZ_c rfl (by decide) (by decide) ⟨⟨rfl, by decide⟩, trivial⟩ (l' := (row8 l ((toHp l).kObj x 2).leaves[i]).cells) rfl fun b48 w15 hn48 hb48 hE15 hs15 => ?_)
    have hb3 := hb3.zq2 hE15
    have hb4 := hb4.zq2 hE15
    have hb8 := hb8.zq2 hE15
    have hq := hq.ext hE15 fun _ _ => id
    have hX := hX.zq4 hE15
    have hX1 := hX
    have hs48 : Sl w15 (some ⟨b48, 0, none⟩) 1 2 (row8 l ((toHp l).kObj x 2).leaves[i]).cells := ⟨RowD.len _, .inr ⟨b48, 0, rfl, hb48.seg⟩⟩
    have hrm : ((toHp l).rowsOf (((toHp l).kObj x 2).leaves.take i)).length + 1 ≤ maxLen := room_ml (by rw [hrl]; exact Nat.le_trans (Nat.min_le_right _ _) (Nat.le_of_lt hll))
    have hrm2 : (((toHp l).rowsOf (((toHp l).kObj x 2).leaves.take i)).length + 1) * 32 ≤ 140737488355328 := room_by (by rw [hrl]; exact Nat.le_trans (Nat.min_le_right _ _) (Nat.le_of_lt hll))
    refine wl (zv2 I_ok rfl 2 32 rfl rfl rfl (by decide) hq (Src.slice (m := 1) hs48 OneC.h) hrm hrm2 fun p16 c16 w16 ho16 hE16 hB16 => ?_)
    dsimp only at ho16 hE16 hB16 ⊢
    have hX := hX1.trans hE16 fun y hy hF => by have := hqn y hF; omega
    have hb3 := hb3.zq8 hq hE16 (by decide)
    have hb4 := hb4.zq8 hq hE16 (by decide)
    have hb8 := hb8.zq8 hq hE16 (by decide)
    have hsz1 := hX1.size
    obtain ⟨q2, k2, e1, e2, hq2⟩ : ∃ q2 k2, q2 = p16 ∧ k2 = c16 ∧ Own w16 q2 ((toHp l).rowsOf (((toHp l).kObj x 2).leaves.take (i + 1))).length k2 99 2 (((toHp l).rowsOf (((toHp l).kObj x 2).leaves.take (i + 1))).flatMap RowD.cells) := ⟨_, _, rfl, rfl, by
     rw [rowsOf_take hi, List.flatMap_append, List.length_append]
     simpa using ho16⟩
    rw [← e1] at hB16
    rw [← e1, ← e2]
    have hqn2 : (∀ y, OwnB q2 y → w.heap.size ≤ y) := fun x hx => (hB16 x hx).elim (fun h => hqn x h) fun h => by omega
    refine wl_p I_ok rfl ?_
    have hb8o := hb8
    refine wl (st_st I_ok hb8 rfl rfl rfl fun w17 hb8 hE17 hs17 => ?_)
    have hb3 := hb3.ext1 hE17 ne3_8
    have hb4 := hb4.ext1 hE17 ne4_8
    have hq2 := hq2.zx9 hE17 hb8o (by decide)
    have hX := hX.zx1 hE17 fr8
    have hb8 : Blk w17 b8 102 ([.slice q2 ((toHp l).rowsOf (((toHp l).kObj x 2).leaves.take (i + 1))).length k2]) := (by
     rw [rowsOf_take hi, List.length_append]
     exact hb8)
    refine zq3 (zx6 (zq1 (zq0 (wl_p I_ok rfl ?_))))
    rw [IntWalk.i64_in _ (by omega)]
    refine zq3 ?_
    exact zv1 (i + 1, q2, k2) rfl ⟨⟨hi, fun y hy => by rw [List.take_succ_eq_append_getElem hi] at hy; rcases List.mem_append.1 hy with hy | hy; exact hok y hy; rw [List.mem_singleton.1 hy]; exact hk1, hq2, hqn2⟩, hb3, hb4, hb8, hX⟩ (by first | omega | (dsimp only; omega))
  ·have h0 : i = ((toHp l).kObj x 2).leaves.length := by omega
   subst h0
   rw [List.take_length] at hok hq hb8
   have hE0 := hE.trans (Hp.txErr_ok hok)
   have hM := Hp.map_ok hE0
   refine c_exit (zx3 (zx3 (zz0 (zq1 (zq5 (zq0 (wl (zj2 I_ok hb8 rfl rfl ?_))))))))
   have hb4o := hb4
   refine wl (zj1 (l' := [.slice q ((toHp l).rowsOf ((toHp l).kObj x 2).leaves).length k]) I_ok hb4 rfl rfl rfl rfl OneC.h fun w18 hb4 hE18 hs18 => ?_)
   have hq := hq.zx9 hE18 hb4o (by decide)
   have hX := hX.zx1 hE18 fr4
   refine wl_p I_ok rfl (zq3 (zq1 (zj0 (f_ret [_, _] ⟨⟨b4, 0, rfl, ld_all I_ok rfl rfl hb4.seg rfl⟩, rfl, trivial⟩ ?_))))
   exact ⟨q, k, by rw [hE0, hM]; rfl, by rw [hM]; exact hq, hqn, hX⟩
theorem linksB_obj (h : Hp) (x : IdB) : linksB (h.obj x) = h.links x := by
 unfold Hp.links linksB
 split
 ·rfl
 ·rename_i hk
  unfold Hp.obj at hk ⊢
  cases hg : h.get x with
  | none => rfl
  | some o =>
   rw [hg] at hk
   dsimp only at hk ⊢
   by_cases ho : ObjOk o
   ·exact absurd (by rw [if_pos ho]; exact ho) hk
   ·rw [if_neg ho]; rfl
def gotF (h : Hp) (D : List IdB) : List UInt8 → Option Bool := fun y => if y ∈ D then some (decide (h.err y = 0)) else none
theorem gotF_some (h : Hp) (D : List IdB) (y : IdB) : (gotF h D y).isSome = decide (y ∈ D) := by
 unfold gotF
 by_cases hy : y ∈ D
 ·rw [if_pos hy, decide_eq_true hy]; rfl
 ·rw [if_neg hy, decide_eq_false hy]; rfl
theorem gotF_step (h : Hp) (D : List IdB) (y : IdB) : setM (gotF h D) y (decide (h.err y = 0)) = gotF h (D ++ [y]) := by
 funext z
 unfold setM gotF
 by_cases hz : z = y
 ·subst hz; simp
 ·simp [hz]
structure Srch (h : Hp) (x : IdB) (D S : List IdB) : Prop where
  nd : D.Nodup
  led : ∀ y ∈ D, h.Leads x y
  stk : ∀ y ∈ S, h.Leads x y
  has : x ∈ D ∨ x ∈ S
  cl : ∀ y ∈ D, ∀ z ∈ h.links y, z ∈ D ∨ z ∈ S
theorem Srch.start (h : Hp) (x : IdB) : Srch h x [] [x] := ⟨List.nodup_nil, (fun _ hy => by cases hy), fun y hy => by rw [List.mem_singleton.1 hy]; exact .here, .inr (by simp), fun _ hy => by cases hy⟩
theorem Srch.pop {h : Hp} {x y : IdB} {D S : List IdB} (hs : Srch h x D (S ++ [y])) (hy : y ∈ D) : Srch h x D S := by
 have key : ∀ z, z ∈ D ∨ z ∈ S ++ [y] → z ∈ D ∨ z ∈ S := fun z hz => by
  rcases hz with hz | hz
  ·exact .inl hz
  ·rcases List.mem_append.1 hz with hz | hz
   ·exact .inr hz
   ·rw [List.mem_singleton.1 hz]; exact .inl hy
 exact ⟨hs.nd, hs.led, fun z hz => hs.stk z (List.mem_append_left _ hz), key x hs.has, fun u hu z hz => key z (hs.cl u hu z hz)⟩
theorem Srch.on {h : Hp} {x y : IdB} {D S : List IdB} (hs : Srch h x D (S ++ [y])) (hy : ¬ y ∈ D) : Srch h x (D ++ [y]) (S ++ h.links y) := by
 have hyl := hs.stk y (by simp)
 have key : ∀ z, z ∈ D ∨ z ∈ S ++ [y] → z ∈ D ++ [y] ∨ z ∈ S ++ h.links y := fun z hz => by
  rcases hz with hz | hz
  ·exact .inl (List.mem_append_left _ hz)
  ·rcases List.mem_append.1 hz with hz | hz
   ·exact .inr (List.mem_append_left _ hz)
   ·exact .inl (List.mem_append_right _ hz)
 refine ⟨List.nodup_append.2 ⟨hs.nd, by simp, fun a ha b hb e => ?_⟩, fun z hz => ?_, fun z hz => ?_, key x hs.has, fun u hu z hz => ?_⟩
 ·rw [List.mem_singleton.1 hb] at e; exact hy (e ▸ ha)
 ·rcases List.mem_append.1 hz with hz | hz
  ·exact hs.led z hz
  ·rw [List.mem_singleton.1 hz]; exact hyl
 ·rcases List.mem_append.1 hz with hz | hz
  ·exact hs.stk z (List.mem_append_left _ hz)
  ·exact .on hyl hz
 ·rcases List.mem_append.1 hu with hu | hu
  ·exact key z (hs.cl u hu z hz)
  ·rw [List.mem_singleton.1 hu] at hz; exact .inr (List.mem_append_right _ hz)
theorem Srch.len {h : Hp} {x : IdB} {D S : List IdB} (hs : Srch h x D S) : D.length ≤ (h.all x).length := sub_len hs.nd fun y hy => (hs.led y hy).all
theorem Srch.done {h : Hp} {x : IdB} {D : List IdB} (hs : Srch h x D []) : ∀ y, y ∈ D ↔ h.Leads x y := fun y =>
 ⟨hs.led y, fun hy => Hp.Leads.sub (S := fun z => z ∈ D) (hs.has.resolve_right (by simp)) (fun u hu z hz => (hs.cl u hu z hz).resolve_right (by simp)) y hy⟩
noncomputable def ledF (h : Hp) (x : IdB) : List UInt8 → Option Bool := gotF h (h.led x)
theorem Srch.ledF {h : Hp} {x : IdB} {D : List IdB} (hs : Srch h x D []) : gotF h D = ledF h x := by
 funext y
 unfold Go.Proofs.YtpcdihkcenfgkaaGreatDoor.ledF gotF
 have : y ∈ D ↔ y ∈ h.led x := (hs.done y).trans (h.led_mem x y).symm
 by_cases hy : y ∈ D
 ·rw [if_pos hy, if_pos (this.1 hy)]
 ·rw [if_neg hy, if_neg fun k => hy (this.2 k)]
def msr (M d s : Nat) : Nat := (M - d) * (M + 1) + s
theorem msr_pop (M d s : Nat) : msr M d s < msr M d (s + 1) := by unfold msr; omega
theorem msr_on {M d s k : Nat} (hd : d + 1 ≤ M) (hk : k ≤ M) : msr M (d + 1) (s + k) < msr M d (s + 1) := by
 unfold msr
 have : M - d = (M - (d + 1)) + 1 := by omega
 rw [this, Nat.succ_mul]
 omega
theorem Own.cut32 {w : World} {q : Option Addr} {k T : Nat} {S : List IdB} {y : IdB} (h : Own w q (S.length + 1) k T 32 ((S ++ [y]).flatMap zq6)) (hS : ∀ x ∈ S ++ [y], IdIn x) : Own w q S.length k T 32 (S.flatMap zq6) := by
 rcases h with ⟨_, h0, _⟩ | ⟨b, l, h1, h2, h3, h4, h5, h6⟩
 ·omega
 ·refine .inr ⟨b, l, h1, h2, h3, by omega, h5, ?_⟩
  have e := flat_take32 S.length (S ++ [y]) hS
  rw [List.take_left, ← h6, List.take_take, Nat.min_eq_left (by omega)] at e
  exact e
theorem own_last {w : World} {q : Option Addr} {k T : Nat} {S : List IdB} {y : IdB} (h : Own w q (S.length + 1) k T 32 ((S ++ [y]).flatMap zq6)) (hS : ∀ x ∈ S ++ [y], IdIn x) : ∃ qb, q = some ⟨qb, 0, none⟩ ∧ Seg w qb (S.length * 32) (zq6 y) := by
 rcases h with ⟨_, h0, _⟩ | ⟨b, l, h1, h2, h3, h4, h5, h6⟩
 ·omega
 ·refine ⟨b, h1, ?_⟩
  have hs : Seg w b 0 ((S ++ [y]).flatMap zq6) := by rw [← h6]; exact h2.seg.take _
  have := hs.drop (S.length * 32)
  rw [flat_drop32 _ _ hS, List.drop_left, List.flatMap_singleton, Nat.zero_add] at this
  exact this
theorem one_own {w : World} {b T : Nat} {x : IdB} (hx : IdIn x) (hb : Blk w b T (zq6 x)) : Own w (some ⟨b, 0, none⟩) 1 1 T 32 ([x].flatMap zq6) := by
 rw [List.flatMap_singleton]
 exact .inr ⟨b, _, rfl, hb, by rw [zx0, hx], Nat.le_refl _, by decide, List.take_of_length_le (by rw [zx0, hx]; decide)⟩
theorem gotF_nil (h : Hp) : (fun _ => none) = gotF h [] := by
 funext y
 unfold gotF
 simp
theorem HpIn.allLen2 {w : World} {p : Option Addr} {l : List zz4} (h : HpIn w p l) (x : IdB) : ((toHp l).all x).length < 100001 := by
 have e : (toHp l).flatMap (fun e => zj3 e.2) = l.flatMap fun e => zj3 e.o := by rw [toHp, List.flatMap_map]
 have := h.lk
 rw [Hp.all, e, List.length_cons]
 omega
theorem room_stk {M d s k : Nat} (hM : M < 100001) (hd : d ≤ M) (hs : s ≤ d * M + 1) (hk : k ≤ M) : s + k ≤ maxLen ∧ (s + k) * 32 ≤ 140737488355328 := by
 have h1 : d * M ≤ 100001 * 100001 := Nat.mul_le_mul (by omega) (by omega)
 have h2 : (100001 : Nat) * 100001 = 10000200001 := by decide
 dsimp only [maxLen]
 omega
theorem leadsB_calls (w : World) {p : Option Addr} {r : Nat} {l : List zz4} {x : IdB} (hB : BkIn w p l r) (hx : IdIn x) :
  zz1 Tryz.prog 76 [.map (some r), idV x] w fun v w' => ∃ m, v = .map (some m) ∧ w.heap.size ≤ m ∧ MapB w' m Value.bool (ledF (toHp l) x) ∧ Ext No w w' := by
 have h := hB.h
 have hidn := h.leadsIn hx
 have hall := h.allLen2 x
 obtain ⟨M, hMd⟩ : ∃ M, M = ((toHp l).all x).length := ⟨_, rfl⟩
 rw [← hMd] at hall
 refine zq9 Tryz.func76 rfl rfl rfl rfl ?_
 have hX := Ext.refl No w
 refine zq5 (zq0 (wl (zz9 I_ok rfl fun b3 w1 hn3 hb3 hE1 => ?_)))
 have hX := hX.zq4 hE1
 have hb3 : Blk w1 b3 31 (zq6 x) := hb3
 refine wl_p I_ok rfl (zq3 (zq1 (c_scope (zq5 (zq0 (wl (st_mm Value.bool rfl fun r13 w2 hr13 hM hE2 hs2 => ?_)))))))
 have hr13w := Nat.le_trans hX.size hr13
 have hX := hX.zq4 hE2
 have hb3 := hb3.zq2 hE2
 refine wl_p I_ok rfl (zq3 (zq1 (zq5 (zq0 (wl (zj2 I_ok hb3 rfl hx.len ?_))))))
 refine wl (st_bs I_ok rfl 32 rfl idZ_c.symm (by rw [zx0]; rfl) (by decide) (by decide) ⟨⟨by rw [zj9]; exact (IdIn.len hx), by decide⟩, trivial⟩ (l' := zq6 x) (one_id hx) fun b15 w3 hn15 hb15 hE3 hs3 => ?_)
 have fr15 := Nat.le_trans hX.size hn15
 have hM := hM.zq2 hE3
 have hX := hX.zq4 hE3
 refine wl_p I_ok rfl (zq3 (zq1 (zq5 (c_label (zq1 (zq5 (zx4 ?_)))))))
 refine zv3 (α := List IdB × List IdB × Option Addr × Nat) [0, 5] rfl (fun z => [(6, .slice z.2.2.1 z.2.1.length z.2.2.2)]) (fun z u => ((Srch (toHp l) x z.1 z.2.1 ∧ z.2.1.length ≤ z.1.length * M + 1) ∧ Own u z.2.2.1 z.2.1.length z.2.2.2 31 32 (z.2.1.flatMap zq6) ∧ (∀ y, OwnB z.2.2.1 y → w.heap.size ≤ y) ∧ MapB u r13 Value.bool (gotF (toHp l) z.1)) ∧ Ext No w u) (fun z u => msr M z.1.length z.2.1.length) ([], [x], some ⟨b15, 0, none⟩, 1) rfl ⟨⟨⟨Srch.start _ _, by simp⟩, one_own hx hb15, newB fr15, by rw [← gotF_nil]; exact hM⟩, hX⟩ ?_
 rintro ⟨D, S, q, k⟩ w4 ⟨⟨⟨hS, hSl⟩, hq, hqn, hM⟩, hX⟩
 try dsimp only
 dsimp only at hS hSl hq hqn hM
 refine zx4 (zq5 (zq0 (wl_p I_ok rfl (zq3 (zq1 (zq5 (zq5 (zq0 (wl_p I_ok rfl (zq3 (zq1 (c_if rfl (fun hc => ?_) (fun hc => ?_)))))))))))))
 ·have h0 : S = [] := List.eq_nil_of_length_eq_zero (by omega)
  subst h0
  rw [hS.ledF] at hM
  refine c_exit (zx3 (f_blockE' rfl (zx3 (zz0 (zq1 (zq5 (zq0 (wl_p I_ok rfl (zq3 (zq1 (zj0 (f_noGotoR (zz2 rfl rfl ?_)))))))))))))
  exact ⟨r13, rfl, hr13w, hM, hX⟩
 ·obtain ⟨S, y, rfl⟩ : ∃ S' y, S = S' ++ [y] := ⟨S.dropLast, S.getLast (fun e => hc (by rw [e]; rfl)), (List.dropLast_concat_getLast _).symm⟩
  have hSi : ∀ z ∈ S ++ [y], IdIn z := fun z hz => hidn z (hS.stk z hz)
  have hy := hSi y (by simp)
  have hyl := hS.stk y (by simp)
  have eS : (S ++ [y]).length = S.length + 1 := by rw [List.length_append]; rfl
  rw [eS] at hSl hq ⊢
  have hDl := hS.len
  rw [← hMd] at hDl
  obtain ⟨qb, hqb, hyseg⟩ := own_last hq hSi
  subst hqb
  have hqS := Own.cut32 hq hSi
  have hSl2 : S.length + 1 ≤ D.length * M + 1 := by omega
  have hSb : S.length < 5000000000000 := by have := (room_stk hall hDl hSl2 (Nat.zero_le M)).2; omega
  have hmp := msr_pop M D.length S.length
  refine zx7 (zq1 (zq5 (zq0 (wl_p I_ok rfl ?_))))
  rw [IntWalk.i64_in _ (by omega)]
  refine wl (st_ix I_ok rfl 32 rfl S.length (by omega) (by omega) (0 + S.length * 32) rfl (wl (st_ldN I_ok rfl (by rw [Nat.zero_add]; exact hyseg) hy.len ?_)))
  have hqSA := hqS
  refine wl (zz9 I_ok rfl fun b8 w5 hn8 hb8 hE5 => ?_)
  have fr8 := Nat.le_trans hX.size hn8
  have hM := hM.zq2 hE5
  have hX := hX.zq4 hE5
  have hEa8 := hE5
  have hb8o := hb8
  refine wl (zj1 (l' := zq6 y) I_ok hb8 rfl rfl hy.len (by rw [zx0, hy]; rfl) OneC.h fun w6 hb8 hE6 hs6 => ?_)
  have hM := hM.ext1 hE6 hb8o
  have hqS := hqSA.ext ((Ext.no hEa8).trans hE6 fun _ _ k => k) (fun z hz k => by have := hqSA.lt hz; have k : z = b8 := k; omega)
  have hX := hX.zx1 hE6 fr8
  refine zq3 (zq1 (zq5 (zq0 (wl_p I_ok rfl ?_))))
  rw [IntWalk.i64_in _ (by omega)]
  refine wl (st_sl I_ok rfl 0 S.length k 32 rfl (.inr ⟨rfl, rfl⟩) (.inl (congrArg some (by omega))) (.inr ⟨rfl, rfl⟩) (Nat.zero_le _) hqS.cap (Nat.le_refl _) ?_)
  dsimp only
  rw [slBase_zero, Nat.sub_zero, Nat.sub_zero]
  refine wl_p I_ok rfl (zq3 (zq1 (zq5 (zq5 (zq0 (wl_p I_ok rfl (wl (zj2 I_ok hb8 rfl hy.len (wl (st_lu I_ok rfl idK hy rfl hM ?_))))))))))
  simp only [if_true]
  rw [gotF_some]
  refine wl_p I_ok rfl (zq3 (zq1 (zq5 (zq0 (wl_p I_ok rfl (zq3 (zq1 (c_cond rfl (fun hc => ?_) (fun hc => ?_)))))))))
  ·have hyD : y ∈ D := of_decide_eq_true hc
   have hS2 := hS.pop hyD
   refine c_exit ?_
   exact zx3 (zz0 (zv1 (D, S, some ⟨qb, 0, none⟩, k) rfl ⟨⟨⟨hS2, by dsimp only; omega⟩, hqS, hqn, hM⟩, hX⟩ (by first | omega | (dsimp only; omega))))
  ·have hyD : ¬ y ∈ D := of_decide_eq_false hc
   have hS2 := hS.on hyD
   have hDl2 := hS2.len
   rw [← hMd] at hDl2
   have hDe : (D ++ [y]).length = D.length + 1 := by rw [List.length_append]; rfl
   have hlk : ((toHp l).links y).length ≤ M := by rw [hMd]; exact links_len _ _ x
   have hmo := msr_on (M := M) (d := D.length) (s := S.length) (by omega) hlk
   obtain ⟨hr1, hr2⟩ := room_stk (s := S.length) hall hDl (by omega) hlk
   have hmul : (D.length + 1) * M = D.length * M + M := Nat.succ_mul _ _
   refine zx7 (zq1 (zq5 (zq0 (wl_p I_ok rfl (wl (zj2 I_ok hb8 rfl hy.len (wl (zx2 Tryz.call71 rfl rfl rfl rfl rfl rfl (getB_calls w6 (hB.zq2 hX) hy) fun v7 w7 hr7 => ?_))))))))
   obtain ⟨rfl, hE7⟩ := hr7
   have hb8 := hb8.zq2 hE7
   have hM := hM.zq2 hE7
   have hqS := hqS.ext hE7 fun _ _ => id
   have hX := hX.zq4 hE7
   refine wl_p I_ok rfl ?_
   have hqSA := hqS
   refine wl (zz9 I_ok rfl fun b11 w8 hn11 hb11 hE8 => ?_)
   have ne8_11 : b8 ≠ b11 := Nat.ne_of_lt (Nat.lt_of_lt_of_le hb8.lt hn11)
   have fr11 := Nat.le_trans hX.size hn11
   have hb8 := hb8.zq2 hE8
   have hM := hM.zq2 hE8
   have hX := hX.zq4 hE8
   have hEa11 := hE8
   have hb11o := hb11
   refine wl (zj1 (l' := objC ((toHp l).obj y) (objP l y)) I_ok hb11 rfl rfl (zq7 (h.objIn y)) (by rw [zq7 (h.objIn y)]; rfl) OneC.h fun w9 hb11 hE9 hs9 => ?_)
   have hb8 := hb8.ext1 hE9 ne8_11
   have hM := hM.ext1 hE9 hb11o
   have hqS := hqSA.ext ((Ext.no hEa11).trans hE9 fun _ _ k => k) (fun z hz k => by have := hqSA.lt hz; have k : z = b11 := k; omega)
   have hX := hX.zx1 hE9 fr11
   refine wl_p I_ok rfl (zq3 (zq1 (zq5 (zq0 (wl_p I_ok rfl (wl (zj2 I_ok hb8 rfl hy.len (wl_p I_ok rfl (wl (st_mu I_ok rfl idK hy rfl hM (b := decide ((toHp l).err y = 0)) rfl fun w10 hM2 hE10 hs10 => ?_))))))))))
   rw [gotF_step] at hM2
   have hqS := hqS.extMap hM hE10
   have hb11 := hb11.extMap hM hE10
   have hM := hM2
   have hX := hX.zx1 hE10 hr13w
   refine zq3 (zq1 (zq0 (wl_p I_ok rfl (wl (zj2 I_ok hb11 rfl (zq7 (h.objIn y)) (wl (zx2 Tryz.call133 rfl rfl rfl rfl rfl rfl (links_calls w10 (h.objIn y) ((h.zq2 hX).objL y) (h.objSh y)) fun v11 w11 hr11 => ?_)))))))
   obtain ⟨ql, kl, rfl, hl0, hln, hE11⟩ := hr11
   have hM := hM.zq2 hE11
   have hqS := hqS.ext hE11 fun _ _ => id
   have hX := hX.zq4 hE11
   rw [linksB_obj] at hl0 ⊢
   have hX0 := hX
   refine wl (zv2 I_ok rfl 32 32 rfl rfl rfl (by decide) hqS (Src.slice hl0.sl OneC.h) hr1 hr2 fun p12 c12 w12 ho12 hE12 hB12 => ?_)
   dsimp only at ho12 hE12 hB12 ⊢
   have hX := hX0.trans hE12 fun z hz hF => by have := hqn z hF; omega
   have hM := hM.zq8 hqS hE12
   have hqn2 := newW hX0 hqn hB12
   have hl2 : S.length + ((toHp l).links y).length = (S ++ (toHp l).links y).length := List.length_append.symm
   have hq2 : Own w12 p12 (S ++ (toHp l).links y).length c12 31 32 ((S ++ (toHp l).links y).flatMap zq6) := by
    rw [← hl2, List.flatMap_append]
    exact ho12
   rw [hl2]
   rw [hl2, ← hDe] at hmo
   refine wl_p I_ok rfl (zq3 ?_)
   exact zx6 (zv1 (D ++ [y], S ++ (toHp l).links y, p12, c12) rfl ⟨⟨⟨hS2, by rw [hDe, hmul, ← hl2]; omega⟩, hq2, hqn2, hM⟩, hX⟩ (by first | omega | (dsimp only; omega)))
end Go.Proofs.YtpcdihkcenfgkaaGreatDoor
