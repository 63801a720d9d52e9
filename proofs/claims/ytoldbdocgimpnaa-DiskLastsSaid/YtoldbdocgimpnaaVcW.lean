/-
  A row of one's own that begins somewhere in its block: append to it.
-/
import Derived.Test.YtoldbdocgimpnaaVcU
namespace Go.Vc

def OwnF (w : World) (p : Option Addr) (n c T sz : Nat) (xs : List Value) : Prop :=
  ∃ b off l, p = some ⟨b, off, none⟩ ∧ Blk w b T l ∧ off + c * sz ≤ l.length ∧ n ≤ c ∧ c ≤ maxLen ∧ (l.drop off).take (n * sz) = xs
def InB (p : Option Addr) : Nat → Prop := fun x => ∃ off, p = some ⟨x, off, none⟩
theorem OwnF.len {w : World} {p : Option Addr} {n c T sz : Nat} {xs : List Value} (h : OwnF w p n c T sz xs) : xs.length = n * sz := by
  obtain ⟨b, off, l, _, _, hl, hn, _, rfl⟩ := h
  have : n * sz ≤ c * sz := Nat.mul_le_mul_right _ hn
  rw [List.length_take, List.length_drop]
  omega
theorem OwnF.sl {w : World} {p : Option Addr} {n c T sz : Nat} {xs : List Value} (h : OwnF w p n c T sz xs) : Sl w p n sz xs := by
  refine ⟨h.len, ?_⟩
  obtain ⟨b, off, l, hp, hb, hl, hn, _, rfl⟩ := h
  refine .inr ⟨b, off, hp, ?_⟩
  have := (hb.seg.drop off).take (n * sz)
  rwa [Nat.zero_add] at this
theorem OwnF.ext {S : Nat → Prop} {w w' : World} {p : Option Addr} {n c T sz : Nat} {xs : List Value} (h : OwnF w p n c T sz xs) (hE : Ext S w w') (hS : ∀ x, InB p x → ¬ S x) : OwnF w' p n c T sz xs := by
  obtain ⟨b, off, l, hp, hb, r⟩ := h
  exact ⟨b, off, l, hp, hb.ext hE (hS b ⟨off, hp⟩), r⟩
theorem OwnF.lt {w : World} {p : Option Addr} {n c T sz : Nat} {xs : List Value} (h : OwnF w p n c T sz xs) {x : Nat} (hx : InB p x) : x < w.heap.size := by
  obtain ⟨b, off, l, hp, hb, _⟩ := h
  obtain ⟨o, ho⟩ := hx
  rw [hp] at ho
  simp at ho
  rw [← ho.1]
  exact hb.lt
theorem OwnF.ty {w : World} {p : Option Addr} {n c T sz : Nat} {xs : List Value} (h : OwnF w p n c T sz xs) {x : Nat} (hx : InB p x) {U : Nat} {m : List Value} {y : Nat} (k : Blk w y U m) (hT : T ≠ U) : x ≠ y := by
  obtain ⟨b, off, l, hp, hb, _⟩ := h
  obtain ⟨o, ho⟩ := hx
  rw [hp] at ho
  simp at ho
  rw [← ho.1]
  exact hb.ne k hT
theorem OwnF.of {w : World} {b n c T : Nat} {l : List Value} (h : Blk w b T l) (sz : Nat) (hl : l.length = c * sz) (hn : n ≤ c) (hc : c ≤ maxLen) {xs : List Value} (hx : l.take (n * sz) = xs) : OwnF w (some ⟨b, 0, none⟩) n c T sz xs :=
  ⟨b, 0, l, rfl, h, by omega, hn, hc, by simpa using hx⟩
theorem Own.toF {w : World} {p : Option Addr} {n c T sz : Nat} {xs : List Value} (h : Own w p n c T sz xs) (hn : n ≠ 0) : OwnF w p n c T sz xs := by
  rcases h with ⟨_, h0, _⟩ | ⟨b, l, rfl, hb, hl, h1, h2, h3⟩
  · exact absurd h0 hn
  · exact .of hb sz hl h1 h2 h3
/-- without its first elements -/
theorem OwnF.tail {w : World} {p : Option Addr} {n c T sz : Nat} {xs : List Value} (h : OwnF w p n c T sz xs) {k : Nat} (hk : k ≤ n) (hc : k < c) : OwnF w (slBase p k c sz) (n - k) (c - k) T sz (xs.drop (k * sz)) := by
  obtain ⟨b, off, l, rfl, hb, hl, hn, hm, rfl⟩ := h
  refine ⟨b, off + k * sz, l, slBase_eq (by omega), hb, ?_, by omega, by omega, ?_⟩
  · have : k * sz + (c - k) * sz = c * sz := by rw [← Nat.add_mul]; congr 1; omega
    omega
  · rw [List.drop_take, List.drop_drop]
    congr 1
    rw [Nat.sub_mul]

section
variable {P : Program} {I : Info} {f : Fs} {ops : Array Oper} {o : Oper} {env : Env} {w : World} {K : Env → World → Prop}
theorem run_appF (hI : I.Ok P) {t t2 ty e : Nat} {y y2 g : TI} (hy : lkT I t = some y) (he : y.desc = .slice e) (hg : lkT I e = some g) (hy2 : lkT I t2 = some y2) (hd2 : (∃ e2, y2.desc = .slice e2) ∨ y2.desc = .string)
    (hz : (cellsOf g.zero).length = g.size) (hz0 : 0 < g.size) {p : Option Addr} {n c : Nat} {xs : List Value} (hown : OwnF w p n c e g.size xs) {x : Value} {m : Nat} {news : List Value} (hsrc : Src P w g.size x m news)
    (hm : n + m ≤ maxLen) (hb : (n + m) * g.bytes ≤ 140737488355328) (hnm : n + m ≠ 0) :
    ∃ p' c' w', (Builtin.append_ #[t, t2] ty #[.slice p n c, x]).run P w = .ok (.slice p' (n + m) c') w' ∧ OwnF w' p' (n + m) c' e g.size (xs ++ news) ∧ Ext (InB p) w w' ∧ (∀ b, InB p' b → InB p b ∨ w.heap.size ≤ b) := by
  by_cases hfit : n + m ≤ c
  · have hu := (hI.get hy).under w
    rw [he] at hu
    have hs := (hI.get hg).sizeOf w
    have hu2 := (hI.get hy2).under w
    have hxl := hown.len
    have hlen := hsrc.1
    unfold Builtin.append_
    simp only [List.getElem?_toArray, List.getElem?_cons_zero, List.getElem?_cons_succ]
    rw [run_under_bind hu]
    simp only []
    rw [Sem.run_bind, hs, Result.andThen_ok]
    rw [run_under_bind hu2]
    rcases hd2 with ⟨e2, h2⟩ | h2 <;> rw [h2] <;> simp only [pure_bind, Bool.false_eq_true, if_false, Bool.not_false, if_true, hlen]
    all_goals
      rw [if_pos hfit]
      simp only [Sem.run_bind, hsrc.cells (fun _ => rfl), Result.andThen_ok]
      obtain ⟨b, off, l, rfl, hblk, hl, hn, hcm, htk⟩ := hown
      have hroom : off + n * g.size + news.length ≤ l.length := by
        rw [hsrc.2.1, Nat.add_assoc, ← Nat.add_mul]
        have := Nat.mul_le_mul_right g.size hfit
        omega
      obtain ⟨w', hr, hb', hE, hsz⟩ := run_storeCells_blk (P := P) news w l (off + n * g.size) 0 hblk (by omega) hsrc.2.2.1
      refine ⟨some ⟨b, off, none⟩, c, w', ?_, ⟨b, off, _, rfl, hb', by rw [put_length]; exact hl, hfit, hcm, ?_⟩, hE.mono ?_, fun x hx => .inl hx⟩
      · have ha : (⟨b, off, none⟩ : Addr).add (n * g.size) = ⟨b, off + n * g.size, none⟩ := by rw [addr_add]
        simp only [ha, Sem.run_bind, hr, Result.andThen_ok, Sem.run_pure]
      · rw [Nat.add_zero, put_eq _ _ _ hroom]
        have h1 : (l.take (off + n * g.size)).drop off = xs := by
          rw [List.drop_take, Nat.add_sub_cancel_left]; exact htk
        have h2 : off ≤ (l.take (off + n * g.size)).length := by rw [List.length_take]; omega
        rw [List.append_assoc, List.drop_append_of_le_length h2, h1, ← List.append_assoc, Nat.add_mul, ← hsrc.2.1, ← hxl, ← List.length_append, List.take_left]
      · intro x _ hx
        subst hx
        exact ⟨off, rfl⟩
  · obtain ⟨c', w', hr, ho, hE⟩ := run_appG (P := P) (ty := ty) (c := c) hI hy he hg hy2 hd2 hz hz0 hown.sl hsrc hm hb (by omega)
    refine ⟨_, c', w', hr, ho.toF hnm, hE.no, fun b hb => .inr ?_⟩
    obtain ⟨off, hb⟩ := hb
    simp at hb
    omega

theorem st_appF (hI : I.Ok P) {s : AppArgs} (h : appE I f.n ops env o = some s) (sz by_ : Nat) (hsz : s.g.size = sz) (hby : s.g.bytes = by_) (hz : (cellsOf s.g.zero).length = sz) (hz0 : 0 < sz) {xs : List Value} (hown : OwnF w s.p s.n s.c s.e sz xs) {m : Nat} {news : List Value} (hsrc : Src P w sz s.x m news)
    (hm : s.n + m ≤ maxLen) (hb : (s.n + m) * by_ ≤ 140737488355328) (hnm : s.n + m ≠ 0)
    (k : ∀ p' c' w', OwnF w' p' (s.n + m) c' s.e sz (xs ++ news) → Ext (InB s.p) w w' → (∀ b, InB p' b → InB s.p b ∨ w.heap.size ≤ b) → K ((s.d, .slice p' (s.n + m) c') :: env) w') : St P f ops o env w K := by
  subst hsz
  subst hby
  unfold appE at h
  split at h
  · cases h
  · rename_i hp
    obtain ⟨e1, e2⟩ := pre_eq hp
    split at h
    · rename_i d' hd
      split at h
      · rename_i xs' ts ho
        split at h
        · rename_i sx xx hxs
          have hx1 : xs' = #[sx, xx] := by apply Array.ext'; simpa using hxs
          subst hx1
          split at h
          · rename_i t t2 hts
            have ht1 : ts = #[t, t2] := by apply Array.ext'; simpa using hts
            subst ht1
            split at h
            · rename_i y hy
              split at h
              · rename_i e he
                split at h
                · rename_i g hg
                  split at h
                  · rename_i y2 hy2
                    split at h
                    · rename_i hss
                      split at h
                      · rename_i p n c hs
                        split at h
                        · rename_i v hv
                          cases h
                          simp only at *
                          obtain ⟨p', c', w', hr, hown', hE, hB⟩ := run_appF (P := P) (ty := o.type) hI hy he hg hy2 (slOrStr_eq hss) hz hz0 hown hsrc hm hb hnm
                          refine st_v e1 e2 (v := .slice p' (n + m) c') (w' := w') (fun ρ hρ => ?_) (by rw [hd]; exact k p' c' w' hown' hE hB)
                          have em : Array.map ρ #[sx, xx] = #[.slice p n c, v] := by simp [hρ _ _ hs, hρ _ _ hv]
                          simp only [execOp, ho, resolve, Sem.run_bind, Sem.run_pure, Result.andThen_ok, invoke, builtin, em, hr]
                        · cases h
                      · cases h
                    · cases h
                  · cases h
                · cases h
              · cases h
            · cases h
          · cases h
        · cases h
      · cases h
    · cases h
end
end Go.Vc
