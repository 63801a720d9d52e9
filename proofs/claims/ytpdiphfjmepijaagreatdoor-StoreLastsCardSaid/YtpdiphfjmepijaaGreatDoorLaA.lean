/-
  Walks and laws towards: StoreLasts: wherever the power goes, what is opened again has what was there, or what the batch was to bring, and all that its objects link to; for whatever deeds.
-/
import Derived.WalkKit
import Derived.Scope
import Derived.Orders
import Derived.Below
import Derived.OwnWalk
import Derived.Still
import Derived.Test.YtpdiphfjmepijaaGreatDoorProg
import Derived.KernelRfl
import Derived.ScopeJumps
open Int renaming toNat_natCast→bV,natCast_nonneg→cF
open List renaming getElem?_toArray→bX,getElem?_append_right→cD,length_nil→cL,getElem?_cons_zero→cN,getElem?_append_left→cO,all_eq_true→dE,flatten_cons→dG,map_cons→dI
open Bool renaming and_eq_true→bY
open Array renaming getD_eq_getD_getElem?→cG,ext'→cH,getElem?_eq_none→cI,getElem?_eq_some_iff→cJ,getElem?_setIfInBounds_ne→dJ
open Nat renaming add_mul→cS,le_of_ble_eq_true→dK,eq_of_beq_eq_true→dL
namespace Go.Vc
theorem Z.{u}{α:Sort u}{a:α}:a=a:=rfl
theorem al:∀{n m k:Nat},n<=m->m<=k->n<=k:=@Nat.le_trans
theorem ao:∀{α:Type _}{s bs:List α},(s++bs).length=s.length+bs.length:=@List.length_append
theorem aA:∀{α:Type _}{β:Type _}{s:List α}(f:α->β),(List.map f s).length=s.length:=@List.length_map
theorem aB:∀(n:Nat),n<=n:=@Nat.le_refl
theorem aC:∀{α:Type _}{l:List α}{n:Nat}(h:n<l.length),l[n]∈l:=@List.getElem_mem
theorem aD:∀{α β:Type}(a:α)(w:World)(f:α->World->Result β),(Result.ok a w).andThen f=f a w:=@Result.andThen_ok
theorem aE:∀{p:Prop}{_:Decidable p},decide p=false↔¬p:=@decide_eq_false_iff_not
theorem aF:∀{α:Type _}{a b:α},a∈[b]↔a=b:=@List.mem_singleton
theorem aG:∀{α:Type _}{l:List α}{i:Nat}(h:i<l.length),l[i]?=some l[i]:=@List.getElem?_eq_getElem
theorem aH:∀{α:Type _}{i:Nat}{l:List α},(List.take i l).length=min i l.length:=@List.length_take
theorem aI:∀{c:Prop}{_:Decidable c},¬c->∀{α:Sort _}{t e:α},(if c then t else e)=e:=@if_neg
theorem aJ:∀(n:Nat),0<=n:=@Nat.zero_le
theorem aK:∀{n m k:Nat},n<m->m<=k->n<k:=@Nat.lt_of_lt_of_le
theorem aL:∀{c:Prop}{_:Decidable c},c->∀{α:Sort _}{t e:α},(if c then t else e)=t:=@if_pos
theorem aM:∀{α:Type _}(s bs cs:List α),s++bs++cs=s++(bs++cs):=@List.append_assoc
theorem aN:∀{α:Type _}{i:Nat}{l:List α},l.length<=i->List.take i l=l:=@List.take_of_length_le
theorem aO:∀{α:Type _}{i:Nat}{l:List α}(h:i<l.length),List.take (i+1) l=List.take i l++[l[i]]:=@List.take_succ_eq_append_getElem
theorem aP:∀{p q:Prop}{_:Decidable p}{_:Decidable q},decide p=decide q↔(p↔q):=@decide_eq_decide
theorem aQ:∀{α:Type _}{a:α}{s:List α},(a::s).length=s.length+1:=@List.length_cons
theorem aR:∀{α:Type}(P:Program)(w:World)(a:α),Sem.run P (pure a) w=Result.ok a w:=@Sem.run_pure
theorem aS:∀{α:Type _}{a:α}{s t:List α},a∈s++t↔a∈s\/a∈t:=@List.mem_append
theorem aT:∀{p:Prop}[Decidable p],¬¬p↔p:=@Decidable.not_not
theorem aU:∀{α:Type _}{l:List α},l.length=0->l=[]:=@List.eq_nil_of_length_eq_zero
theorem aV:∀(n:Nat),0+n=n:=@Nat.zero_add
theorem aW:∀{α:Type _}{s:List α}{i:Nat},s.length<=i->List.drop i s=[]:=@List.drop_eq_nil_of_le
theorem aX:∀{α:Type _}{i:Nat}{l:List α},(List.drop i l).length=l.length - i:=@List.length_drop
theorem aY:∀{α:Type _}{β:Type _}{xs ys:List α}{f:α->List β},List.flatMap f (xs++ys)=List.flatMap f xs++List.flatMap f ys:=@List.flatMap_append
theorem aZ:∀{α:Type _}{β:Type _}{b:β}{f:α->β}{l:List α},b∈List.map f l↔∃ a,a∈l/\f a=b:=@List.mem_map
theorem bB:∀(n:Nat),n - 0=n:=@Nat.sub_zero
theorem bC:∀(n m:Nat),n<m\/n>=m:=@Nat.lt_or_ge
theorem bD:∀{p:Prop}[Decidable p],(decide p=true)=p:=@decide_eq_true_eq
theorem bE:∀{α:Type _}(s:List α),s++[]=s:=@List.append_nil
theorem bF:∀(n:Nat),n*1=n:=@Nat.mul_one
theorem bH:∀{α:Type _}{l:List α}{i:Nat}{a:α},l.getD i a=l[i]?.getD a:=@List.getD_eq_getElem?_getD
theorem bI:∀{α:Type _}(s:List α),[]++s=s:=@List.nil_append
theorem bJ:∀{α:Type _}(val val_1:α),(some val=some val_1)=(val=val_1):=@Option.some.injEq
theorem bK:∀{α:Type _}{i:Nat}{a:α}{l:List α},a∈List.take i l->a∈l:=@List.mem_of_mem_take
theorem bM:∀{α:Type _}{l:List α},List.take l.length l=l:=@List.take_length
theorem bN:∀{α:Type _}{n:Nat}{a:α},(List.replicate n a).length=n:=@List.length_replicate
theorem bO:(false=true)=False:=@Bool.false_eq_true
theorem bP:∀{a b:Nat},a<=b->min a b=a:=@Nat.min_eq_left
theorem bR:∀{α:Type _}{l:List α}{i:Nat},l.length<=i->l[i]?=none:=@List.getElem?_eq_none
theorem bS:∀{α:Type _}{β:Type _}{f:α->β}{l:List α}{i:Nat},(List.map f l)[i]?=Option.map f l[i]?:=@List.getElem?_map
theorem bT:∀{n m k:Nat},n<=m->m<k->n<k:=@Nat.lt_of_le_of_lt
theorem bW:∀{α:Type _}{l₁ l₂:List α}{i:Nat},i<=l₁.length->List.take i (l₁++l₂)=List.take i l₁:=@List.take_append_of_le_length
theorem bZ:∀{p:Prop}[Decidable p],p->decide p=true:=@decide_eq_true
theorem cl:∀{α:Type _}{val val_1:α},some val=some val_1->val=val_1:=@Option.some.inj
theorem cB:∀{α:Type _}{i:Nat}{l:List α}(h:i<l.length),List.drop i l=l[i]::List.drop (i+1) l:=@List.drop_eq_getElem_cons
theorem cC:∀{n m:Nat}(k:Nat),n<=m->n*k<=m*k:=@Nat.mul_le_mul_right
theorem cE:∀(n:Nat),¬n<0:=@Nat.not_lt_zero
theorem cM:∀{α:Type _}(y:α){a:α}{l:List α},a∈l->a∈y::l:=@List.mem_cons_of_mem
theorem cP:∀{α:Type _}(i:Nat)(l:List α),List.take i l++List.drop i l=l:=@List.take_append_drop
theorem cQ:∀{p:Prop}[Decidable p],decide p=true->p:=@of_decide_eq_true
theorem cR:∀{α:Type _}{β:Type _}(fst:α)(snd:β)(fst_1:α)(snd_1:β),((fst,snd)=(fst_1,snd_1))=(fst=fst_1/\snd=snd_1):=@Prod.mk.injEq
theorem cT:∀{α:Sort _}{_:Decidable True}(t e:α),(if True then t else e)=t:=@if_true
theorem cU:∀{α:Type _}{a:α},[a].length=1:=@List.length_singleton
theorem cV:∀{p:Prop},(¬p->False)->p:=@Classical.byContradiction
theorem cY:∀{α:Type _}{i j:Nat}{l:List α},List.drop i (List.drop j l)=List.drop (j+i) l:=@List.drop_drop
theorem dl:∀{α:Type _}{a:α}{l:List α},a∈a::l:=@List.mem_cons_self
theorem dA:∀(n:Nat),0*n=0:=@Nat.zero_mul
theorem dF:∀{α:Sort _}{_:Decidable False}(t e:α),(if False then t else e)=e:=@if_false
theorem zd {p : Prop} (h : p := by decide) : p := h
theorem zk {p : Prop} (h : p := by omega) : p := h
theorem zm {p : Prop} (h : p := by first | omega | (dsimp only; omega)) : p := h
theorem zt {p : Prop} (h : p := by dsimp only; omega) : p := h
theorem zq {p : Prop} (h : p := by simp) : p := h
theorem zr {p : Prop} (h : p := by decide +kernel) : p := h
theorem ze {p : Prop} (h : p := by simp; omega) : p := h
theorem zg {p : Prop} (h : p := by simp only [aQ]; omega) : p := h
theorem zi {p : Prop} (h : p := by rw [ao]; rfl) : p := h
theorem zl {p : Prop} (h : p := by rw [aH]; omega) : p := h
theorem za {p : Prop} (h : p := by rw [aX]; omega) : p := h
theorem j3 {a b c : Nat} (h : a < b) (k : b <= c) : a ≠ c := Nat.ne_of_lt (aK h k)
abbrev qP (i : Nat) : Nat × Bool := (i, true)
abbrev Env := List (Nat × Value)
def lk : Env -> Nat -> Option Value
  | [], _ => none
  | (j, v) :: r, i => match Nat.beq j i with
    | true => some v
    | false => lk r i
def xz (env : Env) : Operand -> Option Value
  | .tmp t => lk env t
  | .const v => some v
  | .global g => some (.pointer (some ⟨g, 0, none⟩))
  | .func f => some (.func (.func f) #[] #[])
def pushE (dst : Option Tmp) (v : Value) (env : Env) : Env :=
  match dst with
  | some d => (d, v) :: env
  | none => env
def dOk (n : Nat) (dst : Option Tmp) : Bool :=
  match dst with
  | some d => Nat.blt d n
  | none => true
structure Fs where
  n : Nat
  ds : List Deferred
structure Ag (f : Fs) (env : Env) (a : Act) : Prop where
  defers : a.defers = f.ds
  size : a.tmps.size = f.n
  get : ∀ i v, lk env i = some v -> a.tmps[i]? = some v
theorem yj7 (j:Nat) (v:Value) (r:Env) (i:Nat):lk ((j,v)::r) i=if j=i then some v else lk r i:=by
 show(match Nat.beq j i with|true=>some v|false=>lk r i)=_;by_cases h:j=i;subst h;rw[aL Z,Nat.beq_refl]
 have:Nat.beq j i=false:=by
  cases hb:Nat.beq j i with
  |true=>exact absurd (dL hb) h
  |false=>rfl
 rw[aI h,this]
theorem Ag.eval {f:Fs} {env:Env} {a:Act} (h:Ag f env a) {x:Operand} {v:Value} (hx:xz env x=some v):a.eval x=v:=by
 cases x with
 |tmp t=>
  have:=h.get t v hx;simp[Act.eval,this]
 |const u=>simpa [xz,Act.eval] using hx
 |global g=>simpa [xz,Act.eval] using hx
 |func g=>simpa [xz,Act.eval] using hx
theorem Ag.put {f:Fs} {env:Env} {a:Act} (h:Ag f env a) {dst:Option Tmp} {v:Value} (hd:dOk f.n dst=true):Ag f (pushE dst v env) (a.put dst v):=by
 cases dst with
 |none=>exact h
 |some d=>
  have c:d<f.n:=by simpa [dOk] using hd
  refine⟨h.defers,by simp[Act.put,h.size],λi u b=>?_⟩;simp only[pushE,yj7] at b;simp only[Act.put];by_cases hdi:d=i;subst hdi;simp at b;subst b;simp[h.size,c];simp[hdi] at b;rw[dJ hdi];exact h.get i u b
def Subs : Env -> Env -> Prop
  | [], _ => True
  | (j, v) :: r, e => lk e j = some v /\ Subs r e
theorem Subs.lk {e e':Env}:Subs e' e->∀i v,Vc.lk e' i=some v->Vc.lk e i=some v:=by
 induction e' with
 |nil=>intro _ i v h;simp[Vc.lk] at h
 |cons p r ih=>
  obtain⟨j,u⟩:=p;intro a i v h;rw[yj7] at h;by_cases hji:j=i;subst hji;simp at h;subst h;exact a.1;simp[hji] at h;exact ih a.2 i v h
theorem Ag.sub {f:Fs} {env env':Env} {a:Act} (h:Ag f env a) (hs:Subs env' env):Ag f env' a:=
 ⟨h.defers,h.size,λi v hi=>h.get i v (hs.lk i v hi)⟩
def pick (env : Env) : List Nat -> Option Env
  | [] => some []
  | i :: r => match lk env i with
    | some v => match pick env r with
      | some e => some ((i, v) :: e)
      | none => none
    | none => none
theorem pick_subs {env:Env}:∀{ls:List Nat} {env':Env},pick env ls=some env'->Subs env' env
 | [],env',h=>by simp[pick] at h;subst h;trivial
 |i::r,env',h=>by
  simp only[pick] at h
  split at h
  ·rename_i v hv
   split at h
   ·rename_i e he
    simp at h;subst h
    exact⟨hv,pick_subs he⟩
   simp at h
  simp at h
abbrev vn := Exit -> Act -> World -> Prop
def WL (P : Program) (f : Fs) (ops : Array Oper) (Q : vn) (l : List Oper) (env : Env) (w : World) : Prop := ∀ a, Ag f env a -> wpList P ops Q l a w
def WC (P : Program) (f : Fs) (c : Code) (Q : vn) (env : Env) (w : World) : Prop := ∀ a, Ag f env a -> c.wp P Q a w
def Fin (f : Fs) (Q : vn) (e : Exit) (env : Env) (w : World) : Prop := ∀ a, Ag f env a -> Q e a w
section code
variable {P : Program} {f : Fs} {Q : vn} {env : Env} {w : World}
theorem gp {x y : Code} (h : WC P f x (Exit.then (y.wp P Q) Q) env w) : WC P f (.seq x y) Q env w := λa ha => wp_seq (h a ha)
theorem qf (h : Fin f Q .normal env w) : WC P f .skip Q env w := λa ha => wp_skip (h a ha)
theorem c_label {l : Nat} (h : Fin f Q .normal env w) : WC P f (.label l) Q env w := λa ha => wp_label (h a ha)
theorem xt {id : Nat} (h : Fin f Q (.exit id) env w) : WC P f (.exit id) Q env w := λa ha => wp_exit (h a ha)
theorem c_goto {l : Nat} (h : Fin f Q (.goto l) env w) : WC P f (.goto l) Q env w := λa ha => wp_goto (h a ha)
theorem gv (h : Fin f Q .ret env w) : WC P f .ret Q env w := λa ha => wp_ret (h a ha)
theorem j8 {id : Nat} {c : Code} (h : WC P f c (Exit.inBlock id Q) env w) : WC P f (.block id c) Q env w := λa ha => wp_block (h a ha)
theorem c_scope {c : Code} (h : WC P f c (Exit.noGoto Q) env w) : WC P f (.scope c) Q env w := λa ha => wp_scope_straight (h a ha)
theorem j1 {id:Nat} {l:List Oper} (h:WL P f l.toArray Q l env w):WC P f (.region id l.toArray false) Q env w:=λa ha=>wp_region_lit (h a ha)
theorem vk {c:Operand} {x y:Code} {b:Bool} (hc:xz env c=some (.bool b)) (ht:b=true->WC P f x Q env w) (hf:b=false->WC P f y Q env w):WC P f (.cond c x y) Q env w:=
 λa d=>wp_cond_split (d.eval hc) (λh=>ht h a d) (λh=>hf h a d)
theorem Cd {c:Operand} {x y:Code} (hc:xz env c=some (.bool true)) (ht:WC P f x Q env w):WC P f (.cond c x y) Q env w:=
 λa ha=>wp_cond_true (ha.eval hc) (ht a ha)
theorem uc {c:Operand} {x y:Code} (hc:xz env c=some (.bool false)) (ht:WC P f y Q env w):WC P f (.cond c x y) Q env w:=
 λa ha=>wp_cond_false (ha.eval hc) (ht a ha)
theorem jy {c:Operand} {x y:Code} {p:Prop} [Decidable p] (hc:xz env c=some (.bool (decide p))) (ht:p->WC P f x Q env w) (hf:¬p->WC P f y Q env w):WC P f (.cond c x y) Q env w:=
 vk hc (λh=>ht (cQ h)) (λh=>hf (of_decide_eq_false h))
def SubE (e env : Env) : Prop := pick env (e.map Prod.fst) = some e
theorem SubE.subs {e env : Env} (h : SubE e env) : Subs e env := pick_subs h
theorem c_cut {x y:Code} {α:Type} (J:α->World->Prop) (E:α->Env)
  (hx:WC P f x (Exit.then (λa w=>∃z,Ag f (E z) a/\J z w) Q) env w) (hy:∀z w',J z w'->WC P f y Q (E z) w'):WC P f (.seq x y) Q env w:=
 λa b=>wp_seq (wp_mono (hx a b) λe c w' h=>by
  cases e<;>first|(obtain⟨z,d,g⟩:=h;exact hy z w' g c d)|exact h)
theorem ju {x y:Code} {α:Type} (ls:List Nat) {env0:Env} (hp:pick env ls=some env0) (C:α->Env) (J:α->World->Prop)
  (hx:WC P f x (Exit.then (λa w=>∃z,Ag f (C z++env0) a/\J z w) Q) env w) (hy:∀z w',J z w'->WC P f y Q (C z++env0) w'):WC P f (.seq x y) Q env w:=
 c_cut J (λz=>C z++env0) hx hy
theorem j2 {α:Type} {J:α->World->Prop} {E:α->Env} (z:α) (hs:SubE (E z) env) (hJ:J z w):Fin f (Exit.then (λa w=>∃z,Ag f (E z) a/\J z w) Q) .normal env w:=
 λ_ ha=>⟨z,ha.sub hs.subs,hJ⟩
theorem c_loop {c:Code} {α:Type} (I:α->World->Prop) (E:α->Env) (μ:α->World->Nat) (z:α) (hs:SubE (E z) env) (hI:I z w)
  (round:∀z w,I z w->WC P f c (Exit.then (λa' w'=>∃z',Ag f (E z') a'/\I z' w'/\μ z' w'<μ z w) Q) (E z) w):WC P f (.loop c) Q env w:=by
 intro a m b k o
 have p:∀n (z:α) (w:World) (a:Act),μ z w=n->I z w->Ag f (E z) a->
   ∃e a' w',Q e a' w'/\Arrives P (lone (b.at a (.code c:: .inLoop c::k)) o w) b k o e a' w':=by
  intro n;induction n using Nat.strongRecOn with
  |_ n ih=>
   intro z w a u hI m;obtain⟨e,j,h,g,d⟩:=round z w hI a m b (.inLoop c::k) o;cases e with
   |normal=>
    obtain⟨z',q,r,s⟩:=g;obtain⟨v,y,A,t,i⟩:=ih (μ z' h) (u▸s) z' h j Z r q;exact⟨v,y,A,t,.of_steps (Steps.trans d (.one step_inLoop)) i⟩
   |exit id=>exact⟨_,j,h,g,.pass (x:= .inLoop c) Z (λ_ _=> .inl zq) d⟩
   |goto l=>exact⟨_,j,h,g,.pass (x:= .inLoop c) Z (λ_ _=> .inl zq) d⟩
   |ret=>exact⟨_,j,h,g,.pass (x:= .inLoop c) Z (λ_ _=> .inl zq) d⟩
   |panic ch=>exact⟨_,j,h,g,.pass (x:= .inLoop c) Z (λ_ _=> .inl zq) d⟩
   |outgrown=>exact⟨_,j,h,g,.pass (x:= .inLoop c) Z (λ_ _=> .inl zq) d⟩
 obtain⟨e,a',w',g,d⟩:=p _ z w a Z hI (m.sub hs.subs);exact⟨e,a',w',g,.of_steps (.one step_loop) d⟩
theorem jh {α:Type} {I:α->World->Prop} {E:α->Env} {μ:α->World->Nat} {m:Nat} (z:α) (hs:SubE (E z) env) (hI:I z w) (hm:μ z w<m):
  Fin f (Exit.then (λa' w'=>∃z',Ag f (E z') a'/\I z' w'/\μ z' w'<m) Q) .normal env w:=
 λ_ ha=>⟨z,ha.sub hs.subs,hI,hm⟩
theorem jl {c:Code} {α:Type} (ls:List Nat) {env0:Env} (hp:pick env ls=some env0) (C:α->Env) (I:α->World->Prop) (μ:α->World->Nat) (z:α) (hs:SubE (C z++env0) env) (hI:I z w)
  (round:∀z w,I z w->WC P f c (Exit.then (λa' w'=>∃z',Ag f (C z'++env0) a'/\I z' w'/\μ z' w'<μ z w) Q) (C z++env0) w):WC P f (.loop c) Q env w:=
 c_loop I (λz=>C z++env0) μ z hs hI round
theorem jq {y : Code} (h : WC P f y Q env w) : Fin f (Exit.then (y.wp P Q) Q) .normal env w := λa ha => h a ha
theorem gu {K : Act -> World -> Prop} (h : Fin f Q .ret env w) : Fin f (Exit.then K Q) .ret env w := λa ha => h a ha
theorem qs {K : Act -> World -> Prop} {id : Nat} (h : Fin f Q (.exit id) env w) : Fin f (Exit.then K Q) (.exit id) env w := λa ha => h a ha
theorem jr {id : Nat} (h : Fin f Q .normal env w) : Fin f (Exit.inBlock id Q) .normal env w := λa ha => h a ha
theorem jt {id : Nat} (h : Fin f Q .ret env w) : Fin f (Exit.inBlock id Q) .ret env w := λa ha => h a ha
theorem ux {id : Nat} (h : Fin f Q .normal env w) : Fin f (Exit.inBlock id Q) (.exit id) env w := λa ha => by simpa [Exit.inBlock] using h a ha
theorem f_blockE' {id id':Nat} (hne:Nat.beq id' id=false) (h:Fin f Q (.exit id') env w):Fin f (Exit.inBlock id Q) (.exit id') env w:=λa b=>by
 have:id'≠id:=λe=>by subst e;rw[Nat.beq_refl] at hne;cases hne
 simpa [Exit.inBlock,this] using h a b
theorem Bz (h : Fin f Q .ret env w) : Fin f (Exit.noGoto Q) .ret env w := λa ha => h a ha
end code
def evs (env : Env) : List Operand -> Option (List Value)
  | [] => some []
  | x :: r => match xz env x with
    | some v => match evs env r with
      | some l => some (v :: l)
      | none => none
    | none => none
def Ov (P : Program) (o : Oper) (env : Env) (w : World) (v : Value) (w' : World) : Prop :=
  ∀ ρ : Operand -> Value, (∀ x u, xz env x = some u -> ρ x = u) -> (execOp ρ o).run P w = .ok (.value v) w'
def Os (P : Program) (o : Oper) (env : Env) (w : World) (w' : World) : Prop :=
  ∀ ρ : Operand -> Value, (∀ x u, xz env x = some u -> ρ x = u) -> (execOp ρ o).run P w = .ok .skip w'
def yldE (ops : Array Oper) (env : Env) (j : Nat) : Option Bool :=
  match ops[j]? with
  | some o => match o.dst with
    | some d => match lk env d with
      | some (.bool b) => some b
      | _ => none
    | none => none
  | none => none
def takes (ops : Array Oper) (env : Env) (o : Oper) : Bool :=
  match o.guard with
  | none => true
  | some (j, want) => match yldE ops env j with
    | some b => match b, want with
      | true, true => true
      | false, false => true
      | _, _ => false
    | none => false
theorem yldE_eq {f:Fs} {ops:Array Oper} {env:Env} {a:Act} (ha:Ag f env a) {j:Nat} {b:Bool} (h:yldE ops env j=some b):yielded ops a.tmps j=some b:=by
 unfold yldE at h;split at h;rename_i o c;split at h;rename_i d e;split at h;rename_i i g;simp at h;subst h;have:=ha.get d _ g;simp[yielded,c,e,this];simp at h;simp at h;simp at h
theorem yf {f:Fs} {ops:Array Oper} {env:Env} {a:Act} (ha:Ag f env a) {o:Oper} (h:takes ops env o=true):Region.wanted o (yielded ops a.tmps)=true:=by
 unfold takes at h;unfold Region.wanted;split at h;simp[*];rename_i j c d;simp only[d];split at h;rename_i b e;rw[yldE_eq ha e];cases b<;>cases c<;>simp_all;simp at h
def yldU (ops : Array Oper) (env : Env) (j : Nat) : Bool :=
  match ops[j]? with
  | some o => match o.dst with
    | some d => match lk env d with
      | some (.tuple _) => true
      | _ => false
    | none => false
  | none => false
theorem yldU_eq {f:Fs} {ops:Array Oper} {env:Env} {a:Act} (ha:Ag f env a) {j:Nat} (h:yldU ops env j=true):yielded ops a.tmps j=none:=by
 unfold yldU at h;split at h;rename_i o b;split at h;rename_i d c;split at h;rename_i g e;have:=ha.get d _ e;simp[yielded,b,c,this];simp at h;simp at h;simp at h
def passes (ops : Array Oper) (env : Env) (o : Oper) : Bool :=
  match o.guard with
  | none => false
  | some (j, want) => match yldE ops env j with
    | some b => match b, want with
      | true, false => true
      | false, true => true
      | _, _ => false
    | none => yldU ops env j
theorem passes_wanted {f:Fs} {ops:Array Oper} {env:Env} {a:Act} (ha:Ag f env a) {o:Oper} (h:passes ops env o=true):Region.wanted o (yielded ops a.tmps)=false:=by
 unfold passes at h;unfold Region.wanted;split at h;simp at h;rename_i j c d;simp only[d];split at h;rename_i b e;rw[yldE_eq ha e];cases b<;>cases c<;>simp_all;rw[yldU_eq ha h];rfl
def St (P : Program) (f : Fs) (ops : Array Oper) (o : Oper) (env : Env) (w : World) (K : Env -> World -> Prop) : Prop :=
  ∀ (a : Act) (Q : vn) (K' : Act -> World -> Prop), Ag f env a -> (∀ env' a' w', Ag f env' a' -> K env' w' -> K' a' w') ->
    if Region.wanted o (yielded ops a.tmps) then o.wp P a w K' Q \/ (o.asks P a w /\ LetsOut Q) else K' (a.put o.dst undef) w
section ops
variable {P : Program} {f : Fs} {ops : Array Oper} {Q : vn} {o : Oper} {rest : List Oper} {env : Env} {w w' : World} {v : Value}
theorem gl (h : Fin f Q .normal env w) : WL P f ops Q [] env w := λa ha => h a ha
theorem wl (h:St P f ops o env w (WL P f ops Q rest)):WL P f ops Q (o::rest) env w:=
 λa c=>h a Q (wpList P ops Q rest) c λ_ d _ b k=>k d b
theorem yt {K:Env->World->Prop} (hg:takes ops env o=true) (hd:dOk f.n o.dst=true) (h:Ov P o env w v w') (k:K (pushE o.dst v env) w'):St P f ops o env w K:=by
 intro a Q e b c;rw[aL (yf b hg)];refine .inl ?_;unfold Oper.wp;rw[h a.eval (λx u d=>b.eval d)];exact c _ _ _ (b.put hd) k
theorem st_s {K:Env->World->Prop} (hg:takes ops env o=true) (hd:dOk f.n o.dst=true) (h:Os P o env w w') (k:K (pushE o.dst undef env) w'):St P f ops o env w K:=by
 intro a Q e b c;rw[aL (yf b hg)];refine .inl ?_;unfold Oper.wp;rw[h a.eval (λx u d=>b.eval d)];exact c _ _ _ (b.put hd) k
theorem st_pass {K:Env->World->Prop} (hg:passes ops env o=true) (hd:dOk f.n o.dst=true) (k:K (pushE o.dst undef env) w):St P f ops o env w K:=by
 intro a Q d b c;rw[aI (by simp[passes_wanted b hg])];exact c _ _ _ (b.put hd) k
theorem ut {l:List Oper} (d:Nat) {b:Bool} (hd:lk env d=some (.bool b)) (ht:b=true->WL P f ops Q l ((d,.bool true)::env) w) (hf:b=false->WL P f ops Q l ((d,.bool false)::env) w):WL P f ops Q l env w:=by
 cases b
 exact λa g=>hf Z a ⟨g.defers,g.size,λi u c=>by
  rw[yj7] at c
  split at c
  rename_i e;subst e;simp at c;subst c;exact g.get _ _ hd
  exact g.get _ _ c⟩
 exact λa g=>ht Z a ⟨g.defers,g.size,λi u c=>by
  rw[yj7] at c
  split at c
  rename_i e;subst e;simp at c;subst c;exact g.get _ _ hd
  exact g.get _ _ c⟩
theorem jw {l:List Oper} (d:Nat) {p:Prop} [Decidable p] (hd:lk env d=some (.bool (decide p))) (ht:p->WL P f ops Q l ((d,.bool true)::env) w) (hf:¬p->WL P f ops Q l ((d,.bool false)::env) w):WL P f ops Q l env w:=
 ut d hd (λh=>ht (cQ h)) (λh=>hf (of_decide_eq_false h))
end ops
def Rv (R : Value -> World -> Prop) : Ending -> World -> Prop
  | .returned v, w => R v w
  | _, _ => False
def gn (P : Program) (g : FuncId) (args : List Value) (w : World) (R : Value -> World -> Prop) : Prop := Calls P g args.toArray w (Rv R)
theorem gn.mono {P:Program} {g:FuncId} {args:List Value} {w:World} {R R':Value->World->Prop} (h:gn P g args w R) (hr:∀v w',R v w'->R' v w'):gn P g args w R':=
 Calls.mono h λe w' a=>by cases e<;>first|exact hr _ _ a|exact a
def envO : Nat -> List Value -> Option Env
  | _, [] => some []
  | i, v :: r => match envO (i + 1) r with
    | some e => some ((i, v) :: e)
    | none => none
theorem envO_lk:∀{l:List Value} {i:Nat} {e:Env},envO i l=some e->∀j v,lk e j=some v->i<=j/\l[j-i]? =some v
 | [],i,e,h,j,v,hj=>by simp[envO] at h;subst h;simp[lk] at hj
 |u::r,i,e,h,j,v,hj=>by
  simp only[envO] at h
  split at h
  ·rename_i e' he
   simp at h;subst h
   rw[yj7] at hj
   split at hj
   ·rename_i hij;subst hij;simp at hj;subst hj;simp
   rename_i hne
   have:=envO_lk he j v hj
   refine⟨by omega,?_⟩
   rw[show j-i=(j-(i+1))+1 from by omega]
   simpa using this.2
  simp at h
theorem calls_enter {P:Program} {g:FuncId} {fn:Func} {c:Code} {args:List Value} {w:World} {R:Value->World->Prop} {n:Nat} {env:Env}
  (hf:P.funcs[g]? =some fn) (hb:fn.body=some c) (hn:fn.ntmps=n) (hl:Nat.ble args.length n=true) (he:envO 0 args=some env) (h:WC P ⟨n,[]⟩ c (bodyPost P fn (Rv R)) env w):gn P g args w R:=by
 refine calls_of_wp hf hb (h _ ⟨Z,?_,λi v d=>?_⟩);have:args.length<=n:=dK hl;simp only[hn,Array.size_append,List.size_toArray,Array.size_replicate];omega;have:=(envO_lk he i v d).2;simp only[bB] at this;have a:i<args.length:=by rcases bC i args.length with b|b;exact b;simp[bR b] at this
 simp only[hn];rw[Array.getElem?_append_left (by simpa using a)];simpa using this
theorem gz {P:Program} {g:FuncId} {fn:Func} {c:Code} {args:List Value} {w:World} {R:Value->World->Prop} {n:Nat} {env:Env} (hf:P.funcs[g]? =some fn) (h:WC P ⟨n,[]⟩ c (bodyPost P fn (Rv R)) env w) (hb:fn.body=some c:=by rfl) (hn:fn.ntmps=n:=by rfl) (hl:Nat.ble args.length n=true:=by rfl) (he:envO 0 args=some env:=by rfl):gn P g args w R:=calls_enter hf hb hn hl he h
theorem st_call {P:Program} {f:Fs} {ops:Array Oper} {o:Oper} {env:Env} {K:Env->World->Prop} {w:World} {x:Operand} {xs:Array Operand} {ts:Array TypeId}
  {g:FuncId} {first captured:Array Value} {vs:List Value} {R:Value->World->Prop} (hcf:∀args w,(callFunc g args).run P w= .ok (.enter g args) w)
  (ho:o.op= .call {callee:= .value x,args:=xs,argTypes:=ts}) (hg:takes ops env o=true) {d:Nat} (hd:o.dst=some d) (hdn:Nat.blt d f.n=true)
  (hx:xz env x=some (.func (.func g) first captured)) (hvs:evs env xs.toList=some vs)
  (hc:gn P g (first.toList++vs++captured.toList) w R) (k:∀v w',R v w'->K ((d,v)::env) w'):St P f ops o env w K:=by
 intro a Q z j q;rw[aL (yf j hg)];refine .inl ?_
 have b:∀(l:List Operand) vs,evs env l=some vs->l.map a.eval=vs:=by
  intro l;induction l with
  |nil=>intro vs h;simp[evs] at h;subst h;rfl
  |cons y r ih=>
   intro vs h;simp only[evs] at h;split at h;rename_i u s;split at h;rename_i A m;simp at h;subst h;simp[j.eval s,ih _ m];simp at h;simp at h
 have t:xs.map a.eval=vs.toArray:=by apply cH;rw[Array.toList_map,b _ _ hvs]
 have i:(execOp a.eval o).run P w= .ok (.enter g (first++vs.toArray++captured)) w:=by simp only[execOp,ho,resolve,t,j.eval hx,Deferred.ofValue,Sem.run_bind,aR,aD,invoke,hcf]
 unfold Oper.wp;rw[i];have e:(first++vs.toArray++captured)=(first.toList++vs++captured.toList).toArray:=by apply cH;simp
 rw[e];refine Calls.mono hc λe w' p=>?_;cases e with
 |returned v=>exact q _ _ _ (j.put (dst:=o.dst) (v:=v) (by rw[hd];exact hdn)) (by rw[hd];exact k v w' p)
 |panicked c=>exact p.elim
 |outgrown=>exact p.elim
def callE (n : Nat) (ops : Array Oper) (env : Env) (o : Oper) : Option (FuncId × List Value × Nat) := match takes ops env o with
  | false => none
  | true => match o.dst with
    | none => none
    | some d => match Nat.blt d n with
      | false => none
      | true => match o.op with
        | .call { callee := .value x, args := xs, argTypes := _ } => match xz env x with
          | some (.func (.func g) p q) => match evs env xs.toList with
            | some vs => some (g, p.toList ++ vs ++ q.toList, d)
            | none => none
          | _ => none
        | _ => none
theorem j7 {P:Program} {f:Fs} {ops:Array Oper} {o:Oper} {env:Env} {K:Env->World->Prop} {w:World} {g:FuncId} {us:List Value} {R:Value->World->Prop} (hcf:∀args w,(callFunc g args).run P w= .ok (.enter g args) w) {d:Nat} (h:callE f.n ops env o=some (g,us,d)) (hc:gn P g us w R) (k:∀v w',R v w'->K ((d,v)::env) w'):St P f ops o env w K:=by
 unfold callE at h;repeat' first|(cases h;done)|split at h
 rename_i a _ _ b _ c _ _ _ _ e _ _ _ _ i _ _ j;simp only[bJ,cR] at h;obtain⟨rfl,rfl,rfl⟩:=h;exact st_call hcf e a b c i j hc k
theorem gj {P:Program} {f:Fs} {ops:Array Oper} {Q:vn} {rest:List Oper} {o:Oper} {env:Env} {w:World} {g:FuncId} {us:List Value} {R:Value->World->Prop} (hcf:∀args w,(callFunc g args).run P w= .ok (.enter g args) w) {d:Nat} (h:callE f.n ops env o=some (g,us,d)) (hc:gn P g us w R) (k:∀v w',R v w'->WL P f ops Q rest ((d,v)::env) w'):WL P f ops Q (o::rest) env w:=wl (j7 hcf h hc k)
section ends
variable {P : Program} {f : Fs} {fn : Func} {R : Value -> World -> Prop} {env : Env} {w : World}
theorem f_ret0 {n:Nat} (hr:fn.results= #[]) (h:R (.tuple #[]) w):Fin ⟨n,[]⟩ (bodyPost P fn (Rv R)) .ret env w:=
 λ_ ha=>⟨ha.defers,_,results_none hr _ _ _,h⟩
theorem zz {n:Nat} (hr:fn.results= #[]) (h:R (.tuple #[]) w):Fin ⟨n,[]⟩ (bodyPost P fn (Rv R)) .normal env w:=
 λ_ ha=>⟨ha.defers,_,results_none hr _ _ _,h⟩
theorem gy {n:Nat} {t:Tmp} {v:Value} (hr:fn.results= #[.tmp t]) (hv:lk env t=some v) (h:R v w):Fin ⟨n,[]⟩ (bodyPost P fn (Rv R)) .ret env w:=
 λa b=>⟨b.defers,v,by rw[results_tmp hr];simp[b.get _ _ hv],h⟩
theorem f_ret2 {n:Nat} {t t':Tmp} {v v':Value} (hr:fn.results= #[.tmp t,.tmp t']) (hv:lk env t=some v) (hv':lk env t'=some v') (h:R (.tuple #[v,v']) w):Fin ⟨n,[]⟩ (bodyPost P fn (Rv R)) .ret env w:=
 λa b=>⟨b.defers,_,by rw[results_tmp2 hr];simp[b.get _ _ hv,b.get _ _ hv'],h⟩
end ends
structure Ext (S : Nat -> Prop) (w w' : World) : Prop where
  os : w'.os = w.os
  tape : w'.tape = w.tape
  output : w'.output = w.output
  size : w.heap.size <= w'.heap.size
  same : ∀ b, b < w.heap.size -> ¬ S b -> w'.heap[b]? = w.heap[b]?
  drawn : w.drawn <= w'.drawn
abbrev No : Nat -> Prop := λ_ => False
abbrev One (b : Nat) : Nat -> Prop := λx => x = b
theorem Ext.refl (S : Nat -> Prop) (w : World) : Ext S w w := ⟨Z, rfl, rfl, aB _, λ_ _ _ => rfl, aB _⟩
theorem Ext.trans {S T:Nat->Prop} {a b c:World} (h:Ext S a b) (k:Ext T b c) (hT:∀x,x<a.heap.size->T x->S x):Ext S a c:=
 ⟨k.os.trans h.os,k.tape.trans h.tape,k.output.trans h.output,al h.size k.size,
  λx d e=>(k.same x (aK d h.size) λf=>e (hT x d f)).trans (h.same x d e),al h.drawn k.drawn⟩
theorem Ext.mono {S T:Nat->Prop} {a b:World} (h:Ext T a b) (hT:∀x,x<a.heap.size->T x->S x):Ext S a b:=
 ⟨h.os,h.tape,h.output,h.size,λx c d=>h.same x c λe=>d (hT x c e),h.drawn⟩
theorem Ext.no {S : Nat -> Prop} {a b : World} (h : Ext No a b) : Ext S a b := h.mono λ_ _ f => f.elim
theorem Ext.then {S : Nat -> Prop} {a b c : World} (h : Ext S a b) (k : Ext S b c) : Ext S a c := h.trans k λ_ _ h => h
theorem Ext.gb {S : Nat -> Prop} {a b c : World} (h : Ext S a b) (k : Ext No b c) : Ext S a c := h.trans k λ_ _ h => h.elim
theorem Ext.gi {S:Nat->Prop} {b₀:Nat} {a b c:World} (h:Ext S a b) (k:Ext (One b₀) b c) (hb:a.heap.size<=b₀):Ext S a c:=
 h.trans k λx hx e=>by omega
theorem Ext.drew (w : World) : Ext No w w.drew := ⟨Z, rfl, rfl, aB _, λ_ _ _ => rfl, Nat.le_succ _⟩
theorem Ext.drew' (w : World) : Ext No w { w with drawn := w.drawn + 1 } := Ext.drew w
theorem Ext.alloc (w:World) (c:Array Value) (T:TypeId):Ext No w (w.alloc (.cells c T)):=
 ⟨Z,Z,Z,by simp,λb a _=>(by show(w.heap.push _)[b]? =_;rw[Array.getElem?_push,aI zk]),aB _⟩
theorem Ext.froz {S:Nat->Prop} {w w':World} (h:Ext S w w') {a:Addr} (ha:a.block<w.heap.size) (hS:¬S a.block):w'.frozen? a=w.frozen? a:=World.frozen?_of_block (h.same _ ha hS)
theorem Ext.kept {S:Nat->Prop} {w w':World} (h:Ext S w w') (hS:∀x,x<w.heap.size->¬S x):w.keptBut w' (λ_=>False):=
 ⟨h.os,h.output,λi a=>by
  rw[h.same i a (hS i a)]
  split<;>simp_all⟩
def j0 (w : World) (b : Nat) (T : TypeId) (l : List Value) : Prop := w.heap[b]? = some (.cells l.toArray T (0, 0))
def Seg (w : World) (b off : Nat) (l : List Value) : Prop := ∀ (i : Nat) (v : Value), l[i]? = some v -> w.cell? ⟨b, off + i, none⟩ = some v
theorem j0.lt {w:World} {b:Nat} {T:TypeId} {l:List Value} (h:j0 w b T l):b<w.heap.size:=by
 rcases bC b w.heap.size with a|a;exact a;unfold j0 at h;rw[cI a] at h;cases h
theorem j0.ext {S:Nat->Prop} {w w':World} {b:Nat} {T:TypeId} {l:List Value} (h:j0 w b T l) (hE:Ext S w w') (hS:¬S b):j0 w' b T l:=
 (hE.same b h.lt hS).trans h
theorem j0.ga {w w' : World} {b : Nat} {T : TypeId} {l : List Value} (h : j0 w b T l) (hE : Ext No w w') : j0 w' b T l := h.ext hE id
theorem j0.gk {w w':World} {b c:Nat} {T:TypeId} {l:List Value} (h:j0 w b T l) (hE:Ext (One c) w w') (hne:b≠c):j0 w' b T l:=h.ext hE hne
theorem j0.cell {w:World} {b:Nat} {T:TypeId} {l:List Value} (h:j0 w b T l) {i:Nat} {v:Value} (hi:l[i]? =some v):w.cell? ⟨b,i,none⟩=some v:=by
 unfold j0 at h;simp[World.cell?,h,hi]
theorem j0.ql {w:World} {b:Nat} {T:TypeId} {l:List Value} (h:j0 w b T l):Seg w b 0 l:=λi v hi=>by
 rw[aV];exact h.cell hi
theorem j0.free {w:World} {b:Nat} {T:TypeId} {l:List Value} (h:j0 w b T l) (a:Addr) (ha:a.block=b):w.frozen? a=false:=by
 unfold j0 at h;subst ha;simp[World.frozen?,h]
theorem j0.ne {w:World} {b c:Nat} {T U:TypeId} {l m:List Value} (h:j0 w b T l) (k:j0 w c U m) (hT:T≠U):b≠c:=by
 intro e;subst e;unfold j0 at h k;rw[h] at k;simp at k;exact hT k.2
theorem j0.uniq {w:World} {b:Nat} {T U:TypeId} {l m:List Value} (h:j0 w b T l) (k:j0 w b U m):l=m/\T=U:=by
 unfold j0 at h k;rw[h] at k;simp at k;exact k
theorem Seg.ext {S:Nat->Prop} {w w':World} {b off:Nat} {l:List Value} (h:Seg w b off l) (hE:Ext S w w') (hS:¬S b):Seg w' b off l:=λi v e=>by
 have d:=h i v e
 have c:=World.block_lt_of_cell? w ⟨b,off+i,none⟩ d
 rw[World.cell?_of_block (w:=w) (w':=w') (a:=⟨b,off+i,none⟩) (hE.same b c hS)]
 exact d
theorem D4 {S:Nat->Prop} {w w':World} {b off:Nat} {v:Value} (h:w.cell? ⟨b,off,none⟩=some v) (hE:Ext S w w') (hS:¬S b):w'.cell? ⟨b,off,none⟩=some v:=by
 have c:=World.block_lt_of_cell? w ⟨b,off,none⟩ h;rw[World.cell?_of_block (w:=w) (w':=w') (a:=⟨b,off,none⟩) (hE.same b c hS)];exact h
theorem Seg.ga {w w' : World} {b off : Nat} {l : List Value} (h : Seg w b off l) (hE : Ext No w w') : Seg w' b off l := h.ext hE id
theorem Seg.lt {w:World} {b off:Nat} {l:List Value} (h:Seg w b off l) (hl:l≠[]):b<w.heap.size:=by
 cases l with
 |nil=>exact absurd Z hl
 |cons v r=>exact World.block_lt_of_cell? w ⟨b,off+0,none⟩ (h 0 v Z)
theorem Seg.drop {w:World} {b off:Nat} {l:List Value} (h:Seg w b off l) (k:Nat):Seg w b (off+k) (l.drop k):=λi v a=>by
 rw[Nat.add_assoc]
 exact h (k+i) v (by rw[List.getElem?_drop] at a;exact a)
theorem Seg.take {w:World} {b off:Nat} {l:List Value} (h:Seg w b off l) (k:Nat):Seg w b off (l.take k):=λi v a=>by
 rw[List.getElem?_take] at a
 split at a
 ·exact h i v a
 cases a
theorem Seg.append {w:World} {b off:Nat} {l m:List Value}:Seg w b off (l++m)↔Seg w b off l/\Seg w b (off+l.length) m:=by
 constructor
 ·intro h
  refine⟨λi v c=>h i v ?_,λi v c=>?_⟩
  ·have:i<l.length:=by
    rcases bC i l.length with d|d
    ·exact d
    rw[bR d] at c;cases c
   rw[cO this];exact c
  rw[Nat.add_assoc]
  refine h _ v ?_
  rw[cD zk]
  rw[Nat.add_sub_cancel_left];exact c
 rintro⟨h,k⟩ i v c
 rcases bC i l.length with d|d
 ·rw[cO d] at c;exact h i v c
 rw[cD d] at c
 have:=k _ v c
 rwa [show off+l.length+(i-l.length)=off+i from by omega] at this
def put (l : List Value) (off : Nat) : List Value -> List Value
  | [] => l
  | v :: r => put (l.set off v) (off + 1) r
theorem vz (l:List Value) (off:Nat) (vs:List Value):(put l off vs).length=l.length:=by
 induction vs generalizing l off with
 |nil=>rfl
 |cons v r ih=>simp[put,ih]
theorem put_getElem? (vs:List Value):∀(l:List Value) (off i:Nat),off+vs.length<=l.length->(put l off vs)[i]? =if off<=i/\i<off+vs.length then vs[i-off]? else l[i]? :=by
 induction vs with
 |nil=>intro l off i _;simp[put];omega
 |cons v r ih=>
  intro l off i h;simp only[aQ] at h;rw[put,ih _ _ _ ze];by_cases h1:off=i;subst h1;rw[aI zk,aL zq];simp[show off<l.length from by omega];by_cases h2:off+1<=i/\i<off+1+r.length;rw[aL h2,aL zg];rw[show i-off=(i-(off+1))+1 from by omega];simp;rw[aI h2,aI zg];rw[List.getElem?_set_ne h1]
theorem put_eq (l:List Value) (off:Nat) (vs:List Value) (h:off+vs.length<=l.length):put l off vs=l.take off++vs++l.drop (off+vs.length):=by
 apply List.ext_getElem?;intro i;rw[put_getElem? _ _ _ _ h];split;rename_i b;rw[aM,cD ze,cO ze];simp only[aH];rw[bP zk];rename_i b;rcases bC i off with a|a;rw[aM,cO ze,List.getElem?_take,aL a];rw[cD ze,List.getElem?_drop];congr 1;simp;omega
theorem setCell_blk {w:World} {b:Nat} {T:TypeId} {l:List Value} (h:j0 w b T l) (off:Nat) (v:Value):
  j0 (w.setCell ⟨b,off,none⟩ v) b T (l.set off v)/\Ext (One b) w (w.setCell ⟨b,off,none⟩ v):=by
 unfold j0 at h;refine⟨?_,Z,Z,Z,by simp,λx c a=>?_,aB _⟩;unfold j0;simp only[World.setCell,Array.getElem?_modify,↓reduceIte,h,Option.map_some];simp;simp only[World.setCell,Array.getElem?_modify];rw[aI (λe=>a e.symm)]
theorem x7 {P:Program} {b:Nat} {T:TypeId}:∀(vs:List Value) (w:World) (l:List Value) (off i:Nat),j0 w b T l->off+i+vs.length<=l.length->(∀v∈vs,v.oneCell'=true)->
  ∃w',(storeCells ⟨b,off,none⟩ vs i).run P w= .ok () w'/\j0 w' b T (put l (off+i) vs)/\Ext (One b) w w'/\w'.heap.size=w.heap.size
 | [],w,l,off,i,h,_,_=>⟨w,Z,h,Ext.refl _ _,Z⟩
 |v::r,w,l,off,i,h,hl,h1=>by
  simp only[aQ] at hl
  have hc:w.cell? ⟨b,off+i,none⟩=some l[off+i]:=h.cell zq
  have c:(⟨b,off,none⟩:Addr).add i=⟨b,off+i,none⟩:=by
   unfold Addr.add;split;rename_i j;subst j;rfl;rfl
  obtain⟨d,k⟩:=setCell_blk h (off+i) v;obtain⟨w',m,e,f,n⟩:=x7 r (w.setCell ⟨b,off+i,none⟩ v) (l.set (off+i) v) off (i+1) d ze (λu o=>h1 u (by simp[o]));refine⟨w',?_,e,k.then f,by rw[n];simp⟩;have p:=h1 v zq;have g:=h.free ⟨b,off+i,none⟩ Z;have a:(store ⟨b,off+i,none⟩ v).run P w= .ok () (w.setCell ⟨b,off+i,none⟩ v):=by cases v<;>first|(simp[Value.oneCell'] at p;done)|(simp only[store,Sem.run,hc,g];simp)
  simp only[storeCells,c,Sem.run_bind,a,aD];exact m
theorem x4 {P:Program} {w:World} {b off:Nat}:∀(n i:Nat) (l:List Value) (acc:Array Value),Seg w b (off+i) l->l.length=n->
  (loadCellsFrom ⟨b,off,none⟩ i n acc).run P w= .ok (acc++l.toArray) w
 |0,i,l,acc,_,hl=>by
  have:l=[]:=by simpa using hl
  subst this;simp[loadCellsFrom]
 |n+1,i,l,acc,h,hl=>by
  cases l with
  |nil=>simp at hl
  |cons v r=>
   have a:(⟨b,off,none⟩:Addr).add i=⟨b,off+i,none⟩:=by
    unfold Addr.add;split;rename_i c;subst c;rfl;rfl
   have d:w.cell? ⟨b,off+i,none⟩=some v:=by simpa using h 0 v Z
   have e:=x4 (P:=P) n (i+1) r (acc.push v) (by
    intro j u f
    have:=h (j+1) u (by simpa using f)
    rwa [show off+i+(j+1)=off+(i+1)+j from by omega] at this) (by simpa using hl)
   simp only[loadCellsFrom,a,Sem.run_bind,run_load,d,aD];rw[e];congr 1;apply cH;simp
theorem Dt (w:World) (l:List Value) (T:TypeId):j0 (w.alloc (.cells l.toArray T)) w.heap.size T l:=by
 unfold j0
 show(w.heap.push _)[w.heap.size]? =_
 simp
structure TI where
  desc : TypeDesc
  size : Nat
  bytes : Nat
  zero : Value
abbrev uh := List (Nat × TI)
def z7 : uh -> Nat -> Option TI
  | [], _ => none
  | (j, v) :: r, i => match Nat.beq j i with
    | true => some v
    | false => z7 r i
def TI.Ok (P : Program) (t : Nat) (x : TI) : Prop := P.underlying t = some x.desc /\ (P.info? t).map (λi => (i.size, i.bytes, i.zero)) = some (x.size, x.bytes, some x.zero)
def uh.Ok (P : Program) : uh -> Prop
  | [] => True
  | (t, x) :: r => x.Ok P t /\ uh.Ok P r
theorem uh.Ok.get {P:Program}:∀{I:uh},uh.Ok P I->∀{t:Nat} {x:TI},z7 I t=some x->x.Ok P t
 | [],_,t,x,h=>by simp[z7] at h
 |(j,v)::r,hI,t,x,h=>by
  have h':(match Nat.beq j t with|true=>some v|false=>z7 r t)=some x:=h
  cases hb:Nat.beq j t with
  |true=>
   rw[hb] at h'
   have:=dL hb
   subst this
   simp at h';subst h'
   exact hI.1
  |false=>rw[hb] at h';exact uh.Ok.get hI.2 h'
section types
variable {P : Program} {t : Nat} {x : TI} (h : x.Ok P t) (w : World)
include h
theorem TI.Ok.under : (underlying t).run P w = .ok x.desc w := by
  unfold underlying
  simp [h.1]
theorem TI.Ok.info:∃i,P.info? t=some i/\i.size=x.size/\i.bytes=x.bytes/\i.zero=some x.zero:=by
 obtain⟨i,a,e⟩:=Option.map_eq_some_iff.1 h.2;simp only[cR] at e;exact⟨i,a,e.1,e.2.1,e.2.2⟩
theorem TI.Ok.sizeOf : (sizeOf t).run P w = .ok x.size w := by
  obtain ⟨i, hi, h1, _, _⟩ := TI.Ok.info h
  unfold Go.sizeOf typeInfo
  simp [hi, h1]
theorem TI.Ok.zeroValue:(zeroValue t).run P w= .ok x.zero w:=by
 obtain⟨i,a,_,_,b⟩:=TI.Ok.info h;unfold Go.zeroValue typeInfo;simp[a,b]
end types
def TI.isAgg (x : TI) : Bool :=
  match x.desc with
  | .struct _ => true
  | .array _ _ => true
  | _ => false
theorem TI.Ok.isAgg {P:Program} {t:Nat} {x:TI} (h:x.Ok P t) (w:World):(Go.isAgg t).run P w= .ok x.isAgg w:=by
 unfold Go.isAgg;simp only[Sem.run_bind,h.under,aD,TI.isAgg];cases x.desc<;>rfl
def nth : List Value -> Nat -> Option Value
  | [], _ => none
  | v :: _, 0 => some v
  | _ :: r, n + 1 => nth r n
theorem nth_eq:∀(l:List Value) (i:Nat),nth l i=l[i]?
 | [],_=>by simp[nth]
 |v::r,0=>rfl
 |v::r,n+1=>by simp[nth,nth_eq r n]
def bitI (op : BinOp) (k : IntKind) (p q : Int) : Int :=
  match op with
  | .and => k.wrap (BitVec.ofInt k.bits p &&& BitVec.ofInt k.bits q).toNat
  | .or => k.wrap (BitVec.ofInt k.bits p ||| BitVec.ofInt k.bits q).toNat
  | .xor => k.wrap (BitVec.ofInt k.bits p ^^^ BitVec.ofInt k.bits q).toNat
  | _ => k.wrap (BitVec.ofInt k.bits p &&& ~~~BitVec.ofInt k.bits q).toNat
def intBin (op : BinOp) (k : IntKind) (p q : Int) : Option Value :=
  match op with
  | .add => some (.int k (k.wrap (p + q)))
  | .sub => some (.int k (k.wrap (p - q)))
  | .mul => some (.int k (k.wrap (p * q)))
  | .quo => match decide (q = 0) with
    | true => none
    | false => some (.int k (k.wrap (p.tdiv q)))
  | .rem => match decide (q = 0) with
    | true => none
    | false => some (.int k (p.tmod q))
  | .and => some (.int k (bitI .and k p q))
  | .or => some (.int k (bitI .or k p q))
  | .xor => some (.int k (bitI .xor k p q))
  | .andNot => some (.int k (bitI .andNot k p q))
  | .eql => some (.bool (decide (p = q)))
  | .neq => some (.bool (decide (p ≠ q)))
  | .lss => some (.bool (decide (p < q)))
  | .leq => some (.bool (decide (p <= q)))
  | .gtr => some (.bool (decide (q < p)))
  | .geq => some (.bool (decide (q <= p)))
  | _ => none
def shiftBin (op : BinOp) (k : IntKind) (p q : Int) : Option Value :=
  match decide (q < 0) with
  | true => none
  | false => match op with
    | .shl => some (.int k (k.wrap (p * 2 ^ min q.toNat k.bits)))
    | .shr => some (.int k (p.fdiv (2 ^ min q.toNat k.bits)))
    | _ => none
def isShift : BinOp -> Bool
  | .shl => true
  | .shr => true
  | _ => false
def nilEq (a b : Value) : Option Bool :=
  match a, b with
  | .pointer none, .pointer none => some true
  | .pointer none, .pointer (some _) => some false
  | .pointer (some _), .pointer none => some false
  | .slice none _ _, .slice none _ _ => some true
  | .slice none _ _, .slice (some _) _ _ => some false
  | .slice (some _) _ _, .slice none _ _ => some false
  | .map none, .map none => some true
  | .map none, .map (some _) => some false
  | .map (some _), .map none => some false
  | .bool p, .bool q => some (p == q)
  | _, _ => none
def eqOk (I : uh) (t : Nat) (a : Value) : Bool :=
  match z7 I t with
  | some x => match x.desc, a with
    | .pointer _, .pointer _ => true
    | .slice _, .slice _ _ _ => true
    | .map _ _, .map _ => true
    | .bool, .bool _ => true
    | _, _ => false
  | none => false
def binNil (I : uh) (t : Nat) (op : BinOp) (a b : Value) : Option Value :=
  match eqOk I t a with
  | false => none
  | true => match op with
    | .eql => match nilEq a b with
      | some r => some (.bool r)
      | none => none
    | .neq => match nilEq a b with
      | some r => some (.bool (!r))
      | none => none
    | _ => none
def SLt (p q : ByteArray) : Prop := Op.bytesLess p.data.toList q.data.toList = true
instance (p q : ByteArray) : Decidable (SLt p q) := inferInstanceAs (Decidable (_ = true))
def strBin (op : BinOp) (p q : ByteArray) : Option Value :=
  match op with
  | .eql => some (.bool (decide (p = q)))
  | .neq => some (.bool (decide (p ≠ q)))
  | .lss => some (.bool (decide (SLt p q)))
  | .leq => some (.bool (decide (SLt p q \/ p = q)))
  | .gtr => some (.bool (decide (¬ (SLt p q \/ p = q))))
  | .geq => some (.bool (decide (¬ SLt p q)))
  | _ => none
def bin (I : uh) (t : Nat) (op : BinOp) (a b : Value) : Option Value :=
  match a with
  | .string p => match b with
    | .string q => strBin op p q
    | _ => none
  | .int k p => match b with
    | .int k' q => match isShift op with
      | true => shiftBin op k p q
      | false => match decide (k = k') with
        | true => intBin op k p q
        | false => none
    | _ => none
  | a => binNil I t op a b
def fieldOf (I : uh) (s f : Nat) : Option (Nat × Nat) :=
  match z7 I s with
  | some x => match x.desc with
    | .struct fs => match fs[f]? with
      | some g => match z7 I g.type with
        | some y => match y.size with
          | 0 => none
          | n + 1 => match g.offset with
            | 0 => some (0, n + 1)
            | k + 1 => some (k + 1, n + 1)
        | none => none
      | none => none
    | _ => none
  | none => none
def pev (I : uh) (op : Op) (env : Env) : Option Value :=
  match op with
  | .move x => xz env x
  | .assign x => xz env x
  | .pick c a b => match xz env c with
    | some (.bool true) => xz env a
    | some (.bool false) => xz env b
    | _ => none
  | .nilCheck x => match xz env x with
    | some (.pointer (some a)) => some (.pointer (some a))
    | _ => none
  | .fieldAddr s x f => match xz env x with
    | some (.pointer (some ⟨b, o, none⟩)) => match fieldOf I s f with
      | some (off, _) => some (.pointer (some ⟨b, o + off, none⟩))
      | none => none
    | _ => none
  | .extract x i => match xz env x with
    | some (.tuple vs) => nth vs.toList i
    | _ => none
  | .binOp op t x y _ => match xz env x with
    | some a => match xz env y with
      | some b => bin I t op a b
      | none => none
    | none => none
  | .unOp .not _ x => match xz env x with
    | some (.bool b) => some (.bool (!b))
    | _ => none
  | .convert s d x => match z7 I s with
    | some _ => match z7 I d with
      | some y => match y.desc with
        | .int k => match xz env x with
          | some (.int _ n) => some (.int k (k.wrap n))
          | _ => none
        | _ => none
      | none => none
    | none => none
  | .makeFunc fn first captured => match evs env first.toList with
    | some a => match evs env captured.toList with
      | some c => some (.func fn a.toArray c.toArray)
      | none => none
    | none => none
  | .call { callee := .builtin .len, args := xs, argTypes := ts } => match xs.toList with
    | [x] => match ts.toList with
      | [t] => match z7 I t with
        | some y => match y.desc with
          | .slice _ => match xz env x with
            | some (.slice _ n _) => some (.int .i64 (n : Int))
            | _ => none
          | .string => match xz env x with
            | some (.string s) => some (.int .i64 (s.size : Int))
            | _ => none
          | .array n _ => match xz env x with
            | some _ => some (.int .i64 (n : Int))
            | none => none
          | _ => none
        | none => none
      | _ => none
    | _ => none
  | .call { callee := .builtin .min, args := xs, .. } => match xs.toList with
    | [x, y] => match xz env x with
      | some (.int k p) => match xz env y with
        | some (.int _ q) => some (.int k (if q < p then q else p))
        | _ => none
      | _ => none
    | _ => none
  | .call { callee := .builtin .max, args := xs, .. } => match xs.toList with
    | [x, y] => match xz env x with
      | some (.int k p) => match xz env y with
        | some (.int _ q) => some (.int k (if p < q then q else p))
        | _ => none
      | _ => none
    | _ => none
  | _ => none
theorem beq_decide (p q : Int) : (p == q) = decide (p = q) := by
  by_cases h : p = q <;> simp [h]
theorem bne_decide (p q : Int) : (p != q) = decide (p ≠ q) := by
  by_cases h : p = q <;> simp [h]
theorem run_intBin {P:Program} {op:BinOp} {k:IntKind} {p q:Int} {v:Value} (h:intBin op k p q=some v) (t:TypeId) (w:World):(binOp op t (.int k p) (.int k q)).run P w= .ok v w:=by
 cases op<;>simp only[intBin] at h
 case quo=>
  split at h;cases h;rename_i b;have a:q≠0:=by simpa using b
  cases h;simp[binOp,Op.intDiv,a]
 case rem=>
  split at h;cases h;rename_i b;have a:q≠0:=by simpa using b
  cases h;simp[binOp,Op.intDiv,a]
 case shl=>cases h
 case shr=>cases h
 all_goals (cases h;simp[binOp,Op.intArith,Op.intCmp,Op.intBits,bitI,beq_decide,bne_decide])
theorem run_shiftBin {P:Program} {op:BinOp} {k k':IntKind} {p q:Int} {v:Value} (h:shiftBin op k p q=some v) (t:TypeId) (w:World):(binOp op t (.int k p) (.int k' q)).run P w= .ok v w:=by
 unfold shiftBin at h;split at h;cases h;rename_i b;have a:¬q<0:=by simpa using b
 cases op<;>simp only at h<;>first|(cases h;done)|(cases h;simp[binOp,Op.shift,a])
theorem jg {P:Program} {t:Nat} {D:TypeDesc} {w:World} {β:Type} (hu:(underlying t).run P w= .ok D w) (k:TypeDesc->Sem β):(underlying t>>=k).run P w=(k D).run P w:=by
 rw[Sem.run_bind,hu];rfl
theorem run_nilEqIn {P:Program} {I:uh} (hI:I.Ok P) {t:Nat} {a b:Value} {r:Bool} (h:nilEq a b=some r) (ht:eqOk I t a=true) (w:World) (d:Nat):(Op.equalIn (d+1) t a b).run P w= .ok r w:=by
 unfold eqOk at ht;cases hx:z7 I t with
 |none=>rw[hx] at ht;cases ht
 |some x=>
  rw[hx] at ht;have f:=(hI.get hx).under w;unfold Op.equalIn;rw[jg f];obtain⟨D,g,i,j⟩:=x;simp only at ht|-;cases a<;>cases D<;>first|(cases ht;done)|skip
  cases b<;>cases h;rfl
  ·rename_i p e
   cases p<;>cases b<;>first|(cases h;done)|(rename_i q;cases q<;>cases h<;>rfl)
  ·rename_i p n c e
   cases p<;>cases b<;>first|(cases h;done)|(rename_i q _ _;cases q<;>cases h<;>rfl)
  rename_i p e _;cases p<;>cases b<;>first|(cases h;done)|(rename_i q;cases q<;>cases h<;>rfl)
theorem run_nilEq {P:Program} {I:uh} (hI:I.Ok P) {t:Nat} {a b:Value} {r:Bool} (h:nilEq a b=some r) (ht:eqOk I t a=true) (w:World):(Op.equal t a b).run P w= .ok r w:=by
 have e:Op.equal t a b=Op.equalIn (9999+1) t a b:=rfl;rw[e];exact run_nilEqIn hI h ht w 9999
theorem nilEq_fits {a b:Value} {r:Bool} (h:nilEq a b=some r):(∃p q,a= .pointer p/\b= .pointer q)\/(∃p n c q m d,a= .slice p n c/\b= .slice q m d)\/(∃p q,a= .map p/\b= .map q)\/(∃p q,a= .bool p/\b= .bool q):=by
 unfold nilEq at h;split at h<;>first|(cases h;done)|(simp;done)
theorem str_beq (p q:ByteArray):(p.toList==q.toList)=decide (p=q):=by
 rw[ByteArray.toList_eq,ByteArray.toList_eq];obtain⟨⟨x⟩⟩:=p;obtain⟨⟨y⟩⟩:=q;rw[Bool.eq_iff_iff];simp
theorem run_strBin {P:Program} {op:BinOp} {p q:ByteArray} {v:Value} (h:strBin op p q=some v) (t:TypeId) (x y:Operand) (w:World):(do eqGuard op t x y (.string p) (.string q);binOp op t (.string p) (.string q):Sem Value).run P w= .ok v w:=by
 have e:(eqGuard op t x y (.string p) (.string q)).run P w= .ok () w:=by unfold eqGuard;cases op<;>rfl
 have a:Op.bytesLess p.toList q.toList=decide (SLt p q):=by rw[ByteArray.toList_eq,ByteArray.toList_eq];exact(Bool.decide_eq_true (b:=Op.bytesLess p.data.toList q.data.toList)).symm
 have c:=str_beq p q;rw[Sem.run_bind,e,aD];have d:∀o,binOp o t (.string p) (.string q)=Op.stringOp o p q:=λo=>by cases o<;>rfl
 rw[d];unfold Op.stringOp;rw[a,c];cases op<;>simp only[strBin,bJ,reduceCtorEq] at h<;>subst h;all_goals first|(simp only[aR];done)|(simp only[aR];congr 2<;>simp)
theorem run_bin {P:Program} {I:uh} (hI:I.Ok P) {t:Nat} {op:BinOp} {a b v:Value} (h:bin I t op a b=some v) (x y:Operand) (w:World):
  (do eqGuard op t x y a b;binOp op t a b:Sem Value).run P w= .ok v w:=by
 by_cases hst:∃p,a= .string p;obtain⟨p,rfl⟩:=hst;simp only[bin] at h;split at h;exact run_strBin h t x y w;cases h;by_cases hi:(∃k p,a= .int k p)/\(∃l q,b= .int l q);obtain⟨⟨k,p,rfl⟩,l,q,rfl⟩:=hi;have e:(eqGuard op t x y (.int k p) (.int l q)).run P w= .ok () w:=by unfold eqGuard;cases op<;>rfl
 rw[Sem.run_bind,e,aD];simp only[bin] at h;split at h;exact run_shiftBin h t w;split at h;rename_i s;have o:k=l:=cQ s;subst o;exact run_intBin h t w;cases h
 have f:binNil I t op a b=some v:=by
  cases a<;>first|exact h|exact absurd ⟨_,Z⟩ hst|skip
  cases b<;>first|(cases h;done)|exact absurd ⟨⟨_,_,Z⟩,_,_,Z⟩ hi
 unfold binNil at f;split at f;cases f;rename_i i;split at f
 ·split at f
  ·rename_i r j
   cases f;have g:=run_nilEq hI j i w;obtain⟨p,q,rfl,rfl⟩|⟨p,n,c,q,m,d,rfl,rfl⟩|⟨p,q,rfl,rfl⟩|⟨p,q,rfl,rfl⟩:=nilEq_fits j
   all_goals
    rw[Sem.run_bind,show(eqGuard .eql t x y _ _).run P w= .ok () w from Z,aD];show(do pure (Value.bool (<-Op.equal t _ _)):Sem Value).run P w=_;rw[Sem.run_bind,g];rfl
  cases f
 ·split at f
  ·rename_i r j
   cases f;have g:=run_nilEq hI j i w;obtain⟨p,q,rfl,rfl⟩|⟨p,n,c,q,m,d,rfl,rfl⟩|⟨p,q,rfl,rfl⟩|⟨p,q,rfl,rfl⟩:=nilEq_fits j
   all_goals
    rw[Sem.run_bind,show(eqGuard .neq t x y _ _).run P w= .ok () w from Z,aD];show(do pure (Value.bool (!(<-Op.equal t _ _))):Sem Value).run P w=_;rw[Sem.run_bind,g];rfl
  cases f
 cases f
theorem evs_map {env:Env} {ρ:Operand->Value} (hρ:∀x u,xz env x=some u->ρ x=u):∀{l:List Operand} {vs:List Value},evs env l=some vs->l.map ρ=vs
 | [],vs,h=>by simp[evs] at h;subst h;rfl
 |y::r,vs,h=>by
  simp only[evs] at h
  split at h
  ·rename_i u hu
   split at h
   ·rename_i l' hl'
    simp at h;subst h
    simp[hρ _ _ hu,evs_map hρ hl']
   simp at h
  simp at h
theorem evs_arr {env:Env} {ρ:Operand->Value} (hρ:∀x u,xz env x=some u->ρ x=u) {xs:Array Operand} {vs:List Value} (h:evs env xs.toList=some vs):xs.map ρ=vs.toArray:=by
 apply cH;rw[Array.toList_map,evs_map hρ h]
theorem run_fieldAt {P:Program} {I:uh} (hI:I.Ok P) {s f off n:Nat} (h:fieldOf I s f=some (off,n)) (b o:Nat) (w:World):
  (Instr.fieldAt s (.pointer (some ⟨b,o,none⟩)) f).run P w= .ok (.pointer (some ⟨b,o+off,none⟩)) w:=by
 unfold fieldOf at h;split at h;rename_i x e;have i:=(hI.get e).under w;split at h;rename_i t d;split at h;rename_i g j;split at h;rename_i y l;have p:=(hI.get l).sizeOf w;split at h;cases h;rename_i m q;have a:off=g.offset:=by split at h;rename_i c;cases h;exact c.symm;rename_i k r;cases h;exact r.symm
 subst a;unfold Instr.fieldAt;rw[jg i,d];simp only[j,Instr.sureAddr,fieldPlace,Sem.run_bind,aR,aD,p,q];simp only[Addr.add];by_cases c:g.offset=0;simp[c];simp[c];cases h;cases h;cases h;cases h
theorem Aw {P:Program} {I:uh} (hI:I.Ok P) {o:Oper} {env:Env} {v:Value} (h:pev I o.op env=some v) (w:World):Ov P o env w v w:=by
 intro ρ l;obtain⟨dst,op,type,pos,after,guard⟩:=o;simp only at h;cases op;case move x=>simp only[pev] at h;simp[execOp,l _ _ h]
 case assign x=>simp only[pev] at h;simp[execOp,l _ _ h]
 case pick c a b=>
  simp only[pev] at h;split at h;rename_i Q;simp[execOp,l _ _ Q,l _ _ h,asBool];rename_i Q;simp[execOp,l _ _ Q,l _ _ h,asBool];cases h
 case nilCheck x=>
  simp only[pev] at h;split at h;rename_i a m;cases h;simp[execOp,l _ _ m];cases h
 case fieldAddr s x f=>
  simp only[pev] at h;split at h;rename_i b q m;split at h;rename_i ah n hf;cases h;simp[execOp,l _ _ m,run_fieldAt hI hf];cases h;cases h
 case extract x i=>
  simp only[pev] at h;split at h;rename_i vs m;rw[nth_eq] at h;have h':vs[i]? =some v:=by simpa using h
  simp[execOp,l _ _ m,Instr.extract,h'];cases h
 case binOp op t x y u=>
  simp only[pev] at h;split at h;rename_i a X;split at h;rename_i b hb;have:=run_bin hI h x y w;simp only[execOp,l _ _ X,l _ _ hb];rw[Sem.run_bind,this];rfl;cases h;cases h
 case unOp op t x=>
  cases op<;>simp only[pev] at h<;>first|(cases h;done)|skip
  split at h;rename_i b m;cases h;simp[execOp,l _ _ m,Op.unary];cases h
 case convert s d x=>
  simp only[pev] at h;split at h;rename_i z hz;have Y:=(hI.get hz).under w;split at h;rename_i y L;have g:=(hI.get L).under w;split at h;rename_i k hk;split at h;rename_i k' n m;cases h;simp only[execOp,l _ _ m,convert];rw[Sem.run_bind,jg Y,jg g,hk];cases z.desc<;>rfl;cases h;cases h;cases h;cases h
 case makeFunc fn first O=>
  simp only[pev] at h;split at h;rename_i a X;split at h;rename_i c Q;cases h;simp[execOp,Instr.makeFunc,evs_arr l X,evs_arr l Q];cases h;cases h
 case call c=>
  obtain⟨callee,xs,ts⟩:=c;cases callee;case value=>cases h
  case invoke=>cases h
  case builtin b=>
   cases b
   case len=>
    simp only[pev] at h;split at h
    ·rename_i x C
     have E:xs= #[x]:=by apply cH;simpa using C
     subst E;split at h
     ·rename_i t ab
      have ac:ts= #[t]:=by apply cH;simpa using ab
      subst ac;split at h
      ·rename_i y L
       have g:=(hI.get L).under w
       have go:∀{u:Value},ρ x=u->∀{r:Value},(match y.desc,u with
         | .string,.string s=>(pure (goInt s.size):Sem Value)
         | .array n _,_=>pure (goInt n)
         | .slice _,.slice _ n _=>pure (goInt n)
         |_,_=> .halt .blocked).run P w= .ok r w->
         (execOp ρ {dst,op:= .call {callee:= .builtin .len,args:= #[x],argTypes:= #[t]},type,pos,after,guard}).run P w= .ok (.value r) w:=by
        intro u ad r hr;simp only[execOp,resolve,Sem.run_bind,aR,aD,invoke,builtin]
        have e:(Builtin.len_ #[t] type (Array.map ρ #[x])).run P w= .ok r w:=by
         have em:Array.map ρ #[x]= #[u]:=by simp[ad]
         rw[em];unfold Builtin.len_;simp only[bX,cN];rw[jg g];generalize y.desc=D at hr;cases D<;>cases u<;>first|exact hr|(cases hr;done)
        rw[e];rfl
       split at h;rename_i e S;split at h;rename_i a n c m;cases h;refine go (l _ _ m) ?_;rw[S];rfl;cases h;rename_i S;split at h;rename_i s m;cases h;refine go (l _ _ m) ?_;rw[S];rfl;cases h;rename_i n e S;split at h;rename_i u m;cases h;refine go (l _ _ m) ?_;rw[S];cases u<;>rfl;cases h;cases h
      cases h
     cases h
    cases h
   case min=>
    simp only[pev] at h;split at h;rename_i x y C;have E:xs= #[x,y]:=by apply cH;simpa using C
    subst E;split at h;rename_i k p m;split at h;rename_i k' q L;cases h;simp[execOp,resolve,invoke,builtin,Builtin.min_,l _ _ m,l _ _ L,Builtin.min2];cases h;cases h;cases h
   case max=>
    simp only[pev] at h;split at h;rename_i x y C;have E:xs= #[x,y]:=by apply cH;simpa using C
    subst E;split at h;rename_i k p m;split at h;rename_i k' q L;cases h;simp[execOp,resolve,invoke,builtin,Builtin.max_,l _ _ m,l _ _ L,Builtin.max2];cases h;cases h;cases h
   all_goals (cases h;done)
 all_goals (cases h;done)
def yj3 (n : Nat) (dst : Option Tmp) (v : Value) (env : Env) : Option Env :=
  match dst with
  | some d => match Nat.blt d n with
    | true => some ((d, v) :: env)
    | false => none
  | none => none
def pevs (I : uh) (n : Nat) : List Oper -> Env -> Option (List Oper × Env)
  | [], env => some ([], env)
  | o :: r, env => match o.guard with
    | some _ => some (o :: r, env)
    | none => match pev I o.op env with
      | none => some (o :: r, env)
      | some v => match yj3 n o.dst v env with
        | some env' => pevs I n r env'
        | none => none
def pevsG (I : uh) (n : Nat) (ops : Array Oper) : List Oper -> Env -> Option (List Oper × Env)
  | [], env => some ([], env)
  | o :: r, env => match passes ops env o with
    | true => match yj3 n o.dst undef env with
      | some env' => pevsG I n ops r env'
      | none => none
    | false => match takes ops env o with
      | false => none
      | true => match pev I o.op env with
        | none => some (o :: r, env)
        | some v => match yj3 n o.dst v env with
          | some env' => pevsG I n ops r env'
          | none => none
section
variable {P : Program} {I : uh} {f : Fs} {ops : Array Oper} {Q : vn} {rest : List Oper} {env : Env} {w : World}
theorem As {n:Nat} {dst:Option Tmp} {v:Value} {env env':Env} (h:yj3 n dst v env=some env'):dOk n dst=true/\env'=pushE dst v env:=by
 unfold yj3 at h;split at h;split at h;rename_i d a;cases h;exact⟨a,Z⟩
 cases h;cases h
theorem j6 (hI:I.Ok P) {l l':List Oper} {env':Env} (h:pevs I f.n l env=some (l',env')) (k:WL P f ops Q l' env' w):WL P f ops Q l env w:=by
 induction l generalizing env with
 |nil=>simp[pevs] at h;obtain⟨rfl,rfl⟩:=h;exact k
 |cons o r ih=>
  simp only[pevs] at h;split at h;simp at h;obtain⟨rfl,rfl⟩:=h;exact k;rename_i a;split at h;simp at h;obtain⟨rfl,rfl⟩:=h;exact k;rename_i v b;split at h;rename_i e c;obtain⟨d,rfl⟩:=As c;exact wl (yt (by simp[takes,a]) d (Aw hI b w) (ih h));cases h
theorem xj1 (hI:I.Ok P) {l l':List Oper} {env':Env} (h:pevsG I f.n ops l env=some (l',env')) (k:WL P f ops Q l' env' w):WL P f ops Q l env w:=by
 induction l generalizing env with
 |nil=>simp[pevsG] at h;obtain⟨rfl,rfl⟩:=h;exact k
 |cons o r ih=>
  simp only[pevsG] at h;split at h;rename_i c;split at h;rename_i e a;obtain⟨b,rfl⟩:=As a;exact wl (st_pass c b (ih h));cases h;split at h;cases h;rename_i d;split at h;simp at h;obtain⟨rfl,rfl⟩:=h;exact k;rename_i v g;split at h;rename_i e a;obtain⟨b,rfl⟩:=As a;exact wl (yt d b (Aw hI g w) (ih h));cases h
end
def addrOf (v : Option Value) : Option (Nat × Nat) :=
  match v with
  | some (.pointer (some ⟨b, off, none⟩)) => some (b, off)
  | _ => none
theorem addrOf_eq {v:Option Value} {b off:Nat} (h:addrOf v=some (b,off)):v=some (.pointer (some ⟨b,off,none⟩)):=by
 unfold addrOf at h;split at h;cases h;rfl;cases h
def pre (n : Nat) (ops : Array Oper) (env : Env) (o : Oper) : Bool :=
  match takes ops env o with
  | true => dOk n o.dst
  | false => false
theorem pre_eq {n:Nat} {ops:Array Oper} {env:Env} {o:Oper} (h:pre n ops env o=true):takes ops env o=true/\dOk n o.dst=true:=by
 unfold pre at h;split at h;exact⟨by assumption,h⟩
 cases h
def ldE (I : uh) (n : Nat) (ops : Array Oper) (env : Env) (o : Oper) : Option (Nat × Nat × Option Nat × Nat) :=
  match pre n ops env o with
  | false => none
  | true => match o.dst with
    | none => none
    | some d => match o.op with
      | .load t x => match z7 I t with
        | some y => match addrOf (xz env x) with
          | some (b, off) => match y.isAgg with
            | true => match y.size with
              | 0 => none
              | m + 1 => some (b, off, some (m + 1), d)
            | false => some (b, off, none, d)
          | none => none
        | none => none
      | _ => none
def cellsOf (v : Value) : List Value :=
  match v with
  | .agg cs => cs.toList
  | v => [v]
@[simp] theorem jc (l : List Value) : cellsOf (.agg l.toArray) = l := rfl
@[simp] theorem cellsOf_int (k : IntKind) (n : Int) : cellsOf (.int k n) = [.int k n] := rfl
@[simp] theorem cellsOf_bool (b : Bool) : cellsOf (.bool b) = [.bool b] := rfl
@[simp] theorem cellsOf_string (b : ByteArray) : cellsOf (.string b) = [.string b] := rfl
@[simp] theorem cellsOf_slice (p : Option Addr) (n c : Nat) : cellsOf (.slice p n c) = [.slice p n c] := rfl
@[simp] theorem cellsOf_pointer (p : Option Addr) : cellsOf (.pointer p) = [.pointer p] := rfl
theorem yb (v : Value) : v.cells.toList = cellsOf v := by cases v <;> rfl
theorem cellsOf_size (v : Value) : v.cells.size = (cellsOf v).length := by rw [<- yb]; simp
def stE (I : uh) (n : Nat) (ops : Array Oper) (env : Env) (o : Oper) : Option (Nat × Nat × Nat × Value) :=
  match pre n ops env o with
  | false => none
  | true => match o.op with
    | .store t x z => match z7 I t with
      | some y => match addrOf (xz env x) with
        | some (b, off) => match xz env z with
          | some v => match o.dst with
            | none => match y.size with
              | 0 => none
              | m + 1 => some (b, off, m + 1, v)
            | some _ => none
          | none => none
        | none => none
      | none => none
    | _ => none
def alE (I : uh) (n : Nat) (ops : Array Oper) (env : Env) (o : Oper) : Option (Nat × Value × Nat) :=
  match pre n ops env o with
  | false => none
  | true => match o.dst with
    | some d => match o.op with
      | .alloc t => match z7 I t with
        | some y => some (t, y.zero, d)
        | none => none
      | .box t x => match xz env x with
        | some v => some (t, v, d)
        | none => none
      | _ => none
    | none => none
def ixE (I : uh) (n : Nat) (ops : Array Oper) (env : Env) (o : Oper) : Option (Nat × Nat × Nat × Nat × Int × Nat) :=
  match pre n ops env o with
  | false => none
  | true => match o.dst with
    | some d => match o.op with
      | .indexAddr t x j => match z7 I t with
        | some y => match xz env j with
          | some (.int _ i) => match y.desc with
            | .slice e => match z7 I e with
              | some z => match xz env x with
                | some (.slice (some ⟨b, off, none⟩) len _) => match z.size with
                  | 0 => none
                  | m + 1 => some (b, off, len, m + 1, i, d)
                | _ => none
              | none => none
            | .array len e => match z7 I e with
              | some z => match xz env x with
                | some (.pointer (some ⟨b, off, none⟩)) => match z.size with
                  | 0 => none
                  | m + 1 => some (b, off, len, m + 1, i, d)
                | _ => none
              | none => none
            | _ => none
          | _ => none
        | none => none
      | _ => none
    | none => none
def fdE (I : uh) (n : Nat) (ops : Array Oper) (env : Env) (o : Oper) : Option (List Value × Nat × Option Nat × Nat) :=
  match pre n ops env o with
  | false => none
  | true => match o.dst with
    | some d => match o.op with
      | .field s x k => match xz env x with
        | some (.agg cs) => match z7 I s with
          | some y => match y.desc with
            | .struct fs => match fs[k]? with
              | some g => match z7 I g.type with
                | some z => match z.isAgg with
                  | true => match z.size with
                    | 0 => none
                    | m + 1 => some (cs.toList, g.offset, some (m + 1), d)
                  | false => some (cs.toList, g.offset, none, d)
                | none => none
              | none => none
            | _ => none
          | none => none
        | _ => none
      | _ => none
    | none => none
section
variable {P : Program} {I : uh} {f : Fs} {ops : Array Oper} {o : Oper} {env : Env} {w : World} {K : Env -> World -> Prop}
theorem ldE_eq {n b off d:Nat} {m:Option Nat} (h:ldE I n ops env o=some (b,off,m,d)):takes ops env o=true/\dOk n o.dst=true/\o.dst=some d/\∃t x y,o.op= .load t x/\z7 I t=some y/\xz env x=some (.pointer (some ⟨b,off,none⟩))/\
  ((y.isAgg=true/\m=some y.size)\/(y.isAgg=false/\m=none)):=by
 unfold ldE at h;split at h;cases h;rename_i k;obtain⟨l,p⟩:=pre_eq k;refine⟨l,p,?_⟩;split at h;cases h;rename_i q e;split at h;rename_i t x f;split at h;rename_i y g;split at h;rename_i r i j;split at h;rename_i a;split at h;cases h;rename_i s c;cases h;exact⟨e,t,x,y,f,g,addrOf_eq j,.inl ⟨a,by rw[c]⟩⟩
 rename_i a;cases h;exact⟨e,t,x,y,f,g,addrOf_eq j,.inr ⟨a,Z⟩⟩
 cases h;cases h;cases h
theorem ov_ld (hI:I.Ok P) {n b off d:Nat} {v:Value} (h:ldE I n ops env o=some (b,off,none,d)) (hc:w.cell? ⟨b,off,none⟩=some v):Ov P o env w v w:=by
 obtain⟨m,p,_,t,x,y,f,g,i,j⟩:=ldE_eq h;have a:y.isAgg=false:=by rcases j with⟨c,k⟩|⟨c,_⟩;cases k;exact c
 intro q l;have e:=(hI.get g).isAgg w;rw[a] at e;simp[execOp,f,l _ _ i,Instr.loadAt,Instr.sureAddr,loadVar,e,hc]
theorem ov_ldN (hI:I.Ok P) {n b off m d:Nat} {l:List Value} (h:ldE I n ops env o=some (b,off,some m,d)) (hs:Seg w b off l) (hl:l.length=m):Ov P o env w (.agg l.toArray) w:=by
 obtain⟨s,u,_,t,x,y,g,e,i,j⟩:=ldE_eq h
 obtain⟨a,rfl⟩:y.isAgg=true/\m=y.size:=by
  rcases j with⟨k,c⟩|⟨_,c⟩;exact⟨k,cl c⟩
  cases c
 intro v p;have f:=(hI.get e).isAgg w;rw[a] at f;have q:=(hI.get e).sizeOf w;have r:=x4 (P:=P) (w:=w) (b:=b) (off:=off) y.size 0 l #[] (by simpa using hs) hl;simp only[execOp,g,p _ _ i,Instr.loadAt,Instr.sureAddr,loadVar,Sem.run_bind,aR,aD,f,cT,q,loadCells,r];simp
theorem st_ld (hI:I.Ok P) {b off d:Nat} {v:Value} (h:ldE I f.n ops env o=some (b,off,none,d)) (hc:w.cell? ⟨b,off,none⟩=some v)
  (k:K ((d,v)::env) w):St P f ops o env w K:=
 have⟨h1,h2,h3,_⟩:=ldE_eq h
 yt h1 h2 (ov_ld hI h hc) (by rw[h3];exact k)
theorem st_ldb (hI:I.Ok P) {b off d:Nat} {v:Value} {T:Nat} {l:List Value} (hb:j0 w b T l) (h:ldE I f.n ops env o=some (b,off,none,d)) (hv:nth l off=some v)
  (k:K ((d,v)::env) w):St P f ops o env w K:=
 st_ld hI h (hb.cell (by rw[<-nth_eq];exact hv)) k
theorem st_ldN (hI:I.Ok P) {b off m d:Nat} {l:List Value} (h:ldE I f.n ops env o=some (b,off,some m,d)) (hs:Seg w b off l) (hl:l.length=m)
  (k:K ((d,.agg l.toArray)::env) w):St P f ops o env w K:=
 have⟨h1,h2,h3,_⟩:=ldE_eq h
 yt h1 h2 (ov_ldN hI h hs hl) (by rw[h3];exact k)
theorem st_ldB (hI:I.Ok P) {b m d:Nat} {T:Nat} {l:List Value} (hb:j0 w b T l) (h:ldE I f.n ops env o=some (b,0,some m,d)) (hl:l.length=m)
  (k:K ((d,.agg l.toArray)::env) w):St P f ops o env w K:=
 st_ldN hI h hb.ql hl k
theorem stE_eq {n b off m:Nat} {v:Value} (h:stE I n ops env o=some (b,off,m,v)):takes ops env o=true/\dOk n o.dst=true/\o.dst=none/\∃t x z y,o.op= .store t x z/\z7 I t=some y/\xz env x=some (.pointer (some ⟨b,off,none⟩))/\xz env z=some v/\m=y.size:=by
 unfold stE at h;split at h;cases h;rename_i d;obtain⟨e,f⟩:=pre_eq d;split at h;rename_i t x z g;split at h;rename_i y i;split at h;rename_i p c j;split at h;rename_i q k;split at h;rename_i l;split at h;cases h;rename_i r a;cases h;exact⟨e,f,l,t,x,z,y,g,i,addrOf_eq j,k,a.symm⟩
 cases h;cases h;cases h;cases h;cases h
theorem Ci (hI:I.Ok P) {b off m T:Nat} {v:Value} {l:List Value} (hb:j0 w b T l) (h:stE I f.n ops env o=some (b,off,m,v)) (hl:(cellsOf v).length=m) (hroom:off+m<=l.length) (h1c:∀u∈cellsOf v,u.oneCell'=true)
  (k:∀w',j0 w' b T (put l off (cellsOf v))->Ext (One b) w w'->w'.heap.size=w.heap.size->K env w'):St P f ops o env w K:=by
 obtain⟨g,i,j,t,x,z,y,p,q,r,s,a⟩:=stE_eq h;obtain⟨w',A,c,B,C⟩:=x7 (P:=P) (cellsOf v) w l off 0 hb zk h1c;refine st_s (w':=w') g i (λD d=>?_) (by rw[j];exact k w' (by simpa using c) B C);have e:=(hI.get q).sizeOf w;rw[<-a] at e;simp only[execOp,p,d _ _ r,d _ _ s,Instr.storeAt,Instr.sureAddr,storeVar,Sem.run_bind,aR,aD,e,cellsOf_size,hl,yb];simp[A]
def setF : List Value -> Nat -> Value -> Option (List Value)
  | [], _, _ => none
  | _ :: r, 0, v => some (v :: r)
  | x :: r, n + 1, v => match setF r n v with
    | some r' => some (x :: r')
    | none => none
theorem setF_eq:∀{l:List Value} {n:Nat} {v:Value} {l':List Value},setF l n v=some l'->l'=l.set n v/\n<l.length
 | [],_,_,_,h=>by simp[setF] at h
 |x::r,0,v,l',h=>by simp[setF] at h;subst h;simp
 |x::r,n+1,v,l',h=>by
  simp only[setF] at h
  split at h
  ·rename_i r' hr
   cases h
   have:=setF_eq hr
   simp[this.1,this.2]
  cases h
def flat (v : Value) : Bool :=
  match v with
  | .agg _ => false
  | .tuple _ => false
  | _ => true
theorem flat_eq {v : Value} (h : flat v = true) : v.oneCell' = true /\ cellsOf v = [v] := by
  cases v <;> first | (cases h; done) | exact ⟨Z, rfl⟩
theorem yo (hI:I.Ok P) {b off T:Nat} {v:Value} {l l':List Value} (hb:j0 w b T l) (h:stE I f.n ops env o=some (b,off,1,v)) (hv:flat v=true) (hl:setF l off v=some l')
  (k:∀w',j0 w' b T l'->Ext (One b) w w'->w'.heap.size=w.heap.size->K env w'):St P f ops o env w K:=by
 obtain⟨d,a⟩:=flat_eq hv;obtain⟨rfl,e⟩:=setF_eq hl;refine Ci hI hb h (by rw[a];rfl) zk (by rw[a];simpa using d) λw' c g i=>k w' ?_ g i;rw[a] at c;exact c
theorem un (hI:I.Ok P) {b off T:Nat} {v:Value} {l:List Value} (hb:j0 w b T l) (h:stE I f.n ops env o=some (b,off,1,v)) (hv:flat v=true) (hl:off<l.length)
  (k:∀w',j0 w' b T (l.set off v)->Ext (One b) w w'->w'.heap.size=w.heap.size->K env w'):St P f ops o env w K:=by
 obtain⟨d,a⟩:=flat_eq hv;refine Ci hI hb h (by rw[a];rfl) zk (by rw[a];simpa using d) λw' c e g=>k w' ?_ e g;rw[a] at c;exact c
theorem Bv {l l' : List Value} (h : l'.length = l.length) : put l 0 l' = l' := by
  rw [put_eq _ _ _ zk]
  simp [h]
theorem j9 (hI:I.Ok P) {b m T:Nat} {v:Value} {l:List Value} (hb:j0 w b T l) (h:stE I f.n ops env o=some (b,0,m,v)) {l':List Value} (hv:cellsOf v=l') (hm:l'.length=m) (hl:l'.length=l.length) (h1c:∀u∈l',u.oneCell'=true)
  (k:∀w',j0 w' b T l'->Ext (One b) w w'->w'.heap.size=w.heap.size->K env w'):St P f ops o env w K:=by
 subst hv;exact Ci hI hb h hm zk h1c λw' a c d=>k w' (by rw[Bv hl] at a;exact a) c d
theorem alE_eq {n t d:Nat} {v:Value} (h:alE I n ops env o=some (t,v,d)):takes ops env o=true/\dOk n o.dst=true/\o.dst=some d/\((∃y,o.op= .alloc t/\z7 I t=some y/\v=y.zero)\/(∃x,o.op= .box t x/\xz env x=some v)):=by
 unfold alE at h;split at h;cases h;rename_i f;obtain⟨b,c⟩:=pre_eq f;split at h;rename_i k e;split at h;rename_i g a;split at h;rename_i y i;cases h;exact⟨b,c,e,.inl ⟨y,a,i,Z⟩⟩
 cases h;rename_i g x a;split at h;rename_i l j;cases h;exact⟨b,c,e,.inr ⟨x,a,j⟩⟩
 cases h;cases h;cases h
theorem ov_al (hI:I.Ok P) {n t d:Nat} {v:Value} (h:alE I n ops env o=some (t,v,d)):Ov P o env w (.pointer (some ⟨w.heap.size,0,none⟩)) (w.alloc (.cells v.cells t)):=by
 obtain⟨i,j,k,b⟩:=alE_eq h;intro l c;rcases b with⟨y,a,e,rfl⟩|⟨x,a,f⟩;have g:=(hI.get e).zeroValue w;simp[execOp,a,Instr.alloc,g,newVar,newRow];simp[execOp,a,Instr.box,c _ _ f,newVar,newRow]
theorem Dg (hI:I.Ok P) {t d:Nat} {v:Value} (h:alE I f.n ops env o=some (t,v,d))
  (k:∀(b:Nat) w',w.heap.size<=b->j0 w' b t (cellsOf v)->Ext No w w'->K ((d,.pointer (some ⟨b,0,none⟩))::env) w'):St P f ops o env w K:=by
 obtain⟨a,c,e,g⟩:=alE_eq h;refine yt a c (ov_al hI h) ?_;rw[e];refine k _ _ (aB _) ?_ (Ext.alloc _ _ _);have:=Dt w (cellsOf v) t;rwa [show(cellsOf v).toArray=v.cells from by rw[<-yb]] at this
theorem ixE_eq {n b off len sz d:Nat} {i:Int} (h:ixE I n ops env o=some (b,off,len,sz,i,d)):takes ops env o=true/\dOk n o.dst=true/\o.dst=some d/\∃t x j y z k e,o.op= .indexAddr t x j/\z7 I t=some y/\z7 I e=some z/\sz=z.size/\xz env j=some (.int k i)/\
  ((∃c,y.desc= .slice e/\xz env x=some (.slice (some ⟨b,off,none⟩) len c))\/(y.desc= .array len e/\xz env x=some (.pointer (some ⟨b,off,none⟩)))):=by
 unfold ixE at h;split at h;cases h;rename_i A;obtain⟨q,r⟩:=pre_eq A;split at h;rename_i D s;split at h;rename_i t x j u;split at h;rename_i y v;split at h;rename_i k E w;split at h;rename_i e l;split at h;rename_i z m;split at h;rename_i B f g c p;split at h;cases h;rename_i C a;cases h;exact⟨q,r,s,t,x,j,y,z,k,e,u,v,m,a.symm,w,.inl ⟨c,l,p⟩⟩
 cases h;cases h;rename_i g e l;split at h;rename_i z m;split at h;rename_i B f p;split at h;cases h;rename_i C a;cases h;exact⟨q,r,s,t,x,j,y,z,k,e,u,v,m,a.symm,w,.inr ⟨l,p⟩⟩
 cases h;cases h;cases h;cases h;cases h;cases h;cases h
theorem addr_add (b off n:Nat):(⟨b,off,none⟩:Addr).add n=⟨b,off+n,none⟩:=by
 unfold Addr.add;split;rename_i h0;subst h0;rfl;rfl
theorem ov_ix (hI:I.Ok P) {n b off len sz d:Nat} {i:Int} (h:ixE I n ops env o=some (b,off,len,sz,i,d)) (ss:Nat) (hss:sz=ss) (j:Nat) (hj:i=(j:Int)) (hlt:j<len) (q:Nat) (hq:q=off+j*ss):Ov P o env w (.pointer (some ⟨b,q,none⟩)) w:=by
 subst hss;obtain⟨B,C,D,t,x,E,y,z,k,e,r,u,v,rfl,f,A⟩:=ixE_eq h;subst hj;subst hq;intro F g;have l:=(hI.get u).under w;have s:=(hI.get v).sizeOf w;have a:(0:Int)<=(j:Int)/\(j:Int)<(len:Int):=by omega
 rcases A with⟨c,m,p⟩|⟨m,p⟩;rw[m] at l;simp only[execOp,r,g _ _ p,g _ _ f,Instr.indexAt,asIntOf,Sem.run_bind,aR,aD,l,a,and_self,cT,s,addr_add,bV];rw[m] at l;simp only[execOp,r,g _ _ p,g _ _ f,Instr.indexAt,asIntOf,Instr.sureAddr,Sem.run_bind,aR,aD,l,a,and_self,cT,s,addr_add,bV]
theorem st_ix (hI:I.Ok P) {b off len sz d:Nat} {i:Int} (h:ixE I f.n ops env o=some (b,off,len,sz,i,d)) (ss:Nat) (hss:sz=ss) (j:Nat) (hj:i=(j:Int)) (hlt:j<len) (q:Nat) (hq:q=off+j*ss)
  (k:K ((d,.pointer (some ⟨b,q,none⟩))::env) w):St P f ops o env w K:=
 have⟨h1,h2,hd,_⟩:=ixE_eq h
 yt h1 h2 (ov_ix hI h ss hss j hj hlt q hq) (by rw[hd];exact k)
theorem fdE_eq {n off d:Nat} {m:Option Nat} {l:List Value} (h:fdE I n ops env o=some (l,off,m,d)):takes ops env o=true/\dOk n o.dst=true/\o.dst=some d/\∃s x k cs y fs g z,o.op= .field s x k/\xz env x=some (.agg cs)/\l=cs.toList/\z7 I s=some y/\y.desc= .struct fs/\fs[k]? =some g/\z7 I g.type=some z/\off=g.offset/\
  ((z.isAgg=true/\m=some z.size)\/(z.isAgg=false/\m=none)):=by
 unfold fdE at h;split at h;cases h;rename_i u;obtain⟨e,f⟩:=pre_eq u;split at h;rename_i v i;split at h;rename_i s x k j;split at h;rename_i cs p;split at h;rename_i y q;split at h;rename_i fs a;split at h;rename_i g r;split at h;rename_i z t;split at h;rename_i b;split at h;cases h;rename_i w c;cases h;exact⟨e,f,i,s,x,k,cs,y,fs,g,z,j,p,Z,q,a,r,t,Z,.inl ⟨b,by rw[c]⟩⟩
 rename_i b;cases h;exact⟨e,f,i,s,x,k,cs,y,fs,g,z,j,p,Z,q,a,r,t,Z,.inr ⟨b,Z⟩⟩
 cases h;cases h;cases h;cases h;cases h;cases h;cases h
theorem ov_fd (hI:I.Ok P) {n off d:Nat} {l:List Value} {v:Value} (h:fdE I n ops env o=some (l,off,none,d)) (hv:l[off]? =some v):Ov P o env w v w:=by
 obtain⟨B,C,D,s,x,k,i,y,E,g,z,j,m,rfl,p,a,q,r,rfl,t⟩:=fdE_eq h;have b:z.isAgg=false:=by rcases t with⟨_,u⟩|⟨b,_⟩;cases u;exact b
 intro F A;have e:=(hI.get p).under w;have f:=(hI.get r).isAgg w;rw[a] at e;rw[b] at f;have c:i[g.offset]? =some v:=by simpa using hv
 simp only[execOp,j,A _ _ m,Instr.field,Sem.run_bind,aD,e,q,part,asAgg,aR,f];simp[c]
theorem st_fd (hI:I.Ok P) {off d:Nat} {l:List Value} {v:Value} (h:fdE I f.n ops env o=some (l,off,none,d)) (hv:l[off]? =some v) (k:K ((d,v)::env) w):St P f ops o env w K:=
 have⟨h1,h2,hd,_⟩:=fdE_eq h
 yt h1 h2 (ov_fd hI h hv) (by rw[hd];exact k)
end
def Qt {α : Type} (s : Sem α) : Prop := ∀ (P : Program) (w : World) (n : α) (w' : World), s.run P w = .ok n w' -> w' = w
theorem Qt.pure {α : Type} (a : α) : Qt (pure a : Sem α) := λP w n w' h => by
  simp only [aR, Result.ok.injEq] at h; exact h.2.symm
theorem Qt.bind {α β:Type} {s:Sem α} {k:α->Sem β} (hs:Qt s) (hk:∀a,Qt (k a)):Qt (s>>=k):=λP w n b h=>by
 rw[Sem.run_bind] at h
 cases hr:s.run P w with
 |ok a w1=>
  rw[hr] at h
  have e:=hs P w a w1 hr
  subst e
  exact hk a P _ n b h
 |halt x w1=>rw[hr] at h;cases h
theorem Qt.stuck {α : Type} (m : String) : Qt (stuck m : Sem α) := λP w n w' h => by simp [Go.stuck] at h
theorem Qt.unsupported {α : Type} (m : Unsupported) : Qt (unsupported m : Sem α) := λP w n w' h => by simp [Go.unsupported] at h
theorem Qt.program : Qt program := λP w n w' h => by simp only [run_program, Result.ok.injEq] at h; exact h.2.symm
theorem Qt.getObj (r : Nat) : Qt (getObj r) := λP w n w' h => by
  simp only [Go.getObj, Sem.run] at h
  split at h <;> simp_all
def Nv {α : Type} (s : Sem α) : Prop := ∀ (P : Program) (w : World) (n : α) (w' : World), s.run P w ≠ .ok n w'
theorem Nv.halt {α : Type} (h : Halt) : Nv (.halt h : Sem α) := λP w n w' h => by simp at h
theorem Nv.bind {α β:Type} {s:Sem α} {k:α->Sem β} (hk:∀a,Nv (k a)):Nv (s>>=k):=λP w n b h=>by
 rw[Sem.run_bind] at h
 cases hr:s.run P w with
 |ok a w1=>rw[hr] at h;exact absurd h (hk a P w1 n b)
 |halt x w1=>rw[hr] at h;cases h
theorem Nv.qt {α : Type} {s : Sem α} (h : Nv s) : Qt s := λP w n w' e => absurd e (h P w n w')
theorem y9 {α:Type} (e:RuntimeError):Nv (runtimePanic e:Sem α):=by
 unfold runtimePanic;refine .bind λp=>?_;cases e<;>dsimp only<;>repeat' first|exact Nv.halt _|refine Nv.bind λ_=>?_
theorem Aa {α:Type} (k:IntKind) (x y:Int) (c:BoundsCode):Nv (boundsPanic k x y c:Sem α):=by
 unfold Go.boundsPanic;split<;>repeat' first|exact y9 _|refine Nv.bind λ_=>?_
theorem Qt.underlying (t:TypeId):Qt (underlying t):=by
 unfold Go.underlying;repeat' first|exact Qt.pure _|exact Qt.stuck _|exact Qt.unsupported _|exact Qt.program|exact Qt.getObj _|exact(Aa _ _ _ _).qt|exact(y9 _).qt|assumption|refine Qt.bind ?_ λ_=>?_|split|dsimp only
theorem Qt.sizeOf (t:TypeId):Qt (Go.sizeOf t):=by
 unfold Go.sizeOf typeInfo;repeat' first|exact Qt.pure _|exact Qt.stuck _|exact Qt.unsupported _|exact Qt.program|exact Qt.getObj _|exact(Aa _ _ _ _).qt|exact(y9 _).qt|assumption|refine Qt.bind ?_ λ_=>?_|split|dsimp only
theorem Qt.asIntOf (v:Value):Qt (asIntOf v):=by
 unfold Go.asIntOf;repeat' first|exact Qt.pure _|exact Qt.stuck _|exact Qt.unsupported _|exact Qt.program|exact Qt.getObj _|exact(Aa _ _ _ _).qt|exact(y9 _).qt|assumption|refine Qt.bind ?_ λ_=>?_|split|dsimp only
theorem Qt.sliceBound (x:Value) (y:Nat) (c:BoundsCode):Qt (Instr.sliceBound x y c):=by
 unfold Instr.sliceBound;have:=Qt.asIntOf x;repeat' first|exact Qt.pure _|exact Qt.stuck _|exact Qt.unsupported _|exact Qt.program|exact Qt.getObj _|exact(Aa _ _ _ _).qt|exact(y9 _).qt|assumption|refine Qt.bind ?_ λ_=>?_|split|dsimp only
theorem Qt.sliceBounds (b:Bool) (n c:Nat) (lo hi mx:Option Value):Qt (Instr.sliceBounds b n c lo hi mx):=by
 unfold Instr.sliceBounds;have:=Qt.sliceBound;repeat' first|exact Qt.sliceBound _ _ _|exact Qt.pure _|exact Qt.stuck _|refine Qt.bind ?_ λ_=>?_|split|dsimp only
theorem Qt.asAddr (x:Value):Qt (asAddr x):=by
 unfold Go.asAddr;repeat' first|exact Qt.pure _|exact Qt.stuck _|exact Qt.unsupported _|exact Qt.program|exact Qt.getObj _|exact(Aa _ _ _ _).qt|exact(y9 _).qt|assumption|refine Qt.bind ?_ λ_=>?_|split|dsimp only
theorem Qt.sureAddr (x:Value):Qt (Instr.sureAddr x):=by
 unfold Instr.sureAddr;repeat' first|exact Qt.pure _|exact Qt.stuck _|exact Qt.unsupported _|exact Qt.program|exact Qt.getObj _|exact(Aa _ _ _ _).qt|exact(y9 _).qt|assumption|refine Qt.bind ?_ λ_=>?_|split|dsimp only
theorem Qt.slice (t:TypeId) (x:Value) (lo hi mx:Option Value):Qt (Instr.slice t x lo hi mx):=by
 unfold Instr.slice;repeat' first|exact Qt.underlying _|exact Qt.sizeOf _|exact Qt.asAddr _|exact Qt.sliceBounds _ _ _ _ _ _|exact Qt.pure _|exact Qt.stuck _|refine Qt.bind ?_ λ_=>?_|split|dsimp only
theorem Qt.sliceAt (t:TypeId) (x:Value) (lo hi mx:Option Value):Qt (Instr.sliceAt t x lo hi mx):=by
 unfold Instr.sliceAt;repeat' first|exact Qt.underlying _|exact Qt.sizeOf _|exact Qt.sureAddr _|exact Qt.slice _ _ _ _ _|exact Qt.sliceBounds _ _ _ _ _ _|exact Qt.pure _|exact Qt.stuck _|refine Qt.bind ?_ λ_=>?_|split|dsimp only
theorem Qt.len (ts:Array TypeId) (t:TypeId) (xs:Array Value):Qt (Builtin.len_ ts t xs):=by
 unfold Builtin.len_;repeat' first|exact Qt.underlying _|exact Qt.getObj _|exact Qt.pure _|exact Qt.stuck _|refine Qt.bind ?_ λ_=>?_|split|dsimp only
theorem Qt.minI (ts:Array TypeId) (t:TypeId) (x:Value) (k:IntKind) (n:Int) (xs:Array Value) (h:xs.toList=[x,.int k n]):Qt (Builtin.min_ ts t xs):=by
 unfold Builtin.min_;rw[h];refine .bind ?_ λa=> .pure _;unfold Builtin.min2;split;exact .pure _;rename_i b;cases b;rename_i b;cases b;exact .unsupported _;exact .unsupported _;exact .stuck _
def stillK : Op -> Bool
  | .move _ | .assign _ => true
  | .call { callee := .builtin .len, .. } => true
  | .call { callee := .builtin .min, args := xs, .. } => match xs.toList with
    | [_, .const (.int _ _)] => true
    | _ => false
  | .slice .. => true
  | _ => false
def QtV (s : Sem Next) : Prop := ∀ (P : Program) (w : World) (n : Next) (w' : World), s.run P w = .ok n w' -> w' = w /\ ∃ v, n = .value v
theorem QtV.pure (v:Value):QtV (Pure.pure (.value v)):=λP w n a h=>by
 simp only[aR,Result.ok.injEq] at h;exact⟨h.2.symm,v,h.1.symm⟩
theorem QtV.val {s:Sem Value} (h:Qt s):QtV (s>>=λv=>Pure.pure (.value v)):=λP w n c e=>by
 rw[Sem.run_bind] at e
 cases hr:s.run P w with
 |ok a w1=>
  rw[hr] at e
  have b:=h P w a w1 hr
  subst b
  simp only[Result.andThen,aR,Result.ok.injEq] at e
  exact⟨e.2.symm,a,e.1.symm⟩
 |halt x w1=>rw[hr] at e;cases e
theorem QtV.pb {α:Type} {x:α} {k:α->Sem Next} (h:QtV (k x)):QtV (Pure.pure x>>=k):=λP w n a e=>by
 rw[Sem.run_bind,aR] at e
 exact h P w n a e
theorem stillK_spec {o:Oper} (h:stillK o.op=true) (a:Act):QtV (execOp a.eval o):=by
 obtain⟨f,op,m,i,p,g⟩:=o;cases op with
 |move x=>exact .pure _
 |assign x=>exact .pure _
 |slice t x lo hi mx=>exact .val (.sliceAt _ _ _ _ _)
 |call c=>
  obtain⟨d,j,q⟩:=c;cases d with
  |builtin b=>
   cases b with
   |len=>exact .pb (.val (.len _ _ _))
   |min=>
    simp only[stillK] at h;split at h;rename_i r x k n e;have l:(j.map a.eval).toList=[a.eval x,.int k n]:=by simp only[Array.toList_map,e,dI,List.map_nil,Act.eval]
    exact .pb (.val (.minI _ _ _ _ _ _ l));cases h
   |_=>cases h
  |_=>cases h
 |_=>cases h
def stillAt (ops : Array Oper) (j : Nat) : Bool := match ops[j]? with
  | some o => stillK o.op
  | none => false
theorem wpOp_still {P:Program} {ops:Array Oper} {Q:vn} {i:Nat} {o:Oper} (hi:ops[i]? =some o) (hs:stillK o.op=true) {K:Act->World->Prop} {a:Act} {w:World} (h:wpOp P ops Q i K a w):wpOp P ops Q i (λa' w'=>w'=w/\K a' w') a w:=by
 unfold wpOp at*;simp only[hi] at*;split;rename_i b;simp only[b,cT] at h;rcases h with h|h;refine .inl ?_;unfold Oper.wp at*;generalize hr:(execOp a.eval o).run P w=r at*;cases r with
 |ok n w'=>
  obtain⟨e,v,rfl⟩:=stillK_spec hs a P w n w' hr;exact⟨e,h⟩
 |halt x w'=>cases x<;>exact h
 exact .inr h;rename_i b;simp only[b,bO,dF] at h;exact⟨by trivial,h⟩
def NQ (K : Act -> World -> Prop) : vn := λe a w =>
  match e with
  | .normal => K a w
  | _ => False
section
variable {P : Program} {ops : Array Oper} {C : World -> Prop} {K : Act -> World -> Prop} {A : Nat -> Bool}
def allA (A : Nat -> Bool) (listed : Array Bool) : Prop := ∀ i, A i = true -> listed.getD i true = true
def wpG (P : Program) (ops : Array Oper) (K : Act -> World -> Prop) (C : World -> Prop) (A : Nat -> Bool) : Nat -> Array Bool -> Act -> World -> Prop
  | 0, listed, a, w => C w /\ wpAny P .any ops (NQ K) 0 listed a w
  | fuel + 1, listed, a, w => C w /\ (allA A listed -> wpAny P .any ops (NQ K) (fuel + 1) listed a w) /\
      (¬ allA A listed -> Region.ready .any ops listed ≠ [] /\ ∀ i ∈ Region.ready .any ops listed, wpOp P ops (NQ K) i (wpG P ops K C A fuel (listed.setIfInBounds i true)) a w)
theorem wpG_C:∀{fuel:Nat} {listed:Array Bool} {a:Act} {w:World},wpG P ops K C A fuel listed a w->C w
 |0,_,_,_,h=>h.1
 |_+1,_,_,_,h=>h.1
theorem Cl:∀(fuel:Nat) (listed:Array Bool) (a:Act) (w:World),wpG P ops K C A fuel listed a w->wpAny P .any ops (NQ K) fuel listed a w
 |0,_,_,_,h=>h.2
 |fuel+1,listed,a,w,h=>by
  by_cases hA:allA A listed
  ·exact h.2.1 hA
  obtain⟨hne,hall⟩:=h.2.2 hA
  exact⟨λb=>absurd b hne,λi c=>wpOp_mono (λd e f=>Cl fuel _ d e f) (hall i c)⟩
def Bc (P : Program) (ops : Array Oper) (C : World -> Prop) (o : Oper) (v : Value) (a : Act) : Prop :=
  (Region.wanted o (yielded ops a.tmps) = true /\ ∀ w, C w -> (execOp a.eval o).run P w = .ok (.value v) w) \/
  (Region.wanted o (yielded ops a.tmps) = false /\ v = undef)
theorem Bc.wpOp {Q:vn} {i:Nat} {o:Oper} {v:Value} {a:Act} (hi:ops[i]? =some o) (hy:Bc P ops C o v a) {w:World} (hC:C w) {K':Act->World->Prop} (h:K' (a.put o.dst v) w):Go.wpOp P ops Q i K' a w:=by
 unfold Go.wpOp;simp only[hi];rcases hy with⟨b,c⟩|⟨b,rfl⟩;simp only[b,cT,Oper.wp,c w hC,Oper.upon];exact .inl h;simp only[b,bO,dF];exact h
theorem Bc.of_same {o:Oper} {v:Value} {a a':Act} (hy:Bc P ops C o v a) (he:execOp a'.eval o=execOp a.eval o)
  (hw:Region.wanted o (yielded ops a'.tmps)=Region.wanted o (yielded ops a.tmps)):Bc P ops C o v a':=by
 unfold Bc at*;rw[he,hw];exact hy
theorem wpOpC_put {j:Nat} {oi oj:Oper} {v:Value} (hj:ops[j]? =some oj) (hap:oi.apart ops oj=true)
  (hsi:∀cs b,oi.op≠ .select cs b) (hsj:∀cs b,oj.op≠ .select cs b) {K':Act->World->Prop} {a:Act} {w:World}
  (hy:Bc P ops C oi v a) (h:wpOp P ops (NQ K) j K' (a.put oi.dst v) w):
  wpOp P ops (NQ K) j (λa' w'=>Bc P ops C oi v a'/\K' (a'.put oi.dst v) w') a w:=by
 obtain⟨s,m,F⟩:=Oper.apart_spec hap
 have g:∀(a:Act),Bc P ops C oi v a->∀u,Bc P ops C oi v (a.put oj.dst u):=λa hy u=>
  hy.of_same (execOp_put oi hsi a oj.dst u F) (wanted_put oi a oj.dst u F)
 have k:∀d,Bc P ops C oi v {a with defers:=d::a.defers}:=λd=>hy.of_same Z Z;unfold wpOp at*;simp only[hj] at*;rw[wanted_put oj a oi.dst v s] at h;split
 ·rename_i t
  simp only[t,cT] at h;rcases h with h|⟨i,l⟩;case inr=>exact .inr ⟨by unfold Oper.asks at*;rw[execOp_put oj hsj a oi.dst v s] at i;exact i,l⟩
  refine .inl ?_;unfold Oper.wp at*;rw[execOp_put oj hsj a oi.dst v s] at h;generalize(execOp a.eval oj).run P w=r at*;cases r with
  |ok n w'=>
   cases n<;>simp only[Oper.upon] at h|-;case value u=>exact⟨g a hy u,by rw[<-Act.put_comm a v u m];exact h⟩
   case skip=>exact⟨g a hy _,by rw[<-Act.put_comm a v undef m];exact h⟩
   case defer d=>
    refine⟨g _ (k d) _,?_⟩;rw[<-Act.put_comm _ v undef m,<-Act.put_defers];exact h
   case enter f o=>
    refine Calls.mono h λe B p=>?_;cases e with
    |returned u=>exact⟨g a hy u,by rw[<-Act.put_comm a v u m];exact p⟩
    |panicked c=>exact p
    |outgrown=>exact p
   case row row o=>exact Rows.mono h λu B p=>⟨g a hy u,by rw[<-Act.put_comm a v u m];exact p⟩
  |halt x w'=>
   cases x<;>simp only[Oper.upon] at h|-;case panic u=>exact h
 rename_i t;simp only[t] at h;exact⟨g a hy _,by rw[<-Act.put_comm a v undef m];exact h⟩
def Closed (ops : Array Oper) (listed : Array Bool) : Prop := ∀ (j : Nat) (o : Oper), ops[j]? = some o -> listed.getD j false = true -> ∀ e ∈ o.after, Region.binds .any e = true -> listed.getD e.on false = true
theorem Closed.set {ops:Array Oper} {listed:Array Bool} {j:Nat} (h:Closed ops listed) (hj:j∈Region.ready .any ops listed):Closed ops (listed.setIfInBounds j true):=by
 intro k o b d e f g;obtain⟨_,i,c,a⟩:=mem_ready.1 hj;by_cases hjk:j=k;subst hjk;rw[c] at b;cases b;exact getD_set_true (a e f g);rw[getD_set_ne false hjk] at d;exact getD_set_true (h k o b d e f g)
def yx3 (ops : Array Oper) : Nat -> Nat -> Nat -> Bool
  | 0, _, _ => false
  | n + 1, j, i => match ops[j]? with
    | some o => o.after.any λe => Region.binds .any e && (e.on == i || yx3 ops n e.on i)
    | none => false
theorem yx7 {ops:Array Oper} {listed:Array Bool} (hc:Closed ops listed):∀(n:Nat) {j i:Nat} {o:Oper},ops[j]? =some o->(∀e∈o.after,Region.binds .any e=true->listed.getD e.on false=true)->yx3 ops n j i=true->listed.getD i false=true
 |0,_,_,_,_,_,h=>by simp[yx3] at h
 |n+1,j,i,o,ho,hall,h=>by
  simp only[yx3,ho] at h
  rw[<-Array.any_toList,List.any_eq_true] at h
  obtain⟨e,he,h⟩:=h
  simp only[bY,Bool.or_eq_true,beq_iff_eq] at h
  have d:=hall e (by simpa using he) h.1
  rcases h.2 with a|a
  ·rw[<-a];exact d
  cases hk:ops[e.on]? with
  |none=>
   cases n with
   |zero=>simp[yx3] at a
   |succ n=>simp[yx3,hk] at a
  |some ok=>exact yx7 hc n hk (λf b c=>hc _ ok hk d f b c) a
def barOk (ops : Array Oper) (A : Nat -> Bool) (fl : List Nat) : Bool :=
  (List.range ops.size).all λj => (A j || fl.contains j || stillAt ops j) || (List.range ops.size).all λi => !A i || (yx3 ops 6 j i || yx3 ops 16 j i)
theorem barOk_spec {fl:List Nat} (h:barOk ops A fl=true) {j:Nat} {o:Oper} (ho:ops[j]? =some o) (hj:A j=false) (hjf:j∉fl) {i:Nat} {oi:Oper} (hoi:ops[i]? =some oi) (hi:A i=true):stillK o.op=true\/∃n,yx3 ops n j i=true:=by
 unfold barOk at h;rw[dE] at h;have c:j<ops.size:=(cJ.1 ho).1;have b:i<ops.size:=(cJ.1 hoi).1;have a:=h j (List.mem_range.2 c);rw[Bool.or_eq_true] at a;rcases a with a|a;left;simp only[hj,Bool.false_or,Bool.or_eq_true,List.contains_iff_mem] at a;rcases a with a|a;exact absurd a hjf;simpa only[stillAt,ho] using a;right;rw[dE] at a;have d:=a i (List.mem_range.2 b);rw[hi,Bool.not_true,Bool.false_or,Bool.or_eq_true] at d;exact d.elim (λh=>⟨_,h⟩) λh=>⟨_,h⟩
theorem Az {l:Array Bool} {j k:Nat} (h:l.getD k true=true):(l.setIfInBounds j true).getD k true=true:=by
 by_cases hjk:j=k;subst hjk;by_cases hs:j<l.size;simp[hs];simp[hs];rw[getD_set_ne true hjk];exact h
theorem wpG_of_any:∀{fuel:Nat} {listed:Array Bool} {a:Act} {w:World},C w->allA A listed->wpAny P .any ops (NQ K) fuel listed a w->wpG P ops K C A fuel listed a w
 |0,_,_,_,hC,_,h=>⟨hC,h⟩
 |_+1,_,_,_,hC,hA,h=>⟨hC,λ_=>h,λhn=>absurd hA hn⟩
theorem wpG_first {i:Nat} {oi:Oper} {v:Value} {fl:List Nat} (hbar:barOk ops A fl=true) (hi:ops[i]? =some oi) (hiA:A i=true) (hsel:∀(j:Nat) (o:Oper) cs b,ops[j]? =some o->o.op≠ .select cs b):
  ∀(fuel:Nat) (listed:Array Bool) (a:Act) (w:World),
   (∀j oj,ops[j]? =some oj->j≠i->listed.getD j true=false->(∀e∈oj.after,Region.binds .any e=true->e.on≠i)->oi.apart ops oj=true)->
   (∀j∈fl,listed.getD j true=true)->Closed ops listed->i∈Region.ready .any ops listed->Bc P ops C oi v a->
   wpG P ops K C A fuel (listed.setIfInBounds i true) (a.put oi.dst v) w->wpG P ops K C A (fuel+1) listed a w:=by
 intro fuel;induction fuel with
 |zero=>
  intro listed a w _ _ _ g J H;refine⟨H.1,λL=>?_,λ_=>⟨λh=>(by rw[h] at g;cases g),λj u=>?_⟩⟩;have:=L i hiA;rw[(mem_ready.1 g).1] at this;cases this;by_cases hji:j=i;subst hji;exact J.wpOp hi H.1 H;have:=ready_mono u hji;rw[H.2.1] at this;cases this
 |succ fuel ih=>
  intro listed a w f y z g J H;refine⟨H.1,λL=>?_,λ_=>⟨λh=>(by rw[h] at g;cases g),λj u=>?_⟩⟩;have:=L i hiA;rw[(mem_ready.1 g).1] at this;cases this;by_cases hji:j=i;subst hji;exact J.wpOp hi H.1 H;obtain⟨c,oj,d,q⟩:=mem_ready.1 u;have B:∀e∈oj.after,Region.binds .any e=true->e.on≠i:=λe V W M=>by have r:=q e V W;have s:=(mem_ready.1 g).1;rw[M] at r;rcases bC i listed.size with l|l;simp[l] at s r;rw[s] at r;cases r;simp[cI l] at r
  have N:A j=true\/stillK oj.op=true:=by
   cases l:A j with
   |true=>exact .inl Z
   |false=>
    have O:j∉fl:=λX=>by have:=y j X;rw[c] at this;cases this
    rcases barOk_spec hbar d l O hi hiA with t|⟨n,Y⟩;exact .inr t;have m:=yx7 z n d q Y;have s:=(mem_ready.1 g).1;rcases bC i listed.size with l|l;simp[l] at s m;rw[s] at m;cases m;simp[cI l] at m
  have r:wpOp P ops (NQ K) j (wpG P ops K C A fuel ((listed.setIfInBounds i true).setIfInBounds j true)) (a.put oi.dst v) w:=by
   by_cases hnA:allA A (listed.setIfInBounds i true);have t:stillK oj.op=true:=N.resolve_left λQ=>by have:=hnA j Q;rw[getD_set_ne true (Ne.symm hji),c] at this;cases this
   have s:=(H.2.1 hnA).2 j (ready_mono u hji);refine wpOp_mono (λT U x=>?_) (wpOp_still d t s);obtain⟨rfl,x⟩:=x;exact wpG_of_any H.1 (λk D=>Az (hnA k D)) x;exact(H.2.2 hnA).2 j (ready_mono u hji)
  have I:=wpOpC_put d (f j oj d hji c B) (λcs b=>hsel i oi cs b hi) (λcs b=>hsel j oj cs b d) J r
  have p:∀k E,ops[k]? =some E->k≠i->(listed.setIfInBounds j true).getD k true=false->
    (∀e∈E.after,Region.binds .any e=true->e.on≠i)->oi.apart ops E=true:=λk E D R F S=>by
   refine f k E D R ?_ S;by_cases hjk:j=k;subst hjk;exact c;rw[getD_set_ne true hjk] at F;exact F
  have G:∀k∈fl,(listed.setIfInBounds j true).getD k true=true:=λk D=>Az (y k D);refine wpOp_mono (λT U x=>ih (listed.setIfInBounds j true) T U p G (z.set u) (ready_mono g (Ne.symm hji)) x.1 ?_) I;rw[Array.setIfInBounds_comm _ _ hji];exact x.2
theorem xz9 {i:Nat} {oi:Oper} {v:Value} (hi:ops[i]? =some oi) (hsel:∀(j:Nat) (o:Oper) cs b,ops[j]? =some o->o.op≠ .select cs b):
  ∀(fuel:Nat) (listed:Array Bool) (a:Act) (w:World),
   (∀j oj,ops[j]? =some oj->j≠i->listed.getD j true=false->(∀e∈oj.after,Region.binds .any e=true->e.on≠i)->oi.apart ops oj=true)->
   i∈Region.ready .any ops listed->Bc P ops (λ_=>True) oi v a->
   wpAny P .any ops (NQ K) fuel (listed.setIfInBounds i true) (a.put oi.dst v) w->wpAny P .any ops (NQ K) (fuel+1) listed a w:=by
 intro fuel;induction fuel with
 |zero=>
  intro listed a w _ g s H;refine⟨λh=>(by rw[h] at g;cases g),λj t=>?_⟩;by_cases hji:j=i;subst hji;exact s.wpOp hi trivial H;have:=ready_mono t hji;rw[H.1] at this;cases this
 |succ fuel ih=>
  intro listed a w c g s H;refine⟨λh=>(by rw[h] at g;cases g),λj t=>?_⟩;by_cases hji:j=i;subst hji;exact s.wpOp hi trivial H;obtain⟨f,oj,l,n⟩:=mem_ready.1 t;have p:∀e∈oj.after,Region.binds .any e=true->e.on≠i:=λe C D u=>by have m:=n e C D;have A:=(mem_ready.1 g).1;rw[u] at m;rcases bC i listed.size with x|x;simp[x] at A m;rw[A] at m;cases m;simp[cI x] at m
  have m:=H.2 j (ready_mono t hji);have E:=wpOpC_put l (c j oj l hji f p) (λcs b=>hsel i oi cs b hi) (λcs b=>hsel j oj cs b l) s m
  have d:∀k q,ops[k]? =some q->k≠i->(listed.setIfInBounds j true).getD k true=false->
    (∀e∈q.after,Region.binds .any e=true->e.on≠i)->oi.apart ops q=true:=λk q F y r z=>by
   refine c k q F y ?_ z;by_cases hjk:j=k;subst hjk;exact f;rw[getD_set_ne true hjk] at r;exact r
  refine wpOp_mono (λG J B=>ih (listed.setIfInBounds j true) G J d (ready_mono g (Ne.symm hji)) B.1 ?_) E;rw[Array.setIfInBounds_comm _ _ hji];exact B.2
theorem wpG_float {i:Nat} {oi:Oper} {v:Value} (hi:ops[i]? =some oi) (hiA:A i=false) (hsel:∀(j:Nat) (o:Oper) cs b,ops[j]? =some o->o.op≠ .select cs b):
  ∀(fuel:Nat) (listed:Array Bool) (a:Act) (w:World),
   (∀j oj,ops[j]? =some oj->j≠i->listed.getD j true=false->(∀e∈oj.after,Region.binds .any e=true->e.on≠i)->oi.apart ops oj=true)->
   i∈Region.ready .any ops listed->Bc P ops (λ_=>True) oi v a->
   wpG P ops K C A fuel (listed.setIfInBounds i true) (a.put oi.dst v) w->wpG P ops K C A (fuel+1) listed a w:=by
 intro fuel
 induction fuel with
 |zero=>
  intro listed a w c d n H
  refine⟨H.1,λ_=>xz9 hi hsel 0 listed a w c d n H.2,λ_=>⟨λh=>(by rw[h] at d;cases d),λj x=>?_⟩⟩
  by_cases hji:j=i
  ·subst hji;exact n.wpOp hi trivial H
  have:=ready_mono x hji
  rw[H.2.1] at this
  cases this
 |succ fuel ih=>
  intro listed a w c d n H
  refine⟨H.1,λ_=>xz9 hi hsel (fuel+1) listed a w c d n (Cl _ _ _ _ H),λy=>⟨λh=>(by rw[h] at d;cases d),λj x=>?_⟩⟩
  by_cases hji:j=i
  ·subst hji;exact n.wpOp hi trivial H
  obtain⟨g,oj,l,p⟩:=mem_ready.1 x
  have q:∀e∈oj.after,Region.binds .any e=true->e.on≠i:=λe J L z=>by
   have m:=p e J L
   have F:=(mem_ready.1 d).1
   rw[z] at m
   rcases bC i listed.size with B|B
   ·simp[B] at F m;rw[F] at m;cases m
   simp[cI B] at m
  have r:¬allA A (listed.setIfInBounds i true):=λM=>y λk s=>by
   have:=M k s
   rwa [getD_set_ne true (show i≠k from λe=>by subst e;rw[hiA] at s;cases s)] at this
  have m:=(H.2.2 r).2 j (ready_mono x hji)
  have N:=wpOpC_put l (c j oj l hji g q) (λcs b=>hsel i oi cs b hi) (λcs b=>hsel j oj cs b l) n m
  have f:∀k t,ops[k]? =some t->k≠i->(listed.setIfInBounds j true).getD k true=false->
    (∀e∈t.after,Region.binds .any e=true->e.on≠i)->oi.apart ops t=true:=λk t s D u E=>by
   refine c k t s D ?_ E
   by_cases hjk:j=k
   ·subst hjk;exact g
   rw[getD_set_ne true hjk] at u;exact u
  refine wpOp_mono (λO Q G=>ih (listed.setIfInBounds j true) O Q f (ready_mono d (Ne.symm hji)) G.1 ?_) N
  rw[Array.setIfInBounds_comm _ _ hji]
  exact G.2
def mk (n : Nat) : List Nat -> Array Bool
  | [] => Array.replicate n false
  | i :: r => (mk n r).setIfInBounds i true
def xx2 (ops : Array Oper) : List Nat -> List Nat -> Bool
  | [], dn => (Region.ready .any ops (mk ops.size dn)).isEmpty
  | i :: r, dn => match Nat.blt i ops.size with
    | true => (Region.ready .any ops (mk ops.size dn) == [i]) && xx2 ops r (i :: dn)
    | false => (Region.ready .any ops (mk ops.size dn)).contains (i - ops.size) && Region.free .any ops (mk ops.size dn) (i - ops.size) && xx2 ops r ((i - ops.size) :: dn)
def Bw (ops : Array Oper) (A : Nat -> Bool) (m : Nat) : List (Nat × Bool) -> List Nat -> List Nat -> Bool
  | [], pb, dn => match m with
    | 0 => (List.range ops.size).all (λi => !A i || (mk ops.size dn).getD i true) && xx2 ops pb dn
    | _ + 1 => true
  | (i, true) :: r, pb, dn => (Region.ready .any ops (mk ops.size dn)).contains i && Region.free .any ops (mk ops.size dn) i && (A i && Bw ops A m r pb (i :: dn))
  | (i, false) :: r, pb, dn => (Region.ready .any ops (mk ops.size dn) == [i]) && (A i && Bw ops A m r pb (i :: dn))
theorem mk_size (n : Nat) : ∀ l : List Nat, (mk n l).size = n
  | [] => by simp [mk]
  | i :: r => by simp [mk, mk_size n r]
structure Dr where
  A : Nat -> Bool
  pb : List Nat
  C : World -> Prop
  fl : List Nat := []
  m : Nat := 0
def WB (P : Program) (f : Fs) (ops : Array Oper) (K : Act -> World -> Prop) (pl : List Nat) (dn : List Nat) (env : Env) (w : World) : Prop :=
  xx2 ops pl dn = true -> ∀ a, Ag f env a -> wpAny P .any ops (NQ K) pl.length (mk ops.size dn) a w
def WD (P : Program) (f : Fs) (ops : Array Oper) (K : Act -> World -> Prop) (r : Dr) (pl : List (Nat × Bool)) (dn : List Nat) (env : Env) (w : World) : Prop :=
  Bw ops r.A r.m pl r.pb dn = true -> barOk ops r.A r.fl = true /\ (∀ j ∈ r.fl, (mk ops.size dn).getD j true = true) /\ Closed ops (mk ops.size dn) -> Region.noSelect ops = true -> r.C w -> ∀ a, Ag f env a -> wpG P ops K r.C r.A (pl.length + r.m + r.pb.length) (mk ops.size dn) a w
variable {f : Fs} {env : Env} {w : World}
theorem ja {Q:vn} {dn:List Nat} (h:Fin f Q .normal env w):WB P f ops (Q .normal) [] dn env w:=
 λhp a ha=>⟨by simpa [xx2] using hp,h a ha⟩
theorem wb {i:Nat} {o:Oper} {pl dn:List Nat} (ho:ops[i]? =some o) (h:St P f ops o env w (WB P f ops K pl (i::dn))):WB P f ops K (i::pl) dn env w:=by
 intro e a n;have b:Nat.blt i ops.size=true:=by have:i<ops.size:=(cJ.1 ho).1;simpa using this
 simp only[xx2,b,bY,beq_iff_eq] at e;obtain⟨g,c⟩:=e;refine⟨λk=>(by rw[g] at k;cases k),λj l=>?_⟩;rw[g] at l;obtain rfl:j=i:=by simpa using l
 unfold wpOp;simp only[ho];exact h a (NQ K) _ n λm p r d q=>q c p d
theorem wbv {i k : Nat} {o : Oper} {pl dn : List Nat} (ho : ops[i]? = some o) (hk : k = ops.size + i) (hp : pre f.n ops env o = true) {d : Nat} (hd : o.dst = some d) {v : Value} (hv : ∀ w', Ov P o env w' v w') (hs : Region.noSelect ops = true)
    (h : WB P f ops K pl (i :: dn) ((d, v) :: env) w) : WB P f ops K (k :: pl) dn env w := by
  subst hk;intro b a c
  have e : Nat.blt (ops.size + i) ops.size = false := by
    cases hb : Nat.blt (ops.size + i) ops.size with
    | false => rfl
    | true => have : ops.size + i < ops.size := dK hb
              omega
  simp only [xx2, e, Nat.add_sub_cancel_left, bY] at b;obtain ⟨⟨j, l⟩, g⟩ := b;obtain ⟨m, p⟩ := pre_eq hp;have := h g (a.put o.dst v) (by have := c.put (v := v) p; rwa [hd] at this |-);rw [aQ];exact xz9 ho (Region.noSelect_spec hs) _ _ a w (Region.free_spec ho l) (by simpa using j) (.inl ⟨yf c m, λw' _ => hv w' a.eval (λx u q => c.eval q)⟩) this
theorem wbf {I:uh} (hI:I.Ok P) {i k:Nat} {o:Oper} {pl dn:List Nat} (ho:ops[i]? =some o) (hk:k=ops.size+i) (hp:pre f.n ops env o=true) {d:Nat} (hd:o.dst=some d) {v:Value} (hv:pev I o.op env=some v) (hs:Region.noSelect ops=true)
  (h:WB P f ops K pl (i::dn) ((d,v)::env) w):WB P f ops K (k::pl) dn env w:=
 wbv ho hk hp hd (λw'=>Aw hI hv w') hs h
theorem js {r:Dr} {dn:List Nat} (h:WB P f ops K r.pb dn env w) (hm:r.m=0:=by rfl):WD P f ops K r [] dn env w:=by
 intro b l o d a e;simp only[Bw,hm,bY,dE] at b;have g:allA r.A (mk ops.size dn):=λi j=>by rcases bC i ops.size with c|c;have:=b.1 i (List.mem_range.2 c);rwa [j,Bool.not_true,Bool.false_or] at this;rw[cG,cI (by rw[mk_size];exact c)];rfl
 have:=h b.2 a e;simp only[cL,aV,hm];cases hl:r.pb.length with
 |zero=>rw[hl] at this;exact⟨d,this⟩
 |succ n=>rw[hl] at this;exact⟨d,λ_=>this,λk=>absurd g k⟩
theorem wd_q {r:Dr} {i:Nat} {o:Oper} {v:Value} {pl:List (Nat×Bool)} {dn:List Nat} (ho:ops[i]? =some o) (hp:pre f.n ops env o=true) {d:Nat} (hdd:o.dst=some d) (hv:∀w',r.C w'->Ov P o env w' v w')
  (k:WD P f ops K r pl (i::dn) ((d,v)::env) w):WD P f ops K r ((i,true)::pl) dn env w:=by
 obtain⟨q,s⟩:=pre_eq hp;have k:WD P f ops K r pl (i::dn) (pushE o.dst v env) w:=by rw[hdd];exact k
 intro hp b l t a c;simp only[Bw,bY] at hp;obtain⟨⟨p,y⟩,e,g⟩:=hp;have:=k g ⟨b.1,λj z=>Az (b.2.1 j z),b.2.2.set (by simpa using p)⟩ l t _ (c.put s);simp only[aQ];rw[show pl.length+1+r.m+r.pb.length=(pl.length+r.m+r.pb.length)+1 from by omega];exact wpG_first b.1 ho e (Region.noSelect_spec l) _ _ a w (Region.free_spec ho y) b.2.1 b.2.2 (by simpa using p) (.inl ⟨yf c q,λw' h=>hv w' h a.eval (λx u A=>c.eval A)⟩) this
theorem wd_pass {r:Dr} {i:Nat} {o:Oper} {pl:List (Nat×Bool)} {dn:List Nat} (ho:ops[i]? =some o) (hg:passes ops env o=true) (hd:dOk f.n o.dst=true)
  (k:WD P f ops K r pl (i::dn) (pushE o.dst undef env) w):WD P f ops K r ((i,true)::pl) dn env w:=by
 intro e b g p a h;simp only[Bw,bY] at e;obtain⟨⟨l,q⟩,c,d⟩:=e;have:=k d ⟨b.1,λj s=>Az (b.2.1 j s),b.2.2.set (by simpa using l)⟩ g p _ (h.put hd);simp only[aQ];rw[show pl.length+1+r.m+r.pb.length=(pl.length+r.m+r.pb.length)+1 from by omega];exact wpG_first b.1 ho c (Region.noSelect_spec g) _ _ a w (Region.free_spec ho q) b.2.1 b.2.2 (by simpa using l) (.inr ⟨passes_wanted h hg,Z⟩) this
theorem jv {r:Dr} {i:Nat} {o:Oper} {pl:List (Nat×Bool)} {dn:List Nat} (ho:ops[i]? =some o) (h:St P f ops o env w (λenv' w'=>r.C w'/\WD P f ops K r pl (i::dn) env' w')):WD P f ops K r ((i,false)::pl) dn env w:=by
 intro n d q s a t;simp only[Bw,bY,beq_iff_eq] at n;obtain⟨b,e,g⟩:=n;simp only[aQ];rw[show pl.length+1+r.m+r.pb.length=(pl.length+r.m+r.pb.length)+1 from by omega];have k:(mk ops.size dn).getD i true=false:=(mem_ready.1 (show i∈Region.ready .any ops (mk ops.size dn) from by rw[b];simp)).1;refine⟨s,λu=>?_,λ_=>⟨by rw[b];simp,λj c=>?_⟩⟩;have:=u i e;rw[k] at this;cases this;rw[b] at c;obtain rfl:j=i:=by simpa using c
 unfold wpOp;simp only[ho];exact h a (NQ K) _ t λenv' v w' l p=>p.2 g ⟨d.1,λj c=>Az (d.2.1 j c),d.2.2.set (by rw[b];simp)⟩ q p.1 v l
theorem wd_case {r:Dr} {pl:List (Nat×Bool)} {dn:List Nat} (d:Nat) {b:Bool} (hd:lk env d=some (.bool b)) (ht:b=true->WD P f ops K r pl dn ((d,.bool true)::env) w) (hf:b=false->WD P f ops K r pl dn ((d,.bool false)::env) w):WD P f ops K r pl dn env w:=by
 intro k l m n a h
 have c:∀j,b=j->Ag f ((d,.bool j)::env) a:=λj e=>⟨h.defers,h.size,λi u g=>by
   rw[yj7] at g
   split at g
   rename_i o;subst o;simp at g;subst g;subst e;exact h.get _ _ hd
   exact h.get _ _ g⟩
 cases b;exact hf Z k l m n a (c _ Z);exact ht Z k l m n a (c _ Z)
theorem Ao {r:Dr} {pl:List (Nat×Bool)} {dn:List Nat} (d:Nat) {p:Prop} [Decidable p] (hd:lk env d=some (.bool (decide p))) (ht:p->WD P f ops K r pl dn ((d,.bool true)::env) w) (hf:¬p->WD P f ops K r pl dn ((d,.bool false)::env) w):WD P f ops K r pl dn env w:=
 wd_case d hd (λh=>ht (cQ h)) (λh=>hf (of_decide_eq_false h))
def pevsD (I : uh) (n : Nat) (ops : Array Oper) : List (Nat × Bool) -> List Nat -> Env -> Option (List (Nat × Bool) × List Nat × Env)
  | [], dn, env => some ([], dn, env)
  | (i, false) :: r, dn, env => match ops[i]? with
    | none => none
    | some o => match passes ops env o with
      | true => match yj3 n o.dst undef env with
        | some env' => pevsD I n ops r (i :: dn) env'
        | none => none
      | false => some ((i, false) :: r, dn, env)
  | (i, true) :: r, dn, env => match ops[i]? with
    | none => none
    | some o => match passes ops env o with
      | true => match yj3 n o.dst undef env with
        | some env' => pevsD I n ops r (i :: dn) env'
        | none => none
      | false => match takes ops env o with
        | false => some ((i, true) :: r, dn, env)
        | true => match pev I o.op env with
          | none => some ((i, true) :: r, dn, env)
          | some v => match yj3 n o.dst v env with
            | some env' => pevsD I n ops r (i :: dn) env'
            | none => none
theorem wd_p {I:uh} (hI:I.Ok P) {r:Dr} {pl pl':List (Nat×Bool)} {dn dn':List Nat} {env':Env} (h:pevsD I f.n ops pl dn env=some (pl',dn',env')) (k:WD P f ops K r pl' dn' env' w):WD P f ops K r pl dn env w:=by
 induction pl generalizing env dn with
 |nil=>simp[pevsD] at h;obtain⟨rfl,rfl,rfl⟩:=h;exact k
 |cons x pl ih=>
  obtain⟨i,q⟩:=x;cases q with
  |false=>
   simp only[pevsD] at h;split at h;cases h;rename_i o j;split at h;rename_i l;split at h;rename_i e b;obtain⟨c,rfl⟩:=As b;exact λp s t m a u=>jv j (st_pass l c ⟨m,ih h⟩) p s t m a u;cases h;simp at h;obtain⟨rfl,rfl,rfl⟩:=h;exact k
  |true=>
   simp only[pevsD] at h;split at h;cases h;rename_i o j;split at h;rename_i l;split at h;rename_i e b;obtain⟨c,rfl⟩:=As b;exact wd_pass j l c (ih h);cases h;split at h;simp at h;obtain⟨rfl,rfl,rfl⟩:=h;exact k;rename_i y;split at h;simp at h;obtain⟨rfl,rfl,rfl⟩:=h;exact k;rename_i v z;split at h;rename_i e b;obtain⟨c,g⟩:=As b;cases hdd:o.dst with
   |none=>rw[hdd] at b;cases b
   |some d=>exact wd_q j (by simp[pre,y,c]) hdd (λA _=>Aw hI z A) (by rw[hdd] at g;subst g;exact ih h)
   cases h
def pevsK (I : uh) (n : Nat) (ops : Array Oper) : Nat -> List (Nat × Bool) -> List Nat -> Env -> Option (List (Nat × Bool) × List Nat × Env)
  | 0, pl, dn, env => some (pl, dn, env)
  | _ + 1, [], dn, env => some ([], dn, env)
  | k + 1, (i, q) :: r, dn, env => match ops[i]? with
    | none => none
    | some o => match passes ops env o with
      | true => match yj3 n o.dst undef env with
        | some env' => pevsK I n ops k r (i :: dn) env'
        | none => none
      | false => match q with
        | false => some ((i, false) :: r, dn, env)
        | true => match takes ops env o with
          | false => none
          | true => match pev I o.op env with
            | none => none
            | some v => match yj3 n o.dst v env with
              | some env' => pevsK I n ops k r (i :: dn) env'
              | none => none
theorem gw {I:uh} (hI:I.Ok P) {r:Dr} {pl pl':List (Nat×Bool)} {dn dn':List Nat} {env':Env} (k:Nat) (h:pevsK I f.n ops k pl dn env=some (pl',dn',env')) (hk:WD P f ops K r pl' dn' env' w):WD P f ops K r pl dn env w:=by
 induction k generalizing pl env dn with
 |zero=>simp[pevsK] at h;obtain⟨rfl,rfl,rfl⟩:=h;exact hk
 |succ k ih=>
  cases pl with
  |nil=>simp[pevsK] at h;obtain⟨rfl,rfl,rfl⟩:=h;exact hk
  |cons x pl=>
   obtain⟨i,q⟩:=x;simp only[pevsK] at h;split at h;cases h;rename_i o j;split at h;rename_i l;split at h;rename_i e b;obtain⟨g,rfl⟩:=As b;cases q with
   |true=>exact wd_pass j l g (ih h)
   |false=>exact λp s t m a u=>jv j (st_pass l g ⟨m,ih h⟩) p s t m a u
   cases h;cases q with
   |false=>simp at h;obtain⟨rfl,rfl,rfl⟩:=h;exact hk
   |true=>
    simp only at h;split at h;cases h;rename_i y;split at h;cases h;rename_i v z;split at h;rename_i e b;obtain⟨g,c⟩:=As b;cases hdd:o.dst with
    |none=>rw[hdd] at b;cases b
    |some d=>exact wd_q j (by simp[pre,y,g]) hdd (λA _=>Aw hI z A) (by rw[hdd] at c;subst c;exact ih h)
    cases h
theorem Dp (ops:Array Oper) (n:Nat):Closed ops (mk n []):=by
 intro j o _ a;simp only[mk] at a;rcases bC j n with h|h;simp[h] at a;simp[h] at a
theorem ke {Q : vn} {id : Nat} {l : List Oper} (hm : P.follows .mixedOrders = true) (nA : Nat) (pl : List (Nat × Bool)) (pb : List Nat) (S : Nat -> Prop)
  (hok : (Bw l.toArray (Nat.blt · nA) 0 pl pb [] && barOk l.toArray (Nat.blt · nA) [] && Region.noSelect l.toArray && Nat.beq (pl.length + pb.length) l.length) = true)
  (h : ∀ w1, Ext No w w1 -> w1.heap.size = w.heap.size -> WD P f l.toArray (Q .normal) ⟨(Nat.blt · nA), pb, Ext S w, [], 0⟩ pl [] env w1) : WC P f (.region id l.toArray true) Q env w := by
 intro a c;simp only [bY] at hok;obtain ⟨⟨⟨d, g⟩, i⟩, j⟩ := hok;have k := h _ (Ext.drew' w) Z d ⟨g, λ_ m => (by cases m), Dp _ _⟩ i (Ext.drew' w).no a c;have n : pl.length + pb.length = l.toArray.size := by simpa using dL j
 refine wp_mono (Q := NQ (Q .normal)) (wp_region_any hm ?_) λe o p b => by cases e <;> first | exact b | exact b.elim
 have := Cl _ _ _ _ k;simp only [Nat.add_zero] at this;rwa [n] at this
def yz7 (ops : Array Oper) (A : Nat -> Bool) : List Nat -> List Nat -> Bool
  | [], _ => true
  | i :: r, dn => (Region.ready .any ops (mk ops.size dn)).contains i && Region.free .any ops (mk ops.size dn) i && (!A i && yz7 ops A r (i :: dn))
def floatsE (I : uh) (n : Nat) (ops : Array Oper) : List Nat -> List Nat -> Env -> Option (List Nat × Env)
  | [], dn, env => some (dn, env)
  | i :: r, dn, env => match ops[i]? with
    | none => none
    | some o => match takes ops env o with
      | false => none
      | true => match pev I o.op env with
        | none => none
        | some v => match yj3 n o.dst v env with
          | some env' => floatsE I n ops r (i :: dn) env'
          | none => none
theorem floats_G {I:uh} (hI:I.Ok P) {C:World->Prop} {A:Nat->Bool} (hs:Region.noSelect ops=true):∀(fl dn dn':List Nat) (env env':Env) (fuel:Nat) (a:Act),yz7 ops A fl dn=true->floatsE I f.n ops fl dn env=some (dn',env')->Ag f env a->
  (∀a',Ag f env' a'->wpG P ops K C A fuel (mk ops.size dn') a' w)->wpG P ops K C A (fl.length+fuel) (mk ops.size dn) a w
 | [],dn,dn',env,env',fuel,a,_,h,ha,k=>by
  simp only[floatsE,bJ,cR] at h
  obtain⟨rfl,rfl⟩:=h
  simpa using k a ha
 |i::r,dn,dn',env,env',fuel,a,hok,h,ha,k=>by
  simp only[yz7,bY] at hok
  obtain⟨⟨e,g⟩,c,b⟩:=hok
  simp only[floatsE] at h
  split at h
  ·cases h
  rename_i o d
  split at h
  ·cases h
  rename_i j
  split at h
  ·cases h
  rename_i v l
  split at h
  ·rename_i t m
   obtain⟨p,rfl⟩:=As m
   have:=floats_G hI hs r (i::dn) dn' _ env' fuel _ b h (ha.put p) k
   rw[aQ,show r.length+1+fuel=(r.length+fuel)+1 from by omega]
   exact wpG_float d (by simpa using c) (Region.noSelect_spec hs) _ _ a w (Region.free_spec d g) (by simpa using e) (.inl ⟨yf ha j,λq _=>Aw hI l q a.eval (λx u s=>ha.eval s)⟩) this
  cases h
theorem closed_floats {ops:Array Oper} {A:Nat->Bool}:∀(fl dn:List Nat),yz7 ops A fl dn=true->Closed ops (mk ops.size dn)->Closed ops (mk ops.size (fl.reverse++dn))
 | [],_,_,h=>h
 |i::r,dn,hok,h=>by
  simp only[yz7,bY] at hok
  rw[List.reverse_cons,aM]
  exact closed_floats r (i::dn) hok.2.2 (h.set (by simpa using hok.1.1))
theorem c_drawL {I:uh} (hI:I.Ok P) {Q:vn} {id:Nat} {l:List Oper} (hm:P.follows .mixedOrders=true) (fl:List Nat) (nA:Nat) (late:List Nat) (pl:List (Nat×Bool)) (pb:List Nat) (S:Nat->Prop)
  (hok:(yz7 l.toArray (λi=>Nat.blt i nA&& !late.contains i) fl []&&Bw l.toArray (λi=>Nat.blt i nA&& !late.contains i) 0 pl pb fl.reverse&&barOk l.toArray (λi=>Nat.blt i nA&& !late.contains i) fl&&Region.noSelect l.toArray&&Nat.beq (fl.length+(pl.length+pb.length)) l.length&&fl.all (λj=>(mk l.toArray.size fl.reverse).getD j true))=true)
  {env':Env} (hfl:floatsE I f.n l.toArray fl [] env=some (fl.reverse,env'))
  (h:∀w1,Ext No w w1->w1.heap.size=w.heap.size->WD P f l.toArray (Q .normal) ⟨(λi=>Nat.blt i nA&& !late.contains i),pb,Ext S w,fl,0⟩ pl fl.reverse env' w1):WC P f (.region id l.toArray true) Q env w:=by
 intro a o;simp only[bY] at hok;obtain⟨⟨⟨⟨⟨d,p⟩,q⟩,g⟩,r⟩,s⟩:=hok;have t:fl.length+(pl.length+pb.length)=l.toArray.size:=by simpa using dL r
 refine wp_mono (Q:=NQ (Q .normal)) (wp_region_any hm ?_) λe k x m=>by cases e<;>first|exact m|exact m.elim
 have u:=floats_G (w:={w with drawn:=w.drawn+1}) hI (A:=(λi=>Nat.blt i nA&& !late.contains i)) (C:=Ext S w) (K:=Q .normal) g fl [] fl.reverse env env' (pl.length+pb.length) a d hfl o;have:=u λk c=>h _ (Ext.drew' w) Z p ⟨q,λj v=>dE.1 s j v,by have:=closed_floats fl [] d (Dp _ _);rwa [bE] at this⟩ g (Ext.drew' w).no k c;have:=Cl _ _ _ _ this;rwa [t] at this
theorem zz3 {I:uh} (hI:I.Ok P) {o:Oper} {v:Value} {K':Env->World->Prop} (hp:pre f.n ops env o=true) {d:Nat} (hd:o.dst=some d) (hv:pev I o.op env=some v) (k:K' ((d,v)::env) w):St P f ops o env w K':=
 have⟨h1,h2⟩:=pre_eq hp
 yt h1 h2 (Aw hI hv w) (by rw[hd];exact k)
def WX (P : Program) (f : Fs) (ops : Array Oper) (K : Act -> World -> Prop) (r : Dr) (k : Nat) (dn : List Nat) (env : Env) (w : World) : Prop :=
  barOk ops r.A r.fl = true /\ (∀ j ∈ r.fl, (mk ops.size dn).getD j true = true) /\ Closed ops (mk ops.size dn) -> Region.noSelect ops = true -> r.C w -> ∀ a, Ag f env a -> wpG P ops K r.C r.A (k + r.pb.length) (mk ops.size dn) a w
def Alts (P : Program) (f : Fs) (ops : Array Oper) (K : Act -> World -> Prop) (r : Dr) (k : Nat) (dn : List Nat) (env : Env) (w : World) : List Nat -> Prop
  | [] => True
  | i :: is => (∃ o, ops[i]? = some o /\ St P f ops o env w (λenv' w' => r.C w' /\ WX P f ops K r k (i :: dn) env' w')) /\ Alts P f ops K r k dn env w is
theorem Alts.get {r:Dr} {k:Nat} {dn:List Nat}:∀{is:List Nat},Alts P f ops K r k dn env w is->∀i∈is,∃o,ops[i]? =some o/\St P f ops o env w (λenv' w'=>r.C w'/\WX P f ops K r k (i::dn) env' w')
 | [],_,i,hi=>by cases hi
 |j::is,h,i,hi=>by
  rcases List.mem_cons.1 hi with rfl|hi
  ·exact h.1
  exact h.2.get i hi
theorem zu {r:Dr} {dn:List Nat} {k:Nat} (hm:r.m=k) (h:WX P f ops K r k dn env w):WD P f ops K r [] dn env w:=by
 intro _ b c d a e;simp only[cL,aV,hm];exact h b c d a e
theorem u9 {r:Dr} {dn:List Nat} {k:Nat} (pl:List (Nat×Bool)) (m:Nat) (hk:k=pl.length+m) (hp:Bw ops r.A m pl r.pb dn=true) (h:WD P f ops K {r with m:=m} pl dn env w):WX P f ops K r k dn env w:=by
 subst hk;exact λhb hs hC a ha=>h hp hb hs hC a ha
theorem C2 {r:Dr} {k m:Nat} {dn:List Nat} (is:List Nat) (hk:k=m+1) (hr:((Region.ready .any ops (mk ops.size dn)==is)&&is.all r.A&& !is.isEmpty)=true) (h:Alts P f ops K r m dn env w is):WX P f ops K r k dn env w:=by
 subst hk;intro g x y a z;simp only[bY,beq_iff_eq,dE] at hr;obtain⟨⟨hr,l⟩,n⟩:=hr;have b:is≠[]:=by intro e;subst e;simp at n
 rw[show m+1+r.pb.length=(m+r.pb.length)+1 from by omega];refine⟨y,λB=>?_,λ_=>⟨by rw[hr];exact b,λj s=>?_⟩⟩;obtain⟨i,d⟩:=List.exists_mem_of_ne_nil is b;have C:i∈Region.ready .any ops (mk ops.size dn):=by rw[hr];exact d
 have t:=B i (l i d);rw[(mem_ready.1 C).1] at t;cases t;have c:=s;rw[hr] at c;obtain⟨o,D,p⟩:=h.get j c;unfold wpOp;simp only[D];exact p a (NQ K) _ z λu E F q v=>v.2 ⟨g.1,λi d=>Az (g.2.1 i d),g.2.2.set s⟩ x v.1 E q
theorem yw8 {Q : vn} {id : Nat} {l : List Oper} (hm : P.follows .mixedOrders = true) (nA : Nat) (k : Nat) (pb : List Nat) (S : Nat -> Prop)
  (hok : (barOk l.toArray (Nat.blt · nA) [] && Region.noSelect l.toArray && Nat.beq (k + pb.length) l.length) = true)
  (h : ∀ w1, Ext No w w1 -> w1.heap.size = w.heap.size -> WX P f l.toArray (Q .normal) ⟨(Nat.blt · nA), pb, Ext S w, [], 0⟩ k [] env w1) : WC P f (.region id l.toArray true) Q env w := by
 intro a c;simp only [bY] at hok;obtain ⟨⟨d, g⟩, i⟩ := hok;have j := h _ (Ext.drew' w) Z ⟨d, λ_ m => (by cases m), Dp _ _⟩ g (Ext.drew' w).no a c;have n : k + pb.length = l.toArray.size := by simpa using dL i
 refine wp_mono (Q := NQ (Q .normal)) (wp_region_any hm ?_) λe o p b => by cases e <;> first | exact b | exact b.elim
 have := Cl _ _ _ _ j;rwa [n] at this
end
def Df (n : Nat) (z : List Value) : List Value := (List.replicate n z).flatten
theorem va (n : Nat) (z : List Value) : (Df n z).length = n * z.length := by simp [Df]
theorem rep_one (n:Nat) (v:Value):Df n [v]=List.replicate n v:=by
 unfold Df;induction n with
 |zero=>rfl
 |succ n ih=>simp[List.replicate_succ,ih]
theorem rep_succ (n : Nat) (z : List Value) : Df (n + 1) z = z ++ Df n z := by simp [Df, List.replicate_succ]
theorem rep_getElem? (z:List Value) (hz:0<z.length):∀(n i:Nat),i<n*z.length->(Df n z)[i]? =z[i%z.length]?
 |0,i,h=>by simp at h
 |n+1,i,h=>by
  rw[rep_succ]
  rcases bC i z.length with h'|h'
  ·rw[cO h',Nat.mod_eq_of_lt h']
  rw[cD h',rep_getElem? z hz n (i-z.length) (by rw[cS] at h;omega)]
  rw[Nat.mod_eq_sub_mod h']
theorem yx6 (z:List Value) (n:Nat) (hz:0<z.length):madeCells z.toArray (n*z.length)=(Df n z).toArray:=by
 apply cH;apply List.ext_getElem?;intro i;unfold madeCells;rw[Array.toList_map,Array.toList_range];rcases bC i (n*z.length) with h|h;have a:i%z.length<z.length:=Nat.mod_lt _ hz;rw[rep_getElem? z hz n i h,bS,List.getElem?_range h];simp[a];rw[bR (by simp;exact h),bR (by rw[va];exact h)]
theorem C4 (z:List Value) (n:Nat) (hz:0<z.length):Builtin.zeroCells z.toArray n=(Df n z).toArray:=by
 rw[<-yx6 z n hz];simp[Builtin.zeroCells,madeCells]
def Sl (w : World) (p : Option Addr) (n sz : Nat) (xs : List Value) : Prop :=
  xs.length = n * sz /\ (n = 0 \/ ∃ b off, p = some ⟨b, off, none⟩ /\ Seg w b off xs)
def Own (w : World) (p : Option Addr) (n c T sz : Nat) (xs : List Value) : Prop :=
  (p = none /\ n = 0 /\ c = 0 /\ xs = []) \/ ∃ b l, p = some ⟨b, 0, none⟩ /\ j0 w b T l /\ l.length = c * sz /\ n <= c /\ c <= maxLen /\ l.take (n * sz) = xs
abbrev jb (p : Option Addr) : Nat -> Prop := λx => p = some ⟨x, 0, none⟩
theorem Own.nil (w : World) (T sz : Nat) : Own w none 0 0 T sz [] := .inl ⟨Z, rfl, rfl, rfl⟩
theorem Own.len {w:World} {p:Option Addr} {n c T sz:Nat} {xs:List Value} (h:Own w p n c T sz xs):xs.length=n*sz:=by
 rcases h with⟨_,rfl,_,rfl⟩|⟨b,l,_,_,a,d,_,rfl⟩;simp;have:n*sz<=c*sz:=cC _ d;rw[aH,a,bP this]
theorem Own.cap {w:World} {p:Option Addr} {n c T sz:Nat} {xs:List Value} (h:Own w p n c T sz xs):n<=c:=by
 rcases h with⟨_,rfl,rfl,_⟩|⟨b,l,_,_,_,a,_,_⟩;exact aB _;exact a
theorem Own.sl {w:World} {p:Option Addr} {n c T sz:Nat} {xs:List Value} (h:Own w p n c T sz xs):Sl w p n sz xs:=by
 refine⟨h.len,?_⟩;rcases h with⟨_,a,_,_⟩|⟨b,l,d,e,_,_,_,rfl⟩;exact .inl a;exact .inr ⟨b,0,d,e.ql.take _⟩
theorem Own.ext {S:Nat->Prop} {w w':World} {p:Option Addr} {n c T sz:Nat} {xs:List Value} (h:Own w p n c T sz xs) (hE:Ext S w w') (hS:∀x,jb p x->¬S x):Own w' p n c T sz xs:=by
 rcases h with h|⟨b,l,a,d,r⟩;exact .inl h;exact .inr ⟨b,l,a,d.ext hE (hS b a),r⟩
theorem Own.lt {w:World} {p:Option Addr} {n c T sz:Nat} {xs:List Value} (h:Own w p n c T sz xs) {x:Nat} (hx:jb p x):x<w.heap.size:=by
 rcases h with⟨a,_⟩|⟨b,l,a,d,_⟩;rw[a] at hx;cases hx;rw[a] at hx;obtain rfl:b=x:=by simpa using hx
 exact d.lt
theorem Own.blk {w:World} {b n c T:Nat} {l:List Value} (h:j0 w b T l) (sz:Nat) (hl:l.length=c*sz) (hn:n<=c) (hc:c<=maxLen):Own w (some ⟨b,0,none⟩) n c T sz (l.take (n*sz)):=
 .inr ⟨b,l,Z,h,hl,hn,hc,Z⟩
theorem Sl.ext {S:Nat->Prop} {w w':World} {p:Option Addr} {n sz:Nat} {xs:List Value} (h:Sl w p n sz xs) (hE:Ext S w w') (hS:∀b off,p=some ⟨b,off,none⟩->¬S b):Sl w' p n sz xs:=by
 refine⟨h.1,?_⟩;rcases h.2 with c|⟨b,off,a,d⟩;exact .inl c;exact .inr ⟨b,off,a,d.ext hE (hS b off a)⟩
theorem Sl.ga {w w':World} {p:Option Addr} {n sz:Nat} {xs:List Value} (h:Sl w p n sz xs) (hE:Ext No w w'):Sl w' p n sz xs:=h.ext hE λ_ _ _=>id
theorem Sl.nil (w : World) (p : Option Addr) (sz : Nat) : Sl w p 0 sz [] := ⟨by simp, .inl Z⟩
section
variable {P : Program} {I : uh} {f : Fs} {ops : Array Oper} {o : Oper} {env : Env} {w : World} {K : Env -> World -> Prop}
def mkE (I : uh) (n : Nat) (ops : Array Oper) (env : Env) (o : Oper) : Option (Nat × TI × Int × Int × Nat) :=
  match pre n ops env o with
  | false => none
  | true => match o.dst with
    | some d => match o.op with
      | .makeSlice t x z => match z7 I t with
        | some y => match y.desc with
          | .slice e => match z7 I e with
            | some g => match xz env x with
              | some (.int _ p) => match xz env z with
                | some (.int _ q) => some (e, g, p, q, d)
                | _ => none
              | _ => none
            | none => none
          | _ => none
        | none => none
      | _ => none
    | none => none
theorem mkE_eq {n e d:Nat} {g:TI} {p q:Int} (h:mkE I n ops env o=some (e,g,p,q,d)):takes ops env o=true/\dOk n o.dst=true/\o.dst=some d/\∃t x z y k k',o.op= .makeSlice t x z/\z7 I t=some y/\y.desc= .slice e/\z7 I e=some g/\xz env x=some (.int k p)/\xz env z=some (.int k' q):=by
 unfold mkE at h;split at h;cases h;rename_i a;obtain⟨b,c⟩:=pre_eq a;split at h;rename_i u f;split at h;rename_i t x z i;split at h;rename_i y j;split at h;rename_i v l;split at h;rename_i w m;split at h;rename_i k A r;split at h;rename_i k' B s;cases h;exact⟨b,c,f,t,x,z,y,k,k',i,j,l,m,r,s⟩
 cases h;cases h;cases h;cases h;cases h;cases h;cases h
theorem zx8 (hI:I.Ok P) {e d:Nat} {g:TI} {p q:Int} (h:mkE I f.n ops env o=some (e,g,p,q,d)) (n c:Nat) (by_:Nat) (hby:g.bytes=by_) {zs:List Value} (hzs:cellsOf g.zero=zs) (hz:zs.length=g.size) (hz0:0<zs.length) (hn:p=(n:Int)) (hc:q=(c:Int)) (hnc:n<=c) (hb:by_*c<=281474976710656) (hm:c<=maxLen)
  (k:∀(b:Nat) w',w.heap.size<=b->j0 w' b e (Df c zs)->Ext No w w'->w'.heap.size=w.heap.size+1->K ((d,.slice (some ⟨b,0,none⟩) n c)::env) w'):St P f ops o env w K:=by
 subst hby
 subst hzs
 obtain⟨s,u,A,t,x,z,y,B,a,C,D,E,F,G,j⟩:=mkE_eq h
 subst hn;subst hc
 obtain⟨i,H,J,L,M⟩:=TI.Ok.info (hI.get F)
 have l:=(hI.get D).1
 rw[E] at l
 unfold maxLen at hm
 have m:=run_make (P:=P) w t e i g.zero l H M B a n c zk zk (by rw[L,<-Int.natCast_mul];exact Int.ofNat_le.2 hb) zk
 rw[J,<-hz,bV,bV,show g.zero.cells=(cellsOf g.zero).toArray from by rw[<-yb],yx6 _ _ zk] at m
 refine yt s u (v:= .slice (some ⟨w.heap.size,0,none⟩) n c) (w':=w.alloc (.cells (Df c (cellsOf g.zero)).toArray e)) (λN r=>?_) ?_
 ·simp only[execOp,C,r _ _ G,r _ _ j,Sem.run_bind,m,aD,aR]
 rw[A]
 exact k _ _ (aB _) (Dt _ _ _) (Ext.alloc _ _ _) zq
def ur (p : Option Addr) (l m sz : Nat) : Option Addr := if m = l then p else p.map (·.add (l * sz))
theorem A6 {b off l m sz:Nat} (h:l≠m):ur (some ⟨b,off,none⟩) l m sz=some ⟨b,off+l*sz,none⟩:=by
 unfold ur;rw[aI (λe=>h e.symm)];simp[addr_add]
theorem qe {p : Option Addr} {m sz : Nat} : ur p 0 m sz = p := by
  unfold ur
  split
  · rfl
  · cases p <;> simp [Addr.add]
def evI (env : Env) (x : Option Operand) : Option (Option Int) :=
  match x with
  | none => some none
  | some y => match xz env y with
    | some (.int _ n) => some (some n)
    | _ => none
structure SlArgs where
  p : Option Addr
  n : Nat
  c : Nat
  sz : Nat
  lo : Option Int
  hi : Option Int
  mx : Option Int
  d : Nat
def slE (I : uh) (n : Nat) (ops : Array Oper) (env : Env) (o : Oper) : Option SlArgs :=
  match pre n ops env o with
  | false => none
  | true => match o.dst with
    | some d => match o.op with
      | .slice t x lo hi mx => match z7 I t with
        | some y => match y.desc with
          | .slice e => match z7 I e with
            | some g => match xz env x with
              | some (.slice p m c) => match evI env lo with
                | some lo' => match evI env hi with
                  | some hi' => match evI env mx with
                    | some mx' => some ⟨p, m, c, g.size, lo', hi', mx', d⟩
                    | none => none
                  | none => none
                | none => none
              | _ => none
            | none => none
          | _ => none
        | none => none
      | _ => none
    | none => none
theorem evI_eq {x:Option Operand} {r:Option Int} (h:evI env x=some r) {ρ:Operand->Value} (hρ:∀x u,xz env x=some u->ρ x=u):(r=none/\x.map ρ=none)\/(∃n k,r=some n/\x.map ρ=some (.int k n)):=by
 unfold evI at h;split at h;cases h;exact .inl ⟨Z,Z⟩;rename_i y;split at h;rename_i k n a;cases h;exact .inr ⟨n,k,Z,by simp[hρ _ _ a]⟩;cases h
theorem zj3 {P:Program} {w:World} (k:IntKind) (n y:Nat) (code:BoundsCode) (h:n<=y):(Instr.sliceBound (.int k (n:Int)) y code).run P w= .ok n w:=by
 have:(0:Int)<=(n:Int)/\(n:Int)<=(y:Int):=by omega
 simp[Instr.sliceBound,asIntOf,this]
theorem ov_sl (hI:I.Ok P) {nn:Nat} {s:SlArgs} (h:slE I nn ops env o=some s) (l hh m:Nat) (sz:Nat) (hsz:s.sz=sz) (h1:s.mx=some (m:Int)/\s.hi.isSome=true\/s.mx=none/\m=s.c) (h2:s.hi=some (hh:Int)\/s.hi=none/\hh=s.n) (h3:s.lo=some (l:Int)\/s.lo=none/\l=0)
  (hl:l<=hh) (hm:hh<=m) (hc:m<=s.c)
  :takes ops env o=true/\dOk nn o.dst=true/\o.dst=some s.d/\Ov P o env w (.slice (ur s.p l m sz) (hh-l) (m-l)) w:=by
 subst hsz;unfold slE at h;split at h;cases h;rename_i J;obtain⟨K,L⟩:=pre_eq J;split at h
 ·rename_i Y M
  split at h
  ·rename_i t x lo hi mx N
   split at h
   ·rename_i y O
    split at h
    ·rename_i e Q
     split at h
     ·rename_i g R
      split at h
      ·rename_i p n c S
       split at h
       ·rename_i T A
        split at h
        ·rename_i i B
         split at h
         ·rename_i U C
          cases h;simp only at*;refine⟨K,L,M,λρ r=>?_⟩;have D:=(hI.get O).under w;have V:=(hI.get R).sizeOf w;rw[Q] at D;have E:∀{lo hi mx:Option Value},(Instr.sliceBounds true n c lo hi mx).run P w= .ok (l,hh,m) w->(Instr.slice t (.slice p n c) lo hi mx).run P w= .ok (.slice (ur p l m g.size) (hh-l) (m-l)) w:=by intro lo hi mx W;unfold Instr.slice;rw[jg D];simp only[Sem.run_bind,W,aD,V,aR,ur]
          have X:(Instr.sliceAt t (.slice p n c) (lo.map ρ) (hi.map ρ) (mx.map ρ)).run P w= .ok (.slice (ur p l m g.size) (hh-l) (m-l)) w:=by
           unfold Instr.sliceAt;rw[jg D];refine E ?_;have u:(lo.map ρ=none/\l=0)\/∃k,lo.map ρ=some (.int k (l:Int)):=by rcases evI_eq A r with⟨a,b⟩|⟨nn,j,a,b⟩<;>rcases h3 with h3|⟨h3,F⟩<;>rw[h3] at a<;>cases a;exact .inl ⟨b,F⟩;exact .inr ⟨j,b⟩
           have v:(hi.map ρ=none/\i=none/\hh=n)\/∃k,hi.map ρ=some (.int k (hh:Int)):=by rcases evI_eq B r with⟨a,b⟩|⟨nn,j,a,b⟩<;>rcases h2 with h2|⟨h2,G⟩<;>rw[h2] at a<;>cases a;exact .inl ⟨b,h2,G⟩;exact .inr ⟨j,b⟩
           have z:(mx.map ρ=none/\m=c)\/(i.isSome=true/\∃k,mx.map ρ=some (.int k (m:Int))):=by rcases evI_eq C r with⟨a,b⟩|⟨nn,j,a,b⟩<;>rcases h1 with⟨h1,f⟩|⟨h1,f⟩<;>rw[h1] at a<;>cases a;exact .inl ⟨b,f⟩;exact .inr ⟨f,j,b⟩
           unfold Instr.sliceBounds
           rcases z with⟨z,rfl⟩|⟨q,Z0,z⟩<;>rcases v with⟨v,H,rfl⟩|⟨k2,v⟩<;>rcases u with⟨u,rfl⟩|⟨k3,u⟩<;>rw[z,v,u]<;>
            first
             |(rw[H] at q;cases q;done)
             |(simp only[Sem.run_bind,aR,aD,cT,zj3 _ _ _ _ hl,zj3 _ _ _ _ hm,zj3 _ _ _ _ hc];done)
          simp only[execOp,N,r _ _ S,Sem.run_bind,X,aD,aR]
         cases h
        cases h
       cases h
      cases h
     cases h
    cases h
   cases h
  cases h
 cases h
theorem Ba (hI:I.Ok P) {s:SlArgs} (h:slE I f.n ops env o=some s) (l hh m:Nat) (sz:Nat) (hsz:s.sz=sz) (h1:s.mx=some (m:Int)/\s.hi.isSome=true\/s.mx=none/\m=s.c) (h2:s.hi=some (hh:Int)\/s.hi=none/\hh=s.n) (h3:s.lo=some (l:Int)\/s.lo=none/\l=0)
  (hl:l<=hh) (hm:hh<=m) (hc:m<=s.c) (k:K ((s.d,.slice (ur s.p l m sz) (hh-l) (m-l))::env) w):St P f ops o env w K:=
 have⟨e1,e2,hd,hv⟩:=ov_sl (w:=w) hI h l hh m sz hsz h1 h2 h3 hl hm hc
 yt e1 e2 hv (by rw[hd];exact k)
theorem wb_sl (hI:I.Ok P) {K:Act->World->Prop} {i kk:Nat} {pl dn:List Nat} (ho:ops[i]? =some o) (hk:kk=ops.size+i) {s:SlArgs} (h:slE I f.n ops env o=some s) (l hh m:Nat) (sz:Nat) (hsz:s.sz=sz) (h1:s.mx=some (m:Int)/\s.hi.isSome=true\/s.mx=none/\m=s.c) (h2:s.hi=some (hh:Int)\/s.hi=none/\hh=s.n) (h3:s.lo=some (l:Int)\/s.lo=none/\l=0)
  (hl:l<=hh) (hm:hh<=m) (hc:m<=s.c) (hs:Region.noSelect ops=true) (k:WB P f ops K pl (i::dn) ((s.d,.slice (ur s.p l m sz) (hh-l) (m-l))::env) w):WB P f ops K (kk::pl) dn env w:=
 have⟨e1,e2,hd,_⟩:=ov_sl (w:=w) hI h l hh m sz hsz h1 h2 h3 hl hm hc
 wbv ho hk (by unfold pre;rw[e1];exact e2) hd (λ_=>(ov_sl hI h l hh m sz hsz h1 h2 h3 hl hm hc).2.2.2) hs k
theorem Sl.slice {w:World} {p:Option Addr} {n sz:Nat} {xs:List Value} (h:Sl w p n sz xs) (l hh m:Nat) (hl:l<=hh) (hm:hh<=m) (hn:hh<=n):Sl w (ur p l m sz) (hh-l) sz ((xs.drop (l*sz)).take ((hh-l)*sz)):=by
 obtain⟨d,c⟩:=h
 have f:l*sz+(hh-l)*sz<=xs.length:=by
  rw[d,<-cS];exact cC _ zk
 refine⟨by simp;omega,?_⟩
 by_cases h0:hh=l
 ·exact .inl zk
 rcases c with c|⟨b,a,rfl,e⟩
 ·omega
 exact .inr ⟨b,a+l*sz,A6 zk,(e.drop _).take _⟩
def Src (P : Program) (w : World) (sz : Nat) (x : Value) (m : Nat) (news : List Value) : Prop :=
  Builtin.lenOf x = pure m /\ news.length = m * sz /\ (∀ v ∈ news, v.oneCell' = true) /\ ∀ w', (∀ a, w'.cell? a = w.cell? a) -> (Builtin.firstCells sz m x).run P w' = .ok news.toArray w'
theorem Src.slice {P:Program} {w:World} {p:Option Addr} {m c sz:Nat} {news:List Value} (h:Sl w p m sz news) (h1:∀v∈news,v.oneCell'=true):Src P w sz (.slice p m c) m news:=by
 refine⟨Z,h.1,h1,λf j=>?_⟩;rcases h.2 with g|⟨b,d,rfl,k⟩;have:news=[]:=by have:=h.1;rw[g] at this;simpa using this
 subst this;subst g;cases p with
 |none=>rfl
 |some a=>
  unfold Builtin.firstCells loadCells;rw[dA];rfl
 have e:Seg f b (d+0) news:=λi v l=>by rw[Nat.add_zero,j];exact k i v l
 have:=x4 (P:=P) (m*sz) 0 news #[] e h.1;show(loadCellsFrom ⟨b,d,none⟩ 0 (m*sz) #[]).run P f=_;rw[this];simp
theorem Src.string {P:Program} {w:World} {s:ByteArray}:Src P w 1 (.string s) s.size (s.data.toList.map λb=> .int .u8 b.toNat):=by
 refine⟨Z,by rw[aA,bF];rfl,λv a=>?_,λc _=>?_⟩;obtain⟨b,_,rfl⟩:=aZ.1 a;rfl;have:s.extract 0 s.size=s:=by apply ByteArray.ext;rw[ByteArray.data_extract];have:s.size=s.data.size:=rfl;rw[this,Array.extract_size]
 simp only[Builtin.firstCells,this,aR];congr 1;apply cH;simp
theorem Src.cells {P:Program} {w w':World} {sz m:Nat} {x:Value} {news:List Value} (h:Src P w sz x m news) (hw:∀a,w'.cell? a=w.cell? a):(Builtin.firstCells sz m x).run P w'= .ok news.toArray w':=h.2.2.2 w' hw
theorem run_appG (hI:I.Ok P) {t t2 ty e:Nat} {y y2 g:TI} (hy:z7 I t=some y) (he:y.desc= .slice e) (hg:z7 I e=some g) (hy2:z7 I t2=some y2) (hd2:(∃e2,y2.desc= .slice e2)\/y2.desc= .string)
  (hz:(cellsOf g.zero).length=g.size) (hz0:0<g.size) {p:Option Addr} {n c:Nat} {xs:List Value} (hsl:Sl w p n g.size xs) {x:Value} {m:Nat} {news:List Value} (hsrc:Src P w g.size x m news)
  (hm:n+m<=maxLen) (hb:(n+m)*g.bytes<=140737488355328) (hgr:c<n+m):
  ∃c' w',(Builtin.append_ #[t,t2] ty #[.slice p n c,x]).run P w= .ok (.slice (some ⟨w.heap.size,0,none⟩) (n+m) c') w'/\Own w' (some ⟨w.heap.size,0,none⟩) (n+m) c' e g.size (xs++news)/\Ext No w w':=by
 have E:=(hI.get hy).under w;rw[he] at E;have H:=(hI.get hg).sizeOf w;have s:=(hI.get hy2).under w;obtain⟨i,J,L,K,M⟩:=TI.Ok.info (hI.get hg);have f:=hsl.1;unfold maxLen at hm;have k:=hsrc.1;unfold Builtin.append_;simp only[bX,cN,List.getElem?_cons_succ];rw[jg E];simp only[];rw[Sem.run_bind,H,aD];rw[jg s];rcases hd2 with⟨e2,F⟩|F<;>rw[F]<;>simp only[pure_bind,bO,dF,Bool.not_false,cT,k]
 all_goals
  have o:¬(n+m<=c):=by omega
  skip;rw[aI o];have u:¬((n+m:Nat):Int)>IntKind.i64.max:=by show¬((n+m:Nat):Int)>2^(64-1)-1;omega
  have v:¬Builtin.nextslicecap (n+m) c*i.bytes>2^48:=by have:=growslice_fits (need:=n+m) (old:=c) (bytes:=i.bytes) zk (by rw[K];exact hb);simp only[gt_iff_lt,Nat.not_lt];exact this
  have z:(choose (.appendCap (n+m) c e)).run P w= .ok (grownCap w (n+m) c e) w.drew:=by simp[Question.forced,grownCap]
  have h:∀w:World,(typeInfo e).run P w= .ok i w:=λw=>by unfold typeInfo;simp[J]
  have q:(Builtin.firstCells g.size n (.slice p n c)).run P w.drew= .ok xs.toArray w.drew:=by
   rcases hsl.2 with G|⟨b,r,rfl,A⟩;have:xs=[]:=by rw[G] at f;simpa using f
   subst this;subst G;cases p with
   |none=>rfl
   |some a=>
    unfold Builtin.firstCells loadCells;rw[dA];rfl
   have B:Seg w.drew b (r+0) xs:=A;have:=x4 (P:=P) (n*g.size) 0 xs #[] B f;show(loadCellsFrom ⟨b,r,none⟩ 0 (n*g.size) #[]).run P w.drew=_;rw[this];simp
  have C:n+m<=grownCap w (n+m) c e:=by unfold grownCap Question.cut;exact Nat.le_add_right _ _
  have D:grownCap w (n+m) c e<=maxLen:=grownCap_le_maxLen w _ _ _ (by unfold maxLen;omega);refine⟨grownCap w (n+m) c e,w.drew.alloc (.cells (xs++news++Df (grownCap w (n+m) c e-(n+m)) (cellsOf g.zero)).toArray e),?_,.inr ⟨_,_,Z,Dt w.drew _ e,?_,C,D,?_⟩,?_⟩;simp only[Sem.run_bind,h,aD,Sem.run_ite,u,false_and,v,dF,z,run_askRoom,q,hsrc.cells (w':=w.drew) (λ_=>rfl),(hI.get hg).zeroValue,aR,newRow,run_newObj];rw[show g.zero.cells=(cellsOf g.zero).toArray from by rw[<-yb],C4 _ _ zk];simp only[List.append_toArray];rfl;rw[ao,ao,va,hz,f,hsrc.2.1,<-cS,<-cS];congr 1;omega;rw[cS,<-f,<-hsrc.2.1,<-ao,List.take_left];exact(Ext.drew w).then (Ext.alloc w.drew _ e)
theorem run_app (hI:I.Ok P) {t t2 ty e:Nat} {y y2 g:TI} (hy:z7 I t=some y) (he:y.desc= .slice e) (hg:z7 I e=some g) (hy2:z7 I t2=some y2) (hd2:(∃e2,y2.desc= .slice e2)\/y2.desc= .string)
  (hz:(cellsOf g.zero).length=g.size) (hz0:0<g.size) {p:Option Addr} {n c:Nat} {xs:List Value} (hown:Own w p n c e g.size xs) {x:Value} {m:Nat} {news:List Value} (hsrc:Src P w g.size x m news)
  (hm:n+m<=maxLen) (hb:(n+m)*g.bytes<=140737488355328):
  ∃p' c' w',(Builtin.append_ #[t,t2] ty #[.slice p n c,x]).run P w= .ok (.slice p' (n+m) c') w'/\Own w' p' (n+m) c' e g.size (xs++news)/\Ext (jb p) w w'/\(∀b,jb p' b->jb p b\/w.heap.size<=b)/\(n+m=0\/p'≠none):=by
 have K:=(hI.get hy).under w;rw[he] at K;have N:=(hI.get hg).sizeOf w;have v:=(hI.get hy2).under w;obtain⟨i,O,W,Q,X⟩:=TI.Ok.info (hI.get hg);have L:=hown.cap;have f:=hown.len;unfold maxLen at hm;have q:=hsrc.1;unfold Builtin.append_;simp only[bX,cN,List.getElem?_cons_succ];rw[jg K];simp only[];rw[Sem.run_bind,N,aD];rw[jg v];rcases hd2 with⟨e2,M⟩|M<;>rw[M]<;>simp only[pure_bind,bO,dF,Bool.not_false,cT,q]
 all_goals
  by_cases hfit:n+m<=c;rw[aL hfit];simp only[Sem.run_bind,hsrc.cells (λ_=>rfl),aD];rcases hown with⟨rfl,rfl,rfl,rfl⟩|⟨b,l,rfl,d,z,R,s,k⟩;have A:m=0:=by omega
  subst A;have:news=[]:=by have:=hsrc.2.1;simpa using this
  subst this;exact⟨none,0,w,by simp,.inl ⟨Z,Z,Z,Z⟩,Ext.refl _ _,λb hb=> .inl hb,.inl Z⟩
  have o:n*g.size+news.length<=l.length:=by rw[hsrc.2.1,z,<-cS];exact cC _ hfit
  obtain⟨w',S,B,T,U⟩:=x7 (P:=P) news w l (n*g.size) 0 d zk hsrc.2.2.1;refine⟨some ⟨b,0,none⟩,c,w',?_,.inr ⟨b,_,Z,B,by rw[vz,z],hfit,s,?_⟩,T.mono ?_,λx C=> .inl C,.inr zq⟩;have V:(⟨b,0,none⟩:Addr).add (n*g.size)=⟨b,n*g.size,none⟩:=by rw[addr_add,aV]
  simp only[V,Sem.run_bind,S,aD,aR];rw[Nat.add_zero,put_eq _ _ _ o,k,cS,<-hsrc.2.1];rw[show n*g.size+news.length=(xs++news).length from by simp[f]];rw[List.take_left];intro x _ C;subst C;rfl;rw[aI hfit];have D:¬((n+m:Nat):Int)>IntKind.i64.max:=by show¬((n+m:Nat):Int)>2^(64-1)-1;omega
  have E:¬Builtin.nextslicecap (n+m) c*i.bytes>2^48:=by have:=growslice_fits (need:=n+m) (old:=c) (bytes:=i.bytes) zk (by rw[Q];exact hb);simp only[gt_iff_lt,Nat.not_lt];exact this
  have F:(choose (.appendCap (n+m) c e)).run P w= .ok (grownCap w (n+m) c e) w.drew:=by simp[Question.forced,grownCap]
  have h:∀w:World,(typeInfo e).run P w= .ok i w:=λw=>by unfold typeInfo;simp[O]
  have u:(Builtin.firstCells g.size n (.slice p n c)).run P w.drew= .ok xs.toArray w.drew:=by
   rcases hown with⟨rfl,rfl,rfl,rfl⟩|⟨b,l,rfl,d,z,R,s,k⟩;rfl;have G:Seg w.drew b (0+0) xs:=by subst k;exact d.ql.take _
   have:=x4 (P:=P) (n*g.size) 0 xs #[] G f;show(loadCellsFrom ⟨b,0,none⟩ 0 (n*g.size) #[]).run P w.drew=_;rw[this];simp
  have H:n+m<=grownCap w (n+m) c e:=by unfold grownCap Question.cut;exact Nat.le_add_right _ _
  have J:grownCap w (n+m) c e<=maxLen:=grownCap_le_maxLen w _ _ _ (by unfold maxLen;omega);refine⟨some ⟨w.heap.size,0,none⟩,grownCap w (n+m) c e,w.drew.alloc (.cells (xs++news++Df (grownCap w (n+m) c e-(n+m)) (cellsOf g.zero)).toArray e),?_,.inr ⟨_,_,Z,Dt w.drew _ e,?_,H,J,?_⟩,?_,λb hb=> .inr ?_,.inr zq⟩;simp only[Sem.run_bind,h,aD,Sem.run_ite,D,false_and,E,dF,F,run_askRoom,u,hsrc.cells (w':=w.drew) (λ_=>rfl),(hI.get hg).zeroValue,aR,newRow,run_newObj];rw[show g.zero.cells=(cellsOf g.zero).toArray from by rw[<-yb],C4 _ _ zk];simp only[List.append_toArray];rfl;rw[ao,ao,va,hz,f,hsrc.2.1,<-cS,<-cS];congr 1;omega;rw[cS,<-f,<-hsrc.2.1,<-ao,List.take_left];exact((Ext.drew w).then (Ext.alloc w.drew _ e)).no;simp only[jb,bJ,Addr.mk.injEq] at hb;omega
end
section
variable {P : Program} {I : uh} {f : Fs} {ops : Array Oper} {o : Oper} {env : Env} {w : World} {K : Env -> World -> Prop}
structure xq4 where
  p : Option Addr
  n : Nat
  c : Nat
  e : Nat
  g : TI
  x : Value
  d : Nat
def slOrStr (D : TypeDesc) : Bool :=
  match D with
  | .slice _ => true
  | .string => true
  | _ => false
def appE (I : uh) (n : Nat) (ops : Array Oper) (env : Env) (o : Oper) : Option xq4 :=
  match pre n ops env o with
  | false => none
  | true => match o.dst with
    | some d => match o.op with
      | .call { callee := .builtin .append, args := xs, argTypes := ts } => match xs.toList with
        | [s, x] => match ts.toList with
          | [t, t2] => match z7 I t with
            | some y => match y.desc with
              | .slice e => match z7 I e with
                | some g => match z7 I t2 with
                  | some y2 => match slOrStr y2.desc with
                    | true => match xz env s with
                      | some (.slice p m c) => match xz env x with
                        | some v => some ⟨p, m, c, e, g, v, d⟩
                        | none => none
                      | _ => none
                    | false => none
                  | none => none
                | none => none
              | _ => none
            | none => none
          | _ => none
        | _ => none
      | _ => none
    | none => none
theorem yj9 {D:TypeDesc} (h:slOrStr D=true):(∃e,D= .slice e)\/D= .string:=by
 unfold slOrStr at h;split at h;exact .inl ⟨_,Z⟩;exact .inr Z;cases h
theorem vt (hI:I.Ok P) {s:xq4} (h:appE I f.n ops env o=some s) (sz by_:Nat) (hsz:s.g.size=sz) (hby:s.g.bytes=by_) (hz:(cellsOf s.g.zero).length=sz) (hz0:0<sz) {xs:List Value} (hown:Own w s.p s.n s.c s.e sz xs) {m:Nat} {news:List Value} (hsrc:Src P w sz s.x m news)
  (hm:s.n+m<=maxLen) (hb:(s.n+m)*by_<=140737488355328)
  (k:∀p' c' w',Own w' p' (s.n+m) c' s.e sz (xs++news)->Ext (jb s.p) w w'->(∀b,jb p' b->jb s.p b\/w.heap.size<=b)->K ((s.d,.slice p' (s.n+m) c')::env) w'):St P f ops o env w K:=by
 subst hsz;subst hby;unfold appE at h;split at h;cases h;rename_i D;obtain⟨E,F⟩:=pre_eq D;split at h;rename_i W G;split at h;rename_i i H J;split at h;rename_i A B j;have l:i= #[A,B]:=by apply cH;simpa using j
 subst l;split at h;rename_i t L q;have r:H= #[t,L]:=by apply cH;simpa using q
 subst r;split at h;rename_i y M;split at h;rename_i e N;split at h;rename_i g O;split at h;rename_i X u;split at h;rename_i z;split at h;rename_i p n c Q;split at h;rename_i v R;cases h;simp only at*;obtain⟨p',c',w',S,a,T,U,_⟩:=run_app (P:=P) (ty:=o.type) hI M N O u (yj9 z) hz hz0 hown hsrc hm hb;refine yt E F (v:= .slice p' (n+m) c') (w':=w') (λY C=>?_) (by rw[G];exact k p' c' w' a T U);have V:Array.map Y #[A,B]= #[.slice p n c,v]:=by simp[C _ _ Q,C _ _ R]
 simp only[execOp,J,resolve,Sem.run_bind,aR,aD,invoke,builtin,V,S];cases h;cases h;cases h;cases h;cases h;cases h;cases h;cases h;cases h;cases h;cases h
theorem st_appG (hI:I.Ok P) {s:xq4} (h:appE I f.n ops env o=some s) (sz by_:Nat) (hsz:s.g.size=sz) (hby:s.g.bytes=by_) (hz:(cellsOf s.g.zero).length=sz) (hz0:0<sz) {xs:List Value} (hsl:Sl w s.p s.n sz xs) {m:Nat} {news:List Value} (hsrc:Src P w sz s.x m news)
  (hm:s.n+m<=maxLen) (hb:(s.n+m)*by_<=140737488355328) (hgr:s.c<s.n+m)
  (k:∀b c' w',w.heap.size<=b->Own w' (some ⟨b,0,none⟩) (s.n+m) c' s.e sz (xs++news)->Ext No w w'->K ((s.d,.slice (some ⟨b,0,none⟩) (s.n+m) c')::env) w'):St P f ops o env w K:=by
 subst hsz;subst hby;unfold appE at h;split at h;cases h;rename_i D;obtain⟨E,F⟩:=pre_eq D;split at h;rename_i V G;split at h;rename_i i H J;split at h;rename_i A B j;have l:i= #[A,B]:=by apply cH;simpa using j
 subst l;split at h;rename_i t L q;have r:H= #[t,L]:=by apply cH;simpa using q
 subst r;split at h;rename_i y M;split at h;rename_i e N;split at h;rename_i g O;split at h;rename_i W u;split at h;rename_i z;split at h;rename_i p n c Q;split at h;rename_i v R;cases h;simp only at*;obtain⟨c',w',S,a,T⟩:=run_appG (P:=P) (ty:=o.type) hI M N O u (yj9 z) hz hz0 hsl hsrc hm hb hgr;refine yt E F (v:= .slice (some ⟨w.heap.size,0,none⟩) (n+m) c') (w':=w') (λX C=>?_) (by rw[G];exact k _ c' w' (aB _) a T);have U:Array.map X #[A,B]= #[.slice p n c,v]:=by simp[C _ _ Q,C _ _ R]
 simp only[execOp,J,resolve,Sem.run_bind,aR,aD,invoke,builtin,U,S];cases h;cases h;cases h;cases h;cases h;cases h;cases h;cases h;cases h;cases h;cases h
structure CpArgs where
  b : Nat
  off : Nat
  n : Nat
  g : TI
  x : Value
  d : Nat
def cpE (I : uh) (n : Nat) (ops : Array Oper) (env : Env) (o : Oper) : Option CpArgs :=
  match pre n ops env o with
  | false => none
  | true => match o.dst with
    | some d => match o.op with
      | .call { callee := .builtin .copy, args := xs, argTypes := ts } => match xs.toList with
        | [s, x] => match ts.toList with
          | [t, _] => match z7 I t with
            | some y => match y.desc with
              | .slice e => match z7 I e with
                | some g => match xz env s with
                  | some (.slice (some ⟨b, off, none⟩) m _) => match xz env x with
                    | some v => some ⟨b, off, m, g, v, d⟩
                    | none => none
                  | _ => none
                | none => none
              | _ => none
            | none => none
          | _ => none
        | _ => none
      | _ => none
    | none => none
theorem yj2 (hI:I.Ok P) {s:CpArgs} (h:cpE I f.n ops env o=some s) (sz:Nat) (hsz:s.g.size=sz) {T:Nat} {l:List Value} (hblk:j0 w s.b T l) {m:Nat} {news:List Value} (hsrc:Src P w sz s.x m news)
  (hm:m<=s.n) (hroom:s.off+m*sz<=l.length)
  (k:∀w',j0 w' s.b T (put l s.off news)->Ext (One s.b) w w'->w'.heap.size=w.heap.size->K ((s.d,.int .i64 (m:Int))::env) w'):St P f ops o env w K:=by
 subst hsz
 unfold cpE at h
 split at h
 ·cases h
 rename_i H
 obtain⟨J,L⟩:=pre_eq H
 split at h
 ·rename_i Z0 M
  split at h
  ·rename_i p N O
   split at h
   ·rename_i C D q
    have r:p= #[C,D]:=by apply cH;simpa using q
    subst r
    split at h
    ·rename_i t E u
     have z:N= #[t,E]:=by apply cH;simpa using u
     subst z
     split at h
     ·rename_i y Q
      split at h
      ·rename_i e R
       split at h
       ·rename_i g S
        split at h
        ·rename_i b off n c U
         split at h
         ·rename_i v V
          cases h
          simp only at*
          have F:=(hI.get Q).under w
          rw[R] at F
          have hsz:=(hI.get S).sizeOf w
          have a:=hsrc.1
          have i:Nat.min m n=m:=bP hm
          obtain⟨w',W,A,X,B⟩:=x7 (P:=P) news w l off 0 hblk (by rw[hsrc.2.1];omega) hsrc.2.2.1
          have j:(Builtin.copy_ #[t,E] o.type #[.slice (some ⟨b,off,none⟩) n c,v]).run P w= .ok (.int .i64 (m:Int)) w':=by
           unfold Builtin.copy_
           simp only[bX,cN,List.getElem?_cons_succ]
           rw[jg F]
           simp only[a,pure_bind,i,Sem.run_bind,hsz,aD,hsrc.cells (λ_=>rfl),W,aR,goInt]
          refine yt J L (v:= .int .i64 (m:Int)) (w':=w') (λρ G=>?_) (by rw[M];exact k w' A X B)
          have Y:Array.map ρ #[C,D]= #[.slice (some ⟨b,off,none⟩) n c,v]:=by simp[G _ _ U,G _ _ V]
          simp only[execOp,O,resolve,Sem.run_bind,aR,aD,invoke,builtin,Y,j]
         cases h
        cases h
       cases h
      cases h
     cases h
    cases h
   cases h
  cases h
 cases h
abbrev Parts := List (Nat × Nat × Value)
def ym (z : List Value) : Parts -> List Value
  | [] => z
  | (off, _, v) :: r => ym (put z off (cellsOf v)) r
def zq4 (n : Nat) : Parts -> Prop
  | [] => True
  | (off, sz, v) :: r => ((cellsOf v).length = sz /\ off + sz <= n) /\ zq4 n r
def placed (place : Nat -> Option (Nat × Nat)) (env : Env) : List (Nat × Operand) -> Option Parts
  | [] => some []
  | (i, x) :: r => match place i with
    | some (off, sz) => match xz env x with
      | some v => match placed place env r with
        | some l => some ((off, sz, v) :: l)
        | none => none
      | none => none
    | none => none
theorem foldl_put:∀(vs:List Value) (cs:Array Value) (off j:Nat),
  ((vs.zipIdx j).foldl (λcs (x:Value×Nat)=>cs.setIfInBounds (off+x.2) x.1) cs).toList=put cs.toList (off+j) vs
 | [],cs,off,j=>rfl
 |v::r,cs,off,j=>by
  simp only[List.zipIdx_cons,List.foldl_cons]
  rw[foldl_put r]
  simp[put,Nat.add_assoc]
theorem yq8 {place:Nat->Option (Nat×Nat)} {env:Env} {ρ:Operand->Value} (hρ:∀x u,xz env x=some u->ρ x=u):∀(l:List (Nat×Operand)) (ps:Parts) (z:List Value),placed place env l=some ps->zq4 z.length ps->
  Instr.fill place z.toArray (l.map λ(i,x)=>(i,ρ x))=some (ym z ps).toArray
 | [],ps,z,h,_=>by simp[placed] at h;subst h;rfl
 |(i,x)::r,ps,z,h,hok=>by
  simp only[placed] at h
  split at h
  ·rename_i off sz hpl
   split at h
   ·rename_i v hv
    split at h
    ·rename_i l' hl'
     cases h
     obtain⟨⟨h1,h2⟩,h3⟩:=hok
     simp only[dI,Instr.fill,hpl,hρ _ _ hv]
     have b:v.cells.size=sz:=by rw[cellsOf_size];exact h1
     have a:(decide (v.cells.size≠sz)||decide (off+v.cells.size>z.toArray.size))=false:=by
      simp[b];omega
     rw[show(v.cells.size≠sz||off+v.cells.size>z.toArray.size)=(decide (v.cells.size≠sz)||decide (off+v.cells.size>z.toArray.size)) from rfl,a];simp only[bO,dF];have c:(v.cells.zipIdx.foldl (λd (x:Value×Nat)=>d.setIfInBounds (off+x.2) x.1) z.toArray)=(put z off (cellsOf v)).toArray:=by apply cH;rw[<-Array.foldl_toList,Array.toList_zipIdx,foldl_put];simp[yb]
     rw[c];exact yq8 hρ r l' _ hl' (by rw[vz];exact h3)
    cases h
   cases h
  cases h
def zx1 (I : uh) : List Field -> Option (List (Nat × Nat))
  | [] => some []
  | g :: r => match z7 I g.type with
    | some y => match y.size with
      | 0 => none
      | m + 1 => match zx1 I r with
        | some l => some ((g.offset, m + 1) :: l)
        | none => none
    | none => none
theorem run_places {P:Program} {I:uh} (hI:I.Ok P) (w:World):∀(fs:List Field) (l:List (Nat×Nat)),zx1 I fs=some l->(fs.mapM λf=>do pure (f.offset,<-sizeOf f.type):Sem (List (Nat×Nat))).run P w= .ok l w
 | [],l,h=>by simp[zx1] at h;subst h;rfl
 |g::r,l,h=>by
  simp only[zx1] at h
  split at h
  ·rename_i y hy
   split at h
   ·cases h
   rename_i m hm
   split at h
   ·rename_i l' hl'
    cases h
    simp only[List.mapM_cons,Sem.run_bind,aR,(hI.get hy).sizeOf w,aD,run_places hI w r l' hl',hm]
   cases h
  cases h
def bdE (I : uh) (n : Nat) (ops : Array Oper) (env : Env) (o : Oper) : Option (List Value × Parts × Nat) :=
  match pre n ops env o with
  | false => none
  | true => match o.dst with
    | some d => match o.op with
      | .build t ps => match z7 I t with
        | some y => match y.desc with
          | .struct fs => match zx1 I fs.toList with
            | some l => match placed (l[·]?) env ps.toList with
              | some q => some (cellsOf y.zero, q, d)
              | none => none
            | none => none
          | .array _ e => match z7 I e with
            | some g => match g.size with
              | 0 => none
              | m + 1 => match placed (λi => some (i * (m + 1), m + 1)) env ps.toList with
                | some q => some (cellsOf y.zero, q, d)
                | none => none
            | none => none
          | _ => none
        | none => none
      | _ => none
    | none => none
theorem ov_bd (hI:I.Ok P) {n d:Nat} {z:List Value} {q:Parts} (h:bdE I n ops env o=some (z,q,d)) (hok:zq4 z.length q):takes ops env o=true/\dOk n o.dst=true/\o.dst=some d/\Ov P o env w (.agg (ym z q).toArray) w:=by
 unfold bdE at h;split at h;cases h;rename_i G;obtain⟨v,A⟩:=pre_eq G;split at h;rename_i Q B;split at h;rename_i t a C;split at h;rename_i y D;have b:=(hI.get D).under w;have E:=(hI.get D).zeroValue w;split at h;rename_i F c;split at h;rename_i l H;split at h;rename_i J j;cases h;refine⟨v,A,B,λR k=>?_⟩;have p:=yq8 k a.toList q _ j hok;rw[c] at b;have r:(F.mapM λf=>do pure (f.offset,<-sizeOf f.type):Sem (Array (Nat×Nat))).run P w= .ok l.toArray w:=by have:=run_places hI w F.toList l H;rw[Array.mapM_eq_mapM_toList,Sem.run_map,this];rfl
 have s:(a.map λ(i,x)=>(i,R x)).toList=a.toList.map λ(i,x)=>(i,R x):=by simp
 have u:y.zero.cells=(cellsOf y.zero).toArray:=by rw[<-yb]
 simp only[execOp,C,Instr.build,Sem.run_bind,E,b,aD,r,s,u,bX];rw[p];rfl;cases h;cases h;rename_i K e L;split at h;rename_i g M;split at h;cases h;rename_i m N;split at h;rename_i J j;cases h;refine⟨v,A,B,λR k=>?_⟩;have p:=yq8 k a.toList q _ j hok;rw[L] at b;have O:=(hI.get M).sizeOf w;have s:(a.map λ(i,x)=>(i,R x)).toList=a.toList.map λ(i,x)=>(i,R x):=by simp
 have u:y.zero.cells=(cellsOf y.zero).toArray:=by rw[<-yb]
 simp only[execOp,C,Instr.build,Sem.run_bind,E,b,aD,O,N,s,u];rw[p];rfl;cases h;cases h;cases h;cases h;cases h;cases h
theorem st_bd (hI:I.Ok P) {d:Nat} {z l':List Value} {q:Parts} (h:bdE I f.n ops env o=some (z,q,d)) (hok:zq4 z.length q) (hl:ym z q=l')
  (k:K ((d,.agg l'.toArray)::env) w):St P f ops o env w K:=by
 obtain⟨a,b,c,e⟩:=ov_bd (w:=w) hI h hok;subst hl;exact yt a b e (by rw[c];exact k)
def bsE (I : uh) (n : Nat) (ops : Array Oper) (env : Env) (o : Oper) : Option (Nat × TI × Nat × Parts × Nat) :=
  match pre n ops env o with
  | false => none
  | true => match o.dst with
    | some d => match o.op with
      | .buildSlice t len ps => match z7 I t with
        | some y => match y.desc with
          | .slice e => match z7 I e with
            | some g => match g.size with
              | 0 => none
              | m + 1 => match placed (λi => some (i * (m + 1), m + 1)) env ps.toList with
                | some q => some (e, g, len, q, d)
                | none => none
            | none => none
          | _ => none
        | none => none
      | _ => none
    | none => none
theorem qw (hI:I.Ok P) {e len d:Nat} {g:TI} {q:Parts} {l':List Value} (h:bsE I f.n ops env o=some (e,g,len,q,d)) (sz:Nat) {zs:List Value} (hsz:g.size=sz) (hzs:cellsOf g.zero=zs) (hz:zs.length=sz) (hz0:0<sz) (hlen:len*sz<=16777216)
  (hok:zq4 (len*sz) q) (hl:ym (Df len zs) q=l')
  (k:∀(b:Nat) w',w.heap.size<=b->j0 w' b e l'->Ext No w w'->w'.heap.size=w.heap.size+1->K ((d,.slice (some ⟨b,0,none⟩) len len)::env) w'):St P f ops o env w K:=by
 subst hsz;subst hzs;unfold bsE at h;split at h;cases h;rename_i G;obtain⟨H,J⟩:=pre_eq G;split at h;rename_i R L;split at h;rename_i t z p A;split at h;rename_i y M;have r:=(hI.get M).under w;split at h;rename_i S N;split at h;rename_i T B;split at h;cases h;rename_i m s;split at h;rename_i U C;cases h;rw[N] at r;rw[show m+1=g.size from s.symm] at C;have D:=(hI.get B).sizeOf w;have u:=(hI.get B).zeroValue w
 have a:(Array.range (len*g.size)).map ((if len*g.size=0 then #[] else(cellsOf g.zero).toArray:Array Value)[·%(if len*g.size=0 then #[] else(cellsOf g.zero).toArray:Array Value).size]!)=(Df len (cellsOf g.zero)).toArray:=by
  by_cases j:len*g.size=0;have:len=0:=by rcases Nat.mul_eq_zero.1 j with E|E;exact E;omega
  subst this;simp[Df];rw[aI j];have:=yx6 (cellsOf g.zero) len zk;rw[hz] at this;exact this
 have c:¬len*g.size>2^24:=by
  have:(2:Nat)^24=16777216:=by decide
  omega
 refine yt H J (v:= .slice (some ⟨w.heap.size,0,none⟩) len len) (w':=w.alloc (.cells (ym (Df len (cellsOf g.zero)) q).toArray e)) (λV O=>?_) ?_;have Q:=yq8 O p.toList q (Df len (cellsOf g.zero)) C (by rw[va,hz];exact hok);have F:(p.map λ(i,x)=>(i,V x)).toList=p.toList.map λ(i,x)=>(i,V x):=by simp
 have l:Instr.fill (λi=>some (i*g.size,g.size)) (Df len (cellsOf g.zero)).toArray (List.map (λx=>(x.fst,V x.snd)) p.toList)=some (ym (Df len (cellsOf g.zero)) q).toArray:=Q;by_cases j:len*g.size=0;simp only[aL j] at a;simp only[execOp,A,Instr.buildSlice,Sem.run_bind,r,D,aD,c,dF,F,aL j,pure_bind];rw[a,l];simp[newRow];simp only[aI j] at a;simp only[execOp,A,Instr.buildSlice,Sem.run_bind,r,D,aD,c,dF,F,aI j,u,pure_bind];rw[show g.zero.cells=(cellsOf g.zero).toArray from by rw[<-yb],a,l];simp[newRow];rw[L];subst hl;exact k _ _ (aB _) (Dt _ _ _) (Ext.alloc _ _ _) zq;cases h;cases h;cases h;cases h;cases h;cases h
end
section
variable {P : Program} {I : uh} {f : Fs} {ops : Array Oper} {o : Oper} {env : Env} {w : World} {K : Env -> World -> Prop}
theorem equalIn_int {I:uh} (hI:I.Ok P) {e:Nat} {y:TI} {k:IntKind} (hy:z7 I e=some y) (hk:y.desc= .int k) (a b:Int) (w:World) (d:Nat):(Op.equalIn (d+1) e (.int k a) (.int k b)).run P w= .ok (decide (a=b)) w:=by
 have c:=(hI.get hy).under w;rw[hk] at c;unfold Op.equalIn;rw[jg c];simp[beq_decide]
theorem loop_eq {I:uh} (hI:I.Ok P) {e:Nat} {y:TI} {k:IntKind} (hy:z7 I e=some y) (hk:y.desc= .int k) (w:World) (d:Nat) (xs ys:List Int):∀(n s:Nat),s+n=xs.length->s+n=ys.length->
  (forIn (List.range' s n) ((none:Option Bool),PUnit.unit) (λi _=>(do
   if !(<-Op.equalIn (d+1) e (<-part e (xs.map (Value.int k)).toArray (i*1)) (<-part e (ys.map (Value.int k)).toArray (i*1))) then pure (ForInStep.done (some false,PUnit.unit)) else pure (ForInStep.yield (none,PUnit.unit)):Sem (ForInStep (Option Bool×PUnit)))):Sem (Option Bool×PUnit)).run P w=
   .ok (if xs.drop s=ys.drop s then none else some false,PUnit.unit) w:=by
 intro n;induction n with
 |zero=>
  intro s m o;have p:xs.drop s=[]:=aW zk;have q:ys.drop s=[]:=aW zk;simp[p,q]
 |succ n ih=>
  intro s m o;have c:s<xs.length:=by omega
  have b:s<ys.length:=by omega
  have a:=(hI.get hy).isAgg w;have r:y.isAgg=false:=by unfold TI.isAgg;rw[hk]
  rw[r] at a;have f:∀(l:List Int) (h:s<l.length),(part e (l.map (Value.int k)).toArray (s*1)).run P w= .ok (.int k l[s]) w:=λl h=>by unfold part;simp[a,h]
  rw[List.range'_succ,List.forIn_cons,Sem.run_bind];simp only[Sem.run_bind,f xs c,f ys b,aD,equalIn_int hI hy hk];have g:xs.drop s=xs[s]::xs.drop (s+1):=cB c;have j:ys.drop s=ys[s]::ys.drop (s+1):=cB b;by_cases heq:xs[s]=ys[s];simp only[heq,decide_true,Bool.not_true,bO,dF,aR,aD];rw[ih (s+1) zk zk,g,j,heq];simp only[List.cons.injEq,true_and];rw[g,j];simp only[heq,decide_false,Bool.not_false,cT,aR,aD,List.cons.injEq,false_and,dF]
theorem run_eqA {I:uh} (hI:I.Ok P) {t e n:Nat} {x y:TI} {k:IntKind} (hx:z7 I t=some x) (hd:x.desc= .array n e) (hy:z7 I e=some y) (hk:y.desc= .int k) (hs:y.size=1) (xs ys:List Int) (h1:xs.length=n) (h2:ys.length=n) (w:World):
  (Op.equal t (.agg (xs.map (Value.int k)).toArray) (.agg (ys.map (Value.int k)).toArray)).run P w= .ok (decide (xs=ys)) w:=by
 have d:Op.equal t (.agg (xs.map (Value.int k)).toArray) (.agg (ys.map (Value.int k)).toArray)=Op.equalIn (9999+1) t (.agg (xs.map (Value.int k)).toArray) (.agg (ys.map (Value.int k)).toArray):=rfl;rw[d];have b:=(hI.get hx).under w;rw[hd] at b;have a:=(hI.get hy).sizeOf w;rw[hs] at a;have c:=loop_eq (P:=P) hI hy hk w 9998 xs ys n 0 zk zk;have f:((9999:Nat))=9998+1:=rfl;rw[f];unfold Op.equalIn;rw[jg b];simp only[Sem.run_bind,a,aD,Std.Legacy.Range.forIn_eq_forIn_range',Std.Legacy.Range.size];simp only[bB,Nat.add_one_sub_one,Nat.div_one];rw[show(9998+1:Nat)=9999 from Z] at c;rw[c];by_cases h:xs=ys;simp[h];simp[h]
def eqE (I : uh) (n : Nat) (ops : Array Oper) (env : Env) (o : Oper) : Option (Nat × Nat × IntKind × Bool × Value × Value × Nat) :=
  match pre n ops env o with
  | false => none
  | true => match o.dst with
    | some d => match o.op with
      | .binOp op t x y _ => match z7 I t with
        | some g => match g.desc with
          | .array m e => match z7 I e with
            | some h => match h.desc with
              | .int k => match h.size with
                | 1 => match xz env x with
                  | some a => match xz env y with
                    | some b => match op with
                      | .eql => some (t, m, k, true, a, b, d)
                      | .neq => some (t, m, k, false, a, b, d)
                      | _ => none
                    | none => none
                  | none => none
                | _ => none
              | _ => none
            | none => none
          | _ => none
        | none => none
      | _ => none
    | none => none
def Dm (k : IntKind) (xs : List Int) : Value := .agg (xs.map (Value.int k)).toArray
theorem st_eqA (hI:I.Ok P) {t m d:Nat} {k:IntKind} {q:Bool} {a b:Value} (h:eqE I f.n ops env o=some (t,m,k,q,a,b,d)) (hgd:P.eqGuardType P.depth t=false) {xs ys:List Int} (ha:a=Dm k xs) (hb:b=Dm k ys) (h1:xs.length=m) (h2:ys.length=m)
  (kk:K ((d,.bool (decide (if q then xs=ys else xs≠ys)))::env) w):St P f ops o env w K:=by
 unfold eqE at h
 split at h
 ·cases h
 rename_i L
 obtain⟨E,F⟩:=pre_eq L
 split at h
 ·rename_i R G
  split at h
  ·rename_i r A x y u H
   split at h
   ·rename_i g M
    split at h
    ·rename_i s e N
     split at h
     ·rename_i S B
      split at h
      ·rename_i z O
       split at h
       ·rename_i C
        split at h
        ·rename_i T i
         split at h
         ·rename_i U j
          have l:∀w:World,(Op.equal A (Dm z xs) (Dm z ys)).run P w= .ok (decide (xs=ys)) w\/¬(xs.length=s/\ys.length=s):=λw=>by
           by_cases hl:xs.length=s/\ys.length=s
           ·exact .inl (run_eqA hI M N B O C xs ys hl.1 hl.2 w)
           exact .inr hl
          have J:∀r,A=t->(eqGuard r A x y (Dm z xs) (Dm z ys)).run P w= .ok () w:=λr Q=>by
           subst Q
           unfold eqGuard Dm
           cases r<;>simp[hgd]
          split at h
          ·cases h
           subst ha;subst hb
           have c:=(l w).resolve_right (λD=>D ⟨h1,h2⟩)
           refine yt E F (v:= .bool (decide (xs=ys))) (w':=w) (λV p=>?_) (by rw[G];exact kk)
           simp only[execOp,H,p _ _ i,p _ _ j,Sem.run_bind,J .eql Z,aD]
           show((do pure (Value.bool (<-Op.equal t (Dm k xs) (Dm k ys))):Sem Value).run P w).andThen _=_
           rw[Sem.run_bind,c]
           rfl
          ·cases h
           subst ha;subst hb
           have c:=(l w).resolve_right (λD=>D ⟨h1,h2⟩)
           refine yt E F (v:= .bool (decide (xs≠ys))) (w':=w) (λV p=>?_) (by rw[G];exact kk)
           simp only[execOp,H,p _ _ i,p _ _ j,Sem.run_bind,J .neq Z,aD]
           show((do pure (Value.bool (!(<-Op.equal t (Dm k xs) (Dm k ys)))):Sem Value).run P w).andThen _=_
           rw[Sem.run_bind,c]
           simp
          cases h
         cases h
        cases h
       cases h
      cases h
     cases h
    cases h
   cases h
  cases h
 cases h
def idE (I : uh) (n : Nat) (ops : Array Oper) (env : Env) (o : Oper) : Option (List Value × Nat × Option Nat × Int × Nat) :=
  match pre n ops env o with
  | false => none
  | true => match o.dst with
    | some d => match o.op with
      | .index t x j => match z7 I t with
        | some y => match xz env j with
          | some (.int _ i) => match y.desc with
            | .array len e => match z7 I e with
              | some z => match xz env x with
                | some (.agg cs) => match z.isAgg with
                  | true => some (cs.toList, len, some z.size, i, d)
                  | false => match z.size with
                    | 1 => some (cs.toList, len, none, i, d)
                    | _ => none
                | _ => none
              | none => none
            | _ => none
          | _ => none
        | none => none
      | _ => none
    | none => none
def isE (I : uh) (n : Nat) (ops : Array Oper) (env : Env) (o : Oper) : Option (ByteArray × Int × Nat) :=
  match pre n ops env o with
  | false => none
  | true => match o.dst with
    | some d => match o.op with
      | .index t x j => match z7 I t with
        | some y => match y.desc with
          | .string => match xz env j with
            | some (.int _ i) => match xz env x with
              | some (.string s) => some (s, i, d)
              | _ => none
            | _ => none
          | _ => none
        | none => none
      | _ => none
    | none => none
theorem st_id (hI:I.Ok P) {cs:List Value} {len d:Nat} {m:Option Nat} {i:Int} (h:idE I f.n ops env o=some (cs,len,m,i,d)) (j:Nat) (hj:i=(j:Int)) (hlt:j<len) {v:Value}
  (hv:(m=none/\cs[j]? =some v)\/(∃n l',m=some n/\(cs.drop (j*n)).take n=l'/\v= .agg l'.toArray)) (k:K ((d,v)::env) w):St P f ops o env w K:=by
 subst hj;unfold idE at h;split at h;cases h;rename_i J;obtain⟨B,C⟩:=pre_eq J;split at h;rename_i O D;split at h;rename_i t x Q E;split at h;rename_i y L;split at h;rename_i R S c;split at h;rename_i F e M;split at h;rename_i z G;split at h;rename_i g H;have r:=(hI.get L).under w;rw[M] at r;have s:=(hI.get G).sizeOf w;have q:=(hI.get G).isAgg w;have b:(0:Int)<=(j:Int)/\(j:Int)<(len:Int):=by omega
 split at h;rename_i a;cases h;rw[a] at q;rcases hv with⟨l,_⟩|⟨n,l',l,N,rfl⟩;cases l;cases l;refine yt B C (w':=w) (λT p=>?_) (by rw[D];exact k);have e:g.extract (j*z.size) (j*z.size+z.size)=l'.toArray:=by apply cH;rw[Array.toList_extract,List.extract_eq_take_drop,Nat.add_sub_cancel_left];exact N
 simp only[execOp,E,p _ _ H,p _ _ c,Instr.index,asIntOf,Sem.run_bind,aR,aD,r,b,and_self,cT,s,part,q,bV,e];rename_i a;split at h;rename_i u;cases h;rw[a] at q;rw[u] at s;rcases hv with⟨_,hv⟩|⟨n,l',l,_⟩;refine yt B C (w':=w) (λT p=>?_) (by rw[D];exact k);have A:g[j]? =some v:=by simpa using hv
 simp only[execOp,E,p _ _ H,p _ _ c,Instr.index,asIntOf,Sem.run_bind,aR,aD,r,b,and_self,cT,s,part,q,bV,bF];simp[A];cases l;cases h;cases h;cases h;cases h;cases h;cases h;cases h;cases h
theorem st_is (hI:I.Ok P) {s:ByteArray} {d:Nat} {i:Int} (h:isE I f.n ops env o=some (s,i,d)) (j:Nat) (hj:i=(j:Int)) {c:UInt8} (hc:s.data.toList[j]? =some c) (k:K ((d,.int .u8 (c.toNat:Int))::env) w):St P f ops o env w K:=by
 subst hj
 unfold isE at h
 split at h
 ·cases h
 rename_i q
 obtain⟨r,u⟩:=pre_eq q
 split at h
 ·rename_i D v
  split at h
  ·rename_i t x E z
   split at h
   ·rename_i y A
    split at h
    ·rename_i B
     split at h
     ·rename_i F G e
      split at h
      ·rename_i H C
       cases h
       have m:=(hI.get A).under w
       rw[B] at m
       refine yt r u (w':=w) (λJ p=>?_) (by rw[v];exact k)
       have a:j<s.data.toList.length:=by
        rcases bC j s.data.toList.length with g|g
        ·exact g
        rw[bR g] at hc;cases hc
       have b:j<s.size:=by rw[Array.length_toList] at a;exact a
       have l:s[j]? =some c:=by
        rw[getElem?_pos s j b]
        rw[aG a] at hc
        exact hc
       simp only[execOp,z,p _ _ C,p _ _ e,Instr.index,asIntOf,Sem.run_bind,aR,aD,m,cF,cT,bV,l]
      cases h
     cases h
    cases h
   cases h
  cases h
 cases h
def ResAt (P : Program) (env : Env) (w : World) : ResultVar -> Value -> Prop
  | .tmp t, v => lk env t = some v
  | .cell a t, v => ∃ b off, lk env a = some (.pointer (some ⟨b, off, none⟩)) /\ (loadVar t ⟨b, off, none⟩).run P w = .ok v w
def ResAll (P : Program) (env : Env) (w : World) : List ResultVar -> List Value -> Prop
  | [], [] => True
  | r :: rs, v :: vs => ResAt P env w r v /\ ResAll P env w rs vs
  | _, _ => False
def tupV : List Value -> Value
  | [v] => v
  | vs => .tuple vs.toArray
theorem zv0 (hI:I.Ok P) {t b off:Nat} {y:TI} {v:Value} (hy:z7 I t=some y) (ha:y.isAgg=false) (hc:w.cell? ⟨b,off,none⟩=some v):(loadVar t ⟨b,off,none⟩).run P w= .ok v w:=by
 have a:=(hI.get hy).isAgg w;rw[ha] at a;simp[loadVar,a,hc]
theorem ud (hI:I.Ok P) {t b off:Nat} {y:TI} {l:List Value} (hy:z7 I t=some y) (ha:y.isAgg=true) (hs:Seg w b off l) (hl:l.length=y.size):(loadVar t ⟨b,off,none⟩).run P w= .ok (.agg l.toArray) w:=by
 have a:=(hI.get hy).isAgg w;rw[ha] at a;have c:=(hI.get hy).sizeOf w;have d:=x4 (P:=P) (w:=w) (b:=b) (off:=off) y.size 0 l #[] (by simpa using hs) hl;simp only[loadVar,Sem.run_bind,aD,a,cT,c,loadCells,d];simp
theorem yq4 {n:Nat} {a:Act} (ha:Ag ⟨n,[]⟩ env a):∀(rs:List ResultVar) (vs:List Value),ResAll P env w rs vs->
  (rs.mapM fun
   | .tmp t=>pure (a.tmps.getD t undef)
   | .cell x t=>do loadVar t (<-asAddr (a.tmps.getD x undef)):Sem (List Value)).run P w= .ok vs w
 | [],[],_=>rfl
 | [],_::_,h=>h.elim
 |_::_,[],h=>h.elim
 |r::rs,v::vs,h=>by
  obtain⟨h1,h2⟩:=h
  have e:=yq4 ha rs vs h2
  rw[List.mapM_cons,Sem.run_bind]
  cases r with
  |tmp t=>
   have:a.tmps.getD t undef=v:=by
    have:=ha.get _ _ h1;simp[this]
   simp only[this,aR,aD,Sem.run_bind];rw[e];rfl
  |cell x t=>
   obtain⟨b,c,f,d⟩:=h1;have:a.tmps.getD x undef= .pointer (some ⟨b,c,none⟩):=by have:=ha.get _ _ f;simp[this]
   have g:asAddr (.pointer (some ⟨b,c,none⟩))=pure ⟨b,c,none⟩:=rfl;simp only[this,g,aR,aD,Sem.run_bind,d];rw[e];rfl
theorem u7 {n:Nat} {fn:Func} {R:Value->World->Prop} (vs:List Value) (h:ResAll P env w fn.results.toList vs) (hR:R (tupV vs) w):Fin ⟨n,[]⟩ (bodyPost P fn (Rv R)) .ret env w:=by
 intro a b;have c:=yq4 b _ _ h;refine⟨b.defers,tupV vs,?_,hR⟩;unfold results;rw[Array.mapM_eq_mapM_toList,Sem.run_bind,Sem.run_map];erw [c];simp only[aD,aR];congr 1;cases vs with
 |nil=>rfl
 |cons v r=>cases r<;>simp[tupV]
end
def Uni (m : Nat) (L : List (List Value)) : Prop := ∀ r ∈ L, r.length = m
theorem Uni.nil (m : Nat) : Uni m [] := λ_ h => by cases h
theorem Uni.set {m:Nat} {L:List (List Value)} (h:Uni m L) (i:Nat) {r:List Value} (hr:r.length=m):Uni m (L.set i r):=λx b=>by
 rcases List.mem_or_eq_of_mem_set b with a|a
 ·exact h x a
 rw[a];exact hr
theorem Uni.get {m:Nat} {L:List (List Value)} (h:Uni m L) {i:Nat} {r:List Value} (hi:L[i]? =some r):r.length=m:=h r (List.mem_of_getElem? hi)
theorem Uni.drop {m : Nat} {L : List (List Value)} (h : Uni m L) (i : Nat) : Uni m (L.drop i) := λx hx => h x (List.mem_of_mem_drop hx)
theorem Uni.take {m : Nat} {L : List (List Value)} (h : Uni m L) (i : Nat) : Uni m (L.take i) := λx hx => h x (bK hx)
theorem Uni.map {α:Type} {m:Nat} {f:α->List Value} {l:List α} (h:∀x∈l,(f x).length=m):Uni m (l.map f):=λr a=>by
 obtain⟨x,b,rfl⟩:=aZ.1 a;exact h x b
theorem yg {m:Nat}:∀{L:List (List Value)},Uni m L->L.flatten.length=L.length*m
 | [],_=>by simp
 |r::L,h=>by
  rw[dG,ao,yg (λx hx=>h x (cM _ hx)),h r (dl),aQ,cS]
  omega
theorem xv9 {m:Nat}:∀{L:List (List Value)},Uni m L->∀{i j:Nat} {r:List Value},L[i]? =some r->j<m->L.flatten[i*m+j]? =r[j]?
 | [],_,i,j,r,hi,_=>by simp at hi
 |r0::L,h,0,j,r,hi,hj=>by
  have h0:=h r0 (dl)
  simp at hi;subst hi
  rw[dG,dA,aV,cO zk]
 |r0::L,h,i+1,j,r,hi,hj=>by
  have h0:=h r0 (dl)
  rw[dG,cD (by rw[h0,cS];omega),h0]
  rw[show(i+1)*m+j-m=i*m+j from by rw[cS];omega]
  exact xv9 (λx a=>h x (cM _ a)) (by simpa using hi) hj
theorem rows_drop {m:Nat}:∀{L:List (List Value)},Uni m L->∀(i:Nat),L.flatten.drop (i*m)=(L.drop i).flatten
 | [],_,i=>by simp
 |r0::L,h,0=>by simp
 |r0::L,h,i+1=>by
  have h0:=h r0 (dl)
  rw[dG,List.drop_append,aW (by rw[h0,cS];omega),h0]
  rw[show(i+1)*m-m=i*m from by rw[cS];omega]
  simpa using rows_drop (λx a=>h x (cM _ a)) i
theorem rows_take {m:Nat}:∀{L:List (List Value)},Uni m L->∀(i:Nat),L.flatten.take (i*m)=(L.take i).flatten
 | [],_,i=>by simp
 |r0::L,h,0=>by simp
 |r0::L,h,i+1=>by
  have h0:=h r0 (dl)
  rw[dG,List.take_append,aN (by rw[h0,cS];omega),h0]
  rw[show(i+1)*m-m=i*m from by rw[cS];omega,rows_take (λx a=>h x (cM _ a)) i]
  simp
theorem rows_sub {m:Nat} {L:List (List Value)} (h:Uni m L) (i n:Nat):(L.flatten.drop (i*m)).take (n*m)=((L.drop i).take n).flatten:=by
 rw[rows_drop h,rows_take (h.drop i)]
theorem rows_row {m:Nat} {L:List (List Value)} (h:Uni m L) {i:Nat} {r:List Value} (hi:L[i]? =some r):(L.flatten.drop (i*m)).take m=r:=by
 have:=rows_sub h i 1;rw[Nat.one_mul] at this;rw[this];have a:i<L.length:=by rcases bC i L.length with b|b;exact b;rw[bR b] at hi;cases hi
 rw[cB a];rw[aG a] at hi;simp at hi;simp[hi]
theorem rows_part {m:Nat} {L:List (List Value)} (h:Uni m L) {i j n:Nat} {r:List Value} (hi:L[i]? =some r) (hj:j+n<=m):(L.flatten.drop (i*m+j)).take n=(r.drop j).take n:=by
 have a:=rows_row h hi;rw[<-a,<-cY,List.drop_take,List.take_take,bP zk]
theorem zw1 {m:Nat} {L:List (List Value)} (h:Uni m L) {i j:Nat} {r:List Value} (hi:L[i]? =some r) (vs:List Value) (hv:j+vs.length<=m):put L.flatten (i*m+j) vs=(L.set i (put r j vs)).flatten:=by
 have n:=h.get hi
 have c:i<L.length:=by
  rcases bC i L.length with d|d
  ·exact d
  rw[bR d] at hi;cases hi
 have e:L[i]=r:=by rw[aG c] at hi;simpa using hi
 have b:i*m+j+vs.length<=L.flatten.length:=by
  rw[yg h]
  have:(i+1)*m<=L.length*m:=cC _ c
  rw[cS] at this
  omega
 rw[put_eq _ _ _ b,put_eq _ _ _ zk]
 have g:L.flatten=(L.take i).flatten++(r++(L.drop (i+1)).flatten):=by
  rw[<-dG,<-List.flatten_append,<-e,List.getElem_cons_drop,cP]
 have k:(L.set i (r.take j++vs++r.drop (j+vs.length))).flatten=(L.take i).flatten++((r.take j++vs++r.drop (j+vs.length))++(L.drop (i+1)).flatten):=by
  rw[List.set_eq_take_append_cons_drop,aL c,List.flatten_append,dG]
 have l:(L.take i).flatten.length=i*m:=by
  rw[yg (h.take i),aH,bP zk]
 have f:∀(A B:List Value),(A++(r++B)).take (A.length+j)++vs++(A++(r++B)).drop (A.length+j+vs.length)=A++((r.take j++vs++r.drop (j+vs.length))++B):=λA B=>by
  rw[Nat.add_assoc,List.take_length_add_append,List.drop_length_add_append,bW zk,List.drop_append_of_le_length zk]
  simp[aM]
 rw[k,<-f,<-g,l]
section
variable {P : Program} {I : uh} {f : Fs} {ops : Array Oper} {K : Act -> World -> Prop} {r : Dr} {i : Nat} {o : Oper} {pl : List (Nat × Bool)} {dn : List Nat} {env : Env} {w : World}
theorem pre_mk {n : Nat} (h1 : takes ops env o = true) (h2 : dOk n o.dst = true) : pre n ops env o = true := by simp [pre, h1, h2]
theorem j5 (hI:I.Ok P) (ho:ops[i]? =some o) {b off d:Nat} {v:Value} (h:ldE I f.n ops env o=some (b,off,none,d)) (hc:∀w',r.C w'->w'.cell? ⟨b,off,none⟩=some v) (k:WD P f ops K r pl (i::dn) ((d,v)::env) w):WD P f ops K r ((i,true)::pl) dn env w:=
 have⟨h1,h2,h3,_⟩:=ldE_eq h
 wd_q ho (pre_mk h1 h2) h3 (λw' a=>ov_ld hI h (hc w' a)) k
theorem qu (hI:I.Ok P) (ho:ops[i]? =some o) {b off d m:Nat} {l:List Value} (h:ldE I f.n ops env o=some (b,off,some m,d)) (hs:∀w',r.C w'->Seg w' b off l) (hl:l.length=m) (k:WD P f ops K r pl (i::dn) ((d,.agg l.toArray)::env) w):WD P f ops K r ((i,true)::pl) dn env w:=
 have⟨h1,h2,h3,_⟩:=ldE_eq h
 wd_q ho (pre_mk h1 h2) h3 (λw' a=>ov_ldN hI h (hs w' a) hl) k
theorem u0 (hI:I.Ok P) (ho:ops[i]? =some o) {b off len sz d:Nat} {x:Int} (h:ixE I f.n ops env o=some (b,off,len,sz,x,d)) (ss:Nat) (hss:sz=ss) (j:Nat) (hj:x=(j:Int)) (hlt:j<len) (q:Nat) (hq:q=off+j*ss) (k:WD P f ops K r pl (i::dn) ((d,.pointer (some ⟨b,q,none⟩))::env) w):WD P f ops K r ((i,true)::pl) dn env w:=
 have⟨h1,h2,h3,_⟩:=ixE_eq h
 wd_q ho (pre_mk h1 h2) h3 (λ_ _=>ov_ix hI h ss hss j hj hlt q hq) k
theorem yq1 (hI:I.Ok P) (ho:ops[i]? =some o) {s:SlArgs} (h:slE I f.n ops env o=some s) (l hh m:Nat) (sz:Nat) (hsz:s.sz=sz) (h1:s.mx=some (m:Int)/\s.hi.isSome=true\/s.mx=none/\m=s.c) (h2:s.hi=some (hh:Int)\/s.hi=none/\hh=s.n) (h3:s.lo=some (l:Int)\/s.lo=none/\l=0)
  (hl:l<=hh) (hm:hh<=m) (hc:m<=s.c) (k:WD P f ops K r pl (i::dn) ((s.d,.slice (ur s.p l m sz) (hh-l) (m-l))::env) w):WD P f ops K r ((i,true)::pl) dn env w:=
 have⟨e1,e2,hd,_⟩:=ov_sl (w:=w) hI h l hh m sz hsz h1 h2 h3 hl hm hc
 wd_q ho (pre_mk e1 e2) hd (λa _=>(ov_sl (w:=a) hI h l hh m sz hsz h1 h2 h3 hl hm hc).2.2.2) k
theorem wd_bd (hI:I.Ok P) (ho:ops[i]? =some o) {d:Nat} {z l':List Value} {q:Parts} (h:bdE I f.n ops env o=some (z,q,d)) (hok:zq4 z.length q) (hl:ym z q=l') (k:WD P f ops K r pl (i::dn) ((d,.agg l'.toArray)::env) w):WD P f ops K r ((i,true)::pl) dn env w:=
 have⟨h1,h2,h3,_⟩:=ov_bd (w:=w) hI h hok
 wd_q ho (pre_mk h1 h2) h3 (λa _=>by subst hl;exact(ov_bd (w:=a) hI h hok).2.2.2) k
end
end Go.Vc
namespace Go.Proofs.YtpdiphfjmepijaaGreatDoor
open Go.Proofs.Tryz
open Go.Vc
noncomputable def ti1 : TI := ⟨Tryz.t1.desc, 1, 8, Value.nilFunc⟩
noncomputable def ti3 : TI := ⟨Tryz.t3.desc, 1, 8, Value.int .i64 0⟩
noncomputable def ti4 : TI := ⟨Tryz.t4.desc, 1, 1, Value.bool false⟩
noncomputable def ti5 : TI := ⟨Tryz.t5.desc, 1, 1, Value.int .u8 0⟩
noncomputable def ti9 : TI := ⟨Tryz.t9.desc, 1, 16, Value.string .empty⟩
noncomputable def ti22 : TI := ⟨Tryz.t22.desc, 1, 24, Value.slice none 0 0⟩
noncomputable def ti23 : TI := ⟨Tryz.t23.desc, 1, 24, Value.slice none 0 0⟩
noncomputable def ti25 : TI := ⟨Tryz.t24.desc, 2, 48, Value.agg ([Value.slice none 0 0, Value.slice none 0 0]).toArray⟩
noncomputable def ti27 : TI := ⟨Tryz.t27.desc, 1, 8, Value.pointer none⟩
noncomputable def ti28 : TI := ⟨Tryz.t28.desc, 1, 24, Value.slice none 0 0⟩
noncomputable def ti30 : TI := ⟨Tryz.t29.desc, 32, 32, Value.agg (List.replicate 32 (Value.int .u8 0)).toArray⟩
noncomputable def ti31 : TI := ⟨Tryz.t31.desc, 1, 24, Value.slice none 0 0⟩
noncomputable def ti32 : TI := ⟨Tryz.t32.desc, 1, 24, Value.slice none 0 0⟩
noncomputable def ti34 : TI := ⟨Tryz.t33.desc, 1, 24, Value.agg ([Value.slice none 0 0]).toArray⟩
noncomputable def ti35 : TI := ⟨Tryz.t35.desc, 1, 4, Value.int .u32 0⟩
noncomputable def ti37 : TI := ⟨Tryz.t36.desc, 73, 192, Value.agg ([Value.int .i64 0, Value.string .empty, Value.slice none 0 0, Value.int .i64 0] ++ List.replicate 32 (Value.int .u8 0) ++ List.replicate 32 (Value.int .u8 0) ++ [Value.slice none 0 0, Value.slice none 0 0, Value.int .u32 0, Value.int .u32 0, Value.string .empty]).toArray⟩
noncomputable def ti38 : TI := ⟨Tryz.t3.desc, 1, 8, Value.int .i64 0⟩
noncomputable def ti41 : TI := ⟨Tryz.t41.desc, 1, 24, Value.slice none 0 0⟩
noncomputable def ti52 : TI := ⟨Tryz.t52.desc, 1, 24, Value.slice none 0 0⟩
noncomputable def ti54 : TI := ⟨Tryz.t54.desc, 1, 24, Value.slice none 0 0⟩
noncomputable def ti56 : TI := ⟨Tryz.t55.desc, 1, 24, Value.agg ([Value.slice none 0 0]).toArray⟩
noncomputable def ti58 : TI := ⟨Tryz.t58.desc, 1, 8, Value.pointer none⟩
noncomputable def ti60 : TI := ⟨Tryz.t60.desc, 1, 8, Value.int .u64 0⟩
noncomputable def ti61 : TI := ⟨Tryz.t61.desc, 1, 8, Value.pointer none⟩
noncomputable def ti68 : TI := ⟨Tryz.t68.desc, 1, 24, Value.slice none 0 0⟩
noncomputable def ti69 : TI := ⟨Tryz.t69.desc, 1, 8, Value.pointer none⟩
noncomputable def ti73 : TI := ⟨Tryz.t73.desc, 1, 24, Value.slice none 0 0⟩
noncomputable def ti74 : TI := ⟨Tryz.t74.desc, 1, 24, Value.slice none 0 0⟩
noncomputable def ti76 : TI := ⟨Tryz.t75.desc, 6, 112, Value.agg ([Value.int .i64 0, Value.int .i64 0, Value.slice none 0 0, Value.slice none 0 0, Value.slice none 0 0, Value.slice none 0 0]).toArray⟩
noncomputable def ti79 : TI := ⟨Tryz.t79.desc, 1, 24, Value.slice none 0 0⟩
noncomputable def ti80 : TI := ⟨Tryz.t80.desc, 1, 24, Value.slice none 0 0⟩
noncomputable def ti91 : TI := ⟨Tryz.t90.desc, 5, 72, Value.agg ([Value.string .empty, Value.bool false, Value.bool false, Value.slice none 0 0, Value.slice none 0 0]).toArray⟩
noncomputable def ti94 : TI := ⟨Tryz.t94.desc, 2, 16, Value.agg ([Value.pointer none, Value.pointer none]).toArray⟩
noncomputable def ti96 : TI := ⟨Tryz.t96.desc, 1, 8, Value.pointer none⟩
noncomputable def ti98 : TI := ⟨Tryz.t97.desc, 4, 32, Value.agg ([Value.pointer none, Value.pointer none, Value.pointer none, Value.pointer none]).toArray⟩
noncomputable def ti100 : TI := ⟨Tryz.t100.desc, 1, 24, Value.slice none 0 0⟩
noncomputable def ti102 : TI := ⟨Tryz.t101.desc, 2, 48, Value.agg ([Value.slice none 0 0, Value.slice none 0 0]).toArray⟩
noncomputable def ti118 : TI := ⟨Tryz.t118.desc, 1, 8, Value.map none⟩
noncomputable def ti119 : TI := ⟨Tryz.t119.desc, 1, 24, Value.slice none 0 0⟩
noncomputable def ti121 : TI := ⟨Tryz.t120.desc, 3, 56, Value.agg ([Value.slice none 0 0, Value.map none, Value.slice none 0 0]).toArray⟩
noncomputable def ti123 : TI := ⟨Tryz.t122.desc, 4, 64, Value.agg ([Value.pointer none, Value.slice none 0 0, Value.map none, Value.slice none 0 0]).toArray⟩
noncomputable def ti126 : TI := ⟨Tryz.t125.desc, 105, 224, Value.agg (List.replicate 32 (Value.int .u8 0) ++ [Value.int .i64 0, Value.string .empty, Value.slice none 0 0, Value.int .i64 0] ++ List.replicate 32 (Value.int .u8 0) ++ List.replicate 32 (Value.int .u8 0) ++ [Value.slice none 0 0, Value.slice none 0 0, Value.int .u32 0, Value.int .u32 0, Value.string .empty]).toArray⟩
noncomputable def ti129 : TI := ⟨Tryz.t128.desc, 2, 40, Value.agg ([Value.string .empty, Value.slice none 0 0]).toArray⟩
noncomputable def ti130 : TI := ⟨Tryz.t130.desc, 1, 8, Value.nilFunc⟩
noncomputable def ti135 : TI := ⟨Tryz.t135.desc, 1, 8, Value.nilFunc⟩
noncomputable def ti139 : TI := ⟨Tryz.t139.desc, 1, 8, Value.nilFunc⟩
noncomputable def ti140 : TI := ⟨Tryz.t139.desc, 1, 8, Value.nilFunc⟩
noncomputable def ti148 : TI := ⟨Tryz.t147.desc, 33, 48, Value.agg ([Value.string .empty] ++ List.replicate 32 (Value.int .u8 0)).toArray⟩
noncomputable def ti150 : TI := ⟨Tryz.t149.desc, 3, 40, Value.agg ([Value.string .empty, Value.bool false, Value.string .empty]).toArray⟩
noncomputable def ti151 : TI := ⟨Tryz.t151.desc, 1, 24, Value.slice none 0 0⟩
noncomputable def ti153 : TI := ⟨Tryz.t152.desc, 6, 80, Value.agg ([Value.slice none 0 0, Value.slice none 0 0, Value.bool false, Value.int .i64 0, Value.int .i64 0, Value.int .i64 0]).toArray⟩
noncomputable def ti155 : TI := ⟨Tryz.t154.desc, 2, 16, Value.agg ([Value.pointer none, Value.int .i64 0]).toArray⟩
noncomputable def ti157 : TI := ⟨Tryz.t157.desc, 1, 8, Value.nilFunc⟩
noncomputable def ti158 : TI := ⟨Tryz.t157.desc, 1, 8, Value.nilFunc⟩
noncomputable def ti162 : TI := ⟨Tryz.t161.desc, 6, 64, Value.agg ([Value.pointer none, Value.int .i64 0, Value.int .u32 0, Value.slice none 0 0, Value.int .i64 0, Value.bool false]).toArray⟩
noncomputable def ti164 : TI := ⟨Tryz.t164.desc, 64, 64, Value.agg (List.replicate 64 (Value.int .u8 0)).toArray⟩
noncomputable def ti165 : TI := ⟨Tryz.t164.desc, 64, 64, Value.agg (List.replicate 64 (Value.int .u8 0)).toArray⟩
noncomputable def ti169 : TI := ⟨Tryz.t168.desc, 3, 56, Value.agg ([Value.pointer none, Value.slice none 0 0, Value.slice none 0 0]).toArray⟩
noncomputable def ti176 : TI := ⟨Tryz.t176.desc, 1, 8, Value.pointer none⟩
noncomputable def ti178 : TI := ⟨Tryz.t177.desc, 1, 24, Value.agg ([Value.slice none 0 0]).toArray⟩
noncomputable def ti180 : TI := ⟨Tryz.t179.desc, 1, 24, Value.agg ([Value.slice none 0 0]).toArray⟩
noncomputable def ti181 : TI := ⟨Tryz.t181.desc, 1, 8, Value.nilFunc⟩
noncomputable def ti182 : TI := ⟨Tryz.t182.desc, 1, 8, Value.nilFunc⟩
noncomputable def ti184 : TI := ⟨Tryz.t184.desc, 1, 2, Value.int .u16 0⟩
noncomputable def ti189 : TI := ⟨Tryz.t189.desc, 1, 8, Value.int .u64 0⟩
noncomputable def ti194 : TI := ⟨Tryz.t194.desc, 1, 8, Value.pointer none⟩
noncomputable def ti200 : TI := ⟨Tryz.t200.desc, 1, 8, Value.nilFunc⟩
noncomputable def ti203 : TI := ⟨Tryz.t203.desc, 1, 8, Value.nilFunc⟩
noncomputable def ti215 : TI := ⟨Tryz.t214.desc, 64, 64, Value.agg (List.replicate 64 (Value.int .u8 0)).toArray⟩
noncomputable def ti216 : TI := ⟨Tryz.t216.desc, 1, 24, Value.slice none 0 0⟩
noncomputable def ti218 : TI := ⟨Tryz.t217.desc, 65, 88, Value.agg (List.replicate 64 (Value.int .u8 0) ++ [Value.slice none 0 0]).toArray⟩
noncomputable def ti219 : TI := ⟨Tryz.t219.desc, 1, 8, Value.pointer none⟩
noncomputable def ti221 : TI := ⟨Tryz.t220.desc, 2, 40, Value.agg ([Value.string .empty, Value.slice none 0 0]).toArray⟩
noncomputable def ti224 : TI := ⟨Tryz.t224.desc, 1, 8, Value.pointer none⟩
noncomputable def ti225 : TI := ⟨Tryz.t225.desc, 1, 8, Value.nilFunc⟩
noncomputable def ti227 : TI := ⟨Tryz.t227.desc, 1, 8, Value.nilFunc⟩
noncomputable def ti241 : TI := ⟨Tryz.t241.desc, 1, 8, Value.nilFunc⟩
noncomputable def ti242 : TI := ⟨Tryz.t242.desc, 1, 8, Value.map none⟩
noncomputable def ti247 : TI := ⟨Tryz.t247.desc, 1, 8, Value.nilFunc⟩
noncomputable def ti250 : TI := ⟨Tryz.t250.desc, 1, 8, Value.pointer none⟩
noncomputable def ti252 : TI := ⟨Tryz.t252.desc, 1, 8, Value.nilFunc⟩
noncomputable def ti262 : TI := ⟨Tryz.t261.desc, 2, 32, Value.agg ([Value.slice none 0 0, Value.int .i64 0]).toArray⟩
noncomputable def ti264 : TI := ⟨Tryz.t263.desc, 2, 32, Value.agg ([Value.slice none 0 0, Value.int .i64 0]).toArray⟩
noncomputable def ti267 : TI := ⟨Tryz.t266.desc, 1, 8, Value.agg ([Value.pointer none]).toArray⟩
noncomputable def ti276 : TI := ⟨Tryz.t276.desc, 8, 32, Value.agg ([Value.int .u32 0, Value.int .u32 0, Value.int .u32 0, Value.int .u32 0, Value.int .u32 0, Value.int .u32 0, Value.int .u32 0, Value.int .u32 0]).toArray⟩
noncomputable def ti277 : TI := ⟨Tryz.t277.desc, 1, 24, Value.slice none 0 0⟩
noncomputable def ti280 : TI := ⟨Tryz.t280.desc, 1, 8, Value.pointer none⟩
noncomputable def ti286 : TI := ⟨Tryz.t286.desc, 1, 8, Value.pointer none⟩
noncomputable def ti288 : TI := ⟨Tryz.t287.desc, 1, 24, Value.agg ([Value.slice none 0 0]).toArray⟩
noncomputable def ti294 : TI := ⟨Tryz.t294.desc, 1, 8, Value.pointer none⟩
noncomputable def ti296 : TI := ⟨Tryz.t295.desc, 2, 32, Value.agg ([Value.slice none 0 0, Value.bool false]).toArray⟩
noncomputable def ti302 : TI := ⟨Tryz.t301.desc, 8, 32, Value.agg ([Value.int .u32 0, Value.int .u32 0, Value.int .u32 0, Value.int .u32 0, Value.int .u32 0, Value.int .u32 0, Value.int .u32 0, Value.int .u32 0]).toArray⟩
noncomputable def ti304 : TI := ⟨Tryz.t303.desc, 8, 32, Value.agg ([Value.int .u32 0, Value.int .u32 0, Value.int .u32 0, Value.int .u32 0, Value.int .u32 0, Value.int .u32 0, Value.int .u32 0, Value.int .u32 0]).toArray⟩
noncomputable def ti305 : TI := ⟨Tryz.t305.desc, 1, 8, Value.nilFunc⟩
noncomputable def ti312 : TI := ⟨Tryz.t312.desc, 1, 8, Value.pointer none⟩
noncomputable def ti313 : TI := ⟨Tryz.t313.desc, 64, 256, Value.agg (List.replicate 64 (Value.int .u32 0)).toArray⟩
noncomputable def ti317 : TI := ⟨Tryz.t317.desc, 1, 24, Value.slice none 0 0⟩
noncomputable def ti319 : TI := ⟨Tryz.t318.desc, 1, 24, Value.agg ([Value.slice none 0 0]).toArray⟩
noncomputable def ti321 : TI := ⟨Tryz.t320.desc, 2, 32, Value.agg ([Value.string .empty, Value.string .empty]).toArray⟩
noncomputable def ti324 : TI := ⟨Tryz.t324.desc, 1, 8, Value.nilFunc⟩
noncomputable def ti326 : TI := ⟨Tryz.t326.desc, 1, 8, Value.nilFunc⟩
noncomputable def ti327 : TI := ⟨Tryz.t327.desc, 1, 8, Value.nilFunc⟩
noncomputable def ti329 : TI := ⟨Tryz.t328.desc, 2, 32, Value.agg ([Value.slice none 0 0, Value.nilFunc]).toArray⟩
noncomputable def ti336 : TI := ⟨Tryz.t336.desc, 1, 8, Value.nilFunc⟩
noncomputable def ti337 : TI := ⟨Tryz.t337.desc, 1, 8, Value.nilFunc⟩
noncomputable def ti339 : TI := ⟨Tryz.t338.desc, 2, 32, Value.agg ([Value.slice none 0 0, Value.nilFunc]).toArray⟩
noncomputable def I : uh := [(1, ti1), (3, ti3), (4, ti4), (5, ti5), (9, ti9), (22, ti22), (23, ti23), (25, ti25), (27, ti27), (28, ti28), (30, ti30), (31, ti31), (32, ti32), (34, ti34), (35, ti35), (37, ti37), (38, ti38), (41, ti41), (52, ti52), (54, ti54), (56, ti56), (58, ti58), (60, ti60), (61, ti61), (68, ti68), (69, ti69), (73, ti73), (74, ti74), (76, ti76), (79, ti79), (80, ti80), (91, ti91), (94, ti94), (96, ti96), (98, ti98), (100, ti100), (102, ti102), (118, ti118), (119, ti119), (121, ti121), (123, ti123), (126, ti126), (129, ti129), (130, ti130), (135, ti135), (139, ti139), (140, ti140), (148, ti148), (150, ti150), (151, ti151), (153, ti153), (155, ti155), (157, ti157), (158, ti158), (162, ti162), (164, ti164), (165, ti165), (169, ti169), (176, ti176), (178, ti178), (180, ti180), (181, ti181), (182, ti182), (184, ti184), (189, ti189), (194, ti194), (200, ti200), (203, ti203), (215, ti215), (216, ti216), (218, ti218), (219, ti219), (221, ti221), (224, ti224), (225, ti225), (227, ti227), (241, ti241), (242, ti242), (247, ti247), (250, ti250), (252, ti252), (262, ti262), (264, ti264), (267, ti267), (276, ti276), (277, ti277), (280, ti280), (286, ti286), (288, ti288), (294, ti294), (296, ti296), (302, ti302), (304, ti304), (305, ti305), (312, ti312), (313, ti313), (317, ti317), (319, ti319), (321, ti321), (324, ti324), (326, ti326), (327, ti327), (329, ti329), (336, ti336), (337, ti337), (339, ti339)]
theorem ti1_ok : ti1.Ok prog 1 := ⟨Tryz.underlying1, by kernel_rfl⟩
theorem ti3_ok : ti3.Ok prog 3 := ⟨Tryz.underlying3, by kernel_rfl⟩
theorem ti4_ok : ti4.Ok prog 4 := ⟨Tryz.underlying4, by kernel_rfl⟩
theorem ti5_ok : ti5.Ok prog 5 := ⟨Tryz.underlying5, by kernel_rfl⟩
theorem ti9_ok : ti9.Ok prog 9 := ⟨Tryz.underlying9, by kernel_rfl⟩
theorem ti22_ok : ti22.Ok prog 22 := ⟨Tryz.underlying22, by kernel_rfl⟩
theorem ti23_ok : ti23.Ok prog 23 := ⟨Tryz.underlying23, by kernel_rfl⟩
theorem ti25_ok : ti25.Ok prog 25 := ⟨Tryz.underlying25, by kernel_rfl⟩
theorem ti27_ok : ti27.Ok prog 27 := ⟨Tryz.underlying27, by kernel_rfl⟩
theorem ti28_ok : ti28.Ok prog 28 := ⟨Tryz.underlying28, by kernel_rfl⟩
theorem ti30_ok : ti30.Ok prog 30 := ⟨Tryz.underlying30, by kernel_rfl⟩
theorem ti31_ok : ti31.Ok prog 31 := ⟨Tryz.underlying31, by kernel_rfl⟩
theorem ti32_ok : ti32.Ok prog 32 := ⟨Tryz.underlying32, by kernel_rfl⟩
theorem ti34_ok : ti34.Ok prog 34 := ⟨Tryz.underlying34, by kernel_rfl⟩
theorem ti35_ok : ti35.Ok prog 35 := ⟨Tryz.underlying35, by kernel_rfl⟩
theorem ti37_ok : ti37.Ok prog 37 := ⟨Tryz.underlying37, by kernel_rfl⟩
theorem ti38_ok : ti38.Ok prog 38 := ⟨Tryz.underlying38, by kernel_rfl⟩
theorem ti41_ok : ti41.Ok prog 41 := ⟨Tryz.underlying41, by kernel_rfl⟩
theorem ti52_ok : ti52.Ok prog 52 := ⟨Tryz.underlying52, by kernel_rfl⟩
theorem ti54_ok : ti54.Ok prog 54 := ⟨Tryz.underlying54, by kernel_rfl⟩
theorem ti56_ok : ti56.Ok prog 56 := ⟨Tryz.underlying56, by kernel_rfl⟩
theorem ti58_ok : ti58.Ok prog 58 := ⟨Tryz.underlying58, by kernel_rfl⟩
theorem ti60_ok : ti60.Ok prog 60 := ⟨Tryz.underlying60, by kernel_rfl⟩
theorem ti61_ok : ti61.Ok prog 61 := ⟨Tryz.underlying61, by kernel_rfl⟩
theorem ti68_ok : ti68.Ok prog 68 := ⟨Tryz.underlying68, by kernel_rfl⟩
theorem ti69_ok : ti69.Ok prog 69 := ⟨Tryz.underlying69, by kernel_rfl⟩
theorem ti73_ok : ti73.Ok prog 73 := ⟨Tryz.underlying73, by kernel_rfl⟩
theorem ti74_ok : ti74.Ok prog 74 := ⟨Tryz.underlying74, by kernel_rfl⟩
theorem ti76_ok : ti76.Ok prog 76 := ⟨Tryz.underlying76, by kernel_rfl⟩
theorem ti79_ok : ti79.Ok prog 79 := ⟨Tryz.underlying79, by kernel_rfl⟩
theorem ti80_ok : ti80.Ok prog 80 := ⟨Tryz.underlying80, by kernel_rfl⟩
theorem ti91_ok : ti91.Ok prog 91 := ⟨Tryz.underlying91, by kernel_rfl⟩
theorem ti94_ok : ti94.Ok prog 94 := ⟨Tryz.underlying94, by kernel_rfl⟩
theorem ti96_ok : ti96.Ok prog 96 := ⟨Tryz.underlying96, by kernel_rfl⟩
theorem ti98_ok : ti98.Ok prog 98 := ⟨Tryz.underlying98, by kernel_rfl⟩
theorem ti100_ok : ti100.Ok prog 100 := ⟨Tryz.underlying100, by kernel_rfl⟩
theorem ti102_ok : ti102.Ok prog 102 := ⟨Tryz.underlying102, by kernel_rfl⟩
theorem ti118_ok : ti118.Ok prog 118 := ⟨Tryz.underlying118, by kernel_rfl⟩
theorem ti119_ok : ti119.Ok prog 119 := ⟨Tryz.underlying119, by kernel_rfl⟩
theorem ti121_ok : ti121.Ok prog 121 := ⟨Tryz.underlying121, by kernel_rfl⟩
theorem ti123_ok : ti123.Ok prog 123 := ⟨Tryz.underlying123, by kernel_rfl⟩
theorem ti126_ok : ti126.Ok prog 126 := ⟨Tryz.underlying126, by kernel_rfl⟩
theorem ti129_ok : ti129.Ok prog 129 := ⟨Tryz.underlying129, by kernel_rfl⟩
theorem ti130_ok : ti130.Ok prog 130 := ⟨Tryz.underlying130, by kernel_rfl⟩
theorem ti135_ok : ti135.Ok prog 135 := ⟨Tryz.underlying135, by kernel_rfl⟩
theorem ti139_ok : ti139.Ok prog 139 := ⟨Tryz.underlying139, by kernel_rfl⟩
theorem ti140_ok : ti140.Ok prog 140 := ⟨Tryz.underlying140, by kernel_rfl⟩
theorem ti148_ok : ti148.Ok prog 148 := ⟨Tryz.underlying148, by kernel_rfl⟩
theorem ti150_ok : ti150.Ok prog 150 := ⟨Tryz.underlying150, by kernel_rfl⟩
theorem ti151_ok : ti151.Ok prog 151 := ⟨Tryz.underlying151, by kernel_rfl⟩
theorem ti153_ok : ti153.Ok prog 153 := ⟨Tryz.underlying153, by kernel_rfl⟩
theorem ti155_ok : ti155.Ok prog 155 := ⟨Tryz.underlying155, by kernel_rfl⟩
theorem ti157_ok : ti157.Ok prog 157 := ⟨Tryz.underlying157, by kernel_rfl⟩
theorem ti158_ok : ti158.Ok prog 158 := ⟨Tryz.underlying158, by kernel_rfl⟩
theorem ti162_ok : ti162.Ok prog 162 := ⟨Tryz.underlying162, by kernel_rfl⟩
theorem ti164_ok : ti164.Ok prog 164 := ⟨Tryz.underlying164, by kernel_rfl⟩
theorem ti165_ok : ti165.Ok prog 165 := ⟨Tryz.underlying165, by kernel_rfl⟩
theorem ti169_ok : ti169.Ok prog 169 := ⟨Tryz.underlying169, by kernel_rfl⟩
theorem ti176_ok : ti176.Ok prog 176 := ⟨Tryz.underlying176, by kernel_rfl⟩
theorem ti178_ok : ti178.Ok prog 178 := ⟨Tryz.underlying178, by kernel_rfl⟩
theorem ti180_ok : ti180.Ok prog 180 := ⟨Tryz.underlying180, by kernel_rfl⟩
theorem ti181_ok : ti181.Ok prog 181 := ⟨Tryz.underlying181, by kernel_rfl⟩
theorem ti182_ok : ti182.Ok prog 182 := ⟨Tryz.underlying182, by kernel_rfl⟩
theorem ti184_ok : ti184.Ok prog 184 := ⟨Tryz.underlying184, by kernel_rfl⟩
theorem ti189_ok : ti189.Ok prog 189 := ⟨Tryz.underlying189, by kernel_rfl⟩
theorem ti194_ok : ti194.Ok prog 194 := ⟨Tryz.underlying194, by kernel_rfl⟩
theorem ti200_ok : ti200.Ok prog 200 := ⟨Tryz.underlying200, by kernel_rfl⟩
theorem ti203_ok : ti203.Ok prog 203 := ⟨Tryz.underlying203, by kernel_rfl⟩
theorem ti215_ok : ti215.Ok prog 215 := ⟨Tryz.underlying215, by kernel_rfl⟩
theorem ti216_ok : ti216.Ok prog 216 := ⟨Tryz.underlying216, by kernel_rfl⟩
theorem ti218_ok : ti218.Ok prog 218 := ⟨Tryz.underlying218, by kernel_rfl⟩
theorem ti219_ok : ti219.Ok prog 219 := ⟨Tryz.underlying219, by kernel_rfl⟩
theorem ti221_ok : ti221.Ok prog 221 := ⟨Tryz.underlying221, by kernel_rfl⟩
theorem ti224_ok : ti224.Ok prog 224 := ⟨Tryz.underlying224, by kernel_rfl⟩
theorem ti225_ok : ti225.Ok prog 225 := ⟨Tryz.underlying225, by kernel_rfl⟩
theorem ti227_ok : ti227.Ok prog 227 := ⟨Tryz.underlying227, by kernel_rfl⟩
theorem ti241_ok : ti241.Ok prog 241 := ⟨Tryz.underlying241, by kernel_rfl⟩
theorem ti242_ok : ti242.Ok prog 242 := ⟨Tryz.underlying242, by kernel_rfl⟩
theorem ti247_ok : ti247.Ok prog 247 := ⟨Tryz.underlying247, by kernel_rfl⟩
theorem ti250_ok : ti250.Ok prog 250 := ⟨Tryz.underlying250, by kernel_rfl⟩
theorem ti252_ok : ti252.Ok prog 252 := ⟨Tryz.underlying252, by kernel_rfl⟩
theorem ti262_ok : ti262.Ok prog 262 := ⟨Tryz.underlying262, by kernel_rfl⟩
theorem ti264_ok : ti264.Ok prog 264 := ⟨Tryz.underlying264, by kernel_rfl⟩
theorem ti267_ok : ti267.Ok prog 267 := ⟨Tryz.underlying267, by kernel_rfl⟩
theorem ti276_ok : ti276.Ok prog 276 := ⟨Tryz.underlying276, by kernel_rfl⟩
theorem ti277_ok : ti277.Ok prog 277 := ⟨Tryz.underlying277, by kernel_rfl⟩
theorem ti280_ok : ti280.Ok prog 280 := ⟨Tryz.underlying280, by kernel_rfl⟩
theorem ti286_ok : ti286.Ok prog 286 := ⟨Tryz.underlying286, by kernel_rfl⟩
theorem ti288_ok : ti288.Ok prog 288 := ⟨Tryz.underlying288, by kernel_rfl⟩
theorem ti294_ok : ti294.Ok prog 294 := ⟨Tryz.underlying294, by kernel_rfl⟩
theorem ti296_ok : ti296.Ok prog 296 := ⟨Tryz.underlying296, by kernel_rfl⟩
theorem ti302_ok : ti302.Ok prog 302 := ⟨Tryz.underlying302, by kernel_rfl⟩
theorem ti304_ok : ti304.Ok prog 304 := ⟨Tryz.underlying304, by kernel_rfl⟩
theorem ti305_ok : ti305.Ok prog 305 := ⟨Tryz.underlying305, by kernel_rfl⟩
theorem ti312_ok : ti312.Ok prog 312 := ⟨Tryz.underlying312, by kernel_rfl⟩
theorem ti313_ok : ti313.Ok prog 313 := ⟨Tryz.underlying313, by kernel_rfl⟩
theorem ti317_ok : ti317.Ok prog 317 := ⟨Tryz.underlying317, by kernel_rfl⟩
theorem ti319_ok : ti319.Ok prog 319 := ⟨Tryz.underlying319, by kernel_rfl⟩
theorem ti321_ok : ti321.Ok prog 321 := ⟨Tryz.underlying321, by kernel_rfl⟩
theorem ti324_ok : ti324.Ok prog 324 := ⟨Tryz.underlying324, by kernel_rfl⟩
theorem ti326_ok : ti326.Ok prog 326 := ⟨Tryz.underlying326, by kernel_rfl⟩
theorem ti327_ok : ti327.Ok prog 327 := ⟨Tryz.underlying327, by kernel_rfl⟩
theorem ti329_ok : ti329.Ok prog 329 := ⟨Tryz.underlying329, by kernel_rfl⟩
theorem ti336_ok : ti336.Ok prog 336 := ⟨Tryz.underlying336, by kernel_rfl⟩
theorem ti337_ok : ti337.Ok prog 337 := ⟨Tryz.underlying337, by kernel_rfl⟩
theorem ti339_ok : ti339.Ok prog 339 := ⟨Tryz.underlying339, by kernel_rfl⟩
theorem ge:I.Ok prog:=⟨ti1_ok,ti3_ok,ti4_ok,ti5_ok,ti9_ok,ti22_ok,ti23_ok,ti25_ok,ti27_ok,ti28_ok,ti30_ok,ti31_ok,ti32_ok,ti34_ok,ti35_ok,ti37_ok,ti38_ok,ti41_ok,ti52_ok,ti54_ok,ti56_ok,ti58_ok,ti60_ok,ti61_ok,ti68_ok,ti69_ok,ti73_ok,ti74_ok,ti76_ok,ti79_ok,ti80_ok,ti91_ok,ti94_ok,ti96_ok,ti98_ok,ti100_ok,ti102_ok,ti118_ok,ti119_ok,ti121_ok,ti123_ok,ti126_ok,ti129_ok,ti130_ok,ti135_ok,ti139_ok,ti140_ok,ti148_ok,ti150_ok,ti151_ok,ti153_ok,ti155_ok,ti157_ok,ti158_ok,ti162_ok,ti164_ok,ti165_ok,ti169_ok,ti176_ok,ti178_ok,ti180_ok,ti181_ok,ti182_ok,ti184_ok,ti189_ok,ti194_ok,ti200_ok,ti203_ok,ti215_ok,ti216_ok,ti218_ok,ti219_ok,ti221_ok,ti224_ok,ti225_ok,ti227_ok,ti241_ok,ti242_ok,ti247_ok,ti250_ok,ti252_ok,ti262_ok,ti264_ok,ti267_ok,ti276_ok,ti277_ok,ti280_ok,ti286_ok,ti288_ok,ti294_ok,ti296_ok,ti302_ok,ti304_ok,ti305_ok,ti312_ok,ti313_ok,ti317_ok,ti319_ok,ti321_ok,ti324_ok,ti326_ok,ti327_ok,ti329_ok,ti336_ok,ti337_ok,ti339_ok,trivial⟩
theorem _root_.Go.Vc.zf {p : Prop} (h : p := by kernel_rfl) : p := h
theorem _root_.Go.Vc.zn {p : Prop} (h : p := by dsimp only [maxLen]; omega) : p := h
theorem _root_.Go.Vc.zp {p : Prop} (h : p := by simp [zq4]) : p := h
theorem _root_.Go.Vc.zb {p : Prop} (h : p := by unfold maxLen; omega) : p := h
theorem _root_.Go.Vc.zc {p : Prop} (h : p := by simp [zq4]; decide) : p := h
theorem _root_.Go.Vc.zh {p : Prop} (h : p := by rw [ue]; omega) : p := h
theorem _root_.Go.Vc.zj {p : Prop} (h : p := by rw [gm]; rfl) : p := h
section
variable {f : Fs} {w : World}
theorem kg {o:Array Oper} {y:Code} {Q:vn} {l:List Oper} {e e2:Env} (h0:pevs I f.n l e=some ([],e2)) (k0:WC Tryz.prog f y Q e2 w):WL Tryz.prog f o (Exit.then (Code.wp Tryz.prog y Q) Q) l e w:=j6 ge h0 (gl (jq k0))
theorem qr {i:Nat} {l:List Oper} {y:Code} {Q:vn} {e:Env} (k0:WL Tryz.prog f l.toArray (Exit.then (Code.wp Tryz.prog y Q) Q) l e w):WC Tryz.prog f (.seq (.region i l.toArray false) y) Q e w:=gp (j1 k0)
theorem qj {i:Nat} {l m:List Oper} {y:Code} {Q:vn} {e d:Env} (h0:pevs I f.n l e=some (m,d)) (k0:WL Tryz.prog f l.toArray (Exit.then (Code.wp Tryz.prog y Q) Q) m d w):WC Tryz.prog f (.seq (.region i l.toArray false) y) Q e w:=gp (j1 (j6 ge h0 k0))
theorem kw {i:Nat} {l:List Oper} {y:Code} {Q:vn} {e e2:Env} (h0:pevs I f.n l e=some ([],e2)) (k0:WC Tryz.prog f y Q e2 w):WC Tryz.prog f (.seq (.region i l.toArray false) y) Q e w:=gp (j1 (j6 ge h0 (gl (jq k0))))
theorem yy {i:Nat} {l m:List Oper} {Q:vn} {e d:Env} (h0:pevs I f.n l e=some (m,d)) (k0:WL Tryz.prog f l.toArray Q m d w):WC Tryz.prog f (.region i l.toArray false) Q e w:=j1 (j6 ge h0 k0)
theorem Bh {i:Nat} {K K2:Act->World->Prop} {y:Code} {Q:vn} {e:Env} (k0:WC Tryz.prog f y Q e w):WC Tryz.prog f (.exit i) (Exit.then K (Exit.then K2 (Exit.inBlock i (Exit.then (Code.wp Tryz.prog y Q) Q)))) e w:=xt (qs (qs (ux (jq k0))))
theorem u3 {o:Array Oper} {y:Code} {Q:vn} {e:Env} (k0:WC Tryz.prog f y Q e w):WL Tryz.prog f o (Exit.then (Code.wp Tryz.prog y Q) Q) [] e w:=gl (jq k0)
theorem Bn {i:Nat} {c y:Code} {Q:vn} {e:Env} (k0:WC Tryz.prog f c (Exit.inBlock i (Exit.then (Code.wp Tryz.prog y Q) Q)) e w):WC Tryz.prog f .skip (Exit.then (Code.wp Tryz.prog (.seq (.block i c) y) Q) Q) e w:=qf (jq (gp (j8 k0)))
theorem Bi {i i2:Nat} {l m:List Oper} {Q:vn} {e d:Env} (h0:pevs I f.n l e=some (m,d)) (k0:WL Tryz.prog f l.toArray Q m d w):Fin f (Exit.inBlock i (Exit.then (Code.wp Tryz.prog (.region i2 l.toArray false) Q) Q)) .normal e w:=jr (jq (j1 (j6 ge h0 k0)))
theorem xg {y : Code} {Q : vn} {e : Env} (k0 : WC Tryz.prog f y Q e w) : WC Tryz.prog f .skip (Exit.then (Code.wp Tryz.prog y Q) Q) e w := qf (jq k0)
theorem vo {i:Nat} {l:List Oper} {x y:Code} {Q:vn} {e e2:Env} (h0:pevs I f.n l e=some ([],e2)) (k0:WC Tryz.prog f x (Exit.then (Code.wp Tryz.prog y Q) Q) e2 w):WC Tryz.prog f (.seq (.region i l.toArray false) (.seq x y)) Q e w:=gp (j1 (j6 ge h0 (gl (jq (gp k0)))))
end
theorem _root_.Go.Vc.qc (n : Int) (h : -9223372036854775808 <= n /\ n <= 9223372036854775807) : IntKind.i64.wrap n = n := IntWalk.i64_in n h
section
variable {f : Fs} {ops : Array Oper} {Q : vn} {rest : List Oper} {o : Oper} {env : Env} {w : World}
theorem gt {t d:Nat} {v:Value} (h:alE I f.n ops env o=some (t,v,d)) (k:∀(b:Nat) w',w.heap.size<=b->j0 w' b t (cellsOf v)->Ext No w w'->WL prog f ops Q rest ((d,.pointer (some ⟨b,0,none⟩))::env) w'):WL prog f ops Q (o::rest) env w:=wl (Dg ge h k)
theorem gx {b off d:Nat} {v:Value} (h:ldE I f.n ops env o=some (b,off,none,d)) (hc:w.cell? ⟨b,off,none⟩=some v) (k:WL prog f ops Q rest ((d,v)::env) w):WL prog f ops Q (o::rest) env w:=wl (st_ld ge h hc k)
theorem jd {b off d:Nat} {v:Value} {T:Nat} {l:List Value} (hb:j0 w b T l) (h:ldE I f.n ops env o=some (b,off,none,d)) (hv:nth l off=some v) (k:WL prog f ops Q rest ((d,v)::env) w):WL prog f ops Q (o::rest) env w:=wl (st_ldb ge hb h hv k)
theorem jf {b m d:Nat} {T:Nat} {l:List Value} (hb:j0 w b T l) (h:ldE I f.n ops env o=some (b,0,some m,d)) (hl:l.length=m) (k:WL prog f ops Q rest ((d,.agg l.toArray)::env) w):WL prog f ops Q (o::rest) env w:=wl (st_ldB ge hb h hl k)
theorem jk {b off m d:Nat} {l:List Value} (h:ldE I f.n ops env o=some (b,off,some m,d)) (hs:Seg w b off l) (hl:l.length=m) (k:WL prog f ops Q rest ((d,.agg l.toArray)::env) w):WL prog f ops Q (o::rest) env w:=wl (st_ldN ge h hs hl k)
theorem ki {b off len sz d:Nat} {i:Int} (h:ixE I f.n ops env o=some (b,off,len,sz,i,d)) (ss:Nat) (hss:sz=ss) (j:Nat) (hj:i=(j:Int)) (hlt:j<len) (q:Nat) (hq:q=off+j*ss) (k:WL prog f ops Q rest ((d,.pointer (some ⟨b,q,none⟩))::env) w):WL prog f ops Q (o::rest) env w:=wl (st_ix ge h ss hss j hj hlt q hq k)
theorem qk {b off T:Nat} {v:Value} {l l':List Value} (hb:j0 w b T l) (h:stE I f.n ops env o=some (b,off,1,v)) (hv:flat v=true) (hl:setF l off v=some l') (k:∀w',j0 w' b T l'->Ext (One b) w w'->w'.heap.size=w.heap.size->WL prog f ops Q rest env w'):WL prog f ops Q (o::rest) env w:=wl (yo ge hb h hv hl k)
theorem u1 {d:Nat} {z l':List Value} {q:Parts} (h:bdE I f.n ops env o=some (z,q,d)) (hok:zq4 z.length q) (hl:ym z q=l') (k:WL prog f ops Q rest ((d,.agg l'.toArray)::env) w):WL prog f ops Q (o::rest) env w:=wl (st_bd ge h hok hl k)
end
end Go.Proofs.YtpdiphfjmepijaaGreatDoor
namespace Go.Vc
variable {P : Program} {f : Fs} {Q : vn} {env : Env} {w : World}
theorem c_scopeJ {x y:Code} {α:Type} (l:Nat) (hf:findLabel (.seq x (.seq (.label l) y)) l=some (.seq .skip y)) (I:α->World->Prop) (E:α->Env) (μ:α->World->Nat)
  (first:WC P f x (Exit.then (λa w=>∃z,Ag f (E z) a/\I z w) (Exit.noGoto Q)) env w)
  (round:∀z w,I z w->WC P f y (Exit.jump l (λa' w'=>∃z',Ag f (E z') a'/\I z' w'/\μ z' w'<μ z w) Q) (E z) w):
  WC P f (.scope (.seq x (.seq (.label l) y))) Q env w:=by
 intro a G b k t;have F:gotoIn l (.inScope (.seq x (.seq (.label l) y))::k)=some (.code (.seq .skip y):: .inScope (.seq x (.seq (.label l) y))::k):=by simp only[gotoIn,hf]
 have u:∀n z a w,μ z w=n->I z w->Ag f (E z) a->∃e a' w',Q e a' w'/\Arrives P (lone (b.at a (.code (.seq .skip y):: .inScope (.seq x (.seq (.label l) y))::k)) t w) b k t e a' w':=by
  intro n;induction n using Nat.strongRecOn with
  |_ n ih=>
   intro z a w M s m;have H:(Code.seq .skip y).wp P (Exit.jump l (λa' w'=>∃z',Ag f (E z') a'/\I z' w'/\μ z' w'<μ z w) Q) a w:=wp_seq (wp_skip (round z w s a m));obtain⟨e,g,i,j,c⟩:=H b (.inScope (.seq x (.seq (.label l) y))::k) t;cases e with
   |normal=>exact⟨.normal,g,i,j,Steps.trans c (.one step_inScope)⟩
   |exit id=>exact⟨.exit id,g,i,j,λv A=>c v (by simp[exitTo,A])⟩
   |goto l'=>
    obtain⟨rfl,z',o,q,J⟩:=j;obtain⟨B,C,D,r,d⟩:=ih _ zk z' g i Z q o;exact⟨B,C,D,r,.of_steps (c _ F) d⟩
   |ret=>exact⟨_,g,i,j,c⟩
   |panic ch=>exact⟨_,g,i,j,c⟩
   |outgrown=>exact⟨_,g,i,j,c⟩
 have p:(Code.seq x (.seq (.label l) y)).wp P (Exit.jump l (λa' w'=>∃z',Ag f (E z') a'/\I z' w') Q) a w:=by
  refine wp_seq (wp_mono (first a G) λe a' w' h=>?_);cases e with
  |normal=>
   obtain⟨z,m,s⟩:=h;refine wp_seq (wp_label (wp_mono (round z w' s a' m) λe K L h=>?_));cases e with
   |goto l'=>obtain⟨rfl,z',o,q,_⟩:=h;exact⟨Z,z',o,q⟩
   |normal=>exact h
   |exit id=>exact h
   |ret=>exact h
   |panic ch=>exact h
   |outgrown=>exact h
  |goto l'=>exact h.elim
  |exit id=>exact h
  |ret=>exact h
  |panic ch=>exact h
  |outgrown=>exact h
 obtain⟨e,g,i,j,c⟩:=p b (.inScope (.seq x (.seq (.label l) y))::k) t;cases e with
 |normal=>exact⟨.normal,g,i,j,.head step_scope (Steps.trans c (.one step_inScope))⟩
 |exit id=>exact⟨.exit id,g,i,j,λv A=> .head step_scope (c v (by simp[exitTo,A]))⟩
 |goto l'=>
  obtain⟨rfl,z,m,s⟩:=j;obtain⟨B,C,D,r,d⟩:=u _ z g i Z s m;exact⟨B,C,D,r,.of_steps (.head step_scope (c _ F)) d⟩
 |ret=>exact⟨_,g,i,j,.of_steps (.one step_scope) c⟩
 |panic ch=>exact⟨_,g,i,j,.of_steps (.one step_scope) c⟩
 |outgrown=>exact⟨_,g,i,j,.of_steps (.one step_scope) c⟩
theorem f_first {α:Type} {I:α->World->Prop} {E:α->Env} (z:α) (hs:SubE (E z) env) (hI:I z w):Fin f (Exit.then (λa w=>∃z,Ag f (E z) a/\I z w) (Exit.noGoto Q)) .normal env w:=
 λ_ ha=>⟨z,ha.sub hs.subs,hI⟩
theorem f_back {α:Type} {l:Nat} {I:α->World->Prop} {E:α->Env} {μ:α->World->Nat} {m:Nat} (z:α) (hs:SubE (E z) env) (hI:I z w) (hm:μ z w<m):
  Fin f (Exit.jump l (λa' w'=>∃z',Ag f (E z') a'/\I z' w'/\μ z' w'<m) Q) (.goto l) env w:=
 λ_ ha=>⟨Z,z,ha.sub hs.subs,hI,hm⟩
theorem f_jumpN {l : Nat} {J : Act -> World -> Prop} (h : Fin f Q .normal env w) : Fin f (Exit.jump l J Q) .normal env w := λa ha => h a ha
theorem f_thenG {K : Act -> World -> Prop} {l : Nat} (h : Fin f Q (.goto l) env w) : Fin f (Exit.then K Q) (.goto l) env w := λa ha => h a ha
section
variable {P : Program} {I : uh} {f : Fs} {ops : Array Oper} {o : Oper} {env : Env} {w : World} {K : Env -> World -> Prop}
def rowsA (k : IntKind) (L : List (List Int)) : List Value := (L.map λr => r.map (Value.int k)).flatten
theorem ov_eqA {I:uh} {w:World} (hI:I.Ok P) {t m d:Nat} {k:IntKind} {n:Nat} {q:Bool} {a b:Value} (h:eqE I n ops env o=some (t,m,k,q,a,b,d)) (hgd:P.eqGuardType P.depth t=false) {xs ys:List Int} (ha:a=Dm k xs) (hb:b=Dm k ys) (h1:xs.length=m) (h2:ys.length=m):
  Ov P o env w (.bool (decide (if q then xs=ys else xs≠ys))) w:=by
 unfold eqE at h;split at h;cases h;rename_i J;split at h;rename_i K L;split at h;rename_i p v x y u C;split at h;rename_i g E;split at h;rename_i r e F;split at h;rename_i M z;split at h;rename_i s G;split at h;rename_i A;split at h;rename_i N f;split at h;rename_i O i;have j:∀w:World,(Op.equal v (Dm s xs) (Dm s ys)).run P w= .ok (decide (xs=ys)) w\/¬(xs.length=r/\ys.length=r):=λw=>by by_cases hl:xs.length=r/\ys.length=r;exact .inl (run_eqA hI E F z G A xs ys hl.1 hl.2 w);exact .inr hl
 have D:∀p,v=t->(eqGuard p v x y (Dm s xs) (Dm s ys)).run P w= .ok () w:=λp H=>by subst H;unfold eqGuard Dm;cases p<;>simp[hgd]
 split at h;cases h;subst ha;subst hb;have c:=(j w).resolve_right (λB=>B ⟨h1,h2⟩);intro Q l;simp only[execOp,C,l _ _ f,l _ _ i,Sem.run_bind,D .eql Z,aD];show((do pure (Value.bool (<-Op.equal t (Dm k xs) (Dm k ys))):Sem Value).run P w).andThen _=_;rw[Sem.run_bind,c];rfl;cases h;subst ha;subst hb;have c:=(j w).resolve_right (λB=>B ⟨h1,h2⟩);intro Q l;simp only[execOp,C,l _ _ f,l _ _ i,Sem.run_bind,D .neq Z,aD];show((do pure (Value.bool (!(<-Op.equal t (Dm k xs) (Dm k ys)))):Sem Value).run P w).andThen _=_;rw[Sem.run_bind,c];simp;cases h;cases h;cases h;cases h;cases h;cases h;cases h;cases h;cases h;cases h
theorem eqE_pre {I:uh} {n t m d:Nat} {k:IntKind} {q:Bool} {a b:Value} (h:eqE I n ops env o=some (t,m,k,q,a,b,d)):pre n ops env o=true/\o.dst=some d:=by
 unfold eqE at h;split at h;case h_1=>cases h
 rename_i f;refine⟨f,?_⟩;split at h;case h_2=>cases h
 rename_i i g;rw[g];split at h;case h_2=>cases h
 split at h;case h_2=>cases h
 split at h;case h_2=>cases h
 split at h;case h_2=>cases h
 split at h;case h_2=>cases h
 split at h;case h_2=>cases h
 split at h;case h_2=>cases h
 split at h;case h_2=>cases h
 split at h;cases h;rfl;cases h;rfl;cases h
theorem wd_eqA {K:Act->World->Prop} (hI:I.Ok P) {r:Dr} {i:Nat} {o:Oper} {pl:List (Nat×Bool)} {dn:List Nat} (ho:ops[i]? =some o) {t m d:Nat} {k:IntKind} {q:Bool} {a b:Value} (h:eqE I f.n ops env o=some (t,m,k,q,a,b,d)) (hgd:P.eqGuardType P.depth t=false) {xs ys:List Int} (ha:a=Dm k xs) (hb:b=Dm k ys) (h1:xs.length=m) (h2:ys.length=m)
  (kk:WD P f ops K r pl (i::dn) ((d,.bool (decide (if q then xs=ys else xs≠ys)))::env) w):WD P f ops K r ((i,true)::pl) dn env w:=by
 obtain⟨c,e⟩:=eqE_pre h;exact wd_q ho c e (λg _=>ov_eqA hI h hgd ha hb h1 h2) kk
end
class OneC (l : List Value) : Prop where
  h : ∀ u ∈ l, u.oneCell' = true
instance : OneC [] := ⟨λ_ h => by cases h⟩
theorem OneC.cons {v:Value} {l:List Value} (hv:v.oneCell'=true) (hl:OneC l):OneC (v::l):=⟨λu a=>by
 rcases List.mem_cons.1 a with rfl|a
 ·exact hv
 exact hl.h u a⟩
instance (k : IntKind) (n : Int) (l : List Value) [h : OneC l] : OneC (.int k n :: l) := .cons Z h
instance (b : Bool) (l : List Value) [h : OneC l] : OneC (.bool b :: l) := .cons Z h
instance (s : ByteArray) (l : List Value) [h : OneC l] : OneC (.string s :: l) := .cons Z h
instance (p : Option Addr) (l : List Value) [h : OneC l] : OneC (.pointer p :: l) := .cons Z h
instance (p : Option Addr) (n c : Nat) (l : List Value) [h : OneC l] : OneC (.slice p n c :: l) := .cons Z h
instance (p : Option Nat) (l : List Value) [h : OneC l] : OneC (.map p :: l) := .cons Z h
instance (a b : List Value) [ha : OneC a] [hb : OneC b] : OneC (a ++ b) := ⟨λu hu => (aS.1 hu).elim (ha.h u) (hb.h u)⟩
instance (k : IntKind) (xs : List Int) : OneC (xs.map (Value.int k)) := ⟨λu hu => by obtain ⟨x, _, rfl⟩ := aZ.1 hu; rfl⟩
instance (xs : List Bool) : OneC (xs.map Value.bool) := ⟨λu hu => by obtain ⟨x, _, rfl⟩ := aZ.1 hu; rfl⟩
instance (xs : List ByteArray) : OneC (xs.map Value.string) := ⟨λu hu => by obtain ⟨x, _, rfl⟩ := aZ.1 hu; rfl⟩
def pevsN (I : uh) (n : Nat) (ops : Array Oper) : Nat -> List Oper -> Env -> Option (List Oper × Env)
  | 0, l, env => some (l, env)
  | _ + 1, [], env => some ([], env)
  | k + 1, o :: r, env => match passes ops env o with
    | true => match yj3 n o.dst undef env with
      | some env' => pevsN I n ops k r env'
      | none => none
    | false => match takes ops env o with
      | false => none
      | true => match pev I o.op env with
        | none => none
        | some v => match yj3 n o.dst v env with
          | some env' => pevsN I n ops k r env'
          | none => none
theorem j4 {P:Program} {I:uh} {f:Fs} {ops:Array Oper} {Q:vn} {env:Env} {w:World} (hI:I.Ok P) (n:Nat) {l l':List Oper} {env':Env} (h:pevsN I f.n ops n l env=some (l',env')) (k:WL P f ops Q l' env' w):WL P f ops Q l env w:=by
 induction n generalizing env l with
 |zero=>simp[pevsN] at h;obtain⟨rfl,rfl⟩:=h;exact k
 |succ n ih=>
  cases l with
  |nil=>simp[pevsN] at h;obtain⟨rfl,rfl⟩:=h;exact k
  |cons o r=>
   simp only[pevsN] at h;split at h;rename_i c;split at h;rename_i e a;obtain⟨b,rfl⟩:=As a;exact wl (st_pass c b (ih h));cases h;split at h;cases h;rename_i d;split at h;cases h;rename_i v g;split at h;rename_i e a;obtain⟨b,rfl⟩:=As a;exact wl (yt d b (Aw hI g w) (ih h));cases h
theorem gn.same {P:Program} {g:FuncId} {args:List Value} {w:World} {R:Value->Prop} (h:gn P g args w λv w'=>R v/\w'=w):gn P g args w λv w'=>R v/\Ext No w w':=
 h.mono λ_ _ ⟨h1,h2⟩=>⟨h1,h2▸Ext.refl _ _⟩
end Go.Vc
