/-
  Walks and laws towards: the bytes of batches, and the batch of whatever bytes (StoreCodes)
-/
import Derived.WalkKit
import Derived.Scope
import Derived.Orders
import Derived.Below
import Derived.OwnWalk
import Derived.Still
import Derived.Test.YtpdiphfjmepijaaGreatDoorProg
import Derived.KernelRfl
import Derived.ScopeJumps
open List renaming mem_map→bN,getElem?_toArray→bT,getElem?_eq_none→cD,getElem?_map→cE,getElem?_append_right→cJ,getElem?_cons_zero→cN,getElem?_append_left→cT,flatten_cons→dB,all_eq_true→dH,mem_cons_of_mem→dJ,map_cons→dL,mem_of_mem_drop→dO,mem_of_getElem?→dP
open Bool renaming and_eq_true→bV
open Int renaming toNat_natCast→cC,natCast_nonneg→dN
open Array renaming getD_eq_getD_getElem?→cF,ext'→cH,getElem?_eq_none→cI,getElem?_eq_some_iff→cL,getElem?_setIfInBounds_ne→dC
open Nat renaming add_mul→cQ,le_of_ble_eq_true→dD,eq_of_beq_eq_true→dE
namespace Go.Vc
theorem aA:∀{n m k:Nat},n≤m→m≤k→n≤k:=@Nat.le_trans
theorem aB:∀{α:Type _}{s bs:List α},(s++bs).length=s.length+bs.length:=@List.length_append
theorem aC:∀{p:Prop}{_:Decidable p},decide p=false↔¬p:=@decide_eq_false_iff_not
theorem aD:∀(n:Nat),n≤n:=@Nat.le_refl
theorem aE:∀{α:Type _}{β:Type _}{s:List α}(f:α→β),(List.map f s).length=s.length:=@List.length_map
theorem aF:∀{α β:Type}(a:α)(w:World)(f:α→World→Result β),(Result.ok a w).andThen f=f a w:=@Result.andThen_ok
theorem aG:∀{α:Type _}{l:List α}{n:Nat}(h:n<l.length),l[n]∈l:=@List.getElem_mem
theorem aH:∀{p q:Prop}{_:Decidable p}{_:Decidable q},decide p=decide q↔(p↔q):=@decide_eq_decide
theorem aI:∀{α:Type _}{a b:α},a∈[b]↔a=b:=@List.mem_singleton
theorem aJ:∀(n:Nat),0≤n:=@Nat.zero_le
theorem aK:∀{α β:Type}(P:Program)(w:World)(x:Sem α)(f:α→Sem β),Sem.run P (x >>=f) w=(Sem.run P x w).andThen fun a w'=> Sem.run P (f a) w':=@Sem.run_bind
theorem aL:∀{α:Type _}{i:Nat}{l:List α},(List.take i l).length=min i l.length:=@List.length_take
theorem aM:∀{n m k:Nat},n<m→m≤k→n<k:=@Nat.lt_of_lt_of_le
theorem aN:∀{α:Type _}{l:List α}{i:Nat}(h:i<l.length),l[i]?=some l[i]:=@List.getElem?_eq_getElem
theorem aO:∀{α:Type _}{i:Nat}{l:List α},l.length≤i→List.take i l=l:=@List.take_of_length_le
theorem aP:∀{c:Prop}{_:Decidable c},¬c→∀{α:Sort _}{t e:α},(if c then t else e)=e:=@if_neg
theorem aQ:∀{α:Type _}{i:Nat}{l:List α}(h:i<l.length),List.take (i+1) l=List.take i l++[l[i]]:=@List.take_succ_eq_append_getElem
theorem aR:∀{c:Prop}{_:Decidable c},c→∀{α:Sort _}{t e:α},(if c then t else e)=t:=@if_pos
theorem aS:∀{p:Prop}[Decidable p],¬¬p↔p:=@Decidable.not_not
theorem aT:∀{α:Type}(P:Program)(w:World)(a:α),Sem.run P (pure a) w=Result.ok a w:=@Sem.run_pure
theorem aU:∀{p:Prop}[Decidable p],(decide p=true)=p:=@decide_eq_true_eq
theorem aV:∀{α:Type _}(s bs cs:List α),s++bs++cs=s++(bs++cs):=@List.append_assoc
theorem aW:∀{α:Type _}{a:α}{s:List α},(a::s).length=s.length+1:=@List.length_cons
theorem aX:∀{α:Type _}{i:Nat}{l:List α},(List.drop i l).length=l.length - i:=@List.length_drop
theorem aY:∀{α:Type _}{a:α}{s t:List α},a∈s++t↔a∈s∨a∈t:=@List.mem_append
theorem aZ:∀{α:Type _}{l:List α},l.length=0→l=[]:=@List.eq_nil_of_length_eq_zero
theorem bB:∀(n:Nat),n - 0=n:=@Nat.sub_zero
theorem bD:∀(n:Nat),0+n=n:=@Nat.zero_add
theorem bE:∀(n:Nat),n*1=n:=@Nat.mul_one
theorem bF:∀(n m:Nat),n<m∨n≥m:=@Nat.lt_or_ge
theorem bG:∀{α:Type _}(val val_1:α),(some val=some val_1)=(val=val_1):=@Option.some.injEq
theorem bH:∀{α:Type _}{i:Nat}{a:α}{l:List α},a∈List.take i l→a∈l:=@List.mem_of_mem_take
theorem bI:(false=true)=False:=@Bool.false_eq_true
theorem bK:∀{α:Type _}(s:List α),s++[]=s:=@List.append_nil
theorem bL:∀{n m k:Nat},n≤m→m<k→n<k:=@Nat.lt_of_le_of_lt
theorem bM:∀{α:Type _}{s:List α}{i:Nat},s.length≤i→List.drop i s=[]:=@List.drop_eq_nil_of_le
theorem bO:∀{p:Prop}[Decidable p],¬p→decide p=false:=@decide_eq_false
theorem bP:∀{a b:Nat},a≤b→min a b=a:=@Nat.min_eq_left
theorem bQ:∀{p:Prop}[Decidable p],p→decide p=true:=@decide_eq_true
theorem bW:∀(n:Nat),¬n<0:=@Nat.not_lt_zero
theorem bY:∀{α:Type _}{i:Nat}{l:List α}(h:i<l.length),List.drop i l=l[i]::List.drop (i+1) l:=@List.drop_eq_getElem_cons
theorem bZ:∀{α:Type _}{l:List α},List.take l.length l=l:=@List.take_length
theorem cB:∀{α:Type _}(s:List α),[]++s=s:=@List.nil_append
theorem cG:∀{α:Type _}{val val_1:α},some val=some val_1→val=val_1:=@Option.some.inj
theorem cK:∀{α:Type _}{l:List α}{i:Nat}{a:α},l.getD i a=l[i]?.getD a:=@List.getD_eq_getElem?_getD
theorem cM:∀{n m:Nat}(k:Nat),n≤m→n*k≤m*k:=@Nat.mul_le_mul_right
theorem cO:∀{α:Sort _}{_:Decidable True}(t e:α),(if True then t else e)=t:=@if_true
theorem cP:∀{α:Type _}{β:Type _}(fst:α)(snd:β)(fst_1:α)(snd_1:β),((fst,snd)=(fst_1,snd_1))=(fst=fst_1∧snd=snd_1):=@Prod.mk.injEq
theorem cR:∀{n:Nat},n > 0→∀{i j:Nat},i≤j→n ^ i≤n ^ j:=@Nat.pow_le_pow_right
theorem cS:∀{α:Type _}(i:Nat)(l:List α),List.take i l++List.drop i l=l:=@List.take_append_drop
theorem cU:∀(n:Int),0≤n∧n≤18446744073709551615→IntKind.u64.wrap n=n:=@IntWalk.u64_in
theorem cW:∀(n:Nat),0*n=0:=@Nat.zero_mul
theorem cX:∀{α:Sort _}{_:Decidable False}(t e:α),(if False then t else e)=e:=@if_false
theorem zd {p:Prop} (h:p:=by decide):p:=h
theorem zo {p:Prop} (h:p:=by omega):p:=h
theorem zf {p:Prop} (h:p:=by first|omega|(dsimp only;omega)):p:=h
theorem zn {p:Prop} (h:p:=by dsimp only;omega):p:=h
theorem zp {p:Prop} (h:p:=by simp):p:=h
theorem zq {p:Prop} (h:p:=by decide+kernel):p:=h
theorem zc {p:Prop} (h:p:=by simp;omega):p:=h
theorem ze {p:Prop} (h:p:=by simp only[aW];omega):p:=h
theorem zi {p:Prop} (h:p:=by rw[aB];rfl):p:=h
theorem zl {p:Prop} (h:p:=by rw[aL];omega):p:=h
theorem za {p:Prop} (h:p:=by rw[aX];omega):p:=h
theorem j2 {a b c:Nat} (h:a<b) (k:b≤c):a≠c:=Nat.ne_of_lt (aM h k)
abbrev qP (i:Nat):Nat×Bool:=(i,true)
abbrev Env:=List (Nat×Value)
def lk:Env→Nat→Option Value
  | [],_=>none
  |(j,v)::r,i=>match Nat.beq j i with
    |true=>some v
    |false=>lk r i
def xh (env:Env):Operand→Option Value
  | .tmp t=>lk env t
  | .const v=>some v
  | .global g=>some (.pointer (some ⟨g,0,none⟩))
  | .func f=>some (.func (.func f) #[] #[])
def pushE (dst:Option Tmp) (v:Value) (env:Env):Env:=
  match dst with
  |some d=>(d,v)::env
  |none=>env
def dOk (n:Nat) (dst:Option Tmp):Bool:=
  match dst with
  |some d=>Nat.blt d n
  |none=>true
structure Fs where
  n:Nat
  ds:List Deferred
structure Ag (f:Fs) (env:Env) (a:Act):Prop where
  defers:a.defers=f.ds
  size:a.tmps.size=f.n
  get:∀i v,lk env i=some v→a.tmps[i]? =some v
theorem yx9 (j:Nat) (v:Value) (r:Env) (i:Nat):lk ((j,v)::r) i=if j=i then some v else lk r i:=by
 show(match Nat.beq j i with|true=>some v|false=>lk r i)=_
 by_cases h:j=i
 ·subst h;rw[aR rfl,Nat.beq_refl]
 have:Nat.beq j i=false:=by
  cases hb:Nat.beq j i with
  |true=>exact absurd (dE hb) h
  |false=>rfl
 rw[aP h,this]
theorem Ag.eval {f:Fs} {env:Env} {a:Act} (h:Ag f env a) {x:Operand} {v:Value} (hx:xh env x=some v):a.eval x=v:=by
 cases x with
 |tmp t=>
  have:=h.get t v hx
  simp[Act.eval,this]
 |const u=>simpa [xh,Act.eval] using hx
 |global g=>simpa [xh,Act.eval] using hx
 |func g=>simpa [xh,Act.eval] using hx
theorem Ag.put {f:Fs} {env:Env} {a:Act} (h:Ag f env a) {dst:Option Tmp} {v:Value} (hd:dOk f.n dst=true):Ag f (pushE dst v env) (a.put dst v):=by
 cases dst with
 |none=>exact h
 |some d=>
  have c:d<f.n:=by simpa [dOk] using hd
  refine⟨h.defers,by simp[Act.put,h.size],fun i u b=> ?_⟩
  simp only[pushE,yx9] at b
  simp only[Act.put]
  by_cases hdi:d=i
  ·subst hdi
   simp at b
   subst b
   simp[h.size,c]
  simp[hdi] at b
  rw[dC hdi]
  exact h.get i u b
def Subs:Env→Env→Prop
  | [],_=>True
  |(j,v)::r,e=>lk e j=some v∧Subs r e
theorem Subs.lk {e e':Env}:Subs e' e→∀i v,Vc.lk e' i=some v→Vc.lk e i=some v:=by
 induction e' with
 |nil=>intro _ i v h;simp[Vc.lk] at h
 |cons p r ih=>
  obtain⟨j,u⟩:=p
  intro hs i v h
  rw[yx9] at h
  by_cases hji:j=i
  ·subst hji
   simp at h
   subst h
   exact hs.1
  simp[hji] at h
  exact ih hs.2 i v h
theorem Ag.sub {f:Fs} {env env':Env} {a:Act} (h:Ag f env a) (hs:Subs env' env):Ag f env' a:=
 ⟨h.defers,h.size,fun i v hi=>h.get i v (hs.lk i v hi)⟩
def pick (env:Env):List Nat→Option Env
  | []=>some []
  |i::r=>match lk env i with
    |some v=>match pick env r with
      |some e=>some ((i,v)::e)
      |none=>none
    |none=>none
theorem pick_subs {env:Env}:∀{ls:List Nat} {env':Env},pick env ls=some env'→Subs env' env
 | [],env',h=>by simp[pick] at h;subst h;trivial
 |i::r,env',h=>by
  simp only[pick] at h
  split at h
  ·rename_i v hv
   split at h
   ·rename_i e he
    simp at h;subst h
    exact⟨hv,pick_subs he⟩
   simp at h
  simp at h
abbrev vd:=Exit→Act→World→Prop
def WL (P:Program) (f:Fs) (ops:Array Oper) (Q:vd) (l:List Oper) (env:Env) (w:World):Prop:=∀a,Ag f env a→wpList P ops Q l a w
def WC (P:Program) (f:Fs) (c:Code) (Q:vd) (env:Env) (w:World):Prop:=∀a,Ag f env a→c.wp P Q a w
def Fin (f:Fs) (Q:vd) (e:Exit) (env:Env) (w:World):Prop:=∀a,Ag f env a→Q e a w
section code
variable {P:Program} {f:Fs} {Q:vd} {env:Env} {w:World}
theorem gl {x y:Code} (h:WC P f x (Exit.then (y.wp P Q) Q) env w):WC P f (.seq x y) Q env w:=fun a ha=>wp_seq (h a ha)
theorem kc (h:Fin f Q .normal env w):WC P f .skip Q env w:=fun a ha=>wp_skip (h a ha)
theorem c_label {l:Nat} (h:Fin f Q .normal env w):WC P f (.label l) Q env w:=fun a ha=>wp_label (h a ha)
theorem y8 {id:Nat} (h:Fin f Q (.exit id) env w):WC P f (.exit id) Q env w:=fun a ha=>wp_exit (h a ha)
theorem c_goto {l:Nat} (h:Fin f Q (.goto l) env w):WC P f (.goto l) Q env w:=fun a ha=>wp_goto (h a ha)
theorem j9 (h:Fin f Q .ret env w):WC P f .ret Q env w:=fun a ha=>wp_ret (h a ha)
theorem j8 {id:Nat} {c:Code} (h:WC P f c (Exit.inBlock id Q) env w):WC P f (.block id c) Q env w:=fun a ha=>wp_block (h a ha)
theorem c_scope {c:Code} (h:WC P f c (Exit.noGoto Q) env w):WC P f (.scope c) Q env w:=fun a ha=>wp_scope_straight (h a ha)
theorem gy {id:Nat} {l:List Oper} (h:WL P f l.toArray Q l env w):WC P f (.region id l.toArray false) Q env w:=fun a ha=>wp_region_lit (h a ha)
theorem ud {c:Operand} {x y:Code} {b:Bool} (hc:xh env c=some (.bool b)) (ht:b=true→WC P f x Q env w) (hf:b=false→WC P f y Q env w):WC P f (.cond c x y) Q env w:=
 fun a ha=>wp_cond_split (ha.eval hc) (fun h=>ht h a ha) (fun h=>hf h a ha)
theorem Cl {c:Operand} {x y:Code} (hc:xh env c=some (.bool true)) (ht:WC P f x Q env w):WC P f (.cond c x y) Q env w:=
 fun a ha=>wp_cond_true (ha.eval hc) (ht a ha)
theorem up {c:Operand} {x y:Code} (hc:xh env c=some (.bool false)) (ht:WC P f y Q env w):WC P f (.cond c x y) Q env w:=
 fun a ha=>wp_cond_false (ha.eval hc) (ht a ha)
theorem jl {c:Operand} {x y:Code} {p:Prop} [Decidable p] (hc:xh env c=some (.bool (decide p))) (ht:p→WC P f x Q env w) (hf:¬p→WC P f y Q env w):WC P f (.cond c x y) Q env w:=
 ud hc (fun h=>ht (of_decide_eq_true h)) (fun h=>hf (of_decide_eq_false h))
def SubE (e env:Env):Prop:=pick env (e.map Prod.fst)=some e
theorem SubE.subs {e env:Env} (h:SubE e env):Subs e env:=pick_subs h
theorem c_cut {x y:Code} {α:Type} (J:α→World→Prop) (E:α→Env)
  (hx:WC P f x (Exit.then (fun a w=>∃z,Ag f (E z) a∧J z w) Q) env w) (hy:∀z w',J z w'→WC P f y Q (E z) w'):WC P f (.seq x y) Q env w:=
 fun a ha=>wp_seq (wp_mono (hx a ha) fun e a' w' h=>by
  cases e<;>first|(obtain⟨z,hz,hJ⟩:=h;exact hy z w' hJ a' hz)|exact h)
theorem ji {x y:Code} {α:Type} (ls:List Nat) {env0:Env} (hp:pick env ls=some env0) (C:α→Env) (J:α→World→Prop)
  (hx:WC P f x (Exit.then (fun a w=>∃z,Ag f (C z++env0) a∧J z w) Q) env w) (hy:∀z w',J z w'→WC P f y Q (C z++env0) w'):WC P f (.seq x y) Q env w:=
 have _:=hp
 c_cut J (fun z=>C z++env0) hx hy
theorem gr {α:Type} {J:α→World→Prop} {E:α→Env} (z:α) (hs:SubE (E z) env) (hJ:J z w):Fin f (Exit.then (fun a w=>∃z,Ag f (E z) a∧J z w) Q) .normal env w:=
 fun _ ha=>⟨z,ha.sub hs.subs,hJ⟩
theorem c_loop {c:Code} {α:Type} (I:α→World→Prop) (E:α→Env) (μ:α→World→Nat) (z:α) (hs:SubE (E z) env) (hI:I z w)
  (round:∀z w,I z w→WC P f c (Exit.then (fun a' w'=>∃z',Ag f (E z') a'∧I z' w'∧μ z' w'<μ z w) Q) (E z) w):WC P f (.loop c) Q env w:=by
 intro a m b k o
 have p:∀n (z:α) (w:World) (a:Act),μ z w=n→I z w→Ag f (E z) a→
   ∃e a' w',Q e a' w'∧Arrives P (lone (b.at a (.code c:: .inLoop c::k)) o w) b k o e a' w':=by
  intro n
  induction n using Nat.strongRecOn with
  |_ n ih=>
   intro z w a u hI m
   obtain⟨e,j,h,g,d⟩:=round z w hI a m b (.inLoop c::k) o
   cases e with
   |normal=>
    obtain⟨z',q,r,s⟩:=g
    obtain⟨v,y,A,t,i⟩:=ih (μ z' h) (u▸s) z' h j rfl r q
    exact⟨v,y,A,t,.of_steps (Steps.trans d (.one step_inLoop)) i⟩
   |exit id=>exact⟨_,j,h,g,.pass (x:= .inLoop c) rfl (fun _ _=> .inl zp) d⟩
   |goto l=>exact⟨_,j,h,g,.pass (x:= .inLoop c) rfl (fun _ _=> .inl zp) d⟩
   |ret=>exact⟨_,j,h,g,.pass (x:= .inLoop c) rfl (fun _ _=> .inl zp) d⟩
   |panic ch=>exact⟨_,j,h,g,.pass (x:= .inLoop c) rfl (fun _ _=> .inl zp) d⟩
   |outgrown=>exact⟨_,j,h,g,.pass (x:= .inLoop c) rfl (fun _ _=> .inl zp) d⟩
 obtain⟨e,a',w',g,d⟩:=p _ z w a rfl hI (m.sub hs.subs)
 exact⟨e,a',w',g,.of_steps (.one step_loop) d⟩
theorem jk {α:Type} {I:α→World→Prop} {E:α→Env} {μ:α→World→Nat} {m:Nat} (z:α) (hs:SubE (E z) env) (hI:I z w) (hm:μ z w<m):
  Fin f (Exit.then (fun a' w'=>∃z',Ag f (E z') a'∧I z' w'∧μ z' w'<m) Q) .normal env w:=
 fun _ ha=>⟨z,ha.sub hs.subs,hI,hm⟩
theorem jj {c:Code} {α:Type} (ls:List Nat) {env0:Env} (hp:pick env ls=some env0) (C:α→Env) (I:α→World→Prop) (μ:α→World→Nat) (z:α) (hs:SubE (C z++env0) env) (hI:I z w)
  (round:∀z w,I z w→WC P f c (Exit.then (fun a' w'=>∃z',Ag f (C z'++env0) a'∧I z' w'∧μ z' w'<μ z w) Q) (C z++env0) w):WC P f (.loop c) Q env w:=
 have _:=hp
 c_loop I (fun z=>C z++env0) μ z hs hI round
theorem jp {y:Code} (h:WC P f y Q env w):Fin f (Exit.then (y.wp P Q) Q) .normal env w:=fun a ha=>h a ha
theorem j7 {K:Act→World→Prop} (h:Fin f Q .ret env w):Fin f (Exit.then K Q) .ret env w:=fun a ha=>h a ha
theorem ql {K:Act→World→Prop} {id:Nat} (h:Fin f Q (.exit id) env w):Fin f (Exit.then K Q) (.exit id) env w:=fun a ha=>h a ha
theorem js {id:Nat} (h:Fin f Q .normal env w):Fin f (Exit.inBlock id Q) .normal env w:=fun a ha=>h a ha
theorem u1 {id:Nat} (h:Fin f Q .ret env w):Fin f (Exit.inBlock id Q) .ret env w:=fun a ha=>h a ha
theorem ve {id:Nat} (h:Fin f Q .normal env w):Fin f (Exit.inBlock id Q) (.exit id) env w:=fun a ha=>by simpa [Exit.inBlock] using h a ha
theorem f_blockE' {id id':Nat} (hne:Nat.beq id' id=false) (h:Fin f Q (.exit id') env w):Fin f (Exit.inBlock id Q) (.exit id') env w:=fun a ha=>by
 have:id'≠id:=fun e=>by subst e;rw[Nat.beq_refl] at hne;cases hne
 simpa [Exit.inBlock,this] using h a ha
theorem zw2 (h:Fin f Q .ret env w):Fin f (Exit.noGoto Q) .ret env w:=fun a ha=>h a ha
end code
/-! ### Operations -/
def evs (env:Env):List Operand→Option (List Value)
  | []=>some []
  |x::r=>match xh env x with
    |some v=>match evs env r with
      |some l=>some (v::l)
      |none=>none
    |none=>none
def Ov (P:Program) (o:Oper) (env:Env) (w:World) (v:Value) (w':World):Prop:=
  ∀ρ:Operand→Value,(∀x u,xh env x=some u→ρ x=u)→(execOp ρ o).run P w= .ok (.value v) w'
def Os (P:Program) (o:Oper) (env:Env) (w:World) (w':World):Prop:=
  ∀ρ:Operand→Value,(∀x u,xh env x=some u→ρ x=u)→(execOp ρ o).run P w= .ok .skip w'
def yldE (ops:Array Oper) (env:Env) (j:Nat):Option Bool:=
  match ops[j]? with
  |some o=>match o.dst with
    |some d=>match lk env d with
      |some (.bool b)=>some b
      |_=>none
    |none=>none
  |none=>none
def takes (ops:Array Oper) (env:Env) (o:Oper):Bool:=
  match o.guard with
  |none=>true
  |some (j,want)=>match yldE ops env j with
    |some b=>match b,want with
      |true,true=>true
      |false,false=>true
      |_,_=>false
    |none=>false
theorem yldE_eq {f:Fs} {ops:Array Oper} {env:Env} {a:Act} (ha:Ag f env a) {j:Nat} {b:Bool} (h:yldE ops env j=some b):yielded ops a.tmps j=some b:=by
 unfold yldE at h
 split at h
 ·rename_i o c
  split at h
  ·rename_i d e
   split at h
   ·rename_i i g
    simp at h;subst h
    have:=ha.get d _ g
    simp[yielded,c,e,this]
   simp at h
  simp at h
 simp at h
theorem xv {f:Fs} {ops:Array Oper} {env:Env} {a:Act} (ha:Ag f env a) {o:Oper} (h:takes ops env o=true):Region.wanted o (yielded ops a.tmps)=true:=by
 unfold takes at h
 unfold Region.wanted
 split at h
 ·simp[*]
 rename_i j c d
 simp only[d]
 split at h
 ·rename_i b e
  rw[yldE_eq ha e]
  cases b<;>cases c<;>simp_all
 simp at h
def yldU (ops:Array Oper) (env:Env) (j:Nat):Bool:=
  match ops[j]? with
  |some o=>match o.dst with
    |some d=>match lk env d with
      |some (.tuple _)=>true
      |_=>false
    |none=>false
  |none=>false
theorem yldU_eq {f:Fs} {ops:Array Oper} {env:Env} {a:Act} (ha:Ag f env a) {j:Nat} (h:yldU ops env j=true):yielded ops a.tmps j=none:=by
 unfold yldU at h
 split at h
 ·rename_i o b
  split at h
  ·rename_i d c
   split at h
   ·rename_i g e
    have:=ha.get d _ e
    simp[yielded,b,c,this]
   simp at h
  simp at h
 simp at h
def passes (ops:Array Oper) (env:Env) (o:Oper):Bool:=
  match o.guard with
  |none=>false
  |some (j,want)=>match yldE ops env j with
    |some b=>match b,want with
      |true,false=>true
      |false,true=>true
      |_,_=>false
    |none=>yldU ops env j
theorem xj8 {f:Fs} {ops:Array Oper} {env:Env} {a:Act} (ha:Ag f env a) {o:Oper} (h:passes ops env o=true):Region.wanted o (yielded ops a.tmps)=false:=by
 unfold passes at h
 unfold Region.wanted
 split at h
 ·simp at h
 rename_i j c d
 simp only[d]
 split at h
 ·rename_i b e
  rw[yldE_eq ha e]
  cases b<;>cases c<;>simp_all
 rw[yldU_eq ha h];rfl
def St (P:Program) (f:Fs) (ops:Array Oper) (o:Oper) (env:Env) (w:World) (K:Env→World→Prop):Prop:=
  ∀(a:Act) (Q:vd) (K':Act→World→Prop),Ag f env a→(∀env' a' w',Ag f env' a'→K env' w'→K' a' w')→
    if Region.wanted o (yielded ops a.tmps) then o.wp P a w K' Q∨(o.asks P a w∧LetsOut Q) else K' (a.put o.dst undef) w
section ops
variable {P:Program} {f:Fs} {ops:Array Oper} {Q:vd} {o:Oper} {rest:List Oper} {env:Env} {w w':World} {v:Value}
theorem gk (h:Fin f Q .normal env w):WL P f ops Q [] env w:=fun a ha=>h a ha
theorem wl (h:St P f ops o env w (WL P f ops Q rest)):WL P f ops Q (o::rest) env w:=
 fun a ha=>h a Q (wpList P ops Q rest) ha fun _ a' _ ha' k=>k a' ha'
theorem yg {K:Env→World→Prop} (hg:takes ops env o=true) (hd:dOk f.n o.dst=true) (h:Ov P o env w v w') (k:K (pushE o.dst v env) w'):St P f ops o env w K:=by
 intro a Q e b c
 rw[aR (xv b hg)]
 refine .inl ?_
 unfold Oper.wp
 rw[h a.eval (fun x u d=>b.eval d)]
 exact c _ _ _ (b.put hd) k
theorem st_s {K:Env→World→Prop} (hg:takes ops env o=true) (hd:dOk f.n o.dst=true) (h:Os P o env w w') (k:K (pushE o.dst undef env) w'):St P f ops o env w K:=by
 intro a Q e b c
 rw[aR (xv b hg)]
 refine .inl ?_
 unfold Oper.wp
 rw[h a.eval (fun x u d=>b.eval d)]
 exact c _ _ _ (b.put hd) k
theorem st_pass {K:Env→World→Prop} (hg:passes ops env o=true) (hd:dOk f.n o.dst=true) (k:K (pushE o.dst undef env) w):St P f ops o env w K:=by
 intro a Q K' ha hK
 rw[aP (by simp[xj8 ha hg])]
 exact hK _ _ _ (ha.put hd) k
theorem uq {l:List Oper} (d:Nat) {b:Bool} (hd:lk env d=some (.bool b)) (ht:b=true→WL P f ops Q l ((d,.bool true)::env) w) (hf:b=false→WL P f ops Q l ((d,.bool false)::env) w):WL P f ops Q l env w:=by
 cases b
 ·exact fun a ha=>hf rfl a ⟨ha.defers,ha.size,fun i u hi=>by
   rw[yx9] at hi
   split at hi
   ·rename_i e;subst e;simp at hi;subst hi;exact ha.get _ _ hd
   exact ha.get _ _ hi⟩
 exact fun a ha=>ht rfl a ⟨ha.defers,ha.size,fun i u hi=>by
  rw[yx9] at hi
  split at hi
  ·rename_i e;subst e;simp at hi;subst hi;exact ha.get _ _ hd
  exact ha.get _ _ hi⟩
theorem ja {l:List Oper} (d:Nat) {p:Prop} [Decidable p] (hd:lk env d=some (.bool (decide p))) (ht:p→WL P f ops Q l ((d,.bool true)::env) w) (hf:¬p→WL P f ops Q l ((d,.bool false)::env) w):WL P f ops Q l env w:=
 uq d hd (fun h=>ht (of_decide_eq_true h)) (fun h=>hf (of_decide_eq_false h))
end ops
/-! ### Calls -/
def Rv (R:Value→World→Prop):Ending→World→Prop
  | .returned v,w=>R v w
  |_,_=>False
def gn (P:Program) (g:FuncId) (args:List Value) (w:World) (R:Value→World→Prop):Prop:=Calls P g args.toArray w (Rv R)
theorem gn.mono {P:Program} {g:FuncId} {args:List Value} {w:World} {R R':Value→World→Prop} (h:gn P g args w R) (hr:∀v w',R v w'→R' v w'):gn P g args w R':=
 Calls.mono h fun e w' he=>by cases e<;>first|exact hr _ _ he|exact he
def envO:Nat→List Value→Option Env
  |_,[]=>some []
  |i,v::r=>match envO (i+1) r with
    |some e=>some ((i,v)::e)
    |none=>none
theorem envO_lk:∀{l:List Value} {i:Nat} {e:Env},envO i l=some e→∀j v,lk e j=some v→i≤j∧l[j-i]? =some v
 | [],i,e,h,j,v,hj=>by simp[envO] at h;subst h;simp[lk] at hj
 |u::r,i,e,h,j,v,hj=>by
  simp only[envO] at h
  split at h
  ·rename_i e' he
   simp at h;subst h
   rw[yx9] at hj
   split at hj
   ·rename_i hij;subst hij;simp at hj;subst hj;simp
   rename_i hne
   have:=envO_lk he j v hj
   refine⟨by omega,?_⟩
   rw[show j-i=(j-(i+1))+1 from by omega]
   simpa using this.2
  simp at h
theorem calls_enter {P:Program} {g:FuncId} {fn:Func} {c:Code} {args:List Value} {w:World} {R:Value→World→Prop} {n:Nat} {env:Env}
  (hf:P.funcs[g]? =some fn) (hb:fn.body=some c) (hn:fn.ntmps=n) (hl:Nat.ble args.length n=true) (he:envO 0 args=some env) (h:WC P ⟨n,[]⟩ c (bodyPost P fn (Rv R)) env w):gn P g args w R:=by
 refine calls_of_wp hf hb (h _ ⟨rfl,?_,fun i v d=> ?_⟩)
 ·have:args.length≤n:=dD hl
  simp only[hn,Array.size_append,List.size_toArray,Array.size_replicate]
  omega
 have:=(envO_lk he i v d).2
 simp only[bB] at this
 have a:i<args.length:=by
  rcases bF i args.length with b|b
  ·exact b
  simp[cD b] at this
 simp only[hn]
 rw[Array.getElem?_append_left (by simpa using a)]
 simpa using this
theorem gx {P:Program} {g:FuncId} {fn:Func} {c:Code} {args:List Value} {w:World} {R:Value→World→Prop} {n:Nat} {env:Env} (hf:P.funcs[g]? =some fn) (h:WC P ⟨n,[]⟩ c (bodyPost P fn (Rv R)) env w) (hb:fn.body=some c:=by rfl) (hn:fn.ntmps=n:=by rfl) (hl:Nat.ble args.length n=true:=by rfl) (he:envO 0 args=some env:=by rfl):gn P g args w R:=calls_enter hf hb hn hl he h
theorem st_call {P:Program} {f:Fs} {ops:Array Oper} {o:Oper} {env:Env} {K:Env→World→Prop} {w:World} {x:Operand} {xs:Array Operand} {ts:Array TypeId}
  {g:FuncId} {first captured:Array Value} {vs:List Value} {R:Value→World→Prop} (hcf:∀args w,(callFunc g args).run P w= .ok (.enter g args) w)
  (ho:o.op= .call {callee:= .value x,args:=xs,argTypes:=ts}) (hg:takes ops env o=true) {d:Nat} (hd:o.dst=some d) (hdn:Nat.blt d f.n=true)
  (hx:xh env x=some (.func (.func g) first captured)) (hvs:evs env xs.toList=some vs)
  (hc:gn P g (first.toList++vs++captured.toList) w R) (k:∀v w',R v w'→K ((d,v)::env) w'):St P f ops o env w K:=by
 intro a Q K' ha hK
 rw[aR (xv ha hg)]
 refine .inl ?_
 have hevs:∀(l:List Operand) vs,evs env l=some vs→l.map a.eval=vs:=by
  intro l
  induction l with
  |nil=>intro vs h;simp[evs] at h;subst h;rfl
  |cons y r ih=>
   intro vs h
   simp only[evs] at h
   split at h
   ·rename_i u hu
    split at h
    ·rename_i l' hl'
     simp at h;subst h
     simp[ha.eval hu,ih _ hl']
    simp at h
   simp at h
 have h1:xs.map a.eval=vs.toArray:=by
  apply cH
  rw[Array.toList_map,hevs _ _ hvs]
 have hrun:(execOp a.eval o).run P w= .ok (.enter g (first++vs.toArray++captured)) w:=by
  simp only[execOp,ho,resolve,h1,ha.eval hx,Deferred.ofValue,aK,aT,aF,invoke,hcf]
 unfold Oper.wp
 rw[hrun]
 have e:(first++vs.toArray++captured)=(first.toList++vs++captured.toList).toArray:=by
  apply cH;simp
 rw[e]
 refine Calls.mono hc fun e w' he=> ?_
 cases e with
 |returned v=>exact hK _ _ _ (ha.put (dst:=o.dst) (v:=v) (by rw[hd];exact hdn)) (by rw[hd];exact k v w' he)
 |panicked c=>exact he.elim
 |outgrown=>exact he.elim
def callE (n:Nat) (ops:Array Oper) (env:Env) (o:Oper):Option (FuncId×List Value×Nat):=match takes ops env o with
  |false=>none
  |true=>match o.dst with
    |none=>none
    |some d=>match Nat.blt d n with
      |false=>none
      |true=>match o.op with
        | .call {callee:= .value x,args:=xs,argTypes:=_}=>match xh env x with
          |some (.func (.func g) p q)=>match evs env xs.toList with
            |some vs=>some (g,p.toList++vs++q.toList,d)
            |none=>none
          |_=>none
        |_=>none
theorem j1 {P:Program} {f:Fs} {ops:Array Oper} {o:Oper} {env:Env} {K:Env→World→Prop} {w:World} {g:FuncId} {us:List Value} {R:Value→World→Prop} (hcf:∀args w,(callFunc g args).run P w= .ok (.enter g args) w) {d:Nat} (h:callE f.n ops env o=some (g,us,d)) (hc:gn P g us w R) (k:∀v w',R v w'→K ((d,v)::env) w'):St P f ops o env w K:=by
 unfold callE at h
 repeat' first|(cases h;done)|split at h
 rename_i a _ _ b _ c _ _ _ _ e _ _ _ _ i _ _ j
 simp only[bG,cP] at h
 obtain⟨rfl,rfl,rfl⟩:=h
 exact st_call hcf e a b c i j hc k
theorem gh {P:Program} {f:Fs} {ops:Array Oper} {Q:vd} {rest:List Oper} {o:Oper} {env:Env} {w:World} {g:FuncId} {us:List Value} {R:Value→World→Prop} (hcf:∀args w,(callFunc g args).run P w= .ok (.enter g args) w) {d:Nat} (h:callE f.n ops env o=some (g,us,d)) (hc:gn P g us w R) (k:∀v w',R v w'→WL P f ops Q rest ((d,v)::env) w'):WL P f ops Q (o::rest) env w:=wl (j1 hcf h hc k)
/-! ### The end of a body -/
section ends
variable {P:Program} {f:Fs} {fn:Func} {R:Value→World→Prop} {env:Env} {w:World}
theorem f_ret0 {n:Nat} (hr:fn.results= #[]) (h:R (.tuple #[]) w):Fin ⟨n,[]⟩ (bodyPost P fn (Rv R)) .ret env w:=
 fun _ ha=>⟨ha.defers,_,results_none hr _ _ _,h⟩
theorem z6 {n:Nat} (hr:fn.results= #[]) (h:R (.tuple #[]) w):Fin ⟨n,[]⟩ (bodyPost P fn (Rv R)) .normal env w:=
 fun _ ha=>⟨ha.defers,_,results_none hr _ _ _,h⟩
theorem gv {n:Nat} {t:Tmp} {v:Value} (hr:fn.results= #[.tmp t]) (hv:lk env t=some v) (h:R v w):Fin ⟨n,[]⟩ (bodyPost P fn (Rv R)) .ret env w:=
 fun a ha=>⟨ha.defers,v,by rw[results_tmp hr];simp[ha.get _ _ hv],h⟩
theorem f_ret2 {n:Nat} {t t':Tmp} {v v':Value} (hr:fn.results= #[.tmp t,.tmp t']) (hv:lk env t=some v) (hv':lk env t'=some v') (h:R (.tuple #[v,v']) w):Fin ⟨n,[]⟩ (bodyPost P fn (Rv R)) .ret env w:=
 fun a ha=>⟨ha.defers,_,by rw[results_tmp2 hr];simp[ha.get _ _ hv,ha.get _ _ hv'],h⟩
end ends
structure Ext (S:Nat→Prop) (w w':World):Prop where
  os:w'.os=w.os
  tape:w'.tape=w.tape
  output:w'.output=w.output
  size:w.heap.size≤w'.heap.size
  same:∀b,b<w.heap.size→¬S b→w'.heap[b]? =w.heap[b]?
  drawn:w.drawn≤w'.drawn
abbrev No:Nat→Prop:=fun _=>False
abbrev One (b:Nat):Nat→Prop:=fun x=>x=b
theorem Ext.refl (S:Nat→Prop) (w:World):Ext S w w:=⟨rfl,rfl,rfl,aD _,fun _ _ _=>rfl,aD _⟩
theorem Ext.trans {S T:Nat→Prop} {a b c:World} (h:Ext S a b) (k:Ext T b c) (hT:∀x,x<a.heap.size→T x→S x):Ext S a c:=
 ⟨k.os.trans h.os,k.tape.trans h.tape,k.output.trans h.output,aA h.size k.size,
  fun x hx hS=>(k.same x (aM hx h.size) fun ht=>hS (hT x hx ht)).trans (h.same x hx hS),aA h.drawn k.drawn⟩
theorem Ext.mono {S T:Nat→Prop} {a b:World} (h:Ext T a b) (hT:∀x,x<a.heap.size→T x→S x):Ext S a b:=
 ⟨h.os,h.tape,h.output,h.size,fun x hx hS=>h.same x hx fun ht=>hS (hT x hx ht),h.drawn⟩
theorem Ext.no {S:Nat→Prop} {a b:World} (h:Ext No a b):Ext S a b:=h.mono fun _ _ f=>f.elim
theorem Ext.then {S:Nat→Prop} {a b c:World} (h:Ext S a b) (k:Ext S b c):Ext S a c:=h.trans k fun _ _ h=>h
theorem Ext.gb {S:Nat→Prop} {a b c:World} (h:Ext S a b) (k:Ext No b c):Ext S a c:=h.trans k fun _ _ h=>h.elim
theorem Ext.gi {S:Nat→Prop} {b₀:Nat} {a b c:World} (h:Ext S a b) (k:Ext (One b₀) b c) (hb:a.heap.size≤b₀):Ext S a c:=
 h.trans k fun x hx e=>by omega
theorem Ext.drew (w:World):Ext No w w.drew:=⟨rfl,rfl,rfl,aD _,fun _ _ _=>rfl,Nat.le_succ _⟩
theorem Ext.drew' (w:World):Ext No w {w with drawn:=w.drawn+1}:=Ext.drew w
theorem Ext.alloc (w:World) (c:Array Value) (T:TypeId):Ext No w (w.alloc (.cells c T)):=
 ⟨rfl,rfl,rfl,by simp,fun b hb _=>(by show(w.heap.push _)[b]? =_;rw[Array.getElem?_push,aP zo]),aD _⟩
theorem Ext.froz {S:Nat→Prop} {w w':World} (h:Ext S w w') {a:Addr} (ha:a.block<w.heap.size) (hS:¬S a.block):w'.frozen? a=w.frozen? a:=World.frozen?_of_block (h.same _ ha hS)
theorem Ext.kept {S:Nat→Prop} {w w':World} (h:Ext S w w') (hS:∀x,x<w.heap.size→¬S x):w.keptBut w' (fun _=>False):=
 ⟨h.os,h.output,fun i hi=>by
  rw[h.same i hi (hS i hi)]
  split<;>simp_all⟩
def gz (w:World) (b:Nat) (T:TypeId) (l:List Value):Prop:=w.heap[b]? =some (.cells l.toArray T (0,0))
def Seg (w:World) (b off:Nat) (l:List Value):Prop:=∀(i:Nat) (v:Value),l[i]? =some v→w.cell? ⟨b,off+i,none⟩=some v
theorem gz.lt {w:World} {b:Nat} {T:TypeId} {l:List Value} (h:gz w b T l):b<w.heap.size:=by
 rcases bF b w.heap.size with h'|h'
 ·exact h'
 unfold gz at h;rw[cI h'] at h;cases h
theorem gz.ext {S:Nat→Prop} {w w':World} {b:Nat} {T:TypeId} {l:List Value} (h:gz w b T l) (hE:Ext S w w') (hS:¬S b):gz w' b T l:=
 (hE.same b h.lt hS).trans h
theorem gz.ga {w w':World} {b:Nat} {T:TypeId} {l:List Value} (h:gz w b T l) (hE:Ext No w w'):gz w' b T l:=h.ext hE id
theorem gz.gj {w w':World} {b c:Nat} {T:TypeId} {l:List Value} (h:gz w b T l) (hE:Ext (One c) w w') (hne:b≠c):gz w' b T l:=h.ext hE hne
theorem gz.cell {w:World} {b:Nat} {T:TypeId} {l:List Value} (h:gz w b T l) {i:Nat} {v:Value} (hi:l[i]? =some v):w.cell? ⟨b,i,none⟩=some v:=by
 unfold gz at h
 simp[World.cell?,h,hi]
theorem gz.kj {w:World} {b:Nat} {T:TypeId} {l:List Value} (h:gz w b T l):Seg w b 0 l:=fun i v hi=>by
 rw[bD];exact h.cell hi
theorem gz.free {w:World} {b:Nat} {T:TypeId} {l:List Value} (h:gz w b T l) (a:Addr) (ha:a.block=b):w.frozen? a=false:=by
 unfold gz at h
 subst ha
 simp[World.frozen?,h]
theorem gz.ne {w:World} {b c:Nat} {T U:TypeId} {l m:List Value} (h:gz w b T l) (k:gz w c U m) (hT:T≠U):b≠c:=by
 intro e;subst e
 unfold gz at h k
 rw[h] at k
 simp at k
 exact hT k.2
theorem gz.uniq {w:World} {b:Nat} {T U:TypeId} {l m:List Value} (h:gz w b T l) (k:gz w b U m):l=m∧T=U:=by
 unfold gz at h k
 rw[h] at k
 simp at k
 exact k
theorem Seg.ext {S:Nat→Prop} {w w':World} {b off:Nat} {l:List Value} (h:Seg w b off l) (hE:Ext S w w') (hS:¬S b):Seg w' b off l:=fun i v hi=>by
 have hc:=h i v hi
 have hlt:=World.block_lt_of_cell? w ⟨b,off+i,none⟩ hc
 rw[World.cell?_of_block (w:=w) (w':=w') (a:=⟨b,off+i,none⟩) (hE.same b hlt hS)]
 exact hc
theorem zq9 {S:Nat→Prop} {w w':World} {b off:Nat} {v:Value} (h:w.cell? ⟨b,off,none⟩=some v) (hE:Ext S w w') (hS:¬S b):w'.cell? ⟨b,off,none⟩=some v:=by
 have c:=World.block_lt_of_cell? w ⟨b,off,none⟩ h
 rw[World.cell?_of_block (w:=w) (w':=w') (a:=⟨b,off,none⟩) (hE.same b c hS)]
 exact h
theorem Seg.ga {w w':World} {b off:Nat} {l:List Value} (h:Seg w b off l) (hE:Ext No w w'):Seg w' b off l:=h.ext hE id
theorem Seg.lt {w:World} {b off:Nat} {l:List Value} (h:Seg w b off l) (hl:l≠[]):b<w.heap.size:=by
 cases l with
 |nil=>exact absurd rfl hl
 |cons v r=>exact World.block_lt_of_cell? w ⟨b,off+0,none⟩ (h 0 v rfl)
theorem Seg.drop {w:World} {b off:Nat} {l:List Value} (h:Seg w b off l) (k:Nat):Seg w b (off+k) (l.drop k):=fun i v hi=>by
 rw[Nat.add_assoc]
 exact h (k+i) v (by rw[List.getElem?_drop] at hi;exact hi)
theorem Seg.take {w:World} {b off:Nat} {l:List Value} (h:Seg w b off l) (k:Nat):Seg w b off (l.take k):=fun i v hi=>by
 rw[List.getElem?_take] at hi
 split at hi
 ·exact h i v hi
 cases hi
theorem Seg.append {w:World} {b off:Nat} {l m:List Value}:Seg w b off (l++m)↔Seg w b off l∧Seg w b (off+l.length) m:=by
 constructor
 ·intro h
  refine⟨fun i v a=>h i v ?_,fun i v a=> ?_⟩
  ·have:i<l.length:=by
    rcases bF i l.length with c|c
    ·exact c
    rw[cD c] at a;cases a
   rw[cT this];exact a
  rw[Nat.add_assoc]
  refine h _ v ?_
  rw[cJ zo]
  rw[Nat.add_sub_cancel_left];exact a
 rintro⟨h,k⟩ i v a
 rcases bF i l.length with c|c
 ·rw[cT c] at a;exact h i v a
 rw[cJ c] at a
 have:=k _ v a
 rwa [show off+l.length+(i-l.length)=off+i from by omega] at this
/-! ### Stores into a block that is known -/
def put (l:List Value) (off:Nat):List Value→List Value
  | []=>l
  |v::r=>put (l.set off v) (off+1) r
theorem x5 (l:List Value) (off:Nat) (vs:List Value):(put l off vs).length=l.length:=by
 induction vs generalizing l off with
 |nil=>rfl
 |cons v r ih=>simp[put,ih]
theorem put_getElem? (vs:List Value):∀(l:List Value) (off i:Nat),off+vs.length≤l.length→(put l off vs)[i]? =if off≤i∧i<off+vs.length then vs[i-off]? else l[i]? :=by
 induction vs with
 |nil=>intro l off i _;simp[put];omega
 |cons v r ih=>
  intro l off i h
  simp only[aW] at h
  rw[put,ih _ _ _ zc]
  by_cases h1:off=i
  ·subst h1
   rw[aP zo,aR zp]
   simp[show off<l.length from by omega]
  by_cases h2:off+1≤i∧i<off+1+r.length
  ·rw[aR h2,aR ze]
   rw[show i-off=(i-(off+1))+1 from by omega]
   simp
  rw[aP h2,aP ze]
  rw[List.getElem?_set_ne h1]
theorem put_eq (l:List Value) (off:Nat) (vs:List Value) (h:off+vs.length≤l.length):put l off vs=l.take off++vs++l.drop (off+vs.length):=by
 apply List.ext_getElem?
 intro i
 rw[put_getElem? _ _ _ _ h]
 split
 ·rename_i b
  rw[aV,cJ zc,cT zc]
  simp only[aL]
  rw[bP zo]
 rename_i b
 rcases bF i off with a|a
 ·rw[aV,cT zc,List.getElem?_take,aR a]
 rw[cJ zc,List.getElem?_drop]
 congr 1
 simp
 omega
theorem setCell_blk {w:World} {b:Nat} {T:TypeId} {l:List Value} (h:gz w b T l) (off:Nat) (v:Value):
  gz (w.setCell ⟨b,off,none⟩ v) b T (l.set off v)∧Ext (One b) w (w.setCell ⟨b,off,none⟩ v):=by
 have c:=h.lt
 unfold gz at h
 refine⟨?_,rfl,rfl,rfl,by simp,fun x d a=> ?_,aD _⟩
 ·unfold gz
  simp only[World.setCell,Array.getElem?_modify,↓reduceIte,h,Option.map_some]
  simp
 simp only[World.setCell,Array.getElem?_modify]
 rw[aP (fun e=>a e.symm)]
theorem vq {P:Program} {b:Nat} {T:TypeId}:∀(vs:List Value) (w:World) (l:List Value) (off i:Nat),gz w b T l→off+i+vs.length≤l.length→(∀v∈vs,v.oneCell'=true)→
  ∃w',(storeCells ⟨b,off,none⟩ vs i).run P w= .ok () w'∧gz w' b T (put l (off+i) vs)∧Ext (One b) w w'∧w'.heap.size=w.heap.size
 | [],w,l,off,i,h,_,_=>⟨w,rfl,h,Ext.refl _ _,rfl⟩
 |v::r,w,l,off,i,h,hl,h1=>by
  simp only[aW] at hl
  have hc:w.cell? ⟨b,off+i,none⟩=some l[off+i]:=h.cell zp
  have hadd:(⟨b,off,none⟩:Addr).add i=⟨b,off+i,none⟩:=by
   unfold Addr.add;split
   ·rename_i h0;subst h0;rfl
   rfl
  obtain⟨hb',hE⟩:=setCell_blk h (off+i) v
  obtain⟨w',hr,hb2,hE2,hs⟩:=vq r (w.setCell ⟨b,off+i,none⟩ v) (l.set (off+i) v) off (i+1) hb' zc (fun u hu=>h1 u (by simp[hu]))
  refine⟨w',?_,hb2,hE.then hE2,by rw[hs];simp⟩
  have hv:=h1 v zp
  have hfz:=h.free ⟨b,off+i,none⟩ rfl
  have hstore:(store ⟨b,off+i,none⟩ v).run P w= .ok () (w.setCell ⟨b,off+i,none⟩ v):=by
   cases v<;>first|(simp[Value.oneCell'] at hv;done)|(simp only[store,Sem.run,hc,hfz];simp)
  simp only[storeCells,hadd,aK,hstore,aF]
  exact hr
theorem vh {P:Program} {w:World} {b off:Nat}:∀(n i:Nat) (l:List Value) (acc:Array Value),Seg w b (off+i) l→l.length=n→
  (loadCellsFrom ⟨b,off,none⟩ i n acc).run P w= .ok (acc++l.toArray) w
 |0,i,l,acc,_,hl=>by
  have:l=[]:=by simpa using hl
  subst this;simp[loadCellsFrom]
 |n+1,i,l,acc,h,hl=>by
  cases l with
  |nil=>simp at hl
  |cons v r=>
   have hadd:(⟨b,off,none⟩:Addr).add i=⟨b,off+i,none⟩:=by
    unfold Addr.add;split
    ·rename_i h0;subst h0;rfl
    rfl
   have hc:w.cell? ⟨b,off+i,none⟩=some v:=by simpa using h 0 v rfl
   have hr:=vh (P:=P) n (i+1) r (acc.push v) (by
    intro j u hj
    have:=h (j+1) u (by simpa using hj)
    rwa [show off+i+(j+1)=off+(i+1)+j from by omega] at this) (by simpa using hl)
   simp only[loadCellsFrom,hadd,aK,run_load,hc,aF]
   rw[hr]
   congr 1
   apply cH;simp
theorem Cc (w:World) (l:List Value) (T:TypeId):gz (w.alloc (.cells l.toArray T)) w.heap.size T l:=by
 unfold gz
 show(w.heap.push _)[w.heap.size]? =_
 simp
/-! ### Types -/
structure TI where
  desc:TypeDesc
  size:Nat
  bytes:Nat
  zero:Value
abbrev u0:=List (Nat×TI)
def yn:u0→Nat→Option TI
  | [],_=>none
  |(j,v)::r,i=>match Nat.beq j i with
    |true=>some v
    |false=>yn r i
def TI.Ok (P:Program) (t:Nat) (x:TI):Prop:=P.underlying t=some x.desc∧(P.info? t).map (fun i=>(i.size,i.bytes,i.zero))=some (x.size,x.bytes,some x.zero)
def u0.Ok (P:Program):u0→Prop
  | []=>True
  |(t,x)::r=>x.Ok P t∧u0.Ok P r
theorem u0.Ok.get {P:Program}:∀{I:u0},u0.Ok P I→∀{t:Nat} {x:TI},yn I t=some x→x.Ok P t
 | [],_,t,x,h=>by simp[yn] at h
 |(j,v)::r,hI,t,x,h=>by
  have h':(match Nat.beq j t with|true=>some v|false=>yn r t)=some x:=h
  cases hb:Nat.beq j t with
  |true=>
   rw[hb] at h'
   have:=dE hb
   subst this
   simp at h';subst h'
   exact hI.1
  |false=>rw[hb] at h';exact u0.Ok.get hI.2 h'
section types
variable {P:Program} {t:Nat} {x:TI} (h:x.Ok P t) (w:World)
include h
theorem TI.Ok.under:(underlying t).run P w= .ok x.desc w:=by
 unfold underlying
 simp[h.1]
theorem TI.Ok.info:∃i,P.info? t=some i∧i.size=x.size∧i.bytes=x.bytes∧i.zero=some x.zero:=by
 obtain⟨i,hi,e⟩:=Option.map_eq_some_iff.1 h.2
 simp only[cP] at e
 exact⟨i,hi,e.1,e.2.1,e.2.2⟩
theorem TI.Ok.sizeOf:(sizeOf t).run P w= .ok x.size w:=by
 obtain⟨i,hi,h1,_,_⟩:=TI.Ok.info h
 unfold Go.sizeOf typeInfo
 simp[hi,h1]
theorem TI.Ok.zeroValue:(zeroValue t).run P w= .ok x.zero w:=by
 obtain⟨i,hi,_,_,h3⟩:=TI.Ok.info h
 unfold Go.zeroValue typeInfo
 simp[hi,h3]
end types
def TI.isAgg (x:TI):Bool:=
  match x.desc with
  | .struct _=>true
  | .array _ _=>true
  |_=>false
theorem TI.Ok.isAgg {P:Program} {t:Nat} {x:TI} (h:x.Ok P t) (w:World):(Go.isAgg t).run P w= .ok x.isAgg w:=by
 unfold Go.isAgg
 simp only[aK,h.under,aF,TI.isAgg]
 cases x.desc<;>rfl
def nth:List Value→Nat→Option Value
  | [],_=>none
  |v::_,0=>some v
  |_::r,n+1=>nth r n
theorem nth_eq:∀(l:List Value) (i:Nat),nth l i=l[i]?
 | [],_=>by simp[nth]
 |v::r,0=>rfl
 |v::r,n+1=>by simp[nth,nth_eq r n]
/-! ### Integers -/
def bitI (op:BinOp) (k:IntKind) (p q:Int):Int:=
  match op with
  | .and=>k.wrap (BitVec.ofInt k.bits p&&&BitVec.ofInt k.bits q).toNat
  | .or=>k.wrap (BitVec.ofInt k.bits p|||BitVec.ofInt k.bits q).toNat
  | .xor=>k.wrap (BitVec.ofInt k.bits p^^^BitVec.ofInt k.bits q).toNat
  |_=>k.wrap (BitVec.ofInt k.bits p&&& ~~~BitVec.ofInt k.bits q).toNat
def intBin (op:BinOp) (k:IntKind) (p q:Int):Option Value:=
  match op with
  | .add=>some (.int k (k.wrap (p+q)))
  | .sub=>some (.int k (k.wrap (p-q)))
  | .mul=>some (.int k (k.wrap (p*q)))
  | .quo=>match decide (q=0) with
    |true=>none
    |false=>some (.int k (k.wrap (p.tdiv q)))
  | .rem=>match decide (q=0) with
    |true=>none
    |false=>some (.int k (p.tmod q))
  | .and=>some (.int k (bitI .and k p q))
  | .or=>some (.int k (bitI .or k p q))
  | .xor=>some (.int k (bitI .xor k p q))
  | .andNot=>some (.int k (bitI .andNot k p q))
  | .eql=>some (.bool (decide (p=q)))
  | .neq=>some (.bool (decide (p≠q)))
  | .lss=>some (.bool (decide (p<q)))
  | .leq=>some (.bool (decide (p≤q)))
  | .gtr=>some (.bool (decide (q<p)))
  | .geq=>some (.bool (decide (q≤p)))
  |_=>none
def shiftBin (op:BinOp) (k:IntKind) (p q:Int):Option Value:=
  match decide (q<0) with
  |true=>none
  |false=>match op with
    | .shl=>some (.int k (k.wrap (p*2^min q.toNat k.bits)))
    | .shr=>some (.int k (p.fdiv (2^min q.toNat k.bits)))
    |_=>none
def isShift:BinOp→Bool
  | .shl=>true
  | .shr=>true
  |_=>false
def nilEq (a b:Value):Option Bool:=
  match a,b with
  | .pointer none,.pointer none=>some true
  | .pointer none,.pointer (some _)=>some false
  | .pointer (some _),.pointer none=>some false
  | .slice none _ _,.slice none _ _=>some true
  | .slice none _ _,.slice (some _) _ _=>some false
  | .slice (some _) _ _,.slice none _ _=>some false
  | .map none,.map none=>some true
  | .map none,.map (some _)=>some false
  | .map (some _),.map none=>some false
  | .bool p,.bool q=>some (p==q)
  |_,_=>none
def eqOk (I:u0) (t:Nat) (a:Value):Bool:=
  match yn I t with
  |some x=>match x.desc,a with
    | .pointer _,.pointer _=>true
    | .slice _,.slice _ _ _=>true
    | .map _ _,.map _=>true
    | .bool,.bool _=>true
    |_,_=>false
  |none=>false
def binNil (I:u0) (t:Nat) (op:BinOp) (a b:Value):Option Value:=
  match eqOk I t a with
  |false=>none
  |true=>match op with
    | .eql=>match nilEq a b with
      |some r=>some (.bool r)
      |none=>none
    | .neq=>match nilEq a b with
      |some r=>some (.bool (!r))
      |none=>none
    |_=>none
def SLt (p q:ByteArray):Prop:=Op.bytesLess p.data.toList q.data.toList=true
instance (p q:ByteArray):Decidable (SLt p q):=inferInstanceAs (Decidable (_=true))
def strBin (op:BinOp) (p q:ByteArray):Option Value:=
  match op with
  | .eql=>some (.bool (decide (p=q)))
  | .neq=>some (.bool (decide (p≠q)))
  | .lss=>some (.bool (decide (SLt p q)))
  | .leq=>some (.bool (decide (SLt p q∨p=q)))
  | .gtr=>some (.bool (decide (¬(SLt p q∨p=q))))
  | .geq=>some (.bool (decide (¬SLt p q)))
  |_=>none
def bin (I:u0) (t:Nat) (op:BinOp) (a b:Value):Option Value:=
  match a with
  | .string p=>match b with
    | .string q=>strBin op p q
    |_=>none
  | .int k p=>match b with
    | .int k' q=>match isShift op with
      |true=>shiftBin op k p q
      |false=>match decide (k=k') with
        |true=>intBin op k p q
        |false=>none
    |_=>none
  |a=>binNil I t op a b
def fieldOf (I:u0) (s f:Nat):Option (Nat×Nat):=
  match yn I s with
  |some x=>match x.desc with
    | .struct fs=>match fs[f]? with
      |some g=>match yn I g.type with
        |some y=>match y.size with
          |0=>none
          |n+1=>match g.offset with
            |0=>some (0,n+1)
            |k+1=>some (k+1,n+1)
        |none=>none
      |none=>none
    |_=>none
  |none=>none
def pev (I:u0) (op:Op) (env:Env):Option Value:=
  match op with
  | .move x=>xh env x
  | .assign x=>xh env x
  | .pick c a b=>match xh env c with
    |some (.bool true)=>xh env a
    |some (.bool false)=>xh env b
    |_=>none
  | .nilCheck x=>match xh env x with
    |some (.pointer (some a))=>some (.pointer (some a))
    |_=>none
  | .fieldAddr s x f=>match xh env x with
    |some (.pointer (some ⟨b,o,none⟩))=>match fieldOf I s f with
      |some (off,_)=>some (.pointer (some ⟨b,o+off,none⟩))
      |none=>none
    |_=>none
  | .extract x i=>match xh env x with
    |some (.tuple vs)=>nth vs.toList i
    |_=>none
  | .binOp op t x y _=>match xh env x with
    |some a=>match xh env y with
      |some b=>bin I t op a b
      |none=>none
    |none=>none
  | .unOp .not _ x=>match xh env x with
    |some (.bool b)=>some (.bool (!b))
    |_=>none
  | .convert s d x=>match yn I s with
    |some _=>match yn I d with
      |some y=>match y.desc with
        | .int k=>match xh env x with
          |some (.int _ n)=>some (.int k (k.wrap n))
          |_=>none
        |_=>none
      |none=>none
    |none=>none
  | .makeFunc fn first captured=>match evs env first.toList with
    |some a=>match evs env captured.toList with
      |some c=>some (.func fn a.toArray c.toArray)
      |none=>none
    |none=>none
  | .call {callee:= .builtin .len,args:=xs,argTypes:=ts}=>match xs.toList with
    | [x]=>match ts.toList with
      | [t]=>match yn I t with
        |some y=>match y.desc with
          | .slice _=>match xh env x with
            |some (.slice _ n _)=>some (.int .i64 (n:Int))
            |_=>none
          | .string=>match xh env x with
            |some (.string s)=>some (.int .i64 (s.size:Int))
            |_=>none
          | .array n _=>match xh env x with
            |some _=>some (.int .i64 (n:Int))
            |none=>none
          |_=>none
        |none=>none
      |_=>none
    |_=>none
  | .call {callee:= .builtin .min,args:=xs,..}=>match xs.toList with
    | [x,y]=>match xh env x with
      |some (.int k p)=>match xh env y with
        |some (.int _ q)=>some (.int k (if q<p then q else p))
        |_=>none
      |_=>none
    |_=>none
  | .call {callee:= .builtin .max,args:=xs,..}=>match xs.toList with
    | [x,y]=>match xh env x with
      |some (.int k p)=>match xh env y with
        |some (.int _ q)=>some (.int k (if p<q then q else p))
        |_=>none
      |_=>none
    |_=>none
  |_=>none
theorem beq_decide (p q:Int):(p==q)=decide (p=q):=by
 by_cases h:p=q<;>simp[h]
theorem bne_decide (p q:Int):(p !=q)=decide (p≠q):=by
 by_cases h:p=q<;>simp[h]
theorem run_intBin {P:Program} {op:BinOp} {k:IntKind} {p q:Int} {v:Value} (h:intBin op k p q=some v) (t:TypeId) (w:World):(binOp op t (.int k p) (.int k q)).run P w= .ok v w:=by
 cases op<;>simp only[intBin] at h
 case quo=>
  split at h
  ·cases h
  rename_i hq
  have hq':q≠0:=by simpa using hq
  cases h
  simp[binOp,Op.intDiv,hq']
 case rem=>
  split at h
  ·cases h
  rename_i hq
  have hq':q≠0:=by simpa using hq
  cases h
  simp[binOp,Op.intDiv,hq']
 case shl=>cases h
 case shr=>cases h
 all_goals (cases h;simp[binOp,Op.intArith,Op.intCmp,Op.intBits,bitI,beq_decide,bne_decide])
theorem run_shiftBin {P:Program} {op:BinOp} {k k':IntKind} {p q:Int} {v:Value} (h:shiftBin op k p q=some v) (t:TypeId) (w:World):(binOp op t (.int k p) (.int k' q)).run P w= .ok v w:=by
 unfold shiftBin at h
 split at h
 ·cases h
 rename_i b
 have a:¬q<0:=by simpa using b
 cases op<;>simp only at h<;>first|(cases h;done)|(cases h;simp[binOp,Op.shift,a])
theorem jc {P:Program} {t:Nat} {D:TypeDesc} {w:World} {β:Type} (hu:(underlying t).run P w= .ok D w) (k:TypeDesc→Sem β):(underlying t>>=k).run P w=(k D).run P w:=by
 rw[aK,hu];rfl
theorem run_nilEqIn {P:Program} {I:u0} (hI:I.Ok P) {t:Nat} {a b:Value} {r:Bool} (h:nilEq a b=some r) (ht:eqOk I t a=true) (w:World) (d:Nat):(Op.equalIn (d+1) t a b).run P w= .ok r w:=by
 unfold eqOk at ht
 cases hx:yn I t with
 |none=>rw[hx] at ht;cases ht
 |some x=>
  rw[hx] at ht
  have hu:=(hI.get hx).under w
  unfold Op.equalIn
  rw[jc hu]
  clear hu hI hx
  obtain⟨D,n1,n2,n3⟩:=x
  simp only at ht⊢
  cases a<;>cases D<;>first|(cases ht;done)|skip
  ·cases b<;>cases h;rfl
  ·rename_i p e
   cases p<;>cases b<;>first|(cases h;done)|(rename_i q;cases q<;>cases h<;>rfl)
  ·rename_i p n c e
   cases p<;>cases b<;>first|(cases h;done)|(rename_i q _ _;cases q<;>cases h<;>rfl)
  rename_i p e _
  cases p<;>cases b<;>first|(cases h;done)|(rename_i q;cases q<;>cases h<;>rfl)
theorem run_nilEq {P:Program} {I:u0} (hI:I.Ok P) {t:Nat} {a b:Value} {r:Bool} (h:nilEq a b=some r) (ht:eqOk I t a=true) (w:World):(Op.equal t a b).run P w= .ok r w:=by
 have e:Op.equal t a b=Op.equalIn (9999+1) t a b:=rfl
 rw[e]
 exact run_nilEqIn hI h ht w 9999
theorem nilEq_fits {a b:Value} {r:Bool} (h:nilEq a b=some r):(∃p q,a= .pointer p∧b= .pointer q)∨(∃p n c q m d,a= .slice p n c∧b= .slice q m d)∨(∃p q,a= .map p∧b= .map q)∨(∃p q,a= .bool p∧b= .bool q):=by
 unfold nilEq at h
 split at h<;>first|(cases h;done)|(simp;done)
theorem str_beq (p q:ByteArray):(p.toList==q.toList)=decide (p=q):=by
 rw[ByteArray.toList_eq,ByteArray.toList_eq]
 obtain⟨⟨x⟩⟩:=p
 obtain⟨⟨y⟩⟩:=q
 rw[Bool.eq_iff_iff]
 simp
theorem run_strBin {P:Program} {op:BinOp} {p q:ByteArray} {v:Value} (h:strBin op p q=some v) (t:TypeId) (x y:Operand) (w:World):(do eqGuard op t x y (.string p) (.string q);binOp op t (.string p) (.string q):Sem Value).run P w= .ok v w:=by
 have e:(eqGuard op t x y (.string p) (.string q)).run P w= .ok () w:=by
  unfold eqGuard
  cases op<;>rfl
 have a:Op.bytesLess p.toList q.toList=decide (SLt p q):=by
  rw[ByteArray.toList_eq,ByteArray.toList_eq]
  exact(Bool.decide_eq_true (b:=Op.bytesLess p.data.toList q.data.toList)).symm
 have c:=str_beq p q
 rw[aK,e,aF]
 have d:∀o,binOp o t (.string p) (.string q)=Op.stringOp o p q:=fun o=>by cases o<;>rfl
 rw[d]
 unfold Op.stringOp
 rw[a,c]
 cases op<;>simp only[strBin,bG,reduceCtorEq] at h<;>subst h
 all_goals first|(simp only[aT];done)|(simp only[aT];congr 2<;>simp)
theorem run_bin {P:Program} {I:u0} (hI:I.Ok P) {t:Nat} {op:BinOp} {a b v:Value} (h:bin I t op a b=some v) (x y:Operand) (w:World):
  (do eqGuard op t x y a b;binOp op t a b:Sem Value).run P w= .ok v w:=by
 by_cases hst:∃p,a= .string p
 ·obtain⟨p,rfl⟩:=hst
  simp only[bin] at h
  split at h
  ·exact run_strBin h t x y w
  cases h
 by_cases hi:(∃k p,a= .int k p)∧(∃l q,b= .int l q)
 ·obtain⟨⟨k,p,rfl⟩,l,q,rfl⟩:=hi
  have e:(eqGuard op t x y (.int k p) (.int l q)).run P w= .ok () w:=by
   unfold eqGuard
   cases op<;>rfl
  rw[aK,e,aF]
  simp only[bin] at h
  split at h
  ·exact run_shiftBin h t w
  split at h
  ·rename_i s
   have o:k=l:=of_decide_eq_true s
   subst o
   exact run_intBin h t w
  cases h
 have f:binNil I t op a b=some v:=by
  cases a<;>first|exact h|exact absurd ⟨_,rfl⟩ hst|skip
  cases b<;>first|(cases h;done)|exact absurd ⟨⟨_,_,rfl⟩,_,_,rfl⟩ hi
 unfold binNil at f
 split at f
 ·cases f
 rename_i i
 split at f
 ·split at f
  ·rename_i r j
   cases f
   have g:=run_nilEq hI j i w
   obtain⟨p,q,rfl,rfl⟩|⟨p,n,c,q,m,d,rfl,rfl⟩|⟨p,q,rfl,rfl⟩|⟨p,q,rfl,rfl⟩:=nilEq_fits j
   all_goals
    rw[aK,show(eqGuard .eql t x y _ _).run P w= .ok () w from rfl,aF]
    show(do pure (Value.bool (←Op.equal t _ _)):Sem Value).run P w=_
    rw[aK,g]
    rfl
  cases f
 ·split at f
  ·rename_i r j
   cases f
   have g:=run_nilEq hI j i w
   obtain⟨p,q,rfl,rfl⟩|⟨p,n,c,q,m,d,rfl,rfl⟩|⟨p,q,rfl,rfl⟩|⟨p,q,rfl,rfl⟩:=nilEq_fits j
   all_goals
    rw[aK,show(eqGuard .neq t x y _ _).run P w= .ok () w from rfl,aF]
    show(do pure (Value.bool (!(←Op.equal t _ _))):Sem Value).run P w=_
    rw[aK,g]
    rfl
  cases f
 cases f
theorem evs_map {env:Env} {ρ:Operand→Value} (hρ:∀x u,xh env x=some u→ρ x=u):∀{l:List Operand} {vs:List Value},evs env l=some vs→l.map ρ=vs
 | [],vs,h=>by simp[evs] at h;subst h;rfl
 |y::r,vs,h=>by
  simp only[evs] at h
  split at h
  ·rename_i u hu
   split at h
   ·rename_i l' hl'
    simp at h;subst h
    simp[hρ _ _ hu,evs_map hρ hl']
   simp at h
  simp at h
theorem evs_arr {env:Env} {ρ:Operand→Value} (hρ:∀x u,xh env x=some u→ρ x=u) {xs:Array Operand} {vs:List Value} (h:evs env xs.toList=some vs):xs.map ρ=vs.toArray:=by
 apply cH
 rw[Array.toList_map,evs_map hρ h]
theorem run_fieldAt {P:Program} {I:u0} (hI:I.Ok P) {s f off n:Nat} (h:fieldOf I s f=some (off,n)) (b o:Nat) (w:World):
  (Instr.fieldAt s (.pointer (some ⟨b,o,none⟩)) f).run P w= .ok (.pointer (some ⟨b,o+off,none⟩)) w:=by
 unfold fieldOf at h
 split at h
 ·rename_i x hx
  have hu:=(hI.get hx).under w
  split at h
  ·rename_i fs hfs
   split at h
   ·rename_i g hg
    split at h
    ·rename_i y hy
     have hs:=(hI.get hy).sizeOf w
     split at h
     ·cases h
     rename_i m hm
     have hoff:off=g.offset:=by
      split at h
      ·rename_i h0;cases h;exact h0.symm
      rename_i k hk;cases h;exact hk.symm
     subst hoff
     unfold Instr.fieldAt
     rw[jc hu,hfs]
     simp only[hg,Instr.sureAddr,fieldPlace,aK,aT,aF,hs,hm]
     simp only[Addr.add]
     by_cases h0:g.offset=0
     ·simp[h0]
     simp[h0]
    cases h
   cases h
  cases h
 cases h
theorem A7 {P:Program} {I:u0} (hI:I.Ok P) {o:Oper} {env:Env} {v:Value} (h:pev I o.op env=some v) (w:World):Ov P o env w v w:=by
 intro ρ hρ
 obtain⟨dst,op,type,pos,after,guard⟩:=o
 simp only at h
 cases op
 case move x=>simp only[pev] at h;simp[execOp,hρ _ _ h]
 case assign x=>simp only[pev] at h;simp[execOp,hρ _ _ h]
 case pick c a b=>
  simp only[pev] at h
  split at h
  ·rename_i hc;simp[execOp,hρ _ _ hc,hρ _ _ h,asBool]
  ·rename_i hc;simp[execOp,hρ _ _ hc,hρ _ _ h,asBool]
  cases h
 case nilCheck x=>
  simp only[pev] at h
  split at h
  ·rename_i a hx;cases h;simp[execOp,hρ _ _ hx]
  cases h
 case fieldAddr s x f=>
  simp only[pev] at h
  split at h
  ·rename_i b q hx
   split at h
   ·rename_i off n hf
    cases h
    simp[execOp,hρ _ _ hx,run_fieldAt hI hf]
   cases h
  cases h
 case extract x i=>
  simp only[pev] at h
  split at h
  ·rename_i vs hx
   rw[nth_eq] at h
   have h':vs[i]? =some v:=by simpa using h
   simp[execOp,hρ _ _ hx,Instr.extract,h']
  cases h
 case binOp op t x y u=>
  simp only[pev] at h
  split at h
  ·rename_i a ha
   split at h
   ·rename_i b hb
    have:=run_bin hI h x y w
    simp only[execOp,hρ _ _ ha,hρ _ _ hb]
    rw[aK,this]
    rfl
   cases h
  cases h
 case unOp op t x=>
  cases op<;>simp only[pev] at h<;>first|(cases h;done)|skip
  split at h
  ·rename_i b hx;cases h;simp[execOp,hρ _ _ hx,Op.unary]
  cases h
 case convert s d x=>
  simp only[pev] at h
  split at h
  ·rename_i z hz
   have hz':=(hI.get hz).under w
   split at h
   ·rename_i y hy
    have hu:=(hI.get hy).under w
    split at h
    ·rename_i k hk
     split at h
     ·rename_i k' n hx
      cases h
      simp only[execOp,hρ _ _ hx,convert]
      rw[aK,jc hz',jc hu,hk]
      cases z.desc<;>rfl
     cases h
    cases h
   cases h
  cases h
 case makeFunc fn first captured=>
  simp only[pev] at h
  split at h
  ·rename_i a ha
   split at h
   ·rename_i c hc
    cases h
    simp[execOp,Instr.makeFunc,evs_arr hρ ha,evs_arr hρ hc]
   cases h
  cases h
 case call c=>
  obtain⟨callee,xs,ts⟩:=c
  cases callee
  case value=>cases h
  case invoke=>cases h
  case builtin b=>
   cases b
   case len=>
    simp only[pev] at h
    split at h
    ·rename_i x hxs
     have hx1:xs= #[x]:=by apply cH;simpa using hxs
     subst hx1
     split at h
     ·rename_i t hts
      have ht1:ts= #[t]:=by apply cH;simpa using hts
      subst ht1
      split at h
      ·rename_i y hy
       have hu:=(hI.get hy).under w
       have go:∀{u:Value},ρ x=u→∀{r:Value},(match y.desc,u with
         | .string,.string s=>(pure (goInt s.size):Sem Value)
         | .array n _,_=>pure (goInt n)
         | .slice _,.slice _ n _=>pure (goInt n)
         |_,_=> .halt .blocked).run P w= .ok r w→
         (execOp ρ {dst,op:= .call {callee:= .builtin .len,args:= #[x],argTypes:= #[t]},type,pos,after,guard}).run P w= .ok (.value r) w:=by
        intro u hu' r hr
        simp only[execOp,resolve,aK,aT,aF,invoke,builtin]
        have e:(Builtin.len_ #[t] type (Array.map ρ #[x])).run P w= .ok r w:=by
         have em:Array.map ρ #[x]= #[u]:=by simp[hu']
         rw[em]
         unfold Builtin.len_
         simp only[bT,cN]
         rw[jc hu]
         generalize y.desc=D at hr
         cases D<;>cases u<;>first|exact hr|(cases hr;done)
        rw[e]
        rfl
       split at h
       ·rename_i e hd
        split at h
        ·rename_i a n c hx
         cases h
         refine go (hρ _ _ hx) ?_
         rw[hd];rfl
        cases h
       ·rename_i hd
        split at h
        ·rename_i s hx
         cases h
         refine go (hρ _ _ hx) ?_
         rw[hd];rfl
        cases h
       ·rename_i n e hd
        split at h
        ·rename_i u hx
         cases h
         refine go (hρ _ _ hx) ?_
         rw[hd];cases u<;>rfl
        cases h
       cases h
      cases h
     cases h
    cases h
   case min=>
    simp only[pev] at h
    split at h
    ·rename_i x y hxs
     have hx1:xs= #[x,y]:=by apply cH;simpa using hxs
     subst hx1
     split at h
     ·rename_i k p hx
      split at h
      ·rename_i k' q hy
       cases h
       simp[execOp,resolve,invoke,builtin,Builtin.min_,hρ _ _ hx,hρ _ _ hy,Builtin.min2]
      cases h
     cases h
    cases h
   case max=>
    simp only[pev] at h
    split at h
    ·rename_i x y hxs
     have hx1:xs= #[x,y]:=by apply cH;simpa using hxs
     subst hx1
     split at h
     ·rename_i k p hx
      split at h
      ·rename_i k' q hy
       cases h
       simp[execOp,resolve,invoke,builtin,Builtin.max_,hρ _ _ hx,hρ _ _ hy,Builtin.max2]
      cases h
     cases h
    cases h
   all_goals (cases h;done)
 all_goals (cases h;done)
def zw9 (n:Nat) (dst:Option Tmp) (v:Value) (env:Env):Option Env:=
  match dst with
  |some d=>match Nat.blt d n with
    |true=>some ((d,v)::env)
    |false=>none
  |none=>none
def xw8 (I:u0) (n:Nat):List Oper→Env→Option (List Oper×Env)
  | [],env=>some ([],env)
  |o::r,env=>match o.guard with
    |some _=>some (o::r,env)
    |none=>match pev I o.op env with
      |none=>some (o::r,env)
      |some v=>match zw9 n o.dst v env with
        |some env'=>xw8 I n r env'
        |none=>none
def pevsG (I:u0) (n:Nat) (ops:Array Oper):List Oper→Env→Option (List Oper×Env)
  | [],env=>some ([],env)
  |o::r,env=>match passes ops env o with
    |true=>match zw9 n o.dst undef env with
      |some env'=>pevsG I n ops r env'
      |none=>none
    |false=>match takes ops env o with
      |false=>none
      |true=>match pev I o.op env with
        |none=>some (o::r,env)
        |some v=>match zw9 n o.dst v env with
          |some env'=>pevsG I n ops r env'
          |none=>none
section
variable {P:Program} {I:u0} {f:Fs} {ops:Array Oper} {Q:vd} {rest:List Oper} {env:Env} {w:World}
theorem A4 {n:Nat} {dst:Option Tmp} {v:Value} {env env':Env} (h:zw9 n dst v env=some env'):dOk n dst=true∧env'=pushE dst v env:=by
 unfold zw9 at h
 split at h
 ·split at h
  ·rename_i d hd;cases h;exact⟨hd,rfl⟩
  cases h
 cases h
theorem j0 (hI:I.Ok P) {l l':List Oper} {env':Env} (h:xw8 I f.n l env=some (l',env')) (k:WL P f ops Q l' env' w):WL P f ops Q l env w:=by
 induction l generalizing env with
 |nil=>simp[xw8] at h;obtain⟨rfl,rfl⟩:=h;exact k
 |cons o r ih=>
  simp only[xw8] at h
  split at h
  ·simp at h;obtain⟨rfl,rfl⟩:=h;exact k
  rename_i a
  split at h
  ·simp at h;obtain⟨rfl,rfl⟩:=h;exact k
  rename_i v b
  split at h
  ·rename_i e c
   obtain⟨d,rfl⟩:=A4 c
   exact wl (yg (by simp[takes,a]) d (A7 hI b w) (ih h))
  cases h
theorem xq6 (hI:I.Ok P) {l l':List Oper} {env':Env} (h:pevsG I f.n ops l env=some (l',env')) (k:WL P f ops Q l' env' w):WL P f ops Q l env w:=by
 induction l generalizing env with
 |nil=>simp[pevsG] at h;obtain⟨rfl,rfl⟩:=h;exact k
 |cons o r ih=>
  simp only[pevsG] at h
  split at h
  ·rename_i c
   split at h
   ·rename_i e a
    obtain⟨b,rfl⟩:=A4 a
    exact wl (st_pass c b (ih h))
   cases h
  split at h
  ·cases h
  rename_i d
  split at h
  ·simp at h;obtain⟨rfl,rfl⟩:=h;exact k
  rename_i v g
  split at h
  ·rename_i e a
   obtain⟨b,rfl⟩:=A4 a
   exact wl (yg d b (A7 hI g w) (ih h))
  cases h
end
/-! ### What an operation that touches memory has before it -/
def addrOf (v:Option Value):Option (Nat×Nat):=
  match v with
  |some (.pointer (some ⟨b,off,none⟩))=>some (b,off)
  |_=>none
theorem addrOf_eq {v:Option Value} {b off:Nat} (h:addrOf v=some (b,off)):v=some (.pointer (some ⟨b,off,none⟩)):=by
 unfold addrOf at h
 split at h
 ·cases h;rfl
 cases h
def pre (n:Nat) (ops:Array Oper) (env:Env) (o:Oper):Bool:=
  match takes ops env o with
  |true=>dOk n o.dst
  |false=>false
theorem pre_eq {n:Nat} {ops:Array Oper} {env:Env} {o:Oper} (h:pre n ops env o=true):takes ops env o=true∧dOk n o.dst=true:=by
 unfold pre at h
 split at h
 ·exact⟨by assumption,h⟩
 cases h
def ldE (I:u0) (n:Nat) (ops:Array Oper) (env:Env) (o:Oper):Option (Nat×Nat×Option Nat×Nat):=
  match pre n ops env o with
  |false=>none
  |true=>match o.dst with
    |none=>none
    |some d=>match o.op with
      | .load t x=>match yn I t with
        |some y=>match addrOf (xh env x) with
          |some (b,off)=>match y.isAgg with
            |true=>match y.size with
              |0=>none
              |m+1=>some (b,off,some (m+1),d)
            |false=>some (b,off,none,d)
          |none=>none
        |none=>none
      |_=>none
def cellsOf (v:Value):List Value:=
  match v with
  | .agg cs=>cs.toList
  |v=>[v]
@[simp] theorem jh (l : List Value) : cellsOf (.agg l.toArray) = l := rfl
@[simp] theorem cellsOf_int (k : IntKind) (n : Int) : cellsOf (.int k n) = [.int k n] := rfl
@[simp] theorem cellsOf_bool (b : Bool) : cellsOf (.bool b) = [.bool b] := rfl
@[simp] theorem cellsOf_string (b : ByteArray) : cellsOf (.string b) = [.string b] := rfl
@[simp] theorem cellsOf_slice (p : Option Addr) (n c : Nat) : cellsOf (.slice p n c) = [.slice p n c] := rfl
@[simp] theorem cellsOf_pointer (p : Option Addr) : cellsOf (.pointer p) = [.pointer p] := rfl
theorem xn (v:Value):v.cells.toList=cellsOf v:=by cases v<;>rfl
theorem cellsOf_size (v:Value):v.cells.size=(cellsOf v).length:=by rw[←xn];simp
def stE (I:u0) (n:Nat) (ops:Array Oper) (env:Env) (o:Oper):Option (Nat×Nat×Nat×Value):=
  match pre n ops env o with
  |false=>none
  |true=>match o.op with
    | .store t x z=>match yn I t with
      |some y=>match addrOf (xh env x) with
        |some (b,off)=>match xh env z with
          |some v=>match o.dst with
            |none=>match y.size with
              |0=>none
              |m+1=>some (b,off,m+1,v)
            |some _=>none
          |none=>none
        |none=>none
      |none=>none
    |_=>none
def alE (I:u0) (n:Nat) (ops:Array Oper) (env:Env) (o:Oper):Option (Nat×Value×Nat):=
  match pre n ops env o with
  |false=>none
  |true=>match o.dst with
    |some d=>match o.op with
      | .alloc t=>match yn I t with
        |some y=>some (t,y.zero,d)
        |none=>none
      | .box t x=>match xh env x with
        |some v=>some (t,v,d)
        |none=>none
      |_=>none
    |none=>none
def ixE (I:u0) (n:Nat) (ops:Array Oper) (env:Env) (o:Oper):Option (Nat×Nat×Nat×Nat×Int×Nat):=
  match pre n ops env o with
  |false=>none
  |true=>match o.dst with
    |some d=>match o.op with
      | .indexAddr t x j=>match yn I t with
        |some y=>match xh env j with
          |some (.int _ i)=>match y.desc with
            | .slice e=>match yn I e with
              |some z=>match xh env x with
                |some (.slice (some ⟨b,off,none⟩) len _)=>match z.size with
                  |0=>none
                  |m+1=>some (b,off,len,m+1,i,d)
                |_=>none
              |none=>none
            | .array len e=>match yn I e with
              |some z=>match xh env x with
                |some (.pointer (some ⟨b,off,none⟩))=>match z.size with
                  |0=>none
                  |m+1=>some (b,off,len,m+1,i,d)
                |_=>none
              |none=>none
            |_=>none
          |_=>none
        |none=>none
      |_=>none
    |none=>none
section
variable {P:Program} {I:u0} {f:Fs} {ops:Array Oper} {o:Oper} {env:Env} {w:World} {K:Env→World→Prop}
theorem ldE_eq {n b off d:Nat} {m:Option Nat} (h:ldE I n ops env o=some (b,off,m,d)):takes ops env o=true∧dOk n o.dst=true∧o.dst=some d∧∃t x y,o.op= .load t x∧yn I t=some y∧xh env x=some (.pointer (some ⟨b,off,none⟩))∧
  ((y.isAgg=true∧m=some y.size)∨(y.isAgg=false∧m=none)):=by
 unfold ldE at h
 split at h
 ·cases h
 rename_i hp
 obtain⟨h1,h2⟩:=pre_eq hp
 refine⟨h1,h2,?_⟩
 split at h
 ·cases h
 rename_i d' hd
 split at h
 ·rename_i t x ho
  split at h
  ·rename_i y hy
   split at h
   ·rename_i b' off' ha
    split at h
    ·rename_i hagg
     split at h
     ·cases h
     rename_i m' hm';cases h;exact⟨hd,t,x,y,ho,hy,addrOf_eq ha,.inl ⟨hagg,by rw[hm']⟩⟩
    rename_i hagg;cases h;exact⟨hd,t,x,y,ho,hy,addrOf_eq ha,.inr ⟨hagg,rfl⟩⟩
   cases h
  cases h
 cases h
theorem ov_ld (hI:I.Ok P) {n b off d:Nat} {v:Value} (h:ldE I n ops env o=some (b,off,none,d)) (hc:w.cell? ⟨b,off,none⟩=some v):Ov P o env w v w:=by
 obtain⟨m,p,_,t,x,y,f,g,i,j⟩:=ldE_eq h
 have a:y.isAgg=false:=by
  rcases j with⟨c,k⟩|⟨c,_⟩
  ·cases k
  exact c
 intro q l
 have e:=(hI.get g).isAgg w
 rw[a] at e
 simp[execOp,f,l _ _ i,Instr.loadAt,Instr.sureAddr,loadVar,e,hc]
theorem ov_ldN (hI:I.Ok P) {n b off m d:Nat} {l:List Value} (h:ldE I n ops env o=some (b,off,some m,d)) (hs:Seg w b off l) (hl:l.length=m):Ov P o env w (.agg l.toArray) w:=by
 obtain⟨s,u,_,t,x,y,g,e,i,j⟩:=ldE_eq h
 obtain⟨a,rfl⟩:y.isAgg=true∧m=y.size:=by
  rcases j with⟨k,c⟩|⟨_,c⟩
  ·exact⟨k,cG c⟩
  cases c
 intro v p
 have f:=(hI.get e).isAgg w
 rw[a] at f
 have q:=(hI.get e).sizeOf w
 have r:=vh (P:=P) (w:=w) (b:=b) (off:=off) y.size 0 l #[] (by simpa using hs) hl
 simp only[execOp,g,p _ _ i,Instr.loadAt,Instr.sureAddr,loadVar,aK,aT,aF,f,cO,q,loadCells,r]
 simp
theorem st_ld (hI:I.Ok P) {b off d:Nat} {v:Value} (h:ldE I f.n ops env o=some (b,off,none,d)) (hc:w.cell? ⟨b,off,none⟩=some v)
  (k:K ((d,v)::env) w):St P f ops o env w K:=
 have⟨h1,h2,h3,_⟩:=ldE_eq h
 yg h1 h2 (ov_ld hI h hc) (by rw[h3];exact k)
theorem st_ldb (hI:I.Ok P) {b off d:Nat} {v:Value} {T:Nat} {l:List Value} (hb:gz w b T l) (h:ldE I f.n ops env o=some (b,off,none,d)) (hv:nth l off=some v)
  (k:K ((d,v)::env) w):St P f ops o env w K:=
 st_ld hI h (hb.cell (by rw[←nth_eq];exact hv)) k
theorem st_ldN (hI:I.Ok P) {b off m d:Nat} {l:List Value} (h:ldE I f.n ops env o=some (b,off,some m,d)) (hs:Seg w b off l) (hl:l.length=m)
  (k:K ((d,.agg l.toArray)::env) w):St P f ops o env w K:=
 have⟨h1,h2,h3,_⟩:=ldE_eq h
 yg h1 h2 (ov_ldN hI h hs hl) (by rw[h3];exact k)
theorem st_ldB (hI:I.Ok P) {b m d:Nat} {T:Nat} {l:List Value} (hb:gz w b T l) (h:ldE I f.n ops env o=some (b,0,some m,d)) (hl:l.length=m)
  (k:K ((d,.agg l.toArray)::env) w):St P f ops o env w K:=
 st_ldN hI h hb.kj hl k
theorem stE_eq {n b off m:Nat} {v:Value} (h:stE I n ops env o=some (b,off,m,v)):takes ops env o=true∧dOk n o.dst=true∧o.dst=none∧∃t x z y,o.op= .store t x z∧yn I t=some y∧xh env x=some (.pointer (some ⟨b,off,none⟩))∧xh env z=some v∧m=y.size:=by
 unfold stE at h
 split at h
 ·cases h
 rename_i hp
 obtain⟨h1,h2⟩:=pre_eq hp
 split at h
 ·rename_i t x z ho
  split at h
  ·rename_i y hy
   split at h
   ·rename_i b' off' ha
    split at h
    ·rename_i v' hv
     split at h
     ·rename_i hd
      split at h
      ·cases h
      rename_i m' hm';cases h;exact⟨h1,h2,hd,t,x,z,y,ho,hy,addrOf_eq ha,hv,hm'.symm⟩
     cases h
    cases h
   cases h
  cases h
 cases h
theorem D3 (hI:I.Ok P) {b off m T:Nat} {v:Value} {l:List Value} (hb:gz w b T l) (h:stE I f.n ops env o=some (b,off,m,v)) (hl:(cellsOf v).length=m) (hroom:off+m≤l.length) (h1c:∀u∈cellsOf v,u.oneCell'=true)
  (k:∀w',gz w' b T (put l off (cellsOf v))→Ext (One b) w w'→w'.heap.size=w.heap.size→K env w'):St P f ops o env w K:=by
 obtain⟨g,i,j,t,x,z,y,p,q,r,s,a⟩:=stE_eq h
 obtain⟨w',A,c,B,C⟩:=vq (P:=P) (cellsOf v) w l off 0 hb zo h1c
 refine st_s (w':=w') g i (fun D d=> ?_) (by rw[j];exact k w' (by simpa using c) B C)
 have e:=(hI.get q).sizeOf w
 rw[←a] at e
 simp only[execOp,p,d _ _ r,d _ _ s,Instr.storeAt,Instr.sureAddr,storeVar,aK,aT,aF,e,cellsOf_size,hl,xn]
 simp[A]
def setF:List Value→Nat→Value→Option (List Value)
  | [],_,_=>none
  |_::r,0,v=>some (v::r)
  |x::r,n+1,v=>match setF r n v with
    |some r'=>some (x::r')
    |none=>none
theorem setF_eq:∀{l:List Value} {n:Nat} {v:Value} {l':List Value},setF l n v=some l'→l'=l.set n v∧n<l.length
 | [],_,_,_,h=>by simp[setF] at h
 |x::r,0,v,l',h=>by simp[setF] at h;subst h;simp
 |x::r,n+1,v,l',h=>by
  simp only[setF] at h
  split at h
  ·rename_i r' hr
   cases h
   have:=setF_eq hr
   simp[this.1,this.2]
  cases h
def flat (v:Value):Bool:=
  match v with
  | .agg _=>false
  | .tuple _=>false
  |_=>true
theorem flat_eq {v:Value} (h:flat v=true):v.oneCell'=true∧cellsOf v=[v]:=by
 cases v<;>first|(cases h;done)|exact⟨rfl,rfl⟩
theorem yi (hI:I.Ok P) {b off T:Nat} {v:Value} {l l':List Value} (hb:gz w b T l) (h:stE I f.n ops env o=some (b,off,1,v)) (hv:flat v=true) (hl:setF l off v=some l')
  (k:∀w',gz w' b T l'→Ext (One b) w w'→w'.heap.size=w.heap.size→K env w'):St P f ops o env w K:=by
 obtain⟨d,a⟩:=flat_eq hv
 obtain⟨rfl,e⟩:=setF_eq hl
 refine D3 hI hb h (by rw[a];rfl) zo (by rw[a];simpa using d) fun w' c g i=>k w' ?_ g i
 rw[a] at c
 exact c
theorem qz (hI:I.Ok P) {b off T:Nat} {v:Value} {l:List Value} (hb:gz w b T l) (h:stE I f.n ops env o=some (b,off,1,v)) (hv:flat v=true) (hl:off<l.length)
  (k:∀w',gz w' b T (l.set off v)→Ext (One b) w w'→w'.heap.size=w.heap.size→K env w'):St P f ops o env w K:=by
 obtain⟨d,a⟩:=flat_eq hv
 refine D3 hI hb h (by rw[a];rfl) zo (by rw[a];simpa using d) fun w' c e g=>k w' ?_ e g
 rw[a] at c
 exact c
theorem Az {l l':List Value} (h:l'.length=l.length):put l 0 l'=l':=by
 rw[put_eq _ _ _ zo]
 simp[h]
theorem j4 (hI:I.Ok P) {b m T:Nat} {v:Value} {l:List Value} (hb:gz w b T l) (h:stE I f.n ops env o=some (b,0,m,v)) {l':List Value} (hv:cellsOf v=l') (hm:l'.length=m) (hl:l'.length=l.length) (h1c:∀u∈l',u.oneCell'=true)
  (k:∀w',gz w' b T l'→Ext (One b) w w'→w'.heap.size=w.heap.size→K env w'):St P f ops o env w K:=by
 subst hv
 exact D3 hI hb h hm zo h1c fun w' a c d=>k w' (by rw[Az hl] at a;exact a) c d
theorem alE_eq {n t d:Nat} {v:Value} (h:alE I n ops env o=some (t,v,d)):takes ops env o=true∧dOk n o.dst=true∧o.dst=some d∧((∃y,o.op= .alloc t∧yn I t=some y∧v=y.zero)∨(∃x,o.op= .box t x∧xh env x=some v)):=by
 unfold alE at h
 split at h
 ·cases h
 rename_i hp
 obtain⟨h1,h2⟩:=pre_eq hp
 split at h
 ·rename_i d' hd
  split at h
  ·rename_i t' ho
   split at h
   ·rename_i y hy;cases h;exact⟨h1,h2,hd,.inl ⟨y,ho,hy,rfl⟩⟩
   cases h
  ·rename_i t' x ho
   split at h
   ·rename_i v' hv;cases h;exact⟨h1,h2,hd,.inr ⟨x,ho,hv⟩⟩
   cases h
  cases h
 cases h
theorem ov_al (hI:I.Ok P) {n t d:Nat} {v:Value} (h:alE I n ops env o=some (t,v,d)):Ov P o env w (.pointer (some ⟨w.heap.size,0,none⟩)) (w.alloc (.cells v.cells t)):=by
 obtain⟨i,j,k,b⟩:=alE_eq h
 intro l c
 rcases b with⟨y,a,e,rfl⟩|⟨x,a,f⟩
 ·have g:=(hI.get e).zeroValue w
  simp[execOp,a,Instr.alloc,g,newVar,newRow]
 simp[execOp,a,Instr.box,c _ _ f,newVar,newRow]
theorem Ba (hI:I.Ok P) {t d:Nat} {v:Value} (h:alE I f.n ops env o=some (t,v,d))
  (k:∀(b:Nat) w',w.heap.size≤b→gz w' b t (cellsOf v)→Ext No w w'→K ((d,.pointer (some ⟨b,0,none⟩))::env) w'):St P f ops o env w K:=by
 obtain⟨a,c,e,g⟩:=alE_eq h
 refine yg a c (ov_al hI h) ?_
 rw[e]
 refine k _ _ (aD _) ?_ (Ext.alloc _ _ _)
 have:=Cc w (cellsOf v) t
 rwa [show(cellsOf v).toArray=v.cells from by rw[←xn]] at this
theorem ixE_eq {n b off len sz d:Nat} {i:Int} (h:ixE I n ops env o=some (b,off,len,sz,i,d)):takes ops env o=true∧dOk n o.dst=true∧o.dst=some d∧∃t x j y z k e,o.op= .indexAddr t x j∧yn I t=some y∧yn I e=some z∧sz=z.size∧xh env j=some (.int k i)∧
  ((∃c,y.desc= .slice e∧xh env x=some (.slice (some ⟨b,off,none⟩) len c))∨(y.desc= .array len e∧xh env x=some (.pointer (some ⟨b,off,none⟩)))):=by
 unfold ixE at h
 split at h
 ·cases h
 rename_i A
 obtain⟨q,r⟩:=pre_eq A
 split at h
 ·rename_i D s
  split at h
  ·rename_i t x j u
   split at h
   ·rename_i y v
    split at h
    ·rename_i k E w
     split at h
     ·rename_i e l
      split at h
      ·rename_i z m
       split at h
       ·rename_i B f g c p
        split at h
        ·cases h
        rename_i C a
        cases h
        exact⟨q,r,s,t,x,j,y,z,k,e,u,v,m,a.symm,w,.inl ⟨c,l,p⟩⟩
       cases h
      cases h
     ·rename_i g e l
      split at h
      ·rename_i z m
       split at h
       ·rename_i B f p
        split at h
        ·cases h
        rename_i C a
        cases h
        exact⟨q,r,s,t,x,j,y,z,k,e,u,v,m,a.symm,w,.inr ⟨l,p⟩⟩
       cases h
      cases h
     cases h
    cases h
   cases h
  cases h
 cases h
theorem addr_add (b off n:Nat):(⟨b,off,none⟩:Addr).add n=⟨b,off+n,none⟩:=by
 unfold Addr.add;split
 ·rename_i h0;subst h0;rfl
 rfl
theorem ov_ix (hI:I.Ok P) {n b off len sz d:Nat} {i:Int} (h:ixE I n ops env o=some (b,off,len,sz,i,d)) (ss:Nat) (hss:sz=ss) (j:Nat) (hj:i=(j:Int)) (hlt:j<len) (q:Nat) (hq:q=off+j*ss):Ov P o env w (.pointer (some ⟨b,q,none⟩)) w:=by
 subst hss
 obtain⟨B,C,D,t,x,E,y,z,k,e,r,u,v,rfl,f,A⟩:=ixE_eq h
 subst hj
 subst hq
 intro F g
 have l:=(hI.get u).under w
 have s:=(hI.get v).sizeOf w
 have a:(0:Int)≤(j:Int)∧(j:Int)<(len:Int):=by omega
 rcases A with⟨c,m,p⟩|⟨m,p⟩
 ·rw[m] at l
  simp only[execOp,r,g _ _ p,g _ _ f,Instr.indexAt,asIntOf,aK,aT,aF,l,a,and_self,cO,s,addr_add,cC]
 rw[m] at l
 simp only[execOp,r,g _ _ p,g _ _ f,Instr.indexAt,asIntOf,Instr.sureAddr,aK,aT,aF,l,a,and_self,cO,s,addr_add,cC]
theorem st_ix (hI:I.Ok P) {b off len sz d:Nat} {i:Int} (h:ixE I f.n ops env o=some (b,off,len,sz,i,d)) (ss:Nat) (hss:sz=ss) (j:Nat) (hj:i=(j:Int)) (hlt:j<len) (q:Nat) (hq:q=off+j*ss)
  (k:K ((d,.pointer (some ⟨b,q,none⟩))::env) w):St P f ops o env w K:=
 have⟨h1,h2,hd,_⟩:=ixE_eq h
 yg h1 h2 (ov_ix hI h ss hss j hj hlt q hq) (by rw[hd];exact k)
end
/-! ### Operations that leave the world as it is, whatever they are given -/
def Qt {α:Type} (s:Sem α):Prop:=∀(P:Program) (w:World) (n:α) (w':World),s.run P w= .ok n w'→w'=w
theorem Qt.pure {α:Type} (a:α):Qt (pure a:Sem α):=fun P w n w' h=>by
 simp only[aT,Result.ok.injEq] at h;exact h.2.symm
theorem Qt.bind {α β:Type} {s:Sem α} {k:α→Sem β} (hs:Qt s) (hk:∀a,Qt (k a)):Qt (s>>=k):=fun P w n w' h=>by
 rw[aK] at h
 cases hr:s.run P w with
 |ok a w1=>
  rw[hr] at h
  have e:=hs P w a w1 hr
  subst e
  exact hk a P _ n w' h
 |halt x w1=>rw[hr] at h;cases h
theorem Qt.stuck {α:Type} (m:String):Qt (stuck m:Sem α):=fun P w n w' h=>by simp[Go.stuck] at h
theorem Qt.unsupported {α:Type} (m:Unsupported):Qt (unsupported m:Sem α):=fun P w n w' h=>by simp[Go.unsupported] at h
theorem Qt.program:Qt program:=fun P w n w' h=>by simp only[run_program,Result.ok.injEq] at h;exact h.2.symm
theorem Qt.getObj (r:Nat):Qt (getObj r):=fun P w n w' h=>by
 simp only[Go.getObj,Sem.run] at h
 split at h<;>simp_all
def Nv {α:Type} (s:Sem α):Prop:=∀(P:Program) (w:World) (n:α) (w':World),s.run P w≠ .ok n w'
theorem Nv.halt {α:Type} (h:Halt):Nv (.halt h:Sem α):=fun P w n w' h=>by simp at h
theorem Nv.bind {α β:Type} {s:Sem α} {k:α→Sem β} (hk:∀a,Nv (k a)):Nv (s>>=k):=fun P w n w' h=>by
 rw[aK] at h
 cases hr:s.run P w with
 |ok a w1=>rw[hr] at h;exact absurd h (hk a P w1 n w')
 |halt x w1=>rw[hr] at h;cases h
theorem Nv.qt {α:Type} {s:Sem α} (h:Nv s):Qt s:=fun P w n w' e=>absurd e (h P w n w')
theorem xr {α:Type} (e:RuntimeError):Nv (runtimePanic e:Sem α):=by
 unfold runtimePanic
 refine .bind fun p=> ?_
 dsimp only
 cases e<;>dsimp only<;>repeat' first|exact Nv.halt _|refine Nv.bind fun _=> ?_
theorem yu {α:Type} (k:IntKind) (x y:Int) (c:BoundsCode):Nv (boundsPanic k x y c:Sem α):=by
 unfold Go.boundsPanic
 dsimp only
 split<;>repeat' first|exact xr _|refine Nv.bind fun _=> ?_
theorem Qt.underlying (t:TypeId):Qt (underlying t):=by
 unfold Go.underlying
 repeat' first|exact Qt.pure _|exact Qt.stuck _|exact Qt.unsupported _|exact Qt.program|exact Qt.getObj _|exact(yu _ _ _ _).qt|exact(xr _).qt|assumption|refine Qt.bind ?_ fun _=> ?_|split|dsimp only
theorem Qt.sizeOf (t:TypeId):Qt (Go.sizeOf t):=by
 unfold Go.sizeOf typeInfo
 repeat' first|exact Qt.pure _|exact Qt.stuck _|exact Qt.unsupported _|exact Qt.program|exact Qt.getObj _|exact(yu _ _ _ _).qt|exact(xr _).qt|assumption|refine Qt.bind ?_ fun _=> ?_|split|dsimp only
theorem Qt.asIntOf (v:Value):Qt (asIntOf v):=by
 unfold Go.asIntOf
 repeat' first|exact Qt.pure _|exact Qt.stuck _|exact Qt.unsupported _|exact Qt.program|exact Qt.getObj _|exact(yu _ _ _ _).qt|exact(xr _).qt|assumption|refine Qt.bind ?_ fun _=> ?_|split|dsimp only
theorem Qt.sliceBound (x:Value) (y:Nat) (c:BoundsCode):Qt (Instr.sliceBound x y c):=by
 unfold Instr.sliceBound
 have:=Qt.asIntOf x
 repeat' first|exact Qt.pure _|exact Qt.stuck _|exact Qt.unsupported _|exact Qt.program|exact Qt.getObj _|exact(yu _ _ _ _).qt|exact(xr _).qt|assumption|refine Qt.bind ?_ fun _=> ?_|split|dsimp only
theorem Qt.sliceBounds (b:Bool) (n c:Nat) (lo hi mx:Option Value):Qt (Instr.sliceBounds b n c lo hi mx):=by
 unfold Instr.sliceBounds;have:=Qt.sliceBound
 repeat' first|exact Qt.sliceBound _ _ _|exact Qt.pure _|exact Qt.stuck _|refine Qt.bind ?_ fun _=> ?_|split|dsimp only
theorem Qt.asAddr (x:Value):Qt (asAddr x):=by
 unfold Go.asAddr
 repeat' first|exact Qt.pure _|exact Qt.stuck _|exact Qt.unsupported _|exact Qt.program|exact Qt.getObj _|exact(yu _ _ _ _).qt|exact(xr _).qt|assumption|refine Qt.bind ?_ fun _=> ?_|split|dsimp only
theorem Qt.sureAddr (x:Value):Qt (Instr.sureAddr x):=by
 unfold Instr.sureAddr
 repeat' first|exact Qt.pure _|exact Qt.stuck _|exact Qt.unsupported _|exact Qt.program|exact Qt.getObj _|exact(yu _ _ _ _).qt|exact(xr _).qt|assumption|refine Qt.bind ?_ fun _=> ?_|split|dsimp only
theorem Qt.slice (t:TypeId) (x:Value) (lo hi mx:Option Value):Qt (Instr.slice t x lo hi mx):=by
 unfold Instr.slice
 repeat' first|exact Qt.underlying _|exact Qt.sizeOf _|exact Qt.asAddr _|exact Qt.sliceBounds _ _ _ _ _ _|exact Qt.pure _|exact Qt.stuck _|refine Qt.bind ?_ fun _=> ?_|split|dsimp only
theorem Qt.sliceAt (t:TypeId) (x:Value) (lo hi mx:Option Value):Qt (Instr.sliceAt t x lo hi mx):=by
 unfold Instr.sliceAt
 repeat' first|exact Qt.underlying _|exact Qt.sizeOf _|exact Qt.sureAddr _|exact Qt.slice _ _ _ _ _|exact Qt.sliceBounds _ _ _ _ _ _|exact Qt.pure _|exact Qt.stuck _|refine Qt.bind ?_ fun _=> ?_|split|dsimp only
theorem Qt.len (ts:Array TypeId) (t:TypeId) (xs:Array Value):Qt (Builtin.len_ ts t xs):=by
 unfold Builtin.len_
 repeat' first|exact Qt.underlying _|exact Qt.getObj _|exact Qt.pure _|exact Qt.stuck _|refine Qt.bind ?_ fun _=> ?_|split|dsimp only
theorem Qt.minI (ts:Array TypeId) (t:TypeId) (x:Value) (k:IntKind) (n:Int) (xs:Array Value) (h:xs.toList=[x,.int k n]):Qt (Builtin.min_ ts t xs):=by
 unfold Builtin.min_
 rw[h]
 dsimp only
 refine .bind ?_ fun a=> .pure _
 unfold Builtin.min2
 split
 ·exact .pure _
 ·rename_i h2;cases h2
 ·rename_i h2;cases h2
 ·exact .unsupported _
 ·exact .unsupported _
 exact .stuck _
def xw2:Op→Bool
  | .move _| .assign _=>true
  | .call {callee:= .builtin .len,..}=>true
  | .call {callee:= .builtin .min,args:=xs,..}=>match xs.toList with
    | [_,.const (.int _ _)]=>true
    |_=>false
  | .slice .. =>true
  |_=>false
def QtV (s:Sem Next):Prop:=∀(P:Program) (w:World) (n:Next) (w':World),s.run P w= .ok n w'→w'=w∧∃v,n= .value v
theorem QtV.pure (v:Value):QtV (Pure.pure (.value v)):=fun P w n w' h=>by
 simp only[aT,Result.ok.injEq] at h;exact⟨h.2.symm,v,h.1.symm⟩
theorem QtV.val {s:Sem Value} (h:Qt s):QtV (s>>=fun v=>Pure.pure (.value v)):=fun P w n w' e=>by
 rw[aK] at e
 cases hr:s.run P w with
 |ok a w1=>
  rw[hr] at e
  have e1:=h P w a w1 hr
  subst e1
  simp only[Result.andThen,aT,Result.ok.injEq] at e
  exact⟨e.2.symm,a,e.1.symm⟩
 |halt x w1=>rw[hr] at e;cases e
theorem QtV.pb {α:Type} {x:α} {k:α→Sem Next} (h:QtV (k x)):QtV (Pure.pure x>>=k):=fun P w n w' e=>by
 rw[aK,aT] at e
 exact h P w n w' e
theorem stillK_spec {o:Oper} (h:xw2 o.op=true) (a:Act):QtV (execOp a.eval o):=by
 obtain⟨f,op,m,i,p,g⟩:=o
 dsimp only at h
 cases op with
 |move x=>exact .pure _
 |assign x=>exact .pure _
 |slice t x lo hi mx=>exact .val (.sliceAt _ _ _ _ _)
 |call c=>
  obtain⟨d,j,q⟩:=c
  cases d with
  |builtin b=>
   cases b with
   |len=>exact .pb (.val (.len _ _ _))
   |min=>
    simp only[xw2] at h
    split at h
    ·rename_i r x k n e
     have l:(j.map a.eval).toList=[a.eval x,.int k n]:=by simp only[Array.toList_map,e,dL,List.map_nil,Act.eval]
     exact .pb (.val (.minI _ _ _ _ _ _ l))
    cases h
   |_=>cases h
  |_=>cases h
 |_=>cases h
def stillAt (ops:Array Oper) (j:Nat):Bool:=match ops[j]? with
  |some o=>xw2 o.op
  |none=>false
theorem wpOp_still {P:Program} {ops:Array Oper} {Q:vd} {i:Nat} {o:Oper} (hi:ops[i]? =some o) (hs:xw2 o.op=true) {K:Act→World→Prop} {a:Act} {w:World} (h:wpOp P ops Q i K a w):wpOp P ops Q i (fun a' w'=>w'=w∧K a' w') a w:=by
 unfold wpOp at*
 simp only[hi] at*
 split
 ·rename_i b
  simp only[b,cO] at h
  rcases h with h|h
  ·refine .inl ?_
   unfold Oper.wp at*
   generalize hr:(execOp a.eval o).run P w=r at*
   cases r with
   |ok n w'=>
    obtain⟨e,v,rfl⟩:=stillK_spec hs a P w n w' hr
    exact⟨e,h⟩
   |halt x w'=>cases x<;>exact h
  exact .inr h
 rename_i b
 simp only[b,bI,cX] at h
 exact⟨by trivial,h⟩
def NQ (K:Act→World→Prop):vd:=fun e a w=>
  match e with
  | .normal=>K a w
  |_=>False
section
variable {P:Program} {ops:Array Oper} {C:World→Prop} {K:Act→World→Prop} {A:Nat→Bool}
def allA (A:Nat→Bool) (listed:Array Bool):Prop:=∀i,A i=true→listed.getD i true=true
def wpG (P:Program) (ops:Array Oper) (K:Act→World→Prop) (C:World→Prop) (A:Nat→Bool):Nat→Array Bool→Act→World→Prop
  |0,listed,a,w=>C w∧wpAny P .any ops (NQ K) 0 listed a w
  |fuel+1,listed,a,w=>C w∧(allA A listed→wpAny P .any ops (NQ K) (fuel+1) listed a w)∧
      (¬allA A listed→Region.ready .any ops listed≠[]∧∀i∈Region.ready .any ops listed,wpOp P ops (NQ K) i (wpG P ops K C A fuel (listed.setIfInBounds i true)) a w)
theorem wpG_C:∀{fuel:Nat} {listed:Array Bool} {a:Act} {w:World},wpG P ops K C A fuel listed a w→C w
 |0,_,_,_,h=>h.1
 |_+1,_,_,_,h=>h.1
theorem Bq:∀(fuel:Nat) (listed:Array Bool) (a:Act) (w:World),wpG P ops K C A fuel listed a w→wpAny P .any ops (NQ K) fuel listed a w
 |0,_,_,_,h=>h.2
 |fuel+1,listed,a,w,h=>by
  by_cases hA:allA A listed
  ·exact h.2.1 hA
  obtain⟨hne,hall⟩:=h.2.2 hA
  exact⟨fun h0=>absurd h0 hne,fun i hi=>wpOp_mono (fun a' w' h'=>Bq fuel _ a' w' h') (hall i hi)⟩
def Af (P:Program) (ops:Array Oper) (C:World→Prop) (o:Oper) (v:Value) (a:Act):Prop:=
  (Region.wanted o (yielded ops a.tmps)=true∧∀w,C w→(execOp a.eval o).run P w= .ok (.value v) w)∨
  (Region.wanted o (yielded ops a.tmps)=false∧v=undef)
theorem Af.wpOp {Q:vd} {i:Nat} {o:Oper} {v:Value} {a:Act} (hi:ops[i]? =some o) (hy:Af P ops C o v a) {w:World} (hC:C w) {K':Act→World→Prop} (h:K' (a.put o.dst v) w):Go.wpOp P ops Q i K' a w:=by
 unfold Go.wpOp
 simp only[hi]
 rcases hy with⟨b,c⟩|⟨b,rfl⟩
 ·simp only[b,cO,Oper.wp,c w hC,Oper.upon];exact .inl h
 simp only[b,bI,cX];exact h
theorem Af.of_same {o:Oper} {v:Value} {a a':Act} (hy:Af P ops C o v a) (he:execOp a'.eval o=execOp a.eval o)
  (hw:Region.wanted o (yielded ops a'.tmps)=Region.wanted o (yielded ops a.tmps)):Af P ops C o v a':=by
 unfold Af at*
 rw[he,hw]
 exact hy
theorem wpOpC_put {j:Nat} {oi oj:Oper} {v:Value} (hj:ops[j]? =some oj) (hap:oi.apart ops oj=true)
  (hsi:∀cs b,oi.op≠ .select cs b) (hsj:∀cs b,oj.op≠ .select cs b) {K':Act→World→Prop} {a:Act} {w:World}
  (hy:Af P ops C oi v a) (h:wpOp P ops (NQ K) j K' (a.put oi.dst v) w):
  wpOp P ops (NQ K) j (fun a' w'=>Af P ops C oi v a'∧K' (a'.put oi.dst v) w') a w:=by
 obtain⟨h1,h2,h3⟩:=Oper.apart_spec hap
 have keep:∀(a:Act),Af P ops C oi v a→∀u,Af P ops C oi v (a.put oj.dst u):=fun a hy u=>
  hy.of_same (execOp_put oi hsi a oj.dst u h3) (wanted_put oi a oj.dst u h3)
 have keepD:∀d,Af P ops C oi v {a with defers:=d::a.defers}:=fun d=>hy.of_same rfl rfl
 unfold wpOp at*
 simp only[hj] at*
 rw[wanted_put oj a oi.dst v h1] at h
 split
 ·rename_i hw
  simp only[hw,cO] at h
  rcases h with h|⟨hasks,hlets⟩
  case inr=>exact .inr ⟨by unfold Oper.asks at*;rw[execOp_put oj hsj a oi.dst v h1] at hasks;exact hasks,hlets⟩
  refine .inl ?_
  unfold Oper.wp at*
  rw[execOp_put oj hsj a oi.dst v h1] at h
  generalize(execOp a.eval oj).run P w=r at*
  cases r with
  |ok n w'=>
   cases n<;>simp only[Oper.upon] at h⊢
   case value u=>exact⟨keep a hy u,by rw[←Act.put_comm a v u h2];exact h⟩
   case skip=>exact⟨keep a hy _,by rw[←Act.put_comm a v undef h2];exact h⟩
   case defer d=>
    refine⟨keep _ (keepD d) _,?_⟩
    rw[←Act.put_comm _ v undef h2,←Act.put_defers]
    exact h
   case enter f args=>
    refine Calls.mono h fun e w'' he=> ?_
    cases e with
    |returned u=>exact⟨keep a hy u,by rw[←Act.put_comm a v u h2];exact he⟩
    |panicked c=>exact he
    |outgrown=>exact he
   case row row args=>exact Rows.mono h fun u w'' he=>⟨keep a hy u,by rw[←Act.put_comm a v u h2];exact he⟩
  |halt x w'=>
   cases x<;>simp only[Oper.upon] at h⊢
   case panic u=>exact h
 rename_i hw
 simp only[hw] at h
 exact⟨keep a hy _,by rw[←Act.put_comm a v undef h2];exact h⟩
def Closed (ops:Array Oper) (listed:Array Bool):Prop:=∀(j:Nat) (o:Oper),ops[j]? =some o→listed.getD j false=true→∀e∈o.after,Region.binds .any e=true→listed.getD e.on false=true
theorem Closed.set {ops:Array Oper} {listed:Array Bool} {j:Nat} (h:Closed ops listed) (hj:j∈Region.ready .any ops listed):Closed ops (listed.setIfInBounds j true):=by
 intro k o b d e f g
 obtain⟨_,i,c,a⟩:=mem_ready.1 hj
 by_cases hjk:j=k
 ·subst hjk
  rw[c] at b
  cases b
  exact getD_set_true (a e f g)
 rw[getD_set_ne false hjk] at d
 exact getD_set_true (h k o b d e f g)
def zv6 (ops:Array Oper):Nat→Nat→Nat→Bool
  |0,_,_=>false
  |n+1,j,i=>match ops[j]? with
    |some o=>o.after.any fun e=>Region.binds .any e&&(e.on==i||zv6 ops n e.on i)
    |none=>false
theorem zj5 {ops:Array Oper} {listed:Array Bool} (hc:Closed ops listed):∀(n:Nat) {j i:Nat} {o:Oper},ops[j]? =some o→(∀e∈o.after,Region.binds .any e=true→listed.getD e.on false=true)→zv6 ops n j i=true→listed.getD i false=true
 |0,_,_,_,_,_,h=>by simp[zv6] at h
 |n+1,j,i,o,ho,hall,h=>by
  simp only[zv6,ho] at h
  rw[←Array.any_toList,List.any_eq_true] at h
  obtain⟨e,he,h⟩:=h
  simp only[bV,Bool.or_eq_true,beq_iff_eq] at h
  have hl:=hall e (by simpa using he) h.1
  rcases h.2 with h2|h2
  ·rw[←h2];exact hl
  cases hk:ops[e.on]? with
  |none=>
   cases n with
   |zero=>simp[zv6] at h2
   |succ n=>simp[zv6,hk] at h2
  |some ok=>exact zj5 hc n hk (fun e' he' hb'=>hc _ ok hk hl e' he' hb') h2
def xj4 (ops:Array Oper) (A:Nat→Bool) (fl:List Nat):Bool:=
  (List.range ops.size).all fun j=>(A j||fl.contains j||stillAt ops j)||(List.range ops.size).all fun i=> !A i||(zv6 ops 6 j i||zv6 ops 16 j i)
theorem barOk_spec {fl:List Nat} (h:xj4 ops A fl=true) {j:Nat} {o:Oper} (ho:ops[j]? =some o) (hj:A j=false) (hjf:j∉fl) {i:Nat} {oi:Oper} (hoi:ops[i]? =some oi) (hi:A i=true):xw2 o.op=true∨∃n,zv6 ops n j i=true:=by
 unfold xj4 at h
 rw[dH] at h
 have c:j<ops.size:=(cL.1 ho).1
 have b:i<ops.size:=(cL.1 hoi).1
 have a:=h j (List.mem_range.2 c)
 rw[Bool.or_eq_true] at a
 rcases a with a|a
 ·left
  simp only[hj,Bool.false_or,Bool.or_eq_true,List.contains_iff_mem] at a
  rcases a with a|a
  ·exact absurd a hjf
  simpa only[stillAt,ho] using a
 right
 rw[dH] at a
 have d:=a i (List.mem_range.2 b)
 rw[hi,Bool.not_true,Bool.false_or,Bool.or_eq_true] at d
 exact d.elim (fun h=>⟨_,h⟩) fun h=>⟨_,h⟩
theorem A9 {l:Array Bool} {j k:Nat} (h:l.getD k true=true):(l.setIfInBounds j true).getD k true=true:=by
 by_cases hjk:j=k
 ·subst hjk
  by_cases hs:j<l.size
  ·simp[hs]
  simp[hs]
 rw[getD_set_ne true hjk];exact h
theorem wpG_of_any:∀{fuel:Nat} {listed:Array Bool} {a:Act} {w:World},C w→allA A listed→wpAny P .any ops (NQ K) fuel listed a w→wpG P ops K C A fuel listed a w
 |0,_,_,_,hC,_,h=>⟨hC,h⟩
 |_+1,_,_,_,hC,hA,h=>⟨hC,fun _=>h,fun hn=>absurd hA hn⟩
theorem wpG_first {i:Nat} {oi:Oper} {v:Value} {fl:List Nat} (hbar:xj4 ops A fl=true) (hi:ops[i]? =some oi) (hiA:A i=true) (hsel:∀(j:Nat) (o:Oper) cs b,ops[j]? =some o→o.op≠ .select cs b):
  ∀(fuel:Nat) (listed:Array Bool) (a:Act) (w:World),
   (∀j oj,ops[j]? =some oj→j≠i→listed.getD j true=false→(∀e∈oj.after,Region.binds .any e=true→e.on≠i)→oi.apart ops oj=true)→
   (∀j∈fl,listed.getD j true=true)→Closed ops listed→i∈Region.ready .any ops listed→Af P ops C oi v a→
   wpG P ops K C A fuel (listed.setIfInBounds i true) (a.put oi.dst v) w→wpG P ops K C A (fuel+1) listed a w:=by
 intro fuel
 induction fuel with
 |zero=>
  intro listed a w _ _ _ hr hy H
  refine⟨H.1,fun hA=> ?_,fun _=>⟨fun h=>(by rw[h] at hr;cases hr),fun j hj=> ?_⟩⟩
  ·have:=hA i hiA
   rw[(mem_ready.1 hr).1] at this
   cases this
  by_cases hji:j=i
  ·subst hji;exact hy.wpOp hi H.1 H
  have:=ready_mono hj hji
  rw[H.2.1] at this
  cases this
 |succ fuel ih=>
  intro listed a w hfree hfl hcl hr hy H
  refine⟨H.1,fun hA=> ?_,fun _=>⟨fun h=>(by rw[h] at hr;cases hr),fun j hj=> ?_⟩⟩
  ·have:=hA i hiA
   rw[(mem_ready.1 hr).1] at this
   cases this
  by_cases hji:j=i
  ·subst hji;exact hy.wpOp hi H.1 H
  obtain⟨hjun,oj,hoj,hall⟩:=mem_ready.1 hj
  have hnot:∀e∈oj.after,Region.binds .any e=true→e.on≠i:=fun e he hb heq=>by
   have h1:=hall e he hb
   have h0:=(mem_ready.1 hr).1
   rw[heq] at h1
   rcases bF i listed.size with h'|h'
   ·simp[h'] at h0 h1;rw[h0] at h1;cases h1
   simp[cI h'] at h1
  have hjA:A j=true∨xw2 oj.op=true:=by
   cases h':A j with
   |true=>exact .inl rfl
   |false=>
    have hjf:j∉fl:=fun hm=>by have:=hfl j hm;rw[hjun] at this;cases this
    rcases barOk_spec hbar hoj h' hjf hi hiA with hst|⟨n,hn⟩
    ·exact .inr hst
    have hli:=zj5 hcl n hoj hall hn
    have h0:=(mem_ready.1 hr).1
    rcases bF i listed.size with h'|h'
    ·simp[h'] at h0 hli;rw[h0] at hli;cases hli
    simp[cI h'] at hli
  have h1:wpOp P ops (NQ K) j (wpG P ops K C A fuel ((listed.setIfInBounds i true).setIfInBounds j true)) (a.put oi.dst v) w:=by
   by_cases hnA:allA A (listed.setIfInBounds i true)
   ·have hst:xw2 oj.op=true:=hjA.resolve_left fun hAj=>by
     have:=hnA j hAj
     rw[getD_set_ne true (Ne.symm hji),hjun] at this
     cases this
    have h0:=(H.2.1 hnA).2 j (ready_mono hj hji)
    refine wpOp_mono (fun a' w' h3=> ?_) (wpOp_still hoj hst h0)
    obtain⟨rfl,h3⟩:=h3
    exact wpG_of_any H.1 (fun k hk=>A9 (hnA k hk)) h3
   exact(H.2.2 hnA).2 j (ready_mono hj hji)
  have h2:=wpOpC_put hoj (hfree j oj hoj hji hjun hnot) (fun cs b=>hsel i oi cs b hi) (fun cs b=>hsel j oj cs b hoj) hy h1
  have hfree':∀k ok,ops[k]? =some ok→k≠i→(listed.setIfInBounds j true).getD k true=false→
    (∀e∈ok.after,Region.binds .any e=true→e.on≠i)→oi.apart ops ok=true:=fun k ok hk hki hun hno=>by
   refine hfree k ok hk hki ?_ hno
   by_cases hjk:j=k
   ·subst hjk;exact hjun
   rw[getD_set_ne true hjk] at hun;exact hun
  have hfl':∀k∈fl,(listed.setIfInBounds j true).getD k true=true:=fun k hk=>A9 (hfl k hk)
  refine wpOp_mono (fun a' w' h3=>ih (listed.setIfInBounds j true) a' w' hfree' hfl' (hcl.set hj) (ready_mono hr (Ne.symm hji)) h3.1 ?_) h2
  rw[Array.setIfInBounds_comm _ _ hji]
  exact h3.2
theorem xq4 {i:Nat} {oi:Oper} {v:Value} (hi:ops[i]? =some oi) (hsel:∀(j:Nat) (o:Oper) cs b,ops[j]? =some o→o.op≠ .select cs b):
  ∀(fuel:Nat) (listed:Array Bool) (a:Act) (w:World),
   (∀j oj,ops[j]? =some oj→j≠i→listed.getD j true=false→(∀e∈oj.after,Region.binds .any e=true→e.on≠i)→oi.apart ops oj=true)→
   i∈Region.ready .any ops listed→Af P ops (fun _=>True) oi v a→
   wpAny P .any ops (NQ K) fuel (listed.setIfInBounds i true) (a.put oi.dst v) w→wpAny P .any ops (NQ K) (fuel+1) listed a w:=by
 intro fuel
 induction fuel with
 |zero=>
  intro listed a w _ g s H
  refine⟨fun h=>(by rw[h] at g;cases g),fun j t=> ?_⟩
  by_cases hji:j=i
  ·subst hji;exact s.wpOp hi trivial H
  have:=ready_mono t hji
  rw[H.1] at this
  cases this
 |succ fuel ih=>
  intro listed a w c g s H
  refine⟨fun h=>(by rw[h] at g;cases g),fun j t=> ?_⟩
  by_cases hji:j=i
  ·subst hji;exact s.wpOp hi trivial H
  obtain⟨f,oj,l,n⟩:=mem_ready.1 t
  have p:∀e∈oj.after,Region.binds .any e=true→e.on≠i:=fun e C D u=>by
   have m:=n e C D
   have A:=(mem_ready.1 g).1
   rw[u] at m
   rcases bF i listed.size with x|x
   ·simp[x] at A m;rw[A] at m;cases m
   simp[cI x] at m
  have m:=H.2 j (ready_mono t hji)
  have E:=wpOpC_put l (c j oj l hji f p) (fun cs b=>hsel i oi cs b hi) (fun cs b=>hsel j oj cs b l) s m
  have d:∀k q,ops[k]? =some q→k≠i→(listed.setIfInBounds j true).getD k true=false→
    (∀e∈q.after,Region.binds .any e=true→e.on≠i)→oi.apart ops q=true:=fun k q F y r z=>by
   refine c k q F y ?_ z
   by_cases hjk:j=k
   ·subst hjk;exact f
   rw[getD_set_ne true hjk] at r;exact r
  refine wpOp_mono (fun G J B=>ih (listed.setIfInBounds j true) G J d (ready_mono g (Ne.symm hji)) B.1 ?_) E
  rw[Array.setIfInBounds_comm _ _ hji]
  exact B.2
theorem wpG_float {i:Nat} {oi:Oper} {v:Value} (hi:ops[i]? =some oi) (hiA:A i=false) (hsel:∀(j:Nat) (o:Oper) cs b,ops[j]? =some o→o.op≠ .select cs b):
  ∀(fuel:Nat) (listed:Array Bool) (a:Act) (w:World),
   (∀j oj,ops[j]? =some oj→j≠i→listed.getD j true=false→(∀e∈oj.after,Region.binds .any e=true→e.on≠i)→oi.apart ops oj=true)→
   i∈Region.ready .any ops listed→Af P ops (fun _=>True) oi v a→
   wpG P ops K C A fuel (listed.setIfInBounds i true) (a.put oi.dst v) w→wpG P ops K C A (fuel+1) listed a w:=by
 intro fuel
 induction fuel with
 |zero=>
  intro listed a w c d n H
  refine⟨H.1,fun _=>xq4 hi hsel 0 listed a w c d n H.2,fun _=>⟨fun h=>(by rw[h] at d;cases d),fun j x=> ?_⟩⟩
  by_cases hji:j=i
  ·subst hji;exact n.wpOp hi trivial H
  have:=ready_mono x hji
  rw[H.2.1] at this
  cases this
 |succ fuel ih=>
  intro listed a w c d n H
  refine⟨H.1,fun _=>xq4 hi hsel (fuel+1) listed a w c d n (Bq _ _ _ _ H),fun y=>⟨fun h=>(by rw[h] at d;cases d),fun j x=> ?_⟩⟩
  by_cases hji:j=i
  ·subst hji;exact n.wpOp hi trivial H
  obtain⟨g,oj,l,p⟩:=mem_ready.1 x
  have q:∀e∈oj.after,Region.binds .any e=true→e.on≠i:=fun e J L z=>by
   have m:=p e J L
   have F:=(mem_ready.1 d).1
   rw[z] at m
   rcases bF i listed.size with B|B
   ·simp[B] at F m;rw[F] at m;cases m
   simp[cI B] at m
  have r:¬allA A (listed.setIfInBounds i true):=fun M=>y fun k s=>by
   have:=M k s
   rwa [getD_set_ne true (show i≠k from fun e=>by subst e;rw[hiA] at s;cases s)] at this
  have m:=(H.2.2 r).2 j (ready_mono x hji)
  have N:=wpOpC_put l (c j oj l hji g q) (fun cs b=>hsel i oi cs b hi) (fun cs b=>hsel j oj cs b l) n m
  have f:∀k t,ops[k]? =some t→k≠i→(listed.setIfInBounds j true).getD k true=false→
    (∀e∈t.after,Region.binds .any e=true→e.on≠i)→oi.apart ops t=true:=fun k t s D u E=>by
   refine c k t s D ?_ E
   by_cases hjk:j=k
   ·subst hjk;exact g
   rw[getD_set_ne true hjk] at u;exact u
  refine wpOp_mono (fun O Q G=>ih (listed.setIfInBounds j true) O Q f (ready_mono d (Ne.symm hji)) G.1 ?_) N
  rw[Array.setIfInBounds_comm _ _ hji]
  exact G.2
/-! ### Along a plan -/
def mk (n:Nat):List Nat→Array Bool
  | []=>Array.replicate n false
  |i::r=>(mk n r).setIfInBounds i true
def yj8 (ops:Array Oper):List Nat→List Nat→Bool
  | [],dn=>(Region.ready .any ops (mk ops.size dn)).isEmpty
  |i::r,dn=>match Nat.blt i ops.size with
    |true=>(Region.ready .any ops (mk ops.size dn)==[i])&&yj8 ops r (i::dn)
    |false=>(Region.ready .any ops (mk ops.size dn)).contains (i-ops.size)&&Region.free .any ops (mk ops.size dn) (i-ops.size)&&yj8 ops r ((i-ops.size)::dn)
def B0 (ops:Array Oper) (A:Nat→Bool) (m:Nat):List (Nat×Bool)→List Nat→List Nat→Bool
  | [],pb,dn=>match m with
    |0=>(List.range ops.size).all (fun i=> !A i||(mk ops.size dn).getD i true)&&yj8 ops pb dn
    |_+1=>true
  |(i,true)::r,pb,dn=>(Region.ready .any ops (mk ops.size dn)).contains i&&Region.free .any ops (mk ops.size dn) i&&(A i&&B0 ops A m r pb (i::dn))
  |(i,false)::r,pb,dn=>(Region.ready .any ops (mk ops.size dn)==[i])&&(A i&&B0 ops A m r pb (i::dn))
theorem mk_size (n:Nat):∀l:List Nat,(mk n l).size=n
 | []=>by simp[mk]
 |i::r=>by simp[mk,mk_size n r]
structure Dr where
  A:Nat→Bool
  pb:List Nat
  C:World→Prop
  fl:List Nat:=[]
  m:Nat:=0
def WB (P:Program) (f:Fs) (ops:Array Oper) (K:Act→World→Prop) (pl:List Nat) (dn:List Nat) (env:Env) (w:World):Prop:=
  yj8 ops pl dn=true→∀a,Ag f env a→wpAny P .any ops (NQ K) pl.length (mk ops.size dn) a w
def WD (P:Program) (f:Fs) (ops:Array Oper) (K:Act→World→Prop) (r:Dr) (pl:List (Nat×Bool)) (dn:List Nat) (env:Env) (w:World):Prop:=
  B0 ops r.A r.m pl r.pb dn=true→xj4 ops r.A r.fl=true∧(∀j∈r.fl,(mk ops.size dn).getD j true=true)∧Closed ops (mk ops.size dn)→Region.noSelect ops=true→r.C w→∀a,Ag f env a→wpG P ops K r.C r.A (pl.length+r.m+r.pb.length) (mk ops.size dn) a w
variable {f:Fs} {env:Env} {w:World}
theorem j5 {Q:vd} {dn:List Nat} (h:Fin f Q .normal env w):WB P f ops (Q .normal) [] dn env w:=
 fun hp a ha=>⟨by simpa [yj8] using hp,h a ha⟩
theorem wb {i:Nat} {o:Oper} {pl dn:List Nat} (ho:ops[i]? =some o) (h:St P f ops o env w (WB P f ops K pl (i::dn))):WB P f ops K (i::pl) dn env w:=by
 intro e a n
 have b:Nat.blt i ops.size=true:=by
  have:i<ops.size:=(cL.1 ho).1
  simpa using this
 simp only[yj8,b,bV,beq_iff_eq] at e
 obtain⟨g,c⟩:=e
 refine⟨fun k=>(by rw[g] at k;cases k),fun j l=> ?_⟩
 rw[g] at l
 obtain rfl:j=i:=by simpa using l
 unfold wpOp
 simp only[ho]
 exact h a (NQ K) _ n fun m p r d q=>q c p d
theorem wbv {i k : Nat} {o : Oper} {pl dn : List Nat} (ho : ops[i]? = some o) (hk : k = ops.size + i) (hp : pre f.n ops env o = true) {d : Nat} (hd : o.dst = some d) {v : Value} (hv : ∀ w', Ov P o env w' v w') (hs : Region.noSelect ops = true)
    (h : WB P f ops K pl (i :: dn) ((d, v) :: env) w) : WB P f ops K (k :: pl) dn env w := by
  subst hk
  intro hpl a ha
  have hlt : Nat.blt (ops.size + i) ops.size = false := by
    cases hb : Nat.blt (ops.size + i) ops.size with
    | false => rfl
    | true => have : ops.size + i < ops.size := dD hb
              omega
  simp only [yj8, hlt, Nat.add_sub_cancel_left, bV] at hpl
  obtain ⟨⟨hr, hf⟩, hp'⟩ := hpl
  obtain ⟨h1, h2⟩ := pre_eq hp
  have := h hp' (a.put o.dst v) (by have := ha.put (v := v) h2; rwa [hd] at this ⊢)
  rw [aW]
  exact xq4 ho (Region.noSelect_spec hs) _ _ a w (Region.free_spec ho hf) (by simpa using hr) (.inl ⟨xv ha h1, fun w' _ => hv w' a.eval (fun x u hx => ha.eval hx)⟩) this
theorem wbf {I:u0} (hI:I.Ok P) {i k:Nat} {o:Oper} {pl dn:List Nat} (ho:ops[i]? =some o) (hk:k=ops.size+i) (hp:pre f.n ops env o=true) {d:Nat} (hd:o.dst=some d) {v:Value} (hv:pev I o.op env=some v) (hs:Region.noSelect ops=true)
  (h:WB P f ops K pl (i::dn) ((d,v)::env) w):WB P f ops K (k::pl) dn env w:=
 wbv ho hk hp hd (fun w'=>A7 hI hv w') hs h
theorem jg {r:Dr} {dn:List Nat} (h:WB P f ops K r.pb dn env w) (hm:r.m=0:=by rfl):WD P f ops K r [] dn env w:=by
 intro b l o d a e
 simp only[B0,hm,bV,dH] at b
 have g:allA r.A (mk ops.size dn):=fun i j=>by
  rcases bF i ops.size with c|c
  ·have:=b.1 i (List.mem_range.2 c)
   rwa [j,Bool.not_true,Bool.false_or] at this
  rw[cF,cI (by rw[mk_size];exact c)];rfl
 have:=h b.2 a e
 simp only[List.length_nil,bD,hm]
 cases hl:r.pb.length with
 |zero=>rw[hl] at this;exact⟨d,this⟩
 |succ n=>rw[hl] at this;exact⟨d,fun _=>this,fun k=>absurd g k⟩
theorem wd_q {r:Dr} {i:Nat} {o:Oper} {v:Value} {pl:List (Nat×Bool)} {dn:List Nat} (ho:ops[i]? =some o) (hp:pre f.n ops env o=true) {d:Nat} (hdd:o.dst=some d) (hv:∀w',r.C w'→Ov P o env w' v w')
  (k:WD P f ops K r pl (i::dn) ((d,v)::env) w):WD P f ops K r ((i,true)::pl) dn env w:=by
 obtain⟨q,s⟩:=pre_eq hp
 have k:WD P f ops K r pl (i::dn) (pushE o.dst v env) w:=by rw[hdd];exact k
 intro hp b l t a c
 simp only[B0,bV] at hp
 obtain⟨⟨p,y⟩,e,g⟩:=hp
 have:=k g ⟨b.1,fun j z=>A9 (b.2.1 j z),b.2.2.set (by simpa using p)⟩ l t _ (c.put s)
 simp only[aW]
 rw[show pl.length+1+r.m+r.pb.length=(pl.length+r.m+r.pb.length)+1 from by omega]
 exact wpG_first b.1 ho e (Region.noSelect_spec l) _ _ a w (Region.free_spec ho y) b.2.1 b.2.2 (by simpa using p) (.inl ⟨xv c q,fun w' h=>hv w' h a.eval (fun x u A=>c.eval A)⟩) this
theorem wd_pass {r:Dr} {i:Nat} {o:Oper} {pl:List (Nat×Bool)} {dn:List Nat} (ho:ops[i]? =some o) (hg:passes ops env o=true) (hd:dOk f.n o.dst=true)
  (k:WD P f ops K r pl (i::dn) (pushE o.dst undef env) w):WD P f ops K r ((i,true)::pl) dn env w:=by
 intro e b g p a h
 simp only[B0,bV] at e
 obtain⟨⟨l,q⟩,c,d⟩:=e
 have:=k d ⟨b.1,fun j s=>A9 (b.2.1 j s),b.2.2.set (by simpa using l)⟩ g p _ (h.put hd)
 simp only[aW]
 rw[show pl.length+1+r.m+r.pb.length=(pl.length+r.m+r.pb.length)+1 from by omega]
 exact wpG_first b.1 ho c (Region.noSelect_spec g) _ _ a w (Region.free_spec ho q) b.2.1 b.2.2 (by simpa using l) (.inr ⟨xj8 h hg,rfl⟩) this
theorem jo {r:Dr} {i:Nat} {o:Oper} {pl:List (Nat×Bool)} {dn:List Nat} (ho:ops[i]? =some o) (h:St P f ops o env w (fun env' w'=>r.C w'∧WD P f ops K r pl (i::dn) env' w')):WD P f ops K r ((i,false)::pl) dn env w:=by
 intro n d q s a t
 simp only[B0,bV,beq_iff_eq] at n
 obtain⟨b,e,g⟩:=n
 simp only[aW]
 rw[show pl.length+1+r.m+r.pb.length=(pl.length+r.m+r.pb.length)+1 from by omega]
 have k:(mk ops.size dn).getD i true=false:=(mem_ready.1 (show i∈Region.ready .any ops (mk ops.size dn) from by rw[b];simp)).1
 refine⟨s,fun u=> ?_,fun _=>⟨by rw[b];simp,fun j c=> ?_⟩⟩
 ·have:=u i e
  rw[k] at this;cases this
 rw[b] at c
 obtain rfl:j=i:=by simpa using c
 unfold wpOp
 simp only[ho]
 exact h a (NQ K) _ t fun env' v w' l p=>p.2 g ⟨d.1,fun j c=>A9 (d.2.1 j c),d.2.2.set (by rw[b];simp)⟩ q p.1 v l
theorem Cm {r:Dr} {pl:List (Nat×Bool)} {dn:List Nat} (d:Nat) {b:Bool} (hd:lk env d=some (.bool b)) (ht:b=true→WD P f ops K r pl dn ((d,.bool true)::env) w) (hf:b=false→WD P f ops K r pl dn ((d,.bool false)::env) w):WD P f ops K r pl dn env w:=by
 intro h1 h2 h3 h4 a ha
 have key:∀b',b=b'→Ag f ((d,.bool b')::env) a:=fun b' e=>⟨ha.defers,ha.size,fun i u hi=>by
   rw[yx9] at hi
   split at hi
   ·rename_i e';subst e';simp at hi;subst hi;subst e;exact ha.get _ _ hd
   exact ha.get _ _ hi⟩
 cases b
 ·exact hf rfl h1 h2 h3 h4 a (key _ rfl)
 exact ht rfl h1 h2 h3 h4 a (key _ rfl)
theorem vy {r:Dr} {pl:List (Nat×Bool)} {dn:List Nat} (d:Nat) {p:Prop} [Decidable p] (hd:lk env d=some (.bool (decide p))) (ht:p→WD P f ops K r pl dn ((d,.bool true)::env) w) (hf:¬p→WD P f ops K r pl dn ((d,.bool false)::env) w):WD P f ops K r pl dn env w:=
 Cm d hd (fun h=>ht (of_decide_eq_true h)) (fun h=>hf (of_decide_eq_false h))
def pevsD (I:u0) (n:Nat) (ops:Array Oper):List (Nat×Bool)→List Nat→Env→Option (List (Nat×Bool)×List Nat×Env)
  | [],dn,env=>some ([],dn,env)
  |(i,false)::r,dn,env=>match ops[i]? with
    |none=>none
    |some o=>match passes ops env o with
      |true=>match zw9 n o.dst undef env with
        |some env'=>pevsD I n ops r (i::dn) env'
        |none=>none
      |false=>some ((i,false)::r,dn,env)
  |(i,true)::r,dn,env=>match ops[i]? with
    |none=>none
    |some o=>match passes ops env o with
      |true=>match zw9 n o.dst undef env with
        |some env'=>pevsD I n ops r (i::dn) env'
        |none=>none
      |false=>match takes ops env o with
        |false=>some ((i,true)::r,dn,env)
        |true=>match pev I o.op env with
          |none=>some ((i,true)::r,dn,env)
          |some v=>match zw9 n o.dst v env with
            |some env'=>pevsD I n ops r (i::dn) env'
            |none=>none
theorem wd_p {I:u0} (hI:I.Ok P) {r:Dr} {pl pl':List (Nat×Bool)} {dn dn':List Nat} {env':Env} (h:pevsD I f.n ops pl dn env=some (pl',dn',env')) (k:WD P f ops K r pl' dn' env' w):WD P f ops K r pl dn env w:=by
 induction pl generalizing env dn with
 |nil=>simp[pevsD] at h;obtain⟨rfl,rfl,rfl⟩:=h;exact k
 |cons x pl ih=>
  obtain⟨i,q⟩:=x
  cases q with
  |false=>
   simp only[pevsD] at h
   split at h
   ·cases h
   rename_i o j
   split at h
   ·rename_i l
    split at h
    ·rename_i e b
     obtain⟨c,rfl⟩:=A4 b
     exact fun p s t m a u=>jo j (st_pass l c ⟨m,ih h⟩) p s t m a u
    cases h
   simp at h;obtain⟨rfl,rfl,rfl⟩:=h;exact k
  |true=>
   simp only[pevsD] at h
   split at h
   ·cases h
   rename_i o j
   split at h
   ·rename_i l
    split at h
    ·rename_i e b
     obtain⟨c,rfl⟩:=A4 b
     exact wd_pass j l c (ih h)
    cases h
   split at h
   ·simp at h;obtain⟨rfl,rfl,rfl⟩:=h;exact k
   rename_i y
   split at h
   ·simp at h;obtain⟨rfl,rfl,rfl⟩:=h;exact k
   rename_i v z
   split at h
   ·rename_i e b
    obtain⟨c,g⟩:=A4 b
    cases hdd:o.dst with
    |none=>rw[hdd] at b;cases b
    |some d=>exact wd_q j (by simp[pre,y,c]) hdd (fun A _=>A7 hI z A) (by rw[hdd] at g;subst g;exact ih h)
   cases h
def pevsK (I:u0) (n:Nat) (ops:Array Oper):Nat→List (Nat×Bool)→List Nat→Env→Option (List (Nat×Bool)×List Nat×Env)
  |0,pl,dn,env=>some (pl,dn,env)
  |_+1,[],dn,env=>some ([],dn,env)
  |k+1,(i,q)::r,dn,env=>match ops[i]? with
    |none=>none
    |some o=>match passes ops env o with
      |true=>match zw9 n o.dst undef env with
        |some env'=>pevsK I n ops k r (i::dn) env'
        |none=>none
      |false=>match q with
        |false=>some ((i,false)::r,dn,env)
        |true=>match takes ops env o with
          |false=>none
          |true=>match pev I o.op env with
            |none=>none
            |some v=>match zw9 n o.dst v env with
              |some env'=>pevsK I n ops k r (i::dn) env'
              |none=>none
theorem gt {I:u0} (hI:I.Ok P) {r:Dr} {pl pl':List (Nat×Bool)} {dn dn':List Nat} {env':Env} (k:Nat) (h:pevsK I f.n ops k pl dn env=some (pl',dn',env')) (hk:WD P f ops K r pl' dn' env' w):WD P f ops K r pl dn env w:=by
 induction k generalizing pl env dn with
 |zero=>simp[pevsK] at h;obtain⟨rfl,rfl,rfl⟩:=h;exact hk
 |succ k ih=>
  cases pl with
  |nil=>simp[pevsK] at h;obtain⟨rfl,rfl,rfl⟩:=h;exact hk
  |cons x pl=>
   obtain⟨i,q⟩:=x
   simp only[pevsK] at h
   split at h
   ·cases h
   rename_i o j
   split at h
   ·rename_i l
    split at h
    ·rename_i e b
     obtain⟨g,rfl⟩:=A4 b
     cases q with
     |true=>exact wd_pass j l g (ih h)
     |false=>exact fun p s t m a u=>jo j (st_pass l g ⟨m,ih h⟩) p s t m a u
    cases h
   cases q with
   |false=>simp at h;obtain⟨rfl,rfl,rfl⟩:=h;exact hk
   |true=>
    simp only at h
    split at h
    ·cases h
    rename_i y
    split at h
    ·cases h
    rename_i v z
    split at h
    ·rename_i e b
     obtain⟨g,c⟩:=A4 b
     cases hdd:o.dst with
     |none=>rw[hdd] at b;cases b
     |some d=>exact wd_q j (by simp[pre,y,g]) hdd (fun A _=>A7 hI z A) (by rw[hdd] at c;subst c;exact ih h)
    cases h
theorem Ce (ops:Array Oper) (n:Nat):Closed ops (mk n []):=by
 intro j o _ hj
 simp only[mk] at hj
 rcases bF j n with h|h
 ·simp[h] at hj
 simp[h] at hj
theorem jr {Q : vd} {id : Nat} {l : List Oper} (hm : P.follows .mixedOrders = true) (nA : Nat) (pl : List (Nat × Bool)) (pb : List Nat) (S : Nat → Prop)
  (hok : (B0 l.toArray (Nat.blt · nA) 0 pl pb [] && xj4 l.toArray (Nat.blt · nA) [] && Region.noSelect l.toArray && Nat.beq (pl.length + pb.length) l.length) = true)
  (h : ∀ w1, Ext No w w1 → w1.heap.size = w.heap.size → WD P f l.toArray (Q .normal) ⟨(Nat.blt · nA), pb, Ext S w, [], 0⟩ pl [] env w1) : WC P f (.region id l.toArray true) Q env w := by
 intro a c
 simp only [bV] at hok
 obtain ⟨⟨⟨d, g⟩, i⟩, j⟩ := hok
 have k := h _ (Ext.drew' w) rfl d ⟨g, fun _ m => (by cases m), Ce _ _⟩ i (Ext.drew' w).no a c
 have n : pl.length + pb.length = l.toArray.size := by simpa using dE j
 refine wp_mono (Q := NQ (Q .normal)) (wp_region_any hm ?_) fun e o p b => by cases e <;> first | exact b | exact b.elim
 have := Bq _ _ _ _ k
 simp only [Nat.add_zero] at this
 rwa [n] at this
def yq8 (ops:Array Oper) (A:Nat→Bool):List Nat→List Nat→Bool
  | [],_=>true
  |i::r,dn=>(Region.ready .any ops (mk ops.size dn)).contains i&&Region.free .any ops (mk ops.size dn) i&&(!A i&&yq8 ops A r (i::dn))
def floatsE (I:u0) (n:Nat) (ops:Array Oper):List Nat→List Nat→Env→Option (List Nat×Env)
  | [],dn,env=>some (dn,env)
  |i::r,dn,env=>match ops[i]? with
    |none=>none
    |some o=>match takes ops env o with
      |false=>none
      |true=>match pev I o.op env with
        |none=>none
        |some v=>match zw9 n o.dst v env with
          |some env'=>floatsE I n ops r (i::dn) env'
          |none=>none
theorem floats_G {I:u0} (hI:I.Ok P) {C:World→Prop} {A:Nat→Bool} (hs:Region.noSelect ops=true):∀(fl dn dn':List Nat) (env env':Env) (fuel:Nat) (a:Act),yq8 ops A fl dn=true→floatsE I f.n ops fl dn env=some (dn',env')→Ag f env a→
  (∀a',Ag f env' a'→wpG P ops K C A fuel (mk ops.size dn') a' w)→wpG P ops K C A (fl.length+fuel) (mk ops.size dn) a w
 | [],dn,dn',env,env',fuel,a,_,h,ha,k=>by
  simp only[floatsE,bG,cP] at h
  obtain⟨rfl,rfl⟩:=h
  simpa using k a ha
 |i::r,dn,dn',env,env',fuel,a,hok,h,ha,k=>by
  simp only[yq8,bV] at hok
  obtain⟨⟨hr,hf⟩,hiA,hok'⟩:=hok
  simp only[floatsE] at h
  split at h
  ·cases h
  rename_i o ho
  split at h
  ·cases h
  rename_i ht
  split at h
  ·cases h
  rename_i v hv
  split at h
  ·rename_i e1 he
   obtain⟨hd,rfl⟩:=A4 he
   have:=floats_G hI hs r (i::dn) dn' _ env' fuel _ hok' h (ha.put hd) k
   rw[aW,show r.length+1+fuel=(r.length+fuel)+1 from by omega]
   exact wpG_float ho (by simpa using hiA) (Region.noSelect_spec hs) _ _ a w (Region.free_spec ho hf) (by simpa using hr) (.inl ⟨xv ha ht,fun w' _=>A7 hI hv w' a.eval (fun x u hx=>ha.eval hx)⟩) this
  cases h
theorem xj5 {ops:Array Oper} {A:Nat→Bool}:∀(fl dn:List Nat),yq8 ops A fl dn=true→Closed ops (mk ops.size dn)→Closed ops (mk ops.size (fl.reverse++dn))
 | [],_,_,h=>h
 |i::r,dn,hok,h=>by
  simp only[yq8,bV] at hok
  rw[List.reverse_cons,aV]
  exact xj5 r (i::dn) hok.2.2 (h.set (by simpa using hok.1.1))
theorem c_drawL {I:u0} (hI:I.Ok P) {Q:vd} {id:Nat} {l:List Oper} (hm:P.follows .mixedOrders=true) (fl:List Nat) (nA:Nat) (late:List Nat) (pl:List (Nat×Bool)) (pb:List Nat) (S:Nat→Prop)
  (hok:(yq8 l.toArray (fun i=>Nat.blt i nA&& !late.contains i) fl []&&B0 l.toArray (fun i=>Nat.blt i nA&& !late.contains i) 0 pl pb fl.reverse&&xj4 l.toArray (fun i=>Nat.blt i nA&& !late.contains i) fl&&Region.noSelect l.toArray&&Nat.beq (fl.length+(pl.length+pb.length)) l.length&&fl.all (fun j=>(mk l.toArray.size fl.reverse).getD j true))=true)
  {env':Env} (hfl:floatsE I f.n l.toArray fl [] env=some (fl.reverse,env'))
  (h:∀w1,Ext No w w1→w1.heap.size=w.heap.size→WD P f l.toArray (Q .normal) ⟨(fun i=>Nat.blt i nA&& !late.contains i),pb,Ext S w,fl,0⟩ pl fl.reverse env' w1):WC P f (.region id l.toArray true) Q env w:=by
 intro a ha
 simp only[bV] at hok
 obtain⟨⟨⟨⟨⟨h0,h1⟩,h2⟩,h3⟩,h4⟩,h5⟩:=hok
 have hl:fl.length+(pl.length+pb.length)=l.toArray.size:=by simpa using dE h4
 refine wp_mono (Q:=NQ (Q .normal)) (wp_region_any hm ?_) fun e a' w' he=>by cases e<;>first|exact he|exact he.elim
 have hG:=floats_G (w:={w with drawn:=w.drawn+1}) hI (A:=(fun i=>Nat.blt i nA&& !late.contains i)) (C:=Ext S w) (K:=Q .normal) h3 fl [] fl.reverse env env' (pl.length+pb.length) a h0 hfl ha
 have:=hG fun a' ha'=>h _ (Ext.drew' w) rfl h1 ⟨h2,fun j hj=>dH.1 h5 j hj,by have:=xj5 fl [] h0 (Ce _ _);rwa [bK] at this⟩ h3 (Ext.drew' w).no a' ha'
 have:=Bq _ _ _ _ this
 rwa [hl] at this
theorem zx9 {I:u0} (hI:I.Ok P) {o:Oper} {v:Value} {K':Env→World→Prop} (hp:pre f.n ops env o=true) {d:Nat} (hd:o.dst=some d) (hv:pev I o.op env=some v) (k:K' ((d,v)::env) w):St P f ops o env w K':=
 have⟨h1,h2⟩:=pre_eq hp
 yg h1 h2 (A7 hI hv w) (by rw[hd];exact k)
/-! ### Several could come -/
def WX (P:Program) (f:Fs) (ops:Array Oper) (K:Act→World→Prop) (r:Dr) (k:Nat) (dn:List Nat) (env:Env) (w:World):Prop:=
  xj4 ops r.A r.fl=true∧(∀j∈r.fl,(mk ops.size dn).getD j true=true)∧Closed ops (mk ops.size dn)→Region.noSelect ops=true→r.C w→∀a,Ag f env a→wpG P ops K r.C r.A (k+r.pb.length) (mk ops.size dn) a w
def Alts (P:Program) (f:Fs) (ops:Array Oper) (K:Act→World→Prop) (r:Dr) (k:Nat) (dn:List Nat) (env:Env) (w:World):List Nat→Prop
  | []=>True
  |i::is=>(∃o,ops[i]? =some o∧St P f ops o env w (fun env' w'=>r.C w'∧WX P f ops K r k (i::dn) env' w'))∧Alts P f ops K r k dn env w is
theorem Alts.get {r:Dr} {k:Nat} {dn:List Nat}:∀{is:List Nat},Alts P f ops K r k dn env w is→∀i∈is,∃o,ops[i]? =some o∧St P f ops o env w (fun env' w'=>r.C w'∧WX P f ops K r k (i::dn) env' w')
 | [],_,i,hi=>by cases hi
 |j::is,h,i,hi=>by
  rcases List.mem_cons.1 hi with rfl|hi
  ·exact h.1
  exact h.2.get i hi
theorem yd {r:Dr} {dn:List Nat} {k:Nat} (hm:r.m=k) (h:WX P f ops K r k dn env w):WD P f ops K r [] dn env w:=by
 intro _ hb hs hC a ha
 simp only[List.length_nil,bD,hm]
 exact h hb hs hC a ha
theorem qm {r:Dr} {dn:List Nat} {k:Nat} (pl:List (Nat×Bool)) (m:Nat) (hk:k=pl.length+m) (hp:B0 ops r.A m pl r.pb dn=true) (h:WD P f ops K {r with m:=m} pl dn env w):WX P f ops K r k dn env w:=by
 subst hk
 exact fun hb hs hC a ha=>h hp hb hs hC a ha
theorem As {r:Dr} {k m:Nat} {dn:List Nat} (is:List Nat) (hk:k=m+1) (hr:((Region.ready .any ops (mk ops.size dn)==is)&&is.all r.A&& !is.isEmpty)=true) (h:Alts P f ops K r m dn env w is):WX P f ops K r k dn env w:=by
 subst hk
 intro hb hs hC a ha
 simp only[bV,beq_iff_eq,dH] at hr
 obtain⟨⟨hr,hlt⟩,hne⟩:=hr
 have hne':is≠[]:=by intro e;subst e;simp at hne
 rw[show m+1+r.pb.length=(m+r.pb.length)+1 from by omega]
 refine⟨hC,fun hA=> ?_,fun _=>⟨by rw[hr];exact hne',fun j hj=> ?_⟩⟩
 ·obtain⟨i,hi⟩:=List.exists_mem_of_ne_nil is hne'
  have h1:i∈Region.ready .any ops (mk ops.size dn):=by rw[hr];exact hi
  have h2:=hA i (hlt i hi)
  rw[(mem_ready.1 h1).1] at h2
  cases h2
 have hj':=hj
 rw[hr] at hj'
 obtain⟨o,ho,hst⟩:=h.get j hj'
 unfold wpOp
 simp only[ho]
 exact hst a (NQ K) _ ha fun env' a' w' ha' hK=>hK.2 ⟨hb.1,fun i hi=>A9 (hb.2.1 i hi),hb.2.2.set hj⟩ hs hK.1 a' ha'
theorem zz7 {Q : vd} {id : Nat} {l : List Oper} (hm : P.follows .mixedOrders = true) (nA : Nat) (k : Nat) (pb : List Nat) (S : Nat → Prop)
  (hok : (xj4 l.toArray (Nat.blt · nA) [] && Region.noSelect l.toArray && Nat.beq (k + pb.length) l.length) = true)
  (h : ∀ w1, Ext No w w1 → w1.heap.size = w.heap.size → WX P f l.toArray (Q .normal) ⟨(Nat.blt · nA), pb, Ext S w, [], 0⟩ k [] env w1) : WC P f (.region id l.toArray true) Q env w := by
 intro a c
 simp only [bV] at hok
 obtain ⟨⟨d, g⟩, i⟩ := hok
 have j := h _ (Ext.drew' w) rfl ⟨d, fun _ m => (by cases m), Ce _ _⟩ g (Ext.drew' w).no a c
 have n : k + pb.length = l.toArray.size := by simpa using dE i
 refine wp_mono (Q := NQ (Q .normal)) (wp_region_any hm ?_) fun e o p b => by cases e <;> first | exact b | exact b.elim
 have := Bq _ _ _ _ j
 rwa [n] at this
end
/-! ### Rows of equal parts -/
def Cn (n:Nat) (z:List Value):List Value:=(List.replicate n z).flatten
theorem um (n:Nat) (z:List Value):(Cn n z).length=n*z.length:=by simp[Cn]
theorem rep_one (n:Nat) (v:Value):Cn n [v]=List.replicate n v:=by
 unfold Cn
 induction n with
 |zero=>rfl
 |succ n ih=>simp[List.replicate_succ,ih]
theorem rep_succ (n:Nat) (z:List Value):Cn (n+1) z=z++Cn n z:=by simp[Cn,List.replicate_succ]
theorem rep_getElem? (z:List Value) (hz:0<z.length):∀(n i:Nat),i<n*z.length→(Cn n z)[i]? =z[i%z.length]?
 |0,i,h=>by simp at h
 |n+1,i,h=>by
  rw[rep_succ]
  rcases bF i z.length with h'|h'
  ·rw[cT h',Nat.mod_eq_of_lt h']
  rw[cJ h',rep_getElem? z hz n (i-z.length) (by rw[cQ] at h;omega)]
  rw[Nat.mod_eq_sub_mod h']
theorem zv1 (z:List Value) (n:Nat) (hz:0<z.length):madeCells z.toArray (n*z.length)=(Cn n z).toArray:=by
 apply cH
 apply List.ext_getElem?
 intro i
 unfold madeCells
 rw[Array.toList_map,Array.toList_range]
 rcases bF i (n*z.length) with h|h
 ·have a:i%z.length<z.length:=Nat.mod_lt _ hz
  rw[rep_getElem? z hz n i h,cE,List.getElem?_range h]
  simp[a]
 rw[cD (by simp;exact h),cD (by rw[um];exact h)]
theorem Bg (z:List Value) (n:Nat) (hz:0<z.length):Builtin.zeroCells z.toArray n=(Cn n z).toArray:=by
 rw[←zv1 z n hz]
 simp[Builtin.zeroCells,madeCells]
def Sl (w:World) (p:Option Addr) (n sz:Nat) (xs:List Value):Prop:=
  xs.length=n*sz∧(n=0∨∃b off,p=some ⟨b,off,none⟩∧Seg w b off xs)
def Own (w:World) (p:Option Addr) (n c T sz:Nat) (xs:List Value):Prop:=
  (p=none∧n=0∧c=0∧xs=[])∨∃b l,p=some ⟨b,0,none⟩∧gz w b T l∧l.length=c*sz∧n≤c∧c≤maxLen∧l.take (n*sz)=xs
abbrev jb (p:Option Addr):Nat→Prop:=fun x=>p=some ⟨x,0,none⟩
theorem Own.nil (w:World) (T sz:Nat):Own w none 0 0 T sz []:= .inl ⟨rfl,rfl,rfl,rfl⟩
theorem Own.len {w:World} {p:Option Addr} {n c T sz:Nat} {xs:List Value} (h:Own w p n c T sz xs):xs.length=n*sz:=by
 rcases h with⟨_,rfl,_,rfl⟩|⟨b,l,_,_,a,d,_,rfl⟩
 ·simp
 have:n*sz≤c*sz:=cM _ d
 rw[aL,a,bP this]
theorem Own.cap {w:World} {p:Option Addr} {n c T sz:Nat} {xs:List Value} (h:Own w p n c T sz xs):n≤c:=by
 rcases h with⟨_,rfl,rfl,_⟩|⟨b,l,_,_,_,hn,_,_⟩
 ·exact aD _
 exact hn
theorem Own.sl {w:World} {p:Option Addr} {n c T sz:Nat} {xs:List Value} (h:Own w p n c T sz xs):Sl w p n sz xs:=by
 refine⟨h.len,?_⟩
 rcases h with⟨_,hn,_,_⟩|⟨b,l,hp,hb,_,_,_,rfl⟩
 ·exact .inl hn
 exact .inr ⟨b,0,hp,hb.kj.take _⟩
theorem Own.ext {S:Nat→Prop} {w w':World} {p:Option Addr} {n c T sz:Nat} {xs:List Value} (h:Own w p n c T sz xs) (hE:Ext S w w') (hS:∀x,jb p x→¬S x):Own w' p n c T sz xs:=by
 rcases h with h|⟨b,l,hp,hb,r⟩
 ·exact .inl h
 exact .inr ⟨b,l,hp,hb.ext hE (hS b hp),r⟩
theorem Own.lt {w:World} {p:Option Addr} {n c T sz:Nat} {xs:List Value} (h:Own w p n c T sz xs) {x:Nat} (hx:jb p x):x<w.heap.size:=by
 rcases h with⟨hp,_⟩|⟨b,l,hp,hb,_⟩
 ·rw[hp] at hx;cases hx
 rw[hp] at hx
 obtain rfl:b=x:=by simpa using hx
 exact hb.lt
theorem Own.blk {w:World} {b n c T:Nat} {l:List Value} (h:gz w b T l) (sz:Nat) (hl:l.length=c*sz) (hn:n≤c) (hc:c≤maxLen):Own w (some ⟨b,0,none⟩) n c T sz (l.take (n*sz)):=
 .inr ⟨b,l,rfl,h,hl,hn,hc,rfl⟩
theorem Sl.ext {S:Nat→Prop} {w w':World} {p:Option Addr} {n sz:Nat} {xs:List Value} (h:Sl w p n sz xs) (hE:Ext S w w') (hS:∀b off,p=some ⟨b,off,none⟩→¬S b):Sl w' p n sz xs:=by
 refine⟨h.1,?_⟩
 rcases h.2 with c|⟨b,off,a,d⟩
 ·exact .inl c
 exact .inr ⟨b,off,a,d.ext hE (hS b off a)⟩
theorem Sl.ga {w w':World} {p:Option Addr} {n sz:Nat} {xs:List Value} (h:Sl w p n sz xs) (hE:Ext No w w'):Sl w' p n sz xs:=h.ext hE fun _ _ _=>id
theorem Sl.nil (w:World) (p:Option Addr) (sz:Nat):Sl w p 0 sz []:=⟨by simp,.inl rfl⟩
section
variable {P:Program} {I:u0} {f:Fs} {ops:Array Oper} {o:Oper} {env:Env} {w:World} {K:Env→World→Prop}
def mkE (I:u0) (n:Nat) (ops:Array Oper) (env:Env) (o:Oper):Option (Nat×TI×Int×Int×Nat):=
  match pre n ops env o with
  |false=>none
  |true=>match o.dst with
    |some d=>match o.op with
      | .makeSlice t x z=>match yn I t with
        |some y=>match y.desc with
          | .slice e=>match yn I e with
            |some g=>match xh env x with
              |some (.int _ p)=>match xh env z with
                |some (.int _ q)=>some (e,g,p,q,d)
                |_=>none
              |_=>none
            |none=>none
          |_=>none
        |none=>none
      |_=>none
    |none=>none
theorem mkE_eq {n e d:Nat} {g:TI} {p q:Int} (h:mkE I n ops env o=some (e,g,p,q,d)):takes ops env o=true∧dOk n o.dst=true∧o.dst=some d∧∃t x z y k k',o.op= .makeSlice t x z∧yn I t=some y∧y.desc= .slice e∧yn I e=some g∧xh env x=some (.int k p)∧xh env z=some (.int k' q):=by
 unfold mkE at h
 split at h
 ·cases h
 rename_i a
 obtain⟨b,c⟩:=pre_eq a
 split at h
 ·rename_i u f
  split at h
  ·rename_i t x z i
   split at h
   ·rename_i y j
    split at h
    ·rename_i v l
     split at h
     ·rename_i w m
      split at h
      ·rename_i k A r
       split at h
       ·rename_i k' B s
        cases h
        exact⟨b,c,f,t,x,z,y,k,k',i,j,l,m,r,s⟩
       cases h
      cases h
     cases h
    cases h
   cases h
  cases h
 cases h
theorem zz4 (hI:I.Ok P) {e d:Nat} {g:TI} {p q:Int} (h:mkE I f.n ops env o=some (e,g,p,q,d)) (n c:Nat) (by_:Nat) (hby:g.bytes=by_) {zs:List Value} (hzs:cellsOf g.zero=zs) (hz:zs.length=g.size) (hz0:0<zs.length) (hn:p=(n:Int)) (hc:q=(c:Int)) (hnc:n≤c) (hb:by_*c≤281474976710656) (hm:c≤maxLen)
  (k:∀(b:Nat) w',w.heap.size≤b→gz w' b e (Cn c zs)→Ext No w w'→w'.heap.size=w.heap.size+1→K ((d,.slice (some ⟨b,0,none⟩) n c)::env) w'):St P f ops o env w K:=by
 subst hby
 subst hzs
 obtain⟨s,u,A,t,x,z,y,B,a,C,D,E,F,G,j⟩:=mkE_eq h
 subst hn;subst hc
 obtain⟨i,H,J,L,M⟩:=TI.Ok.info (hI.get F)
 have l:=(hI.get D).1
 rw[E] at l
 unfold maxLen at hm
 have m:=run_make (P:=P) w t e i g.zero l H M B a n c zo zo (by rw[L,←Int.natCast_mul];exact Int.ofNat_le.2 hb) zo
 rw[J,←hz,cC,cC,show g.zero.cells=(cellsOf g.zero).toArray from by rw[←xn],zv1 _ _ zo] at m
 refine yg s u (v:= .slice (some ⟨w.heap.size,0,none⟩) n c) (w':=w.alloc (.cells (Cn c (cellsOf g.zero)).toArray e)) (fun N r=> ?_) ?_
 ·simp only[execOp,C,r _ _ G,r _ _ j,aK,m,aF,aT]
 rw[A]
 exact k _ _ (aD _) (Cc _ _ _) (Ext.alloc _ _ _) zp
/-! ### Slice expressions -/
def u6 (p:Option Addr) (l m sz:Nat):Option Addr:=if m=l then p else p.map (·.add (l*sz))
theorem yr {b off l m sz:Nat} (h:l≠m):u6 (some ⟨b,off,none⟩) l m sz=some ⟨b,off+l*sz,none⟩:=by
 unfold u6
 rw[aP (fun e=>h e.symm)]
 simp[addr_add]
theorem jw {p:Option Addr} {m sz:Nat}:u6 p 0 m sz=p:=by
 unfold u6
 split
 ·rfl
 cases p<;>simp[Addr.add]
def evI (env:Env) (x:Option Operand):Option (Option Int):=
  match x with
  |none=>some none
  |some y=>match xh env y with
    |some (.int _ n)=>some (some n)
    |_=>none
structure SlArgs where
  p:Option Addr
  n:Nat
  c:Nat
  sz:Nat
  lo:Option Int
  hi:Option Int
  mx:Option Int
  d:Nat
def slE (I:u0) (n:Nat) (ops:Array Oper) (env:Env) (o:Oper):Option SlArgs:=
  match pre n ops env o with
  |false=>none
  |true=>match o.dst with
    |some d=>match o.op with
      | .slice t x lo hi mx=>match yn I t with
        |some y=>match y.desc with
          | .slice e=>match yn I e with
            |some g=>match xh env x with
              |some (.slice p m c)=>match evI env lo with
                |some lo'=>match evI env hi with
                  |some hi'=>match evI env mx with
                    |some mx'=>some ⟨p,m,c,g.size,lo',hi',mx',d⟩
                    |none=>none
                  |none=>none
                |none=>none
              |_=>none
            |none=>none
          |_=>none
        |none=>none
      |_=>none
    |none=>none
theorem evI_eq {x:Option Operand} {r:Option Int} (h:evI env x=some r) {ρ:Operand→Value} (hρ:∀x u,xh env x=some u→ρ x=u):(r=none∧x.map ρ=none)∨(∃n k,r=some n∧x.map ρ=some (.int k n)):=by
 unfold evI at h
 split at h
 ·cases h;exact .inl ⟨rfl,rfl⟩
 rename_i y
 split at h
 ·rename_i k n a
  cases h
  exact .inr ⟨n,k,rfl,by simp[hρ _ _ a]⟩
 cases h
theorem Dj {P:Program} {w:World} (k:IntKind) (n y:Nat) (code:BoundsCode) (h:n≤y):(Instr.sliceBound (.int k (n:Int)) y code).run P w= .ok n w:=by
 have:(0:Int)≤(n:Int)∧(n:Int)≤(y:Int):=by omega
 simp[Instr.sliceBound,asIntOf,this]
theorem ov_sl (hI:I.Ok P) {nn:Nat} {s:SlArgs} (h:slE I nn ops env o=some s) (l hh m:Nat) (sz:Nat) (hsz:s.sz=sz) (h1:s.mx=some (m:Int)∧s.hi.isSome=true∨s.mx=none∧m=s.c) (h2:s.hi=some (hh:Int)∨s.hi=none∧hh=s.n) (h3:s.lo=some (l:Int)∨s.lo=none∧l=0)
  (hl:l≤hh) (hm:hh≤m) (hc:m≤s.c)
  :takes ops env o=true∧dOk nn o.dst=true∧o.dst=some s.d∧Ov P o env w (.slice (u6 s.p l m sz) (hh-l) (m-l)) w:=by
 subst hsz
 unfold slE at h
 split at h
 ·cases h
 rename_i hp
 obtain⟨e1,e2⟩:=pre_eq hp
 split at h
 ·rename_i d' hd
  split at h
  ·rename_i t x lo hi mx ho
   split at h
   ·rename_i y hy
    split at h
    ·rename_i e he
     split at h
     ·rename_i g hg
      split at h
      ·rename_i p n c hx
       split at h
       ·rename_i lo' hlo
        split at h
        ·rename_i hi' hhi
         split at h
         ·rename_i mx' hmx
          cases h
          simp only at*
          refine⟨e1,e2,hd,fun ρ hρ=> ?_⟩
          have hu:=(hI.get hy).under w
          have hs:=(hI.get hg).sizeOf w
          rw[he] at hu
          have fin:∀{lo hi mx:Option Value},(Instr.sliceBounds true n c lo hi mx).run P w= .ok (l,hh,m) w→(Instr.slice t (.slice p n c) lo hi mx).run P w= .ok (.slice (u6 p l m g.size) (hh-l) (m-l)) w:=by
           intro lo hi mx hb
           unfold Instr.slice
           rw[jc hu]
           simp only[aK,hb,aF,hs,aT,u6]
          have go:(Instr.sliceAt t (.slice p n c) (lo.map ρ) (hi.map ρ) (mx.map ρ)).run P w= .ok (.slice (u6 p l m g.size) (hh-l) (m-l)) w:=by
           unfold Instr.sliceAt
           rw[jc hu]
           refine fin ?_
           have q3:(lo.map ρ=none∧l=0)∨∃k,lo.map ρ=some (.int k (l:Int)):=by
            rcases evI_eq hlo hρ with⟨hr,hv⟩|⟨nn,kk,hr,hv⟩<;>rcases h3 with h3|⟨h3,h3'⟩<;>rw[h3] at hr<;>cases hr
            ·exact .inl ⟨hv,h3'⟩
            exact .inr ⟨kk,hv⟩
           have q2:(hi.map ρ=none∧hi'=none∧hh=n)∨∃k,hi.map ρ=some (.int k (hh:Int)):=by
            rcases evI_eq hhi hρ with⟨hr,hv⟩|⟨nn,kk,hr,hv⟩<;>rcases h2 with h2|⟨h2,h2'⟩<;>rw[h2] at hr<;>cases hr
            ·exact .inl ⟨hv,h2,h2'⟩
            exact .inr ⟨kk,hv⟩
           have q1:(mx.map ρ=none∧m=c)∨(hi'.isSome=true∧∃k,mx.map ρ=some (.int k (m:Int))):=by
            rcases evI_eq hmx hρ with⟨hr,hv⟩|⟨nn,kk,hr,hv⟩<;>rcases h1 with⟨h1,h1'⟩|⟨h1,h1'⟩<;>rw[h1] at hr<;>cases hr
            ·exact .inl ⟨hv,h1'⟩
            exact .inr ⟨h1',kk,hv⟩
           clear fin
           unfold Instr.sliceBounds
           rcases q1 with⟨q1,rfl⟩|⟨q1',k1,q1⟩<;>rcases q2 with⟨q2,q2',rfl⟩|⟨k2,q2⟩<;>rcases q3 with⟨q3,rfl⟩|⟨k3,q3⟩<;>rw[q1,q2,q3]<;>
            first
             |(rw[q2'] at q1';cases q1';done)
             |(simp only[aK,aT,aF,cO,Dj _ _ _ _ hl,Dj _ _ _ _ hm,Dj _ _ _ _ hc];done)
          simp only[execOp,ho,hρ _ _ hx,aK,go,aF,aT]
         cases h
        cases h
       cases h
      cases h
     cases h
    cases h
   cases h
  cases h
 cases h
theorem zv (hI:I.Ok P) {s:SlArgs} (h:slE I f.n ops env o=some s) (l hh m:Nat) (sz:Nat) (hsz:s.sz=sz) (h1:s.mx=some (m:Int)∧s.hi.isSome=true∨s.mx=none∧m=s.c) (h2:s.hi=some (hh:Int)∨s.hi=none∧hh=s.n) (h3:s.lo=some (l:Int)∨s.lo=none∧l=0)
  (hl:l≤hh) (hm:hh≤m) (hc:m≤s.c) (k:K ((s.d,.slice (u6 s.p l m sz) (hh-l) (m-l))::env) w):St P f ops o env w K:=
 have⟨e1,e2,hd,hv⟩:=ov_sl (w:=w) hI h l hh m sz hsz h1 h2 h3 hl hm hc
 yg e1 e2 hv (by rw[hd];exact k)
theorem wb_sl (hI:I.Ok P) {K:Act→World→Prop} {i kk:Nat} {pl dn:List Nat} (ho:ops[i]? =some o) (hk:kk=ops.size+i) {s:SlArgs} (h:slE I f.n ops env o=some s) (l hh m:Nat) (sz:Nat) (hsz:s.sz=sz) (h1:s.mx=some (m:Int)∧s.hi.isSome=true∨s.mx=none∧m=s.c) (h2:s.hi=some (hh:Int)∨s.hi=none∧hh=s.n) (h3:s.lo=some (l:Int)∨s.lo=none∧l=0)
  (hl:l≤hh) (hm:hh≤m) (hc:m≤s.c) (hs:Region.noSelect ops=true) (k:WB P f ops K pl (i::dn) ((s.d,.slice (u6 s.p l m sz) (hh-l) (m-l))::env) w):WB P f ops K (kk::pl) dn env w:=
 have⟨e1,e2,hd,_⟩:=ov_sl (w:=w) hI h l hh m sz hsz h1 h2 h3 hl hm hc
 wbv ho hk (by unfold pre;rw[e1];exact e2) hd (fun _=>(ov_sl hI h l hh m sz hsz h1 h2 h3 hl hm hc).2.2.2) hs k
theorem Sl.slice {w:World} {p:Option Addr} {n sz:Nat} {xs:List Value} (h:Sl w p n sz xs) (l hh m:Nat) (hl:l≤hh) (hm:hh≤m) (hn:hh≤n):Sl w (u6 p l m sz) (hh-l) sz ((xs.drop (l*sz)).take ((hh-l)*sz)):=by
 obtain⟨d,c⟩:=h
 have f:l*sz+(hh-l)*sz≤xs.length:=by
  rw[d,←cQ];exact cM _ zo
 refine⟨by simp;omega,?_⟩
 by_cases h0:hh=l
 ·exact .inl zo
 rcases c with c|⟨b,a,rfl,e⟩
 ·omega
 exact .inr ⟨b,a+l*sz,yr zo,(e.drop _).take _⟩
/-! ### append -/
def Src (P:Program) (w:World) (sz:Nat) (x:Value) (m:Nat) (news:List Value):Prop:=
  Builtin.lenOf x=pure m∧news.length=m*sz∧(∀v∈news,v.oneCell'=true)∧∀w',(∀a,w'.cell? a=w.cell? a)→(Builtin.firstCells sz m x).run P w'= .ok news.toArray w'
theorem Src.slice {P:Program} {w:World} {p:Option Addr} {m c sz:Nat} {news:List Value} (h:Sl w p m sz news) (h1:∀v∈news,v.oneCell'=true):Src P w sz (.slice p m c) m news:=by
 refine⟨rfl,h.1,h1,fun f j=> ?_⟩
 rcases h.2 with g|⟨b,d,rfl,k⟩
 ·have:news=[]:=by have:=h.1;rw[g] at this;simpa using this
  subst this;subst g
  cases p with
  |none=>rfl
  |some a=>
   unfold Builtin.firstCells loadCells
   rw[cW]
   rfl
 have e:Seg f b (d+0) news:=fun i v l=>by rw[Nat.add_zero,j];exact k i v l
 have:=vh (P:=P) (m*sz) 0 news #[] e h.1
 show(loadCellsFrom ⟨b,d,none⟩ 0 (m*sz) #[]).run P f=_
 rw[this]
 simp
theorem Src.string {P:Program} {w:World} {s:ByteArray}:Src P w 1 (.string s) s.size (s.data.toList.map fun b=> .int .u8 b.toNat):=by
 refine⟨rfl,by rw[aE,bE];rfl,fun v a=> ?_,fun c _=> ?_⟩
 ·obtain⟨b,_,rfl⟩:=bN.1 a;rfl
 have:s.extract 0 s.size=s:=by
  apply ByteArray.ext
  rw[ByteArray.data_extract]
  have:s.size=s.data.size:=rfl
  rw[this,Array.extract_size]
 simp only[Builtin.firstCells,this,aT]
 congr 1
 apply cH
 simp
theorem Src.cells {P:Program} {w w':World} {sz m:Nat} {x:Value} {news:List Value} (h:Src P w sz x m news) (hw:∀a,w'.cell? a=w.cell? a):(Builtin.firstCells sz m x).run P w'= .ok news.toArray w':=h.2.2.2 w' hw
theorem run_appG (hI:I.Ok P) {t t2 ty e:Nat} {y y2 g:TI} (hy:yn I t=some y) (he:y.desc= .slice e) (hg:yn I e=some g) (hy2:yn I t2=some y2) (hd2:(∃e2,y2.desc= .slice e2)∨y2.desc= .string)
  (hz:(cellsOf g.zero).length=g.size) (hz0:0<g.size) {p:Option Addr} {n c:Nat} {xs:List Value} (hsl:Sl w p n g.size xs) {x:Value} {m:Nat} {news:List Value} (hsrc:Src P w g.size x m news)
  (hm:n+m≤maxLen) (hb:(n+m)*g.bytes≤140737488355328) (hgr:c<n+m):
  ∃c' w',(Builtin.append_ #[t,t2] ty #[.slice p n c,x]).run P w= .ok (.slice (some ⟨w.heap.size,0,none⟩) (n+m) c') w'∧Own w' (some ⟨w.heap.size,0,none⟩) (n+m) c' e g.size (xs++news)∧Ext No w w':=by
 have hu:=(hI.get hy).under w
 rw[he] at hu
 have hs:=(hI.get hg).sizeOf w
 have hu2:=(hI.get hy2).under w
 obtain⟨i,hi,i1,i2,i3⟩:=TI.Ok.info (hI.get hg)
 have hxl:=hsl.1
 unfold maxLen at hm
 have hlen:=hsrc.1
 unfold Builtin.append_
 simp only[bT,cN,List.getElem?_cons_succ]
 rw[jc hu]
 simp only[]
 rw[aK,hs,aF]
 rw[jc hu2]
 rcases hd2 with⟨e2,h2⟩|h2<;>rw[h2]<;>simp only[pure_bind,bI,cX,Bool.not_false,cO,hlen]
 all_goals
  have hfit:¬(n+m≤c):=by omega
  skip
  rw[aP hfit]
  have h63:¬((n+m:Nat):Int)>IntKind.i64.max:=by
   show¬((n+m:Nat):Int)>2^(64-1)-1
   omega
  have h48:¬Builtin.nextslicecap (n+m) c*i.bytes>2^48:=by
   have:=growslice_fits (need:=n+m) (old:=c) (bytes:=i.bytes) zo (by rw[i2];exact hb)
   simp only[gt_iff_lt,Nat.not_lt]
   exact this
  have hnc:(choose (.appendCap (n+m) c e)).run P w= .ok (grownCap w (n+m) c e) w.drew:=by
   simp[Question.forced,grownCap]
  have hbytes:∀w:World,(typeInfo e).run P w= .ok i w:=fun w=>by unfold typeInfo;simp[hi]
  have hold:(Builtin.firstCells g.size n (.slice p n c)).run P w.drew= .ok xs.toArray w.drew:=by
   rcases hsl.2 with h0|⟨b,off,rfl,hs0⟩
   ·have:xs=[]:=by rw[h0] at hxl;simpa using hxl
    subst this;subst h0
    cases p with
    |none=>rfl
    |some a=>
     unfold Builtin.firstCells loadCells
     rw[cW]
     rfl
   have hs':Seg w.drew b (off+0) xs:=hs0
   have:=vh (P:=P) (n*g.size) 0 xs #[] hs' hxl
   show(loadCellsFrom ⟨b,off,none⟩ 0 (n*g.size) #[]).run P w.drew=_
   rw[this]
   simp
  have hge:n+m≤grownCap w (n+m) c e:=by
   unfold grownCap Question.cut
   exact Nat.le_add_right _ _
  have hgm:grownCap w (n+m) c e≤maxLen:=grownCap_le_maxLen w _ _ _ (by unfold maxLen;omega)
  refine⟨grownCap w (n+m) c e,w.drew.alloc (.cells (xs++news++Cn (grownCap w (n+m) c e-(n+m)) (cellsOf g.zero)).toArray e),?_,.inr ⟨_,_,rfl,Cc w.drew _ e,?_,hge,hgm,?_⟩,?_⟩
  ·simp only[aK,hbytes,aF,Sem.run_ite,h63,false_and,h48,cX,hnc,run_askRoom,hold,hsrc.cells (w':=w.drew) (fun _=>rfl),(hI.get hg).zeroValue,aT,newRow,run_newObj]
   rw[show g.zero.cells=(cellsOf g.zero).toArray from by rw[←xn],Bg _ _ zo]
   simp only[List.append_toArray]
   rfl
  ·rw[aB,aB,um,hz,hxl,hsrc.2.1,←cQ,←cQ]
   congr 1
   omega
  ·rw[cQ,←hxl,←hsrc.2.1,←aB,List.take_left]
  exact(Ext.drew w).then (Ext.alloc w.drew _ e)
theorem run_app (hI:I.Ok P) {t t2 ty e:Nat} {y y2 g:TI} (hy:yn I t=some y) (he:y.desc= .slice e) (hg:yn I e=some g) (hy2:yn I t2=some y2) (hd2:(∃e2,y2.desc= .slice e2)∨y2.desc= .string)
  (hz:(cellsOf g.zero).length=g.size) (hz0:0<g.size) {p:Option Addr} {n c:Nat} {xs:List Value} (hown:Own w p n c e g.size xs) {x:Value} {m:Nat} {news:List Value} (hsrc:Src P w g.size x m news)
  (hm:n+m≤maxLen) (hb:(n+m)*g.bytes≤140737488355328):
  ∃p' c' w',(Builtin.append_ #[t,t2] ty #[.slice p n c,x]).run P w= .ok (.slice p' (n+m) c') w'∧Own w' p' (n+m) c' e g.size (xs++news)∧Ext (jb p) w w'∧(∀b,jb p' b→jb p b∨w.heap.size≤b)∧(n+m=0∨p'≠none):=by
 have hu:=(hI.get hy).under w
 rw[he] at hu
 have hs:=(hI.get hg).sizeOf w
 have hu2:=(hI.get hy2).under w
 obtain⟨i,hi,i1,i2,i3⟩:=TI.Ok.info (hI.get hg)
 have hcap:=hown.cap
 have hxl:=hown.len
 unfold maxLen at hm
 have hlen:=hsrc.1
 unfold Builtin.append_
 simp only[bT,cN,List.getElem?_cons_succ]
 rw[jc hu]
 simp only[]
 rw[aK,hs,aF]
 rw[jc hu2]
 rcases hd2 with⟨e2,h2⟩|h2<;>rw[h2]<;>simp only[pure_bind,bI,cX,Bool.not_false,cO,hlen]
 all_goals
  by_cases hfit:n+m≤c
  ·rw[aR hfit]
   simp only[aK,hsrc.cells (fun _=>rfl),aF]
   rcases hown with⟨rfl,rfl,rfl,rfl⟩|⟨b,l,rfl,hblk,hl,hn,hcm,htk⟩
   ·have hm0:m=0:=by omega
    subst hm0
    have:news=[]:=by have:=hsrc.2.1;simpa using this
    subst this
    exact⟨none,0,w,by simp,.inl ⟨rfl,rfl,rfl,rfl⟩,Ext.refl _ _,fun b hb=> .inl hb,.inl rfl⟩
   have hroom:n*g.size+news.length≤l.length:=by
    rw[hsrc.2.1,hl,←cQ];exact cM _ hfit
   obtain⟨w',hr,hb',hE,hsz⟩:=vq (P:=P) news w l (n*g.size) 0 hblk zo hsrc.2.2.1
   refine⟨some ⟨b,0,none⟩,c,w',?_,.inr ⟨b,_,rfl,hb',by rw[x5,hl],hfit,hcm,?_⟩,hE.mono ?_,fun x hx=> .inl hx,.inr zp⟩
   ·have ha:(⟨b,0,none⟩:Addr).add (n*g.size)=⟨b,n*g.size,none⟩:=by rw[addr_add,bD]
    simp only[ha,aK,hr,aF,aT]
   ·rw[Nat.add_zero,put_eq _ _ _ hroom,htk,cQ,←hsrc.2.1]
    rw[show n*g.size+news.length=(xs++news).length from by simp[hxl]]
    rw[List.take_left]
   intro x _ hx
   subst hx
   rfl
  rw[aP hfit]
  have h63:¬((n+m:Nat):Int)>IntKind.i64.max:=by
   show¬((n+m:Nat):Int)>2^(64-1)-1
   omega
  have h48:¬Builtin.nextslicecap (n+m) c*i.bytes>2^48:=by
   have:=growslice_fits (need:=n+m) (old:=c) (bytes:=i.bytes) zo (by rw[i2];exact hb)
   simp only[gt_iff_lt,Nat.not_lt]
   exact this
  have hnc:(choose (.appendCap (n+m) c e)).run P w= .ok (grownCap w (n+m) c e) w.drew:=by
   simp[Question.forced,grownCap]
  have hbytes:∀w:World,(typeInfo e).run P w= .ok i w:=fun w=>by unfold typeInfo;simp[hi]
  have hold:(Builtin.firstCells g.size n (.slice p n c)).run P w.drew= .ok xs.toArray w.drew:=by
   rcases hown with⟨rfl,rfl,rfl,rfl⟩|⟨b,l,rfl,hblk,hl,hn,hcm,htk⟩
   ·rfl
   have hs':Seg w.drew b (0+0) xs:=by subst htk;exact hblk.kj.take _
   have:=vh (P:=P) (n*g.size) 0 xs #[] hs' hxl
   show(loadCellsFrom ⟨b,0,none⟩ 0 (n*g.size) #[]).run P w.drew=_
   rw[this]
   simp
  have hge:n+m≤grownCap w (n+m) c e:=by
   unfold grownCap Question.cut
   exact Nat.le_add_right _ _
  have hgm:grownCap w (n+m) c e≤maxLen:=grownCap_le_maxLen w _ _ _ (by unfold maxLen;omega)
  refine⟨some ⟨w.heap.size,0,none⟩,grownCap w (n+m) c e,w.drew.alloc (.cells (xs++news++Cn (grownCap w (n+m) c e-(n+m)) (cellsOf g.zero)).toArray e),?_,.inr ⟨_,_,rfl,Cc w.drew _ e,?_,hge,hgm,?_⟩,?_,fun b hb=> .inr ?_,.inr zp⟩
  ·simp only[aK,hbytes,aF,Sem.run_ite,h63,false_and,h48,cX,hnc,run_askRoom,hold,hsrc.cells (w':=w.drew) (fun _=>rfl),(hI.get hg).zeroValue,aT,newRow,run_newObj]
   rw[show g.zero.cells=(cellsOf g.zero).toArray from by rw[←xn],Bg _ _ zo]
   simp only[List.append_toArray]
   rfl
  ·rw[aB,aB,um,hz,hxl,hsrc.2.1,←cQ,←cQ]
   congr 1
   omega
  ·rw[cQ,←hxl,←hsrc.2.1,←aB,List.take_left]
  ·exact((Ext.drew w).then (Ext.alloc w.drew _ e)).no
  simp only[jb,bG,Addr.mk.injEq] at hb
  omega
end
section
variable {P:Program} {I:u0} {f:Fs} {ops:Array Oper} {o:Oper} {env:Env} {w:World} {K:Env→World→Prop}
structure yj5 where
  p:Option Addr
  n:Nat
  c:Nat
  e:Nat
  g:TI
  x:Value
  d:Nat
def slOrStr (D:TypeDesc):Bool:=
  match D with
  | .slice _=>true
  | .string=>true
  |_=>false
def appE (I:u0) (n:Nat) (ops:Array Oper) (env:Env) (o:Oper):Option yj5:=
  match pre n ops env o with
  |false=>none
  |true=>match o.dst with
    |some d=>match o.op with
      | .call {callee:= .builtin .append,args:=xs,argTypes:=ts}=>match xs.toList with
        | [s,x]=>match ts.toList with
          | [t,t2]=>match yn I t with
            |some y=>match y.desc with
              | .slice e=>match yn I e with
                |some g=>match yn I t2 with
                  |some y2=>match slOrStr y2.desc with
                    |true=>match xh env s with
                      |some (.slice p m c)=>match xh env x with
                        |some v=>some ⟨p,m,c,e,g,v,d⟩
                        |none=>none
                      |_=>none
                    |false=>none
                  |none=>none
                |none=>none
              |_=>none
            |none=>none
          |_=>none
        |_=>none
      |_=>none
    |none=>none
theorem yz5 {D:TypeDesc} (h:slOrStr D=true):(∃e,D= .slice e)∨D= .string:=by
 unfold slOrStr at h
 split at h
 ·exact .inl ⟨_,rfl⟩
 ·exact .inr rfl
 cases h
theorem va (hI:I.Ok P) {s:yj5} (h:appE I f.n ops env o=some s) (sz by_:Nat) (hsz:s.g.size=sz) (hby:s.g.bytes=by_) (hz:(cellsOf s.g.zero).length=sz) (hz0:0<sz) {xs:List Value} (hown:Own w s.p s.n s.c s.e sz xs) {m:Nat} {news:List Value} (hsrc:Src P w sz s.x m news)
  (hm:s.n+m≤maxLen) (hb:(s.n+m)*by_≤140737488355328)
  (k:∀p' c' w',Own w' p' (s.n+m) c' s.e sz (xs++news)→Ext (jb s.p) w w'→(∀b,jb p' b→jb s.p b∨w.heap.size≤b)→K ((s.d,.slice p' (s.n+m) c')::env) w'):St P f ops o env w K:=by
 subst hsz
 subst hby
 unfold appE at h
 split at h
 ·cases h
 rename_i D
 obtain⟨E,F⟩:=pre_eq D
 split at h
 ·rename_i W G
  split at h
  ·rename_i i H J
   split at h
   ·rename_i A B j
    have l:i= #[A,B]:=by apply cH;simpa using j
    subst l
    split at h
    ·rename_i t L q
     have r:H= #[t,L]:=by apply cH;simpa using q
     subst r
     split at h
     ·rename_i y M
      split at h
      ·rename_i e N
       split at h
       ·rename_i g O
        split at h
        ·rename_i X u
         split at h
         ·rename_i z
          split at h
          ·rename_i p n c Q
           split at h
           ·rename_i v R
            cases h
            simp only at*
            obtain⟨p',c',w',S,a,T,U,_⟩:=run_app (P:=P) (ty:=o.type) hI M N O u (yz5 z) hz hz0 hown hsrc hm hb
            refine yg E F (v:= .slice p' (n+m) c') (w':=w') (fun Y C=> ?_) (by rw[G];exact k p' c' w' a T U)
            have V:Array.map Y #[A,B]= #[.slice p n c,v]:=by simp[C _ _ Q,C _ _ R]
            simp only[execOp,J,resolve,aK,aT,aF,invoke,builtin,V,S]
           cases h
          cases h
         cases h
        cases h
       cases h
      cases h
     cases h
    cases h
   cases h
  cases h
 cases h
theorem st_appG (hI:I.Ok P) {s:yj5} (h:appE I f.n ops env o=some s) (sz by_:Nat) (hsz:s.g.size=sz) (hby:s.g.bytes=by_) (hz:(cellsOf s.g.zero).length=sz) (hz0:0<sz) {xs:List Value} (hsl:Sl w s.p s.n sz xs) {m:Nat} {news:List Value} (hsrc:Src P w sz s.x m news)
  (hm:s.n+m≤maxLen) (hb:(s.n+m)*by_≤140737488355328) (hgr:s.c<s.n+m)
  (k:∀b c' w',w.heap.size≤b→Own w' (some ⟨b,0,none⟩) (s.n+m) c' s.e sz (xs++news)→Ext No w w'→K ((s.d,.slice (some ⟨b,0,none⟩) (s.n+m) c')::env) w'):St P f ops o env w K:=by
 subst hsz
 subst hby
 unfold appE at h
 split at h
 ·cases h
 rename_i D
 obtain⟨E,F⟩:=pre_eq D
 split at h
 ·rename_i V G
  split at h
  ·rename_i i H J
   split at h
   ·rename_i A B j
    have l:i= #[A,B]:=by apply cH;simpa using j
    subst l
    split at h
    ·rename_i t L q
     have r:H= #[t,L]:=by apply cH;simpa using q
     subst r
     split at h
     ·rename_i y M
      split at h
      ·rename_i e N
       split at h
       ·rename_i g O
        split at h
        ·rename_i W u
         split at h
         ·rename_i z
          split at h
          ·rename_i p n c Q
           split at h
           ·rename_i v R
            cases h
            simp only at*
            obtain⟨c',w',S,a,T⟩:=run_appG (P:=P) (ty:=o.type) hI M N O u (yz5 z) hz hz0 hsl hsrc hm hb hgr
            refine yg E F (v:= .slice (some ⟨w.heap.size,0,none⟩) (n+m) c') (w':=w') (fun X C=> ?_) (by rw[G];exact k _ c' w' (aD _) a T)
            have U:Array.map X #[A,B]= #[.slice p n c,v]:=by simp[C _ _ Q,C _ _ R]
            simp only[execOp,J,resolve,aK,aT,aF,invoke,builtin,U,S]
           cases h
          cases h
         cases h
        cases h
       cases h
      cases h
     cases h
    cases h
   cases h
  cases h
 cases h
structure CpArgs where
  b:Nat
  off:Nat
  n:Nat
  g:TI
  x:Value
  d:Nat
def cpE (I:u0) (n:Nat) (ops:Array Oper) (env:Env) (o:Oper):Option CpArgs:=
  match pre n ops env o with
  |false=>none
  |true=>match o.dst with
    |some d=>match o.op with
      | .call {callee:= .builtin .copy,args:=xs,argTypes:=ts}=>match xs.toList with
        | [s,x]=>match ts.toList with
          | [t,_]=>match yn I t with
            |some y=>match y.desc with
              | .slice e=>match yn I e with
                |some g=>match xh env s with
                  |some (.slice (some ⟨b,off,none⟩) m _)=>match xh env x with
                    |some v=>some ⟨b,off,m,g,v,d⟩
                    |none=>none
                  |_=>none
                |none=>none
              |_=>none
            |none=>none
          |_=>none
        |_=>none
      |_=>none
    |none=>none
theorem zj1 (hI:I.Ok P) {s:CpArgs} (h:cpE I f.n ops env o=some s) (sz:Nat) (hsz:s.g.size=sz) {T:Nat} {l:List Value} (hblk:gz w s.b T l) {m:Nat} {news:List Value} (hsrc:Src P w sz s.x m news)
  (hm:m≤s.n) (hroom:s.off+m*sz≤l.length)
  (k:∀w',gz w' s.b T (put l s.off news)→Ext (One s.b) w w'→w'.heap.size=w.heap.size→K ((s.d,.int .i64 (m:Int))::env) w'):St P f ops o env w K:=by
 subst hsz
 unfold cpE at h
 split at h
 ·cases h
 rename_i H
 obtain⟨J,L⟩:=pre_eq H
 split at h
 ·rename_i Z M
  split at h
  ·rename_i p N O
   split at h
   ·rename_i C D q
    have r:p= #[C,D]:=by apply cH;simpa using q
    subst r
    split at h
    ·rename_i t E u
     have z:N= #[t,E]:=by apply cH;simpa using u
     subst z
     split at h
     ·rename_i y Q
      split at h
      ·rename_i e R
       split at h
       ·rename_i g S
        split at h
        ·rename_i b off n c U
         split at h
         ·rename_i v V
          cases h
          simp only at*
          have F:=(hI.get Q).under w
          rw[R] at F
          have hsz:=(hI.get S).sizeOf w
          have a:=hsrc.1
          have i:Nat.min m n=m:=bP hm
          obtain⟨w',W,A,X,B⟩:=vq (P:=P) news w l off 0 hblk (by rw[hsrc.2.1];omega) hsrc.2.2.1
          have j:(Builtin.copy_ #[t,E] o.type #[.slice (some ⟨b,off,none⟩) n c,v]).run P w= .ok (.int .i64 (m:Int)) w':=by
           unfold Builtin.copy_
           simp only[bT,cN,List.getElem?_cons_succ]
           rw[jc F]
           simp only[a,pure_bind,i,aK,hsz,aF,hsrc.cells (fun _=>rfl),W,aT,goInt]
          refine yg J L (v:= .int .i64 (m:Int)) (w':=w') (fun ρ G=> ?_) (by rw[M];exact k w' A X B)
          have Y:Array.map ρ #[C,D]= #[.slice (some ⟨b,off,none⟩) n c,v]:=by simp[G _ _ U,G _ _ V]
          simp only[execOp,O,resolve,aK,aT,aF,invoke,builtin,Y,j]
         cases h
        cases h
       cases h
      cases h
     cases h
    cases h
   cases h
  cases h
 cases h
/-! ### Literals -/
abbrev Parts:=List (Nat×Nat×Value)
def yh (z:List Value):Parts→List Value
  | []=>z
  |(off,_,v)::r=>yh (put z off (cellsOf v)) r
def Cp (n:Nat):Parts→Prop
  | []=>True
  |(off,sz,v)::r=>((cellsOf v).length=sz∧off+sz≤n)∧Cp n r
def placed (place:Nat→Option (Nat×Nat)) (env:Env):List (Nat×Operand)→Option Parts
  | []=>some []
  |(i,x)::r=>match place i with
    |some (off,sz)=>match xh env x with
      |some v=>match placed place env r with
        |some l=>some ((off,sz,v)::l)
        |none=>none
      |none=>none
    |none=>none
theorem foldl_put:∀(vs:List Value) (cs:Array Value) (off j:Nat),
  ((vs.zipIdx j).foldl (fun cs (x:Value×Nat)=>cs.setIfInBounds (off+x.2) x.1) cs).toList=put cs.toList (off+j) vs
 | [],cs,off,j=>rfl
 |v::r,cs,off,j=>by
  simp only[List.zipIdx_cons,List.foldl_cons]
  rw[foldl_put r]
  simp[put,Nat.add_assoc]
theorem zz6 {place:Nat→Option (Nat×Nat)} {env:Env} {ρ:Operand→Value} (hρ:∀x u,xh env x=some u→ρ x=u):∀(l:List (Nat×Operand)) (ps:Parts) (z:List Value),placed place env l=some ps→Cp z.length ps→
  Instr.fill place z.toArray (l.map fun(i,x)=>(i,ρ x))=some (yh z ps).toArray
 | [],ps,z,h,_=>by simp[placed] at h;subst h;rfl
 |(i,x)::r,ps,z,h,hok=>by
  simp only[placed] at h
  split at h
  ·rename_i off sz hpl
   split at h
   ·rename_i v hv
    split at h
    ·rename_i l' hl'
     cases h
     obtain⟨⟨h1,h2⟩,h3⟩:=hok
     simp only[dL,Instr.fill,hpl,hρ _ _ hv]
     have e1:v.cells.size=sz:=by rw[cellsOf_size];exact h1
     have a:(decide (v.cells.size≠sz)||decide (off+v.cells.size>z.toArray.size))=false:=by
      simp[e1];omega
     rw[show(v.cells.size≠sz||off+v.cells.size>z.toArray.size)=(decide (v.cells.size≠sz)||decide (off+v.cells.size>z.toArray.size)) from rfl,a]
     simp only[bI,cX]
     have b:(v.cells.zipIdx.foldl (fun c (x:Value×Nat)=>c.setIfInBounds (off+x.2) x.1) z.toArray)=(put z off (cellsOf v)).toArray:=by
      apply cH
      rw[←Array.foldl_toList,Array.toList_zipIdx,foldl_put]
      simp[xn]
     rw[b]
     exact zz6 hρ r l' _ hl' (by rw[x5];exact h3)
    cases h
   cases h
  cases h
def Cq (I:u0):List Field→Option (List (Nat×Nat))
  | []=>some []
  |g::r=>match yn I g.type with
    |some y=>match y.size with
      |0=>none
      |m+1=>match Cq I r with
        |some l=>some ((g.offset,m+1)::l)
        |none=>none
    |none=>none
theorem run_places {P:Program} {I:u0} (hI:I.Ok P) (w:World):∀(fs:List Field) (l:List (Nat×Nat)),Cq I fs=some l→(fs.mapM fun f=>do pure (f.offset,←sizeOf f.type):Sem (List (Nat×Nat))).run P w= .ok l w
 | [],l,h=>by simp[Cq] at h;subst h;rfl
 |g::r,l,h=>by
  simp only[Cq] at h
  split at h
  ·rename_i y hy
   split at h
   ·cases h
   rename_i m hm
   split at h
   ·rename_i l' hl'
    cases h
    simp only[List.mapM_cons,aK,aT,(hI.get hy).sizeOf w,aF,run_places hI w r l' hl',hm]
   cases h
  cases h
def bdE (I:u0) (n:Nat) (ops:Array Oper) (env:Env) (o:Oper):Option (List Value×Parts×Nat):=
  match pre n ops env o with
  |false=>none
  |true=>match o.dst with
    |some d=>match o.op with
      | .build t ps=>match yn I t with
        |some y=>match y.desc with
          | .struct fs=>match Cq I fs.toList with
            |some l=>match placed (l[·]?) env ps.toList with
              |some q=>some (cellsOf y.zero,q,d)
              |none=>none
            |none=>none
          | .array _ e=>match yn I e with
            |some g=>match g.size with
              |0=>none
              |m+1=>match placed (fun i=>some (i*(m+1),m+1)) env ps.toList with
                |some q=>some (cellsOf y.zero,q,d)
                |none=>none
            |none=>none
          |_=>none
        |none=>none
      |_=>none
    |none=>none
theorem ov_bd (hI:I.Ok P) {n d:Nat} {z:List Value} {q:Parts} (h:bdE I n ops env o=some (z,q,d)) (hok:Cp z.length q):takes ops env o=true∧dOk n o.dst=true∧o.dst=some d∧Ov P o env w (.agg (yh z q).toArray) w:=by
 unfold bdE at h
 split at h
 ·cases h
 rename_i G
 obtain⟨v,A⟩:=pre_eq G
 split at h
 ·rename_i Q B
  split at h
  ·rename_i t a C
   split at h
   ·rename_i y D
    have b:=(hI.get D).under w
    have E:=(hI.get D).zeroValue w
    split at h
    ·rename_i F c
     split at h
     ·rename_i l H
      split at h
      ·rename_i J j
       cases h
       refine⟨v,A,B,fun R k=> ?_⟩
       have p:=zz6 k a.toList q _ j hok
       rw[c] at b
       have r:(F.mapM fun f=>do pure (f.offset,←sizeOf f.type):Sem (Array (Nat×Nat))).run P w= .ok l.toArray w:=by
        have:=run_places hI w F.toList l H
        rw[Array.mapM_eq_mapM_toList,Sem.run_map,this]
        rfl
       have s:(a.map fun(i,x)=>(i,R x)).toList=a.toList.map fun(i,x)=>(i,R x):=by simp
       have u:y.zero.cells=(cellsOf y.zero).toArray:=by rw[←xn]
       simp only[execOp,C,Instr.build,aK,E,b,aF,r,s,u,bT]
       rw[p]
       rfl
      cases h
     cases h
    ·rename_i K e L
     split at h
     ·rename_i g M
      split at h
      ·cases h
      rename_i m N
      split at h
      ·rename_i J j
       cases h
       refine⟨v,A,B,fun R k=> ?_⟩
       have p:=zz6 k a.toList q _ j hok
       rw[L] at b
       have O:=(hI.get M).sizeOf w
       have s:(a.map fun(i,x)=>(i,R x)).toList=a.toList.map fun(i,x)=>(i,R x):=by simp
       have u:y.zero.cells=(cellsOf y.zero).toArray:=by rw[←xn]
       simp only[execOp,C,Instr.build,aK,E,b,aF,O,N,s,u]
       rw[p]
       rfl
      cases h
     cases h
    cases h
   cases h
  cases h
 cases h
theorem st_bd (hI:I.Ok P) {d:Nat} {z l':List Value} {q:Parts} (h:bdE I f.n ops env o=some (z,q,d)) (hok:Cp z.length q) (hl:yh z q=l')
  (k:K ((d,.agg l'.toArray)::env) w):St P f ops o env w K:=by
 obtain⟨a,b,c,e⟩:=ov_bd (w:=w) hI h hok
 subst hl
 exact yg a b e (by rw[c];exact k)
def bsE (I:u0) (n:Nat) (ops:Array Oper) (env:Env) (o:Oper):Option (Nat×TI×Nat×Parts×Nat):=
  match pre n ops env o with
  |false=>none
  |true=>match o.dst with
    |some d=>match o.op with
      | .buildSlice t len ps=>match yn I t with
        |some y=>match y.desc with
          | .slice e=>match yn I e with
            |some g=>match g.size with
              |0=>none
              |m+1=>match placed (fun i=>some (i*(m+1),m+1)) env ps.toList with
                |some q=>some (e,g,len,q,d)
                |none=>none
            |none=>none
          |_=>none
        |none=>none
      |_=>none
    |none=>none
theorem qi (hI:I.Ok P) {e len d:Nat} {g:TI} {q:Parts} {l':List Value} (h:bsE I f.n ops env o=some (e,g,len,q,d)) (sz:Nat) {zs:List Value} (hsz:g.size=sz) (hzs:cellsOf g.zero=zs) (hz:zs.length=sz) (hz0:0<sz) (hlen:len*sz≤16777216)
  (hok:Cp (len*sz) q) (hl:yh (Cn len zs) q=l')
  (k:∀(b:Nat) w',w.heap.size≤b→gz w' b e l'→Ext No w w'→w'.heap.size=w.heap.size+1→K ((d,.slice (some ⟨b,0,none⟩) len len)::env) w'):St P f ops o env w K:=by
 subst hsz
 subst hzs
 unfold bsE at h
 split at h
 ·cases h
 rename_i G
 obtain⟨H,J⟩:=pre_eq G
 split at h
 ·rename_i R L
  split at h
  ·rename_i t z p A
   split at h
   ·rename_i y M
    have r:=(hI.get M).under w
    split at h
    ·rename_i S N
     split at h
     ·rename_i T B
      split at h
      ·cases h
      rename_i m s
      split at h
      ·rename_i U C
       cases h
       rw[N] at r
       rw[show m+1=g.size from s.symm] at C
       have D:=(hI.get B).sizeOf w
       have u:=(hI.get B).zeroValue w
       have a:(Array.range (len*g.size)).map ((if len*g.size=0 then #[] else(cellsOf g.zero).toArray:Array Value)[·%(if len*g.size=0 then #[] else(cellsOf g.zero).toArray:Array Value).size]!)=(Cn len (cellsOf g.zero)).toArray:=by
        by_cases j:len*g.size=0
        ·have:len=0:=by
          rcases Nat.mul_eq_zero.1 j with E|E
          ·exact E
          omega
         subst this
         simp[Cn]
        rw[aP j]
        have:=zv1 (cellsOf g.zero) len zo
        rw[hz] at this
        exact this
       have c:¬len*g.size>2^24:=by
        have:(2:Nat)^24=16777216:=by decide
        omega
       refine yg H J (v:= .slice (some ⟨w.heap.size,0,none⟩) len len) (w':=w.alloc (.cells (yh (Cn len (cellsOf g.zero)) q).toArray e)) (fun V O=> ?_) ?_
       ·have Q:=zz6 O p.toList q (Cn len (cellsOf g.zero)) C (by rw[um,hz];exact hok)
        have F:(p.map fun(i,x)=>(i,V x)).toList=p.toList.map fun(i,x)=>(i,V x):=by simp
        have l:Instr.fill (fun i=>some (i*g.size,g.size)) (Cn len (cellsOf g.zero)).toArray (List.map (fun x=>(x.fst,V x.snd)) p.toList)=some (yh (Cn len (cellsOf g.zero)) q).toArray:=Q
        by_cases j:len*g.size=0
        ·simp only[aR j] at a
         simp only[execOp,A,Instr.buildSlice,aK,r,D,aF,c,cX,F,aR j,pure_bind]
         rw[a,l]
         simp[newRow]
        simp only[aP j] at a
        simp only[execOp,A,Instr.buildSlice,aK,r,D,aF,c,cX,F,aP j,u,pure_bind]
        rw[show g.zero.cells=(cellsOf g.zero).toArray from by rw[←xn],a,l]
        simp[newRow]
       rw[L]
       subst hl
       exact k _ _ (aD _) (Cc _ _ _) (Ext.alloc _ _ _) zp
      cases h
     cases h
    cases h
   cases h
  cases h
 cases h
end
section
variable {P:Program} {I:u0} {f:Fs} {ops:Array Oper} {o:Oper} {env:Env} {w:World} {K:Env→World→Prop}
theorem equalIn_int {I:u0} (hI:I.Ok P) {e:Nat} {y:TI} {k:IntKind} (hy:yn I e=some y) (hk:y.desc= .int k) (a b:Int) (w:World) (d:Nat):(Op.equalIn (d+1) e (.int k a) (.int k b)).run P w= .ok (decide (a=b)) w:=by
 have c:=(hI.get hy).under w
 rw[hk] at c
 unfold Op.equalIn
 rw[jc c]
 simp[beq_decide]
theorem loop_eq {I:u0} (hI:I.Ok P) {e:Nat} {y:TI} {k:IntKind} (hy:yn I e=some y) (hk:y.desc= .int k) (w:World) (d:Nat) (xs ys:List Int):∀(n s:Nat),s+n=xs.length→s+n=ys.length→
  (forIn (List.range' s n) ((none:Option Bool),PUnit.unit) (fun i _=>(do
   if !(←Op.equalIn (d+1) e (←part e (xs.map (Value.int k)).toArray (i*1)) (←part e (ys.map (Value.int k)).toArray (i*1))) then pure (ForInStep.done (some false,PUnit.unit)) else pure (ForInStep.yield (none,PUnit.unit)):Sem (ForInStep (Option Bool×PUnit)))):Sem (Option Bool×PUnit)).run P w=
   .ok (if xs.drop s=ys.drop s then none else some false,PUnit.unit) w:=by
 intro n
 induction n with
 |zero=>
  intro s m o
  have p:xs.drop s=[]:=bM zo
  have q:ys.drop s=[]:=bM zo
  simp[p,q]
 |succ n ih=>
  intro s m o
  have c:s<xs.length:=by omega
  have b:s<ys.length:=by omega
  have a:=(hI.get hy).isAgg w
  have r:y.isAgg=false:=by unfold TI.isAgg;rw[hk]
  rw[r] at a
  have f:∀(l:List Int) (h:s<l.length),(part e (l.map (Value.int k)).toArray (s*1)).run P w= .ok (.int k l[s]) w:=fun l h=>by
   unfold part
   simp[a,h]
  rw[List.range'_succ,List.forIn_cons,aK]
  simp only[aK,f xs c,f ys b,aF,equalIn_int hI hy hk]
  have g:xs.drop s=xs[s]::xs.drop (s+1):=bY c
  have j:ys.drop s=ys[s]::ys.drop (s+1):=bY b
  by_cases heq:xs[s]=ys[s]
  ·simp only[heq,decide_true,Bool.not_true,bI,cX,aT,aF]
   rw[ih (s+1) zo zo,g,j,heq]
   simp only[List.cons.injEq,true_and]
  rw[g,j]
  simp only[heq,decide_false,Bool.not_false,cO,aT,aF,List.cons.injEq,false_and,cX]
theorem run_eqA {I:u0} (hI:I.Ok P) {t e n:Nat} {x y:TI} {k:IntKind} (hx:yn I t=some x) (hd:x.desc= .array n e) (hy:yn I e=some y) (hk:y.desc= .int k) (hs:y.size=1) (xs ys:List Int) (h1:xs.length=n) (h2:ys.length=n) (w:World):
  (Op.equal t (.agg (xs.map (Value.int k)).toArray) (.agg (ys.map (Value.int k)).toArray)).run P w= .ok (decide (xs=ys)) w:=by
 have d:Op.equal t (.agg (xs.map (Value.int k)).toArray) (.agg (ys.map (Value.int k)).toArray)=Op.equalIn (9999+1) t (.agg (xs.map (Value.int k)).toArray) (.agg (ys.map (Value.int k)).toArray):=rfl
 rw[d]
 have b:=(hI.get hx).under w
 rw[hd] at b
 have a:=(hI.get hy).sizeOf w
 rw[hs] at a
 have c:=loop_eq (P:=P) hI hy hk w 9998 xs ys n 0 zo zo
 have f:((9999:Nat))=9998+1:=rfl
 rw[f]
 unfold Op.equalIn
 rw[jc b]
 simp only[aK,a,aF,Std.Legacy.Range.forIn_eq_forIn_range',Std.Legacy.Range.size]
 simp only[bB,Nat.add_one_sub_one,Nat.div_one]
 rw[show(9998+1:Nat)=9999 from rfl] at c
 rw[c]
 by_cases h:xs=ys
 ·simp[h]
 simp[h]
def eqE (I:u0) (n:Nat) (ops:Array Oper) (env:Env) (o:Oper):Option (Nat×Nat×IntKind×Bool×Value×Value×Nat):=
  match pre n ops env o with
  |false=>none
  |true=>match o.dst with
    |some d=>match o.op with
      | .binOp op t x y _=>match yn I t with
        |some g=>match g.desc with
          | .array m e=>match yn I e with
            |some h=>match h.desc with
              | .int k=>match h.size with
                |1=>match xh env x with
                  |some a=>match xh env y with
                    |some b=>match op with
                      | .eql=>some (t,m,k,true,a,b,d)
                      | .neq=>some (t,m,k,false,a,b,d)
                      |_=>none
                    |none=>none
                  |none=>none
                |_=>none
              |_=>none
            |none=>none
          |_=>none
        |none=>none
      |_=>none
    |none=>none
def Ci (k:IntKind) (xs:List Int):Value:= .agg (xs.map (Value.int k)).toArray
theorem st_eqA (hI:I.Ok P) {t m d:Nat} {k:IntKind} {q:Bool} {a b:Value} (h:eqE I f.n ops env o=some (t,m,k,q,a,b,d)) (hgd:P.eqGuardType P.depth t=false) {xs ys:List Int} (ha:a=Ci k xs) (hb:b=Ci k ys) (h1:xs.length=m) (h2:ys.length=m)
  (kk:K ((d,.bool (decide (if q then xs=ys else xs≠ys)))::env) w):St P f ops o env w K:=by
 unfold eqE at h
 split at h
 ·cases h
 rename_i L
 obtain⟨E,F⟩:=pre_eq L
 split at h
 ·rename_i R G
  split at h
  ·rename_i r A x y u H
   split at h
   ·rename_i g M
    split at h
    ·rename_i s e N
     split at h
     ·rename_i S B
      split at h
      ·rename_i z O
       split at h
       ·rename_i C
        split at h
        ·rename_i T i
         split at h
         ·rename_i U j
          have l:∀w:World,(Op.equal A (Ci z xs) (Ci z ys)).run P w= .ok (decide (xs=ys)) w∨¬(xs.length=s∧ys.length=s):=fun w=>by
           by_cases hl:xs.length=s∧ys.length=s
           ·exact .inl (run_eqA hI M N B O C xs ys hl.1 hl.2 w)
           exact .inr hl
          have J:∀r,A=t→(eqGuard r A x y (Ci z xs) (Ci z ys)).run P w= .ok () w:=fun r Q=>by
           subst Q
           unfold eqGuard Ci
           cases r<;>simp[hgd]
          split at h
          ·cases h
           subst ha;subst hb
           have c:=(l w).resolve_right (fun D=>D ⟨h1,h2⟩)
           refine yg E F (v:= .bool (decide (xs=ys))) (w':=w) (fun V p=> ?_) (by rw[G];exact kk)
           simp only[execOp,H,p _ _ i,p _ _ j,aK,J .eql rfl,aF]
           show((do pure (Value.bool (←Op.equal t (Ci k xs) (Ci k ys))):Sem Value).run P w).andThen _=_
           rw[aK,c]
           rfl
          ·cases h
           subst ha;subst hb
           have c:=(l w).resolve_right (fun D=>D ⟨h1,h2⟩)
           refine yg E F (v:= .bool (decide (xs≠ys))) (w':=w) (fun V p=> ?_) (by rw[G];exact kk)
           simp only[execOp,H,p _ _ i,p _ _ j,aK,J .neq rfl,aF]
           show((do pure (Value.bool (!(←Op.equal t (Ci k xs) (Ci k ys)))):Sem Value).run P w).andThen _=_
           rw[aK,c]
           simp
          cases h
         cases h
        cases h
       cases h
      cases h
     cases h
    cases h
   cases h
  cases h
 cases h
/-! ### An element of an array's value, a byte of a string -/
def idE (I:u0) (n:Nat) (ops:Array Oper) (env:Env) (o:Oper):Option (List Value×Nat×Option Nat×Int×Nat):=
  match pre n ops env o with
  |false=>none
  |true=>match o.dst with
    |some d=>match o.op with
      | .index t x j=>match yn I t with
        |some y=>match xh env j with
          |some (.int _ i)=>match y.desc with
            | .array len e=>match yn I e with
              |some z=>match xh env x with
                |some (.agg cs)=>match z.isAgg with
                  |true=>some (cs.toList,len,some z.size,i,d)
                  |false=>match z.size with
                    |1=>some (cs.toList,len,none,i,d)
                    |_=>none
                |_=>none
              |none=>none
            |_=>none
          |_=>none
        |none=>none
      |_=>none
    |none=>none
def isE (I:u0) (n:Nat) (ops:Array Oper) (env:Env) (o:Oper):Option (ByteArray×Int×Nat):=
  match pre n ops env o with
  |false=>none
  |true=>match o.dst with
    |some d=>match o.op with
      | .index t x j=>match yn I t with
        |some y=>match y.desc with
          | .string=>match xh env j with
            |some (.int _ i)=>match xh env x with
              |some (.string s)=>some (s,i,d)
              |_=>none
            |_=>none
          |_=>none
        |none=>none
      |_=>none
    |none=>none
theorem st_id (hI:I.Ok P) {cs:List Value} {len d:Nat} {m:Option Nat} {i:Int} (h:idE I f.n ops env o=some (cs,len,m,i,d)) (j:Nat) (hj:i=(j:Int)) (hlt:j<len) {v:Value}
  (hv:(m=none∧cs[j]? =some v)∨(∃n l',m=some n∧(cs.drop (j*n)).take n=l'∧v= .agg l'.toArray)) (k:K ((d,v)::env) w):St P f ops o env w K:=by
 subst hj
 unfold idE at h
 split at h
 ·cases h
 rename_i J
 obtain⟨B,C⟩:=pre_eq J
 split at h
 ·rename_i O D
  split at h
  ·rename_i t x Q E
   split at h
   ·rename_i y L
    split at h
    ·rename_i R S c
     split at h
     ·rename_i F e M
      split at h
      ·rename_i z G
       split at h
       ·rename_i g H
        have r:=(hI.get L).under w
        rw[M] at r
        have s:=(hI.get G).sizeOf w
        have q:=(hI.get G).isAgg w
        have b:(0:Int)≤(j:Int)∧(j:Int)<(len:Int):=by omega
        split at h
        ·rename_i a
         cases h
         rw[a] at q
         rcases hv with⟨l,_⟩|⟨n,l',l,N,rfl⟩
         ·cases l
         cases l
         refine yg B C (w':=w) (fun T p=> ?_) (by rw[D];exact k)
         have e:g.extract (j*z.size) (j*z.size+z.size)=l'.toArray:=by
          apply cH
          rw[Array.toList_extract,List.extract_eq_take_drop,Nat.add_sub_cancel_left]
          exact N
         simp only[execOp,E,p _ _ H,p _ _ c,Instr.index,asIntOf,aK,aT,aF,r,b,and_self,cO,s,part,q,cC,e]
        rename_i a
        split at h
        ·rename_i u
         cases h
         rw[a] at q
         rw[u] at s
         rcases hv with⟨_,hv⟩|⟨n,l',l,_⟩
         ·refine yg B C (w':=w) (fun T p=> ?_) (by rw[D];exact k)
          have A:g[j]? =some v:=by simpa using hv
          simp only[execOp,E,p _ _ H,p _ _ c,Instr.index,asIntOf,aK,aT,aF,r,b,and_self,cO,s,part,q,cC,bE]
          simp[A]
         cases l
        cases h
       cases h
      cases h
     cases h
    cases h
   cases h
  cases h
 cases h
theorem st_is (hI:I.Ok P) {s:ByteArray} {d:Nat} {i:Int} (h:isE I f.n ops env o=some (s,i,d)) (j:Nat) (hj:i=(j:Int)) {c:UInt8} (hc:s.data.toList[j]? =some c) (k:K ((d,.int .u8 (c.toNat:Int))::env) w):St P f ops o env w K:=by
 subst hj
 unfold isE at h
 split at h
 ·cases h
 rename_i q
 obtain⟨r,u⟩:=pre_eq q
 split at h
 ·rename_i D v
  split at h
  ·rename_i t x E z
   split at h
   ·rename_i y A
    split at h
    ·rename_i B
     split at h
     ·rename_i F G e
      split at h
      ·rename_i H C
       cases h
       have m:=(hI.get A).under w
       rw[B] at m
       refine yg r u (w':=w) (fun J p=> ?_) (by rw[v];exact k)
       have a:j<s.data.toList.length:=by
        rcases bF j s.data.toList.length with g|g
        ·exact g
        rw[cD g] at hc;cases hc
       have b:j<s.size:=by rw[Array.length_toList] at a;exact a
       have l:s[j]? =some c:=by
        rw[getElem?_pos s j b]
        rw[aN a] at hc
        exact hc
       simp only[execOp,z,p _ _ C,p _ _ e,Instr.index,asIntOf,aK,aT,aF,m,dN,cO,cC,l]
      cases h
     cases h
    cases h
   cases h
  cases h
 cases h
/-! ### Results, some of them in variables -/
def ResAt (P:Program) (env:Env) (w:World):ResultVar→Value→Prop
  | .tmp t,v=>lk env t=some v
  | .cell a t,v=>∃b off,lk env a=some (.pointer (some ⟨b,off,none⟩))∧(loadVar t ⟨b,off,none⟩).run P w= .ok v w
def ResAll (P:Program) (env:Env) (w:World):List ResultVar→List Value→Prop
  | [],[]=>True
  |r::rs,v::vs=>ResAt P env w r v∧ResAll P env w rs vs
  |_,_=>False
def tupV:List Value→Value
  | [v]=>v
  |vs=> .tuple vs.toArray
theorem zx3 (hI:I.Ok P) {t b off:Nat} {y:TI} {v:Value} (hy:yn I t=some y) (ha:y.isAgg=false) (hc:w.cell? ⟨b,off,none⟩=some v):(loadVar t ⟨b,off,none⟩).run P w= .ok v w:=by
 have h4:=(hI.get hy).isAgg w
 rw[ha] at h4
 simp[loadVar,h4,hc]
theorem qg (hI:I.Ok P) {t b off:Nat} {y:TI} {l:List Value} (hy:yn I t=some y) (ha:y.isAgg=true) (hs:Seg w b off l) (hl:l.length=y.size):(loadVar t ⟨b,off,none⟩).run P w= .ok (.agg l.toArray) w:=by
 have a:=(hI.get hy).isAgg w
 rw[ha] at a
 have c:=(hI.get hy).sizeOf w
 have d:=vh (P:=P) (w:=w) (b:=b) (off:=off) y.size 0 l #[] (by simpa using hs) hl
 simp only[loadVar,aK,aF,a,cO,c,loadCells,d]
 simp
theorem zj2 {n:Nat} {a:Act} (ha:Ag ⟨n,[]⟩ env a):∀(rs:List ResultVar) (vs:List Value),ResAll P env w rs vs→
  (rs.mapM fun
   | .tmp t=>pure (a.tmps.getD t undef)
   | .cell x t=>do loadVar t (←asAddr (a.tmps.getD x undef)):Sem (List Value)).run P w= .ok vs w
 | [],[],_=>rfl
 | [],_::_,h=>h.elim
 |_::_,[],h=>h.elim
 |r::rs,v::vs,h=>by
  obtain⟨h1,h2⟩:=h
  have ih:=zj2 ha rs vs h2
  rw[List.mapM_cons,aK]
  cases r with
  |tmp t=>
   have:a.tmps.getD t undef=v:=by
    have:=ha.get _ _ h1
    simp[this]
   simp only[this,aT,aF,aK]
   rw[ih]
   rfl
  |cell x t=>
   obtain⟨b,c,e,d⟩:=h1
   have:a.tmps.getD x undef= .pointer (some ⟨b,c,none⟩):=by
    have:=ha.get _ _ e
    simp[this]
   have f:asAddr (.pointer (some ⟨b,c,none⟩))=pure ⟨b,c,none⟩:=rfl
   simp only[this,f,aT,aF,aK,d]
   rw[ih]
   rfl
theorem qe {n:Nat} {fn:Func} {R:Value→World→Prop} (vs:List Value) (h:ResAll P env w fn.results.toList vs) (hR:R (tupV vs) w):Fin ⟨n,[]⟩ (bodyPost P fn (Rv R)) .ret env w:=by
 intro a b
 have c:=zj2 b _ _ h
 refine⟨b.defers,tupV vs,?_,hR⟩
 unfold results
 rw[Array.mapM_eq_mapM_toList,aK,Sem.run_map]
 erw [c]
 simp only[aF,aT]
 congr 1
 cases vs with
 |nil=>rfl
 |cons v r=>cases r<;>simp[tupV]
end
def Uni (m:Nat) (L:List (List Value)):Prop:=∀r∈L,r.length=m
theorem Uni.nil (m:Nat):Uni m []:=fun _ h=>by cases h
theorem Uni.set {m:Nat} {L:List (List Value)} (h:Uni m L) (i:Nat) {r:List Value} (hr:r.length=m):Uni m (L.set i r):=fun x hx=>by
 rcases List.mem_or_eq_of_mem_set hx with h'|h'
 ·exact h x h'
 rw[h'];exact hr
theorem Uni.get {m:Nat} {L:List (List Value)} (h:Uni m L) {i:Nat} {r:List Value} (hi:L[i]? =some r):r.length=m:=h r (dP hi)
theorem Uni.drop {m:Nat} {L:List (List Value)} (h:Uni m L) (i:Nat):Uni m (L.drop i):=fun x hx=>h x (dO hx)
theorem Uni.take {m:Nat} {L:List (List Value)} (h:Uni m L) (i:Nat):Uni m (L.take i):=fun x hx=>h x (bH hx)
theorem Uni.map {α:Type} {m:Nat} {f:α→List Value} {l:List α} (h:∀x∈l,(f x).length=m):Uni m (l.map f):=fun r hr=>by
 obtain⟨x,hx,rfl⟩:=bN.1 hr;exact h x hx
theorem Aq {m:Nat}:∀{L:List (List Value)},Uni m L→L.flatten.length=L.length*m
 | [],_=>by simp
 |r::L,h=>by
  rw[dB,aB,Aq (fun x hx=>h x (dJ _ hx)),h r (List.mem_cons_self),aW,cQ]
  omega
theorem yw8 {m:Nat}:∀{L:List (List Value)},Uni m L→∀{i j:Nat} {r:List Value},L[i]? =some r→j<m→L.flatten[i*m+j]? =r[j]?
 | [],_,i,j,r,hi,_=>by simp at hi
 |r0::L,h,0,j,r,hi,hj=>by
  have h0:=h r0 (List.mem_cons_self)
  simp at hi;subst hi
  rw[dB,cW,bD,cT zo]
 |r0::L,h,i+1,j,r,hi,hj=>by
  have h0:=h r0 (List.mem_cons_self)
  rw[dB,cJ (by rw[h0,cQ];omega),h0]
  rw[show(i+1)*m+j-m=i*m+j from by rw[cQ];omega]
  exact yw8 (fun x hx=>h x (dJ _ hx)) (by simpa using hi) hj
theorem rows_drop {m:Nat}:∀{L:List (List Value)},Uni m L→∀(i:Nat),L.flatten.drop (i*m)=(L.drop i).flatten
 | [],_,i=>by simp
 |r0::L,h,0=>by simp
 |r0::L,h,i+1=>by
  have h0:=h r0 (List.mem_cons_self)
  rw[dB,List.drop_append,bM (by rw[h0,cQ];omega),h0]
  rw[show(i+1)*m-m=i*m from by rw[cQ];omega]
  simpa using rows_drop (fun x hx=>h x (dJ _ hx)) i
theorem rows_take {m:Nat}:∀{L:List (List Value)},Uni m L→∀(i:Nat),L.flatten.take (i*m)=(L.take i).flatten
 | [],_,i=>by simp
 |r0::L,h,0=>by simp
 |r0::L,h,i+1=>by
  have h0:=h r0 (List.mem_cons_self)
  rw[dB,List.take_append,aO (by rw[h0,cQ];omega),h0]
  rw[show(i+1)*m-m=i*m from by rw[cQ];omega,rows_take (fun x hx=>h x (dJ _ hx)) i]
  simp
theorem rows_sub {m:Nat} {L:List (List Value)} (h:Uni m L) (i n:Nat):(L.flatten.drop (i*m)).take (n*m)=((L.drop i).take n).flatten:=by
 rw[rows_drop h,rows_take (h.drop i)]
theorem rows_row {m:Nat} {L:List (List Value)} (h:Uni m L) {i:Nat} {r:List Value} (hi:L[i]? =some r):(L.flatten.drop (i*m)).take m=r:=by
 have:=rows_sub h i 1
 rw[Nat.one_mul] at this
 rw[this]
 have a:i<L.length:=by
  rcases bF i L.length with b|b
  ·exact b
  rw[cD b] at hi;cases hi
 rw[bY a]
 rw[aN a] at hi
 simp at hi
 simp[hi]
theorem rows_part {m:Nat} {L:List (List Value)} (h:Uni m L) {i j n:Nat} {r:List Value} (hi:L[i]? =some r) (hj:j+n≤m):(L.flatten.drop (i*m+j)).take n=(r.drop j).take n:=by
 have a:=rows_row h hi
 rw[←a,←List.drop_drop,List.drop_take,List.take_take,bP zo]
theorem rows_put {m:Nat} {L:List (List Value)} (h:Uni m L) {i j:Nat} {r:List Value} (hi:L[i]? =some r) (vs:List Value) (hv:j+vs.length≤m):put L.flatten (i*m+j) vs=(L.set i (put r j vs)).flatten:=by
 have l:=h.get hi
 have b:i<L.length:=by
  rcases bF i L.length with c|c
  ·exact c
  rw[cD c] at hi;cases hi
 have d:L[i]=r:=by rw[aN b] at hi;simpa using hi
 have a:i*m+j+vs.length≤L.flatten.length:=by
  rw[Aq h]
  have:(i+1)*m≤L.length*m:=cM _ b
  rw[cQ] at this
  omega
 rw[put_eq _ _ _ a,put_eq _ _ _ zo]
 have f:L.flatten=(L.take i).flatten++(r++(L.drop (i+1)).flatten):=by
  rw[←dB,←List.flatten_append,←d,List.getElem_cons_drop,cS]
 have g:(L.set i (r.take j++vs++r.drop (j+vs.length))).flatten=(L.take i).flatten++((r.take j++vs++r.drop (j+vs.length))++(L.drop (i+1)).flatten):=by
  rw[List.set_eq_take_append_cons_drop,aR b,List.flatten_append,dB]
 have k:(L.take i).flatten.length=i*m:=by
  rw[Aq (h.take i),aL,bP zo]
 have e:∀(A B:List Value),(A++(r++B)).take (A.length+j)++vs++(A++(r++B)).drop (A.length+j+vs.length)=A++((r.take j++vs++r.drop (j+vs.length))++B):=fun A B=>by
  rw[Nat.add_assoc,List.take_length_add_append,List.drop_length_add_append,List.take_append_of_le_length zo,List.drop_append_of_le_length zo]
  simp[aV]
 rw[g,←e,←f,k]
/-! ### Reads in a region whose order is open -/
section
variable {P:Program} {I:u0} {f:Fs} {ops:Array Oper} {K:Act→World→Prop} {r:Dr} {i:Nat} {o:Oper} {pl:List (Nat×Bool)} {dn:List Nat} {env:Env} {w:World}
theorem pre_mk {n:Nat} (h1:takes ops env o=true) (h2:dOk n o.dst=true):pre n ops env o=true:=by simp[pre,h1,h2]
theorem j3 (hI:I.Ok P) (ho:ops[i]? =some o) {b off d:Nat} {v:Value} (h:ldE I f.n ops env o=some (b,off,none,d)) (hc:∀w',r.C w'→w'.cell? ⟨b,off,none⟩=some v) (k:WD P f ops K r pl (i::dn) ((d,v)::env) w):WD P f ops K r ((i,true)::pl) dn env w:=
 have⟨h1,h2,h3,_⟩:=ldE_eq h
 wd_q ho (pre_mk h1 h2) h3 (fun w' hw'=>ov_ld hI h (hc w' hw')) k
theorem qa (hI:I.Ok P) (ho:ops[i]? =some o) {b off d m:Nat} {l:List Value} (h:ldE I f.n ops env o=some (b,off,some m,d)) (hs:∀w',r.C w'→Seg w' b off l) (hl:l.length=m) (k:WD P f ops K r pl (i::dn) ((d,.agg l.toArray)::env) w):WD P f ops K r ((i,true)::pl) dn env w:=
 have⟨h1,h2,h3,_⟩:=ldE_eq h
 wd_q ho (pre_mk h1 h2) h3 (fun w' hw'=>ov_ldN hI h (hs w' hw') hl) k
theorem qk (hI:I.Ok P) (ho:ops[i]? =some o) {b off len sz d:Nat} {x:Int} (h:ixE I f.n ops env o=some (b,off,len,sz,x,d)) (ss:Nat) (hss:sz=ss) (j:Nat) (hj:x=(j:Int)) (hlt:j<len) (q:Nat) (hq:q=off+j*ss) (k:WD P f ops K r pl (i::dn) ((d,.pointer (some ⟨b,q,none⟩))::env) w):WD P f ops K r ((i,true)::pl) dn env w:=
 have⟨h1,h2,h3,_⟩:=ixE_eq h
 wd_q ho (pre_mk h1 h2) h3 (fun _ _=>ov_ix hI h ss hss j hj hlt q hq) k
theorem D8 (hI:I.Ok P) (ho:ops[i]? =some o) {s:SlArgs} (h:slE I f.n ops env o=some s) (l hh m:Nat) (sz:Nat) (hsz:s.sz=sz) (h1:s.mx=some (m:Int)∧s.hi.isSome=true∨s.mx=none∧m=s.c) (h2:s.hi=some (hh:Int)∨s.hi=none∧hh=s.n) (h3:s.lo=some (l:Int)∨s.lo=none∧l=0)
  (hl:l≤hh) (hm:hh≤m) (hc:m≤s.c) (k:WD P f ops K r pl (i::dn) ((s.d,.slice (u6 s.p l m sz) (hh-l) (m-l))::env) w):WD P f ops K r ((i,true)::pl) dn env w:=
 have⟨e1,e2,hd,_⟩:=ov_sl (w:=w) hI h l hh m sz hsz h1 h2 h3 hl hm hc
 wd_q ho (pre_mk e1 e2) hd (fun w' _=>(ov_sl (w:=w') hI h l hh m sz hsz h1 h2 h3 hl hm hc).2.2.2) k
theorem xj0 (hI:I.Ok P) (ho:ops[i]? =some o) {d:Nat} {z l':List Value} {q:Parts} (h:bdE I f.n ops env o=some (z,q,d)) (hok:Cp z.length q) (hl:yh z q=l') (k:WD P f ops K r pl (i::dn) ((d,.agg l'.toArray)::env) w):WD P f ops K r ((i,true)::pl) dn env w:=
 have⟨h1,h2,h3,_⟩:=ov_bd (w:=w) hI h hok
 wd_q ho (pre_mk h1 h2) h3 (fun w' _=>by subst hl;exact(ov_bd (w:=w') hI h hok).2.2.2) k
end
end Go.Vc
namespace Go.Proofs.YtpdiphfjmepijaaGreatDoor
open Go.Proofs.Tryz
open Go.Vc
noncomputable def ti1:TI:=⟨Tryz.t1.desc,1,8,Value.nilFunc⟩
noncomputable def ti3:TI:=⟨Tryz.t3.desc,1,8,Value.int .i64 0⟩
noncomputable def ti4:TI:=⟨Tryz.t4.desc,1,1,Value.bool false⟩
noncomputable def ti5:TI:=⟨Tryz.t5.desc,1,1,Value.int .u8 0⟩
noncomputable def ti9:TI:=⟨Tryz.t9.desc,1,16,Value.string .empty⟩
noncomputable def ti22:TI:=⟨Tryz.t22.desc,1,24,Value.slice none 0 0⟩
noncomputable def ti23:TI:=⟨Tryz.t23.desc,1,24,Value.slice none 0 0⟩
noncomputable def ti25:TI:=⟨Tryz.t24.desc,2,48,Value.agg ([Value.slice none 0 0,Value.slice none 0 0]).toArray⟩
noncomputable def ti27:TI:=⟨Tryz.t27.desc,1,8,Value.pointer none⟩
noncomputable def ti28:TI:=⟨Tryz.t28.desc,1,24,Value.slice none 0 0⟩
noncomputable def ti30:TI:=⟨Tryz.t29.desc,32,32,Value.agg (List.replicate 32 (Value.int .u8 0)).toArray⟩
noncomputable def ti31:TI:=⟨Tryz.t31.desc,1,24,Value.slice none 0 0⟩
noncomputable def ti32:TI:=⟨Tryz.t32.desc,1,24,Value.slice none 0 0⟩
noncomputable def ti34:TI:=⟨Tryz.t33.desc,1,24,Value.agg ([Value.slice none 0 0]).toArray⟩
noncomputable def ti35:TI:=⟨Tryz.t35.desc,1,4,Value.int .u32 0⟩
noncomputable def ti37:TI:=⟨Tryz.t36.desc,73,192,Value.agg ([Value.int .i64 0,Value.string .empty,Value.slice none 0 0,Value.int .i64 0]++List.replicate 32 (Value.int .u8 0)++List.replicate 32 (Value.int .u8 0)++[Value.slice none 0 0,Value.slice none 0 0,Value.int .u32 0,Value.int .u32 0,Value.string .empty]).toArray⟩
noncomputable def ti38:TI:=⟨Tryz.t3.desc,1,8,Value.int .i64 0⟩
noncomputable def ti41:TI:=⟨Tryz.t41.desc,1,24,Value.slice none 0 0⟩
noncomputable def ti52:TI:=⟨Tryz.t52.desc,1,24,Value.slice none 0 0⟩
noncomputable def ti54:TI:=⟨Tryz.t54.desc,1,24,Value.slice none 0 0⟩
noncomputable def ti56:TI:=⟨Tryz.t55.desc,1,24,Value.agg ([Value.slice none 0 0]).toArray⟩
noncomputable def ti58:TI:=⟨Tryz.t58.desc,1,8,Value.pointer none⟩
noncomputable def ti60:TI:=⟨Tryz.t60.desc,1,8,Value.int .u64 0⟩
noncomputable def ti61:TI:=⟨Tryz.t61.desc,1,8,Value.pointer none⟩
noncomputable def ti68:TI:=⟨Tryz.t68.desc,1,24,Value.slice none 0 0⟩
noncomputable def ti69:TI:=⟨Tryz.t69.desc,1,8,Value.pointer none⟩
noncomputable def ti73:TI:=⟨Tryz.t73.desc,1,24,Value.slice none 0 0⟩
noncomputable def ti74:TI:=⟨Tryz.t74.desc,1,24,Value.slice none 0 0⟩
noncomputable def ti76:TI:=⟨Tryz.t75.desc,6,112,Value.agg ([Value.int .i64 0,Value.int .i64 0,Value.slice none 0 0,Value.slice none 0 0,Value.slice none 0 0,Value.slice none 0 0]).toArray⟩
noncomputable def ti79:TI:=⟨Tryz.t79.desc,1,24,Value.slice none 0 0⟩
noncomputable def ti80:TI:=⟨Tryz.t80.desc,1,24,Value.slice none 0 0⟩
noncomputable def ti91:TI:=⟨Tryz.t90.desc,5,72,Value.agg ([Value.string .empty,Value.bool false,Value.bool false,Value.slice none 0 0,Value.slice none 0 0]).toArray⟩
noncomputable def ti94:TI:=⟨Tryz.t94.desc,2,16,Value.agg ([Value.pointer none,Value.pointer none]).toArray⟩
noncomputable def ti96:TI:=⟨Tryz.t96.desc,1,8,Value.pointer none⟩
noncomputable def ti98:TI:=⟨Tryz.t97.desc,4,32,Value.agg ([Value.pointer none,Value.pointer none,Value.pointer none,Value.pointer none]).toArray⟩
noncomputable def ti100:TI:=⟨Tryz.t100.desc,1,24,Value.slice none 0 0⟩
noncomputable def ti102:TI:=⟨Tryz.t101.desc,2,48,Value.agg ([Value.slice none 0 0,Value.slice none 0 0]).toArray⟩
noncomputable def ti118:TI:=⟨Tryz.t118.desc,1,8,Value.map none⟩
noncomputable def ti119:TI:=⟨Tryz.t119.desc,1,24,Value.slice none 0 0⟩
noncomputable def ti121:TI:=⟨Tryz.t120.desc,3,56,Value.agg ([Value.slice none 0 0,Value.map none,Value.slice none 0 0]).toArray⟩
noncomputable def ti123:TI:=⟨Tryz.t122.desc,4,64,Value.agg ([Value.pointer none,Value.slice none 0 0,Value.map none,Value.slice none 0 0]).toArray⟩
noncomputable def ti126:TI:=⟨Tryz.t125.desc,105,224,Value.agg (List.replicate 32 (Value.int .u8 0)++[Value.int .i64 0,Value.string .empty,Value.slice none 0 0,Value.int .i64 0]++List.replicate 32 (Value.int .u8 0)++List.replicate 32 (Value.int .u8 0)++[Value.slice none 0 0,Value.slice none 0 0,Value.int .u32 0,Value.int .u32 0,Value.string .empty]).toArray⟩
noncomputable def ti129:TI:=⟨Tryz.t128.desc,2,40,Value.agg ([Value.string .empty,Value.slice none 0 0]).toArray⟩
noncomputable def ti130:TI:=⟨Tryz.t130.desc,1,8,Value.nilFunc⟩
noncomputable def ti135:TI:=⟨Tryz.t135.desc,1,8,Value.nilFunc⟩
noncomputable def ti139:TI:=⟨Tryz.t139.desc,1,8,Value.nilFunc⟩
noncomputable def ti140:TI:=⟨Tryz.t139.desc,1,8,Value.nilFunc⟩
noncomputable def ti148:TI:=⟨Tryz.t147.desc,33,48,Value.agg ([Value.string .empty]++List.replicate 32 (Value.int .u8 0)).toArray⟩
noncomputable def ti150:TI:=⟨Tryz.t149.desc,3,40,Value.agg ([Value.string .empty,Value.bool false,Value.string .empty]).toArray⟩
noncomputable def ti151:TI:=⟨Tryz.t151.desc,1,24,Value.slice none 0 0⟩
noncomputable def ti153:TI:=⟨Tryz.t152.desc,6,80,Value.agg ([Value.slice none 0 0,Value.slice none 0 0,Value.bool false,Value.int .i64 0,Value.int .i64 0,Value.int .i64 0]).toArray⟩
noncomputable def ti155:TI:=⟨Tryz.t154.desc,2,16,Value.agg ([Value.pointer none,Value.int .i64 0]).toArray⟩
noncomputable def ti157:TI:=⟨Tryz.t157.desc,1,8,Value.nilFunc⟩
noncomputable def ti158:TI:=⟨Tryz.t157.desc,1,8,Value.nilFunc⟩
noncomputable def ti162:TI:=⟨Tryz.t161.desc,6,64,Value.agg ([Value.pointer none,Value.int .i64 0,Value.int .u32 0,Value.slice none 0 0,Value.int .i64 0,Value.bool false]).toArray⟩
noncomputable def ti164:TI:=⟨Tryz.t164.desc,64,64,Value.agg (List.replicate 64 (Value.int .u8 0)).toArray⟩
noncomputable def ti165:TI:=⟨Tryz.t164.desc,64,64,Value.agg (List.replicate 64 (Value.int .u8 0)).toArray⟩
noncomputable def ti169:TI:=⟨Tryz.t168.desc,3,56,Value.agg ([Value.pointer none,Value.slice none 0 0,Value.slice none 0 0]).toArray⟩
noncomputable def ti176:TI:=⟨Tryz.t176.desc,1,8,Value.pointer none⟩
noncomputable def ti178:TI:=⟨Tryz.t177.desc,1,24,Value.agg ([Value.slice none 0 0]).toArray⟩
noncomputable def ti180:TI:=⟨Tryz.t179.desc,1,24,Value.agg ([Value.slice none 0 0]).toArray⟩
noncomputable def ti181:TI:=⟨Tryz.t181.desc,1,8,Value.nilFunc⟩
noncomputable def ti182:TI:=⟨Tryz.t182.desc,1,8,Value.nilFunc⟩
noncomputable def ti184:TI:=⟨Tryz.t184.desc,1,2,Value.int .u16 0⟩
noncomputable def ti189:TI:=⟨Tryz.t189.desc,1,8,Value.int .u64 0⟩
noncomputable def ti194:TI:=⟨Tryz.t194.desc,1,8,Value.pointer none⟩
noncomputable def ti200:TI:=⟨Tryz.t200.desc,1,8,Value.nilFunc⟩
noncomputable def ti203:TI:=⟨Tryz.t203.desc,1,8,Value.nilFunc⟩
noncomputable def ti215:TI:=⟨Tryz.t214.desc,64,64,Value.agg (List.replicate 64 (Value.int .u8 0)).toArray⟩
noncomputable def ti216:TI:=⟨Tryz.t216.desc,1,24,Value.slice none 0 0⟩
noncomputable def ti218:TI:=⟨Tryz.t217.desc,65,88,Value.agg (List.replicate 64 (Value.int .u8 0)++[Value.slice none 0 0]).toArray⟩
noncomputable def ti219:TI:=⟨Tryz.t219.desc,1,8,Value.pointer none⟩
noncomputable def ti221:TI:=⟨Tryz.t220.desc,2,40,Value.agg ([Value.string .empty,Value.slice none 0 0]).toArray⟩
noncomputable def ti224:TI:=⟨Tryz.t224.desc,1,8,Value.pointer none⟩
noncomputable def ti225:TI:=⟨Tryz.t225.desc,1,8,Value.nilFunc⟩
noncomputable def ti227:TI:=⟨Tryz.t227.desc,1,8,Value.nilFunc⟩
noncomputable def ti241:TI:=⟨Tryz.t241.desc,1,8,Value.nilFunc⟩
noncomputable def ti242:TI:=⟨Tryz.t242.desc,1,8,Value.map none⟩
noncomputable def ti247:TI:=⟨Tryz.t247.desc,1,8,Value.nilFunc⟩
noncomputable def ti250:TI:=⟨Tryz.t250.desc,1,8,Value.pointer none⟩
noncomputable def ti252:TI:=⟨Tryz.t252.desc,1,8,Value.nilFunc⟩
noncomputable def ti262:TI:=⟨Tryz.t261.desc,2,32,Value.agg ([Value.slice none 0 0,Value.int .i64 0]).toArray⟩
noncomputable def ti264:TI:=⟨Tryz.t263.desc,2,32,Value.agg ([Value.slice none 0 0,Value.int .i64 0]).toArray⟩
noncomputable def ti267:TI:=⟨Tryz.t266.desc,1,8,Value.agg ([Value.pointer none]).toArray⟩
noncomputable def ti276:TI:=⟨Tryz.t276.desc,8,32,Value.agg ([Value.int .u32 0,Value.int .u32 0,Value.int .u32 0,Value.int .u32 0,Value.int .u32 0,Value.int .u32 0,Value.int .u32 0,Value.int .u32 0]).toArray⟩
noncomputable def ti277:TI:=⟨Tryz.t277.desc,1,24,Value.slice none 0 0⟩
noncomputable def ti280:TI:=⟨Tryz.t280.desc,1,8,Value.pointer none⟩
noncomputable def ti286:TI:=⟨Tryz.t286.desc,1,8,Value.pointer none⟩
noncomputable def ti288:TI:=⟨Tryz.t287.desc,1,24,Value.agg ([Value.slice none 0 0]).toArray⟩
noncomputable def ti294:TI:=⟨Tryz.t294.desc,1,8,Value.pointer none⟩
noncomputable def ti296:TI:=⟨Tryz.t295.desc,2,32,Value.agg ([Value.slice none 0 0,Value.bool false]).toArray⟩
noncomputable def ti302:TI:=⟨Tryz.t301.desc,8,32,Value.agg ([Value.int .u32 0,Value.int .u32 0,Value.int .u32 0,Value.int .u32 0,Value.int .u32 0,Value.int .u32 0,Value.int .u32 0,Value.int .u32 0]).toArray⟩
noncomputable def ti304:TI:=⟨Tryz.t303.desc,8,32,Value.agg ([Value.int .u32 0,Value.int .u32 0,Value.int .u32 0,Value.int .u32 0,Value.int .u32 0,Value.int .u32 0,Value.int .u32 0,Value.int .u32 0]).toArray⟩
noncomputable def ti305:TI:=⟨Tryz.t305.desc,1,8,Value.nilFunc⟩
noncomputable def ti312:TI:=⟨Tryz.t312.desc,1,8,Value.pointer none⟩
noncomputable def ti313:TI:=⟨Tryz.t313.desc,64,256,Value.agg (List.replicate 64 (Value.int .u32 0)).toArray⟩
noncomputable def ti317:TI:=⟨Tryz.t317.desc,1,24,Value.slice none 0 0⟩
noncomputable def ti319:TI:=⟨Tryz.t318.desc,1,24,Value.agg ([Value.slice none 0 0]).toArray⟩
noncomputable def ti321:TI:=⟨Tryz.t320.desc,2,32,Value.agg ([Value.string .empty,Value.string .empty]).toArray⟩
noncomputable def ti324:TI:=⟨Tryz.t324.desc,1,8,Value.nilFunc⟩
noncomputable def ti326:TI:=⟨Tryz.t326.desc,1,8,Value.nilFunc⟩
noncomputable def ti327:TI:=⟨Tryz.t327.desc,1,8,Value.nilFunc⟩
noncomputable def ti329:TI:=⟨Tryz.t328.desc,2,32,Value.agg ([Value.slice none 0 0,Value.nilFunc]).toArray⟩
noncomputable def ti336:TI:=⟨Tryz.t336.desc,1,8,Value.nilFunc⟩
noncomputable def ti337:TI:=⟨Tryz.t337.desc,1,8,Value.nilFunc⟩
noncomputable def ti339:TI:=⟨Tryz.t338.desc,2,32,Value.agg ([Value.slice none 0 0,Value.nilFunc]).toArray⟩
noncomputable def I:u0:=[(1,ti1),(3,ti3),(4,ti4),(5,ti5),(9,ti9),(22,ti22),(23,ti23),(25,ti25),(27,ti27),(28,ti28),(30,ti30),(31,ti31),(32,ti32),(34,ti34),(35,ti35),(37,ti37),(38,ti38),(41,ti41),(52,ti52),(54,ti54),(56,ti56),(58,ti58),(60,ti60),(61,ti61),(68,ti68),(69,ti69),(73,ti73),(74,ti74),(76,ti76),(79,ti79),(80,ti80),(91,ti91),(94,ti94),(96,ti96),(98,ti98),(100,ti100),(102,ti102),(118,ti118),(119,ti119),(121,ti121),(123,ti123),(126,ti126),(129,ti129),(130,ti130),(135,ti135),(139,ti139),(140,ti140),(148,ti148),(150,ti150),(151,ti151),(153,ti153),(155,ti155),(157,ti157),(158,ti158),(162,ti162),(164,ti164),(165,ti165),(169,ti169),(176,ti176),(178,ti178),(180,ti180),(181,ti181),(182,ti182),(184,ti184),(189,ti189),(194,ti194),(200,ti200),(203,ti203),(215,ti215),(216,ti216),(218,ti218),(219,ti219),(221,ti221),(224,ti224),(225,ti225),(227,ti227),(241,ti241),(242,ti242),(247,ti247),(250,ti250),(252,ti252),(262,ti262),(264,ti264),(267,ti267),(276,ti276),(277,ti277),(280,ti280),(286,ti286),(288,ti288),(294,ti294),(296,ti296),(302,ti302),(304,ti304),(305,ti305),(312,ti312),(313,ti313),(317,ti317),(319,ti319),(321,ti321),(324,ti324),(326,ti326),(327,ti327),(329,ti329),(336,ti336),(337,ti337),(339,ti339)]
theorem ti1_ok:ti1.Ok prog 1:=⟨Tryz.underlying1,by kernel_rfl⟩
theorem ti3_ok:ti3.Ok prog 3:=⟨Tryz.underlying3,by kernel_rfl⟩
theorem ti4_ok:ti4.Ok prog 4:=⟨Tryz.underlying4,by kernel_rfl⟩
theorem ti5_ok:ti5.Ok prog 5:=⟨Tryz.underlying5,by kernel_rfl⟩
theorem ti9_ok:ti9.Ok prog 9:=⟨Tryz.underlying9,by kernel_rfl⟩
theorem ti22_ok:ti22.Ok prog 22:=⟨Tryz.underlying22,by kernel_rfl⟩
theorem ti23_ok:ti23.Ok prog 23:=⟨Tryz.underlying23,by kernel_rfl⟩
theorem ti25_ok:ti25.Ok prog 25:=⟨Tryz.underlying25,by kernel_rfl⟩
theorem ti27_ok:ti27.Ok prog 27:=⟨Tryz.underlying27,by kernel_rfl⟩
theorem ti28_ok:ti28.Ok prog 28:=⟨Tryz.underlying28,by kernel_rfl⟩
theorem ti30_ok:ti30.Ok prog 30:=⟨Tryz.underlying30,by kernel_rfl⟩
theorem ti31_ok:ti31.Ok prog 31:=⟨Tryz.underlying31,by kernel_rfl⟩
theorem ti32_ok:ti32.Ok prog 32:=⟨Tryz.underlying32,by kernel_rfl⟩
theorem ti34_ok:ti34.Ok prog 34:=⟨Tryz.underlying34,by kernel_rfl⟩
theorem ti35_ok:ti35.Ok prog 35:=⟨Tryz.underlying35,by kernel_rfl⟩
theorem ti37_ok:ti37.Ok prog 37:=⟨Tryz.underlying37,by kernel_rfl⟩
theorem ti38_ok:ti38.Ok prog 38:=⟨Tryz.underlying38,by kernel_rfl⟩
theorem ti41_ok:ti41.Ok prog 41:=⟨Tryz.underlying41,by kernel_rfl⟩
theorem ti52_ok:ti52.Ok prog 52:=⟨Tryz.underlying52,by kernel_rfl⟩
theorem ti54_ok:ti54.Ok prog 54:=⟨Tryz.underlying54,by kernel_rfl⟩
theorem ti56_ok:ti56.Ok prog 56:=⟨Tryz.underlying56,by kernel_rfl⟩
theorem ti58_ok:ti58.Ok prog 58:=⟨Tryz.underlying58,by kernel_rfl⟩
theorem ti60_ok:ti60.Ok prog 60:=⟨Tryz.underlying60,by kernel_rfl⟩
theorem ti61_ok:ti61.Ok prog 61:=⟨Tryz.underlying61,by kernel_rfl⟩
theorem ti68_ok:ti68.Ok prog 68:=⟨Tryz.underlying68,by kernel_rfl⟩
theorem ti69_ok:ti69.Ok prog 69:=⟨Tryz.underlying69,by kernel_rfl⟩
theorem ti73_ok:ti73.Ok prog 73:=⟨Tryz.underlying73,by kernel_rfl⟩
theorem ti74_ok:ti74.Ok prog 74:=⟨Tryz.underlying74,by kernel_rfl⟩
theorem ti76_ok:ti76.Ok prog 76:=⟨Tryz.underlying76,by kernel_rfl⟩
theorem ti79_ok:ti79.Ok prog 79:=⟨Tryz.underlying79,by kernel_rfl⟩
theorem ti80_ok:ti80.Ok prog 80:=⟨Tryz.underlying80,by kernel_rfl⟩
theorem ti91_ok:ti91.Ok prog 91:=⟨Tryz.underlying91,by kernel_rfl⟩
theorem ti94_ok:ti94.Ok prog 94:=⟨Tryz.underlying94,by kernel_rfl⟩
theorem ti96_ok:ti96.Ok prog 96:=⟨Tryz.underlying96,by kernel_rfl⟩
theorem ti98_ok:ti98.Ok prog 98:=⟨Tryz.underlying98,by kernel_rfl⟩
theorem ti100_ok:ti100.Ok prog 100:=⟨Tryz.underlying100,by kernel_rfl⟩
theorem ti102_ok:ti102.Ok prog 102:=⟨Tryz.underlying102,by kernel_rfl⟩
theorem ti118_ok:ti118.Ok prog 118:=⟨Tryz.underlying118,by kernel_rfl⟩
theorem ti119_ok:ti119.Ok prog 119:=⟨Tryz.underlying119,by kernel_rfl⟩
theorem ti121_ok:ti121.Ok prog 121:=⟨Tryz.underlying121,by kernel_rfl⟩
theorem ti123_ok:ti123.Ok prog 123:=⟨Tryz.underlying123,by kernel_rfl⟩
theorem ti126_ok:ti126.Ok prog 126:=⟨Tryz.underlying126,by kernel_rfl⟩
theorem ti129_ok:ti129.Ok prog 129:=⟨Tryz.underlying129,by kernel_rfl⟩
theorem ti130_ok:ti130.Ok prog 130:=⟨Tryz.underlying130,by kernel_rfl⟩
theorem ti135_ok:ti135.Ok prog 135:=⟨Tryz.underlying135,by kernel_rfl⟩
theorem ti139_ok:ti139.Ok prog 139:=⟨Tryz.underlying139,by kernel_rfl⟩
theorem ti140_ok:ti140.Ok prog 140:=⟨Tryz.underlying140,by kernel_rfl⟩
theorem ti148_ok:ti148.Ok prog 148:=⟨Tryz.underlying148,by kernel_rfl⟩
theorem ti150_ok:ti150.Ok prog 150:=⟨Tryz.underlying150,by kernel_rfl⟩
theorem ti151_ok:ti151.Ok prog 151:=⟨Tryz.underlying151,by kernel_rfl⟩
theorem ti153_ok:ti153.Ok prog 153:=⟨Tryz.underlying153,by kernel_rfl⟩
theorem ti155_ok:ti155.Ok prog 155:=⟨Tryz.underlying155,by kernel_rfl⟩
theorem ti157_ok:ti157.Ok prog 157:=⟨Tryz.underlying157,by kernel_rfl⟩
theorem ti158_ok:ti158.Ok prog 158:=⟨Tryz.underlying158,by kernel_rfl⟩
theorem ti162_ok:ti162.Ok prog 162:=⟨Tryz.underlying162,by kernel_rfl⟩
theorem ti164_ok:ti164.Ok prog 164:=⟨Tryz.underlying164,by kernel_rfl⟩
theorem ti165_ok:ti165.Ok prog 165:=⟨Tryz.underlying165,by kernel_rfl⟩
theorem ti169_ok:ti169.Ok prog 169:=⟨Tryz.underlying169,by kernel_rfl⟩
theorem ti176_ok:ti176.Ok prog 176:=⟨Tryz.underlying176,by kernel_rfl⟩
theorem ti178_ok:ti178.Ok prog 178:=⟨Tryz.underlying178,by kernel_rfl⟩
theorem ti180_ok:ti180.Ok prog 180:=⟨Tryz.underlying180,by kernel_rfl⟩
theorem ti181_ok:ti181.Ok prog 181:=⟨Tryz.underlying181,by kernel_rfl⟩
theorem ti182_ok:ti182.Ok prog 182:=⟨Tryz.underlying182,by kernel_rfl⟩
theorem ti184_ok:ti184.Ok prog 184:=⟨Tryz.underlying184,by kernel_rfl⟩
theorem ti189_ok:ti189.Ok prog 189:=⟨Tryz.underlying189,by kernel_rfl⟩
theorem ti194_ok:ti194.Ok prog 194:=⟨Tryz.underlying194,by kernel_rfl⟩
theorem ti200_ok:ti200.Ok prog 200:=⟨Tryz.underlying200,by kernel_rfl⟩
theorem ti203_ok:ti203.Ok prog 203:=⟨Tryz.underlying203,by kernel_rfl⟩
theorem ti215_ok:ti215.Ok prog 215:=⟨Tryz.underlying215,by kernel_rfl⟩
theorem ti216_ok:ti216.Ok prog 216:=⟨Tryz.underlying216,by kernel_rfl⟩
theorem ti218_ok:ti218.Ok prog 218:=⟨Tryz.underlying218,by kernel_rfl⟩
theorem ti219_ok:ti219.Ok prog 219:=⟨Tryz.underlying219,by kernel_rfl⟩
theorem ti221_ok:ti221.Ok prog 221:=⟨Tryz.underlying221,by kernel_rfl⟩
theorem ti224_ok:ti224.Ok prog 224:=⟨Tryz.underlying224,by kernel_rfl⟩
theorem ti225_ok:ti225.Ok prog 225:=⟨Tryz.underlying225,by kernel_rfl⟩
theorem ti227_ok:ti227.Ok prog 227:=⟨Tryz.underlying227,by kernel_rfl⟩
theorem ti241_ok:ti241.Ok prog 241:=⟨Tryz.underlying241,by kernel_rfl⟩
theorem ti242_ok:ti242.Ok prog 242:=⟨Tryz.underlying242,by kernel_rfl⟩
theorem ti247_ok:ti247.Ok prog 247:=⟨Tryz.underlying247,by kernel_rfl⟩
theorem ti250_ok:ti250.Ok prog 250:=⟨Tryz.underlying250,by kernel_rfl⟩
theorem ti252_ok:ti252.Ok prog 252:=⟨Tryz.underlying252,by kernel_rfl⟩
theorem ti262_ok:ti262.Ok prog 262:=⟨Tryz.underlying262,by kernel_rfl⟩
theorem ti264_ok:ti264.Ok prog 264:=⟨Tryz.underlying264,by kernel_rfl⟩
theorem ti267_ok:ti267.Ok prog 267:=⟨Tryz.underlying267,by kernel_rfl⟩
theorem ti276_ok:ti276.Ok prog 276:=⟨Tryz.underlying276,by kernel_rfl⟩
theorem ti277_ok:ti277.Ok prog 277:=⟨Tryz.underlying277,by kernel_rfl⟩
theorem ti280_ok:ti280.Ok prog 280:=⟨Tryz.underlying280,by kernel_rfl⟩
theorem ti286_ok:ti286.Ok prog 286:=⟨Tryz.underlying286,by kernel_rfl⟩
theorem ti288_ok:ti288.Ok prog 288:=⟨Tryz.underlying288,by kernel_rfl⟩
theorem ti294_ok:ti294.Ok prog 294:=⟨Tryz.underlying294,by kernel_rfl⟩
theorem ti296_ok:ti296.Ok prog 296:=⟨Tryz.underlying296,by kernel_rfl⟩
theorem ti302_ok:ti302.Ok prog 302:=⟨Tryz.underlying302,by kernel_rfl⟩
theorem ti304_ok:ti304.Ok prog 304:=⟨Tryz.underlying304,by kernel_rfl⟩
theorem ti305_ok:ti305.Ok prog 305:=⟨Tryz.underlying305,by kernel_rfl⟩
theorem ti312_ok:ti312.Ok prog 312:=⟨Tryz.underlying312,by kernel_rfl⟩
theorem ti313_ok:ti313.Ok prog 313:=⟨Tryz.underlying313,by kernel_rfl⟩
theorem ti317_ok:ti317.Ok prog 317:=⟨Tryz.underlying317,by kernel_rfl⟩
theorem ti319_ok:ti319.Ok prog 319:=⟨Tryz.underlying319,by kernel_rfl⟩
theorem ti321_ok:ti321.Ok prog 321:=⟨Tryz.underlying321,by kernel_rfl⟩
theorem ti324_ok:ti324.Ok prog 324:=⟨Tryz.underlying324,by kernel_rfl⟩
theorem ti326_ok:ti326.Ok prog 326:=⟨Tryz.underlying326,by kernel_rfl⟩
theorem ti327_ok:ti327.Ok prog 327:=⟨Tryz.underlying327,by kernel_rfl⟩
theorem ti329_ok:ti329.Ok prog 329:=⟨Tryz.underlying329,by kernel_rfl⟩
theorem ti336_ok:ti336.Ok prog 336:=⟨Tryz.underlying336,by kernel_rfl⟩
theorem ti337_ok:ti337.Ok prog 337:=⟨Tryz.underlying337,by kernel_rfl⟩
theorem ti339_ok:ti339.Ok prog 339:=⟨Tryz.underlying339,by kernel_rfl⟩
theorem gc:I.Ok prog:=⟨ti1_ok,ti3_ok,ti4_ok,ti5_ok,ti9_ok,ti22_ok,ti23_ok,ti25_ok,ti27_ok,ti28_ok,ti30_ok,ti31_ok,ti32_ok,ti34_ok,ti35_ok,ti37_ok,ti38_ok,ti41_ok,ti52_ok,ti54_ok,ti56_ok,ti58_ok,ti60_ok,ti61_ok,ti68_ok,ti69_ok,ti73_ok,ti74_ok,ti76_ok,ti79_ok,ti80_ok,ti91_ok,ti94_ok,ti96_ok,ti98_ok,ti100_ok,ti102_ok,ti118_ok,ti119_ok,ti121_ok,ti123_ok,ti126_ok,ti129_ok,ti130_ok,ti135_ok,ti139_ok,ti140_ok,ti148_ok,ti150_ok,ti151_ok,ti153_ok,ti155_ok,ti157_ok,ti158_ok,ti162_ok,ti164_ok,ti165_ok,ti169_ok,ti176_ok,ti178_ok,ti180_ok,ti181_ok,ti182_ok,ti184_ok,ti189_ok,ti194_ok,ti200_ok,ti203_ok,ti215_ok,ti216_ok,ti218_ok,ti219_ok,ti221_ok,ti224_ok,ti225_ok,ti227_ok,ti241_ok,ti242_ok,ti247_ok,ti250_ok,ti252_ok,ti262_ok,ti264_ok,ti267_ok,ti276_ok,ti277_ok,ti280_ok,ti286_ok,ti288_ok,ti294_ok,ti296_ok,ti302_ok,ti304_ok,ti305_ok,ti312_ok,ti313_ok,ti317_ok,ti319_ok,ti321_ok,ti324_ok,ti326_ok,ti327_ok,ti329_ok,ti336_ok,ti337_ok,ti339_ok,trivial⟩
theorem _root_.Go.Vc.zk {p:Prop} (h:p:=by kernel_rfl):p:=h
theorem _root_.Go.Vc.zm {p:Prop} (h:p:=by dsimp only[maxLen];omega):p:=h
theorem _root_.Go.Vc.zt {p:Prop} (h:p:=by simp[Cp]):p:=h
theorem _root_.Go.Vc.zr {p:Prop} (h:p:=by unfold maxLen;omega):p:=h
theorem _root_.Go.Vc.zb {p:Prop} (h:p:=by simp[Cp];decide):p:=h
theorem _root_.Go.Vc.zg {p:Prop} (h:p:=by rw[qy];omega):p:=h
theorem _root_.Go.Vc.zh {p:Prop} (h:p:=by simp only[aB,jy,qy];omega):p:=h
theorem _root_.Go.Vc.zj {p:Prop} (h:p:=by rw[gm];rfl):p:=h
section
variable {f:Fs} {w:World}
theorem km {o:Array Oper} {y:Code} {Q:vd} {l:List Oper} {e e2:Env} (h0:xw8 I f.n l e=some ([],e2)) (k0:WC Tryz.prog f y Q e2 w):WL Tryz.prog f o (Exit.then (Code.wp Tryz.prog y Q) Q) l e w:=j0 gc h0 (gk (jp k0))
theorem ko {i:Nat} {l:List Oper} {y:Code} {Q:vd} {e:Env} (k0:WL Tryz.prog f l.toArray (Exit.then (Code.wp Tryz.prog y Q) Q) l e w):WC Tryz.prog f (.seq (.region i l.toArray false) y) Q e w:=gl (gy k0)
theorem ki {i:Nat} {l m:List Oper} {y:Code} {Q:vd} {e d:Env} (h0:xw8 I f.n l e=some (m,d)) (k0:WL Tryz.prog f l.toArray (Exit.then (Code.wp Tryz.prog y Q) Q) m d w):WC Tryz.prog f (.seq (.region i l.toArray false) y) Q e w:=gl (gy (j0 gc h0 k0))
theorem jd {i:Nat} {l:List Oper} {y:Code} {Q:vd} {e e2:Env} (h0:xw8 I f.n l e=some ([],e2)) (k0:WC Tryz.prog f y Q e2 w):WC Tryz.prog f (.seq (.region i l.toArray false) y) Q e w:=gl (gy (j0 gc h0 (gk (jp k0))))
theorem yl {i:Nat} {l m:List Oper} {Q:vd} {e d:Env} (h0:xw8 I f.n l e=some (m,d)) (k0:WL Tryz.prog f l.toArray Q m d w):WC Tryz.prog f (.region i l.toArray false) Q e w:=gy (j0 gc h0 k0)
theorem Ak {i:Nat} {K K2:Act→World→Prop} {y:Code} {Q:vd} {e:Env} (k0:WC Tryz.prog f y Q e w):WC Tryz.prog f (.exit i) (Exit.then K (Exit.then K2 (Exit.inBlock i (Exit.then (Code.wp Tryz.prog y Q) Q)))) e w:=y8 (ql (ql (ve (jp k0))))
theorem qq {o:Array Oper} {y:Code} {Q:vd} {e:Env} (k0:WC Tryz.prog f y Q e w):WL Tryz.prog f o (Exit.then (Code.wp Tryz.prog y Q) Q) [] e w:=gk (jp k0)
theorem Ac {i:Nat} {c y:Code} {Q:vd} {e:Env} (k0:WC Tryz.prog f c (Exit.inBlock i (Exit.then (Code.wp Tryz.prog y Q) Q)) e w):WC Tryz.prog f .skip (Exit.then (Code.wp Tryz.prog (.seq (.block i c) y) Q) Q) e w:=kc (jp (gl (j8 k0)))
theorem Aa {i i2:Nat} {l m:List Oper} {Q:vd} {e d:Env} (h0:xw8 I f.n l e=some (m,d)) (k0:WL Tryz.prog f l.toArray Q m d w):Fin f (Exit.inBlock i (Exit.then (Code.wp Tryz.prog (.region i2 l.toArray false) Q) Q)) .normal e w:=js (jp (gy (j0 gc h0 k0)))
theorem x3 {y:Code} {Q:vd} {e:Env} (k0:WC Tryz.prog f y Q e w):WC Tryz.prog f .skip (Exit.then (Code.wp Tryz.prog y Q) Q) e w:=kc (jp k0)
theorem vr {o:Array Oper} {Q:vd} {l:List Oper} {e e2:Env} (h0:xw8 I f.n l e=some ([],e2)) (k0:Fin f Q .ret e2 w):WL Tryz.prog f o (Exit.then (Code.wp Tryz.prog .ret Q) Q) l e w:=j0 gc h0 (gk (jp (j9 k0)))
theorem gGl {i i2:Nat} {K K2 K3:Act→World→Prop} {Q:vd} {e:Env} (k0:Fin f Q .ret e w):Fin f (Exit.inBlock i (Exit.then K (Exit.then K2 (Exit.inBlock i2 (Exit.then K3 Q))))) .ret e w:=u1 (j7 (j7 (u1 (j7 k0))))
end
theorem _root_.Go.Vc.jz (n:Int) (h: -9223372036854775808≤n∧n≤9223372036854775807):IntKind.i64.wrap n=n:=IntWalk.i64_in n h
section
variable {f:Fs} {ops:Array Oper} {Q:vd} {rest:List Oper} {o:Oper} {env:Env} {w:World}
theorem gw {t d:Nat} {v:Value} (h:alE I f.n ops env o=some (t,v,d)) (k:∀(b:Nat) w',w.heap.size≤b→gz w' b t (cellsOf v)→Ext No w w'→WL prog f ops Q rest ((d,.pointer (some ⟨b,0,none⟩))::env) w'):WL prog f ops Q (o::rest) env w:=wl (Ba gc h k)
theorem gu {b off d:Nat} {v:Value} (h:ldE I f.n ops env o=some (b,off,none,d)) (hc:w.cell? ⟨b,off,none⟩=some v) (k:WL prog f ops Q rest ((d,v)::env) w):WL prog f ops Q (o::rest) env w:=wl (st_ld gc h hc k)
theorem j6 {b off d:Nat} {v:Value} {T:Nat} {l:List Value} (hb:gz w b T l) (h:ldE I f.n ops env o=some (b,off,none,d)) (hv:nth l off=some v) (k:WL prog f ops Q rest ((d,v)::env) w):WL prog f ops Q (o::rest) env w:=wl (st_ldb gc hb h hv k)
theorem je {b m d:Nat} {T:Nat} {l:List Value} (hb:gz w b T l) (h:ldE I f.n ops env o=some (b,0,some m,d)) (hl:l.length=m) (k:WL prog f ops Q rest ((d,.agg l.toArray)::env) w):WL prog f ops Q (o::rest) env w:=wl (st_ldB gc hb h hl k)
theorem jm {b off m d:Nat} {l:List Value} (h:ldE I f.n ops env o=some (b,off,some m,d)) (hs:Seg w b off l) (hl:l.length=m) (k:WL prog f ops Q rest ((d,.agg l.toArray)::env) w):WL prog f ops Q (o::rest) env w:=wl (st_ldN gc h hs hl k)
theorem ka {b off len sz d:Nat} {i:Int} (h:ixE I f.n ops env o=some (b,off,len,sz,i,d)) (ss:Nat) (hss:sz=ss) (j:Nat) (hj:i=(j:Int)) (hlt:j<len) (q:Nat) (hq:q=off+j*ss) (k:WL prog f ops Q rest ((d,.pointer (some ⟨b,q,none⟩))::env) w):WL prog f ops Q (o::rest) env w:=wl (st_ix gc h ss hss j hj hlt q hq k)
theorem kl {b off T:Nat} {v:Value} {l l':List Value} (hb:gz w b T l) (h:stE I f.n ops env o=some (b,off,1,v)) (hv:flat v=true) (hl:setF l off v=some l') (k:∀w',gz w' b T l'→Ext (One b) w w'→w'.heap.size=w.heap.size→WL prog f ops Q rest env w'):WL prog f ops Q (o::rest) env w:=wl (yi gc hb h hv hl k)
theorem kg {d:Nat} {z l':List Value} {q:Parts} (h:bdE I f.n ops env o=some (z,q,d)) (hok:Cp z.length q) (hl:yh z q=l') (k:WL prog f ops Q rest ((d,.agg l'.toArray)::env) w):WL prog f ops Q (o::rest) env w:=wl (st_bd gc h hok hl k)
end
end Go.Proofs.YtpdiphfjmepijaaGreatDoor
namespace Go.Vc
variable {P:Program} {f:Fs} {Q:vd} {env:Env} {w:World}
theorem c_scopeJ {x y:Code} {α:Type} (l:Nat) (hf:findLabel (.seq x (.seq (.label l) y)) l=some (.seq .skip y)) (I:α→World→Prop) (E:α→Env) (μ:α→World→Nat)
  (first:WC P f x (Exit.then (fun a w=>∃z,Ag f (E z) a∧I z w) (Exit.noGoto Q)) env w)
  (round:∀z w,I z w→WC P f y (Exit.jump l (fun a' w'=>∃z',Ag f (E z') a'∧I z' w'∧μ z' w'<μ z w) Q) (E z) w):
  WC P f (.scope (.seq x (.seq (.label l) y))) Q env w:=by
 intro a G b k t
 have F:gotoIn l (.inScope (.seq x (.seq (.label l) y))::k)=some (.code (.seq .skip y):: .inScope (.seq x (.seq (.label l) y))::k):=by simp only[gotoIn,hf]
 have u:∀n z a w,μ z w=n→I z w→Ag f (E z) a→∃e a' w',Q e a' w'∧Arrives P (lone (b.at a (.code (.seq .skip y):: .inScope (.seq x (.seq (.label l) y))::k)) t w) b k t e a' w':=by
  intro n
  induction n using Nat.strongRecOn with
  |_ n ih=>
   intro z a w M s m
   have H:(Code.seq .skip y).wp P (Exit.jump l (fun a' w'=>∃z',Ag f (E z') a'∧I z' w'∧μ z' w'<μ z w) Q) a w:=wp_seq (wp_skip (round z w s a m))
   obtain⟨e,g,i,j,c⟩:=H b (.inScope (.seq x (.seq (.label l) y))::k) t
   cases e with
   |normal=>exact⟨.normal,g,i,j,Steps.trans c (.one step_inScope)⟩
   |exit id=>exact⟨.exit id,g,i,j,fun v A=>c v (by simp[exitTo,A])⟩
   |goto l'=>
    obtain⟨rfl,z',o,q,J⟩:=j
    obtain⟨B,C,D,r,d⟩:=ih _ zo z' g i rfl q o
    exact⟨B,C,D,r,.of_steps (c _ F) d⟩
   |ret=>exact⟨_,g,i,j,c⟩
   |panic ch=>exact⟨_,g,i,j,c⟩
   |outgrown=>exact⟨_,g,i,j,c⟩
 have p:(Code.seq x (.seq (.label l) y)).wp P (Exit.jump l (fun a' w'=>∃z',Ag f (E z') a'∧I z' w') Q) a w:=by
  refine wp_seq (wp_mono (first a G) fun e a' w' h=> ?_)
  cases e with
  |normal=>
   obtain⟨z,m,s⟩:=h
   refine wp_seq (wp_label (wp_mono (round z w' s a' m) fun e K L h=> ?_))
   cases e with
   |goto l'=>obtain⟨rfl,z',o,q,_⟩:=h;exact⟨rfl,z',o,q⟩
   |normal=>exact h
   |exit id=>exact h
   |ret=>exact h
   |panic ch=>exact h
   |outgrown=>exact h
  |goto l'=>exact h.elim
  |exit id=>exact h
  |ret=>exact h
  |panic ch=>exact h
  |outgrown=>exact h
 obtain⟨e,g,i,j,c⟩:=p b (.inScope (.seq x (.seq (.label l) y))::k) t
 cases e with
 |normal=>exact⟨.normal,g,i,j,.head step_scope (Steps.trans c (.one step_inScope))⟩
 |exit id=>exact⟨.exit id,g,i,j,fun v A=> .head step_scope (c v (by simp[exitTo,A]))⟩
 |goto l'=>
  obtain⟨rfl,z,m,s⟩:=j
  obtain⟨B,C,D,r,d⟩:=u _ z g i rfl s m
  exact⟨B,C,D,r,.of_steps (.head step_scope (c _ F)) d⟩
 |ret=>exact⟨_,g,i,j,.of_steps (.one step_scope) c⟩
 |panic ch=>exact⟨_,g,i,j,.of_steps (.one step_scope) c⟩
 |outgrown=>exact⟨_,g,i,j,.of_steps (.one step_scope) c⟩
theorem f_first {α:Type} {I:α→World→Prop} {E:α→Env} (z:α) (hs:SubE (E z) env) (hI:I z w):Fin f (Exit.then (fun a w=>∃z,Ag f (E z) a∧I z w) (Exit.noGoto Q)) .normal env w:=
 fun _ ha=>⟨z,ha.sub hs.subs,hI⟩
theorem f_back {α:Type} {l:Nat} {I:α→World→Prop} {E:α→Env} {μ:α→World→Nat} {m:Nat} (z:α) (hs:SubE (E z) env) (hI:I z w) (hm:μ z w<m):
  Fin f (Exit.jump l (fun a' w'=>∃z',Ag f (E z') a'∧I z' w'∧μ z' w'<m) Q) (.goto l) env w:=
 fun _ ha=>⟨rfl,z,ha.sub hs.subs,hI,hm⟩
theorem f_jumpN {l:Nat} {J:Act→World→Prop} (h:Fin f Q .normal env w):Fin f (Exit.jump l J Q) .normal env w:=fun a ha=>h a ha
theorem f_thenG {K:Act→World→Prop} {l:Nat} (h:Fin f Q (.goto l) env w):Fin f (Exit.then K Q) (.goto l) env w:=fun a ha=>h a ha
section
variable {P:Program} {I:u0} {f:Fs} {ops:Array Oper} {o:Oper} {env:Env} {w:World} {K:Env→World→Prop}
def rowsA (k:IntKind) (L:List (List Int)):List Value:=(L.map fun r=>r.map (Value.int k)).flatten
theorem ov_eqA {I:u0} {w:World} (hI:I.Ok P) {t m d:Nat} {k:IntKind} {n:Nat} {q:Bool} {a b:Value} (h:eqE I n ops env o=some (t,m,k,q,a,b,d)) (hgd:P.eqGuardType P.depth t=false) {xs ys:List Int} (ha:a=Ci k xs) (hb:b=Ci k ys) (h1:xs.length=m) (h2:ys.length=m):
  Ov P o env w (.bool (decide (if q then xs=ys else xs≠ys))) w:=by
 unfold eqE at h
 split at h
 ·cases h
 rename_i J
 split at h
 ·rename_i K L
  split at h
  ·rename_i p v x y u C
   split at h
   ·rename_i g E
    split at h
    ·rename_i r e F
     split at h
     ·rename_i M z
      split at h
      ·rename_i s G
       split at h
       ·rename_i A
        split at h
        ·rename_i N f
         split at h
         ·rename_i O i
          have j:∀w:World,(Op.equal v (Ci s xs) (Ci s ys)).run P w= .ok (decide (xs=ys)) w∨¬(xs.length=r∧ys.length=r):=fun w=>by
           by_cases hl:xs.length=r∧ys.length=r
           ·exact .inl (run_eqA hI E F z G A xs ys hl.1 hl.2 w)
           exact .inr hl
          have D:∀p,v=t→(eqGuard p v x y (Ci s xs) (Ci s ys)).run P w= .ok () w:=fun p H=>by
           subst H
           unfold eqGuard Ci
           cases p<;>simp[hgd]
          split at h
          ·cases h
           subst ha;subst hb
           have c:=(j w).resolve_right (fun B=>B ⟨h1,h2⟩)
           intro Q l
           simp only[execOp,C,l _ _ f,l _ _ i,aK,D .eql rfl,aF]
           show((do pure (Value.bool (←Op.equal t (Ci k xs) (Ci k ys))):Sem Value).run P w).andThen _=_
           rw[aK,c]
           rfl
          ·cases h
           subst ha;subst hb
           have c:=(j w).resolve_right (fun B=>B ⟨h1,h2⟩)
           intro Q l
           simp only[execOp,C,l _ _ f,l _ _ i,aK,D .neq rfl,aF]
           show((do pure (Value.bool (!(←Op.equal t (Ci k xs) (Ci k ys)))):Sem Value).run P w).andThen _=_
           rw[aK,c]
           simp
          cases h
         cases h
        cases h
       cases h
      cases h
     cases h
    cases h
   cases h
  cases h
 cases h
theorem eqE_pre {I:u0} {n t m d:Nat} {k:IntKind} {q:Bool} {a b:Value} (h:eqE I n ops env o=some (t,m,k,q,a,b,d)):pre n ops env o=true∧o.dst=some d:=by
 unfold eqE at h
 split at h
 case h_1=>cases h
 rename_i hp
 refine⟨hp,?_⟩
 split at h
 case h_2=>cases h
 rename_i d' hd
 rw[hd]
 split at h
 case h_2=>cases h
 split at h
 case h_2=>cases h
 split at h
 case h_2=>cases h
 split at h
 case h_2=>cases h
 split at h
 case h_2=>cases h
 split at h
 case h_2=>cases h
 split at h
 case h_2=>cases h
 split at h
 case h_2=>cases h
 split at h
 ·cases h;rfl
 ·cases h;rfl
 cases h
theorem wd_eqA {K:Act→World→Prop} (hI:I.Ok P) {r:Dr} {i:Nat} {o:Oper} {pl:List (Nat×Bool)} {dn:List Nat} (ho:ops[i]? =some o) {t m d:Nat} {k:IntKind} {q:Bool} {a b:Value} (h:eqE I f.n ops env o=some (t,m,k,q,a,b,d)) (hgd:P.eqGuardType P.depth t=false) {xs ys:List Int} (ha:a=Ci k xs) (hb:b=Ci k ys) (h1:xs.length=m) (h2:ys.length=m)
  (kk:WD P f ops K r pl (i::dn) ((d,.bool (decide (if q then xs=ys else xs≠ys)))::env) w):WD P f ops K r ((i,true)::pl) dn env w:=by
 obtain⟨c,e⟩:=eqE_pre h
 exact wd_q ho c e (fun g _=>ov_eqA hI h hgd ha hb h1 h2) kk
end
class OneC (l:List Value):Prop where
  h:∀u∈l,u.oneCell'=true
instance:OneC []:=⟨fun _ h=>by cases h⟩
theorem OneC.cons {v:Value} {l:List Value} (hv:v.oneCell'=true) (hl:OneC l):OneC (v::l):=⟨fun u hu=>by
 rcases List.mem_cons.1 hu with rfl|hu
 ·exact hv
 exact hl.h u hu⟩
instance (k:IntKind) (n:Int) (l:List Value) [h:OneC l]:OneC (.int k n::l):= .cons rfl h
instance (b:Bool) (l:List Value) [h:OneC l]:OneC (.bool b::l):= .cons rfl h
instance (s:ByteArray) (l:List Value) [h:OneC l]:OneC (.string s::l):= .cons rfl h
instance (p:Option Addr) (l:List Value) [h:OneC l]:OneC (.pointer p::l):= .cons rfl h
instance (p:Option Addr) (n c:Nat) (l:List Value) [h:OneC l]:OneC (.slice p n c::l):= .cons rfl h
instance (p:Option Nat) (l:List Value) [h:OneC l]:OneC (.map p::l):= .cons rfl h
instance (a b:List Value) [ha:OneC a] [hb:OneC b]:OneC (a++b):=⟨fun u hu=>(aY.1 hu).elim (ha.h u) (hb.h u)⟩
instance (k:IntKind) (xs:List Int):OneC (xs.map (Value.int k)):=⟨fun u hu=>by obtain⟨x,_,rfl⟩:=bN.1 hu;rfl⟩
instance (xs:List Bool):OneC (xs.map Value.bool):=⟨fun u hu=>by obtain⟨x,_,rfl⟩:=bN.1 hu;rfl⟩
instance (xs:List ByteArray):OneC (xs.map Value.string):=⟨fun u hu=>by obtain⟨x,_,rfl⟩:=bN.1 hu;rfl⟩
def pevsN (I:u0) (n:Nat) (ops:Array Oper):Nat→List Oper→Env→Option (List Oper×Env)
  |0,l,env=>some (l,env)
  |_+1,[],env=>some ([],env)
  |k+1,o::r,env=>match passes ops env o with
    |true=>match zw9 n o.dst undef env with
      |some env'=>pevsN I n ops k r env'
      |none=>none
    |false=>match takes ops env o with
      |false=>none
      |true=>match pev I o.op env with
        |none=>none
        |some v=>match zw9 n o.dst v env with
          |some env'=>pevsN I n ops k r env'
          |none=>none
theorem gq {P:Program} {I:u0} {f:Fs} {ops:Array Oper} {Q:vd} {env:Env} {w:World} (hI:I.Ok P) (n:Nat) {l l':List Oper} {env':Env} (h:pevsN I f.n ops n l env=some (l',env')) (k:WL P f ops Q l' env' w):WL P f ops Q l env w:=by
 induction n generalizing env l with
 |zero=>simp[pevsN] at h;obtain⟨rfl,rfl⟩:=h;exact k
 |succ n ih=>
  cases l with
  |nil=>simp[pevsN] at h;obtain⟨rfl,rfl⟩:=h;exact k
  |cons o r=>
   simp only[pevsN] at h
   split at h
   ·rename_i c
    split at h
    ·rename_i e a
     obtain⟨b,rfl⟩:=A4 a
     exact wl (st_pass c b (ih h))
    cases h
   split at h
   ·cases h
   rename_i d
   split at h
   ·cases h
   rename_i v g
   split at h
   ·rename_i e a
    obtain⟨b,rfl⟩:=A4 a
    exact wl (yg d b (A7 hI g w) (ih h))
   cases h
theorem gn.same {P:Program} {g:FuncId} {args:List Value} {w:World} {R:Value→Prop} (h:gn P g args w fun v w'=>R v∧w'=w):gn P g args w fun v w'=>R v∧Ext No w w':=
 h.mono fun _ _ ⟨h1,h2⟩=>⟨h1,h2▸Ext.refl _ _⟩
end Go.Vc
