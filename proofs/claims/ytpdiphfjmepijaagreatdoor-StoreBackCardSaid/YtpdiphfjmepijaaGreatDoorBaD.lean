/-
  Walks and laws towards: a batch is decoded from its bytes, and less of them is too short (StoreBack)
-/
import Derived.TacticsIn
import Derived.RangeFuncSeq
import Derived.RangeFuncLeaves
import Derived.OrdersIn
import Derived.Test.YtpdiphfjmepijaaGreatDoorBaC
namespace Go.Proofs.YtpdiphfjmepijaaGreatDoor
open Go.Proofs.Tryz
open Go.Vc
def LeafGood (l:List jf) (i:Nat) (hi:i<l.length):Prop:=z9 l[i].path∧l[i].id≠Dh∧(0<i→SLt (uo (l[i-1]'zo).path) (uo l[i].path))
instance (l:List jf) (i:Nat) (hi:i<l.length):Decidable (LeafGood l i hi):=inferInstanceAs (Decidable (_∧_))
end Go.Proofs.YtpdiphfjmepijaaGreatDoor
namespace Go.Vc
section
variable {P:Program} {I:qs} {f:Fs} {ops:Array Oper} {o:Oper} {env:Env} {w:World} {K:Env→World→Prop}
theorem run_appIn (hI:I.Ok P) {t t2 ty e:Nat} {y y2 g:TI} (hy:y0 I t=some y) (he:y.desc= .slice e) (hg:y0 I e=some g) (hy2:y0 I t2=some y2) (hd2:(∃e2,y2.desc= .slice e2)∨y2.desc= .string)
  {p:Option Addr} {n c:Nat} {xs:List Value} (hown:Own w p n c e g.size xs) {x:Value} {m:Nat} {news:List Value} (hsrc:Src P w g.size x m news)
  (hfit:n+m≤c):
  ∃w',(Builtin.append_ #[t,t2] ty #[.slice p n c,x]).run P w= .ok (.slice p (n+m) c) w'∧Own w' p (n+m) c e g.size (xs++news)∧Ext (jd p) w w':=by
 have hu:=(hI.get hy).under w
 rw[he] at hu
 have hs:=(hI.get hg).sizeOf w
 have hu2:=(hI.get hy2).under w
 obtain⟨i,hi,i1,i2,i3⟩:=TI.Ok.info (hI.get hg)
 have hcap:=hown.cap
 have hxl:=hown.len
 have hlen:=hsrc.1
 unfold Builtin.append_
 simp only[List.getElem?_toArray,List.getElem?_cons_zero,List.getElem?_cons_succ]
 rw[jc hu]
 simp only[]
 rw[Sem.run_bind,hs,Result.andThen_ok]
 rw[jc hu2]
 rcases hd2 with⟨e2,h2⟩|h2<;>rw[h2]<;>simp only[pure_bind,Bool.false_eq_true,if_false,Bool.not_false,if_true,hlen]
 all_goals
  rw[if_pos hfit]
  simp only[Sem.run_bind,hsrc.cells (fun _=>rfl),Result.andThen_ok]
  rcases hown with⟨rfl,rfl,rfl,rfl⟩|⟨b,l,rfl,hblk,hl,hn,hcm,htk⟩
  ·have hm0:m=0:=by omega
   subst hm0
   have:news=[]:=by have:=hsrc.2.1;simpa using this
   subst this
   exact⟨w,by simp,.inl ⟨rfl,rfl,rfl,rfl⟩,Ext.refl _ _⟩
  have hroom:n*g.size+news.length≤l.length:=by
   rw[hsrc.2.1,hl,←Nat.add_mul];exact Nat.mul_le_mul_right _ hfit
  obtain⟨w',hr,hb',hE,hsz⟩:=va (P:=P) news w l (n*g.size) 0 hblk zo hsrc.2.2.1
  refine⟨w',?_,.inr ⟨b,_,rfl,hb',by rw[vz,hl],hfit,hcm,?_⟩,hE.mono ?_⟩
  ·have ha:(⟨b,0,none⟩:Addr).add (n*g.size)=⟨b,n*g.size,none⟩:=by rw[addr_add,Nat.zero_add]
   simp only[ha,Sem.run_bind,hr,Result.andThen_ok,Sem.run_pure]
  ·rw[Nat.add_zero,put_eq _ _ _ hroom,htk,Nat.add_mul,←hsrc.2.1]
   rw[show n*g.size+news.length=(xs++news).length from by simp[hxl]]
   rw[List.take_left]
  intro x _ hx
  subst hx
  rfl
theorem st_appC (hI:I.Ok P) {s:zw7} (h:appE I f.n ops env o=some s) (sz by_:Nat) (hsz:s.g.size=sz) (hby:s.g.bytes=by_) (hz:(cellsOf s.g.zero).length=sz) (hz0:0<sz) {xs:List Value} (hown:Own w s.p s.n s.c s.e sz xs) {m:Nat} {news:List Value} (hsrc:Src P w sz s.x m news)
  (hm:s.n+m≤maxLen) (hb:(s.n+m)*by_≤140737488355328)
  (k:∀p' c' w',Own w' p' (s.n+m) c' s.e sz (xs++news)→(s.n+m≤s.c∧p'=s.p∧c'=s.c∧Ext (jd s.p) w w'∨s.c<s.n+m∧Ext No w w'∧∀b,jd p' b→w.heap.size≤b)→K ((s.d,.slice p' (s.n+m) c')::env) w'):St P f ops o env w K:=by
 subst hsz
 subst hby
 unfold appE at h
 split at h
 ·cases h
 rename_i M
 obtain⟨N,O⟩:=pre_eq M
 split at h
 ·rename_i Y Q
  split at h
  ·rename_i l R S
   split at h
   ·rename_i D E q
    have r:l= #[D,E]:=by apply Array.ext';simpa using q
    subst r
    split at h
    ·rename_i t F u
     have z:R= #[t,F]:=by apply Array.ext';simpa using u
     subst z
     split at h
     ·rename_i y G
      split at h
      ·rename_i e H
       split at h
       ·rename_i g J
        split at h
        ·rename_i Z i
         split at h
         ·rename_i j
          split at h
          ·rename_i p n c T
           split at h
           ·rename_i v U
            cases h
            simp only at*
            obtain⟨p',c',w',V,a,W⟩:∃p' c' w',(Builtin.append_ #[t,F] o.type #[.slice p n c,v]).run P w= .ok (.slice p' (n+m) c') w'∧Own w' p' (n+m) c' e g.size (xs++news)∧(n+m≤c∧p'=p∧c'=c∧Ext (jd p) w w'∨c<n+m∧Ext No w w'∧∀b,jd p' b→w.heap.size≤b):=by
             by_cases hfit:n+m≤c
             ·obtain⟨w',A,B,C⟩:=run_appIn (P:=P) (ty:=o.type) hI G H J i (zj9 j) hown hsrc hfit
              exact⟨p,c,w',A,B,.inl ⟨hfit,rfl,rfl,C⟩⟩
             obtain⟨c',w',A,B,C⟩:=run_appG (P:=P) (ty:=o.type) (c:=c) hI G H J i (zj9 j) hz hz0 hown.sl hsrc hm hb (Nat.lt_of_not_le hfit)
             exact⟨_,c',w',A,B,.inr ⟨Nat.lt_of_not_le hfit,C,fun b hb=>Nat.le_of_eq (congrArg Addr.block (Option.some.inj hb))⟩⟩
            refine xq N O (v:= .slice p' (n+m) c') (w':=w') (fun ρ L=> ?_) (by rw[Q];exact k p' c' w' a W)
            have X:Array.map ρ #[D,E]= #[.slice p n c,v]:=by simp[L _ _ T,L _ _ U]
            simp only[execOp,S,resolve,Sem.run_bind,Sem.run_pure,Result.andThen_ok,invoke,builtin,X,V]
           cases h
          cases h
         cases h
        cases h
       cases h
      cases h
     cases h
    cases h
   cases h
  cases h
 cases h
end
inductive As:Fence→Prop where
  |none:As Fence.wide
  |round (l:Nat):As (Fence.wide.inRound l)
section
variable {F:Fence} {n:Nat} {P:Program}
theorem As.fn (h:As F) (g:FuncId):F.fn g:=by cases h<;>trivial
theorem As.depth (h:As F):F.depth.isSome=true→1≤n:=by cases h<;>(intro h;cases h)
theorem As.calls (h:As F) {f:FuncId} {args:Array Value} {w:World} {R:Ending→World→Prop} (hc:Calls P f args w R):CallsIn F n P f args w R:=by
 cases h with
 |none=>exact callsIn_wide.2 hc
 |round l=>exact(callsIn_wide (n:=n)).2 hc
theorem As.rows (h:As F) {row:String} {args:Array Value} {w:World} {R:Value→World→Prop} (hc:Rows P row args w R):RowsIn F n P row args w R:=by
 have a:RowsIn Fence.wide n P row args w R:=fun c b _=>by
  obtain⟨v,d,r,s⟩:=hc c b
  exact⟨v,d,r,stepsIn_wide.2 s⟩
 cases h with
 |none=>exact a
 |round l=>exact a
def nd:Op→Bool
  | .defer _=>false
  |_=>true
theorem upon_in (hF:As F) {o:Oper} {a:Act} {next:Act→World→Prop} {Q:Exit→Act→World→Prop} {r:Result Next} (h:o.upon P a next (fun _ _ _=>False) r):o.uponIn F n P a next Q r:=by
 cases r with
 |ok x c=>
  cases x<;>simp only[Oper.upon,Oper.uponIn] at h⊢
  all_goals first
   |exact h
   |exact h.elim
   |exact⟨hF.depth,(hF.calls h).mono fun e c b=>by
     cases e
     ·exact b
     ·exact b.elim
     obtain⟨_,_,d⟩:=b
     exact d.elim⟩
   |exact⟨hF.depth,hF.rows h⟩
 |halt x c=>
  cases x<;>simp only[Oper.upon] at h⊢
  all_goals first
   |exact h
   |exact h.elim
end
def WLI (F:Fence) (n:Nat) (P:Program) (f:Fs) (ops:Array Oper) (Q:up) (l:List Oper) (env:Env) (w:World):Prop:=∀a,Ag f env a→wpListIn F n P ops Q l a w
section
variable {F:Fence} {n:Nat} {P:Program} {I:qs} {f:Fs} {ops:Array Oper} {Q:up} {o:Oper} {rest l:List Oper} {env:Env} {w:World}
theorem wli (hF:As F) (hnd:nd o.op=true) (h:St P f ops o env w (WLI F n P f ops Q rest)):WLI F n P f ops Q (o::rest) env w:=by
 intro a j
 have b:=h a (fun _ _ _=>False) (wpListIn F n P ops Q rest) j fun _ l _ d k=>k l d
 unfold wpListIn
 split at b
 ·rename_i i
  rw[if_pos i]
  rcases b with b|⟨_,_,_,m⟩
  ·refine⟨fun g _=>hF.fn g,?_⟩
   rw[Oper.semAt_eq _ _ _ (fun c e=>by rw[e] at hnd;cases hnd)]
   exact upon_in hF b
  exact m.elim
 rename_i i
 rw[if_neg i]
 exact⟨fun g _=>hF.fn g,b⟩
theorem zx (h:Fin f Q .normal env w):WLI F n P f ops Q [] env w:=fun a ha=>h a ha
def nds (l:List Oper):Bool:=l.all fun o=>nd o.op
theorem nds_cons (h:nds (o::l)=true):nd o.op=true∧nds l=true:=by simpa [nds] using h
theorem wli_p (hF:As F) (hI:I.Ok P) {l':List Oper} {env':Env} (hn:nds l=true) (h:xw4 I f.n l env=some (l',env')) (k:WLI F n P f ops Q l' env' w):WLI F n P f ops Q l env w:=by
 induction l generalizing env with
 |nil=>simp[xw4] at h;obtain⟨rfl,rfl⟩:=h;exact k
 |cons o r ih=>
  simp only[xw4] at h
  split at h
  ·simp at h;obtain⟨rfl,rfl⟩:=h;exact k
  rename_i a
  split at h
  ·simp at h;obtain⟨rfl,rfl⟩:=h;exact k
  rename_i v b
  split at h
  ·rename_i e c
   obtain⟨d,rfl⟩:=yt c
   exact wli hF (nds_cons hn).1 (xq (by simp[takes,a]) d (yy hI b w) (ih (nds_cons hn).2 h))
  cases h
theorem c_regionI {id:Nat} {l:List Oper} (h:WLI Fence.wide 9 P f l.toArray Q l env w):WC P f (.region id l.toArray false) Q env w:=fun a ha=>wpIn_wide.1 (wpIn_region_lit (h a ha))
theorem wli_yield {g:Nat} {x:Operand} {xs:Array Operand} {ts:Array TypeId} {d:Nat} {vs:List Value} {R:Bool→World→Prop} (ho:o.op= .call {callee:= .value x,args:=xs,argTypes:=ts})
  (hg:takes ops env o=true) (hd:o.dst=some d) (hdn:Nat.blt d f.n=true) (hx:vv env x=some (.func (.yield g) #[] #[])) (hvs:evs env xs.toList=some vs)
  (hY:YieldAt Fence.wide (n-1) P g vs.toArray w fun e w'=>∃b,e= .returned (.bool b)∧R b w') (k:∀b w',R b w'→WLI Fence.wide n P f ops Q rest ((d,.bool b)::env) w'):WLI Fence.wide n P f ops Q (o::rest) env w:=by
 intro a ha
 unfold wpListIn
 rw[if_pos (xb ha hg)]
 have hevs:∀(l:List Operand) vs,evs env l=some vs→l.map a.eval=vs:=by
  intro l
  induction l with
  |nil=>intro vs h;simp[evs] at h;subst h;rfl
  |cons y r ih=>
   intro vs h
   simp only[evs] at h
   split at h
   ·rename_i u hu
    split at h
    ·rename_i l' hl'
     simp at h;subst h
     simp[ha.eval hu,ih _ hl']
    simp at h
   simp at h
 have h1:xs.map a.eval=vs.toArray:=by
  apply Array.ext'
  rw[Array.toList_map,hevs _ _ hvs]
 obtain⟨fn,tmps,assign,body,hr,hR⟩:=hY
 have hrun:(execOp a.eval o).run P w= .ok (.round g fn tmps assign body) w:=by
  simp only[execOp,ho,resolve,h1,ha.eval hx,Deferred.ofValue,Sem.run_bind,Sem.run_pure,Result.andThen_ok,invoke]
  simpa using hr
 refine⟨fun _ _=>trivial,?_⟩
 rw[Oper.semAt_eq _ _ _ (fun c e=>by rw[ho] at e;cases e),hrun,Oper.uponIn_round]
 refine⟨fun h=>(by cases h),hR.mono ?_⟩
 rintro e w' ⟨b,rfl,hb⟩
 refine k b w' hb _ ?_
 have:=ha.put (dst:=some d) (v:= .bool b) (by rw[dOk];exact hdn)
 rw[hd]
 exact this
end
/-! ### The loop's record, and worlds -/
def notCells:Obj→Bool
  | .cells .. =>false
  |_=>true
theorem Ext.putObj {w:World} {r:Nat} {o:Obj} (_:w.heap[r]? =some o) (_:notCells o=true) {o':Obj} (_:notCells o'=true):Ext (One r) w (w.putObj r o'):=
 ⟨rfl,rfl,rfl,by simp,fun b _ hS=>World.putObj_heap_other hS,Nat.le_refl _⟩
theorem Ext.allocObj (w:World) {o:Obj} (_:notCells o=true):Ext No w (w.alloc o):=by
 refine⟨rfl,rfl,rfl,by simp,fun b hb _=> ?_,Nat.le_refl _⟩
 show(w.heap.push _)[b]? =_
 rw[Array.getElem?_push,if_neg zo]
theorem Ci {P:Program} {g:FuncId} {fn:Func} {c:Code} {args:List Value} {w:World} {R:Value→World→Prop} {n:Nat} {env:Env}
  (hf:P.funcs[g]? =some fn) (hb:fn.body=some c) (hn:fn.ntmps=n) (hl:Nat.ble args.length n=true) (he:envO 0 args=some env) (h:WC P ⟨n,[]⟩ c (bodyPostM Fence.wide 9 P fn (Rv R)) env w):gn P g args w R:=by
 refine callsIn_wide.1 (callsIn_of_wp_marks (n:=9) hf hb trivial (wpIn_wide.2 (h _ ⟨rfl,?_,fun i v d=> ?_⟩)))
 ·have:args.length≤n:=Nat.le_of_ble_eq_true hl
  simp only[hn,Array.size_append,List.size_toArray,Array.size_replicate]
  omega
 have:=(envO_lk he i v d).2
 simp only[Nat.sub_zero] at this
 have a:i<args.length:=by
  rcases Nat.lt_or_ge i args.length with b|b
  ·exact b
  simp[List.getElem?_eq_none b] at this
 simp only[hn]
 rw[Array.getElem?_append_left (by simpa using a)]
 simpa using this
def WCI (F:Fence) (n:Nat) (P:Program) (f:Fs) (c:Code) (Q:up) (env:Env) (w:World):Prop:=∀a,Ag f env a→c.wpIn F n P Q a w
section
variable {F:Fence} {n:Nat} {P:Program} {f:Fs} {Q:up} {env:Env} {w:World}
theorem yi {id:Nat} {l:List Oper} (h:WLI F n P f l.toArray Q l env w):WCI F n P f (.region id l.toArray false) Q env w:=fun a ha=>wpIn_region_lit (h a ha)
theorem ci_block {id:Nat} {c:Code} (h:WCI F n P f c (Exit.inBlock id Q) env w):WCI F n P f (.block id c) Q env w:=fun a ha=>wpIn_block (h a ha)
end
section
variable {P:Program} {I:qs} {f:Fs} {ops:Array Oper} {Q:up} {o:Oper} {rest l:List Oper} {env:Env} {w:World}
theorem wlw (hnd:nd o.op=true) (h:St P f ops o env w (WLI Fence.wide 9 P f ops Q rest)):WLI Fence.wide 9 P f ops Q (o::rest) env w:=wli .none hnd h
theorem wlw_p (hn:nds l=true) (hI:I.Ok P) {l':List Oper} {env':Env} (h:xw4 I f.n l env=some (l',env')) (k:WLI Fence.wide 9 P f ops Q l' env' w):WLI Fence.wide 9 P f ops Q l env w:=wli_p .none hI hn h k
end
section
variable {P:Program} {l:Nat} {r:Loop} {w:World}
theorem begin_round (h:w.heap[l]? =some (.loop r)) (hr:r.state= .ready) {Q:World→Prop} (k:∀w',Ext (One l) w w'→w'.heap[l]? =some (.loop {r with state:= .busy})→Q w'):∃w2,(Instr.beginRound l).run P w= .ok () w2∧Q w2:=
 ⟨_,run_beginRound h hr,k _ (Ext.putObj h rfl rfl) (World.putObj_heap_same (Array.getElem?_eq_some_iff.1 h).1)⟩
end
section
variable {F:Fence} {n:Nat} {P:Program} {f:Fs} {Q:up} {env:Env} {w:World}
theorem yx9 {x y:Code} (h:WCI F n P f x (Exit.then (y.wpIn F n P Q) Q) env w):WCI F n P f (.seq x y) Q env w:=fun a ha=>wpIn_seq (h a ha)
theorem ci_skip (h:Fin f Q .normal env w):WCI F n P f .skip Q env w:=fun a ha=>wpIn_skip (h a ha)
theorem ci_ret (h:Fin f Q .ret env w):WCI F n P f .ret Q env w:=fun a ha=>wpIn_ret (h a ha)
theorem ci_cond {c:Operand} {x y:Code} {b:Bool} (hc:vv env c=some (.bool b)) (ht:b=true→WCI F n P f x Q env w) (hf:b=false→WCI F n P f y Q env w):WCI F n P f (.cond c x y) Q env w:=
 fun a ha=>wpIn_cond_split (ha.eval hc) (fun h=>ht h a ha) (fun h=>hf h a ha)
theorem ci_if {c:Operand} {x y:Code} {p:Prop} [Decidable p] (hc:vv env c=some (.bool (decide p))) (ht:p→WCI F n P f x Q env w) (hf:¬p→WCI F n P f y Q env w):WCI F n P f (.cond c x y) Q env w:=
 ci_cond hc (fun h=>ht (of_decide_eq_true h)) (fun h=>hf (of_decide_eq_false h))
theorem zq2 {y:Code} (h:WCI F n P f y Q env w):Fin f (Exit.then (y.wpIn F n P Q) Q) .normal env w:=fun a ha=>h a ha
end
/-! ### Regions whose order is open, within a fence -/
section
variable {F:Fence} {n:Nat} {P:Program}
theorem upon_in' (hF:As F) {o:Oper} {a:Act} {next:Act→World→Prop} {K:Act→World→Prop} {Q:Exit→Act→World→Prop} {r:Result Next} (h:o.upon P a next (NQ K) r):o.uponIn F n P a next Q r:=by
 refine upon_in hF ?_
 cases r with
 |ok x w'=>
  cases x<;>simp only[Oper.upon] at h⊢
  all_goals first
   |exact h
   |exact Calls.mono h fun e c b=>by cases e<;>first|exact b|exact b.elim
 |halt x w'=>
  cases x<;>simp only[Oper.upon] at h⊢
  all_goals first
   |exact h
   |exact h.elim
theorem op_in (hF:As F) {ops:Array Oper} {Q:up} {K K':Act→World→Prop} {i:Nat} {o:Oper} (ho:ops[i]? =some o) (hnd:nd o.op=true) {a:Act} {w:World}
  (h:if Region.wanted o (yielded ops a.tmps) then o.wp P a w K' (NQ K)∨(o.asks P a w∧LetsOut (NQ K)) else K' (a.put o.dst undef) w):wpOpIn F n P ops Q i K' a w:=by
 unfold wpOpIn
 simp only[ho]
 split
 ·rename_i b
  rw[if_pos b] at h
  rcases h with h|⟨_,_,_,d⟩
  ·refine⟨fun g _=>hF.fn g,?_⟩
   rw[Oper.semAt_eq _ _ _ (fun c e=>by rw[e] at hnd;cases hnd)]
   exact upon_in' hF h
  exact d.elim
 rename_i b
 rw[if_neg b] at h
 exact⟨fun g _=>hF.fn g,h⟩
theorem nds_get {l:List Oper} (h:nds l=true) {i:Nat} {o:Oper} (ho:l.toArray[i]? =some o):nd o.op=true:=by
 have:=List.all_eq_true.1 h o (List.mem_of_getElem? (by simpa using ho))
 simpa using this
theorem any_in (hF:As F) {l:List Oper} (hnd:nds l=true) {Q:up} {K:Act→World→Prop} (hQ:∀a w,K a w→Q .normal a w):∀(fuel:Nat) (listed:Array Bool) (a:Act) (w:World),
  wpAny P .any l.toArray (NQ K) fuel listed a w→wpAnyIn F n P .any l.toArray Q fuel listed a w
 |0,_,_,_,h=>⟨h.1,hQ _ _ h.2⟩
 |fuel+1,listed,a,w,h=>by
  refine⟨fun h0=>hQ _ _ (h.1 h0),fun i hi=> ?_⟩
  have h1:=h.2 i hi
  obtain⟨_,o,ho,_⟩:=mem_ready.1 hi
  unfold wpOp at h1
  simp only[ho] at h1
  refine wpOpIn_mono (fun a' w' h2=>any_in hF hnd hQ fuel _ a' w' h2) (op_in hF ho (nds_get hnd ho) h1)
variable {f:Fs} {env:Env} {w:World}
theorem ci_draw (hF : As F) {Q : up} {id : Nat} {l : List Oper} (hnd : nds l = true) (hm : P.follows .mixedOrders = true) (nA : Nat) (pl : List (Nat × Bool)) (pb : List Nat) (S : Nat → Prop)
  (hok : (Af l.toArray (Nat.blt · nA) 0 pl pb [] && xx0 l.toArray (Nat.blt · nA) [] && Region.noSelect l.toArray && Nat.beq (pl.length + pb.length) l.length) = true)
  (h : ∀ w1, Ext No w w1 → w1.heap.size = w.heap.size → WD P f l.toArray (Q .normal) ⟨(Nat.blt · nA), pb, Ext S w, [], 0⟩ pl [] env w1) : WCI F n P f (.region id l.toArray true) Q env w := by
 intro a b
 simp only [Bool.and_eq_true] at hok
 obtain ⟨⟨⟨c, d⟩, e⟩, g⟩ := hok
 have i := h _ (Ext.drew' w) rfl c ⟨d, fun _ j => (by cases j), Bt _ _⟩ e (Ext.drew' w).no a b
 have k : pl.length + pb.length = l.toArray.size := by simpa using Nat.eq_of_beq_eq_true g
 refine wpIn_region_any hm (any_in hF hnd (fun _ _ h => h) _ _ _ _ ?_)
 have := B9 _ _ _ _ i
 simp only [Nat.add_zero] at this
 rwa [k] at this
/-! A part of the region ahead of a yield's call -/
def backOk (ops:Array Oper):Bool:=(List.range ops.size).all fun i=>match ops[i]? with
  |some o=>o.after.all fun e=> !Region.binds .any e||Nat.blt e.on i
  |none=>true
theorem yz4 {ops:Array Oper} (h:backOk ops=true) {i:Nat} {o:Oper} (ho:ops[i]? =some o) {e:Edge} (he:e∈o.after) (hb:Region.binds .any e=true):e.on<i:=by
 have a:i<ops.size:=(Array.getElem?_eq_some_iff.1 ho).1
 have b:=List.all_eq_true.1 h i (List.mem_range.2 a)
 simp only[ho] at b
 rw[←Array.all_toList,List.all_eq_true] at b
 have c:=b e (by simpa using he)
 rw[hb] at c
 exact Nat.le_of_ble_eq_true c
theorem ready_nil {ops:Array Oper} {listed:Array Bool} (hsz:listed.size=ops.size) (hb:backOk ops=true) (h:Region.ready .any ops listed=[]):∀i,i<ops.size→listed.getD i true=true:=by
 intro i
 induction i using Nat.strongRecOn with
 |_ i ih=>
  intro f
  cases hv:listed.getD i true with
  |true=>rfl
  |false=>
   have d:ops[i]? =some ops[i]:=by simp[f]
   have:i∈Region.ready .any ops listed:=mem_ready.2 ⟨hv,_,d,fun e g a=>by
    have b:=yz4 hb d g a
    have c:=ih e.on b zo
    rw[Array.getD_eq_getD_getElem?] at c⊢
    have j:e.on<listed.size:=by omega
    rw[Array.getElem?_eq_getElem j] at c⊢
    exact c⟩
   rw[h] at this
   cases this
def tailOk (ops:Array Oper) (y:Nat):Bool:=(List.range ops.size).all fun j=>Nat.blt j y||(List.range y).all fun i=>zx2 ops 16 j i
def guardOk (l:List Oper):Bool:=(List.range l.length).all fun i=>match l[i]? with
  |some o=>match o.guard with
    |some (j,_)=>Nat.blt j i
    |none=>true
  |none=>true
theorem mk_getD (n:Nat):∀(l:List Nat) (i:Nat),i<n→(mk n l).getD i true=decide (i∈l)
 | [],i,hi=>by simp[mk,hi]
 |j::l,i,hi=>by
  have ih:=mk_getD n l i hi
  by_cases e:j=i
  ·subst e
   simp[mk,mk_size,hi]
  rw[mk,getD_set_ne true e,ih]
  simp[Ne.symm e]
theorem yielded_take {l:List Oper} {y:Nat} {tmps:Array Value} {o:Oper} {i:Nat} (hi:i<y) (ho:l[i]? =some o) (hg:guardOk l=true):Region.wanted o (yielded (l.take y).toArray tmps)=Region.wanted o (yielded l.toArray tmps):=by
 have a:i<l.length:=(List.getElem?_eq_some_iff.1 ho).1
 have b:=List.all_eq_true.1 hg i (List.mem_range.2 a)
 simp only[ho] at b
 unfold Region.wanted
 cases hgd:o.guard with
 |none=>rfl
 |some p=>
  obtain⟨j,c⟩:=p
  rw[hgd] at b
  have d:j<i:=Nat.le_of_ble_eq_true b
  simp only
  unfold yielded
  have:(l.take y).toArray[j]? =l.toArray[j]? :=by
   simp only[List.getElem?_toArray,List.getElem?_take]
   rw[if_pos zo]
  rw[this]
theorem any_prefix (hF:As F) {l:List Oper} {y:Nat} (hnd:nds (l.take y)=true) (hy:y≤l.length) (hb:backOk (l.take y).toArray=true) (ht:tailOk l.toArray y=true) (hg:guardOk l=true) {Q:up} {K:Act→World→Prop} {t:Nat}
  (hK:∀a w,K a w→∀fuel,t≤fuel→wpAnyIn F n P .any l.toArray Q fuel (mk l.length (List.range y).reverse) a w):
  ∀(k:Nat) (listed' listed:Array Bool) (a:Act) (w:World),listed'.size=y→listed.size=l.length→(∀i,i<y→listed.getD i true=listed'.getD i true)→(∀i,y≤i→i<l.length→listed.getD i true=false)→Closed l.toArray listed→
   wpAny P .any (l.take y).toArray (NQ K) k listed' a w→wpAnyIn F n P .any l.toArray Q (k+t) listed a w:=by
 have G:(l.take y).toArray.size=y:=by simp;omega
 have d:∀(listed' listed:Array Bool),listed'.size=y→listed.size=l.length→(∀i,i<y→listed.getD i true=listed'.getD i true)→(∀i,y≤i→i<l.length→listed.getD i true=false)→Region.ready .any (l.take y).toArray listed'=[]→listed=mk l.length (List.range y).reverse:=by
  intro listed' listed x z m D H
  have c:=ready_nil (x.trans G.symm) hb H
  refine Array.ext (by rw[z,mk_size]) fun i A B=> ?_
  have Y:listed.getD i true=listed[i]:=by simp[A]
  have Z:(mk l.length (List.range y).reverse).getD i true=(mk l.length (List.range y).reverse)[i]:=by simp[B]
  rw[←Y,←Z,mk_getD _ _ _ zo]
  by_cases b:i<y
  ·rw[m i b,c i zo]
   simp[b]
  rw[D i zo zo]
  simp[b]
 intro k
 induction k with
 |zero=>
  intro listed' listed a w x z m D S h
  rw[d listed' listed x z m D h.1]
  exact hK a w h.2 _ zo
 |succ k ih=>
  intro listed' listed a w x z m D S h
  by_cases H:Region.ready .any (l.take y).toArray listed'=[]
  ·rw[d listed' listed x z m D H]
   exact hK a w (h.1 H) _ zo
  obtain⟨E,I⟩:=List.exists_mem_of_ne_nil _ H
  obtain⟨J,o0,T,_⟩:=mem_ready.1 I
  have f:E<y:=by have:=(Array.getElem?_eq_some_iff.1 T).1;omega
  have L:∀i,i∈Region.ready .any l.toArray listed→i<y∧i∈Region.ready .any (l.take y).toArray listed':=by
   intro i A
   obtain⟨hu,o,p,c⟩:=mem_ready.1 A
   have M:i<l.length:=by have:=(Array.getElem?_eq_some_iff.1 p).1;simpa using this
   have b:i<y:=by
    rcases Nat.lt_or_ge i y with X|X
    ·exact X
    have R:=List.all_eq_true.1 ht i (List.mem_range.2 (by simpa using M))
    have:Nat.blt i y=false:=by cases hb':Nat.blt i y with
     |false=>rfl
     |true=>have:=Nat.le_of_ble_eq_true hb';omega
    rw[this,Bool.false_or,List.all_eq_true] at R
    have u:=zx8 S 16 p c (R E (List.mem_range.2 f))
    have C:=m E f
    rw[J,Array.getD_eq_getD_getElem?] at C
    rw[Array.getD_eq_getD_getElem?] at u
    rw[Array.getElem?_eq_getElem zo] at u C
    simp only[Option.getD_some] at u C
    rw[u] at C
    cases C
   refine⟨b,mem_ready.2 ⟨by rw[←m i b];exact hu,o,?_,fun e N q=> ?_⟩⟩
   ·simp only[List.getElem?_toArray,List.getElem?_take,if_pos b]
    simpa using p
   have g:(l.take y).toArray[i]? =some o:=by
    simp only[List.getElem?_toArray,List.getElem?_take,if_pos b]
    simpa using p
   have U:=yz4 hb g N q
   have v:=c e N q
   have r:=m e.on zo
   rw[Array.getD_eq_getD_getElem?,Array.getD_eq_getD_getElem?] at r
   rw[Array.getD_eq_getD_getElem?] at v⊢
   rw[Array.getElem?_eq_getElem zo] at v r
   rw[Array.getElem?_eq_getElem zo] at r⊢
   simp only[Option.getD_some] at v r⊢
   rw[←r,v]
  have s:E∈Region.ready .any l.toArray listed:=by
   obtain⟨_,o,p,c⟩:=mem_ready.1 I
   have g:l.toArray[E]? =some o:=by
    simp only[List.getElem?_toArray,List.getElem?_take,if_pos f] at p
    simpa using p
   refine mem_ready.2 ⟨by rw[m E f];exact J,o,g,fun e N q=> ?_⟩
   have U:=yz4 hb p N q
   have v:=c e N q
   have r:=m e.on zo
   rw[Array.getD_eq_getD_getElem?,Array.getD_eq_getD_getElem?] at r
   rw[Array.getD_eq_getD_getElem?] at v⊢
   rw[Array.getElem?_eq_getElem zo] at r⊢
   rw[Array.getElem?_eq_getElem zo] at v r
   simp only[Option.getD_some] at v r⊢
   rw[r,v]
  rw[show k+1+t=(k+t)+1 from by omega]
  refine⟨fun R=>(by rw[R] at s;cases s),fun i A=> ?_⟩
  obtain⟨b,B⟩:=L i A
  have u:=h.2 i B
  obtain⟨_,o,p,_⟩:=mem_ready.1 A
  have O:l[i]? =some o:=by simpa using p
  have g:(l.take y).toArray[i]? =some o:=by
   simp only[List.getElem?_toArray,List.getElem?_take,if_pos b]
   exact O
  unfold wpOp at u
  simp only[g] at u
  rw[yielded_take b O hg] at u
  refine wpOpIn_mono (fun a' w' C=>ih (listed'.setIfInBounds i true) (listed.setIfInBounds i true) a' w' (by simpa using x) (by simpa using z) (fun j V=> ?_) (fun j V W=> ?_) (S.set A) C) (op_in hF p (nds_get hnd g) u)
  ·by_cases e:i=j
   ·subst e
    simp[x,z,b,show i<l.length from by omega]
   rw[getD_set_ne true e,getD_set_ne true e]
   exact m j V
  rw[getD_set_ne true zo]
  exact D j V W
def WBI (F:Fence) (n:Nat) (P:Program) (f:Fs) (ops:Array Oper) (Q:up) (pl:List Nat) (dn:List Nat) (env:Env) (w:World):Prop:=
  yq5 ops pl dn=true→∀a,Ag f env a→∀fuel,pl.length≤fuel→wpAnyIn F n P .any ops Q fuel (mk ops.size dn) a w
variable {ops:Array Oper} {Q:up}
theorem wbi_nil {dn:List Nat} (h:Fin f Q .normal env w):WBI F n P f ops Q [] dn env w:=fun hp a ha fuel _=>by
 have h0:Region.ready .any ops (mk ops.size dn)=[]:=by simpa [yq5] using hp
 cases fuel with
 |zero=>exact⟨h0,h a ha⟩
 |succ k=>exact⟨fun _=>h a ha,fun i b=>by rw[h0] at b;cases b⟩
theorem wbi {hF:As F} {i:Nat} {o:Oper} {pl dn:List Nat} (ho:ops[i]? =some o) (hnd:nd o.op=true) (h:St P f ops o env w (WBI F n P f ops Q pl (i::dn))):WBI F n P f ops Q (i::pl) dn env w:=by
 intro l a s b c
 have d:Nat.blt i ops.size=true:=by
  have:i<ops.size:=(Array.getElem?_eq_some_iff.1 ho).1
  simpa using this
 simp only[yq5,d,Bool.and_eq_true,beq_iff_eq] at l
 obtain⟨m,e⟩:=l
 obtain⟨k,rfl⟩:∃k,b=k+1:=⟨b-1,by simp at c;omega⟩
 refine⟨fun p=>(by rw[m] at p;cases p),fun j q=> ?_⟩
 rw[m] at q
 obtain rfl:j=i:=by simpa using q
 exact op_in (K:=fun _ _=>True) hF ho hnd (h a (NQ fun _ _=>True) _ s fun r t v g u=>u e t g k (by simp at c;omega))
theorem wbi_yield {i:Nat} {o:Oper} {pl dn:List Nat} (ho:ops[i]? =some o) {g:Nat} {x:Operand} {xs:Array Operand} {ts:Array TypeId} {d:Nat} {vs:List Value} {R:Bool→World→Prop} (hop:o.op= .call {callee:= .value x,args:=xs,argTypes:=ts})
  (hg:takes ops env o=true) (hd:o.dst=some d) (hdn:Nat.blt d f.n=true) (hx:vv env x=some (.func (.yield g) #[] #[])) (hvs:evs env xs.toList=some vs)
  (hY:YieldAt Fence.wide (n-1) P g vs.toArray w fun e w'=>∃b,e= .returned (.bool b)∧R b w') (k:∀b w',R b w'→WBI Fence.wide n P f ops Q pl (i::dn) ((d,.bool b)::env) w'):WBI Fence.wide n P f ops Q (i::pl) dn env w:=by
 intro hp a ha fuel hfu
 have hlt:Nat.blt i ops.size=true:=by
  have:i<ops.size:=(Array.getElem?_eq_some_iff.1 ho).1
  simpa using this
 simp only[yq5,hlt,Bool.and_eq_true,beq_iff_eq] at hp
 obtain⟨hr,hp'⟩:=hp
 obtain⟨m,rfl⟩:∃k,fuel=k+1:=⟨fuel-1,by simp at hfu;omega⟩
 refine⟨fun h0=>(by rw[hr] at h0;cases h0),fun j hj=> ?_⟩
 rw[hr] at hj
 obtain rfl:j=i:=by simpa using hj
 unfold wpOpIn
 simp only[ho]
 rw[if_pos (xb ha hg)]
 have hevs:∀(l:List Operand) vs,evs env l=some vs→l.map a.eval=vs:=by
  intro l
  induction l with
  |nil=>intro vs h;simp[evs] at h;subst h;rfl
  |cons y r ih=>
   intro vs h
   simp only[evs] at h
   split at h
   ·rename_i u hu
    split at h
    ·rename_i l' hl'
     simp at h;subst h
     simp[ha.eval hu,ih _ hl']
    simp at h
   simp at h
 have h1:xs.map a.eval=vs.toArray:=by
  apply Array.ext'
  rw[Array.toList_map,hevs _ _ hvs]
 obtain⟨fn,tmps,assign,body,hrr,hR⟩:=hY
 have hrun:(execOp a.eval o).run P w= .ok (.round g fn tmps assign body) w:=by
  simp only[execOp,hop,resolve,h1,ha.eval hx,Deferred.ofValue,Sem.run_bind,Sem.run_pure,Result.andThen_ok,invoke]
  simpa using hrr
 refine⟨fun _ _=>trivial,?_⟩
 rw[Oper.semAt_eq _ _ _ (fun c e=>by rw[hop] at e;cases e),hrun,Oper.uponIn_round]
 refine⟨fun h=>(by cases h),hR.mono ?_⟩
 rintro e w' ⟨b,rfl,hb⟩
 refine k b w' hb hp' _ ?_ m (by simp at hfu;omega)
 have:=ha.put (dst:=some d) (v:= .bool b) (by rw[dOk];exact hdn)
 rw[hd]
 exact this
theorem c_drawY {id : Nat} {l : List Oper} (y : Nat) (hm : P.follows .mixedOrders = true) (nA : Nat) (pl : List (Nat × Bool)) (pb : List Nat) (S : Nat → Prop)
  (hok : (Af (l.take y).toArray (Nat.blt · nA) 0 pl pb [] && xx0 (l.take y).toArray (Nat.blt · nA) [] && Region.noSelect (l.take y).toArray && Nat.beq (pl.length + pb.length) y) = true)
  (hY : (Nat.ble y l.length && nds (l.take y) && backOk (l.take y).toArray && tailOk l.toArray y && guardOk l) = true) (tl : List Nat) (htl : Nat.beq (y + tl.length) l.length = true)
  (h : ∀ w1, Ext No w w1 → w1.heap.size = w.heap.size → WD P f (l.take y).toArray (NQ (fun a w => ∀ fuel, tl.length ≤ fuel → wpAnyIn Fence.wide 9 P .any l.toArray Q fuel (mk l.length (List.range y).reverse) a w) .normal) ⟨(Nat.blt · nA), pb, Ext S w, [], 0⟩ pl [] env w1) : WC P f (.region id l.toArray true) Q env w := by
 intro a g
 have htl := Nat.eq_of_beq_eq_true htl
 simp only [Bool.and_eq_true] at hok hY
 obtain ⟨⟨⟨j, k⟩, m⟩, o⟩ := hok
 obtain ⟨⟨⟨⟨p, q⟩, r⟩, s⟩, u⟩ := hY
 have c := Nat.le_of_ble_eq_true p
 have v := h _ (Ext.drew' w) rfl j ⟨k, fun _ x => (by cases x), Bt _ _⟩ m (Ext.drew' w).no a g
 have z : pl.length + pb.length = y := Nat.eq_of_beq_eq_true o
 have b := B9 _ _ _ _ v
 simp only [Nat.add_zero] at b
 have d : (l.take y).toArray.size = y := by simp; omega
 refine wpIn_wide.1 (wpIn_region_any (n := 9) hm ?_)
 have A : mk (l.take y).toArray.size [] = Array.replicate y false := by rw [d]; rfl
 rw [A, z] at b
 have := any_prefix (n := 9) As.none q c r s u (Q := Q) (t := tl.length) (fun a w h => h) y (Array.replicate y false) (Array.replicate l.length false) a _ zp zp (fun i e => by simp [e, show i < l.length from by omega]) (fun i _ e => by simp [e]) (Bt l.toArray l.length) b
 rw [htl] at this
 simpa using this
theorem f_tail {y:Nat} {l:List Oper} {tl:List Nat} (hp:yq5 l.toArray tl (List.range y).reverse=true) (h:WBI Fence.wide 9 P f l.toArray Q tl (List.range y).reverse env w):
  Fin f (NQ (fun a w=>∀fuel,tl.length≤fuel→wpAnyIn Fence.wide 9 P .any l.toArray Q fuel (mk l.length (List.range y).reverse) a w)) .normal env w:=fun a ha=>h hp a ha
end
/-! ### Iterators -/
structure Cons (P:Program) (l n0 N:Nat) (args:Nat→Array Value) (J Jx:Nat→(Nat→Prop)→World→Prop):Prop where
  st:∀{k:Nat} {F S:Nat→Prop} {w w':World},J k F w→Ext S w w'→(∀x,S x→n0≤x∧¬F x)→J k F w'
  stx:∀{k:Nat} {F S:Nat→Prop} {w w':World},Jx k F w→Ext S w w'→(∀x,S x→n0≤x∧¬F x)→Jx k F w'
  lt:∀{k:Nat} {F:Nat→Prop} {w:World},J k F w→∀x,F x→x<w.heap.size
  ltx:∀{k:Nat} {F:Nat→Prop} {w:World},Jx k F w→∀x,F x→x<w.heap.size
  round:∀{k:Nat} {F:Nat→Prop} {w:World},J k F w→k<N→YieldAt Fence.wide 8 P l (args k) w fun e w'=>∃b,e= .returned (.bool b)∧∃F':Nat→Prop,Ext F w w'∧(∀x,F' x→F x∨w.heap.size≤x)∧(b=true→J (k+1) F' w')∧(b=false→Jx k F' w')
def Iter (P:Program) (gf:Nat) (cap:List Value) (N:Nat) (args:Nat→Array Value) (own:Nat→Prop) (w:World):Prop:=
  ∀(l:Nat) (J Jx:Nat→(Nat→Prop)→World→Prop) (F:Nat→Prop),Cons P l w.heap.size N args J Jx→J 0 F w→(∀x,own x→¬F x)→
    gn P gf (.func (.yield l) #[] #[]::cap) w fun _ w'=>∃F':Nat→Prop,Ext F w w'∧(∀x,F' x→F x∨w.heap.size≤x)∧(J N F' w'∨∃k,k<N∧Jx k F' w')
structure CoS (α:Type) (w:World) where
  Fp:α→Nat→Prop
  J:Nat→α→World→Prop
  Jx:Nat→Code→α→World→Prop
  st:∀{k:Nat} {z:α} {S:Nat→Prop} {u u':World},J k z u→Ext S u u'→(∀x,S x→w.heap.size≤x∧¬Fp z x)→J k z u'
  stx:∀{k:Nat} {c:Code} {z:α} {S:Nat→Prop} {u u':World},Jx k c z u→Ext S u u'→(∀x,S x→w.heap.size≤x∧¬Fp z x)→Jx k c z u'
  lt:∀{k:Nat} {z:α} {u:World},J k z u→∀x,Fp z x→x<u.heap.size
  ltx:∀{k:Nat} {c:Code} {z:α} {u:World},Jx k c z u→∀x,Fp z x→x<u.heap.size
abbrev Cu:Obj:= .deferred (some [])
abbrev busy (r:Loop):Loop:={r with state:= .busy}
section
variable {α:Type} {w:World} {P:Program}
def CJ (C:CoS α w) (z0:α) (l D:Nat) (r:Loop) (k:Nat) (F:Nat→Prop) (u:World):Prop:=
  ∃z,F=(fun x=>C.Fp z x∨x=l∨x=D)∧C.J k z u∧(∀x,C.Fp z x→x≠l∧x≠D)∧u.heap[l]? =some (.loop r)∧u.heap[D]? =some Cu∧Ext (C.Fp z0) w u∧(∀x,C.Fp z x→C.Fp z0 x∨w.heap.size≤x)
def CJx (C:CoS α w) (z0:α) (l D:Nat) (r:Loop) (k:Nat) (F:Nat→Prop) (u:World):Prop:=
  ∃c z,F=(fun x=>C.Fp z x∨x=l∨x=D)∧C.Jx k c z u∧(∀x,C.Fp z x→x≠l∧x≠D)∧u.heap[l]? =some (.loop {r with state:= .done,pending:=some c})∧u.heap[D]? =some Cu∧Ext (C.Fp z0) w u∧(∀x,C.Fp z x→C.Fp z0 x∨w.heap.size≤x)
structure RdC (C:CoS α w) (z0:α) (l D:Nat) (r:Loop) (z:α) (W:World):Prop where
  rd:r.state= .ready
  pe:r.pending=none
  ne:l≠D
  lo:w.heap.size≤l∧w.heap.size≤D
  fp:∀x,C.Fp z x→x≠l∧x≠D
  l:W.heap[l]? =some (.loop r)
  D:W.heap[D]? =some Cu
  X:Ext (C.Fp z0) w W
  sub:∀x,C.Fp z x→C.Fp z0 x∨w.heap.size≤x
def RdQ (C:CoS α w) (z0:α) (l D:Nat) (r:Loop) (k:Nat) (z:α) (W:World):Ending→World→Prop:=fun e w'=>
  ∃b,e= .returned (.bool b)∧∃F':Nat→Prop,Ext (fun x=>C.Fp z x∨x=l∨x=D) W w'∧(∀x,F' x→(C.Fp z x∨x=l∨x=D)∨W.heap.size≤x)∧(b=true→CJ C z0 l D r (k+1) F' w')∧(b=false→CJx C z0 l D r k F' w')
theorem uk {W:World} {x:Nat} {o:Obj} (h:W.heap[x]? =some o):x<W.heap.size:=(Array.getElem?_eq_some_iff.1 h).1
variable {C:CoS α w} {z0:α} {l D:Nat} {r:Loop} {k:Nat} {z:α} {W:World} {f:Fs} {env:Env} {u:World}
theorem RdC.ends (h:RdC C z0 l D r z W) (hE:Ext (fun x=>C.Fp z x∨x=l) W u) {z':α} (hF:∀x,C.Fp z' x→C.Fp z x∨W.heap.size≤x):
  u.heap[D]? =some Cu∧(∀x,C.Fp z' x→x≠l∧x≠D)∧Ext (C.Fp z0) w u∧(∀x,C.Fp z' x→C.Fp z0 x∨w.heap.size≤x):=by
 refine⟨(hE.same _ (uk h.D) fun e=>e.elim (fun e=>(h.fp _ e).2 rfl) fun e=>h.ne e.symm).trans h.D,fun x a=> ?_,h.X.trans hE fun x a e=> ?_,fun x a=> ?_⟩
 ·rcases hF x a with a|a
  ·exact h.fp x a
  exact⟨fun e=>by have:=uk h.l;omega,fun e=>by have:=uk h.D;omega⟩
 ·rcases e with e|e
  ·exact(h.sub x e).resolve_right zo
  have:=h.lo.1;omega
 rcases hF x a with a|a
 ·exact h.sub x a
 exact .inr (Nat.le_trans h.X.size a)
theorem fin_next (z':α) (h:RdC C z0 l D r z W) (hl:u.heap[l]? =some (.loop (busy r))) (hE:Ext (fun x=>C.Fp z x∨x=l) W u) (hF:∀x,C.Fp z' x→C.Fp z x∨W.heap.size≤x) (hJ:C.J (k+1) z' u):
  Fin f (roundPost P l (RdQ C z0 l D r k z W)) .normal env u:=by
 intro a _
 obtain⟨h1,h2,h3,h4⟩:=h.ends hE hF
 have hE2:Ext (One l) u (u.putObj l (.loop {busy r with state:=if(none:Option Code).isNone then .ready else .done,pending:=none})):=Ext.putObj hl rfl rfl
 refine⟨_,_,run_endRound none hl,true,rfl,fun x=>C.Fp z' x∨x=l∨x=D,?_,fun x hx=> ?_,fun _=> ?_,fun e=>by cases e⟩
 ·exact(hE.mono fun x _ e=>e.imp id .inl).then (hE2.mono fun x _ e=> .inr (.inl e))
 ·rcases hx with hx|hx
  ·exact(hF x hx).imp .inl id
  exact .inl (.inr hx)
 refine⟨z',rfl,C.st hJ hE2 fun x e=> ?_,h2,?_,?_,h3.trans hE2 fun x hx e=> ?_,h4⟩
 ·have e:x=l:=e
  subst e
  exact⟨h.lo.1,fun e=>(h2 _ e).1 rfl⟩
 ·rw[World.putObj_heap_same (uk hl)]
  have e1:=h.rd
  have e2:=h.pe
  cases r
  cases e1
  cases e2
  rfl
 ·exact(World.putObj_heap_other h.ne.symm).trans h1
 have e:x=l:=e
 have:=h.lo.1
 omega
theorem fin_stop {c:Code} {e:Exit} (hc:(e= .ret∧c= .ret)∨∃id,e= .exit id∧c= .exit id) (z':α) (h:RdC C z0 l D r z W) (hl:u.heap[l]? =some (.loop (busy r))) (hE:Ext (fun x=>C.Fp z x∨x=l) W u) (hF:∀x,C.Fp z' x→C.Fp z x∨W.heap.size≤x) (hJ:C.Jx k c z' u):
  Fin f (roundPost P l (RdQ C z0 l D r k z W)) e env u:=by
 intro a _
 obtain⟨h1,h2,h3,h4⟩:=h.ends hE hF
 have hE2:Ext (One l) u (u.putObj l (.loop {busy r with state:=if(some c:Option Code).isNone then .ready else .done,pending:=some c})):=Ext.putObj hl rfl rfl
 have key:∃v w',(Instr.endRound l (some c)).run P u= .ok v w'∧RdQ C z0 l D r k z W (.returned v) w':=by
  refine⟨_,_,run_endRound (some c) hl,false,rfl,fun x=>C.Fp z' x∨x=l∨x=D,?_,fun x hx=> ?_,(fun e=>by cases e),fun _=> ?_⟩
  ·exact(hE.mono fun x _ e=>e.imp id .inl).then (hE2.mono fun x _ e=> .inr (.inl e))
  ·rcases hx with hx|hx
   ·exact(hF x hx).imp .inl id
   exact .inl (.inr hx)
  refine⟨c,z',rfl,C.stx hJ hE2 fun x e=> ?_,h2,?_,?_,h3.trans hE2 fun x hx e=> ?_,h4⟩
  ·have e:x=l:=e
   subst e
   exact⟨h.lo.1,fun e=>(h2 _ e).1 rfl⟩
  ·exact World.putObj_heap_same (uk hl)
  ·exact(World.putObj_heap_other h.ne.symm).trans h1
  have e:x=l:=e
  have:=h.lo.1
  omega
 rcases hc with⟨rfl,rfl⟩|⟨id,rfl,rfl⟩
 ·exact key
 exact key
theorem fin_begin {R:Ending→World→Prop} {body:Code} (h:RdC C z0 l D r z W) (hl:u.heap[l]? =some (.loop r)) (hb:∀u',Ext (One l) u u'→u'.heap[l]? =some (.loop (busy r))→WCI (Fence.wide.inRound l) 8 P f body (roundPost P l R) env u'):
  Fin f (Exit.then (fun a1 w1=>∃w2,(Instr.beginRound l).run P w1= .ok () w2∧body.wpIn (Fence.wide.inRound l) 8 P (roundPost P l R) a1 w2) (fun _ _ _=>False)) .normal env u:=fun a ha=>
 begin_round hl h.rd fun w' hE hl'=>hb w' hE hl' a ha
def penv:List Tmp→List Value→Env→Env
  |t::ts,v::vs,e=>penv ts vs ((t,v)::e)
  |_,_,e=>e
theorem ag_fold:∀(ts:List Tmp) (vs:List Value) (env:Env) (tmps:Array Value),ts.all (fun t=>Nat.blt t f.n)=true→tmps.size=f.n→(∀i v,lk env i=some v→tmps[i]? =some v)→
  ((ts.zip vs).foldl (fun tmps (x:Tmp×Value)=>tmps.setIfInBounds x.1 x.2) tmps).size=f.n∧∀i v,lk (penv ts vs env) i=some v→((ts.zip vs).foldl (fun tmps (x:Tmp×Value)=>tmps.setIfInBounds x.1 x.2) tmps)[i]? =some v
 | [],vs,env,tmps,_,hs,h=>⟨hs,by cases vs<;>exact h⟩
 |t::ts,[],env,tmps,_,hs,h=>⟨hs,h⟩
 |t::ts,v::vs,env,tmps,ht,hs,h=>by
  simp only[List.all_cons,Bool.and_eq_true] at ht
  have htn:t<f.n:=Nat.le_of_ble_eq_true ht.1
  refine ag_fold ts vs ((t,v)::env) (tmps.setIfInBounds t v) ht.2 (by simpa using hs) fun i u hi=> ?_
  rw[zj7] at hi
  split at hi
  ·rename_i e
   subst e
   cases hi
   simp[hs,htn]
  rename_i e
  rw[Array.getElem?_setIfInBounds_ne e]
  exact h i u hi
theorem c_rangeX {Q:up} {g:Operand} {ps:Array Tmp} {assign body:Code} {gf:Nat} {cap:Array Value}
  (hg:vv env g=some (.func (.func gf) #[] cap)) (hcf:∀args w,(callFunc gf args).run P w= .ok (.enter gf args) w)
  (H:∀(fn:FuncId) (a:Act),Ag f env a→∀rec:Loop,rec={state:= .ready,pending:=none,fn,tmps:=a.tmps,params:=ps,assign,body,defers:=w.heap.size}→
   ∀w1,Ext No w w1→w1.heap[w.heap.size+1]? =some (.loop rec)→w1.heap[w.heap.size]? =some Cu→w1.heap.size=w.heap.size+2→
   gn P gf (.func (.yield (w.heap.size+1)) #[] #[]::cap.toList) w1 fun _ w2=>∃r2,w2.heap[w.heap.size+1]? =some (.loop r2)∧r2.state≠ .busy∧w2.heap[w.heap.size]? =some Cu∧
    ∀w3,Ext (One (w.heap.size+1)) w2 w3→w3.heap[w.heap.size]? =some Cu→(r2.pending=none→Fin ⟨f.n,{target:= .collected w.heap.size,args:= #[]}::f.ds⟩ Q .normal env w3)∧
     ∀c,r2.pending=some c→WC P ⟨f.n,{target:= .collected w.heap.size,args:= #[]}::f.ds⟩ c Q env w3):
  WC P f (.rangeFunc g ps assign body) Q env w:=by
 intro a ha
 refine(wpIn_wide (n:=9)).1 (wpIn_rangeFunc fun fn _=> ?_)
 obtain⟨rec,hrec⟩:∃rec:Loop,rec={state:= .ready,pending:=none,fn,tmps:=a.tmps,params:=ps,assign,body,defers:=w.heap.size}:=⟨_,rfl⟩
 have e0:Ext No w (w.alloc (.deferred (some []))):=Ext.allocObj w rfl
 have e1:Ext No (w.alloc (.deferred (some []))) ((w.alloc (.deferred (some []))).alloc (.loop rec)):=Ext.allocObj _ rfl
 have hL:((w.alloc (.deferred (some []))).alloc (.loop rec)).heap[w.heap.size+1]? =some (.loop rec):=by
  have:=World.alloc_heap_new (w.alloc (.deferred (some []))) (.loop rec);rwa [World.size_alloc] at this
 have hD:((w.alloc (.deferred (some []))).alloc (.loop rec)).heap[w.heap.size]? =some (.deferred (some [])):=
  (e1.same _ zp id).trans (World.alloc_heap_new w _)
 refine⟨w.heap.size+1,[{target:= .collected w.heap.size,args:= #[]}],(w.alloc (.deferred (some []))).alloc (.loop rec),{target:= .fn (.func gf) cap,args:= #[.func (.yield (w.heap.size+1)) #[] #[]]},(w.alloc (.deferred (some []))).alloc (.loop rec),gf,
  #[.func (.yield (w.heap.size+1)) #[] #[]]++cap,(w.alloc (.deferred (some []))).alloc (.loop rec),?_,?_,fun _ _=>trivial,?_,fun h=>(by cases h),?_⟩
 ·rw[hrec];exact run_enterLoop_outer _ _ _ _ _
 ·have hev:=ha.eval hg
  simp only[resolve,hev]
  simp[Deferred.ofValue,Act.eval]
 ·simp[invoke,hcf]
 have hc:=H fn a ha rec hrec _ (e0.gb e1) hL hD zp
 have e2:(#[.func (.yield (w.heap.size+1)) #[] #[]]++cap:Array Value)=(.func (.yield (w.heap.size+1)) #[] #[]::cap.toList).toArray:=by
  apply Array.ext';simp
 rw[e2]
 refine(As.none.calls hc).mono ?_
 rintro e w2 he
 cases e with
 |returned v=>
  obtain⟨r2,hl2,hb2,hd2,hk⟩:=he
  have hend:=run_endLoop (P:=P) hl2 hb2
  have hd3:(w2.putObj (w.heap.size+1) (.loop {r2 with state:= .exhausted})).heap[w.heap.size]? =some Cu:=(World.putObj_heap_other zo).trans hd2
  have hE3:Ext (One (w.heap.size+1)) w2 (w2.putObj (w.heap.size+1) (.loop {r2 with state:= .exhausted})):=Ext.putObj hl2 rfl rfl
  generalize w2.putObj (w.heap.size+1) (.loop {r2 with state:= .exhausted})=w3 at hend hd3 hE3
  obtain⟨hk1,hk2⟩:=hk _ hE3 hd3
  have hag:Ag ⟨f.n,{target:= .collected w.heap.size,args:= #[]}::f.ds⟩ env {a with defers:=[{target:= .collected w.heap.size,args:= #[]}]++a.defers}:=⟨by simp[ha.defers],ha.size,ha.get⟩
  refine⟨_,_,hend,?_⟩
  split
  ·rename_i hp;exact hk1 hp _ hag
  rename_i c hp;exact wpIn_wide.2 (hk2 c hp _ hag)
 |panicked ch=>exact he.elim
 |outgrown=>exact he.elim
theorem c_iter (C:CoS α w) (z0:α) {Q:up} {g:Operand} {ps:Array Tmp} {assign body:Code} {gf:Nat} {cap:Array Value} {N:Nat} {args:Nat→Array Value} {own:Nat→Prop}
  (hg:vv env g=some (.func (.func gf) #[] cap)) (hcf:∀args w,(callFunc gf args).run P w= .ok (.enter gf args) w)
  (hps:ps.toList.all (fun t=>Nat.blt t f.n)=true) (hpn:∀k,(args k).size=ps.size)
  (hit:∀w1,Ext No w w1→Iter P gf cap.toList N args own w1) (hown:∀x,own x→x<w.heap.size∧¬C.Fp z0 x) (h0:C.J 0 z0 w)
  (hround:∀(l D:Nat) (r:Loop) (k:Nat) (z:α) (W:World),RdC C z0 l D r z W→C.J k z W→k<N→
   WCI (Fence.wide.inRound l) 8 P ⟨f.n,[]⟩ assign (Exit.then (fun a1 w1=>∃w2,(Instr.beginRound l).run P w1= .ok () w2∧body.wpIn (Fence.wide.inRound l) 8 P (roundPost P l (RdQ C z0 l D r k z W)) a1 w2) (fun _ _ _=>False)) (penv ps.toList (args k).toList env) W)
  (hdone:∀(D:Nat) (z:α) (W:World),C.J N z W→Ext (C.Fp z0) w W→(∀x,C.Fp z x→C.Fp z0 x∨w.heap.size≤x)→w.heap.size≤D→W.heap[D]? =some Cu→(∀x,C.Fp z x→x≠D)→
   Fin ⟨f.n,{target:= .collected D,args:= #[]}::f.ds⟩ Q .normal env W)
  (hstop:∀(D:Nat) (k:Nat) (c:Code) (z:α) (W:World),k<N→C.Jx k c z W→Ext (C.Fp z0) w W→(∀x,C.Fp z x→C.Fp z0 x∨w.heap.size≤x)→w.heap.size≤D→W.heap[D]? =some Cu→(∀x,C.Fp z x→x≠D)→
   WC P ⟨f.n,{target:= .collected D,args:= #[]}::f.ds⟩ c Q env W):
  WC P f (.rangeFunc g ps assign body) Q env w:=by
 refine c_rangeX hg hcf fun fn a Y d h w1 G O R Z=> ?_
 have T:w.heap.size+1≠w.heap.size:=by omega
 have L:d.state= .ready:=by rw[h]
 have M:d.pending=none:=by rw[h]
 have H:Cons P (w.heap.size+1) w1.heap.size N args (CJ C z0 (w.heap.size+1) w.heap.size d) (CJx C z0 (w.heap.size+1) w.heap.size d):=by
  refine⟨?_,?_,?_,?_,?_⟩
  ·rintro k F S u u' ⟨z,rfl,p,q,m,o,s,y⟩ B E
   have j:∀x,S x→w.heap.size≤x∧¬C.Fp z x:=fun x b=>⟨by have:=(E x b).1;omega,fun e=>(E x b).2 (.inl e)⟩
   exact⟨z,rfl,C.st p B j,q,(B.same _ (uk m) fun e=>(E _ e).2 (.inr (.inl rfl))).trans m,(B.same _ (uk o) fun e=>(E _ e).2 (.inr (.inr rfl))).trans o,s.trans B fun x b e=>by have:=(j x e).1;omega,y⟩
  ·rintro k F S u u' ⟨c,z,rfl,p,q,m,o,s,y⟩ B E
   have j:∀x,S x→w.heap.size≤x∧¬C.Fp z x:=fun x b=>⟨by have:=(E x b).1;omega,fun e=>(E x b).2 (.inl e)⟩
   exact⟨c,z,rfl,C.stx p B j,q,(B.same _ (uk m) fun e=>(E _ e).2 (.inr (.inl rfl))).trans m,(B.same _ (uk o) fun e=>(E _ e).2 (.inr (.inr rfl))).trans o,s.trans B fun x b e=>by have:=(j x e).1;omega,y⟩
  ·rintro k F u ⟨z,rfl,p,q,m,o,s,y⟩ x b
   rcases b with b|rfl|rfl
   ·exact C.lt p x b
   ·exact uk m
   exact uk o
  ·rintro k F u ⟨c,z,rfl,p,q,m,o,s,y⟩ x b
   rcases b with b|rfl|rfl
   ·exact C.ltx p x b
   ·exact uk m
   exact uk o
  rintro k F u ⟨z,rfl,p,q,m,o,s,y⟩ U
  have hy:=run_yield (P:=P) (args:=args k) m (by rw[h];exact hpn k)
  refine⟨_,_,_,_,hy,roundIn_of_wpIn trivial ?_⟩
  have hA:d.assign=assign:=by rw[h]
  have hB:d.body=body:=by rw[h]
  have hT:d.tmps=a.tmps:=by rw[h]
  have hP:d.params=ps:=by rw[h]
  rw[hA,hB,hT,hP]
  obtain⟨g1,g2⟩:=ag_fold (f:=⟨f.n,[]⟩) ps.toList (args k).toList env a.tmps hps Y.size Y.get
  refine hround (w.heap.size+1) w.heap.size d k z u ⟨L,M,T,⟨by omega,Nat.le_refl _⟩,q,m,o,s,y⟩ p U _ ⟨rfl,?_,fun i v hi=> ?_⟩
  ·rw[←Array.foldl_toList,Array.toList_zip];exact g1
  show(Array.foldl _ a.tmps (ps.zip (args k)))[i]? =some v
  rw[←Array.foldl_toList,Array.toList_zip];exact g2 i v hi
 have V:CJ C z0 (w.heap.size+1) w.heap.size d 0 (fun x=>C.Fp z0 x∨x=w.heap.size+1∨x=w.heap.size) w1:=
  ⟨z0,rfl,C.st h0 G fun x e=>e.elim,fun x b=>⟨fun e=>by have:=C.lt h0 x b;omega,fun e=>by have:=C.lt h0 x b;omega⟩,O,R,G.no,fun x b=> .inl b⟩
 refine(hit w1 G (w.heap.size+1) _ _ _ H V fun x b=> ?_).mono ?_
 ·have:=hown x b
  rintro(e|e|e)
  ·exact this.2 e
  ·omega
  omega
 rintro _ w2 ⟨F',a0,a2,⟨z,rfl,p,q,m,o,s,y⟩|⟨k,U,c,z,rfl,p,q,m,o,s,y⟩⟩
 ·refine⟨d,m,by rw[L];decide,o,fun X A I=>⟨fun _=> ?_,fun c K=>by rw[M] at K;cases K⟩⟩
  have j:∀x,One (w.heap.size+1) x→w.heap.size≤x∧¬C.Fp z x:=fun x b=>by
   have b:x=w.heap.size+1:=b
   exact⟨by omega,fun e=>(q x e).1 b⟩
  exact hdone _ z X (C.st p A j) (s.trans A fun x b e=>by have:=(j x e).1;omega) y (Nat.le_refl _) I fun x b=>(q x b).2
 refine⟨_,m,(fun e=>by cases e),o,fun X A I=>⟨fun K=>(by cases K),fun c' K=> ?_⟩⟩
 cases K
 have j:∀x,One (w.heap.size+1) x→w.heap.size≤x∧¬C.Fp z x:=fun x b=>by
  have b:x=w.heap.size+1:=b
  exact⟨by omega,fun e=>(q x e).1 b⟩
 exact hstop _ k c z X U (C.stx p A j) (s.trans A fun x b e=>by have:=(j x e).1;omega) y (Nat.le_refl _) I fun x b=>(q x b).2
end
/-! ### A function's end with marks, and with a deferred call -/
theorem xv8 {P:Program} {fn:Func} {tmps:Array Value} {R:Ending→World→Prop}:∀(Ds:List Nat) (w:World),Ds.Nodup→(∀D∈Ds,w.heap[D]? =some Cu)→
  (∀w',Ext (fun x=>x∈Ds) w w'→LeavesInM Fence.wide 9 P fn tmps R [] .returning w')→
  LeavesInM Fence.wide 9 P fn tmps R (Ds.map fun D=>{target:= .collected D,args:= #[]}) .returning w
 | [],w,_,_,k=>k w (Ext.refl _ _)
 |D::Ds,w,hn,hD,k=>by
  have hd:=hD D zp
  have hE:Ext (One D) w (w.putObj D (.deferred none)):=Ext.putObj hd rfl rfl
  simp only[List.nodup_cons] at hn
  refine⟨by simp,.inl ⟨D,_,rfl,run_takeDeferred hd,?_⟩⟩
  refine xv8 Ds _ hn.2 (fun D' hD'=> ?_) fun w' hE'=>k w' ?_
  ·have hne:D'≠D:=fun e=>hn.1 (e▸hD')
   exact(World.putObj_heap_other hne).trans (hD D' (by simp[hD']))
  exact(hE.mono fun x _ e=>by have e:x=D:=e;subst e;simp).then (hE'.mono fun x _ e=>by simp[e])
theorem Cj {P:Program} {n:Nat} {fn:Func} {R:Value→World→Prop} {env:Env} {w:World} (Ds:List Nat) (hn:Ds.Nodup) (hD:∀D∈Ds,w.heap[D]? =some Cu) (vs:List Value)
  (k:∀w',Ext (fun x=>x∈Ds) w w'→ResAll P env w' fn.results.toList vs∧R (tupV vs) w') {e:Exit} (he:e= .ret∨e= .normal):
  Fin ⟨n,Ds.map fun D=>{target:= .collected D,args:= #[]}⟩ (bodyPostM Fence.wide 9 P fn (Rv R)) e env w:=by
 intro a ha
 have key:LeavesInM Fence.wide 9 P fn a.tmps (Rv R) a.defers .returning w:=by
  rw[ha.defers]
  refine xv8 Ds w hn hD fun w' hE=> ?_
  obtain⟨h1,h2⟩:=k w' hE
  have hr:=zq3 (a:={a with defers:=[]}) (w:=w') (n:=n) ⟨rfl,ha.size,ha.get⟩ _ _ h1
  refine⟨tupV vs,?_,h2⟩
  unfold results
  rw[Array.mapM_eq_mapM_toList,Sem.run_bind,Sem.run_map]
  erw [hr]
  simp only[Result.andThen_ok,Sem.run_pure]
  congr 1
  cases vs with
  |nil=>rfl
  |cons v r=>cases r<;>simp[tupV]
 rcases he with rfl|rfl
 ·exact key
 exact key
theorem ym {S:Nat→Prop} {w w':World} {l:Nat} {o:Obj} (h:w.heap[l]? =some o) (hE:Ext S w w') (hS:¬S l):w'.heap[l]? =some o:=(hE.same _ (uk h) hS).trans h
theorem j0.neL {w:World} {l b T:Nat} {r:Loop} {L:List Value} (hb:j0 w b T L) (h:w.heap[l]? =some (.loop r)):b≠l:=fun e=>by
 subst e
 unfold j0 at hb
 rw[h] at hb
 cases hb
theorem j0.extL {w w':World} {l b T:Nat} {r:Loop} {L:List Value} (hb:j0 w b T L) (h:w.heap[l]? =some (.loop r)) (hE:Ext (One l) w w'):j0 w' b T L:=hb.gj hE (hb.neL h)
section
variable {P:Program} {I:qs} {f:Fs} {ops:Array Oper} {Q:up} {rest l:List Oper} {env:Env} {w:World} {F:Fence} {n:Nat} {k:Nat}
theorem zw1 (hI:I.Ok P) {l':List Oper} {env':Env} (h:xw4 I f.n l env=some (l',env')) (c:WLI (Fence.wide.inRound k) 8 P f ops Q l' env' w) (hn:nds l=true:=by rfl):WLI (Fence.wide.inRound k) 8 P f ops Q l env w:=wli_p (.round k) hI hn h c
end
section
variable {P:Program} {I:qs} {f:Fs} {ops:Array Oper} {o:Oper} {env:Env} {w:World}
def cvE (I:qs) (n:Nat) (ops:Array Oper) (env:Env) (o:Oper):Option (Nat×Nat×Nat×Nat×Nat):=
  match pre n ops env o with
  |false=>none
  |true=>match o.dst with
    |some d=>match o.op with
      | .convert s t x=>match Nat.beq s t with
        |true=>match y0 I s with
          |some y=>match y.desc with
            | .slice e=>match y0 I e with
              |some g=>match g.desc with
                | .int .u8=>match vv env x with
                  |some (.slice (some ⟨b,off,none⟩) m c)=>some (b,off,m,c,d)
                  |_=>none
                |_=>none
              |none=>none
            |_=>none
          |none=>none
        |false=>none
      |_=>none
    |none=>none
theorem freeze_ext {b T:Nat} {l:List Value} (h:j0 w b T l):Ext (One b) w (w.freeze ⟨b,l.length,none⟩ 1)∧Seg (w.freeze ⟨b,l.length,none⟩ 1) b 0 l∧(w.freeze ⟨b,l.length,none⟩ 1).heap.size=w.heap.size:=by
 unfold World.freeze
 rw[if_neg zd]
 refine⟨⟨rfl,rfl,rfl,by simp,fun x d a=> ?_,Nat.le_refl _⟩,fun i v c=> ?_,by simp⟩
 ·simp only[Array.getElem?_modify]
  rw[if_neg (fun e=>a e.symm)]
 unfold j0 at h
 simp only[World.cell?,Array.getElem?_modify,if_true,h,Option.map_some]
 rw[Nat.zero_add]
 simp[c]
theorem st_cv (hI:I.Ok P) {K:Env→World→Prop} {b off m c d:Nat} (h:cvE I f.n ops env o=some (b,off,m,c,d)) {T:Nat} {l:List Value} (hb:j0 w b T l)
  (k:∀w',Ext (One b) w w'→Seg w' b 0 l→w'.heap.size=w.heap.size→K ((d,.slice (some ⟨b,off,none⟩) m c)::env) w'):St P f ops o env w K:=by
 unfold cvE at h
 split at h
 ·cases h
 rename_i B
 obtain⟨C,D⟩:=pre_eq B
 split at h
 ·rename_i S E
  split at h
  ·rename_i s t x F
   split at h
   ·rename_i i
    have i:=Nat.eq_of_beq_eq_true i
    subst i
    split at h
    ·rename_i y G
     split at h
     ·rename_i e H
      split at h
      ·rename_i g J
       split at h
       ·rename_i p
        split at h
        ·rename_i j a q r L
         simp only[Option.some.injEq,Prod.mk.injEq] at h
         obtain⟨rfl,rfl,rfl,rfl,rfl⟩:=h
         have u:=(hI.get G).under w
         have A:=(hI.get J).under w
         rw[H] at u
         rw[p] at A
         obtain⟨M,N,O⟩:=freeze_ext hb
         refine xq C D (v:= .slice (some ⟨j,a,none⟩) q r) (w':=w.freeze ⟨j,l.length,none⟩ 1) (fun U Q=> ?_) (by rw[E];exact k _ M N O)
         have z:w.shape? j=some (T,l.length):=by
          unfold j0 at hb
          simp[World.shape?,hb]
         have R:(convert s s (.slice (some ⟨j,a,none⟩) q r)).run P w= .ok (.slice (some ⟨j,a,none⟩) q r) (w.freeze ⟨j,l.length,none⟩ 1):=by
          unfold convert
          rw[jc u,jc u]
          show(underlying e>>=_).run P w=_
          rw[jc A]
          simp[markStringish,shape,freeze,Sem.run,z]
         simp only[execOp,F,Q _ _ L,Sem.run_bind,R,Result.andThen_ok,Sem.run_pure]
        cases h
       cases h
      cases h
     cases h
    cases h
   cases h
  cases h
 cases h
theorem firstCells_len {sz n m m' c:Nat} {p:Option Addr}:Builtin.firstCells sz n (.slice p m c)=Builtin.firstCells sz n (.slice p m' c):=by
 cases p<;>rfl
theorem st_cpK (hI:I.Ok P) {K:Env→World→Prop} {s:CpArgs} (h:cpE I f.n ops env o=some s) (sz:Nat) (hsz:s.g.size=sz) {T:Nat} {l:List Value} (hblk:j0 w s.b T l) {p:Option Addr} {m c:Nat} {news:List Value} (hx:s.x= .slice p m c) (hm:s.n≤m) (hsl:Sl w p s.n sz news) (h1:∀v∈news,v.oneCell'=true)
  (hroom:s.off+s.n*sz≤l.length)
  (k:∀w',j0 w' s.b T (put l s.off news)→Ext (One s.b) w w'→w'.heap.size=w.heap.size→K ((s.d,.int .i64 (s.n:Int))::env) w'):St P f ops o env w K:=by
 subst hsz
 unfold cpE at h
 split at h
 ·cases h
 rename_i M
 obtain⟨N,O⟩:=pre_eq M
 split at h
 ·rename_i d' Q
  split at h
  ·rename_i q R S
   split at h
   ·rename_i E F r
    have u:q= #[E,F]:=by apply Array.ext';simpa using r
    subst u
    split at h
    ·rename_i t G z
     have A:R= #[t,G]:=by apply Array.ext';simpa using z
     subst A
     split at h
     ·rename_i y U
      split at h
      ·rename_i e V
       split at h
       ·rename_i g W
        split at h
        ·rename_i b off n H X
         split at h
         ·rename_i v Y
          cases h
          simp only at*
          subst hx
          have J:=(hI.get U).under w
          rw[V] at J
          have hsz:=(hI.get W).sizeOf w
          have a:Nat.min m n=n:=Nat.min_eq_right hm
          have i:=Src.slice (P:=P) (c:=c) hsl h1
          obtain⟨w',Z,B,hE,C⟩:=va (P:=P) news w l off 0 hblk (by rw[hsl.1];omega) h1
          have D:(Builtin.firstCells g.size n (.slice p m c)).run P w= .ok news.toArray w:=by
           rw[firstCells_len (m':=n)]
           exact i.cells fun _=>rfl
          have j:(Builtin.copy_ #[t,G] o.type #[.slice (some ⟨b,off,none⟩) n H,.slice p m c]).run P w= .ok (.int .i64 (n:Int)) w':=by
           unfold Builtin.copy_
           simp only[List.getElem?_toArray,List.getElem?_cons_zero,List.getElem?_cons_succ]
           rw[jc J]
           simp only[Builtin.lenOf,pure_bind,a,Sem.run_bind,hsz,Result.andThen_ok,D,Z,Sem.run_pure,goInt]
          refine xq N O (v:= .int .i64 (n:Int)) (w':=w') (fun ρ L=> ?_) (by rw[Q];exact k w' B hE C)
          have em:Array.map ρ #[E,F]= #[.slice (some ⟨b,off,none⟩) n H,.slice p m c]:=by simp[L _ _ X,L _ _ Y]
          simp only[execOp,S,resolve,Sem.run_bind,Sem.run_pure,Result.andThen_ok,invoke,builtin,em,j]
         cases h
        cases h
       cases h
      cases h
     cases h
    cases h
   cases h
  cases h
 cases h
end
structure ConsV (P:Program) (l n0 N:Nat) (A:Nat→Array Value→(Nat→Prop)→World→Prop) (J Jx:Nat→(Nat→Prop)→World→Prop):Prop where
  st:∀{k:Nat} {F S:Nat→Prop} {w w':World},J k F w→Ext S w w'→(∀x,S x→n0≤x∧¬F x)→J k F w'
  stx:∀{k:Nat} {F S:Nat→Prop} {w w':World},Jx k F w→Ext S w w'→(∀x,S x→n0≤x∧¬F x)→Jx k F w'
  lt:∀{k:Nat} {F:Nat→Prop} {w:World},J k F w→∀x,F x→x<w.heap.size
  ltx:∀{k:Nat} {F:Nat→Prop} {w:World},Jx k F w→∀x,F x→x<w.heap.size
  round:∀{k:Nat} {F:Nat→Prop} {w:World},J k F w→k<N→∀(vs:Array Value) (X:Nat→Prop),A k vs X w→(∀x,X x→n0≤x∧¬F x)→
    YieldAt Fence.wide 8 P l vs w fun e w'=>∃b,e= .returned (.bool b)∧∃F':Nat→Prop,Ext (fun x=>F x∨X x) w w'∧(∀x,F' x→F x∨X x∨w.heap.size≤x)∧(b=true→J (k+1) F' w')∧(b=false→Jx k F' w')
def IterV (P:Program) (gf:Nat) (cap:List Value) (N:Nat) (A:Nat→Array Value→(Nat→Prop)→World→Prop) (own:Nat→Prop) (w:World):Prop:=
  ∀(l:Nat) (J Jx:Nat→(Nat→Prop)→World→Prop) (F:Nat→Prop),ConsV P l w.heap.size N A J Jx→J 0 F w→(∀x,own x→¬F x)→
    gn P gf (.func (.yield l) #[] #[]::cap) w fun _ w'=>∃F':Nat→Prop,Ext F w w'∧(∀x,F' x→F x∨w.heap.size≤x)∧(J N F' w'∨∃k,k<N∧Jx k F' w')
section
variable {α:Type} {w:World} {P:Program}
structure RdX (C:CoS α w) (l D:Nat) (z:α) (W:World) (X:Nat→Prop):Prop where
  ne:∀x,X x→w.heap.size≤x∧x≠l∧x≠D∧¬C.Fp z x
def RdV (C:CoS α w) (z0:α) (l D:Nat) (r:Loop) (k:Nat) (z:α) (W:World) (X:Nat→Prop):Ending→World→Prop:=fun e w'=>
  ∃b,e= .returned (.bool b)∧∃F':Nat→Prop,Ext (fun x=>(C.Fp z x∨x=l∨x=D)∨X x) W w'∧(∀x,F' x→(C.Fp z x∨x=l∨x=D)∨X x∨W.heap.size≤x)∧(b=true→CJ C z0 l D r (k+1) F' w')∧(b=false→CJx C z0 l D r k F' w')
variable {C:CoS α w} {z0:α} {l D:Nat} {r:Loop} {k:Nat} {z:α} {W:World} {f:Fs} {env:Env} {u:World} {X:Nat→Prop}
theorem RdC.endsV (h:RdC C z0 l D r z W) (hN:RdX C l D z W X) (hE:Ext (fun x=>(C.Fp z x∨x=l)∨X x) W u) {z':α} (hF:∀x,C.Fp z' x→C.Fp z x∨X x∨W.heap.size≤x):
  u.heap[D]? =some Cu∧(∀x,C.Fp z' x→x≠l∧x≠D)∧Ext (C.Fp z0) w u∧(∀x,C.Fp z' x→C.Fp z0 x∨w.heap.size≤x):=by
 refine⟨(hE.same _ (uk h.D) fun e=>e.elim (fun e=>e.elim (fun e=>(h.fp _ e).2 rfl) fun e=>h.ne e.symm) fun e=>(hN.ne _ e).2.2.1 rfl).trans h.D,fun x a=> ?_,h.X.trans hE fun x a e=> ?_,fun x a=> ?_⟩
 ·rcases hF x a with a|a|a
  ·exact h.fp x a
  ·exact⟨(hN.ne x a).2.1,(hN.ne x a).2.2.1⟩
  exact⟨fun e=>by have:=uk h.l;omega,fun e=>by have:=uk h.D;omega⟩
 ·rcases e with(e|e)|e
  ·exact(h.sub x e).resolve_right zo
  ·have:=h.lo.1;omega
  have:=(hN.ne x e).1;omega
 rcases hF x a with a|a|a
 ·exact h.sub x a
 ·exact .inr (hN.ne x a).1
 exact .inr (Nat.le_trans h.X.size a)
theorem fin_nextV (z':α) (h:RdC C z0 l D r z W) (hN:RdX C l D z W X) (hl:u.heap[l]? =some (.loop (busy r))) (hE:Ext (fun x=>(C.Fp z x∨x=l)∨X x) W u) (hF:∀x,C.Fp z' x→C.Fp z x∨X x∨W.heap.size≤x) (hJ:C.J (k+1) z' u):
  Fin f (roundPost P l (RdV C z0 l D r k z W X)) .normal env u:=by
 intro a _
 obtain⟨h1,h2,h3,h4⟩:=h.endsV hN hE hF
 have hE2:Ext (One l) u (u.putObj l (.loop {busy r with state:=if(none:Option Code).isNone then .ready else .done,pending:=none})):=Ext.putObj hl rfl rfl
 refine⟨_,_,run_endRound none hl,true,rfl,fun x=>C.Fp z' x∨x=l∨x=D,?_,fun x hx=> ?_,fun _=> ?_,fun e=>by cases e⟩
 ·exact(hE.mono fun x _ e=>e.imp (fun e=>e.imp id .inl) id).then (hE2.mono fun x _ e=> .inl (.inr (.inl e)))
 ·rcases hx with hx|hx
  ·exact(hF x hx).imp .inl id
  exact .inl (.inr hx)
 refine⟨z',rfl,C.st hJ hE2 fun x e=> ?_,h2,?_,?_,h3.trans hE2 fun x hx e=> ?_,h4⟩
 ·have e:x=l:=e
  subst e
  exact⟨h.lo.1,fun e=>(h2 _ e).1 rfl⟩
 ·rw[World.putObj_heap_same (uk hl)]
  have e1:=h.rd
  have e2:=h.pe
  cases r
  cases e1
  cases e2
  rfl
 ·exact(World.putObj_heap_other h.ne.symm).trans h1
 have e:x=l:=e
 have:=h.lo.1
 omega
variable {Q:up}
theorem c_iterV (C:CoS α w) (z0:α) {g:Operand} {ps:Array Tmp} {assign body:Code} {gf:Nat} {cap:Array Value} {N:Nat} {A:Nat→Array Value→(Nat→Prop)→World→Prop} {own:Nat→Prop}
  (hg:vv env g=some (.func (.func gf) #[] cap)) (hcf:∀args w,(callFunc gf args).run P w= .ok (.enter gf args) w)
  (hps:ps.toList.all (fun t=>Nat.blt t f.n)=true) (hpn:∀k vs X W,A k vs X W→vs.size=ps.size)
  (hit:∀w1,Ext No w w1→IterV P gf cap.toList N A own w1) (hown:∀x,own x→x<w.heap.size∧¬C.Fp z0 x) (h0:C.J 0 z0 w)
  (hround:∀(l D:Nat) (r:Loop) (k:Nat) (z:α) (W:World) (vs:Array Value) (X:Nat→Prop),RdC C z0 l D r z W→RdX C l D z W X→C.J k z W→k<N→A k vs X W→
   WCI (Fence.wide.inRound l) 8 P ⟨f.n,[]⟩ assign (Exit.then (fun a1 w1=>∃w2,(Instr.beginRound l).run P w1= .ok () w2∧body.wpIn (Fence.wide.inRound l) 8 P (roundPost P l (RdV C z0 l D r k z W X)) a1 w2) (fun _ _ _=>False)) (penv ps.toList vs.toList env) W)
  (hdone:∀(D:Nat) (z:α) (W:World),C.J N z W→Ext (C.Fp z0) w W→(∀x,C.Fp z x→C.Fp z0 x∨w.heap.size≤x)→w.heap.size≤D→W.heap[D]? =some Cu→(∀x,C.Fp z x→x≠D)→
   Fin ⟨f.n,{target:= .collected D,args:= #[]}::f.ds⟩ Q .normal env W)
  (hstop:∀(D:Nat) (k:Nat) (c:Code) (z:α) (W:World),k<N→C.Jx k c z W→Ext (C.Fp z0) w W→(∀x,C.Fp z x→C.Fp z0 x∨w.heap.size≤x)→w.heap.size≤D→W.heap[D]? =some Cu→(∀x,C.Fp z x→x≠D)→
   WC P ⟨f.n,{target:= .collected D,args:= #[]}::f.ds⟩ c Q env W):
  WC P f (.rangeFunc g ps assign body) Q env w:=by
 refine c_rangeX hg hcf fun fn a ha d h w1 H U V a2=> ?_
 have Y:w.heap.size+1≠w.heap.size:=by omega
 have M:d.state= .ready:=by rw[h]
 have O:d.pending=none:=by rw[h]
 have I:ConsV P (w.heap.size+1) w1.heap.size N A (CJ C z0 (w.heap.size+1) w.heap.size d) (CJx C z0 (w.heap.size+1) w.heap.size d):=by
  refine⟨?_,?_,?_,?_,?_⟩
  ·rintro k F S u u' ⟨z,rfl,p,q,m,o,s,y⟩ E G
   have j:∀x,S x→w.heap.size≤x∧¬C.Fp z x:=fun x b=>⟨by have:=(G x b).1;omega,fun e=>(G x b).2 (.inl e)⟩
   exact⟨z,rfl,C.st p E j,q,(E.same _ (uk m) fun e=>(G _ e).2 (.inr (.inl rfl))).trans m,(E.same _ (uk o) fun e=>(G _ e).2 (.inr (.inr rfl))).trans o,s.trans E fun x b e=>by have:=(j x e).1;omega,y⟩
  ·rintro k F S u u' ⟨c,z,rfl,p,q,m,o,s,y⟩ E G
   have j:∀x,S x→w.heap.size≤x∧¬C.Fp z x:=fun x b=>⟨by have:=(G x b).1;omega,fun e=>(G x b).2 (.inl e)⟩
   exact⟨c,z,rfl,C.stx p E j,q,(E.same _ (uk m) fun e=>(G _ e).2 (.inr (.inl rfl))).trans m,(E.same _ (uk o) fun e=>(G _ e).2 (.inr (.inr rfl))).trans o,s.trans E fun x b e=>by have:=(j x e).1;omega,y⟩
  ·rintro k F u ⟨z,rfl,p,q,m,o,s,y⟩ x b
   rcases b with b|rfl|rfl
   ·exact C.lt p x b
   ·exact uk m
   exact uk o
  ·rintro k F u ⟨c,z,rfl,p,q,m,o,s,y⟩ x b
   rcases b with b|rfl|rfl
   ·exact C.ltx p x b
   ·exact uk m
   exact uk o
  rintro k F u ⟨z,rfl,p,q,m,o,s,y⟩ Z vs X R T
  have hy:=run_yield (P:=P) (args:=vs) m (by rw[h];exact hpn k vs X u R)
  refine⟨_,_,_,_,hy,roundIn_of_wpIn trivial ?_⟩
  have hA:d.assign=assign:=by rw[h]
  have hB:d.body=body:=by rw[h]
  have hT:d.tmps=a.tmps:=by rw[h]
  have hP:d.params=ps:=by rw[h]
  rw[hA,hB,hT,hP]
  obtain⟨g1,g2⟩:=ag_fold (f:=⟨f.n,[]⟩) ps.toList vs.toList env a.tmps hps ha.size ha.get
  refine hround (w.heap.size+1) w.heap.size d k z u vs X ⟨M,O,Y,⟨by omega,Nat.le_refl _⟩,q,m,o,s,y⟩ ⟨fun x b=>⟨by have:=(T x b).1;omega,fun e=>(T x b).2 (.inr (.inl e)),fun e=>(T x b).2 (.inr (.inr e)),fun e=>(T x b).2 (.inl e)⟩⟩ p Z R _ ⟨rfl,?_,fun i v hi=> ?_⟩
  ·rw[←Array.foldl_toList,Array.toList_zip];exact g1
  show(Array.foldl _ a.tmps (ps.zip vs))[i]? =some v
  rw[←Array.foldl_toList,Array.toList_zip];exact g2 i v hi
 have a0:CJ C z0 (w.heap.size+1) w.heap.size d 0 (fun x=>C.Fp z0 x∨x=w.heap.size+1∨x=w.heap.size) w1:=
  ⟨z0,rfl,C.st h0 H fun x e=>e.elim,fun x b=>⟨fun e=>by have:=C.lt h0 x b;omega,fun e=>by have:=C.lt h0 x b;omega⟩,U,V,H.no,fun x b=> .inl b⟩
 refine(hit w1 H (w.heap.size+1) _ _ _ I a0 fun x b=> ?_).mono ?_
 ·have:=hown x b
  rintro(e|e|e)
  ·exact this.2 e
  ·omega
  omega
 rintro _ w2 ⟨F',a3,a4,⟨z,rfl,p,q,m,o,s,y⟩|⟨k,Z,c,z,rfl,p,q,m,o,s,y⟩⟩
 ·refine⟨d,m,by rw[M];decide,o,fun w3 B K=>⟨fun _=> ?_,fun c L=>by rw[O] at L;cases L⟩⟩
  have j:∀x,One (w.heap.size+1) x→w.heap.size≤x∧¬C.Fp z x:=fun x b=>by
   have b:x=w.heap.size+1:=b
   exact⟨by omega,fun e=>(q x e).1 b⟩
  exact hdone _ z w3 (C.st p B j) (s.trans B fun x b e=>by have:=(j x e).1;omega) y (Nat.le_refl _) K fun x b=>(q x b).2
 refine⟨_,m,(fun e=>by cases e),o,fun w3 B K=>⟨fun L=>(by cases L),fun c' L=> ?_⟩⟩
 cases L
 have j:∀x,One (w.heap.size+1) x→w.heap.size≤x∧¬C.Fp z x:=fun x b=>by
  have b:x=w.heap.size+1:=b
  exact⟨by omega,fun e=>(q x e).1 b⟩
 exact hstop _ k c z w3 Z (C.stx p B j) (s.trans B fun x b e=>by have:=(j x e).1;omega) y (Nat.le_refl _) K fun x b=>(q x b).2
end
/-! ### A deferred call -/
theorem callsD_enter {P:Program} {g:FuncId} {fn:Func} {c:Code} {args:List Value} {w:World} {R:Value→World→Prop} {n:Nat} {env:Env}
  (hf:P.funcs[g]? =some fn) (hb:fn.body=some c) (hn:fn.ntmps=n) (hl:Nat.ble args.length n=true) (he:envO 0 args=some env) (h:WC P ⟨n,[]⟩ c (bodyPost P fn (Rv R)) env w):
  CallsDIn Fence.wide 8 P g args.toArray .returning w fun e u' w'=>u'= .returning∧Rv R e w':=by
 refine callsDIn_of_wp hf hb trivial (wpIn_wide.2 (h _ ⟨rfl,?_,fun i v d=> ?_⟩))
 ·have:args.length≤n:=Nat.le_of_ble_eq_true hl
  simp only[hn,Array.size_append,List.size_toArray,Array.size_replicate]
  omega
 have:=(envO_lk he i v d).2
 simp only[Nat.sub_zero] at this
 have a:i<args.length:=by
  rcases Nat.lt_or_ge i args.length with b|b
  ·exact b
  simp[List.getElem?_eq_none b] at this
 simp only[hn]
 rw[Array.getElem?_append_left (by simpa using a)]
 simpa using this
theorem wl_defer {P:Program} {f:Fs} {ops:Array Oper} {Q:up} {o:Oper} {rest:List Oper} {env:Env} {w:World} {x:Operand} {g:Nat} {cap:Array Value}
  (ho:o.op= .defer {callee:= .value x,args:= #[],argTypes:= #[]}) (hg:takes ops env o=true) (hd:o.dst=none) (hx:vv env x=some (.func (.func g) #[] cap))
  (h:WL P ⟨f.n,{target:= .fn (.func g) cap,args:= #[]}::f.ds⟩ ops Q rest env w):WL P f ops Q (o::rest) env w:=by
 intro a ha
 unfold wpList
 rw[if_pos (xb ha hg)]
 refine .inl ?_
 have hrun:(execOp a.eval o).run P w= .ok (.defer {target:= .fn (.func g) cap,args:= #[]}) w:=by
  simp[execOp,ho,resolve,ha.eval hx,Deferred.ofValue]
 unfold Oper.wp
 rw[hrun]
 show wpList P ops Q rest (({a with defers:=_::a.defers}:Act).put o.dst undef) w
 rw[hd]
 exact h _ ⟨by simp[Act.put,ha.defers],ha.size,ha.get⟩
theorem f_retD {P:Program} {n g:Nat} {fn:Func} {R:Value→World→Prop} {env:Env} {w:World} {cap:Array Value} {R':Value→World→Prop} (vs:List Value)
  (hcf:∀args w,(callFunc g args).run P w= .ok (.enter g args) w) (hD:CallsDIn Fence.wide 8 P g cap .returning w fun e u' w'=>u'= .returning∧Rv R' e w')
  (k:∀v w',R' v w'→ResAll P env w' fn.results.toList vs∧R (tupV vs) w'):
  Fin ⟨n,[{target:= .fn (.func g) cap,args:= #[]}]⟩ (bodyPostM Fence.wide 9 P fn (Rv R)) .ret env w:=by
 intro a ha
 show LeavesInM Fence.wide 9 P fn a.tmps (Rv R) a.defers .returning w
 rw[ha.defers]
 refine⟨by simp,.inr ⟨fun h=>(by cases h),.func g,cap,g,cap,rfl,by simp[invoke,hcf],fun _ _=>trivial,hD.mono ?_⟩⟩
 rintro e u' w' ⟨rfl,he⟩
 cases e with
 |returned v=>
  obtain⟨h1,h2⟩:=k v w' he
  have hr:=zq3 (a:={a with defers:=[]}) (w:=w') (n:=n) ⟨rfl,ha.size,ha.get⟩ _ _ h1
  refine⟨tupV vs,?_,h2⟩
  unfold results
  rw[Array.mapM_eq_mapM_toList,Sem.run_bind,Sem.run_map]
  erw [hr]
  simp only[Result.andThen_ok,Sem.run_pure]
  congr 1
  cases vs with
  |nil=>rfl
  |cons v r=>cases r<;>simp[tupV]
 |panicked ch=>exact he.elim
 |outgrown=>exact he.elim
structure ku (W w:World) (p:Option Addr) (n c T sz:Nat) (xs:List Value):Prop where
  own:Own w p n c T sz xs
  new:∀y,jd p y→W.heap.size≤y
section
variable {W w w':World} {p:Option Addr} {n c T sz:Nat} {xs:List Value}
theorem ku.nil (W w:World) (T sz:Nat):ku W w none 0 0 T sz []:=⟨Own.nil _ _ _,fun _ h=>by cases h⟩
theorem ku.ga (h:ku W w p n c T sz xs) (hE:Ext No w w'):ku W w' p n c T sz xs:=⟨h.own.ext hE fun _ _=>id,h.new⟩
theorem ku.gj {b U:Nat} {L:List Value} (h:ku W w p n c T sz xs) (hE:Ext (One b) w w') (hb:j0 w b U L) (hT:T≠U):ku W w' p n c T sz xs:=⟨h.own.kc hE hb hT,h.new⟩
theorem ku.x9 {kv:List UInt8→Value} {okx:List UInt8→Prop} {β:Type} {r:Nat} {enc:β→Value} {g:List UInt8→Option β} (h:ku W w p n c T sz xs) (hm:z7 kv okx w r enc g) (hE:Ext (One r) w w'):ku W w' p n c T sz xs:=⟨h.own.x9 hm hE,h.new⟩
theorem ku.sl (h:ku W w p n c T sz xs):Sl w p n sz xs:=h.own.sl
theorem ku.older {V:World} (h:ku W w p n c T sz xs) (hV:V.heap.size≤W.heap.size):ku V w p n c T sz xs:=⟨h.own,fun y hy=>Nat.le_trans hV (h.new y hy)⟩
theorem ku.blk {b:Nat} {l:List Value} (h:j0 w b T l) (hn:W.heap.size≤b) (hl:l.length=n*sz) (hm:n≤maxLen):ku W w (some ⟨b,0,none⟩) n n T sz l:=
 ⟨by have:=Own.blk (n:=n) (c:=n) h sz hl (Nat.le_refl _) hm;rw[List.take_of_length_le zo] at this;exact this,fun y hy=>by have e:b=y:=congrArg Addr.block (Option.some.inj hy);omega⟩
end
theorem xh {P:Program} {I:qs} {f:Fs} {ops:Array Oper} {o:Oper} {env:Env} {w W:World} {K:Env→World→Prop} (hI:I.Ok P) {s:zw7} (h:appE I f.n ops env o=some s) (sz by_:Nat) (hsz:s.g.size=sz) (hby:s.g.bytes=by_) (hz:(cellsOf s.g.zero).length=sz) (hz0:0<sz)
  {xs:List Value} (hq:ku W w s.p s.n s.c s.e sz xs) {m:Nat} {news:List Value} (hsrc:Src P w sz s.x m news) (hm:s.n+m≤maxLen) (hb:(s.n+m)*by_≤140737488355328)
  {n':Nat} {ys:List Value} (hn:s.n+m=n') (hy:xs++news=ys) {S:Nat→Prop} (hX:Ext S W w)
  (k:∀p' c' w',ku W w' p' n' c' s.e sz ys→Ext (jd s.p) w w'→Ext S W w'→K ((s.d,.slice p' n' c')::env) w'):St P f ops o env w K:=by
 subst hn;subst hy
 refine uh hI h sz by_ hsz hby hz hz0 hq.own hsrc hm hb fun p' c' w' b a i=>k p' c' w' ⟨b,fun y hy=>(i y hy).elim (hq.new y) fun e=>Nat.le_trans hX.size e⟩ a (hX.trans a fun y hy j=>absurd hy (Nat.not_lt.2 (hq.new y j)))
def Bc (W w:World) (T U:Nat):Nat→Prop:=fun y=>W.heap.size≤y∧∃L,j0 w y T L∨j0 w y U L
theorem Ext.newer {W w w':World} {S:Nat→Prop} (hX:Ext No W w) (hE:Ext S w w') (hS:∀y,S y→W.heap.size≤y):Ext No W w':=hX.trans hE fun y hy hF=>absurd hy (Nat.not_lt.2 (hS y hF))
theorem Ext.xf {W w w':World} {T U:Nat} (hX:Ext No W w) (hE:Ext (Bc W w T U) w w'):Ext No W w':=hX.newer hE fun _ h=>h.1
theorem j0.xf {W w w':World} {T U b V:Nat} {L:List Value} (hb:j0 w b V L) (hE:Ext (Bc W w T U) w w') (h1:V≠T) (h2:V≠U):j0 w' b V L:=
 hb.ext hE fun h=>by
  obtain⟨_,M,h|h⟩:=h
  ·exact h1 (hb.uniq h).2
  exact h2 (hb.uniq h).2
theorem Own.xf {W w w':World} {T U V:Nat} {p:Option Addr} {n c sz:Nat} {xs:List Value} (h:Own w p n c V sz xs) (hE:Ext (Bc W w T U) w w') (h1:V≠T) (h2:V≠U):Own w' p n c V sz xs:=
 h.ext hE fun y hy k=>by
  obtain⟨l,hl⟩:=h.Dk hy
  obtain⟨_,M,k|k⟩:=k
  ·exact h1 (hl.uniq k).2
  exact h2 (hl.uniq k).2
theorem Ext.km {W w w1 w2:World} {T U:Nat} (h:Ext (Bc W w T U) w w1) (k:Ext (Bc W w1 T U) w1 w2):Ext (Bc W w T U) w w2:=
 h.trans k fun x hx hT=>Classical.byContradiction fun hn=>by
  have e:=h.same x hx hn
  obtain⟨h1,L,h2|h2⟩:=hT
  ·exact hn ⟨h1,L,.inl (by rw[j0,←e];exact h2)⟩
  exact hn ⟨h1,L,.inr (by rw[j0,←e];exact h2)⟩
theorem ku.yx0 {W w w':World} {p:Option Addr} {n c T sz:Nat} {xs:List Value} (h:ku W w p n c T sz xs) {p2:Option Addr} {n2 c2 T2 sz2:Nat} {xs2:List Value} (ho:Own w p2 n2 c2 T2 sz2 xs2) (hE:Ext (jd p2) w w') (hT:T≠T2):ku W w' p n c T sz xs:=by
 rcases ho with⟨d,_⟩|⟨b,l,d,e,_⟩
 ·exact h.ga (hE.mono fun x _ a=>by rw[d] at a;cases a)
 exact h.gj (hE.mono fun x _ a=>by rw[d] at a;exact(congrArg Addr.block (Option.some.inj a)).symm) e hT
theorem Bc.one {W w:World} {T U b:Nat} {L:List Value} (hb:j0 w b T L) (hn:W.heap.size≤b):∀y,One b y→Bc W w T U y:=fun y e=>by have e:y=b:=e;subst e;exact⟨hn,L,.inl hb⟩
theorem Bc.own {W w:World} {T U:Nat} {p:Option Addr} {n c sz:Nat} {xs:List Value} (h:ku W w p n c U sz xs):∀y,jd p y→Bc W w T U y:=fun y hy=>by
 obtain⟨l,hl⟩:=h.own.Dk hy
 exact⟨h.new y hy,l,.inr hl⟩
theorem ku.xf {V W w w':World} {T U R:Nat} {p:Option Addr} {n c sz:Nat} {xs:List Value} (h:ku V w p n c R sz xs) (hE:Ext (Bc W w T U) w w') (h1:R≠T) (h2:R≠U):ku V w' p n c R sz xs:=⟨h.own.xf hE h1 h2,h.new⟩
theorem z7.xf {kv:List UInt8→Value} {okx:List UInt8→Prop} {β:Type} {W w w':World} {T U r:Nat} {enc:β→Value} {g:List UInt8→Option β} (hm:z7 kv okx w r enc g) (hE:Ext (Bc W w T U) w w'):z7 kv okx w' r enc g:=
 hm.ext hE fun⟨_,_L,h⟩=>h.elim (fun h=>hm.ne h rfl) fun h=>hm.ne h rfl
def D4 (W w:World) (p:Option Addr) (n c T sz:Nat) (xs:List Value):Prop:=(c=n∧Sl w p n sz xs∧∀b off,p=some ⟨b,off,none⟩→b<W.heap.size)∨ku W w p n c T sz xs
theorem D4.ext {S:Nat→Prop} {W w w':World} {p:Option Addr} {n c T sz:Nat} {xs:List Value} (h:D4 W w p n c T sz xs) (hE:Ext S w w') (h1:∀y,S y→W.heap.size≤y) (h2:ku W w p n c T sz xs→ku W w' p n c T sz xs):D4 W w' p n c T sz xs:=
 h.imp (fun e=>⟨e.1,e.2.1.ext hE fun b off hp hb=>by have:=e.2.2 b off hp;have:=h1 b hb;omega,e.2.2⟩) h2
theorem D4.ga {W w w':World} {p:Option Addr} {n c T sz:Nat} {xs:List Value} (h:D4 W w p n c T sz xs) (hE:Ext No w w'):D4 W w' p n c T sz xs:=h.ext hE (fun _ e=>e.elim) fun e=>e.ga hE
theorem D4.gj {W w w':World} {p:Option Addr} {n c T sz:Nat} {xs:List Value} (h:D4 W w p n c T sz xs) {b U:Nat} {L:List Value} (hE:Ext (One b) w w') (hb:j0 w b U L) (hn:W.heap.size≤b) (hT:T≠U):D4 W w' p n c T sz xs:=h.ext hE (fun y e=>by have e:y=b:=e;omega) fun e=>e.gj hE hb hT
theorem D4.xf {W w w':World} {p:Option Addr} {n c T sz U:Nat} {xs:List Value} (h:D4 W w p n c T sz xs) (hE:Ext (Bc W w U U) w w') (hT:T≠U):D4 W w' p n c T sz xs:=h.ext hE (fun _ e=>e.1) fun e=>e.xf hE hT hT
theorem D4.x9 {kv:List UInt8→Value} {okx:List UInt8→Prop} {β:Type} {W w w':World} {p:Option Addr} {n c T sz:Nat} {xs:List Value} (h:D4 W w p n c T sz xs) {r:Nat} {enc:β→Value} {g:List UInt8→Option β} (hm:z7 kv okx w r enc g) (hE:Ext (One r) w w') (hn:W.heap.size≤r):D4 W w' p n c T sz xs:=h.ext hE (fun y e=>by have e:y=r:=e;omega) fun e=>e.x9 hm hE
theorem D4.sl {W w:World} {p:Option Addr} {n c T sz:Nat} {xs:List Value} (h:D4 W w p n c T sz xs):Sl w p n sz xs:=h.elim (fun e=>e.2.1) fun e=>e.sl
theorem D4.cap {W w:World} {p:Option Addr} {n c T sz:Nat} {xs:List Value} (h:D4 W w p n c T sz xs):n≤c:=h.elim (fun e=>by rw[e.1];exact Nat.le_refl _) fun e=>e.own.cap
theorem st_appT {P:Program} {I:qs} {f:Fs} {ops:Array Oper} {o:Oper} {env:Env} {w W:World} {K:Env→World→Prop} (hI:I.Ok P) {s:zw7} (h:appE I f.n ops env o=some s) (sz by_:Nat) (hsz:s.g.size=sz) (hby:s.g.bytes=by_) (hz:(cellsOf s.g.zero).length=sz) (hz0:0<sz)
  {xs:List Value} (hq:D4 W w s.p s.n s.c s.e sz xs) {m:Nat} {news:List Value} (hsrc:Src P w sz s.x m news) (hm:s.n+m≤maxLen) (hm0:0<m) (hb:(s.n+m)*by_≤140737488355328)
  {n':Nat} {ys:List Value} (hn:s.n+m=n') (hy:xs++news=ys) (hW:W.heap.size≤w.heap.size)
  (k:∀p' c' w',ku W w' p' n' c' s.e sz ys→Ext (Bc W w s.e s.e) w w'→K ((s.d,.slice p' n' c')::env) w'):St P f ops o env w K:=by
 subst hn;subst hy
 rcases hq with⟨r,j,_⟩|hq
 ·exact st_appG hI h sz by_ hsz hby hz hz0 j hsrc hm hb zo fun b c' w' l a i=>k _ c' w' ⟨a,fun y hy=>by have e:b=y:=congrArg Addr.block (Option.some.inj hy);omega⟩ i.no
 exact uh hI h sz by_ hsz hby hz hz0 hq.own hsrc hm hb fun p' c' w' a i q=>k p' c' w' ⟨a,fun y hy=>(q y hy).elim (hq.new y) fun e=>Nat.le_trans hW e⟩ (i.mono fun y _ hy=>Bc.own hq y hy)
section
variable {P:Program} {I:qs} {f:Fs} {ops:Array Oper} {o:Oper} {env:Env} {w:World}
def s2bE (I:qs) (n:Nat) (ops:Array Oper) (env:Env) (o:Oper):Option (ByteArray×Nat):=
  match pre n ops env o with
  |false=>none
  |true=>match o.dst with
    |some d=>match o.op with
      | .convert s t x=>match y0 I s with
        |some y=>match y.desc with
          | .string=>match y0 I t with
            |some z=>match z.desc with
              | .slice e=>match y0 I e with
                |some g=>match g.desc with
                  | .int .u8=>match vv env x with
                    |some (.string b)=>some (b,d)
                    |_=>none
                  |_=>none
                |none=>none
              |_=>none
            |none=>none
          |_=>none
        |none=>none
      |_=>none
    |none=>none
theorem st_s2b (hI:I.Ok P) {K:Env→World→Prop} {x:List UInt8} {d:Nat} (h:s2bE I f.n ops env o=some (uo x,d))
  (k:∀b c w',w.heap.size≤b→vt w' (some ⟨b,0,none⟩) x→x.length≤c→(∀T L,¬j0 w' b T L)→Ext No w w'→K ((d,.slice (some ⟨b,0,none⟩) x.length c)::env) w'):St P f ops o env w K:=by
 unfold s2bE at h
 split at h
 ·cases h
 rename_i O
 obtain⟨Q,R⟩:=pre_eq O
 split at h
 ·rename_i d' S
  split at h
  ·rename_i s t y U
   split at h
   ·rename_i ys m
    split at h
    ·rename_i p
     split at h
     ·rename_i z q
      split at h
      ·rename_i e V
       split at h
       ·rename_i g W
        split at h
        ·rename_i r
         split at h
         ·rename_i bb X
          simp only[Option.some.injEq,Prod.mk.injEq] at h
          obtain⟨rfl,rfl⟩:=h
          have G:=(hI.get m).under w
          have H:=(hI.get q).under w
          have J:=(hI.get W).under w
          rw[p] at G
          rw[V] at H
          rw[r] at J
          obtain⟨c,M⟩:∃c,c=grownCap w x.length 0 e:=⟨_,rfl⟩
          have A:x.length≤c:=by rw[M];unfold grownCap Question.cut;exact Nat.le_add_right _ _
          obtain⟨l,N⟩:∃l,l=ge x++List.replicate (c-x.length) (Value.int .u8 0):=⟨_,rfl⟩
          obtain⟨u,a⟩:∃u,u=w.drew.alloc (.cells l.toArray e):=⟨_,rfl⟩
          have B:Ext No w u:=by rw[a];exact(Ext.drew w).then (Ext.alloc w.drew l.toArray e)
          have i:j0 u w.heap.size e l:=by rw[a];exact Bs w.drew l e
          obtain⟨Y,Z,f3⟩:=freeze_ext i
          have hE:Ext No w (u.freeze ⟨w.heap.size,l.length,none⟩ 1):=
           B.trans Y fun y hy k=>by have k:y=w.heap.size:=k;omega
          have C:l.take x.length=ge x:=by rw[N,List.take_left' (gl x)]
          refine xq Q R (v:= .slice (some ⟨w.heap.size,0,none⟩) x.length c) (w':=u.freeze ⟨w.heap.size,l.length,none⟩ 1) (fun ρ a0=> ?_) (by
           rw[S]
           refine k _ c _ (Nat.le_refl _) ⟨by rw[gl,Nat.mul_one],.inr ⟨_,0,rfl,?_⟩⟩ A ?_ hE
           ·have:=Z.take x.length
            rw[C] at this
            exact this
           intro T L j
           unfold j0 World.freeze at j
           rw[if_neg zd] at j
           unfold j0 at i
           simp only[Array.getElem?_modify,if_true,i,Option.map_some,Option.some.injEq,Obj.cells.injEq] at j
           have:=j.2.2
           simp at this)
          have D:u.shape? w.heap.size=some (e,l.length):=by
           unfold j0 at i
           simp[World.shape?,i]
          have E:(choose (.appendCap x.length 0 e)).run P w= .ok c w.drew:=by
           rw[M];simp[Question.forced,grownCap]
          have F:(uo x).data.map (fun b=>Value.int .u8 b.toNat)++Array.replicate (c-x.length) (.int .u8 0)=l.toArray:=by
           rw[N];simp[uo,ge]
          have go:(convert s t (.string (uo x))).run P w= .ok (.slice (some ⟨w.heap.size,0,none⟩) x.length c) (u.freeze ⟨w.heap.size,l.length,none⟩ 1):=by
           unfold convert
           rw[jc G,jc H]
           show(underlying e>>=_).run P w=_
           rw[jc J]
           show(Conv.stringToBytes e (uo x)).run P w=_
           unfold Conv.stringToBytes
           have q:(uo x).size=x.length:=rfl
           simp only[Sem.run_bind,q,E,Result.andThen_ok,F,newRow,run_newObj,Sem.run_pure]
           show(Sem.run P (markStringish ⟨w.heap.size,0,none⟩) (w.drew.alloc (.cells l.toArray e))).andThen _=_
           rw[←a]
           simp[markStringish,shape,freeze,Sem.run,D]
          simp only[execOp,U,a0 _ _ X,Sem.run_bind,go,Result.andThen_ok,Sem.run_pure]
         cases h
        cases h
       cases h
      cases h
     cases h
    cases h
   cases h
  cases h
 cases h
end
theorem Src.bytes {P:Program} {w:World} {p:Option Addr} {c:Nat} {M:List UInt8} (h:vt w p M):Src P w 1 (.slice p M.length c) M.length (ge M):=Src.slice h OneC.h
theorem Src.one {P:Program} {w:World} {b T c:Nat} {x:UInt8} (h:j0 w b T (ge [x])):Src P w 1 (.slice (some ⟨b,0,none⟩) 1 c) 1 (ge [x]):=Src.slice (m:=1) ⟨rfl,.inr ⟨b,0,rfl,h.ko⟩⟩ OneC.h
theorem Src.id {P:Program} {w:World} {b off c:Nat} {x:List UInt8} (h:Seg w b off (ge x)) (hx:x.length=32):Src P w 1 (.slice (some ⟨b,off,none⟩) 32 c) 32 (ge x):=Src.slice (m:=32) ⟨by rw[gl,hx],.inr ⟨b,off,rfl,h⟩⟩ OneC.h
theorem vy {P:Program} {I:qs} {f:Fs} {ops:Array Oper} {o:Oper} {env:Env} {w W:World} {K:Env→World→Prop} (hI:I.Ok P) {s:zw7} (h:appE I f.n ops env o=some s) (T:Nat) (he:s.e=T) (hsz:s.g.size=1) (hby:s.g.bytes=1) (hz:(cellsOf s.g.zero).length=1)
  {L M:List UInt8} (hq:ku W w s.p s.n s.c T 1 (ge L)) (hn:s.n=L.length) {m:Nat} (hsrc:Src P w 1 s.x m (ge M)) (hm:m=M.length) (hl:L.length+m<1000000000) (hX:Ext No W w)
  (k:∀p' c' w' L',L'=L++M→L'.length=L.length+m→ku W w' p' L'.length c' T 1 (ge L')→Ext (jd s.p) w w'→Ext (Bc W w T T) w w'→Ext No W w'→K ((s.d,.slice p' L'.length c')::env) w'):St P f ops o env w K:=by
 subst he
 have e:(L++M).length=L.length+m:=by rw[List.length_append,hm]
 refine xh hI h 1 1 hsz hby hz zd hq hsrc zm zo (n':=(L++M).length) (ys:=ge (L++M)) (by rw[e,hn]) (k8 _ _).symm hX fun p' c' w' i b a=>k p' c' w' _ rfl e i b (b.mono fun y _ j=>Bc.own hq y j) a
end Go.Vc
namespace Go.Proofs.YtpdiphfjmepijaaGreatDoor
open Go.Proofs.Tryz
open Go.Vc
structure BytesIn (o:jk):Prop where
  k:o.kind=1∨o.kind=2∨o.kind=3
  text:o.kind=1→o.text.length≤256
  leaves:o.kind=2→o.leaves.length≤32∧∀r∈o.leaves,r.path.length≤48
  rows:o.kind=3→o.rows.length≤32∧∀r∈o.rows,r.path.length≤48∧r.text.length≤256
  com:o.kind=3→o.parents.length≤2∧0≤o.style
  note:o.kind=3→o.note.length≤200
theorem yl (w:World) (s:Str) (n:Nat) (hn:n<100) (hl:s.length<900000000):
  gn prog 161 [xn s,.int .i64 (n:Int)] w fun v w'=>∃q k,v= .slice q (ue n s).length k∧Own w' q (ue n s).length k 5 1 (ge (ue n s))∧(∀x,jd q x→w.heap.size≤x)∧Ext No w w':=by
 have l:(uo s).size=s.length:=rfl
 refine gx func161 ?_
 have b:=Ext.refl No w
 refine je rfl (qc rfl ?_)
 rw[IntWalk.u64_in _ zo]
 refine j9 gc rfl (gi call96 rfl (Cs n hn w s.length zo) fun u z h=> ?_)
 obtain⟨q,k,rfl,m,c,i⟩:=h
 have b:=b.gb i
 refine j9 gc rfl ?_
 have d:=b
 refine wl (uh gc rfl 1 1 rfl rfl rfl zd m Src.string zm zn fun o p r a e f=> ?_)
 dsimp only at a e f⊢
 have b:=d.trans e fun y A t=>by have:=c y t;omega
 have g:=zz7 d c f
 have j:n+(uo s).size=(ue n s).length:=by rw[kw];omega
 have a:Own r o (ue n s).length p 5 1 (ge (ue n s)):=by
  rw[←j,ue,k8]
  exact a
 rw[j]
 refine jz rfl (gq (gu rfl rfl ?_))
 exact⟨_,_,rfl,a,g,b⟩
theorem bytes6_calls (w:World) {x:jk} {a:vd} (hx:qv x) (hxl:Bh w x a) (hf:BytesIn x):
  gn prog 99 [.agg (jw x a).toArray] w fun v w'=>∃q k,v= .slice q (laidB x).length k∧Own w' q (laidB x).length k 5 1 (ge (laidB x))∧(∀b,jd q b→w.heap.size≤b)∧Ext No w w':=by
 have hk0:0≤x.kind:=by rcases hf.k with h|h|h<;>omega
 refine gx func99 ?_
 have hX:=Ext.refl No w
 refine qa (gw rfl fun b1 w1 hn1 hb1 hE1=> ?_)
 have hX:=hX.gb hE1
 have hb1:j0 w1 b1 37 (jw x a):=hb1
 refine jz rfl (qc rfl (gy rfl (hb1.ko.obj hx).kind (j9 gc rfl ?_)))
 rw[zw9 hk0]
 refine wl (qd gc rfl 1 rfl rfl rfl zd zd zt (l':=ge [UInt8.ofNat x.kind.toNat]) rfl fun b14 w2 hn14 hb14 hE2 hs2=> ?_)
 have fr14:=Nat.le_trans hX.size hn14
 have hb1:=hb1.ga hE2
 have hX:=hX.gb hE2
 obtain⟨q,k,L0,hL0,hl0,hs0,hO⟩:∃q k,∃L0:List UInt8,L0=be 1 x.kind.toNat∧L0.length=1∧Value.slice (some ⟨b14,0,none⟩) 1 1= .slice q L0.length k∧ku w w2 q L0.length k 5 1 (ge L0):=⟨_,1,_,rfl,jp _ _,rfl,ku.blk (n:=1) hb14 fr14 rfl zd⟩
 rw[hs0]
 refine jz rfl (gk (qc rfl (gy rfl (hb1.ko.obj hx).kind (qr (gr (je rfl (jl rfl (fun hc=> ?_) (fun hc=> ?_))))))))
 ·have h1:x.kind=1:=hc
  have hBl:=hf.text h1
  refine qc rfl (gy rfl (hb1.ko.obj hx).text (gi call161 rfl (yl w2 x.text 2 zd zo) fun v3 w3 hr3=> ?_))
  obtain⟨qp,kp,rfl,hqp,hqpn,hE3⟩:=hr3
  have hO:=hO.ga hE3
  have hX:=hX.gb hE3
  refine wl (vy gc rfl 5 rfl rfl rfl rfl hO rfl (Src.bytes hqp.sl) rfl zg hX fun q k w4 L1 hL1 hl1 hO hE4 hT4 hX=> ?_)
  rw[kw] at hl1
  refine jz rfl (gq (ji (gp (gu rfl rfl ?_))))
  have e:L1=laidB x:=by rw[hL1,hL0,laidB,if_pos h1]
  rw[e] at hO⊢
  exact⟨q,k,rfl,hO.own,hO.new,hX⟩
 have h1:¬x.kind=1:=hc
 refine je rfl (jl rfl (fun hc=> ?_) (fun hc=> ?_))
 ·have h2:x.kind=2:=hc
  obtain⟨hl32,hp48⟩:=hf.leaves h2
  refine qc rfl (gy rfl (hb1.ko.obj hx).leaves (j9 gc rfl ?_))
  rw[xd]
  refine wl (qd gc rfl 1 rfl rfl rfl zd zd zt (l':=ge [UInt8.ofNat x.leaves.length]) rfl fun b31 w5 hn31 hb31 hE5 hs5=> ?_)
  have hb1:=hb1.ga hE5
  have hO:=hO.ga hE5
  have hX:=hX.gb hE5
  refine wl (vy (M:=be 1 x.leaves.length) gc rfl 5 rfl rfl rfl rfl hO rfl (Src.one hb31) rfl zo hX fun q k w6 L1 hL1 hl1 hO hE6 hT6 hX=> ?_)
  have hb1:=hb1.xf hT6 zd zd
  refine jz rfl (gk (qc rfl (gy rfl (hb1.ko.obj hx).leaves ?_)))
  rw[show L1=L1++(x.leaves.take 0).flatMap Ay from by simp] at hO⊢
  refine jz rfl (gr ?_)
  refine jm (α:=Nat×Option Addr×Nat) [34,35] rfl (fun z=>[(3,.slice z.2.1 (L1++(x.leaves.take z.1).flatMap Ay).length z.2.2),(36,.int .i64 (z.1:Int))]) (fun z u=>(z.1≤x.leaves.length∧ku w u z.2.1 (L1++(x.leaves.take z.1).flatMap Ay).length z.2.2 5 1 (ge (L1++(x.leaves.take z.1).flatMap Ay)))∧Ext No w u) (fun z u=>x.leaves.length-z.1) (0,q,k) rfl ⟨⟨Nat.zero_le _,hO⟩,hX⟩ ?_
  rintro⟨i,q,k⟩ w7 ⟨⟨hi,hO⟩,hX⟩
  try dsimp only
  dsimp only at hi hO
  obtain⟨L2,hL2⟩:∃L2,L2=L1++(x.leaves.take i).flatMap Ay:=⟨_,rfl⟩
  rw[←hL2] at hO⊢
  have hl2:=congrArg List.length hL2
  simp only[List.length_append] at hl2
  refine je rfl (gk (jl rfl (fun hc=> ?_) (fun hc=> ?_)))
  ·have hi:i<x.leaves.length:=by omega
   obtain⟨qb,qoff,hp,hsq⟩:=hxl.leaves.qm (fun r hr=>jf.len (hx.leaves r hr).2) zo
   rw[hp]
   have ha1:=hx.leaves _ (List.getElem_mem hi)
   have ha2:=hp48 _ (List.getElem_mem hi)
   have ha3:=ha1.2
   have hfl:((x.leaves.take i).flatMap Ay).length≤(x.leaves.take i).length*100:=B0 fun r hr=>leafB_le (hp48 r (List.mem_of_mem_take hr)) (hx.leaves r (List.mem_of_mem_take hr)).2
   rw[List.length_take,Nat.min_eq_left zo] at hfl
   refine xz (gr (qa (ki rfl 33 rfl i rfl zo (qoff+i*33) rfl (jr rfl ((hsq i hi).ga hX) (jf.len ha1.2) (gw rfl fun b5 w8 hn5 hb5 hE8=> ?_)))))
   have fr5:=Nat.le_trans hX.size hn5
   have hO:=hO.ga hE8
   have hX:=hX.gb hE8
   have hb5o:=hb5
   refine wl (j8 (l':=(x.leaves[i]).cells) gc hb5 rfl rfl (jf.len ha1.2) (jf.len ha1.2) OneC.h fun w9 hb5 hE9 hs9=> ?_)
   have hO:=hO.gj hE9 hb5o zd
   have hX:=hX.gh hE9 fr5
   refine qr (js rfl 9 [qP 0,qP 1,qP 2,qP 5,qP 6,(3,false),(4,false),(7,false),qP 8] [] (Bc w w9 5 5) zk fun w10 hE10 hs10=> ?_)
   have hd5:=hb5
   have hb5:=hb5.ga hE10
   have hO:=hO.ga hE10
   have hX:=hX.gb hE10
   have hC:Ext (Bc w w9 5 5) _ w10:=hE10.no
   refine gv gc 2 rfl (j6 gc rfl rfl (fun w' hw'=>((hd5.xf (show Ext (Bc w _ 5 5) _ w' from hw') zd zd).cell rfl)) ?_)
   refine gv gc 1 rfl (xw9 gc rfl rfl 0 32 32 1 rfl ⟨.inr ⟨rfl,rfl⟩,.inr ⟨rfl,rfl⟩,.inr ⟨rfl,rfl⟩,by decide,by decide,by decide⟩ ?_)
   rw[ka,Nat.sub_zero]
   refine jg rfl (j3 call161 rfl (yl w10 (x.leaves[i]).path 1 zd zo) fun v11 w11 hr11=>⟨(by obtain⟨qp,kp,rfl,hqp,hqpn,hE11⟩:=hr11;exact hC.gb hE11),?_⟩)
   obtain⟨qp,kp,rfl,hqp,hqpn,hE11⟩:=hr11
   have hb5:=hb5.ga hE11
   have hO:=hO.ga hE11
   have hX:=hX.gb hE11
   have hC:=hC.gb hE11
   refine jg rfl (vy gc rfl 5 rfl rfl rfl rfl hO rfl (Src.bytes hqp.sl) rfl zg hX fun q k w12 L3 hL3 hl3 hO hE12 hT12 hX=>⟨hC.km hT12,?_⟩)
   have hb5:=hb5.xf hT12 zd zd
   have hC:=hC.km hT12
   rw[kw] at hl3
   refine jg rfl (vy gc rfl 5 rfl rfl rfl rfl hO rfl (Src.id (hb5.ko.drop 1) ha3) ha3.symm zo hX fun q k w13 L4 hL4 hl4 hO hE13 hT13 hX=>⟨hC.km hT13,?_⟩)
   refine gv gc 1 rfl (jj (ja (Bo rfl ?_)))
   rw[kg _ zo]
   refine gm ?_
   have e:L4=L1++(x.leaves.take (i+1)).flatMap Ay:=by rw[hL4,hL3,hL2,yv4 hi,Ay];simp only[List.append_assoc]
   rw[e] at hO⊢
   exact jn (i+1,q,k) rfl ⟨⟨hi,hO⟩,hX⟩ zf
  have h0:i=x.leaves.length:=by omega
  subst h0
  rw[List.take_length] at hL2
  refine Bi (je rfl (gq (ji (gp (gu rfl rfl ?_)))))
  have e:L2=laidB x:=by rw[hL2,hL1,hL0,laidB,if_neg h1,if_pos h2,treeB,List.append_assoc]
  rw[e] at hO⊢
  exact⟨q,k,rfl,hO.own,hO.new,hX⟩
 have h2:¬x.kind=2:=hc
 have h3:x.kind=3:=(hf.k.resolve_left h1).resolve_left h2
 obtain⟨hl32,hp48⟩:=hf.rows h3
 obtain⟨hpl,hst⟩:=hf.com h3
 have hnl:=hf.note h3
 have htr:=hx.tree
 have hba:=hx.base
 have hpf:=zq6 (n:=32) hx.parents
 refine j7 (jy (j1 (gk (js rfl 10 [qP 0,qP 1,qP 2,qP 3,qP 6,qP 7,(4,false),(5,false),(8,false),qP 9] [] (Bc w w2 5 5) zk fun w14 hE14 hs14=> ?_))))
 have hd1:=hb1
 have hOd:=hO
 have hb1:=hb1.ga hE14
 have hO:=hO.ga hE14
 have hX:=hX.gb hE14
 have hC:Ext (Bc w w2 5 5) _ w14:=hE14.no
 refine gv gc 2 rfl (j6 gc rfl rfl (fun w' hw'=>((hd1.xf (show Ext (Bc w _ 5 5) _ w' from hw') zd zd).ko.obj hx).style) ?_)
 refine gv gc 1 rfl ?_
 rw[zw9 hst]
 refine gv gc 1 rfl (xw9 gc rfl rfl 0 32 32 1 rfl ⟨.inr ⟨rfl,rfl⟩,.inr ⟨rfl,rfl⟩,.inr ⟨rfl,rfl⟩,by decide,by decide,by decide⟩ ?_)
 rw[ka,Nat.sub_zero]
 refine jg rfl (qd gc rfl 1 rfl rfl rfl zd zd zt (l':=ge [UInt8.ofNat x.style.toNat]) rfl fun b54 w15 hn54 hb54 hE15 hs15=>⟨hC.gb hE15,?_⟩)
 have hb1:=hb1.ga hE15
 have hO:=hO.ga hE15
 have hX:=hX.gb hE15
 have hC:=hC.gb hE15
 refine jg rfl (vy (M:=be 1 x.style.toNat) gc rfl 5 rfl rfl rfl rfl hO rfl (Src.one hb54) rfl zo hX fun q k w16 L1 hL1 hl1 hO hE16 hT16 hX=>⟨hC.km hT16,?_⟩)
 have hb1:=hb1.xf hT16 zd zd
 have hC:=hC.km hT16
 refine jg rfl (vy gc rfl 5 rfl rfl rfl rfl hO rfl (Src.id (hb1.ko.obj hx).tree hx.tree) hx.tree.symm zo hX fun q k w17 L2 hL2 hl2 hO hE17 hT17 hX=>⟨hC.km hT17,?_⟩)
 have hb1:=hb1.xf hT17 zd zd
 have hC:=hC.km hT17
 refine gv gc 1 rfl (jj (ja (j1 (qc rfl (gy rfl (hb1.ko.obj hx).parents (j9 gc rfl ?_))))))
 rw[xd]
 refine wl (qd gc rfl 1 rfl rfl rfl zd zd zt (l':=ge [UInt8.ofNat x.parents.length]) rfl fun b64 w18 hn64 hb64 hE18 hs18=> ?_)
 have hb1:=hb1.ga hE18
 have hO:=hO.ga hE18
 have hX:=hX.gb hE18
 refine wl (vy (M:=be 1 x.parents.length) gc rfl 5 rfl rfl rfl rfl hO rfl (Src.one hb64) rfl zo hX fun q k w19 L3 hL3 hl3 hO hE19 hT19 hX=> ?_)
 have hb1:=hb1.xf hT19 zd zd
 refine jz rfl (gk (qc rfl (gy rfl (hb1.ko.obj hx).parents ?_)))
 rw[show L3=L3++(x.parents.take 0).flatten from by simp] at hO⊢
 refine jz rfl (gr ?_)
 refine jm (α:=Nat×Option Addr×Nat) [1,67,68] rfl (fun z=>[(3,.slice z.2.1 (L3++(x.parents.take z.1).flatten).length z.2.2),(69,.int .i64 (z.1:Int))]) (fun z u=>(z.1≤x.parents.length∧ku w u z.2.1 (L3++(x.parents.take z.1).flatten).length z.2.2 5 1 (ge (L3++(x.parents.take z.1).flatten)))∧j0 u b1 37 (jw x a)∧Ext No w u) (fun z u=>x.parents.length-z.1) (0,q,k) rfl ⟨⟨Nat.zero_le _,hO⟩,hb1,hX⟩ ?_
 rintro⟨i,q,k⟩ w20 ⟨⟨hi,hO⟩,hb1,hX⟩
 try dsimp only
 dsimp only at hi hO
 obtain⟨L4,hL4⟩:∃L4,L4=L3++(x.parents.take i).flatten:=⟨_,rfl⟩
 rw[←hL4] at hO⊢
 have hl4:=congrArg List.length hL4
 simp only[List.length_append] at hl4
 refine je rfl (gk (jl rfl (fun hc=> ?_) (fun hc=> ?_)))
 ·have hi:i<x.parents.length:=by omega
  obtain⟨qb,qoff,hp,hsq⟩:=hxl.parents.qm (fun r hr=>vh.len (hx.parents r hr)) zo
  rw[hp]
  have ha1:vh x.parents[i]:=hx.parents _ (List.getElem_mem hi)
  have hfl:=flatten_in hx.parents i
  rw[List.length_take,Nat.min_eq_left zo] at hfl
  refine xz (gr (qa (ki rfl 32 rfl i rfl zo (qoff+i*32) rfl (jr rfl ((hsq i hi).ga hX) ha1.len (gw rfl fun b7 w21 hn7 hb7 hE21=> ?_)))))
  have ne1_7:=j5 hb1.lt hn7
  have fr7:=Nat.le_trans hX.size hn7
  have hb1:=hb1.ga hE21
  have hO:=hO.ga hE21
  have hX:=hX.gb hE21
  have hb7o:=hb7
  refine wl (j8 (l':=ge x.parents[i]) gc hb7 rfl rfl ha1.len ha1.len OneC.h fun w22 hb7 hE22 hs22=> ?_)
  have hb1:=hb1.gj hE22 ne1_7
  have hO:=hO.gj hE22 hb7o zd
  have hX:=hX.gh hE22 fr7
  refine qr (yv rfl (wl (st_sa gc rfl 0 32 32 1 rfl ⟨.inr ⟨rfl,rfl⟩,.inr ⟨rfl,rfl⟩,.inr ⟨rfl,rfl⟩,by decide,by decide,by decide⟩ ?_)))
  rw[ka,Nat.sub_zero]
  refine wl (vy gc rfl 5 rfl rfl rfl rfl hO rfl (Src.id hb7.ko ha1) ha1.symm zo hX fun q k w23 L5 hL5 hl5 hO hE23 hT23 hX=> ?_)
  have hb1:=hb1.xf hT23 zd zd
  refine j9 gc rfl (gm (Bo rfl ?_))
  rw[kg _ zo]
  refine gm ?_
  have e:L5=L3++(x.parents.take (i+1)).flatten:=by rw[hL5,hL4,zw0 hi,List.append_assoc]
  rw[e] at hO⊢
  exact jn (i+1,q,k) rfl ⟨⟨hi,hO⟩,hb1,hX⟩ zf
 have h0:i=x.parents.length:=by omega
 subst h0
 rw[List.take_length] at hL4 hl4
 refine Bi ?_
 refine jv (α:=Option Addr×Nat) [1] rfl (fun z=>[(3,.slice z.1 (L3++x.parents.flatten++x.base++be 1 x.rows.length).length z.2)]) (fun z u=>(ku w u z.1 (L3++x.parents.flatten++x.base++be 1 x.rows.length).length z.2 5 1 (ge (L3++x.parents.flatten++x.base++be 1 x.rows.length)))∧j0 u b1 37 (jw x a)∧Ext No w u) ?_ ?_
 ·refine zq7 rfl 12 12 [] (Bc w w20 5 5) zk fun w24 hE24 hs24=> ?_
  have hd1:=hb1
  have hOd:=hO
  have hb1:=hb1.ga hE24
  have hO:=hO.ga hE24
  have hX:=hX.gb hE24
  have hC:Ext (Bc w w20 5 5) _ w24:=hE24.no
  refine qe [qP 0,qP 1,qP 2,qP 4,qP 5,qP 6,qP 7,qP 8] 4 rfl zk (gv gc 2 rfl ?_)
  refine xw9 gc rfl rfl 0 32 32 1 rfl ⟨.inr ⟨rfl,rfl⟩,.inr ⟨rfl,rfl⟩,.inr ⟨rfl,rfl⟩,by decide,by decide,by decide⟩ ?_
  rw[ka,Nat.sub_zero]
  refine gv gc 2 rfl (j6 gc rfl rfl (fun w' hw'=>((hd1.xf (show Ext (Bc w _ 5 5) _ w' from hw') zd zd).ko.obj hx).rows) ?_)
  refine gv gc 2 rfl ?_
  rw[xd]
  refine xg rfl (Ab [3,9] rfl zk ⟨⟨_,rfl,?_⟩,⟨_,rfl,?_⟩,trivial⟩)
  ·have hOo:=hO
   refine vy gc rfl 5 rfl rfl rfl rfl hO rfl (Src.id (hb1.ko.obj hx).base hx.base) hx.base.symm zo hX fun q k w25 L5 hL5 hl5 hO hE25 hT25 hX=>⟨hC.km hT25,?_⟩
   have hb1:=hb1.xf hT25 zd zd
   try have hb86:=hb86.ext hE25 (fun hx=>by have:=hOd.own.lt hx;have:=hOo.own.lt hx;omega)
   have hC:=hC.km hT25
   refine qe [(9,false),(10,false),qP 11] 0 rfl zk ?_
   refine jg rfl (qd gc rfl 1 rfl rfl rfl zd zd zt (l':=ge [UInt8.ofNat x.rows.length]) rfl fun b86 w26 hn86 hb86 hE26 hs26=>⟨hC.gb hE26,?_⟩)
   have frhC86:=Nat.le_trans hC.size hn86
   have hb1:=hb1.ga hE26
   have hO:=hO.ga hE26
   have hX:=hX.gb hE26
   have hC:=hC.gb hE26
   refine jg rfl (vy (M:=be 1 x.rows.length) gc rfl 5 rfl rfl rfl rfl hO rfl (Src.one hb86) rfl zo hX fun q k w27 L6 hL6 hl6 hO hE27 hT27 hX=>⟨hC.km hT27,?_⟩)
   have hb1:=hb1.xf hT27 zd zd
   refine gv gc 1 rfl (jj (ja ?_))
   rw[hL6,hL5,hL4] at hO⊢
   exact gz (q,k) rfl ⟨hO,hb1,hX⟩
  refine qd gc rfl 1 rfl rfl rfl zd zd zt (l':=ge [UInt8.ofNat x.rows.length]) rfl fun b86 w28 hn86 hb86 hE28 hs28=>⟨hC.gb hE28,?_⟩
  have frhC86:=Nat.le_trans hC.size hn86
  have hb1:=hb1.ga hE28
  have hO:=hO.ga hE28
  have hX:=hX.gb hE28
  have hC:=hC.gb hE28
  refine qe [(3,false),(10,false),qP 11] 0 rfl zk ?_
  have hOo:=hO
  refine jg rfl (vy gc rfl 5 rfl rfl rfl rfl hO rfl (Src.id (hb1.ko.obj hx).base hx.base) hx.base.symm zo hX fun q k w29 L5 hL5 hl5 hO hE29 hT29 hX=>⟨hC.km hT29,?_⟩)
  have hb1:=hb1.xf hT29 zd zd
  try have hb86:=hb86.ext hE29 (fun hx=>by have:=hOd.own.lt hx;have:=hOo.own.lt hx;omega)
  have hC:=hC.km hT29
  refine jg rfl (vy (M:=be 1 x.rows.length) gc rfl 5 rfl rfl rfl rfl hO rfl (Src.one hb86) rfl zo hX fun q k w30 L6 hL6 hl6 hO hE30 hT30 hX=>⟨hC.km hT30,?_⟩)
  have hb1:=hb1.xf hT30 zd zd
  refine gv gc 1 rfl (jj (ja ?_))
  rw[hL6,hL5,hL4] at hO⊢
  exact gz (q,k) rfl ⟨hO,hb1,hX⟩
 rintro⟨q,k⟩ w31 ⟨hO,hb1,hX⟩
 try dsimp only
 dsimp only at hO
 obtain⟨L7,hL7⟩:∃L7,L7=L3++x.parents.flatten++x.base++be 1 x.rows.length:=⟨_,rfl⟩
 rw[←hL7] at hO⊢
 have hl7:=congrArg List.length hL7
 simp only[List.length_append,jp] at hl7
 refine gk (qc rfl (gy rfl (hb1.ko.obj hx).rows ?_))
 rw[show L7=L7++(x.rows.take 0).flatMap xw from by simp] at hO⊢
 refine jz rfl (gr ?_)
 refine jm (α:=Nat×Option Addr×Nat) [1,90,91] rfl (fun z=>[(3,.slice z.2.1 (L7++(x.rows.take z.1).flatMap xw).length z.2.2),(92,.int .i64 (z.1:Int))]) (fun z u=>(z.1≤x.rows.length∧ku w u z.2.1 (L7++(x.rows.take z.1).flatMap xw).length z.2.2 5 1 (ge (L7++(x.rows.take z.1).flatMap xw)))∧j0 u b1 37 (jw x a)∧Ext No w u) (fun z u=>x.rows.length-z.1) (0,q,k) rfl ⟨⟨Nat.zero_le _,hO⟩,hb1,hX⟩ ?_
 rintro⟨i,q,k⟩ w32 ⟨⟨hi,hO⟩,hb1,hX⟩
 try dsimp only
 dsimp only at hi hO
 obtain⟨La,hLa⟩:∃La,La=L7++(x.rows.take i).flatMap xw:=⟨_,rfl⟩
 rw[←hLa] at hO⊢
 have hla:=congrArg List.length hLa
 simp only[List.length_append] at hla
 refine je rfl (gk (jl rfl (fun hc=> ?_) (fun hc=> ?_)))
 ·have hi:i<x.rows.length:=by omega
  obtain⟨qb,qoff,hp,hsq⟩:=hxl.rows.qm (fun r _=>r.len) zo
  rw[hp]
  have ha2:=hp48 _ (List.getElem_mem hi)
  have hfl:((x.rows.take i).flatMap xw).length≤(x.rows.take i).length*400:=B0 fun r hr=>chgB_le (hp48 r (List.mem_of_mem_take hr))
  rw[List.length_take,Nat.min_eq_left zo] at hfl
  refine j7 (j1 ?_)
  refine jv (α:=Option Addr×Nat) [1,90,91,92] rfl (fun z=>[(3,.slice z.1 (La++ue 1 (x.rows[i]).path++[isB (x.rows[i]).is]++ue 2 (x.rows[i]).text).length z.2)]) (fun z u=>(ku w u z.1 (La++ue 1 (x.rows[i]).path++[isB (x.rows[i]).is]++ue 2 (x.rows[i]).text).length z.2 5 1 (ge (La++ue 1 (x.rows[i]).path++[isB (x.rows[i]).is]++ue 2 (x.rows[i]).text)))∧j0 u b1 37 (jw x a)∧Ext No w u) ?_ ?_
  ·refine gr ?_
   refine qa (ki rfl 3 rfl i rfl zo (qoff+i*3) rfl (jr rfl ((hsq i hi).ga hX) rfl (gw rfl fun b9 w33 hn9 hb9 hE33=> ?_)))
   have ne1_9:=j5 hb1.lt hn9
   have fr9:=Nat.le_trans hX.size hn9
   have hb1:=hb1.ga hE33
   have hO:=hO.ga hE33
   have hX:=hX.gb hE33
   have hb9o:=hb9
   refine wl (j8 (l':=(x.rows[i]).cells) gc hb9 rfl rfl rfl rfl OneC.h fun w34 hb9 hE34 hs34=> ?_)
   have hb1:=hb1.gj hE34 ne1_9
   have hO:=hO.gj hE34 hb9o zd
   have hX:=hX.gh hE34 fr9
   refine qr (je rfl (jv (α:=UInt8) [1,3,9,90,91,92] rfl (fun z=>[(10,.int .u8 (z.toNat:Int))]) (fun z u=>u=w34∧z=isB (x.rows[i]).is) ?_ ?_))
   ·refine gk ?_
    refine yv rfl (jb hb9 rfl rfl (qr (vj rfl (fun hc=> ?_) (fun hc=> ?_))))
    ·have his:isB (x.rows[i]).is=1:=by rw[isB,hc];rfl
     refine yv rfl (gm ?_)
     exact gz (1) rfl ⟨rfl,his.symm⟩
    have his:isB (x.rows[i]).is=0:=by rw[isB,hc];rfl
    refine j7 ?_
    exact gz (0) rfl ⟨rfl,his.symm⟩
   rintro z w35 ⟨hu,rfl⟩
   have hu:=hu.symm
   subst hu
   refine zq7 rfl 13 13 [] (Bc w w34 5 5) zk fun w36 hE36 hs36=> ?_
   have hd9:=hb9
   have hOd:=hO
   have hb1:=hb1.ga hE36
   have hO:=hO.ga hE36
   have hX:=hX.gb hE36
   have hC:Ext (Bc w w34 5 5) _ w36:=hE36.no
   refine qe [qP 0,qP 1,qP 2,qP 5,qP 8,qP 9] 7 rfl zk (gv gc 2 rfl ?_)
   refine j6 gc rfl rfl (fun w' hw'=>((hd9.xf (show Ext (Bc w _ 5 5) _ w' from hw') zd zd).cell rfl)) ?_
   refine gv gc 2 rfl (j6 gc rfl rfl (fun w' hw'=>((hd9.xf (show Ext (Bc w _ 5 5) _ w' from hw') zd zd).cell rfl)) ?_)
   refine xg rfl (Ab [3,6] rfl zk ⟨⟨_,rfl,?_⟩,⟨_,rfl,?_⟩,trivial⟩)
   ·refine j3 call161 rfl (yl w36 (x.rows[i]).path 1 zd zo) fun v37 w37 hr37=>⟨(by obtain⟨qp,kp,rfl,hqp,hqpn,hE37⟩:=hr37;exact hC.gb hE37),?_⟩
    obtain⟨qp,kp,rfl,hqp,hqpn,hE37⟩:=hr37
    have hb1:=hb1.ga hE37
    have hO:=hO.ga hE37
    have hX:=hX.gb hE37
    have hC:=hC.gb hE37
    refine qe [] 6 rfl zk (xg rfl (Ab [4,6] rfl zk ⟨⟨_,rfl,?_⟩,⟨_,rfl,?_⟩,trivial⟩))
    ·have hOo:=hO
     refine vy gc rfl 5 rfl rfl rfl rfl hO rfl (Src.bytes hqp.sl) rfl zg hX fun q k w38 L8 hL8 hl8 hO hE38 hT38 hX=>⟨hC.km hT38,?_⟩
     have hb1:=hb1.xf hT38 zd zd
     try have hb104:=hb104.ext hE38 (fun hx=>by have:=hOd.own.lt hx;have:=hOo.own.lt hx;omega)
     have hC:=hC.km hT38
     rw[kw] at hl8
     refine qe [(6,false),(7,false),(10,false),(11,false),qP 12] 0 rfl zk ?_
     refine jg rfl (qd gc rfl 1 rfl rfl rfl zd zd zt (l':=ge [isB (x.rows[i]).is]) rfl fun b104 w39 hn104 hb104 hE39 hs39=>⟨hC.gb hE39,?_⟩)
     have frhC104:=Nat.le_trans hC.size hn104
     have hb1:=hb1.ga hE39
     have hO:=hO.ga hE39
     have hX:=hX.gb hE39
     have hC:=hC.gb hE39
     refine jg rfl (vy gc rfl 5 rfl rfl rfl rfl hO rfl (Src.one hb104) rfl zo hX fun q k w40 L9 hL9 hl9 hO hE40 hT40 hX=>⟨hC.km hT40,?_⟩)
     have hb1:=hb1.xf hT40 zd zd
     have hC:=hC.km hT40
     refine jg rfl (j3 call161 rfl (yl w40 (x.rows[i]).text 2 zd zo) fun v41 w41 hr41=>⟨(by obtain⟨qt,kt,rfl,hqt,hqtn,hE41⟩:=hr41;exact hC.gb hE41),?_⟩)
     obtain⟨qt,kt,rfl,hqt,hqtn,hE41⟩:=hr41
     have hb1:=hb1.ga hE41
     have hO:=hO.ga hE41
     have hX:=hX.gb hE41
     have hC:=hC.gb hE41
     refine jg rfl (vy gc rfl 5 rfl rfl rfl rfl hO rfl (Src.bytes hqt.sl) rfl zg hX fun q k w42 L10 hL10 hl10 hO hE42 hT42 hX=>⟨hC.km hT42,?_⟩)
     have hb1:=hb1.xf hT42 zd zd
     rw[kw] at hl10
     refine gv gc 1 rfl (jj (ja ?_))
     rw[hL10,hL9,hL8] at hO⊢
     exact jy (gz (q,k) rfl ⟨hO,hb1,hX⟩)
    refine qd gc rfl 1 rfl rfl rfl zd zd zt (l':=ge [isB (x.rows[i]).is]) rfl fun b104 w43 hn104 hb104 hE43 hs43=>⟨hC.gb hE43,?_⟩
    have frhC104:=Nat.le_trans hC.size hn104
    have hb1:=hb1.ga hE43
    have hO:=hO.ga hE43
    have hqp:=hqp.ext hE43 fun _ _=>id
    have hX:=hX.gb hE43
    have hC:=hC.gb hE43
    refine qe [(4,false),(7,false),(10,false),(11,false),qP 12] 0 rfl zk ?_
    have hOo:=hO
    refine jg rfl (vy gc rfl 5 rfl rfl rfl rfl hO rfl (Src.bytes hqp.sl) rfl zg hX fun q k w44 L8 hL8 hl8 hO hE44 hT44 hX=>⟨hC.km hT44,?_⟩)
    have hb1:=hb1.xf hT44 zd zd
    try have hb104:=hb104.ext hE44 (fun hx=>by have:=hOd.own.lt hx;have:=hOo.own.lt hx;omega)
    have hC:=hC.km hT44
    rw[kw] at hl8
    refine jg rfl (vy gc rfl 5 rfl rfl rfl rfl hO rfl (Src.one hb104) rfl zo hX fun q k w45 L9 hL9 hl9 hO hE45 hT45 hX=>⟨hC.km hT45,?_⟩)
    have hb1:=hb1.xf hT45 zd zd
    have hC:=hC.km hT45
    refine jg rfl (j3 call161 rfl (yl w45 (x.rows[i]).text 2 zd zo) fun v46 w46 hr46=>⟨(by obtain⟨qt,kt,rfl,hqt,hqtn,hE46⟩:=hr46;exact hC.gb hE46),?_⟩)
    obtain⟨qt,kt,rfl,hqt,hqtn,hE46⟩:=hr46
    have hb1:=hb1.ga hE46
    have hO:=hO.ga hE46
    have hX:=hX.gb hE46
    have hC:=hC.gb hE46
    refine jg rfl (vy gc rfl 5 rfl rfl rfl rfl hO rfl (Src.bytes hqt.sl) rfl zg hX fun q k w47 L10 hL10 hl10 hO hE47 hT47 hX=>⟨hC.km hT47,?_⟩)
    have hb1:=hb1.xf hT47 zd zd
    rw[kw] at hl10
    refine gv gc 1 rfl (jj (ja ?_))
    rw[hL10,hL9,hL8] at hO⊢
    exact jy (gz (q,k) rfl ⟨hO,hb1,hX⟩)
   refine qd gc rfl 1 rfl rfl rfl zd zd zt (l':=ge [isB (x.rows[i]).is]) rfl fun b104 w48 hn104 hb104 hE48 hs48=>⟨hC.gb hE48,?_⟩
   have frhC104:=Nat.le_trans hC.size hn104
   have hb1:=hb1.ga hE48
   have hO:=hO.ga hE48
   have hX:=hX.gb hE48
   have hC:=hC.gb hE48
   refine qe [(3,false),(4,false),(7,false),(10,false),(11,false),qP 12] 0 rfl zk ?_
   refine jg rfl (j3 call161 rfl (yl w48 (x.rows[i]).path 1 zd zo) fun v49 w49 hr49=>⟨(by obtain⟨qp,kp,rfl,hqp,hqpn,hE49⟩:=hr49;exact hC.gb hE49),?_⟩)
   obtain⟨qp,kp,rfl,hqp,hqpn,hE49⟩:=hr49
   have hb1:=hb1.ga hE49
   have hb104:=hb104.ga hE49
   have hO:=hO.ga hE49
   have hX:=hX.gb hE49
   have hC:=hC.gb hE49
   have hOo:=hO
   refine jg rfl (vy gc rfl 5 rfl rfl rfl rfl hO rfl (Src.bytes hqp.sl) rfl zg hX fun q k w50 L8 hL8 hl8 hO hE50 hT50 hX=>⟨hC.km hT50,?_⟩)
   have hb1:=hb1.xf hT50 zd zd
   try have hb104:=hb104.ext hE50 (fun hx=>by have:=hOd.own.lt hx;have:=hOo.own.lt hx;omega)
   have hC:=hC.km hT50
   rw[kw] at hl8
   refine jg rfl (vy gc rfl 5 rfl rfl rfl rfl hO rfl (Src.one hb104) rfl zo hX fun q k w51 L9 hL9 hl9 hO hE51 hT51 hX=>⟨hC.km hT51,?_⟩)
   have hb1:=hb1.xf hT51 zd zd
   have hC:=hC.km hT51
   refine jg rfl (j3 call161 rfl (yl w51 (x.rows[i]).text 2 zd zo) fun v52 w52 hr52=>⟨(by obtain⟨qt,kt,rfl,hqt,hqtn,hE52⟩:=hr52;exact hC.gb hE52),?_⟩)
   obtain⟨qt,kt,rfl,hqt,hqtn,hE52⟩:=hr52
   have hb1:=hb1.ga hE52
   have hO:=hO.ga hE52
   have hX:=hX.gb hE52
   have hC:=hC.gb hE52
   refine jg rfl (vy gc rfl 5 rfl rfl rfl rfl hO rfl (Src.bytes hqt.sl) rfl zg hX fun q k w53 L10 hL10 hl10 hO hE53 hT53 hX=>⟨hC.km hT53,?_⟩)
   have hb1:=hb1.xf hT53 zd zd
   rw[kw] at hl10
   refine gv gc 1 rfl (jj (ja ?_))
   rw[hL10,hL9,hL8] at hO⊢
   exact jy (gz (q,k) rfl ⟨hO,hb1,hX⟩)
  rintro⟨q,k⟩ w54 ⟨hO,hb1,hX⟩
  try dsimp only
  dsimp only at hO
  refine yv rfl ?_
  rw[kg _ zo]
  refine gm ?_
  have e:La++ue 1 (x.rows[i]).path++[isB (x.rows[i]).is]++ue 2 (x.rows[i]).text=L7++(x.rows.take (i+1)).flatMap xw:=by rw[hLa,yv4 hi,xw];simp only[List.append_assoc]
  rw[e] at hO⊢
  exact jn (i+1,q,k) rfl ⟨⟨hi,hO⟩,hb1,hX⟩ zf
 have h0:i=x.rows.length:=by omega
 subst h0
 rw[List.take_length] at hLa hla
 have hfl:(x.rows.flatMap xw).length≤x.rows.length*400:=B0 fun r hr=>chgB_le (hp48 r hr)
 refine Bi (gk ?_)
 refine js rfl 12 [qP 0,qP 1,qP 2,qP 3,qP 6,qP 7,qP 8,(4,false),(5,false),(9,false),(10,false),qP 11] [] (Bc w w32 5 5) zk fun w55 hE55 hs55=> ?_
 have hd1:=hb1
 have hb1:=hb1.ga hE55
 have hO:=hO.ga hE55
 have hX:=hX.gb hE55
 have hC:Ext (Bc w w32 5 5) _ w55:=hE55.no
 refine gv gc 2 rfl (j6 gc rfl rfl (fun w' hw'=>((hd1.xf (show Ext (Bc w _ 5 5) _ w' from hw') zd zd).ko.obj hx).number) ?_)
 refine gv gc 1 rfl ?_
 rw[IntWalk.u64_in _ (by have:=hx.number;omega)]
 refine gv gc 1 rfl (j6 gc rfl rfl (fun w' hw'=>((hd1.xf (show Ext (Bc w _ 5 5) _ w' from hw') zd zd).ko.obj hx).author) ?_)
 refine gv gc 1 rfl ?_
 rw[IntWalk.u64_in _ (by have:=hx.author;omega)]
 refine jg rfl (j3 call96 rfl (Cs 4 zd w55 x.number (by have:=hx.number;omega)) fun v56 w56 hr56=>⟨(by obtain⟨qp,kp,rfl,hqp,hqpn,hE56⟩:=hr56;exact hC.gb hE56),?_⟩)
 obtain⟨qp,kp,rfl,hqp,hqpn,hE56⟩:=hr56
 have hb1:=hb1.ga hE56
 have hO:=hO.ga hE56
 have hX:=hX.gb hE56
 have hC:=hC.gb hE56
 refine jg rfl (vy gc rfl 5 rfl rfl rfl rfl hO rfl (Src.slice hqp.sl OneC.h) (jp _ _).symm zo hX fun q k w57 L11 hL11 hl11 hO hE57 hT57 hX=>⟨hC.km hT57,?_⟩)
 have hb1:=hb1.xf hT57 zd zd
 have hC:=hC.km hT57
 refine jg rfl (j3 call96 rfl (Cs 4 zd w57 x.author (by have:=hx.author;omega)) fun v58 w58 hr58=>⟨(by obtain⟨qt,kt,rfl,hqt,hqtn,hE58⟩:=hr58;exact hC.gb hE58),?_⟩)
 obtain⟨qt,kt,rfl,hqt,hqtn,hE58⟩:=hr58
 have hb1:=hb1.ga hE58
 have hO:=hO.ga hE58
 have hX:=hX.gb hE58
 have hC:=hC.gb hE58
 refine jg rfl (vy gc rfl 5 rfl rfl rfl rfl hO rfl (Src.slice hqt.sl OneC.h) (jp _ _).symm zo hX fun q k w59 L12 hL12 hl12 hO hE59 hT59 hX=>⟨hC.km hT59,?_⟩)
 have hb1:=hb1.xf hT59 zd zd
 refine gv gc 1 rfl (jj (ja (j1 (qc rfl (gy rfl (hb1.ko.obj hx).note ?_)))))
 refine gi call161 rfl (yl w59 x.note 1 zd zo) fun v60 w60 hr60=> ?_
 obtain⟨qp,kp,rfl,hqp,hqpn,hE60⟩:=hr60
 have hO:=hO.ga hE60
 have hX:=hX.gb hE60
 refine wl (vy gc rfl 5 rfl rfl rfl rfl hO rfl (Src.bytes hqp.sl) rfl zg hX fun q k w61 L13 hL13 hl13 hO hE61 hT61 hX=> ?_)
 rw[kw] at hl13
 refine jz rfl (gq (gu rfl rfl ?_))
 have e:L13=laidB x:=by rw[hL13,hL12,hL11,hLa,hL7,hL3,hL2,hL1,hL0,laidB,if_neg h1,if_neg h2,comB];simp only[List.append_assoc]
 rw[e] at hO⊢
 exact⟨q,k,rfl,hO.own,hO.new,hX⟩
theorem laid_le {x:jk} (hx:qv x) (hf:BytesIn x):(laidB x).length≤100000:=by
 rcases hf.k with a|a|a
 ·have:=hf.text a
  rw[laidB,if_pos a,List.length_append,jp,kw]
  omega
 ·obtain⟨d,c⟩:=hf.leaves a
  have e:(x.leaves.flatMap Ay).length≤x.leaves.length*100:=B0 fun r b=>leafB_le (c r b) (hx.leaves r b).2
  rw[laidB,if_neg zo,if_pos a,treeB,List.length_append,List.length_append,jp,jp]
  omega
 obtain⟨d,c⟩:=hf.rows a
 obtain⟨f,_⟩:=hf.com a
 have g:=hf.note a
 have e:(x.rows.flatMap xw).length≤x.rows.length*400:=B0 fun r b=>chgB_le (c r b)
 have h:=hx.tree
 have i:=hx.base
 have j:=zq6 (n:=32) hx.parents
 rw[laidB,if_neg zo,if_neg zo,comB]
 simp only[List.length_append,jp,kw]
 omega
theorem id6_calls (w:World) {x:jk} {a:vd} (hx:qv x) (hxl:Bh w x a) (hf:BytesIn x):
  gn prog 50 [.agg (jw x a).toArray] w fun v w'=>v= .agg (ge (Ao x)).toArray∧Ext No w w':=by
 have p:=laid_le hx hf
 refine gx func50 ?_
 have c:=Ext.refl No w
 refine qa (gw rfl fun r s t d i=> ?_)
 have c:=c.gb i
 have d:j0 s r 37 (jw x a):=d
 refine gw rfl fun u y j b e=> ?_
 have l:=Nat.le_trans c.size j
 have d:=d.ga e
 have c:=c.gb e
 refine qr (qa (jh d rfl (gt hx) (gi call99 rfl (bytes6_calls y hx (hxl.ga c) hf) fun D z m=> ?_)))
 obtain⟨q,k,rfl,A,B,f⟩:=m
 have b:=b.ga f
 have c:=c.gb f
 refine gi call130 rfl (refSum_calls z A.sl zo) fun E F n=> ?_
 obtain⟨rfl,g⟩:=n
 have b:=b.ga g
 have c:=c.gb g
 refine wl (j8 (l':=ge (Ao x)) gc b rfl rfl (by rw[gl,vg]) (by rw[gl,vg];rfl) OneC.h fun G b o C=> ?_)
 have c:=c.gh o l
 refine qr (gq (qz [_] ⟨⟨u,0,rfl,u0 gc rfl rfl b.ko (by rw[gl,vg];rfl)⟩,trivial⟩ ?_))
 exact⟨rfl,c⟩
theorem same6_calls (w:World) {x y:jk} {a b:vd} (hx:qv x) (hy:qv y) (hxl:Bh w x a) (hyl:Bh w y b) (hsx:Bp x):
  gn prog 17 [.agg (jw x a).toArray,.agg (jw y b).toArray] w fun v w'=>v= .bool (decide (x=y))∧Ext No w w':=by
 have hlx1:=hsx.leaves
 have hlx2:=hsx.parents
 have hlx3:=hsx.rows
 refine gx func17 ?_
 have hX:=Ext.refl No w
 refine qa (gw rfl fun b2 w1 hn2 hb2 hE1=> ?_)
 have hX:=hX.gb hE1
 have hb2:j0 w1 b2 37 (jw x a):=hb2
 have oa:=hb2.ko.obj hx
 refine gw rfl fun b3 w2 hn3 hb3 hE2=> ?_
 have hb2:=hb2.ga hE2
 have oa:=oa.ga hE2
 have hX:=hX.gb hE2
 have hb3:j0 w2 b3 37 (jw y b):=hb3
 have ob:=hb3.ko.obj hy
 refine jz rfl (gk ?_)
 refine jv (α:=Bool) [2,3] rfl (fun z=>[(34,.bool z)]) (fun z u=>(z=decide (¬(x.leaves.length=y.leaves.length∧x.parents.length=y.parents.length∧x.rows.length=y.rows.length)))∧j0 u b2 37 (jw x a)∧j0 u b3 37 (jw y b)∧Ext No w u) ?_ ?_
 ·refine j4 ?_
  refine j9 gc rfl (gy rfl oa.leaves (j9 gc rfl (gy rfl ob.leaves (j9 gc rfl (jo 15 rfl (fun hg=> ?_) (fun hg=> ?_))))))
  ·refine j2 gc 19 rfl ?_
   refine gm ?_
   exact gz (true) rfl ⟨by symm;rw[decide_eq_true_eq];intro h;omega,hb2,hb3,hX⟩
  refine j2 gc 1 rfl ?_
  refine gy rfl oa.parents (j2 gc 2 rfl (gy rfl ob.parents (j2 gc 4 rfl (jo 24 rfl (fun hg=> ?_) (fun hg=> ?_)))))
  ·refine j2 gc 10 rfl ?_
   refine gm ?_
   exact gz (true) rfl ⟨by symm;rw[decide_eq_true_eq];intro h;omega,hb2,hb3,hX⟩
  refine j2 gc 2 rfl ?_
  refine gy rfl oa.rows (j2 gc 3 rfl (gy rfl ob.rows (j2 gc 3 rfl (gm ?_))))
  exact gz (_) rfl ⟨by rw[decide_eq_decide];omega,hb2,hb3,hX⟩
 rintro z w3 ⟨rfl,hb2,hb3,hX⟩
 have oa:=hb2.ko.obj hx
 have ob:=hb3.ko.obj hy
 refine jl rfl (fun hc=> ?_) (fun hc=> ?_)
 ·refine gk ?_
  refine j4 (jz rfl (gq (gp (gu rfl rfl ?_))))
  exact⟨congrArg Value.bool (by symm;rw[decide_eq_false_iff_not];intro e;subst e;exact hc ⟨rfl,rfl,rfl⟩),hX⟩
 obtain⟨hl1,hl2,hl3⟩:=Decidable.not_not.1 hc
 refine xz (qc rfl (gy rfl oa.leaves (jz rfl (gr ?_))))
 refine jm (α:=Nat) [2,3,37] rfl (fun z=>[(38,.int .i64 (z:Int))]) (fun z u=>(z≤x.leaves.length∧∀k (hk:k<x.leaves.length),k<z→x.leaves[k]=y.leaves[k]'zo)∧j0 u b2 37 (jw x a)∧j0 u b3 37 (jw y b)∧Ext No w u) (fun z u=>x.leaves.length-z) (0) rfl ⟨⟨Nat.zero_le _,fun k _ h=>absurd h (Nat.not_lt_zero _)⟩,hb2,hb3,hX⟩ ?_
 rintro i w4 ⟨⟨hi,hok⟩,hb2,hb3,hX⟩
 have oa:=hb2.ko.obj hx
 have ob:=hb3.ko.obj hy
 refine je rfl (gk (jl rfl (fun hc=> ?_) (fun hc=> ?_)))
 ·have hi:i<x.leaves.length:=by omega
  have him:i<y.leaves.length:=by omega
  obtain⟨ba,oa1,hpa,hsa⟩:=hxl.leaves.qm (fun r hr=>jf.len (hx.leaves r hr).2) zo
  obtain⟨bb,ob1,hpb,hsb⟩:=hyl.leaves.qm (fun r hr=>jf.len (hy.leaves r hr).2) zo
  have ha1:=hx.leaves _ (List.getElem_mem hi)
  have ha2:=hy.leaves _ (List.getElem_mem him)
  refine xz (gr (je rfl (gk ?_)))
  refine js rfl 11 [qP 0,qP 1,qP 2,qP 3,qP 4,qP 5,qP 6,qP 7,qP 8,qP 9,qP 10] [] (No) zk fun w5 hE5 hs5=> ?_
  have oad:=oa
  have obd:=ob
  have hXd:=hX
  have hb2:=hb2.ga hE5
  have hb3:=hb3.ga hE5
  have hX:=hX.gb hE5
  refine gv gc 1 rfl (j6 gc rfl rfl (fun w' hw'=>(oad.ga hw').leaves) ?_)
  rw[hpa]
  refine gv gc 1 rfl (qk gc rfl rfl 33 rfl i rfl zo (oa1+i*33) rfl (qf gc rfl rfl (fun w' hw'=>((hsa i hi).ga (hXd.gb hw'))) (jf.len ha1.2) ?_))
  refine gv gc 1 rfl (j6 gc rfl rfl (fun w' hw'=>(obd.ga hw').leaves) ?_)
  rw[hpb]
  refine gv gc 1 rfl (qk gc rfl rfl 33 rfl i rfl zo (ob1+i*33) rfl (qf gc rfl rfl (fun w' hw'=>((hsb i him).ga (hXd.gb hw'))) (jf.len ha2.2) ?_))
  refine yj4 rfl rfl gLeafD 10 zd kLeafD (xv3 (jf.len ha1.2)) (xv3 (jf.len ha2.2)) (leafKey ha1.1 ha1.2) (leafKey ha2.1 ha2.2) leaf_eq ?_
  simp only[Bool.false_eq_true,if_false]
  refine jj (ja (j1 (jl rfl (fun hc=> ?_) (fun hc=> ?_))))
  ·refine gk ?_
   refine j4 (jz rfl (gq (ji (gp (gp (ji (gp (gu rfl rfl ?_))))))))
   exact⟨congrArg Value.bool (by symm;rw[decide_eq_false_iff_not];intro e;subst e;exact hc rfl),hX⟩
  have hei:=Decidable.not_not.1 hc
  refine j7 (Bo rfl ?_)
  rw[kg _ zo]
  refine gm ?_
  exact jn (i+1) rfl ⟨⟨by omega,fun k hk hlt=>(by rcases Nat.lt_or_ge k i with h0|h0;exact hok k hk h0;(have e:k=i:=zo);subst e;exact hei)⟩,hb2,hb3,hX⟩ zf
 have e1:x.leaves=y.leaves:=C8 hl1 fun k hk=>hok k hk zo
 refine Bi (gk (qc rfl (gy rfl oa.parents (jz rfl (gr ?_)))))
 refine jm (α:=Nat) [2,3,55] rfl (fun z=>[(56,.int .i64 (z:Int))]) (fun z u=>(z≤x.parents.length∧∀k (hk:k<x.parents.length),k<z→x.parents[k]=y.parents[k]'zo)∧j0 u b2 37 (jw x a)∧j0 u b3 37 (jw y b)∧Ext No w u) (fun z u=>x.parents.length-z) (0) rfl ⟨⟨Nat.zero_le _,fun k _ h=>absurd h (Nat.not_lt_zero _)⟩,hb2,hb3,hX⟩ ?_
 rintro i w6 ⟨⟨hi,hok⟩,hb2,hb3,hX⟩
 have oa:=hb2.ko.obj hx
 have ob:=hb3.ko.obj hy
 refine je rfl (gk (jl rfl (fun hc=> ?_) (fun hc=> ?_)))
 ·have hi:i<x.parents.length:=by omega
  have him:i<y.parents.length:=by omega
  obtain⟨ba,oa1,hpa,hsa⟩:=hxl.parents.qm (fun r hr=>vh.len (hx.parents r hr)) zo
  obtain⟨bb,ob1,hpb,hsb⟩:=hyl.parents.qm (fun r hr=>vh.len (hy.parents r hr)) zo
  have ha1:vh _:=hx.parents _ (List.getElem_mem hi)
  have ha2:vh _:=hy.parents _ (List.getElem_mem him)
  refine xz (gr (je rfl (gk ?_)))
  refine js rfl 11 [qP 0,qP 1,qP 2,qP 3,qP 4,qP 5,qP 6,qP 7,qP 8,qP 9,qP 10] [] (No) zk fun w7 hE7 hs7=> ?_
  have oad:=oa
  have obd:=ob
  have hXd:=hX
  have hb2:=hb2.ga hE7
  have hb3:=hb3.ga hE7
  have hX:=hX.gb hE7
  refine gv gc 1 rfl (j6 gc rfl rfl (fun w' hw'=>(oad.ga hw').parents) ?_)
  rw[hpa]
  refine gv gc 1 rfl (qk gc rfl rfl 32 rfl i rfl zo (oa1+i*32) rfl (qf gc rfl rfl (fun w' hw'=>((hsa i hi).ga (hXd.gb hw'))) ha1.len ?_))
  refine gv gc 1 rfl (j6 gc rfl rfl (fun w' hw'=>(obd.ga hw').parents) ?_)
  rw[hpb]
  refine gv gc 1 rfl (qk gc rfl rfl 32 rfl i rfl zo (ob1+i*32) rfl (qf gc rfl rfl (fun w' hw'=>((hsb i him).ga (hXd.gb hw'))) ha2.len ?_))
  refine yj4 rfl rfl gId 10 zd kId (x2 ha1) (x2 ha2) (yu ha1) (yu ha2) vk ?_
  simp only[Bool.false_eq_true,if_false]
  refine jj (ja (j1 (jl rfl (fun hc=> ?_) (fun hc=> ?_))))
  ·refine gk ?_
   refine j4 (jz rfl (gq (ji (gp (gp (ji (gp (gu rfl rfl ?_))))))))
   exact⟨congrArg Value.bool (by symm;rw[decide_eq_false_iff_not];intro e;subst e;exact hc rfl),hX⟩
  have hei:=Decidable.not_not.1 hc
  refine j7 (Bo rfl ?_)
  rw[kg _ zo]
  refine gm ?_
  exact jn (i+1) rfl ⟨⟨by omega,fun k hk hlt=>(by rcases Nat.lt_or_ge k i with h0|h0;exact hok k hk h0;(have e:k=i:=zo);subst e;exact hei)⟩,hb2,hb3,hX⟩ zf
 have e2:x.parents=y.parents:=C8 hl2 fun k hk=>hok k hk zo
 refine Bi (gk (qc rfl (gy rfl oa.rows (jz rfl (gr ?_)))))
 refine jm (α:=Nat) [2,3,74] rfl (fun z=>[(75,.int .i64 (z:Int))]) (fun z u=>(z≤x.rows.length∧∀k (hk:k<x.rows.length),k<z→x.rows[k]=y.rows[k]'zo)∧j0 u b2 37 (jw x a)∧j0 u b3 37 (jw y b)∧Ext No w u) (fun z u=>x.rows.length-z) (0) rfl ⟨⟨Nat.zero_le _,fun k _ h=>absurd h (Nat.not_lt_zero _)⟩,hb2,hb3,hX⟩ ?_
 rintro i w8 ⟨⟨hi,hok⟩,hb2,hb3,hX⟩
 have oa:=hb2.ko.obj hx
 have ob:=hb3.ko.obj hy
 refine je rfl (gk (jl rfl (fun hc=> ?_) (fun hc=> ?_)))
 ·have hi:i<x.rows.length:=by omega
  have him:i<y.rows.length:=by omega
  obtain⟨ba,oa1,hpa,hsa⟩:=hxl.rows.qm (fun r _=>r.len) zo
  obtain⟨bb,ob1,hpb,hsb⟩:=hyl.rows.qm (fun r _=>r.len) zo
  have ha1:=hx.rows _ (List.getElem_mem hi)
  have ha2:=hy.rows _ (List.getElem_mem him)
  refine xz (gr (je rfl (gk ?_)))
  refine js rfl 13 [qP 0,qP 1,qP 2,qP 3,qP 4,qP 5,qP 6,qP 7,qP 8,qP 9,qP 10,qP 11,qP 12] [] (No) zk fun w9 hE9 hs9=> ?_
  have oad:=oa
  have obd:=ob
  have hXd:=hX
  have hb2:=hb2.ga hE9
  have hb3:=hb3.ga hE9
  have hX:=hX.gb hE9
  refine gv gc 2 rfl (j6 gc rfl rfl (fun w' hw'=>(oad.ga hw').rows) ?_)
  rw[hpa]
  refine gv gc 1 rfl (qk gc rfl rfl 3 rfl i rfl zo (oa1+i*3) rfl (qf gc rfl rfl (fun w' hw'=>((hsa i hi).ga (hXd.gb hw'))) rfl ?_))
  refine gv gc 2 rfl (j6 gc rfl rfl (fun w' hw'=>(obd.ga hw').rows) ?_)
  rw[hpb]
  refine gv gc 1 rfl (qk gc rfl rfl 3 rfl i rfl zo (ob1+i*3) rfl (qf gc rfl rfl (fun w' hw'=>((hsb i him).ga (hXd.gb hw'))) rfl ?_))
  refine yj4 rfl rfl gChgD 10 zd kChgD (chgForm rfl) (chgForm rfl) (chgKey ha1.1 ha1.2) (chgKey ha2.1 ha2.2) chg_eq ?_
  simp only[Bool.false_eq_true,if_false]
  refine jj (ja (j1 (jl rfl (fun hc=> ?_) (fun hc=> ?_))))
  ·refine gk ?_
   refine j4 (jz rfl (gq (ji (gp (gp (ji (gp (gu rfl rfl ?_))))))))
   exact⟨congrArg Value.bool (by symm;rw[decide_eq_false_iff_not];intro e;subst e;exact hc rfl),hX⟩
  have hei:=Decidable.not_not.1 hc
  refine j7 (Bo rfl ?_)
  rw[kg _ zo]
  refine gm ?_
  exact jn (i+1) rfl ⟨⟨by omega,fun k hk hlt=>(by rcases Nat.lt_or_ge k i with h0|h0;exact hok k hk h0;(have e:k=i:=zo);subst e;exact hei)⟩,hb2,hb3,hX⟩ zf
 have e3:x.rows=y.rows:=C8 hl3 fun k hk=>hok k hk zo
 refine Bi (jv (α:=Bool) [] rfl (fun z=>[(4,.bool z)]) (fun z u=>(z=decide (x=y))∧Ext No w u) ?_ ?_)
 ·refine j4 ?_
  refine j9 gc rfl (gy rfl oa.kind (j9 gc rfl (gy rfl ob.kind (j9 gc rfl (jo 97 rfl (fun hg=> ?_) (fun hg=> ?_))))))
  ·have t1:x.kind=y.kind:=by exact hg
   refine j2 gc 1 rfl (gy rfl oa.text (j2 gc 1 rfl (gy rfl ob.text (j2 gc 3 rfl (jo 104 rfl (fun hg=> ?_) (fun hg=> ?_))))))
   ·have t2:x.text=y.text:=by exact xj4.1 hg
    refine j2 gc 1 rfl (gy rfl oa.style (j2 gc 1 rfl (gy rfl ob.style (j2 gc 3 rfl (jo 111 rfl (fun hg=> ?_) (fun hg=> ?_))))))
    ·have t3:x.style=y.style:=by exact hg
     refine j2 gc 1 rfl (jr rfl oa.tree (vh.len hx.tree) (j2 gc 1 rfl (jr rfl ob.tree (vh.len hy.tree) ?_)))
     refine wl (yj9 rfl gId 10 zd kId (x2 hx.tree) (x2 hy.tree) (yu hx.tree) (yu hy.tree) vk ?_)
     simp only[if_true]
     refine j9 gc rfl (jo 118 rfl (fun hg=> ?_) (fun hg=> ?_))
     ·have t4:x.tree=y.tree:=by exact hg
      refine j2 gc 1 rfl (jr rfl oa.base (vh.len hx.base) (j2 gc 1 rfl (jr rfl ob.base (vh.len hy.base) ?_)))
      refine wl (yj9 rfl gId 10 zd kId (x2 hx.base) (x2 hy.base) (yu hx.base) (yu hy.base) vk ?_)
      simp only[if_true]
      refine j9 gc rfl (jo 125 rfl (fun hg=> ?_) (fun hg=> ?_))
      ·have t5:x.base=y.base:=by exact hg
       refine j2 gc 1 rfl (gy rfl oa.number (j2 gc 1 rfl (gy rfl ob.number (j2 gc 3 rfl (jo 132 rfl (fun hg=> ?_) (fun hg=> ?_))))))
       ·have t6:x.number=y.number:=by omega
        refine j2 gc 1 rfl (gy rfl oa.author (j2 gc 1 rfl (gy rfl ob.author (j2 gc 3 rfl (jo 139 rfl (fun hg=> ?_) (fun hg=> ?_))))))
        ·have t7:x.author=y.author:=by omega
         refine j2 gc 1 rfl (gy rfl oa.note (j2 gc 1 rfl (gy rfl ob.note (j2 gc 3 rfl (gm ?_)))))
         exact gz (_) rfl ⟨by rw[decide_eq_decide,xj4];exact⟨fun h=>same_iff.2 ⟨⟨t1,t2,t3,t4,t5,t6,t7,h⟩,e1,e2,e3⟩,fun h=>(same_iff.1 h).1.2.2.2.2.2.2.2⟩,hX⟩
        have n7:¬x.author=y.author:=fun e=>hg (by rw[e])
        refine j2 gc 7 rfl (gm ?_)
        exact gz (false) rfl ⟨by symm;rw[decide_eq_false_iff_not];intro e;have h:=(same_iff.1 e).1;exact n7 h.2.2.2.2.2.2.1,hX⟩
       have n6:¬x.number=y.number:=fun e=>hg (by rw[e])
       refine j2 gc 14 rfl (gm ?_)
       exact gz (false) rfl ⟨by symm;rw[decide_eq_false_iff_not];intro e;have h:=(same_iff.1 e).1;exact n6 h.2.2.2.2.2.1,hX⟩
      have n5:¬x.base=y.base:=fun e=>hg (by rw[e])
      refine j2 gc 21 rfl (gm ?_)
      exact gz (false) rfl ⟨by symm;rw[decide_eq_false_iff_not];intro e;have h:=(same_iff.1 e).1;exact n5 h.2.2.2.2.1,hX⟩
     have n4:¬x.tree=y.tree:=fun e=>hg (by rw[e])
     refine j2 gc 28 rfl (gm ?_)
     exact gz (false) rfl ⟨by symm;rw[decide_eq_false_iff_not];intro e;have h:=(same_iff.1 e).1;exact n4 h.2.2.2.1,hX⟩
    have n3:¬x.style=y.style:=fun e=>hg (by rw[e])
    refine j2 gc 35 rfl (gm ?_)
    exact gz (false) rfl ⟨by symm;rw[decide_eq_false_iff_not];intro e;have h:=(same_iff.1 e).1;exact n3 h.2.2.1,hX⟩
   have n2:¬x.text=y.text:=fun e=>hg (by rw[e])
   refine j2 gc 42 rfl (gm ?_)
   exact gz (false) rfl ⟨by symm;rw[decide_eq_false_iff_not];intro e;have h:=(same_iff.1 e).1;exact n2 h.2.1,hX⟩
  have n1:¬x.kind=y.kind:=fun e=>hg (by rw[e])
  refine j2 gc 49 rfl (gm ?_)
  exact gz (false) rfl ⟨by symm;rw[decide_eq_false_iff_not];intro e;have h:=(same_iff.1 e).1;exact n1 h.1,hX⟩
 rintro z w10 ⟨rfl,hX⟩
 refine gq (gu rfl rfl ?_)
 exact⟨rfl,hX⟩
theorem xw3 {o:jk} {a:vd} (h:qv o) {p:Option Addr} {c:Nat}:(jw o a).set (68+0) (.slice p o.parents.length c)=jw o ⟨a.lp,a.lc,p,c,a.rp,a.rc⟩:=Au h 0 _
theorem objC_rows {o:jk} {a:vd} (h:qv o) {p:Option Addr} {c:Nat}:(jw o a).set (68+1) (.slice p o.rows.length c)=jw o ⟨a.lp,a.lc,a.pp,a.pc,p,c⟩:=Au h 1 _
variable {P:Program} {f:Fs} {ops:Array Oper} {K:Act→World→Prop} {r:Dr} {k:Nat} {dn:List Nat} {env:Env} {w:World}
theorem wx_q (i:Nat) (hk:k=k.pred+1) (_:(Region.ready .any ops (mk ops.size dn)).contains i=true) (hp:Af ops r.A k.pred [(i,true)] r.pb dn=true) (h:WD P f ops K {r with m:=k.pred} [(i,true)] dn env w):WX P f ops K r k dn env w:=qe [(i,true)] k.pred (hk.trans (Nat.add_comm _ 1)) hp h
theorem xj1 (is:List Nat) (hk:k=k.pred+1) (h1:(Region.ready .any ops (mk ops.size dn)==is)=true) (h2:(is.all r.A&& !is.isEmpty)=true) (h:Alts P f ops K r k.pred dn env w is):WX P f ops K r k dn env w:=Ab is hk (by rw[h1,Bool.true_and];exact h2) h
set_option maxHeartbeats 4000000 in
theorem copy6_calls (w : World) {x : jk} {a : vd} (hx : qv x) (hxl : Bh w x a) (hlx1 : x.leaves.length < 1000000000) (hlx2 : x.parents.length < 1000000000) (hlx3 : x.rows.length < 1000000000) :
    gn prog 122 [.agg (jw x a).toArray] w fun v w' => ∃ a', v = .agg (jw x a').toArray ∧ u6 w w' x a' ∧ Ext No w w' := by
  refine gx func122 ?_
  have hX := Ext.refl No w
  refine qa (gw rfl fun b1 w1 hn1 hb1 hE1 => ?_)
  have fr1 := Nat.le_trans hX.size hn1
  have hX := hX.gb hE1
  have hb1 : j0 w1 b1 37 (jw x a) := hb1
  refine gw rfl fun b2 w2 hn2 hb2 hE2 => ?_
  have ne1_2 := j5 hb1.lt hn2
  have fr2 := Nat.le_trans hX.size hn2
  have hb1 := hb1.ga hE2
  have hX := hX.gb hE2
  refine qr (jv (α := vd) [1, 2] rfl (fun z => []) (fun z u => (u6 w u x z) ∧ j0 u b1 37 (jw x z) ∧ j0 u b2 37 (cellsOf ti37.zero) ∧ Ext No w u) ?_ ?_)
  · refine zq7 rfl 14 14 [14, 15, 16, 17, 18, 19] (No) zk fun w3 hE3 hs3 => ?_
    have hd1 := hb1
    have hb1 := hb1.ga hE3
    have hb2 := hb2.ga hE3
    have hC : Ext No _ w3 := hE3
    refine qe [qP 1, qP 2, qP 5, qP 6, qP 9, qP 10, qP 11] 7 rfl zk (gv gc 1 rfl (j6 gc rfl rfl (fun w' hw' => ((hd1.ga hw').ko.obj hx).leaves) ?_))
    refine gv gc 1 rfl (j6 gc rfl rfl (fun w' hw' => ((hd1.ga hw').ko.obj hx).parents) ?_)
    refine gv gc 2 rfl (j6 gc rfl rfl (fun w' hw' => ((hd1.ga hw').ko.obj hx).rows) ?_)
    refine xg rfl ?_
    repeat' first
      | (refine wx_q 13 rfl zq zk (gv gc 1 rfl (xg rfl ?_)))
      | (refine qe [] 0 rfl zk (jj ?_)
         have hX3 := hX.size
         have hX := hX.gb hC
         have hb1o := hb1
         refine wb rfl (xv gc hb1 rfl rfl rfl fun u hb1 hE hs => ?_)
         have hb2 := hb2.gj hE ne1_2.symm
         have hL := hL.gj hE hb1o zd
         have hP := hP.gj hE hb1o zd
         have hR := hR.gj hE hb1o zd
         have hX := hX.gh hE fr1
         have hb1 : j0 u b1 37 (jw x ⟨qL, kL, a.pp, a.pc, a.rp, a.rc⟩) := hb1
         refine wb rfl (Dg gc rfl rfl rfl ?_)
         have hb1o := hb1
         refine wb rfl (u4 gc hb1 rfl rfl (by rw [gt hx]; decide) fun u hb1 hE hs => ?_)
         have hb2 := hb2.gj hE ne1_2.symm
         have hL := hL.gj hE hb1o zd
         have hP := hP.gj hE hb1o zd
         have hR := hR.gj hE hb1o zd
         have hX := hX.gh hE fr1
         have hb1 : j0 u b1 37 (jw x ⟨qL, kL, qP, kP, a.rp, a.rc⟩) := by have h : j0 _ b1 _ ((jw x ⟨qL, kL, a.pp, a.pc, a.rp, a.rc⟩).set (68 + 0) (.slice qP x.parents.length kP)) := hb1; rw [xw3 hx] at h; exact h
         refine wb rfl (Dg gc rfl rfl rfl ?_)
         refine wb rfl (Dg gc rfl rfl rfl ?_)
         have hb1o := hb1
         refine wb rfl (u4 gc hb1 rfl rfl (by rw [gt hx]; decide) fun u hb1 hE hs => ?_)
         have hb2 := hb2.gj hE ne1_2.symm
         have hL := hL.gj hE hb1o zd
         have hP := hP.gj hE hb1o zd
         have hR := hR.gj hE hb1o zd
         have hX := hX.gh hE fr1
         have hb1 : j0 u b1 37 (jw x ⟨qL, kL, qP, kP, qR, kR⟩) := by have h : j0 _ b1 _ ((jw x ⟨qL, kL, qP, kP, a.rp, a.rc⟩).set (68 + 1) (.slice qR x.rows.length kR)) := hb1; rw [objC_rows hx] at h; exact h
         refine ja ?_
         exact gz (⟨qL, kL, qP, kP, qR, kR⟩) rfl ⟨⟨hL.own, hP.own, hR.own, (hL.older hX3).new, (hP.older hX3).new, (hR.older hX3).new⟩, hb1, hb2, hX⟩)
      | (refine xj1 [0, 4, 8] rfl zq zk ?_; refine ⟨⟨_, rfl, ?_⟩, ⟨_, rfl, ?_⟩, ⟨_, rfl, ?_⟩, trivial⟩)
      | (refine xj1 [3, 4, 8] rfl zq zk ?_; refine ⟨⟨_, rfl, ?_⟩, ⟨_, rfl, ?_⟩, ⟨_, rfl, ?_⟩, trivial⟩)
      | (refine xj1 [0, 8] rfl zq zk ?_; refine ⟨⟨_, rfl, ?_⟩, ⟨_, rfl, ?_⟩, trivial⟩)
      | (refine xj1 [0, 4] rfl zq zk ?_; refine ⟨⟨_, rfl, ?_⟩, ⟨_, rfl, ?_⟩, trivial⟩)
      | (refine xj1 [3, 8] rfl zq zk ?_; refine ⟨⟨_, rfl, ?_⟩, ⟨_, rfl, ?_⟩, trivial⟩)
      | (refine xj1 [3, 4] rfl zq zk ?_; refine ⟨⟨_, rfl, ?_⟩, ⟨_, rfl, ?_⟩, trivial⟩)
      | (refine xj1 [0] rfl zq zk ?_; refine ⟨⟨_, rfl, ?_⟩, trivial⟩)
      | (refine xj1 [3] rfl zq zk ?_; refine ⟨⟨_, rfl, ?_⟩, trivial⟩)
      | (refine xj1 [4, 8] rfl zq zk ?_; refine ⟨⟨_, rfl, ?_⟩, ⟨_, rfl, ?_⟩, trivial⟩)
      | (refine xj1 [7, 8] rfl zq zk ?_; refine ⟨⟨_, rfl, ?_⟩, ⟨_, rfl, ?_⟩, trivial⟩)
      | (refine xj1 [4] rfl zq zk ?_; refine ⟨⟨_, rfl, ?_⟩, trivial⟩)
      | (refine xj1 [7] rfl zq zk ?_; refine ⟨⟨_, rfl, ?_⟩, trivial⟩)
      | (refine xj1 [8] rfl zq zk ?_; refine ⟨⟨_, rfl, ?_⟩, trivial⟩)
      | (refine xj1 [12] rfl zq zk ?_; refine ⟨⟨_, rfl, ?_⟩, trivial⟩)
      | (refine qd gc rfl 33 rfl leafZ_c (jf.len rfl) zd zd trivial (l' := []) rfl fun b u hn hb hE hs => ⟨hC.gb hE, ?_⟩
         have hL := ku.blk (n := 0) (sz := 33) hb (Nat.le_trans hC.size hn) rfl (Nat.zero_le _)
         try have hP := hP.ga hE
         try have hR := hR.ga hE
         have hb1 := hb1.ga hE
         have hb2 := hb2.ga hE
         have hC := hC.gb hE)
      | (have hLo := hL
         refine xh gc rfl 33 48 rfl rfl rfl zd hL (Src.slice (hxl.leaves.ga (hX.gb hC)) OneC.h) zm zn (n' := x.leaves.length) (ys := x.leaves.flatMap jf.cells) (Nat.zero_add _) rfl hC fun qL kL u hL hE hC => ⟨hC, ?_⟩
         dsimp only at hL hE
         try have hP := hP.yx0 hLo.own hE zd
         try have hR := hR.yx0 hLo.own hE zd
         have hb1 := hb1.ke hLo.own hE zd
         have hb2 := hb2.ke hLo.own hE zd)
      | (refine qd gc rfl 32 rfl Ct.symm zj zd zd trivial (l' := []) rfl fun b u hn hb hE hs => ⟨hC.gb hE, ?_⟩
         have hP := ku.blk (n := 0) (sz := 32) hb (Nat.le_trans hC.size hn) rfl (Nat.zero_le _)
         try have hL := hL.ga hE
         try have hR := hR.ga hE
         have hb1 := hb1.ga hE
         have hb2 := hb2.ga hE
         have hC := hC.gb hE)
      | (have hPo := hP
         refine xh gc rfl 32 32 rfl rfl rfl zd hP (Src.slice (hxl.parents.ga (hX.gb hC)) OneC.h) zm zn (n' := x.parents.length) (ys := x.parents.flatMap ge) (Nat.zero_add _) rfl hC fun qP kP u hP hE hC => ⟨hC, ?_⟩
         dsimp only at hP hE
         try have hL := hL.yx0 hPo.own hE zd
         try have hR := hR.yx0 hPo.own hE zd
         have hb1 := hb1.ke hPo.own hE zd
         have hb2 := hb2.ke hPo.own hE zd)
      | (refine qd gc rfl 3 rfl chgZ_c rfl zd zd trivial (l' := []) rfl fun b u hn hb hE hs => ⟨hC.gb hE, ?_⟩
         have hR := ku.blk (n := 0) (sz := 3) hb (Nat.le_trans hC.size hn) rfl (Nat.zero_le _)
         try have hL := hL.ga hE
         try have hP := hP.ga hE
         have hb1 := hb1.ga hE
         have hb2 := hb2.ga hE
         have hC := hC.gb hE)
      | (have hRo := hR
         refine xh gc rfl 3 40 rfl rfl rfl zd hR (Src.slice (hxl.rows.ga (hX.gb hC)) OneC.h) zm zn (n' := x.rows.length) (ys := x.rows.flatMap ud.cells) (Nat.zero_add _) rfl hC fun qR kR u hR hE hC => ⟨hC, ?_⟩
         dsimp only at hR hE
         try have hL := hL.yx0 hRo.own hE zd
         try have hP := hP.yx0 hRo.own hE zd
         have hb1 := hb1.ke hRo.own hE zd
         have hb2 := hb2.ke hRo.own hE zd)
  rintro a' w116 ⟨hN, hb1, hb2, hX⟩
  refine qa (jh hb1 rfl (gt hx) ?_)
  have hb2o := hb2
  refine wl (j8 (l' := jw x a') gc hb2 rfl rfl (gt hx) (gt hx) OneC.h fun w117 hb2 hE117 hs117 => ?_)
  have hN := hN.gj hE117 hb2o zd zd zd
  have hX := hX.gh hE117 fr2
  refine qr (gq (qz [_] ⟨⟨b2, 0, rfl, u0 gc rfl rfl hb2.ko (gt hx)⟩, trivial⟩ ?_))
  exact ⟨a', rfl, hN, hX⟩
section
variable {W0 w w' w1 w2:World} {rb b5:Nat} {o:jk} {a:vd} {s s':Ds}
end
end Go.Proofs.YtpdiphfjmepijaaGreatDoor
