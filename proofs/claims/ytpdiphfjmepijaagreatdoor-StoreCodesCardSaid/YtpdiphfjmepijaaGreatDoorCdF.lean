/-
  Walks and laws towards: the bytes of batches, and the batch of whatever bytes (StoreCodes)
-/
import Derived.Test.YtpdiphfjmepijaaGreatDoorCdE
open List renaming flatMap_append→bC,mem_map→bN,length_replicate→bS,map_append→bX,getElem?_map→cE,getElem?_eq_some_iff→cY,take_left'→dG,flatMap_cons→dI,mem_cons_of_mem→dJ,map_cons→dL,filter_cons_of_neg→dM,mem_of_mem_drop→dO
open Bool renaming and_eq_true→bV
open Int renaming toNat_natCast→cC,natCast_nonneg→dN
open Nat renaming lt_of_lt_of_eq→cV
namespace Go.Proofs.YtpdiphfjmepijaaGreatDoor
open Go.Proofs.Tryz
open Go.Vc
def Wl.fresh (D:ku) (a:Nat):Wl:=⟨D,a,0,[[]],1,false⟩
def LogOf (w0 w':World) (d:Nat) (F':Nat→Prop) (xo:Option Addr) (W:Wl):Prop:=∃x H,xo=some ⟨x,0,none⟩∧ye w' x d H W∧∀y,H y→w0.heap.size≤y∧¬F' y
theorem nil_piece (u:World) (H:Nat→Prop):yq u H (.slice none 0 0) []:=⟨none,0,rfl,aD _,Sl.nil _ _ _,fun _ _ e=>by cases e⟩
theorem format_calls (w:World) {d m:Nat} {F:Nat→Prop} {D:ku} (h:At w d F D) (hok:D.Ok m) (hm:m+7000<1000000000) (area:Int) (har: -9223372036854775808≤area∧area<9223372036854775808) (hr:Rt w) (hF0:¬F 0):
  gn prog 23 [.pointer (some ⟨d,0,none⟩),.int .i64 area] w fun v w'=>∃(xo:Option Addr) (F':Nat→Prop),v= .tuple #[.pointer xo,.int .i64 (vw D area).2]∧At w' d F' (vw D area).1∧Ext F w w'∧(∀y,F' y→F y∨w.heap.size≤y)∧((vw D area).2≠0→xo=none)∧((vw D area).2=0→LogOf w w' d F' xo (Wl.fresh (vw D area).1 area.toNat)):=by
 refine gx func23 ?_
 have g:=Ext.refl F w
 have M:=h.lt
 have af:=hr.lt
 refine jd rfl (gl (jd rfl (up rfl (x3 (ki rfl ?_)))))
 refine kg rfl ⟨⟨rfl,by decide⟩,⟨rfl,by decide⟩,trivial⟩ (l':=[.pointer (some ⟨d,0,none⟩),.int .i64 area]) rfl (gw rfl fun b6 w1 a3 f A=> ?_)
 have a4:=aA g.size a3
 have h:=h.ga A
 have hr:=Rt.ext hr A id
 have g:=g.gb A
 have r:¬F b6:=fun e=>by have:=M _ e;omega
 refine wl (j4 (l':=[.pointer (some ⟨d,0,none⟩),.int .i64 area]) gc f rfl rfl rfl rfl OneC.h fun w2 f N ag=> ?_)
 have h:=h.ext N fun x hx e=>by have e:x=b6:=e;subst e;exact r hx
 have hr:=Rt.ext hr N fun e=>by have e:0=b6:=e;omega
 have g:=g.gi N a4
 refine qq (gl (ko (je f rfl rfl (gh call70 rfl (fits_calls w2 h area har) fun v3 w3 a5=> ?_))))
 obtain⟨rfl,I⟩:=a5
 have f:=f.ga I
 have h:=h.ga I
 have hr:=Rt.ext hr I id
 have g:=g.gb I
 refine km rfl (ud rfl (fun s=> ?_) (fun s=> ?_))
 ·have j:¬(0≤area∧Bw area.toNat D.secs.length):=fun h=>by rw[bQ h] at s;cases s
  have he:=formatW_no j
  rw[he]
  refine jd rfl (j9 (j7 (qe [_,_] ⟨rfl,rfl,trivial⟩ ?_)))
  exact⟨none,F,rfl,h,g,fun y B=> .inl B,fun _=>rfl,fun e=>absurd (show(2:Int)=0 from e) zd⟩
 have j:0≤area∧Bw area.toNat D.secs.length:=by simpa using s
 obtain⟨a,rfl⟩:∃a:Nat,area=(a:Int):=⟨area.toNat,by omega⟩
 rw[cC] at j
 have j:=j.2
 have ah:=j.1
 have ai:=j.2.1
 have hW:=formatW_yes j
 rw[cC]
 obtain⟨y,B⟩:∃y,y=Br D 0 (List.replicate (2+2*a) zeros):=⟨_,rfl⟩
 have S:=yx7 (List.replicate (2+2*a) zeros) 0 hok (zeros_rep _)
 rw[bS,←B] at S
 rw[←B] at hW
 refine x3 (gl (jr rfl 7 [qP 0,qP 1,qP 2,qP 3,(4,false),(5,false),qP 6] [] (F) zk fun w4 C aj=> ?_))
 have a6:=f
 have f:=f.ga C
 have h:=h.ga C
 have hr:=Rt.ext hr C id
 have g:=g.gb C
 have hC:Ext (F) _ w4:=C.no
 refine qa gc rfl rfl (fun w' a7=>((a6.ext a7 r).kj)) rfl ?_
 refine gt gc 3 rfl ?_
 rw[show IntKind.i64.wrap (2+IntKind.i64.wrap (2*(a:Int)))=((2+2*a:Nat):Int) from by rw[jz (2*(a:Int)) zo,jz _ zo];omega]
 have a8:=g
 refine jo rfl (j1 call72 rfl (blank_calls w4 (2+2*a)) fun v5 w5 T=>⟨(by obtain⟨bb,rfl,a9,O,l⟩:=T;exact hC.gb l),?_⟩)
 obtain⟨bb,rfl,a9,O,l⟩:=T
 have f:=f.ga l
 have h:=h.ga l
 have hr:=Rt.ext hr l id
 have g:=g.gb l
 have hC:=hC.gb l
 have aa:=g.size
 have l6:=f.lt
 have lr:=hr.lt
 refine jo rfl (j1 call71 rfl (xx7 w5 (n:=a) (L:=List.replicate (2+2*a) zeros) (own:=One bb) h hok (by rw[bS];omega) 0 zd (zeros_rep _) call145 (fun w1 A=>by rw[bS];exact blank1_iter w1 (O.ga A) zo) (fun x e=>by have e:x=bb:=e;subst e;exact⟨O.lt,fun e=>by have:=M _ e;have:=a8.size;omega⟩)) fun v6 w6 U=>⟨(by obtain⟨rfl,F2,P,E,k⟩:=U;exact hC.then E),?_⟩)
 obtain⟨rfl,F2,P,E,k⟩:=U
 have f:=f.ext E r
 have g:=g.then E
 have r:=Al r l6 k
 have hr:=Rt.ext hr E hF0
 have hF0:=Al hF0 lr k
 rw[←B] at P⊢
 have k:=A3 (fun x=> .inl) aa k
 refine gt gc 1 rfl (jg (j5 (jp ?_)))
 refine ji (α:=(Nat→Prop)×ku×Int) [6] rfl (fun z=>[(7,.int .i64 z.2.2)]) (fun z u=>((z.2.1,z.2.2)=vw D (a:Int)∧At u d z.1 z.2.1∧(∀x,z.1 x→F x∨w.heap.size≤x))∧gz u b6 155 ([.pointer (some ⟨d,0,none⟩),.int .i64 (a:Int)])∧Ext F w u) ?_ ?_
 ·refine gl ?_
  refine gy (km rfl (jl rfl (fun s=> ?_) (fun s=> ?_)))
  ·refine gy ?_
   refine je f rfl rfl ?_
   have ab:=g.size
   refine gh call73 rfl (begin_calls w6 (n:=a) (t:=0) (b:=[]) (c:=0) (p:=none) P S zo zo zd (Sl.nil _ _ _) zd hr hF0) fun v7 w7 ac=> ?_
   obtain⟨rfl,F4,h4,V,W⟩:=ac
   have f:=f.ext V r
   have g:=g.trans V fun x hx e=>(k x e).resolve_right zo
   refine j0 gc rfl (gk ?_)
   exact gr (F4,(Av y.1 0 a []).1,(Av y.1 0 a []).2) rfl ⟨⟨by rw[hW,aP (fun h=>h s)],h4,A3 k ab W⟩,f,g⟩
  refine kc ?_
  exact gr (F2,y.1,y.2) rfl ⟨⟨by rw[hW,aR s],P,k⟩,f,g⟩
 rintro⟨G,D1,e⟩ w8 ⟨⟨X,Q,hG⟩,f,g⟩
 refine gl (jd rfl (jl rfl (fun s=> ?_) (fun s=> ?_)))
 ·refine gl ?_
  refine gy (vr rfl (j7 (qe [_,_] ⟨rfl,rfl,trivial⟩ ?_)))
  rw[←X]
  exact⟨none,G,rfl,Q,g,hG,fun _=>rfl,fun e=>absurd e s⟩
 refine kc ?_
 refine jp (ko (je f rfl rfl ?_))
 have Y:=Q.lt
 refine wl (qi gc rfl 1 rfl rfl rfl zd zd zt (l':=[.slice none 0 0]) rfl fun J w9 Z o R ak=> ?_)
 have a0:=aA g.size Z
 have Q:=Q.ga R
 have g:=g.gb R
 refine kg rfl ⟨⟨rfl,by decide⟩,⟨rfl,by decide⟩,⟨rfl,by decide⟩,trivial⟩ (l':=[.pointer (some ⟨d,0,none⟩),.int .i64 (a:Int),.int .u32 0,.slice (some ⟨J,0,none⟩) 1 1,.int .i64 1,.bool false]) rfl ?_
 refine gw rfl fun K ad a1 q H=> ?_
 have a2:=aA g.size a1
 have o:=o.ga H
 have Q:=Q.ga H
 have g:=g.gb H
 have q:gz ad K 162 ([.pointer (some ⟨d,0,none⟩),.int .i64 (a:Int),.int .u32 0,.slice (some ⟨J,0,none⟩) 1 1,.int .i64 1,.bool false]):=q
 refine vr rfl (qe [_,_] ⟨rfl,rfl,trivial⟩ ?_)
 have ae:e=0:=aS.1 s
 subst ae
 rw[←X]
 refine⟨some ⟨K,0,none⟩,G,rfl,Q,g,hG,fun e=>absurd rfl e,fun _=>⟨K,fun y=>y=K∨y=J,rfl,⟨⟨some ⟨J,0,none⟩,1,[.slice none 0 0],q,Own.blk o 1 (n:=1) (c:=1) rfl (aD _) zd,⟨rfl,fun i b v h1 P=> ?_⟩,fun y B=> .inr (own1 B)⟩,.inl rfl,fun y B=> ?_⟩,fun y B=> ?_⟩⟩
 ·have hi:i=0:=by have:=(cY.1 h1).1;simpa [Wl.fresh] using this
  subst hi
  simp[Wl.fresh] at h1 P
  subst h1 P
  exact nil_piece _ _
 ·rcases B with rfl|rfl
  ·exact q.lt
  exact o.lt
 rcases B with rfl|rfl
 ·exact⟨a2,fun e=>by have:=Y _ e;have:=R.size;omega⟩
 exact⟨a0,fun e=>by have:=Y _ e;omega⟩
theorem sectN_zero {n:Nat}:kw n=0↔40000<n:=by unfold kw;split<;>omega
def yw (w w':World) (q:Option Addr) (k:Nat) (b:Bytes):Prop:=b.length≤k∧ux w' q b∧∀y off,q=some ⟨y,off,none⟩→w.heap.size≤y∧TyB w' y 5
def LiesQ (w w':World) (o:Option Bytes) (v:Value):Prop:=match o with
  |none=>v= .tuple #[.slice none 0 0,.bool false]
  |some b=>∃q k,v= .tuple #[.slice q b.length k,.bool true]∧yw w w' q k b
theorem yw.ga {w u u':World} {q:Option Addr} {k:Nat} {b:Bytes} (h:yw w u q k b) (hE:Ext No u u'):yw w u' q k b:=⟨h.1,h.2.1.ga hE,fun y off e=>⟨(h.2.2 y off e).1,(h.2.2 y off e).2.ext hE id⟩⟩
theorem yw.xw9 {w u u':World} {q:Option Addr} {k x T:Nat} {b:Bytes} {L:List Value} (h:yw w u q k b) (hE:Ext (One x) u u') (hx:gz u x T L) (hT:5≠T):yw w u' q k b:=
 have key:∀y off,q=some ⟨y,off,none⟩→¬One x y:=fun y off e h'=>((h.2.2 y off e).2.ne hx hT) h'
 ⟨h.1,h.2.1.ext hE key,fun y off e=>⟨(h.2.2 y off e).1,(h.2.2 y off e).2.ext hE (key y off e)⟩⟩
theorem yw.ext {S:Nat→Prop} {w u u':World} {q:Option Addr} {k:Nat} {b:Bytes} (h:yw w u q k b) (hE:Ext S u u') (hS:∀y,TyB u y 5→¬S y):yw w u' q k b:=
 ⟨h.1,h.2.1.ext hE fun y off e=>hS y (h.2.2 y off e).2,fun y off e=>⟨(h.2.2 y off e).1,(h.2.2 y off e).2.ext hE (hS y (h.2.2 y off e).2)⟩⟩
theorem allB_take {L:List Bytes} {i:Nat} (h:i<L.length):yz1 (L.take (i+1))=yz1 (L.take i)++(L[i]).drop 16:=by
 rw[aQ h,yz1,bC]
 simp[yz1]
theorem allB_len {L:List Bytes} (hL:∀b∈L,b.length=64) {i:Nat} (h:i≤L.length):(yz1 (L.take i)).length=48*i:=by
 induction i with
 |zero=>simp[yz1]
 |succ i ih=>
  rw[allB_take zo,aB,ih zo,aX,hL _ (aG _)]
  omega
theorem liesB_no {L:List Bytes} (h0:0<L.length) (t n:Nat) (h:40000<yk L[0]∨L.length<kw (yk L[0])):zx0 L t n=none:=by
 cases L with
 |nil=>simp at h0
 |cons s r=>exact aR h
theorem liesB_yes {L:List Bytes} (h0:0<L.length) (t n:Nat) (h:¬(40000<yk L[0]∨L.length<kw (yk L[0]))):
  zx0 L t n=if vk t n (((yz1 (L.take (kw (yk L[0])))).drop 4).take (yk L[0]))=L.take (kw (yk L[0])) then some (((yz1 (L.take (kw (yk L[0])))).drop 4).take (yk L[0])) else none:=by
 cases L with
 |nil=>simp at h0
 |cons s r=>exact aP h
def LieJ (L:List Bytes) (t n:Nat) (b:Bytes) (b6 b7 b15:Nat) (k:Nat) (u:World):Prop:=
  gz u b15 3 [.int .i64 (k:Int)]∧(∃v,gz u b6 41 [v])∧(∃v,gz u b7 4 [v])∧∀j,j<k→C1 t n b j=L.getD j []
def LieX (L:List Bytes) (t n:Nat) (b:Bytes) (b6 b7 b15 k:Nat) (c:Code) (u:World):Prop:=
  c= .ret∧b15<u.heap.size∧gz u b6 41 [.slice none 0 0]∧gz u b7 4 [.bool false]∧C1 t n b k≠L.getD k []
def lieC (w:World) (L:List Bytes) (t n:Nat) (b:Bytes) (b6 b7 b15:Nat):CoS Unit w where
  Fp:=fun _ x=>x=b6∨x=b7∨x=b15
  J:=fun k _ u=>LieJ L t n b b6 b7 b15 k u
  Jx:=fun k c _ u=>LieX L t n b b6 b7 b15 k c u
  st:=by
    rintro k z S u u' ⟨h1,⟨v,h2⟩,⟨v',h3⟩,h4⟩ hE hS
    exact⟨h1.ext hE fun e=>(hS _ e).2 (.inr (.inr rfl)),⟨v,h2.ext hE fun e=>(hS _ e).2 (.inl rfl)⟩,⟨v',h3.ext hE fun e=>(hS _ e).2 (.inr (.inl rfl))⟩,h4⟩
  stx:=by
    rintro k c z S u u' ⟨h1,h2,h3,h4,h5⟩ hE hS
    exact⟨h1,aM h2 hE.size,h3.ext hE fun e=>(hS _ e).2 (.inl rfl),h4.ext hE fun e=>(hS _ e).2 (.inr (.inl rfl)),h5⟩
  lt:=by
    rintro k z u ⟨h1,⟨v,h2⟩,⟨v',h3⟩,h4⟩ x (rfl|rfl|rfl)
    ·exact h2.lt
    ·exact h3.lt
    ·exact h1.lt
  ltx:=by
    rintro k c z u ⟨h1,h2,h3,h4,h5⟩ x (rfl|rfl|rfl)
    ·exact h3.lt
    ·exact h4.lt
    ·exact h2
theorem lies_calls (w:World) {p:Option Addr} {c t n:Nat} {L:List Bytes} (hs:Sl w p L.length 64 (L.flatMap ge)) (hL:∀b∈L,b.length=64) (hc:L.length≤c) (hLl:L.length≤100000) (ht:t<4294967296) (hn:n<4294967296) (hr:Rt w):
  gn prog 136 [.slice p L.length c,.int .u32 (t:Int),.int .u32 (n:Int)] w fun v w'=>LiesQ w w' (zx0 L t n) v∧Ext No w w':=by
 refine Db func136 rfl rfl rfl rfl ?_
 have hX:=Ext.refl No w
 have hr0:=hr.lt
 refine ko (gw rfl fun b3 w1 hn3 hb3 hE1=> ?_)
 have fr3:=aA hX.size hn3
 have hr:=Rt.ext hr hE1 id
 have hX:=hX.gb hE1
 have hb3:gz w1 b3 216 ([.slice p L.length c]):=hb3
 refine gw rfl fun b6 w2 hn6 hb6 hE2=> ?_
 have ne3_6:=j2 hb3.lt hn6
 have fr6:=aA hX.size hn6
 have hb3:=hb3.ga hE2
 have hr:=Rt.ext hr hE2 id
 have hX:=hX.gb hE2
 have hb6:gz w2 b6 41 ([.slice none 0 0]):=hb6
 refine gw rfl fun b7 w3 hn7 hb7 hE3=> ?_
 have ne3_7:=j2 hb3.lt hn7
 have ne6_7:=j2 hb6.lt hn7
 have fr7:=aA hX.size hn7
 have hb3:=hb3.ga hE3
 have hb6:=hb6.ga hE3
 have hr:=Rt.ext hr hE3 id
 have hX:=hX.gb hE3
 have hb7:gz w3 b7 4 ([.bool false]):=hb7
 refine qq (gl (ko ?_))
 have hN0:=hX
 refine j6 hb3 rfl rfl (km rfl (jl rfl (fun hc=> ?_) (fun hc=> ?_)))
 ·have hL0:L=[]:=aZ zo
  refine ko (kl hb6 rfl rfl rfl fun w4 hb6 hE4 hs4=> ?_)
  have hb3:=hb3.gj hE4 ne3_6
  have hb7:=hb7.gj hE4 ne6_7.symm
  have hr:=Rt.ext hr hE4 fun e=>by have e:0=b6:=e;omega
  have hX:=hX.gi hE4 fr6
  refine kl hb7 rfl rfl rfl fun w5 hb7 hE5 hs5=> ?_
  have hb3:=hb3.gj hE5 ne3_7
  have hb6:=hb6.gj hE5 ne6_7
  have hr:=Rt.ext hr hE5 fun e=>by have e:0=b7:=e;omega
  have hX:=hX.gi hE5 fr7
  refine qq (j9 (j7 (De [] List.nodup_nil (fun _ h=>(by cases h)) [.slice none 0 0,.bool false] (fun w20 hE20=> ?_) (.inl rfl))))
  refine⟨⟨⟨b6,0,rfl,zx3 gc rfl rfl ((hb6.ext hE20 (fun e=>by cases e)).cell rfl)⟩,⟨b7,0,rfl,zx3 gc rfl rfl ((hb7.ext hE20 (fun e=>by cases e)).cell rfl)⟩,trivial⟩,?_⟩
  exact⟨by rw[hL0];rfl,hX.trans hE20 fun x _ e=>by cases e⟩
 have hpos:0<L.length:=by omega
 obtain⟨pb,po,rfl,hsg⟩:=hs.qd (fun r hr=>qj (hL r hr)) hpos
 have hpb:pb<w.heap.size:=(hsg 0 hpos).lt (fun e=>by have:=congrArg List.length e;rw[qj (hL _ (aG _))] at this;cases this)
 obtain⟨s0,hs0⟩:∃s0,s0=L[0]:=⟨_,rfl⟩
 have hs64:s0.length=64:=by rw[hs0];exact hL _ (aG _)
 have hsg:=fun i hi=>(hsg i hi).ga hN0
 refine x3 (ko (j6 hb3 rfl rfl (ka rfl 64 rfl 0 rfl hpos (po+0*64) rfl (wl (st_sa gc rfl 16 20 64 1 rfl ⟨.inr ⟨rfl,rfl⟩,.inl rfl,.inl rfl,by decide,by decide,by decide⟩ ?_)))))
 rw[yr zd]
 obtain⟨l4,hl4⟩:∃l4,l4=(s0.drop 16).take 4:=⟨_,rfl⟩
 have hll4:l4.length=4:=by rw[hl4,aL,aX];omega
 have hsl4:ux w3 (some ⟨pb,po+0*64+16*1,none⟩) l4:=⟨by rw[gm,bE],.inr ⟨pb,_,rfl,by
  have e:=((hsg 0 hpos).drop 16).take 4
  rw[←hs0,uk,ui,←hl4] at e
  exact e⟩⟩
 rw[show Value.slice (some ⟨pb,po+0*64+16*1,none⟩) (20-16) (64-16)= .slice (some ⟨pb,po+0*64+16*1,none⟩) l4.length 48 from by rw[hll4]]
 have l3:=hb3.lt
 have l6:=hb6.lt
 have l7:=hb7.lt
 have hXr:=hX.size
 refine gh call101 rfl (zx5 w3 hsl4 zo) fun v6 w6 hr6=> ?_
 obtain⟨rb,rfl,hnr,hR,hE6⟩:=hr6
 have hb3:=hb3.ga hE6
 have hb6:=hb6.ga hE6
 have hb7:=hb7.ga hE6
 have hr:=Rt.ext hr hE6 id
 have hsg:=fun i hi=>(hsg i hi).ga hE6
 have hX:=hX.gb hE6
 refine km rfl (ki rfl ?_)
 have hoff:(vn l4 0 4).1=l4:=by rw[vn,aP zd,aP zd,aP zo];exact aO (by rw[hll4];decide)
 refine gh call171 rfl (zw8 w6 hR zo) fun v7 w7 hr7=> ?_
 obtain⟨rfl,_,hE7⟩:=hr7
 have hb3:=hb3.gj hE7 zo
 have hb6:=hb6.gj hE7 zo
 have hb7:=hb7.gj hE7 zo
 have hX:=hX.gi hE7 zo
 have hsg:=fun i hi=>(hsg i hi).ext hE7 (fun e=>by have e:pb=rb:=e;omega)
 have hr:=Rt.ext hr hE7 (fun e=>by have e:0=rb:=e;omega)
 rw[hoff]
 obtain⟨many,hmany⟩:∃many,many=num l4:=⟨_,rfl⟩
 have hmlt:many<4294967296:=by have:=ub l4;rw[hll4] at this;rw[hmany];exact this
 have hmB:yk L[0]=many:=by rw[hmany,hl4,hs0];rfl
 rw[←hmany]
 refine j0 gc rfl ?_
 rw[jz (many:Int) zo]
 refine km rfl (ki rfl (gh call65 rfl (xb w7 (many:Int)) fun v8 w8 hr8=> ?_))
 obtain⟨rfl,hE8⟩:=hr8
 have hb3:=hb3.ga hE8
 have hb6:=hb6.ga hE8
 have hb7:=hb7.ga hE8
 have hr:=Rt.ext hr hE8 id
 have hsg:=fun i hi=>(hsg i hi).ga hE8
 have hX:=hX.gb hE8
 rw[B8]
 refine km rfl (gl (ji (α:=Bool) [1,2,3,6,7,9,10] rfl (fun z=>[(36,.bool z)]) (fun z u=>u=w8∧z=decide (40000<many∨L.length<kw many)) ?_ ?_))
 ·refine gy ?_
  refine j0 gc rfl (ja 31 rfl (fun hg=> ?_) (fun hg=> ?_))
  ·have h40:=sectN_zero.1 (show kw many=0 by omega)
   refine gq gc 5 rfl (gk ?_)
   exact gr (true) rfl ⟨rfl,by symm;rw[decide_eq_true_iff];exact .inl h40⟩
  have h40:¬40000<many:=fun h=>hg (by rw[sectN_zero.2 h];rfl)
  refine gq gc 1 rfl (j6 hb3 rfl rfl (gq gc 3 rfl (gk ?_)))
  exact gr (_) rfl ⟨rfl,by rw[aH];omega⟩
 rintro z w9 ⟨hu,rfl⟩
 have hu:=hu.symm
 subst hu
 refine jl rfl (fun hc=> ?_) (fun hc=> ?_)
 ·have hno:=liesB_no hpos t n (by rw[hmB];exact hc)
  refine ko (kl hb6 rfl rfl rfl fun w10 hb6 hE10 hs10=> ?_)
  have hb3:=hb3.gj hE10 ne3_6
  have hb7:=hb7.gj hE10 ne6_7.symm
  have hr:=Rt.ext hr hE10 fun e=>by have e:0=b6:=e;omega
  have hsg:=fun i hi=>(hsg i hi).ext hE10 (fun e=>by have e:pb=b6:=e;omega)
  have hX:=hX.gi hE10 fr6
  refine kl hb7 rfl rfl rfl fun w11 hb7 hE11 hs11=> ?_
  have hb3:=hb3.gj hE11 ne3_7
  have hb6:=hb6.gj hE11 ne6_7
  have hr:=Rt.ext hr hE11 fun e=>by have e:0=b7:=e;omega
  have hsg:=fun i hi=>(hsg i hi).ext hE11 (fun e=>by have e:pb=b7:=e;omega)
  have hX:=hX.gi hE11 fr7
  refine qq (j9 (j7 (De [] List.nodup_nil (fun _ h=>(by cases h)) [.slice none 0 0,.bool false] (fun w20 hE20=> ?_) (.inl rfl))))
  refine⟨⟨⟨b6,0,rfl,zx3 gc rfl rfl ((hb6.ext hE20 (fun e=>by cases e)).cell rfl)⟩,⟨b7,0,rfl,zx3 gc rfl rfl ((hb7.ext hE20 (fun e=>by cases e)).cell rfl)⟩,trivial⟩,?_⟩
  exact⟨by rw[hno];rfl,hX.trans hE20 fun x _ e=>by cases e⟩
 have hyes:=liesB_yes hpos t n (by rw[hmB];exact hc)
 rw[hmB] at hyes
 have hm4:many≤40000:=by omega
 obtain⟨K,hK⟩:∃K,K=kw many:=⟨_,rfl⟩
 have hKl:K≤L.length:=by omega
 have hroom:=xw7 hm4
 rw[←hK] at hyes hroom⊢
 have hK8:K≤834:=by rw[hK];exact zx6 _
 refine x3 (jd rfl (gl (ko (j6 hb3 rfl rfl (j0 gc rfl ?_)))))
 refine wl (zv gc rfl 0 K c 64 rfl (.inr ⟨rfl,rfl⟩) (.inl rfl) (.inr ⟨rfl,rfl⟩) (aJ _) zo (aD _) ?_)
 dsimp only
 rw[jw,bB]
 refine km rfl (j8 ?_)
 refine jj (α:=Nat×Option Addr×Nat) [1,2,3,6,7,9,39,40] rfl (fun z=>[(11,.slice z.2.1 (48*z.1) z.2.2),(41,.int .i64 (z.1:Int))]) (fun z u=>(z.1≤K∧Own u z.2.1 (48*z.1) z.2.2 5 1 (ge (yz1 (L.take z.1)))∧(∀y,jb z.2.1 y→w.heap.size≤y)∧(∀i (hi:i<L.length),Seg u pb (po+i*64) (ge L[i]))∧Rt u)∧gz u b3 216 ([.slice (some ⟨pb,po,none⟩) L.length c])∧gz u b6 41 ([.slice none 0 0])∧gz u b7 4 ([.bool false])∧Ext No w u) (fun z u=>K-z.1) (0,none,0) rfl ⟨⟨aJ _,Own.nil _ _ _,fun y hy=>(by cases hy),hsg,hr⟩,hb3,hb6,hb7,hX⟩ ?_
 rintro⟨i,q,k⟩ w12 ⟨⟨hi,hq,hqn,hsg,hr⟩,hb3,hb6,hb7,hX⟩
 try dsimp only
 dsimp only at hi hq hqn
 refine jd rfl (gl (jl rfl (fun hc=> ?_) (fun hc=> ?_)))
 ·have hiK:i<K:=by omega
  have hiL:i<L.length:=by omega
  have hi64:=hL _ (aG hiL)
  have hqlt:=fun y (hy:jb q y)=>hq.lt hy
  refine Ac (ko (ka rfl 64 rfl i rfl hiK (po+i*64) rfl (jm rfl (hsg i hiL) (qj hi64) ?_)))
  have hsz0:=hX.size
  refine gw rfl fun b13 w13 hn13 hb13 hE13=> ?_
  have ne3_13:=j2 hb3.lt hn13
  have ne6_13:=j2 hb6.lt hn13
  have ne7_13:=j2 hb7.lt hn13
  have fr13:=aA hX.size hn13
  have hb3:=hb3.ga hE13
  have hb6:=hb6.ga hE13
  have hb7:=hb7.ga hE13
  have hr:=Rt.ext hr hE13 id
  have hsg:=fun i hi=>(hsg i hi).ga hE13
  have hq:=hq.ext hE13 fun _ _=>id
  have hX:=hX.gb hE13
  refine wl (j4 (l':=ge L[i]) gc hb13 rfl rfl (qj hi64) (by rw[qj hi64];rfl) OneC.h fun w14 hb13 hE14 hs14=> ?_)
  have hb3:=hb3.gj hE14 ne3_13
  have hb6:=hb6.gj hE14 ne6_13
  have hb7:=hb7.gj hE14 ne7_13
  have hr:=Rt.ext hr hE14 fun e=>by have e:0=b13:=e;omega
  have hsg:=fun i hi=>(hsg i hi).ext hE14 (fun e=>by have e:pb=b13:=e;omega)
  have hq:=hq.ext hE14 fun y hy e=>by have e:y=b13:=e;have:=hqlt y hy;omega
  have hX:=hX.gi hE14 fr13
  refine qq (yl rfl (wl (st_sa gc rfl 16 64 64 1 rfl ⟨.inr ⟨rfl,rfl⟩,.inr ⟨rfl,rfl⟩,.inl rfl,by decide,by decide,by decide⟩ ?_)))
  rw[yr zd]
  have hsr:Sl w14 (some ⟨b13,0+16*1,none⟩) 48 1 (ge ((L[i]).drop 16)):=⟨by rw[gm,aX,hi64],.inr ⟨b13,_,rfl,by have e:=hb13.kj.drop 16;rw[uk] at e;exact e⟩⟩
  have hXq:=hX.size
  have nq3:¬jb q b3:=fun e=>(Own.ty hq e).ne hb3 zd rfl
  have nq6:¬jb q b6:=fun e=>(Own.ty hq e).ne hb6 zd rfl
  have nq7:¬jb q b7:=fun e=>(Own.ty hq e).ne hb7 zd rfl
  refine wl (va gc rfl 1 1 rfl rfl rfl zd hq (Src.slice hsr OneC.h) zm zn fun p15 c15 w15 ho15 hE15 hB15=> ?_)
  have hb3:=hb3.ext hE15 fun e=>nq3 e
  have hb6:=hb6.ext hE15 fun e=>nq6 e
  have hb7:=hb7.ext hE15 fun e=>nq7 e
  have hX:=hX.trans hE15 fun y hy e=>by have:=hqn y e;omega
  have hsg:=fun j hj=>(hsg j hj).ext hE15 fun e=>by have:=hqn _ e;omega
  have hr:=Rt.ext hr hE15 fun e=>by have:=hqn _ e;omega
  have hqn2:∀y,jb p15 y→w.heap.size≤y:=fun y hy=>(hB15 y hy).elim (hqn y) fun e=>by omega
  have hq2:Own w15 p15 (48*(i+1)) c15 5 1 (ge (yz1 (L.take (i+1)))):=by
   rw[allB_take hiL,kz,show 48*(i+1)=48*i+48 from by omega]
   exact ho15
  dsimp only
  rw[show 48*i+48=48*(i+1) from by omega]
  refine j0 gc rfl (gk (Aa rfl ?_))
  rw[jz _ zo]
  refine gk ?_
  exact jk (i+1,p15,c15) rfl ⟨⟨hiK,hq2,hqn2,hsg,hr⟩,hb3,hb6,hb7,hX⟩ zf
 have hiK:i=K:=by omega
 subst hiK
 have hKl0:i≤L.length:=hKl
 refine Ak (ki rfl ?_)
 rw[jz _ zo]
 rw[show(4:Int)+(many:Int)=((4+many:Nat):Int) from by omega]
 have hal:=allB_len hL hKl0
 obtain⟨A,hA⟩:∃A,A=yz1 (L.take i):=⟨_,rfl⟩
 obtain⟨b,hb⟩:∃b,b=(A.drop 4).take many:=⟨_,rfl⟩
 rw[←hA] at hal hyes hq
 have hbl:b.length=many:=by rw[hb,aL,aX];omega
 rw[←hb] at hyes
 have hsq:=hq.sl
 rw[←hal] at hsq
 have hsb:ux w12 (u6 q 4 (4+many) 1) b:=by
  have e:=Sl.slice hsq 4 (4+many) (4+many) zo (aD _) zo
  rw[bE,bE,uk,ui,show 4+many-4=many from by omega,←hb] at e
  rw[ux,hbl]
  exact e
 have hqb:∀y off,u6 q 4 (4+many) 1=some ⟨y,off,none⟩→jb q y:=fun y off e=>by
  obtain⟨bq,lq,hq1,_⟩:∃bq lq,q=some ⟨bq,0,none⟩∧gz w12 bq 5 lq:=by
   rcases hq with⟨_,h0,_⟩|⟨bq,lq,h1,h2,_⟩
   ·omega
   exact⟨bq,lq,h1,h2⟩
  obtain⟨off',e'⟩:=yw2 e (fun x o sp e=>by rw[hq1] at e;cases e;rfl)
  rw[hq1] at e'
  cases e'
  exact hq1
 have hqty:∀y,jb q y→TyB w12 y 5:=fun y hy=>Own.ty hq hy
 refine wl (zv gc rfl 4 (4+many) (4+many) 1 rfl (.inl ⟨rfl,rfl⟩) (.inl rfl) (.inl rfl) zo (aD _) (by have:=hq.cap;dsimp only;omega) ?_)
 dsimp only
 obtain⟨qb,hqbd⟩:∃qb,qb=u6 q 4 (4+many) 1:=⟨_,rfl⟩
 rw[←hqbd] at hsb hqb⊢
 rw[show 4+many-4=b.length from by omega]
 have hpn:yw w w12 qb b.length b:=⟨aD _,hsb,fun y off e=>⟨hqn y (hqb y off e),hqty y (hqb y off e)⟩⟩
 refine km rfl (ko (gw rfl fun b15 w16 hn15 hb15 hE16=> ?_))
 have ne3_15:=j2 hb3.lt hn15
 have ne6_15:=j2 hb6.lt hn15
 have ne7_15:=j2 hb7.lt hn15
 have fr15:=aA hX.size hn15
 have hb3:=hb3.ga hE16
 have hb6:=hb6.ga hE16
 have hb7:=hb7.ga hE16
 have hr:=Rt.ext hr hE16 id
 have hsg:=fun i hi=>(hsg i hi).ga hE16
 have hpn:=hpn.ga hE16
 have hX:=hX.gb hE16
 have hb15:gz w16 b15 3 ([.int .i64 0]):=hb15
 have hb15o:=hb15
 refine kl hb15 rfl rfl rfl fun w17 hb15 hE17 hs17=> ?_
 have hb3:=hb3.gj hE17 ne3_15
 have hb6:=hb6.gj hE17 ne6_15
 have hb7:=hb7.gj hE17 ne7_15
 have hr:=Rt.ext hr hE17 fun e=>by have e:0=b15:=e;omega
 have hsg:=fun i hi=>(hsg i hi).ext hE17 (fun e=>by have e:pb=b15:=e;omega)
 have hpn:=hpn.xw9 hE17 hb15o zd
 have hX:=hX.gi hE17 fr15
 refine qq (gl (ki rfl (gh call121 rfl (yv8 w17 t n (p:=qb) (m:=b.length) (c:=b.length)) fun v18 w18 hr18=> ?_)))
 obtain⟨bb,bt,bn,rfl,hnn,hbb,hbt,hbn,hE18⟩:=hr18
 have hb3:=hb3.ga hE18
 have hb6:=hb6.ga hE18
 have hb7:=hb7.ga hE18
 have hb15:=hb15.ga hE18
 have hr:=Rt.ext hr hE18 id
 have hsg:=fun i hi=>(hsg i hi).ga hE18
 have hpn:=hpn.ga hE18
 have hX:=hX.gb hE18
 refine qq (j8 ?_)
 have l3:=hb3.lt
 have l6:=hb6.lt
 have l7:=hb7.lt
 have l15:=hb15.lt
 have hXL:=hX.size
 have hb6p:=hb6
 have hb7p:=hb7
 have hb15p:=hb15
 have hsw:=hpn.2.1
 have hKb:kw b.length=i:=by rw[hbl,hK]
 have hbl4:b.length≤40000:=by omega
 refine c_iter (lieC w18 L t n b b6 b7 b15) (()) rfl call178 rfl (fun _=>rfl) (fun w1 hE1=>xw1 w1 (hbb.ga hE1) (hbt.ga hE1) (hbn.ga hE1) (hsw.ga hE1) ht hn hbl4 (hr.ext hE1 id)) (fun x e=>by subst e;exact⟨by omega,fun e=>by rcases e with e|e|e<;>omega⟩) ⟨hb15,⟨_,hb6⟩,⟨_,hb7⟩,fun j hj=>absurd hj (bW _)⟩ (fun l DD r k z W hRd hJ hk=> ?_) (fun DD z W hJ hE hsub hDn hmk hnd=> ?_) (fun DD k c z W hk hJ hE hsub hDn hmk hnd=> ?_)
 ·have hLr:=hRd.l
  obtain⟨hb15,⟨v6,hb6⟩,⟨v7,hb7⟩,heq⟩:=hJ
  have hWX:=hRd.X
  have hWs:=hWX.size
  have hb3:=hb3.ext hWX fun e=>by rcases e with e|e|e<;>omega
  have hsg:=fun j hj=>(hsg j hj).ext hWX fun e=>by rcases e with e|e|e<;>omega
  have hlo:=hRd.lo
  rw[hKb] at hk
  have hkL:k<L.length:=by omega
  have hkb:=xz3 t n b (k:=k) (by rw[hKb];exact hk)
  obtain⟨Pk,hPk⟩:∃Pk,Pk=C1 t n b k:=⟨_,rfl⟩
  have hP64:Pk.length=64:=by rw[hPk];exact pieceAt_len _ _ _ _
  rw[show argB (vk t n b) k= #[numB Pk] from by rw[argB,hkb,hPk]]
  have hLk:L.getD k []=L[k]:=by simp[hkL]
  have hL64:=hL _ (aG hkL)
  have nl3:=hb3.neL hLr
  have nl6:=hb6.neL hLr
  have nl7:=hb7.neL hLr
  have nl15:=hb15.neL hLr
  have hX:Ext (fun x=>(x=b6∨x=b7∨x=b15)∨x=l) W W:=Ext.refl _ _
  refine yz (wli (.round _) rfl (Ba gc rfl fun b16 w19 hn16 hb16 hE19=> ?_))
  have ne3_16:=j2 hb3.lt hn16
  have ne6_16:=j2 hb6.lt hn16
  have ne7_16:=j2 hb7.lt hn16
  have ne15_16:=j2 hb15.lt hn16
  have fr16:=aA hX.size hn16
  have hb3:=hb3.ga hE19
  have hb6:=hb6.ga hE19
  have hb7:=hb7.ga hE19
  have hb15:=hb15.ga hE19
  have hsg:=fun i hi=>(hsg i hi).ga hE19
  have hLr:=zz hLr hE19 id
  have hX:=hX.gb hE19
  have nl16:=hb16.neL hLr
  refine wli (.round _) rfl (j4 (l':=ge Pk) gc hb16 rfl rfl (qj hP64) (by rw[qj hP64];rfl) OneC.h fun w20 hb16 hE20 hs20=> ?_)
  have hb3:=hb3.gj hE20 ne3_16
  have hb6:=hb6.gj hE20 ne6_16
  have hb7:=hb7.gj hE20 ne7_16
  have hb15:=hb15.gj hE20 ne15_16
  have hsg:=fun i hi=>(hsg i hi).ext hE20 (fun e=>by have e:pb=b16:=e;omega)
  have hLr:=zz hLr hE20 nl16.symm
  have hX:=hX.gi hE20 fr16
  refine Ah (fin_begin hRd hLr fun w21 hE21 hL21=> ?_)
  have hb3:=hb3.extL hLr hE21
  have hb6:=hb6.extL hLr hE21
  have hb7:=hb7.extL hLr hE21
  have hb15:=hb15.extL hLr hE21
  have hb16:=hb16.extL hLr hE21
  have hsg:=fun i hi=>(hsg i hi).ext hE21 (fun e=>by have e:pb=l:=e;omega)
  have hLr:=hL21
  have hX:=hX.then (hE21.mono fun x _ e=> .inr e)
  refine ci_block (xx1 (xx1 (ci_draw (.round _) rfl rfl 6 [(0,true),(1,true),(2,true),(3,true),(4,true),(5,true)] [] (No) zk fun w22 hE22 hs22=> ?_)))
  have hd3:=hb3
  have hd6:=hb6
  have hd7:=hb7
  have hd15:=hb15
  have hd16:=hb16
  have hsgd:=hsg
  have hLrd:=hLr
  have hXd:=hX
  have hb3:=hb3.ga hE22
  have hb6:=hb6.ga hE22
  have hb7:=hb7.ga hE22
  have hb15:=hb15.ga hE22
  have hb16:=hb16.ga hE22
  have hsg:=fun i hi=>(hsg i hi).ga hE22
  have hLr:=zz hLr hE22 id
  have hX:=hX.gb hE22
  have hC:Ext (No) _ w22:=hE22.no
  refine qa gc rfl rfl (fun w' hw'=>((hd16.ga hw').kj)) (qj hP64) ?_
  refine j3 gc rfl rfl (fun w' hw'=>((hd3.ga hw').cell rfl)) ?_
  refine j3 gc rfl rfl (fun w' hw'=>((hd15.ga hw').cell rfl)) ?_
  refine qk gc rfl rfl 64 rfl k rfl hkL (po+k*64) rfl (qa gc rfl rfl (fun w' hw'=>((hsgd k hkL).ga hw')) (qj hL64) ?_)
  refine wd_eqA (xs:=yv1 Pk) (ys:=yv1 L[k]) gc rfl rfl zk (xz5 _) (xz5 _) (by rw[Dl,hP64]) (by rw[Dl,hL64]) ?_
  simp only[bI,cX]
  refine jg (j5 (zz2 (ci_if rfl (fun hc=> ?_) (fun hc=> ?_))))
  ·have hne:C1 t n b k≠L.getD k []:=fun e=>hc (yq3.2 (by rw[hPk,e,hLk]))
   refine xx1 (yz (wli (.round _) rfl (yi gc hb6 rfl rfl rfl fun w23 hb6 hE23 hs23=> ?_)))
   have hb3:=hb3.gj hE23 ne3_6
   have hb7:=hb7.gj hE23 ne6_7.symm
   have hb15:=hb15.gj hE23 ne6_15.symm
   have hb16:=hb16.gj hE23 ne6_16.symm
   have hsg:=fun i hi=>(hsg i hi).ext hE23 (fun e=>by have e:pb=b6:=e;omega)
   have hLr:=zz hLr hE23 nl6.symm
   have hX:=hX.then (hE23.mono fun x _ e=>by have e:x=b6:=e;subst e;exact .inl (.inl rfl))
   refine wli (.round _) rfl (yi gc hb7 rfl rfl rfl fun w24 hb7 hE24 hs24=> ?_)
   have hb3:=hb3.gj hE24 ne3_7
   have hb6:=hb6.gj hE24 ne6_7
   have hb15:=hb15.gj hE24 ne7_15.symm
   have hb16:=hb16.gj hE24 ne7_16.symm
   have hsg:=fun i hi=>(hsg i hi).ext hE24 (fun e=>by have e:pb=b7:=e;omega)
   have hLr:=zz hLr hE24 nl7.symm
   have hX:=hX.then (hE24.mono fun x _ e=>by have e:x=b7:=e;subst e;exact .inl (.inr (.inl rfl)))
   refine Ah (zz2 (ci_ret ?_))
   exact j7 (u1 (fin_stop (.inl ⟨rfl,rfl⟩) (()) hRd hLr hX (fun x hx=> .inl hx) (⟨rfl,hb15.lt,hb6,hb7,hne⟩)))
  have heqk:C1 t n b k=L.getD k []:=by rw[←hPk,hLk];exact yq3.1 (aS.1 hc)
  refine ci_skip (zz2 (yz (wli (.round _) rfl (st_ldb gc hb15 rfl rfl (yx4 gc rfl ?_)))))
  rw[jz _ zo]
  refine wli (.round _) rfl (yi gc hb15 rfl rfl rfl fun w25 hb15 hE25 hs25=> ?_)
  have hb3:=hb3.gj hE25 ne3_15
  have hb6:=hb6.gj hE25 ne6_15
  have hb7:=hb7.gj hE25 ne7_15
  have hb16:=hb16.gj hE25 ne15_16.symm
  have hsg:=fun i hi=>(hsg i hi).ext hE25 (fun e=>by have e:pb=b15:=e;omega)
  have hLr:=zz hLr hE25 nl15.symm
  have hX:=hX.then (hE25.mono fun x _ e=>by have e:x=b15:=e;subst e;exact .inl (.inr (.inr rfl)))
  refine Ah ?_
  exact js (fin_next (()) hRd hLr hX (fun x hx=> .inl hx) (⟨hb15,⟨_,hb6⟩,⟨_,hb7⟩,fun j hj=>by rcases bF j k with h|h;exact heq j h;rw[show j=k from by omega];exact heqk⟩))
 ·obtain⟨hb15,⟨v6,hb6⟩,⟨v7,hb7⟩,heq⟩:=hJ
  have hT6:=hb6p.lt
  have hpn:yw w W qb b.length b:=hpn.ext hE fun y hy h=>by
   rcases h with h|h|h
   ·exact hy.ne hb6p zd h
   ·exact hy.ne hb7p zd h
   exact hy.ne hb15p zd h
  have nd6:b6≠DD:=by omega
  have nd7:b7≠DD:=by omega
  have hX:Ext No w W:=hX.trans hE fun x hx e=>by rcases e with e|e|e<;>omega
  rw[hKb] at heq
  have hpc:vk t n b=L.take i:=by
   refine List.ext_getElem (by rw[xc,hKb,aL];omega) fun j h1 h2=> ?_
   have hj:j<i:=by rw[xc,hKb] at h1;exact h1
   have e:=heq j hj
   rw[←xz3 t n b (by rw[hKb];exact hj)] at e
   have e1:(vk t n b).getD j []=(vk t n b)[j]:=by simp[h1]
   have e2:L.getD j []=L[j]'zo:=by simp[show j<L.length by omega]
   rw[←e1,e,e2,List.getElem_take]
  rw[aR hpc] at hyes
  refine js (jp (ki rfl ?_))
  have hb6o:=hb6
  refine kl hb6 rfl rfl rfl fun w26 hb6 hE26 hs26=> ?_
  have hb7:=hb7.gj hE26 ne6_7.symm
  have hmk:=zz hmk hE26 nd6.symm
  have hpn:=hpn.xw9 hE26 hb6o zd
  have hX:=hX.gi hE26 fr6
  have hb7o:=hb7
  refine kl hb7 rfl rfl rfl fun w27 hb7 hE27 hs27=> ?_
  have hb6:=hb6.gj hE27 ne6_7
  have hmk:=zz hmk hE27 nd7.symm
  have hpn:=hpn.xw9 hE27 hb7o zd
  have hX:=hX.gi hE27 fr7
  refine qq (j9 (De [DD] zp (fun x hx=>by rw[aI.1 hx];exact hmk) [.slice qb b.length b.length,.bool true] (fun w20 hE20=> ?_) (.inl rfl)))
  refine⟨⟨⟨b6,0,rfl,zx3 gc rfl rfl ((hb6.ext hE20 (fun e=>nd6 (aI.1 e))).cell rfl)⟩,⟨b7,0,rfl,zx3 gc rfl rfl ((hb7.ext hE20 (fun e=>nd7 (aI.1 e))).cell rfl)⟩,trivial⟩,?_⟩
  rw[hyes]
  exact⟨⟨qb,b.length,rfl,hpn.ext hE20 fun y hy h=>by rw[aI.1 h] at hy;obtain⟨l,hl⟩:=hy;unfold gz at hl;rw[hmk] at hl;cases hl⟩,hX.trans hE20 fun y hy e=>by rw[aI.1 e] at hy;omega⟩
 obtain⟨rfl,hl15,hb6,hb7,hne⟩:=hJ
 have nd6:b6≠DD:=by omega
 have nd7:b7≠DD:=by omega
 have hX:Ext No w W:=hX.trans hE fun x hx e=>by rcases e with e|e|e<;>omega
 rw[hKb] at hk
 have hpc:¬vk t n b=L.take i:=fun e=>by
  have e1:=xz3 t n b (k:=k) (by rw[hKb];exact hk)
  rw[e] at e1
  refine hne (e1.symm.trans ?_)
  have e2:L.getD k []=L[k]'zo:=by simp[show k<L.length by omega]
  have e3:(L.take i).getD k []=L[k]'zo:=by simp[hk,show k<L.length by omega]
  rw[e2,e3]
 rw[aP hpc] at hyes
 refine j9 (u1 (j7 (De [DD] zp (fun x hx=>by rw[aI.1 hx];exact hmk) [.slice none 0 0,.bool false] (fun w20 hE20=> ?_) (.inl rfl))))
 refine⟨⟨⟨b6,0,rfl,zx3 gc rfl rfl ((hb6.ext hE20 (fun e=>nd6 (aI.1 e))).cell rfl)⟩,⟨b7,0,rfl,zx3 gc rfl rfl ((hb7.ext hE20 (fun e=>nd7 (aI.1 e))).cell rfl)⟩,trivial⟩,?_⟩
 rw[hyes]
 exact⟨rfl,hX.trans hE20 fun y hy e=>by rw[aI.1 e] at hy;omega⟩
def nwV (d:Nat) (o:Option (Nat×Nat)):List Value:=match o with
  |none=>[.pointer none,.int .i64 0]
  |some (_,n)=>[.pointer (some ⟨d,0,none⟩),.int .i64 (n:Int)]
theorem Dc (d:Nat) (o:Option (Nat×Nat)):(nwV d o).length=2:=by cases o<;>rfl
theorem nwV_one (d:Nat) (o:Option (Nat×Nat)):∀v∈nwV d o,v.oneCell'=true:=by
 cases o with
 |none=>exact OneC.h (l:=[.pointer none,.int .i64 0])
 |some x=>exact OneC.h (l:=[.pointer (some ⟨d,0,none⟩),.int .i64 (x.2:Int)])
instance (d:Nat) (o:Option (Nat×Nat)):OneC (nwV d o):=⟨nwV_one d o⟩
theorem newestGo_step {S i:Nat} (hi:i<2) (D:ku) (o:Option (Nat×Nat)):y9 S (2-i) i D o=if(D.read i).2.2≠0 then((D.read i).1,(D.read i).2.2,none) else y9 S (2-(i+1)) (i+1) (D.read i).1 (newer i S (D.read i).2.1 o):=by
 obtain⟨k,a⟩:∃k,2-i=k+1:=⟨1-i,by omega⟩
 rw[a,show 2-(i+1)=k from by omega]
 rfl
theorem newer_no {i S:Nat} {b:Bytes} {o:Option (Nat×Nat)} (h:¬HeadOk i S b):newer i S b o=o:=aP h
theorem newer_yes {i S:Nat} {b:Bytes} {o:Option (Nat×Nat)} (h:HeadOk i S b) (hn:nwE o≠0∨nwT o<zx8 b):newer i S b o=some (zx8 b,zz0 b):=by
 unfold newer
 rw[aR h]
 cases o with
 |none=>rfl
 |some x=>exact aR (hn.resolve_left fun e=>e rfl)
theorem newer_old {i S:Nat} {b:Bytes} {o:Option (Nat×Nat)} (h:HeadOk i S b) (hn:¬(nwE o≠0∨nwT o<zx8 b)):newer i S b o=o:=by
 unfold newer
 rw[aR h]
 cases o with
 |none=>exact absurd (.inl zd) hn
 |some x=>exact aP fun e=>hn (.inr e)
theorem read_64 {D:ku} {m:Nat} (hok:D.Ok m) (i:Int):(D.read i).2.1.length=64:=by
 unfold ku.read
 dsimp only
 split
 ·exact yx5 (hok.begin i false) _
 exact zeros_length
theorem newest_calls (w:World) {d m:Nat} {F:Nat→Prop} {D:ku} (h:At w d F D) (hok:D.Ok m) (hm:m+10<1000000000) (hr:Rt w) (hF0:¬F 0):
  gn prog 135 [.pointer (some ⟨d,0,none⟩)] w fun v w'=>v= .tuple #[.agg (nwV d (u7 D).2.2).toArray,.int .u32 (nwT (u7 D).2.2:Int),.int .i64 (u7 D).2.1]∧At w' d F (u7 D).1∧Ext F w w':=by
 refine gx func135 ?_
 have hX:=Ext.refl F w
 have hFlt:=h.lt
 have hr0:=hr.lt
 have hA:=h
 refine ko (gw rfl fun b2 w1 hn2 hb2 hE1=> ?_)
 have fr2:=aA hX.size hn2
 have hA:=hA.ga hE1
 have hr:=Rt.ext hr hE1 id
 have hX:=hX.gb hE1
 have hb2:gz w1 b2 155 (nwV d none):=hb2
 have hF2:¬F b2:=fun e=>by have:=hFlt _ e;omega
 refine km rfl (jd rfl (gl (jd rfl (j8 ?_))))
 refine jj (α:=Nat×ku×Option (Nat×Nat)) [0,2] rfl (fun z=>[(3,.int .u32 (nwT z.2.2:Int)),(4,.int .i64 (nwE z.2.2)),(12,.int .i64 (z.1:Int))]) (fun z u=>(z.1≤2∧At u d F z.2.1∧z.2.1.Ok (m+z.1)∧u7 D=y9 D.secs.length (2-z.1) z.1 z.2.1 z.2.2∧nwT z.2.2<4294967296∧z.2.1.secs.length=D.secs.length∧Rt u)∧gz u b2 155 (nwV d z.2.2)∧Ext F w u) (fun z u=>2-z.1) (0,D,none) rfl ⟨⟨aJ _,hA,hok,rfl,(show 0<4294967296 by decide),rfl,hr⟩,hb2,hX⟩ ?_
 rintro⟨i,D1,o⟩ w2 ⟨⟨hi,hA,hok1,hgo,hnt,hsec,hr⟩,hb2,hX⟩
 try dsimp only
 dsimp only at hi hA hok1 hgo hnt hsec
 refine jd rfl (gl (jl rfl (fun hc=> ?_) (fun hc=> ?_)))
 ·have hi2:i<2:=by omega
  rw[newestGo_step hi2] at hgo
  refine x3 ?_
  refine ji (α:=ku×Option (Nat×Nat)) [0,2,12] rfl (fun z=>[(3,.int .u32 (nwT z.2:Int)),(4,.int .i64 (nwE z.2))]) (fun z u=>(At u d F z.1∧z.1.Ok (m+(i+1))∧u7 D=y9 D.secs.length (2-(i+1)) (i+1) z.1 z.2∧nwT z.2<4294967296∧z.1.secs.length=D.secs.length∧Rt u)∧gz u b2 155 (nwV d z.2)∧Ext F w u) ?_ ?_
  ·refine j8 ?_
   refine jd rfl (ki rfl ?_)
   have hl2:=hb2.lt
   refine gh call78 rfl (dkRead w2 hA hok1 zo (i:Int)) fun v3 w3 hr3=> ?_
   obtain⟨rfl,hA,hE3⟩:=hr3
   have hb2:=hb2.ext hE3 hF2
   have hX:=hX.then hE3
   have hr:=Rt.ext hr hE3 hF0
   have hlt3:=hA.lt
   obtain⟨x,hx⟩:∃x,x=D1.read (i:Int):=⟨_,rfl⟩
   have hx64:=read_64 hok1 (i:Int)
   have hxok:=hok1.read (i:Int)
   have hxs:(D1.read (i:Int)).1.secs.length=D.secs.length:=by rw[ku.read_secs,hsec]
   rw[←hx] at hgo hx64 hxok hxs hA⊢
   obtain⟨D2,B,e⟩:=x
   dsimp only at hgo hx64 hxok hxs hA⊢
   refine j0 gc rfl (gw rfl fun b6 w4 hn6 hb6 hE4=> ?_)
   have ne2_6:=j2 hb2.lt hn6
   have fr6:=aA hX.size hn6
   have hb2:=hb2.ga hE4
   have hA:=hA.ga hE4
   have hr:=Rt.ext hr hE4 id
   have hX:=hX.gb hE4
   have hF6:¬F b6:=fun e=>by have:=hlt3 _ e;omega
   refine wl (j4 (l':=ge B) gc hb6 rfl rfl (qj hx64) (by rw[qj hx64];rfl) OneC.h fun w5 hb6 hE5 hs5=> ?_)
   have hb2:=hb2.gj hE5 ne2_6
   have hA:=hA.ext hE5 fun x hx e=>by have e:x=b6:=e;subst e;exact hF6 hx
   have hr:=Rt.ext hr hE5 fun e=>by have e:0=b6:=e;omega
   have hX:=hX.gi hE5 fr6
   refine km rfl (gl (jd rfl (jl rfl (fun hc=> ?_) (fun hc=> ?_))))
   ·rw[aR hc] at hgo
    rw[hgo]
    refine ko (kg rfl trivial (l':=nwV d none) rfl (j0 gc rfl (wl (j4 (l':=nwV d none) gc hb2 rfl rfl rfl (by rw[Dc,Dc]) (nwV_one _ _) fun w6 hb2 hE6 hs6=> ?_))))
    have hA:=hA.ext hE6 fun x hx e=>by have e:x=b2:=e;subst e;exact hF2 hx
    have hr:=Rt.ext hr hE6 fun e=>by have e:0=b2:=e;omega
    have hX:=hX.gi hE6 fr2
    refine vr rfl (j7 (gGl (qe [_,_,_] ⟨⟨b2,0,rfl,qg gc rfl rfl hb2.kj rfl⟩,rfl,rfl,trivial⟩ ?_)))
    exact⟨rfl,hA,hX⟩
   rw[aP hc] at hgo
   refine x3 (ko (wl (st_sa gc rfl 0 64 64 1 rfl ⟨.inr ⟨rfl,rfl⟩,.inr ⟨rfl,rfl⟩,.inr ⟨rfl,rfl⟩,by decide,by decide,by decide⟩ ?_)))
   rw[jw,bB]
   rw[show Value.slice (some ⟨b6,0,none⟩) 64 64= .slice (some ⟨b6,0,none⟩) B.length 64 from by rw[hx64]]
   have hXr:=hX.size
   have l2:=hb2.lt
   have l6:=hb6.lt
   have lA:=hA.lt
   refine gh call101 rfl (zx5 w5 hb6.slB zo) fun v7 w7 hr7=> ?_
   obtain⟨rb,rfl,hnr,hR,hE7⟩:=hr7
   have hb2:=hb2.ga hE7
   have hb6:=hb6.ga hE7
   have hA:=hA.ga hE7
   have hr:=Rt.ext hr hE7 id
   have hX:=hX.gb hE7
   refine km rfl (ki rfl (gh call103 rfl (raw_calls w7 hR zo 12) fun v8 w8 hr8=> ?_))
   obtain⟨_,_,rfl,_,hR,hE8⟩:=hr8
   have hb2:=hb2.gj hE8 zo
   have hb6:=hb6.gj hE8 zo
   have hX:=hX.gi hE8 zo
   rw[show(12:Int)=((12:Nat):Int) from rfl,offR_ok zo] at hR
   have hA:=hA.ext hE8 fun y hy e=>by have e:y=rb:=e;have:=lA y hy;omega
   have hr:=Rt.ext hr hE8 fun e=>by have e:0=rb:=e;omega
   refine qq (ki rfl (gh call171 rfl (zw8 w8 hR zc) fun v9 w9 hr9=> ?_))
   obtain⟨rfl,hR,hE9⟩:=hr9
   have hb2:=hb2.gj hE9 zo
   have hb6:=hb6.gj hE9 zo
   have hX:=hX.gi hE9 zo
   rw[show(4:Int)=((4:Nat):Int) from rfl,offR_ok za] at hR⊢
   have hA:=hA.ext hE9 fun y hy e=>by have e:y=rb:=e;have:=lA y hy;omega
   have hr:=Rt.ext hr hE9 fun e=>by have e:0=rb:=e;omega
   refine j0 gc rfl (gh call171 rfl (zw8 w9 hR zc) fun v10 w10 hr10=> ?_)
   obtain⟨rfl,_,hE10⟩:=hr10
   have hb2:=hb2.gj hE10 zo
   have hb6:=hb6.gj hE10 zo
   have hX:=hX.gi hE10 zo
   rw[show(4:Int)=((4:Nat):Int) from rfl,offR_ok (by rw[aX,aX];omega)]
   have hA:=hA.ext hE10 fun y hy e=>by have e:y=rb:=e;have:=lA y hy;omega
   have hr:=Rt.ext hr hE10 fun e=>by have e:0=rb:=e;omega
   obtain⟨t,ht⟩:∃t,t=zx8 B:=⟨_,rfl⟩
   obtain⟨n,hn⟩:∃n,n=zz0 B:=⟨_,rfl⟩
   have htl:t<4294967296:=by have:=ub ((B.drop 12).take 4);rw[aL,aX,hx64] at this;rw[ht];exact this
   have hnl:n<4294967296:=by have:=ub ((B.drop 16).take 4);rw[aL,aX,hx64] at this;rw[hn];exact this
   dsimp only
   rw[show num ((B.drop 12).take 4)=t from ht.symm,show num (((B.drop 12).drop 4).take 4)=n from by rw[List.drop_drop];exact hn.symm]
   refine km rfl (ki rfl ?_)
   rw[jz (n:Int) zo]
   refine kg rfl ⟨⟨rfl,by decide⟩,⟨rfl,by decide⟩,trivial⟩ (l':=[.pointer (some ⟨d,0,none⟩),.int .i64 (n:Int)]) rfl ?_
   have lA11:=hA.lt
   refine gw rfl fun b11 w11 hn11 hb11 hE11=> ?_
   have ne2_11:=j2 hb2.lt hn11
   have ne6_11:=j2 hb6.lt hn11
   have fr11:=aA hX.size hn11
   have hb2:=hb2.ga hE11
   have hb6:=hb6.ga hE11
   have hA:=hA.ga hE11
   have hr:=Rt.ext hr hE11 id
   have hX:=hX.gb hE11
   have hF11:¬F b11:=fun e=>by have:=lA11 _ e;omega
   refine wl (j4 (l':=[.pointer (some ⟨d,0,none⟩),.int .i64 (n:Int)]) gc hb11 rfl rfl rfl rfl OneC.h fun w12 hb11 hE12 hs12=> ?_)
   have hb2:=hb2.gj hE12 ne2_11
   have hb6:=hb6.gj hE12 ne6_11
   have hA:=hA.ext hE12 fun x hx e=>by have e:x=b11:=e;subst e;exact hF11 hx
   have hr:=Rt.ext hr hE12 fun e=>by have e:0=b11:=e;omega
   have hX:=hX.gi hE12 fr11
   refine qq (gl ?_)
   refine ji (α:=Bool) [0,2,3,4,9,11,12] rfl (fun z=>[(53,.bool z)]) (fun z u=>(z=decide (¬HeadOk i D.secs.length B)∧At u d F D2∧Rt u)∧gz u b2 155 (nwV d o)∧gz u b6 165 (ge B)∧gz u b11 155 ([.pointer (some ⟨d,0,none⟩),.int .i64 (n:Int)])∧Ext F w u) ?_ ?_
   ·refine jr rfl 17 [qP 0,qP 1,qP 2,qP 3,qP 4,qP 5,qP 6,(7,false),qP 8,qP 9,qP 10,qP 11,qP 12,qP 14,(13,false),qP 15,qP 16] [] (No) zk fun w13 hE13 hs13=> ?_
    have hd6:=hb6
    have hd11:=hb11
    have hb2:=hb2.ga hE13
    have hb6:=hb6.ga hE13
    have hb11:=hb11.ga hE13
    have hA:=hA.ga hE13
    have hr:=Rt.ext hr hE13 id
    have hX:=hX.gb hE13
    have hC:Ext (No) _ w13:=hE13.no
    refine gt gc 2 rfl ?_
    rw[and1 t htl]
    refine gt gc 1 rfl ?_
    rw[jz ((t%2:Nat):Int) zo]
    refine gt gc 3 rfl (vy 42 rfl (fun hg=> ?_) (fun hg=> ?_))
    ·refine gt gc 11 rfl ?_
     refine jg (j5 ?_)
     exact gr (true) rfl ⟨⟨by symm;rw[decide_eq_true_iff];exact fun h=>hg (by rw[ht,h.1]),hA,hr⟩,hb2,hb6,hb11,hX⟩
    have hgi:zx8 B%2=i:=by rw[←ht];omega
    refine qa gc rfl rfl (fun w' hw'=>((hd11.ga hw').kj)) rfl ?_
    refine jo rfl (j1 call70 rfl (fits_calls w13 hA (n:Int) zo) fun v14 w14 hr14=>⟨(by obtain⟨rfl,hE14⟩:=hr14;exact hC.gb hE14),?_⟩)
    obtain⟨rfl,hE14⟩:=hr14
    have hb2:=hb2.ga hE14
    have hb6:=hb6.ga hE14
    have hb11:=hb11.ga hE14
    have hA:=hA.ga hE14
    have hr:=Rt.ext hr hE14 id
    have hX:=hX.gb hE14
    have hC:=hC.gb hE14
    rw[hxs,cC]
    refine gt gc 3 rfl (Cm 47 rfl (fun hg=> ?_) (fun hg=> ?_))
    ·have hgf:¬Bw (zz0 B) D.secs.length:=by rw[←hn];intro h;rw[bQ ⟨dN n,h⟩] at hg;cases hg
     refine gt gc 6 rfl (jg (j5 ?_))
     exact gr (true) rfl ⟨⟨by symm;rw[decide_eq_true_iff];exact fun h=>hgf h.2.1,hA,hr⟩,hb2,hb6,hb11,hX⟩
    have hgf:Bw (zz0 B) D.secs.length:=by rw[←hn];simpa using hg
    refine qa gc rfl rfl (fun w' hw'=>((hd11.ga hw').kj)) rfl ?_
    refine gt gc 1 rfl (qa gc rfl rfl (fun w' hw'=>((hd6.ga hw').kj)) (qj hx64) ?_)
    refine jo rfl (j1 call147 rfl (head_calls w14 (.pointer (some ⟨d,0,none⟩)) n t hnl htl rfl hr) fun v15 w15 hr15=>⟨(by obtain⟨rfl,hE15⟩:=hr15;exact hC.gb hE15),?_⟩)
    obtain⟨rfl,hE15⟩:=hr15
    have hb2:=hb2.ga hE15
    have hb6:=hb6.ga hE15
    have hb11:=hb11.ga hE15
    have hA:=hA.ga hE15
    have hr:=Rt.ext hr hE15 id
    have hX:=hX.gb hE15
    refine wd_eqA (xs:=yv1 (yv3 t n)) (ys:=yv1 B) gc rfl rfl zk (xz5 _) (xz5 _) (by rw[Dl,Dn]) (by rw[Dl,hx64]) ?_
    simp only[bI,cX]
    refine gt gc 1 rfl (jg (j5 ?_))
    exact gr (_) rfl ⟨⟨by rw[aH,ht,hn];exact⟨fun h h2=>h (by rw[h2.2.2]),fun h h2=>h ⟨hgi,hgf,yq3.1 h2⟩⟩,hA,hr⟩,hb2,hb6,hb11,hX⟩
   rintro z w16 ⟨⟨rfl,hA,hr⟩,hb2,hb6,hb11,hX⟩
   refine jl rfl (fun hc=> ?_) (fun hc=> ?_)
   ·refine y8 ?_
    exact ql (ve (gr (D2,o) rfl ⟨⟨hA,hxok,by rw[hgo,newer_no hc],hnt,hxs,hr⟩,hb2,hX⟩))
   have hHd:HeadOk i D.secs.length B:=aS.1 hc
   refine x3 (ji (α:=Bool) [0,2,3,4,9,11,12] rfl (fun z=>[(60,.bool z)]) (fun z u=>u=w16∧z=decide (nwE o≠0∨nwT o<t)) ?_ ?_)
   ·refine gy ?_
    refine j0 gc rfl (ja 56 rfl (fun hg=> ?_) (fun hg=> ?_))
    ·refine gq gc 4 rfl ?_
     refine gk ?_
     exact gr (true) rfl ⟨rfl,by symm;rw[decide_eq_true_iff];exact .inl hg⟩
    refine gq gc 4 rfl ?_
    refine gk ?_
    exact gr (_) rfl ⟨rfl,by rw[aH];omega⟩
   rintro z w17 ⟨hu,rfl⟩
   have hu:=hu.symm
   subst hu
   refine jl rfl (fun hc=> ?_) (fun hc=> ?_)
   ·refine gy ?_
    refine je hb11 rfl rfl (j0 gc rfl (wl (j4 (l':=[.pointer (some ⟨d,0,none⟩),.int .i64 (n:Int)]) gc hb2 rfl rfl rfl (by rw[Dc];rfl) OneC.h fun w18 hb2 hE18 hs18=> ?_)))
    have hA:=hA.ext hE18 fun x hx e=>by have e:x=b2:=e;subst e;exact hF2 hx
    have hr:=Rt.ext hr hE18 fun e=>by have e:0=b2:=e;omega
    have hX:=hX.gi hE18 fr2
    refine j0 gc rfl (gk ?_)
    exact js (gr (D2,some (t,n)) rfl ⟨⟨hA,hxok,by rw[hgo,newer_yes hHd (by rw[←ht];exact hc),ht,hn],htl,hxs,hr⟩,hb2,hX⟩)
   refine kc ?_
   exact js (gr (D2,o) rfl ⟨⟨hA,hxok,by rw[hgo,newer_old hHd (by rw[←ht];exact hc)],hnt,hxs,hr⟩,hb2,hX⟩)
  rintro⟨D2,o2⟩ w19 ⟨⟨hA,hok2,hgo,hnt,hsec,hr⟩,hb2,hX⟩
  try dsimp only
  dsimp only at hA hok2 hgo hnt hsec
  refine yl rfl ?_
  rw[jz _ zo]
  refine gk ?_
  exact jk (i+1,D2,o2) rfl ⟨⟨by omega,hA,hok2,hgo,hnt,hsec,hr⟩,hb2,hX⟩ zf
 have hi2:i=2:=by omega
 subst hi2
 rw[hgo]
 refine Ak (ko (je hb2 rfl (Dc _ _) (j0 gc rfl ?_)))
 refine wl (j4 (l':=nwV d o) gc hb2 rfl rfl (Dc _ _) (by rw[Dc]) (nwV_one _ _) fun w20 hb2 hE20 hs20=> ?_)
 have hA:=hA.ext hE20 fun x hx e=>by have e:x=b2:=e;subst e;exact hF2 hx
 have hr:=Rt.ext hr hE20 fun e=>by have e:0=b2:=e;omega
 have hX:=hX.gi hE20 fr2
 refine vr rfl (qe [_,_,_] ⟨⟨b2,0,rfl,qg gc rfl rfl hb2.kj (Dc _ _)⟩,rfl,rfl,trivial⟩ ?_)
 exact⟨rfl,hA,hX⟩
theorem yx1:∀{R:List Bytes},(∀b∈R,b.length=64)→(R.flatMap ge).length=R.length*64
 | [],_=>rfl
 |b::R,h=>by
  rw[dI,aB,qj (h b zp),yx1 fun x hx=>h x (by simp[hx]),aW]
  omega
theorem take_zero {R:List Bytes} {i:Nat} (hi:i<R.length):(∀b∈R.take (i+1),b=zeros)↔(∀b∈R.take i,b=zeros)∧R[i]=zeros:=by
 rw[aQ hi]
 constructor
 ·exact fun h=>⟨fun b a=>h b (List.mem_append_left _ a),h _ (List.mem_append_right _ (aI.2 rfl))⟩
 rintro⟨c,d⟩ b a
 rcases aY.1 a with a|a
 ·exact c b a
 rw[aI.1 a];exact d
theorem clean_calls (w:World) {x d m c:Nat} {H F:Nat→Prop} {W:Wl} {D:ku} {p:Option Addr} {L:List Bytes} (hW:ye w x d H W) (h:At w d F D) (hok:D.Ok m) (hm:m+2*L.length+10<1000000000) (hs:Sl w p L.length 64 (L.flatMap ge)) (hL:∀b∈L,b.length=64) (hc:L.length≤c) (hu:W.used≤L.length) (hLl:L.length≤100000) (hsz:W.size<1000000) (htu:W.turn<4294967296)
  (hHF:∀y,H y→¬F y) (hpF:∀y off,p=some ⟨y,off,none⟩→0<L.length→¬F y):
  gn prog 137 [.pointer (some ⟨x,0,none⟩),.slice p L.length c] w fun v w'=>v= .int .i64 (D5 D ((uj W.turn W.size+W.used:Nat):Int) (L.drop W.used)).2∧DkQ w d F (D5 D ((uj W.turn W.size+W.used:Nat):Int) (L.drop W.used)).1 w':=by
 obtain⟨⟨q,cq,aq,a,au,av,aw⟩,ab,ax⟩:=hW
 have ar:=h.lt
 have n:=h
 have B:=hHF x ab
 have ay:=a.lt
 obtain⟨R,hR⟩:∃R,R=L.drop W.used:=⟨_,rfl⟩
 have a1:R.length=L.length-W.used:=by rw[hR,aX]
 have s:∀b∈R,b.length=64:=fun b hb=>hL b (by rw[hR] at hb;exact dO hb)
 have f:Sl w (u6 p W.used c 64) R.length 64 (R.flatMap ge):=by
  have e:=hs.slice W.used L.length c hu hc (aD _)
  rw[xq0 _ _ hL,←hR,←a1,aO (Nat.le_of_eq (yx1 s))] at e
  exact e
 have ac:=hs
 have a2:=f
 obtain⟨g,a3⟩:∃g:Int,g=((uj W.turn W.size+W.used:Nat):Int):=⟨_,rfl⟩
 have az:uj W.turn W.size≤1000002:=by unfold uj;split<;>omega
 rw[←hR,←a3]
 refine gx func137 ?_
 have k:=Ext.refl F w
 refine jd rfl (ki rfl (gu rfl (a.cell rfl) (gh call74 rfl (dk_pending w n hok zo) fun v1 w1 ad=> ?_)))
 obtain⟨bp,rfl,_,_,O⟩:=ad
 have n:=n.ga O
 have a:=a.ga O
 have f:=f.ga O
 have k:=k.gb O
 refine km rfl (gl (ki rfl (gu rfl (a.cell rfl) (wl (zv gc rfl W.used L.length c 64 rfl (.inr ⟨rfl,rfl⟩) (.inr ⟨rfl,rfl⟩) (.inl rfl) hu hc (aD _) ?_)))))
 dsimp only
 rw[←a1]
 refine km rfl (j8 ?_)
 refine jj (α:=Nat×Bool×(Nat→Prop)×ku) [0,22,23] rfl (fun z=>[(5,.bool z.2.1),(24,.int .i64 (z.1:Int))]) (fun z u=>(z.1≤R.length∧At u d z.2.2.1 z.2.2.2∧z.2.2.2.Ok (m+2*z.1)∧Ct D g R=Ct z.2.2.2 (g+(z.1:Nat)) (R.drop z.1)∧(z.2.1=true↔D.order=[]∧∀b∈R.take z.1,b=zeros)∧(∀y,z.2.2.1 y→F y∨w.heap.size≤y)∧gz u x 162 [.pointer (some ⟨d,0,none⟩),.int .i64 (W.size:Int),.int .u32 (W.turn:Int),.slice q W.pieces.length cq,.int .i64 (W.used:Int),.bool W.broken]∧Sl u (u6 p W.used c 64) R.length 64 (R.flatMap ge))∧Ext F w u) (fun z u=>R.length-z.1) (0,decide ((D.order.length:Int)=0),F,D) rfl ⟨⟨aJ _,n,hok,by simp,by simp,fun y hy=> .inl hy,a,f⟩,k⟩ ?_
 rintro⟨i,fl,G,Dz⟩ w2 ⟨⟨hi,n,t,j,C,P,a,f⟩,k⟩
 try dsimp only
 dsimp only at hi n t j C P
 have B:¬G x:=fun e=>(P x e).elim B zo
 have ae:=k.size
 refine jd rfl (gl (jl rfl (fun hc=> ?_) (fun hc=> ?_)))
 ·have l:i<R.length:=by omega
  obtain⟨X,po,Y,af⟩:=f.qd (fun r hr=>qj (s r hr)) zo
  have b0:X<w.heap.size:=by
   obtain⟨b1,b2,V,a4⟩:=a2.qd (fun r hr=>qj (s r hr)) zo
   rw[Y] at V
   cases V
   exact(a4 i l).lt (fun e=>by have:=congrArg List.length e;rw[qj (s _ (aG _))] at this;cases this)
  have a5:¬F X:=by
   obtain⟨pL,oL,ag,_⟩:=ac.qd (fun r hr=>qj (hL r hr)) zo
   obtain⟨a6,e'⟩:=yw2 Y (fun y o sp e=>by rw[ag] at e;cases e;rfl)
   exact hpF X a6 e' zo
  have a7:¬G X:=fun e=>(P X e).elim a5 zo
  rw[Y] at f⊢
  have A:=s _ (aG l)
  refine x3 ?_
  refine ji (α:=Bool×(Nat→Prop)×ku) [0,22,23,24] rfl (fun z=>[(5,.bool z.1)]) (fun z u=>(At u d z.2.1 z.2.2∧z.2.2.Ok (m+2*(i+1))∧Ct D g R=Ct z.2.2 (g+(i+1:Nat)) (R.drop (i+1))∧(z.1=true↔D.order=[]∧∀b∈R.take (i+1),b=zeros)∧(∀y,z.2.1 y→F y∨w.heap.size≤y)∧gz u x 162 [.pointer (some ⟨d,0,none⟩),.int .i64 (W.size:Int),.int .u32 (W.turn:Int),.slice q W.pieces.length cq,.int .i64 (W.used:Int),.bool W.broken]∧Sl u (some ⟨X,po,none⟩) R.length 64 (R.flatMap ge))∧Ext F w u) ?_ ?_
  ·refine j8 ?_
   refine ki rfl (ka rfl 64 rfl i rfl l (po+i*64) rfl (jm rfl (af i l) (qj A) ?_))
   have ah:=n.lt
   refine gw rfl fun b7 w3 ai Z Q=> ?_
   have aj:=aA k.size ai
   have n:=n.ga Q
   have a:=a.ga Q
   have f:=f.ga Q
   have k:=k.gb Q
   refine j0 gc rfl ?_
   have ak:¬G b7:=fun e=>by have:=ah _ e;omega
   refine wl (j4 (l':=ge R[i]) gc Z rfl rfl (qj A) (by rw[qj A];rfl) OneC.h fun w4 Z S b3=> ?_)
   have n:=n.ext S fun x hx e=>by have e:x=b7:=e;subst e;exact ak hx
   have a:=a.ext S fun e=>by have e:x=b7:=e;omega
   have f:=f.ext S fun b o e h=>by cases e;have h:X=b7:=h;omega
   have k:=k.gi S aj
   refine qq (gl (ko (je Z rfl (qj A) (kg rfl trivial (l':=ge zeros) (by rw[zeros_b];rfl) ?_))))
   refine wl (st_eqA (xs:=yv1 R[i]) (ys:=yv1 zeros) gc rfl zk (xz5 _) (xz5 _) (by rw[Dl,A]) (by rw[Dl,zeros_length]) ?_)
   simp only[cO]
   refine qq (jl rfl (fun hc=> ?_) (fun hc=> ?_))
   ·have hz:=yq3.1 hc
    rw[wipeD_zero l hz] at j
    refine y8 ?_
    exact ql (ve (gr (fl,G,Dz) rfl ⟨⟨n,t.mono zo,j,C.trans (by rw[take_zero l];exact⟨fun h=>⟨h.1,h.2,hz⟩,fun h=>⟨h.1,h.2.1⟩⟩),P,a,f⟩,k⟩))
   have hz:¬R[i]=zeros:=fun e=>hc (yq3.2 e)
   rw[wipeD_step l hz] at j
   refine x3 (jd rfl (gl ?_))
   refine jr rfl 24 [qP 0,qP 1,qP 2,qP 3,qP 4,qP 5,qP 6,qP 7,qP 8,qP 9,qP 10,qP 11,qP 12,qP 14,qP 15,qP 16,qP 17,qP 19,qP 21,(13,false),qP 18,qP 20,(22,false),qP 23] [] (G) zk fun w5 K b4=> ?_
   have J:=a
   have n:=n.ga K
   have a:=a.ga K
   have f:=f.ga K
   have k:=k.gb K
   have hC:Ext (G) _ w5:=K.no
   refine gt gc 4 rfl (j3 gc rfl rfl (fun w' E=>((J.ext E B).cell rfl)) ?_)
   refine gt gc 3 rfl (qa gc rfl rfl (fun w' E=>((J.ext E B).kj.take 2)) rfl ?_)
   refine gt gc 3 rfl (j3 gc rfl rfl (fun w' E=>((J.ext E B).cell rfl)) ?_)
   refine gt gc 3 rfl (j3 gc rfl rfl (fun w' E=>((J.ext E B).cell rfl)) ?_)
   refine gt gc 1 rfl (xj0 gc rfl rfl trivial (l':=ge zeros) (by rw[zeros_b];rfl) ?_)
   refine jo rfl (j1 call120 rfl (yx8 w5 (.pointer (some ⟨d,0,none⟩)) W.size W.turn zo htu rfl) fun v6 w6 a8=>⟨(by obtain⟨rfl,I⟩:=a8;exact hC.gb I),?_⟩)
   obtain⟨rfl,I⟩:=a8
   have n:=n.ga I
   have a:=a.ga I
   have f:=f.ga I
   have k:=k.gb I
   have hC:=hC.gb I
   refine gt gc 2 rfl ?_
   rw[show IntKind.i64.wrap (IntKind.i64.wrap ((uj W.turn W.size:Int)+(W.used:Int))+(i:Int))=g+(i:Nat) from by rw[jz ((uj W.turn W.size:Int)+(W.used:Int)) zo,jz _ zo,a3];omega]
   have al:=k.size
   refine jo rfl (j1 call143 rfl (dkWrite w6 n t zo (g+(i:Nat)) zeros_length) fun v7 w7 a9=>⟨(by obtain⟨rfl,G2,M,N,T⟩:=a9;exact hC.then N),?_⟩)
   obtain⟨rfl,G2,M,N,T⟩:=a9
   have k:=k.trans N fun y hy e=>(P y e).resolve_right zo
   have a:=a.ext N B
   have f:=f.ext N fun b o e h=>by cases e;exact a7 h
   have U:=A3 P al T
   refine gt gc 1 rfl (jg (j5 (jp (jd rfl (jl rfl (fun hc=> ?_) (fun hc=> ?_))))))
   ·rw[aR hc] at j
    have a0:D5 D g R=Dz.write (g+(i:Nat)) zeros:=by unfold D5;dsimp only;rw[j,aR hc]
    rw[a0]
    refine jd rfl (j9 (gGl (gv rfl rfl ?_)))
    exact⟨rfl,G2,M,k,U⟩
   rw[aP hc] at j
   refine kc ?_
   exact js (gr (false,G2,(Dz.write (g+(i:Nat)) zeros).1) rfl ⟨⟨M,t.write _ zeros_length,j,⟨fun h=>(by cases h),fun h=>absurd (((take_zero l).1 h.2).2) hz⟩,U,a,f⟩,k⟩)
  rintro⟨am,G2,D2⟩ w8 ⟨⟨n,aa,j,C,U,a,f⟩,k⟩
  refine yl rfl ?_
  rw[jz _ zo]
  refine gk ?_
  exact jk (i+1,am,G2,D2) rfl ⟨⟨l,n,aa,j,C,U,a,f⟩,k⟩ zf
 have l:i=R.length:=by omega
 subst l
 rw[List.drop_length] at j
 rw[bZ] at C
 have a0:D5 D g R=if fl=true then(Dz,0) else Dz.sync:=by
  unfold D5
  dsimp only
  rw[j]
  show(if(0:Int)≠0 then _ else _)=_
  rw[aP zd]
  by_cases hf:fl=true
  ·rw[aR (C.1 hf),aR hf];rfl
  rw[aP (fun e=>hf (C.2 e)),aP hf];rfl
 rw[a0]
 refine Ak (gl (jd rfl (ud rfl (fun hc=> ?_) (fun hc=> ?_))))
 ·rw[aR hc]
  refine jd rfl (j9 (j7 (gv rfl rfl ?_)))
  exact⟨rfl,G,n,k,P⟩
 rw[aP (by rw[hc];decide)]
 refine x3 (ki rfl (gu rfl (a.cell rfl) (gh call144 rfl (dkSync w2 n t zo) fun v9 w9 an=> ?_)))
 obtain⟨rfl,G2,M,ao,T⟩:=an
 have ap:=k.trans ao fun y hy e=>(P y e).resolve_right zo
 refine vr rfl (gv rfl rfl ?_)
 exact⟨rfl,G2,M,ap,A3 P ae T⟩
theorem lies_calls' (w:World) {p:Option Addr} {c t n:Nat} {L:List Bytes} (hs:Sl w p L.length 64 (L.flatMap ge)) (hL:∀b∈L,b.length=64) (hc:L.length≤c) (hLl:L.length≤100000) (ht:t<4294967296) (hn:n<4294967296) (hr:Rt w):
  gn prog 136 [.slice p L.length c,.int .u32 (t:Int),.int .u32 (n:Int)] w fun v w'=>∃q k,v= .tuple #[.slice q ((zx0 L t n).getD []).length k,.bool (zx0 L t n).isSome]∧(∀b,zx0 L t n=some b→yw w w' q k b)∧Ext No w w':=by
 refine(lies_calls w hs hL hc hLl ht hn hr).mono ?_
 rintro v w' ⟨h,a⟩
 cases ho:zx0 L t n with
 |none=>rw[ho] at h;exact⟨none,0,h,(fun b e=>by cases e),a⟩
 |some b=>rw[ho] at h;obtain⟨q,k,d,f⟩:=h;exact⟨q,k,d,(fun g e=>by cases e;exact f),a⟩
theorem noOwnB {w:World}:∀y,jb none y→w.heap.size≤y:=fun y h=>by cases h
theorem TyB.lt {w:World} {b T:Nat} (h:TyB w b T):b<w.heap.size:=let⟨_,h⟩:=h;h.lt
theorem flat_rep (n:Nat):(List.replicate n zeros).flatMap ge=Cn n (ge zeros):=by
 unfold Cn
 rw[List.flatMap_def,List.map_replicate]
theorem pad64 {R:List Bytes} (h:∀b∈R,b.length=64) {n:Nat}:∀b∈R++List.replicate n zeros,b.length=64:=fun b hb=>(aY.1 hb).elim (h b) (zeros_64 b)
theorem pad_len {R:List Bytes} {n i:Nat} (hi:i≤n) (hR:R.length=i):(R++List.replicate (n-i) zeros).length=n:=by simp[hR];omega
theorem yw3 {R:List Bytes} {n i:Nat} (hi:i<n) (hR:R.length=i) (h64:∀b∈R,b.length=64) {b:Bytes} (hb:b.length=64):
  Vc.put ((R++List.replicate (n-i) zeros).flatMap ge) (i*64) (ge b)=((R++[b])++List.replicate (n-(i+1)) zeros).flatMap ge:=by
 have c:(R.flatMap ge).length=i*64:=by rw[yx1 h64,hR]
 have e:List.replicate (n-i) zeros=zeros::List.replicate (n-(i+1)) zeros:=by rw[show n-i=(n-(i+1))+1 from by omega,List.replicate_succ]
 have d:(ge zeros).length=64:=qj zeros_length
 have a:(ge b).length=64:=qj hb
 rw[e,bC,dI,put_eq _ _ _ (by simp only[aB,c,d,a];omega),dG c,a]
 rw[List.drop_append,bM zo,c,cB,show i*64+64-i*64=64 from by omega,List.drop_left' d]
 simp[bC,aV]
theorem open_calls (w:World) {d m:Nat} {F:Nat→Prop} {D:ku} (h:At w d F D) (hok:D.Ok m) (hm:m+10000<1000000000) (hr:Rt w) (hF0:¬F 0):
  gn prog 58 [.pointer (some ⟨d,0,none⟩)] w fun v w'=>∃(xo:Option Addr) (F':Nat→Prop),v= .tuple #[.pointer xo,.int .i64 (ur D).2.1]∧At w' d F' (ur D).1∧Ext F w w'∧(∀y,F' y→F y∨w.heap.size≤y)∧((ur D).2.1≠0→xo=none)∧((ur D).2.1=0→LogOf w w' d F' xo (Wl.opened (ur D))):=by
 refine gx func58 ?_
 have k:=Ext.refl F w
 have S:=h.lt
 have cp:=hr.lt
 have p:=h
 refine jd rfl (c_scope (gl (jd rfl (up rfl (x3 (ki rfl ?_))))))
 refine gh call135 rfl (newest_calls w p hok zo hr hF0) fun v1 w1 c0=> ?_
 obtain⟨rfl,p,bb⟩:=c0
 have k:=k.then bb
 have hr:=Rt.ext hr bb hF0
 obtain⟨⟨ap,bc,bd⟩,Y⟩:=newestD_spec hok
 obtain⟨e,he⟩:∃e,e=(u7 D).2.1:=⟨_,rfl⟩
 rw[←he] at Y⊢
 refine j0 gc rfl (gw rfl fun b4 w2 bf g b1=> ?_)
 have c1:=aA k.size bf
 have p:=p.ga b1
 have hr:=Rt.ext hr b1 id
 have k:=k.gb b1
 have bg:¬F b4:=fun e=>by have:=S _ e;omega
 refine wl (j4 (l':=nwV d (u7 D).2.2) gc g rfl rfl (Dc _ _) (by rw[Dc];rfl) (nwV_one _ _) fun w3 g b2 cr=> ?_)
 have p:=p.ext b2 fun x hx e=>by have e:x=b4:=e;subst e;exact bg hx
 have hr:=Rt.ext hr b2 fun e=>by have e:0=b4:=e;omega
 have k:=k.gi b2 c1
 refine km rfl (gl (jd rfl (jl rfl (fun Q=> ?_) (fun Q=> ?_))))
 ·have c2:(u7 D).2.2=none:=Y.elim (fun h=>h.1) fun⟨t,n,_,h,_⟩=>absurd h Q
  have ho:=openW_no c2
  rw[←he] at ho
  rw[ho]
  refine jd rfl (j9 (j7 (zw2 (qe [_,_] ⟨rfl,rfl,trivial⟩ ?_))))
  exact⟨none,F,rfl,p,k,fun y o=> .inl o,fun _=>rfl,fun e=>absurd e Q⟩
 obtain⟨t,n,a6,_,aq,ht⟩:=Y.resolve_left fun h=>h.2 (aS.1 Q)
 rw[a6] at g⊢
 have g:gz w3 b4 155 [.pointer (some ⟨d,0,none⟩),.int .i64 (n:Int)]:=g
 have ho:=openW_yes a6
 rw[ho]
 obtain⟨D1,c3⟩:∃D1,D1=(u7 D).1:=⟨_,rfl⟩
 rw[←c3] at p ap bc bd⊢
 have bf:=aq.1
 have cs:=aq.2.1
 have ct:uj t n≤1002:=by unfold uj;split<;>omega
 dsimp only[nwT]
 refine x3 (ki rfl (gu rfl (g.cell rfl) ?_))
 refine wl (zz4 gc rfl n n 64 rfl (zs:=ge zeros) z29 rfl zd rfl rfl (aD _) zo zr fun J w4 ar a ai cu=> ?_)
 have aj:=j2 g.lt ar
 have bh:=aA k.size ar
 have g:=g.ga ai
 have p:=p.ga ai
 have hr:=Rt.ext hr ai id
 have k:=k.gb ai
 have a:gz w4 J 165 ((([]:List Bytes)++List.replicate (n-0) zeros).flatMap ge):=by(rw[cB,bB,flat_rep];exact a)
 have a7:¬F J:=fun e=>by have:=S _ e;omega
 refine km rfl (gl (jd rfl (j8 ?_)))
 refine jj (α:=Nat×ku×List Bytes) [0,4,5,7,28] rfl (fun z=>[(29,.int .i64 (z.1:Int))]) (fun z u=>(z.1≤n∧At u d F z.2.1∧z.2.1.Ok (m+2+z.1)∧z.2.2.length=z.1∧(∀b∈z.2.2,b.length=64)∧yf D1 (uj t n) n=((yf z.2.1 ((uj t n:Int)+(z.1:Nat)) (n-z.1)).1,z.2.2++(yf z.2.1 ((uj t n:Int)+(z.1:Nat)) (n-z.1)).2.1,(yf z.2.1 ((uj t n:Int)+(z.1:Nat)) (n-z.1)).2.2)∧Rt u)∧gz u b4 155 ([.pointer (some ⟨d,0,none⟩),.int .i64 (n:Int)])∧gz u J 165 ((z.2.2++List.replicate (n-z.1) zeros).flatMap ge)∧Ext F w u) (fun z u=>n-z.1) (0,D1,[]) rfl ⟨⟨aJ _,p,ap,rfl,(fun b hb=>by cases hb),by simp,hr⟩,g,a,k⟩ ?_
 rintro⟨i,Di,R⟩ w5 ⟨⟨hi,p,V,U,K,s,hr⟩,g,a,k⟩
 try dsimp only
 dsimp only at hi p V U K s
 refine jd rfl (gl (jl rfl (fun Q=> ?_) (fun Q=> ?_)))
 ·have a8:i<n:=by omega
  rw[show n-i=(n-(i+1))+1 from by omega,readsD_step] at s
  refine Ac (jd rfl (ki rfl (je g rfl rfl (j0 gc rfl ?_))))
  refine gh call120 rfl (yx8 w5 (.pointer (some ⟨d,0,none⟩)) n t zo ht rfl) fun v6 w6 c4=> ?_
  obtain⟨rfl,a9⟩:=c4
  have g:=g.ga a9
  have a:=a.ga a9
  have p:=p.ga a9
  have hr:=Rt.ext hr a9 id
  have k:=k.gb a9
  refine j0 gc rfl ?_
  rw[jz _ zo]
  refine gh call78 rfl (dkRead w6 p V zo ((uj t n:Int)+(i:Nat))) fun v7 w7 c5=> ?_
  obtain⟨rfl,p,ak⟩:=c5
  have g:=g.ext ak bg
  have a:=a.ext ak a7
  have k:=k.then ak
  have hr:=Rt.ext hr ak hF0
  obtain⟨x,hx⟩:∃x,x=Di.read ((uj t n:Int)+(i:Nat)):=⟨_,rfl⟩
  have W:=read_64 V ((uj t n:Int)+(i:Nat))
  have aa:=V.read ((uj t n:Int)+(i:Nat))
  rw[←hx] at s W aa p⊢
  obtain⟨D2,B,e2⟩:=x
  dsimp only at s W aa p⊢
  refine j0 gc rfl (ka rfl 64 rfl i rfl a8 (0+i*64) rfl ?_)
  refine wl (D3 gc a rfl (by rw[jh];exact qj W) (by rw[yx1 (pad64 K),pad_len zo U];show 0+i*64+64≤n*64;omega) (by rw[jh];exact Cb) fun w8 a al cv=> ?_)
  have g:=g.gj al aj
  have p:=p.ext al fun x hx e=>by have e:x=J:=e;subst e;exact a7 hx
  have hr:=Rt.ext hr al fun e=>by have e:0=J:=e;omega
  have k:=k.gi al bh
  have a:gz w8 J 165 (((R++[B])++List.replicate (n-(i+1)) zeros).flatMap ge):=(by rw[←yw3 a8 U K W];have e:=a;rw[bD] at e;simpa using e)
  refine km rfl (jd rfl (jl rfl (fun Q=> ?_) (fun Q=> ?_)))
  ·rw[aR Q] at s
   have ab:x7 D1 t n=(D2,e2,0,0,[]):=by
    unfold x7
    dsimp only
    rw[s,aR Q]
   rw[ab]
   refine jd rfl (j9 (gGl (zw2 (qe [_,_] ⟨rfl,rfl,trivial⟩ ?_))))
   exact⟨none,F,rfl,p,k,fun y o=> .inl o,fun _=>rfl,fun e=>absurd e Q⟩
  rw[aP Q] at s
  refine kc (Aa rfl ?_)
  rw[jz _ zo]
  refine gk ?_
  exact jk (i+1,D2,R++[B]) rfl ⟨⟨a8,p,aa,by simp[U],fun b hb=>(aY.1 hb).elim (K b) fun h=>by rw[aI.1 h];exact W,by rw[s];dsimp only;rw[show(uj t n:Int)+((i+1:Nat):Int)=(uj t n:Int)+(i:Nat)+1 from by omega,aV];rfl,hr⟩,g,a,k⟩ zf
 have a8:n=i:=by omega
 subst a8
 rw[Nat.sub_self] at s a
 have s:yf D1 (uj t n) n=(Di,R,0):=by rw[s];show(Di,R++[],(0:Int))=_;rw[bK]
 rw[List.replicate_zero,bK] at a
 refine Ak (ko (je g rfl rfl (j0 gc rfl ?_)))
 refine kg rfl ⟨⟨rfl,by decide⟩,⟨rfl,by decide⟩,trivial⟩ (l':=[.pointer (some ⟨d,0,none⟩),.int .i64 (n:Int),.int .u32 (t:Int),.slice none 0 0,.int .i64 (0:Int),.bool false]) rfl ?_
 refine gw rfl fun L w9 a1 f ac=> ?_
 have a2:=j2 g.lt a1
 have X:=j2 a.lt a1
 have ad:=aA k.size a1
 have g:=g.ga ac
 have a:=a.ga ac
 have p:=p.ga ac
 have hr:=Rt.ext hr ac id
 have k:=k.gb ac
 have f:gz w9 L 162 ([.pointer (some ⟨d,0,none⟩),.int .i64 (n:Int),.int .u32 (t:Int),.slice none ([]:List Bytes).length 0,.int .i64 (ug []:Int),.bool false]):=f
 have au:¬F L:=fun e=>by have:=S _ e;omega
 have cf:=a1
 have cg:=k.size
 refine km rfl (gl (c_label (jp (gl (j8 ?_)))))
 refine jj (α:=List Bytes×Option Addr×Nat×List Value) [5,7,9] rfl (fun z=>[]) (fun z u=>(ug z.1≤n∧z.1.length≤ug z.1∧(∀b∈z.1,b.length≤40000)∧lyingB R t=z.1++lyGo t (R.length-z.1.length) (R.drop (ug z.1)) z.1.length∧At u d F Di∧Rt u∧Own u z.2.1 z.1.length z.2.2.1 41 1 z.2.2.2∧(∀y,jb z.2.1 y→w.heap.size≤y)∧qr u (fun y=>w.heap.size≤y∧y<u.heap.size) z.1 z.2.2.2)∧gz u b4 155 ([.pointer (some ⟨d,0,none⟩),.int .i64 (n:Int)])∧gz u J 165 (R.flatMap ge)∧gz u L 162 ([.pointer (some ⟨d,0,none⟩),.int .i64 (n:Int),.int .u32 (t:Int),.slice z.2.1 z.1.length z.2.2.1,.int .i64 (ug z.1:Int),.bool false])∧Ext F w u) (fun z u=>n-ug z.1) ([],none,0,[]) rfl ⟨⟨aJ _,aD _,(fun b hb=>by cases hb),rfl,p,hr,Own.nil _ _ _,noOwnB,⟨rfl,fun i b v h=>by cases h⟩⟩,g,a,f,k⟩ ?_
 rintro⟨G,q,cq,ae⟩ cw ⟨⟨b3,c6,bi,Z,p,hr,j,a5,r⟩,g,a,f,k⟩
 try dsimp only
 dsimp only at b3 c6 bi Z j a5 r f
 have am:(R.drop (ug G)).length=n-ug G:=by rw[aX,U]
 have a3:∀b∈R.drop (ug G),b.length=64:=fun b hb=>K b (dO hb)
 rw[lyGo_step t _ _ _ a3 (by rw[am,U];omega)] at Z
 refine j8 (gl ?_)
 refine jr rfl 19 [qP 0,qP 1,qP 2,qP 3,qP 4,qP 5,qP 6,qP 7,qP 8,qP 9,qP 10,qP 11,qP 12,(13,false),qP 14,qP 15,qP 16,qP 17,qP 18] [] (No) zk fun af H ch=> ?_
 have a4:=f
 have g:=g.ga H
 have a:=a.ga H
 have f:=f.ga H
 have p:=p.ga H
 have hr:=Rt.ext hr H id
 have r:=qr.mono (H':=fun y=>w.heap.size≤y∧y<af.heap.size) (r.ext H fun _ _ _=>id) fun y o=>And.intro o.1 (aM o.2 H.size)
 have j:=j.ext H fun _ _=>id
 have k:=k.gb H
 have hC:Ext (No) _ af:=H.no
 refine gt gc 4 rfl (j3 gc rfl rfl (fun w' ag=>((a4.ga ag).cell rfl)) ?_)
 refine D8 gc rfl rfl (ug G) n n 64 rfl (.inr ⟨rfl,rfl⟩) (.inr ⟨rfl,rfl⟩) (.inl rfl) b3 (aD _) (aD _) ?_
 dsimp only
 rw[←am]
 refine gt gc 4 rfl (j3 gc rfl rfl (fun w' ag=>((a4.ga ag).cell rfl)) ?_)
 refine gt gc 2 rfl ?_
 rw[wrap32 G.length zo]
 have c7:Sl af (u6 (some ⟨J,0,none⟩) (ug G) n 64) (R.drop (ug G)).length 64 ((R.drop (ug G)).flatMap ge):=by
  have c8:Sl af (some ⟨J,0,none⟩) n 64 (R.flatMap ge):=⟨by rw[yx1 K,U],.inr ⟨J,0,rfl,a.kj⟩⟩
  have e:=c8.slice (ug G) n n b3 (aD _) (aD _)
  rw[xq0 _ _ K,aO (by rw[yx1 a3,am];exact aD _),←am] at e
  exact e
 have cx:=k.size
 refine jo rfl (j1 call136 rfl (lies_calls' af (c:=(R.drop (ug G)).length) c7 a3 (aD _) zo ht (n:=G.length) zo hr) fun cy a0 av=>⟨(by obtain⟨qp,kp,rfl,b5,A⟩:=av;exact hC.gb A),?_⟩)
 obtain⟨qp,kp,rfl,b5,A⟩:=av
 have g:=g.ga A
 have a:=a.ga A
 have f:=f.ga A
 have p:=p.ga A
 have hr:=Rt.ext hr A id
 have r:=qr.mono (H':=fun y=>w.heap.size≤y∧y<a0.heap.size) (r.ext A fun _ _ _=>id) fun y o=>And.intro o.1 (aM o.2 A.size)
 have j:=j.ext A fun _ _=>id
 have k:=k.gb A
 have hC:=hC.gb A
 refine gt gc 5 rfl (jg (j5 (jp (gl (jd rfl (ud rfl (fun Q=> ?_) (fun Q=> ?_)))))))
 ·have an:zx0 (R.drop (ug G)) t G.length=none:=by
   cases hl:zx0 (R.drop (ug G)) t G.length with
   |none=>rfl
   |some b=>rw[hl] at Q;cases Q
  rw[an,bK] at Z
  refine y8 (ql (f_blockE' rfl (ql (ve (jp (gl (ki rfl (gu rfl (f.cell rfl) (km rfl (jl rfl (fun Q=> ?_) (fun Q=> ?_)))))))))))
  ·have b6:G=[]:=aZ zo
   have ab:x7 D1 t n=(Di,140,0,0,[]):=by
    unfold x7
    dsimp only
    rw[s,aP zp,Z,aR b6]
   rw[ab]
   refine jd rfl (j9 (j7 (zw2 (qe [_,_] ⟨rfl,rfl,trivial⟩ ?_))))
   exact⟨none,F,rfl,p,k,fun y o=> .inl o,fun _=>rfl,fun e=>absurd (show(140:Int)=0 from e) zd⟩
  have b6:G≠[]:=fun e=>Q (by rw[e];rfl)
  obtain⟨C,hC⟩:∃C,C=D5 Di ((uj t n+ug G:Nat):Int) (R.drop (ug G)):=⟨_,rfl⟩
  have ab:x7 D1 t n=(C.1,C.2,t,n,G):=by
   unfold x7
   dsimp only
   rw[s,aP zp,Z,aP b6,hC]
  rw[ab]
  have aw:ye a0 L d (fun y=>w.heap.size≤y∧y<a0.heap.size) ⟨Di,n,t,G,ug G,false⟩:=⟨⟨q,cq,ae,f,j,r,fun y o=>⟨a5 y o,j.lt o⟩⟩,⟨ad,f.lt⟩,fun y o=>o.2⟩
  have bj:Sl a0 (some ⟨J,0,none⟩) R.length 64 (R.flatMap ge):=⟨yx1 K,.inr ⟨J,0,rfl,a.kj⟩⟩
  have c9:=k.size
  refine x3 (gl (ki rfl ?_))
  rw[show Value.slice (some ⟨J,0,none⟩) n n= .slice (some ⟨J,0,none⟩) R.length n from by rw[U]]
  refine gh call137 rfl (clean_calls a0 (c:=n) aw p V (by rw[U];omega) bj K zo zn zo zn ht (fun y o e=>by have:=S y e;have:=o.1;omega) (fun y ao e _ h=>by cases e;exact a7 h)) fun cz d0 bk=> ?_
  obtain⟨rfl,F2,b7,ax,bm⟩:=bk
  rw[←hC] at b7⊢
  have k:=k.then ax
  have b8:=aw.ext ax fun y o e=>by have:=S y e;have:=o.1;omega
  have bn:=A3 (fun y=> .inl) c9 bm
  refine km rfl (jd rfl (jl rfl (fun Q=> ?_) (fun Q=> ?_)))
  ·refine gl ?_
   refine gy (vr rfl (j7 (zw2 (qe [_,_] ⟨rfl,rfl,trivial⟩ ?_))))
   exact⟨none,F2,rfl,b7,k,bn,fun _=>rfl,fun e=>absurd e Q⟩
  refine kc ?_
  refine jp (jd rfl (j9 (zw2 (qe [_,_] ⟨rfl,rfl,trivial⟩ ?_))))
  have bo:C.2=0:=aS.1 Q
  refine⟨some ⟨L,0,none⟩,F2,by dsimp only;rw[bo];rfl,b7,k,bn,fun e=>absurd bo e,fun _=>⟨L,_,rfl,b8.data rfl rfl rfl rfl rfl,fun y o=>⟨o.1,fun e=> ?_⟩⟩⟩
  rcases bm y e with e|e
  ·have:=S y e;have:=o.1;omega
  have:=o.2;omega
 obtain⟨b,an⟩:∃b,zx0 (R.drop (ug G)) t G.length=some b:=by
  cases hl:zx0 (R.drop (ug G)) t G.length with
  |none=>rw[hl] at Q;cases Q
  |some b=>exact⟨b,rfl⟩
 rw[an] at Z b5⊢
 obtain⟨ay,d1,_⟩:=liesB_some a3 an
 have d2:=Df ay
 obtain⟨ca,bp,ah⟩:=b5 b rfl
 have cb:yq a0 (fun y=>w.heap.size≤y∧y<a0.heap.size) (.slice qp b.length kp) b:=⟨qp,kp,rfl,ca,bp,fun y ao e=>⟨⟨by have:=(ah y ao e).1;omega,(ah y ao e).2.lt⟩,(ah y ao e).2⟩⟩
 dsimp only[Option.getD_some]
 have r:=r.snoc cb
 refine x3 (ki rfl (gu rfl (f.cell rfl) (j0 gc rfl ?_)))
 have ci:=fun y (o:jb q y)=>j.lt o
 refine wl (qi gc rfl 1 rfl rfl rfl zd zd zt (l':=[.slice qp b.length kp]) rfl fun cc cd cj bq M ck=> ?_)
 have g:=g.ga M
 have a:=a.ga M
 have f:=f.ga M
 have p:=p.ga M
 have hr:=Rt.ext hr M id
 have r:=qr.mono (H':=fun y=>w.heap.size≤y∧y<cd.heap.size) (r.ext M fun _ _ _=>id) fun y o=>And.intro o.1 (aM o.2 M.size)
 have j:=j.ext M fun _ _=>id
 have k:=k.gb M
 have d3:=k.size
 refine wl (va gc rfl 1 24 rfl rfl rfl zd j (Src.slice (m:=1) ⟨rfl,.inr ⟨cc,0,rfl,bq.kj⟩⟩ OneC.h) zm zn fun b9 br bs bt N bu=> ?_)
 have g:=g.ext N fun e=>(Own.ty j e).ne g zd rfl
 have a:=a.ext N fun e=>(Own.ty j e).ne a zd rfl
 have f:=f.ext N fun e=>(Own.ty j e).ne f zd rfl
 have k:=k.trans N fun y o e=>by have:=a5 y e;omega
 have p:=p.ext N fun y o e=>by have:=a5 y e;have:=S y o;omega
 have hr:=Rt.ext hr N fun e=>by have:=a5 _ e;omega
 have r:=qr.mono (H':=fun y=>w.heap.size≤y∧y<bs.heap.size) (r.ext N fun y o ht h=>by obtain⟨l,hl⟩:=Own.ty j h;exact ht.ne hl zd rfl) fun y o=>And.intro o.1 (aM o.2 N.size)
 have az:∀y,jb b9 y→w.heap.size≤y:=fun y o=>(bu y o).elim (a5 y) fun e=>by omega
 have j:Own bs b9 (G++[b]).length br 41 1 (ae++[.slice qp b.length kp]):=by rw[aB];exact bt
 dsimp only
 refine j0 gc rfl ?_
 have T:=f
 obtain⟨pn,bv⟩:∃pn,pn=b9:=⟨_,rfl⟩
 obtain⟨cn,bw⟩:∃cn,cn=br:=⟨_,rfl⟩
 rw[←bv] at j az⊢
 rw[←bw] at j⊢
 refine kl f rfl rfl rfl fun bx f O cl=> ?_
 have g:=g.gj O a2
 have a:=a.gj O X
 have p:=p.ext O fun x hx e=>by have e:x=L:=e;subst e;exact au hx
 have hr:=Rt.ext hr O fun e=>by have e:0=L:=e;omega
 have r:=qr.mono (H':=fun y=>w.heap.size≤y∧y<bx.heap.size) (r.ext O fun y o ht h=>by have h:y=L:=h;subst h;exact ht.ne T zd rfl) fun y o=>And.intro o.1 (aM o.2 O.size)
 have j:=j.ju O T zd
 have k:=k.gi O ad
 have f:gz bx L 162 ([.pointer (some ⟨d,0,none⟩),.int .i64 (n:Int),.int .u32 (t:Int),.slice pn (G++[b]).length cn,.int .i64 (ug G:Int),.bool false]):=by(rw[aB];exact f)
 refine qq (jr rfl 10 [qP 0,qP 1,qP 2,qP 3,qP 4,qP 5,(6,false),qP 7,qP 8,qP 9] [10] (No) zk fun ba I cm=> ?_)
 have a4:=f
 have g:=g.ga I
 have a:=a.ga I
 have f:=f.ga I
 have p:=p.ga I
 have hr:=Rt.ext hr I id
 have r:=qr.mono (H':=fun y=>w.heap.size≤y∧y<ba.heap.size) (r.ext I fun _ _ _=>id) fun y o=>And.intro o.1 (aM o.2 I.size)
 have j:=j.ext I fun _ _=>id
 have k:=k.gb I
 have hC:Ext (No) _ ba:=I.no
 refine gt gc 3 rfl (j3 gc rfl rfl (fun w' ag=>((a4.ext ag id).cell rfl)) ?_)
 refine gt gc 2 rfl (jo rfl (j1 call65 rfl (xb ba (b.length:Int)) fun d4 ce b0=>⟨(by obtain⟨rfl,E⟩:=b0;exact hC.gb E),?_⟩))
 obtain⟨rfl,E⟩:=b0
 have g:=g.ga E
 have a:=a.ga E
 have f:=f.ga E
 have p:=p.ga E
 have hr:=Rt.ext hr E id
 have r:=qr.mono (H':=fun y=>w.heap.size≤y∧y<ce.heap.size) (r.ext E fun _ _ _=>id) fun y o=>And.intro o.1 (aM o.2 E.size)
 have j:=j.ext E fun _ _=>id
 have k:=k.gb E
 rw[B8]
 refine gt gc 1 rfl ?_
 rw[show IntKind.i64.wrap ((ug G:Int)+(kw b.length:Int))=(ug (G++[b]):Int) from by rw[jz _ zo,Cd];omega]
 refine gt gc 2 rfl (jg ?_)
 have T:=f
 refine wb rfl (yi gc f rfl rfl rfl fun bz f P co=> ?_)
 have g:=g.gj P a2
 have a:=a.gj P X
 have p:=p.ext P fun x hx e=>by have e:x=L:=e;subst e;exact au hx
 have hr:=Rt.ext hr P fun e=>by have e:0=L:=e;omega
 have r:=qr.mono (H':=fun y=>w.heap.size≤y∧y<bz.heap.size) (r.ext P fun y o ht h=>by have h:y=L:=h;subst h;exact ht.ne T zd rfl) fun y o=>And.intro o.1 (aM o.2 P.size)
 have j:=j.ju P T zd
 have k:=k.gi P ad
 have f:gz bz L 162 ([.pointer (some ⟨d,0,none⟩),.int .i64 (n:Int),.int .u32 (t:Int),.slice pn (G++[b]).length cn,.int .i64 (ug (G++[b]):Int),.bool false]):=f
 refine j5 ?_
 exact js (jk (G++[b],pn,cn,ae++[.slice qp b.length kp]) rfl ⟨⟨by dsimp only;rw[Cd];omega,by dsimp only;rw[Cd,aB];simp only[aW,List.length_nil];omega,fun x hx=>(aY.1 hx).elim (bi x) fun h=>by rw[aI.1 h];exact ay,by dsimp only;rw[Z];dsimp only;rw[Cd,aB,List.drop_drop,aV,Nat.sub_sub];rfl,p,hr,j,az,r⟩,g,a,f,k⟩ (by dsimp only;rw[Cd];omega))
theorem does1_calls (w:World) {bx be x:Nat} {e:Int} {a0 a1 a2 a3 a4:Value} {b0:Bool} (hbx:gz w bx 58 [.pointer (some ⟨x,0,none⟩)]) (hbe:gz w be 38 [.int .i64 e]) (hb:gz w x 162 [a0,a1,a2,a3,a4,.bool b0]):
  CallsDIn Fence.wide 8 prog 177 #[.pointer (some ⟨be,0,none⟩),.pointer (some ⟨bx,0,none⟩)] .returning w fun e' u' w'=>u'= .returning∧Rv (fun _ w'=>gz w' x 162 [a0,a1,a2,a3,a4,.bool (decide (e≠0))]∧Ext (One x) w w') e' w':=by
 refine callsD_enter func177 rfl rfl rfl rfl ?_
 have a:=Ext.refl (One x) w
 refine gy (gu rfl (hbx.cell rfl) (gu rfl (hbe.cell rfl) (j0 gc rfl (wl (qz gc hb rfl rfl (cV (by decide:0+(4+1)<6) rfl) fun d hb b c=> ?_)))))
 have a:=a.trans b fun y f h=>h
 refine gk (z6 rfl ?_)
 exact⟨hb,a⟩
theorem does_calls (w:World) {x d gf:Nat} {H F:Nat→Prop} {W:Wl} {cap:Array Value} {e:Int} {D':ku} (h:ye w x d H W) (hFlt:∀y,F y→y<w.heap.size) (hHF:∀y,H y→¬F y)
  (hcf:∀args w,(callFunc gf args).run prog w= .ok (.enter gf args) w) (hwhat:∀w1,Ext No w w1→gn prog gf cap.toList w1 fun v w2=>v= .int .i64 e∧DkQ w1 d F D' w2):
  gn prog 117 [.pointer (some ⟨x,0,none⟩),.func (.func gf) #[] cap] w fun v w'=>v= .int .i64 e∧∃F',At w' d F' D'∧(∀y,F' y→F y∨w.heap.size≤y)∧ye w' x d H {W with broken:=decide (e≠0)}∧(∀y,H y→¬F' y)∧Ext (fun y=>F y∨y=x) w w':=by
 refine Db func117 rfl rfl rfl rfl ?_
 have i:=Ext.refl (fun y=>F y∨y=x) w
 have f:=Ext.refl No w
 refine ko (gw rfl fun S w1 T a z=> ?_)
 have f:=f.gb z
 have i:=i.gb z
 refine gw rfl fun u w2 A b p=> ?_
 have r:=j2 a.lt A
 have L:=aA i.size A
 have a:=a.ga p
 have f:=f.gb p
 have i:=i.gb p
 refine qq (ki rfl (wl_defer rfl rfl rfl rfl (qq (ki rfl ?_))))
 have M:¬F S:=fun e=>by have:=hFlt _ e;omega
 have B:¬F u:=fun e=>by have:=hFlt _ e;omega
 have U:=i.size
 have C:=b
 refine gh hcf rfl (hwhat w2 f) fun v3 w3 N=> ?_
 obtain⟨rfl,O,s,m,n⟩:=N
 have a:=a.ext m M
 have b:=b.ext m B
 have i:=i.then (m.mono fun y _ e=> .inl e)
 have j:=(h.ga f).ext m hHF
 have D:¬O u:=Al B C.lt n
 refine kl b rfl rfl rfl fun V b o X=> ?_
 have a:=a.gj o r
 have j:=j.ext o fun y c e=>by have e:y=u:=e;have:=h.lt y c;omega
 have s:=s.ext o fun y c e=>by have e:y=u:=e;subst e;exact D c
 have i:=i.gi o L
 refine qq (j9 ?_)
 obtain⟨⟨q,Y,E,t,G,P,Q⟩,k,I⟩:=j
 refine f_retD [.int .i64 e] call177 (does1_calls V a b (a0:= .pointer (some ⟨d,0,none⟩)) t) (fun v w5 Z=> ?_)
 obtain⟨J,g⟩:=Z
 have R:¬O x:=fun e=>(n x e).elim (hHF x k) fun e=>by have:=I x k;have:=h.lt x k;omega
 have K:=b.ext g fun e=>by have e:u=x:=e;have:=h.lt x k;omega
 refine⟨⟨⟨u,0,rfl,zx3 gc rfl rfl (K.cell rfl)⟩,trivial⟩,rfl,O,s.ext g fun y c e=>by have e:y=x:=e;subst e;exact R c,fun y c=>(n y c).imp id zo,⟨⟨q,Y,E,J,?_,?_,Q⟩,k,fun y c=>aM (I y c) g.size⟩,fun y c e=>(n y e).elim (hHF y c) fun e=>by have:=h.lt y c;omega,i.then (g.mono fun y _ e=> .inr e)⟩
 ·exact G.ext g fun y c e=>by have e:y=x:=e;subst e;obtain⟨l,hl⟩:=Own.ty G c;exact absurd rfl (hl.ne t zd)
 exact P.ext g fun y _ ht e=>by have e:y=x:=e;subst e;exact absurd rfl (ht.ne t zd)
theorem app1_calls (w:World) {bx bb x d m c:Nat} {H F:Nat→Prop} {W:Wl} {p:Option Addr} {b:Bytes} (hbx:gz w bx 58 [.pointer (some ⟨x,0,none⟩)]) (hbb:gz w bb 41 [.slice p b.length c]) (h:ye w x d H W) (hA:At w d F W.D) (hok:W.D.Ok m) (hm:m+2000<1000000000) (hW:Wl.Ok W) (hs:ux w p b) (hbl:b.length≤40000) (hr:Rt w) (hF0:¬F 0) (hF1:¬F bx) (hF2:¬F bb) (hHF:∀y,H y→¬F y):
  gn prog 119 [.pointer (some ⟨bx,0,none⟩),.pointer (some ⟨bb,0,none⟩)] w fun v w'=>v= .int .i64 (Br W.D ((uj W.turn W.size+W.used:Nat):Int) (vk W.turn W.pieces.length b)).2∧DkQ w d F (Br W.D ((uj W.turn W.size+W.used:Nat):Int) (vk W.turn W.pieces.length b)).1 w':=by
 refine gx func119 ?_
 have t:=Ext.refl F w
 have a0:=zx6 b.length
 have O:=hr.lt
 have Y:=hA.lt
 obtain⟨a1,a2⟩:=hW.size
 have a3:=hW.few
 have a4:=hW.room
 have B:=hW.turn
 have a5:uj W.turn W.size≤2+W.size:=by unfold uj;split<;>omega
 obtain⟨⟨q,cq,Z,P,a6,a7,a8⟩,Q,a9⟩:=h
 have s:=hHF x Q
 have R:=P
 have S:=hbx
 have T:=hbb
 have j:=hA
 have k:=hs
 have l:=hr
 refine jd rfl (gl ?_)
 refine jr rfl 32 [qP 0,qP 1,qP 2,qP 3,qP 4,qP 5,qP 6,qP 7,qP 8,qP 9,qP 10,qP 11,qP 13,qP 14,qP 15,qP 16,qP 18,qP 19,qP 20,qP 21,qP 22,qP 23,qP 24,qP 25,qP 26,qP 27,qP 28,(12,false),qP 17,(29,false),(30,false),qP 31] [] (F) zk fun N f aa=> ?_
 have g:=R
 have i:=S
 have C:=T
 have j:=j.ga f
 have k:=k.ga f
 have l:=Rt.ext l f id
 have t:=t.gb f
 have z:Ext (F) _ N:=f.no
 refine j3 gc rfl rfl (fun w' a=>((i.ext a hF1).cell rfl)) ?_
 refine gt gc 2 rfl (qa gc rfl rfl (fun w' a=>((g.ext a s).kj.take 2)) rfl ?_)
 refine j3 gc rfl rfl (fun w' a=>((i.ext a hF1).cell rfl)) ?_
 refine gt gc 2 rfl (qa gc rfl rfl (fun w' a=>((g.ext a s).kj.take 2)) rfl ?_)
 refine j3 gc rfl rfl (fun w' a=>((i.ext a hF1).cell rfl)) ?_
 refine gt gc 2 rfl (j3 gc rfl rfl (fun w' a=>((g.ext a s).cell rfl)) ?_)
 refine j3 gc rfl rfl (fun w' a=>((i.ext a hF1).cell rfl)) ?_
 refine gt gc 2 rfl (j3 gc rfl rfl (fun w' a=>((g.ext a s).cell rfl)) ?_)
 refine j3 gc rfl rfl (fun w' a=>((i.ext a hF1).cell rfl)) ?_
 refine gt gc 2 rfl (j3 gc rfl rfl (fun w' a=>((g.ext a s).cell rfl)) ?_)
 refine j3 gc rfl rfl (fun w' a=>((i.ext a hF1).cell rfl)) ?_
 refine gt gc 2 rfl (j3 gc rfl rfl (fun w' a=>((g.ext a s).cell rfl)) ?_)
 refine gt gc 2 rfl ?_
 rw[wrap32 W.pieces.length zo]
 refine j3 gc rfl rfl (fun w' a=>((C.ext a hF2).cell rfl)) ?_
 refine jo rfl (j1 call120 rfl (yx8 N (.pointer (some ⟨d,0,none⟩)) W.size W.turn zo B rfl) fun v2 w2 E=>⟨(by obtain⟨rfl,o⟩:=E;exact z.gb o),?_⟩)
 obtain⟨rfl,o⟩:=E
 have j:=j.ga o
 have k:=k.ga o
 have l:=Rt.ext l o id
 have t:=t.gb o
 have z:=z.gb o
 refine gt gc 1 rfl ?_
 rw[show IntKind.i64.wrap ((uj W.turn W.size:Int)+(W.used:Int))=((uj W.turn W.size+W.used:Nat):Int) from by rw[jz _ zo];omega]
 refine jo rfl (j1 call121 rfl (yv8 w2 W.turn W.pieces.length (p:=p) (m:=b.length) (c:=c)) fun v3 w3 G=>⟨(by obtain⟨U,bt,bn,rfl,V,u,I,J,r⟩:=G;exact z.gb r),?_⟩)
 obtain⟨U,bt,bn,rfl,V,u,I,J,r⟩:=G
 have j:=j.ga r
 have k:=k.ga r
 have l:=Rt.ext l r id
 have t:=t.gb r
 have z:=z.gb r
 have X:=t.size
 refine jo rfl (j1 call71 rfl (xx7 w3 (n:=W.size) (L:=vk W.turn W.pieces.length b) (own:=fun x=>x=0) j hok (by rw[xc];omega) ((uj W.turn W.size+W.used:Nat):Int) zo (zq5 _ _ b) call178 (fun N f=>by rw[xc];exact xw1 N (u.ga f) (I.ga f) (J.ga f) (k.ga f) B zo hbl (l.ext f id)) (fun x e=>by subst e;exact⟨aM O (by have:=t.size;omega),hF0⟩)) fun v4 w4 K=>⟨(by obtain⟨rfl,F2,h2,A,M⟩:=K;exact z.then A),?_⟩)
 obtain⟨rfl,F2,h2,A,M⟩:=K
 have t:=t.then A
 refine gt gc 1 rfl (jg (j5 (jp (j9 (gv rfl rfl ?_)))))
 exact⟨rfl,F2,h2,t,A3 (fun x=> .inl) X M⟩
theorem append_no {W:Wl} {b:Bytes} (h:W.refuses b ((W.size:Int)-W.used)≠0):W.append b=(W,W.refuses b ((W.size:Int)-W.used)):=aR h
theorem append_bad {W:Wl} {b:Bytes} (h:W.refuses b ((W.size:Int)-W.used)=0) {y:ku×Int} (hy:y=Br W.D ((uj W.turn W.size+W.used:Nat):Int) (vk W.turn W.pieces.length b)) (h2:y.2≠0):W.append b=({W with D:=y.1,broken:=true},y.2):=by
 unfold Wl.append;dsimp only;rw[aP (fun e=>e h),←hy,aR h2]
theorem append_ok {W:Wl} {b:Bytes} (h:W.refuses b ((W.size:Int)-W.used)=0) {y:ku×Int} (hy:y=Br W.D ((uj W.turn W.size+W.used:Nat):Int) (vk W.turn W.pieces.length b)) (h2:y.2=0):W.append b=({W with D:=y.1,broken:=false,pieces:=W.pieces++[b],used:=W.used+kw b.length},0):=by
 unfold Wl.append;dsimp only;rw[aP (fun e=>e h),←hy,aP (fun e=>e h2)]
def LogQ (w:World) (x d:Nat) (F H:Nat→Prop) (r:Wl×Int) (v:Value) (w':World):Prop:=
  v= .int .i64 r.2∧∃F' H':Nat→Prop,At w' d F' r.1.D∧ye w' x d H' r.1∧(∀y,F' y→F y∨w.heap.size≤y)∧(∀y,H' y→H y∨w.heap.size≤y)∧(∀y,H' y→¬F' y)∧Ext (fun y=>F y∨H y) w w'
theorem yq.ofOwn {u:World} {H:Nat→Prop} {q:Option Addr} {k:Nat} {b:Bytes} (ho:Own u q b.length k 5 1 (ge b)) (hH:∀y,jb q y→H y):yq u H (.slice q b.length k) b:=by
 refine⟨q,k,rfl,ho.cap,ho.sl,fun y d e=> ?_⟩
 have c:jb q y:=by
  rcases ho with⟨a,_⟩|⟨f,l,a,_⟩
  ·rw[a] at e;cases e
  rw[a] at e;cases e;exact a
 exact⟨hH y c,Own.ty ho c⟩
theorem append_calls (w:World) {x d m c:Nat} {H F:Nat→Prop} {W:Wl} {p:Option Addr} {b:Bytes} (h:ye w x d H W) (hA:At w d F W.D) (hok:W.D.Ok m) (hm:m+2000<1000000000) (hW:Wl.Ok W) (hs:ux w p b) (hbl:b.length<1000000000) (hr:Rt w) (hF0:¬F 0) (hHF:∀y,H y→¬F y) (hpF:∀y off,p=some ⟨y,off,none⟩→¬F y∧¬H y):
  gn prog 39 [.pointer (some ⟨x,0,none⟩),.slice p b.length c] w fun v w'=>LogQ w x d F H (W.append b) v w':=by
 refine gx func39 ?_
 have hX:=Ext.refl (fun y=>F y∨H y) w
 have hsl:=zx6 b.length
 have hFlt:=hA.lt
 have hHlt:=h.lt
 obtain⟨hz1,hz2⟩:=hW.size
 have hz3:=hW.few
 have hz4:=hW.room
 have hxH:=h.own
 have hlog:=h
 have hat:=hA
 have hsb:=hs
 have hrt:=hr
 refine ko (gw rfl fun b2 w1 hn2 hb2 hE1=> ?_)
 have fr2:=aA hX.size hn2
 have hlog:=hlog.ga hE1
 have hat:=hat.ga hE1
 have hsb:=hsb.ga hE1
 have hrt:=Rt.ext hrt hE1 id
 have hX:=hX.gb hE1
 have hb2:gz w1 b2 58 ([.pointer (some ⟨x,0,none⟩)]):=hb2
 refine gw rfl fun b3 w2 hn3 hb3 hE2=> ?_
 have ne2_3:=j2 hb2.lt hn3
 have fr3:=aA hX.size hn3
 have hb2:=hb2.ga hE2
 have hlog:=hlog.ga hE2
 have hat:=hat.ga hE2
 have hsb:=hsb.ga hE2
 have hrt:=Rt.ext hrt hE2 id
 have hX:=hX.gb hE2
 have hb3:gz w2 b3 41 ([.slice p b.length c]):=hb3
 refine km rfl (gl (ko (j6 hb2 rfl rfl (j6 hb3 rfl rfl ?_))))
 refine gh call116 rfl (ready_calls w2 hlog (p:=p) (n:=b.length) (k:=c)) fun v3 w3 hr3=> ?_
 obtain⟨rfl,hE3⟩:=hr3
 have hb2:=hb2.ga hE3
 have hb3:=hb3.ga hE3
 have hlog:=hlog.ga hE3
 have hat:=hat.ga hE3
 have hsb:=hsb.ga hE3
 have hrt:=Rt.ext hrt hE3 id
 have hX:=hX.gb hE3
 refine km rfl (jd rfl (jl rfl (fun hc=> ?_) (fun hc=> ?_)))
 ·refine gl ?_
  refine gy (vr rfl (j7 (gv rfl rfl ?_)))
  have hre:W.refuses b ((W.size:Int)-W.used)=if 40000<b.length then(3:Int) else if W.broken=true then 8 else 0:=by
   unfold Wl.refuses
   by_cases h1:40000<b.length
   ·rw[aR h1,aR h1]
   rw[aP h1,aP h1] at*
   by_cases h2:W.broken=true
   ·rw[aR h2,aR h2]
   rw[aP h2] at hc;exact absurd rfl hc
  rw[append_no (by rw[hre];exact hc),hre]
  exact⟨rfl,F,H,hat,hlog,fun y=> .inl,fun y=> .inl,hHF,hX⟩
 have hc0:(if 40000<b.length then(3:Int) else if W.broken=true then 8 else 0)=0:=aS.1 hc
 have hb40:b.length≤40000:=by
  rcases bF 40000 b.length with h1|h1
  ·rw[aR h1] at hc0;cases hc0
  exact h1
 rw[aP zo] at hc0
 have hbr:¬W.broken=true:=fun e=>by rw[aR e] at hc0;cases hc0
 have hre:W.refuses b ((W.size:Int)-W.used)=if(W.size:Int)-W.used<kw b.length then 6 else 0:=by unfold Wl.refuses;rw[aP zo,aP hbr]
 have hF1:¬(F b2∨H b2):=fun e=>by rcases e with e|e;have:=hFlt _ e;omega;have:=hHlt _ e;omega
 have hF2:¬(F b3∨H b3):=fun e=>by rcases e with e|e;have:=hFlt _ e;omega;have:=hHlt _ e;omega
 refine x3 (gl (gl (jr rfl 6 [qP 0,qP 1,qP 3,(2,false),(4,false),qP 5] [] (No) zk fun w4 hE4 hs4=> ?_)))
 have hd2:=hb2
 have hd3:=hb3
 have hlogd:=hlog
 have hatd:=hat
 have hsbd:=hsb
 have hrtd:=hrt
 have hXd:=hX
 have hb2:=hb2.ga hE4
 have hb3:=hb3.ga hE4
 have hlog:=hlog.ga hE4
 have hat:=hat.ga hE4
 have hsb:=hsb.ga hE4
 have hrt:=Rt.ext hrt hE4 id
 have hX:=hX.gb hE4
 have hC:Ext (No) _ w4:=hE4.no
 refine j3 gc rfl rfl (fun w' hw'=>(hd3.ga hw').cell rfl) ?_
 refine gt gc 1 rfl (j3 gc rfl rfl (fun w' hw'=>(hd2.ga hw').cell rfl) ?_)
 refine jo rfl (j1 call65 rfl (xb w4 (b.length:Int)) fun v5 w5 hr5=>⟨(by obtain⟨rfl,hE5⟩:=hr5;exact hC.gb hE5),?_⟩)
 obtain⟨rfl,hE5⟩:=hr5
 have hb2:=hb2.ga hE5
 have hb3:=hb3.ga hE5
 have hlog:=hlog.ga hE5
 have hat:=hat.ga hE5
 have hsb:=hsb.ga hE5
 have hrt:=Rt.ext hrt hE5 id
 have hX:=hX.gb hE5
 have hC:=hC.gb hE5
 rw[B8]
 refine jo rfl (j1 call66 rfl (left_calls w5 hlog zo zo) fun v6 w6 hr6=>⟨(by obtain⟨rfl,hE6⟩:=hr6;exact hC.gb hE6),?_⟩)
 obtain⟨rfl,hE6⟩:=hr6
 have hb2:=hb2.ga hE6
 have hb3:=hb3.ga hE6
 have hlog:=hlog.ga hE6
 have hat:=hat.ga hE6
 have hsb:=hsb.ga hE6
 have hrt:=Rt.ext hrt hE6 id
 have hX:=hX.gb hE6
 have hC:=hC.gb hE6
 refine gt gc 1 rfl (jg (j5 (jp (jl rfl (fun hc=> ?_) (fun hc=> ?_)))))
 ·rw[aR hc] at hre
  refine jd rfl (j9 (j7 (gv rfl rfl ?_)))
  rw[append_no (by rw[hre];decide),hre]
  exact⟨rfl,F,H,hat,hlog,fun y=> .inl,fun y=> .inl,hHF,hX⟩
 rw[aP hc] at hre
 refine x3 (ko (j6 hb2 rfl rfl (j0 gc rfl ?_)))
 have hX1:=hX.size
 have l2:=hb2.lt
 have l3:=hb3.lt
 refine gh call117 rfl (does_calls w6 hlog hat.lt hHF call119 (fun w1 hE1=>app1_calls w1 (hb2.ga hE1) (hb3.ga hE1) (hlog.ga hE1) (hat.ga hE1) hok hm hW (hsb.ga hE1) hb40 (hrt.ext hE1 id) hF0 (fun e=>hF1 (.inl e)) (fun e=>hF2 (.inl e)) hHF)) fun v7 w7 hr7=> ?_
 obtain⟨rfl,F2,hat2,hFs,hlog2,hHF2,hE7⟩:=hr7
 obtain⟨y,hy⟩:∃y,y=Br W.D ((uj W.turn W.size+W.used:Nat):Int) (vk W.turn W.pieces.length b):=⟨_,rfl⟩
 rw[←hy] at hat2 hlog2⊢
 have hxb:∀z,F z∨z=x→F z∨H z:=fun z hz=>hz.imp id fun e=>by rw[e];exact hxH
 have hb2:=hb2.ext hE7 fun e=>hF1 (hxb _ e)
 have hb3:=hb3.ext hE7 fun e=>hF2 (hxb _ e)
 have hX:=hX.then (hE7.mono fun z _ e=>hxb z e)
 have hsb:ux w7 p b:=hsb.ext hE7 fun z off e hz=>(hxb z hz).elim (hpF z off e).1 (hpF z off e).2
 have hFs:=A3 (fun z=> .inl) hX1 hFs
 obtain⟨N,hN⟩:∃N,N=w7.heap.size:=⟨_,rfl⟩
 have hNw:w.heap.size≤N:=by rw[hN];exact hX.size
 have hF2lt:∀z,F2 z→z<N:=by rw[hN];exact hat2.lt
 refine km rfl ?_
 refine ji (α:=Wl×(Nat→Prop)) [6] rfl (fun z=>[]) (fun z u=>(ye u x d z.2 z.1∧At u d F2 z.1.D∧(∀y,z.2 y→H y∨w.heap.size≤y)∧(∀y,z.2 y→¬F2 y)∧W.append b=(z.1,y.2))∧gz u b2 58 ([.pointer (some ⟨x,0,none⟩)])∧gz u b3 41 ([.slice p b.length c])∧Ext (fun y=>F y∨H y) w u) ?_ ?_
 ·refine gl ?_
  refine gy (km rfl (jl rfl (fun hc=> ?_) (fun hc=> ?_)))
  ·have hy0:y.2=0:=hc
   obtain⟨⟨q,cq,rows,hlb,hrw,hps,hqH⟩,_,hHl2⟩:=id hlog2
   dsimp only at hlb hrw hps
   rw[show decide (y.2≠0)=false from bO fun e=>e hy0] at hlb
   have hxl:=hHlt x hxH
   have hqx:¬jb q x:=fun e=>(Own.ty hrw e).ne hlb zd rfl
   have hq2:¬jb q b2:=fun e=>by have:=hHlt _ (hqH _ e);omega
   have hq3:¬jb q b3:=fun e=>by have:=hHlt _ (hqH _ e);omega
   refine gl (jr rfl 11 [qP 0,qP 1,qP 2,qP 3,qP 4,qP 5,(6,false),(7,false),(8,false),qP 9,qP 10] [11] (fun z=>jb q z) zk fun w8 hE8 hs8=> ?_)
   have hd2:=hb2
   have hd3:=hb3
   have hlogd:=hlog
   have hatd:=hat
   have hsbd:=hsb
   have hrtd:=hrt
   have hlog2d:=hlog2
   have hat2d:=hat2
   have hlbd:=hlb
   have hrwd:=hrw
   have hpsd:=hps
   have hXd:=hX
   have hb2:=hb2.ga hE8
   have hb3:=hb3.ga hE8
   have hsb:=hsb.ga hE8
   have hat2:=hat2.ga hE8
   have hlb:=hlb.ga hE8
   have hrw:=hrw.ext hE8 fun _ _=>id
   have hps:=hps.ext hE8 fun _ _ _=>id
   have hX:=hX.gb hE8
   have hC:Ext (fun z=>jb q z) _ w8:=hE8.no
   refine j3 gc rfl rfl (fun w' hw'=>((hd2.ext hw' hq2).cell rfl)) ?_
   refine j3 gc rfl rfl (fun w' hw'=>((hd2.ext hw' hq2).cell rfl)) ?_
   refine gt gc 2 rfl (j3 gc rfl rfl (fun w' hw'=>((hlbd.ext hw' hqx).cell rfl)) ?_)
   refine j3 gc rfl rfl (fun w' hw'=>((hd3.ext hw' hq3).cell rfl)) ?_
   have hNs0:=hC.size
   refine jo rfl (j1 call35 rfl (xd w8 hsb hbl) fun v9 w9 hr9=>⟨(by obtain⟨q2,k2,rfl,ho2,hnq,hE9⟩:=hr9;exact hC.gb hE9),?_⟩)
   obtain⟨q2,k2,rfl,ho2,hnq,hE9⟩:=hr9
   have hb2:=hb2.ga hE9
   have hb3:=hb3.ga hE9
   have hsb:=hsb.ga hE9
   have hat2:=hat2.ga hE9
   have hlb:=hlb.ga hE9
   have hrw:=hrw.ext hE9 fun _ _=>id
   have hps:=hps.ext hE9 fun _ _ _=>id
   have hX:=hX.gb hE9
   have hC:=hC.gb hE9
   have hnN:∀z,jb q2 z→N≤z:=fun z hz=>by have:=hnq z hz;omega
   have hnq:∀z,jb q2 z→w.heap.size≤z:=fun z hz=>aA hNw (hnN z hz)
   refine jo rfl (qi gc rfl 1 rfl rfl rfl zd zd zt (l':=[.slice q2 b.length k2]) rfl fun b31 w10 hn31 hb31 hE10 hs10=>⟨hC.gb hE10,?_⟩)
   have ne2_31:=j2 hb2.lt hn31
   have ne3_31:=j2 hb3.lt hn31
   have fr31:=aA hX.size hn31
   have hb2:=hb2.ga hE10
   have hb3:=hb3.ga hE10
   have hat2:=hat2.ga hE10
   have hlb:=hlb.ga hE10
   have hrw:=hrw.ext hE10 fun _ _=>id
   have hps:=hps.ext hE10 fun _ _ _=>id
   have ho2:=ho2.ext hE10 fun _ _=>id
   have hX:=hX.gb hE10
   have hC:=hC.gb hE10
   have hNs:=hC.size
   refine jo rfl (va gc rfl 1 24 rfl rfl rfl zd hrw (Src.slice (m:=1) ⟨rfl,.inr ⟨b31,0,rfl,hb31.kj⟩⟩ OneC.h) zm zn fun p11 c11 w11 ho11 hE11 hB11=>⟨(hC.then hE11),?_⟩)
   have hC:=(hC.then hE11)
   have hb2:=hb2.ext hE11 hq2
   have hb3:=hb3.ext hE11 hq3
   have hb31:=hb31.ext hE11 fun e=>by have:=hHlt _ (hqH _ e);omega
   have hX:=hX.then (hE11.mono fun z _ e=> .inr (hqH z e))
   have hlb:=hlb.ext hE11 hqx
   have hat2:=hat2.ext hE11 fun z hz e=>hHF2 z (hqH z e) hz
   have ho2:=ho2.ext hE11 fun z hz e=>by have:=hnq z hz;have:=hHlt _ (hqH _ e);omega
   have hps:=hps.ext hE11 fun z hz ht e=>by obtain⟨l,hl⟩:=Own.ty hrw e;exact ht.ne hl zd rfl
   have hqn:∀z,jb p11 z→H z∨N≤z:=fun z hz=>(hB11 z hz).imp (hqH z) fun e=>by omega
   have hrw:Own w11 p11 (W.pieces++[b]).length c11 41 1 (rows++[.slice q2 b.length k2]):=by rw[aB];exact ho11
   dsimp only
   obtain⟨pn,hpn0⟩:∃pn,pn=p11:=⟨_,rfl⟩
   obtain⟨cn,hcn0⟩:∃cn,cn=c11:=⟨_,rfl⟩
   rw[←hpn0] at hrw hqn⊢
   rw[←hcn0] at hrw⊢
   refine gt gc 2 rfl (jg ?_)
   have hlb0:=hlb
   refine wb rfl (qz gc hlb rfl rfl (cV (by decide:0+(2+1)<6) rfl) fun w12 hlb hE12 hs12=> ?_)
   have hb2:=hb2.ext hE12 fun e=>by have e:b2=x:=e;omega
   have hb3:=hb3.ext hE12 fun e=>by have e:b3=x:=e;omega
   have hb31:=hb31.ext hE12 fun e=>by have e:b31=x:=e;omega
   have hX:=hX.then (hE12.mono fun z _ e=> .inr (by have e:z=x:=e;rw[e];exact hxH))
   have hat2:=hat2.ext hE12 fun z hz e=>by have e:z=x:=e;subst e;exact hHF2 z hxH hz
   have ho2:=ho2.ju hE12 hlb0 zd
   have hrw:=hrw.ju hE12 hlb0 zd
   have hps:=hps.ext hE12 fun z _ ht e=>by have e:z=x:=e;subst e;exact ht.ne hlb0 zd rfl
   refine j5 (jp (jr rfl 10 [qP 0,qP 1,qP 2,qP 3,qP 4,qP 5,(6,false),qP 7,qP 8,qP 9] [10] (No) zk fun w13 hE13 hs13=> ?_))
   have hd2:=hb2
   have hd3:=hb3
   have hd31:=hb31
   have hlogd:=hlog
   have hatd:=hat
   have hsbd:=hsb
   have hrtd:=hrt
   have hlog2d:=hlog2
   have hat2d:=hat2
   have hlbd:=hlb
   have hrwd:=hrw
   have hpsd:=hps
   have ho2d:=ho2
   have hXd:=hX
   have hb2:=hb2.ga hE13
   have hb3:=hb3.ga hE13
   have hb31:=hb31.ga hE13
   have hat2:=hat2.ga hE13
   have hlb:=hlb.ga hE13
   have hrw:=hrw.ext hE13 fun _ _=>id
   have hps:=hps.ext hE13 fun _ _ _=>id
   have ho2:=ho2.ext hE13 fun _ _=>id
   have hX:=hX.gb hE13
   have hC:Ext (No) _ w13:=hE13.no
   refine j3 gc rfl rfl (fun w' hw'=>(hd2.ga hw').cell rfl) ?_
   refine gt gc 2 rfl (j3 gc rfl rfl (fun w' hw'=>((hlbd.ga hw').cell rfl)) ?_)
   refine j3 gc rfl rfl (fun w' hw'=>(hd3.ga hw').cell rfl) ?_
   refine gt gc 1 rfl (jo rfl (j1 call65 rfl (xb w13 (b.length:Int)) fun v14 w14 hr14=>⟨(by obtain⟨rfl,hE14⟩:=hr14;exact hC.gb hE14),?_⟩))
   obtain⟨rfl,hE14⟩:=hr14
   have hb2:=hb2.ga hE14
   have hb3:=hb3.ga hE14
   have hb31:=hb31.ga hE14
   have hat2:=hat2.ga hE14
   have hlb:=hlb.ga hE14
   have hrw:=hrw.ext hE14 fun _ _=>id
   have hps:=hps.ext hE14 fun _ _ _=>id
   have ho2:=ho2.ext hE14 fun _ _=>id
   have hX:=hX.gb hE14
   have hC:=hC.gb hE14
   rw[B8]
   refine gt gc 1 rfl ?_
   rw[show IntKind.i64.wrap ((W.used:Int)+(kw b.length:Int))=((W.used+kw b.length:Nat):Int) from by rw[jz _ zo];omega]
   refine gt gc 2 rfl (jg ?_)
   have hlb0:=hlb
   refine wb rfl (qz gc hlb rfl rfl (cV (by decide:0+(3+1)<6) rfl) fun w15 hlb hE15 hs15=> ?_)
   have hb2:=hb2.ext hE15 fun e=>by have e:b2=x:=e;omega
   have hb3:=hb3.ext hE15 fun e=>by have e:b3=x:=e;omega
   have hb31:=hb31.ext hE15 fun e=>by have e:b31=x:=e;omega
   have hX:=hX.then (hE15.mono fun z _ e=> .inr (by have e:z=x:=e;rw[e];exact hxH))
   have hat2:=hat2.ext hE15 fun z hz e=>by have e:z=x:=e;subst e;exact hHF2 z hxH hz
   have ho2:=ho2.ju hE15 hlb0 zd
   have hrw:=hrw.ju hE15 hlb0 zd
   have hps:=hps.ext hE15 fun z _ ht e=>by have e:z=x:=e;subst e;exact ht.ne hlb0 zd rfl
   have hnw:=hat2.lt
   have hho:=fun z (hz:jb q2 z)=>ho2.lt hz
   have hhr:=fun z (hz:jb pn z)=>hrw.lt hz
   have hxw:=hX.size
   refine j5 ?_
   exact gr ({W with D:=y.1,broken:=false,pieces:=W.pieces++[b],used:=W.used+kw b.length},fun z=>H z∨(N≤z∧z<w15.heap.size)) rfl ⟨⟨⟨⟨pn,cn,_,by dsimp only;rw[aB];exact hlb,hrw,(qr.mono hps fun z hz=> .inl hz).snoc (yq.ofOwn ho2 fun z hz=> .inr ⟨hnN z hz,hho z hz⟩),fun z hz=>(hqn z hz).imp id fun e=>⟨e,hhr z hz⟩⟩,.inl hxH,fun z hz=>hz.elim (fun e=>aM (hHlt z e) hxw) fun e=>e.2⟩,hat2,fun z hz=>hz.imp id fun e=>aA hNw e.1,fun z hz e=>hz.elim (fun h=>hHF2 z h e) fun h=>by have:=hF2lt z e;omega,by rw[hy0];exact append_ok hre hy hy0⟩,hb2,hb3,hX⟩
  refine kc ?_
  exact gr ({W with D:=y.1,broken:=true},H) rfl ⟨⟨by have e:=hlog2;rw[bQ hc] at e;exact e.data rfl rfl rfl rfl rfl,hat2,fun z hz=> .inl hz,hHF2,append_bad hre hy hc⟩,hb2,hb3,hX⟩
 rintro⟨V,G⟩ w16 ⟨⟨hlog3,hat3,hGs,hGF,hap⟩,hb2,hb3,hX⟩
 refine jd rfl (j9 (gv rfl rfl ?_))
 rw[hap]
 exact⟨rfl,F2,G,hat3,hlog3,hFs,hGs,hGF,hX⟩
theorem ckp1_calls (w:World) {bx bt bb x d m c t:Nat} {H F:Nat→Prop} {W:Wl} {p:Option Addr} {b:Bytes} (hbx:gz w bx 58 [.pointer (some ⟨x,0,none⟩)]) (hbt:gz w bt 35 [.int .u32 (t:Int)]) (hbb:gz w bb 41 [.slice p b.length c]) (h:ye w x d H W) (hA:At w d F W.D) (hok:W.D.Ok m) (hm:m+2000<1000000000) (hz2:W.size≤1000) (ht:t<4294967296) (hs:ux w p b) (hbl:b.length≤40000) (hr:Rt w) (hF0:¬F 0) (hF1:¬F bx) (hFt:¬F bt) (hF2:¬F bb) (hHF:∀y,H y→¬F y):
  gn prog 118 [.pointer (some ⟨bx,0,none⟩),.pointer (some ⟨bt,0,none⟩),.pointer (some ⟨bb,0,none⟩)] w fun v w'=>v= .int .i64 (Av W.D t W.size b).2∧DkQ w d F (Av W.D t W.size b).1 w':=by
 refine gx func118 ?_
 have k:=Ext.refl F w
 have Q:=hr.lt
 have L:=hA.lt
 obtain⟨⟨q,Y,M,A,R,S,T⟩,B,U⟩:=h
 have C:=hHF x B
 have E:=A
 have G:=hbx
 have I:=hbt
 have J:=hbb
 have f:=hA
 have g:=hs
 have i:=hr
 refine jd rfl (gl (jr rfl 8 [qP 0,qP 1,qP 2,qP 3,qP 4,qP 5,(6,false),qP 7] [] (F) zk fun N e V=> ?_))
 have l:=E
 have o:=G
 have r:=J
 have s:=I
 have f:=f.ga e
 have g:=g.ga e
 have i:=Rt.ext i e id
 have k:=k.gb e
 have X:Ext (F) _ N:=e.no
 refine j3 gc rfl rfl (fun w' a=>((o.ext a hF1).cell rfl)) ?_
 refine gt gc 2 rfl (qa gc rfl rfl (fun w' a=>((l.ext a C).kj.take 2)) rfl ?_)
 refine j3 gc rfl rfl (fun w' a=>((s.ext a hFt).cell rfl)) ?_
 refine j3 gc rfl rfl (fun w' a=>((r.ext a hF2).cell rfl)) ?_
 have K:=k.size
 refine jo rfl (j1 call73 rfl (begin_calls N (n:=W.size) f hok hm zo ht g hbl i hF0) fun Z w2 u=>⟨(by obtain⟨rfl,O,P,j,z⟩:=u;exact X.then j),?_⟩)
 obtain⟨rfl,O,P,j,z⟩:=u
 have k:=k.then j
 refine gt gc 1 rfl (jg (j5 (jp (j9 (gv rfl rfl ?_)))))
 exact⟨rfl,O,P,k,A3 (fun x=> .inl) K z⟩
theorem ckp_no {W:Wl} {b:Bytes} (h:W.refuses b (if W.turn=4294967295 then 0 else(W.size:Int))≠0):W.xq b=(W,W.refuses b (if W.turn=4294967295 then 0 else(W.size:Int))):=aR h
theorem ckp_bad {W:Wl} {b:Bytes} (h:W.refuses b (if W.turn=4294967295 then 0 else(W.size:Int))=0) {y:ku×Int} (hy:y=Av W.D (W.turn+1) W.size b) (h2:y.2≠0):W.xq b=({W with D:=y.1,broken:=true},y.2):=by
 unfold Wl.xq;dsimp only;rw[aP (fun e=>e h),←hy,aR h2]
theorem ckp_ok {W:Wl} {b:Bytes} (h:W.refuses b (if W.turn=4294967295 then 0 else(W.size:Int))=0) {y:ku×Int} (hy:y=Av W.D (W.turn+1) W.size b) (h2:y.2=0):W.xq b=({W with D:=y.1,broken:=false,turn:=W.turn+1,pieces:=[b],used:=kw b.length},0):=by
 unfold Wl.xq;dsimp only;rw[aP (fun e=>e h),←hy,aP (fun e=>e h2)]
theorem next_turn {t:Nat} (ht:t<4294967296):IntKind.u32.wrap ((t:Int)+1)=((if t=4294967295 then 0 else t+1:Nat):Int):=by
 by_cases h:t=4294967295
 ·subst h;decide
 rw[aP h];exact wrap32 (t+1) zo
theorem checkpoint_calls (w:World) {x d m c:Nat} {H F:Nat→Prop} {W:Wl} {p:Option Addr} {b:Bytes} (h:ye w x d H W) (hA:At w d F W.D) (hok:W.D.Ok m) (hm:m+2000<1000000000) (hW:Wl.Ok W) (hs:ux w p b) (hbl:b.length<1000000000) (hr:Rt w) (hF0:¬F 0) (hHF:∀y,H y→¬F y) (hpF:∀y off,p=some ⟨y,off,none⟩→¬F y∧¬H y∧y<w.heap.size):
  gn prog 38 [.pointer (some ⟨x,0,none⟩),.slice p b.length c] w fun v w'=>LogQ w x d F H (W.xq b) v w':=by
 refine gx func38 ?_
 have hX:=Ext.refl (fun y=>F y∨H y) w
 have hsl:=zx6 b.length
 have hFlt:=hA.lt
 have hHlt:=h.lt
 obtain⟨hz1,hz2⟩:=hW.size
 have hz5:=hW.turn
 have hxH:=h.own
 have hlog:=h
 have hat:=hA
 have hsb:=hs
 have hrt:=hr
 refine ko (gw rfl fun b2 w1 hn2 hb2 hE1=> ?_)
 have fr2:=aA hX.size hn2
 have hlog:=hlog.ga hE1
 have hat:=hat.ga hE1
 have hsb:=hsb.ga hE1
 have hrt:=Rt.ext hrt hE1 id
 have hX:=hX.gb hE1
 have hb2:gz w1 b2 58 ([.pointer (some ⟨x,0,none⟩)]):=hb2
 refine gw rfl fun b3 w2 hn3 hb3 hE2=> ?_
 have ne2_3:=j2 hb2.lt hn3
 have fr3:=aA hX.size hn3
 have hb2:=hb2.ga hE2
 have hlog:=hlog.ga hE2
 have hat:=hat.ga hE2
 have hsb:=hsb.ga hE2
 have hrt:=Rt.ext hrt hE2 id
 have hX:=hX.gb hE2
 have hb3:gz w2 b3 41 ([.slice p b.length c]):=hb3
 refine km rfl (gl (ko (j6 hb2 rfl rfl (j6 hb3 rfl rfl ?_))))
 refine gh call116 rfl (ready_calls w2 hlog (p:=p) (n:=b.length) (k:=c)) fun v3 w3 hr3=> ?_
 obtain⟨rfl,hE3⟩:=hr3
 have hb2:=hb2.ga hE3
 have hb3:=hb3.ga hE3
 have hlog:=hlog.ga hE3
 have hat:=hat.ga hE3
 have hsb:=hsb.ga hE3
 have hrt:=Rt.ext hrt hE3 id
 have hX:=hX.gb hE3
 refine km rfl (jd rfl (jl rfl (fun hc=> ?_) (fun hc=> ?_)))
 ·refine gl ?_
  refine gy (vr rfl (j7 (gv rfl rfl ?_)))
  have hre:W.refuses b (if W.turn=4294967295 then 0 else(W.size:Int))=if 40000<b.length then(3:Int) else if W.broken=true then 8 else 0:=by
   unfold Wl.refuses
   by_cases h1:40000<b.length
   ·rw[aR h1,aR h1]
   ·rw[aP h1,aP h1] at*
    by_cases h2:W.broken=true
    ·rw[aR h2,aR h2]
    ·rw[aP h2] at hc;exact absurd rfl hc
  rw[ckp_no (by rw[hre];exact hc),hre]
  exact⟨rfl,F,H,hat,hlog,fun y=> .inl,fun y=> .inl,hHF,hX⟩
 ·have hc0:(if 40000<b.length then(3:Int) else if W.broken=true then 8 else 0)=0:=aS.1 hc
  have hb40:b.length≤40000:=by
   rcases bF 40000 b.length with h1|h1
   ·rw[aR h1] at hc0;cases hc0
   ·exact h1
  rw[aP zo] at hc0
  have hbr:¬W.broken=true:=fun e=>by rw[aR e] at hc0;cases hc0
  have hbp:=Df hb40
  have hre:W.refuses b (if W.turn=4294967295 then 0 else(W.size:Int))=if W.size<kw b.length∨W.turn=4294967295 then 6 else 0:=by
   unfold Wl.refuses
   rw[aP zo,aP hbr]
   by_cases ht:W.turn=4294967295
   ·rw[aR ht,aR zo,aR (.inr ht)]
   ·rw[aP ht]
    by_cases h1:W.size<kw b.length
    ·rw[aR zo,aR (.inl h1)]
    ·rw[aP zo,aP (fun e=>e.elim h1 ht)]
  have hF1:¬(F b2∨H b2):=fun e=>by rcases e with e|e;have:=hFlt _ e;omega;have:=hHlt _ e;omega
  have hF2:¬(F b3∨H b3):=fun e=>by rcases e with e|e;have:=hFlt _ e;omega;have:=hHlt _ e;omega
  obtain⟨⟨q0,cq0,rows0,hlb0,_,_,_⟩,_,_⟩:=id hlog
  obtain⟨nx,hnx⟩:∃nx,nx=if W.turn=4294967295 then 0 else W.turn+1:=⟨_,rfl⟩
  have hnxl:nx<4294967296:=by rw[hnx];split<;>omega
  refine x3 (ko (j6 hb2 rfl rfl (j0 gc rfl (gu rfl (hlb0.cell rfl) (j0 gc rfl ?_)))))
  rw[next_turn hz5,←hnx]
  refine gw rfl fun b6 w4 hn6 hb6 hE4=> ?_
  have ne2_6:=j2 hb2.lt hn6
  have ne3_6:=j2 hb3.lt hn6
  have fr6:=aA hX.size hn6
  have hb2:=hb2.ga hE4
  have hb3:=hb3.ga hE4
  have hlog:=hlog.ga hE4
  have hat:=hat.ga hE4
  have hsb:=hsb.ga hE4
  have hrt:=Rt.ext hrt hE4 id
  have hX:=hX.gb hE4
  have hr6:=hr.lt
  refine kl hb6 rfl rfl rfl fun w5 hb6 hE5 hs5=> ?_
  have hb2:=hb2.gj hE5 ne2_6
  have hb3:=hb3.gj hE5 ne3_6
  have hX:=hX.gi hE5 fr6
  have hb6:gz w5 b6 35 ([.int .u32 (nx:Int)]):=hb6
  have hlog:=hlog.ext hE5 fun y hy e=>by have e:y=b6:=e;have:=hHlt y hy;omega
  have hat:=hat.ext hE5 fun y hy e=>by have e:y=b6:=e;have:=hFlt y hy;omega
  have hsb:ux w5 p b:=hsb.ext hE5 fun y off e hz=>by have hz:y=b6:=hz;have:=(hpF y off e).2.2;omega
  have hrt:=Rt.ext hrt hE5 fun e=>by have e:0=b6:=e;omega
  obtain⟨⟨q1,cq1,rows1,hlb1,_,_,_⟩,_,_⟩:=id hlog
  have hF6:¬(F b6∨H b6):=fun e=>by rcases e with e|e;have:=hFlt _ e;omega;have:=hHlt _ e;omega
  refine qq (gl ?_)
  refine ji (α:=Bool) [2,3,6] rfl (fun z=>[(31,.bool z)]) (fun z u=>(z=decide (W.size<kw b.length∨W.turn=4294967295)∧ye u x d H W∧At u d F W.D∧ux u p b∧Rt u)∧gz u b2 58 ([.pointer (some ⟨x,0,none⟩)])∧gz u b3 41 ([.slice p b.length c])∧gz u b6 35 ([.int .u32 (nx:Int)])∧Ext (fun y=>F y∨H y) w u) ?_ ?_
  ·refine jr rfl 13 [qP 0,qP 1,qP 3,qP 4,qP 5,qP 6,qP 7,(2,false),qP 8,qP 9,qP 10,qP 11,qP 12] [] (No) zk fun w6 hE6 hs6=> ?_
   have hd2:=hb2
   have hd3:=hb3
   have hd6:=hb6
   have hlogd:=hlog
   have hatd:=hat
   have hsbd:=hsb
   have hrtd:=hrt
   have hXd:=hX
   have hb2:=hb2.ga hE6
   have hb3:=hb3.ga hE6
   have hb6:=hb6.ga hE6
   have hlog:=hlog.ga hE6
   have hat:=hat.ga hE6
   have hsb:=hsb.ga hE6
   have hrt:=Rt.ext hrt hE6 id
   have hX:=hX.gb hE6
   have hC:Ext (No) _ w6:=hE6.no
   refine j3 gc rfl rfl (fun w' hw'=>(hd3.ga hw').cell rfl) ?_
   refine gt gc 1 rfl (j3 gc rfl rfl (fun w' hw'=>(hd2.ga hw').cell rfl) ?_)
   refine gt gc 3 rfl (j3 gc rfl rfl (fun w' hw'=>((hlb1.ga hw').cell rfl)) ?_)
   refine jo rfl (j1 call65 rfl (xb w6 (b.length:Int)) fun v7 w7 hr7=>⟨(by obtain⟨rfl,hE7⟩:=hr7;exact hC.gb hE7),?_⟩)
   obtain⟨rfl,hE7⟩:=hr7
   have hb2:=hb2.ga hE7
   have hb3:=hb3.ga hE7
   have hb6:=hb6.ga hE7
   have hlog:=hlog.ga hE7
   have hat:=hat.ga hE7
   have hsb:=hsb.ga hE7
   have hrt:=Rt.ext hrt hE7 id
   have hX:=hX.gb hE7
   have hC:=hC.gb hE7
   rw[B8]
   refine gt gc 2 rfl (vy 28 rfl (fun hg=> ?_) (fun hg=> ?_))
   ·refine gt gc 3 rfl ?_
    refine jg (j5 ?_)
    exact gr (true) rfl ⟨⟨(bQ (.inl zo)).symm,hlog,hat,hsb,hrt⟩,hb2,hb3,hb6,hX⟩
   ·refine j3 gc rfl rfl (fun w' hw'=>(hd6.ga hw').cell rfl) ?_
    refine gt gc 2 rfl (jg (j5 ?_))
    exact gr (decide ((nx:Int)=0)) rfl ⟨⟨by
 rw[aH]
 constructor
 ·intro h0;refine .inr ?_;rcases bF W.turn 4294967295 with h1|h1;rw[aP zo] at hnx;omega;omega
 ·intro h0;rcases h0 with h0|h0;omega;rw[aR h0] at hnx;omega,hlog,hat,hsb,hrt⟩,hb2,hb3,hb6,hX⟩
  rintro z w8 ⟨⟨hz,hlog,hat,hsb,hrt⟩,hb2,hb3,hb6,hX⟩
  refine ud rfl (fun hc=> ?_) (fun hc=> ?_)
  ·have hcx:=of_decide_eq_true (hz.symm.trans hc)
   rw[aR hcx] at hre
   refine jd rfl (j9 (j7 (gv rfl rfl ?_)))
   rw[ckp_no (by rw[hre];decide),hre]
   exact⟨rfl,F,H,hat,hlog,fun y=> .inl,fun y=> .inl,hHF,hX⟩
  ·have hcx:¬(W.size<kw b.length∨W.turn=4294967295):=of_decide_eq_false (hz.symm.trans hc)
   rw[aP hcx] at hre
   rw[aP (fun e=>hcx (.inr e))] at hnx
   refine x3 (ko (j6 hb2 rfl rfl (j0 gc rfl ?_)))
   have hX1:=hX.size
   have l2:=hb2.lt
   have l3:=hb3.lt
   have l6:=hb6.lt
   refine gh call117 rfl (does_calls w8 hlog hat.lt hHF call118 (fun w1 hE1=>ckp1_calls w1 (hb2.ga hE1) (hb6.ga hE1) (hb3.ga hE1) (hlog.ga hE1) (hat.ga hE1) hok hm hz2 hnxl (hsb.ga hE1) hb40 (hrt.ext hE1 id) hF0 (fun e=>hF1 (.inl e)) (fun e=>hF6 (.inl e)) (fun e=>hF2 (.inl e)) hHF)) fun v9 w9 hr9=> ?_
   obtain⟨rfl,F2,hat2,hFs,hlog2,hHF2,hE9⟩:=hr9
   obtain⟨y,hy⟩:∃y,y=Av W.D nx W.size b:=⟨_,rfl⟩
   rw[←hy] at hat2 hlog2⊢
   rw[hnx] at hy
   have hxb:∀z,F z∨z=x→F z∨H z:=fun z hz=>hz.imp id fun e=>by rw[e];exact hxH
   have hb2:=hb2.ext hE9 fun e=>hF1 (hxb _ e)
   have hb3:=hb3.ext hE9 fun e=>hF2 (hxb _ e)
   have hb6:=hb6.ext hE9 fun e=>hF6 (hxb _ e)
   have hX:=hX.then (hE9.mono fun z _ e=>hxb z e)
   have hsb:ux w9 p b:=hsb.ext hE9 fun z off e hz=>(hxb z hz).elim (hpF z off e).1 (hpF z off e).2.1
   have hFs:=A3 (fun z=> .inl) hX1 hFs
   obtain⟨N,hN⟩:∃N,N=w9.heap.size:=⟨_,rfl⟩
   have hNw:w.heap.size≤N:=by rw[hN];exact hX.size
   have hF2lt:∀z,F2 z→z<N:=by rw[hN];exact hat2.lt
   refine km rfl ?_
   refine ji (α:=Wl×(Nat→Prop)) [7] rfl (fun z=>[]) (fun z u=>(ye u x d z.2 z.1∧At u d F2 z.1.D∧(∀y,z.2 y→H y∨w.heap.size≤y)∧(∀y,z.2 y→¬F2 y)∧W.xq b=(z.1,y.2))∧gz u b2 58 ([.pointer (some ⟨x,0,none⟩)])∧gz u b3 41 ([.slice p b.length c])∧gz u b6 35 ([.int .u32 (nx:Int)])∧Ext (fun y=>F y∨H y) w u) ?_ ?_
   ·refine gl ?_
    refine gy (km rfl (jl rfl (fun hc=> ?_) (fun hc=> ?_)))
    ·have hy0:y.2=0:=hc
     obtain⟨⟨q,cq,rows,hlb,_,_,_⟩,_,_⟩:=id hlog2
     dsimp only at hlb
     rw[show decide (y.2≠0)=false from bO fun e=>e hy0] at hlb
     have hxl:=hHlt x hxH
     have h2x:¬One x b2:=fun e=>by have e:b2=x:=e;omega
     have h3x:¬One x b3:=fun e=>by have e:b3=x:=e;omega
     have h6x:¬One x b6:=fun e=>by have e:b6=x:=e;omega
     have hNC:N=w9.heap.size:=hN
     refine zz7 rfl 19 19 [] (One x) zk fun w10 hE10 hs10=> ?_
     have hd2:=hb2
     have hd3:=hb3
     have hd6:=hb6
     have hlogd:=hlog
     have hatd:=hat
     have hsbd:=hsb
     have hrtd:=hrt
     have hlog2d:=hlog2
     have hat2d:=hat2
     have hlbd:=hlb
     have hXd:=hX
     have hb2:=hb2.ga hE10
     have hb3:=hb3.ga hE10
     have hb6:=hb6.ga hE10
     have hsb:=hsb.ga hE10
     have hat2:=hat2.ga hE10
     have hlb:=hlb.ga hE10
     have hX:=hX.gb hE10
     have hC:Ext (One x) _ w10:=hE10.no
     refine qm [qP 0,qP 1,qP 2,qP 3,qP 4,qP 7,qP 8,(5,false)] 11 rfl zk (j3 gc rfl rfl (fun w' hw'=>((hd2.ext hw' h2x).cell rfl)) ?_)
     refine j3 gc rfl rfl (fun w' hw'=>((hd2.ext hw' h2x).cell rfl)) ?_
     refine j3 gc rfl rfl (fun w' hw'=>((hd2.ext hw' h2x).cell rfl)) ?_
     refine j3 gc rfl rfl (fun w' hw'=>((hd6.ext hw' h6x).cell rfl)) ?_
     refine j3 gc rfl rfl (fun w' hw'=>((hd3.ext hw' h3x).cell rfl)) ?_
     refine j3 gc rfl rfl (fun w' hw'=>((hd3.ext hw' h3x).cell rfl)) ?_
     refine gt gc 1 rfl ?_
     have hNs0:=hC.size
     refine jo rfl (j1 call35 rfl (xd w10 hsb hbl) fun v11 w11 hr11=>⟨(by obtain⟨q2,k2,rfl,ho2,hnq,hE11⟩:=hr11;exact hC.gb hE11),?_⟩)
     obtain⟨q2,k2,rfl,ho2,hnq,hE11⟩:=hr11
     have hb2:=hb2.ga hE11
     have hb3:=hb3.ga hE11
     have hb6:=hb6.ga hE11
     have hsb:=hsb.ga hE11
     have hat2:=hat2.ga hE11
     have hlb:=hlb.ga hE11
     have hX:=hX.gb hE11
     have hC:=hC.gb hE11
     have hnN:∀z,jb q2 z→N≤z:=fun z hz=>by have:=hnq z hz;omega
     refine yd rfl (As [6,9] rfl zk ⟨⟨_,rfl,?_⟩,⟨_,rfl,?_⟩,trivial⟩)
     ·refine qi gc rfl 1 rfl rfl rfl zd zd zt (l':=[.slice q2 b.length k2]) rfl fun b43 w12 hn43 hb43 hE12 hs12=>⟨hC.gb hE12,?_⟩
      have ne2_43:=j2 hb2.lt hn43
      have ne3_43:=j2 hb3.lt hn43
      have ne6_43:=j2 hb6.lt hn43
      have fr43:=aA hX.size hn43
      have frhC43:=aA hC.size hn43
      have hb2:=hb2.ga hE12
      have hb3:=hb3.ga hE12
      have hb6:=hb6.ga hE12
      have hat2:=hat2.ga hE12
      have hlb:=hlb.ga hE12
      have ho2:=ho2.ext hE12 fun _ _=>id
      have hX:=hX.gb hE12
      have hC:=hC.gb hE12
      refine qm [(9,false),qP 10,qP 11,(12,false),qP 13,qP 14,(15,false),qP 16,qP 17,(18,false)] 0 rfl zk ?_
      refine jo rfl (j1 call65 rfl (xb w12 (b.length:Int)) fun v13 w13 hr13=>⟨(by obtain⟨rfl,hE13⟩:=hr13;exact hC.gb hE13),?_⟩)
      obtain⟨rfl,hE13⟩:=hr13
      have hb2:=hb2.ga hE13
      have hb3:=hb3.ga hE13
      have hb6:=hb6.ga hE13
      have hb43:=hb43.ga hE13
      have hat2:=hat2.ga hE13
      have hlb:=hlb.ga hE13
      have ho2:=ho2.ext hE13 fun _ _=>id
      have hX:=hX.gb hE13
      have hC:=hC.gb hE13
      rw[B8]
      refine gt gc 2 rfl ?_
      have hlb0:=hlb
      refine jo rfl (qz gc hlb rfl rfl (cV (by decide:0+(1+1)<6) rfl) fun w14 hlb hE14 hs14=>⟨hC.then hE14,?_⟩)
      have hb2:=hb2.ext hE14 h2x
      have hb3:=hb3.ext hE14 h3x
      have hb6:=hb6.ext hE14 h6x
      have hb43:=hb43.ext hE14 fun e=>by have e:b43=x:=e;omega
      have hC:=hC.then hE14
      have hX:=hX.then (hE14.mono fun z _ e=> .inr (by have e:z=x:=e;rw[e];exact hxH))
      have hat2:=hat2.ext hE14 fun z hz e=>by have e:z=x:=e;subst e;exact hHF2 z hxH hz
      have ho2:=ho2.ju hE14 hlb0 zd
      refine gt gc 2 rfl ?_
      have hlb0:=hlb
      refine jo rfl (qz gc hlb rfl rfl (cV (by decide:0+(2+1)<6) rfl) fun w15 hlb hE15 hs15=>⟨hC.then hE15,?_⟩)
      have hb2:=hb2.ext hE15 h2x
      have hb3:=hb3.ext hE15 h3x
      have hb6:=hb6.ext hE15 h6x
      have hb43:=hb43.ext hE15 fun e=>by have e:b43=x:=e;omega
      have hC:=hC.then hE15
      have hX:=hX.then (hE15.mono fun z _ e=> .inr (by have e:z=x:=e;rw[e];exact hxH))
      have hat2:=hat2.ext hE15 fun z hz e=>by have e:z=x:=e;subst e;exact hHF2 z hxH hz
      have ho2:=ho2.ju hE15 hlb0 zd
      refine gt gc 2 rfl ?_
      have hlb0:=hlb
      refine jo rfl (qz gc hlb rfl rfl (cV (by decide:0+(3+1)<6) rfl) fun w16 hlb hE16 hs16=>⟨hC.then hE16,?_⟩)
      have hb2:=hb2.ext hE16 h2x
      have hb3:=hb3.ext hE16 h3x
      have hb6:=hb6.ext hE16 h6x
      have hb43:=hb43.ext hE16 fun e=>by have e:b43=x:=e;omega
      have hC:=hC.then hE16
      have hX:=hX.then (hE16.mono fun z _ e=> .inr (by have e:z=x:=e;rw[e];exact hxH))
      have hat2:=hat2.ext hE16 fun z hz e=>by have e:z=x:=e;subst e;exact hHF2 z hxH hz
      have ho2:=ho2.ju hE16 hlb0 zd
      have hho:=fun z (hz:jb q2 z)=>ho2.lt hz
      have hxw:=hX.size
      refine jg (j5 ?_)
      exact gr ({W with D:=y.1,broken:=false,turn:=W.turn+1,pieces:=[b],used:=kw b.length},fun z=>z=x∨z=b43∨jb q2 z) rfl ⟨⟨⟨⟨some ⟨b43,0,none⟩,1,_,(by rw[hnx] at hlb;exact hlb),Own.blk (n:=1) (c:=1) hb43 1 rfl (aD _) zd,qr.snoc (ps:=[]) (rows:=[]) ⟨rfl,fun i b v h=>by cases h⟩ (yq.ofOwn ho2 fun z hz=> .inr (.inr hz)),fun z hz=>by cases hz;exact .inr (.inl rfl)⟩,.inl rfl,fun z hz=>by rcases hz with rfl|rfl|hz;exact hlb.lt;exact hb43.lt;exact hho z hz⟩,hat2,fun z hz=>by rcases hz with rfl|rfl|hz;exact .inl hxH;exact .inr fr43;exact .inr (aA hNw (hnN z hz)),fun z hz e=>by rcases hz with rfl|rfl|hz;exact hHF2 _ hxH e;have:=hF2lt _ e;omega;have:=hF2lt z e;have:=hnN z hz;omega,by rw[hy0];exact ckp_ok hre hy hy0⟩,hb2,hb3,hb6,hX⟩
     ·refine j1 call65 rfl (xb w11 (b.length:Int)) fun v17 w17 hr17=>⟨(by obtain⟨rfl,hE17⟩:=hr17;exact hC.gb hE17),?_⟩
      obtain⟨rfl,hE17⟩:=hr17
      have hb2:=hb2.ga hE17
      have hb3:=hb3.ga hE17
      have hb6:=hb6.ga hE17
      have hat2:=hat2.ga hE17
      have hlb:=hlb.ga hE17
      have ho2:=ho2.ext hE17 fun _ _=>id
      have hX:=hX.gb hE17
      have hC:=hC.gb hE17
      rw[B8]
      refine qm [qP 10,qP 11] 8 rfl zk (gt gc 2 rfl (yd rfl (As [6,12] rfl zk ⟨⟨_,rfl,?_⟩,⟨_,rfl,?_⟩,trivial⟩)))
      ·refine qi gc rfl 1 rfl rfl rfl zd zd zt (l':=[.slice q2 b.length k2]) rfl fun b43 w18 hn43 hb43 hE18 hs18=>⟨hC.gb hE18,?_⟩
       have ne2_43:=j2 hb2.lt hn43
       have ne3_43:=j2 hb3.lt hn43
       have ne6_43:=j2 hb6.lt hn43
       have fr43:=aA hX.size hn43
       have frhC43:=aA hC.size hn43
       have hb2:=hb2.ga hE18
       have hb3:=hb3.ga hE18
       have hb6:=hb6.ga hE18
       have hat2:=hat2.ga hE18
       have hlb:=hlb.ga hE18
       have ho2:=ho2.ext hE18 fun _ _=>id
       have hX:=hX.gb hE18
       have hC:=hC.gb hE18
       refine qm [(12,false),qP 13,qP 14,(15,false),qP 16,qP 17,(18,false)] 0 rfl zk ?_
       have hlb0:=hlb
       refine jo rfl (qz gc hlb rfl rfl (cV (by decide:0+(1+1)<6) rfl) fun w19 hlb hE19 hs19=>⟨hC.then hE19,?_⟩)
       have hb2:=hb2.ext hE19 h2x
       have hb3:=hb3.ext hE19 h3x
       have hb6:=hb6.ext hE19 h6x
       have hb43:=hb43.ext hE19 fun e=>by have e:b43=x:=e;omega
       have hC:=hC.then hE19
       have hX:=hX.then (hE19.mono fun z _ e=> .inr (by have e:z=x:=e;rw[e];exact hxH))
       have hat2:=hat2.ext hE19 fun z hz e=>by have e:z=x:=e;subst e;exact hHF2 z hxH hz
       have ho2:=ho2.ju hE19 hlb0 zd
       refine gt gc 2 rfl ?_
       have hlb0:=hlb
       refine jo rfl (qz gc hlb rfl rfl (cV (by decide:0+(2+1)<6) rfl) fun w20 hlb hE20 hs20=>⟨hC.then hE20,?_⟩)
       have hb2:=hb2.ext hE20 h2x
       have hb3:=hb3.ext hE20 h3x
       have hb6:=hb6.ext hE20 h6x
       have hb43:=hb43.ext hE20 fun e=>by have e:b43=x:=e;omega
       have hC:=hC.then hE20
       have hX:=hX.then (hE20.mono fun z _ e=> .inr (by have e:z=x:=e;rw[e];exact hxH))
       have hat2:=hat2.ext hE20 fun z hz e=>by have e:z=x:=e;subst e;exact hHF2 z hxH hz
       have ho2:=ho2.ju hE20 hlb0 zd
       refine gt gc 2 rfl ?_
       have hlb0:=hlb
       refine jo rfl (qz gc hlb rfl rfl (cV (by decide:0+(3+1)<6) rfl) fun w21 hlb hE21 hs21=>⟨hC.then hE21,?_⟩)
       have hb2:=hb2.ext hE21 h2x
       have hb3:=hb3.ext hE21 h3x
       have hb6:=hb6.ext hE21 h6x
       have hb43:=hb43.ext hE21 fun e=>by have e:b43=x:=e;omega
       have hC:=hC.then hE21
       have hX:=hX.then (hE21.mono fun z _ e=> .inr (by have e:z=x:=e;rw[e];exact hxH))
       have hat2:=hat2.ext hE21 fun z hz e=>by have e:z=x:=e;subst e;exact hHF2 z hxH hz
       have ho2:=ho2.ju hE21 hlb0 zd
       have hho:=fun z (hz:jb q2 z)=>ho2.lt hz
       have hxw:=hX.size
       refine jg (j5 ?_)
       exact gr ({W with D:=y.1,broken:=false,turn:=W.turn+1,pieces:=[b],used:=kw b.length},fun z=>z=x∨z=b43∨jb q2 z) rfl ⟨⟨⟨⟨some ⟨b43,0,none⟩,1,_,(by rw[hnx] at hlb;exact hlb),Own.blk (n:=1) (c:=1) hb43 1 rfl (aD _) zd,qr.snoc (ps:=[]) (rows:=[]) ⟨rfl,fun i b v h=>by cases h⟩ (yq.ofOwn ho2 fun z hz=> .inr (.inr hz)),fun z hz=>by cases hz;exact .inr (.inl rfl)⟩,.inl rfl,fun z hz=>by rcases hz with rfl|rfl|hz;exact hlb.lt;exact hb43.lt;exact hho z hz⟩,hat2,fun z hz=>by rcases hz with rfl|rfl|hz;exact .inl hxH;exact .inr fr43;exact .inr (aA hNw (hnN z hz)),fun z hz e=>by rcases hz with rfl|rfl|hz;exact hHF2 _ hxH e;have:=hF2lt _ e;omega;have:=hF2lt z e;have:=hnN z hz;omega,by rw[hy0];exact ckp_ok hre hy hy0⟩,hb2,hb3,hb6,hX⟩
      ·have hlb0:=hlb
       refine qz gc hlb rfl rfl (cV (by decide:0+(1+1)<6) rfl) fun w22 hlb hE22 hs22=>⟨hC.then hE22,?_⟩
       have hb2:=hb2.ext hE22 h2x
       have hb3:=hb3.ext hE22 h3x
       have hb6:=hb6.ext hE22 h6x
       have hC:=hC.then hE22
       have hX:=hX.then (hE22.mono fun z _ e=> .inr (by have e:z=x:=e;rw[e];exact hxH))
       have hat2:=hat2.ext hE22 fun z hz e=>by have e:z=x:=e;subst e;exact hHF2 z hxH hz
       have ho2:=ho2.ju hE22 hlb0 zd
       refine qm [(6,false),qP 13,qP 14,(15,false),qP 16,qP 17,(18,false)] 0 rfl zk ?_
       refine jo rfl (qi gc rfl 1 rfl rfl rfl zd zd zt (l':=[.slice q2 b.length k2]) rfl fun b43 w23 hn43 hb43 hE23 hs23=>⟨hC.gb hE23,?_⟩)
       have ne2_43:=j2 hb2.lt hn43
       have ne3_43:=j2 hb3.lt hn43
       have ne6_43:=j2 hb6.lt hn43
       have fr43:=aA hX.size hn43
       have frhC43:=aA hC.size hn43
       have hb2:=hb2.ga hE23
       have hb3:=hb3.ga hE23
       have hb6:=hb6.ga hE23
       have hat2:=hat2.ga hE23
       have hlb:=hlb.ga hE23
       have ho2:=ho2.ext hE23 fun _ _=>id
       have hX:=hX.gb hE23
       have hC:=hC.gb hE23
       refine gt gc 2 rfl ?_
       have hlb0:=hlb
       refine jo rfl (qz gc hlb rfl rfl (cV (by decide:0+(2+1)<6) rfl) fun w24 hlb hE24 hs24=>⟨hC.then hE24,?_⟩)
       have hb2:=hb2.ext hE24 h2x
       have hb3:=hb3.ext hE24 h3x
       have hb6:=hb6.ext hE24 h6x
       have hb43:=hb43.ext hE24 fun e=>by have e:b43=x:=e;omega
       have hC:=hC.then hE24
       have hX:=hX.then (hE24.mono fun z _ e=> .inr (by have e:z=x:=e;rw[e];exact hxH))
       have hat2:=hat2.ext hE24 fun z hz e=>by have e:z=x:=e;subst e;exact hHF2 z hxH hz
       have ho2:=ho2.ju hE24 hlb0 zd
       refine gt gc 2 rfl ?_
       have hlb0:=hlb
       refine jo rfl (qz gc hlb rfl rfl (cV (by decide:0+(3+1)<6) rfl) fun w25 hlb hE25 hs25=>⟨hC.then hE25,?_⟩)
       have hb2:=hb2.ext hE25 h2x
       have hb3:=hb3.ext hE25 h3x
       have hb6:=hb6.ext hE25 h6x
       have hb43:=hb43.ext hE25 fun e=>by have e:b43=x:=e;omega
       have hC:=hC.then hE25
       have hX:=hX.then (hE25.mono fun z _ e=> .inr (by have e:z=x:=e;rw[e];exact hxH))
       have hat2:=hat2.ext hE25 fun z hz e=>by have e:z=x:=e;subst e;exact hHF2 z hxH hz
       have ho2:=ho2.ju hE25 hlb0 zd
       have hho:=fun z (hz:jb q2 z)=>ho2.lt hz
       have hxw:=hX.size
       refine jg (j5 ?_)
       exact gr ({W with D:=y.1,broken:=false,turn:=W.turn+1,pieces:=[b],used:=kw b.length},fun z=>z=x∨z=b43∨jb q2 z) rfl ⟨⟨⟨⟨some ⟨b43,0,none⟩,1,_,(by rw[hnx] at hlb;exact hlb),Own.blk (n:=1) (c:=1) hb43 1 rfl (aD _) zd,qr.snoc (ps:=[]) (rows:=[]) ⟨rfl,fun i b v h=>by cases h⟩ (yq.ofOwn ho2 fun z hz=> .inr (.inr hz)),fun z hz=>by cases hz;exact .inr (.inl rfl)⟩,.inl rfl,fun z hz=>by rcases hz with rfl|rfl|hz;exact hlb.lt;exact hb43.lt;exact hho z hz⟩,hat2,fun z hz=>by rcases hz with rfl|rfl|hz;exact .inl hxH;exact .inr fr43;exact .inr (aA hNw (hnN z hz)),fun z hz e=>by rcases hz with rfl|rfl|hz;exact hHF2 _ hxH e;have:=hF2lt _ e;omega;have:=hF2lt z e;have:=hnN z hz;omega,by rw[hy0];exact ckp_ok hre hy hy0⟩,hb2,hb3,hb6,hX⟩
    ·refine kc ?_
     exact gr ({W with D:=y.1,broken:=true},H) rfl ⟨⟨by have e:=hlog2;rw[bQ hc] at e;exact e.data rfl rfl rfl rfl rfl,hat2,fun z hz=> .inl hz,hHF2,ckp_bad hre hy hc⟩,hb2,hb3,hb6,hX⟩
   rintro⟨V,G⟩ w26 ⟨⟨hlog3,hat3,hGs,hGF,hap⟩,hb2,hb3,hb6,hX⟩
   refine jd rfl (j9 (gv rfl rfl ?_))
   rw[hap]
   exact⟨rfl,F2,G,hat3,hlog3,hFs,hGs,hGF,hX⟩
theorem ready_nil (w:World) {p:Option Addr} {n k:Nat}:
  gn prog 116 [.pointer none,.slice p n k] w fun v w'=>v= .int .i64 1∧Ext No w w':=by
 refine gx func116 ?_
 have a:=Ext.refl No w
 refine jd rfl (gl (j8 (jd rfl (Cl rfl (jd rfl (j9 (u1 (j7 (gv rfl rfl ?_)))))))))
 exact⟨rfl,a⟩
theorem formatW_ok {D:ku} {m:Nat} (hok:D.Ok m) (area:Int):(vw D area).1.Ok (m+6000)∧(vw D area).1.secs.length=D.secs.length:=by
 by_cases h:0≤area∧Bw area.toNat D.secs.length
 ·obtain⟨a,rfl⟩:∃a:Nat,area=(a:Int):=⟨area.toNat,by omega⟩
  rw[cC] at h
  have b:=yx7 (List.replicate (2+2*a) zeros) 0 hok (zeros_rep _)
  rw[bS] at b
  have c:=h.2.2.1
  rw[formatW_yes h.2]
  split
  ·exact⟨b.mono zo,Cf _ _ _⟩
  exact⟨(beginD_ok b 0 a []).mono (by have:kw ([]:Bytes).length=1:=rfl;omega),by rw[beginD_secs,Cf]⟩
 rw[formatW_no h]
 exact⟨hok.mono zo,rfl⟩
theorem format_fine {D:ku} {a:Nat} (h:(vw D (a:Int)).2=0) {m:Nat} (hok:D.Ok m):Wl.Ok (Wl.fresh (vw D (a:Int)).1 a)∧Bw a D.secs.length:=by
 have c:Bw a D.secs.length:=by
  refine Decidable.byContradiction fun d=> ?_
  rw[formatW_no (fun e=>d (by have:=e.2;rwa [cC] at this))] at h
  exact absurd (show(2:Int)=0 from h) zd
 have f:=(formatW_ok hok (a:Int)).2
 exact⟨⟨⟨c.1,c.2.1⟩,by show 2+2*a≤_;rw[show(Wl.fresh (vw D (a:Int)).1 a).D=(vw D (a:Int)).1 from rfl,f];exact c.2.2,by show 0<4294967296;decide,by simp[Wl.fresh],fun b g=>by rw[aI.1 g];exact aJ _,by have:=c.1;show 1≤a;omega,rfl,by have:=c.1;show 1≤a;omega⟩,c⟩
theorem append_fine {W:Wl} {m:Nat} (hok:W.D.Ok m) (hW:Wl.Ok W) (b:Bytes):(W.append b).1.D.Ok (m+2000)∧Wl.Ok (W.append b).1:=by
 by_cases hr:W.refuses b ((W.size:Int)-W.used)=0
 ·obtain⟨y,hy⟩:∃y,y=Br W.D ((uj W.turn W.size+W.used:Nat):Int) (vk W.turn W.pieces.length b):=⟨_,rfl⟩
  have h1:=yx7 (vk W.turn W.pieces.length b) ((uj W.turn W.size+W.used:Nat):Int) hok (zq5 _ _ _)
  have h2:=Cf (vk W.turn W.pieces.length b) W.D ((uj W.turn W.size+W.used:Nat):Int)
  rw[←hy,xc] at h1
  rw[←hy] at h2
  have hsl:=zx6 b.length
  by_cases h0:y.2=0
  ·rw[append_ok hr hy h0]
   have hb40:b.length≤40000:=by
    rcases bF 40000 b.length with h|h
    ·unfold Wl.refuses at hr;rw[aR h] at hr;cases hr
    exact h
   have hrm:W.used+kw b.length≤W.size:=by
    unfold Wl.refuses at hr
    rw[aP zo] at hr
    split at hr
    ·cases hr
    split at hr
    ·cases hr
    omega
   have hp:=Df hb40
   have hus:W.pieces.length≤ug W.pieces:=by
    have:∀(l:List Bytes),(∀b∈l,b.length≤40000)→l.length≤ug l:=by
     intro l
     induction l with
     |nil=>intro _;exact aD _
     |cons a l ih=>
      intro h
      have:=Df (h a zp)
      have e:ug (a::l)=kw a.length+ug l:=by simp[ug]
      rw[e,aW]
      have:=ih fun x hx=>h x (by simp[hx])
      omega
    exact this _ hW.short
   have hu:=hW.used
   refine⟨h1.mono zo,⟨hW.size,by show _≤y.1.secs.length;rw[h2];exact hW.secs,hW.turn,by simp,fun x hx=> ?_,?_,?_,hrm⟩⟩
   ·rcases aY.1 hx with hx|hx
    ·exact hW.short x hx
    rw[aI.1 hx];exact hb40
   ·show(W.pieces++[b]).length≤W.size
    rw[aB,List.length_singleton]
    omega
   show W.used+kw b.length=ug (W.pieces++[b])
   rw[Cd,hu]
  rw[append_bad hr hy h0]
  exact⟨h1.mono zo,⟨hW.size,by show _≤y.1.secs.length;rw[h2];exact hW.secs,hW.turn,hW.some,hW.short,hW.few,hW.used,hW.room⟩⟩
 rw[append_no hr]
 exact⟨hok.mono zo,hW⟩
theorem readsD_ok:∀(k:Nat) {D:ku} {m:Nat} (at_:Int),D.Ok m→(yf D at_ k).1.Ok (m+k)∧(yf D at_ k).1.secs=D.secs∧(yf D at_ k).1.order=D.order∧((yf D at_ k).2.2=0→(yf D at_ k).2.1.length=k∧∀s∈(yf D at_ k).2.1,s.length=64)
 |0,D,m,at_,h=>⟨h,rfl,rfl,fun _=>⟨rfl,fun s hs=>(by cases hs)⟩⟩
 |k+1,D,m,at_,h=>by
  have h1:=h.read at_
  have h2:=ku.Ar D at_ false
  rw[readsD_step]
  split
  ·rename_i he
   exact⟨h1.mono zo,h2.1,h2.2,fun e=>absurd e he⟩
  obtain⟨a1,a2,a3,a4⟩:=readsD_ok k (at_+1) h1
  refine⟨a1.mono zo,a2.trans h2.1,a3.trans h2.2,fun e=> ?_⟩
  obtain⟨b1,b2⟩:=a4 e
  refine⟨by rw[aW,b1],fun s hs=> ?_⟩
  rcases List.mem_cons.1 hs with rfl|hs
  ·unfold ku.read
   dsimp only
   split
   ·exact yx5 (h.begin at_ false) _
   exact zeros_length
  exact b2 s hs
theorem lyGo_fine (t:Nat):∀(f:Nat) (area:List Bytes) (n:Nat),(∀s∈area,s.length=64)→(∀b∈lyGo t f area n,b.length≤40000)∧ug (lyGo t f area n)≤area.length
 |0,area,n,h=>⟨fun b hb=>(by cases hb),aJ _⟩
 |f+1,area,n,h=>by
  unfold lyGo
  cases hl:zx0 area t n with
  |none=>exact⟨fun b hb=>(by cases hb),aJ _⟩
  |some b=>
   obtain⟨h1,h2,h3⟩:=liesB_some h hl
   obtain⟨i1,i2⟩:=lyGo_fine t f (area.drop (kw b.length)) (n+1) fun s hs=>h s (dO hs)
   dsimp only
   refine⟨fun x hx=> ?_,?_⟩
   ·rcases List.mem_cons.1 hx with rfl|hx
    ·exact h1
    exact i1 x hx
   rw[aX] at i2
   have e:ug (b::lyGo t f (area.drop (kw b.length)) (n+1))=kw b.length+ug (lyGo t f (area.drop (kw b.length)) (n+1)):=by simp[ug]
   rw[e]
   omega
theorem used_few:∀(l:List Bytes),(∀b∈l,b.length≤40000)→l.length≤ug l
 | [],_=>aD _
 |a::l,h=>by
  have:=Df (h a zp)
  have e:ug (a::l)=kw a.length+ug l:=by simp[ug]
  rw[e,aW]
  have:=used_few l fun x hx=>h x (by simp[hx])
  omega
theorem openAt_fine {D:ku} {m t n:Nat} (hok:D.Ok m) (hn:n≤1000):(x7 D t n).1.Ok (m+4000)∧(x7 D t n).1.secs.length=D.secs.length∧((x7 D t n).2.1=0→(x7 D t n).2.2.1=t∧(x7 D t n).2.2.2.1=n∧(x7 D t n).2.2.2.2≠[]∧(∀b∈(x7 D t n).2.2.2.2,b.length≤40000)∧ug (x7 D t n).2.2.2.2≤n):=by
 obtain⟨c,d,o,i⟩:=readsD_ok n (uj t n) hok
 unfold x7
 dsimp only
 split
 ·rename_i f
  exact⟨c.mono zo,by rw[d],fun e=>absurd e f⟩
 rename_i f
 obtain⟨h,j⟩:=i (aS.1 f)
 obtain⟨k,l⟩:=lyGo_fine t (yf D (uj t n) n).2.1.length (yf D (uj t n) n).2.1 0 j
 split
 ·exact⟨c.mono zo,by rw[d],fun e=>absurd (show(140:Int)=0 from e) zd⟩
 rename_i g
 have a:=cleanD_ok c ((uj t n+ug (lyingB (yf D (uj t n) n).2.1 t):Nat):Int) ((yf D (uj t n) n).2.1.drop (ug (lyingB (yf D (uj t n) n).2.1 t)))
 rw[aX,h] at a
 exact⟨a.mono zo,by rw[cleanD_secs,d],fun _=>⟨rfl,rfl,g,k,aA l (Nat.le_of_eq h)⟩⟩
theorem openW_fine {D:ku} {m:Nat} (hok:D.Ok m):(ur D).1.Ok (m+5000)∧(ur D).1.secs.length=D.secs.length∧((ur D).2.1=0→Wl.Ok (Wl.opened (ur D))):=by
 obtain⟨⟨i,j,v⟩,b|⟨t,n,b,w,c,o⟩⟩:=newestD_spec hok
 ·rw[openW_no b.1]
  exact⟨i.mono zo,by rw[j],fun e=>absurd e b.2⟩
 rw[openW_yes b]
 obtain⟨p,q,r⟩:=openAt_fine (t:=t) i c.2.1
 have a:(x7 (u7 D).1 t n).1.secs.length=D.secs.length:=by rw[q,j]
 refine⟨p.mono zo,a,fun e=> ?_⟩
 obtain⟨s,d,u,k,l⟩:=r e
 have f:=c.1
 have g:=c.2.1
 have h:=c.2.2
 refine⟨?_,?_,?_,u,k,?_,rfl,?_⟩
 ·show 4≤(x7 (u7 D).1 t n).2.2.2.1∧(x7 (u7 D).1 t n).2.2.2.1≤1000
  rw[d];exact⟨f,g⟩
 ·show 2+2*(x7 (u7 D).1 t n).2.2.2.1≤(x7 (u7 D).1 t n).1.secs.length
  rw[d,a];exact h
 ·show(x7 (u7 D).1 t n).2.2.1<4294967296
  rw[s];exact o
 ·show(x7 (u7 D).1 t n).2.2.2.2.length≤(x7 (u7 D).1 t n).2.2.2.1
  rw[d];exact aA (used_few _ k) l
 show ug (x7 (u7 D).1 t n).2.2.2.2≤(x7 (u7 D).1 t n).2.2.2.1
 rw[d];exact l
theorem new_calls (w:World) {n:Nat} (h:1≤n∧n≤2048):
  gn prog 22 [.int .i64 (n:Int)] w fun v w'=>∃(d:Nat) (F:Nat→Prop),v= .tuple #[.pointer (some ⟨d,0,none⟩),.int .i64 0]∧At w' d F (ku.fresh n)∧(∀y,F y→w.heap.size≤y)∧Ext No w w':=
 (dk_new w (n:Int)).mono fun v w' hq=>by
  rw[aR zo] at hq
  obtain⟨d,h1,h2,h3,h4⟩:=hq
  rw[cC] at h3
  exact⟨d,_,h1,h3,fun y hy=>hy.elim (fun e=>e.elim) fun e=>e.1,h4⟩
end Go.Proofs.YtpdiphfjmepijaaGreatDoor
namespace Go.Vc
theorem Own.opened {w:World} {p:Option Addr} {n c T sz:Nat} {xs:List Value} (h:Own w p n c T sz xs) (hn:0<n):∃b l,p=some ⟨b,0,none⟩∧gz w b T l∧l.length=c*sz∧n≤c∧c≤maxLen∧l.take (n*sz)=xs:=by
 rcases h with⟨_,h,_,_⟩|⟨b,l,d,e,f,a,g,i⟩
 ·omega
 exact⟨b,l,d,e,f,a,g,i⟩
theorem Own.zx4 {w:World} {b n c T sz:Nat} {l xs:List Value} {k:Nat} {v:Value} (hl:l.length=c*sz) (hn:n≤c) (hc:c≤maxLen) (hx:l.take (n*sz)=xs) (hb:gz w b T (l.set k v)):Own w (some ⟨b,0,none⟩) n c T sz (xs.set k v):=
 .inr ⟨b,_,rfl,hb,by rw[List.length_set,hl],hn,hc,by rw[List.take_set,hx]⟩
theorem yw3 {α:Type} {f:α→List Value} {n:Nat} {l:List α} (hn:∀x∈l,(f x).length=n) {i j:Nat} (hi:i<l.length) (hj:j<n) {v:Value} {y:α} (hy:f y=(f l[i]).set j v):(l.flatMap f).set (i*n+j) v=(l.set i y).flatMap f:=by
 have h:=rows_put (Uni.map hn) (i:=i) (j:=j) (r:=f l[i]) (by rw[cE,aN hi];rfl) [v] zc
 rw[List.flatMap_def,List.flatMap_def,List.map_set,hy]
 exact h
def upto {α:Type} (g:α→α) (i:Nat) (l:List α):List α:=(l.take i).map g++l.drop i
theorem upto_zero {α:Type} (g:α→α) (l:List α):upto g 0 l=l:=by simp[upto]
theorem xq7 {α:Type} (g:α→α) (i:Nat) (l:List α):(upto g i l).length=l.length:=by simp[upto];omega
theorem upto_all {α:Type} {g:α→α} {i:Nat} {l:List α} (h:l.length≤i):upto g i l=l.map g:=by
 simp[upto,aO h,bM h]
theorem upto_get {α:Type} {g:α→α} {i:Nat} {l:List α} (h:i<l.length):(upto g i l)[i]'(by rw[xq7];exact h)=l[i]:=by
 have e:((l.take i).map g).length=i:=by simp;omega
 simp only[upto]
 rw[List.getElem_append_right (by rw[e];exact aD _)]
 rw[List.getElem_drop]
 congr 1
 omega
theorem upto_step {α:Type} {g:α→α} {i:Nat} {l:List α} (h:i<l.length):(upto g i l).set i (g l[i])=upto g (i+1) l:=by
 have e:((l.take i).map g).length=i:=by simp;omega
 simp only[upto]
 rw[List.set_append,aP zo,e,Nat.sub_self,bY h,List.set_cons_zero,aQ h,bX,aV]
 rfl
theorem upto_mem {α:Type} {g:α→α} {i:Nat} {l:List α} {p:α→Prop} (h:∀x∈l,p x) (hg:∀x,p x→p (g x)):∀x∈upto g i l,p x:=fun x hx=>by
 simp only[upto,aY,bN] at hx
 rcases hx with⟨y,hy,rfl⟩|hx
 ·exact hg y (h y (bH hy))
 exact h x (dO hx)
theorem strU_cut (l:Str) (n:Nat):(ul l).extract 0 (min (ul l).size n)=ul (l.take n):=by
 apply ByteArray.ext
 show((ul l).extract 0 (min (ul l).size n)).data=(l.take n).toArray
 rw[ByteArray.data_extract,strU_size]
 show l.toArray.extract 0 (min l.length n)=_
 rw[List.extract_toArray]
 congr 1
 simp only[List.extract,bB,List.drop_zero]
 rw[List.take_eq_take_iff]
 omega
theorem minI (n k:Nat):(if(k:Int)<(n:Int) then(k:Int) else(n:Int))=((min n k:Nat):Int):=by split<;>omega
theorem cutBds (n k:Nat):Bds.Is ⟨none,some (if(k:Int)<(n:Int) then(k:Int) else(n:Int)),none⟩ n n 0 (min n k) n:=
 ⟨.inr ⟨rfl,rfl⟩,.inl (congrArg some (minI n k)),.inr ⟨rfl,rfl⟩,aJ _,by omega,aD _⟩
theorem Bm {α:Type} (l:List α) (k:Nat):min l.length k=(l.take k).length:=by simp[Nat.min_comm]
theorem Sl.cut {α:Type} {w:World} {p:Option Addr} {f:α→List Value} {n:Nat} {l:List α} (h:Sl w p l.length n (l.flatMap f)) (hn:∀x∈l,(f x).length=n) (k:Nat):Sl w p (l.take k).length n ((l.take k).flatMap f):=by
 have a:=h.slice 0 (min l.length k) (min l.length k) (aJ _) (aD _) zo
 have e:((l.flatMap f).drop (0*n)).take ((min l.length k-0)*n)=(l.take k).flatMap f:=by
  rw[cW,List.drop_zero,bB,List.flatMap_def,List.flatMap_def,rows_take (Uni.map hn),←List.map_take]
  congr 2
  rw[List.take_eq_take_iff]
  omega
 rw[e,jw,bB,Bm] at a
 exact a
abbrev IdB:=List UInt8
/-! ### Ap rows of Ids -/
def idLt (a b:IdB):Prop:=Op.bytesLess a b=true
instance (a b:IdB):Decidable (idLt a b):=inferInstanceAs (Decidable (_=true))
theorem idLt_irrefl (a:IdB):¬idLt a a:=fun h=>yq4 a a h h
theorem bl_trans:∀(x y z:List UInt8),Op.bytesLess x y=true→Op.bytesLess y z=true→Op.bytesLess x z=true
 | [],[],_,h,_=>by cases h
 | [],_::_,[],_,h=>by cases h
 | [],_::_,_::_,_,_=>rfl
 |_::_,[],_,h,_=>by cases h
 |_::_,_::_,[],_,h=>by cases h
 |a::x,b::y,c::z,h,k=>by
  simp only[Op.bytesLess,Bool.or_eq_true,bV,aU,beq_iff_eq] at h k⊢
  rcases h with h|⟨rfl,h⟩
  ·rcases k with k|⟨rfl,k⟩
   ·exact .inl (UInt8.lt_trans h k)
   exact .inl h
  rcases k with k|⟨rfl,k⟩
  ·exact .inl k
  exact .inr ⟨rfl,bl_trans x y z h k⟩
def Rise (l:List IdB):Prop:=l.Pairwise idLt
theorem rise_nodup {l:List IdB} (h:Rise l):l.Nodup:=List.Pairwise.imp (fun{a b} (hab:idLt a b) (e:a=b)=>idLt_irrefl b (e▸hab)) h
/-! ### All that an Id leads to -/
open Classical in
/-! ### Closed commits -/
structure yo where
  name:Str
  was:Bool
  is:Bool
  old:Bytes
  new:Bytes
  deriving DecidableEq
structure Bu where
  objs:List jq
  sets:List yo
  deriving DecidableEq
abbrev Ax:=Str×Bytes
structure Sto where
  row:List jq
  vals:List Ax
def zv7 (is:Bool) (b:Bytes):Prop:=b.length≤4096∧(is=true∨b.length=0)
instance (i:Bool) (b:Bytes):Decidable (zv7 i b):=inferInstanceAs (Decidable (_∧_))
def D9 (s:yo):Prop:=s.name≠[]∧s.name.length≤32∧zv7 s.was s.old∧zv7 s.is s.new
instance (s:yo):Decidable (D9 s):=inferInstanceAs (Decidable (_∧_))
def zv3 (l:List yo):Prop:=(∀s∈l,D9 s)∧(l.map yo.name).Nodup
instance (l:List yo):Decidable (zv3 l):=inferInstanceAs (Decidable (_∧_))
def z7 (b:Bu):Prop:=b.objs.length≤4096∧b.sets.length≤128∧(∀o∈b.objs,x9 o)∧zv3 b.sets
instance (b:Bu):Decidable (z7 b):=inferInstanceAs (Decidable (_∧_))
def xv4 (is:Bool) (b:Bytes):Bytes:=[isB is]++vz 2 b
def zx4 (s:yo):Bytes:=vz 1 s.name++xv4 s.was s.old++xv4 s.is s.new
def yt (l:List jq):Bytes:=l.flatMap fun o=>vz 2 (laidB o)
def uf (b:Bu):Bytes:=be 2 b.objs.length++yt b.objs++be 1 b.sets.length++b.sets.flatMap zx4
def Ds.side (s:Ds):(Bool×Bytes)×Ds:=((decide (0<num (s.off 1).1),((s.off 1).2.str 2).1),((s.off 1).2.str 2).2)
def Ds.set (s:Ds):yo×Ds:=
  let n:=s.str 1
  let o:=n.2.side
  let p:=o.2.side
  (⟨n.1,o.1.1,p.1.1,o.1.2,p.1.2⟩,p.2)
abbrev zz1:Bu:=⟨[],[]⟩
def rawB (b:Bytes):(List Bytes×List yo)×Ds:=
  let n:=(⟨b,false⟩:Ds).off 2
  let os:=Ds.each (fun s=>s.str 2) (num n.1) n.2
  let m:=os.2.off 1
  let ss:=Ds.each Ds.set (num m.1) m.2
  ((os.1,ss.1),ss.2)
def batOf (x:List Bytes×List yo):Bu:=⟨x.1.map fun y=>(vj y).1,x.2⟩
def vi (b:Bytes):Bu×Int:=
  if(rawB b).2.bad then(zz1,7)
  else if(∀y∈(rawB b).1.1,(vj y).2=0)∧z7 (batOf (rawB b).1)∧uf (batOf (rawB b).1)=b then(batOf (rawB b).1,0)
  else(zz1,2)
/-! ### what a batch brings -/
def vl (l:List jq):List IdB:=l.map Be
def brO (s:Option (List jq×List jq)) (o:jq):Option (List jq×List jq):=
  s.bind fun p=>if Be o∈vl p.1 then some p else if∀x∈u5 o,x∈vl p.1 then some (p.1++[o],p.2++[o]) else none
def yy (row l:List jq):Option (List jq×List jq):=l.foldl brO (some (row,[]))
def yq2 (l:List Ax) (n:Str):Option Bytes:=(l.find? fun v=>decide (v.1=n)).map (·.2)
def FitD (l:List Ax) (s:yo):Prop:=yq2 l s.name=if s.was then some s.old else none
instance (l:List Ax) (s:yo):Decidable (FitD l s):=inferInstanceAs (Decidable (_=_))
abbrev nLt (a b:Str):Prop:=SLt (ul a) (ul b)
def xq5 (l:List Ax) (s:yo):List Ax:=
  (l.filter fun v=>decide (nLt v.1 s.name))++(if s.is then [(s.name,s.new)] else [])++l.filter fun v=>decide (nLt s.name v.1)
def seS (v:Option (List Ax)) (s:yo):Option (List Ax):=v.bind fun l=>if FitD l s then some (xq5 l s) else none
def Bd (l:List Ax) (ss:List yo):Option (List Ax):=ss.foldl seS (some l)
def jv (s:Sto) (b:Bu):Sto×Bu×Int:=match yy s.row b.objs with
  |none=>(s,zz1,4)
  |some p=>match Bd s.vals b.sets with
    |none=>(s,zz1,200)
    |some v=>if 128<v.length then(s,zz1,6) else(⟨p.1,v⟩,⟨p.2,b.sets⟩,0)
def Bf (s:Sto):Bu:=⟨s.row,s.vals.map fun v=>⟨v.1,false,true,[],v.2⟩⟩
def vm (s:Sto) (b:Bytes):Option Sto:=
  if(vi b).2=0∧(jv s (vi b).1).2.2=0∧(jv s (vi b).1).2.1.objs.length=(vi b).1.objs.length then some (jv s (vi b).1).1 else none
abbrev xq1:Sto:=⟨[],[]⟩
def yj (b:Bytes):Option Sto:=if b=[] then some xq1 else(vm xq1 b).bind fun s=>if uf (Bf s)=b then some s else none
def saidD (ps:List Bytes):Option Sto:=match ps with
  | []=>none
  |b::l=>l.foldl (fun s x=>s.bind fun s=>vm s x) (yj b)
/-! ### the store over its log -/
structure Sd where
  W:Wl
  s:Sto
def xv3 (x:Sd) (next:Sto):Sd×Int:=
  if 4096<next.row.length∨40000<(uf (Bf next)).length then(x,6)
  else(⟨(x.W.xq (uf (Bf next))).1,if(x.W.xq (uf (Bf next))).2=0 then next else x.s⟩,(x.W.xq (uf (Bf next))).2)
def zx2 (x:Sd) (a:Sto) (row:Bytes):Sd×Int:=
  if row.length≤40000∧(kw row.length:Int)≤(x.W.size:Int)-x.W.used then(⟨(x.W.append row).1,if(x.W.append row).2=0 then a else x.s⟩,(x.W.append row).2) else xv3 x a
def yp (x:Sd) (b:Bu):Sd×Int:=
  if x.W.broken=true then(x,8) else if¬z7 b then(x,2)
  else if(jv x.s b).2.2≠0∨((jv x.s b).2.1.objs=[]∧(jv x.s b).2.1.sets=[]) then(x,(jv x.s b).2.2)
  else zx2 x (jv x.s b).1 (uf (jv x.s b).2.1)
open Classical in
def xj2 (D:ku):ku×Int×Option Sd:=
  if(ur D).2.1≠0 then((ur D).1,(ur D).2.1,none) else match saidD (Wl.opened (ur D)).pieces with
  |none=>((ur D).1,201,none)
  |some s=>((ur D).1,0,some ⟨Wl.opened (ur D),s⟩)
/-! ### what holds of every store -/
def Ap (l:List Ax):Prop:=l.Pairwise fun a b=>nLt a.1 b.1
def Ahead:List jq→List jq→Prop
  |_,[]=>True
  |before,o::r=>(Be o∉vl before∧∀x∈u5 o,x∈vl before)∧Ahead (before++[o]) r
structure Sto.Ok (s:Sto):Prop where
  objs:∀o∈s.row,x9 o
  ahead:Ahead [] s.row
  rise:Ap s.vals
  vals:∀v∈s.vals,v.1≠[]∧v.1.length≤32∧v.2.length≤4096
  few:s.vals.length≤128
theorem nLt_irrefl (a:Str):¬nLt a a:=fun h=>yq4 a a h h
theorem zw5 {a b:Str} (h:nLt a b):¬nLt b a:=fun k=>yq4 a b h k
theorem nLt_trans {a b c:Str} (h:nLt a b) (k:nLt b c):nLt a c:=bl_trans a b c h k
theorem nLt_total (a b:Str):nLt a b∨a=b∨nLt b a:=by
 rcases bl_total a b with(h|h)|h
 ·exact .inl h
 ·exact .inr (.inl h)
 exact .inr (.inr h)
theorem nLt_ne {a b:Str} (h:nLt a b):a≠b:=fun e=>nLt_irrefl b (e▸h)
theorem Cj {α β:Type} {f:β→α→β} {b:β} {l:List α} {i:Nat} (hi:i<l.length):(l.take (i+1)).foldl f b=f ((l.take i).foldl f b) l[i]:=by
 rw[aQ hi,List.foldl_append];rfl
theorem Bv {α β:Type} {f:Option β→α→Option β} (hf:∀x,f none x=none):∀l:List α,l.foldl f none=none
 | []=>rfl
 |x::r=>by rw[List.foldl_cons,hf,Bv hf r]
theorem foldl_stop {α β:Type} {f:Option β→α→Option β} (hf:∀x,f none x=none) {b:Option β} {l:List α} {i:Nat} (hi:i<l.length) (h:f ((l.take i).foldl f b) l[i]=none):l.foldl f b=none:=by
 rw[←cS (i+1) l,List.foldl_append,Cj hi,h,Bv hf]
theorem brO_none (o:jq):brO none o=none:=rfl
theorem seS_none (s:yo):seS none s=none:=rfl
/-! ### objects that are brought -/
theorem idsOf_snoc (l:List jq) (o:jq):vl (l++[o])=vl l++[Be o]:=by rw[vl,bX];rfl
theorem Ahead.snoc {o:jq}:∀{b l:List jq},Ahead b l→(Be o∉vl (b++l)∧∀x∈u5 o,x∈vl (b++l))→Ahead b (l++[o])
 |b,[],_,h=>by rw[bK] at h;exact⟨h,trivial⟩
 |b,y::r,h,k=>⟨h.1,Ahead.snoc h.2 (by rw[aV];exact k)⟩
theorem xw5:∀(l row:List jq) (fresh:List jq) {row' fresh':List jq},Ahead [] row→l.foldl brO (some (row,fresh))=some (row',fresh')→
  Ahead [] row'∧(∃m,row'=row++m∧fresh'=fresh++m∧m.Sublist l)
 | [],row,fresh,row',fresh',ha,h=>by cases h;exact⟨ha,[],by simp,by simp,.slnil⟩
 |o::l,row,fresh,row',fresh',ha,h=>by
  rw[List.foldl_cons] at h
  by_cases h1:Be o∈vl row
  ·rw[show brO (some (row,fresh)) o=some (row,fresh) from by simp[brO,h1]] at h
   obtain⟨h2,m,e1,e2,e3⟩:=xw5 l row fresh ha h
   exact⟨h2,m,e1,e2,e3.cons _⟩
  by_cases h2:∀x∈u5 o,x∈vl row
  ·rw[show brO (some (row,fresh)) o=some (row++[o],fresh++[o]) from by simp only[brO,Option.bind_some,aP h1,aR h2]] at h
   obtain⟨h3,m,e1,e2,e3⟩:=xw5 l _ _ (ha.snoc (by rw[cB];exact⟨h1,h2⟩)) h
   exact⟨h3,o::m,by rw[e1,aV];rfl,by rw[e2,aV];rfl,e3.cons_cons _⟩
  rw[show brO (some (row,fresh)) o=none from by simp only[brO,Option.bind_some,aP h1,aP h2],Bv brO_none] at h
  cases h
/-! ### values -/
theorem find_split {l A B:List Ax} {n:Str} (hr:Ap l) (e:l=A++B) (hA:∀v∈A,nLt v.1 n) (hB:∀v,B.head? =some v→¬nLt v.1 n):
  (l.filter fun v=>decide (nLt v.1 n))=A∧((∃x r,B=(n,x)::r∧(l.filter fun v=>decide (nLt n v.1))=r∧yq2 l n=some x)∨
   ((∀v,B.head? =some v→v.1≠n)∧(l.filter fun v=>decide (nLt n v.1))=B∧yq2 l n=none)):=by
 subst e
 obtain⟨_,hrB,_⟩:=List.pairwise_append.1 hr
 have hA2:(A.filter fun v=>decide (nLt v.1 n))=A:=List.filter_eq_self.2 fun v hv=>by simpa using hA v hv
 have hA3:(A.filter fun v=>decide (nLt n v.1))=[]:=List.filter_eq_nil_iff.2 fun v hv=>by simpa using zw5 (hA v hv)
 have hA4:A.find? (fun v=>decide (v.1=n))=none:=List.find?_eq_none.2 fun v hv=>by simpa using nLt_ne (hA v hv)
 cases B with
 |nil=>exact⟨by rw[bK,hA2],.inr ⟨fun v hv=>(by cases hv),by rw[bK,hA3],by rw[yq2,bK,hA4];rfl⟩⟩
 |cons b r=>
  obtain⟨hb,_⟩:=List.pairwise_cons.1 hrB
  have hbn:=hB b rfl
  have hgt:∀v∈r,nLt n v.1:=fun v hv=>by
   rcases nLt_total b.1 n with h|h|h
   ·exact absurd h hbn
   ·rw[←h];exact hb v hv
   exact nLt_trans h (hb v hv)
  have hr1:(r.filter fun v=>decide (nLt v.1 n))=[]:=List.filter_eq_nil_iff.2 fun v hv=>by simpa using zw5 (hgt v hv)
  have hr2:(r.filter fun v=>decide (nLt n v.1))=r:=List.filter_eq_self.2 fun v hv=>by simpa using hgt v hv
  have hr4:r.find? (fun v=>decide (v.1=n))=none:=List.find?_eq_none.2 fun v hv=>by simpa using(nLt_ne (hgt v hv)).symm
  refine⟨by rw[List.filter_append,hA2,dM (by simpa using hbn),hr1,bK],?_⟩
  by_cases hbe:b.1=n
  ·refine .inl ⟨b.2,r,by rw[←hbe],?_,?_⟩
   ·rw[List.filter_append,hA3,dM (by rw[hbe];simpa using nLt_irrefl n),hr2,cB]
   rw[yq2,List.find?_append,hA4,Option.none_or,List.find?_cons_of_pos (by simpa using hbe)];rfl
  have hnb:nLt n b.1:=by
   rcases nLt_total b.1 n with h|h|h
   ·exact absurd h hbn
   ·exact absurd h hbe
   exact h
  refine .inr ⟨fun v hv=>by cases hv;exact hbe,?_,?_⟩
  ·rw[List.filter_append,hA3,List.filter_cons_of_pos (by simpa using hnb),hr2,cB]
  rw[yq2,List.find?_append,hA4,Option.none_or,List.find?_cons_of_neg (by simpa using hbe),hr4];rfl
theorem putV_mem {l:List Ax} {s:yo} {v:Ax} (h:v∈xq5 l s):v∈l∨s.is=true∧v=(s.name,s.new):=by
 unfold xq5 at h
 rcases aY.1 h with h|h
 ·rcases aY.1 h with h|h
  ·exact .inl (List.mem_filter.1 h).1
  split at h
  ·rename_i hi;exact .inr ⟨hi,by simpa using h⟩
  cases h
 exact .inl (List.mem_filter.1 h).1
theorem putV_rise {l:List Ax} {s:yo} (h:Ap l):Ap (xq5 l s):=by
 unfold xq5 Ap
 refine List.pairwise_append.2 ⟨List.pairwise_append.2 ⟨h.filter _,?_,fun a c b d=> ?_⟩,h.filter _,fun a c b d=> ?_⟩
 ·split
  ·exact List.pairwise_singleton _ _
  exact .nil
 ·have f:=(List.mem_filter.1 c).2
  split at d
  ·rw[aI.1 d];simpa using f
  cases d
 have e:nLt s.name b.1:=by simpa using(List.mem_filter.1 d).2
 rcases aY.1 c with c|c
 ·exact nLt_trans (by simpa using(List.mem_filter.1 c).2) e
 split at c
 ·rw[aI.1 c];exact e
 cases c
theorem filters_le (n:Str):∀l:List Ax,(l.filter fun v=>decide (nLt v.1 n)).length+(l.filter fun v=>decide (nLt n v.1)).length≤l.length
 | []=>aD _
 |v::r=>by
  have:=filters_le n r
  by_cases h:nLt v.1 n
  ·rw[List.filter_cons_of_pos (by simpa using h),dM (by simpa using zw5 h),aW,aW];omega
  by_cases k:nLt n v.1
  ·rw[dM (by simpa using h),List.filter_cons_of_pos (by simpa using k),aW,aW];omega
  rw[dM (by simpa using h),dM (by simpa using k),aW];omega
theorem putV_len (l:List Ax) (s:yo):(xq5 l s).length≤l.length+1:=by
 have:=filters_le s.name l
 unfold xq5
 rw[aB,aB]
 split<;>simp only[aW,List.length_nil]<;>omega
theorem xq3 {p q:Ax→Bool}:∀{l:List Ax},(∀v∈l,p v=true→q v=true)→(l.filter q).find? p=l.find? p
 | [],_=>rfl
 |v::r,h=>by
  have ih:=xq3 (p:=p) (q:=q) (l:=r) fun u hu=>h u (dJ _ hu)
  by_cases hp:p v=true
  ·rw[List.filter_cons_of_pos (h v List.mem_cons_self hp),List.find?_cons_of_pos hp,List.find?_cons_of_pos hp]
  rw[List.find?_cons_of_neg hp]
  by_cases hq:q v=true
  ·rw[List.filter_cons_of_pos hq,List.find?_cons_of_neg hp,ih]
  rw[dM hq,ih]
theorem valN_put {l:List Ax} {s:yo} {m:Str} (hm:m≠s.name):yq2 (xq5 l s) m=yq2 l m:=by
 unfold yq2 xq5
 congr 1
 have hmid:(if s.is then [(s.name,s.new)] else []:List Ax).find? (fun v=>decide (v.1=m))=none:=by
  split
  ·rw[List.find?_cons_of_neg (by simpa using hm.symm)];rfl
  rfl
 rw[List.find?_append,List.find?_append,hmid,Option.or_none]
 rcases nLt_total m s.name with h|h|h
 ·rw[xq3 (fun v _ hv=>by simp only[aU] at hv⊢;rw[hv];exact h)]
  have h2:(l.filter fun v=>decide (nLt s.name v.1)).find? (fun v=>decide (v.1=m))=none:=List.find?_eq_none.2 fun v hv=>by
   have h1:nLt s.name v.1:=by simpa using(List.mem_filter.1 hv).2
   simp only[aU]
   intro e
   rw[e] at h1
   exact zw5 h h1
  rw[h2,Option.or_none]
 ·exact absurd h hm
 have h2:(l.filter fun v=>decide (nLt v.1 s.name)).find? (fun v=>decide (v.1=m))=none:=List.find?_eq_none.2 fun v hv=>by
  have h1:nLt v.1 s.name:=by simpa using(List.mem_filter.1 hv).2
  simp only[aU]
  intro e
  rw[e] at h1
  exact zw5 h h1
 rw[h2,Option.none_or,xq3 (fun v _ hv=>by simp only[aU] at hv⊢;rw[hv];exact h)]
theorem xq9:∀(ss:List yo) {l l':List Ax},ss.foldl seS (some l)=some l'→Ap l→
  Ap l'∧l'.length≤l.length+ss.length∧(∀v∈l',v∈l∨∃s∈ss,s.is=true∧v=(s.name,s.new))∧∀m,m∉ss.map yo.name→yq2 l' m=yq2 l m
 | [],l,l',h,hr=>by cases h;exact⟨hr,by simp,fun v hv=> .inl hv,fun _ _=>rfl⟩
 |s::r,l,l',h,hr=>by
  rw[List.foldl_cons] at h
  by_cases hf:FitD l s
  ·rw[show seS (some l) s=some (xq5 l s) from by simp only[seS,Option.bind_some,aR hf]] at h
   obtain⟨h1,h2,h3,h4⟩:=xq9 r h (putV_rise hr)
   refine⟨h1,?_,fun v hv=> ?_,fun m hm=> ?_⟩
   ·have:=putV_len l s
    rw[aW];omega
   ·rcases h3 v hv with h|⟨t,ht,e⟩
    ·rcases putV_mem h with h|h
     ·exact .inl h
     exact .inr ⟨s,List.mem_cons_self,h⟩
    exact .inr ⟨t,dJ _ ht,e⟩
   rw[dL,List.mem_cons,not_or] at hm
   rw[h4 m hm.2,valN_put hm.1]
  rw[show seS (some l) s=none from by simp only[seS,Option.bind_some,aP hf],Bv seS_none] at h
  cases h
/-! ### a store stays fine -/
theorem xz4:Sto.Ok xq1:=⟨fun _ h=>(by cases h),trivial,List.Pairwise.nil,fun _ h=>(by cases h),aJ _⟩
theorem after_some {s:Sto} {b:Bu} (h:(jv s b).2.2=0):∃p v,yy s.row b.objs=some p∧Bd s.vals b.sets=some v∧v.length≤128∧jv s b=(⟨p.1,v⟩,⟨p.2,b.sets⟩,0):=by
 unfold jv at h⊢
 cases h1:yy s.row b.objs with
 |none=>rw[h1] at h;cases h
 |some p=>
  rw[h1] at h
  cases h2:Bd s.vals b.sets with
  |none=>rw[h2] at h;cases h
  |some v=>
   rw[h2] at h
   dsimp only at h⊢
   split at h
   ·cases h
   rename_i a
   exact⟨p,v,rfl,rfl,by omega,by rw[aP a]⟩
theorem xw0 {s:Sto} {b:Bu} (h:(jv s b).2.2≠0):(jv s b).1=s∧(jv s b).2.1=zz1:=by
 unfold jv at h⊢
 split
 ·exact⟨rfl,rfl⟩
 rename_i p a
 rw[a] at h
 dsimp only at h⊢
 split
 ·exact⟨rfl,rfl⟩
 rename_i v c
 rw[c] at h
 dsimp only at h⊢
 split
 ·exact⟨rfl,rfl⟩
 rename_i d
 rw[aP d] at h
 exact absurd rfl h
theorem after_ok {s:Sto} {b:Bu} (hs:s.Ok) (hb:z7 b):(jv s b).1.Ok∧(jv s b).1.row.length≤s.row.length+b.objs.length:=by
 by_cases h0:(jv s b).2.2=0
 ·obtain⟨p,v,f,g,i,e⟩:=after_some h0
  rw[e]
  obtain⟨j,m,c,y,d⟩:=xw5 b.objs s.row [] hs.ahead f
  obtain⟨k,z,l,_⟩:=xq9 b.sets g hs.rise
  refine⟨⟨fun o a=> ?_,j,k,fun x n=> ?_,i⟩,by dsimp only;rw[c,aB];have:=d.length_le;omega⟩
  ·dsimp only at a
   rw[c] at a
   rcases aY.1 a with a|a
   ·exact hs.objs o a
   exact hb.2.2.1 o (d.subset a)
  rcases l x n with h|⟨t,q,h,e⟩
  ·exact hs.vals x h
  obtain⟨r,u,_,w⟩:=hb.2.2.2.1 t q
  rw[e]
  exact⟨r,u,w.1⟩
 rw[(xw0 h0).1];exact⟨hs,Nat.le_add_right _ _⟩
theorem fresh_may {s:Sto} {b:Bu} (hb:z7 b):z7 (jv s b).2.1:=by
 by_cases h0:(jv s b).2.2=0
 ·obtain⟨p,v,h1,h2,h3,e⟩:=after_some h0
  rw[e]
  have key:∀(l row fresh:List jq) (row' fresh':List jq),l.foldl brO (some (row,fresh))=some (row',fresh')→∃m,fresh'=fresh++m∧m.Sublist l:=by
   intro l
   induction l with
   |nil=>intro row fresh row' fresh' h;cases h;exact⟨[],by simp,.slnil⟩
   |cons o l ih=>
    intro row fresh row' fresh' h
    rw[List.foldl_cons] at h
    by_cases h1:Be o∈vl row
    ·rw[show brO (some (row,fresh)) o=some (row,fresh) from by simp[brO,h1]] at h
     obtain⟨m,e2,e3⟩:=ih row fresh _ _ h
     exact⟨m,e2,e3.cons _⟩
    by_cases h2:∀x∈u5 o,x∈vl row
    ·rw[show brO (some (row,fresh)) o=some (row++[o],fresh++[o]) from by simp only[brO,Option.bind_some,aP h1,aR h2]] at h
     obtain⟨m,e2,e3⟩:=ih _ _ _ _ h
     exact⟨o::m,by rw[e2,aV];rfl,e3.cons_cons _⟩
    rw[show brO (some (row,fresh)) o=none from by simp only[brO,Option.bind_some,aP h1,aP h2],Bv brO_none] at h
    cases h
  obtain⟨m,e2,hm⟩:=key b.objs s.row [] p.1 p.2 h1
  rw[cB] at e2
  rw[e2]
  exact⟨aA hm.length_le hb.1,hb.2.1,fun o ho=>hb.2.2.1 o (hm.subset ho),hb.2.2.2⟩
 rw[(xw0 h0).2]
 exact⟨aJ _,aJ _,fun _ h=>(by cases h),fun _ h=>(by cases h),List.Pairwise.nil⟩
section
variable {P:Program} {I:u0} {f:Fs} {ops:Array Oper} {o:Oper} {env:Env} {w:World} {K:Env→World→Prop}
end
end Go.Vc
namespace Go.Proofs.YtpdiphfjmepijaaGreatDoor
open Go.Proofs.Tryz
open Go.Vc
/-! ### Less of it is too short -/
end Go.Proofs.YtpdiphfjmepijaaGreatDoor
