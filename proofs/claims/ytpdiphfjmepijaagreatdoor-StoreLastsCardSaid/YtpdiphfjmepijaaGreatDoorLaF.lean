/-
  Walks and laws towards: StoreLasts: wherever the power goes, what is opened again has what was there, or what the batch was to bring, and all that its objects link to; for whatever deeds.
-/
import Derived.Test.YtpdiphfjmepijaaGreatDoorLaE
open List renaming map_append→bU,length_set→cK,length_nil→cL,flatMap_cons→cX,getElem?_eq_some_iff→dB,take_left'→dC,flatMap_def→dD,map_cons→dI
open Int renaming toNat_natCast→bV,natCast_nonneg→cF
open Bool renaming and_eq_true→bY
open Nat renaming lt_of_lt_of_eq→cZ
namespace Go.Proofs.YtpdiphfjmepijaaGreatDoor
open Go.Proofs.Tryz
open Go.Vc
def Wl.fresh (D : kj) (a : Nat) : Wl := ⟨D, a, 0, [[]], 1, false⟩
def LogOf (w0 w' : World) (d : Nat) (F' : Nat -> Prop) (xo : Option Addr) (W : Wl) : Prop := ∃ x H, xo = some ⟨x, 0, none⟩ /\ yw w' x d H W /\ ∀ y, H y -> w0.heap.size <= y /\ ¬ F' y
theorem nil_piece (u : World) (H : Nat -> Prop) : A3 u H (.slice none 0 0) [] := ⟨none, 0, rfl, aB _, Sl.nil _ _ _, λ_ _ e => by cases e⟩
theorem format_calls (w:World) {d m:Nat} {F:Nat->Prop} {D:kj} (h:At w d F D) (hok:D.Ok m) (hm:m+7000<1000000000) (area:Int) (har: -9223372036854775808<=area/\area<9223372036854775808) (hr:Rt w) (hF0:¬F 0):
  gn prog 23 [.pointer (some ⟨d,0,none⟩),.int .i64 area] w λv w'=>∃(xo:Option Addr) (F':Nat->Prop),v= .tuple #[.pointer xo,.int .i64 (uj D area).2]/\At w' d F' (uj D area).1/\Ext F w w'/\(∀y,F' y->F y\/w.heap.size<=y)/\((uj D area).2≠0->xo=none)/\((uj D area).2=0->LogOf w w' d F' xo (Wl.fresh (uj D area).1 area.toNat)):=by
 refine gz func23 ?_;have g:=Ext.refl F w;have P:=h.lt;have ax:=hr.lt;refine vo Z (kw Z (uc Z (xg (qj Z (u1 Z ⟨⟨Z,by decide⟩,⟨Z,by decide⟩,trivial⟩ (l':=[.pointer (some ⟨d,0,none⟩),.int .i64 area]) Z (gt Z λb6 w1 ah f A=>?_))))));have ai:=al g.size ah;have h:=h.ga A;have hr:=Rt.ext hr A id;have g:=g.gb A;have r:¬F b6:=λe=>by have:=P _ e;omega
 refine wl (j9 (l':=[.pointer (some ⟨d,0,none⟩),.int .i64 area]) ge f Z Z Z Z OneC.h λw2 f R ay=>?_);have h:=h.ext R λx hx e=>by have e:x=b6:=e;subst e;exact r hx
 have hr:=Rt.ext hr R λe=>by have e:0=b6:=e;omega
 have g:=g.gi R ai;refine u3 (gp (qr (jf f Z Z (gj call70 Z (fits_calls w2 h area har) ?_))));rintro v3 w3⟨rfl,K⟩;have f:=f.ga K;have h:=h.ga K;have hr:=Rt.ext hr K id;have g:=g.gb K;refine kg Z (vk Z (λs=>?_) (λs=>?_));have j:¬(0<=area/\B9 area.toNat D.secs.length):=λh=>by rw[bZ h] at s;cases s
 have he:=formatW_no j;rw[he];exact kw Z (gv (gu (u7 [_,_] ⟨Z,Z,trivial⟩ ⟨none,F,Z,h,g,λy B=> .inl B,λ_=>rfl,λe=>absurd (show(2:Int)=0 from e) zd⟩)));have j:0<=area/\B9 area.toNat D.secs.length:=by simpa using s
 obtain⟨a,rfl⟩:∃a:Nat,area=(a:Int):=⟨area.toNat,by omega⟩
 rw[bV] at j;have j:=j.2;have az:=j.1;have a0:=j.2.1;have hW:=yq9 j;rw[bV];obtain⟨y,B⟩:∃y,y=xh D 0 (List.replicate (2+2*a) zeros):=⟨_,Z⟩
 have V:=zq2 (List.replicate (2+2*a) zeros) 0 hok (zeros_rep _);rw[bN,<-B] at V;rw[<-B] at hW;refine xg (gp (ke Z 7 [qP 0,qP 1,qP 2,qP 3,(4,false),(5,false),qP 6] [] (F) zf λw4 C a1=> have ak:=f;have f:=f.ga C;have h:=h.ga C;have hr:=Rt.ext hr C id;have g:=g.gb C;have hC:Ext (F) _ w4:=C.no;qu ge Z Z (λw' am=>((ak.ext am r).ql)) Z (gw ge 3 Z ?_)));rw[show IntKind.i64.wrap (2+IntKind.i64.wrap (2*(a:Int)))=((2+2*a:Nat):Int) from by rw[qc (2*(a:Int)) zk,qc _ zk];omega];have an:=g;refine jv Z (j7 call72 Z (blank_calls w4 (2+2*a)) λv5 w5 W=>⟨(by obtain⟨bb,rfl,ap,S,o⟩:=W;exact hC.gb o),?_⟩);obtain⟨bb,rfl,ap,S,o⟩:=W;have f:=f.ga o;have h:=h.ga o;have hr:=Rt.ext hr o id;have g:=g.gb o;have hC:=hC.gb o;have aq:=g.size;have l6:=f.lt;have lr:=hr.lt;refine jv Z (j7 call71 Z (put_calls w5 (n:=a) (L:=List.replicate (2+2*a) zeros) (own:=One bb) h hok (by rw[bN];omega) 0 zd (zeros_rep _) call145 (λw1 A=>by rw[bN];exact blank1_iter w1 (S.ga A) zk) (λx e=>by have e:x=bb:=e;subst e;exact⟨S.lt,λe=>by have:=P _ e;have:=an.size;omega⟩)) λv6 w6 X=>⟨(by obtain⟨rfl,F2,T,E,k⟩:=X;exact hC.then E),?_⟩);obtain⟨rfl,F2,T,E,k⟩:=X;have f:=f.ext E r;have g:=g.then E;have r:=Bb r l6 k;have hr:=Rt.ext hr E hF0;have hF0:=Bb hF0 lr k;rw[<-B] at T|-;have k:=Au (λx=> .inl) aq k;refine gw ge 1 Z (js (ja (jq (ju (α:=(Nat->Prop)×kj×Int) [6] Z (λz=>[(7,.int .i64 z.2.2)]) (λz u=>((z.2.1,z.2.2)=uj D (a:Int)/\At u d z.1 z.2.1/\(∀x,z.1 x->F x\/w.heap.size<=x))/\j0 u b6 155 ([.pointer (some ⟨d,0,none⟩),.int .i64 (a:Int)])/\Ext F w u) ?_ ?_))));refine gp (j1 (kg Z (jy Z (λs=>?_) (λs=>?_))));refine j1 (jf f Z Z ?_);have ar:=g.size;refine gj call73 Z (begin_calls w6 (n:=a) (t:=0) (b:=[]) (c:=0) (p:=none) T V zk zk zd (Sl.nil _ _ _) zd hr hF0) ?_;rintro v7 w7⟨rfl,F4,h4,Y,I⟩;have f:=f.ext Y r;have g:=g.trans Y λx hx e=>(k x e).resolve_right zk;refine j6 ge Z (gl ?_);exact j2 (F4,(y8 y.1 0 a []).1,(y8 y.1 0 a []).2) Z ⟨⟨by rw[hW,aI (λh=>h s)],h4,Au k ar I⟩,f,g⟩;exact qf (j2 (F2,y.1,y.2) Z ⟨⟨by rw[hW,aL s],T,k⟩,f,g⟩);rintro⟨G,D1,e⟩ w8 ⟨⟨aa,U,hG⟩,f,g⟩;refine gp (kw Z (jy Z (λs=>?_) (λs=>?_)));refine gp (j1 (kg Z (gv (gu (u7 [_,_] ⟨Z,Z,trivial⟩ ?_)))));rw[<-aa];exact⟨none,G,Z,U,g,hG,λ_=>rfl,λe=>absurd e s⟩
 refine qf (jq (qr (jf f Z Z (have ab:=U.lt;wl (qw ge Z 1 Z Z Z zd zd zp (l':=[.slice none 0 0]) Z λM w9 Q l N a2=> have af:=j3 f.lt Q;have ac:=al g.size Q;have f:=f.ga N;have U:=U.ga N;have g:=g.gb N;u1 Z ⟨⟨Z,by decide⟩,⟨Z,by decide⟩,⟨Z,by decide⟩,trivial⟩ (l':=[.pointer (some ⟨d,0,none⟩),.int .i64 (a:Int),.int .u32 0,.slice (some ⟨M,0,none⟩) 1 1,.int .i64 1,.bool false]) Z (gt Z λO av H q J=> have ag:=j3 f.lt H;have ad:=j3 l.lt H;have ae:=al g.size H;have l:=l.ga J;have U:=U.ga J;have g:=g.gb J;have q:j0 av O 162 ([.pointer (some ⟨d,0,none⟩),.int .i64 (a:Int),.int .u32 0,.slice (some ⟨M,0,none⟩) 1 1,.int .i64 1,.bool false]):=q;kg Z (gv (u7 [_,_] ⟨Z,Z,trivial⟩ ?_))))))));have aw:e=0:=aT.1 s;subst aw;rw[<-aa];refine⟨some ⟨O,0,none⟩,G,Z,U,g,hG,λe=>absurd Z e,λ_=>⟨O,λy=>y=O\/y=M,Z,⟨⟨some ⟨M,0,none⟩,1,[.slice none 0 0],q,Own.blk l 1 (n:=1) (c:=1) Z (aB _) zd,⟨Z,λi b v h1 T=>?_⟩,λy B=> .inr (own1 B)⟩,.inl Z,λy B=>?_⟩,λy B=>?_⟩⟩;have hi:i=0:=by have:=(dB.1 h1).1;simpa [Wl.fresh] using this
 subst hi;simp[Wl.fresh] at h1 T;subst h1 T;exact nil_piece _ _;rcases B with rfl|rfl;exact q.lt;exact l.lt;rcases B with rfl|rfl;exact⟨ae,λe=>by have:=ab _ e;have:=N.size;omega⟩
 exact⟨ac,λe=>by have:=ab _ e;omega⟩
theorem sectN_zero {n : Nat} : jo n = 0 ↔ 40000 < n := by unfold jo; split <;> omega
def Ab (w w' : World) (q : Option Addr) (k : Nat) (b : Bytes) : Prop := b.length <= k /\ xy w' q b /\ ∀ y off, q = some ⟨y, off, none⟩ -> w.heap.size <= y /\ TyB w' y 5
def LiesQ (w w' : World) (o : Option Bytes) (v : Value) : Prop := match o with
  | none => v = .tuple #[.slice none 0 0, .bool false]
  | some b => ∃ q k, v = .tuple #[.slice q b.length k, .bool true] /\ Ab w w' q k b
theorem Ab.ga {w u u':World} {q:Option Addr} {k:Nat} {b:Bytes} (h:Ab w u q k b) (hE:Ext No u u'):Ab w u' q k b:=⟨h.1,h.2.1.ga hE,λy a e=>⟨(h.2.2 y a e).1,(h.2.2 y a e).2.ext hE id⟩⟩
theorem Ab.extB {w u u':World} {q:Option Addr} {k x T:Nat} {b:Bytes} {L:List Value} (h:Ab w u q k b) (hE:Ext (One x) u u') (hx:j0 u x T L) (hT:5≠T):Ab w u' q k b:=
 have c:∀y a,q=some ⟨y,a,none⟩->¬One x y:=λy a e d=>((h.2.2 y a e).2.ne hx hT) d
 ⟨h.1,h.2.1.ext hE c,λy a e=>⟨(h.2.2 y a e).1,(h.2.2 y a e).2.ext hE (c y a e)⟩⟩
theorem Ab.ext {S:Nat->Prop} {w u u':World} {q:Option Addr} {k:Nat} {b:Bytes} (h:Ab w u q k b) (hE:Ext S u u') (hS:∀y,TyB u y 5->¬S y):Ab w u' q k b:=
 ⟨h.1,h.2.1.ext hE λy a e=>hS y (h.2.2 y a e).2,λy a e=>⟨(h.2.2 y a e).1,(h.2.2 y a e).2.ext hE (hS y (h.2.2 y a e).2)⟩⟩
theorem allB_take {L:List Bytes} {i:Nat} (h:i<L.length):zv7 (L.take (i+1))=zv7 (L.take i)++(L[i]).drop 16:=by
 rw[aO h,zv7,aY];simp[zv7]
theorem allB_len {L:List Bytes} (hL:∀b∈L,b.length=64) {i:Nat} (h:i<=L.length):(zv7 (L.take i)).length=48*i:=by
 induction i with
 |zero=>simp[zv7]
 |succ i ih=>
  rw[allB_take zk,ao,ih zk,aX,hL _ (aC _)];omega
theorem liesB_no {L:List Bytes} (h0:0<L.length) (t n:Nat) (h:40000<xl L[0]\/L.length<jo (xl L[0])):Ca L t n=none:=by
 cases L with
 |nil=>simp at h0
 |cons s r=>exact aL h
theorem liesB_yes {L:List Bytes} (h0:0<L.length) (t n:Nat) (h:¬(40000<xl L[0]\/L.length<jo (xl L[0]))):
  Ca L t n=if qq t n (((zv7 (L.take (jo (xl L[0])))).drop 4).take (xl L[0]))=L.take (jo (xl L[0])) then some (((zv7 (L.take (jo (xl L[0])))).drop 4).take (xl L[0])) else none:=by
 cases L with
 |nil=>simp at h0
 |cons s r=>exact aI h
def LieJ (L : List Bytes) (t n : Nat) (b : Bytes) (b6 b7 b15 : Nat) (k : Nat) (u : World) : Prop :=
  j0 u b15 3 [.int .i64 (k : Int)] /\ (∃ v, j0 u b6 41 [v]) /\ (∃ v, j0 u b7 4 [v]) /\ ∀ j, j < k -> qv t n b j = L.getD j []
def LieX (L : List Bytes) (t n : Nat) (b : Bytes) (b6 b7 b15 k : Nat) (c : Code) (u : World) : Prop :=
  c = .ret /\ b15 < u.heap.size /\ j0 u b6 41 [.slice none 0 0] /\ j0 u b7 4 [.bool false] /\ qv t n b k ≠ L.getD k []
def lieC (w : World) (L : List Bytes) (t n : Nat) (b : Bytes) (b6 b7 b15 : Nat) : CoS Unit w where
  Fp := λ_ x => x = b6 \/ x = b7 \/ x = b15
  J := λk _ u => LieJ L t n b b6 b7 b15 k u
  Jx := λk c _ u => LieX L t n b b6 b7 b15 k c u
  st := by
    rintro k z S u u' ⟨h1, ⟨v, h2⟩, ⟨v', h3⟩, h4⟩ hE hS
    exact ⟨h1.ext hE λe => (hS _ e).2 (.inr (.inr Z)), ⟨v, h2.ext hE λe => (hS _ e).2 (.inl Z)⟩, ⟨v', h3.ext hE λe => (hS _ e).2 (.inr (.inl Z))⟩, h4⟩
  stx := by
    rintro k c z S u u' ⟨h1, h2, h3, h4, h5⟩ hE hS
    exact ⟨h1, aK h2 hE.size, h3.ext hE λe => (hS _ e).2 (.inl Z), h4.ext hE λe => (hS _ e).2 (.inr (.inl Z)), h5⟩
  lt := by
    rintro k z u ⟨h1, ⟨v, h2⟩, ⟨v', h3⟩, h4⟩ x (rfl | rfl | rfl)
    · exact h2.lt
    · exact h3.lt
    · exact h1.lt
  ltx := by
    rintro k c z u ⟨h1, h2, h3, h4, h5⟩ x (rfl | rfl | rfl)
    · exact h3.lt
    · exact h4.lt
    · exact h2
theorem lies_calls (w:World) {p:Option Addr} {c t n:Nat} {L:List Bytes} (hs:Sl w p L.length 64 (L.flatMap gh)) (hL:∀b∈L,b.length=64) (hc:L.length<=c) (hLl:L.length<=100000) (ht:t<4294967296) (hn:n<4294967296) (hr:Rt w):
  gn prog 136 [.slice p L.length c,.int .u32 (t:Int),.int .u32 (n:Int)] w λv w'=>LiesQ w w' (Ca L t n) v/\Ext No w w':=by
 refine zz1 func136 Z Z Z Z (have C:=Ext.refl No w;have ex:=hr.lt;qr (gt Z λb3 w1 ey g ab=> have hr:=Rt.ext hr ab id;have C:=C.gb ab;have g:j0 w1 b3 216 ([.slice p L.length c]):=g;gt Z λb6 w2 ch a bw=> have dj:=j3 g.lt ch;have bx:=al C.size ch;have g:=g.ga bw;have hr:=Rt.ext hr bw id;have C:=C.gb bw;have a:j0 w2 b6 41 ([.slice none 0 0]):=a;gt Z λb7 w3 bz d a6=> have dk:=j3 g.lt bz;have F:=j3 a.lt bz;have b0:=al C.size bz;have g:=g.ga a6;have a:=a.ga a6;have hr:=Rt.ext hr a6 id;have C:=C.gb a6;have d:j0 w3 b7 4 ([.bool false]):=d;u3 (gp (qr (have dm:=C;jd g Z Z (kg Z (jy Z (λhc=>?_) (λhc=>?_))))))));have dn:L=[]:=aU zk;refine qr (qk a Z Z Z λw4 a ci ez=>?_);have d:=d.gk ci F.symm;have C:=C.gi ci bx;refine qk d Z Z Z λw5 d cj e0=>?_;have a:=a.gk cj F;have C:=C.gi cj b0;refine u3 (gv (gu (zz2 [] List.nodup_nil (λ_ h=>(by cases h)) [.slice none 0 0,.bool false] (λa7 B=>?_) (.inl Z))));refine⟨⟨⟨b6,0,Z,zv0 ge Z Z ((a.ext B (λe=>by cases e)).cell Z)⟩,⟨b7,0,Z,zv0 ge Z Z ((d.ext B (λe=>by cases e)).cell Z)⟩,trivial⟩,?_⟩;exact⟨by rw[dn];rfl,C.trans B λx _ e=>by cases e⟩
 have U:0<L.length:=by omega
 obtain⟨pb,po,rfl,D⟩:=hs.qm (λr hr=>qz (hL r hr)) U;have e4:pb<w.heap.size:=(D 0 U).lt (λe=>by have:=congrArg List.length e;rw[qz (hL _ (aC _))] at this;cases this);obtain⟨s0,b1⟩:∃s0,s0=L[0]:=⟨_,Z⟩
 have eg:s0.length=64:=by rw[b1];exact hL _ (aC _)
 have D:=λi H=>(D i H).ga dm;refine xg (qr (jd g Z Z (ki Z 64 Z 0 Z U (po+0*64) Z (wl (st_sa ge Z 16 20 64 1 Z ⟨.inr ⟨Z,Z⟩,.inl Z,.inl Z,by decide,by decide,by decide⟩ ?_)))));rw[A6 zd];obtain⟨l4,b2⟩:∃l4,l4=(s0.drop 16).take 4:=⟨_,Z⟩
 have a1:l4.length=4:=by rw[b2,aH,aX];omega
 have ck:xy w3 (some ⟨pb,po+0*64+16*1,none⟩) l4:=⟨by rw[gm,bF],.inr ⟨pb,_,Z,by
  have e:=((D 0 U).drop 16).take 4
  rw[<-b1,ve,vl,<-b2] at e
  exact e⟩⟩
 rw[show Value.slice (some ⟨pb,po+0*64+16*1,none⟩) (20-16) (64-16)= .slice (some ⟨pb,po+0*64+16*1,none⟩) l4.length 48 from by rw[a1]];have l3:=g.lt;have l6:=a.lt;have l7:=d.lt;refine gj call101 Z (zv3 w3 ck zk) ?_;rintro v6 w6⟨rb,rfl,e5,hR,av⟩;have g:=g.ga av;have a:=a.ga av;have d:=d.ga av;have hr:=Rt.ext hr av id;have D:=λi H=>(D i H).ga av;have C:=C.gb av;refine kg Z (qj Z ?_);have cm:(x5 l4 0 4).1=l4:=by rw[x5,aI zd,aI zd,aI zk];exact aN (by rw[a1];decide)
 refine gj call171 Z (yj0 w6 hR zk) ?_;rintro v7 w7⟨rfl,_,aw⟩;have g:=g.gk aw zk;have a:=a.gk aw zk;have d:=d.gk aw zk;have C:=C.gi aw zk;have D:=λi H=>(D i H).ext aw (λe=>by have e:pb=rb:=e;omega);have hr:=Rt.ext hr aw (λe=>by have e:0=rb:=e;omega);rw[cm];obtain⟨s,ag⟩:∃s,s=num l4:=⟨_,Z⟩
 have eh:s<4294967296:=by have:=xu l4;rw[a1] at this;rw[ag];exact this
 have b4:xl L[0]=s:=by rw[ag,b2,b1];rfl
 rw[<-ag];refine j6 ge Z ?_;rw[qc (s:Int) zk];refine kg Z (qj Z (gj call65 Z (xv w7 (s:Int)) ?_));rintro v8 w8⟨rfl,ax⟩;have g:=g.ga ax;have a:=a.ga ax;have d:=d.ga ax;have hr:=Rt.ext hr ax id;have D:=λi H=>(D i H).ga ax;have C:=C.gb ax;rw[Bt];refine kg Z (gp (ju (α:=Bool) [1,2,3,6,7,9,10] Z (λz=>[(36,.bool z)]) (λz u=>u=w8/\z=decide (40000<s\/L.length<jo s)) ?_ ?_));refine j1 (j6 ge Z (jw 31 Z (λhg=>?_) (λhg=>?_)));have cn:=sectN_zero.1 (show jo s=0 by omega);exact j4 ge 5 Z (gl (j2 (true) Z ⟨Z,by symm;rw[decide_eq_true_iff];exact .inl cn⟩));have cn:¬40000<s:=λh=>hg (by rw[sectN_zero.2 h];rfl);exact j4 ge 1 Z (jd g Z Z (j4 ge 3 Z (gl (j2 (_) Z ⟨Z,by rw[aP];omega⟩))));rintro z w9 ⟨hu,rfl⟩;have hu:=hu.symm;subst hu;refine jy Z (λhc=>?_) (λhc=>?_);have ds:=liesB_no U t n (by rw[b4];exact hc);refine qr (qk a Z Z Z λe6 a bs ei=>?_);have d:=d.gk bs F.symm;have C:=C.gi bs bx;refine qk d Z Z Z λe7 d bu ej=>?_;have a:=a.gk bu F;have C:=C.gi bu b0;refine u3 (gv (gu (zz2 [] List.nodup_nil (λ_ h=>(by cases h)) [.slice none 0 0,.bool false] (λa7 B=>?_) (.inl Z))));refine⟨⟨⟨b6,0,Z,zv0 ge Z Z ((a.ext B (λe=>by cases e)).cell Z)⟩,⟨b7,0,Z,zv0 ge Z Z ((d.ext B (λe=>by cases e)).cell Z)⟩,trivial⟩,?_⟩;exact⟨by rw[ds];rfl,C.trans B λx _ e=>by cases e⟩
 have J:=liesB_yes U t n (by rw[b4];exact hc);rw[b4] at J;have dt:s<=40000:=by omega
 obtain⟨K,hK⟩:∃K,K=jo s:=⟨_,Z⟩
 have du:K<=L.length:=by omega
 have b5:=zw4 dt;rw[<-hK] at J b5|-;have e8:K<=834:=by rw[hK];exact Cx _
 refine xg (vo Z (qr (jd g Z Z (j6 ge Z (wl (Ba ge Z 0 K c 64 Z (.inr ⟨Z,Z⟩) (.inl Z) (.inr ⟨Z,Z⟩) (aJ _) zk (aB _) ?_))))));rw[qe,bB];refine kg Z (j8 (jl (α:=Nat×Option Addr×Nat) [1,2,3,6,7,9,39,40] Z (λz=>[(11,.slice z.2.1 (48*z.1) z.2.2),(41,.int .i64 (z.1:Int))]) (λz u=>(z.1<=K/\Own u z.2.1 (48*z.1) z.2.2 5 1 (gh (zv7 (L.take z.1)))/\(∀y,jb z.2.1 y->w.heap.size<=y)/\(∀i (H:i<L.length),Seg u pb (po+i*64) (gh L[i]))/\Rt u)/\j0 u b3 216 ([.slice (some ⟨pb,po,none⟩) L.length c])/\j0 u b6 41 ([.slice none 0 0])/\j0 u b7 4 ([.bool false])/\Ext No w u) (λz u=>K-z.1) (0,none,0) Z ⟨⟨aJ _,Own.nil _ _ _,λy T=>(by cases T),D,hr⟩,g,a,d,C⟩ ?_));rintro⟨i,q,k⟩ a8 ⟨⟨H,hq,ay,D,hr⟩,g,a,d,C⟩;dsimp only at H hq ay;refine vo Z (jy Z (λhc=>?_) (λhc=>?_));have a9:i<K:=by omega
 have b8:i<L.length:=by omega
 have ai:=hL _ (aC b8);have cp:=λy (T:jb q y)=>hq.lt T;refine Bn (qr (ki Z 64 Z i Z a9 (po+i*64) Z (jk Z (D i b8) (qz ai) (gt Z λa2 e9 aj a3 N=>?_))));have ba:=j3 g.lt aj;have bc:=j3 a.lt aj;have bd:=j3 d.lt aj;have cq:=al C.size aj;have g:=g.ga N;have a:=a.ga N;have d:=d.ga N;have hr:=Rt.ext hr N id;have D:=λi H=>(D i H).ga N;have hq:=hq.ext N λ_ _=>id;have C:=C.gb N;refine wl (j9 (l':=gh L[i]) ge a3 Z Z (qz ai) (by rw[qz ai];rfl) OneC.h λdv a3 O ek=>?_);have g:=g.gk O ba;have a:=a.gk O bc;have d:=d.gk O bd;have hr:=Rt.ext hr O λe=>by have e:0=a2:=e;omega
 have D:=λi H=>(D i H).ext O (λe=>by have e:pb=a2:=e;omega);have hq:=hq.ext O λy T e=>by have e:y=a2:=e;have:=cp y T;omega
 have C:=C.gi O cq;refine u3 (yy Z (wl (st_sa ge Z 16 64 64 1 Z ⟨.inr ⟨Z,Z⟩,.inr ⟨Z,Z⟩,.inl Z,by decide,by decide,by decide⟩ ?_)));rw[A6 zd];have dw:Sl dv (some ⟨a2,0+16*1,none⟩) 48 1 (gh ((L[i]).drop 16)):=⟨by rw[gm,aX,ai],.inr ⟨a2,_,Z,by have e:=a3.ql.drop 16;rw[ve] at e;exact e⟩⟩
 have fa:=C.size;have dx:¬jb q b3:=λe=>(Own.ty hq e).ne g zd Z;have dy:¬jb q b6:=λe=>(Own.ty hq e).ne a zd Z;have dz:¬jb q b7:=λe=>(Own.ty hq e).ne d zd Z;refine wl (vt ge Z 1 1 Z Z Z zd hq (Src.slice dw OneC.h) zn zt λb9 cr d0 cs V ct=>?_);have g:=g.ext V λe=>dx e;have a:=a.ext V λe=>dy e;have d:=d.ext V λe=>dz e;have C:=C.trans V λy T e=>by have:=ay y e;omega
 have D:=λj hj=>(D j hj).ext V λe=>by have:=ay _ e;omega
 have hr:=Rt.ext hr V λe=>by have:=ay _ e;omega
 have cu:∀y,jb b9 y->w.heap.size<=y:=λy T=>(ct y T).elim (ay y) λe=>by omega
 have d1:Own d0 b9 (48*(i+1)) cr 5 1 (gh (zv7 (L.take (i+1)))):=by rw[allB_take b8,qy,show 48*(i+1)=48*i+48 from by omega];exact cs
 dsimp only;rw[show 48*i+48=48*(i+1) from by omega];refine j6 ge Z (gl (Bi Z ?_));rw[qc _ zk];exact gl (jh (i+1,b9,cr) Z ⟨⟨a9,d1,cu,D,hr⟩,g,a,d,C⟩ zm);have a9:i=K:=by omega
 subst a9;have cv:i<=L.length:=du;refine Bh (qj Z ?_);rw[qc _ zk];rw[show(4:Int)+(s:Int)=((4+s:Nat):Int) from by omega];have cw:=allB_len hL cv;obtain⟨A,hA⟩:∃A,A=zv7 (L.take i):=⟨_,Z⟩
 obtain⟨b,hb⟩:∃b,b=(A.drop 4).take s:=⟨_,Z⟩
 rw[<-hA] at cw J hq;have cx:b.length=s:=by rw[hb,aH,aX];omega
 rw[<-hb] at J;have cy:=hq.sl;rw[<-cw] at cy;have cz:xy a8 (ur q 4 (4+s) 1) b:=by have e:=Sl.slice cy 4 (4+s) (4+s) zk (aB _) zk;rw[bF,bF,ve,vl,show 4+s-4=s from by omega,<-hb] at e;rw[xy,cx];exact e
 have ca:∀y a4,ur q 4 (4+s) 1=some ⟨y,a4,none⟩->jb q y:=λy a4 e=>by
  obtain⟨bq,lq,cb,_⟩:∃bq lq,q=some ⟨bq,0,none⟩/\j0 a8 bq 5 lq:=by rcases hq with⟨_,h0,_⟩|⟨bq,lq,h1,h2,_⟩;omega;exact⟨bq,lq,h1,h2⟩
  obtain⟨em,e'⟩:=xz7 e (λx o sp e=>by rw[cb] at e;cases e;rfl);rw[cb] at e';cases e';exact cb
 have c0:∀y,jb q y->TyB a8 y 5:=λy T=>Own.ty hq T;refine wl (Ba ge Z 4 (4+s) (4+s) 1 Z (.inl ⟨Z,Z⟩) (.inl Z) (.inl Z) zk (aB _) (by have:=hq.cap;dsimp only;omega) ?_);obtain⟨qb,c1⟩:∃qb,qb=ur q 4 (4+s) 1:=⟨_,Z⟩
 rw[<-c1] at cz ca|-;rw[show 4+s-4=b.length from by omega];have G:Ab w a8 qb b.length b:=⟨aB _,cz,λy a4 e=>⟨ay y (ca y a4 e),c0 y (ca y a4 e)⟩⟩
 refine kg Z (qr (gt Z λaz d2 ak f P=>?_));have bf:=j3 g.lt ak;have I:=j3 a.lt ak;have aa:=j3 d.lt ak;have c2:=al C.size ak;have g:=g.ga P;have a:=a.ga P;have d:=d.ga P;have hr:=Rt.ext hr P id;have D:=λi H=>(D i H).ga P;have G:=G.ga P;have C:=C.gb P;have f:j0 d2 az 3 ([.int .i64 0]):=f;have cc:=f;refine qk f Z Z Z λd3 f Q en=>?_;have g:=g.gk Q bf;have a:=a.gk Q I;have d:=d.gk Q aa;have hr:=Rt.ext hr Q λe=>by have e:0=az:=e;omega
 have D:=λi H=>(D i H).ext Q (λe=>by have e:pb=az:=e;omega);have G:=G.extB Q cc zd;have C:=C.gi Q c2;refine u3 (gp (qj Z (gj call121 Z (xj5 d3 t n (p:=qb) (m:=b.length) (c:=b.length)) ?_)));rintro fb d4⟨bb,bt,bn,rfl,fc,d5,d6,d7,M⟩;have g:=g.ga M;have a:=a.ga M;have d:=d.ga M;have f:=f.ga M;have hr:=Rt.ext hr M id;have D:=λi H=>(D i H).ga M;have G:=G.ga M;have C:=C.gb M;refine u3 (j8 ?_);have l3:=g.lt;have l6:=a.lt;have l7:=d.lt;have fd:=f.lt;have c4:=a;have c5:=d;have cd:=f;have d8:=G.2.1;have ac:jo b.length=i:=by rw[cx,hK]
 have c6:b.length<=40000:=by omega
 refine c_iter (lieC d4 L t n b b6 b7 az) (()) Z call178 Z (λ_=>rfl) (λw1 ab=>piece_iter w1 (d5.ga ab) (d6.ga ab) (d7.ga ab) (d8.ga ab) ht hn c6 (hr.ext ab id)) (λx e=>by subst e;exact⟨by omega,λe=>by rcases e with e|e|e<;>omega⟩) ⟨f,⟨_,a⟩,⟨_,d⟩,λj hj=>absurd hj (cE _)⟩ (λl DD r k z W a0 hJ hk=>?_) (λDD z W hJ hE c7 d9 ad ea=>?_) (λDD k c z W hk hJ hE c7 d9 ad ea=>?_);have E:=a0.l;obtain⟨f,⟨v6,a⟩,⟨v7,d⟩,bg⟩:=hJ;have ce:=a0.X;have fe:=ce.size;have g:=g.ext ce λe=>by rcases e with e|e|e<;>omega
 have D:=λj hj=>(D j hj).ext ce λe=>by rcases e with e|e|e<;>omega
 have ff:=a0.lo;rw[ac] at hk;have bh:k<L.length:=by omega
 have eb:=piece_get t n b (k:=k) (by rw[ac];exact hk);obtain⟨Pk,bi⟩:∃Pk,Pk=qv t n b k:=⟨_,Z⟩
 have am:Pk.length=64:=by rw[bi];exact pieceAt_len _ _ _ _
 rw[show argB (qq t n b) k= #[numB Pk] from by rw[argB,eb,bi]];have c8:L.getD k []=L[k]:=by simp[bh]
 have bv:=hL _ (aC bh);have ec:=a.neL E;have ed:=d.neL E;have c9:=f.neL E;have C:Ext (λx=>(x=b6\/x=b7\/x=az)\/x=l) W W:=Ext.refl _ _;refine A5 (wli (.round _) Z (Dg ge Z λee fg ae Y R=> have bj:=j3 g.lt ae;have bk:=j3 a.lt ae;have bm:=j3 d.lt ae;have a5:=j3 f.lt ae;have da:=al C.size ae;have g:=g.ga R;have a:=a.ga R;have d:=d.ga R;have f:=f.ga R;have D:=λi H=>(D i H).ga R;have E:=Ah E R id;have C:=C.gb R;have db:=Y.neL E;wli (.round _) Z (j9 (l':=gh Pk) ge Y Z Z (qz am) (by rw[qz am];rfl) OneC.h λa7 Y B ep=> have g:=g.gk B bj;have a:=a.gk B bk;have d:=d.gk B bm;have f:=f.gk B a5;have D:=λi H=>(D i H).ext B (λe=>by have e:pb=ee:=e;omega);have E:=Ah E B db.symm;have C:=C.gi B da;Bf (fin_begin a0 E λfh S dc=> have g:=g.extL E S;have a:=a.extL E S;have d:=d.extL E S;have f:=f.extL E S;have Y:=Y.extL E S;have D:=λi H=>(D i H).ext S (λe=>by have e:pb=l:=e;omega);have E:=dc;have C:=C.then (S.mono λx _ e=> .inr e);ci_block (xv5 (xv5 (ci_draw (.round _) Z Z 6 [(0,true),(1,true),(2,true),(3,true),(4,true),(5,true)] [] (No) zf λfi af eq=> have ef:=g;have fj:=a;have fk:=d;have dd:=f;have de:=Y;have df:=D;have fm:=C;have a:=a.ga af;have d:=d.ga af;have f:=f.ga af;have E:=Ah E af id;have C:=C.gb af;qu ge Z Z (λw' ah=>((de.ga ah).ql)) (qz am) (j5 ge Z Z (λw' ah=>((ef.ga ah).cell Z)) (j5 ge Z Z (λw' ah=>((dd.ga ah).cell Z)) (u0 ge Z Z 64 Z k Z bh (po+k*64) Z (qu ge Z Z (λw' ah=>((df k bh).ga ah)) (qz bv) (wd_eqA (xs:=xx1 Pk) (ys:=xx1 L[k]) ge Z Z zf (numB_eq _) (numB_eq _) (by rw[zz9,am]) (by rw[zz9,bv]) ?_))))))))))));simp only[bO,dF];refine js (ja (yq5 (ci_if Z (λhc=>?_) (λhc=>?_))));have cf:qv t n b k≠L.getD k []:=λe=>hc (yz6.2 (by rw[bi,e,c8]));exact xv5 (A5 (wli (.round _) Z (yo ge a Z Z Z λfn a an er=> have d:=d.gk an F.symm;have f:=f.gk an I.symm;have E:=Ah E an ec.symm;have C:=C.then (an.mono λx _ e=>by have e:x=b6:=e;subst e;exact .inl (.inl Z));wli (.round _) Z (yo ge d Z Z Z λfp d ap es=> have a:=a.gk ap F;have f:=f.gk ap aa.symm;have E:=Ah E ap ed.symm;have C:=C.then (ap.mono λx _ e=>by have e:x=b7:=e;subst e;exact .inl (.inr (.inl Z)));Bf (yq5 (ci_ret (gu (jt (fin_stop (.inl ⟨Z,Z⟩) (()) a0 E C (λx hx=> .inl hx) (⟨Z,f.lt,a,d,cf⟩))))))))));have dg:qv t n b k=L.getD k []:=by rw[<-bi,c8];exact yz6.1 (aT.1 hc)
 refine ci_skip (yq5 (A5 (wli (.round _) Z (st_ldb ge f Z Z (yw2 ge Z ?_)))));rw[qc _ zk];exact wli (.round _) Z (yo ge f Z Z Z λfq f aq et=> have a:=a.gk aq I;have d:=d.gk aq aa;have E:=Ah E aq c9.symm;have C:=C.then (aq.mono λx _ e=>by have e:x=az:=e;subst e;exact .inl (.inr (.inr Z)));Bf (jr (fin_next (()) a0 E C (λx hx=> .inl hx) (⟨f,⟨_,a⟩,⟨_,d⟩,λj hj=>by rcases bC j k with h|h;exact bg j h;rw[show j=k from by omega];exact dg⟩))));obtain⟨f,⟨v6,a⟩,⟨v7,d⟩,bg⟩:=hJ;have G:Ab w W qb b.length b:=G.ext hE λy T h=>by rcases h with h|h|h;exact T.ne c4 zd h;exact T.ne c5 zd h;exact T.ne cd zd h
 have bp:b6≠DD:=by omega
 have br:b7≠DD:=by omega
 have C:Ext No w W:=C.trans hE λx hx e=>by rcases e with e|e|e<;>omega
 rw[ac] at bg
 have cg:qq t n b=L.take i:=by
  refine List.ext_getElem (by rw[kz,ac,aH];omega) λj h1 h2=>?_;have hj:j<i:=by rw[kz,ac] at h1;exact h1
  have e:=bg j hj;rw[<-piece_get t n b (by rw[ac];exact hj)] at e;have e1:(qq t n b).getD j []=(qq t n b)[j]:=by simp[h1]
  have e2:L.getD j []=L[j]'zk:=by simp[show j<L.length by omega]
  rw[<-e1,e,e2,List.getElem_take]
 rw[aL cg] at J;refine jr (jq (qj Z ?_));have dh:=a;refine qk a Z Z Z λfr a ar eu=>?_;have d:=d.gk ar F.symm;have ad:=Ah ad ar bp.symm;have G:=G.extB ar dh zd;have C:=C.gi ar bx;have di:=d;refine qk d Z Z Z λfs d au ev=>?_;have a:=a.gk au F;have ad:=Ah ad au br.symm;have G:=G.extB au di zd;have C:=C.gi au b0;refine u3 (gv (zz2 [DD] zq (λx hx=>by rw[aF.1 hx];exact ad) [.slice qb b.length b.length,.bool true] (λa7 B=>?_) (.inl Z)));refine⟨⟨⟨b6,0,Z,zv0 ge Z Z ((a.ext B (λe=>bp (aF.1 e))).cell Z)⟩,⟨b7,0,Z,zv0 ge Z Z ((d.ext B (λe=>br (aF.1 e))).cell Z)⟩,trivial⟩,?_⟩;rw[J];exact⟨⟨qb,b.length,Z,G.ext B λy T h=>by rw[aF.1 h] at T;obtain⟨l,hl⟩:=T;unfold j0 at hl;rw[ad] at hl;cases hl⟩,C.trans B λy T e=>by rw[aF.1 e] at T;omega⟩
 obtain⟨rfl,ew,a,d,cf⟩:=hJ;have bp:b6≠DD:=by omega
 have br:b7≠DD:=by omega
 have C:Ext No w W:=C.trans hE λx hx e=>by rcases e with e|e|e<;>omega
 rw[ac] at hk
 have cg:¬qq t n b=L.take i:=λe=>by
  have e1:=piece_get t n b (k:=k) (by rw[ac];exact hk);rw[e] at e1;refine cf (e1.symm.trans ?_);have e2:L.getD k []=L[k]'zk:=by simp[show k<L.length by omega]
  have e3:(L.take i).getD k []=L[k]'zk:=by simp[hk,show k<L.length by omega]
  rw[e2,e3]
 rw[aI cg] at J;refine gv (jt (gu (zz2 [DD] zq (λx hx=>by rw[aF.1 hx];exact ad) [.slice none 0 0,.bool false] (λa7 B=>?_) (.inl Z))));refine⟨⟨⟨b6,0,Z,zv0 ge Z Z ((a.ext B (λe=>bp (aF.1 e))).cell Z)⟩,⟨b7,0,Z,zv0 ge Z Z ((d.ext B (λe=>br (aF.1 e))).cell Z)⟩,trivial⟩,?_⟩;rw[J];exact⟨Z,C.trans B λy T e=>by rw[aF.1 e] at T;omega⟩
def nwV (d : Nat) (o : Option (Nat × Nat)) : List Value := match o with
  | none => [.pointer none, .int .i64 0]
  | some (_, n) => [.pointer (some ⟨d, 0, none⟩), .int .i64 (n : Int)]
theorem zz6 (d : Nat) (o : Option (Nat × Nat)) : (nwV d o).length = 2 := by cases o <;> rfl
theorem nwV_one (d:Nat) (o:Option (Nat×Nat)):∀v∈nwV d o,v.oneCell'=true:=by
 cases o with
 |none=>exact OneC.h (l:=[.pointer none,.int .i64 0])
 |some x=>exact OneC.h (l:=[.pointer (some ⟨d,0,none⟩),.int .i64 (x.2:Int)])
instance (d : Nat) (o : Option (Nat × Nat)) : OneC (nwV d o) := ⟨nwV_one d o⟩
theorem newestGo_step {S i:Nat} (hi:i<2) (D:kj) (o:Option (Nat×Nat)):xp S (2-i) i D o=if(D.read i).2.2≠0 then((D.read i).1,(D.read i).2.2,none) else xp S (2-(i+1)) (i+1) (D.read i).1 (newer i S (D.read i).2.1 o):=by
 obtain⟨k,a⟩:∃k,2-i=k+1:=⟨1-i,by omega⟩
 rw[a,show 2-(i+1)=k from by omega];rfl
theorem newer_no {i S : Nat} {b : Bytes} {o : Option (Nat × Nat)} (h : ¬ zx3 i S b) : newer i S b o = o := aI h
theorem newer_yes {i S:Nat} {b:Bytes} {o:Option (Nat×Nat)} (h:zx3 i S b) (hn:nwE o≠0\/nwT o<Cp b):newer i S b o=some (Cp b,zq1 b):=by
 unfold newer;rw[aL h];cases o with
 |none=>rfl
 |some x=>exact aL (hn.resolve_left λe=>e Z)
theorem newer_old {i S:Nat} {b:Bytes} {o:Option (Nat×Nat)} (h:zx3 i S b) (hn:¬(nwE o≠0\/nwT o<Cp b)):newer i S b o=o:=by
 unfold newer;rw[aL h];cases o with
 |none=>exact absurd (.inl zd) hn
 |some x=>exact aI λe=>hn (.inr e)
theorem read_64 {D:kj} {m:Nat} (hok:D.Ok m) (i:Int):(D.read i).2.1.length=64:=by
 unfold kj.read;dsimp only;split;exact zj6 (hok.begin i false) _;exact zeros_length
theorem newest_calls (w:World) {d m:Nat} {F:Nat->Prop} {D:kj} (h:At w d F D) (hok:D.Ok m) (hm:m+10<1000000000) (hr:Rt w) (hF0:¬F 0):
  gn prog 135 [.pointer (some ⟨d,0,none⟩)] w λv w'=>v= .tuple #[.agg (nwV d (ui D).2.2).toArray,.int .u32 (nwT (ui D).2.2:Int),.int .i64 (ui D).2.1]/\At w' d F (ui D).1/\Ext F w w':=by
 refine gz func135 ?_;have f:=Ext.refl F w;have an:=h.lt;have bi:=hr.lt;have c:=h;refine qr (gt Z λJ w1 a1 a af=>?_);have ag:=al f.size a1;have c:=c.ga af;have hr:=Rt.ext hr af id;have f:=f.gb af;have a:j0 w1 J 155 (nwV d none):=a;have U:¬F J:=λe=>by have:=an _ e;omega
 refine kg Z (vo Z (kw Z (j8 (jl (α:=Nat×kj×Option (Nat×Nat)) [0,2] Z (λz=>[(3,.int .u32 (nwT z.2.2:Int)),(4,.int .i64 (nwE z.2.2)),(12,.int .i64 (z.1:Int))]) (λz u=>(z.1<=2/\At u d F z.2.1/\z.2.1.Ok (m+z.1)/\ui D=xp D.secs.length (2-z.1) z.1 z.2.1 z.2.2/\nwT z.2.2<4294967296/\z.2.1.secs.length=D.secs.length/\Rt u)/\j0 u J 155 (nwV d z.2.2)/\Ext F w u) (λz u=>2-z.1) (0,D,none) Z ⟨⟨aJ _,c,hok,Z,(show 0<4294967296 by decide),Z,hr⟩,a,f⟩ ?_))));rintro⟨i,D1,o⟩ w2 ⟨⟨hi,c,K,p,V,L,hr⟩,a,f⟩;refine vo Z (jy Z (λE=>?_) (λE=>?_));have ah:i<2:=by omega
 rw[newestGo_step ah] at p;refine xg (ju (α:=kj×Option (Nat×Nat)) [0,2,12] Z (λz=>[(3,.int .u32 (nwT z.2:Int)),(4,.int .i64 (nwE z.2))]) (λz u=>(At u d F z.1/\z.1.Ok (m+(i+1))/\ui D=xp D.secs.length (2-(i+1)) (i+1) z.1 z.2/\nwT z.2<4294967296/\z.1.secs.length=D.secs.length/\Rt u)/\j0 u J 155 (nwV d z.2)/\Ext F w u) ?_ ?_);refine j8 (kw Z (qj Z ?_));have bj:=a.lt;refine gj call78 Z (dkRead w2 c K zk (i:Int)) ?_;rintro v3 w3⟨rfl,c,ai⟩;have a:=a.ext ai U;have f:=f.then ai;have hr:=Rt.ext hr ai hF0;have ap:=c.lt;obtain⟨x,M⟩:∃x,x=D1.read (i:Int):=⟨_,Z⟩
 have j:=read_64 K (i:Int);have r:=K.read (i:Int);have G:(D1.read (i:Int)).1.secs.length=D.secs.length:=by rw[kj.read_secs,L]
 rw[<-M] at p j r G c|-;obtain⟨D2,B,e⟩:=x;dsimp only at p j r G c|-;refine j6 ge Z (gt Z λb6 w4 aq b W=>?_);have aj:=j3 a.lt aq;have a3:=al f.size aq;have a:=a.ga W;have c:=c.ga W;have hr:=Rt.ext hr W id;have f:=f.gb W;have a4:¬F b6:=λe=>by have:=ap _ e;omega
 refine wl (j9 (l':=gh B) ge b Z Z (qz j) (by rw[qz j];rfl) OneC.h λw5 b X bk=>?_);have a:=a.gk X aj;have c:=c.ext X λx M e=>by have e:x=b6:=e;subst e;exact a4 M
 have hr:=Rt.ext hr X λe=>by have e:0=b6:=e;omega
 have f:=f.gi X a3;refine kg Z (gp (kw Z (jy Z (λE=>?_) (λE=>?_))));rw[aL E] at p;rw[p];refine qr (u1 Z trivial (l':=nwV d none) Z (j6 ge Z (wl (j9 (l':=nwV d none) ge a Z Z Z (by rw[zz6,zz6]) (nwV_one _ _) λw6 a ar bm=>?_))));have c:=c.ext ar λx M e=>by have e:x=J:=e;subst e;exact U M
 have f:=f.gi ar ag;refine kg Z (gv (gu (jt (gu (gu (jt (gu (u7 [_,_,_] ⟨⟨J,0,Z,ud ge Z Z a.ql Z⟩,Z,Z,trivial⟩ ?_))))))));exact⟨Z,c,f⟩
 rw[aI E] at p;refine xg (qr (wl (st_sa ge Z 0 64 64 1 Z ⟨.inr ⟨Z,Z⟩,.inr ⟨Z,Z⟩,.inr ⟨Z,Z⟩,by decide,by decide,by decide⟩ ?_)));rw[qe,bB];rw[show Value.slice (some ⟨b6,0,none⟩) 64 64= .slice (some ⟨b6,0,none⟩) B.length 64 from by rw[j]];have l2:=a.lt;have l6:=b.lt;have lA:=c.lt;refine gj call101 Z (zv3 w5 b.slB zk) ?_;rintro v7 w7⟨rb,rfl,bn,hR,N⟩;have a:=a.ga N;have b:=b.ga N;have c:=c.ga N;have hr:=Rt.ext hr N id;have f:=f.gb N;refine kg Z (qj Z (gj call103 Z (raw_calls w7 hR zk 12) ?_));rintro v8 w8⟨_,_,rfl,_,hR,O⟩;have a:=a.gk O zk;have b:=b.gk O zk;have f:=f.gi O zk;rw[show(12:Int)=((12:Nat):Int) from Z,offR_ok zk] at hR;have c:=c.ext O λy hy e=>by have e:y=rb:=e;have:=lA y hy;omega
 have hr:=Rt.ext hr O λe=>by have e:0=rb:=e;omega
 refine u3 (qj Z (gj call171 Z (yj0 w8 hR ze) ?_));rintro v9 w9⟨rfl,hR,P⟩;have a:=a.gk P zk;have b:=b.gk P zk;have f:=f.gi P zk;rw[show(4:Int)=((4:Nat):Int) from Z,offR_ok za] at hR|-;have c:=c.ext P λy hy e=>by have e:y=rb:=e;have:=lA y hy;omega
 have hr:=Rt.ext hr P λe=>by have e:0=rb:=e;omega
 refine j6 ge Z (gj call171 Z (yj0 w9 hR ze) ?_);rintro bp bq⟨rfl,_,s⟩;have a:=a.gk s zk;have b:=b.gk s zk;have f:=f.gi s zk;rw[show(4:Int)=((4:Nat):Int) from Z,offR_ok (by rw[aX,aX];omega)];have c:=c.ext s λy hy e=>by have e:y=rb:=e;have:=lA y hy;omega
 have hr:=Rt.ext hr s λe=>by have e:0=rb:=e;omega
 obtain⟨t,ht⟩:∃t,t=Cp B:=⟨_,Z⟩
 obtain⟨n,hn⟩:∃n,n=zq1 B:=⟨_,Z⟩
 have ak:t<4294967296:=by have:=xu ((B.drop 12).take 4);rw[aH,aX,j] at this;rw[ht];exact this
 have a8:n<4294967296:=by have:=xu ((B.drop 16).take 4);rw[aH,aX,j] at this;rw[hn];exact this
 rw[show num ((B.drop 12).take 4)=t from ht.symm,show num (((B.drop 12).drop 4).take 4)=n from by rw[cY];exact hn.symm];refine kg Z (qj Z ?_);rw[qc (n:Int) zk];refine u1 Z ⟨⟨Z,by decide⟩,⟨Z,by decide⟩,trivial⟩ (l':=[.pointer (some ⟨d,0,none⟩),.int .i64 (n:Int)]) Z (have av:=c.lt;gt Z λY br Q g A=>?_);have H:=j3 a.lt Q;have aa:=j3 b.lt Q;have aw:=al f.size Q;have a:=a.ga A;have b:=b.ga A;have c:=c.ga A;have hr:=Rt.ext hr A id;have f:=f.gb A;have ax:¬F Y:=λe=>by have:=av _ e;omega
 refine wl (j9 (l':=[.pointer (some ⟨d,0,none⟩),.int .i64 (n:Int)]) ge g Z Z Z Z OneC.h λbs g C bd=>?_);have a:=a.gk C H;have b:=b.gk C aa;have c:=c.ext C λx M e=>by have e:x=Y:=e;subst e;exact ax M
 have hr:=Rt.ext hr C λe=>by have e:0=Y:=e;omega
 have f:=f.gi C aw;refine u3 (gp (ju (α:=Bool) [0,2,3,4,9,11,12] Z (λz=>[(53,.bool z)]) (λz u=>(z=decide (¬zx3 i D.secs.length B)/\At u d F D2/\Rt u)/\j0 u J 155 (nwV d o)/\j0 u b6 165 (gh B)/\j0 u Y 155 ([.pointer (some ⟨d,0,none⟩),.int .i64 (n:Int)])/\Ext F w u) ?_ ?_));refine ke Z 17 [qP 0,qP 1,qP 2,qP 3,qP 4,qP 5,qP 6,(7,false),qP 8,qP 9,qP 10,qP 11,qP 12,qP 14,(13,false),qP 15,qP 16] [] (No) zf λay q bf=> have a9:=b;have ab:=g;have a:=a.ga q;have b:=b.ga q;have g:=g.ga q;have c:=c.ga q;have hr:=Rt.ext hr q id;have f:=f.gb q;have hC:Ext (No) _ ay:=q.no;gw ge 2 Z ?_;rw[and1 t ak];refine gw ge 1 Z ?_;rw[qc ((t%2:Nat):Int) zk];refine gw ge 3 Z (Ao 42 Z (λT=>?_) (λT=>?_));exact gw ge 11 Z (js (ja (j2 (true) Z ⟨⟨by symm;rw[decide_eq_true_iff];exact λh=>T (by rw[ht,h.1]),c,hr⟩,a,b,g,f⟩)));have ba:Cp B%2=i:=by rw[<-ht];omega
 refine qu ge Z Z (λw' R=>((ab.ga R).ql)) Z (jv Z (j7 call70 Z (fits_calls ay c (n:Int) zk) λbt bb ac=>⟨(by obtain⟨rfl,k⟩:=ac;exact hC.gb k),?_⟩));obtain⟨rfl,k⟩:=ac;have a:=a.ga k;have b:=b.ga k;have g:=g.ga k;have c:=c.ga k;have hr:=Rt.ext hr k id;have f:=f.gb k;have hC:=hC.gb k;rw[G,bV];refine gw ge 3 Z (wd_case 47 Z (λT=>?_) (λT=>?_));have am:¬B9 (zq1 B) D.secs.length:=by rw[<-hn];intro h;rw[bZ ⟨cF n,h⟩] at T;cases T
 exact gw ge 6 Z (js (ja (j2 (true) Z ⟨⟨by symm;rw[decide_eq_true_iff];exact λh=>am h.2.1,c,hr⟩,a,b,g,f⟩)));have am:B9 (zq1 B) D.secs.length:=by rw[<-hn];simpa using T
 refine qu ge Z Z (λw' R=>((ab.ga R).ql)) Z (gw ge 1 Z (qu ge Z Z (λw' R=>((a9.ga R).ql)) (qz j) (jv Z (j7 call147 Z (head_calls bb (.pointer (some ⟨d,0,none⟩)) n t a8 ak Z hr) λbu bv ad=>⟨(by obtain⟨rfl,l⟩:=ad;exact hC.gb l),?_⟩))));obtain⟨rfl,l⟩:=ad;have a:=a.ga l;have b:=b.ga l;have g:=g.ga l;have c:=c.ga l;have hr:=Rt.ext hr l id;have f:=f.gb l;refine wd_eqA (xs:=xx1 (xw t n)) (ys:=xx1 B) ge Z Z zf (numB_eq _) (numB_eq _) (by rw[zz9,Du]) (by rw[zz9,j]) ?_;simp only[bO,dF];exact gw ge 1 Z (js (ja (j2 (_) Z ⟨⟨by rw[aP,ht,hn];exact⟨λh h2=>h (by rw[h2.2.2]),λh h2=>h ⟨ba,am,yz6.1 h2⟩⟩,c,hr⟩,a,b,g,f⟩)));rintro z bc ⟨⟨rfl,c,hr⟩,a,b,g,f⟩;refine jy Z (λE=>?_) (λE=>?_);exact xt (qs (ux (j2 (D2,o) Z ⟨⟨c,r,by rw[p,newer_no E],V,G,hr⟩,a,f⟩)));have az:zx3 i D.secs.length B:=aT.1 E;refine xg (ju (α:=Bool) [0,2,3,4,9,11,12] Z (λz=>[(60,.bool z)]) (λz u=>u=bc/\z=decide (nwE o≠0\/nwT o<t)) ?_ ?_);refine j1 (j6 ge Z (jw 56 Z (λT=>?_) (λT=>?_)));exact j4 ge 4 Z (gl (j2 (true) Z ⟨Z,by symm;rw[decide_eq_true_iff];exact .inl T⟩));exact j4 ge 4 Z (gl (j2 (_) Z ⟨Z,by rw[aP];omega⟩));rintro z bw ⟨hu,rfl⟩;have hu:=hu.symm;subst hu;refine jy Z (λE=>?_) (λE=>?_);refine j1 (jf g Z Z (j6 ge Z (wl (j9 (l':=[.pointer (some ⟨d,0,none⟩),.int .i64 (n:Int)]) ge a Z Z Z (by rw[zz6];rfl) OneC.h λbx a S bg=>?_))));have c:=c.ext S λx M e=>by have e:x=J:=e;subst e;exact U M
 have hr:=Rt.ext hr S λe=>by have e:0=J:=e;omega
 have f:=f.gi S ag;refine j6 ge Z (gl ?_);exact jr (j2 (D2,some (t,n)) Z ⟨⟨c,r,by rw[p,newer_yes az (by rw[<-ht];exact E),ht,hn],ak,G,hr⟩,a,f⟩);exact qf (jr (j2 (D2,o) Z ⟨⟨c,r,by rw[p,newer_old az (by rw[<-ht];exact E)],V,G,hr⟩,a,f⟩));rintro⟨D2,o2⟩ bz ⟨⟨c,a0,p,V,L,hr⟩,a,f⟩;refine yy Z ?_;rw[qc _ zk];exact gl (jh (i+1,D2,o2) Z ⟨⟨by omega,c,a0,p,V,L,hr⟩,a,f⟩ zm);have ah:i=2:=by omega
 subst ah;rw[p];refine Bh (qr (jf a Z (zz6 _ _) (j6 ge Z (wl (j9 (l':=nwV d o) ge a Z Z (zz6 _ _) (by rw[zz6]) (nwV_one _ _) λb0 a ae bh=>?_)))));have c:=c.ext ae λx M e=>by have e:x=J:=e;subst e;exact U M
 have f:=f.gi ae ag;refine kg Z (gv (u7 [_,_,_] ⟨⟨J,0,Z,ud ge Z Z a.ql (zz6 _ _)⟩,Z,Z,trivial⟩ ?_));exact⟨Z,c,f⟩
theorem yj8:∀{R:List Bytes},(∀b∈R,b.length=64)->(R.flatMap gh).length=R.length*64
 | [],_=>rfl
 |b::R,h=>by
  rw[cX,ao,qz (h b zq),yj8 λx hx=>h x (by simp[hx]),aQ]
  omega
theorem take_zero {R:List Bytes} {i:Nat} (hi:i<R.length):(∀b∈R.take (i+1),b=zeros)↔(∀b∈R.take i,b=zeros)/\R[i]=zeros:=by
 rw[aO hi];constructor;exact λh=>⟨λb a=>h b (List.mem_append_left _ a),h _ (List.mem_append_right _ (aF.2 Z))⟩
 rintro⟨c,d⟩ b a;rcases aS.1 a with a|a;exact c b a;rw[aF.1 a];exact d
theorem clean_calls (w:World) {x d m c:Nat} {H F:Nat->Prop} {W:Wl} {D:kj} {p:Option Addr} {L:List Bytes} (hW:yw w x d H W) (h:At w d F D) (hok:D.Ok m) (hm:m+2*L.length+10<1000000000) (hs:Sl w p L.length 64 (L.flatMap gh)) (hL:∀b∈L,b.length=64) (hc:L.length<=c) (hu:W.used<=L.length) (hLl:L.length<=100000) (hsz:W.size<1000000) (htu:W.turn<4294967296)
  (hHF:∀y,H y->¬F y) (hpF:∀y off,p=some ⟨y,off,none⟩->0<L.length->¬F y):
  gn prog 137 [.pointer (some ⟨x,0,none⟩),.slice p L.length c] w λv w'=>v= .int .i64 (xf D ((jj W.turn W.size+W.used:Nat):Int) (L.drop W.used)).2/\DkQ w d F (xf D ((jj W.turn W.size+W.used:Nat):Int) (L.drop W.used)).1 w':=by
 obtain⟨⟨q,cq,a5,a,a6,a7,a8⟩,an,a9⟩:=hW;have n:=h;have B:=hHF x an;have ba:=a.lt;obtain⟨R,hR⟩:∃R,R=L.drop W.used:=⟨_,Z⟩
 have ac:R.length=L.length-W.used:=by rw[hR,aX]
 have s:∀b∈R,b.length=64:=λb hb=>hL b (by rw[hR] at hb;exact List.mem_of_mem_drop hb);have f:Sl w (ur p W.used c 64) R.length 64 (R.flatMap gh):=by have e:=hs.slice W.used L.length c hu hc (aB _);rw[xj8 _ _ hL,<-hR,<-ac,aN (Nat.le_of_eq (yj8 s))] at e;exact e
 have ap:=hs;have ad:=f;obtain⟨g,ae⟩:∃g:Int,g=((jj W.turn W.size+W.used:Nat):Int):=⟨_,Z⟩
 have bb:jj W.turn W.size<=1000002:=by unfold jj;split<;>omega
 rw[<-hR,<-ae];refine gz func137 ?_;have k:=Ext.refl F w;refine kw Z (qj Z (gx Z (a.cell Z) (gj call74 Z (dk_pending w n hok zk) ?_)));rintro v1 w1⟨bp,rfl,_,_,P⟩;have n:=n.ga P;have a:=a.ga P;have f:=f.ga P;have k:=k.gb P;refine kg Z (gp (qj Z (gx Z (a.cell Z) (wl (Ba ge Z W.used L.length c 64 Z (.inr ⟨Z,Z⟩) (.inr ⟨Z,Z⟩) (.inl Z) hu hc (aB _) ?_)))));rw[<-ac];refine kg Z (j8 (jl (α:=Nat×Bool×(Nat->Prop)×kj) [0,22,23] Z (λz=>[(5,.bool z.2.1),(24,.int .i64 (z.1:Int))]) (λz u=>(z.1<=R.length/\At u d z.2.2.1 z.2.2.2/\z.2.2.2.Ok (m+2*z.1)/\z8 D g R=z8 z.2.2.2 (g+(z.1:Nat)) (R.drop z.1)/\(z.2.1=true↔D.order=[]/\∀b∈R.take z.1,b=zeros)/\(∀y,z.2.2.1 y->F y\/w.heap.size<=y)/\j0 u x 162 [.pointer (some ⟨d,0,none⟩),.int .i64 (W.size:Int),.int .u32 (W.turn:Int),.slice q W.pieces.length cq,.int .i64 (W.used:Int),.bool W.broken]/\Sl u (ur p W.used c 64) R.length 64 (R.flatMap gh))/\Ext F w u) (λz u=>R.length-z.1) (0,decide ((D.order.length:Int)=0),F,D) Z ⟨⟨aJ _,n,hok,by simp,by simp,λy hy=> .inl hy,a,f⟩,k⟩ ?_));rintro⟨i,fl,G,Dz⟩ w2 ⟨⟨hi,n,t,j,C,Q,a,f⟩,k⟩;try dsimp only
 dsimp only at hi n t j C Q;have B:¬G x:=λe=>(Q x e).elim B zk;have ar:=k.size;refine vo Z (jy Z (λhc=>?_) (λhc=>?_));have l:i<R.length:=by omega
 obtain⟨Y,po,I,au⟩:=f.qm (λr hr=>qz (s r hr)) zk;have bc:Y<w.heap.size:=by obtain⟨bd,bf,X,af⟩:=ad.qm (λr hr=>qz (s r hr)) zk;rw[I] at X;cases X;exact(af i l).lt (λe=>by have:=congrArg List.length e;rw[qz (s _ (aC _))] at this;cases this)
 have ag:¬F Y:=by obtain⟨pL,oL,av,_⟩:=ap.qm (λr hr=>qz (hL r hr)) zk;obtain⟨ah,e'⟩:=xz7 I (λy o sp e=>by rw[av] at e;cases e;rfl);exact hpF Y ah e' zk
 have ai:¬G Y:=λe=>(Q Y e).elim ag zk;rw[I] at f|-;have A:=s _ (aC l);refine xg (ju (α:=Bool×(Nat->Prop)×kj) [0,22,23,24] Z (λz=>[(5,.bool z.1)]) (λz u=>(At u d z.2.1 z.2.2/\z.2.2.Ok (m+2*(i+1))/\z8 D g R=z8 z.2.2 (g+(i+1:Nat)) (R.drop (i+1))/\(z.1=true↔D.order=[]/\∀b∈R.take (i+1),b=zeros)/\(∀y,z.2.1 y->F y\/w.heap.size<=y)/\j0 u x 162 [.pointer (some ⟨d,0,none⟩),.int .i64 (W.size:Int),.int .u32 (W.turn:Int),.slice q W.pieces.length cq,.int .i64 (W.used:Int),.bool W.broken]/\Sl u (some ⟨Y,po,none⟩) R.length 64 (R.flatMap gh))/\Ext F w u) ?_ ?_);refine j8 (qj Z (ki Z 64 Z i Z l (po+i*64) Z (jk Z (au i l) (qz A) (have aw:=n.lt;gt Z λb7 w3 ax aa S=> have ay:=al k.size ax;have n:=n.ga S;have a:=a.ga S;have f:=f.ga S;have k:=k.gb S;j6 ge Z ?_))));have az:¬G b7:=λe=>by have:=aw _ e;omega
 refine wl (j9 (l':=gh R[i]) ge aa Z Z (qz A) (by rw[qz A];rfl) OneC.h λw4 aa T bg=>?_);have n:=n.ext T λx hx e=>by have e:x=b7:=e;subst e;exact az hx
 have a:=a.ext T λe=>by have e:x=b7:=e;omega
 have f:=f.ext T λb o e h=>by cases e;have h:Y=b7:=h;omega
 have k:=k.gi T ay;refine u3 (gp (qr (jf aa Z (qz A) (u1 Z trivial (l':=gh zeros) (by rw[zeros_b];rfl) (wl (st_eqA (xs:=xx1 R[i]) (ys:=xx1 zeros) ge Z zf (numB_eq _) (numB_eq _) (by rw[zz9,A]) (by rw[zz9,zeros_length]) ?_))))));simp only[cT];refine u3 (jy Z (λhc=>?_) (λhc=>?_));have hz:=yz6.1 hc;rw[wipeD_zero l hz] at j;exact xt (qs (ux (j2 (fl,G,Dz) Z ⟨⟨n,t.mono zk,j,C.trans (by rw[take_zero l];exact⟨λh=>⟨h.1,h.2,hz⟩,λh=>⟨h.1,h.2.1⟩⟩),Q,a,f⟩,k⟩)));have hz:¬R[i]=zeros:=λe=>hc (yz6.2 e);rw[wipeD_step l hz] at j;refine xg (vo Z (ke Z 24 [qP 0,qP 1,qP 2,qP 3,qP 4,qP 5,qP 6,qP 7,qP 8,qP 9,qP 10,qP 11,qP 12,qP 14,qP 15,qP 16,qP 17,qP 19,qP 21,(13,false),qP 18,qP 20,(22,false),qP 23] [] (G) zf λw5 M bh=> have K:=a;have n:=n.ga M;have a:=a.ga M;have f:=f.ga M;have k:=k.gb M;have hC:Ext (G) _ w5:=M.no;gw ge 4 Z (j5 ge Z Z (λw' E=>((K.ext E B).cell Z)) (gw ge 3 Z (qu ge Z Z (λw' E=>((K.ext E B).ql.take 2)) Z (gw ge 3 Z (j5 ge Z Z (λw' E=>((K.ext E B).cell Z)) (gw ge 3 Z (j5 ge Z Z (λw' E=>((K.ext E B).cell Z)) (gw ge 1 Z (wd_bd ge Z Z trivial (l':=gh zeros) (by rw[zeros_b];rfl) (jv Z (j7 call120 Z (yv4 w5 (.pointer (some ⟨d,0,none⟩)) W.size W.turn zk htu Z) λv6 w6 aj=>⟨(by obtain⟨rfl,J⟩:=aj;exact hC.gb J),?_⟩)))))))))))));obtain⟨rfl,J⟩:=aj;have n:=n.ga J;have a:=a.ga J;have f:=f.ga J;have k:=k.gb J;have hC:=hC.gb J;refine gw ge 2 Z ?_;rw[show IntKind.i64.wrap (IntKind.i64.wrap ((jj W.turn W.size:Int)+(W.used:Int))+(i:Int))=g+(i:Nat) from by rw[qc ((jj W.turn W.size:Int)+(W.used:Int)) zk,qc _ zk,ae];omega];have a0:=k.size;refine jv Z (j7 call143 Z (dkWrite w6 n t zk (g+(i:Nat)) zeros_length) λv7 w7 ak=>⟨(by obtain⟨rfl,G2,N,O,U⟩:=ak;exact hC.then O),?_⟩);obtain⟨rfl,G2,N,O,U⟩:=ak;have k:=k.trans O λy hy e=>(Q y e).resolve_right zk;have a:=a.ext O B;have f:=f.ext O λb o e h=>by cases e;exact ai h
 have V:=Au Q a0 U;refine gw ge 1 Z (js (ja (jq (kw Z (jy Z (λhc=>?_) (λhc=>?_))))));rw[aL hc] at j;have ab:xf D g R=Dz.write (g+(i:Nat)) zeros:=by unfold xf;dsimp only;rw[j,aL hc]
 rw[ab];exact kw Z (gv (jt (gu (gu (jt (gu (gy Z Z ⟨Z,G2,N,k,V⟩)))))));rw[aI hc] at j;exact qf (jr (j2 (false,G2,(Dz.write (g+(i:Nat)) zeros).1) Z ⟨⟨N,t.write _ zeros_length,j,⟨λh=>(by cases h),λh=>absurd (((take_zero l).1 h.2).2) hz⟩,V,a,f⟩,k⟩));rintro⟨a1,G2,D2⟩ w8 ⟨⟨n,am,j,C,V,a,f⟩,k⟩;refine yy Z ?_;rw[qc _ zk];exact gl (jh (i+1,a1,G2,D2) Z ⟨⟨l,n,am,j,C,V,a,f⟩,k⟩ zm);have l:i=R.length:=by omega
 subst l;rw[List.drop_length] at j;rw[bM] at C;have ab:xf D g R=if fl=true then(Dz,0) else Dz.sync:=by unfold xf;dsimp only;rw[j];show(if(0:Int)≠0 then _ else _)=_;rw[aI zd];by_cases hf:fl=true;rw[aL (C.1 hf),aL hf];rfl;rw[aI (λe=>hf (C.2 e)),aI hf];rfl
 rw[ab];refine Bh (gp (kw Z (vk Z (λhc=>?_) (λhc=>?_))));rw[aL hc];exact kw Z (gv (gu (gy Z Z ⟨Z,G,n,k,Q⟩)));rw[aI (by rw[hc];decide)];exact xg (qj Z (gx Z (a.cell Z) (gj call144 Z (dkSync w2 n t zk) λv9 w9⟨rfl,G2,N,a3,U⟩=> have a4:=k.trans a3 λy hy e=>(Q y e).resolve_right zk;kg Z (gv (gy Z Z ⟨Z,G2,N,a4,Au Q ar U⟩)))))
theorem lies_calls' (w:World) {p:Option Addr} {c t n:Nat} {L:List Bytes} (hs:Sl w p L.length 64 (L.flatMap gh)) (hL:∀b∈L,b.length=64) (hc:L.length<=c) (hLl:L.length<=100000) (ht:t<4294967296) (hn:n<4294967296) (hr:Rt w):
  gn prog 136 [.slice p L.length c,.int .u32 (t:Int),.int .u32 (n:Int)] w λv w'=>∃q k,v= .tuple #[.slice q ((Ca L t n).getD []).length k,.bool (Ca L t n).isSome]/\(∀b,Ca L t n=some b->Ab w w' q k b)/\Ext No w w':=by
 refine(lies_calls w hs hL hc hLl ht hn hr).mono ?_;rintro v w' ⟨h,a⟩;cases ho:Ca L t n with
 |none=>rw[ho] at h;exact⟨none,0,h,(λb e=>by cases e),a⟩
 |some b=>rw[ho] at h;obtain⟨q,k,d,f⟩:=h;exact⟨q,k,d,(λg e=>by cases e;exact f),a⟩
theorem noOwnB {w : World} : ∀ y, jb none y -> w.heap.size <= y := λy h => by cases h
theorem TyB.lt {w : World} {b T : Nat} (h : TyB w b T) : b < w.heap.size := let ⟨_, h⟩ := h; h.lt
theorem flat_rep (n : Nat) : (List.replicate n zeros).flatMap gh = Df n (gh zeros) := by
  unfold Df
  rw [dD, List.map_replicate]
theorem pad64 {R:List Bytes} (h:∀b∈R,b.length=64) {n:Nat}:∀b∈R++List.replicate n zeros,b.length=64:=λb hb=>(aS.1 hb).elim (h b) (zeros_64 b)
theorem pad_len {R : List Bytes} {n i : Nat} (hi : i <= n) (hR : R.length = i) : (R ++ List.replicate (n - i) zeros).length = n := by simp [hR]; omega
theorem xw0 {R:List Bytes} {n i:Nat} (hi:i<n) (hR:R.length=i) (h64:∀b∈R,b.length=64) {b:Bytes} (hb:b.length=64):
  Vc.put ((R++List.replicate (n-i) zeros).flatMap gh) (i*64) (gh b)=((R++[b])++List.replicate (n-(i+1)) zeros).flatMap gh:=by
 have c:(R.flatMap gh).length=i*64:=by rw[yj8 h64,hR]
 have e:List.replicate (n-i) zeros=zeros::List.replicate (n-(i+1)) zeros:=by rw[show n-i=(n-(i+1))+1 from by omega,List.replicate_succ]
 have d:(gh zeros).length=64:=qz zeros_length;have a:(gh b).length=64:=qz hb;rw[e,aY,cX,put_eq _ _ _ (by simp only[ao,c,d,a];omega),dC c,a];rw[List.drop_append,aW zk,c,bI,show i*64+64-i*64=64 from by omega,List.drop_left' d];simp[aY,aM]
theorem open_calls (w:World) {d m:Nat} {F:Nat->Prop} {D:kj} (h:At w d F D) (hok:D.Ok m) (hm:m+10000<1000000000) (hr:Rt w) (hF0:¬F 0):
  gn prog 58 [.pointer (some ⟨d,0,none⟩)] w λv w'=>∃(xo:Option Addr) (F':Nat->Prop),v= .tuple #[.pointer xo,.int .i64 (u4 D).2.1]/\At w' d F' (u4 D).1/\Ext F w w'/\(∀y,F' y->F y\/w.heap.size<=y)/\((u4 D).2.1≠0->xo=none)/\((u4 D).2.1=0->LogOf w w' d F' xo (Wl.opened (u4 D))):=by
 refine gz func58 ?_;have k:=Ext.refl F w;have T:=h.lt;have c7:=hr.lt;have p:=h;refine kw Z (c_scope (gp (kw Z (uc Z (xg (qj Z (gj call135 Z (newest_calls w p hok zk hr hF0) ?_)))))));rintro v1 w1⟨rfl,p,br⟩;have k:=k.then br;have hr:=Rt.ext hr br hF0;obtain⟨⟨a5,bs,bt⟩,I⟩:=newestD_spec hok;obtain⟨e,he⟩:∃e,e=(ui D).2.1:=⟨_,Z⟩
 rw[<-he] at I|-;refine j6 ge Z (gt Z λb4 w2 bu g bg=>?_);have cj:=al k.size bu;have p:=p.ga bg;have hr:=Rt.ext hr bg id;have k:=k.gb bg;have bv:¬F b4:=λe=>by have:=T _ e;omega
 refine wl (j9 (l':=nwV d (ui D).2.2) ge g Z Z (zz6 _ _) (by rw[zz6];rfl) (nwV_one _ _) λw3 g bh c8=>?_);have p:=p.ext bh λx hx e=>by have e:x=b4:=e;subst e;exact bv hx
 have hr:=Rt.ext hr bh λe=>by have e:0=b4:=e;omega
 have k:=k.gi bh cj;refine kg Z (gp (kw Z (jy Z (λS=>?_) (λS=>?_))));have ck:(ui D).2.2=none:=I.elim (λh=>h.1) λ⟨t,n,_,h,_⟩=>absurd h S;have ho:=openW_no ck;rw[<-he] at ho;rw[ho];exact kw Z (gv (gu (Bz (u7 [_,_] ⟨Z,Z,trivial⟩ ⟨none,F,Z,p,k,λy o=> .inl o,λ_=>rfl,λe=>absurd e S⟩))));obtain⟨t,n,ah,_,a6,ht⟩:=I.resolve_left λh=>h.2 (aT.1 S);rw[ah] at g|-;have g:j0 w3 b4 155 [.pointer (some ⟨d,0,none⟩),.int .i64 (n:Int)]:=g;have ho:=openW_yes ah;rw[ho];obtain⟨D1,cm⟩:∃D1,D1=(ui D).1:=⟨_,Z⟩
 rw[<-cm] at p a5 bs bt|-;have bu:=a6.1;have c9:=a6.2.1;have da:jj t n<=1002:=by unfold jj;split<;>omega
 dsimp only[nwT];refine xg (qj Z (gx Z (g.cell Z) (wl (zx8 ge Z n n 64 Z (zs:=gh zeros) z29 Z zd Z Z (aB _) zk zb λK w4 a7 a ay db=>?_))));have az:=j3 g.lt a7;have bw:=al k.size a7;have g:=g.ga ay;have p:=p.ga ay;have hr:=Rt.ext hr ay id;have k:=k.gb ay;have a:j0 w4 K 165 ((([]:List Bytes)++List.replicate (n-0) zeros).flatMap gh):=by(rw[bI,bB,flat_rep];exact a)
 have ai:¬F K:=λe=>by have:=T _ e;omega
 refine kg Z (gp (kw Z (j8 (jl (α:=Nat×kj×List Bytes) [0,4,5,7,28] Z (λz=>[(29,.int .i64 (z.1:Int))]) (λz u=>(z.1<=n/\At u d F z.2.1/\z.2.1.Ok (m+2+z.1)/\z.2.2.length=z.1/\(∀b∈z.2.2,b.length=64)/\yq D1 (jj t n) n=((yq z.2.1 ((jj t n:Int)+(z.1:Nat)) (n-z.1)).1,z.2.2++(yq z.2.1 ((jj t n:Int)+(z.1:Nat)) (n-z.1)).2.1,(yq z.2.1 ((jj t n:Int)+(z.1:Nat)) (n-z.1)).2.2)/\Rt u)/\j0 u b4 155 ([.pointer (some ⟨d,0,none⟩),.int .i64 (n:Int)])/\j0 u K 165 ((z.2.2++List.replicate (n-z.1) zeros).flatMap gh)/\Ext F w u) (λz u=>n-z.1) (0,D1,[]) Z ⟨⟨aJ _,p,a5,Z,(λb hb=>by cases hb),by simp,hr⟩,g,a,k⟩ ?_))));rintro⟨i,Di,R⟩ w5 ⟨⟨hi,p,W,V,L,s,hr⟩,g,a,k⟩;try dsimp only
 dsimp only at hi p W V L s;refine vo Z (jy Z (λS=>?_) (λS=>?_));have aj:i<n:=by omega
 rw[show n-i=(n-(i+1))+1 from by omega,xj0] at s;refine Bn (kw Z (qj Z (jf g Z Z (j6 ge Z (gj call120 Z (yv4 w5 (.pointer (some ⟨d,0,none⟩)) n t zk ht Z) ?_)))));rintro v6 w6⟨rfl,ak⟩;have g:=g.ga ak;have a:=a.ga ak;have p:=p.ga ak;have hr:=Rt.ext hr ak id;have k:=k.gb ak;refine j6 ge Z ?_;rw[qc _ zk];refine gj call78 Z (dkRead w6 p W zk ((jj t n:Int)+(i:Nat))) ?_;rintro v7 w7⟨rfl,p,a0⟩;have g:=g.ext a0 bv;have a:=a.ext a0 ai;have k:=k.then a0;have hr:=Rt.ext hr a0 hF0;obtain⟨x,hx⟩:∃x,x=Di.read ((jj t n:Int)+(i:Nat)):=⟨_,Z⟩
 have X:=read_64 W ((jj t n:Int)+(i:Nat));have am:=W.read ((jj t n:Int)+(i:Nat));rw[<-hx] at s X am p|-;obtain⟨D2,B,e2⟩:=x;dsimp only at s X am p|-;refine j6 ge Z (ki Z 64 Z i Z aj (0+i*64) Z (wl (Ci ge a Z (by rw[jc];exact qz X) (by rw[yj8 (pad64 L),pad_len zk V];show 0+i*64+64<=n*64;omega) (by rw[jc];exact Av) λw8 a a1 dc=>?_)));have g:=g.gk a1 az;have p:=p.ext a1 λx hx e=>by have e:x=K:=e;subst e;exact ai hx
 have hr:=Rt.ext hr a1 λe=>by have e:0=K:=e;omega
 have k:=k.gi a1 bw;have a:j0 w8 K 165 (((R++[B])++List.replicate (n-(i+1)) zeros).flatMap gh):=(by rw[<-xw0 aj V L X];have e:=a;rw[aV] at e;simpa using e)
 refine kg Z (kw Z (jy Z (λS=>?_) (λS=>?_)));rw[aL S] at s;have an:xn D1 t n=(D2,e2,0,0,[]):=by unfold xn;dsimp only;rw[s,aL S]
 rw[an];exact kw Z (gv (jt (gu (gu (jt (gu (Bz (u7 [_,_] ⟨Z,Z,trivial⟩ ⟨none,F,Z,p,k,λy o=> .inl o,λ_=>rfl,λe=>absurd e S⟩))))))));rw[aI S] at s;refine qf (Bi Z ?_);rw[qc _ zk];exact gl (jh (i+1,D2,R++[B]) Z ⟨⟨aj,p,am,by simp[V],λb hb=>(aS.1 hb).elim (L b) λh=>by rw[aF.1 h];exact X,by rw[s];dsimp only;rw[show(jj t n:Int)+((i+1:Nat):Int)=(jj t n:Int)+(i:Nat)+1 from by omega,aM];rfl,hr⟩,g,a,k⟩ zm);have aj:n=i:=by omega
 subst aj;rw[Nat.sub_self] at s a;have s:yq D1 (jj t n) n=(Di,R,0):=by rw[s];show(Di,R++[],(0:Int))=_;rw[bE]
 rw[List.replicate_zero,bE] at a;refine Bh (qr (jf g Z Z (j6 ge Z (u1 Z ⟨⟨Z,by decide⟩,⟨Z,by decide⟩,trivial⟩ (l':=[.pointer (some ⟨d,0,none⟩),.int .i64 (n:Int),.int .u32 (t:Int),.slice none 0 0,.int .i64 (0:Int),.bool false]) Z (gt Z λM w9 ac f ap=>?_)))));have ad:=j3 g.lt ac;have Y:=j3 a.lt ac;have aq:=al k.size ac;have g:=g.ga ap;have a:=a.ga ap;have p:=p.ga ap;have hr:=Rt.ext hr ap id;have k:=k.gb ap;have f:j0 w9 M 162 ([.pointer (some ⟨d,0,none⟩),.int .i64 (n:Int),.int .u32 (t:Int),.slice none ([]:List Bytes).length 0,.int .i64 (jz []:Int),.bool false]):=f;have a8:¬F M:=λe=>by have:=T _ e;omega
 have c1:=ac;refine kg Z (gp (c_label (jq (gp (j8 (jl (α:=List Bytes×Option Addr×Nat×List Value) [5,7,9] Z (λz=>[]) (λz u=>(jz z.1<=n/\z.1.length<=jz z.1/\(∀b∈z.1,b.length<=40000)/\lyingB R t=z.1++lyGo t (R.length-z.1.length) (R.drop (jz z.1)) z.1.length/\At u d F Di/\Rt u/\Own u z.2.1 z.1.length z.2.2.1 41 1 z.2.2.2/\(∀y,jb z.2.1 y->w.heap.size<=y)/\u5 u (λy=>w.heap.size<=y/\y<u.heap.size) z.1 z.2.2.2)/\j0 u b4 155 ([.pointer (some ⟨d,0,none⟩),.int .i64 (n:Int)])/\j0 u K 165 (R.flatMap gh)/\j0 u M 162 ([.pointer (some ⟨d,0,none⟩),.int .i64 (n:Int),.int .u32 (t:Int),.slice z.2.1 z.1.length z.2.2.1,.int .i64 (jz z.1:Int),.bool false])/\Ext F w u) (λz u=>n-jz z.1) ([],none,0,[]) Z ⟨⟨aJ _,aB _,(λb hb=>by cases hb),Z,p,hr,Own.nil _ _ _,noOwnB,⟨Z,λi b v h=>by cases h⟩⟩,g,a,f,k⟩ ?_))))));rintro⟨G,q,cq,ar⟩ dd ⟨⟨bi,cs,bx,aa,p,hr,j,ag,r⟩,g,a,f,k⟩;try dsimp only
 dsimp only at bi cs bx aa j ag r f;have a2:(R.drop (jz G)).length=n-jz G:=by rw[aX,V]
 have ae:∀b∈R.drop (jz G),b.length=64:=λb hb=>L b (List.mem_of_mem_drop hb);rw[lyGo_step t _ _ _ ae (by rw[a2,V];omega)] at aa;refine j8 (gp (ke Z 19 [qP 0,qP 1,qP 2,qP 3,qP 4,qP 5,qP 6,qP 7,qP 8,qP 9,qP 10,qP 11,qP 12,(13,false),qP 14,qP 15,qP 16,qP 17,qP 18] [] (No) zf λau H c2=>?_));have af:=f;have g:=g.ga H;have a:=a.ga H;have f:=f.ga H;have p:=p.ga H;have hr:=Rt.ext hr H id;have r:=u5.mono (H':=λy=>w.heap.size<=y/\y<au.heap.size) (r.ext H λ_ _ _=>id) λy o=>And.intro o.1 (aK o.2 H.size);have j:=j.ext H λ_ _=>id;have k:=k.gb H;have hC:Ext (No) _ au:=H.no;refine gw ge 4 Z (j5 ge Z Z (λw' av=>((af.ga av).cell Z)) (yq1 ge Z Z (jz G) n n 64 Z (.inr ⟨Z,Z⟩) (.inr ⟨Z,Z⟩) (.inl Z) bi (aB _) (aB _) ?_));dsimp only;rw[<-a2];refine gw ge 4 Z (j5 ge Z Z (λw' av=>((af.ga av).cell Z)) (gw ge 2 Z ?_));rw[wrap32 G.length zk]
 have ct:Sl au (ur (some ⟨K,0,none⟩) (jz G) n 64) (R.drop (jz G)).length 64 ((R.drop (jz G)).flatMap gh):=by
  have cu:Sl au (some ⟨K,0,none⟩) n 64 (R.flatMap gh):=⟨by rw[yj8 L,V],.inr ⟨K,0,Z,a.ql⟩⟩
  have e:=cu.slice (jz G) n n bi (aB _) (aB _);rw[xj8 _ _ L,aN (by rw[yj8 ae,a2];exact aB _),<-a2] at e;exact e
 have de:=k.size;refine jv Z (j7 call136 Z (lies_calls' au (c:=(R.drop (jz G)).length) ct ae (aB _) zk ht (n:=G.length) zk hr) λdf ab a9=>⟨(by obtain⟨qp,kp,rfl,bj,A⟩:=a9;exact hC.gb A),?_⟩);obtain⟨qp,kp,rfl,bj,A⟩:=a9;have g:=g.ga A;have a:=a.ga A;have f:=f.ga A;have p:=p.ga A;have hr:=Rt.ext hr A id;have r:=u5.mono (H':=λy=>w.heap.size<=y/\y<ab.heap.size) (r.ext A λ_ _ _=>id) λy o=>And.intro o.1 (aK o.2 A.size);have j:=j.ext A λ_ _=>id;have k:=k.gb A;refine gw ge 5 Z (js (ja (jq (gp (kw Z (vk Z (λS=>?_) (λS=>?_)))))))
 have a3:Ca (R.drop (jz G)) t G.length=none:=by
  cases hl:Ca (R.drop (jz G)) t G.length with
  |none=>rfl
  |some b=>rw[hl] at S;cases S
 rw[a3,bE] at aa;refine xt (qs (f_blockE' Z (qs (ux (jq (gp (qj Z (gx Z (f.cell Z) (kg Z (jy Z (λS=>?_) (λS=>?_)))))))))));have bk:G=[]:=aU zk;have an:xn D1 t n=(Di,140,0,0,[]):=by unfold xn;dsimp only;rw[s,aI zq,aa,aL bk]
 rw[an];exact kw Z (gv (gu (Bz (u7 [_,_] ⟨Z,Z,trivial⟩ ⟨none,F,Z,p,k,λy o=> .inl o,λ_=>rfl,λe=>absurd (show(140:Int)=0 from e) zd⟩))));have bk:G≠[]:=λe=>S (by rw[e];rfl);obtain⟨C,hC⟩:∃C,C=xf Di ((jj t n+jz G:Nat):Int) (R.drop (jz G)):=⟨_,Z⟩
 have an:xn D1 t n=(C.1,C.2,t,n,G):=by unfold xn;dsimp only;rw[s,aI zq,aa,aI bk,hC]
 rw[an];have ba:yw ab M d (λy=>w.heap.size<=y/\y<ab.heap.size) ⟨Di,n,t,G,jz G,false⟩:=⟨⟨q,cq,ar,f,j,r,λy o=>⟨ag y o,j.lt o⟩⟩,⟨aq,f.lt⟩,λy o=>o.2⟩
 have bz:Sl ab (some ⟨K,0,none⟩) R.length 64 (R.flatMap gh):=⟨yj8 L,.inr ⟨K,0,Z,a.ql⟩⟩
 have cv:=k.size;refine xg (gp (qj Z ?_));rw[show Value.slice (some ⟨K,0,none⟩) n n= .slice (some ⟨K,0,none⟩) R.length n from by rw[V]];refine gj call137 Z (clean_calls ab (c:=n) ba p W (by rw[V];omega) bz L zk zt zk zt ht (λy o e=>by have:=T y e;have:=o.1;omega) (λy a4 e _ h=>by cases e;exact ai h)) ?_;rintro dg dh⟨rfl,F2,bm,bb,b1⟩;rw[<-hC] at bm|-;have k:=k.then bb;have bn:=ba.ext bb λy o e=>by have:=T y e;have:=o.1;omega
 have b2:=Au (λy=> .inl) cv b1;refine kg Z (kw Z (jy Z (λS=>?_) (λS=>?_)));exact gp (j1 (kg Z (gv (gu (Bz (u7 [_,_] ⟨Z,Z,trivial⟩ ⟨none,F2,Z,bm,k,b2,λ_=>rfl,λe=>absurd e S⟩))))));refine qf (jq (kw Z (gv (Bz (u7 [_,_] ⟨Z,Z,trivial⟩ (have b3:C.2=0:=aT.1 S;⟨some ⟨M,0,none⟩,F2,by dsimp only;rw[b3];rfl,bm,k,b2,λe=>absurd b3 e,λ_=>⟨M,_,Z,bn.data Z Z Z Z Z,λy o=>⟨o.1,λe=>?_⟩⟩⟩))))));rcases b1 y e with e|e;have:=T y e;have:=o.1;omega;have:=o.2;omega
 obtain⟨b,a3⟩:∃b,Ca (R.drop (jz G)) t G.length=some b:=by
  cases hl:Ca (R.drop (jz G)) t G.length with
  |none=>rw[hl] at S;cases S
  |some b=>exact⟨b,Z⟩
 rw[a3] at aa bj|-;obtain⟨bc,di,_⟩:=liesB_some ae a3;have dj:=xq bc;obtain⟨cw,b5,aw⟩:=bj b Z;have cx:A3 ab (λy=>w.heap.size<=y/\y<ab.heap.size) (.slice qp b.length kp) b:=⟨qp,kp,Z,cw,b5,λy a4 e=>⟨⟨by have:=(aw y a4 e).1;omega,(aw y a4 e).2.lt⟩,(aw y a4 e).2⟩⟩
 dsimp only[Option.getD_some];have r:=r.snoc cx;refine xg (qj Z (gx Z (f.cell Z) (j6 ge Z (wl (qw ge Z 1 Z Z Z zd zd zp (l':=[.slice qp b.length kp]) Z λcy cz ax b6 N c3=>?_)))));have ch:=j3 g.lt ax;have b7:=j3 a.lt ax;have b8:=j3 f.lt ax;have g:=g.ga N;have a:=a.ga N;have f:=f.ga N;have p:=p.ga N;have hr:=Rt.ext hr N id;have r:=u5.mono (H':=λy=>w.heap.size<=y/\y<cz.heap.size) (r.ext N λ_ _ _=>id) λy o=>And.intro o.1 (aK o.2 N.size);have j:=j.ext N λ_ _=>id;have k:=k.gb N;have dk:=k.size;refine wl (vt ge Z 1 24 Z Z Z zd j (Src.slice (m:=1) ⟨Z,.inr ⟨cy,0,Z,b6.ql⟩⟩ OneC.h) zn zt λbp b9 ca cb O cc=>?_);have g:=g.ext O λe=>(Own.ty j e).ne g zd Z;have a:=a.ext O λe=>(Own.ty j e).ne a zd Z;have f:=f.ext O λe=>(Own.ty j e).ne f zd Z;have k:=k.trans O λy o e=>by have:=ag y e;omega
 have p:=p.ext O λy o e=>by have:=ag y e;have:=T y o;omega
 have hr:=Rt.ext hr O λe=>by have:=ag _ e;omega
 have r:=u5.mono (H':=λy=>w.heap.size<=y/\y<ca.heap.size) (r.ext O λy o ht h=>by obtain⟨l,hl⟩:=Own.ty j h;exact ht.ne hl zd Z) λy o=>And.intro o.1 (aK o.2 O.size);have bd:∀y,jb bp y->w.heap.size<=y:=λy o=>(cc y o).elim (ag y) λe=>by omega
 have j:Own ca bp (G++[b]).length b9 41 1 (ar++[.slice qp b.length kp]):=by rw[ao];exact cb
 dsimp only;refine j6 ge Z ?_;have U:=f;obtain⟨pn,cd⟩:∃pn,pn=bp:=⟨_,Z⟩
 obtain⟨cn,ce⟩:∃cn,cn=b9:=⟨_,Z⟩
 rw[<-cd] at j bd|-;rw[<-ce] at j|-;refine qk f Z Z Z λcf f P c4=>?_;have g:=g.gk P ad;have a:=a.gk P Y;have p:=p.ext P λx hx e=>by have e:x=M:=e;subst e;exact a8 hx
 have hr:=Rt.ext hr P λe=>by have e:0=M:=e;omega
 have r:=u5.mono (H':=λy=>w.heap.size<=y/\y<cf.heap.size) (r.ext P λy o ht h=>by have h:y=M:=h;subst h;exact ht.ne U zd Z) λy o=>And.intro o.1 (aK o.2 P.size);have j:=j.qa P U zd;have k:=k.gi P aq;have f:j0 cf M 162 ([.pointer (some ⟨d,0,none⟩),.int .i64 (n:Int),.int .u32 (t:Int),.slice pn (G++[b]).length cn,.int .i64 (jz G:Int),.bool false]):=by(rw[ao];exact f)
 refine u3 (ke Z 10 [qP 0,qP 1,qP 2,qP 3,qP 4,qP 5,(6,false),qP 7,qP 8,qP 9] [10] (No) zf λbq J c5=>?_);have af:=f;have g:=g.ga J;have a:=a.ga J;have f:=f.ga J;have p:=p.ga J;have hr:=Rt.ext hr J id;have r:=u5.mono (H':=λy=>w.heap.size<=y/\y<bq.heap.size) (r.ext J λ_ _ _=>id) λy o=>And.intro o.1 (aK o.2 J.size);have j:=j.ext J λ_ _=>id;have k:=k.gb J;have hC:Ext (No) _ bq:=J.no;refine gw ge 3 Z (j5 ge Z Z (λw' av=>((af.ext av id).cell Z)) (gw ge 2 Z (jv Z (j7 call65 Z (xv bq (b.length:Int)) λdm c0 bf=>⟨(by obtain⟨rfl,E⟩:=bf;exact hC.gb E),?_⟩))));obtain⟨rfl,E⟩:=bf;have g:=g.ga E;have a:=a.ga E;have f:=f.ga E;have p:=p.ga E;have hr:=Rt.ext hr E id;have r:=u5.mono (H':=λy=>w.heap.size<=y/\y<c0.heap.size) (r.ext E λ_ _ _=>id) λy o=>And.intro o.1 (aK o.2 E.size);have j:=j.ext E λ_ _=>id;have k:=k.gb E;rw[Bt];refine gw ge 1 Z ?_;rw[show IntKind.i64.wrap ((jz G:Int)+(jo b.length:Int))=(jz (G++[b]):Int) from by rw[qc _ zk,zw];omega];refine gw ge 2 Z (js (have U:=f;wb Z (yo ge f Z Z Z λcg f Q c6=>?_)));have g:=g.gk Q ad;have a:=a.gk Q Y;have p:=p.ext Q λx hx e=>by have e:x=M:=e;subst e;exact a8 hx
 have hr:=Rt.ext hr Q λe=>by have e:0=M:=e;omega
 have r:=u5.mono (H':=λy=>w.heap.size<=y/\y<cg.heap.size) (r.ext Q λy o ht h=>by have h:y=M:=h;subst h;exact ht.ne U zd Z) λy o=>And.intro o.1 (aK o.2 Q.size);have j:=j.qa Q U zd;have k:=k.gi Q aq;have f:j0 cg M 162 ([.pointer (some ⟨d,0,none⟩),.int .i64 (n:Int),.int .u32 (t:Int),.slice pn (G++[b]).length cn,.int .i64 (jz (G++[b]):Int),.bool false]):=f;exact ja (jr (jh (G++[b],pn,cn,ar++[.slice qp b.length kp]) Z ⟨⟨by dsimp only;rw[zw];omega,by dsimp only;rw[zw,ao];simp only[aQ,cL];omega,λx hx=>(aS.1 hx).elim (bx x) λh=>by rw[aF.1 h];exact bc,by dsimp only;rw[aa];dsimp only;rw[zw,ao,cY,aM,Nat.sub_sub];rfl,p,hr,j,bd,r⟩,g,a,f,k⟩ (by dsimp only;rw[zw];omega)))
theorem does1_calls (w:World) {bx be x:Nat} {e:Int} {a0 a1 a2 a3 a4:Value} {b0:Bool} (hbx:j0 w bx 58 [.pointer (some ⟨x,0,none⟩)]) (hbe:j0 w be 38 [.int .i64 e]) (hb:j0 w x 162 [a0,a1,a2,a3,a4,.bool b0]):
  CallsDIn Fence.wide 8 prog 177 #[.pointer (some ⟨be,0,none⟩),.pointer (some ⟨bx,0,none⟩)] .returning w λe' u' w'=>u'= .returning/\Rv (λ_ w'=>j0 w' x 162 [a0,a1,a2,a3,a4,.bool (decide (e≠0))]/\Ext (One x) w w') e' w':=by
 refine callsD_enter func177 Z Z Z Z (have a:=Ext.refl (One x) w;j1 (gx Z (hbx.cell Z) (gx Z (hbe.cell Z) (j6 ge Z (wl (un ge hb Z Z (cZ (by decide:0+(4+1)<6) Z) λd hb b c=>?_))))));have a:=a.trans b λy f h=>h;exact gl (zz Z ⟨hb,a⟩)
theorem does_calls (w:World) {x d gf:Nat} {H F:Nat->Prop} {W:Wl} {cap:Array Value} {e:Int} {D':kj} (h:yw w x d H W) (hFlt:∀y,F y->y<w.heap.size) (hHF:∀y,H y->¬F y)
  (hcf:∀args w,(callFunc gf args).run prog w= .ok (.enter gf args) w) (hwhat:∀w1,Ext No w w1->gn prog gf cap.toList w1 λv w2=>v= .int .i64 e/\DkQ w1 d F D' w2):
  gn prog 117 [.pointer (some ⟨x,0,none⟩),.func (.func gf) #[] cap] w λv w'=>v= .int .i64 e/\∃F',At w' d F' D'/\(∀y,F' y->F y\/w.heap.size<=y)/\yw w' x d H {W with broken:=decide (e≠0)}/\(∀y,H y->¬F' y)/\Ext (λy=>F y\/y=x) w w':=by
 refine zz1 func117 Z Z Z Z (have i:=Ext.refl (λy=>F y\/y=x) w;have f:=Ext.refl No w;qr (gt Z λT w1 U a z=> have f:=f.gb z;have i:=i.gb z;gt Z λu w2 A b p=> have r:=j3 a.lt A;have M:=al i.size A;have a:=a.ga p;have f:=f.gb p;have i:=i.gb p;u3 (qj Z (wl_defer Z Z Z Z (u3 (qj Z ?_))))));have N:¬F T:=λe=>by have:=hFlt _ e;omega
 have B:¬F u:=λe=>by have:=hFlt _ e;omega
 have V:=i.size;have C:=b;refine gj hcf Z (hwhat w2 f) ?_;rintro v3 w3⟨rfl,P,s,m,n⟩;have a:=a.ext m N;have b:=b.ext m B;have i:=i.then (m.mono λy _ e=> .inl e);have j:=(h.ga f).ext m hHF;have D:¬P u:=Bb B C.lt n;refine qk b Z Z Z λX b o Y=>?_;have a:=a.gk o r;have j:=j.ext o λy c e=>by have e:y=u:=e;have:=h.lt y c;omega
 have s:=s.ext o λy c e=>by have e:y=u:=e;subst e;exact D c
 have i:=i.gi o M;refine u3 (gv ?_);obtain⟨⟨q,I,E,t,G,Q,R⟩,k,J⟩:=j;refine f_retD [.int .i64 e] call177 (does1_calls X a b (a0:= .pointer (some ⟨d,0,none⟩)) t) (λv w5⟨K,g⟩=>?_);have S:¬P x:=λe=>(n x e).elim (hHF x k) λe=>by have:=J x k;have:=h.lt x k;omega
 have L:=b.ext g λe=>by have e:u=x:=e;have:=h.lt x k;omega
 refine⟨⟨⟨u,0,Z,zv0 ge Z Z (L.cell Z)⟩,trivial⟩,Z,P,s.ext g λy c e=>by have e:y=x:=e;subst e;exact S c,λy c=>(n y c).imp id zk,⟨⟨q,I,E,K,?_,?_,R⟩,k,λy c=>aK (J y c) g.size⟩,λy c e=>(n y e).elim (hHF y c) λe=>by have:=h.lt y c;omega,i.then (g.mono λy _ e=> .inr e)⟩;exact G.ext g λy c e=>by have e:y=x:=e;subst e;obtain⟨l,hl⟩:=Own.ty G c;exact absurd Z (hl.ne t zd)
 exact Q.ext g λy _ ht e=>by have e:y=x:=e;subst e;exact absurd Z (ht.ne t zd)
theorem app1_calls (w:World) {bx bb x d m c:Nat} {H F:Nat->Prop} {W:Wl} {p:Option Addr} {b:Bytes} (hbx:j0 w bx 58 [.pointer (some ⟨x,0,none⟩)]) (hbb:j0 w bb 41 [.slice p b.length c]) (h:yw w x d H W) (hA:At w d F W.D) (hok:W.D.Ok m) (hm:m+2000<1000000000) (hW:Wl.Ok W) (hs:xy w p b) (hbl:b.length<=40000) (hr:Rt w) (hF0:¬F 0) (hF1:¬F bx) (hF2:¬F bb) (hHF:∀y,H y->¬F y):
  gn prog 119 [.pointer (some ⟨bx,0,none⟩),.pointer (some ⟨bb,0,none⟩)] w λv w'=>v= .int .i64 (xh W.D ((jj W.turn W.size+W.used:Nat):Int) (qq W.turn W.pieces.length b)).2/\DkQ w d F (xh W.D ((jj W.turn W.size+W.used:Nat):Int) (qq W.turn W.pieces.length b)).1 w':=by
 refine gz func119 ?_;have t:=Ext.refl F w;have aa:=Cx b.length;have P:=hr.lt;obtain⟨ab,ac⟩:=hW.size;have ad:=hW.few;have ae:=hW.room;have B:=hW.turn;have af:jj W.turn W.size<=2+W.size:=by unfold jj;split<;>omega
 obtain⟨⟨q,cq,I,Q,ag,ah,ai⟩,R,aj⟩:=h;have s:=hHF x R;have S:=Q;have T:=hbx;have U:=hbb;have j:=hA;have k:=hs;have l:=hr;refine vo Z (ke Z 32 [qP 0,qP 1,qP 2,qP 3,qP 4,qP 5,qP 6,qP 7,qP 8,qP 9,qP 10,qP 11,qP 13,qP 14,qP 15,qP 16,qP 18,qP 19,qP 20,qP 21,qP 22,qP 23,qP 24,qP 25,qP 26,qP 27,qP 28,(12,false),qP 17,(29,false),(30,false),qP 31] [] (F) zf λO f ak=> have g:=S;have i:=T;have C:=U;have j:=j.ga f;have k:=k.ga f;have l:=Rt.ext l f id;have t:=t.gb f;have z:Ext (F) _ O:=f.no;j5 ge Z Z (λw' a=>((i.ext a hF1).cell Z)) (gw ge 2 Z (qu ge Z Z (λw' a=>((g.ext a s).ql.take 2)) Z (j5 ge Z Z (λw' a=>((i.ext a hF1).cell Z)) (gw ge 2 Z (qu ge Z Z (λw' a=>((g.ext a s).ql.take 2)) Z (j5 ge Z Z (λw' a=>((i.ext a hF1).cell Z)) (gw ge 2 Z (j5 ge Z Z (λw' a=>((g.ext a s).cell Z)) (j5 ge Z Z (λw' a=>((i.ext a hF1).cell Z)) (gw ge 2 Z (j5 ge Z Z (λw' a=>((g.ext a s).cell Z)) (j5 ge Z Z (λw' a=>((i.ext a hF1).cell Z)) (gw ge 2 Z (j5 ge Z Z (λw' a=>((g.ext a s).cell Z)) (j5 ge Z Z (λw' a=>((i.ext a hF1).cell Z)) (gw ge 2 Z (j5 ge Z Z (λw' a=>((g.ext a s).cell Z)) (gw ge 2 Z ?_)))))))))))))))))));rw[wrap32 W.pieces.length zk];refine j5 ge Z Z (λw' a=>((C.ext a hF2).cell Z)) (jv Z (j7 call120 Z (yv4 O (.pointer (some ⟨d,0,none⟩)) W.size W.turn zk B Z) λv2 w2 E=>⟨(by obtain⟨rfl,o⟩:=E;exact z.gb o),?_⟩));obtain⟨rfl,o⟩:=E;have j:=j.ga o;have k:=k.ga o;have l:=Rt.ext l o id;have t:=t.gb o;have z:=z.gb o;refine gw ge 1 Z ?_;rw[show IntKind.i64.wrap ((jj W.turn W.size:Int)+(W.used:Int))=((jj W.turn W.size+W.used:Nat):Int) from by rw[qc _ zk];omega];refine jv Z (j7 call121 Z (xj5 w2 W.turn W.pieces.length (p:=p) (m:=b.length) (c:=c)) λv3 w3 G=>⟨(by obtain⟨V,bt,bn,rfl,X,u,J,K,r⟩:=G;exact z.gb r),?_⟩);obtain⟨V,bt,bn,rfl,X,u,J,K,r⟩:=G;have j:=j.ga r;have k:=k.ga r;have l:=Rt.ext l r id;have t:=t.gb r;have z:=z.gb r;have Y:=t.size;refine jv Z (j7 call71 Z (put_calls w3 (n:=W.size) (L:=qq W.turn W.pieces.length b) (own:=λx=>x=0) j hok (by rw[kz];omega) ((jj W.turn W.size+W.used:Nat):Int) zk (Cj _ _ b) call178 (λO f=>by rw[kz];exact piece_iter O (u.ga f) (J.ga f) (K.ga f) (k.ga f) B zk hbl (l.ext f id)) (λx e=>by subst e;exact⟨aK P (by have:=t.size;omega),hF0⟩)) λv4 w4 M=>⟨(by obtain⟨rfl,F2,h2,A,N⟩:=M;exact z.then A),?_⟩);obtain⟨rfl,F2,h2,A,N⟩:=M;have t:=t.then A;exact gw ge 1 Z (js (ja (jq (gv (gy Z Z ⟨Z,F2,h2,t,Au (λx=> .inl) Y N⟩)))))
theorem zz7 {W : Wl} {b : Bytes} (h : W.refuses b ((W.size : Int) - W.used) ≠ 0) : W.append b = (W, W.refuses b ((W.size : Int) - W.used)) := aL h
theorem yw4 {W:Wl} {b:Bytes} (h:W.refuses b ((W.size:Int)-W.used)=0) {y:kj×Int} (hy:y=xh W.D ((jj W.turn W.size+W.used:Nat):Int) (qq W.turn W.pieces.length b)) (h2:y.2≠0):W.append b=({W with D:=y.1,broken:=true},y.2):=by
 unfold Wl.append;dsimp only;rw[aI (λe=>e h),<-hy,aL h2]
theorem yz5 {W:Wl} {b:Bytes} (h:W.refuses b ((W.size:Int)-W.used)=0) {y:kj×Int} (hy:y=xh W.D ((jj W.turn W.size+W.used:Nat):Int) (qq W.turn W.pieces.length b)) (h2:y.2=0):W.append b=({W with D:=y.1,broken:=false,pieces:=W.pieces++[b],used:=W.used+jo b.length},0):=by
 unfold Wl.append;dsimp only;rw[aI (λe=>e h),<-hy,aI (λe=>e h2)]
def LogQ (w : World) (x d : Nat) (F H : Nat -> Prop) (r : Wl × Int) (v : Value) (w' : World) : Prop :=
  v = .int .i64 r.2 /\ ∃ F' H' : Nat -> Prop, At w' d F' r.1.D /\ yw w' x d H' r.1 /\ (∀ y, F' y -> F y \/ w.heap.size <= y) /\ (∀ y, H' y -> H y \/ w.heap.size <= y) /\ (∀ y, H' y -> ¬ F' y) /\ Ext (λy => F y \/ H y) w w'
theorem Sl.ext0 {S:Nat->Prop} {w w':World} {p:Option Addr} {b:Bytes} (h:xy w p b) (hE:Ext S w w') (hS:b≠[]->∀y off,p=some ⟨y,off,none⟩->¬S y):xy w' p b:=by
 by_cases h0:b=[];subst h0;exact Sl.nil _ _ _;exact h.ext hE (hS h0)
theorem A3.ofOwn {u:World} {H:Nat->Prop} {q:Option Addr} {k:Nat} {b:Bytes} (ho:Own u q b.length k 5 1 (gh b)) (hH:∀y,jb q y->H y):A3 u H (.slice q b.length k) b:=by
 refine⟨q,k,Z,ho.cap,ho.sl,λy d e=>?_⟩;have c:jb q y:=by rcases ho with⟨a,_⟩|⟨f,l,a,_⟩;rw[a] at e;cases e;rw[a] at e;cases e;exact a
 exact⟨hH y c,Own.ty ho c⟩
theorem append_calls (w:World) {x d m c:Nat} {H F:Nat->Prop} {W:Wl} {p:Option Addr} {b:Bytes} (h:yw w x d H W) (hA:At w d F W.D) (hok:W.D.Ok m) (hm:m+2000<1000000000) (hW:Wl.Ok W) (hs:xy w p b) (hbl:b.length<1000000000) (hr:Rt w) (hF0:¬F 0) (hHF:∀y,H y->¬F y) (hpF:b≠[]->∀y off,p=some ⟨y,off,none⟩->¬F y/\¬H y):
  gn prog 39 [.pointer (some ⟨x,0,none⟩),.slice p b.length c] w λv w'=>LogQ w x d F H (W.append b) v w':=by
 refine gz func39 ?_;have r:=Ext.refl (λy=>F y\/H y) w;have ce:=Cx b.length;have aw:=hA.lt;have Q:=h.lt;obtain⟨cf,cg⟩:=hW.size;have ch:=hW.few;have ci:=hW.room;have ae:=h.own;have g:=h;have C:=hA;have t:=hs;have M:=hr;refine qr (gt Z λb2 w1 cj a P=>?_);have g:=g.ga P;have C:=C.ga P;have t:=t.ga P;have M:=Rt.ext M P id;have r:=r.gb P;have a:j0 w1 b2 58 ([.pointer (some ⟨x,0,none⟩)]):=a;refine gt Z λb3 w2 br f ag=>?_;have ck:=al r.size br;have a:=a.ga ag;have g:=g.ga ag;have C:=C.ga ag;have t:=t.ga ag;have M:=Rt.ext M ag id;have r:=r.gb ag;have f:j0 w2 b3 41 ([.slice p b.length c]):=f;refine kg Z (gp (qr (jd a Z Z (jd f Z Z (gj call116 Z (ready_calls w2 g (p:=p) (n:=b.length) (k:=c)) ?_)))));rintro v3 w3⟨rfl,af⟩;have a:=a.ga af;have f:=f.ga af;have g:=g.ga af;have C:=C.ga af;have t:=t.ga af;have M:=Rt.ext M af id;have r:=r.gb af;refine kg Z (kw Z (jy Z (λhc=>?_) (λhc=>?_)));refine gp (j1 (kg Z (gv (gu (gy Z Z ?_)))));have I:W.refuses b ((W.size:Int)-W.used)=if 40000<b.length then(3:Int) else if W.broken=true then 8 else 0:=by unfold Wl.refuses;by_cases h1:40000<b.length;rw[aL h1,aL h1];rw[aI h1,aI h1] at*;by_cases h2:W.broken=true;rw[aL h2,aL h2];rw[aI h2] at hc;exact absurd Z hc
 rw[zz7 (by rw[I];exact hc),I];exact⟨Z,F,H,C,g,λy=> .inl,λy=> .inl,hHF,r⟩
 have ak:(if 40000<b.length then(3:Int) else if W.broken=true then 8 else 0)=0:=aT.1 hc;have a4:b.length<=40000:=by rcases bC 40000 b.length with h1|h1;rw[aL h1] at ak;cases ak;exact h1
 rw[aI zk] at ak;have bt:¬W.broken=true:=λe=>by rw[aL e] at ak;cases ak
 have I:W.refuses b ((W.size:Int)-W.used)=if(W.size:Int)-W.used<jo b.length then 6 else 0:=by unfold Wl.refuses;rw[aI zk,aI bt]
 have a5:¬(F b2\/H b2):=λe=>by rcases e with e|e;have:=aw _ e;omega;have:=Q _ e;omega
 have a6:¬(F b3\/H b3):=λe=>by rcases e with e|e;have:=aw _ e;omega;have:=Q _ e;omega
 refine xg (gp (gp (ke Z 6 [qP 0,qP 1,qP 3,(2,false),(4,false),qP 5] [] (No) zf λw4 ac cm=> have ah:=a;have am:=f;have an:=g;have a:=a.ga ac;have f:=f.ga ac;have g:=g.ga ac;have C:=C.ga ac;have t:=t.ga ac;have M:=Rt.ext M ac id;have r:=r.gb ac;have hC:Ext (No) _ w4:=ac.no;j5 ge Z Z (λw' A=>(am.ga A).cell Z) (gw ge 1 Z (j5 ge Z Z (λw' A=>(ah.ga A).cell Z) (jv Z (j7 call65 Z (xv w4 (b.length:Int)) λv5 w5 a7=>⟨(by obtain⟨rfl,X⟩:=a7;exact hC.gb X),?_⟩)))))));obtain⟨rfl,X⟩:=a7;have a:=a.ga X;have f:=f.ga X;have g:=g.ga X;have C:=C.ga X;have t:=t.ga X;have M:=Rt.ext M X id;have r:=r.gb X;have hC:=hC.gb X;rw[Bt];refine jv Z (j7 call66 Z (left_calls w5 g zk zk) λv6 w6 a8=>⟨(by obtain⟨rfl,aa⟩:=a8;exact hC.gb aa),?_⟩);obtain⟨rfl,aa⟩:=a8;have a:=a.ga aa;have f:=f.ga aa;have g:=g.ga aa;have C:=C.ga aa;have t:=t.ga aa;have M:=Rt.ext M aa id;have r:=r.gb aa;refine gw ge 1 Z (js (ja (jq (jy Z (λhc=>?_) (λhc=>?_)))));rw[aL hc] at I;refine kw Z (gv (gu (gy Z Z ?_)));rw[zz7 (by rw[I];decide),I];exact⟨Z,F,H,C,g,λy=> .inl,λy=> .inl,hHF,r⟩
 rw[aI hc] at I;refine xg (qr (jd a Z Z (j6 ge Z ?_)));have bu:=r.size;refine gj call117 Z (does_calls w6 g C.lt hHF call119 (λw1 P=>app1_calls w1 (a.ga P) (f.ga P) (g.ga P) (C.ga P) hok hm hW (t.ga P) a4 (M.ext P id) hF0 (λe=>a5 (.inl e)) (λe=>a6 (.inl e)) hHF)) ?_;rintro v7 w7⟨rfl,F2,i,ay,R,ad,aq⟩;obtain⟨y,hy⟩:∃y,y=xh W.D ((jj W.turn W.size+W.used:Nat):Int) (qq W.turn W.pieces.length b):=⟨_,Z⟩
 rw[<-hy] at i R|-;have ar:∀z,F z\/z=x->F z\/H z:=λz s=>s.imp id λe=>by rw[e];exact ae
 have a:=a.ext aq λe=>a5 (ar _ e);have f:=f.ext aq λe=>a6 (ar _ e);have r:=r.then (aq.mono λz _ e=>ar z e);have t:xy w7 p b:=Sl.ext0 t aq λh0 z off e s=>(ar z s).elim (hpF h0 z off e).1 (hpF h0 z off e).2;have ay:=Au (λz=> .inl) bu ay;obtain⟨N,hN⟩:∃N,N=w7.heap.size:=⟨_,Z⟩
 have a9:w.heap.size<=N:=by rw[hN];exact r.size
 have az:∀z,F2 z->z<N:=by rw[hN];exact i.lt
 refine kg Z (ju (α:=Wl×(Nat->Prop)) [6] Z (λz=>[]) (λz u=>(yw u x d z.2 z.1/\At u d F2 z.1.D/\(∀y,z.2 y->H y\/w.heap.size<=y)/\(∀y,z.2 y->¬F2 y)/\W.append b=(z.1,y.2))/\j0 u b2 58 ([.pointer (some ⟨x,0,none⟩)])/\j0 u b3 41 ([.slice p b.length c])/\Ext (λy=>F y\/H y) w u) ?_ ?_);refine gp (j1 (kg Z (jy Z (λhc=>?_) (λhc=>?_))));have a0:y.2=0:=hc;obtain⟨⟨q,cq,ba,j,o,B,ai⟩,_,b8⟩:=id R;rw[show decide (y.2≠0)=false from decide_eq_false λe=>e a0] at j;have cp:=Q x ae;have bb:¬jb q x:=λe=>(Own.ty o e).ne j zd Z;have a1:¬jb q b2:=λe=>by have:=Q _ (ai _ e);omega
 have bc:¬jb q b3:=λe=>by have:=Q _ (ai _ e);omega
 refine gp (ke Z 11 [qP 0,qP 1,qP 2,qP 3,qP 4,qP 5,(6,false),(7,false),(8,false),qP 9,qP 10] [11] (λz=>jb q z) zf λw8 ab cr=>?_);have ah:=a;have am:=f;have an:=g;have au:=R;have ap:=j;have a:=a.ga ab;have f:=f.ga ab;have t:=t.ga ab;have i:=i.ga ab;have j:=j.ga ab;have o:=o.ext ab λ_ _=>id;have B:=B.ext ab λ_ _ _=>id;have r:=r.gb ab;have hC:Ext (λz=>jb q z) _ w8:=ab.no;refine j5 ge Z Z (λw' A=>((ah.ext A a1).cell Z)) (j5 ge Z Z (λw' A=>((ah.ext A a1).cell Z)) (gw ge 2 Z (j5 ge Z Z (λw' A=>((ap.ext A bb).cell Z)) (j5 ge Z Z (λw' A=>((am.ext A bc).cell Z)) (jv Z (j7 call35 Z (zv w8 t hbl) λv9 w9 bd=>⟨(by obtain⟨q2,k2,rfl,K,av,Y⟩:=bd;exact hC.gb Y),?_⟩))))));obtain⟨q2,k2,rfl,K,av,Y⟩:=bd;have a:=a.ga Y;have f:=f.ga Y;have i:=i.ga Y;have j:=j.ga Y;have o:=o.ext Y λ_ _=>id;have B:=B.ext Y λ_ _ _=>id;have r:=r.gb Y;have hC:=hC.gb Y;have bf:∀z,jb q2 z->N<=z:=λz s=>by have:=av z s;omega
 have av:∀z,jb q2 z->w.heap.size<=z:=λz s=>al a9 (bf z s);refine jv Z (qw ge Z 1 Z Z Z zd zd zp (l':=[.slice q2 b.length k2]) Z λbw cs b9 bg E ca=>⟨hC.gb E,?_⟩);have a:=a.ga E;have f:=f.ga E;have i:=i.ga E;have j:=j.ga E;have o:=o.ext E λ_ _=>id;have B:=B.ext E λ_ _ _=>id;have K:=K.ext E λ_ _=>id;have r:=r.gb E;have hC:=hC.gb E;have ct:=hC.size;refine jv Z (vt ge Z 1 24 Z Z Z zd o (Src.slice (m:=1) ⟨Z,.inr ⟨bw,0,Z,bg.ql⟩⟩ OneC.h) zn zt λa2 bh bx bi O bj=>⟨(hC.then O),?_⟩);have a:=a.ext O a1;have f:=f.ext O bc;have r:=r.then (O.mono λz _ e=> .inr (ai z e));have j:=j.ext O bb;have i:=i.ext O λz s e=>ad z (ai z e) s;have K:=K.ext O λz s e=>by have:=av z s;have:=Q _ (ai _ e);omega
 have B:=B.ext O λz s ht e=>by obtain⟨l,hl⟩:=Own.ty o e;exact ht.ne hl zd Z
 have bk:∀z,jb a2 z->H z\/N<=z:=λz s=>(bj z s).imp (ai z) λe=>by omega
 have o:Own bx a2 (W.pieces++[b]).length bh 41 1 (ba++[.slice q2 b.length k2]):=by rw[ao];exact bi
 obtain⟨pn,bm⟩:∃pn,pn=a2:=⟨_,Z⟩
 obtain⟨cn,bn⟩:∃cn,cn=bh:=⟨_,Z⟩
 rw[<-bm] at o bk|-;rw[<-bn] at o|-;refine gw ge 2 Z (js ?_);have S:=j;refine wb Z (un ge j Z Z (cZ (by decide:0+(2+1)<6) Z) λcu j T cb=>?_);have a:=a.ext T λe=>by have e:b2=x:=e;omega
 have f:=f.ext T λe=>by have e:b3=x:=e;omega
 have r:=r.then (T.mono λz _ e=> .inr (by have e:z=x:=e;rw[e];exact ae));have i:=i.ext T λz s e=>by have e:z=x:=e;subst e;exact ad z ae s
 have K:=K.qa T S zd;have o:=o.qa T S zd;have B:=B.ext T λz _ ht e=>by have e:z=x:=e;subst e;exact ht.ne S zd Z
 refine ja (jq (ke Z 10 [qP 0,qP 1,qP 2,qP 3,qP 4,qP 5,(6,false),qP 7,qP 8,qP 9] [10] (No) zf λbp L cc=>?_));have ah:=a;have am:=f;have an:=g;have au:=R;have ap:=j;have a:=a.ga L;have f:=f.ga L;have i:=i.ga L;have j:=j.ga L;have o:=o.ext L λ_ _=>id;have B:=B.ext L λ_ _ _=>id;have K:=K.ext L λ_ _=>id;have r:=r.gb L;have hC:Ext (No) _ bp:=L.no;refine j5 ge Z Z (λw' A=>(ah.ga A).cell Z) (gw ge 2 Z (j5 ge Z Z (λw' A=>((ap.ga A).cell Z)) (j5 ge Z Z (λw' A=>(am.ga A).cell Z) (gw ge 1 Z (jv Z (j7 call65 Z (xv bp (b.length:Int)) λcv cw ax=>⟨(by obtain⟨rfl,J⟩:=ax;exact hC.gb J),?_⟩))))));obtain⟨rfl,J⟩:=ax;have a:=a.ga J;have f:=f.ga J;have i:=i.ga J;have j:=j.ga J;have o:=o.ext J λ_ _=>id;have B:=B.ext J λ_ _ _=>id;have K:=K.ext J λ_ _=>id;have r:=r.gb J;rw[Bt];refine gw ge 1 Z ?_;rw[show IntKind.i64.wrap ((W.used:Int)+(jo b.length:Int))=((W.used+jo b.length:Nat):Int) from by rw[qc _ zk];omega];refine gw ge 2 Z (js ?_);have S:=j;refine wb Z (un ge j Z Z (cZ (by decide:0+(3+1)<6) Z) λbz j U cd=>?_);have a:=a.ext U λe=>by have e:b2=x:=e;omega
 have f:=f.ext U λe=>by have e:b3=x:=e;omega
 have r:=r.then (U.mono λz _ e=> .inr (by have e:z=x:=e;rw[e];exact ae));have i:=i.ext U λz s e=>by have e:z=x:=e;subst e;exact ad z ae s
 have K:=K.qa U S zd;have o:=o.qa U S zd;have B:=B.ext U λz _ ht e=>by have e:z=x:=e;subst e;exact ht.ne S zd Z
 have b0:=λz (s:jb q2 z)=>K.lt s;have b1:=λz (s:jb pn z)=>o.lt s;have b4:=r.size;refine ja ?_;exact j2 ({W with D:=y.1,broken:=false,pieces:=W.pieces++[b],used:=W.used+jo b.length},λz=>H z\/(N<=z/\z<bz.heap.size)) Z ⟨⟨⟨⟨pn,cn,_,by dsimp only;rw[ao];exact j,o,(u5.mono B λz s=> .inl s).snoc (A3.ofOwn K λz s=> .inr ⟨bf z s,b0 z s⟩),λz s=>(bk z s).imp id λe=>⟨e,b1 z s⟩⟩,.inl ae,λz s=>s.elim (λe=>aK (Q z e) b4) λe=>e.2⟩,i,λz s=>s.imp id λe=>al a9 e.1,λz s e=>s.elim (λh=>ad z h e) λh=>by have:=az z e;omega,by rw[a0];exact yz5 I hy a0⟩,a,f,r⟩;exact qf (j2 ({W with D:=y.1,broken:=true},H) Z ⟨⟨by have e:=R;rw[bZ hc] at e;exact e.data Z Z Z Z Z,i,λz s=> .inl s,ad,yw4 I hy hc⟩,a,f,r⟩);rintro⟨V,G⟩ cx ⟨⟨a3,bq,b5,b6,b7⟩,a,f,r⟩;refine kw Z (gv (gy Z Z ?_));rw[b7];exact⟨Z,F2,G,bq,a3,ay,b5,b6,r⟩
theorem ckp1_calls (w:World) {bx bt bb x d m c t:Nat} {H F:Nat->Prop} {W:Wl} {p:Option Addr} {b:Bytes} (hbx:j0 w bx 58 [.pointer (some ⟨x,0,none⟩)]) (hbt:j0 w bt 35 [.int .u32 (t:Int)]) (hbb:j0 w bb 41 [.slice p b.length c]) (h:yw w x d H W) (hA:At w d F W.D) (hok:W.D.Ok m) (hm:m+2000<1000000000) (hz2:W.size<=1000) (ht:t<4294967296) (hs:xy w p b) (hbl:b.length<=40000) (hr:Rt w) (hF0:¬F 0) (hF1:¬F bx) (hFt:¬F bt) (hF2:¬F bb) (hHF:∀y,H y->¬F y):
  gn prog 118 [.pointer (some ⟨bx,0,none⟩),.pointer (some ⟨bt,0,none⟩),.pointer (some ⟨bb,0,none⟩)] w λv w'=>v= .int .i64 (y8 W.D t W.size b).2/\DkQ w d F (y8 W.D t W.size b).1 w':=by
 refine gz func118 ?_;have k:=Ext.refl F w;obtain⟨⟨q,X,M,A,Q,R,S⟩,B,T⟩:=h;have C:=hHF x B;have E:=A;have G:=hbx;have J:=hbt;have K:=hbb;have f:=hA;have g:=hs;have i:=hr;refine vo Z (ke Z 8 [qP 0,qP 1,qP 2,qP 3,qP 4,qP 5,(6,false),qP 7] [] (F) zf λN e U=> have l:=E;have o:=G;have r:=K;have s:=J;have f:=f.ga e;have g:=g.ga e;have i:=Rt.ext i e id;have k:=k.gb e;have V:Ext (F) _ N:=e.no;j5 ge Z Z (λw' a=>((o.ext a hF1).cell Z)) (gw ge 2 Z (qu ge Z Z (λw' a=>((l.ext a C).ql.take 2)) Z (j5 ge Z Z (λw' a=>((s.ext a hFt).cell Z)) (j5 ge Z Z (λw' a=>((r.ext a hF2).cell Z)) (have L:=k.size;jv Z (j7 call73 Z (begin_calls N (n:=W.size) f hok hm zk ht g hbl i hF0) λY I u=>⟨(by obtain⟨rfl,O,P,j,z⟩:=u;exact V.then j),?_⟩)))))));obtain⟨rfl,O,P,j,z⟩:=u;have k:=k.then j;exact gw ge 1 Z (js (ja (jq (gv (gy Z Z ⟨Z,O,P,k,Au (λx=> .inl) L z⟩)))))
theorem ckp_no {W:Wl} {b:Bytes} (h:W.refuses b (if W.turn=4294967295 then 0 else(W.size:Int))≠0):W.ji b=(W,W.refuses b (if W.turn=4294967295 then 0 else(W.size:Int))):=aL h
theorem ckp_bad {W:Wl} {b:Bytes} (h:W.refuses b (if W.turn=4294967295 then 0 else(W.size:Int))=0) {y:kj×Int} (hy:y=y8 W.D (W.turn+1) W.size b) (h2:y.2≠0):W.ji b=({W with D:=y.1,broken:=true},y.2):=by
 unfold Wl.ji;dsimp only;rw[aI (λe=>e h),<-hy,aL h2]
theorem ckp_ok {W:Wl} {b:Bytes} (h:W.refuses b (if W.turn=4294967295 then 0 else(W.size:Int))=0) {y:kj×Int} (hy:y=y8 W.D (W.turn+1) W.size b) (h2:y.2=0):W.ji b=({W with D:=y.1,broken:=false,turn:=W.turn+1,pieces:=[b],used:=jo b.length},0):=by
 unfold Wl.ji;dsimp only;rw[aI (λe=>e h),<-hy,aI (λe=>e h2)]
theorem next_turn {t:Nat} (ht:t<4294967296):IntKind.u32.wrap ((t:Int)+1)=((if t=4294967295 then 0 else t+1:Nat):Int):=by
 by_cases h:t=4294967295;subst h;decide;rw[aI h];exact wrap32 (t+1) zk
theorem checkpoint_calls (w:World) {x d m c:Nat} {H F:Nat->Prop} {W:Wl} {p:Option Addr} {b:Bytes} (h:yw w x d H W) (hA:At w d F W.D) (hok:W.D.Ok m) (hm:m+2000<1000000000) (hW:Wl.Ok W) (hs:xy w p b) (hbl:b.length<1000000000) (hr:Rt w) (hF0:¬F 0) (hHF:∀y,H y->¬F y) (hpF:b≠[]->∀y off,p=some ⟨y,off,none⟩->¬F y/\¬H y/\y<w.heap.size):
  gn prog 38 [.pointer (some ⟨x,0,none⟩),.slice p b.length c] w λv w'=>LogQ w x d F H (W.ji b) v w':=by
 refine gz func38 ?_;have A:=Ext.refl (λy=>F y\/H y) w;have c9:=Cx b.length;have a6:=hA.lt;have a0:=h.lt;obtain⟨da,cc⟩:=hW.size;have cd:=hW.turn;have J:=h.own;have s:=h;have O:=hA;have M:=hs;have R:=hr;refine qr (gt Z λb2 w1 db a aj=>?_);have s:=s.ga aj;have O:=O.ga aj;have M:=M.ga aj;have R:=Rt.ext R aj id;have A:=A.gb aj;have a:j0 w1 b2 58 ([.pointer (some ⟨x,0,none⟩)]):=a;refine gt Z λb3 w2 ce f bb=>?_;have dc:=al A.size ce;have a:=a.ga bb;have s:=s.ga bb;have O:=O.ga bb;have M:=M.ga bb;have R:=Rt.ext R bb id;have A:=A.gb bb;have f:j0 w2 b3 41 ([.slice p b.length c]):=f;refine kg Z (gp (qr (jd a Z Z (jd f Z Z (gj call116 Z (ready_calls w2 s (p:=p) (n:=b.length) (k:=c)) ?_)))));rintro v3 w3⟨rfl,a2⟩;have a:=a.ga a2;have f:=f.ga a2;have s:=s.ga a2;have O:=O.ga a2;have M:=M.ga a2;have R:=Rt.ext R a2 id;have A:=A.gb a2;refine kg Z (kw Z (jy Z (λhc=>?_) (λhc=>?_)));refine gp (j1 (kg Z (gv (gu (gy Z Z ?_)))));have ar:W.refuses b (if W.turn=4294967295 then 0 else(W.size:Int))=if 40000<b.length then(3:Int) else if W.broken=true then 8 else 0:=by unfold Wl.refuses;by_cases h1:40000<b.length;rw[aL h1,aL h1];rw[aI h1,aI h1] at*;by_cases h2:W.broken=true;rw[aL h2,aL h2];rw[aI h2] at hc;exact absurd Z hc
 rw[ckp_no (by rw[ar];exact hc),ar];exact⟨Z,F,H,O,s,λy=> .inl,λy=> .inl,hHF,A⟩
 have bd:(if 40000<b.length then(3:Int) else if W.broken=true then 8 else 0)=0:=aT.1 hc;have bm:b.length<=40000:=by rcases bC 40000 b.length with h1|h1;rw[aL h1] at bd;cases bd;exact h1
 rw[aI zk] at bd;have cg:¬W.broken=true:=λe=>by rw[aL e] at bd;cases bd
 have dd:=xq bm;have ar:W.refuses b (if W.turn=4294967295 then 0 else(W.size:Int))=if W.size<jo b.length\/W.turn=4294967295 then 6 else 0:=by unfold Wl.refuses;rw[aI zk,aI cg];by_cases ht:W.turn=4294967295;rw[aL ht,aL zk,aL (.inr ht)];rw[aI ht];by_cases h1:W.size<jo b.length;rw[aL zk,aL (.inl h1)];rw[aI zk,aI (λe=>e.elim h1 ht)]
 have bz:¬(F b2\/H b2):=λe=>by rcases e with e|e;have:=a6 _ e;omega;have:=a0 _ e;omega
 have b0:¬(F b3\/H b3):=λe=>by rcases e with e|e;have:=a6 _ e;omega;have:=a0 _ e;omega
 obtain⟨⟨q0,de,ch,E,_,_,_⟩,_,_⟩:=id s;obtain⟨nx,ax⟩:∃nx,nx=if W.turn=4294967295 then 0 else W.turn+1:=⟨_,Z⟩
 have b1:nx<4294967296:=by rw[ax];split<;>omega
 refine xg (qr (jd a Z Z (j6 ge Z (gx Z (E.cell Z) (j6 ge Z ?_)))));rw[next_turn cd,<-ax];refine gt Z λb6 w4 br j a3=> have bs:=j3 a.lt br;have bt:=j3 f.lt br;have ci:=al A.size br;have a:=a.ga a3;have f:=f.ga a3;have s:=s.ga a3;have O:=O.ga a3;have M:=M.ga a3;have R:=Rt.ext R a3 id;have A:=A.gb a3;have df:=hr.lt;qk j Z Z Z λw5 j a4 dg=>?_;have a:=a.gk a4 bs;have f:=f.gk a4 bt;have A:=A.gi a4 ci;have j:j0 w5 b6 35 ([.int .u32 (nx:Int)]):=j;have s:=s.ext a4 λy hy e=>by have e:y=b6:=e;have:=a0 y hy;omega
 have O:=O.ext a4 λy hy e=>by have e:y=b6:=e;have:=a6 y hy;omega
 have M:xy w5 p b:=Sl.ext0 M a4 λh0 y off e o=>by have o:y=b6:=o;have:=(hpF h0 y off e).2.2;omega
 have R:=Rt.ext R a4 λe=>by have e:0=b6:=e;omega
 obtain⟨⟨q1,dh,cj,b4,_,_,_⟩,_,_⟩:=id s;have b5:¬(F b6\/H b6):=λe=>by rcases e with e|e;have:=a6 _ e;omega;have:=a0 _ e;omega
 refine u3 (gp (ju (α:=Bool) [2,3,6] Z (λz=>[(31,.bool z)]) (λz u=>(z=decide (W.size<jo b.length\/W.turn=4294967295)/\yw u x d H W/\At u d F W.D/\xy u p b/\Rt u)/\j0 u b2 58 ([.pointer (some ⟨x,0,none⟩)])/\j0 u b3 41 ([.slice p b.length c])/\j0 u b6 35 ([.int .u32 (nx:Int)])/\Ext (λy=>F y\/H y) w u) ?_ ?_));refine ke Z 13 [qP 0,qP 1,qP 3,qP 4,qP 5,qP 6,qP 7,(2,false),qP 8,qP 9,qP 10,qP 11,qP 12] [] (No) zf λw6 ay di=> have bf:=a;have bj:=f;have bu:=j;have a:=a.ga ay;have f:=f.ga ay;have j:=j.ga ay;have s:=s.ga ay;have O:=O.ga ay;have M:=M.ga ay;have R:=Rt.ext R ay id;have A:=A.gb ay;have L:Ext (No) _ w6:=ay.no;j5 ge Z Z (λw' Q=>(bj.ga Q).cell Z) (gw ge 1 Z (j5 ge Z Z (λw' Q=>(bf.ga Q).cell Z) (gw ge 3 Z (j5 ge Z Z (λw' Q=>((b4.ga Q).cell Z)) (jv Z (j7 call65 Z (xv w6 (b.length:Int)) λv7 w7 b7=>⟨(by obtain⟨rfl,av⟩:=b7;exact L.gb av),?_⟩))))));obtain⟨rfl,av⟩:=b7;have a:=a.ga av;have f:=f.ga av;have j:=j.ga av;have s:=s.ga av;have O:=O.ga av;have M:=M.ga av;have R:=Rt.ext R av id;have A:=A.gb av;rw[Bt];refine gw ge 2 Z (Ao 28 Z (λhg=>?_) (λhg=>?_));exact gw ge 3 Z (js (ja (j2 (true) Z ⟨⟨(bZ (.inl zk)).symm,s,O,M,R⟩,a,f,j,A⟩)));refine j5 ge Z Z (λw' Q=>(bu.ga Q).cell Z) (gw ge 2 Z (js (ja ?_)))
 exact j2 (decide ((nx:Int)=0)) Z ⟨⟨by
 rw[aP]
 constructor
 intro h0;refine .inr ?_;rcases bC W.turn 4294967295 with h1|h1;rw[aI zk] at ax;omega;omega
 intro h0;rcases h0 with h0|h0;omega;rw[aL h0] at ax;omega,s,O,M,R⟩,a,f,j,A⟩
 rintro z w8 ⟨⟨o,s,O,M,R⟩,a,f,j,A⟩;refine vk Z (λhc=>?_) (λhc=>?_);have bk:=cQ (o.symm.trans hc);rw[aL bk] at ar;refine kw Z (gv (gu (gy Z Z ?_)));rw[ckp_no (by rw[ar];decide),ar];exact⟨Z,F,H,O,s,λy=> .inl,λy=> .inl,hHF,A⟩
 have bk:¬(W.size<jo b.length\/W.turn=4294967295):=of_decide_eq_false (o.symm.trans hc);rw[aI bk] at ar;rw[aI (λe=>bk (.inr e))] at ax;refine xg (qr (jd a Z Z (j6 ge Z ?_)));have ck:=A.size;refine gj call117 Z (does_calls w8 s O.lt hHF call118 (λw1 aj=>ckp1_calls w1 (a.ga aj) (j.ga aj) (f.ga aj) (s.ga aj) (O.ga aj) hok hm cc b1 (M.ga aj) bm (R.ext aj id) hF0 (λe=>bz (.inl e)) (λe=>b5 (.inl e)) (λe=>b0 (.inl e)) hHF)) ?_;rintro v9 w9⟨rfl,F2,g,bv,az,P,bg⟩;obtain⟨y,hy⟩:∃y,y=y8 W.D nx W.size b:=⟨_,Z⟩
 rw[<-hy] at g az|-;rw[ax] at hy;have bh:∀z,F z\/z=x->F z\/H z:=λz o=>o.imp id λe=>by rw[e];exact J
 have a:=a.ext bg λe=>bz (bh _ e);have f:=f.ext bg λe=>b0 (bh _ e);have j:=j.ext bg λe=>b5 (bh _ e);have A:=A.then (bg.mono λz _ e=>bh z e);have M:xy w9 p b:=Sl.ext0 M bg λh0 z off e o=>(bh z o).elim (hpF h0 z off e).1 (hpF h0 z off e).2.1;have bv:=Au (λz=> .inl) ck bv;obtain⟨N,hN⟩:∃N,N=w9.heap.size:=⟨_,Z⟩
 have bw:w.heap.size<=N:=by rw[hN];exact A.size
 have ak:∀z,F2 z->z<N:=by rw[hN];exact g.lt
 refine kg Z (ju (α:=Wl×(Nat->Prop)) [7] Z (λz=>[]) (λz u=>(yw u x d z.2 z.1/\At u d F2 z.1.D/\(∀y,z.2 y->H y\/w.heap.size<=y)/\(∀y,z.2 y->¬F2 y)/\W.ji b=(z.1,y.2))/\j0 u b2 58 ([.pointer (some ⟨x,0,none⟩)])/\j0 u b3 41 ([.slice p b.length c])/\j0 u b6 35 ([.int .u32 (nx:Int)])/\Ext (λy=>F y\/H y) w u) ?_ ?_);refine gp (j1 (kg Z (jy Z (λhc=>?_) (λhc=>?_))));have a5:y.2=0:=hc;obtain⟨⟨q,cq,rows,l,_,_,_⟩,_,_⟩:=id az;rw[show decide (y.2≠0)=false from decide_eq_false λe=>e a5] at l;have dj:=a0 x J;have aq:¬One x b2:=λe=>by have e:b2=x:=e;omega
 have au:¬One x b3:=λe=>by have e:b3=x:=e;omega
 have aw:¬One x b6:=λe=>by have e:b6=x:=e;omega
 refine yw8 Z 19 19 [] (One x) zf λb8 am cv=> have bf:=a;have bj:=f;have bu:=j;have cn:=s;have cb:=az;have cw:=l;have a:=a.ga am;have f:=f.ga am;have j:=j.ga am;have M:=M.ga am;have g:=g.ga am;have l:=l.ga am;have A:=A.gb am;have L:Ext (One x) _ b8:=am.no;u9 [qP 0,qP 1,qP 2,qP 3,qP 4,qP 7,qP 8,(5,false)] 11 Z zf (j5 ge Z Z (λw' Q=>((bf.ext Q aq).cell Z)) (j5 ge Z Z (λw' Q=>((bf.ext Q aq).cell Z)) (j5 ge Z Z (λw' Q=>((bf.ext Q aq).cell Z)) (j5 ge Z Z (λw' Q=>((bu.ext Q aw).cell Z)) (j5 ge Z Z (λw' Q=>((bj.ext Q au).cell Z)) (j5 ge Z Z (λw' Q=>((bj.ext Q au).cell Z)) (gw ge 1 Z (jv Z (j7 call35 Z (zv b8 M hbl) λdk cp bn=>⟨(by obtain⟨q2,k2,rfl,t,b9,X⟩:=bn;exact L.gb X),?_⟩)))))))));obtain⟨q2,k2,rfl,t,b9,X⟩:=bn;have a:=a.ga X;have f:=f.ga X;have j:=j.ga X;have g:=g.ga X;have l:=l.ga X;have A:=A.gb X;have L:=L.gb X;have bc:∀z,jb q2 z->N<=z:=λz o=>by have:=b9 z o;omega
 refine zu Z (C2 [6,9] Z zf ⟨⟨_,Z,?_⟩,⟨_,Z,?_⟩,trivial⟩);refine qw ge Z 1 Z Z Z zd zd zp (l':=[.slice q2 b.length k2]) Z λT cr K r Y cx=>⟨L.gb Y,?_⟩
 have a7:=j3 a.lt K;have a8:=j3 f.lt K;have a9:=j3 j.lt K;have a1:=al A.size K;have ba:=al L.size K;have a:=a.ga Y;have f:=f.ga Y;have j:=j.ga Y;have g:=g.ga Y;have l:=l.ga Y;have t:=t.ext Y λ_ _=>id;have A:=A.gb Y;have L:=L.gb Y;refine u9 [(9,false),qP 10,qP 11,(12,false),qP 13,qP 14,(15,false),qP 16,qP 17,(18,false)] 0 Z zf (jv Z (j7 call65 Z (xv cr (b.length:Int)) λdm dn bp=>⟨(by obtain⟨rfl,S⟩:=bp;exact L.gb S),?_⟩));obtain⟨rfl,S⟩:=bp;have a:=a.ga S;have f:=f.ga S;have j:=j.ga S;have r:=r.ga S;have g:=g.ga S;have l:=l.ga S;have t:=t.ext S λ_ _=>id;have A:=A.gb S;have L:=L.gb S;rw[Bt];refine gw ge 2 Z ?_;have E:=l;refine jv Z (un ge l Z Z (cZ (by decide:0+(1+1)<6) Z) λdp l B cy=>⟨L.then B,?_⟩);have a:=a.ext B aq;have f:=f.ext B au;have j:=j.ext B aw;have r:=r.ext B λe=>by have e:T=x:=e;omega
 have L:=L.then B;have A:=A.then (B.mono λz _ e=> .inr (by have e:z=x:=e;rw[e];exact J));have g:=g.ext B λz o e=>by have e:z=x:=e;subst e;exact P z J o
 have t:=t.qa B E zd;refine gw ge 2 Z ?_;have E:=l;refine jv Z (un ge l Z Z (cZ (by decide:0+(2+1)<6) Z) λdq l aa cz=>⟨L.then aa,?_⟩);have a:=a.ext aa aq;have f:=f.ext aa au;have j:=j.ext aa aw;have r:=r.ext aa λe=>by have e:T=x:=e;omega
 have L:=L.then aa;have A:=A.then (aa.mono λz _ e=> .inr (by have e:z=x:=e;rw[e];exact J));have g:=g.ext aa λz o e=>by have e:z=x:=e;subst e;exact P z J o
 have t:=t.qa aa E zd;refine gw ge 2 Z ?_;have E:=l;refine jv Z (un ge l Z Z (cZ (by decide:0+(3+1)<6) Z) λdr l ab c0=>⟨L.then ab,?_⟩);have a:=a.ext ab aq;have f:=f.ext ab au;have j:=j.ext ab aw;have r:=r.ext ab λe=>by have e:T=x:=e;omega
 have L:=L.then ab;have A:=A.then (ab.mono λz _ e=> .inr (by have e:z=x:=e;rw[e];exact J));have g:=g.ext ab λz o e=>by have e:z=x:=e;subst e;exact P z J o
 have t:=t.qa ab E zd;have bi:=λz (o:jb q2 z)=>t.lt o;refine js (ja ?_);exact j2 ({W with D:=y.1,broken:=false,turn:=W.turn+1,pieces:=[b],used:=jo b.length},λz=>z=x\/z=T\/jb q2 z) Z ⟨⟨⟨⟨some ⟨T,0,none⟩,1,_,(by rw[ax] at l;exact l),Own.blk (n:=1) (c:=1) r 1 Z (aB _) zd,u5.snoc (ps:=[]) (rows:=[]) ⟨Z,λi b v h=>by cases h⟩ (A3.ofOwn t λz o=> .inr (.inr o)),λz o=>by cases o;exact .inr (.inl Z)⟩,.inl Z,λz o=>by rcases o with rfl|rfl|o;exact l.lt;exact r.lt;exact bi z o⟩,g,λz o=>by rcases o with rfl|rfl|o;exact .inl J;exact .inr a1;exact .inr (al bw (bc z o)),λz o e=>by rcases o with rfl|rfl|o;exact P _ J e;have:=ak _ e;omega;have:=ak z e;have:=bc z o;omega,by rw[a5];exact ckp_ok ar hy a5⟩,a,f,j,A⟩;refine j7 call65 rfl (xv cp (b.length:Int)) λds dt bq=>⟨(by obtain⟨rfl,U⟩:=bq;exact L.gb U),?_⟩
 obtain⟨rfl,U⟩:=bq;have a:=a.ga U;have f:=f.ga U;have j:=j.ga U;have g:=g.ga U;have l:=l.ga U;have t:=t.ext U λ_ _=>id;have A:=A.gb U;have L:=L.gb U;rw[Bt];refine u9 [qP 10,qP 11] 8 Z zf (gw ge 2 Z (zu Z (C2 [6,12] Z zf ⟨⟨_,Z,?_⟩,⟨_,Z,?_⟩,trivial⟩)));refine qw ge Z 1 Z Z Z zd zd zp (l':=[.slice q2 b.length k2]) Z λT du K r ac c1=>⟨L.gb ac,?_⟩
 have a7:=j3 a.lt K;have a8:=j3 f.lt K;have a9:=j3 j.lt K;have a1:=al A.size K;have ba:=al L.size K;have a:=a.ga ac;have f:=f.ga ac;have j:=j.ga ac;have g:=g.ga ac;have l:=l.ga ac;have t:=t.ext ac λ_ _=>id;have A:=A.gb ac;have L:=L.gb ac;refine u9 [(12,false),qP 13,qP 14,(15,false),qP 16,qP 17,(18,false)] 0 Z zf ?_;have E:=l;refine jv Z (un ge l Z Z (cZ (by decide:0+(1+1)<6) Z) λdv l ad c2=>⟨L.then ad,?_⟩);have a:=a.ext ad aq;have f:=f.ext ad au;have j:=j.ext ad aw;have r:=r.ext ad λe=>by have e:T=x:=e;omega
 have L:=L.then ad;have A:=A.then (ad.mono λz _ e=> .inr (by have e:z=x:=e;rw[e];exact J));have g:=g.ext ad λz o e=>by have e:z=x:=e;subst e;exact P z J o
 have t:=t.qa ad E zd;refine gw ge 2 Z ?_;have E:=l;refine jv Z (un ge l Z Z (cZ (by decide:0+(2+1)<6) Z) λdw l ae c3=>⟨L.then ae,?_⟩);have a:=a.ext ae aq;have f:=f.ext ae au;have j:=j.ext ae aw;have r:=r.ext ae λe=>by have e:T=x:=e;omega
 have L:=L.then ae;have A:=A.then (ae.mono λz _ e=> .inr (by have e:z=x:=e;rw[e];exact J));have g:=g.ext ae λz o e=>by have e:z=x:=e;subst e;exact P z J o
 have t:=t.qa ae E zd;refine gw ge 2 Z ?_;have E:=l;refine jv Z (un ge l Z Z (cZ (by decide:0+(3+1)<6) Z) λdx l af c4=>⟨L.then af,?_⟩);have a:=a.ext af aq;have f:=f.ext af au;have j:=j.ext af aw;have r:=r.ext af λe=>by have e:T=x:=e;omega
 have L:=L.then af;have A:=A.then (af.mono λz _ e=> .inr (by have e:z=x:=e;rw[e];exact J));have g:=g.ext af λz o e=>by have e:z=x:=e;subst e;exact P z J o
 have t:=t.qa af E zd;have bi:=λz (o:jb q2 z)=>t.lt o;refine js (ja ?_);exact j2 ({W with D:=y.1,broken:=false,turn:=W.turn+1,pieces:=[b],used:=jo b.length},λz=>z=x\/z=T\/jb q2 z) Z ⟨⟨⟨⟨some ⟨T,0,none⟩,1,_,(by rw[ax] at l;exact l),Own.blk (n:=1) (c:=1) r 1 Z (aB _) zd,u5.snoc (ps:=[]) (rows:=[]) ⟨Z,λi b v h=>by cases h⟩ (A3.ofOwn t λz o=> .inr (.inr o)),λz o=>by cases o;exact .inr (.inl Z)⟩,.inl Z,λz o=>by rcases o with rfl|rfl|o;exact l.lt;exact r.lt;exact bi z o⟩,g,λz o=>by rcases o with rfl|rfl|o;exact .inl J;exact .inr a1;exact .inr (al bw (bc z o)),λz o e=>by rcases o with rfl|rfl|o;exact P _ J e;have:=ak _ e;omega;have:=ak z e;have:=bc z o;omega,by rw[a5];exact ckp_ok ar hy a5⟩,a,f,j,A⟩;have E:=l;refine un ge l rfl rfl (cZ (by decide:0+(1+1)<6) rfl) λdy l an c5=>⟨L.then an,?_⟩
 have a:=a.ext an aq;have f:=f.ext an au;have j:=j.ext an aw;have L:=L.then an;have A:=A.then (an.mono λz _ e=> .inr (by have e:z=x:=e;rw[e];exact J));have g:=g.ext an λz o e=>by have e:z=x:=e;subst e;exact P z J o
 have t:=t.qa an E zd;refine u9 [(6,false),qP 13,qP 14,(15,false),qP 16,qP 17,(18,false)] 0 Z zf (jv Z (qw ge Z 1 Z Z Z zd zd zp (l':=[.slice q2 b.length k2]) Z λT dz K r ag c6=>⟨L.gb ag,?_⟩));have a7:=j3 a.lt K;have a8:=j3 f.lt K;have a9:=j3 j.lt K;have a1:=al A.size K;have ba:=al L.size K;have a:=a.ga ag;have f:=f.ga ag;have j:=j.ga ag;have g:=g.ga ag;have l:=l.ga ag;have t:=t.ext ag λ_ _=>id;have A:=A.gb ag;have L:=L.gb ag;refine gw ge 2 Z ?_;have E:=l;refine jv Z (un ge l Z Z (cZ (by decide:0+(2+1)<6) Z) λd0 l ah c7=>⟨L.then ah,?_⟩);have a:=a.ext ah aq;have f:=f.ext ah au;have j:=j.ext ah aw;have r:=r.ext ah λe=>by have e:T=x:=e;omega
 have L:=L.then ah;have A:=A.then (ah.mono λz _ e=> .inr (by have e:z=x:=e;rw[e];exact J));have g:=g.ext ah λz o e=>by have e:z=x:=e;subst e;exact P z J o
 have t:=t.qa ah E zd;refine gw ge 2 Z ?_;have E:=l;refine jv Z (un ge l Z Z (cZ (by decide:0+(3+1)<6) Z) λd1 l ai c8=>⟨L.then ai,?_⟩);have a:=a.ext ai aq;have f:=f.ext ai au;have j:=j.ext ai aw;have r:=r.ext ai λe=>by have e:T=x:=e;omega
 have L:=L.then ai;have A:=A.then (ai.mono λz _ e=> .inr (by have e:z=x:=e;rw[e];exact J));have g:=g.ext ai λz o e=>by have e:z=x:=e;subst e;exact P z J o
 have t:=t.qa ai E zd;have bi:=λz (o:jb q2 z)=>t.lt o;refine js (ja ?_);exact j2 ({W with D:=y.1,broken:=false,turn:=W.turn+1,pieces:=[b],used:=jo b.length},λz=>z=x\/z=T\/jb q2 z) Z ⟨⟨⟨⟨some ⟨T,0,none⟩,1,_,(by rw[ax] at l;exact l),Own.blk (n:=1) (c:=1) r 1 Z (aB _) zd,u5.snoc (ps:=[]) (rows:=[]) ⟨Z,λi b v h=>by cases h⟩ (A3.ofOwn t λz o=> .inr (.inr o)),λz o=>by cases o;exact .inr (.inl Z)⟩,.inl Z,λz o=>by rcases o with rfl|rfl|o;exact l.lt;exact r.lt;exact bi z o⟩,g,λz o=>by rcases o with rfl|rfl|o;exact .inl J;exact .inr a1;exact .inr (al bw (bc z o)),λz o e=>by rcases o with rfl|rfl|o;exact P _ J e;have:=ak _ e;omega;have:=ak z e;have:=bc z o;omega,by rw[a5];exact ckp_ok ar hy a5⟩,a,f,j,A⟩;exact qf (j2 ({W with D:=y.1,broken:=true},H) rfl ⟨⟨by have e:=az;rw[bZ hc] at e;exact e.data rfl rfl rfl rfl rfl,g,λz o=> .inl o,P,ckp_bad ar hy hc⟩,a,f,j,A⟩);rintro⟨V,G⟩ d2 ⟨⟨bx,ca,cs,ct,cu⟩,a,f,j,A⟩;refine kw Z (gv (gy Z Z ?_));rw[cu];exact⟨Z,F2,G,ca,bx,bv,cs,ct,A⟩
theorem ready_nil (w:World) {p:Option Addr} {n k:Nat}:
  gn prog 116 [.pointer none,.slice p n k] w λv w'=>v= .int .i64 1/\Ext No w w':=by
 exact gz func116 (have a:=Ext.refl No w;vo Z (j8 (kw Z (Cd Z (kw Z (gv (jt (gu (gy Z Z ⟨Z,a⟩)))))))))
theorem formatW_ok {D:kj} {m:Nat} (hok:D.Ok m) (area:Int):(uj D area).1.Ok (m+6000)/\(uj D area).1.secs.length=D.secs.length:=by
 by_cases h:0<=area/\B9 area.toNat D.secs.length;obtain⟨a,rfl⟩:∃a:Nat,area=(a:Int):=⟨area.toNat,by omega⟩
 rw[bV] at h;have b:=zq2 (List.replicate (2+2*a) zeros) 0 hok (zeros_rep _);rw[bN] at b;have c:=h.2.2.1;rw[yq9 h.2];split;exact⟨b.mono zk,vu _ _ _⟩
 exact⟨(beginD_ok b 0 a []).mono (by have:jo ([]:Bytes).length=1:=rfl;omega),by rw[yx0,vu]⟩
 rw[formatW_no h];exact⟨hok.mono zk,Z⟩
theorem format_fine {D:kj} {a:Nat} (h:(uj D (a:Int)).2=0) {m:Nat} (hok:D.Ok m):Wl.Ok (Wl.fresh (uj D (a:Int)).1 a)/\B9 a D.secs.length:=by
 have c:B9 a D.secs.length:=by refine Decidable.byContradiction λd=>?_;rw[formatW_no (λe=>d (by have:=e.2;rwa [bV] at this))] at h;exact absurd (show(2:Int)=0 from h) zd
 have f:=(formatW_ok hok (a:Int)).2;exact⟨⟨⟨c.1,c.2.1⟩,by show 2+2*a<=_;rw[show(Wl.fresh (uj D (a:Int)).1 a).D=(uj D (a:Int)).1 from Z,f];exact c.2.2,by show 0<4294967296;decide,by simp[Wl.fresh],λb g=>by rw[aF.1 g];exact aJ _,by have:=c.1;show 1<=a;omega,Z,by have:=c.1;show 1<=a;omega⟩,c⟩
theorem xw2 {W:Wl} {m:Nat} (hok:W.D.Ok m) (hW:Wl.Ok W) (b:Bytes):(W.append b).1.D.Ok (m+2000)/\Wl.Ok (W.append b).1:=by
 by_cases hr:W.refuses b ((W.size:Int)-W.used)=0;obtain⟨y,f⟩:∃y,y=xh W.D ((jj W.turn W.size+W.used:Nat):Int) (qq W.turn W.pieces.length b):=⟨_,Z⟩
 have g:=zq2 (qq W.turn W.pieces.length b) ((jj W.turn W.size+W.used:Nat):Int) hok (Cj _ _ _);have i:=vu (qq W.turn W.pieces.length b) W.D ((jj W.turn W.size+W.used:Nat):Int);rw[<-f,kz] at g;rw[<-f] at i;have k:=Cx b.length;by_cases h0:y.2=0;rw[yz5 hr f h0];have c:b.length<=40000:=by rcases bC 40000 b.length with h|h;unfold Wl.refuses at hr;rw[aL h] at hr;cases hr;exact h
 have j:W.used+jo b.length<=W.size:=by unfold Wl.refuses at hr;rw[aI zk] at hr;split at hr;cases hr;split at hr;cases hr;omega
 have p:=xq c
 have n:W.pieces.length<=jz W.pieces:=by
  have:∀(l:List Bytes),(∀b∈l,b.length<=40000)->l.length<=jz l:=by
   intro l;induction l with
   |nil=>intro _;exact aB _
   |cons a l ih=>
    intro h;have:=xq (h a zq);have e:jz (a::l)=jo a.length+jz l:=by simp[jz]
    rw[e,aQ];have:=ih λx d=>h x (by simp[d]);omega
  exact this _ hW.short
 have o:=hW.used;refine⟨g.mono zk,⟨hW.size,by show _<=y.1.secs.length;rw[i];exact hW.secs,hW.turn,by simp,λx d=>?_,?_,?_,j⟩⟩;rcases aS.1 d with d|d;exact hW.short x d;rw[aF.1 d];exact c;show(W.pieces++[b]).length<=W.size;rw[ao,cU];omega;show W.used+jo b.length=jz (W.pieces++[b]);rw[zw,o];rw[yw4 hr f h0];exact⟨g.mono zk,⟨hW.size,by show _<=y.1.secs.length;rw[i];exact hW.secs,hW.turn,hW.some,hW.short,hW.few,hW.used,hW.room⟩⟩
 rw[zz7 hr];exact⟨hok.mono zk,hW⟩
theorem ckp_fine {W:Wl} {m:Nat} (hok:W.D.Ok m) (hW:Wl.Ok W) (b:Bytes):(W.ji b).1.D.Ok (m+2000)/\Wl.Ok (W.ji b).1:=by
 by_cases hr:W.refuses b (if W.turn=4294967295 then 0 else(W.size:Int))=0;obtain⟨y,d⟩:∃y,y=y8 W.D (W.turn+1) W.size b:=⟨_,Z⟩
 have e:=beginD_ok hok (W.turn+1) W.size b;have f:=yx0 W.D (W.turn+1) W.size b;rw[<-d] at e f;have g:=Cx b.length;by_cases h0:y.2=0;rw[ckp_ok hr d h0];have a:b.length<=40000:=by rcases bC 40000 b.length with h|h;unfold Wl.refuses at hr;rw[aL h] at hr;cases hr;exact h
 have j:=xq a;have c:jo b.length<=W.size/\W.turn≠4294967295:=by unfold Wl.refuses at hr;rw[aI zk] at hr;split at hr;cases hr;by_cases ht4:W.turn=4294967295;rw[aL ht4,aL zk] at hr;cases hr;rw[aI ht4] at hr;by_cases h6:(W.size:Int)<jo b.length;rw[aL h6] at hr;cases hr;exact⟨by omega,ht4⟩
 have k:=hW.size.1;have l:=hW.turn;refine⟨e.mono zk,⟨hW.size,by show _<=y.1.secs.length;rw[f];exact hW.secs,by show W.turn+1<_;have:=c.2;omega,by simp,λx i=>?_,?_,?_,c.1⟩⟩;rw[aF.1 i];exact a;show 1<=W.size;omega;show jo b.length=jz [b];simp[jz];rw[ckp_bad hr d h0];exact⟨e.mono zk,⟨hW.size,by show _<=y.1.secs.length;rw[f];exact hW.secs,hW.turn,hW.some,hW.short,hW.few,hW.used,hW.room⟩⟩
 rw[ckp_no hr];exact⟨hok.mono zk,hW⟩
theorem readsD_ok:∀(k:Nat) {D:kj} {m:Nat} (at_:Int),D.Ok m->(yq D at_ k).1.Ok (m+k)/\(yq D at_ k).1.secs=D.secs/\(yq D at_ k).1.order=D.order/\((yq D at_ k).2.2=0->(yq D at_ k).2.1.length=k/\∀s∈(yq D at_ k).2.1,s.length=64)
 |0,D,m,at_,h=>⟨h,Z,Z,λ_=>⟨Z,λs hs=>(by cases hs)⟩⟩
 |k+1,D,m,at_,h=>by
  have h1:=h.read at_
  have a:=kj.zy D at_ false
  rw[xj0]
  split
  ·rename_i b
   exact⟨h1.mono zk,a.1,a.2,λe=>absurd e b⟩
  obtain⟨c,d,f,g⟩:=readsD_ok k (at_+1) h1
  refine⟨c.mono zk,d.trans a.1,f.trans a.2,λe=>?_⟩
  obtain⟨i,j⟩:=g e
  refine⟨by rw[aQ,i],λs hs=>?_⟩
  rcases List.mem_cons.1 hs with rfl|hs
  ·unfold kj.read
   dsimp only
   split
   ·exact zj6 (h.begin at_ false) _
   exact zeros_length
  exact j s hs
theorem lyGo_fine (t:Nat):∀(f:Nat) (area:List Bytes) (n:Nat),(∀s∈area,s.length=64)->(∀b∈lyGo t f area n,b.length<=40000)/\jz (lyGo t f area n)<=area.length
 |0,area,n,h=>⟨λb hb=>(by cases hb),aJ _⟩
 |f+1,area,n,h=>by
  unfold lyGo
  cases hl:Ca area t n with
  |none=>exact⟨λb hb=>(by cases hb),aJ _⟩
  |some b=>
   obtain⟨h1,h2,h3⟩:=liesB_some h hl
   obtain⟨c,d⟩:=lyGo_fine t f (area.drop (jo b.length)) (n+1) λs g=>h s (List.mem_of_mem_drop g)
   refine⟨λx a=>?_,?_⟩
   ·rcases List.mem_cons.1 a with rfl|a
    ·exact h1
    exact c x a
   rw[aX] at d
   have e:jz (b::lyGo t f (area.drop (jo b.length)) (n+1))=jo b.length+jz (lyGo t f (area.drop (jo b.length)) (n+1)):=by simp[jz]
   rw[e]
   omega
theorem used_few:∀(l:List Bytes),(∀b∈l,b.length<=40000)->l.length<=jz l
 | [],_=>aB _
 |a::l,h=>by
  have:=xq (h a zq)
  have e:jz (a::l)=jo a.length+jz l:=by simp[jz]
  rw[e,aQ]
  have:=used_few l λx c=>h x (by simp[c])
  omega
theorem openAt_fine {D:kj} {m t n:Nat} (hok:D.Ok m) (hn:n<=1000):(xn D t n).1.Ok (m+4000)/\(xn D t n).1.secs.length=D.secs.length/\((xn D t n).2.1=0->(xn D t n).2.2.1=t/\(xn D t n).2.2.2.1=n/\(xn D t n).2.2.2.2≠[]/\(∀b∈(xn D t n).2.2.2.2,b.length<=40000)/\jz (xn D t n).2.2.2.2<=n):=by
 obtain⟨c,d,o,i⟩:=readsD_ok n (jj t n) hok;unfold xn;dsimp only;split;rename_i f;exact⟨c.mono zk,by rw[d],λe=>absurd e f⟩
 rename_i f;obtain⟨h,j⟩:=i (aT.1 f);obtain⟨k,l⟩:=lyGo_fine t (yq D (jj t n) n).2.1.length (yq D (jj t n) n).2.1 0 j;split;exact⟨c.mono zk,by rw[d],λe=>absurd (show(140:Int)=0 from e) zd⟩
 rename_i g;have a:=cleanD_ok c ((jj t n+jz (lyingB (yq D (jj t n) n).2.1 t):Nat):Int) ((yq D (jj t n) n).2.1.drop (jz (lyingB (yq D (jj t n) n).2.1 t)));rw[aX,h] at a;exact⟨a.mono zk,by rw[cleanD_secs,d],λ_=>⟨Z,Z,g,k,al l (Nat.le_of_eq h)⟩⟩
theorem yv6 {D:kj} {m:Nat} (hok:D.Ok m):(u4 D).1.Ok (m+5000)/\(u4 D).1.secs.length=D.secs.length/\((u4 D).2.1=0->Wl.Ok (Wl.opened (u4 D))):=by
 obtain⟨⟨i,j,v⟩,b|⟨t,n,b,w,c,o⟩⟩:=newestD_spec hok;rw[openW_no b.1];exact⟨i.mono zk,by rw[j],λe=>absurd e b.2⟩
 rw[openW_yes b];obtain⟨p,q,r⟩:=openAt_fine (t:=t) i c.2.1;have a:(xn (ui D).1 t n).1.secs.length=D.secs.length:=by rw[q,j]
 refine⟨p.mono zk,a,λe=>?_⟩;obtain⟨s,d,u,k,l⟩:=r e;have f:=c.1;have g:=c.2.1;have h:=c.2.2;refine⟨?_,?_,?_,u,k,?_,Z,?_⟩;show 4<=(xn (ui D).1 t n).2.2.2.1/\(xn (ui D).1 t n).2.2.2.1<=1000;rw[d];exact⟨f,g⟩
 show 2+2*(xn (ui D).1 t n).2.2.2.1<=(xn (ui D).1 t n).1.secs.length;rw[d,a];exact h;show(xn (ui D).1 t n).2.2.1<4294967296;rw[s];exact o;show(xn (ui D).1 t n).2.2.2.2.length<=(xn (ui D).1 t n).2.2.2.1;rw[d];exact al (used_few _ k) l;show jz (xn (ui D).1 t n).2.2.2.2<=(xn (ui D).1 t n).2.2.2.1;rw[d];exact l
theorem new_calls (w:World) {n:Nat} (h:1<=n/\n<=2048):
  gn prog 22 [.int .i64 (n:Int)] w λv w'=>∃(d:Nat) (F:Nat->Prop),v= .tuple #[.pointer (some ⟨d,0,none⟩),.int .i64 0]/\At w' d F (kj.fresh n)/\(∀y,F y->w.heap.size<=y)/\Ext No w w':=
 (dk_new w (n:Int)).mono λv w' a=>by
  rw[aL zk] at a
  obtain⟨d,c,i,b,f⟩:=a
  rw[bV] at b
  exact⟨d,_,c,b,λy g=>g.elim (λe=>e.elim) λe=>e.1,f⟩
end Go.Proofs.YtpdiphfjmepijaaGreatDoor
namespace Go.Vc
theorem Own.opened {w:World} {p:Option Addr} {n c T sz:Nat} {xs:List Value} (h:Own w p n c T sz xs) (hn:0<n):∃b l,p=some ⟨b,0,none⟩/\j0 w b T l/\l.length=c*sz/\n<=c/\c<=maxLen/\l.take (n*sz)=xs:=by
 rcases h with⟨_,h,_,_⟩|⟨b,l,d,e,f,a,g,i⟩;omega;exact⟨b,l,d,e,f,a,g,i⟩
theorem Own.xx7 {w:World} {b n c T sz:Nat} {l xs:List Value} {k:Nat} {v:Value} (hl:l.length=c*sz) (hn:n<=c) (hc:c<=maxLen) (hx:l.take (n*sz)=xs) (hb:j0 w b T (l.set k v)):Own w (some ⟨b,0,none⟩) n c T sz (xs.set k v):=
 .inr ⟨b,_,Z,hb,by rw[cK,hl],hn,hc,by rw[List.take_set,hx]⟩
theorem put_take {l:List Value} {k m:Nat}:∀{vs:List Value},k+vs.length<=m->(put l k vs).take m=put (l.take m) k vs:=by
 intro vs;induction vs generalizing l k with
 |nil=>intro _;rfl
 |cons v r ih=>
  intro h;simp only[put,aQ] at*;rw[ih zk,List.take_set]
theorem Own.putB {w:World} {b n c T sz:Nat} {l xs:List Value} {k:Nat} {vs:List Value} (hl:l.length=c*sz) (hn:n<=c) (hc:c<=maxLen) (hx:l.take (n*sz)=xs) (hk:k+vs.length<=n*sz) (hb:j0 w b T (put l k vs)):Own w (some ⟨b,0,none⟩) n c T sz (put xs k vs):=
 .inr ⟨b,_,Z,hb,by rw[vz,hl],hn,hc,by rw[put_take hk,hx]⟩
theorem xw0 {α:Type} {f:α->List Value} {n:Nat} {l:List α} (hn:∀x∈l,(f x).length=n) {i j:Nat} (hi:i<l.length) (hj:j<n) {v:Value} {y:α} (hy:f y=(f l[i]).set j v):(l.flatMap f).set (i*n+j) v=(l.set i y).flatMap f:=by
 have h:=zw1 (Uni.map hn) (i:=i) (j:=j) (r:=f l[i]) (by rw[bS,aG hi];rfl) [v] ze;rw[dD,dD,List.map_set,hy];exact h
def upto {α : Type} (g : α -> α) (i : Nat) (l : List α) : List α := (l.take i).map g ++ l.drop i
theorem upto_zero {α : Type} (g : α -> α) (l : List α) : upto g 0 l = l := by simp [upto]
theorem xv3 {α : Type} (g : α -> α) (i : Nat) (l : List α) : (upto g i l).length = l.length := by simp [upto]; omega
theorem upto_all {α:Type} {g:α->α} {i:Nat} {l:List α} (h:l.length<=i):upto g i l=l.map g:=by
 simp[upto,aN h,aW h]
theorem upto_get {α:Type} {g:α->α} {i:Nat} {l:List α} (h:i<l.length):(upto g i l)[i]'(by rw[xv3];exact h)=l[i]:=by
 have e:((l.take i).map g).length=i:=by simp;omega
 simp only[upto];rw[List.getElem_append_right (by rw[e];exact aB _)];rw[List.getElem_drop];congr 1;omega
theorem upto_step {α:Type} {g:α->α} {i:Nat} {l:List α} (h:i<l.length):(upto g i l).set i (g l[i])=upto g (i+1) l:=by
 have e:((l.take i).map g).length=i:=by simp;omega
 simp only[upto];rw[List.set_append,aI zk,e,Nat.sub_self,cB h,List.set_cons_zero,aO h,bU,aM];rfl
theorem upto_mem {α:Type} {g:α->α} {i:Nat} {l:List α} {p:α->Prop} (h:∀x∈l,p x) (hg:∀x,p x->p (g x)):∀x∈upto g i l,p x:=λx a=>by
 simp only[upto,aS,aZ] at a
 rcases a with⟨y,b,rfl⟩|a
 ·exact hg y (h y (bK b))
 exact h x (List.mem_of_mem_drop a)
theorem strU_cut (l:Str) (n:Nat):(vw l).extract 0 (min (vw l).size n)=vw (l.take n):=by
 apply ByteArray.ext;show((vw l).extract 0 (min (vw l).size n)).data=(l.take n).toArray;rw[ByteArray.data_extract,strU_size];show l.toArray.extract 0 (min l.length n)=_;rw[List.extract_toArray];congr 1;simp only[List.extract,bB,List.drop_zero];rw[List.take_eq_take_iff];omega
theorem minI (n k : Nat) : (if (k : Int) < (n : Int) then (k : Int) else (n : Int)) = ((min n k : Nat) : Int) := by split <;> omega
theorem cutBds (n k:Nat):Bds.Is ⟨none,some (if(k:Int)<(n:Int) then(k:Int) else(n:Int)),none⟩ n n 0 (min n k) n:=
 ⟨.inr ⟨Z,Z⟩,.inl (congrArg some (minI n k)),.inr ⟨Z,Z⟩,aJ _,by omega,aB _⟩
theorem D6 {α : Type} (l : List α) (k : Nat) : min l.length k = (l.take k).length := by simp [Nat.min_comm]
theorem Sl.cut {α:Type} {w:World} {p:Option Addr} {f:α->List Value} {n:Nat} {l:List α} (h:Sl w p l.length n (l.flatMap f)) (hn:∀x∈l,(f x).length=n) (k:Nat):Sl w p (l.take k).length n ((l.take k).flatMap f):=by
 have a:=h.slice 0 (min l.length k) (min l.length k) (aJ _) (aB _) zk;have e:((l.flatMap f).drop (0*n)).take ((min l.length k-0)*n)=(l.take k).flatMap f:=by rw[dA,List.drop_zero,bB,dD,dD,rows_take (Uni.map hn),<-List.map_take];congr 2;rw[List.take_eq_take_iff];omega
 rw[e,qe,bB,D6] at a;exact a
abbrev B7 := List UInt8
def idLt (a b : B7) : Prop := Op.bytesLess a b = true
instance (a b : B7) : Decidable (idLt a b) := inferInstanceAs (Decidable (_ = true))
theorem idLt_irrefl (a : B7) : ¬ idLt a a := λh => bl_asymm a a h h
theorem bl_trans:∀(x y z:List UInt8),Op.bytesLess x y=true->Op.bytesLess y z=true->Op.bytesLess x z=true
 | [],[],_,h,_=>by cases h
 | [],_::_,[],_,h=>by cases h
 | [],_::_,_::_,_,_=>rfl
 |_::_,[],_,h,_=>by cases h
 |_::_,_::_,[],_,h=>by cases h
 |a::x,b::y,c::z,h,k=>by
  simp only[Op.bytesLess,Bool.or_eq_true,bY,bD,beq_iff_eq] at h k|-
  rcases h with h|⟨rfl,h⟩
  ·rcases k with k|⟨rfl,k⟩
   ·exact .inl (UInt8.lt_trans h k)
   exact .inl h
  rcases k with k|⟨rfl,k⟩
  ·exact .inl k
  exact .inr ⟨Z,bl_trans x y z h k⟩
def Rise (l : List B7) : Prop := l.Pairwise idLt
theorem rise_nodup {l:List B7} (h:Rise l):l.Nodup:=List.Pairwise.imp (λ{a b} (c:idLt a b) (e:a=b)=>idLt_irrefl b (e▸c)) h
open Classical in
structure A4 where
  name : Str
  was : Bool
  is : Bool
  old : Bytes
  new : Bytes
  deriving DecidableEq
structure Ap where
  objs : List jm
  sets : List A4
  deriving DecidableEq
abbrev Am := Str × Bytes
structure Ax where
  row : List jm
  vals : List Am
def SideOk (is : Bool) (b : Bytes) : Prop := b.length <= 4096 /\ (is = true \/ b.length = 0)
instance (i : Bool) (b : Bytes) : Decidable (SideOk i b) := inferInstanceAs (Decidable (_ /\ _))
def SetOk (s : A4) : Prop := s.name ≠ [] /\ s.name.length <= 32 /\ SideOk s.was s.old /\ SideOk s.is s.new
instance (s : A4) : Decidable (SetOk s) := inferInstanceAs (Decidable (_ /\ _))
def xq8 (l : List A4) : Prop := (∀ s ∈ l, SetOk s) /\ (l.map A4.name).Nodup
instance (l : List A4) : Decidable (xq8 l) := inferInstanceAs (Decidable (_ /\ _))
def Bx (b : Ap) : Prop := b.objs.length <= 4096 /\ b.sets.length <= 128 /\ (∀ o ∈ b.objs, yv o) /\ xq8 b.sets
instance (b : Ap) : Decidable (Bx b) := inferInstanceAs (Decidable (_ /\ _))
def sideB (is : Bool) (b : Bytes) : Bytes := [isB is] ++ vj 2 b
def xx7 (s : A4) : Bytes := vj 1 s.name ++ sideB s.was s.old ++ sideB s.is s.new
def zv2 (l : List jm) : Bytes := l.flatMap λo => vj 2 (laidB o)
def uo (b : Ap) : Bytes := be 2 b.objs.length ++ zv2 b.objs ++ be 1 b.sets.length ++ b.sets.flatMap xx7
def Ds.side (s : Ds) : (Bool × Bytes) × Ds := ((decide (0 < num (s.off 1).1), ((s.off 1).2.str 2).1), ((s.off 1).2.str 2).2)
def Ds.set (s : Ds) : A4 × Ds :=
  let n := s.str 1
  let o := n.2.side
  let p := o.2.side
  (⟨n.1, o.1.1, p.1.1, o.1.2, p.1.2⟩, p.2)
abbrev xw1 : Ap := ⟨[], []⟩
def rawB (b : Bytes) : (List Bytes × List A4) × Ds :=
  let n := (⟨b, false⟩ : Ds).off 2
  let os := Ds.each (λs => s.str 2) (num n.1) n.2
  let m := os.2.off 1
  let ss := Ds.each Ds.set (num m.1) m.2
  ((os.1, ss.1), ss.2)
def batOf (x : List Bytes × List A4) : Ap := ⟨x.1.map λy => (ye y).1, x.2⟩
def xd (b : Bytes) : Ap × Int :=
  if (rawB b).2.bad then (xw1, 7)
  else if (∀ y ∈ (rawB b).1.1, (ye y).2 = 0) /\ Bx (batOf (rawB b).1) /\ uo (batOf (rawB b).1) = b then (batOf (rawB b).1, 0)
  else (xw1, 2)
def qi (l : List jm) : List B7 := l.map vv
def brO (s : Option (List jm × List jm)) (o : jm) : Option (List jm × List jm) :=
  s.bind λp => if vv o ∈ qi p.1 then some p else if ∀ x ∈ qd o, x ∈ qi p.1 then some (p.1 ++ [o], p.2 ++ [o]) else none
def yx (row l : List jm) : Option (List jm × List jm) := l.foldl brO (some (row, []))
def zx2 (l : List Am) (n : Str) : Option Bytes := (l.find? λv => decide (v.1 = n)).map (·.2)
def FitD (l : List Am) (s : A4) : Prop := zx2 l s.name = if s.was then some s.old else none
instance (l : List Am) (s : A4) : Decidable (FitD l s) := inferInstanceAs (Decidable (_ = _))
abbrev nLt (a b : Str) : Prop := SLt (vw a) (vw b)
def xx8 (l : List Am) (s : A4) : List Am :=
  (l.filter λv => decide (nLt v.1 s.name)) ++ (if s.is then [(s.name, s.new)] else []) ++ l.filter λv => decide (nLt s.name v.1)
def seS (v : Option (List Am)) (s : A4) : Option (List Am) := v.bind λl => if FitD l s then some (xx8 l s) else none
def Bs (l : List Am) (ss : List A4) : Option (List Am) := ss.foldl seS (some l)
def jp (s : Ax) (b : Ap) : Ax × Ap × Int := match yx s.row b.objs with
  | none => (s, xw1, 4)
  | some p => match Bs s.vals b.sets with
    | none => (s, xw1, 200)
    | some v => if 128 < v.length then (s, xw1, 6) else (⟨p.1, v⟩, ⟨p.2, b.sets⟩, 0)
def A7 (s : Ax) : Ap := ⟨s.row, s.vals.map λv => ⟨v.1, false, true, [], v.2⟩⟩
def uy (s : Ax) (b : Bytes) : Option Ax :=
  if (xd b).2 = 0 /\ (jp s (xd b).1).2.2 = 0 /\ (jp s (xd b).1).2.1.objs.length = (xd b).1.objs.length then some (jp s (xd b).1).1 else none
abbrev zz4 : Ax := ⟨[], []⟩
def xe (b : Bytes) : Option Ax := if b = [] then some zz4 else (uy zz4 b).bind λs => if uo (A7 s) = b then some s else none
def Dh (ps : List Bytes) : Option Ax := match ps with
  | [] => none
  | b :: l => l.foldl (λs x => s.bind λs => uy s x) (xe b)
structure Sd where
  W : Wl
  s : Ax
def C0 (x : Sd) (next : Ax) : Sd × Int :=
  if 4096 < next.row.length \/ 40000 < (uo (A7 next)).length then (x, 6)
  else (⟨(x.W.ji (uo (A7 next))).1, if (x.W.ji (uo (A7 next))).2 = 0 then next else x.s⟩, (x.W.ji (uo (A7 next))).2)
def zz0 (x : Sd) (a : Ax) (row : Bytes) : Sd × Int :=
  if row.length <= 40000 /\ (jo row.length : Int) <= (x.W.size : Int) - x.W.used then (⟨(x.W.append row).1, if (x.W.append row).2 = 0 then a else x.s⟩, (x.W.append row).2) else C0 x a
def vi (x : Sd) (b : Ap) : Sd × Int :=
  if x.W.broken = true then (x, 8) else if ¬ Bx b then (x, 2)
  else if (jp x.s b).2.2 ≠ 0 \/ ((jp x.s b).2.1.objs = [] /\ (jp x.s b).2.1.sets = []) then (x, (jp x.s b).2.2)
  else zz0 x (jp x.s b).1 (uo (jp x.s b).2.1)
inductive yw3 (row : List jm) (roots : List B7) : B7 -> Prop
  | root {x : B7} : x ∈ roots -> yw3 row roots x
  | on {o : jm} {x : B7} : o ∈ row -> yw3 row roots (vv o) -> x ∈ qd o -> yw3 row roots x
open Classical in
noncomputable def Dj (s : Ax) (roots : List B7) : Ax := ⟨s.row.filter λo => decide (yw3 s.row roots (vv o)), s.vals⟩
noncomputable def B4 (x : Sd) (roots : List B7) : Sd × Int × Int :=
  if x.W.broken = true then (x, 0, 8) else if ¬ ∀ r ∈ roots, r ∈ qi x.s.row then (x, 0, 4)
  else ((C0 x (Dj x.s roots)).1, if (C0 x (Dj x.s roots)).2 = 0 then (x.s.row.length : Int) - (Dj x.s roots).row.length else 0, (C0 x (Dj x.s roots)).2)
def Cs (D : kj) : kj × Int × Option Sd :=
  if (u4 D).2.1 ≠ 0 then ((u4 D).1, (u4 D).2.1, none) else match Dh (Wl.opened (u4 D)).pieces with
  | none => ((u4 D).1, 201, none)
  | some s => ((u4 D).1, 0, some ⟨Wl.opened (u4 D), s⟩)
def Ai (l : List Am) : Prop := l.Pairwise λa b => nLt a.1 b.1
def Ahead : List jm -> List jm -> Prop
  | _, [] => True
  | before, o :: r => (vv o ∉ qi before /\ ∀ x ∈ qd o, x ∈ qi before) /\ Ahead (before ++ [o]) r
structure Ax.Ok (s : Ax) : Prop where
  objs : ∀ o ∈ s.row, yv o
  ahead : Ahead [] s.row
  rise : Ai s.vals
  vals : ∀ v ∈ s.vals, v.1 ≠ [] /\ v.1.length <= 32 /\ v.2.length <= 4096
  few : s.vals.length <= 128
theorem xq2 (a : Str) : ¬ nLt a a := λh => bl_asymm a a h h
theorem zz8 {a b : Str} (h : nLt a b) : ¬ nLt b a := λk => bl_asymm a b h k
theorem nLt_trans {a b c : Str} (h : nLt a b) (k : nLt b c) : nLt a c := bl_trans a b c h k
theorem nLt_total (a b:Str):nLt a b\/a=b\/nLt b a:=by
 rcases bl_total a b with(h|h)|h;exact .inl h;exact .inr (.inl h);exact .inr (.inr h)
theorem nLt_ne {a b : Str} (h : nLt a b) : a ≠ b := λe => xq2 b (e ▸ h)
theorem Dv {α β:Type} {f:β->α->β} {b:β} {l:List α} {i:Nat} (hi:i<l.length):(l.take (i+1)).foldl f b=f ((l.take i).foldl f b) l[i]:=by
 rw[aO hi,List.foldl_append];rfl
theorem Bj {α β:Type} {f:Option β->α->Option β} (hf:∀x,f none x=none):∀l:List α,l.foldl f none=none
 | []=>rfl
 |x::r=>by rw[List.foldl_cons,hf,Bj hf r]
theorem foldl_stop {α β:Type} {f:Option β->α->Option β} (hf:∀x,f none x=none) {b:Option β} {l:List α} {i:Nat} (hi:i<l.length) (h:f ((l.take i).foldl f b) l[i]=none):l.foldl f b=none:=by
 rw[<-cP (i+1) l,List.foldl_append,Dv hi,h,Bj hf]
theorem brO_none (o : jm) : brO none o = none := rfl
theorem seS_none (s : A4) : seS none s = none := rfl
theorem idsOf_snoc (l : List jm) (o : jm) : qi (l ++ [o]) = qi l ++ [vv o] := by rw [qi, bU]; rfl
theorem Ahead.snoc {o:jm}:∀{b l:List jm},Ahead b l->(vv o∉qi (b++l)/\∀x∈qd o,x∈qi (b++l))->Ahead b (l++[o])
 |b,[],_,h=>by rw[bE] at h;exact⟨h,trivial⟩
 |b,y::r,h,k=>⟨h.1,Ahead.snoc h.2 (by rw[aM];exact k)⟩
theorem bringO_all:∀(l row:List jm) (fresh:List jm) {row' fresh':List jm},Ahead [] row->l.foldl brO (some (row,fresh))=some (row',fresh')->
  Ahead [] row'/\(∃m,row'=row++m/\fresh'=fresh++m/\m.Sublist l)
 | [],row,fresh,row',fresh',ha,h=>by cases h;exact⟨ha,[],by simp,by simp,.slnil⟩
 |o::l,row,fresh,row',fresh',ha,h=>by
  rw[List.foldl_cons] at h
  by_cases h1:vv o∈qi row
  ·rw[show brO (some (row,fresh)) o=some (row,fresh) from by simp[brO,h1]] at h
   obtain⟨h2,m,e1,e2,e3⟩:=bringO_all l row fresh ha h
   exact⟨h2,m,e1,e2,e3.cons _⟩
  by_cases h2:∀x∈qd o,x∈qi row
  ·rw[show brO (some (row,fresh)) o=some (row++[o],fresh++[o]) from by simp only[brO,Option.bind_some,aI h1,aL h2]] at h
   obtain⟨a,m,e1,e2,e3⟩:=bringO_all l _ _ (ha.snoc (by rw[bI];exact⟨h1,h2⟩)) h
   exact⟨a,o::m,by rw[e1,aM];rfl,by rw[e2,aM];rfl,e3.cons_cons _⟩
  rw[show brO (some (row,fresh)) o=none from by simp only[brO,Option.bind_some,aI h1,aI h2],Bj brO_none] at h
  cases h
theorem find_split {l A B:List Am} {n:Str} (hr:Ai l) (e:l=A++B) (hA:∀v∈A,nLt v.1 n) (hB:∀v,B.head? =some v->¬nLt v.1 n):
  (l.filter λv=>decide (nLt v.1 n))=A/\((∃x r,B=(n,x)::r/\(l.filter λv=>decide (nLt n v.1))=r/\zx2 l n=some x)\/
   ((∀v,B.head? =some v->v.1≠n)/\(l.filter λv=>decide (nLt n v.1))=B/\zx2 l n=none)):=by
 subst e;obtain⟨_,k,_⟩:=List.pairwise_append.1 hr;have i:(A.filter λv=>decide (nLt v.1 n))=A:=List.filter_eq_self.2 λv a=>by simpa using hA v a
 have c:(A.filter λv=>decide (nLt n v.1))=[]:=List.filter_eq_nil_iff.2 λv a=>by simpa using zz8 (hA v a)
 have d:A.find? (λv=>decide (v.1=n))=none:=List.find?_eq_none.2 λv a=>by simpa using nLt_ne (hA v a)
 cases B with
 |nil=>exact⟨by rw[bE,i],.inr ⟨λv a=>(by cases a),by rw[bE,c],by rw[zx2,bE,d];rfl⟩⟩
 |cons b r=>
  obtain⟨q,_⟩:=List.pairwise_cons.1 k;have f:=hB b Z;have g:∀v∈r,nLt n v.1:=λv a=>by rcases nLt_total b.1 n with h|h|h;exact absurd h f;rw[<-h];exact q v a;exact nLt_trans h (q v a)
  have m:(r.filter λv=>decide (nLt v.1 n))=[]:=List.filter_eq_nil_iff.2 λv a=>by simpa using zz8 (g v a)
  have j:(r.filter λv=>decide (nLt n v.1))=r:=List.filter_eq_self.2 λv a=>by simpa using g v a
  have o:r.find? (λv=>decide (v.1=n))=none:=List.find?_eq_none.2 λv a=>by simpa using(nLt_ne (g v a)).symm
  refine⟨by rw[List.filter_append,i,List.filter_cons_of_neg (by simpa using f),m,bE],?_⟩;by_cases hbe:b.1=n;refine .inl ⟨b.2,r,by rw[<-hbe],?_,?_⟩;rw[List.filter_append,c,List.filter_cons_of_neg (by rw[hbe];simpa using xq2 n),j,bI];rw[zx2,List.find?_append,d,Option.none_or,List.find?_cons_of_pos (by simpa using hbe)];rfl;have p:nLt n b.1:=by rcases nLt_total b.1 n with h|h|h;exact absurd h f;exact absurd h hbe;exact h
  refine .inr ⟨λv a=>by cases a;exact hbe,?_,?_⟩;rw[List.filter_append,c,List.filter_cons_of_pos (by simpa using p),j,bI];rw[zx2,List.find?_append,d,Option.none_or,List.find?_cons_of_neg (by simpa using hbe),o];rfl
theorem putV_mem {l:List Am} {s:A4} {v:Am} (h:v∈xx8 l s):v∈l\/s.is=true/\v=(s.name,s.new):=by
 unfold xx8 at h;rcases aS.1 h with h|h;rcases aS.1 h with h|h;exact .inl (List.mem_filter.1 h).1;split at h;rename_i a;exact .inr ⟨a,by simpa using h⟩;cases h;exact .inl (List.mem_filter.1 h).1
theorem putV_rise {l:List Am} {s:A4} (h:Ai l):Ai (xx8 l s):=by
 unfold xx8 Ai;refine List.pairwise_append.2 ⟨List.pairwise_append.2 ⟨h.filter _,?_,λa c b d=>?_⟩,h.filter _,λa c b d=>?_⟩;split;exact List.pairwise_singleton _ _;exact .nil;have f:=(List.mem_filter.1 c).2;split at d;rw[aF.1 d];simpa using f;cases d;have e:nLt s.name b.1:=by simpa using(List.mem_filter.1 d).2
 rcases aS.1 c with c|c;exact nLt_trans (by simpa using(List.mem_filter.1 c).2) e;split at c;rw[aF.1 c];exact e;cases c
theorem filters_le (n:Str):∀l:List Am,(l.filter λv=>decide (nLt v.1 n)).length+(l.filter λv=>decide (nLt n v.1)).length<=l.length
 | []=>aB _
 |v::r=>by
  have:=filters_le n r
  by_cases h:nLt v.1 n
  ·rw[List.filter_cons_of_pos (by simpa using h),List.filter_cons_of_neg (by simpa using zz8 h),aQ,aQ];omega
  by_cases k:nLt n v.1
  ·rw[List.filter_cons_of_neg (by simpa using h),List.filter_cons_of_pos (by simpa using k),aQ,aQ];omega
  rw[List.filter_cons_of_neg (by simpa using h),List.filter_cons_of_neg (by simpa using k),aQ];omega
theorem putV_len (l:List Am) (s:A4):(xx8 l s).length<=l.length+1:=by
 have:=filters_le s.name l;unfold xx8;rw[ao,ao];split<;>simp only[aQ,cL]<;>omega
theorem xv1 {p q:Am->Bool}:∀{l:List Am},(∀v∈l,p v=true->q v=true)->(l.filter q).find? p=l.find? p
 | [],_=>rfl
 |v::r,h=>by
  have ih:=xv1 (p:=p) (q:=q) (l:=r) λu a=>h u (cM _ a)
  by_cases hp:p v=true
  ·rw[List.filter_cons_of_pos (h v dl hp),List.find?_cons_of_pos hp,List.find?_cons_of_pos hp]
  rw[List.find?_cons_of_neg hp]
  by_cases hq:q v=true
  ·rw[List.filter_cons_of_pos hq,List.find?_cons_of_neg hp,ih]
  rw[List.filter_cons_of_neg hq,ih]
theorem valN_put {l:List Am} {s:A4} {m:Str} (hm:m≠s.name):zx2 (xx8 l s) m=zx2 l m:=by
 unfold zx2 xx8;congr 1;have b:(if s.is then [(s.name,s.new)] else []:List Am).find? (λv=>decide (v.1=m))=none:=by split;rw[List.find?_cons_of_neg (by simpa using hm.symm)];rfl;rfl
 rw[List.find?_append,List.find?_append,b,Option.or_none];rcases nLt_total m s.name with h|h|h;rw[xv1 (λv _ a=>by simp only[bD] at a|-;rw[a];exact h)]
 have d:(l.filter λv=>decide (nLt s.name v.1)).find? (λv=>decide (v.1=m))=none:=List.find?_eq_none.2 λv a=>by
  have c:nLt s.name v.1:=by simpa using(List.mem_filter.1 a).2
  simp only[bD];intro e;rw[e] at c;exact zz8 h c
 rw[d,Option.or_none];exact absurd h hm
 have d:(l.filter λv=>decide (nLt v.1 s.name)).find? (λv=>decide (v.1=m))=none:=List.find?_eq_none.2 λv a=>by
  have c:nLt v.1 s.name:=by simpa using(List.mem_filter.1 a).2
  simp only[bD];intro e;rw[e] at c;exact zz8 h c
 rw[d,Option.none_or,xv1 (λv _ a=>by simp only[bD] at a|-;rw[a];exact h)]
theorem xj6:∀(ss:List A4) {l l':List Am},ss.foldl seS (some l)=some l'->Ai l->
  Ai l'/\l'.length<=l.length+ss.length/\(∀v∈l',v∈l\/∃s∈ss,s.is=true/\v=(s.name,s.new))/\∀m,m∉ss.map A4.name->zx2 l' m=zx2 l m
 | [],l,l',h,hr=>by cases h;exact⟨hr,by simp,λv hv=> .inl hv,λ_ _=>rfl⟩
 |s::r,l,l',h,hr=>by
  rw[List.foldl_cons] at h
  by_cases hf:FitD l s
  ·rw[show seS (some l) s=some (xx8 l s) from by simp only[seS,Option.bind_some,aL hf]] at h
   obtain⟨h1,h2,h3,h4⟩:=xj6 r h (putV_rise hr)
   refine⟨h1,?_,λv hv=>?_,λm b=>?_⟩
   ·have:=putV_len l s
    rw[aQ];omega
   ·rcases h3 v hv with h|⟨t,c,e⟩
    ·rcases putV_mem h with h|h
     ·exact .inl h
     exact .inr ⟨s,dl,h⟩
    exact .inr ⟨t,cM _ c,e⟩
   rw[dI,List.mem_cons,not_or] at b
   rw[h4 m b.2,valN_put b.1]
  rw[show seS (some l) s=none from by simp only[seS,Option.bind_some,aI hf],Bj seS_none] at h
  cases h
theorem yv1 : Ax.Ok zz4 := ⟨λ_ h => (by cases h), trivial, List.Pairwise.nil, λ_ h => (by cases h), aJ _⟩
theorem xq1 {s:Ax} {b:Ap} (h:(jp s b).2.2=0):∃p v,yx s.row b.objs=some p/\Bs s.vals b.sets=some v/\v.length<=128/\jp s b=(⟨p.1,v⟩,⟨p.2,b.sets⟩,0):=by
 unfold jp at h|-;cases h1:yx s.row b.objs with
 |none=>rw[h1] at h;cases h
 |some p=>
  rw[h1] at h;cases h2:Bs s.vals b.sets with
  |none=>rw[h2] at h;cases h
  |some v=>
   rw[h2] at h;dsimp only at h|-;split at h;cases h;rename_i a;exact⟨p,v,Z,Z,by omega,by rw[aI a]⟩
theorem yv5 {s:Ax} {b:Ap} (h:(jp s b).2.2≠0):(jp s b).1=s/\(jp s b).2.1=xw1:=by
 unfold jp at h|-;split;exact⟨Z,Z⟩
 rename_i p a;rw[a] at h;dsimp only at h|-;split;exact⟨Z,Z⟩
 rename_i v c;rw[c] at h;dsimp only at h|-;split;exact⟨Z,Z⟩
 rename_i d;rw[aI d] at h;exact absurd Z h
theorem xv4 {s:Ax} {b:Ap} (hs:s.Ok) (hb:Bx b):(jp s b).1.Ok/\(jp s b).1.row.length<=s.row.length+b.objs.length:=by
 by_cases h0:(jp s b).2.2=0;obtain⟨p,v,f,g,i,e⟩:=xq1 h0;rw[e];obtain⟨j,m,c,y,d⟩:=bringO_all b.objs s.row [] hs.ahead f;obtain⟨k,z,l,_⟩:=xj6 b.sets g hs.rise;refine⟨⟨λo a=>?_,j,k,λx n=>?_,i⟩,by dsimp only;rw[c,ao];have:=d.length_le;omega⟩;dsimp only at a;rw[c] at a;rcases aS.1 a with a|a;exact hs.objs o a;exact hb.2.2.1 o (d.subset a);rcases l x n with h|⟨t,q,h,e⟩;exact hs.vals x h;obtain⟨r,u,_,w⟩:=hb.2.2.2.1 t q;rw[e];exact⟨r,u,w.1⟩
 rw[(yv5 h0).1];exact⟨hs,Nat.le_add_right _ _⟩
theorem fresh_may {s:Ax} {b:Ap} (hb:Bx b):Bx (jp s b).2.1:=by
 by_cases h0:(jp s b).2.2=0;obtain⟨p,v,i,j,t,e⟩:=xq1 h0;rw[e]
 have k:∀(l d a:List jm) (f c:List jm),l.foldl brO (some (d,a))=some (f,c)->∃m,c=a++m/\m.Sublist l:=by
  intro l;induction l with
  |nil=>intro d a f c h;cases h;exact⟨[],by simp,.slnil⟩
  |cons o l ih=>
   intro d a f c h;rw[List.foldl_cons] at h;by_cases i:vv o∈qi d;rw[show brO (some (d,a)) o=some (d,a) from by simp[brO,i]] at h;obtain⟨m,g,n⟩:=ih d a _ _ h;exact⟨m,g,n.cons _⟩
   by_cases j:∀x∈qd o,x∈qi d;rw[show brO (some (d,a)) o=some (d++[o],a++[o]) from by simp only[brO,Option.bind_some,aI i,aL j]] at h;obtain⟨m,g,n⟩:=ih _ _ _ _ h;exact⟨o::m,by rw[g,aM];rfl,n.cons_cons _⟩
   rw[show brO (some (d,a)) o=none from by simp only[brO,Option.bind_some,aI i,aI j],Bj brO_none] at h;cases h
 obtain⟨m,g,q⟩:=k b.objs s.row [] p.1 p.2 i;rw[bI] at g;rw[g];exact⟨al q.length_le hb.1,hb.2.1,λo r=>hb.2.2.1 o (q.subset r),hb.2.2.2⟩
 rw[(yv5 h0).2];exact⟨aJ _,aJ _,λ_ h=>(by cases h),λ_ h=>(by cases h),List.Pairwise.nil⟩
section
variable {P : Program} {I : uh} {f : Fs} {ops : Array Oper} {o : Oper} {env : Env} {w : World} {K : Env -> World -> Prop}
end
end Go.Vc
namespace Go.Proofs.YtpdiphfjmepijaaGreatDoor
open Go.Proofs.Tryz
open Go.Vc
theorem Da:∀(n k:Nat),k<256^n->num (be n k)=k
 |0,k,h=>by
  have:k=0:=by simpa using h
  subst this;rfl
 |n+1,k,h=>by
  rw[be,num_snoc,Da n (k/256) (by rw[Nat.pow_succ] at h;omega),UInt8.toNat_ofNat']
  omega
abbrev dS (l : List UInt8) : Ds := ⟨l, false⟩
theorem Cb {l r:List UInt8} {n:Nat} (h:l.length=n):(dS (l++r)).off n=(l,dS r):=by
 have:¬((dS (l++r)).bad=true\/(dS (l++r)).rest.length<n):=by rintro(a|a);cases a;rw[ao] at a;omega
 rw[Ds.off,aI this];show((l++r).take n,(⟨(l++r).drop n,false⟩:Ds))=_;rw[dC h,List.drop_left' h]
theorem zw8 {s:Str} {r:List UInt8} {n:Nat} (h:s.length<256^n):(dS (vj n s++r)).str n=(s,dS r):=by
 rw[vj,aM,Ds.str,Cb (ka n _)];show(dS (s++r)).off (num (be n s.length))=_;rw[Da n _ h,Cb Z]
theorem id_app {x r : List UInt8} (h : x.length = 32) : (dS (x ++ r)).id = (x, dS r) := by
  rw [Ds.id, Cb h, h]
  simp
theorem each_app {α:Type} {f:Ds->α×Ds} {e:α->List UInt8}:∀{l:List α} {r:List UInt8},(∀x∈l,∀r,f (dS (e x++r))=(x,dS r))->Ds.each f l.length (dS (l.flatMap e++r))=(l,dS r)
 | [],r,_=>rfl
 |x::l,r,h=>by
  rw[aQ,Ds.each_step Z,cX,aM,h x dl,each_app λy hy=>h y (cM _ hy)]
theorem row_app {α:Type} {f:Ds->α×Ds} {e:α->List UInt8} {l:List α} {r:List UInt8} (hl:l.length<256) (h:∀x∈l,∀r,f (dS (e x++r))=(x,dS r)):(dS (be 1 l.length++(l.flatMap e++r))).row f=(l,dS r):=by
 rw[Ds.row,Cb (ka 1 _),Da 1 _ zk];exact each_app h
theorem leaf_app {x:jn} (hp:x.path.length<256) (hi:x.id.length=32) (r:List UInt8):(dS (Cq x++r)).leaf=(x,dS r):=by
 rw[Cq,aM,Ds.leaf,zw8 zk,id_app hi]
theorem is_app (b : Bool) : num [isB b] = if b then 1 else 0 := by cases b <;> rfl
theorem chg_app {x:vb} (hp:x.path.length<256) (ht:x.text.length<65536) (r:List UInt8):(dS (Dk x++r)).chg=(x,dS r):=by
 have a:(dS ([isB x.is]++(vj 2 x.text++r))).off 1=([isB x.is],dS (vj 2 x.text++r)):=Cb Z;rw[Dk,aM,aM,Ds.chg,zw8 zk,a,zw8 zk,is_app];obtain⟨p,b,t⟩:=x;cases b<;>rfl
theorem flatten_flat (l : List (List UInt8)) : l.flatten = l.flatMap id := by rw [dD, List.map_id]
theorem com_app {o:jm} (h:ub o) (hc:ComOk o) (hk:o.kind=3):(dS (comB o)).com=(o,dS []):=by
 obtain⟨D,d⟩:=edit_at hc.2.2.2.1;obtain⟨g,b⟩:=styled_at hc.2.2.2.2;have i:=hc.2.2.1;have j:o.style.toNat<256:=by rcases hc.2.2.2.2.2.2 with h|h|h<;>rw[h.1]<;>decide
 have c:(o.style.toNat:Int)=o.style:=Int.toNat_of_nonneg b;have e:comB o=be 1 o.style.toNat++(o.tree++(be 1 o.parents.length++(o.parents.flatMap id++(o.base++(be 1 o.rows.length++(o.rows.flatMap Dk++(be 4 o.number++(be 4 o.author++(vj 1 o.note++[]))))))))):=by simp only[comB,aM,bE,flatten_flat]
 rw[e,Ds.com];have m:=Cb (r:=o.tree++(be 1 o.parents.length++(o.parents.flatMap id++(o.base++(be 1 o.rows.length++(o.rows.flatMap Dk++(be 4 o.number++(be 4 o.author++(vj 1 o.note++[]))))))))) (ka 1 o.style.toNat);have p:=id_app (r:=be 1 o.parents.length++(o.parents.flatMap id++(o.base++(be 1 o.rows.length++(o.rows.flatMap Dk++(be 4 o.number++(be 4 o.author++(vj 1 o.note++[])))))))) h.tree;have q:=row_app (f:=Ds.id) (e:=id) (l:=o.parents) (r:=o.base++(be 1 o.rows.length++(o.rows.flatMap Dk++(be 4 o.number++(be 4 o.author++(vj 1 o.note++[])))))) zk (λx a r=>id_app (h.parents x a));have s:=id_app (r:=be 1 o.rows.length++(o.rows.flatMap Dk++(be 4 o.number++(be 4 o.author++(vj 1 o.note++[]))))) h.base;have t:=row_app (f:=Ds.chg) (e:=Dk) (l:=o.rows) (r:=be 4 o.number++(be 4 o.author++(vj 1 o.note++[]))) zk (λx a r=>chg_app (by have:=(d x a).1;omega) (by have:=(d x a).2;omega) r);have u:=Cb (r:=be 4 o.author++(vj 1 o.note++[])) (ka 4 o.number);have v:=Cb (r:=vj 1 o.note++[]) (ka 4 o.author);have w:=zw8 (n:=1) (r:=[]) (show o.note.length<256^1 by omega);rw[m];rw[p];rw[q];rw[s];rw[t];rw[u];rw[v];rw[w,Da 1 _ zk,Da 4 _ (by have:=h.number;omega),Da 4 _ (by have:=h.author;omega),c];obtain⟨k,y,z,E,F,G,H,J,K,L,M⟩:=o;have A:y=[]:=hc.1;have B:z=[]:=aU hc.2.1;have C:k=3:=hk;subst A;subst B;subst C;rfl
theorem blob_eq {o:jm} (hk:o.kind=1) (h:BlobOk o):o=blobO o.text:=by
 have:=(blob_zero.1 h).2;obtain⟨k,m,n,p,q,r,s,t,u,v,w⟩:=o;have a:k=1:=hk;subst a;simp only[x1,jm.mk.injEq,true_and] at this;obtain⟨b,c,d,e,f,g,i,j,l⟩:=this;simp only[blobO,x1,b,c,d,e,f,g,i,j,l]
theorem tree_eq {o:jm} (hk:o.kind=2) (h:TreeOk o):o=treeO o.leaves:=by
 have:=(tree_zero.1 h).2;obtain⟨k,m,n,p,q,r,s,t,u,v,w⟩:=o;have a:k=2:=hk;subst a;simp only[x1,jm.mk.injEq,true_and] at this;obtain⟨b,c,d,e,f,g,i,j,l⟩:=this;simp only[treeO,x1,b,c,d,e,f,g,i,j,l]
def parseK (k : Nat) (s : Ds) : Option (jm × Ds) :=
  if k = 1 then some ({ x1 with kind := 1, text := (s.str 2).1 }, (s.str 2).2)
  else if k = 2 then some ({ x1 with kind := 2, leaves := (s.row Ds.leaf).1 }, (s.row Ds.leaf).2)
  else if k = 3 then some s.com else none
theorem decB_parse {b:List UInt8} (h:b≠[]):ye b=match parseK (num ((dS b).off 1).1) ((dS b).off 1).2 with|some o=>endB b o|none=>(x1,160):=by
 rw[ye,aI h];unfold parseK;dsimp only;split;rfl;split;rfl;split;rfl;rfl
theorem laid_parse {o:jm} (h:ub o) (hf:A9 o):∃k t,laidB o=be 1 k++t/\k<256/\parseK k (dS t)=some (o,dS []):=by
 rcases hf with⟨a,b⟩|⟨a,b⟩|⟨a,b⟩;refine⟨1,vj 2 o.text++[],by rw[laidB,aL a,a,bE];rfl,by decide,?_⟩;have e:=b.1;rw[parseK,aL rfl,zw8 zk];exact congrArg (λo=>some (o,dS [])) (blob_eq a b).symm;obtain⟨f,d⟩:=leaved_at b.1;refine⟨2,be 1 o.leaves.length++(o.leaves.flatMap Cq++[]),by rw[laidB,aI zk,aL a,a,bE];rfl,by decide,?_⟩;rw[parseK,aI zd,aL Z,row_app zk (λx c r=>leaf_app (by have:=d x c;omega) (h.leaves x c).2 r)];exact congrArg (λo=>some (o,dS [])) (tree_eq a b).symm;refine⟨3,comB o,by rw[laidB,aI zk,aI zk,a];rfl,by decide,?_⟩;rw[parseK,aI zd,aI zd,aL Z,com_app h b a]
theorem dec_laid {o:jm} (h:ub o) (hk:yv o):ye (laidB o)=(o,0):=by
 obtain⟨k,t,e,b,c⟩:=laid_parse h hk.1
 have a:laidB o≠[]:=by
  rw[e]
  intro d
  have:=congrArg List.length d
  rw[ao,ka] at this
  simp at this
 rw[decB_parse a]
 have f:(dS (laidB o)).off 1=(be 1 k,dS t):=by rw[e,Cb (ka 1 k)]
 rw[f,Da 1 k zk,c]
 show endB (laidB o) (o,dS [])=_
 rw[endB,aI (show¬(false=true) from Bool.false_ne_true),aL ⟨hk,rfl⟩]
end Go.Proofs.YtpdiphfjmepijaaGreatDoor
