/-
  Walks and laws towards: which store a log of whatever bytes says (StoreSays)
-/
import Derived.Test.YtpdiphfjmepijaaGreatDoorSyE
open List renaming map_append→bE,getElem?_map→bZ,getElem?_eq_some_iff→cU,flatMap_cons→cZ,take_left'→dB,map_cons→dD,length_nil→dF,filter_cons_of_neg→dJ,mem_cons→dK
open Int renaming toNat_natCast→bT,natCast_nonneg→cT
open Bool renaming and_eq_true→co
open Nat renaming lt_of_lt_of_eq→cS
namespace Go.Proofs.YtpdiphfjmepijaaGreatDoor
open Go.Proofs.Tryz
open Go.Vc
def Wl.fresh (D : kg) (a : Nat) : Wl := ⟨D, a, 0, [[]], 1, false⟩
def LogOf (w0 w' : World) (d : Nat) (F' : Nat -> Prop) (xo : Option Addr) (W : Wl) : Prop := ∃ x H, xo = some ⟨x, 0, none⟩ /\ xh w' x d H W /\ ∀ y, H y -> w0.heap.size <= y /\ ¬ F' y
theorem nil_piece (u : World) (H : Nat -> Prop) : zw u H (.slice none 0 0) [] := ⟨none, 0, rfl, aA _, Sl.nil _ _ _, λ_ _ e => by cases e⟩
theorem format_calls (w:World) {d m:Nat} {F:Nat->Prop} {D:kg} (h:At w d F D) (hok:D.Ok m) (hm:m+7000<1000000000) (area:Int) (har: -9223372036854775808<=area/\area<9223372036854775808) (hr:Rt w) (hF0:¬F 0):
  ge prog 23 [.pointer (some ⟨d,0,none⟩),.int .i64 area] w λv w'=>∃(xo:Option Addr) (F':Nat->Prop),v= .tuple #[.pointer xo,.int .i64 (un D area).2]/\At w' d F' (un D area).1/\Ext F w w'/\(∀y,F' y->F y\/w.heap.size<=y)/\((un D area).2≠0->xo=none)/\((un D area).2=0->LogOf w w' d F' xo (Wl.fresh (un D area).1 area.toNat)):=by
 refine gt func23 ?_;have g:=Ext.refl F w;have P:=h.lt;have aw:=hr.lt;refine uz Z (jn Z (qz Z (vo (jy Z (jv Z ⟨⟨Z,by decide⟩,⟨Z,by decide⟩,trivial⟩ (l':=[.pointer (some ⟨d,0,none⟩),.int .i64 area]) Z (gn Z λb6 w1 ah f A=>?_))))));have ai:=Nat.le_trans g.size ah;have h:=h.g0 A;have hr:=Rt.ext hr A id;have g:=g.g4 A;have r:¬F b6:=λe=>by have:=P _ e;omega
 refine wl (gz (l':=[.pointer (some ⟨d,0,none⟩),.int .i64 area]) g5 f Z Z Z Z OneC.h λw2 f R ax=>?_);have h:=h.ext R λx hx e=>by have e:x=b6:=e;subst e;exact r hx
 have hr:=Rt.ext hr R λe=>by have e:0=b6:=e;omega
 have g:=g.g8 R ai;refine qi (gh (ki (j8 f Z Z (g7 call70 Z (fits_calls w2 h area har) ?_))));rintro v3 w3⟨rfl,K⟩;have f:=f.g0 K;have h:=h.g0 K;have hr:=Rt.ext hr K id;have g:=g.g4 K;refine k9 Z (u5 Z (λs=>?_) (λs=>?_));have j:¬(0<=area/\C0 area.toNat D.secs.length):=λh=>by rw[bN h] at s;cases s
 have he:=formatW_no j;rw[he];exact jn Z (j6 (j2 (ko [_,_] ⟨Z,Z,trivial⟩ ⟨none,F,Z,h,g,λy B=> .inl B,λ_=>rfl,λe=>absurd (show(2:Int)=0 from e) zd⟩)));have j:0<=area/\C0 area.toNat D.secs.length:=by simpa using s
 obtain⟨a,rfl⟩:∃a:Nat,area=(a:Int):=⟨area.toNat,by omega⟩
 rw[bT] at j;have j:=j.2;have ay:=j.1;have az:=j.2.1;have hW:=xj2 j;rw[bT];let⟨y,B⟩:∃y,y=Be D 0 (List.replicate (2+2*a) zeros):=⟨_,Z⟩
 have V:=yj0 (List.replicate (2+2*a) zeros) 0 hok (zeros_rep _);rw[bM,<-B] at V;rw[<-B] at hW;refine vo (gh (jl Z 7 [qP 0,qP 1,qP 2,qP 3,(4,false),(5,false),qP 6] [] (F) zk λw4 C a0=> have ak:=f;have f:=f.g0 C;have h:=h.g0 C;have hr:=Rt.ext hr C id;have g:=g.g4 C;have hC:Ext (F) _ w4:=C.no;kw g5 Z Z (λw' am=>((ak.ext am r).kc)) Z (gl g5 3 Z ?_)));rw[show IntKind.i64.wrap (2+IntKind.i64.wrap (2*(a:Int)))=((2+2*a:Nat):Int) from by rw[jt (2*(a:Int)) zo,jt _ zo];omega];have an:=g;refine jg Z (gx call72 Z (blank_calls w4 (2+2*a)) λv5 w5 W=>⟨(by obtain⟨bb,rfl,ap,S,o⟩:=W;exact hC.g4 o),?_⟩);obtain⟨bb,rfl,ap,S,o⟩:=W;have f:=f.g0 o;have h:=h.g0 o;have hr:=Rt.ext hr o id;have g:=g.g4 o;have hC:=hC.g4 o;have aq:=g.size;have l6:=f.lt;have lr:=hr.lt;refine jg Z (gx call71 Z (xj7 w5 (n:=a) (L:=List.replicate (2+2*a) zeros) (own:=One bb) h hok (by rw[bM];omega) 0 zd (zeros_rep _) call145 (λw1 A=>by rw[bM];exact blank1_iter w1 (S.g0 A) zo) (λx e=>by have e:x=bb:=e;subst e;exact⟨S.lt,λe=>by have:=P _ e;have:=an.size;omega⟩)) λv6 w6 X=>⟨(by let⟨rfl,F2,T,E,k⟩:=X;exact hC.then E),?_⟩);obtain⟨rfl,F2,T,E,k⟩:=X;have f:=f.ext E r;have g:=g.then E;have r:=Aw r l6 k;have hr:=Rt.ext hr E hF0;have hF0:=Aw hF0 lr k;rw[<-B] at T|-;have k:=Al (λx=> .inl) aq k;refine gl g5 1 Z (jd (j1 (jh (jb (α:=(Nat->Prop)×kg×Int) [6] Z (λz=>[(7,.int .i64 z.2.2)]) (λz u=>((z.2.1,z.2.2)=un D (a:Int)/\At u d z.1 z.2.1/\(∀x,z.1 x->F x\/w.heap.size<=x))/\gu u b6 155 ([.pointer (some ⟨d,0,none⟩),.int .i64 (a:Int)])/\Ext F w u) ?_ ?_))));refine gh (gr (k9 Z (jc Z (λs=>?_) (λs=>?_))));refine gr (j8 f Z Z ?_);have ar:=g.size;refine g7 call73 Z (begin_calls w6 (n:=a) (t:=0) (b:=[]) (c:=0) (p:=none) T V zo zo zd (Sl.nil _ _ _) zd hr hF0) ?_;rintro v7 w7⟨rfl,F4,h4,Y,I⟩;have f:=f.ext Y r;have g:=g.trans Y λx hx e=>(k x e).resolve_right zo;refine gv g5 Z (ga ?_);exact gk (F4,(yr y.1 0 a []).1,(yr y.1 0 a []).2) Z ⟨⟨by rw[hW,aJ (λh=>h s)],h4,Al k ar I⟩,f,g⟩;exact jw (gk (F2,y.1,y.2) Z ⟨⟨by rw[hW,aM s],T,k⟩,f,g⟩);rintro⟨G,D1,e⟩ w8 ⟨⟨aa,U,hG⟩,f,g⟩;refine gh (jn Z (jc Z (λs=>?_) (λs=>?_)));refine gh (gr (vl Z (j2 (ko [_,_] ⟨Z,Z,trivial⟩ ?_))));rw[<-aa];exact⟨none,G,Z,U,g,hG,λ_=>rfl,λe=>absurd e s⟩
 refine jw (jh (ki (j8 f Z Z (have ab:=U.lt;wl (kz g5 Z 1 Z Z Z zd zd zt (l':=[.slice none 0 0]) Z λM w9 Q l N a1=> have af:=gw f.lt Q;have ac:=Nat.le_trans g.size Q;have f:=f.g0 N;have U:=U.g0 N;have g:=g.g4 N;jv Z ⟨⟨Z,by decide⟩,⟨Z,by decide⟩,⟨Z,by decide⟩,trivial⟩ (l':=[.pointer (some ⟨d,0,none⟩),.int .i64 (a:Int),.int .u32 0,.slice (some ⟨M,0,none⟩) 1 1,.int .i64 1,.bool false]) Z (gn Z λO au H q J=> have ag:=gw f.lt H;have ad:=gw l.lt H;have ae:=Nat.le_trans g.size H;have l:=l.g0 J;have U:=U.g0 J;have g:=g.g4 J;have q:gu au O 162 ([.pointer (some ⟨d,0,none⟩),.int .i64 (a:Int),.int .u32 0,.slice (some ⟨M,0,none⟩) 1 1,.int .i64 1,.bool false]):=q;vl Z (ko [_,_] ⟨Z,Z,trivial⟩ ?_)))))));have av:e=0:=aN.1 s;subst av;rw[<-aa];refine⟨some ⟨O,0,none⟩,G,Z,U,g,hG,λe=>absurd Z e,λ_=>⟨O,λy=>y=O\/y=M,Z,⟨⟨some ⟨M,0,none⟩,1,[.slice none 0 0],q,Own.blk l 1 (n:=1) (c:=1) Z (aA _) zd,⟨Z,λi b v h1 T=>?_⟩,λy B=> .inr (own1 B)⟩,.inl Z,λy B=>?_⟩,λy B=>?_⟩⟩;have hi:i=0:=by have:=(cU.1 h1).1;simpa [Wl.fresh] using this
 subst hi;simp[Wl.fresh] at h1 T;subst h1 T;exact nil_piece _ _;rcases B with rfl|rfl;exact q.lt;exact l.lt;rcases B with rfl|rfl;exact⟨ae,λe=>by have:=ab _ e;have:=N.size;omega⟩
 grind
theorem sectN_zero {n : Nat} : kl n = 0 ↔ 40000 < n := by unfold kl; split <;> omega
def A3 (w w' : World) (q : Option Addr) (k : Nat) (b : Bytes) : Prop := b.length <= k /\ ux w' q b /\ ∀ y off, q = some ⟨y, off, none⟩ -> w.heap.size <= y /\ TyB w' y 5
def LiesQ (w w' : World) (o : Option Bytes) (v : Value) : Prop := match o with
  | none => v = .tuple #[.slice none 0 0, .bool false]
  | some b => ∃ q k, v = .tuple #[.slice q b.length k, .bool true] /\ A3 w w' q k b
theorem A3.g0 {w u u':World} {q:Option Addr} {k:Nat} {b:Bytes} (h:A3 w u q k b) (hE:Ext No u u'):A3 w u' q k b:=⟨h.1,h.2.1.g0 hE,λy a e=>⟨(h.2.2 y a e).1,(h.2.2 y a e).2.ext hE id⟩⟩
theorem A3.extB {w u u':World} {q:Option Addr} {k x T:Nat} {b:Bytes} {L:List Value} (h:A3 w u q k b) (hE:Ext (One x) u u') (hx:gu u x T L) (hT:5≠T):A3 w u' q k b:=
 have c:∀y a,q=some ⟨y,a,none⟩->¬One x y:=λy a e d=>((h.2.2 y a e).2.ne hx hT) d
 ⟨h.1,h.2.1.ext hE c,λy a e=>⟨(h.2.2 y a e).1,(h.2.2 y a e).2.ext hE (c y a e)⟩⟩
theorem A3.ext {S:Nat->Prop} {w u u':World} {q:Option Addr} {k:Nat} {b:Bytes} (h:A3 w u q k b) (hE:Ext S u u') (hS:∀y,TyB u y 5->¬S y):A3 w u' q k b:=
 ⟨h.1,h.2.1.ext hE λy a e=>hS y (h.2.2 y a e).2,λy a e=>⟨(h.2.2 y a e).1,(h.2.2 y a e).2.ext hE (hS y (h.2.2 y a e).2)⟩⟩
theorem allB_take {L:List Bytes} {i:Nat} (h:i<L.length):yj9 (L.take (i+1))=yj9 (L.take i)++(L[i]).drop 16:=by
 rw[List.take_succ_eq_append_getElem h,yj9,aQ];simp[yj9]
theorem allB_len {L:List Bytes} (hL:∀b∈L,b.length=64) {i:Nat} (h:i<=L.length):(yj9 (L.take i)).length=48*i:=by
 induction i with
 |zero=>simp[yj9]
 |succ i ih=>
  rw[allB_take zo,al,ih zo,aW,hL _ (aC _)];omega
theorem liesB_no {L:List Bytes} (h0:0<L.length) (t n:Nat) (h:40000<yy L[0]\/L.length<kl (yy L[0])):zj3 L t n=none:=by
 cases L with
 |nil=>simp at h0
 |cons s r=>exact aM h
theorem liesB_yes {L:List Bytes} (h0:0<L.length) (t n:Nat) (h:¬(40000<yy L[0]\/L.length<kl (yy L[0]))):
  zj3 L t n=if vr t n (((yj9 (L.take (kl (yy L[0])))).drop 4).take (yy L[0]))=L.take (kl (yy L[0])) then some (((yj9 (L.take (kl (yy L[0])))).drop 4).take (yy L[0])) else none:=by
 cases L with
 |nil=>simp at h0
 |cons s r=>exact aJ h
def LieJ (L : List Bytes) (t n : Nat) (b : Bytes) (b6 b7 b15 : Nat) (k : Nat) (u : World) : Prop :=
  gu u b15 3 [.int .i64 (k : Int)] /\ (∃ v, gu u b6 41 [v]) /\ (∃ v, gu u b7 4 [v]) /\ ∀ j, j < k -> C9 t n b j = L.getD j []
def LieX (L : List Bytes) (t n : Nat) (b : Bytes) (b6 b7 b15 k : Nat) (c : Code) (u : World) : Prop :=
  c = .ret /\ b15 < u.heap.size /\ gu u b6 41 [.slice none 0 0] /\ gu u b7 4 [.bool false] /\ C9 t n b k ≠ L.getD k []
def lieC (w : World) (L : List Bytes) (t n : Nat) (b : Bytes) (b6 b7 b15 : Nat) : CoS Unit w where
  Fp := λ_ x => x = b6 \/ x = b7 \/ x = b15
  J := λk _ u => LieJ L t n b b6 b7 b15 k u
  Jx := λk c _ u => LieX L t n b b6 b7 b15 k c u
  st := by
    rintro k z S u u' ⟨h1, ⟨v, h2⟩, ⟨v', h3⟩, h4⟩ hE hS
    exact ⟨h1.ext hE λe => (hS _ e).2 (.inr (.inr Z)), ⟨v, h2.ext hE λe => (hS _ e).2 (.inl Z)⟩, ⟨v', h3.ext hE λe => (hS _ e).2 (.inr (.inl Z))⟩, h4⟩
  stx := by
    rintro k c z S u u' ⟨h1, h2, h3, h4, h5⟩ hE hS
    exact ⟨h1, aG h2 hE.size, h3.ext hE λe => (hS _ e).2 (.inl Z), h4.ext hE λe => (hS _ e).2 (.inr (.inl Z)), h5⟩
  lt := by
    rintro k z u ⟨h1, ⟨v, h2⟩, ⟨v', h3⟩, h4⟩ x (rfl | rfl | rfl)
    · exact h2.lt
    · exact h3.lt
    · exact h1.lt
  ltx := by
    rintro k c z u ⟨h1, h2, h3, h4, h5⟩ x (rfl | rfl | rfl)
    · exact h3.lt
    · exact h4.lt
    · exact h2
theorem lies_calls (w:World) {p:Option Addr} {c t n:Nat} {L:List Bytes} (hs:Sl w p L.length 64 (L.flatMap g6)) (hL:∀b∈L,b.length=64) (hc:L.length<=c) (hLl:L.length<=100000) (ht:t<4294967296) (hn:n<4294967296) (hr:Rt w):
  ge prog 136 [.slice p L.length c,.int .u32 (t:Int),.int .u32 (n:Int)] w λv w'=>LiesQ w w' (zj3 L t n) v/\Ext No w w':=by
 refine Cg func136 Z Z Z Z ?_;have C:=Ext.refl No w;have ex:=hr.lt;refine ki (gn Z λb3 w1 ey g ab=>?_);have hr:=Rt.ext hr ab id;have C:=C.g4 ab;have g:gu w1 b3 216 ([.slice p L.length c]):=g;refine gn Z λb6 w2 ch a bw=>?_;have dj:=gw g.lt ch;have bx:=Nat.le_trans C.size ch;have g:=g.g0 bw;have hr:=Rt.ext hr bw id;have C:=C.g4 bw;have a:gu w2 b6 41 ([.slice none 0 0]):=a;refine gn Z λb7 w3 bz d a6=>?_;have dk:=gw g.lt bz;have F:=gw a.lt bz;have b0:=Nat.le_trans C.size bz;have g:=g.g0 a6;have a:=a.g0 a6;have hr:=Rt.ext hr a6 id;have C:=C.g4 a6;have d:gu w3 b7 4 ([.bool false]):=d;refine qi (gh (ki ?_));have dm:=C;refine j3 g Z Z (k9 Z (jc Z (λhc=>?_) (λhc=>?_)));have dn:L=[]:=aT zo;refine ki (ka a Z Z Z λw4 a ci ez=>?_);have d:=d.g9 ci F.symm;have C:=C.g8 ci bx;refine ka d Z Z Z λw5 d cj e0=>?_;have a:=a.g9 cj F;have C:=C.g8 cj b0;refine qi (j6 (j2 (Bq [] List.nodup_nil (λ_ h=>(by cases h)) [.slice none 0 0,.bool false] (λa7 B=>?_) (.inl Z))));refine⟨⟨⟨b6,0,Z,zj0 g5 Z Z ((a.ext B (λe=>by cases e)).cell Z)⟩,⟨b7,0,Z,zj0 g5 Z Z ((d.ext B (λe=>by cases e)).cell Z)⟩,trivial⟩,?_⟩;exact⟨by rw[dn];rfl,C.trans B λx _ e=>by cases e⟩
 have U:0<L.length:=by omega
 obtain⟨pb,po,rfl,D⟩:=hs.km (λr hr=>qg (hL r hr)) U;have e4:pb<w.heap.size:=(D 0 U).lt (λe=>by have:=congrArg List.length e;rw[qg (hL _ (aC _))] at this;cases this);obtain⟨s0,b1⟩:∃s0,s0=L[0]:=⟨_,Z⟩
 have eg:s0.length=64:=by rw[b1];exact hL _ (aC _)
 have D:=λi H=>(D i H).g0 dm;refine vo (ki (j3 g Z Z (jo Z 64 Z 0 Z U (po+0*64) Z (wl (st_sa g5 Z 16 20 64 1 Z ⟨.inr ⟨Z,Z⟩,.inl Z,.inl Z,by decide,by decide,by decide⟩ ?_)))));rw[zz zd];obtain⟨l4,b2⟩:∃l4,l4=(s0.drop 16).take 4:=⟨_,Z⟩
 have a1:l4.length=4:=by rw[b2,aK,aW];omega
 have ck:ux w3 (some ⟨pb,po+0*64+16*1,none⟩) l4:=⟨by rw[gb,aY],.inr ⟨pb,_,Z,by
  have e:=((D 0 U).drop 16).take 4
  rw[<-b1,uo,up,<-b2] at e
  exact e⟩⟩
 rw[show Value.slice (some ⟨pb,po+0*64+16*1,none⟩) (20-16) (64-16)= .slice (some ⟨pb,po+0*64+16*1,none⟩) l4.length 48 from by rw[a1]];have l3:=g.lt;have l6:=a.lt;have l7:=d.lt;refine g7 call101 Z (zz0 w3 ck zo) λv6 w6 dp=>?_;obtain⟨rb,rfl,e5,hR,av⟩:=dp;have g:=g.g0 av;have a:=a.g0 av;have d:=d.g0 av;have hr:=Rt.ext hr av id;have D:=λi H=>(D i H).g0 av;have C:=C.g4 av;refine k9 Z (jy Z ?_);have cm:(vz l4 0 4).1=l4:=by rw[vz,aJ zd,aJ zd,aJ zo];exact aL (by rw[a1];decide)
 refine g7 call171 Z (yx4 w6 hR zo) λv7 w7 dq=>?_;obtain⟨rfl,_,aw⟩:=dq;have g:=g.g9 aw zo;have a:=a.g9 aw zo;have d:=d.g9 aw zo;have C:=C.g8 aw zo;have D:=λi H=>(D i H).ext aw (λe=>by have e:pb=rb:=e;omega);have hr:=Rt.ext hr aw (λe=>by have e:0=rb:=e;omega);rw[cm];obtain⟨s,ag⟩:∃s,s=num l4:=⟨_,Z⟩
 have eh:s<4294967296:=by have:=ug l4;rw[a1] at this;rw[ag];exact this
 have b4:yy L[0]=s:=by rw[ag,b2,b1];rfl
 rw[<-ag];refine gv g5 Z ?_;rw[jt (s:Int) zo];refine k9 Z (jy Z (g7 call65 Z (xi w7 (s:Int)) λv8 w8 dr=>?_));obtain⟨rfl,ax⟩:=dr;have g:=g.g0 ax;have a:=a.g0 ax;have d:=d.g0 ax;have hr:=Rt.ext hr ax id;have D:=λi H=>(D i H).g0 ax;have C:=C.g4 ax;rw[Bd];refine k9 Z (gh (jb (α:=Bool) [1,2,3,6,7,9,10] Z (λz=>[(36,.bool z)]) (λz u=>u=w8/\z=decide (40000<s\/L.length<kl s)) ?_ ?_));refine gr ?_;refine gv g5 Z (j7 31 Z (λhg=>?_) (λhg=>?_));have cn:=sectN_zero.1 (show kl s=0 by omega);refine gm g5 5 Z (ga ?_);exact gk (true) Z ⟨Z,by symm;rw[decide_eq_true_iff];exact .inl cn⟩;have cn:¬40000<s:=λh=>hg (by rw[sectN_zero.2 h];rfl);refine gm g5 1 Z (j3 g Z Z (gm g5 3 Z (ga ?_)));exact gk (_) Z ⟨Z,by rw[aH];omega⟩;rintro z w9 ⟨hu,rfl⟩;have hu:=hu.symm;subst hu;refine jc Z (λhc=>?_) (λhc=>?_);have ds:=liesB_no U t n (by rw[b4];exact hc);refine ki (ka a Z Z Z λe6 a bs ei=>?_);have d:=d.g9 bs F.symm;have C:=C.g8 bs bx;refine ka d Z Z Z λe7 d bu ej=>?_;have a:=a.g9 bu F;have C:=C.g8 bu b0;refine qi (j6 (j2 (Bq [] List.nodup_nil (λ_ h=>(by cases h)) [.slice none 0 0,.bool false] (λa7 B=>?_) (.inl Z))));refine⟨⟨⟨b6,0,Z,zj0 g5 Z Z ((a.ext B (λe=>by cases e)).cell Z)⟩,⟨b7,0,Z,zj0 g5 Z Z ((d.ext B (λe=>by cases e)).cell Z)⟩,trivial⟩,?_⟩;exact⟨by rw[ds];rfl,C.trans B λx _ e=>by cases e⟩
 have J:=liesB_yes U t n (by rw[b4];exact hc);rw[b4] at J;have dt:s<=40000:=by omega
 obtain⟨K,hK⟩:∃K,K=kl s:=⟨_,Z⟩
 have du:K<=L.length:=by omega
 have b5:=sectN_room dt;rw[<-hK] at J b5|-;have e8:K<=834:=by rw[hK];exact Dh _
 refine vo (uz Z (ki (j3 g Z Z (gv g5 Z ?_))));refine wl (Ay g5 Z 0 K c 64 Z (.inr ⟨Z,Z⟩) (.inl Z) (.inr ⟨Z,Z⟩) (aF _) zo (aA _) ?_);dsimp only;rw[qa,bH];refine k9 Z (j0 ?_);refine ja (α:=Nat×Option Addr×Nat) [1,2,3,6,7,9,39,40] Z (λz=>[(11,.slice z.2.1 (48*z.1) z.2.2),(41,.int .i64 (z.1:Int))]) (λz u=>(z.1<=K/\Own u z.2.1 (48*z.1) z.2.2 5 1 (g6 (yj9 (L.take z.1)))/\(∀y,j5 z.2.1 y->w.heap.size<=y)/\(∀i (H:i<L.length),Seg u pb (po+i*64) (g6 L[i]))/\Rt u)/\gu u b3 216 ([.slice (some ⟨pb,po,none⟩) L.length c])/\gu u b6 41 ([.slice none 0 0])/\gu u b7 4 ([.bool false])/\Ext No w u) (λz u=>K-z.1) (0,none,0) Z ⟨⟨aF _,Own.nil _ _ _,λy T=>(by cases T),D,hr⟩,g,a,d,C⟩ ?_;rintro⟨i,q,k⟩ a8 ⟨⟨H,hq,ay,D,hr⟩,g,a,d,C⟩;try dsimp only
 dsimp only at H hq ay;refine uz Z (jc Z (λhc=>?_) (λhc=>?_));have a9:i<K:=by omega
 have b8:i<L.length:=by omega
 have ai:=hL _ (aC b8);have cp:=λy (T:j5 q y)=>hq.lt T;refine yz (ki (jo Z 64 Z i Z a9 (po+i*64) Z (je Z (D i b8) (qg ai) ?_)));refine gn Z λa2 e9 aj a3 N=>?_;have ba:=gw g.lt aj;have bc:=gw a.lt aj;have bd:=gw d.lt aj;have cq:=Nat.le_trans C.size aj;have g:=g.g0 N;have a:=a.g0 N;have d:=d.g0 N;have hr:=Rt.ext hr N id;have D:=λi H=>(D i H).g0 N;have hq:=hq.ext N λ_ _=>id;have C:=C.g4 N;refine wl (gz (l':=g6 L[i]) g5 a3 Z Z (qg ai) (by rw[qg ai];rfl) OneC.h λdv a3 O ek=>?_);have g:=g.g9 O ba;have a:=a.g9 O bc;have d:=d.g9 O bd;have hr:=Rt.ext hr O λe=>by have e:0=a2:=e;omega
 have D:=λi H=>(D i H).ext O (λe=>by have e:pb=a2:=e;omega);have hq:=hq.ext O λy T e=>by have e:y=a2:=e;have:=cp y T;omega
 have C:=C.g8 O cq;refine qi (xt Z (wl (st_sa g5 Z 16 64 64 1 Z ⟨.inr ⟨Z,Z⟩,.inr ⟨Z,Z⟩,.inl Z,by decide,by decide,by decide⟩ ?_)));rw[zz zd];have dw:Sl dv (some ⟨a2,0+16*1,none⟩) 48 1 (g6 ((L[i]).drop 16)):=⟨by rw[gb,aW,ai],.inr ⟨a2,_,Z,by have e:=a3.kc.drop 16;rw[uo] at e;exact e⟩⟩
 have fa:=C.size;have dx:¬j5 q b3:=λe=>(Own.ty hq e).ne g zd Z;have dy:¬j5 q b6:=λe=>(Own.ty hq e).ne a zd Z;have dz:¬j5 q b7:=λe=>(Own.ty hq e).ne d zd Z;refine wl (ul g5 Z 1 1 Z Z Z zd hq (Src.slice dw OneC.h) zm zn λb9 cr d0 cs V ct=>?_);have g:=g.ext V λe=>dx e;have a:=a.ext V λe=>dy e;have d:=d.ext V λe=>dz e;have C:=C.trans V λy T e=>by have:=ay y e;omega
 have D:=λj hj=>(D j hj).ext V λe=>by have:=ay _ e;omega
 have hr:=Rt.ext hr V λe=>by have:=ay _ e;omega
 have cu:∀y,j5 b9 y->w.heap.size<=y:=λy T=>(ct y T).elim (ay y) λe=>by omega
 have d1:Own d0 b9 (48*(i+1)) cr 5 1 (g6 (yj9 (L.take (i+1)))):=by rw[allB_take b8,qd,show 48*(i+1)=48*i+48 from by omega];exact cs
 dsimp only;rw[show 48*i+48=48*(i+1) from by omega];refine gv g5 Z (ga (yt Z ?_));rw[jt _ zo];refine ga ?_;exact j9 (i+1,b9,cr) Z ⟨⟨a9,d1,cu,D,hr⟩,g,a,d,C⟩ zf;have a9:i=K:=by omega
 subst a9;have cv:i<=L.length:=du;refine zu (jy Z ?_);rw[jt _ zo];rw[show(4:Int)+(s:Int)=((4+s:Nat):Int) from by omega];have cw:=allB_len hL cv;obtain⟨A,hA⟩:∃A,A=yj9 (L.take i):=⟨_,Z⟩
 obtain⟨b,hb⟩:∃b,b=(A.drop 4).take s:=⟨_,Z⟩
 rw[<-hA] at cw J hq;have cx:b.length=s:=by rw[hb,aK,aW];omega
 rw[<-hb] at J;have cy:=hq.sl;rw[<-cw] at cy;have cz:ux a8 (ub q 4 (4+s) 1) b:=by have e:=Sl.slice cy 4 (4+s) (4+s) zo (aA _) zo;rw[aY,aY,uo,up,show 4+s-4=s from by omega,<-hb] at e;rw[ux,cx];exact e
 have ca:∀y a4,ub q 4 (4+s) 1=some ⟨y,a4,none⟩->j5 q y:=λy a4 e=>by
  obtain⟨bq,lq,cb,_⟩:∃bq lq,q=some ⟨bq,0,none⟩/\gu a8 bq 5 lq:=by rcases hq with⟨_,h0,_⟩|⟨bq,lq,h1,h2,_⟩;omega;exact⟨bq,lq,h1,h2⟩
  obtain⟨em,e'⟩:=xj1 e (λx o sp e=>by rw[cb] at e;cases e;rfl);rw[cb] at e';cases e';exact cb
 have c0:∀y,j5 q y->TyB a8 y 5:=λy T=>Own.ty hq T;refine wl (Ay g5 Z 4 (4+s) (4+s) 1 Z (.inl ⟨Z,Z⟩) (.inl Z) (.inl Z) zo (aA _) (by have:=hq.cap;dsimp only;omega) ?_);dsimp only;obtain⟨qb,c1⟩:∃qb,qb=ub q 4 (4+s) 1:=⟨_,Z⟩
 rw[<-c1] at cz ca|-;rw[show 4+s-4=b.length from by omega];have G:A3 w a8 qb b.length b:=⟨aA _,cz,λy a4 e=>⟨ay y (ca y a4 e),c0 y (ca y a4 e)⟩⟩
 refine k9 Z (ki (gn Z λaz d2 ak f P=>?_));have bf:=gw g.lt ak;have I:=gw a.lt ak;have aa:=gw d.lt ak;have c2:=Nat.le_trans C.size ak;have g:=g.g0 P;have a:=a.g0 P;have d:=d.g0 P;have hr:=Rt.ext hr P id;have D:=λi H=>(D i H).g0 P;have G:=G.g0 P;have C:=C.g4 P;have f:gu d2 az 3 ([.int .i64 0]):=f;have cc:=f;refine ka f Z Z Z λd3 f Q en=>?_;have g:=g.g9 Q bf;have a:=a.g9 Q I;have d:=d.g9 Q aa;have hr:=Rt.ext hr Q λe=>by have e:0=az:=e;omega
 have D:=λi H=>(D i H).ext Q (λe=>by have e:pb=az:=e;omega);have G:=G.extB Q cc zd;have C:=C.g8 Q c2;refine qi (gh (jy Z (g7 call121 Z (xz5 d3 t n (p:=qb) (m:=b.length) (c:=b.length)) λfb d4 c3=>?_)));obtain⟨bb,bt,bn,rfl,fc,d5,d6,d7,M⟩:=c3;have g:=g.g0 M;have a:=a.g0 M;have d:=d.g0 M;have f:=f.g0 M;have hr:=Rt.ext hr M id;have D:=λi H=>(D i H).g0 M;have G:=G.g0 M;have C:=C.g4 M;refine qi (j0 ?_);have l3:=g.lt;have l6:=a.lt;have l7:=d.lt;have fd:=f.lt;have c4:=a;have c5:=d;have cd:=f;have d8:=G.2.1;have ac:kl b.length=i:=by rw[cx,hK]
 have c6:b.length<=40000:=by omega
 refine c_iter (lieC d4 L t n b b6 b7 az) (()) Z call178 Z (λ_=>rfl) (λw1 ab=>piece_iter w1 (d5.g0 ab) (d6.g0 ab) (d7.g0 ab) (d8.g0 ab) ht hn c6 (hr.ext ab id)) (λx e=>by subst e;exact⟨by omega,λe=>by rcases e with e|e|e<;>omega⟩) ⟨f,⟨_,a⟩,⟨_,d⟩,λj hj=>absurd hj (bO _)⟩ (λl DD r k z W a0 hJ hk=>?_) (λDD z W hJ hE c7 d9 ad ea=>?_) (λDD k c z W hk hJ hE c7 d9 ad ea=>?_);have E:=a0.l;obtain⟨f,⟨v6,a⟩,⟨v7,d⟩,bg⟩:=hJ;have ce:=a0.X;have fe:=ce.size;have g:=g.ext ce λe=>by rcases e with e|e|e<;>omega
 have D:=λj hj=>(D j hj).ext ce λe=>by rcases e with e|e|e<;>omega
 have ff:=a0.lo;rw[ac] at hk;have bh:k<L.length:=by omega
 have eb:=xj5 t n b (k:=k) (by rw[ac];exact hk);obtain⟨Pk,bi⟩:∃Pk,Pk=C9 t n b k:=⟨_,Z⟩
 have am:Pk.length=64:=by rw[bi];exact pieceAt_len _ _ _ _
 rw[show argB (vr t n b) k= #[numB Pk] from by rw[argB,eb,bi]];have c8:L.getD k []=L[k]:=by simp[bh]
 have bv:=hL _ (aC bh);have ec:=a.neL E;have ed:=d.neL E;have c9:=f.neL E;have C:Ext (λx=>(x=b6\/x=b7\/x=az)\/x=l) W W:=Ext.refl _ _;refine yh (wli (.round _) Z (Bi g5 Z λee fg ae Y R=>?_));have bj:=gw g.lt ae;have bk:=gw a.lt ae;have bm:=gw d.lt ae;have a5:=gw f.lt ae;have da:=Nat.le_trans C.size ae;have g:=g.g0 R;have a:=a.g0 R;have d:=d.g0 R;have f:=f.g0 R;have D:=λi H=>(D i H).g0 R;have E:=vd E R id;have C:=C.g4 R;have db:=Y.neL E;refine wli (.round _) Z (gz (l':=g6 Pk) g5 Y Z Z (qg am) (by rw[qg am];rfl) OneC.h λa7 Y B ep=>?_);have g:=g.g9 B bj;have a:=a.g9 B bk;have d:=d.g9 B bm;have f:=f.g9 B a5;have D:=λi H=>(D i H).ext B (λe=>by have e:pb=ee:=e;omega);have E:=vd E B db.symm;have C:=C.g8 B da;refine zv (xv4 a0 E λfh S dc=>?_);have g:=g.extL E S;have a:=a.extL E S;have d:=d.extL E S;have f:=f.extL E S;have Y:=Y.extL E S;have D:=λi H=>(D i H).ext S (λe=>by have e:pb=l:=e;omega);have E:=dc;have C:=C.then (S.mono λx _ e=> .inr e);refine ci_block (xz7 (xz7 (ci_draw (.round _) Z Z 6 [(0,true),(1,true),(2,true),(3,true),(4,true),(5,true)] [] (No) zk λfi af eq=>?_)));have ef:=g;have fj:=a;have fk:=d;have dd:=f;have de:=Y;have df:=D;have fm:=C;have a:=a.g0 af;have d:=d.g0 af;have f:=f.g0 af;have E:=vd E af id;have C:=C.g4 af;refine kw g5 Z Z (λw' ah=>((de.g0 ah).kc)) (qg am) ?_;refine gy g5 Z Z (λw' ah=>((ef.g0 ah).cell Z)) ?_;refine gy g5 Z Z (λw' ah=>((dd.g0 ah).cell Z)) ?_;refine qe g5 Z Z 64 Z k Z bh (po+k*64) Z (kw g5 Z Z (λw' ah=>((df k bh).g0 ah)) (qg bv) ?_);refine wd_eqA (xs:=zw7 Pk) (ys:=zw7 L[k]) g5 Z Z zk (zw8 _) (zw8 _) (by rw[Bx,am]) (by rw[Bx,bv]) ?_;simp only[bK,cW];refine jd (j1 (zv8 (ci_if Z (λhc=>?_) (λhc=>?_))));have cf:C9 t n b k≠L.getD k []:=λe=>hc (yz2.2 (by rw[bi,e,c8]));refine xz7 (yh (wli (.round _) Z (Aa g5 a Z Z Z λfn a an er=>?_)));have d:=d.g9 an F.symm;have f:=f.g9 an I.symm;have E:=vd E an ec.symm;have C:=C.then (an.mono λx _ e=>by have e:x=b6:=e;subst e;exact .inl (.inl Z));refine wli (.round _) Z (Aa g5 d Z Z Z λfp d ap es=>?_);have a:=a.g9 ap F;have f:=f.g9 ap aa.symm;have E:=vd E ap ed.symm;have C:=C.then (ap.mono λx _ e=>by have e:x=b7:=e;subst e;exact .inl (.inr (.inl Z)));refine zv (zv8 (ci_ret ?_));exact j2 (u0 (fin_stop (.inl ⟨Z,Z⟩) (()) a0 E C (λx hx=> .inl hx) (⟨Z,f.lt,a,d,cf⟩)));have dg:C9 t n b k=L.getD k []:=by rw[<-bi,c8];exact yz2.1 (aN.1 hc)
 refine ci_skip (zv8 (yh (wli (.round _) Z (st_ldb g5 f Z Z (zj2 g5 Z ?_)))));rw[jt _ zo];refine wli (.round _) Z (Aa g5 f Z Z Z λfq f aq et=>?_);have a:=a.g9 aq I;have d:=d.g9 aq aa;have E:=vd E aq c9.symm;have C:=C.then (aq.mono λx _ e=>by have e:x=az:=e;subst e;exact .inl (.inr (.inr Z)));refine zv ?_;exact jm (fin_next (()) a0 E C (λx hx=> .inl hx) (⟨f,⟨_,a⟩,⟨_,d⟩,λj hj=>by rcases aZ j k with h|h;exact bg j h;rw[show j=k from by omega];exact dg⟩));obtain⟨f,⟨v6,a⟩,⟨v7,d⟩,bg⟩:=hJ;have G:A3 w W qb b.length b:=G.ext hE λy T h=>by rcases h with h|h|h;exact T.ne c4 zd h;exact T.ne c5 zd h;exact T.ne cd zd h
 have bp:b6≠DD:=by omega
 have br:b7≠DD:=by omega
 have C:Ext No w W:=C.trans hE λx hx e=>by rcases e with e|e|e<;>omega
 rw[ac] at bg
 have cg:vr t n b=L.take i:=by
  refine List.ext_getElem (by rw[x7,ac,aK];omega) λj h1 h2=>?_;have hj:j<i:=by rw[x7,ac] at h1;exact h1
  have e:=bg j hj;rw[<-xj5 t n b (by rw[ac];exact hj)] at e;have e1:(vr t n b).getD j []=(vr t n b)[j]:=by simp[h1]
  have e2:L.getD j []=L[j]'zo:=by simp[show j<L.length by omega]
  rw[<-e1,e,e2,List.getElem_take]
 rw[aM cg] at J;refine jm (jh (jy Z ?_));have dh:=a;refine ka a Z Z Z λfr a ar eu=>?_;have d:=d.g9 ar F.symm;have ad:=vd ad ar bp.symm;have G:=G.extB ar dh zd;have C:=C.g8 ar bx;have di:=d;refine ka d Z Z Z λfs d au ev=>?_;have a:=a.g9 au F;have ad:=vd ad au br.symm;have G:=G.extB au di zd;have C:=C.g8 au b0;refine qi (j6 (Bq [DD] zp (λx hx=>by rw[aE.1 hx];exact ad) [.slice qb b.length b.length,.bool true] (λa7 B=>?_) (.inl Z)));refine⟨⟨⟨b6,0,Z,zj0 g5 Z Z ((a.ext B (λe=>bp (aE.1 e))).cell Z)⟩,⟨b7,0,Z,zj0 g5 Z Z ((d.ext B (λe=>br (aE.1 e))).cell Z)⟩,trivial⟩,?_⟩;rw[J];exact⟨⟨qb,b.length,Z,G.ext B λy T h=>by rw[aE.1 h] at T;obtain⟨l,hl⟩:=T;unfold gu at hl;rw[ad] at hl;cases hl⟩,C.trans B λy T e=>by rw[aE.1 e] at T;omega⟩
 obtain⟨rfl,ew,a,d,cf⟩:=hJ;have bp:b6≠DD:=by omega
 have br:b7≠DD:=by omega
 have C:Ext No w W:=C.trans hE λx hx e=>by rcases e with e|e|e<;>omega
 rw[ac] at hk
 have cg:¬vr t n b=L.take i:=λe=>by
  have e1:=xj5 t n b (k:=k) (by rw[ac];exact hk);rw[e] at e1;refine cf (e1.symm.trans ?_);have e2:L.getD k []=L[k]'zo:=by simp[show k<L.length by omega]
  have e3:(L.take i).getD k []=L[k]'zo:=by simp[hk,show k<L.length by omega]
  rw[e2,e3]
 rw[aJ cg] at J;refine j6 (u0 (j2 (Bq [DD] zp (λx hx=>by rw[aE.1 hx];exact ad) [.slice none 0 0,.bool false] (λa7 B=>?_) (.inl Z))));refine⟨⟨⟨b6,0,Z,zj0 g5 Z Z ((a.ext B (λe=>bp (aE.1 e))).cell Z)⟩,⟨b7,0,Z,zj0 g5 Z Z ((d.ext B (λe=>br (aE.1 e))).cell Z)⟩,trivial⟩,?_⟩;rw[J];exact⟨Z,C.trans B λy T e=>by rw[aE.1 e] at T;omega⟩
def nwV (d : Nat) (o : Option (Nat × Nat)) : List Value := match o with
  | none => [.pointer none, .int .i64 0]
  | some (_, n) => [.pointer (some ⟨d, 0, none⟩), .int .i64 (n : Int)]
theorem zx1 (d : Nat) (o : Option (Nat × Nat)) : (nwV d o).length = 2 := by cases o <;> rfl
theorem nwV_one (d:Nat) (o:Option (Nat×Nat)):∀v∈nwV d o,v.oneCell'=true:=by
 cases o with
 |none=>exact OneC.h (l:=[.pointer none,.int .i64 0])
 |some x=>exact OneC.h (l:=[.pointer (some ⟨d,0,none⟩),.int .i64 (x.2:Int)])
instance (d : Nat) (o : Option (Nat × Nat)) : OneC (nwV d o) := ⟨nwV_one d o⟩
theorem newestGo_step {S i:Nat} (hi:i<2) (D:kg) (o:Option (Nat×Nat)):yn S (2-i) i D o=if(D.read i).2.2≠0 then((D.read i).1,(D.read i).2.2,none) else yn S (2-(i+1)) (i+1) (D.read i).1 (newer i S (D.read i).2.1 o):=by
 let⟨k,a⟩:∃k,2-i=k+1:=⟨1-i,by omega⟩
 rw[a,show 2-(i+1)=k from by omega];rfl
theorem newer_no {i S : Nat} {b : Bytes} {o : Option (Nat × Nat)} (h : ¬ HeadOk i S b) : newer i S b o = o := aJ h
theorem newer_yes {i S:Nat} {b:Bytes} {o:Option (Nat×Nat)} (h:HeadOk i S b) (hn:nwE o≠0\/nwT o<zj4 b):newer i S b o=some (zj4 b,zw3 b):=by
 unfold newer;rw[aM h];cases o with
 |none=>rfl
 |some x=>exact aM (hn.resolve_left λe=>e Z)
theorem newer_old {i S:Nat} {b:Bytes} {o:Option (Nat×Nat)} (h:HeadOk i S b) (hn:¬(nwE o≠0\/nwT o<zj4 b)):newer i S b o=o:=by
 unfold newer;rw[aM h];cases o with
 |none=>exact absurd (.inl zd) hn
 |some x=>exact aJ λe=>hn (.inr e)
theorem read_64 {D:kg} {m:Nat} (hok:D.Ok m) (i:Int):(D.read i).2.1.length=64:=by
 unfold kg.read;dsimp only;split;exact zz9 (hok.begin i false) _;exact zeros_length
theorem newest_calls (w:World) {d m:Nat} {F:Nat->Prop} {D:kg} (h:At w d F D) (hok:D.Ok m) (hm:m+10<1000000000) (hr:Rt w) (hF0:¬F 0):
  ge prog 135 [.pointer (some ⟨d,0,none⟩)] w λv w'=>v= .tuple #[.agg (nwV d (ue D).2.2).toArray,.int .u32 (nwT (ue D).2.2:Int),.int .i64 (ue D).2.1]/\At w' d F (ue D).1/\Ext F w w':=by
 refine gt func135 ?_;have f:=Ext.refl F w;have an:=h.lt;have bh:=hr.lt;have c:=h;refine ki (gn Z λJ w1 a0 a af=>?_);have ag:=Nat.le_trans f.size a0;have c:=c.g0 af;have hr:=Rt.ext hr af id;have f:=f.g4 af;have a:gu w1 J 155 (nwV d none):=a;have U:¬F J:=λe=>by have:=an _ e;omega
 refine k9 Z (uz Z (jn Z (j0 (ja (α:=Nat×kg×Option (Nat×Nat)) [0,2] Z (λz=>[(3,.int .u32 (nwT z.2.2:Int)),(4,.int .i64 (nwE z.2.2)),(12,.int .i64 (z.1:Int))]) (λz u=>(z.1<=2/\At u d F z.2.1/\z.2.1.Ok (m+z.1)/\ue D=yn D.secs.length (2-z.1) z.1 z.2.1 z.2.2/\nwT z.2.2<4294967296/\z.2.1.secs.length=D.secs.length/\Rt u)/\gu u J 155 (nwV d z.2.2)/\Ext F w u) (λz u=>2-z.1) (0,D,none) Z ⟨⟨aF _,c,hok,Z,(show 0<4294967296 by decide),Z,hr⟩,a,f⟩ ?_))));rintro⟨i,D1,o⟩ w2 ⟨⟨hi,c,K,p,V,L,hr⟩,a,f⟩;refine uz Z (jc Z (λE=>?_) (λE=>?_));have ah:i<2:=by omega
 rw[newestGo_step ah] at p;refine vo (jb (α:=kg×Option (Nat×Nat)) [0,2,12] Z (λz=>[(3,.int .u32 (nwT z.2:Int)),(4,.int .i64 (nwE z.2))]) (λz u=>(At u d F z.1/\z.1.Ok (m+(i+1))/\ue D=yn D.secs.length (2-(i+1)) (i+1) z.1 z.2/\nwT z.2<4294967296/\z.1.secs.length=D.secs.length/\Rt u)/\gu u J 155 (nwV d z.2)/\Ext F w u) ?_ ?_);refine j0 (jn Z (jy Z ?_));have bi:=a.lt;refine g7 call78 Z (dkRead w2 c K zo (i:Int)) ?_;rintro v3 w3⟨rfl,c,ai⟩;have a:=a.ext ai U;have f:=f.then ai;have hr:=Rt.ext hr ai hF0;have ap:=c.lt;let⟨x,M⟩:∃x,x=D1.read (i:Int):=⟨_,Z⟩
 have j:=read_64 K (i:Int);have r:=K.read (i:Int);have G:(D1.read (i:Int)).1.secs.length=D.secs.length:=by rw[kg.read_secs,L]
 rw[<-M] at p j r G c|-;let⟨D2,B,e⟩:=x;dsimp only at p j r G c|-;refine gv g5 Z (gn Z λb6 w4 aq b W=>?_);have aj:=gw a.lt aq;have a2:=Nat.le_trans f.size aq;have a:=a.g0 W;have c:=c.g0 W;have hr:=Rt.ext hr W id;have f:=f.g4 W;have a3:¬F b6:=λe=>by have:=ap _ e;omega
 refine wl (gz (l':=g6 B) g5 b Z Z (qg j) (by rw[qg j];rfl) OneC.h λw5 b X bj=>?_);have a:=a.g9 X aj;have c:=c.ext X λx M e=>by have e:x=b6:=e;subst e;exact a3 M
 have hr:=Rt.ext hr X λe=>by have e:0=b6:=e;omega
 have f:=f.g8 X a2;refine k9 Z (gh (jn Z (jc Z (λE=>?_) (λE=>?_))));rw[aM E] at p;rw[p];refine ki (jv Z trivial (l':=nwV d none) Z (gv g5 Z (wl (gz (l':=nwV d none) g5 a Z Z Z (by rw[zx1,zx1]) (nwV_one _ _) λw6 a ar bk=>?_))));have c:=c.ext ar λx M e=>by have e:x=J:=e;subst e;exact U M
 have f:=f.g8 ar ag;refine vl Z (j2 (gGk (ko [_,_,_] ⟨⟨J,0,Z,kj g5 Z Z a.kc Z⟩,Z,Z,trivial⟩ ?_)));exact⟨Z,c,f⟩
 rw[aJ E] at p;refine vo (ki (wl (st_sa g5 Z 0 64 64 1 Z ⟨.inr ⟨Z,Z⟩,.inr ⟨Z,Z⟩,.inr ⟨Z,Z⟩,by decide,by decide,by decide⟩ ?_)));rw[qa,bH];rw[show Value.slice (some ⟨b6,0,none⟩) 64 64= .slice (some ⟨b6,0,none⟩) B.length 64 from by rw[j]];have l2:=a.lt;have l6:=b.lt;have lA:=c.lt;refine g7 call101 Z (zz0 w5 b.slB zo) ?_;rintro v7 w7⟨rb,rfl,bm,hR,N⟩;have a:=a.g0 N;have b:=b.g0 N;have c:=c.g0 N;have hr:=Rt.ext hr N id;have f:=f.g4 N;refine k9 Z (jy Z (g7 call103 Z (raw_calls w7 hR zo 12) ?_));rintro v8 w8⟨_,_,rfl,_,hR,O⟩;have a:=a.g9 O zo;have b:=b.g9 O zo;have f:=f.g8 O zo;rw[show(12:Int)=((12:Nat):Int) from Z,offR_ok zo] at hR;have c:=c.ext O λy hy e=>by have e:y=rb:=e;have:=lA y hy;omega
 have hr:=Rt.ext hr O λe=>by have e:0=rb:=e;omega
 refine qi (jy Z (g7 call171 Z (yx4 w8 hR zb) ?_));rintro v9 w9⟨rfl,hR,P⟩;have a:=a.g9 P zo;have b:=b.g9 P zo;have f:=f.g8 P zo;rw[show(4:Int)=((4:Nat):Int) from Z,offR_ok zl] at hR|-;have c:=c.ext P λy hy e=>by have e:y=rb:=e;have:=lA y hy;omega
 have hr:=Rt.ext hr P λe=>by have e:0=rb:=e;omega
 refine gv g5 Z (g7 call171 Z (yx4 w9 hR zb) ?_);rintro bn bp⟨rfl,_,s⟩;have a:=a.g9 s zo;have b:=b.g9 s zo;have f:=f.g8 s zo;rw[show(4:Int)=((4:Nat):Int) from Z,offR_ok (by rw[aW,aW];omega)];have c:=c.ext s λy hy e=>by have e:y=rb:=e;have:=lA y hy;omega
 have hr:=Rt.ext hr s λe=>by have e:0=rb:=e;omega
 let⟨t,ht⟩:∃t,t=zj4 B:=⟨_,Z⟩
 let⟨n,hn⟩:∃n,n=zw3 B:=⟨_,Z⟩
 have ak:t<4294967296:=by have:=ug ((B.drop 12).take 4);rw[aK,aW,j] at this;rw[ht];exact this
 have a7:n<4294967296:=by have:=ug ((B.drop 16).take 4);rw[aK,aW,j] at this;rw[hn];exact this
 rw[show num ((B.drop 12).take 4)=t from ht.symm,show num (((B.drop 12).drop 4).take 4)=n from by rw[List.drop_drop];exact hn.symm];refine k9 Z (jy Z ?_);rw[jt (n:Int) zo];refine jv Z ⟨⟨Z,by decide⟩,⟨Z,by decide⟩,trivial⟩ (l':=[.pointer (some ⟨d,0,none⟩),.int .i64 (n:Int)]) Z (have au:=c.lt;gn Z λY bq Q g A=>?_);have H:=gw a.lt Q;have aa:=gw b.lt Q;have av:=Nat.le_trans f.size Q;have a:=a.g0 A;have b:=b.g0 A;have c:=c.g0 A;have hr:=Rt.ext hr A id;have f:=f.g4 A;have aw:¬F Y:=λe=>by have:=au _ e;omega
 refine wl (gz (l':=[.pointer (some ⟨d,0,none⟩),.int .i64 (n:Int)]) g5 g Z Z Z Z OneC.h λbr g C bc=>?_);have a:=a.g9 C H;have b:=b.g9 C aa;have c:=c.ext C λx M e=>by have e:x=Y:=e;subst e;exact aw M
 have hr:=Rt.ext hr C λe=>by have e:0=Y:=e;omega
 have f:=f.g8 C av;refine qi (gh (jb (α:=Bool) [0,2,3,4,9,11,12] Z (λz=>[(53,.bool z)]) (λz u=>(z=decide (¬HeadOk i D.secs.length B)/\At u d F D2/\Rt u)/\gu u J 155 (nwV d o)/\gu u b6 165 (g6 B)/\gu u Y 155 ([.pointer (some ⟨d,0,none⟩),.int .i64 (n:Int)])/\Ext F w u) ?_ ?_));refine jl Z 17 [qP 0,qP 1,qP 2,qP 3,qP 4,qP 5,qP 6,(7,false),qP 8,qP 9,qP 10,qP 11,qP 12,qP 14,(13,false),qP 15,qP 16] [] (No) zk λax q bd=> have a8:=b;have ab:=g;have a:=a.g0 q;have b:=b.g0 q;have g:=g.g0 q;have c:=c.g0 q;have hr:=Rt.ext hr q id;have f:=f.g4 q;have hC:Ext (No) _ ax:=q.no;gl g5 2 Z ?_;rw[and1 t ak];refine gl g5 1 Z ?_;rw[jt ((t%2:Nat):Int) zo];refine gl g5 3 Z (ve 42 Z (λT=>?_) (λT=>?_));exact gl g5 11 Z (jd (j1 (gk (true) Z ⟨⟨by symm;rw[decide_eq_true_iff];exact λh=>T (by rw[ht,h.1]),c,hr⟩,a,b,g,f⟩)));have a9:zj4 B%2=i:=by rw[<-ht];omega
 refine kw g5 Z Z (λw' R=>((ab.g0 R).kc)) Z (jg Z (gx call70 Z (fits_calls ax c (n:Int) zo) λbs ba ac=>⟨(by let⟨rfl,k⟩:=ac;exact hC.g4 k),?_⟩));obtain⟨rfl,k⟩:=ac;have a:=a.g0 k;have b:=b.g0 k;have g:=g.g0 k;have c:=c.g0 k;have hr:=Rt.ext hr k id;have f:=f.g4 k;have hC:=hC.g4 k;rw[G,bT];refine gl g5 3 Z (Bo 47 Z (λT=>?_) (λT=>?_));have am:¬C0 (zw3 B) D.secs.length:=by rw[<-hn];intro h;rw[bN ⟨cT n,h⟩] at T;cases T
 exact gl g5 6 Z (jd (j1 (gk (true) Z ⟨⟨by symm;rw[decide_eq_true_iff];exact λh=>am h.2.1,c,hr⟩,a,b,g,f⟩)));have am:C0 (zw3 B) D.secs.length:=by rw[<-hn];simpa using T
 refine kw g5 Z Z (λw' R=>((ab.g0 R).kc)) Z (gl g5 1 Z (kw g5 Z Z (λw' R=>((a8.g0 R).kc)) (qg j) (jg Z (gx call147 Z (head_calls ba (.pointer (some ⟨d,0,none⟩)) n t a7 ak Z hr) λbt bu ad=>⟨(by let⟨rfl,l⟩:=ad;exact hC.g4 l),?_⟩))));obtain⟨rfl,l⟩:=ad;have a:=a.g0 l;have b:=b.g0 l;have g:=g.g0 l;have c:=c.g0 l;have hr:=Rt.ext hr l id;have f:=f.g4 l;refine wd_eqA (xs:=zw7 (xq1 t n)) (ys:=zw7 B) g5 Z Z zk (zw8 _) (zw8 _) (by rw[Bx,zx3]) (by rw[Bx,j]) ?_;simp only[bK,cW];exact gl g5 1 Z (jd (j1 (gk (_) Z ⟨⟨by rw[aH,ht,hn];exact⟨λh h2=>h (by rw[h2.2.2]),λh h2=>h ⟨a9,am,yz2.1 h2⟩⟩,c,hr⟩,a,b,g,f⟩)));rintro z bb ⟨⟨rfl,c,hr⟩,a,b,g,f⟩;refine jc Z (λE=>?_) (λE=>?_);exact vw (ke (qu (gk (D2,o) Z ⟨⟨c,r,by rw[p,newer_no E],V,G,hr⟩,a,f⟩)));have ay:HeadOk i D.secs.length B:=aN.1 E;refine vo (jb (α:=Bool) [0,2,3,4,9,11,12] Z (λz=>[(60,.bool z)]) (λz u=>u=bb/\z=decide (nwE o≠0\/nwT o<t)) ?_ ?_);refine gr (gv g5 Z (j7 56 Z (λT=>?_) (λT=>?_)));exact gm g5 4 Z (ga (gk (true) Z ⟨Z,by symm;rw[decide_eq_true_iff];exact .inl T⟩));exact gm g5 4 Z (ga (gk (_) Z ⟨Z,by rw[aH];omega⟩));rintro z bv ⟨hu,rfl⟩;have hu:=hu.symm;subst hu;refine jc Z (λE=>?_) (λE=>?_);refine gr (j8 g Z Z (gv g5 Z (wl (gz (l':=[.pointer (some ⟨d,0,none⟩),.int .i64 (n:Int)]) g5 a Z Z Z (by rw[zx1];rfl) OneC.h λbw a S bf=>?_))));have c:=c.ext S λx M e=>by have e:x=J:=e;subst e;exact U M
 have hr:=Rt.ext hr S λe=>by have e:0=J:=e;omega
 have f:=f.g8 S ag;refine gv g5 Z (ga ?_);exact jm (gk (D2,some (t,n)) Z ⟨⟨c,r,by rw[p,newer_yes ay (by rw[<-ht];exact E),ht,hn],ak,G,hr⟩,a,f⟩);exact jw (jm (gk (D2,o) Z ⟨⟨c,r,by rw[p,newer_old ay (by rw[<-ht];exact E)],V,G,hr⟩,a,f⟩));rintro⟨D2,o2⟩ bx ⟨⟨c,az,p,V,L,hr⟩,a,f⟩;refine xt Z ?_;rw[jt _ zo];exact ga (j9 (i+1,D2,o2) Z ⟨⟨by omega,c,az,p,V,L,hr⟩,a,f⟩ zf);have ah:i=2:=by omega
 subst ah;rw[p];refine zu (ki (j8 a Z (zx1 _ _) (gv g5 Z (wl (gz (l':=nwV d o) g5 a Z Z (zx1 _ _) (by rw[zx1]) (nwV_one _ _) λbz a ae bg=>?_)))));have c:=c.ext ae λx M e=>by have e:x=J:=e;subst e;exact U M
 have f:=f.g8 ae ag;refine vl Z (ko [_,_,_] ⟨⟨J,0,Z,kj g5 Z Z a.kc (zx1 _ _)⟩,Z,Z,trivial⟩ ?_);exact⟨Z,c,f⟩
theorem yj5:∀{R:List Bytes},(∀b∈R,b.length=64)->(R.flatMap g6).length=R.length*64
 | [],_=>rfl
 |b::R,h=>by
  rw[cZ,al,qg (h b zp),yj5 λx hx=>h x (by simp[hx]),aR]
  omega
theorem take_zero {R:List Bytes} {i:Nat} (hi:i<R.length):(∀b∈R.take (i+1),b=zeros)↔(∀b∈R.take i,b=zeros)/\R[i]=zeros:=by
 rw[List.take_succ_eq_append_getElem hi];constructor;exact λh=>⟨λb a=>h b (List.mem_append_left _ a),h _ (List.mem_append_right _ (aE.2 Z))⟩
 grind
theorem clean_calls (w:World) {x d m c:Nat} {H F:Nat->Prop} {W:Wl} {D:kg} {p:Option Addr} {L:List Bytes} (hW:xh w x d H W) (h:At w d F D) (hok:D.Ok m) (hm:m+2*L.length+10<1000000000) (hs:Sl w p L.length 64 (L.flatMap g6)) (hL:∀b∈L,b.length=64) (hc:L.length<=c) (hu:W.used<=L.length) (hLl:L.length<=100000) (hsz:W.size<1000000) (htu:W.turn<4294967296)
  (hHF:∀y,H y->¬F y) (hpF:∀y off,p=some ⟨y,off,none⟩->0<L.length->¬F y):
  ge prog 137 [.pointer (some ⟨x,0,none⟩),.slice p L.length c] w λv w'=>v= .int .i64 (zq4 D ((uk W.turn W.size+W.used:Nat):Int) (L.drop W.used)).2/\DkQ w d F (zq4 D ((uk W.turn W.size+W.used:Nat):Int) (L.drop W.used)).1 w':=by
 obtain⟨⟨q,cq,a5,a,a6,a7,a8⟩,an,a9⟩:=hW;have n:=h;have B:=hHF x an;have ba:=a.lt;obtain⟨R,hR⟩:∃R,R=L.drop W.used:=⟨_,Z⟩
 have ac:R.length=L.length-W.used:=by rw[hR,aW]
 have s:∀b∈R,b.length=64:=λb hb=>hL b (by rw[hR] at hb;exact List.mem_of_mem_drop hb);have f:Sl w (ub p W.used c 64) R.length 64 (R.flatMap g6):=by have e:=hs.slice W.used L.length c hu hc (aA _);rw[xx5 _ _ hL,<-hR,<-ac,aL (Nat.le_of_eq (yj5 s))] at e;exact e
 have ap:=hs;have ad:=f;obtain⟨g,ae⟩:∃g:Int,g=((uk W.turn W.size+W.used:Nat):Int):=⟨_,Z⟩
 have bb:uk W.turn W.size<=1000002:=by unfold uk;split<;>omega
 rw[<-hR,<-ae];refine gt func137 ?_;have k:=Ext.refl F w;refine jn Z (jy Z (gj Z (a.cell Z) (g7 call74 Z (yv1 w n hok zo) λv1 w1 aq=>?_)));obtain⟨bp,rfl,_,_,P⟩:=aq;have n:=n.g0 P;have a:=a.g0 P;have f:=f.g0 P;have k:=k.g4 P;refine k9 Z (gh (jy Z (gj Z (a.cell Z) (wl (Ay g5 Z W.used L.length c 64 Z (.inr ⟨Z,Z⟩) (.inr ⟨Z,Z⟩) (.inl Z) hu hc (aA _) ?_)))));dsimp only;rw[<-ac];refine k9 Z (j0 ?_);refine ja (α:=Nat×Bool×(Nat->Prop)×kg) [0,22,23] Z (λz=>[(5,.bool z.2.1),(24,.int .i64 (z.1:Int))]) (λz u=>(z.1<=R.length/\At u d z.2.2.1 z.2.2.2/\z.2.2.2.Ok (m+2*z.1)/\D8 D g R=D8 z.2.2.2 (g+(z.1:Nat)) (R.drop z.1)/\(z.2.1=true↔D.order=[]/\∀b∈R.take z.1,b=zeros)/\(∀y,z.2.2.1 y->F y\/w.heap.size<=y)/\gu u x 162 [.pointer (some ⟨d,0,none⟩),.int .i64 (W.size:Int),.int .u32 (W.turn:Int),.slice q W.pieces.length cq,.int .i64 (W.used:Int),.bool W.broken]/\Sl u (ub p W.used c 64) R.length 64 (R.flatMap g6))/\Ext F w u) (λz u=>R.length-z.1) (0,decide ((D.order.length:Int)=0),F,D) Z ⟨⟨aF _,n,hok,by simp,by simp,λy hy=> .inl hy,a,f⟩,k⟩ ?_;rintro⟨i,fl,G,Dz⟩ w2 ⟨⟨hi,n,t,j,C,Q,a,f⟩,k⟩;try dsimp only
 dsimp only at hi n t j C Q;have B:¬G x:=λe=>(Q x e).elim B zo;have ar:=k.size;refine uz Z (jc Z (λhc=>?_) (λhc=>?_));have l:i<R.length:=by omega
 obtain⟨Y,po,I,au⟩:=f.km (λr hr=>qg (s r hr)) zo;have bc:Y<w.heap.size:=by obtain⟨bd,bf,X,af⟩:=ad.km (λr hr=>qg (s r hr)) zo;rw[I] at X;cases X;exact(af i l).lt (λe=>by have:=congrArg List.length e;rw[qg (s _ (aC _))] at this;cases this)
 have ag:¬F Y:=by obtain⟨pL,oL,av,_⟩:=ap.km (λr hr=>qg (hL r hr)) zo;obtain⟨ah,e'⟩:=xj1 I (λy o sp e=>by rw[av] at e;cases e;rfl);exact hpF Y ah e' zo
 have ai:¬G Y:=λe=>(Q Y e).elim ag zo;rw[I] at f|-;have A:=s _ (aC l);refine vo ?_;refine jb (α:=Bool×(Nat->Prop)×kg) [0,22,23,24] Z (λz=>[(5,.bool z.1)]) (λz u=>(At u d z.2.1 z.2.2/\z.2.2.Ok (m+2*(i+1))/\D8 D g R=D8 z.2.2 (g+(i+1:Nat)) (R.drop (i+1))/\(z.1=true↔D.order=[]/\∀b∈R.take (i+1),b=zeros)/\(∀y,z.2.1 y->F y\/w.heap.size<=y)/\gu u x 162 [.pointer (some ⟨d,0,none⟩),.int .i64 (W.size:Int),.int .u32 (W.turn:Int),.slice q W.pieces.length cq,.int .i64 (W.used:Int),.bool W.broken]/\Sl u (some ⟨Y,po,none⟩) R.length 64 (R.flatMap g6))/\Ext F w u) ?_ ?_;refine j0 ?_;refine jy Z (jo Z 64 Z i Z l (po+i*64) Z (je Z (au i l) (qg A) ?_));have aw:=n.lt;refine gn Z λb7 w3 ax aa S=>?_;have ay:=Nat.le_trans k.size ax;have n:=n.g0 S;have a:=a.g0 S;have f:=f.g0 S;have k:=k.g4 S;refine gv g5 Z ?_;have az:¬G b7:=λe=>by have:=aw _ e;omega
 refine wl (gz (l':=g6 R[i]) g5 aa Z Z (qg A) (by rw[qg A];rfl) OneC.h λw4 aa T bg=>?_);have n:=n.ext T λx hx e=>by have e:x=b7:=e;subst e;exact az hx
 have a:=a.ext T λe=>by have e:x=b7:=e;omega
 have f:=f.ext T λb o e h=>by cases e;have h:Y=b7:=h;omega
 have k:=k.g8 T ay;refine qi (gh (ki (j8 aa Z (qg A) (jv Z trivial (l':=g6 zeros) (by rw[zeros_b];rfl) ?_))));refine wl (st_eqA (xs:=zw7 R[i]) (ys:=zw7 zeros) g5 Z zk (zw8 _) (zw8 _) (by rw[Bx,A]) (by rw[Bx,zeros_length]) ?_);simp only[cH];refine qi (jc Z (λhc=>?_) (λhc=>?_));have hz:=yz2.1 hc;rw[wipeD_zero l hz] at j;refine vw ?_;exact ke (qu (gk (fl,G,Dz) Z ⟨⟨n,t.mono zo,j,C.trans (by rw[take_zero l];exact⟨λh=>⟨h.1,h.2,hz⟩,λh=>⟨h.1,h.2.1⟩⟩),Q,a,f⟩,k⟩));have hz:¬R[i]=zeros:=λe=>hc (yz2.2 e);rw[wipeD_step l hz] at j;refine vo (uz Z ?_);refine jl Z 24 [qP 0,qP 1,qP 2,qP 3,qP 4,qP 5,qP 6,qP 7,qP 8,qP 9,qP 10,qP 11,qP 12,qP 14,qP 15,qP 16,qP 17,qP 19,qP 21,(13,false),qP 18,qP 20,(22,false),qP 23] [] (G) zk λw5 M bh=>?_;have K:=a;have n:=n.g0 M;have a:=a.g0 M;have f:=f.g0 M;have k:=k.g4 M;have hC:Ext (G) _ w5:=M.no;refine gl g5 4 Z (gy g5 Z Z (λw' E=>((K.ext E B).cell Z)) ?_);refine gl g5 3 Z (kw g5 Z Z (λw' E=>((K.ext E B).kc.take 2)) Z ?_);refine gl g5 3 Z (gy g5 Z Z (λw' E=>((K.ext E B).cell Z)) ?_);refine gl g5 3 Z (gy g5 Z Z (λw' E=>((K.ext E B).cell Z)) ?_);refine gl g5 1 Z (zv7 g5 Z Z trivial (l':=g6 zeros) (by rw[zeros_b];rfl) ?_);refine jg Z (gx call120 Z (yw4 w5 (.pointer (some ⟨d,0,none⟩)) W.size W.turn zo htu Z) λv6 w6 aj=>⟨(by obtain⟨rfl,J⟩:=aj;exact hC.g4 J),?_⟩);obtain⟨rfl,J⟩:=aj;have n:=n.g0 J;have a:=a.g0 J;have f:=f.g0 J;have k:=k.g4 J;have hC:=hC.g4 J;refine gl g5 2 Z ?_;rw[show IntKind.i64.wrap (IntKind.i64.wrap ((uk W.turn W.size:Int)+(W.used:Int))+(i:Int))=g+(i:Nat) from by rw[jt ((uk W.turn W.size:Int)+(W.used:Int)) zo,jt _ zo,ae];omega];have a0:=k.size;refine jg Z (gx call143 Z (dkWrite w6 n t zo (g+(i:Nat)) zeros_length) λv7 w7 ak=>⟨(by obtain⟨rfl,G2,N,O,U⟩:=ak;exact hC.then O),?_⟩);obtain⟨rfl,G2,N,O,U⟩:=ak;have k:=k.trans O λy hy e=>(Q y e).resolve_right zo;have a:=a.ext O B;have f:=f.ext O λb o e h=>by cases e;exact ai h
 have V:=Al Q a0 U;refine gl g5 1 Z (jd (j1 (jh (jn Z (jc Z (λhc=>?_) (λhc=>?_))))));rw[aM hc] at j;have ab:zq4 D g R=Dz.write (g+(i:Nat)) zeros:=by unfold zq4;dsimp only;rw[j,aM hc]
 rw[ab];refine jn Z (j6 (gGk (gp Z Z ?_)));exact⟨Z,G2,N,k,V⟩
 rw[aJ hc] at j;refine jw ?_;exact jm (gk (false,G2,(Dz.write (g+(i:Nat)) zeros).1) Z ⟨⟨N,t.write _ zeros_length,j,⟨λh=>(by cases h),λh=>absurd (((take_zero l).1 h.2).2) hz⟩,V,a,f⟩,k⟩);rintro⟨a1,G2,D2⟩ w8 ⟨⟨n,am,j,C,V,a,f⟩,k⟩;refine xt Z ?_;rw[jt _ zo];refine ga ?_;exact j9 (i+1,a1,G2,D2) Z ⟨⟨l,n,am,j,C,V,a,f⟩,k⟩ zf;have l:i=R.length:=by omega
 subst l;rw[List.drop_length] at j;rw[bC] at C;have ab:zq4 D g R=if fl=true then(Dz,0) else Dz.sync:=by unfold zq4;dsimp only;rw[j];show(if(0:Int)≠0 then _ else _)=_;rw[aJ zd];by_cases hf:fl=true;rw[aM (C.1 hf),aM hf];rfl;rw[aJ (λe=>hf (C.2 e)),aJ hf];rfl
 rw[ab];refine zu (gh (jn Z (u5 Z (λhc=>?_) (λhc=>?_))));rw[aM hc];refine jn Z (j6 (j2 (gp Z Z ?_)));exact⟨Z,G,n,k,Q⟩
 rw[aJ (by rw[hc];decide)];refine vo (jy Z (gj Z (a.cell Z) (g7 call144 Z (dkSync w2 n t zo) λv9 w9 a2=>?_)));obtain⟨rfl,G2,N,a3,U⟩:=a2;have a4:=k.trans a3 λy hy e=>(Q y e).resolve_right zo;refine vl Z (gp Z Z ?_);exact⟨Z,G2,N,a4,Al Q ar U⟩
theorem lies_calls' (w:World) {p:Option Addr} {c t n:Nat} {L:List Bytes} (hs:Sl w p L.length 64 (L.flatMap g6)) (hL:∀b∈L,b.length=64) (hc:L.length<=c) (hLl:L.length<=100000) (ht:t<4294967296) (hn:n<4294967296) (hr:Rt w):
  ge prog 136 [.slice p L.length c,.int .u32 (t:Int),.int .u32 (n:Int)] w λv w'=>∃q k,v= .tuple #[.slice q ((zj3 L t n).getD []).length k,.bool (zj3 L t n).isSome]/\(∀b,zj3 L t n=some b->A3 w w' q k b)/\Ext No w w':=by
 refine(lies_calls w hs hL hc hLl ht hn hr).mono ?_;rintro v w' ⟨h,a⟩;cases ho:zj3 L t n with
 |none=>rw[ho] at h;exact⟨none,0,h,(λb e=>by cases e),a⟩
 |some b=>rw[ho] at h;let⟨q,k,d,f⟩:=h;exact⟨q,k,d,(λg e=>by cases e;exact f),a⟩
theorem noOwnB {w : World} : ∀ y, j5 none y -> w.heap.size <= y := λy h => by cases h
theorem TyB.lt {w : World} {b T : Nat} (h : TyB w b T) : b < w.heap.size := let ⟨_, h⟩ := h; h.lt
theorem flat_rep (n : Nat) : (List.replicate n zeros).flatMap g6 = Cl n (g6 zeros) := by
  unfold Cl
  rw [List.flatMap_def, List.map_replicate]
theorem pad64 {R:List Bytes} (h:∀b∈R,b.length=64) {n:Nat}:∀b∈R++List.replicate n zeros,b.length=64:=λb hb=>(aV.1 hb).elim (h b) (zeros_64 b)
theorem pad_len {R : List Bytes} {n i : Nat} (hi : i <= n) (hR : R.length = i) : (R ++ List.replicate (n - i) zeros).length = n := by simp [hR]; omega
theorem flat_set {R:List Bytes} {n i:Nat} (hi:i<n) (hR:R.length=i) (h64:∀b∈R,b.length=64) {b:Bytes} (hb:b.length=64):
  Vc.put ((R++List.replicate (n-i) zeros).flatMap g6) (i*64) (g6 b)=((R++[b])++List.replicate (n-(i+1)) zeros).flatMap g6:=by
 have c:(R.flatMap g6).length=i*64:=by rw[yj5 h64,hR]
 have e:List.replicate (n-i) zeros=zeros::List.replicate (n-(i+1)) zeros:=by rw[show n-i=(n-(i+1))+1 from by omega,List.replicate_succ]
 have d:(g6 zeros).length=64:=qg zeros_length;have a:(g6 b).length=64:=qg hb;rw[e,aQ,cZ,put_eq _ _ _ (by simp only[al,c,d,a];omega),dB c,a];rw[List.drop_append,bY zo,c,bU,show i*64+64-i*64=64 from by omega,List.drop_left' d];simp[aQ,aU]
theorem open_calls (w:World) {d m:Nat} {F:Nat->Prop} {D:kg} (h:At w d F D) (hok:D.Ok m) (hm:m+10000<1000000000) (hr:Rt w) (hF0:¬F 0):
  ge prog 58 [.pointer (some ⟨d,0,none⟩)] w λv w'=>∃(xo:Option Addr) (F':Nat->Prop),v= .tuple #[.pointer xo,.int .i64 (qj D).2.1]/\At w' d F' (qj D).1/\Ext F w w'/\(∀y,F' y->F y\/w.heap.size<=y)/\((qj D).2.1≠0->xo=none)/\((qj D).2.1=0->LogOf w w' d F' xo (Wl.opened (qj D))):=by
 refine gt func58 ?_;have k:=Ext.refl F w;have T:=h.lt;have c7:=hr.lt;have p:=h;refine jn Z (c_scope (gh (jn Z (qz Z (vo (jy Z ?_))))));refine g7 call135 Z (newest_calls w p hok zo hr hF0) λv1 w1 ci=>?_;obtain⟨rfl,p,br⟩:=ci;have k:=k.then br;have hr:=Rt.ext hr br hF0;obtain⟨⟨a5,bs,bt⟩,I⟩:=newestD_spec hok;obtain⟨e,he⟩:∃e,e=(ue D).2.1:=⟨_,Z⟩
 rw[<-he] at I|-;refine gv g5 Z (gn Z λb4 w2 bu g bg=>?_);have cj:=Nat.le_trans k.size bu;have p:=p.g0 bg;have hr:=Rt.ext hr bg id;have k:=k.g4 bg;have bv:¬F b4:=λe=>by have:=T _ e;omega
 refine wl (gz (l':=nwV d (ue D).2.2) g5 g Z Z (zx1 _ _) (by rw[zx1];rfl) (nwV_one _ _) λw3 g bh c8=>?_);have p:=p.ext bh λx hx e=>by have e:x=b4:=e;subst e;exact bv hx
 have hr:=Rt.ext hr bh λe=>by have e:0=b4:=e;omega
 have k:=k.g8 bh cj;refine k9 Z (gh (jn Z (jc Z (λS=>?_) (λS=>?_))));have ck:(ue D).2.2=none:=I.elim (λh=>h.1) λ⟨t,n,_,h,_⟩=>absurd h S;have ho:=openW_no ck;rw[<-he] at ho;rw[ho];refine jn Z (j6 (j2 (yz4 (ko [_,_] ⟨Z,Z,trivial⟩ ?_))));exact⟨none,F,Z,p,k,λy o=> .inl o,λ_=>rfl,λe=>absurd e S⟩
 obtain⟨t,n,ah,_,a6,ht⟩:=I.resolve_left λh=>h.2 (aN.1 S);rw[ah] at g|-;have g:gu w3 b4 155 [.pointer (some ⟨d,0,none⟩),.int .i64 (n:Int)]:=g;have ho:=openW_yes ah;rw[ho];obtain⟨D1,cm⟩:∃D1,D1=(ue D).1:=⟨_,Z⟩
 rw[<-cm] at p a5 bs bt|-;have bu:=a6.1;have c9:=a6.2.1;have da:uk t n<=1002:=by unfold uk;split<;>omega
 dsimp only[nwT];refine vo (jy Z (gj Z (g.cell Z) ?_));refine wl (zq8 g5 Z n n 64 Z (zs:=g6 zeros) z29 Z zd Z Z (aA _) zo zq λK w4 a7 a ay db=>?_);have az:=gw g.lt a7;have bw:=Nat.le_trans k.size a7;have g:=g.g0 ay;have p:=p.g0 ay;have hr:=Rt.ext hr ay id;have k:=k.g4 ay;have a:gu w4 K 165 ((([]:List Bytes)++List.replicate (n-0) zeros).flatMap g6):=by(rw[bU,bH,flat_rep];exact a)
 have ai:¬F K:=λe=>by have:=T _ e;omega
 refine k9 Z (gh (jn Z (j0 ?_)));refine ja (α:=Nat×kg×List Bytes) [0,4,5,7,28] Z (λz=>[(29,.int .i64 (z.1:Int))]) (λz u=>(z.1<=n/\At u d F z.2.1/\z.2.1.Ok (m+2+z.1)/\z.2.2.length=z.1/\(∀b∈z.2.2,b.length=64)/\yw D1 (uk t n) n=((yw z.2.1 ((uk t n:Int)+(z.1:Nat)) (n-z.1)).1,z.2.2++(yw z.2.1 ((uk t n:Int)+(z.1:Nat)) (n-z.1)).2.1,(yw z.2.1 ((uk t n:Int)+(z.1:Nat)) (n-z.1)).2.2)/\Rt u)/\gu u b4 155 ([.pointer (some ⟨d,0,none⟩),.int .i64 (n:Int)])/\gu u K 165 ((z.2.2++List.replicate (n-z.1) zeros).flatMap g6)/\Ext F w u) (λz u=>n-z.1) (0,D1,[]) Z ⟨⟨aF _,p,a5,Z,(λb hb=>by cases hb),by simp,hr⟩,g,a,k⟩ ?_;rintro⟨i,Di,R⟩ w5 ⟨⟨hi,p,W,V,L,s,hr⟩,g,a,k⟩;try dsimp only
 dsimp only at hi p W V L s;refine uz Z (jc Z (λS=>?_) (λS=>?_));have aj:i<n:=by omega
 rw[show n-i=(n-(i+1))+1 from by omega,readsD_step] at s;refine yz (jn Z (jy Z (j8 g Z Z (gv g5 Z ?_))));refine g7 call120 Z (yw4 w5 (.pointer (some ⟨d,0,none⟩)) n t zo ht Z) λv6 w6 cp=>?_;obtain⟨rfl,ak⟩:=cp;have g:=g.g0 ak;have a:=a.g0 ak;have p:=p.g0 ak;have hr:=Rt.ext hr ak id;have k:=k.g4 ak;refine gv g5 Z ?_;rw[jt _ zo];refine g7 call78 Z (dkRead w6 p W zo ((uk t n:Int)+(i:Nat))) λv7 w7 cr=>?_;obtain⟨rfl,p,a0⟩:=cr;have g:=g.ext a0 bv;have a:=a.ext a0 ai;have k:=k.then a0;have hr:=Rt.ext hr a0 hF0;obtain⟨x,hx⟩:∃x,x=Di.read ((uk t n:Int)+(i:Nat)):=⟨_,Z⟩
 have X:=read_64 W ((uk t n:Int)+(i:Nat));have am:=W.read ((uk t n:Int)+(i:Nat));rw[<-hx] at s X am p|-;obtain⟨D2,B,e2⟩:=x;dsimp only at s X am p|-;refine gv g5 Z (jo Z 64 Z i Z aj (0+i*64) Z ?_);refine wl (Bw g5 a Z (by rw[j4];exact qg X) (by rw[yj5 (pad64 L),pad_len zo V];show 0+i*64+64<=n*64;omega) (by rw[j4];exact Aq) λw8 a a1 dc=>?_);have g:=g.g9 a1 az;have p:=p.ext a1 λx hx e=>by have e:x=K:=e;subst e;exact ai hx
 have hr:=Rt.ext hr a1 λe=>by have e:0=K:=e;omega
 have k:=k.g8 a1 bw;have a:gu w8 K 165 (((R++[B])++List.replicate (n-(i+1)) zeros).flatMap g6):=(by rw[<-flat_set aj V L X];have e:=a;rw[aX] at e;simpa using e)
 refine k9 Z (jn Z (jc Z (λS=>?_) (λS=>?_)));rw[aM S] at s;have an:xg D1 t n=(D2,e2,0,0,[]):=by unfold xg;dsimp only;rw[s,aM S]
 rw[an];refine jn Z (j6 (gGk (yz4 (ko [_,_] ⟨Z,Z,trivial⟩ ?_))));exact⟨none,F,Z,p,k,λy o=> .inl o,λ_=>rfl,λe=>absurd e S⟩
 rw[aJ S] at s;refine jw (yt Z ?_);rw[jt _ zo];refine ga ?_;exact j9 (i+1,D2,R++[B]) Z ⟨⟨aj,p,am,by simp[V],λb hb=>(aV.1 hb).elim (L b) λh=>by rw[aE.1 h];exact X,by rw[s];dsimp only;rw[show(uk t n:Int)+((i+1:Nat):Int)=(uk t n:Int)+(i:Nat)+1 from by omega,aU];rfl,hr⟩,g,a,k⟩ zf;have aj:n=i:=by omega
 subst aj;rw[Nat.sub_self] at s a;have s:yw D1 (uk t n) n=(Di,R,0):=by rw[s];show(Di,R++[],(0:Int))=_;rw[bJ]
 rw[List.replicate_zero,bJ] at a;refine zu (ki (j8 g Z Z (gv g5 Z ?_)));refine jv Z ⟨⟨Z,by decide⟩,⟨Z,by decide⟩,trivial⟩ (l':=[.pointer (some ⟨d,0,none⟩),.int .i64 (n:Int),.int .u32 (t:Int),.slice none 0 0,.int .i64 (0:Int),.bool false]) Z ?_;refine gn Z λM w9 ac f ap=>?_;have ad:=gw g.lt ac;have Y:=gw a.lt ac;have aq:=Nat.le_trans k.size ac;have g:=g.g0 ap;have a:=a.g0 ap;have p:=p.g0 ap;have hr:=Rt.ext hr ap id;have k:=k.g4 ap;have f:gu w9 M 162 ([.pointer (some ⟨d,0,none⟩),.int .i64 (n:Int),.int .u32 (t:Int),.slice none ([]:List Bytes).length 0,.int .i64 (uj []:Int),.bool false]):=f;have a8:¬F M:=λe=>by have:=T _ e;omega
 have c1:=ac;refine k9 Z (gh (c_label (jh (gh (j0 ?_)))));refine ja (α:=List Bytes×Option Addr×Nat×List Value) [5,7,9] Z (λz=>[]) (λz u=>(uj z.1<=n/\z.1.length<=uj z.1/\(∀b∈z.1,b.length<=40000)/\lyingB R t=z.1++lyGo t (R.length-z.1.length) (R.drop (uj z.1)) z.1.length/\At u d F Di/\Rt u/\Own u z.2.1 z.1.length z.2.2.1 41 1 z.2.2.2/\(∀y,j5 z.2.1 y->w.heap.size<=y)/\qq u (λy=>w.heap.size<=y/\y<u.heap.size) z.1 z.2.2.2)/\gu u b4 155 ([.pointer (some ⟨d,0,none⟩),.int .i64 (n:Int)])/\gu u K 165 (R.flatMap g6)/\gu u M 162 ([.pointer (some ⟨d,0,none⟩),.int .i64 (n:Int),.int .u32 (t:Int),.slice z.2.1 z.1.length z.2.2.1,.int .i64 (uj z.1:Int),.bool false])/\Ext F w u) (λz u=>n-uj z.1) ([],none,0,[]) Z ⟨⟨aF _,aA _,(λb hb=>by cases hb),Z,p,hr,Own.nil _ _ _,noOwnB,⟨Z,λi b v h=>by cases h⟩⟩,g,a,f,k⟩ ?_;rintro⟨G,q,cq,ar⟩ dd ⟨⟨bi,cs,bx,aa,p,hr,j,ag,r⟩,g,a,f,k⟩;try dsimp only
 dsimp only at bi cs bx aa j ag r f;have a2:(R.drop (uj G)).length=n-uj G:=by rw[aW,V]
 have ae:∀b∈R.drop (uj G),b.length=64:=λb hb=>L b (List.mem_of_mem_drop hb);rw[lyGo_step t _ _ _ ae (by rw[a2,V];omega)] at aa;refine j0 (gh ?_);refine jl Z 19 [qP 0,qP 1,qP 2,qP 3,qP 4,qP 5,qP 6,qP 7,qP 8,qP 9,qP 10,qP 11,qP 12,(13,false),qP 14,qP 15,qP 16,qP 17,qP 18] [] (No) zk λau H c2=>?_;have af:=f;have g:=g.g0 H;have a:=a.g0 H;have f:=f.g0 H;have p:=p.g0 H;have hr:=Rt.ext hr H id;have r:=qq.mono (H':=λy=>w.heap.size<=y/\y<au.heap.size) (r.ext H λ_ _ _=>id) λy o=>And.intro o.1 (aG o.2 H.size);have j:=j.ext H λ_ _=>id;have k:=k.g4 H;have hC:Ext (No) _ au:=H.no;refine gl g5 4 Z (gy g5 Z Z (λw' av=>((af.g0 av).cell Z)) ?_);refine yx5 g5 Z Z (uj G) n n 64 Z (.inr ⟨Z,Z⟩) (.inr ⟨Z,Z⟩) (.inl Z) bi (aA _) (aA _) ?_;dsimp only;rw[<-a2];refine gl g5 4 Z (gy g5 Z Z (λw' av=>((af.g0 av).cell Z)) ?_);refine gl g5 2 Z ?_;rw[wrap32 G.length zo]
 have ct:Sl au (ub (some ⟨K,0,none⟩) (uj G) n 64) (R.drop (uj G)).length 64 ((R.drop (uj G)).flatMap g6):=by
  have cu:Sl au (some ⟨K,0,none⟩) n 64 (R.flatMap g6):=⟨by rw[yj5 L,V],.inr ⟨K,0,Z,a.kc⟩⟩
  have e:=cu.slice (uj G) n n bi (aA _) (aA _);rw[xx5 _ _ L,aL (by rw[yj5 ae,a2];exact aA _),<-a2] at e;exact e
 have de:=k.size;refine jg Z (gx call136 Z (lies_calls' au (c:=(R.drop (uj G)).length) ct ae (aA _) zo ht (n:=G.length) zo hr) λdf ab a9=>⟨(by obtain⟨qp,kp,rfl,bj,A⟩:=a9;exact hC.g4 A),?_⟩);obtain⟨qp,kp,rfl,bj,A⟩:=a9;have g:=g.g0 A;have a:=a.g0 A;have f:=f.g0 A;have p:=p.g0 A;have hr:=Rt.ext hr A id;have r:=qq.mono (H':=λy=>w.heap.size<=y/\y<ab.heap.size) (r.ext A λ_ _ _=>id) λy o=>And.intro o.1 (aG o.2 A.size);have j:=j.ext A λ_ _=>id;have k:=k.g4 A;refine gl g5 5 Z (jd (j1 (jh (gh (jn Z (u5 Z (λS=>?_) (λS=>?_)))))))
 have a3:zj3 (R.drop (uj G)) t G.length=none:=by
  cases hl:zj3 (R.drop (uj G)) t G.length with
  |none=>rfl
  |some b=>rw[hl] at S;cases S
 rw[a3,bJ] at aa;refine vw (ke (f_blockE' Z (ke (qu (jh (gh (jy Z (gj Z (f.cell Z) (k9 Z (jc Z (λS=>?_) (λS=>?_)))))))))));have bk:G=[]:=aT zo;have an:xg D1 t n=(Di,140,0,0,[]):=by unfold xg;dsimp only;rw[s,aJ zp,aa,aM bk]
 rw[an];refine jn Z (j6 (j2 (yz4 (ko [_,_] ⟨Z,Z,trivial⟩ ?_))));exact⟨none,F,Z,p,k,λy o=> .inl o,λ_=>rfl,λe=>absurd (show(140:Int)=0 from e) zd⟩
 have bk:G≠[]:=λe=>S (by rw[e];rfl);obtain⟨C,hC⟩:∃C,C=zq4 Di ((uk t n+uj G:Nat):Int) (R.drop (uj G)):=⟨_,Z⟩
 have an:xg D1 t n=(C.1,C.2,t,n,G):=by unfold xg;dsimp only;rw[s,aJ zp,aa,aJ bk,hC]
 rw[an];have ba:xh ab M d (λy=>w.heap.size<=y/\y<ab.heap.size) ⟨Di,n,t,G,uj G,false⟩:=⟨⟨q,cq,ar,f,j,r,λy o=>⟨ag y o,j.lt o⟩⟩,⟨aq,f.lt⟩,λy o=>o.2⟩
 have bz:Sl ab (some ⟨K,0,none⟩) R.length 64 (R.flatMap g6):=⟨yj5 L,.inr ⟨K,0,Z,a.kc⟩⟩
 have cv:=k.size;refine vo (gh (jy Z ?_));rw[show Value.slice (some ⟨K,0,none⟩) n n= .slice (some ⟨K,0,none⟩) R.length n from by rw[V]];refine g7 call137 Z (clean_calls ab (c:=n) ba p W (by rw[V];omega) bz L zo zn zo zn ht (λy o e=>by have:=T y e;have:=o.1;omega) (λy a4 e _ h=>by cases e;exact ai h)) λdg dh b0=>?_;obtain⟨rfl,F2,bm,bb,b1⟩:=b0;rw[<-hC] at bm|-;have k:=k.then bb;have bn:=ba.ext bb λy o e=>by have:=T y e;have:=o.1;omega
 have b2:=Al (λy=> .inl) cv b1;refine k9 Z (jn Z (jc Z (λS=>?_) (λS=>?_)));refine gh ?_;refine gr (vl Z (j2 (yz4 (ko [_,_] ⟨Z,Z,trivial⟩ ?_))));exact⟨none,F2,Z,bm,k,b2,λ_=>rfl,λe=>absurd e S⟩
 refine jw ?_;refine jh (jn Z (j6 (yz4 (ko [_,_] ⟨Z,Z,trivial⟩ ?_))));have b3:C.2=0:=aN.1 S;refine⟨some ⟨M,0,none⟩,F2,by dsimp only;rw[b3];rfl,bm,k,b2,λe=>absurd b3 e,λ_=>⟨M,_,Z,bn.data Z Z Z Z Z,λy o=>⟨o.1,λe=>?_⟩⟩⟩;rcases b1 y e with e|e;have:=T y e;have:=o.1;omega;have:=o.2;omega
 obtain⟨b,a3⟩:∃b,zj3 (R.drop (uj G)) t G.length=some b:=by
  cases hl:zj3 (R.drop (uj G)) t G.length with
  |none=>rw[hl] at S;cases S
  |some b=>exact⟨b,Z⟩
 rw[a3] at aa bj|-;obtain⟨bc,di,_⟩:=liesB_some ae a3;have dj:=Cu bc;obtain⟨cw,b5,aw⟩:=bj b Z;have cx:zw ab (λy=>w.heap.size<=y/\y<ab.heap.size) (.slice qp b.length kp) b:=⟨qp,kp,Z,cw,b5,λy a4 e=>⟨⟨by have:=(aw y a4 e).1;omega,(aw y a4 e).2.lt⟩,(aw y a4 e).2⟩⟩
 dsimp only[Option.getD_some];have r:=r.snoc cx;refine vo (jy Z (gj Z (f.cell Z) (gv g5 Z ?_)));refine wl (kz g5 Z 1 Z Z Z zd zd zt (l':=[.slice qp b.length kp]) Z λcy cz ax b6 N c3=>?_);have ch:=gw g.lt ax;have b7:=gw a.lt ax;have b8:=gw f.lt ax;have g:=g.g0 N;have a:=a.g0 N;have f:=f.g0 N;have p:=p.g0 N;have hr:=Rt.ext hr N id;have r:=qq.mono (H':=λy=>w.heap.size<=y/\y<cz.heap.size) (r.ext N λ_ _ _=>id) λy o=>And.intro o.1 (aG o.2 N.size);have j:=j.ext N λ_ _=>id;have k:=k.g4 N;have dk:=k.size;refine wl (ul g5 Z 1 24 Z Z Z zd j (Src.slice (m:=1) ⟨Z,.inr ⟨cy,0,Z,b6.kc⟩⟩ OneC.h) zm zn λbp b9 ca cb O cc=>?_);have g:=g.ext O λe=>(Own.ty j e).ne g zd Z;have a:=a.ext O λe=>(Own.ty j e).ne a zd Z;have f:=f.ext O λe=>(Own.ty j e).ne f zd Z;have k:=k.trans O λy o e=>by have:=ag y e;omega
 have p:=p.ext O λy o e=>by have:=ag y e;have:=T y o;omega
 have hr:=Rt.ext hr O λe=>by have:=ag _ e;omega
 have r:=qq.mono (H':=λy=>w.heap.size<=y/\y<ca.heap.size) (r.ext O λy o ht h=>by obtain⟨l,hl⟩:=Own.ty j h;exact ht.ne hl zd Z) λy o=>And.intro o.1 (aG o.2 O.size);have bd:∀y,j5 bp y->w.heap.size<=y:=λy o=>(cc y o).elim (ag y) λe=>by omega
 have j:Own ca bp (G++[b]).length b9 41 1 (ar++[.slice qp b.length kp]):=by rw[al];exact cb
 dsimp only;refine gv g5 Z ?_;have U:=f;obtain⟨pn,cd⟩:∃pn,pn=bp:=⟨_,Z⟩
 obtain⟨cn,ce⟩:∃cn,cn=b9:=⟨_,Z⟩
 rw[<-cd] at j bd|-;rw[<-ce] at j|-;refine ka f Z Z Z λcf f P c4=>?_;have g:=g.g9 P ad;have a:=a.g9 P Y;have p:=p.ext P λx hx e=>by have e:x=M:=e;subst e;exact a8 hx
 have hr:=Rt.ext hr P λe=>by have e:0=M:=e;omega
 have r:=qq.mono (H':=λy=>w.heap.size<=y/\y<cf.heap.size) (r.ext P λy o ht h=>by have h:y=M:=h;subst h;exact ht.ne U zd Z) λy o=>And.intro o.1 (aG o.2 P.size);have j:=j.ku P U zd;have k:=k.g8 P aq;have f:gu cf M 162 ([.pointer (some ⟨d,0,none⟩),.int .i64 (n:Int),.int .u32 (t:Int),.slice pn (G++[b]).length cn,.int .i64 (uj G:Int),.bool false]):=by(rw[al];exact f)
 refine qi (jl Z 10 [qP 0,qP 1,qP 2,qP 3,qP 4,qP 5,(6,false),qP 7,qP 8,qP 9] [10] (No) zk λbq J c5=>?_);have af:=f;have g:=g.g0 J;have a:=a.g0 J;have f:=f.g0 J;have p:=p.g0 J;have hr:=Rt.ext hr J id;have r:=qq.mono (H':=λy=>w.heap.size<=y/\y<bq.heap.size) (r.ext J λ_ _ _=>id) λy o=>And.intro o.1 (aG o.2 J.size);have j:=j.ext J λ_ _=>id;have k:=k.g4 J;have hC:Ext (No) _ bq:=J.no;refine gl g5 3 Z (gy g5 Z Z (λw' av=>((af.ext av id).cell Z)) ?_);refine gl g5 2 Z (jg Z (gx call65 Z (xi bq (b.length:Int)) λdm c0 bf=>⟨(by obtain⟨rfl,E⟩:=bf;exact hC.g4 E),?_⟩));obtain⟨rfl,E⟩:=bf;have g:=g.g0 E;have a:=a.g0 E;have f:=f.g0 E;have p:=p.g0 E;have hr:=Rt.ext hr E id;have r:=qq.mono (H':=λy=>w.heap.size<=y/\y<c0.heap.size) (r.ext E λ_ _ _=>id) λy o=>And.intro o.1 (aG o.2 E.size);have j:=j.ext E λ_ _=>id;have k:=k.g4 E;rw[Bd];refine gl g5 1 Z ?_;rw[show IntKind.i64.wrap ((uj G:Int)+(kl b.length:Int))=(uj (G++[b]):Int) from by rw[jt _ zo,Ct];omega];refine gl g5 2 Z (jd ?_);have U:=f;refine wb Z (Aa g5 f Z Z Z λcg f Q c6=>?_);have g:=g.g9 Q ad;have a:=a.g9 Q Y;have p:=p.ext Q λx hx e=>by have e:x=M:=e;subst e;exact a8 hx
 have hr:=Rt.ext hr Q λe=>by have e:0=M:=e;omega
 have r:=qq.mono (H':=λy=>w.heap.size<=y/\y<cg.heap.size) (r.ext Q λy o ht h=>by have h:y=M:=h;subst h;exact ht.ne U zd Z) λy o=>And.intro o.1 (aG o.2 Q.size);have j:=j.ku Q U zd;have k:=k.g8 Q aq;have f:gu cg M 162 ([.pointer (some ⟨d,0,none⟩),.int .i64 (n:Int),.int .u32 (t:Int),.slice pn (G++[b]).length cn,.int .i64 (uj (G++[b]):Int),.bool false]):=f;refine j1 ?_;exact jm (j9 (G++[b],pn,cn,ar++[.slice qp b.length kp]) Z ⟨⟨by dsimp only;rw[Ct];omega,by dsimp only;rw[Ct,al];simp only[aR,dF];omega,λx hx=>(aV.1 hx).elim (bx x) λh=>by rw[aE.1 h];exact bc,by dsimp only;rw[aa];dsimp only;rw[Ct,al,List.drop_drop,aU,Nat.sub_sub];rfl,p,hr,j,bd,r⟩,g,a,f,k⟩ (by dsimp only;rw[Ct];omega))
theorem does1_calls (w:World) {bx be x:Nat} {e:Int} {a0 a1 a2 a3 a4:Value} {b0:Bool} (hbx:gu w bx 58 [.pointer (some ⟨x,0,none⟩)]) (hbe:gu w be 38 [.int .i64 e]) (hb:gu w x 162 [a0,a1,a2,a3,a4,.bool b0]):
  CallsDIn Fence.wide 8 prog 177 #[.pointer (some ⟨be,0,none⟩),.pointer (some ⟨bx,0,none⟩)] .returning w λe' u' w'=>u'= .returning/\Rv (λ_ w'=>gu w' x 162 [a0,a1,a2,a3,a4,.bool (decide (e≠0))]/\Ext (One x) w w') e' w':=by
 refine callsD_enter func177 Z Z Z Z (have a:=Ext.refl (One x) w;gr (gj Z (hbx.cell Z) (gj Z (hbe.cell Z) (gv g5 Z (wl (uh g5 hb Z Z (cS (by decide:0+(4+1)<6) Z) λd hb b c=>?_))))));have a:=a.trans b λy f h=>h;exact ga (yq Z ⟨hb,a⟩)
theorem does_calls (w:World) {x d gf:Nat} {H F:Nat->Prop} {W:Wl} {cap:Array Value} {e:Int} {D':kg} (h:xh w x d H W) (hFlt:∀y,F y->y<w.heap.size) (hHF:∀y,H y->¬F y)
  (hcf:∀args w,(callFunc gf args).run prog w= .ok (.enter gf args) w) (hwhat:∀w1,Ext No w w1->ge prog gf cap.toList w1 λv w2=>v= .int .i64 e/\DkQ w1 d F D' w2):
  ge prog 117 [.pointer (some ⟨x,0,none⟩),.func (.func gf) #[] cap] w λv w'=>v= .int .i64 e/\∃F',At w' d F' D'/\(∀y,F' y->F y\/w.heap.size<=y)/\xh w' x d H {W with broken:=decide (e≠0)}/\(∀y,H y->¬F' y)/\Ext (λy=>F y\/y=x) w w':=by
 refine Cg func117 Z Z Z Z (have i:=Ext.refl (λy=>F y\/y=x) w;have f:=Ext.refl No w;ki (gn Z λT w1 U a z=> have f:=f.g4 z;have i:=i.g4 z;gn Z λu w2 A b p=> have r:=gw a.lt A;have M:=Nat.le_trans i.size A;have a:=a.g0 p;have f:=f.g4 p;have i:=i.g4 p;qi (jy Z (wl_defer Z Z Z Z (qi (jy Z ?_))))));have N:¬F T:=λe=>by have:=hFlt _ e;omega
 have B:¬F u:=λe=>by have:=hFlt _ e;omega
 have V:=i.size;have C:=b;refine g7 hcf Z (hwhat w2 f) ?_;rintro v3 w3⟨rfl,P,s,m,n⟩;have a:=a.ext m N;have b:=b.ext m B;have i:=i.then (m.mono λy _ e=> .inl e);have j:=(h.g0 f).ext m hHF;have D:¬P u:=Aw B C.lt n;refine ka b Z Z Z λX b o Y=>?_;have a:=a.g9 o r;have j:=j.ext o λy c e=>by have e:y=u:=e;have:=h.lt y c;omega
 have s:=s.ext o λy c e=>by have e:y=u:=e;subst e;exact D c
 have i:=i.g8 o M;refine qi (j6 ?_);let⟨⟨q,I,E,t,G,Q,R⟩,k,J⟩:=j;refine f_retD [.int .i64 e] call177 (does1_calls X a b (a0:= .pointer (some ⟨d,0,none⟩)) t) (λv w5⟨K,g⟩=>?_);have S:¬P x:=λe=>(n x e).elim (hHF x k) λe=>by have:=J x k;have:=h.lt x k;omega
 have L:=b.ext g λe=>by have e:u=x:=e;have:=h.lt x k;omega
 refine⟨⟨⟨u,0,Z,zj0 g5 Z Z (L.cell Z)⟩,trivial⟩,Z,P,s.ext g λy c e=>by have e:y=x:=e;subst e;exact S c,λy c=>(n y c).imp id zo,⟨⟨q,I,E,K,?_,?_,R⟩,k,λy c=>aG (J y c) g.size⟩,λy c e=>(n y e).elim (hHF y c) λe=>by have:=h.lt y c;omega,i.then (g.mono λy _ e=> .inr e)⟩;exact G.ext g λy c e=>by have e:y=x:=e;subst e;let⟨l,hl⟩:=Own.ty G c;exact absurd Z (hl.ne t zd)
 exact Q.ext g λy _ ht e=>by have e:y=x:=e;subst e;exact absurd Z (ht.ne t zd)
theorem app1_calls (w:World) {bx bb x d m c:Nat} {H F:Nat->Prop} {W:Wl} {p:Option Addr} {b:Bytes} (hbx:gu w bx 58 [.pointer (some ⟨x,0,none⟩)]) (hbb:gu w bb 41 [.slice p b.length c]) (h:xh w x d H W) (hA:At w d F W.D) (hok:W.D.Ok m) (hm:m+2000<1000000000) (hW:Wl.Ok W) (hs:ux w p b) (hbl:b.length<=40000) (hr:Rt w) (hF0:¬F 0) (hF1:¬F bx) (hF2:¬F bb) (hHF:∀y,H y->¬F y):
  ge prog 119 [.pointer (some ⟨bx,0,none⟩),.pointer (some ⟨bb,0,none⟩)] w λv w'=>v= .int .i64 (Be W.D ((uk W.turn W.size+W.used:Nat):Int) (vr W.turn W.pieces.length b)).2/\DkQ w d F (Be W.D ((uk W.turn W.size+W.used:Nat):Int) (vr W.turn W.pieces.length b)).1 w':=by
 refine gt func119 ?_;have t:=Ext.refl F w;have aa:=Dh b.length;have P:=hr.lt;let⟨ab,ac⟩:=hW.size;have ad:=hW.few;have ae:=hW.room;have B:=hW.turn;have af:uk W.turn W.size<=2+W.size:=by unfold uk;split<;>omega
 let⟨⟨q,cq,I,Q,ag,ah,ai⟩,R,aj⟩:=h;have s:=hHF x R;have S:=Q;have T:=hbx;have U:=hbb;have j:=hA;have k:=hs;have l:=hr;refine uz Z (jl Z 32 [qP 0,qP 1,qP 2,qP 3,qP 4,qP 5,qP 6,qP 7,qP 8,qP 9,qP 10,qP 11,qP 13,qP 14,qP 15,qP 16,qP 18,qP 19,qP 20,qP 21,qP 22,qP 23,qP 24,qP 25,qP 26,qP 27,qP 28,(12,false),qP 17,(29,false),(30,false),qP 31] [] (F) zk λO f ak=> have g:=S;have i:=T;have C:=U;have j:=j.g0 f;have k:=k.g0 f;have l:=Rt.ext l f id;have t:=t.g4 f;have z:Ext (F) _ O:=f.no;gy g5 Z Z (λw' a=>((i.ext a hF1).cell Z)) (gl g5 2 Z (kw g5 Z Z (λw' a=>((g.ext a s).kc.take 2)) Z (gy g5 Z Z (λw' a=>((i.ext a hF1).cell Z)) (gl g5 2 Z (kw g5 Z Z (λw' a=>((g.ext a s).kc.take 2)) Z (gy g5 Z Z (λw' a=>((i.ext a hF1).cell Z)) (gl g5 2 Z (gy g5 Z Z (λw' a=>((g.ext a s).cell Z)) (gy g5 Z Z (λw' a=>((i.ext a hF1).cell Z)) (gl g5 2 Z (gy g5 Z Z (λw' a=>((g.ext a s).cell Z)) (gy g5 Z Z (λw' a=>((i.ext a hF1).cell Z)) (gl g5 2 Z (gy g5 Z Z (λw' a=>((g.ext a s).cell Z)) (gy g5 Z Z (λw' a=>((i.ext a hF1).cell Z)) (gl g5 2 Z (gy g5 Z Z (λw' a=>((g.ext a s).cell Z)) (gl g5 2 Z ?_)))))))))))))))))));rw[wrap32 W.pieces.length zo];refine gy g5 Z Z (λw' a=>((C.ext a hF2).cell Z)) (jg Z (gx call120 Z (yw4 O (.pointer (some ⟨d,0,none⟩)) W.size W.turn zo B Z) λv2 w2 E=>⟨(by let⟨rfl,o⟩:=E;exact z.g4 o),?_⟩));obtain⟨rfl,o⟩:=E;have j:=j.g0 o;have k:=k.g0 o;have l:=Rt.ext l o id;have t:=t.g4 o;have z:=z.g4 o;refine gl g5 1 Z ?_;rw[show IntKind.i64.wrap ((uk W.turn W.size:Int)+(W.used:Int))=((uk W.turn W.size+W.used:Nat):Int) from by rw[jt _ zo];omega];refine jg Z (gx call121 Z (xz5 w2 W.turn W.pieces.length (p:=p) (m:=b.length) (c:=c)) λv3 w3 G=>⟨(by obtain⟨V,bt,bn,rfl,X,u,J,K,r⟩:=G;exact z.g4 r),?_⟩);obtain⟨V,bt,bn,rfl,X,u,J,K,r⟩:=G;have j:=j.g0 r;have k:=k.g0 r;have l:=Rt.ext l r id;have t:=t.g4 r;have z:=z.g4 r;have Y:=t.size;refine jg Z (gx call71 Z (xj7 w3 (n:=W.size) (L:=vr W.turn W.pieces.length b) (own:=λx=>x=0) j hok (by rw[x7];omega) ((uk W.turn W.size+W.used:Nat):Int) zo (zz1 _ _ b) call178 (λO f=>by rw[x7];exact piece_iter O (u.g0 f) (J.g0 f) (K.g0 f) (k.g0 f) B zo hbl (l.ext f id)) (λx e=>by subst e;exact⟨aG P (by have:=t.size;omega),hF0⟩)) λv4 w4 M=>⟨(by let⟨rfl,F2,h2,A,N⟩:=M;exact z.then A),?_⟩);let⟨rfl,F2,h2,A,N⟩:=M;have t:=t.then A;exact gl g5 1 Z (jd (j1 (jh (j6 (gp Z Z ⟨Z,F2,h2,t,Al (λx=> .inl) Y N⟩)))))
theorem append_no {W:Wl} {b:Bytes} (h:W.refuses b ((W.size:Int)-W.used)≠0):W.append b=(W,W.refuses b ((W.size:Int)-W.used)):=aM h
theorem append_bad {W:Wl} {b:Bytes} (h:W.refuses b ((W.size:Int)-W.used)=0) {y:kg×Int} (hy:y=Be W.D ((uk W.turn W.size+W.used:Nat):Int) (vr W.turn W.pieces.length b)) (h2:y.2≠0):W.append b=({W with D:=y.1,broken:=true},y.2):=by
 unfold Wl.append;dsimp only;rw[aJ (λe=>e h),<-hy,aM h2]
theorem append_ok {W:Wl} {b:Bytes} (h:W.refuses b ((W.size:Int)-W.used)=0) {y:kg×Int} (hy:y=Be W.D ((uk W.turn W.size+W.used:Nat):Int) (vr W.turn W.pieces.length b)) (h2:y.2=0):W.append b=({W with D:=y.1,broken:=false,pieces:=W.pieces++[b],used:=W.used+kl b.length},0):=by
 unfold Wl.append;dsimp only;rw[aJ (λe=>e h),<-hy,aJ (λe=>e h2)]
def LogQ (w : World) (x d : Nat) (F H : Nat -> Prop) (r : Wl × Int) (v : Value) (w' : World) : Prop :=
  v = .int .i64 r.2 /\ ∃ F' H' : Nat -> Prop, At w' d F' r.1.D /\ xh w' x d H' r.1 /\ (∀ y, F' y -> F y \/ w.heap.size <= y) /\ (∀ y, H' y -> H y \/ w.heap.size <= y) /\ (∀ y, H' y -> ¬ F' y) /\ Ext (λy => F y \/ H y) w w'
theorem Sl.ext0 {S:Nat->Prop} {w w':World} {p:Option Addr} {b:Bytes} (h:ux w p b) (hE:Ext S w w') (hS:b≠[]->∀y off,p=some ⟨y,off,none⟩->¬S y):ux w' p b:=by
 by_cases h0:b=[];subst h0;exact Sl.nil _ _ _;exact h.ext hE (hS h0)
theorem zw.ofOwn {u:World} {H:Nat->Prop} {q:Option Addr} {k:Nat} {b:Bytes} (ho:Own u q b.length k 5 1 (g6 b)) (hH:∀y,j5 q y->H y):zw u H (.slice q b.length k) b:=by
 refine⟨q,k,Z,ho.cap,ho.sl,λy d e=>?_⟩;have c:j5 q y:=by rcases ho with⟨a,_⟩|⟨f,l,a,_⟩;rw[a] at e;cases e;rw[a] at e;cases e;exact a
 exact⟨hH y c,Own.ty ho c⟩
theorem append_calls (w:World) {x d m c:Nat} {H F:Nat->Prop} {W:Wl} {p:Option Addr} {b:Bytes} (h:xh w x d H W) (hA:At w d F W.D) (hok:W.D.Ok m) (hm:m+2000<1000000000) (hW:Wl.Ok W) (hs:ux w p b) (hbl:b.length<1000000000) (hr:Rt w) (hF0:¬F 0) (hHF:∀y,H y->¬F y) (hpF:b≠[]->∀y off,p=some ⟨y,off,none⟩->¬F y/\¬H y):
  ge prog 39 [.pointer (some ⟨x,0,none⟩),.slice p b.length c] w λv w'=>LogQ w x d F H (W.append b) v w':=by
 refine gt func39 ?_;have r:=Ext.refl (λy=>F y\/H y) w;have ce:=Dh b.length;have aw:=hA.lt;have Q:=h.lt;obtain⟨cf,cg⟩:=hW.size;have ch:=hW.few;have ci:=hW.room;have ae:=h.own;have g:=h;have C:=hA;have t:=hs;have M:=hr;refine ki (gn Z λb2 w1 cj a P=>?_);have g:=g.g0 P;have C:=C.g0 P;have t:=t.g0 P;have M:=Rt.ext M P id;have r:=r.g4 P;have a:gu w1 b2 58 ([.pointer (some ⟨x,0,none⟩)]):=a;refine gn Z λb3 w2 br f ag=>?_;have ck:=Nat.le_trans r.size br;have a:=a.g0 ag;have g:=g.g0 ag;have C:=C.g0 ag;have t:=t.g0 ag;have M:=Rt.ext M ag id;have r:=r.g4 ag;have f:gu w2 b3 41 ([.slice p b.length c]):=f;refine k9 Z (gh (ki (j3 a Z Z (j3 f Z Z ?_))));refine g7 call116 Z (ready_calls w2 g (p:=p) (n:=b.length) (k:=c)) λv3 w3 bs=>?_;obtain⟨rfl,af⟩:=bs;have a:=a.g0 af;have f:=f.g0 af;have g:=g.g0 af;have C:=C.g0 af;have t:=t.g0 af;have M:=Rt.ext M af id;have r:=r.g4 af;refine k9 Z (jn Z (jc Z (λhc=>?_) (λhc=>?_)));refine gh ?_;refine gr (vl Z (j2 (gp Z Z ?_)));have I:W.refuses b ((W.size:Int)-W.used)=if 40000<b.length then(3:Int) else if W.broken=true then 8 else 0:=by unfold Wl.refuses;by_cases h1:40000<b.length;rw[aM h1,aM h1];rw[aJ h1,aJ h1] at*;by_cases h2:W.broken=true;rw[aM h2,aM h2];rw[aJ h2] at hc;exact absurd Z hc
 rw[append_no (by rw[I];exact hc),I];exact⟨Z,F,H,C,g,λy=> .inl,λy=> .inl,hHF,r⟩
 have ak:(if 40000<b.length then(3:Int) else if W.broken=true then 8 else 0)=0:=aN.1 hc;have a4:b.length<=40000:=by rcases aZ 40000 b.length with h1|h1;rw[aM h1] at ak;cases ak;exact h1
 rw[aJ zo] at ak;have bt:¬W.broken=true:=λe=>by rw[aM e] at ak;cases ak
 have I:W.refuses b ((W.size:Int)-W.used)=if(W.size:Int)-W.used<kl b.length then 6 else 0:=by unfold Wl.refuses;rw[aJ zo,aJ bt]
 have a5:¬(F b2\/H b2):=λe=>by rcases e with e|e;have:=aw _ e;omega;have:=Q _ e;omega
 have a6:¬(F b3\/H b3):=λe=>by rcases e with e|e;have:=aw _ e;omega;have:=Q _ e;omega
 refine vo (gh (gh (jl Z 6 [qP 0,qP 1,qP 3,(2,false),(4,false),qP 5] [] (No) zk λw4 ac cm=>?_)));have ah:=a;have am:=f;have an:=g;have a:=a.g0 ac;have f:=f.g0 ac;have g:=g.g0 ac;have C:=C.g0 ac;have t:=t.g0 ac;have M:=Rt.ext M ac id;have r:=r.g4 ac;have hC:Ext (No) _ w4:=ac.no;refine gy g5 Z Z (λw' B=>(am.g0 B).cell Z) ?_;refine gl g5 1 Z (gy g5 Z Z (λw' B=>(ah.g0 B).cell Z) ?_);refine jg Z (gx call65 Z (xi w4 (b.length:Int)) λv5 w5 a7=>⟨(by obtain⟨rfl,X⟩:=a7;exact hC.g4 X),?_⟩);obtain⟨rfl,X⟩:=a7;have a:=a.g0 X;have f:=f.g0 X;have g:=g.g0 X;have C:=C.g0 X;have t:=t.g0 X;have M:=Rt.ext M X id;have r:=r.g4 X;have hC:=hC.g4 X;rw[Bd];refine jg Z (gx call66 Z (yv2 w5 g zo zo) λv6 w6 a8=>⟨(by obtain⟨rfl,aa⟩:=a8;exact hC.g4 aa),?_⟩);obtain⟨rfl,aa⟩:=a8;have a:=a.g0 aa;have f:=f.g0 aa;have g:=g.g0 aa;have C:=C.g0 aa;have t:=t.g0 aa;have M:=Rt.ext M aa id;have r:=r.g4 aa;refine gl g5 1 Z (jd (j1 (jh (jc Z (λhc=>?_) (λhc=>?_)))));rw[aM hc] at I;refine jn Z (j6 (j2 (gp Z Z ?_)));rw[append_no (by rw[I];decide),I];exact⟨Z,F,H,C,g,λy=> .inl,λy=> .inl,hHF,r⟩
 rw[aJ hc] at I;refine vo (ki (j3 a Z Z (gv g5 Z ?_)));have bu:=r.size;refine g7 call117 Z (does_calls w6 g C.lt hHF call119 (λw1 P=>app1_calls w1 (a.g0 P) (f.g0 P) (g.g0 P) (C.g0 P) hok hm hW (t.g0 P) a4 (M.ext P id) hF0 (λe=>a5 (.inl e)) (λe=>a6 (.inl e)) hHF)) λv7 w7 bv=>?_;obtain⟨rfl,F2,i,ay,R,ad,aq⟩:=bv;obtain⟨y,hy⟩:∃y,y=Be W.D ((uk W.turn W.size+W.used:Nat):Int) (vr W.turn W.pieces.length b):=⟨_,Z⟩
 rw[<-hy] at i R|-;have ar:∀z,F z\/z=x->F z\/H z:=λz s=>s.imp id λe=>by rw[e];exact ae
 have a:=a.ext aq λe=>a5 (ar _ e);have f:=f.ext aq λe=>a6 (ar _ e);have r:=r.then (aq.mono λz _ e=>ar z e);have t:ux w7 p b:=Sl.ext0 t aq λh0 z off e s=>(ar z s).elim (hpF h0 z off e).1 (hpF h0 z off e).2;have ay:=Al (λz=> .inl) bu ay;obtain⟨N,hN⟩:∃N,N=w7.heap.size:=⟨_,Z⟩
 have a9:w.heap.size<=N:=by rw[hN];exact r.size
 have az:∀z,F2 z->z<N:=by rw[hN];exact i.lt
 refine k9 Z ?_;refine jb (α:=Wl×(Nat->Prop)) [6] Z (λz=>[]) (λz u=>(xh u x d z.2 z.1/\At u d F2 z.1.D/\(∀y,z.2 y->H y\/w.heap.size<=y)/\(∀y,z.2 y->¬F2 y)/\W.append b=(z.1,y.2))/\gu u b2 58 ([.pointer (some ⟨x,0,none⟩)])/\gu u b3 41 ([.slice p b.length c])/\Ext (λy=>F y\/H y) w u) ?_ ?_;refine gh ?_;refine gr (k9 Z (jc Z (λhc=>?_) (λhc=>?_)));have a0:y.2=0:=hc;obtain⟨⟨q,cq,ba,j,o,A,ai⟩,_,b8⟩:=id R;dsimp only at j o A;rw[show decide (y.2≠0)=false from bG λe=>e a0] at j;have cp:=Q x ae;have bb:¬j5 q x:=λe=>(Own.ty o e).ne j zd Z;have a1:¬j5 q b2:=λe=>by have:=Q _ (ai _ e);omega
 have bc:¬j5 q b3:=λe=>by have:=Q _ (ai _ e);omega
 refine gh (jl Z 11 [qP 0,qP 1,qP 2,qP 3,qP 4,qP 5,(6,false),(7,false),(8,false),qP 9,qP 10] [11] (λz=>j5 q z) zk λw8 ab cr=>?_);have ah:=a;have am:=f;have an:=g;have au:=R;have ap:=j;have a:=a.g0 ab;have f:=f.g0 ab;have t:=t.g0 ab;have i:=i.g0 ab;have j:=j.g0 ab;have o:=o.ext ab λ_ _=>id;have A:=A.ext ab λ_ _ _=>id;have r:=r.g4 ab;have hC:Ext (λz=>j5 q z) _ w8:=ab.no;refine gy g5 Z Z (λw' B=>((ah.ext B a1).cell Z)) ?_;refine gy g5 Z Z (λw' B=>((ah.ext B a1).cell Z)) ?_;refine gl g5 2 Z (gy g5 Z Z (λw' B=>((ap.ext B bb).cell Z)) ?_);refine gy g5 Z Z (λw' B=>((am.ext B bc).cell Z)) ?_;refine jg Z (gx call35 Z (Bb w8 t hbl) λv9 w9 bd=>⟨(by obtain⟨q2,k2,rfl,K,av,Y⟩:=bd;exact hC.g4 Y),?_⟩);obtain⟨q2,k2,rfl,K,av,Y⟩:=bd;have a:=a.g0 Y;have f:=f.g0 Y;have i:=i.g0 Y;have j:=j.g0 Y;have o:=o.ext Y λ_ _=>id;have A:=A.ext Y λ_ _ _=>id;have r:=r.g4 Y;have hC:=hC.g4 Y;have bf:∀z,j5 q2 z->N<=z:=λz s=>by have:=av z s;omega
 have av:∀z,j5 q2 z->w.heap.size<=z:=λz s=>Nat.le_trans a9 (bf z s);refine jg Z (kz g5 Z 1 Z Z Z zd zd zt (l':=[.slice q2 b.length k2]) Z λbw cs b9 bg E ca=>⟨hC.g4 E,?_⟩);have a:=a.g0 E;have f:=f.g0 E;have i:=i.g0 E;have j:=j.g0 E;have o:=o.ext E λ_ _=>id;have A:=A.ext E λ_ _ _=>id;have K:=K.ext E λ_ _=>id;have r:=r.g4 E;have hC:=hC.g4 E;have ct:=hC.size;refine jg Z (ul g5 Z 1 24 Z Z Z zd o (Src.slice (m:=1) ⟨Z,.inr ⟨bw,0,Z,bg.kc⟩⟩ OneC.h) zm zn λa2 bh bx bi O bj=>⟨(hC.then O),?_⟩);have a:=a.ext O a1;have f:=f.ext O bc;have r:=r.then (O.mono λz _ e=> .inr (ai z e));have j:=j.ext O bb;have i:=i.ext O λz s e=>ad z (ai z e) s;have K:=K.ext O λz s e=>by have:=av z s;have:=Q _ (ai _ e);omega
 have A:=A.ext O λz s ht e=>by obtain⟨l,hl⟩:=Own.ty o e;exact ht.ne hl zd Z
 have bk:∀z,j5 a2 z->H z\/N<=z:=λz s=>(bj z s).imp (ai z) λe=>by omega
 have o:Own bx a2 (W.pieces++[b]).length bh 41 1 (ba++[.slice q2 b.length k2]):=by rw[al];exact bi
 dsimp only;obtain⟨pn,bm⟩:∃pn,pn=a2:=⟨_,Z⟩
 obtain⟨cn,bn⟩:∃cn,cn=bh:=⟨_,Z⟩
 rw[<-bm] at o bk|-;rw[<-bn] at o|-;refine gl g5 2 Z (jd ?_);have S:=j;refine wb Z (uh g5 j Z Z (cS (by decide:0+(2+1)<6) Z) λcu j T cb=>?_);have a:=a.ext T λe=>by have e:b2=x:=e;omega
 have f:=f.ext T λe=>by have e:b3=x:=e;omega
 have r:=r.then (T.mono λz _ e=> .inr (by have e:z=x:=e;rw[e];exact ae));have i:=i.ext T λz s e=>by have e:z=x:=e;subst e;exact ad z ae s
 have K:=K.ku T S zd;have o:=o.ku T S zd;have A:=A.ext T λz _ ht e=>by have e:z=x:=e;subst e;exact ht.ne S zd Z
 refine j1 (jh (jl Z 10 [qP 0,qP 1,qP 2,qP 3,qP 4,qP 5,(6,false),qP 7,qP 8,qP 9] [10] (No) zk λbp L cc=>?_));have ah:=a;have am:=f;have an:=g;have au:=R;have ap:=j;have a:=a.g0 L;have f:=f.g0 L;have i:=i.g0 L;have j:=j.g0 L;have o:=o.ext L λ_ _=>id;have A:=A.ext L λ_ _ _=>id;have K:=K.ext L λ_ _=>id;have r:=r.g4 L;have hC:Ext (No) _ bp:=L.no;refine gy g5 Z Z (λw' B=>(ah.g0 B).cell Z) ?_;refine gl g5 2 Z (gy g5 Z Z (λw' B=>((ap.g0 B).cell Z)) ?_);refine gy g5 Z Z (λw' B=>(am.g0 B).cell Z) ?_;refine gl g5 1 Z (jg Z (gx call65 Z (xi bp (b.length:Int)) λcv cw ax=>⟨(by obtain⟨rfl,J⟩:=ax;exact hC.g4 J),?_⟩));obtain⟨rfl,J⟩:=ax;have a:=a.g0 J;have f:=f.g0 J;have i:=i.g0 J;have j:=j.g0 J;have o:=o.ext J λ_ _=>id;have A:=A.ext J λ_ _ _=>id;have K:=K.ext J λ_ _=>id;have r:=r.g4 J;rw[Bd];refine gl g5 1 Z ?_;rw[show IntKind.i64.wrap ((W.used:Int)+(kl b.length:Int))=((W.used+kl b.length:Nat):Int) from by rw[jt _ zo];omega];refine gl g5 2 Z (jd ?_);have S:=j;refine wb Z (uh g5 j Z Z (cS (by decide:0+(3+1)<6) Z) λbz j U cd=>?_);have a:=a.ext U λe=>by have e:b2=x:=e;omega
 have f:=f.ext U λe=>by have e:b3=x:=e;omega
 have r:=r.then (U.mono λz _ e=> .inr (by have e:z=x:=e;rw[e];exact ae));have i:=i.ext U λz s e=>by have e:z=x:=e;subst e;exact ad z ae s
 have K:=K.ku U S zd;have o:=o.ku U S zd;have A:=A.ext U λz _ ht e=>by have e:z=x:=e;subst e;exact ht.ne S zd Z
 have b0:=λz (s:j5 q2 z)=>K.lt s;have b1:=λz (s:j5 pn z)=>o.lt s;have b4:=r.size;refine j1 ?_;exact gk ({W with D:=y.1,broken:=false,pieces:=W.pieces++[b],used:=W.used+kl b.length},λz=>H z\/(N<=z/\z<bz.heap.size)) Z ⟨⟨⟨⟨pn,cn,_,by dsimp only;rw[al];exact j,o,(qq.mono A λz s=> .inl s).snoc (zw.ofOwn K λz s=> .inr ⟨bf z s,b0 z s⟩),λz s=>(bk z s).imp id λe=>⟨e,b1 z s⟩⟩,.inl ae,λz s=>s.elim (λe=>aG (Q z e) b4) λe=>e.2⟩,i,λz s=>s.imp id λe=>Nat.le_trans a9 e.1,λz s e=>s.elim (λh=>ad z h e) λh=>by have:=az z e;omega,by rw[a0];exact append_ok I hy a0⟩,a,f,r⟩;refine jw ?_;exact gk ({W with D:=y.1,broken:=true},H) Z ⟨⟨by have e:=R;rw[bN hc] at e;exact e.data Z Z Z Z Z,i,λz s=> .inl s,ad,append_bad I hy hc⟩,a,f,r⟩;rintro⟨V,G⟩ cx ⟨⟨a3,bq,b5,b6,b7⟩,a,f,r⟩;refine jn Z (j6 (gp Z Z ?_));rw[b7];exact⟨Z,F2,G,bq,a3,ay,b5,b6,r⟩
theorem ckp1_calls (w:World) {bx bt bb x d m c t:Nat} {H F:Nat->Prop} {W:Wl} {p:Option Addr} {b:Bytes} (hbx:gu w bx 58 [.pointer (some ⟨x,0,none⟩)]) (hbt:gu w bt 35 [.int .u32 (t:Int)]) (hbb:gu w bb 41 [.slice p b.length c]) (h:xh w x d H W) (hA:At w d F W.D) (hok:W.D.Ok m) (hm:m+2000<1000000000) (hz2:W.size<=1000) (ht:t<4294967296) (hs:ux w p b) (hbl:b.length<=40000) (hr:Rt w) (hF0:¬F 0) (hF1:¬F bx) (hFt:¬F bt) (hF2:¬F bb) (hHF:∀y,H y->¬F y):
  ge prog 118 [.pointer (some ⟨bx,0,none⟩),.pointer (some ⟨bt,0,none⟩),.pointer (some ⟨bb,0,none⟩)] w λv w'=>v= .int .i64 (yr W.D t W.size b).2/\DkQ w d F (yr W.D t W.size b).1 w':=by
 refine gt func118 ?_;have k:=Ext.refl F w;let⟨⟨q,X,M,A,Q,R,S⟩,B,T⟩:=h;have C:=hHF x B;have E:=A;have G:=hbx;have J:=hbt;have K:=hbb;have f:=hA;have g:=hs;have i:=hr;refine uz Z (jl Z 8 [qP 0,qP 1,qP 2,qP 3,qP 4,qP 5,(6,false),qP 7] [] (F) zk λN e U=> have l:=E;have o:=G;have r:=K;have s:=J;have f:=f.g0 e;have g:=g.g0 e;have i:=Rt.ext i e id;have k:=k.g4 e;have V:Ext (F) _ N:=e.no;gy g5 Z Z (λw' a=>((o.ext a hF1).cell Z)) (gl g5 2 Z (kw g5 Z Z (λw' a=>((l.ext a C).kc.take 2)) Z (gy g5 Z Z (λw' a=>((s.ext a hFt).cell Z)) (gy g5 Z Z (λw' a=>((r.ext a hF2).cell Z)) (have L:=k.size;jg Z (gx call73 Z (begin_calls N (n:=W.size) f hok hm zo ht g hbl i hF0) λY I u=>⟨(by let⟨rfl,O,P,j,z⟩:=u;exact V.then j),?_⟩)))))));let⟨rfl,O,P,j,z⟩:=u;have k:=k.then j;exact gl g5 1 Z (jd (j1 (jh (j6 (gp Z Z ⟨Z,O,P,k,Al (λx=> .inl) L z⟩)))))
theorem ckp_no {W:Wl} {b:Bytes} (h:W.refuses b (if W.turn=4294967295 then 0 else(W.size:Int))≠0):W.qk b=(W,W.refuses b (if W.turn=4294967295 then 0 else(W.size:Int))):=aM h
theorem ckp_bad {W:Wl} {b:Bytes} (h:W.refuses b (if W.turn=4294967295 then 0 else(W.size:Int))=0) {y:kg×Int} (hy:y=yr W.D (W.turn+1) W.size b) (h2:y.2≠0):W.qk b=({W with D:=y.1,broken:=true},y.2):=by
 unfold Wl.qk;dsimp only;rw[aJ (λe=>e h),<-hy,aM h2]
theorem ckp_ok {W:Wl} {b:Bytes} (h:W.refuses b (if W.turn=4294967295 then 0 else(W.size:Int))=0) {y:kg×Int} (hy:y=yr W.D (W.turn+1) W.size b) (h2:y.2=0):W.qk b=({W with D:=y.1,broken:=false,turn:=W.turn+1,pieces:=[b],used:=kl b.length},0):=by
 unfold Wl.qk;dsimp only;rw[aJ (λe=>e h),<-hy,aJ (λe=>e h2)]
theorem next_turn {t:Nat} (ht:t<4294967296):IntKind.u32.wrap ((t:Int)+1)=((if t=4294967295 then 0 else t+1:Nat):Int):=by
 by_cases h:t=4294967295;subst h;decide;rw[aJ h];exact wrap32 (t+1) zo
theorem yx6 (w : World) {x d m c : Nat} {H F : Nat -> Prop} {W : Wl} {p : Option Addr} {b : Bytes} (h : xh w x d H W) (hA : At w d F W.D) (hok : W.D.Ok m) (hm : m + 2000 < 1000000000) (hW : Wl.Ok W) (hs : ux w p b) (hbl : b.length < 1000000000) (hr : Rt w) (hF0 : ¬ F 0) (hHF : ∀ y, H y -> ¬ F y) (hpF : b ≠ [] -> ∀ y off, p = some ⟨y, off, none⟩ -> ¬ F y /\ ¬ H y /\ y < w.heap.size) :
  ge prog 38 [.pointer (some ⟨x, 0, none⟩), .slice p b.length c] w λv w' => LogQ w x d F H (W.qk b) v w' := by
 refine gt func38 ?_;have A := Ext.refl (λy => F y \/ H y) w;have c9 := Dh b.length;have a6 := hA.lt;have a0 := h.lt;obtain ⟨da, cc⟩ := hW.size;have cd := hW.turn;have J := h.own;have s := h;have O := hA;have M := hs;have R := hr;refine ki (gn Z λb2 w1 db a aj =>?_);have s := s.g0 aj;have O := O.g0 aj;have M := M.g0 aj;have R := Rt.ext R aj id;have A := A.g4 aj;have a : gu w1 b2 58 ([.pointer (some ⟨x, 0, none⟩)]) := a;refine gn Z λb3 w2 ce f bb =>?_;have dc := Nat.le_trans A.size ce;have a := a.g0 bb;have s := s.g0 bb;have O := O.g0 bb;have M := M.g0 bb;have R := Rt.ext R bb id;have A := A.g4 bb;have f : gu w2 b3 41 ([.slice p b.length c]) := f;refine k9 Z (gh (ki (j3 a Z Z (j3 f Z Z ?_))));refine g7 call116 Z (ready_calls w2 s (p := p) (n := b.length) (k := c)) λv3 w3 cf =>?_;obtain ⟨rfl, a2⟩ := cf;have a := a.g0 a2;have f := f.g0 a2;have s := s.g0 a2;have O := O.g0 a2;have M := M.g0 a2;have R := Rt.ext R a2 id;have A := A.g4 a2;refine k9 Z (jn Z (jc Z (λhc =>?_) (λhc =>?_)));refine gh ?_;refine gr (vl Z (j2 (gp Z Z ?_)));have ar : W.refuses b (if W.turn = 4294967295 then 0 else (W.size : Int)) = if 40000 < b.length then (3 : Int) else if W.broken = true then 8 else 0 := by unfold Wl.refuses;by_cases h1 : 40000 < b.length;rw [aM h1, aM h1];rw [aJ h1, aJ h1] at *;by_cases h2 : W.broken = true;rw [aM h2, aM h2];rw [aJ h2] at hc; exact absurd Z hc
 rw [ckp_no (by rw [ar]; exact hc), ar];exact ⟨Z, F, H, O, s, λy => .inl, λy => .inl, hHF, A⟩;have bd : (if 40000 < b.length then (3 : Int) else if W.broken = true then 8 else 0) = 0 := aN.1 hc;have bm : b.length <= 40000 := by rcases aZ 40000 b.length with h1 | h1;rw [aM h1] at bd; cases bd;exact h1
 rw [aJ zo] at bd;have cg : ¬ W.broken = true := λe => by rw [aM e] at bd; cases bd
 have dd := Cu bm;have ar : W.refuses b (if W.turn = 4294967295 then 0 else (W.size : Int)) = if W.size < kl b.length \/ W.turn = 4294967295 then 6 else 0 := by unfold Wl.refuses;rw [aJ zo, aJ cg];by_cases ht : W.turn = 4294967295;rw [aM ht, aM zo, aM (.inr ht)];rw [aJ ht];by_cases h1 : W.size < kl b.length;rw [aM zo, aM (.inl h1)];rw [aJ zo, aJ (λe => e.elim h1 ht)]
 have bz : ¬ (F b2 \/ H b2) := λe => by rcases e with e | e; have := a6 _ e; omega; have := a0 _ e; omega
 have b0 : ¬ (F b3 \/ H b3) := λe => by rcases e with e | e; have := a6 _ e; omega; have := a0 _ e; omega
 obtain ⟨⟨q0, de, ch, E, _, _, _⟩, _, _⟩ := id s;obtain ⟨nx, ax⟩ : ∃ nx, nx = if W.turn = 4294967295 then 0 else W.turn + 1 := ⟨_, rfl⟩
 have b1 : nx < 4294967296 := by rw [ax]; split <;> omega
 refine vo (ki (j3 a Z Z (gv g5 Z (gj Z (E.cell Z) (gv g5 Z ?_)))));rw [next_turn cd, <- ax];refine gn Z λb6 w4 br j a3 =>?_;have bs := gw a.lt br;have bt := gw f.lt br;have ci := Nat.le_trans A.size br;have a := a.g0 a3;have f := f.g0 a3;have s := s.g0 a3;have O := O.g0 a3;have M := M.g0 a3;have R := Rt.ext R a3 id;have A := A.g4 a3;have df := hr.lt;refine ka j Z Z Z λw5 j a4 dg =>?_;have a := a.g9 a4 bs;have f := f.g9 a4 bt;have A := A.g8 a4 ci;have j : gu w5 b6 35 ([.int .u32 (nx : Int)]) := j;have s := s.ext a4 λy hy e => by have e : y = b6 := e; have := a0 y hy; omega
 have O := O.ext a4 λy hy e => by have e : y = b6 := e; have := a6 y hy; omega
 have M : ux w5 p b := Sl.ext0 M a4 λh0 y off e o => by have o : y = b6 := o; have := (hpF h0 y off e).2.2; omega
 have R := Rt.ext R a4 λe => by have e : 0 = b6 := e; omega
 obtain ⟨⟨q1, dh, cj, b4, _, _, _⟩, _, _⟩ := id s;have b5 : ¬ (F b6 \/ H b6) := λe => by rcases e with e | e; have := a6 _ e; omega; have := a0 _ e; omega
 refine qi (gh ?_);refine jb (α := Bool) [2, 3, 6] Z (λz => [(31, .bool z)]) (λz u => (z = decide (W.size < kl b.length \/ W.turn = 4294967295) /\ xh u x d H W /\ At u d F W.D /\ ux u p b /\ Rt u) /\ gu u b2 58 ([.pointer (some ⟨x, 0, none⟩)]) /\ gu u b3 41 ([.slice p b.length c]) /\ gu u b6 35 ([.int .u32 (nx : Int)]) /\ Ext (λy => F y \/ H y) w u) ?_ ?_;refine jl Z 13 [qP 0, qP 1, qP 3, qP 4, qP 5, qP 6, qP 7, (2, false), qP 8, qP 9, qP 10, qP 11, qP 12] [] (No) zk λw6 ay di =>?_;have bf := a;have bj := f;have bu := j;have a := a.g0 ay;have f := f.g0 ay;have j := j.g0 ay;have s := s.g0 ay;have O := O.g0 ay;have M := M.g0 ay;have R := Rt.ext R ay id;have A := A.g4 ay;have L : Ext (No) _ w6 := ay.no;refine gy g5 Z Z (λw' Q => (bj.g0 Q).cell Z) ?_;refine gl g5 1 Z (gy g5 Z Z (λw' Q => (bf.g0 Q).cell Z) ?_);refine gl g5 3 Z (gy g5 Z Z (λw' Q => ((b4.g0 Q).cell Z)) ?_);refine jg Z (gx call65 Z (xi w6 (b.length : Int)) λv7 w7 b7 => ⟨(by obtain ⟨rfl, av⟩ := b7; exact L.g4 av), ?_⟩);obtain ⟨rfl, av⟩ := b7;have a := a.g0 av;have f := f.g0 av;have j := j.g0 av;have s := s.g0 av;have O := O.g0 av;have M := M.g0 av;have R := Rt.ext R av id;have A := A.g4 av;rw [Bd];refine gl g5 2 Z (ve 28 Z (λhg =>?_) (λhg =>?_));refine gl g5 3 Z ?_;refine jd (j1 ?_);exact gk (true) Z ⟨⟨(bN (.inl zo)).symm, s, O, M, R⟩, a, f, j, A⟩;refine gy g5 Z Z (λw' Q => (bu.g0 Q).cell Z) ?_;refine gl g5 2 Z (jd (j1 ?_))
 exact gk (decide ((nx : Int) = 0)) Z ⟨⟨by
 rw [aH]
 constructor
 intro h0; refine .inr ?_; rcases aZ W.turn 4294967295 with h1 | h1; rw [aJ zo] at ax; omega; omega
 intro h0; rcases h0 with h0 | h0; omega; rw [aM h0] at ax; omega, s, O, M, R⟩, a, f, j, A⟩
 rintro z w8 ⟨⟨o, s, O, M, R⟩, a, f, j, A⟩;refine u5 Z (λhc =>?_) (λhc =>?_);have bk := cD (o.symm.trans hc);rw [aM bk] at ar;refine jn Z (j6 (j2 (gp Z Z ?_)));rw [ckp_no (by rw [ar]; decide), ar];exact ⟨Z, F, H, O, s, λy => .inl, λy => .inl, hHF, A⟩;have bk : ¬ (W.size < kl b.length \/ W.turn = 4294967295) := of_decide_eq_false (o.symm.trans hc);rw [aJ bk] at ar;rw [aJ (λe => bk (.inr e))] at ax;refine vo (ki (j3 a Z Z (gv g5 Z ?_)));have ck := A.size;refine g7 call117 Z (does_calls w8 s O.lt hHF call118 (λw1 aj => ckp1_calls w1 (a.g0 aj) (j.g0 aj) (f.g0 aj) (s.g0 aj) (O.g0 aj) hok hm cc b1 (M.g0 aj) bm (R.ext aj id) hF0 (λe => bz (.inl e)) (λe => b5 (.inl e)) (λe => b0 (.inl e)) hHF)) λv9 w9 cm =>?_;obtain ⟨rfl, F2, g, bv, az, P, bg⟩ := cm;obtain ⟨y, hy⟩ : ∃ y, y = yr W.D nx W.size b := ⟨_, rfl⟩;rw [<- hy] at g az |-;rw [ax] at hy;have bh : ∀ z, F z \/ z = x -> F z \/ H z := λz o => o.imp id λe => by rw [e]; exact J
 have a := a.ext bg λe => bz (bh _ e);have f := f.ext bg λe => b0 (bh _ e);have j := j.ext bg λe => b5 (bh _ e);have A := A.then (bg.mono λz _ e => bh z e);have M : ux w9 p b := Sl.ext0 M bg λh0 z off e o => (bh z o).elim (hpF h0 z off e).1 (hpF h0 z off e).2.1;have bv := Al (λz => .inl) ck bv;obtain ⟨N, hN⟩ : ∃ N, N = w9.heap.size := ⟨_, rfl⟩;have bw : w.heap.size <= N := by rw [hN]; exact A.size
 have ak : ∀ z, F2 z -> z < N := by rw [hN]; exact g.lt
 refine k9 Z ?_;refine jb (α := Wl × (Nat -> Prop)) [7] Z (λz => []) (λz u => (xh u x d z.2 z.1 /\ At u d F2 z.1.D /\ (∀ y, z.2 y -> H y \/ w.heap.size <= y) /\ (∀ y, z.2 y -> ¬ F2 y) /\ W.qk b = (z.1, y.2)) /\ gu u b2 58 ([.pointer (some ⟨x, 0, none⟩)]) /\ gu u b3 41 ([.slice p b.length c]) /\ gu u b6 35 ([.int .u32 (nx : Int)]) /\ Ext (λy => F y \/ H y) w u) ?_ ?_;refine gh ?_;refine gr (k9 Z (jc Z (λhc =>?_) (λhc =>?_)));have a5 : y.2 = 0 := hc;obtain ⟨⟨q, cq, rows, l, _, _, _⟩, _, _⟩ := id az;dsimp only at l;rw [show decide (y.2 ≠ 0) = false from bG λe => e a5] at l;have dj := a0 x J;have aq : ¬ One x b2 := λe => by have e : b2 = x := e; omega
 have au : ¬ One x b3 := λe => by have e : b3 = x := e; omega
 have aw : ¬ One x b6 := λe => by have e : b6 = x := e; omega
 refine yv3 Z 19 19 [] (One x) zk λb8 am cv =>?_;have bf := a;have bj := f;have bu := j;have cn := s;have cb := az;have cw := l;have a := a.g0 am;have f := f.g0 am;have j := j.g0 am;have M := M.g0 am;have g := g.g0 am;have l := l.g0 am;have A := A.g4 am;have L : Ext (One x) _ b8 := am.no;refine ql [qP 0, qP 1, qP 2, qP 3, qP 4, qP 7, qP 8, (5, false)] 11 Z zk (gy g5 Z Z (λw' Q => ((bf.ext Q aq).cell Z)) ?_);refine gy g5 Z Z (λw' Q => ((bf.ext Q aq).cell Z)) ?_;refine gy g5 Z Z (λw' Q => ((bf.ext Q aq).cell Z)) ?_;refine gy g5 Z Z (λw' Q => ((bu.ext Q aw).cell Z)) ?_;refine gy g5 Z Z (λw' Q => ((bj.ext Q au).cell Z)) ?_;refine gy g5 Z Z (λw' Q => ((bj.ext Q au).cell Z)) ?_;refine gl g5 1 Z ?_;refine jg Z (gx call35 Z (Bb b8 M hbl) λdk cp bn => ⟨(by obtain ⟨q2, k2, rfl, t, b9, X⟩ := bn; exact L.g4 X), ?_⟩);obtain ⟨q2, k2, rfl, t, b9, X⟩ := bn;have a := a.g0 X;have f := f.g0 X;have j := j.g0 X;have g := g.g0 X;have l := l.g0 X;have A := A.g4 X;have L := L.g4 X;have bc : ∀ z, j5 q2 z -> N <= z := λz o => by have := b9 z o; omega
 refine z6 Z (B9 [6, 9] Z zk ⟨⟨_, rfl, ?_⟩, ⟨_, rfl, ?_⟩, trivial⟩);refine kz g5 Z 1 Z Z Z zd zd zt (l' := [.slice q2 b.length k2]) Z λT cr K r Y cx => ⟨L.g4 Y, ?_⟩;have a7 := gw a.lt K;have a8 := gw f.lt K;have a9 := gw j.lt K;have a1 := Nat.le_trans A.size K;have ba := Nat.le_trans L.size K;have a := a.g0 Y;have f := f.g0 Y;have j := j.g0 Y;have g := g.g0 Y;have l := l.g0 Y;have t := t.ext Y λ_ _ => id;have A := A.g4 Y;have L := L.g4 Y;refine ql [(9, false), qP 10, qP 11, (12, false), qP 13, qP 14, (15, false), qP 16, qP 17, (18, false)] 0 Z zk ?_;refine jg Z (gx call65 Z (xi cr (b.length : Int)) λdm dn bp => ⟨(by obtain ⟨rfl, S⟩ := bp; exact L.g4 S), ?_⟩);obtain ⟨rfl, S⟩ := bp;have a := a.g0 S;have f := f.g0 S;have j := j.g0 S;have r := r.g0 S;have g := g.g0 S;have l := l.g0 S;have t := t.ext S λ_ _ => id;have A := A.g4 S;have L := L.g4 S;rw [Bd];refine gl g5 2 Z ?_;have E := l;refine jg Z (uh g5 l Z Z (cS (by decide : 0 + (1 + 1) < 6) Z) λdp l B cy => ⟨L.then B, ?_⟩);have a := a.ext B aq;have f := f.ext B au;have j := j.ext B aw;have r := r.ext B λe => by have e : T = x := e; omega
 have L := L.then B;have A := A.then (B.mono λz _ e => .inr (by have e : z = x := e; rw [e]; exact J));have g := g.ext B λz o e => by have e : z = x := e; subst e; exact P z J o
 have t := t.ku B E zd;refine gl g5 2 Z ?_;have E := l;refine jg Z (uh g5 l Z Z (cS (by decide : 0 + (2 + 1) < 6) Z) λdq l aa cz => ⟨L.then aa, ?_⟩);have a := a.ext aa aq;have f := f.ext aa au;have j := j.ext aa aw;have r := r.ext aa λe => by have e : T = x := e; omega
 have L := L.then aa;have A := A.then (aa.mono λz _ e => .inr (by have e : z = x := e; rw [e]; exact J));have g := g.ext aa λz o e => by have e : z = x := e; subst e; exact P z J o
 have t := t.ku aa E zd;refine gl g5 2 Z ?_;have E := l;refine jg Z (uh g5 l Z Z (cS (by decide : 0 + (3 + 1) < 6) Z) λdr l ab c0 => ⟨L.then ab, ?_⟩);have a := a.ext ab aq;have f := f.ext ab au;have j := j.ext ab aw;have r := r.ext ab λe => by have e : T = x := e; omega
 have L := L.then ab;have A := A.then (ab.mono λz _ e => .inr (by have e : z = x := e; rw [e]; exact J));have g := g.ext ab λz o e => by have e : z = x := e; subst e; exact P z J o
 have t := t.ku ab E zd;have bi := λz (o : j5 q2 z) => t.lt o;refine jd (j1 ?_);exact gk ({ W with D := y.1, broken := false, turn := W.turn + 1, pieces := [b], used := kl b.length }, λz => z = x \/ z = T \/ j5 q2 z) Z ⟨⟨⟨⟨some ⟨T, 0, none⟩, 1, _, (by rw [ax] at l; exact l), Own.blk (n := 1) (c := 1) r 1 Z (aA _) zd, qq.snoc (ps := []) (rows := []) ⟨Z, λi b v h => by cases h⟩ (zw.ofOwn t λz o => .inr (.inr o)), λz o => by cases o; exact .inr (.inl Z)⟩, .inl Z, λz o => by rcases o with rfl | rfl | o; exact l.lt; exact r.lt; exact bi z o⟩, g, λz o => by rcases o with rfl | rfl | o; exact .inl J; exact .inr a1; exact .inr (Nat.le_trans bw (bc z o)), λz o e => by rcases o with rfl | rfl | o; exact P _ J e; have := ak _ e; omega; have := ak z e; have := bc z o; omega, by rw [a5]; exact ckp_ok ar hy a5⟩, a, f, j, A⟩;refine gx call65 rfl (xi cp (b.length : Int)) λds dt bq => ⟨(by obtain ⟨rfl, U⟩ := bq; exact L.g4 U), ?_⟩;obtain ⟨rfl, U⟩ := bq;have a := a.g0 U;have f := f.g0 U;have j := j.g0 U;have g := g.g0 U;have l := l.g0 U;have t := t.ext U λ_ _ => id;have A := A.g4 U;have L := L.g4 U;rw [Bd];refine ql [qP 10, qP 11] 8 Z zk (gl g5 2 Z (z6 Z (B9 [6, 12] Z zk ⟨⟨_, rfl, ?_⟩, ⟨_, rfl, ?_⟩, trivial⟩)));refine kz g5 Z 1 Z Z Z zd zd zt (l' := [.slice q2 b.length k2]) Z λT du K r ac c1 => ⟨L.g4 ac, ?_⟩;have a7 := gw a.lt K;have a8 := gw f.lt K;have a9 := gw j.lt K;have a1 := Nat.le_trans A.size K;have ba := Nat.le_trans L.size K;have a := a.g0 ac;have f := f.g0 ac;have j := j.g0 ac;have g := g.g0 ac;have l := l.g0 ac;have t := t.ext ac λ_ _ => id;have A := A.g4 ac;have L := L.g4 ac;refine ql [(12, false), qP 13, qP 14, (15, false), qP 16, qP 17, (18, false)] 0 Z zk ?_;have E := l;refine jg Z (uh g5 l Z Z (cS (by decide : 0 + (1 + 1) < 6) Z) λdv l ad c2 => ⟨L.then ad, ?_⟩);have a := a.ext ad aq;have f := f.ext ad au;have j := j.ext ad aw;have r := r.ext ad λe => by have e : T = x := e; omega
 have L := L.then ad;have A := A.then (ad.mono λz _ e => .inr (by have e : z = x := e; rw [e]; exact J));have g := g.ext ad λz o e => by have e : z = x := e; subst e; exact P z J o
 have t := t.ku ad E zd;refine gl g5 2 Z ?_;have E := l;refine jg Z (uh g5 l Z Z (cS (by decide : 0 + (2 + 1) < 6) Z) λdw l ae c3 => ⟨L.then ae, ?_⟩);have a := a.ext ae aq;have f := f.ext ae au;have j := j.ext ae aw;have r := r.ext ae λe => by have e : T = x := e; omega
 have L := L.then ae;have A := A.then (ae.mono λz _ e => .inr (by have e : z = x := e; rw [e]; exact J));have g := g.ext ae λz o e => by have e : z = x := e; subst e; exact P z J o
 have t := t.ku ae E zd;refine gl g5 2 Z ?_;have E := l;refine jg Z (uh g5 l Z Z (cS (by decide : 0 + (3 + 1) < 6) Z) λdx l af c4 => ⟨L.then af, ?_⟩);have a := a.ext af aq;have f := f.ext af au;have j := j.ext af aw;have r := r.ext af λe => by have e : T = x := e; omega
 have L := L.then af;have A := A.then (af.mono λz _ e => .inr (by have e : z = x := e; rw [e]; exact J));have g := g.ext af λz o e => by have e : z = x := e; subst e; exact P z J o
 have t := t.ku af E zd;have bi := λz (o : j5 q2 z) => t.lt o;refine jd (j1 ?_);exact gk ({ W with D := y.1, broken := false, turn := W.turn + 1, pieces := [b], used := kl b.length }, λz => z = x \/ z = T \/ j5 q2 z) Z ⟨⟨⟨⟨some ⟨T, 0, none⟩, 1, _, (by rw [ax] at l; exact l), Own.blk (n := 1) (c := 1) r 1 Z (aA _) zd, qq.snoc (ps := []) (rows := []) ⟨Z, λi b v h => by cases h⟩ (zw.ofOwn t λz o => .inr (.inr o)), λz o => by cases o; exact .inr (.inl Z)⟩, .inl Z, λz o => by rcases o with rfl | rfl | o; exact l.lt; exact r.lt; exact bi z o⟩, g, λz o => by rcases o with rfl | rfl | o; exact .inl J; exact .inr a1; exact .inr (Nat.le_trans bw (bc z o)), λz o e => by rcases o with rfl | rfl | o; exact P _ J e; have := ak _ e; omega; have := ak z e; have := bc z o; omega, by rw [a5]; exact ckp_ok ar hy a5⟩, a, f, j, A⟩;have E := l;refine uh g5 l rfl rfl (cS (by decide : 0 + (1 + 1) < 6) rfl) λdy l an c5 => ⟨L.then an, ?_⟩;have a := a.ext an aq;have f := f.ext an au;have j := j.ext an aw;have L := L.then an;have A := A.then (an.mono λz _ e => .inr (by have e : z = x := e; rw [e]; exact J));have g := g.ext an λz o e => by have e : z = x := e; subst e; exact P z J o
 have t := t.ku an E zd;refine ql [(6, false), qP 13, qP 14, (15, false), qP 16, qP 17, (18, false)] 0 Z zk ?_;refine jg Z (kz g5 Z 1 Z Z Z zd zd zt (l' := [.slice q2 b.length k2]) Z λT dz K r ag c6 => ⟨L.g4 ag, ?_⟩);have a7 := gw a.lt K;have a8 := gw f.lt K;have a9 := gw j.lt K;have a1 := Nat.le_trans A.size K;have ba := Nat.le_trans L.size K;have a := a.g0 ag;have f := f.g0 ag;have j := j.g0 ag;have g := g.g0 ag;have l := l.g0 ag;have t := t.ext ag λ_ _ => id;have A := A.g4 ag;have L := L.g4 ag;refine gl g5 2 Z ?_;have E := l;refine jg Z (uh g5 l Z Z (cS (by decide : 0 + (2 + 1) < 6) Z) λd0 l ah c7 => ⟨L.then ah, ?_⟩);have a := a.ext ah aq;have f := f.ext ah au;have j := j.ext ah aw;have r := r.ext ah λe => by have e : T = x := e; omega
 have L := L.then ah;have A := A.then (ah.mono λz _ e => .inr (by have e : z = x := e; rw [e]; exact J));have g := g.ext ah λz o e => by have e : z = x := e; subst e; exact P z J o
 have t := t.ku ah E zd;refine gl g5 2 Z ?_;have E := l;refine jg Z (uh g5 l Z Z (cS (by decide : 0 + (3 + 1) < 6) Z) λd1 l ai c8 => ⟨L.then ai, ?_⟩);have a := a.ext ai aq;have f := f.ext ai au;have j := j.ext ai aw;have r := r.ext ai λe => by have e : T = x := e; omega
 have L := L.then ai;have A := A.then (ai.mono λz _ e => .inr (by have e : z = x := e; rw [e]; exact J));have g := g.ext ai λz o e => by have e : z = x := e; subst e; exact P z J o
 have t := t.ku ai E zd;have bi := λz (o : j5 q2 z) => t.lt o;refine jd (j1 ?_);exact gk ({ W with D := y.1, broken := false, turn := W.turn + 1, pieces := [b], used := kl b.length }, λz => z = x \/ z = T \/ j5 q2 z) Z ⟨⟨⟨⟨some ⟨T, 0, none⟩, 1, _, (by rw [ax] at l; exact l), Own.blk (n := 1) (c := 1) r 1 Z (aA _) zd, qq.snoc (ps := []) (rows := []) ⟨Z, λi b v h => by cases h⟩ (zw.ofOwn t λz o => .inr (.inr o)), λz o => by cases o; exact .inr (.inl Z)⟩, .inl Z, λz o => by rcases o with rfl | rfl | o; exact l.lt; exact r.lt; exact bi z o⟩, g, λz o => by rcases o with rfl | rfl | o; exact .inl J; exact .inr a1; exact .inr (Nat.le_trans bw (bc z o)), λz o e => by rcases o with rfl | rfl | o; exact P _ J e; have := ak _ e; omega; have := ak z e; have := bc z o; omega, by rw [a5]; exact ckp_ok ar hy a5⟩, a, f, j, A⟩;refine jw ?_;exact gk ({ W with D := y.1, broken := true }, H) rfl ⟨⟨by have e := az; rw [bN hc] at e; exact e.data rfl rfl rfl rfl rfl, g, λz o => .inl o, P, ckp_bad ar hy hc⟩, a, f, j, A⟩;rintro ⟨V, G⟩ d2 ⟨⟨bx, ca, cs, ct, cu⟩, a, f, j, A⟩;refine jn Z (j6 (gp Z Z ?_));rw [cu];exact ⟨Z, F2, G, ca, bx, bv, cs, ct, A⟩
theorem ready_nil (w:World) {p:Option Addr} {n k:Nat}:
  ge prog 116 [.pointer none,.slice p n k] w λv w'=>v= .int .i64 1/\Ext No w w':=by
 exact gt func116 (have a:=Ext.refl No w;uz Z (j0 (jn Z (Cy Z (jn Z (j6 (u0 (j2 (gp Z Z ⟨Z,a⟩)))))))))
theorem formatW_ok {D:kg} {m:Nat} (hok:D.Ok m) (area:Int):(un D area).1.Ok (m+6000)/\(un D area).1.secs.length=D.secs.length:=by
 by_cases h:0<=area/\C0 area.toNat D.secs.length;obtain⟨a,rfl⟩:∃a:Nat,area=(a:Int):=⟨area.toNat,by omega⟩
 rw[bT] at h;have b:=yj0 (List.replicate (2+2*a) zeros) 0 hok (zeros_rep _);rw[bM] at b;have c:=h.2.2.1;rw[xj2 h.2];split;exact⟨b.mono zo,Am _ _ _⟩
 exact⟨(beginD_ok b 0 a []).mono (by have:kl ([]:Bytes).length=1:=rfl;omega),by rw[beginD_secs,Am]⟩
 rw[formatW_no h];exact⟨hok.mono zo,Z⟩
theorem format_fine {D:kg} {a:Nat} (h:(un D (a:Int)).2=0) {m:Nat} (hok:D.Ok m):Wl.Ok (Wl.fresh (un D (a:Int)).1 a)/\C0 a D.secs.length:=by
 have c:C0 a D.secs.length:=by refine Decidable.byContradiction λd=>?_;rw[formatW_no (λe=>d (by have:=e.2;rwa [bT] at this))] at h;exact absurd (show(2:Int)=0 from h) zd
 have f:=(formatW_ok hok (a:Int)).2;exact⟨⟨⟨c.1,c.2.1⟩,by show 2+2*a<=_;rw[show(Wl.fresh (un D (a:Int)).1 a).D=(un D (a:Int)).1 from Z,f];exact c.2.2,by show 0<4294967296;decide,by simp[Wl.fresh],λb g=>by rw[aE.1 g];exact aF _,by have:=c.1;show 1<=a;omega,Z,by have:=c.1;show 1<=a;omega⟩,c⟩
theorem append_fine {W:Wl} {m:Nat} (hok:W.D.Ok m) (hW:Wl.Ok W) (b:Bytes):(W.append b).1.D.Ok (m+2000)/\Wl.Ok (W.append b).1:=by
 by_cases hr:W.refuses b ((W.size:Int)-W.used)=0;let⟨y,f⟩:∃y,y=Be W.D ((uk W.turn W.size+W.used:Nat):Int) (vr W.turn W.pieces.length b):=⟨_,Z⟩
 have g:=yj0 (vr W.turn W.pieces.length b) ((uk W.turn W.size+W.used:Nat):Int) hok (zz1 _ _ _);have i:=Am (vr W.turn W.pieces.length b) W.D ((uk W.turn W.size+W.used:Nat):Int);rw[<-f,x7] at g;rw[<-f] at i;have k:=Dh b.length;by_cases h0:y.2=0;rw[append_ok hr f h0];have c:b.length<=40000:=by rcases aZ 40000 b.length with h|h;unfold Wl.refuses at hr;rw[aM h] at hr;cases hr;exact h
 have j:W.used+kl b.length<=W.size:=by unfold Wl.refuses at hr;rw[aJ zo] at hr;split at hr;cases hr;split at hr;cases hr;omega
 have p:=Cu c
 have n:W.pieces.length<=uj W.pieces:=by
  have:∀(l:List Bytes),(∀b∈l,b.length<=40000)->l.length<=uj l:=by
   intro l;induction l with
   |nil=>intro _;exact aA _
   |cons a l ih=>
    intro h;have:=Cu (h a zp);have e:uj (a::l)=kl a.length+uj l:=by simp[uj]
    grind
  exact this _ hW.short
 have o:=hW.used;refine⟨g.mono zo,⟨hW.size,by show _<=y.1.secs.length;rw[i];exact hW.secs,hW.turn,by simp,λx d=>?_,?_,?_,j⟩⟩;rcases aV.1 d with d|d;exact hW.short x d;rw[aE.1 d];exact c;show(W.pieces++[b]).length<=W.size;rw[al,dI];omega;show W.used+kl b.length=uj (W.pieces++[b]);rw[Ct,o];rw[append_bad hr f h0];exact⟨g.mono zo,⟨hW.size,by show _<=y.1.secs.length;rw[i];exact hW.secs,hW.turn,hW.some,hW.short,hW.few,hW.used,hW.room⟩⟩
 rw[append_no hr];exact⟨hok.mono zo,hW⟩
theorem ckp_fine {W:Wl} {m:Nat} (hok:W.D.Ok m) (hW:Wl.Ok W) (b:Bytes):(W.qk b).1.D.Ok (m+2000)/\Wl.Ok (W.qk b).1:=by
 by_cases hr:W.refuses b (if W.turn=4294967295 then 0 else(W.size:Int))=0;let⟨y,d⟩:∃y,y=yr W.D (W.turn+1) W.size b:=⟨_,Z⟩
 have e:=beginD_ok hok (W.turn+1) W.size b;have f:=beginD_secs W.D (W.turn+1) W.size b;rw[<-d] at e f;have g:=Dh b.length;by_cases h0:y.2=0;rw[ckp_ok hr d h0];have a:b.length<=40000:=by rcases aZ 40000 b.length with h|h;unfold Wl.refuses at hr;rw[aM h] at hr;cases hr;exact h
 have j:=Cu a;have c:kl b.length<=W.size/\W.turn≠4294967295:=by unfold Wl.refuses at hr;rw[aJ zo] at hr;split at hr;cases hr;by_cases ht4:W.turn=4294967295;rw[aM ht4,aM zo] at hr;cases hr;rw[aJ ht4] at hr;by_cases h6:(W.size:Int)<kl b.length;rw[aM h6] at hr;cases hr;exact⟨by omega,ht4⟩
 have k:=hW.size.1;have l:=hW.turn;refine⟨e.mono zo,⟨hW.size,by show _<=y.1.secs.length;rw[f];exact hW.secs,by show W.turn+1<_;have:=c.2;omega,by simp,λx i=>?_,?_,?_,c.1⟩⟩;rw[aE.1 i];exact a;show 1<=W.size;omega;show kl b.length=uj [b];simp[uj];rw[ckp_bad hr d h0];exact⟨e.mono zo,⟨hW.size,by show _<=y.1.secs.length;rw[f];exact hW.secs,hW.turn,hW.some,hW.short,hW.few,hW.used,hW.room⟩⟩
 rw[ckp_no hr];exact⟨hok.mono zo,hW⟩
theorem readsD_ok:∀(k:Nat) {D:kg} {m:Nat} (at_:Int),D.Ok m->(yw D at_ k).1.Ok (m+k)/\(yw D at_ k).1.secs=D.secs/\(yw D at_ k).1.order=D.order/\((yw D at_ k).2.2=0->(yw D at_ k).2.1.length=k/\∀s∈(yw D at_ k).2.1,s.length=64)
 |0,D,m,at_,h=>⟨h,Z,Z,λ_=>⟨Z,λs hs=>(by cases hs)⟩⟩
 |k+1,D,m,at_,h=>by
  have h1:=h.read at_
  have a:=kg.B3 D at_ false
  rw[readsD_step]
  split
  ·rename_i b
   exact⟨h1.mono zo,a.1,a.2,λe=>absurd e b⟩
  let⟨c,d,f,g⟩:=readsD_ok k (at_+1) h1
  refine⟨c.mono zo,d.trans a.1,f.trans a.2,λe=>?_⟩
  let⟨i,j⟩:=g e
  refine⟨by rw[aR,i],λs hs=>?_⟩
  rcases dK.1 hs with rfl|hs
  ·unfold kg.read
   dsimp only
   split
   ·exact zz9 (h.begin at_ false) _
   exact zeros_length
  exact j s hs
theorem lyGo_fine (t:Nat):∀(f:Nat) (area:List Bytes) (n:Nat),(∀s∈area,s.length=64)->(∀b∈lyGo t f area n,b.length<=40000)/\uj (lyGo t f area n)<=area.length
 |0,area,n,h=>⟨λb hb=>(by cases hb),aF _⟩
 |f+1,area,n,h=>by
  unfold lyGo
  cases hl:zj3 area t n with
  |none=>exact⟨λb hb=>(by cases hb),aF _⟩
  |some b=>
   let⟨h1,h2,h3⟩:=liesB_some h hl
   let⟨c,d⟩:=lyGo_fine t f (area.drop (kl b.length)) (n+1) λs g=>h s (List.mem_of_mem_drop g)
   refine⟨λx a=>?_,?_⟩
   ·rcases dK.1 a with rfl|a
    ·exact h1
    exact c x a
   rw[aW] at d
   have e:uj (b::lyGo t f (area.drop (kl b.length)) (n+1))=kl b.length+uj (lyGo t f (area.drop (kl b.length)) (n+1)):=by simp[uj]
   rw[e]
   omega
theorem used_few:∀(l:List Bytes),(∀b∈l,b.length<=40000)->l.length<=uj l
 | [],_=>aA _
 |a::l,h=>by
  have:=Cu (h a zp)
  have e:uj (a::l)=kl a.length+uj l:=by simp[uj]
  rw[e,aR]
  have:=used_few l λx c=>h x (by simp[c])
  omega
theorem openAt_fine {D:kg} {m t n:Nat} (hok:D.Ok m) (hn:n<=1000):(xg D t n).1.Ok (m+4000)/\(xg D t n).1.secs.length=D.secs.length/\((xg D t n).2.1=0->(xg D t n).2.2.1=t/\(xg D t n).2.2.2.1=n/\(xg D t n).2.2.2.2≠[]/\(∀b∈(xg D t n).2.2.2.2,b.length<=40000)/\uj (xg D t n).2.2.2.2<=n):=by
 let⟨c,d,o,i⟩:=readsD_ok n (uk t n) hok;unfold xg;dsimp only;split;rename_i f;exact⟨c.mono zo,by rw[d],λe=>absurd e f⟩
 rename_i f;let⟨h,j⟩:=i (aN.1 f);let⟨k,l⟩:=lyGo_fine t (yw D (uk t n) n).2.1.length (yw D (uk t n) n).2.1 0 j;split;exact⟨c.mono zo,by rw[d],λe=>absurd (show(140:Int)=0 from e) zd⟩
 rename_i g;have a:=cleanD_ok c ((uk t n+uj (lyingB (yw D (uk t n) n).2.1 t):Nat):Int) ((yw D (uk t n) n).2.1.drop (uj (lyingB (yw D (uk t n) n).2.1 t)));rw[aW,h] at a;exact⟨a.mono zo,by rw[cleanD_secs,d],λ_=>⟨Z,Z,g,k,Nat.le_trans l (Nat.le_of_eq h)⟩⟩
theorem openW_fine {D:kg} {m:Nat} (hok:D.Ok m):(qj D).1.Ok (m+5000)/\(qj D).1.secs.length=D.secs.length/\((qj D).2.1=0->Wl.Ok (Wl.opened (qj D))):=by
 obtain⟨⟨i,j,v⟩,b|⟨t,n,b,w,c,o⟩⟩:=newestD_spec hok;rw[openW_no b.1];exact⟨i.mono zo,by rw[j],λe=>absurd e b.2⟩
 rw[openW_yes b];let⟨p,q,r⟩:=openAt_fine (t:=t) i c.2.1;have a:(xg (ue D).1 t n).1.secs.length=D.secs.length:=by rw[q,j]
 refine⟨p.mono zo,a,λe=>?_⟩;let⟨s,d,u,k,l⟩:=r e;have f:=c.1;have g:=c.2.1;have h:=c.2.2;refine⟨?_,?_,?_,u,k,?_,Z,?_⟩;show 4<=(xg (ue D).1 t n).2.2.2.1/\(xg (ue D).1 t n).2.2.2.1<=1000;rw[d];exact⟨f,g⟩
 show 2+2*(xg (ue D).1 t n).2.2.2.1<=(xg (ue D).1 t n).1.secs.length;rw[d,a];exact h;show(xg (ue D).1 t n).2.2.1<4294967296;rw[s];exact o;show(xg (ue D).1 t n).2.2.2.2.length<=(xg (ue D).1 t n).2.2.2.1;rw[d];exact Nat.le_trans (used_few _ k) l;show uj (xg (ue D).1 t n).2.2.2.2<=(xg (ue D).1 t n).2.2.2.1;rw[d];exact l
theorem new_calls (w:World) {n:Nat} (h:1<=n/\n<=2048):
  ge prog 22 [.int .i64 (n:Int)] w λv w'=>∃(d:Nat) (F:Nat->Prop),v= .tuple #[.pointer (some ⟨d,0,none⟩),.int .i64 0]/\At w' d F (kg.fresh n)/\(∀y,F y->w.heap.size<=y)/\Ext No w w':=
 (dk_new w (n:Int)).mono λv w' a=>by
  rw[aM zo] at a
  let⟨d,c,i,b,f⟩:=a
  rw[bT] at b
  exact⟨d,_,c,b,λy g=>g.elim (λe=>e.elim) λe=>e.1,f⟩
end Go.Proofs.YtpdiphfjmepijaaGreatDoor
namespace Go.Vc
theorem Own.opened {w:World} {p:Option Addr} {n c T sz:Nat} {xs:List Value} (h:Own w p n c T sz xs) (hn:0<n):∃b l,p=some ⟨b,0,none⟩/\gu w b T l/\l.length=c*sz/\n<=c/\c<=maxLen/\l.take (n*sz)=xs:=by
 rcases h with⟨_,h,_,_⟩|⟨b,l,d,e,f,a,g,i⟩;omega;exact⟨b,l,d,e,f,a,g,i⟩
theorem flat_set {α:Type} {f:α->List Value} {n:Nat} {l:List α} (hn:∀x∈l,(f x).length=n) {i j:Nat} (hi:i<l.length) (hj:j<n) {v:Value} {y:α} (hy:f y=(f l[i]).set j v):(l.flatMap f).set (i*n+j) v=(l.set i y).flatMap f:=by
 have h:=yz0 (Uni.map hn) (i:=i) (j:=j) (r:=f l[i]) (by rw[bZ,aS hi];rfl) [v] zb;rw[List.flatMap_def,List.flatMap_def,List.map_set,hy];exact h
theorem minI (n k : Nat) : (if (k : Int) < (n : Int) then (k : Int) else (n : Int)) = ((min n k : Nat) : Int) := by split <;> omega
theorem min_take {α : Type} (l : List α) (k : Nat) : min l.length k = (l.take k).length := by simp [Nat.min_comm]
abbrev IdB := List UInt8
def idLt (a b : IdB) : Prop := Op.bytesLess a b = true
instance (a b : IdB) : Decidable (idLt a b) := inferInstanceAs (Decidable (_ = true))
theorem idLt_irrefl (a : IdB) : ¬ idLt a a := λh => yz5 a a h h
theorem bl_trans:∀(x y z:List UInt8),Op.bytesLess x y=true->Op.bytesLess y z=true->Op.bytesLess x z=true
 | [],[],_,h,_=>by cases h
 | [],_::_,[],_,h=>by cases h
 | [],_::_,_::_,_,_=>rfl
 |_::_,[],_,h,_=>by cases h
 |_::_,_::_,[],_,h=>by cases h
 |a::x,b::y,c::z,h,k=>by
  simp only[Op.bytesLess,Bool.or_eq_true,co,aO,beq_iff_eq] at h k|-
  rcases h with h|⟨rfl,h⟩
  ·rcases k with k|⟨rfl,k⟩
   ·exact .inl (UInt8.lt_trans h k)
   exact .inl h
  rcases k with k|⟨rfl,k⟩
  ·exact .inl k
  exact .inr ⟨Z,bl_trans x y z h k⟩
def Rise (l : List IdB) : Prop := l.Pairwise idLt
theorem rise_nodup {l:List IdB} (h:Rise l):l.Nodup:=List.Pairwise.imp (λ{a b} (c:idLt a b) (e:a=b)=>idLt_irrefl b (e▸c)) h
open Classical in
structure yu where
  name : Str
  was : Bool
  is : Bool
  old : Bytes
  new : Bytes
  deriving DecidableEq
structure Bu where
  objs : List jr
  sets : List yu
  deriving DecidableEq
abbrev yp := Str × Bytes
structure C3 where
  row : List jr
  vals : List yp
def yq5 (is : Bool) (b : Bytes) : Prop := b.length <= 4096 /\ (is = true \/ b.length = 0)
instance (i : Bool) (b : Bytes) : Decidable (yq5 i b) := inferInstanceAs (Decidable (_ /\ _))
def Cj (s : yu) : Prop := s.name ≠ [] /\ s.name.length <= 32 /\ yq5 s.was s.old /\ yq5 s.is s.new
instance (s : yu) : Decidable (Cj s) := inferInstanceAs (Decidable (_ /\ _))
def yq7 (l : List yu) : Prop := (∀ s ∈ l, Cj s) /\ (l.map yu.name).Nodup
instance (l : List yu) : Decidable (yq7 l) := inferInstanceAs (Decidable (_ /\ _))
def Ad (b : Bu) : Prop := b.objs.length <= 4096 /\ b.sets.length <= 128 /\ (∀ o ∈ b.objs, xf o) /\ yq7 b.sets
instance (b : Bu) : Decidable (Ad b) := inferInstanceAs (Decidable (_ /\ _))
def xw6 (is : Bool) (b : Bytes) : Bytes := [isB is] ++ x9 2 b
def zv2 (s : yu) : Bytes := x9 1 s.name ++ xw6 s.was s.old ++ xw6 s.is s.new
def za (l : List jr) : Bytes := l.flatMap λo => x9 2 (laidB o)
def u7 (b : Bu) : Bytes := be 2 b.objs.length ++ za b.objs ++ be 1 b.sets.length ++ b.sets.flatMap zv2
def Ds.side (s : Ds) : (Bool × Bytes) × Ds := ((decide (0 < num (s.off 1).1), ((s.off 1).2.str 2).1), ((s.off 1).2.str 2).2)
def Ds.set (s : Ds) : yu × Ds :=
  let n := s.str 1
  let o := n.2.side
  let p := o.2.side
  (⟨n.1, o.1.1, p.1.1, o.1.2, p.1.2⟩, p.2)
abbrev D6 : Bu := ⟨[], []⟩
def rawB (b : Bytes) : (List Bytes × List yu) × Ds :=
  let n := (⟨b, false⟩ : Ds).off 2
  let os := Ds.each (λs => s.str 2) (num n.1) n.2
  let m := os.2.off 1
  let ss := Ds.each Ds.set (num m.1) m.2
  ((os.1, ss.1), ss.2)
def batOf (x : List Bytes × List yu) : Bu := ⟨x.1.map λy => (vy y).1, x.2⟩
def vi (b : Bytes) : Bu × Int :=
  if (rawB b).2.bad then (D6, 7)
  else if (∀ y ∈ (rawB b).1.1, (vy y).2 = 0) /\ Ad (batOf (rawB b).1) /\ u7 (batOf (rawB b).1) = b then (batOf (rawB b).1, 0)
  else (D6, 2)
def u1 (l : List jr) : List IdB := l.map xj
def brO (s : Option (List jr × List jr)) (o : jr) : Option (List jr × List jr) :=
  s.bind λp => if xj o ∈ u1 p.1 then some p else if ∀ x ∈ k8 o, x ∈ u1 p.1 then some (p.1 ++ [o], p.2 ++ [o]) else none
def y8 (row l : List jr) : Option (List jr × List jr) := l.foldl brO (some (row, []))
def A5 (l : List yp) (n : Str) : Option Bytes := (l.find? λv => decide (v.1 = n)).map (·.2)
def Cp (l : List yp) (s : yu) : Prop := A5 l s.name = if s.was then some s.old else none
instance (l : List yp) (s : yu) : Decidable (Cp l s) := inferInstanceAs (Decidable (_ = _))
abbrev C2 (a b : Str) : Prop := SLt (vg a) (vg b)
def zv3 (l : List yp) (s : yu) : List yp :=
  (l.filter λv => decide (C2 v.1 s.name)) ++ (if s.is then [(s.name, s.new)] else []) ++ l.filter λv => decide (C2 s.name v.1)
def seS (v : Option (List yp)) (s : yu) : Option (List yp) := v.bind λl => if Cp l s then some (zv3 l s) else none
def z8 (l : List yp) (ss : List yu) : Option (List yp) := ss.foldl seS (some l)
def jp (s : C3) (b : Bu) : C3 × Bu × Int := match y8 s.row b.objs with
  | none => (s, D6, 4)
  | some p => match z8 s.vals b.sets with
    | none => (s, D6, 200)
    | some v => if 128 < v.length then (s, D6, 6) else (⟨p.1, v⟩, ⟨p.2, b.sets⟩, 0)
def y7 (s : C3) : Bu := ⟨s.row, s.vals.map λv => ⟨v.1, false, true, [], v.2⟩⟩
def ud (s : C3) (b : Bytes) : Option C3 :=
  if (vi b).2 = 0 /\ (jp s (vi b).1).2.2 = 0 /\ (jp s (vi b).1).2.1.objs.length = (vi b).1.objs.length then some (jp s (vi b).1).1 else none
abbrev yx3 : C3 := ⟨[], []⟩
def xe (b : Bytes) : Option C3 := if b = [] then some yx3 else (ud yx3 b).bind λs => if u7 (y7 s) = b then some s else none
def Cb (ps : List Bytes) : Option C3 := match ps with
  | [] => none
  | b :: l => l.foldl (λs x => s.bind λs => ud s x) (xe b)
structure Sd where
  W : Wl
  s : C3
def anewD (x : Sd) (next : C3) : Sd × Int :=
  if 4096 < next.row.length \/ 40000 < (u7 (y7 next)).length then (x, 6)
  else (⟨(x.W.qk (u7 (y7 next))).1, if (x.W.qk (u7 (y7 next))).2 = 0 then next else x.s⟩, (x.W.qk (u7 (y7 next))).2)
def zj7 (x : Sd) (a : C3) (row : Bytes) : Sd × Int :=
  if row.length <= 40000 /\ (kl row.length : Int) <= (x.W.size : Int) - x.W.used then (⟨(x.W.append row).1, if (x.W.append row).2 = 0 then a else x.s⟩, (x.W.append row).2) else anewD x a
def zx (x : Sd) (b : Bu) : Sd × Int :=
  if x.W.broken = true then (x, 8) else if ¬ Ad b then (x, 2)
  else if (jp x.s b).2.2 ≠ 0 \/ ((jp x.s b).2.1.objs = [] /\ (jp x.s b).2.1.sets = []) then (x, (jp x.s b).2.2)
  else zj7 x (jp x.s b).1 (u7 (jp x.s b).2.1)
open Classical in
def xu (D : kg) : kg × Int × Option Sd :=
  if (qj D).2.1 ≠ 0 then ((qj D).1, (qj D).2.1, none) else match Cb (Wl.opened (qj D)).pieces with
  | none => ((qj D).1, 201, none)
  | some s => ((qj D).1, 0, some ⟨Wl.opened (qj D), s⟩)
def Au (l : List yp) : Prop := l.Pairwise λa b => C2 a.1 b.1
def Ahead : List jr -> List jr -> Prop
  | _, [] => True
  | before, o :: r => (xj o ∉ u1 before /\ ∀ x ∈ k8 o, x ∈ u1 before) /\ Ahead (before ++ [o]) r
structure C3.Ok (s : C3) : Prop where
  objs : ∀ o ∈ s.row, xf o
  ahead : Ahead [] s.row
  rise : Au s.vals
  vals : ∀ v ∈ s.vals, v.1 ≠ [] /\ v.1.length <= 32 /\ v.2.length <= 4096
  few : s.vals.length <= 128
theorem yj3 (a : Str) : ¬ C2 a a := λh => yz5 a a h h
theorem Bz {a b : Str} (h : C2 a b) : ¬ C2 b a := λk => yz5 a b h k
theorem nLt_trans {a b c : Str} (h : C2 a b) (k : C2 b c) : C2 a c := bl_trans a b c h k
theorem xv3 (a b:Str):C2 a b\/a=b\/C2 b a:=by
 rcases bl_total a b with(h|h)|h;exact .inl h;exact .inr (.inl h);exact .inr (.inr h)
theorem nLt_ne {a b : Str} (h : C2 a b) : a ≠ b := λe => yj3 b (e ▸ h)
theorem B4 {α β:Type} {f:β->α->β} {b:β} {l:List α} {i:Nat} (hi:i<l.length):(l.take (i+1)).foldl f b=f ((l.take i).foldl f b) l[i]:=by
 rw[List.take_succ_eq_append_getElem hi,List.foldl_append];rfl
theorem B6 {α β:Type} {f:Option β->α->Option β} (hf:∀x,f none x=none):∀l:List α,l.foldl f none=none
 | []=>rfl
 |x::r=>by rw[List.foldl_cons,hf,B6 hf r]
theorem foldl_stop {α β:Type} {f:Option β->α->Option β} (hf:∀x,f none x=none) {b:Option β} {l:List α} {i:Nat} (hi:i<l.length) (h:f ((l.take i).foldl f b) l[i]=none):l.foldl f b=none:=by
 rw[<-cM (i+1) l,List.foldl_append,B4 hi,h,B6 hf]
theorem brO_none (o : jr) : brO none o = none := rfl
theorem seS_none (s : yu) : seS none s = none := rfl
theorem idsOf_snoc (l : List jr) (o : jr) : u1 (l ++ [o]) = u1 l ++ [xj o] := by rw [u1, bE]; rfl
theorem Ahead.snoc {o:jr}:∀{b l:List jr},Ahead b l->(xj o∉u1 (b++l)/\∀x∈k8 o,x∈u1 (b++l))->Ahead b (l++[o])
 |b,[],_,h=>by rw[bJ] at h;exact⟨h,trivial⟩
 |b,y::r,h,k=>⟨h.1,Ahead.snoc h.2 (by rw[aU];exact k)⟩
theorem bringO_all:∀(l row:List jr) (fresh:List jr) {row' fresh':List jr},Ahead [] row->l.foldl brO (some (row,fresh))=some (row',fresh')->
  Ahead [] row'/\(∃m,row'=row++m/\fresh'=fresh++m/\m.Sublist l)
 | [],row,fresh,row',fresh',ha,h=>by cases h;exact⟨ha,[],by simp,by simp,.slnil⟩
 |o::l,row,fresh,row',fresh',ha,h=>by
  rw[List.foldl_cons] at h
  by_cases h1:xj o∈u1 row
  ·rw[show brO (some (row,fresh)) o=some (row,fresh) from by simp[brO,h1]] at h
   let⟨h2,m,e1,e2,e3⟩:=bringO_all l row fresh ha h
   exact⟨h2,m,e1,e2,e3.cons _⟩
  by_cases h2:∀x∈k8 o,x∈u1 row
  ·rw[show brO (some (row,fresh)) o=some (row++[o],fresh++[o]) from by simp only[brO,Option.bind_some,aJ h1,aM h2]] at h
   let⟨a,m,e1,e2,e3⟩:=bringO_all l _ _ (ha.snoc (by rw[bU];exact⟨h1,h2⟩)) h
   exact⟨a,o::m,by rw[e1,aU];rfl,by rw[e2,aU];rfl,e3.cons_cons _⟩
  rw[show brO (some (row,fresh)) o=none from by simp only[brO,Option.bind_some,aJ h1,aJ h2],B6 brO_none] at h
  cases h
theorem find_split {l A B:List yp} {n:Str} (hr:Au l) (e:l=A++B) (hA:∀v∈A,C2 v.1 n) (hB:∀v,B.head? =some v->¬C2 v.1 n):
  (l.filter λv=>decide (C2 v.1 n))=A/\((∃x r,B=(n,x)::r/\(l.filter λv=>decide (C2 n v.1))=r/\A5 l n=some x)\/
   ((∀v,B.head? =some v->v.1≠n)/\(l.filter λv=>decide (C2 n v.1))=B/\A5 l n=none)):=by
 subst e;let⟨_,k,_⟩:=List.pairwise_append.1 hr;have i:(A.filter λv=>decide (C2 v.1 n))=A:=List.filter_eq_self.2 λv a=>by simpa using hA v a
 have c:(A.filter λv=>decide (C2 n v.1))=[]:=List.filter_eq_nil_iff.2 λv a=>by simpa using Bz (hA v a)
 have d:A.find? (λv=>decide (v.1=n))=none:=List.find?_eq_none.2 λv a=>by simpa using nLt_ne (hA v a)
 cases B with
 |nil=>exact⟨by rw[bJ,i],.inr ⟨λv a=>(by cases a),by rw[bJ,c],by rw[A5,bJ,d];rfl⟩⟩
 |cons b r=>
  let⟨q,_⟩:=List.pairwise_cons.1 k;have f:=hB b Z;have g:∀v∈r,C2 n v.1:=λv a=>by rcases xv3 b.1 n with h|h|h;exact absurd h f;rw[<-h];exact q v a;exact nLt_trans h (q v a)
  have m:(r.filter λv=>decide (C2 v.1 n))=[]:=List.filter_eq_nil_iff.2 λv a=>by simpa using Bz (g v a)
  have j:(r.filter λv=>decide (C2 n v.1))=r:=List.filter_eq_self.2 λv a=>by simpa using g v a
  have o:r.find? (λv=>decide (v.1=n))=none:=List.find?_eq_none.2 λv a=>by simpa using(nLt_ne (g v a)).symm
  refine⟨by rw[List.filter_append,i,dJ (by simpa using f),m,bJ],?_⟩;by_cases hbe:b.1=n;refine .inl ⟨b.2,r,by rw[<-hbe],?_,?_⟩;rw[List.filter_append,c,dJ (by rw[hbe];simpa using yj3 n),j,bU];rw[A5,List.find?_append,d,Option.none_or,List.find?_cons_of_pos (by simpa using hbe)];rfl;have p:C2 n b.1:=by rcases xv3 b.1 n with h|h|h;exact absurd h f;exact absurd h hbe;exact h
  refine .inr ⟨λv a=>by cases a;exact hbe,?_,?_⟩;rw[List.filter_append,c,List.filter_cons_of_pos (by simpa using p),j,bU];rw[A5,List.find?_append,d,Option.none_or,List.find?_cons_of_neg (by simpa using hbe),o];rfl
theorem putV_mem {l:List yp} {s:yu} {v:yp} (h:v∈zv3 l s):v∈l\/s.is=true/\v=(s.name,s.new):=by
 unfold zv3 at h;rcases aV.1 h with h|h;rcases aV.1 h with h|h;exact .inl (List.mem_filter.1 h).1;split at h;rename_i a;exact .inr ⟨a,by simpa using h⟩;cases h;exact .inl (List.mem_filter.1 h).1
theorem putV_rise {l:List yp} {s:yu} (h:Au l):Au (zv3 l s):=by
 unfold zv3 Au;refine List.pairwise_append.2 ⟨List.pairwise_append.2 ⟨h.filter _,?_,λa c b d=>?_⟩,h.filter _,λa c b d=>?_⟩;split;exact List.pairwise_singleton _ _;exact .nil;have f:=(List.mem_filter.1 c).2;split at d;rw[aE.1 d];simpa using f;cases d;have e:C2 s.name b.1:=by simpa using(List.mem_filter.1 d).2
 rcases aV.1 c with c|c;exact nLt_trans (by simpa using(List.mem_filter.1 c).2) e;split at c;rw[aE.1 c];exact e;cases c
theorem filters_le (n:Str):∀l:List yp,(l.filter λv=>decide (C2 v.1 n)).length+(l.filter λv=>decide (C2 n v.1)).length<=l.length
 | []=>aA _
 |v::r=>by
  have:=filters_le n r
  by_cases h:C2 v.1 n
  ·rw[List.filter_cons_of_pos (by simpa using h),dJ (by simpa using Bz h),aR,aR];omega
  by_cases k:C2 n v.1
  ·rw[dJ (by simpa using h),List.filter_cons_of_pos (by simpa using k),aR,aR];omega
  rw[dJ (by simpa using h),dJ (by simpa using k),aR];omega
theorem putV_len (l:List yp) (s:yu):(zv3 l s).length<=l.length+1:=by
 have:=filters_le s.name l;unfold zv3;rw[al,al];split<;>simp only[aR,dF]<;>omega
theorem xx2 {p q:yp->Bool}:∀{l:List yp},(∀v∈l,p v=true->q v=true)->(l.filter q).find? p=l.find? p
 | [],_=>rfl
 |v::r,h=>by
  have ih:=xx2 (p:=p) (q:=q) (l:=r) λu a=>h u (cL _ a)
  by_cases hp:p v=true
  ·rw[List.filter_cons_of_pos (h v dE hp),List.find?_cons_of_pos hp,List.find?_cons_of_pos hp]
  rw[List.find?_cons_of_neg hp]
  by_cases hq:q v=true
  ·rw[List.filter_cons_of_pos hq,List.find?_cons_of_neg hp,ih]
  rw[dJ hq,ih]
theorem valN_put {l:List yp} {s:yu} {m:Str} (hm:m≠s.name):A5 (zv3 l s) m=A5 l m:=by
 unfold A5 zv3;congr 1;have b:(if s.is then [(s.name,s.new)] else []:List yp).find? (λv=>decide (v.1=m))=none:=by split;rw[List.find?_cons_of_neg (by simpa using hm.symm)];rfl;rfl
 rw[List.find?_append,List.find?_append,b,Option.or_none];rcases xv3 m s.name with h|h|h;rw[xx2 (λv _ a=>by simp only[aO] at a|-;rw[a];exact h)]
 have d:(l.filter λv=>decide (C2 s.name v.1)).find? (λv=>decide (v.1=m))=none:=List.find?_eq_none.2 λv a=>by
  have c:C2 s.name v.1:=by simpa using(List.mem_filter.1 a).2
  simp only[aO];intro e;rw[e] at c;exact Bz h c
 rw[d,Option.or_none];exact absurd h hm
 grind
theorem xx6:∀(ss:List yu) {l l':List yp},ss.foldl seS (some l)=some l'->Au l->
  Au l'/\l'.length<=l.length+ss.length/\(∀v∈l',v∈l\/∃s∈ss,s.is=true/\v=(s.name,s.new))/\∀m,m∉ss.map yu.name->A5 l' m=A5 l m
 | [],l,l',h,hr=>by cases h;exact⟨hr,by simp,λv hv=> .inl hv,λ_ _=>rfl⟩
 |s::r,l,l',h,hr=>by
  rw[List.foldl_cons] at h
  by_cases hf:Cp l s
  ·rw[show seS (some l) s=some (zv3 l s) from by simp only[seS,Option.bind_some,aM hf]] at h
   let⟨h1,h2,h3,h4⟩:=xx6 r h (putV_rise hr)
   refine⟨h1,?_,λv hv=>?_,λm b=>?_⟩
   ·have:=putV_len l s
    rw[aR];omega
   ·rcases h3 v hv with h|⟨t,c,e⟩
    ·rcases putV_mem h with h|h
     ·exact .inl h
     exact .inr ⟨s,dE,h⟩
    exact .inr ⟨t,cL _ c,e⟩
   rw[dD,dK,not_or] at b
   rw[h4 m b.2,valN_put b.1]
  rw[show seS (some l) s=none from by simp only[seS,Option.bind_some,aJ hf],B6 seS_none] at h
  cases h
theorem yw0 : C3.Ok yx3 := ⟨λ_ h => (by cases h), trivial, List.Pairwise.nil, λ_ h => (by cases h), aF _⟩
theorem after_some {s:C3} {b:Bu} (h:(jp s b).2.2=0):∃p v,y8 s.row b.objs=some p/\z8 s.vals b.sets=some v/\v.length<=128/\jp s b=(⟨p.1,v⟩,⟨p.2,b.sets⟩,0):=by
 unfold jp at h|-;cases h1:y8 s.row b.objs with
 |none=>rw[h1] at h;cases h
 |some p=>
  grind
theorem after_fail {s:C3} {b:Bu} (h:(jp s b).2.2≠0):(jp s b).1=s/\(jp s b).2.1=D6:=by
 unfold jp at h|-;split;exact⟨Z,Z⟩
 grind
theorem after_ok {s:C3} {b:Bu} (hs:s.Ok) (hb:Ad b):(jp s b).1.Ok/\(jp s b).1.row.length<=s.row.length+b.objs.length:=by
 by_cases h0:(jp s b).2.2=0;let⟨p,v,f,g,i,e⟩:=after_some h0;rw[e];let⟨j,m,c,y,d⟩:=bringO_all b.objs s.row [] hs.ahead f;let⟨k,z,l,_⟩:=xx6 b.sets g hs.rise;refine⟨⟨λo a=>?_,j,k,λx n=>?_,i⟩,by dsimp only;rw[c,al];have:=d.length_le;omega⟩;dsimp only at a;rw[c] at a;rcases aV.1 a with a|a;exact hs.objs o a;exact hb.2.2.1 o (d.subset a);rcases l x n with h|⟨t,q,h,e⟩;exact hs.vals x h;let⟨r,u,_,w⟩:=hb.2.2.2.1 t q;rw[e];exact⟨r,u,w.1⟩
 rw[(after_fail h0).1];exact⟨hs,Nat.le_add_right _ _⟩
theorem fresh_may {s:C3} {b:Bu} (hb:Ad b):Ad (jp s b).2.1:=by
 by_cases h0:(jp s b).2.2=0;let⟨p,v,i,j,t,e⟩:=after_some h0;rw[e]
 have k:∀(l d a:List jr) (f c:List jr),l.foldl brO (some (d,a))=some (f,c)->∃m,c=a++m/\m.Sublist l:=by
  intro l;induction l with
  |nil=>intro d a f c h;cases h;exact⟨[],by simp,.slnil⟩
  |cons o l ih=>
   intro d a f c h;rw[List.foldl_cons] at h;by_cases i:xj o∈u1 d;rw[show brO (some (d,a)) o=some (d,a) from by simp[brO,i]] at h;let⟨m,g,n⟩:=ih d a _ _ h;exact⟨m,g,n.cons _⟩
   by_cases j:∀x∈k8 o,x∈u1 d;rw[show brO (some (d,a)) o=some (d++[o],a++[o]) from by simp only[brO,Option.bind_some,aJ i,aM j]] at h;let⟨m,g,n⟩:=ih _ _ _ _ h;exact⟨o::m,by rw[g,aU];rfl,n.cons_cons _⟩
   rw[show brO (some (d,a)) o=none from by simp only[brO,Option.bind_some,aJ i,aJ j],B6 brO_none] at h;cases h
 let⟨m,g,q⟩:=k b.objs s.row [] p.1 p.2 i;rw[bU] at g;rw[g];exact⟨Nat.le_trans q.length_le hb.1,hb.2.1,λo r=>hb.2.2.1 o (q.subset r),hb.2.2.2⟩
 rw[(after_fail h0).2];exact⟨aF _,aF _,λ_ h=>(by cases h),λ_ h=>(by cases h),List.Pairwise.nil⟩
section
variable {P : Program} {I : u6} {f : Fs} {ops : Array Oper} {o : Oper} {env : Env} {w : World} {K : Env -> World -> Prop}
end
end Go.Vc
namespace Go.Proofs.YtpdiphfjmepijaaGreatDoor
open Go.Proofs.Tryz
open Go.Vc
end Go.Proofs.YtpdiphfjmepijaaGreatDoor
