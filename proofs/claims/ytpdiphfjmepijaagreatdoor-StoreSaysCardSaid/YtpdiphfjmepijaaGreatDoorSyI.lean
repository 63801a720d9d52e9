/-
  Walks and laws towards: which store a log of whatever bytes says (StoreSays)
-/
import Derived.Test.YtpdiphfjmepijaaGreatDoorRows
import Derived.ProofKit
import Derived.LaidMore
import Derived.OpenShut
import Derived.Lib.LaidTab
import Derived.Test.YtpdiphfjmepijaaGreatDoorSyH
open List renaming flatMap_singleton→bB,getElem_map→bD,map_append→bE,mem_iff_getElem→bF,mem_map→bL,getElem?_map→bZ,mem_map_of_mem→cI,getElem?_eq_some_iff→cU,mem_cons→dK
open Int renaming toNat_natCast→bT
namespace Go.Proofs.YtpdiphfjmepijaaGreatDoor
open Go.Proofs.Tryz
open Go.Vc
abbrev zz4 (l : List Bool) : List Value := l.map Value.bool
theorem tw_read {D:kg} (h1:D.dead=false) (h2:D.fault= -1) {i:Nat} (hi:i<D.secs.length):D.read (i:Int)=({D with done:=D.done+1},D.now i,0):=by
 have e:D.begin (i:Int) false=({D with done:=D.done+1},0):=by
  unfold kg.begin;rw[aJ (by rw[h1];decide),aJ zo,aJ (by rw[h2];decide),aJ zp];have a:vk D.fault=D.fault:=by rw[h2];rfl
  have b:A4 false D.fuse=D.fuse:=by simp[A4]
  rw[a,b]
 unfold kg.read;dsimp only;rw[e,bT];rfl
theorem fill_step {K j:Nat} (h:j<K):(zz4 (List.replicate j true++List.replicate (K-j) false)).set j (Value.bool true)=zz4 (List.replicate (j+1) true++List.replicate (K-(j+1)) false):=by
 unfold zz4;rw[bE,bE,List.map_replicate,List.map_replicate,List.map_replicate,List.map_replicate];apply List.ext_getElem;simp;omega;intro i a b;rw[List.getElem_set];by_cases e:j=i;subst e;simp[List.getElem_append,List.getElem_replicate];rw[aJ e];simp only[List.getElem_append,bM,List.getElem_replicate];by_cases h3:i<j;rw[dif_pos h3,dif_pos zo];rw[dif_neg h3,dif_neg zo]
theorem twins_calls (w:World) {d1 d2 m:Nat} {F1 F2:Nat->Prop} {D:kg} (h1:At w d1 F1 D) (h2:At w d2 F2 D) (hok:D.Ok m) (hm:m+5000<1000000000):
  ge prog 24 [.pointer (some ⟨d1,0,none⟩),.pointer (some ⟨d2,0,none⟩)] w λv w'=>v= .bool true/\Ext No w w':=by
 refine gt func24 ?_;have l:=Ext.refl No w;have a:=h1;have c:=h2;have R:=h1.lt;have S:=h2.lt;have a2:=hok.few;refine jn Z (jy Z (g7 call74 Z (yv1 w a hok zo) λv1 w1 bq=>?_));obtain⟨p1,rfl,_,_,aq⟩:=bq;have a:=a.g0 aq;have c:=c.g0 aq;have l:=l.g4 aq;refine gv g5 Z (g7 call74 Z (yv1 w1 c hok zo) λv2 w2 br=>?_);obtain⟨p2,rfl,_,_,ar⟩:=br;have a:=a.g0 ar;have c:=c.g0 ar;have l:=l.g4 ar;refine k9 Z (gh (jb (α:=Bool) [0,1,5] Z (λz=>[(38,.bool z)]) (λz u=>(z=false/\At u d1 F1 D/\At u d2 F2 D)/\Ext No w u) ?_ ?_));refine gr ?_;refine gv g5 Z (g7 call75 Z (dk_ops w2 a) λv3 w3 bs=>?_);obtain⟨rfl,rfl⟩:=bs;refine gv g5 Z (g7 call75 Z (dk_ops w3 c) λv4 w4 bt=>?_);obtain⟨rfl,rfl⟩:=bt;refine gv g5 Z (j7 25 Z (λW=>?_) (λW=>?_));exact absurd Z W;refine gm g5 1 Z ?_;refine g7 call76 Z (dk_dead w4 a) λv5 w5 bu=>?_;obtain⟨rfl,rfl⟩:=bu;refine gm g5 1 Z (g7 call76 Z (dk_dead w5 c) λv6 w6 bv=>?_);obtain⟨rfl,rfl⟩:=bv;refine gm g5 3 Z (qy 32 Z (λW=>?_) (λW=>?_));simp at W;refine gm g5 6 Z ?_;refine ga ?_;exact gk (decide ((D.order.length:Int)≠(D.order.length:Int))) Z ⟨⟨by simp,a,c⟩,l⟩;rintro z w7 ⟨⟨rfl,a,c⟩,l⟩;refine qz Z (vo (jy Z ?_));have bw:=l.size;refine g7 call41 Z (dk_copy w7 a hok zo) λv8 w8 bx=>?_;obtain⟨c1,rfl,a3,d,au⟩:=bx;have a:=a.g0 au;have c:=c.g0 au;have l:=l.g4 au;generalize hFC1:Grow _ _ _=r at d;have x:∀y,r y->w.heap.size<=y/\y<w8.heap.size:=λy g=>by rw[<-hFC1] at g;exact g.elim (λe=>e.elim) λe=>⟨by omega,e.2⟩
 obtain⟨av,ad⟩:∃n,n=w8.heap.size:=⟨_,Z⟩
 rw[<-ad] at x;refine gv g5 Z ?_;have bz:=l.size;refine g7 call41 Z (dk_copy w8 c hok zo) λv9 w9 b0=>?_;obtain⟨c2,rfl,a4,f,am⟩:=b0;have a:=a.g0 am;have c:=c.g0 am;have d:=d.g0 am;have l:=l.g4 am;generalize hFC2:Grow _ _ _=s at f;have G:∀y,s y->av<=y:=λy g=>by rw[<-hFC2] at g;exact g.elim (λe=>e.elim) λe=>by omega
 have q:∀y,r y\/s y->w.heap.size<=y:=λy g=>g.elim (λe=>(x y e).1) λe=>by have:=G y e;omega
 have F:∀y,r y->¬s y:=λy h1 h2=>by have:=(x y h1).2;have:=G y h2;omega
 refine k9 Z (gh (jn Z (j0 ?_)));refine ja (α:=Nat×(Option Addr×Nat×Nat)×(Nat×Nat)×(Nat->Prop)×(Nat->Prop)) [0,1] Z (λz=>[(5,.slice z.2.1.1 z.2.1.2.1 z.2.1.2.2),(7,.pointer (some ⟨z.2.2.1.1,0,none⟩)),(8,.pointer (some ⟨z.2.2.1.2,0,none⟩)),(43,.int .i64 (z.1:Int))]) (λz u=>((z.1<=2/\z.2.1.2.1<=m)/\At u d1 F1 D/\At u d2 F2 D/\At u z.2.2.1.1 z.2.2.2.1 D/\At u z.2.2.1.2 z.2.2.2.2 D/\(∀y,z.2.2.2.1 y\/z.2.2.2.2 y->w.heap.size<=y)/\(∀y,z.2.2.2.1 y->¬z.2.2.2.2 y))/\Ext No w u) (λz u=>2-z.1) (0,(some ⟨p1,0,none⟩,D.order.length,D.order.length),(c1,c2),r,s) Z ⟨⟨⟨aF _,a2⟩,a,c,d,f,q,F⟩,l⟩ ?_;rintro⟨k,⟨pp,K,pc⟩,⟨c1,c2⟩,r,s⟩ cg ⟨⟨⟨b1,b2⟩,a,c,d,f,q,F⟩,l⟩;try dsimp only
 dsimp only at b1 b2 a c d f q F;refine uz Z (jc Z (λhc=>?_) (λhc=>?_))
 ·have ch:k<2:=by omega
  refine yz (jy Z ?_);have ae:=d.lt;have af:=f.lt;refine wl (zq8 g5 Z K K 1 Z Z Z zd Z Z (aA _) zo zq λA b3 a5 o H ca=>?_);have a6:=Nat.le_trans l.size a5;have a:=a.g0 H;have c:=c.g0 H;have d:=d.g0 H;have f:=f.g0 H;have l:=l.g4 H;have o:gu b3 A 4 (zz4 (List.replicate 0 true++List.replicate (K-0) false)):=by(have e:Cl K (cellsOf ti4.zero)=zz4 (List.replicate 0 true++List.replicate (K-0) false):=by rw[show cellsOf ti4.zero=[Value.bool false] from Z,rep_one,zz4];simp);rw[<-e];exact o
  have T:∀y,r y->y≠A:=λy g e=>by have:=ae y g;omega
  have ag:∀y,s y->y≠A:=λy g e=>by have:=af y g;omega
  refine k9 Z (gh (jn Z (j0 ?_)));refine ja (α:=Nat) [0,1,7,8,9,43,49] Z (λz=>[(50,.int .i64 (z:Int))]) (λz u=>(z<=K/\At u d1 F1 D/\At u d2 F2 D/\At u c1 r D/\At u c2 s D)/\gu u A 4 (zz4 (List.replicate z true++List.replicate (K-z) false))/\Ext No w u) (λz u=>K-z) (0) Z ⟨⟨aF _,a,c,d,f⟩,o,l⟩ ?_;rintro j b4 ⟨⟨hj,a,c,d,f⟩,o,l⟩;refine uz Z (jc Z (λhc=>?_) (λhc=>?_));have an:j<K:=by omega
  refine yz (jn Z (xt Z (jo Z 1 Z j Z an (0+j*1) Z ?_)));refine wl (uh g5 o Z Z (by simp[zz4];omega) λb5 o J cb=>?_);have a:=a.ext J λy g e=>by have e:y=A:=e;have:=R y g;omega
  have c:=c.ext J λy g e=>by have e:y=A:=e;have:=S y g;omega
  have d:=d.ext J λy g e=>by have e:y=A:=e;exact T y g e
  have f:=f.ext J λy g e=>by have e:y=A:=e;exact ag y g e
  have l:=l.g8 J a6;have o:gu b5 A 4 (zz4 (List.replicate (j+1) true++List.replicate (K-(j+1)) false)):=by(have e:=o;rw[show 0+j*1=j from by omega,fill_step an] at e;exact e)
  refine ga (yt Z ?_);rw[jt _ zo];refine ga ?_;exact j9 (j+1) Z ⟨⟨by omega,a,c,d,f⟩,o,l⟩ zf;have an:j=K:=by omega
  rw[an,Nat.sub_self,List.replicate_zero,bJ] at o;refine zu (gh ?_);refine jb (α:=Bool) [0,1,7,8,43] Z (λz=>[(66,.bool z)]) (λz u=>(z=false/\At u d1 F1 D/\At u d2 F2 D/\At u c1 r (D.zx9 (List.replicate K true))/\At u c2 s (D.zx9 (List.replicate K true)))/\Ext No w u) ?_ ?_;refine gr ?_;refine gv g5 Z ?_;refine g7 call46 Z (dk_crash b4 d hok zo (keep:=List.replicate K true) zp ⟨by simp[zz4],.inr ⟨A,0,Z,o.kc⟩⟩ (λb b6 e hF=>by cases e;exact T _ hF Z)) λci b7 a7=>?_;obtain⟨rfl,X,L⟩:=a7;have l:=l.trans L λy g e=>by have:=q y (.inl e);omega
  have o:=o.ext L λe=>T _ e Z;have a:=a.ext L λy g e=>by have:=R y g;have:=q y (.inl e);omega
  have c:=c.ext L λy g e=>by have:=S y g;have:=q y (.inl e);omega
  have f:=f.ext L λy g e=>F y e g;have d:=X;refine gv g5 Z (qy 61 Z (λW=>?_) (λW=>?_));cases W;refine gm g5 2 Z ?_;refine g7 call46 Z (dk_crash b7 f hok zo (keep:=List.replicate K true) zp ⟨by simp[zz4],.inr ⟨A,0,Z,o.kc⟩⟩ (λb b6 e hF=>by cases e;exact ag _ hF Z)) λcj ck a8=>?_;obtain⟨rfl,Y,I⟩:=a8;have l:=l.trans I λy g e=>by have:=q y (.inr e);omega
  have a:=a.ext I λy g e=>by have:=R y g;have:=q y (.inr e);omega
  have c:=c.ext I λy g e=>by have:=S y g;have:=q y (.inr e);omega
  have d:=d.ext I λy g e=>F y g e;have f:=Y;refine gm g5 2 Z (ga ?_);exact gk (decide ((0:Int)≠0)) Z ⟨⟨by simp,a,c,d,f⟩,l⟩;rintro z b8 ⟨⟨rfl,a,c,d,f⟩,l⟩;refine qz Z (vo (gh (jy Z ?_)));have ah:=hok.zx9 (List.replicate K true);have a9:(D.zx9 (List.replicate K true)).dead=false:=rfl;have ba:(D.zx9 (List.replicate K true)).fault= -1:=rfl;generalize D.zx9 (List.replicate K true)=Dc at d f ah a9 ba|-;have cc:=ah.size;refine g7 call77 Z (dk_len b8 d) λcm cn bb=>?_;obtain⟨rfl,rfl⟩:=bb;refine k9 Z (j0 ?_);refine ja (α:=Nat×kg) [0,1,7,8,43,68] Z (λz=>[(69,.int .i64 (z.1:Int))]) (λz u=>(z.1<=Dc.secs.length/\At u d1 F1 D/\At u d2 F2 D/\At u c1 r z.2/\At u c2 s z.2/\z.2.dead=false/\z.2.fault= -1/\z.2.secs.length=Dc.secs.length/\z.2.Ok (m+z.1))/\Ext No w u) (λz u=>Dc.secs.length-z.1) (0,Dc) Z ⟨⟨aF _,a,c,d,f,a9,ba,Z,ah⟩,l⟩ ?_;rintro⟨i,E1⟩ bc ⟨⟨hi,a,c,d,f,aw,ax,bd,M⟩,l⟩;try dsimp only
  dsimp only at hi a c d f aw ax bd M;refine uz Z (jc Z (λhc=>?_) (λhc=>?_))
  ·have cp:i<Dc.secs.length:=by omega
   have ac:=tw_read aw ax (i:=i) zo;have t:=zz9 M i;obtain⟨Bn,b9⟩:∃B,B=E1.now i:=⟨_,Z⟩
   rw[<-b9] at ac t;refine yz (jn Z (jy Z ?_));refine g7 call78 Z (dkRead bc d M zo (i:Int)) λcq cr bf=>?_;obtain⟨rfl,X,aa⟩:=bf;rw[ac] at X;rw[ac];have l:=l.trans aa λy g e=>by have:=q y (.inl e);omega
   have a:=a.ext aa λy g e=>by have:=R y g;have:=q y (.inl e);omega
   have c:=c.ext aa λy g e=>by have:=S y g;have:=q y (.inl e);omega
   have f:=f.ext aa λy g e=>F y e g;have d:=X;refine gv g5 Z ?_;have ae:=d.lt;have af:=f.lt;refine gn Z λU cs bg p N=>?_;have bh:=Nat.le_trans l.size bg;have a:=a.g0 N;have c:=c.g0 N;have d:=d.g0 N;have f:=f.g0 N;have l:=l.g4 N;have ay:∀y,r y->y≠U:=λy g e=>by have:=ae y g;omega
   have ai:∀y,s y->y≠U:=λy g e=>by have:=af y g;omega
   refine wl (gz (l':=g6 Bn) g5 p Z Z (by rw[gb,t]) (by rw[gb,t];rfl) OneC.h λbi p O cd=>?_);have a:=a.ext O λy g e=>by have e:y=U:=e;have:=R y g;omega
   have c:=c.ext O λy g e=>by have e:y=U:=e;have:=S y g;omega
   have d:=d.ext O λy g e=>by have e:y=U:=e;exact ay y g e
   have f:=f.ext O λy g e=>by have e:y=U:=e;exact ai y g e
   have l:=l.g8 O bh;have p:gu bi U 165 (g6 Bn):=p;refine k9 Z (jy Z (g7 call78 Z (dkRead bi f M zo (i:Int)) λct cu bj=>?_));obtain⟨rfl,Y,P⟩:=bj;rw[ac] at Y;rw[ac];have l:=l.trans P λy g e=>by have:=q y (.inr e);omega
   have p:=p.ext P λe=>ai _ e Z;have a:=a.ext P λy g e=>by have:=R y g;have:=q y (.inr e);omega
   have c:=c.ext P λy g e=>by have:=S y g;have:=q y (.inr e);omega
   have d:=d.ext P λy g e=>F y g e;have f:=Y;refine gv g5 Z ?_;have ae:=d.lt;have af:=f.lt;refine gn Z λV cv ap Q C=>?_;have aj:=gw p.lt ap;have bk:=Nat.le_trans l.size ap;have p:=p.g0 C;have a:=a.g0 C;have c:=c.g0 C;have d:=d.g0 C;have f:=f.g0 C;have l:=l.g4 C;have az:∀y,r y->y≠V:=λy g e=>by have:=ae y g;omega
   have a0:∀y,s y->y≠V:=λy g e=>by have:=af y g;omega
   refine wl (gz (l':=g6 Bn) g5 Q Z Z (by rw[gb,t]) (by rw[gb,t];rfl) OneC.h λbm Q E ce=>?_);have p:=p.g9 E aj;have a:=a.ext E λy g e=>by have e:y=V:=e;have:=R y g;omega
   have c:=c.ext E λy g e=>by have e:y=V:=e;have:=S y g;omega
   have d:=d.ext E λy g e=>by have e:y=V:=e;exact az y g e
   have f:=f.ext E λy g e=>by have e:y=V:=e;exact a0 y g e
   have l:=l.g8 E bk;have Q:gu bm V 165 (g6 Bn):=Q;refine k9 Z (jb (α:=Bool) [0,1,7,8,43,68,69] Z (λz=>[(94,.bool z)]) (λz u=>u=bm/\z=false) ?_ ?_);refine gr ?_;refine gv g5 Z (qy 86 Z (λW=>?_) (λW=>?_));cases W;refine gm g5 4 Z ?_;refine qy 90 Z (λW=>?_) (λW=>?_);cases W;refine j8 p Z (by rw[gb,t]) ?_;refine j8 Q Z (by rw[gb,t]) (wl (st_eqA (xs:=zw7 Bn) (ys:=zw7 Bn) g5 Z zk (zw8 _) (zw8 _) (by rw[Bx,t]) (by rw[Bx,t]) (gv g5 Z (ga ?_))));exact gk (_) Z ⟨Z,by simp⟩;rintro z cw ⟨hu,rfl⟩;have hu:=hu.symm;subst hu;refine qz Z (jw (yt Z ?_));rw[jt _ zo];refine ga ?_;exact j9 (i+1,{E1 with done:=E1.done+1}) Z ⟨⟨by dsimp only;omega,a,c,d,f,aw,ax,bd,by have e:=M.read (i:Int);rw[ac] at e;exact e⟩,l⟩ zf
  refine vw ?_;refine ke (ke (qu (jh (xt Z ?_))));have bw:=l.size;refine g7 call41 Z (dk_copy bc a hok zo) λcx a1 bn=>?_;obtain⟨c1,rfl,a3,d,ak⟩:=bn;have a:=a.g0 ak;have c:=c.g0 ak;have l:=l.g4 ak;generalize hFC1:Grow _ _ _=r at d;have x:∀y,r y->w.heap.size<=y/\y<a1.heap.size:=λy g=>by rw[<-hFC1] at g;exact g.elim (λe=>e.elim) λe=>⟨by omega,e.2⟩
  obtain⟨av,ad⟩:∃n,n=a1.heap.size:=⟨_,Z⟩
  rw[<-ad] at x;refine gv g5 Z ?_;have bz:=l.size;refine g7 call41 Z (dk_copy a1 c hok zo) λcy cz bp=>?_;obtain⟨c2,rfl,a4,f,ab⟩:=bp;have a:=a.g0 ab;have c:=c.g0 ab;have d:=d.g0 ab;have l:=l.g4 ab;generalize hFC2:Grow _ _ _=s at f;have G:∀y,s y->av<=y:=λy g=>by rw[<-hFC2] at g;exact g.elim (λe=>e.elim) λe=>by omega
  have q:∀y,r y\/s y->w.heap.size<=y:=λy g=>g.elim (λe=>(x y e).1) λe=>by have:=G y e;omega
  have F:∀y,r y->¬s y:=λy h1 h2=>by have:=(x y h1).2;have:=G y h2;omega
  refine gv g5 Z (ga (yt Z ?_));rw[jt _ zo];refine ga ?_;exact j9 (k+1,(none,0,0),(c1,c2),r,s) Z ⟨⟨⟨by dsimp only;omega,aF _⟩,a,c,d,f,q,F⟩,l⟩ zf
 refine vw ?_;refine ke (ke (qu (jh (jn Z (j6 (gp Z Z ?_))))));exact⟨Z,l⟩
theorem Sl.mapAt {α:Type} {w:World} {p:Option Addr} {f:α->Value} {l:List α} (h:Sl w p l.length 1 (l.map f)) (h0:0<l.length):∃b off,p=some ⟨b,off,none⟩/\Seg w b off (l.map f):=by
 obtain⟨_,d|⟨b,off,a,c⟩⟩:=h;omega;exact⟨b,off,a,c⟩
theorem equalB_calls (w:World) {p q:Option Addr} {c d:Nat} {l m:List (UInt8)} (h:Sl w p l.length 1 (l.map yf)) (h':Sl w q m.length 1 (m.map yf)) (hl:l.length<1000000000):
  ge prog 33 [.slice p l.length c,.slice q m.length d] w λv w'=>v= .bool (decide (l=m))/\Ext No w w':=by
 refine gt func33 ?_;have a:=Ext.refl No w;refine uz Z (jn Z (jc Z (λf=>?_) (λf=>?_)));refine gh (gr (vl Z (j2 (gp Z Z ?_))));exact⟨congrArg Value.bool (by symm;rw[ao];intro h;rw[h] at f;exact f Z),a⟩
 have x:l.length=m.length:=by omega
 refine vo (gh (jn Z (j0 (ja (α:=Nat) [0,1,12] Z (λz=>[(13,.int .i64 (z:Int))]) (λz u=>(z<=l.length/\∀k (t:k<l.length),k<z->l[k]=m[k]'zo)/\Ext No w u) (λz u=>l.length-z) (0) Z ⟨⟨aF _,λk _ h=>absurd h (bO _)⟩,a⟩ ?_))));rintro i N ⟨⟨H,n⟩,a⟩;refine uz Z (jc Z (λf=>?_) (λf=>?_));have H:i<l.length:=by omega
 have y:i<m.length:=by omega
 obtain⟨b,o,rfl,A⟩:=Sl.mapAt h zo;obtain⟨K,g,rfl,B⟩:=Sl.mapAt h' zo;have C:∀u,Ext No w u->u.cell? ⟨b,o+i,none⟩=some (yf l[i]):=λu D=>(A.g0 D) i _ (by rw[bZ,aS H];rfl);have E:∀u,Ext No w u->u.cell? ⟨K,g+i,none⟩=some (yf m[i]):=λu D=>(B.g0 D) i _ (by rw[bZ,aS y];rfl);refine yz (uz Z (jl Z 9 [qP 0,qP 1,qP 2,qP 3,qP 4,qP 5,qP 6,qP 7,qP 8] [] (No) zk λO F L=>?_));have r:=a;have a:=a.g4 F;refine gl g5 2 Z (qe g5 Z Z 1 Z i Z zo (o+i) (by rw[aY]) (gy g5 Z Z (λw' j=>(C w' (r.g4 j))) (gl g5 2 Z (qe g5 Z Z 1 Z i Z zo (g+i) (by rw[aY]) (gy g5 Z Z (λw' j=>(E w' (r.g4 j))) (gl g5 1 Z (jd (j1 (jh (jc Z (λf=>?_) (λf=>?_)))))))))));refine gh (gr (vl Z (gGk (gp Z Z ?_))));exact⟨congrArg Value.bool (by symm;rw[ao];intro e;subst e;exact f Z),a⟩
 have G:l[i]=m[i]:=UInt8.toNat_inj.1 (by have e:=aN.1 f;omega);refine jw (yt Z ?_);rw[jt _ zo];refine ga ?_;exact j9 (i+1) Z ⟨⟨by omega,λk t M=>(by rcases aZ k i with J|J;exact n k t J;(have e:k=i:=zo);subst e;exact G)⟩,a⟩ zf;have s:l=m:=D7 x λk t=>n k t zo;refine zu (jn Z (j6 (gp Z Z ?_)));exact⟨congrArg Value.bool (bN s).symm,a⟩
theorem equalS_calls (w:World) {p q:Option Addr} {c d:Nat} {l m:List (Str)} (h:Sl w p l.length 1 (l.map z9)) (h':Sl w q m.length 1 (m.map z9)) (hl:l.length<1000000000):
  ge prog 51 [.slice p l.length c,.slice q m.length d] w λv w'=>v= .bool (decide (l=m))/\Ext No w w':=by
 refine gt func51 ?_;have a:=Ext.refl No w;refine uz Z (jn Z (jc Z (λf=>?_) (λf=>?_)));refine gh (gr (vl Z (j2 (gp Z Z ?_))));exact⟨congrArg Value.bool (by symm;rw[ao];intro h;rw[h] at f;exact f Z),a⟩
 have x:l.length=m.length:=by omega
 refine vo (gh (jn Z (j0 (ja (α:=Nat) [0,1,12] Z (λz=>[(13,.int .i64 (z:Int))]) (λz u=>(z<=l.length/\∀k (t:k<l.length),k<z->l[k]=m[k]'zo)/\Ext No w u) (λz u=>l.length-z) (0) Z ⟨⟨aF _,λk _ h=>absurd h (bO _)⟩,a⟩ ?_))));rintro i N ⟨⟨H,n⟩,a⟩;refine uz Z (jc Z (λf=>?_) (λf=>?_));have H:i<l.length:=by omega
 have y:i<m.length:=by omega
 obtain⟨b,o,rfl,A⟩:=Sl.mapAt h zo;obtain⟨K,g,rfl,B⟩:=Sl.mapAt h' zo;have C:∀u,Ext No w u->u.cell? ⟨b,o+i,none⟩=some (z9 l[i]):=λu D=>(A.g0 D) i _ (by rw[bZ,aS H];rfl);have E:∀u,Ext No w u->u.cell? ⟨K,g+i,none⟩=some (z9 m[i]):=λu D=>(B.g0 D) i _ (by rw[bZ,aS y];rfl);refine yz (uz Z (jl Z 9 [qP 0,qP 1,qP 2,qP 3,qP 4,qP 5,qP 6,qP 7,qP 8] [] (No) zk λO F L=>?_));have r:=a;have a:=a.g4 F;refine gl g5 2 Z (qe g5 Z Z 1 Z i Z zo (o+i) (by rw[aY]) (gy g5 Z Z (λw' j=>(C w' (r.g4 j))) (gl g5 2 Z (qe g5 Z Z 1 Z i Z zo (g+i) (by rw[aY]) (gy g5 Z Z (λw' j=>(E w' (r.g4 j))) (gl g5 1 Z (jd (j1 (jh (jc Z (λf=>?_) (λf=>?_)))))))))));refine gh (gr (vl Z (gGk (gp Z Z ?_))));exact⟨congrArg Value.bool (by symm;rw[ao];intro e;subst e;exact f Z),a⟩
 have G:l[i]=m[i]:=xp (aN.1 f);refine jw (yt Z ?_);rw[jt _ zo];refine ga ?_;exact j9 (i+1) Z ⟨⟨by omega,λk t M=>(by rcases aZ k i with J|J;exact n k t J;(have e:k=i:=zo);subst e;exact G)⟩,a⟩ zf;have s:l=m:=D7 x λk t=>n k t zo;refine zu (jn Z (j6 (gp Z Z ?_)));exact⟨congrArg Value.bool (bN s).symm,a⟩
theorem brO_known {row fr : List jr} {o : jr} (h : xj o ∈ u1 row) : brO (some (row, fr)) o = some (row, fr) := aM h
theorem bring_known (o : jr) : y8 [o] [o] = some ([o], []) := brO_known (cI (aE.2 Z))
theorem bring_new {o : jr} (h : k8 o = []) : y8 [] [o] = some ([o], [o]) := by
  show brO (some ([], [])) o = _
  simp [brO, u1, h]
def swO : jr := { uv with kind := 1, text := [97] }
def swS : yu := ⟨[107], false, true, [], [7]⟩
def swB : Bu := ⟨[swO], [swS]⟩
def swC : Bytes := u7 swB
def swA : Wl := Wl.fresh (un (kg.fresh 42) 20).1 20
def swX : Wl := (swA.append swC).1
def swP : C3 := ⟨[swO], [([107], [7])]⟩
theorem sw1 : (un (kg.fresh 42) 20).2 = 0 := by decide +kernel
theorem sw2 : (swA.append swC).2 = 0 := by decide +kernel
theorem sw3 : (qj (swX.D.zx9 [])).2 = (0, 0, 20, [[], swC]) := by decide +kernel
theorem sw4 : Ad swB := by decide +kernel
theorem sw5 : vi swC = (swB, 0) := by decide +kernel
theorem sw6:jp yx3 swB=(swP,swB,0):=by
 have a:k8 swO=[]:=by decide+kernel
 have b:y8 yx3.row swB.objs=some ([swO],[swO]):=bring_new a;have c:z8 yx3.vals swB.sets=some [([107],[7])]:=by decide+kernel
 rw[xj0 b c];exact aJ zd
theorem sw7:(jp swP swB).2.2=200:=by
 have a:y8 swP.row swB.objs=some ([swO],[]):=bring_known swO;have b:z8 swP.vals swB.sets=none:=by decide+kernel
 exact after_no2 a b
theorem sw8 : swC.length <= 40000 /\ (kl swC.length : Int) <= (swA.size : Int) - swA.used := by decide +kernel
theorem sw9:zx ⟨swA,yx3⟩ swB=(⟨swX,swP⟩,0):=by
 have a:u7 swB=swC:=rfl;unfold zx;rw[aJ zd,aJ (λe=>e sw4),sw6];rw[aJ zd,a];unfold zj7;rw[aM sw8,sw2];rfl
theorem sw10:zx ⟨swX,swP⟩ swB=(⟨swX,swP⟩,200):=by
 have a:swX.broken=false:=by decide+kernel
 unfold zx;rw[aJ (by rw[a];decide),aJ (λe=>e sw4),sw7];exact aM (.inl zd)
theorem open_eq {D:kg} {s:C3} (h1:(qj D).2.1=0) (h4:Cb (Wl.opened (qj D)).pieces=some s):xu D=((qj D).1,0,some ⟨Wl.opened (qj D),s⟩):=by
 unfold xu;rw[aJ (λe=>e h1),h4]
theorem opn_err {x : kg × Int × Nat × Nat × List Bytes} {e : Int} {t n : Nat} {ps : List Bytes} (h : x.2 = (e, t, n, ps)) : x.2.1 = e := by rw [h]
theorem opn_pieces {x:kg×Int×Nat×Nat×List Bytes} {e:Int} {t n:Nat} {ps:List Bytes} (h:x.2=(e,t,n,ps)):(Wl.opened x).pieces=ps:=by show x.2.2.2.2=_;rw[h]
theorem said_two {c : Bytes} {s : C3} (h : ud yx3 c = some s) : Cb [[], c] = some s := h
theorem said_eq {s t:C3} {c:Bytes} {b:Bu} (h1:vi c=(b,0)) (h2:jp s b=(t,b,0)):ud s c=some t:=by
 unfold ud;rw[h1];dsimp only;rw[h2];exact aM ⟨Z,Z,Z⟩
def swD : kg := swX.D.zx9 []
def swW : Wl := Wl.opened (qj swD)
theorem sw11:xu swD=((qj swD).1,0,some ⟨swW,swP⟩):=by
 have a:(qj swD).2.1=0:=opn_err sw3;have b:(Wl.opened (qj swD)).pieces=[[],swC]:=opn_pieces sw3;have c:ud yx3 swC=some swP:=said_eq sw5 sw6;have d:Cb (Wl.opened (qj swD)).pieces=some swP:=by rw[b];exact said_two c
 exact open_eq a d
abbrev swBX (b23 b24 b26 : Nat) : qv := ⟨some ⟨b23, 0, none⟩, 1, [(swO, noP)], some ⟨b26, 0, none⟩, 1, [(swS, ⟨none, 0, some ⟨b24, 0, none⟩, 1⟩)]⟩
theorem Bs : vn swO := ⟨by decide, by decide, λ_ h => (by cases h), λ_ h => (by cases h), λ_ h => (by cases h), by decide, by decide⟩
theorem swO_short : A6 swO := ⟨by decide, by decide, by decide, λ_ h => (by cases h), λ_ h => (by cases h)⟩
theorem swO_l (w : World) : Bv w swO noP := ⟨Sl.nil _ _ _, Sl.nil _ _ _, Sl.nil _ _ _⟩
theorem sw_bat {u:World} {b23 b24 b26:Nat} (h23:gu u b23 37 (B2 (swO,noP))) (h24:gu u b24 5 (g6 [7])) (h26:gu u b26 91 (vv (swS,⟨none,0,some ⟨b24,0,none⟩,1⟩))):C1 u (swBX b23 b24 b26):=by
 refine⟨⟨by rw[bB];exact gi Bs,.inr ⟨b23,0,Z,by rw[bB];exact h23.kc⟩⟩,⟨Z,.inr ⟨b26,0,Z,h26.kc⟩⟩,λx a=>?_,λx a=>?_,(by show 1<1000000;decide),(by show 1<1000000;decide)⟩;rw[aE.1 a];exact⟨Bs,swO_short,swO_l u⟩
 rw[aE.1 a];exact⟨Sl.nil _ _ _,⟨Z,.inr ⟨b24,0,Z,h24.kc⟩⟩,(by show 1<1000000000;decide),(by show 0<1000000000;decide),(by show 1<1000000000;decide)⟩
theorem mem_ids (o : jr) : xj o ∈ u1 [o] := cI (aE.2 Z)
theorem swP_ok : C3.Ok swP := by
  have h := (after_ok yw0 sw4).1
  rw [sw6] at h; exact h
theorem swO_b : BytesIn swO := ⟨.inl Z, λ_ => by decide, λe => absurd e zd, λe => absurd e zd, λe => absurd e zd, λe => absurd e zd⟩
theorem lwakes_calls (w:World) (hr:Rt w):
  ge prog 9 [] w λv w'=>v= .bool true/\Ext No w w':=by
 refine gt func9 ?_;have j:=Ext.refl No w;have dv:=hr.lt;have g:=hr;refine jn Z (ki (g7 call22 Z (new_calls w (n:=42) zd) ?_));rintro v1 w1⟨d,F1,rfl,hA,aw,bq⟩;have g:=Rt.ext g bq id;have j:=j.g4 bq;have ah:(kg.fresh 42).Ok 0:=kg.Ok.fresh zd;have a6:swA.D.Ok (0+6000):=(formatW_ok ah 20).1;have br:Wl.Ok swA:=(format_fine (a:=20) sw1 ah).1;obtain⟨ai,cw⟩:=append_fine (W:=swA) a6 br swC;have bs:swD.Ok _:=ai.zx9 [];refine k9 Z (gh (jn Z (qz Z (vo (jy Z ?_)))));have dw:=j.size;refine g7 call13 Z (sformat_calls w1 hA ah zd 20 zd g (λe=>by have:=aw 0 e;omega)) ?_;rintro v2 w2⟨so,F2,rfl,dx,bt,bu,dy,cy⟩;have j:=j.trans bt λy A e=>by have:=aw y e;omega
 have g:=Rt.ext g bt λe=>by have:=aw 0 e;omega
 obtain⟨sp,x,H,K,h,rfl,k,cz⟩:=cy sw1;have k:StA w2 sp x d F2 H K ⟨swA,yx3⟩ h:=k;have ax:=k.lt;obtain⟨nF,F⟩:∃n,n=w2.heap.size:=⟨_,Z⟩
 rw[<-F] at ax
 have O:∀y,StB F2 H K sp y->w.heap.size<=y:=λy A=>by
  rcases A with A|A;exact(bu y A).elim (aw y) λe=>by omega
  have:=cz y A;omega
 rw[sw1];have o:=aA w2.heap.size;refine k9 Z (ki (jv Z ⟨⟨Z,by decide⟩,⟨Z,by decide⟩,trivial⟩ (l':=js swO noP) zk (gn Z λb4 w3 bv f ay=>?_)));have c0:=Nat.le_trans j.size bv;have r:=Nat.le_trans o bv;have g:=Rt.ext g ay id;have k:=k.g0 ay;have o:=Nat.le_trans o ay.size;have j:=j.g4 ay;refine wl (gz (l':=js swO noP) g5 f Z Z (gi Bs) (by rw[gi Bs];rfl) OneC.h λw4 f az dz=>?_);have g:=Rt.ext g az (λe=>by have e:0=b4:=e;omega);have k:=k.ext az (A2 ax (F▸r));have o:=Nat.le_trans o az.size;have j:=j.g8 az c0;refine qi (ki (j8 f Z (gi Bs) (wl (kz g5 Z 73 Z objZc (gi ky) zd zd ⟨⟨by rw[j4];exact gi Bs,by decide⟩,trivial⟩ (l':=B2 (swO,noP)) (yj4 Bs) λP w5 bw p aj d0=>?_))));have ab:=Nat.le_trans o bw;have f:=f.g0 aj;have g:=Rt.ext g aj id;have k:=k.g0 aj;have o:=Nat.le_trans o aj.size;have j:=j.g4 aj;refine wl (kz g5 Z 1 Z Z Z zd zd zt (l':=g6 [7]) Z λQ w6 bx q ac d1=>?_);have ad:=Nat.le_trans o bx;have f:=f.g0 ac;have p:=p.g0 ac;have g:=Rt.ext g ac id;have k:=k.g0 ac;have o:=Nat.le_trans o ac.size;have j:=j.g4 ac;refine jv Z ⟨⟨Z,by decide⟩,⟨Z,by decide⟩,⟨Z,by decide⟩,trivial⟩ (l':=vv (swS,⟨none,0,some ⟨Q,0,none⟩,1⟩)) Z (wl (kz g5 Z 5 Z setZc Z zd zd ⟨⟨Z,by decide⟩,trivial⟩ (l':=vv (swS,⟨none,0,some ⟨Q,0,none⟩,1⟩)) (set_put _) λR w7 bz t S d2=>?_));have ae:=Nat.le_trans o bz;have f:=f.g0 S;have p:=p.g0 S;have q:=q.g0 S;have g:=Rt.ext g S id;have k:=k.g0 S;have o:=Nat.le_trans o S.size;have j:=j.g4 S;refine jv Z ⟨⟨Z,by decide⟩,⟨Z,by decide⟩,trivial⟩ (l':=[.slice (some ⟨P,0,none⟩) 1 1,.slice (some ⟨R,0,none⟩) 1 1]) Z (gn Z λb5 w8 L af T=>?_);have bd:=gw f.lt L;have a0:=gw p.lt L;have a1:=gw q.lt L;have a2:=gw t.lt L;have c1:=Nat.le_trans j.size L;have M:=Nat.le_trans o L;have f:=f.g0 T;have p:=p.g0 T;have q:=q.g0 T;have t:=t.g0 T;have g:=Rt.ext g T id;have k:=k.g0 T;have j:=j.g4 T;refine wl (gz (l':=[.slice (some ⟨P,0,none⟩) 1 1,.slice (some ⟨R,0,none⟩) 1 1]) g5 af Z Z Z Z OneC.h λw9 af U d3=>?_);have f:=f.g9 U bd;have p:=p.g9 U a0;have q:=q.g9 U a1;have t:=t.g9 U a2;have g:=Rt.ext g U (λe=>by have e:0=b5:=e;omega);have k:=k.ext U (A2 ax (F▸M));have j:=j.g8 U c1;refine qi (gh (jb (α:=Bool×(Nat->Prop)) [1,4] Z (λz=>[(46,.bool z.1)]) (λz u=>(z.1=false/\At u d z.2 swD/\(∀y,z.2 y->w.heap.size<=y/\y≠b4)/\Rt u)/\gu u b4 37 (js swO noP)/\Ext No w u) ?_ ?_));refine gr (gv g5 Z (qy 30 Z (λG=>?_) (λG=>?_)));cases G;refine gm g5 1 Z (j8 af Z Z ?_);have c2:h.hs.length+5000<1000000:=by have e:=congrArg (λs=>s.row.length) k.eq;dsimp only[ua.s] at e;rw[aB] at e;rw[e];decide
 have bf:∀y,StS F2 H sp y->StB F2 H K sp y:=λy e=>e.imp id λe=>e.imp id .inr;have C:∀b,nF<=b->¬StS F2 H sp b:=λb hb e=>Nat.lt_irrefl _ (aG (ax b (bf b e)) hb);obtain⟨n5,L⟩:∃n,n=w9.heap.size:=⟨_,Z⟩
 have l4:=f.lt;refine g7 call15 Z (xw2 w9 (B:=(swBX P Q R)) k a6 zd br g (λe=>by have:=O 0 (.inl e);omega) (sw_bat p q t) yw0 c2) ?_;rintro d4 c3⟨rfl,b1,E⟩;have f:=f.ext E (C b4 (F▸r));have p:=p.ext E (C P (F▸ab));have q:=q.ext E (C Q (F▸ad));have t:=t.ext E (C R (F▸ae));have af:=af.ext E (C b5 (F▸M));have j:=j.trans E λy A e=>by have:=O y (bf y e);omega
 have g:=Rt.ext g E λe=>by have:=O 0 (bf 0 e);omega
 rw[<-L] at l4;rw[show(zx ⟨swA,yx3⟩ (qv.d (swBX P Q R)))=_ from sw9] at b1|-;obtain⟨F3,H3,K3,h3,k3,bg,bh,b2⟩:=b1;rw[<-L] at bg bh b2;have a8:∀y,StS F3 H3 sp y->StB F3 H3 K3 sp y:=λy e=>e.imp id λe=>e.imp id .inr
 have ak:∀b,nF<=b->b<n5->¬StS F3 H3 sp b:=λb hb hl e=>by
  rcases e with e|e|e;exact(bg b e).elim (λe=>C b hb (.inl e)) λe=>by omega
  exact(bh b e).elim (λe=>C b hb (.inr (.inl e))) λe=>by omega
  exact C b hb (.inr (.inr e))
 have V:∀y,StB F3 H3 K3 sp y->w.heap.size<=y:=λy A=>by
  rcases A with A|A|A|A;exact(bg y A).elim (λe=>O y (.inl e)) λe=>by omega
  exact(bh y A).elim (λe=>O y (.inr (.inl e))) λe=>by omega
  exact(b2 y A).elim (λe=>O y (.inr (.inr (.inl e)))) λe=>by omega
  exact O y (.inr (.inr (.inr A)))
 refine gm g5 3 Z (qy 36 Z (λG=>?_) (λG=>?_));cases G;refine gm g5 1 Z (j8 af Z Z ?_);have c4:h3.hs.length+5000<1000000:=by have e:=congrArg (λs=>s.row.length) k3.eq;dsimp only[ua.s] at e;rw[aB] at e;rw[e];decide
 have m4:=f.lt;refine g7 call15 Z (xw2 c3 (B:=(swBX P Q R)) k3 ai zd cw g (λe=>by have:=V 0 (.inl e);omega) (sw_bat p q t) swP_ok c4) ?_;rintro d5 c5⟨rfl,a9,am⟩;have f:=f.ext am (ak b4 (F▸r) l4);have j:=j.trans am λy A e=>by have:=V y (a8 y e);omega
 have g:=Rt.ext g am λe=>by have:=V 0 (a8 0 e);omega
 rw[show(zx ⟨swX,swP⟩ (qv.d (swBX P Q R)))=_ from sw10] at a9|-;obtain⟨F4,H4,K4,h4,k4,b6,d6,d7⟩:=a9;have an:∀y,F4 y->w.heap.size<=y:=λy A=>(b6 y A).elim (λe=>V y (.inl e)) λe=>by omega
 have b9:∀y,F4 y->y≠b4:=λy A e=>by rw[e] at A;exact(b6 b4 A).elim (λe=>ak b4 (F▸r) l4 (.inl e)) λe=>by omega
 have c6:=k4.disk;refine gm g5 3 Z (qy 42 Z (λG=>?_) (λG=>?_));cases G;refine gm g5 1 Z (g7 call46 Z (dk_crash c5 (n:=0) (c:=0) (kp:=none) (keep:=[]) c6 ai zd Z (Sl.nil _ _ _) (λ_ _ e=>by cases e)) ?_);rintro d8 d9⟨rfl,a3,ap⟩;have f:=f.ext ap (λe=>b9 _ e Z);have j:=j.trans ap λy A e=>by have:=an y e;omega
 have g:=Rt.ext g ap λe=>by have:=an 0 e;omega
 refine gm g5 2 Z (ga ?_);exact gk (false,F4) Z ⟨⟨Z,a3,λy A=>⟨an y A,b9 y A⟩,g⟩,f,j⟩;rintro⟨z,F5⟩ c7 ⟨⟨rfl,a3,a4,g⟩,f,j⟩;try dsimp only
 dsimp only at a3 a4;refine qz Z (vo (jy Z (g7 call14 Z (sopen_calls c7 a3 bs zd g (λe=>by have:=(a4 0 e).1;omega)) ?_)));rintro ea bi⟨so,F6,rfl,eb,ba,ec,dn,da⟩;have f:=f.ext ba (λe=>(a4 _ e).2 Z);have j:=j.trans ba λy A e=>by have:=(a4 y e).1;omega
 obtain⟨ed,x6,H6,K6,h6,rfl,J,ee⟩:=da ⟨swW,swP⟩ (by rw[sw11]);have cc:=J.lt;obtain⟨nG,cd⟩:∃n,n=bi.heap.size:=⟨_,Z⟩
 rw[<-cd] at cc;rw[show(xu swD).2.1=0 from by rw[sw11]];have aq:=aA bi.heap.size;refine k9 Z (gh (jn Z (qz Z (vo (jy Z (j8 f Z (gi Bs) (g7 call50 Z (id6_calls bi Bs (swO_l _) swO_b) ?_)))))));rintro ef db⟨rfl,X⟩;have f:=f.g0 X;have J:=J.g0 X;have aq:=Nat.le_trans aq X.size;have j:=j.g4 X;obtain⟨cf,ar⟩:∃i,i=xj swO:=⟨_,Z⟩
 rw[<-ar];have cg:uc cf:=by rw[ar];exact qm _
 have ch:cf∈u1 swP.row:=by rw[ar];exact mem_ids swO
 have dc:=j.size;refine g7 call10 Z (sget_calls db J cg) ?_;rintro eg eh⟨o7,a7,rfl,dd,ei,Y⟩;have f:=f.g0 Y;have J:=J.g0 Y;have aq:=Nat.le_trans aq Y.size;have j:=j.g4 Y;obtain⟨bj,_,dp,hN⟩:=dd ch;have bj:o7=swO:=aE.1 bj;subst bj;have hN:=hN.older (W0:=w) dc;rw[aM ch];refine gv g5 Z (gn Z λb7 ej bk ag I=>?_);have bm:=gw f.lt bk;have de:=Nat.le_trans j.size bk;have a5:=Nat.le_trans aq bk;have f:=f.g0 I;have J:=J.g0 I;have hN:=hN.g0 I;have j:=j.g4 I;have cj:=ag;refine wl (gz (l':=js swO a7) g5 ag Z Z (gi Bs) (by rw[gi Bs];rfl) OneC.h λdf ag aa dq=>?_);have f:=f.g9 aa bm;have J:=J.ext aa (A2 cc (cd▸a5));have hN:=hN.g9 aa cj zd zd zd;have j:=j.g8 aa de;refine k9 Z (jy Z (g7 call11 Z (yv5 df J swP_ok.rise (n:=[107])) ?_));rintro ek dg⟨q8,c8,b8,rfl,bn,b0,N⟩;have f:=f.g0 N;have ag:=ag.g0 N;have J:=J.g0 N;have hN:=hN.g0 N;have j:=j.g4 N;have bn:b8=[7]:=bn;subst bn;rw[show(A5 swP.vals [107]).isSome=true from Z];refine k9 Z (jb (α:=Bool) [] Z (λz=>[(0,.bool z)]) (λz u=>(z=true)/\Ext No w u) ?_ ?_);refine gr (gv g5 Z (qy 68 Z (λG=>?_) (λG=>?_)));refine j8 ag Z (gi Bs) (j8 f Z (gi Bs) (g7 call17 Z (xq8 dg Bs Bs hN.l (swO_l _) swO_short) ?_));rintro em en⟨rfl,au⟩;have J:=J.g0 au;have b0:=b0.g0 au;have j:=j.g4 au;rw[show decide (swO=swO)=true from bN Z];refine gv g5 Z (qy 73 Z (λG=>?_) (λG=>?_));refine gm g5 3 Z (qy 76 Z (λG=>?_) (λG=>?_));refine gm g5 1 Z (wl (kz g5 Z 1 Z Z Z zd zd zt (l':=g6 [7]) Z λdh di dr cn av ds=>?_));have J:=J.g0 av;have b0:=b0.g0 av;have j:=j.g4 av;refine g7 call33 Z (equalB_calls di (l:=[7]) (m:=[7]) b0.sl ⟨Z,.inr ⟨dh,0,Z,cn.kc⟩⟩ zd) ?_;rintro ep dj⟨rfl,bb⟩;have J:=J.g0 bb;have j:=j.g4 bb;rw[show decide (([7]:List UInt8)=[7])=true from bN Z];refine gv g5 Z (qy 81 Z (λG=>?_) (λG=>?_));refine gm g5 1 Z (g7 call18 Z (snames_calls dj J) ?_);rintro er es⟨q9,c9,rfl,bp,cr⟩;have j:=j.g4 cr;refine wl (kz g5 Z 1 Z Z Z zd zd zt (l':=[z9 [107]]) Z λdk dm dt cs bc du=>?_);have bp:=bp.g0 bc;have j:=j.g4 bc;refine g7 call51 Z (equalS_calls dm (l:=[[107]]) (m:=[[107]]) bp.sl ⟨Z,.inr ⟨dk,0,Z,cs.kc⟩⟩ zd) ?_;rintro et eu⟨rfl,cu⟩;have j:=j.g4 cu;rw[show decide (([[107]]:List Str)=[[107]])=true from bN Z];refine gv g5 Z (ga ?_);exact gk (true) Z ⟨Z,j⟩;cases G;cases G;cases G;cases G;rintro z ev ⟨rfl,j⟩;refine j6 (gp Z Z ?_);exact⟨Z,j⟩
open Go.Vc Go.WideShapes Go.ChangeShapes Go.ChangeAt Go.RowKit
theorem own : ownKnob prog.godebug = none := by kernel_rfl
theorem gRoots : prog.globalNamed "confluence/sha.roots" = some 0 := by kernel_rfl
abbrev laidR : List (String × DataW Unit) := [("confluence/sha.roots", Rows.laid_confluence_sha_roots)]
theorem roots_of {W:World} (h:laidMetH prog laidR W):Seg W 0 0 (ju qr):=by
 rw[MakeChecks.laidMetH_plain _ _ _ zk] at h;have h : laidMet prog [("confluence/sha.roots", Lib.tabData .u32 (qr.map λx => (x.toNat : Int)))] W := h;have c:=Lib.tabIs_of_head gRoots (t:=313) (e:=35) (n:=64) zk zk zk zk zk h;intro i v b;have a:i<qr.length:=by have:=(cU.1 b).1;simpa [ju] using this
 have d:=c.cell gRoots i (by rw[aB];exact a);rw[aX,d,<-b,B8 qr a];rw[bQ,bZ,aS a];rfl
theorem door_met (os:Os) (args:Array Value):laidMetH prog laidR ((World.doorLaid prog 400 os).forCall (λ_ _=>0) ⟨#[],args,[]⟩).memory:=
 laidMetH_of_parts3 (fuel:=70) (laidMet_of_run' 70 zk zk) zk zk
open Go.Vc Go.WideShapes Go.ChangeShapes
section
variable {H : Type} {enc : TypeId × Value -> H} {W : World} {sp : Nat -> Bool} {held : Bool}
theorem list_of {α β:Type} {R:α->β->Prop}:∀(L:List β),(∀r∈L,∃a,R a r)->∃l:List α,l.length=L.length/\∀(i:Nat) (a:α) (r:β),l[i]? =some a->L[i]? =some r->R a r
 | [],_=>⟨[],Z,λi a r h=>by simp at h⟩
 |r::L,h=>by
  obtain⟨a,ha⟩:=h r zp
  obtain⟨l,e,f⟩:=list_of L λx c=>h x (by simp[c])
  refine⟨a::l,by simp[e],λi b x d c=>?_⟩
  cases i with
  |zero=>simp at d c;subst d;subst c;exact ha
  |succ i=>exact f i b x (by simpa using d) (by simpa using c)
theorem open_list {α:Type} {cells:α->List Value} {ok:α->Prop} {fuel t e m:Nat} {cs:List Value} {x:DataW H×List MemPlace} (ht:prog.underlying t=some (.slice e)) (hm:prog.cellsOf e=m) (hm0:0<m)
  (hrow:∀{k:Nat} {r:List Value} {y:DataW H×List MemPlace},DataW.trod enc prog W 0 sp held k e r=some y->∃a,r=cells a/\ok a)
  (h:DataW.trod enc prog W 0 sp held fuel t cs=some x):
  ∃(p:Option Addr) (l:List α) (c:Nat),cs=[.slice p l.length c]/\l.length<=c/\c<=maxLen/\Sl W p l.length m (l.flatMap cells)/\(∀a∈l,ok a)/\(l≠[]->∀b off,p=some ⟨b,off,none⟩->b<W.heap.size):=by
 obtain⟨p,n,c,L,rfl,u,v,D,E,w,f,z⟩:=open_rows ht hm hm0 h;obtain⟨l,F,q⟩:=list_of (R:=λa r=>r=cells a/\ok a) L λr g=>by obtain⟨k,y,A⟩:=z r g;exact hrow A
 have e:L=l.map cells:=by
  apply List.ext_getElem?;intro i;rw[bZ];by_cases s:i<l.length;have d:i<L.length:=by omega
  have:=(q i l[i] L[i] zp zp).1;simp[s,d,this];rw[bV zo,bV zo];rfl
 have j:l.length=n:=by omega
 subst j;refine⟨p,l,c,Z,u,v,by rw[List.flatMap_def,<-e];exact w,λa B=>?_,λo=>f λC=>o (aT C)⟩;obtain⟨i,s,rfl⟩:=bF.1 B;have d:i<L.length:=by omega
 exact(q i l[i] L[i] zp zp).2
theorem open_byte {fuel:Nat} {cs:List Value} {x:DataW H×List MemPlace} (h:DataW.trod enc prog W 0 sp held fuel 5 cs=some x):∃b:UInt8,cs=[yf b]:=by
 obtain⟨n,rfl,_,a⟩:=DataW.trod_int Tryz.underlying5 h;have a:0<=n/\n<=255:=by simpa [Lit.wf,IntKind.min,IntKind.max,IntKind.signed,IntKind.bits] using a
 refine⟨UInt8.ofNat n.toNat,?_⟩;show _=[Value.int .u8 ((UInt8.ofNat n.toNat).toNat:Int)];have e:(UInt8.ofNat n.toNat).toNat=n.toNat:=UInt8.toNat_ofNat_of_lt' (by show n.toNat<256;omega);rw[e,Int.toNat_of_nonneg a.1]
theorem open_bytes {fuel:Nat} {cs:List Value} {x:DataW H×List MemPlace} (h:DataW.trod enc prog W 0 sp held fuel 41 cs=some x):∃(p:Option Addr) (l:Bytes) (c:Nat),cs=[.slice p l.length c]/\l.length<=c/\ux W p l:=by
 obtain⟨p,l,c,e,d,_,a,_,_⟩:=open_list (cells:=λb=>[yf b]) (ok:=λ_=>True) Tryz.underlying41 (by kernel_rfl:prog.cellsOf 5=1) zd (λh=>by obtain⟨b,f⟩:=open_byte h;exact⟨b,f,trivial⟩) h;have g:l.flatMap (λb=>[yf b])=g6 l:=by rw[g6,List.map_eq_flatMap]
 rw[g] at a;exact⟨p,l,c,e,d,a⟩
end
theorem side10_calls (w:World) {q:Bool} {p:Option Addr} {c:Nat} {l:Bytes}:
  ge prog 95 [.bool q,.slice p l.length c] w λv w'=>v= .bool (decide (yq5 q l))/\w'=w:=by
 refine gt func95 ?_;have b:=Ext.refl No w;refine jn Z (jb (α:=Bool) [] Z (λz=>[(4,.bool z)]) (λz u=>(z=decide (yq5 q l)/\u=w)/\Ext No w u) ?_ ?_);refine gr (gv g5 Z (j7 8 Z (λa=>?_) (λa=>?_)));have d:l.length=0:=by omega
 refine gm g5 8 Z (ga ?_);exact gk (true) Z ⟨⟨by symm;rw[aO];exact⟨by omega,.inr d⟩,Z⟩,b⟩;have d:¬l.length=0:=by omega
 refine gm g5 2 Z (qy 10 Z (λa=>?_) (λa=>?_));refine gm g5 6 Z (ga ?_);exact gk (_) Z ⟨⟨by rw[aH];exact⟨λh=>⟨by omega,.inl a⟩,λh=>(by have:=h.1;omega)⟩,Z⟩,b⟩;refine gm g5 6 Z (ga ?_);exact gk (_) Z ⟨⟨by symm;rw[ao];exact λh=>h.2.elim (λe=>(by rw[a] at e;cases e)) d,Z⟩,b⟩;rintro z f ⟨⟨rfl,rfl⟩,b⟩;refine j6 (gp Z Z ?_);exact⟨Z,Z⟩
theorem may10_calls (w:World) {b:qv} (h:C1 w b):
  ge prog 32 [b.v] w λv w'=>v= .bool (decide (Ad b.d))/\Ext No w w':=by
 have ap:=h.lo;have aq:=h.ls;refine gt func32 ?_;have g:=Ext.refl No w;refine ki (gn Z λE w1 ar a aa=>?_);have g:=g.g4 aa;have a:gu w1 E 25 (b.c):=a;refine k9 Z (gh (jn Z (j0 (ja (α:=Nat) [1] Z (λz=>[(3,.int .i64 (z:Int))]) (λz u=>(z<=b.os.length/\∀x∈b.os.take z,xf x.1)/\gu u E 25 (b.c)/\Ext No w u) (λz u=>b.os.length-z) (0) Z ⟨⟨aF _,λ_ h=>(by cases h)⟩,a,g⟩ ?_))));rintro i w2 ⟨⟨hi,y⟩,a,g⟩;refine gh (jy Z (gj Z (a.cell Z) (k9 Z (jc Z (λn=>?_) (λn=>?_)))));have t:i<b.os.length:=by omega
 obtain⟨q,H,Y,F⟩:=h.os.km (objX_len λx D=>(h.o x D).i) zo;have O:=h.o _ (aC t);refine yz (jy Z ?_);have p:gu w2 E 25 [.slice (some ⟨q,H,none⟩) b.os.length b.oc,.slice b.sp b.ss.length b.sc]:=by have e:=a;rw[qv.c,Y] at e;exact e
 refine gj Z (p.cell Z) (gv g5 Z (jo Z 73 Z i Z t (H+i*73) Z (je Z ((F i t).g0 g) (gi O.i) (g7 call94 Z (right6_calls w2 O.i (O.l.g0 g) O.s) ?_))));rintro v3 w3⟨rfl,P⟩;have a:=a.g0 P;have g:=g.g4 P;refine k9 Z (u5 Z (λn=>?_) (λn=>?_));have I:¬xf b.os[i].1:=by simpa using n
 refine jn Z (j6 (gGk (gp Z Z ?_)));exact⟨by rw[bG (may_os t I)],g⟩
 have I:xf b.os[i].1:=by simpa using n
 refine jw (yt Z ?_);rw[jt _ zo];refine ga ?_;exact j9 (i+1) Z ⟨⟨t,λx D=>by rw[List.take_succ_eq_append_getElem t] at D;rcases aV.1 D with D|D;exact y x D;rw[aE.1 D];exact I⟩,a,g⟩ zf;have Q:i=b.os.length:=by omega
 subst Q;rw[bC] at y;refine zu (gh (jn Z (j0 (ja (α:=Nat) [1] Z (λz=>[(4,.int .i64 (z:Int))]) (λz u=>(z<=b.ss.length/\yq7 ((b.ss.map Prod.fst).take z))/\gu u E 25 (b.c)/\Ext No w u) (λz u=>b.ss.length-z) (0) Z ⟨⟨aF _,⟨λ_ h=>(by cases h),List.Pairwise.nil⟩⟩,a,g⟩ ?_))));rintro j w4 ⟨⟨hj,J⟩,a,g⟩;refine gh (jy Z (gj Z (a.cell Z) (k9 Z (jc Z (λn=>?_) (λn=>?_)))));have G:j<b.ss.length:=by omega
 have K:j<(b.ss.map Prod.fst).length:=by rw[aB];exact G
 obtain⟨q,H,Y,F⟩:=h.ss.km (λx _=>yx9 x) zo;have ac:(b.ss.map Prod.fst)[j]=b.ss[j].1:=bD ..;have m:=setsOk_step K;rw[ac] at m;refine yz (jy Z ?_);have p:gu w4 E 25 [.slice b.op b.os.length b.oc,.slice (some ⟨q,H,none⟩) b.ss.length b.sc]:=by have e:=a;rw[qv.c,Y] at e;exact e
 refine gj Z (p.cell Z) (gv g5 Z (jo Z 5 Z j Z G (H+j*5) Z (je Z ((F j G).g0 g) Z (gn Z λb5 w5 R f S=>?_))));have L:=gw a.lt R;have ad:=Nat.le_trans g.size R;have a:=a.g0 S;have g:=g.g4 S;refine wl (gz (l':=vv b.ss[j]) g5 f Z Z Z Z OneC.h λw6 f T hs6=>?_);have a:=a.g9 T L;have g:=g.g8 T ad;refine qi (gh (jb (α:=Bool) [1,4,5] Z (λz=>[(57,.bool z)]) (λz u=>(z=decide (¬Cj b.ss[j].1))/\gu u E 25 (b.c)/\gu u b5 91 (vv b.ss[j])/\Ext No w u) ?_ ?_));refine gr (gv g5 Z (j3 f Z Z (gv g5 Z (j7 36 Z (λA=>?_) (λA=>?_)))));have r:¬Cj b.ss[j].1:=λk=>k.1 (xp A);refine gm g5 21 Z (ga ?_);exact gk (true) Z ⟨by symm;rw[aO];exact r,a,f,g⟩;have h1:b.ss[j].1.name≠[]:=λe=>A (by rw[e];rfl);refine gm g5 1 Z (j3 f Z Z (gm g5 4 Z (j7 42 Z (λA=>?_) (λA=>?_))));have r:¬Cj b.ss[j].1:=λk=>by have:=k.2.1;have e:(vg b.ss[j].1.name).size=b.ss[j].1.name.length:=rfl;omega
 refine gm g5 15 Z (ga ?_);exact gk (true) Z ⟨by symm;rw[aO];exact r,a,f,g⟩;have h2:b.ss[j].1.name.length<=32:=by have e:(vg b.ss[j].1.name).size=b.ss[j].1.name.length:=rfl;omega
 refine gm g5 1 Z (j3 f Z Z (gm g5 1 Z (j3 f Z Z (g7 call95 Z (side10_calls w6 (q:=b.ss[j].1.was) (l:=b.ss[j].1.old)) ?_))));rintro v7 w7⟨rfl,rfl⟩;refine gm g5 3 Z (qy 50 Z (λA=>?_) (λA=>?_));have r:¬Cj b.ss[j].1:=λk=>by have:=k.2.2.1;simp[this] at A
 refine gm g5 7 Z (ga ?_);exact gk (true) Z ⟨by symm;rw[aO];exact r,a,f,g⟩;have h3:yq5 b.ss[j].1.was b.ss[j].1.old:=by simpa using A
 refine gm g5 1 Z (j3 f Z Z (gm g5 1 Z (j3 f Z Z (g7 call95 Z (side10_calls w7 (q:=b.ss[j].1.is) (l:=b.ss[j].1.new)) ?_))));rintro v8 w8⟨rfl,rfl⟩;refine gm g5 2 Z (ga ?_);exact gk (_) Z ⟨by rw[<-decide_not,aH];exact⟨λk l=>k l.2.2.2,λk l=>k ⟨h1,h2,h3,l⟩⟩,a,f,g⟩;rintro z w9 ⟨rfl,a,f,g⟩;refine jc Z (λn=>?_) (λn=>?_);have M:¬Ad b.d:=λk=>setsOk_no K (λl=>n (m.1 l).2.1) k.2.2.2;refine jn Z (j6 (j2 (gGk (gp Z Z ?_))));exact⟨by rw[bG M],g⟩
 have U:Cj b.ss[j].1:=aN.1 n;refine vo (jn Z (j0 (ja (α:=Nat) [1,4,5] Z (λz=>[(6,.int .i64 (z:Int))]) (λz u=>(z<=j/\b.ss[j].1.name∉((b.ss.map Prod.fst).take z).map yu.name)/\gu u E 25 (b.c)/\gu u b5 91 (vv b.ss[j])/\Ext No w u) (λz u=>j-z) (0) Z ⟨⟨aF _,λh=>(by cases h)⟩,a,f,g⟩ ?_)));rintro k ag ⟨⟨I,V⟩,a,f,g⟩;refine gh (jn Z (jc Z (λn=>?_) (λn=>?_)));have ah:k<j:=by omega
 have N:k<b.ss.length:=by omega
 have ai:k<(b.ss.map Prod.fst).length:=by rw[aB];exact N
 have W:(b.ss.map Prod.fst)[k]=b.ss[k].1:=bD ..;have p:gu ag E 25 [.slice b.op b.os.length b.oc,.slice (some ⟨q,H,none⟩) b.ss.length b.sc]:=by have e:=a;rw[qv.c,Y] at e;exact e
 refine yz (gh (jl Z 9 [qP 0,qP 1,qP 2,qP 3,qP 4,qP 5,qP 6,qP 7,qP 8] [] (No) zk λau B an=>?_));have aj:=f;have ak:=g;have a:=a.g0 B;have f:=f.g0 B;have g:=g.g4 B;refine gl g5 1 Z (gy g5 Z Z (λw' C=>((p.g0 C).cell Z)) (gl g5 1 Z (qe g5 Z Z 5 Z k Z N (H+k*5) Z (gl g5 1 Z (gy g5 Z Z (λw' C=>(((F k N).g0 (ak.g4 C)) 0 _ Z)) (gl g5 1 Z (gy g5 Z Z (λw' C=>(aj.g0 C).cell Z) (gl g5 1 Z (jd (j1 (jh (jc Z (λn=>?_) (λn=>?_)))))))))))));have M:¬Ad b.d:=λl=>setsOk_no K (λl=>(m.1 l).2.2 (bL.2 ⟨b.ss[k].1,by rw[<-W];exact bF.2 ⟨k,by rw[aK];omega,List.getElem_take⟩,xp n⟩)) l.2.2.2;refine jn Z (j6 (u0 (j2 (j2 (u0 (gGk (gp Z Z ?_)))))));exact⟨by rw[bG M],g⟩
 have am:b.ss[k].1.name≠b.ss[j].1.name:=λe=>n (by rw[e]);refine jw (yt Z ?_);rw[jt _ zo];refine ga ?_;exact j9 (k+1) Z ⟨⟨ah,by rw[List.take_succ_eq_append_getElem ai,bE,W,aV];exact λe=>e.elim V λe=>am (aE.1 e).symm⟩,a,f,g⟩ zf;have Q:j=k:=by omega
 subst Q;have X:=m.2 ⟨J,U,V⟩;refine vw (ke (ke (qu (yt Z ?_))));rw[jt _ zo];refine ga ?_;exact j9 (j+1) Z ⟨⟨G,X⟩,a,g⟩ zf;have Q:j=b.ss.length:=by omega
 subst Q;rw[aL (by rw[aB];exact aA _)] at J;refine zu (jb (α:=Bool) [] Z (λz=>[(2,.bool z)]) (λz u=>(z=decide (b.os.length<=4096/\b.ss.length<=128))/\gu u E 25 (b.c)/\Ext No w u) ?_ ?_);refine gr (gv g5 Z (gj Z (a.cell Z) (gv g5 Z (j7 76 Z (λA=>?_) (λA=>?_)))));have h1:b.os.length<=4096:=by omega
 refine gm g5 1 Z (gj Z (a.cell Z) (gm g5 4 Z (ga ?_)));exact gk (_) Z ⟨by rw[aH];omega,a,g⟩;refine gm g5 6 Z (ga ?_);exact gk (_) Z ⟨by symm;rw[ao];omega,a,g⟩;rintro z av ⟨rfl,a,g⟩;refine j6 (gp Z Z ?_);exact⟨by congr 1;rw[aH];unfold Ad;simp only[qv.d,aB];exact⟨λe=>⟨e.1,e.2,λo O=>(by obtain⟨x,D,rfl⟩:=bL.1 O;exact y x D),J⟩,λe=>⟨e.1,e.2.1⟩⟩,g⟩
theorem flag_be (f : Bool) : be 1 (if f then 1 else 0) = [isB f] := by cases f <;> rfl
theorem yq2 (w:World) {p:Option Addr} {c:Nat} {l:Bytes} (h:ux w p l) (hl:l.length<900000000) (k:Nat) (hk:k<9):
  ge prog 98 [.slice p l.length c,.int .i64 (k:Int)] w λv w'=>∃q c,v= .slice q (x9 k l).length c/\jj w w' q (x9 k l).length c 5 1 (g6 (x9 k l))/\Ext No w w':=by
 refine gt func98 ?_;have a:=Ext.refl No w;refine jn Z (jy Z ?_);rw[cR _ zo];refine gv g5 Z ?_;have e:=a;refine g7 call96 Z (Ac k zo w l.length zo) ?_;rintro B u⟨g,i,rfl,b,j,m⟩;have a:=a.g4 m;have b:jj w u g (be k l.length).length i 5 1 (g6 (be k l.length)):=⟨by rw[jz];exact b,λy n=>Nat.le_trans e.size (j y n)⟩
 rw[show Value.slice g k i= .slice g (be k l.length).length i from by rw[jz]];refine gv g5 Z ?_;have o:=a;refine g7 call97 Z (yj u b.sl (h.g0 a) (by rw[jz];omega) zo) ?_;rintro C A⟨x,z,rfl,d,s,t⟩;have a:=a.g4 t;have d:jj w A x _ z 5 1 _:=⟨d,λy n=>Nat.le_trans o.size (s y n)⟩
 refine vl Z (gp Z Z ?_);exact⟨x,z,Z,d,a⟩
theorem flagged_calls (w:World) {p:Option Addr} {c:Nat} {l:Bytes} (h:ux w p l) (hl:l.length<800000000) (f:Bool):
  ge prog 100 [.bool f,.slice p l.length c] w λv w'=>∃q c,v= .slice q (xw6 f l).length c/\jj w w' q (xw6 f l).length c 5 1 (g6 (xw6 f l))/\Ext No w w':=by
 refine gt func100 ?_;have a:=Ext.refl No w;refine jn Z (jn Z (jb (α:=Nat) [1] Z (λz=>[(5,.int .u64 (z:Int))]) (λz u=>(z=(if f then 1 else 0)/\Ext No w u)/\Ext No w u) ?_ ?_));refine gh (gr (k9 Z (u5 Z (λj=>?_) (λj=>?_))));refine gr (gv g5 Z (ga ?_));exact gk (1) Z ⟨⟨by rw[j];rfl,a⟩,a⟩;refine jw ?_;exact gk (0) Z ⟨⟨by rw[j];rfl,a⟩,a⟩;rintro z J ⟨⟨rfl,K⟩,a⟩;refine jy Z ?_;have k:=a;refine g7 call96 Z (Ac 1 zo J (if f then 1 else 0) (by split<;>decide)) ?_;rintro N F⟨n,o,rfl,b,r,s⟩;have a:=a.g4 s;have b:jj w F n (be 1 (if f then 1 else 0)).length o 5 1 (g6 (be 1 (if f then 1 else 0))):=⟨by rw[jz];exact b,λy t=>Nat.le_trans k.size (r y t)⟩
 rw[show Value.slice n 1 o= .slice n (be 1 (if f then 1 else 0)).length o from by rw[jz]];refine gv g5 Z ?_;have x:=a;refine g7 call98 Z (yq2 F (h.g0 a) zo 2 zd) ?_;rintro O L⟨P,Q,rfl,g,i⟩;have b:=b.g0 i;have a:=a.g4 i;have g:=g.older x.size;have B:=a;refine g7 call97 Z (yj L b.sl g.sl zg zg) ?_;rintro R M⟨G,H,rfl,d,D,E⟩;have a:=a.g4 E;have d:jj w M G _ H 5 1 _:=⟨d,λy t=>Nat.le_trans B.size (D y t)⟩
 refine vl Z (gp Z Z ?_);have e:be 1 (if f then 1 else 0)++x9 2 l=xw6 f l:=by rw[flag_be];rfl
 rw[e] at d|-;exact⟨G,H,Z,d,a⟩
theorem objsB_step {l:List jr} {i:Nat} (hi:i<l.length):za (l.take (i+1))=za (l.take i)++x9 2 (laidB l[i]):=by
 rw[List.take_succ_eq_append_getElem hi,za,aQ,bB];rfl
theorem setsB_step {l:List yu} {i:Nat} (hi:i<l.length):(l.take (i+1)).flatMap zv2=(l.take i).flatMap zv2++zv2 l[i]:=by
 rw[List.take_succ_eq_append_getElem hi,aQ,bB]
theorem code10_calls (w:World) {b:qv} (h:C1 w b) (hoo:∀o∈b.d.objs,xf o) (hss:∀s∈b.d.sets,Cj s) (hno:b.os.length<65536) (hns:b.ss.length<256):
  ge prog 34 [b.v] w λv w'=>∃q c,v= .slice q (u7 b.d).length c/\jj w w' q (u7 b.d).length c 5 1 (g6 (u7 b.d))/\Ext No w w':=by
 refine gt func34 ?_;have g:=Ext.refl No w;refine ki (gn Z λb1 w1 aa a a4=>?_);have g:=g.g4 a4;have a:gu w1 b1 25 (b.c):=a;refine k9 Z (jy Z (gj Z (a.cell Z) (gv g5 Z ?_)));rw[cR _ zo];have a5:=g;refine g7 call96 Z (Ac 2 zo w1 b.os.length zo) ?_;rintro v2 w2⟨q1,c1,rfl,S,aa,ab⟩;have a:=a.g0 ab;have g:=g.g4 ab;have S:jj w w2 q1 (be 2 b.os.length).length c1 5 1 (g6 (be 2 b.os.length)):=⟨by rw[jz];exact S,λy E=>Nat.le_trans a5.size (aa y E)⟩
 rw[show Value.slice q1 2 c1= .slice q1 (be 2 b.os.length).length c1 from by rw[jz]];refine k9 Z (gh (jn Z (j0 (ja (α:=Nat×Option Addr×Nat) [1] Z (λz=>[(3,.slice z.2.1 (be 2 b.os.length++za ((b.os.map Prod.fst).take z.1)).length z.2.2),(4,.int .i64 (z.1:Int))]) (λz u=>(z.1<=b.os.length/\jj w u z.2.1 (be 2 b.os.length++za ((b.os.map Prod.fst).take z.1)).length z.2.2 5 1 (g6 (be 2 b.os.length++za ((b.os.map Prod.fst).take z.1))))/\gu u b1 25 (b.c)/\Ext No w u) (λz u=>b.os.length-z.1) (0,q1,c1) Z ⟨⟨aF _,by rw[List.take_zero,za,List.flatMap_nil,bJ];exact S⟩,a,g⟩ ?_))));rintro⟨i,q,c⟩ w3 ⟨⟨a7,m⟩,a,g⟩;try dsimp only
 dsimp only at a7 m;refine gh (jy Z (gj Z (a.cell Z) (k9 Z (jc Z (λhc=>?_) (λhc=>?_)))));have F:i<b.os.length:=by omega
 have a8:i<(b.os.map Prod.fst).length:=by rw[aB];exact F
 have a9:(b.os.map Prod.fst)[i]=b.os[i].1:=bD ..;obtain⟨qb,qo,hp,T⟩:=h.os.km (objX_len λx hx=>(h.o x hx).i) zo;have ho:=h.o _ (aC F);have p:=hoo _ (cI (aC F));have A:=objsB_step a8;rw[a9] at A;have H:=Cs (l:=(b.os.map Prod.fst).take i) λo hx=>hoo o (bX hx);rw[aK] at H;have h8:=p.2;have J:gu w3 b1 25 [.slice (some ⟨qb,qo,none⟩) b.os.length b.oc,.slice b.sp b.ss.length b.sc]:=by have e:=a;rw[qv.c,hp] at e;exact e
 refine yz (xt Z (gj Z (J.cell Z) (gv g5 Z (jo Z 73 Z i Z F (qo+i*73) Z (je Z ((T i F).g0 g) (gi ho.i) (g7 call99 Z (zx0 w3 ho.i (ho.l.g0 g) (bytes_of p.1)) ?_))))));rintro v4 w4⟨q5,c5,rfl,bb,b9,U⟩;have a:=a.g0 U;have m:=m.g0 U;have g:=g.g4 U;refine g7 call98 Z (yq2 w4 bb.sl zo 2 zd) ?_;rintro v5 w5⟨q6,c6,rfl,bd,V⟩;have a:=a.g0 V;have m:=m.g0 V;have g:=g.g4 V;have bf:=g;refine g7 call97 Z (yj w5 m.sl bd.sl (by rw[al,jz];omega) ze) ?_;rintro v6 w6⟨q7,c7,rfl,W,bh,ac⟩;have a:=a.g0 ac;have g:=g.g4 ac;have W:jj w w6 q7 _ c7 5 1 _:=⟨W,λy E=>Nat.le_trans bf.size (bh y E)⟩
 refine gv g5 Z (ga (yt Z ?_));rw[jt _ zo];refine ga ?_;exact j9 (i+1,q7,c7) (by dsimp only;rw[A,<-aU];rfl) ⟨⟨F,by dsimp only;rw[A,<-aU];exact W⟩,a,g⟩ zf;have h0:i=b.os.length:=by omega
 subst h0;rw[show(b.os.map Prod.fst).take b.os.length=(b.os.map Prod.fst) from aL (by rw[aB];exact aA _)] at m;rw[show(b.os.map Prod.fst).take b.os.length=(b.os.map Prod.fst) from aL (by rw[aB];exact aA _)];have H:=Cs hoo;rw[show b.d.objs.length=b.os.length from aB ..] at H;have H:(za (b.os.map Prod.fst)).length<=b.os.length*802:=H;refine zu (jy Z (gj Z (a.cell Z) (gv g5 Z ?_)));rw[cR _ zo];have bi:=g;refine g7 call96 Z (Ac 1 zo w3 b.ss.length zo) ?_;rintro v7 w7⟨q8,c8,rfl,X,bk,Y⟩;have a:=a.g0 Y;have m:=m.g0 Y;have g:=g.g4 Y;have X:jj w w7 q8 (be 1 b.ss.length).length c8 5 1 (g6 (be 1 b.ss.length)):=⟨by rw[jz];exact X,λy E=>Nat.le_trans bi.size (bk y E)⟩
 rw[show Value.slice q8 1 c8= .slice q8 (be 1 b.ss.length).length c8 from by rw[jz]];have bm:=g;refine g7 call97 Z (yj w7 m.sl X.sl (by rw[al,jz];omega) (by rw[jz];omega)) ?_;rintro v8 w8⟨q9,c9,rfl,Q,bp,ad⟩;have a:=a.g0 ad;have g:=g.g4 ad;have Q:jj w w8 q9 _ c9 5 1 _:=⟨Q,λy E=>Nat.le_trans bm.size (bp y E)⟩
 have e9:be 2 b.os.length++za (b.os.map Prod.fst)++be 1 b.ss.length=(be 2 b.os.length++za (b.os.map Prod.fst)++be 1 b.ss.length++((b.ss.map Prod.fst).take 0).flatMap zv2):=by rw[List.take_zero,List.flatMap_nil,bJ]
 rw[e9] at Q|-;refine k9 Z (gh (jn Z (j0 (ja (α:=Nat×Option Addr×Nat) [1] Z (λz=>[(3,.slice z.2.1 (be 2 b.os.length++za (b.os.map Prod.fst)++be 1 b.ss.length++((b.ss.map Prod.fst).take z.1).flatMap zv2).length z.2.2),(5,.int .i64 (z.1:Int))]) (λz u=>(z.1<=b.ss.length/\jj w u z.2.1 (be 2 b.os.length++za (b.os.map Prod.fst)++be 1 b.ss.length++((b.ss.map Prod.fst).take z.1).flatMap zv2).length z.2.2 5 1 (g6 (be 2 b.os.length++za (b.os.map Prod.fst)++be 1 b.ss.length++((b.ss.map Prod.fst).take z.1).flatMap zv2)))/\gu u b1 25 (b.c)/\Ext No w u) (λz u=>b.ss.length-z.1) (0,q9,c9) Z ⟨⟨aF _,Q⟩,a,g⟩ ?_))));rintro⟨j,q,c⟩ w9 ⟨⟨bq,m⟩,a,g⟩;try dsimp only
 dsimp only at bq m;refine gh (jy Z (gj Z (a.cell Z) (k9 Z (jc Z (λhc=>?_) (λhc=>?_)))));have G:j<b.ss.length:=by omega
 have br:j<(b.ss.map Prod.fst).length:=by rw[aB];exact G
 have bt:(b.ss.map Prod.fst)[j]=b.ss[j].1:=bD ..;obtain⟨qb,qo,hp,T⟩:=h.ss.km (λx _=>yx9 x) zo;have ae:=h.s _ (aC G);have p:=hss _ (cI (aC G));have A:=setsB_step br;rw[bt] at A;have ca:(((b.ss.map Prod.fst).take j).flatMap zv2).length<=j*9000:=by have e:=B0 (l:=(b.ss.map Prod.fst).take j) (f:=zv2) (n:=9000) λs hs=>setB_len (hss s (bX hs));rw[aK] at e;exact Nat.le_trans e (cQ 9000 (Nat.min_le_left j _))
 have h2:=p.2.1;have h3:=p.2.2.1.1;have h4:=p.2.2.2.1;have J:gu w9 b1 25 [.slice b.op b.os.length b.oc,.slice (some ⟨qb,qo,none⟩) b.ss.length b.sc]:=by have e:=a;rw[qv.c,hp] at e;exact e
 refine yz (jy Z (gj Z (J.cell Z) (gv g5 Z (jo Z 5 Z j Z G (qo+j*5) Z (je Z ((T j G).g0 g) Z (gn Z λb6 cb af k K=>?_))))));have I:=gw a.lt af;have bu:=Nat.le_trans g.size af;have a:=a.g0 K;have m:=m.g0 K;have g:=g.g4 K;have ag:=k;refine wl (gz (l':=vv b.ss[j]) g5 k Z Z Z Z OneC.h λcc k L b8=>?_);have a:=a.g9 L I;have m:=m.g9 L ag zd;have g:=g.g8 L bu;refine qi (jy Z (j3 k Z Z (wl (st_s2b g5 Z λbs cs bv cd bw ce cf B=>?_))));have a:=a.g0 B;have k:=k.g0 B;have m:=m.g0 B;have g:=g.g4 B;refine g7 call98 Z (yq2 bv (l:=b.ss[j].1.name) bw zo 1 zd) ?_;rintro cg bx⟨ch,ci,rfl,ai,C⟩;have a:=a.g0 C;have k:=k.g0 C;have m:=m.g0 C;have g:=g.g4 C;have aj:=g;refine g7 call97 Z (yj bx m.sl ai.sl (by simp only[al,jz];omega) ze) ?_;rintro cj ak⟨bz,b0,rfl,r,an,M⟩;have a:=a.g0 M;have k:=k.g0 M;have g:=g.g4 M;have r:jj w ak bz _ b0 5 1 _:=⟨r,λy E=>Nat.le_trans aj.size (an y E)⟩
 refine k9 Z (jy Z (j3 k Z Z (gv g5 Z (j3 k Z Z (g7 call100 Z (flagged_calls ak (ae.old.g0 g) zo b.ss[j].1.was) ?_)))));rintro ck b2⟨cm,cn,rfl,aq,D⟩;have a:=a.g0 D;have k:=k.g0 D;have r:=r.g0 D;have g:=g.g4 D;have ar:=g;refine g7 call97 Z (yj b2 r.sl aq.sl zg (by have:=zx6 p.2.2.1;omega)) ?_;rintro cp w16⟨b3,b4,rfl,t,av,N⟩;have a:=a.g0 N;have k:=k.g0 N;have g:=g.g4 N;have t:jj w w16 b3 _ b4 5 1 _:=⟨t,λy E=>Nat.le_trans ar.size (av y E)⟩
 refine k9 Z (xt Z (j3 k Z Z (gv g5 Z (j3 k Z Z (g7 call100 Z (flagged_calls w16 (ae.new.g0 g) zo b.ss[j].1.is) ?_)))));rintro cq b5⟨cr,ct,rfl,ax,O⟩;have a:=a.g0 O;have t:=t.g0 O;have g:=g.g4 O;have ay:=g;refine g7 call97 Z (yj b5 t.sl ax.sl (by have:=zx6 p.2.2.1;simp only[al,jz,u3];omega) (by have:=zx6 p.2.2.2;omega)) ?_;rintro cu b7⟨a0,a1,rfl,P,a2,R⟩;have a:=a.g0 R;have g:=g.g4 R;have P:jj w b7 a0 _ a1 5 1 _:=⟨P,λy E=>Nat.le_trans ay.size (a2 y E)⟩
 refine gv g5 Z (ga (yt Z ?_));rw[jt _ zo];refine ga ?_;exact j9 (j+1,a0,a1) (by dsimp only;rw[A,zv2];simp only[aU];rfl) ⟨⟨G,by dsimp only;rw[A,zv2];have e:=P;simp only[aU] at e|-;exact e⟩,a,g⟩ zf;have h0:j=b.ss.length:=by omega
 subst h0;rw[show(b.ss.map Prod.fst).take b.ss.length=(b.ss.map Prod.fst) from aL (by rw[aB];exact aA _)] at m;rw[show(b.ss.map Prod.fst).take b.ss.length=(b.ss.map Prod.fst) from aL (by rw[aB];exact aA _)];have a3:be 2 b.os.length++za (b.os.map Prod.fst)++be 1 b.ss.length++(b.ss.map Prod.fst).flatMap zv2=u7 b.d:=by rw[u7];simp only[qv.d,aB]
 rw[a3] at m;rw[a3];refine zu (jn Z (j6 (gp Z Z ?_)));exact⟨q,c,Z,m,g⟩
theorem yz9 {α:Type} {l m:List α} {i:Nat} (hi:i<l.length) (hm:i<m.length):l.take (i+1)=m.take (i+1)↔l.take i=m.take i/\l[i]=m[i]:=by
 rw[List.take_succ_eq_append_getElem hi,List.take_succ_eq_append_getElem hm];constructor;intro h;have:=List.append_inj' h Z;exact⟨this.1,by simpa using this.2⟩
 rintro⟨a,b⟩;rw[a,b]
theorem zq9 (w:World) {p q:Option Addr} {c d:Nat} {l m:Bytes} (h:ux w p l) (h':ux w q m) (hl:l.length<1000000000):
  ge prog 93 [.slice p l.length c,.slice q m.length d] w λv w'=>v= .bool (decide (l=m))/\Ext No w w':=by
 refine gt func93 ?_;have f:=Ext.refl No w;refine jn Z (uz Z (jn Z (j0 (ja (α:=Bool×Nat) [0,1] Z (λz=>[(5,.bool z.1),(6,.int .i64 (z.2:Int))]) (λz u=>(z.2<=l.length/\z.1=decide (l.length=m.length/\l.take z.2=m.take z.2))/\Ext No w u) (λz u=>l.length-z.2) (decide ((l.length:Int)=(m.length:Int)),0) Z ⟨⟨aF _,by dsimp only;rw[aH];exact⟨λe=>⟨by omega,Z⟩,λe=>by have:=e.1;omega⟩⟩,f⟩ ?_))));rintro⟨K,i⟩ O ⟨⟨y,a⟩,f⟩;try dsimp only
 dsimp only at y a;refine gh (jb (α:=Bool) [0,1,5,6] Z (λz=>[(18,.bool z)]) (λz u=>(z=decide (K=true/\i<l.length))/\Ext No w u) ?_ ?_);refine gr (gv g5 Z (qy 13 Z (λA=>?_) (λA=>?_)));refine gm g5 5 Z (ga ?_);exact gk (_) Z ⟨(by rw[aH];exact⟨λe=>⟨A,by omega⟩,λe=>by have:=e.2;omega⟩),f⟩;refine gm g5 5 Z (ga ?_);exact gk (false) Z ⟨(by symm;rw[ao];exact λe=>(by rw[A] at e;cases e.1)),f⟩;rintro z P ⟨rfl,f⟩;refine jc Z (λx=>?_) (λx=>?_);obtain⟨B,j⟩:=x;rw[B] at a;have C:=cD a.symm;have n:i<m.length:=by have:=C.1;omega
 have o:=yz9 j n;obtain⟨b,r,rfl,D⟩:=Sl.mapAt h zo;obtain⟨M,g,rfl,E⟩:=Sl.mapAt h' zo;have F:∀u,Ext No w u->u.cell? ⟨b,r+i,none⟩=some (yf l[i]):=λu G=>(D.g0 G) i _ (by rw[bZ,aS j];rfl);have H:∀u,Ext No w u->u.cell? ⟨M,g+i,none⟩=some (yf m[i]):=λu G=>(E.g0 G) i _ (by rw[bZ,aS n];rfl);refine yz (jl Z 10 [qP 0,qP 1,qP 2,qP 3,qP 4,qP 5,qP 6,qP 7,qP 8,qP 9] [] (No) zk λQ J N=>?_);have s:=f;have f:=f.g4 J;refine gl g5 2 Z (qe g5 Z Z 1 Z i Z zo (r+i) (by rw[aY]) (gy g5 Z Z (λw' k=>(F w' (s.g4 k))) (gl g5 2 Z (qe g5 Z Z 1 Z i Z zo (g+i) (by rw[aY]) (gy g5 Z Z (λw' k=>(H w' (s.g4 k))) (gl g5 2 Z (jd (j1 (yt Z ?_)))))))));rw[jt _ zo];refine ga ?_;exact j9 (decide (((l[i]).toNat:Int)=((m[i]).toNat:Int)),i+1) Z ⟨⟨j,by dsimp only;rw[aH];exact⟨λe=>⟨C.1,o.2 ⟨C.2,UInt8.toNat_inj.1 zo⟩⟩,λe=>by rw[(o.1 e.2).2]⟩⟩,f⟩ zf;have t:K=decide (l=m):=by rw[a,aH];rw[a,aO] at x;constructor;intro e;have R:¬i<l.length:=λh=>x ⟨e,h⟩;have L:=e.2;rw[aL zo,aL (by have:=e.1;omega)] at L;exact L;intro e;exact⟨by rw[e],by rw[e]⟩
 refine zu (jn Z (j6 (gp Z Z ?_)));exact⟨by rw[t],f⟩
structure yb where
  rp : Option Addr
  rc : Nat
  hs : List jk
  vp : Option Addr
  vc : Nat
  vs : List x5
def yb.c (s : yb) : List Value := [.slice s.rp s.hs.length s.rc, .slice s.vp s.vs.length s.vc]
abbrev yb.v (s : yb) : Value := .agg s.c.toArray
instance (s : yb) : OneC s.c := by unfold yb.c; infer_instance
def yb.s (s : yb) : C3 := ⟨s.hs.map jk.o, s.vs.map Prod.fst⟩
structure xz8 (u : World) (x : jk) : Prop where
  id : x.id = xj x.o
  ok : Df x.o
  l : Bv u x.o x.a
theorem xz8.g0 {u u' : World} {x : jk} (h : xz8 u x) (hE : Ext No u u') : xz8 u' x := ⟨h.id, h.ok, h.l.g0 hE⟩
theorem xz8.len {u : World} {x : jk} (h : xz8 u x) : (ut x).length = 105 := yx (by rw [h.id]; exact qm _) h.ok.1
structure ValR (u : World) (x : x5) : Prop where
  s : ux u x.2.1 x.1.2
  ln : x.1.1.length < 1000000000
  lo : x.1.2.length < 1000000000
theorem ValR.g0 {u u' : World} {x : x5} (h : ValR u x) (hE : Ext No u u') : ValR u' x := ⟨h.s.g0 hE, h.ln, h.lo⟩
structure C8 (u : World) (s : yb) : Prop where
  row : Sl u s.rp s.hs.length 105 (s.hs.flatMap ut)
  vals : Sl u s.vp s.vs.length 2 (s.vs.flatMap ui)
  o : ∀ x ∈ s.hs, xz8 u x
  v : ∀ x ∈ s.vs, ValR u x
  few : s.hs.length < 1000000
  fev : s.vs.length < 1000000
theorem C8.g0 {u u':World} {s:yb} (h:C8 u s) (hE:Ext No u u'):C8 u' s:=⟨h.row.g0 hE,h.vals.g0 hE,λx a=>(h.o x a).g0 hE,λx a=>(h.v x a).g0 hE,h.few,h.fev⟩
def atI (l : List IdB) (x : IdB) : Int := if x ∈ l then (l.idxOf x : Int) else -1
theorem idx_at {l:List IdB} {i:Nat} (hi:i<l.length) (h:∀k (hk:k<l.length),k<i->l[k]≠l[i]):l.idxOf l[i]=i:=by
 induction l generalizing i with
 |nil=>cases hi
 |cons a r ih=>
  cases i with
  |zero=>exact List.idxOf_cons_self
  |succ i=>
   have b:a≠r[i]'(by simpa using hi):=h 0 zp zo;show List.idxOf (r[i]'(by simpa using hi)) (a::r)=i+1;rw[List.idxOf_cons,show(a==r[i]'(by simpa using hi))=false from by simpa using b];exact congrArg (·+1) (ih (by simpa using hi) λk hk c=>h (k+1) (by simpa using hk) zo)
theorem atI_at {l:List IdB} {i:Nat} {x:IdB} (hi:i<l.length) (h:∀k (hk:k<l.length),k<i->l[k]≠x) (e:l[i]=x):atI l x=(i:Int):=by
 subst e;unfold atI;rw[aM (aC hi),idx_at hi h]
theorem at10_calls (w:World) {p:Option Addr} {c:Nat} {hs:List jk} (h:Sl w p hs.length 105 (hs.flatMap ut)) (hl:∀x∈hs,uc x.id/\(ut x).length=105) (few:hs.length<1000000) {id:IdB} (hid:uc id):
  ge prog 123 [.slice p hs.length c,idV id] w λv w'=>v= .int .i64 (atI (hs.map jk.id) id)/\Ext No w w':=by
 refine gt func123 ?_;have f:=Ext.refl No w;refine ki (gn Z λC D E a r=>?_);have f:=f.g4 r;have a:gu D C 30 (g6 id):=a;refine k9 Z (gh (jn Z (j0 (ja (α:=Nat) [0,3] Z (λz=>[(5,.int .i64 (z:Int))]) (λz u=>(z<=hs.length/\∀k (j:k<(hs.map jk.id).length),k<z->(hs.map jk.id)[k]≠id)/\gu u C 30 (g6 id)/\Ext No w u) (λz u=>hs.length-z) (0) Z ⟨⟨aF _,λ_ _ h=>absurd h (bO _)⟩,a,f⟩ ?_))));rintro i L ⟨⟨M,l⟩,a,f⟩;refine gh (jn Z (jc Z (λg=>?_) (λg=>?_)));have b:i<hs.length:=by omega
 have s:i<(hs.map jk.id).length:=by rw[aB];exact b
 have n:(hs.map jk.id)[i]=hs[i].id:=bD ..;obtain⟨N,F,G,t⟩:=h.km (λx H=>(hl x H).2) zo;subst G;have d:=(hl _ (aC b)).1;refine yz (gh (jl Z 7 [qP 0,qP 1,qP 2,qP 3,qP 4,qP 5,qP 6] [] (No) zk λO o J=>?_));have y:=a;have A:=f;have a:=a.g0 o;have f:=f.g4 o;refine gl g5 2 Z (qe g5 Z Z 105 Z i Z b (F+i*105) Z (gl g5 1 Z (kw g5 Z Z (λw' m=>(Seg.append.1 ((t i b).g0 (A.g4 m))).1) d.len (kw g5 Z Z (λw' m=>(y.g0 m).kc) hid.len (zq1 Z Z gId 10 zd kId (u9 d) (u9 hid) (vm d) (vm hid) u4 (jd (j1 (jh (jc Z (λg=>?_) (λg=>?_))))))))));have g:hs[i].id=id:=g;refine jn Z (j6 (gGk (gp Z Z ?_)));exact⟨by rw[atI_at s (λk j q=>l k j q) (n.trans g)],f⟩
 have g:¬hs[i].id=id:=g;refine jw (yt Z ?_);rw[jt _ zo];refine ga ?_;exact j9 (i+1) Z ⟨⟨b,λk j q=>(aZ k i).elim (l k j) λP=>by obtain rfl:k=i:=zo;rw[n];exact g⟩,a,f⟩ zf;have B:id∉hs.map jk.id:=λK=>by obtain⟨k,j,e⟩:=bF.1 K;exact l k j (by rw[aB] at j;omega) e
 refine zu (jn Z (j6 (gp Z Z ?_)));exact⟨by unfold atI;rw[aJ B],f⟩
theorem same10_calls (w:World) {a b:yb} (ha:C8 w a) (hb:C8 w b):
  ge prog 48 [a.v,b.v] w λv w'=>v= .bool (decide ((a.hs.map jk.o)=(b.hs.map jk.o)/\(a.vs.map Prod.fst)=(b.vs.map Prod.fst)))/\Ext No w w':=by
 have hal:=ha.few;have au:=hb.fev;refine gt func48 ?_;have k:=Ext.refl No w;refine ki (gn Z λN w1 av d ah=>?_);have k:=k.g4 ah;have d:gu w1 N 102 (a.c):=d;refine gn Z λO w2 aw f ab=>?_;have d:=d.g0 ab;have k:=k.g4 ab;have f:gu w2 O 102 (b.c):=f;refine k9 Z (jb (α:=Bool) [2,3] Z (λz=>[(5,.bool z)]) (λz u=>(z=decide ((a.hs.length=b.hs.length/\a.vs.length=b.vs.length)/\(a.hs.map jk.o).take 0=(b.hs.map jk.o).take 0))/\gu u N 102 (a.c)/\gu u O 102 (b.c)/\Ext No w u) ?_ ?_);refine gr (gv g5 Z (gj Z (d.cell Z) (gv g5 Z (gj Z (f.cell Z) (gv g5 Z (j7 15 Z (λA=>?_) (λA=>?_)))))));have G:a.hs.length=b.hs.length:=by omega
 refine gm g5 1 Z (gj Z (d.cell Z) (gm g5 2 Z (gj Z (f.cell Z) (gm g5 4 Z (ga ?_)))));exact gk (_) Z ⟨by rw[aH];exact⟨λe=>⟨⟨G,by omega⟩,Z⟩,λe=>by have:=e.1.2;omega⟩,d,f,k⟩;have G:¬a.hs.length=b.hs.length:=by omega
 refine gm g5 9 Z (ga ?_);exact gk (false) Z ⟨by symm;rw[ao];exact λe=>G e.1.1,d,f,k⟩;rintro z w3 ⟨rfl,d,f,k⟩;refine gh (jn Z (j0 (ja (α:=Bool×Nat) [2,3] Z (λz=>[(5,.bool z.1),(6,.int .i64 (z.2:Int))]) (λz u=>(z.2<=a.hs.length/\z.1=decide ((a.hs.length=b.hs.length/\a.vs.length=b.vs.length)/\(a.hs.map jk.o).take z.2=(b.hs.map jk.o).take z.2))/\gu u N 102 (a.c)/\gu u O 102 (b.c)/\Ext No w u) (λz u=>a.hs.length-z.2) (decide ((a.hs.length=b.hs.length/\a.vs.length=b.vs.length)/\(a.hs.map jk.o).take 0=(b.hs.map jk.o).take 0),0) Z ⟨⟨aF _,Z⟩,d,f,k⟩ ?_)));rintro⟨sm,i⟩ w4 ⟨⟨ai,K⟩,d,f,k⟩;try dsimp only
 dsimp only at ai K;refine gh (jb (α:=Bool) [2,3,5,6] Z (λz=>[(31,.bool z)]) (λz u=>(z=decide (sm=true/\i<a.hs.length))/\gu u N 102 (a.c)/\gu u O 102 (b.c)/\Ext No w u) ?_ ?_);refine gr (gv g5 Z (qy 25 Z (λA=>?_) (λA=>?_)));refine gm g5 2 Z (gj Z (d.cell Z) (gm g5 3 Z (ga ?_)));exact gk (_) Z ⟨by rw[aH];exact⟨λe=>⟨A,by omega⟩,λe=>by have:=e.2;omega⟩,d,f,k⟩;refine gm g5 6 Z (ga ?_);exact gk (false) Z ⟨(by symm;rw[ao];exact λe=>(by rw[A] at e;cases e.1)),d,f,k⟩;rintro z w5 ⟨rfl,d,f,k⟩;refine jc Z (λP=>?_) (λP=>?_);obtain⟨V,B⟩:=P;rw[V] at K;have T:=cD K.symm;have H:i<b.hs.length:=by have:=T.1.1;omega
 have aj:i<(a.hs.map jk.o).length:=by rw[aB];exact B
 have ak:i<(b.hs.map jk.o).length:=by rw[aB];exact H
 have W:(a.hs.map jk.o)[i]=a.hs[i].o:=bD ..;have X:(b.hs.map jk.o)[i]=b.hs[i].o:=bD ..;have C:=yz9 aj ak;rw[W,X] at C;have m:=ha.o _ (aC B);have D:=hb.o _ (aC H);have Q:uc a.hs[i].id:=by rw[m.id];exact qm _
 have R:uc b.hs[i].id:=by rw[D.id];exact qm _
 obtain⟨q2,Y,I,p⟩:=ha.row.km (λx hx=>(ha.o x hx).len) zo;obtain⟨q3,o3,aa,q⟩:=hb.row.km (λx hx=>(hb.o x hx).len) zo;have r:gu w5 N 102 [.slice (some ⟨q2,Y,none⟩) a.hs.length a.rc,.slice a.vp a.vs.length a.vc]:=by have e:=d;rw[yb.c,I] at e;exact e
 have t:gu w5 O 102 [.slice (some ⟨q3,o3,none⟩) b.hs.length b.rc,.slice b.vp b.vs.length b.vc]:=by have e:=f;rw[yb.c,aa] at e;exact e
 refine vo (jb (α:=Bool) [2,3,6] Z (λz=>[(5,.bool z)]) (λz u=>(z=decide (a.hs[i].o=b.hs[i].o))/\gu u N 102 (a.c)/\gu u O 102 (b.c)/\Ext No w u) ?_ ?_);refine j0 (jl Z 29 [qP 0,qP 1,qP 2,qP 3,qP 4,qP 5,qP 6,qP 7,qP 8,qP 9,qP 10,qP 11,qP 12,qP 13,qP 14,qP 15,qP 16,qP 17,qP 18,qP 19,qP 20,qP 21,qP 22,qP 23,qP 24,qP 25,(26,false),qP 27,qP 28] [] (No) zk λw6 S ax=>?_);have n:=k;have d:=d.g0 S;have f:=f.g0 S;have k:=k.g4 S;have hC:Ext (No) _ w6:=S.no;refine gl g5 1 Z (gy g5 Z Z (λw' g=>((r.g0 g).cell Z)) (gl g5 1 Z (qe g5 Z Z 105 Z i Z B (Y+i*105) Z (gl g5 1 Z (kw g5 Z Z (λw' g=>(Seg.append.1 ((p i B).g0 (n.g4 g))).1) Q.len (gl g5 1 Z (gy g5 Z Z (λw' g=>((t.g0 g).cell Z)) (gl g5 1 Z (qe g5 Z Z 105 Z i Z H (o3+i*105) Z (gl g5 1 Z (kw g5 Z Z (λw' g=>(Seg.append.1 ((q i H).g0 (n.g4 g))).1) R.len (zq1 Z Z gId 10 zd kId (u9 Q) (u9 R) (vm Q) (vm R) u4 (gl g5 1 Z (ve 47 Z (λA=>?_) (λA=>?_)))))))))))))));refine gl g5 1 Z (gy g5 Z Z (λw' g=>((r.g0 g).cell Z)) (gl g5 1 Z (qe g5 Z Z 105 Z i Z B (Y+i*105) Z (gl g5 1 Z (kw g5 Z Z (λw' g=>(by have e:=(Seg.append.1 ((p i B).g0 (n.g4 g))).2;rw[gb,Q] at e;exact e)) (gi m.ok.1) (gl g5 1 Z (gy g5 Z Z (λw' g=>((t.g0 g).cell Z)) (gl g5 1 Z (qe g5 Z Z 105 Z i Z H (o3+i*105) Z (gl g5 1 Z (kw g5 Z Z (λw' g=>(by have e:=(Seg.append.1 ((q i H).g0 (n.g4 g))).2;rw[gb,R] at e;exact e)) (gi D.ok.1) (jg Z (gx call17 Z (xq8 w6 m.ok.1 D.ok.1 (m.l.g0 k) (D.l.g0 k) m.ok.2) λv7 w7 ac=>⟨(by obtain⟨rfl,L⟩:=ac;exact hC.g4 L),?_⟩)))))))))))));obtain⟨rfl,L⟩:=ac;have d:=d.g0 L;have f:=f.g0 L;have k:=k.g4 L;refine gl g5 2 Z (jd (j1 ?_));exact jm (gk (_) Z ⟨Z,d,f,k⟩);have am:a.hs[i].o≠b.hs[i].o:=λe=>A (show a.hs[i].id=b.hs[i].id by rw[m.id,D.id,e]);refine gl g5 15 Z (jd (j1 ?_));exact jm (gk (false) Z ⟨(bG am).symm,d,f,k⟩);rintro z w8 ⟨rfl,d,f,k⟩;refine xt Z ?_;rw[jt _ zo];refine ga ?_;exact j9 (decide (a.hs[i].o=b.hs[i].o),i+1) Z ⟨⟨B,by dsimp only;rw[aH];exact⟨λe=>⟨T.1,C.2 ⟨T.2,e⟩⟩,λe=>(C.1 e.2).2⟩⟩,d,f,k⟩ zf
 have ad:sm=decide ((a.hs.length=b.hs.length/\a.vs.length=b.vs.length)/\(a.hs.map jk.o)=(b.hs.map jk.o)):=by
  rw[K,aH];rw[K,aO] at P;rw[and_assoc];constructor;intro e;have h0:¬i<a.hs.length:=λh=>P ⟨⟨⟨e.1,e.2.1⟩,e.2.2⟩,h⟩;have G:=e.2.2;rw[aL (by rw[aB];omega),aL (by rw[aB];have:=e.1;omega)] at G;exact⟨⟨e.1,e.2.1⟩,G⟩
  intro e;exact⟨e.1.1,e.1.2,by rw[e.2]⟩
 refine zu (gh (jn Z (j0 (ja (α:=Bool×Nat) [2,3] Z (λz=>[(5,.bool z.1),(7,.int .i64 (z.2:Int))]) (λz u=>(z.2<=a.vs.length/\z.1=decide ((a.hs.length=b.hs.length/\a.vs.length=b.vs.length)/\(a.hs.map jk.o)=(b.hs.map jk.o)/\(a.vs.map Prod.fst).take z.2=(b.vs.map Prod.fst).take z.2))/\gu u N 102 (a.c)/\gu u O 102 (b.c)/\Ext No w u) (λz u=>a.vs.length-z.2) (sm,0) Z ⟨⟨aF _,by dsimp only;rw[ad,aH];exact⟨λe=>⟨e.1,e.2,Z⟩,λe=>⟨e.1,e.2.1⟩⟩⟩,d,f,k⟩ ?_))));rintro⟨sn,j⟩ w9 ⟨⟨an,M⟩,d,f,k⟩;try dsimp only
 dsimp only at an M;refine gh (jb (α:=Bool) [2,3,5,7] Z (λz=>[(69,.bool z)]) (λz u=>(z=decide (sn=true/\j<a.vs.length))/\gu u N 102 (a.c)/\gu u O 102 (b.c)/\Ext No w u) ?_ ?_);refine gr (gv g5 Z (qy 63 Z (λA=>?_) (λA=>?_)));refine gm g5 2 Z (gj Z (d.cell Z) (gm g5 3 Z (ga ?_)));exact gk (_) Z ⟨by rw[aH];exact⟨λe=>⟨A,by omega⟩,λe=>by have:=e.2;omega⟩,d,f,k⟩;refine gm g5 6 Z (ga ?_);exact gk (false) Z ⟨(by symm;rw[ao];exact λe=>(by rw[A] at e;cases e.1)),d,f,k⟩;rintro z ae ⟨rfl,d,f,k⟩;refine jc Z (λP=>?_) (λP=>?_);obtain⟨V,E⟩:=P;rw[V] at M;have T:=cD M.symm;have J:j<b.vs.length:=by have:=T.1.2;omega
 have ap:j<(a.vs.map Prod.fst).length:=by rw[aB];exact E
 have aq:j<(b.vs.map Prod.fst).length:=by rw[aB];exact J
 have W:(a.vs.map Prod.fst)[j]=a.vs[j].1:=bD ..;have X:(b.vs.map Prod.fst)[j]=b.vs[j].1:=bD ..;have C:=yz9 ap aq;rw[W,X] at C;have m:=ha.v _ (aC E);have D:=hb.v _ (aC J);obtain⟨q2,Y,I,p⟩:=ha.vals.km (λx _=>xz x) zo;obtain⟨q3,o3,aa,q⟩:=hb.vals.km (λx _=>xz x) zo;have r:gu ae N 102 [.slice a.rp a.hs.length a.rc,.slice (some ⟨q2,Y,none⟩) a.vs.length a.vc]:=by have e:=d;rw[yb.c,I] at e;exact e
 have t:gu ae O 102 [.slice b.rp b.hs.length b.rc,.slice (some ⟨q3,o3,none⟩) b.vs.length b.vc]:=by have e:=f;rw[yb.c,aa] at e;exact e
 refine vo (jb (α:=Bool) [2,3,7] Z (λz=>[(5,.bool z)]) (λz u=>(z=decide (a.vs[j].1=b.vs[j].1))/\gu u N 102 (a.c)/\gu u O 102 (b.c)/\Ext No w u) ?_ ?_);refine j0 (jl Z 29 [qP 0,qP 1,qP 2,qP 3,qP 4,qP 5,qP 6,qP 7,qP 8,qP 9,qP 10,qP 11,qP 12,qP 13,qP 14,qP 15,qP 16,qP 17,qP 18,qP 19,qP 20,qP 21,qP 22,qP 23,qP 24,qP 25,(26,false),qP 27,qP 28] [] (No) zk λaf F ar=>?_);have n:=k;have d:=d.g0 F;have f:=f.g0 F;have k:=k.g4 F;have hC:Ext (No) _ af:=F.no;refine gl g5 1 Z (gy g5 Z Z (λw' g=>((r.g0 g).cell Z)) (gl g5 1 Z (qe g5 Z Z 2 Z j Z E (Y+j*2) Z (gl g5 1 Z (gy g5 Z Z (λw' g=>((p j E).g0 (n.g4 g) 0 _ Z)) (gl g5 1 Z (gy g5 Z Z (λw' g=>((t.g0 g).cell Z)) (gl g5 1 Z (qe g5 Z Z 2 Z j Z J (o3+j*2) Z (gl g5 1 Z (gy g5 Z Z (λw' g=>((q j J).g0 (n.g4 g) 0 _ Z)) (gl g5 2 Z (ve 85 Z (λA=>?_) (λA=>?_))))))))))))));have G:a.vs[j].1.1=b.vs[j].1.1:=xp A;refine gl g5 1 Z (gy g5 Z Z (λw' g=>((r.g0 g).cell Z)) (gl g5 1 Z (qe g5 Z Z 2 Z j Z E (Y+j*2) Z (gl g5 1 Z (gy g5 Z Z (λw' g=>((p j E).g0 (n.g4 g) 1 _ Z)) (gl g5 1 Z (gy g5 Z Z (λw' g=>((t.g0 g).cell Z)) (gl g5 1 Z (qe g5 Z Z 2 Z j Z J (o3+j*2) Z (gl g5 1 Z (gy g5 Z Z (λw' g=>((q j J).g0 (n.g4 g) 1 _ Z)) (jg Z (gx call93 Z (zq9 af (m.s.g0 k) (D.s.g0 k) (by have:=m.lo;omega)) λay az U=>⟨(by obtain⟨rfl,y⟩:=U;exact hC.g4 y),?_⟩)))))))))))));obtain⟨rfl,y⟩:=U;have d:=d.g0 y;have f:=f.g0 y;have k:=k.g4 y;refine gl g5 2 Z (jd (j1 ?_));exact jm (gk (_) Z ⟨(by rw[aH,Prod.ext_iff];exact⟨λe=>⟨G,e⟩,λe=>e.2⟩),d,f,k⟩);have G:a.vs[j].1.1≠b.vs[j].1.1:=λe=>A (by rw[e]);refine gl g5 15 Z (jd (j1 ?_));exact jm (gk (false) Z ⟨(by symm;rw[ao];exact λe=>G (by rw[e])),d,f,k⟩);rintro z a0 ⟨rfl,d,f,k⟩;refine xt Z ?_;rw[jt _ zo];refine ga ?_;exact j9 (decide (a.vs[j].1=b.vs[j].1),j+1) Z ⟨⟨E,by dsimp only;rw[aH];exact⟨λe=>⟨T.1,T.2.1,C.2 ⟨T.2.2,e⟩⟩,λe=>(C.1 e.2.2).2⟩⟩,d,f,k⟩ zf
 have ag:sn=decide ((a.hs.map jk.o)=(b.hs.map jk.o)/\(a.vs.map Prod.fst)=(b.vs.map Prod.fst)):=by
  rw[M,aH];rw[M,aO] at P;constructor;intro e;have h0:¬j<a.vs.length:=λh=>P ⟨e,h⟩;have G:=e.2.2;rw[aL (by rw[aB];omega),aL (by rw[aB];have:=e.1.2;omega)] at G;exact⟨e.2.1,G⟩
  intro e;have l1:=congrArg List.length e.1;have l2:=congrArg List.length e.2;rw[aB,aB] at l1 l2;exact⟨⟨l1,l2⟩,e.1,by rw[e.2]⟩
 refine zu (jn Z (j6 (gp Z Z ?_)));exact⟨by rw[ag],k⟩
def Shp (w w' : World) : Prop := ∀ b T L, gu w b T L -> ∃ L', gu w' b T L' /\ L'.length = L.length /\ (T = 5 -> ∀ (i : Nat) (x : UInt8), L[i]? = some (yf x) -> ∃ y : UInt8, L'[i]? = some (yf y))
theorem Shp.refl (w : World) : Shp w w := λ_ _ L h => ⟨L, h, rfl, λ_ _ x h => ⟨x, h⟩⟩
theorem Shp.trans {w u u':World} (h:Shp w u) (k:Shp u u'):Shp w u':=λb T L a=>by
 obtain⟨c,d,f,g⟩:=h b T L a
 obtain⟨j,l,m,n⟩:=k b T c d
 exact⟨j,l,m.trans f,λe i x o=>by obtain⟨y,p⟩:=g e i x o;exact n e i y p⟩
theorem Shp.no {w u u' : World} (h : Shp w u) (hE : Ext No u u') : Shp w u' := h.trans λ_ _ L hb => ⟨L, hb.g0 hE, rfl, λ_ _ x h => ⟨x, h⟩⟩
theorem Shp.one {w u u':World} {b T:Nat} {L L':List Value} (h:Shp w u) (hE:Ext (One b) u u') (hb:gu u b T L) (hb':gu u' b T L') (hl:L'.length=L.length) (hv:T=5->∀(i:Nat) (x:UInt8),L[i]? =some (yf x)->∃y:UInt8,L'[i]? =some (yf y)):Shp w u':=h.trans λc U M a=>by
 by_cases e:c=b
 ·subst e
  obtain⟨rfl,rfl⟩:=a.uniq hb
  exact⟨L',hb',hl,hv⟩
 exact⟨M,a.g9 hE e,Z,λ_ _ x h=>⟨x,h⟩⟩
theorem Shp.new {w u u':World} {b:Nat} (h:Shp w u) (hE:Ext (One b) u u') (hb:w.heap.size<=b):Shp w u':=λc U M a=>by
 obtain⟨d,f,g,i⟩:=h c U M a
 exact⟨d,f.g9 hE (λe=>by have:=a.lt;omega),g,i⟩
def OwnX (w : World) (p : Option Addr) (n c T sz : Nat) : Prop := ∃ xs, Own w p n c T sz xs
theorem OwnX.shp {w u:World} {p:Option Addr} {n c T sz:Nat} (h:OwnX w p n c T sz) (k:Shp w u):OwnX u p n c T sz:=by
 obtain⟨a,h|⟨b,l,d,e,m,f,g,o⟩⟩:=h;exact⟨a,.inl h⟩
 obtain⟨i,j,q,_⟩:=k b T l e;exact⟨_,.inr ⟨b,i,d,j,by omega,f,g,Z⟩⟩
abbrev ObjF (a : vh) : Nat -> Prop := λy => j5 a.lp y \/ j5 a.pp y \/ j5 a.rp y
theorem st_clX {P:Program} {I:u6} {f:Fs} {ops:Array Oper} {o:Oper} {env:Env} {w:World} {K:Env->World->Prop} (hI:I.Ok P) {s:ClArgs} (h:clE I f.n ops env o=some s) {zs:List Value} (hz:cellsOf s.g.zero=zs) (hzl:0<zs.length) (h1:∀v∈zs,v.oneCell'=true) {c T:Nat} (hT:T≠5) (ho:OwnX w s.p s.n c T zs.length)
  (k:∀w',Ext (j5 s.p) w w'->Shp w w'->K env w'):St P f ops o env w K:=by
 obtain⟨r,ho⟩:=ho;refine st_cl hI h hz hzl h1 (λ_=>k w (Ext.refl _ _) (Shp.refl _)) λt=>?_;rcases ho with⟨_,u,_⟩|⟨b,l,i,j,q,a,x,z⟩;omega;refine⟨b,0,T,l,i,j,?_,λw' d m A=>k w' (m.mono λy _ e=>?_) ((Shp.refl w).one m j d (x4 _ _ _) λe=>absurd e hT)⟩;rw[q,aX];exact cQ _ a;have e:y=b:=e;rw[i,e]
abbrev overS : Str := [111, 118, 101, 114]
theorem scratch_calls (w:World) {x:jr} {a:vh} (hx:vn x) (hl:OwnX w a.lp x.leaves.length a.lc 148 33) (hp:OwnX w a.pp x.parents.length a.pc 30 32) (hr:OwnX w a.rp x.rows.length a.rc 150 3) (h1:x.leaves.length<1000000000) (h2:x.parents.length<1000000000) (h3:x.rows.length<1000000000):
  ge prog 81 [.agg (js x a).toArray] w λv w'=>v= .tuple #[]/\Ext (ObjF a) w w'/\Shp w w':=by
 obtain⟨lp,lc,pp,pc,rp,rc⟩:=a;dsimp only at hl hp hr;refine gt func81 ?_;have g:=Ext.refl (ObjF ⟨lp,lc,pp,pc,rp,rc⟩) w;have c:=Shp.refl w;refine ki (gn Z λt J K b p=>?_);have c:=c.no p;have g:=g.g4 p;have b:gu J t 37 (js x ⟨lp,lc,pp,pc,rp,rc⟩):=b;refine qi (gh (jy Z (gj Z (b.kc.obj hx).leaves (k9 Z (j0 (ja (α:=Nat) [1,6] Z (λz=>[(7,.int .i64 (z:Int))]) (λz u=>(z<=x.leaves.length/\Shp w u)/\gu u t 37 (js x ⟨lp,lc,pp,pc,rp,rc⟩)/\Ext (ObjF ⟨lp,lc,pp,pc,rp,rc⟩) w u) (λz u=>x.leaves.length-z) (0) Z ⟨⟨aF _,c⟩,b,g⟩ ?_))))));rintro i Q ⟨⟨A,c⟩,b,g⟩;refine uz Z (jc Z (λB=>?_) (λB=>?_));have A:i<x.leaves.length:=by omega
 obtain⟨M,l⟩:=hl.shp c;obtain⟨bl,L,e,d,C,m,D,E⟩:=l.opened zo;subst e;refine yz (jn Z (xt Z (gj Z (b.kc.obj hx).leaves (gv g5 Z (jv Z ⟨⟨Z,by decide⟩,trivial⟩ (l':=ji.cells ⟨overS,B1⟩) zk (jo Z 33 Z i Z A (0+i*33) Z ?_))))));rw[aX];have f:=d;have j:=g;refine wl (Bw g5 d Z (by rw[j4];rfl) (by show i*33+33<=_;rw[C];have:=cQ 33 m;omega) (by rw[j4];exact OneC.h) λR d n N=>?_);have b:=b.g9 n (b.ne f zd);have g:=j.trans n λy H q=> .inl (by rw[show y=bl from q]);have c:=c.one n f d (x4 _ _ _) (λe=>absurd e zd);refine ga (yt Z ?_);rw[jt _ zo];refine ga ?_;exact j9 (i+1) Z ⟨⟨A,c⟩,b,g⟩ zf;refine vw (ke (ke (qu (jh (jy Z (gj Z (b.kc.obj hx).parents ?_))))));have j:=g;obtain⟨O,r⟩:=hp.shp c;refine wl (st_clX g5 Z A0.symm zd OneC.h zd ⟨O,r⟩ λS s F=>?_);have b:=b.jq r s zd;have c:=c.trans F;have g:=j.trans s λy H q=> .inr (.inl q);refine qi (jy Z (gj Z (b.kc.obj hx).rows (k9 Z (j0 (ja (α:=Nat) [1,21] Z (λz=>[(22,.int .i64 (z:Int))]) (λz u=>(z<=x.rows.length/\Shp w u)/\gu u t 37 (js x ⟨lp,lc,pp,pc,rp,rc⟩)/\Ext (ObjF ⟨lp,lc,pp,pc,rp,rc⟩) w u) (λz u=>x.rows.length-z) (0) Z ⟨⟨aF _,c⟩,b,g⟩ ?_)))));rintro k T ⟨⟨G,c⟩,b,g⟩;refine uz Z (jc Z (λB=>?_) (λB=>?_));have G:k<x.rows.length:=by omega
 obtain⟨M,l⟩:=hr.shp c;obtain⟨bl,L,e,d,C,m,D,E⟩:=l.opened zo;subst e;refine yz (jn Z (xt Z (gj Z (b.kc.obj hx).rows (gv g5 Z (jv Z ⟨⟨Z,by decide⟩,trivial⟩ (l':=uw.cells ⟨overS,false,[]⟩) zk (jo Z 3 Z k Z G (0+k*3) Z ?_))))));rw[aX];have f:=d;have j:=g;refine wl (Bw g5 d Z (by rw[j4];rfl) (by show k*3+3<=_;rw[C];have:=cQ 3 m;omega) (by rw[j4];exact OneC.h) λU d o P=>?_);have b:=b.g9 o (b.ne f zd);have g:=j.trans o λy H q=> .inr<| .inr (by rw[show y=bl from q]);have c:=c.one o f d (x4 _ _ _) (λe=>absurd e zd);refine ga (yt Z ?_);rw[jt _ zo];refine ga ?_;exact j9 (k+1) Z ⟨⟨G,c⟩,b,g⟩ zf;refine vw (ke (ke (qu (yq Z ?_))));exact⟨Z,g,c⟩
structure xz1 (u : World) (x : jr) (a : vh) : Prop where
  l : OwnX u a.lp x.leaves.length a.lc 148 33
  p : OwnX u a.pp x.parents.length a.pc 30 32
  r : OwnX u a.rp x.rows.length a.rc 150 3
theorem xz1.of {W u : World} {x : jr} {a : vh} (h : qs W u x a) : xz1 u x a := ⟨⟨_, h.ol⟩, ⟨_, h.op⟩, ⟨_, h.or⟩⟩
theorem xz1.shp {w u : World} {x : jr} {a : vh} (h : xz1 w x a) (k : Shp w u) : xz1 u x a := ⟨h.l.shp k, h.p.shp k, h.r.shp k⟩
theorem OwnX.ne {u:World} {p:Option Addr} {n c T sz b U:Nat} {L:List Value} (h:OwnX u p n c T sz) (hb:gu u b U L) (hT:T≠U):¬j5 p b:=λe=>by
 obtain⟨d,h⟩:=h
 obtain⟨l,a⟩:=h.Cm e
 exact hT (a.uniq hb).2
theorem xz1.ne {u:World} {x:jr} {a:vh} (h:xz1 u x a) {b T:Nat} {L:List Value} (hb:gu u b T L) (h1:148≠T) (h2:30≠T) (h3:150≠T):¬ObjF a b:=λe=>e.elim (h.l.ne hb h1) λe=>e.elim (h.p.ne hb h2) (h.r.ne hb h3)
theorem xz1.keep {W u u':World} {x:jr} {a:vh} (h:xz1 u x a) {p:Option Addr} {n c T sz:Nat} {xs:List Value} (k:jj W u p n c T sz xs) (hE:Ext (ObjF a) u u') (h1:148≠T) (h2:30≠T) (h3:150≠T):jj W u' p n c T sz xs:=
 ⟨k.own.ext hE λy b=>by obtain⟨l,d⟩:=k.own.Cm b;exact h.ne d h1 h2 h3,k.new⟩
def BytX (u : World) (p : Option Addr) (n : Nat) : Prop := n = 0 \/ ∃ b L, p = some ⟨b, 0, none⟩ /\ gu u b 5 L /\ ∀ i, i < n -> ∃ x : UInt8, L[i]? = some (yf x)
theorem BytX.shp {w u:World} {p:Option Addr} {n:Nat} (h:BytX w p n) (k:Shp w u):BytX u p n:=h.imp id λ⟨b,L,a,c,d⟩=>by
 obtain⟨f,g,_,j⟩:=k b _ L c
 exact⟨b,f,a,g,λi l=>by obtain⟨x,e⟩:=d i l;exact j Z i x e⟩
theorem BytX.of {W u:World} {p:Option Addr} {c:Nat} {l:Bytes} (h:jj W u p l.length c 5 1 (g6 l)):BytX u p l.length:=by
 rcases h.own with⟨_,a,_⟩|⟨b,L,d,f,k,m,_,g⟩;exact .inl a;refine .inr ⟨b,L,d,f,λi j=>⟨l[i],?_⟩⟩;have e:=bytesU_get l j;rw[<-g,List.getElem?_take] at e;rw[aM zo] at e;exact e
structure zj9 (W u : World) (s : yb) : Prop where
  row : jj W u s.rp s.hs.length s.rc 126 105 (s.hs.flatMap ut)
  vals : jj W u s.vp s.vs.length s.vc 221 2 (s.vs.flatMap ui)
  o : ∀ x ∈ s.hs, yo W u x
  v : ∀ x ∈ s.vs, jj W u x.2.1 x.1.2.length x.2.2 5 1 (g6 x.1.2) /\ x.1.1.length < 1000000000 /\ x.1.2.length < 1000000000
  few : s.hs.length < 1000000
  fev : s.vs.length < 1000000
theorem zj9.at {W u:World} {s:yb} (h:zj9 W u s):C8 u s:=⟨h.row.sl,h.vals.sl,λx a=>⟨(h.o x a).id,(h.o x a).ok,(h.o x a).new.l⟩,λx a=>⟨(h.v x a).1.sl,(h.v x a).2.1,(h.v x a).2.2⟩,h.few,h.fev⟩
theorem wrap_byte1 (x:UInt8):IntKind.u8.wrap ((x.toNat:Int)+1)=((UInt8.ofNat (x.toNat+1)).toNat:Int):=zz7 (x:=(x.toNat:Int)+1) zo
theorem sspoil_calls (w:World) {W:World} {s:yb} (hs:zj9 W w s) (hW:W.heap.size<=w.heap.size):
  ge prog 86 [s.v] w λv w'=>v= .tuple #[]/\Ext (λy=>W.heap.size<=y) w w':=by
 have aw:=hs.few;have ax:=hs.fev;have H:∀x∈s.hs,xz1 w x.o x.a:=λx Y=>xz1.of (hs.o x Y).new;have af:∀x∈s.vs,BytX w x.2.1 x.1.2.length:=λx Y=>BytX.of (hs.v x Y).1;have g:=hs.row;have b:=hs.vals;refine gt func86 ?_;have m:=Ext.refl (λy=>W.heap.size<=y) w;have f:=Shp.refl w;refine ki (gn Z λb1 w1 az d J=>?_);have f:=f.no J;have g:=g.g0 J;have b:=b.g0 J;have m:=m.g4 J;have d:gu w1 b1 102 (s.c):=d;refine qi (gh (jy Z (j3 d Z Z (k9 Z (j0 (ja (α:=Nat) [1,8,9] Z (λz=>[(10,.int .i64 (z:Int))]) (λz u=>(z<=s.hs.length/\jj W u s.rp s.hs.length s.rc 126 105 (s.hs.flatMap ut)/\jj W u s.vp s.vs.length s.vc 221 2 (s.vs.flatMap ui)/\Shp w u)/\gu u b1 102 (s.c)/\Ext (λy=>W.heap.size<=y) w u) (λz u=>s.hs.length-z) (0) Z ⟨⟨aF _,g,b,f⟩,d,m⟩ ?_))))));rintro i w2 ⟨⟨hi,g,b,f⟩,d,m⟩;refine uz Z (jc Z (λI=>?_) (λI=>?_));have t:i<s.hs.length:=by omega
 obtain⟨qb,qo,hp,R⟩:=g.sl.km (λx Y=>(hs.o x Y).len) zo;rw[hp];have n:=hs.o _ (aC t);have ag:uc s.hs[i].id:=by rw[n.id];exact qm _
 refine yz (ki (jo Z 105 Z i Z t (qo+i*105) Z (je Z (R i t) n.len ?_)));have S:=g;have T:=m.size;refine gn Z λb3 w3 K L C=>?_;have U:=gw d.lt K;have ah:=Nat.le_trans m.size K;have d:=d.g0 C;have f:=f.no C;have g:=g.g0 C;have b:=b.g0 C;have m:=m.g4 C;have ai:∀y,j5 s.rp y->y≠b3:=λy D=>gw (S.own.lt D) K;have aa:w.heap.size<=b3:=Nat.le_trans T K;have ab:=L;refine wl (gz (l':=ut s.hs[i]) g5 L Z Z n.len (by rw[n.len];rfl) OneC.h λw4 L E a0=>?_);have d:=d.g9 E U;have f:=f.new E aa;have g:=jj.mk (g.own.ext E λy D e=>ai y D e) g.new;have b:=b.g9 E ab zd;have m:=m.g8 E ah;refine qi (xt Z (je Z (by have e:=(Seg.append.1 L.kc).2;rw[gb,ag] at e;exact e) (gi n.ok.1) ?_));have V:=(H _ (aC t)).shp f;have aj:=m;refine g7 call81 Z (scratch_calls w4 n.ok.1 ((H _ (aC t)).shp f).l ((H _ (aC t)).shp f).p ((H _ (aC t)).shp f).r (by have:=n.ok.2.leaves;omega) (by have:=n.ok.2.parents;omega) (by have:=n.ok.2.rows;omega)) ?_;rintro v5 w5⟨rfl,M,am⟩;have d:=d.ext M (V.ne d zd zd zd);have g:=V.keep g M zd zd zd;have b:=V.keep b M zd zd zd;have f:=f.trans am;have m:=aj.trans M λy D e=>e.elim (n.new.nl y) λe=>e.elim (n.new.np y) (n.new.nr y);refine ga (yt Z ?_);rw[jt _ zo];refine ga ?_;exact j9 (i+1) Z ⟨⟨t,hp▸g,b,f⟩,d,m⟩ zf;refine vw (ke (ke (qu (jh (jy Z (j3 d Z Z (k9 Z (j0 (ja (α:=Nat) [19,20] Z (λz=>[(21,.int .i64 (z:Int))]) (λz u=>(z<=s.vs.length/\jj W u s.vp s.vs.length s.vc 221 2 (s.vs.flatMap ui)/\Shp w u)/\gu u b1 102 (s.c)/\Ext (λy=>W.heap.size<=y) w u) (λz u=>s.vs.length-z) (0) Z ⟨⟨aF _,b,f⟩,d,m⟩ ?_)))))))));rintro j w6 ⟨⟨hj,b,f⟩,d,m⟩;refine uz Z (jc Z (λI=>?_) (λI=>?_));have F:j<s.vs.length:=by omega
 obtain⟨qb,qo,hp,R⟩:=b.sl.km (λx _=>xz x) zo;rw[hp];have an:=hs.v _ (aC F);refine yz (ki (jo Z 2 Z j Z F (qo+j*2) Z (je Z (R j F) Z ?_)));have S:=b;have T:=m.size;refine gn Z λb5 w7 N q O=>?_;have X:=gw d.lt N;have ap:=Nat.le_trans m.size N;have d:=d.g0 O;have f:=f.no O;have b:=b.g0 O;have m:=m.g4 O;have aq:∀y,j5 s.vp y->y≠b5:=λy D=>gw (S.own.lt D) N;have ac:w.heap.size<=b5:=Nat.le_trans T N;refine wl (gz (l':=ui s.vs[j]) g5 q Z Z Z Z OneC.h λw8 q P a1=>?_);have d:=d.g9 P X;have f:=f.new P ac;have b:=jj.mk (b.own.ext P λy D e=>aq y D e) b.new;have m:=m.g8 P ap;refine qi (jy Z (j3 q Z Z (k9 Z (j0 (ja (α:=Nat) [5,19,20,21,27] Z (λz=>[(28,.int .i64 (z:Int))]) (λz u=>(z<=s.vs[j].1.2.length/\jj W u s.vp s.vs.length s.vc 221 2 (s.vs.flatMap ui)/\Shp w u)/\gu u b1 102 (s.c)/\gu u b5 221 (ui s.vs[j])/\Ext (λy=>W.heap.size<=y) w u) (λz u=>s.vs[j].1.2.length-z) (0) Z ⟨⟨aF _,b,f⟩,d,q,m⟩ ?_)))));rintro k w9 ⟨⟨hk,b,f⟩,d,q,m⟩;refine uz Z (jc Z (λI=>?_) (λI=>?_));have Q:k<s.vs[j].1.2.length:=by omega
 rcases(af _ (aC F)).shp f with h0|⟨bx,Lx,ad,G,ar⟩;exact absurd h0 zo;obtain⟨x0,ae⟩:=ar k Q;have hkl:k<Lx.length:=by have:=(cU.1 ae).1;exact this
 have a2:W.heap.size<=bx:=an.1.new bx ad;have au:(ui s.vs[j])[1]? =some (.slice (some ⟨bx,0,none⟩) s.vs[j].1.2.length s.vs[j].2.2):=by rw[<-ad];rfl
 refine yz (jn Z (xt Z (gj Z (q.cell au) (gv g5 Z (jo Z 1 Z k Z Q (0+k*1) Z ?_)))));rw[aX,aY];refine gj Z (G.cell ae) (gv g5 Z ?_);rw[wrap_byte1];refine jo Z 1 Z k Z Q (0+k*1) Z ?_;rw[aX,aY];have B:=G;have av:=m;refine wl (uh g5 G Z Z hkl λa3 G A ay=>?_);have d:=d.g9 A (d.ne B zd);have q:=q.g9 A (q.ne B zd);have b:=b.g9 A B zd
 have f:=f.one A B G (List.length_set ..) (λ_ i y D=>by
  rw[List.getElem?_set]
  split
  exact⟨_,Z⟩
  exact⟨y,D⟩)
 have m:=av.trans A λy D e=>by have e:y=bx:=e;omega
 refine ga (yt Z ?_);rw[jt _ zo];refine ga ?_;exact j9 (k+1) Z ⟨⟨Q,b,f⟩,d,q,m⟩ zf;refine vw (ke (ke (qu (yt Z ?_))));rw[jt _ zo];refine ga ?_;exact j9 (j+1) Z ⟨⟨F,hp▸b,f⟩,d,m⟩ zf;refine vw (ke (ke (qu (yq Z ?_))));exact⟨Z,m⟩
def Ck (k : Nat) : IdB := [UInt8.ofNat (k % 256), UInt8.ofNat (k / 256)] ++ List.replicate 30 0
theorem freeI_len (k : Nat) : uc (Ck k) := rfl
theorem u8_inj {a b:Nat} (ha:a<256) (hb:b<256) (h:UInt8.ofNat a=UInt8.ofNat b):a=b:=by
 have:=congrArg UInt8.toNat h;rwa [UInt8.toNat_ofNat',UInt8.toNat_ofNat',Nat.mod_eq_of_lt ha,Nat.mod_eq_of_lt hb] at this
theorem freeI_inj {i j:Nat} (hi:i<65536) (hj:j<65536) (h:Ck i=Ck j):i=j:=by
 have h:=List.append_inj_left h Z;have a:=u8_inj (Nat.mod_lt _ zd) (Nat.mod_lt _ zd) (List.cons.inj h).1;have b:=u8_inj zo zo (List.cons.inj (List.cons.inj h).2).1;omega
theorem len_of_sub {α:Type} [DecidableEq α]:∀{l m:List α},l.Nodup->(∀x∈l,x∈m)->l.length<=m.length
 | [],_,_,_=>aF _
 |a::l,m,hd,hs=>by
  have hd:=List.nodup_cons.1 hd
  have b:=hs a (dE ..)
  have d:=len_of_sub (l:=l) (m:=m.erase a) hd.2 λx c=>(List.mem_erase_of_ne (λe:x=a=>hd.1 (by rw[<-e];exact c))).2 (hs x (cL _ c))
  have e:=List.length_erase_of_mem b
  have:0<m.length:=List.length_pos_of_mem b
  rw[aR]
  omega
theorem free_le {ids:List IdB} {k:Nat} (hk:k<65536) (h:∀j,j<k->Ck j∈ids):k<=ids.length:=by
 have e:=len_of_sub (l:=(List.range k).map Ck) (m:=ids) (List.Pairwise.map _ (R:=λa b=>a≠b/\a<65536/\b<65536) (λa b e c=>e.1 (freeI_inj e.2.1 e.2.2 c)) (List.Pairwise.imp_of_mem (λ{a b} d f e=>⟨e,by have:=List.mem_range.1 d;omega,by have:=List.mem_range.1 f;omega⟩) List.nodup_range)) λx g=>by obtain⟨j,i,rfl⟩:=bL.1 g;exact h j (List.mem_range.1 i)
 simpa using e
theorem free_get0 (k : Nat) : (g6 (Ck k))[0]? = some (yf (UInt8.ofNat (k % 256))) := rfl
def freeJ (k : Nat) : IdB := [UInt8.ofNat (k % 256 + 1), UInt8.ofNat (k / 256)] ++ List.replicate 30 0
theorem free_same {k:Nat} (h:UInt8.ofNat (k%256+1)≠0):freeJ k=Ck (k+1):=by
 have b:k%256+1<256:=by
  rcases aZ (k%256+1) 256 with a|a;exact a;have:k%256+1=256:=by have:=Nat.mod_lt k (by decide:0<256);omega
  rw[this] at h;exact absurd Z h
 unfold freeJ Ck;rw[show(k+1)%256=k%256+1 from by omega,show(k+1)/256=k/256 from by omega]
theorem free_next {k:Nat} (h:UInt8.ofNat (k%256+1)=0):[UInt8.ofNat (k%256+1),UInt8.ofNat (k/256+1)]++List.replicate 30 0=Ck (k+1):=by
 have c:k%256+1=256:=by have d:=Nat.mod_lt k (by decide:0<256);rcases aZ (k%256+1) 256 with a|a;have:=u8_inj (b:=0) a zd h;omega;omega
 unfold Ck;rw[show(k+1)%256=0 from by omega,show(k+1)/256=k/256+1 from by omega,c];rfl
theorem u8_succ (a:Nat):UInt8.ofNat ((UInt8.ofNat a).toNat+1)=UInt8.ofNat (a+1):=by
 apply UInt8.toNat_inj.1;rw[UInt8.toNat_ofNat',UInt8.toNat_ofNat',UInt8.toNat_ofNat'];omega
theorem ids_nodup:∀{l b:List jr},Ahead b l->(∀o∈l,xj o∉u1 b)/\(u1 l).Nodup
 | [],_,_=>⟨λ_ h=>(by cases h),List.nodup_nil⟩
 |o::r,b,h=>by
  obtain⟨h1,h2⟩:=h
  obtain⟨c,d⟩:=ids_nodup h2
  have e:u1 (b++[o])=u1 b++[xj o]:=by simp[u1]
  refine⟨λx a=>(dK.1 a).elim (λe=>e▸h1.1) λa f=>c x a (by rw[e];exact List.mem_append_left _ f),List.nodup_cons.2 ⟨λg=>?_,d⟩⟩
  obtain⟨x,a,i⟩:=bL.1 g
  exact c x a (by rw[e,i];exact List.mem_append_right _ (aE.2 Z))
theorem ids_inj {l:List jr} (h:(u1 l).Nodup) {x y:jr} (hx:x∈l) (hy:y∈l) (e:xj x=xj y):x=y:=by
 induction l with
 |nil=>cases hx
 |cons a r ih=>
  have h:=List.nodup_cons.1 (show(xj a::u1 r).Nodup from h);rcases dK.1 hx with rfl|b<;>rcases dK.1 hy with rfl|c;rfl;exact(h.1 (by rw[e];exact cI c)).elim;exact(h.1 (by rw[<-e];exact cI b)).elim;exact ih h.2 b c
theorem val_at {l:List yp} (h:Au l) {i:Nat} (hi:i<l.length):A5 l l[i].1=some l[i].2:=by
 unfold A5
 obtain⟨v,b⟩:∃v,l.find? (λv=>decide (v.1=l[i].1))=some v:=by
  cases e:l.find? (λv=>decide (v.1=l[i].1)) with
  |some v=>exact⟨v,Z⟩
  |none=>
   have:=List.find?_eq_none.1 e _ (aC hi);simp at this
 have a:=List.find?_some b;have g:=List.mem_of_find?_eq_some b;obtain⟨j,d,rfl⟩:=bF.1 g;have a:l[j].1=l[i].1:=cD a;have f:=List.pairwise_iff_getElem.1 h;have c:j=i:=by rcases Nat.lt_trichotomy j i with k|k|k;have:=f j i d hi k;rw[a] at this;exact absurd this (yj3 _);exact k;have:=f i j hi d k;rw[a] at this;exact absurd this (yj3 _)
 subst c;rw[b];rfl
theorem row_at {row:List jr} {gs:List jk} (hm:gs.map jk.o=row) {i:Nat} (hi:i<gs.length):gs[i].o∈row:=by
 rw[<-hm];exact cI (aC hi)
theorem take_succ_map {α β:Type} (f:α->β) (l:List α) {i:Nat} (hi:i<l.length):(l.take (i+1)).map f=(l.take i).map f++[f l[i]]:=by
 rw[List.take_succ_eq_append_getElem hi,bE];rfl
theorem namedZc : cellsOf ti221.zero = [z9 [], .slice none 0 0] := by kernel_rfl
theorem xj4 (x : x5) : yk (Cl 1 [z9 [], .slice none 0 0]) [(0 * (0 + 2), 0 + 2, .agg (ui x).toArray)] = ui x := rfl
theorem free_getJ (k : Nat) : (g6 (freeJ k))[0]? = some (yf (UInt8.ofNat (k % 256 + 1))) := rfl
theorem free_getK (k : Nat) : (g6 (freeJ k))[1]? = some (yf (UInt8.ofNat (k / 256))) := rfl
abbrev longS : Str := [97, 32, 110, 97, 109, 101, 32, 116, 104, 97, 116, 32, 105, 115, 32, 108, 111, 110, 103, 101, 114, 32, 116, 104, 97, 110, 32, 97, 110, 121, 32, 116, 104, 97, 116, 32, 116, 104, 101, 114, 101, 32, 105, 115]
theorem val_long {s:C3} (h:s.Ok):A5 s.vals longS=none:=by
 unfold A5
 rw[List.find?_eq_none.2 λv a e=>by
  have e:v.1=longS:=cD e
  have k:=(h.vals v a).2.1
  rw[e] at k
  exact absurd k zd]
 rfl
theorem tells_calls (w:World) {sp x d:Nat} {F H K:Nat->Prop} {X:Sd} {h:ua} (k:StA w sp x d F H K X h) (hS:C3.Ok X.s) (hfew:X.s.row.length<60000):
  ge prog 44 [.pointer (some ⟨sp,0,none⟩)] w λv w'=>∃S:yb,v= .tuple #[S.v,.bool true]/\S.s.row=X.s.row/\S.s.vals=X.s.vals/\zj9 w w' S/\Ext No w w':=by
 have ca:=(ids_nodup hS.ahead).2;refine gt func44 ?_;have g:=Ext.refl No w;refine ki (gn Z λb2 w1 c6 b c7=>?_);have bx:=Nat.le_trans g.size c6;have g:=g.g4 c7;have b:gu w1 b2 102 ([.slice none 0 0,.slice none 0 0]):=b;refine k9 Z (uz Z (jy Z ?_));have c8:=g;refine g7 call19 Z (sheap_calls w1 (k.g0 g)) ?_;rintro v2 w2⟨gq,gc,C,rfl,cb,ay,P,cc⟩;have b:=b.g0 cc;have g:=g.g4 cc;have ef:C.length=X.s.row.length:=by rw[<-ay,aB]
 obtain⟨wL,bf⟩:∃wL:World,wL=w2:=⟨_,Z⟩
 have E:Ext (One b2) wL w2:=by rw[bf];exact Ext.refl _ _
 have ak:=b;rw[<-bf] at ak;rw[<-bf] at cb P;have cd:w.heap.size<=wL.heap.size:=by rw[bf];exact g.size
 refine wl (st_fd g5 Z Z (k9 Z (j0 (ja (α:=Nat×Option Addr×Nat) [0,2,19,20] Z (λz=>[(3,.bool true),(21,.int .i64 (z.1:Int))]) (λz u=>(z.1<=C.length/\jj wL u z.2.1 (C.take z.1).length z.2.2 126 105 ((C.take z.1).flatMap ut)/\Ext (One b2) wL u)/\gu u b2 102 ([.slice z.2.1 (C.take z.1).length z.2.2,.slice none 0 0])/\Ext No w u) (λz u=>C.length-z.1) (0,none,0) Z ⟨⟨aF _,jj.nil _ _ _ _,E⟩,b,g⟩ ?_))));rintro⟨i,q,c⟩ w3 ⟨⟨hi,B,E⟩,b,g⟩;try dsimp only
 dsimp only at hi B b;refine uz Z (jc Z (λhc=>?_) (λhc=>?_));have ag:i<C.length:=by omega
 obtain⟨qb,qo,hp,da⟩:=(cb.g9 E ak zd).sl.km (λx A=>(P x A).len) zo;rw[hp];have Q:=P _ (aC ag);have bz:uc C[i].id:=by rw[Q.id];exact qm _
 have eg:(C.take i).length=i:=by rw[aK];omega
 refine yz (ki (jo Z 105 Z i Z ag (qo+i*105) Z (je Z (da i ag) Q.len ?_)));have db:=B;have ce:=E;refine gn Z λb5 w4 bg G bh=>?_;have b1:=gw b.lt bg;have dc:=Nat.le_trans g.size bg;have b:=b.g0 bh;have B:=B.g0 bh;have E:=E.g4 bh;have g:=g.g4 bh;have dd:∀y,j5 q y->y≠b5:=λy hy=>gw (db.own.lt hy) bg;have cf:=Nat.le_trans ce.size bg;refine wl (gz (l':=ut C[i]) g5 G Z Z Q.len (by rw[Q.len];rfl) OneC.h λw5 G bi eh=>?_);have b:=b.g9 bi b1;have B:=jj.mk (B.own.ext bi λy hy e=>dd y hy e) B.new;have E:=E.g8 bi cf;have g:=g.g8 bi dc;refine qi (jy Z (je Z (Seg.append.1 G.kc).1 bz.len ?_));obtain⟨wk,b4⟩:∃wk:World,wk=w5:=⟨_,Z⟩
 have M:Ext No wk w5:=by rw[b4];exact Ext.refl _ _
 have cg:=B;have bp:=b;have bq:=G;have az:=E;have br:=g;rw[<-b4] at cg bp bq az br;refine g7 call10 Z (sget_calls w5 (k.g0 g) (id:=C[i].id) bz) ?_;rintro v6 w6⟨o,a,rfl,ch,ci,bj⟩;have b:=b.g0 bj;have G:=G.g0 bj;have M:=M.g4 bj;have g:=g.g4 bj;have bs:C[i].id∈u1 X.s.row:=by rw[Q.id];exact cI (row_at ay ag)
 obtain⟨df,dg,R,hN⟩:=ch bs;have dh:o=C[i].o:=ids_inj ca df (row_at ay ag) (by rw[dg,Q.id]);subst dh;rw[aM bs];rw[<-b4] at hN;refine gv g5 Z ?_;have cj:=M;refine gn Z λb6 w7 bk ad a0=>?_;have b7:=gw b.lt bk;have b8:=gw G.lt bk;have di:=Nat.le_trans g.size bk;have b:=b.g0 a0;have G:=G.g0 a0;have M:=M.g4 a0;have hN:=hN.g0 a0;have g:=g.g4 a0;have ck:=Nat.le_trans cj.size bk;have cm:=ad;refine wl (gz (l':=js C[i].o a) g5 ad Z Z (gi R.1) (by rw[gi R.1];rfl) OneC.h λw8 ad a1 ei=>?_);have b:=b.g9 a1 b7;have G:=G.g9 a1 b8;have M:=M.g8 a1 ck;have hN:=hN.g9 a1 cm zd zd zd;have g:=g.g8 a1 di;refine k9 Z (jb (α:=Unit) [0,2,5,6,19,20,21] Z (λz=>[(3,.bool true)]) (λz u=>(qs wk u C[i].o a/\Ext No wk u)/\gu u b2 102 ([.slice q (C.take i).length c,.slice none 0 0])/\gu u b5 126 (ut C[i])/\gu u b6 37 (js C[i].o a)/\Ext No w u) ?_ ?_);refine gr (gv g5 Z (qy 33 Z (λhg=>?_) (λhg=>?_)));refine gm g5 4 Z (j7 37 Z (λhg=>?_) (λhg=>?_));refine j8 ad Z (gi R.1) (gm g5 1 Z (je Z (by have e:=(Seg.append.1 G.kc).2;rw[gb,bz] at e;exact e) (gi R.1) (g7 call17 Z (xq8 w8 R.1 Q.ok.1 hN.l (((P _ (aC ag)).g9 (az.g4 M) ak zd zd zd).new.l) R.2) ?_)));rintro v9 w9⟨rfl,au⟩;have b:=b.g0 au;have G:=G.g0 au;have ad:=ad.g0 au;have M:=M.g4 au;have hN:=hN.g0 au;have g:=g.g4 au;rw[bN Z];refine gv g5 Z (ga ?_);exact gk (()) Z ⟨⟨hN,M⟩,b,G,ad,g⟩;exact absurd Z hg;cases hg;rintro _ dk ⟨⟨hN,M⟩,b,G,ad,g⟩;refine ki (j8 ad Z (gi R.1) (g7 call81 Z (scratch_calls dk R.1 ⟨_,hN.ol⟩ ⟨_,hN.op⟩ ⟨_,hN.or⟩ (by have:=R.2.leaves;omega) (by have:=R.2.parents;omega) (by have:=R.2.rows;omega)) ?_));rintro ej dm⟨rfl,cq,_⟩;have a2:Ext No wk dm:=M.newer cq λy e=>e.elim (hN.nl y) λe=>e.elim (hN.np y) (hN.nr y);have B:=cg.g0 a2;have b:=bp.g0 a2;have G:=bq.g0 a2;have E:=az.g4 a2;have g:=br.g4 a2;refine qi (xt Z (j3 b Z Z (j8 G Z Q.len (wl (kz g5 Z 105 Z yj2 (by rw[al,gb,gi ky];rfl) zd zd ⟨⟨by rw[j4];exact Q.len,by decide⟩,trivial⟩ (l':=ut C[i]) (one_held (h:=C[i]) Q.len) λdn ek d5 cr am d6=>?_)))));have b:=b.g0 am;have B:=B.g0 am;have E:=E.g4 am;have g:=g.g4 am;have dp:=g;have dq:=B.new;have dr:=B.own;refine wl (vu g5 Z 105 224 Z Z Z zd B (Src.slice (m:=1) ⟨Q.len,.inr ⟨dn,0,Z,cr.kc⟩⟩ OneC.h) zm zn (n':=(C.take (i+1)).length) (ys:=(C.take (i+1)).flatMap ut) (by dsimp only;rw[aK,aK];omega) (by rw[List.take_succ_eq_append_getElem ag,aQ,bB]) E λq c em B a3 cs=>?_);dsimp only at B a3;have b:=b.jq dr a3 (show(126:Nat)≠102 from by decide);have E:=cs;have g:=dp.newer a3 λy hy=>Nat.le_trans cd (dq y hy);refine gv g5 Z ?_;have D:=b;have ct:=E;refine ka b Z Z Z λds b a4 d7=>?_;have B:=B.g9 a4 D zd;have g:=g.g8 a4 bx;have b:gu ds b2 102 ([.slice q (C.take (i+1)).length c,.slice none 0 0]):=b;have E:=ct.then a4;refine ga (yt Z ?_);rw[jt _ zo];refine ga ?_;exact j9 (i+1,q,c) Z ⟨⟨ag,B,E⟩,b,g⟩ zf;have h0:i=C.length:=by omega
 subst h0;rw[bC] at B b;have f:∀x∈C,yo w w3 x:=λx A=>by have e:=(P x A).g9 E ak zd zd zd;exact⟨e.id,e.ok,e.new.older c8.size⟩
 have B:=B.older cd;refine zu (gh (jy Z ?_));have cu:=g;refine g7 call18 Z (snames_calls w3 (k.g0 g)) ?_;rintro en ep⟨qn,cn,rfl,hn,an⟩;have b:=b.g0 an;have B:=B.g0 an;have f:=λx A=>(f x A).g0 an;have g:=g.g4 an;have hn:=hn.older (V:=w) cu.size;have eq:=hS.few;refine k9 Z (j0 (ja (α:=Nat×Option Addr×Nat×List x5) [0,2,53,54] Z (λz=>[(3,.bool true),(55,.int .i64 (z.1:Int))]) (λz u=>((z.1<=X.s.vals.length/\z.2.2.2.map Prod.fst=X.s.vals.take z.1)/\jj w u z.2.1 z.2.2.2.length z.2.2.1 221 2 (z.2.2.2.flatMap ui)/\(∀x∈z.2.2.2,jj w u x.2.1 x.1.2.length x.2.2 5 1 (g6 x.1.2)/\x.1.1.length<1000000000/\x.1.2.length<1000000000)/\jj w u q C.length c 126 105 (C.flatMap ut)/\(∀x∈C,yo w u x)/\jj w u qn X.s.vals.length cn 9 1 (X.s.vals.map nmV))/\gu u b2 102 ([.slice q C.length c,.slice z.2.1 z.2.2.2.length z.2.2.1])/\Ext No w u) (λz u=>X.s.vals.length-z.1) (0,none,0,[]) Z ⟨⟨⟨aF _,Z⟩,jj.nil _ _ _ _,λ_ h=>(by cases h),B,f,hn⟩,b,g⟩ ?_));rintro⟨j,r,e,vs⟩ cw ⟨⟨⟨hj,av⟩,N,t,B,f,hn⟩,b,g⟩;try dsimp only
 dsimp only at hj av N t b;refine uz Z (jc Z (λhc=>?_) (λhc=>?_));have aw:j<X.s.vals.length:=by omega
 rcases hn.sl.2 with h0|⟨qb,qo,hp,dt⟩;omega;have er:vs.length=j:=by have e:=congrArg List.length av;rw[aB,aK] at e;omega
 have cx:=hS.vals _ (aC aw);rw[hp];refine yz (ki (jo Z 1 Z j Z aw (qo+j) (by rw[aY]) (gj Z (dt j _ (by rw[bZ,aS aw];rfl)) ?_)));refine k9 Z (jy Z ?_);have cy:=g;refine g7 call11 Z (yv5 cw (k.g0 g) hS.rise (n:=X.s.vals[j].1)) ?_;rintro es ai⟨r2,e2,b0,rfl,bm,ae,T⟩;have b:=b.g0 T;have B:=B.g0 T;have f:=λx A=>(f x A).g0 T;have hn:=hn.g0 T;have N:=N.g0 T;have t:=λx A=>And.intro ((t x A).1.g0 T) (t x A).2;have g:=g.g4 T;have ae:=ae.older (V:=w) cy.size;have du:=val_at hS.rise aw;rw[du] at bm|-;have bm:b0=X.s.vals[j].2:=bm;subst bm;refine k9 Z (jb (α:=Unit) [0,2,9,10,53,54,55] Z (λz=>[(3,.bool true)]) (λz u=>u=ai) ?_ ?_);refine gr (gv g5 Z (qy 66 Z (λhg=>?_) (λhg=>?_)));refine gm g5 3 Z (ga ?_);exact gk (()) Z Z;cases hg;rintro⟨⟩ et hu;have hu:=hu.symm;subst hu;refine xt Z (j3 b Z Z (gv g5 Z (jv Z ⟨⟨Z,by decide⟩,⟨Z,by decide⟩,trivial⟩ (l':=ui (X.s.vals[j],r2,e2)) Z (wl (kz g5 Z 2 Z namedZc Z zd zd ⟨⟨Z,by decide⟩,trivial⟩ (l':=ui (X.s.vals[j],r2,e2)) (xj4 _) λdv eu d8 c0 O d9=>?_)))));have b:=b.g0 O;have B:=B.g0 O;have f:=λx A=>(f x A).g0 O;have hn:=hn.g0 O;have N:=N.g0 O;have t:=λx A=>And.intro ((t x A).1.g0 O) (t x A).2;have ae:=ae.g0 O;have g:=g.g4 O;have ax:=N.own;refine wl (vu g5 Z 2 40 Z Z Z zd N (Src.slice (m:=1) ⟨Z,.inr ⟨dv,0,Z,c0.kc⟩⟩ OneC.h) zm zn (n':=(vs++[(X.s.vals[j],r2,e2)]).length) (ys:=(vs++[(X.s.vals[j],r2,e2)]).flatMap ui) zh (by rw[aQ,bB]) g λr e ev N U g=>?_);dsimp only at N U;have b:=b.jq ax U (show(221:Nat)≠102 from by decide);have B:=B.Dg ax U zd;have f:=λx A=>(f x A).Dg ax U zd zd zd;have hn:=hn.Dg ax U zd;have t:=λx A=>And.intro ((t x A).1.Dg ax U zd) (t x A).2;have ae:=ae.Dg ax U zd;refine gv g5 Z ?_;have D:=b;refine ka b Z Z Z λdw b W ea=>?_;have B:=B.g9 W D zd;have f:=λx A=>(f x A).g9 W D zd zd zd;have hn:=hn.g9 W D zd;have N:=N.g9 W D zd;have t:=λx A=>And.intro ((t x A).1.g9 W D zd) (t x A).2;have ae:=ae.g9 W D zd;have g:=g.g8 W bx;have b:gu dw b2 102 ([.slice q C.length c,.slice r (vs++[(X.s.vals[j],r2,e2)]).length e]):=b;refine ga (yt Z ?_);rw[jt _ zo];refine ga ?_;exact j9 (j+1,r,e,vs++[(X.s.vals[j],r2,e2)]) Z ⟨⟨⟨aw,by dsimp only;rw[bE,av,List.take_succ_eq_append_getElem aw];rfl⟩,N,λx A=>(aV.1 A).elim (t x) (λe=>by rw[aE.1 e];exact⟨ae,(by have:=cx.2.1;show X.s.vals[j].1.length<_;omega),(by have:=cx.2.2;show X.s.vals[j].2.length<_;omega)⟩),B,f,hp▸hn⟩,b,g⟩ zf;have h0:j=X.s.vals.length:=by omega
 subst h0;rw[bC] at av;refine zu (ki ?_);have a5:=B;have bt:=N;have aj:=t;have L:=f;obtain⟨ai,a6⟩:∃ai:World,ai=cw:=⟨_,Z⟩
 rw[<-a6] at a5 bt aj L;refine gn Z λa7 c1 a8 p a9=>?_;have ap:=gw b.lt a8;have bu:=Nat.le_trans g.size a8;have b:=b.g0 a9;have g:=g.g4 a9;have p:gu c1 a7 30 (g6 (Ck 0)):=p;have bv:ai.heap.size<=a7:=by rw[a6];exact a8
 have J:Ext No ai c1:=by rw[a6];exact a9
 refine qi (gh (j0 (ja (α:=Nat) [0,2,3,12] Z (λz=>[]) (λz u=>((z<=C.length/\∀j,j<z->Ck j∈C.map jk.id)/\Ext No ai u)/\gu u b2 102 ([.slice q C.length c,.slice r vs.length e])/\gu u a7 30 (g6 (Ck z))/\Ext No w u) (λz u=>C.length+1-z) (0) Z ⟨⟨⟨aF _,λ_ h=>absurd h (bO _)⟩,J⟩,b,p,g⟩ ?_)));rintro Y dx ⟨⟨⟨hk,dy⟩,J⟩,b,p,g⟩;refine gh (jy Z (j3 b Z Z (j8 p Z Z (g7 call123 Z (at10_calls dx (a5.g0 J).sl (λx A=>⟨by rw[(L x A).id];exact qm _,(L x A).len⟩) zo (freeI_len Y)) ?_))));rintro ew dz⟨rfl,aq⟩;have b:=b.g0 aq;have p:=p.g0 aq;have J:=J.g4 aq;have g:=g.g4 aq;refine k9 Z (jc Z (λhc=>?_) (λhc=>?_));have d0:Ck Y∈C.map jk.id:=by unfold atI at hc;split at hc;assumption;omega
 have ba:∀j,j<Y+1->Ck j∈C.map jk.id:=λj hj=>(aZ j Y).elim (dy j) λh1=>by obtain rfl:j=Y:=zo;exact d0
 have d1:=free_le (ids:=C.map jk.id) (k:=Y+1) zo ba;rw[aB] at d1;refine vo (j0 (ki (jo Z 1 Z 0 Z zd 0 Z (gj Z (p.cell (free_get0 Y)) (gv g5 Z ?_)))));rw[wrap_byte1,u8_succ];refine jo Z 1 Z 0 Z zd 0 Z (ka p Z Z Z λd2 p bb eb=>?_);have b:=b.g9 bb ap;have J:=J.g8 bb bv;have g:=g.g8 bb bu;have p:gu d2 a7 30 (g6 (freeJ Y)):=p;refine qi (ki (jo Z 1 Z 0 Z zd 0 Z (gj Z (p.cell (free_getJ Y)) (k9 Z (jc Z (λhc=>?_) (λhc=>?_))))));have hz:UInt8.ofNat (Y%256+1)=0:=UInt8.toNat_inj.1 (by have:((UInt8.ofNat (Y%256+1)).toNat:Int)=0:=hc;show _=0;omega);refine gr (jo Z 1 Z 1 Z zd 1 Z (gj Z (p.cell (free_getK Y)) (gv g5 Z ?_)));rw[wrap_byte1,u8_succ];refine jo Z 1 Z 1 Z zd 1 Z (ka p Z Z Z λd3 p bc ec=>?_);have b:=b.g9 bc ap;have J:=J.g8 bc bv;have g:=g.g8 bc bu;have p:gu d3 a7 30 (g6 ([UInt8.ofNat (Y%256+1),UInt8.ofNat (Y/256+1)]++List.replicate 30 0)):=p;refine ga ?_;rw[free_next hz] at p;exact jm (j9 (Y+1) Z ⟨⟨⟨by omega,ba⟩,J⟩,b,p,g⟩ zf);have hz:UInt8.ofNat (Y%256+1)≠0:=λe=>hc (by rw[e];rfl);refine jw ?_;rw[free_same hz] at p;exact jm (j9 (Y+1) Z ⟨⟨⟨by omega,ba⟩,J⟩,b,p,g⟩ zf);have ar:Ck Y∉C.map jk.id:=λe=>hc (by unfold atI;rw[aM e];omega);have b9:C.map jk.id=u1 X.s.row:=by rw[<-ay,u1,List.map_map];exact List.map_congr_left λx A=>(L x A).id
 have ar:Ck Y∉u1 X.s.row:=b9▸ar;have B:=a5.g0 J;have N:=bt.g0 J;have t:=λx A=>And.intro ((aj x A).1.g0 J) (aj x A).2;have f:=λx A=>(L x A).g0 J;refine zu (jy Z (j8 p Z Z (g7 call10 Z (sget_calls dz (k.g0 g) (id:=Ck Y) (freeI_len Y)) ?_)));rintro ex ey⟨o,a,rfl,_,ci,I⟩;have b:=b.g0 I;have B:=B.g0 I;have f:=λx A=>(f x A).g0 I;have N:=N.g0 I;have t:=λx A=>And.intro ((t x A).1.g0 I) (t x A).2;have g:=g.g4 I;obtain⟨rfl,rfl⟩:=ci ar;rw[aJ ar];refine gv g5 Z (gn Z λez e0 bw bd aa=>?_);have bn:=gw b.lt bw;have c4:=Nat.le_trans g.size bw;have b:=b.g0 aa;have B:=B.g0 aa;have f:=λx A=>(f x A).g0 aa;have N:=N.g0 aa;have t:=λx A=>And.intro ((t x A).1.g0 aa) (t x A).2;have g:=g.g4 aa;have af:=bd;refine wl (gz (l':=js uv noP) g5 bd Z Z (gi ky) (by rw[gi ky];rfl) OneC.h λd4 bd ab ed=>?_);have b:=b.g9 ab bn;have B:=B.g9 ab af zd;have f:=λx A=>(f x A).g9 ab af zd zd zd;have N:=N.g9 ab af zd;have t:=λx A=>And.intro ((t x A).1.g9 ab af zd) (t x A).2;have g:=g.g8 ab c4;refine k9 Z (jy Z (g7 call11 Z (yv5 d4 (k.g0 g) hS.rise (n:=longS)) ?_));rintro e1 e4⟨r3,e3,b3,rfl,c2,_,ac⟩;have b:=b.g0 ac;have B:=B.g0 ac;have f:=λx A=>(f x A).g0 ac;have N:=N.g0 ac;have t:=λx A=>And.intro ((t x A).1.g0 ac) (t x A).2;have g:=g.g4 ac;rw[val_long hS] at c2|-;have c2:b3=[]:=c2;subst c2;refine k9 Z (jb (α:=Unit) [2] Z (λz=>[(3,.bool true)]) (λz u=>(jj w u r vs.length e 221 2 (vs.flatMap ui)/\(∀x∈vs,jj w u x.2.1 x.1.2.length x.2.2 5 1 (g6 x.1.2)/\x.1.1.length<1000000000/\x.1.2.length<1000000000)/\jj w u q C.length c 126 105 (C.flatMap ut)/\(∀x∈C,yo w u x))/\gu u b2 102 ([.slice q C.length c,.slice r vs.length e])/\Ext No w u) ?_ ?_);refine gr (j8 b Z Z (gv g5 Z (qy 107 Z (λhg=>?_) (λhg=>?_))));refine gm g5 4 Z (qy 111 Z (λhg=>?_) (λhg=>?_));refine gm g5 4 Z (qy 115 Z (λhg=>?_) (λhg=>?_));refine gm g5 4 Z ?_;have D:=b;refine wl (gz (l':=[.slice q C.length c,.slice r vs.length e]) g5 b Z Z Z Z OneC.h λe5 b ah ee=>?_);have B:=B.g9 ah D zd;have f:=λx A=>(f x A).g9 ah D zd zd zd;have N:=N.g9 ah D zd;have t:=λx A=>And.intro ((t x A).1.g9 ah D zd) (t x A).2;have g:=g.g8 ah bx;refine gv g5 Z (ga ?_);exact gk (()) Z ⟨⟨N,t,B,f⟩,b,g⟩;cases hg;cases hg;cases hg;rintro⟨⟩ e6 ⟨⟨N,t,B,f⟩,b,g⟩;refine j6 (ko [_,_] ⟨⟨b2,0,Z,kj g5 Z Z b.kc Z⟩,Z,trivial⟩ ?_);exact⟨⟨q,c,C,r,e,vs⟩,Z,ay,av,⟨B,N,f,t,by show C.length<_;omega,by show vs.length<_;have e:=congrArg List.length av;rw[aB] at e;omega⟩,g⟩
structure zv0 (H : Nat -> Prop) (s : yb) : Prop where
  r : InH s.rp H
  v : InH s.vp H
  o : ∀ x ∈ s.hs, InH x.a.lp H /\ InH x.a.pp H /\ InH x.a.rp H
  vs : ∀ x ∈ s.vs, InH x.2.1 H
theorem zv0.mono {H G:Nat->Prop} {s:yb} (h:zv0 H s) (k:∀y,H y->G y):zv0 G s:=⟨h.r.mono k,h.v.mono k,λx a=>⟨(h.o x a).1.mono k,(h.o x a).2.1.mono k,(h.o x a).2.2.mono k⟩,λx a=>(h.vs x a).mono k⟩
theorem xz8.ext {S H:Nat->Prop} {u u':World} {x:jk} (h:xz8 u x) (f:InH x.a.lp H/\InH x.a.pp H/\InH x.a.rp H) (hE:Ext S u u') (hS:∀y,H y->¬S y):xz8 u' x:=⟨h.id,h.ok,⟨Sl.inH h.l.leaves hE f.1 hS,Sl.inH h.l.parents hE f.2.1 hS,Sl.inH h.l.rows hE f.2.2 hS⟩⟩
theorem ValR.ext {S H:Nat->Prop} {u u':World} {x:x5} (h:ValR u x) (f:InH x.2.1 H) (hE:Ext S u u') (hS:∀y,H y->¬S y):ValR u' x:=⟨Sl.inH h.s hE f hS,h.ln,h.lo⟩
theorem C8.ext {S H:Nat->Prop} {u u':World} {s:yb} (h:C8 u s) (f:zv0 H s) (hE:Ext S u u') (hS:∀y,H y->¬S y):C8 u' s:=
 ⟨Sl.inH h.row hE f.r hS,Sl.inH h.vals hE f.v hS,λx a=>(h.o x a).ext (f.o x a) hE hS,λx a=>(h.v x a).ext (f.vs x a) hE hS,h.few,h.fev⟩
theorem val_here {l:List yp} {n:Str} {i:Nat} (hi:i<l.length) (h:∀k (hk:k<l.length),k<i->l[k].1≠n) (e:l[i].1=n):A5 l n=some l[i].2:=by
 induction l generalizing i with
 |nil=>cases hi
 |cons a r ih=>
  cases i with
  |zero=>
   have e:a.1=n:=e;show(List.find? _ (a::r)).map _=_;rw[List.find?_cons_of_pos (by simpa using e)];rfl
  |succ i=>
   have b:a.1≠n:=h 0 zp zo;show(List.find? _ (a::r)).map _=some (r[i]'(by simpa using hi)).2;rw[List.find?_cons_of_neg (by simpa using b)];exact ih (by simpa using hi) (λk hk c=>h (k+1) (by simpa using hk) zo) e
theorem val_none {l:List yp} {n:Str} (h:∀k (hk:k<l.length),l[k].1≠n):A5 l n=none:=by
 unfold A5
 rw[List.find?_eq_none.2 λv a e=>by
  obtain⟨k,hk,rfl⟩:=bF.1 a
  exact h k hk (cD e)]
 rfl
theorem value10_calls (w:World) {s:yb} (h:C8 w s) {n:Str}:
  ge prog 192 [s.v,z9 n] w λv w'=>∃q c b,v= .tuple #[.slice q b.length c,.bool (A5 (s.vs.map Prod.fst) n).isSome]/\b=(A5 (s.vs.map Prod.fst) n).getD []/\ux w' q b/\b.length<1000000000/\Ext No w w':=by
 have G:=h.fev;refine gt func192 ?_;have f:=Ext.refl No w;refine ki (gn Z λB H J a C=>?_);have f:=f.g4 C;have a:gu H B 102 (s.c):=a;refine k9 Z (gh (jn Z (j0 (ja (α:=Nat) [1,2] Z (λz=>[(6,.int .i64 (z:Int))]) (λz u=>(z<=s.vs.length/\∀k (p:k<(s.vs.map Prod.fst).length),k<z->(s.vs.map Prod.fst)[k].1≠n)/\gu u B 102 (s.c)/\Ext No w u) (λz u=>s.vs.length-z) (0) Z ⟨⟨aF _,λ_ _ h=>absurd h (bO _)⟩,a,f⟩ ?_))));rintro i K ⟨⟨O,j⟩,a,f⟩;refine gh (jy Z (gj Z (a.cell Z) (k9 Z (jc Z (λr=>?_) (λr=>?_)))));have d:i<s.vs.length:=by omega
 have D:i<(s.vs.map Prod.fst).length:=by rw[aB];exact d
 have m:(s.vs.map Prod.fst)[i]=s.vs[i].1:=bD ..;have t:=h.v _ (aC d);obtain⟨L,E,M,y⟩:=h.vals.km (λx _=>xz x) zo;have g:gu K B 102 [.slice s.rp s.hs.length s.rc,.slice (some ⟨L,E,none⟩) s.vs.length s.vc]:=by have e:=a;rw[yb.c,M] at e;exact e
 refine yz (jy Z (gj Z (g.cell Z) (gv g5 Z (jo Z 2 Z i Z d (E+i*2) Z (gv g5 Z (gj Z (((y i d).g0 f) 0 _ Z) (k9 Z (jc Z (λr=>?_) (λr=>?_)))))))));have o:s.vs[i].1.1=n:=xp r;have F:=val_here D j (by rw[m];exact o);rw[m] at F;refine jy Z (gj Z (g.cell Z) (gv g5 Z (jo Z 2 Z i Z d (E+i*2) Z (gv g5 Z (gj Z (((y i d).g0 f) 1 _ Z) (gv g5 Z (qi (j6 (gGk (ko [_,_] ⟨Z,Z,trivial⟩ ?_))))))))));exact⟨s.vs[i].2.1,s.vs[i].2.2,s.vs[i].1.2,by rw[F];rfl,by rw[F];rfl,t.s.g0 f,t.lo,f⟩
 have o:s.vs[i].1.1≠n:=λe=>r (by rw[e]);refine jw (yt Z ?_);rw[jt _ zo];refine ga ?_;exact j9 (i+1) Z ⟨⟨d,λk p N=>(aZ k i).elim (j k p) λP=>by obtain rfl:k=i:=zo;rw[m];exact o⟩,a,f⟩ zf;have A:=val_none (l:=(s.vs.map Prod.fst)) (n:=n) λk p=>j k p (by rw[aB] at p;omega);refine zu (jn Z (j6 (ko [_,_] ⟨Z,Z,trivial⟩ ?_)));exact⟨none,0,[],by rw[A];rfl,by rw[A];rfl,Sl.nil _ _ _,by decide,f⟩
theorem st_appD {P:Program} {I:u6} {f:Fs} {ops:Array Oper} {o:Oper} {env:Env} {w W:World} {K:Env->World->Prop} (hI:I.Ok P) {s:zw1} (h:appE I f.n ops env o=some s) (T:Nat) (he:s.e=T) (sz by_:Nat) (hsz:s.g.size=sz) (hby:s.g.bytes=by_) (hz:(cellsOf s.g.zero).length=sz) (hz0:0<sz)
  {xs:List Value} (hq:jj W w s.p s.n s.c T sz xs) {m:Nat} {news:List Value} (hsrc:Src P w sz s.x m news) (hm:s.n+m<=maxLen) (hb:(s.n+m)*by_<=140737488355328)
  {n':Nat} {ys:List Value} (hn:s.n+m=n') (hy:xs++news=ys) {p2:Option Addr} {n2 c2 T2 sz2:Nat} {xs2:List Value} (h2:jj W w p2 n2 c2 T2 sz2 xs2) (hd:∀y,j5 s.p y->¬j5 p2 y) (hX:Ext No W w)
  (k:∀p' c' w',jj W w' p' n' c' T sz ys->jj W w' p2 n2 c2 T2 sz2 xs2->(∀y,j5 p' y->¬j5 p2 y)->Ext (j5 s.p) w w'->Ext No W w'->K ((s.d,.slice p' n' c')::env) w'):St P f ops o env w K:=by
 subst hn;subst hy;subst he;refine ul hI h sz by_ hsz hby hz hz0 hq.own hsrc hm hb λp' c' w' i a b=>k p' c' w' ⟨i,λy hy=>(b y hy).elim (hq.new y) λe=>Nat.le_trans hX.size e⟩ ⟨h2.own.ext a λy hy e=>hd y e hy,h2.new⟩ (λy hy e=>(b y hy).elim (λk=>hd y k e) λk=>absurd (h2.own.lt e) (Nat.not_lt.2 k)) a (hX.trans a λy hy j=>absurd hy (Nat.not_lt.2 (hq.new y j)))
theorem ownN_lt {W u:World} {p:Option Addr} {n c T sz:Nat} {xs:List Value} (h:jj W u p n c T sz xs):InH p (λy=>y<u.heap.size):=λb d e=>by
 rcases h.own with⟨a,_⟩|⟨g,l,a,f,_⟩
 ·rw[e] at a;cases a
 rw[e] at a;cases a;exact f.lt
structure NewV (W u : World) (x : x5) : Prop where
  o : jj W u x.2.1 x.1.2.length x.2.2 5 1 (g6 x.1.2)
  ln : x.1.1.length < 1000000000
  lo : x.1.2.length < 1000000000
theorem NewV.Dg {W u u':World} {x:x5} (h:NewV W u x) {p:Option Addr} {n c sz:Nat} {xs:List Value} (ho:Own u p n c 221 sz xs) (hE:Ext (j5 p) u u'):NewV W u' x:=⟨h.o.Dg ho hE zd,h.ln,h.lo⟩
def loX (n : Str) (l : List x5) : List x5 := l.filter λx => decide (C2 x.1.1 n)
def hiX (n : Str) (l : List x5) : List x5 := l.filter λx => decide (C2 n x.1.1)
theorem filter_step {α:Type} {p:α->Bool} {l:List α} {i:Nat} (hi:i<l.length):(l.take (i+1)).filter p=(l.take i).filter p++if p l[i] then [l[i]] else []:=by
 rw[List.take_succ_eq_append_getElem hi,List.filter_append];congr 1;cases h:p l[i]<;>simp[h]
theorem filter_two {α:Type} {p q:α->Bool} (h:∀x,p x=true->q x=false):∀l:List α,(l.filter p).length+(l.filter q).length<=l.length
 | []=>aA _
 |a::r=>by
  have ih:=filter_two h r
  cases hp:p a<;>cases hq:q a<;>simp_all<;>omega
theorem filter_fst (p:yp->Bool) (l:List x5):(l.filter λx=>p x.1).map Prod.fst=(l.map Prod.fst).filter p:=by
 rw[List.filter_map];rfl
theorem named10_calls (w:World) {H:Nat->Prop} {p:Option Addr} {c:Nat} {vs:List x5} (hsl:Sl w p vs.length 2 (vs.flatMap ui)) (hv:∀x∈vs,ValR w x/\InH x.2.1 H) (hfew:vs.length<1000000) {s:zv1} (hs:SetAt w s):
  ge prog 193 [.slice p vs.length c,.agg (vv s).toArray] w λv w'=>∃(q:Option Addr) (k:Nat) (ns:List x5),v= .slice q ns.length k/\ns.map Prod.fst=zv3 (vs.map Prod.fst) s.1/\jj w w' q ns.length k 221 2 (ns.flatMap ui)/\(∀x∈ns,ValR w' x/\InH x.2.1 (Grow H w w'))/\ns.length<=vs.length+1/\Ext No w w':=by
 refine gt func193 ?_;have f:=Ext.refl No w;refine ki (gn Z λb3 w1 bc d au=>?_);have f:=f.g4 au;have d:gu w1 b3 91 (vv s):=d;refine k9 Z (uz Z (jn Z (j0 (ja (α:=Nat×Option Addr×Nat×Option Addr×Nat) [0,3] Z (λz=>[(5,.slice z.2.1 (loX s.1.name (vs.take z.1)).length z.2.2.1),(6,.slice z.2.2.2.1 (hiX s.1.name (vs.take z.1)).length z.2.2.2.2),(7,.int .i64 (z.1:Int))]) (λz u=>(z.1<=vs.length/\jj w u z.2.1 (loX s.1.name (vs.take z.1)).length z.2.2.1 221 2 ((loX s.1.name (vs.take z.1)).flatMap ui)/\jj w u z.2.2.2.1 (hiX s.1.name (vs.take z.1)).length z.2.2.2.2 221 2 ((hiX s.1.name (vs.take z.1)).flatMap ui)/\∀y,j5 z.2.1 y->¬j5 z.2.2.2.1 y)/\gu u b3 91 (vv s)/\Ext No w u) (λz u=>vs.length-z.1) (0,none,0,none,0) Z ⟨⟨aF _,jj.nil _ _ _ _,jj.nil _ _ _ _,λ_ e=>(by cases e)⟩,d,f⟩ ?_))));rintro⟨i,C,E,N,T⟩ w2 ⟨⟨hi,g,j,n⟩,d,f⟩;try dsimp only
 dsimp only at hi g j n;refine gh (jn Z (jc Z (λK=>?_) (λK=>?_)));have r:i<vs.length:=by omega
 obtain⟨qb,qo,hp,O⟩:=hsl.km (λx _=>xz x) zo;subst hp;have ac:=filter_step (p:=λx:x5=>decide (C2 x.1.1 s.1.name)) r;have ad:=filter_step (p:=λx:x5=>decide (C2 s.1.name x.1.1)) r;have a4:(loX s.1.name (vs.take i)).length<=i:=by have e:=List.length_filter_le (λx:x5=>decide (C2 x.1.1 s.1.name)) (vs.take i);rw[aK] at e;unfold loX;omega
 have a5:(hiX s.1.name (vs.take i)).length<=i:=by have e:=List.length_filter_le (λx:x5=>decide (C2 s.1.name x.1.1)) (vs.take i);rw[aK] at e;unfold hiX;omega
 refine vo (jb (α:=Option Addr×Nat×Option Addr×Nat) [0,3,7] Z (λz=>[(5,.slice z.1 (loX s.1.name (vs.take (i+1))).length z.2.1),(6,.slice z.2.2.1 (hiX s.1.name (vs.take (i+1))).length z.2.2.2)]) (λz u=>(jj w u z.1 (loX s.1.name (vs.take (i+1))).length z.2.1 221 2 ((loX s.1.name (vs.take (i+1))).flatMap ui)/\jj w u z.2.2.1 (hiX s.1.name (vs.take (i+1))).length z.2.2.2 221 2 ((hiX s.1.name (vs.take (i+1))).flatMap ui)/\∀y,j5 z.1 y->¬j5 z.2.2.1 y)/\gu u b3 91 (vv s)/\Ext No w u) ?_ ?_);refine j0 (jb (α:=Option Addr×Nat) [0,3,6,7] Z (λz=>[(5,.slice z.1 (loX s.1.name (vs.take (i+1))).length z.2)]) (λz u=>(jj w u z.1 (loX s.1.name (vs.take (i+1))).length z.2 221 2 ((loX s.1.name (vs.take (i+1))).flatMap ui)/\jj w u N (hiX s.1.name (vs.take i)).length T 221 2 ((hiX s.1.name (vs.take i)).flatMap ui)/\∀y,j5 z.1 y->¬j5 N y)/\gu u b3 91 (vv s)/\Ext No w u) ?_ ?_);refine gh (jl Z 8 [qP 0,qP 1,qP 2,qP 3,qP 4,qP 5,qP 6,qP 7] [] (No) zk λw3 P bd=>?_);have D:=d;have X:=f;have d:=d.g0 P;have g:=g.g0 P;have j:=j.g0 P;have f:=f.g4 P;refine gl g5 2 Z (qe g5 Z Z 2 Z i Z r (qo+i*2) Z (gl g5 1 Z (gy g5 Z Z (λw' t=>((O i r).g0 (X.g4 t) 0 _ Z)) (gl g5 1 Z (gy g5 Z Z (λw' t=>(D.g0 t).cell Z) (gl g5 1 Z (jd (j1 (jh (jc Z (λK=>?_) (λK=>?_)))))))))));have Y:C2 vs[i].1.1 s.1.name:=K;have e1:(loX s.1.name (vs.take (i+1)))=(loX s.1.name (vs.take i))++[vs[i]]:=by unfold loX;rw[ac,aM (bN Y)]
 refine xt Z (jo Z 2 Z i Z r (qo+i*2) Z (je Z ((O i r).g0 f) Z (wl (kz g5 Z 2 Z namedZc Z zd zd ⟨⟨Z,by decide⟩,trivial⟩ (l':=ui vs[i]) (xj4 _) λav w4 a6 ae Q bf=>?_))));have d:=d.g0 Q;have g:=g.g0 Q;have j:=j.g0 Q;have f:=f.g4 Q;have aw:=g;refine wl (st_appD g5 Z 221 Z 2 40 Z Z Z zd g (Src.slice (m:=1) ⟨Z,.inr ⟨av,0,Z,ae.kc⟩⟩ OneC.h) zm zn (n':=((loX s.1.name (vs.take i))++[vs[i]]).length) (ys:=((loX s.1.name (vs.take i))++[vs[i]]).flatMap ui) zh (by rw[aQ,bB]) j n f λC E w5 g j n ax f=>?_);have d:=d.ext ax (λe=>aw.own.C4 e d zd Z);refine gv g5 Z (ga ?_);exact gk (C,E) (by rw[e1];rfl) ⟨by dsimp only;rw[e1];exact⟨g,j,n⟩,d,f⟩;have Y:¬C2 vs[i].1.1 s.1.name:=K;have e1:(loX s.1.name (vs.take (i+1)))=(loX s.1.name (vs.take i)):=by unfold loX;rw[ac,aJ (by simpa using Y),bJ]
 refine jw ?_;exact gk (C,E) (by rw[e1];rfl) ⟨by dsimp only;rw[e1];exact⟨g,j,n⟩,d,f⟩;rintro⟨C,E⟩ w6 ⟨⟨g,j,n⟩,d,f⟩;try dsimp only
 dsimp only at g j n;refine gh (jl Z 8 [qP 0,qP 1,qP 2,qP 3,qP 4,qP 5,qP 6,qP 7] [] (No) zk λw7 R bg=>?_);have D:=d;have X:=f;have d:=d.g0 R;have g:=g.g0 R;have j:=j.g0 R;have f:=f.g4 R;refine gl g5 2 Z (qe g5 Z Z 2 Z i Z r (qo+i*2) Z (gl g5 1 Z (gy g5 Z Z (λw' t=>((O i r).g0 (X.g4 t) 0 _ Z)) (gl g5 1 Z (gy g5 Z Z (λw' t=>(D.g0 t).cell Z) (gl g5 1 Z (jd (j1 (jh (jc Z (λK=>?_) (λK=>?_)))))))))));have I:C2 s.1.name vs[i].1.1:=(yz8 _ _).1 K;have e2:(hiX s.1.name (vs.take (i+1)))=(hiX s.1.name (vs.take i))++[vs[i]]:=by unfold hiX;rw[ad,aM (bN I)]
 refine xt Z (jo Z 2 Z i Z r (qo+i*2) Z (je Z ((O i r).g0 f) Z (wl (kz g5 Z 2 Z namedZc Z zd zd ⟨⟨Z,by decide⟩,trivial⟩ (l':=ui vs[i]) (xj4 _) λay w8 a7 af S bh=>?_))));have d:=d.g0 S;have g:=g.g0 S;have j:=j.g0 S;have f:=f.g4 S;have az:=j;refine wl (st_appD g5 Z 221 Z 2 40 Z Z Z zd j (Src.slice (m:=1) ⟨Z,.inr ⟨ay,0,Z,af.kc⟩⟩ OneC.h) zm zn (n':=((hiX s.1.name (vs.take i))++[vs[i]]).length) (ys:=((hiX s.1.name (vs.take i))++[vs[i]]).flatMap ui) zh (by rw[aQ,bB]) g (λy a b=>n y b a) f λN T w9 j g n a0 f=>?_);have d:=d.ext a0 (λe=>az.own.C4 e d zd Z);have n:=λy a b=>n y b a;refine gv g5 Z (ga ?_);exact jm (gk (C,E,N,T) (by rw[e2];rfl) ⟨by dsimp only;rw[e2];exact⟨g,j,n⟩,d,f⟩);have I:¬C2 s.1.name vs[i].1.1:=mt (yz8 _ _).2 K;have e2:(hiX s.1.name (vs.take (i+1)))=(hiX s.1.name (vs.take i)):=by unfold hiX;rw[ad,aJ (by simpa using I),bJ]
 refine jw ?_;exact jm (gk (C,E,N,T) (by rw[e2];rfl) ⟨by dsimp only;rw[e2];exact⟨g,j,n⟩,d,f⟩);rintro⟨C,E,N,T⟩ bi ⟨⟨g,j,n⟩,d,f⟩;try dsimp only
 dsimp only at g j n;refine xt Z ?_;rw[jt _ zo];refine ga ?_;exact j9 (i+1,C,E,N,T) Z ⟨⟨r,g,j,n⟩,d,f⟩ zf;have h0:i=vs.length:=by omega
 subst h0;rw[bC] at g j;rw[bC];have ag:=List.length_filter_le (λx:x5=>decide (C2 x.1.1 s.1.name)) vs;have ag:(loX s.1.name vs).length<=vs.length:=ag;have ah:=List.length_filter_le (λx:x5=>decide (C2 s.1.name x.1.1)) vs;have ah:(hiX s.1.name vs).length<=vs.length:=ah;refine zu (jb (α:=Option Addr×Nat×List x5) [6] Z (λz=>[(5,.slice z.1 z.2.2.length z.2.1)]) (λz u=>((z.2.2.map Prod.fst=(vs.map Prod.fst).filter (λx=>decide (C2 x.1 s.1.name))++(if s.1.is then [(s.1.name,s.1.new)] else [])/\z.2.2.length<=(loX s.1.name vs).length+1)/\jj w u z.1 z.2.2.length z.2.1 221 2 (z.2.2.flatMap ui)/\(∀x∈z.2.2,x∈vs\/NewV w u x)/\jj w u N (hiX s.1.name vs).length T 221 2 ((hiX s.1.name vs).flatMap ui))/\Ext No w u) ?_ ?_);refine gh (xt Z (j3 d Z Z (qi (u5 Z (λK=>?_) (λK=>?_)))));refine jl Z 10 [qP 0,qP 1,qP 2,qP 3,qP 4,(5,false),qP 6,(7,false),(8,false),qP 9] [] (j5 C) zk λai F a8=>?_;have D:=d;have aj:=g;have g:=g.g0 F;have j:=j.g0 F;have f:=f.g4 F;have hC:Ext (j5 C) _ ai:=F.no;refine gl g5 2 Z (gy g5 Z Z (λw' t=>((D.ext (show Ext (j5 C) _ w' from t) λe=>aj.own.C4 e D zd Z).cell Z)) (gl g5 1 Z (gy g5 Z Z (λw' t=>((D.ext (show Ext (j5 C) _ w' from t) λe=>aj.own.C4 e D zd Z).cell Z)) ?_)));have ak:=f;refine jg Z (gx call97 Z (yj ai (l:=s.1.new) (m:=[]) (hs.new.g0 f) (Sl.nil _ _ _) (by have:=hs.lw;omega) zd) λbj a1 U=>⟨(by obtain⟨qn,cn,rfl,ho,hn,A⟩:=U;exact hC.g4 A),?_⟩);obtain⟨qn,cn,rfl,ho,hn,A⟩:=U;have g:=g.g0 A;have j:=j.g0 A;have f:=f.g4 A;have hC:=hC.g4 A;rw[bJ] at ho|-;have L:jj w a1 qn s.1.new.length cn 5 1 (g6 s.1.new):=⟨ho,λy hy=>Nat.le_trans ak.size (hn y hy)⟩
 refine zv7 g5 Z Z ⟨⟨Z,by decide⟩,⟨Z,by decide⟩,trivial⟩ (l':=ui ((s.1.name,s.1.new),(qn,cn))) Z (jg Z (kz g5 Z 2 Z namedZc Z zd zd ⟨⟨Z,by decide⟩,trivial⟩ (l':=ui ((s.1.name,s.1.new),(qn,cn))) (xj4 _) λa2 bk a9 am B ba=>⟨hC.g4 B,?_⟩));have g:=g.g0 B;have j:=j.g0 B;have L:=L.g0 B;have f:=f.g4 B;have hC:=hC.g4 B;have aa:=g;have an:=j;refine jg Z (vu g5 Z 2 40 Z Z Z zd g (Src.slice (m:=1) ⟨Z,.inr ⟨a2,0,Z,am.kc⟩⟩ OneC.h) zm zn (n':=(loX s.1.name vs++[((s.1.name,s.1.new),(qn,cn))]).length) (ys:=(loX s.1.name vs++[((s.1.name,s.1.new),(qn,cn))]).flatMap ui) zh (by rw[aQ,bB]) f λC E a3 g G f=>⟨hC.then G,?_⟩);dsimp only at g G;have j:jj w a3 N _ T 221 2 _:=⟨an.own.ext G λy hy e=>n y e hy,an.new⟩
 have L:=L.Dg aa.own G zd;refine gl g5 1 Z (jd (j1 ?_));exact gk (C,E,loX s.1.name vs++[((s.1.name,s.1.new),(qn,cn))]) Z ⟨⟨⟨by dsimp only;rw[bE,loX,filter_fst (λx=>decide (C2 x.1 s.1.name)),aM K];rfl,by dsimp only;rw[al];exact aA _⟩,g,λx M=>(aV.1 M).elim (λe=> .inl (List.mem_filter.1 e).1) (λe=>by rw[aE.1 e];exact .inr ⟨L,by have:=hs.ln;show s.1.name.length<_;omega,by have:=hs.lw;show s.1.new.length<_;omega⟩),j⟩,f⟩;refine jw ?_;exact gk (C,E,loX s.1.name vs) Z ⟨⟨⟨by dsimp only;rw[loX,filter_fst (λx=>decide (C2 x.1 s.1.name)),aJ (by rw[K];decide),bJ],Nat.le_succ _⟩,g,λx M=> .inl (List.mem_filter.1 M).1,j⟩,f⟩;rintro⟨C,E,ns⟩ bm ⟨⟨⟨ap,aq⟩,g,J,j⟩,f⟩;try dsimp only
 dsimp only at ap aq g J;refine jy Z ?_;have aa:=g;have ab:=J;refine wl (vu g5 Z 2 40 Z Z Z zd g (Src.slice j.sl OneC.h) zm zn (n':=(ns++hiX s.1.name vs).length) (ys:=(ns++hiX s.1.name vs).flatMap ui) (by rw[al]) (by rw[aQ]) f λC E ar g V f=>?_);dsimp only at g V;have J:=λx M=>(ab x M).imp id λe=>e.Dg aa.own V;refine vl Z (gp Z Z ?_);have bb:=filter_two (p:=λx:x5=>decide (C2 x.1.1 s.1.name)) (q:=λx:x5=>decide (C2 s.1.name x.1.1)) (λx h=>bG (Bz (cD h))) vs
 exact⟨C,E,ns++hiX s.1.name vs,Z,by rw[bE,ap,hiX,filter_fst (λx=>decide (C2 s.1.name x.1))];rfl,g,λx M=>by
  have W:∀x∈vs,ValR ar x/\InH x.2.1 (Grow H w ar):=λx M=>⟨(hv x M).1.g0 f,(hv x M).2.mono λy h=> .inl h⟩
  exact(aV.1 M).elim (λe=>(J x e).elim (W x) λk=>⟨⟨k.o.sl,k.ln,k.lo⟩,λb off e=> .inr ⟨xj6 k.o (λ_ h=>h) b off e,ownN_lt k.o b off e⟩⟩) λe=>W x (List.mem_filter.1 e).1,by rw[al];unfold loX at aq;unfold hiX;omega,f⟩
abbrev hxO (x : jk) : xq6 := (x.o, x.a)
abbrev vxS (x : x5) : zv1 := (⟨x.1.1, false, true, [], x.1.2⟩, ⟨none, 0, x.2.1, x.2.2⟩)
def oxL (l : List jk) : List xq6 := l.map hxO
def sxL (l : List x5) : List zv1 := l.map vxS
theorem oxL_step {l : List jk} {i : Nat} (hi : i < l.length) : oxL (l.take (i + 1)) = oxL (l.take i) ++ [hxO l[i]] := take_succ_map _ _ hi
theorem sxL_step {l : List x5} {i : Nat} (hi : i < l.length) : sxL (l.take (i + 1)) = sxL (l.take i) ++ [vxS l[i]] := take_succ_map _ _ hi
theorem oxL_len (l : List jk) : (oxL l).length = l.length := aB ..
theorem sxL_len (l : List x5) : (sxL l).length = l.length := aB ..
theorem all10_calls (w:World) {s:yb} (h:C8 w s):
  ge prog 194 [s.v] w λv w'=>∃B:qv,v=B.v/\B.d=y7 s.s/\C1 w' B/\B.os=oxL s.hs/\Ext No w w':=by
 have af:=h.few;have ag:=h.fev;refine gt func194 ?_;have n:=Ext.refl No w;refine ki (gn Z λb1 w1 a3 f am=>?_);have n:=n.g4 am;have f:gu w1 b1 102 (s.c):=f;refine gn Z λb2 w2 an g ah=>?_;have ap:=Nat.le_trans n.size an;have f:=f.g0 ah;have n:=n.g4 ah;have g:gu w2 b2 25 (um.c):=g;refine qi (ki (gn Z λb3 w3 ab b ac=>?_));have M:=gw f.lt ab;have N:=gw g.lt ab;have ai:=Nat.le_trans n.size ab;have f:=f.g0 ac;have g:=g.g0 ac;have n:=n.g4 ac;have b:gu w3 b3 25 ([.slice none 0 0,.slice none 0 0]):=b;refine qi (gh (jn Z (j0 (ja (α:=Nat×Option Addr×Nat) [1,2,3] Z (λz=>[(4,.int .i64 (z.1:Int))]) (λz u=>(z.1<=s.hs.length/\jj w u z.2.1 (oxL (s.hs.take z.1)).length z.2.2 37 73 ((oxL (s.hs.take z.1)).flatMap B2))/\gu u b1 102 (s.c)/\gu u b2 25 (um.c)/\gu u b3 25 ([.slice z.2.1 (oxL (s.hs.take z.1)).length z.2.2,.slice none 0 0])/\Ext No w u) (λz u=>s.hs.length-z.1) (0,none,0) Z ⟨⟨aF _,jj.nil _ _ _ _⟩,f,g,b,n⟩ ?_))));rintro⟨i,q,c⟩ w4 ⟨⟨hi,t⟩,f,g,b,n⟩;try dsimp only
 dsimp only at hi t b;refine gh (jy Z (gj Z (f.cell Z) (k9 Z (jc Z (λhc=>?_) (λhc=>?_)))));have O:i<s.hs.length:=by omega
 obtain⟨qb,qo,hp,V⟩:=h.row.km (λx hx=>(h.o x hx).len) zo;have P:=h.o _ (aC O);have aq:uc s.hs[i].id:=by rw[P.id];exact qm _
 have Q:=oxL_step O;have ar:(oxL (s.hs.take i)).length=i:=by rw[oxL_len,aK];omega
 have C:gu w4 b1 102 [.slice (some ⟨qb,qo,none⟩) s.hs.length s.rc,.slice s.vp s.vs.length s.vc]:=by have e:=f;rw[yb.c,hp] at e;exact e
 refine yz (jl Z 11 [qP 0,qP 1,qP 2,qP 3,qP 4,qP 5,qP 6,qP 7,(8,false),(9,false),qP 10] [11] (j5 q) zk λw5 K a4=>?_);have R:=b;have ad:=t;have W:=n;have f:=f.g0 K;have g:=g.g0 K;have b:=b.g0 K;have t:=t.g0 K;have n:=n.g4 K;have X:Ext (j5 q) _ w5:=K.no;refine gl g5 1 Z (gy g5 Z Z (λw' p=>((R.ext (show Ext (j5 q) _ w' from p) λe=>ad.own.C4 e R zd Z).cell Z)) (gl g5 1 Z (gy g5 Z Z (λw' p=>((C.ext (show Ext (j5 q) _ w' from p) λe=>ad.own.C4 e C zd Z).cell Z)) (gl g5 1 Z (qe g5 Z Z 105 Z i Z O (qo+i*105) Z (gl g5 1 Z (kw g5 Z Z (λw' p=>(by have e:=(Seg.append.1 ((V i O).g0 (W.newer (show Ext (j5 q) _ w' from p) ad.new))).2;rw[gb,aq] at e;exact e)) (gi P.ok.1) (jg Z (kz g5 Z 73 Z objZc (gi ky) zd zd ⟨⟨by rw[j4];exact gi P.ok.1,by decide⟩,trivial⟩ (l':=js s.hs[i].o s.hs[i].a) (yj4 P.ok.1) λb21 w6 ax aj H a5=>⟨X.g4 H,?_⟩)))))))));have f:=f.g0 H;have g:=g.g0 H;have b:=b.g0 H;have t:=t.g0 H;have n:=n.g4 H;have X:=X.g4 H;have ae:=t.own;refine jg Z (vu g5 Z 73 192 Z Z Z zd t (Src.slice (m:=1) ⟨gi P.ok.1,.inr ⟨b21,0,Z,aj.kc⟩⟩ OneC.h) zm zn (n':=(oxL (s.hs.take (i+1))).length) (ys:=(oxL (s.hs.take (i+1))).flatMap B2) (by rw[Q,al];rfl) (by rw[Q,aQ,bB];rfl) n λq c w7 t S n=>⟨X.then S,?_⟩);dsimp only at t S;have f:=f.jq ae S (show(37:Nat)≠102 from by decide);have g:=g.jq ae S (show(37:Nat)≠25 from by decide);have b:=b.jq ae S (show(37:Nat)≠25 from by decide);refine gl g5 1 Z (jd ?_);have J:=b;refine wb Z (Aa g5 b Z Z Z λw8 b Y a6=>?_);have f:=f.g9 Y M;have g:=g.g9 Y N;have t:=t.g9 Y J zd;have n:=n.g8 Y ai;have b:gu w8 b3 25 ([.slice q (oxL (s.hs.take (i+1))).length c,.slice none 0 0]):=b;refine j1 (yt Z ?_);rw[jt _ zo];refine ga ?_;exact j9 (i+1,q,c) Z ⟨⟨O,t⟩,f,g,b,n⟩ zf;have h0:i=s.hs.length:=by omega
 subst h0;rw[bC] at t b;refine zu (gh (jn Z (j0 (ja (α:=Nat×Option Addr×Nat) [1,2,3] Z (λz=>[(5,.int .i64 (z.1:Int))]) (λz u=>((z.1<=s.vs.length/\jj w u z.2.1 (sxL (s.vs.take z.1)).length z.2.2 91 5 ((sxL (s.vs.take z.1)).flatMap vv))/\jj w u q (oxL s.hs).length c 37 73 ((oxL s.hs).flatMap B2))/\gu u b1 102 (s.c)/\gu u b2 25 (um.c)/\gu u b3 25 ([.slice q (oxL s.hs).length c,.slice z.2.1 (sxL (s.vs.take z.1)).length z.2.2])/\Ext No w u) (λz u=>s.vs.length-z.1) (0,none,0) Z ⟨⟨⟨aF _,jj.nil _ _ _ _⟩,t⟩,f,g,b,n⟩ ?_))));rintro⟨j,r,e⟩ w9 ⟨⟨⟨hj,F⟩,t⟩,f,g,b,n⟩;try dsimp only
 dsimp only at hj F b;refine gh (jy Z (gj Z (f.cell Z) (k9 Z (jc Z (λhc=>?_) (λhc=>?_)))));have L:j<s.vs.length:=by omega
 obtain⟨qb,qo,hp,V⟩:=h.vals.km (λx _=>xz x) zo;have Q:=sxL_step L;have ar:(sxL (s.vs.take j)).length=j:=by rw[sxL_len,aK];omega
 have C:gu w9 b1 102 [.slice s.rp s.hs.length s.rc,.slice (some ⟨qb,qo,none⟩) s.vs.length s.vc]:=by have e:=f;rw[yb.c,hp] at e;exact e
 refine yz (jl Z 18 [qP 0,qP 1,qP 2,qP 3,qP 4,qP 5,qP 6,qP 7,qP 8,qP 9,qP 10,qP 11,qP 12,qP 13,qP 14,(15,false),(16,false),qP 17] [18] (j5 r) zk λau D ay=>?_);have R:=b;have T:=F;have W:=n;have f:=f.g0 D;have g:=g.g0 D;have b:=b.g0 D;have t:=t.g0 D;have F:=F.g0 D;have n:=n.g4 D;have X:Ext (j5 r) _ au:=D.no;refine gl g5 1 Z (gy g5 Z Z (λw' p=>((R.ext (show Ext (j5 r) _ w' from p) λe=>T.own.C4 e R zd Z).cell Z)) (gl g5 1 Z (gy g5 Z Z (λw' p=>((C.ext (show Ext (j5 r) _ w' from p) λe=>T.own.C4 e C zd Z).cell Z)) (gl g5 1 Z (qe g5 Z Z 2 Z j Z L (qo+j*2) Z (gl g5 1 Z (gy g5 Z Z (λw' p=>((V j L).g0 (W.newer (show Ext (j5 r) _ w' from p) T.new) 0 _ Z)) (gl g5 1 Z (gy g5 Z Z (λw' p=>((C.ext (show Ext (j5 r) _ w' from p) λe=>T.own.C4 e C zd Z).cell Z)) (gl g5 1 Z (qe g5 Z Z 2 Z j Z L (qo+j*2) Z (gl g5 1 Z (gy g5 Z Z (λw' p=>((V j L).g0 (W.newer (show Ext (j5 r) _ w' from p) T.new) 1 _ Z)) (zv7 g5 Z Z ⟨⟨Z,by decide⟩,⟨Z,by decide⟩,⟨Z,by decide⟩,trivial⟩ (l':=vv (vxS s.vs[j])) Z (jg Z (kz g5 Z 5 Z setZc Z zd zd ⟨⟨Z,by decide⟩,trivial⟩ (l':=vv (vxS s.vs[j])) (set_put _) λav a7 az ak A a0=>⟨X.g4 A,?_⟩))))))))))))))));have f:=f.g0 A;have g:=g.g0 A;have b:=b.g0 A;have t:=t.g0 A;have F:=F.g0 A;have n:=n.g4 A;have X:=X.g4 A;have I:=F.own;refine jg Z (vu g5 Z 5 72 Z Z Z zd F (Src.slice (m:=1) ⟨Z,.inr ⟨av,0,Z,ak.kc⟩⟩ OneC.h) zm zn (n':=(sxL (s.vs.take (j+1))).length) (ys:=(sxL (s.vs.take (j+1))).flatMap vv) (by rw[Q,al];rfl) (by rw[Q,aQ,bB]) n λr e a8 F E n=>⟨X.then E,?_⟩);dsimp only at F E;have f:=f.jq I E (show(91:Nat)≠102 from by decide);have g:=g.jq I E (show(91:Nat)≠25 from by decide);have b:=b.jq I E (show(91:Nat)≠25 from by decide);have t:=t.Dg I E zd;refine gl g5 1 Z (jd ?_);have J:=b;refine wb Z (Aa g5 b Z Z Z λaw b G a1=>?_);have f:=f.g9 G M;have g:=g.g9 G N;have t:=t.g9 G J zd;have F:=F.g9 G J zd;have n:=n.g8 G ai;have b:gu aw b3 25 ([.slice q (oxL s.hs).length c,.slice r (sxL (s.vs.take (j+1))).length e]):=b;refine j1 (yt Z ?_);rw[jt _ zo];refine ga ?_;exact j9 (j+1,r,e) Z ⟨⟨⟨L,F⟩,t⟩,f,g,b,n⟩ zf;have h0:j=s.vs.length:=by omega
 subst h0;rw[bC] at F b;refine zu (ki (j8 b Z Z ?_));have aa:=g;refine wl (gz (l':=[.slice q (oxL s.hs).length c,.slice r (sxL s.vs).length e]) g5 g Z Z Z Z OneC.h λa9 g U a2=>?_);have t:=t.g9 U aa zd;have F:=F.g9 U aa zd;have n:=n.g8 U ap;refine qi (j6 (ko [_] ⟨⟨b2,0,Z,kj g5 Z Z g.kc Z⟩,trivial⟩ ?_))
 exact⟨⟨q,c,oxL s.hs,r,e,sxL s.vs⟩,Z,by show Bu.mk ((oxL s.hs).map Prod.fst) ((sxL s.vs).map Prod.fst)=_;rw[oxL,sxL,List.map_map,List.map_map,y7,yb.s];simp only[List.map_map];rfl,⟨t.sl,F.sl,λx hx=>by
  obtain⟨y,hy,rfl⟩:=bL.1 hx
  have k:=h.o y hy
  exact⟨k.ok.1,k.ok.2,k.l.g0 n⟩,λx hx=>by
  obtain⟨y,hy,rfl⟩:=bL.1 hx
  have k:=h.v y hy
  exact⟨Sl.nil _ _ _,k.s.g0 n,k.ln,by show 0<_;decide,k.lo⟩,by show(oxL s.hs).length<_;rw[oxL_len];exact af,by show(sxL s.vs).length<_;rw[sxL_len];exact ag⟩,Z,n⟩
end Go.Proofs.YtpdiphfjmepijaaGreatDoor
