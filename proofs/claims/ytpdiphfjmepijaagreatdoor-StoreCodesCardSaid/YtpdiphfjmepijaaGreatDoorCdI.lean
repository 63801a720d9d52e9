/-
  Walks and laws towards: the bytes of batches, and the batch of whatever bytes (StoreCodes)
-/
import Derived.Test.YtpdiphfjmepijaaGreatDoorRows
import Derived.ProofKit
import Derived.LaidMore
import Derived.OpenShut
import Derived.Lib.LaidTab
import Derived.Test.YtpdiphfjmepijaaGreatDoorCdH
open List renaming flatMap_append→bC,mem_iff_getElem→bJ,mem_map→bN,getElem_map→bR,flatMap_singleton→bU,map_append→bX,getElem?_eq_none→cD,getElem?_map→cE,getElem?_eq_some_iff→cY
namespace Go.Proofs.YtpdiphfjmepijaaGreatDoor
open Go.Proofs.Tryz
open Go.Vc
theorem Sl.mapAt {α:Type} {w:World} {p:Option Addr} {f:α→Value} {l:List α} (h:Sl w p l.length 1 (l.map f)) (h0:0<l.length):∃b off,p=some ⟨b,off,none⟩∧Seg w b off (l.map f):=by
 obtain⟨_,h1|⟨b,off,hp,hs⟩⟩:=h
 ·omega
 exact⟨b,off,hp,hs⟩
theorem yz4 (w:World) {p q:Option Addr} {c d:Nat} {l m:List (UInt8)} (h:Sl w p l.length 1 (l.map zu)) (h':Sl w q m.length 1 (m.map zu)) (hl:l.length<1000000000):
  gn prog 33 [.slice p l.length c,.slice q m.length d] w fun v w'=>v= .bool (decide (l=m))∧Ext No w w':=by
 refine gx func33 ?_
 have hX:=Ext.refl No w
 refine jd rfl (gl (jd rfl (jl rfl (fun hc=> ?_) (fun hc=> ?_))))
 ·refine gl ?_
  refine gy (vr rfl (j7 (gv rfl rfl ?_)))
  exact⟨congrArg Value.bool (by symm;rw[aC];intro h;rw[h] at hc;exact hc rfl),hX⟩
 have hlm:l.length=m.length:=by omega
 refine x3 (gl (jd rfl (j8 ?_)))
 refine jj (α:=Nat) [0,1,12] rfl (fun z=>[(13,.int .i64 (z:Int))]) (fun z u=>(z≤l.length∧∀k (hk:k<l.length),k<z→l[k]=m[k]'zo)∧Ext No w u) (fun z u=>l.length-z) (0) rfl ⟨⟨aJ _,fun k _ h=>absurd h (bW _)⟩,hX⟩ ?_
 rintro i w1 ⟨⟨hi,hok⟩,hX⟩
 refine jd rfl (gl (jl rfl (fun hc=> ?_) (fun hc=> ?_)))
 ·have hi:i<l.length:=by omega
  have him:i<m.length:=by omega
  obtain⟨b,off,rfl,hsa⟩:=Sl.mapAt h zo
  obtain⟨b',off',rfl,hsb⟩:=Sl.mapAt h' zo
  have hca:∀u,Ext No w u→u.cell? ⟨b,off+i,none⟩=some (zu l[i]):=fun u hE=>(hsa.ga hE) i _ (by rw[cE,aN hi];rfl)
  have hcb:∀u,Ext No w u→u.cell? ⟨b',off'+i,none⟩=some (zu m[i]):=fun u hE=>(hsb.ga hE) i _ (by rw[cE,aN him];rfl)
  refine Ac (jd rfl (gl ?_))
  refine jr rfl 9 [qP 0,qP 1,qP 2,qP 3,qP 4,qP 5,qP 6,qP 7,qP 8] [] (No) zk fun w2 hE2 hs2=> ?_
  have hXd:=hX
  have hX:=hX.gb hE2
  refine gt gc 2 rfl (qk gc rfl rfl 1 rfl i rfl zo (off+i) (by rw[bE]) (j3 gc rfl rfl (fun w' hw'=>(hca w' (hXd.gb hw'))) ?_))
  refine gt gc 2 rfl (qk gc rfl rfl 1 rfl i rfl zo (off'+i) (by rw[bE]) (j3 gc rfl rfl (fun w' hw'=>(hcb w' (hXd.gb hw'))) ?_))
  refine gt gc 1 rfl (jg (j5 (jp (jl rfl (fun hc=> ?_) (fun hc=> ?_)))))
  ·refine gl ?_
   refine gy (vr rfl (gGl (gv rfl rfl ?_)))
   exact⟨congrArg Value.bool (by symm;rw[aC];intro e;subst e;exact hc rfl),hX⟩
  have hei:l[i]=m[i]:=UInt8.toNat_inj.1 (by have e:=aS.1 hc;omega)
  refine kc (Aa rfl ?_)
  rw[jz _ zo]
  refine gk ?_
  exact jk (i+1) rfl ⟨⟨by omega,fun k hk hlt=>(by rcases bF k i with h0|h0;exact hok k hk h0;(have e:k=i:=zo);subst e;exact hei)⟩,hX⟩ zf
 have hall:l=m:=Cr hlm fun k hk=>hok k hk zo
 refine Ak (jd rfl (j9 (gv rfl rfl ?_)))
 exact⟨congrArg Value.bool (bQ hall).symm,hX⟩
theorem equalS_calls (w:World) {p q:Option Addr} {c d:Nat} {l m:List (Str)} (h:Sl w p l.length 1 (l.map y7)) (h':Sl w q m.length 1 (m.map y7)) (hl:l.length<1000000000):
  gn prog 51 [.slice p l.length c,.slice q m.length d] w fun v w'=>v= .bool (decide (l=m))∧Ext No w w':=by
 refine gx func51 ?_
 have hX:=Ext.refl No w
 refine jd rfl (gl (jd rfl (jl rfl (fun hc=> ?_) (fun hc=> ?_))))
 ·refine gl ?_
  refine gy (vr rfl (j7 (gv rfl rfl ?_)))
  exact⟨congrArg Value.bool (by symm;rw[aC];intro h;rw[h] at hc;exact hc rfl),hX⟩
 have hlm:l.length=m.length:=by omega
 refine x3 (gl (jd rfl (j8 ?_)))
 refine jj (α:=Nat) [0,1,12] rfl (fun z=>[(13,.int .i64 (z:Int))]) (fun z u=>(z≤l.length∧∀k (hk:k<l.length),k<z→l[k]=m[k]'zo)∧Ext No w u) (fun z u=>l.length-z) (0) rfl ⟨⟨aJ _,fun k _ h=>absurd h (bW _)⟩,hX⟩ ?_
 rintro i w1 ⟨⟨hi,hok⟩,hX⟩
 refine jd rfl (gl (jl rfl (fun hc=> ?_) (fun hc=> ?_)))
 ·have hi:i<l.length:=by omega
  have him:i<m.length:=by omega
  obtain⟨b,off,rfl,hsa⟩:=Sl.mapAt h zo
  obtain⟨b',off',rfl,hsb⟩:=Sl.mapAt h' zo
  have hca:∀u,Ext No w u→u.cell? ⟨b,off+i,none⟩=some (y7 l[i]):=fun u hE=>(hsa.ga hE) i _ (by rw[cE,aN hi];rfl)
  have hcb:∀u,Ext No w u→u.cell? ⟨b',off'+i,none⟩=some (y7 m[i]):=fun u hE=>(hsb.ga hE) i _ (by rw[cE,aN him];rfl)
  refine Ac (jd rfl (gl ?_))
  refine jr rfl 9 [qP 0,qP 1,qP 2,qP 3,qP 4,qP 5,qP 6,qP 7,qP 8] [] (No) zk fun w2 hE2 hs2=> ?_
  have hXd:=hX
  have hX:=hX.gb hE2
  refine gt gc 2 rfl (qk gc rfl rfl 1 rfl i rfl zo (off+i) (by rw[bE]) (j3 gc rfl rfl (fun w' hw'=>(hca w' (hXd.gb hw'))) ?_))
  refine gt gc 2 rfl (qk gc rfl rfl 1 rfl i rfl zo (off'+i) (by rw[bE]) (j3 gc rfl rfl (fun w' hw'=>(hcb w' (hXd.gb hw'))) ?_))
  refine gt gc 1 rfl (jg (j5 (jp (jl rfl (fun hc=> ?_) (fun hc=> ?_)))))
  ·refine gl ?_
   refine gy (vr rfl (gGl (gv rfl rfl ?_)))
   exact⟨congrArg Value.bool (by symm;rw[aC];intro e;subst e;exact hc rfl),hX⟩
  have hei:l[i]=m[i]:=xt (aS.1 hc)
  refine kc (Aa rfl ?_)
  rw[jz _ zo]
  refine gk ?_
  exact jk (i+1) rfl ⟨⟨by omega,fun k hk hlt=>(by rcases bF k i with h0|h0;exact hok k hk h0;(have e:k=i:=zo);subst e;exact hei)⟩,hX⟩ zf
 have hall:l=m:=Cr hlm fun k hk=>hok k hk zo
 refine Ak (jd rfl (j9 (gv rfl rfl ?_)))
 exact⟨congrArg Value.bool (bQ hall).symm,hX⟩
theorem brO_known {row fr:List jq} {o:jq} (h:Be o∈vl row):brO (some (row,fr)) o=some (row,fr):=aR h
theorem bring_known (o:jq):yy [o] [o]=some ([o],[]):=brO_known (List.mem_map_of_mem (aI.2 rfl))
theorem bring_new {o:jq} (h:u5 o=[]):yy [] [o]=some ([o],[o]):=by
 show brO (some ([],[])) o=_
 simp[brO,vl,h]
def swO:jq:={uo with kind:=1,text:=[97]}
def swS:yo:=⟨[107],false,true,[],[7]⟩
def swB:Bu:=⟨[swO],[swS]⟩
def swC:Bytes:=uf swB
def swA:Wl:=Wl.fresh (vw (ku.fresh 42) 20).1 20
def swX:Wl:=(swA.append swC).1
def swP:Sto:=⟨[swO],[([107],[7])]⟩
theorem sw1:(vw (ku.fresh 42) 20).2=0:=by decide+kernel
theorem sw2:(swA.append swC).2=0:=by decide+kernel
theorem sw3:(ur (swX.D.crash [])).2=(0,0,20,[[],swC]):=by decide+kernel
theorem sw4:z7 swB:=by decide+kernel
theorem sw5:vi swC=(swB,0):=by decide+kernel
theorem sw6:jv xq1 swB=(swP,swB,0):=by
 have h0:u5 swO=[]:=by decide+kernel
 have h1:yy xq1.row swB.objs=some ([swO],[swO]):=bring_new h0
 have h2:Bd xq1.vals swB.sets=some [([107],[7])]:=by decide+kernel
 rw[after_three h1 h2]
 exact aP zd
theorem sw7:(jv swP swB).2.2=200:=by
 have h1:yy swP.row swB.objs=some ([swO],[]):=bring_known swO
 have h2:Bd swP.vals swB.sets=none:=by decide+kernel
 exact after_no2 h1 h2
theorem sw8:swC.length≤40000∧(kw swC.length:Int)≤(swA.size:Int)-swA.used:=by decide+kernel
theorem sw9:yp ⟨swA,xq1⟩ swB=(⟨swX,swP⟩,0):=by
 have h1:uf swB=swC:=rfl
 unfold yp
 rw[aP zd,aP (fun e=>e sw4),sw6]
 rw[aP zd,h1]
 unfold zx2
 rw[aR sw8,sw2]
 rfl
theorem sw10:yp ⟨swX,swP⟩ swB=(⟨swX,swP⟩,200):=by
 have hb:swX.broken=false:=by decide+kernel
 unfold yp
 rw[aP (by rw[hb];decide),aP (fun e=>e sw4),sw7]
 exact aR (.inl zd)
theorem open_eq {D:ku} {s:Sto} (h1:(ur D).2.1=0) (h4:saidD (Wl.opened (ur D)).pieces=some s):xj2 D=((ur D).1,0,some ⟨Wl.opened (ur D),s⟩):=by
 unfold xj2
 rw[aP (fun e=>e h1),h4]
theorem opn_err {x:ku×Int×Nat×Nat×List Bytes} {e:Int} {t n:Nat} {ps:List Bytes} (h:x.2=(e,t,n,ps)):x.2.1=e:=by rw[h]
theorem opn_pieces {x:ku×Int×Nat×Nat×List Bytes} {e:Int} {t n:Nat} {ps:List Bytes} (h:x.2=(e,t,n,ps)):(Wl.opened x).pieces=ps:=by show x.2.2.2.2=_;rw[h]
theorem said_two {c:Bytes} {s:Sto} (h:vm xq1 c=some s):saidD [[],c]=some s:=h
theorem said_eq {s t:Sto} {c:Bytes} {b:Bu} (h1:vi c=(b,0)) (h2:jv s b=(t,b,0)):vm s c=some t:=by
 unfold vm
 rw[h1]
 dsimp only
 rw[h2]
 exact aR ⟨rfl,rfl,rfl⟩
def swD:ku:=swX.D.crash []
def swW:Wl:=Wl.opened (ur swD)
theorem sw11:xj2 swD=((ur swD).1,0,some ⟨swW,swP⟩):=by
 have a:(ur swD).2.1=0:=opn_err sw3
 have b:(Wl.opened (ur swD)).pieces=[[],swC]:=opn_pieces sw3
 have c:vm xq1 swC=some swP:=said_eq sw5 sw6
 have d:saidD (Wl.opened (ur swD)).pieces=some swP:=by rw[b];exact said_two c
 exact open_eq a d
abbrev swBX (b23 b24 b26:Nat):qu:=⟨some ⟨b23,0,none⟩,1,[(swO,Dh)],some ⟨b26,0,none⟩,1,[(swS,⟨none,0,some ⟨b24,0,none⟩,1⟩)]⟩
theorem Bp:u4 swO:=⟨by decide,by decide,fun _ h=>(by cases h),fun _ h=>(by cases h),fun _ h=>(by cases h),by decide,by decide⟩
theorem swO_short:A5 swO:=⟨by decide,by decide,by decide,fun _ h=>(by cases h),fun _ h=>(by cases h)⟩
theorem swO_l (w:World):B7 w swO Dh:=⟨Sl.nil _ _ _,Sl.nil _ _ _,Sl.nil _ _ _⟩
theorem sw_bat {u:World} {b23 b24 b26:Nat} (h23:gz u b23 37 (B6 (swO,Dh))) (h24:gz u b24 5 (ge [7])) (h26:gz u b26 91 (uz (swS,⟨none,0,some ⟨b24,0,none⟩,1⟩))):C9 u (swBX b23 b24 b26):=by
 refine⟨⟨by rw[bU];exact gp Bp,.inr ⟨b23,0,rfl,by rw[bU];exact h23.kj⟩⟩,⟨rfl,.inr ⟨b26,0,rfl,h26.kj⟩⟩,fun x a=> ?_,fun x a=> ?_,(by show 1<1000000;decide),(by show 1<1000000;decide)⟩
 ·rw[aI.1 a]
  exact⟨Bp,swO_short,swO_l u⟩
 rw[aI.1 a]
 exact⟨Sl.nil _ _ _,⟨rfl,.inr ⟨b24,0,rfl,h24.kj⟩⟩,(by show 1<1000000000;decide),(by show 0<1000000000;decide),(by show 1<1000000000;decide)⟩
theorem mem_ids (o:jq):Be o∈vl [o]:=List.mem_map_of_mem (aI.2 rfl)
theorem swP_ok:Sto.Ok swP:=by
 have h:=(after_ok xz4 sw4).1
 rw[sw6] at h;exact h
theorem swO_b:BytesIn swO:=⟨.inl rfl,fun _=>by decide,fun e=>absurd e zd,fun e=>absurd e zd,fun e=>absurd e zd,fun e=>absurd e zd⟩
theorem lwakes_calls (w:World) (hr:Rt w):
  gn prog 9 [] w fun v w'=>v= .bool true∧Ext No w w':=by
 refine gx func9 ?_
 have o:=Ext.refl No w
 have dk:=hr.lt
 have f:=hr
 have dl:=aD w.heap.size
 refine jd rfl (ko (gh call22 rfl (new_calls w (n:=42) zd) fun v1 w1 cm=> ?_))
 obtain⟨d,F1,rfl,hA,ap,bi⟩:=cm
 have f:=Rt.ext f bi id
 have o:=o.gb bi
 have ae:(ku.fresh 42).Ok 0:=ku.Ok.fresh zd
 have b0:swA.D.Ok (0+6000):=(formatW_ok ae 20).1
 have bj:Wl.Ok swA:=(format_fine (a:=20) sw1 ae).1
 obtain⟨af,cn⟩:=append_fine (W:=swA) b0 bj swC
 have bk:swD.Ok _:=af.crash []
 refine km rfl (gl (jd rfl (up rfl (x3 (ki rfl ?_)))))
 have dm:=o.size
 refine gh call13 rfl (sformat_calls w1 hA ae zd 20 zd f (fun e=>by have:=ap 0 e;omega)) fun v2 w2 co=> ?_
 obtain⟨so,F2,rfl,dn,bm,bn,dp,cp⟩:=co
 have o:=o.trans bm fun y C e=>by have:=ap y e;omega
 have f:=Rt.ext f bm fun e=>by have:=ap 0 e;omega
 obtain⟨sp,x,H,K,h,rfl,k,cq⟩:=cp sw1
 have k:StA w2 sp x d F2 H K ⟨swA,xq1⟩ h:=k
 have aq:=k.lt
 obtain⟨nF,I⟩:∃n,n=w2.heap.size:=⟨_,rfl⟩
 rw[←I] at aq
 have X:∀y,StB F2 H K sp y→w.heap.size≤y:=fun y C=>by
  rcases C with C|C
  ·exact(bn y C).elim (ap y) fun e=>by omega
  have:=cq y C;omega
 rw[sw1]
 have j:=aD w2.heap.size
 refine km rfl (ko (kg rfl ⟨⟨rfl,by decide⟩,⟨rfl,by decide⟩,trivial⟩ (l':=jn swO Dh) zk (gw rfl fun b4 w3 bo g ar=> ?_)))
 have cr:=aA o.size bo
 have A:=aA j bo
 have f:=Rt.ext f ar id
 have k:=k.ga ar
 have j:=aA j ar.size
 have o:=o.gb ar
 refine wl (j4 (l':=jn swO Dh) gc g rfl rfl (gp Bp) (by rw[gp Bp];rfl) OneC.h fun w4 g au dq=> ?_)
 have f:=Rt.ext f au (fun e=>by have e:0=b4:=e;omega)
 have k:=k.ext au (yv aq (I▸A))
 have j:=aA j au.size
 have o:=o.gi au cr
 refine qq (ko (je g rfl (gp Bp) ?_))
 refine wl (qi gc rfl 73 rfl objZc (gp qf) zd zd ⟨⟨by rw[jh];exact gp Bp,by decide⟩,trivial⟩ (l':=B6 (swO,Dh)) (xz2 Bp) fun Y w5 bp q ag dr=> ?_)
 have a9:=aA j bp
 have g:=g.ga ag
 have f:=Rt.ext f ag id
 have k:=k.ga ag
 have j:=aA j ag.size
 have o:=o.gb ag
 refine wl (qi gc rfl 1 rfl rfl rfl zd zd zt (l':=ge [7]) rfl fun Z w6 bq r aa ds=> ?_)
 have ab:=aA j bq
 have g:=g.ga aa
 have q:=q.ga aa
 have f:=Rt.ext f aa id
 have k:=k.ga aa
 have j:=aA j aa.size
 have o:=o.gb aa
 refine kg rfl ⟨⟨rfl,by decide⟩,⟨rfl,by decide⟩,⟨rfl,by decide⟩,trivial⟩ (l':=uz (swS,⟨none,0,some ⟨Z,0,none⟩,1⟩)) rfl ?_
 refine wl (qi gc rfl 5 rfl setZc rfl zd zd ⟨⟨rfl,by decide⟩,trivial⟩ (l':=uz (swS,⟨none,0,some ⟨Z,0,none⟩,1⟩)) (set_put _) fun a0 w7 br t a1 dt=> ?_)
 have ac:=aA j br
 have g:=g.ga a1
 have q:=q.ga a1
 have r:=r.ga a1
 have f:=Rt.ext f a1 id
 have k:=k.ga a1
 have j:=aA j a1.size
 have o:=o.gb a1
 refine kg rfl ⟨⟨rfl,by decide⟩,⟨rfl,by decide⟩,trivial⟩ (l':=[.slice (some ⟨Y,0,none⟩) 1 1,.slice (some ⟨a0,0,none⟩) 1 1]) rfl (gw rfl fun b5 w8 O a2 P=> ?_)
 have b3:=j2 g.lt O
 have av:=j2 q.lt O
 have aw:=j2 r.lt O
 have ax:=j2 t.lt O
 have cs:=aA o.size O
 have Q:=aA j O
 have g:=g.ga P
 have q:=q.ga P
 have r:=r.ga P
 have t:=t.ga P
 have f:=Rt.ext f P id
 have k:=k.ga P
 have j:=aA j P.size
 have o:=o.gb P
 refine wl (j4 (l':=[.slice (some ⟨Y,0,none⟩) 1 1,.slice (some ⟨a0,0,none⟩) 1 1]) gc a2 rfl rfl rfl rfl OneC.h fun w9 a2 R du=> ?_)
 have g:=g.gj R b3
 have q:=q.gj R av
 have r:=r.gj R aw
 have t:=t.gj R ax
 have f:=Rt.ext f R (fun e=>by have e:0=b5:=e;omega)
 have k:=k.ext R (yv aq (I▸Q))
 have j:=aA j R.size
 have o:=o.gi R cs
 refine qq (gl (ji (α:=Bool×(Nat→Prop)) [1,4] rfl (fun z=>[(46,.bool z.1)]) (fun z u=>(z.1=false∧At u d z.2 swD∧(∀y,z.2 y→w.heap.size≤y∧y≠b4)∧Rt u)∧gz u b4 37 (jn swO Dh)∧Ext No w u) ?_ ?_))
 ·refine gy ?_
  refine j0 gc rfl (uq 30 rfl (fun J=> ?_) (fun J=> ?_))
  ·cases J
  refine gq gc 1 rfl ?_
  refine je a2 rfl rfl ?_
  have ct:h.hs.length+5000<1000000:=by have e:=congrArg (fun s=>s.row.length) k.eq;dsimp only[uh.s] at e;rw[aE] at e;rw[e];decide
  have b6:∀y,StS F2 H sp y→StB F2 H K sp y:=fun y e=>e.imp id fun e=>e.imp id .inr
  have E:∀b,nF≤b→¬StS F2 H sp b:=fun b hb e=>Nat.lt_irrefl _ (aM (aq b (b6 b e)) hb)
  obtain⟨n5,O⟩:∃n,n=w9.heap.size:=⟨_,rfl⟩
  have l4:=g.lt
  have l5:=a2.lt
  have cu:=q.lt
  have cv:=r.lt
  have cw:=t.lt
  have cx:=o.size
  refine gh call15 rfl (xv1 w9 (B:=(swBX Y Z a0)) k b0 zd bj f (fun e=>by have:=X 0 (.inl e);omega) (sw_bat q r t) xz4 ct) fun dv cy bs=> ?_
  obtain⟨rfl,bt,F⟩:=bs
  have g:=g.ext F (E b4 (I▸A))
  have q:=q.ext F (E Y (I▸a9))
  have r:=r.ext F (E Z (I▸ab))
  have t:=t.ext F (E a0 (I▸ac))
  have a2:=a2.ext F (E b5 (I▸Q))
  have j:=aA j F.size
  have o:=o.trans F fun y C e=>by have:=X y (b6 y e);omega
  have f:=Rt.ext f F fun e=>by have:=X 0 (b6 0 e);omega
  rw[←O] at l4 l5 cu cv cw cx
  rw[show(yp ⟨swA,xq1⟩ (qu.d (swBX Y Z a0)))=_ from sw9] at bt⊢
  obtain⟨F3,H3,K3,h3,k3,b9,ba,bu⟩:=bt
  rw[←O] at b9 ba bu
  have b1:∀y,StS F3 H3 sp y→StB F3 H3 K3 sp y:=fun y e=>e.imp id fun e=>e.imp id .inr
  have ah:∀b,nF≤b→b<n5→¬StS F3 H3 sp b:=fun b hb hl e=>by
   rcases e with e|e|e
   ·exact(b9 b e).elim (fun e=>E b hb (.inl e)) fun e=>by omega
   ·exact(ba b e).elim (fun e=>E b hb (.inr (.inl e))) fun e=>by omega
   exact E b hb (.inr (.inr e))
  have a3:∀y,StB F3 H3 K3 sp y→w.heap.size≤y:=fun y C=>by
   rcases C with C|C|C|C
   ·exact(b9 y C).elim (fun e=>X y (.inl e)) fun e=>by omega
   ·exact(ba y C).elim (fun e=>X y (.inr (.inl e))) fun e=>by omega
   ·exact(bu y C).elim (fun e=>X y (.inr (.inr (.inl e)))) fun e=>by omega
   exact X y (.inr (.inr (.inr C)))
  refine gq gc 3 rfl (uq 36 rfl (fun J=> ?_) (fun J=> ?_))
  ·cases J
  refine gq gc 1 rfl ?_
  refine je a2 rfl rfl ?_
  have cz:h3.hs.length+5000<1000000:=by have e:=congrArg (fun s=>s.row.length) k3.eq;dsimp only[uh.s] at e;rw[aE] at e;rw[e];decide
  have m4:=g.lt
  have dw:=o.size
  refine gh call15 rfl (xv1 cy (B:=(swBX Y Z a0)) k3 af zd cn f (fun e=>by have:=a3 0 (.inl e);omega) (sw_bat q r t) swP_ok cz) fun dx d0 bv=> ?_
  obtain⟨rfl,b2,a4⟩:=bv
  have g:=g.ext a4 (ah b4 (I▸A) l4)
  have j:=aA j a4.size
  have o:=o.trans a4 fun y C e=>by have:=a3 y (b1 y e);omega
  have f:=Rt.ext f a4 fun e=>by have:=a3 0 (b1 0 e);omega
  rw[show(yp ⟨swX,swP⟩ (qu.d (swBX Y Z a0)))=_ from sw10] at b2⊢
  obtain⟨F4,H4,K4,h4,k4,bw,dy,dz⟩:=b2
  have ai:∀y,F4 y→w.heap.size≤y:=fun y C=>(bw y C).elim (fun e=>a3 y (.inl e)) fun e=>by omega
  have bx:∀y,F4 y→y≠b4:=fun y C e=>by
   rw[e] at C
   exact(bw b4 C).elim (fun e=>ah b4 (I▸A) l4 (.inl e)) fun e=>by omega
  have d1:=k4.disk
  refine gq gc 3 rfl (uq 42 rfl (fun J=> ?_) (fun J=> ?_))
  ·cases J
  refine gq gc 1 rfl ?_
  refine gh call46 rfl (dk_crash d0 (n:=0) (c:=0) (kp:=none) (keep:=[]) d1 af zd rfl (Sl.nil _ _ _) (fun _ _ e=>by cases e)) fun e0 e1 bz=> ?_
  obtain⟨rfl,ay,a5⟩:=bz
  have g:=g.ext a5 (fun e=>bx _ e rfl)
  have j:=aA j a5.size
  have o:=o.trans a5 fun y C e=>by have:=ai y e;omega
  have f:=Rt.ext f a5 fun e=>by have:=ai 0 e;omega
  refine gq gc 2 rfl (gk ?_)
  exact gr (false,F4) rfl ⟨⟨rfl,ay,fun y C=>⟨ai y C,bx y C⟩,f⟩,g,o⟩
 rintro⟨z,F5⟩ d2 ⟨⟨rfl,ay,aj,f⟩,g,o⟩
 try dsimp only
 dsimp only at ay aj
 refine up rfl (x3 (ki rfl ?_))
 have e2:=o.size
 refine gh call14 rfl (sopen_calls d2 ay bk zd f (fun e=>by have:=(aj 0 e).1;omega)) fun e3 bb c0=> ?_
 obtain⟨so,F6,rfl,e4,ak,e5,df,d3⟩:=c0
 have g:=g.ext ak (fun e=>(aj _ e).2 rfl)
 have o:=o.trans ak fun y C e=>by have:=(aj y e).1;omega
 have f:=Rt.ext f ak fun e=>by have:=(aj 0 e).1;omega
 obtain⟨e6,x6,H6,K6,h6,rfl,L,e7⟩:=d3 ⟨swW,swP⟩ (by rw[sw11])
 have c1:=L.lt
 obtain⟨nG,c2⟩:∃n,n=bb.heap.size:=⟨_,rfl⟩
 rw[←c2] at c1
 rw[show(xj2 swD).2.1=0 from by rw[sw11]]
 have p:=aD bb.heap.size
 refine km rfl (gl (jd rfl (up rfl (x3 (ki rfl (je g rfl (gp Bp) ?_))))))
 refine gh call50 rfl (id6_calls bb Bp (swO_l _) swO_b) fun e8 d4 c3=> ?_
 obtain⟨rfl,S⟩:=c3
 have g:=g.ga S
 have f:=Rt.ext f S id
 have L:=L.ga S
 have p:=aA p S.size
 have o:=o.gb S
 obtain⟨c4,al⟩:∃i,i=Be swO:=⟨_,rfl⟩
 rw[←al]
 have c5:uv c4:=by rw[al];exact vu _
 have c6:c4∈vl swP.row:=by rw[al];exact mem_ids swO
 have d5:=o.size
 refine gh call10 rfl (sget_calls d4 L c5) fun e9 ea c7=> ?_
 obtain⟨o7,a7,rfl,d6,eb,T⟩:=c7
 have g:=g.ga T
 have f:=Rt.ext f T id
 have L:=L.ga T
 have p:=aA p T.size
 have o:=o.gb T
 obtain⟨bc,_,dg,hN⟩:=d6 c6
 have bc:o7=swO:=aI.1 bc
 subst bc
 have hN:=hN.older (W0:=w) d5
 rw[aR c6]
 refine j0 gc rfl (gw rfl fun b7 ec bd ad M=> ?_)
 have bf:=j2 g.lt bd
 have d7:=aA o.size bd
 have az:=aA p bd
 have g:=g.ga M
 have f:=Rt.ext f M id
 have L:=L.ga M
 have hN:=hN.ga M
 have p:=aA p M.size
 have o:=o.gb M
 have ca:=ad
 refine wl (j4 (l':=jn swO a7) gc ad rfl rfl (gp Bp) (by rw[gp Bp];rfl) OneC.h fun d8 ad N dh=> ?_)
 have g:=g.gj N bf
 have f:=Rt.ext f N (fun e=>by have e:0=b7:=e;omega)
 have L:=L.ext N (yv c1 (c2▸az))
 have hN:=hN.gj N ca zd zd zd
 have p:=aA p N.size
 have o:=o.gi N d7
 refine km rfl (ki rfl ?_)
 have ed:=o.size
 refine gh call11 rfl (svalue_calls d8 L swP_ok.rise (n:=[107])) fun ee d9 cb=> ?_
 obtain⟨q8,c8,b8,rfl,bg,am,G⟩:=cb
 have g:=g.ga G
 have ad:=ad.ga G
 have f:=Rt.ext f G id
 have L:=L.ga G
 have hN:=hN.ga G
 have p:=aA p G.size
 have o:=o.gb G
 have bg:b8=[7]:=bg
 subst bg
 rw[show(yq2 swP.vals [107]).isSome=true from rfl]
 refine km rfl (ji (α:=Bool) [] rfl (fun z=>[(0,.bool z)]) (fun z u=>(z=true)∧Ext No w u) ?_ ?_)
 ·refine gy ?_
  refine j0 gc rfl (uq 68 rfl (fun J=> ?_) (fun J=> ?_))
  ·refine je ad rfl (gp Bp) ?_
   refine je g rfl (gp Bp) (gh call17 rfl (same6_calls d9 Bp Bp hN.l (swO_l _) swO_short) fun ef eg cc=> ?_)
   obtain⟨rfl,U⟩:=cc
   have f:=Rt.ext f U id
   have L:=L.ga U
   have am:=am.ga U
   have p:=aA p U.size
   have o:=o.gb U
   rw[show decide (swO=swO)=true from bQ rfl]
   refine j0 gc rfl (uq 73 rfl (fun J=> ?_) (fun J=> ?_))
   ·refine gq gc 3 rfl ?_
    refine uq 76 rfl (fun J=> ?_) (fun J=> ?_)
    ·refine gq gc 1 rfl ?_
     refine wl (qi gc rfl 1 rfl rfl rfl zd zd zt (l':=ge [7]) rfl fun da db cd ce V di=> ?_)
     have cf:=aA p cd
     have f:=Rt.ext f V id
     have L:=L.ga V
     have am:=am.ga V
     have p:=aA p V.size
     have o:=o.gb V
     refine gh call33 rfl (yz4 db (l:=[7]) (m:=[7]) am.sl ⟨rfl,.inr ⟨da,0,rfl,ce.kj⟩⟩ zd) fun eh dc cg=> ?_
     obtain⟨rfl,a6⟩:=cg
     have f:=Rt.ext f a6 id
     have L:=L.ga a6
     have p:=aA p a6.size
     have o:=o.gb a6
     rw[show decide (([7]:List UInt8)=[7])=true from bQ rfl]
     refine j0 gc rfl (uq 81 rfl (fun J=> ?_) (fun J=> ?_))
     ·refine gq gc 1 rfl ?_
      refine gh call18 rfl (snames_calls dc L) fun ei ej ch=> ?_
      obtain⟨q9,c9,rfl,bh,an⟩:=ch
      have f:=Rt.ext f an id
      have p:=aA p an.size
      have o:=o.gb an
      refine wl (qi gc rfl 1 rfl rfl rfl zd zd zt (l':=[y7 [107]]) rfl fun dd de ci cj a8 dj=> ?_)
      have ck:=aA p ci
      have f:=Rt.ext f a8 id
      have bh:=bh.ga a8
      have p:=aA p a8.size
      have o:=o.gb a8
      refine gh call51 rfl (equalS_calls de (l:=[[107]]) (m:=[[107]]) bh.sl ⟨rfl,.inr ⟨dd,0,rfl,cj.kj⟩⟩ zd) fun ek el cl=> ?_
      obtain⟨rfl,ao⟩:=cl
      have f:=Rt.ext f ao id
      have p:=aA p ao.size
      have o:=o.gb ao
      rw[show decide (([[107]]:List Str)=[[107]])=true from bQ rfl]
      refine j0 gc rfl (gk ?_)
      exact gr (true) rfl ⟨rfl,o⟩
     cases J
    cases J
   cases J
  cases J
 rintro z em ⟨rfl,o⟩
 refine j9 (gv rfl rfl ?_)
 exact⟨rfl,o⟩
open Go.Vc Go.WideShapes Go.ChangeShapes Go.ChangeAt Go.RowKit
theorem own:ownKnob prog.godebug=none:=by kernel_rfl
theorem gRoots : prog.globalNamed "confluence/sha.roots" = some 0 := by kernel_rfl
abbrev laidR : List (String × DataW Unit) := [("confluence/sha.roots", Rows.laid_confluence_sha_roots)]
theorem roots_of {W:World} (h:laidMetH prog laidR W):Seg W 0 0 (jt qv):=by
 rw[MakeChecks.laidMetH_plain _ _ _ zk] at h
 have h : laidMet prog [("confluence/sha.roots", Lib.tabData .u32 (qv.map fun x => (x.toNat : Int)))] W := h
 have c:=Lib.tabIs_of_head gRoots (t:=313) (e:=35) (n:=64) zk zk zk zk zk h
 intro i v b
 have a:i<qv.length:=by
  have:=(cY.1 b).1
  simpa [jt] using this
 have d:=c.cell gRoots i (by rw[aE];exact a)
 rw[bD,d,←b,Au qv a]
 rw[cK,cE,aN a]
 rfl
theorem door_met (os:Os) (args:Array Value):laidMetH prog laidR ((World.doorLaid prog 400 os).forCall (fun _ _=>0) ⟨#[],args,[]⟩).memory:=
 laidMetH_of_parts3 (fuel:=70) (laidMet_of_run' 70 zk zk) zk zk
open Go.Vc Go.WideShapes Go.ChangeShapes
section
variable {H:Type} {enc:TypeId×Value→H} {W:World} {sp:Nat→Bool} {held:Bool}
theorem list_of {α β:Type} {R:α→β→Prop}:∀(L:List β),(∀r∈L,∃a,R a r)→∃l:List α,l.length=L.length∧∀(i:Nat) (a:α) (r:β),l[i]? =some a→L[i]? =some r→R a r
 | [],_=>⟨[],rfl,fun i a r h=>by simp at h⟩
 |r::L,h=>by
  obtain⟨a,ha⟩:=h r zp
  obtain⟨l,h1,h2⟩:=list_of L fun x hx=>h x (by simp[hx])
  refine⟨a::l,by simp[h1],fun i b x hb hx=> ?_⟩
  cases i with
  |zero=>simp at hb hx;subst hb;subst hx;exact ha
  |succ i=>exact h2 i b x (by simpa using hb) (by simpa using hx)
theorem open_list {α:Type} {cells:α→List Value} {ok:α→Prop} {fuel t e m:Nat} {cs:List Value} {x:DataW H×List MemPlace} (ht:prog.underlying t=some (.slice e)) (hm:prog.cellsOf e=m) (hm0:0<m)
  (hrow:∀{k:Nat} {r:List Value} {y:DataW H×List MemPlace},DataW.trod enc prog W 0 sp held k e r=some y→∃a,r=cells a∧ok a)
  (h:DataW.trod enc prog W 0 sp held fuel t cs=some x):
  ∃(p:Option Addr) (l:List α) (c:Nat),cs=[.slice p l.length c]∧l.length≤c∧c≤maxLen∧Sl W p l.length m (l.flatMap cells)∧(∀a∈l,ok a)∧(l≠[]→∀b off,p=some ⟨b,off,none⟩→b<W.heap.size):=by
 obtain⟨p,n,c,L,rfl,u,v,D,E,w,f,z⟩:=open_rows ht hm hm0 h
 obtain⟨l,F,q⟩:=list_of (R:=fun a r=>r=cells a∧ok a) L fun r g=>by
  obtain⟨k,y,A⟩:=z r g
  exact hrow A
 have e:L=l.map cells:=by
  apply List.ext_getElem?
  intro i
  rw[cE]
  by_cases s:i<l.length
  ·have d:i<L.length:=by omega
   have:=(q i l[i] L[i] zp zp).1
   simp[s,d,this]
  rw[cD zo,cD zo];rfl
 have j:l.length=n:=by omega
 subst j
 refine⟨p,l,c,rfl,u,v,by rw[List.flatMap_def,←e];exact w,fun a B=> ?_,fun o=>f fun C=>o (aZ C)⟩
 obtain⟨i,s,rfl⟩:=bJ.1 B
 have d:i<L.length:=by omega
 exact(q i l[i] L[i] zp zp).2
theorem open_byte {fuel:Nat} {cs:List Value} {x:DataW H×List MemPlace} (h:DataW.trod enc prog W 0 sp held fuel 5 cs=some x):∃b:UInt8,cs=[zu b]:=by
 obtain⟨n,rfl,_,a⟩:=DataW.trod_int Tryz.underlying5 h
 have a:0≤n∧n≤255:=by simpa [Lit.wf,IntKind.min,IntKind.max,IntKind.signed,IntKind.bits] using a
 refine⟨UInt8.ofNat n.toNat,?_⟩
 show _=[Value.int .u8 ((UInt8.ofNat n.toNat).toNat:Int)]
 have e:(UInt8.ofNat n.toNat).toNat=n.toNat:=UInt8.toNat_ofNat_of_lt' (by show n.toNat<256;omega)
 rw[e,Int.toNat_of_nonneg a.1]
theorem yq5 {fuel:Nat} {cs:List Value} {x:DataW H×List MemPlace} (h:DataW.trod enc prog W 0 sp held fuel 9 cs=some x):∃s:Str,cs=[y7 s]∧s.length≤maxLen:=by
 obtain⟨s,rfl,_,a⟩:=DataW.trod_string Tryz.underlying9 h
 exact⟨s.data.toList,by show _=[Value.string (ul s.data.toList)];rw[strU_of],a⟩
theorem open_id {fuel:Nat} {cs:List Value} {x:DataW H×List MemPlace} (h:DataW.trod enc prog W 0 sp held fuel 30 cs=some x):∃l:List UInt8,cs=ge l∧l.length=32:=by
 obtain⟨n,m,rfl,_,c,o,d⟩:=DataW.trod_array Tryz.underlying30 h
 have p:prog.cellsOf 5=1:=by kernel_rfl
 have e:prog.cellsOf 30=32:=by kernel_rfl
 rw[e] at c
 obtain⟨l,s,q⟩:=list_of (R:=fun(b:UInt8) v=>v=zu b) cs fun v r=>by
  obtain⟨i,f,rfl⟩:=bJ.1 r
  have a:i<32:=by omega
  have j:=d i a
  rw[p,bE,aN (show i<n.length by rw[o];exact a)] at j
  obtain⟨b,k⟩:=open_byte j
  rw[bY f,List.take_succ_cons,List.take_zero] at k
  exact⟨b,(List.cons.inj k).1⟩
 refine⟨l,?_,by omega⟩
 apply List.ext_getElem?
 intro i
 rw[ge,cE]
 by_cases f:i<l.length
 ·have g:i<cs.length:=by omega
  have:=q i l[i] cs[i] zp zp
  simp[f,g,this]
 rw[cD zo,cD zo];rfl
theorem uy (cs:List Value) (o n:Nat):cs.drop o=(cs.drop o).take n++cs.drop (o+n):=by
 rw[←List.drop_drop,cS]
theorem open_leaf {fuel:Nat} {cs:List Value} {x:DataW H×List MemPlace} (h:DataW.trod enc prog W 0 sp held fuel 148 cs=some x):∃r:jf,cs=r.cells∧r.path.length≤maxLen∧r.id.length=32:=by
 obtain⟨j,k,rfl,_,a,b,f⟩:=DataW.trod_struct Tryz.underlying148 h
 have c:prog.cellsOf 148=33:=by kernel_rfl
 have m:prog.cellsOf 9=1:=by kernel_rfl
 have d:prog.cellsOf 30=32:=by kernel_rfl
 have b:j.length=2:=b
 have g:DataW.trod enc prog W 0 sp held k 9 ((cs.drop 0).take (prog.cellsOf 9))=_:=f 0 _ rfl
 have i:DataW.trod enc prog W 0 sp held k 30 ((cs.drop 1).take (prog.cellsOf 30))=_:=f 1 _ rfl
 rw[m,aN zo] at g
 rw[d,aN zo] at i
 obtain⟨s,n,o⟩:=yq5 g
 obtain⟨l,p,q⟩:=open_id i
 rw[c] at a
 refine⟨⟨s,l⟩,?_,o,q⟩
 have e:cs=cs.drop 0:=rfl
 rw[e,uy cs 0 1,n,uy cs (0+1) 32,p,bM zo,bK]
 rfl
theorem open_chg {fuel:Nat} {cs:List Value} {x:DataW H×List MemPlace} (h:DataW.trod enc prog W 0 sp held fuel 150 cs=some x):∃r:u9,cs=r.cells∧r.path.length≤maxLen∧r.text.length≤maxLen:=by
 obtain⟨l,k,rfl,_,a,c,d⟩:=DataW.trod_struct Tryz.underlying150 h
 have f:prog.cellsOf 150=3:=by kernel_rfl
 have m:prog.cellsOf 9=1:=by kernel_rfl
 have n:prog.cellsOf 4=1:=by kernel_rfl
 have c:l.length=3:=c
 have g:DataW.trod enc prog W 0 sp held k 9 ((cs.drop 0).take (prog.cellsOf 9))=_:=d 0 _ rfl
 have i:DataW.trod enc prog W 0 sp held k 4 ((cs.drop 1).take (prog.cellsOf 4))=_:=d 1 _ rfl
 have j:DataW.trod enc prog W 0 sp held k 9 ((cs.drop 2).take (prog.cellsOf 9))=_:=d 2 _ rfl
 rw[m,aN zo] at g j
 rw[n,aN zo] at i
 obtain⟨s,o,p⟩:=yq5 g
 obtain⟨b,q,_⟩:=DataW.trod_bool Tryz.underlying4 i
 obtain⟨t,u,v⟩:=yq5 j
 rw[f] at a
 refine⟨⟨s,b,t⟩,?_,p,v⟩
 have e:cs=cs.drop 0:=rfl
 rw[e,uy cs 0 1,o,uy cs (0+1) 1,q,uy cs (0+1+1) 1,u,bM zo,bK]
 rfl
theorem open_u32 {fuel:Nat} {cs:List Value} {x:DataW H×List MemPlace} (h:DataW.trod enc prog W 0 sp held fuel 35 cs=some x):∃n:Nat,cs=[.int .u32 (n:Int)]∧n<2^32:=by
 obtain⟨n,rfl,_,a⟩:=DataW.trod_int Tryz.underlying35 h
 have a:0≤n∧n≤4294967295:=by simpa [Lit.wf,IntKind.min,IntKind.max,IntKind.signed,IntKind.bits] using a
 exact⟨n.toNat,by rw[Int.toNat_of_nonneg a.1],by omega⟩
theorem open_obj {fuel:Nat} {cs:List Value} {x:DataW H×List MemPlace} (h:DataW.trod enc prog W 0 sp held fuel 37 cs=some x):∃(o:jq) (a:vb),cs=jn o a∧ArgO W (o,a):=by
 obtain⟨xs,k,rfl,_,d,f,b⟩:=DataW.trod_struct Tryz.underlying37 h
 have p:prog.cellsOf 37=73:=by kernel_rfl
 have k3:prog.cellsOf 3=1:=by kernel_rfl
 have k9:prog.cellsOf 9=1:=by kernel_rfl
 have q:prog.cellsOf 28=1:=by kernel_rfl
 have s:prog.cellsOf 31=1:=by kernel_rfl
 have g:prog.cellsOf 30=32:=by kernel_rfl
 have t:prog.cellsOf 34=1:=by kernel_rfl
 have u:prog.cellsOf 32=1:=by kernel_rfl
 have v:prog.cellsOf 35=1:=by kernel_rfl
 have f:xs.length=11:=f
 have M:DataW.trod enc prog W 0 sp held k 3 ((cs.drop 0).take (prog.cellsOf 3))=_:=b 0 _ rfl
 have N:DataW.trod enc prog W 0 sp held k 9 ((cs.drop 1).take (prog.cellsOf 9))=_:=b 1 _ rfl
 have O:DataW.trod enc prog W 0 sp held k 28 ((cs.drop 2).take (prog.cellsOf 28))=_:=b 2 _ rfl
 have P:DataW.trod enc prog W 0 sp held k 3 ((cs.drop 3).take (prog.cellsOf 3))=_:=b 3 _ rfl
 have Q:DataW.trod enc prog W 0 sp held k 30 ((cs.drop 4).take (prog.cellsOf 30))=_:=b 4 _ rfl
 have R:DataW.trod enc prog W 0 sp held k 30 ((cs.drop 36).take (prog.cellsOf 30))=_:=b 5 _ rfl
 have S:DataW.trod enc prog W 0 sp held k 31 ((cs.drop 68).take (prog.cellsOf 31))=_:=b 6 _ rfl
 have T:DataW.trod enc prog W 0 sp held k 34 ((cs.drop 69).take (prog.cellsOf 34))=_:=b 7 _ rfl
 have U:DataW.trod enc prog W 0 sp held k 35 ((cs.drop 70).take (prog.cellsOf 35))=_:=b 8 _ rfl
 have V:DataW.trod enc prog W 0 sp held k 35 ((cs.drop 71).take (prog.cellsOf 35))=_:=b 9 _ rfl
 have i:DataW.trod enc prog W 0 sp held k 9 ((cs.drop 72).take (prog.cellsOf 9))=_:=b 10 _ rfl
 rw[k3,aN zo] at M P
 rw[k9,aN zo] at N i
 rw[q,aN zo] at O
 rw[g,aN zo] at Q R
 rw[s,aN zo] at S
 rw[t,aN zo] at T
 rw[v,aN zo] at U V
 obtain⟨j,e0,_,_⟩:=DataW.trod_int Tryz.underlying3 M
 obtain⟨tx,e1,_⟩:=yq5 N
 obtain⟨lp,ll,lc,e2,w,_,y,z,_⟩:=open_list (cells:=jf.cells) (ok:=fun r=>r.path.length≤maxLen∧r.id.length=32) Tryz.underlying28 (by kernel_rfl:prog.cellsOf 148=33) zd (fun h=>open_leaf h) O
 obtain⟨st,e3,_,_⟩:=DataW.trod_int Tryz.underlying3 P
 obtain⟨l,e4,ht⟩:=open_id Q
 obtain⟨m,e5,hb⟩:=open_id R
 obtain⟨pp,pl,pc,e6,A,_,B,C,_⟩:=open_list (cells:=ge) (ok:=fun r=>r.length=32) Tryz.underlying31 g zd (fun h=>open_id h) S
 obtain⟨D,k2,_,_,E,c,F⟩:=DataW.trod_struct Tryz.underlying34 T
 have c:D.length=1:=c
 have n:DataW.trod enc prog W 0 sp held k2 32 (((((cs.drop 69).take 1)).drop 0).take (prog.cellsOf 32))=_:=F 0 _ rfl
 rw[u,aN zo] at n
 obtain⟨X,Y,Z,G,I,_,J,K,_⟩:=open_list (cells:=u9.cells) (ok:=fun r=>r.path.length≤maxLen∧r.text.length≤maxLen) Tryz.underlying32 (by kernel_rfl:prog.cellsOf 150=3) zd (fun h=>open_chg h) n
 have G:(cs.drop 69).take 1=[.slice X Y.length Z]:=by rw[←G,List.drop_zero,List.take_take];rfl
 obtain⟨nu,e8,h8⟩:=open_u32 U
 obtain⟨au,e9,h9⟩:=open_u32 V
 obtain⟨no,L,_⟩:=yq5 i
 rw[p] at d
 refine⟨⟨j,tx,ll,st,l,m,pl,Y,nu,au,no⟩,⟨lp,lc,pp,pc,X,Z⟩,?_,⟨⟨ht,hb,C,z,K,h8,h9⟩,⟨y,B,J⟩,⟨w,A,I⟩⟩⟩
 have e:cs=cs.drop 0:=rfl
 rw[e,uy cs 0 1,e0,uy cs (0+1) 1,e1,uy cs (0+1+1) 1,e2,uy cs (0+1+1+1) 1,e3,uy cs (0+1+1+1+1) 32,e4,uy cs (0+1+1+1+1+32) 32,e5,
  uy cs (0+1+1+1+1+32+32) 1,e6,uy cs (0+1+1+1+1+32+32+1) 1,G,uy cs (0+1+1+1+1+32+32+1+1) 1,e8,uy cs (0+1+1+1+1+32+32+1+1+1) 1,e9,
  uy cs (0+1+1+1+1+32+32+1+1+1+1) 1,L,bM zo,bK]
 rfl
theorem open_bytes {fuel:Nat} {cs:List Value} {x:DataW H×List MemPlace} (h:DataW.trod enc prog W 0 sp held fuel 41 cs=some x):∃(p:Option Addr) (l:Bytes) (c:Nat),cs=[.slice p l.length c]∧l.length≤c∧ux W p l:=by
 obtain⟨p,l,c,e,d,_,a,_,_⟩:=open_list (cells:=fun b=>[zu b]) (ok:=fun _=>True) Tryz.underlying41 (by kernel_rfl:prog.cellsOf 5=1) zd (fun h=>by obtain⟨b,f⟩:=open_byte h;exact⟨b,f,trivial⟩) h
 have g:l.flatMap (fun b=>[zu b])=ge l:=by rw[ge,List.map_eq_flatMap]
 rw[g] at a
 exact⟨p,l,c,e,d,a⟩
theorem open_set {fuel:Nat} {cs:List Value} {x:DataW H×List MemPlace} (h:DataW.trod enc prog W 0 sp held fuel 91 cs=some x):∃s:By,cs=uz s∧ArgS W s:=by
 obtain⟨q,k,rfl,_,a,b,c⟩:=DataW.trod_struct Tryz.underlying91 h
 have r:prog.cellsOf 91=5:=by kernel_rfl
 have t:prog.cellsOf 9=1:=by kernel_rfl
 have u:prog.cellsOf 4=1:=by kernel_rfl
 have d:prog.cellsOf 41=1:=by kernel_rfl
 have b:q.length=5:=b
 have l:DataW.trod enc prog W 0 sp held k 9 ((cs.drop 0).take (prog.cellsOf 9))=_:=c 0 _ rfl
 have m:DataW.trod enc prog W 0 sp held k 4 ((cs.drop 1).take (prog.cellsOf 4))=_:=c 1 _ rfl
 have n:DataW.trod enc prog W 0 sp held k 4 ((cs.drop 2).take (prog.cellsOf 4))=_:=c 2 _ rfl
 have o:DataW.trod enc prog W 0 sp held k 41 ((cs.drop 3).take (prog.cellsOf 41))=_:=c 3 _ rfl
 have p:DataW.trod enc prog W 0 sp held k 41 ((cs.drop 4).take (prog.cellsOf 41))=_:=c 4 _ rfl
 rw[t,aN zo] at l
 rw[u,aN zo] at m n
 rw[d,aN zo] at o p
 obtain⟨s,v,_⟩:=yq5 l
 obtain⟨w,y,_⟩:=DataW.trod_bool Tryz.underlying4 m
 obtain⟨z,A,_⟩:=DataW.trod_bool Tryz.underlying4 n
 obtain⟨B,C,D,E,f,g⟩:=open_bytes o
 obtain⟨F,G,I,J,i,j⟩:=open_bytes p
 rw[r] at a
 refine⟨(⟨s,w,z,C,G⟩,⟨B,D,F,I⟩),?_,⟨g,j,f,i⟩⟩
 have e:cs=cs.drop 0:=rfl
 rw[e,uy cs 0 1,v,uy cs (0+1) 1,y,uy cs (0+1+1) 1,A,uy cs (0+1+1+1) 1,E,uy cs (0+1+1+1+1) 1,J,bM zo,bK]
 rfl
theorem open_bat {fuel:Nat} {cs:List Value} {x:DataW H×List MemPlace} (h:DataW.trod enc prog W 0 sp held fuel 25 cs=some x):∃B:qu,cs=B.c∧BatArg W B:=by
 obtain⟨t,k,rfl,_,b,d,q⟩:=DataW.trod_struct Tryz.underlying25 h
 have u:prog.cellsOf 25=2:=by kernel_rfl
 have f:prog.cellsOf 22=1:=by kernel_rfl
 have g:prog.cellsOf 23=1:=by kernel_rfl
 have d:t.length=2:=d
 have r:DataW.trod enc prog W 0 sp held k 22 ((cs.drop 0).take (prog.cellsOf 22))=_:=q 0 _ rfl
 have s:DataW.trod enc prog W 0 sp held k 23 ((cs.drop 1).take (prog.cellsOf 23))=_:=q 1 _ rfl
 rw[f,aN zo] at r
 rw[g,aN zo] at s
 obtain⟨v,w,y,z,i,_,j,l,_⟩:=open_list (cells:=B6) (ok:=ArgO W) Tryz.underlying22 (by kernel_rfl:prog.cellsOf 37=73) zd (fun h=>by obtain⟨o,a,e,h⟩:=open_obj h;exact⟨(o,a),e,h⟩) r
 obtain⟨sp,A,C,D,m,_,n,p,_⟩:=open_list (cells:=uz) (ok:=ArgS W) Tryz.underlying23 (by kernel_rfl:prog.cellsOf 91=5) zd (fun h=>open_set h) s
 rw[u] at b
 refine⟨⟨v,y,w,sp,C,A⟩,?_,⟨j,n,l,p,i,m⟩⟩
 have e:cs=cs.drop 0:=rfl
 rw[e,uy cs 0 1,z,uy cs (0+1) 1,D,bM zo,bK]
 rfl
end
theorem side10_calls (w:World) {q:Bool} {p:Option Addr} {c:Nat} {l:Bytes}:
  gn prog 95 [.bool q,.slice p l.length c] w fun v w'=>v= .bool (decide (zv7 q l))∧w'=w:=by
 refine gx func95 ?_
 have b:=Ext.refl No w
 refine jd rfl (ji (α:=Bool) [] rfl (fun z=>[(4,.bool z)]) (fun z u=>(z=decide (zv7 q l)∧u=w)∧Ext No w u) ?_ ?_)
 ·refine gy ?_
  refine j0 gc rfl (ja 8 rfl (fun a=> ?_) (fun a=> ?_))
  ·have d:l.length=0:=by omega
   refine gq gc 8 rfl (gk ?_)
   exact gr (true) rfl ⟨⟨by symm;rw[aU];exact⟨by omega,.inr d⟩,rfl⟩,b⟩
  have d:¬l.length=0:=by omega
  refine gq gc 2 rfl (uq 10 rfl (fun a=> ?_) (fun a=> ?_))
  ·refine gq gc 6 rfl ?_
   refine gk ?_
   exact gr (_) rfl ⟨⟨by rw[aH];exact⟨fun h=>⟨by omega,.inl a⟩,fun h=>(by have:=h.1;omega)⟩,rfl⟩,b⟩
  refine gq gc 6 rfl ?_
  refine gk ?_
  exact gr (_) rfl ⟨⟨by symm;rw[aC];exact fun h=>h.2.elim (fun e=>(by rw[a] at e;cases e)) d,rfl⟩,b⟩
 rintro z f ⟨⟨rfl,rfl⟩,b⟩
 refine j9 (gv rfl rfl ?_)
 exact⟨rfl,rfl⟩
theorem may10_calls (w:World) {b:qu} (h:C9 w b):
  gn prog 32 [b.v] w fun v w'=>v= .bool (decide (z7 b.d))∧Ext No w w':=by
 have hlo:=h.lo
 have hls:=h.ls
 refine gx func32 ?_
 have hX:=Ext.refl No w
 refine ko (gw rfl fun b1 w1 hn1 hb1 hE1=> ?_)
 have hX:=hX.gb hE1
 have hb1:gz w1 b1 25 (b.c):=hb1
 refine km rfl (gl (jd rfl (j8 ?_)))
 refine jj (α:=Nat) [1] rfl (fun z=>[(3,.int .i64 (z:Int))]) (fun z u=>(z≤b.os.length∧∀x∈b.os.take z,x9 x.1)∧gz u b1 25 (b.c)∧Ext No w u) (fun z u=>b.os.length-z) (0) rfl ⟨⟨aJ _,fun _ h=>(by cases h)⟩,hb1,hX⟩ ?_
 rintro i w2 ⟨⟨hi,hall⟩,hb1,hX⟩
 refine gl (ki rfl (gu rfl (hb1.cell rfl) (km rfl (jl rfl (fun hc=> ?_) (fun hc=> ?_)))))
 ·have hi2:i<b.os.length:=by omega
  obtain⟨q,qo,hp,hsq⟩:=h.os.qd (yq1 fun x hx=>(h.o x hx).i) zo
  have ho:=h.o _ (aG hi2)
  refine Ac (ki rfl ?_)
  have hb1o:gz w2 b1 25 [.slice (some ⟨q,qo,none⟩) b.os.length b.oc,.slice b.sp b.ss.length b.sc]:=by have e:=hb1;rw[qu.c,hp] at e;exact e
  refine gu rfl (hb1o.cell rfl) (j0 gc rfl (ka rfl 73 rfl i rfl hi2 (qo+i*73) rfl (jm rfl ((hsq i hi2).ga hX) (gp ho.i) ?_)))
  refine gh call94 rfl (right6_calls w2 ho.i (ho.l.ga hX) ho.s) fun v3 w3 hr3=> ?_
  obtain⟨rfl,hE3⟩:=hr3
  have hb1:=hb1.ga hE3
  have hX:=hX.gb hE3
  refine km rfl (ud rfl (fun hc=> ?_) (fun hc=> ?_))
  ·have hk:¬x9 b.os[i].1:=by simpa using hc
   refine jd rfl (j9 (gGl (gv rfl rfl ?_)))
   exact⟨by rw[bO (may_os hi2 hk)],hX⟩
  have hk:x9 b.os[i].1:=by simpa using hc
  refine kc (Aa rfl ?_)
  rw[jz _ zo]
  refine gk ?_
  exact jk (i+1) rfl ⟨⟨hi2,fun x hx=>by rw[aQ hi2] at hx;rcases aY.1 hx with hx|hx;exact hall x hx;rw[aI.1 hx];exact hk⟩,hb1,hX⟩ zf
 have h0:i=b.os.length:=by omega
 subst h0
 rw[bZ] at hall
 refine Ak (gl (jd rfl (j8 ?_)))
 refine jj (α:=Nat) [1] rfl (fun z=>[(4,.int .i64 (z:Int))]) (fun z u=>(z≤b.ss.length∧zv3 ((b.ss.map Prod.fst).take z))∧gz u b1 25 (b.c)∧Ext No w u) (fun z u=>b.ss.length-z) (0) rfl ⟨⟨aJ _,⟨fun _ h=>(by cases h),List.Pairwise.nil⟩⟩,hb1,hX⟩ ?_
 rintro j w4 ⟨⟨hj,hsk⟩,hb1,hX⟩
 refine gl (ki rfl (gu rfl (hb1.cell rfl) (km rfl (jl rfl (fun hc=> ?_) (fun hc=> ?_)))))
 ·have hj2:j<b.ss.length:=by omega
  have hj3:j<(b.ss.map Prod.fst).length:=by rw[aE];exact hj2
  obtain⟨q,qo,hp,hsq⟩:=h.ss.qd (fun x _=>Bh x) zo
  have hse:=h.s _ (aG hj2)
  have hgj:(b.ss.map Prod.fst)[j]=b.ss[j].1:=bR ..
  have hstep:=setsOk_step hj3
  rw[hgj] at hstep
  refine Ac (ki rfl ?_)
  have hb1o:gz w4 b1 25 [.slice b.op b.os.length b.oc,.slice (some ⟨q,qo,none⟩) b.ss.length b.sc]:=by have e:=hb1;rw[qu.c,hp] at e;exact e
  refine gu rfl (hb1o.cell rfl) (j0 gc rfl (ka rfl 5 rfl j rfl hj2 (qo+j*5) rfl (jm rfl ((hsq j hj2).ga hX) rfl (gw rfl fun b5 w5 hn5 hb5 hE5=> ?_))))
  have ne1_5:=j2 hb1.lt hn5
  have fr5:=aA hX.size hn5
  have hb1:=hb1.ga hE5
  have hX:=hX.gb hE5
  refine wl (j4 (l':=uz b.ss[j]) gc hb5 rfl rfl rfl rfl OneC.h fun w6 hb5 hE6 hs6=> ?_)
  have hb1:=hb1.gj hE6 ne1_5
  have hX:=hX.gi hE6 fr5
  refine qq (gl (ji (α:=Bool) [1,4,5] rfl (fun z=>[(57,.bool z)]) (fun z u=>(z=decide (¬D9 b.ss[j].1))∧gz u b1 25 (b.c)∧gz u b5 91 (uz b.ss[j])∧Ext No w u) ?_ ?_))
  ·refine gy ?_
   refine j0 gc rfl (j6 hb5 rfl rfl (j0 gc rfl (ja 36 rfl (fun hg=> ?_) (fun hg=> ?_))))
   ·have hbad:¬D9 b.ss[j].1:=fun k=>k.1 (xt hg)
    refine gq gc 21 rfl (gk ?_)
    exact gr (true) rfl ⟨by symm;rw[aU];exact hbad,hb1,hb5,hX⟩
   have h1:b.ss[j].1.name≠[]:=fun e=>hg (by rw[e];rfl)
   refine gq gc 1 rfl (j6 hb5 rfl rfl (gq gc 4 rfl (ja 42 rfl (fun hg=> ?_) (fun hg=> ?_))))
   ·have hbad:¬D9 b.ss[j].1:=fun k=>by have:=k.2.1;have e:(ul b.ss[j].1.name).size=b.ss[j].1.name.length:=rfl;omega
    refine gq gc 15 rfl (gk ?_)
    exact gr (true) rfl ⟨by symm;rw[aU];exact hbad,hb1,hb5,hX⟩
   have h2:b.ss[j].1.name.length≤32:=by have e:(ul b.ss[j].1.name).size=b.ss[j].1.name.length:=rfl;omega
   refine gq gc 1 rfl (j6 hb5 rfl rfl (gq gc 1 rfl (j6 hb5 rfl rfl (gh call95 rfl (side10_calls w6 (q:=b.ss[j].1.was) (l:=b.ss[j].1.old)) fun v7 w7 hr7=> ?_))))
   obtain⟨rfl,rfl⟩:=hr7
   refine gq gc 3 rfl (uq 50 rfl (fun hg=> ?_) (fun hg=> ?_))
   ·have hbad:¬D9 b.ss[j].1:=fun k=>by have:=k.2.2.1;simp[this] at hg
    refine gq gc 7 rfl (gk ?_)
    exact gr (true) rfl ⟨by symm;rw[aU];exact hbad,hb1,hb5,hX⟩
   have h3:zv7 b.ss[j].1.was b.ss[j].1.old:=by simpa using hg
   refine gq gc 1 rfl (j6 hb5 rfl rfl (gq gc 1 rfl (j6 hb5 rfl rfl (gh call95 rfl (side10_calls w7 (q:=b.ss[j].1.is) (l:=b.ss[j].1.new)) fun v8 w8 hr8=> ?_))))
   obtain⟨rfl,rfl⟩:=hr8
   refine gq gc 2 rfl (gk ?_)
   exact gr (_) rfl ⟨by rw[←decide_not,aH];exact⟨fun k l=>k l.2.2.2,fun k l=>k ⟨h1,h2,h3,l⟩⟩,hb1,hb5,hX⟩
  rintro z w9 ⟨rfl,hb1,hb5,hX⟩
  refine jl rfl (fun hc=> ?_) (fun hc=> ?_)
  ·have hno:¬z7 b.d:=fun k=>setsOk_no hj3 (fun l=>hc (hstep.1 l).2.1) k.2.2.2
   refine jd rfl (j9 (j7 (gGl (gv rfl rfl ?_))))
   exact⟨by rw[bO hno],hX⟩
  have hse2:D9 b.ss[j].1:=aS.1 hc
  refine x3 (jd rfl (j8 ?_))
  refine jj (α:=Nat) [1,4,5] rfl (fun z=>[(6,.int .i64 (z:Int))]) (fun z u=>(z≤j∧b.ss[j].1.name∉((b.ss.map Prod.fst).take z).map yo.name)∧gz u b1 25 (b.c)∧gz u b5 91 (uz b.ss[j])∧Ext No w u) (fun z u=>j-z) (0) rfl ⟨⟨aJ _,fun h=>(by cases h)⟩,hb1,hb5,hX⟩ ?_
  rintro k w10 ⟨⟨hk,hkn⟩,hb1,hb5,hX⟩
  refine gl (jd rfl (jl rfl (fun hc=> ?_) (fun hc=> ?_)))
  ·have hk2:k<j:=by omega
   have hk4:k<b.ss.length:=by omega
   have hk3:k<(b.ss.map Prod.fst).length:=by rw[aE];exact hk4
   have hgk:(b.ss.map Prod.fst)[k]=b.ss[k].1:=bR ..
   have hb1o:gz w10 b1 25 [.slice b.op b.os.length b.oc,.slice (some ⟨q,qo,none⟩) b.ss.length b.sc]:=by have e:=hb1;rw[qu.c,hp] at e;exact e
   refine Ac (gl (jr rfl 9 [qP 0,qP 1,qP 2,qP 3,qP 4,qP 5,qP 6,qP 7,qP 8] [] (No) zk fun w11 hE11 hs11=> ?_))
   have hd5:=hb5
   have hXd:=hX
   have hb1:=hb1.ga hE11
   have hb5:=hb5.ga hE11
   have hX:=hX.gb hE11
   refine gt gc 1 rfl (j3 gc rfl rfl (fun w' hw'=>((hb1o.ga hw').cell rfl)) ?_)
   refine gt gc 1 rfl (qk gc rfl rfl 5 rfl k rfl hk4 (qo+k*5) rfl (gt gc 1 rfl (j3 gc rfl rfl (fun w' hw'=>(((hsq k hk4).ga (hXd.gb hw')) 0 _ rfl)) ?_)))
   refine gt gc 1 rfl (j3 gc rfl rfl (fun w' hw'=>(hd5.ga hw').cell rfl) ?_)
   refine gt gc 1 rfl (jg (j5 (jp (jl rfl (fun hc=> ?_) (fun hc=> ?_)))))
   ·have hno:¬z7 b.d:=fun l=>setsOk_no hj3 (fun l=>(hstep.1 l).2.2 (bN.2 ⟨b.ss[k].1,by rw[←hgk];exact bJ.2 ⟨k,by rw[aL];omega,List.getElem_take⟩,xt hc⟩)) l.2.2.2
    refine jd rfl (j9 (u1 (j7 (j7 (u1 (gGl (gv rfl rfl ?_)))))))
    exact⟨by rw[bO hno],hX⟩
   have hne:b.ss[k].1.name≠b.ss[j].1.name:=fun e=>hc (by rw[e])
   refine kc (Aa rfl ?_)
   rw[jz _ zo]
   refine gk ?_
   exact jk (k+1) rfl ⟨⟨hk2,by rw[aQ hk3,bX,hgk,aY];exact fun e=>e.elim hkn fun e=>hne (aI.1 e).symm⟩,hb1,hb5,hX⟩ zf
  have h0:j=k:=by omega
  subst h0
  have hyes:=hstep.2 ⟨hsk,hse2,hkn⟩
  refine y8 (ql (ql (ve (Aa rfl ?_))))
  rw[jz _ zo]
  refine gk ?_
  exact jk (j+1) rfl ⟨⟨hj2,hyes⟩,hb1,hX⟩ zf
 have h0:j=b.ss.length:=by omega
 subst h0
 rw[aO (by rw[aE];exact aD _)] at hsk
 refine Ak (ji (α:=Bool) [] rfl (fun z=>[(2,.bool z)]) (fun z u=>(z=decide (b.os.length≤4096∧b.ss.length≤128))∧gz u b1 25 (b.c)∧Ext No w u) ?_ ?_)
 ·refine gy ?_
  refine j0 gc rfl (gu rfl (hb1.cell rfl) (j0 gc rfl (ja 76 rfl (fun hg=> ?_) (fun hg=> ?_))))
  ·have h1:b.os.length≤4096:=by omega
   refine gq gc 1 rfl (gu rfl (hb1.cell rfl) (gq gc 4 rfl (gk ?_)))
   exact gr (_) rfl ⟨by rw[aH];omega,hb1,hX⟩
  have h1:¬b.os.length≤4096:=by omega
  refine gq gc 6 rfl (gk ?_)
  exact gr (_) rfl ⟨by symm;rw[aC];omega,hb1,hX⟩
 rintro z w12 ⟨rfl,hb1,hX⟩
 refine j9 (gv rfl rfl ?_)
 exact⟨by congr 1;rw[aH];unfold z7;simp only[qu.d,aE];exact⟨fun e=>⟨e.1,e.2,fun o ho=>(by obtain⟨x,hx,rfl⟩:=bN.1 ho;exact hall x hx),hsk⟩,fun e=>⟨e.1,e.2.1⟩⟩,hX⟩
theorem flag_be (f:Bool):be 1 (if f then 1 else 0)=[isB f]:=by cases f<;>rfl
theorem zj9 (w:World) {p:Option Addr} {c:Nat} {l:Bytes} (h:ux w p l) (hl:l.length<900000000) (k:Nat) (hk:k<9):
  gn prog 98 [.slice p l.length c,.int .i64 (k:Int)] w fun v w'=>∃q c,v= .slice q (vz k l).length c∧k8 w w' q (vz k l).length c 5 1 (ge (vz k l))∧Ext No w w':=by
 refine gx func98 ?_
 have a:=Ext.refl No w
 refine jd rfl (ki rfl ?_)
 rw[cU _ zo]
 refine j0 gc rfl ?_
 have e:=a
 refine gh call96 rfl (A1 k zo w l.length zo) fun B u f=> ?_
 obtain⟨g,i,rfl,b,j,m⟩:=f
 have a:=a.gb m
 have b:k8 w u g (be k l.length).length i 5 1 (ge (be k l.length)):=⟨by rw[jy];exact b,fun y n=>aA e.size (j y n)⟩
 rw[show Value.slice g k i= .slice g (be k l.length).length i from by rw[jy]]
 refine j0 gc rfl ?_
 have o:=a
 refine gh call97 rfl (ym u b.sl (h.ga a) (by rw[jy];omega) zo) fun C A r=> ?_
 obtain⟨x,z,rfl,d,s,t⟩:=r
 have a:=a.gb t
 have d:k8 w A x _ z 5 1 _:=⟨d,fun y n=>aA o.size (s y n)⟩
 refine vr rfl (gv rfl rfl ?_)
 exact⟨x,z,rfl,d,a⟩
theorem xv6 (w:World) {p:Option Addr} {c:Nat} {l:Bytes} (h:ux w p l) (hl:l.length<800000000) (f:Bool):
  gn prog 100 [.bool f,.slice p l.length c] w fun v w'=>∃q c,v= .slice q (xv4 f l).length c∧k8 w w' q (xv4 f l).length c 5 1 (ge (xv4 f l))∧Ext No w w':=by
 refine gx func100 ?_
 have a:=Ext.refl No w
 refine jd rfl (jd rfl (ji (α:=Nat) [1] rfl (fun z=>[(5,.int .u64 (z:Int))]) (fun z u=>(z=(if f then 1 else 0)∧Ext No w u)∧Ext No w u) ?_ ?_))
 ·refine gl ?_
  refine gy (km rfl (ud rfl (fun j=> ?_) (fun j=> ?_)))
  ·refine gy ?_
   refine j0 gc rfl (gk ?_)
   exact gr (1) rfl ⟨⟨by rw[j];rfl,a⟩,a⟩
  refine kc ?_
  exact gr (0) rfl ⟨⟨by rw[j];rfl,a⟩,a⟩
 rintro z I ⟨⟨rfl,J⟩,a⟩
 refine ki rfl ?_
 have k:=a
 refine gh call96 rfl (A1 1 zo I (if f then 1 else 0) (by split<;>decide)) fun M F m=> ?_
 obtain⟨n,o,rfl,b,r,s⟩:=m
 have a:=a.gb s
 have b:k8 w F n (be 1 (if f then 1 else 0)).length o 5 1 (ge (be 1 (if f then 1 else 0))):=⟨by rw[jy];exact b,fun y t=>aA k.size (r y t)⟩
 rw[show Value.slice n 1 o= .slice n (be 1 (if f then 1 else 0)).length o from by rw[jy]]
 refine j0 gc rfl ?_
 have x:=a
 refine gh call98 rfl (zj9 F (h.ga a) zo 2 zd) fun N K A=> ?_
 obtain⟨O,P,rfl,g,i⟩:=A
 have b:=b.ga i
 have a:=a.gb i
 have g:=g.older x.size
 have B:=a
 refine gh call97 rfl (ym K b.sl g.sl zh zh) fun Q L C=> ?_
 obtain⟨G,H,rfl,d,D,E⟩:=C
 have a:=a.gb E
 have d:k8 w L G _ H 5 1 _:=⟨d,fun y t=>aA B.size (D y t)⟩
 refine vr rfl (gv rfl rfl ?_)
 have e:be 1 (if f then 1 else 0)++vz 2 l=xv4 f l:=by rw[flag_be];rfl
 rw[e] at d⊢
 exact⟨G,H,rfl,d,a⟩
theorem objsB_step {l:List jq} {i:Nat} (hi:i<l.length):yt (l.take (i+1))=yt (l.take i)++vz 2 (laidB l[i]):=by
 rw[aQ hi,yt,bC,bU];rfl
theorem setsB_step {l:List yo} {i:Nat} (hi:i<l.length):(l.take (i+1)).flatMap zx4=(l.take i).flatMap zx4++zx4 l[i]:=by
 rw[aQ hi,bC,bU]
theorem code10_calls (w:World) {b:qu} (h:C9 w b) (hoo:∀o∈b.d.objs,x9 o) (hss:∀s∈b.d.sets,D9 s) (hno:b.os.length<65536) (hns:b.ss.length<256):
  gn prog 34 [b.v] w fun v w'=>∃q c,v= .slice q (uf b.d).length c∧k8 w w' q (uf b.d).length c 5 1 (ge (uf b.d))∧Ext No w w':=by
 have bv:=h.lo
 have bw:=h.ls
 refine gx func34 ?_
 have g:=Ext.refl No w
 refine ko (gw rfl fun b1 w1 a0 a aq=> ?_)
 have g:=g.gb aq
 have a:gz w1 b1 25 (b.c):=a
 refine km rfl (ki rfl (gu rfl (a.cell rfl) (j0 gc rfl ?_)))
 rw[cU _ zo]
 have ar:=g
 refine gh call96 rfl (A1 2 zo w1 b.os.length zo) fun v2 w2 au=> ?_
 obtain⟨q1,c1,rfl,R,a0,a1⟩:=au
 have a:=a.ga a1
 have g:=g.gb a1
 have R:k8 w w2 q1 (be 2 b.os.length).length c1 5 1 (ge (be 2 b.os.length)):=⟨by rw[jy];exact R,fun y E=>aA ar.size (a0 y E)⟩
 rw[show Value.slice q1 2 c1= .slice q1 (be 2 b.os.length).length c1 from by rw[jy]]
 refine km rfl (gl (jd rfl (j8 ?_)))
 refine jj (α:=Nat×Option Addr×Nat) [1] rfl (fun z=>[(3,.slice z.2.1 (be 2 b.os.length++yt ((b.os.map Prod.fst).take z.1)).length z.2.2),(4,.int .i64 (z.1:Int))]) (fun z u=>(z.1≤b.os.length∧k8 w u z.2.1 (be 2 b.os.length++yt ((b.os.map Prod.fst).take z.1)).length z.2.2 5 1 (ge (be 2 b.os.length++yt ((b.os.map Prod.fst).take z.1))))∧gz u b1 25 (b.c)∧Ext No w u) (fun z u=>b.os.length-z.1) (0,q1,c1) rfl ⟨⟨aJ _,by rw[List.take_zero,yt,List.flatMap_nil,bK];exact R⟩,a,g⟩ ?_
 rintro⟨i,q,c⟩ w3 ⟨⟨av,m⟩,a,g⟩
 try dsimp only
 dsimp only at av m
 refine gl (ki rfl (gu rfl (a.cell rfl) (km rfl (jl rfl (fun hc=> ?_) (fun hc=> ?_)))))
 ·have F:i<b.os.length:=by omega
  have aw:i<(b.os.map Prod.fst).length:=by rw[aE];exact F
  have ax:(b.os.map Prod.fst)[i]=b.os[i].1:=bR ..
  obtain⟨qb,qo,hp,S⟩:=h.os.qd (yq1 fun x hx=>(h.o x hx).i) zo
  have ho:=h.o _ (aG F)
  have p:=hoo _ (List.mem_map_of_mem (aG F))
  have A:=objsB_step aw
  rw[ax] at A
  have H:=zq0 (l:=(b.os.map Prod.fst).take i) fun o hx=>hoo o (bH hx)
  rw[aL] at H
  have h8:=p.2
  have I:gz w3 b1 25 [.slice (some ⟨qb,qo,none⟩) b.os.length b.oc,.slice b.sp b.ss.length b.sc]:=by have e:=a;rw[qu.c,hp] at e;exact e
  refine Ac (yl rfl (gu rfl (I.cell rfl) (j0 gc rfl (ka rfl 73 rfl i rfl F (qo+i*73) rfl (jm rfl ((S i F).ga g) (gp ho.i) ?_)))))
  refine gh call99 rfl (Dd w3 ho.i (ho.l.ga g) (bytes_of p.1)) fun v4 w4 ay=> ?_
  obtain⟨q5,c5,rfl,az,bx,T⟩:=ay
  have a:=a.ga T
  have m:=m.ga T
  have g:=g.gb T
  refine gh call98 rfl (zj9 w4 az.sl zo 2 zd) fun v5 w5 b0=> ?_
  obtain⟨q6,c6,rfl,b2,U⟩:=b0
  have a:=a.ga U
  have m:=m.ga U
  have g:=g.gb U
  have b3:=g
  refine gh call97 rfl (ym w5 m.sl b2.sl (by rw[aB,jy];omega) zg) fun v6 w6 b4=> ?_
  obtain⟨q7,c7,rfl,V,b5,a2⟩:=b4
  have a:=a.ga a2
  have g:=g.gb a2
  have V:k8 w w6 q7 _ c7 5 1 _:=⟨V,fun y E=>aA b3.size (b5 y E)⟩
  refine j0 gc rfl (gk (Aa rfl ?_))
  rw[jz _ zo]
  refine gk ?_
  exact jk (i+1,q7,c7) (by dsimp only;rw[A,←aV];rfl) ⟨⟨F,by dsimp only;rw[A,←aV];exact V⟩,a,g⟩ zf
 have h0:i=b.os.length:=by omega
 subst h0
 rw[show(b.os.map Prod.fst).take b.os.length=(b.os.map Prod.fst) from aO (by rw[aE];exact aD _)] at m
 rw[show(b.os.map Prod.fst).take b.os.length=(b.os.map Prod.fst) from aO (by rw[aE];exact aD _)]
 have H:=zq0 hoo
 rw[show b.d.objs.length=b.os.length from aE ..] at H
 have H:(yt (b.os.map Prod.fst)).length≤b.os.length*802:=H
 refine Ak (ki rfl (gu rfl (a.cell rfl) (j0 gc rfl ?_)))
 rw[cU _ zo]
 have b7:=g
 refine gh call96 rfl (A1 1 zo w3 b.ss.length zo) fun v7 w7 b8=> ?_
 obtain⟨q8,c8,rfl,W,b9,X⟩:=b8
 have a:=a.ga X
 have m:=m.ga X
 have g:=g.gb X
 have W:k8 w w7 q8 (be 1 b.ss.length).length c8 5 1 (ge (be 1 b.ss.length)):=⟨by rw[jy];exact W,fun y E=>aA b7.size (b9 y E)⟩
 rw[show Value.slice q8 1 c8= .slice q8 (be 1 b.ss.length).length c8 from by rw[jy]]
 have ba:=g
 refine gh call97 rfl (ym w7 m.sl W.sl (by rw[aB,jy];omega) (by rw[jy];omega)) fun v8 w8 bb=> ?_
 obtain⟨q9,c9,rfl,P,bc,Y⟩:=bb
 have a:=a.ga Y
 have m:=m.ga Y
 have g:=g.gb Y
 have P:k8 w w8 q9 _ c9 5 1 _:=⟨P,fun y E=>aA ba.size (bc y E)⟩
 have e9:be 2 b.os.length++yt (b.os.map Prod.fst)++be 1 b.ss.length=(be 2 b.os.length++yt (b.os.map Prod.fst)++be 1 b.ss.length++((b.ss.map Prod.fst).take 0).flatMap zx4):=by rw[List.take_zero,List.flatMap_nil,bK]
 rw[e9] at P⊢
 refine km rfl (gl (jd rfl (j8 ?_)))
 refine jj (α:=Nat×Option Addr×Nat) [1] rfl (fun z=>[(3,.slice z.2.1 (be 2 b.os.length++yt (b.os.map Prod.fst)++be 1 b.ss.length++((b.ss.map Prod.fst).take z.1).flatMap zx4).length z.2.2),(5,.int .i64 (z.1:Int))]) (fun z u=>(z.1≤b.ss.length∧k8 w u z.2.1 (be 2 b.os.length++yt (b.os.map Prod.fst)++be 1 b.ss.length++((b.ss.map Prod.fst).take z.1).flatMap zx4).length z.2.2 5 1 (ge (be 2 b.os.length++yt (b.os.map Prod.fst)++be 1 b.ss.length++((b.ss.map Prod.fst).take z.1).flatMap zx4)))∧gz u b1 25 (b.c)∧Ext No w u) (fun z u=>b.ss.length-z.1) (0,q9,c9) rfl ⟨⟨aJ _,P⟩,a,g⟩ ?_
 rintro⟨j,q,c⟩ w9 ⟨⟨bd,m⟩,a,g⟩
 try dsimp only
 dsimp only at bd m
 refine gl (ki rfl (gu rfl (a.cell rfl) (km rfl (jl rfl (fun hc=> ?_) (fun hc=> ?_)))))
 ·have G:j<b.ss.length:=by omega
  have bf:j<(b.ss.map Prod.fst).length:=by rw[aE];exact G
  have bg:(b.ss.map Prod.fst)[j]=b.ss[j].1:=bR ..
  obtain⟨qb,qo,hp,S⟩:=h.ss.qd (fun x _=>Bh x) zo
  have a3:=h.s _ (aG G)
  have p:=hss _ (List.mem_map_of_mem (aG G))
  have A:=setsB_step bf
  rw[bg] at A
  have bz:(((b.ss.map Prod.fst).take j).flatMap zx4).length≤j*9000:=by
   have e:=B1 (l:=(b.ss.map Prod.fst).take j) (f:=zx4) (n:=9000) fun s hs=>setB_len (hss s (bH hs))
   rw[aL] at e
   exact aA e (cM 9000 (Nat.min_le_left j _))
  have h2:=p.2.1
  have h3:=p.2.2.1.1
  have h4:=p.2.2.2.1
  have I:gz w9 b1 25 [.slice b.op b.os.length b.oc,.slice (some ⟨qb,qo,none⟩) b.ss.length b.sc]:=by have e:=a;rw[qu.c,hp] at e;exact e
  refine Ac (ki rfl (gu rfl (I.cell rfl) (j0 gc rfl (ka rfl 5 rfl j rfl G (qo+j*5) rfl (jm rfl ((S j G).ga g) rfl ?_)))))
  refine gw rfl fun b6 c0 a4 k J=> ?_
  have Z:=j2 a.lt a4
  have bh:=aA g.size a4
  have a:=a.ga J
  have m:=m.ga J
  have g:=g.gb J
  have a5:=k
  refine wl (j4 (l':=uz b.ss[j]) gc k rfl rfl rfl rfl OneC.h fun c2 k K bu=> ?_)
  have a:=a.gj K Z
  have m:=m.gj K a5 zd
  have g:=g.gi K bh
  refine qq (ki rfl (j6 k rfl rfl (wl (st_s2b gc rfl fun bs cs bi c3 bj c4 ca B=> ?_))))
  have a:=a.ga B
  have k:=k.ga B
  have m:=m.ga B
  have g:=g.gb B
  refine gh call98 rfl (zj9 bi (l:=b.ss[j].1.name) bj zo 1 zd) fun cb bk a6=> ?_
  obtain⟨cc,cd,rfl,a7,C⟩:=a6
  have a:=a.ga C
  have k:=k.ga C
  have m:=m.ga C
  have g:=g.gb C
  have a8:=g
  refine gh call97 rfl (ym bk m.sl a7.sl (by simp only[aB,jy];omega) zg) fun ce a9 aa=> ?_
  obtain⟨bm,bn,rfl,r,ab,L⟩:=aa
  have a:=a.ga L
  have k:=k.ga L
  have g:=g.gb L
  have r:k8 w a9 bm _ bn 5 1 _:=⟨r,fun y E=>aA a8.size (ab y E)⟩
  refine km rfl (ki rfl (j6 k rfl rfl (j0 gc rfl (j6 k rfl rfl ?_))))
  refine gh call100 rfl (xv6 a9 (a3.old.ga g) zo b.ss[j].1.was) fun cf bo ac=> ?_
  obtain⟨cg,ch,rfl,ad,D⟩:=ac
  have a:=a.ga D
  have k:=k.ga D
  have r:=r.ga D
  have g:=g.gb D
  have ae:=g
  refine gh call97 rfl (ym bo r.sl ad.sl zh (by have:=Dk p.2.2.1;omega)) fun ci af ag=> ?_
  obtain⟨bp,bq,rfl,t,ah,M⟩:=ag
  have a:=a.ga M
  have k:=k.ga M
  have g:=g.gb M
  have t:k8 w af bp _ bq 5 1 _:=⟨t,fun y E=>aA ae.size (ah y E)⟩
  refine km rfl (yl rfl (j6 k rfl rfl (j0 gc rfl (j6 k rfl rfl ?_))))
  refine gh call100 rfl (xv6 af (a3.new.ga g) zo b.ss[j].1.is) fun cj br ai=> ?_
  obtain⟨ck,cl,rfl,aj,N⟩:=ai
  have a:=a.ga N
  have t:=t.ga N
  have g:=g.gb N
  have ak:=g
  refine gh call97 rfl (ym br t.sl aj.sl (by have:=Dk p.2.2.1;simp only[aB,jy,qy];omega) (by have:=Dk p.2.2.2;omega)) fun cm bt al=> ?_
  obtain⟨am,an,rfl,O,ao,Q⟩:=al
  have a:=a.ga Q
  have g:=g.gb Q
  have O:k8 w bt am _ an 5 1 _:=⟨O,fun y E=>aA ak.size (ao y E)⟩
  refine j0 gc rfl (gk (Aa rfl ?_))
  rw[jz _ zo]
  refine gk ?_
  exact jk (j+1,am,an) (by dsimp only;rw[A,zx4];simp only[aV];rfl) ⟨⟨G,by dsimp only;rw[A,zx4];have e:=O;simp only[aV] at e⊢;exact e⟩,a,g⟩ zf
 have h0:j=b.ss.length:=by omega
 subst h0
 rw[show(b.ss.map Prod.fst).take b.ss.length=(b.ss.map Prod.fst) from aO (by rw[aE];exact aD _)] at m
 rw[show(b.ss.map Prod.fst).take b.ss.length=(b.ss.map Prod.fst) from aO (by rw[aE];exact aD _)]
 have ap:be 2 b.os.length++yt (b.os.map Prod.fst)++be 1 b.ss.length++(b.ss.map Prod.fst).flatMap zx4=uf b.d:=by rw[uf];simp only[qu.d,aE]
 rw[ap] at m
 rw[ap]
 refine Ak (jd rfl (j9 (gv rfl rfl ?_)))
 exact⟨q,c,rfl,m,g⟩
theorem set_ext (x y:yo):x=y↔x.name=y.name∧x.was=y.was∧x.is=y.is∧x.old=y.old∧x.new=y.new:=by
 cases x;cases y;simp
theorem yj4 {α:Type} {l m:List α} {i:Nat} (hi:i<l.length) (hm:i<m.length):l.take (i+1)=m.take (i+1)↔l.take i=m.take i∧l[i]=m[i]:=by
 rw[aQ hi,aQ hm]
 constructor
 ·intro h
  have:=List.append_inj' h rfl
  exact⟨this.1,by simpa using this.2⟩
 rintro⟨h1,h2⟩;rw[h1,h2]
theorem yj6 (w:World) {p q:Option Addr} {c d:Nat} {l m:Bytes} (h:ux w p l) (h':ux w q m) (hl:l.length<1000000000):
  gn prog 93 [.slice p l.length c,.slice q m.length d] w fun v w'=>v= .bool (decide (l=m))∧Ext No w w':=by
 refine gx func93 ?_
 have f:=Ext.refl No w
 refine jd rfl (jd rfl (gl (jd rfl (j8 ?_))))
 refine jj (α:=Bool×Nat) [0,1] rfl (fun z=>[(5,.bool z.1),(6,.int .i64 (z.2:Int))]) (fun z u=>(z.2≤l.length∧z.1=decide (l.length=m.length∧l.take z.2=m.take z.2))∧Ext No w u) (fun z u=>l.length-z.2) (decide ((l.length:Int)=(m.length:Int)),0) rfl ⟨⟨aJ _,by dsimp only;rw[aH];exact⟨fun e=>⟨by omega,rfl⟩,fun e=>by have:=e.1;omega⟩⟩,f⟩ ?_
 rintro⟨J,i⟩ N ⟨⟨y,a⟩,f⟩
 try dsimp only
 dsimp only at y a
 refine gl (ji (α:=Bool) [0,1,5,6] rfl (fun z=>[(18,.bool z)]) (fun z u=>(z=decide (J=true∧i<l.length))∧Ext No w u) ?_ ?_)
 ·refine gy ?_
  refine j0 gc rfl (uq 13 rfl (fun A=> ?_) (fun A=> ?_))
  ·refine gq gc 5 rfl ?_
   refine gk ?_
   exact gr (_) rfl ⟨(by rw[aH];exact⟨fun e=>⟨A,by omega⟩,fun e=>by have:=e.2;omega⟩),f⟩
  refine gq gc 5 rfl ?_
  refine gk ?_
  exact gr (false) rfl ⟨(by symm;rw[aC];exact fun e=>(by rw[A] at e;cases e.1)),f⟩
 rintro z O ⟨rfl,f⟩
 refine jl rfl (fun x=> ?_) (fun x=> ?_)
 ·obtain⟨B,j⟩:=x
  rw[B] at a
  have C:=of_decide_eq_true a.symm
  have n:i<m.length:=by have:=C.1;omega
  have o:=yj4 j n
  obtain⟨b,r,rfl,D⟩:=Sl.mapAt h zo
  obtain⟨L,g,rfl,E⟩:=Sl.mapAt h' zo
  have F:∀u,Ext No w u→u.cell? ⟨b,r+i,none⟩=some (zu l[i]):=fun u G=>(D.ga G) i _ (by rw[cE,aN j];rfl)
  have H:∀u,Ext No w u→u.cell? ⟨L,g+i,none⟩=some (zu m[i]):=fun u G=>(E.ga G) i _ (by rw[cE,aN n];rfl)
  refine Ac (jr rfl 10 [qP 0,qP 1,qP 2,qP 3,qP 4,qP 5,qP 6,qP 7,qP 8,qP 9] [] (No) zk fun P I M=> ?_)
  have s:=f
  have f:=f.gb I
  refine gt gc 2 rfl (qk gc rfl rfl 1 rfl i rfl zo (r+i) (by rw[bE]) (j3 gc rfl rfl (fun w' k=>(F w' (s.gb k))) ?_))
  refine gt gc 2 rfl (qk gc rfl rfl 1 rfl i rfl zo (g+i) (by rw[bE]) (j3 gc rfl rfl (fun w' k=>(H w' (s.gb k))) ?_))
  refine gt gc 2 rfl (jg (j5 (Aa rfl ?_)))
  rw[jz _ zo]
  refine gk ?_
  exact jk (decide (((l[i]).toNat:Int)=((m[i]).toNat:Int)),i+1) rfl ⟨⟨j,by dsimp only;rw[aH];exact⟨fun e=>⟨C.1,o.2 ⟨C.2,UInt8.toNat_inj.1 zo⟩⟩,fun e=>by rw[(o.1 e.2).2]⟩⟩,f⟩ zf
 have t:J=decide (l=m):=by
  rw[a,aH]
  rw[a,aU] at x
  constructor
  ·intro e
   have Q:¬i<l.length:=fun h=>x ⟨e,h⟩
   have K:=e.2
   rw[aO zo,aO (by have:=e.1;omega)] at K
   exact K
  intro e
  exact⟨by rw[e],by rw[e]⟩
 refine Ak (jd rfl (j9 (gv rfl rfl ?_)))
 exact⟨by rw[t],f⟩
theorem yv0 (w:World) {a b:qu} (ha:C9 w a) (hb:C9 w b):
  gn prog 31 [a.v,b.v] w fun v w'=>v= .bool (decide (a.d=b.d))∧Ext No w w':=by
 have bf:=ha.lo
 have bg:=ha.ls
 have bh:=hb.lo
 have bi:=hb.ls
 refine gx func31 ?_
 have k:=Ext.refl No w
 refine ko (gw rfl fun b2 w1 bj f aq=> ?_)
 have k:=k.gb aq
 have f:gz w1 b2 25 (a.c):=f
 refine gw rfl fun b3 w2 bk g ak=> ?_
 have f:=f.ga ak
 have k:=k.gb ak
 have g:gz w2 b3 25 (b.c):=g
 refine km rfl ?_
 refine ji (α:=Bool) [2,3] rfl (fun z=>[(5,.bool z)]) (fun z u=>(z=decide (a.os.length=b.os.length∧a.ss.length=b.ss.length∧(a.os.map Prod.fst).take 0=(b.os.map Prod.fst).take 0))∧gz u b2 25 (a.c)∧gz u b3 25 (b.c)∧Ext No w u) ?_ ?_
 ·refine gy ?_
  refine j0 gc rfl (gu rfl (f.cell rfl) (j0 gc rfl (gu rfl (g.cell rfl) (j0 gc rfl (ja 17 rfl (fun t=> ?_) (fun t=> ?_))))))
  ·have W:a.os.length=b.os.length:=by omega
   refine gq gc 1 rfl (gu rfl (f.cell rfl) (gq gc 2 rfl (gu rfl (g.cell rfl) (gq gc 4 rfl (gk ?_)))))
   exact gr (_) rfl ⟨by rw[aH];exact⟨fun e=>⟨W,by omega,rfl⟩,fun e=>by have:=e.2.1;omega⟩,f,g,k⟩
  have W:¬a.os.length=b.os.length:=by omega
  refine gq gc 9 rfl (gk ?_)
  exact gr (false) rfl ⟨by symm;rw[aC];exact fun e=>W e.1,f,g,k⟩
 rintro z w3 ⟨rfl,f,g,k⟩
 refine gl (jd rfl (j8 ?_))
 refine jj (α:=Bool×Nat) [2,3] rfl (fun z=>[(5,.bool z.1),(6,.int .i64 (z.2:Int))]) (fun z u=>(z.2≤a.os.length∧z.1=decide (a.os.length=b.os.length∧a.ss.length=b.ss.length∧(a.os.map Prod.fst).take z.2=(b.os.map Prod.fst).take z.2))∧gz u b2 25 (a.c)∧gz u b3 25 (b.c)∧Ext No w u) (fun z u=>a.os.length-z.2) (decide (a.os.length=b.os.length∧a.ss.length=b.ss.length∧(a.os.map Prod.fst).take 0=(b.os.map Prod.fst).take 0),0) rfl ⟨⟨aJ _,rfl⟩,f,g,k⟩ ?_
 rintro⟨sm,i⟩ w4 ⟨⟨ar,Y⟩,f,g,k⟩
 try dsimp only
 dsimp only at ar Y
 refine gl (ji (α:=Bool) [2,3,5,6] rfl (fun z=>[(33,.bool z)]) (fun z u=>(z=decide (sm=true∧i<a.os.length))∧gz u b2 25 (a.c)∧gz u b3 25 (b.c)∧Ext No w u) ?_ ?_)
 ·refine gy ?_
  refine j0 gc rfl (uq 27 rfl (fun t=> ?_) (fun t=> ?_))
  ·refine gq gc 2 rfl ?_
   refine gu rfl (f.cell rfl) (gq gc 3 rfl (gk ?_))
   exact gr (_) rfl ⟨by rw[aH];exact⟨fun e=>⟨t,by omega⟩,fun e=>by have:=e.2;omega⟩,f,g,k⟩
  refine gq gc 6 rfl ?_
  refine gk ?_
  exact gr (false) rfl ⟨(by symm;rw[aC];exact fun e=>(by rw[t] at e;cases e.1)),f,g,k⟩
 rintro z w5 ⟨rfl,f,g,k⟩
 refine jl rfl (fun hc=> ?_) (fun hc=> ?_)
 ·obtain⟨ac,Z⟩:=hc
  rw[ac] at Y
  have hP:=of_decide_eq_true Y.symm
  have a9:i<b.os.length:=by have:=hP.1;omega
  have au:i<(a.os.map Prod.fst).length:=by rw[aE];exact Z
  have av:i<(b.os.map Prod.fst).length:=by rw[aE];exact a9
  have ad:(a.os.map Prod.fst)[i]=a.os[i].1:=bR ..
  have ae:(b.os.map Prod.fst)[i]=b.os[i].1:=bR ..
  have N:=yj4 au av
  rw[ad,ae] at N
  have I:=ha.o _ (aG Z)
  have X:=hb.o _ (aG a9)
  obtain⟨q2,o2,af,a0⟩:=ha.os.qd (yq1 fun x hx=>(ha.o x hx).i) zo
  obtain⟨q3,o3,ag,a1⟩:=hb.os.qd (yq1 fun x hx=>(hb.o x hx).i) zo
  have a2:gz w5 b2 25 [.slice (some ⟨q2,o2,none⟩) a.os.length a.oc,.slice a.sp a.ss.length a.sc]:=by have e:=f;rw[qu.c,af] at e;exact e
  have a3:gz w5 b3 25 [.slice (some ⟨q3,o3,none⟩) b.os.length b.oc,.slice b.sp b.ss.length b.sc]:=by have e:=g;rw[qu.c,ag] at e;exact e
  refine Ac (jr rfl 12 [qP 0,qP 1,qP 2,qP 3,qP 4,qP 5,qP 6,qP 7,qP 8,qP 9,(10,false),qP 11] [] (No) zk fun w6 aa bm=> ?_)
  have a4:=k
  have f:=f.ga aa
  have g:=g.ga aa
  have k:=k.gb aa
  have D:Ext (No) _ w6:=aa.no
  refine gt gc 1 rfl (j3 gc rfl rfl (fun w' p=>((a2.ga p).cell rfl)) ?_)
  refine gt gc 1 rfl (qk gc rfl rfl 73 rfl i rfl Z (o2+i*73) rfl (qa gc rfl rfl (fun w' p=>((a0 i Z).ga (a4.gb p))) (gp I.i) ?_))
  refine gt gc 1 rfl (j3 gc rfl rfl (fun w' p=>((a3.ga p).cell rfl)) ?_)
  refine gt gc 1 rfl (qk gc rfl rfl 73 rfl i rfl a9 (o3+i*73) rfl (qa gc rfl rfl (fun w' p=>((a1 i a9).ga (a4.gb p))) (gp X.i) ?_))
  refine jo rfl (j1 call17 rfl (same6_calls w6 I.i X.i (I.l.ga k) (X.l.ga k) I.s) fun v7 w7 al=>⟨(by obtain⟨rfl,a5⟩:=al;exact D.gb a5),?_⟩)
  obtain⟨rfl,a5⟩:=al
  have f:=f.ga a5
  have g:=g.ga a5
  have k:=k.gb a5
  refine gt gc 1 rfl (jg (j5 (Aa rfl ?_)))
  rw[jz _ zo]
  refine gk ?_
  exact jk (decide (a.os[i].1=b.os[i].1),i+1) rfl ⟨⟨Z,by dsimp only;rw[aH];exact⟨fun e=>⟨hP.1,hP.2.1,N.2 ⟨hP.2.2,e⟩⟩,fun e=>(N.1 e.2.2).2⟩⟩,f,g,k⟩ zf
 have am:sm=decide (a.os.length=b.os.length∧a.ss.length=b.ss.length∧(a.os.map Prod.fst)=(b.os.map Prod.fst)):=by
  rw[Y,aH]
  rw[Y,aU] at hc
  constructor
  ·intro e
   have h0:¬i<a.os.length:=fun h=>hc ⟨e,h⟩
   have W:=e.2.2
   rw[aO (by rw[aE];omega),aO (by rw[aE];have:=e.1;omega)] at W
   exact⟨e.1,e.2.1,W⟩
  intro e
  exact⟨e.1,e.2.1,by rw[e.2.2]⟩
 refine Ak (gl (jd rfl (j8 ?_)))
 refine jj (α:=Bool×Nat) [2,3] rfl (fun z=>[(5,.bool z.1),(7,.int .i64 (z.2:Int))]) (fun z u=>(z.2≤a.ss.length∧z.1=decide (a.os.length=b.os.length∧a.ss.length=b.ss.length∧(a.os.map Prod.fst)=(b.os.map Prod.fst)∧(a.ss.map Prod.fst).take z.2=(b.ss.map Prod.fst).take z.2))∧gz u b2 25 (a.c)∧gz u b3 25 (b.c)∧Ext No w u) (fun z u=>a.ss.length-z.2) (sm,0) rfl ⟨⟨aJ _,by dsimp only;rw[am,aH];exact⟨fun e=>⟨e.1,e.2.1,e.2.2,rfl⟩,fun e=>⟨e.1,e.2.1,e.2.2.1⟩⟩⟩,f,g,k⟩ ?_
 rintro⟨sn,j⟩ w8 ⟨⟨aw,a6⟩,f,g,k⟩
 try dsimp only
 dsimp only at aw a6
 refine gl (ji (α:=Bool) [2,3,5,7] rfl (fun z=>[(54,.bool z)]) (fun z u=>(z=decide (sn=true∧j<a.ss.length))∧gz u b2 25 (a.c)∧gz u b3 25 (b.c)∧Ext No w u) ?_ ?_)
 ·refine gy ?_
  refine j0 gc rfl (uq 48 rfl (fun t=> ?_) (fun t=> ?_))
  ·refine gq gc 2 rfl ?_
   refine gu rfl (f.cell rfl) (gq gc 3 rfl (gk ?_))
   exact gr (_) rfl ⟨by rw[aH];exact⟨fun e=>⟨t,by omega⟩,fun e=>by have:=e.2;omega⟩,f,g,k⟩
  refine gq gc 6 rfl ?_
  refine gk ?_
  exact gr (false) rfl ⟨(by symm;rw[aC];exact fun e=>(by rw[t] at e;cases e.1)),f,g,k⟩
 rintro z w9 ⟨rfl,f,g,k⟩
 refine jl rfl (fun hc=> ?_) (fun hc=> ?_)
 ·obtain⟨ac,a7⟩:=hc
  rw[ac] at a6
  have hP:=of_decide_eq_true a6.symm
  have ab:j<b.ss.length:=by have:=hP.2.1;omega
  have ax:j<(a.ss.map Prod.fst).length:=by rw[aE];exact a7
  have ay:j<(b.ss.map Prod.fst).length:=by rw[aE];exact ab
  have ad:(a.ss.map Prod.fst)[j]=a.ss[j].1:=bR ..
  have ae:(b.ss.map Prod.fst)[j]=b.ss[j].1:=bR ..
  have N:=yj4 ax ay
  rw[ad,ae] at N
  have I:=ha.s _ (aG a7)
  have X:=hb.s _ (aG ab)
  obtain⟨q2,o2,af,a0⟩:=ha.ss.qd (fun x _=>Bh x) zo
  obtain⟨q3,o3,ag,a1⟩:=hb.ss.qd (fun x _=>Bh x) zo
  have a2:gz w9 b2 25 [.slice a.op a.os.length a.oc,.slice (some ⟨q2,o2,none⟩) a.ss.length a.sc]:=by have e:=f;rw[qu.c,af] at e;exact e
  have a3:gz w9 b3 25 [.slice b.op b.os.length b.oc,.slice (some ⟨q3,o3,none⟩) b.ss.length b.sc]:=by have e:=g;rw[qu.c,ag] at e;exact e
  refine x3 (ji (α:=Bool) [2,3,7] rfl (fun z=>[(5,.bool z)]) (fun z u=>(z=decide (a.ss[j].1=b.ss[j].1))∧gz u b2 25 (a.c)∧gz u b3 25 (b.c)∧Ext No w u) ?_ ?_)
  ·refine j8 ?_
   have az:=f.lt
   have b0:=g.lt
   have b6:=k.size
   refine ji (α:=(Unit)×Nat×Nat) [2,3,7] rfl (fun z=>[(8,.pointer (some ⟨z.2.1,0,none⟩)),(9,.pointer (some ⟨z.2.2,0,none⟩))]) (fun z u=>gz u b2 25 (a.c)∧gz u b3 25 (b.c)∧gz u z.2.1 91 (uz a.ss[j])∧w9.heap.size≤z.2.1∧gz u z.2.2 91 (uz b.ss[j])∧w9.heap.size≤z.2.2∧z.2.1≠z.2.2∧Ext No w u) ?_ ?_
   ·have C:=aD w9.heap.size
    refine zz7 rfl 13 13 [13] (No) zk fun b1 J b7=> ?_
    have a4:=k
    have f:=f.ga J
    have g:=g.ga J
    have C:=aA C J.size
    have k:=k.gb J
    have D:Ext No _ b1:=J
    refine qm [qP 0,qP 1,qP 2,qP 3,qP 4,qP 5,qP 6,qP 7,qP 8,qP 9] 3 rfl zk (gt gc 1 rfl (j3 gc rfl rfl (fun w' p=>((a2.ga p).cell rfl)) ?_))
    refine gt gc 1 rfl (qk gc rfl rfl 5 rfl j rfl a7 (o2+j*5) rfl (qa gc rfl rfl (fun w' p=>((a0 j a7).ga (a4.gb p))) rfl ?_))
    refine gt gc 1 rfl (j3 gc rfl rfl (fun w' p=>((a3.ga p).cell rfl)) ?_)
    refine gt gc 1 rfl (qk gc rfl rfl 5 rfl j rfl ab (o3+j*5) rfl (qa gc rfl rfl (fun w' p=>((a1 j ab).ga (a4.gb p))) rfl ?_))
    refine yd rfl (As [10,11] rfl zk ⟨⟨_,rfl,?_⟩,⟨_,rfl,?_⟩,trivial⟩)
    ·refine Ba gc rfl fun b8 bn q m E=>⟨D.gb E,?_⟩
     have O:=j2 f.lt q
     have P:=j2 g.lt q
     have ah:=aA k.size q
     have Q:=aA C q
     have R:=aA D.size q
     have f:=f.ga E
     have g:=g.ga E
     have C:=aA C E.size
     have k:=k.gb E
     have D:=D.gb E
     refine qm [(11,false),(12,false)] 0 rfl zk (jo rfl (Ba gc rfl fun b9 bo r n y=>⟨D.gb y,?_⟩))
     have S:=j2 f.lt r
     have T:=j2 g.lt r
     have A:=j2 m.lt r
     have ai:=aA k.size r
     have U:=aA C r
     have aj:=aA D.size r
     have f:=f.ga y
     have g:=g.ga y
     have m:=m.ga y
     have C:=aA C y.size
     have k:=k.gb y
     have D:=D.gb y
     refine jo rfl (j4 (l':=uz a.ss[j]) gc m rfl rfl rfl rfl OneC.h fun bp m F ba=>⟨D.gi F R,?_⟩)
     have f:=f.gj F O
     have g:=g.gj F P
     have n:=n.gj F A.symm
     have C:=aA C F.size
     have k:=k.gi F ah
     refine jg (wb rfl (j4 (l':=uz b.ss[j]) gc n rfl rfl rfl rfl OneC.h fun bq n K bb=> ?_))
     have f:=f.gj K S
     have g:=g.gj K T
     have m:=m.gj K A
     have C:=aA C K.size
     have k:=k.gi K ai
     refine j5 ?_
     exact gr ((()),b8,b9) rfl ⟨f,g,m,Q,n,U,A,k⟩
    refine Ba gc rfl fun b9 br r n G=>⟨D.gb G,?_⟩
    have S:=j2 f.lt r
    have T:=j2 g.lt r
    have ai:=aA k.size r
    have U:=aA C r
    have aj:=aA D.size r
    have f:=f.ga G
    have g:=g.ga G
    have C:=aA C G.size
    have k:=k.gb G
    have D:=D.gb G
    refine qm [(10,false),(12,false)] 0 rfl zk (jo rfl (Ba gc rfl fun b8 bs q m B=>⟨D.gb B,?_⟩))
    have O:=j2 f.lt q
    have P:=j2 g.lt q
    have V:=j2 n.lt q
    have ah:=aA k.size q
    have Q:=aA C q
    have R:=aA D.size q
    have f:=f.ga B
    have g:=g.ga B
    have n:=n.ga B
    have C:=aA C B.size
    have k:=k.gb B
    have D:=D.gb B
    refine jo rfl (j4 (l':=uz a.ss[j]) gc m rfl rfl rfl rfl OneC.h fun bt m H bc=>⟨D.gi H R,?_⟩)
    have f:=f.gj H O
    have g:=g.gj H P
    have n:=n.gj H V
    have C:=aA C H.size
    have k:=k.gi H ah
    refine jg (wb rfl (j4 (l':=uz b.ss[j]) gc n rfl rfl rfl rfl OneC.h fun bu n L bd=> ?_))
    have f:=f.gj L S
    have g:=g.gj L T
    have m:=m.gj L V.symm
    have C:=aA C L.size
    have k:=k.gi L ai
    refine j5 ?_
    exact gr ((()),b8,b9) rfl ⟨f,g,m,Q,n,U,V.symm,k⟩
   rintro⟨z,b8,b9⟩ b4 ⟨f,g,m,q,n,r,A,k⟩
   try dsimp only
   dsimp only at m q n r A
   refine yl rfl (j6 m rfl rfl (j0 gc rfl (j6 n rfl rfl (j0 gc rfl (ja 72 rfl (fun t=> ?_) (fun t=> ?_))))))
   ·have W:a.ss[j].1.name=b.ss[j].1.name:=xt t
    refine gq gc 1 rfl (j6 m rfl rfl (gq gc 1 rfl (j6 n rfl rfl (gq gc 3 rfl (uq 79 rfl (fun t=> ?_) (fun t=> ?_))))))
    ·have h2:a.ss[j].1.was=b.ss[j].1.was:=by simpa using t
     refine gq gc 1 rfl (j6 m rfl rfl (gq gc 1 rfl (j6 n rfl rfl (gq gc 3 rfl (uq 86 rfl (fun t=> ?_) (fun t=> ?_))))))
     ·have h3:a.ss[j].1.is=b.ss[j].1.is:=by simpa using t
      refine gq gc 1 rfl (j6 m rfl rfl (gq gc 1 rfl (j6 n rfl rfl ?_)))
      refine gh call93 rfl (yj6 b4 (I.old.ga k) (X.old.ga k) I.lo) fun bv b5 an=> ?_
      obtain⟨rfl,M⟩:=an
      have f:=f.ga M
      have g:=g.ga M
      have m:=m.ga M
      have n:=n.ga M
      have k:=k.gb M
      refine j0 gc rfl (uq 93 rfl (fun t=> ?_) (fun t=> ?_))
      ·have h4:a.ss[j].1.old=b.ss[j].1.old:=by simpa using t
       refine gq gc 1 rfl (j6 m rfl rfl (gq gc 1 rfl (j6 n rfl rfl ?_)))
       refine gh call93 rfl (yj6 b5 (I.new.ga k) (X.new.ga k) I.lw) fun bw bx ao=> ?_
       obtain⟨rfl,a8⟩:=ao
       have f:=f.ga a8
       have g:=g.ga a8
       have k:=k.gb a8
       refine j0 gc rfl (gk ?_)
       exact js (gr (_) rfl ⟨(by rw[aH,set_ext];exact⟨fun e=>⟨W,h2,h3,h4,e⟩,fun e=>e.2.2.2.2⟩),f,g,k⟩)
      have h4:a.ss[j].1.old≠b.ss[j].1.old:=by simpa using t
      refine gq gc 7 rfl (gk ?_)
      exact js (gr (false) rfl ⟨(by symm;rw[aC,set_ext];exact fun e=>h4 e.2.2.2.1),f,g,k⟩)
     have h3:a.ss[j].1.is≠b.ss[j].1.is:=by simpa using t
     refine gq gc 14 rfl (gk ?_)
     exact js (gr (false) rfl ⟨(by symm;rw[aC,set_ext];exact fun e=>h3 e.2.2.1),f,g,k⟩)
    have h2:a.ss[j].1.was≠b.ss[j].1.was:=by simpa using t
    refine gq gc 21 rfl (gk ?_)
    exact js (gr (false) rfl ⟨(by symm;rw[aC,set_ext];exact fun e=>h2 e.2.1),f,g,k⟩)
   have W:a.ss[j].1.name≠b.ss[j].1.name:=fun e=>t (by rw[e])
   refine gq gc 28 rfl (gk ?_)
   exact js (gr (false) rfl ⟨(by symm;rw[aC,set_ext];exact fun e=>W e.1),f,g,k⟩)
  rintro z bz ⟨rfl,f,g,k⟩
  refine yl rfl ?_
  rw[jz _ zo]
  refine gk ?_
  exact jk (decide (a.ss[j].1=b.ss[j].1),j+1) rfl ⟨⟨a7,by dsimp only;rw[aH];exact⟨fun e=>⟨hP.1,hP.2.1,hP.2.2.1,N.2 ⟨hP.2.2.2,e⟩⟩,fun e=>(N.1 e.2.2.2).2⟩⟩,f,g,k⟩ zf
 have ap:sn=decide (a.d=b.d):=by
  rw[a6,aH]
  rw[a6,aU] at hc
  constructor
  ·intro e
   have h0:¬j<a.ss.length:=fun h=>hc ⟨e,h⟩
   have W:=e.2.2.2
   rw[aO (by rw[aE];omega),aO (by rw[aE];have:=e.2.1;omega)] at W
   rw[qu.d,qu.d,e.2.2.1,W]
  intro e
  have e1:(a.os.map Prod.fst)=(b.os.map Prod.fst):=congrArg Bu.objs e
  have e2:(a.ss.map Prod.fst)=(b.ss.map Prod.fst):=congrArg Bu.sets e
  have l1:=congrArg List.length e1
  have l2:=congrArg List.length e2
  rw[aE,aE] at l1 l2
  exact⟨l1,l2,e1,by rw[e2]⟩
 refine Ak (jd rfl (j9 (gv rfl rfl ?_)))
 exact⟨by rw[ap],k⟩
def y0 (l:Bytes) (n:Nat):Bytes:=if n≤l.length then l.take n else []
def Aj (l:Bytes) (n:Nat):Bytes:=if n≤l.length then l.drop n else []
theorem Cx (w:World) {p:Option Addr} {c:Nat} {l:Bytes} (h:ux w p l) (hc:l.length≤c) (hl:l.length<900000000) (n:Nat) (hn:n<900000000):
  gn prog 112 [.slice p l.length c,.int .i64 (n:Int)] w fun v w'=>∃q c1 p2 c2,v= .tuple #[.slice q (y0 l n).length c1,.slice p2 (Aj l n).length c2,.bool (decide (n≤l.length))]∧k8 w w' q (y0 l n).length c1 5 1 (ge (y0 l n))∧(∀u,ux u p l→ux u p2 (Aj l n))∧(Aj l n).length≤c2∧Ext No w w':=by
 have s:=hc
 refine gx func112 ?_
 have d:=Ext.refl No w
 refine jd rfl (gl (jd rfl (jl rfl (fun hc=> ?_) (fun hc=> ?_))))
 ·have f:¬n≤l.length:=by omega
  have t:y0 l n=[]:=aP f
  have x:Aj l n=[]:=aP f
  refine jd rfl (j9 (j7 (qe [_,_,_] ⟨rfl,rfl,rfl,trivial⟩ ?_)))
  rw[t,x]
  exact⟨none,0,none,0,by rw[bO f];rfl,k8.nil _ _ _ _,fun _ _=>Sl.nil _ _ _,aD _,d⟩
 have a:n≤l.length:=by omega
 have t:y0 l n=l.take n:=aR a
 have x:Aj l n=l.drop n:=aR a
 have z:(l.take n).length=n:=by rw[aL];omega
 have i:(l.drop n).length=l.length-n:=aX
 refine x3 (gl (jr rfl 10 [qP 0,qP 1,qP 2,qP 4,qP 5,qP 6,(3,false),qP 7,qP 8,qP 9] [] (No) zk fun C j D=> ?_))
 have d:=d.gb j
 have E:Ext (No) _ C:=j.no
 refine gt gc 2 rfl (D8 gc rfl rfl 0 n c 1 rfl (.inr ⟨rfl,rfl⟩) (.inl rfl) (.inr ⟨rfl,rfl⟩) (aJ _) zo (aD _) ?_)
 rw[jw,bB,bB,show Value.slice p n c= .slice p (l.take n).length c from by rw[z]]
 refine gt gc 2 rfl (D8 gc rfl rfl n l.length c 1 rfl (.inr ⟨rfl,rfl⟩) (.inr ⟨rfl,rfl⟩) (.inl rfl) zo zo (aD _) ?_)
 rw[←i]
 have A:=d
 refine jo rfl (j1 call97 rfl (ym C (l:=l.take n) (m:=[]) ((h.cutB n).ga d) (Sl.nil _ _ _) zl zd) fun I F k=>⟨(by obtain⟨B,c1,rfl,b,o,g⟩:=k;exact E.gb g),?_⟩)
 obtain⟨B,c1,rfl,b,o,g⟩:=k
 have d:=d.gb g
 rw[bK] at b⊢
 have b:k8 w F B (l.take n).length c1 5 1 (ge (l.take n)):=⟨b,fun y G=>aA A.size (o y G)⟩
 refine gt gc 3 rfl (jg (j5 (jp (j9 (qe [_,_,_] ⟨rfl,rfl,rfl,trivial⟩ ?_)))))
 have r:∀u,ux u p l→ux u (u6 p n c 1) (l.drop n):=fun u H=>by
  have r:=Sl.slice H n l.length c a s (aD _)
  have e:((ge l).drop (n*1)).take ((l.length-n)*1)=ge (l.drop n):=by
   rw[bE,bE,ge,ge,←List.map_drop,aO (by rw[aE,aX];exact aD _)]
  rw[e,←i] at r
  exact r
 rw[t,x]
 exact⟨B,c1,_,_,by rw[bQ a];rfl,b,r,by omega,d⟩
def xi (s:Ds):Bytes:=if s.bad then [] else s.rest
theorem off_cut (l:Bytes) (n:Nat):((⟨l,false⟩:Ds).off n).1=y0 l n∧xi ((⟨l,false⟩:Ds).off n).2=Aj l n∧((⟨l,false⟩:Ds).off n).2.bad= !decide (n≤l.length):=by
 unfold Ds.off y0 Aj xi
 by_cases h:n≤l.length
 ·rw[aP zc,aR h,aR h,bQ h];exact⟨rfl,rfl,rfl⟩
 rw[aR (.inr zc),aP h,aP h,bO h];exact⟨rfl,rfl,rfl⟩
theorem str_yes {l:Bytes} {k:Nat} (h:k≤l.length):(⟨l,false⟩:Ds).str k=(⟨Aj l k,false⟩:Ds).off (num (y0 l k)):=by
 unfold Ds.str Aj y0
 have e:(⟨l,false⟩:Ds).off k=(l.take k,⟨l.drop k,false⟩):=aP zc
 rw[e,aR h,aR h]
theorem str_no {l:Bytes} {k:Nat} (h:¬k≤l.length):(⟨l,false⟩:Ds).str k=([],⟨l,true⟩):=by
 unfold Ds.str
 have e:(⟨l,false⟩:Ds).off k=([],⟨l,true⟩):=aR (.inr zc)
 rw[e];rfl
theorem Ch (l:Bytes) (n:Nat):(Aj l n).length≤l.length:=by
 unfold Aj;split
 ·rw[aX];omega
 exact aJ _
theorem cutT1_le (l:Bytes) (n:Nat):(y0 l n).length≤l.length:=by
 unfold y0;split
 ·rw[aL];omega
 exact aJ _
theorem cutT1_len (l:Bytes) (n:Nat):(y0 l n).length≤n:=by
 unfold y0;split
 ·rw[aL];omega
 exact aJ _
theorem zv2 (w:World) {p:Option Addr} {c:Nat} {l:Bytes} (h:ux w p l) (hc:l.length≤c) (hl:l.length<900000000) (k:Nat) (hk:k≤2):
  gn prog 174 [.slice p l.length c,.int .i64 (k:Int)] w fun v w'=>∃q c1 p2 c2,v= .tuple #[.slice q (((⟨l,false⟩:Ds).str k).1).length c1,.slice p2 (xi ((⟨l,false⟩:Ds).str k).2).length c2,.bool (!((⟨l,false⟩:Ds).str k).2.bad)]∧k8 w w' q (((⟨l,false⟩:Ds).str k).1).length c1 5 1 (ge (((⟨l,false⟩:Ds).str k).1))∧(∀u,ux u p l→ux u p2 (xi ((⟨l,false⟩:Ds).str k).2))∧(xi ((⟨l,false⟩:Ds).str k).2).length≤c2∧Ext No w w':=by
 refine gx func174 ?_
 have a:=Ext.refl No w
 refine jd rfl (ki rfl (gh call112 rfl (Cx w h hc hl k zo) fun K z e=> ?_))
 obtain⟨L,c1,p2,c2,rfl,f,b,g,i⟩:=e
 have a:=a.gb i
 refine km rfl (gl (jd rfl (ud rfl (fun hc=> ?_) (fun hc=> ?_))))
 ·have j:¬k≤l.length:=by simpa using hc
  have m:=str_no j
  refine jd rfl (j9 (j7 (qe [_,_,_] ⟨rfl,rfl,rfl,trivial⟩ ?_)))
  rw[m]
  exact⟨none,0,none,0,rfl,k8.nil _ _ _ _,fun _ _=>Sl.nil _ _ _,aD _,a⟩
 have d:k≤l.length:=by simpa using hc
 have m:=str_yes d
 have M:=Ch l k
 have N:=cutT1_len l k
 have A:num (y0 l k)<65536:=aM (ub _) (aA (cR zd (by omega:(y0 l k).length≤2)) zd)
 obtain⟨B,C,D⟩:=off_cut (Aj l k) (num (y0 l k))
 refine x3 (ki rfl (gh call113 rfl (C7 z f.sl zo) fun O E n=> ?_))
 obtain⟨rfl,rfl⟩:=n
 refine j0 gc rfl ?_
 rw[jz _ zo]
 have o:=a
 refine gh call112 rfl (Cx E (b _ (h.ga a)) g zo (num (y0 l k)) zo) fun P Q r=> ?_
 obtain⟨F,G,H,I,rfl,s,t,x,y⟩:=r
 have a:=a.gb y
 refine vr rfl (qe [_,_,_] ⟨rfl,rfl,rfl,trivial⟩ ?_)
 rw[m,B,C,D,Bool.not_not]
 exact⟨F,G,H,I,rfl,s.older o.size,fun u J=>t u (b u J),x,a⟩
theorem _root_.Go.Vc.Own.tyU' {w:World} {p:Option Addr} {n c sz:Nat} {xs:List Value} (h:Own w p n c 5 sz xs):TyU w p:=fun a ha=>by
 rcases h with⟨rfl,_⟩|⟨b,l,rfl,hb,_⟩
 ·cases ha
 cases ha;exact⟨l,hb⟩
def obR (l:Bytes):jq:=if((⟨l,false⟩:Ds).str 2).2.bad then uo else(vj ((⟨l,false⟩:Ds).str 2).1).1
def isR (l:Bytes):Bool:=if((⟨l,false⟩:Ds).str 2).2.bad then false else decide ((vj ((⟨l,false⟩:Ds).str 2).1).2=0)
theorem str_len1 (l:Bytes) (k:Nat):((⟨l,false⟩:Ds).str k).1.length≤l.length:=by
 by_cases h:k≤l.length
 ·rw[str_yes h,(off_cut _ _).1]
  exact aA (cutT1_le _ _) (Ch l k)
 rw[str_no h];exact aJ _
theorem object10_calls (w:World) {p:Option Addr} {c:Nat} {l:Bytes} (h:ux w p l) (hc:l.length≤c) (hl:l.length<900000000):
  gn prog 114 [.slice p l.length c] w fun v w'=>∃a p2 c2,v= .tuple #[.agg (jn (obR l) a).toArray,.bool (isR l),.slice p2 (xi ((⟨l,false⟩:Ds).str 2).2).length c2,.bool (!((⟨l,false⟩:Ds).str 2).2.bad)]∧qw w w' (obR l) a∧(∀u,ux u p l→ux u p2 (xi ((⟨l,false⟩:Ds).str 2).2))∧(xi ((⟨l,false⟩:Ds).str 2).2).length≤c2∧Ext No w w':=by
 refine gx func114 ?_
 have d:=Ext.refl No w
 refine ko (gw rfl fun M N z b A=> ?_)
 have o:=aA d.size z
 have d:=d.gb A
 refine km rfl (ki rfl ?_)
 refine gh call174 rfl (zv2 N (h.ga d) hc hl 2 zd) fun U O B=> ?_
 obtain⟨V,W,p2,c2,rfl,j,C,D,q⟩:=B
 have b:=b.ga q
 have d:=d.gb q
 have P:=str_len1 l 2
 refine km rfl (gl (jd rfl (ud rfl (fun hc=> ?_) (fun hc=> ?_))))
 ·have i:((⟨l,false⟩:Ds).str 2).2.bad=true:=by simpa using hc
  have E:obR l=uo:=aR i
  have F:isR l=false:=aR i
  have Q:xi ((⟨l,false⟩:Ds).str 2).2=[]:=aR i
  refine ko (kg rfl trivial (l':=jn uo Dh) objZc ?_)
  refine wl (j4 (l':=jn uo Dh) gc b rfl rfl (gp qf) (by rw[gp qf];rfl) OneC.h fun X b G R=> ?_)
  have d:=d.gi G o
  refine vr rfl (j7 (qe [_,_,_,_] ⟨⟨M,0,rfl,qg gc rfl rfl b.kj (gp qf)⟩,rfl,rfl,rfl,trivial⟩ ?_))
  rw[E,F,Q,i]
  exact⟨Dh,none,0,rfl,qw.nil _ _ _ rfl rfl rfl,fun _ _=>Sl.nil _ _ _,aD _,d⟩
 have i:¬((⟨l,false⟩:Ds).str 2).2.bad=true:=by simpa using hc
 have E:obR l=(vj ((⟨l,false⟩:Ds).str 2).1).1:=aP i
 have F:isR l=decide ((vj ((⟨l,false⟩:Ds).str 2).1).2=0):=aP i
 refine x3 (ki rfl ?_)
 have H:=d
 refine gh call175 rfl (decode6_calls O j.sl j.own.tyU' j.own.cap zo) fun Y Z I=> ?_
 obtain⟨J,rfl,f,r⟩:=I
 have b:=b.ga r
 have d:=d.gb r
 have f:=f.older (W0:=w) H.size
 have e:=(dec_ok (l:=((⟨l,false⟩:Ds).str 2).1) zo).1
 refine j0 gc rfl (gw rfl fun b9 w5 s g k=> ?_)
 have m:=j2 b.lt s
 have K:=aA d.size s
 have b:=b.ga k
 have f:=f.ga k
 have d:=d.gb k
 have t:=g
 refine wl (j4 (l':=jn (vj ((⟨l,false⟩:Ds).str 2).1).1 J) gc g rfl rfl (gp e) (by rw[gp e];rfl) OneC.h fun w6 g n S=> ?_)
 have b:=b.gj n m
 have f:=f.gj n t zd zd zd
 have d:=d.gi n K
 refine km rfl (ko (je g rfl (gp e) (j0 gc rfl ?_)))
 have x:=b
 refine wl (j4 (l':=jn (vj ((⟨l,false⟩:Ds).str 2).1).1 J) gc b rfl rfl (gp e) (by rw[gp e];rfl) OneC.h fun w7 b y T=> ?_)
 have f:=f.gj y x zd zd zd
 have d:=d.gi y o
 refine vr rfl (qe [_,_,_,_] ⟨⟨M,0,rfl,qg gc rfl rfl b.kj (gp e)⟩,rfl,rfl,rfl,trivial⟩ ?_)
 have L:((⟨l,false⟩:Ds).str 2).2.bad=false:=by simpa using i
 rw[E,F,L]
 exact⟨J,p2,c2,rfl,f,C,D,d⟩
abbrev x2 (l:Bytes):Ds:=⟨l,false⟩
theorem side_no {l:Bytes} (h:¬1≤l.length):(x2 l).side=((false,[]),⟨l,true⟩):=by
 unfold Ds.side
 have e:(x2 l).off 1=([],⟨l,true⟩):=aR (.inr (by show l.length<1;omega))
 rw[e];rfl
theorem side_yes {l:Bytes} (h:1≤l.length):(x2 l).side=((decide (0<num (y0 l 1)),((x2 (Aj l 1)).str 2).1),((x2 (Aj l 1)).str 2).2):=by
 unfold Ds.side Aj y0
 have e:(x2 l).off 1=(l.take 1,⟨l.drop 1,false⟩):=aP (fun e=>e.elim (fun e=>by cases e) fun e=>by have e:l.length<1:=e;omega)
 rw[e,aR h,aR h]
theorem flag10_calls (w:World) {p:Option Addr} {c:Nat} {l:Bytes} (h:ux w p l) (hc:l.length≤c) (hl:l.length<900000000):
  gn prog 176 [.slice p l.length c] w fun v w'=>∃q c1 p2 c2,v= .tuple #[.bool (x2 l).side.1.1,.slice q (x2 l).side.1.2.length c1,.slice p2 (xi (x2 l).side.2).length c2,.bool (!(x2 l).side.2.bad)]∧k8 w w' q (x2 l).side.1.2.length c1 5 1 (ge (x2 l).side.1.2)∧(∀u,ux u p l→ux u p2 (xi (x2 l).side.2))∧(xi (x2 l).side.2).length≤c2∧Ext No w w':=by
 refine gx func176 ?_
 have hX:=Ext.refl No w
 refine jd rfl (ki rfl (gh call112 rfl (Cx w h hc hl 1 zd) fun v1 w1 hr1=> ?_))
 obtain⟨q1,c1,p2,c2,rfl,ho1,hs2,hc2,hE1⟩:=hr1
 have hX:=hX.gb hE1
 refine km rfl (gl (jd rfl (ud rfl (fun hc=> ?_) (fun hc=> ?_))))
 ·have hno:¬1≤l.length:=by simpa using hc
  have es:=side_no hno
  refine jd rfl (j9 (j7 (qe [_,_,_,_] ⟨rfl,rfl,rfl,rfl,trivial⟩ ?_)))
  rw[es]
  exact⟨none,0,none,0,rfl,k8.nil _ _ _ _,fun _ _=>Sl.nil _ _ _,aD _,hX⟩
 have hyes:1≤l.length:=by simpa using hc
 have es:=side_yes hyes
 have hr:=Ch l 1
 have htl:(y0 l 1).length=1:=by rw[y0,aR hyes,aL];omega
 refine x3 (ki rfl ?_)
 have hX3:=hX
 refine gh call174 rfl (zv2 w1 (hs2 _ (h.ga hX)) hc2 zo 2 zd) fun v2 w2 hr2=> ?_
 obtain⟨q3,c3,p4,c4,rfl,ho3,hs4,hc4,hE2⟩:=hr2
 have ho1:=ho1.ga hE2
 have hX:=hX.gb hE2
 have ho3:=ho3.older hX3.size
 obtain⟨b0,hb0⟩:∃b0,y0 l 1=[b0]:=by rcases hx:y0 l 1 with _|⟨x,r⟩;rw[hx] at htl;cases htl;rw[hx] at htl;exact⟨x,by rw[aZ (by simpa using htl:r.length=0)]⟩
 obtain⟨q0,o0,hq0,hsq0⟩:=Sl.mapAt (f:=zu) ho1.sl zo
 subst hq0
 refine km rfl (ki rfl (ka rfl 1 rfl 0 zo zo o0 rfl (gu rfl (hsq0 0 _ (by rw[hb0];rfl)) (vr rfl ?_))))
 refine qe [_,_,_,_] ⟨rfl,rfl,rfl,rfl,trivial⟩ ?_
 have hn:num (y0 l 1)=b0.toNat:=by rw[hb0];simp[num]
 have hd:decide ((0:Int)<(b0.toNat:Int))=decide (0<num (y0 l 1)):=by rw[hn,aH];omega
 rw[es,←hd]
 exact⟨q3,c3,p4,c4,rfl,ho3,fun u hu=>hs4 u (hs2 u hu),hc4,hX⟩
theorem yv7 {s:Ds} (h:s.bad=true) (n:Nat):s.off n=([],⟨s.rest,true⟩):=aR (.inl h)
theorem side_bad {s:Ds} (h:s.bad=true):s.side.1=(false,[])∧s.side.2.bad=true:=by
 unfold Ds.side Ds.str
 rw[yv7 h,yv7 rfl,yv7 rfl];exact⟨rfl,rfl⟩
theorem xz1 (l:Bytes) (k:Nat):(xi ((⟨l,false⟩:Ds).str k).2).length≤l.length:=by
 by_cases h:k≤l.length
 ·rw[str_yes h,(off_cut _ _).2.1]
  exact aA (Ch _ _) (Ch l k)
 rw[str_no h];exact aJ _
theorem qc {s:Ds} (n:Nat):(s.off n).1.length≤s.rest.length∧(s.off n).2.rest.length≤s.rest.length:=by
 unfold Ds.off;split
 ·exact⟨aJ _,aD _⟩
 exact⟨by rw[aL];omega,by rw[aX];omega⟩
theorem side_len (s:Ds):s.side.1.2.length≤s.rest.length:=by
 unfold Ds.side Ds.str
 have h1:=(qc (s:=s) 1).2
 have h2:=(qc (s:=(s.off 1).2) 2).2
 have h3:=(qc (s:=((s.off 1).2.off 2).2) (num ((s.off 1).2.off 2).1)).1
 exact aA h3 (aA h2 h1)
theorem restD_side (s:Ds):(xi s.side.2).length≤s.rest.length:=by
 unfold xi;split
 ·exact aJ _
 unfold Ds.side Ds.str
 exact aA (qc _).2 (aA (qc _).2 (qc _).2)
theorem off_val {s:Ds} {n:Nat} (h:(s.off n).2.bad=true):(s.off n).1=[]:=by
 unfold Ds.off at h⊢
 split
 ·rfl
 rename_i h1;rw[aP h1] at h;cases h
theorem set_bad {s:Ds} (h:(s.str 1).2.bad=true):s.set.1=⟨[],false,false,[],[]⟩∧s.set.2.bad=true:=by
 have h1:=side_bad h
 have h2:=side_bad h1.2
 have h3:(s.str 1).1=[]:=off_val h
 unfold Ds.set
 dsimp only
 rw[h1.1,h2.1,h3]
 exact⟨rfl,h2.2⟩
theorem ds_good {s:Ds} (h:s.bad=false):s=x2 (xi s):=by
 cases s;cases h;rfl
theorem restD_bad {s:Ds} (h:s.bad=true):xi s=[]:=aR h
theorem set10_calls (w:World) {p:Option Addr} {c:Nat} {l:Bytes} (h:ux w p l) (hc:l.length≤c) (hl:l.length<900000000):
  gn prog 115 [.slice p l.length c] w fun v w'=>∃a p2 c2,v= .tuple #[.agg (uz ((x2 l).set.1,a)).toArray,.slice p2 (xi (x2 l).set.2).length c2,.bool (!(x2 l).set.2.bad)]∧xg w w' ((x2 l).set.1,a)∧(∀u,ux u p l→ux u p2 (xi (x2 l).set.2))∧(xi (x2 l).set.2).length≤c2∧Ext No w w':=by
 refine gx func115 ?_
 have f:=Ext.refl No w
 refine ko (gw rfl fun T w1 W b X=> ?_)
 have F:=aA f.size W
 have f:=f.gb X
 have b:gz w1 T 91 (uz (⟨[],false,false,[],[]⟩,⟨none,0,none,0⟩)):=b
 refine km rfl (ki rfl (gh call174 rfl (zv2 w1 (h.ga f) hc hl 1 zd) fun v2 w2 Y=> ?_))
 obtain⟨q1,c1,p2,c2,rfl,Z,r,a0,G⟩:=Y
 have b:=b.ga G
 have f:=f.gb G
 have H:=str_len1 l 1
 refine km rfl (gl (jd rfl (ud rfl (fun hc=> ?_) (fun hc=> ?_))))
 ·have I:((x2 l).str 1).2.bad=true:=by simpa using hc
  obtain⟨e1,e2⟩:=set_bad I
  have e3:=restD_bad e2
  refine ko (kg rfl trivial (l':=uz (⟨[],false,false,[],[]⟩,⟨none,0,none,0⟩)) setZc ?_)
  refine wl (j4 (l':=uz (⟨[],false,false,[],[]⟩,⟨none,0,none,0⟩)) gc b rfl rfl rfl rfl OneC.h fun w3 b a1 ab=> ?_)
  have f:=f.gi a1 F
  refine vr rfl (j7 (qe [_,_,_] ⟨⟨T,0,rfl,qg gc rfl rfl b.kj rfl⟩,rfl,rfl,trivial⟩ ?_))
  rw[e1,e2,e3]
  exact⟨⟨none,0,none,0⟩,none,0,rfl,⟨k8.nil _ _ _ _,k8.nil _ _ _ _,by decide,by decide,by decide⟩,fun _ _=>Sl.nil _ _ _,aD _,f⟩
 have I:((x2 l).str 1).2.bad=false:=by simpa using hc
 have hg:=ds_good I
 have ac:((x2 l).str 1).2.rest.length≤l.length:=by have e:=xz1 l 1;rw[show xi ((⟨l,false⟩:Ds).str 1).2=((x2 l).str 1).2.rest from aP (by show¬((x2 l).str 1).2.bad=true;rw[I];decide)] at e;exact e
 have ad:((x2 l).str 1).1.length≤l.length:=H
 have ae:=side_len ((x2 l).str 1).2
 refine x3 (ki rfl (wl (D4 gc rfl rfl Z.sl (kg rfl ⟨⟨rfl,by decide⟩,trivial⟩ (l':=uz (⟨((x2 l).str 1).1,false,false,[],[]⟩,⟨none,0,none,0⟩)) rfl ?_))))
 refine gw rfl fun b8 w4 J d K=> ?_
 have j:=j2 b.lt J
 have o:=aA f.size J
 have b:=b.ga K
 have f:=f.gb K
 refine wl (j4 (l':=uz (⟨((x2 l).str 1).1,false,false,[],[]⟩,⟨none,0,none,0⟩)) gc d rfl rfl rfl rfl OneC.h fun w5 d L y=> ?_)
 have b:=b.gj L j
 have f:=f.gi L o
 refine qq (ki rfl ?_)
 have a2:=f
 refine gh call176 rfl (flag10_calls w5 (r _ (h.ga f)) a0 (by have:=xz1 l 1;omega)) fun v6 w6 a3=> ?_
 obtain⟨U,V,p4,c4,rfl,g,q,M,A⟩:=a3
 have b:=b.ga A
 have d:=d.ga A
 have f:=f.gb A
 have g:=g.older a2.size
 rw[show(x2 (xi ((x2 l).str 1).2))=((x2 l).str 1).2 from hg.symm] at g q M⊢
 refine j0 gc rfl ?_
 have i:=d
 refine kl d rfl rfl rfl fun w7 d B af=> ?_
 have b:=b.gj B j
 have g:=g.gj B i zd
 have f:=f.gi B o
 refine j0 gc rfl ?_
 have i:=d
 refine kl d rfl rfl rfl fun w8 d C D=> ?_
 have b:=b.gj C j
 have g:=g.gj C i zd
 have f:=f.gi C o
 have d:gz w8 b8 91 (uz (⟨((x2 l).str 1).1,((x2 l).str 1).2.side.1.1,false,((x2 l).str 1).2.side.1.2,[]⟩,⟨U,V,none,0⟩)):=d
 refine km rfl ?_
 refine ji (α:=SetP×Option Addr×Nat) [2,8] rfl (fun z=>[(6,.slice z.2.1 (xi (x2 l).set.2).length z.2.2),(7,.bool (!(x2 l).set.2.bad))]) (fun z u=>(xg w u ((x2 l).set.1,z.1)∧(∀u,ux u p l→ux u z.2.1 (xi (x2 l).set.2))∧(xi (x2 l).set.2).length≤z.2.2)∧gz u T 91 (uz (⟨[],false,false,[],[]⟩,⟨none,0,none,0⟩))∧gz u b8 91 (uz ((x2 l).set.1,z.1))∧Ext No w u) ?_ ?_
 ·refine gl ?_
  refine gy (km rfl (ud rfl (fun hc=> ?_) (fun hc=> ?_)))
  ·have N:((x2 l).str 1).2.side.2.bad=false:=by simpa using hc
   have a4:=ds_good N
   have ag:=side_len ((x2 l).str 1).2.side.2
   have ah:((x2 l).str 1).2.side.2.rest.length≤((x2 l).str 1).2.rest.length:=by have e:=restD_side ((x2 l).str 1).2;rw[show xi ((x2 l).str 1).2.side.2=((x2 l).str 1).2.side.2.rest from aP (by rw[N];decide)] at e;exact e
   refine yl rfl ?_
   have a5:=f
   refine gh call176 rfl (flag10_calls w8 (q _ (r _ (h.ga f))) M (by have:=restD_side ((x2 l).str 1).2;omega)) fun v9 w9 a6=> ?_
   obtain⟨q7,c7,p8,c8,rfl,k,D,O,s⟩:=a6
   have b:=b.ga s
   have d:=d.ga s
   have g:=g.ga s
   have f:=f.gb s
   have k:=k.older a5.size
   rw[show(x2 (xi ((x2 l).str 1).2.side.2))=((x2 l).str 1).2.side.2 from a4.symm] at k D O⊢
   refine j0 gc rfl ?_
   have i:=d
   refine kl d rfl rfl rfl fun ai d m a8=> ?_
   have b:=b.gj m j
   have g:=g.gj m i zd
   have k:=k.gj m i zd
   have f:=f.gi m o
   refine j0 gc rfl ?_
   have i:=d
   refine kl d rfl rfl rfl fun a7 d n a9=> ?_
   have b:=b.gj n j
   have g:=g.gj n i zd
   have k:=k.gj n i zd
   have f:=f.gi n o
   have d:gz a7 b8 91 (uz ((x2 l).set.1,⟨U,V,q7,c7⟩)):=d
   refine j0 gc rfl (gk ?_)
   exact gr (⟨U,V,q7,c7⟩,p8,c8) rfl ⟨⟨⟨g,k,(by show((x2 l).str 1).1.length<_;omega),(by show((x2 l).str 1).2.side.1.2.length<_;omega),(by show((x2 l).str 1).2.side.2.side.1.2.length<_;omega)⟩,fun u hu=>D u (q u (r u hu)),O⟩,b,d,f⟩
  have E:((x2 l).str 1).2.side.2.bad=true:=by simpa using hc
  have h5:=side_bad E
  have es:(x2 l).set.1=⟨((x2 l).str 1).1,((x2 l).str 1).2.side.1.1,false,((x2 l).str 1).2.side.1.2,[]⟩:=by
   unfold Ds.set
   dsimp only
   rw[h5.1]
  have P:(x2 l).set.2.bad=true:=h5.2
  have er:=restD_bad P
  have Q:=restD_bad E
  refine kc ?_
  rw[←es] at d
  exact gr (⟨U,V,none,0⟩,p4,c4) (by dsimp only;rw[er,P,Q,E];rfl) ⟨⟨by dsimp only;rw[es];exact⟨g,k8.nil _ _ _ _,(by show((x2 l).str 1).1.length<_;have e:(⟨l,false⟩:Ds)=x2 l:=rfl;rw[e] at H;omega),(by have:=side_len ((x2 l).str 1).2;have:=xz1 l 1;have e5:xi ((x2 l).str 1).2=((x2 l).str 1).2.rest:=aP (by rw[I];decide);rw[show((⟨l,false⟩:Ds).str 1).2=((x2 l).str 1).2 from rfl,e5] at this;show((x2 l).str 1).2.side.1.2.length<_;omega),(by show 0<_;decide)⟩,by dsimp only;rw[er];rw[Q] at q;exact fun u hu=>q u (r u hu),by dsimp only;rw[er];exact aJ _⟩,b,d,f⟩
 rintro⟨a,p5,c5⟩ aj ⟨⟨t,y,R⟩,b,d,f⟩
 try dsimp only
 dsimp only at t y R d
 refine ko (je d rfl rfl (j0 gc rfl ?_))
 have S:=b
 refine wl (j4 (l':=uz ((x2 l).set.1,a)) gc b rfl rfl rfl rfl OneC.h fun ak b x aa=> ?_)
 have t:=t.gj x S zd
 have f:=f.gi x F
 refine vr rfl (qe [_,_,_] ⟨⟨T,0,rfl,qg gc rfl rfl b.kj rfl⟩,rfl,rfl,trivial⟩ ?_)
 exact⟨a,p5,c5,rfl,t,y,R,f⟩
theorem zz9 {l:Bytes} (h:(rawB l).2.bad=true):vi l=(zz1,7):=aR h
theorem off_bad1 {s:Ds} (h:s.bad=true) (n:Nat):(s.off n).2.bad=true:=by rw[yv7 h]
theorem raw_no {l:Bytes} (h:¬2≤l.length):(rawB l).2.bad=true:=by
 have e:(x2 l).off 2=([],⟨l,true⟩):=aR (.inr (by show l.length<2;omega))
 unfold rawB
 rw[show(⟨l,false⟩:Ds).off 2=_ from e]
 dsimp only
 rw[C6 (n:=num []) rfl,yv7 (s:=⟨l,true⟩) rfl,C6 rfl]
theorem off_yes {l:Bytes} {n:Nat} (h:n≤l.length):(x2 l).off n=(y0 l n,x2 (Aj l n)):=by
 rw[y0,Aj,aR h,aR h]
 exact aP (fun e=>e.elim (fun e=>by cases e) fun e=>by have e:l.length<n:=e;omega)
theorem off_no {l:Bytes} {n:Nat} (h:¬n≤l.length):((x2 l).off n).2.bad=true:=by
 have e:(x2 l).off n=([],⟨l,true⟩):=aR (.inr (by show l.length<n;omega))
 rw[e]
theorem raw_eq {l:Bytes} {ys:List Bytes} {s1:Ds} (h:2≤l.length) (h1:Ds.each zv9 (num (y0 l 2)) (x2 (Aj l 2))=(ys,s1)):rawB l=((ys,(Ds.each Ds.set (num (s1.off 1).1) (s1.off 1).2).1),(Ds.each Ds.set (num (s1.off 1).1) (s1.off 1).2).2):=by
 unfold rawB
 rw[show(⟨l,false⟩:Ds).off 2=_ from off_yes h]
 dsimp only
 rw[show Ds.each (fun s=>s.str 2) (num (y0 l 2)) (x2 (Aj l 2))=_ from h1]
theorem raw_bad {l:Bytes} (h:2≤l.length) (h1:(Ds.each zv9 (num (y0 l 2)) (x2 (Aj l 2))).2.bad=true):(rawB l).2.bad=true:=by
 rw[raw_eq h rfl]
 dsimp only
 rw[C6 (off_bad1 h1 1)]
 exact off_bad1 h1 1
structure RdZ where
  i:Nat
  q:Option Addr
  k:Nat
  xs:List yj1
  l1:Bytes
  p1:Option Addr
  c1:Nat
  ys:List Bytes
  r:Bool
structure RdI (w u:World) (p:Option Addr) (l:Bytes) (N:Nat) (s:Ds) (z:RdZ):Prop where
  le:z.i≤N
  ea:Ds.each zv9 N s=(z.ys++(Ds.each zv9 (N-z.i) (x2 z.l1)).1,(Ds.each zv9 (N-z.i) (x2 z.l1)).2)
  xl:z.xs.length=z.i
  mp:z.xs.map Prod.fst=z.ys.map fun y=>(vj y).1
  ok:z.r=z.ys.all fun y=>decide ((vj y).2=0)
  own:k8 w u z.q z.xs.length z.k 37 73 (z.xs.flatMap B6)
  all:∀x∈z.xs,Ca x.1∧qw w u x.1 x.2
  sl:∀v,ux v p l→ux v z.p1 z.l1
  cp:z.l1.length≤z.c1
  ll:z.l1.length≤l.length
structure RsZ where
  i:Nat
  q:Option Addr
  k:Nat
  xs:List By
  l1:Bytes
  p1:Option Addr
  c1:Nat
structure RsI (w u:World) (p:Option Addr) (l:Bytes) (N:Nat) (s:Ds) (z:RsZ):Prop where
  le:z.i≤N
  ea:Ds.each Ds.set N s=(z.xs.map Prod.fst++(Ds.each Ds.set (N-z.i) (x2 z.l1)).1,(Ds.each Ds.set (N-z.i) (x2 z.l1)).2)
  xl:z.xs.length=z.i
  own:k8 w u z.q z.xs.length z.k 91 5 (z.xs.flatMap uz)
  all:∀x∈z.xs,xg w u x
  sl:∀v,ux v p l→ux v z.p1 z.l1
  cp:z.l1.length≤z.c1
  ll:z.l1.length≤l.length
theorem code_lenR {b:Bu} (h:z7 b):(uf b).length<10000000:=by
 have h1:=zq0 h.2.2.1
 have h2:(b.sets.flatMap zx4).length≤b.sets.length*9000:=B1 fun s hs=>setB_len (h.2.2.2.1 s hs)
 have h3:=h.1
 have h4:=h.2.1
 rw[uf]
 simp only[aB,jy]
 omega
theorem side_rest (s:Ds):s.side.2.rest.length≤s.rest.length:=by
 unfold Ds.side Ds.str
 exact aA (qc _).2 (aA (qc _).2 (qc _).2)
theorem set_rest (l:Bytes):(xi (x2 l).set.2).length≤l.length:=by
 have a:(xi ((x2 l).set).2).length≤((((x2 l).str 1).2.side).2).rest.length:=restD_side _
 have b:(((x2 l).str 1).2.side).2.rest.length≤((x2 l).str 1).2.rest.length:=side_rest _
 have c:((x2 l).str 1).2.rest.length≤l.length:=by
  unfold Ds.str
  exact aA (qc _).2 (qc _).2
 omega
theorem read10_calls (w:World) {p:Option Addr} {c:Nat} {l:Bytes} (h:ux w p l) (hc:l.length≤c) (hl:l.length<900000000):
  gn prog 37 [.slice p l.length c] w fun v w'=>∃B:qu,v= .tuple #[B.v,.int .i64 (vi l).2]∧B.d=(vi l).1∧xp w w' B∧Ext No w w':=by
 have h00:=h
 refine gx func37 ?_
 have hX:=Ext.refl No w
 refine ko (gw rfl fun b2 w1 hn2 hb2 hE1=> ?_)
 have fr2:=aA hX.size hn2
 have hX:=hX.gb hE1
 have hb2:gz w1 b2 25 (vg.c):=hb2
 refine km rfl (ko (gw rfl fun b4 w2 hn4 hb4 hE2=> ?_))
 have ne2_4:=j2 hb2.lt hn4
 have fr4:=aA hX.size hn4
 have hb2:=hb2.ga hE2
 have hX:=hX.gb hE2
 have hb4:gz w2 b4 25 ([.slice none 0 0,.slice none 0 0]):=hb4
 refine qq (jd rfl (ki rfl (gh call112 rfl (Cx w2 (h.ga hX) hc hl 2 zd) fun v3 w3 hr3=> ?_)))
 obtain⟨q0,c0,p1,c1,rfl,ho0,hs1,hc1,hE3⟩:=hr3
 have hb2:=hb2.ga hE3
 have hb4:=hb4.ga hE3
 have hX:=hX.gb hE3
 refine km rfl (gl (jd rfl (ud rfl (fun hc=> ?_) (fun hc=> ?_))))
 ·have hno:¬2≤l.length:=by simpa using hc
  have hrd:=zz9 (raw_no hno)
  refine ko (kg rfl trivial (l':=vg.c) rfl ?_)
  refine wl (j4 (l':=vg.c) gc hb2 rfl rfl rfl rfl OneC.h fun w4 hb2 hE4 hs4=> ?_)
  have hX:=hX.gi hE4 fr2
  refine vr rfl (j7 (qe [_,_] ⟨⟨b2,0,rfl,qg gc rfl rfl hb2.kj rfl⟩,rfl,trivial⟩ ?_))
  exact⟨vg,by rw[hrd];rfl,by rw[hrd];rfl,xp.no _ _,hX⟩
 have hyes:2≤l.length:=by simpa using hc
 have hr:=Ch l 2
 have ht:=cutT1_len l 2
 obtain⟨N0,hN0⟩:∃N,N=num (y0 l 2):=⟨_,rfl⟩
 have hnm:N0<65536:=by rw[hN0];exact aM (ub _) (aA (cR zd ht) zd)
 obtain⟨s0,hs0⟩:∃s0:Ds,s0=x2 (Aj l 2):=⟨_,rfl⟩
 refine x3 (gl (ki rfl (gh call113 rfl (C7 w3 ho0.sl zo) fun v5 w5 hr5=> ?_)))
 obtain⟨rfl,rfl⟩:=hr5
 rw[←hN0]
 refine km rfl (j8 ?_)
 refine jj (α:=RdZ) [0,2,4] rfl (fun z=>[(5,.bool z.r),(7,.slice z.p1 z.l1.length z.c1),(9,.int .u64 ((N0-z.i:Nat):Int))]) (fun z u=>(RdI w u p l N0 s0 z)∧gz u b2 25 (vg.c)∧gz u b4 25 ([.slice z.q z.xs.length z.k,.slice none 0 0])∧Ext No w u) (fun z u=>N0-z.i) (⟨0,none,0,[],Aj l 2,p1,c1,[],true⟩) rfl ⟨⟨aJ _,by rw[hs0];rfl,rfl,rfl,rfl,k8.nil _ _ _ _,fun _ h=>(by cases h),hs1,hc1,hr⟩,hb2,hb4,hX⟩ ?_
 rintro⟨i,q,k,xs,l1,p1,c1,ys,rt⟩ w6 ⟨⟨hi,hea,hxl,hmp,hok,hq,hall,hs1,hc1,hll⟩,hb2,hb4,hX⟩
 try dsimp only
 dsimp only at hi hea hxl hmp hok hq hall hs1 hc1 hll hb4
 refine gl (jd rfl (jl rfl (fun hc=> ?_) (fun hc=> ?_)))
 ·have hi2:i<N0:=by omega
  have hsl:=str_len1 l1 2
  have hdk:=dec_ok (l:=((x2 l1).str 2).1) (bL hsl zo)
  rw[show N0-i=(N0-i-1)+1 from by omega,Ds.Dg rfl] at hea
  refine Ac (ki rfl ?_)
  have hX3:=hX
  refine gh call114 rfl (object10_calls w6 (hs1 _ (h00.ga hX)) hc1 zo) fun v7 w7 hr7=> ?_
  obtain⟨a,p2,c2,rfl,hN,hs2,hc2,hE7⟩:=hr7
  have hb2:=hb2.ga hE7
  have hb4:=hb4.ga hE7
  have hq:=hq.ga hE7
  have hall:=fun x hx=>And.intro (hall x hx).1 ((hall x hx).2.ga hE7)
  have hX:=hX.gb hE7
  have hN:=hN.older (W0:=w) hX3.size
  refine j0 gc rfl ?_
  have hqb:=hq
  refine gw rfl fun b10 w8 hn10 hb10 hE8=> ?_
  have ne2_10:=j2 hb2.lt hn10
  have ne4_10:=j2 hb4.lt hn10
  have fr10:=aA hX.size hn10
  have hb2:=hb2.ga hE8
  have hb4:=hb4.ga hE8
  have hq:=hq.ga hE8
  have hall:=fun x hx=>And.intro (hall x hx).1 ((hall x hx).2.ga hE8)
  have hN:=hN.ga hE8
  have hX:=hX.gb hE8
  have hq7:∀y,jb q y→y≠b10:=fun y hy=>j2 (hqb.own.lt hy) hn10
  have hb10o:=hb10
  have hoi:u4 (obR l1):=by unfold obR;split;exact qf;exact hdk.1
  refine wl (j4 (l':=jn (obR l1) a) gc hb10 rfl rfl (gp hoi) (by rw[gp hoi];rfl) OneC.h fun w9 hb10 hE9 hs9=> ?_)
  have hb2:=hb2.gj hE9 ne2_10
  have hb4:=hb4.gj hE9 ne4_10
  have hq:=k8.mk (hq.own.ext hE9 fun y hy e=>hq7 y hy e) hq.new
  have hall:=fun x hx=>And.intro (hall x hx).1 ((hall x hx).2.gj hE9 hb10o zd zd zd)
  have hN:=hN.gj hE9 hb10o zd zd zd
  have hX:=hX.gi hE9 fr10
  refine km rfl (gl (jd rfl (ud rfl (fun hc=> ?_) (fun hc=> ?_))))
  ·have hb:((x2 l1).str 2).2.bad=true:=by simpa using hc
   have hrd:=zz9 (raw_bad hyes (by rw[←hN0,←hs0,hea];dsimp only;rw[C6 (s:=((x2 l1).str 2).2) hb];exact hb))
   refine ko (kg rfl trivial (l':=vg.c) rfl ?_)
   have hb2o:=hb2
   refine wl (j4 (l':=vg.c) gc hb2 rfl rfl rfl rfl OneC.h fun w10 hb2 hE10 hs10=> ?_)
   have hall:=fun x hx=>And.intro (hall x hx).1 ((hall x hx).2.gj hE10 hb2o zd zd zd)
   have hX:=hX.gi hE10 fr2
   refine vr rfl (j7 (gGl (qe [_,_] ⟨⟨b2,0,rfl,qg gc rfl rfl hb2.kj rfl⟩,rfl,trivial⟩ ?_)))
   exact⟨vg,by rw[hrd];rfl,by rw[hrd];rfl,xp.no _ _,hX⟩
  have hb:((x2 l1).str 2).2.bad=false:=by simpa using hc
  have hob:obR l1=(vj ((x2 l1).str 2).1).1:=aP (by rw[show(⟨l1,false⟩:Ds)=x2 l1 from rfl,hb];decide)
  have hir:isR l1=decide ((vj ((x2 l1).str 2).1).2=0):=aP (by rw[show(⟨l1,false⟩:Ds)=x2 l1 from rfl,hb];decide)
  have hgd:=ds_good hb
  have hrl:(xi ((x2 l1).str 2).2).length≤l1.length:=xz1 l1 2
  have hdo:Ca (obR l1):=by rw[hob];exact hdk
  refine x3 (ji (α:=Bool) [0,2,4,9,10,12] rfl (fun z=>[(5,.bool z)]) (fun z u=>u=w9∧z=(rt&&isR l1)) ?_ ?_)
  ·refine gy ?_
   refine j0 gc rfl (uq 44 rfl (fun hg=> ?_) (fun hg=> ?_))
   ·refine gq gc 3 rfl ?_
    refine gk ?_
    exact gr (_) rfl ⟨rfl,by rw[hg];rfl⟩
   refine gq gc 3 rfl ?_
   refine gk ?_
   exact gr (false) rfl ⟨rfl,by rw[hg];rfl⟩
  rintro z w11 ⟨hu,rfl⟩
  have hu:=hu.symm
  subst hu
  refine ki rfl (j6 hb4 rfl rfl (je hb10 rfl (gp hoi) ?_))
  refine wl (qi gc rfl 73 rfl objZc (gp qf) zd zd ⟨⟨by rw[jh];exact gp hoi,by decide⟩,trivial⟩ (l':=jn (obR l1) a) (xz2 hoi) fun b50 w12 hn50 hb50 hE12 hs12=> ?_)
  have hb2:=hb2.ga hE12
  have hb4:=hb4.ga hE12
  have hq:=hq.ga hE12
  have hall:=fun x hx=>And.intro (hall x hx).1 ((hall x hx).2.ga hE12)
  have hN:=hN.ga hE12
  have hX:=hX.gb hE12
  have hqo:=hq.own
  refine wl (xj gc rfl 73 192 rfl rfl rfl zd hq (Src.slice (m:=1) ⟨gp hoi,.inr ⟨b50,0,rfl,hb50.kj⟩⟩ OneC.h) zm zn (n':=(xs++[(obR l1,a)]).length) (ys:=(xs++[(obR l1,a)]).flatMap B6) zi (by rw[bC,bU];rfl) hX fun q k w13 hq hE13 hX=> ?_)
  dsimp only at hq hE13
  have hb2:=hb2.ke hqo hE13 (show(37:Nat)≠25 from by decide)
  have hb4:=hb4.ke hqo hE13 (show(37:Nat)≠25 from by decide)
  have hall:=fun x hx=>And.intro (hall x hx).1 ((hall x hx).2.extT hqo hE13 zd zd zd)
  have hN:=hN.extT hqo hE13 zd zd zd
  refine j0 gc rfl ?_
  have hb4o:=hb4
  refine kl hb4 rfl rfl rfl fun w14 hb4 hE14 hs14=> ?_
  have hb2:=hb2.gj hE14 ne2_4
  have hq:=hq.gj hE14 hb4o zd
  have hall:=fun x hx=>And.intro (hall x hx).1 ((hall x hx).2.gj hE14 hb4o zd zd zd)
  have hN:=hN.gj hE14 hb4o zd zd zd
  have hX:=hX.gi hE14 fr4
  have hb4:gz w14 b4 25 ([.slice q (xs++[(obR l1,a)]).length k,.slice none 0 0]):=hb4
  refine qq (yl rfl (gk (Aa rfl ?_)))
  rw[cU _ zo,show((N0-i:Nat):Int)-1=((N0-(i+1):Nat):Int) from by omega]
  refine j0 gc rfl (gk ?_)
  exact jk (⟨i+1,q,k,xs++[(obR l1,a)],xi ((x2 l1).str 2).2,p2,c2,ys++[((x2 l1).str 2).1],rt&&isR l1⟩) rfl ⟨⟨hi2,by dsimp only;rw[hea,←hgd,show N0-(i+1)=N0-i-1 from by omega,aV];rfl,by simp[hxl],by dsimp only;rw[bX,bX,hmp];show _++[obR l1]=_;rw[hob];rfl,by dsimp only;rw[hok,hir,List.all_append];simp,hq,fun x hx=>(aY.1 hx).elim (hall x) (fun e=>by rw[aI.1 e];exact⟨hdo,hN⟩),fun v hv=>hs2 v (hs1 v hv),hc2,aA hrl hll⟩,hb2,hb4,hX⟩ zf
 have h0:N0-i=0:=by omega
 rw[h0] at hea
 have hes:Ds.each zv9 N0 s0=(ys,x2 l1):=by rw[hea,Ds.each,bK]
 rw[hs0,hN0] at hes
 refine Ak (ki rfl (gh call112 rfl (Cx w6 (hs1 _ (h00.ga hX)) hc1 zo 1 zd) fun v15 w15 hr15=> ?_))
 obtain⟨q3,c3,p4,c4,rfl,ho3,hs4,hc4,hE15⟩:=hr15
 have hb2:=hb2.ga hE15
 have hb4:=hb4.ga hE15
 have hq:=hq.ga hE15
 have hall:=fun x hx=>And.intro (hall x hx).1 ((hall x hx).2.ga hE15)
 have hX:=hX.gb hE15
 refine km rfl (gl (jd rfl (ud rfl (fun hc=> ?_) (fun hc=> ?_))))
 ·have hno:¬1≤l1.length:=by simpa using hc
  have hrd:=zz9 (l:=l) (by rw[raw_eq hyes hes];dsimp only;rw[C6 (off_no hno)];exact off_no hno)
  refine ko (kg rfl trivial (l':=vg.c) rfl ?_)
  have hb2o:=hb2
  refine wl (j4 (l':=vg.c) gc hb2 rfl rfl rfl rfl OneC.h fun w16 hb2 hE16 hs16=> ?_)
  have hall:=fun x hx=>And.intro (hall x hx).1 ((hall x hx).2.gj hE16 hb2o zd zd zd)
  have hX:=hX.gi hE16 fr2
  refine vr rfl (j7 (qe [_,_] ⟨⟨b2,0,rfl,qg gc rfl rfl hb2.kj rfl⟩,rfl,trivial⟩ ?_))
  exact⟨vg,by rw[hrd];rfl,by rw[hrd];rfl,xp.no _ _,hX⟩
 have hyes1:1≤l1.length:=by simpa using hc
 have hr1:=Ch l1 1
 have ht1:=cutT1_len l1 1
 have hraw:=raw_eq hyes hes
 rw[off_yes hyes1] at hraw
 dsimp only at hraw
 obtain⟨N1,hN1⟩:∃N,N=num (y0 l1 1):=⟨_,rfl⟩
 have hnm1:N1<256:=by rw[hN1];exact aM (ub _) (aA (cR zd ht1) zd)
 obtain⟨s1,hs1e⟩:∃s1:Ds,s1=x2 (Aj l1 1):=⟨_,rfl⟩
 rw[←hN1,←hs1e] at hraw
 refine x3 (gl (ki rfl (gh call113 rfl (C7 w15 ho3.sl zo) fun v17 w17 hr17=> ?_)))
 obtain⟨rfl,rfl⟩:=hr17
 rw[←hN1]
 refine km rfl (j8 ?_)
 refine jj (α:=RsZ) [0,2,4,5] rfl (fun z=>[(7,.slice z.p1 z.l1.length z.c1),(14,.int .u64 ((N1-z.i:Nat):Int))]) (fun z u=>(RsI w u p l N1 s1 z∧k8 w u q xs.length k 37 73 (xs.flatMap B6)∧(∀x∈xs,Ca x.1∧qw w u x.1 x.2))∧gz u b2 25 (vg.c)∧gz u b4 25 ([.slice q xs.length k,.slice z.q z.xs.length z.k])∧Ext No w u) (fun z u=>N1-z.i) (⟨0,none,0,[],Aj l1 1,p4,c4⟩) rfl ⟨⟨⟨aJ _,by rw[hs1e];rfl,rfl,k8.nil _ _ _ _,fun _ h=>(by cases h),fun v hv=>hs4 v (hs1 v hv),hc4,aA hr1 hll⟩,hq,hall⟩,hb2,hb4,hX⟩ ?_
 rintro⟨j,q2,k2,ss,l2,p2,c2⟩ w18 ⟨⟨⟨hj,heb,hsl2,hsq,hsa,hs2,hc2,hll2⟩,hq,hall⟩,hb2,hb4,hX⟩
 try dsimp only
 dsimp only at hj heb hsl2 hsq hsa hs2 hc2 hll2 hb4
 refine gl (jd rfl (jl rfl (fun hc=> ?_) (fun hc=> ?_)))
 ·have hj2:j<N1:=by omega
  rw[show N1-j=(N1-j-1)+1 from by omega,Ds.Dg rfl] at heb
  refine Ac (ki rfl ?_)
  have hX3:=hX
  refine gh call115 rfl (set10_calls w18 (hs2 _ (h00.ga hX)) hc2 zo) fun v19 w19 hr19=> ?_
  obtain⟨a,p6,c6,rfl,hsn,hs6,hc6,hE19⟩:=hr19
  have hb2:=hb2.ga hE19
  have hb4:=hb4.ga hE19
  have hq:=hq.ga hE19
  have hall:=fun x hx=>And.intro (hall x hx).1 ((hall x hx).2.ga hE19)
  have hsq:=hsq.ga hE19
  have hsa:=fun x hx=>(hsa x hx).ga hE19
  have hX:=hX.gb hE19
  have hsn:=hsn.older (V:=w) hX3.size
  refine j0 gc rfl ?_
  have hqb:=hsq
  refine gw rfl fun b15 w20 hn15 hb15 hE20=> ?_
  have ne2_15:=j2 hb2.lt hn15
  have ne4_15:=j2 hb4.lt hn15
  have fr15:=aA hX.size hn15
  have hb2:=hb2.ga hE20
  have hb4:=hb4.ga hE20
  have hq:=hq.ga hE20
  have hall:=fun x hx=>And.intro (hall x hx).1 ((hall x hx).2.ga hE20)
  have hsq:=hsq.ga hE20
  have hsa:=fun x hx=>(hsa x hx).ga hE20
  have hsn:=hsn.ga hE20
  have hX:=hX.gb hE20
  have hq8:∀y,jb q2 y→y≠b15:=fun y hy=>j2 (hqb.own.lt hy) hn15
  have hb15o:=hb15
  refine wl (j4 (l':=uz ((x2 l2).set.1,a)) gc hb15 rfl rfl rfl rfl OneC.h fun w21 hb15 hE21 hs21=> ?_)
  have hb2:=hb2.gj hE21 ne2_15
  have hb4:=hb4.gj hE21 ne4_15
  have hq:=hq.gj hE21 hb15o zd
  have hall:=fun x hx=>And.intro (hall x hx).1 ((hall x hx).2.gj hE21 hb15o zd zd zd)
  have hsq:=k8.mk (hsq.own.ext hE21 fun y hy e=>hq8 y hy e) hsq.new
  have hsa:=fun x hx=>(hsa x hx).gj hE21 hb15o zd
  have hsn:=hsn.gj hE21 hb15o zd
  have hX:=hX.gi hE21 fr15
  refine km rfl (gl (jd rfl (ud rfl (fun hc=> ?_) (fun hc=> ?_))))
  ·have hb:(x2 l2).set.2.bad=true:=by simpa using hc
   have hrd:=zz9 (l:=l) (by rw[hraw,heb];dsimp only;rw[C6 (s:=(x2 l2).set.2) hb];exact hb)
   refine ko (kg rfl trivial (l':=vg.c) rfl ?_)
   have hb2o:=hb2
   refine wl (j4 (l':=vg.c) gc hb2 rfl rfl rfl rfl OneC.h fun w22 hb2 hE22 hs22=> ?_)
   have hall:=fun x hx=>And.intro (hall x hx).1 ((hall x hx).2.gj hE22 hb2o zd zd zd)
   have hsa:=fun x hx=>(hsa x hx).gj hE22 hb2o zd
   have hX:=hX.gi hE22 fr2
   refine vr rfl (j7 (gGl (qe [_,_] ⟨⟨b2,0,rfl,qg gc rfl rfl hb2.kj rfl⟩,rfl,trivial⟩ ?_)))
   exact⟨vg,by rw[hrd];rfl,by rw[hrd];rfl,xp.no _ _,hX⟩
  have hb:(x2 l2).set.2.bad=false:=by simpa using hc
  have hgd:=ds_good hb
  have hrl:(xi (x2 l2).set.2).length≤l2.length:=set_rest l2
  refine x3 (ki rfl (j6 hb4 rfl rfl (je hb15 rfl rfl ?_)))
  refine wl (qi gc rfl 5 rfl setZc rfl zd zd ⟨⟨rfl,by decide⟩,trivial⟩ (l':=uz ((x2 l2).set.1,a)) (set_put _) fun b81 w23 hn81 hb81 hE23 hs23=> ?_)
  have hb2:=hb2.ga hE23
  have hb4:=hb4.ga hE23
  have hq:=hq.ga hE23
  have hall:=fun x hx=>And.intro (hall x hx).1 ((hall x hx).2.ga hE23)
  have hsq:=hsq.ga hE23
  have hsa:=fun x hx=>(hsa x hx).ga hE23
  have hsn:=hsn.ga hE23
  have hX:=hX.gb hE23
  have hsqo:=hsq.own
  refine wl (xj gc rfl 5 72 rfl rfl rfl zd hsq (Src.slice (m:=1) ⟨rfl,.inr ⟨b81,0,rfl,hb81.kj⟩⟩ OneC.h) zm zn (n':=(ss++[((x2 l2).set.1,a)]).length) (ys:=(ss++[((x2 l2).set.1,a)]).flatMap uz) zi (by rw[bC,bU]) hX fun q2 k2 w24 hsq hE24 hX=> ?_)
  dsimp only at hsq hE24
  have hb2:=hb2.ke hsqo hE24 (show(91:Nat)≠25 from by decide)
  have hb4:=hb4.ke hsqo hE24 (show(91:Nat)≠25 from by decide)
  have hq:=hq.zv5 hsqo hE24 zd
  have hall:=fun x hx=>And.intro (hall x hx).1 ((hall x hx).2.extT hsqo hE24 zd zd zd)
  have hsa:=fun x hx=>(hsa x hx).zv5 hsqo hE24 zd
  have hsn:=hsn.zv5 hsqo hE24 zd
  refine j0 gc rfl ?_
  have hb4o:=hb4
  refine kl hb4 rfl rfl rfl fun w25 hb4 hE25 hs25=> ?_
  have hb2:=hb2.gj hE25 ne2_4
  have hq:=hq.gj hE25 hb4o zd
  have hall:=fun x hx=>And.intro (hall x hx).1 ((hall x hx).2.gj hE25 hb4o zd zd zd)
  have hsq:=hsq.gj hE25 hb4o zd
  have hsa:=fun x hx=>(hsa x hx).gj hE25 hb4o zd
  have hsn:=hsn.gj hE25 hb4o zd
  have hX:=hX.gi hE25 fr4
  have hb4:gz w25 b4 25 ([.slice q xs.length k,.slice q2 (ss++[((x2 l2).set.1,a)]).length k2]):=hb4
  refine qq (yl rfl (gk (Aa rfl ?_)))
  rw[cU _ zo,show((N1-j:Nat):Int)-1=((N1-(j+1):Nat):Int) from by omega]
  refine j0 gc rfl (gk ?_)
  exact jk (⟨j+1,q2,k2,ss++[((x2 l2).set.1,a)],xi (x2 l2).set.2,p6,c6⟩) rfl ⟨⟨⟨hj2,by dsimp only;rw[heb,←hgd,show N1-(j+1)=N1-j-1 from by omega,bX,aV];rfl,by simp[hsl2],hsq,fun x hx=>(aY.1 hx).elim (hsa x) (fun e=>by rw[aI.1 e];exact hsn),fun v hv=>hs6 v (hs2 v hv),hc6,aA hrl hll2⟩,hq,hall⟩,hb2,hb4,hX⟩ zf
 have h0:N1-j=0:=by omega
 rw[h0] at heb
 have heb2:Ds.each Ds.set N1 s1=(ss.map Prod.fst,x2 l2):=by rw[heb,Ds.each,bK]
 rw[heb2] at hraw
 dsimp only at hraw
 have hN:xp w w18 (qu.mk q k xs q2 k2 ss):=⟨hq,hsq,hall,hsa,by show xs.length<_;omega,by show ss.length<_;omega⟩
 have hbd:(qu.mk q k xs q2 k2 ss).d=batOf (rawB l).1:=by rw[hraw];show Bu.mk (xs.map Prod.fst) (ss.map Prod.fst)=_;rw[hmp];rfl
 have hrd:vi l=if(∀y∈ys,(vj y).2=0)∧z7 (qu.mk q k xs q2 k2 ss).d∧uf (qu.mk q k xs q2 k2 ss).d=l then((qu.mk q k xs q2 k2 ss).d,0) else(zz1,2):=by rw[vi,hbd,hraw];exact aP (fun e=>by cases e)
 refine Ak (gl ?_)
 refine ji (α:=Bool) [2,4] rfl (fun z=>[(98,.bool z)]) (fun z u=>(z=decide (¬((∀y∈ys,(vj y).2=0)∧z7 (qu.mk q k xs q2 k2 ss).d∧uf (qu.mk q k xs q2 k2 ss).d=l))∧xp w u (qu.mk q k xs q2 k2 ss))∧gz u b2 25 (vg.c)∧gz u b4 25 ([.slice q xs.length k,.slice q2 ss.length k2])∧Ext No w u) ?_ ?_
 ·refine gy ?_
  refine j0 gc rfl (uq 87 rfl (fun hg=> ?_) (fun hg=> ?_))
  ·have hno3:¬∀y∈ys,(vj y).2=0:=fun k=>by
    rw[hok] at hg
    simp at hg
    obtain⟨y,hy,hne⟩:=hg
    exact hne (k y hy)
   refine gq gc 11 rfl (gk ?_)
   exact gr (true) rfl ⟨⟨by symm;rw[aU];exact fun k=>hno3 k.1,hN⟩,hb2,hb4,hX⟩
  have hyes3:∀y∈ys,(vj y).2=0:=by
   rw[hok] at hg
   simpa using hg
  refine je hb4 rfl rfl (gh call32 rfl (may10_calls w18 (b:=(qu.mk q k xs q2 k2 ss)) hN.at) fun v26 w26 hr26=> ?_)
  obtain⟨rfl,hE26⟩:=hr26
  have hb2:=hb2.ga hE26
  have hb4:=hb4.ga hE26
  have hN:=hN.ga hE26
  have hX:=hX.gb hE26
  refine gq gc 3 rfl (uq 92 rfl (fun hg=> ?_) (fun hg=> ?_))
  ·have hnm3:¬z7 (qu.mk q k xs q2 k2 ss).d:=by simpa using hg
   refine gq gc 6 rfl (gk ?_)
   exact gr (true) rfl ⟨⟨by symm;rw[aU];exact fun k=>hnm3 k.2.1,hN⟩,hb2,hb4,hX⟩
  have hmay:z7 (qu.mk q k xs q2 k2 ss).d:=by simpa using hg
  refine je hb4 rfl rfl ?_
  refine gh call34 rfl (code10_calls w26 (b:=(qu.mk q k xs q2 k2 ss)) hN.at hmay.2.2.1 hmay.2.2.2.1 (by show xs.length<_;omega) (by show ss.length<_;omega)) fun v27 w27 hr27=> ?_
  obtain⟨q7,c7,rfl,ho7,hE27⟩:=hr27
  have hb2:=hb2.ga hE27
  have hb4:=hb4.ga hE27
  have hN:=hN.ga hE27
  have hX:=hX.gb hE27
  have hcl:=code_lenR hmay
  refine gq gc 1 rfl (gh call93 rfl (yj6 w27 ho7.sl (h00.ga hX) zo) fun v28 w28 hr28=> ?_)
  obtain⟨rfl,hE28⟩:=hr28
  have hb2:=hb2.ga hE28
  have hb4:=hb4.ga hE28
  have hN:=hN.ga hE28
  have hX:=hX.gb hE28
  refine gq gc 2 rfl (gk ?_)
  exact gr (_) rfl ⟨⟨by rw[←decide_not,aH];exact⟨fun k k2=>k k2.2.2,fun k k2=>k ⟨hyes3,hmay,k2⟩⟩,hN⟩,hb2,hb4,hX⟩
 rintro z w29 ⟨⟨rfl,hN⟩,hb2,hb4,hX⟩
 refine jl rfl (fun hc=> ?_) (fun hc=> ?_)
 ·have hrd2:vi l=(zz1,2):=by rw[hrd];exact aP hc
  refine ko (kg rfl trivial (l':=vg.c) rfl ?_)
  refine wl (j4 (l':=vg.c) gc hb2 rfl rfl rfl rfl OneC.h fun w30 hb2 hE30 hs30=> ?_)
  have hX:=hX.gi hE30 fr2
  refine vr rfl (j7 (qe [_,_] ⟨⟨b2,0,rfl,qg gc rfl rfl hb2.kj rfl⟩,rfl,trivial⟩ ?_))
  exact⟨vg,by rw[hrd2];rfl,by rw[hrd2];rfl,xp.no _ _,hX⟩
 have hrd2:vi l=((qu.mk q k xs q2 k2 ss).d,0):=by rw[hrd];exact aR (aS.1 hc)
 refine x3 (ko (je hb4 rfl rfl ?_))
 have hb2o:=hb2
 refine wl (j4 (l':=(qu.mk q k xs q2 k2 ss).c) gc hb2 rfl rfl rfl rfl OneC.h fun w31 hb2 hE31 hs31=> ?_)
 have hN:=hN.xw9 hE31 hb2o
 have hX:=hX.gi hE31 fr2
 refine vr rfl (qe [_,_] ⟨⟨b2,0,rfl,qg gc rfl rfl hb2.kj rfl⟩,rfl,trivial⟩ ?_)
 exact⟨(qu.mk q k xs q2 k2 ss),by rw[hrd2];rfl,by rw[hrd2],hN,hX⟩
structure BSl where
  p:Option Addr
  l:Bytes
  c:Nat
def BSl.cell (r:BSl):List Value:=[.slice r.p r.l.length r.c]
def xj6 (W u:World) (p:Option Addr) (n:Nat):Prop:=n=0∨∃b l,p=some ⟨b,0,none⟩∧gz u b 5 l∧n≤l.length∧W.heap.size≤b
theorem xj6.of {W u:World} {p:Option Addr} {n c:Nat} {xs:List Value} (h:k8 W u p n c 5 1 xs):xj6 W u p n:=by
 rcases h.own with⟨_,h0,_⟩|⟨b,l,hp,hb,hl,hn,_⟩
 ·exact .inl h0
 exact .inr ⟨b,l,hp,hb,by omega,h.new b hp⟩
theorem xj6.ext {S:Nat→Prop} {W u u':World} {p:Option Addr} {n:Nat} (h:xj6 W u p n) (hE:Ext S u u') (hS:∀b l,gz u b 5 l→¬S b):xj6 W u' p n:=h.imp id fun⟨b,l,hp,hb,hl,hn⟩=>⟨b,l,hp,hb.ext hE (hS b l hb),hl,hn⟩
structure Cg (W u:World) (x:By):Prop where
  old:xj6 W u x.2.op x.1.old.length
  new:xj6 W u x.2.np x.1.new.length
theorem Cg.of {W u:World} {x:By} (h:xg W u x):Cg W u x:=⟨.of h.old,.of h.new⟩
theorem Cg.ga {W u u':World} {x:By} (h:Cg W u x) (hE:Ext No u u'):Cg W u' x:=⟨h.old.ext hE fun _ _ _=>id,h.new.ext hE fun _ _ _=>id⟩
theorem Cg.gj {W u u':World} {x:By} {b T:Nat} {L:List Value} (h:Cg W u x) (hE:Ext (One b) u u') (hb:gz u b T L) (hT:5≠T):Cg W u' x:=⟨h.old.ext hE fun _ _ h1 e=>h1.ne hb hT e,h.new.ext hE fun _ _ h1 e=>h1.ne hb hT e⟩
theorem st_clS {P:Program} {I:u0} {f:Fs} {ops:Array Oper} {o:Oper} {env:Env} {w W:World} {K:Env→World→Prop} (hI:I.Ok P) {s:ClArgs} (h:clE I f.n ops env o=some s) (hz:cellsOf s.g.zero=[zu 0]) (hc:xj6 W w s.p s.n)
  (k:∀w',Ext (Bo W w 5 5) w w'→(∀p n,xj6 W w p n→xj6 W w' p n)→K env w'):St P f ops o env w K:=by
 refine st_cl hI h hz zd (fun v t=>by rw[aI.1 t];rfl) (fun _=>k w (Ext.refl _ _) fun _ _=>id) fun B=> ?_
 rcases hc with C|⟨b,l,u,j,x,z⟩
 ·omega
 refine⟨b,0,_,l,u,j,by simpa using x,fun w' m r _=>k w' (r.mono fun y _ e=> ?_) fun p n h=> ?_⟩
 ·have e:y=b:=e
  subst e
  exact⟨z,l,.inl j⟩
 rcases h with h|⟨q,A,a,c,d,i⟩
 ·exact .inl h
 by_cases e:q=b
 ·subst e
  obtain⟨rfl,_⟩:=c.uniq j
  exact .inr ⟨q,_,a,m,by rw[x5];exact d,i⟩
 exact .inr ⟨q,A,a,c.gj r e,d,i⟩
theorem storecodes_calls (w:World) (hr:Rt w) {pl:Option Addr} {cl:Nat} {L:List qu} (hL:Sl w pl L.length 2 (L.flatMap qu.c)) (hLa:∀B∈L,BatArg w B) (hcap:L.length≤cl) {pr:Option Addr} {cr:Nat} {R:List BSl} (hR:Sl w pr R.length 1 (R.flatMap BSl.cell)) (hRi:∀r∈R,ux w r.p r.l∧r.l.length≤r.c) (hcr:R.length≤cr):
  gn prog 5 [.slice pl L.length cl,.slice pr R.length cr] w fun v w'=>v= .bool true∧Ext No w w':=by
 refine gx func5 ?_
 have g:=Ext.refl No w
 refine jd rfl (gl (ko (gh call9 rfl (lwakes_calls w (Rt.ext hr g id)) fun v1 w1 bw=> ?_)))
 obtain⟨rfl,bx⟩:=bw
 have g:=g.gb bx
 refine km rfl (up rfl (x3 (gl (ki rfl ?_))))
 refine wl (zv gc rfl 0 (min L.length 6) cl 2 rfl (.inr ⟨rfl,rfl⟩) (.inl (congrArg some (minI _ _))) (.inr ⟨rfl,rfl⟩) (aJ _) (by have:=hcap;omega) (aD _) ?_)
 rw[jw,bB,bB]
 refine km rfl (j8 (jj (α:=Nat) [1,26,27] rfl (fun z=>[(28,.int .i64 (z:Int))]) (fun z u=>(z≤min L.length 6)∧Ext No w u) (fun z u=>min L.length 6-z) (0) rfl ⟨aJ _,g⟩ ?_))
 rintro i w2 ⟨hi,g⟩
 refine jd rfl (gl (jl rfl (fun hc=> ?_) (fun hc=> ?_)))
 ·have a5:i<L.length:=by omega
  obtain⟨qb,a6,hp,ar⟩:=hL.qd (fun x _=>qu.len x) zo
  rw[hp]
  have hB:=hLa _ (aG a5)
  refine x3 (ji (α:=Unit) [1,26,27,28] rfl (fun z=>[]) (fun z u=>Ext No w u) ?_ ?_)
  ·refine j8 ?_
   refine ko (ka rfl 2 rfl i rfl zo (a6+i*2) rfl (jm rfl ((ar i a5).ga g) rfl (gw rfl fun b6 w3 bz F c0=> ?_)))
   have c1:=aA g.size bz
   have g:=g.gb c0
   refine wl (j4 (l':=(L[i]).c) gc F rfl rfl rfl rfl OneC.h fun w4 F c2 cy=> ?_)
   have g:=g.gi c2 c1
   refine qq (ko (je F rfl rfl (gh call16 rfl (lbatch_calls w4 (hB.ga g)) fun v5 w5 c3=> ?_)))
   obtain⟨X,rfl,c4,N,b2⟩:=c3
   have F:=F.ga b2
   have g:=g.gb b2
   have cq:=N.lo
   have cs:=N.ls
   refine gw rfl fun b7 w6 b3 C au=> ?_
   have av:=j2 F.lt b3
   have c5:=aA g.size b3
   have F:=F.ga au
   have N:=N.ga au
   have g:=g.gb au
   have b4:=C
   refine wl (j4 (l':=X.c) gc C rfl rfl rfl rfl OneC.h fun w7 C aw b5=> ?_)
   have F:=F.gj aw av
   have N:=N.xw9 aw b4
   have g:=g.gi aw c5
   refine qq (ko (je C rfl rfl (gh call30 rfl (Bl w7 (b:=X) N.at) fun v8 w8 c6=> ?_)))
   obtain⟨q,k,rfl,hq,ad⟩:=c6
   have F:=F.ga ad
   have C:=C.ga ad
   have N:=N.ga ad
   have g:=g.gb ad
   refine km rfl (gl (gl (jr rfl 5 [qP 0,qP 1,(2,false),(3,false),qP 4] [] (No) zk fun w9 a7 cz=> ?_)))
   have c7:=F
   have c8:=C
   have C:=C.ga a7
   have N:=N.ga a7
   have hq:=hq.ga a7
   have g:=g.gb a7
   have hC:Ext (No) _ w9:=a7.no
   refine qa gc rfl rfl (fun w' ax=>(c8.ga ax).kj) rfl ?_
   refine qa gc rfl rfl (fun w' ax=>(c7.ga ax).kj) rfl ?_
   refine jo rfl (j1 call16 rfl (lbatch_calls w9 (hB.ga g)) fun d0 c9 ag=>⟨(by obtain⟨B3,rfl,ah,b8,G⟩:=ag;exact hC.gb G),?_⟩)
   obtain⟨B3,rfl,ah,b8,G⟩:=ag
   have C:=C.ga G
   have N:=N.ga G
   have hq:=hq.ga G
   have g:=g.gb G
   have hC:=hC.gb G
   refine jo rfl (j1 call31 rfl (yv0 c9 (a:=X) (b:=B3) N.at b8.at) fun d1 ca ai=>⟨(by obtain⟨rfl,O⟩:=ai;exact hC.gb O),?_⟩)
   obtain⟨rfl,O⟩:=ai
   have C:=C.ga O
   have N:=N.ga O
   have hq:=hq.ga O
   have g:=g.gb O
   rw[bQ (c4.trans ah.symm)]
   refine gt gc 1 rfl (jg (j5 (jp (up rfl (x3 (ko (je C rfl rfl (gh call32 rfl (may10_calls ca (b:=X) N.at) fun d2 cb b9=> ?_))))))))
   obtain⟨rfl,a1⟩:=b9
   have C:=C.ga a1
   have N:=N.ga a1
   have hq:=hq.ga a1
   have g:=g.gb a1
   refine km rfl (ud rfl (fun hc=> ?_) (fun hc=> ?_))
   ·have ba:¬z7 X.d:=by simpa using hc
    have ae:yx X.d=[]:=aP ba
    have ay:mayE X.d=2:=aP ba
    rw[ae,ay]
    refine ji (α:=Bool) [1,26,27,28] rfl (fun z=>[(53,.bool z)]) (fun z u=>(z=false)∧Ext No w u) ?_ ?_
    ·refine gy ?_
     refine j0 gc rfl (ja 49 rfl (fun hg=> ?_) (fun hg=> ?_))
     ·exact absurd rfl hg
     refine gq gc 4 rfl ?_
     refine gk ?_
     exact gr (false) rfl ⟨rfl,g⟩
    rintro z d3 ⟨rfl,g⟩
    refine up rfl (kc ?_)
    exact js (gr (()) rfl g)
   have H:z7 X.d:=by simpa using hc
   have ae:yx X.d=uf X.d:=aR H
   have ay:mayE X.d=0:=aR H
   rw[ae] at hq
   rw[ae,ay]
   have ct:=code_lenR H
   refine ji (α:=Bool) [1,26,27,28] rfl (fun z=>[(62,.bool z)]) (fun z u=>(z=false)∧Ext No w u) ?_ ?_
   ·refine gy ?_
    refine j0 gc rfl (ja 56 rfl (fun hg=> ?_) (fun hg=> ?_))
    ·exact absurd rfl hg
    refine gq gc 1 rfl ?_
    refine je C rfl rfl ?_
    refine gh call34 rfl (code10_calls cb (b:=X) N.at H.2.2.1 H.2.2.2.1 (by have:=H.1;have e:X.d.objs.length=X.os.length:=aE ..;omega) (by have:=H.2.1;have e:X.d.sets.length=X.ss.length:=aE ..;omega)) fun d4 cc bb=> ?_
    obtain⟨q9,k9,rfl,cd,aj⟩:=bb
    have hq:=hq.ga aj
    have g:=g.gb aj
    refine gh call33 rfl (yz4 cc hq.sl cd.sl zo) fun d5 d6 bc=> ?_
    obtain⟨rfl,bd⟩:=bc
    have g:=g.gb bd
    rw[bQ rfl]
    refine gq gc 2 rfl (gk ?_)
    exact gr (false) rfl ⟨rfl,g⟩
   rintro z d7 ⟨rfl,g⟩
   refine up rfl (kc ?_)
   exact js (gr (()) rfl g)
  rintro⟨⟩ d8 g
  refine yl rfl ?_
  rw[jz _ zo]
  refine gk ?_
  exact jk (i+1) rfl ⟨by omega,g⟩ zf
 refine y8 ?_
 refine ql (ql (ve (jp (gl (ki rfl ?_)))))
 refine wl (zv gc rfl 0 (min R.length 12) cr 1 rfl (.inr ⟨rfl,rfl⟩) (.inl (congrArg some (minI _ _))) (.inr ⟨rfl,rfl⟩) (aJ _) (by have:=hcr;omega) (aD _) ?_)
 rw[jw,bB,bB]
 refine km rfl (j8 (jj (α:=Nat) [68,69] rfl (fun z=>[(70,.int .i64 (z:Int))]) (fun z u=>(z≤min R.length 12)∧Ext No w u) (fun z u=>min R.length 12-z) (0) rfl ⟨aJ _,g⟩ ?_))
 rintro i ce ⟨hi,g⟩
 refine jd rfl (gl (jl rfl (fun hc=> ?_) (fun hc=> ?_)))
 ·have a5:i<R.length:=by omega
  obtain⟨qb,a6,hp,ar⟩:=hR.qd (fun _ _=>rfl) zo
  rw[hp]
  have bf:=hRi _ (aG a5)
  obtain⟨m,hm⟩:∃m,m=(R[i]).l.take 9000:=⟨_,rfl⟩
  have d9:m.length≤9000:=by rw[hm,aL];omega
  have cf:ux w (R[i]).p m:=by rw[hm];exact bf.1.cutB 9000
  refine Ac (ko (ka rfl 1 rfl i rfl zo (a6+i*1) rfl (gu rfl (((ar i a5).ga g) 0 _ rfl) (km rfl (ko ?_)))))
  refine j0 gc rfl (wl (zv gc rfl 0 (min (R[i]).l.length 9000) (R[i]).c 1 rfl (.inr ⟨rfl,rfl⟩) (.inl (congrArg some (minI _ _))) (.inr ⟨rfl,rfl⟩) (aJ _) (by have:=bf.2;omega) (aD _) ?_))
  rw[jw,bB,bB]
  rw[Bm (R[i]).l 9000,←hm]
  refine gh call35 rfl (xd ce (l:=m) (cf.ga g) zo) fun da cg bg=> ?_
  obtain⟨q1,k1,rfl,n,db,bh⟩:=bg
  have g:=g.gb bh
  refine km rfl (ki rfl (gh call35 rfl (xd cg (l:=m) n.sl zo) fun dc bi bj=> ?_))
  obtain⟨q2,k2,rfl,o,dd,ak⟩:=bj
  have n:=n.ext ak fun _ _=>id
  have g:=g.gb ak
  refine km rfl (ki rfl ?_)
  obtain⟨W1,az⟩:∃W1,W1=bi:=⟨_,rfl⟩
  have b0:=g.size
  have al:∀y,jb q1 y→y<W1.heap.size:=fun y Y=>by rw[az];exact n.lt Y
  have am:∀y,jb q2 y→y<W1.heap.size:=fun y Y=>by rw[az];exact o.lt Y
  refine gh call36 rfl (xj7 bi n.sl zo) fun de df bk=> ?_
  obtain⟨V,rfl,ch,A,a8⟩:=bk
  have n:=n.ext a8 fun _ _=>id
  have o:=o.ext a8 fun _ _=>id
  have g:=g.gb a8
  rw[←az] at A b0
  have cu:=A.ls
  refine j0 gc rfl (gw rfl fun bm dg bn f a2=> ?_)
  have bo:=aA g.size bn
  have n:=n.ext a2 fun _ _=>id
  have o:=o.ext a2 fun _ _=>id
  have A:=A.ga a2
  have g:=g.gb a2
  have Z:=f
  refine wl (j4 (l':=V.c) gc f rfl rfl rfl rfl OneC.h fun ci f a3 cv=> ?_)
  have n:=n.ju a3 Z zd
  have o:=o.ju a3 Z zd
  have A:=A.xw9 a3 Z
  have g:=g.gi a3 bo
  refine km rfl (ki rfl (gh call37 rfl (read10_calls ci o.sl o.cap zo) fun dh di bp=> ?_))
  obtain⟨B5,rfl,cj,a9,W⟩:=bp
  have f:=f.ga W
  have n:=n.ext W fun _ _=>id
  have o:=o.ext W fun _ _=>id
  have A:=A.ga W
  have g:=g.gb W
  refine j0 gc rfl (gw rfl fun bq dj an t P=> ?_)
  have aa:=j2 f.lt an
  have br:=aA g.size an
  have f:=f.ga P
  have n:=n.ext P fun _ _=>id
  have o:=o.ext P fun _ _=>id
  have A:=A.ga P
  have a9:=a9.ga P
  have g:=g.gb P
  have U:=t
  refine wl (j4 (l':=B5.c) gc t rfl rfl rfl rfl OneC.h fun ck t Q cw=> ?_)
  have f:=f.gj Q aa
  have n:=n.ju Q U zd
  have o:=o.ju Q U zd
  have A:=A.xw9 Q U
  have a9:=a9.xw9 Q U
  have g:=g.gi Q br
  refine km rfl (gl ?_)
  refine ji (α:=Bool) [12,13,14,68,69,70] rfl (fun z=>[(100,.bool z)]) (fun z u=>(z=false∧xp W1 u V∧Own u q1 m.length k1 5 1 (ge m)∧Own u q2 m.length k2 5 1 (ge m))∧gz u bm 25 (V.c)∧gz u bq 25 (B5.c)∧Ext No w u) ?_ ?_
  ·refine gy ?_
   refine j0 gc rfl (ja 95 rfl (fun hg=> ?_) (fun hg=> ?_))
   ·exact absurd rfl hg
   refine je f rfl rfl ?_
   refine je t rfl rfl (gh call31 rfl (yv0 ck (a:=V) (b:=B5) A.at a9.at) fun dk dl bs=> ?_)
   obtain⟨rfl,S⟩:=bs
   have f:=f.ga S
   have t:=t.ga S
   have n:=n.ext S fun _ _=>id
   have o:=o.ext S fun _ _=>id
   have A:=A.ga S
   have g:=g.gb S
   rw[bQ (ch.trans cj.symm)]
   refine gq gc 2 rfl (gk ?_)
   exact gr (false) rfl ⟨⟨rfl,A,n,o⟩,f,t,g⟩
  rintro z cm ⟨⟨rfl,A,n,o⟩,f,t,g⟩
  refine up rfl (x3 (gl (ki rfl (j6 f rfl rfl ?_))))
  have E:=A.ss
  have D:∀x∈V.ss,Cg W1 cm x:=fun x hx=>Cg.of (A.s x hx)
  refine km rfl (j8 ?_)
  refine jj (α:=Nat) [12,13,68,69,70,102,103] rfl (fun z=>[(104,.int .i64 (z:Int))]) (fun z u=>(z≤V.ss.length∧k8 W1 u V.sp V.ss.length V.sc 91 5 (V.ss.flatMap uz)∧(∀x∈V.ss,Cg W1 u x)∧Own u q1 m.length k1 5 1 (ge m)∧Own u q2 m.length k2 5 1 (ge m))∧gz u bm 25 (V.c)∧gz u bq 25 (B5.c)∧Ext No w u) (fun z u=>V.ss.length-z) (0) rfl ⟨⟨aJ _,E,D,n,o⟩,f,t,g⟩ ?_
  rintro j cn ⟨⟨hj,E,D,n,o⟩,f,t,g⟩
  refine jd rfl (gl (jl rfl (fun hc=> ?_) (fun hc=> ?_)))
  ·have af:j<V.ss.length:=by omega
   obtain⟨qs,os,b1,bt⟩:=E.sl.qd (fun x _=>Bh x) zo
   have dm:V.sp=some ⟨qs,os,none⟩:=b1
   rw[b1]
   refine Ac (ko (ka rfl 5 rfl j rfl af (os+j*5) rfl (jm rfl (bt j af) rfl ?_)))
   have co:=E
   refine gw rfl fun cp dn a4 I J=> ?_
   have ab:=j2 f.lt a4
   have ac:=j2 t.lt a4
   have bu:=aA g.size a4
   have f:=f.ga J
   have t:=t.ga J
   have n:=n.ext J fun _ _=>id
   have o:=o.ext J fun _ _=>id
   have E:=E.ga J
   have D:=fun x hx=>(D x hx).ga J
   have g:=g.gb J
   have b5:∀y,jb V.sp y→y≠cp:=fun y Y=>j2 (co.own.lt Y) a4
   have a0:=I
   refine wl (j4 (l':=uz V.ss[j]) gc I rfl rfl rfl rfl OneC.h fun dp I K cx=> ?_)
   have f:=f.gj K ab
   have t:=t.gj K ac
   have n:=n.ju K a0 zd
   have o:=o.ju K a0 zd
   have E:=k8.mk (E.own.ext K fun y Y e=>b5 y Y e) E.new
   have D:=fun x hx=>(D x hx).gj K a0 zd
   have g:=g.gi K bu
   refine qq (ki rfl (j6 I rfl rfl (wl (st_clS gc rfl rfl (D _ (aG af)).old fun dq M ao=> ?_))))
   have f:=f.x4 M zd zd
   have t:=t.x4 M zd zd
   have I:=I.x4 M zd zd
   have E:=E.x4 M zd zd
   have D:=fun x hx=>Cg.mk (ao _ _ (D x hx).old) (ao _ _ (D x hx).new)
   have n:=n.ext M fun y Y k=>by have:=al y Y;have:=k.1;omega
   have o:=o.ext M fun y Y k=>by have:=am y Y;have:=k.1;omega
   have g:=g.newer M fun y k=>aA b0 k.1
   refine qq (yl rfl (j6 I rfl rfl (wl (st_clS gc rfl rfl (D _ (aG af)).new fun dr T ap=> ?_))))
   have f:=f.x4 T zd zd
   have t:=t.x4 T zd zd
   have E:=E.x4 T zd zd
   have D:=fun x hx=>Cg.mk (ap _ _ (D x hx).old) (ap _ _ (D x hx).new)
   have n:=n.ext T fun y Y k=>by have:=al y Y;have:=k.1;omega
   have o:=o.ext T fun y Y k=>by have:=am y Y;have:=k.1;omega
   have g:=g.newer T fun y k=>aA b0 k.1
   refine gk (Aa rfl ?_)
   rw[jz _ zo]
   refine gk ?_
   exact jk (j+1) rfl ⟨⟨by omega,b1▸E,D,n,o⟩,f,t,g⟩ zf
  refine y8 ?_
  refine ql (ql (ve (jp (ki rfl (gh call33 rfl (yz4 cn n.sl o.sl zo) fun ds dt bv=> ?_)))))
  obtain⟨rfl,aq⟩:=bv
  have D:=fun x hx=>(D x hx).ga aq
  have g:=g.gb aq
  rw[bQ rfl]
  refine km rfl (up rfl (kc (Aa rfl ?_)))
  rw[jz _ zo]
  refine gk ?_
  exact jk (i+1) rfl ⟨by omega,g⟩ zf
 refine y8 ?_
 refine ql (ql (ve (jp (jd rfl (j9 (gv rfl rfl ?_))))))
 exact⟨rfl,g⟩
end Go.Proofs.YtpdiphfjmepijaaGreatDoor
