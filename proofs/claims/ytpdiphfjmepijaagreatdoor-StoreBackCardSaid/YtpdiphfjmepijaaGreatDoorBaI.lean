/-
  Walks and laws towards: a batch is decoded from its bytes, and less of them is too short (StoreBack)
-/
import Derived.Test.YtpdiphfjmepijaaGreatDoorRows
import Derived.ProofKit
import Derived.LaidMore
import Derived.OpenShut
import Derived.Lib.LaidTab
import Derived.Test.YtpdiphfjmepijaaGreatDoorBaH
namespace Go.Proofs.YtpdiphfjmepijaaGreatDoor
open Go.Proofs.Tryz
open Go.Vc
theorem Sl.mapAt {α:Type} {w:World} {p:Option Addr} {f:α→Value} {l:List α} (h:Sl w p l.length 1 (l.map f)) (h0:0<l.length):∃b off,p=some ⟨b,off,none⟩∧Seg w b off (l.map f):=by
 obtain⟨_,h1|⟨b,off,hp,hs⟩⟩:=h
 ·omega
 exact⟨b,off,hp,hs⟩
theorem xw2 (w:World) {p q:Option Addr} {c d:Nat} {l m:List (UInt8)} (h:Sl w p l.length 1 (l.map A1)) (h':Sl w q m.length 1 (m.map A1)) (hl:l.length<1000000000):
  gn prog 33 [.slice p l.length c,.slice q m.length d] w fun v w'=>v= .bool (decide (l=m))∧Ext No w w':=by
 refine gx func33 ?_
 have hX:=Ext.refl No w
 refine je rfl (gk (je rfl (jl rfl (fun hc=> ?_) (fun hc=> ?_))))
 ·refine gk ?_
  refine j4 (jz rfl (gq (gp (gu rfl rfl ?_))))
  exact⟨congrArg Value.bool (by symm;rw[decide_eq_false_iff_not];intro h;rw[h] at hc;exact hc rfl),hX⟩
 have hlm:l.length=m.length:=by omega
 refine xz (je rfl (gr ?_))
 refine jm (α:=Nat) [0,1,12] rfl (fun z=>[(13,.int .i64 (z:Int))]) (fun z u=>(z≤l.length∧∀k (hk:k<l.length),k<z→l[k]=m[k]'zo)∧Ext No w u) (fun z u=>l.length-z) (0) rfl ⟨⟨Nat.zero_le _,fun k _ h=>absurd h (Nat.not_lt_zero _)⟩,hX⟩ ?_
 rintro i w1 ⟨⟨hi,hok⟩,hX⟩
 refine je rfl (gk (jl rfl (fun hc=> ?_) (fun hc=> ?_)))
 ·have hi:i<l.length:=by omega
  have him:i<m.length:=by omega
  obtain⟨b,off,rfl,hsa⟩:=Sl.mapAt h zo
  obtain⟨b',off',rfl,hsb⟩:=Sl.mapAt h' zo
  have hca:∀u,Ext No w u→u.cell? ⟨b,off+i,none⟩=some (A1 l[i]):=fun u hE=>(hsa.ga hE) i _ (by rw[List.getElem?_map,List.getElem?_eq_getElem hi];rfl)
  have hcb:∀u,Ext No w u→u.cell? ⟨b',off'+i,none⟩=some (A1 m[i]):=fun u hE=>(hsb.ga hE) i _ (by rw[List.getElem?_map,List.getElem?_eq_getElem him];rfl)
  refine xz (gr (je rfl (gk ?_)))
  refine js rfl 9 [qP 0,qP 1,qP 2,qP 3,qP 4,qP 5,qP 6,qP 7,qP 8] [] (No) zk fun w2 hE2 hs2=> ?_
  have hXd:=hX
  have hX:=hX.gb hE2
  refine gv gc 2 rfl (qk gc rfl rfl 1 rfl i rfl zo (off+i) (by rw[Nat.mul_one]) (j6 gc rfl rfl (fun w' hw'=>(hca w' (hXd.gb hw'))) ?_))
  refine gv gc 2 rfl (qk gc rfl rfl 1 rfl i rfl zo (off'+i) (by rw[Nat.mul_one]) (j6 gc rfl rfl (fun w' hw'=>(hcb w' (hXd.gb hw'))) ?_))
  refine gv gc 1 rfl (jj (ja (j1 (jl rfl (fun hc=> ?_) (fun hc=> ?_)))))
  ·refine gk ?_
   refine j4 (jz rfl (gq (ji (gp (gp (ji (gp (gu rfl rfl ?_))))))))
   exact⟨congrArg Value.bool (by symm;rw[decide_eq_false_iff_not];intro e;subst e;exact hc rfl),hX⟩
  have hei:l[i]=m[i]:=UInt8.toNat_inj.1 (by have e:=Decidable.not_not.1 hc;omega)
  refine j7 (Bo rfl ?_)
  rw[kg _ zo]
  refine gm ?_
  exact jn (i+1) rfl ⟨⟨by omega,fun k hk hlt=>(by rcases Nat.lt_or_ge k i with h0|h0;exact hok k hk h0;(have e:k=i:=zo);subst e;exact hei)⟩,hX⟩ zf
 have hall:l=m:=C8 hlm fun k hk=>hok k hk zo
 refine Bi (je rfl (gq (gu rfl rfl ?_)))
 exact⟨congrArg Value.bool (decide_eq_true hall).symm,hX⟩
theorem equalS_calls (w:World) {p q:Option Addr} {c d:Nat} {l m:List (Str)} (h:Sl w p l.length 1 (l.map xn)) (h':Sl w q m.length 1 (m.map xn)) (hl:l.length<1000000000):
  gn prog 51 [.slice p l.length c,.slice q m.length d] w fun v w'=>v= .bool (decide (l=m))∧Ext No w w':=by
 refine gx func51 ?_
 have hX:=Ext.refl No w
 refine je rfl (gk (je rfl (jl rfl (fun hc=> ?_) (fun hc=> ?_))))
 ·refine gk ?_
  refine j4 (jz rfl (gq (gp (gu rfl rfl ?_))))
  exact⟨congrArg Value.bool (by symm;rw[decide_eq_false_iff_not];intro h;rw[h] at hc;exact hc rfl),hX⟩
 have hlm:l.length=m.length:=by omega
 refine xz (je rfl (gr ?_))
 refine jm (α:=Nat) [0,1,12] rfl (fun z=>[(13,.int .i64 (z:Int))]) (fun z u=>(z≤l.length∧∀k (hk:k<l.length),k<z→l[k]=m[k]'zo)∧Ext No w u) (fun z u=>l.length-z) (0) rfl ⟨⟨Nat.zero_le _,fun k _ h=>absurd h (Nat.not_lt_zero _)⟩,hX⟩ ?_
 rintro i w1 ⟨⟨hi,hok⟩,hX⟩
 refine je rfl (gk (jl rfl (fun hc=> ?_) (fun hc=> ?_)))
 ·have hi:i<l.length:=by omega
  have him:i<m.length:=by omega
  obtain⟨b,off,rfl,hsa⟩:=Sl.mapAt h zo
  obtain⟨b',off',rfl,hsb⟩:=Sl.mapAt h' zo
  have hca:∀u,Ext No w u→u.cell? ⟨b,off+i,none⟩=some (xn l[i]):=fun u hE=>(hsa.ga hE) i _ (by rw[List.getElem?_map,List.getElem?_eq_getElem hi];rfl)
  have hcb:∀u,Ext No w u→u.cell? ⟨b',off'+i,none⟩=some (xn m[i]):=fun u hE=>(hsb.ga hE) i _ (by rw[List.getElem?_map,List.getElem?_eq_getElem him];rfl)
  refine xz (gr (je rfl (gk ?_)))
  refine js rfl 9 [qP 0,qP 1,qP 2,qP 3,qP 4,qP 5,qP 6,qP 7,qP 8] [] (No) zk fun w2 hE2 hs2=> ?_
  have hXd:=hX
  have hX:=hX.gb hE2
  refine gv gc 2 rfl (qk gc rfl rfl 1 rfl i rfl zo (off+i) (by rw[Nat.mul_one]) (j6 gc rfl rfl (fun w' hw'=>(hca w' (hXd.gb hw'))) ?_))
  refine gv gc 2 rfl (qk gc rfl rfl 1 rfl i rfl zo (off'+i) (by rw[Nat.mul_one]) (j6 gc rfl rfl (fun w' hw'=>(hcb w' (hXd.gb hw'))) ?_))
  refine gv gc 1 rfl (jj (ja (j1 (jl rfl (fun hc=> ?_) (fun hc=> ?_)))))
  ·refine gk ?_
   refine j4 (jz rfl (gq (ji (gp (gp (ji (gp (gu rfl rfl ?_))))))))
   exact⟨congrArg Value.bool (by symm;rw[decide_eq_false_iff_not];intro e;subst e;exact hc rfl),hX⟩
  have hei:l[i]=m[i]:=A6 (Decidable.not_not.1 hc)
  refine j7 (Bo rfl ?_)
  rw[kg _ zo]
  refine gm ?_
  exact jn (i+1) rfl ⟨⟨by omega,fun k hk hlt=>(by rcases Nat.lt_or_ge k i with h0|h0;exact hok k hk h0;(have e:k=i:=zo);subst e;exact hei)⟩,hX⟩ zf
 have hall:l=m:=C8 hlm fun k hk=>hok k hk zo
 refine Bi (je rfl (gq (gu rfl rfl ?_)))
 exact⟨congrArg Value.bool (decide_eq_true hall).symm,hX⟩
theorem brO_known {row fr:List jk} {o:jk} (h:Ao o∈uv row):brO (some (row,fr)) o=some (row,fr):=if_pos h
theorem bring_known (o:jk):yf [o] [o]=some ([o],[]):=brO_known (List.mem_map_of_mem (List.mem_singleton.2 rfl))
theorem bring_new {o:jk} (h:qx o=[]):yf [] [o]=some ([o],[o]):=by
 show brO (some ([],[])) o=_
 simp[brO,uv,h]
def swO:jk:={ut with kind:=1,text:=[97]}
def swS:xt:=⟨[107],false,true,[],[7]⟩
def swB:A2:=⟨[swO],[swS]⟩
def swC:Bytes:=qi swB
def swA:Wl:=Wl.fresh (ve (kj.fresh 42) 20).1 20
def swX:Wl:=(swA.append swC).1
def swP:Dj:=⟨[swO],[([107],[7])]⟩
theorem sw1:(ve (kj.fresh 42) 20).2=0:=by decide+kernel
theorem sw2:(swA.append swC).2=0:=by decide+kernel
theorem sw3:(ui (swX.D.xv4 [])).2=(0,0,20,[[],swC]):=by decide+kernel
theorem sw4:yn swB:=by decide+kernel
theorem sw5:uc swC=(swB,0):=by decide+kernel
theorem sw6:jt yx4 swB=(swP,swB,0):=by
 have h0:qx swO=[]:=by decide+kernel
 have h1:yf yx4.row swB.objs=some ([swO],[swO]):=bring_new h0
 have h2:Am yx4.vals swB.sets=some [([107],[7])]:=by decide+kernel
 rw[after_three h1 h2]
 exact if_neg zd
theorem sw7:(jt swP swB).2.2=200:=by
 have h1:yf swP.row swB.objs=some ([swO],[]):=bring_known swO
 have h2:Am swP.vals swB.sets=none:=by decide+kernel
 exact after_no2 h1 h2
theorem sw8:swC.length≤40000∧(kl swC.length:Int)≤(swA.size:Int)-swA.used:=by decide+kernel
theorem sw9:y7 ⟨swA,yx4⟩ swB=(⟨swX,swP⟩,0):=by
 have h1:qi swB=swC:=rfl
 unfold y7
 rw[if_neg zd,if_neg (fun e=>e sw4),sw6]
 rw[if_neg zd,h1]
 unfold D5
 rw[if_pos sw8,sw2]
 rfl
theorem sw10:y7 ⟨swX,swP⟩ swB=(⟨swX,swP⟩,200):=by
 have hb:swX.broken=false:=by decide+kernel
 unfold y7
 rw[if_neg (by rw[hb];decide),if_neg (fun e=>e sw4),sw7]
 exact if_pos (.inl zd)
theorem open_eq {D:kj} {s:Dj} (h1:(ui D).2.1=0) (h4:saidD (Wl.opened (ui D)).pieces=some s):xq9 D=((ui D).1,0,some ⟨Wl.opened (ui D),s⟩):=by
 unfold xq9
 rw[if_neg (fun e=>e h1),h4]
theorem opn_err {x:kj×Int×Nat×Nat×List Bytes} {e:Int} {t n:Nat} {ps:List Bytes} (h:x.2=(e,t,n,ps)):x.2.1=e:=by rw[h]
theorem opn_pieces {x:kj×Int×Nat×Nat×List Bytes} {e:Int} {t n:Nat} {ps:List Bytes} (h:x.2=(e,t,n,ps)):(Wl.opened x).pieces=ps:=by show x.2.2.2.2=_;rw[h]
theorem said_two {c:Bytes} {s:Dj} (h:ux yx4 c=some s):saidD [[],c]=some s:=h
theorem said_eq {s t:Dj} {c:Bytes} {b:A2} (h1:uc c=(b,0)) (h2:jt s b=(t,b,0)):ux s c=some t:=by
 unfold ux
 rw[h1]
 dsimp only
 rw[h2]
 exact if_pos ⟨rfl,rfl,rfl⟩
def swD:kj:=swX.D.xv4 []
def swW:Wl:=Wl.opened (ui swD)
theorem sw11:xq9 swD=((ui swD).1,0,some ⟨swW,swP⟩):=by
 have a:(ui swD).2.1=0:=opn_err sw3
 have b:(Wl.opened (ui swD)).pieces=[[],swC]:=opn_pieces sw3
 have c:ux yx4 swC=some swP:=said_eq sw5 sw6
 have d:saidD (Wl.opened (ui swD)).pieces=some swP:=by rw[b];exact said_two c
 exact open_eq a d
abbrev swBX (b23 b24 b26:Nat):uf:=⟨some ⟨b23,0,none⟩,1,[(swO,noP)],some ⟨b26,0,none⟩,1,[(swS,⟨none,0,some ⟨b24,0,none⟩,1⟩)]⟩
theorem Ba:qv swO:=⟨by decide,by decide,fun _ h=>(by cases h),fun _ h=>(by cases h),fun _ h=>(by cases h),by decide,by decide⟩
theorem swO_short:Bp swO:=⟨by decide,by decide,by decide,fun _ h=>(by cases h),fun _ h=>(by cases h)⟩
theorem swO_l (w:World):Bh w swO noP:=⟨Sl.nil _ _ _,Sl.nil _ _ _,Sl.nil _ _ _⟩
theorem sw_bat {u:World} {b23 b24 b26:Nat} (h23:j0 u b23 37 (Bb (swO,noP))) (h24:j0 u b24 5 (ge [7])) (h26:j0 u b26 91 (x8 (swS,⟨none,0,some ⟨b24,0,none⟩,1⟩))):Ch u (swBX b23 b24 b26):=by
 refine⟨⟨by rw[List.flatMap_singleton];exact gt Ba,.inr ⟨b23,0,rfl,by rw[List.flatMap_singleton];exact h23.ko⟩⟩,⟨rfl,.inr ⟨b26,0,rfl,h26.ko⟩⟩,fun x a=> ?_,fun x a=> ?_,(by show 1<1000000;decide),(by show 1<1000000;decide)⟩
 ·rw[List.mem_singleton.1 a]
  exact⟨Ba,swO_short,swO_l u⟩
 rw[List.mem_singleton.1 a]
 exact⟨Sl.nil _ _ _,⟨rfl,.inr ⟨b24,0,rfl,h24.ko⟩⟩,(by show 1<1000000000;decide),(by show 0<1000000000;decide),(by show 1<1000000000;decide)⟩
theorem mem_ids (o:jk):Ao o∈uv [o]:=List.mem_map_of_mem (List.mem_singleton.2 rfl)
theorem swP_ok:Dj.Ok swP:=by
 have h:=(after_ok yv8 sw4).1
 rw[sw6] at h;exact h
theorem swO_b:BytesIn swO:=⟨.inl rfl,fun _=>by decide,fun e=>absurd e zd,fun e=>absurd e zd,fun e=>absurd e zd,fun e=>absurd e zd⟩
theorem lwakes_calls (w:World) (hr:Rt w):
  gn prog 9 [] w fun v w'=>v= .bool true∧Ext No w w':=by
 refine gx func9 ?_
 have o:=Ext.refl No w
 have dk:=hr.lt
 have f:=hr
 have dl:=Nat.le_refl w.heap.size
 refine je rfl (qa (gi call22 rfl (new_calls w (n:=42) zd) fun v1 w1 cm=> ?_))
 obtain⟨d,F1,rfl,hA,ap,bi⟩:=cm
 have f:=Rt.ext f bi id
 have o:=o.gb bi
 have ae:(kj.fresh 42).Ok 0:=kj.Ok.fresh zd
 have b0:swA.D.Ok (0+6000):=(formatW_ok ae 20).1
 have bj:Wl.Ok swA:=(format_fine (a:=20) sw1 ae).1
 obtain⟨af,cn⟩:=append_fine (W:=swA) b0 bj swC
 have bk:swD.Ok _:=af.xv4 []
 refine jz rfl (gk (je rfl (ur rfl (j7 (j1 (qc rfl ?_))))))
 have dm:=o.size
 refine gi call13 rfl (sformat_calls w1 hA ae zd 20 zd f (fun e=>by have:=ap 0 e;omega)) fun v2 w2 co=> ?_
 obtain⟨so,F2,rfl,dn,bm,bn,dp,cp⟩:=co
 have o:=o.trans bm fun y C e=>by have:=ap y e;omega
 have f:=Rt.ext f bm fun e=>by have:=ap 0 e;omega
 obtain⟨sp,x,H,K,h,rfl,k,cq⟩:=cp sw1
 have k:StA w2 sp x d F2 H K ⟨swA,yx4⟩ h:=k
 have aq:=k.lt
 obtain⟨nF,I⟩:∃n,n=w2.heap.size:=⟨_,rfl⟩
 rw[←I] at aq
 have X:∀y,StB F2 H K sp y→w.heap.size≤y:=fun y C=>by
  rcases C with C|C
  ·exact(bn y C).elim (ap y) fun e=>by omega
  have:=cq y C;omega
 rw[sw1]
 have j:=Nat.le_refl w2.heap.size
 refine jz rfl (qa (qg rfl ⟨⟨rfl,by decide⟩,⟨rfl,by decide⟩,trivial⟩ (l':=jw swO noP) zk (gw rfl fun b4 w3 bo g ar=> ?_)))
 have cr:=Nat.le_trans o.size bo
 have A:=Nat.le_trans j bo
 have f:=Rt.ext f ar id
 have k:=k.ga ar
 have j:=Nat.le_trans j ar.size
 have o:=o.gb ar
 refine wl (j8 (l':=jw swO noP) gc g rfl rfl (gt Ba) (by rw[gt Ba];rfl) OneC.h fun w4 g au dq=> ?_)
 have f:=Rt.ext f au (fun e=>by have e:0=b4:=e;omega)
 have k:=k.ext au (yb aq (I▸A))
 have j:=Nat.le_trans j au.size
 have o:=o.gh au cr
 refine qr (qa (jh g rfl (gt Ba) ?_))
 refine wl (qd gc rfl 73 rfl objZc (gt qw) zd zd ⟨⟨by rw[ju];exact gt Ba,by decide⟩,trivial⟩ (l':=Bb (swO,noP)) (xj2 Ba) fun Y w5 bp q ag dr=> ?_)
 have a9:=Nat.le_trans j bp
 have g:=g.ga ag
 have f:=Rt.ext f ag id
 have k:=k.ga ag
 have j:=Nat.le_trans j ag.size
 have o:=o.gb ag
 refine wl (qd gc rfl 1 rfl rfl rfl zd zd zt (l':=ge [7]) rfl fun Z w6 bq r aa ds=> ?_)
 have ab:=Nat.le_trans j bq
 have g:=g.ga aa
 have q:=q.ga aa
 have f:=Rt.ext f aa id
 have k:=k.ga aa
 have j:=Nat.le_trans j aa.size
 have o:=o.gb aa
 refine qg rfl ⟨⟨rfl,by decide⟩,⟨rfl,by decide⟩,⟨rfl,by decide⟩,trivial⟩ (l':=x8 (swS,⟨none,0,some ⟨Z,0,none⟩,1⟩)) rfl ?_
 refine wl (qd gc rfl 5 rfl setZc rfl zd zd ⟨⟨rfl,by decide⟩,trivial⟩ (l':=x8 (swS,⟨none,0,some ⟨Z,0,none⟩,1⟩)) (set_put _) fun a0 w7 br t a1 dt=> ?_)
 have ac:=Nat.le_trans j br
 have g:=g.ga a1
 have q:=q.ga a1
 have r:=r.ga a1
 have f:=Rt.ext f a1 id
 have k:=k.ga a1
 have j:=Nat.le_trans j a1.size
 have o:=o.gb a1
 refine qg rfl ⟨⟨rfl,by decide⟩,⟨rfl,by decide⟩,trivial⟩ (l':=[.slice (some ⟨Y,0,none⟩) 1 1,.slice (some ⟨a0,0,none⟩) 1 1]) rfl (gw rfl fun b5 w8 O a2 P=> ?_)
 have b3:=j5 g.lt O
 have av:=j5 q.lt O
 have aw:=j5 r.lt O
 have ax:=j5 t.lt O
 have cs:=Nat.le_trans o.size O
 have Q:=Nat.le_trans j O
 have g:=g.ga P
 have q:=q.ga P
 have r:=r.ga P
 have t:=t.ga P
 have f:=Rt.ext f P id
 have k:=k.ga P
 have j:=Nat.le_trans j P.size
 have o:=o.gb P
 refine wl (j8 (l':=[.slice (some ⟨Y,0,none⟩) 1 1,.slice (some ⟨a0,0,none⟩) 1 1]) gc a2 rfl rfl rfl rfl OneC.h fun w9 a2 R du=> ?_)
 have g:=g.gj R b3
 have q:=q.gj R av
 have r:=r.gj R aw
 have t:=t.gj R ax
 have f:=Rt.ext f R (fun e=>by have e:0=b5:=e;omega)
 have k:=k.ext R (yb aq (I▸Q))
 have j:=Nat.le_trans j R.size
 have o:=o.gh R cs
 refine qr (gk (jv (α:=Bool×(Nat→Prop)) [1,4] rfl (fun z=>[(46,.bool z.1)]) (fun z u=>(z.1=false∧At u d z.2 swD∧(∀y,z.2 y→w.heap.size≤y∧y≠b4)∧Rt u)∧j0 u b4 37 (jw swO noP)∧Ext No w u) ?_ ?_))
 ·refine j4 ?_
  refine j9 gc rfl (vb 30 rfl (fun J=> ?_) (fun J=> ?_))
  ·cases J
  refine j2 gc 1 rfl ?_
  refine jh a2 rfl rfl ?_
  have ct:h.hs.length+5000<1000000:=by have e:=congrArg (fun s=>s.row.length) k.eq;dsimp only[u9.s] at e;rw[List.length_map] at e;rw[e];decide
  have b6:∀y,StS F2 H sp y→StB F2 H K sp y:=fun y e=>e.imp id fun e=>e.imp id .inr
  have E:∀b,nF≤b→¬StS F2 H sp b:=fun b hb e=>Nat.lt_irrefl _ (Nat.lt_of_lt_of_le (aq b (b6 b e)) hb)
  obtain⟨n5,O⟩:∃n,n=w9.heap.size:=⟨_,rfl⟩
  have l4:=g.lt
  have l5:=a2.lt
  have cu:=q.lt
  have cv:=r.lt
  have cw:=t.lt
  have cx:=o.size
  refine gi call15 rfl (xq3 w9 (B:=(swBX Y Z a0)) k b0 zd bj f (fun e=>by have:=X 0 (.inl e);omega) (sw_bat q r t) yv8 ct) fun dv cy bs=> ?_
  obtain⟨rfl,bt,F⟩:=bs
  have g:=g.ext F (E b4 (I▸A))
  have q:=q.ext F (E Y (I▸a9))
  have r:=r.ext F (E Z (I▸ab))
  have t:=t.ext F (E a0 (I▸ac))
  have a2:=a2.ext F (E b5 (I▸Q))
  have j:=Nat.le_trans j F.size
  have o:=o.trans F fun y C e=>by have:=X y (b6 y e);omega
  have f:=Rt.ext f F fun e=>by have:=X 0 (b6 0 e);omega
  rw[←O] at l4 l5 cu cv cw cx
  rw[show(y7 ⟨swA,yx4⟩ (uf.d (swBX Y Z a0)))=_ from sw9] at bt⊢
  obtain⟨F3,H3,K3,h3,k3,b9,ba,bu⟩:=bt
  rw[←O] at b9 ba bu
  have b1:∀y,StS F3 H3 sp y→StB F3 H3 K3 sp y:=fun y e=>e.imp id fun e=>e.imp id .inr
  have ah:∀b,nF≤b→b<n5→¬StS F3 H3 sp b:=fun b hb hl e=>by
   rcases e with e|e|e
   ·exact(b9 b e).elim (fun e=>E b hb (.inl e)) fun e=>by omega
   ·exact(ba b e).elim (fun e=>E b hb (.inr (.inl e))) fun e=>by omega
   exact E b hb (.inr (.inr e))
  have a3:∀y,StB F3 H3 K3 sp y→w.heap.size≤y:=fun y C=>by
   rcases C with C|C|C|C
   ·exact(b9 y C).elim (fun e=>X y (.inl e)) fun e=>by omega
   ·exact(ba y C).elim (fun e=>X y (.inr (.inl e))) fun e=>by omega
   ·exact(bu y C).elim (fun e=>X y (.inr (.inr (.inl e)))) fun e=>by omega
   exact X y (.inr (.inr (.inr C)))
  refine j2 gc 3 rfl (vb 36 rfl (fun J=> ?_) (fun J=> ?_))
  ·cases J
  refine j2 gc 1 rfl ?_
  refine jh a2 rfl rfl ?_
  have cz:h3.hs.length+5000<1000000:=by have e:=congrArg (fun s=>s.row.length) k3.eq;dsimp only[u9.s] at e;rw[List.length_map] at e;rw[e];decide
  have m4:=g.lt
  have dw:=o.size
  refine gi call15 rfl (xq3 cy (B:=(swBX Y Z a0)) k3 af zd cn f (fun e=>by have:=a3 0 (.inl e);omega) (sw_bat q r t) swP_ok cz) fun dx d0 bv=> ?_
  obtain⟨rfl,b2,a4⟩:=bv
  have g:=g.ext a4 (ah b4 (I▸A) l4)
  have j:=Nat.le_trans j a4.size
  have o:=o.trans a4 fun y C e=>by have:=a3 y (b1 y e);omega
  have f:=Rt.ext f a4 fun e=>by have:=a3 0 (b1 0 e);omega
  rw[show(y7 ⟨swX,swP⟩ (uf.d (swBX Y Z a0)))=_ from sw10] at b2⊢
  obtain⟨F4,H4,K4,h4,k4,bw,dy,dz⟩:=b2
  have ai:∀y,F4 y→w.heap.size≤y:=fun y C=>(bw y C).elim (fun e=>a3 y (.inl e)) fun e=>by omega
  have bx:∀y,F4 y→y≠b4:=fun y C e=>by
   rw[e] at C
   exact(bw b4 C).elim (fun e=>ah b4 (I▸A) l4 (.inl e)) fun e=>by omega
  have d1:=k4.disk
  refine j2 gc 3 rfl (vb 42 rfl (fun J=> ?_) (fun J=> ?_))
  ·cases J
  refine j2 gc 1 rfl ?_
  refine gi call46 rfl (dk_crash d0 (n:=0) (c:=0) (kp:=none) (keep:=[]) d1 af zd rfl (Sl.nil _ _ _) (fun _ _ e=>by cases e)) fun e0 e1 bz=> ?_
  obtain⟨rfl,ay,a5⟩:=bz
  have g:=g.ext a5 (fun e=>bx _ e rfl)
  have j:=Nat.le_trans j a5.size
  have o:=o.trans a5 fun y C e=>by have:=ai y e;omega
  have f:=Rt.ext f a5 fun e=>by have:=ai 0 e;omega
  refine j2 gc 2 rfl (gm ?_)
  exact gz (false,F4) rfl ⟨⟨rfl,ay,fun y C=>⟨ai y C,bx y C⟩,f⟩,g,o⟩
 rintro⟨z,F5⟩ d2 ⟨⟨rfl,ay,aj,f⟩,g,o⟩
 try dsimp only
 dsimp only at ay aj
 refine ur rfl (j7 (j1 (qc rfl ?_)))
 have e2:=o.size
 refine gi call14 rfl (sopen_calls d2 ay bk zd f (fun e=>by have:=(aj 0 e).1;omega)) fun e3 bb c0=> ?_
 obtain⟨so,F6,rfl,e4,ak,e5,df,d3⟩:=c0
 have g:=g.ext ak (fun e=>(aj _ e).2 rfl)
 have o:=o.trans ak fun y C e=>by have:=(aj y e).1;omega
 have f:=Rt.ext f ak fun e=>by have:=(aj 0 e).1;omega
 obtain⟨e6,x6,H6,K6,h6,rfl,L,e7⟩:=d3 ⟨swW,swP⟩ (by rw[sw11])
 have c1:=L.lt
 obtain⟨nG,c2⟩:∃n,n=bb.heap.size:=⟨_,rfl⟩
 rw[←c2] at c1
 rw[show(xq9 swD).2.1=0 from by rw[sw11]]
 have p:=Nat.le_refl bb.heap.size
 refine jz rfl (gk (je rfl (ur rfl (j7 (j1 (qc rfl (jh g rfl (gt Ba) ?_)))))))
 refine gi call50 rfl (id6_calls bb Ba (swO_l _) swO_b) fun e8 d4 c3=> ?_
 obtain⟨rfl,S⟩:=c3
 have g:=g.ga S
 have f:=Rt.ext f S id
 have L:=L.ga S
 have p:=Nat.le_trans p S.size
 have o:=o.gb S
 obtain⟨c4,al⟩:∃i,i=Ao swO:=⟨_,rfl⟩
 rw[←al]
 have c5:vh c4:=by rw[al];exact vg _
 have c6:c4∈uv swP.row:=by rw[al];exact mem_ids swO
 have d5:=o.size
 refine gi call10 rfl (sget_calls d4 L c5) fun e9 ea c7=> ?_
 obtain⟨o7,a7,rfl,d6,eb,T⟩:=c7
 have g:=g.ga T
 have f:=Rt.ext f T id
 have L:=L.ga T
 have p:=Nat.le_trans p T.size
 have o:=o.gb T
 obtain⟨bc,_,dg,hN⟩:=d6 c6
 have bc:o7=swO:=List.mem_singleton.1 bc
 subst bc
 have hN:=hN.older (W0:=w) d5
 rw[if_pos c6]
 refine j9 gc rfl (gw rfl fun b7 ec bd ad M=> ?_)
 have bf:=j5 g.lt bd
 have d7:=Nat.le_trans o.size bd
 have az:=Nat.le_trans p bd
 have g:=g.ga M
 have f:=Rt.ext f M id
 have L:=L.ga M
 have hN:=hN.ga M
 have p:=Nat.le_trans p M.size
 have o:=o.gb M
 have ca:=ad
 refine wl (j8 (l':=jw swO a7) gc ad rfl rfl (gt Ba) (by rw[gt Ba];rfl) OneC.h fun d8 ad N dh=> ?_)
 have g:=g.gj N bf
 have f:=Rt.ext f N (fun e=>by have e:0=b7:=e;omega)
 have L:=L.ext N (yb c1 (c2▸az))
 have hN:=hN.gj N ca zd zd zd
 have p:=Nat.le_trans p N.size
 have o:=o.gh N d7
 refine jz rfl (qc rfl ?_)
 have ed:=o.size
 refine gi call11 rfl (svalue_calls d8 L swP_ok.rise (n:=[107])) fun ee d9 cb=> ?_
 obtain⟨q8,c8,b8,rfl,bg,am,G⟩:=cb
 have g:=g.ga G
 have ad:=ad.ga G
 have f:=Rt.ext f G id
 have L:=L.ga G
 have hN:=hN.ga G
 have p:=Nat.le_trans p G.size
 have o:=o.gb G
 have bg:b8=[7]:=bg
 subst bg
 rw[show(zz3 swP.vals [107]).isSome=true from rfl]
 refine jz rfl (jv (α:=Bool) [] rfl (fun z=>[(0,.bool z)]) (fun z u=>(z=true)∧Ext No w u) ?_ ?_)
 ·refine j4 ?_
  refine j9 gc rfl (vb 68 rfl (fun J=> ?_) (fun J=> ?_))
  ·refine jh ad rfl (gt Ba) ?_
   refine jh g rfl (gt Ba) (gi call17 rfl (same6_calls d9 Ba Ba hN.l (swO_l _) swO_short) fun ef eg cc=> ?_)
   obtain⟨rfl,U⟩:=cc
   have f:=Rt.ext f U id
   have L:=L.ga U
   have am:=am.ga U
   have p:=Nat.le_trans p U.size
   have o:=o.gb U
   rw[show decide (swO=swO)=true from decide_eq_true rfl]
   refine j9 gc rfl (vb 73 rfl (fun J=> ?_) (fun J=> ?_))
   ·refine j2 gc 3 rfl ?_
    refine vb 76 rfl (fun J=> ?_) (fun J=> ?_)
    ·refine j2 gc 1 rfl ?_
     refine wl (qd gc rfl 1 rfl rfl rfl zd zd zt (l':=ge [7]) rfl fun da db cd ce V di=> ?_)
     have cf:=Nat.le_trans p cd
     have f:=Rt.ext f V id
     have L:=L.ga V
     have am:=am.ga V
     have p:=Nat.le_trans p V.size
     have o:=o.gb V
     refine gi call33 rfl (xw2 db (l:=[7]) (m:=[7]) am.sl ⟨rfl,.inr ⟨da,0,rfl,ce.ko⟩⟩ zd) fun eh dc cg=> ?_
     obtain⟨rfl,a6⟩:=cg
     have f:=Rt.ext f a6 id
     have L:=L.ga a6
     have p:=Nat.le_trans p a6.size
     have o:=o.gb a6
     rw[show decide (([7]:List UInt8)=[7])=true from decide_eq_true rfl]
     refine j9 gc rfl (vb 81 rfl (fun J=> ?_) (fun J=> ?_))
     ·refine j2 gc 1 rfl ?_
      refine gi call18 rfl (snames_calls dc L) fun ei ej ch=> ?_
      obtain⟨q9,c9,rfl,bh,an⟩:=ch
      have f:=Rt.ext f an id
      have p:=Nat.le_trans p an.size
      have o:=o.gb an
      refine wl (qd gc rfl 1 rfl rfl rfl zd zd zt (l':=[xn [107]]) rfl fun dd de ci cj a8 dj=> ?_)
      have ck:=Nat.le_trans p ci
      have f:=Rt.ext f a8 id
      have bh:=bh.ga a8
      have p:=Nat.le_trans p a8.size
      have o:=o.gb a8
      refine gi call51 rfl (equalS_calls de (l:=[[107]]) (m:=[[107]]) bh.sl ⟨rfl,.inr ⟨dd,0,rfl,cj.ko⟩⟩ zd) fun ek el cl=> ?_
      obtain⟨rfl,ao⟩:=cl
      have f:=Rt.ext f ao id
      have p:=Nat.le_trans p ao.size
      have o:=o.gb ao
      rw[show decide (([[107]]:List Str)=[[107]])=true from decide_eq_true rfl]
      refine j9 gc rfl (gm ?_)
      exact gz (true) rfl ⟨rfl,o⟩
     cases J
    cases J
   cases J
  cases J
 rintro z em ⟨rfl,o⟩
 refine gq (gu rfl rfl ?_)
 exact⟨rfl,o⟩
open Go.Vc Go.WideShapes Go.ChangeShapes Go.ChangeAt Go.RowKit
theorem own:ownKnob prog.godebug=none:=by kernel_rfl
theorem gRoots : prog.globalNamed "confluence/sha.roots" = some 0 := by kernel_rfl
abbrev laidR : List (String × DataW Unit) := [("confluence/sha.roots", Rows.laid_confluence_sha_roots)]
theorem roots_of {W:World} (h:laidMetH prog laidR W):Seg W 0 0 (jq ql):=by
 rw[MakeChecks.laidMetH_plain _ _ _ zk] at h
 have h : laidMet prog [("confluence/sha.roots", Lib.tabData .u32 (ql.map fun x => (x.toNat : Int)))] W := h
 have c:=Lib.tabIs_of_head gRoots (t:=313) (e:=35) (n:=64) zk zk zk zk zk h
 intro i v b
 have a:i<ql.length:=by
  have:=(List.getElem?_eq_some_iff.1 b).1
  simpa [jq] using this
 have d:=c.cell gRoots i (by rw[List.length_map];exact a)
 rw[Nat.zero_add,d,←b,A3 ql a]
 rw[List.getD_eq_getElem?_getD,List.getElem?_map,List.getElem?_eq_getElem a]
 rfl
theorem door_met (os:Os) (args:Array Value):laidMetH prog laidR ((World.doorLaid prog 400 os).forCall (fun _ _=>0) ⟨#[],args,[]⟩).memory:=
 laidMetH_of_parts3 (fuel:=70) (laidMet_of_run' 70 zk zk) zk zk
open Go.Vc Go.WideShapes Go.ChangeShapes
section
variable {H:Type} {enc:TypeId×Value→H} {W:World} {sp:Nat→Bool} {held:Bool}
theorem list_of {α β:Type} {R:α→β→Prop}:∀(L:List β),(∀r∈L,∃a,R a r)→∃l:List α,l.length=L.length∧∀(i:Nat) (a:α) (r:β),l[i]? =some a→L[i]? =some r→R a r
 | [],_=>⟨[],rfl,fun i a r h=>by simp at h⟩
 |r::L,h=>by
  obtain⟨a,ha⟩:=h r zp
  obtain⟨l,h1,h2⟩:=list_of L fun x hx=>h x (by simp[hx])
  refine⟨a::l,by simp[h1],fun i b x hb hx=> ?_⟩
  cases i with
  |zero=>simp at hb hx;subst hb;subst hx;exact ha
  |succ i=>exact h2 i b x (by simpa using hb) (by simpa using hx)
theorem open_list {α:Type} {cells:α→List Value} {ok:α→Prop} {fuel t e m:Nat} {cs:List Value} {x:DataW H×List MemPlace} (ht:prog.underlying t=some (.slice e)) (hm:prog.cellsOf e=m) (hm0:0<m)
  (hrow:∀{k:Nat} {r:List Value} {y:DataW H×List MemPlace},DataW.trod enc prog W 0 sp held k e r=some y→∃a,r=cells a∧ok a)
  (h:DataW.trod enc prog W 0 sp held fuel t cs=some x):
  ∃(p:Option Addr) (l:List α) (c:Nat),cs=[.slice p l.length c]∧l.length≤c∧c≤maxLen∧Sl W p l.length m (l.flatMap cells)∧(∀a∈l,ok a)∧(l≠[]→∀b off,p=some ⟨b,off,none⟩→b<W.heap.size):=by
 obtain⟨p,n,c,L,rfl,u,v,D,E,w,f,z⟩:=open_rows ht hm hm0 h
 obtain⟨l,F,q⟩:=list_of (R:=fun a r=>r=cells a∧ok a) L fun r g=>by
  obtain⟨k,y,A⟩:=z r g
  exact hrow A
 have e:L=l.map cells:=by
  apply List.ext_getElem?
  intro i
  rw[List.getElem?_map]
  by_cases s:i<l.length
  ·have d:i<L.length:=by omega
   have:=(q i l[i] L[i] zp zp).1
   simp[s,d,this]
  rw[List.getElem?_eq_none zo,List.getElem?_eq_none zo];rfl
 have j:l.length=n:=by omega
 subst j
 refine⟨p,l,c,rfl,u,v,by rw[List.flatMap_def,←e];exact w,fun a B=> ?_,fun o=>f fun C=>o (List.eq_nil_of_length_eq_zero C)⟩
 obtain⟨i,s,rfl⟩:=List.mem_iff_getElem.1 B
 have d:i<L.length:=by omega
 exact(q i l[i] L[i] zp zp).2
theorem open_byte {fuel:Nat} {cs:List Value} {x:DataW H×List MemPlace} (h:DataW.trod enc prog W 0 sp held fuel 5 cs=some x):∃b:UInt8,cs=[A1 b]:=by
 obtain⟨n,rfl,_,a⟩:=DataW.trod_int Tryz.underlying5 h
 have a:0≤n∧n≤255:=by simpa [Lit.wf,IntKind.min,IntKind.max,IntKind.signed,IntKind.bits] using a
 refine⟨UInt8.ofNat n.toNat,?_⟩
 show _=[Value.int .u8 ((UInt8.ofNat n.toNat).toNat:Int)]
 have e:(UInt8.ofNat n.toNat).toNat=n.toNat:=UInt8.toNat_ofNat_of_lt' (by show n.toNat<256;omega)
 rw[e,Int.toNat_of_nonneg a.1]
theorem zj2 {fuel:Nat} {cs:List Value} {x:DataW H×List MemPlace} (h:DataW.trod enc prog W 0 sp held fuel 9 cs=some x):∃s:Str,cs=[xn s]∧s.length≤maxLen:=by
 obtain⟨s,rfl,_,a⟩:=DataW.trod_string Tryz.underlying9 h
 exact⟨s.data.toList,by show _=[Value.string (uo s.data.toList)];rw[strU_of],a⟩
theorem open_id {fuel:Nat} {cs:List Value} {x:DataW H×List MemPlace} (h:DataW.trod enc prog W 0 sp held fuel 30 cs=some x):∃l:List UInt8,cs=ge l∧l.length=32:=by
 obtain⟨n,m,rfl,_,c,o,d⟩:=DataW.trod_array Tryz.underlying30 h
 have p:prog.cellsOf 5=1:=by kernel_rfl
 have e:prog.cellsOf 30=32:=by kernel_rfl
 rw[e] at c
 obtain⟨l,s,q⟩:=list_of (R:=fun(b:UInt8) v=>v=A1 b) cs fun v r=>by
  obtain⟨i,f,rfl⟩:=List.mem_iff_getElem.1 r
  have a:i<32:=by omega
  have j:=d i a
  rw[p,Nat.mul_one,List.getElem?_eq_getElem (show i<n.length by rw[o];exact a)] at j
  obtain⟨b,k⟩:=open_byte j
  rw[List.drop_eq_getElem_cons f,List.take_succ_cons,List.take_zero] at k
  exact⟨b,(List.cons.inj k).1⟩
 refine⟨l,?_,by omega⟩
 apply List.ext_getElem?
 intro i
 rw[ge,List.getElem?_map]
 by_cases f:i<l.length
 ·have g:i<cs.length:=by omega
  have:=q i l[i] cs[i] zp zp
  simp[f,g,this]
 rw[List.getElem?_eq_none zo,List.getElem?_eq_none zo];rfl
theorem um (cs:List Value) (o n:Nat):cs.drop o=(cs.drop o).take n++cs.drop (o+n):=by
 rw[←List.drop_drop,List.take_append_drop]
theorem open_leaf {fuel:Nat} {cs:List Value} {x:DataW H×List MemPlace} (h:DataW.trod enc prog W 0 sp held fuel 148 cs=some x):∃r:jf,cs=r.cells∧r.path.length≤maxLen∧r.id.length=32:=by
 obtain⟨j,k,rfl,_,a,b,f⟩:=DataW.trod_struct Tryz.underlying148 h
 have c:prog.cellsOf 148=33:=by kernel_rfl
 have m:prog.cellsOf 9=1:=by kernel_rfl
 have d:prog.cellsOf 30=32:=by kernel_rfl
 have b:j.length=2:=b
 have g:DataW.trod enc prog W 0 sp held k 9 ((cs.drop 0).take (prog.cellsOf 9))=_:=f 0 _ rfl
 have i:DataW.trod enc prog W 0 sp held k 30 ((cs.drop 1).take (prog.cellsOf 30))=_:=f 1 _ rfl
 rw[m,List.getElem?_eq_getElem zo] at g
 rw[d,List.getElem?_eq_getElem zo] at i
 obtain⟨s,n,o⟩:=zj2 g
 obtain⟨l,p,q⟩:=open_id i
 rw[c] at a
 refine⟨⟨s,l⟩,?_,o,q⟩
 have e:cs=cs.drop 0:=rfl
 rw[e,um cs 0 1,n,um cs (0+1) 32,p,List.drop_eq_nil_of_le zo,List.append_nil]
 rfl
theorem open_chg {fuel:Nat} {cs:List Value} {x:DataW H×List MemPlace} (h:DataW.trod enc prog W 0 sp held fuel 150 cs=some x):∃r:ud,cs=r.cells∧r.path.length≤maxLen∧r.text.length≤maxLen:=by
 obtain⟨l,k,rfl,_,a,c,d⟩:=DataW.trod_struct Tryz.underlying150 h
 have f:prog.cellsOf 150=3:=by kernel_rfl
 have m:prog.cellsOf 9=1:=by kernel_rfl
 have n:prog.cellsOf 4=1:=by kernel_rfl
 have c:l.length=3:=c
 have g:DataW.trod enc prog W 0 sp held k 9 ((cs.drop 0).take (prog.cellsOf 9))=_:=d 0 _ rfl
 have i:DataW.trod enc prog W 0 sp held k 4 ((cs.drop 1).take (prog.cellsOf 4))=_:=d 1 _ rfl
 have j:DataW.trod enc prog W 0 sp held k 9 ((cs.drop 2).take (prog.cellsOf 9))=_:=d 2 _ rfl
 rw[m,List.getElem?_eq_getElem zo] at g j
 rw[n,List.getElem?_eq_getElem zo] at i
 obtain⟨s,o,p⟩:=zj2 g
 obtain⟨b,q,_⟩:=DataW.trod_bool Tryz.underlying4 i
 obtain⟨t,u,v⟩:=zj2 j
 rw[f] at a
 refine⟨⟨s,b,t⟩,?_,p,v⟩
 have e:cs=cs.drop 0:=rfl
 rw[e,um cs 0 1,o,um cs (0+1) 1,q,um cs (0+1+1) 1,u,List.drop_eq_nil_of_le zo,List.append_nil]
 rfl
theorem open_u32 {fuel:Nat} {cs:List Value} {x:DataW H×List MemPlace} (h:DataW.trod enc prog W 0 sp held fuel 35 cs=some x):∃n:Nat,cs=[.int .u32 (n:Int)]∧n<2^32:=by
 obtain⟨n,rfl,_,a⟩:=DataW.trod_int Tryz.underlying35 h
 have a:0≤n∧n≤4294967295:=by simpa [Lit.wf,IntKind.min,IntKind.max,IntKind.signed,IntKind.bits] using a
 exact⟨n.toNat,by rw[Int.toNat_of_nonneg a.1],by omega⟩
theorem open_obj {fuel:Nat} {cs:List Value} {x:DataW H×List MemPlace} (h:DataW.trod enc prog W 0 sp held fuel 37 cs=some x):∃(o:jk) (a:vd),cs=jw o a∧ArgO W (o,a):=by
 obtain⟨xs,k,rfl,_,d,f,b⟩:=DataW.trod_struct Tryz.underlying37 h
 have p:prog.cellsOf 37=73:=by kernel_rfl
 have k3:prog.cellsOf 3=1:=by kernel_rfl
 have k9:prog.cellsOf 9=1:=by kernel_rfl
 have q:prog.cellsOf 28=1:=by kernel_rfl
 have s:prog.cellsOf 31=1:=by kernel_rfl
 have g:prog.cellsOf 30=32:=by kernel_rfl
 have t:prog.cellsOf 34=1:=by kernel_rfl
 have u:prog.cellsOf 32=1:=by kernel_rfl
 have v:prog.cellsOf 35=1:=by kernel_rfl
 have f:xs.length=11:=f
 have M:DataW.trod enc prog W 0 sp held k 3 ((cs.drop 0).take (prog.cellsOf 3))=_:=b 0 _ rfl
 have N:DataW.trod enc prog W 0 sp held k 9 ((cs.drop 1).take (prog.cellsOf 9))=_:=b 1 _ rfl
 have O:DataW.trod enc prog W 0 sp held k 28 ((cs.drop 2).take (prog.cellsOf 28))=_:=b 2 _ rfl
 have P:DataW.trod enc prog W 0 sp held k 3 ((cs.drop 3).take (prog.cellsOf 3))=_:=b 3 _ rfl
 have Q:DataW.trod enc prog W 0 sp held k 30 ((cs.drop 4).take (prog.cellsOf 30))=_:=b 4 _ rfl
 have R:DataW.trod enc prog W 0 sp held k 30 ((cs.drop 36).take (prog.cellsOf 30))=_:=b 5 _ rfl
 have S:DataW.trod enc prog W 0 sp held k 31 ((cs.drop 68).take (prog.cellsOf 31))=_:=b 6 _ rfl
 have T:DataW.trod enc prog W 0 sp held k 34 ((cs.drop 69).take (prog.cellsOf 34))=_:=b 7 _ rfl
 have U:DataW.trod enc prog W 0 sp held k 35 ((cs.drop 70).take (prog.cellsOf 35))=_:=b 8 _ rfl
 have V:DataW.trod enc prog W 0 sp held k 35 ((cs.drop 71).take (prog.cellsOf 35))=_:=b 9 _ rfl
 have i:DataW.trod enc prog W 0 sp held k 9 ((cs.drop 72).take (prog.cellsOf 9))=_:=b 10 _ rfl
 rw[k3,List.getElem?_eq_getElem zo] at M P
 rw[k9,List.getElem?_eq_getElem zo] at N i
 rw[q,List.getElem?_eq_getElem zo] at O
 rw[g,List.getElem?_eq_getElem zo] at Q R
 rw[s,List.getElem?_eq_getElem zo] at S
 rw[t,List.getElem?_eq_getElem zo] at T
 rw[v,List.getElem?_eq_getElem zo] at U V
 obtain⟨j,e0,_,_⟩:=DataW.trod_int Tryz.underlying3 M
 obtain⟨tx,e1,_⟩:=zj2 N
 obtain⟨lp,ll,lc,e2,w,_,y,z,_⟩:=open_list (cells:=jf.cells) (ok:=fun r=>r.path.length≤maxLen∧r.id.length=32) Tryz.underlying28 (by kernel_rfl:prog.cellsOf 148=33) zd (fun h=>open_leaf h) O
 obtain⟨st,e3,_,_⟩:=DataW.trod_int Tryz.underlying3 P
 obtain⟨l,e4,ht⟩:=open_id Q
 obtain⟨m,e5,hb⟩:=open_id R
 obtain⟨pp,pl,pc,e6,A,_,B,C,_⟩:=open_list (cells:=ge) (ok:=fun r=>r.length=32) Tryz.underlying31 g zd (fun h=>open_id h) S
 obtain⟨D,k2,_,_,E,c,F⟩:=DataW.trod_struct Tryz.underlying34 T
 have c:D.length=1:=c
 have n:DataW.trod enc prog W 0 sp held k2 32 (((((cs.drop 69).take 1)).drop 0).take (prog.cellsOf 32))=_:=F 0 _ rfl
 rw[u,List.getElem?_eq_getElem zo] at n
 obtain⟨X,Y,Z,G,I,_,J,K,_⟩:=open_list (cells:=ud.cells) (ok:=fun r=>r.path.length≤maxLen∧r.text.length≤maxLen) Tryz.underlying32 (by kernel_rfl:prog.cellsOf 150=3) zd (fun h=>open_chg h) n
 have G:(cs.drop 69).take 1=[.slice X Y.length Z]:=by rw[←G,List.drop_zero,List.take_take];rfl
 obtain⟨nu,e8,h8⟩:=open_u32 U
 obtain⟨au,e9,h9⟩:=open_u32 V
 obtain⟨no,L,_⟩:=zj2 i
 rw[p] at d
 refine⟨⟨j,tx,ll,st,l,m,pl,Y,nu,au,no⟩,⟨lp,lc,pp,pc,X,Z⟩,?_,⟨⟨ht,hb,C,z,K,h8,h9⟩,⟨y,B,J⟩,⟨w,A,I⟩⟩⟩
 have e:cs=cs.drop 0:=rfl
 rw[e,um cs 0 1,e0,um cs (0+1) 1,e1,um cs (0+1+1) 1,e2,um cs (0+1+1+1) 1,e3,um cs (0+1+1+1+1) 32,e4,um cs (0+1+1+1+1+32) 32,e5,
  um cs (0+1+1+1+1+32+32) 1,e6,um cs (0+1+1+1+1+32+32+1) 1,G,um cs (0+1+1+1+1+32+32+1+1) 1,e8,um cs (0+1+1+1+1+32+32+1+1+1) 1,e9,
  um cs (0+1+1+1+1+32+32+1+1+1+1) 1,L,List.drop_eq_nil_of_le zo,List.append_nil]
 rfl
theorem xz1 {fuel:Nat} {cs:List Value} {x:DataW H×List MemPlace} (h:DataW.trod enc prog W 0 sp held fuel 41 cs=some x):∃(p:Option Addr) (l:Bytes) (c:Nat),cs=[.slice p l.length c]∧l.length≤c∧vt W p l:=by
 obtain⟨p,l,c,e,d,_,a,_,_⟩:=open_list (cells:=fun b=>[A1 b]) (ok:=fun _=>True) Tryz.underlying41 (by kernel_rfl:prog.cellsOf 5=1) zd (fun h=>by obtain⟨b,f⟩:=open_byte h;exact⟨b,f,trivial⟩) h
 have g:l.flatMap (fun b=>[A1 b])=ge l:=by rw[ge,List.map_eq_flatMap]
 rw[g] at a
 exact⟨p,l,c,e,d,a⟩
theorem open_set {fuel:Nat} {cs:List Value} {x:DataW H×List MemPlace} (h:DataW.trod enc prog W 0 sp held fuel 91 cs=some x):∃s:Ce,cs=x8 s∧ArgS W s:=by
 obtain⟨q,k,rfl,_,a,b,c⟩:=DataW.trod_struct Tryz.underlying91 h
 have r:prog.cellsOf 91=5:=by kernel_rfl
 have t:prog.cellsOf 9=1:=by kernel_rfl
 have u:prog.cellsOf 4=1:=by kernel_rfl
 have d:prog.cellsOf 41=1:=by kernel_rfl
 have b:q.length=5:=b
 have l:DataW.trod enc prog W 0 sp held k 9 ((cs.drop 0).take (prog.cellsOf 9))=_:=c 0 _ rfl
 have m:DataW.trod enc prog W 0 sp held k 4 ((cs.drop 1).take (prog.cellsOf 4))=_:=c 1 _ rfl
 have n:DataW.trod enc prog W 0 sp held k 4 ((cs.drop 2).take (prog.cellsOf 4))=_:=c 2 _ rfl
 have o:DataW.trod enc prog W 0 sp held k 41 ((cs.drop 3).take (prog.cellsOf 41))=_:=c 3 _ rfl
 have p:DataW.trod enc prog W 0 sp held k 41 ((cs.drop 4).take (prog.cellsOf 41))=_:=c 4 _ rfl
 rw[t,List.getElem?_eq_getElem zo] at l
 rw[u,List.getElem?_eq_getElem zo] at m n
 rw[d,List.getElem?_eq_getElem zo] at o p
 obtain⟨s,v,_⟩:=zj2 l
 obtain⟨w,y,_⟩:=DataW.trod_bool Tryz.underlying4 m
 obtain⟨z,A,_⟩:=DataW.trod_bool Tryz.underlying4 n
 obtain⟨B,C,D,E,f,g⟩:=xz1 o
 obtain⟨F,G,I,J,i,j⟩:=xz1 p
 rw[r] at a
 refine⟨(⟨s,w,z,C,G⟩,⟨B,D,F,I⟩),?_,⟨g,j,f,i⟩⟩
 have e:cs=cs.drop 0:=rfl
 rw[e,um cs 0 1,v,um cs (0+1) 1,y,um cs (0+1+1) 1,A,um cs (0+1+1+1) 1,E,um cs (0+1+1+1+1) 1,J,List.drop_eq_nil_of_le zo,List.append_nil]
 rfl
theorem open_bat {fuel:Nat} {cs:List Value} {x:DataW H×List MemPlace} (h:DataW.trod enc prog W 0 sp held fuel 25 cs=some x):∃B:uf,cs=B.c∧BatArg W B:=by
 obtain⟨t,k,rfl,_,b,d,q⟩:=DataW.trod_struct Tryz.underlying25 h
 have u:prog.cellsOf 25=2:=by kernel_rfl
 have f:prog.cellsOf 22=1:=by kernel_rfl
 have g:prog.cellsOf 23=1:=by kernel_rfl
 have d:t.length=2:=d
 have r:DataW.trod enc prog W 0 sp held k 22 ((cs.drop 0).take (prog.cellsOf 22))=_:=q 0 _ rfl
 have s:DataW.trod enc prog W 0 sp held k 23 ((cs.drop 1).take (prog.cellsOf 23))=_:=q 1 _ rfl
 rw[f,List.getElem?_eq_getElem zo] at r
 rw[g,List.getElem?_eq_getElem zo] at s
 obtain⟨v,w,y,z,i,_,j,l,_⟩:=open_list (cells:=Bb) (ok:=ArgO W) Tryz.underlying22 (by kernel_rfl:prog.cellsOf 37=73) zd (fun h=>by obtain⟨o,a,e,h⟩:=open_obj h;exact⟨(o,a),e,h⟩) r
 obtain⟨sp,A,C,D,m,_,n,p,_⟩:=open_list (cells:=x8) (ok:=ArgS W) Tryz.underlying23 (by kernel_rfl:prog.cellsOf 91=5) zd (fun h=>open_set h) s
 rw[u] at b
 refine⟨⟨v,y,w,sp,C,A⟩,?_,⟨j,n,l,p,i,m⟩⟩
 have e:cs=cs.drop 0:=rfl
 rw[e,um cs 0 1,z,um cs (0+1) 1,D,List.drop_eq_nil_of_le zo,List.append_nil]
 rfl
end
theorem xv7 (x y:xt):x=y↔x.name=y.name∧x.was=y.was∧x.is=y.is∧x.old=y.old∧x.new=y.new:=by
 cases x;cases y;simp
theorem zv7 {α:Type} {l m:List α} {i:Nat} (hi:i<l.length) (hm:i<m.length):l.take (i+1)=m.take (i+1)↔l.take i=m.take i∧l[i]=m[i]:=by
 rw[List.take_succ_eq_append_getElem hi,List.take_succ_eq_append_getElem hm]
 constructor
 ·intro h
  have:=List.append_inj' h rfl
  exact⟨this.1,by simpa using this.2⟩
 rintro⟨h1,h2⟩;rw[h1,h2]
theorem xj7 (w:World) {p q:Option Addr} {c d:Nat} {l m:Bytes} (h:vt w p l) (h':vt w q m) (hl:l.length<1000000000):
  gn prog 93 [.slice p l.length c,.slice q m.length d] w fun v w'=>v= .bool (decide (l=m))∧Ext No w w':=by
 refine gx func93 ?_
 have f:=Ext.refl No w
 refine je rfl (je rfl (gk (je rfl (gr ?_))))
 refine jm (α:=Bool×Nat) [0,1] rfl (fun z=>[(5,.bool z.1),(6,.int .i64 (z.2:Int))]) (fun z u=>(z.2≤l.length∧z.1=decide (l.length=m.length∧l.take z.2=m.take z.2))∧Ext No w u) (fun z u=>l.length-z.2) (decide ((l.length:Int)=(m.length:Int)),0) rfl ⟨⟨Nat.zero_le _,by dsimp only;rw[decide_eq_decide];exact⟨fun e=>⟨by omega,rfl⟩,fun e=>by have:=e.1;omega⟩⟩,f⟩ ?_
 rintro⟨J,i⟩ N ⟨⟨y,a⟩,f⟩
 try dsimp only
 dsimp only at y a
 refine gk (jv (α:=Bool) [0,1,5,6] rfl (fun z=>[(18,.bool z)]) (fun z u=>(z=decide (J=true∧i<l.length))∧Ext No w u) ?_ ?_)
 ·refine j4 ?_
  refine j9 gc rfl (vb 13 rfl (fun A=> ?_) (fun A=> ?_))
  ·refine j2 gc 5 rfl ?_
   refine gm ?_
   exact gz (_) rfl ⟨(by rw[decide_eq_decide];exact⟨fun e=>⟨A,by omega⟩,fun e=>by have:=e.2;omega⟩),f⟩
  refine j2 gc 5 rfl ?_
  refine gm ?_
  exact gz (false) rfl ⟨(by symm;rw[decide_eq_false_iff_not];exact fun e=>(by rw[A] at e;cases e.1)),f⟩
 rintro z O ⟨rfl,f⟩
 refine jl rfl (fun x=> ?_) (fun x=> ?_)
 ·obtain⟨B,j⟩:=x
  rw[B] at a
  have C:=of_decide_eq_true a.symm
  have n:i<m.length:=by have:=C.1;omega
  have o:=zv7 j n
  obtain⟨b,r,rfl,D⟩:=Sl.mapAt h zo
  obtain⟨L,g,rfl,E⟩:=Sl.mapAt h' zo
  have F:∀u,Ext No w u→u.cell? ⟨b,r+i,none⟩=some (A1 l[i]):=fun u G=>(D.ga G) i _ (by rw[List.getElem?_map,List.getElem?_eq_getElem j];rfl)
  have H:∀u,Ext No w u→u.cell? ⟨L,g+i,none⟩=some (A1 m[i]):=fun u G=>(E.ga G) i _ (by rw[List.getElem?_map,List.getElem?_eq_getElem n];rfl)
  refine xz (gr (js rfl 10 [qP 0,qP 1,qP 2,qP 3,qP 4,qP 5,qP 6,qP 7,qP 8,qP 9] [] (No) zk fun P I M=> ?_))
  have s:=f
  have f:=f.gb I
  refine gv gc 2 rfl (qk gc rfl rfl 1 rfl i rfl zo (r+i) (by rw[Nat.mul_one]) (j6 gc rfl rfl (fun w' k=>(F w' (s.gb k))) ?_))
  refine gv gc 2 rfl (qk gc rfl rfl 1 rfl i rfl zo (g+i) (by rw[Nat.mul_one]) (j6 gc rfl rfl (fun w' k=>(H w' (s.gb k))) ?_))
  refine gv gc 2 rfl (jj (ja (Bo rfl ?_)))
  rw[kg _ zo]
  refine gm ?_
  exact jn (decide (((l[i]).toNat:Int)=((m[i]).toNat:Int)),i+1) rfl ⟨⟨j,by dsimp only;rw[decide_eq_decide];exact⟨fun e=>⟨C.1,o.2 ⟨C.2,UInt8.toNat_inj.1 zo⟩⟩,fun e=>by rw[(o.1 e.2).2]⟩⟩,f⟩ zf
 have t:J=decide (l=m):=by
  rw[a,decide_eq_decide]
  rw[a,decide_eq_true_eq] at x
  constructor
  ·intro e
   have Q:¬i<l.length:=fun h=>x ⟨e,h⟩
   have K:=e.2
   rw[List.take_of_length_le zo,List.take_of_length_le (by have:=e.1;omega)] at K
   exact K
  intro e
  exact⟨by rw[e],by rw[e]⟩
 refine Bi (je rfl (gq (gu rfl rfl ?_)))
 exact⟨by rw[t],f⟩
theorem Ca (w:World) {a b:uf} (ha:Ch w a) (hb:Ch w b):
  gn prog 31 [a.v,b.v] w fun v w'=>v= .bool (decide (a.d=b.d))∧Ext No w w':=by
 have bf:=ha.lo
 have bg:=ha.ls
 have bh:=hb.lo
 have bi:=hb.ls
 refine gx func31 ?_
 have k:=Ext.refl No w
 refine qa (gw rfl fun b2 w1 bj f aq=> ?_)
 have k:=k.gb aq
 have f:j0 w1 b2 25 (a.c):=f
 refine gw rfl fun b3 w2 bk g ak=> ?_
 have f:=f.ga ak
 have k:=k.gb ak
 have g:j0 w2 b3 25 (b.c):=g
 refine jz rfl ?_
 refine jv (α:=Bool) [2,3] rfl (fun z=>[(5,.bool z)]) (fun z u=>(z=decide (a.os.length=b.os.length∧a.ss.length=b.ss.length∧(a.os.map Prod.fst).take 0=(b.os.map Prod.fst).take 0))∧j0 u b2 25 (a.c)∧j0 u b3 25 (b.c)∧Ext No w u) ?_ ?_
 ·refine j4 ?_
  refine j9 gc rfl (gy rfl (f.cell rfl) (j9 gc rfl (gy rfl (g.cell rfl) (j9 gc rfl (jo 17 rfl (fun t=> ?_) (fun t=> ?_))))))
  ·have W:a.os.length=b.os.length:=by omega
   refine j2 gc 1 rfl (gy rfl (f.cell rfl) (j2 gc 2 rfl (gy rfl (g.cell rfl) (j2 gc 4 rfl (gm ?_)))))
   exact gz (_) rfl ⟨by rw[decide_eq_decide];exact⟨fun e=>⟨W,by omega,rfl⟩,fun e=>by have:=e.2.1;omega⟩,f,g,k⟩
  have W:¬a.os.length=b.os.length:=by omega
  refine j2 gc 9 rfl (gm ?_)
  exact gz (false) rfl ⟨by symm;rw[decide_eq_false_iff_not];exact fun e=>W e.1,f,g,k⟩
 rintro z w3 ⟨rfl,f,g,k⟩
 refine gk (je rfl (gr ?_))
 refine jm (α:=Bool×Nat) [2,3] rfl (fun z=>[(5,.bool z.1),(6,.int .i64 (z.2:Int))]) (fun z u=>(z.2≤a.os.length∧z.1=decide (a.os.length=b.os.length∧a.ss.length=b.ss.length∧(a.os.map Prod.fst).take z.2=(b.os.map Prod.fst).take z.2))∧j0 u b2 25 (a.c)∧j0 u b3 25 (b.c)∧Ext No w u) (fun z u=>a.os.length-z.2) (decide (a.os.length=b.os.length∧a.ss.length=b.ss.length∧(a.os.map Prod.fst).take 0=(b.os.map Prod.fst).take 0),0) rfl ⟨⟨Nat.zero_le _,rfl⟩,f,g,k⟩ ?_
 rintro⟨sm,i⟩ w4 ⟨⟨ar,Y⟩,f,g,k⟩
 try dsimp only
 dsimp only at ar Y
 refine gk (jv (α:=Bool) [2,3,5,6] rfl (fun z=>[(33,.bool z)]) (fun z u=>(z=decide (sm=true∧i<a.os.length))∧j0 u b2 25 (a.c)∧j0 u b3 25 (b.c)∧Ext No w u) ?_ ?_)
 ·refine j4 ?_
  refine j9 gc rfl (vb 27 rfl (fun t=> ?_) (fun t=> ?_))
  ·refine j2 gc 2 rfl ?_
   refine gy rfl (f.cell rfl) (j2 gc 3 rfl (gm ?_))
   exact gz (_) rfl ⟨by rw[decide_eq_decide];exact⟨fun e=>⟨t,by omega⟩,fun e=>by have:=e.2;omega⟩,f,g,k⟩
  refine j2 gc 6 rfl ?_
  refine gm ?_
  exact gz (false) rfl ⟨(by symm;rw[decide_eq_false_iff_not];exact fun e=>(by rw[t] at e;cases e.1)),f,g,k⟩
 rintro z w5 ⟨rfl,f,g,k⟩
 refine jl rfl (fun hc=> ?_) (fun hc=> ?_)
 ·obtain⟨ac,Z⟩:=hc
  rw[ac] at Y
  have hP:=of_decide_eq_true Y.symm
  have a9:i<b.os.length:=by have:=hP.1;omega
  have au:i<(a.os.map Prod.fst).length:=by rw[List.length_map];exact Z
  have av:i<(b.os.map Prod.fst).length:=by rw[List.length_map];exact a9
  have ad:(a.os.map Prod.fst)[i]=a.os[i].1:=List.getElem_map ..
  have ae:(b.os.map Prod.fst)[i]=b.os[i].1:=List.getElem_map ..
  have N:=zv7 au av
  rw[ad,ae] at N
  have I:=ha.o _ (List.getElem_mem Z)
  have X:=hb.o _ (List.getElem_mem a9)
  obtain⟨q2,o2,af,a0⟩:=ha.os.qm (objX_len fun x hx=>(ha.o x hx).i) zo
  obtain⟨q3,o3,ag,a1⟩:=hb.os.qm (objX_len fun x hx=>(hb.o x hx).i) zo
  have a2:j0 w5 b2 25 [.slice (some ⟨q2,o2,none⟩) a.os.length a.oc,.slice a.sp a.ss.length a.sc]:=by have e:=f;rw[uf.c,af] at e;exact e
  have a3:j0 w5 b3 25 [.slice (some ⟨q3,o3,none⟩) b.os.length b.oc,.slice b.sp b.ss.length b.sc]:=by have e:=g;rw[uf.c,ag] at e;exact e
  refine xz (gr (js rfl 12 [qP 0,qP 1,qP 2,qP 3,qP 4,qP 5,qP 6,qP 7,qP 8,qP 9,(10,false),qP 11] [] (No) zk fun w6 aa bm=> ?_))
  have a4:=k
  have f:=f.ga aa
  have g:=g.ga aa
  have k:=k.gb aa
  have D:Ext (No) _ w6:=aa.no
  refine gv gc 1 rfl (j6 gc rfl rfl (fun w' p=>((a2.ga p).cell rfl)) ?_)
  refine gv gc 1 rfl (qk gc rfl rfl 73 rfl i rfl Z (o2+i*73) rfl (qf gc rfl rfl (fun w' p=>((a0 i Z).ga (a4.gb p))) (gt I.i) ?_))
  refine gv gc 1 rfl (j6 gc rfl rfl (fun w' p=>((a3.ga p).cell rfl)) ?_)
  refine gv gc 1 rfl (qk gc rfl rfl 73 rfl i rfl a9 (o3+i*73) rfl (qf gc rfl rfl (fun w' p=>((a1 i a9).ga (a4.gb p))) (gt X.i) ?_))
  refine jg rfl (j3 call17 rfl (same6_calls w6 I.i X.i (I.l.ga k) (X.l.ga k) I.s) fun v7 w7 al=>⟨(by obtain⟨rfl,a5⟩:=al;exact D.gb a5),?_⟩)
  obtain⟨rfl,a5⟩:=al
  have f:=f.ga a5
  have g:=g.ga a5
  have k:=k.gb a5
  refine gv gc 1 rfl (jj (ja (Bo rfl ?_)))
  rw[kg _ zo]
  refine gm ?_
  exact jn (decide (a.os[i].1=b.os[i].1),i+1) rfl ⟨⟨Z,by dsimp only;rw[decide_eq_decide];exact⟨fun e=>⟨hP.1,hP.2.1,N.2 ⟨hP.2.2,e⟩⟩,fun e=>(N.1 e.2.2).2⟩⟩,f,g,k⟩ zf
 have am:sm=decide (a.os.length=b.os.length∧a.ss.length=b.ss.length∧(a.os.map Prod.fst)=(b.os.map Prod.fst)):=by
  rw[Y,decide_eq_decide]
  rw[Y,decide_eq_true_eq] at hc
  constructor
  ·intro e
   have h0:¬i<a.os.length:=fun h=>hc ⟨e,h⟩
   have W:=e.2.2
   rw[List.take_of_length_le (by rw[List.length_map];omega),List.take_of_length_le (by rw[List.length_map];have:=e.1;omega)] at W
   exact⟨e.1,e.2.1,W⟩
  intro e
  exact⟨e.1,e.2.1,by rw[e.2.2]⟩
 refine Bi (gk (je rfl (gr ?_)))
 refine jm (α:=Bool×Nat) [2,3] rfl (fun z=>[(5,.bool z.1),(7,.int .i64 (z.2:Int))]) (fun z u=>(z.2≤a.ss.length∧z.1=decide (a.os.length=b.os.length∧a.ss.length=b.ss.length∧(a.os.map Prod.fst)=(b.os.map Prod.fst)∧(a.ss.map Prod.fst).take z.2=(b.ss.map Prod.fst).take z.2))∧j0 u b2 25 (a.c)∧j0 u b3 25 (b.c)∧Ext No w u) (fun z u=>a.ss.length-z.2) (sm,0) rfl ⟨⟨Nat.zero_le _,by dsimp only;rw[am,decide_eq_decide];exact⟨fun e=>⟨e.1,e.2.1,e.2.2,rfl⟩,fun e=>⟨e.1,e.2.1,e.2.2.1⟩⟩⟩,f,g,k⟩ ?_
 rintro⟨sn,j⟩ w8 ⟨⟨aw,a6⟩,f,g,k⟩
 try dsimp only
 dsimp only at aw a6
 refine gk (jv (α:=Bool) [2,3,5,7] rfl (fun z=>[(54,.bool z)]) (fun z u=>(z=decide (sn=true∧j<a.ss.length))∧j0 u b2 25 (a.c)∧j0 u b3 25 (b.c)∧Ext No w u) ?_ ?_)
 ·refine j4 ?_
  refine j9 gc rfl (vb 48 rfl (fun t=> ?_) (fun t=> ?_))
  ·refine j2 gc 2 rfl ?_
   refine gy rfl (f.cell rfl) (j2 gc 3 rfl (gm ?_))
   exact gz (_) rfl ⟨by rw[decide_eq_decide];exact⟨fun e=>⟨t,by omega⟩,fun e=>by have:=e.2;omega⟩,f,g,k⟩
  refine j2 gc 6 rfl ?_
  refine gm ?_
  exact gz (false) rfl ⟨(by symm;rw[decide_eq_false_iff_not];exact fun e=>(by rw[t] at e;cases e.1)),f,g,k⟩
 rintro z w9 ⟨rfl,f,g,k⟩
 refine jl rfl (fun hc=> ?_) (fun hc=> ?_)
 ·obtain⟨ac,a7⟩:=hc
  rw[ac] at a6
  have hP:=of_decide_eq_true a6.symm
  have ab:j<b.ss.length:=by have:=hP.2.1;omega
  have ax:j<(a.ss.map Prod.fst).length:=by rw[List.length_map];exact a7
  have ay:j<(b.ss.map Prod.fst).length:=by rw[List.length_map];exact ab
  have ad:(a.ss.map Prod.fst)[j]=a.ss[j].1:=List.getElem_map ..
  have ae:(b.ss.map Prod.fst)[j]=b.ss[j].1:=List.getElem_map ..
  have N:=zv7 ax ay
  rw[ad,ae] at N
  have I:=ha.s _ (List.getElem_mem a7)
  have X:=hb.s _ (List.getElem_mem ab)
  obtain⟨q2,o2,af,a0⟩:=ha.ss.qm (fun x _=>Cw x) zo
  obtain⟨q3,o3,ag,a1⟩:=hb.ss.qm (fun x _=>Cw x) zo
  have a2:j0 w9 b2 25 [.slice a.op a.os.length a.oc,.slice (some ⟨q2,o2,none⟩) a.ss.length a.sc]:=by have e:=f;rw[uf.c,af] at e;exact e
  have a3:j0 w9 b3 25 [.slice b.op b.os.length b.oc,.slice (some ⟨q3,o3,none⟩) b.ss.length b.sc]:=by have e:=g;rw[uf.c,ag] at e;exact e
  refine j7 (j1 (jv (α:=Bool) [2,3,7] rfl (fun z=>[(5,.bool z)]) (fun z u=>(z=decide (a.ss[j].1=b.ss[j].1))∧j0 u b2 25 (a.c)∧j0 u b3 25 (b.c)∧Ext No w u) ?_ ?_))
  ·refine gr ?_
   have az:=f.lt
   have b0:=g.lt
   have b6:=k.size
   refine jv (α:=(Unit)×Nat×Nat) [2,3,7] rfl (fun z=>[(8,.pointer (some ⟨z.2.1,0,none⟩)),(9,.pointer (some ⟨z.2.2,0,none⟩))]) (fun z u=>j0 u b2 25 (a.c)∧j0 u b3 25 (b.c)∧j0 u z.2.1 91 (x8 a.ss[j])∧w9.heap.size≤z.2.1∧j0 u z.2.2 91 (x8 b.ss[j])∧w9.heap.size≤z.2.2∧z.2.1≠z.2.2∧Ext No w u) ?_ ?_
   ·have C:=Nat.le_refl w9.heap.size
    refine zq7 rfl 13 13 [13] (No) zk fun b1 J b7=> ?_
    have a4:=k
    have f:=f.ga J
    have g:=g.ga J
    have C:=Nat.le_trans C J.size
    have k:=k.gb J
    have D:Ext No _ b1:=J
    refine qe [qP 0,qP 1,qP 2,qP 3,qP 4,qP 5,qP 6,qP 7,qP 8,qP 9] 3 rfl zk (gv gc 1 rfl (j6 gc rfl rfl (fun w' p=>((a2.ga p).cell rfl)) ?_))
    refine gv gc 1 rfl (qk gc rfl rfl 5 rfl j rfl a7 (o2+j*5) rfl (qf gc rfl rfl (fun w' p=>((a0 j a7).ga (a4.gb p))) rfl ?_))
    refine gv gc 1 rfl (j6 gc rfl rfl (fun w' p=>((a3.ga p).cell rfl)) ?_)
    refine gv gc 1 rfl (qk gc rfl rfl 5 rfl j rfl ab (o3+j*5) rfl (qf gc rfl rfl (fun w' p=>((a1 j ab).ga (a4.gb p))) rfl ?_))
    refine xg rfl (Ab [10,11] rfl zk ⟨⟨_,rfl,?_⟩,⟨_,rfl,?_⟩,trivial⟩)
    ·refine Ak gc rfl fun b8 bn q m E=>⟨D.gb E,?_⟩
     have O:=j5 f.lt q
     have P:=j5 g.lt q
     have ah:=Nat.le_trans k.size q
     have Q:=Nat.le_trans C q
     have R:=Nat.le_trans D.size q
     have f:=f.ga E
     have g:=g.ga E
     have C:=Nat.le_trans C E.size
     have k:=k.gb E
     have D:=D.gb E
     refine qe [(11,false),(12,false)] 0 rfl zk (jg rfl (Ak gc rfl fun b9 bo r n y=>⟨D.gb y,?_⟩))
     have S:=j5 f.lt r
     have T:=j5 g.lt r
     have A:=j5 m.lt r
     have ai:=Nat.le_trans k.size r
     have U:=Nat.le_trans C r
     have aj:=Nat.le_trans D.size r
     have f:=f.ga y
     have g:=g.ga y
     have m:=m.ga y
     have C:=Nat.le_trans C y.size
     have k:=k.gb y
     have D:=D.gb y
     refine jg rfl (j8 (l':=x8 a.ss[j]) gc m rfl rfl rfl rfl OneC.h fun bp m F ba=>⟨D.gh F R,?_⟩)
     have f:=f.gj F O
     have g:=g.gj F P
     have n:=n.gj F A.symm
     have C:=Nat.le_trans C F.size
     have k:=k.gh F ah
     refine jj (wb rfl (j8 (l':=x8 b.ss[j]) gc n rfl rfl rfl rfl OneC.h fun bq n K bb=> ?_))
     have f:=f.gj K S
     have g:=g.gj K T
     have m:=m.gj K A
     have C:=Nat.le_trans C K.size
     have k:=k.gh K ai
     refine ja ?_
     exact gz ((()),b8,b9) rfl ⟨f,g,m,Q,n,U,A,k⟩
    refine Ak gc rfl fun b9 br r n G=>⟨D.gb G,?_⟩
    have S:=j5 f.lt r
    have T:=j5 g.lt r
    have ai:=Nat.le_trans k.size r
    have U:=Nat.le_trans C r
    have aj:=Nat.le_trans D.size r
    have f:=f.ga G
    have g:=g.ga G
    have C:=Nat.le_trans C G.size
    have k:=k.gb G
    have D:=D.gb G
    refine qe [(10,false),(12,false)] 0 rfl zk (jg rfl (Ak gc rfl fun b8 bs q m B=>⟨D.gb B,?_⟩))
    have O:=j5 f.lt q
    have P:=j5 g.lt q
    have V:=j5 n.lt q
    have ah:=Nat.le_trans k.size q
    have Q:=Nat.le_trans C q
    have R:=Nat.le_trans D.size q
    have f:=f.ga B
    have g:=g.ga B
    have n:=n.ga B
    have C:=Nat.le_trans C B.size
    have k:=k.gb B
    have D:=D.gb B
    refine jg rfl (j8 (l':=x8 a.ss[j]) gc m rfl rfl rfl rfl OneC.h fun bt m H bc=>⟨D.gh H R,?_⟩)
    have f:=f.gj H O
    have g:=g.gj H P
    have n:=n.gj H V
    have C:=Nat.le_trans C H.size
    have k:=k.gh H ah
    refine jj (wb rfl (j8 (l':=x8 b.ss[j]) gc n rfl rfl rfl rfl OneC.h fun bu n L bd=> ?_))
    have f:=f.gj L S
    have g:=g.gj L T
    have m:=m.gj L V.symm
    have C:=Nat.le_trans C L.size
    have k:=k.gh L ai
    refine ja ?_
    exact gz ((()),b8,b9) rfl ⟨f,g,m,Q,n,U,V.symm,k⟩
   rintro⟨z,b8,b9⟩ b4 ⟨f,g,m,q,n,r,A,k⟩
   try dsimp only
   dsimp only at m q n r A
   refine yv rfl (jb m rfl rfl (j9 gc rfl (jb n rfl rfl (j9 gc rfl (jo 72 rfl (fun t=> ?_) (fun t=> ?_))))))
   ·have W:a.ss[j].1.name=b.ss[j].1.name:=A6 t
    refine j2 gc 1 rfl (jb m rfl rfl (j2 gc 1 rfl (jb n rfl rfl (j2 gc 3 rfl (vb 79 rfl (fun t=> ?_) (fun t=> ?_))))))
    ·have h2:a.ss[j].1.was=b.ss[j].1.was:=by simpa using t
     refine j2 gc 1 rfl (jb m rfl rfl (j2 gc 1 rfl (jb n rfl rfl (j2 gc 3 rfl (vb 86 rfl (fun t=> ?_) (fun t=> ?_))))))
     ·have h3:a.ss[j].1.is=b.ss[j].1.is:=by simpa using t
      refine j2 gc 1 rfl (jb m rfl rfl (j2 gc 1 rfl (jb n rfl rfl ?_)))
      refine gi call93 rfl (xj7 b4 (I.old.ga k) (X.old.ga k) I.lo) fun bv b5 an=> ?_
      obtain⟨rfl,M⟩:=an
      have f:=f.ga M
      have g:=g.ga M
      have m:=m.ga M
      have n:=n.ga M
      have k:=k.gb M
      refine j9 gc rfl (vb 93 rfl (fun t=> ?_) (fun t=> ?_))
      ·have h4:a.ss[j].1.old=b.ss[j].1.old:=by simpa using t
       refine j2 gc 1 rfl (jb m rfl rfl (j2 gc 1 rfl (jb n rfl rfl ?_)))
       refine gi call93 rfl (xj7 b5 (I.new.ga k) (X.new.ga k) I.lw) fun bw bx ao=> ?_
       obtain⟨rfl,a8⟩:=ao
       have f:=f.ga a8
       have g:=g.ga a8
       have k:=k.gb a8
       refine j9 gc rfl (gm ?_)
       exact jy (gz (_) rfl ⟨(by rw[decide_eq_decide,xv7];exact⟨fun e=>⟨W,h2,h3,h4,e⟩,fun e=>e.2.2.2.2⟩),f,g,k⟩)
      have h4:a.ss[j].1.old≠b.ss[j].1.old:=by simpa using t
      refine j2 gc 7 rfl (gm ?_)
      exact jy (gz (false) rfl ⟨(by symm;rw[decide_eq_false_iff_not,xv7];exact fun e=>h4 e.2.2.2.1),f,g,k⟩)
     have h3:a.ss[j].1.is≠b.ss[j].1.is:=by simpa using t
     refine j2 gc 14 rfl (gm ?_)
     exact jy (gz (false) rfl ⟨(by symm;rw[decide_eq_false_iff_not,xv7];exact fun e=>h3 e.2.2.1),f,g,k⟩)
    have h2:a.ss[j].1.was≠b.ss[j].1.was:=by simpa using t
    refine j2 gc 21 rfl (gm ?_)
    exact jy (gz (false) rfl ⟨(by symm;rw[decide_eq_false_iff_not,xv7];exact fun e=>h2 e.2.1),f,g,k⟩)
   have W:a.ss[j].1.name≠b.ss[j].1.name:=fun e=>t (by rw[e])
   refine j2 gc 28 rfl (gm ?_)
   exact jy (gz (false) rfl ⟨(by symm;rw[decide_eq_false_iff_not,xv7];exact fun e=>W e.1),f,g,k⟩)
  rintro z bz ⟨rfl,f,g,k⟩
  refine yv rfl ?_
  rw[kg _ zo]
  refine gm ?_
  exact jn (decide (a.ss[j].1=b.ss[j].1),j+1) rfl ⟨⟨a7,by dsimp only;rw[decide_eq_decide];exact⟨fun e=>⟨hP.1,hP.2.1,hP.2.2.1,N.2 ⟨hP.2.2.2,e⟩⟩,fun e=>(N.1 e.2.2.2).2⟩⟩,f,g,k⟩ zf
 have ap:sn=decide (a.d=b.d):=by
  rw[a6,decide_eq_decide]
  rw[a6,decide_eq_true_eq] at hc
  constructor
  ·intro e
   have h0:¬j<a.ss.length:=fun h=>hc ⟨e,h⟩
   have W:=e.2.2.2
   rw[List.take_of_length_le (by rw[List.length_map];omega),List.take_of_length_le (by rw[List.length_map];have:=e.2.1;omega)] at W
   rw[uf.d,uf.d,e.2.2.1,W]
  intro e
  have e1:(a.os.map Prod.fst)=(b.os.map Prod.fst):=congrArg A2.objs e
  have e2:(a.ss.map Prod.fst)=(b.ss.map Prod.fst):=congrArg A2.sets e
  have l1:=congrArg List.length e1
  have l2:=congrArg List.length e2
  rw[List.length_map,List.length_map] at l1 l2
  exact⟨l1,l2,e1,by rw[e2]⟩
 refine Bi (je rfl (gq (gu rfl rfl ?_)))
 exact⟨by rw[ap],k⟩
theorem side_app {q:Bool} {b r:Bytes} (hb:b.length<65536):(dS (sideB q b++r)).side=((q,b),dS r):=by
 unfold Ds.side
 rw[sideB,List.append_assoc,B1 (l:=[isB q]) (n:=1) rfl]
 dsimp only
 rw[zq9 (n:=2) zo,is_app]
 cases q<;>rfl
theorem set_app {s:xt} {r:Bytes} (hn:s.name.length<256) (h1:s.old.length<65536) (h2:s.new.length<65536):(dS (yq3 s++r)).set=(s,dS r):=by
 unfold Ds.set
 rw[yq3,List.append_assoc,List.append_assoc,zq9 (n:=1) zo]
 dsimp only
 rw[side_app h1]
 dsimp only
 rw[side_app h2]
theorem laid_small {o:jk} (h:xy o):(laidB o).length<65536:=by have:=h.2;omega
theorem objsB_map (l:List jk):Df l=(l.map laidB).flatMap (ue 2):=by rw[Df,List.flatMap_map]
theorem raw_app {b:A2} (h:yn b) (r:Bytes):yz1 (qi b++r)=((b.objs.map laidB,b.sets),dS r):=by
 have c:=h.1
 have j:=h.2.1
 have d:qi b++r=be 2 b.objs.length++((b.objs.map laidB).flatMap (ue 2)++(be 1 b.sets.length++(b.sets.flatMap yq3++r))):=by rw[qi,objsB_map];simp only[List.append_assoc]
 have g:Ds.each (fun s:Ds=>s.str 2) b.objs.length (dS ((b.objs.map laidB).flatMap (ue 2)++(be 1 b.sets.length++(b.sets.flatMap yq3++r))))=(b.objs.map laidB,dS (be 1 b.sets.length++(b.sets.flatMap yq3++r))):=by
  have e:=xv6 (f:=fun s:Ds=>s.str 2) (e:=ue 2) (l:=b.objs.map laidB) (r:=be 1 b.sets.length++(b.sets.flatMap yq3++r)) (fun x a r=>by
   obtain⟨o,c,rfl⟩:=List.mem_map.1 a
   exact zq9 (by have:=laid_small (h.2.2.1 o c);omega))
  rwa [List.length_map] at e
 have i:Ds.each Ds.set b.sets.length (dS (b.sets.flatMap yq3++r))=(b.sets,dS r):=xv6 (fun x a r=>by
  have k:=h.2.2.2.1 x a
  have m:=k.2.1
  have n:=k.2.2.1.1
  have p:=k.2.2.2.1
  exact set_app zo zo zo)
 unfold yz1
 rw[d,show(⟨be 2 b.objs.length++((b.objs.map laidB).flatMap (ue 2)++(be 1 b.sets.length++(b.sets.flatMap yq3++r))),false⟩:Ds).off 2=_ from B1 (jp 2 _)]
 dsimp only
 rw[zv9 2 _ zo,g]
 dsimp only
 rw[B1 (jp 1 _)]
 dsimp only
 rw[zv9 1 _ zo,i]
theorem bat_of {b:A2} (hi:∀o∈b.objs,qv o) (h:yn b):xj9 (b.objs.map laidB,b.sets)=b∧∀y∈b.objs.map laidB,(x4 y).2=0:=by
 refine⟨?_,fun y c=> ?_⟩
 ·show A2.mk ((b.objs.map laidB).map fun y=>(x4 y).1) b.sets=b
  rw[List.map_map,List.map_congr_left (g:=id) (fun o a=>by show(x4 (laidB o)).1=o;rw[dec_laid (hi o a) (h.2.2.1 o a)]),List.map_id]
 obtain⟨o,a,rfl⟩:=List.mem_map.1 c
 rw[dec_laid (hi o a) (h.2.2.1 o a)]
theorem read_code {b:A2} (hi:∀o∈b.objs,qv o) (h:yn b):uc (qi b)=(b,0):=by
 have e:=raw_app h []
 rw[List.append_nil] at e
 obtain⟨e1,e2⟩:=bat_of hi h
 rw[uc,e,if_neg (fun k=>by cases k),e1,if_pos ⟨e2,h,rfl⟩]
theorem read_more {b:A2} (hi:∀o∈b.objs,qv o) (h:yn b) (x:UInt8):uc (qi b++[x])=(zq0,2):=by
 have e:=raw_app h [x]
 obtain⟨a,c⟩:=bat_of hi h
 rw[uc,e,if_neg (fun k=>by cases k),a,if_neg (fun k=>by
  have k:=congrArg List.length k.2.2
  rw[List.length_append] at k
  simp at k)]
theorem A7.side:A7 Ds.side:=(A7.off 1).bind (g:=fun _ s=>s.str 2) (c:=fun x t=>(decide (0<num x),t)) fun _=>A7.str 2
theorem A7.set:A7 Ds.set:=(A7.str 1).bind (g:=fun n s=>((⟨n,s.side.1.1,s.side.2.side.1.1,s.side.1.2,s.side.2.side.1.2⟩:xt),s.side.2.side.2)) (c:=fun _ b=>b) fun n=>
 A7.side.bind (g:=fun _ s=>s.side) (c:=fun o p=>(⟨n,o.1,p.1,o.2,p.2⟩:xt)) fun _=>A7.side
def rawF (s:Ds):(List Bytes×List xt)×Ds:=(((Ds.each (fun s=>s.str 2) (num (s.off 2).1) (s.off 2).2).1,(Ds.each Ds.set (num ((Ds.each (fun s=>s.str 2) (num (s.off 2).1) (s.off 2).2).2.off 1).1) ((Ds.each (fun s=>s.str 2) (num (s.off 2).1) (s.off 2).2).2.off 1).2).1),(Ds.each Ds.set (num ((Ds.each (fun s=>s.str 2) (num (s.off 2).1) (s.off 2).2).2.off 1).1) ((Ds.each (fun s=>s.str 2) (num (s.off 2).1) (s.off 2).2).2.off 1).2).2)
theorem A7.raw:A7 rawF:=(A7.off 2).bind (g:=fun n s=>(((Ds.each (fun s=>s.str 2) (num n) s).1,(Ds.each Ds.set (num ((Ds.each (fun s=>s.str 2) (num n) s).2.off 1).1) ((Ds.each (fun s=>s.str 2) (num n) s).2.off 1).2).1),(Ds.each Ds.set (num ((Ds.each (fun s=>s.str 2) (num n) s).2.off 1).1) ((Ds.each (fun s=>s.str 2) (num n) s).2.off 1).2).2)) (c:=fun _ b=>b) fun n=>
 (A7.each (A7.str 2) (num n)).bind (g:=fun _ s=>((Ds.each Ds.set (num (s.off 1).1) (s.off 1).2).1,(Ds.each Ds.set (num (s.off 1).1) (s.off 1).2).2)) (c:=fun a b=>(a,b)) fun _=>
 (A7.off 1).bind (g:=fun m s=>Ds.each Ds.set (num m) s) (c:=fun _ b=>b) fun m=>A7.each A7.set (num m)
theorem read_less {b:A2} (h:yn b) {n:Nat} (hn:n<(qi b).length):uc ((qi b).take n)=(zq0,7):=by
 have e:rawF (dS (qi b))=((b.objs.map laidB,b.sets),dS []):=by
  have e:=raw_app h []
  rw[List.append_nil] at e
  exact e
 rcases A7.raw.more ((qi b).take n) ((qi b).drop n) with k|⟨k,_⟩
 ·exact if_pos k
 rw[List.take_append_drop,e] at k
 have k:=congrArg (fun x=>x.2.rest) k
 have k:([]:Bytes)=_++(qi b).drop n:=k
 have k:=congrArg List.length k
 rw[List.length_append,List.length_drop] at k
 simp at k
 omega
theorem read_ok {l:Bytes} (h:(uc l).2=0):yn (uc l).1∧qi (uc l).1=l:=by
 unfold uc at h⊢
 by_cases h1:(yz1 l).2.bad=true
 ·rw[if_pos h1] at h;cases h
 rw[if_neg h1] at h⊢
 by_cases h2:(∀y∈(yz1 l).1.1,(x4 y).2=0)∧yn (xj9 (yz1 l).1)∧qi (xj9 (yz1 l).1)=l
 ·rw[if_pos h2];exact h2.2
 rw[if_neg h2] at h;cases h
theorem read_err {l:Bytes} (h:(uc l).2≠0):(uc l).1=zq0∧((uc l).2=7∨(uc l).2=2):=by
 unfold uc at h⊢
 by_cases h1:(yz1 l).2.bad=true
 ·rw[if_pos h1];exact⟨rfl,.inl rfl⟩
 rw[if_neg h1] at h⊢
 by_cases h2:(∀y∈(yz1 l).1.1,(x4 y).2=0)∧yn (xj9 (yz1 l).1)∧qi (xj9 (yz1 l).1)=l
 ·rw[if_pos h2] at h;exact absurd rfl h
 rw[if_neg h2];exact⟨rfl,.inr rfl⟩
theorem code_len {b:A2} (h:yn b):(qi b).length<10000000:=by
 have h1:=yw4 h.2.2.1
 have h2:(b.sets.flatMap yq3).length≤b.sets.length*9000:=B0 fun s hs=>setB_len (h.2.2.2.1 s hs)
 have h3:=h.1
 have h4:=h.2.1
 rw[qi]
 simp only[List.length_append,jp]
 omega
theorem storeback_calls (w:World) (hr:Rt w) {B:uf} (hB:BatArg w B) {p:Option Addr} {c:Nat} {l:Bytes} (hs:vt w p l) (hcl:l.length≤c):
  gn prog 6 [B.v,.slice p l.length c] w fun v w'=>v= .bool true∧Ext No w w':=by
 refine gx func6 ?_
 have e:=Ext.refl No w
 refine qa (gw rfl fun b2 w1 cd f bd=> ?_)
 have e:=e.gb bd
 have f:j0 w1 b2 25 (B.c):=f
 refine jz rfl (gk (qa (gi call9 rfl (lwakes_calls w1 (Rt.ext hr e id)) fun v2 w2 bf=> ?_)))
 obtain⟨rfl,ad⟩:=bf
 have f:=f.ga ad
 have e:=e.gb ad
 refine jz rfl (ur rfl (j7 (j1 (qa (jh f rfl rfl (gi call16 rfl (lbatch_calls w2 (hB.ga e)) fun v3 w3 bg=> ?_))))))
 obtain⟨r,rfl,ce,t,ae⟩:=bg
 have f:=f.ga ae
 have e:=e.gb ae
 have c3:=t.lo
 have c4:=t.ls
 have af:∀o∈r.d.objs,qv o:=fun o ho=>by obtain⟨x,hx,rfl⟩:=List.mem_map.1 ho;exact(t.o x hx).1.1
 refine gw rfl fun b5 w4 ag g a5=> ?_
 have a6:=j5 f.lt ag
 have bh:=Nat.le_trans e.size ag
 have f:=f.ga a5
 have t:=t.ga a5
 have e:=e.gb a5
 have ah:=g
 refine wl (j8 (l':=r.c) gc g rfl rfl rfl rfl OneC.h fun w5 g a7 cf=> ?_)
 have f:=f.gj a7 a6
 have t:=t.extB a7 ah
 have e:=e.gh a7 bh
 refine qr (jv (α:=Unit) [1] rfl (fun z=>[]) (fun z u=>Ext No w u) ?_ ?_)
 ·refine gk ?_
  refine j4 (jh g rfl rfl ?_)
  have bi:=e
  refine gi call30 rfl (yx w5 (b:=r) t.at) fun v6 w6 bj=> ?_
  obtain⟨q,k,rfl,j,T⟩:=bj
  have f:=f.ga T
  have g:=g.ga T
  have t:=t.ga T
  have e:=e.gb T
  have j:=j.older (V:=w) bi.size
  refine jz rfl (je rfl (jl rfl (fun D=> ?_) (fun D=> ?_)))
  ·have y:yn r.d:=(zq5 zd).1 D
   have ai:yg r.d=qi r.d:=if_pos y
   rw[ai] at j
   rw[ai]
   have c5:=code_len y
   have bk:=read_code af y
   refine qc rfl (gi call36 rfl (Ap w6 j.sl zo) fun v7 w7 bm=> ?_)
   obtain⟨B3,rfl,U,K,L⟩:=bm
   have f:=f.ga L
   have g:=g.ga L
   have t:=t.ga L
   have j:=j.ga L
   have e:=e.gb L
   rw[bk] at U⊢
   have U:B3.d=r.d:=U
   refine j9 gc rfl (gw rfl fun b8 w8 a8 W I=> ?_)
   have a9:=j5 f.lt a8
   have aa:=j5 g.lt a8
   have bn:=Nat.le_trans e.size a8
   have f:=f.ga I
   have g:=g.ga I
   have t:=t.ga I
   have j:=j.ga I
   have K:=K.ga I
   have e:=e.gb I
   have M:=W
   refine wl (j8 (l':=B3.c) gc W rfl rfl rfl rfl OneC.h fun w9 W J cg=> ?_)
   have f:=f.gj J a9
   have g:=g.gj J aa
   have t:=t.extB J M
   have j:=j.gj J M zd
   have K:=K.extB J M
   have e:=e.gh J bn
   refine jz rfl (gk ?_)
   refine jv (α:=Bool) [1,6] rfl (fun z=>[(41,.bool z)]) (fun z u=>(z=false∧ku w u q (qi r.d).length k 5 1 (ge (qi r.d)))∧j0 u b2 25 (B.c)∧j0 u b5 25 (r.c)∧Ext No w u) ?_ ?_
   ·refine j4 ?_
    refine j9 gc rfl (jo 36 rfl (fun N=> ?_) (fun N=> ?_))
    ·exact absurd rfl N
    refine jh W rfl rfl ?_
    refine jh g rfl rfl (gi call31 rfl (Ca w9 (a:=B3) (b:=r) K.at t.at) fun ch ci aj=> ?_)
    obtain⟨rfl,E⟩:=aj
    have f:=f.ga E
    have g:=g.ga E
    have j:=j.ga E
    have e:=e.gb E
    rw[decide_eq_true U]
    refine j2 gc 2 rfl (gm ?_)
    exact gz (false) rfl ⟨⟨rfl,j⟩,f,g,e⟩
   rintro z cj ⟨⟨rfl,j⟩,f,g,e⟩
   refine ur rfl (xz (je rfl (gr ?_)))
   refine jm (α:=Nat) [1,6,44] rfl (fun z=>[(45,.int .i64 (z:Int))]) (fun z u=>(z≤min (qi r.d).length 250∧ku w u q (qi r.d).length k 5 1 (ge (qi r.d)))∧j0 u b2 25 (B.c)∧j0 u b5 25 (r.c)∧Ext No w u) (fun z u=>min (qi r.d).length 250-z) (0) rfl ⟨⟨Nat.zero_le _,j⟩,f,g,e⟩ ?_
   rintro i bo ⟨⟨hi,j⟩,f,g,e⟩
   refine je rfl (gk (jl rfl (fun D=> ?_) (fun D=> ?_)))
   ·have bp:i<(qi r.d).length:=by omega
    have bq:((qi r.d).take i).length=i:=by rw[List.length_take];omega
    have br:=read_less y bp
    refine xz (gr (je rfl (qc rfl ?_)))
    refine wl (A5 gc rfl 0 i k 1 rfl (.inr ⟨rfl,rfl⟩) (.inl rfl) (.inr ⟨rfl,rfl⟩) (Nat.zero_le _) (by have:=j.own.cap;omega) (Nat.le_refl _) ?_)
    rw[ka,Nat.sub_zero,Nat.sub_zero,show Value.slice q i k= .slice q ((qi r.d).take i).length k from by rw[bq]]
    refine gi call36 rfl (Ap bo (l:=(qi r.d).take i) (j.sl.cutB i) zo) fun ck cl ak=> ?_
    obtain⟨B4,rfl,cm,cn,F⟩:=ak
    have f:=f.ga F
    have g:=g.ga F
    have j:=j.ga F
    have e:=e.gb F
    rw[br]
    refine j9 gc rfl (gw rfl fun co cp O P G=> ?_)
    have X:=j5 f.lt O
    have Y:=j5 g.lt O
    have al:=Nat.le_trans e.size O
    have f:=f.ga G
    have g:=g.ga G
    have j:=j.ga G
    have e:=e.gb G
    have ab:=P
    refine wl (j8 (l':=B4.c) gc P rfl rfl rfl rfl OneC.h fun cq P H c6=> ?_)
    have f:=f.gj H X
    have g:=g.gj H Y
    have j:=j.gj H ab zd
    have e:=e.gh H al
    refine jz rfl (je rfl (jl rfl (fun D=> ?_) (fun D=> ?_)))
    ·exact absurd rfl D
    refine j7 ?_
    refine Bo rfl ?_
    rw[kg _ zo]
    refine gm ?_
    exact jn (i+1) rfl ⟨⟨by omega,j⟩,f,g,e⟩ zf
   refine yo ?_
   refine qy (qy (vf (j1 (qc rfl (wl (qd gc rfl 1 rfl rfl rfl zd zd zt (l':=ge [0]) rfl fun cr cs c7 am a0 c8=> ?_))))))
   have j:=j.ga a0
   have e:=e.gb a0
   refine wl (vy gc rfl 5 rfl rfl rfl rfl j rfl (Src.one am) rfl zo e fun q5 k5 bs L5 bt ct bu c9 ca e=> ?_)
   have an:=read_more af y 0
   rw[←bt] at an
   refine gi call36 rfl (Ap bs bu.sl zo) fun cu cv ao=> ?_
   obtain⟨B5,rfl,cw,cx,ap⟩:=ao
   have e:=e.gb ap
   rw[an]
   refine j9 gc rfl (gw rfl fun cy cz aq a1 ar=> ?_)
   have au:=Nat.le_trans e.size aq
   have e:=e.gb ar
   refine wl (j8 (l':=B5.c) gc a1 rfl rfl rfl rfl OneC.h fun d0 a1 av cb=> ?_)
   have e:=e.gh av au
   refine jz rfl (je rfl (jl rfl (fun D=> ?_) (fun D=> ?_)))
   ·exact absurd rfl D
   refine j7 ?_
   exact gz (()) rfl e
  refine j7 ?_
  exact gz (()) rfl e
 rintro⟨⟩ bv e
 refine qc rfl (wl (A5 gc rfl 0 (min l.length 9000) c 1 rfl (.inr ⟨rfl,rfl⟩) (.inl (congrArg some (minI _ _))) (.inr ⟨rfl,rfl⟩) (Nat.zero_le _) zo (Nat.le_refl _) ?_))
 rw[ka,Nat.sub_zero,Nat.sub_zero,Av]
 obtain⟨m,hm⟩:∃m,m=l.take 9000:=⟨_,rfl⟩
 have d1:m.length≤9000:=by rw[hm,List.length_take];omega
 have bw:vt w p m:=by rw[hm];exact hs.cutB 9000
 rw[←hm]
 refine gi call35 rfl (xc bv (l:=m) (bw.ga e) zo) fun d2 bx aw=> ?_
 obtain⟨q6,k6,rfl,n,d3,ax⟩:=aw
 have e:=e.gb ax
 refine jz rfl (qc rfl (gi call36 rfl (Ap bx n.sl zo) fun d4 d5 ay=> ?_))
 obtain⟨B6,rfl,Z,A,a2⟩:=ay
 have n:=n.ext a2 fun _ _=>id
 have e:=e.gb a2
 refine j9 gc rfl (gw rfl fun d6 d7 az s Q=> ?_)
 have b0:=Nat.le_trans e.size az
 have n:=n.ext Q fun _ _=>id
 have A:=A.ga Q
 have e:=e.gb Q
 have R:=s
 refine wl (j8 (l':=B6.c) gc s rfl rfl rfl rfl OneC.h fun C s S cc=> ?_)
 have n:=n.kc S R zd
 have A:=A.extB S R
 have e:=e.gh S b0
 refine jz rfl (gk (je rfl (jl rfl (fun D=> ?_) (fun D=> ?_))))
 ·obtain⟨bz,c0⟩:=read_err D
  rw[bz] at Z
  refine jv (α:=Bool) [] rfl (fun z=>[(4,.bool z)]) (fun z u=>(z=true)∧Ext No w u) ?_ ?_
  ·refine j4 ?_
   refine j9 gc rfl (jo 82 rfl (fun N=> ?_) (fun N=> ?_))
   ·refine j2 gc 4 rfl ?_
    refine jh s rfl rfl (qg rfl trivial (l':=yh.c) rfl (gi call31 rfl (Ca C (a:=B6) (b:=yh) A.at (zu.no C C).at) fun d8 d9 b1=> ?_))
    obtain⟨rfl,b3⟩:=b1
    have e:=e.gb b3
    rw[decide_eq_true (show B6.d=yh.d from Z)]
    refine j9 gc rfl (gm ?_)
    exact gz (true) rfl ⟨rfl,e⟩
   have c1:=N
   refine j2 gc 4 rfl (jo 86 rfl (fun N=> ?_) (fun N=> ?_))
   ·refine jh s rfl rfl ?_
    refine qg rfl trivial (l':=yh.c) rfl (gi call31 rfl (Ca C (a:=B6) (b:=yh) A.at (zu.no C C).at) fun da db b4=> ?_)
    obtain⟨rfl,b6⟩:=b4
    have e:=e.gb b6
    rw[decide_eq_true (show B6.d=yh.d from Z)]
    refine j9 gc rfl (gm ?_)
    exact gz (true) rfl ⟨rfl,e⟩
   exact(c0.elim c1 N).elim
  rintro z dc ⟨rfl,e⟩
  refine gq (gp (gu rfl rfl ?_))
  exact⟨rfl,e⟩
 obtain⟨ac,b7⟩:=read_ok (Decidable.not_not.1 D)
 rw[←Z] at ac b7
 have a3:yg B6.d=m:=(if_pos ac).trans b7
 refine j7 (j1 (qa (jh s rfl rfl (gi call30 rfl (yx C (b:=B6) A.at) fun dd c2 b9=> ?_))))
 obtain⟨q7,k7,rfl,ba,a4⟩:=b9
 have n:=n.ext a4 fun _ _=>id
 have e:=e.gb a4
 rw[show mayE B6.d=0 from if_pos ac,a3]
 rw[a3] at ba
 refine jz rfl (jv (α:=Bool) [] rfl (fun z=>[(4,.bool z)]) (fun z u=>(z=true)∧Ext No w u) ?_ ?_)
 ·refine j4 ?_
  refine j9 gc rfl (jo 98 rfl (fun N=> ?_) (fun N=> ?_))
  ·refine j2 gc 2 rfl ?_
   refine gi call33 rfl (xw2 c2 ba.sl n.sl zo) fun de df bb=> ?_
   obtain⟨rfl,bc⟩:=bb
   have e:=e.gb bc
   rw[decide_eq_true rfl]
   refine j9 gc rfl (gm ?_)
   exact gz (true) rfl ⟨rfl,e⟩
  exact absurd rfl N
 rintro z dg ⟨rfl,e⟩
 refine gq (gu rfl rfl ?_)
 exact⟨rfl,e⟩
end Go.Proofs.YtpdiphfjmepijaaGreatDoor
