/-
  Walks and laws towards: StoreLasts: wherever the power goes, what is opened again has what was there, or what the batch was to bring, and all that its objects link to; for whatever deeds.
-/
import Derived.Test.YtpdiphfjmepijaaGreatDoorRows
import Derived.ProofKit
import Derived.LaidMore
import Derived.OpenShut
import Derived.Lib.LaidTab
import Derived.Test.YtpdiphfjmepijaaGreatDoorLaH
open List renaming mem_iff_getElem→bG,flatMap_singleton→bL,getElem_map→bQ,map_append→bU,length_set→cK,length_nil→cL,mem_map_of_mem→cW,getElem?_eq_some_iff→dB,flatMap_def→dD
open Int renaming natCast_nonneg→cF
namespace Go.Proofs.YtpdiphfjmepijaaGreatDoor
open Go.Proofs.Tryz
open Go.Vc
abbrev C3 (l : List Bool) : List Value := l.map Value.bool
theorem Sl.mapAt {α:Type} {w:World} {p:Option Addr} {f:α->Value} {l:List α} (h:Sl w p l.length 1 (l.map f)) (h0:0<l.length):∃b off,p=some ⟨b,off,none⟩/\Seg w b off (l.map f):=by
 obtain⟨_,d|⟨b,off,a,c⟩⟩:=h;omega;exact⟨b,off,a,c⟩
theorem equalB_calls (w:World) {p q:Option Addr} {c d:Nat} {l m:List (UInt8)} (h:Sl w p l.length 1 (l.map yk)) (h':Sl w q m.length 1 (m.map yk)) (hl:l.length<1000000000):
  gn prog 33 [.slice p l.length c,.slice q m.length d] w λv w'=>v= .bool (decide (l=m))/\Ext No w w':=by
 refine gz func33 (have a:=Ext.refl No w;vo Z (kw Z (jy Z (λf=>?_) (λf=>?_))));exact gp (j1 (kg Z (gv (gu (gy Z Z ⟨congrArg Value.bool (by symm;rw[aE];intro h;rw[h] at f;exact f Z),a⟩)))));have x:l.length=m.length:=by omega
 refine xg (gp (kw Z (j8 (jl (α:=Nat) [0,1,12] Z (λz=>[(13,.int .i64 (z:Int))]) (λz u=>(z<=l.length/\∀k (t:k<l.length),k<z->l[k]=m[k]'zk)/\Ext No w u) (λz u=>l.length-z) (0) Z ⟨⟨aJ _,λk _ h=>absurd h (cE _)⟩,a⟩ ?_))));rintro i N ⟨⟨H,n⟩,a⟩;refine vo Z (jy Z (λf=>?_) (λf=>?_));have H:i<l.length:=by omega
 have y:i<m.length:=by omega
 obtain⟨b,o,rfl,A⟩:=Sl.mapAt h zk;obtain⟨K,g,rfl,B⟩:=Sl.mapAt h' zk;have C:∀u,Ext No w u->u.cell? ⟨b,o+i,none⟩=some (yk l[i]):=λu D=>(A.ga D) i _ (by rw[bS,aG H];rfl);have E:∀u,Ext No w u->u.cell? ⟨K,g+i,none⟩=some (yk m[i]):=λu D=>(B.ga D) i _ (by rw[bS,aG y];rfl);refine Bn (vo Z (ke Z 9 [qP 0,qP 1,qP 2,qP 3,qP 4,qP 5,qP 6,qP 7,qP 8] [] (No) zf λO F L=> have r:=a;have a:=a.gb F;gw ge 2 Z (u0 ge Z Z 1 Z i Z zk (o+i) (by rw[bF]) (j5 ge Z Z (λw' j=>(C w' (r.gb j))) (gw ge 2 Z (u0 ge Z Z 1 Z i Z zk (g+i) (by rw[bF]) (j5 ge Z Z (λw' j=>(E w' (r.gb j))) (gw ge 1 Z (js (ja (jq (jy Z (λf=>?_) (λf=>?_)))))))))))));exact gp (j1 (kg Z (gv (jt (gu (gu (jt (gu (gy Z Z ⟨congrArg Value.bool (by symm;rw[aE];intro e;subst e;exact f Z),a⟩)))))))));have G:l[i]=m[i]:=UInt8.toNat_inj.1 (by have e:=aT.1 f;omega);refine qf (Bi Z ?_);rw[qc _ zk];exact gl (jh (i+1) Z ⟨⟨by omega,λk t M=>(by rcases bC k i with J|J;exact n k t J;(have e:k=i:=zk);subst e;exact G)⟩,a⟩ zm);have s:l=m:=zq8 x λk t=>n k t zk;exact Bh (kw Z (gv (gy Z Z ⟨congrArg Value.bool (bZ s).symm,a⟩)))
theorem equalS_calls (w:World) {p q:Option Addr} {c d:Nat} {l m:List (Str)} (h:Sl w p l.length 1 (l.map yj)) (h':Sl w q m.length 1 (m.map yj)) (hl:l.length<1000000000):
  gn prog 51 [.slice p l.length c,.slice q m.length d] w λv w'=>v= .bool (decide (l=m))/\Ext No w w':=by
 refine gz func51 (have a:=Ext.refl No w;vo Z (kw Z (jy Z (λf=>?_) (λf=>?_))));exact gp (j1 (kg Z (gv (gu (gy Z Z ⟨congrArg Value.bool (by symm;rw[aE];intro h;rw[h] at f;exact f Z),a⟩)))));have x:l.length=m.length:=by omega
 refine xg (gp (kw Z (j8 (jl (α:=Nat) [0,1,12] Z (λz=>[(13,.int .i64 (z:Int))]) (λz u=>(z<=l.length/\∀k (t:k<l.length),k<z->l[k]=m[k]'zk)/\Ext No w u) (λz u=>l.length-z) (0) Z ⟨⟨aJ _,λk _ h=>absurd h (cE _)⟩,a⟩ ?_))));rintro i N ⟨⟨H,n⟩,a⟩;refine vo Z (jy Z (λf=>?_) (λf=>?_));have H:i<l.length:=by omega
 have y:i<m.length:=by omega
 obtain⟨b,o,rfl,A⟩:=Sl.mapAt h zk;obtain⟨K,g,rfl,B⟩:=Sl.mapAt h' zk;have C:∀u,Ext No w u->u.cell? ⟨b,o+i,none⟩=some (yj l[i]):=λu D=>(A.ga D) i _ (by rw[bS,aG H];rfl);have E:∀u,Ext No w u->u.cell? ⟨K,g+i,none⟩=some (yj m[i]):=λu D=>(B.ga D) i _ (by rw[bS,aG y];rfl);refine Bn (vo Z (ke Z 9 [qP 0,qP 1,qP 2,qP 3,qP 4,qP 5,qP 6,qP 7,qP 8] [] (No) zf λO F L=> have r:=a;have a:=a.gb F;gw ge 2 Z (u0 ge Z Z 1 Z i Z zk (o+i) (by rw[bF]) (j5 ge Z Z (λw' j=>(C w' (r.gb j))) (gw ge 2 Z (u0 ge Z Z 1 Z i Z zk (g+i) (by rw[bF]) (j5 ge Z Z (λw' j=>(E w' (r.gb j))) (gw ge 1 Z (js (ja (jq (jy Z (λf=>?_) (λf=>?_)))))))))))));exact gp (j1 (kg Z (gv (jt (gu (gu (jt (gu (gy Z Z ⟨congrArg Value.bool (by symm;rw[aE];intro e;subst e;exact f Z),a⟩)))))))));have G:l[i]=m[i]:=Bo (aT.1 f);refine qf (Bi Z ?_);rw[qc _ zk];exact gl (jh (i+1) Z ⟨⟨by omega,λk t M=>(by rcases bC k i with J|J;exact n k t J;(have e:k=i:=zk);subst e;exact G)⟩,a⟩ zm);have s:l=m:=zq8 x λk t=>n k t zk;exact Bh (kw Z (gv (gy Z Z ⟨congrArg Value.bool (bZ s).symm,a⟩)))
theorem brO_known {row fr : List jm} {o : jm} (h : vv o ∈ qi row) : brO (some (row, fr)) o = some (row, fr) := aL h
theorem bring_known (o : jm) : yx [o] [o] = some ([o], []) := brO_known (cW (aF.2 Z))
theorem bring_new {o : jm} (h : qd o = []) : yx [] [o] = some ([o], [o]) := by
  show brO (some ([], [])) o = _
  simp [brO, qi, h]
def swO : jm := { x1 with kind := 1, text := [97] }
def swS : A4 := ⟨[107], false, true, [], [7]⟩
def swB : Ap := ⟨[swO], [swS]⟩
def swC : Bytes := uo swB
def swA : Wl := Wl.fresh (uj (kj.fresh 42) 20).1 20
def swX : Wl := (swA.append swC).1
def swP : Ax := ⟨[swO], [([107], [7])]⟩
theorem sw1 : (uj (kj.fresh 42) 20).2 = 0 := by decide +kernel
theorem sw2 : (swA.append swC).2 = 0 := by decide +kernel
theorem sw3 : (u4 (swX.D.vm [])).2 = (0, 0, 20, [[], swC]) := by decide +kernel
theorem sw4 : Bx swB := by decide +kernel
theorem sw5 : xd swC = (swB, 0) := by decide +kernel
theorem sw6:jp zz4 swB=(swP,swB,0):=by
 have a:qd swO=[]:=by decide+kernel
 have b:yx zz4.row swB.objs=some ([swO],[swO]):=bring_new a;have c:Bs zz4.vals swB.sets=some [([107],[7])]:=by decide+kernel
 rw[after_three b c];exact aI zd
theorem sw7:(jp swP swB).2.2=200:=by
 have a:yx swP.row swB.objs=some ([swO],[]):=bring_known swO;have b:Bs swP.vals swB.sets=none:=by decide+kernel
 exact after_no2 a b
theorem sw8 : swC.length <= 40000 /\ (jo swC.length : Int) <= (swA.size : Int) - swA.used := by decide +kernel
theorem sw9:vi ⟨swA,zz4⟩ swB=(⟨swX,swP⟩,0):=by
 have a:uo swB=swC:=rfl;unfold vi;rw[aI zd,aI (λe=>e sw4),sw6];rw[aI zd,a];unfold zz0;rw[aL sw8,sw2];rfl
theorem sw10:vi ⟨swX,swP⟩ swB=(⟨swX,swP⟩,200):=by
 have a:swX.broken=false:=by decide+kernel
 unfold vi;rw[aI (by rw[a];decide),aI (λe=>e sw4),sw7];exact aL (.inl zd)
theorem open_eq {D:kj} {s:Ax} (h1:(u4 D).2.1=0) (h4:Dh (Wl.opened (u4 D)).pieces=some s):Cs D=((u4 D).1,0,some ⟨Wl.opened (u4 D),s⟩):=by
 unfold Cs;rw[aI (λe=>e h1),h4]
theorem opn_err {x : kj × Int × Nat × Nat × List Bytes} {e : Int} {t n : Nat} {ps : List Bytes} (h : x.2 = (e, t, n, ps)) : x.2.1 = e := by rw [h]
theorem opn_pieces {x:kj×Int×Nat×Nat×List Bytes} {e:Int} {t n:Nat} {ps:List Bytes} (h:x.2=(e,t,n,ps)):(Wl.opened x).pieces=ps:=by show x.2.2.2.2=_;rw[h]
theorem said_two {c : Bytes} {s : Ax} (h : uy zz4 c = some s) : Dh [[], c] = some s := h
theorem said_eq {s t:Ax} {c:Bytes} {b:Ap} (h1:xd c=(b,0)) (h2:jp s b=(t,b,0)):uy s c=some t:=by
 unfold uy;rw[h1];rw[h2];exact aL ⟨Z,Z,Z⟩
def swD : kj := swX.D.vm []
def swW : Wl := Wl.opened (u4 swD)
theorem sw11:Cs swD=((u4 swD).1,0,some ⟨swW,swP⟩):=by
 have a:(u4 swD).2.1=0:=opn_err sw3;have b:(Wl.opened (u4 swD)).pieces=[[],swC]:=opn_pieces sw3;have c:uy zz4 swC=some swP:=said_eq sw5 sw6;have d:Dh (Wl.opened (u4 swD)).pieces=some swP:=by rw[b];exact said_two c
 exact open_eq a d
abbrev swBX (b23 b24 b26 : Nat) : uz := ⟨some ⟨b23, 0, none⟩, 1, [(swO, noP)], some ⟨b26, 0, none⟩, 1, [(swS, ⟨none, 0, some ⟨b24, 0, none⟩, 1⟩)]⟩
theorem Cg : ub swO := ⟨by decide, by decide, λ_ h => (by cases h), λ_ h => (by cases h), λ_ h => (by cases h), by decide, by decide⟩
theorem swO_short : Cw swO := ⟨by decide, by decide, by decide, λ_ h => (by cases h), λ_ h => (by cases h)⟩
theorem swO_l (w : World) : Ch w swO noP := ⟨Sl.nil _ _ _, Sl.nil _ _ _, Sl.nil _ _ _⟩
theorem sw_bat {u:World} {b23 b24 b26:Nat} (h23:j0 u b23 37 (yu (swO,noP))) (h24:j0 u b24 5 (gh [7])) (h26:j0 u b26 91 (yc (swS,⟨none,0,some ⟨b24,0,none⟩,1⟩))):zv6 u (swBX b23 b24 b26):=by
 refine⟨⟨by rw[bL];exact gr Cg,.inr ⟨b23,0,Z,by rw[bL];exact h23.ql⟩⟩,⟨Z,.inr ⟨b26,0,Z,h26.ql⟩⟩,λx a=>?_,λx a=>?_,(by show 1<1000000;decide),(by show 1<1000000;decide)⟩;rw[aF.1 a];exact⟨Cg,swO_short,swO_l u⟩
 rw[aF.1 a];exact⟨Sl.nil _ _ _,⟨Z,.inr ⟨b24,0,Z,h24.ql⟩⟩,(by show 1<1000000000;decide),(by show 0<1000000000;decide),(by show 1<1000000000;decide)⟩
theorem mem_ids (o : jm) : vv o ∈ qi [o] := cW (aF.2 Z)
theorem swP_ok : Ax.Ok swP := by
  have h := (xv4 yv1 sw4).1
  rw [sw6] at h; exact h
theorem swO_b : BytesIn swO := ⟨.inl Z, λ_ => by decide, λe => absurd e zd, λe => absurd e zd, λe => absurd e zd, λe => absurd e zd⟩
theorem lwakes_calls (w:World) (hr:Rt w):
  gn prog 9 [] w λv w'=>v= .bool true/\Ext No w w':=by
 refine gz func9 ?_;have j:=Ext.refl No w;have dw:=hr.lt;have g:=hr;refine kw Z (qr (gj call22 Z (new_calls w (n:=42) zd) ?_));rintro v1 w1⟨d,F1,rfl,hA,ax,br⟩;have g:=Rt.ext g br id;have j:=j.gb br;have ah:(kj.fresh 42).Ok 0:=kj.Ok.fresh zd;have a5:swA.D.Ok (0+6000):=(formatW_ok ah 20).1;have bs:Wl.Ok swA:=(format_fine (a:=20) sw1 ah).1;obtain⟨ai,cx⟩:=xw2 (W:=swA) a5 bs swC;have bt:swD.Ok _:=ai.vm [];refine kg Z (gp (kw Z (uc Z (xg (qj Z ?_)))));have dx:=j.size;refine gj call13 Z (sformat_calls w1 hA ah zd 20 zd g (λe=>by have:=ax 0 e;omega)) ?_;rintro v2 w2⟨so,F2,rfl,dy,bu,bv,dz,cz⟩;have j:=j.trans bu λy A e=>by have:=ax y e;omega
 have g:=Rt.ext g bu λe=>by have:=ax 0 e;omega
 obtain⟨sp,x,H,K,h,rfl,k,c0⟩:=cz sw1;have k:StA w2 sp x d F2 H K ⟨swA,zz4⟩ h:=k;have ay:=k.lt;obtain⟨nF,F⟩:∃n,n=w2.heap.size:=⟨_,Z⟩
 rw[<-F] at ay
 have O:∀y,StB F2 H K sp y->w.heap.size<=y:=λy A=>by
  rcases A with A|A;exact(bv y A).elim (ax y) λe=>by omega
  have:=c0 y A;omega
 rw[sw1];have o:=aB w2.heap.size;refine kg Z (qr (u1 Z ⟨⟨Z,by decide⟩,⟨Z,by decide⟩,trivial⟩ (l':=km swO noP) zf (gt Z λb4 w3 bw f az=>?_)));have c1:=al j.size bw;have r:=al o bw;have g:=Rt.ext g az id;have k:=k.ga az;have o:=al o az.size;have j:=j.gb az;refine wl (j9 (l':=km swO noP) ge f Z Z (gr Cg) (by rw[gr Cg];rfl) OneC.h λw4 f a0 d0=>?_);have g:=Rt.ext g a0 (λe=>by have e:0=b4:=e;omega);have k:=k.ext a0 (xi ay (F▸r));have o:=al o a0.size;have j:=j.gi a0 c1;refine u3 (qr (jf f Z (gr Cg) (wl (qw ge Z 73 Z objZc (gr u6) zd zd ⟨⟨by rw[jc];exact gr Cg,by decide⟩,trivial⟩ (l':=yu (swO,noP)) (xw6 Cg) λP w5 bx p aj d1=>?_))));have ab:=al o bx;have f:=f.ga aj;have g:=Rt.ext g aj id;have k:=k.ga aj;have o:=al o aj.size;have j:=j.gb aj;refine wl (qw ge Z 1 Z Z Z zd zd zp (l':=gh [7]) Z λQ w6 bz q ac d2=>?_);have ad:=al o bz;have f:=f.ga ac;have p:=p.ga ac;have g:=Rt.ext g ac id;have k:=k.ga ac;have o:=al o ac.size;have j:=j.gb ac;refine u1 Z ⟨⟨Z,by decide⟩,⟨Z,by decide⟩,⟨Z,by decide⟩,trivial⟩ (l':=yc (swS,⟨none,0,some ⟨Q,0,none⟩,1⟩)) Z (wl (qw ge Z 5 Z setZc Z zd zd ⟨⟨Z,by decide⟩,trivial⟩ (l':=yc (swS,⟨none,0,some ⟨Q,0,none⟩,1⟩)) (set_put _) λR w7 b0 t S d3=>?_));have ae:=al o b0;have f:=f.ga S;have p:=p.ga S;have q:=q.ga S;have g:=Rt.ext g S id;have k:=k.ga S;have o:=al o S.size;have j:=j.gb S;refine u1 Z ⟨⟨Z,by decide⟩,⟨Z,by decide⟩,trivial⟩ (l':=[.slice (some ⟨P,0,none⟩) 1 1,.slice (some ⟨R,0,none⟩) 1 1]) Z (gt Z λb5 w8 L af T=>?_);have bc:=j3 f.lt L;have a1:=j3 p.lt L;have a2:=j3 q.lt L;have a3:=j3 t.lt L;have c2:=al j.size L;have M:=al o L;have f:=f.ga T;have p:=p.ga T;have q:=q.ga T;have t:=t.ga T;have g:=Rt.ext g T id;have k:=k.ga T;have j:=j.gb T;refine wl (j9 (l':=[.slice (some ⟨P,0,none⟩) 1 1,.slice (some ⟨R,0,none⟩) 1 1]) ge af Z Z Z Z OneC.h λw9 af U d4=>?_);have f:=f.gk U bc;have p:=p.gk U a1;have q:=q.gk U a2;have t:=t.gk U a3;have g:=Rt.ext g U (λe=>by have e:0=b5:=e;omega);have k:=k.ext U (xi ay (F▸M));have j:=j.gi U c2;refine u3 (gp (ju (α:=Bool×(Nat->Prop)) [1,4] Z (λz=>[(46,.bool z.1)]) (λz u=>(z.1=false/\At u d z.2 swD/\(∀y,z.2 y->w.heap.size<=y/\y≠b4)/\Rt u)/\j0 u b4 37 (km swO noP)/\Ext No w u) ?_ ?_));refine j1 (j6 ge Z (ut 30 Z (λG=>?_) (λG=>?_)));cases G;refine j4 ge 1 Z (jf af Z Z ?_);have c3:h.hs.length+5000<1000000:=by have e:=congrArg (λs=>s.row.length) k.eq;dsimp only[uk.s] at e;rw[aA] at e;rw[e];decide
 have bd:∀y,StS F2 H sp y->StB F2 H K sp y:=λy e=>e.imp id λe=>e.imp id .inr;have C:∀b,nF<=b->¬StS F2 H sp b:=λb hb e=>Nat.lt_irrefl _ (aK (ay b (bd b e)) hb);obtain⟨n5,L⟩:∃n,n=w9.heap.size:=⟨_,Z⟩
 have l4:=f.lt;refine gj call15 Z (C9 w9 (B:=(swBX P Q R)) k a5 zd bs g (λe=>by have:=O 0 (.inl e);omega) (sw_bat p q t) yv1 c3) ?_;rintro d5 c4⟨rfl,b2,E⟩;have f:=f.ext E (C b4 (F▸r));have p:=p.ext E (C P (F▸ab));have q:=q.ext E (C Q (F▸ad));have t:=t.ext E (C R (F▸ae));have af:=af.ext E (C b5 (F▸M));have j:=j.trans E λy A e=>by have:=O y (bd y e);omega
 have g:=Rt.ext g E λe=>by have:=O 0 (bd 0 e);omega
 rw[<-L] at l4;rw[show(vi ⟨swA,zz4⟩ (uz.d (swBX P Q R)))=_ from sw9] at b2|-;obtain⟨F3,H3,K3,h3,k3,bf,bg,b3⟩:=b2;rw[<-L] at bf bg b3;have a6:∀y,StS F3 H3 sp y->StB F3 H3 K3 sp y:=λy e=>e.imp id λe=>e.imp id .inr
 have ak:∀b,nF<=b->b<n5->¬StS F3 H3 sp b:=λb hb hl e=>by
  rcases e with e|e|e;exact(bf b e).elim (λe=>C b hb (.inl e)) λe=>by omega
  exact(bg b e).elim (λe=>C b hb (.inr (.inl e))) λe=>by omega
  exact C b hb (.inr (.inr e))
 have V:∀y,StB F3 H3 K3 sp y->w.heap.size<=y:=λy A=>by
  rcases A with A|A|A|A;exact(bf y A).elim (λe=>O y (.inl e)) λe=>by omega
  exact(bg y A).elim (λe=>O y (.inr (.inl e))) λe=>by omega
  exact(b3 y A).elim (λe=>O y (.inr (.inr (.inl e)))) λe=>by omega
  exact O y (.inr (.inr (.inr A)))
 refine j4 ge 3 Z (ut 36 Z (λG=>?_) (λG=>?_));cases G;refine j4 ge 1 Z (jf af Z Z ?_);have c5:h3.hs.length+5000<1000000:=by have e:=congrArg (λs=>s.row.length) k3.eq;dsimp only[uk.s] at e;rw[aA] at e;rw[e];decide
 have m4:=f.lt;refine gj call15 Z (C9 c4 (B:=(swBX P Q R)) k3 ai zd cx g (λe=>by have:=V 0 (.inl e);omega) (sw_bat p q t) swP_ok c5) ?_;rintro d6 c6⟨rfl,a8,am⟩;have f:=f.ext am (ak b4 (F▸r) l4);have j:=j.trans am λy A e=>by have:=V y (a6 y e);omega
 have g:=Rt.ext g am λe=>by have:=V 0 (a6 0 e);omega
 rw[show(vi ⟨swX,swP⟩ (uz.d (swBX P Q R)))=_ from sw10] at a8|-;obtain⟨F4,H4,K4,h4,k4,b9,d7,d8⟩:=a8;have an:∀y,F4 y->w.heap.size<=y:=λy A=>(b9 y A).elim (λe=>V y (.inl e)) λe=>by omega
 have ca:∀y,F4 y->y≠b4:=λy A e=>by rw[e] at A;exact(b9 b4 A).elim (λe=>ak b4 (F▸r) l4 (.inl e)) λe=>by omega
 have c7:=k4.disk;refine j4 ge 3 Z (ut 42 Z (λG=>?_) (λG=>?_));cases G;refine j4 ge 1 Z (gj call46 Z (xw4 c6 (n:=0) (c:=0) (kp:=none) (keep:=[]) c7 ai zd Z (Sl.nil _ _ _) (λ_ _ e=>by cases e)) ?_);rintro d9 ea⟨rfl,bh,ap⟩;have f:=f.ext ap (λe=>ca _ e Z);have j:=j.trans ap λy A e=>by have:=an y e;omega
 have g:=Rt.ext g ap λe=>by have:=an 0 e;omega
 refine j4 ge 2 Z (gl ?_);exact j2 (false,F4) Z ⟨⟨Z,bh,λy A=>⟨an y A,ca y A⟩,g⟩,f,j⟩;rintro⟨z,F5⟩ da ⟨⟨rfl,bh,bi,g⟩,f,j⟩;refine uc Z (xg (qj Z (gj call14 Z (yq2 da bh bt zd g (λe=>by have:=(bi 0 e).1;omega)) ?_)));rintro eb bj⟨so,F6,rfl,ec,a9,ed,dp,db⟩;have f:=f.ext a9 (λe=>(bi _ e).2 Z);have j:=j.trans a9 λy A e=>by have:=(bi y e).1;omega
 obtain⟨ee,x6,H6,K6,h6,rfl,J,ef⟩:=db ⟨swW,swP⟩ (by rw[sw11]);have cd:=J.lt;obtain⟨nG,ce⟩:∃n,n=bj.heap.size:=⟨_,Z⟩
 rw[<-ce] at cd;rw[show(Cs swD).2.1=0 from by rw[sw11]];have aq:=aB bj.heap.size;refine kg Z (gp (kw Z (uc Z (xg (qj Z (jf f Z (gr Cg) (gj call50 Z (id6_calls bj Cg (swO_l _) swO_b) ?_)))))));rintro eg dc⟨rfl,X⟩;have f:=f.ga X;have J:=J.ga X;have aq:=al aq X.size;have j:=j.gb X;obtain⟨cg,ar⟩:∃i,i=vv swO:=⟨_,Z⟩
 rw[<-ar];have ch:vd cg:=by rw[ar];exact ul _
 have ci:cg∈qi swP.row:=by rw[ar];exact mem_ids swO
 have dd:=j.size;refine gj call10 Z (sget_calls dc J ch) ?_;rintro eh ei⟨o7,a7,rfl,de,ej,Y⟩;have f:=f.ga Y;have J:=J.ga Y;have aq:=al aq Y.size;have j:=j.gb Y;obtain⟨bk,_,dq,hN⟩:=de ci;have bk:o7=swO:=aF.1 bk;subst bk;have hN:=hN.older (W0:=w) dd;rw[aL ci];refine j6 ge Z (gt Z λb7 ek bm ag I=>?_);have bn:=j3 f.lt bm;have df:=al j.size bm;have a4:=al aq bm;have f:=f.ga I;have J:=J.ga I;have hN:=hN.ga I;have j:=j.gb I;have ck:=ag;refine wl (j9 (l':=km swO a7) ge ag Z Z (gr Cg) (by rw[gr Cg];rfl) OneC.h λdg ag aa dr=>?_);have f:=f.gk aa bn;have J:=J.ext aa (xi cd (ce▸a4));have hN:=hN.gk aa ck zd zd zd;have j:=j.gi aa df;refine kg Z (qj Z (gj call11 Z (yw1 dg J swP_ok.rise (n:=[107])) ?_));rintro em dh⟨q8,c8,b8,rfl,bp,au,N⟩;have f:=f.ga N;have ag:=ag.ga N;have J:=J.ga N;have hN:=hN.ga N;have j:=j.gb N;have bp:b8=[7]:=bp;subst bp;rw[show(zx2 swP.vals [107]).isSome=true from Z];refine kg Z (ju (α:=Bool) [] Z (λz=>[(0,.bool z)]) (λz u=>(z=true)/\Ext No w u) ?_ ?_);refine j1 (j6 ge Z (ut 68 Z (λG=>?_) (λG=>?_)));refine jf ag Z (gr Cg) (jf f Z (gr Cg) (gj call17 Z (xz8 dh Cg Cg hN.l (swO_l _) swO_short) ?_));rintro en ep⟨rfl,av⟩;have J:=J.ga av;have au:=au.ga av;have j:=j.gb av;rw[show decide (swO=swO)=true from bZ Z];refine j6 ge Z (ut 73 Z (λG=>?_) (λG=>?_));refine j4 ge 3 Z (ut 76 Z (λG=>?_) (λG=>?_));refine j4 ge 1 Z (wl (qw ge Z 1 Z Z Z zd zd zp (l':=gh [7]) Z λdi dj ds cp aw dt=>?_));have J:=J.ga aw;have au:=au.ga aw;have j:=j.gb aw;refine gj call33 Z (equalB_calls dj (l:=[7]) (m:=[7]) au.sl ⟨Z,.inr ⟨di,0,Z,cp.ql⟩⟩ zd) ?_;rintro er dk⟨rfl,ba⟩;have J:=J.ga ba;have j:=j.gb ba;rw[show decide (([7]:List UInt8)=[7])=true from bZ Z];refine j6 ge Z (ut 81 Z (λG=>?_) (λG=>?_));refine j4 ge 1 Z (gj call18 Z (snames_calls dk J) ?_);rintro es et⟨q9,c9,rfl,bq,cs⟩;have j:=j.gb cs;refine wl (qw ge Z 1 Z Z Z zd zd zp (l':=[yj [107]]) Z λdm dn du ct bb dv=>?_);have bq:=bq.ga bb;have j:=j.gb bb;refine gj call51 Z (equalS_calls dn (l:=[[107]]) (m:=[[107]]) bq.sl ⟨Z,.inr ⟨dm,0,Z,ct.ql⟩⟩ zd) ?_;rintro eu ev⟨rfl,cv⟩;have j:=j.gb cv;rw[show decide (([[107]]:List Str)=[[107]])=true from bZ Z];exact j6 ge Z (gl (j2 (true) Z ⟨Z,j⟩));cases G;cases G;cases G;cases G;rintro z ew ⟨rfl,j⟩;exact gv (gy Z Z ⟨Z,j⟩)
def u64N (i : Int) : Nat := (IntKind.u64.wrap i).toNat
theorem u64N_eq (i:Int):IntKind.u64.wrap i=(u64N i:Int):=by
 have h:0<=IntKind.u64.wrap i:=by rw[IntKind.wrap_u64];omega
 unfold u64N;omega
theorem u64_mod (i:Int) (k:Nat) (hk:0<k) (hk2:k<1000000):IntKind.i64.wrap ((IntKind.u64.wrap i).tmod (k:Int))=((u64N i%k:Nat):Int):=by
 rw[u64N_eq,Int.tmod_eq_emod_of_nonneg (cF _),<-Int.natCast_emod];have:=Nat.mod_lt (u64N i) hk;exact qc _ zk
open Go.Vc Go.WideShapes Go.ChangeShapes Go.ChangeAt Go.RowKit
theorem own : ownKnob prog.godebug = none := by kernel_rfl
theorem gRoots : prog.globalNamed "confluence/sha.roots" = some 0 := by kernel_rfl
abbrev laidR : List (String × DataW Unit) := [("confluence/sha.roots", Rows.laid_confluence_sha_roots)]
theorem roots_of {W:World} (h:laidMetH prog laidR W):Seg W 0 0 (ku ua):=by
 rw[MakeChecks.laidMetH_plain _ _ _ zf] at h;have h : laidMet prog [("confluence/sha.roots", Lib.tabData .u32 (ua.map λx => (x.toNat : Int)))] W := h;have c:=Lib.tabIs_of_head gRoots (t:=313) (e:=35) (n:=64) zf zf zf zf zf h;intro i v b;have a:i<ua.length:=by have:=(dB.1 b).1;simpa [ku] using this
 have d:=c.cell gRoots i (by rw[aA];exact a);rw[aV,d,<-b,Bp ua a];rw[bH,bS,aG a];rfl
theorem door_met (os:Os) (args:Array Value):laidMetH prog laidR ((World.doorLaid prog 400 os).forCall (λ_ _=>0) ⟨#[],args,[]⟩).memory:=
 laidMetH_of_parts3 (fuel:=70) (laidMet_of_run' 70 zf zf) zf zf
open Go.Vc Go.WideShapes Go.ChangeShapes
section
variable {H : Type} {enc : TypeId × Value -> H} {W : World} {sp : Nat -> Bool} {held : Bool}
theorem list_of {α β:Type} {R:α->β->Prop}:∀(L:List β),(∀r∈L,∃a,R a r)->∃l:List α,l.length=L.length/\∀(i:Nat) (a:α) (r:β),l[i]? =some a->L[i]? =some r->R a r
 | [],_=>⟨[],Z,λi a r h=>by simp at h⟩
 |r::L,h=>by
  obtain⟨a,ha⟩:=h r zq
  obtain⟨l,e,f⟩:=list_of L λx c=>h x (by simp[c])
  refine⟨a::l,by simp[e],λi b x d c=>?_⟩
  cases i with
  |zero=>simp at d c;subst d;subst c;exact ha
  |succ i=>exact f i b x (by simpa using d) (by simpa using c)
theorem open_list {α:Type} {cells:α->List Value} {ok:α->Prop} {fuel t e m:Nat} {cs:List Value} {x:DataW H×List MemPlace} (ht:prog.underlying t=some (.slice e)) (hm:prog.cellsOf e=m) (hm0:0<m)
  (hrow:∀{k:Nat} {r:List Value} {y:DataW H×List MemPlace},DataW.trod enc prog W 0 sp held k e r=some y->∃a,r=cells a/\ok a)
  (h:DataW.trod enc prog W 0 sp held fuel t cs=some x):
  ∃(p:Option Addr) (l:List α) (c:Nat),cs=[.slice p l.length c]/\l.length<=c/\c<=maxLen/\Sl W p l.length m (l.flatMap cells)/\(∀a∈l,ok a)/\(l≠[]->∀b off,p=some ⟨b,off,none⟩->b<W.heap.size):=by
 obtain⟨p,n,c,L,rfl,u,v,D,E,w,f,z⟩:=open_rows ht hm hm0 h;obtain⟨l,F,q⟩:=list_of (R:=λa r=>r=cells a/\ok a) L λr g=>by obtain⟨k,y,A⟩:=z r g;exact hrow A
 have e:L=l.map cells:=by
  apply List.ext_getElem?;intro i;rw[bS];by_cases s:i<l.length;have d:i<L.length:=by omega
  have:=(q i l[i] L[i] zq zq).1;simp[s,d,this];rw[bR zk,bR zk];rfl
 have j:l.length=n:=by omega
 subst j;refine⟨p,l,c,Z,u,v,by rw[dD,<-e];exact w,λa B=>?_,λo=>f λC=>o (aU C)⟩;obtain⟨i,s,rfl⟩:=bG.1 B;have d:i<L.length:=by omega
 exact(q i l[i] L[i] zq zq).2
theorem open_byte {fuel:Nat} {cs:List Value} {x:DataW H×List MemPlace} (h:DataW.trod enc prog W 0 sp held fuel 5 cs=some x):∃b:UInt8,cs=[yk b]:=by
 obtain⟨n,rfl,_,a⟩:=DataW.trod_int Tryz.underlying5 h;have a:0<=n/\n<=255:=by simpa [Lit.wf,IntKind.min,IntKind.max,IntKind.signed,IntKind.bits] using a
 refine⟨UInt8.ofNat n.toNat,?_⟩;show _=[Value.int .u8 ((UInt8.ofNat n.toNat).toNat:Int)];have e:(UInt8.ofNat n.toNat).toNat=n.toNat:=UInt8.toNat_ofNat_of_lt' (by show n.toNat<256;omega);rw[e,Int.toNat_of_nonneg a.1]
theorem yz3 {fuel:Nat} {cs:List Value} {x:DataW H×List MemPlace} (h:DataW.trod enc prog W 0 sp held fuel 9 cs=some x):∃s:Str,cs=[yj s]/\s.length<=maxLen:=by
 obtain⟨s,rfl,_,a⟩:=DataW.trod_string Tryz.underlying9 h;exact⟨s.data.toList,by show _=[Value.string (vw s.data.toList)];rw[strU_of],a⟩
theorem open_id {fuel:Nat} {cs:List Value} {x:DataW H×List MemPlace} (h:DataW.trod enc prog W 0 sp held fuel 30 cs=some x):∃l:List UInt8,cs=gh l/\l.length=32:=by
 obtain⟨n,m,rfl,_,c,o,d⟩:=DataW.trod_array Tryz.underlying30 h;have p:prog.cellsOf 5=1:=by kernel_rfl
 have e:prog.cellsOf 30=32:=by kernel_rfl
 rw[e] at c
 obtain⟨l,s,q⟩:=list_of (R:=λ(b:UInt8) v=>v=yk b) cs λv r=>by
  obtain⟨i,f,rfl⟩:=bG.1 r;have a:i<32:=by omega
  have j:=d i a;rw[p,bF,aG (show i<n.length by rw[o];exact a)] at j;obtain⟨b,k⟩:=open_byte j;rw[cB f,List.take_succ_cons,List.take_zero] at k;exact⟨b,(List.cons.inj k).1⟩
 refine⟨l,?_,by omega⟩;apply List.ext_getElem?;intro i;rw[gh,bS];by_cases f:i<l.length;have g:i<cs.length:=by omega
 have:=q i l[i] cs[i] zq zq;simp[f,g,this];rw[bR zk,bR zk];rfl
theorem uq (cs : List Value) (o n : Nat) : cs.drop o = (cs.drop o).take n ++ cs.drop (o + n) := by
  rw [<- cY, cP]
theorem open_leaf {fuel:Nat} {cs:List Value} {x:DataW H×List MemPlace} (h:DataW.trod enc prog W 0 sp held fuel 148 cs=some x):∃r:jn,cs=r.cells/\r.path.length<=maxLen/\r.id.length=32:=by
 obtain⟨j,k,rfl,_,a,b,f⟩:=DataW.trod_struct Tryz.underlying148 h;have c:prog.cellsOf 148=33:=by kernel_rfl
 have m:prog.cellsOf 9=1:=by kernel_rfl
 have d:prog.cellsOf 30=32:=by kernel_rfl
 have b:j.length=2:=b;have g:DataW.trod enc prog W 0 sp held k 9 ((cs.drop 0).take (prog.cellsOf 9))=_:=f 0 _ Z;have i:DataW.trod enc prog W 0 sp held k 30 ((cs.drop 1).take (prog.cellsOf 30))=_:=f 1 _ Z;rw[m,aG zk] at g;rw[d,aG zk] at i;obtain⟨s,n,o⟩:=yz3 g;obtain⟨l,p,q⟩:=open_id i;rw[c] at a;refine⟨⟨s,l⟩,?_,o,q⟩;have e:cs=cs.drop 0:=rfl;rw[e,uq cs 0 1,n,uq cs (0+1) 32,p,aW zk,bE];rfl
theorem open_chg {fuel:Nat} {cs:List Value} {x:DataW H×List MemPlace} (h:DataW.trod enc prog W 0 sp held fuel 150 cs=some x):∃r:vb,cs=r.cells/\r.path.length<=maxLen/\r.text.length<=maxLen:=by
 obtain⟨l,k,rfl,_,a,c,d⟩:=DataW.trod_struct Tryz.underlying150 h;have f:prog.cellsOf 150=3:=by kernel_rfl
 have m:prog.cellsOf 9=1:=by kernel_rfl
 have n:prog.cellsOf 4=1:=by kernel_rfl
 have c:l.length=3:=c;have g:DataW.trod enc prog W 0 sp held k 9 ((cs.drop 0).take (prog.cellsOf 9))=_:=d 0 _ Z;have i:DataW.trod enc prog W 0 sp held k 4 ((cs.drop 1).take (prog.cellsOf 4))=_:=d 1 _ Z;have j:DataW.trod enc prog W 0 sp held k 9 ((cs.drop 2).take (prog.cellsOf 9))=_:=d 2 _ Z;rw[m,aG zk] at g j;rw[n,aG zk] at i;obtain⟨s,o,p⟩:=yz3 g;obtain⟨b,q,_⟩:=DataW.trod_bool Tryz.underlying4 i;obtain⟨t,u,v⟩:=yz3 j;rw[f] at a;refine⟨⟨s,b,t⟩,?_,p,v⟩;have e:cs=cs.drop 0:=rfl;rw[e,uq cs 0 1,o,uq cs (0+1) 1,q,uq cs (0+1+1) 1,u,aW zk,bE];rfl
theorem open_u32 {fuel:Nat} {cs:List Value} {x:DataW H×List MemPlace} (h:DataW.trod enc prog W 0 sp held fuel 35 cs=some x):∃n:Nat,cs=[.int .u32 (n:Int)]/\n<2^32:=by
 obtain⟨n,rfl,_,a⟩:=DataW.trod_int Tryz.underlying35 h;have a:0<=n/\n<=4294967295:=by simpa [Lit.wf,IntKind.min,IntKind.max,IntKind.signed,IntKind.bits] using a
 exact⟨n.toNat,by rw[Int.toNat_of_nonneg a.1],by omega⟩
theorem open_obj {fuel:Nat} {cs:List Value} {x:DataW H×List MemPlace} (h:DataW.trod enc prog W 0 sp held fuel 37 cs=some x):∃(o:jm) (a:x9),cs=km o a/\ArgO W (o,a):=by
 obtain⟨xs,k,rfl,_,d,f,b⟩:=DataW.trod_struct Tryz.underlying37 h;have p:prog.cellsOf 37=73:=by kernel_rfl
 have k3:prog.cellsOf 3=1:=by kernel_rfl
 have k9:prog.cellsOf 9=1:=by kernel_rfl
 have q:prog.cellsOf 28=1:=by kernel_rfl
 have s:prog.cellsOf 31=1:=by kernel_rfl
 have g:prog.cellsOf 30=32:=by kernel_rfl
 have t:prog.cellsOf 34=1:=by kernel_rfl
 have u:prog.cellsOf 32=1:=by kernel_rfl
 have v:prog.cellsOf 35=1:=by kernel_rfl
 have f:xs.length=11:=f;have N:DataW.trod enc prog W 0 sp held k 3 ((cs.drop 0).take (prog.cellsOf 3))=_:=b 0 _ Z;have O:DataW.trod enc prog W 0 sp held k 9 ((cs.drop 1).take (prog.cellsOf 9))=_:=b 1 _ Z;have P:DataW.trod enc prog W 0 sp held k 28 ((cs.drop 2).take (prog.cellsOf 28))=_:=b 2 _ Z;have Q:DataW.trod enc prog W 0 sp held k 3 ((cs.drop 3).take (prog.cellsOf 3))=_:=b 3 _ Z;have R:DataW.trod enc prog W 0 sp held k 30 ((cs.drop 4).take (prog.cellsOf 30))=_:=b 4 _ Z;have S:DataW.trod enc prog W 0 sp held k 30 ((cs.drop 36).take (prog.cellsOf 30))=_:=b 5 _ Z;have T:DataW.trod enc prog W 0 sp held k 31 ((cs.drop 68).take (prog.cellsOf 31))=_:=b 6 _ Z;have U:DataW.trod enc prog W 0 sp held k 34 ((cs.drop 69).take (prog.cellsOf 34))=_:=b 7 _ Z;have V:DataW.trod enc prog W 0 sp held k 35 ((cs.drop 70).take (prog.cellsOf 35))=_:=b 8 _ Z;have X:DataW.trod enc prog W 0 sp held k 35 ((cs.drop 71).take (prog.cellsOf 35))=_:=b 9 _ Z;have i:DataW.trod enc prog W 0 sp held k 9 ((cs.drop 72).take (prog.cellsOf 9))=_:=b 10 _ Z;rw[k3,aG zk] at N Q;rw[k9,aG zk] at O i;rw[q,aG zk] at P;rw[g,aG zk] at R S;rw[s,aG zk] at T;rw[t,aG zk] at U;rw[v,aG zk] at V X;obtain⟨j,e0,_,_⟩:=DataW.trod_int Tryz.underlying3 N;obtain⟨tx,e1,_⟩:=yz3 O;obtain⟨lp,ll,lc,e2,w,_,y,z,_⟩:=open_list (cells:=jn.cells) (ok:=λr=>r.path.length<=maxLen/\r.id.length=32) Tryz.underlying28 (by kernel_rfl:prog.cellsOf 148=33) zd (λh=>open_leaf h) P;obtain⟨st,e3,_,_⟩:=DataW.trod_int Tryz.underlying3 Q;obtain⟨l,e4,ht⟩:=open_id R;obtain⟨m,e5,hb⟩:=open_id S;obtain⟨pp,pl,pc,e6,A,_,B,C,_⟩:=open_list (cells:=gh) (ok:=λr=>r.length=32) Tryz.underlying31 g zd (λh=>open_id h) T;obtain⟨D,k2,_,_,E,c,F⟩:=DataW.trod_struct Tryz.underlying34 U;have c:D.length=1:=c;have n:DataW.trod enc prog W 0 sp held k2 32 (((((cs.drop 69).take 1)).drop 0).take (prog.cellsOf 32))=_:=F 0 _ Z;rw[u,aG zk] at n;obtain⟨Y,I,rc,G,J,_,K,L,_⟩:=open_list (cells:=vb.cells) (ok:=λr=>r.path.length<=maxLen/\r.text.length<=maxLen) Tryz.underlying32 (by kernel_rfl:prog.cellsOf 150=3) zd (λh=>open_chg h) n;have G:(cs.drop 69).take 1=[.slice Y I.length rc]:=by rw[<-G,List.drop_zero,List.take_take];rfl
 obtain⟨nu,e8,h8⟩:=open_u32 V;obtain⟨au,e9,h9⟩:=open_u32 X;obtain⟨no,M,_⟩:=yz3 i;rw[p] at d;refine⟨⟨j,tx,ll,st,l,m,pl,I,nu,au,no⟩,⟨lp,lc,pp,pc,Y,rc⟩,?_,⟨⟨ht,hb,C,z,L,h8,h9⟩,⟨y,B,K⟩,⟨w,A,J⟩⟩⟩;have e:cs=cs.drop 0:=rfl
 rw[e,uq cs 0 1,e0,uq cs (0+1) 1,e1,uq cs (0+1+1) 1,e2,uq cs (0+1+1+1) 1,e3,uq cs (0+1+1+1+1) 32,e4,uq cs (0+1+1+1+1+32) 32,e5,
  uq cs (0+1+1+1+1+32+32) 1,e6,uq cs (0+1+1+1+1+32+32+1) 1,G,uq cs (0+1+1+1+1+32+32+1+1) 1,e8,uq cs (0+1+1+1+1+32+32+1+1+1) 1,e9,
  uq cs (0+1+1+1+1+32+32+1+1+1+1) 1,M,aW zk,bE]
 rfl
theorem open_bytes {fuel:Nat} {cs:List Value} {x:DataW H×List MemPlace} (h:DataW.trod enc prog W 0 sp held fuel 41 cs=some x):∃(p:Option Addr) (l:Bytes) (c:Nat),cs=[.slice p l.length c]/\l.length<=c/\xy W p l:=by
 obtain⟨p,l,c,e,d,_,a,_,_⟩:=open_list (cells:=λb=>[yk b]) (ok:=λ_=>True) Tryz.underlying41 (by kernel_rfl:prog.cellsOf 5=1) zd (λh=>by obtain⟨b,f⟩:=open_byte h;exact⟨b,f,trivial⟩) h;have g:l.flatMap (λb=>[yk b])=gh l:=by rw[gh,List.map_eq_flatMap]
 rw[g] at a;exact⟨p,l,c,e,d,a⟩
theorem open_set {fuel:Nat} {cs:List Value} {x:DataW H×List MemPlace} (h:DataW.trod enc prog W 0 sp held fuel 91 cs=some x):∃s:Ce,cs=yc s/\ArgS W s:=by
 obtain⟨q,k,rfl,_,a,b,c⟩:=DataW.trod_struct Tryz.underlying91 h;have r:prog.cellsOf 91=5:=by kernel_rfl
 have t:prog.cellsOf 9=1:=by kernel_rfl
 have u:prog.cellsOf 4=1:=by kernel_rfl
 have d:prog.cellsOf 41=1:=by kernel_rfl
 have b:q.length=5:=b;have l:DataW.trod enc prog W 0 sp held k 9 ((cs.drop 0).take (prog.cellsOf 9))=_:=c 0 _ Z;have m:DataW.trod enc prog W 0 sp held k 4 ((cs.drop 1).take (prog.cellsOf 4))=_:=c 1 _ Z;have n:DataW.trod enc prog W 0 sp held k 4 ((cs.drop 2).take (prog.cellsOf 4))=_:=c 2 _ Z;have o:DataW.trod enc prog W 0 sp held k 41 ((cs.drop 3).take (prog.cellsOf 41))=_:=c 3 _ Z;have p:DataW.trod enc prog W 0 sp held k 41 ((cs.drop 4).take (prog.cellsOf 41))=_:=c 4 _ Z;rw[t,aG zk] at l;rw[u,aG zk] at m n;rw[d,aG zk] at o p;obtain⟨s,v,_⟩:=yz3 l;obtain⟨w,y,_⟩:=DataW.trod_bool Tryz.underlying4 m;obtain⟨z,A,_⟩:=DataW.trod_bool Tryz.underlying4 n;obtain⟨B,C,D,E,f,g⟩:=open_bytes o;obtain⟨F,G,J,K,i,j⟩:=open_bytes p;rw[r] at a;refine⟨(⟨s,w,z,C,G⟩,⟨B,D,F,J⟩),?_,⟨g,j,f,i⟩⟩;have e:cs=cs.drop 0:=rfl;rw[e,uq cs 0 1,v,uq cs (0+1) 1,y,uq cs (0+1+1) 1,A,uq cs (0+1+1+1) 1,E,uq cs (0+1+1+1+1) 1,K,aW zk,bE];rfl
theorem open_bat {fuel:Nat} {cs:List Value} {x:DataW H×List MemPlace} (h:DataW.trod enc prog W 0 sp held fuel 25 cs=some x):∃B:uz,cs=B.c/\BatArg W B:=by
 obtain⟨t,k,rfl,_,b,d,q⟩:=DataW.trod_struct Tryz.underlying25 h;have u:prog.cellsOf 25=2:=by kernel_rfl
 have f:prog.cellsOf 22=1:=by kernel_rfl
 have g:prog.cellsOf 23=1:=by kernel_rfl
 have d:t.length=2:=d;have r:DataW.trod enc prog W 0 sp held k 22 ((cs.drop 0).take (prog.cellsOf 22))=_:=q 0 _ Z;have s:DataW.trod enc prog W 0 sp held k 23 ((cs.drop 1).take (prog.cellsOf 23))=_:=q 1 _ Z;rw[f,aG zk] at r;rw[g,aG zk] at s;obtain⟨v,w,y,z,i,_,j,l,_⟩:=open_list (cells:=yu) (ok:=ArgO W) Tryz.underlying22 (by kernel_rfl:prog.cellsOf 37=73) zd (λh=>by obtain⟨o,a,e,h⟩:=open_obj h;exact⟨(o,a),e,h⟩) r;obtain⟨sp,A,C,D,m,_,n,p,_⟩:=open_list (cells:=yc) (ok:=ArgS W) Tryz.underlying23 (by kernel_rfl:prog.cellsOf 91=5) zd (λh=>open_set h) s;rw[u] at b;refine⟨⟨v,y,w,sp,C,A⟩,?_,⟨j,n,l,p,i,m⟩⟩;have e:cs=cs.drop 0:=rfl;rw[e,uq cs 0 1,z,uq cs (0+1) 1,D,aW zk,bE];rfl
end
theorem yj6 {α:Type} {l m:List α} {i:Nat} (hi:i<l.length) (hm:i<m.length):l.take (i+1)=m.take (i+1)↔l.take i=m.take i/\l[i]=m[i]:=by
 rw[aO hi,aO hm];constructor;intro h;have:=List.append_inj' h Z;exact⟨this.1,by simpa using this.2⟩
 rintro⟨a,b⟩;rw[a,b]
theorem same01_calls (w:World) {p q:Option Addr} {c d:Nat} {l m:Bytes} (h:xy w p l) (h':xy w q m) (hl:l.length<1000000000):
  gn prog 93 [.slice p l.length c,.slice q m.length d] w λv w'=>v= .bool (decide (l=m))/\Ext No w w':=by
 refine gz func93 ?_;have f:=Ext.refl No w;refine kw Z (vo Z (kw Z (j8 (jl (α:=Bool×Nat) [0,1] Z (λz=>[(5,.bool z.1),(6,.int .i64 (z.2:Int))]) (λz u=>(z.2<=l.length/\z.1=decide (l.length=m.length/\l.take z.2=m.take z.2))/\Ext No w u) (λz u=>l.length-z.2) (decide ((l.length:Int)=(m.length:Int)),0) Z ⟨⟨aJ _,by dsimp only;rw[aP];exact⟨λe=>⟨by omega,Z⟩,λe=>by have:=e.1;omega⟩⟩,f⟩ ?_))));rintro⟨K,i⟩ O ⟨⟨y,a⟩,f⟩;try dsimp only
 dsimp only at y a;refine gp (ju (α:=Bool) [0,1,5,6] Z (λz=>[(18,.bool z)]) (λz u=>(z=decide (K=true/\i<l.length))/\Ext No w u) ?_ ?_);refine j1 (j6 ge Z (ut 13 Z (λA=>?_) (λA=>?_)));exact j4 ge 5 Z (gl (j2 (_) Z ⟨(by rw[aP];exact⟨λe=>⟨A,by omega⟩,λe=>by have:=e.2;omega⟩),f⟩));exact j4 ge 5 Z (gl (j2 (false) Z ⟨(by symm;rw[aE];exact λe=>(by rw[A] at e;cases e.1)),f⟩));rintro z P ⟨rfl,f⟩;refine jy Z (λx=>?_) (λx=>?_);obtain⟨B,j⟩:=x;rw[B] at a;have C:=cQ a.symm;have n:i<m.length:=by have:=C.1;omega
 have o:=yj6 j n;obtain⟨b,r,rfl,D⟩:=Sl.mapAt h zk;obtain⟨M,g,rfl,E⟩:=Sl.mapAt h' zk;have F:∀u,Ext No w u->u.cell? ⟨b,r+i,none⟩=some (yk l[i]):=λu G=>(D.ga G) i _ (by rw[bS,aG j];rfl);have H:∀u,Ext No w u->u.cell? ⟨M,g+i,none⟩=some (yk m[i]):=λu G=>(E.ga G) i _ (by rw[bS,aG n];rfl);refine Bn (ke Z 10 [qP 0,qP 1,qP 2,qP 3,qP 4,qP 5,qP 6,qP 7,qP 8,qP 9] [] (No) zf λQ J N=> have s:=f;have f:=f.gb J;gw ge 2 Z (u0 ge Z Z 1 Z i Z zk (r+i) (by rw[bF]) (j5 ge Z Z (λw' k=>(F w' (s.gb k))) (gw ge 2 Z (u0 ge Z Z 1 Z i Z zk (g+i) (by rw[bF]) (j5 ge Z Z (λw' k=>(H w' (s.gb k))) (gw ge 2 Z (js (ja (Bi Z ?_))))))))));rw[qc _ zk];exact gl (jh (decide (((l[i]).toNat:Int)=((m[i]).toNat:Int)),i+1) Z ⟨⟨j,by dsimp only;rw[aP];exact⟨λe=>⟨C.1,o.2 ⟨C.2,UInt8.toNat_inj.1 zk⟩⟩,λe=>by rw[(o.1 e.2).2]⟩⟩,f⟩ zm);have t:K=decide (l=m):=by rw[a,aP];rw[a,bD] at x;constructor;intro e;have R:¬i<l.length:=λh=>x ⟨e,h⟩;have L:=e.2;rw[aN zk,aN (by have:=e.1;omega)] at L;exact L;intro e;exact⟨by rw[e],by rw[e]⟩
 exact Bh (kw Z (gv (gy Z Z ⟨by rw[t],f⟩)))
structure Cu where
  rp : Option Addr
  rc : Nat
  hs : List je
  vp : Option Addr
  vc : Nat
  vs : List Bm
def Cu.c (s : Cu) : List Value := [.slice s.rp s.hs.length s.rc, .slice s.vp s.vs.length s.vc]
abbrev Cu.v (s : Cu) : Value := .agg s.c.toArray
instance (s : Cu) : OneC s.c := by unfold Cu.c; infer_instance
def Cu.s (s : Cu) : Ax := ⟨s.hs.map je.o, s.vs.map Prod.fst⟩
structure HeldR (u : World) (x : je) : Prop where
  id : x.id = vv x.o
  ok : D7 x.o
  l : Ch u x.o x.a
theorem HeldR.len {u : World} {x : je} (h : HeldR u x) : (uv x).length = 105 := By (by rw [h.id]; exact ul _) h.ok.1
structure ValR (u : World) (x : Bm) : Prop where
  s : xy u x.2.1 x.1.2
  ln : x.1.1.length < 1000000000
  lo : x.1.2.length < 1000000000
structure StoAt (u : World) (s : Cu) : Prop where
  row : Sl u s.rp s.hs.length 105 (s.hs.flatMap uv)
  vals : Sl u s.vp s.vs.length 2 (s.vs.flatMap xb)
  o : ∀ x ∈ s.hs, HeldR u x
  v : ∀ x ∈ s.vs, ValR u x
  few : s.hs.length < 1000000
  fev : s.vs.length < 1000000
def atI (l : List B7) (x : B7) : Int := if x ∈ l then (l.idxOf x : Int) else -1
theorem idx_at {l:List B7} {i:Nat} (hi:i<l.length) (h:∀k (hk:k<l.length),k<i->l[k]≠l[i]):l.idxOf l[i]=i:=by
 induction l generalizing i with
 |nil=>cases hi
 |cons a r ih=>
  cases i with
  |zero=>exact List.idxOf_cons_self
  |succ i=>
   have b:a≠r[i]'(by simpa using hi):=h 0 zq zk;show List.idxOf (r[i]'(by simpa using hi)) (a::r)=i+1;rw[List.idxOf_cons,show(a==r[i]'(by simpa using hi))=false from by simpa using b];exact congrArg (·+1) (ih (by simpa using hi) λk hk c=>h (k+1) (by simpa using hk) zk)
theorem atI_at {l:List B7} {i:Nat} {x:B7} (hi:i<l.length) (h:∀k (hk:k<l.length),k<i->l[k]≠x) (e:l[i]=x):atI l x=(i:Int):=by
 subst e;unfold atI;rw[aL (aC hi),idx_at hi h]
theorem at10_calls (w:World) {p:Option Addr} {c:Nat} {hs:List je} (h:Sl w p hs.length 105 (hs.flatMap uv)) (hl:∀x∈hs,vd x.id/\(uv x).length=105) (few:hs.length<1000000) {id:B7} (hid:vd id):
  gn prog 123 [.slice p hs.length c,idV id] w λv w'=>v= .int .i64 (atI (hs.map je.id) id)/\Ext No w w':=by
 refine gz func123 ?_;have f:=Ext.refl No w;refine qr (gt Z λC D E a r=>?_);have f:=f.gb r;have a:j0 D C 30 (gh id):=a;refine kg Z (gp (kw Z (j8 (jl (α:=Nat) [0,3] Z (λz=>[(5,.int .i64 (z:Int))]) (λz u=>(z<=hs.length/\∀k (j:k<(hs.map je.id).length),k<z->(hs.map je.id)[k]≠id)/\j0 u C 30 (gh id)/\Ext No w u) (λz u=>hs.length-z) (0) Z ⟨⟨aJ _,λ_ _ h=>absurd h (cE _)⟩,a,f⟩ ?_))));rintro i L ⟨⟨M,l⟩,a,f⟩;refine gp (kw Z (jy Z (λg=>?_) (λg=>?_)));have b:i<hs.length:=by omega
 have s:i<(hs.map je.id).length:=by rw[aA];exact b
 have n:(hs.map je.id)[i]=hs[i].id:=bQ ..;obtain⟨N,F,G,t⟩:=h.qm (λx H=>(hl x H).2) zk;subst G;have d:=(hl _ (aC b)).1;refine Bn (gp (ke Z 7 [qP 0,qP 1,qP 2,qP 3,qP 4,qP 5,qP 6] [] (No) zf λO o J=> have y:=a;have A:=f;have a:=a.ga o;have f:=f.gb o;gw ge 2 Z (u0 ge Z Z 105 Z i Z b (F+i*105) Z (gw ge 1 Z (qu ge Z Z (λw' m=>(Seg.append.1 ((t i b).ga (A.gb m))).1) d.len (qu ge Z Z (λw' m=>(y.ga m).ql) hid.len (yx2 Z Z gId 10 zd kId (x8 d) (x8 hid) (yn d) (yn hid) vy (js (ja (jq (jy Z (λg=>?_) (λg=>?_))))))))))));have g:hs[i].id=id:=g;exact kw Z (gv (jt (gu (gu (jt (gu (gy Z Z ⟨by rw[atI_at s (λk j q=>l k j q) (n.trans g)],f⟩)))))));have g:¬hs[i].id=id:=g;refine qf (Bi Z ?_);rw[qc _ zk];exact gl (jh (i+1) Z ⟨⟨b,λk j q=>(bC k i).elim (l k j) λP=>by obtain rfl:k=i:=zk;rw[n];exact g⟩,a,f⟩ zm);have B:id∉hs.map je.id:=λK=>by obtain⟨k,j,e⟩:=bG.1 K;exact l k j (by rw[aA] at j;omega) e
 exact Bh (kw Z (gv (gy Z Z ⟨by unfold atI;rw[aI B],f⟩)))
theorem yv0 (w:World) {a b:Cu} (ha:StoAt w a) (hb:StoAt w b):
  gn prog 48 [a.v,b.v] w λv w'=>v= .bool (decide ((a.hs.map je.o)=(b.hs.map je.o)/\(a.vs.map Prod.fst)=(b.vs.map Prod.fst)))/\Ext No w w':=by
 have au:=ha.few;have av:=hb.fev;refine gz func48 (have k:=Ext.refl No w;qr (gt Z λN w1 aw d ah=> have k:=k.gb ah;have d:j0 w1 N 102 (a.c):=d;gt Z λO w2 ax f ab=> have d:=d.ga ab;have k:=k.gb ab;have f:j0 w2 O 102 (b.c):=f;kg Z (ju (α:=Bool) [2,3] Z (λz=>[(5,.bool z)]) (λz u=>(z=decide ((a.hs.length=b.hs.length/\a.vs.length=b.vs.length)/\(a.hs.map je.o).take 0=(b.hs.map je.o).take 0))/\j0 u N 102 (a.c)/\j0 u O 102 (b.c)/\Ext No w u) ?_ ?_)));refine j1 (j6 ge Z (gx Z (d.cell Z) (j6 ge Z (gx Z (f.cell Z) (j6 ge Z (jw 15 Z (λA=>?_) (λA=>?_)))))));have G:a.hs.length=b.hs.length:=by omega
 exact j4 ge 1 Z (gx Z (d.cell Z) (j4 ge 2 Z (gx Z (f.cell Z) (j4 ge 4 Z (gl (j2 (_) Z ⟨by rw[aP];exact⟨λe=>⟨⟨G,by omega⟩,Z⟩,λe=>by have:=e.1.2;omega⟩,d,f,k⟩))))));have G:¬a.hs.length=b.hs.length:=by omega
 exact j4 ge 9 Z (gl (j2 (false) Z ⟨by symm;rw[aE];exact λe=>G e.1.1,d,f,k⟩));rintro z w3 ⟨rfl,d,f,k⟩;refine gp (kw Z (j8 (jl (α:=Bool×Nat) [2,3] Z (λz=>[(5,.bool z.1),(6,.int .i64 (z.2:Int))]) (λz u=>(z.2<=a.hs.length/\z.1=decide ((a.hs.length=b.hs.length/\a.vs.length=b.vs.length)/\(a.hs.map je.o).take z.2=(b.hs.map je.o).take z.2))/\j0 u N 102 (a.c)/\j0 u O 102 (b.c)/\Ext No w u) (λz u=>a.hs.length-z.2) (decide ((a.hs.length=b.hs.length/\a.vs.length=b.vs.length)/\(a.hs.map je.o).take 0=(b.hs.map je.o).take 0),0) Z ⟨⟨aJ _,Z⟩,d,f,k⟩ ?_)));rintro⟨sm,i⟩ w4 ⟨⟨ai,K⟩,d,f,k⟩;try dsimp only
 dsimp only at ai K;refine gp (ju (α:=Bool) [2,3,5,6] Z (λz=>[(31,.bool z)]) (λz u=>(z=decide (sm=true/\i<a.hs.length))/\j0 u N 102 (a.c)/\j0 u O 102 (b.c)/\Ext No w u) ?_ ?_);refine j1 (j6 ge Z (ut 25 Z (λA=>?_) (λA=>?_)));exact j4 ge 2 Z (gx Z (d.cell Z) (j4 ge 3 Z (gl (j2 (_) Z ⟨by rw[aP];exact⟨λe=>⟨A,by omega⟩,λe=>by have:=e.2;omega⟩,d,f,k⟩))));exact j4 ge 6 Z (gl (j2 (false) Z ⟨(by symm;rw[aE];exact λe=>(by rw[A] at e;cases e.1)),d,f,k⟩));rintro z w5 ⟨rfl,d,f,k⟩;refine jy Z (λP=>?_) (λP=>?_);obtain⟨V,B⟩:=P;rw[V] at K;have T:=cQ K.symm;have H:i<b.hs.length:=by have:=T.1.1;omega
 have aj:i<(a.hs.map je.o).length:=by rw[aA];exact B
 have ak:i<(b.hs.map je.o).length:=by rw[aA];exact H
 have W:(a.hs.map je.o)[i]=a.hs[i].o:=bQ ..;have X:(b.hs.map je.o)[i]=b.hs[i].o:=bQ ..;have C:=yj6 aj ak;rw[W,X] at C;have m:=ha.o _ (aC B);have D:=hb.o _ (aC H);have Q:vd a.hs[i].id:=by rw[m.id];exact ul _
 have R:vd b.hs[i].id:=by rw[D.id];exact ul _
 obtain⟨q2,Y,I,p⟩:=ha.row.qm (λx hx=>(ha.o x hx).len) zk;obtain⟨q3,o3,aa,q⟩:=hb.row.qm (λx hx=>(hb.o x hx).len) zk;have r:j0 w5 N 102 [.slice (some ⟨q2,Y,none⟩) a.hs.length a.rc,.slice a.vp a.vs.length a.vc]:=by have e:=d;rw[Cu.c,I] at e;exact e
 have t:j0 w5 O 102 [.slice (some ⟨q3,o3,none⟩) b.hs.length b.rc,.slice b.vp b.vs.length b.vc]:=by have e:=f;rw[Cu.c,aa] at e;exact e
 refine xg (ju (α:=Bool) [2,3,6] Z (λz=>[(5,.bool z)]) (λz u=>(z=decide (a.hs[i].o=b.hs[i].o))/\j0 u N 102 (a.c)/\j0 u O 102 (b.c)/\Ext No w u) ?_ ?_);refine j8 (ke Z 29 [qP 0,qP 1,qP 2,qP 3,qP 4,qP 5,qP 6,qP 7,qP 8,qP 9,qP 10,qP 11,qP 12,qP 13,qP 14,qP 15,qP 16,qP 17,qP 18,qP 19,qP 20,qP 21,qP 22,qP 23,qP 24,qP 25,(26,false),qP 27,qP 28] [] (No) zf λw6 S ay=> have n:=k;have d:=d.ga S;have f:=f.ga S;have k:=k.gb S;have hC:Ext (No) _ w6:=S.no;gw ge 1 Z (j5 ge Z Z (λw' g=>((r.ga g).cell Z)) (gw ge 1 Z (u0 ge Z Z 105 Z i Z B (Y+i*105) Z (gw ge 1 Z (qu ge Z Z (λw' g=>(Seg.append.1 ((p i B).ga (n.gb g))).1) Q.len (gw ge 1 Z (j5 ge Z Z (λw' g=>((t.ga g).cell Z)) (gw ge 1 Z (u0 ge Z Z 105 Z i Z H (o3+i*105) Z (gw ge 1 Z (qu ge Z Z (λw' g=>(Seg.append.1 ((q i H).ga (n.gb g))).1) R.len (yx2 Z Z gId 10 zd kId (x8 Q) (x8 R) (yn Q) (yn R) vy (gw ge 1 Z (Ao 47 Z (λA=>?_) (λA=>?_))))))))))))))));refine gw ge 1 Z (j5 ge Z Z (λw' g=>((r.ga g).cell Z)) (gw ge 1 Z (u0 ge Z Z 105 Z i Z B (Y+i*105) Z (gw ge 1 Z (qu ge Z Z (λw' g=>(by have e:=(Seg.append.1 ((p i B).ga (n.gb g))).2;rw[gm,Q] at e;exact e)) (gr m.ok.1) (gw ge 1 Z (j5 ge Z Z (λw' g=>((t.ga g).cell Z)) (gw ge 1 Z (u0 ge Z Z 105 Z i Z H (o3+i*105) Z (gw ge 1 Z (qu ge Z Z (λw' g=>(by have e:=(Seg.append.1 ((q i H).ga (n.gb g))).2;rw[gm,R] at e;exact e)) (gr D.ok.1) (jv Z (j7 call17 Z (xz8 w6 m.ok.1 D.ok.1 (m.l.ga k) (D.l.ga k) m.ok.2) λv7 w7 ac=>⟨(by obtain⟨rfl,L⟩:=ac;exact hC.gb L),?_⟩)))))))))))));obtain⟨rfl,L⟩:=ac;have d:=d.ga L;have f:=f.ga L;have k:=k.gb L;exact gw ge 2 Z (js (ja (jr (j2 (_) Z ⟨Z,d,f,k⟩))));have am:a.hs[i].o≠b.hs[i].o:=λe=>A (show a.hs[i].id=b.hs[i].id by rw[m.id,D.id,e]);exact gw ge 15 Z (js (ja (jr (j2 (false) Z ⟨(decide_eq_false am).symm,d,f,k⟩))));rintro z w8 ⟨rfl,d,f,k⟩;refine yy Z ?_;rw[qc _ zk];exact gl (jh (decide (a.hs[i].o=b.hs[i].o),i+1) Z ⟨⟨B,by dsimp only;rw[aP];exact⟨λe=>⟨T.1,C.2 ⟨T.2,e⟩⟩,λe=>(C.1 e.2).2⟩⟩,d,f,k⟩ zm)
 have ad:sm=decide ((a.hs.length=b.hs.length/\a.vs.length=b.vs.length)/\(a.hs.map je.o)=(b.hs.map je.o)):=by
  rw[K,aP];rw[K,bD] at P;rw[and_assoc];constructor;intro e;have h0:¬i<a.hs.length:=λh=>P ⟨⟨⟨e.1,e.2.1⟩,e.2.2⟩,h⟩;have G:=e.2.2;rw[aN (by rw[aA];omega),aN (by rw[aA];have:=e.1;omega)] at G;exact⟨⟨e.1,e.2.1⟩,G⟩
  intro e;exact⟨e.1.1,e.1.2,by rw[e.2]⟩
 refine Bh (gp (kw Z (j8 (jl (α:=Bool×Nat) [2,3] Z (λz=>[(5,.bool z.1),(7,.int .i64 (z.2:Int))]) (λz u=>(z.2<=a.vs.length/\z.1=decide ((a.hs.length=b.hs.length/\a.vs.length=b.vs.length)/\(a.hs.map je.o)=(b.hs.map je.o)/\(a.vs.map Prod.fst).take z.2=(b.vs.map Prod.fst).take z.2))/\j0 u N 102 (a.c)/\j0 u O 102 (b.c)/\Ext No w u) (λz u=>a.vs.length-z.2) (sm,0) Z ⟨⟨aJ _,by dsimp only;rw[ad,aP];exact⟨λe=>⟨e.1,e.2,Z⟩,λe=>⟨e.1,e.2.1⟩⟩⟩,d,f,k⟩ ?_))));rintro⟨sn,j⟩ w9 ⟨⟨an,M⟩,d,f,k⟩;try dsimp only
 dsimp only at an M;refine gp (ju (α:=Bool) [2,3,5,7] Z (λz=>[(69,.bool z)]) (λz u=>(z=decide (sn=true/\j<a.vs.length))/\j0 u N 102 (a.c)/\j0 u O 102 (b.c)/\Ext No w u) ?_ ?_);refine j1 (j6 ge Z (ut 63 Z (λA=>?_) (λA=>?_)));exact j4 ge 2 Z (gx Z (d.cell Z) (j4 ge 3 Z (gl (j2 (_) Z ⟨by rw[aP];exact⟨λe=>⟨A,by omega⟩,λe=>by have:=e.2;omega⟩,d,f,k⟩))));exact j4 ge 6 Z (gl (j2 (false) Z ⟨(by symm;rw[aE];exact λe=>(by rw[A] at e;cases e.1)),d,f,k⟩));rintro z ae ⟨rfl,d,f,k⟩;refine jy Z (λP=>?_) (λP=>?_);obtain⟨V,E⟩:=P;rw[V] at M;have T:=cQ M.symm;have J:j<b.vs.length:=by have:=T.1.2;omega
 have ap:j<(a.vs.map Prod.fst).length:=by rw[aA];exact E
 have aq:j<(b.vs.map Prod.fst).length:=by rw[aA];exact J
 have W:(a.vs.map Prod.fst)[j]=a.vs[j].1:=bQ ..;have X:(b.vs.map Prod.fst)[j]=b.vs[j].1:=bQ ..;have C:=yj6 ap aq;rw[W,X] at C;have m:=ha.v _ (aC E);have D:=hb.v _ (aC J);obtain⟨q2,Y,I,p⟩:=ha.vals.qm (λx _=>Al x) zk;obtain⟨q3,o3,aa,q⟩:=hb.vals.qm (λx _=>Al x) zk;have r:j0 ae N 102 [.slice a.rp a.hs.length a.rc,.slice (some ⟨q2,Y,none⟩) a.vs.length a.vc]:=by have e:=d;rw[Cu.c,I] at e;exact e
 have t:j0 ae O 102 [.slice b.rp b.hs.length b.rc,.slice (some ⟨q3,o3,none⟩) b.vs.length b.vc]:=by have e:=f;rw[Cu.c,aa] at e;exact e
 refine xg (ju (α:=Bool) [2,3,7] Z (λz=>[(5,.bool z)]) (λz u=>(z=decide (a.vs[j].1=b.vs[j].1))/\j0 u N 102 (a.c)/\j0 u O 102 (b.c)/\Ext No w u) ?_ ?_);refine j8 (ke Z 29 [qP 0,qP 1,qP 2,qP 3,qP 4,qP 5,qP 6,qP 7,qP 8,qP 9,qP 10,qP 11,qP 12,qP 13,qP 14,qP 15,qP 16,qP 17,qP 18,qP 19,qP 20,qP 21,qP 22,qP 23,qP 24,qP 25,(26,false),qP 27,qP 28] [] (No) zf λaf F ar=> have n:=k;have d:=d.ga F;have f:=f.ga F;have k:=k.gb F;have hC:Ext (No) _ af:=F.no;gw ge 1 Z (j5 ge Z Z (λw' g=>((r.ga g).cell Z)) (gw ge 1 Z (u0 ge Z Z 2 Z j Z E (Y+j*2) Z (gw ge 1 Z (j5 ge Z Z (λw' g=>((p j E).ga (n.gb g) 0 _ Z)) (gw ge 1 Z (j5 ge Z Z (λw' g=>((t.ga g).cell Z)) (gw ge 1 Z (u0 ge Z Z 2 Z j Z J (o3+j*2) Z (gw ge 1 Z (j5 ge Z Z (λw' g=>((q j J).ga (n.gb g) 0 _ Z)) (gw ge 2 Z (Ao 85 Z (λA=>?_) (λA=>?_)))))))))))))));have G:a.vs[j].1.1=b.vs[j].1.1:=Bo A;refine gw ge 1 Z (j5 ge Z Z (λw' g=>((r.ga g).cell Z)) (gw ge 1 Z (u0 ge Z Z 2 Z j Z E (Y+j*2) Z (gw ge 1 Z (j5 ge Z Z (λw' g=>((p j E).ga (n.gb g) 1 _ Z)) (gw ge 1 Z (j5 ge Z Z (λw' g=>((t.ga g).cell Z)) (gw ge 1 Z (u0 ge Z Z 2 Z j Z J (o3+j*2) Z (gw ge 1 Z (j5 ge Z Z (λw' g=>((q j J).ga (n.gb g) 1 _ Z)) (jv Z (j7 call93 Z (same01_calls af (m.s.ga k) (D.s.ga k) (by have:=m.lo;omega)) λaz a0 U=>⟨(by obtain⟨rfl,y⟩:=U;exact hC.gb y),?_⟩)))))))))))));obtain⟨rfl,y⟩:=U;have d:=d.ga y;have f:=f.ga y;have k:=k.gb y;exact gw ge 2 Z (js (ja (jr (j2 (_) Z ⟨(by rw[aP,Prod.ext_iff];exact⟨λe=>⟨G,e⟩,λe=>e.2⟩),d,f,k⟩))));have G:a.vs[j].1.1≠b.vs[j].1.1:=λe=>A (by rw[e]);exact gw ge 15 Z (js (ja (jr (j2 (false) Z ⟨(by symm;rw[aE];exact λe=>G (by rw[e])),d,f,k⟩))));rintro z a1 ⟨rfl,d,f,k⟩;refine yy Z ?_;rw[qc _ zk];exact gl (jh (decide (a.vs[j].1=b.vs[j].1),j+1) Z ⟨⟨E,by dsimp only;rw[aP];exact⟨λe=>⟨T.1,T.2.1,C.2 ⟨T.2.2,e⟩⟩,λe=>(C.1 e.2.2).2⟩⟩,d,f,k⟩ zm)
 have ag:sn=decide ((a.hs.map je.o)=(b.hs.map je.o)/\(a.vs.map Prod.fst)=(b.vs.map Prod.fst)):=by
  rw[M,aP];rw[M,bD] at P;constructor;intro e;have h0:¬j<a.vs.length:=λh=>P ⟨e,h⟩;have G:=e.2.2;rw[aN (by rw[aA];omega),aN (by rw[aA];have:=e.1.2;omega)] at G;exact⟨e.2.1,G⟩
  intro e;have l1:=congrArg List.length e.1;have l2:=congrArg List.length e.2;rw[aA,aA] at l1 l2;exact⟨⟨l1,l2⟩,e.1,by rw[e.2]⟩
 exact Bh (kw Z (gv (gy Z Z ⟨by rw[ag],k⟩)))
structure Cf where
  kind : Int
  num : Int
  B : uz
  lp : Option Addr
  lk : List Int
  lc : Nat
  kp : Option Addr
  keep : List Bool
  kc : Nat
def Cf.cells (o : Cf) : List Value := [.int .i64 o.kind, .int .i64 o.num] ++ (o.B.c ++ [.slice o.lp o.lk.length o.lc, .slice o.kp o.keep.length o.kc])
abbrev Cf.v (o : Cf) : Value := .agg o.cells.toArray
instance (o : Cf) : OneC o.cells := by unfold Cf.cells; infer_instance
structure Db (w : World) (o : Cf) : Prop where
  b : BatArg w o.B
  l : Sl w o.lp o.lk.length 1 (o.lk.map (Value.int .i64))
  lc : o.lk.length <= o.lc
  k : Sl w o.kp o.keep.length 1 (o.keep.map Value.bool)
  kc : o.keep.length <= o.kc
theorem Db.ga {w w' : World} {o : Cf} (h : Db w o) (hE : Ext No w w') : Db w' o := ⟨h.b.ga hE, h.l.ga hE, h.lc, h.k.ga hE, h.kc⟩
def whichS (o : Cf) : Nat := u64N o.kind % 8 - 3
def zw3 (o : Cf) : List Bool := o.keep.take 100
theorem jb.of {w:World} {q:Option Addr} {n c T sz:Nat} {xs:List Value} (h:Own w q n c T sz xs) {y off:Nat} (e:q=some ⟨y,off,none⟩):jb q y:=by
 rcases h with⟨a,_⟩|⟨b,l,a,_⟩;rw[a] at e;cases e;rw[a] at e;cases e;exact a
theorem bool_oneS (l : List Bool) : ∀ v ∈ l.map Value.bool, v.oneCell' = true := λv hv => by obtain ⟨b, _, rfl⟩ := aZ.1 hv; rfl
def A2 : List B7 -> List Bool -> List B7
  | x :: l, b :: k => (if b then [x] else []) ++ A2 l k
  | _, _ => []
theorem pick_step:∀(l:List B7) (k:List Bool) {i:Nat} (hi:i<l.length),A2 (l.take (i+1)) k=A2 (l.take i) k++if k[i]? =some true then [l[i]] else []
 |x::l,[],i,hi=>by
  rw[show∀m:List B7,A2 m []=[] from λm=>by cases m<;>rfl,show∀m:List B7,A2 m []=[] from λm=>by cases m<;>rfl]
  simp
 |x::l,b::k,0,_=>by
  rw[List.take_succ_cons,List.take_zero,List.take_zero]
  show(if b then [x] else [])++A2 [] k=A2 [] (b::k)++_
  rw[show A2 [] k=[] from by cases k<;>rfl,show A2 [] (b::k)=[] from Z]
  cases b<;>simp
 |x::l,b::k,i+1,hi=>by
  rw[List.take_succ_cons,List.take_succ_cons]
  show _++A2 _ k=(_++A2 _ k)++_
  rw[pick_step l k (by simpa using hi),aM]
  simp
theorem pick_len:∀(l:List B7) (k:List Bool),(A2 l k).length<=l.length
 | [],_=>aJ _
 |x::l,[]=>aJ _
 |x::l,b::k=>by
  have:=pick_len l k
  show(_++A2 l k).length<=_
  rw[ao,aQ]
  split
  ·rw[cU];omega
  rw[cL];omega
theorem pick_mem:∀(l:List B7) (k:List Bool),∀x∈A2 l k,x∈l
 | [],_,x,h=>by cases h
 |y::l,[],x,h=>by cases h
 |y::l,b::k,x,h=>by
  have h:x∈(if b then [y] else [])++A2 l k:=h
  rcases aS.1 h with h|h
  ·split at h
   ·rw[aF.1 h];exact dl ..
   cases h
  exact cM _ (pick_mem l k x h)
abbrev id17 : B7 := 1 :: 7 :: List.replicate 30 0
def Br (ids : List B7) (o : Cf) : List B7 := A2 ids o.keep ++ if o.num = 7 then [id17] else []
theorem roots_in {ids:List B7} (h:∀x∈ids,vd x) (o:Cf):∀x∈Br ids o,vd x:=λx a=>by
 rcases aS.1 a with a|a
 ·exact h x (pick_mem _ _ x a)
 split at a
 ·rw[aF.1 a];exact(by decide:(id17:B7).length=32)
 cases a
theorem roots_len (ids:List B7) (o:Cf):(Br ids o).length<=ids.length+1:=by
 have:=pick_len ids o.keep;unfold Br;rw[ao];split;rw[cU];omega;rw[cL];omega
theorem which10_calls (w:World) (o:Cf):
  gn prog 79 [o.v] w λv w'=>v= .int .i64 (whichS o:Int)/\Ext No w w':=by
 refine gz func79 (have b:=Ext.refl No w;qr (gt Z λd e f a c=> have b:=b.gb c;have a:j0 e d 76 (o.cells):=a;kg Z (qj Z (gx Z (a.cell Z) (j6 ge Z ?_)))));have g:=Nat.mod_lt (u64N o.kind) (by decide:0<8);rw[show IntKind.i64.wrap ((IntKind.u64.wrap o.kind).tmod 8)=((u64N o.kind%8:Nat):Int) from u64_mod o.kind 8 zd zd];refine j6 ge Z ?_;rw[qc _ zk];refine u3 (gv (gy Z Z (⟨?_,b⟩)));unfold whichS;split;rw[show u64N o.kind%8-3=0 from by omega];rfl;rw[show((u64N o.kind%8-3:Nat):Int)=((u64N o.kind%8:Nat):Int)-3 from by omega]
theorem some10_calls (w:World) {p:Option Addr} {n c:Nat} (hn:n<=c):
  gn prog 26 [.slice p n c] w λv w'=>v= .slice p (min n 18) c/\w'=w:=by
 refine gz func26 (kw Z (qj Z (wl (Ba ge Z 0 (min n 18) c 6 Z (.inr ⟨Z,Z⟩) (.inl (congrArg some (minI _ _))) (.inr ⟨Z,Z⟩) (aJ _) zk (aB _) ?_))));rw[qe,bB,bB];exact kg Z (gv (gy Z Z ⟨Z,Z⟩))
theorem cloneO_nil (w:World) {c:Nat}:
  gn prog 128 [.slice none 0 c] w λv w'=>∃q k,v= .slice q 0 k/\Own w' q 0 k 4 1 []/\(∀y,jb q y->w.heap.size<=y)/\Ext No w w':=by
 exact gz func128 (have a:=Ext.refl No w;vo Z (kw Z (Cd Z (kw Z (gv (gu (gy Z Z ⟨none,0,Z,Own.nil _ _ _,λy b=>(by cases b),a⟩)))))))
theorem cloneO_some (w:World) {a:Addr} {c:Nat} {l:List Bool} (h:Sl w (some a) l.length 1 (l.map Value.bool)) (hl:l.length<1000000000):
  gn prog 128 [.slice (some a) l.length c] w λv w'=>∃q k,v= .slice q l.length k/\Own w' q l.length k 4 1 (l.map Value.bool)/\(∀y,jb q y->w.heap.size<=y)/\Ext No w w':=by
 refine gz func128 ?_;have b:=Ext.refl No w;refine vo Z (kw Z (uc Z (xg (qr (wl (qw ge Z 1 Z Z Z zd zd trivial (l':=[]) Z λA B r f d s=>?_))))));have b:=b.gb d;refine j6 ge Z (wl (vt ge Z 1 1 Z Z Z zd (Own.blk (n:=0) (c:=0) f 1 Z (aB _) zd) (Src.slice (h.ga b) (bool_oneS _)) zn zt λp t u g i j=>?_));have b:=b.trans i λy C m=>by have:=own1 m;omega
 have o:∀x,jb p x->w.heap.size<=x:=λx z=>(j x z).elim (λm=>by have:=own1 m;omega) λh=>by have:=d.size;omega
 have e:Own u p (0+l.length) t 4 1 (l.map Value.bool):=g;rw[aV] at e;rw[aV];exact kg Z (gv (gy Z Z ⟨_,_,Z,e,o,b⟩))
theorem cloneO_calls (w:World) {p:Option Addr} {c:Nat} {l:List Bool} (h:Sl w p l.length 1 (l.map Value.bool)) (hl:l.length<1000000000):
  gn prog 128 [.slice p l.length c] w λv w'=>∃q k,v= .slice q l.length k/\Own w' q l.length k 4 1 (l.map Value.bool)/\(∀y,jb q y->w.heap.size<=y)/\Ext No w w':=by
 cases p with
 |none=>
  have d:l=[]:=by rcases h.2 with e|⟨b,f,g,_⟩;exact aU e;cases g
  subst d;exact cloneO_nil w
 |some a=>exact cloneO_some w h hl
theorem keepS_len (o : Cf) : (zw3 o).length = min o.keep.length 100 := by rw [zw3, aH, Nat.min_comm]
theorem zz5 (w:World) (o:Cf) (hs:Sl w o.kp o.keep.length 1 (o.keep.map Value.bool)) (hc:o.keep.length<=o.kc):
  gn prog 47 [o.v] w λv w'=>∃q c,v= .slice q (zw3 o).length c/\Sl w' q (zw3 o).length 1 ((zw3 o).map Value.bool)/\(∀y off,q=some ⟨y,off,none⟩->w.heap.size<=y)/\Ext No w w':=by
 refine gz func47 ?_;have f:=Ext.refl No w;have b:=keepS_len o;have d:Sl w o.kp (zw3 o).length 1 ((zw3 o).map Value.bool):=by have e:=Sl.slice hs 0 (min o.keep.length 100) o.keep.length (aJ _) zk zk;rw[qe,bB,bF,dA,List.drop_zero,<-List.map_take,<-b,show o.keep.take (zw3 o).length=zw3 o from by rw[b,Nat.min_comm,<-List.take_take,bM];rfl] at e;exact e
 refine qr (gt Z λn l p a g=> have d:=d.ga g;have f:=f.gb g;have a:j0 l n 76 (o.cells):=a;kg Z (qj Z (gx Z (a.cell Z) (j6 ge Z (gx Z (a.cell Z) (j6 ge Z (wl (Ba ge Z 0 (min o.keep.length 100) o.kc 1 Z (.inr ⟨Z,Z⟩) (.inl (congrArg some (minI _ _))) (.inr ⟨Z,Z⟩) (aJ _) zk (aB _) ?_))))))));rw[qe,bB,bB,<-b];have h:=f.size;refine gj call128 Z (cloneO_calls l d zk) ?_;rintro s t⟨q,k,rfl,m,r,j⟩;have f:=f.gb j;refine kg Z (gv (gy Z Z ?_));exact⟨q,k,Z,m.sl,λy off e=>al h (r y (jb.of m e)),f⟩
def bitK (o : Cf) (i : Nat) : Bool := decide (o.keep[i]? = some true)
theorem roots10_calls (w:World) {o:Cf} (ho:Db w o) {p:Option Addr} {c:Nat} {hs:List je} (h:Sl w p hs.length 105 (hs.flatMap uv)) (hl:∀x∈hs,vd x.id/\(uv x).length=105) (few:hs.length<1000000):
  gn prog 82 [o.v,.slice p hs.length c] w λv w'=>∃q k,v= .slice q (Br (hs.map je.id) o).length k/\ky w w' q (Br (hs.map je.id) o).length k 30 32 ((Br (hs.map je.id) o).flatMap gh)/\Ext No w w':=by
 refine gz func82 ?_;have b:=Ext.refl No w;refine qr (gt Z λL w1 ae a R=>?_);have b:=b.gb R;have a:j0 w1 L 76 (o.cells):=a;refine kg Z (gp (kw Z (j8 (jl (α:=Nat×Option Addr×Nat) [2,7,8] Z (λz=>[(4,.slice z.2.1 (A2 ((hs.map je.id).take z.1) o.keep).length z.2.2),(9,.int .i64 (z.1:Int))]) (λz u=>(z.1<=hs.length/\ky w u z.2.1 (A2 ((hs.map je.id).take z.1) o.keep).length z.2.2 30 32 ((A2 ((hs.map je.id).take z.1) o.keep).flatMap gh))/\j0 u L 76 (o.cells)/\Ext No w u) (λz u=>hs.length-z.1) (0,none,0) Z ⟨⟨aJ _,ky.nil _ _ _ _⟩,a,b⟩ ?_))));rintro⟨i,q,k⟩ w2 ⟨⟨hi,d⟩,a,b⟩;refine vo Z (jy Z (λt=>?_) (λt=>?_));have f:i<hs.length:=by omega
 have S:i<(hs.map je.id).length:=by rw[aA];exact f
 have T:(hs.map je.id)[i]=hs[i].id:=bQ ..;have g:=pick_step (hs.map je.id) o.keep S;rw[T] at g;have B:=pick_len ((hs.map je.id).take i) o.keep;rw[aH] at B;have l:=(hl _ (aC f)).1;obtain⟨qb,qo,hp,U⟩:=h.qm (λx hx=>(hl x hx).2) zk;subst hp;refine xg (ju (α:=Option Addr×Nat) [2,7,8,9] Z (λz=>[(4,.slice z.1 (A2 ((hs.map je.id).take (i+1)) o.keep).length z.2)]) (λz u=>(ky w u z.1 (A2 ((hs.map je.id).take (i+1)) o.keep).length z.2 30 32 ((A2 ((hs.map je.id).take (i+1)) o.keep).flatMap gh))/\j0 u L 76 (o.cells)/\Ext No w u) ?_ ?_);refine j8 (qj Z (ki Z 105 Z i Z f (qo+i*105) Z (jk Z ((U i f).ga b) (hl _ (aC f)).2 (have V:=d;gt Z λb6 w3 C j D=> have E:=j3 a.lt C;have W:=al b.size C;have a:=a.ga D;have d:=d.ga D;have b:=b.gb D;have X:∀y,jb q y->y≠b6:=λy Y=>j3 (V.own.lt Y) C;j6 ge Z (wl (j9 (l':=uv hs[i]) ge j Z Z (hl _ (aC f)).2 (by rw[(hl _ (aC f)).2];rfl) OneC.h λw4 j F af=> have a:=a.gk F E;have d:=ky.mk (d.own.ext F λy Y e=>X y Y e) d.new;have b:=b.gi F W;u3 (ju (α:=Bool) [2,4,6,7,8,9] Z (λz=>[(25,.bool z)]) (λz u=>(z=bitK o i/\ky w u q (A2 ((hs.map je.id).take i) o.keep).length k 30 32 ((A2 ((hs.map je.id).take i) o.keep).flatMap gh))/\j0 u L 76 (o.cells)/\j0 u b6 126 (uv hs[i])/\Ext No w u) ?_ ?_)))))));refine j1 (j6 ge Z (gx Z (a.cell Z) (j6 ge Z (jw 19 Z (λhg=>?_) (λhg=>?_)))));have n:i<o.keep.length:=by omega
 obtain⟨kb,ko,I,aa⟩:=(ho.k.ga b).2.resolve_left zk;have ab:o.cells[5]? =some (.slice (some ⟨kb,ko,none⟩) o.keep.length o.kc):=by rw[<-I];rfl
 refine j4 ge 1 Z (gx Z (a.cell ab) (j4 ge 1 Z (ki Z 1 Z i Z n (ko+i) (by rw[bF]) (gx Z (aa i _ (by rw[bS,aG n];rfl)) ?_))));exact j6 ge Z (gl (j2 (_) Z ⟨⟨by unfold bitK;rw[aG n];cases o.keep[i]<;>rfl,d⟩,a,j,b⟩));have n:o.keep.length<=i:=by omega
 exact j4 ge 6 Z (gl (j2 (false) Z ⟨⟨by unfold bitK;rw[bR n];rfl,d⟩,a,j,b⟩));rintro z w5 ⟨⟨rfl,d⟩,a,j,b⟩;refine vk Z (λt=>?_) (λt=>?_);have G:o.keep[i]? =some true:=cQ t;rw[aL G] at g;refine yy Z (jk Z (Seg.append.1 j.ql).1 l.len (wl (qw ge Z 32 Z Dd.symm zj zd zd ⟨⟨by rw[jc];exact l.len,by decide⟩,trivial⟩ (l':=gh hs[i].id) (xv2 l) λag w6 A M H ah=> have P:=j3 a.lt A;have Q:=j3 j.lt A;have a:=a.ga H;have d:=d.ga H;have b:=b.gb H;have J:=d.own;wl (x3 ge Z 32 32 Z Z Z zd d (Src.slice (m:=1) (one_idS l M) OneC.h) zn zt (n':=(A2 ((hs.map je.id).take (i+1)) o.keep).length) (ys:=(A2 ((hs.map je.id).take (i+1)) o.keep).flatMap gh) (by rw[g,ao];rfl) (by rw[g,aY,bL]) b λq4 k4 w7 d ac b=>?_))));have a:=a.qg J ac (show(30:Nat)≠76 from by decide);exact j6 ge Z (gl (jr (j2 (q4,k4) Z ⟨d,a,b⟩)));have G:¬o.keep[i]? =some true:=of_decide_eq_false t;rw[aI G,bE] at g;exact qf (jr (j2 (q,k) (by rw[g];rfl) ⟨(by rw[g];exact d),a,b⟩));rintro⟨q2,k2⟩ w8 ⟨d,a,b⟩;refine yy Z ?_;rw[qc _ zk];exact gl (jh (i+1,q2,k2) Z ⟨⟨f,d⟩,a,b⟩ zm);have h0:i=hs.length:=by omega
 subst h0;rw[show(hs.map je.id).take hs.length=hs.map je.id from aN (by rw[aA];exact aB _)] at d|-;have B:=pick_len (hs.map je.id) o.keep;rw[aA] at B;refine Bh (ju (α:=Option Addr×Nat) [] Z (λz=>[(4,.slice z.1 (Br (hs.map je.id) o).length z.2)]) (λz u=>(ky w u z.1 (Br (hs.map je.id) o).length z.2 30 32 ((Br (hs.map je.id) o).flatMap gh))/\j0 u L 76 (o.cells)/\Ext No w u) ?_ ?_);refine gp (yy Z (gx Z (a.cell Z) (kg Z (jy Z (λt=>?_) (λt=>?_)))));have s:Br (hs.map je.id) o=A2 (hs.map je.id) o.keep++[id17]:=by rw[Br,aL t]
 refine yy Z (u1 Z ⟨⟨Z,by decide⟩,⟨Z,by decide⟩,trivial⟩ (l':=gh id17) zf (wl (qw ge Z 32 Z Dd.symm zj zd zd ⟨⟨by rw[jc];exact(vd.len (r:=id17) Z),by decide⟩,trivial⟩ (l':=gh id17) (xv2 Z) λai w9 ad N K aj=> have a:=a.ga K;have d:=d.ga K;have b:=b.gb K;have J:=d.own;wl (x3 ge Z 32 32 Z Z Z zd d (Src.slice (m:=1) (one_idS (r:=id17) Z N) OneC.h) zn zt (n':=(Br (hs.map je.id) o).length) (ys:=(Br (hs.map je.id) o).flatMap gh) (by rw[s,ao];rfl) (by rw[s,aY,bL]) b λq4 k4 ak d O b=>?_))));have a:=a.qg J O (show(30:Nat)≠76 from by decide);exact j6 ge Z (gl (j2 (q4,k4) Z ⟨d,a,b⟩));have s:Br (hs.map je.id) o=A2 (hs.map je.id) o.keep:=by rw[Br,aI t,bE]
 exact qf (j2 (q,k) (by rw[s];rfl) ⟨(by rw[s];exact d),a,b⟩);rintro⟨q3,k3⟩ am ⟨d,a,b⟩;exact kw Z (gv (gy Z Z ⟨q3,k3,Z,d,b⟩))
section
variable {H : Type} {enc : TypeId × Value -> H} {W : World} {sp : Nat -> Bool} {held : Bool}
theorem open_num {fuel:Nat} {cs:List Value} {x:DataW H×List MemPlace} (h:DataW.trod enc prog W 0 sp held fuel 3 cs=some x):∃n:Int,cs=[.int .i64 n]:=by
 obtain⟨n,rfl,_,a⟩:=DataW.trod_int Tryz.underlying3 h;exact⟨n,Z⟩
theorem open_dee {fuel:Nat} {cs:List Value} {x:DataW H×List MemPlace} (h:DataW.trod enc prog W 0 sp held fuel 76 cs=some x):∃o:Cf,cs=o.cells/\Db W o:=by
 obtain⟨v,k,rfl,_,d,f,a⟩:=DataW.trod_struct Tryz.underlying76 h;have w:prog.cellsOf 76=6:=by kernel_rfl
 have y:prog.cellsOf 3=1:=by kernel_rfl
 have z:prog.cellsOf 25=2:=by kernel_rfl
 have A:prog.cellsOf 73=1:=by kernel_rfl
 have C:prog.cellsOf 74=1:=by kernel_rfl
 have f:v.length=5:=f;have i:DataW.trod enc prog W 0 sp held k 3 ((cs.drop 0).take (prog.cellsOf 3))=_:=a 0 _ Z;have j:DataW.trod enc prog W 0 sp held k 3 ((cs.drop 1).take (prog.cellsOf 3))=_:=a 1 _ Z;have m:DataW.trod enc prog W 0 sp held k 25 ((cs.drop 2).take (prog.cellsOf 25))=_:=a 2 _ Z;have n:DataW.trod enc prog W 0 sp held k 73 ((cs.drop 4).take (prog.cellsOf 73))=_:=a 3 _ Z;have q:DataW.trod enc prog W 0 sp held k 74 ((cs.drop 5).take (prog.cellsOf 74))=_:=a 4 _ Z;rw[y,aG zk] at i j;rw[z,aG zk] at m;rw[A,aG zk] at n;rw[C,aG zk] at q;rw[w] at d;obtain⟨D,E⟩:=open_num i;obtain⟨F,G⟩:=open_num j;obtain⟨B,J,K⟩:=open_bat m;obtain⟨p,l,c,L,M,_,u,_,_⟩:=open_list (cells:=λb=>[Value.int .i64 b]) (ok:=λ_=>True) Tryz.underlying73 (by kernel_rfl:prog.cellsOf 3=1) zd (λh=>by obtain⟨b,r⟩:=open_num h;exact⟨b,r,trivial⟩) n;obtain⟨N,s,O,P,t,_,g,_,_⟩:=open_list (cells:=λb=>[Value.bool b]) (ok:=λ_=>True) Tryz.underlying74 (by kernel_rfl:prog.cellsOf 4=1) zd (λh=>by obtain⟨b,r,_⟩:=DataW.trod_bool Tryz.underlying4 h;exact⟨b,r,trivial⟩) q;refine⟨⟨D,F,B,p,l,c,N,s,O⟩,?_,K,?_,M,?_,t⟩;clear i j m n q a;have e:cs=cs.drop 0:=rfl;rw[e,uq cs 0 1,E,uq cs (0+1) 1,G,uq cs (0+1+1) 2,J,uq cs (0+1+1+2) 1,L,uq cs (0+1+1+2+1) 1,P,aW zk,bE];rfl;have e:l.flatMap (λb=>[Value.int .i64 b])=l.map (Value.int .i64):=by rw[List.map_eq_flatMap]
 rw[e] at u;exact u;have e:s.flatMap (λb=>[Value.bool b])=s.map Value.bool:=by rw[List.map_eq_flatMap]
 rw[e] at g;exact g
theorem open_dees {fuel:Nat} {cs:List Value} {x:DataW H×List MemPlace} (h:DataW.trod enc prog W 0 sp held fuel 68 cs=some x):
  ∃(p:Option Addr) (l:List Cf) (c:Nat),cs=[.slice p l.length c]/\l.length<=c/\Sl W p l.length 6 (l.flatMap Cf.cells)/\(∀o∈l,Db W o):=by
 obtain⟨p,l,c,e,b,_,d,a,_⟩:=open_list (cells:=Cf.cells) (ok:=Db W) Tryz.underlying68 (by kernel_rfl:prog.cellsOf 76=6) zd (λh=>open_dee h) h;exact⟨p,l,c,e,b,d,a⟩
end
theorem flat_same {α β:Type} {f:α->List β} {l:List α} {i:Nat} (hi:i<l.length) {y:α} (h:f y=f l[i]):(l.set i y).flatMap f=l.flatMap f:=by
 rw[dD,dD,List.map_set,h,show f l[i]=(l.map f)[i]'(by rw[aA];exact hi) from(bQ ..).symm,List.set_getElem_self]
theorem ApL.set {l:List Cv} (h:ApL l) {i:Nat} (hi:i<l.length) {y:Cv} (hy:y.2=l[i].2):ApL (l.set i y):=by
 have e:(l.set i y).map Prod.snd=l.map Prod.snd:=by rw[List.map_set,hy,show l[i].2=(l.map Prod.snd)[i]'(by rw[aA];exact hi) from(bQ ..).symm,List.set_getElem_self]
 have a:(l.map Prod.snd).Pairwise λx y=>∀b,jb x.lp b->¬jb y.lp b:=List.pairwise_map.2 h;rw[<-e] at a;exact List.pairwise_map.1 a
theorem ApL.ne {l:List Cv} (h:ApL l) {i k:Nat} (hi:i<l.length) (hk:k<l.length) (hne:i≠k) {b:Nat} (h1:jb l[i].2.lp b) (h2:jb l[k].2.lp b):False:=by
 have h:=List.pairwise_iff_getElem.1 h;rcases bC i k with c|c;exact h i k hi hk c b h1 h2;exact h k i hk hi zk b h2 h1
theorem leaf_putS (r:jn) {t:B7} (hr:r.id.length=32) (ht:t.length=32):put r.cells 1 (gh t)=jn.cells ⟨r.path,t⟩:=by
 rw[put_eq _ _ _ (by rw[jn.len hr,gm,ht];decide),gm,ht,aW (by rw[jn.len hr];exact aB _),bE];rfl
theorem minII (n k : Nat) : (if (k : Int) < (n : Int) then (k : Int) else (n : Int)) = ((min n k : Nat) : Int) := minI n k
theorem vf.older {V W w:World} {B:uz} (h:vf W w B) (hV:V.heap.size<=W.heap.size):vf V w B:=⟨h.os.older hV,h.ss.older hV,λx a=>⟨(h.o x a).1,(h.o x a).2.older hV⟩,λx a=>(h.s x a).older hV,h.lo,h.ls⟩
abbrev linkL (o : jm) (r : jn) (t : B7) : jm := { o with leaves := [⟨r.path, t⟩] }
abbrev linkT (o : jm) (t : B7) : jm := { o with tree := t }
theorem vf.leaf {W u u':World} {op sp:Option Addr} {oc sc:Nat} {gs:List Cv} {ss:List Ce} (hN:vf W u ⟨op,oc,gs,sp,sc,ss⟩) (hap:ApL gs) {i:Nat} (hi:i<gs.length) {r:jn} (hr:gs[i].1.leaves=[r]) {t:B7} (ht:t.length=32)
  {lb:Nat} {L:List Value} (hlp:gs[i].2.lp=some ⟨lb,0,none⟩) (hb:j0 u lb 148 L) (hL:L.length=gs[i].2.lc*33) (hn:1<=gs[i].2.lc) (hm:gs[i].2.lc<=maxLen) (htk:L.take (1*33)=r.cells) (hb2:j0 u' lb 148 (put L 1 (gh t))) (hE:Ext (One lb) u u'):
  vf W u' ⟨op,oc,gs.set i (linkL gs[i].1 r t,gs[i].2),sp,sc,ss⟩:=by
 obtain⟨h,j,q,s,l,m⟩:=hN;have a:=q _ (aC hi);have f:r∈gs[i].1.leaves:=by rw[hr];exact aF.2 Z
 have g:=a.1.1.leaves r f
 have o:(gs.set i (linkL gs[i].1 r t,gs[i].2)).flatMap yu=gs.flatMap yu:=flat_same hi (by
  show km (linkL gs[i].1 r t) gs[i].2=km gs[i].1 gs[i].2
  unfold km
  rw[hr]
  rfl)
 refine⟨?_,j.gk hE hb zd,λx d=>?_,λx d=>(s x d).gk hE hb zd,by show(gs.set i _).length<_;rw[cK];exact l,m⟩;show ky W u' op (gs.set i _).length oc _ 73 ((gs.set i _).flatMap yu);rw[o,cK];exact h.gk hE hb zd;obtain⟨k,p,rfl⟩:=bG.1 d;rw[cK] at p;have b:=q _ (aC p);by_cases c:i=k;subst c;rw[List.getElem_set_self];refine⟨⟨⟨a.1.1.tree,a.1.1.base,a.1.1.parents,λx d=>?_,a.1.1.rows,a.1.1.number,a.1.1.author⟩,⟨?_,a.1.2.parents,a.1.2.rows,λx d=>?_,a.1.2.rowP⟩⟩,⟨?_,a.2.op.qa hE hb zd,a.2.or.qa hE hb zd,a.2.nl,a.2.np,a.2.nr⟩⟩;have d:x∈[(⟨r.path,t⟩:jn)]:=d;rw[aF.1 d];exact⟨g.1,ht⟩
 show 1<1000000000;decide;have d:x∈[(⟨r.path,t⟩:jn)]:=d;rw[aF.1 d];exact a.1.2.leafP r f;show Own u' gs[i].2.lp 1 gs[i].2.lc _ 33 ([(⟨r.path,t⟩:jn)].flatMap jn.cells);have e:=Own.putB (n:=1) (c:=gs[i].2.lc) (sz:=33) hL hn hm htk (k:=1) (vs:=gh t) (by rw[gm,ht];decide) hb2;rw[leaf_putS r g.2 ht] at e;rw[hlp,bL];exact e;rw[List.getElem_set_ne c];exact⟨b.1,b.2.ol.ext hE λy v e=>(by have e:y=lb:=e;subst e;exact hap.ne hi p c hlp v),b.2.op.qa hE hb zd,b.2.or.qa hE hb zd,b.2.nl,b.2.np,b.2.nr⟩
theorem vf.tree {W u u':World} {op sp:Option Addr} {oc sc:Nat} {gs:List Cv} {ss:List Ce} (hN:vf W u ⟨op,oc,gs,sp,sc,ss⟩) {i:Nat} (hi:i<gs.length) {t:B7} (ht:t.length=32)
  {qb:Nat} {L:List Value} (hp:op=some ⟨qb,0,none⟩) (hb:j0 u qb 37 L) (hL:L.length=oc*73) (hn:gs.length<=oc) (hm:oc<=maxLen) (htk:L.take (gs.length*73)=gs.flatMap yu) (hb2:j0 u' qb 37 (put L (i*73+4) (gh t))) (hE:Ext (One qb) u u'):
  vf W u' ⟨op,oc,gs.set i (linkT gs[i].1 t,gs[i].2),sp,sc,ss⟩:=by
 obtain⟨h,l,m,s,o,p⟩:=hN;have a:=m _ (aC hi);refine⟨?_,l.gk hE hb zd,λx d=>?_,λx d=>(s x d).gk hE hb zd,by show(gs.set i _).length<_;rw[cK];exact o,p⟩;show ky W u' op (gs.set i _).length oc _ 73 ((gs.set i _).flatMap yu);have f:∀x∈gs,(yu x).length=73:=λx d=>gr (m x d).1.1;have g:=zw1 (Uni.map f) (i:=i) (j:=4) (r:=yu gs[i]) (by rw[bS,aG hi];rfl) (gh t) (by rw[gm,ht];decide);rw[<-dD,show put (yu gs[i]) 4 (gh t)=yu (linkT gs[i].1 t,gs[i].2) from objC_tree a.1.1 ht,<-List.map_set,<-dD] at g;have e:=Own.putB (n:=gs.length) (c:=oc) (sz:=73) hL hn hm htk (k:=i*73+4) (vs:=gh t) (by rw[gm,ht];omega) hb2;rw[g] at e;rw[cK];exact⟨by rw[hp];exact e,h.new⟩
 obtain⟨k,q,rfl⟩:=bG.1 d;rw[cK] at q;have b:=m _ (aC q);by_cases c:i=k;subst c;rw[List.getElem_set_self];exact⟨⟨⟨ht,a.1.1.base,a.1.1.parents,a.1.1.leaves,a.1.1.rows,a.1.1.number,a.1.1.author⟩,⟨a.1.2.leaves,a.1.2.parents,a.1.2.rows,a.1.2.leafP,a.1.2.rowP⟩⟩,⟨a.2.ol.qa hE hb zd,a.2.op.qa hE hb zd,a.2.or.qa hE hb zd,a.2.nl,a.2.np,a.2.nr⟩⟩
 rw[List.getElem_set_ne c];exact⟨b.1,b.2.ol.qa hE hb zd,b.2.op.qa hE hb zd,b.2.or.qa hE hb zd,b.2.nl,b.2.np,b.2.nr⟩
theorem linked_calls (w:World) {o:Cf} (ho:Db w o) {p:Option Addr} {c:Nat} {hs:List je} (h:Sl w p hs.length 105 (hs.flatMap uv)) (hl:∀x∈hs,vd x.id/\(uv x).length=105) (few:hs.length<1000000):
  gn prog 42 [o.v,.slice p hs.length c] w λv w'=>∃B':uz,v=B'.v/\B'.os.length<=12/\vf w w' B'/\Ext No w w':=by
 refine gz func42 ?_;have k:=Ext.refl No w;refine qr (gt Z λb2 w1 bv a a6=>?_);have k:=k.gb a6;have a:j0 w1 b2 76 (o.cells):=a;refine gt Z λb4 w2 a7 f am=>?_;have a8:=al k.size a7;have a:=a.ga am;have k:=k.gb am;have f:j0 w2 b4 25 (B6.c):=f;refine u3 (qj Z (jk Z (Seg.append.1 (Seg.append.1 a.ql).2).1 Z ?_));have an:=k;refine gj call16 Z (lbatch_calls w2 (ho.b.ga k)) ?_;rintro v3 w3⟨B2,rfl,ba,⟨n,B⟩,ab⟩;have a:=a.ga ab;have f:=f.ga ab;have k:=k.gb ab;have n:=n.older an.size;have y:B2.os.length<=12:=by have e:=congrArg (λd:Ap=>d.objs.length) ba;dsimp only[uz.d,batS] at e;rw[aA,aA,aH] at e;omega
 obtain⟨P,K,os,Q,R,S⟩:=B2;dsimp only at y;refine gt Z λb5 w4 ac g T=> have ad:=j3 a.lt ac;have ae:=j3 f.lt ac;have bb:=al k.size ac;have a:=a.ga T;have f:=f.ga T;have n:=n.ga T;have k:=k.gb T;have ap:=g;wl (j9 (l':=[.slice P os.length K,.slice Q S.length R]) ge g Z Z Z Z OneC.h λw5 g U bw=> have a:=a.gk U ad;have f:=f.gk U ae;have n:=n.extB U ap;have k:=k.gi U bb;u3 (gp (qj Z (gx Z (g.cell Z) (j6 ge Z (gx Z (a.cell Z) (j6 ge Z ?_)))))));rw[minII];refine kg Z (j8 (jl (α:=Nat×List Cv) [1,2,4,5,18] Z (λz=>[(19,.int .i64 (z.1:Int))]) (λz u=>(z.1<=min os.length o.lk.length/\z.2.length=os.length/\vf w u ⟨P,K,z.2,Q,R,S⟩/\ApL z.2)/\j0 u b2 76 (o.cells)/\j0 u b4 25 (B6.c)/\j0 u b5 25 ([.slice P os.length K,.slice Q S.length R])/\Ext No w u) (λz u=>min os.length o.lk.length-z.1) (0,os) Z ⟨⟨aJ _,Z,n,B⟩,a,f,g,k⟩ ?_));rintro⟨i,s⟩ w6 ⟨⟨hi,G,n,B⟩,a,f,g,k⟩;try dsimp only
 dsimp only at hi G n B;refine vo Z (jy Z (λV=>?_) (λV=>?_));have bc:i<os.length:=by omega
 have aq:i<o.lk.length:=by omega
 have H:i<s.length:=by omega
 obtain⟨qb,L,hp,q,af,ag,ar,au⟩:=n.os.own.opened zt;obtain⟨bx,bz,av,aw⟩:=n.os.sl.qm (λx hx=>gr (n.o x hx).1.1) zt;rw[hp] at av;cases av;have m:=aw i H;dsimp only  at hp ag ar au af m;have bd:([.slice P os.length K,.slice Q S.length R]:List Value)[0]? =some (.slice (some ⟨qb,0,none⟩) os.length K):=by rw[<-hp];rfl
 obtain⟨kb,ko,bf,bg⟩:=(ho.l.ga k).2.resolve_left zk;have ax:o.cells[4]? =some (.slice (some ⟨kb,ko,none⟩) o.lk.length o.lc):=by rw[<-bf];rfl
 refine xg (ju (α:=List Cv) [1,2,4,5,18,19] Z (λz=>[]) (λz u=>(z.length=os.length/\vf w u ⟨P,K,z,Q,R,S⟩/\ApL z)/\j0 u b2 76 (o.cells)/\j0 u b4 25 (B6.c)/\j0 u b5 25 ([.slice P os.length K,.slice Q S.length R])/\Ext No w u) ?_ ?_);refine j8 (vo Z (ke Z 11 [qP 0,qP 1,qP 2,qP 3,qP 4,qP 5,qP 6,qP 7,qP 8,qP 9,qP 10] [] (No) zf λw7 E b0=> have bh:=a;have bi:=g;have a:=a.ga E;have f:=f.ga E;have g:=g.ga E;have n:=n.ga E;have m:=m.ga E;have q:=q.ga E;have k:=k.gb E;gw ge 1 Z (j5 ge Z Z (λw' A=>((bi.ga A).cell bd)) (gw ge 1 Z (u0 ge Z Z 73 Z i Z bc (0+i*73) Z (gw ge 1 Z (j5 ge Z Z (λw' A=>((bh.ga A).cell ax)) (gw ge 1 Z (u0 ge Z Z 1 Z i Z aq (ko+i) (by rw[bF]) (j5 ge Z Z (λw' A=>((bg.ga A) i _ (by rw[bS,aG aq];rfl))) ?_))))))))));refine gw ge 2 Z (js (ja (jq (j8 (ju (α:=Bool) [1,2,4,5,7,8,18,19] Z (λz=>[(31,.bool z)]) (λz u=>(z=decide (o.lk[i]<0\/(hs.length:Int)<=o.lk[i])/\vf w u ⟨P,K,s,Q,R,S⟩/\Seg u qb (0+i*73) (yu s[i])/\j0 u qb 37 L)/\j0 u b2 76 (o.cells)/\j0 u b4 25 (B6.c)/\j0 u b5 25 ([.slice P os.length K,.slice Q S.length R])/\Ext No w u) ?_ ?_)))));refine j1 (j6 ge Z (jw 34 Z (λN=>?_) (λN=>?_)));exact j4 ge 6 Z (gl (j2 (true) Z ⟨⟨by symm;exact bZ (.inl N),n,m,q⟩,a,f,g,k⟩));exact j4 ge 6 Z (gl (j2 (_) Z ⟨⟨by rw[aP];exact⟨λe=> .inr zk,λe=>by have:=e.resolve_left N;omega⟩,n,m,q⟩,a,f,g,k⟩));rintro z w8 ⟨⟨rfl,n,m,q⟩,a,f,g,k⟩;refine vk Z (λV=>?_) (λV=>?_);exact qf (jr (jr (j2 (s) Z ⟨⟨G,n,B⟩,a,f,g,k⟩)));have b1:=of_decide_eq_false V;obtain⟨j,hj,O⟩:∃j:Nat,o.lk[i]=(j:Int)/\j<hs.length:=⟨o.lk[i].toNat,by omega,by omega⟩
 rw[hj];have J:=hl _ (aC O);have F:=n.o _ (aC H);obtain⟨b3,ay,bj,az⟩:=h.qm (λx hx=>(hl x hx).2) zk;rw[bj];refine ju (α:=Bool) [1,2,4,5,7,8,18,19] Z (λz=>[(40,.bool z)]) (λz u=>u=w8/\z=decide (s[i].1.kind=2/\s[i].1.leaves.length=1)) ?_ ?_;refine j1 (j6 ge Z (gx Z (m.obj F.1.1).kind (j6 ge Z (jw 46 Z (λN=>?_) (λN=>?_)))));exact j4 ge 3 Z (gx Z (m.obj F.1.1).leaves (j4 ge 4 Z (gl (j2 (_) Z ⟨Z,(by rw[aP];exact⟨λe=>⟨N,by omega⟩,λe=>by have:=e.2;omega⟩)⟩))));exact j4 ge 8 Z (gl (j2 (false) Z ⟨Z,(by symm;rw[aE];exact λe=>N e.1)⟩));rintro z w9 ⟨W,rfl⟩;have W:=W.symm;subst W;refine vk Z (λV=>?_) (λV=>?_);have ah:=(cQ V).2;obtain⟨r,hr⟩:∃r,s[i].1.leaves=[r]:=List.length_eq_one_iff.1 ah;obtain⟨lb,M,ai,y,a0,b6,bk,a1⟩:=F.2.ol.opened zk;have a2:M.take (1*33)=r.cells:=by rw[ah,hr,bL] at a1;exact a1
 have X:1<=s[i].2.lc:=by omega
 have bm:∀u,Seg u qb (0+i*73) (yu s[i])->u.cell? ⟨qb,0+i*73+2,none⟩=some (.slice (some ⟨lb,0,none⟩) 1 s[i].2.lc):=λu W=>by have e:=(W.obj F.1.1).leaves;rw[ai,ah] at e;exact e
 refine ke Z 11 [qP 0,qP 1,qP 2,qP 3,qP 4,qP 5,qP 6,qP 7,qP 8,qP 9,qP 10] [11] (No) zf λb7 t br=> have aj:=m;have bn:=k;have a:=a.ga t;have f:=f.ga t;have g:=g.ga t;have n:=n.ga t;have y:=y.ga t;have k:=k.gb t;gw ge 3 Z (j5 ge Z Z (λw' A=>(bm _ (aj.ga A))) (gw ge 2 Z (u0 ge Z Z 105 Z j Z O (ay+j*105) Z (gw ge 1 Z (qu ge Z Z (λw' A=>(Seg.append.1 ((az j O).ga (bn.gb A))).1) J.1.len (u0 ge Z Z 33 Z 0 Z zd 0 Z (gw ge 1 Z (js (have ak:=k;wb Z (Ci ge y Z (by rw[jc,gm];exact J.1) (by rw[a0];have:=cC 33 X;omega) (by rw[jc];exact OneC.h) λb8 Y C bs=>?_))))))))));rw[jc] at Y;have n:=n.leaf B H hr J.1 ai y a0 X bk a2 Y C;have a:=a.gk C (a.ne y zd);have f:=f.gk C (f.ne y zd);have g:=g.gk C (g.ne y zd);have k:=ak.gi C (F.2.nl lb ai);exact ja (jr (jr (j2 (s.set i (linkL s[i].1 r hs[j].id,s[i].2)) Z ⟨⟨by rw[cK];exact G,n,B.set H Z⟩,a,f,g,k⟩)));refine ju (α:=Bool) [1,2,4,5,7,8,18,19] Z (λz=>[(65,.bool z)]) (λz u=>u=w8/\z=decide (s[i].1.kind=3/\s[i].1.parents.length=0)) ?_ ?_;refine j1 (j6 ge Z (gx Z (m.obj F.1.1).kind (j6 ge Z (jw 71 Z (λN=>?_) (λN=>?_)))));exact j4 ge 3 Z (gx Z (m.obj F.1.1).parents (j4 ge 4 Z (gl (j2 (_) Z ⟨Z,(by rw[aP];exact⟨λe=>⟨N,by omega⟩,λe=>by have:=e.2;omega⟩)⟩))));exact j4 ge 8 Z (gl (j2 (false) Z ⟨Z,(by symm;rw[aE];exact λe=>N e.1)⟩));rintro z b9 ⟨W,rfl⟩;have W:=W.symm;subst W;refine vk Z (λV=>?_) (λV=>?_);refine j1 (j6 ge Z (ki Z 105 Z j Z O (ay+j*105) Z (j6 ge Z (jk Z (Seg.append.1 ((az j O).ga k)).1 J.1.len (j6 ge Z (have ak:=k;wl (Ci ge q Z (by rw[jc,gm];exact J.1) (by rw[af];have:=cC 73 ag;exact(by omega:0+i*73+4+32<=K*73)) (by rw[jc];exact OneC.h) λca I D bt=>?_)))))));rw[jc] at I;have bp:w.heap.size<=qb:=n.os.new qb hp;have n:=n.tree H J.1 hp q af ag ar au (by have e:=I;rw[show 0+i*73+4=i*73+4 from by omega] at e;exact e) D;have a:=a.gk D (a.ne q zd);have f:=f.gk D (f.ne q zd);have g:=g.gk D (g.ne q zd);have k:=ak.gi D bp;exact gl (jr (jr (j2 (s.set i (linkT s[i].1 hs[j].id,s[i].2)) Z ⟨⟨by rw[cK];exact G,n,B.set H Z⟩,a,f,g,k⟩)));exact qf (jr (jr (j2 (s) Z ⟨⟨G,n,B⟩,a,f,g,k⟩)));rintro bq cb ⟨⟨a3,n,a4⟩,a,f,g,k⟩;refine yy Z ?_;rw[qc _ zk];exact gl (jh (i+1,bq) Z ⟨⟨by omega,a3,n,a4⟩,a,f,g,k⟩ zm);exact xt (qs (qs (ux (jq (qr (jf g Z Z (have a5:=f;wl (j9 (l':=[.slice P os.length K,.slice Q S.length R]) ge f Z Z Z Z OneC.h λcc f aa bu=> have n:=n.extB aa a5;have k:=k.gi aa a8;u3 (gv (u7 [_] ⟨⟨b4,0,Z,ud ge Z Z f.ql Z⟩,trivial⟩ ⟨⟨P,K,s,Q,R,S⟩,by simp only[uz.v,uz.c,G];rfl,by dsimp only;omega,n,k⟩))))))))))
theorem zq9:∀{l b:List jm},Ahead b l->(qi l).Nodup/\∀x∈qi l,x∉qi b
 | [],_,_=>⟨List.nodup_nil,λ_ h=>by cases h⟩
 |o::r,b,h=>by
  have k:=zq9 h.2
  have e:qi (b++[o])=qi b++[vv o]:=by simp[qi]
  rw[e] at k
  refine⟨List.nodup_cons.2 ⟨λc=>k.2 _ c zq,k.1⟩,λx a=>?_⟩
  rcases List.mem_cons.1 a with rfl|a
  ·exact h.1.1
  exact λe=>k.2 x a (aS.2 (.inl e))
theorem yq0:∀{l b:List jm},Ahead b l->∀{j:Nat} (hj:j<l.length),∀x∈qd l[j],x∈qi b\/x∈qi (l.take j)
 | [],_,_,_,hj,_,_=>by cases hj
 |o::r,b,h,0,_,x,hx=> .inl (h.1.2 x hx)
 |o::r,b,h,j+1,hj,x,hx=>by
  have k:=yq0 h.2 (j:=j) (by simpa using hj) x hx
  have e:qi (b++[o])=qi b++[vv o]:=by simp[qi]
  rw[e] at k
  rcases k with k|k
  ·rcases aS.1 k with k|k
   ·exact .inl k
   exact .inr (by rw[List.take_succ_cons];exact List.mem_cons.2 (.inl (by simpa using k)))
  exact .inr (by rw[List.take_succ_cons];exact List.mem_cons.2 (.inr k))
def MarkR (row : List jm) (P : B7 -> Prop) (mk : List Bool) : Prop := mk.length = row.length /\ ∀ k (hk : k < row.length), mk.getD k false = true ↔ P (vv row[k])
theorem MarkR.iff {row:List jm} {P Q:B7->Prop} {mk:List Bool} (h:MarkR row P mk) (e:∀k (hk:k<row.length),P (vv row[k])↔Q (vv row[k])):MarkR row Q mk:=⟨h.1,λk hk=>(h.2 k hk).trans (e k hk)⟩
theorem ids_at {row:List jm} {k:Nat} (hk:k<row.length):(qi row)[k]'(by rw[qi,aA];exact hk)=vv row[k]:=bQ ..
theorem ids_idx {row:List jm} (hn:(qi row).Nodup) {k:Nat} (hk:k<row.length):(qi row).idxOf (vv row[k])=k:=by
 rw[<-ids_at hk];exact hn.idxOf_getElem k _
theorem MarkR.set {row:List jm} {P:B7->Prop} {mk:List Bool} (h:MarkR row P mk) (hn:(qi row).Nodup) {x:B7} (hx:x∈qi row):MarkR row (λy=>P y\/y=x) (mk.set ((qi row).idxOf x) true):=by
 refine⟨by rw[cK];exact h.1,λk a=>?_⟩;have b:k<mk.length:=by rw[h.1];exact a
 have e:=h.2 k a;rw[bH,aG b,Option.getD_some] at e;rw[bH,aG (by rw[cK];exact b),Option.getD_some,List.getElem_set];by_cases hi:(qi row).idxOf x=k;rw[aL hi];have:vv row[k]=x:=by rw[<-ids_at a];subst hi;exact List.getElem_idxOf _
 exact⟨λ_=> .inr this,λ_=>rfl⟩
 rw[aI hi,e];exact⟨.inl,λe=>e.resolve_right λe=>hi (by rw[<-e];exact ids_idx hn a)⟩
def MidP (row : List jm) (roots : List B7) (a : Nat) (x : B7) : Prop := x ∈ roots \/ ∃ j, ∃ hj : j < row.length, a <= j /\ yw3 row roots (vv row[j]) /\ x ∈ qd row[j]
theorem mid_led {row:List jm} {roots:List B7} (hA:Ahead [] row) {a k:Nat} (ha:a<=k+1) (hk:k<row.length):MidP row roots a (vv row[k])↔yw3 row roots (vv row[k]):=by
 refine⟨λh=>h.elim .root λ⟨j,b,_,d,c⟩=> .on (aC b) d c,λh=>?_⟩;generalize hx:vv row[k]=x at h;cases h with
 |root h=>exact .inl h
 |on ho d c=>
  obtain⟨j,b,rfl⟩:=bG.1 ho;refine .inr ⟨j,b,?_,d,c⟩;have l:=(yq0 hA b x c).resolve_left (by simp[qi]);obtain⟨o,f,e⟩:=aZ.1 l;obtain⟨i,m,rfl⟩:=bG.1 f;rw[aH] at m;rw[List.getElem_take] at e;have n:k=i:=by have p:=ids_idx (zq9 hA).1 hk;have g:=ids_idx (zq9 hA).1 (show i<row.length by omega);rw[e,<-hx,p] at g;exact g
  omega
theorem ahead_filter {p:jm->Bool}:∀{l b:List jm},Ahead b l->(∀o∈l,p o=true->∀x∈qd o,∀o2∈b++l,vv o2=x->p o2=true)->Ahead (b.filter p) (l.filter p)
 | [],_,_,_=>trivial
 |o::r,b,h,hc=>by
  have ih:=ahead_filter (l:=r) (b:=b++[o]) h.2 (λd f g x a o2 i=>hc d (cM _ f) g x a o2 (by simpa using i))
  rw[List.filter_append] at ih
  by_cases hp:p o=true
  ·rw[List.filter_cons_of_pos hp]
   rw[show [o].filter p=[o] from by simp[hp]] at ih
   refine⟨⟨λe=>h.1.1 ?_,λx a=>?_⟩,ih⟩
   ·obtain⟨y,c,e⟩:=aZ.1 e
    exact aZ.2 ⟨y,(List.mem_filter.1 c).1,e⟩
   obtain⟨y,c,e⟩:=aZ.1 (h.1.2 x a)
   exact aZ.2 ⟨y,List.mem_filter.2 ⟨c,hc o (dl ..) hp x a y (aS.2 (.inl c)) e⟩,e⟩
  rw[List.filter_cons_of_neg hp]
  rw[show [o].filter p=[] from by simp[hp],bE] at ih
  exact ih
open Classical in
theorem kept_ok {s : Ax} (h : s.Ok) (roots : List B7) : (Dj s roots).Ok :=
  ⟨λo ho => h.objs o (List.mem_filter.1 ho).1, ahead_filter (b := []) h.ahead λo ho hp x hx o2 _ e => bZ (by rw [e]; exact .on ho (cQ hp) hx), h.rise, h.vals, h.few⟩
theorem mid_top {row:List jm} {roots:List B7} {x:B7}:MidP row roots row.length x↔x∈roots:=⟨λh=>h.elim id λ⟨j,hj,h1,_⟩=>by omega,.inl⟩
theorem mid_step {row:List jm} {roots:List B7} {a:Nat} (ha:a<row.length) {x:B7}:MidP row roots a x↔MidP row roots (a+1) x\/yw3 row roots (vv row[a])/\x∈qd row[a]:=by
 refine⟨λh=>h.elim (λh=> .inl (.inl h)) λ⟨j,c,f,b,d⟩=>?_,λh=>h.elim (λh=>h.imp id λ⟨j,c,f,b⟩=>⟨j,c,by omega,b⟩) λh=> .inr ⟨a,ha,aB _,h⟩⟩;by_cases e:j=a;subst e;exact .inr ⟨b,d⟩;exact .inl (.inr ⟨j,c,by omega,b,d⟩)
theorem bools_set (mk : List Bool) (j : Nat) (b : Bool) : (C3 mk).set j (.bool b) = C3 (mk.set j b) := (List.map_set ..).symm
theorem bools_get {mk:List Bool} {j:Nat} (h:j<mk.length):(C3 mk)[j]? =some (.bool (mk.getD j false)):=by
 rw[C3,bS,aG h,bH,aG h];rfl
theorem idx_lt {row:List jm} {x:B7} (h:x∈qi row):(qi row).idxOf x<row.length:=by
 have:=List.idxOf_lt_length_of_mem h;rwa [qi,aA] at this
theorem anew_s (X : Sd) (s : Ax) : (C0 X s).1.s = if (C0 X s).2 = 0 then s else X.s := by
  unfold C0
  split <;> rfl
open Classical in
theorem kept_step {row : List jm} {roots : List B7} {i : Nat} (hi : i < row.length) : ((row.take (i + 1)).filter λo => decide (yw3 row roots (vv o))) = ((row.take i).filter λo => decide (yw3 row roots (vv o))) ++ if yw3 row roots (vv row[i]) then [row[i]] else [] := by
  rw [aO hi, List.filter_append]
  congr 1
  by_cases h : yw3 row roots (vv row[i]) <;> simp [h]
theorem ssweep_calls (w : World) {sp x d m : Nat} {F H K : Nat -> Prop} {X : Sd} {h : uk} (k : StA w sp x d F H K X h) (hok : X.W.D.Ok m) (hm : m + 2000 < 1000000000) (hW : Wl.Ok X.W) (hr : Rt w) (hF0 : ¬ F 0) {pr : Option Addr} {cr : Nat} {roots : List B7} (hR : Sl w pr roots.length 32 (roots.flatMap gh)) (hRi : ∀ y ∈ roots, vd y) (hRn : roots.length < 1000000000) (hsok : X.s.Ok) :
    gn prog 12 [.pointer (some ⟨sp, 0, none⟩), .slice pr roots.length cr] w λv w' => v = .tuple #[.int .i64 (B4 X roots).2.1, .int .i64 (B4 X roots).2.2] /\ ComQ w w' sp x d F H K (B4 X roots).1 /\ Ext (StS F H sp) w w' := by
  have k0 := k
  have hout : ∀ b, w.heap.size <= b -> ¬ (F b \/ H b) := λb hb e => e.elim (λe => by have := k.disk.lt b e; omega) λe => by have := k.log.lt b e; omega
  have hN := Ext.refl No w
  have kh := k
  have hlk := k.has
  obtain ⟨rp, rc, hs, mm, vp, vc, vs⟩ := h
  obtain ⟨r, hmr⟩ := k.mp
  have hmr : mm = some r := hmr
  subst hmr
  have hbx : j0 w sp 123 [.pointer (some ⟨x, 0, none⟩), .slice rp hs.length rc, .map (some r), .slice vp vs.length vc] := k.box
  have hfw : hs.length < 1000000 := k.has.few
  have hXr : X.s.row = hs.map je.o := by rw [<- k.eq]; rfl
  have hXv : X.s.vals = vs.map Prod.fst := by rw [<- k.eq]; rfl
  have hM : xx5 w r zx5 (placeOf (qi X.s.row)) := by
    rcases k.has.map with ⟨h0, _⟩ | ⟨r', h0, h1⟩
    · cases h0
    · cases h0
      rw [hXr, <- held_ids k.has.o]; exact h1
  have hrn : X.s.row.length = hs.length := by rw [hXr, aA]
  have hA := hsok.ahead
  have hnd := (zq9 hA).1
  refine gz func12 ?_
  have hX := Ext.refl (StS F H sp) w
  refine kw Z (c_scope (gp (qj Z (gj call54 Z (goes_calls w k) λv1 w1 hr1 =>?_))))
  obtain ⟨rfl, hE1⟩ := hr1
  have hN := hN.gb hE1
  have hX := hX.gb hE1
  refine kg Z (kw Z (jy Z (λhc =>?_) (λhc =>?_)))
  · have hbr : X.W.broken = true := cV λe => hc (aI e)
    have hcm : B4 X roots = (X, 0, 8) := aL hbr
    refine kw Z (gv (gu (Bz (u7 [_, _] ⟨Z, rfl, trivial⟩ ?_))))
    exact ⟨by rw [hcm, aL hbr]; rfl, by rw [hcm]; exact ComQ.same (k.ga hN), hX⟩
  · have hbr : ¬ X.W.broken = true := λe => hc (by rw [aL e]; decide)
    refine xg (qj Z (gx Z ((hbx.ga hN).cell Z) (j6 ge Z ?_)))
    refine wl (zx8 ge Z hs.length hs.length 1 Z Z Z zd Z Z (aB _) zk zb λb31 w2 hn31 hb31 hE2 hs2 =>?_)
    have fr31 := al hX.size hn31
    have hN := hN.gb hE2
    have hX := hX.gb hE2
    have hb31 : j0 w2 b31 4 (C3 (List.replicate hs.length false)) := by (have e : Df hs.length (cellsOf ti4.zero) = C3 (List.replicate hs.length false) := by rw [show cellsOf ti4.zero = [Value.bool false] from Z, rep_one, C3]; simp); rw [<- e]; exact hb31
    have hmk : MarkR X.s.row (λy => y ∈ roots.take 0) (List.replicate hs.length false) := ⟨by rw [bN, hrn], λk hk => by simp [bH, List.getElem?_replicate]; split <;> rfl⟩
    refine kg Z (gp (kw Z (j8 ?_)))
    refine jl (α := Nat × List Bool) [0, 7, 32, 33] Z (λz => [(34, .int .i64 (z.1 : Int))]) (λz u => (z.1 <= roots.length /\ MarkR X.s.row (λy => y ∈ roots.take z.1) z.2 /\ (∀ y ∈ roots.take z.1, y ∈ qi X.s.row) /\ Ext No w u) /\ j0 u b31 4 (C3 z.2) /\ Ext (StS F H sp) w u) (λz u => roots.length - z.1) (0, List.replicate hs.length false) Z ⟨⟨aJ _, hmk, λ_ h => (by cases h), hN⟩, hb31, hX⟩ ?_
    rintro ⟨i, mk⟩ w3 ⟨⟨hi, hmk, hall, hN⟩, hb31, hX⟩
    try dsimp only
    dsimp only at hi hmk hall hb31
    refine vo Z (jy Z (λhc =>?_) (λhc =>?_))
    · have hi2 : i < roots.length := by omega
      have hrin : vd roots[i] := hRi _ (aC hi2)
      obtain ⟨qb, qo, hp, hsq⟩ := hR.qm (λy hy => (hRi y hy).len) zk
      subst hp
      refine Bn (qr (ki Z 32 Z i Z hi2 (qo + i * 32) Z (jk Z ((hsq i hi2).ga hN) hrin.len (gt Z λb9 w4 hn9 hb9 hE4 =>?_))))
      have ne31_9 := j3 hb31.lt hn9
      have fr9 := al hX.size hn9
      have hb31 := hb31.ga hE4
      have hN := hN.gb hE4
      have hX := hX.gb hE4
      have hb9o := hb9
      refine wl (j9 (l' := gh roots[i]) ge hb9 Z Z hrin.len (by rw [hrin.len]; rfl) OneC.h λw5 hb9 hE5 hs5 =>?_)
      have hb31 := hb31.gk hE5 ne31_9
      have hN := hN.gi hE5 fr9
      have hX := hX.gi hE5 fr9
      refine u3 (gp (ke Z 12 [qP 0, qP 1, qP 2, qP 3, qP 4, qP 5, qP 6, qP 7, qP 8, qP 9, qP 10, qP 11] [] (No) zf λw6 hE6 hs6 =>?_))
      have hd31 := hb31
      have hd9 := hb9
      have hNd := hN
      have hXd := hX
      have hb31 := hb31.ga hE6
      have hb9 := hb9.ga hE6
      have hN := hN.gb hE6
      have hX := hX.gb hE6
      have hC : Ext (No) _ w6 := hE6.no
      refine gw ge 4 Z (j5 ge Z Z (λw' hw' => ((hbx.ga (hNd.gb hw')).cell Z)) ?_)
      refine qu ge Z Z (λw' hw' => (hd9.ga hw').ql) hrin.len ?_
      refine wd_lu ge Z Z idK hrin Z (hM.ga hN) (λw' hw' => hM.ga (hNd.gb hw')) ?_
      simp only [cT]
      rw [Dl]
      refine gw ge 5 Z (js (ja (jq (gp (kw Z (vk Z (λhc =>?_) (λhc =>?_)))))))
      · have hno : roots[i] ∉ qi X.s.row := by simpa using hc
        have hcm : B4 X roots = (X, 0, 4) := by rw [B4, aI hbr, aL λe => hno (e _ (aC hi2))]
        refine kw Z (gv (gu (jt (gu (gu (jt (gu (Bz (u7 [_, _] ⟨Z, rfl, trivial⟩ ?_)))))))))
        exact ⟨by rw [hcm]; rfl, by rw [hcm]; exact ComQ.same (k.ga hN), hX⟩
      · have hin : roots[i] ∈ qi X.s.row := by simpa using hc
        have hpl : placeOf (qi X.s.row) roots[i] = some ((qi X.s.row).idxOf roots[i]) := aL hin
        rw [hpl]
        have hset := hmk.set hnd hin
        have hlt := idx_lt hin
        generalize (qi X.s.row).idxOf roots[i] = j at hset hlt |-
        refine xg (yy Z (ki Z 1 Z j Z zk (0 + j * 1) Z (wl (un ge hb31 Z Z (by simp only [C3, aA, hmk.1]; omega) λw7 hb31 hE7 hs7 =>?_))))
        have hb9 := hb9.gk hE7 ne31_9.symm
        have hN := hN.gi hE7 fr31
        have hX := hX.gi hE7 fr31
        have hb31 : j0 w7 b31 4 (C3 (mk.set j true)) := by (have e := hb31; rw [show 0 + j * 1 = j from by omega, bools_set] at e; exact e)
        refine gl (Bi Z ?_)
        rw [qc _ zk]
        refine gl ?_
        exact jh (i + 1, mk.set j true) Z ⟨⟨hi2, hset.iff λk hk => by rw [aO hi2, aS, aF], λy hy => by rw [aO hi2] at hy; rcases aS.1 hy with hy | hy; exact hall y hy; rw [aF.1 hy]; exact hin, hN⟩, hb31, hX⟩ zm
    · have h0 : i = roots.length := by omega
      subst h0
      rw [bM] at hall hmk
      have hmk := hmk.iff (Q := MidP X.s.row roots hs.length) λk hk => by rw [<- hrn]; exact mid_top.symm
      refine Bh (vo Z (c_label (jq (gp (j8 ?_)))))
      refine jl (α := Nat × List Bool) [0, 7] Z (λz => [(12, .int .i64 (z.1 : Int))]) (λz u => (z.1 <= hs.length /\ MarkR X.s.row (MidP X.s.row roots z.1) z.2 /\ Ext No w u) /\ j0 u b31 4 (C3 z.2) /\ Ext (StS F H sp) w u) (λz u => z.1) (hs.length, mk) Z ⟨⟨aB _, hmk, hN⟩, hb31, hX⟩ ?_
      rintro ⟨a0, mk⟩ w8 ⟨⟨ha0, hmk, hN⟩, hb31, hX⟩
      try dsimp only
      dsimp only at ha0 hmk hb31
      refine gp (kw Z (jy Z (λhc =>?_) (λhc =>?_)))
      · obtain ⟨a, rfl⟩ : ∃ a, a0 = a + 1 := ⟨a0 - 1, by omega⟩
        have ha2 : a < X.s.row.length := by omega
        have ha3 : a < hs.length := by omega
        have hao : X.s.row[a] = hs[a].o := by simp [hXr]
        have hml : a < mk.length := by rw [hmk.1]; exact ha2
        refine xg (j8 (qj Z ?_))
        rw [qc _ zk]
        rw [show ((a + 1 : Nat) : Int) - 1 = (a : Int) from by omega]
        refine kg Z (gp (qj Z (ki Z 1 Z a Z zk (0 + a * 1) Z (gx Z (hb31.cell (by rw [show 0 + a * 1 = a from by omega]; exact bools_get hml)) ?_))))
        refine kg Z (vk Z (λhc =>?_) (λhc =>?_))
        · have hnm : ¬ yw3 X.s.row roots (vv X.s.row[a]) := λe => by
            have := (hmk.2 a ha2).2 ((mid_led hA (aB _) ha2).2 e)
            rw [this] at hc; cases hc
          have hmk := hmk.iff λk hk => ((mid_step (roots := roots) ha2).trans ⟨λe => e.resolve_right λe => hnm e.1, .inl⟩).symm
          refine xt ?_
          exact qs (ux (jh (a, mk) Z ⟨⟨by omega, hmk, hN⟩, hb31, hX⟩ zm))
        · have hled : yw3 X.s.row roots (vv X.s.row[a]) := (mid_led hA (aB _) ha2).1 ((hmk.2 a ha2).1 (by simpa using hc))
          obtain ⟨qb2, qo2, hp2, hsq2⟩ := k.has.row.qm k.has.held zt
          dsimp only at hp2
          have hoi := k.has.o _ (aC ha3)
          have hid2 : hs[a].id.length = 32 := by rw [hoi.id]; exact ul _
          have hok1 : yv hs[a].o := by rw [<- hao]; exact hsok.objs _ (aC ha2)
          have hlk1 : yv9 hs[a].o = qd hs[a].o := aL hok1
          have hll := xj9 hoi.ok.2
          have hlin0 := links_in hoi.ok.1
          have hahe := yq0 hA ha2
          rw [hao] at hahe hled
          refine xg (qj Z (gx Z ((hbx.ga hN).cell Z) ?_))
          rw [hp2]
          refine j6 ge Z (ki Z 105 Z a Z ha3 (qo2 + a * 105) Z (j6 ge Z (jk Z (heldO ((hsq2 a ha3).ga hN) hid2) (gr hoi.ok.1) ?_)))
          have hl31 := hb31.lt
          refine gj call55 Z (xv8 w8 hoi.ok.1 (hoi.l.ga hN) hoi.ok.2) λv9 w9 hr9 =>?_
          obtain ⟨q, kq, rfl, hq, hqn, hE9⟩ := hr9
          have hb31 := hb31.ga hE9
          have hN := hN.gb hE9
          have hX := hX.gb hE9
          rw [hlk1] at hq |-
          obtain ⟨w7, hw7⟩ : ∃ w7, w7 = w9 := ⟨_, rfl⟩
          rw [<- hw7] at hq
          have hT : Ext (λy => y = b31 \/ w7.heap.size <= y) w7 w9 := hw7 ▸ Ext.refl _ _
          have hmk := hmk.iff (Q := λy => MidP X.s.row roots (a + 1) y \/ y ∈ (qd hs[a].o).take 0) λk hk => ⟨.inl, λe => e.elim id λe => (by cases e)⟩
          refine kg Z (j8 ?_)
          refine jl (α := Nat × List Bool) [0, 7, 12, 74, 75] Z (λz => [(76, .int .i64 (z.1 : Int))]) (λz u => (z.1 <= (qd hs[a].o).length /\ MarkR X.s.row (λy => MidP X.s.row roots (a + 1) y \/ y ∈ (qd hs[a].o).take z.1) z.2 /\ Ext (λy => y = b31 \/ w7.heap.size <= y) w7 u /\ Ext No w u) /\ j0 u b31 4 (C3 z.2) /\ Ext (StS F H sp) w u) (λz u => (qd hs[a].o).length - z.1) (0, mk) Z ⟨⟨aJ _, hmk, hT, hN⟩, hb31, hX⟩ ?_
          rintro ⟨i, mk⟩ w10 ⟨⟨hi7, hmk, hT, hN⟩, hb31, hX⟩
          try dsimp only
          dsimp only at hi7 hmk hb31
          refine vo Z (jy Z (λhc =>?_) (λhc =>?_))
          · have hi8 : i < (qd hs[a].o).length := by omega
            have hlin : vd (qd hs[a].o)[i] := hlin0 _ (aC hi8)
            have hin : (qd hs[a].o)[i] ∈ qi X.s.row := (hahe _ (aC hi8)).elim (λe => by cases e) λe => by
              obtain ⟨o, ho, e⟩ := aZ.1 e
              exact aZ.2 ⟨o, bK ho, e⟩
            have hpl : placeOf (qi X.s.row) (qd hs[a].o)[i] = some ((qi X.s.row).idxOf (qd hs[a].o)[i]) := aL hin
            have hset := hmk.set hnd hin
            have hlt := idx_lt hin
            obtain ⟨qb, qo, hp, hsq⟩ := hq.sl.qm (λy hy => (hlin0 y hy).len) zk
            have hob : jb q qb := by
              rcases hq with ⟨h0, _⟩ | ⟨b, l, h0, _⟩
              · rw [h0] at hp; cases hp
              · rw [h0] at hp; cases hp; exact h0
            have hob1 := hqn _ hob
            have hob2 := hq.lt hob
            have nqb : ¬ (qb = b31 \/ w7.heap.size <= qb) := by omega
            subst hp
            refine Bn (qr (ki Z 32 Z i Z hi8 (qo + i * 32) Z (jk Z ((hsq i hi8).ext hT nqb) hlin.len ?_)))
            have hT0 := hT
            refine gt Z λb14 w11 hn14 hb14 hE11 =>?_
            have ne31_14 := j3 hb31.lt hn14
            have fr14 := al hX.size hn14
            have hb31 := hb31.ga hE11
            have hN := hN.gb hE11
            have hT := hT.gb hE11
            have hX := hX.gb hE11
            have fT14 := al hT0.size hn14
            have hb14o := hb14
            refine wl (j9 (l' := gh (qd hs[a].o)[i]) ge hb14 Z Z hlin.len (by rw [hlin.len]; rfl) OneC.h λw12 hb14 hE12 hs12 =>?_)
            have hb31 := hb31.gk hE12 ne31_14
            have hN := hN.gi hE12 fr14
            have hT := hT.then (hE12.mono λy _ e => by have e : y = b14 := e; first | exact .inl e | exact .inr zk)
            have hX := hX.gi hE12 fr14
            refine u3 (ke Z 9 [qP 0, qP 1, qP 2, qP 3, qP 4, qP 5, qP 6, qP 7, qP 8] [9] (No) zf λw13 hE13 hs13 =>?_)
            have hd31 := hb31
            have hd14 := hb14
            have hNd := hN
            have hTd := hT
            have hXd := hX
            have hb31 := hb31.ga hE13
            have hb14 := hb14.ga hE13
            have hN := hN.gb hE13
            have hT := hT.gb hE13
            have hX := hX.gb hE13
            have hC : Ext (No) _ w13 := hE13.no
            refine gw ge 5 Z (j5 ge Z Z (λw' hw' => ((hbx.ga (hNd.gb hw')).cell Z)) ?_)
            refine qu ge Z Z (λw' hw' => (hd14.ga hw').ql) hlin.len ?_
            refine wd_lu ge Z Z idK hlin Z (hM.ga hN) (λw' hw' => hM.ga (hNd.gb hw')) ?_
            simp only [bO, dF]
            rw [hpl]
            generalize (qi X.s.row).idxOf (qd hs[a].o)[i] = j at hset hlt |-
            refine u0 ge Z Z 1 Z j Z zk (0 + j * 1) Z (js (wb Z (un ge hb31 Z Z (by simp only [C3, aA, hmk.1]; omega) λw14 hb31 hE14 hs14 =>?_)))
            have hb14 := hb14.gk hE14 ne31_14.symm
            have hN := hN.gi hE14 fr31
            have hT := hT.then (hE14.mono λy _ e => by have e : y = b31 := e; first | exact .inl e | exact .inr zk)
            have hX := hX.gi hE14 fr31
            have hb31 : j0 w14 b31 4 (C3 (mk.set j true)) := by (have e := hb31; rw [show 0 + j * 1 = j from by omega, bools_set] at e; exact e)
            refine ja (Bi Z ?_)
            rw [qc _ zk]
            refine gl ?_
            exact jh (i + 1, mk.set j true) Z ⟨⟨hi8, hset.iff λk hk => by rw [aO hi8, aS, aF, or_assoc], hT, hN⟩, hb31, hX⟩ zm
          · have h0 : i = (qd hs[a].o).length := by omega
            subst h0
            rw [bM] at hmk
            have hmk := hmk.iff λk hk => ((mid_step (roots := roots) ha2).trans (by rw [hao]; exact ⟨λe => e.imp id And.right, λe => e.imp id λe => ⟨hled, e⟩⟩)).symm
            refine xt ?_
            exact qs (qs (ux (jr (jh (a, mk) Z ⟨⟨by omega, hmk, hN⟩, hb31, hX⟩ zm))))
      · have h0 : a0 = 0 := by omega
        subst h0
        have hmk := hmk.iff λk hk => mid_led hA (aJ _) hk
        refine Bh (qr ?_)
        have hNm := hN
        refine wl (st_mm zx5 Z λr2 w15 hr2 hM2 hE15 hs15 =>?_)
        have hb31 := hb31.ga hE15
        have hN := hN.gb hE15
        have hX := hX.gb hE15
        have frr2 := al hNm.size hr2
        have hl31 := hb31.lt
        refine j6 ge Z (gx Z ((hbx.ga hN).cell Z) (u1 Z ⟨⟨Z, by decide⟩, ⟨Z, by decide⟩, trivial⟩ (l' := [.slice none 0 0, .map (some r2), .slice vp vs.length vc]) Z ?_))
        refine gt Z λb15 w16 hn15 hb15 hE16 =>?_
        have ne31_15 := j3 hb31.lt hn15
        have fr15 := al hX.size hn15
        have hb31 := hb31.ga hE16
        have hN := hN.gb hE16
        have hM2 := hM2.ga hE16
        have hX := hX.gb hE16
        have hb15 : j0 w16 b15 121 ([.slice none 0 0, .map none, .slice none 0 0]) := hb15
        have hb15o := hb15
        refine wl (j9 (l' := [.slice none 0 0, .map (some r2), .slice vp vs.length vc]) ge hb15 Z Z Z Z OneC.h λw17 hb15 hE17 hs17 =>?_)
        have hb31 := hb31.gk hE17 ne31_15
        have hN := hN.gi hE17 fr15
        have hM2 := hM2.gk hE17 hb15o
        have hX := hX.gi hE17 fr15
        obtain ⟨wq, hwq⟩ : ∃ wq : World, wq = w17 := ⟨_, rfl⟩
        have hkm : xx5 w17 r2 zx5 (placeOf (([] : List je).map je.id)) := hM2
        refine u3 (gp (qj Z (gx Z ((hbx.ga hN).cell Z) (kg Z (j8 ?_)))))
        refine jl (α := Nat × List je × Option Addr × Nat) [0, 7, 15, 101, 102] Z (λz => [(103, .int .i64 (z.1 : Int))]) (λz u => (z.1 <= hs.length /\ z.2.1.map je.o = ((X.s.row.take z.1).filter λo => @decide (yw3 X.s.row roots (vv o)) (Classical.propDecidable _)) /\ (∀ g ∈ z.2.1, g ∈ hs) /\ ky w u z.2.2.1 z.2.1.length z.2.2.2 126 105 (z.2.1.flatMap uv) /\ xx5 u r2 zx5 (placeOf (z.2.1.map je.id)) /\ Ext No w u) /\ j0 u b31 4 (C3 mk) /\ j0 u b15 121 ([.slice z.2.2.1 z.2.1.length z.2.2.2, .map (some r2), .slice vp vs.length vc]) /\ Ext (StS F H sp) w u) (λz u => hs.length - z.1) (0, [], none, 0) Z ⟨⟨aJ _, rfl, λ_ h => (by cases h), ky.nil _ _ _ _, hkm, hN⟩, hb31, hb15, hX⟩ ?_
        rintro ⟨i, gs, q, c⟩ w18 ⟨⟨hi, hgo, hgm, hq, hM2, hN⟩, hb31, hb15, hX⟩
        try dsimp only
        dsimp only at hi hgo hgm hq hM2 hb15
        refine vo Z (jy Z (λhc =>?_) (λhc =>?_))
        · have hi3 : i < hs.length := by omega
          have hi2 : i < X.s.row.length := by omega
          have hio : X.s.row[i] = hs[i].o := by simp [hXr]
          obtain ⟨qb2, qo2, hp2, hsq2⟩ := k.has.row.qm k.has.held zt
          dsimp only at hp2
          rw [hp2]
          have hoi := k.has.o _ (aC hi3)
          have hid2 : hs[i].id.length = 32 := by rw [hoi.id]; exact ul _
          have hml : i < mk.length := by rw [hmk.1]; exact hi2
          have hst := kept_step (roots := roots) hi2
          refine xg ?_
          refine ju (α := List je × Option Addr × Nat) [0, 7, 15, 101, 102, 103] Z (λz => []) (λz u => (z.1.map je.o = ((X.s.row.take (i + 1)).filter λo => @decide (yw3 X.s.row roots (vv o)) (Classical.propDecidable _)) /\ (∀ g ∈ z.1, g ∈ hs) /\ ky w u z.2.1 z.1.length z.2.2 126 105 (z.1.flatMap uv) /\ xx5 u r2 zx5 (placeOf (z.1.map je.id)) /\ Ext No w u) /\ j0 u b31 4 (C3 mk) /\ j0 u b15 121 ([.slice z.2.1 z.1.length z.2.2, .map (some r2), .slice vp vs.length vc]) /\ Ext (StS F H sp) w u) ?_ ?_
          · refine j8 ?_
            refine qj Z (ki Z 105 Z i Z hi3 (qo2 + i * 105) Z (jk Z ((hsq2 i hi3).ga hN) hoi.len ?_))
            have hqb := hq
            refine gt Z λb17 w19 hn17 hb17 hE19 =>?_
            have ne31_17 := j3 hb31.lt hn17
            have ne15_17 := j3 hb15.lt hn17
            have fr17 := al hX.size hn17
            have hb31 := hb31.ga hE19
            have hb15 := hb15.ga hE19
            have hN := hN.gb hE19
            have hM2 := hM2.ga hE19
            have hq := hq.ga hE19
            have hX := hX.gb hE19
            have hq17 : ∀ y, jb q y -> y ≠ b17 := λy hy e => by have := hqb.own.lt hy; omega
            refine j6 ge Z ?_
            have hb17o := hb17
            refine wl (j9 (l' := uv hs[i]) ge hb17 Z Z hoi.len (by rw [hoi.len]; rfl) OneC.h λw20 hb17 hE20 hs20 =>?_)
            have hb31 := hb31.gk hE20 ne31_17
            have hb15 := hb15.gk hE20 ne15_17
            have hN := hN.gi hE20 fr17
            have hM2 := hM2.gk hE20 hb17o
            have hq := ky.mk (hq.own.ext hE20 λy hy e => hq17 y hy e) hq.new
            have hX := hX.gi hE20 fr17
            refine u3 (qj Z (ki Z 1 Z i Z zk (0 + i * 1) Z (gx Z (hb31.cell (by rw [show 0 + i * 1 = i from by omega]; exact bools_get hml)) (u3 ?_))))
            refine vk Z (λhc =>?_) (λhc =>?_)
            · have hled : yw3 X.s.row roots (vv X.s.row[i]) := (hmk.2 i hi2).1 hc
              rw [aL hled, hio] at hst
              have hgn : hs[i].id ∉ gs.map je.id := λe => by
                obtain ⟨g, hg, e⟩ := aZ.1 e
                have h1 : g.o ∈ X.s.row.take i := (List.mem_filter.1 (hgo ▸ cW hg)).1
                obtain ⟨j, hj, h2⟩ := bG.1 h1
                rw [aH] at hj
                rw [List.getElem_take] at h2
                have h3 := ids_idx hnd (k := j) zk
                have h4 := ids_idx hnd hi2
                rw [h2, <- (k.has.o g (hgm g hg)).id, e, hoi.id, <- hio, h4] at h3
                omega
              have hgl : gs.length <= i := by
                have e := congrArg List.length hgo
                have e2 := List.length_filter_le (λo => @decide (yw3 X.s.row roots (vv o)) (Classical.propDecidable _)) (X.s.row.take i)
                rw [aA] at e
                rw [aH] at e2
                omega
              refine qj Z (jd hb15 Z Z (j6 ge Z (jk Z (Seg.append.1 hb17.ql).1 (by rw [gm, hid2]) (j6 ge Z (jd hb15 Z Z (j6 ge Z ?_))))))
              refine wl (st_mu ge Z idK hid2 Z hM2 (b := gs.length) Z λw21 hM3 hE21 hs21 =>?_)
              rw [show gs.length = (gs.map je.id).length from (aA ..).symm, yw7 hgn] at hM3
              have hb31 := hb31.xm hM2 hE21
              have hb15 := hb15.xm hM2 hE21
              have hb17 := hb17.xm hM2 hE21
              have hq := hq.xm hM2 hE21
              have hX := hX.gi hE21 frr2
              have hN := hN.gi hE21 frr2
              have hM2 := hM3
              refine u3 (yy Z (jd hb15 Z Z (jf hb17 Z hoi.len ?_)))
              refine wl (qw ge Z 105 Z heldZ_c (by rw [ao, gm, gr u6]; rfl) zd zd ⟨⟨by rw [jc]; exact hoi.len, by decide⟩, trivial⟩ (l' := uv hs[i]) (one_held hoi.len) λb122 w22 hn122 hb122 hE22 hs22 =>?_)
              have ne31_122 := j3 hb31.lt hn122
              have ne15_122 := j3 hb15.lt hn122
              have ne17_122 := j3 hb17.lt hn122
              have fr122 := al hX.size hn122
              have hb31 := hb31.ga hE22
              have hb15 := hb15.ga hE22
              have hb17 := hb17.ga hE22
              have hN := hN.gb hE22
              have hM2 := hM2.ga hE22
              have hq := hq.ga hE22
              have hX := hX.gb hE22
              have hq9 : ¬ jb q r2 := λe => by obtain ⟨l, hl⟩ := Own.ty hq.own e; exact hM2.ne hl Z
              have hqN := hq
              have hqo := hq.own
              refine wl (x3 ge Z 105 224 Z Z Z zd hq (Src.slice (m := 1) ⟨hoi.len, .inr ⟨b122, 0, rfl, hb122.ql⟩⟩ OneC.h) zn zt (n' := (gs ++ [hs[i]]).length) (ys := (gs ++ [hs[i]]).flatMap uv) zi (by rw [aY, bL]) hN λq4 k4 w23 hq hE23 hNn =>?_)
              dsimp only at hq hE23
              have hb31 := hb31.qg hqo hE23 (show (126 : Nat) ≠ 4 from by decide)
              have hb15 := hb15.qg hqo hE23 (show (126 : Nat) ≠ 121 from by decide)
              have hM2 := hM2.ext hE23 hq9
              have hN := hNn
              have hX := hX.trans hE23 λy hy e => absurd hy (Nat.not_lt.2 (hqN.new y e))
              refine j6 ge Z ?_
              have hb15o := hb15
              refine qk hb15 Z Z Z λw24 hb15 hE24 hs24 =>?_
              have hb31 := hb31.gk hE24 ne31_15
              have hN := hN.gi hE24 fr15
              have hM2 := hM2.gk hE24 hb15o
              have hq := hq.gk hE24 hb15o zd
              have hX := hX.gi hE24 fr15
              refine gl ?_
              exact jr (j2 (gs ++ [hs[i]], q4, k4) Z ⟨⟨by rw [bU, hgo, hst]; rfl, λg hg => (aS.1 hg).elim (hgm g) λe => by rw [aF.1 e]; exact aC hi3, hq, by rw [bU]; exact hM2, hN⟩, hb31, hb15, hX⟩)
            · have hled : ¬ yw3 X.s.row roots (vv X.s.row[i]) := λe => by rw [(hmk.2 i hi2).2 e] at hc; cases hc
              rw [aI hled, bE] at hst
              refine qf ?_
              exact jr (j2 (gs, q, c) Z ⟨⟨hgo.trans hst.symm, hgm, hq, hM2, hN⟩, hb31, hb15, hX⟩)
          rintro ⟨gs2, q2, c2⟩ w25 ⟨⟨hgo, hgm, hq, hM2, hN⟩, hb31, hb15, hX⟩
          try dsimp only
          dsimp only at hgo hgm hq hM2 hb15
          refine yy Z ?_
          rw [qc _ zk]
          refine gl ?_
          exact jh (i + 1, gs2, q2, c2) Z ⟨⟨hi3, hgo, hgm, hq, hM2, hN⟩, hb31, hb15, hX⟩ zm
        · have h0 : i = hs.length := by omega
          subst h0
          refine Bh (gp (qj Z ?_))
          have hb15 : j0 w18 b15 121 (uk.c ⟨q, c, gs, some r2, vp, vc, vs⟩) := hb15
          have hnz15 := hb15.lt
          have hN0 := hN
          refine jf hb15 Z Z ?_
          have hkp : gs.map je.o = (Dj X.s roots).row := by rw [hgo, <- hrn, bM]; rfl
          have hs2 : uk.s ⟨q, c, gs, some r2, vp, vc, vs⟩ = Dj X.s roots := by
            show (⟨gs.map je.o, vs.map Prod.fst⟩ : Ax) = ⟨(Dj X.s roots).row, X.s.vals⟩
            rw [hkp, hXv]
          obtain ⟨G, hGk, hGl, hG⟩ : ∃ G : Nat -> Prop, (∀ y, G y -> K y \/ w.heap.size <= y) /\ (∀ y, G y -> y < w18.heap.size) /\ y7 w18 G ⟨q, c, gs, some r2, vp, vc, vs⟩ := by
            have hgl : gs.length <= hs.length := by
              have e := congrArg List.length hgo
              have e2 := List.length_filter_le (λo => @decide (yw3 X.s.row roots (vv o)) (Classical.propDecidable _)) (X.s.row.take hs.length)
              rw [aA] at e
              rw [aH] at e2
              omega
            have hv0 := k.has.vals.ga hN
            refine ⟨λy => K y \/ (w.heap.size <= y /\ y < w18.heap.size), λy hy => hy.imp id And.left, λy hy => hy.elim (λe => aK (k.klt y e) hN.size) And.right, ⟨hq.sl, hq.own.cap, .inr ⟨r2, rfl, hM2⟩, hv0, k.has.vc, λx hx => ((k.has.o x (hgm x hx)).ext hN λ_ _ => id).mono λ_ => .inl, λx hx => ((k.has.v x hx).ext hN λ_ _ => id).mono λ_ => .inl, λb off e =>?_, k.has.fv.mono λ_ => .inl, λy e =>?_, by show gs.length < _; omega, k.has.fev⟩⟩
            · obtain ⟨h1, h2⟩ := hq.zv1 e
              exact .inr ⟨h1, h2⟩
            · cases e
              exact .inr ⟨frr2, hM2.lt⟩
          have hn2 : (uk.s ⟨q, c, gs, some r2, vp, vc, vs⟩).Ok := by rw [hs2]; exact kept_ok hsok roots
          refine gj call56 Z (sanew_calls w18 (k.ga hN) hok hm hW (hr.ext hN id) hF0 hG hn2) λv26 w26 hr26 =>?_
          obtain ⟨rfl, hsq⟩ := hr26
          obtain ⟨_, _, _, _, _, hE4⟩ := id hsq
          have hb15 := hb15.ext hE4 (hout b15 fr15)
          have hX := hX.then (hE4.mono λy _ e => e.imp id .inl)
          have hcj := hsq.com hN.size hG λy hy => ⟨λe => (hGk y hy).elim (λe2 => (k.kf y e2).1 e) λe2 => by have := k.disk.lt y e; omega, λe => (hGk y hy).elim (λe2 => (k.kf y e2).2 e) λe2 => by have := k.log.lt y e; omega, λe => (hGk y hy).elim (λe2 => k.sf.2.2 (e ▸ e2)) λe2 => by have := k.box.lt; omega, hGl y hy⟩
          rw [hs2] at hcj |-
          obtain ⟨F5, H5, k5, hF5, hH5, hG5, hg5⟩ := hcj
          have hsw : B4 X roots = ((C0 X (Dj X.s roots)).1, if (C0 X (Dj X.s roots)).2 = 0 then (X.s.row.length : Int) - (Dj X.s roots).row.length else 0, (C0 X (Dj X.s roots)).2) := by
            rw [B4, aI hbr, aI λe => e hall]
          have has := anew_s X (Dj X.s roots)
          refine kg Z (kw Z (jy Z (λhc =>?_) (λhc =>?_)))
          · rw [aI hc] at has
            rw [aI hc] at hsw
            have e5 := sd_eta has
            refine kw Z (gv (gu (Bz (u7 [_, _] ⟨Z, rfl, trivial⟩ ?_))))
            exact ⟨by rw [hsw]; rfl, by rw [hsw]; dsimp only; rw [e5]; exact ⟨F5, H5, K, _, k5, hF5, hH5, λ_ => .inl⟩, hX⟩
          · have h00 : (C0 X (Dj X.s roots)).2 = 0 := aT.1 hc
            rw [aL h00] at has
            rw [aL h00] at hsw
            have e5 := sd_eta has
            have hWG := Ext.refl No w26
            have hgl9 : gs.length <= hs.length := by have e := congrArg List.length hkp; rw [aA] at e; rw [e, <- hrn]; exact List.length_filter_le ..
            refine xg (gp (ke Z 11 [qP 0, qP 1, qP 2, qP 3, qP 4, qP 5, qP 6, qP 7, qP 8, qP 9, qP 10] [] (No) zf λw27 hE27 hs27 =>?_))
            have hd15 := hb15
            have hNd := hN
            have hM2d := hM2
            have hqd := hq
            have k5d := k5
            have hWGd := hWG
            have hXd := hX
            have hb15 := hb15.ga hE27
            have k5 := k5.ga hE27
            have hWG := hWG.gb hE27
            have hX := hX.gb hE27
            have hC : Ext (No) _ w27 := hE27.no
            refine gw ge 4 Z (j5 ge Z Z (λw' hw' => ((k5d.box.ga hw').cell Z)) ?_)
            refine gw ge 2 Z (j5 ge Z Z (λw' hw' => (hd15.ga hw').cell Z) ?_)
            refine gw ge 2 Z ?_
            dsimp only
            rw [qc _ zk]
            refine gw ge 1 Z (js (ja (jq (qj Z (jf hb15 Z Z (j6 ge Z ?_))))))
            refine wl (Ci ge k5.box Z Z (aB _) (OneC.h (l := uk.c ⟨q, c, gs, some r2, vp, vc, vs⟩)) λw28 hbx5 hE28 hs28 =>?_)
            have hX := hX.then (hE28.mono λy _ e => .inr (.inr e))
            have hg6 : ∀ y, G y -> ¬ One sp y := λy hy => (hg5 y hy).2.2.1
            have hgu := hE28.size
            have k6 : StA w28 sp x d F5 H5 G ⟨(C0 X (Dj X.s roots)).1.W, Dj X.s roots⟩ ⟨q, c, gs, some r2, vp, vc, vs⟩ := ⟨hbx5, k5.disk.ext hE28 λy hy e => k5.sf.1 (by have e : y = sp := e; exact e ▸ hy), k5.log.ext hE28 λy hy e => k5.sf.2.1 (by have e : y = sp := e; exact e ▸ hy), (hG5.ga hWG).ext hE28 hg6, hs2, ⟨r2, rfl⟩, k5.hf, λy hy => ⟨(hg5 y hy).1, (hg5 y hy).2.1⟩, ⟨k5.sf.1, k5.sf.2.1, λe => (hg5 sp e).2.2.1 Z⟩, λy hy => by have := (hg5 y hy).2.2.2; have := hWG.size; omega⟩
            refine u3 (kw Z (gv (Bz (u7 [_, _] ⟨Z, rfl, trivial⟩ ?_))))
            exact ⟨by rw [hsw, h00, hrn]; rw [<- hkp, aA]; rfl, by rw [hsw]; dsimp only; rw [e5]; exact ⟨F5, H5, G, _, k6, hF5, hH5, hGk⟩, hX⟩
theorem nodup_take {α:Type} {l:List α} (h:l.Nodup) {i:Nat} (hi:i<l.length):l[i]∉l.take i:=λa=>by
 obtain⟨j,b,e⟩:=bG.1 a
 rw[aH] at b
 rw[List.getElem_take] at e
 exact List.pairwise_iff_getElem.1 h j i zk hi zk e
theorem whole_calls (w:World) (hrt:Rt w) {p:Option Addr} {c:Nat} {hs:List je} (h:Sl w p hs.length 105 (hs.flatMap uv)) (hr:∀x∈hs,HeldR w x) (few:hs.length<1000000) (hok:∀x∈hs,yv x.o) (hA:Ahead [] (hs.map je.o)):
  gn prog 49 [.slice p hs.length c] w λv w'=>v= .bool true/\Ext No w w':=by
 have T:hs.map je.id=qi (hs.map je.o):=by rw[qi,List.map_map];exact List.map_congr_left λx U=>(hr x U).id
 have ak:(hs.map je.id).Nodup:=by rw[T];exact(zq9 hA).1
 refine gz func49 ?_;have d:=Ext.refl No w;refine kw Z (qr ?_);have am:=d;refine wl (st_mm zx5 Z λr2 w1 an ap aq a9=>?_);have d:=d.gb aq;have V:=al am.size an;have n:xx5 w1 r2 zx5 (placeOf ((hs.map je.id).take 0)):=ap;refine kg Z (gp (kw Z (j8 (jl (α:=Nat) [3,15,16] Z (λz=>[(17,.int .i64 (z:Int))]) (λz u=>(z<=hs.length/\xx5 u r2 zx5 (placeOf ((hs.map je.id).take z)))/\Ext No w u) (λz u=>hs.length-z) (0) Z ⟨⟨aJ _,n⟩,d⟩ ?_))));rintro i w2 ⟨⟨hi,n⟩,d⟩;refine vo Z (jy Z (λhc=>?_) (λhc=>?_));have B:i<hs.length:=by omega
 have W:i<(hs.map je.id).length:=by rw[aA];exact B
 have X:(hs.map je.id)[i]=hs[i].id:=bQ ..;have m:=hr _ (aC B);have r:hs[i].id.length=32:=by rw[m.id];exact ul _
 have g:vd hs[i].id:=r;have Y:hs[i].id∉(hs.map je.id).take i:=by have e:=nodup_take ak W;rw[X] at e;exact e
 have ar:(hs.map je.id).take (i+1)=(hs.map je.id).take i++[hs[i].id]:=by rw[aO W,X]
 have E:=hok _ (aC B);have I:idB hs[i].o=hs[i].id:=(aL E).trans m.id.symm;have au:yv9 hs[i].o=qd hs[i].o:=aL E;have ba:=xj9 m.ok.2;have F:=links_in m.ok.1;have M:∀x∈qd hs[i].o,x∈(hs.map je.id).take i:=λx U=>by have e:=(yq0 hA (j:=i) (by rw[aA];exact B) x (by rw[bQ];exact U)).resolve_left (λe=>by cases e);rw[<-List.map_take,qi,List.map_map] at e;rw[<-List.map_take];obtain⟨y,hy,e⟩:=aZ.1 e;exact aZ.2 ⟨y,hy,((hr y (bK hy)).id).trans e⟩
 obtain⟨qb,qo,hp,av⟩:=h.qm (λx U=>(hr x U).len) zk;subst hp;refine Bn (qj Z (ki Z 105 Z i Z B (qo+i*105) Z (jk Z ((av i B).ga d) m.len (gt Z λb5 w3 aw a aa=>?_))));have ax:=al d.size aw;have n:=n.ga aa;have d:=d.gb aa;refine j6 ge Z ?_;have ab:=a;refine wl (j9 (l':=uv hs[i]) ge a Z Z m.len (by rw[m.len];rfl) OneC.h λw4 a ac bb=>?_);have n:=n.gk ac ab;have d:=d.gi ac ax;refine u3 (qj Z (jk Z (by have e:=(Seg.append.1 a.ql).2;rw[gm,r] at e;exact e) (gr m.ok.1) (gj call129 Z (idObj_calls w4 m.ok.1 (m.l.ga d) m.ok.2 (hrt.ext d id)) ?_)));rintro v5 w5⟨rfl,N⟩;have a:=a.ga N;have n:=n.ga N;have d:=d.gb N;rw[I,show objE hs[i].o=0 from aL E];refine j6 ge Z (gt Z λb6 w6 ad f O=> have P:=j3 a.lt ad;have az:=al d.size ad;have a:=a.ga O;have n:=n.ga O;have d:=d.gb O;have ae:=f;wl (j9 (l':=gh hs[i].id) ge f Z Z (by rw[gm,r]) (by rw[gm,r];rfl) OneC.h λQ f R bc=> have a:=a.gk R P;have n:=n.gk R ae;have d:=d.gi R az;kg Z (gp (qj Z (jf f Z g.len (wl (st_lu ge Z idK g Z n ?_)))))));simp only[cT];rw[Dl,decide_eq_false Y];refine kg Z (ju (α:=Bool) [3,4,5,6,15,16,17] Z (λz=>[(44,.bool z)]) (λz u=>u=Q/\z=false) ?_ ?_);refine j1 (j6 ge Z (ut 35 Z (λhg=>?_) (λhg=>?_)));cases hg;refine j4 ge 4 Z (jw 39 Z (λhg=>?_) (λhg=>?_));exact absurd Z hg;exact jf f Z g.len (j4 ge 1 Z (jk Z (Seg.append.1 a.ql).1 g.len (wl (yw0 Z gId 10 zd kId (x8 g) (x8 g) (yn g) (yn g) vy (j6 ge Z (gl (j2 (_) Z ⟨Z,zq⟩)))))));rintro z w8 ⟨hu,rfl⟩;have hu:=hu.symm;subst hu;refine uc Z (xg (gp (qj Z (jk Z (by have e:=(Seg.append.1 a.ql).2;rw[gm,r] at e;exact e) (gr m.ok.1) (gj call55 Z (xv8 Q m.ok.1 (m.l.ga d) m.ok.2) ?_)))));rintro v9 w9⟨q,kq,rfl,hq,bd,H⟩;have a:=a.ga H;have f:=f.ga H;have n:=n.ga H;have d:=d.gb H;rw[au] at hq|-;obtain⟨Q,af⟩:∃Q,Q=w9:=⟨_,Z⟩
 rw[<-af] at hq;have J:Ext No Q w9:=af▸Ext.refl No _;refine kg Z (j8 (jl (α:=Nat) [3,4,6,15,16,17,47,48] Z (λz=>[(49,.int .i64 (z:Int))]) (λz u=>(z<=(qd hs[i].o).length/\Ext No Q u/\xx5 u r2 zx5 (placeOf ((hs.map je.id).take i)))/\j0 u b5 126 (uv hs[i])/\j0 u b6 30 (gh hs[i].id)/\Ext No w u) (λz u=>(qd hs[i].o).length-z) (0) Z ⟨⟨aJ _,J,n⟩,a,f,d⟩ ?_));rintro k bf ⟨⟨bg,J,n⟩,a,f,d⟩;refine vo Z (jy Z (λhc=>?_) (λhc=>?_));have G:k<(qd hs[i].o).length:=by omega
 have s:vd (qd hs[i].o)[k]:=F _ (aC G);have a1:=M _ (aC G);obtain⟨bh,a2,a3,ag⟩:=hq.sl.qm (λy hy=>(F y hy).len) zk;subst a3;refine Bn (qr (ki Z 32 Z k Z G (a2+k*32) Z (jk Z ((ag k G).ga J) s.len (have a4:=J;gt Z λbi bj C D t=> have K:=j3 a.lt C;have L:=j3 f.lt C;have ah:=al d.size C;have a:=a.ga t;have f:=f.ga t;have n:=n.ga t;have J:=J.gb t;have d:=d.gb t;have ai:=al a4.size C;have S:=D;wl (j9 (l':=gh (qd hs[i].o)[k]) ge D Z Z s.len (by rw[s.len];rfl) OneC.h λbk D A a7=> have a:=a.gk A K;have f:=f.gk A L;have n:=n.gk A S;have J:=J.gi A ai;have d:=d.gi A ah;u3 (qj Z (jf D Z s.len (wl (st_lu ge Z idK s Z n ?_)))))))));simp only[cT];rw[Dl,bZ a1];refine kg Z (kw Z (uc Z (qf (Bi Z ?_))));rw[qc _ zk];exact gl (jh (k+1) Z ⟨⟨G,J,n⟩,a,f,d⟩ zm);refine xt (qs (qs (ux (jq (yy Z (jf f Z g.len (j6 ge Z (wl (st_mu ge Z idK g Z n (b:=i) Z λa5 a6 aj a8=>?_)))))))));have n:xx5 a5 r2 zx5 (placeOf ((hs.map je.id).take (i+1))):=by have e:=yw7 Y;rw[aH,bP zk] at e;rw[ar,<-e];exact a6
 have d:=d.gi aj V;refine gl (Bi Z ?_);rw[qc _ zk];exact gl (jh (i+1) Z ⟨⟨B,n⟩,d⟩ zm);exact xt (qs (qs (ux (jq (kw Z (gv (gy Z Z ⟨Z,d⟩)))))))
end Go.Proofs.YtpdiphfjmepijaaGreatDoor
