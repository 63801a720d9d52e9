/-
  Walks and laws towards: which store a log of whatever bytes says (StoreSays)
-/
import Derived.ChangeSame
import Derived.ReadAgain
import Derived.RowKit
import Derived.ChangeBears
import Derived.OpenShut
import Derived.Test.YtpdiphfjmepijaaGreatDoorSyD
open List renaming mem_iff_getElem→bF,mem_map→bL,getElem?_map→bZ,drop_eq_getElem_cons→cl,getElem?_append_right→cE,getElem?_append_left→cN,getElem?_eq_some_iff→cU,flatten_cons→cY,flatMap_cons→cZ,take_left'→dB,all_eq_true→dC
open Int renaming toNat_natCast→bT,natCast_nonneg→cT
namespace Go.Proofs.YtpdiphfjmepijaaGreatDoor
open Go.Proofs.Tryz
open Go.Vc
theorem first_bad {l:List UInt8}:((⟨l,false⟩:Ds).off 1).2.bad=true↔l=[]:=by
 cases l with
 |nil=>simp[Ds.off]
 |cons x r=>simp[Ds.off]
theorem row_step {α:Type} {f:Ds->α×Ds} {s0 s:Ds} {acc:List α} {n i:Nat} (h:s0.row f=(acc++(Ds.each f (n-i) s).1,(Ds.each f (n-i) s).2)) (hi:i<n) (hb:s.bad=false):
  s0.row f=((acc++[(f s).1])++(Ds.each f (n-(i+1)) (f s).2).1,(Ds.each f (n-(i+1)) (f s).2).2):=by
 rw[show n-i=(n-(i+1))+1 from by omega,Ds.zx4 hb] at h;rw[h];simp
theorem row_end {α:Type} {f:Ds->α×Ds} {s0 s:Ds} {acc:List α} {n i:Nat} (h:s0.row f=(acc++(Ds.each f (n-i) s).1,(Ds.each f (n-i) s).2)) (hi:¬(i<n/\s.bad=false)):s0.row f=(acc,s):=by
 rw[h,Ds.each_end (by
  by_cases h0:i<n
  cases hb:s.bad
  exact absurd ⟨h0,hb⟩ hi
  exact .inr Z
  exact .inl zo),bJ]
abbrev dC1 (s : Ds) : jr := { uv with kind := ((3 : Nat) : Int) }
abbrev dC2 (s : Ds) : jr := { dC1 s with style := (num (s.off 1).1 : Nat) }
abbrev dC3 (s : Ds) : jr := { dC2 s with tree := (s.off 1).2.id.1 }
abbrev dC4 (s : Ds) : jr := { dC3 s with parents := ((s.off 1).2.id.2.row Ds.id).1 }
abbrev dC5 (s : Ds) : jr := { dC4 s with base := ((s.off 1).2.id.2.row Ds.id).2.id.1 }
theorem decode6_calls (w:World) {p:Option Addr} {c:Nat} {l:List UInt8} (h:ux w p l) (ht:TyU w p) (hc0:l.length<=c) (hl:l.length<1000000000):
  ge prog 175 [.slice p l.length c] w λv w'=>∃a,v= .tuple #[.agg (js (vy l).1 a).toArray,.int .i64 (vy l).2]/\qs w w' (vy l).1 a/\Ext No w w':=by
 refine gt func175 ?_;have f:=Ext.refl No w;refine ki (gn Z λb2 w1 d2 d d3=>?_);have bc:=Nat.le_trans f.size d2;have f:=f.g4 d3;have j:=d;have B:=f;refine k9 Z (jy Z (jv Z ⟨⟨Z,by decide⟩,trivial⟩ (l':=[.slice p l.length c,.bool false]) Z (gn Z λG w2 ak am bd=>?_)));have dy:=gw d.lt ak;have e0:=Nat.le_trans f.size ak;have d:=d.g0 bd;have f:=f.g4 bd;have am:gu w2 G 296 ([.slice p l.length c,.bool false]):=am;have cd:=ak;have hT:TkS w2 G ⟨l,false⟩:=⟨p,c,am,hc0,h.g0 f,ht.ext f λ_ _ _=>id⟩
 refine k9 Z (jy Z (g7 call203 Z (yv6 w2 hT hl 1 zd) ?_));rintro v3 w3⟨rfl,A,bf⟩;have d:=d.g9 bf (hT.ne d zd).symm;have f:=f.trans bf λy hy hF=>by have hF:y=G:=hF;omega
 have hT:=A;have fu:=(⟨l,false⟩:Ds).ug 1;refine gv g5 Z ?_;rw[jt _ zo];let⟨k,hk⟩:∃k,k=num ((⟨l,false⟩:Ds).off 1).1:=⟨_,Z⟩
 rw[<-hk];refine jv Z ⟨⟨Z,by decide⟩,trivial⟩ (l':=js {uv with kind:=(k:Int)} noP) (by rw[<-yx1];rfl) (gn Z λb5 w4 bg bh an=> have ce:=gw d.lt bg;have d5:=Nat.le_trans f.size bg;have d:=d.g0 an;have hT:=TkS.g0 hT an;have f:=f.g4 an;have ck:=bh;wl (gz (l':=js {uv with kind:=(k:Int)} noP) g5 bh Z Z Z Z OneC.h λw5 bh bi fv=>?_));have d:=d.g9 bi ce;have hT:=TkS.g9 hT bi ck zd zd;have f:=f.g8 bi d5;have z1:=B.size;have z2:=bd.size;have z3:=bf.size;have z4:=an.size;have d6:Ext No w1 w5:=(((bd.trans bf λy hy hF=>by have hF:y=G:=hF;omega).g4 an).g8 bi zo)
 have b:Bh w1 w5 G b5 {uv with kind:=(k:Int)} noP ((⟨l,false⟩:Ds).off 1).2:=⟨hT,bh,Own.nil _ _ _,Own.nil _ _ _,Own.nil _ _ _,zz3,zz3,zz3,cd,by omega,d6,Ds.off_lt hl,⟨ky.tree,ky.base,ky.parents,ky.leaves,ky.rows,ky.number,ky.author⟩,⟨yd.leaves,yd.parents,yd.rows,yd.leafP,yd.rowP⟩⟩
 refine qi (jb (α:=jr×vh×Ds) [0,2,4,5] Z (λz=>[]) (λz u=>(Bh w1 u G b5 z.1 z.2.1 z.2.2/\(l=[]/\z.2.2.bad=true\/l≠[]/\vy l=endB l (z.1,z.2.2)))/\gu u b2 37 (cellsOf ti37.zero)/\Ext No w u) ?_ ?_);refine j0 (jy Z (gj Z b.tk.cell (k9 Z (u5 Z (λE=>?_) (λE=>?_)))));have d7:=first_bad.1 E;exact jw (jm (gk (_,_,_) Z ⟨⟨b,.inl ⟨d7,E⟩⟩,d,f⟩));have S:l≠[]:=λe=>by rw[first_bad.2 e] at E;cases E
 refine jy Z (gj Z ((b.bo.kc.obj b.oin).kind) ?_);dsimp only;refine k9 Z (jc Z (λE=>?_) (λE=>?_));obtain rfl:k=1:=by omega
 refine xt Z (g7 call204 Z (text_tk w5 b.tk b.len 2 zd) ?_);rintro v6 w6⟨rfl,A,cm⟩;have d:=d.g9 cm (b.neR d zd);have f:=f;have b:=b.read A cm (Ds.vj _ 2).2;have d:=j.g0 b.X;have f:=B.g4 b.X;refine gv g5 Z (ka b.bo Z Z Z λw7 g d9 fw=>?_);have b:=b.put d9 (o':={uv with kind:=((1:Nat):Int),text:=(((⟨l,false⟩:Ds).off 1).2.str 2).1}) g Z Z Z ⟨b.oin.tree,b.oin.base,b.oin.parents,b.oin.leaves,b.oin.rows,b.oin.number,b.oin.author⟩ ⟨b.sh.leaves,b.sh.parents,b.sh.rows,b.sh.leafP,b.sh.rowP⟩;have d:=j.g0 b.X;have f:=B.g4 b.X;refine ga ?_;exact jm (gk (_,_,_) Z ⟨⟨b,.inr ⟨S,dec1 S hk Z⟩⟩,d,f⟩);have h1:¬k=1:=by omega
 refine jy Z (gj Z ((b.bo.kc.obj b.oin).kind) ?_);dsimp only;refine k9 Z (jc Z (λE=>?_) (λE=>?_));obtain rfl:k=2:=by omega
 generalize hs1:((⟨l,false⟩:Ds).off 1).2=D at b;refine jy Z (g7 call203 Z (yv6 w5 b.tk b.len 1 zd) ?_);rintro v8 w8⟨rfl,A,cn⟩;have d:=d.g9 cn (b.neR d zd);have f:=f;have b:=b.read A cn (Ds.qf _ 1).2.1;have d:=j.g0 b.X;have f:=B.g4 b.X;refine gv g5 Z ?_;rw[jt _ (by have:=D.ug 1;omega)];let⟨n,hn⟩:∃n,n=num (D.off 1).1:=⟨_,Z⟩
 have ap:n<=255:=by have:=D.ug 1;omega
 have J:D.row Ds.leaf=([]++(Ds.each Ds.leaf (n-0) (D.off 1).2).1,(Ds.each Ds.leaf (n-0) (D.off 1).2).2):=by rw[Ds.row,<-hn];rfl
 rw[<-hn];refine k9 Z (j0 (ja (α:=Nat×List (ji)×vh×Ds) [0,2,4,5,7] Z (λz=>[(6,.int .i64 (z.1:Int))]) (λz u=>(z.1<=n/\z.2.1.length<=z.1/\Bh w1 u G b5 {uv with kind:=((2:Nat):Int),leaves:=z.2.1} z.2.2.1 z.2.2.2/\D.row Ds.leaf=(z.2.1++(Ds.each Ds.leaf (n-z.1) z.2.2.2).1,(Ds.each Ds.leaf (n-z.1) z.2.2.2).2))/\gu u b2 37 (cellsOf ti37.zero)/\Ext No w u) (λz u=>n-z.1) (0,[],_,_) Z ⟨⟨aF _,aA _,b,J⟩,d,f⟩ ?_));rintro⟨i,M,H,s⟩ w9 ⟨⟨hi,aq,b,C⟩,d,f⟩;dsimp only at hi aq b C;refine gh (jb (α:=Bool) [0,2,4,5,6,7] Z (λz=>[(50,.bool z)]) (λz u=>u=w9/\z=decide (i<n/\s.bad=false)) ?_ ?_);refine gr (gv g5 Z (j7 44 Z (λhg=>?_) (λhg=>?_)));exact gm g5 3 Z (gj Z b.tk.cell (gm g5 2 Z (ga (gk (_) Z ⟨Z,by cases hbd:s.bad;exact(bN ⟨by omega,Z⟩).symm;exact(bG (λh=>absurd h.2 zd)).symm⟩))));exact gm g5 6 Z (ga (gk (false) Z ⟨Z,(bG (λh=>absurd h.1 zo)).symm⟩));rintro z fx ⟨hu,rfl⟩;have hu:=hu.symm;subst hu;refine jc Z (λE=>?_) (λE=>?_);have ab:=E.1;have ar:=E.2;have bj:=b.len;refine yz (jy Z (g7 call204 Z (text_tk w9 b.tk b.len 1 zd) ?_));rintro fy fz⟨rfl,A,bm⟩;have d:=d.g9 bm (b.neR d zd);have f:=f;have b:=b.read A bm (Ds.vj _ 1).2;have d:=j.g0 b.X;have f:=B.g4 b.X;refine jv Z ⟨⟨Z,by decide⟩,trivial⟩ (l':=ji.cells ⟨(s.str 1).1,B1⟩) (by rw[leafZ_c];rfl) ?_;have cf:=b;refine gn Z λb8 f0 cg F hE12=>?_;have au:=gw d.lt cg;have cq:=Nat.le_trans f.size cg;have d:=d.g0 hE12;have b:=b.g0 hE12;have f:=f.g4 hE12;have aj:=cf.sep cg;have av:=F;refine wl (gz (l':=ji.cells ⟨(s.str 1).1,B1⟩) g5 F Z Z (ji.len Z) (ji.len Z) OneC.h λeb F aw e3=>?_);have d:=d.g9 aw au;have b:=b.g9 aj av zd aw;have f:=f.g8 aw cq;refine qi (jy Z (g7 call205 Z (id_tk eb b.tk b.len) ?_));rintro f1 f2⟨rfl,A,ax⟩;have d:=d.g9 ax (b.neR d zd);have F:=F.g9 ax (b.neR F zd);have f:=f;have b:=b.read A ax (Ds.uq _).2;have d:=j.g0 b.X;have f:=B.g4 b.X;refine gv g5 Z ?_;have av:=F;have ay:=Ds.leaf_in bj;refine wl (Bw g5 F Z (by rw[j4,gb,(s.str 1).2.uq.1]) (by rw[ji.len Z];decide) (by rw[j4];exact OneC.h) λec F az e4=>?_);have d:=d.g9 az au;have b:=b.g9 aj av zd az;have f:=f.g8 az cq;have F:gu ec b8 148 ((s.leaf.1).cells):=(by have:=F;rw[j4,leaf_put Z (s.str 1).2.uq.1] at this;exact this)
 refine qi (xt Z (gj Z ((b.bo.kc.obj b.oin).leaves) (j8 F Z (ji.len ay.2) (wl (kz g5 Z 33 Z leafZ_c (ji.len Z) zd zd ⟨⟨by rw[j4];exact(ji.len ay.2),by decide⟩,trivial⟩ (l':=(s.leaf.1).cells) (one_leaf ay.2) λed f3 a0 cs ae e5=> have dz:=gw d.lt a0;have d0:=gw F.lt a0;have e6:=Nat.le_trans f.size a0;have d:=d.g0 ae;have F:=F.g0 ae;have b:=b.g0 ae;have f:=f.g4 ae;have ct:=f;wl (ul g5 Z 33 48 Z Z Z zd b.ol (Src.slice (m:=1) ⟨ji.len ay.2,.inr ⟨ed,0,Z,cs.kc⟩⟩ OneC.h) zm zn λee ef f4 bn a1 bp=>?_))))));dsimp only at bn a1 bp|-;have T:=b.bo.jq b.ol a1 (show(148:Nat)≠37 from by decide);refine gv g5 Z (ka T Z Z Z λeg g cu e7=>?_);have g:gu eg b5 37 (js {uv with kind:=((2:Nat):Int),leaves:=M++[s.leaf.1]} ⟨ee,ef,H.pp,H.pc,H.rp,H.rc⟩):=by simp only[js,al];exact g
 have b:=b.putLeaf (r:=s.leaf.1) a1 bn bp cu g ay (by have:=s.vj 1;show(s.str 1).1.length<_;omega) zn;have d:=j.g0 b.X;have f:=B.g4 b.X;refine ga (yt Z ?_);rw[jt _ zo];exact ga (j9 (i+1,_,_,_) Z ⟨⟨by dsimp only;omega,by dsimp only;rw[al,dI];omega,b,row_step C ab ar⟩,d,f⟩ zf);have C:=row_end C E;exact vw (ke (ke (qu (jm (gk (_,_,_) Z ⟨⟨b,.inr ⟨S,(dec2 S hk Z).trans (by rw[hs1,C];rfl)⟩⟩,d,f⟩)))));have h2:¬k=2:=by omega
 refine jy Z (gj Z ((b.bo.kc.obj b.oin).kind) ?_);dsimp only;refine k9 Z (jc Z (λE=>?_) (λE=>?_));obtain rfl:k=3:=by omega
 generalize hs1:((⟨l,false⟩:Ds).off 1).2=D at b;refine jy Z (g7 call203 Z (yv6 w5 b.tk b.len 1 zd) ?_);rintro f5 eh⟨rfl,A,bq⟩;have d:=d.g9 bq (b.neR d zd);have f:=f;have b:=b.read A bq (Ds.qf _ 1).2.1;have d:=j.g0 b.X;have f:=B.g4 b.X;refine gv g5 Z ?_;rw[jt _ (by have:=D.ug 1;omega)];refine gv g5 Z (g7 call205 Z (id_tk eh b.tk b.len) ?_);rintro f6 f7⟨rfl,A,br⟩;have d:=d.g9 br (b.neR d zd);have f:=f;have b:=b.read A br (Ds.uq _).2;have d:=j.g0 b.X;have f:=B.g4 b.X;refine gv g5 Z (ka b.bo Z Z Z λf8 g cx e8=>?_);have b:=b.put cx (o':=(dC2 D)) g Z Z Z ⟨b.oin.tree,b.oin.base,b.oin.parents,b.oin.leaves,b.oin.rows,b.oin.number,b.oin.author⟩ ⟨b.sh.leaves,b.sh.parents,b.sh.rows,b.sh.leafP,b.sh.rowP⟩;have d:=j.g0 b.X;have f:=B.g4 b.X;refine gv g5 Z (wl (Bw g5 b.bo Z (by rw[j4,gb,(Ds.uq _).1]) (by rw[gi b.oin];decide) (by rw[j4];exact OneC.h) λei g cy e9=>?_));rw[j4] at g;have g:=(show _=_ from objC_tree b.oin (Ds.uq _).1)▸g;have b:=b.put cy (o':=(dC3 D)) g Z Z Z ⟨(Ds.uq _).1,b.oin.base,b.oin.parents,b.oin.leaves,b.oin.rows,b.oin.number,b.oin.author⟩ ⟨b.sh.leaves,b.sh.parents,b.sh.rows,b.sh.leafP,b.sh.rowP⟩;have d:=j.g0 b.X;have f:=B.g4 b.X;refine qi (gh (jy Z (g7 call203 Z (yv6 ei b.tk b.len 1 zd) ?_)));rintro f9 gc⟨rfl,A,bs⟩;have d:=d.g9 bs (b.neR d zd);have f:=f;have b:=b.read A bs (Ds.qf _ 1).2.1;have d:=j.g0 b.X;have f:=B.g4 b.X;refine gv g5 Z ?_;rw[jt _ (by have:=(D.off 1).2.id.2.ug 1;omega)];let⟨n,hn⟩:∃n,n=num ((D.off 1).2.id.2.off 1).1:=⟨_,Z⟩
 have ap:n<=255:=by have:=(D.off 1).2.id.2.ug 1;omega
 have J:(D.off 1).2.id.2.row Ds.id=([]++(Ds.each Ds.id (n-0) ((D.off 1).2.id.2.off 1).2).1,(Ds.each Ds.id (n-0) ((D.off 1).2.id.2.off 1).2).2):=by rw[Ds.row,<-hn];rfl
 rw[<-hn];refine k9 Z (j0 (ja (α:=Nat×List (List UInt8)×vh×Ds) [0,2,4,5,10] Z (λz=>[(9,.int .i64 (z.1:Int))]) (λz u=>(z.1<=n/\z.2.1.length<=z.1/\Bh w1 u G b5 {dC3 D with parents:=z.2.1} z.2.2.1 z.2.2.2/\(D.off 1).2.id.2.row Ds.id=(z.2.1++(Ds.each Ds.id (n-z.1) z.2.2.2).1,(Ds.each Ds.id (n-z.1) z.2.2.2).2))/\gu u b2 37 (cellsOf ti37.zero)/\Ext No w u) (λz u=>n-z.1) (0,[],_,_) Z ⟨⟨aF _,aA _,b,J⟩,d,f⟩ ?_));rintro⟨i,M,H,s⟩ c0 ⟨⟨hi,aq,b,C⟩,d,f⟩;dsimp only at hi aq b C;refine gh (jb (α:=Bool) [0,2,4,5,9,10] Z (λz=>[(88,.bool z)]) (λz u=>u=c0/\z=decide (i<n/\s.bad=false)) ?_ ?_);refine gr (gv g5 Z (j7 82 Z (λhg=>?_) (λhg=>?_)));exact gm g5 3 Z (gj Z b.tk.cell (gm g5 2 Z (ga (gk (_) Z ⟨Z,by cases hbd:s.bad;exact(bN ⟨by omega,Z⟩).symm;exact(bG (λh=>absurd h.2 zd)).symm⟩))));exact gm g5 6 Z (ga (gk (false) Z ⟨Z,(bG (λh=>absurd h.1 zo)).symm⟩));rintro z gd ⟨hu,rfl⟩;have hu:=hu.symm;subst hu;refine jc Z (λE=>?_) (λE=>?_);have ab:=E.1;have ar:=E.2;have bj:=b.len;refine yz (jl Z 7 [qP 0,qP 1,qP 2,(3,false),(4,false),(5,false),qP 6] [7] ((λx=>x=G\/j5 H.pp x)) zk λc1 af fa=>?_);have N:=d;have ej:=hT;have K:=b;have c2:=f;have d:=d.g0 af;have b:=b.g0 af;have f:=f.g4 af;have U:Ext ((λx=>x=G\/j5 H.pp x)) _ c1:=af.no;have bg:¬(λx=>x=G\/j5 H.pp x) b5:=λe=>e.elim (K.neR K.bo zd) λhx=>K.op.C4 hx K.bo zd Z;have ag:=s.uq;refine gl g5 1 Z (gy g5 Z Z (λw' ac=>((K.bo.ext (show Ext (λx=>x=G\/j5 H.pp x) _ w' from ac) bg).kc.obj K.oin).parents) (gl g5 1 Z (jg Z (gx call205 Z (id_tk c1 b.tk b.len) λgf gg bt=>⟨(by let⟨rfl,A,V⟩:=bt;exact U.then (V.mono λ_ _ e=> .inl e)),?_⟩))));obtain⟨rfl,A,V⟩:=bt;have d:=d.g9 V (b.neR d zd);have f:=f;have U:=U.then (V.mono λ_ _ e=> .inl e);have b:=b.read A V s.uq.2;have d:=j.g0 b.X;have f:=B.g4 b.X;refine jg Z (kz g5 Z 32 Z A0.symm zi zd zd ⟨⟨by rw[j4];exact(uc.len ag.1),by decide⟩,trivial⟩ (l':=g6 s.id.1) (yw8 ag.1) λgq gs bu c3 W fb=>⟨U.g4 W,have d1:=gw d.lt bu;have fc:=Nat.le_trans f.size bu;have d:=d.g0 W;have b:=b.g0 W;have f:=f.g4 W;have U:=U.g4 W;have ct:=f;jg Z (ul g5 Z 32 32 Z Z Z zd b.op (Src.slice (m:=1) (xv1 ag.1 c3) OneC.h) zm zn λek em g1 bv Y bw=>⟨U.then (Y.mono λ_ _ e=> .inr e),?_⟩)⟩);have U:=U.then (Y.mono λ_ _ e=> .inr e);dsimp only at bv Y bw|-;have T:=b.bo.jq b.op Y (show(30:Nat)≠37 from by decide);refine gl g5 1 Z (jd (wb Z (uh g5 T Z Z (by rw[gi b.oin];decide) λc4 g c5 fd=>?_)));have g:=(show _=_ from Aj b.oin 0 _)▸(show gu c4 b5 37 ((js _ H).set (68+0) _) from g);have g:gu c4 b5 37 (js {dC3 D with parents:=M++[s.id.1]} ⟨H.lp,H.lc,ek,em,H.rp,H.rc⟩):=by simp only[js,al];exact g
 have b:=b.putId (r:=s.id.1) Y bv bw c5 g ag.1 zn;have d:=j.g0 b.X;have f:=B.g4 b.X;refine j1 (yt Z ?_);rw[jt _ zo];exact ga (j9 (i+1,_,_,_) Z ⟨⟨by dsimp only;omega,by dsimp only;rw[al,dI];omega,b,row_step C ab ar⟩,d,f⟩ zf);have C:=row_end C E;have e1:M=((D.off 1).2.id.2.row Ds.id).1:=by rw[C]
 have e2:s=((D.off 1).2.id.2.row Ds.id).2:=by rw[C]
 subst e1;subst e2;refine zu (jy Z (g7 call205 Z (id_tk c0 b.tk b.len) ?_));rintro g2 g3⟨rfl,A,bx⟩;have d:=d.g9 bx (b.neR d zd);have f:=f;have b:=b.read A bx (Ds.uq _).2;have d:=j.g0 b.X;have f:=B.g4 b.X;refine gv g5 Z (wl (Bw g5 b.bo Z (by rw[j4,gb,(Ds.uq _).1]) (by rw[gi b.oin];decide) (by rw[j4];exact OneC.h) λen g c7 fe=>?_));rw[j4] at g;have g:=(show _=_ from objC_base b.oin (Ds.uq _).1)▸g;have b:=b.put c7 (o':=(dC5 D)) g Z Z Z ⟨b.oin.tree,(Ds.uq _).1,b.oin.parents,b.oin.leaves,b.oin.rows,b.oin.number,b.oin.author⟩ ⟨b.sh.leaves,b.sh.parents,b.sh.rows,b.sh.leafP,b.sh.rowP⟩;have d:=j.g0 b.X;have f:=B.g4 b.X;refine qi (gh (jy Z (g7 call203 Z (yv6 en b.tk b.len 1 zd) ?_)));rintro ha hb⟨rfl,A,bz⟩;have d:=d.g9 bz (b.neR d zd);have f:=f;have b:=b.read A bz (Ds.qf _ 1).2.1;have d:=j.g0 b.X;have f:=B.g4 b.X;refine gv g5 Z ?_;rw[jt _ (by have:=((D.off 1).2.id.2.row Ds.id).2.id.2.ug 1;omega)];let⟨n,hn⟩:∃n,n=num (((D.off 1).2.id.2.row Ds.id).2.id.2.off 1).1:=⟨_,Z⟩
 have ap:n<=255:=by have:=((D.off 1).2.id.2.row Ds.id).2.id.2.ug 1;omega
 have J:((D.off 1).2.id.2.row Ds.id).2.id.2.row Ds.chg=([]++(Ds.each Ds.chg (n-0) (((D.off 1).2.id.2.row Ds.id).2.id.2.off 1).2).1,(Ds.each Ds.chg (n-0) (((D.off 1).2.id.2.row Ds.id).2.id.2.off 1).2).2):=by rw[Ds.row,<-hn];rfl
 rw[<-hn];refine k9 Z (j0 (ja (α:=Nat×List (uw)×vh×Ds) [0,2,4,5,12] Z (λz=>[(11,.int .i64 (z.1:Int))]) (λz u=>(z.1<=n/\z.2.1.length<=z.1/\Bh w1 u G b5 {dC5 D with rows:=z.2.1} z.2.2.1 z.2.2.2/\((D.off 1).2.id.2.row Ds.id).2.id.2.row Ds.chg=(z.2.1++(Ds.each Ds.chg (n-z.1) z.2.2.2).1,(Ds.each Ds.chg (n-z.1) z.2.2.2).2))/\gu u b2 37 (cellsOf ti37.zero)/\Ext No w u) (λz u=>n-z.1) (0,[],_,_) Z ⟨⟨aF _,aA _,b,J⟩,d,f⟩ ?_));rintro⟨i,M,H,s⟩ ch ⟨⟨hi,aq,b,C⟩,d,f⟩;dsimp only at hi aq b C;refine gh (jb (α:=Bool) [0,2,4,5,11,12] Z (λz=>[(113,.bool z)]) (λz u=>u=ch/\z=decide (i<n/\s.bad=false)) ?_ ?_);refine gr (gv g5 Z (j7 107 Z (λhg=>?_) (λhg=>?_)));exact gm g5 3 Z (gj Z b.tk.cell (gm g5 2 Z (ga (gk (_) Z ⟨Z,by cases hbd:s.bad;exact(bN ⟨by omega,Z⟩).symm;exact(bG (λh=>absurd h.2 zd)).symm⟩))));exact gm g5 6 Z (ga (gk (false) Z ⟨Z,(bG (λh=>absurd h.1 zo)).symm⟩));rintro z hd ⟨hu,rfl⟩;have hu:=hu.symm;subst hu;refine jc Z (λE=>?_) (λE=>?_);have ab:=E.1;have ar:=E.2;have bj:=b.len;refine yz (jy Z (g7 call204 Z (text_tk ch b.tk b.len 1 zd) ?_));rintro he hf⟨rfl,A,b0⟩;have d:=d.g9 b0 (b.neR d zd);have f:=f;have b:=b.read A b0 (Ds.vj _ 1).2;have d:=j.g0 b.X;have f:=B.g4 b.X;refine jv Z ⟨⟨Z,by decide⟩,trivial⟩ (l':=uw.cells ⟨(s.str 1).1,false,[]⟩) (by rw[chgZ_c];rfl) ?_;have cf:=b;refine gn Z λda hh a3 t a4=>?_;have Q:=gw d.lt a3;have a5:=Nat.le_trans f.size a3;have d:=d.g0 a4;have b:=b.g0 a4;have f:=f.g4 a4;have aj:=cf.sep a3;have L:=t;refine wl (gz (l':=uw.cells ⟨(s.str 1).1,false,[]⟩) g5 t Z Z Z Z OneC.h λep t a6 ff=>?_);have d:=d.g9 a6 Q;have b:=b.g9 aj L zd a6;have f:=f.g8 a6 a5;refine qi (jy Z (g7 call203 Z (yv6 ep b.tk b.len 1 zd) ?_));rintro hj hm⟨rfl,A,a7⟩;have d:=d.g9 a7 (b.neR d zd);have t:=t.g9 a7 (b.neR t zd);have f:=f;have b:=b.read A a7 (Ds.qf _ 1).2.1;have d:=j.g0 b.X;have f:=B.g4 b.X;refine gv g5 Z ?_;have L:=t;refine ka t Z Z Z λdc t a8 fg=>?_;have d:=d.g9 a8 Q;have b:=b.g9 aj L zd a8;have f:=f.g8 a8 a5;have t:gu dc da 150 (uw.cells ⟨(s.str 1).1,(decide (0<num ((s.str 1).2.off 1).1)),[]⟩):=(by have e:decide ((num ((s.str 1).2.off 1).1:Int)>0)=(decide (0<num ((s.str 1).2.off 1).1)):=aH.2 zo;rw[<-e];exact t)
 refine qi (jy Z (g7 call204 Z (text_tk dc b.tk b.len 2 zd) ?_));rintro hp hr⟨rfl,A,a9⟩;have d:=d.g9 a9 (b.neR d zd);have t:=t.g9 a9 (b.neR t zd);have f:=f;have b:=b.read A a9 (Ds.vj _ 2).2;have d:=j.g0 b.X;have f:=B.g4 b.X;refine gv g5 Z ?_;have L:=t;have eq:=Ds.chg_in bj;refine ka t Z Z Z λer t ba fh=>?_;have d:=d.g9 ba Q;have b:=b.g9 aj L zd ba;have f:=f.g8 ba a5;have t:gu er da 150 ((s.chg.1).cells):=t;refine qi (xt Z (gj Z ((b.bo.kc.obj b.oin).rows) (j8 t Z Z (wl (kz g5 Z 3 Z chgZ_c Z zd zd ⟨⟨Z,by decide⟩,trivial⟩ (l':=(s.chg.1).cells) Z λde hs ad ci ah fi=>?_)))));have df:=gw d.lt ad;have cj:=gw t.lt ad;have es:=Nat.le_trans f.size ad;have d:=d.g0 ah;have t:=t.g0 ah;have b:=b.g0 ah;have f:=f.g4 ah;have ct:=f;refine wl (ul g5 Z 3 40 Z Z Z zd b.or (Src.slice (m:=1) ⟨Z,.inr ⟨de,0,Z,ci.kc⟩⟩ OneC.h) zm zn λet eu hv b1 bb b3=>?_);dsimp only at b1 bb b3|-;have T:=b.bo.jq b.or bb (show(150:Nat)≠37 from by decide);refine gv g5 Z (wl (uh g5 T Z Z (by rw[gi b.oin];decide) λdg g dh fj=>?_));have g:=(show _=_ from Aj b.oin 1 _)▸(show gu dg b5 37 ((js _ H).set (68+1) _) from g);have g:gu dg b5 37 (js {dC5 D with rows:=M++[s.chg.1]} ⟨H.lp,H.lc,H.pp,H.pc,et,eu⟩):=by simp only[js,al];exact g
 have b:=b.putChg (r:=s.chg.1) bb b1 b3 dh g eq (by have:=s.vj 1;show(s.str 1).1.length<_;omega) zn;have d:=j.g0 b.X;have f:=B.g4 b.X;refine ga (yt Z ?_);rw[jt _ zo];exact ga (j9 (i+1,_,_,_) Z ⟨⟨by dsimp only;omega,by dsimp only;rw[al,dI];omega,b,row_step C ab ar⟩,d,f⟩ zf);have C:=row_end C E;have di:D.com=({dC5 D with rows:=M,number:=num (s.off 4).1,author:=num ((s.off 4).2.off 4).1,note:=(((s.off 4).2.off 4).2.str 1).1},(((s.off 4).2.off 4).2.str 1).2):=by unfold Ds.com;dsimp only;rw[C];rfl
 refine zu (jy Z (g7 call203 Z (yv6 ch b.tk b.len 4 zd) ?_));rintro hw ev⟨rfl,A,b4⟩;have d:=d.g9 b4 (b.neR d zd);have f:=f;have b:=b.read A b4 (Ds.qf _ 4).2.1;have d:=j.g0 b.X;have f:=B.g4 b.X;refine gv g5 Z ?_;rw[IntWalk.u32_in _ (by have:=Ds.ug s 4;omega)];refine gv g5 Z (g7 call203 Z (yv6 ev b.tk b.len 4 zd) ?_);rintro hz h0⟨rfl,A,b6⟩;have d:=d.g9 b6 (b.neR d zd);have f:=f;have b:=b.read A b6 (Ds.qf _ 4).2.1;have d:=j.g0 b.X;have f:=B.g4 b.X;refine gv g5 Z ?_;rw[IntWalk.u32_in _ (by have:=Ds.ug (s.off 4).2 4;omega)];refine gv g5 Z (wl (uh g5 b.bo Z Z (by rw[gi b.oin];decide) λew g dm fk=>?_));have g:=(show _=_ from Aj b.oin 2 _)▸(show gu ew b5 37 ((js _ H).set (68+2) _) from g);have b:=b.put dm (o':={dC5 D with rows:=M,number:=num (s.off 4).1}) g Z Z Z ⟨b.oin.tree,b.oin.base,b.oin.parents,b.oin.leaves,b.oin.rows,(Ds.ug _ 4),b.oin.author⟩ ⟨b.sh.leaves,b.sh.parents,b.sh.rows,b.sh.leafP,b.sh.rowP⟩;have d:=j.g0 b.X;have f:=B.g4 b.X;refine gv g5 Z (wl (uh g5 b.bo Z Z (by rw[gi b.oin];decide) λdn g dp fm=>?_));have g:=(show _=_ from Aj b.oin 3 _)▸(show gu dn b5 37 ((js _ H).set (68+3) _) from g);have b:=b.put dp (o':={dC5 D with rows:=M,number:=num (s.off 4).1,author:=num ((s.off 4).2.off 4).1}) g Z Z Z ⟨b.oin.tree,b.oin.base,b.oin.parents,b.oin.leaves,b.oin.rows,b.oin.number,(Ds.ug _ 4)⟩ ⟨b.sh.leaves,b.sh.parents,b.sh.rows,b.sh.leafP,b.sh.rowP⟩;have d:=j.g0 b.X;have f:=B.g4 b.X;refine qi (xt Z (g7 call204 Z (text_tk dn b.tk b.len 1 zd) ?_));rintro h4 h5⟨rfl,A,b7⟩;have d:=d.g9 b7 (b.neR d zd);have f:=f;have b:=b.read A b7 (Ds.vj _ 1).2;have d:=j.g0 b.X;have f:=B.g4 b.X;refine gv g5 Z (wl (uh g5 b.bo Z Z (by rw[gi b.oin];decide) λex g dr fn=>?_));have g:=(show _=_ from Aj b.oin 4 _)▸(show gu ex b5 37 ((js _ H).set (68+4) _) from g);have b:=b.put dr (o':={dC5 D with rows:=M,number:=num (s.off 4).1,author:=num ((s.off 4).2.off 4).1,note:=(((s.off 4).2.off 4).2.str 1).1}) g Z Z Z ⟨b.oin.tree,b.oin.base,b.oin.parents,b.oin.leaves,b.oin.rows,b.oin.number,b.oin.author⟩ ⟨b.sh.leaves,b.sh.parents,b.sh.rows,b.sh.leafP,b.sh.rowP⟩;have d:=j.g0 b.X;have f:=B.g4 b.X;refine ga ?_;exact jm (gk (_,_,_) Z ⟨⟨b,.inr ⟨S,(dec3 S hk Z).trans (by rw[hs1,di])⟩⟩,d,f⟩);have h3:¬k=3:=by omega
 exact ki (jv Z trivial (l':=js uv noP) yx1.symm (wl (gz (l':=js uv noP) g5 d Z Z Z Z OneC.h λh6 d ds fp=> have f:=f.g8 ds bc;vl Z (u0 (j2 (ko [_,_] ⟨⟨b2,0,Z,kj g5 Z Z d.kc Z⟩,Z,trivial⟩ ⟨noP,by rw[dec4 S hk h1 h2 h3];rfl,by rw[dec4 S hk h1 h2 h3];exact qs.nil _ _ _ Z Z Z,f⟩))))));rintro⟨o,H,s⟩ h7 ⟨⟨b,b9⟩,d,f⟩;refine gh (jy Z (gj Z b.tk.cell (qi (u5 Z (λE=>?_) (λE=>?_)))));have N:vy l=(uv,7):=by rcases b9 with⟨h1,_⟩|⟨_,h1⟩;exact dec0 h1;rw[h1,endB];exact aM E
 exact ki (jv Z trivial (l':=js uv noP) yx1.symm (wl (gz (l':=js uv noP) g5 d Z Z Z Z OneC.h λh8 d dt fq=> have f:=f.g8 dt bc;vl Z (j2 (ko [_,_] ⟨⟨b2,0,Z,kj g5 Z Z d.kc Z⟩,Z,trivial⟩ ⟨noP,by rw[N];rfl,by rw[N];exact qs.nil _ _ _ Z Z Z,f⟩)))));have du:vy l=if xf o/\laidB o=l then(o,0) else(uv,160):=by rcases b9 with⟨_,h1⟩|⟨_,h1⟩;rw[h1] at E;cases E;rw[h1,endB];exact aJ (by rw[E];decide)
 refine vo (gh (jb (α:=Bool) [2,5] Z (λz=>[(160,.bool z)]) (λz u=>(z=decide (¬(xf o/\laidB o=l))/\Bh w1 u G b5 o H s)/\gu u b2 37 (cellsOf ti37.zero)/\Ext No w u) ?_ ?_));refine jl Z 11 [qP 0,(1,false),qP 2,qP 3,qP 4,qP 7,qP 8,(5,false),(6,false),qP 9,qP 10] [] (No) zk λdv ai fr=> have N:=d;have ej:=hT;have K:=b;have c2:=f;have d:=d.g0 ai;have b:=b.g0 ai;have f:=f.g4 ai;have U:Ext (No) _ dv:=ai.no;kw g5 Z Z (λw' ac=>(K.g0 ac).bo.kc) (gi K.oin) (jg Z (gx call94 Z (right6_calls dv b.oin b.new.l b.sh) λh9 ey ca=>⟨(by let⟨rfl,O⟩:=ca;exact U.g4 O),?_⟩));obtain⟨rfl,O⟩:=ca;have d:=d.g0 O;have b:=b.g0 O;have f:=f.g4 O;have U:=U.g4 O;refine gl g5 2 Z (Bo 153 Z (λhg=>?_) (λhg=>?_));have bk:¬xf o:=by simpa using hg
 exact gl g5 7 Z (jd (j1 (gk (_) Z ⟨⟨by symm;rw[aO];exact λh=>bk h.1,b⟩,d,f⟩)));have bk:xf o:=by simpa using hg
 refine kw g5 Z Z (λw' ac=>(K.g0 ac).bo.kc) (gi K.oin) (gl g5 1 Z (wd_b2s g5 Z Z Z (λw' ac=>(h.g0 (c2.g4 ac))) (h.g0 f) (jg Z (gx call99 Z (zx0 ey b.oin b.new.l (bytes_of bk.1)) λia ib cb=>⟨(by obtain⟨q,k2,rfl,hq,ez,P⟩:=cb;exact U.g4 P),?_⟩))));obtain⟨q,k2,rfl,hq,ez,P⟩:=cb;have d:=d.g0 P;have b:=b.g0 P;have f:=f.g4 P;have U:=U.g4 P;exact jg Z (zq5 g5 Z Z hq.sl ⟨U,gl g5 2 Z (jd (j1 (gk (_) Z ⟨⟨by rw[aH];exact⟨λh h2=>h (by rw[h2.2]),λh e=>h ⟨bk,xp e⟩⟩,b⟩,d,f⟩)))⟩);rintro z ic ⟨⟨rfl,b⟩,d,f⟩;refine jc Z (λE=>?_) (λE=>?_);have N:vy l=(uv,160):=by rw[du];exact aJ E
 exact ki (jv Z trivial (l':=js uv noP) yx1.symm (wl (gz (l':=js uv noP) g5 d Z Z Z Z OneC.h λie d dw fs=> have f:=f.g8 dw bc;vl Z (j2 (ko [_,_] ⟨⟨b2,0,Z,kj g5 Z Z d.kc Z⟩,Z,trivial⟩ ⟨noP,by rw[N];rfl,by rw[N];exact qs.nil _ _ _ Z Z Z,f⟩)))));have N:vy l=(o,0):=by rw[du];exact aM (aN.1 E)
 exact vo (ki (je Z b.bo.kc (gi b.oin) (have hN:=b.new;have ab:=b.oin;have dx:=d;wl (gz (l':=js o H) g5 d Z Z (gi b.oin) (gi b.oin) OneC.h λig d cc ft=> have f:=f.g8 cc bc;have hN:=hN.g9 cc dx zd zd zd;vl Z (ko [_,_] ⟨⟨b2,0,Z,kj g5 Z Z d.kc (gi ab)⟩,Z,trivial⟩ ⟨H,by rw[N];rfl,by rw[N];exact hN.older B.size,f⟩)))))
theorem idK:IdKey prog 30:=by
 refine⟨deep_law (m:=10) zo kId zk (by simp only[uId]),λx a=>?_,λ_ _ h=>idV_inj h⟩;have b:Nat.blt 0 prog.types.size=true:=by kernel_rfl
 let⟨d,c⟩:∃d,prog.types.size+1=d+2:=by
  simp_all
 have e:prog.keyType 30=true:=by kernel_rfl
 have f:prog.keyLits (prog.types.size+1) 30 (g6 x)=some (zz8 x):=by rw[c];exact lits_bytes uId cId uByte cByte a
 refine⟨.string (keyBytes (zz8 x)),?_⟩;unfold keyOf;rw[uId];have g:(prog.keyType 30&&(idV x).formed prog 30)=true:=by rw[e,u9 a];rfl
 simp only[g,cH];show(prog.keyLits (prog.types.size+1) 30 (g6 x)).map _=_;rw[f];rfl
theorem yj2 : cellsOf ti126.zero = g6 B1 ++ js uv noP := by kernel_rfl
theorem held_build {i:List UInt8} {o:jr} {a:vh} (hi:i.length=32) (ho:vn o):yk (g6 B1++js uv noP) [(0,32,.agg (g6 i).toArray),(32,73,.agg (js o a).toArray)]=ut ⟨i,o,a⟩:=by
 simp only[yk,j4,ut];rw[put_eq _ 0 _ (by rw[al,gb,gb,hi,gi ky];decide),gb,hi];have c:(g6 B1++js uv noP).drop (0+32)=js uv noP:=List.drop_left' zi;rw[c,List.take_zero,bU];have b:(g6 i).length=32:=by rw[gb,hi]
 rw[put_eq _ 32 _ (by rw[al,b,gi ky,gi ho];exact aA _),gi ho,dB b,List.drop_of_length_le (by rw[al,b,gi ky];exact aA _),bJ]
section
variable {n1 N0 l : Nat} {J : List jk -> World -> Prop} {hs : List jk} {w w' : World}
end
end Go.Proofs.YtpdiphfjmepijaaGreatDoor
namespace Go.Vc
structure Sec where
  safe : List UInt8
  waits : List (List UInt8)
structure kg where
  secs : List Sec
  order : List Nat
  dead : Bool
  fuse : Int
  fault : Int
  done : Int
def zeros : List UInt8 := List.replicate 64 0
def Sec.now (s : Sec) : List UInt8 := s.waits.getLast?.getD s.safe
def kg.fresh (n : Nat) : kg := ⟨List.replicate n ⟨zeros, []⟩, [], false, -1, -1, 0⟩
def kg.now (D : kg) (i : Nat) : List UInt8 := ((D.secs[i]?).map Sec.now).getD zeros
def A4 (burns : Bool) (fu : Int) : Int := if burns = true /\ fu ≠ -1 then fu - 1 else fu
def vk (fa : Int) : Int := if fa = -1 then -1 else fa - 1
def kg.begin (D : kg) (i : Int) (burns : Bool) : kg × Int :=
  if D.dead = true then (D, 9)
  else if ¬ (0 <= i /\ i < D.secs.length) then (D, 2)
  else if D.fault = 0 then ({ D with fault := -1 }, 8)
  else if burns = true /\ D.fuse = 0 then ({ D with fault := vk D.fault, fuse := -1, dead := true }, 9)
  else ({ D with fault := vk D.fault, fuse := A4 burns D.fuse, done := D.done + 1 }, 0)
def Cc (b : List UInt8) (s : Sec) : Sec := ⟨s.safe, s.waits ++ [b]⟩
def kg.put (D : kg) (i : Nat) (b : List UInt8) : kg := { D with secs := D.secs.modify i (Cc b), order := D.order ++ [i] }
def va (b : Bool) (s : Sec) : Sec := ⟨if b then s.waits.headD s.safe else s.safe, s.waits.tail⟩
def Bf (lives : Nat -> Bool) : List Nat -> Nat -> List Sec -> List Sec
  | [], _, secs => secs
  | k :: r, i, secs => Bf lives r (i + 1) (secs.modify k (va (lives i)))
def kg.settle (D : kg) (lives : Nat -> Bool) : kg := { D with secs := Bf lives D.order 0 D.secs, order := [] }
def kg.read (D : kg) (i : Int) : kg × List UInt8 × Int :=
  let x := D.begin i false
  (x.1, if x.2 = 0 then x.1.now i.toNat else zeros, x.2)
def kg.write (D : kg) (i : Int) (b : List UInt8) : kg × Int :=
  let x := D.begin i true
  (if x.2 = 0 then x.1.put i.toNat b else x.1, x.2)
def kg.sync (D : kg) : kg × Int :=
  let x := D.begin 0 true
  (if x.2 = 0 then x.1.settle λ_ => true else x.1, x.2)
def setTo (n : Int) : Int := if n < -1 then -1 else n
def yv8 (keep : List Bool) (i : Nat) : Bool := (keep[i]?).getD false
def kg.zx9 (D : kg) (keep : List Bool) : kg := { D.settle (yv8 keep) with dead := false, fuse := -1, fault := -1 }
structure kg.Ok (D : kg) (m : Nat) : Prop where
  size : 1 <= D.secs.length /\ D.secs.length <= 2048
  safe : ∀ s ∈ D.secs, s.safe.length = 64 /\ ∀ b ∈ s.waits, b.length = 64
  inside : ∀ k ∈ D.order, k < D.secs.length
  count : ∀ i s, D.secs[i]? = some s -> s.waits.length = D.order.count i
  few : D.order.length <= m
  fuse : -1 <= D.fuse /\ D.fuse < 9223372036854775808
  fault : -1 <= D.fault /\ D.fault < 9223372036854775808
  done : 0 <= D.done /\ D.done <= m
theorem setTo_ge (n : Int) (h : n < 9223372036854775808) : -1 <= setTo n /\ setTo n < 9223372036854775808 := by unfold setTo; split <;> omega
theorem fuseTo_ge (b:Bool) (n:Int) (h: -1<=n/\n<9223372036854775808): -1<=A4 b n/\A4 b n<9223372036854775808:=by unfold A4;split<;>omega
theorem faultTo_ge (n : Int) (h : -1 <= n /\ n < 9223372036854775808) : -1 <= vk n /\ vk n < 9223372036854775808 := by unfold vk; split <;> omega
theorem kg.Ok.mono {D:kg} {m m':Nat} (h:D.Ok m) (hm:m<=m'):D.Ok m':=
 ⟨h.size,h.safe,h.inside,h.count,Nat.le_trans h.few hm,h.fuse,h.fault,by have:=h.done;omega⟩
theorem kg.B3 (D:kg) (i:Int) (b:Bool):(D.begin i b).1.secs=D.secs/\(D.begin i b).1.order=D.order:=by
 unfold kg.begin;repeat' split
 all_goals exact⟨Z,Z⟩
theorem kg.Ok.begin {D:kg} {m:Nat} (h:D.Ok m) (i:Int) (b:Bool):(D.begin i b).1.Ok (m+1):=by
 have a:=fuseTo_ge b _ h.fuse;have c:=faultTo_ge _ h.fault;have d:=h.done;have e:=h.fuse;have f:=h.fault;have g:=h.few;unfold kg.begin;repeat' split
 all_goals exact⟨h.size,h.safe,h.inside,h.count,by simp only;omega,by simp only;omega,by simp only;omega,by simp only;omega⟩
theorem kg.begin0 {D:kg} (i:Int) (b:Bool) (h0:(D.begin i b).2=0):0<=i/\i<D.secs.length:=by
 unfold kg.begin at h0;repeat' split at h0
 all_goals first|(simp at h0;done)|(rename_i c _ _;exact aN.1 c)
theorem kg.Ok.put {D:kg} {m:Nat} (h:D.Ok m) {i:Nat} (hi:i<D.secs.length) {b:List UInt8} (hb:b.length=64):(D.put i b).Ok (m+1):=by
 refine⟨by simpa [kg.put] using h.size,?_,?_,?_,?_,h.fuse,h.fault,by have:=h.done;simp only[kg.put];omega⟩;intro s a;simp only[kg.put] at a;obtain⟨j,f,rfl⟩:=bF.1 a;rw[List.getElem_modify];simp only[List.length_modify] at f;have:=h.safe D.secs[j] (aC f);split;refine⟨this.1,λc d=>?_⟩;simp only[Cc,aV,aE] at d;rcases d with d|rfl;exact this.2 c d;exact hb;exact this;intro k e;simp only[kg.put,aV,aE,List.length_modify] at*;rcases e with e|rfl;exact h.inside k e;exact hi;intro j s a;simp only[kg.put] at*;rw[List.getElem?_modify] at a;rw[List.count_append,List.count_singleton];cases hsj:D.secs[j]? with
 |none=>rw[hsj] at a;simp at a
 |some t=>
  rw[hsj] at a;have:=h.count j t hsj;by_cases hij:i=j;subst hij;simp at a;subst a;simp[Cc,this];simp[hij] at a;subst a;have:(i==j)=false:=by simpa using hij
  grind
 have:=h.few;simp only[kg.put,al,dI];omega
theorem Bc (lives:Nat->Bool):∀(l:List Nat) (i:Nat) (secs:List Sec),(Bf lives l i secs).length=secs.length
 | [],_,_=>rfl
 |k::r,i,secs=>by rw[Bf,Bc lives r];simp
theorem xx1 (lives:Nat->Bool):∀(l:List Nat) (i:Nat) (secs:List Sec),(∀s∈secs,s.safe.length=64/\∀b∈s.waits,b.length=64)->∀s∈Bf lives l i secs,s.safe.length=64/\∀b∈s.waits,b.length=64
 | [],_,_,h=>h
 |k::r,i,secs,h=>by
  refine xx1 lives r (i+1) _ λs hs=>?_
  obtain⟨j,hj,rfl⟩:=bF.1 hs
  rw[List.getElem_modify]
  simp only[List.length_modify] at hj
  have:=h secs[j] (aC hj)
  split
  ·refine⟨?_,λb a=>this.2 b (List.mem_of_mem_tail a)⟩
   simp only[va]
   split
   ·cases hw:secs[j].waits with
    |nil=>exact this.1
    |cons b r=>exact this.2 b (by rw[hw];simp)
   exact this.1
  exact this
theorem yw9 (lives:Nat->Bool):∀(l:List Nat) (i:Nat) (secs:List Sec) (j:Nat) (s:Sec),(Bf lives l i secs)[j]? =some s->∃t,secs[j]? =some t/\s.waits=t.waits.drop (l.count j)
 | [],_,secs,j,s,h=>⟨s,h,by simp⟩
 |k::r,i,secs,j,s,h=>by
  let⟨t,ht,hw⟩:=yw9 lives r (i+1) _ j s h
  rw[List.getElem?_modify] at ht
  cases hs:secs[j]? with
  |none=>rw[hs] at ht;simp at ht
  |some u=>
   rw[hs] at ht
   refine⟨u,Z,?_⟩
   by_cases hk:k=j
   ·subst hk
    simp at ht
    subst ht
    rw[hw]
    simp only[va,List.count_cons_self]
    rw[List.drop_tail]
   simp[hk] at ht
   subst ht
   have:(k==j)=false:=by simpa using hk
   rw[hw,List.count_cons,this]
   simp
theorem kg.Ok.settle {D:kg} {m:Nat} (h:D.Ok m) (lives:Nat->Bool):(D.settle lives).Ok m:=by
 refine⟨by simpa [kg.settle,Bc] using h.size,xx1 lives _ _ _ h.safe,?_,?_,by simp[kg.settle],h.fuse,h.fault,h.done⟩;intro k a;simp[kg.settle] at a;intro i s b;let⟨t,c,d⟩:=yw9 lives _ _ _ i s b;rw[d,aW,h.count i t c];simp[kg.settle]
theorem kg.Ok.zx9 {D:kg} {m:Nat} (h:D.Ok m) (keep:List Bool):(D.zx9 keep).Ok m:=by
 have:=h.settle (yv8 keep);exact⟨this.size,this.safe,this.inside,this.count,this.few,by simp[kg.zx9],by simp[kg.zx9],this.done⟩
theorem zeros_length : zeros.length = 64 := by simp [zeros]
theorem kg.Ok.fresh {n:Nat} (h:1<=n/\n<=2048):(kg.fresh n).Ok 0:=by
 refine⟨by simpa [kg.fresh] using h,?_,?_,?_,by simp[kg.fresh],by simp[kg.fresh],by simp[kg.fresh],by simp[kg.fresh]⟩;intro s a;simp only[kg.fresh,List.mem_replicate] at a;rw[a.2];exact⟨zeros_length,λb c=>by cases c⟩
 intro k d;simp[kg.fresh] at d;intro i s a;simp only[kg.fresh,List.getElem?_replicate] at a;split at a;cases a;simp[kg.fresh];cases a
abbrev Bytes := List UInt8
abbrev numB (b : Bytes) : Value := .agg (g6 b).toArray
theorem Aq {b : Bytes} : ∀ u ∈ g6 b, u.oneCell' = true := λu hu => by
  obtain ⟨x, _, rfl⟩ := bL.1 hu; rfl
theorem qg {b : Bytes} (h : b.length = 64) : (g6 b).length = 64 := by rw [gb, h]
def zw7 (b : Bytes) : List Int := b.map λx => (x.toNat : Int)
theorem Bx (b : Bytes) : (zw7 b).length = b.length := by simp [zw7]
theorem zw8 (b : Bytes) : numB b = Cw .u8 (zw7 b) := by simp [numB, Cw, zw7, g6, yf, Function.comp_def]
theorem yz2 {a b:Bytes}:zw7 a=zw7 b↔a=b:=by
 exact List.map_inj_right (f:=λx:UInt8=>(x.toNat:Int)) λx y e=> UInt8.toNat_inj.1 (by have e:(x.toNat:Int)=y.toNat:=e;omega)
def kl (n : Nat) : Nat := if 40000 < n then 0 else (n + 3) / 48 + 1
def sectZ (n : Int) : Int := if n < 0 \/ 40000 < n then 0 else ((n.toNat + 3) / 48 + 1 : Nat)
theorem Bd (n:Nat):sectZ (n:Int)=(kl n:Int):=by
 unfold sectZ kl;by_cases h:40000<n;rw[aM zo,aM h];rfl;rw[aJ zo,aJ h,bT]
theorem Cu {n : Nat} (h : n <= 40000) : 0 < kl n := by rw [kl, aJ zo]; omega
theorem Dh (n : Nat) : kl n <= 834 := by unfold kl; split <;> omega
theorem sectN_room {n : Nat} (h : n <= 40000) : n + 4 <= 48 * kl n := by rw [kl, aJ zo]; omega
theorem sectN_tight {n : Nat} (h : n <= 40000) : 48 * (kl n - 1) < n + 4 := by rw [kl, aJ zo]; omega
def sealB (b : Bytes) : Bytes := (sumW (b ++ List.replicate (60 - b.length) 0)).take 4 ++ (b ++ List.replicate (60 - b.length) 0)
theorem yz7 {b:Bytes} (h:b.length<=60):(sealB b).length=64:=by
 simp only[sealB,al,aK,Cd,bM];omega
def zj6 : Bytes := [114, 105, 118, 101, 114, 108, 111, 103]
def xq1 (turn n : Nat) : Bytes := sealB (zj6 ++ be 4 turn ++ be 4 n)
theorem zx3 (turn n : Nat) : (xq1 turn n).length = 64 := yz7 (by simp [zj6, jz])
def zw5 (b : Bytes) : Bytes := be 4 b.length ++ b
def C9 (turn number : Nat) (b : Bytes) (k : Nat) : Bytes := sealB (be 4 turn ++ be 4 number ++ be 2 k ++ be 2 (kl b.length) ++ ((zw5 b).drop (48 * k)).take 48)
theorem pieceAt_len (turn number:Nat) (b:Bytes) (k:Nat):(C9 turn number b k).length=64:=yz7 (by
 simp only[al,jz,aK];omega)
def vr (turn number : Nat) (b : Bytes) : List Bytes := (List.range (kl b.length)).map (C9 turn number b)
theorem x7 (turn number : Nat) (b : Bytes) : (vr turn number b).length = kl b.length := by simp [vr]
theorem zz1 (turn number:Nat) (b:Bytes):∀s∈vr turn number b,s.length=64:=λs a=>by
 obtain⟨k,_,rfl⟩:=bL.1 a
 exact pieceAt_len _ _ _ _
def C0 (n sectors : Nat) : Prop := 4 <= n /\ n <= 1000 /\ 2 + 2 * n <= sectors
instance (n s : Nat) : Decidable (C0 n s) := inferInstanceAs (Decidable (_ /\ _ /\ _))
def uk (turn n : Nat) : Nat := if turn % 2 = 1 then 2 + n else 2
def zj4 (b : Bytes) : Nat := num ((b.drop 12).take 4)
def zw3 (b : Bytes) : Nat := num ((b.drop 16).take 4)
def HeadOk (i sectors : Nat) (b : Bytes) : Prop := zj4 b % 2 = i /\ C0 (zw3 b) sectors /\ xq1 (zj4 b) (zw3 b) = b
instance (i s : Nat) (b : Bytes) : Decidable (HeadOk i s b) := inferInstanceAs (Decidable (_ /\ _ /\ _))
def newer (i sectors : Nat) (b : Bytes) (o : Option (Nat × Nat)) : Option (Nat × Nat) :=
  if HeadOk i sectors b then match o with
    | none => some (zj4 b, zw3 b)
    | some (t, n) => if t < zj4 b then some (zj4 b, zw3 b) else some (t, n)
  else o
def yj9 (l : List Bytes) : Bytes := l.flatMap (·.drop 16)
def yy (s : Bytes) : Nat := num ((s.drop 16).take 4)
def zj3 (l : List Bytes) (turn number : Nat) : Option Bytes :=
  match l with
  | [] => none
  | s :: _ =>
    if 40000 < yy s \/ l.length < kl (yy s) then none
    else if vr turn number (((yj9 (l.take (kl (yy s)))).drop 4).take (yy s)) = l.take (kl (yy s)) then some (((yj9 (l.take (kl (yy s)))).drop 4).take (yy s)) else none
def lyGo (turn : Nat) : Nat -> List Bytes -> Nat -> List Bytes
  | 0, _, _ => []
  | f + 1, area, n => match zj3 area turn n with
    | none => []
    | some b => b :: lyGo turn f (area.drop (kl b.length)) (n + 1)
def lyingB (area : List Bytes) (turn : Nat) : List Bytes := lyGo turn area.length area 0
def uj (l : List Bytes) : Nat := (l.map λb => kl b.length).sum
def Be : kg -> Int -> List Bytes -> kg × Int
  | D, _, [] => D.sync
  | D, at_, b :: r => if (D.write at_ b).2 ≠ 0 then D.write at_ b else Be (D.write at_ b).1 (at_ + 1) r
def yr (D : kg) (turn n : Nat) (x : Bytes) : kg × Int :=
  let y := Be D (uk turn n) (vr turn 0 x)
  if y.2 ≠ 0 then y else Be y.1 ((turn % 2 : Nat) : Int) [xq1 turn n]
structure Wl where
  D : kg
  size : Nat
  turn : Nat
  pieces : List Bytes
  used : Nat
  broken : Bool
def un (D : kg) (area : Int) : kg × Int :=
  if ¬ (0 <= area /\ C0 area.toNat D.secs.length) then (D, 2)
  else
    let y := Be D 0 (List.replicate (2 + 2 * area.toNat) zeros)
    if y.2 ≠ 0 then y else yr y.1 0 area.toNat []
def yw : kg -> Int -> Nat -> kg × List Bytes × Int
  | D, _, 0 => (D, [], 0)
  | D, at_, k + 1 =>
    let x := D.read at_
    if x.2.2 ≠ 0 then (x.1, [], x.2.2) else
      let y := yw x.1 (at_ + 1) k
      (y.1, x.2.1 :: y.2.1, y.2.2)
def D8 : kg -> Int -> List Bytes -> kg × Int
  | D, _, [] => (D, 0)
  | D, at_, b :: r => if b = zeros then D8 D (at_ + 1) r else if (D.write at_ zeros).2 ≠ 0 then D.write at_ zeros else D8 (D.write at_ zeros).1 (at_ + 1) r
def zq4 (D : kg) (at_ : Int) (rest : List Bytes) : kg × Int :=
  let y := D8 D at_ rest
  if y.2 ≠ 0 then y else if D.order = [] /\ (∀ b ∈ rest, b = zeros) then y else y.1.sync
def nwE (o : Option (Nat × Nat)) : Int := match o with | none => 140 | some _ => 0
def nwT (o : Option (Nat × Nat)) : Nat := match o with | none => 0 | some (t, _) => t
def yn (S : Nat) : Nat -> Nat -> kg -> Option (Nat × Nat) -> kg × Int × Option (Nat × Nat)
  | 0, _, D, o => (D, nwE o, o)
  | k + 1, i, D, o => if (D.read i).2.2 ≠ 0 then ((D.read i).1, (D.read i).2.2, none) else yn S k (i + 1) (D.read i).1 (newer i S (D.read i).2.1 o)
def ue (D : kg) : kg × Int × Option (Nat × Nat) := yn D.secs.length 2 0 D none
def xg (D : kg) (turn n : Nat) : kg × Int × Nat × Nat × List Bytes :=
  let z := yw D (uk turn n) n
  if z.2.2 ≠ 0 then (z.1, z.2.2, 0, 0, []) else
  let ps := lyingB z.2.1 turn
  if ps = [] then (z.1, 140, 0, 0, []) else
  let c := zq4 z.1 ((uk turn n + uj ps : Nat) : Int) (z.2.1.drop (uj ps))
  (c.1, c.2, turn, n, ps)
def qj (D : kg) : kg × Int × Nat × Nat × List Bytes :=
  match ue D with
  | (D', _, some (turn, n)) => xg D' turn n
  | (D', e, none) => (D', e, 0, 0, [])
def Wl.opened (x : kg × Int × Nat × Nat × List Bytes) : Wl := ⟨x.1, x.2.2.2.1, x.2.2.1, x.2.2.2.2, uj x.2.2.2.2, false⟩
def Wl.refuses (W : Wl) (x : Bytes) (room : Int) : Int :=
  if 40000 < x.length then 3 else if W.broken = true then 8 else if room < kl x.length then 6 else 0
def Wl.append (W : Wl) (x : Bytes) : Wl × Int :=
  let e := W.refuses x ((W.size : Int) - W.used)
  if e ≠ 0 then (W, e) else
  let y := Be W.D ((uk W.turn W.size + W.used : Nat) : Int) (vr W.turn W.pieces.length x)
  if y.2 ≠ 0 then ({ W with D := y.1, broken := true }, y.2) else ({ W with D := y.1, broken := false, pieces := W.pieces ++ [x], used := W.used + kl x.length }, 0)
def Wl.qk (W : Wl) (x : Bytes) : Wl × Int :=
  let e := W.refuses x (if W.turn = 4294967295 then 0 else W.size)
  if e ≠ 0 then (W, e) else
  let y := yr W.D (W.turn + 1) W.size x
  if y.2 ≠ 0 then ({ W with D := y.1, broken := true }, y.2) else ({ W with D := y.1, broken := false, turn := W.turn + 1, pieces := [x], used := kl x.length }, 0)
theorem kg.Ok.write {D:kg} {m:Nat} (h:D.Ok m) (i:Int) {b:Bytes} (hb:b.length=64):(D.write i b).1.Ok (m+2):=by
 unfold kg.write;dsimp only;have a:=h.begin i true;split;rename_i c;have d:=kg.begin0 i true c;refine a.put ?_ hb;rw[(kg.B3 D i true).1];omega;exact a.mono zo
theorem kg.Ok.sync {D:kg} {m:Nat} (h:D.Ok m):D.sync.1.Ok (m+1):=by
 unfold kg.sync;dsimp only;have a:=h.begin 0 true;split;exact a.settle _;exact a
theorem kg.Ok.read {D : kg} {m : Nat} (h : D.Ok m) (i : Int) : (D.read i).1.Ok (m + 1) := h.begin i false
theorem kg.Cq (D:kg) (i:Int) (b:Bytes):(D.write i b).1.secs.length=D.secs.length:=by
 unfold kg.write;dsimp only;split;simp[kg.put,(kg.B3 D i true).1];rw[(kg.B3 D i true).1]
theorem kg.sync_secs (D:kg):D.sync.1.secs.length=D.secs.length:=by
 unfold kg.sync;dsimp only;split;simp[kg.settle,Bc,(kg.B3 D 0 true).1];rw[(kg.B3 D 0 true).1]
theorem kg.read_secs (D : kg) (i : Int) : (D.read i).1.secs = D.secs := (kg.B3 D i false).1
theorem yj0:∀(l:List Bytes) {D:kg} {m:Nat} (at_:Int),D.Ok m->(∀b∈l,b.length=64)->(Be D at_ l).1.Ok (m+2*l.length+1)
 | [],D,m,at_,h,_=>h.sync
 |b::r,D,m,at_,h,hl=>by
  have h1:=h.write at_ (hl b zp)
  unfold Be
  split
  ·exact h1.mono zc
  exact(yj0 r (at_+1) h1 λx a=>hl x (by simp[a])).mono zb
theorem Am:∀(l:List Bytes) (D:kg) (at_:Int),(Be D at_ l).1.secs.length=D.secs.length
 | [],D,at_=>D.sync_secs
 |b::r,D,at_=>by
  unfold Be
  split
  ·exact D.Cq at_ b
  rw[Am r,D.Cq]
theorem beginD_ok {D:kg} {m:Nat} (h:D.Ok m) (turn n:Nat) (x:Bytes):(yr D turn n x).1.Ok (m+2*kl x.length+4):=by
 unfold yr;dsimp only;have a:=yj0 (vr turn 0 x) (uk turn n:Int) h (zz1 turn 0 x);rw[x7] at a;split;exact a.mono zo;exact(yj0 [xq1 turn n] _ a λb c=>by rw[aE.1 c];exact zx3 _ _).mono zp
theorem beginD_secs (D:kg) (turn n:Nat) (x:Bytes):(yr D turn n x).1.secs.length=D.secs.length:=by
 unfold yr;dsimp only;split;rw[Am];rw[Am,Am]
theorem layD_step {L:List Bytes} {k:Nat} (hk:k<L.length) (D:kg) (at_:Int):Be D (at_+k) (L.drop k)=if(D.write (at_+k) (L.getD k [])).2≠0 then D.write (at_+k) (L.getD k []) else Be (D.write (at_+k) (L.getD k [])).1 (at_+(k+1:Nat)) (L.drop (k+1)):=by
 have e:L.getD k []=L[k]:=by simp[hk]
 rw[cl hk,Be,e,Int.natCast_add,<-Int.add_assoc];rfl
theorem formatW_no {D : kg} {area : Int} (h : ¬ (0 <= area /\ C0 area.toNat D.secs.length)) : un D area = (D, 2) := aM h
theorem xj2 {D:kg} {a:Nat} (h:C0 a D.secs.length):un D (a:Int)=if(Be D 0 (List.replicate (2+2*a) zeros)).2≠0 then Be D 0 (List.replicate (2+2*a) zeros) else yr (Be D 0 (List.replicate (2+2*a) zeros)).1 0 a []:=by
 unfold un;rw[aJ (λb=>b ⟨cT a,by rw[bT];exact h⟩),bT]
theorem zeros_rep (n : Nat) : ∀ b ∈ List.replicate n zeros, b.length = 64 := λb hb => by rw [(List.mem_replicate.1 hb).2]; exact zeros_length
theorem wipeD_zero {R:List Bytes} {i:Nat} (hi:i<R.length) (h:R[i]=zeros) (D:kg) (at_:Int):D8 D (at_+i) (R.drop i)=D8 D (at_+(i+1:Nat)) (R.drop (i+1)):=by
 rw[cl hi,D8,aM h,Int.natCast_add,<-Int.add_assoc];rfl
theorem wipeD_step {R:List Bytes} {i:Nat} (hi:i<R.length) (h:R[i]≠zeros) (D:kg) (at_:Int):D8 D (at_+i) (R.drop i)=if(D.write (at_+i) zeros).2≠0 then D.write (at_+i) zeros else D8 (D.write (at_+i) zeros).1 (at_+(i+1:Nat)) (R.drop (i+1)):=by
 rw[cl hi,D8,aJ h,Int.natCast_add,<-Int.add_assoc];rfl
theorem wipeD_ok:∀(l:List Bytes) {D:kg} {m:Nat} (at_:Int),D.Ok m->(D8 D at_ l).1.Ok (m+2*l.length)
 | [],D,m,at_,h=>h
 |b::r,D,m,at_,h=>by
  unfold D8
  split
  ·exact(wipeD_ok r (at_+1) h).mono zc
  have h1:=h.write at_ zeros_length
  split
  ·exact h1.mono zc
  exact(wipeD_ok r (at_+1) h1).mono zc
theorem zz2:∀(l:List Bytes) (D:kg) (at_:Int),(D8 D at_ l).1.secs.length=D.secs.length
 | [],D,at_=>rfl
 |b::r,D,at_=>by
  unfold D8
  split
  ·exact zz2 r D _
  split
  ·exact D.Cq _ _
  rw[zz2 r,D.Cq]
theorem cleanD_ok {D:kg} {m:Nat} (h:D.Ok m) (at_:Int) (l:List Bytes):(zq4 D at_ l).1.Ok (m+2*l.length+1):=by
 unfold zq4;dsimp only;have a:=wipeD_ok l at_ h;split;exact a.mono zo;split;exact a.mono zo;exact a.sync
theorem cleanD_secs (D:kg) (at_:Int) (l:List Bytes):(zq4 D at_ l).1.secs.length=D.secs.length:=by
 unfold zq4;dsimp only;split;exact zz2 _ _ _;split;exact zz2 _ _ _;rw[kg.sync_secs,zz2]
theorem xx5:∀(k:Nat) (L:List Bytes),(∀b∈L,b.length=64)->(L.flatMap g6).drop (k*64)=(L.drop k).flatMap g6
 |0,L,_=>by simp
 |k+1,[],_=>by simp
 |k+1,b::L,h=>by
  rw[cZ,List.drop_succ_cons,<-xx5 k L λx hx=>h x (by simp[hx]),List.drop_append,qg (h b zp),bY (by rw[qg (h b zp)];omega),bU,show(k+1)*64-64=k*64 from by omega]
def NwOk (S : Nat) (o : Option (Nat × Nat)) : Prop := ∀ t n, o = some (t, n) -> C0 n S /\ t < 4294967296
theorem turnOf_lt {b:Bytes}:zj4 b<4294967296:=by
 have h:=ug ((b.drop 12).take 4);have a:((b.drop 12).take 4).length<=4:=by rw[aK];omega
 have c:256^((b.drop 12).take 4).length<=256^4:=cK zd a;exact aG h c
theorem newer_ok {i S:Nat} {b:Bytes} {o:Option (Nat×Nat)} (h:NwOk S o):NwOk S (newer i S b o):=by
 intro t n e;unfold newer at e;split at e;rename_i a;cases o with
 |none=>simp at e;let⟨rfl,rfl⟩:=e;exact⟨a.2.1,turnOf_lt⟩
 |some x=>
  simp only at e;split at e;simp at e;let⟨rfl,rfl⟩:=e;exact⟨a.2.1,turnOf_lt⟩
  exact h t n e
 exact h t n e
theorem xw8 (S:Nat):∀(k i:Nat) (D:kg) (o:Option (Nat×Nat)) (m:Nat),NwOk S o->D.Ok m->
  ((yn S k i D o).1.Ok (m+k)/\(yn S k i D o).1.secs=D.secs/\(yn S k i D o).1.order=D.order)/\(((yn S k i D o).2.2=none/\(yn S k i D o).2.1≠0)\/∃t n,(yn S k i D o).2.2=some (t,n)/\(yn S k i D o).2.1=0/\C0 n S/\t<4294967296)
 |0,i,D,o,m,ho,hok=>by
  refine⟨⟨hok,Z,Z⟩,?_⟩
  cases o with
  |none=>exact .inl ⟨Z,by simp[yn,nwE]⟩
  |some x=>exact .inr ⟨x.1,x.2,Z,Z,ho x.1 x.2 Z⟩
 |k+1,i,D,o,m,ho,hok=>by
  have h1:=hok.read (i:Int)
  have a:=kg.B3 D (i:Int) false
  unfold yn
  split
  ·rename_i c
   exact⟨⟨h1.mono zo,a.1,a.2⟩,.inl ⟨Z,c⟩⟩
  let⟨⟨d,e,f⟩,b⟩:=xw8 S k (i+1) (D.read i).1 (newer i S (D.read i).2.1 o) (m+1) (newer_ok ho) h1
  exact⟨⟨d.mono zo,e.trans a.1,f.trans a.2⟩,b⟩
theorem newestD_spec {D:kg} {m:Nat} (hok:D.Ok m):((ue D).1.Ok (m+2)/\(ue D).1.secs=D.secs/\(ue D).1.order=D.order)/\(((ue D).2.2=none/\(ue D).2.1≠0)\/∃t n,(ue D).2.2=some (t,n)/\(ue D).2.1=0/\C0 n D.secs.length/\t<4294967296):=
 xw8 D.secs.length 2 0 D none m (λ_ _ e=>by cases e) hok
theorem openW_no {D:kg} (h:(ue D).2.2=none):qj D=((ue D).1,(ue D).2.1,0,0,[]):=by
 unfold qj;generalize ue D=x at h;let⟨a,e,o⟩:=x;subst h;rfl
theorem openW_yes {D:kg} {t n:Nat} (h:(ue D).2.2=some (t,n)):qj D=xg (ue D).1 t n:=by
 unfold qj;generalize ue D=x at h;let⟨a,e,o⟩:=x;subst h;rfl
theorem readsD_step (D:kg) (at_:Int) (k:Nat):yw D at_ (k+1)=if(D.read at_).2.2≠0 then((D.read at_).1,[],(D.read at_).2.2) else((yw (D.read at_).1 (at_+1) k).1,(D.read at_).2.1::(yw (D.read at_).1 (at_+1) k).2.1,(yw (D.read at_).1 (at_+1) k).2.2):=by
 rfl
theorem Ct (l : List Bytes) (b : Bytes) : uj (l ++ [b]) = uj l + kl b.length := by simp [uj]
theorem liesB_some {L:List Bytes} {t n:Nat} {b:Bytes} (hL:∀s∈L,s.length=64) (h:zj3 L t n=some b):b.length<=40000/\kl b.length<=L.length/\vr t n b=L.take (kl b.length):=by
 cases L with
 |nil=>cases h
 |cons s r=>
  have h:(if 40000<yy s\/(s::r).length<kl (yy s) then none
   else if vr t n (((yj9 ((s::r).take (kl (yy s)))).drop 4).take (yy s))=(s::r).take (kl (yy s)) then some (((yj9 ((s::r).take (kl (yy s)))).drop 4).take (yy s)) else none)=some b:=h
  split at h;cases h;rename_i l;split at h;rename_i g;simp only[bI] at h;have i:yy s<=40000:=by omega
  have j:kl (yy s)<=(s::r).length:=by omega
  have c:(yj9 ((s::r).take (kl (yy s)))).length=48*kl (yy s):=by
   have:∀(L:List Bytes),(∀b∈L,b.length=64)->(yj9 L).length=48*L.length:=by
    intro L;induction L with
    |nil=>intro _;rfl
    |cons a L ih=>
     intro h;have e:yj9 (a::L)=a.drop 16++yj9 L:=rfl;rw[e,al,aW,h a zp,ih λx k=>h x (by simp[k]),aR];omega
   grind
  have f:=sectN_room i;have d:b.length=yy s:=by rw[<-h,aK,aW,c];omega
  rw[h] at g;rw[d];exact⟨i,j,g⟩
  grind
theorem lyGo_step (t:Nat):∀(f:Nat) (area:List Bytes) (n:Nat),(∀s∈area,s.length=64)->area.length<=f->lyGo t f area n=match zj3 area t n with
  |none=>[]
  |some b=>b::lyGo t (f-1) (area.drop (kl b.length)) (n+1)
 |0,area,n,_,h=>by
  have:area=[]:=aT zo
  subst this
  rfl
 |f+1,area,n,_,_=>rfl
theorem zeros_64 {n : Nat} : ∀ s ∈ List.replicate n zeros, s.length = 64 := λs hs => by rw [(List.mem_replicate.1 hs).2]; exact zeros_length
open Go.WideShapes Go.ChangeShapes Go.RowKit
section
variable {H : Type} {enc : TypeId × Value -> H} {P : Program} {w w' : World}
theorem Ext.sameAt (hE:Ext No w w') {p:MemPlace} (hp:p.block<w.heap.size):w.sameAt w' p:=by
 cases p with
 |cell b off=>
  have:=hE.same b hp id;show w'.cell? ⟨b,off,none⟩=w.cell? ⟨b,off,none⟩;unfold World.cell?;rw[this]
 |map b=>exact hE.same b hp id
theorem xw5 {base:Nat} {sp:Nat->Bool} {held:Bool}:∀{ts:List TypeId} {vs:List Value} {ds:List (DataW H)} {ps:List MemPlace},DataW.TrodAll enc P w base sp held ts vs ds ps->(∀p∈ps,w.sameAt w' p)->DataW.TrodAll enc P w' base sp held ts vs ds ps
 | [],[],[],_,h,_=>h
 |_::_,_::_,_::_,_,⟨p,q,⟨n,h1⟩,h2,e⟩,hs=>⟨p,q,⟨n,DataW.trod_carry n _ _ _ h1 λx hx=>hs x (by rw[e];exact List.mem_append_left _ hx)⟩,xw5 h2 λx hx=>hs x (by rw[e];exact List.mem_append_right _ hx),e⟩
theorem post_of_old {f:Func} {s:ChangeSpec} {apart fresh handsOn again:Bool} {W W':World} {args:Array Value} {v:Value} {ds gs:List (DataW H)} {before pa pv:List MemPlace}
  (hW:DataW.Whole enc P f.params.toList s.vars apart W args.toList ds gs before)
  (hres:∀(b:Nat) (sp:Nat->Bool) (hd:Bool),DataW.TrodAll enc P W' b sp hd f.resultTypes.toList (v.resultList f.resultTypes.size) (s.fn H (ds++gs)).results [])
  (hargs:∀sp:Nat->Bool,(∀p∈before,sp p.block=true)->DataW.TrodAll enc P W' 0 sp true f.params.toList args.toList (s.fn H (ds++gs)).args pa)
  (hvars:∀sp:Nat->Bool,(∀p∈before,sp p.block=true)->DataW.TrodVars enc P W' sp s.vars (s.fn H (ds++gs)).vars pv)
  (hps:before=pa++pv) (hk:W.keptBut W' (·∈before)) (hfz:∀a:Addr,a.block<W.heap.size->W'.frozen? a=W.frozen? a)
  (hok:∀(j:Nat) (t:TypeId) (r:Value),f.resultTypes[j]? =some t->(v.resultList f.resultTypes.size)[j]? =some r->Value.okWide P W' .any 0 t r):
  s.post enc P f apart fresh handsOn again W args v W':=by
 have e:∀p∈before,p.block<W.heap.size:=λp c=>hW.lt p c;have d:∀p∈before,(λb=>decide (b<W.heap.size)) p.block=true:=λp c=>by simpa using e p c
 have h:∀p,p∈[]++pa++pv↔p∈before:=λp=>by rw[hps,bU]
 refine⟨ds,gs,before,[],pa,pv,hW,hres _ _ _,hargs _ d,hvars _ d,World.keptBut_mono (λp c=>⟨c,.inr (aV.1 (hps▸c))⟩) hk,λ_=>?_⟩;let⟨_,_,_,_,_,k,l⟩:=hW;refine⟨hok,_,_,([]++pa)++pv,⟨[]++pa,pv,trodAll_append (hargs _ (λ_ _=>rfl)) (hres _ _ _),hvars _ (λ_ _=>rfl),Z,λb g c=>?_,λm=>?_⟩,λp c _=>(h p).1 c⟩;have i:=(h _).1 c;rw[hfz _ (e _ i)];exact k b g i;have:=l m;rw[hps] at this;exact this
theorem post_true {f:Func} {s:ChangeSpec} {fresh handsOn again:Bool} {W W':World} {args:Array Value} {ds gs:List (DataW H)} {before:List MemPlace} (hl:laidOutB P=true) (hm:mapsRowed P=true) (hz:((List.range P.types.size).all λt=>match P.underlying t with|some (.slice e)=>decide (0<P.cellsOf e)|_=>true)=true)
  (hW:DataW.Whole enc P f.params.toList s.vars false W args.toList ds gs before) (hv:s.vars=[]) (hts:f.params.toList.all (λt=>decide (t<P.types.size))=true)
  {tb:TypeId} (hrt:f.resultTypes= #[tb]) (htb:P.underlying tb=some .bool) (hr:(s.fn H (ds++gs)).results=[.lit (.bool true)]) (ha:(s.fn H (ds++gs)).args=ds) (hvr:(s.fn H (ds++gs)).vars=[]) (hE:Ext No W W'):
  s.post enc P f false fresh handsOn again W args (.bool true) W':=by
 have b:=hW;obtain⟨p,q,g,h,rfl,_,_⟩:=hW;rw[hv] at h;obtain⟨rfl,rfl⟩:=trodVars_none h;refine post_of_old (pa:=p) (pv:=[]) b (λ_ _ _=>?_) (λj c=>?_) (λ_ _=>?_) zp (World.keptBut_mono (λ_ f=>f.elim) (hE.kept λ_ _=>id)) (λa ha=>hE.froz ha id) ?_;rw[hrt,hr];exact trodAll_cons_mk (RowKit.shut_bool htb true) trodAll_mk0;rw[ha];exact xw5 (g.respare (kids_rows hl hm) (slices_full_of P hz) (λt i=>by simpa using dC.1 hts t i) λx d=>c x (by simpa using d)) λx d=> hE.sameAt (g.lt x d);rw[hv,hvr];rfl;exact ok_one hrt Z (RowKit.okWide_bool_mk htb true)
theorem cells?_seg {a:Addr} {m:Nat} {r:List Value} (h:w.cells? 0 a m=some r) (hm:0<m):a=⟨a.block,a.off,none⟩/\r.length=m/\Seg w a.block a.off r/\a.block<w.heap.size:=by
 have j:=World.cells?_block h hm;unfold World.cells? at h;rw[aM (aF _)] at h;have b:=mapM_some_length h;have c:∀i,i<m->w.cell? (a.add i)=r[i]? :=λi k=>mapM_some_get h i i (by simp[k]);simp only[List.length_range] at b
 have d:a.spot=none:=by
  have f:=c 0 hm;have l:r[0]? =some r[0]:=by simp
  rw[l] at f;have e:a.add 0=a:=by simp[Addr.add]
  rw[e] at f;unfold World.cell? at f;split at f;split at f;cases f;rename_i p;simpa using p;cases f
 have n:a=⟨a.block,a.off,none⟩:=by rw[<-d]
 refine⟨n,b,λi v o=>?_,j⟩;have k:i<m:=by have:=(cU.1 o).1;omega
 have g:=c i k;rw[o] at g;have e:a.add i=⟨a.block,a.off+i,none⟩:=by rw[n];exact addr_add _ _ _
 grind
theorem rows_seg {b m:Nat}:∀{L:List (List Value)} {off:Nat},Uni m L->(∀(i:Nat) (r:List Value),L[i]? =some r->Seg w b (off+i*m) r)->Seg w b off L.flatten
 | [],_,_,_=>λi v hv=>by simp at hv
 |r::L,off,hu,h=>by
  rw[cY,Seg.append]
  have hr:=hu r zp
  refine⟨by simpa using h 0 r Z,?_⟩
  rw[hr]
  refine rows_seg (λx a=>hu x (by simp[a])) λi x a=>?_
  have:=h (i+1) x (by simpa using a)
  rwa [show off+(i+1)*m=off+m+i*m from by rw[Nat.succ_mul];omega] at this
theorem open_rows {sp:Nat->Bool} {held:Bool} {fuel:Nat} {t e m:Nat} {cs:List Value} {x:DataW H×List MemPlace} (ht:P.underlying t=some (.slice e)) (hm:P.cellsOf e=m) (hm0:0<m) (h:DataW.trod enc P w 0 sp held fuel t cs=some x):
  ∃(p:Option Addr) (n c:Nat) (L:List (List Value)),cs=[.slice p n c]/\n<=c/\c<=maxLen/\L.length=n/\Uni m L/\Sl w p n m L.flatten/\(n≠0->∀b off,p=some ⟨b,off,none⟩->b<w.heap.size)/\
   ∀r∈L,∃k y,DataW.trod enc P w 0 sp held k e r=some y:=by
 subst hm
 rcases DataW.trod_slice ht h with⟨q,_⟩|⟨a,d,v,z,F,n,_,q,_,_,N,O,G,A,_⟩
 exact⟨none,0,0,[],q,aA _,by unfold maxLen;omega,Z,Uni.nil _,Sl.nil _ _ _,λh=>absurd Z h,λr g=>by cases g⟩
 have s:∀i,i<d->∃r y,w.cells? 0 (a.add (i*P.cellsOf e)) (P.cellsOf e)=some r/\DataW.trod enc P w 0 sp held n e r=some y:=by
  intro i o
  have:=A i o
  rw[aS zo,Option.bind_eq_some_iff] at this
  grind
 have f:∀i:_root_.Fin d,∃r y,w.cells? 0 (a.add (i.1*P.cellsOf e)) (P.cellsOf e)=some r/\DataW.trod enc P w 0 sp held n e r=some y:=λi=>s i.1 i.2
 let L:List (List Value):=List.ofFn λi:_root_.Fin d=>Classical.choose (f i)
 have u:∀(i:Nat) (r:List Value),L[i]? =some r->i<d/\w.cells? 0 (a.add (i*P.cellsOf e)) (P.cellsOf e)=some r/\∃y,DataW.trod enc P w 0 sp held n e r=some y:=by
  grind
 have j:L.length=d:=by simp[L]
 have D:Uni (P.cellsOf e) L:=λr g=>by
  obtain⟨i,o,rfl⟩:=bF.1 g
  have:=u i L[i] zp
  exact(cells?_seg this.2.1 hm0).2.1
 refine⟨some a,d,v,L,q,N,O,j,D,⟨by rw[yg D,j],?_⟩,?_,λr g=>?_⟩
 rcases Nat.eq_zero_or_pos d with J|J
 exact .inl J
 right
 have l:=u 0 L[0] zp
 have E:a.add (0*P.cellsOf e)=a:=by simp[Addr.add]
 rw[E] at l
 have K:=(cells?_seg l.2.1 hm0).1
 refine⟨a.block,a.off,congrArg some K,rows_seg D λi r g=>?_⟩
 have o:=u i r g
 have:=(cells?_seg o.2.1 hm0).2.2.1
 have Q:a.add (i*P.cellsOf e)=⟨a.block,a.off+i*P.cellsOf e,none⟩:=by
  conv=>lhs;rw[K]
  exact addr_add _ _ _
 rw[Q] at this
 exact this
 intro S b off M
 have l:=u 0 (L[0]'zo) zp
 have E:a.add (0*P.cellsOf e)=a:=by simp[Addr.add]
 rw[E] at l
 have:=(cells?_seg l.2.1 hm0).2.2.2
 simp only[bI] at M
 rw[M] at this
 exact this
 grind
end
end Go.Vc
namespace Go.Proofs.YtpdiphfjmepijaaGreatDoor
open Go.Proofs.Tryz
open Go.Vc
abbrev dskL (sb n : Nat) (op : Option Addr) (on oc : Nat) (dead : Bool) (fu fa dn : Int) : List Value :=
  [.slice (some ⟨sb, 0, none⟩) n n, .slice op on oc, .bool dead, .int .i64 fu, .int .i64 fa, .int .i64 dn]
theorem alive_live (w:World) {d sb n:Nat} {op:Option Addr} {on oc:Nat} {dead:Bool} {fu fa dn:Int} (hb:gu w d 153 (dskL sb n op on oc dead fu fa dn)):
  ge prog 148 [.pointer (some ⟨d,0,none⟩)] w λv w'=>v= .int .i64 (if dead then 9 else 0)/\w'=w:=by
 refine gt func148 (uz Z (jn Z (qz Z (vo (gh (jy Z (j3 hb Z Z (qi (u5 Z (λh=>?_) (λh=>?_))))))))));refine jn Z (j6 (j2 (gp Z Z ⟨by simp[h],Z⟩)));refine vo (jn Z (j6 (gp Z Z ⟨by simp[h],Z⟩)))
theorem zw9 (w:World) {d sb n:Nat} {op:Option Addr} {on oc:Nat} {dead:Bool} {fu fa dn:Int} (i:Int) (burns:Bool) {g:Nat} {caps:Array Value}
  (hcf:∀args w,(callFunc g args).run prog w= .ok (.enter g args) w)
  (hb:gu w d 153 (dskL sb n op on oc dead fu fa dn)) (hfu: -1<=fu/\fu<9223372036854775808) (hfa: -1<=fa/\fa<9223372036854775808) (hdn:0<=dn/\dn<9223372036854775807) (R:Value->World->Prop)
  (hdead:dead=true->R (.int .i64 9) w)
  (harg:dead=false->¬(0<=i/\i<n)->R (.int .i64 2) w)
  (hio:dead=false->0<=i/\i<n->fa=0->∀w',gu w' d 153 (dskL sb n op on oc false fu (-1) dn)->Ext (One d) w w'->R (.int .i64 8) w')
  (hfuse:dead=false->0<=i/\i<n->fa≠0->burns=true->fu=0->∀w',gu w' d 153 (dskL sb n op on oc true (-1) (vk fa) dn)->Ext (One d) w w'->R (.int .i64 9) w')
  (hgo:dead=false->0<=i/\i<n->fa≠0->¬(burns=true/\fu=0)->∀w',gu w' d 153 (dskL sb n op on oc false (A4 burns fu) (vk fa) (dn+1))->Ext (One d) w w'->
   ge prog g ([.pointer (some ⟨sb,i.toNat*65,none⟩)]++caps.toList) w' λ_ w2=>R (.int .i64 0) w2):
  ge prog 149 [.pointer (some ⟨d,0,none⟩),.int .i64 i,.bool burns,.func (.func g) #[] caps] w R:=by
 refine gt func149 (uz Z (jy Z (g7 call148 Z (alive_live w hb) ?_)));rintro B x⟨rfl,rfl⟩;cases dead
 case true=>
  refine k9 Z (jn Z (Cy Z ?_));exact jn Z (j6 (j2 (gp Z Z (hdead Z))))
 refine k9 Z (jn Z (qz Z (vo (gh (jb (α:=Bool) [0,1,2,3] Z (λz=>[(25,.bool z)]) (λz u=>u=x/\z=decide (¬(0<=i/\i<n))) ?_ ?_)))));refine xt Z (j7 17 Z (λj=>?_) (λj=>?_));refine xq9 g5 Z (ga (gk true Z ⟨Z,?_⟩));simp;omega;refine xq9 g5 Z (j3 hb Z Z (xq9 g5 Z (ga (gk _ Z ⟨Z,?_⟩))));simp only[aH];omega;rintro z w ⟨rfl,rfl⟩;refine jc Z (λb=>?_) (λb=>?_);exact jn Z (j6 (j2 (gp Z Z (harg Z b))));have p:0<=i/\i<n:=aN.1 b;refine vo (jb (α:=Unit) [0,1,2,3] Z (λz=>[]) (λz u=>fa≠0/\gu u d 153 (dskL sb n op on oc false fu (vk fa) dn)/\Ext (One d) w u) ?_ ?_);refine gh (xt Z (j3 hb Z Z (k9 Z (jc Z (λb=>?_) (λb=>?_)))));refine gh (xt Z (j3 hb Z Z (gv g5 Z ?_)));rw[jt _ zo];refine ka hb Z Z Z λw2 c a k=> qi (jy Z (j3 c Z Z (k9 Z (jc Z (λb=>?_) (λb=>?_)))));refine jn Z (j6 (j2 (gp Z Z ?_)));rw[b] at c;exact hio Z p zo w2 c a;refine jw (gk () Z ⟨by omega,?_,a⟩);rw[show vk fa=fa-1 from aJ zo];exact c;refine jw (gk () Z ⟨by omega,?_,Ext.refl _ _⟩);rw[show vk fa=fa from by unfold vk;split<;>omega];exact hb;rintro⟨⟩ w2 ⟨f,hb,l⟩;refine jb (α:=Unit) [0,1,3] Z (λz=>[]) (λz u=>¬(burns=true/\fu=0)/\gu u d 153 (dskL sb n op on oc false (A4 burns fu) (vk fa) dn)/\Ext (One d) w u) ?_ ?_;refine jb (α:=Bool) [0,1,3] Z (λz=>[(50,.bool z)]) (λz u=>u=w2/\z=decide (burns=true/\fu≠-1)) ?_ ?_;refine xt Z (qy 44 Z (λj=>?_) (λj=>?_));refine xq9 g5 Z (j3 hb Z Z (xq9 g5 Z (ga (gk _ Z ⟨Z,?_⟩))));simp[j];refine xq9 g5 Z (ga (gk false Z ⟨Z,?_⟩));simp[j];rintro z s ⟨rfl,rfl⟩;refine jc Z (λb=>?_) (λb=>?_);refine jy Z (j3 hb Z Z (gv g5 Z ?_));rw[jt _ zo];refine ka hb Z Z Z λt hb a k=> qi (jy Z (j3 hb Z Z (gv g5 Z (ka hb Z Z Z λy hb m A=> qi (jy Z (j3 hb Z Z (qi (jc Z (λv=>?_) (λv=>?_)))))))));refine jn Z (j6 (j2 (gp Z Z ?_)));have e:fu=0:=by omega
 subst e;exact hfuse Z p f b.1 Z y (by simpa using hb) (l.then (a.then m));refine jw (gk () Z ⟨by omega,?_,l.then (a.then m)⟩);rw[show A4 burns fu=fu-1 from aM b];simpa [v] using hb;refine jw (gk () Z ⟨λh=>b ⟨h.1,by omega⟩,?_,l⟩);rw[show A4 burns fu=fu from aJ b];exact hb;rintro⟨⟩ s ⟨q,hb,l⟩;refine jy Z (j3 hb Z Z (gv g5 Z ?_));rw[jt _ zo];exact ka hb Z Z Z λt hb a k=> qi (jy Z (j3 hb Z Z (gv g5 Z (jo Z 65 Z i.toNat zo zo (i.toNat*65) zo (g7 hcf Z (hgo Z p f q t hb (l.then a)) λC s r=> qi (jn Z (j6 (gp Z Z r))))))))
def TyB (w : World) (b T : Nat) : Prop := ∃ l, gu w b T l
theorem TyB.ext {S:Nat->Prop} {w w':World} {b T:Nat} (h:TyB w b T) (hE:Ext S w w') (hS:¬S b):TyB w' b T:=let⟨l,hl⟩:=h;⟨l,hl.ext hE hS⟩
theorem TyB.ne {w : World} {b c T U : Nat} {l : List Value} (h : TyB w b T) (k : gu w c U l) (hT : T ≠ U) : b ≠ c := let ⟨_, hl⟩ := h; hl.ne k hT
def bl (ws : List Bytes) : List (List Value) := ws.map g6
def qw (s : Bytes) (p : Option Addr) (n c : Nat) : List Value := g6 s ++ [.slice p n c]
def yj6 (w : World) (F : Nat -> Prop) (p : Option Addr) (ws : List Bytes) : Prop :=
  Sl w p ws.length 64 (bl ws).flatten /\ ∀ b off, p = some ⟨b, off, none⟩ -> F b /\ TyB w b 165
def xq0 (w : World) (F : Nat -> Prop) (s : Sec) (r : List Value) : Prop :=
  ∃ p c, r = qw s.safe p s.waits.length c /\ s.waits.length <= c /\ s.safe.length = 64 /\ (∀ b ∈ s.waits, b.length = 64) /\ yj6 w F p s.waits
theorem yj6.ext {S F:Nat->Prop} {w w':World} {p:Option Addr} {ws:List Bytes} (h:yj6 w F p ws) (hE:Ext S w w') (hS:∀b,F b->TyB w b 165->¬S b):yj6 w' F p ws:=
 ⟨h.1.ext hE λb a c=>hS b (h.2 b a c).1 (h.2 b a c).2,λb a c=>⟨(h.2 b a c).1,(h.2 b a c).2.ext hE (hS b (h.2 b a c).1 (h.2 b a c).2)⟩⟩
theorem yj6.mono {F F':Nat->Prop} {w:World} {p:Option Addr} {ws:List Bytes} (h:yj6 w F p ws) (hF:∀b,F b->F' b):yj6 w F' p ws:=⟨h.1,λb a c=>⟨hF b (h.2 b a c).1,(h.2 b a c).2⟩⟩
theorem xq0.ext {S F:Nat->Prop} {w w':World} {s:Sec} {r:List Value} (h:xq0 w F s r) (hE:Ext S w w') (hS:∀b,F b->TyB w b 165->¬S b):xq0 w' F s r:=by
 let⟨p,c,a,d,e,f,g⟩:=h;exact⟨p,c,a,d,e,f,g.ext hE hS⟩
theorem xq0.mono {F F':Nat->Prop} {w:World} {s:Sec} {r:List Value} (h:xq0 w F s r) (hF:∀b,F b->F' b):xq0 w F' s r:=by
 let⟨p,c,a,d,e,f,g⟩:=h;exact⟨p,c,a,d,e,f,g.mono hF⟩
theorem xq0.len {w:World} {F:Nat->Prop} {s:Sec} {r:List Value} (h:xq0 w F s r):r.length=65:=by
 obtain⟨p,c,rfl,_,h3,_⟩:=h;simp[qw,g6,h3]
def A1 (w : World) (F : Nat -> Prop) (secs : List Sec) (L : List (List Value)) : Prop :=
  L.length = secs.length /\ ∀ (i : Nat) (s : Sec) (r : List Value), secs[i]? = some s -> L[i]? = some r -> xq0 w F s r
theorem A1.uni {w:World} {F:Nat->Prop} {secs:List Sec} {L:List (List Value)} (h:A1 w F secs L):Uni 65 L:=λr a=>by
 obtain⟨i,b,rfl⟩:=bF.1 a
 exact(h.2 i (secs[i]'(by rw[<-h.1];exact b)) L[i] zp zp).len
theorem A1.ext {S F:Nat->Prop} {w w':World} {secs:List Sec} {L:List (List Value)} (h:A1 w F secs L) (hE:Ext S w w') (hS:∀b,F b->TyB w b 165->¬S b):A1 w' F secs L:=
 ⟨h.1,λi s r hs hr=>(h.2 i s r hs hr).ext hE hS⟩
theorem A1.mono {F F':Nat->Prop} {w:World} {secs:List Sec} {L:List (List Value)} (h:A1 w F secs L) (hF:∀b,F b->F' b):A1 w F' secs L:=
 ⟨h.1,λi s r hs hr=>(h.2 i s r hs hr).mono hF⟩
abbrev Cn (l : List Nat) : List Value := l.map λi : Nat => Value.int .i64 (i : Int)
structure xn (w : World) (d sb : Nat) (op : Option Addr) (oc : Nat) (F : Nat -> Prop) (D : kg) : Prop where
  head : gu w d 153 (dskL sb D.secs.length op D.order.length oc D.dead D.fuse D.fault D.done)
  secs : ∃ L, gu w sb 218 (List.flatten L) /\ A1 w F D.secs L
  order : Own w op D.order.length oc 3 1 (Cn D.order)
  own : F d /\ F sb /\ ∀ x, j5 op x -> F x
  lt : ∀ x, F x -> x < w.heap.size
theorem xn.ext {S F:Nat->Prop} {w w':World} {d sb oc:Nat} {op:Option Addr} {D:kg} (h:xn w d sb op oc F D) (hE:Ext S w w') (hS:∀x,F x->¬S x):xn w' d sb op oc F D:=by
 let⟨L,c,e⟩:=h.secs;exact⟨h.head.ext hE (hS d h.own.1),⟨L,c.ext hE (hS sb h.own.2.1),e.ext hE λb f _=>hS b f⟩,h.order.ext hE λx a=>hS x (h.own.2.2 x a),h.own,λx a=>aG (h.lt x a) hE.size⟩
theorem xn.g0 {F:Nat->Prop} {w w':World} {d sb oc:Nat} {op:Option Addr} {D:kg} (h:xn w d sb op oc F D) (hE:Ext No w w'):xn w' d sb op oc F D:=h.ext hE λ_ _=>id
theorem xn.extNew {F:Nat->Prop} {w w':World} {d sb oc b:Nat} {op:Option Addr} {D:kg} (h:xn w d sb op oc F D) (hE:Ext (One b) w w') (hb:¬F b):xn w' d sb op oc F D:=h.ext hE λx hx e=>hb (e▸hx)
theorem Own.ty {w:World} {p:Option Addr} {n c T sz:Nat} {xs:List Value} (h:Own w p n c T sz xs) {x:Nat} (hx:j5 p x):TyB w x T:=by
 rcases h with⟨a,_⟩|⟨b,l,a,d,_⟩;rw[a] at hx;cases hx;rw[a] at hx;obtain rfl:b=x:=by simpa using hx
 exact⟨l,d⟩
theorem xn.yv9 {F:Nat->Prop} {w w':World} {d sb oc:Nat} {op:Option Addr} {D D':kg} (h:xn w d sb op oc F D) (hs:D'.secs=D.secs) (ho:D'.order=D.order) (hb:gu w' d 153 (dskL sb D.secs.length op D.order.length oc D'.dead D'.fuse D'.fault D'.done)) (hE:Ext (One d) w w'):xn w' d sb op oc F D':=by
 let⟨L,c,f⟩:=h.secs;have g:A1 w' F D.secs L:=f.ext hE λb _ hb e=>hb.ne h.head zd e;have i:=h.order.ext hE λ_ a e=>(Own.ty h.order a).ne h.head zd e;exact⟨by rw[hs,ho];exact hb,⟨L,c.g9 hE (c.ne h.head zd),by rw[hs];exact g⟩,by rw[ho];exact i,h.own,λx a=>aG (h.lt x a) hE.size⟩
theorem dk_now (w:World) {sb i:Nat} {L:List (List Value)} (hb:gu w sb 218 L.flatten) (hu:Uni 65 L) {s:Sec} {r:List Value} (hr:L[i]? =some r) {F:Nat->Prop} (hs:xq0 w F s r) (hfew:s.waits.length<4611686018427387904):
  ge prog 151 [.pointer (some ⟨sb,i*65,none⟩)] w λv w'=>v=numB s.now/\Ext No w w':=by
 let⟨p,c,l,G,o,z,H,_⟩:=hs;have q:w.cell? ⟨sb,i*65+64,none⟩=some (.slice p s.waits.length c):=by refine hb.cell ?_;rw[xx4 hu hr zd,l];simp[qw,g6,o]
 have t:Seg w sb (i*65) (g6 s.safe):=by have:=(hb.kc.drop (i*65)).take 64;rw[aX] at this;have e:=rows_part hu hr (j:=0) (n:=64) zd;rw[Nat.add_zero] at e;rw[e,l] at this;simpa [qw,g6,o] using this
 refine gt func151 (have g:=Ext.refl No w;ki (gn Z λM N J d h=> have A:=Nat.le_trans g.size J;have g:=g.g4 h;have b:=Ci q h id;have k:=t.g0 h;have B:=H.g0 h;qi (gh (jy Z (gj Z b (k9 Z (jn Z (jc Z (λG=>?_) (λG=>?_)))))))));have O:s.waits≠[]:=λe=>by rw[e] at G;simp at G
 obtain⟨P,m,rfl,C⟩:=B.2.resolve_left zo;have D:Uni 64 (bl s.waits):=Uni.map λx Q=>by simp[g6,z x Q]
 have f:(bl s.waits)[s.waits.length-1]? =some (g6 s.now):=by
  unfold bl Sec.now;rw[bZ,List.getLast?_eq_getElem?];have:s.waits.length-1<s.waits.length:=by omega
  grind
 have u:Seg N P (m+(s.waits.length-1)*64) (g6 s.now):=by have:=(C.drop ((s.waits.length-1)*64)).take 64;rw[rows_row D f] at this;exact this
 have a:(g6 s.now).length=64:=D.get f;refine jy Z (gj Z b (gv g5 Z ?_));rw[jt _ zo];exact jo Z 64 Z (s.waits.length-1) zo zo (m+(s.waits.length-1)*64) Z (je Z u a (wl (gz g5 d Z Z a (by rw[j4,a];rfl) Aq λR d y K=> have g:=g.g8 y A;qi (j6 (j2 (ko [_] ⟨⟨M,0,Z,kj g5 Z Z d.kc a⟩,trivial⟩ ⟨Z,g⟩))))));have S:s.waits=[]:=aT zo;have E:s.now=s.safe:=by simp[Sec.now,S]
 have a:(g6 s.safe).length=64:=by simp[g6,o]
 exact jw (jh (jy Z (je Z k a (wl (gz g5 d Z Z a (by rw[j4,a];rfl) Aq λR d y K=> have g:=g.g8 y A;qi (j6 (ko [_] ⟨⟨M,0,Z,kj g5 Z Z d.kc a⟩,trivial⟩ ⟨by rw[E];rfl,g⟩)))))))
theorem dk_readIn (w:World) {sb i x:Nat} {L:List (List Value)} (hb:gu w sb 218 L.flatten) (hu:Uni 65 L) {s:Sec} {r:List Value} (hr:L[i]? =some r) {F:Nat->Prop} (hs:xq0 w F s r) (hfew:s.waits.length<4611686018427387904) {l:List Value} (hx:gu w x 165 l) (hl:l.length=64) (hnow:s.now.length=64):
  ge prog 150 ([.pointer (some ⟨sb,i*65,none⟩)]++ #[Value.pointer (some ⟨x,0,none⟩)].toList) w λ_ w'=>gu w' x 165 (g6 s.now)/\Ext (One x) w w':=by
 refine gt func150 (xt Z (g7 call151 Z (dk_now w hb hu hr hs hfew) ?_));rintro g h⟨rfl,a⟩;have b:(g6 s.now).length=64:=by simp[g6,hnow]
 refine wl (gz g5 (hx.g0 a) Z Z b (by rw[hl];exact b) Aq λj d e f=> (ga (yq Z ?_)));exact⟨d,a.no.then e⟩
theorem zz9 {D:kg} {m:Nat} (hok:D.Ok m) (i:Nat):(D.now i).length=64:=by
 rw[kg.now];cases hs:D.secs[i]? with
 |none=>exact zeros_length
 |some s=>
  have a:=hok.safe s (List.mem_of_getElem? hs);simp only[Option.map_some,Option.getD_some,Sec.now];cases hl:s.waits.getLast? with
  |none=>exact a.1
  |some b=>exact a.2 b (List.mem_of_getLast? hl)
theorem waits_few {D:kg} {m:Nat} (hok:D.Ok m) {i:Nat} {s:Sec} (hs:D.secs[i]? =some s):s.waits.length<=m:=by
 rw[hok.count i s hs];exact Nat.le_trans List.count_le_length hok.few
theorem dk_read (w:World) {d sb oc m:Nat} {F:Nat->Prop} {op:Option Addr} {D:kg} (h:xn w d sb op oc F D) (hok:D.Ok m) (hm:m<1000000000) (i:Int):
  ge prog 78 [.pointer (some ⟨d,0,none⟩),.int .i64 i] w λv w'=>v= .tuple #[numB (D.read i).2.1,.int .i64 (D.read i).2.2]/\xn w' d sb op oc F (D.read i).1/\Ext (One d) w w':=by
 refine gt func78 (have p:=Ext.refl (One d) w;ki (gn Z λj C E a r=>?_))
 have G:=Nat.le_trans p.size E
 have p:=p.g4 r
 have n:¬F j:=λe=>by have:=h.lt j e;omega
 have s:d≠j:=λe=>n (e▸h.own.1)
 have h:=h.g0 r
 have a:gu C j 165 (g6 zeros):=by
  have e:cellsOf ti165.zero=g6 zeros:=by simp[ti165,zeros,g6]
  grind
 have H:=zw9 C i false call150 h.head hok.fuse hok.fault ⟨hok.done.1,by have:=hok.done.2;omega⟩
  (λv w'=>v= .int .i64 (D.read i).2.2/\xn w' d sb op oc F (D.read i).1/\gu w' j 165 (g6 (D.read i).2.1)/\Ext (λx=>x=d\/x=j) C w') (caps:= #[.pointer (some ⟨j,0,none⟩)])
  (λc=>?_) (λc q=>?_) (λc q A w' f k=>?_) (λc q A t R w' f k=>?_) (λc q A t w' f k=>?_)
 refine k9 Z (jy Z (g7 call149 Z H λV P⟨rfl,h,a,g⟩=>?_))
 have K:(g6 (D.read i).2.1).length=64:=by
  unfold g6
  rw[aB]
  unfold kg.read
  dsimp only
  split
  exact zz9 (hok.begin i false) _
  rfl
 have p:Ext (One d) w P:=p.trans g λx W e=>e.resolve_right zo
 exact k9 Z (ki (j8 a Z K (gv g5 Z (wl (gz g5 a Z Z K (by rw[j4]) Aq λX a u S=> vl Z (ko [_,_] ⟨⟨j,0,Z,kj g5 Z Z a.kc K⟩,Z,trivial⟩ ⟨Z,h.extNew u n,p.g8 u G⟩))))))
 have e:D.read i=(D,zeros,9):=by simp[kg.read,kg.begin,c]
 rw[e]
 exact⟨Z,h,a,Ext.refl _ _⟩
 have e:D.read i=(D,zeros,2):=by simp[kg.read,kg.begin,c,q]
 rw[e]
 exact⟨Z,h,a,Ext.refl _ _⟩
 have e:D.read i=({D with fault:= -1},zeros,8):=by simp[kg.read,kg.begin,c,q,A]
 rw[e]
 have B:=h.yv9 (D':={D with fault:= -1}) Z Z (by rw[c];exact f) k
 exact⟨Z,B,a.g9 k s.symm,k.mono λx _ e=> .inl e⟩
 cases t
 have T:D.begin i false=({D with fault:=vk D.fault,fuse:=A4 false D.fuse,done:=D.done+1},0):=by simp[kg.begin,c,q,A]
 have e:D.read i=({D with fault:=vk D.fault,fuse:=A4 false D.fuse,done:=D.done+1},D.now i.toNat,0):=by
  simp only[kg.read,T,cH,kg.now]
 rw[e]
 have B:=h.yv9 (D':={D with fault:=vk D.fault,fuse:=A4 false D.fuse,done:=D.done+1}) Z Z (by rw[c];exact f) k
 let⟨L,M,o⟩:=B.secs
 have y:i.toNat<D.secs.length:=by omega
 have N:D.secs[i.toNat]? =some D.secs[i.toNat]:=by simp[y]
 have U:i.toNat<L.length:=by rw[o.1];exact y
 have Q:L[i.toNat]? =some L[i.toNat]:=by simp
 have z:D.now i.toNat=D.secs[i.toNat].now:=by simp[kg.now,N]
 have l:=zz9 hok i.toNat
 rw[z] at l|-
 exact (dk_readIn w' M o.uni Q (o.2 _ _ _ N Q) (by have:=waits_few hok N;omega) (a.g9 k s.symm) (by simp[g6,zeros]) l).mono λv P ⟨O,g⟩=> ⟨Z,B.extNew g n,O,(k.mono λx _ e=> .inl e).then (g.mono λx _ e=> .inr e)⟩
def Grow (F : Nat -> Prop) (w w' : World) : Nat -> Prop := λx => F x \/ (w.heap.size <= x /\ x < w'.heap.size)
theorem z29 : cellsOf ti165.zero = g6 zeros := by simp [ti165, zeros, g6]
theorem dk_writeIn (w:World) {d sb oc m b1 b2 b3:Nat} {F:Nat->Prop} {op:Option Addr} {D:kg} (h:xn w d sb op oc F D) (hok:D.Ok m) (hm:m<1000000000) {i:Nat} (hi:i<D.secs.length) {b:Bytes} (hb64:b.length=64)
  (hb1:gu w b1 165 (g6 b)) (hb2:gu w b2 61 [.pointer (some ⟨d,0,none⟩)]) (hb3:gu w b3 3 [.int .i64 (i:Int)]) (hF3:¬F b1/\¬F b2/\¬F b3):
  ge prog 188 ([.pointer (some ⟨sb,i*65,none⟩)]++ #[Value.pointer (some ⟨b1,0,none⟩),.pointer (some ⟨b2,0,none⟩),.pointer (some ⟨b3,0,none⟩)].toList) w
   λ_ w'=>∃op' oc',xn w' d sb op' oc' (Grow F w w') (D.put i b)/\Ext F w w':=by
 let⟨L,ag,E⟩:=h.secs
 have hu:=E.uni
 have hs:D.secs[i]? =some D.secs[i]:=by simp[hi]
 have ah:i<L.length:=by rw[E.1];exact hi
 have hr:L[i]? =some L[i]:=by simp
 let⟨p,c,U,hc,C,ai,a3,ba⟩:=E.2 _ _ _ hs hr
 generalize hsd:D.secs[i]=s at*
 generalize hrd:L[i]=r at*
 have a7:=waits_few hok hs
 have y:w.cell? ⟨sb,i*65+64,none⟩=some (.slice p s.waits.length c):=by
  refine ag.cell ?_
  rw[xx4 hu hr zd,U]
  simp[qw,g6,C]
 refine gt func188 ?_
 have o:=Ext.refl F w
 refine gh (jl Z 19 [qP 0,qP 1,qP 2,qP 3,qP 4,qP 5,qP 6,qP 7,qP 8,qP 9,qP 10,qP 11,qP 12,qP 13,qP 14,qP 15,qP 16,(17,false),(18,false)] [19,20,21] No zk λw1 Y bb=>?_)
 have o:=o.g4 Y
 refine wd_p g5 Z (gy g5 Z Z (λw' f=>Ci y f id) (wd_p g5 Z (gy g5 Z Z (λw' f=>Ci y f id) (wd_p g5 Z (gy g5 Z Z (λw' f=>Ci y f id) (wd_p g5 Z (yx5 g5 Z Z 0 s.waits.length s.waits.length 64 Z (.inl ⟨Z,Z⟩) (.inl Z) (.inr ⟨Z,Z⟩) zo zo (by simpa using hc) (kw g5 Z Z (λw' f=>(hb1.g0 f).kc) (by simp[g6,hb64]) (jg Z (kz g5 Z 64 Z z29 (qg zeros_length) zd zd ⟨⟨qg hb64,by decide⟩,trivial⟩ (l':=g6 b) ?_ λaj w2 a8 ak I bc=>⟨Y.g4 I,?_⟩))))))))))
 ·simp only[yk,j4]
  rw[cX,Ba]
  rw[ur,qg hb64,qg zeros_length]
 have o:=o.g4 I
 have G:=Y.g4 I
 have am:Sl w2 (ub p 0 s.waits.length 64) (s.waits.length-0) 64 (bl s.waits).flatten:=by rw[qa];exact a3.g0 G
 have an:Src prog w2 64 (.slice (some ⟨aj,0,none⟩) 1 1) 1 (g6 b):=Src.slice ⟨by rw[qg hb64],.inr ⟨aj,0,Z,ak.kc⟩⟩ Aq
 refine jg Z (st_appG g5 Z 64 64 Z Z (by rw[z29];exact qg zeros_length) zd am an zm zn zn λz c3 w3 ap H aa=>⟨G.g4 aa,?_⟩)
 have H:Own w3 (some ⟨z,0,none⟩) (s.waits.length+1) c3 165 64 ((bl s.waits).flatten++g6 b):=H
 have aq:=Nat.le_trans o.size ap
 have o:=o.g4 aa
 have k:=G.g4 aa
 have q:=ag.g0 k
 have P:=h.g0 k
 have ar:A1 w3 F D.secs L:=E.ext k λ_ _ _=>id
 have hlen:=yg hu
 refine jd (wb Z (st_p g5 Z Z Z (wb Z (st_p g5 Z Z Z (wb Z (uh g5 q Z Z (by show i*65+64<_;rw[hlen];have:=cQ 65 ah;omega) λw4 Q A bd=>?_))))))
 have Q:gu w4 sb 218 (Vc.put L.flatten (i*65+64) [Value.slice (some ⟨z,0,none⟩) (s.waits.length+1) c3]):=Q
 rw[yz0 hu hr _ zp] at Q
 have o:Ext F w w4:=o.trans A λx a e=>by rw[e];exact h.own.2.1
 have au:d≠sb:=(P.head.ne q zd)
 have g:=P.head.g9 A au
 have J:Own w4 op D.order.length oc 3 1 (Cn D.order):=P.order.ext A λx a e=>(Own.ty P.order a).ne q zd e
 have V:=(hb2.g0 k).g9 A λe=>hF3.2.1 (e▸h.own.2.1)
 have av:=(hb3.g0 k).g9 A λe=>hF3.2.2 (e▸h.own.2.1)
 have W:∀x,j5 op x->b2≠x:=λx a e=>hF3.2.1 (e▸h.own.2.2 x a)
 have aw:∀x,j5 op x->b3≠x:=λx a e=>hF3.2.2 (e▸h.own.2.2 x a)
 have X:∀x,j5 op x->d≠x:=λx a e=>(Own.ty P.order a).ne P.head zd e.symm
 refine j1 (jh (jl Z 8 [qP 0,qP 1,qP 2,qP 3,qP 4,qP 5,(6,false),(7,false)] [8,9,10] (j5 op) zk λw5 ab bf=> have o:=o.g4 ab;gy g5 Z Z (λw' f=>(V.ext f λe=>W _ e Z).cell Z) (gy g5 Z Z (λw' f=>(V.ext f λe=>W _ e Z).cell Z) (wd_p g5 Z (gy g5 Z Z (λw' f=>(g.ext f λe=>X _ e Z).cell Z) (gy g5 Z Z (λw' f=>(av.ext f λe=>aw _ e Z).cell Z) (jg Z (kz g5 Z 1 Z Z Z zd zd ⟨⟨Z,by decide⟩,trivial⟩ (l':=[.int .i64 (i:Int)]) Z λax w6 a9 ay ac bg=>⟨(ab.g4 ac).no,?_⟩))))))))
 have o:=o.g4 ac
 have n:=ab.g4 ac
 have J:=J.ext n λ_ _=>id
 have ad:Src prog w6 1 (.slice (some ⟨ax,0,none⟩) 1 1) 1 [.int .i64 (i:Int)]:=Src.slice ⟨Z,.inr ⟨ax,0,Z,ay.kc⟩⟩ (λv hv=>by simp at hv;subst hv;rfl)
 have bh:=hok.few
 refine jg Z (ul g5 Z 1 8 Z Z Z zd J ad zm zn λp7 c7 w7 R K a4=>⟨n.no.then K,?_⟩)
 have R:Own w7 p7 (D.order.length+1) c7 3 1 (Cn D.order++[.int .i64 (i:Int)]):=R
 have o:Ext F w w7:=o.trans K λx a e=>h.own.2.2 x e
 have g:=(g.g0 n).ext K λe=>X _ e Z
 have S:=g
 refine jd (wb Z (st_p g5 Z Z Z (wb Z (st_p g5 Z Z Z (wb Z (Aa g5 g Z Z Z λw8 g T bi=>?_))))))
 have o:Ext F w w8:=o.trans T λx a e=>by rw[e];exact h.own.1
 refine j1 (yq Z ⟨p7,c7,?_,o⟩)
 have az:sb≠d:=au.symm
 have a0:∀x,j5 op x->sb≠x:=λx a e=>(Own.ty P.order a).ne q zd e.symm
 -- what has turned since w3
 have M:Ext (λx=>x=sb\/j5 op x\/x=d) w3 w8:=
  ((A.mono λ_ _ e=> .inl e).g4 n).then ((K.mono λ_ _ e=> .inr (.inl e)).then (T.mono λ_ _ e=> .inr (.inr e)))
 have N:∀x,TyB w3 x 165->¬(x=sb\/j5 op x\/x=d):=λx a e=>by
  rcases e with e|e|e
  ·exact a.ne q zd e
  ·let⟨l,hl⟩:=Own.ty P.order e
   exact a.ne hl zd Z
  exact a.ne P.head zd e
 have a5:gu w8 sb 218 (L.set i (Vc.put r 64 [Value.slice (some ⟨z,0,none⟩) (s.waits.length+1) c3])).flatten:=
  ((Q.g0 n).ext K λe=>a0 _ e Z).g9 T az
 have O:=R.ext T λx a e=>(Own.ty R a).ne S zd e
 have ae:TyB w3 z 165:=Own.ty H Z
 have af:Vc.put r 64 [Value.slice (some ⟨z,0,none⟩) (s.waits.length+1) c3]=qw s.safe (some ⟨z,0,none⟩) (s.waits.length+1) c3:=by
  rw[U,put_eq _ _ _ (by simp[qw,g6,C])]
  have e1:(qw s.safe p s.waits.length c).take 64=g6 s.safe:=by
   unfold qw;rw[List.take_append_of_le_length (by simp[g6,C]),aL (by simp[g6,C])]
  rw[e1,bY (by simp[qw,g6,C])]
  simp[qw]
 refine⟨?_,⟨_,a5,?_,?_⟩,?_,⟨.inl h.own.1,.inl h.own.2.1,λx a=>?_⟩,λx a=>?_⟩
 ·have e:(D.put i b).secs.length=D.secs.length:=by simp[kg.put]
  have e2:(D.put i b).order.length=D.order.length+1:=by simp[kg.put]
  rw[e,e2]
  exact g
 ·simp[kg.put,E.1]
 ·intro j s' r' u B
  simp only[kg.put,List.getElem?_modify] at u
  rw[List.getElem?_set] at B
  by_cases hij:i=j
  ·subst hij
   rw[aM Z,aM ah] at B
   rw[hs] at u
   simp at u B
   subst u
   rw[af] at B
   subst B
   refine⟨some ⟨z,0,none⟩,c3,?_,?_,C,?_,?_,?_⟩
   ·simp[Cc]
   ·have:=H.cap
    simp only[Cc,al,dI]
    omega
   ·intro x a
    simp only[Cc,aV,aE] at a
    rcases a with a|rfl
    ·exact ai x a
    exact hb64
   ·have e3:=H.sl.ext M λx a6 hp=>by
     simp only[bI,Addr.mk.injEq] at hp
     rw[<-hp.1]
     exact N _ ae
    have e4:(bl (Cc b s).waits).flatten=(bl s.waits).flatten++g6 b:=by simp[bl,Cc]
    rw[e4]
    simpa [Cc] using e3
   intro x a6 hp
   simp only[bI,Addr.mk.injEq] at hp
   rw[<-hp.1]
   have h8:=ae.ext M (N _ ae)
   let⟨l,hl⟩:=h8
   exact⟨.inr ⟨aq,hl.lt⟩,l,hl⟩
  rw[aJ hij] at B
  have a1:D.secs[j]? =some s':=by
   cases hj:D.secs[j]? with
   |none=>rw[hj] at u;simp at u
   |some t=>rw[hj] at u;simpa [hij] using u
  exact((ar.2 j s' r' a1 B).ext M λx _ a=>N x a).mono λx a=> .inl a
 ·have e2:(D.put i b).order.length=D.order.length+1:=by simp[kg.put]
  rw[e2]
  simpa [kg.put,Cn] using O
 ·rcases a4 x a with a2|a2
  ·exact .inl (h.own.2.2 x a2)
  refine .inr ⟨?_,O.lt a⟩
  have:=(k.g4 (Ext.refl No w3)).size
  have:=A.size
  have:=n.size
  omega
 rcases a with a|a
 ·exact aG (h.lt x a) o.size
 exact a.2
def At (w : World) (d : Nat) (F : Nat -> Prop) (D : kg) : Prop := ∃ sb op oc, xn w d sb op oc F D
theorem xn.mono {F F':Nat->Prop} {w:World} {d sb oc:Nat} {op:Option Addr} {D:kg} (h:xn w d sb op oc F D) (hF:∀x,F x->F' x) (hlt:∀x,F' x->x<w.heap.size):xn w d sb op oc F' D:=by
 let⟨L,a,b⟩:=h.secs;exact⟨h.head,⟨L,a,b.mono hF⟩,h.order,⟨hF _ h.own.1,hF _ h.own.2.1,λx c=>hF _ (h.own.2.2 x c)⟩,hlt⟩
theorem xn.grow {F:Nat->Prop} {w w':World} {d sb oc:Nat} {op:Option Addr} {D:kg} (h:xn w' d sb op oc F D):xn w' d sb op oc (Grow F w w') D:=
 h.mono (λ_=> .inl) λx a=>a.elim (h.lt x) λa=>a.2
theorem At.ext {S F:Nat->Prop} {w w':World} {d:Nat} {D:kg} (h:At w d F D) (hE:Ext S w w') (hS:∀x,F x->¬S x):At w' d F D:=let⟨sb,op,oc,h⟩:=h;⟨sb,op,oc,h.ext hE hS⟩
theorem At.g0 {F:Nat->Prop} {w w':World} {d:Nat} {D:kg} (h:At w d F D) (hE:Ext No w w'):At w' d F D:=let⟨sb,op,oc,h⟩:=h;⟨sb,op,oc,h.g0 hE⟩
theorem At.lt {F : Nat -> Prop} {w : World} {d : Nat} {D : kg} (h : At w d F D) : ∀ x, F x -> x < w.heap.size := let ⟨_, _, _, h⟩ := h; h.lt
theorem At.own {F : Nat -> Prop} {w : World} {d : Nat} {D : kg} (h : At w d F D) : F d := let ⟨_, _, _, h⟩ := h; h.own.1
theorem Grow.wide {F:Nat->Prop} {w0 w w' w1:World} (h0:w0.heap.size<=w.heap.size) (h1:w'.heap.size<=w1.heap.size) {x:Nat} (h:Grow F w w' x):Grow F w0 w1 x:=
 h.imp id λh=>⟨Nat.le_trans h0 h.1,aG h.2 h1⟩
theorem cells_num (b : Bytes) : cellsOf (numB b) = g6 b := by simp [Cw, g6, j4]
theorem dk_write (w:World) {d m:Nat} {F:Nat->Prop} {D:kg} (h:At w d F D) (hok:D.Ok m) (hm:m+1<1000000000) (i:Int) {b:Bytes} (hb:b.length=64):
  ge prog 143 [.pointer (some ⟨d,0,none⟩),.int .i64 i,numB b] w λv w'=>v= .int .i64 (D.write i b).2/\At w' d (Grow F w w') (D.write i b).1/\Ext F w w':=by
 let⟨a,op,oc,h⟩:=h
 refine gt func143 (have c:=Ext.refl F w;ki (gn Z λU w1 K f u=> have y:=Nat.le_trans c.size K;have c:=c.g4 u;gn Z λV W L o g=> have z:=Nat.le_trans c.size L;have f:=f.g0 g;have c:=c.g4 g;gn Z λQ R M r p=>?_))
 have A:=Nat.le_trans c.size M
 have f:=f.g0 p
 have o:=o.g0 p
 have c:=c.g4 p
 have J:∀x,w.heap.size<=x->¬F x:=λx n e=>by have:=h.lt x e;omega
 have h:=((h.g0 u).g0 g).g0 p
 have r:gu R Q 165 (g6 b):=by rw[<-cells_num];exact r
 have N:=zw9 R i true call188 h.head hok.fuse hok.fault ⟨hok.done.1,by have:=hok.done.2;omega⟩
  (λv w'=>v= .int .i64 (D.write i b).2/\At w' d (Grow F w w') (D.write i b).1/\Ext F w w') (caps:= #[.pointer (some ⟨Q,0,none⟩),.pointer (some ⟨U,0,none⟩),.pointer (some ⟨V,0,none⟩)])
  (λj=>?_) (λj s=>?_) (λj s B w' k l=>?_) (λj s B C O w' k l=>?_) (λj s B C w' k l=>?_)
 refine k9 Z (ki (j3 f Z Z (j3 o Z Z (gv g5 Z (g7 call149 Z N λv4 w4 t=>?_)))))
 let⟨rfl,t⟩:=t
 exact vl Z (gp Z Z ⟨Z,t⟩)
 have e:D.write i b=(D,9):=by simp[kg.write,kg.begin,j]
 rw[e]
 exact⟨Z,⟨_,_,_,h.grow⟩,c⟩
 have e:D.write i b=(D,2):=by simp[kg.write,kg.begin,j,s]
 rw[e]
 exact⟨Z,⟨_,_,_,h.grow⟩,c⟩
 have e:D.write i b=({D with fault:= -1},8):=by simp[kg.write,kg.begin,j,s,B]
 rw[e]
 have E:=h.yv9 (D':={D with fault:= -1}) Z Z (by rw[j];exact k) l
 exact⟨Z,⟨_,_,_,E.grow⟩,c.trans l λx _ e=>e▸h.own.1⟩
 have e:D.write i b=({D with fault:=vk D.fault,fuse:= -1,dead:=true},9):=by simp[kg.write,kg.begin,j,s,B,O]
 rw[e]
 have E:=h.yv9 (D':={D with fault:=vk D.fault,fuse:= -1,dead:=true}) Z Z k l
 exact⟨Z,⟨_,_,_,E.grow⟩,c.trans l λx _ e=>e▸h.own.1⟩
 have G:¬(D.fuse=0):=λe=>C ⟨Z,e⟩
 have S:D.begin i true=({D with fault:=vk D.fault,fuse:=A4 true D.fuse,done:=D.done+1},0):=by simp[kg.begin,j,s,B,G]
 have e:D.write i b=(({D with fault:=vk D.fault,fuse:=A4 true D.fuse,done:=D.done+1}:kg).put i.toNat b,0):=by
  simp only[kg.write,S,cH]
 rw[e]
 have E:=h.yv9 (D':={D with fault:=vk D.fault,fuse:=A4 true D.fuse,done:=D.done+1}) Z Z (by rw[j];exact k) l
 have q:=hok.begin i true
 rw[S] at q
 have nd:∀x,w.heap.size<=x->x≠d:=λx n e=>J x n (e▸h.own.1)
 have P:(i.toNat:Int)=i:=by omega
 refine(dk_writeIn w' E q zo (i:=i.toNat) (by simp only;omega) hb (r.g9 l (nd _ A)) (f.g9 l (nd _ y)) (by rw[P];exact o.g9 l (nd _ z)) ⟨J _ A,J _ y,J _ z⟩).mono λv W ⟨X,Y,T,g⟩=>?_
 have H:Ext F w w':=c.trans l λx _ e=>e▸h.own.1
 exact⟨Z,⟨_,_,_,T.mono (λx n=>n.wide H.size (aA _)) λx n=> n.elim (λn=>T.lt x (.inl n)) λn=>n.2⟩,H.trans g λx _=>id⟩
theorem A1.modify {w:World} {F:Nat->Prop} {secs:List Sec} {L:List (List Value)} (h:A1 w F secs L) {k:Nat} {f:Sec->Sec} {r:List Value} (hr:∀s,secs[k]? =some s->xq0 w F (f s) r):A1 w F (secs.modify k f) (L.set k r):=by
 refine⟨by simp[h.1],λj s x a b=>?_⟩;rw[List.getElem?_modify] at a;rw[List.getElem?_set] at b;by_cases hkj:k=j;subst hkj;rw[aM Z] at b;split at b;simp at b;subst b;cases hk:secs[k]? with
 |none=>rw[hk] at a;simp at a
 |some t=>
  grind
 cases b;rw[aJ hkj] at b;cases hk:secs[j]? with
 |none=>rw[hk] at a;simp at a
 |some t=>
  rw[hk] at a;simp[hkj] at a;subst a;exact h.2 j t x hk b
theorem dk_settle (w:World) {d m:Nat} {F:Nat->Prop} {D:kg} (h:At w d F D) (hok:D.Ok m) (hm:m<1000000000) (lives:Nat->Bool) {g:Nat} {caps:Array Value}
  (hcf:∀args w,(callFunc g args).run prog w= .ok (.enter g args) w)
  (hl:∀w1 (i:Nat),i<D.order.length->Ext F w w1->ge prog g ([.int .i64 (i:Int)]++caps.toList) w1 λv w2=>v= .bool (lives i)/\Ext No w1 w2):
  ge prog 126 [.pointer (some ⟨d,0,none⟩),.func (.func g) #[] caps] w λ_ w'=>At w' d F (D.settle lives)/\Ext F w w':=by
 let⟨W,op,oc,h⟩:=h;have bh:=hok.few;refine gt func126 ?_
 refine c_scopeJ (α:=Nat×List Sec) 0 Z
  (λz u=>z.1<=D.order.length/\z.2.length=D.secs.length/\(∀k s,z.2[k]? =some s->s.waits.length=(D.order.drop z.1).count k)/\Bf lives (D.order.drop z.1) z.1 z.2=Bf lives D.order 0 D.secs/\
   (∃L,gu u W 218 (List.flatten L)/\A1 u F z.2 L)/\gu u d 153 (dskL W D.secs.length op D.order.length oc D.dead D.fuse D.fault D.done)/\Own u op D.order.length oc 3 1 (Cn D.order)/\Ext F w u)
  (λz=>[(0,.pointer (some ⟨d,0,none⟩)),(1,.func (.func g) #[] caps),(4,.int .i64 (z.1:Int))]) (λz _=>D.order.length-z.1) ?_ ?_
 refine xt Z (ga (f_first (0,D.secs) Z ⟨aF _,Z,λk s hs=>hok.count k s hs,Z,h.secs,h.head,h.order,Ext.refl F w⟩));rintro⟨i,M⟩ u ⟨hi,ax,H,P,⟨L,q,T⟩,j,Q,hX⟩;dsimp only at hi ax H P T|-;have aq:∀x,TyB u x 165->x≠W:=λx U=>U.ne q zd;refine gh (jy Z (j3 j Z Z (k9 Z (jc Z (λhc=>?_) (λhc=>?_)))));have ag:i<D.order.length:=by omega
 have hk:D.order[i]? =some D.order[i]:=by simp[ag]
 generalize hkk:D.order[i]=k at hk;have ay:k<D.secs.length:=hok.inside k (List.mem_of_getElem? hk);let⟨b0,am,Y,az⟩:=Q.sl.2.resolve_left zo;have ah:u.cell? ⟨b0,am+i,none⟩=some (.int .i64 (k:Int)):=az i _ (by simp[Cn,hk]);have a8:op=some ⟨b0,0,none⟩/\am=0:=by rcases Q with⟨hp,_⟩|⟨b,l,hp,_⟩;rw[hp] at Y;cases Y;rw[hp] at Y;simp at Y;let⟨rfl,rfl⟩:=Y;exact⟨hp,Z⟩
 obtain⟨a0,rfl⟩:=a8;subst a0;have I:M[k]? =some (M[k]'zo):=by simp[show k<M.length by omega]
 generalize hss:M[k]'zo=s at I;have N:D.order.drop i=k::D.order.drop (i+1):=by rw[cl ag,hkk]
 have R:=H k s I;rw[N,List.count_cons_self] at R;have a9:k<L.length:=by rw[T.1];omega
 have hr:L[k]? =some L[k]:=by simp
 generalize hrd:L[k]=r at hr;have a1:=T.2 k s r I hr;obtain⟨p,c,aa,an,ai,ab,a2,a3⟩:=a1;have hu:=T.uni;have y:u.cell? ⟨W,k*65+64,none⟩=some (.slice p s.waits.length c):=by refine q.cell ?_;rw[xx4 hu hr zd,aa];simp[qw,g6,ai]
 obtain⟨o,f,hp,ar⟩:=a2.2.resolve_left zo;subst hp
 obtain⟨f0,J,a⟩:∃f0 J,s.waits=f0::J:=by
  cases hww:s.waits with
  |nil=>rw[hww] at R;simp at R
  |cons f0 J=>exact⟨f0,J,Z⟩
 have A:f0.length=64:=ab f0 (by rw[a];simp);have B:Seg u o f (g6 f0):=by have:=ar.take 64;rw[a] at this;simpa [bl,g6,A] using this
 have hlenL:=yg hu;refine gh (jl Z 13 [qP 0,qP 1,qP 2,qP 3,qP 4,qP 5,qP 6,qP 7,qP 8,qP 9,qP 10,qP 11,qP 12] [] No zk λw1 C ba=> wd_p g5 Z (gy g5 Z Z (λw' ac=>(j.g0 ac).cell Z) (wd_p g5 Z (gy g5 Z Z (λw' ac=>(j.g0 ac).cell Z) (wd_p g5 Z (qe g5 Z Z 1 Z i Z ag (0+i) zo (gy g5 Z Z (λw' ac=>Ci ah ac id) (qe g5 Z Z 65 Z k Z ay (0+k*65) zo (wd_p g5 Z (jd (j1 (jh ?_))))))))))));rw[aX];have ap:=q;have bb:=hX;have q:=q.g0 C;have y:=Ci y C id;have B:=B.g0 C;have hX:=hX.g4 C;have ad:TyB u o 165:=(a3 o f Z).2;have a4:F W:=h.own.2.1;refine jb (α:=Unit) [0,1,4,5] Z (λz=>[]) (λz u'=>gu u' W 218 (L.set k (qw (va (lives i) s).safe (some ⟨o,f,none⟩) s.waits.length c)).flatten/\Ext (Vc.One W) u u') ?_ ?_;refine gh (xt Z (g7 hcf Z (hl w1 i ag hX) λv2 w2 aj=>?_));obtain⟨rfl,O⟩:=aj;have q:=q.g0 O;have y:=Ci y O id;have B:=B.g0 O;refine qi (u5 Z (λhc=>?_) (λhc=>?_));refine gr (gv g5 Z (gj Z y (jo Z 64 Z 0 Z zo f zo (je Z B (by simp[g6,A]) (gv g5 Z (wl (Bw g5 q Z (by rw[j4];simp[g6,A]) (by rw[hlenL];show k*65+64<=_;omega) (by rw[j4];exact Aq) λw3 K au bc=> ga (gk () Z ⟨?_,C.no.then (O.no.then au)⟩))))))));have K:gu w3 W 218 (Vc.put L.flatten (k*65+0) (g6 f0)):=by simpa using K
 rw[yz0 hu hr _ (by simp[g6,A])] at K;have:Vc.put r 0 (g6 f0)=qw (va (lives i) s).safe (some ⟨o,f,none⟩) s.waits.length c:=by rw[aa,put_eq _ _ _ (by simp[qw,g6,ai,A]),hc];simp[qw,g6,ai,A,va,a]
 rwa [this] at K;refine jw (gk () Z ⟨?_,C.no.then O.no⟩);rw[hc];have e:(va false s).safe=s.safe:=rfl;rw[e,<-aa,<-hrd,List.set_getElem_self];exact q;rintro⟨⟩ u2 ⟨ae,O⟩;generalize hrow2:qw (va (lives i) s).safe (some ⟨o,f,none⟩) s.waits.length c=r2 at ae;have E:(va (lives i) s).safe.length=64:=by simp only[va,a,List.headD_cons];split;exact A;exact ai
 have av:Uni 65 (L.set k r2):=hu.set k (by rw[<-hrow2];simp[qw,g6,E]);have aj:(L.set k r2)[k]? =some r2:=by simp[a9]
 have ak:u2.cell? ⟨W,k*65+64,none⟩=some (.slice (some ⟨o,f,none⟩) s.waits.length c):=by refine ae.cell ?_;rw[xx4 av aj zd,<-hrow2];simp[qw,g6,E]
 have S:=yg av;rw[List.length_set] at S;refine jy Z (gj Z ak (wl (Ay g5 Z 1 s.waits.length c 64 Z (.inr ⟨Z,Z⟩) (.inr ⟨Z,Z⟩) (.inl Z) zo an (aA c) (gv g5 Z (wl (uh g5 ae Z Z (by show k*65+64<_;rw[S];omega) λw3 K au bc=>?_))))));have K:gu w3 W 218 (Vc.put (L.set k r2).flatten (k*65+64) [Value.slice (ub (some ⟨o,f,none⟩) 1 c 64) (s.waits.length-1) (c-1)]):=K;rw[yz0 av aj _ zp] at K;have G:Ext (Vc.One W) u w3:=O.then au;refine qi (jy Z ?_);rw[jt _ zo];refine qi (c_goto (f_thenG (f_back (i+1,M.modify k (va (lives i))) Z ⟨by simp only;omega,by simp only[List.length_modify];omega,?_,?_,⟨_,K,?_⟩,?_,?_,?_⟩ ?_)));intro k' s' n;simp only[List.getElem?_modify] at n;by_cases hkk':k=k';subst hkk';rw[I] at n;simp at n;subst n;simp only[va,a,List.tail_cons];rw[a,aR] at R;omega;cases hck:M[k']? with
 |none=>rw[hck] at n;simp at n
 |some t=>
  rw[hck] at n;simp[hkk'] at n;subst n;have:=H k' t hck;rw[N,List.count_cons_of_ne hkk'] at this;exact this
 rw[<-P,N];rfl;have a5:A1 w3 F M L:=T.ext G λx _ U=>aq x U;rw[List.set_set];refine A1.modify a5 λs' n=>?_;rw[I] at n;simp at n;subst n;have af:∀b V,ub (some ⟨o,f,none⟩) 1 c 64=some ⟨b,V,none⟩->b=o:=by intro b V X;unfold ub at X;split at X;simp at X;exact X.1.symm;simp[addr_add] at X;exact X.1.symm
 have a6:=(a2.slice 1 s.waits.length c zo an (aA _)).ext G λb V X=>by rw[af b V X];exact aq _ ad
 refine⟨ub (some ⟨o,f,none⟩) 1 c 64,c-1,?_,?_,E,?_,?_,?_⟩;rw[<-hrow2,put_eq _ _ _ (by simp[qw,g6,E])];have e1:(qw (va (lives i) s).safe (some ⟨o,f,none⟩) s.waits.length c).take 64=g6 (va (lives i) s).safe:=by unfold qw;rw[List.take_append_of_le_length (by simp[g6,E]),aL (by simp[g6,E])]
 rw[e1,bY (by simp[qw,g6,E])];simp[qw,va];simp[va];omega;intro b X;exact ab b (List.mem_of_mem_tail X);have e1:(va (lives i) s).waits.length=s.waits.length-1:=by simp[va]
 have e2:(bl (va (lives i) s).waits).flatten=((bl s.waits).flatten.drop (1*64)).take ((s.waits.length-1)*64):=by
  have bd:Uni 64 (bl s.waits):=Uni.map λx U=>by simp[g6,ab x U]
  rw[rows_sub bd];congr 1;rw[aL (by simp[bl])];simp[va,bl,a]
 rw[e1,e2];exact a6;intro b V X;have:=af b V X;subst this;exact⟨(a3 b f Z).1,ad.ext G (aq _ ad)⟩
 exact j.g9 G (j.ne ap zd);exact Q.ext G λx U e=>(Own.ty Q U).ne ap zd e;exact bb.trans G λx _ e=>e▸a4;simp only;omega;have bf:i=D.order.length:=by omega
 subst bf;rw[List.drop_length] at P;refine vo (xt Z (ka j Z Z Z λw1 bg C ba=> ga (f_jumpN (yq Z (have a7:F d:=h.own.1;have aw:M=Bf lives D.order 0 D.secs:=P;⟨⟨W,none,0,?_,⟨L,q.g9 C (q.ne j zd),?_⟩,.inl ⟨Z,Z,Z,Z⟩,⟨a7,h.own.2.1,λx U=>by cases U⟩,?_⟩,hX.trans C λx _ e=>e▸a7⟩)))));simp only[kg.settle,Bc];exact bg;simp only[kg.settle];rw[<-aw];exact T.ext C λx _ U e=>U.ne j zd e;intro x U;have:=hX.size;have:=C.size;have:=h.lt x U;omega
theorem dk_yes (w:World) (i:Nat):ge prog 190 ([.int .i64 (i:Int)]++(#[]:Array Value).toList) w λv w'=>v= .bool true/\Ext No w w':=by
 exact gt func190 (jn Z (jn Z (j6 (gp Z Z ⟨Z,Ext.refl _ _⟩))))
theorem dk_sync (w:World) {d m:Nat} {F:Nat->Prop} {D:kg} (h:At w d F D) (hok:D.Ok m) (hm:m+1<1000000000):
  ge prog 144 [.pointer (some ⟨d,0,none⟩)] w λv w'=>v= .int .i64 D.sync.2/\At w' d F D.sync.1/\Ext F w w':=by
 let⟨L,M,N,h⟩:=h
 refine gt func144 (have l:=Ext.refl F w;ki (gn Z λu y G f n=>?_))
 have l:=l.g4 n
 have z:¬F u:=λe=>by have:=h.lt u e;omega
 have h:=h.g0 n
 have H:=hok.size
 have A:=zw9 y 0 true call189 h.head hok.fuse hok.fault ⟨hok.done.1,by have:=hok.done.2;omega⟩
  (λv w'=>v= .int .i64 D.sync.2/\At w' d F D.sync.1/\Ext F w w') (caps:= #[.pointer (some ⟨u,0,none⟩)])
  (λc=>?_) (λc o=>?_) (λc o p w' b g=>?_) (λc o p q B w' b g=>?_) (λc o p q w' b g=>?_)
 refine k9 Z (ki (j3 f Z Z (gv g5 Z (g7 call149 Z A λO J k=>?_))))
 let⟨rfl,k⟩:=k
 exact vl Z (gp Z Z ⟨Z,k⟩)
 have e:D.sync=(D,9):=by simp[kg.sync,kg.begin,c]
 rw[e]
 exact⟨Z,⟨_,_,_,h⟩,l⟩
 exact absurd zo o
 have K:(0:Int)<=0/\(0:Int)<D.secs.length:=o
 have e:D.sync=({D with fault:= -1},8):=by simp[kg.sync,kg.begin,c,p,show 0<D.secs.length by omega]
 rw[e]
 have r:=h.yv9 (D':={D with fault:= -1}) Z Z (by rw[c];exact b) g
 exact⟨Z,⟨_,_,_,r⟩,l.trans g λx _ e=>e▸h.own.1⟩
 have e:D.sync=({D with fault:=vk D.fault,fuse:= -1,dead:=true},9):=by simp[kg.sync,kg.begin,c,p,B,show 0<D.secs.length by omega]
 rw[e]
 have r:=h.yv9 (D':={D with fault:=vk D.fault,fuse:= -1,dead:=true}) Z Z b g
 exact⟨Z,⟨_,_,_,r⟩,l.trans g λx _ e=>e▸h.own.1⟩
 have s:¬(D.fuse=0):=λe=>q ⟨Z,e⟩
 have E:D.begin 0 true=({D with fault:=vk D.fault,fuse:=A4 true D.fuse,done:=D.done+1},0):=by simp[kg.begin,c,p,s,show 0<D.secs.length by omega]
 have e:D.sync=(({D with fault:=vk D.fault,fuse:=A4 true D.fuse,done:=D.done+1}:kg).settle λ_=>true,0):=by
  simp only[kg.sync,E,cH]
 rw[e]
 have r:=h.yv9 (D':={D with fault:=vk D.fault,fuse:=A4 true D.fuse,done:=D.done+1}) Z Z (by rw[c];exact b) g
 have j:=hok.begin 0 true
 rw[E] at j
 have C:Ext F w w':=l.trans g λx _ e=>e▸h.own.1
 have f:=f.g9 g λe=>z (e▸h.own.1)
 exact gt func189 (gr (j3 f Z Z (g7 call126 Z (dk_settle w' ⟨_,_,_,r⟩ j zo (λ_=>true) (caps:= #[]) call190 λy i _ _=>dk_yes y i) λP J t=> ga (yq Z ⟨Z,t.1,C.trans t.2 λx _=>id⟩))))
theorem dk_keep (w:World) {b3 n c:Nat} {kp:Option Addr} {keep:List Bool} (hb3:gu w b3 74 [.slice kp n c]) (hn:keep.length=n) (hk:Sl w kp n 1 (keep.map Value.bool)) (i:Nat):
  ge prog 127 ([.int .i64 (i:Int)]++(#[.pointer (some ⟨b3,0,none⟩)]:Array Value).toList) w λv w'=>v= .bool (yv8 keep i)/\Ext No w w':=by
 refine gt func127 (jn Z (jb (α:=Bool) [] Z (λz=>[(3,.bool z)]) (λz u=>u=w/\z=yv8 keep i) ?_ ?_));refine gr (gv g5 Z (j3 hb3 Z Z (gv g5 Z (j7 8 Z (λf=>?_) (λf=>?_)))));refine j3 hb3 Z Z ?_;obtain⟨g,a,rfl,d⟩:=hk.2.resolve_left zo;have e:i<keep.length:=by omega
 have b:w.cell? ⟨g,a+i,none⟩=some (.bool keep[i]):=d i _ (by simp[e]);exact xq9 g5 Z (jo Z 1 Z i Z zo (a+i) zo (gj Z b (xq9 g5 Z (ga (gk _ Z ⟨Z,by simp[yv8,e]⟩)))));refine xq9 g5 Z (ga ?_);have e:keep.length<=i:=by omega
 exact gk _ Z ⟨Z,by simp[yv8,e]⟩;rintro z w ⟨rfl,rfl⟩;exact j6 (gp Z Z ⟨Z,Ext.refl _ _⟩)
theorem dk_crash (w:World) {d m:Nat} {F:Nat->Prop} {D:kg} (h:At w d F D) (hok:D.Ok m) (hm:m<1000000000) {n c:Nat} {kp:Option Addr} {keep:List Bool} (hn:keep.length=n) (hk:Sl w kp n 1 (keep.map Value.bool)) (hkF:∀b off,kp=some ⟨b,off,none⟩->¬F b):
  ge prog 46 [.pointer (some ⟨d,0,none⟩),.slice kp n c] w λv w'=>v= .int .i64 0/\At w' d F (D.zx9 keep)/\Ext F w w':=by
 refine gt func46 (have g:=Ext.refl F w;ki (gn Z λk A B l f=>?_));have g:=g.g4 f;have o:¬F k:=λe=>by have:=h.lt k e;omega
 have p:=h.own;have h:=h.g0 f;have hk:=hk.g0 f;refine k9 Z (gh (jn Z (qz Z (jw (jh (jy Z (g7 call126 Z (dk_settle A h hok hm (yv8 keep) (caps:= #[.pointer (some ⟨k,0,none⟩)]) call127 λy i _ j=>dk_keep y (c:=c) (l.ext j o) hn (hk.ext j hkF) i) λL y⟨⟨C,E,G,z⟩,r⟩=>?_)))))));have g:=g.trans r λx _=>id;have a:=z.head;exact qi (jy Z (ka a Z Z Z λM a s H=> gv g5 Z (ka a Z Z Z λN a t J=> gv g5 Z (ka a Z Z Z λO a u K=> have j:=s.then (t.then u);qi (jn Z (j6 (gp Z Z ⟨Z,⟨C,E,G,z.yv9 (D':=D.zx9 keep) Z Z a j⟩,g.trans j λx _ e=>e▸p⟩)))))))
theorem dk_dead (w:World) {d:Nat} {F:Nat->Prop} {D:kg} (h:At w d F D):
  ge prog 76 [.pointer (some ⟨d,0,none⟩)] w λv w'=>v= .bool D.dead/\w'=w:=by
 let⟨b,c,e,h⟩:=h;refine gt func76 (jn Z (jy Z (g7 call148 Z (alive_live w h.head) ?_)));rintro f g⟨rfl,rfl⟩;refine vl Z (gp Z Z ?_);refine⟨?_,Z⟩;cases D.dead<;>rfl
theorem dk_ops (w:World) {d:Nat} {F:Nat->Prop} {D:kg} (h:At w d F D):
  ge prog 75 [.pointer (some ⟨d,0,none⟩)] w λv w'=>v= .int .i64 D.done/\w'=w:=by
 let⟨a,b,c,h⟩:=h;exact gt func75 (uz Z (jn Z (qz Z (vo (jy Z (j3 h.head Z Z (vl Z (gp Z Z ⟨Z,Z⟩))))))))
theorem dk_len (w:World) {d:Nat} {F:Nat->Prop} {D:kg} (h:At w d F D):
  ge prog 77 [.pointer (some ⟨d,0,none⟩)] w λv w'=>v= .int .i64 (D.secs.length:Int)/\w'=w:=by
 let⟨a,b,c,h⟩:=h;exact gt func77 (uz Z (jn Z (qz Z (vo (jy Z (j3 h.head Z Z (vl Z (gp Z Z ⟨Z,Z⟩))))))))
theorem xn.order_src {w:World} {d sb oc:Nat} {F:Nat->Prop} {op:Option Addr} {D:kg} (h:xn w d sb op oc F D) {w':World} (hE:Ext No w w'):Src prog w' 1 (.slice op D.order.length oc) D.order.length (Cn D.order):=
 Src.slice (h.order.sl.g0 hE) λv a=>by
  obtain⟨x,_,rfl⟩:=bL.1 a
  rfl
theorem yv1 (w:World) {d m:Nat} {F:Nat->Prop} {D:kg} (h:At w d F D) (hok:D.Ok m) (hm:m<1000000000):
  ge prog 74 [.pointer (some ⟨d,0,none⟩)] w λv w'=>∃b,v= .slice (some ⟨b,0,none⟩) D.order.length D.order.length/\w.heap.size<=b/\gu w' b 3 (Cn D.order)/\Ext No w w':=by
 let⟨q,r,s,h⟩:=h;have k:=hok.few;refine gt func74 ?_;have e:=Ext.refl No w;refine uz Z (jn Z (qz Z (jw (jh (jy Z (j3 h.head Z Z (gv g5 Z (wl (zq8 g5 Z D.order.length D.order.length 8 Z (zs:=[.int .i64 0]) Z Z zd Z Z (aA _) zo zq λf t a g i n=>?_)))))))));have l:=h.g0 i;have e:=e.g4 i;refine k9 Z (jy Z (j3 l.head Z Z (wl (zw0 g5 Z 1 Z g (l.order_src (Ext.refl _ _)) (aA _) (by rw[ur];simp) λo c j p=>?_))));have e:=e.g8 j a;refine qi (jn Z (j6 (gp Z Z ?_)));refine⟨f,Z,a,?_,e⟩;have c:gu o f 3 (put (Cl D.order.length [.int .i64 0]) 0 (Cn D.order)):=c;rwa [Ba (by rw[ur];simp[Cn])] at c
theorem fresh_rows (w:World) (F:Nat->Prop) (n:Nat):A1 w F (kg.fresh n).secs (List.replicate n (qw zeros none 0 0)):=by
 refine⟨by simp[kg.fresh],λi s r c d=>?_⟩;simp only[kg.fresh] at c;have e:=List.mem_of_getElem? c;have f:=List.mem_of_getElem? d;rw[List.eq_of_mem_replicate e,List.eq_of_mem_replicate f];refine⟨none,0,Z,aA _,zeros_length,λb a=>(by cases a),⟨Z,.inl Z⟩,λb g a=>(by cases a)⟩
theorem dk_new (w:World) (n:Int):ge prog 22 [.int .i64 n] w λv w'=>
  if 1<=n/\n<=2048 then∃d,v= .tuple #[.pointer (some ⟨d,0,none⟩),.int .i64 0]/\w.heap.size<=d/\At w' d (Grow No w w') (kg.fresh n.toNat)/\Ext No w w'
  else v= .tuple #[.pointer none,.int .i64 2]/\Ext No w w':=by
 refine gt func22 (have f:=Ext.refl No w;uz Z (jb (α:=Bool) [0] Z (λz=>[(9,.bool z)]) (λz u=>u=w/\z=decide (¬(1<=n/\n<=2048))) ?_ ?_));refine gr (gv g5 Z (j7 6 Z (λr=>?_) (λr=>?_)));refine xq9 g5 Z (ga (gk _ Z ⟨Z,?_⟩));simp;omega;refine xq9 g5 Z (ga (gk _ Z ⟨Z,?_⟩));simp only[aH];omega;rintro z w ⟨rfl,rfl⟩;refine jc Z (λl=>?_) (λl=>?_);refine gh (gr (vl Z (j2 (f_ret2 Z Z Z ?_))));rw[aJ l];exact⟨Z,f⟩
 have s:=aN.1 l;refine jw (jh (jy Z (wl (zq8 g5 Z n.toNat n.toNat 88 Z (zs:=qw zeros none 0 0) (by simp[ti218,qw,zeros,g6]) Z zd zo zo (aA _) zo zq λm y g i o t=> have f:=f.g4 o;jv Z (by simp[Cz,ti153]) Z (gn Z λp A j b k=> have c:=Nat.le_trans f.size j;have a:=i.g0 k;have f:=f.g4 k;vl Z (f_ret2 Z Z Z ?_))))));rw[aM s];have e:(kg.fresh n.toNat).secs.length=n.toNat:=by simp[kg.fresh]
 refine⟨p,Z,c,⟨m,none,0,?_,⟨_,a,fresh_rows _ _ _⟩,.inl ⟨Z,Z,Z,Z⟩,⟨.inr ⟨c,b.lt⟩,.inr ⟨g,a.lt⟩,λx q=>(by cases q)⟩,λx q=>q.elim False.elim λh=>h.2⟩,f⟩;rw[e];exact b
theorem flat_sec (s:Bytes) (p:Option Addr) (n c:Nat):∀u∈qw s p n c,u.oneCell'=true:=λu a=>by
 simp only[qw,aV,aE] at a
 rcases a with a|rfl
 ·exact Aq u a
 rfl
theorem dk_copy (w:World) {d m:Nat} {F:Nat->Prop} {D:kg} (h:At w d F D) (hok:D.Ok m) (hm:m<1000000000):
  ge prog 41 [.pointer (some ⟨d,0,none⟩)] w λv w'=>∃c,v= .pointer (some ⟨c,0,none⟩)/\w.heap.size<=c/\At w' c (Grow No w w') D/\Ext No w w':=by
 let⟨sb,op,oc,h⟩:=h;have ck:=hok.few;have b4:=hok.size;refine gt func41 ?_;have g:=Ext.refl No w;refine uz Z (jn Z (qz Z (jw (jh (jy Z (j8 h.head Z Z (gn Z λb3 w1 b6 a b7=>?_)))))));have af:=Nat.le_trans g.size b6;have g:=g.g4 b7;refine wl (gz g5 a Z Z Z Z (by simp;exact⟨Z,Z,Z,Z,Z,Z⟩) λw2 a b8 cr=>?_);have g:=g.g8 b8 af;have h2:=h.g0 g;refine qi (jy Z (g7 call74 Z (yv1 w2 ⟨_,_,_,h2⟩ hok hm) ?_));rintro v3 w3⟨bo,rfl,bm,f,bn⟩;have ag:=gw a.lt bm;have ca:=Nat.le_trans g.size bm;have a:=a.g0 bn;have g:=g.g4 bn;refine gv g5 Z (ka a Z Z Z λw4 a bp cs=>?_);have f:=f.g9 bp ag.symm;have g:=g.g8 bp af;have h4:=h.g0 g;refine qi (jy Z (j3 h4.head Z Z (gv g5 Z (wl (zq8 g5 Z D.secs.length D.secs.length 88 Z (zs:=qw zeros none 0 0) (by simp[ti218,qw,zeros,g6]) Z zd Z Z (aA _) zo zq λy w5 ah ai a3 ct=>?_)))));have C:=gw a.lt ah;have W:=gw f.lt ah;have aj:=Nat.le_trans g.size ah;have a:=a.g0 a3;have f:=f.g0 a3;have g:=g.g4 a3;refine gv g5 Z (ka a Z Z Z λw6 a a4 cu=>?_);have ai:=ai.g9 a4 C.symm;have f:=f.g9 a4 ag.symm;have g:=g.g8 a4 af;have a:gu w6 b3 153 (dskL y D.secs.length (some ⟨bo,0,none⟩) D.order.length D.order.length D.dead D.fuse D.fault D.done):=a;have h6:=h.g0 g;let⟨L,cb,a5⟩:=h.secs;have hu:=a5.uni;refine qi (gh (jy Z (j3 h6.head Z Z (k9 Z (j0 ?_)))))
 refine c_loop (α:=Nat×List Sec) (λz u=>z.1<=D.secs.length/\z.2.length=D.secs.length/\(∀j,j<z.1->z.2[j]? =D.secs[j]?)/\Ext No w u/\
   gu u b3 153 (dskL y D.secs.length (some ⟨bo,0,none⟩) D.order.length D.order.length D.dead D.fuse D.fault D.done)/\gu u bo 3 (Cn D.order)/\∃M,gu u y 218 (List.flatten M)/\A1 u (Grow No w u) z.2 M)
  (λz=>[(26,.int .i64 (z.1:Int)),(3,.pointer (some ⟨b3,0,none⟩)),(24,.slice (some ⟨sb,0,none⟩) D.secs.length D.secs.length),(25,.int .i64 (D.secs.length:Int))]) (λz u=>D.secs.length-z.1) (0,(kg.fresh D.secs.length).secs) Z ?_ ?_
 exact⟨aF _,by simp[kg.fresh],λj hj=>absurd hj zp,g,a,f,_,ai,fresh_rows _ _ _⟩
 rintro⟨i,P⟩ u ⟨hi,ax,Q,ak,a,f,M,E,R⟩;dsimp only at hi ax Q R|-;refine gh (gr (k9 Z (gh (jc Z (λhc=>?_) (λhc=>?_)))));have a6:i<D.secs.length:=by omega
 have hs:D.secs[i]? =some D.secs[i]:=by simp[a6]
 generalize hss:D.secs[i]=s at hs;have cv:i<L.length:=by rw[a5.1];exact a6
 have hr:L[i]? =some L[i]:=by simp
 generalize hrd:L[i]=r at hr;let⟨p,c,ay,cm,q,bq,cc,cd⟩:=(a5.2 i s r hs hr).ext ak λ_ _ _=>id;have ce:=waits_few hok hs;have S:r.length=65:=by rw[ay];simp[qw,g6,q]
 have a7:Seg u sb (0+i*65) r:=by have:=((cb.g0 ak).kc.drop (i*65)).take 65;rwa [rows_row hu hr] at this
 refine jw (jh (gh (j0 (jy Z (jo Z 65 Z i Z a6 (0+i*65) Z (je Z a7 S (gn Z λb5 w7 am ab an=>?_)))))));have a8:=gw a.lt am;have a9:=gw f.lt am;have X:=gw E.lt am;have cf:=Nat.le_trans ak.size am;have a:=a.g0 an;have f:=f.g0 an;have br:=E;have E:=E.g0 an;have g:=ak.g4 an;have k:Ext No u w7:=an;subst ay;refine gv g5 Z (wl (gz g5 ab Z Z (by rw[j4];exact S) (by rw[j4,S];rfl) (by rw[j4];exact flat_sec _ _ _ _) λw8 ab ap cw=>?_));have ab:gu w8 b5 218 (qw s.safe p s.waits.length c):=ab;have a:=a.g9 ap a8;have f:=f.g9 ap a9;have E:=E.g9 ap X;have k:=k.g8 ap am;have g:=g.g8 ap cf;have cg:M.length=D.secs.length:=R.1.trans ax;have ch:i<M.length:=by omega
 have T:M[i]? =some M[i]:=by simp
 generalize hxd:M[i]=x at T;have ba:P[i]? =some (P[i]'zo):=by simp[show i<P.length by omega]
 generalize hcd:P[i]'zo=s0 at ba;let⟨p0,c0,bb,_,az,_,_,_⟩:=R.2 i s0 x ba T;have bc:=R.uni;have bd:=yg bc;have G:w8.cell? ⟨b5,64,none⟩=some (.slice p s.waits.length c):=ab.cell (by simp[qw,g6,q]);have bf:Seg w8 b5 0 (g6 s.safe):=by have:=ab.kc.take 64;simpa [qw,g6,q] using this
 refine qi (jy Z (j3 a Z Z (gv g5 Z (je Z bf (by simp[g6,q]) (jo Z 65 Z i Z zo (0+i*65) Z (gv g5 Z (wl (Bw g5 E Z (by rw[j4];simp[g6,q]) (by rw[bd];show 0+i*65+64<=_;omega) (by rw[j4];exact Aq) λw9 ac aq cx=>?_))))))));have ac:gu w9 y 218 (Vc.put M.flatten (i*65+0) (g6 s.safe)):=by simpa using ac
 rw[yz0 bc T _ (by simp[g6,q])] at ac;have bg:Vc.put x 0 (g6 s.safe)=qw s.safe p0 s0.waits.length c0:=by rw[bb,put_eq _ _ _ (by simp[qw,g6,q,az])];simp[qw,g6,q,az]
 rw[bg] at ac;have a:=a.g9 aq C;have f:=f.g9 aq W;have G:=Ci G aq (Ne.symm X);have g:=g.g8 aq aj;have k:Ext (Vc.One y) u w9:=k.no.then aq;refine qi (jl Z 7 [qP 0,qP 1,qP 2,qP 4,qP 5,(3,false),(6,false)] [7,8,9] No zk λcy A cn=> have k:=k.g4 A;have g:=g.g4 A;wd_p g5 Z (gy g5 Z Z (λw' bh=>(a.g0 bh).cell Z) (wd_p g5 Z (gy g5 Z Z (λw' bh=>Ci G bh id) (jg Z (kz g5 Z 64 Z z29 (qg zeros_length) zd zd trivial (l':=[]) Z λad bi K a0 Y cp=>⟨A.g4 Y,?_⟩))))));have bs:=Nat.le_trans g.size K;have bj:=Nat.le_trans k.size K;have k:=k.g4 Y;have g:=g.g4 Y;have U:=A.g4 Y;have bt:Own bi (some ⟨ad,0,none⟩) 0 0 165 64 []:= .inr ⟨ad,[],Z,a0,Z,aA _,by unfold maxLen;omega,Z⟩;have bu:∀x,TyB u x 165->x≠y:=λx T=>T.ne br zd;have bk:=cc.ext k λb t V=>bu b (cd b t V).2;have bv:Src prog bi 64 (.slice p s.waits.length c) s.waits.length (bl s.waits).flatten:=Src.slice bk λv hv=>by simp only[bl,g6,List.mem_flatten,bL] at hv;obtain⟨l,⟨b,_,rfl⟩,hv⟩:=hv;exact Aq v hv
 refine jg Z (ul g5 Z 64 64 Z Z (by rw[z29];exact qg zeros_length) zd bt bv zm zn λN ae av B a1 bw=>⟨U.trans a1 λx T e=>?_,?_⟩);simp at e;have B:Own av N (0+s.waits.length) ae 165 64 (bl s.waits).flatten:=B;rw[aX] at B;have H:Ext (Vc.One ad) bi av:=a1.mono λx _ e=>by simp at e;exact e.symm
 have k:=k.g8 H bj;have g:=g.g8 H bs;have a2:=(ac.g0 U).g9 H (gw ac.lt (Nat.le_trans A.size K));have bx:Uni 65 (M.set i (qw s.safe p0 s0.waits.length c0)):=bc.set i (by simp[qw,g6,q]);have ci:(M.set i (qw s.safe p0 s0.waits.length c0))[i]? =some (qw s.safe p0 s0.waits.length c0):=by simp[ch]
 have ar:=yg bx;rw[List.length_set] at ar;refine jd (wb Z (st_ix g5 Z 65 Z i Z zo (0+i*65) Z (wb Z (st_p g5 Z Z Z (wb Z (uh g5 a2 Z Z (by rw[ar];show 0+i*65+64<_;omega) λw13 o O cq=>?_))))));have o:gu w13 y 218 ((M.set i (qw s.safe p0 s0.waits.length c0)).flatten.set (0+i*65+64) (.slice N (0+s.waits.length) ae)):=o;rw[aX,aX] at o;have o:gu w13 y 218 (Vc.put (M.set i (qw s.safe p0 s0.waits.length c0)).flatten (i*65+64) [.slice N s.waits.length ae]):=o;rw[yz0 bx ci _ zp,List.set_set] at o;have k:=k.then O;have g:=g.g8 O aj;have aw:Vc.put (qw s.safe p0 s0.waits.length c0) 64 [.slice N s.waits.length ae]=qw s.safe N s.waits.length ae:=by rw[put_eq _ _ _ (by simp[qw,g6,q])];simp[qw,g6,q]
 rw[aw] at o;have au:Ext (λx=>x=ad\/x=y) w9 w13:=((U.no.then (H.mono λ_ _ e=> .inl e))).then (O.mono λ_ _ e=> .inr e);have bz:=a.ext au λe=>e.elim (λe=>gw a.lt (Nat.le_trans A.size K) e) C;have b0:=f.ext au λe=>e.elim (λe=>gw f.lt (Nat.le_trans A.size K) e) W;refine j1 (yt Z ?_);rw[jt _ zo];refine ga (j9 (i+1,P.modify i λ_=>s) Z ⟨by simp only;omega,by simp only[List.length_modify];omega,?_,g,bz,b0,_,o,?_⟩ (by simp only;omega));intro j hj;simp only at hj|-;rw[List.getElem?_modify];by_cases hij:i=j;subst hij;rw[ba,hs];simp;rw[Q j zo];simp[hij];have b1:A1 w13 (Grow No w w13) P M:=(R.ext k λx _ T=>bu x T).mono λx T=>T.wide (aA _) k.size;refine b1.modify λ_ _=>?_
 have I:∀b t,N=some ⟨b,t,none⟩->w.heap.size<=b/\TyB av b 165/\t=0:=by
  intro b t V;have J:j5 N b/\t=0:=by rcases B with⟨hp,_⟩|⟨b',l,hp,_⟩;rw[hp] at V;cases V;rw[hp] at V;simp at V;let⟨rfl,rfl⟩:=V;exact⟨hp,Z⟩
  refine⟨?_,Own.ty B J.1,J.2⟩;rcases bw b J.1 with h'|h';have h':some (⟨ad,0,none⟩:Addr)=some ⟨b,0,none⟩:=h';have h':ad=b:=by simp at h';exact h'
  omega;have:=a0.lt;omega
 have aa:∀b,TyB av b 165->b≠y:=λb V=>V.ne a2 zd;refine⟨N,ae,Z,B.cap,q,bq,?_,λb t V=>?_⟩;exact B.sl.ext O λb t V=>aa b (I b t V).2.1;have cj:=(I b t V).2.1.ext O (aa b (I b t V).2.1);let⟨l,hl⟩:=cj;exact⟨.inr ⟨(I b t V).1,hl.lt⟩,l,hl⟩
 refine vw (ke (ke (qu (jh (jn Z (j6 (gp Z Z ?_)))))));have b2:P=D.secs:=by apply List.ext_getElem?;intro j;by_cases hj:j<i;exact Q j hj;rw[bV zo,bV zo]
 rw[b2] at R;refine⟨b3,Z,af,⟨y,some ⟨bo,0,none⟩,D.order.length,a,⟨M,E,R⟩,?_,⟨.inr ⟨af,a.lt⟩,.inr ⟨aj,E.lt⟩,λx T=>?_⟩,λx T=>T.elim False.elim λh=>h.2⟩,ak⟩;have:=Own.blk f 1 (n:=D.order.length) (c:=D.order.length) (by simp[Cn]) (aA _) zq;rwa [aL (by simp[Cn])] at this;simp at T;subst T;exact .inr ⟨ca,f.lt⟩
abbrev Rt (w : World) : Prop := Seg w 0 0 (ju qr)
theorem Rt.ext {S : Nat -> Prop} {w w' : World} (h : Rt w) (hE : Ext S w w') (hS : ¬ S 0) : Rt w' := Seg.ext h hE hS
theorem Rt.lt {w : World} (h : Rt w) : 0 < w.heap.size := Seg.lt h zd
theorem zeros_b : g6 zeros = cellsOf ti165.zero := z29.symm
theorem xi (w:World) (n:Int):
  ge prog 65 [.int .i64 n] w λv w'=>v= .int .i64 (sectZ n)/\Ext No w w':=by
 refine gt func65 (have e:=Ext.refl No w;uz Z (jb (α:=Bool) [0] Z (λz=>[(8,.bool z)]) (λz u=>u=w/\z=decide (n<0\/40000<n)) ?_ ?_));refine gr (gv g5 Z (j7 5 Z (λa=>?_) (λa=>?_)));exact gm g5 3 Z (ga (gk (true) Z ⟨Z,by simp[a]⟩));exact gm g5 3 Z (ga (gk (_) Z ⟨Z,by simp[a]⟩));rintro z g ⟨b,rfl⟩;have b:=b.symm;subst b;refine jc Z (λc=>?_) (λc=>?_);have d:sectZ n=0:=aM c;rw[d];exact jn Z (j6 (j2 (gp Z Z ⟨Z,e⟩)));have d:sectZ n=((n.toNat+3)/48+1:Nat):=aJ c;rw[d];have f:IntKind.i64.wrap (IntKind.i64.wrap ((IntKind.i64.wrap (n+3)).tdiv 48)+1)=(((n.toNat+3)/48+1:Nat):Int):=by rw[jt (n+3) zo,IntWalk.i64_quo _ _ zo,jt _ zo];omega
 refine vo (jy Z ?_);rw[f];exact vl Z (gp Z Z ⟨Z,e⟩)
theorem slb4 (b : Nat) : ub (some ⟨b, 0, none⟩) 4 64 1 = some ⟨b, 4, none⟩ := rfl
theorem seal_put (l:Bytes) (hl:l.length<=60):Vc.put (g6 (List.replicate 64 0)) 4 (g6 l)=g6 (List.replicate 4 0++(l++List.replicate (60-l.length) 0)):=by
 rw[put_eq _ _ _ (by simp[gb];omega),gb,up,uo];have a:(List.replicate 64 (0:UInt8)).take 4=List.replicate 4 0:=rfl;have b:(List.replicate 64 (0:UInt8)).drop (4+l.length)=List.replicate (60-l.length) 0:=by rw[List.drop_replicate];congr 1;omega
 rw[a,b,qd,qd,aU]
theorem sum_put (R:Bytes) (d:Bytes) (hd:d.length=4):Vc.put (g6 (List.replicate 4 0++R)) 0 (g6 d)=g6 (d++R):=by
 rw[put_eq _ _ _ (by simp[gb];omega),gb,up,uo,hd];simp[qd,g6]
theorem sealed_calls (w:World) {p:Option Addr} {c:Nat} {l:Bytes} (h:ux w p l) (hl:l.length<=60) (hr:Rt w):
  ge prog 180 [.slice p l.length c] w λv w'=>v=numB (sealB l)/\Ext No w w':=by
 let⟨R,y⟩:∃R,R=l++List.replicate (60-l.length) 0:=⟨_,Z⟩
 have k:R.length=60:=by rw[y];simp;omega
 have K:sealB l=(sumW R).take 4++R:=by rw[y];rfl
 have G:=hr.lt;refine gt func180 (have b:=Ext.refl No w;ki (gn Z λd L z a m=>?_));have i:=Nat.le_trans b.size z;have b:=b.g4 m;have a:gu L d 165 (g6 (List.replicate 64 0)):=by(rw[show g6 (List.replicate 64 0)=cellsOf ti165.zero from zeros_b];exact a)
 refine qi (ki (wl (st_sa g5 Z 4 64 64 1 Z ⟨.inr ⟨Z,Z⟩,.inr ⟨Z,Z⟩,.inl Z,by decide,by decide,by decide⟩ ?_)));rw[slb4];refine gv g5 Z (wl (zw0 g5 Z 1 Z a (Src.slice (h.g0 b) OneC.h) zn (by rw[gb];simp;omega) λx A n M=>?_));have b:=b.g8 n i;have a:gu x d 165 (g6 (List.replicate 4 0++R)):=by rw[y,<-seal_put l hl];exact A
 have hr:Rt x:=(hr.ext m id).ext n λe=>by have e:0=d:=e;omega
 refine qi (ki (wl (st_sa g5 Z 4 64 64 1 Z ⟨.inr ⟨Z,Z⟩,.inr ⟨Z,Z⟩,.inl Z,by decide,by decide,by decide⟩ ?_)));rw[slb4];have B:ux x (some ⟨d,4,none⟩) R:=⟨by rw[gb,aY],.inr ⟨d,4,Z,by have e:=a.kc.drop 4;rw[uo] at e;simpa using e⟩⟩
 rw[show Value.slice (some ⟨d,4,none⟩) (64-4) (64-4)= .slice (some ⟨d,4,none⟩) R.length 60 from by rw[k]];refine g7 call181 Z (sum_calls x B zo hr) ?_;rintro V W⟨rfl,o⟩;have a:=a.g0 o;have b:=b.g4 o;refine gn Z λH X q f r=>?_;have j:=gw a.lt q;have D:=Nat.le_trans b.size q;have a:=a.g0 r;have b:=b.g4 r;refine wl (gz (l':=g6 (sumW R)) g5 f Z Z (by rw[gb,Cd]) (by rw[gb,Cd];rfl) OneC.h λY f s N=>?_);have a:=a.g9 s j;have b:=b.g8 s D;refine qi (gh (jl Z 3 [qP 0,qP 1,(2,false)] [] (One d) zk λJ g O=>?_));have a:=a.g0 g;have f:=f.g0 g;have b:=b.g4 g;have P:Ext (One d) _ J:=g.no;refine xw3 g5 Z Z 0 4 64 1 Z ⟨.inr ⟨Z,Z⟩,.inl Z,.inr ⟨Z,Z⟩,by decide,by decide,by decide⟩ ?_;rw[qa,bH];refine xw3 g5 Z Z 0 32 32 1 Z ⟨.inr ⟨Z,Z⟩,.inr ⟨Z,Z⟩,.inr ⟨Z,Z⟩,by decide,by decide,by decide⟩ ?_;rw[qa,bH];have E:Sl J (some ⟨H,0,none⟩) 4 1 (g6 ((sumW R).take 4)):=⟨by rw[gb,aK,Cd];rfl,.inr ⟨H,0,Z,by have e:=f.kc.take 4;rwa [up] at e⟩⟩
 have Q:((sumW R).take 4).length=4:=by rw[aK,Cd];rfl
 refine jg Z (st_cpK g5 Z 1 Z a Z (by show 4<=32;decide) E OneC.h (by simp[gb,k]) λS t u T=>⟨P.then (u.mono λ_ _ e=>e),?_⟩);have b:=b.g8 u i;have a:gu S d 165 (g6 (sealB l)):=by rw[K,<-sum_put R _ Q];exact t
 exact jd (j1 (jh (ki (j8 a Z (by rw[gb,yz7 hl]) (wl (gz (l':=g6 (sealB l)) g5 a Z Z (by rw[gb,yz7 hl]) (by rw[gb]) OneC.h λC a F U=> have b:=b.g8 F i;qi (j6 (ko [_] ⟨⟨d,0,Z,kj g5 Z Z a.kc (by rw[gb,yz7 hl];rfl)⟩,trivial⟩ ⟨Z,b⟩))))))))
theorem and1 (t:Nat) (ht:t<4294967296):bitI .and .u32 (t:Int) 1=((t%2:Nat):Int):=by
 have a:(BitVec.ofInt IntKind.u32.bits (t:Int)&&&BitVec.ofInt IntKind.u32.bits 1).toNat=t%2:=by
  rw[BitVec.toNat_and];have b:(BitVec.ofInt IntKind.u32.bits (t:Int)).toNat=t:=by show(BitVec.ofInt 32 (t:Int)).toNat=t;rw[BitVec.toNat_ofInt];omega
  grind
 show IntKind.u32.wrap _=_;rw[a,dL];omega
theorem yw4 (w:World) (x:Value) (n t:Nat) (hn:n<5000000000) (ht:t<4294967296) (hx:x.oneCell'=true):
  ge prog 120 [.agg #[x,.int .i64 (n:Int)],.int .u32 (t:Int)] w λv w'=>v= .int .i64 (uk t n:Int)/\Ext No w w':=by
 refine gt func120 (have b:=Ext.refl No w;ki (gn Z λf g h a c=> have b:=b.g4 c;have a:gu g f 155 ([x,.int .i64 (n:Int)]):=a;k9 Z (gh (jn Z (jc Z (λd=>?_) (λd=>?_))))));have e:uk t n=2+n:=aM (by rw[and1 t ht] at d;omega);rw[e];refine jy Z (j3 a Z Z (gv g5 Z ?_));rw[jt _ zo];exact qi (j6 (j2 (gp Z Z ⟨by congr 1,b⟩)));have e:uk t n=2:=aJ (by rw[and1 t ht] at d;omega);rw[e];exact vo (jn Z (j6 (gp Z Z ⟨Z,b⟩)))
theorem _root_.Go.Vc.gu.slB {w:World} {b T:Nat} {l:Bytes} (h:gu w b T (g6 l)):ux w (some ⟨b,0,none⟩) l:=⟨by rw[gb,aY],.inr ⟨b,0,Z,h.kc⟩⟩
theorem wrap32 (n : Nat) (h : n < 4294967296) : IntKind.u32.wrap (n : Int) = (n : Int) := by rw [dL]; omega
theorem fits_calls (w:World) {d:Nat} {F:Nat->Prop} {D:kg} (h:At w d F D) (n:Int) (hn: -9223372036854775808<=n/\n<9223372036854775808):
  ge prog 70 [.agg #[.pointer (some ⟨d,0,none⟩),.int .i64 n]] w λv w'=>v= .bool (decide (0<=n/\C0 n.toNat D.secs.length))/\Ext No w w':=by
 refine gt func70 (have c:=Ext.refl No w;ki (gn Z λl o p a k=> have c:=c.g4 k;have a:gu o l 155 ([.pointer (some ⟨d,0,none⟩),.int .i64 n]):=a;k9 Z (jb (α:=Bool) [] Z (λz=>[(2,.bool z)]) (λz u=>(z=decide (0<=n/\C0 n.toNat D.secs.length))/\gu u l 155 ([.pointer (some ⟨d,0,none⟩),.int .i64 n])/\Ext No w u) ?_ ?_)));refine jl Z 19 [qP 0,qP 1,qP 2,qP 3,qP 4,qP 5,qP 6,qP 7,qP 8,qP 9,qP 10,qP 12,qP 13,qP 14,qP 15,(11,false),qP 16,qP 17,qP 18] [] (No) zk λm g q=> have e:=a;have a:=a.g0 g;have c:=c.g4 g;have r:Ext (No) _ m:=g.no;gl g5 1 Z (gy g5 Z Z (λw' b=>(e.g0 b).cell Z) (gl g5 2 Z (ve 6 Z (λj=>?_) (λj=>?_))));refine gl g5 1 Z (gy g5 Z Z (λw' b=>(e.g0 b).cell Z) (gl g5 3 Z (ve 11 Z (λj=>?_) (λj=>?_))));have s:=j;refine gl g5 1 Z (gy g5 Z Z (λw' b=>(e.g0 b).cell Z) (gl g5 1 Z (gy g5 Z Z (λw' b=>(e.g0 b).cell Z) (gl g5 2 Z ?_))));rw[jt (2*n) zo,jt _ zo];refine jg Z (gx call77 Z ((dk_len m (h.g0 c)).same) λt x i=>⟨(by let⟨rfl,f⟩:=i;exact r.g4 f),?_⟩);obtain⟨rfl,f⟩:=i;have a:=a.g0 f;have c:=c.g4 f;exact gl g5 3 Z (jd (j1 (gk (_) Z ⟨by rw[aH];unfold C0;omega,a,c⟩)));exact gl g5 10 Z (jd (j1 (gk (false) Z ⟨by symm;rw[ao];unfold C0;omega,a,c⟩)));exact gl g5 15 Z (jd (j1 (gk (false) Z ⟨by symm;rw[ao];unfold C0;omega,a,c⟩)));rintro z y ⟨rfl,a,c⟩;exact j6 (gp Z Z ⟨Z,c⟩)
theorem head_calls (w:World) (x:Value) (n t:Nat) (hn:n<4294967296) (ht:t<4294967296) (hx:x.oneCell'=true) (hr:Rt w):
  ge prog 147 [.agg #[x,.int .i64 (n:Int)],.int .u32 (t:Int)] w λv w'=>v=numB (xq1 t n)/\Ext No w w':=by
 refine gt func147 (have b:=Ext.refl No w;ki (gn Z λU V W c F=> have b:=b.g4 F;have c:gu V U 155 ([x,.int .i64 (n:Int)]):=c;gn Z λX w2 r a s=> have G:=gw c.lt r;have H:=Nat.le_trans b.size r;have c:=c.g0 s;have b:=b.g4 s;qi (gh (jl Z 9 [qP 2,qP 4,qP 5,qP 6,(0,false),(1,false),(3,false),(7,false),(8,false)] [9] (No) zk λY i I=> have J:=c;have c:=c.g0 i;have a:=a.g0 i;have b:=b.g4 i;have d:Ext (No) _ Y:=i.no;gl g5 2 Z (gy g5 Z Z (λw' K=>(J.g0 K).cell Z) (gl g5 1 Z ?_))))));rw[wrap32 n hn];have u:=d;refine jg Z (kz g5 Z 1 Z Z Z zd zd zt (l':=g6 zj6) Z λE w4 p L j aa=>⟨d.g4 j,have M:=gw c.lt p;have q:=gw a.lt p;have N:=Nat.le_trans b.size p;have a:=a.g0 j;have b:=b.g4 j;have d:=d.g4 j;jg Z (st_cv g5 Z L λT k y ab=>⟨d.trans k λx hx e=>by have e:x=E:=e;have:=u.size;omega,?_⟩)⟩);have d:=d.trans k (S:=No) λx hx e=>by have e:x=E:=e;have:=u.size;omega
 have b:=b.g8 k N;have a:=a.g9 k q;have O:ux T (some ⟨E,0,none⟩) zj6:=⟨Z,.inr ⟨E,0,Z,y⟩⟩
 refine jg Z (gx call179 Z (A7 T (l:=zj6) O zd t ht) λv6 w6 z=>⟨(by obtain⟨b8,rfl,P,A,f⟩:=z;exact d.g4 f),?_⟩);obtain⟨b8,rfl,P,A,f⟩:=z;have a:=a.g0 f;have b:=b.g4 f;have d:=d.g4 f;refine jg Z (gx call179 Z (A7 w6 A.slB (by simp[zj6,jz]) n hn) λv7 w7 B=>⟨(by obtain⟨Q,rfl,C,o,g⟩:=B;exact d.g4 g),?_⟩);obtain⟨Q,rfl,C,o,g⟩:=B;have a:=a.g0 g;have b:=b.g4 g;have d:=d.g4 g;refine jg Z (gx call180 Z (sealed_calls w7 o.slB (by simp[zj6,jz]) (hr.ext b id)) λv8 w8 D=>⟨(by let⟨rfl,m⟩:=D;exact d.g4 m),?_⟩);obtain⟨rfl,m⟩:=D;have a:=a.g0 m;have b:=b.g4 m;exact jd (wb Z (gz (l':=g6 (xq1 t n)) g5 a Z Z (by rw[gb,zx3]) (by rw[gb,zx3];rfl) OneC.h λw9 a R ac=> have b:=b.g8 R H;j1 (jh (j6 (ko [_] ⟨⟨X,0,Z,kj g5 Z Z a.kc (by rw[gb,zx3];rfl)⟩,trivial⟩ ⟨Z,b⟩)))))
abbrev ItQ (w : World) (F : Nat -> Prop) (N : Nat) (J Jx : Nat -> (Nat -> Prop) -> World -> Prop) (w' : World) : Prop :=
  ∃ F' : Nat -> Prop, Ext F w w' /\ (∀ x, F' x -> F x \/ w.heap.size <= x) /\ (J N F' w' \/ ∃ k, k < N /\ Jx k F' w')
abbrev argB (l : List Bytes) (k : Nat) : Array Value := #[numB (l.getD k [])]
theorem getD_rep {n k : Nat} {b : Bytes} (h : k < n) : (List.replicate n b).getD k [] = b := by simp [h]
theorem blank1_walk (w:World) {l b n:Nat} {F:Nat->Prop} {J Jx:Nat->(Nat->Prop)->World->Prop} (hC:Cons prog l w.heap.size n (argB (List.replicate n zeros)) J Jx) (hb:gu w b 3 [.int .i64 (n:Int)]) (hn:n<1000000000) (h0:J 0 F w):
  ge prog 145 [.func (.yield l) #[] #[],.pointer (some ⟨b,0,none⟩)] w λ_ w'=>ItQ w F n J Jx w':=by
 refine gt func145 ?_;have c:=Ext.refl F w;refine ki (gj Z (hb.cell Z) (k9 Z (j0 (ja (α:=Nat×(Nat->Prop)) [0,3] Z (λz=>[(4,.int .i64 (z.1:Int))]) (λz u=>(z.1<=n/\J z.1 z.2 u/\(∀x,z.2 x->F x\/w.heap.size<=x))/\Ext F w u) (λz u=>n-z.1) (0,F) Z ⟨⟨aF _,h0,λx g=> .inl g⟩,c⟩ ?_))));rintro⟨k,G⟩ A ⟨⟨B,i,j⟩,c⟩;refine uz Z (jc Z (λd=>?_) (λd=>?_));have a:k<n:=by omega
 refine yz (gh (c_regionI (wlw_p Z g5 Z (wlw Z (st_bd g5 Z trivial (l':=g6 zeros) (by rw[zeros_b];rfl) ?_)))));rw[show g6 zeros=g6 ((List.replicate n zeros).getD k []) from by rw[getD_rep a]];refine wli_yield Z Z Z Z Z Z (hC.round i a) λy C⟨m,o,p,q,r⟩=>?_;have v:=c.size;have c:=c.trans o λx g e=>(j x e).resolve_right zo;have f:∀x,m x->F x\/w.heap.size<=x:=λx g=>(p x g).elim (j x) λh=> .inr zo;refine wlw_p Z g5 Z (zv (jh (u5 Z (λd=>?_) (λd=>?_))));have s:=r (by simpa using d);exact j6 (u0 (j2 (j2 (u0 (f_ret0 Z ⟨m,c,f,.inr ⟨k,a,s⟩⟩)))));have i:=q (by simpa using d);refine jw (yt Z ?_);rw[jt _ zo];exact ga (j9 (k+1,m) Z ⟨⟨a,i,f⟩,c⟩ zf);have a:k=n:=by omega
 subst a;exact vw (ke (ke (qu (yq Z ⟨G,c,j,.inl i⟩))))
theorem blank1_iter (w:World) {b n:Nat} (hb:gu w b 3 [.int .i64 (n:Int)]) (hn:n<1000000000):Iter prog 145 [.pointer (some ⟨b,0,none⟩)] n (argB (List.replicate n zeros)) (One b) w:=λ_ _ _ _ hC h0 _=>blank1_walk w hC hb hn h0
theorem blank_calls (w:World) (n:Nat):
  ge prog 72 [.int .i64 (n:Int)] w λv w'=>∃b,v= .func (.func 145) #[] #[.pointer (some ⟨b,0,none⟩)]/\w.heap.size<=b/\gu w' b 3 [.int .i64 (n:Int)]/\Ext No w w':=by
 exact gt func72 (have c:=Ext.refl No w;ki (gn Z λg h d a e=> have f:=Nat.le_trans c.size d;have c:=c.g4 e;have a:gu h g 3 ([.int .i64 (n:Int)]):=a;k9 Z (jn Z (j6 (gp Z Z ⟨g,Z,f,a,c⟩)))))
theorem begin1_walk (w:World) {l bl bt n t:Nat} {x:Value} {F:Nat->Prop} {J Jx:Nat->(Nat->Prop)->World->Prop} (hC:Cons prog l w.heap.size 1 (argB [xq1 t n]) J Jx) (hbl:gu w bl 155 [x,.int .i64 (n:Int)]) (hbt:gu w bt 35 [.int .u32 (t:Int)]) (hx:x.oneCell'=true) (hn:n<4294967296) (ht:t<4294967296) (hr:Rt w) (h0:J 0 F w):
  ge prog 146 [.func (.yield l) #[] #[],.pointer (some ⟨bl,0,none⟩),.pointer (some ⟨bt,0,none⟩)] w λ_ w'=>ItQ w F 1 J Jx w':=by
 let⟨H,m⟩:∃H,H=xq1 t n:=⟨_,Z⟩
 rw[<-m] at hC;refine gt func146 ?_;have a:=Ext.refl F w;have c:=h0;refine c_regionI (wlw_p Z g5 Z (wlw Z (st_ldN g5 Z hbl.kc Z (wlw Z (st_ld g5 Z (hbt.cell Z) (wlw Z (gx call147 Z (head_calls w x n t hn ht hx hr) ?_)))))));rintro r s⟨rfl,b⟩;have c:=hC.st c b λ_ e=>e.elim;have a:=a.g4 b;rw[<-m];refine wli_yield Z Z Z Z Z Z (hC.round c zd) λy u⟨o,f,g,i,j⟩=>?_;have q:=a.size;have a:=a.then f;have k:∀x,o x->F x\/w.heap.size<=x:=λx hx=>(g x hx).elim .inl λh=> .inr zo;refine zv (yq Z (⟨o,a,k,?_⟩));cases y with
 |true=>exact .inl (i Z)
 |false=>exact .inr ⟨0,by decide,j Z⟩
theorem begin1_iter (w:World) {bl bt n t:Nat} {x:Value} (hbl:gu w bl 155 [x,.int .i64 (n:Int)]) (hbt:gu w bt 35 [.int .u32 (t:Int)]) (hx:x.oneCell'=true) (hn:n<4294967296) (ht:t<4294967296) (hr:Rt w):Iter prog 146 [.pointer (some ⟨bl,0,none⟩),.pointer (some ⟨bt,0,none⟩)] 1 (argB [xq1 t n]) (λx=>x=bl\/x=bt\/x=0) w:=λ_ _ _ _ a b _=>begin1_walk w a hbl hbt hx hn ht hr b
theorem bodyB_len (b : Bytes) : (zw5 b).length = b.length + 4 := by simp [zw5, jz]; omega
theorem sect_le (b:Bytes) (hb:b.length<=40000) {k:Nat} (hk:k<kl b.length):48*k<(zw5 b).length:=by
 have:=sectN_tight hb;rw[bodyB_len];omega
theorem xj5 (t n : Nat) (b : Bytes) {k : Nat} (hk : k < kl b.length) : (vr t n b).getD k [] = C9 t n b k := by simp [vr, hk]
theorem own1 {b x:Nat} (h:j5 (some ⟨b,0,none⟩) x):x=b:=by grind
theorem Aw {G G2:Nat->Prop} {b:Nat} {w:World} (h:¬G b) (hb:b<w.heap.size) (hG:∀x,G2 x->G x\/w.heap.size<=x):¬G2 b:=by grind
theorem xz5 (w:World) (t n:Nat) {p:Option Addr} {m c:Nat}:
  ge prog 121 [.int .u32 (t:Int),.int .u32 (n:Int),.slice p m c] w λv w'=>∃bb bt bn,v= .func (.func 178) #[] #[.pointer (some ⟨bb,0,none⟩),.pointer (some ⟨bt,0,none⟩),.pointer (some ⟨bn,0,none⟩)]/\(w.heap.size<=bb/\w.heap.size<=bt/\w.heap.size<=bn)/\gu w' bb 41 [.slice p m c]/\gu w' bt 35 [.int .u32 (t:Int)]/\gu w' bn 35 [.int .u32 (n:Int)]/\Ext No w w':=by
 exact gt func121 (have d:=Ext.refl No w;ki (gn Z λr x h a i=> have j:=Nat.le_trans d.size h;have d:=d.g4 i;have a:gu x r 35 ([.int .u32 (t:Int)]):=a;gn Z λs y k b g=> have l:=Nat.le_trans d.size k;have a:=a.g0 g;have d:=d.g4 g;have b:gu y s 35 ([.int .u32 (n:Int)]):=b;gn Z λu z o e f=> have q:=Nat.le_trans d.size o;have a:=a.g0 f;have b:=b.g0 f;have d:=d.g4 f;have e:gu z u 41 ([.slice p m c]):=e;k9 Z (jn Z (j6 (gp Z Z ⟨u,r,s,Z,⟨q,j,l⟩,e,a,b,d⟩)))))
def RowN (w u : World) (G : Nat -> Prop) (q : Option Addr) (m c : Nat) (l : Bytes) : Prop :=
  ux u q l /\ m = l.length /\ m <= c /\ ∀ x off, q = some ⟨x, off, none⟩ -> w.heap.size <= x /\ x < u.heap.size /\ ¬ G x
theorem RowN.g0 {w u u':World} {G:Nat->Prop} {q:Option Addr} {m c:Nat} {l:Bytes} (h:RowN w u G q m c l) (hE:Ext No u u'):RowN w u' G q m c l:=
 ⟨h.1.g0 hE,h.2.1,h.2.2.1,λx f e=>let⟨a,b,d⟩:=h.2.2.2 x f e;⟨a,aG b hE.size,d⟩⟩
theorem RowN.round {w u u':World} {G G2:Nat->Prop} {q:Option Addr} {m c:Nat} {l:Bytes} (h:RowN w u G q m c l) (hE:Ext G u u') (hG:∀x,G2 x->G x\/u.heap.size<=x):RowN w u' G2 q m c l:=
 ⟨h.1.ext hE λx f e=>(h.2.2.2 x f e).2.2,h.2.1,h.2.2.1,λx f e=>let⟨a,b,d⟩:=h.2.2.2 x f e;⟨a,aG b hE.size,Aw d b hG⟩⟩
theorem xj1 {q:Option Addr} {l m sz x off:Nat} (h:ub q l m sz=some ⟨x,off,none⟩) (hq:∀x off sp,q=some ⟨x,off,sp⟩->sp=none):∃off',q=some ⟨x,off',none⟩:=by
 unfold ub at h;split at h;exact⟨off,h⟩
 cases q with
 |none=>cases h
 |some a=>
  let⟨b,off',sp⟩:=a;obtain rfl:=hq _ _ _ Z;simp only[Option.map_some,bI] at h;unfold Addr.add at h;split at h;simp at h;exact⟨off',by rw[h.1]⟩
  grind
theorem slB_spot {w:World} {q:Option Addr} {l:Bytes} (h:ux w q l) (hl:l≠[]):∀x off sp,q=some ⟨x,off,sp⟩->sp=none:=λx off sp e=>by
 rcases h.2 with a|⟨b,o,c,_⟩
 ·exact absurd (aT a) hl
 rw[c] at e;simp at e;exact e.2.2.symm
theorem RowN.tail {w u:World} {G:Nat->Prop} {q:Option Addr} {m c:Nat} {l:Bytes} (h:RowN w u G q m c l) (hl:l≠[]) {k:Nat} (hk:k<=m):RowN w u G (ub q k c 1) (m-k) (c-k) (l.drop k):=by
 let⟨d,g,i,j⟩:=h;have b:=slB_spot d hl;have f:=d.slice k m c hk i zo;rw[aY,aY,uo,up,aL zl] at f;refine⟨?_,by rw[aW];omega,by omega,λx n e=>?_⟩;rw[ux,aW,<-g];exact f;let⟨a,o⟩:=xj1 e b;exact j x a o
theorem RowN.head {w u:World} {G:Nat->Prop} {q:Option Addr} {m c:Nat} {l:Bytes} (h:RowN w u G q m c l) {k:Nat} (hk:k<=m):ux u q (l.take k):=by
 let⟨b,d,e,f⟩:=h;have a:=b.slice 0 k k (aF _) (aA _) zo;rw[qa,bH,cX,List.drop_zero,aY,up] at a;rw[ux,aK,bR zo];exact a
theorem wrap16 (n : Nat) (h : n < 65536) : IntKind.u16.wrap (n : Int) = (n : Int) := by rw [IntKind.wrap_u16]; omega
theorem piece1_walk (w:World) {l bb bt bn t n c:Nat} {p:Option Addr} {b:Bytes} {F:Nat->Prop} {J Jx:Nat->(Nat->Prop)->World->Prop} (hCo:Cons prog l w.heap.size (kl b.length) (argB (vr t n b)) J Jx)
  (hbb:gu w bb 41 [.slice p b.length c]) (hbt:gu w bt 35 [.int .u32 (t:Int)]) (hbn:gu w bn 35 [.int .u32 (n:Int)]) (hs:ux w p b) (ht:t<4294967296) (hn:n<4294967296) (hb4:b.length<=40000) (hr:Rt w)
  (hF:¬F 0) (h0:J 0 F w):
  ge prog 178 [.func (.yield l) #[] #[],.pointer (some ⟨bb,0,none⟩),.pointer (some ⟨bt,0,none⟩),.pointer (some ⟨bn,0,none⟩)] w λ_ w'=>ItQ w F (kl b.length) J Jx w':=by
 have ck:=Dh b.length;refine gt func178 (have f:=Ext.refl F w;have g:=h0;have Y:=hCo.lt h0;have cm:=hr.lt;have cn:=hbb.lt;have cp:=hbt.lt;have cq:=hbn.lt;gh (jl Z 7 [qP 0,qP 1,qP 2,qP 4,(3,false),(5,false),qP 6] [] (No) zk λw1 D cs=>?_));have I:=hbb;have g:=hCo.st g D λ_ e=>e.elim;have hbb:=hbb.g0 D;have hbt:=hbt.g0 D;have hbn:=hbn.g0 D;have hs:=hs.g0 D;have hr:=Rt.ext hr D id;have f:=f.g4 D;have r:Ext (No) _ w1:=D.no;refine gy g5 Z Z (λw' L=>((I.g0 L).cell Z)) (gl g5 2 Z ?_);rw[wrap32 b.length zo];refine gy g5 Z Z (λw' L=>((I.g0 L).cell Z)) (have bp:=f;jg Z (gx call179 Z (A7 w1 (l:=[]) (Sl.nil _ _ _) zd b.length zo) λv2 w2 a0=>⟨(by obtain⟨M,rfl,a1,ai,v⟩:=a0;exact r.g4 v),?_⟩));obtain⟨M,rfl,a1,ai,v⟩:=a0;have g:=hCo.st g v λ_ e=>e.elim;have hbb:=hbb.g0 v;have hbt:=hbt.g0 v;have hbn:=hbn.g0 v;have hs:=hs.g0 v;have hr:=Rt.ext hr v id;have f:=f.g4 v;have r:=r.g4 v;have a2:=Own.blk ai 1 (n:=4) (c:=4) (T:=5) (by rw[gb,bU,jz]) zd zd;refine jg Z (ul g5 Z 1 1 Z Z Z zd a2 (Src.slice hs OneC.h) (by dsimp only[maxLen];simp only[jz,bU];omega) (by dsimp only;simp only[jz,bU];omega) λpr cr w3 N O bq=>⟨r.trans O λx X e=>by have:=own1 e;omega,?_⟩);have br:bb≠M:=by omega
 have bs:bt≠M:=by omega
 have bu:bn≠M:=by omega
 have P:∀x,j5 (some (⟨M,0,none⟩:Addr)) x->x=M:=λx e=>by have e:some (⟨M,0,none⟩:Addr)=some ⟨x,0,none⟩:=e;simp at e;exact e.symm
 have f:=f.trans O λx X e=>by have:=P x e;omega
 have g:=hCo.st g O λx e=>by have:=P x e;exact⟨by omega,λe=>by have:=Y _ e;omega⟩
 have hbb:=hbb.ext O λe=>br (P _ e);have hbt:=hbt.ext O λe=>bs (P _ e);have hbn:=hbn.ext O λe=>bu (P _ e);have hr:=Rt.ext hr O λe=>by have:=P _ e;omega
 have a:RowN w w3 F pr (4+b.length) cr (zw5 b):=by
  have N:Own w3 pr (4+b.length) cr 5 1 ((g6 ([]++be 4 b.length)).take (4*1)++g6 b):=N;rw[bU,aY,up,aL (by rw[jz];omega),<-qd] at N;have e1:4+b.length=(zw5 b).length:=by rw[bodyB_len];omega
  refine⟨by have:=N.sl;rw[e1] at this;exact this,e1,N.cap,λx ad e=>?_⟩;have X:j5 pr x:=by rcases N with⟨h1,_⟩|⟨b',l',h1,_⟩;rw[h1] at e;cases e;rw[h1] at e;simp at e;let⟨rfl,rfl⟩:=e;exact h1
  have hw:w.heap.size<=x:=(bq x X).elim (λh=>by have:=P x h;omega) λh=>by have:=bp.size;have:=v.size;omega
  exact⟨hw,N.lt X,λe=>by have:=Y _ e;omega⟩
 have hs:=0;rw[show Value.slice pr (([]++be 4 b.length:List UInt8).length+b.length) cr= .slice pr (4+b.length) cr from by rw[bU,jz]];refine gl g5 1 Z (jd (j1 (jh (ki (gj Z (hbb.cell Z) (gv g5 Z (g7 call65 Z (xi w3 (b.length:Int)) ?_)))))));rintro v4 w4⟨rfl,Q⟩;have g:=hCo.st g Q λ_ e=>e.elim;have hbb:=hbb.g0 Q;have hbt:=hbt.g0 Q;have hbn:=hbn.g0 Q;have hr:=Rt.ext hr Q id;have a:=a.g0 Q;have f:=f.g4 Q;rw[Bd];refine gv g5 Z ?_;rw[wrap16 _ zo];refine k9 Z (gh (jl Z 5 [qP 0,qP 2,(1,false),(3,false),qP 4] [] (No) zk λw5 E ct=>?_));have aj:=hbt;have ak:=hbn;have bw:=hs;have g:=hCo.st g E λ_ e=>e.elim;have hbb:=hbb.g0 E;have hbt:=hbt.g0 E;have hbn:=hbn.g0 E;have hr:=Rt.ext hr E id;have a:=a.g0 E;have f:=f.g4 E;have r:Ext (No) _ w5:=E.no;refine gy g5 Z Z (λw' L=>((aj.g0 L).cell Z)) (gy g5 Z Z (λw' L=>((ak.g0 L).cell Z)) (jg Z (gx call179 Z (A7 w5 (l:=[]) (Sl.nil _ _ _) zd t ht) λv6 w6 a3=>⟨(by obtain⟨bx,rfl,a4,am,B⟩:=a3;exact r.g4 B),?_⟩)));obtain⟨bx,rfl,a4,am,B⟩:=a3;have g:=hCo.st g B λ_ e=>e.elim;have hbb:=hbb.g0 B;have hbt:=hbt.g0 B;have hbn:=hbn.g0 B;have hr:=Rt.ext hr B id;have a:=a.g0 B;have f:=f.g4 B;have r:=r.g4 B;have bz:=f;refine jg Z (gx call179 Z (A7 w6 am.slB (by simp[jz]) n hn) λv7 w7 a5=>⟨(by obtain⟨ae,rfl,an,aa,C⟩:=a5;exact r.g4 C),?_⟩);obtain⟨ae,rfl,an,aa,C⟩:=a5;have g:=hCo.st g C λ_ e=>e.elim;have hbb:=hbb.g0 C;have hbt:=hbt.g0 C;have hbn:=hbn.g0 C;have hr:=Rt.ext hr C id;have a:=a.g0 C;have f:=f.g4 C;have r:=r.g4 C;have ci:=Nat.le_trans bz.size an;have d:gu w7 ae 5 (g6 (be 4 t++be 4 n)):=by rw[bU] at aa;exact aa
 refine gl g5 1 Z (jd (j1 (jh (jn Z (j0 (ja (α:=Nat×(Option Addr×Nat×Nat)×(Nat->Prop)) [0,6,7,24] Z (λz=>[(5,.slice z.2.1.1 z.2.1.2.1 z.2.1.2.2),(25,.int .u16 (z.1:Int))]) (λz u=>(z.1<=kl b.length/\J z.1 z.2.2 u/\(∀x,z.2.2 x->F x\/w.heap.size<=x)/\RowN w u z.2.2 z.2.1.1 z.2.1.2.1 z.2.1.2.2 ((zw5 b).drop (48*z.1))/\gu u ae 5 (g6 (be 4 t++be 4 n))/\¬z.2.2 ae/\¬z.2.2 0/\Rt u)/\Ext F w u) (λz u=>kl b.length-z.1) (0,(pr,4+b.length,cr),F) Z ⟨⟨aF _,g,λx X=> .inl X,by rw[Nat.mul_zero,List.drop_zero];exact a,d,λe=>by have:=Y _ e;omega,hF,hr⟩,f⟩ ?_))))));rintro⟨k,⟨q,m,c⟩,G⟩ w8 ⟨⟨hk,g,hG,a,d,av,aw,hr⟩,f⟩;dsimp only at hk g hG a d av aw;have hm:=a.2.1;have b0:=a.2.2.1;have b1:=d.lt;refine uz Z (jc Z (λhc=>?_) (λhc=>?_));have R:k<kl b.length:=by omega
 have cu:=sect_le b hb4 R;rw[aW] at hm;have cv:=bodyB_len b;let⟨s,cw⟩:∃s,s=min m 48:=⟨_,Z⟩
 have b2:(zw5 b).drop (48*k)≠[]:=λe=>by have:=congrArg List.length e;rw[aW] at this;simp at this;omega
 refine yz (jn Z (jy Z ?_));rw[show(if 48<(m:Int) then(48:Int) else(m:Int))=(s:Int) from by split<;>omega];refine k9 Z (gh (gh (c_drawY 12 Z 12 [qP 0,qP 1,qP 2,qP 4,qP 6,qP 7,qP 8,qP 9,(3,false),(5,false),(10,false),(11,false)] [] (No) zk zk [12,13] Z λw9 U cx=>?_)));have cy:=g;have I:=hbb;have aj:=hbt;have ak:=hbn;have bw:=hs;have cz:=hr;have b3:=a;have b4:=d;have c0:=f;have g:=hCo.st g U λ_ e=>e.elim;have hr:=Rt.ext hr U id;have a:=a.g0 U;have d:=d.g0 U;have f:=f.g4 U;have r:Ext (No) _ w9:=U.no;refine gl g5 7 Z (yx5 g5 Z Z 0 s s 1 Z (.inl ⟨Z,Z⟩) (.inl Z) (.inr ⟨Z,Z⟩) (aF _) (aA _) zn ?_);dsimp only;rw[qa,bH];refine jg Z (gx call91 Z (D9 w9 d.slB (by simp[jz]) k zo) λc1 b5 ap=>⟨(by obtain⟨b6,rfl,a6,aq,i⟩:=ap;exact r.g4 i),?_⟩);obtain⟨b6,rfl,a6,aq,i⟩:=ap;have g:=hCo.st g i λ_ e=>e.elim;have hr:=Rt.ext hr i id;have a:=a.g0 i;have d:=d.g0 i;have f:=f.g4 i;have r:=r.g4 i;have b7:=f;have c2:=r.size;have a7:=hCo.lt g;have ax:=a;have bm:=d.lt;have cj:=hr.lt;refine jg Z (gx call91 Z (D9 b5 aq.slB (by simp[jz]) (kl b.length) zo) λc3 b8 ar=>⟨(by obtain⟨V,rfl,hn36,ab,j⟩:=ar;exact r.g4 j),?_⟩);obtain⟨V,rfl,hn36,ab,j⟩:=ar;have g:=hCo.st g j λ_ e=>e.elim;have hr:=Rt.ext hr j id;have a:=a.g0 j;have d:=d.g0 j;have f:=f.g4 j;have r:=r.g4 j;have a8:=Nat.le_trans b7.size hn36;let⟨H,hH⟩:∃H,H=be 4 t++be 4 n++be 2 k++be 2 (kl b.length):=⟨_,Z⟩
 rw[<-hH] at ab|-;have b9:H.length=12:=by rw[hH];simp[jz]
 have a9:=Own.blk ab 1 (n:=H.length) (c:=H.length) (T:=5) (by rw[gb,aY]) (aA _) (by rw[b9];decide);have ba:(((zw5 b).drop (48*k)).take s).length=s:=by rw[aK,aW];omega
 have bc:Sl b8 q s 1 (g6 (((zw5 b).drop (48*k)).take s)):=by have e:=a.head (k:=s) zo;rw[ux,ba] at e;exact e
 have bd:¬G V:=λe=>by have:=a7 V e;omega
 refine jg Z (ul g5 Z 1 1 Z Z Z zd a9 (Src.slice bc OneC.h) zm zn λpa ca af ac K c4=>⟨r.trans K λx X e=>by have:=own1 e;omega,?_⟩);have W:∀x,j5 (some (⟨V,0,none⟩:Addr)) x->x=V:=λx e=>by have e:some (⟨V,0,none⟩:Addr)=some ⟨x,0,none⟩:=e;simp at e;exact e.symm
 have r:=r.trans K (S:=No) λx X e=>by have:=W x e;omega
 have f:=f.trans K λx X e=>by have:=W x e;omega
 have g:=hCo.st g K λx e=>by have:=W x e;subst this;exact⟨a8,bd⟩
 have hr:=Rt.ext hr K λe=>by have:=W _ e;omega
 have a:RowN w af G q m c ((zw5 b).drop (48*k)):=by refine⟨a.1.ext K λx ad e h=>?_,a.2.1,a.2.2.1,λx ad e=>?_⟩;have:=W x h;have:=(ax.2.2.2 x ad e).2.1;omega;have h3:=a.2.2.2 x ad e;exact⟨h3.1,aG h3.2.1 K.size,h3.2.2⟩
 have d:=d.ext K λe=>by have:=W _ e;omega
 have ac:Own af pa (H.length+s) ca 5 1 ((g6 H).take (H.length*1)++g6 (((zw5 b).drop (48*k)).take s)):=ac;rw[aY,up,aL (aA _),<-qd] at ac;let⟨A,hA⟩:∃A,A=H++((zw5 b).drop (48*k)).take s:=⟨_,Z⟩
 rw[<-hA] at ac;have bf:A.length=H.length+s:=by rw[hA,al,ba]
 have cb:ux af pa A:=by have e:=ac.sl;rw[<-bf] at e;exact e
 dsimp only;rw[<-bf];refine jg Z (gx call180 Z (sealed_calls af cb zo hr) λc5 c6 au=>⟨(by let⟨rfl,o⟩:=au;exact r.g4 o),?_⟩);obtain⟨rfl,o⟩:=au;have g:=hCo.st g o λ_ e=>e.elim;have hr:=Rt.ext hr o id;have a:=a.g0 o;have d:=d.g0 o;have f:=f.g4 o;have r:=r.g4 o;have hP:sealB A=C9 t n b k:=by rw[hA,hH,C9];congr 2;rcases Nat.le_total m 48 with h|h;rw[aL zl,aL zl];rw[show s=48 from by omega]
 obtain⟨Pk,bg⟩:∃Pk,Pk=C9 t n b k:=⟨_,Z⟩
 rw[hP,<-bg];have ay:argB (vr t n b) k= #[numB Pk]:=by rw[argB,xj5 t n b R,bg]
 have bh:=hCo.round g R;rw[ay] at bh;refine jd (j1 (f_tail zk (wbi_yield Z Z Z Z Z Z Z bh λy cc⟨G2,ag,ah,cd,ce⟩=>?_)));have c7:=f.size;have f:=f.trans ag λx X e=>(hG x e).resolve_right zo;have bi:∀x,G2 x->F x\/w.heap.size<=x:=λx X=>(ah x X).elim (hG x) λh=> .inr zo;have a:=a.round ag ah;have cf:=d.lt;have cg:=hr.lt;have d:=d.ext ag av;have hr:=Rt.ext hr ag aw;have bj:=Aw av cf ah;have bk:=Aw aw cg ah;refine wbi (hF:= .none) Z Z (st_p g5 Z Z Z (wbi_nil (jh (u5 Z (λhc=>?_) (λhc=>?_)))));have ch:=ce (by simpa using hc);exact j6 (j2 (u0 (j2 (j2 (u0 (f_ret0 Z ⟨G2,f,bi,.inr ⟨k,R,ch⟩⟩))))));have g:=cd (by simpa using hc);refine vo (xt Z (wl (Ay g5 Z s m c 1 Z (.inr ⟨Z,Z⟩) (.inr ⟨Z,Z⟩) (.inl Z) zo b0 (aA _) ?_)));dsimp only;refine gv g5 Z (ga (yt Z ?_));rw[show IntKind.u16.wrap ((k:Int)+1)=((k+1:Nat):Int) from wrap16 (k+1) zo];refine gv g5 Z (ga ?_);have az:RowN w cc G2 (ub q s c 1) (m-s) (c-s) ((zw5 b).drop (48*(k+1))):=by have e:=a.tail b2 (k:=s) zo;rw[List.drop_drop] at e;rcases Nat.le_total m 48 with h|h;rw[bY zo] at e;rw[bY zo];exact e;rw[show 48*k+s=48*(k+1) from by omega] at e;exact e
 exact j9 (k+1,(ub q s c 1,m-s,c-s),G2) Z ⟨⟨R,g,bi,az,d,bj,bk,hr⟩,f⟩ zf;have R:k=kl b.length:=by omega
 subst R;exact vw (ke (ke (qu (yq Z ⟨G,f,hG,.inl g⟩))))
theorem piece_iter (w:World) {bb bt bn t n c:Nat} {p:Option Addr} {b:Bytes} (hbb:gu w bb 41 [.slice p b.length c]) (hbt:gu w bt 35 [.int .u32 (t:Int)]) (hbn:gu w bn 35 [.int .u32 (n:Int)]) (hs:ux w p b) (ht:t<4294967296) (hn:n<4294967296) (hb4:b.length<=40000) (hr:Rt w):
  Iter prog 178 [.pointer (some ⟨bb,0,none⟩),.pointer (some ⟨bt,0,none⟩),.pointer (some ⟨bn,0,none⟩)] (kl b.length) (argB (vr t n b)) (λx=>x=0) w:=
 λ_ _ _ _ d e a=>piece1_walk w d hbb hbt hbn hs ht hn hb4 hr (a 0 Z) e
abbrev DkQ (w : World) (d : Nat) (F : Nat -> Prop) (D : kg) (w' : World) : Prop := ∃ F' : Nat -> Prop, At w' d F' D /\ Ext F w w' /\ ∀ x, F' x -> F x \/ w.heap.size <= x
theorem dkWrite (w:World) {d m:Nat} {F:Nat->Prop} {D:kg} (h:At w d F D) (hok:D.Ok m) (hm:m+1<1000000000) (i:Int) {b:Bytes} (hb:b.length=64):
  ge prog 143 [.pointer (some ⟨d,0,none⟩),.int .i64 i,numB b] w λv w'=>v= .int .i64 (D.write i b).2/\DkQ w d F (D.write i b).1 w':=
 (dk_write w h hok hm i hb).mono λ_ w' ⟨a,c,e⟩=>⟨a,_,c,e,λ_ f=>f.imp id λh=>h.1⟩
theorem dkSync (w:World) {d m:Nat} {F:Nat->Prop} {D:kg} (h:At w d F D) (hok:D.Ok m) (hm:m+1<1000000000):
  ge prog 144 [.pointer (some ⟨d,0,none⟩)] w λv w'=>v= .int .i64 D.sync.2/\DkQ w d F D.sync.1 w':=
 (dk_sync w h hok hm).mono λ_ _ ⟨a,b,c⟩=>⟨a,F,b,c,λ_=> .inl⟩
theorem dkRead (w:World) {d m:Nat} {F:Nat->Prop} {D:kg} (h:At w d F D) (hok:D.Ok m) (hm:m<1000000000) (i:Int):
  ge prog 78 [.pointer (some ⟨d,0,none⟩),.int .i64 i] w λv w'=>v= .tuple #[numB (D.read i).2.1,.int .i64 (D.read i).2.2]/\At w' d F (D.read i).1/\Ext F w w':=by
 let⟨f,g,j,h⟩:=h;exact(dk_read w h hok hm i).mono λ_ _ ⟨a,b,c⟩=>⟨a,⟨_,_,_,b⟩,c.mono λx _ e=>by have e:x=d:=e;rw[e];exact h.own.1⟩
def PutJ (w0 : World) (d n m b3 b4 b6 : Nat) (at_ : Int) (D0 : kg) (L : List Bytes) (k : Nat) (z : (Nat -> Prop) × kg) (u : World) : Prop :=
  At u d z.1 z.2 /\ z.2.Ok (m + 2 * k) /\ Be D0 at_ L = Be z.2 (at_ + k) (L.drop k) /\ (¬ z.1 b3 /\ ¬ z.1 b4 /\ ¬ z.1 b6) /\ gu u b3 155 [.pointer (some ⟨d, 0, none⟩), .int .i64 n] /\ gu u b4 3 [.int .i64 (at_ + k)] /\ ∃ e, gu u b6 38 [.int .i64 e]
def PutX (b3 b4 b6 d : Nat) (at_ : Int) (D0 : kg) (L : List Bytes) (c : Code) (z : (Nat -> Prop) × kg) (u : World) : Prop :=
  c = .ret /\ At u d z.1 z.2 /\ (¬ z.1 b3 /\ ¬ z.1 b4 /\ ¬ z.1 b6) /\ (Be D0 at_ L).1 = z.2 /\ (b4 < u.heap.size /\ b6 < u.heap.size) /\ gu u b6 38 [.int .i64 (Be D0 at_ L).2]
abbrev PutF (b4 b6 : Nat) (z : (Nat -> Prop) × kg) : Nat -> Prop := λx => z.1 x \/ x = b4 \/ x = b6
def putC (w w0 : World) (d n m b3 b4 b6 : Nat) (at_ : Int) (D0 : kg) (L : List Bytes) (h3 : b3 < w.heap.size) : CoS ((Nat -> Prop) × kg) w where
  Fp := PutF b4 b6
  J := PutJ w0 d n m b3 b4 b6 at_ D0 L
  Jx := λ_ c z u => PutX b3 b4 b6 d at_ D0 L c z u
  st := by
    rintro k z S u u' ⟨h1, h2, h3', h4, h5, h6, e, h7⟩ hE hS
    exact ⟨h1.ext hE λx hx hs => (hS x hs).2 (.inl hx), h2, h3', h4, h5.ext hE λhs => by have := (hS _ hs).1; omega, h6.ext hE λhs => (hS _ hs).2 (.inr (.inl Z)), e, h7.ext hE λhs => (hS _ hs).2 (.inr (.inr Z))⟩
  stx := by
    rintro k c z S u u' ⟨h1, h2, h3', h4, h5, h6⟩ hE hS
    exact ⟨h1, h2.ext hE λx hx hs => (hS x hs).2 (.inl hx), h3', h4, ⟨aG h5.1 hE.size, aG h5.2 hE.size⟩, h6.ext hE λhs => (hS _ hs).2 (.inr (.inr Z))⟩
  lt := by
    rintro k z u ⟨h1, h2, h3', h4, h5, h6, e, h7⟩ x hx
    rcases hx with hx | rfl | rfl
    · exact h1.lt x hx
    · exact h6.lt
    · exact h7.lt
  ltx := by
    rintro k c z u ⟨h1, h2, h3', h4, h5, h6⟩ x hx
    rcases hx with hx | rfl | rfl
    · exact h2.lt x hx
    · exact h5.1
    · exact h5.2
theorem Al {F F' G:Nat->Prop} {u w:World} (h:∀x,G x->F x\/w.heap.size<=x) (hs:w.heap.size<=u.heap.size) (h':∀x,F' x->G x\/u.heap.size<=x):∀x,F' x->F x\/w.heap.size<=x:=by grind
theorem xj7 (w:World) {d m gf n:Nat} {F own:Nat->Prop} {D:kg} {cap:Array Value} {L:List Bytes} (h:At w d F D) (hok:D.Ok m) (hm:m+2*L.length+3<1000000000) (at_:Int) (hat: -1000000000<=at_/\at_<=1000000000) (hL64:∀b∈L,b.length=64)
  (hcf:∀args w,(callFunc gf args).run prog w= .ok (.enter gf args) w) (hit:∀w1,Ext No w w1->Iter prog gf cap.toList L.length (argB L) own w1) (hown:∀x,own x->x<w.heap.size/\¬F x):
  ge prog 71 [.agg #[.pointer (some ⟨d,0,none⟩),.int .i64 (n:Int)],.int .i64 at_,.func (.func gf) #[] cap] w λv w'=>v= .int .i64 (Be D at_ L).2/\DkQ w d F (Be D at_ L).1 w':=by
 refine Cg func71 Z Z Z Z ?_;have o:=Ext.refl F w;have Q:=h.lt;have J:=Ext.refl No w;refine ki (gn Z λb3 w1 bh f R=>?_);have h:=h.g0 R;have J:=J.g4 R;have o:=o.g4 R;have f:gu w1 b3 155 ([.pointer (some ⟨d,0,none⟩),.int .i64 (n:Int)]):=f;refine gn Z λb4 w2 au g ad=>?_;have S:=gw f.lt au;have bi:=Nat.le_trans o.size au;have f:=f.g0 ad;have h:=h.g0 ad;have J:=J.g4 ad;have o:=o.g4 ad;have g:gu w2 b4 3 ([.int .i64 at_]):=g;refine gn Z λK w3 aj a T=>?_;have a0:=gw f.lt aj;have U:=gw g.lt aj;have a1:=Nat.le_trans o.size aj;have f:=f.g0 T;have g:=g.g0 T;have h:=h.g0 T;have J:=J.g4 T;have o:=o.g4 T;have a:gu w3 K 38 ([.int .i64 0]):=a;refine qi (gh (jn Z (j0 ?_)));have a2:¬F b3:=λe=>by have:=Q _ e;omega
 have a3:¬F b4:=λe=>by have:=Q _ e;omega
 have a4:¬F K:=λe=>by have:=Q _ e;omega
 have l3:=f.lt;have l4:=g.lt;have l6:=a.lt;refine c_iter (putC w3 w d n m b3 b4 K at_ D L f.lt) (F,D) Z hcf Z (λ_=>rfl) (λw1 R=>hit w1 (J.g4 R)) (λx j=>by have:=hown x j;exact⟨by omega,λe=>by rcases e with e|e|e;exact this.2 e;omega;omega⟩) ⟨h,hok,by simp,⟨a2,a3,a4⟩,f,by simpa using g,0,a⟩ (λl DD r k z W V hJ hk=>?_) (λDD z W hJ hE X a5 C Y=>?_) (λDD k c z W hk hJ hE X a5 C Y=>?_);have i:=V.l;obtain⟨G,D2⟩:=z;obtain⟨t,B,q,⟨u,y,p⟩,f,g,e0,a⟩:=hJ;dsimp only at t B q u y p;have av:¬G l:=λe=>(V.fp _ (.inl e)).1 Z;have aw:=t.lt;obtain⟨Bk,ak⟩:∃Bk,Bk=L.getD k []:=⟨_,Z⟩
 have E:Bk.length=64:=by rw[ak];have:=hL64 (L[k]) (aC hk);simpa [hk] using this
 rw[show argB L k= #[numB Bk] from by rw[argB,ak]];have bj:=g.lt;have bk:=a.lt;have a6:=S.symm;have bm:=f.neL i;have a7:=g.neL i;have a8:=a.neL i;have o:Ext (λx=>PutF b4 K (G,D2) x\/x=l) W W:=Ext.refl _ _;refine yh (wli (.round _) Z (Bi g5 Z λb7 w4 ae M N=>?_));have am:=gw f.lt ae;have an:=gw g.lt ae;have ap:=gw a.lt ae;have a9:=Nat.le_trans o.size ae;have f:=f.g0 N;have g:=g.g0 N;have a:=a.g0 N;have t:=t.g0 N;have i:=vd i N id;have o:=o.g4 N;have ba:=M.neL i;have bb:¬G b7:=λe=>by have:=aw _ e;omega
 refine wli (.round _) Z (gz (l':=g6 Bk) g5 M Z Z (by rw[gb,E]) (by rw[gb,E];rfl) OneC.h λw5 M O bn=>?_);have f:=f.g9 O am;have g:=g.g9 O an;have a:=a.g9 O ap;have t:=t.ext O λx j e=>by have e:x=b7:=e;subst e;exact bb j
 have i:=vd i O ba.symm;have o:=o.g8 O a9;refine zv (xv4 V i λw6 P bc=>?_);have f:=f.extL i P;have g:=g.extL i P;have a:=a.extL i P;have M:=M.extL i P;have t:=t.ext P λx j e=>by have e:x=l:=e;subst e;exact av j
 have i:=bc;have o:=o.then (P.mono λx _ e=> .inr e);refine ci_block (xz7 (xz7 (yh (zj2 g5 Z (wli (.round _) Z (st_ldb g5 f Z Z (wli (.round _) Z (st_ldb g5 g Z Z (wli (.round _) Z (st_ldB g5 M Z (by rw[gb,E]) ?_))))))))));have aq:=o.size;have l3:=f.lt;have l4:=g.lt;have l6:=a.lt;have s:=layD_step hk D2 at_;rw[<-q,<-ak] at s;refine wli (.round _) Z (gx call143 Z (dkWrite w6 t B zo (at_+k) E) λv7 w7 bd=>?_);obtain⟨rfl,G2,ar,I,H⟩:=bd;have f:=f.ext I u;have g:=g.ext I y;have a:=a.ext I p;have i:=vd i I av;have o:=o.then (I.mono λx _ e=> .inl (.inl e));have u:=Aw u l3 H;have y:=Aw y l4 H;have p:=Aw p l6 H;have t:=ar;have ax:=B.write (at_+k) E;have ay:∀(D':kg) x,PutF b4 K (G2,D') x->PutF b4 K (G,D2) x\/W.heap.size<=x:=λD' x j=>by rcases j with j|j;exact(H x j).elim (λh=> .inl (.inl h)) λh=> .inr (Nat.le_trans aq h);exact .inl (.inr j)
 refine zj2 g5 Z (zv (zv8 (xz7 (yh (zj2 g5 Z (zv (zv8 (ci_if Z (λhc=>?_) (λhc=>?_)))))))));rw[aM hc] at s;refine xz7 (yh (zj2 g5 Z (wli (.round _) Z (Aa g5 a Z Z Z λw8 a af bp=>?_))));have g:=g.g9 af U;have t:=t.ext af λx j e=>by have e:x=K:=e;subst e;exact p j
 have i:=vd i af a8.symm;have o:=o.then (af.mono λx _ e=>by have e:x=K:=e;subst e;exact(.inl (.inr (.inr Z))));refine zv (zv8 (ci_ret ?_));exact j2 (u0 (fin_stop (.inl ⟨Z,Z⟩) (G2,(D2.write (at_+k) Bk).1) V i o (ay _) (⟨Z,t,⟨u,y,p⟩,by rw[s],⟨g.lt,a.lt⟩,by rw[s];exact a⟩)));rw[aJ hc] at s;refine ci_skip (zv8 (yh (wli (.round _) Z (st_ldb g5 g Z Z (zj2 g5 Z ?_)))));rw[jt _ zo];refine wli (.round _) Z (Aa g5 g Z Z Z λw9 g aa bq=>?_);have f:=f.g9 aa S;have a:=a.g9 aa U.symm;have t:=t.ext aa λx j e=>by have e:x=b4:=e;subst e;exact y j
 have i:=vd i aa a7.symm;have o:=o.then (aa.mono λx _ e=>by have e:x=b4:=e;subst e;exact(.inl (.inr (.inl Z))));refine zv ?_;exact jm (fin_next (G2,(D2.write (at_+k) Bk).1) V i o (ay _) (⟨t,by rw[show m+2*(k+1)=m+2*k+2 from by omega];exact ax,s,⟨u,y,p⟩,f,by rw[show(at_+((k+1:Nat):Int))=at_+k+1 from by omega];exact g,_,a⟩));obtain⟨G,D2⟩:=z;obtain⟨t,B,q,⟨u,y,p⟩,f,g,e0,a⟩:=hJ;dsimp only at t B q u y p;rw[List.drop_length] at q;have o:Ext F w W:=o.trans hE λx j e=>by rcases e with e|rfl|rfl;exact e;omega;omega
 have ag:K≠DD:=Y _ (.inr (.inr Z));have ah:¬G DD:=λe=>Y _ (.inl e) Z;have ai:∀x,G x->F x\/w.heap.size<=x:=λx j=>(X x (.inl j)).elim (λe=>by rcases e with e|rfl|rfl;exact .inl e;omega;omega) λe=> .inr zo;have br:=uy C;refine jm (jh (jy Z (j3 f Z Z ?_)));have aq:=o.size;have l6:=a.lt;refine g7 call144 Z (dkSync W t B zo) λbs bt az=>?_;obtain⟨rfl,G2,ar,ab,H⟩:=az;have a:=a.ext ab p;have C:=vd C ab ah;have o:=o.trans ab λx j e=>(ai x e).resolve_right zo;have p:=Aw p l6 H;have t:=ar;have u:=Al ai aq H;refine ka a Z Z Z λbu a ac bg=>?_;have C:=vd C ac ag.symm;have t:=t.ext ac λx j e=>by have e:x=K:=e;subst e;exact p j
 have o:=o.g8 ac a1;refine qi (j6 (Bq [DD] zp (λx j=>by rw[aE.1 j];exact C) [.int .i64 D2.sync.2] (λbf A=>?_) (.inl Z)));refine⟨⟨⟨K,0,Z,zj0 g5 Z Z ((a.ext A (λe=>ag (aE.1 e))).cell Z)⟩,trivial⟩,?_⟩;rw[q];exact⟨Z,G2,t.ext A λx j e=>by rw[aE.1 e] at j;exact(H DD j).elim ah λh=>by omega,o.trans A λx j e=>by rw[aE.1 e] at j;omega,u⟩
 obtain⟨G,D2⟩:=z;obtain⟨rfl,t,⟨u,y,p⟩,q,⟨bv,bw⟩,a⟩:=hJ;dsimp only at t q u y p;have o:Ext F w W:=o.trans hE λx j e=>by rcases e with e|rfl|rfl;exact e;omega;omega
 have ag:K≠DD:=Y _ (.inr (.inr Z));have ah:¬G DD:=λe=>Y _ (.inl e) Z;have ai:∀x,G x->F x\/w.heap.size<=x:=λx j=>(X x (.inl j)).elim (λe=>by rcases e with e|rfl|rfl;exact .inl e;omega;omega) λe=> .inr zo;refine j6 (u0 (j2 (Bq [DD] zp (λx j=>by rw[aE.1 j];exact C) [.int .i64 (Be D at_ L).2] (λbf A=>?_) (.inl Z))));refine⟨⟨⟨K,0,Z,zj0 g5 Z Z ((a.ext A (λe=>ag (aE.1 e))).cell Z)⟩,trivial⟩,?_⟩;exact⟨Z,G,by rw[q];exact t.ext A λx j e=>by rw[aE.1 e] at j;exact ah j,o.trans A λx j e=>by rw[aE.1 e] at j;omega,ai⟩
theorem begin_calls (w:World) {d m n t c:Nat} {F:Nat->Prop} {D:kg} {p:Option Addr} {b:Bytes} (h:At w d F D) (hok:D.Ok m) (hm:m+2000<1000000000) (hn:n<1000000) (ht:t<4294967296) (hs:ux w p b) (hbl:b.length<=40000) (hr:Rt w) (hF0:¬F 0):
  ge prog 73 [.agg #[.pointer (some ⟨d,0,none⟩),.int .i64 (n:Int)],.int .u32 (t:Int),.slice p b.length c] w λv w'=>v= .int .i64 (yr D t n b).2/\DkQ w d F (yr D t n b).1 w':=by
 refine gt func73 (have i:=Ext.refl F w;have A:=h.lt;have ag:=Dh b.length;have V:=hr.lt;ki (gn Z λW E X a g=> have ah:=Nat.le_trans i.size X;have h:=h.g0 g;have hs:=hs.g0 g;have hr:=Rt.ext hr g id;have i:=i.g4 g;have a:gu E W 155 ([.pointer (some ⟨d,0,none⟩),.int .i64 (n:Int)]):=a;gn Z λY w2 G f z=>?_));have I:=gw a.lt G;have ai:=Nat.le_trans i.size G;have a:=a.g0 z;have h:=h.g0 z;have hs:=hs.g0 z;have hr:=Rt.ext hr z id;have i:=i.g4 z;have f:gu w2 Y 35 ([.int .u32 (t:Int)]):=f;have r:¬F W:=λe=>by have:=A _ e;omega
 have s:¬F Y:=λe=>by have:=A _ e;omega
 refine k9 Z (gh (gh (jl Z 9 [qP 0,qP 1,qP 2,qP 4,qP 5,(3,false),(6,false),(7,false),qP 8] [] (F) zk λw3 o aj=> have H:=a;have J:=f;have a:=a.g0 o;have f:=f.g0 o;have h:=h.g0 o;have hs:=hs.g0 o;have hr:=Rt.ext hr o id;have i:=i.g4 o;have B:Ext (F) _ w3:=o.no;kw g5 Z Z (λw' q=>((H.ext q r).kc)) Z (kw g5 Z Z (λw' q=>((H.ext q r).kc)) Z (gy g5 Z Z (λw' q=>((J.ext q s).cell Z)) (gy g5 Z Z (λw' q=>((J.ext q s).cell Z)) (gl g5 1 Z (jg Z (gx call120 Z (yw4 w3 (.pointer (some ⟨d,0,none⟩)) n t zo ht Z) λv4 w4 K=>⟨(by let⟨rfl,j⟩:=K;exact B.g4 j),?_⟩)))))))));obtain⟨rfl,j⟩:=K;have a:=a.g0 j;have f:=f.g0 j;have h:=h.g0 j;have hs:=hs.g0 j;have hr:=Rt.ext hr j id;have i:=i.g4 j;have B:=B.g4 j;refine jg Z (gx call121 Z (xz5 w4 t 0 (p:=p) (m:=b.length) (c:=c)) λv5 w5 M=>⟨(by obtain⟨bb,bt,bn,rfl,aa,N,O,P,k⟩:=M;exact B.g4 k),?_⟩);obtain⟨bb,bt,bn,rfl,aa,N,O,P,k⟩:=M;have a:=a.g0 k;have f:=f.g0 k;have h:=h.g0 k;have hs:=hs.g0 k;have hr:=Rt.ext hr k id;have i:=i.g4 k;have B:=B.g4 k;have ab:=i.size;have l3:=a.lt;have l4:=f.lt;refine jg Z (gx call71 Z (xj7 w5 (n:=n) (L:=vr t 0 b) (own:=λx=>x=0) h hok (by rw[x7];omega) (uk t n:Int) (by unfold uk;split<;>omega) (zz1 t 0 b) call178 (λE g=>by rw[x7];exact piece_iter E (N.g0 g) (O.g0 g) (P.g0 g) (hs.g0 g) ht zd hbl (hr.ext g id)) (λx e=>by subst e;exact⟨aG V (by have:=i.size;omega),hF0⟩)) λv6 w6 Q=>⟨(by let⟨rfl,F2,U,u,l⟩:=Q;exact B.then u),?_⟩);obtain⟨rfl,F2,U,u,l⟩:=Q;have a:=a.ext u r;have f:=f.ext u s;have i:=i.then u;have r:=Aw r l3 l;have s:=Aw s l4 l;have hr:=Rt.ext hr u hF0;have hF0:=Aw hF0 zo l;obtain⟨y,hy⟩:∃y,y=Be D (uk t n) (vr t 0 b):=⟨_,Z⟩
 have C:=yj0 (vr t 0 b) (uk t n:Int) hok (zz1 t 0 b);rw[x7] at C;have ac:yr D t n b=if y.2≠0 then y else Be y.1 ((t%2:Nat):Int) [xq1 t n]:=by rw[hy];rfl
 rw[<-hy] at U C|-;rw[ac];have l:=Al (λx=> .inl) ab l;refine gl g5 1 Z (jd (j1 (jh (jn Z (jc Z (λhc=>?_) (λhc=>?_))))));rw[aM hc];exact jn Z (j6 (j2 (gp Z Z ⟨Z,F2,U,i,l⟩)));rw[aJ hc];refine vo (ki (j8 a Z Z (j3 f Z Z (gv g5 Z ?_))));rw[and1 t ht];refine gv g5 Z ?_;rw[jt ((t%2:Nat):Int) zo];refine gv g5 Z ?_;have ad:=i.size;have R:=zx3 t n;have S:=λE (g:Ext No w6 E)=>begin1_iter E (a.g0 g) (f.g0 g) Z zo ht (hr.ext g id);generalize xq1 t n=Hd at R S|-;exact g7 call71 Z (xj7 w6 (n:=n) (L:=[Hd]) (own:=λx=>x=W\/x=Y\/x=0) U C zb ((t%2:Nat):Int) zo (λx hx=>by rw[aE.1 hx];exact R) call146 S (λx e=>by rcases e with rfl|rfl|rfl;exact⟨a.lt,r⟩;exact⟨f.lt,s⟩;exact⟨hr.lt,hF0⟩)) λv7 w7⟨rfl,F4,h4,af,T⟩=> have i:=i.trans af λx hx e=>(l x e).resolve_right zo;vl Z (gp Z Z ⟨Z,F4,h4,i,Al l ad T⟩)
def zw (u : World) (H : Nat -> Prop) (v : Value) (b : Bytes) : Prop := ∃ p c, v = .slice p b.length c /\ b.length <= c /\ ux u p b /\ ∀ y off, p = some ⟨y, off, none⟩ -> H y /\ TyB u y 5
theorem zw.ext {S H:Nat->Prop} {u u':World} {v:Value} {b:Bytes} (h:zw u H v b) (hE:Ext S u u') (hS:∀y,H y->TyB u y 5->¬S y):zw u' H v b:=by
 let⟨p,c,f,g,i,d⟩:=h;exact⟨p,c,f,g,i.ext hE λy a e=>hS y (d y a e).1 (d y a e).2,λy a e=>⟨(d y a e).1,(d y a e).2.ext hE (hS y (d y a e).1 (d y a e).2)⟩⟩
theorem zw.mono {H H':Nat->Prop} {u:World} {v:Value} {b:Bytes} (h:zw u H v b) (hH:∀y,H y->H' y):zw u H' v b:=by
 let⟨p,c,f,g,i,d⟩:=h;exact⟨p,c,f,g,i,λy a e=>⟨hH y (d y a e).1,(d y a e).2⟩⟩
def qq (u : World) (H : Nat -> Prop) (ps : List Bytes) (rows : List Value) : Prop := rows.length = ps.length /\ ∀ (i : Nat) (b : Bytes) (v : Value), ps[i]? = some b -> rows[i]? = some v -> zw u H v b
theorem qq.ext {S H:Nat->Prop} {u u':World} {ps:List Bytes} {rows:List Value} (h:qq u H ps rows) (hE:Ext S u u') (hS:∀y,H y->TyB u y 5->¬S y):qq u' H ps rows:=⟨h.1,λi b v h1 h2=>(h.2 i b v h1 h2).ext hE hS⟩
theorem qq.mono {H H':Nat->Prop} {u:World} {ps:List Bytes} {rows:List Value} (h:qq u H ps rows) (hH:∀y,H y->H' y):qq u H' ps rows:=⟨h.1,λi b v h1 h2=>(h.2 i b v h1 h2).mono hH⟩
theorem qq.one {u:World} {H:Nat->Prop} {ps:List Bytes} {rows:List Value} (h:qq u H ps rows):∀v∈rows,v.oneCell'=true:=λv a=>by
 obtain⟨i,b,rfl⟩:=bF.1 a
 obtain⟨p,c,e,_⟩:=h.2 i (ps[i]'(by rw[<-h.1];exact b)) rows[i] zp zp
 rw[e];rfl
theorem qq.snoc {u:World} {H:Nat->Prop} {ps:List Bytes} {rows:List Value} (h:qq u H ps rows) {b:Bytes} {v:Value} (hv:zw u H v b):qq u H (ps++[b]) (rows++[v]):=by
 refine⟨by simp[h.1],λi e f a c=>?_⟩;rcases aZ i ps.length with d|d;rw[cN d] at a;rw[cN (by rw[h.1];exact d)] at c;exact h.2 i e f a c;rw[cE d] at a;rw[cE (by rw[h.1];exact d),h.1] at c;have g:i-ps.length=0:=by have:=(cU.1 a).1;simp at this;omega
 grind
theorem qq.drop {u:World} {H:Nat->Prop} {ps:List Bytes} {rows:List Value} (h:qq u H ps rows) (k:Nat):qq u H (ps.drop k) (rows.drop k):=
 ⟨by simp[h.1],λi b v a c=>h.2 (k+i) b v (by rw[List.getElem?_drop] at a;exact a) (by rw[List.getElem?_drop] at c;exact c)⟩
theorem qq.get {u:World} {H:Nat->Prop} {ps:List Bytes} {rows:List Value} (h:qq u H ps rows) {i:Nat} (hi:i<ps.length):∃p c,rows[i]? =some (.slice p (ps[i]).length c)/\(ps[i]).length<=c/\ux u p ps[i]/\∀y off,p=some ⟨y,off,none⟩->H y/\TyB u y 5:=by
 let⟨p,c,e,a⟩:=h.2 i ps[i] (rows[i]'(by rw[h.1];exact hi)) zp zp;exact⟨p,c,by rw[<-e];simp,a⟩
structure xh (u : World) (x d : Nat) (H : Nat -> Prop) (W : Wl) : Prop where
  box : ∃ q c rows, gu u x 162 [.pointer (some ⟨d, 0, none⟩), .int .i64 (W.size : Int), .int .u32 (W.turn : Int), .slice q W.pieces.length c, .int .i64 (W.used : Int), .bool W.broken] /\ Own u q W.pieces.length c 41 1 rows /\ qq u H W.pieces rows /\ ∀ y, j5 q y -> H y
  own : H x
  lt : ∀ y, H y -> y < u.heap.size
theorem xh.ext {S H:Nat->Prop} {u u':World} {x d:Nat} {W:Wl} (h:xh u x d H W) (hE:Ext S u u') (hS:∀y,H y->¬S y):xh u' x d H W:=by
 let⟨⟨q,c,a,g,i,j,e⟩,f,k⟩:=h;exact⟨⟨q,c,a,g.ext hE (hS x f),i.ext hE λy b=>hS y (e y b),j.ext hE λy b _=>hS y b,e⟩,f,λy b=>aG (k y b) hE.size⟩
theorem xh.g0 {H : Nat -> Prop} {u u' : World} {x d : Nat} {W : Wl} (h : xh u x d H W) (hE : Ext No u u') : xh u' x d H W := h.ext hE λ_ _ => id
theorem xh.data {H:Nat->Prop} {u:World} {x d:Nat} {W W':Wl} (h:xh u x d H W) (h1:W'.size=W.size) (h2:W'.turn=W.turn) (h3:W'.pieces=W.pieces) (h4:W'.used=W.used) (h5:W'.broken=W.broken):xh u x d H W':=by
 let⟨a,b,c⟩:=h;exact⟨by rw[h1,h2,h3,h4,h5];exact a,b,c⟩
structure Wl.Ok (W : Wl) : Prop where
  size : 4 <= W.size /\ W.size <= 1000
  secs : 2 + 2 * W.size <= W.D.secs.length
  turn : W.turn < 4294967296
  some : W.pieces ≠ []
  short : ∀ b ∈ W.pieces, b.length <= 40000
  few : W.pieces.length <= W.size
  used : W.used = uj W.pieces
  room : W.used <= W.size
theorem cloneB_nil (w:World) {c:Nat}:
  ge prog 35 [.slice none 0 c] w λv w'=>∃q k,v= .slice q 0 k/\Own w' q 0 k 5 1 []/\(∀y,j5 q y->w.heap.size<=y)/\Ext No w w':=by
 exact gt func35 (have a:=Ext.refl No w;uz Z (jn Z (Cy Z (jn Z (j6 (j2 (gp Z Z ⟨none,0,Z,Own.nil _ _ _,λy b=>(by cases b),a⟩)))))))
theorem cloneB_some (w:World) {a:Addr} {c:Nat} {l:Bytes} (h:ux w (some a) l) (hl:l.length<1000000000):
  ge prog 35 [.slice (some a) l.length c] w λv w'=>∃q k,v= .slice q l.length k/\Own w' q l.length k 5 1 (g6 l)/\(∀y,j5 q y->w.heap.size<=y)/\Ext No w w':=by
 refine gt func35 ?_;have b:=Ext.refl No w;refine uz Z (jn Z (qz Z (vo (ki (wl (kz g5 Z 1 Z Z Z zd zd trivial (l':=[]) Z λA B r f d s=>?_))))));have b:=b.g4 d;refine gv g5 Z (wl (ul g5 Z 1 1 Z Z Z zd (Own.blk (n:=0) (c:=0) f 1 Z (aA _) zd) (Src.slice (h.g0 b) OneC.h) zm zn λp t u g i j=>?_));have b:=b.trans i λy C m=>by have:=own1 m;omega
 have o:∀x,j5 p x->w.heap.size<=x:=λx z=>(j x z).elim (λm=>by have:=own1 m;omega) λh=>by have:=d.size;omega
 have e:Own u p (0+l.length) t 5 1 (g6 l):=g;rw[aX] at e;rw[aX];exact vl Z (gp Z Z ⟨_,_,Z,e,o,b⟩)
theorem Bb (w:World) {p:Option Addr} {c:Nat} {l:Bytes} (h:ux w p l) (hl:l.length<1000000000):
  ge prog 35 [.slice p l.length c] w λv w'=>∃q k,v= .slice q l.length k/\Own w' q l.length k 5 1 (g6 l)/\(∀y,j5 q y->w.heap.size<=y)/\Ext No w w':=by
 cases p with
 |none=>
  have d:l=[]:=by rcases h.2 with e|⟨b,f,g,_⟩;exact aT e;cases g
  subst d;exact cloneB_nil w
 |some a=>exact cloneB_some w h hl
theorem cloneP_nil (w:World) {c:Nat}:
  ge prog 138 [.slice none 0 c] w λv w'=>∃q k,v= .slice q 0 k/\Own w' q 0 k 41 1 []/\(∀y,j5 q y->w.heap.size<=y)/\Ext No w w':=by
 exact gt func138 (have a:=Ext.refl No w;uz Z (jn Z (Cy Z (jn Z (j6 (j2 (gp Z Z ⟨none,0,Z,Own.nil _ _ _,λy b=>(by cases b),a⟩)))))))
theorem cloneP_some (w:World) {a:Addr} {c:Nat} {n:Nat} {rows:List Value} (h:Sl w (some a) n 1 rows) (hl:n<1000000000) (h1:∀v∈rows,v.oneCell'=true):
  ge prog 138 [.slice (some a) n c] w λv w'=>∃q k,v= .slice q n k/\Own w' q n k 41 1 rows/\(∀y,j5 q y->w.heap.size<=y)/\Ext No w w':=by
 refine gt func138 ?_;have b:=Ext.refl No w;refine uz Z (jn Z (qz Z (vo (ki (wl (kz g5 Z 1 Z Z Z zd zd trivial (l':=[]) Z λz A p f d r=>?_))))));have b:=b.g4 d;refine gv g5 Z (wl (ul g5 Z 1 24 Z Z Z zd (Own.blk (n:=0) (c:=0) f 1 Z (aA _) zd) (Src.slice (h.g0 b) h1) zm zn λo s t g i j=>?_));have b:=b.trans i λy B l=>by have:=own1 l;omega
 have m:∀x,j5 o x->w.heap.size<=x:=λx u=>(j x u).elim (λl=>by have:=own1 l;omega) λh=>by have:=d.size;omega
 have e:Own t o (0+n) s 41 1 rows:=g;rw[aX] at e;rw[aX];exact vl Z (gp Z Z ⟨_,_,Z,e,m,b⟩)
theorem cloneP_calls (w:World) {p:Option Addr} {n c:Nat} {rows:List Value} (h:Sl w p n 1 rows) (hl:n<1000000000) (h1:∀v∈rows,v.oneCell'=true):
  ge prog 138 [.slice p n c] w λv w'=>∃q k,v= .slice q n k/\Own w' q n k 41 1 rows/\(∀y,j5 q y->w.heap.size<=y)/\Ext No w w':=by
 cases p with
 |none=>
  have d:n=0:=by rcases h.2 with f|⟨b,g,h1,_⟩;exact f;cases h1
  subst d;have e:rows=[]:=aT (by simpa using h.1);subst e;exact cloneP_nil w
 |some a=>exact cloneP_some w h hl h1
theorem yv2 (w:World) {x d:Nat} {H:Nat->Prop} {W:Wl} (h:xh w x d H W) (h1:W.size<1000000000) (h2:W.used<1000000000):
  ge prog 66 [.pointer (some ⟨x,0,none⟩)] w λv w'=>v= .int .i64 ((W.size:Int)-W.used)/\Ext No w w':=by
 let⟨⟨q,c,i,b,j,k,l⟩,m,n⟩:=h;refine gt func66 (have f:=Ext.refl No w;uz Z (jn Z (qz Z (vo (gh (jl Z 11 [qP 0,qP 1,qP 2,qP 3,qP 4,qP 5,qP 6,qP 7,qP 8,qP 9,qP 10] [] (No) zk λp g o=> have e:=f;have f:=f.g4 g;gl g5 4 Z (gy g5 Z Z (λw' a=>((b.g0 (e.g4 a)).cell Z)) (gl g5 3 Z (gy g5 Z Z (λw' a=>((b.g0 (e.g4 a)).cell Z)) (gl g5 2 Z ?_))))))))));rw[jt _ zo];exact jd (j1 (jh (j6 (gp Z Z ⟨Z,f⟩))))
theorem turn_calls (w:World) {x d:Nat} {H:Nat->Prop} {W:Wl} (h:xh w x d H W):
  ge prog 85 [.pointer (some ⟨x,0,none⟩)] w λv w'=>v= .int .u32 (W.turn:Int)/\Ext No w w':=by
 let⟨⟨q,c,b,a,e,f,g⟩,i,j⟩:=h;exact gt func85 (have k:=Ext.refl No w;uz Z (jn Z (qz Z (vo (jy Z (gj Z (a.cell Z) (gv g5 Z (ga (jh (j6 (gp Z Z ⟨Z,k⟩)))))))))))
theorem yw5 (w:World) {x d:Nat} {H:Nat->Prop} {W:Wl} (h:xh w x d H W):
  ge prog 69 [.pointer (some ⟨x,0,none⟩)] w λv w'=>v= .bool W.broken/\Ext No w w':=by
 let⟨⟨q,c,e,a,g,i,j⟩,k,l⟩:=h;refine gt func69 (have m:=Ext.refl No w;jn Z (jb (α:=Bool) [] Z (λz=>[(2,.bool z)]) (λz u=>u=w/\z=W.broken) ?_ ?_));refine gr (gv g5 Z (qy 5 Z (λf=>?_) (λf=>?_)));exact gm g5 3 Z (gj Z (a.cell Z) (gv g5 Z (ga (gk (_) Z ⟨Z,Z⟩))));cases f;rintro z n ⟨b,rfl⟩;have b:=b.symm;subst b;exact j6 (gp Z Z ⟨Z,m⟩)
theorem ready_calls (w:World) {x d:Nat} {H:Nat->Prop} {W:Wl} (h:xh w x d H W) {p:Option Addr} {n k:Nat}:
  ge prog 116 [.pointer (some ⟨x,0,none⟩),.slice p n k] w λv w'=>v= .int .i64 (if 40000<n then 3 else if W.broken=true then 8 else 0)/\Ext No w w':=by
 let⟨⟨q,c,f,b,g,i,j⟩,l,m⟩:=h;refine gt func116 (have e:=Ext.refl No w;uz Z (j0 (jn Z (qz Z (jn Z (jc Z (λa=>?_) (λa=>?_)))))));rw[aM zo];exact jn Z (j6 (u0 (j2 (gp Z Z ⟨Z,e⟩))));rw[aJ zo];refine jy Z (gj Z (b.cell Z) (k9 Z (u5 Z (λa=>?_) (λa=>?_))));rw[aM a];exact jn Z (j6 (u0 (j2 (gp Z Z ⟨Z,e⟩))));rw[aJ (by rw[a];decide)];exact jw (jm (jh (jn Z (j6 (gp Z Z ⟨Z,e⟩)))))
theorem zj1 (w:World) {x d:Nat} {H:Nat->Prop} {W:Wl} (h:xh w x d H W) (hne:0<W.pieces.length) (hsh:(W.pieces[0]).length<1000000000):
  ge prog 59 [.pointer (some ⟨x,0,none⟩)] w λv w'=>∃q k,v= .slice q (W.pieces[0]).length k/\Own w' q (W.pieces[0]).length k 5 1 (g6 W.pieces[0])/\(∀y,j5 q y->w.heap.size<=y)/\Ext No w w':=by
 let⟨⟨q,c,a,e,f,g,u⟩,z,A⟩:=h;let⟨J,K,i,B,j,_⟩:=g.get hne;obtain⟨m,rfl,n⟩:∃m,q=some ⟨m,0,none⟩/\Seg w m 0 a:=by rcases f with⟨_,L,_⟩|⟨b,l,C,D,_,_,_,E⟩;omega;exact⟨b,C,by rw[<-E];exact D.kc.take _⟩
 refine gt func59 ?_;have o:=Ext.refl No w;refine uz Z (jn Z (qz Z (vo (jy Z (gj Z (e.cell Z) (jo Z 1 Z 0 Z hne (0+0*1) Z (gj Z (n 0 _ i) (g7 call35 Z (Bb w j hsh) ?_))))))));rintro M N⟨F,G,rfl,r,s,t⟩;have o:=o.g4 t;refine vl Z (gp Z Z ?_);exact⟨F,G,Z,r,s,o⟩
def AllA (ps : List Bytes) (k : Nat) (vs : Array Value) (X : Nat -> Prop) (W : World) : Prop := ∃ q c, vs = #[.int .i64 ((k : Int) + 1), .slice q (ps.getD k []).length c] /\ Own W q (ps.getD k []).length c 5 1 (g6 (ps.getD k [])) /\ X = j5 q
theorem AllA.size {ps:List Bytes} (k:Nat) (vs:Array Value) (X:Nat->Prop) (W:World) (h:AllA ps k vs X W):vs.size=2:=by
 obtain⟨q,c,rfl,_⟩:=h;rfl
theorem all1_walk (w:World) {l b c:Nat} {q:Option Addr} {ps:List Bytes} {rows:List Value} {H F:Nat->Prop} {J Jx:Nat->(Nat->Prop)->World->Prop} (hCo:ConsV prog l w.heap.size ps.length (AllA ps) J Jx) (hb:gu w b 80 [.slice q ps.length c]) (hs:Sl w q ps.length 1 rows) (hps:qq w H ps rows)
  (hq:∀y off,q=some ⟨y,off,none⟩->ps.length≠0->y<w.heap.size/\¬F y) (hH:∀y,H y->y<w.heap.size/\¬F y) (hl:ps.length<1000000000) (hsh:∀x∈ps,x.length<1000000000) (h0:J 0 F w):
  ge prog 139 [.func (.yield l) #[] #[],.pointer (some ⟨b,0,none⟩)] w λ_ w'=>ItQ w F ps.length J Jx w':=by
 refine gt func139 ?_;have f:=Ext.refl F w;refine ki (gj Z (hb.cell Z) (k9 Z (j0 (ja (α:=Nat×(Nat->Prop)) [0,5,6] Z (λz=>[(7,.int .i64 (z.1:Int))]) (λz u=>(z.1<=ps.length/\J z.1 z.2 u/\(∀x,z.2 x->F x\/w.heap.size<=x)/\Sl u q ps.length 1 rows/\qq u H ps rows)/\Ext F w u) (λz u=>ps.length-z.1) (0,F) Z ⟨⟨aF _,h0,λx i=> .inl i,hs,hps⟩,f⟩ ?_))));rintro⟨k,G⟩ T ⟨⟨hk,j,n,hs,hps⟩,f⟩;refine uz Z (jc Z (λo=>?_) (λo=>?_));have a:k<ps.length:=by omega
 let⟨pk,ck,p,C,r,V⟩:=hps.get a;have s:ps.getD k []=ps[k]:=by simp[a]
 rw[<-s] at p C r;have D:(ps.getD k []).length<1000000000:=by rw[s];exact hsh _ (aC a)
 obtain⟨B,t,rfl,E⟩:∃B t,q=some ⟨B,t,none⟩/\Seg T B t rows:=by rcases hs.2 with h0|⟨W,off,X,Y⟩;omega;exact⟨W,off,X,Y⟩
 obtain⟨I,K⟩:=hq B t Z zo;refine yz (jy Z (jo Z 1 Z k Z a (t+k*1) Z (gj Z (by rw[aY];exact E k _ p) (k9 Z (gh (c_regionI (wlw_p Z g5 Z ?_)))))));rw[jt _ zo];have v:=hCo.lt j;have aa:=f.size;refine wlw Z (gx call35 Z (Bb T r D) ?_);rintro v2 w2⟨U,k2,rfl,M,d,g⟩;have j:=hCo.st j g λ_ e=>e.elim;have hs:=hs.g0 g;have hps:=hps.ext g λ_ _ _=>id;have f:=f.g4 g;refine wli_yield Z Z Z Z Z Z (hCo.round j a _ (j5 U) ⟨U,k2,Z,M,Z⟩ (λx i=>⟨by have:=d x i;omega,λe=>by have:=d x i;have:=v x e;omega⟩)) λy w3 N=>?_;let⟨O,m,P,Q,R⟩:=N;have ab:=f.size;have f:=f.trans m λx i e=>by rcases e with e|e;exact(n x e).resolve_right zo;have:=d x e;omega
 have A:∀x,O x->F x\/w.heap.size<=x:=λx i=>by rcases P x i with h|h|h;exact n x h;exact .inr (by have:=d x h;omega);exact .inr zo
 have hs:=hs.ext m λb off e h=>by cases e;rcases h with h|h;exact(n _ h).elim K zo;have:=d _ h;omega
 have hps:=hps.ext m λy N _ h=>by have h3:=hH y N;rcases h with h|h;exact(n _ h).elim h3.2 zo;have:=d _ h;omega
 refine wlw_p Z g5 Z (zv (jh (u5 Z (λo=>?_) (λo=>?_))));have S:=R (by simpa using o);exact j6 (u0 (j2 (j2 (u0 (f_ret0 Z ⟨O,f,A,.inr ⟨k,a,S⟩⟩)))));have j:=Q (by simpa using o);refine jw (yt Z ?_);rw[jt _ zo];exact ga (j9 (k+1,O) Z ⟨⟨a,j,A,hs,hps⟩,f⟩ zf);have a:k=ps.length:=by omega
 subst a;exact vw (ke (ke (qu (yq Z ⟨G,f,n,.inl j⟩))))
theorem all1_iter (w:World) {b c:Nat} {q:Option Addr} {ps:List Bytes} {rows:List Value} {H:Nat->Prop} (hb:gu w b 80 [.slice q ps.length c]) (hs:Sl w q ps.length 1 rows) (hps:qq w H ps rows)
  (hq:∀y off,q=some ⟨y,off,none⟩->ps.length≠0->y<w.heap.size) (hH:∀y,H y->y<w.heap.size) (hl:ps.length<1000000000) (hsh:∀x∈ps,x.length<1000000000):
  IterV prog 139 [.pointer (some ⟨b,0,none⟩)] ps.length (AllA ps) (λy=>(∃off,q=some ⟨y,off,none⟩/\ps.length≠0)\/H y) w:=
 λ_ _ _ _ f g a=>all1_walk w f hb hs hps (λy off e h=>⟨hq y off e h,a y (.inl ⟨off,e,h⟩)⟩) (λy d=>⟨hH y d,a y (.inr d)⟩) hl hsh g
theorem all_calls (w:World) {x d:Nat} {H:Nat->Prop} {W:Wl} (h:xh w x d H W) (hne:0<W.pieces.length) (hn:W.pieces.length<1000000000):
  ge prog 62 [.pointer (some ⟨x,0,none⟩)] w λv w'=>∃b q c rows,v= .func (.func 139) #[] #[.pointer (some ⟨b,0,none⟩)]/\gu w' b 80 [.slice q (W.pieces.drop 1).length c]/\Sl w' q (W.pieces.drop 1).length 1 rows/\qq w' H (W.pieces.drop 1) rows/\w.heap.size<=b/\(∀y off,q=some ⟨y,off,none⟩->(W.pieces.drop 1).length≠0->w.heap.size<=y/\y<w'.heap.size)/\Ext No w w':=by
 let⟨⟨q,c,rows,E,m,i,P⟩,Q,R⟩:=h;have g:=m.cap;have n:=i.one;refine gt func62 (have f:=Ext.refl No w;jn Z (ki (gn Z λC O F a o=> have p:=Nat.le_trans f.size F;have f:=f.g4 o;have a:gu O C 80 ([.slice none 0 0]):=a;qi (jb (α:=Option Addr×Nat×List Value) [3] Z (λz=>[]) (λz u=>(Sl u z.1 (W.pieces.drop 1).length 1 z.2.2/\qq u H (W.pieces.drop 1) z.2.2/\∀y off,z.1=some ⟨y,off,none⟩->(W.pieces.drop 1).length≠0->w.heap.size<=y/\y<u.heap.size)/\gu u C 80 ([.slice z.1 (W.pieces.drop 1).length z.2.1])/\Ext No w u) ?_ ?_))));refine gh (gr (k9 Z (Cy Z (xt Z (gj Z ((E.g0 f).cell Z) (wl (Ay g5 Z 1 W.pieces.length c 1 Z (.inr ⟨Z,Z⟩) (.inr ⟨Z,Z⟩) (.inl Z) hne g (aA _) ?_)))))));have r:=(m.sl.g0 f).slice 1 W.pieces.length c hne g (aA _);rw[Nat.one_mul,aY,aL (by rw[aW,i.1];exact aA _)] at r;have X:=a.lt;refine g7 call138 Z (cloneP_calls O r zo (λv S=>n v (List.mem_of_mem_drop S))) ?_;rintro Y G⟨J,K,rfl,s,t,A⟩;have a:=a.g0 A;have f:=f.g4 A;refine ka a Z Z Z λw3 a j T=>?_;have f:=f.g8 j p;refine ga ?_;have L:W.pieces.length-1=(W.pieces.drop 1).length:=by simp
 rw[L] at a;exact gk (J,K,rows.drop 1) Z ⟨⟨by rw[aW];exact(s.ext j (λy U e=>by have e:y=C:=e;have:=t y U;omega)).sl,((i.ext f λ_ _ _=>id).drop 1),λy off e _=>by rcases s with⟨D,_⟩|⟨b',l,D,V,_⟩;rw[D] at e;cases e;rw[D] at e;cases e;exact⟨by have:=t _ D;have:=o.size;omega,aG V.lt j.size⟩⟩,a,f⟩;rintro⟨J,K,k⟩ w4 ⟨⟨M,B,N⟩,a,f⟩;exact jn Z (j6 (gp Z Z ⟨C,J,K,k,Z,a,M,B,p,N,f⟩))
end Go.Proofs.YtpdiphfjmepijaaGreatDoor
