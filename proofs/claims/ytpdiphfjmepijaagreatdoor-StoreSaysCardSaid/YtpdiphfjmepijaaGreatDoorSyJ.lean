/-
  which store a log of whatever bytes says (StoreSays)
-/
import Derived.Test.YtpdiphfjmepijaaGreatDoorTie
import Derived.Test.YtpdiphfjmepijaaGreatDoorCards
import Derived.SevenTiedAt
import Derived.Test.YtpdiphfjmepijaaGreatDoorSyI
open List renaming flatMap_singleton→bB,getElem_map→bD,map_append→bE,mem_iff_getElem→bF,mem_map→bL,mem_map_of_mem→cI,flatMap_cons→cZ,all_eq_true→dC,map_cons→dD,mem_cons→dK
open Int renaming natCast_nonneg→cT
namespace Go.Proofs.YtpdiphfjmepijaaGreatDoor
open Go.Proofs.Tryz
open Go.Vc
theorem at_ge {l:List IdB} {x:IdB}:0<=atI l x↔x∈l:=by
 unfold atI;by_cases h:x∈l;rw[aM h];exact⟨λ_=>h,λ_=>cT _⟩
 rw[aJ h];exact⟨λe=>absurd e zd,λe=>absurd e h⟩
theorem fit10 {l:List yp} {s:yu} (h:Cj s):Cp l s↔(A5 l s.name).isSome=s.was/\(A5 l s.name).getD []=s.old:=by
 have a:=h.2.2.1.2;unfold Cp;cases A5 l s.name<;>cases hw:s.was;simp only[Option.isSome_none,Option.getD_none,true_and];refine iff_of_true Z ?_;rcases a with e|e;rw[hw] at e;cases e;exact(aT e).symm;simp;simp;simp
theorem valN_put {l:List yp} {s:yu} {n:Str} (h:s.name≠n):A5 (zv3 l s) n=A5 l n:=by
 have b:∀l:List yp,List.find? (λv=>decide (v.1=n)) (l.filter (λv=>decide (C2 v.1 s.name)))=if C2 n s.name then l.find? (λv=>decide (v.1=n)) else none:=λl=>by
  rw[List.find?_filter];induction l with
  |nil=>split<;>rfl
  |cons a r ih=>
   by_cases e:a.1=n;by_cases k:C2 n s.name;simp[e,k];rw[aJ k] at ih|-;simp[e,k] at ih|-;exact ih;simp[e] at ih|-;exact ih
 have c:∀l:List yp,List.find? (λv=>decide (v.1=n)) (l.filter (λv=>decide (C2 s.name v.1)))=if C2 s.name n then l.find? (λv=>decide (v.1=n)) else none:=λl=>by
  rw[List.find?_filter];induction l with
  |nil=>split<;>rfl
  |cons a r ih=>
   by_cases e:a.1=n;by_cases k:C2 s.name n;simp[e,k];rw[aJ k] at ih|-;simp[e,k] at ih|-;exact ih;simp[e] at ih|-;exact ih
 have d:List.find? (λv:yp=>decide (v.1=n)) (if s.is then [(s.name,s.new)] else [])=none:=by split<;>simp[h]
 unfold A5 zv3;rw[List.find?_append,List.find?_append,b,c,d];congr 1;rcases xv3 n s.name with k|k|k;rw[aM k,aJ (Bz k)];simp;exact absurd k.symm h;rw[aJ (Bz k),aM k];simp
theorem bring_val {n:Str}:∀{ts:List yu} {l v:List yp},z8 l ts=some v->(∀s∈ts,s.name≠n)->A5 v n=A5 l n
 | [],l,v,h,_=>by cases h;rfl
 |t::ts,l,v,h,hn=>by
  have h:ts.foldl seS (if Cp l t then some (zv3 l t) else none)=some v:=h
  by_cases k:Cp l t
  ·rw[aM k] at h
   exact(bring_val h λs b=>hn s (cL _ b)).trans (valN_put (hn t (dE ..)))
  rw[aJ k] at h
  have e:∀ts:List yu,ts.foldl seS none=none:=λts=>by induction ts with
   |nil=>rfl
   |cons a r ih=>exact ih
  rw[e] at h;cases h
theorem fit_run {l v:List yp} {ss:List yu} {i:Nat} (hi:i<ss.length) (hd:(ss.map yu.name).Nodup) (h:z8 l (ss.take i)=some v):Cp v ss[i]↔Cp l ss[i]:=by
 unfold Cp;rw[bring_val h λs b e=>?_];obtain⟨k,c,rfl⟩:=bF.1 b;have a:k<i:=by rw[aK] at c;omega
 rw[List.getElem_take] at e;have:=(List.pairwise_iff_getElem.1 hd) k i (by rw[aB];omega) (by rw[aB];exact hi) a;rw[bD,bD] at this;exact this e
theorem after_all1 {s : C3} {b : Bu} (h : y8 s.row b.objs = none) : jp s b = (s, D6, 4) := by rw [jp, h]
theorem after_all2 {s:C3} {b:Bu} {p:List jr×List jr} (h:y8 s.row b.objs=some p) (k:z8 s.vals b.sets=none):jp s b=(s,D6,200):=by rw[jp,h,k]
structure AftQ (w w' : World) (H : Nat -> Prop) (s : yb) (B : qv) (S : yb) (F : qv) : Prop where
  st : S.s = (jp s.s B.d).1
  fr : F.d = (jp s.s B.d).2.1
  at_ : C8 w' S
  in_ : zv0 (Grow H w w') S
  bat : C1 w' F
theorem noBat_at (u : World) : C1 u um := ⟨Sl.nil _ _ _, Sl.nil _ _ _, λ_ e => (by cases e), λ_ e => (by cases e), by decide, by decide⟩
theorem AftQ.no {w w':World} {H:Nat->Prop} {s:yb} {B:qv} {e:Int} (k:jp s.s B.d=(s.s,D6,e)) (h:C8 w s) (hI:zv0 H s) (hX:Ext No w w'):AftQ w w' H s B s um:=⟨by rw[k],by rw[k];rfl,h.g0 hX,hI.mono λ_ e=> .inl e,noBat_at _⟩
theorem grow_two {H:Nat->Prop} {W u v u':World} (h1:u.heap.size<=u'.heap.size) (h2:W.heap.size<=v.heap.size):∀y,Grow (Grow H W u) v u' y->Grow H W u' y:=
 λ_ e=>e.elim (λe=>e.imp id λe=>⟨e.1,aG e.2 h1⟩) λe=> .inr ⟨Nat.le_trans h2 e.1,e.2⟩
theorem after10_calls (w:World) {H:Nat->Prop} {s:yb} (h:C8 w s) (hI:zv0 H s) (hH:∀y,H y->y<w.heap.size) {B:qv} (hB:C1 w B) (hBI:∀x∈B.os,InH x.2.lp H/\InH x.2.pp H/\InH x.2.rp H) (hok:Ad B.d) (hfo:s.hs.length+B.os.length<1000000) (hfv:s.vs.length+B.ss.length<1000000):
  ge prog 152 [s.v,B.v] w λv w'=>∃(S:yb) (F:qv),v= .tuple #[S.v,F.v,.int .i64 (jp s.s B.d).2.2]/\AftQ w w' H s B S F/\Ext No w w':=by
 obtain⟨op,oc,os,sp,sc,ss⟩:=B;dsimp only at hfo hfv hBI;have e8:=h.few;have e9:=h.fev;refine gt func152 ?_;have A:=Ext.refl No w;refine ki (gn Z λb2 w1 fx p d4=>?_);have A:=A.g4 d4;have p:gu w1 b2 102 (s.c):=p;refine gn Z λb3 w2 fy r db=>?_;have p:=p.g0 db;have A:=A.g4 db;have r:gu w2 b3 25 ([.slice op os.length oc,.slice sp ss.length sc]):=r;refine gn Z λb4 w3 d5 f cy=>?_;have bb:=Nat.le_trans A.size d5;have p:=p.g0 cy;have r:=r.g0 cy;have A:=A.g4 cy;have f:gu w3 b4 102 ([.slice none 0 0,.slice none 0 0]):=f;refine gn Z λb5 w4 dc g bv=>?_;have P:=gw f.lt dc;have bc:=Nat.le_trans A.size dc;have p:=p.g0 bv;have r:=r.g0 bv;have f:=f.g0 bv;have A:=A.g4 bv;have g:gu w4 b5 25 ([.slice none 0 0,.slice none 0 0]):=g;refine k9 Z (jn Z (jy Z (gj Z (p.cell Z) ?_)));have E:jj w w4 none 0 0 126 105 []:=jj.nil _ _ _ _;have ap:=E.own;refine wl (vu g5 Z 105 224 Z Z Z zd E (Src.slice (h.row.g0 A) OneC.h) zm zn (n':=s.hs.length) (ys:=s.hs.flatMap ut) (aX _) Z A λq c w5 E bd A=>?_);dsimp only at E bd;have p:=p.jq ap bd (show(126:Nat)≠102 from by decide);have r:=r.jq ap bd (show(126:Nat)≠25 from by decide);have f:=f.jq ap bd (show(126:Nat)≠102 from by decide);have g:=g.jq ap bd (show(126:Nat)≠25 from by decide);refine k9 Z (jy Z (j3 r Z Z (jv Z ⟨⟨Z,by decide⟩,trivial⟩ (l':=[.slice none 0 0,.slice sp ss.length sc]) Z (gn Z λb8 w6 bf t a6=>?_))));have bg:=gw p.lt bf;have bh:=gw r.lt bf;have bi:=gw f.lt bf;have bj:=gw g.lt bf;have dd:=Nat.le_trans A.size bf;have p:=p.g0 a6;have r:=r.g0 a6;have f:=f.g0 a6;have g:=g.g0 a6;have E:=E.g0 a6;have A:=A.g4 a6;have t:gu w6 b8 25 ([.slice none 0 0,.slice none 0 0]):=t;have a4:=t;refine wl (gz (l':=[.slice none 0 0,.slice sp ss.length sc]) g5 t Z Z Z Z OneC.h λw7 t a7 fz=>?_);have p:=p.g9 a7 bg;have r:=r.g9 a7 bh;have f:=f.g9 a7 bi;have g:=g.g9 a7 bj;have E:=E.g9 a7 a4 zd;have A:=A.g8 a7 dd;refine qi (gh (jn Z (j0 (ja (α:=Nat×Option Addr×Nat×List jk×Option Addr×Nat×List xq6) [2,3,4,5,8] Z (λz=>[(7,.slice z.2.1 z.2.2.2.1.length z.2.2.1),(9,.int .i64 (z.1:Int))]) (λz u=>(z.1<=os.length/\jj w u z.2.1 z.2.2.2.1.length z.2.2.1 126 105 (z.2.2.2.1.flatMap ut)/\jj w u z.2.2.2.2.1 z.2.2.2.2.2.2.length z.2.2.2.2.2.1 37 73 (z.2.2.2.2.2.2.flatMap B2)/\(∀x∈z.2.2.2.1,xz8 w x/\InH x.a.lp H/\InH x.a.pp H/\InH x.a.rp H)/\y8 s.s.row ((os.map Prod.fst).take z.1)=some (z.2.2.2.1.map jk.o,z.2.2.2.2.2.2.map Prod.fst)/\z.2.2.2.1.length<=s.hs.length+z.1/\(∀x∈z.2.2.2.2.2.2,x∈os)/\z.2.2.2.2.2.2.length<=z.1)/\gu u b2 102 (s.c)/\gu u b3 25 ([.slice op os.length oc,.slice sp ss.length sc])/\gu u b4 102 ([.slice none 0 0,.slice none 0 0])/\gu u b5 25 ([.slice none 0 0,.slice none 0 0])/\gu u b8 25 ([.slice z.2.2.2.2.1 z.2.2.2.2.2.2.length z.2.2.2.2.2.1,.slice sp ss.length sc])/\Ext No w u) (λz u=>os.length-z.1) (0,q,c,s.hs,none,0,[]) Z ⟨⟨aF _,E,jj.nil _ _ _ _,λx K=>⟨h.o x K,hI.o x K⟩,Z,aA _,λ_ h=>(by cases h),aA _⟩,p,r,f,g,t,A⟩ ?_))));rintro⟨i,q,c,D,fq,fc,fs⟩ w8 ⟨⟨d6,E,G,ag,ax,bw,a1,a8⟩,p,r,f,g,t,A⟩;try dsimp only
 dsimp only at d6 E G ag ax bw a1 a8 t;refine gh (jy Z (j3 r Z Z (k9 Z (jc Z (λhc=>?_) (λhc=>?_)))));have ay:i<os.length:=by omega
 have de:i<(os.map Prod.fst).length:=by rw[aB];exact ay
 have d7:(os.map Prod.fst)[i]=os[i].1:=bD ..;have O:=brO_put de ax;rw[d7] at O;dsimp only at O;have J:=hB.o _ (aC ay);have df:xf os[i].1:=hok.2.2.1 _ (cI (aC ay));obtain⟨qb,qo,hp,cz⟩:=hB.os.km (λx K=>gi (hB.o x K).i) zn;dsimp only at hp;subst hp;have bk:uc (xj os[i].1):=qm _;have dg:∀x∈D,uc x.id/\(ut x).length=105:=λx K=>⟨by rw[(ag x K).1.id];exact qm _,(ag x K).1.len⟩
 have ck:D.map jk.id=u1 (D.map jk.o):=by rw[u1,List.map_map];exact List.map_congr_left λx K=>(ag x K).1.id
 refine vo (jb (α:=Option Addr×Nat×List jk×Option Addr×Nat×List xq6) [2,3,4,5,8,9] Z (λz=>[(7,.slice z.1 z.2.2.1.length z.2.1)]) (λz u=>(jj w u z.1 z.2.2.1.length z.2.1 126 105 (z.2.2.1.flatMap ut)/\jj w u z.2.2.2.1 z.2.2.2.2.2.length z.2.2.2.2.1 37 73 (z.2.2.2.2.2.flatMap B2)/\(∀x∈z.2.2.1,xz8 w x/\InH x.a.lp H/\InH x.a.pp H/\InH x.a.rp H)/\y8 s.s.row ((os.map Prod.fst).take (i+1))=some (z.2.2.1.map jk.o,z.2.2.2.2.2.map Prod.fst)/\z.2.2.1.length<=s.hs.length+(i+1)/\(∀x∈z.2.2.2.2.2,x∈os)/\z.2.2.2.2.2.length<=(i+1))/\gu u b2 102 (s.c)/\gu u b3 25 ([.slice (some ⟨qb,qo,none⟩) os.length oc,.slice sp ss.length sc])/\gu u b4 102 ([.slice none 0 0,.slice none 0 0])/\gu u b5 25 ([.slice none 0 0,.slice none 0 0])/\gu u b8 25 ([.slice z.2.2.2.1 z.2.2.2.2.2.length z.2.2.2.2.1,.slice sp ss.length sc])/\Ext No w u) ?_ ?_);refine j0 (jy Z (j3 r Z Z (gv g5 Z (jo Z 73 Z i Z ay (qo+i*73) Z (je Z ((cz i ay).g0 A) (gi J.i) ?_)))));have d8:=G;refine gn Z λdh w9 aq C az=>?_;have bx:=gw p.lt aq;have bz:=gw r.lt aq;have b0:=gw f.lt aq;have b1:=gw g.lt aq;have b6:=gw t.lt aq;have di:=Nat.le_trans A.size aq;have p:=p.g0 az;have r:=r.g0 az;have f:=f.g0 az;have g:=g.g0 az;have t:=t.g0 az;have E:=E.g0 az;have G:=G.g0 az;have A:=A.g4 az;have a5:∀y,j5 fq y->y≠dh:=λy hy=>gw (d8.own.lt hy) aq;have c0:=C;refine wl (gz (l':=js os[i].1 os[i].2) g5 C Z Z (gi J.i) (by rw[gi J.i];rfl) OneC.h λd9 C ai fa=>?_);have p:=p.g9 ai bx;have r:=r.g9 ai bz;have f:=f.g9 ai b0;have g:=g.g9 ai b1;have t:=t.g9 ai b6;have E:=E.g9 ai c0 zd;have G:=jj.mk (G.own.ext ai λy hy e=>a5 y hy e) G.new;have A:=A.g8 ai di;refine qi (ki (j8 C Z (gi J.i) (g7 call50 Z (id6_calls d9 J.i (J.l.g0 A) (bytes_of df.1)) ?_)));rintro f0 f1⟨rfl,ab⟩;have p:=p.g0 ab;have r:=r.g0 ab;have f:=f.g0 ab;have g:=g.g0 ab;have t:=t.g0 ab;have C:=C.g0 ab;have E:=E.g0 ab;have G:=G.g0 ab;have A:=A.g4 ab;refine gn Z λea f2 ar L ac=>?_;have b7:=gw p.lt ar;have b9:=gw r.lt ar;have ca:=gw f.lt ar;have cb:=gw g.lt ar;have cc:=gw t.lt ar;have bm:=gw C.lt ar;have dk:=Nat.le_trans A.size ar;have p:=p.g0 ac;have r:=r.g0 ac;have f:=f.g0 ac;have g:=g.g0 ac;have t:=t.g0 ac;have C:=C.g0 ac;have E:=E.g0 ac;have G:=G.g0 ac;have A:=A.g4 ac;have bn:=L;refine wl (gz (l':=g6 (xj os[i].1)) g5 L Z Z bk.len (by rw[bk.len];rfl) OneC.h λeb L ad fb=>?_);have p:=p.g9 ad b7;have r:=r.g9 ad b9;have f:=f.g9 ad ca;have g:=g.g9 ad cb;have t:=t.g9 ad cc;have C:=C.g9 ad bm;have E:=E.g9 ad bn zd;have G:=G.g9 ad bn zd;have A:=A.g8 ad dk;refine qi (gh (jy Z (j8 L Z bk.len (g7 call123 Z (at10_calls eb E.sl dg zo bk) ?_))));rintro f3 ec⟨rfl,U⟩;have p:=p.g0 U;have r:=r.g0 U;have f:=f.g0 U;have g:=g.g0 U;have t:=t.g0 U;have C:=C.g0 U;have L:=L.g0 U;have E:=E.g0 U;have G:=G.g0 U;have A:=A.g4 U;rw[ck];refine k9 Z (jc Z (λhc=>?_) (λhc=>?_));have ed:=at_ge.1 hc;rw[show zx2 (D.map jk.o) os[i].1=(true,0,D.map jk.o) from aM ed,aM Z,aM Z] at O;refine vw ?_;exact ke (qu (gk (q,c,D,fq,fc,fs) Z ⟨⟨E,G,ag,O,by dsimp only;omega,a1,Nat.le_succ_of_le a8⟩,p,r,f,g,t,A⟩));have cm:xj os[i].1∉u1 (D.map jk.o):=λe=>hc (at_ge.2 e);refine vo (ki (j8 C Z (gi J.i) ?_));have dn:=A;refine g7 call191 Z (links6_calls ec J.i (J.l.g0 A) J.s) ?_;rintro f4 ee⟨lq,lk,rfl,a0,dq,V⟩;have p:=p.g0 V;have r:=r.g0 V;have f:=f.g0 V;have g:=g.g0 V;have t:=t.g0 V;have C:=C.g0 V;have L:=L.g0 V;have E:=E.g0 V;have G:=G.g0 V;have A:=A.g4 V;have f5:=links_short J.s;have a0:jj w ee lq (k8 os[i].1).length lk 30 32 _:=⟨a0,λy hy=>Nat.le_trans dn.size (dq y hy)⟩
 refine k9 Z (gh (jn Z (j0 (ja (α:=Nat) [2,3,4,5,7,8,9,10,11,12] Z (λz=>[(13,.int .i64 (z:Int))]) (λz u=>(z<=(k8 os[i].1).length/\(∀y∈(k8 os[i].1).take z,y∈u1 (D.map jk.o))/\jj w u lq (k8 os[i].1).length lk 30 32 ((k8 os[i].1).flatMap g6)/\jj w u q D.length c 126 105 (D.flatMap ut)/\jj w u fq fs.length fc 37 73 (fs.flatMap B2))/\gu u b2 102 (s.c)/\gu u b3 25 ([.slice (some ⟨qb,qo,none⟩) os.length oc,.slice sp ss.length sc])/\gu u b4 102 ([.slice none 0 0,.slice none 0 0])/\gu u b5 25 ([.slice none 0 0,.slice none 0 0])/\gu u b8 25 ([.slice fq fs.length fc,.slice sp ss.length sc])/\gu u dh 37 (js os[i].1 os[i].2)/\gu u ea 30 (g6 (xj os[i].1))/\Ext No w u) (λz u=>(k8 os[i].1).length-z) (0) Z ⟨⟨aF _,λ_ h=>(by cases h),a0,E,G⟩,p,r,f,g,t,C,L,A⟩ ?_))));rintro j ef ⟨⟨hj,bp,a0,E,G⟩,p,r,f,g,t,C,L,A⟩;refine gh (jn Z (jc Z (λhc=>?_) (λhc=>?_)));have a9:j<(k8 os[i].1).length:=by omega
 have cn:uc (k8 os[i].1)[j]:=links_in J.i _ (aC a9);obtain⟨lb,lo,eg,eh⟩:=a0.sl.km (λy hy=>(links_in J.i y hy).len) zo;subst eg;refine yz (jy Z (jo Z 32 Z j Z a9 (lo+j*32) Z (je Z (eh j a9) cn.len (g7 call123 Z (at10_calls ef E.sl dg zo cn) ?_))));rintro f6 f7⟨rfl,Q⟩;have p:=p.g0 Q;have r:=r.g0 Q;have f:=f.g0 Q;have g:=g.g0 Q;have t:=t.g0 Q;have C:=C.g0 Q;have L:=L.g0 Q;have E:=E.g0 Q;have G:=G.g0 Q;have a0:=a0.g0 Q;have A:=A.g4 Q;rw[ck];refine k9 Z (jc Z (λhc=>?_) (λhc=>?_));have bq:(k8 os[i].1)[j]∉u1 (D.map jk.o):=λe=>by have:=at_ge.2 e;omega
 rw[show zx2 (D.map jk.o) os[i].1=(false,4,D.map jk.o) from by rw[zx2,aJ cm,aJ λk=>bq (k _ (aC a9))]] at O;dsimp only at O;rw[aJ zd] at O;have ah:=after_all1 (b:=⟨(os.map Prod.fst),(ss.map Prod.fst)⟩) (bring_stop de O);refine ki (j8 p Z Z (jv Z trivial (l':=[.slice none 0 0,.slice none 0 0]) Z (wl (gz (l':=s.c) g5 f Z Z Z Z OneC.h λf8 f cp fd=>?_))));have g:=g.g9 cp P.symm;have A:=A.g8 cp bb;refine wl (gz (l':=[.slice none 0 0,.slice none 0 0]) g5 g Z Z Z Z OneC.h λf9 g cq fe=>?_);have f:=f.g9 cq P;have A:=A.g8 cq bc;refine vl Z (gGk (gGk (ko [_,_,_] ⟨⟨b4,0,Z,kj g5 Z Z f.kc Z⟩,⟨b5,0,Z,kj g5 Z Z g.kc Z⟩,Z,trivial⟩ ?_)));exact⟨s,um,by show _=Value.tuple #[_,_,.int .i64 (jp s.s ⟨(os.map Prod.fst),(ss.map Prod.fst)⟩).2.2];rw[ah];rfl,AftQ.no ah h hI A,A⟩
 have ds:=at_ge.1 (Int.not_lt.1 hc);refine jw (yt Z ?_);rw[jt _ zo];refine ga ?_;exact j9 (j+1) Z ⟨⟨a9,λy hy=>by rw[List.take_succ_eq_append_getElem a9] at hy;exact(aV.1 hy).elim (bp y) λe=>aE.1 e▸ds,a0,E,G⟩,p,r,f,g,t,C,L,A⟩ zf;have h0:j=(k8 os[i].1).length:=by omega
 subst h0;rw[bC] at bp;rw[show zx2 (D.map jk.o) os[i].1=(false,0,D.map jk.o++[os[i].1]) from by rw[zx2,aJ cm,aM bp]] at O;dsimp only at O;rw[aM Z,aJ zd] at O;refine zu (jy Z (j8 L Z bk.len (j8 C Z (gi J.i) (jv Z ⟨⟨by rw[j4,gb,qm],by decide⟩,⟨by rw[j4];exact gi J.i,by decide⟩,trivial⟩ (l':=ut ⟨xj os[i].1,os[i].1,os[i].2⟩) (by rw[yj2];exact held_build (qm _) J.i) (wl (kz g5 Z 105 Z yj2 (by rw[al,gb,gi ky];rfl) zd zd ⟨⟨by rw[j4];exact yx (h:=⟨xj os[i].1,os[i].1,os[i].2⟩) (qm _) J.i,by decide⟩,trivial⟩ (l':=ut ⟨xj os[i].1,os[i].1,os[i].2⟩) (one_held (h:=⟨xj os[i].1,os[i].1,os[i].2⟩) (yx (qm _) J.i)) λei gc ff dt ae fg=>?_))))));have p:=p.g0 ae;have r:=r.g0 ae;have f:=f.g0 ae;have g:=g.g0 ae;have t:=t.g0 ae;have C:=C.g0 ae;have E:=E.g0 ae;have G:=G.g0 ae;have A:=A.g4 ae;have ap:=E.own;refine wl (vu g5 Z 105 224 Z Z Z zd E (Src.slice (m:=1) ⟨yx (h:=⟨xj os[i].1,os[i].1,os[i].2⟩) (qm _) J.i,.inr ⟨ei,0,Z,dt.kc⟩⟩ OneC.h) zm zn (n':=(D++[(⟨xj os[i].1,os[i].1,os[i].2⟩:jk)]).length) (ys:=(D++[(⟨xj os[i].1,os[i].1,os[i].2⟩:jk)]).flatMap ut) zh (by rw[aQ,bB]) A λq4 c4 gd E aj A=>?_);dsimp only at E aj;have p:=p.jq ap aj (show(126:Nat)≠102 from by decide);have r:=r.jq ap aj (show(126:Nat)≠25 from by decide);have f:=f.jq ap aj (show(126:Nat)≠102 from by decide);have g:=g.jq ap aj (show(126:Nat)≠25 from by decide);have t:=t.jq ap aj (show(126:Nat)≠25 from by decide);have C:=C.jq ap aj (show(126:Nat)≠37 from by decide);have G:=G.Dg ap aj zd;refine k9 Z (xt Z (j3 t Z Z (j8 C Z (gi J.i) (wl (kz g5 Z 73 Z objZc (gi ky) zd zd ⟨⟨by rw[j4];exact gi J.i,by decide⟩,trivial⟩ (l':=B2 os[i]) (yj4 J.i) λej gf fh du ak fi=>?_)))));have p:=p.g0 ak;have r:=r.g0 ak;have f:=f.g0 ak;have g:=g.g0 ak;have t:=t.g0 ak;have E:=E.g0 ak;have G:=G.g0 ak;have A:=A.g4 ak;have hfo:=G.own;refine wl (vu g5 Z 73 192 Z Z Z zd G (Src.slice (m:=1) ⟨gi J.i,.inr ⟨ej,0,Z,du.kc⟩⟩ OneC.h) zm zn (n':=(fs++[os[i]]).length) (ys:=(fs++[os[i]]).flatMap B2) zh (by rw[aQ,bB];rfl) A λek em gg G hE23 A=>?_);dsimp only at G hE23;have p:=p.jq hfo hE23 (show(37:Nat)≠102 from by decide);have r:=r.jq hfo hE23 (show(37:Nat)≠25 from by decide);have f:=f.jq hfo hE23 (show(37:Nat)≠102 from by decide);have g:=g.jq hfo hE23 (show(37:Nat)≠25 from by decide);have t:=t.jq hfo hE23 (show(37:Nat)≠25 from by decide);have E:=E.Dg hfo hE23 zd;refine gv g5 Z ?_;have a4:=t;refine ka t Z Z Z λgq t au fj=>?_;have p:=p.g9 au bg;have r:=r.g9 au bh;have f:=f.g9 au bi;have g:=g.g9 au bj;have E:=E.g9 au a4 zd;have G:=G.g9 au a4 zd;have A:=A.g8 au dd;refine ga ?_;exact jm (gk (q4,c4,D++[(⟨xj os[i].1,os[i].1,os[i].2⟩:jk)],ek,em,fs++[os[i]]) Z ⟨⟨E,G,λx K=>(aV.1 K).elim (ag x) λe=>by rw[aE.1 e];exact⟨⟨Z,⟨J.i,J.s⟩,J.l⟩,hBI _ (aC ay)⟩,by dsimp only;rw[O,bE,bE];rfl,by dsimp only;rw[al,dI];omega,λx K=>(aV.1 K).elim (a1 x) λe=>by rw[aE.1 e];exact aC ay,by dsimp only;rw[al];exact Nat.succ_le_succ a8⟩,p,r,f,g,t,A⟩);rintro⟨q3,c3,c1,en,ep,eq⟩ gs ⟨⟨E,G,ag,ax,bw,a1,a8⟩,p,r,f,g,t,A⟩;try dsimp only
 dsimp only at E G ag ax bw a1 a8 t;refine xt Z ?_;rw[jt _ zo];refine ga ?_;exact j9 (i+1,q3,c3,c1,en,ep,eq) Z ⟨⟨ay,E,G,ag,ax,bw,a1,a8⟩,p,r,f,g,t,A⟩ zf;have h0:i=os.length:=by omega
 subst h0;rw[show os.length=(os.map Prod.fst).length from(aB ..).symm,bC] at ax;refine zu (jy Z (gj Z (p.cell Z) ?_));obtain⟨W,cd⟩:∃W:World,W=w8:=⟨_,Z⟩
 have hW:Ext No W w8:=by rw[cd];exact Ext.refl _ _
 have er:w.heap.size<=W.heap.size:=by rw[cd];exact A.size
 have es:b4<W.heap.size:=by rw[cd];exact f.lt
 have et:b5<W.heap.size:=by rw[cd];exact g.lt
 have hv:=h.vals.g0 A;have N:∀x∈s.vs,ValR w8 x/\InH x.2.1 (Grow H W w8):=λx K=>⟨(h.v x K).g0 A,(hI.vs x K).mono λ_ e=> .inl e⟩
 refine k9 Z (gh (jn Z (j0 (ja (α:=Nat×Option Addr×Nat×List x5) [2,3,4,5,7,8] Z (λz=>[(14,.slice z.2.1 z.2.2.2.length z.2.2.1),(15,.int .i64 (z.1:Int))]) (λz u=>(z.1<=ss.length/\jj w u q D.length c 126 105 (D.flatMap ut)/\jj w u fq fs.length fc 37 73 (fs.flatMap B2)/\Ext No W u/\Sl u z.2.1 z.2.2.2.length 2 (z.2.2.2.flatMap ui)/\(∀x∈z.2.2.2,ValR u x/\InH x.2.1 (Grow H W u))/\InH z.2.1 (Grow H W u)/\z8 s.s.vals ((ss.map Prod.fst).take z.1)=some (z.2.2.2.map Prod.fst)/\z.2.2.2.length<=s.vs.length+z.1)/\gu u b2 102 (s.c)/\gu u b3 25 ([.slice op os.length oc,.slice sp ss.length sc])/\gu u b4 102 ([.slice none 0 0,.slice none 0 0])/\gu u b5 25 ([.slice none 0 0,.slice none 0 0])/\gu u b8 25 ([.slice fq fs.length fc,.slice sp ss.length sc])/\Ext No w u) (λz u=>ss.length-z.1) (0,s.vp,s.vc,s.vs) Z ⟨⟨aF _,E,G,hW,hv,N,hI.v.mono λ_ e=> .inl e,Z,aA _⟩,p,r,f,g,t,A⟩ ?_))));rintro⟨j,vp,vc,vs⟩ a2 ⟨⟨hj,E,G,hW,hv,N,a3,br,eu⟩,p,r,f,g,t,A⟩;try dsimp only
 dsimp only at hj hv N a3 br eu;refine gh (jy Z (j3 r Z Z (k9 Z (jc Z (λhc=>?_) (λhc=>?_)))));have ba:j<ss.length:=by omega
 have c2:j<(ss.map Prod.fst).length:=by rw[aB];exact ba
 have ev:(ss.map Prod.fst)[j]=ss[j].1:=bD ..;have O:=seS_step c2 br;have bs:=fit_run c2 hok.2.2.2.2 br;rw[ev] at O bs;have O:z8 s.s.vals ((ss.map Prod.fst).take (j+1))=if Cp s.s.vals ss[j].1 then some (zv3 (vs.map Prod.fst) ss[j].1) else none:=by rw[O];by_cases k:Cp s.s.vals ss[j].1;rw[aM k,aM (bs.2 k)];rw[aJ k,aJ (mt bs.1 k)]
 have dv:=hB.s _ (aC ba);have a5:=fit10 (l:=s.s.vals) (hok.2.2.2.1 _ (cI (aC ba)));obtain⟨wk,dw⟩:∃wk:World,wk=a2:=⟨_,Z⟩
 have aa:Ext No wk a2:=by rw[dw];exact Ext.refl _ _
 rw[<-dw] at hv N a3;obtain⟨qb,qo,hp,cz⟩:=hB.ss.km (λx K=>yx9 x) zn;dsimp only at hp;subst hp;refine yz (jy Z (j3 r Z Z (gv g5 Z (jo Z 5 Z j Z ba (qo+j*5) Z (je Z ((cz j ba).g0 A) Z ?_)))));have dx:=aa;have ew:=hW;refine gn Z λex g1 am M X=>?_;have ce:=gw p.lt am;have cf:=gw r.lt am;have cg:=gw f.lt am;have ch:=gw g.lt am;have ci:=gw t.lt am;have dy:=Nat.le_trans A.size am;have p:=p.g0 X;have r:=r.g0 X;have f:=f.g0 X;have g:=g.g0 X;have t:=t.g0 X;have E:=E.g0 X;have G:=G.g0 X;have hW:=hW.g4 X;have aa:=aa.g4 X;have A:=A.g4 X;have c5:=Nat.le_trans dx.size am;have c6:=Nat.le_trans ew.size am;have bt:=M;refine wl (gz (l':=vv ss[j]) g5 M Z Z Z Z OneC.h λey M Y fk=>?_);have p:=p.g9 Y ce;have r:=r.g9 Y cf;have f:=f.g9 Y cg;have g:=g.g9 Y ch;have t:=t.g9 Y ci;have E:=E.g9 Y bt zd;have G:=G.g9 Y bt zd;have hW:=hW.g8 Y c6;have aa:=aa.g8 Y c5;have A:=A.g8 Y dy;refine qi (ki (j8 p Z Z (gv g5 Z (j3 M Z Z (g7 call192 Z (value10_calls ey (h.g0 A) (n:=ss[j].1.name)) ?_)))));rintro g2 ez⟨vq,g3,vb,rfl,cj,e0,fm,R⟩;have p:=p.g0 R;have r:=r.g0 R;have f:=f.g0 R;have g:=g.g0 R;have t:=t.g0 R;have M:=M.g0 R;have E:=E.g0 R;have G:=G.g0 R;have hW:=hW.g4 R;have aa:=aa.g4 R;have A:=A.g4 R;have cj:vb=(A5 s.s.vals ss[j].1.name).getD []:=cj;refine k9 Z (gh (jb (α:=Bool) [2,3,4,5,7,8,14,15,16] Z (λz=>[(104,.bool z)]) (λz u=>(z=decide (¬Cp s.s.vals ss[j].1)/\jj w u q D.length c 126 105 (D.flatMap ut)/\jj w u fq fs.length fc 37 73 (fs.flatMap B2)/\Ext No W u/\Ext No wk u)/\gu u b2 102 (s.c)/\gu u b3 25 ([.slice op os.length oc,.slice (some ⟨qb,qo,none⟩) ss.length sc])/\gu u b4 102 ([.slice none 0 0,.slice none 0 0])/\gu u b5 25 ([.slice none 0 0,.slice none 0 0])/\gu u b8 25 ([.slice fq fs.length fc,.slice (some ⟨qb,qo,none⟩) ss.length sc])/\gu u ex 91 (vv ss[j])/\Ext No w u) ?_ ?_));refine gr (gv g5 Z (j3 M Z Z (gv g5 Z (qy 98 Z (λhg=>?_) (λhg=>?_)))));have c7:¬(A5 (s.vs.map Prod.fst) ss[j].1.name).isSome=ss[j].1.was:=by simpa using hg
 refine gm g5 6 Z (ga ?_);exact gk (true) Z ⟨⟨by symm;rw[aO,a5];exact λk=>c7 k.1,E,G,hW,aa⟩,p,r,f,g,t,M,A⟩;have c7:(A5 (s.vs.map Prod.fst) ss[j].1.name).isSome=ss[j].1.was:=by simpa using hg
 refine gm g5 2 Z (j3 M Z Z (g7 call93 Z (zq9 ez (e0) (dv.old.g0 A) zo) ?_));rintro ha hb⟨rfl,T⟩;have p:=p.g0 T;have r:=r.g0 T;have f:=f.g0 T;have g:=g.g0 T;have t:=t.g0 T;have M:=M.g0 T;have E:=E.g0 T;have G:=G.g0 T;have hW:=hW.g4 T;have aa:=aa.g4 T;have A:=A.g4 T;refine gm g5 2 Z (ga ?_);exact gk (_) Z ⟨⟨by rw[show decide (¬Cp s.s.vals ss[j].1)=decide (¬vb=ss[j].1.old) from aH.2 (not_congr (a5.trans ⟨λe=>cj.trans e.2,λe=>⟨c7,cj.symm.trans e⟩⟩)),decide_not],E,G,hW,aa⟩,p,r,f,g,t,M,A⟩;rintro z e1 ⟨⟨rfl,E,G,hW,aa⟩,p,r,f,g,t,M,A⟩;refine u5 Z (λhc=>?_) (λhc=>?_);have e2:¬Cp s.s.vals ss[j].1:=by simpa using hc
 rw[aJ e2] at O;have ah:=after_all2 (b:=⟨(os.map Prod.fst),(ss.map Prod.fst)⟩) ax (bringS_stop c2 O);refine ki (j8 p Z Z (jv Z trivial (l':=[.slice none 0 0,.slice none 0 0]) Z (wl (gz (l':=s.c) g5 f Z Z Z Z OneC.h λhd f cr fn=>?_))));have g:=g.g9 cr P.symm;have A:=A.g8 cr bb;refine wl (gz (l':=[.slice none 0 0,.slice none 0 0]) g5 g Z Z Z Z OneC.h λhe g cs fp=>?_);have f:=f.g9 cs P;have A:=A.g8 cs bc;refine vl Z (j2 (gGk (ko [_,_,_] ⟨⟨b4,0,Z,kj g5 Z Z f.kc Z⟩,⟨b5,0,Z,kj g5 Z Z g.kc Z⟩,Z,trivial⟩ ?_)));exact⟨s,um,by show _=Value.tuple #[_,_,.int .i64 (jp s.s ⟨(os.map Prod.fst),(ss.map Prod.fst)⟩).2.2];rw[ah];rfl,AftQ.no ah h hI A,A⟩
 have e3:Cp s.s.vals ss[j].1:=by simpa using hc
 rw[aM e3] at O;refine vo (xt Z (j8 M Z Z ?_));have ct:=hW.size;have c8:=aa.size;refine g7 call193 Z (named10_calls e1 (hv.g0 aa) (λx K=>⟨(N x K).1.g0 aa,(N x K).2⟩) zo (dv.g0 A)) ?_;rintro hh c9⟨nq,nc,ns,rfl,e4,bq,d2,hi,I⟩;have p:=p.g0 I;have r:=r.g0 I;have f:=f.g0 I;have g:=g.g0 I;have t:=t.g0 I;have E:=E.g0 I;have G:=G.g0 I;have hW:=hW.g4 I;have A:=A.g4 I;have hv:=bq.sl;have aw:=Nat.le_trans c8 I.size;have N:∀x∈ns,ValR c9 x/\InH x.2.1 (Grow H W c9):=λx K=>⟨(d2 x K).1,(d2 x K).2.mono (grow_two aw ct)⟩
 have a3:InH nq (Grow H W c9):=λb bu e=> .inr ⟨Nat.le_trans ct (xj6 bq (λ_ h=>h) b bu e),ownN_lt bq b bu e⟩;refine gv g5 Z (ga (yt Z ?_));rw[jt _ zo];refine ga ?_;exact j9 (j+1,nq,nc,ns) Z ⟨⟨ba,E,G,hW,hv,N,a3,by rw[O,e4],by dsimp only;omega⟩,p,r,f,g,t,A⟩ zf;have h0:j=ss.length:=by omega
 subst h0;rw[show ss.length=(ss.map Prod.fst).length from(aB ..).symm,bC] at br;have ah:=xj0 (b:=⟨(os.map Prod.fst),(ss.map Prod.fst)⟩) ax br;refine zu (gh (jn Z (jc Z (λhc=>?_) (λhc=>?_))));have da:128<(vs.map Prod.fst).length:=by rw[aB];omega
 rw[aM da] at ah;refine ki (j8 p Z Z (jv Z trivial (l':=[.slice none 0 0,.slice none 0 0]) Z (wl (gz (l':=s.c) g5 f Z Z Z Z OneC.h λhk f cu fr=>?_))));have g:=g.g9 cu P.symm;have A:=A.g8 cu bb;refine wl (gz (l':=[.slice none 0 0,.slice none 0 0]) g5 g Z Z Z Z OneC.h λhm g cv ft=>?_);have f:=f.g9 cv P;have A:=A.g8 cv bc;refine vl Z (j2 (ko [_,_,_] ⟨⟨b4,0,Z,kj g5 Z Z f.kc Z⟩,⟨b5,0,Z,kj g5 Z Z g.kc Z⟩,Z,trivial⟩ ?_));exact⟨s,um,by show _=Value.tuple #[_,_,.int .i64 (jp s.s ⟨(os.map Prod.fst),(ss.map Prod.fst)⟩).2.2];rw[ah];rfl,AftQ.no ah h hI A,A⟩
 have da:¬128<(vs.map Prod.fst).length:=by rw[aB];omega
 rw[aJ da] at ah;have d3:=λy (e:Grow H W a2 y)=>(show Grow H w a2 y from e.imp id λe=>⟨Nat.le_trans er e.1,e.2⟩)
 have aw:=aA a2.heap.size;have n4:=B5 (u:=a2) es bb hH;have n5:=B5 (u:=a2) et bc hH;refine vo (gh (jl Z 5 [qP 0,qP 1,qP 2,qP 3,(4,false)] [5,6] (λx=>x=b4\/x=b5) zk λe5 af fu=>?_));have e6:=t;have f:=f.g0 af;have g:=g.g0 af;have E:=E.g0 af;have G:=G.g0 af;have aw:=Nat.le_trans aw af.size;have hv:=hv.g0 af;have N:=λx K=>And.intro ((N x K).1.g0 af) (N x K).2;have A:=A.g4 af;have hC:Ext (λx=>x=b4\/x=b5) _ e5:=af.no;refine gl g5 2 Z (zv7 g5 Z Z ⟨⟨Z,by decide⟩,⟨Z,by decide⟩,trivial⟩ (l':=[.slice q D.length c,.slice vp vs.length vc]) Z (kw g5 Z Z (λw' e7=>(e6.ext (show Ext (λx=>x=b4\/x=b5) _ w' from e7) λe=>by have e:_=_\/_=_:=e;omega).kc) Z ?_));have cw:=f;refine jg Z (gz (l':=[.slice q D.length c,.slice vp vs.length vc]) g5 f Z Z Z Z OneC.h λhn f an fv=>⟨hC.then (an.mono λ_ _ e=>by have e:_=_:=e;show _=_\/_=_;omega),?_⟩);have g:=g.g9 an P.symm;have E:=E.g9 an cw zd;have G:=G.g9 an cw zd;have aw:=Nat.le_trans aw an.size;have hv:=Sl.inH hv an a3 n4;have N:=λx K=>And.intro ((N x K).1.ext (N x K).2 an n4) (N x K).2;have A:=A.g8 an bb;refine jd ?_;have cx:=g;refine wb Z (gz (l':=[.slice fq fs.length fc,.slice sp ss.length sc]) g5 g Z Z Z Z OneC.h λhr g av fw=>?_);have f:=f.g9 av P;have E:=E.g9 av cx zd;have G:=G.g9 av cx zd;have aw:=Nat.le_trans aw av.size;have hv:=Sl.inH hv av a3 n5;have N:=λx K=>And.intro ((N x K).1.ext (N x K).2 av n5) (N x K).2;have A:=A.g8 av bc;refine wb Z (st_p g5 Z Z Z (j1 (jh (j6 (ko [_,_,_] ⟨⟨b4,0,Z,kj g5 Z Z f.kc Z⟩,⟨b5,0,Z,kj g5 Z Z g.kc Z⟩,Z,trivial⟩ ?_)))));exact⟨⟨q,c,D,vp,vc,vs⟩,⟨fq,fc,fs,sp,sc,ss⟩,by show _=Value.tuple #[_,_,.int .i64 (jp s.s ⟨(os.map Prod.fst),(ss.map Prod.fst)⟩).2.2];rw[ah];rfl,⟨(congrArg (λx=>x.1) ah).symm,(congrArg (λx=>x.2.1) ah).symm,⟨E.sl,hv,λx K=>(ag x K).1.g0 A,λx K=>(N x K).1,by show D.length<_;omega,by show vs.length<_;omega⟩,⟨λb bu e=> .inr ⟨xj6 E (λ_ h=>h) b bu e,ownN_lt E b bu e⟩,a3.mono λy e=>(d3 y e).imp id λe=>⟨e.1,aG e.2 aw⟩,λx K=>⟨(ag x K).2.1.mono λ_ e=> .inl e,(ag x K).2.2.1.mono λ_ e=> .inl e,(ag x K).2.2.2.mono λ_ e=> .inl e⟩,λx K=>(N x K).2.mono λy e=>(d3 y e).imp id λe=>⟨e.1,aG e.2 aw⟩⟩,⟨G.sl,hB.ss.g0 A,λx K=>(hB.o x (a1 x K)).g0 A,λx K=>(hB.s x K).g0 A,by show fs.length<_;omega,hB.ls⟩⟩,A⟩
def ye (l : Bytes) (n : Nat) : Bytes := if n <= l.length then l.take n else []
def Az (l : Bytes) (n : Nat) : Bytes := if n <= l.length then l.drop n else []
theorem De (w:World) {p:Option Addr} {c:Nat} {l:Bytes} (h:ux w p l) (hc:l.length<=c) (hl:l.length<900000000) (n:Nat) (hn:n<900000000):
  ge prog 112 [.slice p l.length c,.int .i64 (n:Int)] w λv w'=>∃q c1 p2 c2,v= .tuple #[.slice q (ye l n).length c1,.slice p2 (Az l n).length c2,.bool (decide (n<=l.length))]/\jj w w' q (ye l n).length c1 5 1 (g6 (ye l n))/\(∀u,ux u p l->ux u p2 (Az l n))/\(Az l n).length<=c2/\Ext No w w':=by
 have s:=hc;refine gt func112 ?_;have d:=Ext.refl No w;refine uz Z (jn Z (jc Z (λhc=>?_) (λhc=>?_)));have f:¬n<=l.length:=by omega
 have t:ye l n=[]:=aJ f;have x:Az l n=[]:=aJ f;refine jn Z (j6 (j2 (ko [_,_,_] ⟨Z,Z,Z,trivial⟩ ?_)));rw[t,x];exact⟨none,0,none,0,by rw[bG f];rfl,jj.nil _ _ _ _,λ_ _=>Sl.nil _ _ _,aA _,d⟩
 have a:n<=l.length:=by omega
 have t:ye l n=l.take n:=aM a;have x:Az l n=l.drop n:=aM a;have z:(l.take n).length=n:=by rw[aK];omega
 have i:(l.drop n).length=l.length-n:=aW;refine vo (gh (jl Z 10 [qP 0,qP 1,qP 2,qP 4,qP 5,qP 6,(3,false),qP 7,qP 8,qP 9] [] (No) zk λC j D=>?_));have d:=d.g4 j;have E:Ext (No) _ C:=j.no;refine gl g5 2 Z (yx5 g5 Z Z 0 n c 1 Z (.inr ⟨Z,Z⟩) (.inl Z) (.inr ⟨Z,Z⟩) (aF _) zo (aA _) ?_);rw[qa,bH,bH,show Value.slice p n c= .slice p (l.take n).length c from by rw[z]];refine gl g5 2 Z (yx5 g5 Z Z n l.length c 1 Z (.inr ⟨Z,Z⟩) (.inr ⟨Z,Z⟩) (.inl Z) zo zo (aA _) ?_);rw[<-i];have A:=d;refine jg Z (gx call97 Z (yj C (l:=l.take n) (m:=[]) ((h.cutB n).g0 d) (Sl.nil _ _ _) zj zd) λJ F k=>⟨(by obtain⟨B,c1,rfl,b,o,g⟩:=k;exact E.g4 g),?_⟩);obtain⟨B,c1,rfl,b,o,g⟩:=k;have d:=d.g4 g;rw[bJ] at b|-;have b:jj w F B (l.take n).length c1 5 1 (g6 (l.take n)):=⟨b,λy G=>Nat.le_trans A.size (o y G)⟩
 refine gl g5 3 Z (jd (j1 (jh (j6 (ko [_,_,_] ⟨Z,Z,Z,trivial⟩ ?_)))))
 have r:∀u,ux u p l->ux u (ub p n c 1) (l.drop n):=λu H=>by
  have r:=Sl.slice H n l.length c a s (aA _);have e:((g6 l).drop (n*1)).take ((l.length-n)*1)=g6 (l.drop n):=by rw[aY,aY,g6,g6,<-List.map_drop,aL (by rw[aB,aW];exact aA _)]
  rw[e,<-i] at r;exact r
 rw[t,x];exact⟨B,c1,_,_,by rw[bN a];rfl,b,r,by omega,d⟩
def xv (s : Ds) : Bytes := if s.bad then [] else s.rest
theorem off_cut (l:Bytes) (n:Nat):((⟨l,false⟩:Ds).off n).1=ye l n/\xv ((⟨l,false⟩:Ds).off n).2=Az l n/\((⟨l,false⟩:Ds).off n).2.bad= !decide (n<=l.length):=by
 unfold Ds.off ye Az xv;by_cases h:n<=l.length;rw[aJ zb,aM h,aM h,bN h];exact⟨Z,Z,Z⟩
 rw[aM (.inr zb),aJ h,aJ h,bG h];exact⟨Z,Z,Z⟩
theorem str_yes {l:Bytes} {k:Nat} (h:k<=l.length):(⟨l,false⟩:Ds).str k=(⟨Az l k,false⟩:Ds).off (num (ye l k)):=by
 unfold Ds.str Az ye;have e:(⟨l,false⟩:Ds).off k=(l.take k,⟨l.drop k,false⟩):=aJ zb;rw[e,aM h,aM h]
theorem str_no {l:Bytes} {k:Nat} (h:¬k<=l.length):(⟨l,false⟩:Ds).str k=([],⟨l,true⟩):=by
 unfold Ds.str;have e:(⟨l,false⟩:Ds).off k=([],⟨l,true⟩):=aM (.inr zb);rw[e];rfl
theorem Cv (l : Bytes) (n : Nat) : (Az l n).length <= l.length := by
  unfold Az; split
  · rw [aW]; omega
  · exact aF _
theorem cutT1_le (l : Bytes) (n : Nat) : (ye l n).length <= l.length := by
  unfold ye; split
  · rw [aK]; omega
  · exact aF _
theorem cutT1_len (l : Bytes) (n : Nat) : (ye l n).length <= n := by
  unfold ye; split
  · rw [aK]; omega
  · exact aF _
theorem yq3 (w:World) {p:Option Addr} {c:Nat} {l:Bytes} (h:ux w p l) (hc:l.length<=c) (hl:l.length<900000000) (k:Nat) (hk:k<=2):
  ge prog 174 [.slice p l.length c,.int .i64 (k:Int)] w λv w'=>∃q c1 p2 c2,v= .tuple #[.slice q (((⟨l,false⟩:Ds).str k).1).length c1,.slice p2 (xv ((⟨l,false⟩:Ds).str k).2).length c2,.bool (!((⟨l,false⟩:Ds).str k).2.bad)]/\jj w w' q (((⟨l,false⟩:Ds).str k).1).length c1 5 1 (g6 (((⟨l,false⟩:Ds).str k).1))/\(∀u,ux u p l->ux u p2 (xv ((⟨l,false⟩:Ds).str k).2))/\(xv ((⟨l,false⟩:Ds).str k).2).length<=c2/\Ext No w w':=by
 refine gt func174 ?_;have a:=Ext.refl No w;refine jn Z (jy Z (g7 call112 Z (De w h hc hl k zo) ?_));rintro L z⟨M,c1,p2,c2,rfl,f,b,g,i⟩;have a:=a.g4 i;refine k9 Z (gh (jn Z (u5 Z (λhc=>?_) (λhc=>?_))));have j:¬k<=l.length:=by simpa using hc
 have m:=str_no j;refine jn Z (j6 (j2 (ko [_,_,_] ⟨Z,Z,Z,trivial⟩ ?_)));rw[m];exact⟨none,0,none,0,Z,jj.nil _ _ _ _,λ_ _=>Sl.nil _ _ _,aA _,a⟩
 have d:k<=l.length:=by simpa using hc
 have m:=str_yes d;have N:=Cv l k;have O:=cutT1_len l k;have A:num (ye l k)<65536:=aG (ug _) (Nat.le_trans (cK zd (by omega:(ye l k).length<=2)) zd);obtain⟨B,C,D⟩:=off_cut (Az l k) (num (ye l k));refine vo (jy Z (g7 call113 Z (Ce z f.sl zo) ?_));rintro P E⟨rfl,rfl⟩;refine gv g5 Z ?_;rw[jt _ zo];have o:=a;refine g7 call112 Z (De E (b _ (h.g0 a)) g zo (num (ye l k)) zo) ?_;rintro Q R⟨F,G,H,J,rfl,s,t,x,y⟩;have a:=a.g4 y;refine vl Z (ko [_,_,_] ⟨Z,Z,Z,trivial⟩ ?_);rw[m,B,C,D,Bool.not_not];exact⟨F,G,H,J,Z,s.older o.size,λu K=>t u (b u K),x,a⟩
theorem _root_.Go.Vc.Own.tyU' {w:World} {p:Option Addr} {n c sz:Nat} {xs:List Value} (h:Own w p n c 5 sz xs):TyU w p:=λa d=>by
 rcases h with⟨rfl,_⟩|⟨b,l,rfl,e,_⟩
 ·cases d
 cases d;exact⟨l,e⟩
def obR (l : Bytes) : jr := if ((⟨l, false⟩ : Ds).str 2).2.bad then uv else (vy ((⟨l, false⟩ : Ds).str 2).1).1
def isR (l : Bytes) : Bool := if ((⟨l, false⟩ : Ds).str 2).2.bad then false else decide ((vy ((⟨l, false⟩ : Ds).str 2).1).2 = 0)
theorem str_len1 (l:Bytes) (k:Nat):((⟨l,false⟩:Ds).str k).1.length<=l.length:=by
 by_cases h:k<=l.length;rw[str_yes h,(off_cut _ _).1];exact Nat.le_trans (cutT1_le _ _) (Cv l k);rw[str_no h];exact aF _
theorem object10_calls (w:World) {p:Option Addr} {c:Nat} {l:Bytes} (h:ux w p l) (hc:l.length<=c) (hl:l.length<900000000):
  ge prog 114 [.slice p l.length c] w λv w'=>∃a p2 c2,v= .tuple #[.agg (js (obR l) a).toArray,.bool (isR l),.slice p2 (xv ((⟨l,false⟩:Ds).str 2).2).length c2,.bool (!((⟨l,false⟩:Ds).str 2).2.bad)]/\qs w w' (obR l) a/\(∀u,ux u p l->ux u p2 (xv ((⟨l,false⟩:Ds).str 2).2))/\(xv ((⟨l,false⟩:Ds).str 2).2).length<=c2/\Ext No w w':=by
 refine gt func114 ?_;have d:=Ext.refl No w;refine ki (gn Z λN O z b A=>?_);have o:=Nat.le_trans d.size z;have d:=d.g4 A;refine k9 Z (jy Z (g7 call174 Z (yq3 O (h.g0 d) hc hl 2 zd) ?_));rintro V P⟨W,X,p2,c2,rfl,j,C,D,q⟩;have b:=b.g0 q;have d:=d.g4 q;have Q:=str_len1 l 2;refine k9 Z (gh (jn Z (u5 Z (λhc=>?_) (λhc=>?_))));have i:((⟨l,false⟩:Ds).str 2).2.bad=true:=by simpa using hc
 have E:obR l=uv:=aM i;have F:isR l=false:=aM i;have R:xv ((⟨l,false⟩:Ds).str 2).2=[]:=aM i;refine ki (jv Z trivial (l':=js uv noP) objZc (wl (gz (l':=js uv noP) g5 b Z Z (gi ky) (by rw[gi ky];rfl) OneC.h λY b G S=>?_)));have d:=d.g8 G o;refine vl Z (j2 (ko [_,_,_,_] ⟨⟨N,0,Z,kj g5 Z Z b.kc (gi ky)⟩,Z,Z,Z,trivial⟩ ?_));rw[E,F,R,i];exact⟨noP,none,0,Z,qs.nil _ _ _ Z Z Z,λ_ _=>Sl.nil _ _ _,aA _,d⟩
 have i:¬((⟨l,false⟩:Ds).str 2).2.bad=true:=by simpa using hc
 have E:obR l=(vy ((⟨l,false⟩:Ds).str 2).1).1:=aJ i;have F:isR l=decide ((vy ((⟨l,false⟩:Ds).str 2).1).2=0):=aJ i;refine vo (jy Z ?_);have H:=d;refine g7 call175 Z (decode6_calls P j.sl j.own.tyU' j.own.cap zo) ?_;rintro B w4⟨K,rfl,f,r⟩;have b:=b.g0 r;have d:=d.g4 r;have f:=f.older (W0:=w) H.size;have e:=(dec_ok (l:=((⟨l,false⟩:Ds).str 2).1) zo).1;refine gv g5 Z (gn Z λb9 w5 s g k=>?_);have m:=gw b.lt s;have L:=Nat.le_trans d.size s;have b:=b.g0 k;have f:=f.g0 k;have d:=d.g4 k;have t:=g;refine wl (gz (l':=js (vy ((⟨l,false⟩:Ds).str 2).1).1 K) g5 g Z Z (gi e) (by rw[gi e];rfl) OneC.h λw6 g n T=>?_);have b:=b.g9 n m;have f:=f.g9 n t zd zd zd;have d:=d.g8 n L;refine k9 Z (ki (j8 g Z (gi e) (gv g5 Z ?_)));have x:=b;refine wl (gz (l':=js (vy ((⟨l,false⟩:Ds).str 2).1).1 K) g5 b Z Z (gi e) (by rw[gi e];rfl) OneC.h λw7 b y U=>?_);have f:=f.g9 y x zd zd zd;have d:=d.g8 y o;refine vl Z (ko [_,_,_,_] ⟨⟨N,0,Z,kj g5 Z Z b.kc (gi e)⟩,Z,Z,Z,trivial⟩ ?_);have M:((⟨l,false⟩:Ds).str 2).2.bad=false:=by simpa using i
 rw[E,F,M];exact⟨K,p2,c2,Z,f,C,D,d⟩
abbrev xd (l : Bytes) : Ds := ⟨l, false⟩
theorem side_no {l:Bytes} (h:¬1<=l.length):(xd l).side=((false,[]),⟨l,true⟩):=by
 unfold Ds.side;have e:(xd l).off 1=([],⟨l,true⟩):=aM (.inr (by show l.length<1;omega));rw[e];rfl
theorem side_yes {l:Bytes} (h:1<=l.length):(xd l).side=((decide (0<num (ye l 1)),((xd (Az l 1)).str 2).1),((xd (Az l 1)).str 2).2):=by
 unfold Ds.side Az ye;have e:(xd l).off 1=(l.take 1,⟨l.drop 1,false⟩):=aJ (λe=>e.elim (λe=>by cases e) λe=>by have e:l.length<1:=e;omega);rw[e,aM h,aM h]
theorem flag10_calls (w:World) {p:Option Addr} {c:Nat} {l:Bytes} (h:ux w p l) (hc:l.length<=c) (hl:l.length<900000000):
  ge prog 176 [.slice p l.length c] w λv w'=>∃q c1 p2 c2,v= .tuple #[.bool (xd l).side.1.1,.slice q (xd l).side.1.2.length c1,.slice p2 (xv (xd l).side.2).length c2,.bool (!(xd l).side.2.bad)]/\jj w w' q (xd l).side.1.2.length c1 5 1 (g6 (xd l).side.1.2)/\(∀u,ux u p l->ux u p2 (xv (xd l).side.2))/\(xv (xd l).side.2).length<=c2/\Ext No w w':=by
 refine gt func176 ?_;have b:=Ext.refl No w;refine jn Z (jy Z (g7 call112 Z (De w h hc hl 1 zd) ?_));rintro Q G⟨R,c1,p2,c2,rfl,e,i,s,t⟩;have b:=b.g4 t;refine k9 Z (gh (jn Z (u5 Z (λhc=>?_) (λhc=>?_))));have y:¬1<=l.length:=by simpa using hc
 have z:=side_no y;refine jn Z (j6 (j2 (ko [_,_,_,_] ⟨Z,Z,Z,Z,trivial⟩ ?_)));rw[z];exact⟨none,0,none,0,Z,jj.nil _ _ _ _,λ_ _=>Sl.nil _ _ _,aA _,b⟩
 have d:1<=l.length:=by simpa using hc
 have z:=side_yes d;have S:=Cv l 1;have a:(ye l 1).length=1:=by rw[ye,aM d,aK];omega
 refine vo (jy Z ?_);have A:=b;refine g7 call174 Z (yq3 G (i _ (h.g0 b)) s zo 2 zd) ?_;rintro T U⟨H,J,K,L,rfl,g,C,D,j⟩;have e:=e.g0 j;have b:=b.g4 j;have g:=g.older A.size;obtain⟨n,k⟩:∃n,ye l 1=[n]:=by rcases F:ye l 1 with _|⟨x,r⟩;rw[F] at a;cases a;rw[F] at a;exact⟨x,by rw[aT (by simpa using a:r.length=0)]⟩
 obtain⟨V,M,E,m⟩:=Sl.mapAt (f:=yf) e.sl zo;subst E;refine k9 Z (jy Z (jo Z 1 Z 0 zo zo M Z (gj Z (m 0 _ (by rw[k];rfl)) (vl Z ?_))));refine ko [_,_,_,_] ⟨Z,Z,Z,Z,trivial⟩ ?_;have N:num (ye l 1)=n.toNat:=by rw[k];simp[num]
 have O:decide ((0:Int)<(n.toNat:Int))=decide (0<num (ye l 1)):=by rw[N,aH];omega
 rw[z,<-O];exact⟨H,J,K,L,Z,g,λu P=>C u (i u P),D,b⟩
theorem xz9 {s : Ds} (h : s.bad = true) (n : Nat) : s.off n = ([], ⟨s.rest, true⟩) := aM (.inl h)
theorem side_bad {s:Ds} (h:s.bad=true):s.side.1=(false,[])/\s.side.2.bad=true:=by
 unfold Ds.side Ds.str;rw[xz9 h,xz9 Z,xz9 Z];exact⟨Z,Z⟩
theorem xj9 (l:Bytes) (k:Nat):(xv ((⟨l,false⟩:Ds).str k).2).length<=l.length:=by
 by_cases h:k<=l.length;rw[str_yes h,(off_cut _ _).2.1];exact Nat.le_trans (Cv _ _) (Cv l k);rw[str_no h];exact aF _
theorem qf {s:Ds} (n:Nat):(s.off n).1.length<=s.rest.length/\(s.off n).2.rest.length<=s.rest.length:=by
 unfold Ds.off;split;exact⟨aF _,aA _⟩
 exact⟨by rw[aK];omega,by rw[aW];omega⟩
theorem side_len (s:Ds):s.side.1.2.length<=s.rest.length:=by
 unfold Ds.side Ds.str;have a:=(qf (s:=s) 1).2;have b:=(qf (s:=(s.off 1).2) 2).2;have c:=(qf (s:=((s.off 1).2.off 2).2) (num ((s.off 1).2.off 2).1)).1;exact Nat.le_trans c (Nat.le_trans b a)
theorem restD_side (s:Ds):(xv s.side.2).length<=s.rest.length:=by
 unfold xv;split;exact aF _;unfold Ds.side Ds.str;exact Nat.le_trans (qf _).2 (Nat.le_trans (qf _).2 (qf _).2)
theorem off_val {s:Ds} {n:Nat} (h:(s.off n).2.bad=true):(s.off n).1=[]:=by
 unfold Ds.off at h|-;split;rfl;rename_i b;rw[aJ b] at h;cases h
theorem set_bad {s:Ds} (h:(s.str 1).2.bad=true):s.set.1=⟨[],false,false,[],[]⟩/\s.set.2.bad=true:=by
 have a:=side_bad h;have b:=side_bad a.2;have c:(s.str 1).1=[]:=off_val h;unfold Ds.set;dsimp only;rw[a.1,b.1,c];exact⟨Z,b.2⟩
theorem ds_good {s : Ds} (h : s.bad = false) : s = xd (xv s) := by
  cases s; cases h; rfl
theorem restD_bad {s : Ds} (h : s.bad = true) : xv s = [] := aM h
theorem set10_calls (w:World) {p:Option Addr} {c:Nat} {l:Bytes} (h:ux w p l) (hc:l.length<=c) (hl:l.length<900000000):
  ge prog 115 [.slice p l.length c] w λv w'=>∃a p2 c2,v= .tuple #[.agg (vv ((xd l).set.1,a)).toArray,.slice p2 (xv (xd l).set.2).length c2,.bool (!(xd l).set.2.bad)]/\y9 w w' ((xd l).set.1,a)/\(∀u,ux u p l->ux u p2 (xv (xd l).set.2))/\(xv (xd l).set.2).length<=c2/\Ext No w w':=by
 refine gt func115 ?_;have f:=Ext.refl No w;refine ki (gn Z λU w1 X b Y=>?_);have F:=Nat.le_trans f.size X;have f:=f.g4 Y;have b:gu w1 U 91 (vv (⟨[],false,false,[],[]⟩,⟨none,0,none,0⟩)):=b;refine k9 Z (jy Z (g7 call174 Z (yq3 w1 (h.g0 f) hc hl 1 zd) ?_));rintro v2 w2⟨q1,c1,p2,c2,rfl,aa,r,ab,G⟩;have b:=b.g0 G;have f:=f.g4 G;have H:=str_len1 l 1;refine k9 Z (gh (jn Z (u5 Z (λhc=>?_) (λhc=>?_))));have J:((xd l).str 1).2.bad=true:=by simpa using hc
 obtain⟨e1,e2⟩:=set_bad J;have e3:=restD_bad e2;refine ki (jv Z trivial (l':=vv (⟨[],false,false,[],[]⟩,⟨none,0,none,0⟩)) setZc (wl (gz (l':=vv (⟨[],false,false,[],[]⟩,⟨none,0,none,0⟩)) g5 b Z Z Z Z OneC.h λw3 b ac an=>?_)));have f:=f.g8 ac F;refine vl Z (j2 (ko [_,_,_] ⟨⟨U,0,Z,kj g5 Z Z b.kc Z⟩,Z,Z,trivial⟩ ?_));rw[e1,e2,e3];exact⟨⟨none,0,none,0⟩,none,0,Z,⟨jj.nil _ _ _ _,jj.nil _ _ _ _,by decide,by decide,by decide⟩,λ_ _=>Sl.nil _ _ _,aA _,f⟩
 have J:((xd l).str 1).2.bad=false:=by simpa using hc
 have hg:=ds_good J;have ap:((xd l).str 1).2.rest.length<=l.length:=by have e:=xj9 l 1;rw[show xv ((⟨l,false⟩:Ds).str 1).2=((xd l).str 1).2.rest from aJ (by show¬((xd l).str 1).2.bad=true;rw[J];decide)] at e;exact e
 have aq:((xd l).str 1).1.length<=l.length:=H;have ar:=side_len ((xd l).str 1).2;refine vo (jy Z (wl (zq5 g5 Z Z aa.sl (jv Z ⟨⟨Z,by decide⟩,trivial⟩ (l':=vv (⟨((xd l).str 1).1,false,false,[],[]⟩,⟨none,0,none,0⟩)) Z (gn Z λb8 w4 K d L=>?_)))));have j:=gw b.lt K;have o:=Nat.le_trans f.size K;have b:=b.g0 L;have f:=f.g4 L;refine wl (gz (l':=vv (⟨((xd l).str 1).1,false,false,[],[]⟩,⟨none,0,none,0⟩)) g5 d Z Z Z Z OneC.h λw5 d M y=>?_);have b:=b.g9 M j;have f:=f.g8 M o;refine qi (jy Z ?_);have ad:=f;refine g7 call176 Z (flag10_calls w5 (r _ (h.g0 f)) ab (by have:=xj9 l 1;omega)) ?_;rintro v6 w6⟨V,W,p4,c4,rfl,g,q,N,A⟩;have b:=b.g0 A;have d:=d.g0 A;have f:=f.g4 A;have g:=g.older ad.size;rw[show(xd (xv ((xd l).str 1).2))=((xd l).str 1).2 from hg.symm] at g q N|-;refine gv g5 Z ?_;have i:=d;refine ka d Z Z Z λw7 d B a0=>?_;have b:=b.g9 B j;have g:=g.g9 B i zd;have f:=f.g8 B o;refine gv g5 Z ?_;have i:=d;refine ka d Z Z Z λw8 d C D=>?_;have b:=b.g9 C j;have g:=g.g9 C i zd;have f:=f.g8 C o;have d:gu w8 b8 91 (vv (⟨((xd l).str 1).1,((xd l).str 1).2.side.1.1,false,((xd l).str 1).2.side.1.2,[]⟩,⟨V,W,none,0⟩)):=d;refine k9 Z (jb (α:=SetP×Option Addr×Nat) [2,8] Z (λz=>[(6,.slice z.2.1 (xv (xd l).set.2).length z.2.2),(7,.bool (!(xd l).set.2.bad))]) (λz u=>(y9 w u ((xd l).set.1,z.1)/\(∀u,ux u p l->ux u z.2.1 (xv (xd l).set.2))/\(xv (xd l).set.2).length<=z.2.2)/\gu u U 91 (vv (⟨[],false,false,[],[]⟩,⟨none,0,none,0⟩))/\gu u b8 91 (vv ((xd l).set.1,z.1))/\Ext No w u) ?_ ?_);refine gh (gr (k9 Z (u5 Z (λhc=>?_) (λhc=>?_))));have O:((xd l).str 1).2.side.2.bad=false:=by simpa using hc
 have af:=ds_good O;have au:=side_len ((xd l).str 1).2.side.2;have av:((xd l).str 1).2.side.2.rest.length<=((xd l).str 1).2.rest.length:=by have e:=restD_side ((xd l).str 1).2;rw[show xv ((xd l).str 1).2.side.2=((xd l).str 1).2.side.2.rest from aJ (by rw[O];decide)] at e;exact e
 refine xt Z ?_;have ag:=f;refine g7 call176 Z (flag10_calls w8 (q _ (r _ (h.g0 f))) N (by have:=restD_side ((xd l).str 1).2;omega)) ?_;rintro v9 w9⟨q7,c7,p8,c8,rfl,k,D,P,s⟩;have b:=b.g0 s;have d:=d.g0 s;have g:=g.g0 s;have f:=f.g4 s;have k:=k.older ag.size;rw[show(xd (xv ((xd l).str 1).2.side.2))=((xd l).str 1).2.side.2 from af.symm] at k D P|-;refine gv g5 Z ?_;have i:=d;refine ka d Z Z Z λaw d m aj=>?_;have b:=b.g9 m j;have g:=g.g9 m i zd;have k:=k.g9 m i zd;have f:=f.g8 m o;refine gv g5 Z ?_;have i:=d;refine ka d Z Z Z λai d n ak=>?_;have b:=b.g9 n j;have g:=g.g9 n i zd;have k:=k.g9 n i zd;have f:=f.g8 n o;have d:gu ai b8 91 (vv ((xd l).set.1,⟨V,W,q7,c7⟩)):=d;refine gv g5 Z (ga ?_);exact gk (⟨V,W,q7,c7⟩,p8,c8) Z ⟨⟨⟨g,k,(by show((xd l).str 1).1.length<_;omega),(by show((xd l).str 1).2.side.1.2.length<_;omega),(by show((xd l).str 1).2.side.2.side.1.2.length<_;omega)⟩,λu hu=>D u (q u (r u hu)),P⟩,b,d,f⟩;have E:((xd l).str 1).2.side.2.bad=true:=by simpa using hc
 have h5:=side_bad E;have es:(xd l).set.1=⟨((xd l).str 1).1,((xd l).str 1).2.side.1.1,false,((xd l).str 1).2.side.1.2,[]⟩:=by unfold Ds.set;dsimp only;rw[h5.1]
 have Q:(xd l).set.2.bad=true:=h5.2;have er:=restD_bad Q;have R:=restD_bad E;refine jw ?_;rw[<-es] at d;exact gk (⟨V,W,none,0⟩,p4,c4) (by dsimp only;rw[er,Q,R,E];rfl) ⟨⟨by dsimp only;rw[es];exact⟨g,jj.nil _ _ _ _,(by show((xd l).str 1).1.length<_;have e:(⟨l,false⟩:Ds)=xd l:=rfl;rw[e] at H;omega),(by have:=side_len ((xd l).str 1).2;have:=xj9 l 1;have e5:xv ((xd l).str 1).2=((xd l).str 1).2.rest:=aJ (by rw[J];decide);rw[show((⟨l,false⟩:Ds).str 1).2=((xd l).str 1).2 from Z,e5] at this;show((xd l).str 1).2.side.1.2.length<_;omega),(by show 0<_;decide)⟩,by dsimp only;rw[er];rw[R] at q;exact λu hu=>q u (r u hu),by dsimp only;rw[er];exact aF _⟩,b,d,f⟩;rintro⟨a,p5,c5⟩ ax ⟨⟨t,y,S⟩,b,d,f⟩;try dsimp only
 dsimp only at t y S d;refine ki (j8 d Z Z (gv g5 Z ?_));have T:=b;refine wl (gz (l':=vv ((xd l).set.1,a)) g5 b Z Z Z Z OneC.h λay b x am=>?_);have t:=t.g9 x T zd;have f:=f.g8 x F;refine vl Z (ko [_,_,_] ⟨⟨U,0,Z,kj g5 Z Z b.kc Z⟩,Z,Z,trivial⟩ ?_);exact⟨a,p5,c5,Z,t,y,S,f⟩
theorem zw2 {l : Bytes} (h : (rawB l).2.bad = true) : vi l = (D6, 7) := aM h
theorem off_bad1 {s : Ds} (h : s.bad = true) (n : Nat) : (s.off n).2.bad = true := by rw [xz9 h]
theorem raw_no {l:Bytes} (h:¬2<=l.length):(rawB l).2.bad=true:=by
 have e:(xd l).off 2=([],⟨l,true⟩):=aM (.inr (by show l.length<2;omega));unfold rawB;rw[show(⟨l,false⟩:Ds).off 2=_ from e];dsimp only;rw[C5 (n:=num []) Z,xz9 (s:=⟨l,true⟩) Z,C5 Z]
theorem off_yes {l:Bytes} {n:Nat} (h:n<=l.length):(xd l).off n=(ye l n,xd (Az l n)):=by
 rw[ye,Az,aM h,aM h];exact aJ (λe=>e.elim (λe=>by cases e) λe=>by have e:l.length<n:=e;omega)
theorem off_no {l:Bytes} {n:Nat} (h:¬n<=l.length):((xd l).off n).2.bad=true:=by
 have e:(xd l).off n=([],⟨l,true⟩):=aM (.inr (by show l.length<n;omega));rw[e]
theorem raw_eq {l:Bytes} {ys:List Bytes} {s1:Ds} (h:2<=l.length) (h1:Ds.each yq9 (num (ye l 2)) (xd (Az l 2))=(ys,s1)):rawB l=((ys,(Ds.each Ds.set (num (s1.off 1).1) (s1.off 1).2).1),(Ds.each Ds.set (num (s1.off 1).1) (s1.off 1).2).2):=by
 unfold rawB;rw[show(⟨l,false⟩:Ds).off 2=_ from off_yes h];dsimp only;rw[show Ds.each (λs=>s.str 2) (num (ye l 2)) (xd (Az l 2))=_ from h1]
theorem raw_bad {l:Bytes} (h:2<=l.length) (h1:(Ds.each yq9 (num (ye l 2)) (xd (Az l 2))).2.bad=true):(rawB l).2.bad=true:=by
 rw[raw_eq h Z];dsimp only;rw[C5 (off_bad1 h1 1)];exact off_bad1 h1 1
structure RdZ where
  i : Nat
  q : Option Addr
  k : Nat
  xs : List xq6
  l1 : Bytes
  p1 : Option Addr
  c1 : Nat
  ys : List Bytes
  r : Bool
structure RdI (w u : World) (p : Option Addr) (l : Bytes) (N : Nat) (s : Ds) (z : RdZ) : Prop where
  le : z.i <= N
  ea : Ds.each yq9 N s = (z.ys ++ (Ds.each yq9 (N - z.i) (xd z.l1)).1, (Ds.each yq9 (N - z.i) (xd z.l1)).2)
  xl : z.xs.length = z.i
  mp : z.xs.map Prod.fst = z.ys.map λy => (vy y).1
  ok : z.r = z.ys.all λy => decide ((vy y).2 = 0)
  own : jj w u z.q z.xs.length z.k 37 73 (z.xs.flatMap B2)
  all : ∀ x ∈ z.xs, Df x.1 /\ qs w u x.1 x.2
  sl : ∀ v, ux v p l -> ux v z.p1 z.l1
  cp : z.l1.length <= z.c1
  ll : z.l1.length <= l.length
structure RsZ where
  i : Nat
  q : Option Addr
  k : Nat
  xs : List zv1
  l1 : Bytes
  p1 : Option Addr
  c1 : Nat
structure RsI (w u : World) (p : Option Addr) (l : Bytes) (N : Nat) (s : Ds) (z : RsZ) : Prop where
  le : z.i <= N
  ea : Ds.each Ds.set N s = (z.xs.map Prod.fst ++ (Ds.each Ds.set (N - z.i) (xd z.l1)).1, (Ds.each Ds.set (N - z.i) (xd z.l1)).2)
  xl : z.xs.length = z.i
  own : jj w u z.q z.xs.length z.k 91 5 (z.xs.flatMap vv)
  all : ∀ x ∈ z.xs, y9 w u x
  sl : ∀ v, ux v p l -> ux v z.p1 z.l1
  cp : z.l1.length <= z.c1
  ll : z.l1.length <= l.length
theorem code_lenR {b:Bu} (h:Ad b):(u7 b).length<10000000:=by
 have c:=Cs h.2.2.1;have d:(b.sets.flatMap zv2).length<=b.sets.length*9000:=B0 λs a=>setB_len (h.2.2.2.1 s a);have e:=h.1;have f:=h.2.1;rw[u7];simp only[al,jz];omega
theorem side_rest (s:Ds):s.side.2.rest.length<=s.rest.length:=by
 unfold Ds.side Ds.str;exact Nat.le_trans (qf _).2 (Nat.le_trans (qf _).2 (qf _).2)
theorem set_rest (l:Bytes):(xv (xd l).set.2).length<=l.length:=by
 have a:(xv ((xd l).set).2).length<=((((xd l).str 1).2.side).2).rest.length:=restD_side _;have b:(((xd l).str 1).2.side).2.rest.length<=((xd l).str 1).2.rest.length:=side_rest _;have c:((xd l).str 1).2.rest.length<=l.length:=by unfold Ds.str;exact Nat.le_trans (qf _).2 (qf _).2
 omega
theorem read10_calls (w:World) {p:Option Addr} {c:Nat} {l:Bytes} (h:ux w p l) (hc:l.length<=c) (hl:l.length<900000000):
  ge prog 37 [.slice p l.length c] w λv w'=>∃B:qv,v= .tuple #[B.v,.int .i64 (vi l).2]/\B.d=(vi l).1/\ym w w' B/\Ext No w w':=by
 have a4:=h;refine gt func37 ?_;have o:=Ext.refl No w;refine ki (gn Z λb2 w1 cy f cz=>?_);have ap:=Nat.le_trans o.size cy;have o:=o.g4 cz;have f:gu w1 b2 25 (um.c):=f;refine k9 Z (ki (gn Z λb4 w2 bz n b0=>?_));have aw:=gw f.lt bz;have b1:=Nat.le_trans o.size bz;have f:=f.g0 b0;have o:=o.g4 b0;have n:gu w2 b4 25 ([.slice none 0 0,.slice none 0 0]):=n;refine qi (jn Z (jy Z (g7 call112 Z (De w2 (h.g0 o) hc hl 2 zd) ?_)));rintro v3 w3⟨q0,c0,p1,c1,rfl,c8,ag,ax,bj⟩;have f:=f.g0 bj;have n:=n.g0 bj;have o:=o.g4 bj;refine k9 Z (gh (jn Z (u5 Z (λhc=>?_) (λhc=>?_))));have a5:¬2<=l.length:=by simpa using hc
 have F:=zw2 (raw_no a5);refine ki (jv Z trivial (l':=um.c) Z (wl (gz (l':=um.c) g5 f Z Z Z Z OneC.h λw4 f c9 b3=>?_)));have o:=o.g8 c9 ap;refine vl Z (j2 (ko [_,_] ⟨⟨b2,0,Z,kj g5 Z Z f.kc Z⟩,Z,trivial⟩ ?_));exact⟨um,by rw[F];rfl,by rw[F];rfl,ym.no _ _,o⟩
 have ay:2<=l.length:=by simpa using hc
 have hr:=Cv l 2;have ht:=cutT1_len l 2;obtain⟨N0,a6⟩:∃N,N=num (ye l 2):=⟨_,Z⟩
 have ee:N0<65536:=by rw[a6];exact aG (ug _) (Nat.le_trans (cK zd ht) zd)
 obtain⟨s0,bk⟩:∃s0:Ds,s0=xd (Az l 2):=⟨_,Z⟩
 refine vo (gh (jy Z (g7 call113 Z (Ce w3 c8.sl zo) ?_)));rintro v5 w5⟨rfl,rfl⟩;rw[<-a6];refine k9 Z (j0 (ja (α:=RdZ) [0,2,4] Z (λz=>[(5,.bool z.r),(7,.slice z.p1 z.l1.length z.c1),(9,.int .u64 ((N0-z.i:Nat):Int))]) (λz u=>(RdI w u p l N0 s0 z)/\gu u b2 25 (um.c)/\gu u b4 25 ([.slice z.q z.xs.length z.k,.slice none 0 0])/\Ext No w u) (λz u=>N0-z.i) (⟨0,none,0,[],Az l 2,p1,c1,[],true⟩) Z ⟨⟨aF _,by rw[bk];rfl,Z,Z,Z,jj.nil _ _ _ _,λ_ h=>(by cases h),ag,ax,hr⟩,f,n,o⟩ ?_));rintro⟨i,q,k,J,C,p1,c1,ys,rt⟩ w6 ⟨⟨hi,aq,b5,bm,a7,D,g,ag,ax,bn⟩,f,n,o⟩;try dsimp only
 dsimp only at hi aq b5 bm a7 D g ag ax bn n;refine gh (jn Z (jc Z (λhc=>?_) (λhc=>?_)));have db:i<N0:=by omega
 have dc:=str_len1 C 2;have b6:=dec_ok (l:=((xd C).str 2).1) (bP dc zo);rw[show N0-i=(N0-i-1)+1 from by omega,Ds.zx4 Z] at aq;refine yz (jy Z ?_);have bp:=o;refine g7 call114 Z (object10_calls w6 (ag _ (a4.g0 o)) ax zo) ?_;rintro v7 w7⟨a,p2,c2,rfl,G,az,a8,a0⟩;have f:=f.g0 a0;have n:=n.g0 a0;have D:=D.g0 a0;have g:=λx t=>And.intro (g x t).1 ((g x t).2.g0 a0);have o:=o.g4 a0;have G:=G.older (W0:=w) bp.size;refine gv g5 Z ?_;have bq:=D;refine gn Z λde w8 ah aa ar=>?_;have a9:=gw f.lt ah;have ba:=gw n.lt ah;have b7:=Nat.le_trans o.size ah;have f:=f.g0 ar;have n:=n.g0 ar;have D:=D.g0 ar;have g:=λx t=>And.intro (g x t).1 ((g x t).2.g0 ar);have G:=G.g0 ar;have o:=o.g4 ar;have df:∀y,j5 q y->y≠de:=λy hy=>gw (bq.own.lt hy) ah;have a1:=aa;have hoi:vn (obR C):=by unfold obR;split;exact ky;exact b6.1
 refine wl (gz (l':=js (obR C) a) g5 aa Z Z (gi hoi) (by rw[gi hoi];rfl) OneC.h λw9 aa au ef=>?_);have f:=f.g9 au a9;have n:=n.g9 au ba;have D:=jj.mk (D.own.ext au λy hy e=>df y hy e) D.new;have g:=λx t=>And.intro (g x t).1 ((g x t).2.g9 au a1 zd zd zd);have G:=G.g9 au a1 zd zd zd;have o:=o.g8 au b7;refine k9 Z (gh (jn Z (u5 Z (λhc=>?_) (λhc=>?_))));have hb:((xd C).str 2).2.bad=true:=by simpa using hc
 have F:=zw2 (raw_bad ay (by rw[<-a6,<-bk,aq];dsimp only;rw[C5 (s:=((xd C).str 2).2) hb];exact hb));refine ki (jv Z trivial (l':=um.c) Z (wl (gz (l':=um.c) g5 f Z Z Z Z OneC.h λeg f b8 d3=>?_)));have o:=o.g8 b8 ap;refine vl Z (j2 (gGk (ko [_,_] ⟨⟨b2,0,Z,kj g5 Z Z f.kc Z⟩,Z,trivial⟩ ?_)));exact⟨um,by rw[F];rfl,by rw[F];rfl,ym.no _ _,o⟩
 have hb:((xd C).str 2).2.bad=false:=by simpa using hc
 have b9:obR C=(vy ((xd C).str 2).1).1:=aJ (by rw[show(⟨C,false⟩:Ds)=xd C from Z,hb];decide);have dg:isR C=decide ((vy ((xd C).str 2).1).2=0):=aJ (by rw[show(⟨C,false⟩:Ds)=xd C from Z,hb];decide);have br:=ds_good hb;have bs:(xv ((xd C).str 2).2).length<=C.length:=xj9 C 2;have dh:Df (obR C):=by rw[b9];exact b6
 refine vo (jb (α:=Bool) [0,2,4,9,10,12] Z (λz=>[(5,.bool z)]) (λz u=>u=w9/\z=(rt&&isR C)) ?_ ?_);refine gr (gv g5 Z (qy 44 Z (λhg=>?_) (λhg=>?_)));refine gm g5 3 Z (ga ?_);exact gk (_) Z ⟨Z,by rw[hg];rfl⟩;refine gm g5 3 Z (ga ?_);exact gk (false) Z ⟨Z,by rw[hg];rfl⟩;rintro z eh ⟨hu,rfl⟩;have hu:=hu.symm;subst hu;refine jy Z (j3 n Z Z (j8 aa Z (gi hoi) (wl (kz g5 Z 73 Z objZc (gi ky) zd zd ⟨⟨by rw[j4];exact gi hoi,by decide⟩,trivial⟩ (l':=js (obR C) a) (yj4 hoi) λdi ei a2 ca W d4=>?_))));have cu:=gw f.lt a2;have cv:=gw n.lt a2;have cb:=gw aa.lt a2;have f:=f.g0 W;have n:=n.g0 W;have D:=D.g0 W;have g:=λx t=>And.intro (g x t).1 ((g x t).2.g0 W);have G:=G.g0 W;have o:=o.g4 W;have bb:=D.own;refine wl (vu g5 Z 73 192 Z Z Z zd D (Src.slice (m:=1) ⟨gi hoi,.inr ⟨di,0,Z,ca.kc⟩⟩ OneC.h) zm zn (n':=(J++[(obR C,a)]).length) (ys:=(J++[(obR C,a)]).flatMap B2) zh (by rw[aQ,bB];rfl) o λq k ej D ab o=>?_);dsimp only at D ab;have f:=f.jq bb ab (show(37:Nat)≠25 from by decide);have n:=n.jq bb ab (show(37:Nat)≠25 from by decide);have g:=λx t=>And.intro (g x t).1 ((g x t).2.extT bb ab zd zd zd);have G:=G.extT bb ab zd zd zd;refine gv g5 Z ?_;have H:=n;refine ka n Z Z Z λdj n ac d5=>?_;have f:=f.g9 ac aw;have D:=D.g9 ac H zd;have g:=λx t=>And.intro (g x t).1 ((g x t).2.g9 ac H zd zd zd);have G:=G.g9 ac H zd zd zd;have o:=o.g8 ac b1;have n:gu dj b4 25 ([.slice q (J++[(obR C,a)]).length k,.slice none 0 0]):=n;refine qi (xt Z (ga (yt Z ?_)));rw[cR _ zo,show((N0-i:Nat):Int)-1=((N0-(i+1):Nat):Int) from by omega];refine gv g5 Z (ga ?_);exact j9 (⟨i+1,q,k,J++[(obR C,a)],xv ((xd C).str 2).2,p2,c2,ys++[((xd C).str 2).1],rt&&isR C⟩) Z ⟨⟨db,by dsimp only;rw[aq,<-br,show N0-(i+1)=N0-i-1 from by omega,aU];rfl,by simp[b5],by dsimp only;rw[bE,bE,bm];show _++[obR C]=_;rw[b9];rfl,by dsimp only;rw[a7,dg,List.all_append];simp,D,λx t=>(aV.1 t).elim (g x) (λe=>by rw[aE.1 e];exact⟨dh,G⟩),λv hv=>az v (ag v hv),a8,Nat.le_trans bs bn⟩,f,n,o⟩ zf;have h0:N0-i=0:=by omega
 rw[h0] at aq;have bt:Ds.each yq9 N0 s0=(ys,xd C):=by rw[aq,Ds.each,bJ]
 rw[bk,a6] at bt;refine zu (jy Z (g7 call112 Z (De w6 (ag _ (a4.g0 o)) ax zo 1 zd) ?_));rintro ek dk⟨q3,c3,p4,c4,rfl,dm,b3,dn,ad⟩;have f:=f.g0 ad;have n:=n.g0 ad;have D:=D.g0 ad;have g:=λx t=>And.intro (g x t).1 ((g x t).2.g0 ad);have o:=o.g4 ad;refine k9 Z (gh (jn Z (u5 Z (λhc=>?_) (λhc=>?_))));have a5:¬1<=C.length:=by simpa using hc
 have F:=zw2 (l:=l) (by rw[raw_eq ay bt];dsimp only;rw[C5 (off_no a5)];exact off_no a5);refine ki (jv Z trivial (l':=um.c) Z (wl (gz (l':=um.c) g5 f Z Z Z Z OneC.h λem f cd d6=>?_)));have o:=o.g8 cd ap;refine vl Z (j2 (ko [_,_] ⟨⟨b2,0,Z,kj g5 Z Z f.kc Z⟩,Z,trivial⟩ ?_));exact⟨um,by rw[F];rfl,by rw[F];rfl,ym.no _ _,o⟩
 have bu:1<=C.length:=by simpa using hc
 have dp:=Cv C 1;have dq:=cutT1_len C 1;have L:=raw_eq ay bt;rw[off_yes bu] at L;dsimp only at L;obtain⟨N1,bv⟩:∃N,N=num (ye C 1):=⟨_,Z⟩
 have d7:N1<256:=by rw[bv];exact aG (ug _) (Nat.le_trans (cK zd dq) zd)
 obtain⟨s1,bf⟩:∃s1:Ds,s1=xd (Az C 1):=⟨_,Z⟩
 rw[<-bv,<-bf] at L;refine vo (gh (jy Z (g7 call113 Z (Ce dk dm.sl zo) ?_)));rintro en ep⟨rfl,rfl⟩;rw[<-bv];refine k9 Z (j0 (ja (α:=RsZ) [0,2,4,5] Z (λz=>[(7,.slice z.p1 z.l1.length z.c1),(14,.int .u64 ((N1-z.i:Nat):Int))]) (λz u=>(RsI w u p l N1 s1 z/\jj w u q J.length k 37 73 (J.flatMap B2)/\(∀x∈J,Df x.1/\qs w u x.1 x.2))/\gu u b2 25 (um.c)/\gu u b4 25 ([.slice q J.length k,.slice z.q z.xs.length z.k])/\Ext No w u) (λz u=>N1-z.i) (⟨0,none,0,[],Az C 1,p4,c4⟩) Z ⟨⟨⟨aF _,by rw[bf];rfl,Z,jj.nil _ _ _ _,λ_ h=>(by cases h),λv hv=>b3 v (ag v hv),dn,Nat.le_trans dp bn⟩,D,g⟩,f,n,o⟩ ?_));rintro⟨j,X,R,Q,l2,p2,c2⟩ bw ⟨⟨⟨hj,av,bg,A,E,az,a8,bh⟩,D,g⟩,f,n,o⟩;try dsimp only
 dsimp only at hj av bg A E az a8 bh n;refine gh (jn Z (jc Z (λhc=>?_) (λhc=>?_)));have dr:j<N1:=by omega
 rw[show N1-j=(N1-j-1)+1 from by omega,Ds.zx4 Z] at av;refine yz (jy Z ?_);have bp:=o;refine g7 call115 Z (set10_calls bw (az _ (a4.g0 o)) a8 zo) ?_;rintro eq er⟨a,p6,c6,rfl,K,ds,dt,S⟩;have f:=f.g0 S;have n:=n.g0 S;have D:=D.g0 S;have g:=λx t=>And.intro (g x t).1 ((g x t).2.g0 S);have A:=A.g0 S;have E:=λx t=>(E x t).g0 S;have o:=o.g4 S;have K:=K.older (V:=w) bp.size;refine gv g5 Z ?_;have bq:=A;refine gn Z λdu es ai ae M=>?_;have bc:=gw f.lt ai;have bd:=gw n.lt ai;have cg:=Nat.le_trans o.size ai;have f:=f.g0 M;have n:=n.g0 M;have D:=D.g0 M;have g:=λx t=>And.intro (g x t).1 ((g x t).2.g0 M);have A:=A.g0 M;have E:=λx t=>(E x t).g0 M;have K:=K.g0 M;have o:=o.g4 M;have dv:∀y,j5 X y->y≠du:=λy hy=>gw (bq.own.lt hy) ai;have I:=ae;refine wl (gz (l':=vv ((xd l2).set.1,a)) g5 ae Z Z Z Z OneC.h λet ae O d8=>?_);have f:=f.g9 O bc;have n:=n.g9 O bd;have D:=D.g9 O I zd;have g:=λx t=>And.intro (g x t).1 ((g x t).2.g9 O I zd zd zd);have A:=jj.mk (A.own.ext O λy hy e=>dv y hy e) A.new;have E:=λx t=>(E x t).g9 O I zd;have K:=K.g9 O I zd;have o:=o.g8 O cg;refine k9 Z (gh (jn Z (u5 Z (λhc=>?_) (λhc=>?_))));have hb:(xd l2).set.2.bad=true:=by simpa using hc
 have F:=zw2 (l:=l) (by rw[L,av];dsimp only;rw[C5 (s:=(xd l2).set.2) hb];exact hb);refine ki (jv Z trivial (l':=um.c) Z (wl (gz (l':=um.c) g5 f Z Z Z Z OneC.h λeu f ch d9=>?_)));have o:=o.g8 ch ap;refine vl Z (j2 (gGk (ko [_,_] ⟨⟨b2,0,Z,kj g5 Z Z f.kc Z⟩,Z,trivial⟩ ?_)));exact⟨um,by rw[F];rfl,by rw[F];rfl,ym.no _ _,o⟩
 have hb:(xd l2).set.2.bad=false:=by simpa using hc
 have br:=ds_good hb;have bs:(xv (xd l2).set.2).length<=l2.length:=set_rest l2;refine vo (jy Z (j3 n Z Z (j8 ae Z Z (wl (kz g5 Z 5 Z setZc Z zd zd ⟨⟨Z,by decide⟩,trivial⟩ (l':=vv ((xd l2).set.1,a)) (set_put _) λdw ev a3 ci P ea=>?_)))));have cw:=gw f.lt a3;have cx:=gw n.lt a3;have cj:=gw ae.lt a3;have f:=f.g0 P;have n:=n.g0 P;have D:=D.g0 P;have g:=λx t=>And.intro (g x t).1 ((g x t).2.g0 P);have A:=A.g0 P;have E:=λx t=>(E x t).g0 P;have K:=K.g0 P;have o:=o.g4 P;have Y:=A.own;refine wl (vu g5 Z 5 72 Z Z Z zd A (Src.slice (m:=1) ⟨Z,.inr ⟨dw,0,Z,ci.kc⟩⟩ OneC.h) zm zn (n':=(Q++[((xd l2).set.1,a)]).length) (ys:=(Q++[((xd l2).set.1,a)]).flatMap vv) zh (by rw[aQ,bB]) o λX R ew A T o=>?_);dsimp only at A T;have f:=f.jq Y T (show(91:Nat)≠25 from by decide);have n:=n.jq Y T (show(91:Nat)≠25 from by decide);have D:=D.Dg Y T zd;have g:=λx t=>And.intro (g x t).1 ((g x t).2.extT Y T zd zd zd);have E:=λx t=>(E x t).Dg Y T zd;have K:=K.Dg Y T zd;refine gv g5 Z ?_;have H:=n;refine ka n Z Z Z λdx n U eb=>?_;have f:=f.g9 U aw;have D:=D.g9 U H zd;have g:=λx t=>And.intro (g x t).1 ((g x t).2.g9 U H zd zd zd);have A:=A.g9 U H zd;have E:=λx t=>(E x t).g9 U H zd;have K:=K.g9 U H zd;have o:=o.g8 U b1;have n:gu dx b4 25 ([.slice q J.length k,.slice X (Q++[((xd l2).set.1,a)]).length R]):=n;refine qi (xt Z (ga (yt Z ?_)));rw[cR _ zo,show((N1-j:Nat):Int)-1=((N1-(j+1):Nat):Int) from by omega];refine gv g5 Z (ga ?_);exact j9 (⟨j+1,X,R,Q++[((xd l2).set.1,a)],xv (xd l2).set.2,p6,c6⟩) Z ⟨⟨⟨dr,by dsimp only;rw[av,<-br,show N1-(j+1)=N1-j-1 from by omega,bE,aU];rfl,by simp[bg],A,λx t=>(aV.1 t).elim (E x) (λe=>by rw[aE.1 e];exact K),λv hv=>ds v (az v hv),dt,Nat.le_trans bs bh⟩,D,g⟩,f,n,o⟩ zf;have h0:N1-j=0:=by omega
 rw[h0] at av;have ck:Ds.each Ds.set N1 s1=(Q.map Prod.fst,xd l2):=by rw[av,Ds.each,bJ]
 rw[ck] at L;dsimp only at L;have G:ym w bw (qv.mk q k J X R Q):=⟨D,A,g,E,by show J.length<_;omega,by show Q.length<_;omega⟩
 have dy:(qv.mk q k J X R Q).d=batOf (rawB l).1:=by rw[L];show Bu.mk (J.map Prod.fst) (Q.map Prod.fst)=_;rw[bm];rfl
 have F:vi l=if(∀y∈ys,(vy y).2=0)/\Ad (qv.mk q k J X R Q).d/\u7 (qv.mk q k J X R Q).d=l then((qv.mk q k J X R Q).d,0) else(D6,2):=by rw[vi,dy,L];exact aJ (λe=>by cases e)
 refine zu (gh (jb (α:=Bool) [2,4] Z (λz=>[(98,.bool z)]) (λz u=>(z=decide (¬((∀y∈ys,(vy y).2=0)/\Ad (qv.mk q k J X R Q).d/\u7 (qv.mk q k J X R Q).d=l))/\ym w u (qv.mk q k J X R Q))/\gu u b2 25 (um.c)/\gu u b4 25 ([.slice q J.length k,.slice X Q.length R])/\Ext No w u) ?_ ?_));refine gr (gv g5 Z (qy 87 Z (λhg=>?_) (λhg=>?_)));have cm:¬∀y∈ys,(vy y).2=0:=λk=>by rw[a7] at hg;simp at hg;obtain⟨y,hy,dz⟩:=hg;exact dz (k y hy)
 refine gm g5 11 Z (ga ?_);exact gk (true) Z ⟨⟨by symm;rw[aO];exact λk=>cm k.1,G⟩,f,n,o⟩;have bx:∀y∈ys,(vy y).2=0:=by rw[a7] at hg;simpa using hg
 refine j8 n Z Z (g7 call32 Z (may10_calls bw (b:=(qv.mk q k J X R Q)) G.at) ?_);rintro ex d0⟨rfl,aj⟩;have f:=f.g0 aj;have n:=n.g0 aj;have G:=G.g0 aj;have o:=o.g4 aj;refine gm g5 3 Z (qy 92 Z (λhg=>?_) (λhg=>?_));have cp:¬Ad (qv.mk q k J X R Q).d:=by simpa using hg
 refine gm g5 6 Z (ga ?_);exact gk (true) Z ⟨⟨by symm;rw[aO];exact λk=>cp k.2.1,G⟩,f,n,o⟩;have ak:Ad (qv.mk q k J X R Q).d:=by simpa using hg
 refine j8 n Z Z (g7 call34 Z (code10_calls d0 (b:=(qv.mk q k J X R Q)) G.at ak.2.2.1 ak.2.2.2.1 (by show J.length<_;omega) (by show Q.length<_;omega)) ?_);rintro ey d1⟨q7,c7,rfl,d2,am⟩;have f:=f.g0 am;have n:=n.g0 am;have G:=G.g0 am;have o:=o.g4 am;have ez:=code_lenR ak;refine gm g5 1 Z (g7 call93 Z (zq9 d1 d2.sl (a4.g0 o) zo) ?_);rintro e0 e1⟨rfl,an⟩;have f:=f.g0 an;have n:=n.g0 an;have G:=G.g0 an;have o:=o.g4 an;refine gm g5 2 Z (ga ?_);exact gk (_) Z ⟨⟨by rw[<-decide_not,aH];exact⟨λk R=>k R.2.2,λk R=>k ⟨bx,ak,R⟩⟩,G⟩,f,n,o⟩;rintro z e2 ⟨⟨rfl,G⟩,f,n,o⟩;refine jc Z (λhc=>?_) (λhc=>?_);have af:vi l=(D6,2):=by rw[F];exact aJ hc
 refine ki (jv Z trivial (l':=um.c) Z (wl (gz (l':=um.c) g5 f Z Z Z Z OneC.h λe3 f cs ec=>?_)));have o:=o.g8 cs ap;refine vl Z (j2 (ko [_,_] ⟨⟨b2,0,Z,kj g5 Z Z f.kc Z⟩,Z,trivial⟩ ?_));exact⟨um,by rw[af];rfl,by rw[af];rfl,ym.no _ _,o⟩
 have af:vi l=((qv.mk q k J X R Q).d,0):=by rw[F];exact aM (aN.1 hc)
 refine vo (ki (j8 n Z Z ?_));have ct:=f;refine wl (gz (l':=(qv.mk q k J X R Q).c) g5 f Z Z Z Z OneC.h λe4 f bi ed=>?_);have G:=G.extB bi ct;have o:=o.g8 bi ap;refine vl Z (ko [_,_] ⟨⟨b2,0,Z,kj g5 Z Z f.kc Z⟩,Z,trivial⟩ ?_);exact⟨(qv.mk q k J X R Q),by rw[af];rfl,by rw[af],G,o⟩
structure PcX where
  p : Option Addr
  l : Bytes
  c : Nat
def PcX.cell (r : PcX) : List Value := [.slice r.p r.l.length r.c]
instance (r : PcX) : OneC r.cell := by unfold PcX.cell; infer_instance
def SlN (w u : World) (p : Option Addr) (n c T sz : Nat) (xs : List Value) : Prop := Sl w p n sz xs \/ jj w u p n c T sz xs
theorem SlN.sl {w u:World} {p:Option Addr} {n c T sz:Nat} {xs:List Value} (h:SlN w u p n c T sz xs) (hX:Ext No w u):Sl u p n sz xs:=h.elim (λe=>e.g0 hX) λe=>e.sl
theorem SlN.g0 {w u u':World} {p:Option Addr} {n c T sz:Nat} {xs:List Value} (h:SlN w u p n c T sz xs) (hE:Ext No u u'):SlN w u' p n c T sz xs:=h.imp id λe=>e.g0 hE
theorem SlN.g9 {w u u':World} {p:Option Addr} {n c T sz:Nat} {xs:List Value} (h:SlN w u p n c T sz xs) {b T':Nat} {L:List Value} (hE:Ext (One b) u u') (hb:gu u b T' L) (hT:T≠T'):SlN w u' p n c T sz xs:=h.imp id λe=>e.g9 hE hb hT
def xq5 (sn : Bytes) (ps : List Bytes) : Nat -> Option C3
  | 0 => some yx3
  | i + 1 => (xq5 sn ps i).bind λs => (ud s (ps.getD i [])).bind λt => if i = 0 /\ sn ≠ [] /\ u7 (y7 t) ≠ sn then none else some t
theorem run_step {sn:Bytes} {ps:List Bytes} {i:Nat} {s:C3} (hi:i<ps.length) (h:xq5 sn ps i=some s):xq5 sn ps (i+1)=(ud s ps[i]).bind λt=>if i=0/\sn≠[]/\u7 (y7 t)≠sn then none else some t:=by
 show(xq5 sn ps i).bind _=_;rw[h,bQ,aS hi];rfl
theorem run_none {sn:Bytes} {ps:List Bytes} {i:Nat} (h:xq5 sn ps i=none):∀k,xq5 sn ps (i+k)=none
 |0=>h
 |k+1=>by show(xq5 sn ps (i+k)).bind _=none;rw[run_none h k];rfl
theorem run_nil {ps:List Bytes}:∀i,i<=ps.length->xq5 [] ps i=(ps.take i).foldl sayF (some yx3)
 |0,_=>rfl
 |i+1,h=>by
  rw[B4 (show i<ps.length from h),<-run_nil i (Nat.le_of_succ_le h)]
  show(xq5 [] ps i).bind _=(xq5 [] ps i).bind _
  congr 1;funext s
  rw[bQ,aS h,Option.getD_some]
  cases ud s ps[i] with
  |none=>rfl
  |some t=>exact aJ λe=>e.2.1 Z
theorem run_cons {sn:Bytes} {l:List Bytes} (hs:sn≠[]):∀i,i<=l.length->xq5 sn (sn::l) (i+1)=(l.take i).foldl sayF (xe sn)
 |0,_=>by
  rw[run_step (s:=yx3) (by rw[aR];omega) Z]
  show _=xe sn
  rw[xe,aJ hs]
  congr 1;funext t
  by_cases k:u7 (y7 t)=sn
  ·rw[aM k,aJ λe=>e.2.2 k]
  rw[aJ k,aM ⟨Z,hs,k⟩]
 |i+1,h=>by
  rw[B4 (show i<l.length from h),<-run_cons hs i (Nat.le_of_succ_le h)]
  show(xq5 sn (sn::l) (i+1)).bind _=(xq5 sn (sn::l) (i+1)).bind _
  congr 1;funext s
  rw[bQ,aS (by rw[aR];omega),Option.getD_some,List.getElem_cons_succ]
  cases ud s l[i] with
  |none=>rfl
  |some t=>exact(show(if i+1=0/\sn≠[]/\u7 (y7 t)≠sn then none else some t)=some t from aJ λe=>by cases e.1)
theorem run_all {sn:Bytes} {l ps:List Bytes} (h:ps=if sn=[] then l else sn::l):xq5 sn ps ps.length=Cb (sn::l):=by
 show _=l.foldl sayF (xe sn);by_cases hs:sn=[];rw[aM hs] at h;subst hs;subst h;rw[run_nil _ (aA _),bC];rfl;rw[aJ hs] at h;subst h;rw[aR,run_cons hs _ (aA _),bC]
theorem run_no {sn:Bytes} {l ps:List Bytes} {i:Nat} (h:ps=if sn=[] then l else sn::l) (hi:i<=ps.length) (k:xq5 sn ps i=none):Cb (sn::l)=none:=by
 rw[<-run_all h,show ps.length=i+(ps.length-i) from by omega];exact run_none k _
theorem run_ok {sn:Bytes} {ps:List Bytes}:∀{i:Nat} {s:C3},i<=ps.length->xq5 sn ps i=some s->s.Ok/\s.row.length<=((ps.take i).map List.length).sum
 |0,s,_,h=>by cases h;exact⟨yw0,aF _⟩
 |i+1,s,hi,h=>by
  cases hr:xq5 sn ps i with
  |none=>rw[run_none hr 1] at h;cases h
  |some r=>
   rw[run_step hi hr] at h
   obtain⟨t,h1,h2⟩:=Option.bind_eq_some_iff.1 h
   split at h2
   ·cases h2
   cases h2
   have k:=run_ok (Nat.le_of_succ_le hi) hr
   have a:=said_ok k.1 h1
   refine⟨a.1,?_⟩
   rw[List.take_succ_eq_append_getElem hi,bE,List.sum_append]
   show _<=_+(ps[i].length+0)
   omega
theorem sum_takeB (l:List Bytes) (i:Nat):((l.take i).map List.length).sum<=(l.map List.length).sum:=by
 have e:((l.take i++l.drop i).map List.length).sum=(l.map List.length).sum:=by rw[cM]
 rw[bE,List.sum_append] at e;omega
theorem sum_get {l:List Bytes} {i:Nat} (hi:i<l.length):l[i].length<=(l.map List.length).sum:=by
 have e:=sum_takeB l (i+1);rw[List.take_succ_eq_append_getElem hi,bE,List.sum_append] at e;have a:(List.map List.length [l[i]]).sum=l[i].length:=by simp
 omega
theorem after_fresh {s:C3} {b:Bu}:(jp s b).2.1.objs.length<=b.objs.length:=by
 have h:∀(l:List jr) (r f:List jr) (p:List jr×List jr),l.foldl brO (some (r,f))=some p->p.2.length<=f.length+l.length:=λl=>by
  induction l with
  |nil=>intro r f p h;cases h;exact aA _
  |cons o l ih=>
   intro r f p h;rw[List.foldl_cons] at h;have e:brO (some (r,f)) o=if xj o∈u1 r then some (r,f) else if∀x∈k8 o,x∈u1 r then some (r++[o],f++[o]) else none:=rfl
   rw[e] at h;by_cases k:xj o∈u1 r;rw[aM k] at h;have:=ih _ _ _ h;rw[aR];omega;rw[aJ k] at h;by_cases k2:∀x∈k8 o,x∈u1 r;rw[aM k2] at h;have:=ih _ _ _ h;rw[al] at this;rw[aR];simp at this;omega;rw[aJ k2] at h;rw[B6 brO_none] at h;cases h
 unfold jp;split;exact aF _;rename_i p a;split;exact aF _;split;exact aF _;have:=h _ _ _ _ a;simpa using this
theorem allD_sets {s:C3} (h:s.Ok):∀x∈(y7 s).sets,Cj x:=λx a=>by
 obtain⟨v,b,rfl⟩:=bL.1 a
 have k:=h.vals v b
 exact⟨k.1,k.2.1,⟨aF _,.inr Z⟩,⟨k.2.2,.inl Z⟩⟩
theorem allD_len {s:C3} (h:s.Ok) (hr:s.row.length<=60000):(u7 (y7 s)).length<1000000000:=by
 have b:=Cs h.objs;have c:((y7 s).sets.flatMap zv2).length<=(y7 s).sets.length*9000:=B0 λx a=>setB_len (allD_sets h x a);have d:(y7 s).sets.length=s.vals.length:=aB _;have f:=h.few;have e:u7 (y7 s)=be 2 s.row.length++za s.row++be 1 (y7 s).sets.length++(y7 s).sets.flatMap zv2:=rfl;rw[e,al,al,al,jz,jz];omega
theorem own_in {W u:World} {p:Option Addr} {n c T sz:Nat} {xs:List Value} (h:Own u p n c T sz xs) (hn:∀x,j5 p x->W.heap.size<=x):InH p (Grow No W u):=λb a e=> .inr ⟨xj6 ⟨h,hn⟩ (λ_ h=>h) b a e,ownN_lt ⟨h,hn⟩ b a e⟩
theorem objNew_in {W V u:World} {o:jr} {a:vh} (h:qs W u o a) (hV:V.heap.size<=W.heap.size):InH a.lp (Grow No V u)/\InH a.pp (Grow No V u)/\InH a.rp (Grow No V u):=
 ⟨own_in h.ol λx b=>Nat.le_trans hV (h.nl x b),own_in h.op λx b=>Nat.le_trans hV (h.np x b),own_in h.or λx b=>Nat.le_trans hV (h.nr x b)⟩
theorem grow_mono {H:Nat->Prop} {W u u':World} (h:u.heap.size<=u'.heap.size):∀y,Grow H W u y->Grow H W u' y:=λ_ e=>e.imp id λe=>⟨e.1,aG e.2 h⟩
abbrev stoZ : yb := ⟨none, 0, [], none, 0, []⟩
theorem stoZ_at (u : World) : C8 u stoZ := ⟨Sl.nil _ _ _, Sl.nil _ _ _, λ_ e => (by cases e), λ_ e => (by cases e), by decide, by decide⟩
theorem stoZ_in (H:Nat->Prop):zv0 H stoZ:=⟨λ_ _ e=>(by cases e),λ_ _ e=>(by cases e),λ_ e=>(by cases e),λ_ e=>(by cases e)⟩
structure SaidQ (w w' : World) (r : Option C3) (S : yb) : Prop where
  s : ∀ s, r = some s -> S.s = s
  a : C8 w' S
  i : zv0 (Grow No w w') S
theorem SaidQ.no {w w' : World} {r : Option C3} (h : r = none) : SaidQ w w' r stoZ := ⟨λ_ e => (by rw [h] at e; cases e), stoZ_at _, stoZ_in _⟩
theorem yj1 (w:World) {sp:Option Addr} {sc:Nat} {sn:Bytes} (hs:ux w sp sn) (hsc:sn.length<=sc) {lq:Option Addr} {lc:Nat} {ls:List PcX} (hl:Sl w lq ls.length 1 (ls.flatMap PcX.cell)) (hli:∀r∈ls,ux w r.p r.l/\r.l.length<=r.c) (hn:ls.length<1000000) (hsz:sn.length+((ls.map PcX.l).map List.length).sum<=60000):
  ge prog 157 [.slice sp sn.length sc,.slice lq ls.length lc] w λv w'=>∃S:yb,v= .tuple #[S.v,.bool (Cb (sn::ls.map PcX.l)).isSome]/\SaidQ w w' (Cb (sn::ls.map PcX.l)) S/\Ext No w w':=by
 refine gt func157 ?_;have A:=Ext.refl No w;refine ki (gn Z λb4 w1 cx a cy=>?_);have ak:=Nat.le_trans A.size cx;have A:=A.g4 cy;have a:gu w1 b4 102 ([.slice none 0 0,.slice none 0 0]):=a;refine k9 Z (ki (gn Z λb6 w2 bz f b0=>?_));have ba:=gw a.lt bz;have b1:=Nat.le_trans A.size bz;have a:=a.g0 b0;have A:=A.g4 b0;have f:gu w2 b6 102 ([.slice none 0 0,.slice none 0 0]):=f;refine qi (jn Z (jb (α:=Option Addr×Nat×List PcX) [0,4,6] Z (λz=>[(7,.slice z.1 z.2.2.length z.2.1)]) (λz u=>(SlN w u z.1 z.2.2.length z.2.1 41 1 (z.2.2.flatMap PcX.cell)/\z.2.2=(if sn=[] then ls else⟨sp,sn,sc⟩::ls))/\gu u b4 102 ([.slice none 0 0,.slice none 0 0])/\gu u b6 102 ([.slice none 0 0,.slice none 0 0])/\Ext No w u) ?_ ?_));refine gh (gr (k9 Z (jc Z (λhc=>?_) (λhc=>?_))));have ac:sn≠[]:=λe=>by rw[e] at hc;exact absurd hc zd
 refine xt Z ?_;have cz:=A;refine wl (kz g5 Z 1 Z Z Z zd zd ⟨⟨Z,by decide⟩,trivial⟩ (l':=[.slice sp sn.length sc]) Z λc0 w3 b2 b3 bb dw=>?_);have a:=a.g0 bb;have f:=f.g0 bb;have A:=A.g4 bb;have g:jj w w3 (some ⟨c0,0,none⟩) 1 1 41 1 [.slice sp sn.length sc]:=⟨Own.blk (n:=1) (c:=1) b3 1 Z (aA _) zd,λy hy=>by cases hy;exact Nat.le_trans cz.size b2⟩
 refine gv g5 Z ?_;have a5:=g.own;refine wl (vu g5 Z 1 24 Z Z Z zd g (Src.slice (hl.g0 A) OneC.h) zm zn (n':=((⟨sp,sn,sc⟩:PcX)::ls).length) (ys:=((⟨sp,sn,sc⟩:PcX)::ls).flatMap PcX.cell) (by rw[aR];exact Nat.add_comm _ _) (by rw[cZ];rfl) A λq c w4 g bc A=>?_);dsimp only at g bc;have a:=a.jq a5 bc (show(41:Nat)≠102 from by decide);have f:=f.jq a5 bc (show(41:Nat)≠102 from by decide);refine gv g5 Z (ga ?_);exact gk (q,c,⟨sp,sn,sc⟩::ls) Z ⟨⟨.inr g,by rw[aJ ac]⟩,a,f,A⟩;have ac:sn=[]:=aT zo;refine jw ?_;exact gk (lq,lc,ls) Z ⟨⟨.inl hl,by rw[aM ac]⟩,a,f,A⟩;rintro⟨q,c,J⟩ w5 ⟨⟨g,au⟩,a,f,A⟩;try dsimp only
 dsimp only at g au;have am:J.map PcX.l=if sn=[] then ls.map PcX.l else sn::ls.map PcX.l:=by rw[au];split<;>rfl
 have c1:∀r∈J,ux w r.p r.l/\r.l.length<=r.c:=by rw[au];split;exact hli;exact λr hr=>(dK.1 hr).elim (λe=>by rw[e];exact⟨hs,hsc⟩) (hli r)
 have dx:J.length<=ls.length+1:=by rw[au];split;exact Nat.le_succ _;exact aA _
 have b5:((J.map PcX.l).map List.length).sum<=60000:=by rw[am];split;omega;rw[dD,List.sum_cons];exact hsz
 obtain⟨W,av⟩:∃W:World,W=w5:=⟨_,Z⟩
 have c2:w.heap.size<=W.heap.size:=by rw[av];exact A.size
 have c3:b4<W.heap.size:=by rw[av];exact a.lt
 have c4:b6<W.heap.size:=by rw[av];exact f.lt
 have m:W.heap.size<=w5.heap.size:=by rw[av];exact aA _
 refine gh (jn Z (j0 (ja (α:=Nat×yb) [0,4,6,7] Z (λz=>[(8,.int .i64 (z.1:Int))]) (λz u=>(z.1<=J.length/\xq5 sn (J.map PcX.l) z.1=some z.2.s/\C8 u z.2/\zv0 (Grow No W u) z.2/\SlN w u q J.length c 41 1 (J.flatMap PcX.cell)/\W.heap.size<=u.heap.size)/\gu u b4 102 ([.slice none 0 0,.slice none 0 0])/\gu u b6 102 (z.2.c)/\Ext No w u) (λz u=>J.length-z.1) (0,stoZ) Z ⟨⟨aF _,Z,stoZ_at _,stoZ_in _,g,m⟩,a,f,A⟩ ?_)));rintro⟨i,S⟩ w6 ⟨⟨c5,aw,hS,an,g,m⟩,a,f,A⟩;try dsimp only
 dsimp only at c5 aw hS an f;refine gh (jn Z (jc Z (λhc=>?_) (λhc=>?_)));have ap:i<J.length:=by omega
 have ad:i<(J.map PcX.l).length:=by rw[aB];exact ap
 have bd:(J.map PcX.l)[i]=J[i].l:=bD ..;have X:=run_step ad aw;rw[bd] at X;obtain⟨a6,aq⟩:=run_ok (Nat.le_of_lt ad) aw;have aq:=Nat.le_trans aq (Nat.le_trans (sum_takeB _ _) b5);have aq:S.hs.length<=60000:=by rw[yb.s,aB] at aq;exact aq
 have bf:=a6.few;have bf:S.vs.length<=128:=by rw[yb.s,aB] at bf;exact bf
 have b7:=c1 _ (aC ap);have c6:=Nat.le_trans (sum_get ad) b5;rw[bd] at c6;obtain⟨qb,qo,hp,c7⟩:=(g.sl A).km (λr _=>(rfl:r.cell.length=1)) zo;subst hp;obtain⟨wk,b8⟩:∃wk:World,wk=w6:=⟨_,Z⟩
 have Y:Ext No wk w6:=by rw[b8];exact Ext.refl _ _
 rw[<-b8] at hS an;refine yz (jy Z (jo Z 1 Z i Z ap (qo+i*1) Z (gj Z ((c7 i ap) 0 _ Z) ?_)));have c8:=m;refine g7 call37 Z (read10_calls w6 (b7.1.g0 A) b7.2 zo) ?_;rintro v7 w7⟨B,rfl,ax,ai,aj⟩;have a:=a.g0 aj;have f:=f.g0 aj;have g:=g.g0 aj;have m:=Nat.le_trans m aj.size;have Y:=Y.g4 aj;have A:=A.g4 aj;refine gv g5 Z ?_;have ca:=Y;refine gn Z λb9 w8 ay C ae=>?_;have bg:=gw a.lt ay;have bh:=gw f.lt ay;have da:=Nat.le_trans A.size ay;have a:=a.g0 ae;have f:=f.g0 ae;have g:=g.g0 ae;have m:=Nat.le_trans m ae.size;have Y:=Y.g4 ae;have ai:=ai.g0 ae;have A:=A.g4 ae;have C:gu w8 b9 25 ([.slice none 0 0,.slice none 0 0]):=C;have cb:=Nat.le_trans ca.size ay;have a7:=C;refine wl (gz (l':=B.c) g5 C Z Z Z Z OneC.h λw9 C af dy=>?_);have a:=a.g9 af bg;have f:=f.g9 af bh;have g:=g.g9 af a7 zd;have m:=Nat.le_trans m af.size;have Y:=Y.g8 af cb;have ai:=ai.extB af a7;have A:=A.g8 af da;refine k9 Z (gh (jn Z (jc Z (λhc=>?_) (λhc=>?_))));have G:=run_no (i:=i+1) am ad (by rw[X,show ud S.s J[i].l=none from aJ λk=>hc k.1];rfl);refine ki (jv Z trivial (l':=[.slice none 0 0,.slice none 0 0]) Z (wl (gz (l':=[.slice none 0 0,.slice none 0 0]) g5 a Z Z Z Z OneC.h λdz a cd dk=>?_)));have A:=A.g8 cd ak;refine vl Z (j2 (gGk (ko [_,_] ⟨⟨b4,0,Z,kj g5 Z Z a.kc Z⟩,Z,trivial⟩ ?_)));exact⟨stoZ,by rw[G];rfl,SaidQ.no G,A⟩
 have ce:(vi J[i].l).2=0:=aN.1 hc;have ag:=readB_may ce;rw[<-ax] at ag;have bi:=ag.1;have bj:=ag.2.1;have bi:B.os.length<=4096:=by rw[qv.d,aB] at bi;exact bi
 have bj:B.ss.length<=128:=by rw[qv.d,aB] at bj;exact bj
 refine vo (ki (j8 f Z Z (j8 C Z Z ?_)));have cf:=m;refine g7 call152 Z (after10_calls w9 (H:=Grow No W w9) (hS.g0 Y) (an.mono (grow_mono Y.size)) (λy hy=>hy.elim (λe=>e.elim) λe=>e.2) ai.at (λx hx=>objNew_in (ai.o x hx).2 c8) ag zo zo) ?_;rintro d0 cg⟨S2,F,rfl,hQ,Q⟩;have a:=a.g0 Q;have f:=f.g0 Q;have C:=C.g0 Q;have g:=g.g0 Q;have m:=Nat.le_trans m Q.size;have A:=A.g4 Q;obtain⟨wq,bk⟩:∃wq:World,wq=cg:=⟨_,Z⟩
 have E:Ext No wq cg:=by rw[bk];exact Ext.refl _ _
 rw[<-bk] at hQ;have ci:=hQ.st;have bm:=hQ.fr;rw[ax] at ci bm|-;have d1:F.os.length<=B.os.length:=by have e:=after_fresh (s:=S.s) (b:=(vi J[i].l).1);rw[<-bm,<-ax,qv.d,qv.d,aB,aB] at e;exact e
 have bn:=Q.size;rw[<-bk] at bn;have n6:=λy e=>B5 (u:=wq) (H:=No) c4 b1 (λ_ e=>e.elim) y (grow_two bn cf y e);refine gv g5 Z ?_;have T:=E;refine gn Z λbp db aa j R=>?_;have az:=gw a.lt aa;have a0:=gw f.lt aa;have a1:=gw C.lt aa;have cj:=Nat.le_trans A.size aa;have a:=a.g0 R;have f:=f.g0 R;have C:=C.g0 R;have g:=g.g0 R;have m:=Nat.le_trans m R.size;have E:=E.g4 R;have A:=A.g4 R;have j:gu db bp 102 ([.slice none 0 0,.slice none 0 0]):=j;have bq:=Nat.le_trans T.size aa;have T:=E;refine gn Z λbr dc U D N=>?_;have a2:=gw a.lt U;have a3:=gw f.lt U;have a4:=gw C.lt U;have ab:=gw j.lt U;have ck:=Nat.le_trans A.size U;have a:=a.g0 N;have f:=f.g0 N;have C:=C.g0 N;have j:=j.g0 N;have g:=g.g0 N;have m:=Nat.le_trans m N.size;have E:=E.g4 N;have A:=A.g4 N;have D:gu dc br 25 ([.slice none 0 0,.slice none 0 0]):=D;have bs:=Nat.le_trans T.size U;have bt:=j;refine wl (gz (l':=S2.c) g5 j Z Z Z Z OneC.h λd2 j O dm=>?_);have a:=a.g9 O az;have f:=f.g9 O a0;have C:=C.g9 O a1;have D:=D.g9 O ab.symm;have g:=g.g9 O bt zd;have m:=Nat.le_trans m O.size;have E:=E.g8 O bq;have A:=A.g8 O cj;have bu:=D;refine wl (gz (l':=F.c) g5 D Z Z Z Z OneC.h λd3 D P dn=>?_);have a:=a.g9 P a2;have f:=f.g9 P a3;have C:=C.g9 P a4;have j:=j.g9 P ab;have g:=g.g9 P bu zd;have m:=Nat.le_trans m P.size;have E:=E.g8 P bs;have A:=A.g8 P ck;refine k9 Z (gh (jb (α:=Bool) [0,4,6,7,8,11] Z (λz=>[(55,.bool z)]) (λz u=>(z=decide ((ud S.s J[i].l).isSome=false)/\Ext No wq u/\SlN w u (some ⟨qb,qo,none⟩) J.length c 41 1 (J.flatMap PcX.cell)/\W.heap.size<=u.heap.size)/\gu u b4 102 ([.slice none 0 0,.slice none 0 0])/\gu u b6 102 (S.c)/\gu u b9 25 (B.c)/\gu u bp 102 (S2.c)/\gu u br 25 (F.c)/\Ext No w u) ?_ ?_));refine gr (gv g5 Z (j7 47 Z (λhg=>?_) (λhg=>?_)));refine gm g5 8 Z (ga ?_);exact gk (true) Z ⟨⟨by rw[<-said_no hg];rfl,E,g,m⟩,a,f,C,j,D,A⟩;have hg:=aN.1 hg;refine gm g5 1 Z (j3 D Z Z (gm g5 2 Z (j3 C Z Z (gm g5 3 Z (ga ?_)))));exact gk (_) Z ⟨⟨by rw[<-said_yes ce ax hg bm,aH,ao];omega,E,g,m⟩,a,f,C,j,D,A⟩;rintro z dd ⟨⟨rfl,E,g,m⟩,a,f,C,j,D,A⟩;refine u5 Z (λhc=>?_) (λhc=>?_);have a8:(ud S.s J[i].l).isSome=false:=cD hc
 have cm:ud S.s J[i].l=none:=by
  cases e:ud S.s J[i].l with
  |none=>rfl
  |some t=>rw[e] at a8;cases a8
 have G:=run_no (i:=i+1) am ad (by rw[X,cm];rfl);refine ki (jv Z trivial (l':=[.slice none 0 0,.slice none 0 0]) Z (wl (gz (l':=[.slice none 0 0,.slice none 0 0]) g5 a Z Z Z Z OneC.h λd4 a cn dp=>?_)));have A:=A.g8 cn ak;refine vl Z (j2 (gGk (ko [_,_] ⟨⟨b4,0,Z,kj g5 Z Z a.kc Z⟩,Z,trivial⟩ ?_)));exact⟨stoZ,by rw[G];rfl,SaidQ.no G,A⟩
 obtain⟨t,ht⟩:∃t,ud S.s J[i].l=some t:=Option.ne_none_iff_exists'.1 (by simpa using hc);have de:=(said_some ht).2.2.trans ci.symm;subst de;rw[ht] at X;dsimp only[Option.bind_some] at X;obtain⟨I,dq,_⟩:=said_ok a6 ht;refine vo (gh (jb (α:=Bool) [0,4,6,7,8,11] Z (λz=>[(71,.bool z)]) (λz u=>(z=decide (i=0/\sn≠[]/\u7 (y7 S2.s)≠sn)/\Ext No wq u/\SlN w u (some ⟨qb,qo,none⟩) J.length c 41 1 (J.flatMap PcX.cell)/\W.heap.size<=u.heap.size)/\gu u b4 102 ([.slice none 0 0,.slice none 0 0])/\gu u b6 102 (S.c)/\gu u b9 25 (B.c)/\gu u bp 102 (S2.c)/\gu u br 25 (F.c)/\Ext No w u) ?_ ?_));refine gr (gv g5 Z (j7 59 Z (λhg=>?_) (λhg=>?_)));have bv:i=0:=by omega
 refine gm g5 5 Z (j7 64 Z (λhg=>?_) (λhg=>?_));have ac:sn≠[]:=λe=>by rw[e] at hg;exact absurd hg zd
 refine j8 j Z Z (g7 call194 Z (all10_calls dd (hQ.at_.g0 E)) ?_);rintro d5 df⟨BA,rfl,ah,dg,cr,K⟩;have a:=a.g0 K;have f:=f.g0 K;have C:=C.g0 K;have j:=j.g0 K;have D:=D.g0 K;have g:=g.g0 K;have m:=Nat.le_trans m K.size;have E:=E.g4 K;have A:=A.g4 K
 have bw:S2.s.row.length<=60000:=by
  have e:=sum_takeB (J.map PcX.l) (i+1);have e2:(List.map List.length [J[i].l]).sum=J[i].l.length:=by simp
  rw[List.take_succ_eq_append_getElem ad,bE,List.sum_append,bd] at e;omega
 have dr:BA.os.length<=60000:=by rw[cr,oxL_len];rw[yb.s,aB] at bw;exact bw
 have ds:BA.ss.length<=128:=by have e:=congrArg (λx=>x.sets.length) ah;have k:=I.few;dsimp only[qv.d,y7] at e;rw[aB,aB] at e;omega
 refine g7 call34 Z (code10_calls df dg (by rw[ah];exact I.objs) (by rw[ah];exact allD_sets I) zo zo) ?_;rintro d6 dh⟨cq,cc,rfl,ct,L⟩;have a:=a.g0 L;have f:=f.g0 L;have C:=C.g0 L;have j:=j.g0 L;have D:=D.g0 L;have g:=g.g0 L;have m:=Nat.le_trans m L.size;have E:=E.g4 L;have A:=A.g4 L;rw[ah] at ct|-;refine gm g5 1 Z (g7 call93 Z (zq9 dh ct.sl (hs.g0 A) (allD_len I bw)) ?_);rintro d7 d8⟨rfl,M⟩;have a:=a.g0 M;have f:=f.g0 M;have C:=C.g0 M;have j:=j.g0 M;have D:=D.g0 M;have g:=g.g0 M;have m:=Nat.le_trans m M.size;have E:=E.g4 M;have A:=A.g4 M;refine gm g5 2 Z (ga ?_);exact gk (_) Z ⟨⟨by rw[<-decide_not,aH];exact⟨λe=>⟨bv,ac,e⟩,λe=>e.2.2⟩,E,g,m⟩,a,f,C,j,D,A⟩;have ac:sn=[]:=aT zo;refine gm g5 7 Z (ga ?_);exact gk (false) Z ⟨⟨(bG λe=>e.2.1 ac).symm,E,g,m⟩,a,f,C,j,D,A⟩;have bv:i≠0:=by omega
 refine gm g5 12 Z (ga ?_);exact gk (false) Z ⟨⟨(bG λe=>bv e.1).symm,E,g,m⟩,a,f,C,j,D,A⟩;rintro z d9 ⟨⟨rfl,E,g,m⟩,a,f,C,j,D,A⟩;refine u5 Z (λhc=>?_) (λhc=>?_);have bx:=cD hc;rw[aM bx] at X;have G:=run_no (i:=i+1) am ad X;refine ki (jv Z trivial (l':=[.slice none 0 0,.slice none 0 0]) Z (wl (gz (l':=[.slice none 0 0,.slice none 0 0]) g5 a Z Z Z Z OneC.h λea a cv dt=>?_)));have A:=A.g8 cv ak;refine vl Z (j2 (gGk (ko [_,_] ⟨⟨b4,0,Z,kj g5 Z Z a.kc Z⟩,Z,trivial⟩ ?_)));exact⟨stoZ,by rw[G];rfl,SaidQ.no G,A⟩
 have bx:¬(i=0/\sn≠[]/\u7 (y7 S2.s)≠sn):=by simpa only[aO,ao] using hc
 rw[aJ bx] at X;refine vo (gr ?_);have T:=E;refine j8 j Z Z ?_;have cw:=f;refine wl (gz (l':=S2.c) g5 f Z Z Z Z OneC.h λeb f V du=>?_);have a:=a.g9 V ba;have g:=g.g9 V cw zd;have m:=Nat.le_trans m V.size;have A:=A.g8 V b1;have di:=Nat.le_trans T.size V.size;have hS:=(hQ.at_.g0 T).ext hQ.in_ V n6;refine ga (yt Z ?_);rw[jt _ zo];refine ga ?_;exact j9 (i+1,S2) Z ⟨⟨ap,X,hS,(hQ.in_.mono (grow_two bn cf)).mono (grow_mono di),g,m⟩,a,f,A⟩ zf;have h0:i=J.length:=by omega
 subst h0;have a9:Cb (sn::ls.map PcX.l)=some S.s:=by rw[<-run_all am,aB];exact aw
 have n4:=B5 (u:=w6) (H:=No) c3 ak (λ_ e=>e.elim);have dj:=an.mono λy e=>(show Grow No w w6 y from e.imp id λe=>⟨Nat.le_trans c2 e.1,e.2⟩)
 have ar:=aA w6.heap.size;refine zu (ki (j8 f Z Z (wl (gz (l':=S.c) g5 a Z Z Z Z OneC.h λec a c9 dv=>?_))));have hS:=hS.ext an c9 n4;have ar:=Nat.le_trans ar c9.size;have A:=A.g8 c9 ak;refine vl Z (ko [_,_] ⟨⟨b4,0,Z,kj g5 Z Z a.kc Z⟩,Z,trivial⟩ ?_);exact⟨S,by rw[a9];rfl,⟨λs e=>by rw[a9] at e;cases e;rfl,hS,dj.mono (grow_mono ar)⟩,A⟩
abbrev LedZ := Option Addr × Nat × List PcX
def ledC (w : World) (b6 : Nat) (r0 : List Bytes) : CoS LedZ w where
  Fp := λz y => y = b6 \/ j5 z.1 y \/ ∃ r ∈ z.2.2, j5 r.p y
  J := λk z u => gu u b6 80 [.slice z.1 z.2.2.length z.2.1] /\ jj w u z.1 z.2.2.length z.2.1 41 1 (z.2.2.flatMap PcX.cell) /\ z.2.2.map PcX.l = r0.take k /\ ∀ r ∈ z.2.2, jj w u r.p r.l.length r.c 5 1 (g6 r.l) /\ r.l.length <= r.c
  Jx := λ_ _ _ _ => False
  st := λ⟨h1, h2, h3, h4⟩ hE hS => ⟨h1.ext hE λe => (hS _ e).2 (.inl Z), ⟨h2.own.ext hE λy hy e => (hS _ e).2 (.inr (.inl hy)), h2.new⟩, h3, λr hr => ⟨⟨(h4 r hr).1.own.ext hE λy hy e => (hS _ e).2 (.inr (.inr ⟨r, hr, hy⟩)), (h4 r hr).1.new⟩, (h4 r hr).2⟩⟩
  stx := λh _ _ => h.elim
  lt := λ⟨h1, h2, h3, h4⟩ x e => by
    rcases e with rfl | e | ⟨r, hr, e⟩
    · exact h1.lt
    · exact h2.own.lt e
    · exact (h4 r hr).1.own.lt e
  ltx := λh => h.elim
structure LedAt (w : World) (lp x d : Nat) (F H K : Nat -> Prop) (X : Sd) (S : yb) : Prop where
  blk : gu w lp 169 (.pointer (some ⟨x, 0, none⟩) :: S.c)
  disk : At w d F X.W.D
  log : xh w x d H X.W
  sto : C8 w S
  in_ : zv0 K S
  s : S.s = X.s
  fh : ∀ y, H y -> ¬ F y
  fk : ∀ y, K y -> ¬ F y /\ ¬ H y
  out : ¬ F lp /\ ¬ H lp /\ ¬ K lp
  lt : ∀ y, K y -> y < w.heap.size
theorem pieces_sum {W:Wl} (hW:Wl.Ok W) {s0:Bytes} {r0:List Bytes} (hp:W.pieces=s0::r0):s0.length+(r0.map List.length).sum<=60000:=by
 have a:=sum_used W.pieces hW.short;have b:=hW.used;have c:=hW.room;have d:=hW.size;rw[<-b,hp,dD,List.sum_cons] at a;omega
def LedNew (w w' : World) (d : Nat) (F' : Nat -> Prop) (lo : Option Addr) (X : Sd) : Prop := ∃ lp x H K S, lo = some ⟨lp, 0, none⟩ /\ LedAt w' lp x d F' H K X S /\ ∀ y, (H y \/ K y \/ y = lp) -> w.heap.size <= y
theorem lopen_calls (w:World) {d m:Nat} {F:Nat->Prop} {D:kg} (h:At w d F D) (hok:D.Ok m) (hm:m+10000<1000000000) (hr:Rt w) (hF0:¬F 0):
  ge prog 87 [.pointer (some ⟨d,0,none⟩)] w λv w'=>∃(lo:Option Addr) (F':Nat->Prop),v= .tuple #[.pointer lo,.int .i64 (xu D).2.1]/\At w' d F' (xu D).1/\Ext F w w'/\(∀y,F' y->F y\/w.heap.size<=y)/\((xu D).2.2=none->lo=none)/\∀X,(xu D).2.2=some X->LedNew w w' d F' lo X:=by
 refine Cg func87 Z Z Z Z ?_;have B:=Ext.refl F w;refine jn Z (jy Z (g7 call58 Z (open_calls w h hok hm hr hF0) ?_));rintro v1 w1⟨xo,F2,rfl,E,av,bm,cs,bz⟩;have B:=B.then av;refine k9 Z (gh (jn Z (jc Z (λhc=>?_) (λhc=>?_))));have R:xu D=((qj D).1,(qj D).2.1,none):=aM hc;have ct:=cs hc;subst ct;refine jn Z (j6 (j2 (Bq [] List.nodup_nil (λ_ h=>(by cases h)) [.pointer none,.int .i64 (qj D).2.1] (λbd J=>?_) (.inl Z))));have T:Ext No _ bd:=J.mono λx _ e=>by cases e
 exact⟨⟨Z,Z,trivial⟩,none,F2,by rw[R];rfl,by rw[R];exact E.g0 T,B.g4 T,bm,λ_=>rfl,λX e=>by rw[R] at e;cases e⟩
 have h0:(qj D).2.1=0:=aN.1 hc;obtain⟨x,H,rfl,f,b0⟩:=bz h0;have hW:=(openW_fine hok).2.2 h0
 obtain⟨s0,r0,ay⟩:∃s0 r0,(Wl.opened (qj D)).pieces=s0::r0:=by
  cases hp:(Wl.opened (qj D)).pieces with
  |nil=>exact absurd hp hW.some
  |cons a l=>exact⟨a,l,Z⟩
 have a0:=pieces_sum hW ay;have dv:=hW.size.2;have dn:=hW.few;have dp:(Wl.opened (qj D)).pieces.length=r0.length+1:=by rw[ay];rfl
 have a1:0<(Wl.opened (qj D)).pieces.length:=by omega
 have b1:(Wl.opened (qj D)).pieces[0]=s0:=by simp[ay]
 have bn:∀b∈(Wl.opened (qj D)).pieces,b.length<1000000000:=λb hb=>by have:=hW.short b hb;omega
 have cu:(Wl.opened (qj D)).pieces.drop 1=r0:=by rw[ay];rfl
 have R:xu D=match Cb (Wl.opened (qj D)).pieces with
   |none=>((qj D).1,201,none)
   |some s=>((qj D).1,0,some ⟨Wl.opened (qj D),s⟩):=aJ hc
 rw[ay] at R;obtain⟨VA,b2⟩:∃VA,VA=w1:=⟨_,Z⟩
 have ap:=E.lt;have aq:=f.lt;have b3:=B;have cv:VA.heap.size<=w1.heap.size:=by rw[b2];exact aA _
 rw[<-b2] at ap aq b3;refine vo (ki ?_);have cw:=cv;refine gn Z λb6 w2 b4 C bp=>?_;have dw:=Nat.le_trans B.size b4;have E:=E.g0 bp;have f:=f.g0 bp;have B:=B.g4 bp;have C:gu w2 b6 80 ([.slice none 0 0]):=C;have dq:=Nat.le_trans cw b4;refine qi (gh (jy Z ?_));have l6:=C.lt;refine g7 call62 Z (all_calls w2 f a1 zo) ?_;rintro v3 w3⟨bA,qA,cA,rowsA,rfl,b5,bq,b7,dx,br,a2⟩;have C:=C.g0 a2;have E:=E.g0 a2;have f:=f.g0 a2;have B:=B.g4 a2;rw[cu] at b5 bq b7 br;have dy:=a2.size;refine qi (j0 ?_)
 refine c_iterV (ledC w3 b6 r0) ((none,0,[])) Z call139 Z AllA.size (λw1 av=>all1_iter w1 (ps:=r0) (b5.g0 av) (by by_cases h0:r0.length=0;exact⟨bq.1,.inl h0⟩;exact bq.ext av λ_ _ _=>id) (b7.ext av λ_ _ _=>id) (λy bs e h0=>aG (br y bs e h0).2 av.size) (λy g=>by have:=aq y g;have:=av.size;omega) zo (λb hb=>bn b (by rw[ay];exact cL _ hb))) (λy g=>by
 have hz:∀z:Prop,z\/(y=b6\/j5 none y\/∃r∈([]:List PcX),j5 r.p y)->z\/y=b6:=λz e=>by
  rcases e with e|e|e|⟨r,hr,_⟩
  exact .inl e
  exact .inr e
  cases e
  cases hr
 rcases g with⟨bs,e,h⟩|g
 have h1:=br y bs e h
 refine⟨h1.2,λe2=>?_⟩
 rcases hz False (.inr e2) with e2|e2
 exact e2
 omega
 have h1:=aq y g
 refine⟨by omega,λe2=>?_⟩
 rcases hz False (.inr e2) with e2|e2
 exact e2
 omega) ⟨C,jj.nil _ _ _ _,Z,λr hr=>by cases hr⟩ (λl DD r k z W vs Xn au bt hJ hk E=>?_) (λDD z W hJ hE b8 cy n cz=>?_) (λDD k c z W hk hJ hE b8 cy n cz=>?_)
 have ai:=au.l;obtain⟨q,cq,PX⟩:=z;obtain⟨C,t,ac,j⟩:=hJ;dsimp only at C t ac j;obtain⟨qb,cb,rfl,L,rfl⟩:=E;have ca:k<r0.length:=hk;obtain⟨Bk,cc⟩:∃Bk,Bk=r0.getD k []:=⟨_,Z⟩
 rw[<-cc] at L|-;have c0:PX.length=k:=by have e:=congrArg List.length ac;rw[aB,aK] at e;omega
 have ax:=C;have c1:¬j5 q l:=λe=>(au.fp _ (.inr (.inl e))).1 Z;have c2:=C.neL ai;have B:Ext (λx=>((x=b6\/j5 q x\/∃r∈PX,j5 r.p x)\/x=l)\/j5 qb x) W W:=Ext.refl _ _;refine yh (zj2 g5 Z (zv (xv4 au ai λw4 a3 c3=>?_)));have C:=C.extL ai a3;have t:=jj.mk (t.own.ext a3 λy g e=>(au.fp _ (.inr (.inl g))).1 e) t.new;have j:=λr hr=>And.intro (jj.mk ((j r hr).1.own.ext a3 λy g e=>(au.fp _ (.inr (.inr ⟨r,hr,g⟩))).1 e) (j r hr).1.new) (j r hr).2;have L:=L.ext a3 λy g e=>(bt.ne y g).2.1 e;have ai:=c3;have B:=B.then (a3.mono λx _ e=> .inl (.inr e));refine ci_block (yh (wli (.round _) Z (st_ldb g5 C Z Z (zj2 g5 Z ?_))));refine wli (.round _) Z (kz g5 Z 1 Z Z Z zd zd zt (l':=[.slice qb Bk.length cb]) Z λc4 w5 cd ce az dz=>?_);have cm:=gw C.lt cd;have C:=C.g0 az;have t:=t.g0 az;have j:=λr hr=>And.intro ((j r hr).1.g0 az) (j r hr).2;have L:=L.ext az λ_ _=>id;have ai:=vd ai az id;have B:=B.g4 az;have d0:=B.size;refine wli (.round _) Z (ul g5 Z 1 24 Z Z Z zd t.own (Src.slice (m:=1) ⟨Z,.inr ⟨c4,0,Z,ce.kc⟩⟩ OneC.h) zm zn λp6 c6 w6 c5 a4 c7=>?_);have C:=C.ext a4 λe=>(Own.ty t.own e).ne C zd Z;have j:=λr hr=>And.intro (jj.mk ((j r hr).1.own.ext a4 λy g e=>by obtain⟨l,hl⟩:=Own.ty t.own e;exact(Own.ty (j r hr).1.own g).ne hl zd Z) (j r hr).1.new) (j r hr).2;have L:=L.ext a4 λy g e=>by obtain⟨l,hl⟩:=Own.ty t.own e;exact(Own.ty L g).ne hl zd Z
 have ai:=vd ai a4 c1;have B:=B.then (a4.mono λy _ e=> .inl (.inl (.inr (.inl e))));have bu:∀y,j5 p6 y->j5 q y\/W.heap.size<=y:=λy g=>(c7 y g).imp id λe=>by omega
 have ax:=C;have t:jj _ w6 p6 (PX++[(⟨qb,Bk,cb⟩:PcX)]).length c6 41 1 ((PX++[(⟨qb,Bk,cb⟩:PcX)]).flatMap PcX.cell):=⟨by rw[al,aQ];exact c5,λy g=>(bu y g).elim (t.new y) λe=>by have:=au.X.size;omega⟩
 obtain⟨pn,cf⟩:∃pn,pn=p6:=⟨_,Z⟩
 obtain⟨cn,cg⟩:∃cn,cn=c6:=⟨_,Z⟩
 rw[<-cf] at t bu|-;rw[<-cg] at t|-;dsimp only;rw[show PX.length+1=(PX++[(⟨qb,Bk,cb⟩:PcX)]).length from by rw[al];rfl];refine wli (.round _) Z (Aa g5 C Z Z Z λw7 C a5 d1=>?_);have t:=t.g9 a5 ax zd;have j:=λr hr=>And.intro ((j r hr).1.g9 a5 ax zd) (j r hr).2;have L:=L.ku a5 ax zd;have ai:=vd ai a5 c2.symm;have B:=B.then (a5.mono λx _ e=>by have e:x=b6:=e;subst e;exact(.inl (.inl (.inl Z))));have C:gu w7 b6 80 ([.slice pn (PX++[(⟨qb,Bk,cb⟩:PcX)]).length cn]):=C;have c8:(PX++[(⟨qb,Bk,cb⟩:PcX)]).map PcX.l=r0.take (k+1):=by rw[List.take_succ_eq_append_getElem ca,bE,ac,cc,bQ,aS ca];rfl
 refine zv ?_
 exact jm (fin_nextV ((pn,cn,PX++[⟨qb,Bk,cb⟩])) au bt ai B (λy g=>by
 rcases g with g|g|⟨r,hr,g⟩
 exact .inl (.inl g)
 exact(bu y g).elim (λe=> .inl (.inr (.inl e))) λe=> .inr (.inr e)
 rcases aV.1 hr with hr|hr
 exact .inl (.inr (.inr ⟨r,hr,g⟩))
 rw[aE.1 hr] at g;exact .inr (.inl g)) (⟨C,t,c8,λr hr=>by
 rcases aV.1 hr with hr|hr
 exact j r hr
 rw[aE.1 hr];exact⟨⟨L,λy g=>by have:=(bt.ne y g).1;have:=au.X.size;omega⟩,L.cap⟩⟩))
 obtain⟨q,cq,PX⟩:=z;obtain⟨C,t,ac,j⟩:=hJ;dsimp only at C t ac j;rw[bC] at ac;have c0:PX.length=r0.length:=by have e:=congrArg List.length ac;rw[aB] at e;exact e
 have bv:∀y,(y=b6\/j5 none y\/∃r∈([]:List PcX),j5 r.p y)->VA.heap.size<=y:=λy e=>by rcases e with e|e|⟨r,hr,_⟩;omega;cases e;cases hr
 have f:=f.ext hE λy g e=>by have:=bv y e;have:=aq y g;omega
 have E:=E.ext hE λy g e=>by have:=bv y e;have:=ap y g;omega
 have B:Ext F w W:=B.trans (hE.mono λy g e=>(show VA.heap.size<=y from bv y e)) λy g e=>by have:=b3.size;omega
 have d2:=uy n;have o:=aA W.heap.size;refine jm (jh ?_);refine jb (α:=(yb)×Nat) [4] Z (λz=>[(9,.pointer (some ⟨z.2,0,none⟩)),(10,.bool (Cb (s0::r0)).isSome)]) (λz u=>(C8 u z.1/\(∀s,(Cb (s0::r0))=some s->(z.1).s=s)/\xh u x d H (Wl.opened (qj D))/\At u d F2 (qj D).1/\u.heap[DD]? =some zq7/\W.heap.size<=u.heap.size/\∃K:Nat->Prop,zv0 K z.1/\(∀y,K y->W.heap.size<=y)/\∀y,K y->y<u.heap.size)/\gu u z.2 102 ((z.1).c)/\W.heap.size<=z.2/\Ext F w u) ?_ ?_;have hQ:=aA W.heap.size;refine yv3 Z 10 10 [] (No) zk λw8 hE8 d3=>?_;have c9:=C;have o:=Nat.le_trans o hE8.size;have n:=vd n hE8 id;have f:=f.g0 hE8;have E:=E.g0 hE8;have t:=t.g0 hE8;have j:=λr hr=>And.intro ((j r hr).1.g0 hE8) (j r hr).2;have hQ:=Nat.le_trans hQ hE8.size;have B:=B.g4 hE8;have Q:Ext No _ w8:=hE8;refine ql [qP 0,qP 2] 8 Z zk (gl g5 1 Z (gy g5 Z Z (λw' da=>(c9.g0 da).cell Z) ?_));refine z6 Z (B9 [1,7] Z zk ⟨⟨_,Z,?_⟩,⟨_,Z,?_⟩,trivial⟩);refine gx call59 Z (zj1 w8 f a1 (bn _ (aC a1))) λv9 w9 ch=>⟨(by obtain⟨q1,k1,rfl,ad,a6,aj⟩:=ch;exact Q.g4 aj),?_⟩
 obtain⟨q1,k1,rfl,ad,a6,aj⟩:=ch;have o:=Nat.le_trans o aj.size;have n:=vd n aj id;have f:=f.g0 aj;have E:=E.g0 aj;have t:=t.g0 aj;have j:=λr hr=>And.intro ((j r hr).1.g0 aj) (j r hr).2;have hQ:=Nat.le_trans hQ aj.size;have B:=B.g4 aj;have Q:=Q.g4 aj;rw[b1] at ad|-;refine ql [] 7 Z zk (z6 Z (B9 [3,7] Z zk ⟨⟨_,Z,?_⟩,⟨_,Z,?_⟩,trivial⟩));have a7:=o;refine gx call157 Z (yj1 w9 ad.sl ad.cap t.sl (λr hr=>⟨(j r hr).1.sl,(j r hr).2⟩) zo (by rw[ac];exact a0)) λd4 db bg=>⟨(by obtain⟨S,rfl,M,U⟩:=bg;exact Q.g4 U),?_⟩
 obtain⟨S,rfl,M,U⟩:=bg;have o:=Nat.le_trans o U.size;have n:=vd n U id;have f:=f.g0 U;have E:=E.g0 U;have hQ:=Nat.le_trans hQ U.size;have B:=B.g4 U;have Q:=Q.g4 U;rw[ac] at M|-;have hS:=M.a;have aw:=M.s;obtain⟨K,ak,ar,G⟩:∃K:Nat->Prop,zv0 K S/\(∀y,K y->W.heap.size<=y)/\(∀y,K y->y<db.heap.size):=⟨_,M.i,λy g=>g.elim (λe=>e.elim) λe=>Nat.le_trans a7 e.1,λy g=>g.elim (λe=>e.elim) λe=>e.2⟩
 refine ql [qP 4,qP 5,qP 6,(7,false),(8,false),qP 9] 0 Z zk (gl g5 3 Z ?_);have dc:=G;refine jg Z (Bi g5 Z λO dd ae A V=>⟨Q.g4 V,?_⟩);have a8:=Nat.le_trans B.size ae;have am:=Nat.le_trans hQ ae;have an:=Nat.le_trans Q.size ae;have o:=Nat.le_trans o V.size;have n:=vd n V id;have f:=f.g0 V;have E:=E.g0 V;have hS:=hS.g0 V;have G:=λy g=>aG (G y g) V.size;have B:=B.g4 V;have Q:=Q.g4 V;have A:gu dd O 102 ([.slice none 0 0,.slice none 0 0]):=A;have a9:∀y,F2 y->¬One O y:=λy g e=>by have:=ap y g;have e:y=O:=e;omega
 have ba:∀y,H y->¬One O y:=λy g e=>by have:=aq y g;have e:y=O:=e;omega
 have bb:¬One O DD:=λe=>by have e:DD=O:=e;omega
 have n9:∀y,K y->¬One O y:=λy g e=>by have:=dc y g;have e:y=O:=e;omega
 refine jg Z (gz (l':=S.c) g5 A Z Z Z Z OneC.h λd5 A af dr=>⟨Q.g8 af an,?_⟩);have o:=Nat.le_trans o af.size;have n:=vd n af bb;have f:=f.ext af ba;have E:=E.ext af a9;have hS:=hS.ext ak af n9;have G:=λy g=>aG (G y g) af.size;have B:=B.g8 af a8;refine gl g5 1 Z (jd (j1 ?_));exact gk ((S),O) Z ⟨⟨hS,aw,f,E,n,o,⟨K,ak,ar,G⟩⟩,A,am,B⟩;have de:=o;refine Bi g5 Z λO ci ae A P=>⟨Q.g4 P,?_⟩
 have a8:=Nat.le_trans B.size ae;have am:=Nat.le_trans hQ ae;have an:=Nat.le_trans Q.size ae;have o:=Nat.le_trans o P.size;have n:=vd n P id;have f:=f.g0 P;have E:=E.g0 P;have t:=t.g0 P;have j:=λr hr=>And.intro ((j r hr).1.g0 P) (j r hr).2;have ad:=ad.ext P λ_ _=>id;have B:=B.g4 P;have Q:=Q.g4 P;have A:gu ci O 102 ([.slice none 0 0,.slice none 0 0]):=A;have a9:∀y,F2 y->¬One O y:=λy g e=>by have:=ap y g;have e:y=O:=e;omega
 have ba:∀y,H y->¬One O y:=λy g e=>by have:=aq y g;have e:y=O:=e;omega
 have bb:¬One O DD:=λe=>by have e:DD=O:=e;omega
 refine ql [(3,false),qP 4,qP 5,qP 6,(8,false),qP 9] 0 Z zk ?_;have a7:=o;have df:=A.lt;refine jg Z (gx call157 Z (yj1 ci ad.sl ad.cap t.sl (λr hr=>⟨(j r hr).1.sl,(j r hr).2⟩) zo (by rw[ac];exact a0)) λd6 dg bh=>⟨(by obtain⟨S,rfl,M,Y⟩:=bh;exact Q.g4 Y),?_⟩);obtain⟨S,rfl,M,Y⟩:=bh;have A:=A.g0 Y;have o:=Nat.le_trans o Y.size;have n:=vd n Y id;have f:=f.g0 Y;have E:=E.g0 Y;have B:=B.g4 Y;have Q:=Q.g4 Y;rw[ac] at M|-;have hS:=M.a;have aw:=M.s;obtain⟨K,ak,ar,G,n9⟩:∃K:Nat->Prop,zv0 K S/\(∀y,K y->W.heap.size<=y)/\(∀y,K y->y<dg.heap.size)/\∀y,K y->¬One O y:=⟨_,M.i,λy g=>g.elim (λe=>e.elim) λe=>Nat.le_trans a7 e.1,λy g=>g.elim (λe=>e.elim) λe=>e.2,λy g e=>g.elim (λe=>e.elim) λk=>by have e:y=O:=e;omega⟩
 refine gl g5 3 Z ?_;refine jg Z (gz (l':=S.c) g5 A Z Z Z Z OneC.h λd7 A ag ds=>⟨Q.g8 ag an,?_⟩);have o:=Nat.le_trans o ag.size;have n:=vd n ag bb;have f:=f.ext ag ba;have E:=E.ext ag a9;have hS:=hS.ext ak ag n9;have G:=λy g=>aG (G y g) ag.size;have B:=B.g8 ag a8;refine gl g5 1 Z (jd (j1 ?_));exact gk ((S),O) Z ⟨⟨hS,aw,f,E,n,o,⟨K,ak,ar,G⟩⟩,A,am,B⟩;have de:=o;refine Bi g5 Z λO cj ae A I=>⟨Q.g4 I,?_⟩
 have a8:=Nat.le_trans B.size ae;have am:=Nat.le_trans hQ ae;have an:=Nat.le_trans Q.size ae;have o:=Nat.le_trans o I.size;have n:=vd n I id;have f:=f.g0 I;have E:=E.g0 I;have t:=t.g0 I;have j:=λr hr=>And.intro ((j r hr).1.g0 I) (j r hr).2;have B:=B.g4 I;have Q:=Q.g4 I;have A:gu cj O 102 ([.slice none 0 0,.slice none 0 0]):=A;have a9:∀y,F2 y->¬One O y:=λy g e=>by have:=ap y g;have e:y=O:=e;omega
 have ba:∀y,H y->¬One O y:=λy g e=>by have:=aq y g;have e:y=O:=e;omega
 have bb:¬One O DD:=λe=>by have e:DD=O:=e;omega
 refine ql [(1,false),(3,false),qP 4,qP 5,qP 6,(8,false),qP 9] 0 Z zk ?_;refine jg Z (gx call59 Z (zj1 cj f a1 (bn _ (aC a1))) λd8 dh bi=>⟨(by obtain⟨q1,k1,rfl,ad,a6,N⟩:=bi;exact Q.g4 N),?_⟩);obtain⟨q1,k1,rfl,ad,a6,N⟩:=bi;have A:=A.g0 N;have o:=Nat.le_trans o N.size;have n:=vd n N id;have f:=f.g0 N;have E:=E.g0 N;have t:=t.g0 N;have j:=λr hr=>And.intro ((j r hr).1.g0 N) (j r hr).2;have B:=B.g4 N;have Q:=Q.g4 N;rw[b1] at ad|-;have a7:=o;have df:=A.lt;refine jg Z (gx call157 Z (yj1 dh ad.sl ad.cap t.sl (λr hr=>⟨(j r hr).1.sl,(j r hr).2⟩) zo (by rw[ac];exact a0)) λd9 di bj=>⟨(by obtain⟨S,rfl,M,aa⟩:=bj;exact Q.g4 aa),?_⟩);obtain⟨S,rfl,M,aa⟩:=bj;have A:=A.g0 aa;have o:=Nat.le_trans o aa.size;have n:=vd n aa id;have f:=f.g0 aa;have E:=E.g0 aa;have B:=B.g4 aa;have Q:=Q.g4 aa;rw[ac] at M|-;have hS:=M.a;have aw:=M.s;obtain⟨K,ak,ar,G,n9⟩:∃K:Nat->Prop,zv0 K S/\(∀y,K y->W.heap.size<=y)/\(∀y,K y->y<di.heap.size)/\∀y,K y->¬One O y:=⟨_,M.i,λy g=>g.elim (λe=>e.elim) λe=>Nat.le_trans a7 e.1,λy g=>g.elim (λe=>e.elim) λe=>e.2,λy g e=>g.elim (λe=>e.elim) λk=>by have e:y=O:=e;omega⟩
 refine gl g5 3 Z ?_;refine jg Z (gz (l':=S.c) g5 A Z Z Z Z OneC.h λea A ah dt=>⟨Q.g8 ah an,?_⟩);have o:=Nat.le_trans o ah.size;have n:=vd n ah bb;have f:=f.ext ah ba;have E:=E.ext ah a9;have hS:=hS.ext ak ah n9;have G:=λy g=>aG (G y g) ah.size;have B:=B.g8 ah a8;refine gl g5 1 Z (jd (j1 ?_));exact gk ((S),O) Z ⟨⟨hS,aw,f,E,n,o,⟨K,ak,ar,G⟩⟩,A,am,B⟩;rintro⟨S,O⟩ bd ⟨⟨hS,aw,f,E,n,o,⟨K,ak,ar,G⟩⟩,A,ae,B⟩;try dsimp only
 dsimp only at A ae;refine gh (jn Z (u5 Z (λhc=>?_) (λhc=>?_)))
 have bw:Cb (s0::r0)=none:=by
  cases e:Cb (s0::r0) with
  |none=>rfl
  |some s=>rw[e] at hc;cases hc
 rw[bw] at R;refine jn Z (j6 (j2 (Bq [DD] zp (λx hx=>by rw[aE.1 hx];exact n) [.pointer none,.int .i64 201] (λbd J=>?_) (.inl Z))));have ab:∀x,x∈[DD]->x=DD:=λx hx=>aE.1 hx;refine⟨⟨Z,Z,trivial⟩,none,F2,by rw[R];rfl,by rw[R];exact E.ext J λy g e=>by have:=ap y g;have:=ab y e;omega,B.trans J λy g e=>by have:=ab y e;omega,bm,λ_=>rfl,λX e=>by rw[R] at e;cases e⟩;obtain⟨s,ck⟩:∃s,Cb (s0::r0)=some s:=Option.isSome_iff_exists.1 (by simpa using hc);rw[ck] at R;have dj:=aw s ck;refine vo (jy Z (j8 A Z Z (jv Z ⟨⟨Z,by decide⟩,⟨Z,by decide⟩,trivial⟩ (l':=(.pointer (some ⟨x,0,none⟩)::S.c)) Z ?_)));have dk:=G;refine gn Z λbf dm bk bc T=>?_;have cp:=gw A.lt bk;have du:=Nat.le_trans B.size bk;have n:=vd n T id;have f:=f.g0 T;have E:=E.g0 T;have G:=λy g=>aG (G y g) T.size;have hS:=hS.g0 T;have B:=B.g4 T;have bc:gu dm bf 169 ((.pointer (some ⟨x,0,none⟩)::S.c)):=bc;refine vl Z (Bq [DD] zp (λx hx=>by rw[aE.1 hx];exact n) [.pointer (some ⟨bf,0,none⟩),.int .i64 0] (λbd J=>?_) (.inl Z));have ab:∀x,x∈[DD]->x=DD:=λx hx=>aE.1 hx;have bx:=J.size;refine⟨⟨Z,Z,trivial⟩,some ⟨bf,0,none⟩,F2,by rw[R];rfl,by rw[R];exact E.ext J λy g e=>by have:=ap y g;have:=ab y e;omega,B.trans J λy g e=>by have:=ab y e;omega,bm,λe=>(by rw[R] at e;cases e),λX e=>?_⟩;rw[R] at e;have e:some (⟨Wl.opened (qj D),s⟩:Sd)=some X:=e;cases e;refine⟨bf,x,H,K,S,Z,⟨bc.ext J λe=>by have:=ab _ e;omega,E.ext J λy g e=>by have:=ap y g;have:=ab y e;omega,f.ext J λy g e=>by have:=aq y g;have:=ab y e;omega,hS.ext ak J λy g e=>by have:=ar y g;have:=ab y e;omega,ak,dj,λy g=>(b0 y g).2,λy g=>⟨λe=>by have:=ar y g;have:=ap y e;omega,λe=>by have:=ar y g;have:=aq y e;omega⟩,⟨λe=>by have:=ap _ e;omega,λe=>by have:=aq _ e;omega,λe=>by have:=dk _ e;omega⟩,λy g=>aG (G y g) bx⟩,λy g=>?_⟩;rcases g with g|g|rfl;exact(b0 y g).1;have:=ar y g;omega;omega;exact hJ.elim
structure BothA (w : World) (xb sp x1 d1 lp x2 d2 : Nat) (F1 H1 K1 F2 H2 K2 : Nat -> Prop) (X : Sd) (h : ua) (S : yb) : Prop where
  box : gu w xb 98 [.pointer (some ⟨d1, 0, none⟩), .pointer (some ⟨d2, 0, none⟩), .pointer (some ⟨sp, 0, none⟩), .pointer (some ⟨lp, 0, none⟩)]
  mine : StA w sp x1 d1 F1 H1 K1 X h
  own : LedAt w lp x2 d2 F2 H2 K2 X S
theorem zj9.g0 {W u u':World} {s:yb} (h:zj9 W u s) (hE:Ext No u u'):zj9 W u' s:=⟨h.row.g0 hE,h.vals.g0 hE,λx a=>(h.o x a).g0 hE,λx a=>⟨(h.v x a).1.g0 hE,(h.v x a).2⟩,h.few,h.fev⟩
theorem zj9.g9 {W u u':World} {s:yb} (h:zj9 W u s) {b:Nat} {L:List Value} (hE:Ext (One b) u u') (hb:gu u b 102 L):zj9 W u' s:=
 ⟨h.row.g9 hE hb zd,h.vals.g9 hE hb zd,λx a=>(h.o x a).g9 hE hb zd zd zd,λx a=>⟨(h.v x a).1.g9 hE hb zd,(h.v x a).2⟩,h.few,h.fev⟩
theorem agree_calls (w:World) {xb m sp x1 d1 lp x2 d2:Nat} {F1 H1 K1 F2 H2 K2:Nat->Prop} {X:Sd} {h:ua} {S:yb} (hB:BothA w xb sp x1 d1 lp x2 d2 F1 H1 K1 F2 H2 K2 X h S) (hok:X.W.D.Ok m) (hm:m+5000<1000000000) (hW:Wl.Ok X.W) (hS:C3.Ok X.s) (hfew:X.s.row.length<60000):
  ge prog 28 [.pointer (some ⟨xb,0,none⟩)] w λv w'=>v= .bool true/\Ext No w w':=by
 refine gt func28 ?_;have a:=Ext.refl No w;refine uz Z (jb (α:=Unit) [0] Z (λz=>[(64,.bool false)]) (λz u=>Ext No w u) ?_ ?_);refine jl Z 60 [qP 0,qP 1,qP 2,qP 3,qP 5,qP 6,qP 7,qP 8,qP 9,qP 10,qP 11,(4,false),(12,false),qP 13,qP 14,qP 15,qP 16,qP 17,qP 18,qP 21,qP 22,qP 23,qP 24,qP 25,qP 26,qP 27,(19,false),(20,false),(28,false),qP 29,qP 30,qP 31,qP 32,qP 33,qP 34,qP 35,qP 38,qP 39,qP 40,qP 41,qP 42,qP 43,qP 44,(36,false),(37,false),(45,false),qP 46,qP 47,qP 48,qP 49,qP 50,qP 51,qP 52,qP 53,qP 54,qP 55,qP 56,(57,false),qP 58,qP 59] [] (No) zk λw1 O hs1=>?_;have d:=a;have a:=a.g4 O;have e:Ext (No) _ w1:=O.no;refine gl g5 3 Z (gy g5 Z Z (λw' b=>((hB.box.g0 (d.g4 b)).cell Z)) ?_);refine gl g5 3 Z (gy g5 Z Z (λw' b=>((hB.box.g0 (d.g4 b)).cell Z)) ?_);refine gl g5 2 Z (gy g5 Z Z (λw' b=>((hB.own.blk.g0 (d.g4 b)).cell Z)) ?_);refine jg Z (gx call20 Z (sbroken_calls w1 (hB.mine.g0 a)) λv2 w2 P=>⟨(by obtain⟨rfl,x⟩:=P;exact e.g4 x),?_⟩);obtain⟨rfl,x⟩:=P;have a:=a.g4 x;have e:=e.g4 x;refine jg Z (gx call69 Z (yw5 w2 (hB.own.log.g0 a)) λv3 w3 Q=>⟨(by obtain⟨rfl,A⟩:=Q;exact e.g4 A),?_⟩);obtain⟨rfl,A⟩:=Q;have a:=a.g4 A;have e:=e.g4 A;refine gl g5 2 Z (Bo 19 Z (λp=>?_) (λp=>?_));simp at p;refine gl g5 3 Z ?_;refine gy g5 Z Z (λw' b=>((hB.box.g0 (d.g4 b)).cell Z)) ?_;refine gl g5 3 Z (gy g5 Z Z (λw' b=>((hB.box.g0 (d.g4 b)).cell Z)) ?_);refine gl g5 2 Z (gy g5 Z Z (λw' b=>((hB.own.blk.g0 (d.g4 b)).cell Z)) ?_);refine jg Z (gx call21 Z (swal_calls w3 (hB.mine.g0 a)) λv4 w4 R=>⟨(by obtain⟨rfl,B⟩:=R;exact e.g4 B),?_⟩);obtain⟨rfl,B⟩:=R;have a:=a.g4 B;have e:=e.g4 B;refine jg Z (gx call85 Z (turn_calls w4 (hB.mine.log.g0 a)) λv5 w5 U=>⟨(by obtain⟨rfl,C⟩:=U;exact e.g4 C),?_⟩);obtain⟨rfl,C⟩:=U;have a:=a.g4 C;have e:=e.g4 C;refine jg Z (gx call85 Z (turn_calls w5 (hB.own.log.g0 a)) λv6 w6 V=>⟨(by obtain⟨rfl,E⟩:=V;exact e.g4 E),?_⟩);obtain⟨rfl,E⟩:=V;have a:=a.g4 E;have e:=e.g4 E;refine gl g5 3 Z (ve 36 Z (λp=>?_) (λp=>?_));exact absurd Z p;refine gl g5 3 Z ?_;refine gy g5 Z Z (λw' b=>((hB.box.g0 (d.g4 b)).cell Z)) ?_;refine gl g5 3 Z (gy g5 Z Z (λw' b=>((hB.box.g0 (d.g4 b)).cell Z)) ?_);refine gl g5 2 Z (gy g5 Z Z (λw' b=>((hB.own.blk.g0 (d.g4 b)).cell Z)) ?_);refine jg Z (gx call21 Z (swal_calls w6 (hB.mine.g0 a)) λv7 w7 Y=>⟨(by obtain⟨rfl,F⟩:=Y;exact e.g4 F),?_⟩);obtain⟨rfl,F⟩:=Y;have a:=a.g4 F;have e:=e.g4 F;refine jg Z (gx call66 Z (yv2 w7 (hB.mine.log.g0 a) (by have:=hW.size;omega) (by have:=hW.size;have:=hW.room;omega)) λv8 w8 I=>⟨(by obtain⟨rfl,G⟩:=I;exact e.g4 G),?_⟩);obtain⟨rfl,G⟩:=I;have a:=a.g4 G;have e:=e.g4 G;refine jg Z (gx call66 Z (yv2 w8 (hB.own.log.g0 a) (by have:=hW.size;omega) (by have:=hW.size;have:=hW.room;omega)) λv9 w9 aa=>⟨(by obtain⟨rfl,H⟩:=aa;exact e.g4 H),?_⟩);obtain⟨rfl,H⟩:=aa;have a:=a.g4 H;have e:=e.g4 H;refine gl g5 3 Z (ve 53 Z (λp=>?_) (λp=>?_));exact absurd Z p;refine gl g5 3 Z ?_;refine gy g5 Z Z (λw' b=>((hB.box.g0 (d.g4 b)).cell Z)) ?_;refine gl g5 3 Z (gy g5 Z Z (λw' b=>((hB.box.g0 (d.g4 b)).cell Z)) ?_);refine jg Z (gx call24 Z (twins_calls w9 (hB.mine.disk.g0 a) (hB.own.disk.g0 a) hok hm) λau av J=>⟨(by obtain⟨rfl,q⟩:=J;exact e.g4 q),?_⟩);obtain⟨rfl,q⟩:=J;have a:=a.g4 q;refine gl g5 2 Z (jd (j1 ?_));exact gk (()) Z a;rintro⟨⟩ aw a;refine qz Z (vo (gh (jn Z (j0 ?_))));refine ja (α:=Nat) [0] Z (λz=>[(65,.int .i64 (z:Int))]) (λz u=>(z<=2)/\Ext No w u) (λz u=>2-z) (0) Z ⟨(aF _),a⟩ ?_;rintro i M ⟨hi,a⟩;refine uz Z (jc Z (λhc=>?_) (λhc=>?_));refine jw ?_;refine jh (gh (j0 (jy Z (gj Z ((hB.box.g0 a).cell Z) ?_))));have ab:=a.size;obtain⟨wt,N⟩:∃wt:World,wt=M:=⟨_,Z⟩
 have f:wt.heap.size<=M.heap.size:=by rw[N];exact aA _
 rw[<-N] at ab;refine g7 call44 Z (tells_calls M (hB.mine.g0 a) hS hfew) λax ay ac=>?_;obtain⟨T,rfl,ah,ai,g,K⟩:=ac;have a:=a.g4 K;rw[<-N] at g;have f:=Nat.le_trans f K.size;refine gv g5 Z (gn Z λb3 aj ak j r=>?_);have am:=Nat.le_trans a.size ak;have g:=g.g0 r;have f:=Nat.le_trans f r.size;have a:=a.g4 r;have j:gu aj b3 102 ([.slice none 0 0,.slice none 0 0]):=j;have ad:=j;refine wl (gz (l':=T.c) g5 j Z Z Z Z OneC.h λaz j t aq=>?_);have g:=g.g9 t ad;have f:=Nat.le_trans f t.size;have a:=a.g8 t am;refine k9 Z (gh (jb (α:=Unit) [0,3,65] Z (λz=>[(88,.bool false)]) (λz u=>(zj9 wt u T/\wt.heap.size<=u.heap.size)/\gu u b3 102 (T.c)/\Ext No w u) ?_ ?_));refine jl Z 14 [qP 0,qP 1,qP 2,qP 3,qP 4,qP 5,qP 6,qP 7,qP 8,qP 9,qP 10,(11,false),qP 12,qP 13] [] (No) zk λae n ar=>?_;have an:=j;have d:=a;have j:=j.g0 n;have g:=g.g0 n;have f:=Nat.le_trans f n.size;have a:=a.g4 n;have e:Ext (No) _ ae:=n.no;refine gl g5 3 Z (Bo 77 Z (λp=>?_) (λp=>?_));cases p;refine kw g5 Z Z (λw' b=>(an.g0 b).kc) Z ?_;refine gl g5 3 Z (gy g5 Z Z (λw' b=>((hB.box.g0 (d.g4 b)).cell Z)) ?_);refine gl g5 2 Z (kw g5 Z Z (λw' b=>((Seg.append (l:=[.pointer (some ⟨x2,0,none⟩)])).1 (hB.own.blk.g0 (d.g4 b)).kc).2) Z ?_);refine jg Z (gx call48 Z (same10_calls ae g.at (hB.own.sto.g0 a)) λa0 a1 L=>⟨(by obtain⟨rfl,k⟩:=L;exact e.g4 k),?_⟩);obtain⟨rfl,k⟩:=L;have j:=j.g0 k;have g:=g.g0 k;have f:=Nat.le_trans f k.size;have a:=a.g4 k;rw[bN (show T.hs.map jk.o=S.hs.map jk.o/\T.vs.map Prod.fst=S.vs.map Prod.fst from⟨ah.trans (congrArg C3.row hB.own.s).symm,ai.trans (congrArg C3.vals hB.own.s).symm⟩)];refine gl g5 2 Z (jd (j1 ?_));exact gk (()) Z ⟨⟨g,f⟩,j,a⟩;rintro⟨⟩ ap ⟨⟨g,f⟩,j,a⟩;refine qz Z (vo (gr (j8 j Z Z (g7 call86 Z (sspoil_calls ap g f) λa2 a3 af=>?_))));obtain⟨rfl,ag⟩:=af;have a:=a.newer ag λy hy=>Nat.le_trans ab hy;refine ga (yt Z ?_);rw[jt _ zo];refine ga ?_;exact j9 (i+1) Z ⟨zo,a⟩ zf;refine vw ?_;refine ke (ke (qu (jh (jn Z (j6 (gp Z Z ?_))))));exact⟨Z,a⟩
theorem openS_fine {D:kg} {m:Nat} (hok:D.Ok m):(xu D).1.Ok (m+5000)/\((xu D).2.2=none->(xu D).2.1≠0)/\∀X,(xu D).2.2=some X->(xu D).2.1=0/\X.W.D=(xu D).1/\Wl.Ok X.W/\X.s.Ok/\X.s.row.length<=48000:=by
 have c:=openW_fine hok;by_cases hc:(qj D).2.1≠0;have b:xu D=((qj D).1,(qj D).2.1,none):=aM hc;rw[b];exact⟨c.1,λ_=>hc,λX e=>(by cases e)⟩
 have f:(qj D).2.1=0:=aN.1 hc;have d:=c.2.2 f
 have b:xu D=match Cb (Wl.opened (qj D)).pieces with
  |none=>((qj D).1,201,none)
  |some s=>((qj D).1,0,some ⟨Wl.opened (qj D),s⟩):=aJ hc
 cases hs:Cb (Wl.opened (qj D)).pieces with
 |none=>rw[hs] at b;rw[b];exact⟨c.1,λ_ e=>(by cases e),λX e=>(by cases e)⟩
 |some s=>
  rw[hs] at b;rw[b];refine⟨c.1,λe=>(by cases e),λX e=>?_⟩;have e:some (⟨Wl.opened (qj D),s⟩:Sd)=some X:=e;cases e;cases hp:(Wl.opened (qj D)).pieces with
  |nil=>exact absurd hp d.some
  |cons a l=>
   rw[hp] at hs;have h:=open_say d hp l.length (by rw[bC];exact hs);exact⟨Z,Z,d,h.1,h.2⟩
abbrev LdB (F H K : Nat -> Prop) (lp : Nat) : Nat -> Prop := StB F H K lp
theorem LedAt.ext {S:Nat->Prop} {u u':World} {lp x d:Nat} {F H K:Nat->Prop} {X:Sd} {s:yb} (k:LedAt u lp x d F H K X s) (hE:Ext S u u') (hS:∀y,LdB F H K lp y->¬S y):LedAt u' lp x d F H K X s:=
 ⟨k.blk.ext hE (hS _ (.inr (.inr (.inr Z)))),k.disk.ext hE λy a=>hS y (.inl a),k.log.ext hE λy a=>hS y (.inr (.inl a)),k.sto.ext k.in_ hE λy a=>hS y (.inr (.inr (.inl a))),k.in_,k.s,k.fh,k.fk,k.out,λy a=>aG (k.lt y a) hE.size⟩
theorem LedAt.g0 {u u':World} {lp x d:Nat} {F H K:Nat->Prop} {X:Sd} {s:yb} (k:LedAt u lp x d F H K X s) (hE:Ext No u u'):LedAt u' lp x d F H K X s:=k.ext hE λ_ _=>id
def OpensQ (w w' : World) (xb d1 d2 : Nat) (F1 F2 : Nat -> Prop) (D : kg) : Prop :=
  ∃ F1' F2' : Nat -> Prop, (∀ y, F1' y -> F1 y \/ w.heap.size <= y) /\ (∀ y, F2' y -> F2 y \/ w.heap.size <= y) /\ (∀ y, F1' y -> ¬ F2' y) /\ match (xu D).2.2 with
  | none => At w' d1 F1' (xu D).1 /\ At w' d2 F2' (xu D).1 /\ Ext (λy => F1 y \/ F2 y) w w'
  | some X => ∃ (sp x1 lp x2 : Nat) (H1 K1 H2 K2 : Nat -> Prop) (h : ua) (S : yb), BothA w' xb sp x1 d1 lp x2 d2 F1' H1 K1 F2' H2 K2 X h S /\ (∀ y, StB F1' H1 K1 sp y -> ¬ LdB F2' H2 K2 lp y) /\ (∀ y, (H1 y \/ K1 y \/ y = sp) \/ H2 y \/ K2 y \/ y = lp -> w.heap.size <= y)
theorem opens_calls (w:World) {xb d1 d2 m:Nat} {F1 F2:Nat->Prop} {D:kg} {v1 v2:Value} (hb:gu w xb 98 [.pointer (some ⟨d1,0,none⟩),.pointer (some ⟨d2,0,none⟩),v1,v2]) (h1:At w d1 F1 D) (h2:At w d2 F2 D) (hF:∀y,F1 y->¬F2 y) (hx:¬F1 xb/\¬F2 xb) (hok:D.Ok m) (hm:m+10000<1000000000) (hr:Rt w) (hF0:¬F1 0/\¬F2 0):
  ge prog 29 [.pointer (some ⟨xb,0,none⟩)] w λv w'=>v= .bool true/\OpensQ w w' xb d1 d2 F1 F2 D/\Ext (λy=>F1 y\/F2 y\/y=xb) w w':=by
 have i:=hb;have c:=h2;have J:=h2.lt;have ap:=hb.lt;obtain⟨V,W,K⟩:=openS_fine hok;refine gt func29 ?_;have g:=Ext.refl (λy=>F1 y\/F2 y\/y=xb) w;refine jn Z (jy Z (gj Z (i.cell Z) (g7 call14 Z (sopen_calls w h1 hok hm hr hF0.1) λv1 w1 L=>?_)));obtain⟨so,j,rfl,d,o,A,ac,M⟩:=L;have c:=c.ext o λy a e=>hF y e a;have i:=i.ext o hx.1;have g:=g.then (o.mono λy _ e=> .inl e);have L:=hr.ext o hF0.1;have l:Ext (λy=>F1 y\/F2 y) w w1:=o.mono λy _ e=> .inl e;have G:=d.lt;have n:=o.size;obtain⟨wA,N⟩:∃wA:World,wA=w1:=⟨_,Z⟩
 rw[<-N] at G n M;refine k9 Z (jy Z (gj Z (i.cell Z) (g7 call87 Z (lopen_calls w1 c hok hm L hF0.2) ?_)));rintro v2 w2⟨lo,p,rfl,c,s,q,aq,Y⟩;rw[<-N] at Y q;have O:∀y,j y->¬F2 y:=λy a e=>(A y a).elim (λk=>hF y k e) λk=>by have:=J y e;omega
 have d:=d.ext s O;have i:=i.ext s hx.2;have g:=g.then (s.mono λy _ e=> .inr (.inl e));have l:=l.then (s.mono λy _ e=> .inr e);have P:∀y,j y->¬p y:=λy a e=>(q y e).elim (O y a) λk=>by have:=G y a;omega
 have I:=s;rw[<-N] at I;refine k9 Z (gh (jb (α:=Unit) [0,3,4,5] Z (λz=>[(32,.bool false)]) (λz u=>u=w2) ?_ ?_))
 ·refine gr (gv g5 Z (j7 26 Z (λhg=>?_) (λhg=>?_)))
  exact absurd Z hg
  have ae:((xu D).2.1≠0/\so=none)\/((xu D).2.1=0/\∃x,so=some ⟨x,0,none⟩):=by
   cases e:(xu D).2.2 with
   |none=>exact .inl ⟨W e,ac e⟩
   |some X=>obtain⟨x,_,_,_,_,e2,_⟩:=M X e;exact .inr ⟨(K X e).1,x,e2⟩
  rcases ae with⟨h0,rfl⟩|⟨h0,x,rfl⟩
  all_goals
   refine gm g5 6 Z (ga ?_);exact gk (()) (by first|(rw[bG h0];rfl)|(rw[bN h0];rfl)) Z
 rintro⟨⟩ w3 hu;have hu:=hu.symm;subst hu;refine qz Z (vo (gh (jn Z (jc Z (λhc=>?_) (λhc=>?_)))))
 have af:(xu D).2.2=none:=by
  cases e:(xu D).2.2 with
  |none=>rfl
  |some X=>exact absurd (K X e).1 hc
 refine gh (jl Z 10 [qP 0,qP 1,qP 2,qP 3,qP 4,qP 5,qP 6,qP 7,(8,false),qP 9] [] (No) zk λw4 t ar=>?_);have aa:=i;have c:=c.g0 t;have l:=l.g4 t;have d:=d.g0 t;have g:=g.g4 t;have hC:Ext (No) _ w4:=t.no;refine gl g5 3 Z (gy g5 Z Z (λw' Q=>((aa.g0 Q).cell Z)) (gl g5 3 Z (gy g5 Z Z (λw' Q=>((aa.g0 Q).cell Z)) (jg Z (gx call24 Z (twins_calls w4 d c V zo) λv5 w5 ab=>⟨(by obtain⟨rfl,r⟩:=ab;exact hC.g4 r),?_⟩)))));obtain⟨rfl,r⟩:=ab;have c:=c.g0 r;have l:=l.g4 r;have d:=d.g0 r;have g:=g.g4 r;refine gl g5 1 Z (jd (j1 (jh (j6 (j2 (gp Z Z ?_))))));exact⟨Z,⟨j,p,A,λy a=>(q y a).imp id λe=>Nat.le_trans n e,P,by rw[af];exact⟨d,c,l⟩⟩,g⟩
 obtain⟨X,B⟩:∃X,(xu D).2.2=some X:=by
  cases e:(xu D).2.2 with
  |none=>exact absurd (aN.1 hc) (W e)
  |some X=>exact⟨X,Z⟩
 obtain⟨_,ag,ah,ai,a0⟩:=K X B;obtain⟨x,x1,H1,K1,h,rfl,b,C⟩:=M X B;obtain⟨lp,x2,H2,K2,S,rfl,f,R⟩:=Y X B;have H:=b.lt
 have b:=b.ext I (λy a e=>by
  rcases a with a|a
  exact O y a e
  have:=C y a;have:=J y e;omega)
 have E:(∀y,StB j H1 K1 x y->y≠xb)/\∀y,LdB p H2 K2 lp y->y≠xb:=⟨λy a e=>by
  subst e
  rcases a with a|a
  exact(A _ a).elim hx.1 λk=>by omega
  have:=C _ a;omega,λy a e=>by
  subst e
  rcases a with a|a
  exact(q _ a).elim hx.2 λk=>by omega
  have:=R _ a;omega⟩
 have aj:∀y,(H1 y\/K1 y\/y=x)\/H2 y\/K2 y\/y=lp->w.heap.size<=y:=λy a=>a.elim (C y) λe=>Nat.le_trans n (R y e)
 have ak:∀y,StB j H1 K1 x y->¬LdB p H2 K2 lp y:=λy a e=>by
  rcases e with e|e;rcases a with a|a;exact P y a e;have h1:=C y a;have h2:=H y (.inr a);exact(q y e).elim (λk=>by have:=J y k;omega) λk=>by omega
  have h1:=R y e;have h2:=H y a;omega
 refine vo (jy Z (ka i Z Z Z λw6 i T au=>?_));have g:=g.then (T.mono λy _ e=> .inr (.inr e));have b:=b.ext T E.1;have f:=f.ext T E.2;refine gv g5 Z (ka i Z Z Z λw7 i U av=>?_);have g:=g.then (U.mono λy _ e=> .inr (.inr e));have b:=b.ext U E.1;have f:=f.ext U E.2;have am:BothA w7 xb x x1 d1 lp x2 d2 j H1 K1 p H2 K2 X h S:=⟨i,b,f⟩
 refine qi (jy Z (g7 call28 Z (agree_calls w7 am (ag▸V) zo ah ai zo) ?_));rintro v8 w8⟨rfl,F⟩;have i:=i.g0 F;have g:=g.g4 F;have b:=b.g0 F;have f:=f.g0 F;refine vl Z (gp Z Z ?_);exact⟨Z,⟨j,p,A,λy a=>(q y a).imp id λe=>Nat.le_trans n e,P,by rw[B];exact⟨x,x1,lp,x2,H1,K1,H2,K2,h,S,⟨i,b,f⟩,ak,aj⟩⟩,g⟩
def Calm (D : kg) : Prop := D.dead = false /\ D.fuse = -1 /\ D.fault = -1
theorem begin_calm {D:kg} (h:Calm D) {i:Int} (hi:0<=i/\i<D.secs.length) (b:Bool):(D.begin i b).2=0/\Calm (D.begin i b).1:=by
 obtain⟨a,c,d⟩:=h;unfold kg.begin;rw[aJ (by rw[a];decide),aJ (by simpa using hi),aJ (by rw[d];decide),aJ (by rw[c];simp)];refine⟨Z,a,?_,?_⟩;simp[A4,c];simp[vk,d]
theorem write_calm {D:kg} (h:Calm D) {i:Int} (hi:0<=i/\i<D.secs.length) (b:Bytes):(D.write i b).2=0/\Calm (D.write i b).1:=by
 obtain⟨a,c⟩:=begin_calm h hi true;unfold kg.write;dsimp only;rw[aM a];exact⟨a,c⟩
theorem sync_calm {D:kg} (h:Calm D) (hs:0<D.secs.length):D.sync.2=0/\Calm D.sync.1:=by
 obtain⟨a,b⟩:=begin_calm h (i:=0) zo true;unfold kg.sync;dsimp only;rw[aM a];exact⟨a,b⟩
theorem xv6:∀(l:List Bytes) {D:kg} {at_:Int},Calm D->0<=at_->at_+l.length<=D.secs.length->0<D.secs.length->(Be D at_ l).2=0/\Calm (Be D at_ l).1
 | [],D,at_,h,_,_,hs=>sync_calm h hs
 |b::r,D,at_,h,h0,h1,hs=>by
  rw[aR] at h1
  obtain⟨a1,a2⟩:=write_calm h (i:=at_) zo b
  unfold Be
  rw[aJ (by rw[a1];decide)]
  exact xv6 r a2 zo (by rw[D.Cq];omega) (by rw[D.Cq];exact hs)
theorem beginD_calm {D:kg} (h:Calm D) {t n:Nat} {x:Bytes} (hx:kl x.length<=n) (hs:2+2*n<=D.secs.length):(yr D t n x).2=0/\Calm (yr D t n x).1:=by
 have c:uk t n<=2+n:=by unfold uk;split<;>omega
 obtain⟨a,b⟩:=xv6 (vr t 0 x) h (cT (uk t n)) (by rw[x7];omega) zo;unfold yr;dsimp only;rw[aJ (by rw[a];decide)];exact xv6 _ b (cT _) (by rw[Am];simp;omega) (by rw[Am];omega)
theorem formatW_calm {D:kg} (h:Calm D) {a:Nat} (ha:4<=a/\a<=1000) (hs:2+2*a<=D.secs.length):(un D (a:Int)).2=0/\Calm (un D (a:Int)).1:=by
 rw[xj2 ⟨ha.1,ha.2,hs⟩];obtain⟨b,c⟩:=xv6 (List.replicate (2+2*a) zeros) h (at_:=0) zo (by rw[bM];omega) zo;rw[aJ (by rw[b];decide)];exact beginD_calm c (by show 1<=a;omega) (by rw[Am];exact hs)
theorem ckp_calm {W:Wl} (h:Calm W.D) (hW:Wl.Ok W) (b:Bytes) (r:Int) (hr0:r=W.refuses b (if W.turn=4294967295 then 0 else(W.size:Int))):(W.qk b).2=r/\Calm (W.qk b).1.D/\(W.qk b).1.size=W.size/\(r=0->(W.qk b).1={W with D:=(W.qk b).1.D,broken:=false,turn:=W.turn+1,pieces:=[b],used:=kl b.length})/\(r≠0->(W.qk b).1=W):=by
 subst hr0;by_cases hr:W.refuses b (if W.turn=4294967295 then 0 else(W.size:Int))=0;obtain⟨y,d⟩:∃y,y=yr W.D (W.turn+1) W.size b:=⟨_,Z⟩
 have c:kl b.length<=W.size:=by have a:=hr;unfold Wl.refuses at a;split at a;cases a;split at a;cases a;by_cases ht:W.turn=4294967295;rw[aM ht] at a;by_cases h6:(0:Int)<kl b.length;rw[aM h6] at a;cases a;omega;rw[aJ ht] at a;by_cases h6:(W.size:Int)<kl b.length;rw[aM h6] at a;cases a;omega
 obtain⟨f,g⟩:=beginD_calm h (t:=W.turn+1) c hW.secs;rw[<-d] at f g;rw[ckp_ok hr d f,hr];exact⟨Z,g,Z,λ_=>rfl,λe=>absurd Z e⟩
 rw[ckp_no hr];exact⟨Z,h,Z,λe=>absurd e hr,λ_=>rfl⟩
theorem fresh_calm0 (n : Nat) : Calm (kg.fresh n) := ⟨Z, rfl, rfl⟩
def sayB (W : Wl) (b : Bytes) : Wl := (W.append (b.take 1000)).1
def Db : Wl := Wl.fresh (un (kg.fresh 402) ((200 : Nat) : Int)).1 200
def sayW (sn : Bytes) (l : List Bytes) : Wl := (l.take 8).foldl sayB (Db.qk (sn.take 6000)).1
theorem say_fmtG {n a:Nat} (ha:4<=a/\a<=1000) (hn:1<=n/\n<=2048) (h2:2+2*a<=n):(un (kg.fresh n) (a:Int)).2=0/\Wl.Ok (Wl.fresh (un (kg.fresh n) (a:Int)).1 a)/\(Wl.fresh (un (kg.fresh n) (a:Int)).1 a).D.Ok 6000/\Calm (Wl.fresh (un (kg.fresh n) (a:Int)).1 a).D:=by
 have b:(kg.fresh n).Ok 0:=kg.Ok.fresh hn;obtain⟨c,h2⟩:=formatW_calm (fresh_calm0 n) ha (by simpa [kg.fresh] using h2);exact⟨c,(format_fine c b).1,(formatW_ok b a).1,h2⟩
theorem say_fmt : (un (kg.fresh 402) ((200 : Nat) : Int)).2 = 0 /\ Wl.Ok Db /\ Db.D.Ok 6000 /\ Calm Db.D := say_fmtG zd zd zd
theorem pairE {α β : Type} (p : α × β) (b : β) (h : p.2 = b) : p = (p.1, b) := by cases p; cases h; rfl
theorem say0:∃D,un (kg.fresh 402) ((200:Nat):Int)=(D,0)/\Db=Wl.fresh D 200:=⟨_,pairE _ _ say_fmt.1,Z⟩
theorem say_ckp (sn:Bytes):(Db.qk (sn.take 6000)).2=0/\Wl.Ok (Db.qk (sn.take 6000)).1/\(Db.qk (sn.take 6000)).1.D.Ok 8000:=by
 obtain⟨_,h1,h2,h3⟩:=say_fmt
 have hl:(sn.take 6000).length<=6000:=by rw[aK];omega
 have hs:kl (sn.take 6000).length<=200:=by unfold kl;split<;>omega
 have hr:Db.refuses (sn.take 6000) (if Db.turn=4294967295 then 0 else(Db.size:Int))=0:=by
  unfold Wl.refuses
  rw[aJ zo,aJ (show¬Db.broken=true from λe=>by cases e),aJ (show¬Db.turn=4294967295 from λe=>by cases e),aJ]
  show¬(200:Int)<_
  omega
 exact⟨(ckp_calm h3 h1 _ _ Z).1.trans hr,(ckp_fine h2 h1 _).2,(ckp_fine h2 h1 _).1⟩
theorem say_app:∀(l:List Bytes) {W:Wl} {m:Nat},Wl.Ok W->W.D.Ok m->Wl.Ok (l.foldl sayB W)/\(l.foldl sayB W).D.Ok (m+2000*l.length)
 | [],_,_,h,k=>⟨h,k⟩
 |b::l,W,m,h,k=>by
  have e:=append_fine k h (b.take 1000)
  have r:=say_app l e.2 e.1
  rw[List.foldl_cons,aR]
  exact⟨r.1,by rw[show m+2000*(l.length+1)=m+2000+2000*l.length from by omega];exact r.2⟩
theorem say_step {l:List Bytes} {i:Nat} {W:Wl} (h:i<l.length):(l.take (i+1)).foldl sayB W=sayB ((l.take i).foldl sayB W) l[i]:=by
 rw[List.take_succ_eq_append_getElem h,List.foldl_append];rfl
structure LogJ (V u : World) (d x : Nat) (F H : Nat -> Prop) (W : Wl) : Prop where
  disk : At u d F W.D
  log : xh u x d H W
  hf : ∀ y, H y -> ¬ F y
  nf : ∀ y, F y -> V.heap.size <= y
  nh : ∀ y, H y -> V.heap.size <= y
theorem LogJ.step {V u u':World} {d x:Nat} {F H:Nat->Prop} {W W':Wl} (h:LogJ V u d x F H W) (hV:V.heap.size<=u.heap.size) {F' H':Nat->Prop} (h1:At u' d F' W'.D) (h2:xh u' x d H' W') (h3:∀y,F' y->F y\/u.heap.size<=y) (h4:∀y,H' y->H y\/u.heap.size<=y) (h5:∀y,H' y->¬F' y):LogJ V u' d x F' H' W':=
 ⟨h1,h2,h5,λy hy=>(h3 y hy).elim (h.nf y) λe=>by omega,λy hy=>(h4 y hy).elim (h.nh y) λe=>by omega⟩
def SayJ (B V u : World) (D : kg) : Nat -> Value -> Value -> Prop
  | 0, _, _ => True
  | 1, v0, _ => ∃ d F, v0 = .pointer (some ⟨d, 0, none⟩) /\ At u d F D /\ ∀ y, F y -> B.heap.size <= y /\ y < V.heap.size
  | _, v0, v1 => ∃ d F e G, v0 = .pointer (some ⟨d, 0, none⟩) /\ v1 = .pointer (some ⟨e, 0, none⟩) /\ At u d F D /\ At u e G D /\ (∀ y, F y -> B.heap.size <= y) /\ (∀ y, G y -> B.heap.size <= y) /\ ∀ y, F y -> ¬ G y
theorem slB_lt {w:World} {p:Option Addr} {b:Bytes} (h:ux w p b) (h0:b≠[]):∀y off,p=some ⟨y,off,none⟩->y<w.heap.size:=λy off e=>by
 rcases h.2 with h2|⟨b',off',h2,h3⟩
 ·exact absurd (aT h2) h0
 rw[h2] at e;cases e
 exact h3.lt λe=>h0 (by cases b with|nil=>rfl|cons a l=>cases e)
theorem setI2 {i:Nat} (h:i<2) (a b v:Value):[a,b].set (0+i*1) v=[if i=0 then v else a,if i=0 then b else v]:=by
 obtain rfl|rfl:i=0\/i=1:=by omega
 ·rfl
 rfl
theorem getI2 {i:Nat} (h:i<2) (a b v:Value):[if i=0 then v else a,if i=0 then b else v][0+i*1]? =some v:=by
 obtain rfl|rfl:i=0\/i=1:=by omega
 ·rfl
 rfl
theorem SayJ.ext {B V u u':World} {D:kg} {i:Nat} (hi:i<2) {v0 v1:Value} (h:SayJ B V u D i v0 v1) {S:Nat->Prop} (hE:Ext S u u') (hS:∀y,S y->y<B.heap.size\/V.heap.size<=y):SayJ B V u' D i v0 v1:=by
 obtain rfl|rfl:i=0\/i=1:=by omega
 ·trivial
 obtain⟨d,F,e,hA,hF⟩:=h
 exact⟨d,F,e,hA.ext hE λy hy k=>by have:=hS y k;have:=hF y hy;omega,hF⟩
theorem SayJ.next {B V u:World} {D:kg} {i:Nat} (hi:i<2) {v0 v1:Value} (h:SayJ B V u D i v0 v1) {d:Nat} {F:Nat->Prop} (hA:At u d F D) (hF:∀y,F y->V.heap.size<=y) (hB:B.heap.size<=V.heap.size):SayJ B u u D (i+1) (if i=0 then .pointer (some ⟨d,0,none⟩) else v0) (if i=0 then v1 else .pointer (some ⟨d,0,none⟩)):=by
 obtain rfl|rfl:i=0\/i=1:=by omega
 ·exact⟨d,F,Z,hA,λy hy=>⟨Nat.le_trans hB (hF y hy),hA.lt y hy⟩⟩
 obtain⟨e,G,k,hG,hGl⟩:=h
 exact⟨e,G,d,F,k,Z,hG,hA,λy hy=>(hGl y hy).1,λy hy=>Nat.le_trans hB (hF y hy),λy h1 h2=>by have:=hGl y h1;have:=hF y h2;omega⟩
theorem storesays_calls (w:World) (hr:Rt w) {ps:Option Addr} {cs:Nat} {sn:Bytes} (hs:ux w ps sn) (hsc:sn.length<=cs) {pr:Option Addr} {cr:Nat} {R:List PcX} (hR:Sl w pr R.length 1 (R.flatMap PcX.cell)) (hRi:∀r∈R,ux w r.p r.l/\r.l.length<=r.c) (hcr:R.length<=cr):
  ge prog 7 [.slice ps sn.length cs,.slice pr R.length cr] w λv w'=>v= .bool true/\Ext No w w':=by
 have hsm:ux w ps (sn.take 6000):=hs.cutB 6000
 have hml:(sn.take 6000).length<=6000:=by rw[aK];omega
 obtain⟨_,hWk0,hDk0,_⟩:=say_fmt
 obtain⟨D0,hfe,hW0⟩:=say0
 obtain⟨hc0,hWk1,hDk1⟩:=say_ckp sn
 obtain⟨XW,hXW⟩:∃XW,XW=sayW sn (R.map PcX.l):=⟨_,Z⟩
 refine gt func7 ?_
 have hX:=Ext.refl No w
 refine uz Z (ki (g7 call9 Z (lwakes_calls w (Rt.ext hr hX id)) λv1 w1 hr1=>?_))
 obtain⟨rfl,hE1⟩:=hr1
 have hX:=hX.g4 hE1
 refine k9 Z (qz Z (vo (jy Z ?_)))
 refine wl (Ay g5 Z 0 (min sn.length 6000) cs 1 Z (.inr ⟨Z,Z⟩) (.inl (congrArg some (minI _ _))) (.inr ⟨Z,Z⟩) (aF _) (by have:=hsc;omega) (aA _) ?_)
 rw[qa,bH,bH]
 rw[min_take sn 6000]
 refine k9 Z (ki (gn Z λb5 w2 hn5 hb5 hE2=>?_))
 have fr5:=Nat.le_trans hX.size hn5
 have hX:=hX.g4 hE2
 have hb5:gu w2 b5 94 ([.pointer none,.pointer none]):=hb5
 obtain⟨B,hB⟩:∃B:World,B=w2:=⟨_,Z⟩
 have h5B:b5<B.heap.size:=by rw[hB];exact hb5.lt
 have hXB:Ext No w B:=by rw[hB];exact hX
 have hwB:=hXB.size
 have hBu:B.heap.size<=w2.heap.size:=by rw[hB];exact aA _
 refine qi (gh (jn Z (j0 ?_)))
 refine ja (α:=Nat×Value×Value) [0,1,5] Z (λz=>[(19,.int .i64 (z.1:Int))]) (λz u=>(z.1<=2/\SayJ B u u XW.D z.1 z.2.1 z.2.2/\B.heap.size<=u.heap.size)/\gu u b5 94 ([z.2.1,z.2.2])/\Ext No w u) (λz u=>2-z.1) (0,.pointer none,.pointer none) Z ⟨⟨aF _,trivial,hBu⟩,hb5,hX⟩ ?_
 rintro⟨i,v0,v1⟩ w3 ⟨⟨hi,hJ,hBu⟩,hb5,hX⟩
 try dsimp only
 dsimp only at hi hJ hb5
 obtain⟨V,hV⟩:∃V:World,V=w3:=⟨_,Z⟩
 rw[<-hV] at hBu
 have hVu:V.heap.size<=w3.heap.size:=by rw[hV];exact aA _
 have hJ:SayJ B V w3 XW.D i v0 v1:=by rw[hV];exact hJ
 refine uz Z (jc Z (λhc=>?_) (λhc=>?_))
 ·have hi2:i<2:=by omega
  refine yz (jn Z (uz Z (jy Z ?_)))
  have hVa:=hVu
  refine g7 call22 Z (new_calls w3 (n:=402) zd) λv4 w4 hr4=>?_
  obtain⟨d,F,rfl,hA,hF,hE4⟩:=hr4
  have hb5:=hb5.g0 hE4
  have hJ:=hJ.ext hi2 hE4 λy e=>e.elim
  have hVu:=Nat.le_trans hVu hE4.size
  have hX:=hX.g4 hE4
  have hF:∀y,F y->V.heap.size<=y:=λy hy=>Nat.le_trans hVa (hF y hy)
  have n5:∀y,F y->¬One b5 y:=λy hy e=>by have:=hF y hy;have e:y=b5:=e;omega
  refine gv g5 Z (jo Z 1 Z i Z hi2 (0+i*1) Z (wl (uh g5 hb5 Z Z (by show 0+i*1<2;omega) λw5 hb5 hE5 hs5=>?_)))
  have hJ:=hJ.ext hi2 hE5 λy e=> .inl (by have e:y=b5:=e;omega)
  have hVu:=Nat.le_trans hVu hE5.size
  have hA:=hA.ext hE5 n5
  have hX:=hX.g8 hE5 fr5
  have hb5:gu w5 b5 94 ([if i=0 then .pointer (some ⟨d,0,none⟩) else v0,if i=0 then v1 else .pointer (some ⟨d,0,none⟩)]):=by(have e:=hb5;rw[setI2 hi2] at e;exact e)
  refine k9 Z (jn Z (qz Z (vo (jy Z (jo Z 1 Z i Z hi2 (0+i*1) Z ?_)))))
  refine gj Z (hb5.cell (getI2 hi2 _ _ _)) ?_
  have hVb:=hVu
  refine g7 call23 Z (format_calls w5 hA (kg.Ok.fresh zd) zd ((200:Nat):Int) zd (Rt.ext hr hX id) (λe=>by have:=hF 0 e;omega)) λv6 w6 hr6=>?_
  obtain⟨xo,F2,rfl,hA,hE6,hF2,hno,hyes⟩:=hr6
  have hX:=hX.newer hE6 λy hy=>by have:=hF y hy;omega
  have hb5:=hb5.ext hE6 λe=>by have:=hF b5 e;omega
  have hJ:=hJ.ext hi2 hE6 λy e=> .inr (hF y e)
  have hVu:=Nat.le_trans hVu hE6.size
  rw[hfe] at hA hyes|-
  obtain⟨x,H,rfl,hL,hHn⟩:=hyes Z
  have hL:xh w6 x d H (Wl.fresh D0 200):=hL
  have hLJ:LogJ V w6 d x F2 H (Wl.fresh D0 200):=⟨hA,hL,λy hy=>(hHn y hy).2,λy hy=>(hF2 y hy).elim (hF y) λe=>by omega,λy hy=>by have:=(hHn y hy).1;omega⟩
  rw[<-hW0] at hLJ
  refine k9 Z (gh ?_)
  refine jb (α:=(Nat->Prop)×(Nat->Prop)) [0,1,5,8,19] Z (λz=>[(44,.bool false)]) (λz u=>(SayJ B V u XW.D i v0 v1/\V.heap.size<=u.heap.size/\LogJ V u d x z.1 z.2 (Db.qk (sn.take 6000)).1)/\gu u b5 94 ([if i=0 then .pointer (some ⟨d,0,none⟩) else v0,if i=0 then v1 else .pointer (some ⟨d,0,none⟩)])/\Ext No w u) ?_ ?_
  ·refine gr ?_
   refine gv g5 Z (j7 39 Z (λhg=>?_) (λhg=>?_))
   ·exact absurd Z hg
   refine gm g5 2 Z ?_
   have hVc:=hVu
   refine g7 call38 Z (yx6 w6 hLJ.log hLJ.disk hDk0 zd hWk0 (hsm.g0 hX) zo (Rt.ext hr hX id) (λe=>by have:=hLJ.nf 0 e;omega) hLJ.hf (λh0 y off e=>by have h:=slB_lt hsm h0 y off e;have hl:=hX.size;exact⟨λe=>by have:=hLJ.nf y e;omega,λe=>by have:=hLJ.nh y e;omega,by omega⟩)) λv7 w7 hr7=>?_
   obtain⟨rfl,F3,H3,hA3,hL3,hF3,hH3,hHF3,hE7⟩:=hr7
   have hLJ3:=hLJ.step hVc hA3 hL3 hF3 hH3 hHF3
   have hX:=hX.newer hE7 λy hy=>hy.elim (λe=>by have:=hLJ.nf y e;omega) λe=>by have:=hLJ.nh y e;omega
   have hb5:=hb5.ext hE7 λe=>e.elim (λe=>by have:=hLJ.nf b5 e;omega) λe=>by have:=hLJ.nh b5 e;omega
   have hJ:=hJ.ext hi2 hE7 λy e=> .inr (e.elim (hLJ.nf y) (hLJ.nh y))
   have hVu:=Nat.le_trans hVu hE7.size
   rw[hc0]
   refine gm g5 2 Z (ga ?_)
   exact gk (F3,H3) Z ⟨⟨hJ,hVu,hLJ3⟩,hb5,hX⟩
  rintro⟨F3,H3⟩ w8 ⟨⟨hJ,hVu,hLJ⟩,hb5,hX⟩
  try dsimp only
  dsimp only at hLJ
  refine qz Z (vo (jy Z ?_))
  refine wl (Ay g5 Z 0 (min R.length 8) cr 1 Z (.inr ⟨Z,Z⟩) (.inl (congrArg some (minI _ _))) (.inr ⟨Z,Z⟩) (aF _) (by have:=hcr;omega) (aA _) ?_)
  rw[qa,bH,bH]
  refine k9 Z (j0 ?_)
  refine ja (α:=Nat×(Nat->Prop)×(Nat->Prop)) [0,1,5,8,19,49,50] Z (λz=>[(51,.int .i64 (z.1:Int))]) (λz u=>(z.1<=min R.length 8/\SayJ B V u XW.D i v0 v1/\V.heap.size<=u.heap.size/\LogJ V u d x z.2.1 z.2.2 (((R.map PcX.l).take z.1).foldl sayB (Db.qk (sn.take 6000)).1))/\gu u b5 94 ([if i=0 then .pointer (some ⟨d,0,none⟩) else v0,if i=0 then v1 else .pointer (some ⟨d,0,none⟩)])/\Ext No w u) (λz u=>min R.length 8-z.1) (0,F3,H3) Z ⟨⟨aF _,hJ,hVu,hLJ⟩,hb5,hX⟩ ?_
  rintro⟨j,F4,H4⟩ w9 ⟨⟨hj,hJ,hVu,hLJ⟩,hb5,hX⟩
  try dsimp only
  dsimp only at hj hLJ
  refine uz Z (jc Z (λhc=>?_) (λhc=>?_))
  ·have hj2:j<R.length:=by omega
   obtain⟨qb,qoff,hp,hsq⟩:=hR.km (λ_ _=>rfl) zo
   rw[hp]
   have hri:=hRi _ (aC hj2)
   obtain⟨m,hm⟩:∃m,m=(R[j]).l.take 1000:=⟨_,Z⟩
   have hml2:m.length<=1000:=by rw[hm,aK];omega
   have hsm2:ux w (R[j]).p m:=by rw[hm];exact hri.1.cutB 1000
   have hjm:j<(R.map PcX.l).length:=by rw[aB];exact hj2
   obtain⟨W4,hW4⟩:∃W4,W4=((R.map PcX.l).take j).foldl sayB (Db.qk (sn.take 6000)).1:=⟨_,Z⟩
   have hst:((R.map PcX.l).take (j+1)).foldl sayB (Db.qk (sn.take 6000)).1=(W4.append m).1:=by
    rw[say_step hjm,<-hW4,sayB,bD,<-hm]
   obtain⟨hWk4,hDk4⟩:=say_app ((R.map PcX.l).take j) hWk1 hDk1
   rw[<-hW4] at hLJ hWk4 hDk4
   have hDk4:=hDk4.mono (show 8000+2000*((R.map PcX.l).take j).length<=30000 from by rw[aK];omega)
   refine yz (ki (jo Z 1 Z j Z zo (qoff+j*1) Z (gj Z (((hsq j hj2).g0 hX) 0 _ Z) (k9 Z (xt Z ?_)))))
   refine wl (Ay g5 Z 0 (min (R[j]).l.length 1000) (R[j]).c 1 Z (.inr ⟨Z,Z⟩) (.inl (congrArg some (minI _ _))) (.inr ⟨Z,Z⟩) (aF _) (by have:=hri.2;omega) (aA _) ?_)
   rw[qa,bH,bH]
   rw[min_take (R[j]).l 1000,<-hm]
   have hVd:=hVu
   refine g7 call39 Z (append_calls w9 hLJ.log hLJ.disk hDk4 zd hWk4 (hsm2.g0 hX) zo (Rt.ext hr hX id) (λe=>by have:=hLJ.nf 0 e;omega) hLJ.hf (λh0 y off e=>by have h:=slB_lt hsm2 h0 y off e;have hl:=hX.size;exact⟨λe=>by have:=hLJ.nf y e;omega,λe=>by have:=hLJ.nh y e;omega⟩)) λv10 w10 hr10=>?_
   obtain⟨rfl,F5,H5,hA5,hL5,hF5,hH5,hHF5,hE10⟩:=hr10
   have hLJ5:=hLJ.step hVd hA5 hL5 hF5 hH5 hHF5
   rw[<-hst] at hLJ5
   have hX:=hX.newer hE10 λy hy=>hy.elim (λe=>by have:=hLJ.nf y e;omega) λe=>by have:=hLJ.nh y e;omega
   have hb5:=hb5.ext hE10 λe=>e.elim (λe=>by have:=hLJ.nf b5 e;omega) λe=>by have:=hLJ.nh b5 e;omega
   have hJ:=hJ.ext hi2 hE10 λy e=> .inr (e.elim (hLJ.nf y) (hLJ.nh y))
   have hVu:=Nat.le_trans hVu hE10.size
   refine ga (yt Z ?_)
   rw[jt _ zo]
   refine ga ?_
   exact j9 (j+1,F5,H5) Z ⟨⟨by omega,hJ,hVu,hLJ5⟩,hb5,hX⟩ zf
  have hj8:j=min R.length 8:=by omega
  subst hj8
  have htk:(R.map PcX.l).take (min R.length 8)=(R.map PcX.l).take 8:=by rw[Nat.min_comm,<-aB (f:=PcX.l),<-List.take_eq_take_min]
  rw[htk] at hLJ
  have hLJ:LogJ V w9 d x F4 H4 XW:=by rw[hXW];exact hLJ
  refine vw (ke (ke (qu (yt Z ?_))))
  rw[jt _ zo]
  refine ga ?_
  exact j9 (i+1,(if i=0 then .pointer (some ⟨d,0,none⟩) else v0),(if i=0 then v1 else .pointer (some ⟨d,0,none⟩))) Z ⟨⟨by omega,hJ.next hi2 hLJ.disk hLJ.nf hBu,Nat.le_trans hBu hVu⟩,hb5,hX⟩ zf
 have hi2:i=2:=by omega
 subst hi2
 obtain⟨d1,F1,d2,F2,rfl,rfl,hA1,hA2,hF1,hF2,hdj⟩:=hJ
 have hl1:=hA1.lt
 have hl2:=hA2.lt
 have hDkX:XW.D.Ok 30000:=by
  rw[hXW]
  exact(say_app ((R.map PcX.l).take 8) hWk1 hDk1).2.mono zj
 refine zu (ki (jo Z 1 Z 0 Z zd 0 Z (j3 hb5 Z Z (jo Z 1 Z 1 Z zd 1 Z (j3 hb5 Z Z ?_)))))
 refine jv Z ⟨⟨Z,by decide⟩,⟨Z,by decide⟩,trivial⟩ (l':=[.pointer (some ⟨d1,0,none⟩),.pointer (some ⟨d2,0,none⟩),.pointer none,.pointer none]) Z (gn Z λb69 w11 hn69 hb69 hE11=>?_)
 have ne5_69:=gw hb5.lt hn69
 have fr69:=Nat.le_trans hX.size hn69
 have hb5:=hb5.g0 hE11
 have hA1:=hA1.g0 hE11
 have hA2:=hA2.g0 hE11
 have hX:=hX.g4 hE11
 have hb69:gu w11 b69 98 ([.pointer (some ⟨d1,0,none⟩),.pointer (some ⟨d2,0,none⟩),.pointer none,.pointer none]):=hb69
 refine k9 Z (jy Z ?_)
 refine g7 call29 Z (opens_calls w11 hb69 hA1 hA2 hdj ⟨λe=>by have:=hl1 _ e;omega,λe=>by have:=hl2 _ e;omega⟩ hDkX zd (Rt.ext hr hX id) ⟨λe=>by have:=hF1 0 e;omega,λe=>by have:=hF2 0 e;omega⟩) λv12 w12 hr12=>?_
 obtain⟨rfl,_,hE12⟩:=hr12
 have hX:=hX.newer hE12 λy hy=>by
  rcases hy with hy|hy|rfl
  ·have:=hF1 y hy;omega
  ·have:=hF2 y hy;omega
  omega
 refine vl Z (gp Z Z ?_)
 exact⟨Z,hX⟩
open Go.Vc Go.ChangeShapes Go.WideShapes Go.ChangeAt Go.RowKit Go
set_option maxRecDepth 100000 in
theorem says_lifted (os:Os) (started:os.Started) (H:Type) (enc:TypeId×Value->H):
  ReturnsInHanded {} Tryz.checked os 7 .any (λw args=>(Rows.storeSaysSpec.pre enc prog Tryz.f7 [] false w args/\laidMetH prog laidR w)/\sizedMet enc prog Tryz.f7 (OpenSpec.ofChange Rows.storeSaysSpec) false w args)
   (Rows.storeSaysSpec.post enc prog Tryz.f7 false true false false):=by
 refine returnsInHanded_of_change_and (C:=Tryz.checked) (X:=λw _=>laidMetH prog laidR w) (λ_ _ _ hh h=>h.of_heap hh) own started zk func7
  (ChangeSpec.witness_shaped (enc:=enc) (C:=Tryz.checked) (os:=os) (X:=λw _=>laidMetH prog laidR w) false (World.doorLaid prog 400 os) #[.slice none 0 0,.slice none 0 0] 40 Z (World.shaped_of_RefB zk zk) zk zk zk (door_met os _)) ?_
 intro W base args ds gs before hval0 hW _ _ hL _
 have hval:∀(j:Nat) t v,Tryz.f7.params[j]? =some t->args[j]? =some v->Value.okWide prog W .any base t v:=hval0
 have hW':=hW
 obtain⟨p,q,hA0,hV,rfl,hfz,hnd⟩:=hW
 have hA:DataW.TrodAll enc prog W 0 (λ_=>true) true Tryz.f7.params.toList args.toList ds p:=hA0
 rw[Tryz.params7] at hA hval
 obtain⟨v0,vs0,d0,ds0,p0,q0,hargs,rfl,rfl,h0,r0⟩:=trodAll_cons hA
 obtain⟨v1,vs1,d1,ds1,p1,q1,rfl,rfl,rfl,h1,r1⟩:=trodAll_cons r0
 obtain⟨rfl,rfl,rfl⟩:=trodAll_nil r1
 obtain rfl:args= #[v0,v1]:=by cases args;simp_all
 obtain⟨rfl,rfl⟩:=trodVars_none hV
 have w0:=hval 0 41 v0 Z Z
 have w1:=hval 1 80 v1 Z Z
 obtain⟨k0,h0⟩:=h0
 obtain⟨k1,h1⟩:=h1
 obtain⟨a0,len0,cap0,rfl⟩:=okWide_slice Tryz.underlying41 w0
 obtain⟨a1,len1,cap1,rfl⟩:=okWide_slice Tryz.underlying80 w1
 obtain⟨p0,L,c0,e0,hc0,hs0⟩:=open_bytes h0
 obtain⟨p1,R,c1,e1,hc1,_,hs1,hR1,_⟩:=open_list (cells:=PcX.cell) (ok:=λr=>ux W r.p r.l/\r.l.length<=r.c) Tryz.underlying80 (by kernel_rfl:prog.cellsOf 41=1) zd (λh=>by obtain⟨p,l,c,e,hc,hs⟩:=open_bytes h;exact⟨⟨p,l,c⟩,e,hs,hc⟩) h1
 simp only[Value.cells,List.cons.injEq,and_true,Value.slice.injEq] at e0 e1
 obtain⟨rfl,rfl,rfl⟩:=e0
 obtain⟨rfl,rfl,rfl⟩:=e1
 clear hA0 hval0
 simp only[bJ] at hW'
 refine Calls.mono (storesays_calls W (roots_of hL) hs0 hc0 hs1 hR1 hc1) λe W' he=>?_
 cases e with
 |returned v=>
  obtain⟨rfl,hE⟩:v= .bool true/\Ext No W W':=he
  refine⟨_,Z,post_true zk zk zk hW' Z zk zk Tryz.underlying4 Z Z Z hE⟩
 |panicked _=>exact he.elim
 |outgrown=>exact he.elim
theorem says_row:Rows.StoreSaysSaid:=
 OpenClaim.holds_of_wide 7 Tryz.f7 Z Z Z Z Z Z Z ⟨Z,Z,Z,Z,Z⟩ Z Z Z Z Z zk func7 zk
  (cD zk) (by unfold Func.isWrapper;first|(rw[aM (by decide+kernel)];kernel_rfl)|(rw[aJ (by decide+kernel)];exact⟨Z,Z⟩))
  (λos started H enc _=>says_lifted os started H enc)
theorem says_holds:Rows.StoreSaysCardSaid:=
 Claim7.holds_tied_plain_at .later [] [.data] true Rows.storeSaysCard.stood.harness false
  says_row (λ_ h=>by cases h) zk (λ_ h=>by cases h) storeSays_row_tie Z ⟨Z,Z⟩ zk Z
  (λf fn hf hfn=>by
   obtain rfl : f = 7 := bW ((show prog.funcNamed "confluence/confluencelaw10.StoreSays" = some 7 by kernel_rfl).symm.trans hf) |>.symm
   obtain rfl:fn=Tryz.f7:=(bW (func7.symm.trans hfn)).symm
   exact⟨by kernel_rfl,λj t ht=>by
    rw[Tryz.params7] at ht
    have hm:t∈[41,80]:=by have:=Array.mem_of_getElem? ht;simpa using this
    have hall:([41,80].all λu=> !prog.wantsStandIn u)=true:=by kernel_rfl
    exact(show prog.wantsStandIn t=false by simpa using dC.1 hall t hm)⟩)
  zk
end Go.Proofs.YtpdiphfjmepijaaGreatDoor
