/-
  Walks and laws towards: the bytes of batches, and the batch of whatever bytes (StoreCodes)
-/
import Derived.Test.YtpdiphfjmepijaaGreatDoorCdC
open List renaming flatMap_append→bC,mem_iff_getElem→bJ,mem_map→bN,getElem_map→bR,map_append→bX,flatMap_cons→dI
namespace Go.Proofs.YtpdiphfjmepijaaGreatDoor
open Go.Proofs.Tryz
open Go.Vc
theorem qy (n:Nat) (s:Str):(vz n s).length=n+s.length:=by simp[vz,jy]
theorem yj7 {x:Int} (h:0≤x):IntKind.u8.wrap x=((UInt8.ofNat x.toNat).toNat:Int):=by
 have:=y6 x.toNat
 rw[Int.toNat_of_nonneg h] at this
 exact this
theorem xx9 {α β:Type} {f:α→List β} {l:List α} {i:Nat} (h:i<l.length):(l.take (i+1)).flatMap f=(l.take i).flatMap f++f l[i]:=by
 rw[aQ h,bC]
 simp
theorem rises_at {l:List Str} (h:xx2 l) {s:Str} (hs:s∈l):s.length≤48:=by
 obtain⟨i,hi,rfl⟩:=bJ.1 hs
 exact(h.2 i hi).1.2.2
theorem leaved_at {l:List jf} (h:Leaved l):l.length≤32∧∀r∈l,r.path.length≤48:=
 ⟨by have:=h.1.1;rwa [aE] at this,fun r hr=>rises_at h.1 (bN.2 ⟨r,hr,rfl⟩)⟩
theorem edit_at {l:List u9} (h:zw0 l):l.length≤32∧∀r∈l,r.path.length≤48∧r.text.length≤256:=
 ⟨by have:=h.2.1;rwa [aE] at this,fun r hr=>⟨rises_at h.2 (bN.2 ⟨r,hr,rfl⟩),Nat.not_lt.1 fun ht=>h.1 ⟨r,hr,.inl ht⟩⟩⟩
theorem styled_at {o:jq} (h:D6 o):o.parents.length≤2∧0≤o.style:=by
 obtain⟨_,_,h|h|h⟩:=h
 ·exact⟨by omega,by omega⟩
 ·exact⟨by omega,by omega⟩
 exact⟨by omega,by omega⟩
theorem kind_at {o:jq} (h:xf o):0≤o.kind:=by
 rcases h with h|h|h<;>omega
theorem leafB_le {r:jf} (h:r.path.length≤48) (hi:r.id.length=32):(Cw r).length≤100:=by
 rw[Cw,aB,qy];omega
theorem chgB_le {r:u9} (h:r.path.length≤48∧r.text.length≤256):(yj3 r).length≤400:=by
 rw[yj3,aB,aB,qy,qy];simp;omega
theorem flat_ne {m:List (List UInt8)} (h:∀r∈m,uv r) (hm:m≠[]):m.flatMap ge≠[]:=fun e=>by
 have h1:(m.flatMap ge).length=m.length*32:=yw1 fun r hr=>(h r hr).len
 rw[e] at h1
 have:0<m.length:=List.length_pos_iff.2 hm
 simp at h1
 omega
theorem xv7 {r:List UInt8} (h:uv r):yh (Cn 1 (ge Ao)) [(0*(0+32),0+32,.agg (ge r).toArray)]=ge r:=by
 simp only[yh,jh]
 rw[cW,Az (by rw[um,gm,gm,h];rfl)]
theorem ids1_calls (w:World) {b:Nat} {p:Option Addr} {l:List UInt8} (h:Wr w b p l) {bq:Nat} {x:List UInt8} (hb:gz w bq 30 (ge x)) (hx:uv x) (hl:l.length<900000000) (d:Nat):
  gn prog 197 [.pointer (some ⟨b,0,none⟩),.slice (some ⟨bq,0,none⟩) 1 d] w fun v w'=>v= .tuple #[]∧∃p',Wr w' b p' (l++x)∧(∀x,jb p' x→jb p x∨w.heap.size≤x)∧Ext (WrF b p) w w':=by
 obtain⟨k,a,c⟩:=h
 have e:=ids_calls w ⟨k,a,c⟩ (q:=some ⟨bq,0,none⟩) (d:=d) (m:=[x]) ⟨by simp only[dI,List.flatMap_nil,bK];exact hx.len,.inr ⟨bq,0,rfl,by simpa using hb.kj⟩⟩ (fun r f=>by rw[aI.1 f];exact hx) hl (by show 1<1000000;decide) (fun y g e _ i=>by cases e;exact i.elim (fun e=>a.ne hb zd e.symm) fun h=>c.zj7 h hb zd rfl)
 rwa [show [x].flatten=x from by simp] at e
theorem laid_calls (w:World) {x:jq} {a:vb} (hx:u4 x) (hxl:B7 w x a) (hf:xf x):
  gn prog 159 [.agg (jn x a).toArray] w fun v w'=>∃q k,v= .slice q (laidB x).length k∧Own w' q (laidB x).length k 5 1 (ge (laidB x))∧(∀b,jb q b→w.heap.size≤b)∧Ext No w w':=by
 have d4:=kind_at hf
 refine gx func159 ?_
 have j:=Ext.refl No w
 refine ko (gw rfl fun b1 w1 d5 g d6=> ?_)
 have et:=aA j.size d5
 have j:=j.gb d6
 have g:gz w1 b1 37 (jn x a):=g
 refine km rfl (ki rfl (gu rfl (g.kj.obj hx).kind (j0 gc rfl ?_)))
 rw[yj7 d4]
 refine wl (qi gc rfl 1 rfl rfl rfl zd zd zt (l':=ge [UInt8.ofNat x.kind.toNat]) rfl fun aa w2 ad a3 c6 eu=> ?_)
 have cw:=j2 g.lt ad
 have c7:=aA j.size ad
 have g:=g.ga c6
 have j:=j.gb c6
 have c7:=ad
 refine kg rfl ⟨⟨rfl,by decide⟩,trivial⟩ (l':=[.slice (some ⟨aa,0,none⟩) 1 1]) rfl (gw rfl fun L w3 ae af bu=> ?_)
 have cx:=j2 g.lt ae
 have c8:=j2 a3.lt ae
 have I:=aA j.size ae
 have g:=g.ga bu
 have a3:=a3.ga bu
 have j:=j.gb bu
 have af:gz w3 L 288 ([.slice (some ⟨aa,0,none⟩) (be 1 x.kind.toNat).length 1]):=af
 have d:=af
 have e1:=j.size
 have f:Own w3 (some ⟨aa,0,none⟩) (be 1 x.kind.toNat).length 1 5 1 (ge (be 1 x.kind.toNat)):=Own.blk (n:=1) (c:=1) a3 1 rfl (aD _) zd
 have m:∀y,jb (some ⟨aa,0,none⟩) y→w.heap.size≤y:=fun y hy=>by have e:aa=y:=congrArg Addr.block (cG hy);omega
 obtain⟨p,hp⟩:∃p:Option Addr,p=some ⟨aa,0,none⟩:=⟨_,rfl⟩
 rw[←hp] at d f m
 generalize hL0:be 1 x.kind.toNat=L0 at d f
 have d7:=congrArg List.length hL0
 rw[jy] at d7
 refine km rfl (ji (α:=Option Addr) [3] rfl (fun z=>[]) (fun z u=>(Wr u L z (laidB x)∧∀y,jb z y→w.heap.size≤y)∧Ext No w u) ?_ ?_)
 ·refine gl ?_
  refine yl rfl (gu rfl (g.kj.obj hx).kind (qq (j8 (jd rfl (jl rfl (fun T=> ?_) (fun T=> ?_))))))
  ·have h1:x.kind=1:=T
   have hB:=(yj2 h1).1 hf
   have ev:=hB.1
   refine yl rfl (gu rfl (g.kj.obj hx).text ?_)
   have C:=j
   refine gh call195 rfl (text_calls w3 ⟨_,d,f⟩ x.text zo zo) fun v4 w4 d8=> ?_
   obtain⟨rfl,p,D,E,c9⟩:=d8
   have g:=g.keepW ⟨_,d,f⟩ c9 zd zd
   have j:=Ext.thenW j c9 I m
   have m:=yv5 C m E
   obtain⟨k4,d,f⟩:=D
   refine gk ?_
   exact js (gr (p) rfl ⟨⟨by rw[laidB,aR h1,hL0];exact⟨_,d,f⟩,m⟩,j⟩)
  have h1:¬x.kind=1:=T
  refine jd rfl (jl rfl (fun T=> ?_) (fun T=> ?_))
  ·have h2:x.kind=2:=T
   have hB:=(zz8 h2).1 hf
   obtain⟨ca,P⟩:=leaved_at hB.1
   refine gl (jr rfl 13 [qP 0,qP 1,qP 2,qP 3,qP 4,qP 5,qP 6,qP 7,qP 8,(9,false),(10,false),qP 11,qP 12] [13] (jb p) zk fun w5 ag ew=> ?_)
   have J:=g
   have A:=d
   have B:=f
   have b3:=j
   have g:=g.ga ag
   have d:=d.ga ag
   have f:=f.ext ag fun _ _=>id
   have j:=j.gb ag
   have G:Ext (jb p) _ w5:=ag.no
   refine gt gc 4 rfl (j3 gc rfl rfl (fun w' s=>((A.ext (show Ext (jb p) _ w' from s) fun H=>B.zj7 H A zd rfl).cell rfl)) ?_)
   refine gt gc 1 rfl (j3 gc rfl rfl (fun w' s=>((J.ext (show Ext (jb p) _ w' from s) fun H=>B.zj7 H J zd rfl).kj.obj hx).leaves) ?_)
   refine gt gc 2 rfl ?_
   rw[y6]
   refine jo rfl (qi gc rfl 1 rfl rfl rfl zd zd zt (l':=ge [UInt8.ofNat x.leaves.length]) rfl fun ex w6 b8 cb ab ey=>⟨G.gb ab,?_⟩)
   have cy:=j2 g.lt b8
   have e2:=aA j.size b8
   have g:=g.ga ab
   have d:=d.ga ab
   have f:=f.ext ab fun _ _=>id
   have j:=j.gb ab
   have G:=G.gb ab
   refine jo rfl (vv (M:=be 1 x.leaves.length) gc rfl 5 rfl rfl rfl rfl (k8.mk f m) rfl (Src.one cb) rfl zo j fun p k w7 L1 a0 d9 o cc cd j=>⟨G.then cc,?_⟩)
   have g:=g.x4 cd zd zd
   have d:=d.x4 cd zd zd
   have a0:=a0.symm
   have m:=o.new
   have o:=o.own
   have G:=G.then cc
   refine gt gc 2 rfl (jg (wb rfl (yi gc d rfl rfl rfl fun w8 F bv ez=> ?_)))
   have f:=o.ju bv d zd
   have g:=g.gj bv (g.ne d zd)
   have j:=j.trans bv fun y hy U=>by have U:y=L:=U;omega
   have d:=F
   refine j5 (jp (ki rfl (gu rfl (g.kj.obj hx).leaves (km rfl (j8 ?_)))))
   refine jj (α:=Nat×Option Addr) [3,39,40] rfl (fun z=>[(41,.int .i64 (z.1:Int))]) (fun z u=>(z.1≤x.leaves.length∧Wr u L z.2 (L1++(x.leaves.take z.1).flatMap Cw)∧∀y,jb z.2 y→w.heap.size≤y)∧Ext No w u) (fun z u=>x.leaves.length-z.1) (0,p) rfl ⟨⟨aJ _,⟨_,by simpa using d,by simpa using f⟩,m⟩,j⟩ ?_
   rintro⟨i,p⟩ w9 ⟨⟨hi,⟨k,d,f⟩,m⟩,j⟩
   try dsimp only
   dsimp only at hi d f m
   generalize hLa:L1++(x.leaves.take i).flatMap Cw=La at d f
   have b4:=congrArg List.length hLa
   rw[aB] at b4
   refine jd rfl (gl (jl rfl (fun T=> ?_) (fun T=> ?_)))
   ·have hi:i<x.leaves.length:=by omega
    obtain⟨qb,ah,hp,bw⟩:=hxl.leaves.qd (fun r hr=>jf.len (hx.leaves r hr).2) zo
    rw[hp]
    have a1:=hx.leaves _ (aG hi)
    have da:=P _ (aG hi)
    have b6:((x.leaves.take i).flatMap Cw).length≤(x.leaves.take i).length*100:=B1 fun r hr=>leafB_le (P r (bH hr)) (hx.leaves r (bH hr)).2
    rw[aL,bP zo] at b6
    refine Ac (ko (ka rfl 33 rfl i rfl zo (ah+i*33) rfl (jm rfl ((bw i hi).ga j) (jf.len a1.2) (gw rfl fun b5 f0 db K ai=> ?_))))
    have dc:=aA j.size db
    have d:=d.ga ai
    have f:=f.ext ai fun _ _=>id
    have j:=j.gb ai
    have b9:=K
    refine wl (j4 (l':=(x.leaves[i]).cells) gc K rfl rfl (jf.len a1.2) (jf.len a1.2) OneC.h fun dd K aj e3=> ?_)
    have d:=d.gj aj (d.ne b9 zd)
    have f:=f.ju aj b9 zd
    have j:=j.gi aj dc
    refine qq (ki rfl (j6 K rfl rfl ?_))
    have C:=j
    refine gh call196 rfl (yw0 dd ⟨_,d,f⟩ (x.leaves[i]).path zo) fun f1 f2 ce=> ?_
    obtain⟨rfl,p,D,E,ba⟩:=ce
    have K:=K.keepW ⟨_,d,f⟩ ba zd zd
    have j:=Ext.thenW j ba I m
    have m:=yv5 C m E
    obtain⟨f3,d,f⟩:=D
    generalize hL2:La++vz 1 (x.leaves[i]).path=L2 at d f
    have bx:=congrArg List.length hL2
    rw[aB,qy] at bx
    refine qq (yl rfl (jm rfl (by have:=K.kj.drop 1;exact this) (uv.len a1.2) ?_))
    have ak:uv (x.leaves[i]).id:=a1.2
    refine wl (qi gc rfl 32 rfl A6.symm zj zd zd ⟨⟨by rw[jh];exact(uv.len a1.2),by decide⟩,trivial⟩ (l':=ge (x.leaves[i]).id) (xv7 a1.2) fun f4 de bb al a4 e4=> ?_)
    have cz:=j2 K.lt bb
    have e5:=aA j.size bb
    have K:=K.ga a4
    have d:=d.ga a4
    have f:=f.ext a4 fun _ _=>id
    have j:=j.gb a4
    have C:=j
    refine gh call197 rfl (ids1_calls de ⟨_,d,f⟩ al ak zo 1) fun f5 f6 cf=> ?_
    obtain⟨rfl,p,D,E,am⟩:=cf
    have K:=K.keepW ⟨_,d,f⟩ am zd zd
    have al:=al.keepW ⟨_,d,f⟩ am zd zd
    have j:=Ext.thenW j am I m
    have m:=yv5 C m E
    obtain⟨f7,d,f⟩:=D
    generalize ac:L2++(x.leaves[i]).id=L3 at d f
    have cg:=congrArg List.length ac
    rw[aB] at cg
    refine gk (Aa rfl ?_)
    rw[jz _ zo]
    refine gk ?_
    have e:L3=L1++(x.leaves.take (i+1)).flatMap Cw:=by rw[←ac,←hL2,←hLa,xx9 hi,Cw];simp
    exact jk (i+1,p) rfl ⟨⟨hi,by rw[←e];exact⟨_,d,f⟩,m⟩,j⟩ zf
   have h0:i=x.leaves.length:=by omega
   subst h0
   rw[bZ] at hLa
   refine y8 ?_
   have e:La=laidB x:=by rw[←hLa,←a0,←hL0,laidB,aP h1,aR h2,treeB,aV]
   exact ql (ql (ve (js (gr (p) rfl ⟨⟨by rw[←e];exact⟨_,d,f⟩,m⟩,j⟩))))
  have h2:¬x.kind=2:=T
  refine jd rfl (jl rfl (fun T=> ?_) (fun T=> ?_))
  ·have h3:x.kind=3:=T
   have hB:=(zx h3).1 hf
   obtain⟨ca,P⟩:=edit_at hB.2.2.2.1
   obtain⟨f8,df⟩:=styled_at hB.2.2.2.2
   have f9:=hB.2.2.1
   have fa:=hx.tree
   have fb:=hx.base
   have fc:=zz5 (n:=32) hx.parents
   refine gl (jr rfl 12 [qP 0,qP 1,qP 2,qP 3,qP 4,qP 5,qP 6,qP 7,(8,false),(9,false),qP 10,qP 11] [12] (jb p) zk fun dg V e6=> ?_)
   have J:=g
   have A:=d
   have B:=f
   have b3:=j
   have g:=g.ga V
   have d:=d.ga V
   have f:=f.ext V fun _ _=>id
   have j:=j.gb V
   have G:Ext (jb p) _ dg:=V.no
   refine gt gc 4 rfl (j3 gc rfl rfl (fun w' s=>((A.ext (show Ext (jb p) _ w' from s) fun H=>B.zj7 H A zd rfl).cell rfl)) ?_)
   refine gt gc 1 rfl (j3 gc rfl rfl (fun w' s=>((J.ext (show Ext (jb p) _ w' from s) fun H=>B.zj7 H J zd rfl).kj.obj hx).style) ?_)
   refine gt gc 1 rfl ?_
   rw[yj7 df]
   refine jo rfl (qi gc rfl 1 rfl rfl rfl zd zd zt (l':=ge [UInt8.ofNat x.style.toNat]) rfl fun fd fe bc ch Q e7=>⟨G.gb Q,?_⟩)
   have d0:=j2 g.lt bc
   have e8:=aA j.size bc
   have g:=g.ga Q
   have d:=d.ga Q
   have f:=f.ext Q fun _ _=>id
   have j:=j.gb Q
   have G:=G.gb Q
   refine jo rfl (vv (M:=be 1 x.style.toNat) gc rfl 5 rfl rfl rfl rfl (k8.mk f m) rfl (Src.one ch) rfl zo j fun p k ff L1 a0 d9 o bd bf j=>⟨G.then bd,?_⟩)
   have g:=g.x4 bf zd zd
   have d:=d.x4 bf zd zd
   have a0:=a0.symm
   have m:=o.new
   have o:=o.own
   have G:=G.then bd
   refine gt gc 2 rfl (jg (wb rfl (yi gc d rfl rfl rfl fun fg F an e9=> ?_)))
   have f:=o.ju an d zd
   have g:=g.gj an (g.ne d zd)
   have j:=j.trans an fun y hy U=>by have U:y=L:=U;omega
   have d:=F
   refine j5 (jp (ki rfl (jm rfl (g.kj.obj hx).tree (uv.len hx.tree) ?_)))
   have ak:uv x.tree:=hx.tree
   refine wl (qi gc rfl 32 rfl A6.symm zj zd zd ⟨⟨by rw[jh];exact(uv.len hx.tree),by decide⟩,trivial⟩ (l':=ge x.tree) (xv7 hx.tree) fun fh dh bg ao a5 ea=> ?_)
   have d1:=j2 g.lt bg
   have eb:=aA j.size bg
   have g:=g.ga a5
   have d:=d.ga a5
   have f:=f.ext a5 fun _ _=>id
   have j:=j.gb a5
   have C:=j
   refine gh call197 rfl (ids1_calls dh ⟨_,d,f⟩ ao ak zo 1) fun fi fj ci=> ?_
   obtain⟨rfl,p,D,E,ap⟩:=ci
   have g:=g.keepW ⟨_,d,f⟩ ap zd zd
   have ao:=ao.keepW ⟨_,d,f⟩ ap zd zd
   have j:=Ext.thenW j ap I m
   have m:=yv5 C m E
   obtain⟨fk,d,f⟩:=D
   generalize hL2:L1++x.tree=L2 at d f
   have bx:=congrArg List.length hL2
   rw[aB] at bx
   refine qq (gl ?_)
   refine jr rfl 13 [qP 0,qP 1,qP 2,qP 3,qP 4,qP 5,qP 6,qP 7,qP 8,(9,false),(10,false),qP 11,qP 12] [13] (jb p) zk fun di W ec=> ?_
   have J:=g
   have A:=d
   have B:=f
   have b3:=j
   have g:=g.ga W
   have d:=d.ga W
   have f:=f.ext W fun _ _=>id
   have j:=j.gb W
   have G:Ext (jb p) _ di:=W.no
   refine gt gc 4 rfl (j3 gc rfl rfl (fun w' s=>((A.ext (show Ext (jb p) _ w' from s) fun H=>B.zj7 H A zd rfl).cell rfl)) ?_)
   refine gt gc 1 rfl (j3 gc rfl rfl (fun w' s=>((J.ext (show Ext (jb p) _ w' from s) fun H=>B.zj7 H J zd rfl).kj.obj hx).parents) ?_)
   refine gt gc 2 rfl ?_
   rw[y6]
   refine jo rfl (qi gc rfl 1 rfl rfl rfl zd zd zt (l':=ge [UInt8.ofNat x.parents.length]) rfl fun fl fm bh cj R ed=>⟨G.gb R,?_⟩)
   have d2:=j2 g.lt bh
   have ee:=aA j.size bh
   have g:=g.ga R
   have d:=d.ga R
   have f:=f.ext R fun _ _=>id
   have j:=j.gb R
   have G:=G.gb R
   refine jo rfl (vv (M:=be 1 x.parents.length) gc rfl 5 rfl rfl rfl rfl (k8.mk f m) rfl (Src.one cj) rfl zo j fun p k fn L3 ac cg o bi bj j=>⟨G.then bi,?_⟩)
   have g:=g.x4 bj zd zd
   have d:=d.x4 bj zd zd
   have ac:=ac.symm
   have m:=o.new
   have o:=o.own
   have G:=G.then bi
   refine gt gc 2 rfl (jg (wb rfl (yi gc d rfl rfl rfl fun dj F aq ef=> ?_)))
   have f:=o.ju aq d zd
   have g:=g.gj aq (g.ne d zd)
   have j:=j.trans aq fun y hy U=>by have U:y=L:=U;omega
   have d:=F
   refine j5 (jp (ki rfl (gu rfl (g.kj.obj hx).parents ?_)))
   have C:=j
   refine gh call197 rfl (ids_calls dj ⟨_,d,f⟩ (hxl.parents.ga j) hx.parents zo zo (fun y fo e dk U=>by have fp:=hxl.parents.lt e (flat_ne hx.parents dk);exact U.elim (fun e=>by omega) fun h=>by have:=m y h;omega)) fun fq fr ck=> ?_
   obtain⟨rfl,p,D,E,bk⟩:=ck
   have g:=g.keepW ⟨_,d,f⟩ bk zd zd
   have j:=Ext.thenW j bk I m
   have m:=yv5 C m E
   obtain⟨fs,d,f⟩:=D
   generalize hL4:L3++x.parents.flatten=L4 at d f
   have dl:=congrArg List.length hL4
   rw[aB] at dl
   refine qq (ki rfl (jm rfl (g.kj.obj hx).base (uv.len hx.base) ?_))
   have ak:uv x.base:=hx.base
   refine wl (qi gc rfl 32 rfl A6.symm zj zd zd ⟨⟨by rw[jh];exact(uv.len hx.base),by decide⟩,trivial⟩ (l':=ge x.base) (xv7 hx.base) fun ft dm bm ar a6 eg=> ?_)
   have d3:=j2 g.lt bm
   have eh:=aA j.size bm
   have g:=g.ga a6
   have d:=d.ga a6
   have f:=f.ext a6 fun _ _=>id
   have j:=j.gb a6
   have C:=j
   refine gh call197 rfl (ids1_calls dm ⟨_,d,f⟩ ar ak zo 1) fun fu fv cl=> ?_
   obtain⟨rfl,p,D,E,au⟩:=cl
   have g:=g.keepW ⟨_,d,f⟩ au zd zd
   have ar:=ar.keepW ⟨_,d,f⟩ au zd zd
   have j:=Ext.thenW j au I m
   have m:=yv5 C m E
   obtain⟨fw,d,f⟩:=D
   generalize hL5:L4++x.base=L5 at d f
   have dn:=congrArg List.length hL5
   rw[aB] at dn
   refine qq (gl ?_)
   refine jr rfl 14 [qP 0,qP 1,qP 2,qP 3,qP 4,qP 5,qP 6,qP 7,qP 8,qP 9,(10,false),(11,false),qP 12,qP 13] [14] (jb p) zk fun dp X ei=> ?_
   have J:=g
   have A:=d
   have B:=f
   have b3:=j
   have g:=g.ga X
   have d:=d.ga X
   have f:=f.ext X fun _ _=>id
   have j:=j.gb X
   have G:Ext (jb p) _ dp:=X.no
   refine gt gc 4 rfl (j3 gc rfl rfl (fun w' s=>((A.ext (show Ext (jb p) _ w' from s) fun H=>B.zj7 H A zd rfl).cell rfl)) ?_)
   refine gt gc 2 rfl (j3 gc rfl rfl (fun w' s=>((J.ext (show Ext (jb p) _ w' from s) fun H=>B.zj7 H J zd rfl).kj.obj hx).rows) ?_)
   refine gt gc 2 rfl ?_
   rw[y6]
   refine jo rfl (qi gc rfl 1 rfl rfl rfl zd zd zt (l':=ge [UInt8.ofNat x.rows.length]) rfl fun ej fx av bz S ek=>⟨G.gb S,?_⟩)
   have cm:=j2 g.lt av
   have dq:=aA j.size av
   have g:=g.ga S
   have d:=d.ga S
   have f:=f.ext S fun _ _=>id
   have j:=j.gb S
   have G:=G.gb S
   refine jo rfl (vv (M:=be 1 x.rows.length) gc rfl 5 rfl rfl rfl rfl (k8.mk f m) rfl (Src.one bz) rfl zo j fun p k fy L6 c0 fz o bn bo j=>⟨G.then bn,?_⟩)
   have g:=g.x4 bo zd zd
   have d:=d.x4 bo zd zd
   have c0:=c0.symm
   have m:=o.new
   have o:=o.own
   have G:=G.then bn
   refine gt gc 2 rfl (jg (wb rfl (yi gc d rfl rfl rfl fun g0 F aw el=> ?_)))
   have f:=o.ju aw d zd
   have g:=g.gj aw (g.ne d zd)
   have j:=j.trans aw fun y hy U=>by have U:y=L:=U;omega
   have d:=F
   refine j5 (jp (gl (ki rfl (gu rfl (g.kj.obj hx).rows (km rfl (j8 ?_))))))
   refine jj (α:=Nat×Option Addr) [1,3,112,113] rfl (fun z=>[(114,.int .i64 (z.1:Int))]) (fun z u=>(z.1≤x.rows.length∧Wr u L z.2 (L6++(x.rows.take z.1).flatMap yj3)∧∀y,jb z.2 y→w.heap.size≤y)∧gz u b1 37 (jn x a)∧Ext No w u) (fun z u=>x.rows.length-z.1) (0,p) rfl ⟨⟨aJ _,⟨_,by simpa using d,by simpa using f⟩,m⟩,g,j⟩ ?_
   rintro⟨i,p⟩ g1 ⟨⟨hi,⟨k,d,f⟩,m⟩,g,j⟩
   try dsimp only
   dsimp only at hi d f m
   generalize hLa:L6++(x.rows.take i).flatMap yj3=La at d f
   have b4:=congrArg List.length hLa
   rw[aB] at b4
   refine jd rfl (gl (jl rfl (fun T=> ?_) (fun T=> ?_)))
   ·have hi:i<x.rows.length:=by omega
    obtain⟨qb,ah,hp,bw⟩:=hxl.rows.qd (fun r _=>r.len) zo
    rw[hp]
    have da:=P _ (aG hi)
    have b6:((x.rows.take i).flatMap yj3).length≤(x.rows.take i).length*400:=B1 fun r hr=>chgB_le (P r (bH hr))
    rw[aL,bP zo] at b6
    refine Ac (ko (ka rfl 3 rfl i rfl zo (ah+i*3) rfl (jm rfl ((bw i hi).ga j) rfl (gw rfl fun b7 g2 cn t a7=> ?_))))
    have c1:=j2 g.lt cn
    have dr:=aA j.size cn
    have g:=g.ga a7
    have d:=d.ga a7
    have f:=f.ext a7 fun _ _=>id
    have j:=j.gb a7
    have bq:=t
    refine wl (j4 (l':=(x.rows[i]).cells) gc t rfl rfl rfl rfl OneC.h fun ds t a8 em=> ?_)
    have g:=g.gj a8 c1
    have d:=d.gj a8 (d.ne bq zd)
    have f:=f.ju a8 bq zd
    have j:=j.gi a8 dr
    refine qq (ki rfl (j6 t rfl rfl ?_))
    have C:=j
    refine gh call196 rfl (yw0 ds ⟨_,d,f⟩ (x.rows[i]).path zo) fun g3 g4 co=> ?_
    obtain⟨rfl,p,D,E,ax⟩:=co
    have g:=g.keepW ⟨_,d,f⟩ ax zd zd
    have t:=t.keepW ⟨_,d,f⟩ ax zd zd
    have j:=Ext.thenW j ax I m
    have m:=yv5 C m E
    obtain⟨g5,d,f⟩:=D
    generalize hL7:La++vz 1 (x.rows[i]).path=L7 at d f
    have dt:=congrArg List.length hL7
    rw[aB,qy] at dt
    refine qq (jd rfl ?_)
    refine ji (α:=UInt8) [1,3,7,112,113,114] rfl (fun z=>[(8,.int .u8 (z.toNat:Int))]) (fun z u=>(z=isB (x.rows[i]).is∧Wr u L p (L7))∧gz u b1 37 (jn x a)∧gz u b7 150 ((x.rows[i]).cells)∧Ext No w u) ?_ ?_
    ·refine gl ?_
     refine yl rfl (j6 t rfl rfl (qq (ud rfl (fun T=> ?_) (fun T=> ?_))))
     ·have c2:isB (x.rows[i]).is=1:=by rw[isB,T];rfl
      refine yl rfl (gk ?_)
      exact gr (1) rfl ⟨⟨c2.symm,⟨_,d,f⟩⟩,g,t,j⟩
     have c2:isB (x.rows[i]).is=0:=by rw[isB,T];rfl
     refine kc ?_
     exact gr (0) rfl ⟨⟨c2.symm,⟨_,d,f⟩⟩,g,t,j⟩
    rintro z g6 ⟨⟨rfl,⟨k,d,f⟩⟩,g,t,j⟩
    refine ki rfl (gu rfl (d.cell rfl) (j0 gc rfl ?_))
    refine wl (qi gc rfl 1 rfl rfl rfl zd zd zt (l':=ge [isB (x.rows[i]).is]) rfl fun en g7 a2 c3 Y eo=> ?_)
    have cp:=j2 g.lt a2
    have cq:=j2 t.lt a2
    have du:=aA j.size a2
    have g:=g.ga Y
    have t:=t.ga Y
    have d:=d.ga Y
    have f:=f.ext Y fun _ _=>id
    have j:=j.gb Y
    refine wl (vv (M:=[isB (x.rows[i]).is]) gc rfl 5 rfl rfl rfl rfl (k8.mk f m) rfl (Src.one c3) rfl zo j fun p k g8 L8 c4 g9 o ep ay j=> ?_)
    have g:=g.x4 ay zd zd
    have t:=t.x4 ay zd zd
    have d:=d.x4 ay zd zd
    have c4:=c4.symm
    have m:=o.new
    have o:=o.own
    refine j0 gc rfl (kl d rfl rfl rfl fun dv F a9 eq=> ?_)
    have f:=o.ju a9 d zd
    have g:=g.gj a9 (g.ne d zd)
    have t:=t.gj a9 (t.ne d zd)
    have j:=j.trans a9 fun y hy U=>by have U:y=L:=U;omega
    have d:=F
    refine qq (yl rfl (j6 t rfl rfl ?_))
    have C:=j
    refine gh call195 rfl (text_calls dv ⟨_,d,f⟩ (x.rows[i]).text zo zo) fun gd gf cr=> ?_
    obtain⟨rfl,p,D,E,az⟩:=cr
    have g:=g.keepW ⟨_,d,f⟩ az zd zd
    have t:=t.keepW ⟨_,d,f⟩ az zd zd
    have j:=Ext.thenW j az I m
    have m:=yv5 C m E
    obtain⟨gg,d,f⟩:=D
    generalize hL9:L8++vz 2 (x.rows[i]).text=L9 at d f
    have dw:=congrArg List.length hL9
    rw[aB,qy] at dw
    refine gk (Aa rfl ?_)
    rw[jz _ zo]
    refine gk ?_
    have e:L9=L6++(x.rows.take (i+1)).flatMap yj3:=by rw[←hL9,←c4,←hL7,←hLa,xx9 hi,yj3];simp
    exact jk (i+1,p) rfl ⟨⟨hi,by rw[←e];exact⟨_,d,f⟩,m⟩,g,j⟩ zf
   have h0:i=x.rows.length:=by omega
   subst h0
   rw[bZ] at hLa b4
   have b6:(x.rows.flatMap yj3).length≤x.rows.length*400:=B1 fun r hr=>chgB_le (P r hr)
   refine Ak (gl ?_)
   refine jr rfl 13 [qP 0,qP 1,qP 2,qP 3,qP 4,qP 5,qP 6,qP 8,qP 9,(7,false),(10,false),qP 11,qP 12] [13] (No) zk fun cs Z er=> ?_
   have J:=g
   have A:=d
   have B:=f
   have b3:=j
   have g:=g.ga Z
   have d:=d.ga Z
   have f:=f.ext Z fun _ _=>id
   have j:=j.gb Z
   have G:Ext (No) _ cs:=Z.no
   refine gt gc 4 rfl (j3 gc rfl rfl (fun w' s=>((A.ga s).cell rfl)) ?_)
   refine gt gc 1 rfl (j3 gc rfl rfl (fun w' s=>((J.ga s).kj.obj hx).number) ?_)
   refine gt gc 1 rfl (j3 gc rfl rfl (fun w' s=>((J.ga s).kj.obj hx).author) ?_)
   refine jo rfl (j1 call179 rfl (z9 cs f.sl zo x.number hx.number) fun go dx br=>⟨(by obtain⟨bp,rfl,c5,b0,N⟩:=br;exact G.gb N),?_⟩)
   obtain⟨bp,rfl,c5,b0,N⟩:=br
   have g:=g.ga N
   have d:=d.ga N
   have f:=f.ext N fun _ _=>id
   have j:=j.gb N
   have G:=G.gb N
   have dy:=j
   refine jo rfl (j1 call179 rfl (z9 dx (l:=La++be 4 x.number) (p:=some ⟨bp,0,none⟩) ⟨by rw[gm,bE],.inr ⟨bp,0,rfl,b0.kj⟩⟩ (by rw[aB,jy];omega) x.author hx.author) fun gs dz bs=>⟨(by obtain⟨bp,rfl,c5,b0,O⟩:=bs;exact G.gb O),?_⟩)
   obtain⟨bp,rfl,c5,b0,O⟩:=bs
   have g:=g.ga O
   have d:=d.ga O
   have f:=f.ext O fun _ _=>id
   have j:=j.gb O
   have G:=G.gb O
   obtain⟨p,k,hp,hk,o⟩:∃p k,p=some ⟨bp,0,none⟩∧k=(La++be 4 x.number++be 4 x.author).length∧Own dz p (La++be 4 x.number++be 4 x.author).length k 5 1 (ge (La++be 4 x.number++be 4 x.author)):=⟨_,_,rfl,rfl,by
    have:=Own.blk (n:=(La++be 4 x.number++be 4 x.author).length) (c:=(La++be 4 x.number++be 4 x.author).length) b0 1 (by rw[gm,bE]) (aD _) (by dsimp only[maxLen];simp only[aB,jy];omega)
    rw[aO (by rw[gm,bE];exact aD _)] at this
    exact this⟩
   have m:∀y,jb p y→w.heap.size≤y:=fun y hy=>by rw[hp] at hy;have e:bp=y:=congrArg Addr.block (cG hy);have:=dy.size;omega
   rw[←hp]
   rw[show Value.slice p (La++be 4 x.number++be 4 x.author).length (La++be 4 x.number++be 4 x.author).length= .slice p (La++be 4 x.number++be 4 x.author).length k from by rw[hk]]
   generalize hL10:La++be 4 x.number++be 4 x.author=L10 at o⊢
   have ct:=congrArg List.length hL10
   rw[aB,aB,jy,jy] at ct
   refine gt gc 2 rfl (jg (wb rfl (yi gc d rfl rfl rfl fun e0 F b2 es=> ?_)))
   have f:=o.ju b2 d zd
   have g:=g.gj b2 (g.ne d zd)
   have j:=j.trans b2 fun y hy U=>by have U:y=L:=U;omega
   have d:=F
   refine j5 (jp (yl rfl (gu rfl (g.kj.obj hx).note ?_)))
   have C:=j
   refine gh call196 rfl (yw0 e0 ⟨_,d,f⟩ x.note zo) fun h4 h5 cu=> ?_
   obtain⟨rfl,p,D,E,bt⟩:=cu
   have g:=g.keepW ⟨_,d,f⟩ bt zd zd
   have j:=Ext.thenW j bt I m
   have m:=yv5 C m E
   obtain⟨h6,d,f⟩:=D
   generalize hL11:L10++vz 1 x.note=L11 at d f
   have cv:=congrArg List.length hL11
   rw[aB,qy] at cv
   refine gk ?_
   have e:L11=laidB x:=by rw[←hL11,←hL10,←hLa,←c0,←hL5,←hL4,←ac,←hL2,←a0,←hL0,laidB,aP h1,aP h2,comB];simp only[aV]
   exact js (gr (p) rfl ⟨⟨by rw[←e];exact⟨_,d,f⟩,m⟩,j⟩)
  exact absurd hf (fields0 h1 h2 T)
 rintro p h7 ⟨⟨⟨k,d,f⟩,m⟩,j⟩
 refine ki rfl (gu rfl (d.cell rfl) (vr rfl (gv rfl rfl ?_)))
 exact⟨p,k,rfl,f,m,j⟩
abbrev objE (x:jq):Int:=if x9 x then 0 else 160
def encB (x:jq):List UInt8:=if x9 x then laidB x else []
def idB (x:jq):List UInt8:=if x9 x then Be x else Ao
theorem zw3 {n:Nat}:∀b,jb none b→n≤b:=fun _ h=>by cases h
def linksB (x:jq):List (List UInt8):=if x9 x then u5 x else []
theorem zq8 (w:World) {x:jq} {a:vb} (hx:u4 x) (hxl:B7 w x a) (hsx:A5 x):
  gn prog 134 [.agg (jn x a).toArray] w fun v w'=>v= .int .i64 (objE x)∧Ext No w w':=by
 refine gx func134 ?_
 have b:=Ext.refl No w
 refine ko (gw rfl fun o n p c f=> ?_)
 have b:=b.gb f
 have c:gz n o 37 (jn x a):=c
 refine km rfl (gl (ji (α:=Bool) [] rfl (fun z=>[(11,.bool z)]) (fun z u=>(z=decide (¬x9 x))∧Ext No w u) ?_ ?_))
 ·refine gy ?_
  refine je c rfl (gp hx) (gh call185 rfl (fielded_calls n hx (hxl.ga b) hsx) fun A r g=> ?_)
  obtain⟨rfl,d⟩:=g
  have c:=c.ga d
  have b:=b.gb d
  refine j0 gc rfl (uq 6 rfl (fun i=> ?_) (fun i=> ?_))
  ·have e:¬xf x:=by simpa using i
   refine gq gc 5 rfl (gk ?_)
   exact gr (true) rfl ⟨by symm;rw[aU];exact fun h=>e h.1,b⟩
  have e:xf x:=by simpa using i
  refine je c rfl (gp hx) (gh call159 rfl (laid_calls r hx (hxl.ga b) e) fun B C j=> ?_)
  obtain⟨q,k,rfl,D,s,l⟩:=j
  have b:=b.gb l
  refine gq gc 3 rfl (gk ?_)
  exact gr (_) rfl ⟨by rw[aH];exact⟨fun h t=>by have:=t.2;omega,fun h=>by have:¬(laidB x).length≤800:=fun y=>h ⟨e,y⟩;omega⟩,b⟩
 rintro z E ⟨rfl,b⟩
 refine jl rfl (fun m=> ?_) (fun m=> ?_)
 ·refine gl ?_
  refine gy (vr rfl (j7 (gv rfl rfl ?_)))
  exact⟨by rw[objE,aP m],b⟩
 refine kc ?_
 refine jp (jd rfl (j9 (gv rfl rfl ?_)))
 exact⟨by rw[objE,aR (aS.1 m)],b⟩
theorem yx0 (w:World) {x:jq} {a:vb} (hx:u4 x) (hxl:B7 w x a) (hsx:A5 x):
  gn prog 92 [.agg (jn x a).toArray] w fun v w'=>∃q k,v= .tuple #[.slice q (encB x).length k,.int .i64 (objE x)]∧Own w' q (encB x).length k 5 1 (ge (encB x))∧(∀b,jb q b→w.heap.size≤b)∧Ext No w w':=by
 refine gx func92 ?_
 have d:=Ext.refl No w
 refine ko (gw rfl fun r p s c g=> ?_)
 have d:=d.gb g
 have c:gz p r 37 (jn x a):=c
 refine km rfl (gl (ko (je c rfl (gp hx) (gh call134 rfl (zq8 p hx (hxl.ga d) hsx) fun y t i=> ?_))))
 obtain⟨rfl,f⟩:=i
 have c:=c.ga f
 have d:=d.gb f
 refine km rfl (jd rfl (jl rfl (fun j=> ?_) (fun j=> ?_)))
 ·have e:¬x9 x:=fun h=>j (aR h)
  refine jd rfl (j9 (j7 (qe [_,_] ⟨rfl,rfl,trivial⟩ ?_)))
  exact⟨none,0,by rw[encB,aP e];rfl,by rw[encB,aP e];exact Own.nil _ _ _,zw3,d⟩
 have e:x9 x:=(yz7 zd).1 (aS.1 j)
 refine x3 (ko (je c rfl (gp hx) ?_))
 have l:=d
 refine gh call159 rfl (laid_calls t hx (hxl.ga d) e.1) fun z A m=> ?_
 obtain⟨q,k,rfl,u,n,o⟩:=m
 have d:=d.gb o
 refine vr rfl (qe [_,_] ⟨rfl,rfl,trivial⟩ ?_)
 exact⟨q,k,by rw[encB,aR e,objE,aR e];rfl,by rw[encB,aR e];exact u,fun b h=>aA l.size (n b h),d⟩
theorem idObj_calls (w:World) {x:jq} {a:vb} (hx:u4 x) (hxl:B7 w x a) (hsx:A5 x) (hr:Seg w 0 0 (jt qv)):
  gn prog 129 [.agg (jn x a).toArray] w fun v w'=>v= .tuple #[.agg (ge (idB x)).toArray,.int .i64 (objE x)]∧Ext No w w':=by
 refine gx func129 ?_
 have c:=Ext.refl No w
 refine ko (gw rfl fun y z A d l=> ?_)
 have c:=c.gb l
 have d:gz z y 37 (jn x a):=d
 refine gw rfl fun t B m b f=> ?_
 have g:=aA c.size m
 have d:=d.ga f
 have c:=c.gb f
 refine km rfl (ko (je d rfl (gp hx) (gh call92 rfl (yx0 B hx (hxl.ga c) hsx) fun I C n=> ?_)))
 obtain⟨q,k,rfl,u,D,i⟩:=n
 have b:=b.ga i
 have c:=c.gb i
 refine km rfl (gl (jd rfl (jl rfl (fun o=> ?_) (fun o=> ?_))))
 ·have e:¬x9 x:=fun h=>o (aR h)
  refine ko (kg rfl trivial (l':=ge Ao) A6.symm (j0 gc rfl (wl (j4 (l':=ge Ao) gc b rfl rfl rfl rfl OneC.h fun J b p E=> ?_))))
  have c:=c.gi p g
  refine vr rfl (j7 (qe [_,_] ⟨⟨t,0,rfl,qg gc rfl rfl b.kj rfl⟩,rfl,trivial⟩ ?_))
  exact⟨by rw[idB,aP e];rfl,c⟩
 have e:x9 x:=(yz7 zd).1 (aS.1 o)
 have F:=e.2
 have G:encB x=laidB x:=aR e
 rw[G] at u⊢
 refine x3 (ki rfl (gh call181 rfl (sum_calls C u.sl zo (hr.ga c)) fun K L r=> ?_))
 obtain⟨rfl,j⟩:=r
 have b:=b.ga j
 have c:=c.gb j
 refine wl (j4 (l':=ge (sumW (laidB x))) gc b rfl rfl (by rw[gm,C3]) (by rw[gm,C3];rfl) OneC.h fun M b s H=> ?_)
 have c:=c.gi s g
 refine vr rfl (qe [_,_] ⟨⟨t,0,rfl,qg gc rfl rfl b.kj (by rw[gm,C3];rfl)⟩,rfl,trivial⟩ ?_)
 exact⟨by rw[idB,aR e,objE,aR e];rfl,c⟩
theorem one_idS {w:World} {b:Nat} {r:List UInt8} (h:uv r) (hb:gz w b 30 (ge r)):Sl w (some ⟨b,0,none⟩) 1 32 (ge r):=⟨h.len,.inr ⟨b,0,rfl,hb.kj⟩⟩
theorem links_calls (w:World) {x:jq} {a:vb} (hx:u4 x) (hxl:B7 w x a) (hsx:A5 x):
  gn prog 55 [.agg (jn x a).toArray] w fun v w'=>∃q k,v= .slice q (linksB x).length k∧Own w' q (linksB x).length k 30 32 ((linksB x).flatMap ge)∧(∀b,jb q b→w.heap.size≤b)∧Ext No w w':=by
 refine gx func55 ?_
 have c:=Ext.refl No w
 refine ko (gw rfl fun b1 w1 H d a0=> ?_)
 have c:=c.gb a0
 have d:gz w1 b1 37 (jn x a):=d
 refine km rfl (gl (ko (je d rfl (gp hx) (gh call134 rfl (zq8 w1 hx (hxl.ga c) hsx) fun v2 w2 a1=> ?_))))
 obtain⟨rfl,N⟩:=a1
 have d:=d.ga N
 have c:=c.gb N
 refine km rfl (jl rfl (fun l=> ?_) (fun l=> ?_))
 ·have hk:¬x9 x:=fun h=>l (aR h)
  refine jd rfl (j9 (j7 (gv rfl rfl ?_)))
  exact⟨none,0,by rw[linksB,aP hk];rfl,by rw[linksB,aP hk];exact Own.nil _ _ _,zw3,c⟩
 have hk:x9 x:=(yz7 zd).1 (aS.1 l)
 have he:linksB x=u5 x:=aR hk
 refine x3 (jd rfl ?_)
 refine ji (α:=Option Addr×Nat) [] rfl (fun z=>[(3,.slice z.1 (u5 x).length z.2)]) (fun z u=>(Own u z.1 (u5 x).length z.2 30 32 ((u5 x).flatMap ge)∧∀b,jb z.1 b→w.heap.size≤b)∧Ext No w u) ?_ ?_
 ·refine gl ?_
  refine yl rfl (gu rfl (d.kj.obj hx).kind (qq (j8 (jd rfl (jl rfl (fun l=> ?_) (fun l=> ?_))))))
  ·have h2:x.kind=2:=l
   refine ki rfl (gu rfl (d.kj.obj hx).leaves (km rfl (j8 ?_)))
   refine jj (α:=Nat×Option Addr×Nat) [14,15] rfl (fun z=>[(3,.slice z.2.1 z.1 z.2.2),(16,.int .i64 (z.1:Int))]) (fun z u=>(z.1≤x.leaves.length∧Own u z.2.1 z.1 z.2.2 30 32 (((x.leaves.take z.1).map jf.id).flatMap ge)∧(∀y,jb z.2.1 y→w.heap.size≤y))∧Ext No w u) (fun z u=>x.leaves.length-z.1) (0,none,0) rfl ⟨⟨aJ _,Own.nil _ _ _,zw3⟩,c⟩ ?_
   rintro⟨i,q,k⟩ w3 ⟨⟨M,n,f⟩,c⟩
   try dsimp only
   dsimp only at M n f
   refine jd rfl (gl (jl rfl (fun l=> ?_) (fun l=> ?_)))
   ·have M:i<x.leaves.length:=by omega
    obtain⟨qb,O,hp,a2⟩:=hxl.leaves.qd (fun r hr=>jf.len (hx.leaves r hr).2) zo
    rw[hp]
    have af:=hsx.leaves
    have g:=hx.leaves _ (aG M)
    refine Ac (ko (ka rfl 33 rfl i rfl zo (O+i*33) rfl (jm rfl ((a2 i M).ga c) (jf.len g.2) (gw rfl fun b5 w4 a3 B P=> ?_))))
    have a4:=aA c.size a3
    have n:=n.ext P fun _ _=>id
    have c:=c.gb P
    have Q:=B
    refine wl (j4 (l':=(x.leaves[i]).cells) gc B rfl rfl (jf.len g.2) (jf.len g.2) OneC.h fun w5 B R ag=> ?_)
    have n:=n.ju R Q zd
    have c:=c.gi R a4
    refine qq (yl rfl (jm rfl (by have:=B.kj.drop 1;exact this) (uv.len g.2) ?_))
    have I:uv (x.leaves[i]).id:=g.2
    refine wl (qi gc rfl 32 rfl A6.symm zj zd zd ⟨⟨by rw[jh];exact(uv.len g.2),by decide⟩,trivial⟩ (l':=ge (x.leaves[i]).id) (xv7 g.2) fun ah w6 ad S T ai=> ?_)
    have n:=n.ext T fun _ _=>id
    have c:=c.gb T
    have e:=c
    refine wl (va gc rfl 32 32 rfl rfl rfl zd n (Src.slice (m:=1) (one_idS I S) OneC.h) zm zn fun p7 c7 w7 U V W=> ?_)
    dsimp only at U V W⊢
    have c:=e.trans V fun y C o=>by have:=f y o;omega
    have p:=yv5 e f W
    have a5:Own w7 p7 (i+1) c7 30 32 (((x.leaves.take (i+1)).map jf.id).flatMap ge):=by
     have e1:((x.leaves.take (i+1)).map jf.id).flatMap ge=((x.leaves.take i).map jf.id).flatMap ge++ge (x.leaves[i]).id:=by
      rw[aQ M,bX,bC]
      simp
     rw[e1]
     exact U
    refine j0 gc rfl (gk (Aa rfl ?_))
    rw[jz _ zo]
    refine gk ?_
    exact jk (i+1,p7,c7) rfl ⟨⟨M,a5,p⟩,c⟩ zf
   have h0:i=x.leaves.length:=by omega
   subst h0
   rw[bZ] at n
   have D:u5 x=x.leaves.map jf.id:=by rw[u5,aR h2]
   have e3:(u5 x).length=x.leaves.length:=by rw[D,aE]
   refine y8 ?_
   exact ql (ql (ve (js (gr (q,k) (by rw[e3];rfl) ⟨⟨by rw[e3,D];exact n,f⟩,c⟩))))
  have h2:¬x.kind=2:=l
  refine jd rfl (jl rfl (fun l=> ?_) (fun l=> ?_))
  ·have h3:x.kind=3:=l
   have aj:=hsx.parents
   have D:u5 x=x.tree::x.parents:=by rw[u5,aP h2,aR h3]
   have e3:1+x.parents.length=(u5 x).length:=by rw[D,aW];omega
   refine jr rfl 9 [qP 0,qP 1,qP 2,qP 5,qP 6,(3,false),(4,false),(7,false),qP 8] [] (No) zk fun w8 X ak=> ?_
   have Y:=d
   have c:=c.gb X
   have E:Ext (No) _ w8:=X.no
   refine gt gc 2 rfl (qa gc rfl rfl (fun w' J=>((Y.ga J).kj.obj hx).tree) (uv.len hx.tree) ?_)
   refine gt gc 1 rfl (j3 gc rfl rfl (fun w' J=>((Y.ga J).kj.obj hx).parents) ?_)
   have I:uv x.tree:=hx.tree
   refine jo rfl (qi gc rfl 32 rfl A6.symm zj zd zd ⟨⟨by rw[jh];exact(uv.len hx.tree),by decide⟩,trivial⟩ (l':=ge x.tree) (xv7 hx.tree) fun al w9 ae Z K am=>⟨E.gb K,?_⟩)
   have c:=c.gb K
   have E:=E.gb K
   have e:=c
   have a6:=E
   refine jo rfl (va gc rfl 32 32 rfl rfl rfl zd (Own.nil _ _ _) (Src.slice (m:=1) (one_idS I Z) OneC.h) zm zn fun L a7 a8 F j s=>⟨E.trans j (fun y C o=>(by cases o)),?_⟩)
   have E:=E.trans j (fun y C o=>(by cases o))
   dsimp only at F j s⊢
   have c:=e.trans j fun y C o=>by cases o
   have H:∀y,jb L y→w.heap.size≤y:=fun y C=>(s y C).elim (fun h=>by cases h) fun h=>aA e.size h
   have a9:∀y,jb L y→_:=fun y C=>(s y C).elim (fun h=>by cases h) fun h=>aA a6.size h
   have aa:Own a8 L 1 a7 30 32 (ge x.tree):=by have:=F;rw[cB] at this;exact this
   have e:=c
   refine jo rfl (va gc rfl 32 32 rfl rfl rfl zd aa (Src.slice (hxl.parents.ga c) OneC.h) zm zn fun ab ac an t A G=>⟨E.trans A (fun y C o=>(by have:=a9 y o;omega)),?_⟩)
   dsimp only at t A G⊢
   have c:=e.trans A fun y C o=>by have:=H y o;omega
   have p:=yv5 e H G
   rw[e3] at t⊢
   refine gt gc 1 rfl (jg (j5 ?_))
   exact js (gr (ab,ac) rfl ⟨⟨by rw[show(u5 x).flatMap ge=ge x.tree++x.parents.flatMap ge from by rw[D];rfl];exact t,p⟩,c⟩)
  have h3:¬x.kind=3:=l
  have D:u5 x=[]:=by rw[u5,aP h2,aP h3]
  refine kc ?_
  exact js (gr (none,0) (by rw[D];rfl) ⟨⟨by rw[D];exact Own.nil _ _ _,zw3⟩,c⟩)
 rintro⟨q,k⟩ ao ⟨⟨n,f⟩,c⟩
 try dsimp only
 dsimp only at n f
 refine jd rfl (j9 (gv rfl rfl ?_))
 exact⟨q,k,by rw[he],by rw[he];exact n,f,c⟩
theorem bytesEqual_calls (w:World) {p q:Option Addr} {c d:Nat} {l m:List UInt8} (h:ux w p l) (h':ux w q m):
  gn prog 172 [.slice p l.length c,.slice q m.length d] w fun v w'=>v= .bool (decide (l=m))∧w'=w:=by
 refine gx func172 ?_
 have a:=Ext.refl No w
 refine jd rfl (ki rfl (wl (D4 gc rfl rfl h (j0 gc rfl (wl (D4 gc rfl rfl h' (vr rfl (gv rfl rfl ?_))))))))
 exact⟨congrArg Value.bool (aH.2 str_iff),rfl⟩
def Cv (w:World) (rb:Nat) (s:Ds):Prop:=Rd w rb s.rest s.err
theorem off_eq (s:Ds) (n:Nat):vn s.rest s.err (n:Int)=((s.off n).1,(s.off n).2.rest,(s.off n).2.err):=by
 obtain⟨l,b⟩:=s
 cases b with
 |true=>simp[vn,Ds.err,Ds.off]
 |false=>
  by_cases h:l.length<n
  ·have a:¬(n:Int)<0:=by omega
   have c:(l.length:Int)<n:=by omega
   simp[vn,Ds.err,Ds.off,h,a]
  have a:¬(n:Int)<0:=by omega
  have c:¬(l.length:Int)<n:=by omega
  simp[vn,Ds.err,Ds.off,h,a]
theorem Cv.ga {w w':World} {rb:Nat} {s:Ds} (h:Cv w rb s) (hE:Ext No w w'):Cv w' rb s:=Rd.ga h hE
theorem Cv.ne {w:World} {rb:Nat} {s:Ds} (h:Cv w rb s) {b T:Nat} {L:List Value} (hb:gz w b T L) (hT:264≠T):rb≠b:=Rd.ne h hb hT
theorem Cv.gj {w w':World} {rb:Nat} {s:Ds} (h:Cv w rb s) {x T:Nat} {L:List Value} (hE:Ext (One x) w w') (hb:gz w x T L) (h1:264≠T) (h2:5≠T):Cv w' rb s:=
 Rd.ext h hE (fun e=>h.ne hb h1 e) fun _b _L hL e=>hL.ne hb h2 e
theorem Cv.err {w:World} {rb:Nat} {s:Ds} (h:Cv w rb s):gn prog 111 [.pointer (some ⟨rb,0,none⟩)] w fun v w'=>v= .int .i64 s.err∧w'=w:=err_calls w h
theorem Cv.u8 {w:World} {rb:Nat} {s:Ds} (h:Cv w rb s) (hl:s.rest.length<1000000000):gn prog 109 [.pointer (some ⟨rb,0,none⟩)] w fun v w'=>v= .int .u8 ((num (s.off 1).1:Nat):Int)∧Cv w' rb (s.off 1).2∧Ext (One rb) w w':=
 ((u8_calls w h hl)).mono fun v w' ⟨h1,h2,h3⟩=>by
  have e:=off_eq s 1
  rw[show vn s.rest s.err 1=_ from e] at h1 h2
  exact⟨h1,h2,h3⟩
theorem Cv.u16 {w:World} {rb:Nat} {s:Ds} (h:Cv w rb s) (hl:s.rest.length<1000000000):gn prog 104 [.pointer (some ⟨rb,0,none⟩)] w fun v w'=>v= .int .u16 ((num (s.off 2).1:Nat):Int)∧Cv w' rb (s.off 2).2∧Ext (One rb) w w':=
 ((u16_calls w h hl)).mono fun v w' ⟨h1,h2,h3⟩=>by
  have e:=off_eq s 2
  rw[show vn s.rest s.err 2=_ from e] at h1 h2
  exact⟨h1,h2,h3⟩
theorem Cv.u32 {w:World} {rb:Nat} {s:Ds} (h:Cv w rb s) (hl:s.rest.length<1000000000):gn prog 171 [.pointer (some ⟨rb,0,none⟩)] w fun v w'=>v= .int .u32 ((num (s.off 4).1:Nat):Int)∧Cv w' rb (s.off 4).2∧Ext (One rb) w w':=
 ((zw8 w h hl)).mono fun v w' ⟨h1,h2,h3⟩=>by
  have e:=off_eq s 4
  rw[show vn s.rest s.err 4=_ from e] at h1 h2
  exact⟨h1,h2,h3⟩
theorem Cv.raw {w:World} {rb:Nat} {s:Ds} (h:Cv w rb s) (hl:s.rest.length<1000000000) (n:Nat):gn prog 103 [.pointer (some ⟨rb,0,none⟩),.int .i64 (n:Int)] w fun v w'=>∃q c,v= .slice q (s.off n).1.length c∧ux w' q (s.off n).1∧Cv w' rb (s.off n).2∧Ext (One rb) w w':=
 ((raw_calls w h hl n)).mono fun v w' ⟨q,c,h1,h2,h3,h4⟩=>by
  have e:=off_eq s n
  rw[e] at h1 h2 h3
  exact⟨q,c,h1,h2,h3,h4⟩
theorem small_rd (w:World) {rb:Nat} {s:Ds} (h:Cv w rb s) (hl:s.rest.length<1000000000):
  gn prog 167 [.agg #[.pointer (some ⟨rb,0,none⟩)]] w fun v w'=>v=y7 (s.str 1).1∧Cv w' rb (s.str 1).2∧Ext (One rb) w w':=by
 refine gx func167 ?_
 have a:=Ext.refl (One rb) w
 refine ko (gw rfl fun u x y b j=> ?_)
 have a:=a.gb j
 have b:gz x u 267 ([.pointer (some ⟨rb,0,none⟩)]):=b
 have r:=h.ga j
 have k:=(r.ne b zd).symm
 refine km rfl (gl (jr rfl 9 [qP 0,qP 1,qP 2,qP 3,(4,false),qP 5,(6,false),(7,false),qP 8] [] (One rb) zk fun z f A=> ?_))
 have l:=b
 have a:=a.gb f
 have g:Ext (One rb) _ z:=f.no
 have r:=r.ga f
 have B:=s.qc 1
 have C:=s.ub 1
 refine gt gc 1 rfl (j3 gc rfl rfl (fun w' i=>((l.ext (show Ext (One rb) _ w' from i) k).cell rfl)) ?_)
 refine gt gc 1 rfl (j3 gc rfl rfl (fun w' i=>((l.ext (show Ext (One rb) _ w' from i) k).cell rfl)) ?_)
 refine jo rfl (j1 call109 rfl (r.u8 hl) fun D E m=>⟨(by obtain⟨rfl,n,d⟩:=m;exact g.then d),?_⟩)
 obtain⟨rfl,n,d⟩:=m
 have a:=a.then d
 have g:=g.then d
 refine gt gc 1 rfl ?_
 rw[jz _ zo]
 refine jo rfl (j1 call103 rfl (n.raw zo (num (s.off 1).1)) fun F G o=>⟨(by obtain⟨q,c,rfl,t,p,e⟩:=o;exact g.then e),?_⟩)
 obtain⟨q,c,rfl,t,p,e⟩:=o
 have a:=a.then e
 have g:=g.then e
 refine jo rfl (D4 gc rfl rfl t ⟨g,?_⟩)
 refine gt gc 1 rfl (jg (j5 (jp (j9 (gv rfl rfl ?_)))))
 exact⟨rfl,p,a⟩
theorem text_rd (w:World) {rb:Nat} {s:Ds} (h:Cv w rb s) (hl:s.rest.length<1000000000):
  gn prog 164 [.agg #[.pointer (some ⟨rb,0,none⟩)]] w fun v w'=>v=y7 (s.str 2).1∧Cv w' rb (s.str 2).2∧Ext (One rb) w w':=by
 refine gx func164 ?_
 have a:=Ext.refl (One rb) w
 refine ko (gw rfl fun u x y b j=> ?_)
 have a:=a.gb j
 have b:gz x u 267 ([.pointer (some ⟨rb,0,none⟩)]):=b
 have r:=h.ga j
 have k:=(r.ne b zd).symm
 refine km rfl (gl (jr rfl 9 [qP 0,qP 1,qP 2,qP 3,(4,false),qP 5,(6,false),(7,false),qP 8] [] (One rb) zk fun z f A=> ?_))
 have l:=b
 have a:=a.gb f
 have g:Ext (One rb) _ z:=f.no
 have r:=r.ga f
 have B:=s.qc 2
 have C:=s.ub 2
 refine gt gc 1 rfl (j3 gc rfl rfl (fun w' i=>((l.ext (show Ext (One rb) _ w' from i) k).cell rfl)) ?_)
 refine gt gc 1 rfl (j3 gc rfl rfl (fun w' i=>((l.ext (show Ext (One rb) _ w' from i) k).cell rfl)) ?_)
 refine jo rfl (j1 call104 rfl (r.u16 hl) fun D E m=>⟨(by obtain⟨rfl,n,d⟩:=m;exact g.then d),?_⟩)
 obtain⟨rfl,n,d⟩:=m
 have a:=a.then d
 have g:=g.then d
 refine gt gc 1 rfl ?_
 rw[jz _ zo]
 refine jo rfl (j1 call103 rfl (n.raw zo (num (s.off 2).1)) fun F G o=>⟨(by obtain⟨q,c,rfl,t,p,e⟩:=o;exact g.then e),?_⟩)
 obtain⟨q,c,rfl,t,p,e⟩:=o
 have a:=a.then e
 have g:=g.then e
 refine jo rfl (D4 gc rfl rfl t ⟨g,?_⟩)
 refine gt gc 1 rfl (jg (j5 (jp (j9 (gv rfl rfl ?_)))))
 exact⟨rfl,p,a⟩
theorem idZ_fill {t:List UInt8} (h:t.length≤32):put (ge Ao) 0 (ge t)=ge (t++List.replicate (32-t.length) 0):=by
 rw[put_eq _ _ _ (by rw[gm,gm];simpa using h),kz]
 simp[uk,gm]
theorem id_rd (w:World) {rb:Nat} {s:Ds} (h:Cv w rb s) (hl:s.rest.length<1000000000):
  gn prog 168 [.agg #[.pointer (some ⟨rb,0,none⟩)]] w fun v w'=>v= .agg (ge s.id.1).toArray∧Cv w' rb s.id.2∧Ext (One rb) w w':=by
 refine gx func168 ?_
 have d:=Ext.refl (One rb) w
 refine ko (gw rfl fun J K L b p=> ?_)
 have d:=d.gb p
 have b:gz K J 267 ([.pointer (some ⟨rb,0,none⟩)]):=b
 have j:=h.ga p
 have B:=(j.ne b zd).symm
 refine gw rfl fun o M r a k=> ?_
 have l:=j2 b.lt r
 have t:=aA d.size r
 have b:=b.ga k
 have d:=d.gb k
 have a:gz M o 30 (ge Ao):=(by rw[A6];exact a)
 have j:=j.ga k
 have C:=(j.ne a zd).symm
 refine qq (gl (jr rfl 5 [qP 0,qP 1,qP 2,(3,false),(4,false)] [] ((fun x=>x=rb∨x=o)) zk fun N i O=> ?_))
 have D:=b
 have a:=a.ga i
 have d:=d.gb i
 have A:Ext ((fun x=>x=rb∨x=o)) _ N:=i.no
 have j:=j.ga i
 have m:=s.qc 32
 refine xv0 gc rfl rfl 0 32 32 1 rfl ⟨.inr ⟨rfl,rfl⟩,.inr ⟨rfl,rfl⟩,.inr ⟨rfl,rfl⟩,by decide,by decide,by decide⟩ ?_
 rw[jw,bB]
 refine gt gc 1 rfl (j3 gc rfl rfl (fun w' E=>((D.ext (show Ext (fun x=>x=rb∨x=o) _ w' from E) fun e=>e.elim B l).cell rfl)) ?_)
 refine jo rfl (j1 call103 rfl (j.raw hl 32) fun S T u=>⟨(by obtain⟨q,c,rfl,I,y,f⟩:=u;exact A.then (f.mono fun _ _ e=> .inl e)),?_⟩)
 obtain⟨q,c,rfl,I,y,f⟩:=u
 have a:=a.gj f C
 have d:=d.then f
 have A:=A.then (f.mono fun _ _ e=> .inl e)
 have g:=a
 refine jo rfl (zj1 gc rfl 1 rfl a (Src.slice I OneC.h) m.1 (by rw[gm];dsimp only;have:=m.1;simp;omega) fun P F n Q=>⟨A.then (n.mono fun _ _ e=> .inr e),?_⟩)
 have a:gz P o 30 (ge s.id.1):=by rw[Ds.id,←idZ_fill m.1];exact F
 have d:=d.gi n t
 have G:=y.gj n g zd zd
 refine jg (j5 (jp (ko (je a rfl (by rw[gm,s.un.1]) ?_))))
 have g:=a
 refine wl (j4 (l':=ge s.id.1) gc a rfl rfl (by rw[gm,s.un.1]) rfl OneC.h fun U a z R=> ?_)
 have d:=d.gi z t
 have H:=G.gj z g zd zd
 refine qq (j9 (qe [_] ⟨⟨o,0,rfl,qg gc rfl rfl a.kj (by rw[gm,s.un.1];rfl)⟩,trivial⟩ ?_))
 exact⟨rfl,H,d⟩
abbrev Any:Nat→Prop:=fun _=>True
theorem xx0 {α:Type} {f:Ds→α×Ds} (hf:∀s,(f s).2.rest.length≤s.rest.length):∀(n:Nat) (s:Ds),(Ds.each f n s).2.rest.length≤s.rest.length
 |0,s=>aD _
 |n+1,s=>by
  rw[Ds.each]
  split
  ·exact aD _
  exact aA (xx0 hf n _) (hf s)
theorem each_rd {α:Type} (f:Ds→α×Ds) (w:World) {rb:Nat} {s:Ds} {G:Nat} {cap:Array Value} (hcf:∀args w,(callFunc G args).run prog w= .ok (.enter G args) w)
  (J:List α→Ds→World→Prop) (hl:s.rest.length<1000000000)
  (hR:∀acc s w,J acc s w→Cv w rb s) (hNo:∀acc s w w',J acc s w→Ext No w w'→J acc s w') (hU:∀acc s s' w w',J acc s w→Cv w' rb s'→s'.rest.length≤s.rest.length→Ext (One rb) w w'→J acc s' w')
  (hstep:∀acc s w,J acc s w→s.bad=false→acc.length<255→gn prog G cap.toList w fun v w'=>v= .tuple #[]∧J (acc++[(f s).1]) (f s).2 w'∧(∀b L,gz w b 267 L→gz w' b 267 L)∧Ext Any w w')
  (h:J [] s w):
  gn prog 165 [.agg #[.pointer (some ⟨rb,0,none⟩)],.func (.func G) #[] cap] w fun v w'=>v= .tuple #[]∧J (s.row f).1 (s.row f).2 w'∧(∀b L,gz w b 267 L→gz w' b 267 L)∧Ext Any w w':=by
 refine gx func165 ?_
 have i:=Ext.refl Any w
 refine ko (gw rfl fun A B D a k=> ?_)
 have i:=i.gb k
 have a:gz B A 267 ([.pointer (some ⟨rb,0,none⟩)]):=a
 have h:=hNo _ _ _ _ h k
 have g:=hR _ _ _ h
 have c:∀b L,gz w b 267 L→gz B b 267 L:=fun _ _ h=>h.ga k
 refine qq (ki rfl (j6 a rfl rfl (gh call109 rfl (g.u8 hl) fun N E p=> ?_)))
 obtain⟨rfl,q,j⟩:=p
 have a:=a.gj j (g.ne a zd).symm
 have i:=i.then (j.mono fun _ _ _=>trivial)
 have h:=hU _ _ _ _ _ h q (s.qc 1).2.1 j
 have c:∀b L,gz w b 267 L→gz E b 267 L:=fun b L h=>(c b L h).gj j (g.ne (c b L h) zd).symm
 have F:=s.ub 1
 refine km rfl (j8 ?_)
 refine jj (α:=Nat×List α×Ds) [1,2] rfl (fun z=>[(4,.int .u8 (z.1:Int))]) (fun z u=>(z.2.1.length+z.1≤255∧J z.2.1 z.2.2 u∧s.row f=(z.2.1++(Ds.each f z.1 z.2.2).1,(Ds.each f z.1 z.2.2).2)∧∀b L,gz w b 267 L→gz u b 267 L)∧gz u A 267 ([.pointer (some ⟨rb,0,none⟩)])∧Ext Any w u) (fun z u=>z.1) (num (s.off 1).1,[],(s.off 1).2) rfl ⟨⟨by dsimp only[List.length_nil];omega,h,rfl,c⟩,a,i⟩ ?_
 rintro⟨n,acc,d⟩ C ⟨⟨H,h,e,c⟩,a,i⟩
 try dsimp only
 dsimp only at H h e c
 have g:=hR _ _ _ h
 refine gl (ji (α:=Bool) [1,2,4] rfl (fun z=>[(15,.bool z)]) (fun z u=>u=C∧z=decide (¬n=0∧d.bad=false)) ?_ ?_)
 ·refine gy ?_
  refine j0 gc rfl (ja 10 rfl (fun I=> ?_) (fun I=> ?_))
  ·refine gq gc 1 rfl ?_
   refine j6 a rfl rfl (gh call111 rfl (g.err) fun O P r=> ?_)
   obtain⟨rfl,rfl⟩:=r
   refine gq gc 2 rfl (gk ?_)
   exact gr (_) rfl ⟨rfl,by rw[aH];cases hbd:d.bad;exact⟨fun _=>⟨by omega,rfl⟩,fun _=>by rw[Ds.err,hbd];rfl⟩;exact⟨fun h=>by rw[Ds.err,hbd] at h;exact absurd h zd,fun h=>absurd h.2 zd⟩⟩
  refine gq gc 5 rfl ?_
  refine gk ?_
  exact gr (false) rfl ⟨rfl,by symm;rw[aC];exact fun h=>h.1 zo⟩
 rintro z Q ⟨t,rfl⟩
 have t:=t.symm
 subst t
 refine jl rfl (fun o=> ?_) (fun o=> ?_)
 ·obtain⟨m,rfl⟩:∃m,n=m+1:=⟨n-1,by omega⟩
  rw[Ds.Dg o.2] at e
  refine Ac (yl rfl (gh hcf rfl (hstep _ _ C h o.2 zo) fun R K x=> ?_))
  obtain⟨rfl,h,l,y⟩:=x
  have a:=a|>l _ _
  have i:=i.then y
  have c:∀b L,gz w b 267 L→gz K b 267 L:=fun b L h=>l b L (c b L h)
  refine gk (Aa rfl ?_)
  rw[show IntKind.u8.wrap (((m+1:Nat):Int)-1)=(m:Int) from by rw[IntWalk.u8_in _ zo];omega]
  refine j0 gc rfl (gk ?_)
  exact jk (m,acc++[(f d).1],(f d).2) rfl ⟨⟨by dsimp only;rw[aB];simp only[aW,List.length_nil];omega,h,by rw[e];simp,c⟩,a,i⟩ zf
 have M:Ds.each f n d=([],d):=Ds.each_end (by
  by_cases h0:n=0
  ·exact .inl h0
  cases hbd:d.bad
  ·exact absurd ⟨h0,hbd⟩ o
  exact .inr rfl)
 rw[M,bK] at e
 refine y8 (ql (ql (ve (z6 rfl ?_))))
 exact⟨rfl,by rw[e];exact h,c,i⟩
structure zy (W0 w:World) (rb b4 b5:Nat) (o:jq) (a:vb) (s:Ds):Prop where
  rd:Cv w rb s
  bs:gz w b4 267 [.pointer (some ⟨rb,0,none⟩)]
  bo:gz w b5 37 (jn o a)
  ol:Own w a.lp o.leaves.length a.lc 148 33 (o.leaves.flatMap jf.cells)
  op:Own w a.pp o.parents.length a.pc 30 32 (o.parents.flatMap ge)
  or:Own w a.rp o.rows.length a.rc 150 3 (o.rows.flatMap u9.cells)
  nl:∀x,jb a.lp x→W0.heap.size≤x
  np:∀x,jb a.pp x→W0.heap.size≤x
  nr:∀x,jb a.rp x→W0.heap.size≤x
  fr:W0.heap.size≤rb
  fo:W0.heap.size≤b5
  X:Ext No W0 w
  len:s.rest.length<1000000000
  oin:u4 o
  sh:A5 o
section
variable {W0 w w' w1 w2:World} {rb b4 b5:Nat} {o:jq} {a:vb} {s s':Ds}
theorem Cv.lt (h:Cv w rb s):rb<w.heap.size:=Rd.lt h
theorem zy.ga (h:zy W0 w rb b4 b5 o a s) (hE:Ext No w w'):zy W0 w' rb b4 b5 o a s:=
 ⟨h.rd.ga hE,h.bs.ga hE,h.bo.ga hE,h.ol.ext hE fun _ _=>id,h.op.ext hE fun _ _=>id,h.or.ext hE fun _ _=>id,h.nl,h.np,h.nr,h.fr,h.fo,h.X.gb hE,h.len,h.oin,h.sh⟩
theorem zy.neR (h:zy W0 w rb b4 b5 o a s) {b T:Nat} {L:List Value} (hb:gz w b T L) (hT:264≠T):b≠rb:=(h.rd.ne hb hT).symm
theorem zy.read (h:zy W0 w rb b4 b5 o a s) (hR:Cv w' rb s') (hE:Ext (One rb) w w') (hl:s'.rest.length≤s.rest.length):zy W0 w' rb b4 b5 o a s':=by
 have f:∀{x T:Nat} {L:List Value},gz w x T L→264≠T→gz w' x T L:=fun g b=>g.gj hE (h.neR g b)
 have d:∀{p:Option Addr} {n c T sz:Nat} {xs:List Value},Own w p n c T sz xs→264≠T→Own w' p n c T sz xs:=fun i b=>i.ext hE fun x k e=>by
  have e:x=rb:=e
  obtain⟨l,hl⟩:=i.D7 k
  exact h.neR hl b e
 exact⟨hR,f h.bs zd,f h.bo zd,d h.ol zd,d h.op zd,d h.or zd,h.nl,h.np,h.nr,h.fr,h.fo,h.X.trans hE fun y m j=>by have j:y=rb:=j;have:=h.fr;omega,bL hl h.len,h.oin,h.sh⟩
structure Sep (W0:World) (rb b4 b5:Nat) (a:vb) (x:Nat):Prop where
  r:rb≠x
  s:b4≠x
  o:b5≠x
  l:¬jb a.lp x
  p:¬jb a.pp x
  c:¬jb a.rp x
  n:W0.heap.size≤x
theorem zy.sep (h:zy W0 w rb b4 b5 o a s) {x:Nat} (hx:w.heap.size≤x):Sep W0 rb b4 b5 a x:=
 ⟨by have:=h.rd.lt;omega,by have:=h.bs.lt;omega,by have:=h.bo.lt;omega,fun e=>by have:=h.ol.lt e;omega,fun e=>by have:=h.op.lt e;omega,fun e=>by have:=h.or.lt e;omega,aA h.X.size hx⟩
theorem zy.gj (h:zy W0 w rb b4 b5 o a s) {x T:Nat} {L:List Value} (hs:Sep W0 rb b4 b5 a x) (hb:gz w x T L) (hT:5≠T) (hE:Ext (One x) w w'):zy W0 w' rb b4 b5 o a s:=
 ⟨Rd.ext h.rd hE hs.r fun b L hL e=>hL.ne hb hT e,h.bs.gj hE hs.s,h.bo.gj hE hs.o,h.ol.ext hE fun y hy e=>by have e:y=x:=e;subst e;exact hs.l hy,h.op.ext hE fun y hy e=>by have e:y=x:=e;subst e;exact hs.p hy,h.or.ext hE fun y hy e=>by have e:y=x:=e;subst e;exact hs.c hy,
  h.nl,h.np,h.nr,h.fr,h.fo,h.X.gi hE hs.n,h.len,h.oin,h.sh⟩
theorem zy.put (h:zy W0 w rb b4 b5 o a s) (hE:Ext (One b5) w w') {o':jq} (hb:gz w' b5 37 (jn o' a)) (e1:o'.leaves=o.leaves) (e2:o'.parents=o.parents) (e3:o'.rows=o.rows) (hi:u4 o') (hs:A5 o'):zy W0 w' rb b4 b5 o' a s:=
 ⟨h.rd.gj hE h.bo zd zd,h.bs.gj hE (h.bs.ne h.bo zd),hb,by rw[e1];exact h.ol.ju hE h.bo zd,by rw[e2];exact h.op.ju hE h.bo zd,by rw[e3];exact h.or.ju hE h.bo zd,
  h.nl,h.np,h.nr,h.fr,h.fo,h.X.trans hE fun y hy hF=>by have hF:y=b5:=hF;have:=h.fo;omega,h.len,hi,hs⟩
theorem Cv.ke (h:Cv w rb s) {p:Option Addr} {n c T sz:Nat} {xs:List Value} (ho:Own w p n c T sz xs) (hE:Ext (jb p) w w') (h1:264≠T) (h2:5≠T):Cv w' rb s:=
 Rd.ext h hE (fun hx=>by obtain⟨l,hl⟩:=ho.D7 hx;exact h.ne hl h1 rfl) fun b L hL hx=>(ho.zj7 hx hL (Ne.symm h2)) rfl
theorem _root_.Go.Vc.Own.ke {p q:Option Addr} {n c T sz m d U sy:Nat} {xs ys:List Value} (h:Own w p n c T sz xs) (ho:Own w q m d U sy ys) (hE:Ext (jb q) w w') (hT:U≠T):Own w' p n c T sz xs:=
 h.ext hE fun x hx hy=>by
  obtain⟨l,hl⟩:=h.D7 hx
  exact ho.zj7 hy hl hT rfl
theorem zy.putLeaf (h:zy W0 w rb b4 b5 o a s) {p:Option Addr} {c:Nat} {r:jf} (hE1:Ext (jb a.lp) w w1) (ho:Own w1 p (o.leaves.length+1) c 148 33 (o.leaves.flatMap jf.cells++r.cells)) (hB:∀x,jb p x→jb a.lp x∨w.heap.size≤x)
  (hE2:Ext (One b5) w1 w2) (hb:gz w2 b5 37 (jn {o with leaves:=o.leaves++[r]} ⟨p,c,a.pp,a.pc,a.rp,a.rc⟩)) (hr:LeafIn r) (hp:r.path.length<1000000000) (hn:o.leaves.length<255):
  zy W0 w2 rb b4 b5 {o with leaves:=o.leaves++[r]} ⟨p,c,a.pp,a.pc,a.rp,a.rc⟩ s:=by
 have bo1:=h.bo.ke h.ol hE1 zd
 have e1:(o.leaves++[r]).length=o.leaves.length+1:=by rw[aB];rfl
 have e2:(o.leaves++[r]).flatMap jf.cells=o.leaves.flatMap jf.cells++r.cells:=by rw[bC];simp
 exact⟨(h.rd.ke h.ol hE1 zd zd).gj hE2 bo1 zd zd,(h.bs.ke h.ol hE1 zd).gj hE2 ((h.bs.ke h.ol hE1 zd).ne bo1 zd),hb,
  by rw[e1,e2];exact ho.ju hE2 bo1 zd,(h.op.ke h.ol hE1 zd).ju hE2 bo1 zd,(h.or.ke h.ol hE1 zd).ju hE2 bo1 zd,
  yv5 h.X h.nl hB,h.np,h.nr,h.fr,h.fo,
  (h.X.trans hE1 fun y hy hF=>by have:=h.nl y hF;omega).trans hE2 fun y hy hF=>by have hF:y=b5:=hF;have:=h.fo;omega,
  h.len,⟨h.oin.tree,h.oin.base,h.oin.parents,fun x hx=>by rcases aY.1 hx with hx|hx;exact h.oin.leaves x hx;rw[aI.1 hx];exact hr,h.oin.rows,h.oin.number,h.oin.author⟩,⟨by show(o.leaves++[r]).length<_;omega,h.sh.parents,h.sh.rows,fun x hx=>by rcases aY.1 hx with hx|hx;exact h.sh.leafP x hx;rw[aI.1 hx];exact hp,h.sh.rowP⟩⟩
theorem zy.putId (h:zy W0 w rb b4 b5 o a s) {p:Option Addr} {c:Nat} {r:List UInt8} (hE1:Ext (jb a.pp) w w1) (ho:Own w1 p (o.parents.length+1) c 30 32 (o.parents.flatMap ge++ge r)) (hB:∀x,jb p x→jb a.pp x∨w.heap.size≤x)
  (hE2:Ext (One b5) w1 w2) (hb:gz w2 b5 37 (jn {o with parents:=o.parents++[r]} ⟨a.lp,a.lc,p,c,a.rp,a.rc⟩)) (hr:uv r) (hn:o.parents.length<255):
  zy W0 w2 rb b4 b5 {o with parents:=o.parents++[r]} ⟨a.lp,a.lc,p,c,a.rp,a.rc⟩ s:=by
 have bo1:=h.bo.ke h.op hE1 zd
 have e1:(o.parents++[r]).length=o.parents.length+1:=by rw[aB];rfl
 have e2:(o.parents++[r]).flatMap ge=o.parents.flatMap ge++ge r:=by rw[bC];simp
 exact⟨(h.rd.ke h.op hE1 zd zd).gj hE2 bo1 zd zd,(h.bs.ke h.op hE1 zd).gj hE2 ((h.bs.ke h.op hE1 zd).ne bo1 zd),hb,
  (h.ol.ke h.op hE1 zd).ju hE2 bo1 zd,by rw[e1,e2];exact ho.ju hE2 bo1 zd,(h.or.ke h.op hE1 zd).ju hE2 bo1 zd,
  h.nl,yv5 h.X h.np hB,h.nr,h.fr,h.fo,
  (h.X.trans hE1 fun y hy hF=>by have:=h.np y hF;omega).trans hE2 fun y hy hF=>by have hF:y=b5:=hF;have:=h.fo;omega,
  h.len,⟨h.oin.tree,h.oin.base,fun x hx=>by rcases aY.1 hx with hx|hx;exact h.oin.parents x hx;rw[aI.1 hx];exact hr,h.oin.leaves,h.oin.rows,h.oin.number,h.oin.author⟩,⟨h.sh.leaves,by show(o.parents++[r]).length<_;omega,h.sh.rows,h.sh.leafP,h.sh.rowP⟩⟩
theorem zy.putChg (h:zy W0 w rb b4 b5 o a s) {p:Option Addr} {c:Nat} {r:u9} (hE1:Ext (jb a.rp) w w1) (ho:Own w1 p (o.rows.length+1) c 150 3 (o.rows.flatMap u9.cells++r.cells)) (hB:∀x,jb p x→jb a.rp x∨w.heap.size≤x)
  (hE2:Ext (One b5) w1 w2) (hb:gz w2 b5 37 (jn {o with rows:=o.rows++[r]} ⟨a.lp,a.lc,a.pp,a.pc,p,c⟩)) (hr:ChgIn r) (hp:r.path.length<1000000000) (hn:o.rows.length<255):
  zy W0 w2 rb b4 b5 {o with rows:=o.rows++[r]} ⟨a.lp,a.lc,a.pp,a.pc,p,c⟩ s:=by
 have bo1:=h.bo.ke h.or hE1 zd
 have e1:(o.rows++[r]).length=o.rows.length+1:=by rw[aB];rfl
 have e2:(o.rows++[r]).flatMap u9.cells=o.rows.flatMap u9.cells++r.cells:=by rw[bC];simp
 exact⟨(h.rd.ke h.or hE1 zd zd).gj hE2 bo1 zd zd,(h.bs.ke h.or hE1 zd).gj hE2 ((h.bs.ke h.or hE1 zd).ne bo1 zd),hb,
  (h.ol.ke h.or hE1 zd).ju hE2 bo1 zd,(h.op.ke h.or hE1 zd).ju hE2 bo1 zd,by rw[e1,e2];exact ho.ju hE2 bo1 zd,
  h.nl,h.np,yv5 h.X h.nr hB,h.fr,h.fo,
  (h.X.trans hE1 fun y hy hF=>by have:=h.nr y hF;omega).trans hE2 fun y hy hF=>by have hF:y=b5:=hF;have:=h.fo;omega,
  h.len,⟨h.oin.tree,h.oin.base,h.oin.parents,h.oin.leaves,fun x hx=>by rcases aY.1 hx with hx|hx;exact h.oin.rows x hx;rw[aI.1 hx];exact hr,h.oin.number,h.oin.author⟩,⟨h.sh.leaves,h.sh.parents,by show(o.rows++[r]).length<_;omega,h.sh.leafP,fun x hx=>by rcases aY.1 hx with hx|hx;exact h.sh.rowP x hx;rw[aI.1 hx];exact hp⟩⟩
end
structure qw (W0 w:World) (o:jq) (a:vb):Prop where
  ol:Own w a.lp o.leaves.length a.lc 148 33 (o.leaves.flatMap jf.cells)
  op:Own w a.pp o.parents.length a.pc 30 32 (o.parents.flatMap ge)
  or:Own w a.rp o.rows.length a.rc 150 3 (o.rows.flatMap u9.cells)
  nl:∀x,jb a.lp x→W0.heap.size≤x
  np:∀x,jb a.pp x→W0.heap.size≤x
  nr:∀x,jb a.rp x→W0.heap.size≤x
theorem qw.ga {W0 w w':World} {o:jq} {a:vb} (h:qw W0 w o a) (hE:Ext No w w'):qw W0 w' o a:=⟨h.ol.ext hE fun _ _=>id,h.op.ext hE fun _ _=>id,h.or.ext hE fun _ _=>id,h.nl,h.np,h.nr⟩
theorem qw.gj {W0 w w':World} {o:jq} {a:vb} (h:qw W0 w o a) {b T:Nat} {L:List Value} (hE:Ext (One b) w w') (hb:gz w b T L) (h1:148≠T) (h2:30≠T) (h3:150≠T):qw W0 w' o a:=⟨h.ol.ju hE hb h1,h.op.ju hE hb h2,h.or.ju hE hb h3,h.nl,h.np,h.nr⟩
theorem qw.l {W0 w:World} {o:jq} {a:vb} (h:qw W0 w o a):B7 w o a:=⟨h.ol.sl,h.op.sl,h.or.sl⟩
theorem qw.nil (W0 w:World) (o:jq) (h1:o.leaves=[]) (h2:o.parents=[]) (h3:o.rows=[]):qw W0 w o ⟨none,0,none,0,none,0⟩:=by
 refine⟨?_,?_,?_,zw3,zw3,zw3⟩
 ·rw[h1];exact Own.nil _ _ _
 ·rw[h2];exact Own.nil _ _ _
 rw[h3];exact Own.nil _ _ _
theorem qw.older {W0 W1 w:World} {o:jq} {a:vb} (h:qw W1 w o a) (hX:W0.heap.size≤W1.heap.size):qw W0 w o a:=⟨h.ol,h.op,h.or,fun x hx=>aA hX (h.nl x hx),fun x hx=>aA hX (h.np x hx),fun x hx=>aA hX (h.nr x hx)⟩
theorem zy.new {W0 w:World} {rb b4 b5:Nat} {o:jq} {a:vb} {s:Ds} (h:zy W0 w rb b4 b5 o a s):qw W0 w o a:=⟨h.ol,h.op,h.or,h.nl,h.np,h.nr⟩
theorem xz6:cellsOf ti148.zero=jf.cells ⟨[],Ao⟩:=by kernel_rfl
theorem chgZ_c:cellsOf ti150.zero=u9.cells ⟨[],false,[]⟩:=by kernel_rfl
theorem leaf_put {p:Str} {i j:List UInt8} (hi:i.length=32) (hj:j.length=32):put (jf.cells ⟨p,i⟩) 1 (ge j)=jf.cells ⟨p,j⟩:=by
 rw[put_eq _ _ _ (by simp[jf.cells,gm,hi,hj])]
 simp[jf.cells,gm,hi,hj]
theorem one_leaf {r:jf} (h:r.id.length=32):yh (Cn 1 (jf.cells ⟨[],Ao⟩)) [(0*(0+33),0+33,.agg r.cells.toArray)]=r.cells:=by
 simp only[yh,jh]
 rw[cW,Az (by rw[um,jf.len h];rfl)]
theorem Ds.leaf_in {s:Ds} (hl:s.rest.length<1000000000):LeafIn s.leaf.1:=by
 have h1:=(s.vf 1).1
 have h2:=maxLen_big
 exact⟨by show(s.str 1).1.length≤maxLen;omega,(s.str 1).2.un.1⟩
theorem Ds.chg_in {s:Ds} (hl:s.rest.length<1000000000):ChgIn s.chg.1:=by
 have a:=s.vf 1
 have b:=maxLen_big
 have c:=(s.str 1).2.qc 1
 have d:=((s.str 1).2.off 1).2.vf 2
 exact⟨by show(s.str 1).1.length≤maxLen;omega,by show(((s.str 1).2.off 1).2.str 2).1.length≤maxLen;omega⟩
theorem Ds.leaf_le (s:Ds):s.leaf.2.rest.length≤s.rest.length:=aA (s.str 1).2.un.2 (s.vf 1).2
theorem Ds.chg_le (s:Ds):s.chg.2.rest.length≤s.rest.length:=by
 have h1:=s.vf 1
 have h3:=(s.str 1).2.qc 1
 have h4:=((s.str 1).2.off 1).2.vf 2
 show(((s.str 1).2.off 1).2.str 2).2.rest.length≤_
 omega
theorem dec1_calls (w:World) {W0:World} {rb b4 b5:Nat} {o:jq} {a:vb} {s:Ds} (h:zy W0 w rb b4 b5 o a s) (hl:o.leaves.length<255):
  gn prog 166 [.pointer (some ⟨b4,0,none⟩),.pointer (some ⟨b5,0,none⟩)] w fun v w'=>v= .tuple #[]∧(∃a',zy W0 w' rb b4 b5 {o with leaves:=o.leaves++[s.leaf.1]} a' s.leaf.2)∧(∀b L,gz w b 267 L→gz w' b 267 L)∧Ext Any w w':=by
 refine gx func166 ?_
 have f:=Ext.refl Any w
 have d:=h
 have G:=h.len
 have c:∀b L,gz w b 267 L→gz w b 267 L:=fun _ _ h=>h
 refine ko (jm rfl d.bs.kj rfl (gh call167 rfl (small_rd w d.rd d.len) fun v1 w1 H=> ?_))
 obtain⟨rfl,n,p⟩:=H
 have c:=fun b L h=>(c b L h).gj p (d.neR (c b L h) zd)
 have f:=f.then (p.mono fun _ _ _=>trivial)
 have d:=d.read n p (s.vf 1).2
 refine kg rfl ⟨⟨rfl,by decide⟩,trivial⟩ (l':=jf.cells ⟨(s.str 1).1,Ao⟩) (by rw[xz6];rfl) ?_
 have I:=d
 refine gw rfl fun Q w2 A e q=> ?_
 have B:=aA f.size A
 have c:=fun b L h=>(c b L h).ga q
 have d:=d.ga q
 have f:=f.gb q
 have C:=I.sep A
 have g:=e
 refine wl (j4 (l':=jf.cells ⟨(s.str 1).1,Ao⟩) gc e rfl rfl (jf.len rfl) (jf.len rfl) OneC.h fun R e t S=> ?_)
 have c:=fun b L h=>(c b L h).gj t ((c b L h).ne g zd)
 have d:=d.gj C g zd t
 have f:=f.gi t B
 refine qq (ko (jm rfl d.bs.kj rfl (gh call168 rfl (id_rd R d.rd d.len) fun v4 w4 J=> ?_)))
 obtain⟨rfl,n,k⟩:=J
 have e:=e.gj k (d.neR e zd)
 have c:=fun b L h=>(c b L h).gj k (d.neR (c b L h) zd)
 have f:=f.then (k.mono fun _ _ _=>trivial)
 have d:=d.read n k (s.str 1).2.un.2
 refine j0 gc rfl ?_
 have g:=e
 have i:=Ds.leaf_in G
 refine wl (D3 gc e rfl (by rw[jh,gm,(s.str 1).2.un.1]) (by rw[jf.len rfl];decide) (by rw[jh];exact OneC.h) fun T e u U=> ?_)
 have c:=fun b L h=>(c b L h).gj u ((c b L h).ne g zd)
 have d:=d.gj C g zd u
 have f:=f.gi u B
 have e:gz T Q 148 ((s.leaf.1).cells):=(by have:=e;rw[jh,leaf_put rfl (s.str 1).2.un.1] at this;exact this)
 refine qq (yl rfl (gu rfl ((d.bo.kj.obj d.oin).leaves) (je e rfl (jf.len i.2) ?_)))
 refine wl (qi gc rfl 33 rfl xz6 (jf.len rfl) zd zd ⟨⟨by rw[jh];exact(jf.len i.2),by decide⟩,trivial⟩ (l':=(s.leaf.1).cells) (one_leaf i.2) fun K w6 O D x V=> ?_)
 have c:=fun b L h=>(c b L h).ga x
 have d:=d.ga x
 have f:=f.gb x
 have M:=f
 refine wl (va gc rfl 33 48 rfl rfl rfl zd d.ol (Src.slice (m:=1) ⟨jf.len i.2,.inr ⟨K,0,rfl,D.kj⟩⟩ OneC.h) zm zn fun W X Y E j F=> ?_)
 dsimp only at E j F⊢
 have f:=M.then (j.mono fun _ _ _=>trivial)
 have c:∀b L,gz w b 267 L→gz Y b 267 L:=fun b L h=>(c b L h).ke d.ol j (show(148:Nat)≠267 from by decide)
 have l:=d.bo.ke d.ol j (show(148:Nat)≠37 from by decide)
 refine j0 gc rfl (kl l rfl rfl rfl fun P y z Z=> ?_)
 have y:gz P b5 37 (jn {o with leaves:=o.leaves++[s.leaf.1]} ⟨W,X,a.pp,a.pc,a.rp,a.rc⟩):=by
  simp only[jn,aB]
  exact y
 have N:=d.putLeaf (r:=s.leaf.1) j E F z y i (by have:=s.vf 1;show(s.str 1).1.length<_;omega) hl
 have c:∀b L,gz w b 267 L→gz P b 267 L:=fun b L h=>(c b L h).gj z ((c b L h).ne l zd)
 have f:=f.then (z.mono fun _ _ _=>trivial)
 refine gk (z6 rfl ?_)
 exact⟨rfl,⟨_,N⟩,c,f⟩
theorem dec2_calls (w:World) {W0:World} {rb b4 b5:Nat} {o:jq} {a:vb} {s:Ds} (h:zy W0 w rb b4 b5 o a s) (hl:o.parents.length<255):
  gn prog 169 [.pointer (some ⟨b5,0,none⟩),.pointer (some ⟨b4,0,none⟩)] w fun v w'=>v= .tuple #[]∧(∃a',zy W0 w' rb b4 b5 {o with parents:=o.parents++[s.id.1]} a' s.id.2)∧(∀b L,gz w b 267 L→gz w' b 267 L)∧Ext Any w w':=by
 refine gx func169 ?_
 have j:=Ext.refl Any w
 have d:=h
 have N:=h.len
 have c:∀b L,gz w b 267 L→gz w b 267 L:=fun _ _ h=>h
 refine jr rfl 7 [qP 0,qP 1,qP 2,(3,false),(4,false),(5,false),qP 6] [7] ((fun x=>x=rb∨jb a.pp x)) zk fun J l O=> ?_
 have c:=fun b L h=>(c b L h).ga l
 have d:=d.ga l
 have j:=j.gb l
 have q:Ext ((fun x=>x=rb∨jb a.pp x)) _ J:=l.no
 have C:¬(fun x=>x=rb∨jb a.pp x) b5:=fun e=>e.elim (h.neR h.bo zd) fun D=>h.op.zj7 D h.bo zd rfl
 have E:¬(fun x=>x=rb∨jb a.pp x) b4:=fun e=>e.elim (h.neR h.bs zd) fun D=>h.op.zj7 D h.bs zd rfl
 have n:=s.un
 refine gt gc 1 rfl (j3 gc rfl rfl (fun w' t=>((h.bo.ext (show Ext (fun x=>x=rb∨jb a.pp x) _ w' from t) C).kj.obj h.oin).parents) ?_)
 refine qa gc rfl rfl (fun w' t=>(h.bs.ext (show Ext (fun x=>x=rb∨jb a.pp x) _ w' from t) E).kj) rfl ?_
 refine jo rfl (j1 call168 rfl (id_rd J d.rd d.len) fun T U y=>⟨(by obtain⟨rfl,z,f⟩:=y;exact q.then (f.mono fun _ _ e=> .inl e)),?_⟩)
 obtain⟨rfl,z,f⟩:=y
 have c:=fun b L h=>(c b L h).gj f (d.neR (c b L h) zd)
 have j:=j.then (f.mono fun _ _ _=>trivial)
 have q:=q.then (f.mono fun _ _ e=> .inl e)
 have d:=d.read z f s.un.2
 refine jo rfl (qi gc rfl 32 rfl A6.symm zj zd zd ⟨⟨by rw[jh];exact(uv.len n.1),by decide⟩,trivial⟩ (l':=ge s.id.1) (xv7 n.1) fun V W P F k Q=>⟨q.gb k,?_⟩)
 have c:=fun b L h=>(c b L h).ga k
 have d:=d.ga k
 have j:=j.gb k
 have q:=q.gb k
 have G:=j
 refine jo rfl (va gc rfl 32 32 rfl rfl rfl zd d.op (Src.slice (m:=1) (one_idS n.1 F) OneC.h) zm zn fun K M R A g B=>⟨q.then (g.mono fun _ _ e=> .inr e),?_⟩)
 dsimp only at A g B⊢
 have j:=G.then (g.mono fun _ _ _=>trivial)
 have c:∀b L,gz w b 267 L→gz R b 267 L:=fun b L h=>(c b L h).ke d.op g (show(30:Nat)≠267 from by decide)
 have p:=d.bo.ke d.op g (show(30:Nat)≠37 from by decide)
 refine gt gc 1 rfl (jg (wb rfl (qz gc p rfl rfl (by rw[gp d.oin];decide) fun H i u S=> ?_)))
 have i:gz H b5 37 ((jn o a).set (68+0) (.slice K (o.parents.length+1) M)):=i
 rw[yc d.oin] at i
 have i:gz H b5 37 (jn {o with parents:=o.parents++[s.id.1]} ⟨a.lp,a.lc,K,M,a.rp,a.rc⟩):=by
  simp only[jn,aB]
  exact i
 have I:=d.putId (r:=s.id.1) g A B u i n.1 hl
 have c:∀b L,gz w b 267 L→gz H b 267 L:=fun b L h=>(c b L h).gj u ((c b L h).ne p zd)
 have j:=j.then (u.mono fun _ _ _=>trivial)
 refine j5 (z6 rfl ?_)
 exact⟨rfl,⟨_,I⟩,c,j⟩
theorem dec3_calls (w:World) {W0:World} {rb b4 b5:Nat} {o:jq} {a:vb} {s:Ds} (h:zy W0 w rb b4 b5 o a s) (hl:o.rows.length<255):
  gn prog 170 [.pointer (some ⟨b4,0,none⟩),.pointer (some ⟨b5,0,none⟩)] w fun v w'=>v= .tuple #[]∧(∃a',zy W0 w' rb b4 b5 {o with rows:=o.rows++[s.chg.1]} a' s.chg.2)∧(∀b L,gz w b 267 L→gz w' b 267 L)∧Ext Any w w':=by
 refine gx func170 ?_
 have i:=Ext.refl Any w
 have f:=h
 have J:=h.len
 have c:∀b L,gz w b 267 L→gz w b 267 L:=fun _ _ h=>h
 refine ko (jm rfl f.bs.kj rfl (gh call167 rfl (small_rd w f.rd f.len) fun v1 w1 K=> ?_))
 obtain⟨rfl,k,u⟩:=K
 have c:=fun b L h=>(c b L h).gj u (f.neR (c b L h) zd)
 have i:=i.then (u.mono fun _ _ _=>trivial)
 have f:=f.read k u (s.vf 1).2
 refine kg rfl ⟨⟨rfl,by decide⟩,trivial⟩ (l':=u9.cells ⟨(s.str 1).1,false,[]⟩) (by rw[chgZ_c];rfl) ?_
 have M:=f
 refine gw rfl fun T w2 F d x=> ?_
 have y:=aA i.size F
 have c:=fun b L h=>(c b L h).ga x
 have f:=f.ga x
 have i:=i.gb x
 have z:=M.sep F
 have g:=d
 refine wl (j4 (l':=u9.cells ⟨(s.str 1).1,false,[]⟩) gc d rfl rfl rfl rfl OneC.h fun w3 d A Z=> ?_)
 have c:=fun b L h=>(c b L h).gj A ((c b L h).ne g zd)
 have f:=f.gj z g zd A
 have i:=i.gi A y
 refine qq (ki rfl (gu rfl (f.bs.cell rfl) (gh call109 rfl (f.rd.u8 f.len) fun v4 w4 N=> ?_)))
 obtain⟨rfl,k,p⟩:=N
 have d:=d.gj p (f.neR d zd)
 have c:=fun b L h=>(c b L h).gj p (f.neR (c b L h) zd)
 have i:=i.then (p.mono fun _ _ _=>trivial)
 have f:=f.read k p ((s.str 1).2.qc 1).2.1
 refine j0 gc rfl ?_
 have g:=d
 refine kl d rfl rfl rfl fun U d B a0=> ?_
 have c:=fun b L h=>(c b L h).gj B ((c b L h).ne g zd)
 have f:=f.gj z g zd B
 have i:=i.gi B y
 have d:gz U T 150 (u9.cells ⟨(s.str 1).1,(decide (0<num ((s.str 1).2.off 1).1)),[]⟩):=(by have e:decide ((num ((s.str 1).2.off 1).1:Int)>0)=(decide (0<num ((s.str 1).2.off 1).1)):=aH.2 zo;rw[←e];exact d)
 refine qq (ko (jm rfl f.bs.kj rfl (gh call164 rfl (text_rd U f.rd f.len) fun v6 w6 O=> ?_)))
 obtain⟨rfl,k,q⟩:=O
 have d:=d.gj q (f.neR d zd)
 have c:=fun b L h=>(c b L h).gj q (f.neR (c b L h) zd)
 have i:=i.then (q.mono fun _ _ _=>trivial)
 have f:=f.read k q (((s.str 1).2.off 1).2.vf 2).2
 refine j0 gc rfl ?_
 have g:=d
 have P:=Ds.chg_in J
 refine kl d rfl rfl rfl fun w7 d C a1=> ?_
 have c:=fun b L h=>(c b L h).gj C ((c b L h).ne g zd)
 have f:=f.gj z g zd C
 have i:=i.gi C y
 have d:gz w7 T 150 ((s.chg.1).cells):=d
 refine qq (yl rfl (gu rfl ((f.bo.kj.obj f.oin).rows) (je d rfl rfl ?_)))
 refine wl (qi gc rfl 3 rfl chgZ_c rfl zd zd ⟨⟨rfl,by decide⟩,trivial⟩ (l':=(s.chg.1).cells) rfl fun Q w8 V G D a2=> ?_)
 have c:=fun b L h=>(c b L h).ga D
 have f:=f.ga D
 have i:=i.gb D
 have R:=i
 refine wl (va gc rfl 3 40 rfl rfl rfl zd f.or (Src.slice (m:=1) ⟨rfl,.inr ⟨Q,0,rfl,G.kj⟩⟩ OneC.h) zm zn fun W X w9 H l I=> ?_)
 dsimp only at H l I⊢
 have i:=R.then (l.mono fun _ _ _=>trivial)
 have c:∀b L,gz w b 267 L→gz w9 b 267 L:=fun b L h=>(c b L h).ke f.or l (show(150:Nat)≠267 from by decide)
 have t:=f.bo.ke f.or l (show(150:Nat)≠37 from by decide)
 refine j0 gc rfl (wl (qz gc t rfl rfl (by rw[gp f.oin];decide) fun E j n Y=> ?_))
 have j:gz E b5 37 ((jn o a).set (68+1) (.slice W (o.rows.length+1) X)):=j
 rw[yc f.oin] at j
 have j:gz E b5 37 (jn {o with rows:=o.rows++[s.chg.1]} ⟨a.lp,a.lc,a.pp,a.pc,W,X⟩):=by
  simp only[jn,aB]
  exact j
 have S:=f.putChg (r:=s.chg.1) l H I n j P (by have:=s.vf 1;show(s.str 1).1.length<_;omega) hl
 have c:∀b L,gz w b 267 L→gz E b 267 L:=fun b L h=>(c b L h).gj n ((c b L h).ne t zd)
 have i:=i.then (n.mono fun _ _ _=>trivial)
 refine gk (z6 rfl ?_)
 exact⟨rfl,⟨_,S⟩,c,i⟩
theorem xz:A5 uo:=⟨by decide,by decide,by decide,fun _ h=>absurd h List.not_mem_nil,fun _ h=>absurd h List.not_mem_nil⟩
section
variable {l:List UInt8}
theorem dec0 (h:l=[]):vj l=(uo,7):=aR h
theorem dec1 {k:Nat} (h:l≠[]) (hk:k=num ((⟨l,false⟩:Ds).off 1).1) (h1:k=1):vj l=endB l ({uo with kind:=1,text:=(((⟨l,false⟩:Ds).off 1).2.str 2).1},(((⟨l,false⟩:Ds).off 1).2.str 2).2):=by
 rw[vj,aP h]
 exact aR (hk.symm.trans h1)
theorem dec2 {k:Nat} (h:l≠[]) (hk:k=num ((⟨l,false⟩:Ds).off 1).1) (h1:k=2):vj l=endB l ({uo with kind:=2,leaves:=(((⟨l,false⟩:Ds).off 1).2.row Ds.leaf).1},(((⟨l,false⟩:Ds).off 1).2.row Ds.leaf).2):=by
 rw[vj,aP h]
 exact(aP zo).trans (aR (hk.symm.trans h1))
theorem dec3 {k:Nat} (h:l≠[]) (hk:k=num ((⟨l,false⟩:Ds).off 1).1) (h1:k=3):vj l=endB l ((⟨l,false⟩:Ds).off 1).2.com:=by
 rw[vj,aP h]
 exact(aP zo).trans ((aP zo).trans (aR (hk.symm.trans h1)))
theorem dec4 {k:Nat} (h:l≠[]) (hk:k=num ((⟨l,false⟩:Ds).off 1).1) (h1:¬k=1) (h2:¬k=2) (h3:¬k=3):vj l=(uo,160):=by
 rw[vj,aP h]
 exact(aP zo).trans ((aP zo).trans (aP zo))
end
theorem Ds.off_lt {s:Ds} {n:Nat} (h:s.rest.length<1000000000):(s.off n).2.rest.length<1000000000:=bL (s.qc n).2.1 h
theorem decode_calls (w:World) {p:Option Addr} {c:Nat} {l:List UInt8} (h:ux w p l) (hl:l.length<1000000000):
  gn prog 107 [.slice p l.length c] w fun v w'=>∃a,v= .tuple #[.agg (jn (vj l).1 a).toArray,.int .i64 (vj l).2]∧qw w w' (vj l).1 a∧Ext No w w':=by
 refine gx func107 ?_
 have hX:=Ext.refl No w
 refine ko (gw rfl fun b2 w1 hn2 hb2 hE1=> ?_)
 have fr2:=aA hX.size hn2
 have hX:=hX.gb hE1
 have hb2o:=hb2
 have hX1:=hX
 refine km rfl (ki rfl (gh call101 rfl (zx5 w1 (h.ga hX) hl) fun v2 w2 hr2=> ?_))
 obtain⟨rb,rfl,hrn,hR,hE2⟩:=hr2
 have hb2:=hb2.ga hE2
 have hX:=hX.gb hE2
 have hR:Cv w2 rb ⟨l,false⟩:=hR
 refine kg rfl ⟨⟨rfl,by decide⟩,trivial⟩ (l':=[.pointer (some ⟨rb,0,none⟩)]) rfl (gw rfl fun b4 w3 hn4 hb4 hE3=> ?_)
 have ne2_4:=j2 hb2.lt hn4
 have fr4:=aA hX.size hn4
 have hb2:=hb2.ga hE3
 have hR:=Cv.ga hR hE3
 have hX:=hX.gb hE3
 have hn4o:=hn4
 have hb4o:=hb4
 refine wl (j4 (l':=[.pointer (some ⟨rb,0,none⟩)]) gc hb4 rfl rfl rfl rfl OneC.h fun w4 hb4 hE4 hs4=> ?_)
 have hb2:=hb2.gj hE4 ne2_4
 have hR:=Cv.gj hR hE4 hb4o zd zd
 have hX:=hX.gi hE4 fr4
 refine qq (ki rfl (j6 hb4 rfl rfl (gh call109 rfl (hR.u8 hl) fun v5 w5 hr5=> ?_)))
 obtain⟨rfl,hR2,hE5⟩:=hr5
 have hb2:=hb2.gj hE5 (hR.ne hb2 zd).symm
 have hb4:=hb4.gj hE5 (hR.ne hb4 zd).symm
 have hX:=hX.trans hE5 fun y hy hF=>by have hF:y=rb:=hF;have:=hX1.size;omega
 have hR:=hR2
 have hnm:=(⟨l,false⟩:Ds).ub 1
 refine j0 gc rfl ?_
 rw[jz _ zo]
 obtain⟨k,hk⟩:∃k,k=num ((⟨l,false⟩:Ds).off 1).1:=⟨_,rfl⟩
 rw[←hk]
 refine kg rfl ⟨⟨rfl,by decide⟩,trivial⟩ (l':=jn {uo with kind:=(k:Int)} Dh) (by rw[←zv8];rfl) (gw rfl fun b5 w6 hn5 hb5 hE6=> ?_)
 have ne2_5:=j2 hb2.lt hn5
 have ne4_5:=j2 hb4.lt hn5
 have fr5:=aA hX.size hn5
 have hb2:=hb2.ga hE6
 have hb4:=hb4.ga hE6
 have hR:=Cv.ga hR hE6
 have hX:=hX.gb hE6
 have hb5o:=hb5
 refine wl (j4 (l':=jn {uo with kind:=(k:Int)} Dh) gc hb5 rfl rfl rfl rfl OneC.h fun w7 hb5 hE7 hs7=> ?_)
 have hb2:=hb2.gj hE7 ne2_5
 have hb4:=hb4.gj hE7 ne4_5
 have hR:=Cv.gj hR hE7 hb5o zd zd
 have hX:=hX.gi hE7 fr5
 have hX1s:=hX1.size
 have z2:=hE2.size
 have z3:=hE3.size
 have z4:=hE4.size
 have z5:=hE5.size
 have hXX:Ext No w1 w7:=((((((hE2.gb hE3).gi hE4 zo).trans hE5 fun y hy hF=>by have hF:y=rb:=hF;omega).gb hE6).gi hE7 zo))
 have hD:zy w1 w7 rb b4 b5 {uo with kind:=(k:Int)} Dh ((⟨l,false⟩:Ds).off 1).2:=⟨hR,hb4,hb5,Own.nil _ _ _,Own.nil _ _ _,Own.nil _ _ _,zw3,zw3,zw3,hrn,by omega,hXX,Ds.off_lt hl,⟨qf.tree,qf.base,qf.parents,qf.leaves,qf.rows,qf.number,qf.author⟩,⟨xz.leaves,xz.parents,xz.rows,xz.leafP,xz.rowP⟩⟩
 refine qq (gl (jd rfl (jl rfl (fun hc=> ?_) (fun hc=> ?_))))
 ·have hl0:l=[]:=aZ zo
  refine ko (kg rfl trivial (l':=jn uo Dh) zv8.symm (wl (j4 (l':=jn uo Dh) gc hb2 rfl rfl rfl rfl OneC.h fun w8 hb2 hE8 hs8=> ?_)))
  have hX:=hX.gi hE8 fr2
  refine vr rfl (j7 (qe [_,_] ⟨⟨b2,0,rfl,qg gc rfl rfl hb2.kj rfl⟩,rfl,trivial⟩ ?_))
  exact⟨Dh,by rw[dec0 hl0];rfl,by rw[dec0 hl0];exact qw.nil _ _ _ rfl rfl rfl,hX⟩
 have hne:l≠[]:=fun e=>hc (by rw[e];rfl)
 refine x3 (ji (α:=jq×vb×Ds) [0,2,4,5] rfl (fun z=>[]) (fun z u=>(zy w1 u rb b4 b5 z.1 z.2.1 z.2.2∧vj l=endB l (z.1,z.2.2))∧gz u b2 37 (cellsOf ti37.zero)∧Ext No w u) ?_ ?_)
 ·refine gl ?_
  refine yl rfl (gu rfl ((hD.bo.kj.obj hD.oin).kind) ?_)
  dsimp only
  refine qq (j8 (jd rfl (jl rfl (fun hc=> ?_) (fun hc=> ?_))))
  ·obtain rfl:k=1:=by omega
   refine gy (jm rfl hD.bs.kj rfl (gh call164 rfl (text_rd w7 hD.rd hD.len) fun v9 w9 hr9=> ?_))
   obtain⟨rfl,hR2,hE9⟩:=hr9
   have hD:=hD.read hR2 hE9 (Ds.vf _ 2).2
   have hb2:=hb2o.ga hD.X
   have hX:=hX1.gb hD.X
   refine j0 gc rfl (kl hD.bo rfl rfl rfl fun w10 hbo hE10 hs10=> ?_)
   have hD:=hD.put hE10 (o':={uo with kind:=((1:Nat):Int),text:=(((⟨l,false⟩:Ds).off 1).2.str 2).1}) hbo rfl rfl rfl ⟨hD.oin.tree,hD.oin.base,hD.oin.parents,hD.oin.leaves,hD.oin.rows,hD.oin.number,hD.oin.author⟩ ⟨hD.sh.leaves,hD.sh.parents,hD.sh.rows,hD.sh.leafP,hD.sh.rowP⟩
   have hb2:=hb2o.ga hD.X
   have hX:=hX1.gb hD.X
   refine gk ?_
   exact js (gr (_,_,_) rfl ⟨⟨hD,dec1 hne hk rfl⟩,hb2,hX⟩)
  have h1:¬k=1:=by omega
  refine jd rfl (jl rfl (fun hc=> ?_) (fun hc=> ?_))
  ·obtain rfl:k=2:=by omega
   refine gy (jm rfl hD.bs.kj rfl (wl (st_mf rfl ?_)))
   refine gh call165 rfl (each_rd Ds.leaf w7 call166 (fun acc s u=>∃a,zy w1 u rb b4 b5 {uo with kind:=((2:Nat):Int),leaves:=acc} a s) hD.len (fun acc s u ⟨a,h⟩=>h.rd) (fun acc s u u' ⟨a,h⟩ hE=>⟨a,h.ga hE⟩) (fun acc s s' u u' ⟨a,h⟩ hR hl hE=>⟨a,h.read hR hE hl⟩) (fun acc s u ⟨a,h⟩ _ hl=>dec1_calls u h hl) ⟨_,hD⟩) fun v11 w11 hr11=> ?_
   obtain⟨rfl,⟨aa,hD⟩,hk1,hE11⟩:=hr11
   have hb2:=hb2o.ga hD.X
   have hX:=hX1.gb hD.X
   refine gk ?_
   exact js (gr (_,_,_) rfl ⟨⟨hD,dec2 hne hk rfl⟩,hb2,hX⟩)
  have h2:¬k=2:=by omega
  refine jd rfl (jl rfl (fun hc=> ?_) (fun hc=> ?_))
  ·obtain rfl:k=3:=by omega
   generalize hs1:((⟨l,false⟩:Ds).off 1).2=s1 at hD
   refine ki rfl (gu rfl (hD.bs.cell rfl) (gh call109 rfl (hD.rd.u8 hD.len) fun v12 w12 hr12=> ?_))
   obtain⟨rfl,hR2,hE12⟩:=hr12
   have hD:=hD.read hR2 hE12 (Ds.qc _ 1).2.1
   have hb2:=hb2o.ga hD.X
   have hX:=hX1.gb hD.X
   have hn1:=s1.ub 1
   refine j0 gc rfl ?_
   rw[jz _ zo]
   refine j0 gc rfl (kl hD.bo rfl rfl rfl fun w13 hbo hE13 hs13=> ?_)
   have hD:=hD.put hE13 (o':={uo with kind:=((3:Nat):Int),style:=(num (s1.off 1).1:Nat)}) hbo rfl rfl rfl ⟨hD.oin.tree,hD.oin.base,hD.oin.parents,hD.oin.leaves,hD.oin.rows,hD.oin.number,hD.oin.author⟩ ⟨hD.sh.leaves,hD.sh.parents,hD.sh.rows,hD.sh.leafP,hD.sh.rowP⟩
   have hb2:=hb2o.ga hD.X
   have hX:=hX1.gb hD.X
   refine qq (ko (jm rfl hD.bs.kj rfl (gh call168 rfl (id_rd w13 hD.rd hD.len) fun v14 w14 hr14=> ?_)))
   obtain⟨rfl,hR2,hE14⟩:=hr14
   have hD:=hD.read hR2 hE14 (Ds.un _).2
   have hb2:=hb2o.ga hD.X
   have hX:=hX1.gb hD.X
   refine j0 gc rfl (wl (D3 gc hD.bo rfl (by rw[jh,gm,(Ds.un _).1]) (by rw[gp hD.oin];decide) (by rw[jh];exact OneC.h) fun w15 hbo hE15 hs15=> ?_))
   rw[jh] at hbo
   have hbo:=(show _=_ from objC_tree hD.oin (Ds.un _).1)▸hbo
   have hD:=hD.put hE15 (o':={uo with kind:=((3:Nat):Int),style:=(num (s1.off 1).1:Nat),tree:=(s1.off 1).2.id.1}) hbo rfl rfl rfl ⟨(Ds.un _).1,hD.oin.base,hD.oin.parents,hD.oin.leaves,hD.oin.rows,hD.oin.number,hD.oin.author⟩ ⟨hD.sh.leaves,hD.sh.parents,hD.sh.rows,hD.sh.leafP,hD.sh.rowP⟩
   have hb2:=hb2o.ga hD.X
   have hX:=hX1.gb hD.X
   refine qq (ko (jm rfl hD.bs.kj rfl (wl (st_mf rfl ?_))))
   refine gh call165 rfl (each_rd Ds.id w15 call169 (fun acc s u=>∃a,zy w1 u rb b4 b5 {uo with kind:=((3:Nat):Int),style:=(num (s1.off 1).1:Nat),tree:=(s1.off 1).2.id.1,parents:=acc} a s) hD.len (fun acc s u ⟨a,h⟩=>h.rd) (fun acc s u u' ⟨a,h⟩ hE=>⟨a,h.ga hE⟩) (fun acc s s' u u' ⟨a,h⟩ hR hl hE=>⟨a,h.read hR hE hl⟩) (fun acc s u ⟨a,h⟩ _ hl=>dec2_calls u h hl) ⟨_,hD⟩) fun v16 w16 hr16=> ?_
   obtain⟨rfl,⟨aa,hD⟩,hk1,hE16⟩:=hr16
   have hb2:=hb2o.ga hD.X
   have hX:=hX1.gb hD.X
   refine qq (ko (jm rfl hD.bs.kj rfl (gh call168 rfl (id_rd w16 hD.rd hD.len) fun v17 w17 hr17=> ?_)))
   obtain⟨rfl,hR2,hE17⟩:=hr17
   have hD:=hD.read hR2 hE17 (Ds.un _).2
   have hb2:=hb2o.ga hD.X
   have hX:=hX1.gb hD.X
   refine j0 gc rfl (wl (D3 gc hD.bo rfl (by rw[jh,gm,(Ds.un _).1]) (by rw[gp hD.oin];decide) (by rw[jh];exact OneC.h) fun w18 hbo hE18 hs18=> ?_))
   rw[jh] at hbo
   have hbo:=(show _=_ from objC_base hD.oin (Ds.un _).1)▸hbo
   have hD:=hD.put hE18 (o':={uo with kind:=((3:Nat):Int),style:=(num (s1.off 1).1:Nat),tree:=(s1.off 1).2.id.1,parents:=((s1.off 1).2.id.2.row Ds.id).1,base:=((s1.off 1).2.id.2.row Ds.id).2.id.1}) hbo rfl rfl rfl ⟨hD.oin.tree,(Ds.un _).1,hD.oin.parents,hD.oin.leaves,hD.oin.rows,hD.oin.number,hD.oin.author⟩ ⟨hD.sh.leaves,hD.sh.parents,hD.sh.rows,hD.sh.leafP,hD.sh.rowP⟩
   have hb2:=hb2o.ga hD.X
   have hX:=hX1.gb hD.X
   refine qq (ko (jm rfl hD.bs.kj rfl (wl (st_mf rfl ?_))))
   refine gh call165 rfl (each_rd Ds.chg w18 call170 (fun acc s u=>∃a,zy w1 u rb b4 b5 {uo with kind:=((3:Nat):Int),style:=(num (s1.off 1).1:Nat),tree:=(s1.off 1).2.id.1,parents:=((s1.off 1).2.id.2.row Ds.id).1,base:=((s1.off 1).2.id.2.row Ds.id).2.id.1,rows:=acc} a s) hD.len (fun acc s u ⟨a,h⟩=>h.rd) (fun acc s u u' ⟨a,h⟩ hE=>⟨a,h.ga hE⟩) (fun acc s s' u u' ⟨a,h⟩ hR hl hE=>⟨a,h.read hR hE hl⟩) (fun acc s u ⟨a,h⟩ _ hl=>dec3_calls u h hl) ⟨_,hD⟩) fun v19 w19 hr19=> ?_
   obtain⟨rfl,⟨aa,hD⟩,hk1,hE19⟩:=hr19
   have hb2:=hb2o.ga hD.X
   have hX:=hX1.gb hD.X
   refine qq (ki rfl (gu rfl (hD.bs.cell rfl) (gh call171 rfl (hD.rd.u32 hD.len) fun v20 w20 hr20=> ?_)))
   obtain⟨rfl,hR2,hE20⟩:=hr20
   have hD:=hD.read hR2 hE20 (Ds.qc _ 4).2.1
   have hb2:=hb2o.ga hD.X
   have hX:=hX1.gb hD.X
   refine j0 gc rfl (wl (qz gc hD.bo rfl rfl (by rw[gp hD.oin];decide) fun w21 hbo hE21 hs21=> ?_))
   have hbo:=(show _=_ from yc hD.oin 2 _)▸(show gz w21 b5 37 ((jn _ aa).set (68+2) _) from hbo)
   have hD:=hD.put hE21 (o':={uo with kind:=((3:Nat):Int),style:=(num (s1.off 1).1:Nat),tree:=(s1.off 1).2.id.1,parents:=((s1.off 1).2.id.2.row Ds.id).1,base:=((s1.off 1).2.id.2.row Ds.id).2.id.1,rows:=(((s1.off 1).2.id.2.row Ds.id).2.id.2.row Ds.chg).1,number:=num ((((s1.off 1).2.id.2.row Ds.id).2.id.2.row Ds.chg).2.off 4).1}) hbo rfl rfl rfl ⟨hD.oin.tree,hD.oin.base,hD.oin.parents,hD.oin.leaves,hD.oin.rows,(Ds.ub _ 4),hD.oin.author⟩ ⟨hD.sh.leaves,hD.sh.parents,hD.sh.rows,hD.sh.leafP,hD.sh.rowP⟩
   have hb2:=hb2o.ga hD.X
   have hX:=hX1.gb hD.X
   refine qq (ki rfl (gu rfl (hD.bs.cell rfl) (gh call171 rfl (hD.rd.u32 hD.len) fun v22 w22 hr22=> ?_)))
   obtain⟨rfl,hR2,hE22⟩:=hr22
   have hD:=hD.read hR2 hE22 (Ds.qc _ 4).2.1
   have hb2:=hb2o.ga hD.X
   have hX:=hX1.gb hD.X
   refine j0 gc rfl (wl (qz gc hD.bo rfl rfl (by rw[gp hD.oin];decide) fun w23 hbo hE23 hs23=> ?_))
   have hbo:=(show _=_ from yc hD.oin 3 _)▸(show gz w23 b5 37 ((jn _ aa).set (68+3) _) from hbo)
   have hD:=hD.put hE23 (o':={uo with kind:=((3:Nat):Int),style:=(num (s1.off 1).1:Nat),tree:=(s1.off 1).2.id.1,parents:=((s1.off 1).2.id.2.row Ds.id).1,base:=((s1.off 1).2.id.2.row Ds.id).2.id.1,rows:=(((s1.off 1).2.id.2.row Ds.id).2.id.2.row Ds.chg).1,number:=num ((((s1.off 1).2.id.2.row Ds.id).2.id.2.row Ds.chg).2.off 4).1,author:=num (((((s1.off 1).2.id.2.row Ds.id).2.id.2.row Ds.chg).2.off 4).2.off 4).1}) hbo rfl rfl rfl ⟨hD.oin.tree,hD.oin.base,hD.oin.parents,hD.oin.leaves,hD.oin.rows,hD.oin.number,(Ds.ub _ 4)⟩ ⟨hD.sh.leaves,hD.sh.parents,hD.sh.rows,hD.sh.leafP,hD.sh.rowP⟩
   have hb2:=hb2o.ga hD.X
   have hX:=hX1.gb hD.X
   refine qq (gy (jm rfl hD.bs.kj rfl (gh call167 rfl (small_rd w23 hD.rd hD.len) fun v24 w24 hr24=> ?_)))
   obtain⟨rfl,hR2,hE24⟩:=hr24
   have hD:=hD.read hR2 hE24 (Ds.vf _ 1).2
   have hb2:=hb2o.ga hD.X
   have hX:=hX1.gb hD.X
   refine j0 gc rfl (wl (qz gc hD.bo rfl rfl (by rw[gp hD.oin];decide) fun w25 hbo hE25 hs25=> ?_))
   have hbo:=(show _=_ from yc hD.oin 4 _)▸(show gz w25 b5 37 ((jn _ aa).set (68+4) _) from hbo)
   have hD:=hD.put hE25 (o':={uo with kind:=((3:Nat):Int),style:=(num (s1.off 1).1:Nat),tree:=(s1.off 1).2.id.1,parents:=((s1.off 1).2.id.2.row Ds.id).1,base:=((s1.off 1).2.id.2.row Ds.id).2.id.1,rows:=(((s1.off 1).2.id.2.row Ds.id).2.id.2.row Ds.chg).1,number:=num ((((s1.off 1).2.id.2.row Ds.id).2.id.2.row Ds.chg).2.off 4).1,author:=num (((((s1.off 1).2.id.2.row Ds.id).2.id.2.row Ds.chg).2.off 4).2.off 4).1,note:=((((((s1.off 1).2.id.2.row Ds.id).2.id.2.row Ds.chg).2.off 4).2.off 4).2.str 1).1}) hbo rfl rfl rfl ⟨hD.oin.tree,hD.oin.base,hD.oin.parents,hD.oin.leaves,hD.oin.rows,hD.oin.number,hD.oin.author⟩ ⟨hD.sh.leaves,hD.sh.parents,hD.sh.rows,hD.sh.leafP,hD.sh.rowP⟩
   have hb2:=hb2o.ga hD.X
   have hX:=hX1.gb hD.X
   refine gk ?_
   exact js (gr (_,_,_) rfl ⟨⟨hD,(dec3 hne hk rfl).trans (by rw[hs1];rfl)⟩,hb2,hX⟩)
  have h3:¬k=3:=by omega
  refine ko (kg rfl trivial (l':=jn uo Dh) zv8.symm (wl (j4 (l':=jn uo Dh) gc hb2 rfl rfl rfl rfl OneC.h fun w26 hb2 hE26 hs26=> ?_)))
  have hX:=hX.gi hE26 fr2
  refine vr rfl (u1 (j7 (qe [_,_] ⟨⟨b2,0,rfl,qg gc rfl rfl hb2.kj rfl⟩,rfl,trivial⟩ ?_)))
  exact⟨Dh,by rw[dec4 hne hk h1 h2 h3];rfl,by rw[dec4 hne hk h1 h2 h3];exact qw.nil _ _ _ rfl rfl rfl,hX⟩
 rintro⟨o,aa,s⟩ w27 ⟨⟨hD,hdec⟩,hb2,hX⟩
 try dsimp only
 dsimp only at hD hdec
 refine gl (ki rfl (gu rfl (hD.bs.cell rfl) (gh call111 rfl (hD.rd.err) fun v28 w28 hr28=> ?_)))
 obtain⟨rfl,rfl⟩:=hr28
 refine km rfl (jl rfl (fun hc=> ?_) (fun hc=> ?_))
 ·have hd2:vj l=(uo,7):=by
   rw[hdec,endB]
   exact aR (by cases hb:s.bad;exact absurd (by rw[Ds.err,hb];rfl) hc;rfl)
  refine ko (kg rfl trivial (l':=jn uo Dh) zv8.symm (wl (j4 (l':=jn uo Dh) gc hb2 rfl rfl rfl rfl OneC.h fun w29 hb2 hE29 hs29=> ?_)))
  have hX:=hX.gi hE29 fr2
  refine vr rfl (j7 (qe [_,_] ⟨⟨b2,0,rfl,qg gc rfl rfl hb2.kj rfl⟩,rfl,trivial⟩ ?_))
  exact⟨Dh,by rw[hd2];rfl,by rw[hd2];exact qw.nil _ _ _ rfl rfl rfl,hX⟩
 have hbd:s.bad=false:=by
  cases hb:s.bad
  ·rfl
  exact absurd (fun e=>by rw[Ds.err,hb] at e;exact absurd e zd) hc
 have hd1:vj l=if x9 o∧laidB o=l then(o,0) else(uo,160):=by
  rw[hdec,endB]
  exact aP (by rw[hbd];decide)
 refine x3 (ko (jm rfl hD.bo.kj (gp hD.oin) (gh call92 rfl (yx0 w28 hD.oin hD.new.l hD.sh) fun v30 w30 hr30=> ?_)))
 obtain⟨q,k2,rfl,hq,hqn,hE30⟩:=hr30
 have hb2:=hb2.ga hE30
 have hD:=hD.ga hE30
 have hX:=hX.gb hE30
 refine km rfl (gl (ji (α:=Bool) [2,5] rfl (fun z=>[(80,.bool z)]) (fun z u=>(z=decide (¬(x9 o∧laidB o=l))∧zy w1 u rb b4 b5 o aa s)∧gz u b2 37 (cellsOf ti37.zero)∧Ext No w u) ?_ ?_))
 ·refine gy ?_
  refine j0 gc rfl (ja 75 rfl (fun hg=> ?_) (fun hg=> ?_))
  ·have hok:¬x9 o:=fun h=>hg (aR h)
   refine gq gc 5 rfl (gk ?_)
   exact gr (true) rfl ⟨⟨by symm;rw[aU];exact fun h=>hok h.1,hD⟩,hb2,hX⟩
  have hok:x9 o:=(yz7 zd).1 (aS.1 hg)
  refine gq gc 2 rfl (gh call172 rfl (bytesEqual_calls w30 hq.sl (h.ga hX)) fun v31 w31 hr31=> ?_)
  obtain⟨rfl,rfl⟩:=hr31
  refine gq gc 2 rfl (gk ?_)
  exact gr (_) rfl ⟨⟨by rw[encB,aR hok,←decide_not,aH];exact⟨fun h h2=>h h2.2,fun h h2=>h ⟨hok,h2⟩⟩,hD⟩,hb2,hX⟩
 rintro z w32 ⟨⟨rfl,hD⟩,hb2,hX⟩
 refine jl rfl (fun hc=> ?_) (fun hc=> ?_)
 ·have hd2:vj l=(uo,160):=by rw[hd1];exact aP hc
  refine ko (kg rfl trivial (l':=jn uo Dh) zv8.symm (wl (j4 (l':=jn uo Dh) gc hb2 rfl rfl rfl rfl OneC.h fun w33 hb2 hE33 hs33=> ?_)))
  have hX:=hX.gi hE33 fr2
  refine vr rfl (j7 (qe [_,_] ⟨⟨b2,0,rfl,qg gc rfl rfl hb2.kj rfl⟩,rfl,trivial⟩ ?_))
  exact⟨Dh,by rw[hd2];rfl,by rw[hd2];exact qw.nil _ _ _ rfl rfl rfl,hX⟩
 have hd2:vj l=(o,0):=by rw[hd1];exact aR (aS.1 hc)
 refine x3 (ko (jm rfl hD.bo.kj (gp hD.oin) ?_))
 have hN:=hD.new
 have hin:=hD.oin
 have hb2p:=hb2
 refine wl (j4 (l':=jn o aa) gc hb2 rfl rfl (gp hD.oin) (gp hD.oin) OneC.h fun w34 hb2 hE34 hs34=> ?_)
 have hX:=hX.gi hE34 fr2
 have hN:=hN.gj hE34 hb2p zd zd zd
 refine vr rfl (qe [_,_] ⟨⟨b2,0,rfl,qg gc rfl rfl hb2.kj (gp hin)⟩,rfl,trivial⟩ ?_)
 exact⟨aa,by rw[hd2];rfl,by rw[hd2];exact hN.older hX1.size,hX⟩
theorem nilS {t:Str}:ul t=ByteArray.mk #[]↔t=[]:=⟨fun h=>xt (b:=[]) h,fun h=>by rw[h];rfl⟩
theorem none6_calls (w:World) {x:jq} {a:vb} (hx:u4 x) (_hxl:B7 w x a) (_hsx:A5 x):
  gn prog 198 [.agg (jn x a).toArray] w fun v w'=>v= .bool (decide (NoCom x))∧Ext No w w':=by
 refine gx func198 ?_
 have c:=Ext.refl No w
 refine ko (gw rfl fun o p q e f=> ?_)
 have c:=c.gb f
 have e:gz p o 37 (jn x a):=e
 have d:=e.kj.obj hx
 refine km rfl (ji (α:=Bool) [] rfl (fun z=>[(2,.bool z)]) (fun z u=>(z=decide (NoCom x))∧Ext No w u) ?_ ?_)
 ·refine gy ?_
  refine j0 gc rfl (gu rfl d.style (j0 gc rfl (ja 6 rfl (fun b=> ?_) (fun b=> ?_))))
  ·have g:x.style=0:=by first|exact b|omega
   refine gq gc 1 rfl (jm rfl d.tree (uv.len hx.tree) (kg rfl trivial (l':=ge Ao) A6.symm ?_))
   refine wl (C0 rfl gId 10 zd kId (ue hx.tree) (ue yb) (vt hx.tree) (vt yb) ua ?_)
   simp only[cO]
   refine j0 gc rfl (ja 12 rfl (fun b=> ?_) (fun b=> ?_))
   ·have i:x.tree=Ao:=by first|exact b|omega
    refine gq gc 1 rfl (jm rfl d.base (uv.len hx.base) (kg rfl trivial (l':=ge Ao) A6.symm ?_))
    refine wl (C0 rfl gId 10 zd kId (ue hx.base) (ue yb) (vt hx.base) (vt yb) ua ?_)
    simp only[cO]
    refine j0 gc rfl (ja 18 rfl (fun b=> ?_) (fun b=> ?_))
    ·have j:x.base=Ao:=by first|exact b|omega
     refine gq gc 1 rfl (gu rfl d.parents (gq gc 4 rfl (ja 24 rfl (fun b=> ?_) (fun b=> ?_))))
     ·have k:x.parents.length=0:=by first|exact b|omega
      refine gq gc 2 rfl (gu rfl d.rows (gq gc 4 rfl (ja 31 rfl (fun b=> ?_) (fun b=> ?_))))
      ·have l:x.rows.length=0:=by first|exact b|omega
       refine gq gc 1 rfl (gu rfl d.number (gq gc 3 rfl (ja 36 rfl (fun b=> ?_) (fun b=> ?_))))
       ·have m:x.number=0:=by first|exact b|omega
        refine gq gc 1 rfl (gu rfl d.author (gq gc 3 rfl (ja 41 rfl (fun b=> ?_) (fun b=> ?_))))
        ·have n:x.author=0:=by first|exact b|omega
         refine gq gc 1 rfl (gu rfl d.note (gq gc 3 rfl (gk ?_)))
         exact gr (_) rfl ⟨by rw[aH,nilS];exact⟨fun h=>⟨g,i,j,k,l,m,n,h⟩,fun h=>h.2.2.2.2.2.2.2⟩,c⟩
        have n:¬x.author=0:=by first|exact b|omega
        refine gq gc 5 rfl (gk ?_)
        exact gr (false) rfl ⟨by symm;rw[aC];exact fun h=>n h.2.2.2.2.2.2.1,c⟩
       have m:¬x.number=0:=by first|exact b|omega
       refine gq gc 10 rfl (gk ?_)
       exact gr (false) rfl ⟨by symm;rw[aC];exact fun h=>m h.2.2.2.2.2.1,c⟩
      have l:¬x.rows.length=0:=by first|exact b|omega
      refine gq gc 15 rfl (gk ?_)
      exact gr (false) rfl ⟨by symm;rw[aC];exact fun h=>l h.2.2.2.2.1,c⟩
     have k:¬x.parents.length=0:=by first|exact b|omega
     refine gq gc 22 rfl (gk ?_)
     exact gr (false) rfl ⟨by symm;rw[aC];exact fun h=>k h.2.2.2.1,c⟩
    have j:¬x.base=Ao:=by first|exact b|omega
    refine gq gc 28 rfl (gk ?_)
    exact gr (false) rfl ⟨by symm;rw[aC];exact fun h=>j h.2.2.1,c⟩
   have i:¬x.tree=Ao:=by first|exact b|omega
   refine gq gc 34 rfl (gk ?_)
   exact gr (false) rfl ⟨by symm;rw[aC];exact fun h=>i h.2.1,c⟩
  have g:¬x.style=0:=by first|exact b|omega
  refine gq gc 40 rfl (gk ?_)
  exact gr (false) rfl ⟨by symm;rw[aC];exact fun h=>g h.1,c⟩
 rintro z r ⟨rfl,c⟩
 refine j9 (gv rfl rfl ?_)
 exact⟨rfl,c⟩
theorem style_no {o:jq} (h:Ao∈o.parents):¬Bz o:=fun hs=>hs.1 h
theorem style1 {o:jq} (h:Ao∉o.parents) (hs:o.style=1):Bz o↔o.parents.length=0∧o.base=Ao∧o.rows.length=0∧o.number=0:=by
 constructor
 ·rintro⟨_,a|a|a⟩
  ·exact a.2
  ·exact absurd (hs.symm.trans a.1) zd
  exact absurd (hs.symm.trans a.1) zd
 exact fun a=>⟨h,.inl ⟨hs,a⟩⟩
theorem style2 {o:jq} (h:Ao∉o.parents) (hs:o.style=2):Bz o↔o.parents.length=1∧o.base=Ao∧0<o.number:=by
 constructor
 ·rintro⟨_,a|a|a⟩
  ·exact absurd (hs.symm.trans a.1) zd
  ·exact a.2
  exact absurd (hs.symm.trans a.1) zd
 exact fun a=>⟨h,.inr (.inl ⟨hs,a⟩)⟩
theorem style3 {o:jq} (h:Ao∉o.parents) (hs:o.style=3):Bz o↔o.parents.length=2∧o.parents.getD 0 []≠o.parents.getD 1 []∧0<o.number:=by
 constructor
 ·rintro⟨_,a|a|a⟩
  ·exact absurd (hs.symm.trans a.1) zd
  ·exact absurd (hs.symm.trans a.1) zd
  exact a.2
 exact fun a=>⟨h,.inr (.inr ⟨hs,a⟩)⟩
theorem style0 {o:jq} (h1:¬o.style=1) (h2:¬o.style=2) (h3:¬o.style=3):¬Bz o:=fun h=>h.2.elim (fun h=>h1 h.1) fun h=>h.elim (fun h=>h2 h.1) fun h=>h3 h.1
theorem style6_calls (w:World) {x:jq} {a:vb} (hx:u4 x) (hxl:B7 w x a) (hsx:A5 x):
  gn prog 201 [.agg (jn x a).toArray] w fun v w'=>v= .bool (decide (Bz x))∧Ext No w w':=by
 refine gx func201 ?_
 have hX:=Ext.refl No w
 refine ko (gw rfl fun b1 w1 hn1 hb1 hE1=> ?_)
 have hX:=hX.gb hE1
 have hb1:gz w1 b1 37 (jn x a):=hb1
 have oa:=hb1.kj.obj hx
 refine km rfl (gl (ki rfl (gu rfl oa.parents (km rfl (j8 ?_)))))
 refine jj (α:=Nat) [1,6,7] rfl (fun z=>[(8,.int .i64 (z:Int))]) (fun z u=>(z≤x.parents.length∧∀k (hk:k<x.parents.length),k<z→¬x.parents[k]=Ao)∧gz u b1 37 (jn x a)∧Ext No w u) (fun z u=>x.parents.length-z) (0) rfl ⟨⟨aJ _,fun k _ h=>absurd h (bW _)⟩,hb1,hX⟩ ?_
 rintro i w2 ⟨⟨hi,hno⟩,hb1,hX⟩
 have oa:=hb1.kj.obj hx
 refine jd rfl (gl (jl rfl (fun hc=> ?_) (fun hc=> ?_)))
 ·have hi:i<x.parents.length:=by omega
  obtain⟨qb,qoff,hp,hsq⟩:=hxl.parents.qd (fun r hr=>uv.len (hx.parents r hr)) zo
  rw[hp]
  have hpl:=hsx.parents
  have ha1:uv x.parents[i]:=hx.parents _ (aG hi)
  refine Ac (ko (ka rfl 32 rfl i rfl zo (qoff+i*32) rfl (jm rfl ((hsq i hi).ga hX) ha1.len (gw rfl fun b4 w3 hn4 hb4 hE3=> ?_))))
  have ne1_4:=j2 hb1.lt hn4
  have fr4:=aA hX.size hn4
  have hb1:=hb1.ga hE3
  have hX:=hX.gb hE3
  refine wl (j4 (l':=ge x.parents[i]) gc hb4 rfl rfl ha1.len ha1.len OneC.h fun w4 hb4 hE4 hs4=> ?_)
  have hb1:=hb1.gj hE4 ne1_4
  have oa:=(hb1.kj.obj hx)
  have hX:=hX.gi hE4 fr4
  refine qq (ko (je hb4 rfl ha1.len (kg rfl trivial (l':=ge Ao) A6.symm (wl (C0 rfl gId 10 zd kId (ue ha1) (ue yb) (vt ha1) (vt yb) ua ?_)))))
  simp only[cO]
  refine qq (jl rfl (fun hc=> ?_) (fun hc=> ?_))
  ·have hz:Ao∈x.parents:=hc▸aG hi
   refine jd rfl (j9 (gGl (gv rfl rfl ?_)))
   exact⟨congrArg Value.bool (bO (style_no hz)).symm,hX⟩
  refine kc ?_
  refine Aa rfl ?_
  rw[jz _ zo]
  refine gk ?_
  exact jk (i+1) rfl ⟨⟨by omega,zj0 (p:=fun y=>¬y=Ao) hno hi hc⟩,hb1,hX⟩ zf
 have h0:Ao∉x.parents:=fun hr=>by
  obtain⟨k,hk,e⟩:=bJ.1 hr
  exact hno k hk zo e
 refine Ak (gl (ki rfl (gu rfl oa.style (qq (j8 (jd rfl ?_))))))
 refine jl rfl (fun hc=> ?_) (fun hc=> ?_)
 ·have h1:x.style=1:=hc
  refine ji (α:=Bool) [] rfl (fun z=>[(2,.bool z)]) (fun z u=>(z=decide (Bz x))∧Ext No w u) ?_ ?_
  ·refine gy ?_
   refine j0 gc rfl (gu rfl oa.parents (j0 gc rfl (ja 24 rfl (fun hg=> ?_) (fun hg=> ?_))))
   ·refine gq gc 1 rfl ?_
    refine jm rfl oa.base (uv.len hx.base) (kg rfl trivial (l':=ge Ao) A6.symm (wl (C0 rfl gId 10 zd kId (ue hx.base) (ue yb) (vt hx.base) (vt yb) ua ?_)))
    simp only[cO]
    refine j0 gc rfl (ja 30 rfl (fun hg=> ?_) (fun hg=> ?_))
    ·have hb:=hg
     refine gq gc 2 rfl (gu rfl oa.rows (gq gc 4 rfl (ja 37 rfl (fun hg=> ?_) (fun hg=> ?_))))
     ·refine gq gc 1 rfl ?_
      refine gu rfl oa.number (gq gc 3 rfl (gk ?_))
      exact gr (_) rfl ⟨by rw[aH,style1 h0 h1];exact⟨fun h=>⟨by omega,hb,by omega,by omega⟩,fun h=>by omega⟩,hX⟩
     refine gq gc 5 rfl ?_
     refine gk ?_
     exact gr (false) rfl ⟨by symm;rw[aC,style1 h0 h1];intro h;omega,hX⟩
    have hb:=hg
    refine gq gc 12 rfl (gk ?_)
    exact gr (false) rfl ⟨by symm;rw[aC,style1 h0 h1];intro h;exact hb h.2.1,hX⟩
   refine gq gc 18 rfl ?_
   refine gk ?_
   exact gr (false) rfl ⟨by symm;rw[aC,style1 h0 h1];intro h;omega,hX⟩
  rintro z w5 ⟨rfl,hX⟩
  refine j9 (u1 (j7 (gv rfl rfl ?_)))
  exact⟨rfl,hX⟩
 have h1:¬x.style=1:=hc
 refine jd rfl (jl rfl (fun hc=> ?_) (fun hc=> ?_))
 ·have h2:x.style=2:=hc
  refine ji (α:=Bool) [] rfl (fun z=>[(2,.bool z)]) (fun z u=>(z=decide (Bz x))∧Ext No w u) ?_ ?_
  ·refine gy ?_
   refine j0 gc rfl (gu rfl oa.parents (j0 gc rfl (ja 48 rfl (fun hg=> ?_) (fun hg=> ?_))))
   ·refine gq gc 1 rfl ?_
    refine jm rfl oa.base (uv.len hx.base) (kg rfl trivial (l':=ge Ao) A6.symm (wl (C0 rfl gId 10 zd kId (ue hx.base) (ue yb) (vt hx.base) (vt yb) ua ?_)))
    simp only[cO]
    refine j0 gc rfl (ja 54 rfl (fun hg=> ?_) (fun hg=> ?_))
    ·have hb:=hg
     refine gq gc 1 rfl (gu rfl oa.number (gq gc 3 rfl (gk ?_)))
     exact gr (_) rfl ⟨by rw[aH,style2 h0 h2];exact⟨fun h=>⟨by omega,hb,by omega⟩,fun h=>by omega⟩,hX⟩
    have hb:=hg
    refine gq gc 5 rfl (gk ?_)
    exact gr (false) rfl ⟨by symm;rw[aC,style2 h0 h2];intro h;exact hb h.2.1,hX⟩
   refine gq gc 11 rfl ?_
   refine gk ?_
   exact gr (false) rfl ⟨by symm;rw[aC,style2 h0 h2];intro h;omega,hX⟩
  rintro z w6 ⟨rfl,hX⟩
  refine j9 (u1 (j7 (gv rfl rfl ?_)))
  exact⟨rfl,hX⟩
 have h2:¬x.style=2:=hc
 refine jd rfl (jl rfl (fun hc=> ?_) (fun hc=> ?_))
 ·have h3:x.style=3:=hc
  refine ji (α:=Bool) [] rfl (fun z=>[(2,.bool z)]) (fun z u=>(z=decide (Bz x))∧Ext No w u) ?_ ?_
  ·refine jr rfl 21 [qP 0,qP 1,qP 2,qP 3,qP 4,qP 5,qP 6,qP 7,qP 8,qP 9,qP 10,qP 11,qP 12,qP 13,qP 14,qP 15,qP 16,qP 17,qP 18,qP 19,qP 20] [] (No) zk fun w7 hE7 hs7=> ?_
   have oad:=oa
   have hXd:=hX
   have hX:=hX.gb hE7
   refine gt gc 1 rfl (j3 gc rfl rfl (fun w' hw'=>(oad.ga hw').parents) ?_)
   refine gt gc 3 rfl (vy 65 rfl (fun hg=> ?_) (fun hg=> ?_))
   ·have hl2:x.parents.length=2:=by omega
    obtain⟨b,off,hp,hsa⟩:=hxl.parents.qd (fun r hr=>uv.len (hx.parents r hr)) zo
    have ha0:=hx.parents _ (aG (show 0<x.parents.length by omega))
    have ha1:=hx.parents _ (aG (show 1<x.parents.length by omega))
    refine gt gc 1 rfl (j3 gc rfl rfl (fun w' hw'=>(oad.ga hw').parents) ?_)
    rw[hp]
    refine qk gc rfl rfl 32 rfl 0 rfl zo (off+0*32) rfl (qa gc rfl rfl (fun w' hw'=>((hsa 0 zo).ga (hXd.gb hw'))) (uv.len ha0) ?_)
    refine gt gc 1 rfl (j3 gc rfl rfl (fun w' hw'=>(oad.ga hw').parents) ?_)
    rw[hp]
    refine qk gc rfl rfl 32 rfl 1 rfl zo (off+1*32) rfl (qa gc rfl rfl (fun w' hw'=>((hsa 1 zo).ga (hXd.gb hw'))) (uv.len ha1) ?_)
    refine zv4 rfl rfl gId 10 zd kId (ue ha0) (ue ha1) (vt ha0) (vt ha1) ua ?_
    simp only[bI,cX]
    refine gt gc 2 rfl (vy 76 rfl (fun hg=> ?_) (fun hg=> ?_))
    ·have hne:=hg
     refine gt gc 1 rfl (j3 gc rfl rfl (fun w' hw'=>(oad.ga hw').number) ?_)
     refine gt gc 3 rfl (jg (j5 ?_))
     exact gr (_) rfl ⟨by rw[aH,style3 h0 h3,getD_get zo,getD_get zo];exact⟨fun h=>⟨hl2,hne,by omega⟩,fun h=>by omega⟩,hX⟩
    have hne:=hg
    refine gt gc 5 rfl (jg (j5 ?_))
    exact gr (false) rfl ⟨by symm;rw[aC,style3 h0 h3,getD_get zo,getD_get zo];intro h;exact hne h.2.1,hX⟩
   refine gt gc 16 rfl ?_
   refine jg (j5 ?_)
   exact gr (false) rfl ⟨by symm;rw[aC,style3 h0 h3];intro h;omega,hX⟩
  rintro z w8 ⟨rfl,hX⟩
  refine j9 (u1 (j7 (gv rfl rfl ?_)))
  exact⟨rfl,hX⟩
 have h3:¬x.style=3:=hc
 refine kc (js (jp (jd rfl (j9 (gv rfl rfl ?_)))))
 exact⟨congrArg Value.bool (bO (style0 h1 h2 h3)).symm,hX⟩
def xq8 (l:List jf) (i:Nat) (hi:i<l.length):Prop:=xw l[i].path∧l[i].id≠Ao∧(0<i→SLt (ul (l[i-1]'zo).path) (ul l[i].path))
instance (l:List jf) (i:Nat) (hi:i<l.length):Decidable (xq8 l i hi):=inferInstanceAs (Decidable (_∧_))
theorem xv8 {l:List jf}:Leaved l↔l.length≤32∧∀i (hi:i<l.length),xq8 l i hi:=by
 constructor
 ·rintro⟨⟨a,b⟩,c⟩
  rw[aE] at a
  refine⟨a,fun i hi=> ?_⟩
  have:=b i (by rw[aE];exact hi)
  simp only[bR] at this
  exact⟨this.1,c _ (aG hi),this.2⟩
 rintro⟨a,b⟩
 refine⟨⟨by rw[aE];exact a,fun i hi=> ?_⟩,fun x d=> ?_⟩
 ·rw[aE] at hi
  have:=b i hi
  simp only[bR]
  exact⟨this.1,this.2.2⟩
 obtain⟨i,hi,rfl⟩:=bJ.1 d
 exact(b i hi).2.1
theorem fields6_calls (w:World) {x:jq} {a:vb} (hx:u4 x) (hxl:B7 w x a) (hsx:A5 x):
  gn prog 160 [.agg (jn x a).toArray] w fun v w'=>v= .bool (decide (xf x))∧Ext No w w':=by
 have hs:(ul x.text).size=x.text.length:=rfl
 have hsn:(ul x.note).size=x.note.length:=rfl
 have hll:=hsx.leaves
 refine gx func160 ?_
 have hX:=Ext.refl No w
 refine ko (gw rfl fun b1 w1 hn1 hb1 hE1=> ?_)
 have hX:=hX.gb hE1
 have hb1:gz w1 b1 37 (jn x a):=hb1
 have oa:=hb1.kj.obj hx
 refine km rfl (gl (ki rfl (gu rfl oa.kind (qq (j8 (jd rfl (jl rfl (fun hc=> ?_) (fun hc=> ?_))))))))
 ·have h1:x.kind=1:=hc
  refine ji (α:=Bool) [] rfl (fun z=>[(2,.bool z)]) (fun z u=>(z=decide (xf x))∧Ext No w u) ?_ ?_
  ·refine gy ?_
   refine j0 gc rfl (gu rfl oa.text (j0 gc rfl (ja 13 rfl (fun hg=> ?_) (fun hg=> ?_))))
   ·refine gq gc 1 rfl ?_
    refine gu rfl oa.leaves (gq gc 4 rfl (ja 19 rfl (fun hg=> ?_) (fun hg=> ?_)))
    ·refine je hb1 rfl (gp hx) ?_
     refine gh call198 rfl (none6_calls w1 hx (hxl.ga hX) hsx) fun v2 w2 hr2=> ?_
     obtain⟨rfl,hE2⟩:=hr2
     have hX:=hX.gb hE2
     refine j0 gc rfl (gk ?_)
     exact gr (_) rfl ⟨by rw[aH,yj2 h1];exact⟨fun h=>⟨by omega,by omega,h⟩,fun h=>h.2.2⟩,hX⟩
    refine gq gc 4 rfl ?_
    refine gk ?_
    exact gr (false) rfl ⟨by symm;rw[aC,yj2 h1];intro h;exact absurd h.2.1 zo,hX⟩
   refine gq gc 10 rfl ?_
   refine gk ?_
   exact gr (false) rfl ⟨by symm;rw[aC,yj2 h1];intro h;exact absurd h.1 zo,hX⟩
  rintro z w3 ⟨rfl,hX⟩
  refine j9 (u1 (j7 (gv rfl rfl ?_)))
  exact⟨rfl,hX⟩
 have h1:¬x.kind=1:=hc
 refine jd rfl (jl rfl (fun hc=> ?_) (fun hc=> ?_))
 ·have h2:x.kind=2:=hc
  refine gl (ki rfl (gu rfl oa.leaves (km rfl (j8 ?_))))
  refine jj (α:=Nat) [1,26,27] rfl (fun z=>[(28,.int .i64 (z:Int))]) (fun z u=>(z≤x.leaves.length∧∀k (hk:k<x.leaves.length),k<z→xq8 x.leaves k hk)∧gz u b1 37 (jn x a)∧Ext No w u) (fun z u=>x.leaves.length-z) (0) rfl ⟨⟨aJ _,fun k _ h=>absurd h (bW _)⟩,hb1,hX⟩ ?_
  rintro i w4 ⟨⟨hi,hok⟩,hb1,hX⟩
  have oa:=hb1.kj.obj hx
  refine jd rfl (gl (jl rfl (fun hc=> ?_) (fun hc=> ?_)))
  have hi:i<x.leaves.length:=by omega
  obtain⟨qb,qoff,hp,hsq⟩:=hxl.leaves.qd (fun r hr=>jf.len (hx.leaves r hr).2) zo
  rw[hp]
  have ha1:=hx.leaves _ (aG hi)
  have hi1:uv x.leaves[i].id:=ha1.2
  refine Ac (ki rfl (ka rfl 33 rfl i rfl zo (qoff+i*33) rfl (jm rfl ((hsq i hi).ga hX) (jf.len ha1.2) ?_)))
  refine gw rfl fun b4 w5 hn4 hb4 hE5=> ?_
  have ne1_4:=j2 hb1.lt hn4
  have fr4:=aA hX.size hn4
  have hb1:=hb1.ga hE5
  have hX:=hX.gb hE5
  refine j0 gc rfl (wl (j4 (l':=(x.leaves[i]).cells) gc hb4 rfl rfl (jf.len ha1.2) (jf.len ha1.2) OneC.h fun w6 hb4 hE6 hs6=> ?_))
  have hb1:=hb1.gj hE6 ne1_4
  have oa:=(hb1.kj.obj hx)
  have hX:=hX.gi hE6 fr4
  refine qq (ji (α:=Bool) [1,26,27,28] rfl (fun z=>[(58,.bool z)]) (fun z u=>(z=decide (¬xq8 x.leaves i hi))∧gz u b1 37 (jn x a)∧Ext No w u) ?_ ?_)
  ·refine jr rfl 26 [qP 0,qP 1,(2,false),qP 3,qP 4,qP 5,qP 6,qP 7,qP 8,qP 9,qP 10,qP 11,qP 12,qP 13,qP 14,qP 15,qP 16,qP 17,qP 18,qP 19,qP 20,qP 21,qP 22,qP 23,qP 24,qP 25] [] (No) zk fun w7 hE7 hs7=> ?_
   have hd1:=hb1
   have hd4:=hb4
   have hXd:=hX
   have hb1:=hb1.ga hE7
   have hX:=hX.gb hE7
   have hC:Ext (No) _ w7:=hE7.no
   refine gt gc 1 rfl (j3 gc rfl rfl (fun w' hw'=>(hd4.ga hw').cell rfl) ?_)
   refine jo rfl (j1 call199 rfl (path6_calls w7 (x.leaves[i]).path (hsx.leafP _ (aG hi))) fun v8 w8 hr8=>⟨(by obtain⟨rfl,rfl⟩:=hr8;exact hC),?_⟩)
   obtain⟨rfl,rfl⟩:=hr8
   refine gt gc 2 rfl (Cm 37 rfl (fun hg=> ?_) (fun hg=> ?_))
   ·have hnp:¬xw (x.leaves[i]).path:=by simpa using hg
    refine gt gc 21 rfl (jg (j5 ?_))
    exact gr (true) rfl ⟨by symm;rw[aU];exact fun h=>hnp h.1,hb1,hX⟩
   have hnp:xw (x.leaves[i]).path:=by simpa using hg
   refine gt gc 1 rfl (qa gc rfl rfl (fun w' hw'=>(by have:=(hd4.ga hw').kj.drop 1;exact this)) hi1.len ?_)
   refine xj0 gc rfl rfl trivial (l':=ge Ao) A6.symm (zv4 rfl rfl gId 10 zd kId (ue hi1) (ue yb) (vt hi1) (vt yb) ua ?_)
   simp only[cO]
   refine gt gc 2 rfl (vy 43 rfl (fun hg=> ?_) (fun hg=> ?_))
   ·have hiz:=hg
    refine gt gc 15 rfl (jg (j5 ?_))
    exact gr (true) rfl ⟨by symm;rw[aU];exact fun h=>h.2.1 hiz,hb1,hX⟩
   have hiz:=hg
   refine gt gc 3 rfl (vy 46 rfl (fun hg=> ?_) (fun hg=> ?_))
   ·refine gt gc 1 rfl ?_
    refine j3 gc rfl rfl (fun w' hw'=>((hd1.ga hw').kj.obj hx).leaves) ?_
    rw[hp]
    refine gt gc 2 rfl ?_
    rw[jz _ zo]
    refine qk gc rfl rfl 33 rfl (i-1) zo zo (qoff+(i-1)*33) rfl (gt gc 1 rfl (j3 gc rfl rfl (fun w' hw'=>(((hsq (i-1) zo).ga (hXd.gb hw')) 0 _ rfl)) ?_))
    refine gt gc 1 rfl (j3 gc rfl rfl (fun w' hw'=>(hd4.ga hw').cell rfl) ?_)
    refine gt gc 3 rfl (jg (j5 ?_))
    exact gr (_) rfl ⟨by rw[aH];exact⟨fun h1 h2=>h1 (h2.2.2 zo),fun h1 h2=>h1 ⟨hnp,hiz,fun _=>h2⟩⟩,hb1,hX⟩
   refine gt gc 12 rfl ?_
   refine jg (j5 ?_)
   exact gr (_) rfl ⟨by symm;rw[aC];exact fun h=>h ⟨hnp,hiz,fun h0=>absurd h0 zo⟩,hb1,hX⟩
  rintro z w9 ⟨rfl,hb1,hX⟩
  have oa:=hb1.kj.obj hx
  refine jl rfl (fun hc=> ?_) (fun hc=> ?_)
  ·refine gl ?_
   refine gy (vr rfl (gGl (u1 (j7 (gv rfl rfl ?_)))))
   exact⟨congrArg Value.bool (by symm;rw[aC,zz8 h2];exact fun h=>hc ((xv8.1 h.1).2 i hi)),hX⟩
  have hki:=aS.1 hc
  refine kc (Aa rfl ?_)
  rw[jz _ zo]
  refine gk ?_
  exact jk (i+1) rfl ⟨⟨by omega,fun k hk hlt=>(by
 rcases bF k i with h'|h'
 ·exact hok k hk h'
 ·obtain rfl:k=i:=by omega
  exact hki)⟩,hb1,hX⟩ zf
  have hall:∀k (hk:k<x.leaves.length),xq8 x.leaves k hk:=fun k hk=>hok k hk zo
  refine Ak (ji (α:=Bool) [] rfl (fun z=>[(2,.bool z)]) (fun z u=>(z=decide (xf x))∧Ext No w u) ?_ ?_)
  ·refine gy ?_
   refine j0 gc rfl (gu rfl oa.leaves (j0 gc rfl (ja 64 rfl (fun hg=> ?_) (fun hg=> ?_))))
   ·refine gq gc 1 rfl ?_
    refine gu rfl oa.text (gq gc 3 rfl (ja 69 rfl (fun hg=> ?_) (fun hg=> ?_)))
    ·have e1:x.text=[]:=nilS.1 hg
     refine je hb1 rfl (gp hx) (gh call198 rfl (none6_calls w4 hx (hxl.ga hX) hsx) fun v10 w10 hr10=> ?_)
     obtain⟨rfl,hE10⟩:=hr10
     have hX:=hX.gb hE10
     refine j0 gc rfl (gk ?_)
     exact gr (_) rfl ⟨by rw[aH,zz8 h2];exact⟨fun h=>⟨xv8.2 ⟨by omega,hall⟩,e1,h⟩,fun h=>h.2.2⟩,hX⟩
    have e1:¬x.text=[]:=fun e=>hg (nilS.2 e)
    refine gq gc 4 rfl (gk ?_)
    exact gr (false) rfl ⟨by symm;rw[aC,zz8 h2];intro h;exact e1 h.2.1,hX⟩
   refine gq gc 9 rfl ?_
   refine gk ?_
   exact gr (false) rfl ⟨by symm;rw[aC,zz8 h2];intro h;exact absurd (xv8.1 h.1).1 zo,hX⟩
  rintro z w11 ⟨rfl,hX⟩
  refine j9 (u1 (j7 (gv rfl rfl ?_)))
  exact⟨rfl,hX⟩
 have h2:¬x.kind=2:=hc
 refine jd rfl (jl rfl (fun hc=> ?_) (fun hc=> ?_))
 ·have h3:x.kind=3:=hc
  refine ji (α:=Bool) [] rfl (fun z=>[(2,.bool z)]) (fun z u=>(z=decide (xf x))∧Ext No w u) ?_ ?_
  ·refine gy ?_
   refine j0 gc rfl (gu rfl oa.text (j0 gc rfl (ja 78 rfl (fun hg=> ?_) (fun hg=> ?_))))
   ·have e1:x.text=[]:=nilS.1 hg
    refine gq gc 1 rfl (gu rfl oa.leaves (gq gc 4 rfl (ja 84 rfl (fun hg=> ?_) (fun hg=> ?_))))
    ·refine gq gc 1 rfl ?_
     refine jm rfl oa.tree (uv.len hx.tree) (kg rfl trivial (l':=ge Ao) A6.symm (wl (C0 rfl gId 10 zd kId (ue hx.tree) (ue yb) (vt hx.tree) (vt yb) ua ?_)))
     simp only[bI,cX]
     refine j0 gc rfl (ja 90 rfl (fun hg=> ?_) (fun hg=> ?_))
     ·have e2:x.tree≠Ao:=hg
      refine gq gc 1 rfl (jm rfl (Seg.one oa.rows) rfl (gh call200 rfl (rightEdit5_calls w1 (hxl.rows.ga hX) hsx.rows hsx.rowP) fun v12 w12 hr12=> ?_))
      obtain⟨rfl,hE12⟩:=hr12
      have hb1:=hb1.ga hE12
      have oa:=oa.ga hE12
      have hX:=hX.gb hE12
      refine j0 gc rfl (ja 95 rfl (fun hg=> ?_) (fun hg=> ?_))
      ·have e3:=hg
       refine gq gc 1 rfl (gu rfl oa.note (gq gc 4 rfl (ja 101 rfl (fun hg=> ?_) (fun hg=> ?_))))
       ·refine je hb1 rfl (gp hx) ?_
        refine gh call201 rfl (style6_calls w12 hx (hxl.ga hX) hsx) fun v13 w13 hr13=> ?_
        obtain⟨rfl,hE13⟩:=hr13
        have hX:=hX.gb hE13
        refine j0 gc rfl (gk ?_)
        exact gr (_) rfl ⟨by rw[aH,zx h3];exact⟨fun h=>⟨e1,by omega,by omega,e3,e2,h⟩,fun h=>h.2.2.2.2.2⟩,hX⟩
       refine gq gc 4 rfl ?_
       refine gk ?_
       exact gr (false) rfl ⟨by symm;rw[aC,zx h3];intro h;exact absurd h.2.2.1 zo,hX⟩
      have e3:=hg
      refine gq gc 10 rfl (gk ?_)
      exact gr (false) rfl ⟨by symm;rw[aC,zx h3];intro h;exact e3 h.2.2.2.1,hX⟩
     have e2:¬x.tree≠Ao:=hg
     refine gq gc 15 rfl (gk ?_)
     exact gr (false) rfl ⟨by symm;rw[aC,zx h3];intro h;exact e2 h.2.2.2.2.1,hX⟩
    refine gq gc 21 rfl ?_
    refine gk ?_
    exact gr (false) rfl ⟨by symm;rw[aC,zx h3];intro h;exact absurd h.2.1 zo,hX⟩
   have e1:¬x.text=[]:=fun e=>hg (nilS.2 e)
   refine gq gc 27 rfl (gk ?_)
   exact gr (false) rfl ⟨by symm;rw[aC,zx h3];intro h;exact e1 h.1,hX⟩
  rintro z w14 ⟨rfl,hX⟩
  refine j9 (u1 (j7 (gv rfl rfl ?_)))
  exact⟨rfl,hX⟩
 have h3:¬x.kind=3:=hc
 refine kc (js (jp (jd rfl (j9 (gv rfl rfl ?_)))))
 exact⟨congrArg Value.bool (bO (fields0 h1 h2 h3)).symm,hX⟩
structure BytesIn (o:jq):Prop where
  k:o.kind=1∨o.kind=2∨o.kind=3
  text:o.kind=1→o.text.length≤256
  leaves:o.kind=2→o.leaves.length≤32∧∀r∈o.leaves,r.path.length≤48
  rows:o.kind=3→o.rows.length≤32∧∀r∈o.rows,r.path.length≤48∧r.text.length≤256
  com:o.kind=3→o.parents.length≤2∧0≤o.style
  note:o.kind=3→o.note.length≤200
theorem bytes_of {o:jq} (h:xf o):BytesIn o:=
 ⟨by rcases h with h|h|h;exact .inl h.1;exact .inr (.inl h.1);exact .inr (.inr h.1),fun k=>((yj2 k).1 h).1,fun k=>leaved_at ((zz8 k).1 h).1,fun k=>edit_at ((zx k).1 h).2.2.2.1,fun k=>styled_at ((zx k).1 h).2.2.2.2,fun k=>((zx k).1 h).2.2.1⟩
theorem zw (w:World) (s:Str) (n:Nat) (hn:n<100) (hl:s.length<900000000):
  gn prog 161 [y7 s,.int .i64 (n:Int)] w fun v w'=>∃q k,v= .slice q (vz n s).length k∧Own w' q (vz n s).length k 5 1 (ge (vz n s))∧(∀x,jb q x→w.heap.size≤x)∧Ext No w w':=by
 have l:(ul s).size=s.length:=rfl
 refine gx func161 ?_
 have b:=Ext.refl No w
 refine jd rfl (ki rfl ?_)
 rw[cU _ zo]
 refine j0 gc rfl (gh call96 rfl (A1 n hn w s.length zo) fun u z h=> ?_)
 obtain⟨q,k,rfl,m,c,i⟩:=h
 have b:=b.gb i
 refine j0 gc rfl ?_
 have d:=b
 refine wl (va gc rfl 1 1 rfl rfl rfl zd m Src.string zm zn fun o p r a e f=> ?_)
 dsimp only at a e f⊢
 have b:=d.trans e fun y A t=>by have:=c y t;omega
 have g:=yv5 d c f
 have j:n+(ul s).size=(vz n s).length:=by rw[qy];omega
 have a:Own r o (vz n s).length p 5 1 (ge (vz n s)):=by
  rw[←j,vz,kz]
  exact a
 rw[j]
 refine vr rfl (gv rfl rfl ?_)
 exact⟨_,_,rfl,a,g,b⟩
theorem Dd (w:World) {x:jq} {a:vb} (hx:u4 x) (hxl:B7 w x a) (hf:BytesIn x):
  gn prog 99 [.agg (jn x a).toArray] w fun v w'=>∃q k,v= .slice q (laidB x).length k∧Own w' q (laidB x).length k 5 1 (ge (laidB x))∧(∀b,jb q b→w.heap.size≤b)∧Ext No w w':=by
 have hk0:0≤x.kind:=by rcases hf.k with h|h|h<;>omega
 refine gx func99 ?_
 have hX:=Ext.refl No w
 refine ko (gw rfl fun b1 w1 hn1 hb1 hE1=> ?_)
 have hX:=hX.gb hE1
 have hb1:gz w1 b1 37 (jn x a):=hb1
 refine km rfl (ki rfl (gu rfl (hb1.kj.obj hx).kind (j0 gc rfl ?_)))
 rw[yj7 hk0]
 refine wl (qi gc rfl 1 rfl rfl rfl zd zd zt (l':=ge [UInt8.ofNat x.kind.toNat]) rfl fun b14 w2 hn14 hb14 hE2 hs2=> ?_)
 have fr14:=aA hX.size hn14
 have hb1:=hb1.ga hE2
 have hX:=hX.gb hE2
 obtain⟨q,k,L0,hL0,hl0,hs0,hO⟩:∃q k,∃L0:List UInt8,L0=be 1 x.kind.toNat∧L0.length=1∧Value.slice (some ⟨b14,0,none⟩) 1 1= .slice q L0.length k∧k8 w w2 q L0.length k 5 1 (ge L0):=⟨_,1,_,rfl,jy _ _,rfl,k8.blk (n:=1) hb14 fr14 rfl zd⟩
 rw[hs0]
 refine km rfl (gl (ki rfl (gu rfl (hb1.kj.obj hx).kind (qq (j8 (jd rfl (jl rfl (fun hc=> ?_) (fun hc=> ?_))))))))
 ·have h1:x.kind=1:=hc
  have hBl:=hf.text h1
  refine ki rfl (gu rfl (hb1.kj.obj hx).text (gh call161 rfl (zw w2 x.text 2 zd zo) fun v3 w3 hr3=> ?_))
  obtain⟨qp,kp,rfl,hqp,hqpn,hE3⟩:=hr3
  have hO:=hO.ga hE3
  have hX:=hX.gb hE3
  refine wl (vv gc rfl 5 rfl rfl rfl rfl hO rfl (Src.bytes hqp.sl) rfl zg hX fun q k w4 L1 hL1 hl1 hO hE4 hT4 hX=> ?_)
  rw[qy] at hl1
  refine vr rfl (u1 (j7 (gv rfl rfl ?_)))
  have e:L1=laidB x:=by rw[hL1,hL0,laidB,aR h1]
  rw[e] at hO⊢
  exact⟨q,k,rfl,hO.own,hO.new,hX⟩
 have h1:¬x.kind=1:=hc
 refine jd rfl (jl rfl (fun hc=> ?_) (fun hc=> ?_))
 ·have h2:x.kind=2:=hc
  obtain⟨hl32,hp48⟩:=hf.leaves h2
  refine ki rfl (gu rfl (hb1.kj.obj hx).leaves (j0 gc rfl ?_))
  rw[y6]
  refine wl (qi gc rfl 1 rfl rfl rfl zd zd zt (l':=ge [UInt8.ofNat x.leaves.length]) rfl fun b31 w5 hn31 hb31 hE5 hs5=> ?_)
  have hb1:=hb1.ga hE5
  have hO:=hO.ga hE5
  have hX:=hX.gb hE5
  refine wl (vv (M:=be 1 x.leaves.length) gc rfl 5 rfl rfl rfl rfl hO rfl (Src.one hb31) rfl zo hX fun q k w6 L1 hL1 hl1 hO hE6 hT6 hX=> ?_)
  have hb1:=hb1.x4 hT6 zd zd
  refine km rfl (gl (ki rfl (gu rfl (hb1.kj.obj hx).leaves ?_)))
  rw[show L1=L1++(x.leaves.take 0).flatMap Cw from by simp] at hO⊢
  refine km rfl (j8 ?_)
  refine jj (α:=Nat×Option Addr×Nat) [34,35] rfl (fun z=>[(3,.slice z.2.1 (L1++(x.leaves.take z.1).flatMap Cw).length z.2.2),(36,.int .i64 (z.1:Int))]) (fun z u=>(z.1≤x.leaves.length∧k8 w u z.2.1 (L1++(x.leaves.take z.1).flatMap Cw).length z.2.2 5 1 (ge (L1++(x.leaves.take z.1).flatMap Cw)))∧Ext No w u) (fun z u=>x.leaves.length-z.1) (0,q,k) rfl ⟨⟨aJ _,hO⟩,hX⟩ ?_
  rintro⟨i,q,k⟩ w7 ⟨⟨hi,hO⟩,hX⟩
  try dsimp only
  dsimp only at hi hO
  obtain⟨L2,hL2⟩:∃L2,L2=L1++(x.leaves.take i).flatMap Cw:=⟨_,rfl⟩
  rw[←hL2] at hO⊢
  have hl2:=congrArg List.length hL2
  simp only[aB] at hl2
  refine jd rfl (gl (jl rfl (fun hc=> ?_) (fun hc=> ?_)))
  ·have hi:i<x.leaves.length:=by omega
   obtain⟨qb,qoff,hp,hsq⟩:=hxl.leaves.qd (fun r hr=>jf.len (hx.leaves r hr).2) zo
   rw[hp]
   have ha1:=hx.leaves _ (aG hi)
   have ha2:=hp48 _ (aG hi)
   have ha3:=ha1.2
   have hfl:((x.leaves.take i).flatMap Cw).length≤(x.leaves.take i).length*100:=B1 fun r hr=>leafB_le (hp48 r (bH hr)) (hx.leaves r (bH hr)).2
   rw[aL,bP zo] at hfl
   refine Ac (ko (ka rfl 33 rfl i rfl zo (qoff+i*33) rfl (jm rfl ((hsq i hi).ga hX) (jf.len ha1.2) (gw rfl fun b5 w8 hn5 hb5 hE8=> ?_))))
   have fr5:=aA hX.size hn5
   have hO:=hO.ga hE8
   have hX:=hX.gb hE8
   have hb5o:=hb5
   refine wl (j4 (l':=(x.leaves[i]).cells) gc hb5 rfl rfl (jf.len ha1.2) (jf.len ha1.2) OneC.h fun w9 hb5 hE9 hs9=> ?_)
   have hO:=hO.gj hE9 hb5o zd
   have hX:=hX.gi hE9 fr5
   refine qq (jr rfl 9 [qP 0,qP 1,qP 2,qP 5,qP 6,(3,false),(4,false),(7,false),qP 8] [] (Bo w w9 5 5) zk fun w10 hE10 hs10=> ?_)
   have hd5:=hb5
   have hb5:=hb5.ga hE10
   have hO:=hO.ga hE10
   have hX:=hX.gb hE10
   have hC:Ext (Bo w w9 5 5) _ w10:=hE10.no
   refine gt gc 2 rfl (j3 gc rfl rfl (fun w' hw'=>((hd5.x4 (show Ext (Bo w _ 5 5) _ w' from hw') zd zd).cell rfl)) ?_)
   refine gt gc 1 rfl (xv0 gc rfl rfl 0 32 32 1 rfl ⟨.inr ⟨rfl,rfl⟩,.inr ⟨rfl,rfl⟩,.inr ⟨rfl,rfl⟩,by decide,by decide,by decide⟩ ?_)
   rw[jw,bB]
   refine jo rfl (j1 call161 rfl (zw w10 (x.leaves[i]).path 1 zd zo) fun v11 w11 hr11=>⟨(by obtain⟨qp,kp,rfl,hqp,hqpn,hE11⟩:=hr11;exact hC.gb hE11),?_⟩)
   obtain⟨qp,kp,rfl,hqp,hqpn,hE11⟩:=hr11
   have hb5:=hb5.ga hE11
   have hO:=hO.ga hE11
   have hX:=hX.gb hE11
   have hC:=hC.gb hE11
   refine jo rfl (vv gc rfl 5 rfl rfl rfl rfl hO rfl (Src.bytes hqp.sl) rfl zg hX fun q k w12 L3 hL3 hl3 hO hE12 hT12 hX=>⟨hC.ky hT12,?_⟩)
   have hb5:=hb5.x4 hT12 zd zd
   have hC:=hC.ky hT12
   rw[qy] at hl3
   refine jo rfl (vv gc rfl 5 rfl rfl rfl rfl hO rfl (Src.id (hb5.kj.drop 1) ha3) ha3.symm zo hX fun q k w13 L4 hL4 hl4 hO hE13 hT13 hX=>⟨hC.ky hT13,?_⟩)
   refine gt gc 1 rfl (jg (j5 (Aa rfl ?_)))
   rw[jz _ zo]
   refine gk ?_
   have e:L4=L1++(x.leaves.take (i+1)).flatMap Cw:=by rw[hL4,hL3,hL2,xx9 hi,Cw];simp only[aV]
   rw[e] at hO⊢
   exact jk (i+1,q,k) rfl ⟨⟨hi,hO⟩,hX⟩ zf
  have h0:i=x.leaves.length:=by omega
  subst h0
  rw[bZ] at hL2
  refine Ak (jd rfl (j9 (u1 (j7 (gv rfl rfl ?_)))))
  have e:L2=laidB x:=by rw[hL2,hL1,hL0,laidB,aP h1,aR h2,treeB,aV]
  rw[e] at hO⊢
  exact⟨q,k,rfl,hO.own,hO.new,hX⟩
 have h2:¬x.kind=2:=hc
 have h3:x.kind=3:=(hf.k.resolve_left h1).resolve_left h2
 obtain⟨hl32,hp48⟩:=hf.rows h3
 obtain⟨hpl,hst⟩:=hf.com h3
 have hnl:=hf.note h3
 have htr:=hx.tree
 have hba:=hx.base
 have hpf:=zz5 (n:=32) hx.parents
 refine kc (js (jp (gl (jr rfl 10 [qP 0,qP 1,qP 2,qP 3,qP 6,qP 7,(4,false),(5,false),(8,false),qP 9] [] (Bo w w2 5 5) zk fun w14 hE14 hs14=> ?_))))
 have hd1:=hb1
 have hOd:=hO
 have hb1:=hb1.ga hE14
 have hO:=hO.ga hE14
 have hX:=hX.gb hE14
 have hC:Ext (Bo w w2 5 5) _ w14:=hE14.no
 refine gt gc 2 rfl (j3 gc rfl rfl (fun w' hw'=>((hd1.x4 (show Ext (Bo w _ 5 5) _ w' from hw') zd zd).kj.obj hx).style) ?_)
 refine gt gc 1 rfl ?_
 rw[yj7 hst]
 refine gt gc 1 rfl (xv0 gc rfl rfl 0 32 32 1 rfl ⟨.inr ⟨rfl,rfl⟩,.inr ⟨rfl,rfl⟩,.inr ⟨rfl,rfl⟩,by decide,by decide,by decide⟩ ?_)
 rw[jw,bB]
 refine jo rfl (qi gc rfl 1 rfl rfl rfl zd zd zt (l':=ge [UInt8.ofNat x.style.toNat]) rfl fun b54 w15 hn54 hb54 hE15 hs15=>⟨hC.gb hE15,?_⟩)
 have hb1:=hb1.ga hE15
 have hO:=hO.ga hE15
 have hX:=hX.gb hE15
 have hC:=hC.gb hE15
 refine jo rfl (vv (M:=be 1 x.style.toNat) gc rfl 5 rfl rfl rfl rfl hO rfl (Src.one hb54) rfl zo hX fun q k w16 L1 hL1 hl1 hO hE16 hT16 hX=>⟨hC.ky hT16,?_⟩)
 have hb1:=hb1.x4 hT16 zd zd
 have hC:=hC.ky hT16
 refine jo rfl (vv gc rfl 5 rfl rfl rfl rfl hO rfl (Src.id (hb1.kj.obj hx).tree hx.tree) hx.tree.symm zo hX fun q k w17 L2 hL2 hl2 hO hE17 hT17 hX=>⟨hC.ky hT17,?_⟩)
 have hb1:=hb1.x4 hT17 zd zd
 have hC:=hC.ky hT17
 refine gt gc 1 rfl (jg (j5 (jp (ki rfl (gu rfl (hb1.kj.obj hx).parents (j0 gc rfl ?_))))))
 rw[y6]
 refine wl (qi gc rfl 1 rfl rfl rfl zd zd zt (l':=ge [UInt8.ofNat x.parents.length]) rfl fun b64 w18 hn64 hb64 hE18 hs18=> ?_)
 have hb1:=hb1.ga hE18
 have hO:=hO.ga hE18
 have hX:=hX.gb hE18
 refine wl (vv (M:=be 1 x.parents.length) gc rfl 5 rfl rfl rfl rfl hO rfl (Src.one hb64) rfl zo hX fun q k w19 L3 hL3 hl3 hO hE19 hT19 hX=> ?_)
 have hb1:=hb1.x4 hT19 zd zd
 refine km rfl (gl (ki rfl (gu rfl (hb1.kj.obj hx).parents ?_)))
 rw[show L3=L3++(x.parents.take 0).flatten from by simp] at hO⊢
 refine km rfl (j8 ?_)
 refine jj (α:=Nat×Option Addr×Nat) [1,67,68] rfl (fun z=>[(3,.slice z.2.1 (L3++(x.parents.take z.1).flatten).length z.2.2),(69,.int .i64 (z.1:Int))]) (fun z u=>(z.1≤x.parents.length∧k8 w u z.2.1 (L3++(x.parents.take z.1).flatten).length z.2.2 5 1 (ge (L3++(x.parents.take z.1).flatten)))∧gz u b1 37 (jn x a)∧Ext No w u) (fun z u=>x.parents.length-z.1) (0,q,k) rfl ⟨⟨aJ _,hO⟩,hb1,hX⟩ ?_
 rintro⟨i,q,k⟩ w20 ⟨⟨hi,hO⟩,hb1,hX⟩
 try dsimp only
 dsimp only at hi hO
 obtain⟨L4,hL4⟩:∃L4,L4=L3++(x.parents.take i).flatten:=⟨_,rfl⟩
 rw[←hL4] at hO⊢
 have hl4:=congrArg List.length hL4
 simp only[aB] at hl4
 refine jd rfl (gl (jl rfl (fun hc=> ?_) (fun hc=> ?_)))
 ·have hi:i<x.parents.length:=by omega
  obtain⟨qb,qoff,hp,hsq⟩:=hxl.parents.qd (fun r hr=>uv.len (hx.parents r hr)) zo
  rw[hp]
  have ha1:uv x.parents[i]:=hx.parents _ (aG hi)
  have hfl:=flatten_in hx.parents i
  rw[aL,bP zo] at hfl
  refine Ac (ko (ka rfl 32 rfl i rfl zo (qoff+i*32) rfl (jm rfl ((hsq i hi).ga hX) ha1.len (gw rfl fun b7 w21 hn7 hb7 hE21=> ?_))))
  have ne1_7:=j2 hb1.lt hn7
  have fr7:=aA hX.size hn7
  have hb1:=hb1.ga hE21
  have hO:=hO.ga hE21
  have hX:=hX.gb hE21
  have hb7o:=hb7
  refine wl (j4 (l':=ge x.parents[i]) gc hb7 rfl rfl ha1.len ha1.len OneC.h fun w22 hb7 hE22 hs22=> ?_)
  have hb1:=hb1.gj hE22 ne1_7
  have hO:=hO.gj hE22 hb7o zd
  have hX:=hX.gi hE22 fr7
  refine qq (yl rfl (wl (st_sa gc rfl 0 32 32 1 rfl ⟨.inr ⟨rfl,rfl⟩,.inr ⟨rfl,rfl⟩,.inr ⟨rfl,rfl⟩,by decide,by decide,by decide⟩ ?_)))
  rw[jw,bB]
  refine wl (vv gc rfl 5 rfl rfl rfl rfl hO rfl (Src.id hb7.kj ha1) ha1.symm zo hX fun q k w23 L5 hL5 hl5 hO hE23 hT23 hX=> ?_)
  have hb1:=hb1.x4 hT23 zd zd
  refine j0 gc rfl (gk (Aa rfl ?_))
  rw[jz _ zo]
  refine gk ?_
  have e:L5=L3++(x.parents.take (i+1)).flatten:=by rw[hL5,hL4,yx6 hi,aV]
  rw[e] at hO⊢
  exact jk (i+1,q,k) rfl ⟨⟨hi,hO⟩,hb1,hX⟩ zf
 have h0:i=x.parents.length:=by omega
 subst h0
 rw[bZ] at hL4 hl4
 refine Ak ?_
 refine ji (α:=Option Addr×Nat) [1] rfl (fun z=>[(3,.slice z.1 (L3++x.parents.flatten++x.base++be 1 x.rows.length).length z.2)]) (fun z u=>(k8 w u z.1 (L3++x.parents.flatten++x.base++be 1 x.rows.length).length z.2 5 1 (ge (L3++x.parents.flatten++x.base++be 1 x.rows.length)))∧gz u b1 37 (jn x a)∧Ext No w u) ?_ ?_
 ·refine zz7 rfl 12 12 [] (Bo w w20 5 5) zk fun w24 hE24 hs24=> ?_
  have hd1:=hb1
  have hOd:=hO
  have hb1:=hb1.ga hE24
  have hO:=hO.ga hE24
  have hX:=hX.gb hE24
  have hC:Ext (Bo w w20 5 5) _ w24:=hE24.no
  refine qm [qP 0,qP 1,qP 2,qP 4,qP 5,qP 6,qP 7,qP 8] 4 rfl zk (gt gc 2 rfl ?_)
  refine xv0 gc rfl rfl 0 32 32 1 rfl ⟨.inr ⟨rfl,rfl⟩,.inr ⟨rfl,rfl⟩,.inr ⟨rfl,rfl⟩,by decide,by decide,by decide⟩ ?_
  rw[jw,bB]
  refine gt gc 2 rfl (j3 gc rfl rfl (fun w' hw'=>((hd1.x4 (show Ext (Bo w _ 5 5) _ w' from hw') zd zd).kj.obj hx).rows) ?_)
  refine gt gc 2 rfl ?_
  rw[y6]
  refine yd rfl (As [3,9] rfl zk ⟨⟨_,rfl,?_⟩,⟨_,rfl,?_⟩,trivial⟩)
  ·have hOo:=hO
   refine vv gc rfl 5 rfl rfl rfl rfl hO rfl (Src.id (hb1.kj.obj hx).base hx.base) hx.base.symm zo hX fun q k w25 L5 hL5 hl5 hO hE25 hT25 hX=>⟨hC.ky hT25,?_⟩
   have hb1:=hb1.x4 hT25 zd zd
   try have hb86:=hb86.ext hE25 (fun hx=>by have:=hOd.own.lt hx;have:=hOo.own.lt hx;omega)
   have hC:=hC.ky hT25
   refine qm [(9,false),(10,false),qP 11] 0 rfl zk ?_
   refine jo rfl (qi gc rfl 1 rfl rfl rfl zd zd zt (l':=ge [UInt8.ofNat x.rows.length]) rfl fun b86 w26 hn86 hb86 hE26 hs26=>⟨hC.gb hE26,?_⟩)
   have frhC86:=aA hC.size hn86
   have hb1:=hb1.ga hE26
   have hO:=hO.ga hE26
   have hX:=hX.gb hE26
   have hC:=hC.gb hE26
   refine jo rfl (vv (M:=be 1 x.rows.length) gc rfl 5 rfl rfl rfl rfl hO rfl (Src.one hb86) rfl zo hX fun q k w27 L6 hL6 hl6 hO hE27 hT27 hX=>⟨hC.ky hT27,?_⟩)
   have hb1:=hb1.x4 hT27 zd zd
   refine gt gc 1 rfl (jg (j5 ?_))
   rw[hL6,hL5,hL4] at hO⊢
   exact gr (q,k) rfl ⟨hO,hb1,hX⟩
  refine qi gc rfl 1 rfl rfl rfl zd zd zt (l':=ge [UInt8.ofNat x.rows.length]) rfl fun b86 w28 hn86 hb86 hE28 hs28=>⟨hC.gb hE28,?_⟩
  have frhC86:=aA hC.size hn86
  have hb1:=hb1.ga hE28
  have hO:=hO.ga hE28
  have hX:=hX.gb hE28
  have hC:=hC.gb hE28
  refine qm [(3,false),(10,false),qP 11] 0 rfl zk ?_
  have hOo:=hO
  refine jo rfl (vv gc rfl 5 rfl rfl rfl rfl hO rfl (Src.id (hb1.kj.obj hx).base hx.base) hx.base.symm zo hX fun q k w29 L5 hL5 hl5 hO hE29 hT29 hX=>⟨hC.ky hT29,?_⟩)
  have hb1:=hb1.x4 hT29 zd zd
  try have hb86:=hb86.ext hE29 (fun hx=>by have:=hOd.own.lt hx;have:=hOo.own.lt hx;omega)
  have hC:=hC.ky hT29
  refine jo rfl (vv (M:=be 1 x.rows.length) gc rfl 5 rfl rfl rfl rfl hO rfl (Src.one hb86) rfl zo hX fun q k w30 L6 hL6 hl6 hO hE30 hT30 hX=>⟨hC.ky hT30,?_⟩)
  have hb1:=hb1.x4 hT30 zd zd
  refine gt gc 1 rfl (jg (j5 ?_))
  rw[hL6,hL5,hL4] at hO⊢
  exact gr (q,k) rfl ⟨hO,hb1,hX⟩
 rintro⟨q,k⟩ w31 ⟨hO,hb1,hX⟩
 try dsimp only
 dsimp only at hO
 obtain⟨L7,hL7⟩:∃L7,L7=L3++x.parents.flatten++x.base++be 1 x.rows.length:=⟨_,rfl⟩
 rw[←hL7] at hO⊢
 have hl7:=congrArg List.length hL7
 simp only[aB,jy] at hl7
 refine gl (ki rfl (gu rfl (hb1.kj.obj hx).rows ?_))
 rw[show L7=L7++(x.rows.take 0).flatMap yj3 from by simp] at hO⊢
 refine km rfl (j8 ?_)
 refine jj (α:=Nat×Option Addr×Nat) [1,90,91] rfl (fun z=>[(3,.slice z.2.1 (L7++(x.rows.take z.1).flatMap yj3).length z.2.2),(92,.int .i64 (z.1:Int))]) (fun z u=>(z.1≤x.rows.length∧k8 w u z.2.1 (L7++(x.rows.take z.1).flatMap yj3).length z.2.2 5 1 (ge (L7++(x.rows.take z.1).flatMap yj3)))∧gz u b1 37 (jn x a)∧Ext No w u) (fun z u=>x.rows.length-z.1) (0,q,k) rfl ⟨⟨aJ _,hO⟩,hb1,hX⟩ ?_
 rintro⟨i,q,k⟩ w32 ⟨⟨hi,hO⟩,hb1,hX⟩
 try dsimp only
 dsimp only at hi hO
 obtain⟨La,hLa⟩:∃La,La=L7++(x.rows.take i).flatMap yj3:=⟨_,rfl⟩
 rw[←hLa] at hO⊢
 have hla:=congrArg List.length hLa
 simp only[aB] at hla
 refine jd rfl (gl (jl rfl (fun hc=> ?_) (fun hc=> ?_)))
 ·have hi:i<x.rows.length:=by omega
  obtain⟨qb,qoff,hp,hsq⟩:=hxl.rows.qd (fun r _=>r.len) zo
  rw[hp]
  have ha2:=hp48 _ (aG hi)
  have hfl:((x.rows.take i).flatMap yj3).length≤(x.rows.take i).length*400:=B1 fun r hr=>chgB_le (hp48 r (bH hr))
  rw[aL,bP zo] at hfl
  refine x3 ?_
  refine ji (α:=Option Addr×Nat) [1,90,91,92] rfl (fun z=>[(3,.slice z.1 (La++vz 1 (x.rows[i]).path++[isB (x.rows[i]).is]++vz 2 (x.rows[i]).text).length z.2)]) (fun z u=>(k8 w u z.1 (La++vz 1 (x.rows[i]).path++[isB (x.rows[i]).is]++vz 2 (x.rows[i]).text).length z.2 5 1 (ge (La++vz 1 (x.rows[i]).path++[isB (x.rows[i]).is]++vz 2 (x.rows[i]).text)))∧gz u b1 37 (jn x a)∧Ext No w u) ?_ ?_
  ·refine j8 ?_
   refine ko (ka rfl 3 rfl i rfl zo (qoff+i*3) rfl (jm rfl ((hsq i hi).ga hX) rfl (gw rfl fun b9 w33 hn9 hb9 hE33=> ?_)))
   have ne1_9:=j2 hb1.lt hn9
   have fr9:=aA hX.size hn9
   have hb1:=hb1.ga hE33
   have hO:=hO.ga hE33
   have hX:=hX.gb hE33
   have hb9o:=hb9
   refine wl (j4 (l':=(x.rows[i]).cells) gc hb9 rfl rfl rfl rfl OneC.h fun w34 hb9 hE34 hs34=> ?_)
   have hb1:=hb1.gj hE34 ne1_9
   have hO:=hO.gj hE34 hb9o zd
   have hX:=hX.gi hE34 fr9
   refine qq (jd rfl (ji (α:=UInt8) [1,3,9,90,91,92] rfl (fun z=>[(10,.int .u8 (z.toNat:Int))]) (fun z u=>u=w34∧z=isB (x.rows[i]).is) ?_ ?_))
   ·refine gl ?_
    refine yl rfl (j6 hb9 rfl rfl (qq (ud rfl (fun hc=> ?_) (fun hc=> ?_))))
    ·have his:isB (x.rows[i]).is=1:=by rw[isB,hc];rfl
     refine yl rfl (gk ?_)
     exact gr (1) rfl ⟨rfl,his.symm⟩
    have his:isB (x.rows[i]).is=0:=by rw[isB,hc];rfl
    refine kc ?_
    exact gr (0) rfl ⟨rfl,his.symm⟩
   rintro z w35 ⟨hu,rfl⟩
   have hu:=hu.symm
   subst hu
   refine zz7 rfl 13 13 [] (Bo w w34 5 5) zk fun w36 hE36 hs36=> ?_
   have hd9:=hb9
   have hOd:=hO
   have hb1:=hb1.ga hE36
   have hO:=hO.ga hE36
   have hX:=hX.gb hE36
   have hC:Ext (Bo w w34 5 5) _ w36:=hE36.no
   refine qm [qP 0,qP 1,qP 2,qP 5,qP 8,qP 9] 7 rfl zk (gt gc 2 rfl ?_)
   refine j3 gc rfl rfl (fun w' hw'=>((hd9.x4 (show Ext (Bo w _ 5 5) _ w' from hw') zd zd).cell rfl)) ?_
   refine gt gc 2 rfl (j3 gc rfl rfl (fun w' hw'=>((hd9.x4 (show Ext (Bo w _ 5 5) _ w' from hw') zd zd).cell rfl)) ?_)
   refine yd rfl (As [3,6] rfl zk ⟨⟨_,rfl,?_⟩,⟨_,rfl,?_⟩,trivial⟩)
   ·refine j1 call161 rfl (zw w36 (x.rows[i]).path 1 zd zo) fun v37 w37 hr37=>⟨(by obtain⟨qp,kp,rfl,hqp,hqpn,hE37⟩:=hr37;exact hC.gb hE37),?_⟩
    obtain⟨qp,kp,rfl,hqp,hqpn,hE37⟩:=hr37
    have hb1:=hb1.ga hE37
    have hO:=hO.ga hE37
    have hX:=hX.gb hE37
    have hC:=hC.gb hE37
    refine qm [] 6 rfl zk (yd rfl (As [4,6] rfl zk ⟨⟨_,rfl,?_⟩,⟨_,rfl,?_⟩,trivial⟩))
    ·have hOo:=hO
     refine vv gc rfl 5 rfl rfl rfl rfl hO rfl (Src.bytes hqp.sl) rfl zg hX fun q k w38 L8 hL8 hl8 hO hE38 hT38 hX=>⟨hC.ky hT38,?_⟩
     have hb1:=hb1.x4 hT38 zd zd
     try have hb104:=hb104.ext hE38 (fun hx=>by have:=hOd.own.lt hx;have:=hOo.own.lt hx;omega)
     have hC:=hC.ky hT38
     rw[qy] at hl8
     refine qm [(6,false),(7,false),(10,false),(11,false),qP 12] 0 rfl zk ?_
     refine jo rfl (qi gc rfl 1 rfl rfl rfl zd zd zt (l':=ge [isB (x.rows[i]).is]) rfl fun b104 w39 hn104 hb104 hE39 hs39=>⟨hC.gb hE39,?_⟩)
     have frhC104:=aA hC.size hn104
     have hb1:=hb1.ga hE39
     have hO:=hO.ga hE39
     have hX:=hX.gb hE39
     have hC:=hC.gb hE39
     refine jo rfl (vv gc rfl 5 rfl rfl rfl rfl hO rfl (Src.one hb104) rfl zo hX fun q k w40 L9 hL9 hl9 hO hE40 hT40 hX=>⟨hC.ky hT40,?_⟩)
     have hb1:=hb1.x4 hT40 zd zd
     have hC:=hC.ky hT40
     refine jo rfl (j1 call161 rfl (zw w40 (x.rows[i]).text 2 zd zo) fun v41 w41 hr41=>⟨(by obtain⟨qt,kt,rfl,hqt,hqtn,hE41⟩:=hr41;exact hC.gb hE41),?_⟩)
     obtain⟨qt,kt,rfl,hqt,hqtn,hE41⟩:=hr41
     have hb1:=hb1.ga hE41
     have hO:=hO.ga hE41
     have hX:=hX.gb hE41
     have hC:=hC.gb hE41
     refine jo rfl (vv gc rfl 5 rfl rfl rfl rfl hO rfl (Src.bytes hqt.sl) rfl zg hX fun q k w42 L10 hL10 hl10 hO hE42 hT42 hX=>⟨hC.ky hT42,?_⟩)
     have hb1:=hb1.x4 hT42 zd zd
     rw[qy] at hl10
     refine gt gc 1 rfl (jg (j5 ?_))
     rw[hL10,hL9,hL8] at hO⊢
     exact js (gr (q,k) rfl ⟨hO,hb1,hX⟩)
    refine qi gc rfl 1 rfl rfl rfl zd zd zt (l':=ge [isB (x.rows[i]).is]) rfl fun b104 w43 hn104 hb104 hE43 hs43=>⟨hC.gb hE43,?_⟩
    have frhC104:=aA hC.size hn104
    have hb1:=hb1.ga hE43
    have hO:=hO.ga hE43
    have hqp:=hqp.ext hE43 fun _ _=>id
    have hX:=hX.gb hE43
    have hC:=hC.gb hE43
    refine qm [(4,false),(7,false),(10,false),(11,false),qP 12] 0 rfl zk ?_
    have hOo:=hO
    refine jo rfl (vv gc rfl 5 rfl rfl rfl rfl hO rfl (Src.bytes hqp.sl) rfl zg hX fun q k w44 L8 hL8 hl8 hO hE44 hT44 hX=>⟨hC.ky hT44,?_⟩)
    have hb1:=hb1.x4 hT44 zd zd
    try have hb104:=hb104.ext hE44 (fun hx=>by have:=hOd.own.lt hx;have:=hOo.own.lt hx;omega)
    have hC:=hC.ky hT44
    rw[qy] at hl8
    refine jo rfl (vv gc rfl 5 rfl rfl rfl rfl hO rfl (Src.one hb104) rfl zo hX fun q k w45 L9 hL9 hl9 hO hE45 hT45 hX=>⟨hC.ky hT45,?_⟩)
    have hb1:=hb1.x4 hT45 zd zd
    have hC:=hC.ky hT45
    refine jo rfl (j1 call161 rfl (zw w45 (x.rows[i]).text 2 zd zo) fun v46 w46 hr46=>⟨(by obtain⟨qt,kt,rfl,hqt,hqtn,hE46⟩:=hr46;exact hC.gb hE46),?_⟩)
    obtain⟨qt,kt,rfl,hqt,hqtn,hE46⟩:=hr46
    have hb1:=hb1.ga hE46
    have hO:=hO.ga hE46
    have hX:=hX.gb hE46
    have hC:=hC.gb hE46
    refine jo rfl (vv gc rfl 5 rfl rfl rfl rfl hO rfl (Src.bytes hqt.sl) rfl zg hX fun q k w47 L10 hL10 hl10 hO hE47 hT47 hX=>⟨hC.ky hT47,?_⟩)
    have hb1:=hb1.x4 hT47 zd zd
    rw[qy] at hl10
    refine gt gc 1 rfl (jg (j5 ?_))
    rw[hL10,hL9,hL8] at hO⊢
    exact js (gr (q,k) rfl ⟨hO,hb1,hX⟩)
   refine qi gc rfl 1 rfl rfl rfl zd zd zt (l':=ge [isB (x.rows[i]).is]) rfl fun b104 w48 hn104 hb104 hE48 hs48=>⟨hC.gb hE48,?_⟩
   have frhC104:=aA hC.size hn104
   have hb1:=hb1.ga hE48
   have hO:=hO.ga hE48
   have hX:=hX.gb hE48
   have hC:=hC.gb hE48
   refine qm [(3,false),(4,false),(7,false),(10,false),(11,false),qP 12] 0 rfl zk ?_
   refine jo rfl (j1 call161 rfl (zw w48 (x.rows[i]).path 1 zd zo) fun v49 w49 hr49=>⟨(by obtain⟨qp,kp,rfl,hqp,hqpn,hE49⟩:=hr49;exact hC.gb hE49),?_⟩)
   obtain⟨qp,kp,rfl,hqp,hqpn,hE49⟩:=hr49
   have hb1:=hb1.ga hE49
   have hb104:=hb104.ga hE49
   have hO:=hO.ga hE49
   have hX:=hX.gb hE49
   have hC:=hC.gb hE49
   have hOo:=hO
   refine jo rfl (vv gc rfl 5 rfl rfl rfl rfl hO rfl (Src.bytes hqp.sl) rfl zg hX fun q k w50 L8 hL8 hl8 hO hE50 hT50 hX=>⟨hC.ky hT50,?_⟩)
   have hb1:=hb1.x4 hT50 zd zd
   try have hb104:=hb104.ext hE50 (fun hx=>by have:=hOd.own.lt hx;have:=hOo.own.lt hx;omega)
   have hC:=hC.ky hT50
   rw[qy] at hl8
   refine jo rfl (vv gc rfl 5 rfl rfl rfl rfl hO rfl (Src.one hb104) rfl zo hX fun q k w51 L9 hL9 hl9 hO hE51 hT51 hX=>⟨hC.ky hT51,?_⟩)
   have hb1:=hb1.x4 hT51 zd zd
   have hC:=hC.ky hT51
   refine jo rfl (j1 call161 rfl (zw w51 (x.rows[i]).text 2 zd zo) fun v52 w52 hr52=>⟨(by obtain⟨qt,kt,rfl,hqt,hqtn,hE52⟩:=hr52;exact hC.gb hE52),?_⟩)
   obtain⟨qt,kt,rfl,hqt,hqtn,hE52⟩:=hr52
   have hb1:=hb1.ga hE52
   have hO:=hO.ga hE52
   have hX:=hX.gb hE52
   have hC:=hC.gb hE52
   refine jo rfl (vv gc rfl 5 rfl rfl rfl rfl hO rfl (Src.bytes hqt.sl) rfl zg hX fun q k w53 L10 hL10 hl10 hO hE53 hT53 hX=>⟨hC.ky hT53,?_⟩)
   have hb1:=hb1.x4 hT53 zd zd
   rw[qy] at hl10
   refine gt gc 1 rfl (jg (j5 ?_))
   rw[hL10,hL9,hL8] at hO⊢
   exact js (gr (q,k) rfl ⟨hO,hb1,hX⟩)
  rintro⟨q,k⟩ w54 ⟨hO,hb1,hX⟩
  try dsimp only
  dsimp only at hO
  refine yl rfl ?_
  rw[jz _ zo]
  refine gk ?_
  have e:La++vz 1 (x.rows[i]).path++[isB (x.rows[i]).is]++vz 2 (x.rows[i]).text=L7++(x.rows.take (i+1)).flatMap yj3:=by rw[hLa,xx9 hi,yj3];simp only[aV]
  rw[e] at hO⊢
  exact jk (i+1,q,k) rfl ⟨⟨hi,hO⟩,hb1,hX⟩ zf
 have h0:i=x.rows.length:=by omega
 subst h0
 rw[bZ] at hLa hla
 have hfl:(x.rows.flatMap yj3).length≤x.rows.length*400:=B1 fun r hr=>chgB_le (hp48 r hr)
 refine Ak (gl ?_)
 refine jr rfl 12 [qP 0,qP 1,qP 2,qP 3,qP 6,qP 7,qP 8,(4,false),(5,false),(9,false),(10,false),qP 11] [] (Bo w w32 5 5) zk fun w55 hE55 hs55=> ?_
 have hd1:=hb1
 have hb1:=hb1.ga hE55
 have hO:=hO.ga hE55
 have hX:=hX.gb hE55
 have hC:Ext (Bo w w32 5 5) _ w55:=hE55.no
 refine gt gc 2 rfl (j3 gc rfl rfl (fun w' hw'=>((hd1.x4 (show Ext (Bo w _ 5 5) _ w' from hw') zd zd).kj.obj hx).number) ?_)
 refine gt gc 1 rfl ?_
 rw[cU _ (by have:=hx.number;omega)]
 refine gt gc 1 rfl (j3 gc rfl rfl (fun w' hw'=>((hd1.x4 (show Ext (Bo w _ 5 5) _ w' from hw') zd zd).kj.obj hx).author) ?_)
 refine gt gc 1 rfl ?_
 rw[cU _ (by have:=hx.author;omega)]
 refine jo rfl (j1 call96 rfl (A1 4 zd w55 x.number (by have:=hx.number;omega)) fun v56 w56 hr56=>⟨(by obtain⟨qp,kp,rfl,hqp,hqpn,hE56⟩:=hr56;exact hC.gb hE56),?_⟩)
 obtain⟨qp,kp,rfl,hqp,hqpn,hE56⟩:=hr56
 have hb1:=hb1.ga hE56
 have hO:=hO.ga hE56
 have hX:=hX.gb hE56
 have hC:=hC.gb hE56
 refine jo rfl (vv gc rfl 5 rfl rfl rfl rfl hO rfl (Src.slice hqp.sl OneC.h) (jy _ _).symm zo hX fun q k w57 L11 hL11 hl11 hO hE57 hT57 hX=>⟨hC.ky hT57,?_⟩)
 have hb1:=hb1.x4 hT57 zd zd
 have hC:=hC.ky hT57
 refine jo rfl (j1 call96 rfl (A1 4 zd w57 x.author (by have:=hx.author;omega)) fun v58 w58 hr58=>⟨(by obtain⟨qt,kt,rfl,hqt,hqtn,hE58⟩:=hr58;exact hC.gb hE58),?_⟩)
 obtain⟨qt,kt,rfl,hqt,hqtn,hE58⟩:=hr58
 have hb1:=hb1.ga hE58
 have hO:=hO.ga hE58
 have hX:=hX.gb hE58
 have hC:=hC.gb hE58
 refine jo rfl (vv gc rfl 5 rfl rfl rfl rfl hO rfl (Src.slice hqt.sl OneC.h) (jy _ _).symm zo hX fun q k w59 L12 hL12 hl12 hO hE59 hT59 hX=>⟨hC.ky hT59,?_⟩)
 have hb1:=hb1.x4 hT59 zd zd
 refine gt gc 1 rfl (jg (j5 (jp (ki rfl (gu rfl (hb1.kj.obj hx).note ?_)))))
 refine gh call161 rfl (zw w59 x.note 1 zd zo) fun v60 w60 hr60=> ?_
 obtain⟨qp,kp,rfl,hqp,hqpn,hE60⟩:=hr60
 have hO:=hO.ga hE60
 have hX:=hX.gb hE60
 refine wl (vv gc rfl 5 rfl rfl rfl rfl hO rfl (Src.bytes hqp.sl) rfl zg hX fun q k w61 L13 hL13 hl13 hO hE61 hT61 hX=> ?_)
 rw[qy] at hl13
 refine vr rfl (gv rfl rfl ?_)
 have e:L13=laidB x:=by rw[hL13,hL12,hL11,hLa,hL7,hL3,hL2,hL1,hL0,laidB,aP h1,aP h2,comB];simp only[aV]
 rw[e] at hO⊢
 exact⟨q,k,rfl,hO.own,hO.new,hX⟩
theorem laid_le {x:jq} (hx:u4 x) (hf:BytesIn x):(laidB x).length≤100000:=by
 rcases hf.k with a|a|a
 ·have:=hf.text a
  rw[laidB,aR a,aB,jy,qy]
  omega
 ·obtain⟨d,c⟩:=hf.leaves a
  have e:(x.leaves.flatMap Cw).length≤x.leaves.length*100:=B1 fun r b=>leafB_le (c r b) (hx.leaves r b).2
  rw[laidB,aP zo,aR a,treeB,aB,aB,jy,jy]
  omega
 obtain⟨d,c⟩:=hf.rows a
 obtain⟨f,_⟩:=hf.com a
 have g:=hf.note a
 have e:(x.rows.flatMap yj3).length≤x.rows.length*400:=B1 fun r b=>chgB_le (c r b)
 have h:=hx.tree
 have i:=hx.base
 have j:=zz5 (n:=32) hx.parents
 rw[laidB,aP zo,aP zo,comB]
 simp only[aB,jy,qy]
 omega
theorem right6_calls (w:World) {x:jq} {a:vb} (hx:u4 x) (hxl:B7 w x a) (hsx:A5 x):
  gn prog 94 [.agg (jn x a).toArray] w fun v w'=>v= .bool (decide (x9 x))∧Ext No w w':=by
 refine gx func94 ?_
 have c:=Ext.refl No w
 refine ko (gw rfl fun n m o b f=> ?_)
 have c:=c.gb f
 have b:gz m n 37 (jn x a):=b
 refine km rfl (ji (α:=Bool) [] rfl (fun z=>[(2,.bool z)]) (fun z u=>(z=decide (x9 x))∧Ext No w u) ?_ ?_)
 ·refine gy ?_
  refine je b rfl (gp hx) (gh call160 rfl (fields6_calls m hx (hxl.ga c) hsx) fun s p g=> ?_)
  obtain⟨rfl,d⟩:=g
  have b:=b.ga d
  have c:=c.gb d
  refine j0 gc rfl (ja 5 rfl (fun i=> ?_) (fun i=> ?_))
  ·have e:=i
   refine je b rfl (gp hx) (gh call99 rfl (Dd p hx (hxl.ga c) (bytes_of e)) fun t y j=> ?_)
   obtain⟨q,k,rfl,A,r,l⟩:=j
   have c:=c.gb l
   refine gq gc 4 rfl (gk ?_)
   exact gr (_) rfl ⟨by rw[aH];exact⟨fun h=>⟨e,by omega⟩,fun h=>by have:=h.2;omega⟩,c⟩
  have e:=i
  refine gq gc 6 rfl (gk ?_)
  exact gr (false) rfl ⟨by symm;rw[aC];exact fun h=>e h.1,c⟩
 rintro z B ⟨rfl,c⟩
 refine j9 (gv rfl rfl ?_)
 exact⟨rfl,c⟩
theorem id6_calls (w:World) {x:jq} {a:vb} (hx:u4 x) (hxl:B7 w x a) (hf:BytesIn x):
  gn prog 50 [.agg (jn x a).toArray] w fun v w'=>v= .agg (ge (Be x)).toArray∧Ext No w w':=by
 have p:=laid_le hx hf
 refine gx func50 ?_
 have c:=Ext.refl No w
 refine ko (gw rfl fun r s t d i=> ?_)
 have c:=c.gb i
 have d:gz s r 37 (jn x a):=d
 refine gw rfl fun u y j b e=> ?_
 have l:=aA c.size j
 have d:=d.ga e
 have c:=c.gb e
 refine qq (ko (je d rfl (gp hx) (gh call99 rfl (Dd y hx (hxl.ga c) hf) fun D z m=> ?_)))
 obtain⟨q,k,rfl,A,B,f⟩:=m
 have b:=b.ga f
 have c:=c.gb f
 refine gh call130 rfl (refSum_calls z A.sl zo) fun E F n=> ?_
 obtain⟨rfl,g⟩:=n
 have b:=b.ga g
 have c:=c.gb g
 refine wl (j4 (l':=ge (Be x)) gc b rfl rfl (by rw[gm,vu]) (by rw[gm,vu];rfl) OneC.h fun G b o C=> ?_)
 have c:=c.gi o l
 refine qq (j9 (qe [_] ⟨⟨u,0,rfl,qg gc rfl rfl b.kj (by rw[gm,vu];rfl)⟩,trivial⟩ ?_))
 exact⟨rfl,c⟩
theorem same6_calls (w:World) {x y:jq} {a b:vb} (hx:u4 x) (hy:u4 y) (hxl:B7 w x a) (hyl:B7 w y b) (hsx:A5 x):
  gn prog 17 [.agg (jn x a).toArray,.agg (jn y b).toArray] w fun v w'=>v= .bool (decide (x=y))∧Ext No w w':=by
 have hlx1:=hsx.leaves
 have hlx2:=hsx.parents
 have hlx3:=hsx.rows
 refine gx func17 ?_
 have hX:=Ext.refl No w
 refine ko (gw rfl fun b2 w1 hn2 hb2 hE1=> ?_)
 have hX:=hX.gb hE1
 have hb2:gz w1 b2 37 (jn x a):=hb2
 have oa:=hb2.kj.obj hx
 refine gw rfl fun b3 w2 hn3 hb3 hE2=> ?_
 have hb2:=hb2.ga hE2
 have oa:=oa.ga hE2
 have hX:=hX.gb hE2
 have hb3:gz w2 b3 37 (jn y b):=hb3
 have ob:=hb3.kj.obj hy
 refine km rfl (gl ?_)
 refine ji (α:=Bool) [2,3] rfl (fun z=>[(34,.bool z)]) (fun z u=>(z=decide (¬(x.leaves.length=y.leaves.length∧x.parents.length=y.parents.length∧x.rows.length=y.rows.length)))∧gz u b2 37 (jn x a)∧gz u b3 37 (jn y b)∧Ext No w u) ?_ ?_
 ·refine gy ?_
  refine j0 gc rfl (gu rfl oa.leaves (j0 gc rfl (gu rfl ob.leaves (j0 gc rfl (ja 15 rfl (fun hg=> ?_) (fun hg=> ?_))))))
  ·refine gq gc 19 rfl ?_
   refine gk ?_
   exact gr (true) rfl ⟨by symm;rw[aU];intro h;omega,hb2,hb3,hX⟩
  refine gq gc 1 rfl ?_
  refine gu rfl oa.parents (gq gc 2 rfl (gu rfl ob.parents (gq gc 4 rfl (ja 24 rfl (fun hg=> ?_) (fun hg=> ?_)))))
  ·refine gq gc 10 rfl ?_
   refine gk ?_
   exact gr (true) rfl ⟨by symm;rw[aU];intro h;omega,hb2,hb3,hX⟩
  refine gq gc 2 rfl ?_
  refine gu rfl oa.rows (gq gc 3 rfl (gu rfl ob.rows (gq gc 3 rfl (gk ?_))))
  exact gr (_) rfl ⟨by rw[aH];omega,hb2,hb3,hX⟩
 rintro z w3 ⟨rfl,hb2,hb3,hX⟩
 have oa:=hb2.kj.obj hx
 have ob:=hb3.kj.obj hy
 refine jl rfl (fun hc=> ?_) (fun hc=> ?_)
 ·refine gl ?_
  refine gy (vr rfl (j7 (gv rfl rfl ?_)))
  exact⟨congrArg Value.bool (by symm;rw[aC];intro e;subst e;exact hc ⟨rfl,rfl,rfl⟩),hX⟩
 obtain⟨hl1,hl2,hl3⟩:=aS.1 hc
 refine x3 (gl (ki rfl (gu rfl oa.leaves (km rfl (j8 ?_)))))
 refine jj (α:=Nat) [2,3,37] rfl (fun z=>[(38,.int .i64 (z:Int))]) (fun z u=>(z≤x.leaves.length∧∀k (hk:k<x.leaves.length),k<z→x.leaves[k]=y.leaves[k]'zo)∧gz u b2 37 (jn x a)∧gz u b3 37 (jn y b)∧Ext No w u) (fun z u=>x.leaves.length-z) (0) rfl ⟨⟨aJ _,fun k _ h=>absurd h (bW _)⟩,hb2,hb3,hX⟩ ?_
 rintro i w4 ⟨⟨hi,hok⟩,hb2,hb3,hX⟩
 have oa:=hb2.kj.obj hx
 have ob:=hb3.kj.obj hy
 refine jd rfl (gl (jl rfl (fun hc=> ?_) (fun hc=> ?_)))
 ·have hi:i<x.leaves.length:=by omega
  have him:i<y.leaves.length:=by omega
  obtain⟨ba,oa1,hpa,hsa⟩:=hxl.leaves.qd (fun r hr=>jf.len (hx.leaves r hr).2) zo
  obtain⟨bb,ob1,hpb,hsb⟩:=hyl.leaves.qd (fun r hr=>jf.len (hy.leaves r hr).2) zo
  have ha1:=hx.leaves _ (aG hi)
  have ha2:=hy.leaves _ (aG him)
  refine Ac (jd rfl (gl ?_))
  refine jr rfl 11 [qP 0,qP 1,qP 2,qP 3,qP 4,qP 5,qP 6,qP 7,qP 8,qP 9,qP 10] [] (No) zk fun w5 hE5 hs5=> ?_
  have oad:=oa
  have obd:=ob
  have hXd:=hX
  have hb2:=hb2.ga hE5
  have hb3:=hb3.ga hE5
  have hX:=hX.gb hE5
  refine gt gc 1 rfl (j3 gc rfl rfl (fun w' hw'=>(oad.ga hw').leaves) ?_)
  rw[hpa]
  refine gt gc 1 rfl (qk gc rfl rfl 33 rfl i rfl zo (oa1+i*33) rfl (qa gc rfl rfl (fun w' hw'=>((hsa i hi).ga (hXd.gb hw'))) (jf.len ha1.2) ?_))
  refine gt gc 1 rfl (j3 gc rfl rfl (fun w' hw'=>(obd.ga hw').leaves) ?_)
  rw[hpb]
  refine gt gc 1 rfl (qk gc rfl rfl 33 rfl i rfl zo (ob1+i*33) rfl (qa gc rfl rfl (fun w' hw'=>((hsb i him).ga (hXd.gb hw'))) (jf.len ha2.2) ?_))
  refine zv4 rfl rfl gLeafD 10 zd kLeafD (leafForm (jf.len ha1.2)) (leafForm (jf.len ha2.2)) (leafKey ha1.1 ha1.2) (leafKey ha2.1 ha2.2) leaf_eq ?_
  simp only[bI,cX]
  refine jg (j5 (jp (jl rfl (fun hc=> ?_) (fun hc=> ?_))))
  ·refine gl ?_
   refine gy (vr rfl (gGl (gv rfl rfl ?_)))
   exact⟨congrArg Value.bool (by symm;rw[aC];intro e;subst e;exact hc rfl),hX⟩
  have hei:=aS.1 hc
  refine kc (Aa rfl ?_)
  rw[jz _ zo]
  refine gk ?_
  exact jk (i+1) rfl ⟨⟨by omega,fun k hk hlt=>(by rcases bF k i with h0|h0;exact hok k hk h0;(have e:k=i:=zo);subst e;exact hei)⟩,hb2,hb3,hX⟩ zf
 have e1:x.leaves=y.leaves:=Cr hl1 fun k hk=>hok k hk zo
 refine Ak (gl (ki rfl (gu rfl oa.parents (km rfl (j8 ?_)))))
 refine jj (α:=Nat) [2,3,55] rfl (fun z=>[(56,.int .i64 (z:Int))]) (fun z u=>(z≤x.parents.length∧∀k (hk:k<x.parents.length),k<z→x.parents[k]=y.parents[k]'zo)∧gz u b2 37 (jn x a)∧gz u b3 37 (jn y b)∧Ext No w u) (fun z u=>x.parents.length-z) (0) rfl ⟨⟨aJ _,fun k _ h=>absurd h (bW _)⟩,hb2,hb3,hX⟩ ?_
 rintro i w6 ⟨⟨hi,hok⟩,hb2,hb3,hX⟩
 have oa:=hb2.kj.obj hx
 have ob:=hb3.kj.obj hy
 refine jd rfl (gl (jl rfl (fun hc=> ?_) (fun hc=> ?_)))
 ·have hi:i<x.parents.length:=by omega
  have him:i<y.parents.length:=by omega
  obtain⟨ba,oa1,hpa,hsa⟩:=hxl.parents.qd (fun r hr=>uv.len (hx.parents r hr)) zo
  obtain⟨bb,ob1,hpb,hsb⟩:=hyl.parents.qd (fun r hr=>uv.len (hy.parents r hr)) zo
  have ha1:uv _:=hx.parents _ (aG hi)
  have ha2:uv _:=hy.parents _ (aG him)
  refine Ac (jd rfl (gl ?_))
  refine jr rfl 11 [qP 0,qP 1,qP 2,qP 3,qP 4,qP 5,qP 6,qP 7,qP 8,qP 9,qP 10] [] (No) zk fun w7 hE7 hs7=> ?_
  have oad:=oa
  have obd:=ob
  have hXd:=hX
  have hb2:=hb2.ga hE7
  have hb3:=hb3.ga hE7
  have hX:=hX.gb hE7
  refine gt gc 1 rfl (j3 gc rfl rfl (fun w' hw'=>(oad.ga hw').parents) ?_)
  rw[hpa]
  refine gt gc 1 rfl (qk gc rfl rfl 32 rfl i rfl zo (oa1+i*32) rfl (qa gc rfl rfl (fun w' hw'=>((hsa i hi).ga (hXd.gb hw'))) ha1.len ?_))
  refine gt gc 1 rfl (j3 gc rfl rfl (fun w' hw'=>(obd.ga hw').parents) ?_)
  rw[hpb]
  refine gt gc 1 rfl (qk gc rfl rfl 32 rfl i rfl zo (ob1+i*32) rfl (qa gc rfl rfl (fun w' hw'=>((hsb i him).ga (hXd.gb hw'))) ha2.len ?_))
  refine zv4 rfl rfl gId 10 zd kId (ue ha1) (ue ha2) (vt ha1) (vt ha2) ua ?_
  simp only[bI,cX]
  refine jg (j5 (jp (jl rfl (fun hc=> ?_) (fun hc=> ?_))))
  ·refine gl ?_
   refine gy (vr rfl (gGl (gv rfl rfl ?_)))
   exact⟨congrArg Value.bool (by symm;rw[aC];intro e;subst e;exact hc rfl),hX⟩
  have hei:=aS.1 hc
  refine kc (Aa rfl ?_)
  rw[jz _ zo]
  refine gk ?_
  exact jk (i+1) rfl ⟨⟨by omega,fun k hk hlt=>(by rcases bF k i with h0|h0;exact hok k hk h0;(have e:k=i:=zo);subst e;exact hei)⟩,hb2,hb3,hX⟩ zf
 have e2:x.parents=y.parents:=Cr hl2 fun k hk=>hok k hk zo
 refine Ak (gl (ki rfl (gu rfl oa.rows (km rfl (j8 ?_)))))
 refine jj (α:=Nat) [2,3,74] rfl (fun z=>[(75,.int .i64 (z:Int))]) (fun z u=>(z≤x.rows.length∧∀k (hk:k<x.rows.length),k<z→x.rows[k]=y.rows[k]'zo)∧gz u b2 37 (jn x a)∧gz u b3 37 (jn y b)∧Ext No w u) (fun z u=>x.rows.length-z) (0) rfl ⟨⟨aJ _,fun k _ h=>absurd h (bW _)⟩,hb2,hb3,hX⟩ ?_
 rintro i w8 ⟨⟨hi,hok⟩,hb2,hb3,hX⟩
 have oa:=hb2.kj.obj hx
 have ob:=hb3.kj.obj hy
 refine jd rfl (gl (jl rfl (fun hc=> ?_) (fun hc=> ?_)))
 ·have hi:i<x.rows.length:=by omega
  have him:i<y.rows.length:=by omega
  obtain⟨ba,oa1,hpa,hsa⟩:=hxl.rows.qd (fun r _=>r.len) zo
  obtain⟨bb,ob1,hpb,hsb⟩:=hyl.rows.qd (fun r _=>r.len) zo
  have ha1:=hx.rows _ (aG hi)
  have ha2:=hy.rows _ (aG him)
  refine Ac (jd rfl (gl ?_))
  refine jr rfl 13 [qP 0,qP 1,qP 2,qP 3,qP 4,qP 5,qP 6,qP 7,qP 8,qP 9,qP 10,qP 11,qP 12] [] (No) zk fun w9 hE9 hs9=> ?_
  have oad:=oa
  have obd:=ob
  have hXd:=hX
  have hb2:=hb2.ga hE9
  have hb3:=hb3.ga hE9
  have hX:=hX.gb hE9
  refine gt gc 2 rfl (j3 gc rfl rfl (fun w' hw'=>(oad.ga hw').rows) ?_)
  rw[hpa]
  refine gt gc 1 rfl (qk gc rfl rfl 3 rfl i rfl zo (oa1+i*3) rfl (qa gc rfl rfl (fun w' hw'=>((hsa i hi).ga (hXd.gb hw'))) rfl ?_))
  refine gt gc 2 rfl (j3 gc rfl rfl (fun w' hw'=>(obd.ga hw').rows) ?_)
  rw[hpb]
  refine gt gc 1 rfl (qk gc rfl rfl 3 rfl i rfl zo (ob1+i*3) rfl (qa gc rfl rfl (fun w' hw'=>((hsb i him).ga (hXd.gb hw'))) rfl ?_))
  refine zv4 rfl rfl gChgD 10 zd kChgD (chgForm rfl) (chgForm rfl) (chgKey ha1.1 ha1.2) (chgKey ha2.1 ha2.2) chg_eq ?_
  simp only[bI,cX]
  refine jg (j5 (jp (jl rfl (fun hc=> ?_) (fun hc=> ?_))))
  ·refine gl ?_
   refine gy (vr rfl (gGl (gv rfl rfl ?_)))
   exact⟨congrArg Value.bool (by symm;rw[aC];intro e;subst e;exact hc rfl),hX⟩
  have hei:=aS.1 hc
  refine kc (Aa rfl ?_)
  rw[jz _ zo]
  refine gk ?_
  exact jk (i+1) rfl ⟨⟨by omega,fun k hk hlt=>(by rcases bF k i with h0|h0;exact hok k hk h0;(have e:k=i:=zo);subst e;exact hei)⟩,hb2,hb3,hX⟩ zf
 have e3:x.rows=y.rows:=Cr hl3 fun k hk=>hok k hk zo
 refine Ak (ji (α:=Bool) [] rfl (fun z=>[(4,.bool z)]) (fun z u=>(z=decide (x=y))∧Ext No w u) ?_ ?_)
 ·refine gy ?_
  refine j0 gc rfl (gu rfl oa.kind (j0 gc rfl (gu rfl ob.kind (j0 gc rfl (ja 97 rfl (fun hg=> ?_) (fun hg=> ?_))))))
  ·have t1:x.kind=y.kind:=by exact hg
   refine gq gc 1 rfl (gu rfl oa.text (gq gc 1 rfl (gu rfl ob.text (gq gc 3 rfl (ja 104 rfl (fun hg=> ?_) (fun hg=> ?_))))))
   ·have t2:x.text=y.text:=by exact str_iff.1 hg
    refine gq gc 1 rfl (gu rfl oa.style (gq gc 1 rfl (gu rfl ob.style (gq gc 3 rfl (ja 111 rfl (fun hg=> ?_) (fun hg=> ?_))))))
    ·have t3:x.style=y.style:=by exact hg
     refine gq gc 1 rfl (jm rfl oa.tree (uv.len hx.tree) (gq gc 1 rfl (jm rfl ob.tree (uv.len hy.tree) ?_)))
     refine wl (C0 rfl gId 10 zd kId (ue hx.tree) (ue hy.tree) (vt hx.tree) (vt hy.tree) ua ?_)
     simp only[cO]
     refine j0 gc rfl (ja 118 rfl (fun hg=> ?_) (fun hg=> ?_))
     ·have t4:x.tree=y.tree:=by exact hg
      refine gq gc 1 rfl (jm rfl oa.base (uv.len hx.base) (gq gc 1 rfl (jm rfl ob.base (uv.len hy.base) ?_)))
      refine wl (C0 rfl gId 10 zd kId (ue hx.base) (ue hy.base) (vt hx.base) (vt hy.base) ua ?_)
      simp only[cO]
      refine j0 gc rfl (ja 125 rfl (fun hg=> ?_) (fun hg=> ?_))
      ·have t5:x.base=y.base:=by exact hg
       refine gq gc 1 rfl (gu rfl oa.number (gq gc 1 rfl (gu rfl ob.number (gq gc 3 rfl (ja 132 rfl (fun hg=> ?_) (fun hg=> ?_))))))
       ·have t6:x.number=y.number:=by omega
        refine gq gc 1 rfl (gu rfl oa.author (gq gc 1 rfl (gu rfl ob.author (gq gc 3 rfl (ja 139 rfl (fun hg=> ?_) (fun hg=> ?_))))))
        ·have t7:x.author=y.author:=by omega
         refine gq gc 1 rfl (gu rfl oa.note (gq gc 1 rfl (gu rfl ob.note (gq gc 3 rfl (gk ?_)))))
         exact gr (_) rfl ⟨by rw[aH,str_iff];exact⟨fun h=>same_iff.2 ⟨⟨t1,t2,t3,t4,t5,t6,t7,h⟩,e1,e2,e3⟩,fun h=>(same_iff.1 h).1.2.2.2.2.2.2.2⟩,hX⟩
        have n7:¬x.author=y.author:=fun e=>hg (by rw[e])
        refine gq gc 7 rfl (gk ?_)
        exact gr (false) rfl ⟨by symm;rw[aC];intro e;have h:=(same_iff.1 e).1;exact n7 h.2.2.2.2.2.2.1,hX⟩
       have n6:¬x.number=y.number:=fun e=>hg (by rw[e])
       refine gq gc 14 rfl (gk ?_)
       exact gr (false) rfl ⟨by symm;rw[aC];intro e;have h:=(same_iff.1 e).1;exact n6 h.2.2.2.2.2.1,hX⟩
      have n5:¬x.base=y.base:=fun e=>hg (by rw[e])
      refine gq gc 21 rfl (gk ?_)
      exact gr (false) rfl ⟨by symm;rw[aC];intro e;have h:=(same_iff.1 e).1;exact n5 h.2.2.2.2.1,hX⟩
     have n4:¬x.tree=y.tree:=fun e=>hg (by rw[e])
     refine gq gc 28 rfl (gk ?_)
     exact gr (false) rfl ⟨by symm;rw[aC];intro e;have h:=(same_iff.1 e).1;exact n4 h.2.2.2.1,hX⟩
    have n3:¬x.style=y.style:=fun e=>hg (by rw[e])
    refine gq gc 35 rfl (gk ?_)
    exact gr (false) rfl ⟨by symm;rw[aC];intro e;have h:=(same_iff.1 e).1;exact n3 h.2.2.1,hX⟩
   have n2:¬x.text=y.text:=fun e=>hg (by rw[e])
   refine gq gc 42 rfl (gk ?_)
   exact gr (false) rfl ⟨by symm;rw[aC];intro e;have h:=(same_iff.1 e).1;exact n2 h.2.1,hX⟩
  have n1:¬x.kind=y.kind:=fun e=>hg (by rw[e])
  refine gq gc 49 rfl (gk ?_)
  exact gr (false) rfl ⟨by symm;rw[aC];intro e;have h:=(same_iff.1 e).1;exact n1 h.1,hX⟩
 rintro z w10 ⟨rfl,hX⟩
 refine j9 (gv rfl rfl ?_)
 exact⟨rfl,hX⟩
theorem objC_parents {o:jq} {a:vb} (h:u4 o) {p:Option Addr} {c:Nat}:(jn o a).set (68+0) (.slice p o.parents.length c)=jn o ⟨a.lp,a.lc,p,c,a.rp,a.rc⟩:=yc h 0 _
theorem objC_rows {o:jq} {a:vb} (h:u4 o) {p:Option Addr} {c:Nat}:(jn o a).set (68+1) (.slice p o.rows.length c)=jn o ⟨a.lp,a.lc,a.pp,a.pc,p,c⟩:=yc h 1 _
variable {P:Program} {f:Fs} {ops:Array Oper} {K:Act→World→Prop} {r:Dr} {k:Nat} {dn:List Nat} {env:Env} {w:World}
theorem wx_q (i:Nat) (hk:k=k.pred+1) (_:(Region.ready .any ops (mk ops.size dn)).contains i=true) (hp:B0 ops r.A k.pred [(i,true)] r.pb dn=true) (h:WD P f ops K {r with m:=k.pred} [(i,true)] dn env w):WX P f ops K r k dn env w:=qm [(i,true)] k.pred (hk.trans (Nat.add_comm _ 1)) hp h
theorem wx_a (is:List Nat) (hk:k=k.pred+1) (h1:(Region.ready .any ops (mk ops.size dn)==is)=true) (h2:(is.all r.A&& !is.isEmpty)=true) (h:Alts P f ops K r k.pred dn env w is):WX P f ops K r k dn env w:=As is hk (by rw[h1,Bool.true_and];exact h2) h
set_option maxHeartbeats 4000000 in
theorem copy6_calls (w : World) {x : jq} {a : vb} (hx : u4 x) (hxl : B7 w x a) (hlx1 : x.leaves.length < 1000000000) (hlx2 : x.parents.length < 1000000000) (hlx3 : x.rows.length < 1000000000) :
    gn prog 122 [.agg (jn x a).toArray] w fun v w' => ∃ a', v = .agg (jn x a').toArray ∧ qw w w' x a' ∧ Ext No w w' := by
  refine gx func122 ?_
  have hX := Ext.refl No w
  refine ko (gw rfl fun b1 w1 hn1 hb1 hE1 => ?_)
  have fr1 := aA hX.size hn1
  have hX := hX.gb hE1
  have hb1 : gz w1 b1 37 (jn x a) := hb1
  refine gw rfl fun b2 w2 hn2 hb2 hE2 => ?_
  have ne1_2 := j2 hb1.lt hn2
  have fr2 := aA hX.size hn2
  have hb1 := hb1.ga hE2
  have hX := hX.gb hE2
  refine qq (ji (α := vb) [1, 2] rfl (fun z => []) (fun z u => (qw w u x z) ∧ gz u b1 37 (jn x z) ∧ gz u b2 37 (cellsOf ti37.zero) ∧ Ext No w u) ?_ ?_)
  · refine zz7 rfl 14 14 [14, 15, 16, 17, 18, 19] (No) zk fun w3 hE3 hs3 => ?_
    have hd1 := hb1
    have hb1 := hb1.ga hE3
    have hb2 := hb2.ga hE3
    have hC : Ext No _ w3 := hE3
    refine qm [qP 1, qP 2, qP 5, qP 6, qP 9, qP 10, qP 11] 7 rfl zk (gt gc 1 rfl (j3 gc rfl rfl (fun w' hw' => ((hd1.ga hw').kj.obj hx).leaves) ?_))
    refine gt gc 1 rfl (j3 gc rfl rfl (fun w' hw' => ((hd1.ga hw').kj.obj hx).parents) ?_)
    refine gt gc 2 rfl (j3 gc rfl rfl (fun w' hw' => ((hd1.ga hw').kj.obj hx).rows) ?_)
    refine yd rfl ?_
    repeat' first
      | (refine wx_q 13 rfl zq zk (gt gc 1 rfl (yd rfl ?_)))
      | (refine qm [] 0 rfl zk (jg ?_)
         have hX3 := hX.size
         have hX := hX.gb hC
         have hb1o := hb1
         refine wb rfl (yi gc hb1 rfl rfl rfl fun u hb1 hE hs => ?_)
         have hb2 := hb2.gj hE ne1_2.symm
         have hL := hL.gj hE hb1o zd
         have hP := hP.gj hE hb1o zd
         have hR := hR.gj hE hb1o zd
         have hX := hX.gi hE fr1
         have hb1 : gz u b1 37 (jn x ⟨qL, kL, a.pp, a.pc, a.rp, a.rc⟩) := hb1
         refine wb rfl (zx9 gc rfl rfl rfl ?_)
         have hb1o := hb1
         refine wb rfl (qz gc hb1 rfl rfl (by rw [gp hx]; decide) fun u hb1 hE hs => ?_)
         have hb2 := hb2.gj hE ne1_2.symm
         have hL := hL.gj hE hb1o zd
         have hP := hP.gj hE hb1o zd
         have hR := hR.gj hE hb1o zd
         have hX := hX.gi hE fr1
         have hb1 : gz u b1 37 (jn x ⟨qL, kL, qP, kP, a.rp, a.rc⟩) := by have h : gz _ b1 _ ((jn x ⟨qL, kL, a.pp, a.pc, a.rp, a.rc⟩).set (68 + 0) (.slice qP x.parents.length kP)) := hb1; rw [objC_parents hx] at h; exact h
         refine wb rfl (zx9 gc rfl rfl rfl ?_)
         refine wb rfl (zx9 gc rfl rfl rfl ?_)
         have hb1o := hb1
         refine wb rfl (qz gc hb1 rfl rfl (by rw [gp hx]; decide) fun u hb1 hE hs => ?_)
         have hb2 := hb2.gj hE ne1_2.symm
         have hL := hL.gj hE hb1o zd
         have hP := hP.gj hE hb1o zd
         have hR := hR.gj hE hb1o zd
         have hX := hX.gi hE fr1
         have hb1 : gz u b1 37 (jn x ⟨qL, kL, qP, kP, qR, kR⟩) := by have h : gz _ b1 _ ((jn x ⟨qL, kL, qP, kP, a.rp, a.rc⟩).set (68 + 1) (.slice qR x.rows.length kR)) := hb1; rw [objC_rows hx] at h; exact h
         refine j5 ?_
         exact gr (⟨qL, kL, qP, kP, qR, kR⟩) rfl ⟨⟨hL.own, hP.own, hR.own, (hL.older hX3).new, (hP.older hX3).new, (hR.older hX3).new⟩, hb1, hb2, hX⟩)
      | (refine wx_a [0, 4, 8] rfl zq zk ?_; refine ⟨⟨_, rfl, ?_⟩, ⟨_, rfl, ?_⟩, ⟨_, rfl, ?_⟩, trivial⟩)
      | (refine wx_a [3, 4, 8] rfl zq zk ?_; refine ⟨⟨_, rfl, ?_⟩, ⟨_, rfl, ?_⟩, ⟨_, rfl, ?_⟩, trivial⟩)
      | (refine wx_a [0, 8] rfl zq zk ?_; refine ⟨⟨_, rfl, ?_⟩, ⟨_, rfl, ?_⟩, trivial⟩)
      | (refine wx_a [0, 4] rfl zq zk ?_; refine ⟨⟨_, rfl, ?_⟩, ⟨_, rfl, ?_⟩, trivial⟩)
      | (refine wx_a [3, 8] rfl zq zk ?_; refine ⟨⟨_, rfl, ?_⟩, ⟨_, rfl, ?_⟩, trivial⟩)
      | (refine wx_a [3, 4] rfl zq zk ?_; refine ⟨⟨_, rfl, ?_⟩, ⟨_, rfl, ?_⟩, trivial⟩)
      | (refine wx_a [0] rfl zq zk ?_; refine ⟨⟨_, rfl, ?_⟩, trivial⟩)
      | (refine wx_a [3] rfl zq zk ?_; refine ⟨⟨_, rfl, ?_⟩, trivial⟩)
      | (refine wx_a [4, 8] rfl zq zk ?_; refine ⟨⟨_, rfl, ?_⟩, ⟨_, rfl, ?_⟩, trivial⟩)
      | (refine wx_a [7, 8] rfl zq zk ?_; refine ⟨⟨_, rfl, ?_⟩, ⟨_, rfl, ?_⟩, trivial⟩)
      | (refine wx_a [4] rfl zq zk ?_; refine ⟨⟨_, rfl, ?_⟩, trivial⟩)
      | (refine wx_a [7] rfl zq zk ?_; refine ⟨⟨_, rfl, ?_⟩, trivial⟩)
      | (refine wx_a [8] rfl zq zk ?_; refine ⟨⟨_, rfl, ?_⟩, trivial⟩)
      | (refine wx_a [12] rfl zq zk ?_; refine ⟨⟨_, rfl, ?_⟩, trivial⟩)
      | (refine qi gc rfl 33 rfl xz6 (jf.len rfl) zd zd trivial (l' := []) rfl fun b u hn hb hE hs => ⟨hC.gb hE, ?_⟩
         have hL := k8.blk (n := 0) (sz := 33) hb (aA hC.size hn) rfl (aJ _)
         try have hP := hP.ga hE
         try have hR := hR.ga hE
         have hb1 := hb1.ga hE
         have hb2 := hb2.ga hE
         have hC := hC.gb hE)
      | (have hLo := hL
         refine xj gc rfl 33 48 rfl rfl rfl zd hL (Src.slice (hxl.leaves.ga (hX.gb hC)) OneC.h) zm zn (n' := x.leaves.length) (ys := x.leaves.flatMap jf.cells) (bD _) rfl hC fun qL kL u hL hE hC => ⟨hC, ?_⟩
         dsimp only at hL hE
         try have hP := hP.zv5 hLo.own hE zd
         try have hR := hR.zv5 hLo.own hE zd
         have hb1 := hb1.ke hLo.own hE zd
         have hb2 := hb2.ke hLo.own hE zd)
      | (refine qi gc rfl 32 rfl A6.symm zj zd zd trivial (l' := []) rfl fun b u hn hb hE hs => ⟨hC.gb hE, ?_⟩
         have hP := k8.blk (n := 0) (sz := 32) hb (aA hC.size hn) rfl (aJ _)
         try have hL := hL.ga hE
         try have hR := hR.ga hE
         have hb1 := hb1.ga hE
         have hb2 := hb2.ga hE
         have hC := hC.gb hE)
      | (have hPo := hP
         refine xj gc rfl 32 32 rfl rfl rfl zd hP (Src.slice (hxl.parents.ga (hX.gb hC)) OneC.h) zm zn (n' := x.parents.length) (ys := x.parents.flatMap ge) (bD _) rfl hC fun qP kP u hP hE hC => ⟨hC, ?_⟩
         dsimp only at hP hE
         try have hL := hL.zv5 hPo.own hE zd
         try have hR := hR.zv5 hPo.own hE zd
         have hb1 := hb1.ke hPo.own hE zd
         have hb2 := hb2.ke hPo.own hE zd)
      | (refine qi gc rfl 3 rfl chgZ_c rfl zd zd trivial (l' := []) rfl fun b u hn hb hE hs => ⟨hC.gb hE, ?_⟩
         have hR := k8.blk (n := 0) (sz := 3) hb (aA hC.size hn) rfl (aJ _)
         try have hL := hL.ga hE
         try have hP := hP.ga hE
         have hb1 := hb1.ga hE
         have hb2 := hb2.ga hE
         have hC := hC.gb hE)
      | (have hRo := hR
         refine xj gc rfl 3 40 rfl rfl rfl zd hR (Src.slice (hxl.rows.ga (hX.gb hC)) OneC.h) zm zn (n' := x.rows.length) (ys := x.rows.flatMap u9.cells) (bD _) rfl hC fun qR kR u hR hE hC => ⟨hC, ?_⟩
         dsimp only at hR hE
         try have hL := hL.zv5 hRo.own hE zd
         try have hP := hP.zv5 hRo.own hE zd
         have hb1 := hb1.ke hRo.own hE zd
         have hb2 := hb2.ke hRo.own hE zd)
  rintro a' w116 ⟨hN, hb1, hb2, hX⟩
  refine ko (je hb1 rfl (gp hx) ?_)
  have hb2o := hb2
  refine wl (j4 (l' := jn x a') gc hb2 rfl rfl (gp hx) (gp hx) OneC.h fun w117 hb2 hE117 hs117 => ?_)
  have hN := hN.gj hE117 hb2o zd zd zd
  have hX := hX.gi hE117 fr2
  refine qq (j9 (qe [_] ⟨⟨b2, 0, rfl, qg gc rfl rfl hb2.kj (gp hx)⟩, trivial⟩ ?_))
  exact ⟨a', rfl, hN, hX⟩
def TkS (w:World) (tb:Nat) (s:Ds):Prop:=
  ∃p c,gz w tb 296 [.slice p s.rest.length c,.bool s.bad]∧s.rest.length≤c∧ux w p s.rest∧TyU w p
theorem TkS.ext {S:Nat→Prop} {w w':World} {tb:Nat} {s:Ds} (h:TkS w tb s) (hE:Ext S w w') (h1:¬S tb) (h2:∀b L,gz w b 5 L→¬S b):TkS w' tb s:=by
 obtain⟨p,c,hb,hc,hs,ht⟩:=h
 exact⟨p,c,hb.ext hE h1,hc,ux.ju hs ht hE h2,ht.ext hE h2⟩
theorem TkS.ga {w w':World} {tb:Nat} {s:Ds} (h:TkS w tb s) (hE:Ext No w w'):TkS w' tb s:=h.ext hE id fun _ _ _=>id
theorem TkS.lt {w:World} {tb:Nat} {s:Ds} (h:TkS w tb s):tb<w.heap.size:=by obtain⟨_,_,hb,_⟩:=h;exact hb.lt
theorem TkS.ne {w:World} {tb:Nat} {s:Ds} (h:TkS w tb s) {b T:Nat} {L:List Value} (hb:gz w b T L) (hT:296≠T):tb≠b:=by obtain⟨_,_,h,_⟩:=h;exact h.ne hb hT
theorem TkS.gj {w w':World} {tb:Nat} {s:Ds} (h:TkS w tb s) {x T:Nat} {L:List Value} (hE:Ext (One x) w w') (hb:gz w x T L) (h1:296≠T) (h2:5≠T):TkS w' tb s:=
 h.ext hE (fun e=>h.ne hb h1 e) fun _b _L hL e=>hL.ne hb h2 e
theorem TkS.cell {w:World} {tb:Nat} {s:Ds} (h:TkS w tb s):w.cell? ⟨tb,1,none⟩=some (.bool s.bad):=by
 obtain⟨_,_,hb,_⟩:=h
 exact hb.cell rfl
theorem off_bad {s:Ds} {n:Nat} (h:s.bad=true∨s.rest.length<n):s.off n=([],⟨s.rest,true⟩):=aR h
theorem off_ok {s:Ds} {n:Nat} (h:¬(s.bad=true∨s.rest.length<n)):s.off n=(s.rest.take n,⟨s.rest.drop n,false⟩):=aP h
theorem raw_tk (w:World) {tb:Nat} {s:Ds} (h:TkS w tb s) (_hl:s.rest.length<1000000000) (n:Nat):
  gn prog 219 [.pointer (some ⟨tb,0,none⟩),.int .i64 (n:Int)] w fun v w'=>∃q c,v= .slice q (s.off n).1.length c∧ux w' q (s.off n).1∧TkS w' tb (s.off n).2∧Ext (One tb) w w':=by
 obtain⟨p,c,a,d,x,r⟩:=h
 have f:∀(b:Nat) (L:List Value),gz w b 5 L→¬One tb b:=fun b L y e=>y.ne a zd e
 refine gx func219 ?_
 have o:=Ext.refl (One tb) w
 refine jd rfl (gl (ji (α:=Bool) [0,1] rfl (fun z=>[(18,.bool z)]) (fun z u=>u=w∧z=decide (s.bad=true∨s.rest.length<n)) ?_ ?_))
 ·refine gy ?_
  refine j0 gc rfl (gu rfl (a.cell rfl) (j0 gc rfl (uq 10 rfl (fun A=> ?_) (fun A=> ?_))))
  ·refine gq gc 8 rfl ?_
   refine gk ?_
   exact gr (true) rfl ⟨rfl,by symm;rw[aU];exact .inl A⟩
  refine gq gc 4 rfl ?_
  refine gu rfl (a.cell rfl) (gq gc 3 rfl (gk ?_))
  exact gr (_) rfl ⟨rfl,by rw[aH];exact⟨fun h=> .inr zo,fun h=>h.elim (fun h=>by rw[A] at h;cases h) (fun h=>by omega)⟩⟩
 rintro z K ⟨B,rfl⟩
 have B:=B.symm
 subst B
 refine jl rfl (fun t=> ?_) (fun t=> ?_)
 ·rw[off_bad t]
  refine ki rfl (kl a rfl rfl rfl fun H g l i=> ?_)
  have o:=o.then l
  have C:TkS H tb ⟨s.rest,true⟩:=⟨p,c,g,d,ux.ju x r l f,r.ext l f⟩
  refine qq (jd rfl (j9 (j7 (gv rfl rfl ?_))))
  exact⟨none,0,rfl,Sl.nil _ _ _,C,o⟩
 rw[off_ok t]
 have m:n≤s.rest.length:=Nat.not_lt.1 fun h=>t (.inr h)
 have D:s.bad=false:=by cases y:s.bad;rfl;exact absurd (.inl y) t
 refine x3 (ki rfl (gu rfl (a.cell rfl) (j0 gc rfl (wl (zv gc rfl 0 n c 1 rfl (.inr ⟨rfl,rfl⟩) (.inl rfl) (.inr ⟨rfl,rfl⟩) (aJ _) zo (aD _) ?_)))))
 dsimp only
 rw[jw,bB,bB]
 refine km rfl (ki rfl (gu rfl (a.cell rfl) (j0 gc rfl (wl (zv gc rfl n s.rest.length c 1 rfl (.inr ⟨rfl,rfl⟩) (.inr ⟨rfl,rfl⟩) (.inl rfl) m d (aD _) ?_)))))
 dsimp only
 refine j0 gc rfl (kl a rfl rfl rfl fun F g j I=> ?_)
 have o:=o.then j
 have k:=x.slice 0 n n (aJ _) (aD _) m
 have i:=x.slice n s.rest.length c m d (aD _)
 rw[jw,bB,cW,List.drop_zero,bE,ui] at k
 rw[bE,bE,uk,ui,aO zp] at i
 have G:(s.rest.take n).length=n:=by rw[aL];omega
 have E:(s.rest.drop n).length=s.rest.length-n:=by simp
 have k:ux w p (s.rest.take n):=by rw[ux,G];exact k
 have i:ux w (u6 p n c 1) (s.rest.drop n):=by rw[ux,E];exact i
 have a:gz F tb 296 [.slice (u6 p n c 1) (s.rest.drop n).length (c-n),.bool false]:=by rw[E,←D];exact g
 have C:TkS F tb ⟨s.rest.drop n,false⟩:=⟨_,_,a,by rw[E];omega,ux.ju i (r.sub _ _ _) j f,(r.sub _ _ _).ext j f⟩
 have J:=ux.ju k r j f
 refine qq (jd rfl (j9 (gv rfl rfl ?_)))
 exact⟨p,c,by rw[G],J,C,o⟩
theorem yx2 (w:World) {tb:Nat} {s:Ds} (h:TkS w tb s) (hl:s.rest.length<1000000000) (n:Nat) (hn:n≤8):
  gn prog 203 [.pointer (some ⟨tb,0,none⟩),.int .i64 (n:Int)] w fun v w'=>v= .int .u64 ((num (s.off n).1:Nat):Int)∧TkS w' tb (s.off n).2∧Ext (One tb) w w':=by
 refine gx func203 ?_
 have a:=Ext.refl (One tb) w
 refine jd rfl (ki rfl (gh call219 rfl (raw_tk w h hl n) fun k f b=> ?_))
 obtain⟨q,c,rfl,g,i,d⟩:=b
 have a:=a.then d
 have j:=(s.qc n).1
 refine gh call113 rfl (C7 f g zo) fun l m e=> ?_
 obtain⟨rfl,rfl⟩:=e
 refine vr rfl (gv rfl rfl ?_)
 exact⟨rfl,i,a⟩
theorem text_tk (w:World) {tb:Nat} {s:Ds} (h:TkS w tb s) (hl:s.rest.length<1000000000) (n:Nat) (hn:n≤4):
  gn prog 204 [.pointer (some ⟨tb,0,none⟩),.int .i64 (n:Int)] w fun v w'=>v=y7 (s.str n).1∧TkS w' tb (s.str n).2∧Ext (One tb) w w':=by
 have i:=s.ub n
 have j:256^n≤256^4:=cR zd hn
 have k:=s.qc n
 refine gx func204 ?_
 have a:=Ext.refl (One tb) w
 refine jd rfl (ki rfl (gh call203 rfl (yx2 w h hl n zo) fun p l b=> ?_))
 obtain⟨rfl,m,d⟩:=b
 have a:=a.then d
 refine j0 gc rfl ?_
 rw[jz _ zo]
 refine gh call219 rfl (raw_tk l m zo (num (s.off n).1)) fun r t e=> ?_
 obtain⟨q,c,rfl,o,f,g⟩:=e
 have a:=a.then g
 refine wl (D4 gc rfl rfl o (vr rfl (gv rfl rfl ?_)))
 exact⟨rfl,f,a⟩
theorem id_tk (w:World) {tb:Nat} {s:Ds} (h:TkS w tb s) (hl:s.rest.length<1000000000):
  gn prog 205 [.pointer (some ⟨tb,0,none⟩)] w fun v w'=>v= .agg (ge s.id.1).toArray∧TkS w' tb s.id.2∧Ext (One tb) w w':=by
 refine gx func205 ?_
 have d:=Ext.refl (One tb) w
 refine ko (gw rfl fun J M B a n=> ?_)
 have C:=aA d.size B
 have d:=d.gb n
 have a:gz M J 30 (ge Ao):=(by rw[A6];exact a)
 have j:=h.ga n
 have D:=(j.ne a zd).symm
 refine qq (ko (gw rfl fun z N o b k=> ?_))
 have l:=j2 a.lt o
 have E:=aA d.size o
 have a:=a.ga k
 have d:=d.gb k
 have b:gz N z 30 (ge Ao):=(by rw[A6];exact b)
 have j:=j.ga k
 have F:=(j.ne b zd).symm
 refine qq (gl (jr rfl 4 [qP 0,qP 1,(2,false),(3,false)] [] ((fun x=>x=tb∨x=z)) zk fun K g O=> ?_))
 have a:=a.ga g
 have b:=b.ga g
 have d:=d.gb g
 have A:Ext ((fun x=>x=tb∨x=z)) _ K:=g.no
 have j:=j.ga g
 have m:=s.qc 32
 refine xv0 gc rfl rfl 0 32 32 1 rfl ⟨.inr ⟨rfl,rfl⟩,.inr ⟨rfl,rfl⟩,.inr ⟨rfl,rfl⟩,by decide,by decide,by decide⟩ ?_
 rw[jw,bB]
 refine gt gc 1 rfl (jo rfl (j1 call219 rfl (raw_tk K j hl 32) fun S T p=>⟨(by obtain⟨q,c,rfl,L,r,f⟩:=p;exact A.then (f.mono fun _ _ e=> .inl e)),?_⟩))
 obtain⟨q,c,rfl,L,r,f⟩:=p
 have a:=a.gj f D
 have b:=b.gj f F
 have d:=d.then f
 have A:=A.then (f.mono fun _ _ e=> .inl e)
 have t:=b
 refine jo rfl (zj1 gc rfl 1 rfl b (Src.slice L OneC.h) m.1 (by rw[gm];dsimp only;have:=m.1;simp;omega) fun P G i Q=>⟨A.then (i.mono fun _ _ e=> .inr e),?_⟩)
 have a:=a.gj i l
 have b:gz P z 30 (ge s.id.1):=by rw[Ds.id,←idZ_fill m.1];exact G
 have d:=d.gi i E
 have H:=r.gj i t zd zd
 refine jg (j5 (jp (ko (je b rfl (by rw[gm,s.un.1]) ?_))))
 have u:=a
 refine wl (j4 (l':=ge s.id.1) gc a rfl rfl (by rw[gm,s.un.1]) (by rw[gm,s.un.1];rfl) OneC.h fun U a y R=> ?_)
 have d:=d.gi y C
 have I:=H.gj y u zd zd
 refine qq (j9 (qe [_] ⟨⟨J,0,rfl,qg gc rfl rfl a.kj (by rw[gm,s.un.1];rfl)⟩,trivial⟩ ?_))
 exact⟨rfl,I,d⟩
structure Bc (W0 w:World) (rb b5:Nat) (o:jq) (a:vb) (s:Ds):Prop where
  tk:TkS w rb s
  bo:gz w b5 37 (jn o a)
  ol:Own w a.lp o.leaves.length a.lc 148 33 (o.leaves.flatMap jf.cells)
  op:Own w a.pp o.parents.length a.pc 30 32 (o.parents.flatMap ge)
  or:Own w a.rp o.rows.length a.rc 150 3 (o.rows.flatMap u9.cells)
  nl:∀x,jb a.lp x→W0.heap.size≤x
  np:∀x,jb a.pp x→W0.heap.size≤x
  nr:∀x,jb a.rp x→W0.heap.size≤x
  fr:W0.heap.size≤rb
  fo:W0.heap.size≤b5
  X:Ext No W0 w
  len:s.rest.length<1000000000
  oin:u4 o
  sh:A5 o
section
variable {W0 w w' w1 w2:World} {rb b5:Nat} {o:jq} {a:vb} {s s':Ds}
theorem Bc.ga (h:Bc W0 w rb b5 o a s) (hE:Ext No w w'):Bc W0 w' rb b5 o a s:=
 ⟨h.tk.ga hE,h.bo.ga hE,h.ol.ext hE fun _ _=>id,h.op.ext hE fun _ _=>id,h.or.ext hE fun _ _=>id,h.nl,h.np,h.nr,h.fr,h.fo,h.X.gb hE,h.len,h.oin,h.sh⟩
theorem Bc.neR (h:Bc W0 w rb b5 o a s) {b T:Nat} {L:List Value} (hb:gz w b T L) (hT:296≠T):b≠rb:=(h.tk.ne hb hT).symm
theorem Bc.read (h:Bc W0 w rb b5 o a s) (hR:TkS w' rb s') (hE:Ext (One rb) w w') (hl:s'.rest.length≤s.rest.length):Bc W0 w' rb b5 o a s':=by
 have j:∀{x T:Nat} {L:List Value},gz w x T L→296≠T→gz w' x T L:=fun f b=>f.gj hE (h.neR f b)
 have d:∀{p:Option Addr} {n c T sz:Nat} {xs:List Value},Own w p n c T sz xs→296≠T→Own w' p n c T sz xs:=fun g b=>g.ext hE fun x k e=>by
  have e:x=rb:=e
  obtain⟨l,hl⟩:=g.D7 k
  exact h.neR hl b e
 exact⟨hR,j h.bo zd,d h.ol zd,d h.op zd,d h.or zd,h.nl,h.np,h.nr,h.fr,h.fo,h.X.trans hE fun y m i=>by have i:y=rb:=i;have:=h.fr;omega,bL hl h.len,h.oin,h.sh⟩
structure SepT (W0:World) (rb b5:Nat) (a:vb) (x:Nat):Prop where
  r:rb≠x
  o:b5≠x
  l:¬jb a.lp x
  p:¬jb a.pp x
  c:¬jb a.rp x
  n:W0.heap.size≤x
theorem Bc.sep (h:Bc W0 w rb b5 o a s) {x:Nat} (hx:w.heap.size≤x):SepT W0 rb b5 a x:=
 ⟨by have:=h.tk.lt;omega,by have:=h.bo.lt;omega,fun e=>by have:=h.ol.lt e;omega,fun e=>by have:=h.op.lt e;omega,fun e=>by have:=h.or.lt e;omega,aA h.X.size hx⟩
theorem Bc.gj (h:Bc W0 w rb b5 o a s) {x T:Nat} {L:List Value} (hs:SepT W0 rb b5 a x) (hb:gz w x T L) (hT:5≠T) (hE:Ext (One x) w w'):Bc W0 w' rb b5 o a s:=
 ⟨h.tk.ext hE hs.r fun b L hL e=>hL.ne hb hT e,h.bo.gj hE hs.o,h.ol.ext hE fun y hy e=>by have e:y=x:=e;subst e;exact hs.l hy,h.op.ext hE fun y hy e=>by have e:y=x:=e;subst e;exact hs.p hy,h.or.ext hE fun y hy e=>by have e:y=x:=e;subst e;exact hs.c hy,
  h.nl,h.np,h.nr,h.fr,h.fo,h.X.gi hE hs.n,h.len,h.oin,h.sh⟩
theorem Bc.put (h:Bc W0 w rb b5 o a s) (hE:Ext (One b5) w w') {o':jq} (hb:gz w' b5 37 (jn o' a)) (e1:o'.leaves=o.leaves) (e2:o'.parents=o.parents) (e3:o'.rows=o.rows) (hi:u4 o') (hs:A5 o'):Bc W0 w' rb b5 o' a s:=
 ⟨h.tk.gj hE h.bo zd zd,hb,by rw[e1];exact h.ol.ju hE h.bo zd,by rw[e2];exact h.op.ju hE h.bo zd,by rw[e3];exact h.or.ju hE h.bo zd,
  h.nl,h.np,h.nr,h.fr,h.fo,h.X.trans hE fun y hy hF=>by have hF:y=b5:=hF;have:=h.fo;omega,h.len,hi,hs⟩
theorem TkS.ke (h:TkS w rb s) {p:Option Addr} {n c T sz:Nat} {xs:List Value} (ho:Own w p n c T sz xs) (hE:Ext (jb p) w w') (h1:296≠T) (h2:5≠T):TkS w' rb s:=
 h.ext hE (fun hx=>by obtain⟨l,hl⟩:=ho.D7 hx;exact h.ne hl h1 rfl) fun b L hL hx=>(ho.zj7 hx hL (Ne.symm h2)) rfl
theorem Bc.putLeaf (h:Bc W0 w rb b5 o a s) {p:Option Addr} {c:Nat} {r:jf} (hE1:Ext (jb a.lp) w w1) (ho:Own w1 p (o.leaves.length+1) c 148 33 (o.leaves.flatMap jf.cells++r.cells)) (hB:∀x,jb p x→jb a.lp x∨w.heap.size≤x)
  (hE2:Ext (One b5) w1 w2) (hb:gz w2 b5 37 (jn {o with leaves:=o.leaves++[r]} ⟨p,c,a.pp,a.pc,a.rp,a.rc⟩)) (hr:LeafIn r) (hp:r.path.length<1000000000) (hn:o.leaves.length<255):
  Bc W0 w2 rb b5 {o with leaves:=o.leaves++[r]} ⟨p,c,a.pp,a.pc,a.rp,a.rc⟩ s:=by
 have bo1:=h.bo.ke h.ol hE1 zd
 have e1:(o.leaves++[r]).length=o.leaves.length+1:=by rw[aB];rfl
 have e2:(o.leaves++[r]).flatMap jf.cells=o.leaves.flatMap jf.cells++r.cells:=by rw[bC];simp
 exact⟨(h.tk.ke h.ol hE1 zd zd).gj hE2 bo1 zd zd,hb,
  by rw[e1,e2];exact ho.ju hE2 bo1 zd,(h.op.ke h.ol hE1 zd).ju hE2 bo1 zd,(h.or.ke h.ol hE1 zd).ju hE2 bo1 zd,
  yv5 h.X h.nl hB,h.np,h.nr,h.fr,h.fo,
  (h.X.trans hE1 fun y hy hF=>by have:=h.nl y hF;omega).trans hE2 fun y hy hF=>by have hF:y=b5:=hF;have:=h.fo;omega,
  h.len,⟨h.oin.tree,h.oin.base,h.oin.parents,fun x hx=>by rcases aY.1 hx with hx|hx;exact h.oin.leaves x hx;rw[aI.1 hx];exact hr,h.oin.rows,h.oin.number,h.oin.author⟩,⟨by show(o.leaves++[r]).length<_;omega,h.sh.parents,h.sh.rows,fun x hx=>by rcases aY.1 hx with hx|hx;exact h.sh.leafP x hx;rw[aI.1 hx];exact hp,h.sh.rowP⟩⟩
theorem Bc.putId (h:Bc W0 w rb b5 o a s) {p:Option Addr} {c:Nat} {r:List UInt8} (hE1:Ext (jb a.pp) w w1) (ho:Own w1 p (o.parents.length+1) c 30 32 (o.parents.flatMap ge++ge r)) (hB:∀x,jb p x→jb a.pp x∨w.heap.size≤x)
  (hE2:Ext (One b5) w1 w2) (hb:gz w2 b5 37 (jn {o with parents:=o.parents++[r]} ⟨a.lp,a.lc,p,c,a.rp,a.rc⟩)) (hr:uv r) (hn:o.parents.length<255):
  Bc W0 w2 rb b5 {o with parents:=o.parents++[r]} ⟨a.lp,a.lc,p,c,a.rp,a.rc⟩ s:=by
 have bo1:=h.bo.ke h.op hE1 zd
 have e1:(o.parents++[r]).length=o.parents.length+1:=by rw[aB];rfl
 have e2:(o.parents++[r]).flatMap ge=o.parents.flatMap ge++ge r:=by rw[bC];simp
 exact⟨(h.tk.ke h.op hE1 zd zd).gj hE2 bo1 zd zd,hb,
  (h.ol.ke h.op hE1 zd).ju hE2 bo1 zd,by rw[e1,e2];exact ho.ju hE2 bo1 zd,(h.or.ke h.op hE1 zd).ju hE2 bo1 zd,
  h.nl,yv5 h.X h.np hB,h.nr,h.fr,h.fo,
  (h.X.trans hE1 fun y hy hF=>by have:=h.np y hF;omega).trans hE2 fun y hy hF=>by have hF:y=b5:=hF;have:=h.fo;omega,
  h.len,⟨h.oin.tree,h.oin.base,fun x hx=>by rcases aY.1 hx with hx|hx;exact h.oin.parents x hx;rw[aI.1 hx];exact hr,h.oin.leaves,h.oin.rows,h.oin.number,h.oin.author⟩,⟨h.sh.leaves,by show(o.parents++[r]).length<_;omega,h.sh.rows,h.sh.leafP,h.sh.rowP⟩⟩
theorem Bc.putChg (h:Bc W0 w rb b5 o a s) {p:Option Addr} {c:Nat} {r:u9} (hE1:Ext (jb a.rp) w w1) (ho:Own w1 p (o.rows.length+1) c 150 3 (o.rows.flatMap u9.cells++r.cells)) (hB:∀x,jb p x→jb a.rp x∨w.heap.size≤x)
  (hE2:Ext (One b5) w1 w2) (hb:gz w2 b5 37 (jn {o with rows:=o.rows++[r]} ⟨a.lp,a.lc,a.pp,a.pc,p,c⟩)) (hr:ChgIn r) (hp:r.path.length<1000000000) (hn:o.rows.length<255):
  Bc W0 w2 rb b5 {o with rows:=o.rows++[r]} ⟨a.lp,a.lc,a.pp,a.pc,p,c⟩ s:=by
 have bo1:=h.bo.ke h.or hE1 zd
 have e1:(o.rows++[r]).length=o.rows.length+1:=by rw[aB];rfl
 have e2:(o.rows++[r]).flatMap u9.cells=o.rows.flatMap u9.cells++r.cells:=by rw[bC];simp
 exact⟨(h.tk.ke h.or hE1 zd zd).gj hE2 bo1 zd zd,hb,
  (h.ol.ke h.or hE1 zd).ju hE2 bo1 zd,(h.op.ke h.or hE1 zd).ju hE2 bo1 zd,by rw[e1,e2];exact ho.ju hE2 bo1 zd,
  h.nl,h.np,yv5 h.X h.nr hB,h.fr,h.fo,
  (h.X.trans hE1 fun y hy hF=>by have:=h.nr y hF;omega).trans hE2 fun y hy hF=>by have hF:y=b5:=hF;have:=h.fo;omega,
  h.len,⟨h.oin.tree,h.oin.base,h.oin.parents,h.oin.leaves,fun x hx=>by rcases aY.1 hx with hx|hx;exact h.oin.rows x hx;rw[aI.1 hx];exact hr,h.oin.number,h.oin.author⟩,⟨h.sh.leaves,h.sh.parents,by show(o.rows++[r]).length<_;omega,h.sh.leafP,fun x hx=>by rcases aY.1 hx with hx|hx;exact h.sh.rowP x hx;rw[aI.1 hx];exact hp⟩⟩
end
theorem Bc.new {W0 w:World} {rb b5:Nat} {o:jq} {a:vb} {s:Ds} (h:Bc W0 w rb b5 o a s):qw W0 w o a:=⟨h.ol,h.op,h.or,h.nl,h.np,h.nr⟩
end Go.Proofs.YtpdiphfjmepijaaGreatDoor
