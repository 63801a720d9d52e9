/-
  Walks and laws towards: the bytes of batches, and the batch of whatever bytes (StoreCodes)
-/
import Derived.StringKeys
import Derived.Laws.IdiomRangeMap
import Derived.Lib.Overlaps
import Derived.LaidEql
import Derived.Test.YtpdiphfjmepijaaGreatDoorCdF
open List renaming flatMap_append→bC,mem_iff_getElem→bJ,mem_map→bN,getElem_map→bR,getElem?_toArray→bT,flatMap_singleton→bU,map_append→bX,getElem?_cons_zero→cN,take_left'→dG,flatMap_cons→dI,map_cons→dL
open Int renaming toNat_natCast→cC
open Array renaming ext'→cH,getElem?_eq_none→cI,getElem?_setIfInBounds_ne→dC,getElem?_eq_getElem→dK
open Nat renaming add_mul→cQ
open Classical renaming byContradiction→cZ
namespace Go.Proofs.YtpdiphfjmepijaaGreatDoor
open Go.Proofs.Tryz
open Go.Vc
abbrev IsStr (x:List UInt8):Prop:=x.length≤maxLen
theorem strK:KeyG prog 9 y7 IsStr:=
 ⟨WideMaps.string_law Tryz.underlying9,fun _ hx=>⟨_,WideMaps.keyOf_string_mk Tryz.underlying9 hx⟩,fun _ _ h=>xt (by injection h)⟩
structure SetP where
  op:Option Addr
  oc:Nat
  np:Option Addr
  nc:Nat
abbrev By:=yo×SetP
abbrev yj1:=jq×vb
def B6 (x:yj1):List Value:=jn x.1 x.2
def uz (x:By):List Value:=[y7 x.1.name,.bool x.1.was,.bool x.1.is,.slice x.2.op x.1.old.length x.2.oc,.slice x.2.np x.1.new.length x.2.nc]
theorem Bh (x:By):(uz x).length=5:=rfl
instance (x:By):OneC (uz x):=by unfold uz;infer_instance
instance (x:yj1):OneC (B6 x):=by unfold B6;infer_instance
theorem yq1 {l:List yj1} (h:∀x∈l,u4 x.1):∀x∈l,(B6 x).length=73:=fun x hx=>gp (h x hx)
structure SetAt (w:World) (x:By):Prop where
  old:ux w x.2.op x.1.old
  new:ux w x.2.np x.1.new
  ln:x.1.name.length<1000000000
  lo:x.1.old.length<1000000000
  lw:x.1.new.length<1000000000
theorem SetAt.ga {w w':World} {x:By} (h:SetAt w x) (hE:Ext No w w'):SetAt w' x:=⟨h.old.ga hE,h.new.ga hE,h.ln,h.lo,h.lw⟩
structure ObjAt' (w:World) (x:yj1):Prop where
  i:u4 x.1
  s:A5 x.1
  l:B7 w x.1 x.2
theorem ObjAt'.ga {w w':World} {x:yj1} (h:ObjAt' w x) (hE:Ext No w w'):ObjAt' w' x:=⟨h.i,h.s,h.l.ga hE⟩
structure qu where
  op:Option Addr
  oc:Nat
  os:List yj1
  sp:Option Addr
  sc:Nat
  ss:List By
def qu.d (b:qu):Bu:=⟨b.os.map Prod.fst,b.ss.map Prod.fst⟩
def qu.c (b:qu):List Value:=[.slice b.op b.os.length b.oc,.slice b.sp b.ss.length b.sc]
abbrev qu.v (b:qu):Value:= .agg b.c.toArray
instance (b:qu):OneC b.c:=by unfold qu.c;infer_instance
theorem qu.len (b:qu):b.c.length=2:=rfl
structure C9 (w:World) (b:qu):Prop where
  os:Sl w b.op b.os.length 73 (b.os.flatMap B6)
  ss:Sl w b.sp b.ss.length 5 (b.ss.flatMap uz)
  o:∀x∈b.os,ObjAt' w x
  s:∀x∈b.ss,SetAt w x
  lo:b.os.length<1000000
  ls:b.ss.length<1000000
theorem C9.ga {w w':World} {b:qu} (h:C9 w b) (hE:Ext No w w'):C9 w' b:=
 ⟨h.os.ga hE,h.ss.ga hE,fun x hx=>(h.o x hx).ga hE,fun x hx=>(h.s x hx).ga hE,h.lo,h.ls⟩
def cntS (l:List Str):Str→Option Int:=fun x=>if x∈l then some 1 else none
abbrev intV (i:Int):Value:= .int .i64 i
theorem cnt_tell {l:List Str} {x:Str}:tell intV (.int .i64 0) (cntS l x)= .int .i64 (if x∈l then 1 else 0):=by
 unfold cntS;split<;>rfl
theorem setM_at {β:Type} (g:List UInt8→Option β) (x:List UInt8) (b:β):setM g x b x=some b:=aR rfl
theorem cnt_step {l:List Str} {x:Str} (h:x∉l):setM (cntS l) x 1=cntS (l++[x]):=by
 funext y
 unfold setM cntS
 by_cases e:y=x
 ·subst e;simp
 rw[aP e];simp[e]
theorem setsOk_step {l:List yo} {i:Nat} (hi:i<l.length):zv3 (l.take (i+1))↔zv3 (l.take i)∧D9 l[i]∧l[i].name∉(l.take i).map yo.name:=by
 rw[aQ hi]
 unfold zv3
 rw[bX,List.nodup_append]
 constructor
 ·rintro⟨d,f,h,g⟩
  exact⟨⟨fun s c=>d s (List.mem_append_left _ c),f⟩,d _ (List.mem_append_right _ (aI.2 rfl)),fun k=>g _ k _ zp rfl⟩
 rintro⟨⟨d,f⟩,h,g⟩
 refine⟨fun s c=> ?_,f,by simp,fun a m b j e=> ?_⟩
 ·rcases aY.1 c with c|c
  ·exact d s c
  rw[aI.1 c];exact h
 simp only[dL,List.map_nil,aI] at j
 subst j;subst e
 exact g m
theorem setsOk_no {l:List yo} {i:Nat} (hi:i<l.length) (h:¬zv3 (l.take (i+1))):¬zv3 l:=fun k=>h ⟨fun s hs=>k.1 s (bH hs),(List.Sublist.map _ (List.take_sublist _ _)).nodup k.2⟩
theorem may_os {b:qu} {i:Nat} (hi:i<b.os.length) (h:¬x9 b.os[i].1):¬z7 b.d:=fun k=>h (k.2.2.1 _ (bN.2 ⟨_,aG hi,rfl⟩))
theorem sside_calls (w:World) {q:Bool} {p:Option Addr} {c:Nat} {l:Bytes}:
  gn prog 140 [.bool q,.slice p l.length c] w fun v w'=>v= .bool (decide (zv7 q l))∧w'=w:=by
 refine gx func140 ?_
 have b:=Ext.refl No w
 refine jd rfl (ji (α:=Bool) [] rfl (fun z=>[(4,.bool z)]) (fun z u=>(z=decide (zv7 q l)∧u=w)∧Ext No w u) ?_ ?_)
 ·refine gy ?_
  refine j0 gc rfl (ja 8 rfl (fun a=> ?_) (fun a=> ?_))
  ·have d:l.length≤4096:=by omega
   refine gq gc 2 rfl (uq 10 rfl (fun a=> ?_) (fun a=> ?_))
   ·refine gq gc 6 rfl ?_
    refine gk ?_
    exact gr (true) rfl ⟨⟨by symm;rw[aU];exact⟨d,.inl a⟩,rfl⟩,b⟩
   refine gq gc 6 rfl ?_
   refine gk ?_
   exact gr (_) rfl ⟨⟨by rw[aH];exact⟨fun h=>⟨d,.inr zo⟩,fun h=>h.2.elim (fun e=>(by rw[a] at e;cases e)) zo⟩,rfl⟩,b⟩
  have d:¬l.length≤4096:=by omega
  refine gq gc 8 rfl (gk ?_)
  exact gr (_) rfl ⟨⟨by symm;rw[aC];exact fun h=>d h.1,rfl⟩,b⟩
 rintro z f ⟨⟨rfl,rfl⟩,b⟩
 refine j9 (gv rfl rfl ?_)
 exact⟨rfl,rfl⟩
theorem may_calls (w:World) {b:qu} (h:C9 w b):
  gn prog 63 [b.v] w fun v w'=>v= .bool (decide (z7 b.d))∧Ext No w w':=by
 have hlo:=h.lo
 have hls:=h.ls
 refine gx func63 ?_
 have hX:=Ext.refl No w
 refine ko (gw rfl fun b1 w1 hn1 hb1 hE1=> ?_)
 have hX:=hX.gb hE1
 have hb1:gz w1 b1 25 (b.c):=hb1
 refine km rfl (gl (ji (α:=Bool) [1] rfl (fun z=>[(17,.bool z)]) (fun z u=>(z=decide (4096<b.os.length∨128<b.ss.length))∧gz u b1 25 (b.c)∧Ext No w u) ?_ ?_))
 ·refine gy ?_
  refine j0 gc rfl (gu rfl (hb1.cell rfl) (j0 gc rfl (ja 12 rfl (fun hg=> ?_) (fun hg=> ?_))))
  ·have h1:4096<b.os.length:=by omega
   refine gq gc 5 rfl (gk ?_)
   exact gr (true) rfl ⟨by symm;rw[aU];exact .inl h1,hb1,hX⟩
  have h1:¬4096<b.os.length:=by omega
  refine gq gc 1 rfl (gu rfl (hb1.cell rfl) (gq gc 3 rfl (gk ?_)))
  exact gr (_) rfl ⟨by rw[aH];omega,hb1,hX⟩
 rintro z w2 ⟨rfl,hb1,hX⟩
 refine jl rfl (fun hc=> ?_) (fun hc=> ?_)
 ·refine gl ?_
  refine gy (vr rfl (j7 (gv rfl rfl ?_)))
  exact⟨by congr 1;symm;rw[aC];rintro⟨k1,k2,_⟩;simp only[qu.d,aE] at k1 k2;omega,hX⟩
 refine kc ?_
 refine jp (gl (ki rfl (gu rfl (hb1.cell rfl) (km rfl (j8 ?_)))))
 refine jj (α:=Nat) [1,19,20] rfl (fun z=>[(21,.int .i64 (z:Int))]) (fun z u=>(z≤b.os.length∧∀x∈b.os.take z,x9 x.1)∧gz u b1 25 (b.c)∧Ext No w u) (fun z u=>b.os.length-z) (0) rfl ⟨⟨aJ _,fun _ h=>(by cases h)⟩,hb1,hX⟩ ?_
 rintro i w3 ⟨⟨hi,hall⟩,hb1,hX⟩
 refine jd rfl (gl (jl rfl (fun hc=> ?_) (fun hc=> ?_)))
 ·have hi2:i<b.os.length:=by omega
  obtain⟨q,qo,hp,hsq⟩:=h.os.qd (yq1 fun x hx=>(h.o x hx).i) zo
  have ho:=h.o _ (aG hi2)
  rw[hp]
  refine Ac (ko (ka rfl 73 rfl i rfl hi2 (qo+i*73) rfl (jm rfl ((hsq i hi2).ga hX) (gp ho.i) (gw rfl fun b4 w4 hn4 hb4 hE4=> ?_))))
  have ne1_4:=j2 hb1.lt hn4
  have fr4:=aA hX.size hn4
  have hb1:=hb1.ga hE4
  have hX:=hX.gb hE4
  refine wl (j4 (l':=B6 b.os[i]) gc hb4 rfl rfl (gp ho.i) (gp ho.i) OneC.h fun w5 hb4 hE5 hs5=> ?_)
  have hb1:=hb1.gj hE5 ne1_4
  have hX:=hX.gi hE5 fr4
  refine qq (ko (je hb4 rfl (gp ho.i) (gh call134 rfl (zq8 w5 ho.i (ho.l.ga hX) ho.s) fun v6 w6 hr6=> ?_)))
  obtain⟨rfl,hE6⟩:=hr6
  have hb1:=hb1.ga hE6
  have hX:=hX.gb hE6
  refine km rfl (jl rfl (fun hc=> ?_) (fun hc=> ?_))
  ·have hk:¬x9 b.os[i].1:=fun h=>hc (aR h)
   refine jd rfl (j9 (gGl (gv rfl rfl ?_)))
   exact⟨by rw[bO (may_os hi2 hk)],hX⟩
  have hk:x9 b.os[i].1:=(yz7 zd).1 (aS.1 hc)
  refine kc (Aa rfl ?_)
  rw[jz _ zo]
  refine gk ?_
  exact jk (i+1) rfl ⟨⟨hi2,fun x hx=>by rw[aQ hi2] at hx;rcases aY.1 hx with hx|hx;exact hall x hx;rw[aI.1 hx];exact hk⟩,hb1,hX⟩ zf
 have h0:i=b.os.length:=by omega
 subst h0
 rw[bZ] at hall
 refine Ak (ko (wl (st_mmG y7 IsStr intV rfl fun r w7 hrn hM hE7 hs7=> ?_)))
 have hb1:=hb1.ga hE7
 have frr:=aA hX.size hrn
 have hX:=hX.gb hE7
 refine km rfl (gl (ki rfl (gu rfl (hb1.cell rfl) (km rfl (j8 ?_)))))
 refine jj (α:=Nat) [5,31,32] rfl (fun z=>[(33,.int .i64 (z:Int))]) (fun z u=>(z≤b.ss.length∧zv3 ((b.ss.map Prod.fst).take z)∧Ad y7 IsStr u r intV (cntS (((b.ss.map Prod.fst).take z).map yo.name)))∧gz u b1 25 (b.c)∧Ext No w u) (fun z u=>b.ss.length-z) (0) rfl ⟨⟨aJ _,⟨fun _ h=>(by cases h),List.Pairwise.nil⟩,hM⟩,hb1,hX⟩ ?_
 rintro j w8 ⟨⟨hj,hsk,hM⟩,hb1,hX⟩
 refine jd rfl (gl (jl rfl (fun hc=> ?_) (fun hc=> ?_)))
 ·have hj2:j<b.ss.length:=by omega
  have hj3:j<(b.ss.map Prod.fst).length:=by rw[aE];exact hj2
  obtain⟨q,qo,hp,hsq⟩:=h.ss.qd (fun x _=>Bh x) zo
  have hse:=h.s _ (aG hj2)
  have hgj:(b.ss.map Prod.fst)[j]=b.ss[j].1:=bR ..
  obtain⟨names,hnm⟩:∃names,names=((b.ss.map Prod.fst).take j).map yo.name:=⟨_,rfl⟩
  have hstep:=setsOk_step hj3
  rw[hgj,←hnm] at hstep
  rw[←hnm] at hM
  rw[hp]
  refine Ac (ko (ka rfl 5 rfl j rfl hj2 (qo+j*5) rfl (jm rfl ((hsq j hj2).ga hX) rfl (gw rfl fun b7 w9 hn7 hb7 hE9=> ?_))))
  have ne1_7:=j2 hb1.lt hn7
  have fr7:=aA hX.size hn7
  have hb1:=hb1.ga hE9
  have hM:=hM.ga hE9
  have hX:=hX.gb hE9
  have hb7o:=hb7
  refine wl (j4 (l':=uz b.ss[j]) gc hb7 rfl rfl rfl rfl OneC.h fun w10 hb7 hE10 hs10=> ?_)
  have hb1:=hb1.gj hE10 ne1_7
  have hM:=hM.gj hE10 hb7o
  have hX:=hX.gi hE10 fr7
  refine qq (ki rfl (gu rfl (hb7.cell rfl) (wl (st_lu gc rfl strK (x:=b.ss[j].1.name) (by have:=hse.ln;dsimp only[IsStr,maxLen];omega) rfl hM ?_))))
  simp only[bI,cX]
  rw[show tell intV ti3.zero (cntS names b.ss[j].1.name)= .int .i64 (if b.ss[j].1.name∈names then 1 else 0) from cnt_tell]
  obtain⟨m,hm⟩:∃m:Int,m=(if b.ss[j].1.name∈names then 1 else 0):=⟨_,rfl⟩
  have hm2:0≤m∧m≤1:=by rw[hm];split<;>decide
  rw[←hm]
  refine j0 gc rfl ?_
  rw[jz _ zo]
  refine wl (st_mu gc rfl strK (x:=b.ss[j].1.name) (by have:=hse.ln;dsimp only[IsStr,maxLen];omega) rfl hM (b:=m+1) rfl fun w11 hM2 hE11 hs11=> ?_)
  have hb1:=hb1.xy hM hE11
  have hb7:=hb7.xy hM hE11
  have hX:=hX.gi hE11 frr
  refine qq ?_
  refine ji (α:=Bool) [5,31,32,33] rfl (fun z=>[(73,.bool z)]) (fun z u=>(z=decide (¬(D9 b.ss[j].1∧b.ss[j].1.name∉names))∧Ad y7 IsStr u r intV (setM (cntS names) b.ss[j].1.name (m+1)))∧gz u b1 25 (b.c)∧Ext No w u) ?_ ?_
  ·refine gy ?_
   refine j0 gc rfl (gu rfl (hb7.cell rfl) (wl (st_lu gc rfl strK (x:=b.ss[j].1.name) (by have:=hse.ln;dsimp only[IsStr,maxLen];omega) rfl hM2 ?_)))
   simp only[bI,cX]
   rw[setM_at]
   show WL _ _ _ _ _ ((45,.int .i64 (m+1))::_) _
   refine j0 gc rfl (ja 47 rfl (fun hg=> ?_) (fun hg=> ?_))
   ·have hin:b.ss[j].1.name∈names:=Decidable.by_contra fun hn=>(by rw[aP hn] at hm;omega)
    refine gq gc 26 rfl (gk ?_)
    exact gr (true) rfl ⟨⟨by symm;rw[aU];exact fun k=>k.2 hin,hM2⟩,hb1,hX⟩
   have hin:b.ss[j].1.name∉names:=fun hn=>(by rw[aR hn] at hm;omega)
   refine gq gc 1 rfl (gu rfl (hb7.cell rfl) (gq gc 3 rfl (ja 52 rfl (fun hg=> ?_) (fun hg=> ?_))))
   ·have hbad:¬D9 b.ss[j].1:=fun k=>k.1 (xt hg)
    refine gq gc 21 rfl (gk ?_)
    exact gr (true) rfl ⟨⟨by symm;rw[aU];exact fun k=>hbad k.1,hM2⟩,hb1,hX⟩
   have h1:b.ss[j].1.name≠[]:=fun e=>hg (by rw[e];rfl)
   refine gq gc 1 rfl (gu rfl (hb7.cell rfl) (gq gc 4 rfl (ja 58 rfl (fun hg=> ?_) (fun hg=> ?_))))
   ·have hbad:¬D9 b.ss[j].1:=fun k=>by have:=k.2.1;have e:(ul b.ss[j].1.name).size=b.ss[j].1.name.length:=rfl;omega
    refine gq gc 15 rfl (gk ?_)
    exact gr (true) rfl ⟨⟨by symm;rw[aU];exact fun k=>hbad k.1,hM2⟩,hb1,hX⟩
   have h2:b.ss[j].1.name.length≤32:=by have e:(ul b.ss[j].1.name).size=b.ss[j].1.name.length:=rfl;omega
   refine gq gc 1 rfl (gu rfl (hb7.cell rfl) (gq gc 1 rfl (gu rfl (hb7.cell rfl) ?_)))
   refine gh call140 rfl (sside_calls w11 (q:=b.ss[j].1.was) (l:=b.ss[j].1.old)) fun v12 w12 hr12=> ?_
   obtain⟨rfl,rfl⟩:=hr12
   refine gq gc 3 rfl (uq 66 rfl (fun hg=> ?_) (fun hg=> ?_))
   ·have hbad:¬D9 b.ss[j].1:=fun k=>by have:=k.2.2.1;simp[this] at hg
    refine gq gc 7 rfl (gk ?_)
    exact gr (true) rfl ⟨⟨by symm;rw[aU];exact fun k=>hbad k.1,hM2⟩,hb1,hX⟩
   have h3:zv7 b.ss[j].1.was b.ss[j].1.old:=by simpa using hg
   refine gq gc 1 rfl (gu rfl (hb7.cell rfl) (gq gc 1 rfl (gu rfl (hb7.cell rfl) ?_)))
   refine gh call140 rfl (sside_calls w12 (q:=b.ss[j].1.is) (l:=b.ss[j].1.new)) fun v13 w13 hr13=> ?_
   obtain⟨rfl,rfl⟩:=hr13
   refine gq gc 2 rfl (gk ?_)
   exact gr (_) rfl ⟨⟨by rw[←decide_not,aH];exact⟨fun k l=>k l.1.2.2.2,fun k l=>k ⟨⟨h1,h2,h3,l⟩,hin⟩⟩,hM2⟩,hb1,hX⟩
  rintro z w14 ⟨⟨rfl,hM2⟩,hb1,hX⟩
  refine ud rfl (fun hc=> ?_) (fun hc=> ?_)
  ·have hno:¬z7 b.d:=fun k=>setsOk_no hj3 (fun l=>by have:=hstep.1 l;simp at hc;exact hc.elim (fun q=>q this.2.1) this.2.2) k.2.2.2
   refine jd rfl (j9 (gGl (gv rfl rfl ?_)))
   exact⟨by rw[bO hno],hX⟩
  have hyes:=hstep.2 ⟨hsk,by simpa using hc⟩
  refine kc (Aa rfl ?_)
  rw[jz _ zo]
  refine gk ?_
  exact jk (j+1) rfl ⟨⟨hj2,hyes,by rw[aQ hj3,bX,←hnm,hgj];have e:=hm;rw[aP (by have:=hstep.1 hyes;exact this.2.2)] at e;subst e;rw[show(0:Int)+1=1 from rfl,cnt_step (hstep.1 hyes).2.2] at hM2;exact hM2⟩,hb1,hX⟩ zf
 have h0:j=b.ss.length:=by omega
 subst h0
 rw[aO (by rw[aE];exact aD _)] at hsk
 refine Ak (jd rfl (j9 (gv rfl rfl ?_)))
 exact⟨by congr 1;symm;rw[aU];exact⟨by simp only[qu.d,aE];omega,by simp only[qu.d,aE];omega,fun o ho=>(by obtain⟨x,hx,rfl⟩:=bN.1 ho;exact hall x hx),hsk⟩,hX⟩
abbrev TyW (W w:World):Nat→Prop:=Bo W w 180 5
def WrS (W w:World) (b:Nat) (l:Bytes):Prop:=W.heap.size≤b∧∃p c,gz w b 180 [.slice p l.length c]∧k8 W w p l.length c 5 1 (ge l)
theorem WrS.ga {W w w':World} {b:Nat} {l:Bytes} (h:WrS W w b l) (hE:Ext No w w'):WrS W w' b l:=by
 obtain⟨h1,p,c,h2,h3⟩:=h
 exact⟨h1,p,c,h2.ga hE,h3.ga hE⟩
theorem WrS.gj {W w w':World} {b:Nat} {l:Bytes} (h:WrS W w b l) {x T:Nat} {L:List Value} (hE:Ext (One x) w w') (hb:gz w x T L) (h1:180≠T) (h2:5≠T):WrS W w' b l:=by
 obtain⟨n,p,c,hw,ho⟩:=h
 exact⟨n,p,c,hw.gj hE (hw.ne hb h1),ho.gj hE hb h2⟩
theorem xx6 (a b:Bytes):ge a++ge b=ge (a++b):=(kz a b).symm
theorem slong_calls (w:World) {W:World} {b:Nat} {l:Bytes} (h:WrS W w b l) (hW:Ext No W w) {px:Option Addr} {cx:Nat} {x:Bytes} (hs:ux w px x) (hl:l.length<900000000) (hx:x.length<65536):
  gn prog 88 [.pointer (some ⟨b,0,none⟩),.slice px x.length cx] w fun v w'=>v= .tuple #[]∧WrS W w' b (l++vz 2 x)∧Ext (TyW W w) w w':=by
 obtain⟨g,B,C,a,m⟩:=h
 refine gx func88 ?_
 have d:=Ext.refl (TyW W w) w
 refine yl rfl (gu rfl (a.cell rfl) (j0 gc rfl ?_))
 rw[IntWalk.u16_in _ zo]
 have o:=hW
 refine gh call91 rfl (Cu w m.sl zo x.length hx) fun D E p=> ?_
 obtain⟨F,rfl,r,s,c⟩:=p
 have hs:=hs.ga c
 have a:=a.ga c
 have hW:=hW.gb c
 have d:=d.gb c
 have f:=k8.blk (n:=(l++be 2 x.length).length) (sz:=1) s (aA o.size r) (by rw[gm,bE]) (by simp only[aB,jy];dsimp only[maxLen];omega)
 refine j0 gc rfl ?_
 have t:=f
 have u:=f.own
 refine wl (xj gc rfl 1 1 rfl rfl rfl zd f (Src.slice hs OneC.h) (by dsimp only[maxLen];(try simp only[aB,jy]);omega) (by dsimp only;(try simp only[aB,jy]);omega) (n':=(l++vz 2 x).length) (ys:=ge (l++vz 2 x)) zh (by rw[vz,←aV,kz (l++be 2 x.length)]) hW fun q k G f e z=> ?_)
 dsimp only at f e
 have a:=a.ke u e (show(5:Nat)≠180 from by decide)
 have d:=d.ky (e.mono fun y _=>Bo.own t y)
 have hW:=z
 refine j0 gc rfl (kl a rfl rfl rfl fun H i j A=> ?_)
 have d:=d.ky (j.mono fun y _=>Bo.one a g y)
 refine gk (z6 rfl ?_)
 exact⟨rfl,⟨g,_,_,i,f.gj j a zd⟩,d⟩
theorem sshort_calls (w:World) {W:World} {b:Nat} {l:Bytes} (h:WrS W w b l) (hW:Ext No W w) {px:Option Addr} {cx:Nat} {x:Bytes} (hs:ux w px x) (hsp:∀y off,px=some ⟨y,off,none⟩→¬TyW W w y) (hl:l.length<900000000) (hx:x.length<900000000):
  gn prog 89 [.pointer (some ⟨b,0,none⟩),.slice px x.length cx] w fun v w'=>v= .tuple #[]∧WrS W w' b (l++vz 1 x)∧Ext (TyW W w) w w':=by
 obtain⟨p,G,H,a,c⟩:=h
 have r:=c
 refine gx func89 ?_
 have f:=Ext.refl (TyW W w) w
 refine yl rfl (gu rfl (a.cell rfl) (j0 gc rfl ?_))
 rw[y6]
 refine wl (qi gc rfl 1 rfl rfl rfl zd zd zt (l':=ge [UInt8.ofNat x.length]) rfl fun A I C s d D=> ?_)
 have hs:=hs.ga d
 have a:=a.ga d
 have c:=c.ga d
 have hW:=hW.gb d
 have f:=f.gb d
 have i:=c
 have t:=c.own
 refine wl (xj gc rfl 1 1 rfl rfl rfl zd c (Src.slice (m:=1) ⟨rfl,.inr ⟨A,0,rfl,s.kj⟩⟩ OneC.h) (by dsimp only[maxLen];(try simp only[aB,jy]);omega) (by dsimp only;(try simp only[aB,jy]);omega) (n':=(l.length+1)) (ys:=ge (l++be 1 x.length)) rfl (xx6 _ _) hW fun q k J j g n=> ?_)
 dsimp only at j g
 have a:=a.ke t g (show(5:Nat)≠180 from by decide)
 have hs:=hs.ext g fun y off e E=>hsp y off e (Bo.own r y E)
 have f:=f.ky (g.mono fun y _=>Bo.own i y)
 have hW:=n
 refine j0 gc rfl ?_
 have i:=j
 have B:=j.own
 refine wl (xj gc rfl 1 1 rfl rfl rfl zd j (Src.slice hs OneC.h) (by dsimp only[maxLen];(try simp only[aB,jy]);omega) (by dsimp only;(try simp only[aB,jy]);omega) (n':=(l++vz 1 x).length) (ys:=ge (l++vz 1 x)) zh (by rw[xx6,vz,aV]) hW fun q k K j o n=> ?_)
 dsimp only at j o
 have a:=a.ke B o (show(5:Nat)≠180 from by decide)
 have f:=f.ky (o.mono fun y _=>Bo.own i y)
 have hW:=n
 refine j0 gc rfl (kl a rfl rfl rfl fun L u z F=> ?_)
 have f:=f.ky (z.mono fun y _=>Bo.one a p y)
 refine gk (z6 rfl ?_)
 exact⟨rfl,⟨p,_,_,u,j.gj z a zd⟩,f⟩
theorem wside_calls (w:World) {W:World} {b:Nat} {l:Bytes} (h:WrS W w b l) (hW:Ext No W w) {q:Bool} {px:Option Addr} {cx:Nat} {x:Bytes} (hs:ux W px x) (hl:l.length<800000000) (hx:x.length<65536):
  gn prog 90 [.pointer (some ⟨b,0,none⟩),.bool q,.slice px x.length cx] w fun v w'=>v= .tuple #[]∧WrS W w' b (l++xv4 q x)∧Ext (TyW W w) w w':=by
 obtain⟨j,L,M,a,c⟩:=h
 refine gx func90 ?_
 have f:=Ext.refl (TyW W w) w
 have p:=a
 have r:=c
 have B:=hW
 refine ko (wl (qi gc rfl 1 rfl rfl rfl zd zd zt (l':=[.int .u8 0]) rfl fun s P k d g Q=> ?_))
 have C:=aA f.size k
 have a:=a.ga g
 have c:=c.ga g
 have hW:=hW.gb g
 have f:=f.gb g
 refine km rfl (ji (α:=Unit) [0,2,6] rfl (fun z=>[]) (fun z u=>(gz u b 180 [.slice L l.length M]∧k8 W u L l.length M 5 1 (ge l)∧Ext No W u)∧gz u s 5 (ge [isB q])∧Ext (TyW W w) w u) ?_ ?_)
 ·refine gl ?_
  refine gy (km rfl (ud rfl (fun D=> ?_) (fun D=> ?_)))
  ·have E:isB q=1:=by rw[D];rfl
   refine yl rfl (ka rfl 1 rfl 0 rfl zd (0+0*1) rfl (j6 d rfl rfl (j0 gc rfl (ka rfl 1 rfl 0 rfl zd (0+0*1) rfl ?_))))
   refine kl d rfl rfl rfl fun R d i S=> ?_
   have a:=a.gj i (j2 p.lt k)
   have c:=k8.mk (c.own.ext i fun y T e=>(by have e:y=s:=e;have:=r.own.lt T;omega)) c.new
   have hW:=hW.gi i (aA B.size k)
   have f:=f.gi i C
   have d:gz R s 5 (ge [isB q]):=(by rw[E];exact d)
   refine gk ?_
   exact gr (()) rfl ⟨⟨a,c,hW⟩,d,f⟩
  have E:isB q=0:=by rw[D];rfl
  refine kc ?_
  have d:gz P s 5 (ge [isB q]):=by rw[E];exact d
  exact gr (()) rfl ⟨⟨a,c,hW⟩,d,f⟩
 rintro⟨⟩ V ⟨⟨a,c,hW⟩,d,f⟩
 refine ki rfl (gu rfl (a.cell rfl) (j0 gc rfl ?_))
 have F:=c
 have t:=c.own
 refine wl (xj gc rfl 1 1 rfl rfl rfl zd c (Src.slice (m:=1) ⟨rfl,.inr ⟨s,0,rfl,d.kj⟩⟩ OneC.h) (by dsimp only[maxLen];(try simp only[aB,jy]);omega) (by dsimp only;(try simp only[aB,jy]);omega) (n':=(l++[isB q]).length) (ys:=ge (l++[isB q])) zi (xx6 _ _) hW fun X Y Z N n G=> ?_)
 dsimp only at N n
 have a:=a.ke t n (show(5:Nat)≠180 from by decide)
 have f:=f.ky (n.mono fun y _=>Bo.own F y)
 have hW:=G
 refine j0 gc rfl (kl a rfl rfl rfl fun O A o U=> ?_)
 have f:=f.ky (o.mono fun y _=>Bo.one a j y)
 have hW:=hW.gi o j
 have H:WrS W O b (l++[isB q]):=⟨j,_,_,A,N.gj o a zd⟩
 refine qq (yl rfl (gh call88 rfl (slong_calls O H hW (hs.ga hW) (by rw[aB];show l.length+1<_;omega) hx) fun v6 w6 I=> ?_))
 obtain⟨rfl,J,K⟩:=I
 have f:=f.ky K
 refine gk (z6 rfl ?_)
 exact⟨rfl,by rw[xv4,←aV];exact J,f⟩
theorem zq0 {l:List jq} (h:∀o∈l,x9 o):(yt l).length≤l.length*802:=B1 fun o ho=>by
 have:=(h o ho).2
 rw[qy];omega
theorem Dk {q:Bool} {x:Bytes} (h:zv7 q x):(xv4 q x).length≤4099:=by
 have:=h.1
 rw[xv4,aB,qy,List.length_singleton];omega
theorem setB_len {s:yo} (h:D9 s):(zx4 s).length≤9000:=by
 have h1:=Dk h.2.2.1
 have h2:=Dk h.2.2.2
 have h3:=h.2.1
 rw[zx4,aB,aB,qy];omega
theorem setsB_len {l:List yo} (h:zv3 l):(l.flatMap zx4).length≤l.length*9000:=B1 fun s hs=>setB_len (h.1 s hs)
def yx (b:Bu):Bytes:=if z7 b then uf b else []
abbrev mayE (b:Bu):Int:=if z7 b then 0 else 2
theorem Bl (w:World) {b:qu} (h:C9 w b):
  gn prog 30 [b.v] w fun v w'=>∃q k,v= .tuple #[.slice q (yx b.d).length k,.int .i64 (mayE b.d)]∧k8 w w' q (yx b.d).length k 5 1 (ge (yx b.d))∧Ext No w w':=by
 refine gx func30 ?_
 have f:=Ext.refl No w
 refine ko (gw rfl fun b1 w1 bx a b4=> ?_)
 have f:=f.gb b4
 have a:gz w1 b1 25 (b.c):=a
 refine km rfl (gl (ko (je a rfl rfl (gh call63 rfl (may_calls w1 (h.ga f)) fun v2 w2 b5=> ?_))))
 obtain⟨rfl,ag⟩:=b5
 have a:=a.ga ag
 have f:=f.gb ag
 refine km rfl (ud rfl (fun hc=> ?_) (fun hc=> ?_))
 ·have F:¬z7 b.d:=by simpa using hc
  refine jd rfl (j9 (j7 (qe [_,_] ⟨rfl,rfl,trivial⟩ ?_)))
  exact⟨none,0,by rw[yx,aP F,mayE,aP F];rfl,by rw[yx,aP F];exact k8.nil _ _ _ _,f⟩
 have F:z7 b.d:=by simpa using hc
 have b6:=F.1
 have b7:=F.2.1
 have b8:=zq0 F.2.2.1
 simp only[qu.d,aE] at b6 b7 b8
 refine x3 (ko (kg rfl trivial (l':=[.slice none 0 0]) rfl (gw rfl fun I w3 U r ah=> ?_)))
 have R:=j2 a.lt U
 have V:=aA f.size U
 have a:=a.ga ah
 have f:=f.gb ah
 have r:gz w3 I 180 ([.slice none 0 0]):=r
 refine km rfl (jd rfl (ki rfl (gu rfl (a.cell rfl) (j0 gc rfl ?_))))
 rw[IntWalk.u16_in _ zo]
 have ba:=f
 refine gh call91 rfl (Cu w3 (l:=[]) (p:=none) (c:=0) ⟨rfl,.inl rfl⟩ zd b.os.length zo) fun v4 w4 bb=> ?_
 obtain⟨bp,rfl,bc,ai,a3⟩:=bb
 have a:=a.ga a3
 have r:=r.ga a3
 have f:=f.gb a3
 have hq:=k8.blk (W:=w) (n:=(be 2 b.os.length).length) (sz:=1) ai (aA ba.size bc) (by rw[gm,cB,bE]) (by rw[jy];decide)
 rw[cB] at hq ai⊢
 refine j0 gc rfl ?_
 have a4:=r
 refine kl r rfl rfl rfl fun w5 r a5 bz=> ?_
 have a:=a.gj a5 R
 have f:=f.gi a5 V
 have r:gz w5 I 180 ([.slice (some ⟨bp,0,none⟩) (be 2 b.os.length).length (be 2 b.os.length).length]):=r
 have t:WrS w w5 I (be 2 b.os.length):=⟨V,_,_,r,hq.gj a5 a4 zd⟩
 refine qq (gl (ki rfl (gu rfl (a.cell rfl) (km rfl (j8 ?_)))))
 refine jj (α:=Nat) [1,4,5,6,7,35,36] rfl (fun z=>[(37,.int .i64 (z:Int))]) (fun z u=>(z≤b.os.length∧WrS w u I (be 2 b.os.length++yt ((b.os.map Prod.fst).take z)))∧gz u b1 25 (b.c)∧Ext No w u) (fun z u=>b.os.length-z) (0) rfl ⟨⟨aJ _,by rw[List.take_zero,yt,List.flatMap_nil,bK];exact t⟩,a,f⟩ ?_
 rintro i w6 ⟨⟨hi,t⟩,a,f⟩
 refine jd rfl (gl (jl rfl (fun hc=> ?_) (fun hc=> ?_)))
 ·have J:i<b.os.length:=by omega
  have aj:i<(b.os.map Prod.fst).length:=by rw[aE];exact J
  obtain⟨q,qo,hp,a6⟩:=h.os.qd (yq1 fun x hx=>(h.o x hx).i) zo
  have ho:=h.o _ (aG J)
  have ak:(b.os.map Prod.fst)[i]=b.os[i].1:=bR ..
  have E:x9 b.os[i].1:=F.2.2.1 _ (by rw[←ak];exact aG aj)
  have c0:=E.2
  have a7:=zq0 (l:=(b.os.map Prod.fst).take i) fun o h=>F.2.2.1 o (bH h)
  rw[aL,bP zo] at a7
  have al:encB b.os[i].1=laidB b.os[i].1:=aR E
  rw[hp]
  refine Ac (ko (ka rfl 73 rfl i rfl J (qo+i*73) rfl (jm rfl ((a6 i J).ga f) (gp ho.i) (gw rfl fun b9 w7 am S a8=> ?_))))
  have a9:=j2 a.lt am
  have bd:=aA f.size am
  have a:=a.ga a8
  have t:=t.ga a8
  have f:=f.gb a8
  have an:=S
  refine wl (j4 (l':=B6 b.os[i]) gc S rfl rfl (gp ho.i) (gp ho.i) OneC.h fun w8 S aa c1=> ?_)
  have a:=a.gj aa a9
  have t:=t.gj aa an zd zd
  have f:=f.gi aa bd
  refine qq (ko (je S rfl (gp ho.i) (gh call92 rfl (yx0 w8 ho.i (ho.l.ga f) ho.s) fun v9 w9 bf=> ?_)))
  obtain⟨q2,k2,rfl,ao,bo,ab⟩:=bf
  have a:=a.ga ab
  have t:=t.ga ab
  have f:=f.gb ab
  rw[al] at ao⊢
  refine km rfl (yl rfl (gh call88 rfl (slong_calls w9 t f ao.sl (by simp only[aB,jy];omega) zo) fun c2 c3 ap=> ?_))
  obtain⟨rfl,t,X⟩:=ap
  have a:=a.x4 X zd zd
  have f:=f.x4 X
  refine gk (Aa rfl ?_)
  rw[jz _ zo]
  refine gk ?_
  exact jk (i+1) rfl ⟨⟨J,by rw[aQ aj,yt,bC,bU,←aV,ak];exact t⟩,a,f⟩ zf
 have h0:i=b.os.length:=by omega
 subst h0
 rw[aO (by rw[aE];exact aD _)] at t
 obtain⟨ac,p,c,A,C⟩:=t
 refine Ak (gl ?_)
 refine jr rfl 15 [qP 0,qP 1,qP 2,qP 3,qP 4,qP 5,qP 6,qP 7,qP 8,qP 9,(10,false),(11,false),qP 12,qP 13,qP 14] [15] (jb p) zk fun bg D bq=> ?_
 have aq:=a
 have Y:=A
 have Z:=C
 have a:=a.ga D
 have A:=A.ga D
 have C:=C.ga D
 have f:=f.gb D
 have hC:Ext (jb p) _ bg:=D.no
 refine gt gc 5 rfl (j3 gc rfl rfl (fun w' ad=>((Y.ext (show Ext (jb p) _ w' from ad) fun ae=>Z.own.zj7 ae Y zd rfl).cell rfl)) ?_)
 refine gt gc 1 rfl (j3 gc rfl rfl (fun w' ad=>((aq.ext (show Ext (jb p) _ w' from ad) fun ae=>Z.own.zj7 ae aq zd rfl).cell rfl)) ?_)
 refine gt gc 2 rfl ?_
 rw[y6]
 refine jo rfl (qi gc rfl 1 rfl rfl rfl zd zd zt (l':=ge [UInt8.ofNat b.ss.length]) rfl fun bh c4 br ar B bt=>⟨hC.gb B,?_⟩)
 have a:=a.ga B
 have A:=A.ga B
 have C:=C.ga B
 have f:=f.gb B
 have hC:=hC.gb B
 have a0:=C.own
 refine jo rfl (xj gc rfl 1 1 rfl rfl rfl zd C (Src.slice (m:=1) ⟨rfl,.inr ⟨bh,0,rfl,ar.kj⟩⟩ OneC.h) (by dsimp only[maxLen];simp only[aB,jy];omega) (by dsimp only;simp only[aB,jy];omega) (n':=(be 2 b.os.length++yt (b.os.map Prod.fst)++be 1 b.ss.length).length) (ys:=ge (be 2 b.os.length++yt (b.os.map Prod.fst)++be 1 b.ss.length)) (by simp only[aB,jy]) (xx6 _ _) f fun q k c5 hq G f=>⟨hC.then G,?_⟩)
 dsimp only at hq G
 have a:=a.ke a0 G (show(5:Nat)≠25 from by decide)
 have A:=A.ke a0 G (show(5:Nat)≠180 from by decide)
 refine gt gc 3 rfl (jg (wb rfl (yi gc A rfl rfl rfl fun bi au K bu=> ?_)))
 have f:=f.gi K ac
 have a:=a.gj K (a.ne A zd)
 have t:WrS w bi I (be 2 b.os.length++yt (b.os.map Prod.fst)++be 1 b.ss.length):=⟨ac,_,_,au,hq.gj K A zd⟩
 refine j5 (jp (gl (ki rfl (gu rfl (a.cell rfl) (km rfl (j8 ?_))))))
 refine jj (α:=Nat) [4,6,7,66,67] rfl (fun z=>[(68,.int .i64 (z:Int))]) (fun z u=>(z≤b.ss.length∧WrS w u I (be 2 b.os.length++yt (b.os.map Prod.fst)++be 1 b.ss.length++((b.ss.map Prod.fst).take z).flatMap zx4))∧gz u b1 25 (b.c)∧Ext No w u) (fun z u=>b.ss.length-z) (0) rfl ⟨⟨aJ _,by rw[List.take_zero,List.flatMap_nil,bK];exact t⟩,a,f⟩ ?_
 rintro j c6 ⟨⟨hj,t⟩,a,f⟩
 refine jd rfl (gl (jl rfl (fun hc=> ?_) (fun hc=> ?_)))
 ·have M:j<b.ss.length:=by omega
  have av:j<(b.ss.map Prod.fst).length:=by rw[aE];exact M
  obtain⟨q,qo,hp,a6⟩:=h.ss.qd (fun x _=>Bh x) zo
  have aw:=h.s _ (aG M)
  have ax:(b.ss.map Prod.fst)[j]=b.ss[j].1:=bR ..
  have E:D9 b.ss[j].1:=F.2.2.2.1 _ (by rw[←ax];exact aG av)
  have c7:=E.2.1
  have c8:=E.2.2.1.1
  have c9:=E.2.2.2.1
  have a7:=setsB_len (l:=(b.ss.map Prod.fst).take j) ⟨fun s h=>F.2.2.2.1 s (bH h),(List.Sublist.map _ (List.take_sublist _ _)).nodup F.2.2.2.2⟩
  rw[aL,bP zo] at a7
  rw[hp]
  refine Ac (ko (ka rfl 5 rfl j rfl M (qo+j*5) rfl (jm rfl ((a6 j M).ga f) rfl (gw rfl fun ca cb a1 g N=> ?_))))
  have T:=j2 a.lt a1
  have ay:=aA f.size a1
  have a:=a.ga N
  have t:=t.ga N
  have f:=f.gb N
  have af:=g
  refine wl (j4 (l':=uz b.ss[j]) gc g rfl rfl rfl rfl OneC.h fun cc g O bv=> ?_)
  have a:=a.gj O T
  have t:=t.gj O af zd zd
  have f:=f.gi O ay
  refine qq (ki rfl (gu rfl (g.cell rfl) (wl (st_s2b gc rfl fun bs cs bj bw bk cd az H=> ?_))))
  have a:=a.ga H
  have g:=g.ga H
  have t:=t.ga H
  have f:=f.gb H
  refine gh call89 rfl (sshort_calls bj t f bk (fun y ce e k=>by have e:bs=y:=congrArg Addr.block (cG e);subst e;obtain⟨_,L,k|k⟩:=k;exact az _ _ k;exact az _ _ k) (by simp only[aB,jy];omega) zo) fun cf bm b0=> ?_
  obtain⟨rfl,t,P⟩:=b0
  have a:=a.x4 P zd zd
  have g:=g.x4 P zd zd
  have f:=f.x4 P
  refine qq (ki rfl (gu rfl (g.cell rfl) (j0 gc rfl (gu rfl (g.cell rfl) ?_))))
  refine gh call90 rfl (wside_calls bm t f (q:=b.ss[j].1.was) aw.old zh zo) fun cg bn b2=> ?_
  obtain⟨rfl,t,Q⟩:=b2
  have a:=a.x4 Q zd zd
  have g:=g.x4 Q zd zd
  have f:=f.x4 Q
  refine qq (yl rfl (gu rfl (g.cell rfl) (j0 gc rfl (gu rfl (g.cell rfl) ?_))))
  refine gh call90 rfl (wside_calls bn t f (q:=b.ss[j].1.is) aw.new (by have:=Dk E.2.2.1;simp only[aB,jy,qy];omega) zo) fun ch ci b3=> ?_
  obtain⟨rfl,t,a2⟩:=b3
  have a:=a.x4 a2 zd zd
  have f:=f.x4 a2
  refine gk (Aa rfl ?_)
  rw[jz _ zo]
  refine gk ?_
  exact jk (j+1) rfl ⟨⟨M,by rw[aQ av,bC,bU,ax,zx4];simp only[←aV];exact t⟩,a,f⟩ zf
 have h0:j=b.ss.length:=by omega
 subst h0
 rw[aO (by rw[aE];exact aD _)] at t
 have e1:yx b.d=be 2 b.os.length++yt (b.os.map Prod.fst)++be 1 b.ss.length++(b.ss.map Prod.fst).flatMap zx4:=by rw[yx,aR F,uf];simp only[qu.d,aE]
 rw[←e1] at t
 obtain⟨ac,p,c,A,C⟩:=t
 refine Ak (ki rfl (gu rfl (A.cell rfl) (vr rfl (qe [_,_] ⟨rfl,rfl,trivial⟩ ?_))))
 exact⟨p,c,by rw[mayE,aR F];rfl,C,f⟩
theorem each_all {α:Type} {f:Ds→α×Ds} {P:α→Prop} (hf:∀s,(f s).2.rest.length≤s.rest.length) (hp:∀s,s.rest.length<1000000000→P (f s).1):∀(n:Nat) (s:Ds),s.rest.length<1000000000→∀x∈(Ds.each f n s).1,P x
 |0,s,_,x,hx=>by cases hx
 |n+1,s,hs,x,hx=>by
  rw[Ds.each] at hx
  split at hx
  ·cases hx
  rcases List.mem_cons.1 hx with rfl|hx
  ·exact hp s hs
  exact each_all hf hp n _ (bL (hf s) hs) x hx
theorem row_len {α:Type} {f:Ds→α×Ds} (s:Ds):(s.row f).1.length<1000000000:=
 bL (Ds.xx0 _ _) (Nat.lt_trans (s.ub 1) zd)
theorem row_rest {α:Type} {f:Ds→α×Ds} (hf:∀s,(f s).2.rest.length≤s.rest.length) (s:Ds):(s.row f).2.rest.length≤s.rest.length:=
 aA (xx0 hf _ _) (s.qc 1).2.1
theorem row_all {α:Type} {f:Ds→α×Ds} {P:α→Prop} (hf:∀s,(f s).2.rest.length≤s.rest.length) (hp:∀s,s.rest.length<1000000000→P (f s).1) {s:Ds} (hs:s.rest.length<1000000000):∀x∈(s.row f).1,P x:=
 each_all hf hp _ _ (bL (s.qc 1).2.1 hs)
theorem Ds.id_le (s:Ds):s.id.2.rest.length≤s.rest.length:=s.un.2
def Ca (o:jq):Prop:=u4 o∧A5 o
theorem objZ_dec:Ca uo:=⟨qf,xz⟩
theorem endB_dec {b:List UInt8} {o:jq×Ds} (h:Ca o.1):Ca (endB b o).1:=by
 unfold endB
 split
 ·exact objZ_dec
 split
 ·exact h
 exact objZ_dec
theorem com_dec {s:Ds} (hs:s.rest.length<1000000000):Ca s.com.1:=by
 have c:(s.off 1).2.rest.length<1000000000:=bL (s.qc 1).2.1 hs
 have a:(s.off 1).2.id.2.rest.length<1000000000:=bL (Ds.id_le _) c
 have d:((s.off 1).2.id.2.row Ds.id).2.rest.length<1000000000:=bL (row_rest Ds.id_le _) a
 have b:((s.off 1).2.id.2.row Ds.id).2.id.2.rest.length<1000000000:=bL (Ds.id_le _) d
 refine⟨⟨(Ds.un _).1,(Ds.un _).1,row_all Ds.id_le (fun s _=>(Ds.un s).1) a,fun _ h=>absurd h List.not_mem_nil,?_,Ds.ub _ 4,Ds.ub _ 4⟩,⟨(show([]:List jf).length<1000000000 from by decide),row_len _,row_len _,fun _ h=>absurd h List.not_mem_nil,?_⟩⟩
 ·exact row_all (P:=fun r:u9=>r.path.length≤maxLen∧r.text.length≤maxLen) Ds.chg_le (fun s hs=>Ds.chg_in hs) b
 exact row_all (P:=fun r:u9=>r.path.length<1000000000) Ds.chg_le (fun s hs=>bL (s.vf 1).1 hs) b
theorem dec_ok {l:List UInt8} (hl:l.length<1000000000):Ca (vj l).1:=by
 have a:((⟨l,false⟩:Ds).off 1).2.rest.length<1000000000:=bL (Ds.qc _ 1).2.1 hl
 unfold vj
 split
 ·exact objZ_dec
 dsimp only
 split
 ·exact endB_dec ⟨⟨qf.tree,qf.base,qf.parents,qf.leaves,qf.rows,qf.number,qf.author⟩,⟨xz.leaves,xz.parents,xz.rows,xz.leafP,xz.rowP⟩⟩
 split
 ·exact endB_dec ⟨⟨qf.tree,qf.base,qf.parents,row_all (P:=fun r:jf=>r.path.length≤maxLen∧r.id.length=32) Ds.leaf_le (fun s b=>Ds.leaf_in b) a,qf.rows,qf.number,qf.author⟩,⟨row_len _,xz.parents,xz.rows,row_all (P:=fun r:jf=>r.path.length<1000000000) Ds.leaf_le (fun s b=>bL (s.vf 1).1 b) a,xz.rowP⟩⟩
 split
 ·exact endB_dec (com_dec a)
 exact objZ_dec
theorem Cv.rawN {w:World} {rb:Nat} {s:Ds} (h:Cv w rb s) (hl:s.rest.length<1000000000) (n:Nat):gn prog 103 [.pointer (some ⟨rb,0,none⟩),.int .i64 (n:Int)] w fun v w'=>∃q c,v= .slice q (s.off n).1.length c∧k8 w w' q (s.off n).1.length c 5 1 (ge (s.off n).1)∧Cv w' rb (s.off n).2∧Ext (One rb) w w':=
 ((rawN_calls w h hl n)).mono fun v w' ⟨q,c,h1,h2,h3,h4⟩=>by
  have e:=off_eq s n
  rw[e] at h1 h2 h3
  exact⟨q,c,h1,⟨h2.1,h2.2⟩,h3,h4⟩
abbrev longV (b4:Nat):Value:= .func (.func 102) #[] #[.pointer (some ⟨b4,0,none⟩)]
structure C4 (W u:World) (rb b4 b6:Nat) (s:Ds):Prop where
  r:Cv u rb s
  p4:gz u b4 194 [.pointer (some ⟨rb,0,none⟩)]
  p6:gz u b6 135 [longV b4]
  nr:W.heap.size≤rb
  len:s.rest.length<1000000000
theorem C4.ga {W w w':World} {rb b4 b6:Nat} {s:Ds} (h:C4 W w rb b4 b6 s) (hE:Ext No w w'):C4 W w' rb b4 b6 s:=⟨h.r.ga hE,h.p4.ga hE,h.p6.ga hE,h.nr,h.len⟩
def DecT (T:Nat):Prop:=264≠T∧5≠T∧194≠T∧135≠T
instance (T:Nat):Decidable (DecT T):=inferInstanceAs (Decidable (_∧_))
theorem C4.gj {W w w':World} {rb b4 b6:Nat} {s:Ds} (h:C4 W w rb b4 b6 s) {x T:Nat} {L:List Value} (hE:Ext (One x) w w') (hb:gz w x T L) (hT:DecT T):C4 W w' rb b4 b6 s:=
 ⟨h.r.gj hE hb hT.1 hT.2.1,h.p4.gj hE (h.p4.ne hb hT.2.2.1),h.p6.gj hE (h.p6.ne hb hT.2.2.2),h.nr,h.len⟩
theorem C4.ne {W w:World} {rb b4 b6:Nat} {s:Ds} (h:C4 W w rb b4 b6 s) {x T:Nat} {L:List Value} (hb:gz w x T L) (hT:264≠T):x≠rb:=(h.r.ne hb hT).symm
theorem C4.rd {W w w':World} {rb b4 b6:Nat} {s s':Ds} (h:C4 W w rb b4 b6 s) (hr:Cv w' rb s') (hE:Ext (One rb) w w') (hl:s'.rest.length≤s.rest.length):C4 W w' rb b4 b6 s':=
 ⟨hr,h.p4.gj hE (h.ne h.p4 zd),h.p6.gj hE (h.ne h.p6 zd),h.nr,bL hl h.len⟩
theorem C4.own {W w w':World} {rb b4 b6:Nat} {s:Ds} (h:C4 W w rb b4 b6 s) {p:Option Addr} {n c T sz:Nat} {xs:List Value} (ho:Own w p n c T sz xs) (hE:Ext (jb p) w w') (hT:DecT T) (hlt:∀x,jb p x→x<w.heap.size):C4 W w' rb b4 b6 s:=by
 rcases ho with⟨d,_⟩|⟨b,l,d,e,_⟩
 ·exact h.ga (hE.mono fun x _ a=>by rw[d] at a;cases a)
 exact h.gj (hE.mono fun x _ a=>by rw[d] at a;exact(congrArg Addr.block (cG a)).symm) e hT
theorem rdNew {W w w':World} {rb:Nat} (hX:Ext No W w) (hE:Ext (One rb) w w') (hn:W.heap.size≤rb):Ext No W w':=hX.gi hE hn
abbrev zv9 (s:Ds):Bytes×Ds:=s.str 2
theorem zv0 (w:World) {W:World} {rb b4 b6:Nat} {s:Ds} (h:C4 W w rb b4 b6 s):
  gn prog 102 [.pointer (some ⟨b4,0,none⟩)] w fun v w'=>∃q c,v= .slice q (s.str 2).1.length c∧k8 w w' q (s.str 2).1.length c 5 1 (ge (s.str 2).1)∧C4 W w' rb b4 b6 (s.str 2).2∧Ext (One rb) w w':=by
 have t:=s.ub 2
 refine gx func102 ?_
 have d:=Ext.refl (One rb) w
 refine jd rfl (gl (jr rfl 6 [qP 0,qP 1,(2,false),qP 3,(4,false),qP 5] [] (One rb) zk fun u e x=> ?_))
 have g:=h
 have h:=h.ga e
 have d:=d.gb e
 have m:Ext (One rb) _ u:=e.no
 refine j3 gc rfl rfl (fun w' f=>((g.p4.ext (show Ext (One rb) _ w' from f) (g.ne g.p4 zd)).cell rfl)) ?_
 refine j3 gc rfl rfl (fun w' f=>((g.p4.ext (show Ext (One rb) _ w' from f) (g.ne g.p4 zd)).cell rfl)) ?_
 refine jo rfl (j1 call104 rfl (h.r.u16 h.len) fun z A i=>⟨(by obtain⟨rfl,j,a⟩:=i;exact m.then a),?_⟩)
 obtain⟨rfl,j,a⟩:=i
 have m:=m.then a
 have d:=d.then a
 have n:=h.rd j a (s.qc 2).2.1
 refine gt gc 1 rfl ?_
 rw[jz _ zo]
 have o:=d
 refine jo rfl (j1 call103 rfl (n.r.rawN n.len (num (s.off 2).1)) fun B C k=>⟨(by obtain⟨q,c,rfl,p,l,b⟩:=k;exact m.then b),?_⟩)
 obtain⟨q,c,rfl,p,l,b⟩:=k
 have d:=d.then b
 have y:=n.rd l b (Ds.qc _ _).2.1
 refine gt gc 1 rfl (jg (j5 (jp (j9 (gv rfl rfl ?_)))))
 exact⟨q,c,rfl,p.older o.size,y,d⟩
theorem decobj_calls (w:World) {W:World} {rb b4 b5 b6:Nat} {s:Ds} (h:C4 W w rb b4 b6 s) {ok:Bool} (hb5:gz w b5 4 [.bool ok]):
  gn prog 106 [.pointer (some ⟨b6,0,none⟩),.pointer (some ⟨b5,0,none⟩)] w fun v w'=>∃a,v= .agg (jn (vj (s.str 2).1).1 a).toArray∧qw w w' (vj (s.str 2).1).1 a∧C4 W w' rb b4 b6 (s.str 2).2∧gz w' b5 4 [.bool (ok&&decide ((vj (s.str 2).1).2=0))]∧Ext (fun x=>x=rb∨x=b5) w w':=by
 have C:=bL (s.vf 2).1 h.len
 have j:=dec_ok C
 refine gx func106 ?_
 have g:=Ext.refl (fun x=>x=rb∨x=b5) w
 refine ko (gw rfl fun L M E b y=> ?_)
 have F:=aA g.size E
 have h:=h.ga y
 have hb5:=hb5.ga y
 have g:=g.gb y
 refine qq (ko (gu rfl (h.p6.cell rfl) (gh call102 rfl (zv0 M h) fun V N G=> ?_)))
 obtain⟨q,c,rfl,O,P,A⟩:=G
 have b:=b.gj A (h.ne b zd)
 have g:=g.then (A.mono fun _ _ e=> .inl e)
 have hb5:=hb5.gj A (h.ne hb5 zd)
 have h:=P
 have H:=g
 refine gh call107 rfl (decode_calls N O.sl C) fun X Y I=> ?_
 obtain⟨a,rfl,i,r⟩:=I
 have b:=b.ga r
 have h:=h.ga r
 have hb5:=hb5.ga r
 have g:=g.gb r
 have i:=i.older H.size
 refine j0 gc rfl (gw rfl fun Q Z D f k=> ?_)
 have B:=j2 b.lt D
 have J:=aA g.size D
 have b:=b.ga k
 have h:=h.ga k
 have hb5:=hb5.ga k
 have i:=i.ga k
 have g:=g.gb k
 have l:=f
 refine wl (j4 (l':=jn (vj (s.str 2).1).1 a) gc f rfl rfl (gp j.1) (gp j.1) OneC.h fun w5 f m R=> ?_)
 have b:=b.gj m B
 have h:=h.gj m l zd
 have hb5:=hb5.gj m (hb5.ne l zd)
 have i:=i.gj m l zd zd zd
 have g:=g.gi m J
 refine km rfl ?_
 refine ji (α:=Bool) [2,3] rfl (fun z=>[]) (fun z u=>(z=(ok&&decide ((vj (s.str 2).1).2=0))∧C4 W u rb b4 b6 (s.str 2).2∧gz u b5 4 [.bool z]∧qw w u (vj (s.str 2).1).1 a)∧gz u L 37 (cellsOf ti37.zero)∧gz u Q 37 (jn (vj (s.str 2).1).1 a)∧Ext (fun x=>x=rb∨x=b5) w u) ?_ ?_
 ·refine gy ?_
  refine gu rfl (hb5.cell rfl) (j0 gc rfl (uq 12 rfl (fun K=> ?_) (fun K=> ?_)))
  ·refine gq gc 3 rfl ?_
   have d:=hb5
   refine kl hb5 rfl rfl rfl fun w6 hb5 n S=> ?_
   have h:=h.gj n d zd
   have i:=i.gj n d zd zd zd
   have b:=b.gj n (b.ne d zd)
   have f:=f.gj n (f.ne d zd)
   have g:=g.then (n.mono fun _ _ e=> .inr e)
   refine gk ?_
   exact gr (_) rfl ⟨⟨by rw[K];rfl,h,hb5,i⟩,b,f,g⟩
  refine gq gc 3 rfl ?_
  have d:=hb5
  refine kl hb5 rfl rfl rfl fun w7 hb5 o T=> ?_
  have h:=h.gj o d zd
  have i:=i.gj o d zd zd zd
  have b:=b.gj o (b.ne d zd)
  have f:=f.gj o (f.ne d zd)
  have g:=g.then (o.mono fun _ _ e=> .inr e)
  refine gk ?_
  exact gr (false) rfl ⟨⟨by rw[K];rfl,h,hb5,i⟩,b,f,g⟩
 rintro z w8 ⟨⟨rfl,h,hb5,i⟩,b,f,g⟩
 refine ko (je f rfl (gp j.1) ?_)
 have p:=b
 refine wl (j4 (l':=jn (vj (s.str 2).1).1 a) gc b rfl rfl (gp j.1) (by rw[gp j.1];rfl) OneC.h fun w9 b t U=> ?_)
 have h:=h.gj t p zd
 have hb5:=hb5.gj t (hb5.ne p zd)
 have i:=i.gj t p zd zd zd
 have g:=g.gi t F
 refine qq (j9 (qe [_] ⟨⟨L,0,rfl,qg gc rfl rfl b.kj (gp j.1)⟩,trivial⟩ ?_))
 exact⟨a,rfl,i,h,hb5,g⟩
structure SevO (w W u:World) (rb b4 b5 b6:Nat) (s:Ds) (n:Nat) (ok:Bool) (q:Option Addr) (k:Nat) (xs:List yj1):Prop where
  own:k8 w u q xs.length k 37 73 (xs.flatMap B6)
  all:∀x∈xs,Ca x.1∧qw w u x.1 x.2
  i:C4 W u rb b4 b6 (Ds.each zv9 n s).2
  few:xs.length≤n
  b5:∃o,gz u b5 4 [.bool o]∧((Ds.each zv9 n s).2.bad=false→xs.map Prod.fst=(Ds.each zv9 n s).1.map (fun y=>(vj y).1)∧o=(ok&&(Ds.each zv9 n s).1.all fun y=>decide ((vj y).2=0)))
theorem objZc:cellsOf ti37.zero=jn uo Dh:=by kernel_rfl
theorem xz2 {o:jq} {a:vb} (h:u4 o):yh (Cn 1 (jn uo Dh)) [(0*(0+73),0+73,.agg (jn o a).toArray)]=jn o a:=by
 simp only[yh,jh]
 rw[cW,Az (by rw[um,gp h,gp qf])]
theorem qw.extT {W0 w w':World} {o:jq} {a:vb} (h:qw W0 w o a) {p:Option Addr} {n c T sz:Nat} {xs:List Value} (ho:Own w p n c T sz xs) (hE:Ext (jb p) w w') (h1:148≠T) (h2:30≠T) (h3:150≠T):qw W0 w' o a:=by
 rcases ho with⟨e,_⟩|⟨b,l,e,f,_⟩
 ·exact h.ga (hE.mono fun x _ d=>by rw[e] at d;cases d)
 exact h.gj (hE.mono fun x _ d=>by rw[e] at d;exact(congrArg Addr.block (cG d)).symm) f h1 h2 h3
theorem Own.not2 {w:World} {p:Option Addr} {n c T sz:Nat} {xs:List Value} (h:Own w p n c T sz xs) {rb b5:Nat} {s:Ds} {v:List Value} (hr:Cv w rb s) (hb:gz w b5 4 v) (h1:264≠T) (h2:T≠4):∀y,jb p y→¬(y=rb∨y=b5):=fun y hy e=>by
 obtain⟨l,hl⟩:=h.D7 hy
 exact e.elim (fun e=>hr.ne hl h1 e.symm) fun e=>hl.ne hb h2 e
theorem objNew_keep {W0 w w':World} {o:jq} {a:vb} (h:qw W0 w o a) {rb b5:Nat} {s:Ds} {v:List Value} (hE:Ext (fun x=>x=rb∨x=b5) w w') (hr:Cv w rb s) (hb:gz w b5 4 v):qw W0 w' o a:=
 ⟨h.ol.ext hE (Own.not2 h.ol hr hb zd zd),h.op.ext hE (Own.not2 h.op hr hb zd zd),h.or.ext hE (Own.not2 h.or hr hb zd zd),h.nl,h.np,h.nr⟩
theorem ds_err {s:Ds}:s.err=0↔s.bad=false:=by unfold Ds.err;cases s.bad<;>simp
theorem C6 {α:Type} {f:Ds→α×Ds} {n:Nat} {s:Ds} (h:s.bad=true):Ds.each f n s=([],s):=Ds.each_end (.inr h)
theorem sevobj_calls (w:World) {W:World} {rb b4 b5 b6:Nat} {s:Ds} (h:C4 W w rb b4 b6 s) {ok:Bool} (hb5:gz w b5 4 [.bool ok]) (n:Nat) (hn:n<65536) (hs:n=0∨s.bad=false):
  gn prog 105 [.pointer (some ⟨rb,0,none⟩),.int .i64 (n:Int),.func (.func 106) #[] #[.pointer (some ⟨b6,0,none⟩),.pointer (some ⟨b5,0,none⟩)]] w fun v w'=>∃q k xs,v= .slice q xs.length k∧SevO w W w' rb b4 b5 b6 s n ok q k xs∧Ext (fun x=>x=rb∨x=b5) w w':=by
 refine gx func105 ?_
 have hX:=Ext.refl (fun x=>x=rb∨x=b5) w
 refine jd rfl ?_
 refine ji (α:=Option Addr×Nat×List yj1) [] rfl (fun z=>[(6,.slice z.1 z.2.2.length z.2.1)]) (fun z u=>(SevO w W u rb b4 b5 b6 s n ok z.1 z.2.1 z.2.2)∧Ext (fun x=>x=rb∨x=b5) w u) ?_ ?_
 ·refine gl ?_
  refine gy (km rfl (j8 ?_))
  refine jj (α:=Nat×Option Addr×Nat×List yj1×Ds×List Bytes×Bool) [0,2,8] rfl (fun z=>[(6,.slice z.2.1 z.2.2.2.1.length z.2.2.1),(9,.int .i64 (z.1:Int))]) (fun z u=>((z.1≤n∧(z.1=n∨z.2.2.2.2.1.bad=false)∧z.2.2.2.1.length=z.1∧Ds.each zv9 n s=(z.2.2.2.2.2.1++(Ds.each zv9 (n-z.1) z.2.2.2.2.1).1,(Ds.each zv9 (n-z.1) z.2.2.2.2.1).2)∧z.2.2.2.1.map Prod.fst=z.2.2.2.2.2.1.map (fun y=>(vj y).1)∧z.2.2.2.2.2.2=(ok&&z.2.2.2.2.2.1.all fun y=>decide ((vj y).2=0)))∧k8 w u z.2.1 z.2.2.2.1.length z.2.2.1 37 73 (z.2.2.2.1.flatMap B6)∧(∀x∈z.2.2.2.1,Ca x.1∧qw w u x.1 x.2)∧C4 W u rb b4 b6 z.2.2.2.2.1∧gz u b5 4 [.bool z.2.2.2.2.2.2])∧Ext (fun x=>x=rb∨x=b5) w u) (fun z u=>n-z.1) (0,none,0,[],s,[],ok) rfl ⟨⟨⟨aJ _,hs.imp Eq.symm id,rfl,rfl,rfl,by simp⟩,k8.nil _ _ _ _,fun _ h=>(by cases h),h,hb5⟩,hX⟩ ?_
  rintro⟨i,q,k,xs,s1,ys,o⟩ w1 ⟨⟨⟨hi,hib,hxl,hea,hmp,ho⟩,hq,hall,h,hb5⟩,hX⟩
  try dsimp only
  dsimp only at hi hib hxl hea hmp ho hq hall h hb5
  refine jd rfl (gl (jl rfl (fun hc=> ?_) (fun hc=> ?_)))
  ·have hi2:i<n:=by omega
   have hnb:s1.bad=false:=hib.elim (fun e=>by omega) id
   have hsl:=bL (s1.vf 2).1 h.len
   have hdk:=dec_ok hsl
   rw[show n-i=(n-i-1)+1 from by omega,Ds.Dg hnb] at hea
   refine Ac (ki rfl ?_)
   have hX3:=hX
   have hqo:=hq
   have hallo:=hall
   have hrw:=h
   refine gh call106 rfl (decobj_calls w1 h hb5) fun v2 w2 hr2=> ?_
   obtain⟨a,rfl,hN,h2,hb52,hE2⟩:=hr2
   have hX:=hX.then hE2
   have hq:=k8.mk (hqo.own.ext hE2 (Own.not2 hqo.own hrw.r hb5 zd zd)) hqo.new
   have hall:(∀x∈xs,Ca x.1∧qw w w2 x.1 x.2):=fun x hx=>⟨(hallo x hx).1,objNew_keep (hallo x hx).2 hE2 hrw.r hb5⟩
   have h:=h2
   have hb5:=hb52
   have hN:=hN.older hX3.size
   have hqb:=hq
   refine gw rfl fun b7 w3 hn7 hb7 hE3=> ?_
   have fr7:=aA hX.size hn7
   have h:=h.ga hE3
   have hb5:=hb5.ga hE3
   have hq:=hq.ga hE3
   have hall:=fun x hx=>And.intro (hall x hx).1 ((hall x hx).2.ga hE3)
   have hN:=hN.ga hE3
   have hX:=hX.gb hE3
   have hq7:∀y,jb q y→y≠b7:=fun y hy=>j2 (hqb.own.lt hy) hn7
   have hb7o:=hb7
   refine wl (j4 (l':=jn (vj (s1.str 2).1).1 a) gc hb7 rfl rfl (gp hdk.1) (gp hdk.1) OneC.h fun w4 hb7 hE4 hs4=> ?_)
   have h:=h.gj hE4 hb7o zd
   have hb5:=hb5.gj hE4 (hb5.ne hb7o zd)
   have hq:=k8.mk (hq.own.ext hE4 fun y hy e=>hq7 y hy e) hq.new
   have hall:=fun x hx=>And.intro (hall x hx).1 ((hall x hx).2.gj hE4 hb7o zd zd zd)
   have hN:=hN.gj hE4 hb7o zd zd zd
   have hX:=hX.gi hE4 fr7
   refine qq (gl (ki rfl (gh call111 rfl (h.r.err) fun v5 w5 hr5=> ?_)))
   obtain⟨rfl,rfl⟩:=hr5
   refine km rfl (jl rfl (fun hc=> ?_) (fun hc=> ?_))
   ·have hbad:(zv9 s1).2.bad=true:=by
     have:=mt ds_err.2 hc
     simpa using this
    have he2:(Ds.each zv9 n s).2=(zv9 s1).2:=by rw[hea];dsimp only;rw[C6 hbad]
    refine y8 ?_
    exact ql (f_blockE' rfl (ql (ql (ve (gr (q,k,xs) rfl ⟨⟨hq,hall,by rw[he2];exact h,by dsimp only;omega,_,hb5,fun hb=>by rw[he2,hbad] at hb;cases hb⟩,hX⟩)))))
   have hgood:(zv9 s1).2.bad=false:=ds_err.1 (aS.1 hc)
   refine x3 (yl rfl (je hb7 rfl (gp hdk.1) ?_))
   refine wl (qi gc rfl 73 rfl objZc (gp qf) zd zd ⟨⟨by rw[jh];exact gp hdk.1,by decide⟩,trivial⟩ (l':=jn (vj (s1.str 2).1).1 a) (xz2 hdk.1) fun b18 w6 hn18 hb18 hE6 hs6=> ?_)
   have h:=h.ga hE6
   have hb5:=hb5.ga hE6
   have hq:=hq.ga hE6
   have hall:=fun x hx=>And.intro (hall x hx).1 ((hall x hx).2.ga hE6)
   have hN:=hN.ga hE6
   have hX:=hX.gb hE6
   have hqo:=hq.own
   refine wl (xj gc rfl 73 192 rfl rfl rfl zd hq (Src.slice (m:=1) ⟨gp hdk.1,.inr ⟨b18,0,rfl,hb18.kj⟩⟩ OneC.h) zm zn (n':=(xs++[((vj (s1.str 2).1).1,a)]).length) (ys:=(xs++[((vj (s1.str 2).1).1,a)]).flatMap B6) zi (by rw[bC,bU];rfl) hX fun q k w7 hq hE7 hX=> ?_)
   dsimp only at hq hE7
   have h:=h.own hqo hE7 zd fun x=>hqo.lt
   have hb5:=hb5.ke hqo hE7 zd
   have hall:=fun x hx=>And.intro (hall x hx).1 ((hall x hx).2.extT hqo hE7 zd zd zd)
   have hN:=hN.extT hqo hE7 zd zd zd
   refine j0 gc rfl (gk (Aa rfl ?_))
   rw[jz _ zo]
   refine gk ?_
   exact jk (i+1,q,k,xs++[((vj (s1.str 2).1).1,a)],(zv9 s1).2,ys++[(s1.str 2).1],o&&decide ((vj (s1.str 2).1).2=0)) rfl ⟨⟨⟨hi2,.inr hgood,by simp[hxl],by rw[hea];simp[show n-(i+1)=n-i-1 from by omega],by rw[bX,bX,hmp];rfl,by rw[ho,List.all_append];simp[Bool.and_assoc]⟩,hq,fun x hx=>(aY.1 hx).elim (hall x) (fun e=>by rw[aI.1 e];exact⟨hdk,hN⟩),h,hb5⟩,hX⟩ zf
  have h0:i=n:=by omega
  subst h0
  rw[Nat.sub_self] at hea
  have he1:(Ds.each zv9 i s).1=ys:=by rw[hea];simp[Ds.each]
  have he2:(Ds.each zv9 i s).2=s1:=by rw[hea];rfl
  refine y8 ?_
  exact ql (ql (ve (gr (q,k,xs) rfl ⟨⟨hq,hall,by rw[he2];exact h,by dsimp only;omega,_,hb5,fun _=>by rw[he1];exact⟨hmp,ho⟩⟩,hX⟩)))
 rintro⟨q,k,xs⟩ w8 ⟨hS,hX⟩
 try dsimp only
 dsimp only at hS
 refine jd rfl (j9 (gv rfl rfl ?_))
 exact⟨q,k,xs,rfl,hS,hX⟩
structure xg (W w:World) (x:By):Prop where
  old:k8 W w x.2.op x.1.old.length x.2.oc 5 1 (ge x.1.old)
  new:k8 W w x.2.np x.1.new.length x.2.nc 5 1 (ge x.1.new)
  ln:x.1.name.length<1000000000
  lo:x.1.old.length<1000000000
  lw:x.1.new.length<1000000000
theorem xg.ga {W w w':World} {x:By} (h:xg W w x) (hE:Ext No w w'):xg W w' x:=⟨h.old.ga hE,h.new.ga hE,h.ln,h.lo,h.lw⟩
theorem xg.gj {W w w':World} {x:By} (h:xg W w x) {b T:Nat} {L:List Value} (hE:Ext (One b) w w') (hb:gz w b T L) (hT:5≠T):xg W w' x:=⟨h.old.gj hE hb hT,h.new.gj hE hb hT,h.ln,h.lo,h.lw⟩
theorem xg.at {W w:World} {x:By} (h:xg W w x):SetAt w x:=⟨h.old.sl,h.new.sl,h.ln,h.lo,h.lw⟩
theorem xg.zv5 {W w w':World} {x:By} (h:xg W w x) {p2:Option Addr} {n2 c2 T2 sz2:Nat} {xs2:List Value} (ho:Own w p2 n2 c2 T2 sz2 xs2) (hE:Ext (jb p2) w w') (hT:5≠T2):xg W w' x:=⟨h.old.zv5 ho hE hT,h.new.zv5 ho hE hT,h.ln,h.lo,h.lw⟩
theorem ownRd {W w w':World} {p:Option Addr} {n c T sz:Nat} {xs:List Value} (h:k8 W w p n c T sz xs) {rb:Nat} {s:Ds} (hE:Ext (One rb) w w') (hr:Cv w rb s) (hT:264≠T):k8 W w' p n c T sz xs:=
 ⟨h.own.ext hE fun y hy e=>by obtain⟨l,hl⟩:=h.own.D7 hy;exact hr.ne hl hT (by have e:y=rb:=e;exact e.symm),h.new⟩
theorem xg.rd {W w w':World} {x:By} (h:xg W w x) {rb:Nat} {s:Ds} (hE:Ext (One rb) w w') (hr:Cv w rb s):xg W w' x:=⟨ownRd h.old hE hr zd,ownRd h.new hE hr zd,h.ln,h.lo,h.lw⟩
theorem setZc:cellsOf ti91.zero=uz (⟨[],false,false,[],[]⟩,⟨none,0,none,0⟩):=by kernel_rfl
theorem xg.older {V W w:World} {x:By} (h:xg W w x) (hV:V.heap.size≤W.heap.size):xg V w x:=⟨h.old.older hV,h.new.older hV,h.ln,h.lo,h.lw⟩
theorem decset_calls (w:World) {W:World} {rb b4 b6:Nat} {s:Ds} (h:C4 W w rb b4 b6 s):
  gn prog 110 [.pointer (some ⟨b4,0,none⟩),.pointer (some ⟨b6,0,none⟩)] w fun v w'=>∃a,v= .agg (uz (s.set.1,a)).toArray∧xg w w' (s.set.1,a)∧C4 W w' rb b4 b6 s.set.2∧Ext (One rb) w w':=by
 have F:=s.ub 1
 have T:=h.len
 refine gx func110 ?_
 have e:=Ext.refl (One rb) w
 refine ko (gw rfl fun y w1 U b G=> ?_)
 have l:=aA e.size U
 have h:=h.ga G
 have e:=e.gb G
 have b:gz w1 y 91 (uz (⟨[],false,false,[],[]⟩,⟨none,0,none,0⟩)):=b
 refine qq (gl (jr rfl 7 [qP 0,qP 1,(2,false),qP 3,(4,false),(5,false),qP 6] [7] (One rb) zk fun w2 u a5=> ?_))
 have E:=h
 have b:=b.ga u
 have h:=h.ga u
 have e:=e.gb u
 have z:Ext (One rb) _ w2:=u.no
 refine j3 gc rfl rfl (fun w' A=>((E.p4.ext (show Ext (One rb) _ w' from A) (E.ne E.p4 zd)).cell rfl)) ?_
 refine j3 gc rfl rfl (fun w' A=>((E.p4.ext (show Ext (One rb) _ w' from A) (E.ne E.p4 zd)).cell rfl)) ?_
 have x:=h
 refine jo rfl (j1 call109 rfl (h.r.u8 h.len) fun v3 w3 H=>⟨(by obtain⟨rfl,m,n⟩:=H;exact z.then n),?_⟩)
 obtain⟨rfl,m,n⟩:=H
 have b:=b.gj n (h.ne b zd)
 have e:=e.then n
 have z:=z.then n
 have h:=h.rd m n (s.qc 1).2.1
 refine gt gc 1 rfl ?_
 rw[jz _ zo]
 have h1:=h
 refine jo rfl (j1 call103 rfl (h.r.rawN h.len (num (s.off 1).1)) fun v4 w4 I=>⟨(by obtain⟨q,c,rfl,hq,J,o⟩:=I;exact z.then o),?_⟩)
 obtain⟨q,c,rfl,hq,J,o⟩:=I
 have b:=b.gj o (h.ne b zd)
 have e:=e.then o
 have z:=z.then o
 have h:C4 W w4 rb b4 b6 (s.str 1).2:=h.rd J o (Ds.qc _ _).2.1
 have V:=bL (s.vf 1).1 T
 refine jo rfl (D4 gc rfl rfl hq.sl ⟨z,?_⟩)
 refine gt gc 1 rfl (jg ?_)
 have d:=b
 refine wb rfl (yi gc b rfl rfl rfl fun w5 b K a6=> ?_)
 have h:=h.gj K d zd
 have e:=e.gi K l
 have b:gz w5 y 91 (uz (⟨(s.str 1).1,false,false,[],[]⟩,⟨none,0,none,0⟩)):=b
 refine j5 (jp (ko (gu rfl (h.p4.cell rfl) ?_)))
 have x:=h
 have F:=Ds.ub (s.str 1).2 1
 refine gh call109 rfl (h.r.u8 h.len) fun v6 w6 X=> ?_
 obtain⟨rfl,m,B⟩:=X
 have b:=b.gj B (h.ne b zd)
 have e:=e.then B
 have h:=h.rd m B (Ds.qc _ _).2.1
 refine j0 gc rfl ?_
 rw[show decide ((0:Int)<((num ((s.str 1).2.off 1).1:Nat):Int))=decide (0<num ((s.str 1).2.off 1).1) from by rw[aH];omega]
 refine j0 gc rfl ?_
 have d:=b
 refine kl b rfl rfl rfl fun w7 b L a7=> ?_
 have h:=h.gj L d zd
 have e:=e.gi L l
 have b:gz w7 y 91 (uz (⟨(s.str 1).1,(decide (0<num ((s.str 1).2.off 1).1)),false,[],[]⟩,⟨none,0,none,0⟩)):=b
 refine qq (ko (gu rfl (h.p6.cell rfl) ?_))
 have C:=e
 have x:=h
 refine gh call102 rfl (zv0 w7 h) fun v8 w8 Y=> ?_
 obtain⟨M,N,rfl,f,Z,O⟩:=Y
 have b:=b.gj O (h.ne b zd)
 have e:=e.then O
 have h:=Z
 have f:=f.older C.size
 have a0:=bL (Ds.vf ((s.str 1).2.off 1).2 2).1 x.len
 refine j0 gc rfl ?_
 have d:=b
 refine kl b rfl rfl rfl fun w9 b D a8=> ?_
 have h:=h.gj D d zd
 have f:=f.gj D d zd
 have e:=e.gi D l
 have b:gz w9 y 91 (uz (⟨(s.str 1).1,(decide (0<num ((s.str 1).2.off 1).1)),false,(((s.str 1).2.off 1).2.str 2).1,[]⟩,⟨M,N,none,0⟩)):=b
 refine qq (ko (gu rfl (h.p4.cell rfl) ?_))
 have x:=h
 have F:=Ds.ub (((s.str 1).2.off 1).2.str 2).2 1
 refine gh call109 rfl (h.r.u8 h.len) fun a9 aa P=> ?_
 obtain⟨rfl,m,i⟩:=P
 have b:=b.gj i (h.ne b zd)
 have e:=e.then i
 have h:=h.rd m i (Ds.qc _ _).2.1
 have f:=ownRd f i x.r zd
 refine j0 gc rfl ?_
 rw[show decide ((0:Int)<((num ((((s.str 1).2.off 1).2.str 2).2.off 1).1:Nat):Int))=decide (0<num ((((s.str 1).2.off 1).2.str 2).2.off 1).1) from by rw[aH];omega]
 refine j0 gc rfl ?_
 have d:=b
 refine kl b rfl rfl rfl fun Q b p a2=> ?_
 have h:=h.gj p d zd
 have f:=f.gj p d zd
 have e:=e.gi p l
 have b:gz Q y 91 (uz (⟨(s.str 1).1,(decide (0<num ((s.str 1).2.off 1).1)),(decide (0<num ((((s.str 1).2.off 1).2.str 2).2.off 1).1)),(((s.str 1).2.off 1).2.str 2).1,[]⟩,⟨M,N,none,0⟩)):=b
 refine qq (ko (gu rfl (h.p6.cell rfl) ?_))
 have C:=e
 have x:=h
 refine gh call102 rfl (zv0 Q h) fun ab ac R=> ?_
 obtain⟨q2,c2,rfl,g,Z,t⟩:=R
 have b:=b.gj t (h.ne b zd)
 have e:=e.then t
 have h:=Z
 have g:=g.older C.size
 have S:=bL (Ds.vf ((((s.str 1).2.off 1).2.str 2).2.off 1).2 2).1 x.len
 have f:=ownRd f t x.r zd
 refine j0 gc rfl ?_
 have d:=b
 refine kl b rfl rfl rfl fun a1 b j a3=> ?_
 have h:=h.gj j d zd
 have f:=f.gj j d zd
 have g:=g.gj j d zd
 have e:=e.gi j l
 have b:gz a1 y 91 (uz (⟨(s.str 1).1,(decide (0<num ((s.str 1).2.off 1).1)),(decide (0<num ((((s.str 1).2.off 1).2.str 2).2.off 1).1)),(((s.str 1).2.off 1).2.str 2).1,(((((s.str 1).2.off 1).2.str 2).2.off 1).2.str 2).1⟩,⟨M,N,q2,c2⟩)):=b
 refine qq (ko (je b rfl rfl ?_))
 have d:=b
 refine wl (j4 (l':=uz (⟨(s.str 1).1,(decide (0<num ((s.str 1).2.off 1).1)),(decide (0<num ((((s.str 1).2.off 1).2.str 2).2.off 1).1)),(((s.str 1).2.off 1).2.str 2).1,(((((s.str 1).2.off 1).2.str 2).2.off 1).2.str 2).1⟩,⟨M,N,q2,c2⟩)) gc b rfl rfl rfl rfl OneC.h fun ad b k a4=> ?_)
 have h:=h.gj k d zd
 have f:=f.gj k d zd
 have g:=g.gj k d zd
 have e:=e.gi k l
 refine qq (j9 (qe [_] ⟨⟨y,0,rfl,qg gc rfl rfl b.kj rfl⟩,trivial⟩ ?_))
 exact⟨⟨M,N,q2,c2⟩,rfl,⟨f,g,V,a0,S⟩,h,e⟩
structure SevS (w W u:World) (rb b4 b6:Nat) (s:Ds) (n:Nat) (q:Option Addr) (k:Nat) (xs:List By):Prop where
  own:k8 w u q xs.length k 91 5 (xs.flatMap uz)
  all:∀x∈xs,xg w u x
  i:C4 W u rb b4 b6 (Ds.each Ds.set n s).2
  few:xs.length≤n
  eq:(Ds.each Ds.set n s).2.bad=false→xs.map Prod.fst=(Ds.each Ds.set n s).1
theorem set_put (x:By):yh (Cn 1 (uz (⟨[],false,false,[],[]⟩,⟨none,0,none,0⟩))) [(0*(0+5),0+5,.agg (uz x).toArray)]=uz x:=rfl
theorem sevset_calls (w:World) {W:World} {rb b4 b6:Nat} {s:Ds} (h:C4 W w rb b4 b6 s) (n:Nat) (hn:n<65536) (hs:n=0∨s.bad=false):
  gn prog 108 [.pointer (some ⟨rb,0,none⟩),.int .i64 (n:Int),.func (.func 110) #[] #[.pointer (some ⟨b4,0,none⟩),.pointer (some ⟨b6,0,none⟩)]] w fun v w'=>∃q k xs,v= .slice q xs.length k∧SevS w W w' rb b4 b6 s n q k xs∧Ext (One rb) w w':=by
 refine gx func108 ?_
 have c:=Ext.refl (One rb) w
 refine jd rfl (ji (α:=Option Addr×Nat×List By) [] rfl (fun z=>[(6,.slice z.1 z.2.2.length z.2.1)]) (fun z u=>(SevS w W u rb b4 b6 s n z.1 z.2.1 z.2.2)∧Ext (One rb) w u) ?_ ?_)
 ·refine gl ?_
  refine gy (km rfl (j8 ?_))
  refine jj (α:=Nat×Option Addr×Nat×List By×Ds) [0,2,8] rfl (fun z=>[(6,.slice z.2.1 z.2.2.2.1.length z.2.2.1),(9,.int .i64 (z.1:Int))]) (fun z u=>((z.1≤n∧(z.1=n∨z.2.2.2.2.bad=false)∧z.2.2.2.1.length=z.1∧Ds.each Ds.set n s=(z.2.2.2.1.map Prod.fst++(Ds.each Ds.set (n-z.1) z.2.2.2.2).1,(Ds.each Ds.set (n-z.1) z.2.2.2.2).2))∧k8 w u z.2.1 z.2.2.2.1.length z.2.2.1 91 5 (z.2.2.2.1.flatMap uz)∧(∀x∈z.2.2.2.1,xg w u x)∧C4 W u rb b4 b6 z.2.2.2.2)∧Ext (One rb) w u) (fun z u=>n-z.1) (0,none,0,[],s) rfl ⟨⟨⟨aJ _,hs.imp Eq.symm id,rfl,rfl⟩,k8.nil _ _ _ _,fun _ h=>(by cases h),h⟩,c⟩ ?_
  rintro⟨i,q,k,xs,g⟩ w1 ⟨⟨⟨hi,I,J,f⟩,d,b,h⟩,c⟩
  try dsimp only
  dsimp only at hi I J f d b h
  refine jd rfl (gl (jl rfl (fun K=> ?_) (fun K=> ?_)))
  ·have O:i<n:=by omega
   have P:g.bad=false:=I.elim (fun e=>by omega) id
   rw[show n-i=(n-i-1)+1 from by omega,Ds.Dg P] at f
   refine Ac (ki rfl ?_)
   have Q:=c
   have L:=h
   refine gh call110 rfl (decset_calls w1 h) fun v2 w2 R=> ?_
   obtain⟨a,rfl,j,h2,G⟩:=R
   have c:=c.then G
   have d:=ownRd d G L.r zd
   have b:=fun x l=>(b x l).rd G L.r
   have h:=h2
   have j:=j.older Q.size
   have S:=d
   refine gw rfl fun b7 w3 M B o=> ?_
   have T:=aA c.size M
   have h:=h.ga o
   have d:=d.ga o
   have b:=fun x l=>(b x l).ga o
   have j:=j.ga o
   have c:=c.gb o
   have U:∀y,jb q y→y≠b7:=fun y V=>j2 (S.own.lt V) M
   have p:=B
   refine wl (j4 (l':=uz (g.set.1,a)) gc B rfl rfl rfl rfl OneC.h fun w4 B t a1=> ?_)
   have h:=h.gj t p zd
   have d:=k8.mk (d.own.ext t fun y V e=>U y V e) d.new
   have b:=fun x l=>(b x l).gj t p zd
   have j:=j.gj t p zd
   have c:=c.gi t T
   refine qq (gl (ki rfl (gh call111 rfl (h.r.err) fun v5 w5 X=> ?_)))
   obtain⟨rfl,rfl⟩:=X
   refine km rfl (jl rfl (fun K=> ?_) (fun K=> ?_))
   ·have F:g.set.2.bad=true:=by
     have:=mt ds_err.2 K
     simpa using this
    have C:(Ds.each Ds.set n s).2=g.set.2:=by rw[f];dsimp only;rw[C6 F]
    refine y8 ?_
    exact ql (f_blockE' rfl (ql (ql (ve (gr (q,k,xs) rfl ⟨⟨d,b,by rw[C];exact h,by dsimp only;omega,fun hb=>by rw[C,F] at hb;cases hb⟩,c⟩)))))
   have H:g.set.2.bad=false:=ds_err.1 (aS.1 K)
   refine x3 (yl rfl (je B rfl rfl (wl (qi gc rfl 5 rfl setZc rfl zd zd ⟨⟨rfl,by decide⟩,trivial⟩ (l':=uz (g.set.1,a)) (set_put _) fun Y w6 a0 N A a2=> ?_))))
   have h:=h.ga A
   have d:=d.ga A
   have b:=fun x l=>(b x l).ga A
   have j:=j.ga A
   have c:=c.gb A
   have D:=d.own
   refine wl (xj gc rfl 5 72 rfl rfl rfl zd d (Src.slice (m:=1) ⟨rfl,.inr ⟨Y,0,rfl,N.kj⟩⟩ OneC.h) zm zn (n':=(xs++[(g.set.1,a)]).length) (ys:=(xs++[(g.set.1,a)]).flatMap uz) zi (by rw[bC,bU]) c fun q k w7 d E c=> ?_)
   dsimp only at d E
   have h:=h.own D E zd fun x=>D.lt
   have b:=fun x l=>(b x l).zv5 D E zd
   have j:=j.zv5 D E zd
   refine j0 gc rfl (gk (Aa rfl ?_))
   rw[jz _ zo]
   refine gk ?_
   exact jk (i+1,q,k,xs++[(g.set.1,a)],g.set.2) rfl ⟨⟨⟨O,.inr H,by simp[J],by rw[f];simp[show n-(i+1)=n-i-1 from by omega]⟩,d,fun x l=>(aY.1 l).elim (b x) (fun e=>by rw[aI.1 e];exact j),h⟩,c⟩ zf
  have h0:i=n:=by omega
  subst h0
  rw[Nat.sub_self] at f
  have Z:(Ds.each Ds.set i s).1=xs.map Prod.fst:=by rw[f];simp[Ds.each]
  have C:(Ds.each Ds.set i s).2=g:=by rw[f];rfl
  refine y8 ?_
  exact ql (ql (ve (gr (q,k,xs) rfl ⟨⟨d,b,by rw[C];exact h,by dsimp only;omega,fun _=>Z.symm⟩,c⟩)))
 rintro⟨q,k,xs⟩ w8 ⟨hS,c⟩
 try dsimp only
 dsimp only at hS
 refine jd rfl (j9 (gv rfl rfl ?_))
 exact⟨q,k,xs,rfl,hS,c⟩
structure xp (W w:World) (B:qu):Prop where
  os:k8 W w B.op B.os.length B.oc 37 73 (B.os.flatMap B6)
  ss:k8 W w B.sp B.ss.length B.sc 91 5 (B.ss.flatMap uz)
  o:∀x∈B.os,Ca x.1∧qw W w x.1 x.2
  s:∀x∈B.ss,xg W w x
  lo:B.os.length<1000000
  ls:B.ss.length<1000000
theorem xp.at {W w:World} {B:qu} (h:xp W w B):C9 w B:=⟨h.os.sl,h.ss.sl,fun x hx=>⟨(h.o x hx).1.1,(h.o x hx).1.2,(h.o x hx).2.l⟩,fun x hx=>(h.s x hx).at,h.lo,h.ls⟩
theorem xp.ga {W w w':World} {B:qu} (h:xp W w B) (hE:Ext No w w'):xp W w' B:=⟨h.os.ga hE,h.ss.ga hE,fun x hx=>⟨(h.o x hx).1,(h.o x hx).2.ga hE⟩,fun x hx=>(h.s x hx).ga hE,h.lo,h.ls⟩
abbrev vg:qu:=⟨none,0,[],none,0,[]⟩
theorem xp.no (W w:World):xp W w vg:=⟨k8.nil _ _ _ _,k8.nil _ _ _ _,fun _ h=>(by cases h),fun _ h=>(by cases h),by decide,by decide⟩
theorem off_okS (s:Ds) (n:Nat):num (s.off n).1=0∨(s.off n).2.bad=false:=by
 unfold Ds.off;split
 ·exact .inl rfl
 exact .inr rfl
theorem off_badS {s:Ds} {n:Nat} (h:(s.off n).2.bad=false):s.bad=false:=by
 unfold Ds.off at h;split at h
 ·cases h
 rename_i h1
 cases hb:s.bad
 ·rfl
 exact absurd (.inl hb) h1
theorem each_good {α:Type} {f:Ds→α×Ds} {n:Nat} {s:Ds} (h:(Ds.each f n s).2.bad=false):s.bad=false:=by
 cases hb:s.bad
 ·rfl
 rw[C6 hb,hb] at h;cases h
theorem objNew_rd {W w w':World} {o:jq} {a:vb} (h:qw W w o a) {rb:Nat} {s:Ds} (hE:Ext (One rb) w w') (hr:Cv w rb s):qw W w' o a:=
 ⟨(ownRd ⟨h.ol,h.nl⟩ hE hr zd).own,(ownRd ⟨h.op,h.np⟩ hE hr zd).own,(ownRd ⟨h.or,h.nr⟩ hE hr zd).own,h.nl,h.np,h.nr⟩
theorem xp.xw9 {W w w':World} {B:qu} (h:xp W w B) {b:Nat} {L:List Value} (hE:Ext (One b) w w') (hb:gz w b 25 L):xp W w' B:=
 ⟨h.os.gj hE hb zd,h.ss.gj hE hb zd,fun x hx=>⟨(h.o x hx).1,(h.o x hx).2.gj hE hb zd zd zd⟩,fun x hx=>(h.s x hx).gj hE hb zd,h.lo,h.ls⟩
theorem xj7 (w:World) {p:Option Addr} {c:Nat} {l:Bytes} (hs:ux w p l) (hl:l.length<1000000000):
  gn prog 36 [.slice p l.length c] w fun v w'=>∃B:qu,v= .tuple #[B.v,.int .i64 (vi l).2]∧B.d=(vi l).1∧xp w w' B∧Ext No w w':=by
 have hs00:=hs
 refine gx func36 ?_
 have hX:=Ext.refl No w
 refine ko (gw rfl fun b2 w1 hn2 hb2 hE1=> ?_)
 have fr2:=aA hX.size hn2
 have hs:=hs.ga hE1
 have hX:=hX.gb hE1
 have hb2:gz w1 b2 25 (vg.c):=hb2
 refine km rfl (ki rfl ?_)
 have hXr:=hX
 have hs0:=hs
 refine gh call101 rfl (zx5 w1 hs hl) fun v2 w2 hr2=> ?_
 obtain⟨rb,rfl,hnr,hR0,hE2⟩:=hr2
 have hb2:=hb2.ga hE2
 have hX:=hX.gb hE2
 have hnr:=aA hXr.size hnr
 have hR:Cv w2 rb ⟨l,false⟩:=hR0
 refine gw rfl fun b4 w3 hn4 hb4 hE3=> ?_
 have ne2_4:=j2 hb2.lt hn4
 have fr4:=aA hX.size hn4
 have hb2:=hb2.ga hE3
 have hR:=hR.ga hE3
 have hX:=hX.gb hE3
 have hb4o:=hb4
 refine kl hb4 rfl rfl rfl fun w4 hb4 hE4 hs4=> ?_
 have hb2:=hb2.gj hE4 ne2_4
 have hR:=hR.gj hE4 hb4o zd zd
 have hX:=hX.gi hE4 fr4
 have hb4:gz w4 b4 194 ([.pointer (some ⟨rb,0,none⟩)]):=hb4
 refine qq (ko (gw rfl fun b5 w5 hn5 hb5 hE5=> ?_))
 have ne2_5:=j2 hb2.lt hn5
 have ne4_5:=j2 hb4.lt hn5
 have fr5:=aA hX.size hn5
 have hb2:=hb2.ga hE5
 have hb4:=hb4.ga hE5
 have hR:=hR.ga hE5
 have hX:=hX.gb hE5
 have hb5o:=hb5
 refine kl hb5 rfl rfl rfl fun w6 hb5 hE6 hs6=> ?_
 have hb2:=hb2.gj hE6 ne2_5
 have hb4:=hb4.gj hE6 ne4_5
 have hR:=hR.gj hE6 hb5o zd zd
 have hX:=hX.gi hE6 fr5
 have hb5:gz w6 b5 4 ([.bool true]):=hb5
 refine qq (ki rfl (gw rfl fun b6 w7 hn6 hb6 hE7=> ?_))
 have ne2_6:=j2 hb2.lt hn6
 have ne4_6:=j2 hb4.lt hn6
 have ne5_6:=j2 hb5.lt hn6
 have fr6:=aA hX.size hn6
 have hb2:=hb2.ga hE7
 have hb4:=hb4.ga hE7
 have hb5:=hb5.ga hE7
 have hR:=hR.ga hE7
 have hX:=hX.gb hE7
 have hb6o:=hb6
 refine kl hb6 rfl rfl rfl fun w8 hb6 hE8 hs8=> ?_
 have hb2:=hb2.gj hE8 ne2_6
 have hb4:=hb4.gj hE8 ne4_6
 have hb5:=hb5.gj hE8 ne5_6
 have hR:=hR.gj hE8 hb6o zd zd
 have hX:=hX.gi hE8 fr6
 have hb6:gz w8 b6 135 ([longV b4]):=hb6
 have h:C4 w w8 rb b4 b6 ⟨l,false⟩:=⟨hR,hb4,hb6,hnr,hl⟩
 obtain⟨s0,hs0e⟩:∃s0:Ds,s0=⟨l,false⟩:=⟨_,rfl⟩
 rw[←hs0e] at h
 refine qq (ko (gw rfl fun b7 w9 hn7 hb7 hE9=> ?_))
 have ne2_7:=j2 hb2.lt hn7
 have ne5_7:=j2 hb5.lt hn7
 have fr7:=aA hX.size hn7
 have hb2:=hb2.ga hE9
 have hb5:=hb5.ga hE9
 have h:=h.ga hE9
 have hX:=hX.gb hE9
 have hb7:gz w9 b7 25 (vg.c):=hb7
 refine qq (gl (jr rfl 7 [qP 0,qP 1,qP 4,(2,false),qP 3,(5,false),qP 6] [7] ((fun x=>x=rb∨x=b5)) zk fun w10 hE10 hs10=> ?_))
 have hd5:=hb5
 have hd:=h
 have hb2:=hb2.ga hE10
 have hb5:=hb5.ga hE10
 have hb7:=hb7.ga hE10
 have h:=h.ga hE10
 have hX:=hX.gb hE10
 have hC:Ext ((fun x=>x=rb∨x=b5)) _ w10:=hE10.no
 have hnm:=s0.ub 2
 refine j3 gc rfl rfl (fun w' hw'=>((hd.p4.ext (show Ext (fun x=>x=rb∨x=b5) _ w' from hw') fun e=>e.elim (hd.ne hd.p4 zd) (hd.p4.ne hd5 zd)).cell rfl)) ?_
 refine j3 gc rfl rfl (fun w' hw'=>((hd.p4.ext (show Ext (fun x=>x=rb∨x=b5) _ w' from hw') fun e=>e.elim (hd.ne hd.p4 zd) (hd.p4.ne hd5 zd)).cell rfl)) ?_
 refine gt gc 1 rfl (jo rfl (j1 call104 rfl (h.r.u16 h.len) fun v11 w11 hr11=>⟨(by obtain⟨rfl,hR1,hE11⟩:=hr11;exact hC.then (hE11.mono fun _ _ e=> .inl e)),?_⟩))
 obtain⟨rfl,hR1,hE11⟩:=hr11
 have hb2:=hb2.gj hE11 (h.ne hb2 zd)
 have hb5:=hb5.gj hE11 (h.ne hb5 zd)
 have hb7:=hb7.gj hE11 (h.ne hb7 zd)
 have hX:=rdNew hX hE11 h.nr
 have hC:=hC.then (hE11.mono fun _ _ e=> .inl e)
 have h:=h.rd hR1 hE11 (s0.qc 2).2.1
 refine gt gc 1 rfl ?_
 rw[jz _ zo]
 have hX0:=hX
 refine jo rfl (j1 call105 rfl (sevobj_calls w11 h hb5 (num (s0.off 2).1) zo (off_okS _ 2)) fun v12 w12 hr12=>⟨(by obtain⟨q,k,xs,rfl,hS,hE12⟩:=hr12;exact hC.then hE12),?_⟩)
 obtain⟨q,k,xs,rfl,hS,hE12⟩:=hr12
 have hb2:=hb2.ext hE12 fun e=>e.elim (h.ne hb2 zd) ne2_5
 have hb7:=hb7.ext hE12 fun e=>e.elim (h.ne hb7 zd) ne5_7.symm
 have hX:=hX.newer hE12 fun y e=>e.elim (fun e=>e▸h.nr) fun e=>e▸fr5
 obtain⟨o,hb5,hS5⟩:=hS.b5
 have hfew:=hS.few
 obtain⟨s1,hs1⟩:∃s1,s1=Ds.each zv9 (num (s0.off 2).1) (s0.off 2).2:=⟨_,rfl⟩
 have h:=hS.i
 rw[←hs1] at h hS5
 have hqo:=hS.own.older hX0.size
 have halo:∀x∈xs,Ca x.1∧qw w w12 x.1 x.2:=fun x hx=>⟨(hS.all x hx).1,(hS.all x hx).2.older hX0.size⟩
 refine gt gc 1 rfl (jg ?_)
 have hb7o:=hb7
 refine wb rfl (yi gc hb7 rfl rfl rfl fun w13 hb7 hE13 hs13=> ?_)
 have hb2:=hb2.gj hE13 ne2_7
 have hb5:=hb5.gj hE13 ne5_7
 have h:=h.gj hE13 hb7o zd
 have hqo:=hqo.gj hE13 hb7o zd
 have halo:=fun x hx=>And.intro (halo x hx).1 ((halo x hx).2.gj hE13 hb7o zd zd zd)
 have hX:=hX.gi hE13 fr7
 have hb7:gz w13 b7 25 ([.slice q xs.length k,.slice none 0 0]):=hb7
 refine j5 (jp (gl (jr rfl 7 [qP 0,qP 1,qP 4,(2,false),qP 3,(5,false),qP 6] [7] (One rb) zk fun w14 hE14 hs14=> ?_)))
 have hd:=h
 have hb2:=hb2.ga hE14
 have hb5:=hb5.ga hE14
 have hb7:=hb7.ga hE14
 have h:=h.ga hE14
 have hqo:=hqo.ga hE14
 have halo:=fun x hx=>And.intro (halo x hx).1 ((halo x hx).2.ga hE14)
 have hX:=hX.gb hE14
 have hC:Ext (One rb) _ w14:=hE14.no
 have hnm2:=s1.2.ub 1
 refine j3 gc rfl rfl (fun w' hw'=>((hd.p4.ext (show Ext (One rb) _ w' from hw') (hd.ne hd.p4 zd)).cell rfl)) ?_
 refine j3 gc rfl rfl (fun w' hw'=>((hd.p4.ext (show Ext (One rb) _ w' from hw') (hd.ne hd.p4 zd)).cell rfl)) ?_
 refine gt gc 1 rfl ?_
 have h0:=h
 refine jo rfl (j1 call109 rfl (h.r.u8 h.len) fun v15 w15 hr15=>⟨(by obtain⟨rfl,hR1,hE15⟩:=hr15;exact hC.then hE15),?_⟩)
 obtain⟨rfl,hR1,hE15⟩:=hr15
 have hb2:=hb2.gj hE15 (h.ne hb2 zd)
 have hb5:=hb5.gj hE15 (h.ne hb5 zd)
 have hb7:=hb7.gj hE15 (h.ne hb7 zd)
 have hX:=rdNew hX hE15 h.nr
 have hC:=hC.then hE15
 have hqo:=ownRd hqo hE15 h0.r zd
 have halo:=fun x hx=>And.intro (halo x hx).1 (objNew_rd (halo x hx).2 hE15 h0.r)
 have h:=h.rd hR1 hE15 (s1.2.qc 1).2.1
 refine gt gc 1 rfl ?_
 rw[jz _ zo]
 have hX0:=hX
 have h0:=h
 refine jo rfl (j1 call108 rfl (sevset_calls w15 h (num (s1.2.off 1).1) zo (off_okS _ 1)) fun v16 w16 hr16=>⟨(by obtain⟨q2,k2,ss,rfl,hT,hE16⟩:=hr16;exact hC.then hE16),?_⟩)
 obtain⟨q2,k2,ss,rfl,hT,hE16⟩:=hr16
 have hb2:=hb2.gj hE16 (h.ne hb2 zd)
 have hb5:=hb5.gj hE16 (h.ne hb5 zd)
 have hb7:=hb7.gj hE16 (h.ne hb7 zd)
 have hX:=rdNew hX hE16 h.nr
 have hqo:=ownRd hqo hE16 h0.r zd
 have halo:=fun x hx=>And.intro (halo x hx).1 (objNew_rd (halo x hx).2 hE16 h0.r)
 obtain⟨s2,hs2⟩:∃s2,s2=Ds.each Ds.set (num (s1.2.off 1).1) (s1.2.off 1).2:=⟨_,rfl⟩
 have h:=hT.i
 have hTe:=hT.eq
 have hfew2:=hT.few
 rw[←hs2] at h hTe
 have hN:xp w w16 (qu.mk q k xs q2 k2 ss):=⟨hqo,hT.own.older hX0.size,halo,fun x hx=>(hT.all x hx).older hX0.size,by show xs.length<_;omega,by show ss.length<_;omega⟩
 have hraw:rawB l=((s1.1,s2.1),s2.2):=by rw[hs2,hs1,hs0e];rfl
 refine gt gc 1 rfl (jg ?_)
 have hb7o:=hb7
 refine wb rfl (yi gc hb7 rfl rfl rfl fun w17 hb7 hE17 hs17=> ?_)
 have hb2:=hb2.gj hE17 ne2_7
 have hb5:=hb5.gj hE17 ne5_7
 have h:=h.gj hE17 hb7o zd
 have hN:=hN.xw9 hE17 hb7o
 have hX:=hX.gi hE17 fr7
 have hb7:gz w17 b7 25 ((qu.mk q k xs q2 k2 ss).c):=hb7
 refine j5 (jp (gl (ko (gu rfl (h.p4.cell rfl) (gh call111 rfl (h.r.err) fun v18 w18 hr18=> ?_)))))
 obtain⟨rfl,rfl⟩:=hr18
 refine km rfl (jl rfl (fun hc=> ?_) (fun hc=> ?_))
 ·have hbad:s2.2.bad=true:=by
   have:=mt ds_err.2 hc
   simpa using this
  have hrd:vi l=(zz1,7):=by rw[vi,hraw];exact aR hbad
  refine ko (kg rfl trivial (l':=vg.c) rfl ?_)
  refine wl (j4 (l':=vg.c) gc hb2 rfl rfl rfl rfl OneC.h fun w19 hb2 hE19 hs19=> ?_)
  have hX:=hX.gi hE19 fr2
  refine vr rfl (j7 (qe [_,_] ⟨⟨b2,0,rfl,qg gc rfl rfl hb2.kj rfl⟩,rfl,trivial⟩ ?_))
  exact⟨vg,by rw[hrd];rfl,by rw[hrd];rfl,xp.no _ _,hX⟩
 have hgood:s2.2.bad=false:=ds_err.1 (aS.1 hc)
 have hg1:s1.2.bad=false:=off_badS (each_good (f:=Ds.set) (by rw[←hs2];exact hgood))
 obtain⟨hxe,hoe⟩:=hS5 hg1
 have hse:=hTe hgood
 have hbd:(qu.mk q k xs q2 k2 ss).d=batOf (rawB l).1:=by rw[hraw];show Bu.mk (xs.map Prod.fst) (ss.map Prod.fst)=_;rw[hxe,hse];rfl
 have hrd:vi l=if(∀y∈s1.1,(vj y).2=0)∧z7 (qu.mk q k xs q2 k2 ss).d∧uf (qu.mk q k xs q2 k2 ss).d=l then((qu.mk q k xs q2 k2 ss).d,0) else(zz1,2):=by rw[vi,hbd,hraw];exact aP (by rw[hgood];decide)
 refine x3 (ko (je hb7 rfl rfl (gh call30 rfl (Bl w18 (b:=(qu.mk q k xs q2 k2 ss)) hN.at) fun v20 w20 hr20=> ?_)))
 obtain⟨q3,k3,rfl,hq3,hE20⟩:=hr20
 have hb2:=hb2.ga hE20
 have hb5:=hb5.ga hE20
 have hb7:=hb7.ga hE20
 have hN:=hN.ga hE20
 have hX:=hX.gb hE20
 refine km rfl (gl ?_)
 refine ji (α:=Bool) [2,7] rfl (fun z=>[(48,.bool z)]) (fun z u=>(z=decide (¬((∀y∈s1.1,(vj y).2=0)∧z7 (qu.mk q k xs q2 k2 ss).d∧uf (qu.mk q k xs q2 k2 ss).d=l))∧xp w u (qu.mk q k xs q2 k2 ss))∧gz u b2 25 (vg.c)∧gz u b7 25 ((qu.mk q k xs q2 k2 ss).c)∧Ext No w u) ?_ ?_
 ·refine gy ?_
  refine gu rfl (hb5.cell rfl) (j0 gc rfl (uq 38 rfl (fun hg=> ?_) (fun hg=> ?_)))
  ·have hno:¬∀y∈s1.1,(vj y).2=0:=fun k=>by
    rw[hoe] at hg
    simp at hg
    obtain⟨y,hy,hne⟩:=hg
    exact hne (k y hy)
   refine gq gc 10 rfl (gk ?_)
   exact gr (true) rfl ⟨⟨by symm;rw[aU];exact fun k=>hno k.1,hN⟩,hb2,hb7,hX⟩
  have hyes:∀y∈s1.1,(vj y).2=0:=by
   rw[hoe] at hg
   simpa using hg
  refine gq gc 4 rfl (ja 42 rfl (fun hg=> ?_) (fun hg=> ?_))
  ·have hno:¬z7 (qu.mk q k xs q2 k2 ss).d:=fun k=>hg (aR k)
   refine gq gc 6 rfl (gk ?_)
   exact gr (true) rfl ⟨⟨by symm;rw[aU];exact fun k=>hno k.2.1,hN⟩,hb2,hb7,hX⟩
  have hmay:z7 (qu.mk q k xs q2 k2 ss).d:=(yz7 zd).1 (aS.1 hg)
  have hce:yx (qu.mk q k xs q2 k2 ss).d=uf (qu.mk q k xs q2 k2 ss).d:=aR hmay
  rw[hce] at hq3
  refine gq gc 1 rfl (wl (D4 gc rfl (by rw[hce]) hq3.own.sl (gq gc 1 rfl (wl (D4 gc rfl rfl (hs00.ga hX) (gq gc 2 rfl (gk ?_)))))))
  exact gr (_) rfl ⟨⟨by rw[aH];exact⟨fun k k2=>k (by rw[k2.2.2]),fun k k2=>k ⟨hyes,hmay,xt k2⟩⟩,hN⟩,hb2,hb7,hX⟩
 rintro z w21 ⟨⟨rfl,hN⟩,hb2,hb7,hX⟩
 refine jl rfl (fun hc=> ?_) (fun hc=> ?_)
 ·have hrd2:vi l=(zz1,2):=by rw[hrd];exact aP hc
  refine ko (kg rfl trivial (l':=vg.c) rfl ?_)
  refine wl (j4 (l':=vg.c) gc hb2 rfl rfl rfl rfl OneC.h fun w22 hb2 hE22 hs22=> ?_)
  have hX:=hX.gi hE22 fr2
  refine vr rfl (j7 (qe [_,_] ⟨⟨b2,0,rfl,qg gc rfl rfl hb2.kj rfl⟩,rfl,trivial⟩ ?_))
  exact⟨vg,by rw[hrd2];rfl,by rw[hrd2];rfl,xp.no _ _,hX⟩
 have hrd2:vi l=((qu.mk q k xs q2 k2 ss).d,0):=by rw[hrd];exact aR (aS.1 hc)
 refine x3 (ko (je hb7 rfl rfl ?_))
 have hb2o:=hb2
 refine wl (j4 (l':=(qu.mk q k xs q2 k2 ss).c) gc hb2 rfl rfl rfl rfl OneC.h fun w23 hb2 hE23 hs23=> ?_)
 have hN:=hN.xw9 hE23 hb2o
 have hX:=hX.gi hE23 fr2
 refine vr rfl (qe [_,_] ⟨⟨b2,0,rfl,qg gc rfl rfl hb2.kj rfl⟩,rfl,trivial⟩ ?_)
 exact⟨(qu.mk q k xs q2 k2 ss),by rw[hrd2];rfl,by rw[hrd2],hN,hX⟩
theorem cloneL_nil (w:World) {c:Nat}:
  gn prog 131 [.slice none 0 c] w fun v w'=>∃q k,v= .slice q 0 k∧Own w' q 0 k 148 33 []∧(∀y,jb q y→w.heap.size≤y)∧Ext No w w':=by
 refine gx func131 ?_
 have a:=Ext.refl No w
 refine jd rfl (gl (jd rfl (Cl rfl (jd rfl (j9 (j7 (gv rfl rfl ?_)))))))
 exact⟨none,0,rfl,Own.nil _ _ _,fun y b=>(by cases b),a⟩
theorem cloneL_some (w:World) {a:Addr} {c:Nat} {l:List jf} (h:Sl w (some a) l.length 33 (l.flatMap jf.cells)) (hl:l.length<1000000000):
  gn prog 131 [.slice (some a) l.length c] w fun v w'=>∃q k,v= .slice q l.length k∧Own w' q l.length k 148 33 (l.flatMap jf.cells)∧(∀y,jb q y→w.heap.size≤y)∧Ext No w w':=by
 refine gx func131 ?_
 have b:=Ext.refl No w
 refine jd rfl (gl (jd rfl (up rfl (x3 (ko ?_)))))
 refine wl (qi gc rfl 33 rfl xz6 (jf.len rfl) zd zd trivial (l':=[]) rfl fun A B r f d s=> ?_)
 have b:=b.gb d
 refine j0 gc rfl ?_
 refine wl (va gc rfl 33 48 rfl rfl rfl zd (Own.blk (n:=0) (c:=0) f 33 rfl (aD _) zd) (Src.slice (h.ga b) OneC.h) zm zn fun p t u g i j=> ?_)
 have b:=b.trans i fun y C m=>by have:=own1 m;omega
 have o:∀x,jb p x→w.heap.size≤x:=fun x z=>(j x z).elim (fun m=>by have:=own1 m;omega) fun h=>by have:=d.size;omega
 have e:Own u p (0+l.length) t 148 33 (l.flatMap jf.cells):=g
 rw[bD] at e
 dsimp only
 rw[bD]
 refine vr rfl (gv rfl rfl ?_)
 exact⟨_,_,rfl,e,o,b⟩
theorem cloneL_calls (w:World) {p:Option Addr} {c:Nat} {l:List jf} (h:Sl w p l.length 33 (l.flatMap jf.cells)) (hl:l.length<1000000000):
  gn prog 131 [.slice p l.length c] w fun v w'=>∃q k,v= .slice q l.length k∧Own w' q l.length k 148 33 (l.flatMap jf.cells)∧(∀y,jb q y→w.heap.size≤y)∧Ext No w w':=by
 cases p with
 |none=>
  have d:l=[]:=by
   rcases h.2 with e|⟨b,f,g,_⟩
   ·exact aZ e
   cases g
  subst d
  exact cloneL_nil w
 |some a=>exact cloneL_some w h hl
theorem cloneI_nil (w:World) {c:Nat}:
  gn prog 132 [.slice none 0 c] w fun v w'=>∃q k,v= .slice q 0 k∧Own w' q 0 k 30 32 []∧(∀y,jb q y→w.heap.size≤y)∧Ext No w w':=by
 refine gx func132 ?_
 have a:=Ext.refl No w
 refine jd rfl (gl (jd rfl (Cl rfl (jd rfl (j9 (j7 (gv rfl rfl ?_)))))))
 exact⟨none,0,rfl,Own.nil _ _ _,fun y b=>(by cases b),a⟩
theorem cloneI_some (w:World) {a:Addr} {c:Nat} {l:List IdB} (h:Sl w (some a) l.length 32 (l.flatMap ge)) (hl:l.length<1000000000):
  gn prog 132 [.slice (some a) l.length c] w fun v w'=>∃q k,v= .slice q l.length k∧Own w' q l.length k 30 32 (l.flatMap ge)∧(∀y,jb q y→w.heap.size≤y)∧Ext No w w':=by
 refine gx func132 ?_
 have b:=Ext.refl No w
 refine jd rfl (gl (jd rfl (up rfl (x3 (ko ?_)))))
 refine wl (qi gc rfl 32 rfl A6.symm zj zd zd trivial (l':=[]) rfl fun A B r f d s=> ?_)
 have b:=b.gb d
 refine j0 gc rfl ?_
 refine wl (va gc rfl 32 32 rfl rfl rfl zd (Own.blk (n:=0) (c:=0) f 32 rfl (aD _) zd) (Src.slice (h.ga b) OneC.h) zm zn fun p t u g i j=> ?_)
 have b:=b.trans i fun y C m=>by have:=own1 m;omega
 have o:∀x,jb p x→w.heap.size≤x:=fun x z=>(j x z).elim (fun m=>by have:=own1 m;omega) fun h=>by have:=d.size;omega
 have e:Own u p (0+l.length) t 30 32 (l.flatMap ge):=g
 rw[bD] at e
 dsimp only
 rw[bD]
 refine vr rfl (gv rfl rfl ?_)
 exact⟨_,_,rfl,e,o,b⟩
theorem cloneI_calls (w:World) {p:Option Addr} {c:Nat} {l:List IdB} (h:Sl w p l.length 32 (l.flatMap ge)) (hl:l.length<1000000000):
  gn prog 132 [.slice p l.length c] w fun v w'=>∃q k,v= .slice q l.length k∧Own w' q l.length k 30 32 (l.flatMap ge)∧(∀y,jb q y→w.heap.size≤y)∧Ext No w w':=by
 cases p with
 |none=>
  have d:l=[]:=by
   rcases h.2 with e|⟨b,f,g,_⟩
   ·exact aZ e
   cases g
  subst d
  exact cloneI_nil w
 |some a=>exact cloneI_some w h hl
theorem cloneC_nil (w:World) {c:Nat}:
  gn prog 133 [.slice none 0 c] w fun v w'=>∃q k,v= .slice q 0 k∧Own w' q 0 k 150 3 []∧(∀y,jb q y→w.heap.size≤y)∧Ext No w w':=by
 refine gx func133 ?_
 have a:=Ext.refl No w
 refine jd rfl (gl (jd rfl (Cl rfl (jd rfl (j9 (j7 (gv rfl rfl ?_)))))))
 exact⟨none,0,rfl,Own.nil _ _ _,fun y b=>(by cases b),a⟩
theorem cloneC_some (w:World) {a:Addr} {c:Nat} {l:List u9} (h:Sl w (some a) l.length 3 (l.flatMap u9.cells)) (hl:l.length<1000000000):
  gn prog 133 [.slice (some a) l.length c] w fun v w'=>∃q k,v= .slice q l.length k∧Own w' q l.length k 150 3 (l.flatMap u9.cells)∧(∀y,jb q y→w.heap.size≤y)∧Ext No w w':=by
 refine gx func133 ?_
 have b:=Ext.refl No w
 refine jd rfl (gl (jd rfl (up rfl (x3 (ko ?_)))))
 refine wl (qi gc rfl 3 rfl chgZ_c rfl zd zd trivial (l':=[]) rfl fun A B r f d s=> ?_)
 have b:=b.gb d
 refine j0 gc rfl ?_
 refine wl (va gc rfl 3 40 rfl rfl rfl zd (Own.blk (n:=0) (c:=0) f 3 rfl (aD _) zd) (Src.slice (h.ga b) OneC.h) zm zn fun p t u g i j=> ?_)
 have b:=b.trans i fun y C m=>by have:=own1 m;omega
 have o:∀x,jb p x→w.heap.size≤x:=fun x z=>(j x z).elim (fun m=>by have:=own1 m;omega) fun h=>by have:=d.size;omega
 have e:Own u p (0+l.length) t 150 3 (l.flatMap u9.cells):=g
 rw[bD] at e
 dsimp only
 rw[bD]
 refine vr rfl (gv rfl rfl ?_)
 exact⟨_,_,rfl,e,o,b⟩
theorem cloneC_calls (w:World) {p:Option Addr} {c:Nat} {l:List u9} (h:Sl w p l.length 3 (l.flatMap u9.cells)) (hl:l.length<1000000000):
  gn prog 133 [.slice p l.length c] w fun v w'=>∃q k,v= .slice q l.length k∧Own w' q l.length k 150 3 (l.flatMap u9.cells)∧(∀y,jb q y→w.heap.size≤y)∧Ext No w w':=by
 cases p with
 |none=>
  have d:l=[]:=by
   rcases h.2 with e|⟨b,f,g,_⟩
   ·exact aZ e
   cases g
  subst d
  exact cloneC_nil w
 |some a=>exact cloneC_some w h hl
theorem sown_calls (w:World) {x:jq} {a:vb} (hx:u4 x) (hxl:B7 w x a) (hs:A5 x):
  gn prog 52 [.agg (jn x a).toArray] w fun v w'=>∃a',v= .agg (jn x a').toArray∧qw w w' x a'∧Ext No w w':=by
 refine gx func52 ?_
 have hX:=Ext.refl No w
 refine ko (gw rfl fun b1 w1 hn1 hb1 hE1=> ?_)
 have fr1:=aA hX.size hn1
 have hX:=hX.gb hE1
 have hb1:gz w1 b1 37 (jn x a):=hb1
 refine gw rfl fun b2 w2 hn2 hb2 hE2=> ?_
 have ne1_2:=j2 hb1.lt hn2
 have fr2:=aA hX.size hn2
 have hb1:=hb1.ga hE2
 have hX:=hX.gb hE2
 refine qq (gl (jr rfl 11 [qP 0,qP 1,qP 3,qP 4,qP 6,qP 7,qP 8,(2,false),qP 10,(5,false),(9,false)] [11,12,13,14,15,16] (No) zk fun w3 hE3 hs3=> ?_))
 have hd1:=hb1
 have hb1:=hb1.ga hE3
 have hb2:=hb2.ga hE3
 have hX:=hX.gb hE3
 have hC:Ext (No) _ w3:=hE3.no
 refine gt gc 1 rfl (j3 gc rfl rfl (fun w' hw'=>((hd1.ga hw').kj.obj hx).leaves) ?_)
 refine gt gc 1 rfl (j3 gc rfl rfl (fun w' hw'=>((hd1.ga hw').kj.obj hx).parents) ?_)
 refine gt gc 2 rfl (j3 gc rfl rfl (fun w' hw'=>((hd1.ga hw').kj.obj hx).rows) ?_)
 have hXs:=hX.size
 refine jo rfl (j1 call131 rfl (cloneL_calls w3 (hxl.leaves.ga hX) hs.leaves) fun v4 w4 hr4=>⟨(by obtain⟨qL,kL,rfl,hL,nL0,hE4⟩:=hr4;exact hC.gb hE4),?_⟩)
 obtain⟨qL,kL,rfl,hL,nL0,hE4⟩:=hr4
 have hb1:=hb1.ga hE4
 have hb2:=hb2.ga hE4
 have hX:=hX.gb hE4
 have hC:=hC.gb hE4
 have nL:∀y,jb qL y→w.heap.size≤y:=fun y hy=>aA hXs (nL0 y hy)
 refine gt gc 1 rfl ?_
 have hXs:=hX.size
 refine jo rfl (j1 call132 rfl (cloneI_calls w4 (hxl.parents.ga hX) hs.parents) fun v5 w5 hr5=>⟨(by obtain⟨qP,kP,rfl,hP,nP0,hE5⟩:=hr5;exact hC.gb hE5),?_⟩)
 obtain⟨qP,kP,rfl,hP,nP0,hE5⟩:=hr5
 have hb1:=hb1.ga hE5
 have hb2:=hb2.ga hE5
 have hL:=hL.ext hE5 fun _ _=>id
 have hX:=hX.gb hE5
 have hC:=hC.gb hE5
 have nP:∀y,jb qP y→w.heap.size≤y:=fun y hy=>aA hXs (nP0 y hy)
 have hXs:=hX.size
 refine jo rfl (j1 call133 rfl (cloneC_calls w5 (hxl.rows.ga hX) hs.rows) fun v6 w6 hr6=>⟨(by obtain⟨qR,kR,rfl,hR,nR0,hE6⟩:=hr6;exact hC.gb hE6),?_⟩)
 obtain⟨qR,kR,rfl,hR,nR0,hE6⟩:=hr6
 have hb1:=hb1.ga hE6
 have hb2:=hb2.ga hE6
 have hL:=hL.ext hE6 fun _ _=>id
 have hP:=hP.ext hE6 fun _ _=>id
 have hX:=hX.gb hE6
 have nR:∀y,jb qR y→w.heap.size≤y:=fun y hy=>aA hXs (nR0 y hy)
 refine jg ?_
 have hb1o:=hb1
 refine wb rfl (yi gc hb1 rfl rfl rfl fun w7 hb1 hE7 hs7=> ?_)
 have hb2:=hb2.gj hE7 ne1_2.symm
 have hL:=hL.ju hE7 hb1o zd
 have hP:=hP.ju hE7 hb1o zd
 have hR:=hR.ju hE7 hb1o zd
 have hX:=hX.gi hE7 fr1
 have hb1:gz w7 b1 37 (jn x ⟨qL,kL,a.pp,a.pc,a.rp,a.rc⟩):=hb1
 refine wb rfl (zx9 gc rfl rfl rfl ?_)
 have hb1o:=hb1
 refine wb rfl (qz gc hb1 rfl rfl (by rw[gp hx];decide) fun w8 hb1 hE8 hs8=> ?_)
 have hb2:=hb2.gj hE8 ne1_2.symm
 have hL:=hL.ju hE8 hb1o zd
 have hP:=hP.ju hE8 hb1o zd
 have hR:=hR.ju hE8 hb1o zd
 have hX:=hX.gi hE8 fr1
 have hb1:gz w8 b1 37 (jn x ⟨qL,kL,qP,kP,a.rp,a.rc⟩):=(by have h:gz _ b1 _ ((jn x ⟨qL,kL,a.pp,a.pc,a.rp,a.rc⟩).set (68+0) (.slice qP x.parents.length kP)):=hb1;rw[objC_parents hx] at h;exact h)
 refine wb rfl (zx9 gc rfl rfl rfl (wb rfl (zx9 gc rfl rfl rfl ?_)))
 have hb1o:=hb1
 refine wb rfl (qz gc hb1 rfl rfl (by rw[gp hx];decide) fun w9 hb1 hE9 hs9=> ?_)
 have hb2:=hb2.gj hE9 ne1_2.symm
 have hL:=hL.ju hE9 hb1o zd
 have hP:=hP.ju hE9 hb1o zd
 have hR:=hR.ju hE9 hb1o zd
 have hX:=hX.gi hE9 fr1
 have hb1:gz w9 b1 37 (jn x ⟨qL,kL,qP,kP,qR,kR⟩):=(by have h:gz _ b1 _ ((jn x ⟨qL,kL,qP,kP,a.rp,a.rc⟩).set (68+1) (.slice qR x.rows.length kR)):=hb1;rw[objC_rows hx] at h;exact h)
 refine j5 (jp (ko (je hb1 rfl (gp hx) ?_)))
 have hb2o:=hb2
 refine wl (j4 (l':=jn x ⟨qL,kL,qP,kP,qR,kR⟩) gc hb2 rfl rfl (gp hx) (gp hx) OneC.h fun w10 hb2 hE10 hs10=> ?_)
 have hL:=hL.ju hE10 hb2o zd
 have hP:=hP.ju hE10 hb2o zd
 have hR:=hR.ju hE10 hb2o zd
 have hX:=hX.gi hE10 fr2
 refine qq (j9 (qe [_] ⟨⟨b2,0,rfl,qg gc rfl rfl hb2.kj (gp hx)⟩,trivial⟩ ?_))
 exact⟨⟨qL,kL,qP,kP,qR,kR⟩,rfl,⟨hL,hP,hR,nL,nP,nR⟩,hX⟩
end Go.Proofs.YtpdiphfjmepijaaGreatDoor
namespace Go.Vc
theorem Cz (w:World) (o:Obj) {r:Nat} (h:r<w.heap.size):(w.alloc o).heap[r]? =w.heap[r]? :=by
 show(w.heap.push o)[r]? =w.heap[r]?
 rw[Array.getElem?_push,aP zo]
theorem nodup_len {α:Type}:∀{l m:List α},l.Nodup→(∀x∈l,x∈m)→l.length≤m.length
 | [],_,_,_=>aJ _
 |x::l,m,hn,hs=>by
  obtain⟨a,b,rfl⟩:=List.append_of_mem (hs x zp)
  have:=nodup_len (l:=l) (m:=a++b) (List.nodup_cons.1 hn).2 fun y hy=>by
   have:=hs y (by simp[hy])
   rcases aY.1 this with h|h
   ·exact List.mem_append_left _ h
   rcases List.mem_cons.1 h with rfl|h
   ·exact absurd hy (List.nodup_cons.1 hn).1
   exact List.mem_append_right _ h
  simp only[aB,aW] at this⊢
  omega
def yv9 {β:Type} (w:World) (it m:Nat) (enc:β→Value) (g:List UInt8→Option β) (N:Nat) (done:List (List UInt8)):Prop:=
  ∃es clock since seen last,w.heap[it]? =some (.mapIter (some m) since seen last)∧w.heap[m]? =some (.map es clock)∧
    (∀e∈es.toList,∃x b,x.length=32∧e.key=idV x∧e.val=enc b∧g x=some b)∧(∀x b,g x=some b→∃e∈es.toList,e.key=idV x)∧(es.toList.map (·.key)).Nodup∧
    (∀e∈es.toList,e.born<since)∧(es.toList.map (·.born)).Nodup∧since≤last∧since≤clock∧done.Nodup∧es.size=N∧(∀x∈done,∃b,g x=some b)∧(∀e∈es.toList,∀x,e.key=idV x→(seen.contains e.born=true↔x∈done))
theorem yv9.lt {β:Type} {w:World} {it m N:Nat} {enc:β→Value} {g:List UInt8→Option β} {done:List (List UInt8)} (h:yv9 w it m enc g N done):it<w.heap.size∧m<w.heap.size:=by
 obtain⟨e,c,s,f,i,b,d,_⟩:=h
 constructor
 ·rcases bF it w.heap.size with a|a
  ·exact a
  rw[cI a] at b;cases b
 rcases bF m w.heap.size with a|a
 ·exact a
 rw[cI a] at d;cases d
theorem yv9.ext {β:Type} {S:Nat→Prop} {w w':World} {it m N:Nat} {enc:β→Value} {g:List UInt8→Option β} {done:List (List UInt8)} (h:yv9 w it m enc g N done) (hE:Ext S w w') (h1:¬S it) (h2:¬S m):yv9 w' it m enc g N done:=by
 obtain⟨d,e⟩:=h.lt
 obtain⟨f,c,s,i,j,a,b,r⟩:=h
 exact⟨f,c,s,i,j,(hE.same it d h1).trans a,(hE.same m e h2).trans b,r⟩
theorem yv9.neB {β:Type} {w:World} {it m N:Nat} {enc:β→Value} {g:List UInt8→Option β} {done:List (List UInt8)} (h:yv9 w it m enc g N done) {b T:Nat} {L:List Value} (hb:gz w b T L):it≠b∧m≠b:=by
 obtain⟨f,c,s,i,j,a,d,_⟩:=h
 exact⟨(fun e=>by rw[e] at a;rw[gz,a] at hb;cases hb),(fun e=>by rw[e] at d;rw[gz,d] at hb;cases hb)⟩
theorem ext_putAt {w:World} {r:Nat} {o:Obj} (h:w.heap[r]? =some o) (o':Obj):
  Ext (One r) w {w with heap:=w.heap.setIfInBounds r o'}∧({w with heap:=w.heap.setIfInBounds r o'}:World).heap.size=w.heap.size∧({w with heap:=w.heap.setIfInBounds r o'}:World).heap[r]? =some o':=by
 have a:r<w.heap.size:=by
  rcases bF r w.heap.size with c|c
  ·exact c
  rw[cI c] at h;cases h
 refine⟨⟨rfl,rfl,rfl,by simp,fun b f d=> ?_,aD _⟩,by simp,by simp[a]⟩
 exact dC (fun e=>d e.symm)
theorem run_next {P:Program} {w:World} {it m since last clock:Nat} {seen:Array Nat} {es:Array MapEntry} (hi:w.heap[it]? =some (.mapIter (some m) since seen last)) (hm:w.heap[m]? =some (.map es clock)) (hold:∀x∈es.toList,x.born<since) (hsc:since≤last) (ty:TypeId):
  ((leftOf es seen).size=0∧(Instr.next (.pointer (some ⟨it,0,none⟩)) false ty).run P w= .ok (.tuple #[.bool false]) w)∨
  ∃e∈(leftOf es seen).toList,∃w1:World,(w1=w∨w1=w.drew)∧(Instr.next (.pointer (some ⟨it,0,none⟩)) false ty).run P w= .ok (.tuple #[.bool true,e.key,e.val]) {w1 with heap:=w1.heap.setIfInBounds it (.mapIter (some m) since (seen.push e.born) clock)}:=by
 simp only[Instr.next,getObj,aK,Sem.run,hi,hm,Result.andThen,next_test_false seen es since last hold hsc,bI,cX]
 unfold leftOf
 have hmem:∀x∈(Array.filter (fun e=> !seen.contains e.born) es).toList,x.born<since:=fun x hx=>hold x (by simp at hx⊢;exact hx.1)
 generalize Array.filter (fun e=> !seen.contains e.born) es=L at hmem⊢
 have e1:L.filter (fun x=>decide (x.born<since))=L:=Array.filter_eq_self.2 (fun x hx=>by simpa using hmem x (by simpa using hx))
 have e2:L.filter (fun x=>decide (x.born≥since))= #[]:=by
  rw[Array.filter_eq_empty_iff]
  intro x hx
  have:=hmem x (by simpa using hx)
  simp
  omega
 simp only[e1,e2,Array.append_empty]
 by_cases h0:L.size=0
 ·left
  have:L= #[]:=Array.eq_empty_of_size_eq_zero h0
  subst this
  refine⟨rfl,?_⟩
  simp[choose,Sem.run,Question.forced]
 right
 have hne:L.isEmpty=false:=by simp[Array.isEmpty,h0]
 simp only[hne,bI,cX,Array.empty_append,Array.size_map]
 have hch:∃(j:Nat) (w1:World),j<L.size∧(w1=w∨w1=w.drew)∧(choose (Question.mapNext L.size)).run P w= .ok j w1:=by
  by_cases hf:L.size≤1
  ·exact⟨0,w,by omega,.inl rfl,by simp[choose,Sem.run,Question.forced,hf]⟩
  exact⟨_,w.drew,Nat.mod_lt _ zo,.inr rfl,by
   simp only[choose,Sem.run,Question.forced,aU,hf,cX,Question.cut]
   rfl⟩
 obtain⟨j,w1,hj,hal,hrun⟩:=hch
 refine⟨L[j],by simp,w1,hal,?_⟩
 have hi1:w1.heap[it]? =some (.mapIter (some m) since seen last):=by rcases hal with rfl|rfl<;>exact hi
 have hset:∀(o':Obj),(setObj it o').run P w1= .ok () {w1 with heap:=w1.heap.setIfInBounds it o'}:=fun o'=>by
  simp[setObj,Sem.run,hi1]
 simp only[hrun,Array.getElem?_map,dK hj,Option.map_some,aK,hset,Result.andThen]
 rfl
def Cur (w:World) (it m:Nat) (kx vx:Value):Prop:=
  ∃es clock since seen e,w.heap[it]? =some (.mapIter (some m) since seen clock)∧w.heap[m]? =some (.map es clock)∧seen.back? =some e.born∧es.toList.find? (fun x=>x.born==e.born)=some e∧e.key=kx∧e.val=vx
theorem run_entry {P:Program} {w:World} {it m:Nat} {kx vx:Value} (h:Cur w it m kx vx):(Instr.entry (.pointer (some ⟨it,0,none⟩))).run P w= .ok (.tuple #[kx,vx]) w:=by
 obtain⟨a,c,s,j,e,b,d,f,g,rfl,rfl⟩:=h
 have i:a.find? (fun x=>x.born==e.born)=some e:=by rw[←Array.find?_toList];exact g
 simp only[Instr.entry,getObj,aK,Sem.run,b,d,Result.andThen,f,bne_self_eq_false,bI,cX,i]
 rfl
section
variable {P:Program} {I:u0} {f:Fs} {ops:Array Oper} {o:Oper} {env:Env} {w:World} {K:Env→World→Prop}
def rgE (I:u0) (n:Nat) (ops:Array Oper) (env:Env) (o:Oper):Option (Nat×Nat):=
  match pre n ops env o with
  |false=>none
  |true=>match o.dst with
    |some d=>match o.op with
      | .range t x=>match yn I t with
        |some y=>match y.desc with
          | .map _ _=>match xh env x with
            |some (.map (some r))=>some (r,d)
            |_=>none
          |_=>none
        |none=>none
      |_=>none
    |none=>none
theorem st_rg {β:Type} (hI:I.Ok P) {m d:Nat} (h:rgE I f.n ops env o=some (m,d)) {enc:β→Value} {g:List UInt8→Option β} (hm:MapB w m enc g)
  (k:∀(it N:Nat) w',w.heap.size≤it→yv9 w' it m enc g N []→Ext No w w'→K ((d,.pointer (some ⟨it,0,none⟩))::env) w'):St P f ops o env w K:=by
 unfold rgE at h
 split at h
 ·cases h
 rename_i s
 obtain⟨u,z⟩:=pre_eq s
 split at h
 ·rename_i O A
  split at h
  ·rename_i t x B
   split at h
   ·rename_i y C
    split at h
    ·rename_i Q e D
     split at h
     ·rename_i i j
      simp only[bG,cP] at h
      obtain⟨rfl,rfl⟩:=h
      have p:=(hI.get C).under w
      rw[D] at p
      have l:=hm.lt
      obtain⟨q,c,r,E,F,G,H,J⟩:=hm
      have a:(Instr.range t (.map (some i))).run P w= .ok (.pointer (some ⟨w.heap.size,0,none⟩)) (w.alloc (.mapIter (some i) c #[] c)):=by
       unfold Instr.range
       rw[jc p]
       simp only[aK,MapKept.run_getObj_map r,aF]
       rfl
      refine yg u z (v:= .pointer (some ⟨w.heap.size,0,none⟩)) (w':=w.alloc (.mapIter (some i) c #[] c)) (fun R L=> ?_) ?_
      ·simp only[execOp,B,L _ _ j,aK,a,aF,aT]
      rw[A]
      refine k _ q.size _ (aD _) ⟨q,c,c, #[],c,heap_alloc_new w _,?_,E,F,G,H,J,aD _,aD _,List.nodup_nil,rfl,(fun x j=>by cases j),fun e _ x _=>by simp⟩ ⟨rfl,rfl,rfl,by simp,fun b M _=> ?_,aD _⟩
      ·rw[Cz w _ l];exact r
      exact Cz w _ M
     cases h
    cases h
   cases h
  cases h
 cases h
def enE (n:Nat) (ops:Array Oper) (env:Env) (o:Oper):Option (Nat×Nat):=
  match pre n ops env o with
  |false=>none
  |true=>match o.dst with
    |some d=>match o.op with
      | .entry x=>match xh env x with
        |some (.pointer (some ⟨it,0,none⟩))=>some (it,d)
        |_=>none
      |_=>none
    |none=>none
theorem st_en {it m d:Nat} {kx vx:Value} (h:enE f.n ops env o=some (it,d)) (hc:Cur w it m kx vx) (k:K ((d,.tuple #[kx,vx])::env) w):St P f ops o env w K:=by
 unfold enE at h
 split at h
 ·cases h
 rename_i a
 obtain⟨b,c⟩:=pre_eq a
 split at h
 ·rename_i p e
  split at h
  ·rename_i q g
   split at h
   ·rename_i i j
    simp only[bG,cP] at h
    obtain⟨rfl,rfl⟩:=h
    refine yg b c (v:= .tuple #[kx,vx]) (w':=w) (fun r l=> ?_) (by rw[e];exact k)
    simp only[execOp,g,l _ _ j,aK,run_entry hc,aF,aT]
   cases h
  cases h
 cases h
def nxE (n:Nat) (ops:Array Oper) (env:Env) (o:Oper):Option (Nat×Nat):=
  match pre n ops env o with
  |false=>none
  |true=>match o.dst with
    |some d=>match o.op with
      | .next x false=>match xh env x with
        |some (.pointer (some ⟨it,0,none⟩))=>some (it,d)
        |_=>none
      |_=>none
    |none=>none
theorem st_nx {β:Type} {it d:Nat} (h:nxE f.n ops env o=some (it,d)) {m N:Nat} {enc:β→Value} {g:List UInt8→Option β} {done:List (List UInt8)} (hit:yv9 w it m enc g N done)
  (k0:(∀x b,g x=some b→x∈done)→K ((d,.tuple #[.bool false])::env) w)
  (k1:∀(x:List UInt8) (b:β) w',g x=some b→x.length=32→x∉done→done.length<N→yv9 w' it m enc g N (done++[x])→Cur w' it m (idV x) (enc b)→Ext (One it) w w'→w'.heap.size=w.heap.size→K ((d,.tuple #[.bool true,idV x,enc b])::env) w'):St P f ops o env w K:=by
 unfold nxE at h
 split at h
 ·cases h
 rename_i hp
 obtain⟨h1,h2⟩:=pre_eq hp
 split at h
 ·rename_i d' hd
  split at h
  ·rename_i xx ho
   split at h
   ·rename_i it' hx
    simp only[bG,cP] at h
    obtain⟨rfl,rfl⟩:=h
    obtain⟨es,c,s,se,la,hi,hm,a1,a2,a3,a4,a5,a6,a7,b1,b2,b3,b4⟩:=hit
    rcases run_next (P:=P) hi hm a4 a6 o.type with⟨c1,c2⟩|⟨e,c1,w1,c2,c3⟩
    ·refine yg h1 h2 (v:= .tuple #[.bool false]) (w':=w) (fun ρ hρ=> ?_) ?_
     ·simp only[execOp,ho,hρ _ _ hx,aK,c2,aF,aT]
     rw[hd]
     refine k0 fun x b hg=> ?_
     obtain⟨e,he,hk⟩:=a2 x b hg
     refine(b4 e he x hk).1 (cZ fun hc=> ?_)
     have:e∈(leftOf es se).toList:=Array.mem_toList_iff.2 (Array.mem_filter.2 ⟨Array.mem_toList_iff.1 he,by simpa using hc⟩)
     rw[Array.eq_empty_of_size_eq_zero c1] at this
     simp at this
    obtain⟨hes,hns⟩:=mem_left c1
    obtain⟨x,b,hx32,hk,hv,hg⟩:=a1 e hes
    have hxd:x∉done:=fun hxd=>by
     have:=(b4 e hes x hk).2 hxd
     rw[hns] at this;cases this
    have hi1:w1.heap[it']? =some (.mapIter (some m) s se la):=by rcases c2 with rfl|rfl<;>exact hi
    have hm1:w1.heap[m]? =some (.map es c):=by rcases c2 with rfl|rfl<;>exact hm
    have hE1:Ext No w w1:=by
     rcases c2 with rfl|rfl
     ·exact Ext.refl _ _
     exact Ext.drew w
    obtain⟨p1,p2,p3⟩:=ext_putAt hi1 (.mapIter (some m) s (se.push e.born) c)
    have hne:it'≠m:=fun q=>by rw[q,hm] at hi;cases hi
    refine yg h1 h2 (v:= .tuple #[.bool true,idV x,enc b]) (w':={w1 with heap:=w1.heap.setIfInBounds it' (.mapIter (some m) s (se.push e.born) c)}) (fun ρ hρ=> ?_) ?_
    ·rw[hk,hv] at c3
     simp only[execOp,ho,hρ _ _ hx,aK,c3,aF,aT]
    rw[hd]
    have hlt:done.length<N:=by
     rw[←b2]
     have hsub:(done++[x]).length≤(es.toList.map (·.key)).length:=by
      have hnd:((done++[x]).map idV).Nodup:=by
       rw[List.nodup_iff_pairwise_ne]
       refine List.pairwise_map.2 ((List.nodup_append.2 ⟨b1,by simp,fun a ha b hb=> ?_⟩).imp fun hab e=>hab (idV_inj e))
       rw[aI.1 hb]
       exact fun e=>hxd (e▸ha)
      have:=nodup_len hnd (m:=es.toList.map (·.key)) fun v hv=>by
       obtain⟨y,hy,rfl⟩:=bN.1 hv
       rcases aY.1 hy with hy|hy
       ·obtain⟨b',hb'⟩:=b3 y hy
        obtain⟨e',he',hk'⟩:=a2 y b' hb'
        exact bN.2 ⟨e',he',hk'⟩
       rw[aI.1 hy]
       exact bN.2 ⟨e,hes,hk⟩
      rw[aE] at this
      exact this
     rw[aB,aE,Array.length_toList] at hsub
     simp only[aW,List.length_nil] at hsub
     have hz:es.size=es.toList.length:=rfl
     have hz':es.toList.length=es.size:=rfl
     exact aM (Nat.lt_succ_self _) hsub
    refine k1 x b _ hg hx32 hxd hlt ⟨es,c,s,se.push e.born,c,p3,?_,a1,a2,a3,a4,a5,a7,a7,?_,b2,?_,?_⟩ ⟨es,c,s,se.push e.born,e,p3,(by
     show(w1.heap.setIfInBounds it' _)[m]? =_
     rw[dC hne]
     exact hm1),by simp,find_born e es.toList a5 hes,hk,hv⟩ ((hE1.mono fun _ _ q=>q.elim).trans p1 fun _ _ q=>q) (p2.trans (by rcases c2 with rfl|rfl<;>rfl))
    ·show(w1.heap.setIfInBounds it' _)[m]? =_
     rw[dC hne]
     exact hm1
    ·exact List.nodup_append.2 ⟨b1,by simp,fun a ha b hb=>by rw[aI.1 hb];exact fun e=>hxd (e▸ha)⟩
    ·intro y hy
     rcases aY.1 hy with hy|hy
     ·exact b3 y hy
     rw[aI.1 hy];exact⟨b,hg⟩
    intro e' he' y hy
    rw[contains_push]
    simp only[Bool.or_eq_true,beq_iff_eq,aY,aI]
    constructor
    ·rintro(q|q)
     ·exact .inl ((b4 e' he' y hy).1 q)
     have h1':=find_born e es.toList a5 hes
     have h2':=find_born e' es.toList a5 he'
     rw[q,h1'] at h2'
     have:=cG h2'
     rw[←this] at hy
     exact .inr (idV_inj (hy.symm.trans hk))
    rintro(q|q)
    ·exact .inl ((b4 e' he' y hy).2 q)
    refine .inr ?_
    subst q
    have hee:e'=e:=by
     have i1:=bJ.1 he'
     have i2:=bJ.1 hes
     obtain⟨i,hi',rfl⟩:=i1
     obtain⟨j,hj',hje⟩:=i2
     have:i=j:=by
      have q2:(es.toList.map (·.key))[i]'(by simpa using hi')=(es.toList.map (·.key))[j]'(by simpa using hj'):=by simp only[bR];rw[hy,hje,hk]
      exact(List.getElem_inj a3).1 q2
     subst this
     exact hje
    rw[hee]
   cases h
  cases h
 cases h
theorem wd_lu {K:Act→World→Prop} {kv:List UInt8→Value} {okx:List UInt8→Prop} {β:Type} {r:Dr} {i:Nat} {pl:List (Nat×Bool)} {dn:List Nat} (hI:I.Ok P) (ho:ops[i]? =some o) {k rm d:Nat} {z v:Value} {ok:Bool} (h:luE I f.n ops env o=some (k,z,rm,v,ok,d)) (hK:KeyG P k kv okx) {x:List UInt8} (hx:okx x) (hv:v=kv x) {enc:β→Value} {g:List UInt8→Option β} (hm0:Ad kv okx w rm enc g) (hm:∀w',r.C w'→Ad kv okx w' rm enc g)
  (kk:WD P f ops K r pl (i::dn) ((d,if ok then .tuple #[tell enc z (g x),.bool (g x).isSome] else tell enc z (g x))::env) w):WD P f ops K r ((i,true)::pl) dn env w:=by
 obtain⟨b,c,_⟩:=ov_lu (f:=f) (w:=w) hI h hK hx hv hm0
 exact wd_q ho b c (fun w' a=>(ov_lu (f:=f) (w:=w') hI h hK hx hv (hm w' a)).2.2) kk
end
def MapO {β:Type} (w:World) (m:Option Nat) (enc:β→Value) (g:List UInt8→Option β):Prop:=(m=none∧∀x,g x=none)∨∃r,m=some r∧MapB w r enc g
theorem MapO.ga {β:Type} {w w':World} {m:Option Nat} {enc:β→Value} {g:List UInt8→Option β} (h:MapO w m enc g) (hE:Ext No w w'):MapO w' m enc g:=h.imp id fun⟨r,e,hm⟩=>⟨r,e,hm.ga hE⟩
theorem MapO.gj {β:Type} {w w':World} {m:Option Nat} {enc:β→Value} {g:List UInt8→Option β} (h:MapO w m enc g) {b T:Nat} {L:List Value} (hE:Ext (One b) w w') (hb:gz w b T L):MapO w' m enc g:=h.imp id fun⟨r,e,hm⟩=>⟨r,e,hm.gj hE hb⟩
theorem MapO.len {β:Type} {w:World} {m:Option Nat} {enc:β→Value} {g:List UInt8→Option β} (h:MapO w m enc g):∃n:Nat,∀w',Ext No w w'→(m=none∧n=0)∨∃r es c,m=some r∧w'.heap[r]? =some (.map es c)∧n=es.size:=by
 rcases h with⟨rfl,_⟩|⟨r,rfl,b⟩
 ·exact⟨0,fun _ _=> .inl ⟨rfl,rfl⟩⟩
 have a:=b.lt
 obtain⟨es,c,d,_⟩:=b
 exact⟨es.size,fun w' e=> .inr ⟨r,es,c,rfl,(e.same r a id).trans d,rfl⟩⟩
def zq2 {β:Type} (w:World) (it:Nat) (m:Option Nat) (enc:β→Value) (g:List UInt8→Option β) (N:Nat) (done:List (List UInt8)):Prop:=
  (m=none∧(∃since seen last,w.heap[it]? =some (.mapIter none since seen last))∧∀x,g x=none)∨∃r,m=some r∧yv9 w it r enc g N done
theorem zq2.ext {β:Type} {S:Nat→Prop} {w w':World} {it N:Nat} {m:Option Nat} {enc:β→Value} {g:List UInt8→Option β} {done:List (List UInt8)} (h:zq2 w it m enc g N done) (hE:Ext S w w') (h1:¬S it) (h2:∀r,m=some r→¬S r):zq2 w' it m enc g N done:=by
 rcases h with⟨rfl,⟨a,b,c,d⟩,i⟩|⟨r,rfl,j⟩
 ·have e:it<w.heap.size:=by
   rcases bF it w.heap.size with f|f
   ·exact f
   rw[cI f] at d;cases d
  exact .inl ⟨rfl,⟨a,b,c,(hE.same it e h1).trans d⟩,i⟩
 exact .inr ⟨r,rfl,j.ext hE h1 (h2 r rfl)⟩
theorem zq2.ga {β:Type} {w w':World} {it N:Nat} {m:Option Nat} {enc:β→Value} {g:List UInt8→Option β} {done:List (List UInt8)} (h:zq2 w it m enc g N done) (hE:Ext No w w'):zq2 w' it m enc g N done:=h.ext hE id fun _ _=>id
theorem zq2.neB {β:Type} {w:World} {it N:Nat} {m:Option Nat} {enc:β→Value} {g:List UInt8→Option β} {done:List (List UInt8)} (h:zq2 w it m enc g N done) {b T:Nat} {L:List Value} (hb:gz w b T L):it≠b∧∀r,m=some r→r≠b:=by
 rcases h with⟨rfl,⟨a,c,d,i⟩,_⟩|⟨r,rfl,f⟩
 ·refine⟨fun e=> ?_,fun r h=>by cases h⟩
  subst e
  rw[gz,i] at hb;cases hb
 exact⟨(f.neB hb).1,fun j e=>by cases e;exact(f.neB hb).2⟩
theorem zq2.gj {β:Type} {w w':World} {it N:Nat} {m:Option Nat} {enc:β→Value} {g:List UInt8→Option β} {done:List (List UInt8)} (h:zq2 w it m enc g N done) {b T:Nat} {L:List Value} (hE:Ext (One b) w w') (hb:gz w b T L):zq2 w' it m enc g N done:=
 h.ext hE (h.neB hb).1 (h.neB hb).2
section
variable {P:Program} {I:u0} {f:Fs} {ops:Array Oper} {o:Oper} {env:Env} {w:World}
def lnoE (I:u0) (n:Nat) (ops:Array Oper) (env:Env) (o:Oper):Option (Option Nat×Nat):=
  match pre n ops env o with
  |false=>none
  |true=>match o.dst with
    |some d=>match o.op with
      | .call {callee:= .builtin .len,args:=xs,argTypes:=ts}=>match xs.toList with
        | [x]=>match ts.toList with
          | [t]=>match yn I t with
            |some y=>match y.desc with
              | .map _ _=>match xh env x with
                |some (.map m)=>some (m,d)
                |_=>none
              |_=>none
            |none=>none
          |_=>none
        |_=>none
      |_=>none
    |none=>none
theorem wd_lnO {K:Act→World→Prop} {r:Dr} {i:Nat} {pl:List (Nat×Bool)} {dn:List Nat} (hI:I.Ok P) (ho:ops[i]? =some o) {m:Option Nat} {d:Nat} (h:lnoE I f.n ops env o=some (m,d)) {n:Nat}
  (hm:∀w',r.C w'→(m=none∧n=0)∨∃r es c,m=some r∧w'.heap[r]? =some (.map es c)∧n=es.size)
  (kk:WD P f ops K r pl (i::dn) ((d,.int .i64 (n:Int))::env) w):WD P f ops K r ((i,true)::pl) dn env w:=by
 unfold lnoE at h
 split at h
 ·cases h
 rename_i l
 split at h
 ·rename_i G p
  split at h
  ·rename_i q s a
   split at h
   ·rename_i x b
    split at h
    ·rename_i t g
     split at h
     ·rename_i y u
      split at h
      ·rename_i H e v
       split at h
       ·rename_i J z
        cases h
        refine wd_q ho l p (fun w' j L A=> ?_) kk
        have k:=(hI.get u).under w'
        rw[v] at k
        have B:q= #[x]:=by rw[←b]
        have D:s= #[t]:=by rw[←g]
        subst B D
        have E:(Builtin.len_ #[t] o.type #[.map m]).run P w'= .ok (.int .i64 (n:Int)) w':=by
         unfold Builtin.len_
         simp only[bT,cN]
         rw[jc k]
         rcases hm w' j with⟨rfl,rfl⟩|⟨r,es,c,rfl,F,rfl⟩
         ·rfl
         simp only[aK,MapKept.run_getObj_map F,aF]
         rfl
        unfold execOp
        simp only[a,resolve,invoke,builtin,aK,aT,aF,List.map_toArray,dL,List.map_nil,A _ _ z,E]
       cases h
      cases h
     cases h
    cases h
   cases h
  cases h
 cases h
def rgoE (I:u0) (n:Nat) (ops:Array Oper) (env:Env) (o:Oper):Option (Option Nat×Nat):=
  match pre n ops env o with
  |false=>none
  |true=>match o.dst with
    |some d=>match o.op with
      | .range t x=>match yn I t with
        |some y=>match y.desc with
          | .map _ _=>match xh env x with
            |some (.map m)=>some (m,d)
            |_=>none
          |_=>none
        |none=>none
      |_=>none
    |none=>none
theorem st_rgO {K:Env→World→Prop} {β:Type} (hI:I.Ok P) {m:Option Nat} {d:Nat} (h:rgoE I f.n ops env o=some (m,d)) {enc:β→Value} {g:List UInt8→Option β} (hm:MapO w m enc g)
  (k:∀(it N:Nat) w',w.heap.size≤it→zq2 w' it m enc g N []→Ext No w w'→K ((d,.pointer (some ⟨it,0,none⟩))::env) w'):St P f ops o env w K:=by
 rcases hm with⟨rfl,l⟩|⟨r,rfl,hm⟩
 ·unfold rgoE at h
  split at h
  ·cases h
  rename_i p
  obtain⟨c,i⟩:=pre_eq p
  split at h
  ·rename_i E q
   split at h
   ·rename_i t x s
    split at h
    ·rename_i y u
     split at h
     ·rename_i F e z
      split at h
      ·rename_i G A
       simp only[bG,cP] at h
       obtain⟨rfl,rfl⟩:=h
       have j:=(hI.get u).under w
       rw[z] at j
       have a:(Instr.range t (.map none)).run P w= .ok (.pointer (some ⟨w.heap.size,0,none⟩)) (w.alloc (.mapIter none 0 #[] 0)):=by
        unfold Instr.range
        rw[jc j]
        rfl
       refine yg c i (v:= .pointer (some ⟨w.heap.size,0,none⟩)) (w':=w.alloc (.mapIter none 0 #[] 0)) (fun H B=> ?_) ?_
       ·simp only[execOp,s,B _ _ A,aK,a,aF,aT]
       rw[q]
       refine k _ 0 _ (aD _) (.inl ⟨rfl,⟨_,_,_,heap_alloc_new w _⟩,l⟩) ⟨rfl,rfl,rfl,by simp,fun b C _=>Cz w _ C,aD _⟩
      cases h
     cases h
    cases h
   cases h
  cases h
 refine st_rg hI (m:=r) (d:=d) ?_ hm fun it N w' c i D=>k it N w' c (.inr ⟨r,rfl,i⟩) D
 unfold rgoE at h
 unfold rgE
 repeat' split at h
 all_goals first|cases h|skip
 all_goals simp_all
theorem st_nxO {K:Env→World→Prop} {β:Type} {it d:Nat} (h:nxE f.n ops env o=some (it,d)) {m:Option Nat} {N:Nat} {enc:β→Value} {g:List UInt8→Option β} {done:List (List UInt8)} (hit:zq2 w it m enc g N done)
  (k0:(∀x b,g x=some b→x∈done)→K ((d,.tuple #[.bool false])::env) w)
  (k1:∀(x:List UInt8) (b:β) w',g x=some b→x.length=32→x∉done→done.length<N→zq2 w' it m enc g N (done++[x])→(∃r,m=some r∧Cur w' it r (idV x) (enc b))→Ext (One it) w w'→w'.heap.size=w.heap.size→K ((d,.tuple #[.bool true,idV x,enc b])::env) w'):St P f ops o env w K:=by
 rcases hit with⟨rfl,⟨a,b,c,hh⟩,hg⟩|⟨r,rfl,hi⟩
 ·unfold nxE at h
  split at h
  ·cases h
  rename_i hp
  obtain⟨h1,h2⟩:=pre_eq hp
  split at h
  ·rename_i d' hd
   split at h
   ·rename_i x t ho
    split at h
    ·rename_i it' hx
     simp only[bG,cP] at h
     obtain⟨rfl,rfl⟩:=h
     have hrun:(Instr.next (.pointer (some ⟨it',0,none⟩)) false o.type).run P w= .ok (.tuple #[.bool false]) w:=by
      simp only[Instr.next,getObj,aK,Sem.run,hh,Result.andThen]
      rfl
     refine yg h1 h2 (v:= .tuple #[.bool false]) (w':=w) (fun ρ hρ=> ?_) (by rw[hd];exact k0 fun x b e=>by rw[hg] at e;cases e)
     simp only[execOp,ho,hρ _ _ hx,aK,hrun,aF,aT]
    cases h
   cases h
  cases h
 exact st_nx h hi k0 fun x b w' h1 h2 h3 h4 h5 h6 h7 h8=>k1 x b w' h1 h2 h3 h4 (.inr ⟨r,rfl,h5⟩) ⟨r,rfl,h6⟩ h7 h8
end
end Go.Vc
namespace Go.Proofs.YtpdiphfjmepijaaGreatDoor
open Go.Proofs.Tryz
open Go.Vc
abbrev Bt:=Ax×(Option Addr×Nat)
def xm (x:Bt):List Value:=[y7 x.1.1,.slice x.2.1 x.1.2.length x.2.2]
theorem Bi (x:Bt):(xm x).length=2:=rfl
instance (x:Bt):OneC (xm x):=by unfold xm;infer_instance
structure uh where
  rp:Option Addr
  rc:Nat
  hs:List u3
  m:Option Nat
  vp:Option Addr
  vc:Nat
  vs:List Bt
def uh.c (h:uh):List Value:=[.slice h.rp h.hs.length h.rc,.map h.m,.slice h.vp h.vs.length h.vc]
instance (h:uh):OneC h.c:=by unfold uh.c;infer_instance
def uh.s (h:uh):Sto:=⟨h.hs.map u3.o,h.vs.map Prod.fst⟩
abbrev natV (i:Nat):Value:= .int .i64 (i:Int)
def placeOf (l:List IdB) (x:IdB):Option Nat:=if x∈l then some (l.idxOf x) else none
theorem placeOf_step {l:List IdB} {x:IdB} (h:x∉l):setM (placeOf l) x l.length=placeOf (l++[x]):=by
 funext y
 unfold setM placeOf
 by_cases e:y=x
 ·subst e
  rw[aR rfl,aR zp,List.idxOf_append,aP h]
  simp
 rw[aP e]
 by_cases hy:y∈l
 ·rw[aR hy,aR (by simp[hy]),List.idxOf_append,aR hy]
 rw[aP hy,aP (by simp[hy,e])]
def InH (p:Option Addr) (H:Nat→Prop):Prop:=∀b off,p=some ⟨b,off,none⟩→H b
theorem InH.mono {p:Option Addr} {H G:Nat→Prop} (h:InH p H) (k:∀y,H y→G y):InH p G:=fun b off e=>k b (h b off e)
theorem Sl.inH {S H:Nat→Prop} {w w':World} {p:Option Addr} {n sz:Nat} {xs:List Value} (h:Sl w p n sz xs) (hE:Ext S w w') (hH:InH p H) (hS:∀y,H y→¬S y):Sl w' p n sz xs:=h.ext hE fun b off e=>hS b (hH b off e)
def ObjB (a:vb) (y:Nat):Prop:=jb a.lp y∨jb a.pp y∨jb a.rp y
structure Ai (u:World) (H:Nat→Prop) (x:u3):Prop where
  id:x.id=Be x.o
  ok:Ca x.o
  ol:Own u x.a.lp x.o.leaves.length x.a.lc 148 33 (x.o.leaves.flatMap jf.cells)
  op:Own u x.a.pp x.o.parents.length x.a.pc 30 32 (x.o.parents.flatMap ge)
  or:Own u x.a.rp x.o.rows.length x.a.rc 150 3 (x.o.rows.flatMap u9.cells)
  f:∀y,ObjB x.a y→H y
theorem Ai.l {H:Nat→Prop} {u:World} {x:u3} (h:Ai u H x):B7 u x.o x.a:=⟨h.ol.sl,h.op.sl,h.or.sl⟩
theorem Ai.ext {S H:Nat→Prop} {u u':World} {x:u3} (h:Ai u H x) (hE:Ext S u u') (hS:∀y,H y→¬S y):Ai u' H x:=
 ⟨h.id,h.ok,h.ol.ext hE fun y hy=>hS y (h.f y (.inl hy)),h.op.ext hE fun y hy=>hS y (h.f y (.inr (.inl hy))),h.or.ext hE fun y hy=>hS y (h.f y (.inr (.inr hy))),h.f⟩
theorem Ai.x4 {W:World} {H:Nat→Prop} {u u':World} {T:Nat} {x:u3} (h:Ai u H x) (hE:Ext (Bo W u T T) u u') (h1:148≠T) (h2:30≠T) (h3:150≠T):Ai u' H x:=
 ⟨h.id,h.ok,h.ol.x4 hE h1 h1,h.op.x4 hE h2 h2,h.or.x4 hE h3 h3,h.f⟩
theorem Ai.gj {H:Nat→Prop} {u u':World} {x:u3} (h:Ai u H x) {b T:Nat} {L:List Value} (hE:Ext (One b) u u') (hb:gz u b T L) (h1:148≠T) (h2:30≠T) (h3:150≠T):Ai u' H x:=
 ⟨h.id,h.ok,h.ol.ju hE hb h1,h.op.ju hE hb h2,h.or.ju hE hb h3,h.f⟩
theorem Ai.xy {kv:List UInt8→Value} {okx:List UInt8→Prop} {β:Type} {H:Nat→Prop} {u u':World} {x:u3} (h:Ai u H x) {r:Nat} {enc:β→Value} {g:List UInt8→Option β} (hm:Ad kv okx u r enc g) (hE:Ext (One r) u u'):Ai u' H x:=
 ⟨h.id,h.ok,h.ol.xy hm hE,h.op.xy hm hE,h.or.xy hm hE,h.f⟩
theorem Ai.mono {H G:Nat→Prop} {u:World} {x:u3} (h:Ai u H x) (k:∀y,H y→G y):Ai u G x:=⟨h.id,h.ok,h.ol,h.op,h.or,fun y hy=>k y (h.f y hy)⟩
theorem Ai.len {H:Nat→Prop} {u:World} {x:u3} (h:Ai u H x):(Bx x).length=105:=xz0 (by rw[h.id];exact vu _) h.ok.1
structure zj6 (u:World) (H:Nat→Prop) (x:Bt):Prop where
  o:Own u x.2.1 x.1.2.length x.2.2 5 1 (ge x.1.2)
  f:∀y,jb x.2.1 y→H y
  ln:x.1.1.length<1000000000
  lo:x.1.2.length<1000000000
theorem zj6.s {H:Nat→Prop} {u:World} {x:Bt} (h:zj6 u H x):ux u x.2.1 x.1.2:=h.o.sl
theorem zj6.ext {S H:Nat→Prop} {u u':World} {x:Bt} (h:zj6 u H x) (hE:Ext S u u') (hS:∀y,H y→¬S y):zj6 u' H x:=⟨h.o.ext hE fun y hy=>hS y (h.f y hy),h.f,h.ln,h.lo⟩
theorem zj6.x4 {W:World} {H:Nat→Prop} {u u':World} {T:Nat} {x:Bt} (h:zj6 u H x) (hE:Ext (Bo W u T T) u u') (h1:5≠T):zj6 u' H x:=⟨h.o.x4 hE h1 h1,h.f,h.ln,h.lo⟩
theorem zj6.gj {H:Nat→Prop} {u u':World} {x:Bt} (h:zj6 u H x) {b T:Nat} {L:List Value} (hE:Ext (One b) u u') (hb:gz u b T L) (h1:5≠T):zj6 u' H x:=⟨h.o.ju hE hb h1,h.f,h.ln,h.lo⟩
theorem zj6.xy {kv:List UInt8→Value} {okx:List UInt8→Prop} {β:Type} {H:Nat→Prop} {u u':World} {x:Bt} (h:zj6 u H x) {r:Nat} {enc:β→Value} {g:List UInt8→Option β} (hm:Ad kv okx u r enc g) (hE:Ext (One r) u u'):zj6 u' H x:=⟨h.o.xy hm hE,h.f,h.ln,h.lo⟩
theorem zj6.mono {H G:Nat→Prop} {u:World} {x:Bt} (h:zj6 u H x) (k:∀y,H y→G y):zj6 u G x:=⟨h.o,fun y hy=>k y (h.f y hy),h.ln,h.lo⟩
structure xu (u:World) (H:Nat→Prop) (h:uh):Prop where
  row:Sl u h.rp h.hs.length 105 (h.hs.flatMap Bx)
  rc:h.hs.length≤h.rc
  map:MapO u h.m natV (placeOf (h.hs.map u3.id))
  vals:Sl u h.vp h.vs.length 2 (h.vs.flatMap xm)
  vc:h.vs.length≤h.vc
  o:∀x∈h.hs,Ai u H x
  v:∀x∈h.vs,zj6 u H x
  fr:InH h.rp H
  fv:InH h.vp H
  fm:∀r,h.m=some r→H r
  few:h.hs.length<1000000
  fev:h.vs.length<1000000
theorem xu.ext {S H:Nat→Prop} {u u':World} {h:uh} (k:xu u H h) (hE:Ext S u u') (hS:∀y,H y→¬S y):xu u' H h:=
 ⟨Sl.inH k.row hE k.fr hS,k.rc,k.map.imp _root_.id fun⟨r,e,hm⟩=>⟨r,e,hm.ext hE (hS r (k.fm r e))⟩,Sl.inH k.vals hE k.fv hS,k.vc,fun x hx=>(k.o x hx).ext hE hS,fun x hx=>(k.v x hx).ext hE hS,k.fr,k.fv,k.fm,k.few,k.fev⟩
theorem xu.ga {H:Nat→Prop} {u u':World} {h:uh} (k:xu u H h) (hE:Ext No u u'):xu u' H h:=k.ext hE fun _ _=>_root_.id
theorem xu.held {u:World} {H:Nat→Prop} {h:uh} (k:xu u H h):∀x∈h.hs,(Bx x).length=105:=fun x hx=>(k.o x hx).len
def FindAt (l:List Ax) (n:Str) (i:Nat) (q:Bool):Prop:=i≤l.length∧(∀v∈l.take i,nLt v.1 n)∧(∀v,(l.drop i).head? =some v→¬nLt v.1 n)∧(q=true↔∃v,(l.drop i).head? =some v∧v.1=n)
theorem xx3 {α:Type} {l:List α} {i:Nat} (hi:i<l.length):(l.drop i).head? =some l[i]:=by rw[List.head?_drop];exact aN hi
theorem drop_none {α:Type} {l:List α} {i:Nat} (hi:l.length≤i):(l.drop i).head? =none:=by rw[bM hi];rfl
theorem find_calls (w:World) {rv mv:Value} (h1:rv.oneCell'=true) (h2:mv.oneCell'=true) {p:Option Addr} {c:Nat} {vs:List Bt} (h:Sl w p vs.length 2 (vs.flatMap xm)) (hl:vs.length<1000000) {n:Str}:
  gn prog 53 [.agg #[rv,mv,.slice p vs.length c],y7 n] w fun v w'=>∃(i:Nat) (q:Bool),v= .tuple #[.int .i64 (i:Int),.bool q]∧FindAt (vs.map Prod.fst) n i q∧Ext No w w':=by
 refine gx func53 ?_
 have hX:=Ext.refl No w
 refine ko (gw rfl fun b2 w1 hn2 hb2 hE1=> ?_)
 have hX:=hX.gb hE1
 have hb2:gz w1 b2 121 ([rv,mv,.slice p vs.length c]):=hb2
 refine km rfl (jd rfl (gl (j8 ?_)))
 refine jj (α:=Nat) [1,2] rfl (fun z=>[(6,.int .i64 (z:Int))]) (fun z u=>(z≤vs.length∧∀v∈(vs.map Prod.fst).take z,nLt v.1 n)∧gz u b2 121 ([rv,mv,.slice p vs.length c])∧Ext No w u) (fun z u=>vs.length-z) (0) rfl ⟨⟨aJ _,fun _ h=>(by cases h)⟩,hb2,hX⟩ ?_
 rintro i w2 ⟨⟨hi,hlt⟩,hb2,hX⟩
 refine gl (ji (α:=Bool) [1,2,6] rfl (fun z=>[(21,.bool z)]) (fun z u=>(z=true↔∃v,((vs.map Prod.fst).drop i).head? =some v∧nLt v.1 n)∧gz u b2 121 ([rv,mv,.slice p vs.length c])∧Ext No w u) ?_ ?_)
 ·refine gy ?_
  refine j0 gc rfl (gu rfl (hb2.cell rfl) (j0 gc rfl (ja 12 rfl (fun hg=> ?_) (fun hg=> ?_))))
  ·have hi2:i<vs.length:=by omega
   have hi3:i<(vs.map Prod.fst).length:=by rw[aE];exact hi2
   have hdh:=xx3 hi3
   rw[bR] at hdh
   obtain⟨qb,qo,hp,hsq⟩:=h.qd (fun x _=>Bi x) zo
   subst hp
   refine gq gc 1 rfl (gu rfl (hb2.cell rfl) (gq gc 1 rfl (ka rfl 2 rfl i rfl hi2 (qo+i*2) rfl (gq gc 1 rfl (gu rfl (((hsq i hi2).ga hX) 0 _ rfl) (gq gc 3 rfl (gk ?_)))))))
   exact gr (_) rfl ⟨by rw[aU,hdh];exact⟨fun k=>⟨_,rfl,k⟩,fun⟨v,e,k⟩=>by cases e;exact k⟩,hb2,hX⟩
  have hdn:=drop_none (l:=vs.map Prod.fst) (i:=i) (by rw[aE];omega)
  refine gq gc 9 rfl (gk ?_)
  exact gr (false) rfl ⟨by rw[hdn];exact⟨fun k=>(by cases k),fun⟨v,e,_⟩=>by cases e⟩,hb2,hX⟩
 rintro z w3 ⟨hz,hb2,hX⟩
 refine ud rfl (fun hc=> ?_) (fun hc=> ?_)
 ·obtain⟨v0,hv0,hv1⟩:=hz.1 hc
  have hi3:i<(vs.map Prod.fst).length:=by
   rcases bF i (vs.map Prod.fst).length with h'|h'
   ·exact h'
   rw[drop_none h'] at hv0;cases hv0
  have hi2:i<vs.length:=by rw[aE] at hi3;exact hi3
  rw[xx3 hi3] at hv0
  refine x3 (j8 (yl rfl ?_))
  rw[jz _ zo]
  refine gk ?_
  exact js (jk (i+1) rfl ⟨⟨hi2,fun v hv=>by rw[aQ hi3] at hv;rcases aY.1 hv with hv|hv;exact hlt v hv;rw[aI.1 hv];cases hv0;exact hv1⟩,hb2,hX⟩ zf)
 have hge:∀v,((vs.map Prod.fst).drop i).head? =some v→¬nLt v.1 n:=fun v e k=>by rw[hz.2 ⟨v,e,k⟩] at hc;cases hc
 refine Ak ?_
 refine ji (α:=Bool) [] rfl (fun z=>[(4,.int .i64 (i:Int)),(5,.bool z)]) (fun z u=>(z=true↔∃v,((vs.map Prod.fst).drop i).head? =some v∧v.1=n)∧gz u b2 121 ([rv,mv,.slice p vs.length c])∧Ext No w u) ?_ ?_
 ·refine jr rfl 18 [qP 0,qP 1,qP 2,qP 3,qP 4,qP 5,qP 6,qP 7,qP 8,qP 9,qP 10,qP 11,qP 12,qP 13,qP 14,qP 15,qP 16,qP 17] [] (No) zk fun w4 hE4 hs4=> ?_
  have hd2:=hb2
  have hXd:=hX
  have hb2:=hb2.ga hE4
  have hX:=hX.gb hE4
  refine gt gc 3 rfl (j3 gc rfl rfl (fun w' hw'=>(hd2.ga hw').cell rfl) ?_)
  refine gt gc 3 rfl (vy 30 rfl (fun hg=> ?_) (fun hg=> ?_))
  ·have hi2:i<vs.length:=by omega
   have hi3:i<(vs.map Prod.fst).length:=by rw[aE];exact hi2
   have hdh:=xx3 hi3
   rw[bR] at hdh
   obtain⟨qb,qo,hp,hsq⟩:=h.qd (fun x _=>Bi x) zo
   subst hp
   refine gt gc 1 rfl (j3 gc rfl rfl (fun w' hw'=>(hd2.ga hw').cell rfl) ?_)
   refine gt gc 1 rfl (qk gc rfl rfl 2 rfl i rfl hi2 (qo+i*2) rfl (gt gc 1 rfl (j3 gc rfl rfl (fun w' hw'=>(((hsq i hi2).ga (hXd.gb hw')) 0 _ rfl)) ?_)))
   refine gt gc 5 rfl (jg (j5 ?_))
   exact gr (_) rfl ⟨by rw[aU,hdh];exact⟨fun k=>⟨_,rfl,xt k⟩,fun⟨v,e,k⟩=>by cases e;rw[←k]⟩,hb2,hX⟩
  have hdn:=drop_none (l:=vs.map Prod.fst) (i:=i) (by rw[aE];omega)
  refine gt gc 11 rfl (jg (j5 ?_))
  exact gr (false) rfl ⟨by rw[hdn];exact⟨fun k=>(by cases k),fun⟨v,e,_⟩=>by cases e⟩,hb2,hX⟩
 rintro z w5 ⟨hz2,hb2,hX⟩
 refine j9 (qe [_,_] ⟨rfl,rfl,trivial⟩ ?_)
 exact⟨i,_,rfl,⟨by rw[aE];exact hi,hlt,hge,hz2⟩,hX⟩
structure zw4 (W u:World) (G:Nat→Prop) (h:uh):Prop where
  row:zq1 W u h.rp h.hs.length h.rc 126 105 (h.hs.flatMap Bx)
  rin:InH h.rp G
  map:∃r,h.m=some r∧W.heap.size≤r∧MapB u r natV (placeOf (h.hs.map u3.id))
  vals:k8 W u h.vp h.vs.length h.vc 129 2 (h.vs.flatMap xm)
  o:∀x∈h.hs,Ai u G x
  v:∀x∈h.vs,zj6 u G x
  few:h.hs.length<1000000
  fev:h.vs.length<1000000
  new:∀y,W.heap.size≤y→G y
theorem ownN_in {W u:World} {G:Nat→Prop} {p:Option Addr} {n c T sz:Nat} {xs:List Value} (h:k8 W u p n c T sz xs) (hG:∀y,W.heap.size≤y→G y):InH p G:=fun b off e=>by
 rcases h.own with⟨h0,_⟩|⟨b',l,h0,_⟩
 ·rw[e] at h0;cases h0
 rw[e] at h0;cases h0
 exact hG _ (h.new _ e)
def RestT (T:Nat):Prop:=148≠T∧30≠T∧150≠T∧5≠T∧126≠T
instance (T:Nat):Decidable (RestT T):=inferInstanceAs (Decidable (_∧_))
structure Da (W u:World) (G:Nat→Prop) (rp:Option Addr) (rc:Nat) (hs:List u3) (r:Nat) (vs:List Bt):Prop where
  row:zq1 W u rp hs.length rc 126 105 (hs.flatMap Bx)
  map:MapB u r natV (placeOf (hs.map u3.id))
  o:∀x∈hs,Ai u G x
  v:∀x∈vs,zj6 u G x
section
variable {W u u':World} {G:Nat→Prop} {rp:Option Addr} {rc r:Nat} {hs:List u3} {vs:List Bt}
theorem Da.ga (k:Da W u G rp rc hs r vs) (hE:Ext No u u'):Da W u' G rp rc hs r vs:=⟨k.row.ga hE,k.map.ga hE,fun x hx=>(k.o x hx).ext hE fun _ _=>id,fun x hx=>(k.v x hx).ext hE fun _ _=>id⟩
theorem Da.gj (k:Da W u G rp rc hs r vs) {b T:Nat} {L:List Value} (hE:Ext (One b) u u') (hb:gz u b T L) (hn:W.heap.size≤b) (hT:RestT T):Da W u' G rp rc hs r vs:=
 ⟨k.row.gj hE hb hn hT.2.2.2.2,k.map.gj hE hb,fun x hx=>(k.o x hx).gj hE hb hT.1 hT.2.1 hT.2.2.1,fun x hx=>(k.v x hx).gj hE hb hT.2.2.2.1⟩
theorem Da.x4 (k:Da W u G rp rc hs r vs) {T:Nat} (hE:Ext (Bo W u T T) u u') (hT:RestT T):Da W u' G rp rc hs r vs:=
 ⟨k.row.x4 hE hT.2.2.2.2,k.map.x4 hE,fun x hx=>(k.o x hx).x4 hE hT.1 hT.2.1 hT.2.2.1,fun x hx=>(k.v x hx).x4 hE hT.2.2.2.1⟩
end
theorem valZc:cellsOf ti129.zero=xm (([],[]),none,0):=by kernel_rfl
def partM (g:IdB→Option Nat) (l:List IdB):IdB→Option Nat:=fun x=>if x∈l then g x else none
theorem partM_step {g:IdB→Option Nat} {l:List IdB} {x:IdB} {b:Nat} (h:g x=some b):setM (partM g l) x b=partM g (l++[x]):=by
 funext y
 unfold setM partM
 by_cases e:y=x
 ·subst e;rw[aR rfl,aR zp,h]
 rw[aP e];simp[e]
theorem partM_all {g:IdB→Option Nat} {l:List IdB} (h:∀x b,g x=some b→x∈l):partM g l=g:=by
 funext y
 unfold partM
 split
 ·rfl
 rename_i hy
 cases hg:g y with
 |none=>rfl
 |some b=>exact absurd (h y b hg) hy
theorem twin_calls (w:World) {H:Nat→Prop} {h:uh} (hx:xu w H h) (hH:∀y,H y→y<w.heap.size):
  gn prog 57 [.agg h.c.toArray] w fun v w'=>∃h':uh,v= .agg h'.c.toArray∧h'.hs=h.hs∧h'.vs=h.vs∧zw4 w w' (fun y=>H y∨w.heap.size≤y) h'∧Ext No w w':=by
 have i:=hx.map
 have cg:=hx.fev
 have ch:=hx.few
 refine gx func57 ?_
 have j:=Ext.refl No w
 refine ko (gw rfl fun b1 w1 ci f b0=> ?_)
 have i:=i.ga b0
 have j:=j.gb b0
 have f:gz w1 b1 121 (h.c):=f
 refine gw rfl fun b2 w2 bf d au=> ?_
 have bg:=aA j.size bf
 have f:=f.ga au
 have i:=i.ga au
 have j:=j.gb au
 have d:gz w2 b2 121 ([.slice none 0 0,.map none,.slice none 0 0]):=d
 refine qq ?_
 have bh:=f.lt
 have av:=d.lt
 have b5:=j.size
 refine ji (α:=(Nat)×Nat×Nat) [1,2] rfl (fun z=>[(3,.pointer (some ⟨z.2.1,0,none⟩))]) (fun z u=>(MapB u z.1 natV (fun _=>none)∧w.heap.size≤z.1∧MapO u h.m natV (placeOf (h.hs.map u3.id)))∧gz u b1 121 (h.c)∧gz u b2 121 ([.slice none 0 0,.map none,.slice none 0 0])∧gz u z.2.1 121 ([.slice h.rp h.hs.length h.hs.length,.map (some z.1),.slice (some ⟨z.2.2,0,none⟩) h.vs.length h.vs.length])∧w2.heap.size≤z.2.1∧gz u z.2.2 129 (Cn h.vs.length (xm (([],[]),none,0)))∧w2.heap.size≤z.2.2∧z.2.1≠z.2.2∧Ext No w u) ?_ ?_
 ·have t:=aD w2.heap.size
  refine zz7 rfl 19 19 [19] (No) zk fun w3 ai cj=> ?_
  have aj:=f
  have b6:=i
  have f:=f.ga ai
  have d:=d.ga ai
  have i:=i.ga ai
  have t:=aA t ai.size
  have j:=j.gb ai
  have D:Ext No _ w3:=ai
  obtain⟨nn,bi⟩:=b6.len
  refine qm [qP 0,qP 1,qP 2,qP 3,qP 4,qP 5,qP 6,qP 7,qP 8,qP 9,qP 10,qP 11,qP 13,qP 14,qP 15] 4 rfl zk (gt gc 1 rfl ?_)
  refine j3 gc rfl rfl (fun w' T=>(aj.ga T).cell rfl) ?_
  refine gt gc 1 rfl (j3 gc rfl rfl (fun w' T=>(aj.ga T).cell rfl) ?_)
  refine gt gc 2 rfl (j3 gc rfl rfl (fun w' T=>(aj.ga T).cell rfl) ?_)
  refine gt gc 1 rfl (D8 gc rfl rfl 0 h.hs.length h.hs.length 105 rfl (.inl ⟨rfl,rfl⟩) (.inl rfl) (.inr ⟨rfl,rfl⟩) (aJ _) (aD _) hx.rc ?_)
  rw[jw,bB]
  refine gt gc 1 rfl (j3 gc rfl rfl (fun w' T=>(aj.ga T).cell rfl) ?_)
  refine wd_lnO gc rfl rfl (n:=nn) (fun w' T=>bi w' T) ?_
  refine gt gc 1 rfl (j3 gc rfl rfl (fun w' T=>(aj.ga T).cell rfl) ?_)
  refine gt gc 1 rfl (yd rfl (As [12,16,18] rfl zk ⟨⟨_,rfl,?_⟩,⟨_,rfl,?_⟩,⟨_,rfl,?_⟩,trivial⟩))
  ·have a7:=j
   refine st_mms gc idV IsId natV rfl fun r w4 hr s ad ck=>⟨D.gb ad,?_⟩
   have f:=f.ga ad
   have d:=d.ga ad
   have i:=i.ga ad
   have t:=aA t ad.size
   have j:=j.gb ad
   have D:=D.gb ad
   have I:=aA a7.size hr
   refine qm [] 3 rfl zk (yd rfl (As [16,18] rfl zk ⟨⟨_,rfl,?_⟩,⟨_,rfl,?_⟩,trivial⟩))
   ·refine zz4 gc rfl h.vs.length h.vs.length 40 rfl valZc rfl zd rfl rfl (aD _) zo zm fun k w5 p a a9 cl=>⟨D.gb a9,?_⟩
    have A:=aA t p
    have S:=aA D.size p
    have f:=f.ga a9
    have d:=d.ga a9
    have i:=i.ga a9
    have s:=s.ga a9
    have t:=aA t a9.size
    have j:=j.gb a9
    have D:=D.gb a9
    have a:gz w5 k 129 (Cn h.vs.length (xm (([],[]),none,0))):=a
    refine qm [qP 17,(18,false)] 0 rfl zk ?_
    refine xj0 gc rfl rfl ⟨⟨rfl,by decide⟩,⟨rfl,by decide⟩,⟨rfl,by decide⟩,trivial⟩ (l':=[.slice h.rp h.hs.length h.hs.length,.map (some r),.slice (some ⟨k,0,none⟩) h.vs.length h.vs.length]) rfl ?_
    refine jo rfl (Ba gc rfl fun b3 w6 l g aa=>⟨D.gb aa,?_⟩)
    have E:=j2 f.lt l
    have F:=j2 d.lt l
    have C:=j2 a.lt l
    have a3:=aA j.size l
    have G:=aA t l
    have a8:=aA D.size l
    have f:=f.ga aa
    have d:=d.ga aa
    have a:=a.ga aa
    have i:=i.ga aa
    have s:=s.ga aa
    have t:=aA t aa.size
    have j:=j.gb aa
    refine jg ?_
    have B:=g
    refine wb rfl (j4 (l':=[.slice h.rp h.hs.length h.hs.length,.map (some r),.slice (some ⟨k,0,none⟩) h.vs.length h.vs.length]) gc g rfl rfl rfl rfl OneC.h fun w7 g ae cm=> ?_)
    have f:=f.gj ae E
    have d:=d.gj ae F
    have a:=a.gj ae C
    have i:=i.gj ae B
    have s:=s.gj ae B
    have t:=aA t ae.size
    have j:=j.gi ae a3
    refine j5 ?_
    exact gr ((r),b3,k) rfl ⟨⟨s,I,i⟩,f,d,g,G,a,A,C.symm,j⟩
   refine Ba gc rfl fun b3 w8 l g ab=>⟨D.gb ab,?_⟩
   have E:=j2 f.lt l
   have F:=j2 d.lt l
   have a3:=aA j.size l
   have G:=aA t l
   have a8:=aA D.size l
   have f:=f.ga ab
   have d:=d.ga ab
   have i:=i.ga ab
   have s:=s.ga ab
   have t:=aA t ab.size
   have j:=j.gb ab
   have D:=D.gb ab
   refine qm [(16,false),qP 17] 0 rfl zk ?_
   refine jo rfl (zz4 gc rfl h.vs.length h.vs.length 40 rfl valZc rfl zd rfl rfl (aD _) zo zm fun k w9 p a ac cn=>⟨D.gb ac,?_⟩)
   have q:=j2 g.lt p
   have A:=aA t p
   have S:=aA D.size p
   have f:=f.ga ac
   have d:=d.ga ac
   have g:=g.ga ac
   have i:=i.ga ac
   have s:=s.ga ac
   have t:=aA t ac.size
   have j:=j.gb ac
   have a:gz w9 k 129 (Cn h.vs.length (xm (([],[]),none,0))):=a
   refine xj0 gc rfl rfl ⟨⟨rfl,by decide⟩,⟨rfl,by decide⟩,⟨rfl,by decide⟩,trivial⟩ (l':=[.slice h.rp h.hs.length h.hs.length,.map (some r),.slice (some ⟨k,0,none⟩) h.vs.length h.vs.length]) rfl (jg ?_)
   have B:=g
   refine wb rfl (j4 (l':=[.slice h.rp h.hs.length h.hs.length,.map (some r),.slice (some ⟨k,0,none⟩) h.vs.length h.vs.length]) gc g rfl rfl rfl rfl OneC.h fun co g U bw=> ?_)
   have f:=f.gj U E
   have d:=d.gj U F
   have a:=a.gj U q.symm
   have i:=i.gj U B
   have s:=s.gj U B
   have t:=aA t U.size
   have j:=j.gi U a3
   refine j5 ?_
   exact gr ((r),b3,k) rfl ⟨⟨s,I,i⟩,f,d,g,G,a,A,q,j⟩
  ·refine zz4 gc rfl h.vs.length h.vs.length 40 rfl valZc rfl zd rfl rfl (aD _) zo zm fun k bj p a V bx=>⟨D.gb V,?_⟩
   have A:=aA t p
   have S:=aA D.size p
   have f:=f.ga V
   have d:=d.ga V
   have i:=i.ga V
   have t:=aA t V.size
   have j:=j.gb V
   have D:=D.gb V
   have a:gz bj k 129 (Cn h.vs.length (xm (([],[]),none,0))):=a
   refine qm [] 3 rfl zk (yd rfl (As [12,18] rfl zk ⟨⟨_,rfl,?_⟩,⟨_,rfl,?_⟩,trivial⟩))
   ·have a7:=j
    refine st_mms gc idV IsId natV rfl fun r cp hr s J bz=>⟨D.gb J,?_⟩
    have f:=f.ga J
    have d:=d.ga J
    have a:=a.ga J
    have i:=i.ga J
    have t:=aA t J.size
    have j:=j.gb J
    have D:=D.gb J
    have I:=aA a7.size hr
    refine qm [qP 17,(18,false)] 0 rfl zk ?_
    refine xj0 gc rfl rfl ⟨⟨rfl,by decide⟩,⟨rfl,by decide⟩,⟨rfl,by decide⟩,trivial⟩ (l':=[.slice h.rp h.hs.length h.hs.length,.map (some r),.slice (some ⟨k,0,none⟩) h.vs.length h.vs.length]) rfl ?_
    refine jo rfl (Ba gc rfl fun b3 cq l g K=>⟨D.gb K,?_⟩)
    have E:=j2 f.lt l
    have F:=j2 d.lt l
    have C:=j2 a.lt l
    have a3:=aA j.size l
    have G:=aA t l
    have a8:=aA D.size l
    have f:=f.ga K
    have d:=d.ga K
    have a:=a.ga K
    have i:=i.ga K
    have s:=s.ga K
    have t:=aA t K.size
    have j:=j.gb K
    refine jg ?_
    have B:=g
    refine wb rfl (j4 (l':=[.slice h.rp h.hs.length h.hs.length,.map (some r),.slice (some ⟨k,0,none⟩) h.vs.length h.vs.length]) gc g rfl rfl rfl rfl OneC.h fun cr g W c0=> ?_)
    have f:=f.gj W E
    have d:=d.gj W F
    have a:=a.gj W C
    have i:=i.gj W B
    have s:=s.gj W B
    have t:=aA t W.size
    have j:=j.gi W a3
    refine j5 ?_
    exact gr ((r),b3,k) rfl ⟨⟨s,I,i⟩,f,d,g,G,a,A,C.symm,j⟩
   refine Ba gc rfl fun b3 cs l g L=>⟨D.gb L,?_⟩
   have E:=j2 f.lt l
   have F:=j2 d.lt l
   have C:=j2 a.lt l
   have a3:=aA j.size l
   have G:=aA t l
   have a8:=aA D.size l
   have f:=f.ga L
   have d:=d.ga L
   have a:=a.ga L
   have i:=i.ga L
   have t:=aA t L.size
   have j:=j.gb L
   have D:=D.gb L
   refine qm [(12,false),qP 17] 0 rfl zk ?_
   have a7:=j
   refine jo rfl (st_mms gc idV IsId natV rfl fun r ct hr s M c1=>⟨D.gb M,?_⟩)
   have f:=f.ga M
   have d:=d.ga M
   have a:=a.ga M
   have g:=g.ga M
   have i:=i.ga M
   have t:=aA t M.size
   have j:=j.gb M
   have I:=aA a7.size hr
   refine xj0 gc rfl rfl ⟨⟨rfl,by decide⟩,⟨rfl,by decide⟩,⟨rfl,by decide⟩,trivial⟩ (l':=[.slice h.rp h.hs.length h.hs.length,.map (some r),.slice (some ⟨k,0,none⟩) h.vs.length h.vs.length]) rfl (jg ?_)
   have B:=g
   refine wb rfl (j4 (l':=[.slice h.rp h.hs.length h.hs.length,.map (some r),.slice (some ⟨k,0,none⟩) h.vs.length h.vs.length]) gc g rfl rfl rfl rfl OneC.h fun cu g X c2=> ?_)
   have f:=f.gj X E
   have d:=d.gj X F
   have a:=a.gj X C
   have i:=i.gj X B
   have s:=s.gj X B
   have t:=aA t X.size
   have j:=j.gi X a3
   refine j5 ?_
   exact gr ((r),b3,k) rfl ⟨⟨s,I,i⟩,f,d,g,G,a,A,C.symm,j⟩
  refine Ba gc rfl fun b3 cv l g Y=>⟨D.gb Y,?_⟩
  have E:=j2 f.lt l
  have F:=j2 d.lt l
  have a3:=aA j.size l
  have G:=aA t l
  have a8:=aA D.size l
  have f:=f.ga Y
  have d:=d.ga Y
  have i:=i.ga Y
  have t:=aA t Y.size
  have j:=j.gb Y
  have D:=D.gb Y
  refine qm [] 3 rfl zk (yd rfl (As [12,16] rfl zk ⟨⟨_,rfl,?_⟩,⟨_,rfl,?_⟩,trivial⟩))
  ·have a7:=j
   refine st_mms gc idV IsId natV rfl fun r cw hr s O c3=>⟨D.gb O,?_⟩
   have f:=f.ga O
   have d:=d.ga O
   have g:=g.ga O
   have i:=i.ga O
   have t:=aA t O.size
   have j:=j.gb O
   have D:=D.gb O
   have I:=aA a7.size hr
   refine qm [(16,false),qP 17] 0 rfl zk ?_
   refine jo rfl (zz4 gc rfl h.vs.length h.vs.length 40 rfl valZc rfl zd rfl rfl (aD _) zo zm fun k bm p a P c4=>⟨D.gb P,?_⟩)
   have q:=j2 g.lt p
   have A:=aA t p
   have S:=aA D.size p
   have f:=f.ga P
   have d:=d.ga P
   have g:=g.ga P
   have i:=i.ga P
   have s:=s.ga P
   have t:=aA t P.size
   have j:=j.gb P
   have a:gz bm k 129 (Cn h.vs.length (xm (([],[]),none,0))):=a
   refine xj0 gc rfl rfl ⟨⟨rfl,by decide⟩,⟨rfl,by decide⟩,⟨rfl,by decide⟩,trivial⟩ (l':=[.slice h.rp h.hs.length h.hs.length,.map (some r),.slice (some ⟨k,0,none⟩) h.vs.length h.vs.length]) rfl (jg ?_)
   have B:=g
   refine wb rfl (j4 (l':=[.slice h.rp h.hs.length h.hs.length,.map (some r),.slice (some ⟨k,0,none⟩) h.vs.length h.vs.length]) gc g rfl rfl rfl rfl OneC.h fun cx g Z c5=> ?_)
   have f:=f.gj Z E
   have d:=d.gj Z F
   have a:=a.gj Z q.symm
   have i:=i.gj Z B
   have s:=s.gj Z B
   have t:=aA t Z.size
   have j:=j.gi Z a3
   refine j5 ?_
   exact gr ((r),b3,k) rfl ⟨⟨s,I,i⟩,f,d,g,G,a,A,q,j⟩
  refine zz4 gc rfl h.vs.length h.vs.length 40 rfl valZc rfl zd rfl rfl (aD _) zo zm fun k bn p a Q c6=>⟨D.gb Q,?_⟩
  have q:=j2 g.lt p
  have A:=aA t p
  have S:=aA D.size p
  have f:=f.ga Q
  have d:=d.ga Q
  have g:=g.ga Q
  have i:=i.ga Q
  have t:=aA t Q.size
  have j:=j.gb Q
  have D:=D.gb Q
  have a:gz bn k 129 (Cn h.vs.length (xm (([],[]),none,0))):=a
  refine qm [(12,false),qP 17] 0 rfl zk ?_
  have a7:=j
  refine jo rfl (st_mms gc idV IsId natV rfl fun r cy hr s R c7=>⟨D.gb R,?_⟩)
  have f:=f.ga R
  have d:=d.ga R
  have g:=g.ga R
  have a:=a.ga R
  have i:=i.ga R
  have t:=aA t R.size
  have j:=j.gb R
  have I:=aA a7.size hr
  refine xj0 gc rfl rfl ⟨⟨rfl,by decide⟩,⟨rfl,by decide⟩,⟨rfl,by decide⟩,trivial⟩ (l':=[.slice h.rp h.hs.length h.hs.length,.map (some r),.slice (some ⟨k,0,none⟩) h.vs.length h.vs.length]) rfl (jg ?_)
  have B:=g
  refine wb rfl (j4 (l':=[.slice h.rp h.hs.length h.hs.length,.map (some r),.slice (some ⟨k,0,none⟩) h.vs.length h.vs.length]) gc g rfl rfl rfl rfl OneC.h fun cz g a0 c8=> ?_)
  have f:=f.gj a0 E
  have d:=d.gj a0 F
  have a:=a.gj a0 q.symm
  have i:=i.gj a0 B
  have s:=s.gj a0 B
  have t:=aA t a0.size
  have j:=j.gi a0 a3
  refine j5 ?_
  exact gr ((r),b3,k) rfl ⟨⟨s,I,i⟩,f,d,g,G,a,A,q,j⟩
 rintro⟨r,b3,k⟩ d0 ⟨⟨s,I,i⟩,f,d,g,l,a,p,q,j⟩
 try dsimp only
 dsimp only at g l a p q
 have af:b2≠k:=j2 av p
 have ap:=aA b5 p
 dsimp only at s I i
 refine gl (ki rfl (gu rfl (f.cell rfl) ?_))
 have bo:=j
 have d1:=s.lt
 have c9:=g.lt
 refine wl (st_rgO gc rfl i fun it N d2 bp hI a4=> ?_)
 have f:=f.ga a4
 have d:=d.ga a4
 have g:=g.ga a4
 have a:=a.ga a4
 have s:=s.ga a4
 have j:=j.gb a4
 have b7:=aA bo.size bp
 have b8:it≠r:=by omega
 have bq:∀r2,h.m=some r2→r2≠r:=fun r2 e e2=>by have:=hH r2 (hx.fm r2 e);omega
 refine qq (j8 ?_)
 refine jj (α:=List IdB) [1,2,3,26] rfl (fun z=>[]) (fun z u=>(zq2 u it h.m natV (placeOf (h.hs.map u3.id)) N z∧MapB u r natV (partM (placeOf (h.hs.map u3.id)) z))∧gz u b1 121 (h.c)∧gz u b2 121 ([.slice none 0 0,.map none,.slice none 0 0])∧gz u b3 121 ([.slice h.rp h.hs.length h.hs.length,.map (some r),.slice (some ⟨k,0,none⟩) h.vs.length h.vs.length])∧gz u k 129 (Cn h.vs.length (xm (([],[]),none,0)))∧Ext No w u) (fun z u=>N-z.length) ([]) rfl ⟨⟨hI,by rw[show partM (placeOf (h.hs.map u3.id)) []=fun _=>none from by funext x;simp[partM]];exact s⟩,f,d,g,a,j⟩ ?_
 rintro ak d3 ⟨⟨hI,s⟩,f,d,g,a,j⟩
 refine ko (wl (st_nxO rfl hI (fun b9=> ?_) (fun xk bk d4 br ag d5 ca bs ba a5 cb=> ?_)))
 ·refine j0 gc rfl ?_
  refine qq (gl (up rfl (Ak (ki rfl (j6 g rfl rfl (j0 gc rfl (j6 f rfl rfl ?_)))))))
  have aw:=a
  refine wl (zj1 gc rfl 2 rfl a (Src.slice (hx.vals.ga j) OneC.h) (aD _) (by rw[um];exact Nat.le_of_eq (bD _)) fun bt aq ah cc=> ?_)
  have a:gz bt k 129 (h.vs.flatMap xm):=by rw[Az (by rw[um,hx.vals.1];rfl)] at aq;exact aq
  have d:=d.gj ah af
  have g:=g.gj ah q
  have s:=s.gj ah aw
  have j:=j.gi ah ap
  refine qq (ko (je g rfl rfl ?_))
  have bb:=d
  refine wl (j4 (l':=[.slice h.rp h.hs.length h.hs.length,.map (some r),.slice (some ⟨k,0,none⟩) h.vs.length h.vs.length]) gc d rfl rfl rfl rfl OneC.h fun d6 d al cd=> ?_)
  have a:=a.gj al af.symm
  have s:=s.gj al bb
  have j:=j.gi al bg
  refine qq (j9 (qe [_] ⟨⟨b2,0,rfl,qg gc rfl rfl d.kj rfl⟩,trivial⟩ ?_))
  exact⟨⟨h.rp,h.hs.length,h.hs,some r,some ⟨k,0,none⟩,h.vs.length,h.vs⟩,rfl,rfl,rfl,⟨.inl ⟨rfl,hx.row.ga j,fun b bu e=>hH b (hx.fr b bu e)⟩,hx.fr.mono fun _=> .inl,⟨r,rfl,I,by rw[partM_all b9] at s;exact s⟩,k8.blk a ap (hx.vals.1) zm,fun x h'=>((hx.o x h').ext j fun _ _=>_root_.id).mono fun _=> .inl,fun x h'=>((hx.v x h').ext j fun _ _=>_root_.id).mono fun _=> .inl,hx.few,hx.fev,fun y hy=> .inr hy⟩,j⟩
 have f:=f.gj a5 (hI.neB f).1.symm
 have d:=d.gj a5 (hI.neB d).1.symm
 have g:=g.gj a5 (hI.neB g).1.symm
 have a:=a.gj a5 (hI.neB a).1.symm
 have s:=s.ext a5 b8.symm
 have hI:=bs
 have j:=j.gi a5 b7
 refine km rfl (gl (Cl rfl (x3 (j8 (ko ?_)))))
 obtain⟨rr,_,bc⟩:=ba
 refine wl (st_en rfl bc (j0 gc rfl (gw rfl fun b4 d7 am an a1=> ?_)))
 have ax:=j2 f.lt am
 have ay:=j2 d.lt am
 have az:=j2 g.lt am
 have ao:=j2 a.lt am
 have bv:=aA j.size am
 have f:=f.ga a1
 have d:=d.ga a1
 have g:=g.ga a1
 have a:=a.ga a1
 have s:=s.ga a1
 have hI:=hI.ga a1
 have j:=j.gb a1
 have ar:=an
 refine wl (j4 (l':=ge xk) gc an rfl rfl (by rw[gm];exact ag) (by rw[gm,ag];rfl) OneC.h fun d8 an a2 ce=> ?_)
 have f:=f.gj a2 ax
 have d:=d.gj a2 ay
 have g:=g.gj a2 az
 have a:=a.gj a2 ao
 have s:=s.gj a2 ar
 have hI:=hI.gj a2 ar
 have j:=j.gi a2 bv
 refine km rfl (yl rfl (j6 g rfl rfl (je an rfl (by rw[gm];exact ag) (j0 gc rfl ?_))))
 refine wl (st_mu gc rfl idK ag rfl s (b:=bk) rfl fun d9 bd a6 cf=> ?_)
 rw[partM_step br] at bd
 have f:=f.xy s a6
 have d:=d.xy s a6
 have g:=g.xy s a6
 have a:=a.xy s a6
 have hI:=hI.ext a6 b8 bq
 have j:=j.gi a6 I
 refine gk ?_
 exact js (jk (ak++[xk]) rfl ⟨⟨hI,bd⟩,f,d,g,a,j⟩ (by rw[aB];show N-(ak.length+1)<N-ak.length;omega))
end Go.Proofs.YtpdiphfjmepijaaGreatDoor
namespace Go.Vc
section
variable {P:Program} {I:u0} {f:Fs} {ops:Array Oper} {o:Oper} {env:Env} {w:World} {K:Env→World→Prop}
def capE (I:u0) (n:Nat) (ops:Array Oper) (env:Env) (o:Oper):Option (Nat×Nat):=
  match pre n ops env o with
  |false=>none
  |true=>match o.dst with
    |some d=>match o.op with
      | .call {callee:= .builtin .cap,args:=xs,argTypes:=ts}=>match xs.toList with
        | [x]=>match ts.toList with
          | [t]=>match yn I t with
            |some y=>match y.desc with
              | .slice _=>match xh env x with
                |some (.slice _ _ c)=>some (c,d)
                |_=>none
              |_=>none
            |none=>none
          |_=>none
        |_=>none
      |_=>none
    |none=>none
theorem st_cap (hI:I.Ok P) {c d:Nat} (h:capE I f.n ops env o=some (c,d)) (k:K ((d,.int .i64 (c:Int))::env) w):St P f ops o env w K:=by
 unfold capE at h
 split at h
 ·cases h
 rename_i j
 obtain⟨l,m⟩:=pre_eq j
 split at h
 ·rename_i F q
  split at h
  ·rename_i r s a
   split at h
   ·rename_i x b
    split at h
    ·rename_i t g
     split at h
     ·rename_i y u
      split at h
      ·rename_i e z
       split at h
       ·rename_i p n G A
        cases h
        have i:=(hI.get u).under w
        rw[z] at i
        have B:r= #[x]:=by rw[←b]
        have C:s= #[t]:=by rw[←g]
        subst B C
        have D:(Builtin.cap_ #[t] o.type #[.slice p n c]).run P w= .ok (.int .i64 (c:Int)) w:=by
         unfold Builtin.cap_
         simp only[bT,cN]
         rw[jc i]
         rfl
        refine yg l m (v:= .int .i64 (c:Int)) (w':=w) (fun H E=> ?_) (by rw[q];exact k)
        unfold execOp
        simp only[a,resolve,invoke,builtin,aK,aT,aF,List.map_toArray,dL,List.map_nil,E _ _ A,D]
       cases h
      cases h
     cases h
    cases h
   cases h
  cases h
 cases h
theorem run_app0 (hI:I.Ok P) {t t2 ty e:Nat} {y y2 g:TI} {kk:IntKind} (hy:yn I t=some y) (he:y.desc= .slice e) (hg:yn I e=some g) (hy2:yn I t2=some y2) (hd2:y2.desc= .int kk)
  (hz:(cellsOf g.zero).length=g.size) (hz0:0<g.size) {p:Option Addr} {n c:Nat} {xs:List Value} (hsl:Sl w p n g.size xs) {m:Nat}
  (hm:n+m≤maxLen) (hb:(n+m)*g.bytes≤140737488355328) (hgr:c<n+m) (kx:IntKind):
  ∃c' w',(Builtin.append_ #[t,t2] ty #[.slice p n c,.int kx (m:Int)]).run P w= .ok (.slice (some ⟨w.heap.size,0,none⟩) (n+m) c') w'∧Own w' (some ⟨w.heap.size,0,none⟩) (n+m) c' e g.size (xs++Cn m (cellsOf g.zero))∧Ext No w w':=by
 have H:=(hI.get hy).under w
 rw[he] at H
 have K:=(hI.get hg).sizeOf w
 have k:=(hI.get hy2).under w
 rw[hd2] at k
 obtain⟨i,L,N,J,O⟩:=TI.Ok.info (hI.get hg)
 have d:=hsl.1
 unfold maxLen at hm
 have f:∀w:World,(typeInfo e).run P w= .ok i w:=fun w=>by unfold typeInfo;simp[L]
 have u:IntKind.i64.wrap (m:Int)=(m:Int):=jz _ zo
 have l:¬(n+m≤c):=by omega
 have v:¬((n+m:Nat):Int)>IntKind.i64.max:=by
  show¬((n+m:Nat):Int)>2^(64-1)-1
  omega
 have x:¬Builtin.nextslicecap (n+m) c*i.bytes>2^48:=by
  have:=growslice_fits (need:=n+m) (old:=c) (bytes:=i.bytes) zo (by rw[J];exact hb)
  simp only[gt_iff_lt,Nat.not_lt]
  exact this
 have z:¬(m:Int)*(i.bytes:Int)>2^48:=by
  have Q:m*i.bytes≤(n+m)*g.bytes:=by rw[J];exact cM _ zo
  have M:((m*i.bytes:Nat):Int)≤140737488355328:=by omega
  rw[Int.natCast_mul] at M
  omega
 have o:¬(m:Int)<0:=by omega
 have A:(choose (.appendCap (n+m) c e)).run P w= .ok (grownCap w (n+m) c e) w.drew:=by
  simp[Question.forced,grownCap]
 have q:(Builtin.firstCells g.size n (.slice p n c)).run P w.drew= .ok xs.toArray w.drew:=by
  rcases hsl.2 with j|⟨b,r,rfl,B⟩
  ·have:xs=[]:=by rw[j] at d;simpa using d
   subst this;subst j
   cases p with
   |none=>rfl
   |some a=>
    unfold Builtin.firstCells loadCells
    rw[cW]
    rfl
  have C:Seg w.drew b (r+0) xs:=B
  have:=vh (P:=P) (n*g.size) 0 xs #[] C d
  show(loadCellsFrom ⟨b,r,none⟩ 0 (n*g.size) #[]).run P w.drew=_
  rw[this]
  simp
 have D:n+m≤grownCap w (n+m) c e:=by
  unfold grownCap Question.cut
  exact Nat.le_add_right _ _
 have E:grownCap w (n+m) c e≤maxLen:=grownCap_le_maxLen w _ _ _ zr
 have F:¬m*g.size=0∨m=0:=by
  rcases Nat.eq_zero_or_pos m with h|h
  ·exact .inr h
  exact .inl (by have:=Nat.mul_pos h hz0;omega)
 refine⟨grownCap w (n+m) c e,w.drew.alloc (.cells (xs++Cn m (cellsOf g.zero)++Cn (grownCap w (n+m) c e-(n+m)) (cellsOf g.zero)).toArray e),?_,.inr ⟨_,_,rfl,Cc w.drew _ e,?_,D,E,?_⟩,?_⟩
 ·unfold Builtin.append_
  simp only[bT,cN,List.getElem?_cons_succ]
  rw[jc H]
  simp only[]
  rw[aK,K,aF]
  rw[jc k]
  have G:∀w:World,(asInt (.int kx (m:Int))).run P w= .ok (m:Int) w:=fun _=>rfl
  simp only[pure_bind,cO,aK,G,aF,u,Sem.run_ite,o,cX,f,z,aT,cC,l,v,false_and,x,A,run_askRoom,q,(hI.get hg).zeroValue,Bool.not_true,bI,newRow,run_newObj]
  have s:g.zero.cells=(cellsOf g.zero).toArray:=by rw[←xn]
  rcases F with j|j
  ·rw[aP j]
   simp only[aK,(hI.get hg).zeroValue,aT,aF,s,Bg _ _ (show 0<(cellsOf g.zero).length by omega),List.append_toArray]
   rfl
  subst j
  simp only[cW,cO,aT,aF,s,Bg _ _ (show 0<(cellsOf g.zero).length by omega)]
  simp only[Cn,List.replicate_zero,List.flatten_nil,bK,Array.append_empty,List.append_toArray]
  rfl
 ·rw[aB,aB,um,um,hz,d,←cQ,←cQ]
  congr 1
  omega
 ·rw[cQ,←d,←hz,←um,←aB,List.take_left]
 exact(Ext.drew w).then (Ext.alloc w.drew _ e)
structure App0Args where
  p:Option Addr
  n:Nat
  c:Nat
  e:Nat
  g:TI
  x:Int
  d:Nat
def app0E (I:u0) (n:Nat) (ops:Array Oper) (env:Env) (o:Oper):Option App0Args:=
  match pre n ops env o with
  |false=>none
  |true=>match o.dst with
    |some d=>match o.op with
      | .call {callee:= .builtin .append,args:=xs,argTypes:=ts}=>match xs.toList with
        | [s,x]=>match ts.toList with
          | [t,t2]=>match yn I t with
            |some y=>match y.desc with
              | .slice e=>match yn I e with
                |some g=>match yn I t2 with
                  |some y2=>match y2.desc with
                    | .int _=>match xh env s with
                      |some (.slice p m c)=>match xh env x with
                        |some (.int _ q)=>some ⟨p,m,c,e,g,q,d⟩
                        |_=>none
                      |_=>none
                    |_=>none
                  |none=>none
                |none=>none
              |_=>none
            |none=>none
          |_=>none
        |_=>none
      |_=>none
    |none=>none
theorem st_app0 (hI:I.Ok P) {s:App0Args} (h:app0E I f.n ops env o=some s) (sz by_:Nat) (hsz:s.g.size=sz) (hby:s.g.bytes=by_) {zs:List Value} (hzs:cellsOf s.g.zero=zs) (hz:zs.length=sz) (hz0:0<sz) {xs:List Value} (hsl:Sl w s.p s.n sz xs) (m:Nat) (hxm:s.x=(m:Int))
  (hm:s.n+m≤maxLen) (hb:(s.n+m)*by_≤140737488355328) (hgr:s.c<s.n+m)
  (k:∀b c' w',w.heap.size≤b→Own w' (some ⟨b,0,none⟩) (s.n+m) c' s.e sz (xs++Cn m zs)→Ext No w w'→K ((s.d,.slice (some ⟨b,0,none⟩) (s.n+m) c')::env) w'):St P f ops o env w K:=by
 subst hsz
 subst hby
 subst hzs
 unfold app0E at h
 split at h
 ·cases h
 rename_i F
 obtain⟨G,H⟩:=pre_eq F
 split at h
 ·rename_i X J
  split at h
  ·rename_i i L M
   split at h
   ·rename_i B C j
    have l:i= #[B,C]:=by apply cH;simpa using j
    subst l
    split at h
    ·rename_i t N r
     have u:L= #[t,N]:=by apply cH;simpa using r
     subst u
     split at h
     ·rename_i y O
      split at h
      ·rename_i e Q
       split at h
       ·rename_i g R
        split at h
        ·rename_i Y z
         split at h
         ·rename_i Z A
          split at h
          ·rename_i p n c S
           split at h
           ·rename_i D q T
            cases h
            simp only at*
            subst hxm
            obtain⟨c',w',U,a,V⟩:=run_app0 (P:=P) (ty:=o.type) hI O Q R z A hz hz0 hsl hm hb hgr D
            refine yg G H (v:= .slice (some ⟨w.heap.size,0,none⟩) (n+m) c') (w':=w') (fun ρ E=> ?_) (by rw[J];exact k _ c' w' (aD _) a V)
            have W:Array.map ρ #[B,C]= #[.slice p n c,.int D (m:Int)]:=by simp[E _ _ S,E _ _ T]
            simp only[execOp,M,resolve,aK,aT,aF,invoke,builtin,W,U]
           cases h
          cases h
         cases h
        cases h
       cases h
      cases h
     cases h
    cases h
   cases h
  cases h
 cases h
theorem st_extn {x:Operand} {xs:Array Operand} {ts:Array TypeId} {g:FuncId} {vs:List Value} {v:Value} {w':World} (ho:o.op= .call {callee:= .value x,args:=xs,argTypes:=ts}) (hg:takes ops env o=true) {d:Nat} (hd:o.dst=some d) (hdn:Nat.blt d f.n=true)
  (hx:xh env x=some (.func (.func g) #[] #[])) (hvs:evs env xs.toList=some vs) (hr:(callFunc g vs.toArray).run P w= .ok (.value v) w') (k:K ((d,v)::env) w'):St P f ops o env w K:=by
 refine yg (o:=o) (v:=v) (w':=w') hg (by rw[hd];exact hdn) (fun ρ hρ=> ?_) (by rw[hd];exact k)
 have hevs:∀(l:List Operand) vs,evs env l=some vs→l.map ρ=vs:=by
  intro l
  induction l with
  |nil=>intro vs h;simp[evs] at h;subst h;rfl
  |cons y r ih=>
   intro vs h
   simp only[evs] at h
   split at h
   ·rename_i u hu
    split at h
    ·rename_i l' hl'
     simp at h;subst h
     simp[hρ _ _ hu,ih _ hl']
    simp at h
   simp at h
 have h1:xs.map ρ=vs.toArray:=by
  apply cH
  rw[Array.toList_map,hevs _ _ hvs]
 simp only[execOp,ho,resolve,h1,hρ _ _ hx,Deferred.ofValue,aK,aT,aF,invoke,Array.empty_append,Array.append_empty,hr]
end
section
variable {P:Program} {I:u0} {f:Fs} {ops:Array Oper} {o:Oper} {env:Env} {w:World}
def eqPE (n:Nat) (ops:Array Oper) (env:Env) (o:Oper):Option (Nat×Bool×Addr×Addr×Nat):=
  match pre n ops env o with
  |false=>none
  |true=>match o.dst with
    |some d=>match o.op with
      | .binOp op t x y _=>match xh env x with
        |some (.pointer (some a))=>match xh env y with
          |some (.pointer (some b))=>match op with
            | .eql=>some (t,true,a,b,d)
            | .neq=>some (t,false,a,b,d)
            |_=>none
          |_=>none
        |_=>none
      |_=>none
    |none=>none
end
section
variable {P:Program} {I:u0} {f:Fs} {ops:Array Oper} {o:Oper} {env:Env} {w:World}
structure ClArgs where
  p:Option Addr
  n:Nat
  g:TI
def clE (I:u0) (n:Nat) (ops:Array Oper) (env:Env) (o:Oper):Option ClArgs:=
  match pre n ops env o with
  |false=>none
  |true=>match o.dst with
    |none=>match o.op with
      | .call {callee:= .builtin .clear,args:=xs,argTypes:=ts}=>match xs.toList with
        | [s]=>match ts.toList with
          | [t]=>match yn I t with
            |some y=>match y.desc with
              | .slice e=>match yn I e with
                |some g=>match xh env s with
                  |some (.slice p m _)=>some ⟨p,m,g⟩
                  |_=>none
                |none=>none
              |_=>none
            |none=>none
          |_=>none
        |_=>none
      |_=>none
    |some _=>none
theorem st_cl {K:Env→World→Prop} (hI:I.Ok P) {s:ClArgs} (h:clE I f.n ops env o=some s) {zs:List Value} (hz:cellsOf s.g.zero=zs) (hzl:0<zs.length) (h1:∀v∈zs,v.oneCell'=true)
  (k0:s.n=0→K env w)
  (k:0<s.n→∃b off T l,s.p=some ⟨b,off,none⟩∧gz w b T l∧off+s.n*zs.length≤l.length∧∀w',gz w' b T (put l off (Cn s.n zs))→Ext (One b) w w'→w'.heap.size=w.heap.size→K env w'):St P f ops o env w K:=by
 subst hz
 unfold clE at h
 split at h
 ·cases h
 rename_i W
 obtain⟨Q,R⟩:=pre_eq W
 split at h
 ·rename_i S
  split at h
  ·rename_i u X U
   split at h
   ·rename_i d z
    have A:u= #[d]:=by apply cH;simpa using z
    subst A
    split at h
    ·rename_i t B
     have C:X= #[t]:=by apply cH;simpa using B
     subst C
     split at h
     ·rename_i y Y
      split at h
      ·rename_i e Z
       split at h
       ·rename_i g hg
        split at h
        ·rename_i p n c V
         cases h
         simp only at*
         have D:=(hI.get Y).under w
         rw[Z] at D
         have E:=(hI.get hg).zeroValue w
         have q:Array.map (fun x=>x) #[d]= #[d]:=by simp
         rcases Nat.eq_zero_or_pos n with F|F
         ·subst F
          refine yg Q R (v:= .tuple #[]) (w':=w) (fun ρ G=> ?_) (by rw[S];exact k0 rfl)
          have q:Array.map ρ #[d]= #[.slice p 0 c]:=by simp[G _ _ V]
          have a:(Builtin.clear_ #[t] o.type #[.slice p 0 c]).run P w= .ok (.tuple #[]) w:=by
           unfold Builtin.clear_
           simp only[bT,cN]
           rw[jc D]
           cases p<;>simp
          simp only[execOp,U,resolve,aK,aT,aF,invoke,builtin,q,a]
         obtain⟨b,off,T,l,rfl,i,H,kk⟩:=k F
         have J:(Cn n (cellsOf g.zero)).length=n*(cellsOf g.zero).length:=um _ _
         obtain⟨w',L,M,hE,N⟩:=vq (P:=P) (Cn n (cellsOf g.zero)) w l off 0 i (by rw[J];omega) (fun v j=>by
          unfold Cn at j
          obtain⟨r,L,j⟩:=List.mem_flatten.1 j
          rw[(List.mem_replicate.1 L).2] at j
          exact h1 v j)
         refine yg Q R (v:= .tuple #[]) (w':=w') (fun ρ G=> ?_) (by rw[S];exact kk w' M hE N)
         have q:Array.map ρ #[d]= #[.slice (some ⟨b,off,none⟩) n c]:=by simp[G _ _ V]
         have O:(Builtin.zeroCells g.zero.cells n).toList=Cn n (cellsOf g.zero):=by
          rw[show g.zero.cells=(cellsOf g.zero).toArray from by rw[←xn],Bg _ _ hzl]
         have a:(Builtin.clear_ #[t] o.type #[.slice (some ⟨b,off,none⟩) n c]).run P w= .ok (.tuple #[]) w':=by
          unfold Builtin.clear_
          simp only[bT,cN]
          rw[jc D]
          obtain⟨m,rfl⟩:∃m,n=m+1:=⟨n-1,by omega⟩
          simp only[aK,E,aF,O,L,aT]
         simp only[execOp,U,resolve,aK,aT,aF,invoke,builtin,q,a]
        cases h
       cases h
      cases h
     cases h
    cases h
   cases h
  cases h
 cases h
end
end Go.Vc
namespace Go.Proofs.YtpdiphfjmepijaaGreatDoor
open Go.Proofs.Tryz
open Go.Vc
theorem ownCut {w:World} {p:Option Addr} {n c T sz:Nat} {xs:List Value} (h:Own w p n c T sz xs) {i:Nat} (hi:i≤n):Own w p i c T sz (xs.take (i*sz)):=by
 rcases h with⟨a,e,d,f⟩|⟨b,l,a,e,d,f,g,j⟩
 ·refine .inl ⟨a,by omega,d,by rw[f];simp⟩
 exact .inr ⟨b,l,a,e,d,by omega,g,by rw[←j,List.take_take,bP (cM _ hi)]⟩
theorem vals_take (vs:List Bt) (i:Nat) (hi:i≤vs.length):(vs.flatMap xm).take (i*2)=(vs.take i).flatMap xm:=by
 rw[←cS i vs,bC,dG (by rw[yw1 fun x _=>Bi x,aL,bP hi]),cS]
theorem vals_drop (vs:List Bt) (i:Nat) (hi:i≤vs.length):(vs.flatMap xm).drop (i*2)=(vs.drop i).flatMap xm:=by
 conv=>lhs;rw[←cS i vs,bC,List.drop_left' (by rw[yw1 fun x _=>Bi x,aL,bP hi])]
theorem yw5 (vs:List Bt):(vs.flatMap xm).length=vs.length*2:=yw1 fun x _=>Bi x
theorem Sl.vdrop {w:World} {p:Option Addr} {vs:List Bt} (h:Sl w p vs.length 2 (vs.flatMap xm)) {i c:Nat} (hi:i≤vs.length) (hc:vs.length≤c):Sl w (u6 p i c 2) (vs.length-i) 2 ((vs.drop i).flatMap xm):=by
 have:=h.slice i vs.length c hi hc (aD _)
 rw[vals_drop vs i hi,aO (by rw[yw5,aX];exact aD _)] at this
 exact this
theorem ins_fit {l A B X:List Value} {i n:Nat} (h:l.take (n*2)=A++B) (hA:A.length=i*2) (hB:B.length=(n-i)*2) (hX:X.length=2) (hi:i≤n) (hl:(n+1)*2≤l.length):(put (put l ((i+1)*2) B) (i*2) X).take ((n+1)*2)=A++X++B:=by
 have a:l.take (i*2)=A:=by
  have:(l.take (n*2)).take (i*2)=A:=by rw[h,dG hA]
  rw[List.take_take,bP zo] at this
  exact this
 have b:put l ((i+1)*2) B=l.take ((i+1)*2)++B++l.drop ((i+1)*2+B.length):=put_eq _ _ _ zo
 have c:(l.take ((i+1)*2)).length=(i+1)*2:=by rw[aL];omega
 rw[put_eq _ _ _ (by rw[x5];omega),b,hX,show i*2+2=(i+1)*2 from by omega]
 rw[show(l.take ((i+1)*2)++B++l.drop ((i+1)*2+B.length)).drop ((i+1)*2)=B++l.drop ((i+1)*2+B.length) from by rw[aV,List.drop_left' c]]
 rw[show(l.take ((i+1)*2)++B++l.drop ((i+1)*2+B.length)).take (i*2)=A from by rw[aV,List.take_append_of_le_length zo,List.take_take,bP zo,a]]
 rw[←aV,dG (by rw[aB,aB,hA,hX,hB];omega)]
theorem ins_grow {l A B X:List Value} {i n:Nat} (h:l.take (i*2)=A) (hA:A.length=i*2) (hB:B.length=(n-i)*2) (hX:X.length=2) (hi:i≤n) (hl:(n+1)*2≤l.length):(put (put l (i*2) X) ((i+1)*2) B).take ((n+1)*2)=A++X++B:=by
 have b:put l (i*2) X=A++X++l.drop ((i+1)*2):=by rw[put_eq _ _ _ zo,h,hX,show i*2+2=(i+1)*2 from by omega]
 rw[put_eq _ _ _ (by rw[x5];omega),b]
 have a:(A++X).length=(i+1)*2:=by rw[aB,hA,hX];omega
 rw[dG a,dG (by rw[aB,a,hB];omega)]
theorem put_lo {l vs:List Value} {k:Nat} (h:k+vs.length≤l.length):(put l k vs).take k=l.take k:=by
 rw[put_eq _ _ _ h,aV,dG zl]
theorem vdelete_calls (w:World) {W:World} (hW:Ext No W w) {p:Option Addr} {c:Nat} {vs:List Bt} (hq:k8 W w p vs.length c 129 2 (vs.flatMap xm)) (hl:vs.length<1000000) {i:Nat} (hi:i<vs.length):
  gn prog 186 [.slice p vs.length c,.int .i64 (i:Int),.int .i64 ((i+1:Nat):Int)] w fun v w'=>∃q k,v= .slice q (vs.take i++vs.drop (i+1)).length k∧k8 W w' q (vs.take i++vs.drop (i+1)).length k 129 2 ((vs.take i++vs.drop (i+1)).flatMap xm)∧Ext (jb p) w w':=by
 have b:=hq.own.cap
 obtain⟨o,V,g,C,I,D,r,E⟩:=hq.own.opened zo
 have j:(vs.take i++vs.drop (i+1)).length=i+(vs.length-(i+1)):=by rw[aB,aL,aX,bP zo]
 refine gx func186 ?_
 have d:=Ext.refl (jb p) w
 refine jd rfl (ki rfl (wl (zv gc rfl i (i+1) vs.length 2 rfl (.inl ⟨rfl,rfl⟩) (.inl rfl) (.inl rfl) zo zo b (qq (gl (gl ?_))))))
 refine gy (km rfl (jl rfl (fun F=> ?_) (fun F=> ?_)))
 ·exact absurd F zo
 refine kc ?_
 refine jp (jd rfl (gl (jr rfl 8 [qP 0,qP 1,qP 2,qP 3,qP 4,qP 5,(6,false),qP 7] [] (jb p) zk fun J f K=> ?_)))
 have hq:=hq.ga f
 have d:=d.gb f
 have L:Ext (jb p) _ J:=f.no
 refine gt gc 2 rfl (D8 gc rfl rfl 0 i c 2 rfl (.inr ⟨rfl,rfl⟩) (.inl rfl) (.inr ⟨rfl,rfl⟩) (aJ _) zo (aD _) ?_)
 rw[jw,bB,bB]
 refine gt gc 2 rfl (D8 gc rfl rfl (i+1) vs.length c 2 rfl (.inr ⟨rfl,rfl⟩) (.inr ⟨rfl,rfl⟩) (.inl rfl) zo b (aD _) ?_)
 refine jo rfl (st_appC gc rfl 2 40 rfl rfl rfl zd (ownCut hq.own (i:=i) zo) (Src.slice (Sl.vdrop hq.sl (i:=i+1) zo b) OneC.h) zm zn fun G m M s a=>⟨a.elim (fun h=>L.then h.2.2.2) (fun h=>absurd h.1 zn),?_⟩)
 dsimp only at s a
 obtain⟨_,N,O,t⟩:_∧G=p∧m=c∧Ext (jb p) _ _:=a.elim id fun h=>absurd h.1 zo
 subst N;subst O
 have d:=d.then t
 rw[vals_take vs i zo,←bC] at s
 obtain⟨l,u,x,z,A⟩:∃l,gz M o 129 l∧l.length=m*2∧i+(vs.length-(i+1))≤m∧l.take ((i+(vs.length-(i+1)))*2)=(vs.take i++vs.drop (i+1)).flatMap xm:=by
  rcases s with⟨h,_⟩|⟨X,l,H,P,Q,R,_,S⟩
  ·rw[g] at h;cases h
  rw[g] at H;cases H;exact⟨l,P,Q,R,S⟩
 refine gt gc 1 rfl (jg (j5 (jp (ki rfl (wl (zv gc rfl (i+(vs.length-(i+1))) vs.length m 2 rfl (.inr ⟨rfl,rfl⟩) (.inl rfl) (.inl rfl) zo zo (aD _) ?_))))))
 refine wl (st_cl gc rfl valZc zd OneC.h (fun T=>absurd T (by show vs.length-(i+(vs.length-(i+1)))≠0;omega)) fun _=>⟨o,(i+(vs.length-(i+1)))*2,_,l,by dsimp only;rw[g,yr zo,bD],u,by show(i+(vs.length-(i+1)))*2+(vs.length-(i+(vs.length-(i+1))))*2≤_;omega,fun Y n B U=> ?_⟩)
 have d:=d.then (B.mono fun y _ e=>by have e:y=o:=e;rw[e];exact g)
 refine qq (jd rfl (j9 (gv rfl rfl ?_)))
 exact⟨G,m,by rw[j],⟨by rw[j];exact .inr ⟨o,_,g,n,by rw[x5];exact x,z,r,by rw[put_lo (by show _+(Cn (vs.length-(i+(vs.length-(i+1)))) _).length≤_;rw[um,Bi];omega)];exact A⟩,hq.new⟩,d⟩
theorem v_over (w:World) {bv pb ov op la ca lb cb T1 T2:Nat} {l1 l2:List Value} (hv:gz w bv T1 l1) (hp:gz w pb T2 l2) (hne:bv≠pb) (hl:l2≠[]):
  (callFunc 216 #[.slice (some ⟨bv,ov,none⟩) la ca,.slice (some ⟨pb,op,none⟩) lb cb]).run prog w= .ok (.value (.bool false)) w:=by
 rw[run_callFunc_extern func216 zk zk zk (e:=Extern.SlicesOverlaps.overlaps #[119,119] #[4]) zk]
 have a:∀w,(Go.sizeOf 129).run prog w= .ok 2 w:=fun w=>(gc.get (t:=129) rfl).sizeOf (w:=w)
 have b:w.shape? bv=some (T1,l1.length):=by unfold gz at hv;simp[World.shape?,hv]
 have c:w.shape? pb=some (T2,l2.length):=by unfold gz at hp;simp[World.shape?,hp]
 rw[Lib.run_overlaps_apart w 119 4 129 Tryz.underlying119 2 a ⟨bv,ov,none⟩ ⟨pb,op,none⟩ la ca lb cb hne T1 T2 l1.length l2.length b c (fun e=>hl (aZ e)) (hv.free _ rfl) (hv.free _ rfl)]
 rfl
theorem vinsert_calls (w:World) {W:World} (hW:Ext No W w) {p:Option Addr} {c:Nat} {vs:List Bt} (hq:k8 W w p vs.length c 129 2 (vs.flatMap xm)) (hl:vs.length<1000000) {i:Nat} (hi:i≤vs.length) {bv:Nat} {x:Bt} (hv:gz w bv 129 (xm x)) (hne:∀y,jb p y→y≠bv):
  gn prog 187 [.slice p vs.length c,.int .i64 (i:Int),.slice (some ⟨bv,0,none⟩) 1 1] w fun v w'=>∃q k,v= .slice q (vs.take i++x::vs.drop i).length k∧k8 W w' q (vs.take i++x::vs.drop i).length k 129 2 ((vs.take i++x::vs.drop i).flatMap xm)∧Ext (jb p) w w':=by
 have f:=hq.own.cap
 have g:(vs.take i++x::vs.drop i).length=vs.length+1:=by rw[aB,aW,aL,aX,bP hi];omega
 have O:((vs.take i).flatMap xm).length=i*2:=by rw[yw5,aL,bP hi]
 have hB:((vs.drop i).flatMap xm).length=(vs.length-i)*2:=by rw[yw5,aX]
 have P:(vs.flatMap xm).take (vs.length*2)=(vs.take i).flatMap xm++(vs.drop i).flatMap xm:=by rw[←bC,cS,aO (by rw[yw5];exact aD _)]
 have u:(vs.take i++x::vs.drop i).flatMap xm=(vs.take i).flatMap xm++xm x++(vs.drop i).flatMap xm:=by rw[bC,dI,aV]
 refine gx func187 ?_
 have b:=Ext.refl (jb p) w
 refine jd rfl (ki rfl (wl (zv gc rfl i vs.length c 2 rfl (.inr ⟨rfl,rfl⟩) (.inr ⟨rfl,rfl⟩) (.inl rfl) hi f (aD _) (qq (ko ?_)))))
 refine km rfl (gl (jd rfl (jl rfl (fun o=> ?_) (fun o=> ?_))))
 ·exact absurd o zd
 refine kc ?_
 refine jp (jd rfl (gl (jd rfl (jl rfl (fun o=> ?_) (fun o=> ?_)))))
 ·have h0:i=vs.length:=by omega
  have e1:vs.take i=vs:=by rw[h0];exact bZ
  have e2:vs.drop i=[]:=by rw[h0];exact List.drop_length
  refine ki rfl ?_
  have a0:=hq.own
  refine wl (xj gc rfl 2 40 rfl rfl rfl zd hq (Src.slice (m:=1) ⟨rfl,.inr ⟨bv,0,rfl,hv.kj⟩⟩ OneC.h) zm zn (n':=(vs.take i++x::vs.drop i).length) (ys:=(vs.take i++x::vs.drop i).flatMap xm) (by rw[g]) (by rw[u,e1,e2];simp) hW fun q k w1 G H a1=> ?_)
  dsimp only at G H
  have b:=b.then H
  refine vr rfl (j7 (gv rfl rfl ?_))
  exact⟨q,k,rfl,G,b⟩
 have a2:i<vs.length:=by omega
 refine x3 (gl (ki rfl ?_))
 rw[jz _ zo]
 refine wl (st_cap gc rfl (km rfl (jl rfl (fun o=> ?_) (fun o=> ?_))))
 ·have a3:c<vs.length+1:=by omega
  refine ki rfl (wl (zv gc rfl 0 i c 2 rfl (.inr ⟨rfl,rfl⟩) (.inl rfl) (.inr ⟨rfl,rfl⟩) (aJ _) zo (aD _) ?_))
  rw[jw,bB,bB]
  refine j0 gc rfl ?_
  rw[show IntKind.i64.wrap (IntKind.i64.wrap ((vs.length:Int)+((1:Nat):Int))-(i:Int))=((vs.length+1-i:Nat):Int) from by rw[jz ((vs.length:Int)+((1:Nat):Int)) zo,jz _ zo];omega]
  have I:=b
  have Q:=hq
  have R:=hW
  refine wl (st_app0 gc rfl 2 40 rfl rfl valZc rfl zd (ownCut hq.own hi).sl (vs.length+1-i) rfl zm zn zn fun t F w2 a4 ho z=> ?_)
  have hq:=hq.ga z
  have hv:=hv.ga z
  have b:=b.gb z
  dsimp only at ho
  obtain⟨l,a,A,J,B,C⟩:∃l,gz w2 t 129 l∧l.length=F*2∧i+(vs.length+1-i)≤F∧F≤maxLen∧l.take (i*2)=(vs.take i).flatMap xm:=by
   rcases ho with⟨h,_⟩|⟨b',l,h1,h2,h3,h4,h5,h6⟩
   ·cases h
   cases h1
   refine⟨l,h2,h3,h4,h5,?_⟩
   have:=congrArg (List.take (i*2)) h6
   rw[List.take_take,bP zo,vals_take vs i hi,dG O] at this
   exact this
  have j:(vs.length+1)*2≤l.length:=by omega
  refine km rfl (ki rfl (wl (zv gc rfl i (i+(vs.length+1-i)) F 2 rfl (.inr ⟨rfl,rfl⟩) (.inr ⟨rfl,rfl⟩) (.inl rfl) zo J (aD _) ?_)))
  rw[yr zo,bD]
  refine j0 gc rfl (wl (zj1 gc rfl 2 rfl a (Src.slice (m:=1) ⟨rfl,.inr ⟨bv,0,rfl,hv.kj⟩⟩ OneC.h) zf zf fun w3 S K a5=> ?_))
  have b:=b.trans K fun y L e=>by have e:y=t:=e;have:=I.size;omega
  have hq:=k8.mk (hq.own.ext K fun y L e=>by have e:y=t:=e;have:=Q.own.lt L;omega) hq.new
  have a:=S
  refine qq (gl (jr rfl 9 [qP 0,qP 1,qP 2,qP 3,qP 4,qP 5,qP 6,qP 7,(8,false)] [] (One t) zk fun w4 r a6=> ?_))
  have hq:=hq.ga r
  have a:=a.ga r
  have b:=b.gb r
  have T:Ext (One t) _ w4:=r.no
  refine gt gc 4 rfl ?_
  rw[jz _ zo]
  refine D8 gc rfl rfl (i+1) (i+(vs.length+1-i)) F 2 rfl (.inr ⟨rfl,rfl⟩) (.inr ⟨rfl,rfl⟩) (.inl (congrArg some zo)) zo J (aD _) ?_
  rw[yr zo,bD]
  refine gt gc 2 rfl (D8 gc rfl rfl i vs.length c 2 rfl (.inr ⟨rfl,rfl⟩) (.inr ⟨rfl,rfl⟩) (.inl rfl) hi f (aD _) ?_)
  refine jo rfl (zj1 gc rfl 2 rfl a (Src.slice (Sl.vdrop hq.sl hi f) OneC.h) zf (by rw[x5];first|omega|(dsimp only;omega)) fun w5 U M a7=>⟨T.then M,?_⟩)
  have b:=b.trans M fun y L e=>by have e:y=t:=e;have:=I.size;omega
  have a:=U
  refine jg (j5 (jp (jd rfl (j9 (j7 (gv rfl rfl ?_))))))
  exact⟨_,F,by rw[g,show i+(vs.length+1-i)=vs.length+1 from by omega],⟨.inr ⟨t,_,rfl,a,by rw[x5,x5];exact A,by omega,B,by rw[g,u];exact ins_grow C O hB rfl hi j⟩,fun y L=>by have e:t=y:=congrArg Addr.block (cG L);have:=R.size;omega⟩,b⟩
 have d:vs.length+1≤c:=by omega
 obtain⟨s,l,hp,a,A,a8,B,C⟩:=hq.own.opened zo
 subst hp
 have j:(vs.length+1)*2≤l.length:=by omega
 have N:s≠bv:=hne s rfl
 have V:=hq.new
 have D:Sl w (some ⟨s,i*2,none⟩) (vs.length+1-(i+1)) 2 ((vs.drop i).flatMap xm):=by have:=Sl.vdrop hq.sl hi f;rw[yr zo,bD] at this;rw[show vs.length+1-(i+1)=vs.length-i from by omega];exact this
 refine x3 (ki rfl ?_)
 rw[jz _ zo]
 refine wl (zv gc rfl 0 (vs.length+1) c 2 rfl (.inr ⟨rfl,rfl⟩) (.inl (congrArg some zo)) (.inr ⟨rfl,rfl⟩) (aJ _) d (aD _) ?_)
 rw[jw,bB,bB]
 refine km rfl (gl (ki rfl ?_))
 rw[jz _ zo]
 refine wl (zv gc rfl (i+1) (vs.length+1) c 2 rfl (.inr ⟨rfl,rfl⟩) (.inr ⟨rfl,rfl⟩) (.inl (congrArg some zo)) zo d (aD _) ?_)
 rw[yr zo,bD]
 refine wl (st_extn rfl rfl rfl rfl rfl rfl (v_over w hv a N.symm (fun e=>by rw[e] at j;simp at j)) ?_)
 refine km rfl (ud rfl (fun o=> ?_) (fun o=> ?_))
 ·refine gl ?_
  refine jr rfl 9 [qP 0,qP 1,qP 2,qP 3,qP 4,qP 5,qP 6,qP 7,(8,false)] [] (jb (some ⟨s,0,none⟩)) zk fun w6 n a9=> ?_
  have hv:=hv.ga n
  have a:=a.ga n
  have D:=D.ga n
  have b:=b.gb n
  have T:Ext (jb (some ⟨s,0,none⟩)) _ w6:=n.no
  refine gt gc 4 rfl ?_
  rw[jz _ zo]
  refine D8 gc rfl rfl (i+1) (vs.length+1) c 2 rfl (.inr ⟨rfl,rfl⟩) (.inr ⟨rfl,rfl⟩) (.inl (congrArg some zo)) zo d (aD _) ?_
  rw[yr zo,bD]
  refine gt gc 2 rfl (D8 gc rfl rfl i (vs.length+1) c 2 rfl (.inr ⟨rfl,rfl⟩) (.inr ⟨rfl,rfl⟩) (.inl rfl) zo d (aD _) ?_)
  rw[yr zo,bD]
  refine jo rfl (st_cpK gc rfl 2 rfl a rfl zn D OneC.h (by show(i+1)*2+(vs.length+1-(i+1))*2≤_;omega) fun w7 X E aa=>⟨T.then (E.mono fun y _ e=>by have e:y=s:=e;rw[e]),?_⟩)
  have b:=b.then (E.mono fun y _ e=>by have e:y=s:=e;rw[e])
  have hv:=hv.gj E N.symm
  have a:=X
  refine jg (j5 (jp (ki rfl (wl (zv gc rfl i (vs.length+1) c 2 rfl (.inr ⟨rfl,rfl⟩) (.inr ⟨rfl,rfl⟩) (.inl rfl) zo d (aD _) ?_)))))
  rw[yr zo,bD]
  refine j0 gc rfl (wl (zj1 gc rfl 2 rfl a (Src.slice (m:=1) ⟨rfl,.inr ⟨bv,0,rfl,hv.kj⟩⟩ OneC.h) zf (by rw[x5];first|omega|(dsimp only;omega)) fun w8 Y Z ab=> ?_))
  have b:=b.then (Z.mono fun y _ e=>by have e:y=s:=e;rw[e])
  have a:=Y
  refine qq (jd rfl (j9 (j7 (gv rfl rfl ?_))))
  exact⟨_,c,by rw[g],⟨.inr ⟨s,_,rfl,a,by rw[x5,x5];exact A,by omega,B,by rw[g,u];exact ins_fit (C.trans (by rw[←P,aO (by rw[yw5];exact aD _)])) O hB rfl hi j⟩,V⟩,b⟩
 cases o
def Brg (W w:World):Nat→Prop:=fun y=>W.heap.size≤y∧∀T L,gz w y T L→T=121∨T=126∨T=129
theorem Brg.map {W w:World} {r:Nat} {kv:List UInt8→Value} {okx:List UInt8→Prop} {β:Type} {enc:β→Value} {g:List UInt8→Option β} (hm:Ad kv okx w r enc g) (hn:W.heap.size≤r):∀y,y<w.heap.size→One r y→Brg W w y:=fun y _ e=>by
 have e:y=r:=e
 rw[e];exact⟨hn,fun T L h=>absurd rfl (hm.ne h)⟩
theorem Brg.one {W w:World} {b T:Nat} {L:List Value} (hb:gz w b T L) (hn:W.heap.size≤b) (hT:T=121∨T=126∨T=129):∀y,y<w.heap.size→One b y→Brg W w y:=fun y _ e=>by
 have e:y=b:=e
 rw[e];exact⟨hn,fun U M h=>by rw[(h.uniq hb).2];exact hT⟩
theorem Brg.x4 {W w:World} {T:Nat} (hT:T=121∨T=126∨T=129):∀y,y<w.heap.size→Bo W w T T y→Brg W w y:=fun y _ h=>by
 obtain⟨h1,L,h2|h2⟩:=h<;>exact⟨h1,fun U M h=>by rw[(h.uniq h2).2];exact hT⟩
theorem _root_.Go.Vc.Ext.yz8 {W w w1 w2:World} (h:Ext (Brg W w) w w1) (k:Ext (Brg W w1) w1 w2):Ext (Brg W w) w w2:=
 h.trans k fun x hx hT=>cZ fun hn=>hn ⟨hT.1,fun T L hb=>hT.2 T L (by have e:=h.same x hx hn;rw[gz] at hb⊢;rw[e];exact hb)⟩
theorem _root_.Go.Vc.gz.brg {W w w':World} {b V:Nat} {L:List Value} (hb:gz w b V L) (hE:Ext (Brg W w) w w') (h1:¬(V=121∨V=126∨V=129)):gz w' b V L:=hb.ext hE fun h=>h1 (h.2 _ _ hb)
theorem _root_.Go.Vc.Own.brg {W w w':World} {V:Nat} {p:Option Addr} {n c sz:Nat} {xs:List Value} (h:Own w p n c V sz xs) (hE:Ext (Brg W w) w w') (h1:¬(V=121∨V=126∨V=129)):Own w' p n c V sz xs:=
 h.ext hE fun y hy k=>by
  obtain⟨l,hl⟩:=h.D7 hy
  exact h1 (k.2 _ _ hl)
def yq9 (row:List jq) (o:jq):Bool×Int×List jq:=if Be o∈vl row then(true,0,row) else if∀x∈u5 o,x∈vl row then(false,0,row++[o]) else(false,4,row)
theorem place_some {l:List IdB} {x:IdB}:(placeOf l x).isSome=decide (x∈l):=by
 unfold placeOf;split
 ·rename_i h;simp[h]
 rename_i h;simp[h]
theorem links_in {o:jq} (h:u4 o):∀z∈u5 o,uv z:=fun z hz=>by
 unfold u5 at hz
 split at hz
 ·obtain⟨x,hx,rfl⟩:=bN.1 hz
  exact(h.leaves x hx).2
 split at hz
 ·rcases List.mem_cons.1 hz with rfl|hz
  ·exact h.tree
  exact h.parents z hz
 cases hz
theorem one_held {h:u3} (hl:(Bx h).length=105):yh (Cn 1 (ge Ao++jn uo Dh)) [(0*(0+105),0+105,.agg (Bx h).toArray)]=Bx h:=by
 simp only[yh,jh]
 rw[cW,Az (by rw[um,hl,aB,gm,gp qf];rfl)]
theorem links_short {o:jq} (h:A5 o):(u5 o).length<2000000000:=by
 have h1:=h.leaves
 have h2:=h.parents
 unfold u5
 split
 ·rw[aE];omega
 split
 ·rw[aW];omega
 decide
theorem held_ids {G:Nat→Prop} {u:World} {l:List u3} (h:∀x∈l,Ai u G x):l.map u3.id=vl (l.map u3.o):=by
 rw[vl,List.map_map]
 exact List.map_congr_left fun x hx=>(h x hx).id
theorem zw4.ga {W u u':World} {G:Nat→Prop} {h:uh} (k:zw4 W u G h) (hE:Ext No u u'):zw4 W u' G h:=
 ⟨k.row.ga hE,k.rin,k.map.imp fun r e=>⟨e.1,e.2.1,e.2.2.ga hE⟩,k.vals.ga hE,fun x hx=>(k.o x hx).ext hE fun _ _=>id,fun x hx=>(k.v x hx).ext hE fun _ _=>id,k.few,k.fev,k.new⟩
theorem puts_calls (w:World) {W:World} {hb:Nat} {G:Nat→Prop} {h:uh} (hbk:gz w hb 121 h.c) (hi:zw4 W w G h) (hW:Ext No W w) (hfew:h.hs.length+1<1000000) {x:jq} {a:vb} (ho:ObjAt' W (x,a)) (hok:x9 x) (hr:Rt W) (hbn:W.heap.size≤hb):
  gn prog 141 [.pointer (some ⟨hb,0,none⟩),.agg (jn x a).toArray] w fun v w'=>∃h':uh,v= .tuple #[.bool (yq9 h.s.row x).1,.int .i64 (yq9 h.s.row x).2.1]∧gz w' hb 121 h'.c∧zw4 W w' G h'∧h'.s.row=(yq9 h.s.row x).2.2∧h'.vs=h.vs∧Ext (Brg W w) w w':=by
 obtain⟨rp,rc,hs,m,vp,vc,vs⟩:=h
 obtain⟨r,hmr,hrW,hM⟩:=hi.map
 have hmr:m=some r:=hmr
 subst hmr
 have hbk:gz w hb 121 [.slice rp hs.length rc,.map (some r),.slice vp vs.length vc]:=hbk
 have hbr:hb≠r:=fun e=>hM.ne hbk e.symm
 have hids:hs.map u3.id=vl (hs.map u3.o):=held_ids hi.o
 have hM:MapB w r natV (placeOf (hs.map u3.id)):=hM
 rw[hids] at hM
 have hoi:=ho.i
 have hos:=ho.s
 have hol:=ho.l
 dsimp only at hoi hos hol
 have hfew:hs.length+1<1000000:=hfew
 have hrr:uh.s ⟨rp,rc,hs,some r,vp,vc,vs⟩=⟨hs.map u3.o,vs.map Prod.fst⟩:=rfl
 rw[hrr]
 have hid:idB x=Be x:=aR hok
 have hlk:linksB x=u5 x:=aR hok
 have hll:=links_short hos
 have hW0:=hW.size
 refine gx func141 ?_
 have hX:=Ext.refl No w
 refine ko (gw rfl fun b3 w1 hn3 hb3 hE1=> ?_)
 have hW:=hW.gb hE1
 have hX:=hX.gb hE1
 have hb3:gz w1 b3 37 (jn x a):=hb3
 refine km rfl (ko (je hb3 rfl (gp hoi) (gh call129 rfl (idObj_calls w1 hoi (hol.ga hW) hos (hr.ext hW id)) fun v2 w2 hr2=> ?_)))
 obtain⟨rfl,hE2⟩:=hr2
 have hb3:=hb3.ga hE2
 have hW:=hW.gb hE2
 have hX:=hX.gb hE2
 rw[hid,show objE x=0 from aR hok]
 refine j0 gc rfl (gw rfl fun b6 w3 hn6 hb6 hE3=> ?_)
 have ne3_6:=j2 hb3.lt hn6
 have fr6:=aA hX.size hn6
 have hb3:=hb3.ga hE3
 have hW:=hW.gb hE3
 have hX:=hX.gb hE3
 refine wl (j4 (l':=ge (Be x)) gc hb6 rfl rfl (by rw[gm,vu]) (by rw[gm,vu];rfl) OneC.h fun w4 hb6 hE4 hs4=> ?_)
 have hb3:=hb3.gj hE4 ne3_6
 have hW:=hW.gi hE4 (aA hW0 fr6)
 have hX:=hX.gi hE4 fr6
 refine km rfl (gl (jd rfl (up rfl (x3 (gl (gl ?_))))))
 refine jr rfl 10 [qP 0,qP 1,qP 2,qP 3,qP 4,qP 5,qP 6,qP 7,qP 8,qP 9] [] (No) zk fun w5 hE5 hs5=> ?_
 have hd3:=hb3
 have hd6:=hb6
 have hXd:=hX
 have hb3:=hb3.ga hE5
 have hb6:=hb6.ga hE5
 have hW:=hW.gb hE5
 have hX:=hX.gb hE5
 have hC:Ext (No) _ w5:=hE5.no
 refine gt gc 3 rfl (j3 gc rfl rfl (fun w' hw'=>((hbk.ga (hXd.gb hw')).cell rfl)) ?_)
 refine qa gc rfl rfl (fun w' hw'=>(hd6.ga hw').kj) (by rw[gm,vu]) ?_
 refine wd_lu gc rfl rfl idK (vu _) rfl (hM.ga hX) (fun w' hw'=>hM.ga (hXd.gb hw')) ?_
 simp only[cO]
 rw[place_some]
 refine gt gc 4 rfl (jg (j5 (jp (jd rfl (jl rfl (fun hc=> ?_) (fun hc=> ?_))))))
 ·have hp:yq9 (hs.map u3.o) x=(true,0,hs.map u3.o):=aR hc
  refine jd rfl (j9 (j7 (qe [_,_] ⟨rfl,rfl,trivial⟩ ?_)))
  exact⟨⟨rp,rc,hs,some r,vp,vc,vs⟩,by rw[hp];rfl,hbk.ga hX,hi.ga hX,by rw[hp];rfl,rfl,hX.no⟩
 have hni:¬Be x∈vl (hs.map u3.o):=hc
 refine x3 (gl (ko (je hb3 rfl (gp hoi) (gh call55 rfl (links_calls w5 hoi (hol.ga hW) hos) fun v6 w6 hr6=> ?_))))
 obtain⟨q,k,rfl,hq,hqn,hE6⟩:=hr6
 have hb3:=hb3.ga hE6
 have hb6:=hb6.ga hE6
 have hW:=hW.gb hE6
 have hX:=hX.gb hE6
 rw[hlk] at hq⊢
 obtain⟨w7,hw7⟩:∃w7,w7=w6:=⟨_,rfl⟩
 rw[←hw7] at hq
 have hT:Ext No w7 w6:=hw7▸Ext.refl No _
 refine km rfl (j8 ?_)
 refine jj (α:=Nat) [0,3,6,29,30] rfl (fun z=>[(31,.int .i64 (z:Int))]) (fun z u=>(z≤(u5 x).length∧(∀y∈(u5 x).take z,y∈vl (hs.map u3.o))∧Ext No w7 u∧Ext No W u)∧gz u b3 37 (jn x a)∧gz u b6 30 (ge (Be x))∧Ext No w u) (fun z u=>(u5 x).length-z) (0) rfl ⟨⟨aJ _,fun _ h=>(by cases h),hT,hW⟩,hb3,hb6,hX⟩ ?_
 rintro i w7 ⟨⟨hi7,hall,hT,hW⟩,hb3,hb6,hX⟩
 refine jd rfl (gl (jl rfl (fun hc=> ?_) (fun hc=> ?_)))
 ·have hi8:i<(u5 x).length:=by omega
  have hlin:uv (u5 x)[i]:=links_in hoi _ (aG hi8)
  obtain⟨qb,qo,hp,hsq⟩:=hq.sl.qd (fun y hy=>(links_in hoi y hy).len) zo
  subst hp
  refine Ac (ko (ka rfl 32 rfl i rfl hi8 (qo+i*32) rfl (jm rfl ((hsq i hi8).ga hT) hlin.len ?_)))
  have hT0:=hT
  refine gw rfl fun b8 w8 hn8 hb8 hE8=> ?_
  have ne3_8:=j2 hb3.lt hn8
  have ne6_8:=j2 hb6.lt hn8
  have fr8:=aA hX.size hn8
  have hb3:=hb3.ga hE8
  have hb6:=hb6.ga hE8
  have hW:=hW.gb hE8
  have hT:=hT.gb hE8
  have hX:=hX.gb hE8
  have fT8:=aA hT0.size hn8
  refine wl (j4 (l':=ge (u5 x)[i]) gc hb8 rfl rfl hlin.len (by rw[hlin.len];rfl) OneC.h fun w9 hb8 hE9 hs9=> ?_)
  have hb3:=hb3.gj hE9 ne3_8
  have hb6:=hb6.gj hE9 ne6_8
  have hW:=hW.gi hE9 (aA hW0 fr8)
  have hT:=hT.gi hE9 fT8
  have hX:=hX.gi hE9 fr8
  refine qq (gl (jr rfl 11 [qP 0,qP 1,qP 2,qP 3,qP 4,qP 5,qP 6,qP 7,qP 8,qP 9,qP 10] [] (No) zk fun w10 hE10 hs10=> ?_))
  have hd8:=hb8
  have hXd:=hX
  have hb3:=hb3.ga hE10
  have hb6:=hb6.ga hE10
  have hW:=hW.gb hE10
  have hT:=hT.gb hE10
  have hX:=hX.gb hE10
  refine gt gc 3 rfl (j3 gc rfl rfl (fun w' hw'=>((hbk.ga (hXd.gb hw')).cell rfl)) ?_)
  refine qa gc rfl rfl (fun w' hw'=>(hd8.ga hw').kj) hlin.len ?_
  refine wd_lu gc rfl rfl idK hlin rfl (hM.ga hX) (fun w' hw'=>hM.ga (hXd.gb hw')) ?_
  simp only[cO]
  rw[place_some]
  refine gt gc 5 rfl (jg (j5 (jp (jd rfl (ud rfl (fun hc=> ?_) (fun hc=> ?_))))))
  ·have hno:(u5 x)[i]∉vl (hs.map u3.o):=by simpa using hc
   have hp:yq9 (hs.map u3.o) x=(false,4,hs.map u3.o):=by rw[yq9,aP hni,aP fun k=>hno (k _ (aG hi8))]
   refine jd rfl (j9 (gGl (qe [_,_] ⟨rfl,rfl,trivial⟩ ?_)))
   exact⟨⟨rp,rc,hs,some r,vp,vc,vs⟩,by rw[hp];rfl,hbk.ga hX,hi.ga hX,by rw[hp];rfl,rfl,hX.no⟩
  have hyes:(u5 x)[i]∈vl (hs.map u3.o):=by simpa using hc
  refine kc (Aa rfl ?_)
  rw[jz _ zo]
  refine gk ?_
  exact jk (i+1) rfl ⟨⟨hi8,fun y hy=>by rw[aQ hi8] at hy;rcases aY.1 hy with hy|hy;exact hall y hy;rw[aI.1 hy];exact hyes,hT,hW⟩,hb3,hb6,hX⟩ zf
 have h0:i=(u5 x).length:=by omega
 subst h0
 rw[bZ] at hall
 have hp:yq9 (hs.map u3.o) x=(false,0,hs.map u3.o++[x]):=by rw[yq9,aP hni,aR hall]
 refine Ak (gl ?_)
 refine jr rfl 11 [qP 0,qP 1,qP 2,qP 3,qP 4,qP 5,qP 6,qP 7,qP 8,qP 9,(10,false)] [] (One r) zk fun w11 hE11 hs11=> ?_
 have hd6:=hb6
 have hXd:=hX
 have hb3:=hb3.ga hE11
 have hb6:=hb6.ga hE11
 have hW:=hW.gb hE11
 have hX:=hX.gb hE11
 have hC:Ext (One r) _ w11:=hE11.no
 refine gt gc 3 rfl (j3 gc rfl rfl (fun w' hw'=>(((hbk.ga hXd).ext (show Ext (One r) _ w' from hw') hbr).cell rfl)) ?_)
 refine qa gc rfl rfl (fun w' hw'=>((hd6.ext (show Ext (One r) _ w' from hw') fun e=>(hM.ga hXd).ne hd6 e.symm).kj)) (by rw[gm,vu]) ?_
 refine gt gc 3 rfl (j3 gc rfl rfl (fun w' hw'=>(((hbk.ga hXd).ext (show Ext (One r) _ w' from hw') hbr).cell rfl)) ?_)
 refine gt gc 1 rfl ?_
 have hX0:=hX
 have hMx:=hM.ga hX
 refine jo rfl (st_mu gc rfl idK (vu _) rfl hMx (b:=hs.length) rfl fun w12 hM2 hE12 hs12=>⟨hC.then hE12,?_⟩)
 have hb3:=hb3.xy hMx hE12
 have hb6:=hb6.xy hMx hE12
 have hbk:=(hbk.ga hX0).xy hMx hE12
 have hX:Ext (Brg W w) w w12:=(hX0.no (S:=Brg W w)).yz8 (hE12.mono (Brg.map hMx hrW))
 have hW:=hW.newer hE12 fun y e=>by have e:y=r:=e;rw[e];exact hrW
 have hM:MapB w12 r natV (placeOf (vl (hs.map u3.o++[x]))):=by
  rw[idsOf_snoc,←placeOf_step hni]
  have e:(vl (hs.map u3.o)).length=hs.length:=by rw[vl,aE,aE]
  rw[e];exact hM2
 have hval:=(hi.vals.ga hX0).xy hMx hE12
 have hoo:=fun y hy=>((hi.o y hy).ext hX0 fun _ _=>id).xy hMx hE12
 have hvv:=fun y hy=>((hi.v y hy).ext hX0 fun _ _=>id).xy hMx hE12
 have hrow:zq1 W w12 rp hs.length rc 126 105 (hs.flatMap Bx):=(hi.row.ga hX0).xy hMx hE12 hrW
 refine jg (j5 (jp (gl ?_)))
 refine jr rfl 13 [qP 0,qP 1,qP 2,qP 3,qP 4,qP 5,qP 6,(7,false),qP 8,(9,false),(10,false),qP 11,qP 12] [13] (Bo W w12 126 126) zk fun w13 hE13 hs13=> ?_
 have hd3:=hb3
 have hd6:=hb6
 have hbkd:=hbk
 have hW:=hW.gb hE13
 have hbk:=hbk.ga hE13
 have hM:=hM.ga hE13
 have hval:=hval.ga hE13
 have hoo:=fun y hy=>(hoo y hy).ext hE13 fun _ _=>id
 have hvv:=fun y hy=>(hvv y hy).ext hE13 fun _ _=>id
 have hrow:=hrow.ga hE13
 have hX:=hX.gb hE13
 have hC:Ext (Bo W w12 126 126) _ w13:=hE13.no
 refine gt gc 4 rfl (j3 gc rfl rfl (fun w' hw'=>(hbkd.x4 (show Ext (Bo W _ 126 126) _ w' from hw') zd zd).cell rfl) ?_)
 refine qa gc rfl rfl (fun w' hw'=>(hd6.x4 (show Ext (Bo W _ 126 126) _ w' from hw') zd zd).kj) (by rw[gm,vu]) ?_
 refine qa gc rfl rfl (fun w' hw'=>(hd3.x4 (show Ext (Bo W _ 126 126) _ w' from hw') zd zd).kj) (gp hoi) ?_
 have hXn:=hX
 refine jo rfl (j1 call52 rfl (sown_calls w13 hoi (hol.ga hW) hos) fun v14 w14 hr14=>⟨(by obtain⟨a2,rfl,hN,hE14⟩:=hr14;exact hC.gb hE14),?_⟩)
 obtain⟨a2,rfl,hN,hE14⟩:=hr14
 have hW:=hW.gb hE14
 have hbk:=hbk.ga hE14
 have hM:=hM.ga hE14
 have hval:=hval.ga hE14
 have hoo:=fun y hy=>(hoo y hy).ext hE14 fun _ _=>id
 have hvv:=fun y hy=>(hvv y hy).ext hE14 fun _ _=>id
 have hrow:=hrow.ga hE14
 have hX:=hX.gb hE14
 have hC:=hC.gb hE14
 have hN:=hN.older (W0:=w) hXn.size
 have hN:=hN.older hW0
 refine xj0 gc rfl rfl ⟨⟨by rw[jh,gm,vu],by decide⟩,⟨by rw[jh];exact gp hoi,by decide⟩,trivial⟩ (l':=Bx ⟨Be x,x,a2⟩) (by rw[heldZ_c];exact held_build (vu _) hoi) ?_
 refine jo rfl (qi gc rfl 105 rfl heldZ_c (by rw[aB,gm,gp qf];rfl) zd zd ⟨⟨by rw[jh];exact xz0 (h:=⟨Be x,x,a2⟩) (vu _) hoi,by decide⟩,trivial⟩ (l':=Bx ⟨Be x,x,a2⟩) (one_held (h:=⟨Be x,x,a2⟩) (xz0 (vu _) hoi)) fun b66 w15 hn66 hb66 hE15 hs15=>⟨hC.gb hE15,?_⟩)
 have hW:=hW.gb hE15
 have hbk:=hbk.ga hE15
 have hM:=hM.ga hE15
 have hval:=hval.ga hE15
 have hoo:=fun y hy=>(hoo y hy).ext hE15 fun _ _=>id
 have hvv:=fun y hy=>(hvv y hy).ext hE15 fun _ _=>id
 have hrow:=hrow.ga hE15
 have hN:=hN.ga hE15
 have hX:=hX.gb hE15
 have hC:=hC.gb hE15
 refine jo rfl (st_appT gc rfl 105 224 rfl rfl rfl zd hrow (Src.slice (m:=1) ⟨xz0 (h:=⟨Be x,x,a2⟩) (vu _) hoi,.inr ⟨b66,0,rfl,hb66.kj⟩⟩ OneC.h) zm zd zn (n':=(hs++[(⟨Be x,x,a2⟩:u3)]).length) (ys:=(hs++[(⟨Be x,x,a2⟩:u3)]).flatMap Bx) zi (by rw[bC,bU]) hW.size fun q3 k3 w16 hq3 hE16=>⟨hC.ky hE16,?_⟩)
 dsimp only at hq3 hE16
 have hX:=hX.yz8 (hE16.mono (Brg.x4 zd))
 have hbk:=hbk.x4 hE16 zd zd
 have hM:=hM.x4 hE16
 have hval:=hval.x4 hE16 zd zd
 have hoo:=fun y hy=>(hoo y hy).x4 hE16 zd zd zd
 have hvv:=fun y hy=>(hvv y hy).x4 hE16 zd
 have hN:qw W w16 x a2:=⟨hN.ol.x4 hE16 zd zd,hN.op.x4 hE16 zd zd,hN.or.x4 hE16 zd zd,hN.nl,hN.np,hN.nr⟩
 refine gt gc 2 rfl (jg (wb rfl (yi gc hbk rfl rfl rfl fun w17 hbk2 hE17 hs17=> ?_)))
 have hX:=hX.yz8 (hE17.mono (Brg.one hbk hbn zd))
 have hi2:zw4 W w17 G ⟨q3,k3,hs++[⟨Be x,x,a2⟩],some r,vp,vc,vs⟩:=⟨.inr (hq3.gj hE17 hbk zd),ownN_in hq3 hi.new,⟨r,rfl,hrW,by
    have e:(hs++[(⟨Be x,x,a2⟩:u3)]).map u3.id=vl (hs.map u3.o++[x]):=by rw[bX,hids,idsOf_snoc];rfl
    rw[e];exact hM.gj hE17 hbk⟩,hval.gj hE17 hbk zd,fun y hy=>by
    rcases aY.1 hy with hy|hy
    ·exact(hoo y hy).gj hE17 hbk zd zd zd
    rw[aI.1 hy]
    exact(⟨rfl,⟨hoi,hos⟩,hN.ol,hN.op,hN.or,fun y hy=>hi.new y (hy.elim (hN.nl y) fun e=>e.elim (hN.np y) (hN.nr y))⟩:Ai _ G ⟨Be x,x,a2⟩).gj hE17 hbk zd zd zd,fun y hy=>(hvv y hy).gj hE17 hbk zd,by rw[aB];exact hfew,hi.fev,hi.new⟩
 refine j5 (jp (jd rfl (j9 (qe [_,_] ⟨rfl,rfl,trivial⟩ ?_))))
 exact⟨⟨q3,k3,hs++[(⟨Be x,x,a2⟩:u3)],some r,vp,vc,vs⟩,by rw[hp];rfl,hbk2,hi2,by rw[hp];show List.map u3.o (hs++_)=_;rw[bX];rfl,rfl,hX⟩
end Go.Proofs.YtpdiphfjmepijaaGreatDoor
