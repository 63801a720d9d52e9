/-
  Walks and laws towards: without a disk there is no store (StoreNil)
-/
import Derived.StringKeys
import Derived.Laws.IdiomRangeMap
import Derived.Lib.Overlaps
import Derived.LaidEql
import Derived.Test.YtpdiphfjmepijaaGreatDoorNiF
namespace Go.Proofs.YtpdiphfjmepijaaGreatDoor
open Tryz
open Go.Vc
abbrev IsStr (x:List UInt8):Prop:=x.length≤maxLen
theorem strK:KeyG prog 9 xf IsStr:=
 ⟨WideMaps.string_law Tryz.underlying9,fun _ hx=>⟨_,WideMaps.keyOf_string_mk Tryz.underlying9 hx⟩,fun _ _ h=>Am (by injection h)⟩
structure SetP where
  op:Option Addr
  oc:Nat
  np:Option Addr
  nc:Nat
abbrev C9:=yk×SetP
abbrev yq4:=jk×vb
def Aq (x:yq4):List Value:=jq x.1 x.2
def xt (x:C9):List Value:=[xf x.1.name,.bool x.1.was,.bool x.1.is,.slice x.2.op x.1.old.length x.2.oc,.slice x.2.np x.1.new.length x.2.nc]
theorem yz7 (x:C9):(xt x).length=5:=rfl
instance (x:C9):OneC (xt x):=by unfold xt;infer_instance
instance (x:yq4):OneC (Aq x):=by unfold Aq;infer_instance
theorem objX_len {l:List yq4} (h:∀x∈l,u5 x.1):∀x∈l,(Aq x).length=73:=fun x hx=>gt (h x hx)
structure SetAt (w:World) (x:C9):Prop where
  old:x3 w x.2.op x.1.old
  new:x3 w x.2.np x.1.new
  ln:x.1.name.length<1000000000
  lo:x.1.old.length<1000000000
  lw:x.1.new.length<1000000000
theorem SetAt.ga {w w':World} {x:C9} (h:SetAt w x) (hE:Ext No w w'):SetAt w' x:=⟨h.old.ga hE,h.new.ga hE,h.ln,h.lo,h.lw⟩
structure ObjAt' (w:World) (x:yq4):Prop where
  i:u5 x.1
  s:Bf x.1
  l:B3 w x.1 x.2
theorem ObjAt'.ga {w w':World} {x:yq4} (h:ObjAt' w x) (hE:Ext No w w'):ObjAt' w' x:=⟨h.i,h.s,h.l.ga hE⟩
structure uk where
  op:Option Addr
  oc:Nat
  os:List yq4
  sp:Option Addr
  sc:Nat
  ss:List C9
def uk.d (b:uk):Bx:=⟨b.os.map Prod.fst,b.ss.map Prod.fst⟩
def uk.c (b:uk):List Value:=[.slice b.op b.os.length b.oc,.slice b.sp b.ss.length b.sc]
abbrev uk.v (b:uk):Value:= .agg b.c.toArray
instance (b:uk):OneC b.c:=by unfold uk.c;infer_instance
structure Dk (w:World) (b:uk):Prop where
  os:Sl w b.op b.os.length 73 (b.os.flatMap Aq)
  ss:Sl w b.sp b.ss.length 5 (b.ss.flatMap xt)
  o:∀x∈b.os,ObjAt' w x
  s:∀x∈b.ss,SetAt w x
  lo:b.os.length<1000000
  ls:b.ss.length<1000000
theorem Dk.ga {w w':World} {b:uk} (h:Dk w b) (hE:Ext No w w'):Dk w' b:=
 ⟨h.os.ga hE,h.ss.ga hE,fun x hx=>(h.o x hx).ga hE,fun x hx=>(h.s x hx).ga hE,h.lo,h.ls⟩
def cntS (l:List Str):Str→Option Int:=fun x=>if x∈l then some 1 else none
abbrev intV (i:Int):Value:= .int .i64 i
theorem cnt_tell {l:List Str} {x:Str}:tell intV (.int .i64 0) (cntS l x)= .int .i64 (if x∈l then 1 else 0):=by
 unfold cntS;split<;>rfl
theorem setM_at {β:Type} (g:List UInt8→Option β) (x:List UInt8) (b:β):xx8 g x b x=some b:=if_pos rfl
theorem cnt_step {l:List Str} {x:Str} (h:x∉l):xx8 (cntS l) x 1=cntS (l++[x]):=by
 funext y
 unfold xx8 cntS
 by_cases e:y=x
 ·subst e;simp
 rw[if_neg e];simp[e]
theorem setsOk_step {l:List yk} {i:Nat} (hi:i<l.length):zj7 (l.take (i+1))↔zj7 (l.take i)∧yw3 l[i]∧l[i].name∉(l.take i).map yk.name:=by
 rw[List.take_succ_eq_append_getElem hi]
 unfold zj7
 rw[List.map_append,List.nodup_append]
 constructor
 ·rintro⟨d,f,h,g⟩
  exact⟨⟨fun s c=>d s (List.mem_append_left _ c),f⟩,d _ (List.mem_append_right _ (List.mem_singleton.2 rfl)),fun k=>g _ k _ zp rfl⟩
 rintro⟨⟨d,f⟩,h,g⟩
 refine⟨fun s c=> ?_,f,by simp,fun a m b j e=> ?_⟩
 ·rcases List.mem_append.1 c with c|c
  ·exact d s c
  rw[List.mem_singleton.1 c];exact h
 simp only[List.map_cons,List.map_nil,List.mem_singleton] at j
 subst j;subst e
 exact g m
theorem setsOk_no {l:List yk} {i:Nat} (_hi:i<l.length) (h:¬zj7 (l.take (i+1))):¬zj7 l:=fun k=>h ⟨fun s hs=>k.1 s (List.mem_of_mem_take hs),(List.Sublist.map _ (List.take_sublist _ _)).nodup k.2⟩
theorem may_os {b:uk} {i:Nat} (hi:i<b.os.length) (h:¬yf b.os[i].1):¬Ba b.d:=fun k=>h (k.2.2.1 _ (List.mem_map.2 ⟨_,List.getElem_mem hi,rfl⟩))
theorem sside_calls (w:World) {q:Bool} {p:Option Addr} {c:Nat} {l:Bytes}:
  gp prog 140 [.bool q,.slice p l.length c] w fun v w'=>v= .bool (decide (xq3 q l))∧w'=w:=by
 refine gh func140 rfl rfl rfl rfl ?_
 have b:=Ext.refl No w
 refine jc rfl (jv (α:=Bool) [] rfl (fun z=>[(4,.bool z)]) (fun z u=>(z=decide (xq3 q l)∧u=w)∧Ext No w u) ?_ ?_)
 ·refine j1 ?_
  refine j7 gc rfl (jl 8 rfl (fun a=> ?_) (fun a=> ?_))
  ·have d:l.length≤4096:=by omega
   refine j3 gc 2 rfl (ua 10 rfl (fun a=> ?_) (fun a=> ?_))
   ·refine j3 gc 6 rfl ?_
    refine gn ?_
    exact j4 (true) rfl ⟨⟨by symm;rw[decide_eq_true_eq];exact⟨d,.inl a⟩,rfl⟩,b⟩
   refine j3 gc 6 rfl ?_
   refine gn ?_
   exact j4 (_) rfl ⟨⟨by rw[decide_eq_decide];exact⟨fun h=>⟨d,.inr zo⟩,fun h=>h.2.elim (fun e=>(by rw[a] at e;cases e)) zo⟩,rfl⟩,b⟩
  have d:¬l.length≤4096:=by omega
  refine j3 gc 8 rfl (gn ?_)
  exact j4 (_) rfl ⟨⟨by symm;rw[decide_eq_false_iff_not];exact fun h=>d h.1,rfl⟩,b⟩
 rintro z f ⟨⟨rfl,rfl⟩,b⟩
 refine gr (gv rfl rfl ?_)
 exact⟨rfl,rfl⟩
theorem may_calls (w:World) {b:uk} (h:Dk w b):
  gp prog 63 [b.v] w fun v w'=>v= .bool (decide (Ba b.d))∧Ext No w w':=by
 have hlo:=h.lo
 have hls:=h.ls
 refine gh func63 rfl rfl rfl rfl ?_
 have hX:=Ext.refl No w
 refine kz (gw rfl fun b1 w1 hn1 hb1 hE1=> ?_)
 have fr1:=Nat.le_trans hX.size hn1
 have hX:=hX.gb hE1
 have hb1:gz w1 b1 25 (b.c):=hb1
 refine ju rfl (gl (jv (α:=Bool) [1] rfl (fun z=>[(17,.bool z)]) (fun z u=>(z=decide (4096<b.os.length∨128<b.ss.length))∧gz u b1 25 (b.c)∧Ext No w u) ?_ ?_))
 ·refine j1 ?_
  refine j7 gc rfl (j0 rfl (hb1.cell rfl) (j7 gc rfl (jl 12 rfl (fun hg=> ?_) (fun hg=> ?_))))
  ·have h1:4096<b.os.length:=by omega
   refine j3 gc 5 rfl (gn ?_)
   exact j4 (true) rfl ⟨by symm;rw[decide_eq_true_eq];exact .inl h1,hb1,hX⟩
  have h1:¬4096<b.os.length:=by omega
  refine j3 gc 1 rfl (j0 rfl (hb1.cell rfl) (j3 gc 3 rfl (gn ?_)))
  exact j4 (_) rfl ⟨by rw[decide_eq_decide];omega,hb1,hX⟩
 rintro z w2 ⟨rfl,hb1,hX⟩
 refine jp rfl (fun hc=> ?_) (fun hc=> ?_)
 ·refine gl ?_
  refine j1 (ju rfl (gr (gq (gv rfl rfl ?_))))
  exact⟨by congr 1;symm;rw[decide_eq_false_iff_not];rintro⟨k1,k2,_⟩;simp only[uk.d,List.length_map] at k1 k2;omega,hX⟩
 refine j6 ?_
 refine gy (gl (km rfl (j0 rfl (hb1.cell rfl) (ju rfl (gu ?_)))))
 refine jn (α:=Nat) [1,19,20] rfl (fun z=>[(21,.int .i64 (z:Int))]) (fun z u=>(z≤b.os.length∧∀x∈b.os.take z,yf x.1)∧gz u b1 25 (b.c)∧Ext No w u) (fun z u=>b.os.length-z) (0) rfl ⟨⟨Nat.zero_le _,fun _ h=>(by cases h)⟩,hb1,hX⟩ ?_
 rintro i w3 ⟨⟨hi,hall⟩,hb1,hX⟩
 refine jc rfl (gl (jp rfl (fun hc=> ?_) (fun hc=> ?_)))
 ·have hi2:i<b.os.length:=by omega
  obtain⟨q,qo,hp,hsq⟩:=h.os.qv (objX_len fun x hx=>(h.o x hx).i) zo
  have ho:=h.o _ (List.getElem_mem hi2)
  rw[hp]
  refine xy (gu (kz (ka rfl 73 rfl i rfl hi2 (qo+i*73) rfl (jo rfl ((hsq i hi2).ga hX) (gt ho.i) (gw rfl fun b4 w4 hn4 hb4 hE4=> ?_)))))
  have ne1_4:b1≠b4:=Nat.ne_of_lt (Nat.lt_of_lt_of_le hb1.lt hn4)
  have fr4:=Nat.le_trans hX.size hn4
  have hb1:=hb1.ga hE4
  have hX:=hX.gb hE4
  refine wl (j8 (l':=Aq b.os[i]) gc hb4 rfl rfl (gt ho.i) (gt ho.i) OneC.h fun w5 hb4 hE5 hs5=> ?_)
  have hb1:=hb1.gk hE5 ne1_4
  have hX:=hX.gj hE5 fr4
  refine ql (kz (jh hb4 rfl (gt ho.i) (gi call134 rfl (D6 w5 ho.i (ho.l.ga hX) ho.s) fun v6 w6 hr6=> ?_)))
  obtain⟨rfl,hE6⟩:=hr6
  have hb1:=hb1.ga hE6
  have hb4:=hb4.ga hE6
  have hX:=hX.gb hE6
  refine ju rfl (jp rfl (fun hc=> ?_) (fun hc=> ?_))
  ·have hk:¬yf b.os[i].1:=fun h=>hc (if_pos h)
   refine jc rfl (gr (ji (gq (gq (ji (gq (gv rfl rfl ?_)))))))
   exact⟨by rw[decide_eq_false (may_os hi2 hk)],hX⟩
  have hk:yf b.os[i].1:=(zv7 zd).1 (Decidable.not_not.1 hc)
  refine j6 (B4 rfl ?_)
  rw[IntWalk.i64_in _ zo]
  refine gn ?_
  exact jm (i+1) rfl ⟨⟨hi2,fun x hx=>by rw[List.take_succ_eq_append_getElem hi2] at hx;rcases List.mem_append.1 hx with hx|hx;exact hall x hx;rw[List.mem_singleton.1 hx];exact hk⟩,hb1,hX⟩ zf
 have h0:i=b.os.length:=by omega
 subst h0
 rw[List.take_length] at hall
 refine Bg (kz (wl (st_mmG xf IsStr intV rfl fun r w7 hrn hM hE7 hs7=> ?_)))
 have hb1:=hb1.ga hE7
 have frr:=Nat.le_trans hX.size hrn
 have hX:=hX.gb hE7
 refine ju rfl (gl (km rfl (j0 rfl (hb1.cell rfl) (ju rfl (gu ?_)))))
 refine jn (α:=Nat) [5,31,32] rfl (fun z=>[(33,.int .i64 (z:Int))]) (fun z u=>(z≤b.ss.length∧zj7 ((b.ss.map Prod.fst).take z)∧z1 xf IsStr u r intV (cntS (((b.ss.map Prod.fst).take z).map yk.name)))∧gz u b1 25 (b.c)∧Ext No w u) (fun z u=>b.ss.length-z) (0) rfl ⟨⟨Nat.zero_le _,⟨fun _ h=>(by cases h),List.Pairwise.nil⟩,hM⟩,hb1,hX⟩ ?_
 rintro j w8 ⟨⟨hj,hsk,hM⟩,hb1,hX⟩
 refine jc rfl (gl (jp rfl (fun hc=> ?_) (fun hc=> ?_)))
 ·have hj2:j<b.ss.length:=by omega
  have hj3:j<(b.ss.map Prod.fst).length:=by rw[List.length_map];exact hj2
  obtain⟨q,qo,hp,hsq⟩:=h.ss.qv (fun x _=>yz7 x) zo
  have hse:=h.s _ (List.getElem_mem hj2)
  have hgj:(b.ss.map Prod.fst)[j]=b.ss[j].1:=List.getElem_map ..
  obtain⟨names,hnm⟩:∃names,names=((b.ss.map Prod.fst).take j).map yk.name:=⟨_,rfl⟩
  have hstep:=setsOk_step hj3
  rw[hgj,←hnm] at hstep
  rw[←hnm] at hM
  rw[hp]
  refine xy (gu (kz (ka rfl 5 rfl j rfl hj2 (qo+j*5) rfl (jo rfl ((hsq j hj2).ga hX) rfl (gw rfl fun b7 w9 hn7 hb7 hE9=> ?_)))))
  have ne1_7:b1≠b7:=Nat.ne_of_lt (Nat.lt_of_lt_of_le hb1.lt hn7)
  have fr7:=Nat.le_trans hX.size hn7
  have hb1:=hb1.ga hE9
  have hM:=hM.ga hE9
  have hX:=hX.gb hE9
  have hb7o:=hb7
  refine wl (j8 (l':=xt b.ss[j]) gc hb7 rfl rfl rfl rfl OneC.h fun w10 hb7 hE10 hs10=> ?_)
  have hb1:=hb1.gk hE10 ne1_7
  have hM:=hM.gk hE10 hb7o
  have hX:=hX.gj hE10 fr7
  refine ql (km rfl (j0 rfl (hb7.cell rfl) (wl (st_lu gc rfl strK (x:=b.ss[j].1.name) (by have:=hse.ln;dsimp only[IsStr,maxLen];omega) rfl hM ?_))))
  simp only[Bool.false_eq_true,if_false]
  rw[show tell intV ti3.zero (cntS names b.ss[j].1.name)= .int .i64 (if b.ss[j].1.name∈names then 1 else 0) from cnt_tell]
  obtain⟨m,hm⟩:∃m:Int,m=(if b.ss[j].1.name∈names then 1 else 0):=⟨_,rfl⟩
  have hm2:0≤m∧m≤1:=by rw[hm];split<;>decide
  rw[←hm]
  refine j7 gc rfl ?_
  rw[IntWalk.i64_in _ zo]
  refine wl (st_mu gc rfl strK (x:=b.ss[j].1.name) (by have:=hse.ln;dsimp only[IsStr,maxLen];omega) rfl hM (b:=m+1) rfl fun w11 hM2 hE11 hs11=> ?_)
  have hb1:=hb1.x5 hM hE11
  have hb7:=hb7.x5 hM hE11
  have hX:=hX.gj hE11 frr
  refine ql ?_
  refine jv (α:=Bool) [5,31,32,33] rfl (fun z=>[(73,.bool z)]) (fun z u=>(z=decide (¬(yw3 b.ss[j].1∧b.ss[j].1.name∉names))∧z1 xf IsStr u r intV (xx8 (cntS names) b.ss[j].1.name (m+1)))∧gz u b1 25 (b.c)∧Ext No w u) ?_ ?_
  ·refine j1 ?_
   refine j7 gc rfl (j0 rfl (hb7.cell rfl) (wl (st_lu gc rfl strK (x:=b.ss[j].1.name) (by have:=hse.ln;dsimp only[IsStr,maxLen];omega) rfl hM2 ?_)))
   simp only[Bool.false_eq_true,if_false]
   rw[setM_at]
   show WL _ _ _ _ _ ((45,.int .i64 (m+1))::_) _
   refine j7 gc rfl (jl 47 rfl (fun hg=> ?_) (fun hg=> ?_))
   ·have hin:b.ss[j].1.name∈names:=Decidable.by_contra fun hn=>(by rw[if_neg hn] at hm;omega)
    refine j3 gc 26 rfl (gn ?_)
    exact j4 (true) rfl ⟨⟨by symm;rw[decide_eq_true_eq];exact fun k=>k.2 hin,hM2⟩,hb1,hX⟩
   have hin:b.ss[j].1.name∉names:=fun hn=>(by rw[if_pos hn] at hm;omega)
   refine j3 gc 1 rfl (j0 rfl (hb7.cell rfl) (j3 gc 3 rfl (jl 52 rfl (fun hg=> ?_) (fun hg=> ?_))))
   ·have hbad:¬yw3 b.ss[j].1:=fun k=>k.1 (Am hg)
    refine j3 gc 21 rfl (gn ?_)
    exact j4 (true) rfl ⟨⟨by symm;rw[decide_eq_true_eq];exact fun k=>hbad k.1,hM2⟩,hb1,hX⟩
   have h1:b.ss[j].1.name≠[]:=fun e=>hg (by rw[e];rfl)
   refine j3 gc 1 rfl (j0 rfl (hb7.cell rfl) (j3 gc 4 rfl (jl 58 rfl (fun hg=> ?_) (fun hg=> ?_))))
   ·have hbad:¬yw3 b.ss[j].1:=fun k=>by have:=k.2.1;have e:(um b.ss[j].1.name).size=b.ss[j].1.name.length:=rfl;omega
    refine j3 gc 15 rfl (gn ?_)
    exact j4 (true) rfl ⟨⟨by symm;rw[decide_eq_true_eq];exact fun k=>hbad k.1,hM2⟩,hb1,hX⟩
   have h2:b.ss[j].1.name.length≤32:=by have e:(um b.ss[j].1.name).size=b.ss[j].1.name.length:=rfl;omega
   refine j3 gc 1 rfl (j0 rfl (hb7.cell rfl) (j3 gc 1 rfl (j0 rfl (hb7.cell rfl) ?_)))
   refine gi call140 rfl (sside_calls w11 (q:=b.ss[j].1.was) (l:=b.ss[j].1.old)) fun v12 w12 hr12=> ?_
   obtain⟨rfl,rfl⟩:=hr12
   refine j3 gc 3 rfl (ua 66 rfl (fun hg=> ?_) (fun hg=> ?_))
   ·have hbad:¬yw3 b.ss[j].1:=fun k=>by have:=k.2.2.1;simp[this] at hg
    refine j3 gc 7 rfl (gn ?_)
    exact j4 (true) rfl ⟨⟨by symm;rw[decide_eq_true_eq];exact fun k=>hbad k.1,hM2⟩,hb1,hX⟩
   have h3:xq3 b.ss[j].1.was b.ss[j].1.old:=by simpa using hg
   refine j3 gc 1 rfl (j0 rfl (hb7.cell rfl) (j3 gc 1 rfl (j0 rfl (hb7.cell rfl) ?_)))
   refine gi call140 rfl (sside_calls w12 (q:=b.ss[j].1.is) (l:=b.ss[j].1.new)) fun v13 w13 hr13=> ?_
   obtain⟨rfl,rfl⟩:=hr13
   refine j3 gc 2 rfl (gn ?_)
   exact j4 (_) rfl ⟨⟨by rw[←decide_not,decide_eq_decide];exact⟨fun k l=>k l.1.2.2.2,fun k l=>k ⟨⟨h1,h2,h3,l⟩,hin⟩⟩,hM2⟩,hb1,hX⟩
  rintro z w14 ⟨⟨rfl,hM2⟩,hb1,hX⟩
  refine vh rfl (fun hc=> ?_) (fun hc=> ?_)
  ·have hno:¬Ba b.d:=fun k=>setsOk_no hj3 (fun l=>by have:=hstep.1 l;simp at hc;exact hc.elim (fun q=>q this.2.1) this.2.2) k.2.2.2
   refine jc rfl (gr (ji (gq (gq (ji (gq (gv rfl rfl ?_)))))))
   exact⟨by rw[decide_eq_false hno],hX⟩
  have hyes:=hstep.2 ⟨hsk,by simpa using hc⟩
  refine j6 (B4 rfl ?_)
  rw[IntWalk.i64_in _ zo]
  refine gn ?_
  exact jm (j+1) rfl ⟨⟨hj2,hyes,by rw[List.take_succ_eq_append_getElem hj3,List.map_append,←hnm,hgj];have e:=hm;rw[if_neg (by have:=hstep.1 hyes;exact this.2.2)] at e;subst e;rw[show(0:Int)+1=1 from rfl,cnt_step (hstep.1 hyes).2.2] at hM2;exact hM2⟩,hb1,hX⟩ zf
 have h0:j=b.ss.length:=by omega
 subst h0
 rw[List.take_of_length_le (by rw[List.length_map];exact Nat.le_refl _)] at hsk
 refine Bg (jc rfl (gr (gv rfl rfl ?_)))
 exact⟨by congr 1;symm;rw[decide_eq_true_eq];exact⟨by simp only[uk.d,List.length_map];omega,by simp only[uk.d,List.length_map];omega,fun o ho=>(by obtain⟨x,hx,rfl⟩:=List.mem_map.1 ho;exact hall x hx),hsk⟩,hX⟩
abbrev TyW (W w:World):Nat→Prop:=Ay W w 180 5
def WrS (W w:World) (b:Nat) (l:Bytes):Prop:=W.heap.size≤b∧∃p c,gz w b 180 [.slice p l.length c]∧ku W w p l.length c 5 1 (ge l)
theorem WrS.ga {W w w':World} {b:Nat} {l:Bytes} (h:WrS W w b l) (hE:Ext No w w'):WrS W w' b l:=by
 obtain⟨h1,p,c,h2,h3⟩:=h
 exact⟨h1,p,c,h2.ga hE,h3.ga hE⟩
theorem WrS.gk {W w w':World} {b:Nat} {l:Bytes} (h:WrS W w b l) {x T:Nat} {L:List Value} (hE:Ext (One x) w w') (hb:gz w x T L) (h1:180≠T) (h2:5≠T):WrS W w' b l:=by
 obtain⟨n,p,c,hw,ho⟩:=h
 exact⟨n,p,c,hw.gk hE (hw.ne hb h1),ho.gk hE hb h2⟩
theorem yj5 (a b:Bytes):ge a++ge b=ge (a++b):=(jy a b).symm
theorem slong_calls (w:World) {W:World} {b:Nat} {l:Bytes} (h:WrS W w b l) (hW:Ext No W w) {px:Option Addr} {cx:Nat} {x:Bytes} (hs:x3 w px x) (hl:l.length<900000000) (hx:x.length<65536):
  gp prog 88 [.pointer (some ⟨b,0,none⟩),.slice px x.length cx] w fun v w'=>v= .tuple #[]∧WrS W w' b (l++ve 2 x)∧Ext (TyW W w) w w':=by
 obtain⟨g,B,C,a,m⟩:=h
 refine gh func88 rfl rfl rfl rfl ?_
 have d:=Ext.refl (TyW W w) w
 refine yu rfl (j0 rfl (a.cell rfl) (j7 gc rfl ?_))
 rw[IntWalk.u16_in _ zo]
 have o:=hW
 refine gi call91 rfl (C3 w m.sl zo x.length hx) fun D E p=> ?_
 obtain⟨F,rfl,r,s,c⟩:=p
 have hs:=hs.ga c
 have a:=a.ga c
 have hW:=hW.gb c
 have d:=d.gb c
 have f:=ku.blk (n:=(l++be 2 x.length).length) (sz:=1) s (Nat.le_trans o.size r) (by rw[gm,Nat.mul_one]) (by simp only[List.length_append,jw];dsimp only[maxLen];omega)
 refine j7 gc rfl ?_
 have t:=f
 have u:=f.own
 refine wl (xd gc rfl 1 1 rfl rfl rfl zd f (Src.slice hs OneC.h) (by dsimp only[maxLen];(try simp only[List.length_append,jw]);omega) (by dsimp only;(try simp only[List.length_append,jw]);omega) (n':=(l++ve 2 x).length) (ys:=ge (l++ve 2 x)) (by simp only[List.length_append,jw,kw];omega) (by rw[ve,←List.append_assoc,jy (l++be 2 x.length)]) hW fun q k G f e z=> ?_)
 dsimp only at f e
 have a:=a.ke u e (show(5:Nat)≠180 from by decide)
 have d:=d.kl (e.mono fun y _=>Ay.own t y)
 have hW:=z
 refine j7 gc rfl (ky a rfl rfl rfl fun H i j A=> ?_)
 have d:=d.kl (j.mono fun y _=>Ay.one a g y)
 refine gn (ye rfl ?_)
 exact⟨rfl,⟨g,_,_,i,f.gk j a zd⟩,d⟩
theorem sshort_calls (w:World) {W:World} {b:Nat} {l:Bytes} (h:WrS W w b l) (hW:Ext No W w) {px:Option Addr} {cx:Nat} {x:Bytes} (hs:x3 w px x) (hsp:∀y off,px=some ⟨y,off,none⟩→¬TyW W w y) (hl:l.length<900000000) (hx:x.length<900000000):
  gp prog 89 [.pointer (some ⟨b,0,none⟩),.slice px x.length cx] w fun v w'=>v= .tuple #[]∧WrS W w' b (l++ve 1 x)∧Ext (TyW W w) w w':=by
 obtain⟨p,G,H,a,c⟩:=h
 have r:=c
 refine gh func89 rfl rfl rfl rfl ?_
 have f:=Ext.refl (TyW W w) w
 refine yu rfl (j0 rfl (a.cell rfl) (j7 gc rfl ?_))
 rw[x9]
 refine wl (qc gc rfl 1 rfl rfl rfl zd zd zt (l':=ge [UInt8.ofNat x.length]) rfl fun A I C s d D=> ?_)
 have hs:=hs.ga d
 have a:=a.ga d
 have c:=c.ga d
 have hW:=hW.gb d
 have f:=f.gb d
 have i:=c
 have t:=c.own
 refine wl (xd gc rfl 1 1 rfl rfl rfl zd c (Src.slice (m:=1) ⟨rfl,.inr ⟨A,0,rfl,s.ki⟩⟩ OneC.h) (by dsimp only[maxLen];(try simp only[List.length_append,jw]);omega) (by dsimp only;(try simp only[List.length_append,jw]);omega) (n':=(l.length+1)) (ys:=ge (l++be 1 x.length)) rfl (yj5 _ _) hW fun q k J j g n=> ?_)
 dsimp only at j g
 have a:=a.ke t g (show(5:Nat)≠180 from by decide)
 have hs:=hs.ext g fun y off e E=>hsp y off e (Ay.own r y E)
 have f:=f.kl (g.mono fun y _=>Ay.own i y)
 have hW:=n
 refine j7 gc rfl ?_
 have i:=j
 have B:=j.own
 refine wl (xd gc rfl 1 1 rfl rfl rfl zd j (Src.slice hs OneC.h) (by dsimp only[maxLen];(try simp only[List.length_append,jw]);omega) (by dsimp only;(try simp only[List.length_append,jw]);omega) (n':=(l++ve 1 x).length) (ys:=ge (l++ve 1 x)) (by simp only[List.length_append,kw];omega) (by rw[yj5,ve,List.append_assoc]) hW fun q k K j o n=> ?_)
 dsimp only at j o
 have a:=a.ke B o (show(5:Nat)≠180 from by decide)
 have f:=f.kl (o.mono fun y _=>Ay.own i y)
 have hW:=n
 refine j7 gc rfl (ky a rfl rfl rfl fun L u z F=> ?_)
 have f:=f.kl (z.mono fun y _=>Ay.one a p y)
 refine gn (ye rfl ?_)
 exact⟨rfl,⟨p,_,_,u,j.gk z a zd⟩,f⟩
theorem wside_calls (w:World) {W:World} {b:Nat} {l:Bytes} (h:WrS W w b l) (hW:Ext No W w) {q:Bool} {px:Option Addr} {cx:Nat} {x:Bytes} (hs:x3 W px x) (hl:l.length<800000000) (hx:x.length<65536):
  gp prog 90 [.pointer (some ⟨b,0,none⟩),.bool q,.slice px x.length cx] w fun v w'=>v= .tuple #[]∧WrS W w' b (l++sideB q x)∧Ext (TyW W w) w w':=by
 obtain⟨j,L,M,a,c⟩:=h
 refine gh func90 rfl rfl rfl rfl ?_
 have f:=Ext.refl (TyW W w) w
 have p:=a
 have r:=c
 have B:=hW
 refine kz (wl (qc gc rfl 1 rfl rfl rfl zd zd zt (l':=[.int .u8 0]) rfl fun s P k d g Q=> ?_))
 have C:=Nat.le_trans f.size k
 have a:=a.ga g
 have c:=c.ga g
 have hW:=hW.gb g
 have f:=f.gb g
 refine ju rfl (jv (α:=Unit) [0,2,6] rfl (fun z=>[]) (fun z u=>(gz u b 180 [.slice L l.length M]∧ku W u L l.length M 5 1 (ge l)∧Ext No W u)∧gz u s 5 (ge [isB q])∧Ext (TyW W w) w u) ?_ ?_)
 ·refine gl ?_
  refine j1 (ju rfl (vh rfl (fun D=> ?_) (fun D=> ?_)))
  ·have E:isB q=1:=by rw[D];rfl
   refine yu rfl (ka rfl 1 rfl 0 rfl zd (0+0*1) rfl (jb d rfl rfl (j7 gc rfl (ka rfl 1 rfl 0 rfl zd (0+0*1) rfl ?_))))
   refine ky d rfl rfl rfl fun R d i S=> ?_
   have a:=a.gk i (Nat.ne_of_lt (Nat.lt_of_lt_of_le p.lt k))
   have c:=ku.mk (c.own.ext i fun y T e=>(by have e:y=s:=e;have:=r.own.lt T;omega)) c.new
   have hW:=hW.gj i (Nat.le_trans B.size k)
   have f:=f.gj i C
   have d:gz R s 5 (ge [isB q]):=(by rw[E];exact d)
   refine gn ?_
   exact j4 (()) rfl ⟨⟨a,c,hW⟩,d,f⟩
  have E:isB q=0:=by rw[D];rfl
  refine j6 ?_
  have d:gz P s 5 (ge [isB q]):=by rw[E];exact d
  exact j4 (()) rfl ⟨⟨a,c,hW⟩,d,f⟩
 rintro⟨⟩ V ⟨⟨a,c,hW⟩,d,f⟩
 refine km rfl (j0 rfl (a.cell rfl) (j7 gc rfl ?_))
 have F:=c
 have t:=c.own
 refine wl (xd gc rfl 1 1 rfl rfl rfl zd c (Src.slice (m:=1) ⟨rfl,.inr ⟨s,0,rfl,d.ki⟩⟩ OneC.h) (by dsimp only[maxLen];(try simp only[List.length_append,jw]);omega) (by dsimp only;(try simp only[List.length_append,jw]);omega) (n':=(l++[isB q]).length) (ys:=ge (l++[isB q])) zi (yj5 _ _) hW fun X Y Z N n G=> ?_)
 dsimp only at N n
 have a:=a.ke t n (show(5:Nat)≠180 from by decide)
 have f:=f.kl (n.mono fun y _=>Ay.own F y)
 have hW:=G
 refine j7 gc rfl (ky a rfl rfl rfl fun O A o U=> ?_)
 have f:=f.kl (o.mono fun y _=>Ay.one a j y)
 have hW:=hW.gj o j
 have H:WrS W O b (l++[isB q]):=⟨j,_,_,A,N.gk o a zd⟩
 refine ql (yu rfl (gi call88 rfl (slong_calls O H hW (hs.ga hW) (by rw[List.length_append];show l.length+1<_;omega) hx) fun v6 w6 I=> ?_))
 obtain⟨rfl,J,K⟩:=I
 have f:=f.kl K
 refine gn (ye rfl ?_)
 exact⟨rfl,by rw[sideB,←List.append_assoc];exact J,f⟩
theorem objsB_len {l:List jk} (h:∀o∈l,yf o):(zz6 l).length≤l.length*802:=B6 fun o ho=>by
 have:=(h o ho).2
 rw[kw];omega
theorem sideB_len {q:Bool} {x:Bytes} (h:xq3 q x):(sideB q x).length≤4099:=by
 have:=h.1
 rw[sideB,List.length_append,kw,List.length_singleton];omega
theorem setB_len {s:yk} (h:yw3 s):(setB s).length≤9000:=by
 have h1:=sideB_len h.2.2.1
 have h2:=sideB_len h.2.2.2
 have h3:=h.2.1
 rw[setB,List.length_append,List.length_append,kw];omega
theorem setsB_len {l:List yk} (h:zj7 l):(l.flatMap setB).length≤l.length*9000:=B6 fun s hs=>setB_len (h.1 s hs)
def yr (b:Bx):Bytes:=if Ba b then up b else []
abbrev mayE (b:Bx):Int:=if Ba b then 0 else 2
theorem C0 (w:World) {b:uk} (h:Dk w b):
  gp prog 30 [b.v] w fun v w'=>∃q k,v= .tuple #[.slice q (yr b.d).length k,.int .i64 (mayE b.d)]∧ku w w' q (yr b.d).length k 5 1 (ge (yr b.d))∧Ext No w w':=by
 refine gh func30 rfl rfl rfl rfl ?_
 have f:=Ext.refl No w
 refine kz (gw rfl fun b1 w1 bz a b4=> ?_)
 have f:=f.gb b4
 have a:gz w1 b1 25 (b.c):=a
 refine ju rfl (gl (kz (jh a rfl rfl (gi call63 rfl (may_calls w1 (h.ga f)) fun v2 w2 b5=> ?_))))
 obtain⟨rfl,ag⟩:=b5
 have a:=a.ga ag
 have f:=f.gb ag
 refine ju rfl (vh rfl (fun hc=> ?_) (fun hc=> ?_))
 ·have G:¬Ba b.d:=by simpa using hc
  refine jc rfl (gr (gq (qk [_,_] ⟨rfl,rfl,trivial⟩ ?_)))
  exact⟨none,0,by rw[yr,if_neg G,mayE,if_neg G];rfl,by rw[yr,if_neg G];exact ku.nil _ _ _ _,f⟩
 have G:Ba b.d:=by simpa using hc
 have b6:=G.1
 have b7:=G.2.1
 have b8:=objsB_len G.2.2.1
 simp only[uk.d,List.length_map] at b6 b7 b8
 refine j6 (gy (kz (qa rfl trivial (l':=[.slice none 0 0]) rfl (gw rfl fun E w3 U r ah=> ?_))))
 have R:b1≠E:=Nat.ne_of_lt (Nat.lt_of_lt_of_le a.lt U)
 have V:=Nat.le_trans f.size U
 have a:=a.ga ah
 have f:=f.gb ah
 have r:gz w3 E 180 ([.slice none 0 0]):=r
 refine ju rfl (jc rfl (km rfl (j0 rfl (a.cell rfl) (j7 gc rfl ?_))))
 rw[IntWalk.u16_in _ zo]
 have ba:=f
 refine gi call91 rfl (C3 w3 (l:=[]) (p:=none) (c:=0) ⟨rfl,.inl rfl⟩ zd b.os.length zo) fun v4 w4 bb=> ?_
 obtain⟨bp,rfl,bc,ai,a3⟩:=bb
 have a:=a.ga a3
 have r:=r.ga a3
 have f:=f.gb a3
 have hq:=ku.blk (W:=w) (n:=(be 2 b.os.length).length) (sz:=1) ai (Nat.le_trans ba.size bc) (by rw[gm,List.nil_append,Nat.mul_one]) (by rw[jw];decide)
 rw[List.nil_append] at hq ai⊢
 refine j7 gc rfl ?_
 have a4:=r
 refine ky r rfl rfl rfl fun w5 r a5 c0=> ?_
 have a:=a.gk a5 R
 have f:=f.gj a5 V
 have r:gz w5 E 180 ([.slice (some ⟨bp,0,none⟩) (be 2 b.os.length).length (be 2 b.os.length).length]):=r
 have t:WrS w w5 E (be 2 b.os.length):=⟨V,_,_,r,hq.gk a5 a4 zd⟩
 refine ql (gl (km rfl (j0 rfl (a.cell rfl) (ju rfl (gu ?_)))))
 refine jn (α:=Nat) [1,4,5,6,7,35,36] rfl (fun z=>[(37,.int .i64 (z:Int))]) (fun z u=>(z≤b.os.length∧WrS w u E (be 2 b.os.length++zz6 ((b.os.map Prod.fst).take z)))∧gz u b1 25 (b.c)∧Ext No w u) (fun z u=>b.os.length-z) (0) rfl ⟨⟨Nat.zero_le _,by rw[List.take_zero,zz6,List.flatMap_nil,List.append_nil];exact t⟩,a,f⟩ ?_
 rintro i w6 ⟨⟨hi,t⟩,a,f⟩
 refine jc rfl (gl (jp rfl (fun hc=> ?_) (fun hc=> ?_)))
 ·have J:i<b.os.length:=by omega
  have aj:i<(b.os.map Prod.fst).length:=by rw[List.length_map];exact J
  obtain⟨q,qo,hp,a6⟩:=h.os.qv (objX_len fun x hx=>(h.o x hx).i) zo
  have ho:=h.o _ (List.getElem_mem J)
  have ak:(b.os.map Prod.fst)[i]=b.os[i].1:=List.getElem_map ..
  have F:yf b.os[i].1:=G.2.2.1 _ (by rw[←ak];exact List.getElem_mem aj)
  have c1:=F.2
  have a7:=objsB_len (l:=(b.os.map Prod.fst).take i) fun o h=>G.2.2.1 o (List.mem_of_mem_take h)
  rw[List.length_take,Nat.min_eq_left zo] at a7
  have al:encB b.os[i].1=laidB b.os[i].1:=if_pos F
  rw[hp]
  refine xy (gu (kz (ka rfl 73 rfl i rfl J (qo+i*73) rfl (jo rfl ((a6 i J).ga f) (gt ho.i) (gw rfl fun b9 w7 am S a8=> ?_)))))
  have a9:b1≠b9:=Nat.ne_of_lt (Nat.lt_of_lt_of_le a.lt am)
  have bd:=Nat.le_trans f.size am
  have a:=a.ga a8
  have t:=t.ga a8
  have f:=f.gb a8
  have an:=S
  refine wl (j8 (l':=Aq b.os[i]) gc S rfl rfl (gt ho.i) (gt ho.i) OneC.h fun w8 S aa c2=> ?_)
  have a:=a.gk aa a9
  have t:=t.gk aa an zd zd
  have f:=f.gj aa bd
  refine ql (kz (jh S rfl (gt ho.i) (gi call92 rfl (zv0 w8 ho.i (ho.l.ga f) ho.s) fun v9 w9 bf=> ?_)))
  obtain⟨q2,k2,rfl,ao,bq,ab⟩:=bf
  have a:=a.ga ab
  have t:=t.ga ab
  have f:=f.gb ab
  rw[al] at ao⊢
  refine ju rfl (yu rfl (gi call88 rfl (slong_calls w9 t f ao.sl (by simp only[List.length_append,jw];omega) zo) fun c3 c4 ap=> ?_))
  obtain⟨rfl,t,X⟩:=ap
  have a:=a.xc X zd zd
  have f:=f.xc X
  refine gn (B4 rfl ?_)
  rw[IntWalk.i64_in _ zo]
  refine gn ?_
  exact jm (i+1) rfl ⟨⟨J,by rw[List.take_succ_eq_append_getElem aj,zz6,List.flatMap_append,List.flatMap_singleton,←List.append_assoc,ak];exact t⟩,a,f⟩ zf
 have h0:i=b.os.length:=by omega
 subst h0
 rw[List.take_of_length_le (by rw[List.length_map];exact Nat.le_refl _)] at t
 obtain⟨ac,p,c,A,C⟩:=t
 refine Bg (gl ?_)
 refine jt rfl 15 [(0,true),(1,true),(2,true),(3,true),(4,true),(5,true),(6,true),(7,true),(8,true),(9,true),(10,false),(11,false),(12,true),(13,true),(14,true)] [15] (jd p) zk fun bg D br=> ?_
 have aq:=a
 have Y:=A
 have Z:=C
 have a:=a.ga D
 have A:=A.ga D
 have C:=C.ga D
 have f:=f.gb D
 have hC:Ext (jd p) _ bg:=D.no
 refine gx gc 5 rfl (j5 gc rfl rfl (fun w' ad=>((Y.ext (show Ext (jd p) _ w' from ad) fun ae=>Z.own.zx4 ae Y zd rfl).cell rfl)) ?_)
 refine gx gc 1 rfl (j5 gc rfl rfl (fun w' ad=>((aq.ext (show Ext (jd p) _ w' from ad) fun ae=>Z.own.zx4 ae aq zd rfl).cell rfl)) ?_)
 refine gx gc 2 rfl ?_
 rw[x9]
 refine jg rfl (qc gc rfl 1 rfl rfl rfl zd zd zt (l':=ge [UInt8.ofNat b.ss.length]) rfl fun bh c5 bt ar B bu=>⟨hC.gb B,?_⟩)
 have a:=a.ga B
 have A:=A.ga B
 have C:=C.ga B
 have f:=f.gb B
 have hC:=hC.gb B
 have a0:=C.own
 refine jg rfl (xd gc rfl 1 1 rfl rfl rfl zd C (Src.slice (m:=1) ⟨rfl,.inr ⟨bh,0,rfl,ar.ki⟩⟩ OneC.h) (by dsimp only[maxLen];simp only[List.length_append,jw];omega) (by dsimp only;simp only[List.length_append,jw];omega) (n':=(be 2 b.os.length++zz6 (b.os.map Prod.fst)++be 1 b.ss.length).length) (ys:=ge (be 2 b.os.length++zz6 (b.os.map Prod.fst)++be 1 b.ss.length)) (by simp only[List.length_append,jw]) (yj5 _ _) f fun q k c6 hq H f=>⟨hC.then H,?_⟩)
 dsimp only at hq H
 have a:=a.ke a0 H (show(5:Nat)≠25 from by decide)
 have A:=A.ke a0 H (show(5:Nat)≠180 from by decide)
 refine gx gc 3 rfl (jj (wb rfl (xr gc A rfl rfl rfl fun bi au K bv=> ?_)))
 have f:=f.gj K ac
 have a:=a.gk K (a.ne A zd)
 have t:WrS w bi E (be 2 b.os.length++zz6 (b.os.map Prod.fst)++be 1 b.ss.length):=⟨ac,_,_,au,hq.gk K A zd⟩
 refine j9 (gy (gl (km rfl (j0 rfl (a.cell rfl) (ju rfl (gu ?_))))))
 refine jn (α:=Nat) [4,6,7,66,67] rfl (fun z=>[(68,.int .i64 (z:Int))]) (fun z u=>(z≤b.ss.length∧WrS w u E (be 2 b.os.length++zz6 (b.os.map Prod.fst)++be 1 b.ss.length++((b.ss.map Prod.fst).take z).flatMap setB))∧gz u b1 25 (b.c)∧Ext No w u) (fun z u=>b.ss.length-z) (0) rfl ⟨⟨Nat.zero_le _,by rw[List.take_zero,List.flatMap_nil,List.append_nil];exact t⟩,a,f⟩ ?_
 rintro j c7 ⟨⟨hj,t⟩,a,f⟩
 refine jc rfl (gl (jp rfl (fun hc=> ?_) (fun hc=> ?_)))
 ·have M:j<b.ss.length:=by omega
  have av:j<(b.ss.map Prod.fst).length:=by rw[List.length_map];exact M
  obtain⟨q,qo,hp,a6⟩:=h.ss.qv (fun x _=>yz7 x) zo
  have aw:=h.s _ (List.getElem_mem M)
  have ax:(b.ss.map Prod.fst)[j]=b.ss[j].1:=List.getElem_map ..
  have F:yw3 b.ss[j].1:=G.2.2.2.1 _ (by rw[←ax];exact List.getElem_mem av)
  have c8:=F.2.1
  have c9:=F.2.2.1.1
  have ca:=F.2.2.2.1
  have a7:=setsB_len (l:=(b.ss.map Prod.fst).take j) ⟨fun s h=>G.2.2.2.1 s (List.mem_of_mem_take h),(List.Sublist.map _ (List.take_sublist _ _)).nodup G.2.2.2.2⟩
  rw[List.length_take,Nat.min_eq_left zo] at a7
  rw[hp]
  refine xy (gu (kz (ka rfl 5 rfl j rfl M (qo+j*5) rfl (jo rfl ((a6 j M).ga f) rfl (gw rfl fun bj cb a1 g N=> ?_)))))
  have T:b1≠bj:=Nat.ne_of_lt (Nat.lt_of_lt_of_le a.lt a1)
  have ay:=Nat.le_trans f.size a1
  have a:=a.ga N
  have t:=t.ga N
  have f:=f.gb N
  have af:=g
  refine wl (j8 (l':=xt b.ss[j]) gc g rfl rfl rfl rfl OneC.h fun cc g O bw=> ?_)
  have a:=a.gk O T
  have t:=t.gk O af zd zd
  have f:=f.gj O ay
  refine ql (km rfl (j0 rfl (g.cell rfl) (wl (st_s2b gc rfl fun bs cs bk bx bm cd az I=> ?_))))
  have a:=a.ga I
  have g:=g.ga I
  have t:=t.ga I
  have f:=f.gb I
  refine gi call89 rfl (sshort_calls bk t f bm (fun y ce e k=>by have e:bs=y:=congrArg Addr.block (Option.some.inj e);subst e;obtain⟨_,L,k|k⟩:=k;exact az _ _ k;exact az _ _ k) (by simp only[List.length_append,jw];omega) zo) fun cf bn b0=> ?_
  obtain⟨rfl,t,P⟩:=b0
  have a:=a.xc P zd zd
  have g:=g.xc P zd zd
  have f:=f.xc P
  refine ql (km rfl (j0 rfl (g.cell rfl) (j7 gc rfl (j0 rfl (g.cell rfl) ?_))))
  refine gi call90 rfl (wside_calls bn t f (q:=b.ss[j].1.was) aw.old (by simp only[List.length_append,jw,kw];omega) zo) fun cg bo b2=> ?_
  obtain⟨rfl,t,Q⟩:=b2
  have a:=a.xc Q zd zd
  have g:=g.xc Q zd zd
  have f:=f.xc Q
  refine ql (yu rfl (j0 rfl (g.cell rfl) (j7 gc rfl (j0 rfl (g.cell rfl) ?_))))
  refine gi call90 rfl (wside_calls bo t f (q:=b.ss[j].1.is) aw.new (by have:=sideB_len F.2.2.1;simp only[List.length_append,jw,kw];omega) zo) fun ch ci b3=> ?_
  obtain⟨rfl,t,a2⟩:=b3
  have a:=a.xc a2 zd zd
  have f:=f.xc a2
  refine gn (B4 rfl ?_)
  rw[IntWalk.i64_in _ zo]
  refine gn ?_
  exact jm (j+1) rfl ⟨⟨M,by rw[List.take_succ_eq_append_getElem av,List.flatMap_append,List.flatMap_singleton,ax,setB];simp only[←List.append_assoc];exact t⟩,a,f⟩ zf
 have h0:j=b.ss.length:=by omega
 subst h0
 rw[List.take_of_length_le (by rw[List.length_map];exact Nat.le_refl _)] at t
 have e1:yr b.d=be 2 b.os.length++zz6 (b.os.map Prod.fst)++be 1 b.ss.length++(b.ss.map Prod.fst).flatMap setB:=by rw[yr,if_pos G,up];simp only[uk.d,List.length_map]
 rw[←e1] at t
 obtain⟨ac,p,c,A,C⟩:=t
 refine Bg (km rfl (j0 rfl (A.cell rfl) (ju rfl (gr (qk [_,_] ⟨rfl,rfl,trivial⟩ ?_)))))
 exact⟨p,c,by rw[mayE,if_pos G];rfl,C,f⟩
theorem each_all {α:Type} {f:Ds→α×Ds} {P:α→Prop} (hf:∀s,(f s).2.rest.length≤s.rest.length) (hp:∀s,s.rest.length<1000000000→P (f s).1):∀(n:Nat) (s:Ds),s.rest.length<1000000000→∀x∈(Ds.each f n s).1,P x
 |0,s,_,x,hx=>by cases hx
 |n+1,s,hs,x,hx=>by
  rw[Ds.each] at hx
  split at hx
  ·cases hx
  rcases List.mem_cons.1 hx with rfl|hx
  ·exact hp s hs
  exact each_all hf hp n _ (Nat.lt_of_le_of_lt (hf s) hs) x hx
theorem row_len {α:Type} {f:Ds→α×Ds} (s:Ds):(s.row f).1.length<1000000000:=
 Nat.lt_of_le_of_lt (Ds.yx6 _ _) (Nat.lt_trans (s.vl 1) zd)
theorem row_rest {α:Type} {f:Ds→α×Ds} (hf:∀s,(f s).2.rest.length≤s.rest.length) (s:Ds):(s.row f).2.rest.length≤s.rest.length:=
 Nat.le_trans (yx6 hf _ _) (s.ul 1).2.1
theorem xv7 {α:Type} {f:Ds→α×Ds} {P:α→Prop} (hf:∀s,(f s).2.rest.length≤s.rest.length) (hp:∀s,s.rest.length<1000000000→P (f s).1) {s:Ds} (hs:s.rest.length<1000000000):∀x∈(s.row f).1,P x:=
 each_all hf hp _ _ (Nat.lt_of_le_of_lt (s.ul 1).2.1 hs)
theorem Ds.id_le (s:Ds):s.id.2.rest.length≤s.rest.length:=s.xj.2
def Co (o:jk):Prop:=u5 o∧Bf o
theorem xz4:Co ut:=⟨qd,zw⟩
theorem endB_dec {b:List UInt8} {o:jk×Ds} (h:Co o.1):Co (endB b o).1:=by
 unfold endB
 split
 ·exact xz4
 split
 ·exact h
 exact xz4
theorem com_dec {s:Ds} (hs:s.rest.length<1000000000):Co s.com.1:=by
 have c:(s.off 1).2.rest.length<1000000000:=Nat.lt_of_le_of_lt (s.ul 1).2.1 hs
 have a:(s.off 1).2.id.2.rest.length<1000000000:=Nat.lt_of_le_of_lt (Ds.id_le _) c
 have d:((s.off 1).2.id.2.row Ds.id).2.rest.length<1000000000:=Nat.lt_of_le_of_lt (row_rest Ds.id_le _) a
 have b:((s.off 1).2.id.2.row Ds.id).2.id.2.rest.length<1000000000:=Nat.lt_of_le_of_lt (Ds.id_le _) d
 refine⟨⟨(Ds.xj _).1,(Ds.xj _).1,xv7 Ds.id_le (fun s _=>(Ds.xj s).1) a,fun _ h=>absurd h List.not_mem_nil,?_,Ds.vl _ 4,Ds.vl _ 4⟩,⟨(show([]:List je).length<1000000000 from by decide),row_len _,row_len _,fun _ h=>absurd h List.not_mem_nil,?_⟩⟩
 ·exact xv7 (P:=fun r:ud=>r.path.length≤maxLen∧r.text.length≤maxLen) Ds.chg_le (fun s hs=>Ds.chg_in hs) b
 exact xv7 (P:=fun r:ud=>r.path.length<1000000000) Ds.chg_le (fun s hs=>Nat.lt_of_le_of_lt (s.vt 1).1 hs) b
theorem dec_ok {l:List UInt8} (hl:l.length<1000000000):Co (xv l).1:=by
 have a:((⟨l,false⟩:Ds).off 1).2.rest.length<1000000000:=Nat.lt_of_le_of_lt (Ds.ul _ 1).2.1 hl
 unfold xv
 split
 ·exact xz4
 dsimp only
 split
 ·exact endB_dec ⟨⟨qd.tree,qd.base,qd.parents,qd.leaves,qd.rows,qd.number,qd.author⟩,⟨zw.leaves,zw.parents,zw.rows,zw.leafP,zw.rowP⟩⟩
 split
 ·exact endB_dec ⟨⟨qd.tree,qd.base,qd.parents,xv7 (P:=fun r:je=>r.path.length≤maxLen∧r.id.length=32) Ds.leaf_le (fun s b=>Ds.leaf_in b) a,qd.rows,qd.number,qd.author⟩,⟨row_len _,zw.parents,zw.rows,xv7 (P:=fun r:je=>r.path.length<1000000000) Ds.leaf_le (fun s b=>Nat.lt_of_le_of_lt (s.vt 1).1 b) a,zw.rowP⟩⟩
 split
 ·exact endB_dec (com_dec a)
 exact xz4
theorem C2.rawN {w:World} {rb:Nat} {s:Ds} (h:C2 w rb s) (hl:s.rest.length<1000000000) (n:Nat):gp prog 103 [.pointer (some ⟨rb,0,none⟩),.int .i64 (n:Int)] w fun v w'=>∃q c,v= .slice q (s.off n).1.length c∧ku w w' q (s.off n).1.length c 5 1 (ge (s.off n).1)∧C2 w' rb (s.off n).2∧Ext (One rb) w w':=
 ((rawN_calls w h hl n)).mono fun v w' ⟨q,c,h1,h2,h3,h4⟩=>by
  have e:=off_eq s n
  rw[e] at h1 h2 h3
  exact⟨q,c,h1,⟨h2.1,h2.2⟩,h3,h4⟩
abbrev longV (b4:Nat):Value:= .func (.func 102) #[] #[.pointer (some ⟨b4,0,none⟩)]
structure Bc (W u:World) (rb b4 b6:Nat) (s:Ds):Prop where
  r:C2 u rb s
  p4:gz u b4 194 [.pointer (some ⟨rb,0,none⟩)]
  p6:gz u b6 135 [longV b4]
  nr:W.heap.size≤rb
  len:s.rest.length<1000000000
theorem Bc.ga {W w w':World} {rb b4 b6:Nat} {s:Ds} (h:Bc W w rb b4 b6 s) (hE:Ext No w w'):Bc W w' rb b4 b6 s:=⟨h.r.ga hE,h.p4.ga hE,h.p6.ga hE,h.nr,h.len⟩
def DecT (T:Nat):Prop:=264≠T∧5≠T∧194≠T∧135≠T
instance (T:Nat):Decidable (DecT T):=inferInstanceAs (Decidable (_∧_))
theorem Bc.gk {W w w':World} {rb b4 b6:Nat} {s:Ds} (h:Bc W w rb b4 b6 s) {x T:Nat} {L:List Value} (hE:Ext (One x) w w') (hb:gz w x T L) (hT:DecT T):Bc W w' rb b4 b6 s:=
 ⟨h.r.gk hE hb hT.1 hT.2.1,h.p4.gk hE (h.p4.ne hb hT.2.2.1),h.p6.gk hE (h.p6.ne hb hT.2.2.2),h.nr,h.len⟩
theorem Bc.ne {W w:World} {rb b4 b6:Nat} {s:Ds} (h:Bc W w rb b4 b6 s) {x T:Nat} {L:List Value} (hb:gz w x T L) (hT:264≠T):x≠rb:=(h.r.ne hb hT).symm
theorem Bc.rd {W w w':World} {rb b4 b6:Nat} {s s':Ds} (h:Bc W w rb b4 b6 s) (hr:C2 w' rb s') (hE:Ext (One rb) w w') (hl:s'.rest.length≤s.rest.length):Bc W w' rb b4 b6 s':=
 ⟨hr,h.p4.gk hE (h.ne h.p4 zd),h.p6.gk hE (h.ne h.p6 zd),h.nr,Nat.lt_of_le_of_lt hl h.len⟩
theorem Bc.own {W w w':World} {rb b4 b6:Nat} {s:Ds} (h:Bc W w rb b4 b6 s) {p:Option Addr} {n c T sz:Nat} {xs:List Value} (ho:Own w p n c T sz xs) (hE:Ext (jd p) w w') (hT:DecT T) (_hlt:∀x,jd p x→x<w.heap.size):Bc W w' rb b4 b6 s:=by
 rcases ho with⟨d,_⟩|⟨b,l,d,e,_⟩
 ·exact h.ga (hE.mono fun x _ a=>by rw[d] at a;cases a)
 exact h.gk (hE.mono fun x _ a=>by rw[d] at a;exact(congrArg Addr.block (Option.some.inj a)).symm) e hT
theorem rdNew {W w w':World} {rb:Nat} (hX:Ext No W w) (hE:Ext (One rb) w w') (hn:W.heap.size≤rb):Ext No W w':=hX.gj hE hn
abbrev xx1 (s:Ds):Bytes×Ds:=s.str 2
theorem zq9 (w:World) {W:World} {rb b4 b6:Nat} {s:Ds} (h:Bc W w rb b4 b6 s):
  gp prog 102 [.pointer (some ⟨b4,0,none⟩)] w fun v w'=>∃q c,v= .slice q (s.str 2).1.length c∧ku w w' q (s.str 2).1.length c 5 1 (ge (s.str 2).1)∧Bc W w' rb b4 b6 (s.str 2).2∧Ext (One rb) w w':=by
 have t:=s.vl 2
 refine gh func102 rfl rfl rfl rfl ?_
 have d:=Ext.refl (One rb) w
 refine jc rfl (gl (jt rfl 6 [(0,true),(1,true),(2,false),(3,true),(4,false),(5,true)] [] (One rb) zk fun u e x=> ?_))
 have g:=h
 have h:=h.ga e
 have d:=d.gb e
 have m:Ext (One rb) _ u:=e.no
 refine j5 gc rfl rfl (fun w' f=>((g.p4.ext (show Ext (One rb) _ w' from f) (g.ne g.p4 zd)).cell rfl)) ?_
 refine j5 gc rfl rfl (fun w' f=>((g.p4.ext (show Ext (One rb) _ w' from f) (g.ne g.p4 zd)).cell rfl)) ?_
 refine jg rfl (j2 call104 rfl (h.r.u16 h.len) fun z A i=>⟨(by obtain⟨rfl,j,a⟩:=i;exact m.then a),?_⟩)
 obtain⟨rfl,j,a⟩:=i
 have m:=m.then a
 have d:=d.then a
 have n:=h.rd j a (s.ul 2).2.1
 refine gx gc 1 rfl ?_
 rw[IntWalk.i64_in _ zo]
 have o:=d
 refine jg rfl (j2 call103 rfl (n.r.rawN n.len (num (s.off 2).1)) fun B C k=>⟨(by obtain⟨q,c,rfl,p,l,b⟩:=k;exact m.then b),?_⟩)
 obtain⟨q,c,rfl,p,l,b⟩:=k
 have d:=d.then b
 have y:=n.rd l b (Ds.ul _ _).2.1
 refine gx gc 1 rfl (jj (j9 (gy (gr (gv rfl rfl ?_)))))
 exact⟨q,c,rfl,p.older o.size,y,d⟩
theorem decobj_calls (w:World) {W:World} {rb b4 b5 b6:Nat} {s:Ds} (h:Bc W w rb b4 b6 s) {ok:Bool} (hb5:gz w b5 4 [.bool ok]):
  gp prog 106 [.pointer (some ⟨b6,0,none⟩),.pointer (some ⟨b5,0,none⟩)] w fun v w'=>∃a,v= .agg (jq (xv (s.str 2).1).1 a).toArray∧u4 w w' (xv (s.str 2).1).1 a∧Bc W w' rb b4 b6 (s.str 2).2∧gz w' b5 4 [.bool (ok&&decide ((xv (s.str 2).1).2=0))]∧Ext (fun x=>x=rb∨x=b5) w w':=by
 have C:=Nat.lt_of_le_of_lt (s.vt 2).1 h.len
 have j:=dec_ok C
 refine gh func106 rfl rfl rfl rfl ?_
 have g:=Ext.refl (fun x=>x=rb∨x=b5) w
 refine kz (gw rfl fun E N F b y=> ?_)
 have G:=Nat.le_trans g.size F
 have h:=h.ga y
 have hb5:=hb5.ga y
 have g:=g.gb y
 refine ql (kz (j0 rfl (h.p6.cell rfl) (gi call102 rfl (zq9 N h) fun V O H=> ?_)))
 obtain⟨q,c,rfl,P,Q,A⟩:=H
 have b:=b.gk A (h.ne b zd)
 have g:=g.then (A.mono fun _ _ e=> .inl e)
 have hb5:=hb5.gk A (h.ne hb5 zd)
 have h:=Q
 have I:=g
 refine gi call107 rfl (decode_calls O P.sl C) fun X Y J=> ?_
 obtain⟨a,rfl,i,r⟩:=J
 have b:=b.ga r
 have h:=h.ga r
 have hb5:=hb5.ga r
 have g:=g.gb r
 have i:=i.older I.size
 refine j7 gc rfl (gw rfl fun M Z D f k=> ?_)
 have B:E≠M:=Nat.ne_of_lt (Nat.lt_of_lt_of_le b.lt D)
 have K:=Nat.le_trans g.size D
 have b:=b.ga k
 have h:=h.ga k
 have hb5:=hb5.ga k
 have i:=i.ga k
 have g:=g.gb k
 have l:=f
 refine wl (j8 (l':=jq (xv (s.str 2).1).1 a) gc f rfl rfl (gt j.1) (gt j.1) OneC.h fun w5 f m R=> ?_)
 have b:=b.gk m B
 have h:=h.gk m l zd
 have hb5:=hb5.gk m (hb5.ne l zd)
 have i:=i.gk m l zd zd zd
 have g:=g.gj m K
 refine ju rfl ?_
 refine jv (α:=Bool) [2,3] rfl (fun z=>[]) (fun z u=>(z=(ok&&decide ((xv (s.str 2).1).2=0))∧Bc W u rb b4 b6 (s.str 2).2∧gz u b5 4 [.bool z]∧u4 w u (xv (s.str 2).1).1 a)∧gz u E 37 (cellsOf ti37.zero)∧gz u M 37 (jq (xv (s.str 2).1).1 a)∧Ext (fun x=>x=rb∨x=b5) w u) ?_ ?_
 ·refine j1 ?_
  refine j0 rfl (hb5.cell rfl) (j7 gc rfl (ua 12 rfl (fun L=> ?_) (fun L=> ?_)))
  ·refine j3 gc 3 rfl ?_
   have d:=hb5
   refine ky hb5 rfl rfl rfl fun w6 hb5 n S=> ?_
   have h:=h.gk n d zd
   have i:=i.gk n d zd zd zd
   have b:=b.gk n (b.ne d zd)
   have f:=f.gk n (f.ne d zd)
   have g:=g.then (n.mono fun _ _ e=> .inr e)
   refine gn ?_
   exact j4 (_) rfl ⟨⟨by rw[L];rfl,h,hb5,i⟩,b,f,g⟩
  refine j3 gc 3 rfl ?_
  have d:=hb5
  refine ky hb5 rfl rfl rfl fun w7 hb5 o T=> ?_
  have h:=h.gk o d zd
  have i:=i.gk o d zd zd zd
  have b:=b.gk o (b.ne d zd)
  have f:=f.gk o (f.ne d zd)
  have g:=g.then (o.mono fun _ _ e=> .inr e)
  refine gn ?_
  exact j4 (false) rfl ⟨⟨by rw[L];rfl,h,hb5,i⟩,b,f,g⟩
 rintro z w8 ⟨⟨rfl,h,hb5,i⟩,b,f,g⟩
 refine kz (jh f rfl (gt j.1) ?_)
 have p:=b
 refine wl (j8 (l':=jq (xv (s.str 2).1).1 a) gc b rfl rfl (gt j.1) (by rw[gt j.1];rfl) OneC.h fun w9 b t U=> ?_)
 have h:=h.gk t p zd
 have hb5:=hb5.gk t (hb5.ne p zd)
 have i:=i.gk t p zd zd zd
 have g:=g.gj t G
 refine ql (gr (qk [_] ⟨⟨E,0,rfl,qu gc rfl rfl b.ki (gt j.1)⟩,trivial⟩ ?_))
 exact⟨a,rfl,i,h,hb5,g⟩
structure SevO (w W u:World) (rb b4 b5 b6:Nat) (s:Ds) (n:Nat) (ok:Bool) (q:Option Addr) (k:Nat) (xs:List yq4):Prop where
  own:ku w u q xs.length k 37 73 (xs.flatMap Aq)
  all:∀x∈xs,Co x.1∧u4 w u x.1 x.2
  i:Bc W u rb b4 b6 (Ds.each xx1 n s).2
  few:xs.length≤n
  b5:∃o,gz u b5 4 [.bool o]∧((Ds.each xx1 n s).2.bad=false→xs.map Prod.fst=(Ds.each xx1 n s).1.map (fun y=>(xv y).1)∧o=(ok&&(Ds.each xx1 n s).1.all fun y=>decide ((xv y).2=0)))
theorem objZc:cellsOf ti37.zero=jq ut noP:=by kernel_rfl
theorem xw0 {o:jk} {a:vb} (h:u5 o):xh (Bw 1 (jq ut noP)) [(0*(0+73),0+73,.agg (jq o a).toArray)]=jq o a:=by
 simp only[xh,jf]
 rw[Nat.zero_mul,A7 (by rw[ub,gt h,gt qd])]
theorem u4.extT {W0 w w':World} {o:jk} {a:vb} (h:u4 W0 w o a) {p:Option Addr} {n c T sz:Nat} {xs:List Value} (ho:Own w p n c T sz xs) (hE:Ext (jd p) w w') (h1:148≠T) (h2:30≠T) (h3:150≠T):u4 W0 w' o a:=by
 rcases ho with⟨e,_⟩|⟨b,l,e,f,_⟩
 ·exact h.ga (hE.mono fun x _ d=>by rw[e] at d;cases d)
 exact h.gk (hE.mono fun x _ d=>by rw[e] at d;exact(congrArg Addr.block (Option.some.inj d)).symm) f h1 h2 h3
theorem Own.not2 {w:World} {p:Option Addr} {n c T sz:Nat} {xs:List Value} (h:Own w p n c T sz xs) {rb b5:Nat} {s:Ds} {v:List Value} (hr:C2 w rb s) (hb:gz w b5 4 v) (h1:264≠T) (h2:T≠4):∀y,jd p y→¬(y=rb∨y=b5):=fun y hy e=>by
 obtain⟨l,hl⟩:=h.zq2 hy
 exact e.elim (fun e=>hr.ne hl h1 e.symm) fun e=>hl.ne hb h2 e
theorem objNew_keep {W0 w w':World} {o:jk} {a:vb} (h:u4 W0 w o a) {rb b5:Nat} {s:Ds} {v:List Value} (hE:Ext (fun x=>x=rb∨x=b5) w w') (hr:C2 w rb s) (hb:gz w b5 4 v):u4 W0 w' o a:=
 ⟨h.ol.ext hE (Own.not2 h.ol hr hb zd zd),h.op.ext hE (Own.not2 h.op hr hb zd zd),h.or.ext hE (Own.not2 h.or hr hb zd zd),h.nl,h.np,h.nr⟩
theorem ds_err {s:Ds}:s.err=0↔s.bad=false:=by unfold Ds.err;cases s.bad<;>simp
theorem each_bad {α:Type} {f:Ds→α×Ds} {n:Nat} {s:Ds} (h:s.bad=true):Ds.each f n s=([],s):=Ds.each_end (.inr h)
theorem sevobj_calls (w:World) {W:World} {rb b4 b5 b6:Nat} {s:Ds} (h:Bc W w rb b4 b6 s) {ok:Bool} (hb5:gz w b5 4 [.bool ok]) (n:Nat) (hn:n<65536) (hs:n=0∨s.bad=false):
  gp prog 105 [.pointer (some ⟨rb,0,none⟩),.int .i64 (n:Int),.func (.func 106) #[] #[.pointer (some ⟨b6,0,none⟩),.pointer (some ⟨b5,0,none⟩)]] w fun v w'=>∃q k xs,v= .slice q xs.length k∧SevO w W w' rb b4 b5 b6 s n ok q k xs∧Ext (fun x=>x=rb∨x=b5) w w':=by
 refine gh func105 rfl rfl rfl rfl ?_
 have hX:=Ext.refl (fun x=>x=rb∨x=b5) w
 refine jc rfl ?_
 refine jv (α:=Option Addr×Nat×List yq4) [] rfl (fun z=>[(6,.slice z.1 z.2.2.length z.2.1)]) (fun z u=>(SevO w W u rb b4 b5 b6 s n ok z.1 z.2.1 z.2.2)∧Ext (fun x=>x=rb∨x=b5) w u) ?_ ?_
 ·refine gl ?_
  refine j1 (ju rfl (gu ?_))
  refine jn (α:=Nat×Option Addr×Nat×List yq4×Ds×List Bytes×Bool) [0,2,8] rfl (fun z=>[(6,.slice z.2.1 z.2.2.2.1.length z.2.2.1),(9,.int .i64 (z.1:Int))]) (fun z u=>((z.1≤n∧(z.1=n∨z.2.2.2.2.1.bad=false)∧z.2.2.2.1.length=z.1∧Ds.each xx1 n s=(z.2.2.2.2.2.1++(Ds.each xx1 (n-z.1) z.2.2.2.2.1).1,(Ds.each xx1 (n-z.1) z.2.2.2.2.1).2)∧z.2.2.2.1.map Prod.fst=z.2.2.2.2.2.1.map (fun y=>(xv y).1)∧z.2.2.2.2.2.2=(ok&&z.2.2.2.2.2.1.all fun y=>decide ((xv y).2=0)))∧ku w u z.2.1 z.2.2.2.1.length z.2.2.1 37 73 (z.2.2.2.1.flatMap Aq)∧(∀x∈z.2.2.2.1,Co x.1∧u4 w u x.1 x.2)∧Bc W u rb b4 b6 z.2.2.2.2.1∧gz u b5 4 [.bool z.2.2.2.2.2.2])∧Ext (fun x=>x=rb∨x=b5) w u) (fun z u=>n-z.1) (0,none,0,[],s,[],ok) rfl ⟨⟨⟨Nat.zero_le _,hs.imp Eq.symm id,rfl,rfl,rfl,by simp⟩,ku.nil _ _ _ _,fun _ h=>(by cases h),h,hb5⟩,hX⟩ ?_
  rintro⟨i,q,k,xs,s1,ys,o⟩ w1 ⟨⟨⟨hi,hib,hxl,hea,hmp,ho⟩,hq,hall,h,hb5⟩,hX⟩
  try dsimp only
  dsimp only at hi hib hxl hea hmp ho hq hall h hb5
  refine jc rfl (gl (jp rfl (fun hc=> ?_) (fun hc=> ?_)))
  ·have hi2:i<n:=by omega
   have hnb:s1.bad=false:=hib.elim (fun e=>by omega) id
   have hsl:=Nat.lt_of_le_of_lt (s1.vt 2).1 h.len
   have hdk:=dec_ok hsl
   rw[show n-i=(n-i-1)+1 from by omega,Ds.each_step hnb] at hea
   refine xy (gu (km rfl ?_))
   have hX3:=hX
   have hqo:=hq
   have hallo:=hall
   have hrw:=h
   refine gi call106 rfl (decobj_calls w1 h hb5) fun v2 w2 hr2=> ?_
   obtain⟨a,rfl,hN,h2,hb52,hE2⟩:=hr2
   have hX:=hX.then hE2
   have hq:=ku.mk (hqo.own.ext hE2 (Own.not2 hqo.own hrw.r hb5 zd zd)) hqo.new
   have hall:(∀x∈xs,Co x.1∧u4 w w2 x.1 x.2):=fun x hx=>⟨(hallo x hx).1,objNew_keep (hallo x hx).2 hE2 hrw.r hb5⟩
   have h:=h2
   have hb5:=hb52
   have hN:=hN.older hX3.size
   have hqb:=hq
   refine gw rfl fun b7 w3 hn7 hb7 hE3=> ?_
   have fr7:=Nat.le_trans hX.size hn7
   have h:=h.ga hE3
   have hb5:=hb5.ga hE3
   have hq:=hq.ga hE3
   have hall:=fun x hx=>And.intro (hall x hx).1 ((hall x hx).2.ga hE3)
   have hN:=hN.ga hE3
   have hX:=hX.gb hE3
   have hq7:∀y,jd q y→y≠b7:=fun y hy=>Nat.ne_of_lt (Nat.lt_of_lt_of_le (hqb.own.lt hy) hn7)
   have hb7o:=hb7
   refine wl (j8 (l':=jq (xv (s1.str 2).1).1 a) gc hb7 rfl rfl (gt hdk.1) (gt hdk.1) OneC.h fun w4 hb7 hE4 hs4=> ?_)
   have h:=h.gk hE4 hb7o zd
   have hb5:=hb5.gk hE4 (hb5.ne hb7o zd)
   have hq:=ku.mk (hq.own.ext hE4 fun y hy e=>hq7 y hy e) hq.new
   have hall:=fun x hx=>And.intro (hall x hx).1 ((hall x hx).2.gk hE4 hb7o zd zd zd)
   have hN:=hN.gk hE4 hb7o zd zd zd
   have hX:=hX.gj hE4 fr7
   refine ql (gl (km rfl (gi call111 rfl (h.r.err) fun v5 w5 hr5=> ?_)))
   obtain⟨rfl,rfl⟩:=hr5
   refine ju rfl (jp rfl (fun hc=> ?_) (fun hc=> ?_))
   ·have hbad:(xx1 s1).2.bad=true:=by
     have:=mt ds_err.2 hc
     simpa using this
    have he2:(Ds.each xx1 n s).2=(xx1 s1).2:=by rw[hea];dsimp only;rw[each_bad hbad]
    refine xw ?_
    exact qj (f_blockE' rfl (qj (qj (uv (j4 (q,k,xs) rfl ⟨⟨hq,hall,by rw[he2];exact h,by dsimp only;omega,_,hb5,fun hb=>by rw[he2,hbad] at hb;cases hb⟩,hX⟩)))))
   have hgood:(xx1 s1).2.bad=false:=ds_err.1 (Decidable.not_not.1 hc)
   refine j6 (gy (yu rfl (jh hb7 rfl (gt hdk.1) ?_)))
   refine wl (qc gc rfl 73 rfl objZc (gt qd) zd zd ⟨⟨by rw[jf];exact gt hdk.1,by decide⟩,trivial⟩ (l':=jq (xv (s1.str 2).1).1 a) (xw0 hdk.1) fun b18 w6 hn18 hb18 hE6 hs6=> ?_)
   have ne7_18:b7≠b18:=Nat.ne_of_lt (Nat.lt_of_lt_of_le hb7.lt hn18)
   have fr18:=Nat.le_trans hX.size hn18
   have hb7:=hb7.ga hE6
   have h:=h.ga hE6
   have hb5:=hb5.ga hE6
   have hq:=hq.ga hE6
   have hall:=fun x hx=>And.intro (hall x hx).1 ((hall x hx).2.ga hE6)
   have hN:=hN.ga hE6
   have hX:=hX.gb hE6
   have hqo:=hq.own
   refine wl (xd gc rfl 73 192 rfl rfl rfl zd hq (Src.slice (m:=1) ⟨gt hdk.1,.inr ⟨b18,0,rfl,hb18.ki⟩⟩ OneC.h) zm zn (n':=(xs++[((xv (s1.str 2).1).1,a)]).length) (ys:=(xs++[((xv (s1.str 2).1).1,a)]).flatMap Aq) zi (by rw[List.flatMap_append,List.flatMap_singleton];rfl) hX fun q k w7 hq hE7 hX=> ?_)
   dsimp only at hq hE7
   have h:=h.own hqo hE7 zd fun x=>hqo.lt
   have hb5:=hb5.ke hqo hE7 zd
   have hall:=fun x hx=>And.intro (hall x hx).1 ((hall x hx).2.extT hqo hE7 zd zd zd)
   have hN:=hN.extT hqo hE7 zd zd zd
   refine j7 gc rfl (gn (B4 rfl ?_))
   rw[IntWalk.i64_in _ zo]
   refine gn ?_
   exact jm (i+1,q,k,xs++[((xv (s1.str 2).1).1,a)],(xx1 s1).2,ys++[(s1.str 2).1],o&&decide ((xv (s1.str 2).1).2=0)) rfl ⟨⟨⟨hi2,.inr hgood,by simp[hxl],by rw[hea];simp[show n-(i+1)=n-i-1 from by omega],by rw[List.map_append,List.map_append,hmp];rfl,by rw[ho,List.all_append];simp[Bool.and_assoc]⟩,hq,fun x hx=>(List.mem_append.1 hx).elim (hall x) (fun e=>by rw[List.mem_singleton.1 e];exact⟨hdk,hN⟩),h,hb5⟩,hX⟩ zf
  have h0:i=n:=by omega
  subst h0
  rw[Nat.sub_self] at hea
  have he1:(Ds.each xx1 i s).1=ys:=by rw[hea];simp[Ds.each]
  have he2:(Ds.each xx1 i s).2=s1:=by rw[hea];rfl
  refine xw ?_
  exact qj (qj (uv (j4 (q,k,xs) rfl ⟨⟨hq,hall,by rw[he2];exact h,by dsimp only;omega,_,hb5,fun _=>by rw[he1];exact⟨hmp,ho⟩⟩,hX⟩)))
 rintro⟨q,k,xs⟩ w8 ⟨hS,hX⟩
 try dsimp only
 dsimp only at hS
 refine jc rfl (gr (gv rfl rfl ?_))
 exact⟨q,k,xs,rfl,hS,hX⟩
structure xi (W w:World) (x:C9):Prop where
  old:ku W w x.2.op x.1.old.length x.2.oc 5 1 (ge x.1.old)
  new:ku W w x.2.np x.1.new.length x.2.nc 5 1 (ge x.1.new)
  ln:x.1.name.length<1000000000
  lo:x.1.old.length<1000000000
  lw:x.1.new.length<1000000000
theorem xi.ga {W w w':World} {x:C9} (h:xi W w x) (hE:Ext No w w'):xi W w' x:=⟨h.old.ga hE,h.new.ga hE,h.ln,h.lo,h.lw⟩
theorem xi.gk {W w w':World} {x:C9} (h:xi W w x) {b T:Nat} {L:List Value} (hE:Ext (One b) w w') (hb:gz w b T L) (hT:5≠T):xi W w' x:=⟨h.old.gk hE hb hT,h.new.gk hE hb hT,h.ln,h.lo,h.lw⟩
theorem xi.at {W w:World} {x:C9} (h:xi W w x):SetAt w x:=⟨h.old.sl,h.new.sl,h.ln,h.lo,h.lw⟩
theorem xi.yq3 {W w w':World} {x:C9} (h:xi W w x) {p2:Option Addr} {n2 c2 T2 sz2:Nat} {xs2:List Value} (ho:Own w p2 n2 c2 T2 sz2 xs2) (hE:Ext (jd p2) w w') (hT:5≠T2):xi W w' x:=⟨h.old.yq3 ho hE hT,h.new.yq3 ho hE hT,h.ln,h.lo,h.lw⟩
theorem ownRd {W w w':World} {p:Option Addr} {n c T sz:Nat} {xs:List Value} (h:ku W w p n c T sz xs) {rb:Nat} {s:Ds} (hE:Ext (One rb) w w') (hr:C2 w rb s) (hT:264≠T):ku W w' p n c T sz xs:=
 ⟨h.own.ext hE fun y hy e=>by obtain⟨l,hl⟩:=h.own.zq2 hy;exact hr.ne hl hT (by have e:y=rb:=e;exact e.symm),h.new⟩
theorem xi.rd {W w w':World} {x:C9} (h:xi W w x) {rb:Nat} {s:Ds} (hE:Ext (One rb) w w') (hr:C2 w rb s):xi W w' x:=⟨ownRd h.old hE hr zd,ownRd h.new hE hr zd,h.ln,h.lo,h.lw⟩
theorem setZc:cellsOf ti91.zero=xt (⟨[],false,false,[],[]⟩,⟨none,0,none,0⟩):=by kernel_rfl
theorem xi.older {V W w:World} {x:C9} (h:xi W w x) (hV:V.heap.size≤W.heap.size):xi V w x:=⟨h.old.older hV,h.new.older hV,h.ln,h.lo,h.lw⟩
theorem decset_calls (w:World) {W:World} {rb b4 b6:Nat} {s:Ds} (h:Bc W w rb b4 b6 s):
  gp prog 110 [.pointer (some ⟨b4,0,none⟩),.pointer (some ⟨b6,0,none⟩)] w fun v w'=>∃a,v= .agg (xt (s.set.1,a)).toArray∧xi w w' (s.set.1,a)∧Bc W w' rb b4 b6 s.set.2∧Ext (One rb) w w':=by
 have F:=s.vl 1
 have T:=h.len
 refine gh func110 rfl rfl rfl rfl ?_
 have e:=Ext.refl (One rb) w
 refine kz (gw rfl fun y w1 U b G=> ?_)
 have l:=Nat.le_trans e.size U
 have h:=h.ga G
 have e:=e.gb G
 have b:gz w1 y 91 (xt (⟨[],false,false,[],[]⟩,⟨none,0,none,0⟩)):=b
 refine ql (gl (jt rfl 7 [(0,true),(1,true),(2,false),(3,true),(4,false),(5,false),(6,true)] [7] (One rb) zk fun w2 u a5=> ?_))
 have E:=h
 have b:=b.ga u
 have h:=h.ga u
 have e:=e.gb u
 have z:Ext (One rb) _ w2:=u.no
 refine j5 gc rfl rfl (fun w' A=>((E.p4.ext (show Ext (One rb) _ w' from A) (E.ne E.p4 zd)).cell rfl)) ?_
 refine j5 gc rfl rfl (fun w' A=>((E.p4.ext (show Ext (One rb) _ w' from A) (E.ne E.p4 zd)).cell rfl)) ?_
 have x:=h
 refine jg rfl (j2 call109 rfl (h.r.u8 h.len) fun v3 w3 H=>⟨(by obtain⟨rfl,m,n⟩:=H;exact z.then n),?_⟩)
 obtain⟨rfl,m,n⟩:=H
 have b:=b.gk n (h.ne b zd)
 have e:=e.then n
 have z:=z.then n
 have h:=h.rd m n (s.ul 1).2.1
 refine gx gc 1 rfl ?_
 rw[IntWalk.i64_in _ zo]
 have h1:=h
 refine jg rfl (j2 call103 rfl (h.r.rawN h.len (num (s.off 1).1)) fun v4 w4 I=>⟨(by obtain⟨q,c,rfl,hq,J,o⟩:=I;exact z.then o),?_⟩)
 obtain⟨q,c,rfl,hq,J,o⟩:=I
 have b:=b.gk o (h.ne b zd)
 have e:=e.then o
 have z:=z.then o
 have h:Bc W w4 rb b4 b6 (s.str 1).2:=h.rd J o (Ds.ul _ _).2.1
 have V:=Nat.lt_of_le_of_lt (s.vt 1).1 T
 refine jg rfl (zw0 gc rfl rfl hq.sl ⟨z,?_⟩)
 refine gx gc 1 rfl (jj ?_)
 have d:=b
 refine wb rfl (xr gc b rfl rfl rfl fun w5 b K a6=> ?_)
 have h:=h.gk K d zd
 have e:=e.gj K l
 have b:gz w5 y 91 (xt (⟨(s.str 1).1,false,false,[],[]⟩,⟨none,0,none,0⟩)):=b
 refine j9 (gy (kz (j0 rfl (h.p4.cell rfl) ?_)))
 have x:=h
 have F:=Ds.vl (s.str 1).2 1
 refine gi call109 rfl (h.r.u8 h.len) fun v6 w6 X=> ?_
 obtain⟨rfl,m,B⟩:=X
 have b:=b.gk B (h.ne b zd)
 have e:=e.then B
 have h:=h.rd m B (Ds.ul _ _).2.1
 refine j7 gc rfl ?_
 rw[show decide ((0:Int)<((num ((s.str 1).2.off 1).1:Nat):Int))=decide (0<num ((s.str 1).2.off 1).1) from by rw[decide_eq_decide];omega]
 refine j7 gc rfl ?_
 have d:=b
 refine ky b rfl rfl rfl fun w7 b L a7=> ?_
 have h:=h.gk L d zd
 have e:=e.gj L l
 have b:gz w7 y 91 (xt (⟨(s.str 1).1,(decide (0<num ((s.str 1).2.off 1).1)),false,[],[]⟩,⟨none,0,none,0⟩)):=b
 refine ql (kz (j0 rfl (h.p6.cell rfl) ?_))
 have C:=e
 have x:=h
 refine gi call102 rfl (zq9 w7 h) fun v8 w8 Y=> ?_
 obtain⟨M,N,rfl,f,Z,O⟩:=Y
 have b:=b.gk O (h.ne b zd)
 have e:=e.then O
 have h:=Z
 have f:=f.older C.size
 have a0:=Nat.lt_of_le_of_lt (Ds.vt ((s.str 1).2.off 1).2 2).1 x.len
 refine j7 gc rfl ?_
 have d:=b
 refine ky b rfl rfl rfl fun w9 b D a8=> ?_
 have h:=h.gk D d zd
 have f:=f.gk D d zd
 have e:=e.gj D l
 have b:gz w9 y 91 (xt (⟨(s.str 1).1,(decide (0<num ((s.str 1).2.off 1).1)),false,(((s.str 1).2.off 1).2.str 2).1,[]⟩,⟨M,N,none,0⟩)):=b
 refine ql (kz (j0 rfl (h.p4.cell rfl) ?_))
 have x:=h
 have F:=Ds.vl (((s.str 1).2.off 1).2.str 2).2 1
 refine gi call109 rfl (h.r.u8 h.len) fun a9 aa P=> ?_
 obtain⟨rfl,m,i⟩:=P
 have b:=b.gk i (h.ne b zd)
 have e:=e.then i
 have h:=h.rd m i (Ds.ul _ _).2.1
 have f:=ownRd f i x.r zd
 refine j7 gc rfl ?_
 rw[show decide ((0:Int)<((num ((((s.str 1).2.off 1).2.str 2).2.off 1).1:Nat):Int))=decide (0<num ((((s.str 1).2.off 1).2.str 2).2.off 1).1) from by rw[decide_eq_decide];omega]
 refine j7 gc rfl ?_
 have d:=b
 refine ky b rfl rfl rfl fun Q b p a2=> ?_
 have h:=h.gk p d zd
 have f:=f.gk p d zd
 have e:=e.gj p l
 have b:gz Q y 91 (xt (⟨(s.str 1).1,(decide (0<num ((s.str 1).2.off 1).1)),(decide (0<num ((((s.str 1).2.off 1).2.str 2).2.off 1).1)),(((s.str 1).2.off 1).2.str 2).1,[]⟩,⟨M,N,none,0⟩)):=b
 refine ql (kz (j0 rfl (h.p6.cell rfl) ?_))
 have C:=e
 have x:=h
 refine gi call102 rfl (zq9 Q h) fun ab ac R=> ?_
 obtain⟨q2,c2,rfl,g,Z,t⟩:=R
 have b:=b.gk t (h.ne b zd)
 have e:=e.then t
 have h:=Z
 have g:=g.older C.size
 have S:=Nat.lt_of_le_of_lt (Ds.vt ((((s.str 1).2.off 1).2.str 2).2.off 1).2 2).1 x.len
 have f:=ownRd f t x.r zd
 refine j7 gc rfl ?_
 have d:=b
 refine ky b rfl rfl rfl fun a1 b j a3=> ?_
 have h:=h.gk j d zd
 have f:=f.gk j d zd
 have g:=g.gk j d zd
 have e:=e.gj j l
 have b:gz a1 y 91 (xt (⟨(s.str 1).1,(decide (0<num ((s.str 1).2.off 1).1)),(decide (0<num ((((s.str 1).2.off 1).2.str 2).2.off 1).1)),(((s.str 1).2.off 1).2.str 2).1,(((((s.str 1).2.off 1).2.str 2).2.off 1).2.str 2).1⟩,⟨M,N,q2,c2⟩)):=b
 refine ql (kz (jh b rfl rfl ?_))
 have d:=b
 refine wl (j8 (l':=xt (⟨(s.str 1).1,(decide (0<num ((s.str 1).2.off 1).1)),(decide (0<num ((((s.str 1).2.off 1).2.str 2).2.off 1).1)),(((s.str 1).2.off 1).2.str 2).1,(((((s.str 1).2.off 1).2.str 2).2.off 1).2.str 2).1⟩,⟨M,N,q2,c2⟩)) gc b rfl rfl rfl rfl OneC.h fun ad b k a4=> ?_)
 have h:=h.gk k d zd
 have f:=f.gk k d zd
 have g:=g.gk k d zd
 have e:=e.gj k l
 refine ql (gr (qk [_] ⟨⟨y,0,rfl,qu gc rfl rfl b.ki rfl⟩,trivial⟩ ?_))
 exact⟨⟨M,N,q2,c2⟩,rfl,⟨f,g,V,a0,S⟩,h,e⟩
structure SevS (w W u:World) (rb b4 b6:Nat) (s:Ds) (n:Nat) (q:Option Addr) (k:Nat) (xs:List C9):Prop where
  own:ku w u q xs.length k 91 5 (xs.flatMap xt)
  all:∀x∈xs,xi w u x
  i:Bc W u rb b4 b6 (Ds.each Ds.set n s).2
  few:xs.length≤n
  eq:(Ds.each Ds.set n s).2.bad=false→xs.map Prod.fst=(Ds.each Ds.set n s).1
theorem set_put (x:C9):xh (Bw 1 (xt (⟨[],false,false,[],[]⟩,⟨none,0,none,0⟩))) [(0*(0+5),0+5,.agg (xt x).toArray)]=xt x:=rfl
theorem sevset_calls (w:World) {W:World} {rb b4 b6:Nat} {s:Ds} (h:Bc W w rb b4 b6 s) (n:Nat) (hn:n<65536) (hs:n=0∨s.bad=false):
  gp prog 108 [.pointer (some ⟨rb,0,none⟩),.int .i64 (n:Int),.func (.func 110) #[] #[.pointer (some ⟨b4,0,none⟩),.pointer (some ⟨b6,0,none⟩)]] w fun v w'=>∃q k xs,v= .slice q xs.length k∧SevS w W w' rb b4 b6 s n q k xs∧Ext (One rb) w w':=by
 refine gh func108 rfl rfl rfl rfl ?_
 have c:=Ext.refl (One rb) w
 refine jc rfl (jv (α:=Option Addr×Nat×List C9) [] rfl (fun z=>[(6,.slice z.1 z.2.2.length z.2.1)]) (fun z u=>(SevS w W u rb b4 b6 s n z.1 z.2.1 z.2.2)∧Ext (One rb) w u) ?_ ?_)
 ·refine gl ?_
  refine j1 (ju rfl (gu ?_))
  refine jn (α:=Nat×Option Addr×Nat×List C9×Ds) [0,2,8] rfl (fun z=>[(6,.slice z.2.1 z.2.2.2.1.length z.2.2.1),(9,.int .i64 (z.1:Int))]) (fun z u=>((z.1≤n∧(z.1=n∨z.2.2.2.2.bad=false)∧z.2.2.2.1.length=z.1∧Ds.each Ds.set n s=(z.2.2.2.1.map Prod.fst++(Ds.each Ds.set (n-z.1) z.2.2.2.2).1,(Ds.each Ds.set (n-z.1) z.2.2.2.2).2))∧ku w u z.2.1 z.2.2.2.1.length z.2.2.1 91 5 (z.2.2.2.1.flatMap xt)∧(∀x∈z.2.2.2.1,xi w u x)∧Bc W u rb b4 b6 z.2.2.2.2)∧Ext (One rb) w u) (fun z u=>n-z.1) (0,none,0,[],s) rfl ⟨⟨⟨Nat.zero_le _,hs.imp Eq.symm id,rfl,rfl⟩,ku.nil _ _ _ _,fun _ h=>(by cases h),h⟩,c⟩ ?_
  rintro⟨i,q,k,xs,g⟩ w1 ⟨⟨⟨hi,I,J,f⟩,d,b,h⟩,c⟩
  try dsimp only
  dsimp only at hi I J f d b h
  refine jc rfl (gl (jp rfl (fun K=> ?_) (fun K=> ?_)))
  ·have O:i<n:=by omega
   have P:g.bad=false:=I.elim (fun e=>by omega) id
   rw[show n-i=(n-i-1)+1 from by omega,Ds.each_step P] at f
   refine xy (gu (km rfl ?_))
   have Q:=c
   have L:=h
   refine gi call110 rfl (decset_calls w1 h) fun v2 w2 R=> ?_
   obtain⟨a,rfl,j,h2,G⟩:=R
   have c:=c.then G
   have d:=ownRd d G L.r zd
   have b:=fun x l=>(b x l).rd G L.r
   have h:=h2
   have j:=j.older Q.size
   have S:=d
   refine gw rfl fun b7 w3 M B o=> ?_
   have T:=Nat.le_trans c.size M
   have h:=h.ga o
   have d:=d.ga o
   have b:=fun x l=>(b x l).ga o
   have j:=j.ga o
   have c:=c.gb o
   have U:∀y,jd q y→y≠b7:=fun y V=>Nat.ne_of_lt (Nat.lt_of_lt_of_le (S.own.lt V) M)
   have p:=B
   refine wl (j8 (l':=xt (g.set.1,a)) gc B rfl rfl rfl rfl OneC.h fun w4 B t a1=> ?_)
   have h:=h.gk t p zd
   have d:=ku.mk (d.own.ext t fun y V e=>U y V e) d.new
   have b:=fun x l=>(b x l).gk t p zd
   have j:=j.gk t p zd
   have c:=c.gj t T
   refine ql (gl (km rfl (gi call111 rfl (h.r.err) fun v5 w5 X=> ?_)))
   obtain⟨rfl,rfl⟩:=X
   refine ju rfl (jp rfl (fun K=> ?_) (fun K=> ?_))
   ·have F:g.set.2.bad=true:=by
     have:=mt ds_err.2 K
     simpa using this
    have C:(Ds.each Ds.set n s).2=g.set.2:=by rw[f];dsimp only;rw[each_bad F]
    refine xw ?_
    exact qj (f_blockE' rfl (qj (qj (uv (j4 (q,k,xs) rfl ⟨⟨d,b,by rw[C];exact h,by dsimp only;omega,fun hb=>by rw[C,F] at hb;cases hb⟩,c⟩)))))
   have H:g.set.2.bad=false:=ds_err.1 (Decidable.not_not.1 K)
   refine j6 (gy (yu rfl (jh B rfl rfl (wl (qc gc rfl 5 rfl setZc rfl zd zd ⟨⟨rfl,by decide⟩,trivial⟩ (l':=xt (g.set.1,a)) (set_put _) fun Y w6 a0 N A a2=> ?_)))))
   have h:=h.ga A
   have d:=d.ga A
   have b:=fun x l=>(b x l).ga A
   have j:=j.ga A
   have c:=c.gb A
   have D:=d.own
   refine wl (xd gc rfl 5 72 rfl rfl rfl zd d (Src.slice (m:=1) ⟨rfl,.inr ⟨Y,0,rfl,N.ki⟩⟩ OneC.h) zm zn (n':=(xs++[(g.set.1,a)]).length) (ys:=(xs++[(g.set.1,a)]).flatMap xt) zi (by rw[List.flatMap_append,List.flatMap_singleton]) c fun q k w7 d E c=> ?_)
   dsimp only at d E
   have h:=h.own D E zd fun x=>D.lt
   have b:=fun x l=>(b x l).yq3 D E zd
   have j:=j.yq3 D E zd
   refine j7 gc rfl (gn (B4 rfl ?_))
   rw[IntWalk.i64_in _ zo]
   refine gn ?_
   exact jm (i+1,q,k,xs++[(g.set.1,a)],g.set.2) rfl ⟨⟨⟨O,.inr H,by simp[J],by rw[f];simp[show n-(i+1)=n-i-1 from by omega]⟩,d,fun x l=>(List.mem_append.1 l).elim (b x) (fun e=>by rw[List.mem_singleton.1 e];exact j),h⟩,c⟩ zf
  have h0:i=n:=by omega
  subst h0
  rw[Nat.sub_self] at f
  have Z:(Ds.each Ds.set i s).1=xs.map Prod.fst:=by rw[f];simp[Ds.each]
  have C:(Ds.each Ds.set i s).2=g:=by rw[f];rfl
  refine xw ?_
  exact qj (qj (uv (j4 (q,k,xs) rfl ⟨⟨d,b,by rw[C];exact h,by dsimp only;omega,fun _=>Z.symm⟩,c⟩)))
 rintro⟨q,k,xs⟩ w8 ⟨hS,c⟩
 try dsimp only
 dsimp only at hS
 refine jc rfl (gr (gv rfl rfl ?_))
 exact⟨q,k,xs,rfl,hS,c⟩
structure Ae (W w:World) (B:uk):Prop where
  os:ku W w B.op B.os.length B.oc 37 73 (B.os.flatMap Aq)
  ss:ku W w B.sp B.ss.length B.sc 91 5 (B.ss.flatMap xt)
  o:∀x∈B.os,Co x.1∧u4 W w x.1 x.2
  s:∀x∈B.ss,xi W w x
  lo:B.os.length<1000000
  ls:B.ss.length<1000000
theorem Ae.at {W w:World} {B:uk} (h:Ae W w B):Dk w B:=⟨h.os.sl,h.ss.sl,fun x hx=>⟨(h.o x hx).1.1,(h.o x hx).1.2,(h.o x hx).2.l⟩,fun x hx=>(h.s x hx).at,h.lo,h.ls⟩
theorem Ae.ga {W w w':World} {B:uk} (h:Ae W w B) (hE:Ext No w w'):Ae W w' B:=⟨h.os.ga hE,h.ss.ga hE,fun x hx=>⟨(h.o x hx).1,(h.o x hx).2.ga hE⟩,fun x hx=>(h.s x hx).ga hE,h.lo,h.ls⟩
abbrev B5:uk:=⟨none,0,[],none,0,[]⟩
theorem Ae.no (W w:World):Ae W w B5:=⟨ku.nil _ _ _ _,ku.nil _ _ _ _,fun _ h=>(by cases h),fun _ h=>(by cases h),by decide,by decide⟩
theorem off_okS (s:Ds) (n:Nat):num (s.off n).1=0∨(s.off n).2.bad=false:=by
 unfold Ds.off;split
 ·exact .inl rfl
 exact .inr rfl
theorem off_badS {s:Ds} {n:Nat} (h:(s.off n).2.bad=false):s.bad=false:=by
 unfold Ds.off at h;split at h
 ·cases h
 rename_i h1
 cases hb:s.bad
 ·rfl
 exact absurd (.inl hb) h1
theorem each_good {α:Type} {f:Ds→α×Ds} {n:Nat} {s:Ds} (h:(Ds.each f n s).2.bad=false):s.bad=false:=by
 cases hb:s.bad
 ·rfl
 rw[each_bad hb,hb] at h;cases h
theorem objNew_rd {W w w':World} {o:jk} {a:vb} (h:u4 W w o a) {rb:Nat} {s:Ds} (hE:Ext (One rb) w w') (hr:C2 w rb s):u4 W w' o a:=
 ⟨(ownRd ⟨h.ol,h.nl⟩ hE hr zd).own,(ownRd ⟨h.op,h.np⟩ hE hr zd).own,(ownRd ⟨h.or,h.nr⟩ hE hr zd).own,h.nl,h.np,h.nr⟩
theorem Ae.extB {W w w':World} {B:uk} (h:Ae W w B) {b:Nat} {L:List Value} (hE:Ext (One b) w w') (hb:gz w b 25 L):Ae W w' B:=
 ⟨h.os.gk hE hb zd,h.ss.gk hE hb zd,fun x hx=>⟨(h.o x hx).1,(h.o x hx).2.gk hE hb zd zd zd⟩,fun x hx=>(h.s x hx).gk hE hb zd,h.lo,h.ls⟩
theorem sdecode_calls (w:World) {p:Option Addr} {c:Nat} {l:Bytes} (hs:x3 w p l) (hl:l.length<1000000000):
  gp prog 36 [.slice p l.length c] w fun v w'=>∃B:uk,v= .tuple #[B.v,.int .i64 (vj l).2]∧B.d=(vj l).1∧Ae w w' B∧Ext No w w':=by
 have hs00:=hs
 refine gh func36 rfl rfl rfl rfl ?_
 have hX:=Ext.refl No w
 refine kz (gw rfl fun b2 w1 hn2 hb2 hE1=> ?_)
 have fr2:=Nat.le_trans hX.size hn2
 have hs:=hs.ga hE1
 have hX:=hX.gb hE1
 have hb2:gz w1 b2 25 (B5.c):=hb2
 refine ju rfl (km rfl ?_)
 have hXr:=hX
 have hs0:=hs
 refine gi call101 rfl (Cm w1 hs hl) fun v2 w2 hr2=> ?_
 obtain⟨rb,rfl,hnr,hR0,hE2⟩:=hr2
 have hb2:=hb2.ga hE2
 have hs:=hs.ga hE2
 have hX:=hX.gb hE2
 have hnr:=Nat.le_trans hXr.size hnr
 have hR:C2 w2 rb ⟨l,false⟩:=hR0
 refine gw rfl fun b4 w3 hn4 hb4 hE3=> ?_
 have ne2_4:b2≠b4:=Nat.ne_of_lt (Nat.lt_of_lt_of_le hb2.lt hn4)
 have fr4:=Nat.le_trans hX.size hn4
 have hb2:=hb2.ga hE3
 have hR:=hR.ga hE3
 have hX:=hX.gb hE3
 have hb4o:=hb4
 refine ky hb4 rfl rfl rfl fun w4 hb4 hE4 hs4=> ?_
 have hb2:=hb2.gk hE4 ne2_4
 have hR:=hR.gk hE4 hb4o zd zd
 have hX:=hX.gj hE4 fr4
 have hb4:gz w4 b4 194 ([.pointer (some ⟨rb,0,none⟩)]):=hb4
 refine ql (kz (gw rfl fun b5 w5 hn5 hb5 hE5=> ?_))
 have ne2_5:b2≠b5:=Nat.ne_of_lt (Nat.lt_of_lt_of_le hb2.lt hn5)
 have ne4_5:b4≠b5:=Nat.ne_of_lt (Nat.lt_of_lt_of_le hb4.lt hn5)
 have fr5:=Nat.le_trans hX.size hn5
 have hb2:=hb2.ga hE5
 have hb4:=hb4.ga hE5
 have hR:=hR.ga hE5
 have hX:=hX.gb hE5
 have hb5o:=hb5
 refine ky hb5 rfl rfl rfl fun w6 hb5 hE6 hs6=> ?_
 have hb2:=hb2.gk hE6 ne2_5
 have hb4:=hb4.gk hE6 ne4_5
 have hR:=hR.gk hE6 hb5o zd zd
 have hX:=hX.gj hE6 fr5
 have hb5:gz w6 b5 4 ([.bool true]):=hb5
 refine ql (km rfl (gw rfl fun b6 w7 hn6 hb6 hE7=> ?_))
 have ne2_6:b2≠b6:=Nat.ne_of_lt (Nat.lt_of_lt_of_le hb2.lt hn6)
 have ne4_6:b4≠b6:=Nat.ne_of_lt (Nat.lt_of_lt_of_le hb4.lt hn6)
 have ne5_6:b5≠b6:=Nat.ne_of_lt (Nat.lt_of_lt_of_le hb5.lt hn6)
 have fr6:=Nat.le_trans hX.size hn6
 have hb2:=hb2.ga hE7
 have hb4:=hb4.ga hE7
 have hb5:=hb5.ga hE7
 have hR:=hR.ga hE7
 have hX:=hX.gb hE7
 have hb6o:=hb6
 refine ky hb6 rfl rfl rfl fun w8 hb6 hE8 hs8=> ?_
 have hb2:=hb2.gk hE8 ne2_6
 have hb4:=hb4.gk hE8 ne4_6
 have hb5:=hb5.gk hE8 ne5_6
 have hR:=hR.gk hE8 hb6o zd zd
 have hX:=hX.gj hE8 fr6
 have hb6:gz w8 b6 135 ([longV b4]):=hb6
 have h:Bc w w8 rb b4 b6 ⟨l,false⟩:=⟨hR,hb4,hb6,hnr,hl⟩
 obtain⟨s0,hs0e⟩:∃s0:Ds,s0=⟨l,false⟩:=⟨_,rfl⟩
 rw[←hs0e] at h
 refine ql (kz (gw rfl fun b7 w9 hn7 hb7 hE9=> ?_))
 have ne2_7:b2≠b7:=Nat.ne_of_lt (Nat.lt_of_lt_of_le hb2.lt hn7)
 have ne5_7:b5≠b7:=Nat.ne_of_lt (Nat.lt_of_lt_of_le hb5.lt hn7)
 have fr7:=Nat.le_trans hX.size hn7
 have hb2:=hb2.ga hE9
 have hb5:=hb5.ga hE9
 have h:=h.ga hE9
 have hX:=hX.gb hE9
 have hb7:gz w9 b7 25 (B5.c):=hb7
 refine ql (gl (jt rfl 7 [(0,true),(1,true),(4,true),(2,false),(3,true),(5,false),(6,true)] [7] ((fun x=>x=rb∨x=b5)) zk fun w10 hE10 hs10=> ?_))
 have hd2:=hb2
 have hd5:=hb5
 have hd7:=hb7
 have hsd:=hs
 have hRd:=hR
 have hd:=h
 have hXd:=hX
 have hb2:=hb2.ga hE10
 have hb5:=hb5.ga hE10
 have hb7:=hb7.ga hE10
 have h:=h.ga hE10
 have hX:=hX.gb hE10
 have hC:Ext ((fun x=>x=rb∨x=b5)) _ w10:=hE10.no
 have hnm:=s0.vl 2
 refine j5 gc rfl rfl (fun w' hw'=>((hd.p4.ext (show Ext (fun x=>x=rb∨x=b5) _ w' from hw') fun e=>e.elim (hd.ne hd.p4 zd) (hd.p4.ne hd5 zd)).cell rfl)) ?_
 refine j5 gc rfl rfl (fun w' hw'=>((hd.p4.ext (show Ext (fun x=>x=rb∨x=b5) _ w' from hw') fun e=>e.elim (hd.ne hd.p4 zd) (hd.p4.ne hd5 zd)).cell rfl)) ?_
 refine gx gc 1 rfl (jg rfl (j2 call104 rfl (h.r.u16 h.len) fun v11 w11 hr11=>⟨(by obtain⟨rfl,hR1,hE11⟩:=hr11;exact hC.then (hE11.mono fun _ _ e=> .inl e)),?_⟩))
 obtain⟨rfl,hR1,hE11⟩:=hr11
 have hb2:=hb2.gk hE11 (h.ne hb2 zd)
 have hb5:=hb5.gk hE11 (h.ne hb5 zd)
 have hb7:=hb7.gk hE11 (h.ne hb7 zd)
 have hX:=rdNew hX hE11 h.nr
 have hC:=hC.then (hE11.mono fun _ _ e=> .inl e)
 have h:=h.rd hR1 hE11 (s0.ul 2).2.1
 refine gx gc 1 rfl ?_
 rw[IntWalk.i64_in _ zo]
 have hX0:=hX
 refine jg rfl (j2 call105 rfl (sevobj_calls w11 h hb5 (num (s0.off 2).1) zo (off_okS _ 2)) fun v12 w12 hr12=>⟨(by obtain⟨q,k,xs,rfl,hS,hE12⟩:=hr12;exact hC.then hE12),?_⟩)
 obtain⟨q,k,xs,rfl,hS,hE12⟩:=hr12
 have hC:=hC.then hE12
 have hb2:=hb2.ext hE12 fun e=>e.elim (h.ne hb2 zd) ne2_5
 have hb7:=hb7.ext hE12 fun e=>e.elim (h.ne hb7 zd) ne5_7.symm
 have hX:=hX.newer hE12 fun y e=>e.elim (fun e=>e▸h.nr) fun e=>e▸fr5
 obtain⟨o,hb5,hS5⟩:=hS.b5
 have hfew:=hS.few
 obtain⟨s1,hs1⟩:∃s1,s1=Ds.each xx1 (num (s0.off 2).1) (s0.off 2).2:=⟨_,rfl⟩
 have h:=hS.i
 rw[←hs1] at h hS5
 have hqo:=hS.own.older hX0.size
 have halo:∀x∈xs,Co x.1∧u4 w w12 x.1 x.2:=fun x hx=>⟨(hS.all x hx).1,(hS.all x hx).2.older hX0.size⟩
 refine gx gc 1 rfl (jj ?_)
 have hb7o:=hb7
 refine wb rfl (xr gc hb7 rfl rfl rfl fun w13 hb7 hE13 hs13=> ?_)
 have hb2:=hb2.gk hE13 ne2_7
 have hb5:=hb5.gk hE13 ne5_7
 have h:=h.gk hE13 hb7o zd
 have hqo:=hqo.gk hE13 hb7o zd
 have halo:=fun x hx=>And.intro (halo x hx).1 ((halo x hx).2.gk hE13 hb7o zd zd zd)
 have hX:=hX.gj hE13 fr7
 have hb7:gz w13 b7 25 ([.slice q xs.length k,.slice none 0 0]):=hb7
 refine j9 (gy (gl (jt rfl 7 [(0,true),(1,true),(4,true),(2,false),(3,true),(5,false),(6,true)] [7] (One rb) zk fun w14 hE14 hs14=> ?_)))
 have hd2:=hb2
 have hd5:=hb5
 have hd7:=hb7
 have hsd:=hs
 have hRd:=hR
 have hd:=h
 have hqod:=hqo
 have halod:=halo
 have hXd:=hX
 have hb2:=hb2.ga hE14
 have hb5:=hb5.ga hE14
 have hb7:=hb7.ga hE14
 have h:=h.ga hE14
 have hqo:=hqo.ga hE14
 have halo:=fun x hx=>And.intro (halo x hx).1 ((halo x hx).2.ga hE14)
 have hX:=hX.gb hE14
 have hC:Ext (One rb) _ w14:=hE14.no
 have hnm2:=s1.2.vl 1
 refine j5 gc rfl rfl (fun w' hw'=>((hd.p4.ext (show Ext (One rb) _ w' from hw') (hd.ne hd.p4 zd)).cell rfl)) ?_
 refine j5 gc rfl rfl (fun w' hw'=>((hd.p4.ext (show Ext (One rb) _ w' from hw') (hd.ne hd.p4 zd)).cell rfl)) ?_
 refine gx gc 1 rfl ?_
 have h0:=h
 refine jg rfl (j2 call109 rfl (h.r.u8 h.len) fun v15 w15 hr15=>⟨(by obtain⟨rfl,hR1,hE15⟩:=hr15;exact hC.then hE15),?_⟩)
 obtain⟨rfl,hR1,hE15⟩:=hr15
 have hb2:=hb2.gk hE15 (h.ne hb2 zd)
 have hb5:=hb5.gk hE15 (h.ne hb5 zd)
 have hb7:=hb7.gk hE15 (h.ne hb7 zd)
 have hX:=rdNew hX hE15 h.nr
 have hC:=hC.then hE15
 have hqo:=ownRd hqo hE15 h0.r zd
 have halo:=fun x hx=>And.intro (halo x hx).1 (objNew_rd (halo x hx).2 hE15 h0.r)
 have h:=h.rd hR1 hE15 (s1.2.ul 1).2.1
 refine gx gc 1 rfl ?_
 rw[IntWalk.i64_in _ zo]
 have hX0:=hX
 have h0:=h
 refine jg rfl (j2 call108 rfl (sevset_calls w15 h (num (s1.2.off 1).1) zo (off_okS _ 1)) fun v16 w16 hr16=>⟨(by obtain⟨q2,k2,ss,rfl,hT,hE16⟩:=hr16;exact hC.then hE16),?_⟩)
 obtain⟨q2,k2,ss,rfl,hT,hE16⟩:=hr16
 have hb2:=hb2.gk hE16 (h.ne hb2 zd)
 have hb5:=hb5.gk hE16 (h.ne hb5 zd)
 have hb7:=hb7.gk hE16 (h.ne hb7 zd)
 have hX:=rdNew hX hE16 h.nr
 have hC:=hC.then hE16
 have hqo:=ownRd hqo hE16 h0.r zd
 have halo:=fun x hx=>And.intro (halo x hx).1 (objNew_rd (halo x hx).2 hE16 h0.r)
 obtain⟨s2,hs2⟩:∃s2,s2=Ds.each Ds.set (num (s1.2.off 1).1) (s1.2.off 1).2:=⟨_,rfl⟩
 have h:=hT.i
 have hTe:=hT.eq
 have hfew2:=hT.few
 rw[←hs2] at h hTe
 have hN:Ae w w16 (uk.mk q k xs q2 k2 ss):=⟨hqo,hT.own.older hX0.size,halo,fun x hx=>(hT.all x hx).older hX0.size,by show xs.length<_;omega,by show ss.length<_;omega⟩
 have hraw:rawB l=((s1.1,s2.1),s2.2):=by rw[hs2,hs1,hs0e];rfl
 refine gx gc 1 rfl (jj ?_)
 have hb7o:=hb7
 refine wb rfl (xr gc hb7 rfl rfl rfl fun w17 hb7 hE17 hs17=> ?_)
 have hb2:=hb2.gk hE17 ne2_7
 have hb5:=hb5.gk hE17 ne5_7
 have h:=h.gk hE17 hb7o zd
 have hN:=hN.extB hE17 hb7o
 have hX:=hX.gj hE17 fr7
 have hb7:gz w17 b7 25 ((uk.mk q k xs q2 k2 ss).c):=hb7
 refine j9 (gy (gl (kz (j0 rfl (h.p4.cell rfl) (gi call111 rfl (h.r.err) fun v18 w18 hr18=> ?_)))))
 obtain⟨rfl,rfl⟩:=hr18
 refine ju rfl (jp rfl (fun hc=> ?_) (fun hc=> ?_))
 ·have hbad:s2.2.bad=true:=by
   have:=mt ds_err.2 hc
   simpa using this
  have hrd:vj l=(yz6,7):=by rw[vj,hraw];exact if_pos hbad
  refine kz (qa rfl trivial (l':=B5.c) rfl ?_)
  have hb2o:=hb2
  refine wl (j8 (l':=B5.c) gc hb2 rfl rfl rfl rfl OneC.h fun w19 hb2 hE19 hs19=> ?_)
  have hb5:=hb5.gk hE19 ne2_5.symm
  have hb7:=hb7.gk hE19 ne2_7.symm
  have h:=h.gk hE19 hb2o zd
  have hN:=hN.extB hE19 hb2o
  have hX:=hX.gj hE19 fr2
  refine ju rfl (gr (gq (qk [_,_] ⟨⟨b2,0,rfl,qu gc rfl rfl hb2.ki rfl⟩,rfl,trivial⟩ ?_)))
  exact⟨B5,by rw[hrd];rfl,by rw[hrd];rfl,Ae.no _ _,hX⟩
 have hgood:s2.2.bad=false:=ds_err.1 (Decidable.not_not.1 hc)
 have hg1:s1.2.bad=false:=off_badS (each_good (f:=Ds.set) (by rw[←hs2];exact hgood))
 obtain⟨hxe,hoe⟩:=hS5 hg1
 have hse:=hTe hgood
 have hbd:(uk.mk q k xs q2 k2 ss).d=batOf (rawB l).1:=by rw[hraw];show Bx.mk (xs.map Prod.fst) (ss.map Prod.fst)=_;rw[hxe,hse];rfl
 have hrd:vj l=if(∀y∈s1.1,(xv y).2=0)∧Ba (uk.mk q k xs q2 k2 ss).d∧up (uk.mk q k xs q2 k2 ss).d=l then((uk.mk q k xs q2 k2 ss).d,0) else(yz6,2):=by rw[vj,hbd,hraw];exact if_neg (by rw[hgood];decide)
 refine j6 (gy (kz (jh hb7 rfl rfl (gi call30 rfl (C0 w18 (b:=(uk.mk q k xs q2 k2 ss)) hN.at) fun v20 w20 hr20=> ?_))))
 obtain⟨q3,k3,rfl,hq3,hE20⟩:=hr20
 have hb2:=hb2.ga hE20
 have hb5:=hb5.ga hE20
 have hb7:=hb7.ga hE20
 have h:=h.ga hE20
 have hN:=hN.ga hE20
 have hX:=hX.gb hE20
 refine ju rfl (gl ?_)
 refine jv (α:=Bool) [2,7] rfl (fun z=>[(48,.bool z)]) (fun z u=>(z=decide (¬((∀y∈s1.1,(xv y).2=0)∧Ba (uk.mk q k xs q2 k2 ss).d∧up (uk.mk q k xs q2 k2 ss).d=l))∧Ae w u (uk.mk q k xs q2 k2 ss))∧gz u b2 25 (B5.c)∧gz u b7 25 ((uk.mk q k xs q2 k2 ss).c)∧Ext No w u) ?_ ?_
 ·refine j1 ?_
  refine j0 rfl (hb5.cell rfl) (j7 gc rfl (ua 38 rfl (fun hg=> ?_) (fun hg=> ?_)))
  ·have hno:¬∀y∈s1.1,(xv y).2=0:=fun k=>by
    rw[hoe] at hg
    simp at hg
    obtain⟨y,hy,hne⟩:=hg
    exact hne (k y hy)
   refine j3 gc 10 rfl (gn ?_)
   exact j4 (true) rfl ⟨⟨by symm;rw[decide_eq_true_eq];exact fun k=>hno k.1,hN⟩,hb2,hb7,hX⟩
  have hyes:∀y∈s1.1,(xv y).2=0:=by
   rw[hoe] at hg
   simpa using hg
  refine j3 gc 4 rfl (jl 42 rfl (fun hg=> ?_) (fun hg=> ?_))
  ·have hno:¬Ba (uk.mk q k xs q2 k2 ss).d:=fun k=>hg (if_pos k)
   refine j3 gc 6 rfl (gn ?_)
   exact j4 (true) rfl ⟨⟨by symm;rw[decide_eq_true_eq];exact fun k=>hno k.2.1,hN⟩,hb2,hb7,hX⟩
  have hmay:Ba (uk.mk q k xs q2 k2 ss).d:=(zv7 zd).1 (Decidable.not_not.1 hg)
  have hce:yr (uk.mk q k xs q2 k2 ss).d=up (uk.mk q k xs q2 k2 ss).d:=if_pos hmay
  rw[hce] at hq3
  refine j3 gc 1 rfl (wl (zw0 gc rfl (by rw[hce]) hq3.own.sl (j3 gc 1 rfl (wl (zw0 gc rfl rfl (hs00.ga hX) (j3 gc 2 rfl (gn ?_)))))))
  exact j4 (_) rfl ⟨⟨by rw[decide_eq_decide];exact⟨fun k k2=>k (by rw[k2.2.2]),fun k k2=>k ⟨hyes,hmay,Am k2⟩⟩,hN⟩,hb2,hb7,hX⟩
 rintro z w21 ⟨⟨rfl,hN⟩,hb2,hb7,hX⟩
 refine jp rfl (fun hc=> ?_) (fun hc=> ?_)
 ·have hrd2:vj l=(yz6,2):=by rw[hrd];exact if_neg hc
  refine kz (qa rfl trivial (l':=B5.c) rfl ?_)
  have hb2o:=hb2
  refine wl (j8 (l':=B5.c) gc hb2 rfl rfl rfl rfl OneC.h fun w22 hb2 hE22 hs22=> ?_)
  have hb7:=hb7.gk hE22 ne2_7.symm
  have hN:=hN.extB hE22 hb2o
  have hX:=hX.gj hE22 fr2
  refine ju rfl (gr (gq (qk [_,_] ⟨⟨b2,0,rfl,qu gc rfl rfl hb2.ki rfl⟩,rfl,trivial⟩ ?_)))
  exact⟨B5,by rw[hrd2];rfl,by rw[hrd2];rfl,Ae.no _ _,hX⟩
 have hrd2:vj l=((uk.mk q k xs q2 k2 ss).d,0):=by rw[hrd];exact if_pos (Decidable.not_not.1 hc)
 refine j6 (gy (kz (jh hb7 rfl rfl ?_)))
 have hb2o:=hb2
 refine wl (j8 (l':=(uk.mk q k xs q2 k2 ss).c) gc hb2 rfl rfl rfl rfl OneC.h fun w23 hb2 hE23 hs23=> ?_)
 have hb7:=hb7.gk hE23 ne2_7.symm
 have hN:=hN.extB hE23 hb2o
 have hX:=hX.gj hE23 fr2
 refine ju rfl (gr (qk [_,_] ⟨⟨b2,0,rfl,qu gc rfl rfl hb2.ki rfl⟩,rfl,trivial⟩ ?_))
 exact⟨(uk.mk q k xs q2 k2 ss),by rw[hrd2];rfl,by rw[hrd2],hN,hX⟩
theorem cloneL_nil (w:World) {c:Nat}:
  gp prog 131 [.slice none 0 c] w fun v w'=>∃q k,v= .slice q 0 k∧Own w' q 0 k 148 33 []∧(∀y,jd q y→w.heap.size≤y)∧Ext No w w':=by
 refine gh func131 rfl rfl rfl rfl ?_
 have a:=Ext.refl No w
 refine jc rfl (gl (jc rfl (vi rfl (jc rfl (gr (gq (gv rfl rfl ?_)))))))
 exact⟨none,0,rfl,Own.nil _ _ _,fun y b=>(by cases b),a⟩
theorem cloneL_some (w:World) {a:Addr} {c:Nat} {l:List je} (h:Sl w (some a) l.length 33 (l.flatMap je.cells)) (hl:l.length<1000000000):
  gp prog 131 [.slice (some a) l.length c] w fun v w'=>∃q k,v= .slice q l.length k∧Own w' q l.length k 148 33 (l.flatMap je.cells)∧(∀y,jd q y→w.heap.size≤y)∧Ext No w w':=by
 refine gh func131 rfl rfl rfl rfl ?_
 have b:=Ext.refl No w
 refine jc rfl (gl (jc rfl (u3 rfl (j6 (gy (kz ?_))))))
 refine wl (qc gc rfl 33 rfl leafZ_c (je.len rfl) zd zd trivial (l':=[]) rfl fun A B r f d s=> ?_)
 have b:=b.gb d
 refine j7 gc rfl ?_
 refine wl (uc gc rfl 33 48 rfl rfl rfl zd (Own.blk (n:=0) (c:=0) f 33 rfl (Nat.le_refl _) zd) (Src.slice (h.ga b) OneC.h) zm zn fun p t u g i j=> ?_)
 have b:=b.trans i fun y C m=>by have:=own1 m;omega
 have o:∀x,jd p x→w.heap.size≤x:=fun x z=>(j x z).elim (fun m=>by have:=own1 m;omega) fun h=>by have:=d.size;omega
 have e:Own u p (0+l.length) t 148 33 (l.flatMap je.cells):=g
 rw[Nat.zero_add] at e
 dsimp only
 rw[Nat.zero_add]
 refine ju rfl (gr (gv rfl rfl ?_))
 exact⟨_,_,rfl,e,o,b⟩
theorem cloneL_calls (w:World) {p:Option Addr} {c:Nat} {l:List je} (h:Sl w p l.length 33 (l.flatMap je.cells)) (hl:l.length<1000000000):
  gp prog 131 [.slice p l.length c] w fun v w'=>∃q k,v= .slice q l.length k∧Own w' q l.length k 148 33 (l.flatMap je.cells)∧(∀y,jd q y→w.heap.size≤y)∧Ext No w w':=by
 cases p with
 |none=>
  have d:l=[]:=by
   rcases h.2 with e|⟨b,f,g,_⟩
   ·exact List.eq_nil_of_length_eq_zero e
   cases g
  subst d
  exact cloneL_nil w
 |some a=>exact cloneL_some w h hl
theorem cloneI_nil (w:World) {c:Nat}:
  gp prog 132 [.slice none 0 c] w fun v w'=>∃q k,v= .slice q 0 k∧Own w' q 0 k 30 32 []∧(∀y,jd q y→w.heap.size≤y)∧Ext No w w':=by
 refine gh func132 rfl rfl rfl rfl ?_
 have a:=Ext.refl No w
 refine jc rfl (gl (jc rfl (vi rfl (jc rfl (gr (gq (gv rfl rfl ?_)))))))
 exact⟨none,0,rfl,Own.nil _ _ _,fun y b=>(by cases b),a⟩
theorem cloneI_some (w:World) {a:Addr} {c:Nat} {l:List IdB} (h:Sl w (some a) l.length 32 (l.flatMap ge)) (hl:l.length<1000000000):
  gp prog 132 [.slice (some a) l.length c] w fun v w'=>∃q k,v= .slice q l.length k∧Own w' q l.length k 30 32 (l.flatMap ge)∧(∀y,jd q y→w.heap.size≤y)∧Ext No w w':=by
 refine gh func132 rfl rfl rfl rfl ?_
 have b:=Ext.refl No w
 refine jc rfl (gl (jc rfl (u3 rfl (j6 (gy (kz ?_))))))
 refine wl (qc gc rfl 32 rfl Cz.symm zj zd zd trivial (l':=[]) rfl fun A B r f d s=> ?_)
 have b:=b.gb d
 refine j7 gc rfl ?_
 refine wl (uc gc rfl 32 32 rfl rfl rfl zd (Own.blk (n:=0) (c:=0) f 32 rfl (Nat.le_refl _) zd) (Src.slice (h.ga b) OneC.h) zm zn fun p t u g i j=> ?_)
 have b:=b.trans i fun y C m=>by have:=own1 m;omega
 have o:∀x,jd p x→w.heap.size≤x:=fun x z=>(j x z).elim (fun m=>by have:=own1 m;omega) fun h=>by have:=d.size;omega
 have e:Own u p (0+l.length) t 30 32 (l.flatMap ge):=g
 rw[Nat.zero_add] at e
 dsimp only
 rw[Nat.zero_add]
 refine ju rfl (gr (gv rfl rfl ?_))
 exact⟨_,_,rfl,e,o,b⟩
theorem cloneI_calls (w:World) {p:Option Addr} {c:Nat} {l:List IdB} (h:Sl w p l.length 32 (l.flatMap ge)) (hl:l.length<1000000000):
  gp prog 132 [.slice p l.length c] w fun v w'=>∃q k,v= .slice q l.length k∧Own w' q l.length k 30 32 (l.flatMap ge)∧(∀y,jd q y→w.heap.size≤y)∧Ext No w w':=by
 cases p with
 |none=>
  have d:l=[]:=by
   rcases h.2 with e|⟨b,f,g,_⟩
   ·exact List.eq_nil_of_length_eq_zero e
   cases g
  subst d
  exact cloneI_nil w
 |some a=>exact cloneI_some w h hl
theorem cloneC_nil (w:World) {c:Nat}:
  gp prog 133 [.slice none 0 c] w fun v w'=>∃q k,v= .slice q 0 k∧Own w' q 0 k 150 3 []∧(∀y,jd q y→w.heap.size≤y)∧Ext No w w':=by
 refine gh func133 rfl rfl rfl rfl ?_
 have a:=Ext.refl No w
 refine jc rfl (gl (jc rfl (vi rfl (jc rfl (gr (gq (gv rfl rfl ?_)))))))
 exact⟨none,0,rfl,Own.nil _ _ _,fun y b=>(by cases b),a⟩
theorem cloneC_some (w:World) {a:Addr} {c:Nat} {l:List ud} (h:Sl w (some a) l.length 3 (l.flatMap ud.cells)) (hl:l.length<1000000000):
  gp prog 133 [.slice (some a) l.length c] w fun v w'=>∃q k,v= .slice q l.length k∧Own w' q l.length k 150 3 (l.flatMap ud.cells)∧(∀y,jd q y→w.heap.size≤y)∧Ext No w w':=by
 refine gh func133 rfl rfl rfl rfl ?_
 have b:=Ext.refl No w
 refine jc rfl (gl (jc rfl (u3 rfl (j6 (gy (kz ?_))))))
 refine wl (qc gc rfl 3 rfl chgZ_c rfl zd zd trivial (l':=[]) rfl fun A B r f d s=> ?_)
 have b:=b.gb d
 refine j7 gc rfl ?_
 refine wl (uc gc rfl 3 40 rfl rfl rfl zd (Own.blk (n:=0) (c:=0) f 3 rfl (Nat.le_refl _) zd) (Src.slice (h.ga b) OneC.h) zm zn fun p t u g i j=> ?_)
 have b:=b.trans i fun y C m=>by have:=own1 m;omega
 have o:∀x,jd p x→w.heap.size≤x:=fun x z=>(j x z).elim (fun m=>by have:=own1 m;omega) fun h=>by have:=d.size;omega
 have e:Own u p (0+l.length) t 150 3 (l.flatMap ud.cells):=g
 rw[Nat.zero_add] at e
 dsimp only
 rw[Nat.zero_add]
 refine ju rfl (gr (gv rfl rfl ?_))
 exact⟨_,_,rfl,e,o,b⟩
theorem cloneC_calls (w:World) {p:Option Addr} {c:Nat} {l:List ud} (h:Sl w p l.length 3 (l.flatMap ud.cells)) (hl:l.length<1000000000):
  gp prog 133 [.slice p l.length c] w fun v w'=>∃q k,v= .slice q l.length k∧Own w' q l.length k 150 3 (l.flatMap ud.cells)∧(∀y,jd q y→w.heap.size≤y)∧Ext No w w':=by
 cases p with
 |none=>
  have d:l=[]:=by
   rcases h.2 with e|⟨b,f,g,_⟩
   ·exact List.eq_nil_of_length_eq_zero e
   cases g
  subst d
  exact cloneC_nil w
 |some a=>exact cloneC_some w h hl
theorem sown_calls (w:World) {x:jk} {a:vb} (hx:u5 x) (hxl:B3 w x a) (hs:Bf x):
  gp prog 52 [.agg (jq x a).toArray] w fun v w'=>∃a',v= .agg (jq x a').toArray∧u4 w w' x a'∧Ext No w w':=by
 refine gh func52 rfl rfl rfl rfl ?_
 have e:=Ext.refl No w
 refine kz (gw rfl fun C Y S b T=> ?_)
 have D:=Nat.le_trans e.size S
 have e:=e.gb T
 have b:gz Y C 37 (jq x a):=b
 refine gw rfl fun V w2 I c J=> ?_
 have f:C≠V:=Nat.ne_of_lt (Nat.lt_of_lt_of_le b.lt I)
 have U:=Nat.le_trans e.size I
 have b:=b.ga J
 have e:=e.gb J
 refine ql (gl (jt rfl 11 [(0,true),(1,true),(3,true),(4,true),(6,true),(7,true),(8,true),(2,false),(10,true),(5,false),(9,false)] [11,12,13,14,15,16] (No) zk fun W u Z=> ?_))
 have E:=b
 have b:=b.ga u
 have c:=c.ga u
 have e:=e.gb u
 have F:Ext (No) _ W:=u.no
 refine gx gc 1 rfl (j5 gc rfl rfl (fun w' n=>((E.ga n).ki.obj hx).leaves) ?_)
 refine gx gc 1 rfl (j5 gc rfl rfl (fun w' n=>((E.ga n).ki.obj hx).parents) ?_)
 refine gx gc 2 rfl (j5 gc rfl rfl (fun w' n=>((E.ga n).ki.obj hx).rows) ?_)
 have o:=e.size
 refine jg rfl (j2 call131 rfl (cloneL_calls W (hxl.leaves.ga e) hs.leaves) fun v4 w4 K=>⟨(by obtain⟨z,A,rfl,j,L,l⟩:=K;exact F.gb l),?_⟩)
 obtain⟨z,A,rfl,j,L,l⟩:=K
 have b:=b.ga l
 have c:=c.ga l
 have e:=e.gb l
 have F:=F.gb l
 have nL:∀y,jd z y→w.heap.size≤y:=fun y M=>Nat.le_trans o (L y M)
 refine gx gc 1 rfl ?_
 have o:=e.size
 refine jg rfl (j2 call132 rfl (cloneI_calls w4 (hxl.parents.ga e) hs.parents) fun v5 w5 N=>⟨(by obtain⟨B,G,rfl,m,O,g⟩:=N;exact F.gb g),?_⟩)
 obtain⟨B,G,rfl,m,O,g⟩:=N
 have b:=b.ga g
 have c:=c.ga g
 have j:=j.ext g fun _ _=>id
 have e:=e.gb g
 have F:=F.gb g
 have nP:∀y,jd B y→w.heap.size≤y:=fun y M=>Nat.le_trans o (O y M)
 have o:=e.size
 refine jg rfl (j2 call133 rfl (cloneC_calls w5 (hxl.rows.ga e) hs.rows) fun v6 w6 P=>⟨(by obtain⟨H,Q,rfl,t,R,i⟩:=P;exact F.gb i),?_⟩)
 obtain⟨H,Q,rfl,t,R,i⟩:=P
 have b:=b.ga i
 have c:=c.ga i
 have j:=j.ext i fun _ _=>id
 have m:=m.ext i fun _ _=>id
 have e:=e.gb i
 have nR:∀y,jd H y→w.heap.size≤y:=fun y M=>Nat.le_trans o (R y M)
 refine jj ?_
 have d:=b
 refine wb rfl (xr gc b rfl rfl rfl fun w7 b p a0=> ?_)
 have c:=c.gk p f.symm
 have j:=j.k8 p d zd
 have m:=m.k8 p d zd
 have t:=t.k8 p d zd
 have e:=e.gj p D
 have b:gz w7 C 37 (jq x ⟨z,A,a.pp,a.pc,a.rp,a.rc⟩):=b
 refine wb rfl (D5 gc rfl rfl rfl ?_)
 have d:=b
 refine wb rfl (qz gc b rfl rfl (by rw[gt hx];decide) fun w8 b q a1=> ?_)
 have c:=c.gk q f.symm
 have j:=j.k8 q d zd
 have m:=m.k8 q d zd
 have t:=t.k8 q d zd
 have e:=e.gj q D
 have b:gz w8 C 37 (jq x ⟨z,A,B,G,a.rp,a.rc⟩):=(by have h:gz _ C _ ((jq x ⟨z,A,a.pp,a.pc,a.rp,a.rc⟩).set (68+0) (.slice B x.parents.length G)):=b;rw[xv2 hx] at h;exact h)
 refine wb rfl (D5 gc rfl rfl rfl (wb rfl (D5 gc rfl rfl rfl ?_)))
 have d:=b
 refine wb rfl (qz gc b rfl rfl (by rw[gt hx];decide) fun w9 b r a2=> ?_)
 have c:=c.gk r f.symm
 have j:=j.k8 r d zd
 have m:=m.k8 r d zd
 have t:=t.k8 r d zd
 have e:=e.gj r D
 have b:gz w9 C 37 (jq x ⟨z,A,B,G,H,Q⟩):=(by have h:gz _ C _ ((jq x ⟨z,A,B,G,a.rp,a.rc⟩).set (68+1) (.slice H x.rows.length Q)):=b;rw[objC_rows hx] at h;exact h)
 refine j9 (gy (kz (jh b rfl (gt hx) ?_)))
 have s:=c
 refine wl (j8 (l':=jq x ⟨z,A,B,G,H,Q⟩) gc c rfl rfl (gt hx) (gt hx) OneC.h fun a3 c k X=> ?_)
 have j:=j.k8 k s zd
 have m:=m.k8 k s zd
 have t:=t.k8 k s zd
 have e:=e.gj k U
 refine ql (gr (qk [_] ⟨⟨V,0,rfl,qu gc rfl rfl c.ki (gt hx)⟩,trivial⟩ ?_))
 exact⟨⟨z,A,B,G,H,Q⟩,rfl,⟨j,m,t,nL,nP,nR⟩,e⟩
end Go.Proofs.YtpdiphfjmepijaaGreatDoor
namespace Go.Vc
theorem C8 (w:World) (o:Obj) {r:Nat} (h:r<w.heap.size):(w.alloc o).heap[r]? =w.heap[r]? :=by
 show(w.heap.push o)[r]? =w.heap[r]?
 rw[Array.getElem?_push,if_neg zo]
theorem nodup_len {α:Type}:∀{l m:List α},l.Nodup→(∀x∈l,x∈m)→l.length≤m.length
 | [],_,_,_=>Nat.zero_le _
 |x::l,m,hn,hs=>by
  obtain⟨a,b,rfl⟩:=List.append_of_mem (hs x zp)
  have:=nodup_len (l:=l) (m:=a++b) (List.nodup_cons.1 hn).2 fun y hy=>by
   have:=hs y (by simp[hy])
   rcases List.mem_append.1 this with h|h
   ·exact List.mem_append_left _ h
   rcases List.mem_cons.1 h with rfl|h
   ·exact absurd hy (List.nodup_cons.1 hn).1
   exact List.mem_append_right _ h
  simp only[List.length_append,List.length_cons] at this⊢
  omega
def yz5 {β:Type} (w:World) (it m:Nat) (enc:β→Value) (g:List UInt8→Option β) (N:Nat) (done:List (List UInt8)):Prop:=
  ∃es clock since seen last,w.heap[it]? =some (.mapIter (some m) since seen last)∧w.heap[m]? =some (.map es clock)∧
    (∀e∈es.toList,∃x b,x.length=32∧e.key=idV x∧e.val=enc b∧g x=some b)∧(∀x b,g x=some b→∃e∈es.toList,e.key=idV x)∧(es.toList.map (·.key)).Nodup∧
    (∀e∈es.toList,e.born<since)∧(es.toList.map (·.born)).Nodup∧since≤last∧since≤clock∧done.Nodup∧es.size=N∧(∀x∈done,∃b,g x=some b)∧(∀e∈es.toList,∀x,e.key=idV x→(seen.contains e.born=true↔x∈done))
theorem yz5.lt {β:Type} {w:World} {it m N:Nat} {enc:β→Value} {g:List UInt8→Option β} {done:List (List UInt8)} (h:yz5 w it m enc g N done):it<w.heap.size∧m<w.heap.size:=by
 obtain⟨e,c,s,f,i,b,d,_⟩:=h
 constructor
 ·rcases Nat.lt_or_ge it w.heap.size with a|a
  ·exact a
  rw[Array.getElem?_eq_none a] at b;cases b
 rcases Nat.lt_or_ge m w.heap.size with a|a
 ·exact a
 rw[Array.getElem?_eq_none a] at d;cases d
theorem yz5.ext {β:Type} {S:Nat→Prop} {w w':World} {it m N:Nat} {enc:β→Value} {g:List UInt8→Option β} {done:List (List UInt8)} (h:yz5 w it m enc g N done) (hE:Ext S w w') (h1:¬S it) (h2:¬S m):yz5 w' it m enc g N done:=by
 obtain⟨d,e⟩:=h.lt
 obtain⟨f,c,s,i,j,a,b,r⟩:=h
 exact⟨f,c,s,i,j,(hE.same it d h1).trans a,(hE.same m e h2).trans b,r⟩
theorem yz5.neB {β:Type} {w:World} {it m N:Nat} {enc:β→Value} {g:List UInt8→Option β} {done:List (List UInt8)} (h:yz5 w it m enc g N done) {b T:Nat} {L:List Value} (hb:gz w b T L):it≠b∧m≠b:=by
 obtain⟨f,c,s,i,j,a,d,_⟩:=h
 exact⟨(fun e=>by rw[e] at a;rw[gz,a] at hb;cases hb),(fun e=>by rw[e] at d;rw[gz,d] at hb;cases hb)⟩
theorem ext_putAt {w:World} {r:Nat} {o:Obj} (h:w.heap[r]? =some o) (o':Obj):
  Ext (One r) w {w with heap:=w.heap.setIfInBounds r o'}∧({w with heap:=w.heap.setIfInBounds r o'}:World).heap.size=w.heap.size∧({w with heap:=w.heap.setIfInBounds r o'}:World).heap[r]? =some o':=by
 have a:r<w.heap.size:=by
  rcases Nat.lt_or_ge r w.heap.size with c|c
  ·exact c
  rw[Array.getElem?_eq_none c] at h;cases h
 refine⟨⟨rfl,rfl,rfl,by simp,fun b f d=> ?_,Nat.le_refl _⟩,by simp,by simp[a]⟩
 exact Array.getElem?_setIfInBounds_ne (fun e=>d e.symm)
theorem run_next {P:Program} {w:World} {it m since last clock:Nat} {seen:Array Nat} {es:Array MapEntry} (hi:w.heap[it]? =some (.mapIter (some m) since seen last)) (hm:w.heap[m]? =some (.map es clock)) (hold:∀x∈es.toList,x.born<since) (hsc:since≤last) (ty:TypeId):
  ((leftOf es seen).size=0∧(Instr.next (.pointer (some ⟨it,0,none⟩)) false ty).run P w= .ok (.tuple #[.bool false]) w)∨
  ∃e∈(leftOf es seen).toList,∃w1:World,(w1=w∨w1=w.drew)∧(Instr.next (.pointer (some ⟨it,0,none⟩)) false ty).run P w= .ok (.tuple #[.bool true,e.key,e.val]) {w1 with heap:=w1.heap.setIfInBounds it (.mapIter (some m) since (seen.push e.born) clock)}:=by
 simp only[Instr.next,getObj,Sem.run_bind,Sem.run,hi,hm,Result.andThen,next_test_false seen es since last hold hsc,Bool.false_eq_true,if_false]
 unfold leftOf
 have hmem:∀x∈(Array.filter (fun e=> !seen.contains e.born) es).toList,x.born<since:=fun x hx=>hold x (by simp at hx⊢;exact hx.1)
 generalize Array.filter (fun e=> !seen.contains e.born) es=L at hmem⊢
 have e1:L.filter (fun x=>decide (x.born<since))=L:=Array.filter_eq_self.2 (fun x hx=>by simpa using hmem x (by simpa using hx))
 have e2:L.filter (fun x=>decide (x.born≥since))= #[]:=by
  rw[Array.filter_eq_empty_iff]
  intro x hx
  have:=hmem x (by simpa using hx)
  simp
  omega
 simp only[e1,e2,Array.append_empty]
 by_cases h0:L.size=0
 ·left
  have:L= #[]:=Array.eq_empty_of_size_eq_zero h0
  subst this
  refine⟨rfl,?_⟩
  simp[choose,Sem.run,Question.forced]
 right
 have hne:L.isEmpty=false:=by simp[Array.isEmpty,h0]
 simp only[hne,Bool.false_eq_true,if_false,Array.empty_append,Array.size_map]
 have hch:∃(j:Nat) (w1:World),j<L.size∧(w1=w∨w1=w.drew)∧(choose (Question.mapNext L.size)).run P w= .ok j w1:=by
  by_cases hf:L.size≤1
  ·exact⟨0,w,by omega,.inl rfl,by simp[choose,Sem.run,Question.forced,hf]⟩
  exact⟨_,w.drew,Nat.mod_lt _ zo,.inr rfl,by
   simp only[choose,Sem.run,Question.forced,decide_eq_true_eq,hf,if_false,Question.cut]
   rfl⟩
 obtain⟨j,w1,hj,hal,hrun⟩:=hch
 refine⟨L[j],by simp,w1,hal,?_⟩
 have hi1:w1.heap[it]? =some (.mapIter (some m) since seen last):=by rcases hal with rfl|rfl<;>exact hi
 have hset:∀(o':Obj),(setObj it o').run P w1= .ok () {w1 with heap:=w1.heap.setIfInBounds it o'}:=fun o'=>by
  simp[setObj,Sem.run,hi1]
 simp only[hrun,Array.getElem?_map,Array.getElem?_eq_getElem hj,Option.map_some,Sem.run_bind,hset,Result.andThen]
 rfl
def Cur (w:World) (it m:Nat) (kx vx:Value):Prop:=
  ∃es clock since seen e,w.heap[it]? =some (.mapIter (some m) since seen clock)∧w.heap[m]? =some (.map es clock)∧seen.back? =some e.born∧es.toList.find? (fun x=>x.born==e.born)=some e∧e.key=kx∧e.val=vx
theorem run_entry {P:Program} {w:World} {it m:Nat} {kx vx:Value} (h:Cur w it m kx vx):(Instr.entry (.pointer (some ⟨it,0,none⟩))).run P w= .ok (.tuple #[kx,vx]) w:=by
 obtain⟨a,c,s,j,e,b,d,f,g,rfl,rfl⟩:=h
 have i:a.find? (fun x=>x.born==e.born)=some e:=by rw[←Array.find?_toList];exact g
 simp only[Instr.entry,getObj,Sem.run_bind,Sem.run,b,d,Result.andThen,f,bne_self_eq_false,Bool.false_eq_true,if_false,i]
 rfl
section
variable {P:Program} {I:qr} {f:Fs} {ops:Array Oper} {o:Oper} {env:Env} {w:World} {K:Env→World→Prop}
def rgE (I:qr) (n:Nat) (ops:Array Oper) (env:Env) (o:Oper):Option (Nat×Nat):=
  match pre n ops env o with
  |false=>none
  |true=>match o.dst with
    |some d=>match o.op with
      | .range t x=>match xm I t with
        |some y=>match y.desc with
          | .map _ _=>match vr env x with
            |some (.map (some r))=>some (r,d)
            |_=>none
          |_=>none
        |none=>none
      |_=>none
    |none=>none
theorem st_rg {β:Type} (hI:I.Ok P) {m d:Nat} (h:rgE I f.n ops env o=some (m,d)) {enc:β→Value} {g:List UInt8→Option β} (hm:MapB w m enc g)
  (k:∀(it N:Nat) w',w.heap.size≤it→yz5 w' it m enc g N []→Ext No w w'→K ((d,.pointer (some ⟨it,0,none⟩))::env) w'):St P f ops o env w K:=by
 unfold rgE at h
 split at h
 ·cases h
 rename_i s
 obtain⟨u,z⟩:=pre_eq s
 split at h
 ·rename_i O A
  split at h
  ·rename_i t x B
   split at h
   ·rename_i y C
    split at h
    ·rename_i Q e D
     split at h
     ·rename_i i j
      simp only[Option.some.injEq,Prod.mk.injEq] at h
      obtain⟨rfl,rfl⟩:=h
      have p:=(hI.get C).under w
      rw[D] at p
      have l:=hm.lt
      obtain⟨q,c,r,E,F,G,H,J⟩:=hm
      have a:(Instr.range t (.map (some i))).run P w= .ok (.pointer (some ⟨w.heap.size,0,none⟩)) (w.alloc (.mapIter (some i) c #[] c)):=by
       unfold Instr.range
       rw[ja p]
       simp only[Sem.run_bind,MapKept.run_getObj_map r,Result.andThen_ok]
       rfl
      refine xe u z (v:= .pointer (some ⟨w.heap.size,0,none⟩)) (w':=w.alloc (.mapIter (some i) c #[] c)) (fun R L=> ?_) ?_
      ·simp only[execOp,B,L _ _ j,Sem.run_bind,a,Result.andThen_ok,Sem.run_pure]
      rw[A]
      refine k _ q.size _ (Nat.le_refl _) ⟨q,c,c, #[],c,heap_alloc_new w _,?_,E,F,G,H,J,Nat.le_refl _,Nat.le_refl _,List.nodup_nil,rfl,(fun x j=>by cases j),fun e _ x _=>by simp⟩ ⟨rfl,rfl,rfl,by simp,fun b M _=> ?_,Nat.le_refl _⟩
      ·rw[C8 w _ l];exact r
      exact C8 w _ M
     cases h
    cases h
   cases h
  cases h
 cases h
def enE (n:Nat) (ops:Array Oper) (env:Env) (o:Oper):Option (Nat×Nat):=
  match pre n ops env o with
  |false=>none
  |true=>match o.dst with
    |some d=>match o.op with
      | .entry x=>match vr env x with
        |some (.pointer (some ⟨it,0,none⟩))=>some (it,d)
        |_=>none
      |_=>none
    |none=>none
theorem st_en {it m d:Nat} {kx vx:Value} (h:enE f.n ops env o=some (it,d)) (hc:Cur w it m kx vx) (k:K ((d,.tuple #[kx,vx])::env) w):St P f ops o env w K:=by
 unfold enE at h
 split at h
 ·cases h
 rename_i a
 obtain⟨b,c⟩:=pre_eq a
 split at h
 ·rename_i p e
  split at h
  ·rename_i q g
   split at h
   ·rename_i i j
    simp only[Option.some.injEq,Prod.mk.injEq] at h
    obtain⟨rfl,rfl⟩:=h
    refine xe b c (v:= .tuple #[kx,vx]) (w':=w) (fun r l=> ?_) (by rw[e];exact k)
    simp only[execOp,g,l _ _ j,Sem.run_bind,run_entry hc,Result.andThen_ok,Sem.run_pure]
   cases h
  cases h
 cases h
def nxE (n:Nat) (ops:Array Oper) (env:Env) (o:Oper):Option (Nat×Nat):=
  match pre n ops env o with
  |false=>none
  |true=>match o.dst with
    |some d=>match o.op with
      | .next x false=>match vr env x with
        |some (.pointer (some ⟨it,0,none⟩))=>some (it,d)
        |_=>none
      |_=>none
    |none=>none
theorem st_nx {β:Type} {it d:Nat} (h:nxE f.n ops env o=some (it,d)) {m N:Nat} {enc:β→Value} {g:List UInt8→Option β} {done:List (List UInt8)} (hit:yz5 w it m enc g N done)
  (k0:(∀x b,g x=some b→x∈done)→K ((d,.tuple #[.bool false])::env) w)
  (k1:∀(x:List UInt8) (b:β) w',g x=some b→x.length=32→x∉done→done.length<N→yz5 w' it m enc g N (done++[x])→Cur w' it m (idV x) (enc b)→Ext (One it) w w'→w'.heap.size=w.heap.size→K ((d,.tuple #[.bool true,idV x,enc b])::env) w'):St P f ops o env w K:=by
 unfold nxE at h
 split at h
 ·cases h
 rename_i hp
 obtain⟨h1,h2⟩:=pre_eq hp
 split at h
 ·rename_i d' hd
  split at h
  ·rename_i xx ho
   split at h
   ·rename_i it' hx
    simp only[Option.some.injEq,Prod.mk.injEq] at h
    obtain⟨rfl,rfl⟩:=h
    obtain⟨es,c,s,se,la,hi,hm,a1,a2,a3,a4,a5,a6,a7,b1,b2,b3,b4⟩:=hit
    rcases run_next (P:=P) hi hm a4 a6 o.type with⟨c1,c2⟩|⟨e,c1,w1,c2,c3⟩
    ·refine xe h1 h2 (v:= .tuple #[.bool false]) (w':=w) (fun ρ hρ=> ?_) ?_
     ·simp only[execOp,ho,hρ _ _ hx,Sem.run_bind,c2,Result.andThen_ok,Sem.run_pure]
     rw[hd]
     refine k0 fun x b hg=> ?_
     obtain⟨e,he,hk⟩:=a2 x b hg
     refine(b4 e he x hk).1 (Classical.byContradiction fun hc=> ?_)
     have:e∈(leftOf es se).toList:=Array.mem_toList_iff.2 (Array.mem_filter.2 ⟨Array.mem_toList_iff.1 he,by simpa using hc⟩)
     rw[Array.eq_empty_of_size_eq_zero c1] at this
     simp at this
    obtain⟨hes,hns⟩:=mem_left c1
    obtain⟨x,b,hx32,hk,hv,hg⟩:=a1 e hes
    have hxd:x∉done:=fun hxd=>by
     have:=(b4 e hes x hk).2 hxd
     rw[hns] at this;cases this
    have hi1:w1.heap[it']? =some (.mapIter (some m) s se la):=by rcases c2 with rfl|rfl<;>exact hi
    have hm1:w1.heap[m]? =some (.map es c):=by rcases c2 with rfl|rfl<;>exact hm
    have hE1:Ext No w w1:=by
     rcases c2 with rfl|rfl
     ·exact Ext.refl _ _
     exact Ext.drew w
    obtain⟨p1,p2,p3⟩:=ext_putAt hi1 (.mapIter (some m) s (se.push e.born) c)
    have hne:it'≠m:=fun q=>by rw[q,hm] at hi;cases hi
    refine xe h1 h2 (v:= .tuple #[.bool true,idV x,enc b]) (w':={w1 with heap:=w1.heap.setIfInBounds it' (.mapIter (some m) s (se.push e.born) c)}) (fun ρ hρ=> ?_) ?_
    ·rw[hk,hv] at c3
     simp only[execOp,ho,hρ _ _ hx,Sem.run_bind,c3,Result.andThen_ok,Sem.run_pure]
    rw[hd]
    have hlt:done.length<N:=by
     rw[←b2]
     have hsub:(done++[x]).length≤(es.toList.map (·.key)).length:=by
      have hnd:((done++[x]).map idV).Nodup:=by
       rw[List.nodup_iff_pairwise_ne]
       refine List.pairwise_map.2 ((List.nodup_append.2 ⟨b1,by simp,fun a ha b hb=> ?_⟩).imp fun hab e=>hab (idV_inj e))
       rw[List.mem_singleton.1 hb]
       exact fun e=>hxd (e▸ha)
      have:=nodup_len hnd (m:=es.toList.map (·.key)) fun v hv=>by
       obtain⟨y,hy,rfl⟩:=List.mem_map.1 hv
       rcases List.mem_append.1 hy with hy|hy
       ·obtain⟨b',hb'⟩:=b3 y hy
        obtain⟨e',he',hk'⟩:=a2 y b' hb'
        exact List.mem_map.2 ⟨e',he',hk'⟩
       rw[List.mem_singleton.1 hy]
       exact List.mem_map.2 ⟨e,hes,hk⟩
      rw[List.length_map] at this
      exact this
     rw[List.length_append,List.length_map,Array.length_toList] at hsub
     simp only[List.length_cons,List.length_nil] at hsub
     have hz:es.size=es.toList.length:=rfl
     have hz':es.toList.length=es.size:=rfl
     exact Nat.lt_of_lt_of_le (Nat.lt_succ_self _) hsub
    refine k1 x b _ hg hx32 hxd hlt ⟨es,c,s,se.push e.born,c,p3,?_,a1,a2,a3,a4,a5,a7,a7,?_,b2,?_,?_⟩ ⟨es,c,s,se.push e.born,e,p3,(by
     show(w1.heap.setIfInBounds it' _)[m]? =_
     rw[Array.getElem?_setIfInBounds_ne hne]
     exact hm1),by simp,find_born e es.toList a5 hes,hk,hv⟩ ((hE1.mono fun _ _ q=>q.elim).trans p1 fun _ _ q=>q) (p2.trans (by rcases c2 with rfl|rfl<;>rfl))
    ·show(w1.heap.setIfInBounds it' _)[m]? =_
     rw[Array.getElem?_setIfInBounds_ne hne]
     exact hm1
    ·exact List.nodup_append.2 ⟨b1,by simp,fun a ha b hb=>by rw[List.mem_singleton.1 hb];exact fun e=>hxd (e▸ha)⟩
    ·intro y hy
     rcases List.mem_append.1 hy with hy|hy
     ·exact b3 y hy
     rw[List.mem_singleton.1 hy];exact⟨b,hg⟩
    intro e' he' y hy
    rw[contains_push]
    simp only[Bool.or_eq_true,beq_iff_eq,List.mem_append,List.mem_singleton]
    constructor
    ·rintro(q|q)
     ·exact .inl ((b4 e' he' y hy).1 q)
     have h1':=find_born e es.toList a5 hes
     have h2':=find_born e' es.toList a5 he'
     rw[q,h1'] at h2'
     have:=Option.some.inj h2'
     rw[←this] at hy
     exact .inr (idV_inj (hy.symm.trans hk))
    rintro(q|q)
    ·exact .inl ((b4 e' he' y hy).2 q)
    refine .inr ?_
    subst q
    have hee:e'=e:=by
     have i1:=List.mem_iff_getElem.1 he'
     have i2:=List.mem_iff_getElem.1 hes
     obtain⟨i,hi',rfl⟩:=i1
     obtain⟨j,hj',hje⟩:=i2
     have:i=j:=by
      have q2:(es.toList.map (·.key))[i]'(by simpa using hi')=(es.toList.map (·.key))[j]'(by simpa using hj'):=by simp only[List.getElem_map];rw[hy,hje,hk]
      exact(List.getElem_inj a3).1 q2
     subst this
     exact hje
    rw[hee]
   cases h
  cases h
 cases h
theorem wd_lu {K:Act→World→Prop} {kv:List UInt8→Value} {okx:List UInt8→Prop} {β:Type} {r:Dr} {i:Nat} {pl:List (Nat×Bool)} {dn:List Nat} (hI:I.Ok P) (ho:ops[i]? =some o) {k rm d:Nat} {z v:Value} {ok:Bool} (h:luE I f.n ops env o=some (k,z,rm,v,ok,d)) (hK:KeyG P k kv okx) {x:List UInt8} (hx:okx x) (hv:v=kv x) {enc:β→Value} {g:List UInt8→Option β} (hm0:z1 kv okx w rm enc g) (hm:∀w',r.C w'→z1 kv okx w' rm enc g)
  (kk:WD P f ops K r pl (i::dn) ((d,if ok then .tuple #[tell enc z (g x),.bool (g x).isSome] else tell enc z (g x))::env) w):WD P f ops K r ((i,true)::pl) dn env w:=by
 obtain⟨b,c,_⟩:=ov_lu (f:=f) (w:=w) hI h hK hx hv hm0
 exact xj7 ho b c (fun w' a=>(ov_lu (f:=f) (w:=w') hI h hK hx hv (hm w' a)).2.2) kk
end
def MapO {β:Type} (w:World) (m:Option Nat) (enc:β→Value) (g:List UInt8→Option β):Prop:=(m=none∧∀x,g x=none)∨∃r,m=some r∧MapB w r enc g
theorem MapO.ga {β:Type} {w w':World} {m:Option Nat} {enc:β→Value} {g:List UInt8→Option β} (h:MapO w m enc g) (hE:Ext No w w'):MapO w' m enc g:=h.imp id fun⟨r,e,hm⟩=>⟨r,e,hm.ga hE⟩
theorem MapO.gk {β:Type} {w w':World} {m:Option Nat} {enc:β→Value} {g:List UInt8→Option β} (h:MapO w m enc g) {b T:Nat} {L:List Value} (hE:Ext (One b) w w') (hb:gz w b T L):MapO w' m enc g:=h.imp id fun⟨r,e,hm⟩=>⟨r,e,hm.gk hE hb⟩
theorem MapO.len {β:Type} {w:World} {m:Option Nat} {enc:β→Value} {g:List UInt8→Option β} (h:MapO w m enc g):∃n:Nat,∀w',Ext No w w'→(m=none∧n=0)∨∃r es c,m=some r∧w'.heap[r]? =some (.map es c)∧n=es.size:=by
 rcases h with⟨rfl,_⟩|⟨r,rfl,b⟩
 ·exact⟨0,fun _ _=> .inl ⟨rfl,rfl⟩⟩
 have a:=b.lt
 obtain⟨es,c,d,_⟩:=b
 exact⟨es.size,fun w' e=> .inr ⟨r,es,c,rfl,(e.same r a id).trans d,rfl⟩⟩
def Cq {β:Type} (w:World) (it:Nat) (m:Option Nat) (enc:β→Value) (g:List UInt8→Option β) (N:Nat) (done:List (List UInt8)):Prop:=
  (m=none∧(∃since seen last,w.heap[it]? =some (.mapIter none since seen last))∧∀x,g x=none)∨∃r,m=some r∧yz5 w it r enc g N done
theorem Cq.ext {β:Type} {S:Nat→Prop} {w w':World} {it N:Nat} {m:Option Nat} {enc:β→Value} {g:List UInt8→Option β} {done:List (List UInt8)} (h:Cq w it m enc g N done) (hE:Ext S w w') (h1:¬S it) (h2:∀r,m=some r→¬S r):Cq w' it m enc g N done:=by
 rcases h with⟨rfl,⟨a,b,c,d⟩,i⟩|⟨r,rfl,j⟩
 ·have e:it<w.heap.size:=by
   rcases Nat.lt_or_ge it w.heap.size with f|f
   ·exact f
   rw[Array.getElem?_eq_none f] at d;cases d
  exact .inl ⟨rfl,⟨a,b,c,(hE.same it e h1).trans d⟩,i⟩
 exact .inr ⟨r,rfl,j.ext hE h1 (h2 r rfl)⟩
theorem Cq.ga {β:Type} {w w':World} {it N:Nat} {m:Option Nat} {enc:β→Value} {g:List UInt8→Option β} {done:List (List UInt8)} (h:Cq w it m enc g N done) (hE:Ext No w w'):Cq w' it m enc g N done:=h.ext hE id fun _ _=>id
theorem Cq.neB {β:Type} {w:World} {it N:Nat} {m:Option Nat} {enc:β→Value} {g:List UInt8→Option β} {done:List (List UInt8)} (h:Cq w it m enc g N done) {b T:Nat} {L:List Value} (hb:gz w b T L):it≠b∧∀r,m=some r→r≠b:=by
 rcases h with⟨rfl,⟨a,c,d,i⟩,_⟩|⟨r,rfl,f⟩
 ·refine⟨fun e=> ?_,fun r h=>by cases h⟩
  subst e
  rw[gz,i] at hb;cases hb
 exact⟨(f.neB hb).1,fun j e=>by cases e;exact(f.neB hb).2⟩
theorem Cq.gk {β:Type} {w w':World} {it N:Nat} {m:Option Nat} {enc:β→Value} {g:List UInt8→Option β} {done:List (List UInt8)} (h:Cq w it m enc g N done) {b T:Nat} {L:List Value} (hE:Ext (One b) w w') (hb:gz w b T L):Cq w' it m enc g N done:=
 h.ext hE (h.neB hb).1 (h.neB hb).2
section
variable {P:Program} {I:qr} {f:Fs} {ops:Array Oper} {o:Oper} {env:Env} {w:World}
def lnoE (I:qr) (n:Nat) (ops:Array Oper) (env:Env) (o:Oper):Option (Option Nat×Nat):=
  match pre n ops env o with
  |false=>none
  |true=>match o.dst with
    |some d=>match o.op with
      | .call {callee:= .builtin .len,args:=xs,argTypes:=ts}=>match xs.toList with
        | [x]=>match ts.toList with
          | [t]=>match xm I t with
            |some y=>match y.desc with
              | .map _ _=>match vr env x with
                |some (.map m)=>some (m,d)
                |_=>none
              |_=>none
            |none=>none
          |_=>none
        |_=>none
      |_=>none
    |none=>none
theorem wd_lnO {K:Act→World→Prop} {r:Dr} {i:Nat} {pl:List (Nat×Bool)} {dn:List Nat} (hI:I.Ok P) (ho:ops[i]? =some o) {m:Option Nat} {d:Nat} (h:lnoE I f.n ops env o=some (m,d)) {n:Nat}
  (hm:∀w',r.C w'→(m=none∧n=0)∨∃r es c,m=some r∧w'.heap[r]? =some (.map es c)∧n=es.size)
  (kk:WD P f ops K r pl (i::dn) ((d,.int .i64 (n:Int))::env) w):WD P f ops K r ((i,true)::pl) dn env w:=by
 unfold lnoE at h
 split at h
 ·cases h
 rename_i l
 split at h
 ·rename_i G p
  split at h
  ·rename_i q s a
   split at h
   ·rename_i x b
    split at h
    ·rename_i t g
     split at h
     ·rename_i y u
      split at h
      ·rename_i H e v
       split at h
       ·rename_i J z
        cases h
        refine xj7 ho l p (fun w' j L A=> ?_) kk
        have k:=(hI.get u).under w'
        rw[v] at k
        have B:q= #[x]:=by rw[←b]
        have D:s= #[t]:=by rw[←g]
        subst B D
        have E:(Builtin.len_ #[t] o.type #[.map m]).run P w'= .ok (.int .i64 (n:Int)) w':=by
         unfold Builtin.len_
         simp only[List.getElem?_toArray,List.getElem?_cons_zero]
         rw[ja k]
         rcases hm w' j with⟨rfl,rfl⟩|⟨r,es,c,rfl,F,rfl⟩
         ·rfl
         simp only[Sem.run_bind,MapKept.run_getObj_map F,Result.andThen_ok]
         rfl
        unfold execOp
        simp only[a,resolve,invoke,builtin,Sem.run_bind,Sem.run_pure,Result.andThen_ok,List.map_toArray,List.map_cons,List.map_nil,A _ _ z,E]
       cases h
      cases h
     cases h
    cases h
   cases h
  cases h
 cases h
def rgoE (I:qr) (n:Nat) (ops:Array Oper) (env:Env) (o:Oper):Option (Option Nat×Nat):=
  match pre n ops env o with
  |false=>none
  |true=>match o.dst with
    |some d=>match o.op with
      | .range t x=>match xm I t with
        |some y=>match y.desc with
          | .map _ _=>match vr env x with
            |some (.map m)=>some (m,d)
            |_=>none
          |_=>none
        |none=>none
      |_=>none
    |none=>none
theorem st_rgO {K:Env→World→Prop} {β:Type} (hI:I.Ok P) {m:Option Nat} {d:Nat} (h:rgoE I f.n ops env o=some (m,d)) {enc:β→Value} {g:List UInt8→Option β} (hm:MapO w m enc g)
  (k:∀(it N:Nat) w',w.heap.size≤it→Cq w' it m enc g N []→Ext No w w'→K ((d,.pointer (some ⟨it,0,none⟩))::env) w'):St P f ops o env w K:=by
 rcases hm with⟨rfl,l⟩|⟨r,rfl,hm⟩
 ·unfold rgoE at h
  split at h
  ·cases h
  rename_i p
  obtain⟨c,i⟩:=pre_eq p
  split at h
  ·rename_i E q
   split at h
   ·rename_i t x s
    split at h
    ·rename_i y u
     split at h
     ·rename_i F e z
      split at h
      ·rename_i G A
       simp only[Option.some.injEq,Prod.mk.injEq] at h
       obtain⟨rfl,rfl⟩:=h
       have j:=(hI.get u).under w
       rw[z] at j
       have a:(Instr.range t (.map none)).run P w= .ok (.pointer (some ⟨w.heap.size,0,none⟩)) (w.alloc (.mapIter none 0 #[] 0)):=by
        unfold Instr.range
        rw[ja j]
        rfl
       refine xe c i (v:= .pointer (some ⟨w.heap.size,0,none⟩)) (w':=w.alloc (.mapIter none 0 #[] 0)) (fun H B=> ?_) ?_
       ·simp only[execOp,s,B _ _ A,Sem.run_bind,a,Result.andThen_ok,Sem.run_pure]
       rw[q]
       refine k _ 0 _ (Nat.le_refl _) (.inl ⟨rfl,⟨_,_,_,heap_alloc_new w _⟩,l⟩) ⟨rfl,rfl,rfl,by simp,fun b C _=>C8 w _ C,Nat.le_refl _⟩
      cases h
     cases h
    cases h
   cases h
  cases h
 refine st_rg hI (m:=r) (d:=d) ?_ hm fun it N w' c i D=>k it N w' c (.inr ⟨r,rfl,i⟩) D
 unfold rgoE at h
 unfold rgE
 repeat' split at h
 all_goals first|cases h|skip
 all_goals simp_all
theorem st_nxO {K:Env→World→Prop} {β:Type} {it d:Nat} (h:nxE f.n ops env o=some (it,d)) {m:Option Nat} {N:Nat} {enc:β→Value} {g:List UInt8→Option β} {done:List (List UInt8)} (hit:Cq w it m enc g N done)
  (k0:(∀x b,g x=some b→x∈done)→K ((d,.tuple #[.bool false])::env) w)
  (k1:∀(x:List UInt8) (b:β) w',g x=some b→x.length=32→x∉done→done.length<N→Cq w' it m enc g N (done++[x])→(∃r,m=some r∧Cur w' it r (idV x) (enc b))→Ext (One it) w w'→w'.heap.size=w.heap.size→K ((d,.tuple #[.bool true,idV x,enc b])::env) w'):St P f ops o env w K:=by
 rcases hit with⟨rfl,⟨a,b,c,hh⟩,hg⟩|⟨r,rfl,hi⟩
 ·unfold nxE at h
  split at h
  ·cases h
  rename_i hp
  obtain⟨h1,h2⟩:=pre_eq hp
  split at h
  ·rename_i d' hd
   split at h
   ·rename_i x t ho
    split at h
    ·rename_i it' hx
     simp only[Option.some.injEq,Prod.mk.injEq] at h
     obtain⟨rfl,rfl⟩:=h
     have hrun:(Instr.next (.pointer (some ⟨it',0,none⟩)) false o.type).run P w= .ok (.tuple #[.bool false]) w:=by
      simp only[Instr.next,getObj,Sem.run_bind,Sem.run,hh,Result.andThen]
      rfl
     refine xe h1 h2 (v:= .tuple #[.bool false]) (w':=w) (fun ρ hρ=> ?_) (by rw[hd];exact k0 fun x b e=>by rw[hg] at e;cases e)
     simp only[execOp,ho,hρ _ _ hx,Sem.run_bind,hrun,Result.andThen_ok,Sem.run_pure]
    cases h
   cases h
  cases h
 exact st_nx h hi k0 fun x b w' h1 h2 h3 h4 h5 h6 h7 h8=>k1 x b w' h1 h2 h3 h4 (.inr ⟨r,rfl,h5⟩) ⟨r,rfl,h6⟩ h7 h8
end
end Go.Vc
namespace Go.Proofs.YtpdiphfjmepijaaGreatDoor
open Tryz
open Go.Vc
abbrev Aw:=A2×(Option Addr×Nat)
def vv (x:Aw):List Value:=[xf x.1.1,.slice x.2.1 x.1.2.length x.2.2]
theorem Aj (x:Aw):(vv x).length=2:=rfl
instance (x:Aw):OneC (vv x):=by unfold vv;infer_instance
structure u7 where
  rp:Option Addr
  rc:Nat
  hs:List qw
  m:Option Nat
  vp:Option Addr
  vc:Nat
  vs:List Aw
def u7.c (h:u7):List Value:=[.slice h.rp h.hs.length h.rc,.map h.m,.slice h.vp h.vs.length h.vc]
instance (h:u7):OneC h.c:=by unfold u7.c;infer_instance
def u7.s (h:u7):De:=⟨h.hs.map qw.o,h.vs.map Prod.fst⟩
abbrev xz2 (i:Nat):Value:= .int .i64 (i:Int)
def placeOf (l:List IdB) (x:IdB):Option Nat:=if x∈l then some (l.idxOf x) else none
theorem placeOf_step {l:List IdB} {x:IdB} (h:x∉l):xx8 (placeOf l) x l.length=placeOf (l++[x]):=by
 funext y
 unfold xx8 placeOf
 by_cases e:y=x
 ·subst e
  rw[if_pos rfl,if_pos zp,List.idxOf_append,if_neg h]
  simp
 rw[if_neg e]
 by_cases hy:y∈l
 ·rw[if_pos hy,if_pos (by simp[hy]),List.idxOf_append,if_pos hy]
 rw[if_neg hy,if_neg (by simp[hy,e])]
def InH (p:Option Addr) (H:Nat→Prop):Prop:=∀b off,p=some ⟨b,off,none⟩→H b
theorem InH.mono {p:Option Addr} {H G:Nat→Prop} (h:InH p H) (k:∀y,H y→G y):InH p G:=fun b off e=>k b (h b off e)
theorem Sl.inH {S H:Nat→Prop} {w w':World} {p:Option Addr} {n sz:Nat} {xs:List Value} (h:Sl w p n sz xs) (hE:Ext S w w') (hH:InH p H) (hS:∀y,H y→¬S y):Sl w' p n sz xs:=h.ext hE fun b off e=>hS b (hH b off e)
def ObjB (a:vb) (y:Nat):Prop:=jd a.lp y∨jd a.pp y∨jd a.rp y
structure z8 (u:World) (H:Nat→Prop) (x:qw):Prop where
  id:x.id=Ac x.o
  ok:Co x.o
  ol:Own u x.a.lp x.o.leaves.length x.a.lc 148 33 (x.o.leaves.flatMap je.cells)
  op:Own u x.a.pp x.o.parents.length x.a.pc 30 32 (x.o.parents.flatMap ge)
  or:Own u x.a.rp x.o.rows.length x.a.rc 150 3 (x.o.rows.flatMap ud.cells)
  f:∀y,ObjB x.a y→H y
theorem z8.l {H:Nat→Prop} {u:World} {x:qw} (h:z8 u H x):B3 u x.o x.a:=⟨h.ol.sl,h.op.sl,h.or.sl⟩
theorem z8.ext {S H:Nat→Prop} {u u':World} {x:qw} (h:z8 u H x) (hE:Ext S u u') (hS:∀y,H y→¬S y):z8 u' H x:=
 ⟨h.id,h.ok,h.ol.ext hE fun y hy=>hS y (h.f y (.inl hy)),h.op.ext hE fun y hy=>hS y (h.f y (.inr (.inl hy))),h.or.ext hE fun y hy=>hS y (h.f y (.inr (.inr hy))),h.f⟩
theorem z8.xc {W:World} {H:Nat→Prop} {u u':World} {T:Nat} {x:qw} (h:z8 u H x) (hE:Ext (Ay W u T T) u u') (h1:148≠T) (h2:30≠T) (h3:150≠T):z8 u' H x:=
 ⟨h.id,h.ok,h.ol.xc hE h1 h1,h.op.xc hE h2 h2,h.or.xc hE h3 h3,h.f⟩
theorem z8.gk {H:Nat→Prop} {u u':World} {x:qw} (h:z8 u H x) {b T:Nat} {L:List Value} (hE:Ext (One b) u u') (hb:gz u b T L) (h1:148≠T) (h2:30≠T) (h3:150≠T):z8 u' H x:=
 ⟨h.id,h.ok,h.ol.k8 hE hb h1,h.op.k8 hE hb h2,h.or.k8 hE hb h3,h.f⟩
theorem z8.x5 {kv:List UInt8→Value} {okx:List UInt8→Prop} {β:Type} {H:Nat→Prop} {u u':World} {x:qw} (h:z8 u H x) {r:Nat} {enc:β→Value} {g:List UInt8→Option β} (hm:z1 kv okx u r enc g) (hE:Ext (One r) u u'):z8 u' H x:=
 ⟨h.id,h.ok,h.ol.x5 hm hE,h.op.x5 hm hE,h.or.x5 hm hE,h.f⟩
theorem z8.mono {H G:Nat→Prop} {u:World} {x:qw} (h:z8 u H x) (k:∀y,H y→G y):z8 u G x:=⟨h.id,h.ok,h.ol,h.op,h.or,fun y hy=>k y (h.f y hy)⟩
theorem z8.len {H:Nat→Prop} {u:World} {x:qw} (h:z8 u H x):(Az x).length=105:=yv6 (by rw[h.id];exact vf _) h.ok.1
structure zx2 (u:World) (H:Nat→Prop) (x:Aw):Prop where
  o:Own u x.2.1 x.1.2.length x.2.2 5 1 (ge x.1.2)
  f:∀y,jd x.2.1 y→H y
  ln:x.1.1.length<1000000000
  lo:x.1.2.length<1000000000
theorem zx2.s {H:Nat→Prop} {u:World} {x:Aw} (h:zx2 u H x):x3 u x.2.1 x.1.2:=h.o.sl
theorem zx2.ext {S H:Nat→Prop} {u u':World} {x:Aw} (h:zx2 u H x) (hE:Ext S u u') (hS:∀y,H y→¬S y):zx2 u' H x:=⟨h.o.ext hE fun y hy=>hS y (h.f y hy),h.f,h.ln,h.lo⟩
theorem zx2.xc {W:World} {H:Nat→Prop} {u u':World} {T:Nat} {x:Aw} (h:zx2 u H x) (hE:Ext (Ay W u T T) u u') (h1:5≠T):zx2 u' H x:=⟨h.o.xc hE h1 h1,h.f,h.ln,h.lo⟩
theorem zx2.gk {H:Nat→Prop} {u u':World} {x:Aw} (h:zx2 u H x) {b T:Nat} {L:List Value} (hE:Ext (One b) u u') (hb:gz u b T L) (h1:5≠T):zx2 u' H x:=⟨h.o.k8 hE hb h1,h.f,h.ln,h.lo⟩
theorem zx2.x5 {kv:List UInt8→Value} {okx:List UInt8→Prop} {β:Type} {H:Nat→Prop} {u u':World} {x:Aw} (h:zx2 u H x) {r:Nat} {enc:β→Value} {g:List UInt8→Option β} (hm:z1 kv okx u r enc g) (hE:Ext (One r) u u'):zx2 u' H x:=⟨h.o.x5 hm hE,h.f,h.ln,h.lo⟩
theorem zx2.mono {H G:Nat→Prop} {u:World} {x:Aw} (h:zx2 u H x) (k:∀y,H y→G y):zx2 u G x:=⟨h.o,fun y hy=>k y (h.f y hy),h.ln,h.lo⟩
structure x2 (u:World) (H:Nat→Prop) (h:u7):Prop where
  row:Sl u h.rp h.hs.length 105 (h.hs.flatMap Az)
  rc:h.hs.length≤h.rc
  map:MapO u h.m xz2 (placeOf (h.hs.map qw.id))
  vals:Sl u h.vp h.vs.length 2 (h.vs.flatMap vv)
  vc:h.vs.length≤h.vc
  o:∀x∈h.hs,z8 u H x
  v:∀x∈h.vs,zx2 u H x
  fr:InH h.rp H
  fv:InH h.vp H
  fm:∀r,h.m=some r→H r
  few:h.hs.length<1000000
  fev:h.vs.length<1000000
theorem x2.ext {S H:Nat→Prop} {u u':World} {h:u7} (k:x2 u H h) (hE:Ext S u u') (hS:∀y,H y→¬S y):x2 u' H h:=
 ⟨Sl.inH k.row hE k.fr hS,k.rc,k.map.imp _root_.id fun⟨r,e,hm⟩=>⟨r,e,hm.ext hE (hS r (k.fm r e))⟩,Sl.inH k.vals hE k.fv hS,k.vc,fun x hx=>(k.o x hx).ext hE hS,fun x hx=>(k.v x hx).ext hE hS,k.fr,k.fv,k.fm,k.few,k.fev⟩
theorem x2.ga {H:Nat→Prop} {u u':World} {h:u7} (k:x2 u H h) (hE:Ext No u u'):x2 u' H h:=k.ext hE fun _ _=>_root_.id
theorem x2.held {u:World} {H:Nat→Prop} {h:u7} (k:x2 u H h):∀x∈h.hs,(Az x).length=105:=fun x hx=>(k.o x hx).len
def FindAt (l:List A2) (n:Str) (i:Nat) (q:Bool):Prop:=i≤l.length∧(∀v∈l.take i,nLt v.1 n)∧(∀v,(l.drop i).head? =some v→¬nLt v.1 n)∧(q=true↔∃v,(l.drop i).head? =some v∧v.1=n)
theorem yj8 {α:Type} {l:List α} {i:Nat} (hi:i<l.length):(l.drop i).head? =some l[i]:=by rw[List.head?_drop];exact List.getElem?_eq_getElem hi
theorem drop_none {α:Type} {l:List α} {i:Nat} (hi:l.length≤i):(l.drop i).head? =none:=by rw[List.drop_eq_nil_of_le hi];rfl
theorem find_calls (w:World) {rv mv:Value} (_h1:rv.oneCell'=true) (_h2:mv.oneCell'=true) {p:Option Addr} {c:Nat} {vs:List Aw} (h:Sl w p vs.length 2 (vs.flatMap vv)) (hl:vs.length<1000000) {n:Str}:
  gp prog 53 [.agg #[rv,mv,.slice p vs.length c],xf n] w fun v w'=>∃(i:Nat) (q:Bool),v= .tuple #[.int .i64 (i:Int),.bool q]∧FindAt (vs.map Prod.fst) n i q∧Ext No w w':=by
 refine gh func53 rfl rfl rfl rfl ?_
 have hX:=Ext.refl No w
 refine kz (gw rfl fun b2 w1 hn2 hb2 hE1=> ?_)
 have fr2:=Nat.le_trans hX.size hn2
 have hX:=hX.gb hE1
 have hb2:gz w1 b2 121 ([rv,mv,.slice p vs.length c]):=hb2
 refine ju rfl (jc rfl (gl (gu ?_)))
 refine jn (α:=Nat) [1,2] rfl (fun z=>[(6,.int .i64 (z:Int))]) (fun z u=>(z≤vs.length∧∀v∈(vs.map Prod.fst).take z,nLt v.1 n)∧gz u b2 121 ([rv,mv,.slice p vs.length c])∧Ext No w u) (fun z u=>vs.length-z) (0) rfl ⟨⟨Nat.zero_le _,fun _ h=>(by cases h)⟩,hb2,hX⟩ ?_
 rintro i w2 ⟨⟨hi,hlt⟩,hb2,hX⟩
 refine gl (jv (α:=Bool) [1,2,6] rfl (fun z=>[(21,.bool z)]) (fun z u=>(z=true↔∃v,((vs.map Prod.fst).drop i).head? =some v∧nLt v.1 n)∧gz u b2 121 ([rv,mv,.slice p vs.length c])∧Ext No w u) ?_ ?_)
 ·refine j1 ?_
  refine j7 gc rfl (j0 rfl (hb2.cell rfl) (j7 gc rfl (jl 12 rfl (fun hg=> ?_) (fun hg=> ?_))))
  ·have hi2:i<vs.length:=by omega
   have hi3:i<(vs.map Prod.fst).length:=by rw[List.length_map];exact hi2
   have hdh:=yj8 hi3
   rw[List.getElem_map] at hdh
   obtain⟨qb,qo,hp,hsq⟩:=h.qv (fun x _=>Aj x) zo
   subst hp
   refine j3 gc 1 rfl (j0 rfl (hb2.cell rfl) (j3 gc 1 rfl (ka rfl 2 rfl i rfl hi2 (qo+i*2) rfl (j3 gc 1 rfl (j0 rfl (((hsq i hi2).ga hX) 0 _ rfl) (j3 gc 3 rfl (gn ?_)))))))
   exact j4 (_) rfl ⟨by rw[decide_eq_true_eq,hdh];exact⟨fun k=>⟨_,rfl,k⟩,fun⟨v,e,k⟩=>by cases e;exact k⟩,hb2,hX⟩
  have hdn:=drop_none (l:=vs.map Prod.fst) (i:=i) (by rw[List.length_map];omega)
  refine j3 gc 9 rfl (gn ?_)
  exact j4 (false) rfl ⟨by rw[hdn];exact⟨fun k=>(by cases k),fun⟨v,e,_⟩=>by cases e⟩,hb2,hX⟩
 rintro z w3 ⟨hz,hb2,hX⟩
 refine vh rfl (fun hc=> ?_) (fun hc=> ?_)
 ·obtain⟨v0,hv0,hv1⟩:=hz.1 hc
  have hi3:i<(vs.map Prod.fst).length:=by
   rcases Nat.lt_or_ge i (vs.map Prod.fst).length with h'|h'
   ·exact h'
   rw[drop_none h'] at hv0;cases hv0
  have hi2:i<vs.length:=by rw[List.length_map] at hi3;exact hi3
  rw[yj8 hi3] at hv0
  refine j6 (gy (gu (yu rfl ?_)))
  rw[IntWalk.i64_in _ zo]
  refine gn ?_
  exact jz (jm (i+1) rfl ⟨⟨hi2,fun v hv=>by rw[List.take_succ_eq_append_getElem hi3] at hv;rcases List.mem_append.1 hv with hv|hv;exact hlt v hv;rw[List.mem_singleton.1 hv];cases hv0;exact hv1⟩,hb2,hX⟩ zf)
 have hge:∀v,((vs.map Prod.fst).drop i).head? =some v→¬nLt v.1 n:=fun v e k=>by rw[hz.2 ⟨v,e,k⟩] at hc;cases hc
 refine Bg ?_
 refine jv (α:=Bool) [] rfl (fun z=>[(4,.int .i64 (i:Int)),(5,.bool z)]) (fun z u=>(z=true↔∃v,((vs.map Prod.fst).drop i).head? =some v∧v.1=n)∧gz u b2 121 ([rv,mv,.slice p vs.length c])∧Ext No w u) ?_ ?_
 ·refine jt rfl 18 [(0,true),(1,true),(2,true),(3,true),(4,true),(5,true),(6,true),(7,true),(8,true),(9,true),(10,true),(11,true),(12,true),(13,true),(14,true),(15,true),(16,true),(17,true)] [] (No) zk fun w4 hE4 hs4=> ?_
  have hd2:=hb2
  have hXd:=hX
  have hb2:=hb2.ga hE4
  have hX:=hX.gb hE4
  have hC:Ext (No) _ w4:=hE4.no
  refine gx gc 3 rfl (j5 gc rfl rfl (fun w' hw'=>(hd2.ga hw').cell rfl) ?_)
  refine gx gc 3 rfl (Af 30 rfl (fun hg=> ?_) (fun hg=> ?_))
  ·have hi2:i<vs.length:=by omega
   have hi3:i<(vs.map Prod.fst).length:=by rw[List.length_map];exact hi2
   have hdh:=yj8 hi3
   rw[List.getElem_map] at hdh
   obtain⟨qb,qo,hp,hsq⟩:=h.qv (fun x _=>Aj x) zo
   subst hp
   refine gx gc 1 rfl (j5 gc rfl rfl (fun w' hw'=>(hd2.ga hw').cell rfl) ?_)
   refine gx gc 1 rfl (qs gc rfl rfl 2 rfl i rfl hi2 (qo+i*2) rfl (gx gc 1 rfl (j5 gc rfl rfl (fun w' hw'=>(((hsq i hi2).ga (hXd.gb hw')) 0 _ rfl)) ?_)))
   refine gx gc 5 rfl (jj (j9 ?_))
   exact j4 (_) rfl ⟨by rw[decide_eq_true_eq,hdh];exact⟨fun k=>⟨_,rfl,Am k⟩,fun⟨v,e,k⟩=>by cases e;rw[←k]⟩,hb2,hX⟩
  have hdn:=drop_none (l:=vs.map Prod.fst) (i:=i) (by rw[List.length_map];omega)
  refine gx gc 11 rfl (jj (j9 ?_))
  exact j4 (false) rfl ⟨by rw[hdn];exact⟨fun k=>(by cases k),fun⟨v,e,_⟩=>by cases e⟩,hb2,hX⟩
 rintro z w5 ⟨hz2,hb2,hX⟩
 refine gr (qk [_,_] ⟨rfl,rfl,trivial⟩ ?_)
 exact⟨i,_,rfl,⟨by rw[List.length_map];exact hi,hlt,hge,hz2⟩,hX⟩
structure zx8 (W u:World) (G:Nat→Prop) (h:u7):Prop where
  row:Da W u h.rp h.hs.length h.rc 126 105 (h.hs.flatMap Az)
  rin:InH h.rp G
  map:∃r,h.m=some r∧W.heap.size≤r∧MapB u r xz2 (placeOf (h.hs.map qw.id))
  vals:ku W u h.vp h.vs.length h.vc 129 2 (h.vs.flatMap vv)
  o:∀x∈h.hs,z8 u G x
  v:∀x∈h.vs,zx2 u G x
  few:h.hs.length<1000000
  fev:h.vs.length<1000000
  new:∀y,W.heap.size≤y→G y
theorem ownN_in {W u:World} {G:Nat→Prop} {p:Option Addr} {n c T sz:Nat} {xs:List Value} (h:ku W u p n c T sz xs) (hG:∀y,W.heap.size≤y→G y):InH p G:=fun b off e=>by
 rcases h.own with⟨h0,_⟩|⟨b',l,h0,_⟩
 ·rw[e] at h0;cases h0
 rw[e] at h0;cases h0
 exact hG _ (h.new _ e)
def RestT (T:Nat):Prop:=148≠T∧30≠T∧150≠T∧5≠T∧126≠T
instance (T:Nat):Decidable (RestT T):=inferInstanceAs (Decidable (_∧_))
structure Cf (W u:World) (G:Nat→Prop) (rp:Option Addr) (rc:Nat) (hs:List qw) (r:Nat) (vs:List Aw):Prop where
  row:Da W u rp hs.length rc 126 105 (hs.flatMap Az)
  map:MapB u r xz2 (placeOf (hs.map qw.id))
  o:∀x∈hs,z8 u G x
  v:∀x∈vs,zx2 u G x
section
variable {W u u':World} {G:Nat→Prop} {rp:Option Addr} {rc r:Nat} {hs:List qw} {vs:List Aw}
theorem Cf.ga (k:Cf W u G rp rc hs r vs) (hE:Ext No u u'):Cf W u' G rp rc hs r vs:=⟨k.row.ga hE,k.map.ga hE,fun x hx=>(k.o x hx).ext hE fun _ _=>id,fun x hx=>(k.v x hx).ext hE fun _ _=>id⟩
theorem Cf.gk (k:Cf W u G rp rc hs r vs) {b T:Nat} {L:List Value} (hE:Ext (One b) u u') (hb:gz u b T L) (hn:W.heap.size≤b) (hT:RestT T):Cf W u' G rp rc hs r vs:=
 ⟨k.row.gk hE hb hn hT.2.2.2.2,k.map.gk hE hb,fun x hx=>(k.o x hx).gk hE hb hT.1 hT.2.1 hT.2.2.1,fun x hx=>(k.v x hx).gk hE hb hT.2.2.2.1⟩
theorem Cf.xc (k:Cf W u G rp rc hs r vs) {T:Nat} (hE:Ext (Ay W u T T) u u') (hT:RestT T):Cf W u' G rp rc hs r vs:=
 ⟨k.row.xc hE hT.2.2.2.2,k.map.xc hE,fun x hx=>(k.o x hx).xc hE hT.1 hT.2.1 hT.2.2.1,fun x hx=>(k.v x hx).xc hE hT.2.2.2.1⟩
end
theorem valZc:cellsOf ti129.zero=vv (([],[]),none,0):=by kernel_rfl
def partM (g:IdB→Option Nat) (l:List IdB):IdB→Option Nat:=fun x=>if x∈l then g x else none
theorem partM_step {g:IdB→Option Nat} {l:List IdB} {x:IdB} {b:Nat} (h:g x=some b):xx8 (partM g l) x b=partM g (l++[x]):=by
 funext y
 unfold xx8 partM
 by_cases e:y=x
 ·subst e;rw[if_pos rfl,if_pos zp,h]
 rw[if_neg e];simp[e]
theorem partM_all {g:IdB→Option Nat} {l:List IdB} (h:∀x b,g x=some b→x∈l):partM g l=g:=by
 funext y
 unfold partM
 split
 ·rfl
 rename_i hy
 cases hg:g y with
 |none=>rfl
 |some b=>exact absurd (h y b hg) hy
theorem xq9 (w:World) {H:Nat→Prop} {h:u7} (hx:x2 w H h) (hH:∀y,H y→y<w.heap.size):
  gp prog 57 [.agg h.c.toArray] w fun v w'=>∃h':u7,v= .agg h'.c.toArray∧h'.hs=h.hs∧h'.vs=h.vs∧zx8 w w' (fun y=>H y∨w.heap.size≤y) h'∧Ext No w w':=by
 have i:=hx.map
 have ch:=hx.fev
 have ci:=hx.few
 refine gh func57 rfl rfl rfl rfl ?_
 have j:=Ext.refl No w
 refine kz (gw rfl fun b1 w1 cj f b5=> ?_)
 have i:=i.ga b5
 have j:=j.gb b5
 have f:gz w1 b1 121 (h.c):=f
 refine gw rfl fun b2 w2 bg d av=> ?_
 have bh:=Nat.le_trans j.size bg
 have f:=f.ga av
 have i:=i.ga av
 have j:=j.gb av
 have d:gz w2 b2 121 ([.slice none 0 0,.map none,.slice none 0 0]):=d
 refine ql ?_
 have bi:=f.lt
 have aw:=d.lt
 have b6:=j.size
 refine jv (α:=(Nat)×Nat×Nat) [1,2] rfl (fun z=>[(3,.pointer (some ⟨z.2.1,0,none⟩))]) (fun z u=>(MapB u z.1 xz2 (fun _=>none)∧w.heap.size≤z.1∧MapO u h.m xz2 (placeOf (h.hs.map qw.id)))∧gz u b1 121 (h.c)∧gz u b2 121 ([.slice none 0 0,.map none,.slice none 0 0])∧gz u z.2.1 121 ([.slice h.rp h.hs.length h.hs.length,.map (some z.1),.slice (some ⟨z.2.2,0,none⟩) h.vs.length h.vs.length])∧w2.heap.size≤z.2.1∧gz u z.2.2 129 (Bw h.vs.length (vv (([],[]),none,0)))∧w2.heap.size≤z.2.2∧z.2.1≠z.2.2∧Ext No w u) ?_ ?_
 ·have t:=Nat.le_refl w2.heap.size
  refine zv6 rfl 19 19 [19] (No) zk fun w3 aj ck=> ?_
  have ak:=f
  have b7:=i
  have f:=f.ga aj
  have d:=d.ga aj
  have i:=i.ga aj
  have t:=Nat.le_trans t aj.size
  have j:=j.gb aj
  have D:Ext No _ w3:=aj
  obtain⟨nn,bj⟩:=b7.len
  refine qf [(0,true),(1,true),(2,true),(3,true),(4,true),(5,true),(6,true),(7,true),(8,true),(9,true),(10,true),(11,true),(13,true),(14,true),(15,true)] 4 rfl zk (gx gc 1 rfl ?_)
  refine j5 gc rfl rfl (fun w' U=>(ak.ga U).cell rfl) ?_
  refine gx gc 1 rfl (j5 gc rfl rfl (fun w' U=>(ak.ga U).cell rfl) ?_)
  refine gx gc 2 rfl (j5 gc rfl rfl (fun w' U=>(ak.ga U).cell rfl) ?_)
  refine gx gc 1 rfl (zq4 gc rfl rfl 0 h.hs.length h.hs.length 105 rfl (.inl ⟨rfl,rfl⟩) (.inl rfl) (.inr ⟨rfl,rfl⟩) (Nat.zero_le _) (Nat.le_refl _) hx.rc ?_)
  rw[kc,Nat.sub_zero]
  refine gx gc 1 rfl (j5 gc rfl rfl (fun w' U=>(ak.ga U).cell rfl) ?_)
  refine wd_lnO gc rfl rfl (n:=nn) (fun w' U=>bj w' U) ?_
  refine gx gc 1 rfl (j5 gc rfl rfl (fun w' U=>(ak.ga U).cell rfl) ?_)
  refine gx gc 1 rfl (xn rfl (Ad [12,16,18] rfl zk ⟨⟨_,rfl,?_⟩,⟨_,rfl,?_⟩,⟨_,rfl,?_⟩,trivial⟩))
  ·have a8:=j
   refine st_mms gc idV IsId xz2 rfl fun r w4 hr s ae cl=>⟨D.gb ae,?_⟩
   have f:=f.ga ae
   have d:=d.ga ae
   have i:=i.ga ae
   have t:=Nat.le_trans t ae.size
   have j:=j.gb ae
   have D:=D.gb ae
   have I:=Nat.le_trans a8.size hr
   refine qf [] 3 rfl zk (xn rfl (Ad [16,18] rfl zk ⟨⟨_,rfl,?_⟩,⟨_,rfl,?_⟩,trivial⟩))
   ·refine Cg gc rfl h.vs.length h.vs.length 40 rfl valZc rfl zd rfl rfl (Nat.le_refl _) zo zm fun k w5 p a aa cm=>⟨D.gb aa,?_⟩
    have A:=Nat.le_trans t p
    have T:=Nat.le_trans D.size p
    have f:=f.ga aa
    have d:=d.ga aa
    have i:=i.ga aa
    have s:=s.ga aa
    have t:=Nat.le_trans t aa.size
    have j:=j.gb aa
    have D:=D.gb aa
    have a:gz w5 k 129 (Bw h.vs.length (vv (([],[]),none,0))):=a
    refine qf [(17,true),(18,false)] 0 rfl zk ?_
    refine xj6 gc rfl rfl ⟨⟨rfl,by decide⟩,⟨rfl,by decide⟩,⟨rfl,by decide⟩,trivial⟩ (l':=[.slice h.rp h.hs.length h.hs.length,.map (some r),.slice (some ⟨k,0,none⟩) h.vs.length h.vs.length]) rfl ?_
    refine jg rfl (Bj gc rfl fun J w6 l g ab=>⟨D.gb ab,?_⟩)
    have E:b1≠J:=Nat.ne_of_lt (Nat.lt_of_lt_of_le f.lt l)
    have F:b2≠J:=Nat.ne_of_lt (Nat.lt_of_lt_of_le d.lt l)
    have C:k≠J:=Nat.ne_of_lt (Nat.lt_of_lt_of_le a.lt l)
    have a4:=Nat.le_trans j.size l
    have G:=Nat.le_trans t l
    have a9:=Nat.le_trans D.size l
    have f:=f.ga ab
    have d:=d.ga ab
    have a:=a.ga ab
    have i:=i.ga ab
    have s:=s.ga ab
    have t:=Nat.le_trans t ab.size
    have j:=j.gb ab
    refine jj ?_
    have B:=g
    refine wb rfl (j8 (l':=[.slice h.rp h.hs.length h.hs.length,.map (some r),.slice (some ⟨k,0,none⟩) h.vs.length h.vs.length]) gc g rfl rfl rfl rfl OneC.h fun w7 g af cn=> ?_)
    have f:=f.gk af E
    have d:=d.gk af F
    have a:=a.gk af C
    have i:=i.gk af B
    have s:=s.gk af B
    have t:=Nat.le_trans t af.size
    have j:=j.gj af a4
    refine j9 ?_
    exact j4 ((r),J,k) rfl ⟨⟨s,I,i⟩,f,d,g,G,a,A,C.symm,j⟩
   refine Bj gc rfl fun J w8 l g ac=>⟨D.gb ac,?_⟩
   have E:b1≠J:=Nat.ne_of_lt (Nat.lt_of_lt_of_le f.lt l)
   have F:b2≠J:=Nat.ne_of_lt (Nat.lt_of_lt_of_le d.lt l)
   have a4:=Nat.le_trans j.size l
   have G:=Nat.le_trans t l
   have a9:=Nat.le_trans D.size l
   have f:=f.ga ac
   have d:=d.ga ac
   have i:=i.ga ac
   have s:=s.ga ac
   have t:=Nat.le_trans t ac.size
   have j:=j.gb ac
   have D:=D.gb ac
   refine qf [(16,false),(17,true)] 0 rfl zk ?_
   refine jg rfl (Cg gc rfl h.vs.length h.vs.length 40 rfl valZc rfl zd rfl rfl (Nat.le_refl _) zo zm fun k w9 p a ad co=>⟨D.gb ad,?_⟩)
   have q:J≠k:=Nat.ne_of_lt (Nat.lt_of_lt_of_le g.lt p)
   have A:=Nat.le_trans t p
   have T:=Nat.le_trans D.size p
   have f:=f.ga ad
   have d:=d.ga ad
   have g:=g.ga ad
   have i:=i.ga ad
   have s:=s.ga ad
   have t:=Nat.le_trans t ad.size
   have j:=j.gb ad
   have a:gz w9 k 129 (Bw h.vs.length (vv (([],[]),none,0))):=a
   refine xj6 gc rfl rfl ⟨⟨rfl,by decide⟩,⟨rfl,by decide⟩,⟨rfl,by decide⟩,trivial⟩ (l':=[.slice h.rp h.hs.length h.hs.length,.map (some r),.slice (some ⟨k,0,none⟩) h.vs.length h.vs.length]) rfl (jj ?_)
   have B:=g
   refine wb rfl (j8 (l':=[.slice h.rp h.hs.length h.hs.length,.map (some r),.slice (some ⟨k,0,none⟩) h.vs.length h.vs.length]) gc g rfl rfl rfl rfl OneC.h fun cp g V bx=> ?_)
   have f:=f.gk V E
   have d:=d.gk V F
   have a:=a.gk V q.symm
   have i:=i.gk V B
   have s:=s.gk V B
   have t:=Nat.le_trans t V.size
   have j:=j.gj V a4
   refine j9 ?_
   exact j4 ((r),J,k) rfl ⟨⟨s,I,i⟩,f,d,g,G,a,A,q,j⟩
  ·refine Cg gc rfl h.vs.length h.vs.length 40 rfl valZc rfl zd rfl rfl (Nat.le_refl _) zo zm fun k bm p a W bz=>⟨D.gb W,?_⟩
   have A:=Nat.le_trans t p
   have T:=Nat.le_trans D.size p
   have f:=f.ga W
   have d:=d.ga W
   have i:=i.ga W
   have t:=Nat.le_trans t W.size
   have j:=j.gb W
   have D:=D.gb W
   have a:gz bm k 129 (Bw h.vs.length (vv (([],[]),none,0))):=a
   refine qf [] 3 rfl zk (xn rfl (Ad [12,18] rfl zk ⟨⟨_,rfl,?_⟩,⟨_,rfl,?_⟩,trivial⟩))
   ·have a8:=j
    refine st_mms gc idV IsId xz2 rfl fun r cq hr s K c0=>⟨D.gb K,?_⟩
    have f:=f.ga K
    have d:=d.ga K
    have a:=a.ga K
    have i:=i.ga K
    have t:=Nat.le_trans t K.size
    have j:=j.gb K
    have D:=D.gb K
    have I:=Nat.le_trans a8.size hr
    refine qf [(17,true),(18,false)] 0 rfl zk ?_
    refine xj6 gc rfl rfl ⟨⟨rfl,by decide⟩,⟨rfl,by decide⟩,⟨rfl,by decide⟩,trivial⟩ (l':=[.slice h.rp h.hs.length h.hs.length,.map (some r),.slice (some ⟨k,0,none⟩) h.vs.length h.vs.length]) rfl ?_
    refine jg rfl (Bj gc rfl fun J cr l g L=>⟨D.gb L,?_⟩)
    have E:b1≠J:=Nat.ne_of_lt (Nat.lt_of_lt_of_le f.lt l)
    have F:b2≠J:=Nat.ne_of_lt (Nat.lt_of_lt_of_le d.lt l)
    have C:k≠J:=Nat.ne_of_lt (Nat.lt_of_lt_of_le a.lt l)
    have a4:=Nat.le_trans j.size l
    have G:=Nat.le_trans t l
    have a9:=Nat.le_trans D.size l
    have f:=f.ga L
    have d:=d.ga L
    have a:=a.ga L
    have i:=i.ga L
    have s:=s.ga L
    have t:=Nat.le_trans t L.size
    have j:=j.gb L
    refine jj ?_
    have B:=g
    refine wb rfl (j8 (l':=[.slice h.rp h.hs.length h.hs.length,.map (some r),.slice (some ⟨k,0,none⟩) h.vs.length h.vs.length]) gc g rfl rfl rfl rfl OneC.h fun cs g X c1=> ?_)
    have f:=f.gk X E
    have d:=d.gk X F
    have a:=a.gk X C
    have i:=i.gk X B
    have s:=s.gk X B
    have t:=Nat.le_trans t X.size
    have j:=j.gj X a4
    refine j9 ?_
    exact j4 ((r),J,k) rfl ⟨⟨s,I,i⟩,f,d,g,G,a,A,C.symm,j⟩
   refine Bj gc rfl fun J ct l g M=>⟨D.gb M,?_⟩
   have E:b1≠J:=Nat.ne_of_lt (Nat.lt_of_lt_of_le f.lt l)
   have F:b2≠J:=Nat.ne_of_lt (Nat.lt_of_lt_of_le d.lt l)
   have C:k≠J:=Nat.ne_of_lt (Nat.lt_of_lt_of_le a.lt l)
   have a4:=Nat.le_trans j.size l
   have G:=Nat.le_trans t l
   have a9:=Nat.le_trans D.size l
   have f:=f.ga M
   have d:=d.ga M
   have a:=a.ga M
   have i:=i.ga M
   have t:=Nat.le_trans t M.size
   have j:=j.gb M
   have D:=D.gb M
   refine qf [(12,false),(17,true)] 0 rfl zk ?_
   have a8:=j
   refine jg rfl (st_mms gc idV IsId xz2 rfl fun r cu hr s O c2=>⟨D.gb O,?_⟩)
   have f:=f.ga O
   have d:=d.ga O
   have a:=a.ga O
   have g:=g.ga O
   have i:=i.ga O
   have t:=Nat.le_trans t O.size
   have j:=j.gb O
   have I:=Nat.le_trans a8.size hr
   refine xj6 gc rfl rfl ⟨⟨rfl,by decide⟩,⟨rfl,by decide⟩,⟨rfl,by decide⟩,trivial⟩ (l':=[.slice h.rp h.hs.length h.hs.length,.map (some r),.slice (some ⟨k,0,none⟩) h.vs.length h.vs.length]) rfl (jj ?_)
   have B:=g
   refine wb rfl (j8 (l':=[.slice h.rp h.hs.length h.hs.length,.map (some r),.slice (some ⟨k,0,none⟩) h.vs.length h.vs.length]) gc g rfl rfl rfl rfl OneC.h fun cv g Y c3=> ?_)
   have f:=f.gk Y E
   have d:=d.gk Y F
   have a:=a.gk Y C
   have i:=i.gk Y B
   have s:=s.gk Y B
   have t:=Nat.le_trans t Y.size
   have j:=j.gj Y a4
   refine j9 ?_
   exact j4 ((r),J,k) rfl ⟨⟨s,I,i⟩,f,d,g,G,a,A,C.symm,j⟩
  refine Bj gc rfl fun J cw l g Z=>⟨D.gb Z,?_⟩
  have E:b1≠J:=Nat.ne_of_lt (Nat.lt_of_lt_of_le f.lt l)
  have F:b2≠J:=Nat.ne_of_lt (Nat.lt_of_lt_of_le d.lt l)
  have a4:=Nat.le_trans j.size l
  have G:=Nat.le_trans t l
  have a9:=Nat.le_trans D.size l
  have f:=f.ga Z
  have d:=d.ga Z
  have i:=i.ga Z
  have t:=Nat.le_trans t Z.size
  have j:=j.gb Z
  have D:=D.gb Z
  refine qf [] 3 rfl zk (xn rfl (Ad [12,16] rfl zk ⟨⟨_,rfl,?_⟩,⟨_,rfl,?_⟩,trivial⟩))
  ·have a8:=j
   refine st_mms gc idV IsId xz2 rfl fun r cx hr s P c4=>⟨D.gb P,?_⟩
   have f:=f.ga P
   have d:=d.ga P
   have g:=g.ga P
   have i:=i.ga P
   have t:=Nat.le_trans t P.size
   have j:=j.gb P
   have D:=D.gb P
   have I:=Nat.le_trans a8.size hr
   refine qf [(16,false),(17,true)] 0 rfl zk ?_
   refine jg rfl (Cg gc rfl h.vs.length h.vs.length 40 rfl valZc rfl zd rfl rfl (Nat.le_refl _) zo zm fun k bn p a Q c5=>⟨D.gb Q,?_⟩)
   have q:J≠k:=Nat.ne_of_lt (Nat.lt_of_lt_of_le g.lt p)
   have A:=Nat.le_trans t p
   have T:=Nat.le_trans D.size p
   have f:=f.ga Q
   have d:=d.ga Q
   have g:=g.ga Q
   have i:=i.ga Q
   have s:=s.ga Q
   have t:=Nat.le_trans t Q.size
   have j:=j.gb Q
   have a:gz bn k 129 (Bw h.vs.length (vv (([],[]),none,0))):=a
   refine xj6 gc rfl rfl ⟨⟨rfl,by decide⟩,⟨rfl,by decide⟩,⟨rfl,by decide⟩,trivial⟩ (l':=[.slice h.rp h.hs.length h.hs.length,.map (some r),.slice (some ⟨k,0,none⟩) h.vs.length h.vs.length]) rfl (jj ?_)
   have B:=g
   refine wb rfl (j8 (l':=[.slice h.rp h.hs.length h.hs.length,.map (some r),.slice (some ⟨k,0,none⟩) h.vs.length h.vs.length]) gc g rfl rfl rfl rfl OneC.h fun cy g a0 c6=> ?_)
   have f:=f.gk a0 E
   have d:=d.gk a0 F
   have a:=a.gk a0 q.symm
   have i:=i.gk a0 B
   have s:=s.gk a0 B
   have t:=Nat.le_trans t a0.size
   have j:=j.gj a0 a4
   refine j9 ?_
   exact j4 ((r),J,k) rfl ⟨⟨s,I,i⟩,f,d,g,G,a,A,q,j⟩
  refine Cg gc rfl h.vs.length h.vs.length 40 rfl valZc rfl zd rfl rfl (Nat.le_refl _) zo zm fun k bo p a R c7=>⟨D.gb R,?_⟩
  have q:J≠k:=Nat.ne_of_lt (Nat.lt_of_lt_of_le g.lt p)
  have A:=Nat.le_trans t p
  have T:=Nat.le_trans D.size p
  have f:=f.ga R
  have d:=d.ga R
  have g:=g.ga R
  have i:=i.ga R
  have t:=Nat.le_trans t R.size
  have j:=j.gb R
  have D:=D.gb R
  have a:gz bo k 129 (Bw h.vs.length (vv (([],[]),none,0))):=a
  refine qf [(12,false),(17,true)] 0 rfl zk ?_
  have a8:=j
  refine jg rfl (st_mms gc idV IsId xz2 rfl fun r cz hr s S c8=>⟨D.gb S,?_⟩)
  have f:=f.ga S
  have d:=d.ga S
  have g:=g.ga S
  have a:=a.ga S
  have i:=i.ga S
  have t:=Nat.le_trans t S.size
  have j:=j.gb S
  have I:=Nat.le_trans a8.size hr
  refine xj6 gc rfl rfl ⟨⟨rfl,by decide⟩,⟨rfl,by decide⟩,⟨rfl,by decide⟩,trivial⟩ (l':=[.slice h.rp h.hs.length h.hs.length,.map (some r),.slice (some ⟨k,0,none⟩) h.vs.length h.vs.length]) rfl (jj ?_)
  have B:=g
  refine wb rfl (j8 (l':=[.slice h.rp h.hs.length h.hs.length,.map (some r),.slice (some ⟨k,0,none⟩) h.vs.length h.vs.length]) gc g rfl rfl rfl rfl OneC.h fun d0 g a1 c9=> ?_)
  have f:=f.gk a1 E
  have d:=d.gk a1 F
  have a:=a.gk a1 q.symm
  have i:=i.gk a1 B
  have s:=s.gk a1 B
  have t:=Nat.le_trans t a1.size
  have j:=j.gj a1 a4
  refine j9 ?_
  exact j4 ((r),J,k) rfl ⟨⟨s,I,i⟩,f,d,g,G,a,A,q,j⟩
 rintro⟨r,J,k⟩ d1 ⟨⟨s,I,i⟩,f,d,g,l,a,p,q,j⟩
 try dsimp only
 dsimp only at g l a p q
 have ag:b2≠k:=Nat.ne_of_lt (Nat.lt_of_lt_of_le aw p)
 have aq:=Nat.le_trans b6 p
 dsimp only at s I i
 refine gl (km rfl (j0 rfl (f.cell rfl) ?_))
 have bp:=j
 have d2:=s.lt
 have ca:=g.lt
 refine wl (st_rgO gc rfl i fun it N d3 bq hI a5=> ?_)
 have f:=f.ga a5
 have d:=d.ga a5
 have g:=g.ga a5
 have a:=a.ga a5
 have s:=s.ga a5
 have j:=j.gb a5
 have b8:=Nat.le_trans bp.size bq
 have b9:it≠r:=by omega
 have br:∀r2,h.m=some r2→r2≠r:=fun r2 e e2=>by have:=hH r2 (hx.fm r2 e);omega
 refine ql (gu ?_)
 refine jn (α:=List IdB) [1,2,3,26] rfl (fun z=>[]) (fun z u=>(Cq u it h.m xz2 (placeOf (h.hs.map qw.id)) N z∧MapB u r xz2 (partM (placeOf (h.hs.map qw.id)) z))∧gz u b1 121 (h.c)∧gz u b2 121 ([.slice none 0 0,.map none,.slice none 0 0])∧gz u J 121 ([.slice h.rp h.hs.length h.hs.length,.map (some r),.slice (some ⟨k,0,none⟩) h.vs.length h.vs.length])∧gz u k 129 (Bw h.vs.length (vv (([],[]),none,0)))∧Ext No w u) (fun z u=>N-z.length) ([]) rfl ⟨⟨hI,by rw[show partM (placeOf (h.hs.map qw.id)) []=fun _=>none from by funext x;simp[partM]];exact s⟩,f,d,g,a,j⟩ ?_
 rintro al d4 ⟨⟨hI,s⟩,f,d,g,a,j⟩
 refine kz (wl (st_nxO rfl hI (fun ba=> ?_) (fun xk bk d5 bs ah d6 cb bt bb a6 cc=> ?_)))
 ·refine j7 gc rfl ?_
  refine ql (gl (u3 rfl (Bg (km rfl (jb g rfl rfl (j7 gc rfl (jb f rfl rfl ?_)))))))
  have ax:=a
  refine wl (zz7 gc rfl 2 rfl a (Src.slice (hx.vals.ga j) OneC.h) (Nat.le_refl _) (by rw[ub];exact Nat.le_of_eq (Nat.zero_add _)) fun bu ar ai cd=> ?_)
  have a:gz bu k 129 (h.vs.flatMap vv):=by rw[A7 (by rw[ub,hx.vals.1];rfl)] at ar;exact ar
  have d:=d.gk ai ag
  have g:=g.gk ai q
  have s:=s.gk ai ax
  have j:=j.gj ai aq
  refine ql (kz (jh g rfl rfl ?_))
  have bc:=d
  refine wl (j8 (l':=[.slice h.rp h.hs.length h.hs.length,.map (some r),.slice (some ⟨k,0,none⟩) h.vs.length h.vs.length]) gc d rfl rfl rfl rfl OneC.h fun d7 d am ce=> ?_)
  have a:=a.gk am ag.symm
  have s:=s.gk am bc
  have j:=j.gj am bh
  refine ql (gr (qk [_] ⟨⟨b2,0,rfl,qu gc rfl rfl d.ki rfl⟩,trivial⟩ ?_))
  exact⟨⟨h.rp,h.hs.length,h.hs,some r,some ⟨k,0,none⟩,h.vs.length,h.vs⟩,rfl,rfl,rfl,⟨.inl ⟨rfl,hx.row.ga j,fun b bv e=>hH b (hx.fr b bv e)⟩,hx.fr.mono fun _=> .inl,⟨r,rfl,I,by rw[partM_all ba] at s;exact s⟩,ku.blk a aq (hx.vals.1) zm,fun x h'=>((hx.o x h').ext j fun _ _=>_root_.id).mono fun _=> .inl,fun x h'=>((hx.v x h').ext j fun _ _=>_root_.id).mono fun _=> .inl,hx.few,hx.fev,fun y hy=> .inr hy⟩,j⟩
 have f:=f.gk a6 (hI.neB f).1.symm
 have d:=d.gk a6 (hI.neB d).1.symm
 have g:=g.gk a6 (hI.neB g).1.symm
 have a:=a.gk a6 (hI.neB a).1.symm
 have s:=s.ext a6 b9.symm
 have hI:=bt
 have j:=j.gj a6 b8
 refine ju rfl (gl (vi rfl (j6 (gy (gu (kz ?_))))))
 obtain⟨rr,_,bd⟩:=bb
 refine wl (st_en rfl bd (j7 gc rfl (gw rfl fun b4 d8 an ao a2=> ?_)))
 have ay:b1≠b4:=Nat.ne_of_lt (Nat.lt_of_lt_of_le f.lt an)
 have az:b2≠b4:=Nat.ne_of_lt (Nat.lt_of_lt_of_le d.lt an)
 have b0:J≠b4:=Nat.ne_of_lt (Nat.lt_of_lt_of_le g.lt an)
 have ap:k≠b4:=Nat.ne_of_lt (Nat.lt_of_lt_of_le a.lt an)
 have bw:=Nat.le_trans j.size an
 have f:=f.ga a2
 have d:=d.ga a2
 have g:=g.ga a2
 have a:=a.ga a2
 have s:=s.ga a2
 have hI:=hI.ga a2
 have j:=j.gb a2
 have au:=ao
 refine wl (j8 (l':=ge xk) gc ao rfl rfl (by rw[gm];exact ah) (by rw[gm,ah];rfl) OneC.h fun d9 ao a3 cf=> ?_)
 have f:=f.gk a3 ay
 have d:=d.gk a3 az
 have g:=g.gk a3 b0
 have a:=a.gk a3 ap
 have s:=s.gk a3 au
 have hI:=hI.gk a3 au
 have j:=j.gj a3 bw
 refine ju rfl (yu rfl (jb g rfl rfl (jh ao rfl (by rw[gm];exact ah) (j7 gc rfl ?_))))
 refine wl (st_mu gc rfl idK ah rfl s (b:=bk) rfl fun da bf a7 cg=> ?_)
 rw[partM_step bs] at bf
 have f:=f.x5 s a7
 have d:=d.x5 s a7
 have g:=g.x5 s a7
 have a:=a.x5 s a7
 have hI:=hI.ext a7 b9 br
 have j:=j.gj a7 I
 refine gn ?_
 exact jz (jm (al++[xk]) rfl ⟨⟨hI,bf⟩,f,d,g,a,j⟩ (by rw[List.length_append];show N-(al.length+1)<N-al.length;omega))
end Go.Proofs.YtpdiphfjmepijaaGreatDoor
namespace Go.Vc
section
variable {P:Program} {I:qr} {f:Fs} {ops:Array Oper} {o:Oper} {env:Env} {w:World} {K:Env→World→Prop}
def capE (I:qr) (n:Nat) (ops:Array Oper) (env:Env) (o:Oper):Option (Nat×Nat):=
  match pre n ops env o with
  |false=>none
  |true=>match o.dst with
    |some d=>match o.op with
      | .call {callee:= .builtin .cap,args:=xs,argTypes:=ts}=>match xs.toList with
        | [x]=>match ts.toList with
          | [t]=>match xm I t with
            |some y=>match y.desc with
              | .slice _=>match vr env x with
                |some (.slice _ _ c)=>some (c,d)
                |_=>none
              |_=>none
            |none=>none
          |_=>none
        |_=>none
      |_=>none
    |none=>none
theorem st_cap (hI:I.Ok P) {c d:Nat} (h:capE I f.n ops env o=some (c,d)) (k:K ((d,.int .i64 (c:Int))::env) w):St P f ops o env w K:=by
 unfold capE at h
 split at h
 ·cases h
 rename_i j
 obtain⟨l,m⟩:=pre_eq j
 split at h
 ·rename_i F q
  split at h
  ·rename_i r s a
   split at h
   ·rename_i x b
    split at h
    ·rename_i t g
     split at h
     ·rename_i y u
      split at h
      ·rename_i e z
       split at h
       ·rename_i p n G A
        cases h
        have i:=(hI.get u).under w
        rw[z] at i
        have B:r= #[x]:=by rw[←b]
        have C:s= #[t]:=by rw[←g]
        subst B C
        have D:(Builtin.cap_ #[t] o.type #[.slice p n c]).run P w= .ok (.int .i64 (c:Int)) w:=by
         unfold Builtin.cap_
         simp only[List.getElem?_toArray,List.getElem?_cons_zero]
         rw[ja i]
         rfl
        refine xe l m (v:= .int .i64 (c:Int)) (w':=w) (fun H E=> ?_) (by rw[q];exact k)
        unfold execOp
        simp only[a,resolve,invoke,builtin,Sem.run_bind,Sem.run_pure,Result.andThen_ok,List.map_toArray,List.map_cons,List.map_nil,E _ _ A,D]
       cases h
      cases h
     cases h
    cases h
   cases h
  cases h
 cases h
theorem run_app0 (hI:I.Ok P) {t t2 ty e:Nat} {y y2 g:TI} {kk:IntKind} (hy:xm I t=some y) (he:y.desc= .slice e) (hg:xm I e=some g) (hy2:xm I t2=some y2) (hd2:y2.desc= .int kk)
  (hz:(cellsOf g.zero).length=g.size) (hz0:0<g.size) {p:Option Addr} {n c:Nat} {xs:List Value} (hsl:Sl w p n g.size xs) {m:Nat}
  (hm:n+m≤maxLen) (hb:(n+m)*g.bytes≤140737488355328) (hgr:c<n+m) (kx:IntKind):
  ∃c' w',(Builtin.append_ #[t,t2] ty #[.slice p n c,.int kx (m:Int)]).run P w= .ok (.slice (some ⟨w.heap.size,0,none⟩) (n+m) c') w'∧Own w' (some ⟨w.heap.size,0,none⟩) (n+m) c' e g.size (xs++Bw m (cellsOf g.zero))∧Ext No w w':=by
 have H:=(hI.get hy).under w
 rw[he] at H
 have K:=(hI.get hg).sizeOf w
 have k:=(hI.get hy2).under w
 rw[hd2] at k
 obtain⟨i,L,N,J,O⟩:=TI.Ok.info (hI.get hg)
 have d:=hsl.1
 unfold maxLen at hm
 have f:∀w:World,(typeInfo e).run P w= .ok i w:=fun w=>by unfold typeInfo;simp[L]
 have u:IntKind.i64.wrap (m:Int)=(m:Int):=IntWalk.i64_in _ zo
 have l:¬(n+m≤c):=by omega
 have v:¬((n+m:Nat):Int)>IntKind.i64.max:=by
  show¬((n+m:Nat):Int)>2^(64-1)-1
  omega
 have x:¬Builtin.nextslicecap (n+m) c*i.bytes>2^48:=by
  have:=growslice_fits (need:=n+m) (old:=c) (bytes:=i.bytes) zo (by rw[J];exact hb)
  simp only[gt_iff_lt,Nat.not_lt]
  exact this
 have z:¬(m:Int)*(i.bytes:Int)>2^48:=by
  have Q:m*i.bytes≤(n+m)*g.bytes:=by rw[J];exact Nat.mul_le_mul_right _ zo
  have M:((m*i.bytes:Nat):Int)≤140737488355328:=by omega
  rw[Int.natCast_mul] at M
  omega
 have o:¬(m:Int)<0:=by omega
 have A:(choose (.appendCap (n+m) c e)).run P w= .ok (grownCap w (n+m) c e) w.drew:=by
  simp[Question.forced,grownCap]
 have q:(Builtin.firstCells g.size n (.slice p n c)).run P w.drew= .ok xs.toArray w.drew:=by
  rcases hsl.2 with j|⟨b,r,rfl,B⟩
  ·have:xs=[]:=by rw[j] at d;simpa using d
   subst this;subst j
   cases p with
   |none=>rfl
   |some a=>
    unfold Builtin.firstCells loadCells
    rw[Nat.zero_mul]
    rfl
  have C:Seg w.drew b (r+0) xs:=B
  have:=uq (P:=P) (n*g.size) 0 xs #[] C d
  show(loadCellsFrom ⟨b,r,none⟩ 0 (n*g.size) #[]).run P w.drew=_
  rw[this]
  simp
 have D:n+m≤grownCap w (n+m) c e:=by
  unfold grownCap Question.cut
  exact Nat.le_add_right _ _
 have E:grownCap w (n+m) c e≤maxLen:=grownCap_le_maxLen w _ _ _ zr
 have F:¬m*g.size=0∨m=0:=by
  rcases Nat.eq_zero_or_pos m with h|h
  ·exact .inr h
  exact .inl (by have:=Nat.mul_pos h hz0;omega)
 refine⟨grownCap w (n+m) c e,w.drew.alloc (.cells (xs++Bw m (cellsOf g.zero)++Bw (grownCap w (n+m) c e-(n+m)) (cellsOf g.zero)).toArray e),?_,.inr ⟨_,_,rfl,Br w.drew _ e,?_,D,E,?_⟩,?_⟩
 ·unfold Builtin.append_
  simp only[List.getElem?_toArray,List.getElem?_cons_zero,List.getElem?_cons_succ]
  rw[ja H]
  simp only[]
  rw[Sem.run_bind,K,Result.andThen_ok]
  rw[ja k]
  have G:∀w:World,(asInt (.int kx (m:Int))).run P w= .ok (m:Int) w:=fun _=>rfl
  simp only[pure_bind,if_true,Sem.run_bind,G,Result.andThen_ok,u,Sem.run_ite,o,if_false,f,z,Sem.run_pure,Int.toNat_natCast,l,v,false_and,x,A,run_askRoom,q,(hI.get hg).zeroValue,Bool.not_true,Bool.false_eq_true,newRow,run_newObj]
  have s:g.zero.cells=(cellsOf g.zero).toArray:=by rw[←vw]
  rcases F with j|j
  ·rw[if_neg j]
   simp only[Result.andThen_ok,s,Ap _ _ (show 0<(cellsOf g.zero).length by omega),List.append_toArray]
   rfl
  subst j
  simp only[Nat.zero_mul,if_true,Result.andThen_ok,s,Ap _ _ (show 0<(cellsOf g.zero).length by omega)]
  simp only[Bw,List.replicate_zero,List.flatten_nil,List.append_nil,Array.append_empty,List.append_toArray]
  rfl
 ·rw[List.length_append,List.length_append,ub,ub,hz,d,←Nat.add_mul,←Nat.add_mul]
  congr 1
  omega
 ·rw[Nat.add_mul,←d,←hz,←ub,←List.length_append,List.take_left]
 exact(Ext.drew w).then (Ext.alloc w.drew _ e)
structure App0Args where
  p:Option Addr
  n:Nat
  c:Nat
  e:Nat
  g:TI
  x:Int
  d:Nat
def app0E (I:qr) (n:Nat) (ops:Array Oper) (env:Env) (o:Oper):Option App0Args:=
  match pre n ops env o with
  |false=>none
  |true=>match o.dst with
    |some d=>match o.op with
      | .call {callee:= .builtin .append,args:=xs,argTypes:=ts}=>match xs.toList with
        | [s,x]=>match ts.toList with
          | [t,t2]=>match xm I t with
            |some y=>match y.desc with
              | .slice e=>match xm I e with
                |some g=>match xm I t2 with
                  |some y2=>match y2.desc with
                    | .int _=>match vr env s with
                      |some (.slice p m c)=>match vr env x with
                        |some (.int _ q)=>some ⟨p,m,c,e,g,q,d⟩
                        |_=>none
                      |_=>none
                    |_=>none
                  |none=>none
                |none=>none
              |_=>none
            |none=>none
          |_=>none
        |_=>none
      |_=>none
    |none=>none
theorem st_app0 (hI:I.Ok P) {s:App0Args} (h:app0E I f.n ops env o=some s) (sz by_:Nat) (hsz:s.g.size=sz) (hby:s.g.bytes=by_) {zs:List Value} (hzs:cellsOf s.g.zero=zs) (hz:zs.length=sz) (hz0:0<sz) {xs:List Value} (hsl:Sl w s.p s.n sz xs) (m:Nat) (hxm:s.x=(m:Int))
  (hm:s.n+m≤maxLen) (hb:(s.n+m)*by_≤140737488355328) (hgr:s.c<s.n+m)
  (k:∀b c' w',w.heap.size≤b→Own w' (some ⟨b,0,none⟩) (s.n+m) c' s.e sz (xs++Bw m zs)→Ext No w w'→K ((s.d,.slice (some ⟨b,0,none⟩) (s.n+m) c')::env) w'):St P f ops o env w K:=by
 subst hsz
 subst hby
 subst hzs
 unfold app0E at h
 split at h
 ·cases h
 rename_i F
 obtain⟨G,H⟩:=pre_eq F
 split at h
 ·rename_i X J
  split at h
  ·rename_i i L M
   split at h
   ·rename_i B C j
    have l:i= #[B,C]:=by apply Array.ext';simpa using j
    subst l
    split at h
    ·rename_i t N r
     have u:L= #[t,N]:=by apply Array.ext';simpa using r
     subst u
     split at h
     ·rename_i y O
      split at h
      ·rename_i e Q
       split at h
       ·rename_i g R
        split at h
        ·rename_i Y z
         split at h
         ·rename_i Z A
          split at h
          ·rename_i p n c S
           split at h
           ·rename_i D q T
            cases h
            simp only at*
            subst hxm
            obtain⟨c',w',U,a,V⟩:=run_app0 (P:=P) (ty:=o.type) hI O Q R z A hz hz0 hsl hm hb hgr D
            refine xe G H (v:= .slice (some ⟨w.heap.size,0,none⟩) (n+m) c') (w':=w') (fun ρ E=> ?_) (by rw[J];exact k _ c' w' (Nat.le_refl _) a V)
            have W:Array.map ρ #[B,C]= #[.slice p n c,.int D (m:Int)]:=by simp[E _ _ S,E _ _ T]
            simp only[execOp,M,resolve,Sem.run_bind,Sem.run_pure,Result.andThen_ok,invoke,builtin,W,U]
           cases h
          cases h
         cases h
        cases h
       cases h
      cases h
     cases h
    cases h
   cases h
  cases h
 cases h
theorem st_extn {x:Operand} {xs:Array Operand} {ts:Array TypeId} {g:FuncId} {vs:List Value} {v:Value} {w':World} (ho:o.op= .call {callee:= .value x,args:=xs,argTypes:=ts}) (hg:takes ops env o=true) {d:Nat} (hd:o.dst=some d) (hdn:Nat.blt d f.n=true)
  (hx:vr env x=some (.func (.func g) #[] #[])) (hvs:evs env xs.toList=some vs) (hr:(callFunc g vs.toArray).run P w= .ok (.value v) w') (k:K ((d,v)::env) w'):St P f ops o env w K:=by
 refine xe (o:=o) (v:=v) (w':=w') hg (by rw[hd];exact hdn) (fun ρ hρ=> ?_) (by rw[hd];exact k)
 have hevs:∀(l:List Operand) vs,evs env l=some vs→l.map ρ=vs:=by
  intro l
  induction l with
  |nil=>intro vs h;simp[evs] at h;subst h;rfl
  |cons y r ih=>
   intro vs h
   simp only[evs] at h
   split at h
   ·rename_i u hu
    split at h
    ·rename_i l' hl'
     simp at h;subst h
     simp[hρ _ _ hu,ih _ hl']
    simp at h
   simp at h
 have h1:xs.map ρ=vs.toArray:=by
  apply Array.ext'
  rw[Array.toList_map,hevs _ _ hvs]
 simp only[execOp,ho,resolve,h1,hρ _ _ hx,Deferred.ofValue,Sem.run_bind,Sem.run_pure,Result.andThen_ok,invoke,Array.empty_append,Array.append_empty,hr]
end
section
variable {P:Program} {I:qr} {f:Fs} {ops:Array Oper} {o:Oper} {env:Env} {w:World}
def eqPE (n:Nat) (ops:Array Oper) (env:Env) (o:Oper):Option (Nat×Bool×Addr×Addr×Nat):=
  match pre n ops env o with
  |false=>none
  |true=>match o.dst with
    |some d=>match o.op with
      | .binOp op t x y _=>match vr env x with
        |some (.pointer (some a))=>match vr env y with
          |some (.pointer (some b))=>match op with
            | .eql=>some (t,true,a,b,d)
            | .neq=>some (t,false,a,b,d)
            |_=>none
          |_=>none
        |_=>none
      |_=>none
    |none=>none
end
section
variable {P:Program} {I:qr} {f:Fs} {ops:Array Oper} {o:Oper} {env:Env} {w:World}
structure ClArgs where
  p:Option Addr
  n:Nat
  g:TI
def clE (I:qr) (n:Nat) (ops:Array Oper) (env:Env) (o:Oper):Option ClArgs:=
  match pre n ops env o with
  |false=>none
  |true=>match o.dst with
    |none=>match o.op with
      | .call {callee:= .builtin .clear,args:=xs,argTypes:=ts}=>match xs.toList with
        | [s]=>match ts.toList with
          | [t]=>match xm I t with
            |some y=>match y.desc with
              | .slice e=>match xm I e with
                |some g=>match vr env s with
                  |some (.slice p m _)=>some ⟨p,m,g⟩
                  |_=>none
                |none=>none
              |_=>none
            |none=>none
          |_=>none
        |_=>none
      |_=>none
    |some _=>none
theorem st_cl {K:Env→World→Prop} (hI:I.Ok P) {s:ClArgs} (h:clE I f.n ops env o=some s) {zs:List Value} (hz:cellsOf s.g.zero=zs) (hzl:0<zs.length) (h1:∀v∈zs,v.oneCell'=true)
  (k0:s.n=0→K env w)
  (k:0<s.n→∃b off T l,s.p=some ⟨b,off,none⟩∧gz w b T l∧off+s.n*zs.length≤l.length∧∀w',gz w' b T (put l off (Bw s.n zs))→Ext (One b) w w'→w'.heap.size=w.heap.size→K env w'):St P f ops o env w K:=by
 subst hz
 unfold clE at h
 split at h
 ·cases h
 rename_i W
 obtain⟨Q,R⟩:=pre_eq W
 split at h
 ·rename_i S
  split at h
  ·rename_i u X U
   split at h
   ·rename_i d z
    have A:u= #[d]:=by apply Array.ext';simpa using z
    subst A
    split at h
    ·rename_i t B
     have C:X= #[t]:=by apply Array.ext';simpa using B
     subst C
     split at h
     ·rename_i y Y
      split at h
      ·rename_i e Z
       split at h
       ·rename_i g hg
        split at h
        ·rename_i p n c V
         cases h
         simp only at*
         have D:=(hI.get Y).under w
         rw[Z] at D
         have E:=(hI.get hg).zeroValue w
         have q:Array.map (fun x=>x) #[d]= #[d]:=by simp
         rcases Nat.eq_zero_or_pos n with F|F
         ·subst F
          refine xe Q R (v:= .tuple #[]) (w':=w) (fun ρ G=> ?_) (by rw[S];exact k0 rfl)
          have q:Array.map ρ #[d]= #[.slice p 0 c]:=by simp[G _ _ V]
          have a:(Builtin.clear_ #[t] o.type #[.slice p 0 c]).run P w= .ok (.tuple #[]) w:=by
           unfold Builtin.clear_
           simp only[List.getElem?_toArray,List.getElem?_cons_zero]
           rw[ja D]
           cases p<;>simp
          simp only[execOp,U,resolve,Sem.run_bind,Sem.run_pure,Result.andThen_ok,invoke,builtin,q,a]
         obtain⟨b,off,T,l,rfl,i,H,kk⟩:=k F
         have J:(Bw n (cellsOf g.zero)).length=n*(cellsOf g.zero).length:=ub _ _
         obtain⟨w',L,M,hE,N⟩:=va (P:=P) (Bw n (cellsOf g.zero)) w l off 0 i (by rw[J];omega) (fun v j=>by
          unfold Bw at j
          obtain⟨r,L,j⟩:=List.mem_flatten.1 j
          rw[(List.mem_replicate.1 L).2] at j
          exact h1 v j)
         refine xe Q R (v:= .tuple #[]) (w':=w') (fun ρ G=> ?_) (by rw[S];exact kk w' M hE N)
         have q:Array.map ρ #[d]= #[.slice (some ⟨b,off,none⟩) n c]:=by simp[G _ _ V]
         have O:(Builtin.zeroCells g.zero.cells n).toList=Bw n (cellsOf g.zero):=by
          rw[show g.zero.cells=(cellsOf g.zero).toArray from by rw[←vw],Ap _ _ hzl]
         have a:(Builtin.clear_ #[t] o.type #[.slice (some ⟨b,off,none⟩) n c]).run P w= .ok (.tuple #[]) w':=by
          unfold Builtin.clear_
          simp only[List.getElem?_toArray,List.getElem?_cons_zero]
          rw[ja D]
          obtain⟨m,rfl⟩:∃m,n=m+1:=⟨n-1,by omega⟩
          simp only[Sem.run_bind,E,Result.andThen_ok,O,L,Sem.run_pure]
         simp only[execOp,U,resolve,Sem.run_bind,Sem.run_pure,Result.andThen_ok,invoke,builtin,q,a]
        cases h
       cases h
      cases h
     cases h
    cases h
   cases h
  cases h
 cases h
end
end Go.Vc
namespace Go.Proofs.YtpdiphfjmepijaaGreatDoor
open Tryz
open Go.Vc
theorem ownCut {w:World} {p:Option Addr} {n c T sz:Nat} {xs:List Value} (h:Own w p n c T sz xs) {i:Nat} (hi:i≤n):Own w p i c T sz (xs.take (i*sz)):=by
 rcases h with⟨a,e,d,f⟩|⟨b,l,a,e,d,f,g,j⟩
 ·refine .inl ⟨a,by omega,d,by rw[f];simp⟩
 exact .inr ⟨b,l,a,e,d,by omega,g,by rw[←j,List.take_take,Nat.min_eq_left (Nat.mul_le_mul_right _ hi)]⟩
theorem vals_take (vs:List Aw) (i:Nat) (hi:i≤vs.length):(vs.flatMap vv).take (i*2)=(vs.take i).flatMap vv:=by
 rw[←List.take_append_drop i vs,List.flatMap_append,List.take_left' (by rw[yx7 fun x _=>Aj x,List.length_take,Nat.min_eq_left hi]),List.take_append_drop]
theorem vals_drop (vs:List Aw) (i:Nat) (hi:i≤vs.length):(vs.flatMap vv).drop (i*2)=(vs.drop i).flatMap vv:=by
 conv=>lhs;rw[←List.take_append_drop i vs,List.flatMap_append,List.drop_left' (by rw[yx7 fun x _=>Aj x,List.length_take,Nat.min_eq_left hi])]
theorem yz9 (vs:List Aw):(vs.flatMap vv).length=vs.length*2:=yx7 fun x _=>Aj x
theorem Sl.vdrop {w:World} {p:Option Addr} {vs:List Aw} (h:Sl w p vs.length 2 (vs.flatMap vv)) {i c:Nat} (hi:i≤vs.length) (hc:vs.length≤c):Sl w (u1 p i c 2) (vs.length-i) 2 ((vs.drop i).flatMap vv):=by
 have:=h.slice i vs.length c hi hc (Nat.le_refl _)
 rw[vals_drop vs i hi,List.take_of_length_le (by rw[yz9,List.length_drop];exact Nat.le_refl _)] at this
 exact this
theorem ins_fit {l A B X:List Value} {i n:Nat} (h:l.take (n*2)=A++B) (hA:A.length=i*2) (hB:B.length=(n-i)*2) (hX:X.length=2) (hi:i≤n) (hl:(n+1)*2≤l.length):(put (put l ((i+1)*2) B) (i*2) X).take ((n+1)*2)=A++X++B:=by
 have a:l.take (i*2)=A:=by
  have:(l.take (n*2)).take (i*2)=A:=by rw[h,List.take_left' hA]
  rw[List.take_take,Nat.min_eq_left zo] at this
  exact this
 have b:put l ((i+1)*2) B=l.take ((i+1)*2)++B++l.drop ((i+1)*2+B.length):=put_eq _ _ _ zo
 have c:(l.take ((i+1)*2)).length=(i+1)*2:=by rw[List.length_take];omega
 rw[put_eq _ _ _ (by rw[vu];omega),b,hX,show i*2+2=(i+1)*2 from by omega]
 rw[show(l.take ((i+1)*2)++B++l.drop ((i+1)*2+B.length)).drop ((i+1)*2)=B++l.drop ((i+1)*2+B.length) from by rw[List.append_assoc,List.drop_left' c]]
 rw[show(l.take ((i+1)*2)++B++l.drop ((i+1)*2+B.length)).take (i*2)=A from by rw[List.append_assoc,List.take_append_of_le_length zo,List.take_take,Nat.min_eq_left zo,a]]
 rw[←List.append_assoc,List.take_left' (by rw[List.length_append,List.length_append,hA,hX,hB];omega)]
theorem ins_grow {l A B X:List Value} {i n:Nat} (h:l.take (i*2)=A) (hA:A.length=i*2) (hB:B.length=(n-i)*2) (hX:X.length=2) (hi:i≤n) (hl:(n+1)*2≤l.length):(put (put l (i*2) X) ((i+1)*2) B).take ((n+1)*2)=A++X++B:=by
 have b:put l (i*2) X=A++X++l.drop ((i+1)*2):=by rw[put_eq _ _ _ zo,h,hX,show i*2+2=(i+1)*2 from by omega]
 rw[put_eq _ _ _ (by rw[vu];omega),b]
 have a:(A++X).length=(i+1)*2:=by rw[List.length_append,hA,hX];omega
 rw[List.take_left' a,List.take_left' (by rw[List.length_append,a,hB];omega)]
theorem put_lo {l vs:List Value} {k:Nat} (h:k+vs.length≤l.length):(put l k vs).take k=l.take k:=by
 rw[put_eq _ _ _ h,List.append_assoc,List.take_left' zl]
theorem vdelete_calls (w:World) {W:World} (_hW:Ext No W w) {p:Option Addr} {c:Nat} {vs:List Aw} (hq:ku W w p vs.length c 129 2 (vs.flatMap vv)) (hl:vs.length<1000000) {i:Nat} (hi:i<vs.length):
  gp prog 186 [.slice p vs.length c,.int .i64 (i:Int),.int .i64 ((i+1:Nat):Int)] w fun v w'=>∃q k,v= .slice q (vs.take i++vs.drop (i+1)).length k∧ku W w' q (vs.take i++vs.drop (i+1)).length k 129 2 ((vs.take i++vs.drop (i+1)).flatMap vv)∧Ext (jd p) w w':=by
 have b:=hq.own.cap
 obtain⟨o,V,g,C,I,D,r,E⟩:=hq.own.opened zo
 have j:(vs.take i++vs.drop (i+1)).length=i+(vs.length-(i+1)):=by rw[List.length_append,List.length_take,List.length_drop,Nat.min_eq_left zo]
 refine gh func186 rfl rfl rfl rfl ?_
 have d:=Ext.refl (jd p) w
 refine jc rfl (km rfl (wl (Ah gc rfl i (i+1) vs.length 2 rfl (.inl ⟨rfl,rfl⟩) (.inl rfl) (.inl rfl) zo zo b (ql (gl (gl ?_))))))
 refine j1 (ju rfl (jp rfl (fun F=> ?_) (fun F=> ?_)))
 ·exact absurd F zo
 refine j6 ?_
 refine gy (jc rfl (gl (jt rfl 8 [(0,true),(1,true),(2,true),(3,true),(4,true),(5,true),(6,false),(7,true)] [] (jd p) zk fun J f K=> ?_)))
 have hq:=hq.ga f
 have d:=d.gb f
 have L:Ext (jd p) _ J:=f.no
 refine gx gc 2 rfl (zq4 gc rfl rfl 0 i c 2 rfl (.inr ⟨rfl,rfl⟩) (.inl rfl) (.inr ⟨rfl,rfl⟩) (Nat.zero_le _) zo (Nat.le_refl _) ?_)
 rw[kc,Nat.sub_zero,Nat.sub_zero]
 refine gx gc 2 rfl (zq4 gc rfl rfl (i+1) vs.length c 2 rfl (.inr ⟨rfl,rfl⟩) (.inr ⟨rfl,rfl⟩) (.inl rfl) zo b (Nat.le_refl _) ?_)
 refine jg rfl (st_appC gc rfl 2 40 rfl rfl rfl zd (ownCut hq.own (i:=i) zo) (Src.slice (Sl.vdrop hq.sl (i:=i+1) zo b) OneC.h) zm zn fun G m M s a=>⟨a.elim (fun h=>L.then h.2.2.2) (fun h=>absurd h.1 zn),?_⟩)
 dsimp only at s a
 obtain⟨_,N,O,t⟩:_∧G=p∧m=c∧Ext (jd p) _ _:=a.elim id fun h=>absurd h.1 zo
 subst N;subst O
 have d:=d.then t
 rw[vals_take vs i zo,←List.flatMap_append] at s
 obtain⟨l,u,x,z,A⟩:∃l,gz M o 129 l∧l.length=m*2∧i+(vs.length-(i+1))≤m∧l.take ((i+(vs.length-(i+1)))*2)=(vs.take i++vs.drop (i+1)).flatMap vv:=by
  rcases s with⟨h,_⟩|⟨X,l,H,P,Q,R,_,S⟩
  ·rw[g] at h;cases h
  rw[g] at H;cases H;exact⟨l,P,Q,R,S⟩
 refine gx gc 1 rfl (jj (j9 (gy (km rfl (wl (Ah gc rfl (i+(vs.length-(i+1))) vs.length m 2 rfl (.inr ⟨rfl,rfl⟩) (.inl rfl) (.inl rfl) zo zo (Nat.le_refl _) ?_))))))
 refine wl (st_cl gc rfl valZc zd OneC.h (fun T=>absurd T (by show vs.length-(i+(vs.length-(i+1)))≠0;omega)) fun _=>⟨o,(i+(vs.length-(i+1)))*2,_,l,by dsimp only;rw[g,y7 zo,Nat.zero_add],u,by show(i+(vs.length-(i+1)))*2+(vs.length-(i+(vs.length-(i+1))))*2≤_;omega,fun Y n B U=> ?_⟩)
 have d:=d.then (B.mono fun y _ e=>by have e:y=o:=e;rw[e];exact g)
 refine ql (jc rfl (gr (gv rfl rfl ?_)))
 exact⟨G,m,by rw[j],⟨by rw[j];exact .inr ⟨o,_,g,n,by rw[vu];exact x,z,r,by rw[put_lo (by show _+(Bw (vs.length-(i+(vs.length-(i+1)))) _).length≤_;rw[ub,Aj];omega)];exact A⟩,hq.new⟩,d⟩
theorem v_over (w:World) {bv pb ov op la ca lb cb T1 T2:Nat} {l1 l2:List Value} (hv:gz w bv T1 l1) (hp:gz w pb T2 l2) (hne:bv≠pb) (hl:l2≠[]):
  (callFunc 216 #[.slice (some ⟨bv,ov,none⟩) la ca,.slice (some ⟨pb,op,none⟩) lb cb]).run prog w= .ok (.value (.bool false)) w:=by
 rw[run_callFunc_extern func216 zk zk zk (e:=Extern.SlicesOverlaps.overlaps #[119,119] #[4]) zk]
 have a:∀w,(Go.sizeOf 129).run prog w= .ok 2 w:=fun w=>(gc.get (t:=129) rfl).sizeOf (w:=w)
 have b:w.shape? bv=some (T1,l1.length):=by unfold gz at hv;simp[World.shape?,hv]
 have c:w.shape? pb=some (T2,l2.length):=by unfold gz at hp;simp[World.shape?,hp]
 rw[Lib.run_overlaps_apart w 119 4 129 Tryz.underlying119 2 a ⟨bv,ov,none⟩ ⟨pb,op,none⟩ la ca lb cb hne T1 T2 l1.length l2.length b c (fun e=>hl (List.eq_nil_of_length_eq_zero e)) (hv.free _ rfl) (hv.free _ rfl)]
 rfl
theorem vinsert_calls (w:World) {W:World} (hW:Ext No W w) {p:Option Addr} {c:Nat} {vs:List Aw} (hq:ku W w p vs.length c 129 2 (vs.flatMap vv)) (hl:vs.length<1000000) {i:Nat} (hi:i≤vs.length) {bv:Nat} {x:Aw} (hv:gz w bv 129 (vv x)) (hne:∀y,jd p y→y≠bv):
  gp prog 187 [.slice p vs.length c,.int .i64 (i:Int),.slice (some ⟨bv,0,none⟩) 1 1] w fun v w'=>∃q k,v= .slice q (vs.take i++x::vs.drop i).length k∧ku W w' q (vs.take i++x::vs.drop i).length k 129 2 ((vs.take i++x::vs.drop i).flatMap vv)∧Ext (jd p) w w':=by
 have f:=hq.own.cap
 have g:(vs.take i++x::vs.drop i).length=vs.length+1:=by rw[List.length_append,List.length_cons,List.length_take,List.length_drop,Nat.min_eq_left hi];omega
 have O:((vs.take i).flatMap vv).length=i*2:=by rw[yz9,List.length_take,Nat.min_eq_left hi]
 have hB:((vs.drop i).flatMap vv).length=(vs.length-i)*2:=by rw[yz9,List.length_drop]
 have P:(vs.flatMap vv).take (vs.length*2)=(vs.take i).flatMap vv++(vs.drop i).flatMap vv:=by rw[←List.flatMap_append,List.take_append_drop,List.take_of_length_le (by rw[yz9];exact Nat.le_refl _)]
 have u:(vs.take i++x::vs.drop i).flatMap vv=(vs.take i).flatMap vv++vv x++(vs.drop i).flatMap vv:=by rw[List.flatMap_append,List.flatMap_cons,List.append_assoc]
 refine gh func187 rfl rfl rfl rfl ?_
 have b:=Ext.refl (jd p) w
 refine jc rfl (km rfl (wl (Ah gc rfl i vs.length c 2 rfl (.inr ⟨rfl,rfl⟩) (.inr ⟨rfl,rfl⟩) (.inl rfl) hi f (Nat.le_refl _) (ql (kz ?_)))))
 refine ju rfl (gl (jc rfl (jp rfl (fun o=> ?_) (fun o=> ?_))))
 ·exact absurd o zd
 refine j6 ?_
 refine gy (jc rfl (gl (jc rfl (jp rfl (fun o=> ?_) (fun o=> ?_)))))
 ·have h0:i=vs.length:=by omega
  have e1:vs.take i=vs:=by rw[h0];exact List.take_length
  have e2:vs.drop i=[]:=by rw[h0];exact List.drop_length
  refine km rfl ?_
  have a0:=hq.own
  refine wl (xd gc rfl 2 40 rfl rfl rfl zd hq (Src.slice (m:=1) ⟨rfl,.inr ⟨bv,0,rfl,hv.ki⟩⟩ OneC.h) zm zn (n':=(vs.take i++x::vs.drop i).length) (ys:=(vs.take i++x::vs.drop i).flatMap vv) (by rw[g]) (by rw[u,e1,e2];simp) hW fun q k w1 G H a1=> ?_)
  dsimp only at G H
  have b:=b.then H
  refine ju rfl (gr (gq (gv rfl rfl ?_)))
  exact⟨q,k,rfl,G,b⟩
 have a2:i<vs.length:=by omega
 refine xy (km rfl ?_)
 rw[IntWalk.i64_in _ zo]
 refine wl (st_cap gc rfl (ju rfl (jp rfl (fun o=> ?_) (fun o=> ?_))))
 ·have a3:c<vs.length+1:=by omega
  refine km rfl (wl (Ah gc rfl 0 i c 2 rfl (.inr ⟨rfl,rfl⟩) (.inl rfl) (.inr ⟨rfl,rfl⟩) (Nat.zero_le _) zo (Nat.le_refl _) ?_))
  rw[kc,Nat.sub_zero,Nat.sub_zero]
  refine j7 gc rfl ?_
  rw[show IntKind.i64.wrap (IntKind.i64.wrap ((vs.length:Int)+((1:Nat):Int))-(i:Int))=((vs.length+1-i:Nat):Int) from by rw[IntWalk.i64_in ((vs.length:Int)+((1:Nat):Int)) zo,IntWalk.i64_in _ zo];omega]
  have I:=b
  have Q:=hq
  have R:=hW
  refine wl (st_app0 gc rfl 2 40 rfl rfl valZc rfl zd (ownCut hq.own hi).sl (vs.length+1-i) rfl zm zn zn fun t F w2 a4 ho z=> ?_)
  have hq:=hq.ga z
  have hv:=hv.ga z
  have b:=b.gb z
  dsimp only at ho
  obtain⟨l,a,A,J,B,C⟩:∃l,gz w2 t 129 l∧l.length=F*2∧i+(vs.length+1-i)≤F∧F≤maxLen∧l.take (i*2)=(vs.take i).flatMap vv:=by
   rcases ho with⟨h,_⟩|⟨b',l,h1,h2,h3,h4,h5,h6⟩
   ·cases h
   cases h1
   refine⟨l,h2,h3,h4,h5,?_⟩
   have:=congrArg (List.take (i*2)) h6
   rw[List.take_take,Nat.min_eq_left zo,vals_take vs i hi,List.take_left' O] at this
   exact this
  have j:(vs.length+1)*2≤l.length:=by omega
  refine ju rfl (km rfl (wl (Ah gc rfl i (i+(vs.length+1-i)) F 2 rfl (.inr ⟨rfl,rfl⟩) (.inr ⟨rfl,rfl⟩) (.inl rfl) zo J (Nat.le_refl _) ?_)))
  rw[y7 zo,Nat.zero_add]
  refine j7 gc rfl (wl (zz7 gc rfl 2 rfl a (Src.slice (m:=1) ⟨rfl,.inr ⟨bv,0,rfl,hv.ki⟩⟩ OneC.h) zf zf fun w3 S K a5=> ?_))
  have b:=b.trans K fun y L e=>by have e:y=t:=e;have:=I.size;omega
  have hq:=ku.mk (hq.own.ext K fun y L e=>by have e:y=t:=e;have:=Q.own.lt L;omega) hq.new
  have a:=S
  refine ql (gl (jt rfl 9 [(0,true),(1,true),(2,true),(3,true),(4,true),(5,true),(6,true),(7,true),(8,false)] [] (One t) zk fun w4 r a6=> ?_))
  have hq:=hq.ga r
  have a:=a.ga r
  have b:=b.gb r
  have T:Ext (One t) _ w4:=r.no
  refine gx gc 4 rfl ?_
  rw[IntWalk.i64_in _ zo]
  refine zq4 gc rfl rfl (i+1) (i+(vs.length+1-i)) F 2 rfl (.inr ⟨rfl,rfl⟩) (.inr ⟨rfl,rfl⟩) (.inl (congrArg some zo)) zo J (Nat.le_refl _) ?_
  rw[y7 zo,Nat.zero_add]
  refine gx gc 2 rfl (zq4 gc rfl rfl i vs.length c 2 rfl (.inr ⟨rfl,rfl⟩) (.inr ⟨rfl,rfl⟩) (.inl rfl) hi f (Nat.le_refl _) ?_)
  refine jg rfl (zz7 gc rfl 2 rfl a (Src.slice (Sl.vdrop hq.sl hi f) OneC.h) zf (by rw[vu];first|omega|(dsimp only;omega)) fun w5 U M a7=>⟨T.then M,?_⟩)
  have b:=b.trans M fun y L e=>by have e:y=t:=e;have:=I.size;omega
  have a:=U
  refine jj (j9 (gy (jc rfl (gr (gq (gv rfl rfl ?_))))))
  exact⟨_,F,by rw[g,show i+(vs.length+1-i)=vs.length+1 from by omega],⟨.inr ⟨t,_,rfl,a,by rw[vu,vu];exact A,by omega,B,by rw[g,u];exact ins_grow C O hB rfl hi j⟩,fun y L=>by have e:t=y:=congrArg Addr.block (Option.some.inj L);have:=R.size;omega⟩,b⟩
 have d:vs.length+1≤c:=by omega
 obtain⟨s,l,hp,a,A,a8,B,C⟩:=hq.own.opened zo
 subst hp
 have j:(vs.length+1)*2≤l.length:=by omega
 have N:s≠bv:=hne s rfl
 have V:=hq.new
 have D:Sl w (some ⟨s,i*2,none⟩) (vs.length+1-(i+1)) 2 ((vs.drop i).flatMap vv):=by have:=Sl.vdrop hq.sl hi f;rw[y7 zo,Nat.zero_add] at this;rw[show vs.length+1-(i+1)=vs.length-i from by omega];exact this
 refine j6 (gy (km rfl ?_))
 rw[IntWalk.i64_in _ zo]
 refine wl (Ah gc rfl 0 (vs.length+1) c 2 rfl (.inr ⟨rfl,rfl⟩) (.inl (congrArg some zo)) (.inr ⟨rfl,rfl⟩) (Nat.zero_le _) d (Nat.le_refl _) ?_)
 rw[kc,Nat.sub_zero,Nat.sub_zero]
 refine ju rfl (gl (km rfl ?_))
 rw[IntWalk.i64_in _ zo]
 refine wl (Ah gc rfl (i+1) (vs.length+1) c 2 rfl (.inr ⟨rfl,rfl⟩) (.inr ⟨rfl,rfl⟩) (.inl (congrArg some zo)) zo d (Nat.le_refl _) ?_)
 rw[y7 zo,Nat.zero_add]
 refine wl (st_extn rfl rfl rfl rfl rfl rfl (v_over w hv a N.symm (fun e=>by rw[e] at j;simp at j)) ?_)
 refine ju rfl (vh rfl (fun o=> ?_) (fun o=> ?_))
 ·refine gl ?_
  refine jt rfl 9 [(0,true),(1,true),(2,true),(3,true),(4,true),(5,true),(6,true),(7,true),(8,false)] [] (jd (some ⟨s,0,none⟩)) zk fun w6 n a9=> ?_
  have hv:=hv.ga n
  have a:=a.ga n
  have D:=D.ga n
  have b:=b.gb n
  have T:Ext (jd (some ⟨s,0,none⟩)) _ w6:=n.no
  refine gx gc 4 rfl ?_
  rw[IntWalk.i64_in _ zo]
  refine zq4 gc rfl rfl (i+1) (vs.length+1) c 2 rfl (.inr ⟨rfl,rfl⟩) (.inr ⟨rfl,rfl⟩) (.inl (congrArg some zo)) zo d (Nat.le_refl _) ?_
  rw[y7 zo,Nat.zero_add]
  refine gx gc 2 rfl (zq4 gc rfl rfl i (vs.length+1) c 2 rfl (.inr ⟨rfl,rfl⟩) (.inr ⟨rfl,rfl⟩) (.inl rfl) zo d (Nat.le_refl _) ?_)
  rw[y7 zo,Nat.zero_add]
  refine jg rfl (st_cpK gc rfl 2 rfl a rfl zn D OneC.h (by show(i+1)*2+(vs.length+1-(i+1))*2≤_;omega) fun w7 X E aa=>⟨T.then (E.mono fun y _ e=>by have e:y=s:=e;rw[e]),?_⟩)
  have b:=b.then (E.mono fun y _ e=>by have e:y=s:=e;rw[e])
  have hv:=hv.gk E N.symm
  have a:=X
  refine jj (j9 (gy (km rfl (wl (Ah gc rfl i (vs.length+1) c 2 rfl (.inr ⟨rfl,rfl⟩) (.inr ⟨rfl,rfl⟩) (.inl rfl) zo d (Nat.le_refl _) ?_)))))
  rw[y7 zo,Nat.zero_add]
  refine j7 gc rfl (wl (zz7 gc rfl 2 rfl a (Src.slice (m:=1) ⟨rfl,.inr ⟨bv,0,rfl,hv.ki⟩⟩ OneC.h) zf (by rw[vu];first|omega|(dsimp only;omega)) fun w8 Y Z ab=> ?_))
  have b:=b.then (Z.mono fun y _ e=>by have e:y=s:=e;rw[e])
  have a:=Y
  refine ql (jc rfl (gr (gq (gv rfl rfl ?_))))
  exact⟨_,c,by rw[g],⟨.inr ⟨s,_,rfl,a,by rw[vu,vu];exact A,by omega,B,by rw[g,u];exact ins_fit (C.trans (by rw[←P,List.take_of_length_le (by rw[yz9];exact Nat.le_refl _)])) O hB rfl hi j⟩,V⟩,b⟩
 cases o
def Brg (W w:World):Nat→Prop:=fun y=>W.heap.size≤y∧∀T L,gz w y T L→T=121∨T=126∨T=129
theorem Brg.map {W w:World} {r:Nat} {kv:List UInt8→Value} {okx:List UInt8→Prop} {β:Type} {enc:β→Value} {g:List UInt8→Option β} (hm:z1 kv okx w r enc g) (hn:W.heap.size≤r):∀y,y<w.heap.size→One r y→Brg W w y:=fun y _ e=>by
 have e:y=r:=e
 rw[e];exact⟨hn,fun T L h=>absurd rfl (hm.ne h)⟩
theorem Brg.one {W w:World} {b T:Nat} {L:List Value} (hb:gz w b T L) (hn:W.heap.size≤b) (hT:T=121∨T=126∨T=129):∀y,y<w.heap.size→One b y→Brg W w y:=fun y _ e=>by
 have e:y=b:=e
 rw[e];exact⟨hn,fun U M h=>by rw[(h.uniq hb).2];exact hT⟩
theorem Brg.xc {W w:World} {T:Nat} (hT:T=121∨T=126∨T=129):∀y,y<w.heap.size→Ay W w T T y→Brg W w y:=fun y _ h=>by
 obtain⟨h1,L,h2|h2⟩:=h<;>exact⟨h1,fun U M h=>by rw[(h.uniq h2).2];exact hT⟩
theorem _root_.Go.Vc.Ext.zj9 {W w w1 w2:World} (h:Ext (Brg W w) w w1) (k:Ext (Brg W w1) w1 w2):Ext (Brg W w) w w2:=
 h.trans k fun x hx hT=>Classical.byContradiction fun hn=>hn ⟨hT.1,fun T L hb=>hT.2 T L (by have e:=h.same x hx hn;rw[gz] at hb⊢;rw[e];exact hb)⟩
theorem _root_.Go.Vc.gz.brg {W w w':World} {b V:Nat} {L:List Value} (hb:gz w b V L) (hE:Ext (Brg W w) w w') (h1:¬(V=121∨V=126∨V=129)):gz w' b V L:=hb.ext hE fun h=>h1 (h.2 _ _ hb)
theorem _root_.Go.Vc.Own.brg {W w w':World} {V:Nat} {p:Option Addr} {n c sz:Nat} {xs:List Value} (h:Own w p n c V sz xs) (hE:Ext (Brg W w) w w') (h1:¬(V=121∨V=126∨V=129)):Own w' p n c V sz xs:=
 h.ext hE fun y hy k=>by
  obtain⟨l,hl⟩:=h.zq2 hy
  exact h1 (k.2 _ _ hl)
def zw5 (row:List jk) (o:jk):Bool×Int×List jk:=if Ac o∈ur row then(true,0,row) else if∀x∈qx o,x∈ur row then(false,0,row++[o]) else(false,4,row)
theorem xq6 {l:List IdB} {x:IdB}:(placeOf l x).isSome=decide (x∈l):=by
 unfold placeOf;split
 ·rename_i h;simp[h]
 rename_i h;simp[h]
theorem links_in {o:jk} (h:u5 o):∀z∈qx o,vd z:=fun z hz=>by
 unfold qx at hz
 split at hz
 ·obtain⟨x,hx,rfl⟩:=List.mem_map.1 hz
  exact(h.leaves x hx).2
 split at hz
 ·rcases List.mem_cons.1 hz with rfl|hz
  ·exact h.tree
  exact h.parents z hz
 cases hz
theorem one_held {h:qw} (hl:(Az h).length=105):xh (Bw 1 (ge Ce++jq ut noP)) [(0*(0+105),0+105,.agg (Az h).toArray)]=Az h:=by
 simp only[xh,jf]
 rw[Nat.zero_mul,A7 (by rw[ub,hl,List.length_append,gm,gt qd];rfl)]
theorem links_short {o:jk} (h:Bf o):(qx o).length<2000000000:=by
 have h1:=h.leaves
 have h2:=h.parents
 unfold qx
 split
 ·rw[List.length_map];omega
 split
 ·rw[List.length_cons];omega
 decide
theorem held_ids {G:Nat→Prop} {u:World} {l:List qw} (h:∀x∈l,z8 u G x):l.map qw.id=ur (l.map qw.o):=by
 rw[ur,List.map_map]
 exact List.map_congr_left fun x hx=>(h x hx).id
theorem zx8.ga {W u u':World} {G:Nat→Prop} {h:u7} (k:zx8 W u G h) (hE:Ext No u u'):zx8 W u' G h:=
 ⟨k.row.ga hE,k.rin,k.map.imp fun _r e=>⟨e.1,e.2.1,e.2.2.ga hE⟩,k.vals.ga hE,fun x hx=>(k.o x hx).ext hE fun _ _=>id,fun x hx=>(k.v x hx).ext hE fun _ _=>id,k.few,k.fev,k.new⟩
theorem puts_calls (w:World) {W:World} {hb:Nat} {G:Nat→Prop} {h:u7} (hbk:gz w hb 121 h.c) (hi:zx8 W w G h) (hW:Ext No W w) (hfew:h.hs.length+1<1000000) {x:jk} {a:vb} (ho:ObjAt' W (x,a)) (hok:yf x) (hr:Rt W) (hbn:W.heap.size≤hb):
  gp prog 141 [.pointer (some ⟨hb,0,none⟩),.agg (jq x a).toArray] w fun v w'=>∃h':u7,v= .tuple #[.bool (zw5 h.s.row x).1,.int .i64 (zw5 h.s.row x).2.1]∧gz w' hb 121 h'.c∧zx8 W w' G h'∧h'.s.row=(zw5 h.s.row x).2.2∧h'.vs=h.vs∧Ext (Brg W w) w w':=by
 obtain⟨rp,rc,hs,m,vp,vc,vs⟩:=h
 obtain⟨r,hmr,hrW,hM⟩:=hi.map
 have hmr:m=some r:=hmr
 subst hmr
 have hbk:gz w hb 121 [.slice rp hs.length rc,.map (some r),.slice vp vs.length vc]:=hbk
 have hbr:hb≠r:=fun e=>hM.ne hbk e.symm
 have hids:hs.map qw.id=ur (hs.map qw.o):=held_ids hi.o
 have hM:MapB w r xz2 (placeOf (hs.map qw.id)):=hM
 rw[hids] at hM
 have hoi:=ho.i
 have hos:=ho.s
 have hol:=ho.l
 dsimp only at hoi hos hol
 have hfew:hs.length+1<1000000:=hfew
 have hrr:u7.s ⟨rp,rc,hs,some r,vp,vc,vs⟩=⟨hs.map qw.o,vs.map Prod.fst⟩:=rfl
 rw[hrr]
 have hid:idB x=Ac x:=if_pos hok
 have hlk:xx3 x=qx x:=if_pos hok
 have hll:=links_short hos
 have hW0:=hW.size
 refine gh func141 rfl rfl rfl rfl ?_
 have hX:=Ext.refl No w
 refine kz (gw rfl fun b3 w1 hn3 hb3 hE1=> ?_)
 have fr3:=Nat.le_trans hX.size hn3
 have hW:=hW.gb hE1
 have hX:=hX.gb hE1
 have hb3:gz w1 b3 37 (jq x a):=hb3
 refine ju rfl (kz (jh hb3 rfl (gt hoi) (gi call129 rfl (idObj_calls w1 hoi (hol.ga hW) hos (hr.ext hW id)) fun v2 w2 hr2=> ?_)))
 obtain⟨rfl,hE2⟩:=hr2
 have hb3:=hb3.ga hE2
 have hW:=hW.gb hE2
 have hX:=hX.gb hE2
 rw[hid,show objE x=0 from if_pos hok]
 refine j7 gc rfl (gw rfl fun b6 w3 hn6 hb6 hE3=> ?_)
 have ne3_6:b3≠b6:=Nat.ne_of_lt (Nat.lt_of_lt_of_le hb3.lt hn6)
 have fr6:=Nat.le_trans hX.size hn6
 have hb3:=hb3.ga hE3
 have hW:=hW.gb hE3
 have hX:=hX.gb hE3
 have hb6o:=hb6
 refine wl (j8 (l':=ge (Ac x)) gc hb6 rfl rfl (by rw[gm,vf]) (by rw[gm,vf];rfl) OneC.h fun w4 hb6 hE4 hs4=> ?_)
 have hb3:=hb3.gk hE4 ne3_6
 have hW:=hW.gj hE4 (Nat.le_trans hW0 fr6)
 have hX:=hX.gj hE4 fr6
 refine ju rfl (gl (jc rfl (u3 rfl (xy (gl ?_)))))
 refine jt rfl 10 [(0,true),(1,true),(2,true),(3,true),(4,true),(5,true),(6,true),(7,true),(8,true),(9,true)] [] (No) zk fun w5 hE5 hs5=> ?_
 have hd3:=hb3
 have hd6:=hb6
 have hWd:=hW
 have hXd:=hX
 have hb3:=hb3.ga hE5
 have hb6:=hb6.ga hE5
 have hW:=hW.gb hE5
 have hX:=hX.gb hE5
 have hC:Ext (No) _ w5:=hE5.no
 refine gx gc 3 rfl (j5 gc rfl rfl (fun w' hw'=>((hbk.ga (hXd.gb hw')).cell rfl)) ?_)
 refine qi gc rfl rfl (fun w' hw'=>(hd6.ga hw').ki) (by rw[gm,vf]) ?_
 refine wd_lu gc rfl rfl idK (vf _) rfl (hM.ga hX) (fun w' hw'=>hM.ga (hXd.gb hw')) ?_
 simp only[if_true]
 rw[xq6]
 refine gx gc 4 rfl (jj (j9 (gy (jc rfl (jp rfl (fun hc=> ?_) (fun hc=> ?_))))))
 ·have hp:zw5 (hs.map qw.o) x=(true,0,hs.map qw.o):=if_pos hc
  refine jc rfl (gr (gq (qk [_,_] ⟨rfl,rfl,trivial⟩ ?_)))
  exact⟨⟨rp,rc,hs,some r,vp,vc,vs⟩,by rw[hp];rfl,hbk.ga hX,hi.ga hX,by rw[hp];rfl,rfl,hX.no⟩
 have hni:¬Ac x∈ur (hs.map qw.o):=hc
 refine xy (kz (jh hb3 rfl (gt hoi) (gi call55 rfl (links_calls w5 hoi (hol.ga hW) hos) fun v6 w6 hr6=> ?_)))
 obtain⟨q,k,rfl,hq,hqn,hE6⟩:=hr6
 have hb3:=hb3.ga hE6
 have hb6:=hb6.ga hE6
 have hW:=hW.gb hE6
 have hX:=hX.gb hE6
 rw[hlk] at hq⊢
 obtain⟨w7,hw7⟩:∃w7,w7=w6:=⟨_,rfl⟩
 rw[←hw7] at hq
 have hT:Ext No w7 w6:=hw7▸Ext.refl No _
 refine ju rfl (gu ?_)
 refine jn (α:=Nat) [0,3,6,29,30] rfl (fun z=>[(31,.int .i64 (z:Int))]) (fun z u=>(z≤(qx x).length∧(∀y∈(qx x).take z,y∈ur (hs.map qw.o))∧Ext No w7 u∧Ext No W u)∧gz u b3 37 (jq x a)∧gz u b6 30 (ge (Ac x))∧Ext No w u) (fun z u=>(qx x).length-z) (0) rfl ⟨⟨Nat.zero_le _,fun _ h=>(by cases h),hT,hW⟩,hb3,hb6,hX⟩ ?_
 rintro i w7 ⟨⟨hi7,hall,hT,hW⟩,hb3,hb6,hX⟩
 refine jc rfl (gl (jp rfl (fun hc=> ?_) (fun hc=> ?_)))
 ·have hi8:i<(qx x).length:=by omega
  have hlin:vd (qx x)[i]:=links_in hoi _ (List.getElem_mem hi8)
  obtain⟨qb,qo,hp,hsq⟩:=hq.sl.qv (fun y hy=>(links_in hoi y hy).len) zo
  subst hp
  refine xy (gu (kz (ka rfl 32 rfl i rfl hi8 (qo+i*32) rfl (jo rfl ((hsq i hi8).ga hT) hlin.len ?_))))
  have hT0:=hT
  refine gw rfl fun b8 w8 hn8 hb8 hE8=> ?_
  have ne3_8:b3≠b8:=Nat.ne_of_lt (Nat.lt_of_lt_of_le hb3.lt hn8)
  have ne6_8:b6≠b8:=Nat.ne_of_lt (Nat.lt_of_lt_of_le hb6.lt hn8)
  have fr8:=Nat.le_trans hX.size hn8
  have hb3:=hb3.ga hE8
  have hb6:=hb6.ga hE8
  have hW:=hW.gb hE8
  have hT:=hT.gb hE8
  have hX:=hX.gb hE8
  have fT8:=Nat.le_trans hT0.size hn8
  have hb8o:=hb8
  refine wl (j8 (l':=ge (qx x)[i]) gc hb8 rfl rfl hlin.len (by rw[hlin.len];rfl) OneC.h fun w9 hb8 hE9 hs9=> ?_)
  have hb3:=hb3.gk hE9 ne3_8
  have hb6:=hb6.gk hE9 ne6_8
  have hW:=hW.gj hE9 (Nat.le_trans hW0 fr8)
  have hT:=hT.gj hE9 fT8
  have hX:=hX.gj hE9 fr8
  refine ql (gl (jt rfl 11 [(0,true),(1,true),(2,true),(3,true),(4,true),(5,true),(6,true),(7,true),(8,true),(9,true),(10,true)] [] (No) zk fun w10 hE10 hs10=> ?_))
  have hd3:=hb3
  have hd6:=hb6
  have hd8:=hb8
  have hWd:=hW
  have hTd:=hT
  have hXd:=hX
  have hb3:=hb3.ga hE10
  have hb6:=hb6.ga hE10
  have hb8:=hb8.ga hE10
  have hW:=hW.gb hE10
  have hT:=hT.gb hE10
  have hX:=hX.gb hE10
  have hC:Ext (No) _ w10:=hE10.no
  refine gx gc 3 rfl (j5 gc rfl rfl (fun w' hw'=>((hbk.ga (hXd.gb hw')).cell rfl)) ?_)
  refine qi gc rfl rfl (fun w' hw'=>(hd8.ga hw').ki) hlin.len ?_
  refine wd_lu gc rfl rfl idK hlin rfl (hM.ga hX) (fun w' hw'=>hM.ga (hXd.gb hw')) ?_
  simp only[if_true]
  rw[xq6]
  refine gx gc 5 rfl (jj (j9 (gy (jc rfl (vh rfl (fun hc=> ?_) (fun hc=> ?_))))))
  ·have hno:(qx x)[i]∉ur (hs.map qw.o):=by simpa using hc
   have hp:zw5 (hs.map qw.o) x=(false,4,hs.map qw.o):=by rw[zw5,if_neg hni,if_neg fun k=>hno (k _ (List.getElem_mem hi8))]
   refine jc rfl (gr (ji (gq (gq (ji (gq (qk [_,_] ⟨rfl,rfl,trivial⟩ ?_)))))))
   exact⟨⟨rp,rc,hs,some r,vp,vc,vs⟩,by rw[hp];rfl,hbk.ga hX,hi.ga hX,by rw[hp];rfl,rfl,hX.no⟩
  have hyes:(qx x)[i]∈ur (hs.map qw.o):=by simpa using hc
  refine j6 (B4 rfl ?_)
  rw[IntWalk.i64_in _ zo]
  refine gn ?_
  exact jm (i+1) rfl ⟨⟨hi8,fun y hy=>by rw[List.take_succ_eq_append_getElem hi8] at hy;rcases List.mem_append.1 hy with hy|hy;exact hall y hy;rw[List.mem_singleton.1 hy];exact hyes,hT,hW⟩,hb3,hb6,hX⟩ zf
 have h0:i=(qx x).length:=by omega
 subst h0
 rw[List.take_length] at hall
 have hp:zw5 (hs.map qw.o) x=(false,0,hs.map qw.o++[x]):=by rw[zw5,if_neg hni,if_pos hall]
 refine Bg (gl ?_)
 refine jt rfl 11 [(0,true),(1,true),(2,true),(3,true),(4,true),(5,true),(6,true),(7,true),(8,true),(9,true),(10,false)] [] (One r) zk fun w11 hE11 hs11=> ?_
 have hd3:=hb3
 have hd6:=hb6
 have hWd:=hW
 have hTd:=hT
 have hXd:=hX
 have hb3:=hb3.ga hE11
 have hb6:=hb6.ga hE11
 have hW:=hW.gb hE11
 have hT:=hT.gb hE11
 have hX:=hX.gb hE11
 have hC:Ext (One r) _ w11:=hE11.no
 refine gx gc 3 rfl (j5 gc rfl rfl (fun w' hw'=>(((hbk.ga hXd).ext (show Ext (One r) _ w' from hw') hbr).cell rfl)) ?_)
 refine qi gc rfl rfl (fun w' hw'=>((hd6.ext (show Ext (One r) _ w' from hw') fun e=>(hM.ga hXd).ne hd6 e.symm).ki)) (by rw[gm,vf]) ?_
 refine gx gc 3 rfl (j5 gc rfl rfl (fun w' hw'=>(((hbk.ga hXd).ext (show Ext (One r) _ w' from hw') hbr).cell rfl)) ?_)
 refine gx gc 1 rfl ?_
 have hX0:=hX
 have hMx:=hM.ga hX
 refine jg rfl (st_mu gc rfl idK (vf _) rfl hMx (b:=hs.length) rfl fun w12 hM2 hE12 hs12=>⟨hC.then hE12,?_⟩)
 have hC:=hC.then hE12
 have hb3:=hb3.x5 hMx hE12
 have hb6:=hb6.x5 hMx hE12
 have hbk:=(hbk.ga hX0).x5 hMx hE12
 have hX:Ext (Brg W w) w w12:=(hX0.no (S:=Brg W w)).zj9 (hE12.mono (Brg.map hMx hrW))
 have hW:=hW.newer hE12 fun y e=>by have e:y=r:=e;rw[e];exact hrW
 have hM:MapB w12 r xz2 (placeOf (ur (hs.map qw.o++[x]))):=by
  rw[idsOf_snoc,←placeOf_step hni]
  have e:(ur (hs.map qw.o)).length=hs.length:=by rw[ur,List.length_map,List.length_map]
  rw[e];exact hM2
 have hval:=(hi.vals.ga hX0).x5 hMx hE12
 have hoo:=fun y hy=>((hi.o y hy).ext hX0 fun _ _=>id).x5 hMx hE12
 have hvv:=fun y hy=>((hi.v y hy).ext hX0 fun _ _=>id).x5 hMx hE12
 have hrow:Da W w12 rp hs.length rc 126 105 (hs.flatMap Az):=(hi.row.ga hX0).x5 hMx hE12 hrW
 refine jj (j9 (gy (gl ?_)))
 refine jt rfl 13 [(0,true),(1,true),(2,true),(3,true),(4,true),(5,true),(6,true),(7,false),(8,true),(9,false),(10,false),(11,true),(12,true)] [13] (Ay W w12 126 126) zk fun w13 hE13 hs13=> ?_
 have hd3:=hb3
 have hd6:=hb6
 have hWd:=hW
 have hTd:=hT
 have hbkd:=hbk
 have hMd:=hM
 have hvald:=hval
 have hood:=hoo
 have hvvd:=hvv
 have hrowd:=hrow
 have hXd:=hX
 have hb3:=hb3.ga hE13
 have hb6:=hb6.ga hE13
 have hW:=hW.gb hE13
 have hbk:=hbk.ga hE13
 have hM:=hM.ga hE13
 have hval:=hval.ga hE13
 have hoo:=fun y hy=>(hoo y hy).ext hE13 fun _ _=>id
 have hvv:=fun y hy=>(hvv y hy).ext hE13 fun _ _=>id
 have hrow:=hrow.ga hE13
 have hX:=hX.gb hE13
 have hC:Ext (Ay W w12 126 126) _ w13:=hE13.no
 refine gx gc 4 rfl (j5 gc rfl rfl (fun w' hw'=>(hbkd.xc (show Ext (Ay W _ 126 126) _ w' from hw') zd zd).cell rfl) ?_)
 refine qi gc rfl rfl (fun w' hw'=>(hd6.xc (show Ext (Ay W _ 126 126) _ w' from hw') zd zd).ki) (by rw[gm,vf]) ?_
 refine qi gc rfl rfl (fun w' hw'=>(hd3.xc (show Ext (Ay W _ 126 126) _ w' from hw') zd zd).ki) (gt hoi) ?_
 have hXn:=hX
 refine jg rfl (j2 call52 rfl (sown_calls w13 hoi (hol.ga hW) hos) fun v14 w14 hr14=>⟨(by obtain⟨a2,rfl,hN,hE14⟩:=hr14;exact hC.gb hE14),?_⟩)
 obtain⟨a2,rfl,hN,hE14⟩:=hr14
 have hb3:=hb3.ga hE14
 have hb6:=hb6.ga hE14
 have hW:=hW.gb hE14
 have hbk:=hbk.ga hE14
 have hM:=hM.ga hE14
 have hval:=hval.ga hE14
 have hoo:=fun y hy=>(hoo y hy).ext hE14 fun _ _=>id
 have hvv:=fun y hy=>(hvv y hy).ext hE14 fun _ _=>id
 have hrow:=hrow.ga hE14
 have hX:=hX.gb hE14
 have hC:=hC.gb hE14
 have hN:=hN.older (W0:=w) hXn.size
 have hN:=hN.older hW0
 refine xj6 gc rfl rfl ⟨⟨by rw[jf,gm,vf],by decide⟩,⟨by rw[jf];exact gt hoi,by decide⟩,trivial⟩ (l':=Az ⟨Ac x,x,a2⟩) (by rw[heldZ_c];exact held_build (vf _) hoi) ?_
 refine jg rfl (qc gc rfl 105 rfl heldZ_c (by rw[List.length_append,gm,gt qd];rfl) zd zd ⟨⟨by rw[jf];exact yv6 (h:=⟨Ac x,x,a2⟩) (vf _) hoi,by decide⟩,trivial⟩ (l':=Az ⟨Ac x,x,a2⟩) (one_held (h:=⟨Ac x,x,a2⟩) (yv6 (vf _) hoi)) fun b66 w15 hn66 hb66 hE15 hs15=>⟨hC.gb hE15,?_⟩)
 have ne3_66:b3≠b66:=Nat.ne_of_lt (Nat.lt_of_lt_of_le hb3.lt hn66)
 have ne6_66:b6≠b66:=Nat.ne_of_lt (Nat.lt_of_lt_of_le hb6.lt hn66)
 have fr66:=Nat.le_trans hX.size hn66
 have hb3:=hb3.ga hE15
 have hb6:=hb6.ga hE15
 have hW:=hW.gb hE15
 have hbk:=hbk.ga hE15
 have hM:=hM.ga hE15
 have hval:=hval.ga hE15
 have hoo:=fun y hy=>(hoo y hy).ext hE15 fun _ _=>id
 have hvv:=fun y hy=>(hvv y hy).ext hE15 fun _ _=>id
 have hrow:=hrow.ga hE15
 have hN:=hN.ga hE15
 have hX:=hX.gb hE15
 have hC:=hC.gb hE15
 refine jg rfl (st_appT gc rfl 105 224 rfl rfl rfl zd hrow (Src.slice (m:=1) ⟨yv6 (h:=⟨Ac x,x,a2⟩) (vf _) hoi,.inr ⟨b66,0,rfl,hb66.ki⟩⟩ OneC.h) zm zd zn (n':=(hs++[(⟨Ac x,x,a2⟩:qw)]).length) (ys:=(hs++[(⟨Ac x,x,a2⟩:qw)]).flatMap Az) zi (by rw[List.flatMap_append,List.flatMap_singleton]) hW.size fun q3 k3 w16 hq3 hE16=>⟨hC.kl hE16,?_⟩)
 dsimp only at hq3 hE16
 have hC:=hC.kl hE16
 have hX:=hX.zj9 (hE16.mono (Brg.xc zd))
 have hbk:=hbk.xc hE16 zd zd
 have hM:=hM.xc hE16
 have hval:=hval.xc hE16 zd zd
 have hoo:=fun y hy=>(hoo y hy).xc hE16 zd zd zd
 have hvv:=fun y hy=>(hvv y hy).xc hE16 zd
 have hN:u4 W w16 x a2:=⟨hN.ol.xc hE16 zd zd,hN.op.xc hE16 zd zd,hN.or.xc hE16 zd zd,hN.nl,hN.np,hN.nr⟩
 refine gx gc 2 rfl (jj (wb rfl (xr gc hbk rfl rfl rfl fun w17 hbk2 hE17 hs17=> ?_)))
 have hX:=hX.zj9 (hE17.mono (Brg.one hbk hbn zd))
 have hi2:zx8 W w17 G ⟨q3,k3,hs++[⟨Ac x,x,a2⟩],some r,vp,vc,vs⟩:=⟨.inr (hq3.gk hE17 hbk zd),ownN_in hq3 hi.new,⟨r,rfl,hrW,by
    have e:(hs++[(⟨Ac x,x,a2⟩:qw)]).map qw.id=ur (hs.map qw.o++[x]):=by rw[List.map_append,hids,idsOf_snoc];rfl
    rw[e];exact hM.gk hE17 hbk⟩,hval.gk hE17 hbk zd,fun y hy=>by
    rcases List.mem_append.1 hy with hy|hy
    ·exact(hoo y hy).gk hE17 hbk zd zd zd
    rw[List.mem_singleton.1 hy]
    exact(⟨rfl,⟨hoi,hos⟩,hN.ol,hN.op,hN.or,fun y hy=>hi.new y (hy.elim (hN.nl y) fun e=>e.elim (hN.np y) (hN.nr y))⟩:z8 _ G ⟨Ac x,x,a2⟩).gk hE17 hbk zd zd zd,fun y hy=>(hvv y hy).gk hE17 hbk zd,by rw[List.length_append];exact hfew,hi.fev,hi.new⟩
 refine j9 (gy (jc rfl (gr (qk [_,_] ⟨rfl,rfl,trivial⟩ ?_))))
 exact⟨⟨q3,k3,hs++[(⟨Ac x,x,a2⟩:qw)],some r,vp,vc,vs⟩,by rw[hp];rfl,hbk2,hi2,by rw[hp];show List.map qw.o (hs++_)=_;rw[List.map_append];rfl,rfl,hX⟩
end Go.Proofs.YtpdiphfjmepijaaGreatDoor
