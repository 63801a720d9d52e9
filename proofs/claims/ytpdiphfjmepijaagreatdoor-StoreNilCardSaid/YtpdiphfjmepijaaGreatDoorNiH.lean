/-
  Walks and laws towards: without a disk there is no store (StoreNil)
-/
import Derived.Test.YtpdiphfjmepijaaGreatDoorNiG
namespace Go.Proofs.YtpdiphfjmepijaaGreatDoor
open Tryz
open Go.Vc
def cutV (l:List A2) (i:Nat) (q:Bool):List A2:=if q then l.take i++l.drop (i+1) else l
theorem find_two {l:List A2} {n:Str} {i:Nat} {q:Bool} (hr:A3 l) (h:FindAt l n i q):(q=true∧∃hi:i<l.length,l[i].1=n∧zz3 l n=some l[i].2)∨(q=false∧zz3 l n=none):=by
 obtain⟨h1,h2,h3,h4⟩:=h
 rcases(find_split hr (List.take_append_drop i l).symm h2 h3).2 with⟨x,r,e,_,hv⟩|⟨hne,_,hv⟩
 ·have hi:i<l.length:=by
   rcases Nat.lt_or_ge i l.length with h'|h'
   ·exact h'
   rw[List.drop_eq_nil_of_le h'] at e;cases e
  have hd:=yj8 hi
  rw[e] at hd
  have hd:(n,x)=l[i]:=by simpa using hd
  exact .inl ⟨h4.2 ⟨(n,x),by rw[e];rfl,rfl⟩,hi,by rw[←hd],by rw[hv,←hd]⟩
 refine .inr ⟨?_,hv⟩
 cases hq:q
 ·rfl
 obtain⟨v,e,hn⟩:=h4.1 hq
 exact absurd hn (hne v e)
theorem fit_iff {l:List A2} {s:yk} {i:Nat} {q:Bool} (h:(q=true∧∃hi:i<l.length,l[i].1=s.name∧zz3 l s.name=some l[i].2)∨(q=false∧zz3 l s.name=none)):xv9 l s↔q=s.was∧(q=true→∀hi:i<l.length,l[i].2=s.old):=by
 unfold xv9
 rcases h with⟨a,hi,_,b⟩|⟨a,b⟩
 ·rw[b,a]
  cases hw:s.was
  ·simp
  simp only[if_true,Option.some.injEq,true_and,forall_const]
  exact⟨fun e _=>e,fun e=>e hi⟩
 rw[b,a]
 cases hw:s.was<;>simp
theorem putV_cut {l:List A2} {s:yk} {i:Nat} {q:Bool} (hr:A3 l) (h:FindAt l s.name i q):yz0 l s=(cutV l i q).take i++(if s.is then [(s.name,s.new)] else [])++(cutV l i q).drop i∧i≤(cutV l i q).length:=by
 obtain⟨g,m,n,j⟩:=h
 have o:=find_split hr (List.take_append_drop i l).symm m n
 have a:(l.take i).length=i:=by rw[List.length_take,Nat.min_eq_left g]
 rcases o with⟨k,⟨x,r,e,c,_⟩|⟨d,c,_⟩⟩
 ·have b:q=true:=j.2 ⟨(s.name,x),by rw[e];rfl,rfl⟩
  have p:l.drop (i+1)=r:=by rw[←List.drop_drop,e];rfl
  have f:cutV l i q=l.take i++r:=by rw[cutV,b,p];rfl
  rw[yz0,k,c,f,List.take_left' a,List.drop_left' a]
  exact⟨rfl,by rw[List.length_append,a];omega⟩
 have b:q=false:=by
  cases b:q
  ·rfl
  obtain⟨v,e,t⟩:=j.1 b
  exact absurd t (d v e)
 have f:cutV l i q=l:=by rw[cutV,b];rfl
 rw[yz0,k,c,f]
 exact⟨rfl,g⟩
def zj3 (l:List Aw) (i:Nat) (q:Bool):List Aw:=if q then l.take i++l.drop (i+1) else l
theorem cutX_map (l:List Aw) (i:Nat) (q:Bool):(zj3 l i q).map Prod.fst=cutV (l.map Prod.fst) i q:=by
 unfold zj3 cutV;split
 ·rw[List.map_append,List.map_take,List.map_drop]
 rfl
theorem cutX_mem {l:List Aw} {i:Nat} {q:Bool} {x:Aw} (h:x∈zj3 l i q):x∈l:=by
 unfold zj3 at h;split at h
 ·rcases List.mem_append.1 h with h|h
  ·exact List.mem_of_mem_take h
  exact List.mem_of_mem_drop h
 exact h
theorem cutX_len (l:List Aw) (i:Nat) (q:Bool):(zj3 l i q).length≤l.length:=by
 unfold zj3;split
 ·rw[List.length_append,List.length_take,List.length_drop];omega
 exact Nat.le_refl _
theorem Cf.less {W u:World} {G:Nat→Prop} {rp:Option Addr} {rc r:Nat} {hs:List qw} {vs vs':List Aw} (k:Cf W u G rp rc hs r vs) (h:∀x∈vs',x∈vs):Cf W u G rp rc hs r vs':=⟨k.row,k.map,k.o,fun x hx=>k.v x (h x hx)⟩
theorem one_val {x:Aw}:xh (Bw 1 (vv (([],[]),none,0))) [(0*(0+2),0+2,.agg (vv x).toArray)]=vv x:=rfl
theorem sets_calls (w:World) {W:World} {hb:Nat} {G:Nat→Prop} {h:u7} (hbk:gz w hb 121 h.c) (hi:zx8 W w G h) (hW:Ext No W w) (hfev:h.vs.length+1<1000000) {s:yk} {a:SetP} (ho:SetAt W (s,a)) (_hok:yw3 s) (hri:A3 h.s.vals) (hbn:W.heap.size≤hb):
  gp prog 142 [.pointer (some ⟨hb,0,none⟩),.agg (xt (s,a)).toArray] w fun v w'=>∃h':u7,v= .int .i64 (if xv9 h.s.vals s then 0 else 200)∧gz w' hb 121 h'.c∧zx8 W w' G h'∧h'.hs=h.hs∧h'.s.vals=(if xv9 h.s.vals s then yz0 h.s.vals s else h.s.vals)∧h'.vs.length≤h.vs.length+1∧Ext (Brg W w) w w':=by
 have hbk0:=hbk
 have hi0:=hi
 obtain⟨rp,rc,hs,m,vp,vc,vs⟩:=h
 obtain⟨r,hmr,hrW,hM⟩:=hi.map
 have hmr:m=some r:=hmr
 subst hmr
 have hbk:gz w hb 121 [.slice rp hs.length rc,.map (some r),.slice vp vs.length vc]:=hbk
 have hval:ku W w vp vs.length vc 129 2 (vs.flatMap vv):=hi.vals
 have hre:Cf W w G rp rc hs r vs:=⟨hi.row,hM,hi.o,hi.v⟩
 have hfev:vs.length+1<1000000:=hfev
 have hso:=ho.old
 have hsn:=ho.new
 have hsl:=ho.lo
 have hsw:=ho.lw
 dsimp only at hso hsn hsl hsw
 have hln:=ho.ln
 have hrr:u7.s ⟨rp,rc,hs,some r,vp,vc,vs⟩=⟨hs.map qw.o,vs.map Prod.fst⟩:=rfl
 rw[hrr] at hri⊢
 dsimp only at hri hln⊢
 have hW0:=hW.size
 have hN:=Ext.refl No w
 refine gh func142 rfl rfl rfl rfl ?_
 have hX:=Ext.refl (Brg W w) w
 refine kz (gw rfl fun b3 w1 hn3 hb3 hE1=> ?_)
 have fr3:=Nat.le_trans hX.size hn3
 have hbk:=hbk.ga hE1
 have hval:=hval.ga hE1
 have hre:=hre.ga hE1
 have hW:=hW.gb hE1
 have hN:=hN.gb hE1
 have hX:=hX.gb hE1
 have hb3:gz w1 b3 91 (xt (s,a)):=hb3
 refine ju rfl (gl (jt rfl 11 [(0,true),(1,true),(2,true),(3,true),(4,true),(5,false),(6,true),(7,true),(8,true),(9,true),(10,true)] [] (No) zk fun w2 hE2 hs2=> ?_))
 have hd3:=hb3
 have hbkd:=hbk
 have hvald:=hval
 have hred:=hre
 have hWd:=hW
 have hNd:=hN
 have hXd:=hX
 have hb3:=hb3.ga hE2
 have hbk:=hbk.ga hE2
 have hval:=hval.ga hE2
 have hre:=hre.ga hE2
 have hW:=hW.gb hE2
 have hN:=hN.gb hE2
 have hX:=hX.gb hE2
 have hC:Ext (No) _ w2:=hE2.no
 refine gx gc 2 rfl (qi gc rfl rfl (fun w' hw'=>(hbkd.ga hw').ki) rfl ?_)
 refine gx gc 1 rfl (j5 gc rfl rfl (fun w' hw'=>(hd3.ga hw').cell rfl) ?_)
 refine jg rfl (j2 call53 rfl (find_calls w2 rfl rfl hval.sl zo (n:=s.name)) fun v3 w3 hr3=>⟨(by obtain⟨i,q,rfl,hF,hE3⟩:=hr3;exact hC.gb hE3),?_⟩)
 obtain⟨i,q,rfl,hF,hE3⟩:=hr3
 have hb3:=hb3.ga hE3
 have hbk:=hbk.ga hE3
 have hval:=hval.ga hE3
 have hre:=hre.ga hE3
 have hW:=hW.gb hE3
 have hN:=hN.gb hE3
 have hX:=hX.gb hE3
 have hC:=hC.gb hE3
 have htwo:=find_two hri hF
 refine gx gc 5 rfl (jj (j9 (gy (gl ?_))))
 refine jv (α:=Bool) [0,3,5,6] rfl (fun z=>[(37,.bool z)]) (fun z u=>(z=decide (¬xv9 (vs.map Prod.fst) s)∧gz u hb 121 [.slice rp hs.length rc,.map (some r),.slice vp vs.length vc]∧ku W u vp vs.length vc 129 2 (vs.flatMap vv)∧Cf W u G rp rc hs r vs∧Ext No W u∧Ext No w u)∧gz u b3 91 (xt (s,a))∧Ext (Brg W w) w u) ?_ ?_
 ·refine jt rfl 22 [(0,true),(1,true),(2,true),(3,true),(4,true),(5,true),(6,true),(7,true),(8,true),(9,true),(10,true),(11,true),(12,true),(13,true),(14,true),(15,true),(16,true),(17,true),(18,true),(19,true),(20,true),(21,true)] [] (No) zk fun w4 hE4 hs4=> ?_
  have hd3:=hb3
  have hbkd:=hbk
  have hvald:=hval
  have hred:=hre
  have hWd:=hW
  have hNd:=hN
  have hXd:=hX
  have hb3:=hb3.ga hE4
  have hbk:=hbk.ga hE4
  have hval:=hval.ga hE4
  have hre:=hre.ga hE4
  have hW:=hW.gb hE4
  have hN:=hN.gb hE4
  have hX:=hX.gb hE4
  have hC:Ext (No) _ w4:=hE4.no
  refine gx gc 2 rfl (j5 gc rfl rfl (fun w' hw'=>(hd3.ga hw').cell rfl) ?_)
  refine gx gc 2 rfl (yj6 20 rfl (fun hg=> ?_) (fun hg=> ?_))
  ·have hqw:¬q=s.was:=by simpa using hg
   refine gx gc 17 rfl (jj (j9 ?_))
   exact j4 (true) rfl ⟨⟨by symm;rw[decide_eq_true_eq,fit_iff htwo];exact fun k=>hqw k.1,hbk,hval,hre,hW,hN⟩,hb3,hX⟩
  have hqw:q=s.was:=by simpa using hg
  refine gx gc 2 rfl (yj6 22 rfl (fun hg=> ?_) (fun hg=> ?_))
  ·have hi3:i<(vs.map Prod.fst).length:=by
    rcases htwo with⟨_,hi,_⟩|⟨e,_⟩
    ·exact hi
    rw[hg] at e;cases e
   have hi2:i<vs.length:=by rw[List.length_map] at hi3;exact hi3
   have hgi:(vs.map Prod.fst)[i]=vs[i].1:=List.getElem_map ..
   obtain⟨qb,qo,hp,hsq⟩:=hvald.sl.qv (fun x _=>Aj x) zo
   subst hp
   refine gx gc 3 rfl (j5 gc rfl rfl (fun w' hw'=>((hbkd.ga hw').cell rfl)) ?_)
   refine gx gc 1 rfl (qs gc rfl rfl 2 rfl i rfl hi2 (qo+i*2) rfl (gx gc 1 rfl (j5 gc rfl rfl (fun w' hw'=>(((hsq i hi2).ga hw') 1 _ rfl)) ?_)))
   refine wd_b2s gc rfl rfl rfl (fun w' hw'=>(hred.v _ (List.getElem_mem hi2)).s.ga hw') (hre.v _ (List.getElem_mem hi2)).s ?_
   refine gx gc 1 rfl (j5 gc rfl rfl (fun w' hw'=>(hd3.ga hw').cell rfl) ?_)
   refine wd_b2s gc rfl rfl rfl (fun w' hw'=>hso.ga (hWd.gb hw')) (hso.ga hW) ?_
   refine gx gc 3 rfl (jj (j9 ?_))
   exact j4 (_) rfl ⟨⟨by rw[decide_eq_decide,fit_iff htwo];exact⟨fun k k2=>k (by rw[←k2.2 hg hi3,hgi]),fun k e=>k ⟨hqw,fun _ _=>by rw[hgi];exact Am e⟩⟩,hbk,hval,hre,hW,hN⟩,hb3,hX⟩
  refine gx gc 15 rfl ?_
  refine jj (j9 ?_)
  exact j4 (false) rfl ⟨⟨by symm;rw[decide_eq_false_iff_not,Decidable.not_not,fit_iff htwo];exact⟨hqw,fun e=>by rw[hg] at e;cases e⟩,hbk,hval,hre,hW,hN⟩,hb3,hX⟩
 rintro z w5 ⟨⟨rfl,hbk,hval,hre,hW,hN⟩,hb3,hX⟩
 refine jp rfl (fun hc=> ?_) (fun hc=> ?_)
 ·refine gl ?_
  refine j1 (ju rfl (gr (gq (gv rfl rfl ?_))))
  rw[if_neg hc,if_neg hc]
  exact⟨⟨rp,rc,hs,some r,vp,vc,vs⟩,rfl,hbk0.ga hN,hi0.ga hN,rfl,rfl,Nat.le_succ _,hX⟩
 have hfit:xv9 (vs.map Prod.fst) s:=Decidable.not_not.1 hc
 rw[if_pos hfit,if_pos hfit]
 have hpc:=putV_cut hri hF
 rw[←cutX_map] at hpc
 have hcl:=cutX_len vs i q
 have hile:i≤(zj3 vs i q).length:=by have:=hpc.2;rw[List.length_map] at this;exact this
 refine j6 (gy ?_)
 refine jv (α:=Option Addr×Nat) [0,3,5] rfl (fun z=>[]) (fun z u=>(gz u hb 121 [.slice rp hs.length rc,.map (some r),.slice z.1 (zj3 vs i q).length z.2]∧ku W u z.1 (zj3 vs i q).length z.2 129 2 ((zj3 vs i q).flatMap vv)∧Cf W u G rp rc hs r (zj3 vs i q)∧Ext No W u)∧gz u b3 91 (xt (s,a))∧Ext (Brg W w) w u) ?_ ?_
 ·refine gl ?_
  refine j1 (ju rfl (vh rfl (fun hc=> ?_) (fun hc=> ?_)))
  ·have hi3:i<(vs.map Prod.fst).length:=by
    rcases htwo with⟨_,hi,_⟩|⟨e,_⟩
    ·exact hi
    rw[hc] at e;cases e
   have hi2:i<vs.length:=by rw[List.length_map] at hi3;exact hi3
   have hcx:zj3 vs i q=vs.take i++vs.drop (i+1):=by rw[zj3,hc];rfl
   refine yu rfl (j0 rfl (hbk.cell rfl) (j7 gc rfl ?_))
   rw[IntWalk.i64_in _ zo]
   rw[show(i:Int)+1=((i+1:Nat):Int) from rfl]
   refine gi call186 rfl (vdelete_calls w5 hW hval zo hi2) fun v6 w6 hr6=> ?_
   obtain⟨q5,k5,rfl,hv5,hE6⟩:=hr6
   have hT6:Ext (Ay W _ 129 129) _ _:=hE6.mono fun y _=>Ay.own hval y
   have hbk:=hbk.xc hT6 zd zd
   have hb3:=hb3.xc hT6 zd zd
   have hre:=hre.xc hT6 zd
   have hW:=hW.xc hT6
   have hX:=hX.zj9 (hT6.mono (Brg.xc zd))
   rw[←hcx] at hv5⊢
   refine j7 gc rfl (ky hbk rfl rfl rfl fun w7 hbk2 hE7 hs7=> ?_)
   have hb3:=hb3.gk hE7 (hb3.ne hbk zd)
   have hre:=(hre.gk hE7 hbk hbn zd).less (vs':=zj3 vs i q) fun _=>cutX_mem
   have hv5:=hv5.gk hE7 hbk zd
   have hW:=hW.gj hE7 hbn
   have hX:=hX.zj9 (hE7.mono (Brg.one hbk hbn zd))
   refine gn ?_
   exact j4 (q5,k5) rfl ⟨⟨hbk2,hv5,hre,hW⟩,hb3,hX⟩
  have hcx:zj3 vs i q=vs:=by rw[zj3,hc];rfl
  refine j6 ?_
  exact j4 (vp,vc) rfl ⟨⟨by rw[hcx];exact hbk,by rw[hcx];exact hval,by rw[hcx];exact hre,hW⟩,hb3,hX⟩
 rintro⟨vp2,vc2⟩ w8 ⟨⟨hbk,hval,hre,hW⟩,hb3,hX⟩
 try dsimp only
 dsimp only at hbk hval hre
 refine jv (α:=Option Addr×Nat×List Aw) [] rfl (fun z=>[]) (fun z u=>(gz u hb 121 [.slice rp hs.length rc,.map (some r),.slice z.1 z.2.2.length z.2.1]∧ku W u z.1 z.2.2.length z.2.1 129 2 (z.2.2.flatMap vv)∧Cf W u G rp rc hs r z.2.2∧z.2.2.map Prod.fst=yz0 (vs.map Prod.fst) s∧z.2.2.length≤vs.length+1)∧Ext (Brg W w) w u) ?_ ?_
 ·refine gl ?_
  refine yu rfl (j0 rfl (hb3.cell rfl) (ql (vh rfl (fun hc=> ?_) (fun hc=> ?_))))
  ·refine jt rfl 16 [(0,true),(1,true),(2,true),(3,true),(4,true),(5,true),(6,true),(7,true),(8,true),(9,true),(10,false),(11,true),(12,false),(13,false),(14,true),(15,true)] [16] (Ay W w8 129 129) zk fun w9 hE9 hs9=> ?_
   have hd3:=hb3
   have hbkd:=hbk
   have hvald:=hval
   have hred:=hre
   have hWd:=hW
   have hNd:=hN
   have hXd:=hX
   have hb3:=hb3.ga hE9
   have hbk:=hbk.ga hE9
   have hval:=hval.ga hE9
   have hre:=hre.ga hE9
   have hW:=hW.gb hE9
   have hX:=hX.gb hE9
   have hC:Ext (Ay W w8 129 129) _ w9:=hE9.no
   refine gx gc 4 rfl (j5 gc rfl rfl (fun w' hw'=>((hbkd.xc (show Ext (Ay W _ 129 129) _ w' from hw') zd zd).cell rfl)) ?_)
   refine gx gc 2 rfl (j5 gc rfl rfl (fun w' hw'=>((hd3.xc (show Ext (Ay W _ 129 129) _ w' from hw') zd zd).cell rfl)) ?_)
   refine gx gc 1 rfl (j5 gc rfl rfl (fun w' hw'=>((hd3.xc (show Ext (Ay W _ 129 129) _ w' from hw') zd zd).cell rfl)) ?_)
   have hWn:=hW
   refine jg rfl (j2 call35 rfl (xp w9 (hsn.ga hW) hsw) fun v10 w10 hr10=>⟨(by obtain⟨qn,kn,rfl,hqn,hqnn,hE10⟩:=hr10;exact hC.gb hE10),?_⟩)
   obtain⟨qn,kn,rfl,hqn,hqnn,hE10⟩:=hr10
   have hb3:=hb3.ga hE10
   have hbk:=hbk.ga hE10
   have hval:=hval.ga hE10
   have hre:=hre.ga hE10
   have hW:=hW.gb hE10
   have hX:=hX.gb hE10
   have hC:=hC.gb hE10
   have hqnW:∀y,jd qn y→W.heap.size≤y:=fun y hy=>Nat.le_trans hWn.size (hqnn y hy)
   refine xj6 gc rfl rfl ⟨⟨rfl,by decide⟩,⟨rfl,by decide⟩,trivial⟩ (l':=vv ((s.name,s.new),(qn,kn))) rfl ?_
   have hvl:=hval
   refine jg rfl (qc gc rfl 2 rfl valZc rfl zd zd ⟨⟨rfl,by decide⟩,trivial⟩ (l':=vv ((s.name,s.new),(qn,kn))) one_val fun b64 w11 hn64 hb64 hE11 hs11=>⟨hC.gb hE11,?_⟩)
   have ne3_64:b3≠b64:=Nat.ne_of_lt (Nat.lt_of_lt_of_le hb3.lt hn64)
   have fr64:=Nat.le_trans hX.size hn64
   have hb3:=hb3.ga hE11
   have hbk:=hbk.ga hE11
   have hval:=hval.ga hE11
   have hre:=hre.ga hE11
   have hW:=hW.gb hE11
   have hqn:=hqn.ext hE11 fun _ _=>id
   have hX:=hX.gb hE11
   have hC:=hC.gb hE11
   refine jg rfl (j2 call187 rfl (vinsert_calls w11 hW hval zo hile hb64 (fun y hy=>Nat.ne_of_lt (Nat.lt_of_lt_of_le (hvl.own.lt hy) hn64))) fun v12 w12 hr12=>⟨(by obtain⟨q7,k7,rfl,hv7,hE12⟩:=hr12;exact hC.kl (hE12.mono fun y _=>Ay.own hval y)),?_⟩)
   obtain⟨q7,k7,rfl,hv7,hE12⟩:=hr12
   have hC:=hC.kl (hE12.mono fun y _=>Ay.own hval y)
   have hT12:Ext (Ay W _ 129 129) _ _:=hE12.mono fun y _=>Ay.own hval y
   have hbk:=hbk.xc hT12 zd zd
   have hb3:=hb3.xc hT12 zd zd
   have hre:=hre.xc hT12 zd
   have hW:=hW.xc hT12
   have hX:=hX.zj9 (hT12.mono (Brg.xc zd))
   have hqn:=hqn.xc hT12 zd zd
   refine gx gc 2 rfl (jj (wb rfl (xr gc hbk rfl rfl rfl fun w13 hbk2 hE13 hs13=> ?_)))
   have hb3:=hb3.gk hE13 (hb3.ne hbk zd)
   have hre:=hre.gk hE13 hbk hbn zd
   have hv7:=hv7.gk hE13 hbk zd
   have hqn:=hqn.k8 hE13 hbk zd
   have hX:=hX.zj9 (hE13.mono (Brg.one hbk hbn zd))
   have hnv:zx2 w13 G ((s.name,s.new),(qn,kn)):=⟨hqn,fun y hy=>hi0.new y (hqnW y hy),hln,hsw⟩
   refine j9 ?_
   exact j4 (q7,k7,(zj3 vs i q).take i++((s.name,s.new),(qn,kn))::(zj3 vs i q).drop i) rfl ⟨⟨hbk2,hv7,⟨hre.row,hre.map,hre.o,fun x hx=>(by rcases List.mem_append.1 hx with hx|hx;exact hre.v x (List.mem_of_mem_take hx);rcases List.mem_cons.1 hx with rfl|hx;exact hnv;exact hre.v x (List.mem_of_mem_drop hx))⟩,by rw[hpc.1,if_pos hc,List.map_append,List.map_cons,List.map_take,List.map_drop,List.append_assoc];rfl,by dsimp only;rw[List.length_append,List.length_cons,List.length_take,List.length_drop];omega⟩,hX⟩
  refine j6 ?_
  exact j4 (vp2,vc2,zj3 vs i q) rfl ⟨⟨hbk,hval,hre,by dsimp only;rw[hpc.1,if_neg (by rw[hc];decide),List.append_nil,List.take_append_drop],by dsimp only;omega⟩,hX⟩
 rintro⟨vp3,vc3,vs3⟩ w14 ⟨⟨hbk,hval,hre,hpv,hl3⟩,hX⟩
 try dsimp only
 dsimp only at hbk hval hre hpv hl3
 refine jc rfl (gr (gv rfl rfl ?_))
 exact⟨⟨rp,rc,hs,some r,vp3,vc3,vs3⟩,rfl,hbk,⟨hre.row,hi0.rin,⟨r,rfl,hrW,hre.map⟩,hval,hre.o,hre.v,hi0.few,by show vs3.length<_;omega,hi0.new⟩,rfl,hpv,hl3,hX⟩
theorem x2.mono {H G:Nat→Prop} {u:World} {h:u7} (k:x2 u H h) (g:∀y,H y→G y):x2 u G h:=
 ⟨k.row,k.rc,k.map,k.vals,k.vc,fun x hx=>(k.o x hx).mono g,fun x hx=>(k.v x hx).mono g,k.fr.mono g,k.fv.mono g,fun r e=>g r (k.fm r e),k.few,k.fev⟩
abbrev hasZ:u7:=⟨none,0,[],none,none,0,[]⟩
theorem hasZ_at (u:World) (H:Nat→Prop):x2 u H hasZ:=⟨Sl.nil _ _ _,Nat.le_refl _,.inl ⟨rfl,fun _=>rfl⟩,Sl.nil _ _ _,Nat.le_refl _,fun _ h=>(by cases h),fun _ h=>(by cases h),fun _ _ e=>(by cases e),fun _ _ e=>(by cases e),fun _ e=>(by cases e),by decide,by decide⟩
theorem zx8.gk {W u u':World} {G:Nat→Prop} {h:u7} (k:zx8 W u G h) {b T:Nat} {L:List Value} (hE:Ext (One b) u u') (hb:gz u b T L) (hn:W.heap.size≤b) (hT:RestT T∧129≠T):zx8 W u' G h:=
 ⟨k.row.gk hE hb hn hT.1.2.2.2.2,k.rin,k.map.imp fun _r e=>⟨e.1,e.2.1,e.2.2.gk hE hb⟩,k.vals.gk hE hb hT.2,fun x hx=>(k.o x hx).gk hE hb hT.1.1 hT.1.2.1 hT.1.2.2.1,fun x hx=>(k.v x hx).gk hE hb hT.1.2.2.2.1,k.few,k.fev,k.new⟩
theorem zx8.yq3 {W u u':World} {G:Nat→Prop} {h:u7} (k:zx8 W u G h) {p:Option Addr} {n c T sz:Nat} {xs:List Value} (ho:ku W u p n c T sz xs) (hE:Ext (jd p) u u') (hT:RestT T∧129≠T):zx8 W u' G h:=by
 rcases ho.own with⟨d,_⟩|⟨b,l,d,e,_⟩
 ·exact k.ga (hE.mono fun x _ a=>by rw[d] at a;cases a)
 exact k.gk (hE.mono fun x _ a=>by rw[d] at a;exact(congrArg Addr.block (Option.some.inj a)).symm) e (ho.new b d) hT
theorem zx8.hasLt {W u:World} {G:Nat→Prop} {h:u7} (k:zx8 W u G h) (hW:W.heap.size≤u.heap.size):x2 u (fun y=>G y∧y<u.heap.size) h:=by
 obtain⟨r,p,i,q⟩:=k.map
 refine⟨k.row.sl,k.row.cap,.inr ⟨r,p,q⟩,k.vals.sl,k.vals.own.cap,fun x j=> ?_,fun x j=> ?_,fun b d e=>⟨k.rin b d e,?_⟩,fun b d e=>⟨ownN_in k.vals k.new b d e,?_⟩,fun t e=> ?_,k.few,k.fev⟩
 ·have a:=k.o x j
  exact⟨a.id,a.ok,a.ol,a.op,a.or,fun y g=>⟨a.f y g,g.elim a.ol.lt fun e=>e.elim a.op.lt a.or.lt⟩⟩
 ·have a:=k.v x j
  exact⟨a.o,fun y g=>⟨a.f y g,a.o.lt g⟩,a.ln,a.lo⟩
 ·rcases k.row with m|m
  ·exact Nat.lt_of_lt_of_le (m.2.2 b d e) hW
  rcases m.own with⟨c,_⟩|⟨s,l,c,n,_⟩
  ·rw[e] at c;cases c
  rw[e] at c;cases c;exact n.lt
 ·rcases k.vals.own with⟨c,_⟩|⟨s,l,c,n,_⟩
  ·rw[e] at c;cases c
  rw[e] at c;cases c;exact n.lt
 rw[p] at e;cases e
 exact⟨k.new _ i,q.lt⟩
theorem brO_put {row l:List jk} {i:Nat} {p:List jk×List jk} (hi:i<l.length) (h:y9 row (l.take i)=some p):y9 row (l.take (i+1))=if(zw5 p.1 l[i]).2.1=0 then some ((zw5 p.1 l[i]).2.2,if(zw5 p.1 l[i]).1=true then p.2 else p.2++[l[i]]) else none:=by
 have e:y9 row (l.take (i+1))=brO (y9 row (l.take i)) l[i]:=Bv hi
 rw[e,h]
 show(if _ then _ else _)=_
 unfold zw5
 split
 ·rfl
 split<;>rfl
theorem bring_stop {row l:List jk} {i:Nat} (hi:i<l.length) (h:y9 row (l.take (i+1))=none):y9 row l=none:=by
 have e:y9 row (l.take (i+1))=brO (y9 row (l.take i)) l[i]:=Bv hi
 exact foldl_stop brO_none hi (e.symm.trans h)
theorem putR_four (row:List jk) (o:jk) (h:(zw5 row o).2.1≠0):(zw5 row o).2.1=4:=by
 unfold zw5 at h⊢
 split
 ·rename_i h1;rw[if_pos h1] at h;exact absurd rfl h
 rename_i h1;rw[if_neg h1] at h
 split
 ·rename_i h2;rw[if_pos h2] at h;exact absurd rfl h
 rfl
theorem putR_len (row:List jk) (o:jk):(zw5 row o).2.2.length≤row.length+1:=by
 unfold zw5;split
 ·exact Nat.le_succ _
 split
 ·rw[List.length_append];exact Nat.le_refl _
 exact Nat.le_succ _
theorem seS_step {l:List A2} {ss:List yk} {i:Nat} {v:List A2} (hi:i<ss.length) (h:Ab l (ss.take i)=some v):Ab l (ss.take (i+1))=if xv9 v ss[i] then some (yz0 v ss[i]) else none:=by
 have e:Ab l (ss.take (i+1))=seS (Ab l (ss.take i)) ss[i]:=Bv hi
 rw[e,h];rfl
theorem bringS_stop {l:List A2} {ss:List yk} {i:Nat} (hi:i<ss.length) (h:Ab l (ss.take (i+1))=none):Ab l ss=none:=by
 have e:Ab l (ss.take (i+1))=seS (Ab l (ss.take i)) ss[i]:=Bv hi
 exact foldl_stop seS_none hi (e.symm.trans h)
theorem after_no1 {s:De} {b:Bx} (h:y9 s.row b.objs=none):(js s b).2.2=4:=by rw[js,h]
theorem after_no2 {s:De} {b:Bx} {p:List jk×List jk} (h:y9 s.row b.objs=some p) (k:Ab s.vals b.sets=none):(js s b).2.2=200:=by rw[js,h,k]
theorem after_three {s:De} {b:Bx} {p:List jk×List jk} {v:List A2} (h:y9 s.row b.objs=some p) (k:Ab s.vals b.sets=some v):js s b=if 128<v.length then(s,yz6,6) else(⟨p.1,v⟩,⟨p.2,b.sets⟩,0):=by rw[js,h,k]
structure BrgQ (w w':World) (H:Nat→Prop) (h:u7) (B:uk) (h':u7) (F:uk):Prop where
  eq:(js h.s B.d).2.2=0→h'.s=(js h.s B.d).1∧F.d=(js h.s B.d).2.1∧∃r,h'.m=some r
  has:x2 w' (Grow H w w') h'
  own:ku w w' F.op F.os.length F.oc 37 73 (F.os.flatMap Aq)
  bat:∀u',Dk u' B→ku w u' F.op F.os.length F.oc 37 73 (F.os.flatMap Aq)→Dk u' F
theorem BrgQ.no {w w':World} {H:Nat→Prop} {h:u7} {B:uk} {e:Int} (he:e≠0) (k:(js h.s B.d).2.2=e):BrgQ w w' H h B hasZ B5:=⟨fun e'=>absurd (k.symm.trans e') he,hasZ_at _ _,ku.nil _ _ _ _,fun _ _ h=>⟨h.sl,Sl.nil _ _ _,fun _ e=>(by cases e),fun _ e=>(by cases e),by decide,by decide⟩⟩
theorem yw (w:World) {H:Nat→Prop} {h:u7} (hx:x2 w H h) (hH:∀y,H y→y<w.heap.size) {B:uk} (hB:Dk w B) (hok:Ba B.d) (hri:A3 h.s.vals) (hfo:h.hs.length+B.os.length<1000000) (hfv:h.vs.length+B.ss.length<1000000) (hr:Rt w):
  gp prog 64 [.agg h.c.toArray,B.v] w fun v w'=>∃(h':u7) (F:uk),v= .tuple #[.agg h'.c.toArray,F.v,.int .i64 (js h.s B.d).2.2]∧BrgQ w w' H h B h' F∧Ext No w w':=by
 obtain⟨op,oc,os,sp,sc,ss⟩:=B
 dsimp only at hfo hfv
 refine gh func64 rfl rfl rfl rfl ?_
 have n:=Ext.refl No w
 refine kz (gw rfl fun b2 w1 dx Y cx=> ?_)
 have n:=n.gb cx
 have Y:gz w1 b2 121 (h.c):=Y
 refine gw rfl fun b3 w2 dy g c9=> ?_
 have Y:=Y.ga c9
 have n:=n.gb c9
 have g:gz w2 b3 25 ([.slice op os.length oc,.slice sp ss.length sc]):=g
 refine gw rfl fun Z w3 cy a bw=> ?_
 have am:=Nat.le_trans n.size cy
 have Y:=Y.ga bw
 have g:=g.ga bw
 have n:=n.gb bw
 have a:gz w3 Z 121 ([.slice none 0 0,.map none,.slice none 0 0]):=a
 refine gw rfl fun b5 w4 ca f ba=> ?_
 have C:Z≠b5:=Nat.ne_of_lt (Nat.lt_of_lt_of_le a.lt ca)
 have an:=Nat.le_trans n.size ca
 have Y:=Y.ga ba
 have g:=g.ga ba
 have a:=a.ga ba
 have n:=n.gb ba
 have f:gz w4 b5 25 ([.slice none 0 0,.slice none 0 0]):=f
 refine ju rfl (kz (jh Y rfl rfl ?_))
 obtain⟨W,cb⟩:∃W,W=w4:=⟨_,rfl⟩
 have ag:=n.size
 have a4:=hB.ga n
 have cc:Rt w4:=hr.ext n id
 have cd:=a.lt
 have ce:=f.lt
 refine gi call57 rfl (xq9 w4 (hx.ga n) (fun y hy=>Nat.lt_of_lt_of_le (hH y hy) n.size)) fun v5 w5 cz=> ?_
 obtain⟨h1,rfl,cf,d0,A,ao⟩:=cz
 have g:=g.ga ao
 have a:=a.ga ao
 have f:=f.ga ao
 have n:=n.gb ao
 rw[←cb] at A ag a4 cc cd ce
 have p:Ext No W w5:=by rw[cb];exact ao
 have a5:=p
 refine gw rfl fun b7 w6 ap j ah=> ?_
 have bx:b3≠b7:=Nat.ne_of_lt (Nat.lt_of_lt_of_le g.lt ap)
 have bz:Z≠b7:=Nat.ne_of_lt (Nat.lt_of_lt_of_le a.lt ap)
 have c0:b5≠b7:=Nat.ne_of_lt (Nat.lt_of_lt_of_le f.lt ap)
 have d1:=Nat.le_trans n.size ap
 have g:=g.ga ah
 have a:=a.ga ah
 have f:=f.ga ah
 have A:=A.ga ah
 have p:=p.gb ah
 have n:=n.gb ah
 have j:gz w6 b7 121 ([.slice none 0 0,.map none,.slice none 0 0]):=j
 have ac:=Nat.le_trans a5.size ap
 have cg:=j
 refine wl (j8 (l':=h1.c) gc j rfl rfl rfl rfl OneC.h fun w7 j ai dz=> ?_)
 have g:=g.gk ai bx
 have a:=a.gk ai bz
 have f:=f.gk ai c0
 have A:=A.gk ai cg ac zd
 have p:=p.gj ai ac
 have n:=n.gj ai d1
 refine ql (km rfl (jb g rfl rfl (qa rfl ⟨⟨rfl,by decide⟩,trivial⟩ (l':=[.slice none 0 0,.slice sp ss.length sc]) rfl ?_)))
 have a5:=p
 refine gw rfl fun b8 w8 aj l a6=> ?_
 have aq:b3≠b8:=Nat.ne_of_lt (Nat.lt_of_lt_of_le g.lt aj)
 have ar:Z≠b8:=Nat.ne_of_lt (Nat.lt_of_lt_of_le a.lt aj)
 have au:b5≠b8:=Nat.ne_of_lt (Nat.lt_of_lt_of_le f.lt aj)
 have av:b7≠b8:=Nat.ne_of_lt (Nat.lt_of_lt_of_le j.lt aj)
 have ch:=Nat.le_trans n.size aj
 have g:=g.ga a6
 have a:=a.ga a6
 have f:=f.ga a6
 have j:=j.ga a6
 have A:=A.ga a6
 have p:=p.gb a6
 have n:=n.gb a6
 have l:gz w8 b8 25 ([.slice none 0 0,.slice none 0 0]):=l
 have ad:=Nat.le_trans a5.size aj
 have ae:=l
 refine wl (j8 (l':=[.slice none 0 0,.slice sp ss.length sc]) gc l rfl rfl rfl rfl OneC.h fun w9 l a7 e0=> ?_)
 have g:=g.gk a7 aq
 have a:=a.gk a7 ar
 have f:=f.gk a7 au
 have j:=j.gk a7 av
 have A:=A.gk a7 ae ad zd
 have p:=p.gj a7 ad
 have n:=n.gj a7 ch
 refine ql (gl (km rfl (jb g rfl rfl (ju rfl (gu ?_)))))
 refine jn (α:=Nat×u7×Option Addr×Nat×List yq4) [3,4,5,7,8,22,23] rfl (fun z=>[(24,.int .i64 (z.1:Int))]) (fun z u=>(z.1≤os.length∧zx8 W u (fun y=>H y∨W.heap.size≤y) z.2.1∧Ext No W u∧ku W u z.2.2.1 z.2.2.2.2.length z.2.2.2.1 37 73 (z.2.2.2.2.flatMap Aq)∧y9 h.s.row ((os.map Prod.fst).take z.1)=some (z.2.1.s.row,z.2.2.2.2.map Prod.fst)∧z.2.1.vs=h.vs∧z.2.1.hs.length≤h.hs.length+z.1∧(∀x∈z.2.2.2.2,x∈os)∧z.2.2.2.2.length≤z.1)∧gz u b3 25 ([.slice op os.length oc,.slice sp ss.length sc])∧gz u Z 121 ([.slice none 0 0,.map none,.slice none 0 0])∧gz u b5 25 ([.slice none 0 0,.slice none 0 0])∧gz u b7 121 (z.2.1.c)∧gz u b8 25 ([.slice z.2.2.1 z.2.2.2.2.length z.2.2.2.1,.slice sp ss.length sc])∧Ext No w u) (fun z u=>os.length-z.1) (0,h1,none,0,[]) rfl ⟨⟨Nat.zero_le _,A,p,ku.nil _ _ _ _,by rw[u7.s,u7.s,cf];rfl,d0,by rw[cf];exact Nat.le_refl _,fun _ h=>(by cases h),Nat.le_refl _⟩,g,a,f,j,l,n⟩ ?_
 rintro⟨i,h2,q,k,fs⟩ e3 ⟨⟨c1,A,p,t,a0,a1,bb,a8,ak⟩,g,a,f,j,l,n⟩
 try dsimp only
 dsimp only at c1 A p t a0 a1 bb a8 ak j l
 refine jc rfl (gl (jp rfl (fun hc=> ?_) (fun hc=> ?_)))
 ·have D:i<os.length:=by omega
  have aw:i<(os.map Prod.fst).length:=by rw[List.length_map];exact D
  have c2:(os.map Prod.fst)[i]=os[i].1:=List.getElem_map ..
  have L:=brO_put aw a0
  rw[c2] at L
  dsimp only at L
  have a2:=a4.o _ (List.getElem_mem D)
  obtain⟨qb,qo,hp,c3⟩:=a4.os.qv (fun x hx=>gt (a4.o x hx).i) zn
  dsimp only at hp
  subst hp
  refine j6 (gy ?_)
  refine jv (α:=u7×Option Addr×Nat×List yq4) [3,4,5,7,8,22,23,24] rfl (fun z=>[]) (fun z u=>(zx8 W u (fun y=>H y∨W.heap.size≤y) z.1∧Ext No W u∧ku W u z.2.1 z.2.2.2.length z.2.2.1 37 73 (z.2.2.2.flatMap Aq)∧y9 h.s.row ((os.map Prod.fst).take (i+1))=some (z.1.s.row,z.2.2.2.map Prod.fst)∧z.1.vs=h.vs∧z.1.hs.length≤h.hs.length+(i+1)∧(∀x∈z.2.2.2,x∈os)∧z.2.2.2.length≤(i+1))∧gz u b3 25 ([.slice (some ⟨qb,qo,none⟩) os.length oc,.slice sp ss.length sc])∧gz u Z 121 ([.slice none 0 0,.map none,.slice none 0 0])∧gz u b5 25 ([.slice none 0 0,.slice none 0 0])∧gz u b7 121 (z.1.c)∧gz u b8 25 ([.slice z.2.1 z.2.2.2.length z.2.2.1,.slice sp ss.length sc])∧Ext No w u) ?_ ?_
  ·refine gu ?_
   refine kz (ka rfl 73 rfl i rfl D (qo+i*73) rfl (jo rfl ((c3 i D).ga p) (gt a2.i) ?_))
   have d2:=t
   have a5:=p
   refine gw rfl fun al e4 M R E=> ?_
   have bc:b3≠al:=Nat.ne_of_lt (Nat.lt_of_lt_of_le g.lt M)
   have bd:Z≠al:=Nat.ne_of_lt (Nat.lt_of_lt_of_le a.lt M)
   have bf:b5≠al:=Nat.ne_of_lt (Nat.lt_of_lt_of_le f.lt M)
   have bg:b7≠al:=Nat.ne_of_lt (Nat.lt_of_lt_of_le j.lt M)
   have bh:b8≠al:=Nat.ne_of_lt (Nat.lt_of_lt_of_le l.lt M)
   have ci:=Nat.le_trans n.size M
   have g:=g.ga E
   have a:=a.ga E
   have f:=f.ga E
   have j:=j.ga E
   have l:=l.ga E
   have A:=A.ga E
   have p:=p.gb E
   have t:=t.ga E
   have n:=n.gb E
   have ax:=Nat.le_trans a5.size M
   have cj:∀y,jd q y→y≠al:=fun y hy=>Nat.ne_of_lt (Nat.lt_of_lt_of_le (d2.own.lt hy) M)
   have c4:=R
   refine wl (j8 (l':=jq os[i].1 os[i].2) gc R rfl rfl (gt a2.i) (by rw[gt a2.i];rfl) OneC.h fun d3 R G dh=> ?_)
   have g:=g.gk G bc
   have a:=a.gk G bd
   have f:=f.gk G bf
   have j:=j.gk G bg
   have l:=l.gk G bh
   have A:=A.gk G c4 ax zd
   have p:=p.gj G ax
   have t:=ku.mk (t.own.ext G fun y hy e=>cj y hy e) t.new
   have n:=n.gj G ci
   refine ql (kz (jh R rfl (gt a2.i) ?_))
   refine gi call141 rfl (puts_calls d3 j A p zo (a4.o _ (List.getElem_mem D)) (hok.2.2.1 _ (List.mem_map_of_mem (List.getElem_mem D))) cc ac) fun e5 e6 ck=> ?_
   obtain⟨h3,rfl,j,d4,a9,bo,N⟩:=ck
   have g:=g.brg N zd
   have f:=f.brg N zd
   have l:=l.brg N zd
   have R:=R.brg N zd
   have a:=a.ext N fun e=>by have:=e.1;omega
   have t:=ku.mk (t.own.brg N zd) t.new
   have p:=p.newer N fun y e=>e.1
   have n:=n.newer N fun y e=>Nat.le_trans ag e.1
   have A:=d4
   have bp:h3.hs.length≤h.hs.length+(i+1):=by
    have e:=congrArg List.length a9
    have e2:=putR_len h2.s.row os[i].1
    rw[←e,u7.s,u7.s,List.length_map,List.length_map] at e2
    omega
   refine ju rfl (gl (jc rfl (jp rfl (fun hc=> ?_) (fun hc=> ?_))))
   ·rw[if_neg hc] at L
    have Q:=after_no1 (b:=⟨(os.map Prod.fst),(ss.map Prod.fst)⟩) (bring_stop aw L)
    have d5:=putR_four _ _ hc
    refine kz (qa rfl trivial (l':=[.slice none 0 0,.map none,.slice none 0 0]) rfl (qa rfl trivial (l':=[.slice none 0 0,.slice none 0 0]) rfl (j7 gc rfl ?_)))
    refine wl (j8 (l':=[.slice none 0 0,.map none,.slice none 0 0]) gc a rfl rfl rfl rfl OneC.h fun e7 a bq di=> ?_)
    have f:=f.gk bq C.symm
    have n:=n.gj bq am
    refine wl (j8 (l':=[.slice none 0 0,.slice none 0 0]) gc f rfl rfl rfl rfl OneC.h fun e8 f br dj=> ?_)
    have a:=a.gk br C
    have n:=n.gj br an
    refine ju rfl (gr (gq (ji (gq (gq (ji (gq (qk [_,_,_] ⟨⟨Z,0,rfl,qu gc rfl rfl a.ki rfl⟩,⟨b5,0,rfl,qu gc rfl rfl f.ki rfl⟩,rfl,trivial⟩ ?_))))))))
    exact⟨hasZ,B5,by rw[d5,←Q];rfl,BrgQ.no zd Q,n⟩
   rw[if_pos (Decidable.not_not.1 hc)] at L
   refine j6 (gy (jc rfl (vh rfl (fun hc=> ?_) (fun hc=> ?_))))
   ·have c5:(zw5 h2.s.row os[i].1).1=false:=by simpa using hc
    refine yu rfl (jb l rfl rfl (jh R rfl (gt a2.i) ?_))
    refine wl (qc gc rfl 73 rfl objZc (gt qd) zd zd ⟨⟨by rw[jf];exact gt a2.i,by decide⟩,trivial⟩ (l':=Aq os[i]) (xw0 a2.i) fun d6 e9 dk cl I dl=> ?_)
    have g:=g.ga I
    have a:=a.ga I
    have f:=f.ga I
    have j:=j.ga I
    have l:=l.ga I
    have A:=A.ga I
    have p:=p.gb I
    have t:=t.ga I
    have n:=n.gb I
    have cm:=t
    have ay:=t.own
    refine wl (xd gc rfl 73 192 rfl rfl rfl zd t (Src.slice (m:=1) ⟨gt a2.i,.inr ⟨d6,0,rfl,cl.ki⟩⟩ OneC.h) zm zn (n':=(fs++[os[i]]).length) (ys:=(fs++[os[i]]).flatMap Aq) zi (by rw[List.flatMap_append,List.flatMap_singleton];rfl) p fun q4 k4 ea t O d7=> ?_)
    dsimp only at t O
    have g:=g.ke ay O (show(37:Nat)≠25 from by decide)
    have a:=a.ke ay O (show(37:Nat)≠121 from by decide)
    have f:=f.ke ay O (show(37:Nat)≠25 from by decide)
    have j:=j.ke ay O (show(37:Nat)≠121 from by decide)
    have l:=l.ke ay O (show(37:Nat)≠25 from by decide)
    have n:=n.newer O fun y hy=>Nat.le_trans ag (cm.new y hy)
    have A:=A.yq3 cm O zd
    have p:=d7
    refine j7 gc rfl ?_
    have ae:=l
    refine ky l rfl rfl rfl fun eb l P dm=> ?_
    have g:=g.gk P aq
    have a:=a.gk P ar
    have f:=f.gk P au
    have j:=j.gk P av
    have A:=A.gk P ae ad zd
    have p:=p.gj P ad
    have t:=t.gk P ae zd
    have n:=n.gj P ch
    refine gn ?_
    exact jz (j4 (h3,q4,k4,fs++[os[i]]) rfl ⟨⟨A,p,t,by rw[L,c5,if_neg zd,a9,List.map_append];rfl,bo.trans a1,bp,fun x hx=>(List.mem_append.1 hx).elim (a8 x) fun e=>by rw[List.mem_singleton.1 e];exact List.getElem_mem D,by rw[List.length_append];exact Nat.succ_le_succ ak⟩,g,a,f,j,l,n⟩)
   have c5:(zw5 h2.s.row os[i].1).1=true:=by simpa using hc
   refine j6 ?_
   exact jz (j4 (h3,q,k,fs) rfl ⟨⟨A,p,t,by rw[L,c5,if_pos rfl,a9],bo.trans a1,bp,a8,Nat.le_succ_of_le ak⟩,g,a,f,j,l,n⟩)
  rintro⟨h3,q3,k3,d8⟩ ec ⟨⟨A,p,t,a0,a1,bb,a8,ak⟩,g,a,f,j,l,n⟩
  try dsimp only
  dsimp only at A p t a0 a1 bb a8 ak j l
  refine yu rfl ?_
  rw[IntWalk.i64_in _ zo]
  refine gn ?_
  exact jm (i+1,h3,q3,k3,d8) rfl ⟨⟨D,A,p,t,a0,a1,bb,a8,ak⟩,g,a,f,j,l,n⟩ zf
 have h0:i=os.length:=by omega
 subst h0
 rw[show os.length=(os.map Prod.fst).length from(List.length_map ..).symm,List.take_length] at a0
 refine Bg (gl (km rfl (jb g rfl rfl (ju rfl (gu ?_)))))
 refine jn (α:=Nat×u7) [4,5,7,8,48,49] rfl (fun z=>[(50,.int .i64 (z.1:Int))]) (fun z u=>(z.1≤ss.length∧zx8 W u (fun y=>H y∨W.heap.size≤y) z.2∧Ext No W u∧ku W u q fs.length k 37 73 (fs.flatMap Aq)∧Ab h.s.vals ((ss.map Prod.fst).take z.1)=some z.2.s.vals∧z.2.hs=h2.hs∧z.2.vs.length≤h.vs.length+z.1)∧gz u b3 25 ([.slice op os.length oc,.slice sp ss.length sc])∧gz u Z 121 ([.slice none 0 0,.map none,.slice none 0 0])∧gz u b5 25 ([.slice none 0 0,.slice none 0 0])∧gz u b7 121 (z.2.c)∧gz u b8 25 ([.slice q fs.length k,.slice sp ss.length sc])∧Ext No w u) (fun z u=>ss.length-z.1) (0,h2) rfl ⟨⟨Nat.zero_le _,A,p,t,by rw[u7.s,u7.s,a1];rfl,rfl,by rw[a1];exact Nat.le_refl _⟩,g,a,f,j,l,n⟩ ?_
 rintro⟨i,h3⟩ cn ⟨⟨c1,A,p,t,az,c6,d9⟩,g,a,f,j,l,n⟩
 try dsimp only
 dsimp only at c1 A p t az c6 d9 j
 refine jc rfl (gl (jp rfl (fun hc=> ?_) (fun hc=> ?_)))
 ·have D:i<ss.length:=by omega
  have aw:i<(ss.map Prod.fst).length:=by rw[List.length_map];exact D
  have c2:(ss.map Prod.fst)[i]=ss[i].1:=List.getElem_map ..
  have L:=seS_step aw az
  rw[c2] at L
  have co:A3 h3.s.vals:=(yx2 _ az hri).1
  obtain⟨qb,qo,hp,c3⟩:=a4.ss.qv (fun x hx=>yz7 x) zn
  dsimp only at hp
  subst hp
  refine xy (gu (kz (ka rfl 5 rfl i rfl D (qo+i*5) rfl (jo rfl ((c3 i D).ga p) rfl ?_))))
  have a5:=p
  refine gw rfl fun b0 ed S af J=> ?_
  have bi:b3≠b0:=Nat.ne_of_lt (Nat.lt_of_lt_of_le g.lt S)
  have bj:Z≠b0:=Nat.ne_of_lt (Nat.lt_of_lt_of_le a.lt S)
  have bk:b5≠b0:=Nat.ne_of_lt (Nat.lt_of_lt_of_le f.lt S)
  have bm:b7≠b0:=Nat.ne_of_lt (Nat.lt_of_lt_of_le j.lt S)
  have bn:b8≠b0:=Nat.ne_of_lt (Nat.lt_of_lt_of_le l.lt S)
  have cp:=Nat.le_trans n.size S
  have g:=g.ga J
  have a:=a.ga J
  have f:=f.ga J
  have j:=j.ga J
  have l:=l.ga J
  have A:=A.ga J
  have p:=p.gb J
  have t:=t.ga J
  have n:=n.gb J
  have b1:=Nat.le_trans a5.size S
  have b6:=af
  refine wl (j8 (l':=xt ss[i]) gc af rfl rfl rfl rfl OneC.h fun da af K dn=> ?_)
  have g:=g.gk K bi
  have a:=a.gk K bj
  have f:=f.gk K bk
  have j:=j.gk K bm
  have l:=l.gk K bn
  have A:=A.gk K b6 b1 zd
  have p:=p.gj K b1
  have t:=t.gk K b6 zd
  have n:=n.gj K cp
  refine ql (kz (jh af rfl rfl ?_))
  refine gi call142 rfl (sets_calls da j A p zo (a4.s _ (List.getElem_mem D)) (hok.2.2.2.1 _ (List.mem_map_of_mem (List.getElem_mem D))) co ac) fun ee ef cq=> ?_
  obtain⟨h4,rfl,j,db,cr,b9,dp,T⟩:=cq
  have g:=g.brg T zd
  have f:=f.brg T zd
  have l:=l.brg T zd
  have a:=a.ext T fun e=>by have:=e.1;omega
  have t:=ku.mk (t.own.brg T zd) t.new
  have p:=p.newer T fun y e=>e.1
  have n:=n.newer T fun y e=>Nat.le_trans ag e.1
  have A:=db
  refine ju rfl (jc rfl (jp rfl (fun hc=> ?_) (fun hc=> ?_)))
  ·have cs:¬xv9 h3.s.vals ss[i].1:=fun k=>hc (if_pos k)
   rw[if_neg cs] at L
   have Q:=after_no2 (b:=⟨(os.map Prod.fst),(ss.map Prod.fst)⟩) a0 (bringS_stop aw L)
   refine kz (qa rfl trivial (l':=[.slice none 0 0,.map none,.slice none 0 0]) rfl (qa rfl trivial (l':=[.slice none 0 0,.slice none 0 0]) rfl (j7 gc rfl ?_)))
   refine wl (j8 (l':=[.slice none 0 0,.map none,.slice none 0 0]) gc a rfl rfl rfl rfl OneC.h fun eg a bs dq=> ?_)
   have f:=f.gk bs C.symm
   have n:=n.gj bs am
   refine wl (j8 (l':=[.slice none 0 0,.slice none 0 0]) gc f rfl rfl rfl rfl OneC.h fun eh f bt dr=> ?_)
   have a:=a.gk bt C
   have n:=n.gj bt an
   refine ju rfl (gr (ji (gq (gq (ji (gq (qk [_,_,_] ⟨⟨Z,0,rfl,qu gc rfl rfl a.ki rfl⟩,⟨b5,0,rfl,qu gc rfl rfl f.ki rfl⟩,rfl,trivial⟩ ?_)))))))
   have dc:(if xv9 h3.s.vals (ss.get ⟨i,D⟩).1 then(0:Int) else 200)=200:=if_neg cs
   exact⟨hasZ,B5,by rw[dc,←Q];rfl,BrgQ.no zd Q,n⟩
  have ct:xv9 h3.s.vals ss[i].1:=Classical.byContradiction fun k=>hc (fun e=>by have e2:(if xv9 h3.s.vals (ss.get ⟨i,D⟩).1 then(0:Int) else 200)=200:=if_neg k;rw[e2] at e;cases e)
  rw[if_pos ct] at L
  have b9:h4.s.vals=yz0 h3.s.vals ss[i].1:=b9.trans (if_pos ct)
  refine j6 (B4 rfl ?_)
  rw[IntWalk.i64_in _ zo]
  refine gn ?_
  exact jm (i+1,h4) rfl ⟨⟨D,A,p,t,by rw[L,b9],cr.trans c6,(by show h4.vs.length≤h.vs.length+(i+1);omega)⟩,g,a,f,j,l,n⟩ zf
 have h0:i=ss.length:=by omega
 subst h0
 rw[show ss.length=(ss.map Prod.fst).length from(List.length_map ..).symm,List.take_length] at az
 have Q:=after_three (b:=⟨(os.map Prod.fst),(ss.map Prod.fst)⟩) a0 az
 refine Bg (gl (km rfl (jb j rfl rfl (ju rfl (jp rfl (fun hc=> ?_) (fun hc=> ?_))))))
 ·have c7:128<(h3.s.vals).length:=by rw[u7.s,List.length_map];omega
  rw[if_pos c7] at Q
  refine kz (qa rfl trivial (l':=[.slice none 0 0,.map none,.slice none 0 0]) rfl (qa rfl trivial (l':=[.slice none 0 0,.slice none 0 0]) rfl ?_))
  refine wl (j8 (l':=[.slice none 0 0,.map none,.slice none 0 0]) gc a rfl rfl rfl rfl OneC.h fun ei a bu ds=> ?_)
  have f:=f.gk bu C.symm
  have n:=n.gj bu am
  refine wl (j8 (l':=[.slice none 0 0,.slice none 0 0]) gc f rfl rfl rfl rfl OneC.h fun ej f bv dt=> ?_)
  have a:=a.gk bv C
  have n:=n.gj bv an
  refine ju rfl (gr (gq (qk [_,_,_] ⟨⟨Z,0,rfl,qu gc rfl rfl a.ki rfl⟩,⟨b5,0,rfl,qu gc rfl rfl f.ki rfl⟩,rfl,trivial⟩ ?_)))
  have V:=congrArg (fun x=>x.2.2) Q
  dsimp only at V
  exact⟨hasZ,B5,by rw[←V];rfl,BrgQ.no zd V,n⟩
 have c7:¬128<(h3.s.vals).length:=by rw[u7.s,List.length_map];omega
 rw[if_neg c7] at Q
 have dd:∃r,h3.m=some r:=A.map.imp fun _ e=>e.1
 have aa:=A.hasLt p.size
 have ab:=Nat.le_refl cn.heap.size
 have nF:∀b,b<W.heap.size→w.heap.size≤b→∀y,((H y∨W.heap.size≤y)∧y<cn.heap.size)→¬One b y:=fun b h1 h2 y hy e=>by
  have e:y=b:=e
  rcases hy.1 with hy|hy
  ·have:=hH y hy;omega
  omega
 have n4:=nF Z cd am
 have n5:=nF b5 ce an
 refine xy (jt rfl 3 [(0,true),(1,true),(2,false)] [3,4] (fun x=>x=Z∨x=b5) zk fun de U du=> ?_)
 have df:=j
 have dg:=l
 have a:=a.ga U
 have f:=f.ga U
 have t:=t.ga U
 have aa:=aa.ga U
 have ab:=Nat.le_trans ab U.size
 have n:=n.gb U
 have hC:Ext (fun x=>x=Z∨x=b5) _ de:=U.no
 refine qi gc rfl rfl (fun w' c8=>(df.ext (show Ext (fun x=>x=Z∨x=b5) _ w' from c8) fun e=>by have e:_=_∨_=_:=e;omega).ki) rfl ?_
 refine qi gc rfl rfl (fun w' c8=>(dg.ext (show Ext (fun x=>x=Z∨x=b5) _ w' from c8) fun e=>by have e:_=_∨_=_:=e;omega).ki) rfl ?_
 have cu:=a
 refine jg rfl (j8 (l':=h3.c) gc a rfl rfl rfl rfl OneC.h fun ek a X dv=>⟨hC.then (X.mono fun _ _ e=>by have e:_=_:=e;show _=_∨_=_;omega),?_⟩)
 have f:=f.gk X C.symm
 have t:=t.gk X cu zd
 have aa:=aa.ext X n4
 have ab:=Nat.le_trans ab X.size
 have n:=n.gj X am
 refine jj ?_
 have cv:=f
 refine wb rfl (j8 (l':=[.slice q fs.length k,.slice sp ss.length sc]) gc f rfl rfl rfl rfl OneC.h fun el f a3 dw=> ?_)
 have a:=a.gk a3 C
 have t:=t.gk a3 cv zd
 have aa:=aa.ext a3 n5
 have ab:=Nat.le_trans ab a3.size
 have n:=n.gj a3 an
 refine wb rfl (D5 gc rfl rfl rfl (j9 (gy (gr (qk [_,_,_] ⟨⟨Z,0,rfl,qu gc rfl rfl a.ki rfl⟩,⟨b5,0,rfl,qu gc rfl rfl f.ki rfl⟩,rfl,trivial⟩ ?_)))))
 have V:=congrArg (fun x=>x.2.2) Q
 dsimp only at V
 have cw:(js h.s ⟨(os.map Prod.fst),(ss.map Prod.fst)⟩).1=h3.s:=(congrArg (fun x=>x.1) Q).trans (by rw[u7.s,u7.s,c6])
 exact⟨h3,⟨q,k,fs,sp,sc,ss⟩,by rw[←V];rfl,⟨fun _=>⟨cw.symm,(congrArg (fun x=>x.2.1) Q).symm,dd⟩,aa.mono fun y e=>e.1.imp id fun e1=>⟨Nat.le_trans ag e1,Nat.lt_of_lt_of_le e.2 ab⟩,t.older ag,fun u' h ho=>⟨ho.sl,h.ss,fun x hx=>h.o x (a8 x hx),h.s,(by show fs.length<1000000;omega),h.ls⟩⟩,n⟩
theorem heldO {w:World} {b off:Nat} {h:qw} (hs:Seg w b off (Az h)) (hid:h.id.length=32):Seg w b (off+32) (jq h.o h.a):=by
 have h:=(Seg.append.1 hs).2
 rw[gm,hid] at h;exact h
abbrev oxH (x:qw):yq4:=(x.o,x.a)
abbrev sxV (x:Aw):C9:=(⟨x.1.1,false,true,[],x.1.2⟩,⟨none,0,x.2.1,x.2.2⟩)
theorem yq8 {α β:Type} {f:α→β} {l:List α} {i:Nat} (hi:i<l.length):(l.take i).map f++[f l[i]]=(l.take (i+1)).map f:=by
 rw[List.take_succ_eq_append_getElem hi,List.map_append];rfl
theorem sall_calls (w:World) {H:Nat→Prop} {h:u7} (hx:x2 w H h):
  gp prog 61 [.agg h.c.toArray] w fun v w'=>∃B:uk,v=B.v∧B.d=Al h.s∧Dk w' B∧Ext No w w':=by
 have aa:=hx.few
 have ab:=hx.fev
 refine gh func61 rfl rfl rfl rfl ?_
 have e:=Ext.refl No w
 refine kz (gw rfl fun b1 w1 aq b ac=> ?_)
 have e:=e.gb ac
 have b:gz w1 b1 121 (h.c):=b
 refine gw rfl fun T w2 a4 a a5=> ?_
 have G:b1≠T:=Nat.ne_of_lt (Nat.lt_of_lt_of_le b.lt a4)
 have U:=Nat.le_trans e.size a4
 have b:=b.ga a5
 have e:=e.gb a5
 have a:gz w2 T 25 ([.slice none 0 0,.slice none 0 0]):=a
 refine ql (gl (km rfl (jb b rfl rfl (ju rfl (gu ?_)))))
 refine jn (α:=Nat×Option Addr×Nat×List yq4) [1,2,8,9] rfl (fun z=>[(10,.int .i64 (z.1:Int))]) (fun z u=>(z.1≤h.hs.length∧ku w u z.2.1 z.2.2.2.length z.2.2.1 37 73 (z.2.2.2.flatMap Aq)∧z.2.2.2=(h.hs.take z.1).map oxH)∧gz u b1 121 (h.c)∧gz u T 25 ([.slice z.2.1 z.2.2.2.length z.2.2.1,.slice none 0 0])∧Ext No w u) (fun z u=>h.hs.length-z.1) (0,none,0,[]) rfl ⟨⟨Nat.zero_le _,ku.nil _ _ _ _,rfl⟩,b,a,e⟩ ?_
 rintro⟨i,q,k,M⟩ w3 ⟨⟨V,g,C⟩,b,a,e⟩
 try dsimp only
 dsimp only at V g C a
 refine jc rfl (gl (jp rfl (fun hc=> ?_) (fun hc=> ?_)))
 ·have j:i<h.hs.length:=by omega
  have ad:M.length=i:=by rw[C,List.length_map,List.length_take];omega
  have p:=hx.o _ (List.getElem_mem j)
  have ae:h.hs[i].id.length=32:=by rw[p.id];exact vf _
  obtain⟨qb,qo,hp,W⟩:=hx.row.qv hx.held zo
  rw[hp]
  refine xy (gu (kz (ka rfl 105 rfl i rfl j (qo+i*105) rfl (jo rfl ((W i j).ga e) (p.len) ?_))))
  have af:=g
  refine gw rfl fun b4 w4 N O P=> ?_
  have X:b1≠b4:=Nat.ne_of_lt (Nat.lt_of_lt_of_le b.lt N)
  have Y:T≠b4:=Nat.ne_of_lt (Nat.lt_of_lt_of_le a.lt N)
  have ag:=Nat.le_trans e.size N
  have b:=b.ga P
  have a:=a.ga P
  have g:=g.ga P
  have e:=e.gb P
  have ar:∀y,jd q y→y≠b4:=fun y hy=>Nat.ne_of_lt (Nat.lt_of_lt_of_le (af.own.lt hy) N)
  have a6:=O
  refine wl (j8 (l':=Az h.hs[i]) gc O rfl rfl (p.len) (by rw[p.len];rfl) OneC.h fun w5 O Q au=> ?_)
  have b:=b.gk Q X
  have a:=a.gk Q Y
  have g:=g.gk Q a6 zd
  have e:=e.gj Q ag
  refine ql (yu rfl (jb a rfl rfl (j7 gc rfl (jo rfl (heldO O.ki ae) (gt p.ok.1) ?_))))
  refine wl (qc gc rfl 73 rfl objZc (gt qd) zd zd ⟨⟨by rw[jf];exact gt p.ok.1,by decide⟩,trivial⟩ (l':=Aq (oxH h.hs[i])) (xw0 p.ok.1) fun ah w6 ak a7 R av=> ?_)
  have b:=b.ga R
  have a:=a.ga R
  have g:=g.ga R
  have e:=e.gb R
  have a8:=g.own
  refine wl (xd gc rfl 73 192 rfl rfl rfl zd g (Src.slice (m:=1) ⟨gt p.ok.1,.inr ⟨ah,0,rfl,a7.ki⟩⟩ OneC.h) zm zn (n':=(M++[oxH h.hs[i]]).length) (ys:=(M++[oxH h.hs[i]]).flatMap Aq) zi (by rw[List.flatMap_append,List.flatMap_singleton];rfl) e fun q4 k4 w7 g Z e=> ?_)
  dsimp only at g Z
  have b:=b.ke a8 Z (show(37:Nat)≠121 from by decide)
  have a:=a.ke a8 Z (show(37:Nat)≠25 from by decide)
  refine j7 gc rfl ?_
  have n:=a
  refine ky a rfl rfl rfl fun w8 a a0 aw=> ?_
  have b:=b.gk a0 G
  have g:=g.gk a0 n zd
  have e:=e.gj a0 U
  refine gn (B4 rfl ?_)
  rw[IntWalk.i64_in _ zo]
  refine gn ?_
  exact jm (i+1,q4,k4,M++[oxH h.hs[i]]) rfl ⟨⟨j,g,by rw[C,yq8 j]⟩,b,a,e⟩ zf
 have h0:i=h.hs.length:=by omega
 subst h0
 rw[List.take_length] at C
 refine Bg (gl (km rfl (jb b rfl rfl (ju rfl (gu ?_)))))
 refine jn (α:=Nat×Option Addr×Nat×List C9) [2,23,24] rfl (fun z=>[(25,.int .i64 (z.1:Int))]) (fun z u=>(z.1≤h.vs.length∧ku w u q M.length k 37 73 (M.flatMap Aq)∧ku w u z.2.1 z.2.2.2.length z.2.2.1 91 5 (z.2.2.2.flatMap xt)∧z.2.2.2=(h.vs.take z.1).map sxV)∧gz u b1 121 (h.c)∧gz u T 25 ([.slice q M.length k,.slice z.2.1 z.2.2.2.length z.2.2.1])∧Ext No w u) (fun z u=>h.vs.length-z.1) (0,none,0,[]) rfl ⟨⟨Nat.zero_le _,g,ku.nil _ _ _ _,rfl⟩,b,a,e⟩ ?_
 rintro⟨i,q2,k2,ss⟩ w9 ⟨⟨V,g,f,D⟩,b,a,e⟩
 try dsimp only
 dsimp only at V g f D a
 refine jc rfl (gl (jp rfl (fun hc=> ?_) (fun hc=> ?_)))
 ·have j:i<h.vs.length:=by omega
  have ad:ss.length=i:=by rw[D,List.length_map,List.length_take];omega
  have ax:=hx.v _ (List.getElem_mem j)
  obtain⟨qb,qo,hp,W⟩:=hx.vals.qv (fun x _=>Aj x) zo
  rw[hp]
  refine xy (gu (kz (ka rfl 2 rfl i rfl j (qo+i*2) rfl (jo rfl ((W i j).ga e) rfl (gw rfl fun b6 ay a1 I r=> ?_)))))
  have a2:b1≠b6:=Nat.ne_of_lt (Nat.lt_of_lt_of_le b.lt a1)
  have a3:T≠b6:=Nat.ne_of_lt (Nat.lt_of_lt_of_le a.lt a1)
  have ai:=Nat.le_trans e.size a1
  have b:=b.ga r
  have a:=a.ga r
  have g:=g.ga r
  have f:=f.ga r
  have e:=e.gb r
  have S:=I
  refine wl (j8 (l':=vv h.vs[i]) gc I rfl rfl rfl rfl OneC.h fun az I t al=> ?_)
  have b:=b.gk t a2
  have a:=a.gk t a3
  have g:=g.gk t S zd
  have f:=f.gk t S zd
  have e:=e.gj t ai
  refine ql (yu rfl (jb a rfl rfl (j7 gc rfl (jb I rfl rfl (j7 gc rfl (jb I rfl rfl ?_))))))
  refine qa rfl ⟨⟨rfl,by decide⟩,⟨rfl,by decide⟩,⟨rfl,by decide⟩,trivial⟩ (l':=xt (sxV h.vs[i])) rfl ?_
  refine wl (qc gc rfl 5 rfl setZc rfl zd zd ⟨⟨rfl,by decide⟩,trivial⟩ (l':=xt (sxV h.vs[i])) (set_put _) fun aj b0 am a9 A an=> ?_)
  have b:=b.ga A
  have a:=a.ga A
  have g:=g.ga A
  have f:=f.ga A
  have e:=e.gb A
  have J:=f.own
  refine wl (xd gc rfl 5 72 rfl rfl rfl zd f (Src.slice (m:=1) ⟨rfl,.inr ⟨aj,0,rfl,a9.ki⟩⟩ OneC.h) zm zn (n':=(ss++[sxV h.vs[i]]).length) (ys:=(ss++[sxV h.vs[i]]).flatMap xt) zi (by rw[List.flatMap_append,List.flatMap_singleton]) e fun q4 k4 b3 f E e=> ?_)
  dsimp only at f E
  have b:=b.ke J E (show(91:Nat)≠121 from by decide)
  have a:=a.ke J E (show(91:Nat)≠25 from by decide)
  have g:=g.yq3 J E zd
  refine j7 gc rfl ?_
  have n:=a
  refine ky a rfl rfl rfl fun b5 a F ao=> ?_
  have b:=b.gk F G
  have g:=g.gk F n zd
  have f:=f.gk F n zd
  have e:=e.gj F U
  refine gn (B4 rfl ?_)
  rw[IntWalk.i64_in _ zo]
  refine gn ?_
  exact jm (i+1,q4,k4,ss++[sxV h.vs[i]]) rfl ⟨⟨j,g,f,by rw[D,yq8 j]⟩,b,a,e⟩ zf
 have h0:i=h.vs.length:=by omega
 subst h0
 rw[List.take_length] at D
 refine Bg (kz (jh a rfl rfl ?_))
 have n:=a
 refine wl (j8 (l':=[.slice q M.length k,.slice q2 ss.length k2]) gc a rfl rfl rfl rfl OneC.h fun b7 a K ap=> ?_)
 have g:=g.gk K n zd
 have f:=f.gk K n zd
 have e:=e.gj K U
 refine ql (gr (qk [_] ⟨⟨T,0,rfl,qu gc rfl rfl a.ki rfl⟩,trivial⟩ ?_))
 exact⟨⟨q,k,M,q2,k2,ss⟩,rfl,by rw[uk.d,Al,u7.s,C,D,List.map_map,List.map_map,List.map_map];rfl,⟨g.sl,f.sl,fun x L=>(by rw[C] at L;obtain⟨y,hy,rfl⟩:=List.mem_map.1 L;have ho:=hx.o y hy;exact⟨ho.ok.1,ho.ok.2,ho.l.ga e⟩),fun x L=>(by rw[D] at L;obtain⟨y,hy,rfl⟩:=List.mem_map.1 L;have ho:=hx.v y hy;exact⟨Sl.nil _ _ _,ho.s.ga e,ho.ln,(by show(0:Nat)<_;omega),ho.lo⟩),(by rw[C];show(List.map _ _).length<_;rw[List.length_map];exact aa),(by rw[D];show(List.map _ _).length<_;rw[List.length_map];exact ab)⟩,e⟩
theorem readB_two (l:Bytes):((vj l).2=0∧Ba (vj l).1∧up (vj l).1=l)∨((vj l).2≠0∧(vj l).1=yz6):=by
 unfold vj
 split
 ·exact .inr ⟨by decide,rfl⟩
 split
 ·rename_i h;exact .inl ⟨rfl,h.2⟩
 exact .inr ⟨by decide,rfl⟩
theorem readB_may {l:Bytes} (h:(vj l).2=0):Ba (vj l).1:=(readB_two l).elim (fun e=>e.2.1) fun e=>absurd h e.1
theorem Dg {H:Nat→Prop} {v u:World} {b:Nat} (hb:u.heap.size≤b) (hH:∀y,H y→y<v.heap.size) (hv:v.heap.size≤u.heap.size):∀y,Grow H v u y→¬One b y:=fun y hy e=>by
 have e:y=b:=e
 rcases hy with hy|hy
 ·have:=hH y hy;omega
 omega
theorem Cp {H:Nat→Prop} {w v u:World} {b:Nat} (hb:b<v.heap.size) (hw:w.heap.size≤b) (hH:∀y,H y→y<w.heap.size):∀y,Grow H v u y→¬One b y:=fun y hy e=>by
 have e:y=b:=e
 rcases hy with hy|hy
 ·have:=hH y hy;omega
 omega
theorem said_yes {s:De} {l:Bytes} {F B:uk} (h0:(vj l).2=0) (hB:B.d=(vj l).1) (h1:(js s (vj l).1).2.2=0) (hF:F.d=(js s (vj l).1).2.1):decide ((F.os.length:Int)=(B.os.length:Int))=(ux s l).isSome:=by
 have a:F.os.length=(js s (vj l).1).2.1.objs.length:=by rw[←hF,uk.d,List.length_map]
 have b:B.os.length=(vj l).1.objs.length:=by rw[←hB,uk.d,List.length_map]
 unfold ux
 rw[a,b]
 by_cases k:(js s (vj l).1).2.1.objs.length=(vj l).1.objs.length
 ·rw[if_pos ⟨h0,h1,k⟩,decide_eq_true (by rw[k])];rfl
 rw[if_neg fun e=>k e.2.2,decide_eq_false zo];rfl
theorem said_no {s:De} {l:Bytes} (h1:(js s (vj l).1).2.2≠0):false=(ux s l).isSome:=by
 rw[ux,if_neg fun e=>h1 e.2.1];rfl
theorem said_some {s t:De} {l:Bytes} (h:ux s l=some t):(vj l).2=0∧(js s (vj l).1).2.2=0∧t=(js s (vj l).1).1:=by
 unfold ux at h
 split at h
 ·rename_i k;cases h;exact⟨k.1,k.2.1,rfl⟩
 cases h
theorem said_calls (w:World) {H:Nat→Prop} {h:u7} (hx:x2 w H h) (hH:∀y,H y→y<w.heap.size) (hri:A3 h.s.vals) {p:Option Addr} {c:Nat} {l:Bytes} (hs:x3 w p l) (hl:l.length<1000000000) (hro:h.hs.length+5000<1000000) (hrv:h.vs.length+200<1000000) (hr:Rt w):
  gp prog 60 [.agg h.c.toArray,.slice p l.length c] w fun v w'=>∃h':u7,v= .tuple #[.agg h'.c.toArray,.bool (ux h.s l).isSome]∧(∀s,ux h.s l=some s→h'.s=s∧∃r,h'.m=some r)∧x2 w' (Grow H w w') h'∧Ext No w w':=by
 refine gh func60 rfl rfl rfl rfl ?_
 have g:=Ext.refl No w
 refine kz (gw rfl fun b2 w1 b1 b ai=> ?_)
 have g:=g.gb ai
 have b:gz w1 b2 121 (h.c):=b
 refine gw rfl fun I w2 aa a ab=> ?_
 have O:b2≠I:=Nat.ne_of_lt (Nat.lt_of_lt_of_le b.lt aa)
 have U:=Nat.le_trans g.size aa
 have b:=b.ga ab
 have g:=g.gb ab
 have a:gz w2 I 121 ([.slice none 0 0,.map none,.slice none 0 0]):=a
 refine ju rfl (km rfl (gi call36 rfl (sdecode_calls w2 (hs.ga g) hl) fun v3 w3 aj=> ?_))
 obtain⟨B,rfl,a0,P,a1⟩:=aj
 have b:=b.ga a1
 have a:=a.ga a1
 have g:=g.gb a1
 refine j7 gc rfl (gw rfl fun b6 w4 a2 f V=> ?_)
 have a3:b2≠b6:=Nat.ne_of_lt (Nat.lt_of_lt_of_le b.lt a2)
 have A:I≠b6:=Nat.ne_of_lt (Nat.lt_of_lt_of_le a.lt a2)
 have ak:=Nat.le_trans g.size a2
 have b:=b.ga V
 have a:=a.ga V
 have P:=P.ga V
 have g:=g.gb V
 have ac:=f
 refine wl (j8 (l':=B.c) gc f rfl rfl rfl rfl OneC.h fun w5 f W b3=> ?_)
 have b:=b.gk W a3
 have a:=a.gk W A
 have P:=P.extB W ac
 have g:=g.gj W ak
 refine ju rfl (gl (jc rfl (jp rfl (fun hc=> ?_) (fun hc=> ?_))))
 ·refine gl ?_
  refine j1 (qa rfl trivial (l':=[.slice none 0 0,.map none,.slice none 0 0]) rfl (wl (j8 (l':=[.slice none 0 0,.map none,.slice none 0 0]) gc a rfl rfl rfl rfl OneC.h fun w6 a al b5=> ?_)))
  have g:=g.gj al U
  refine ju rfl (gr (gq (qk [_,_] ⟨⟨I,0,rfl,qu gc rfl rfl a.ki rfl⟩,rfl,trivial⟩ ?_)))
  have ad:ux h.s l=none:=if_neg fun k=>hc k.1
  exact⟨hasZ,by rw[ad];rfl,fun s e=>(by rw[ad] at e;cases e),hasZ_at _ _,g⟩
 have ae:(vj l).2=0:=Decidable.not_not.1 hc
 have L:=readB_may ae
 rw[←a0] at L
 have a4:=L.1
 have a5:=L.2.1
 have a4:B.os.length≤4096:=by rw[uk.d,List.length_map] at a4;exact a4
 have a5:B.ss.length≤128:=by rw[uk.d,List.length_map] at a5;exact a5
 refine j6 (gy (kz (jh b rfl rfl (jh f rfl rfl ?_))))
 have am:=a.lt
 have af:=g.size
 have ag:∀y,H y→y<w5.heap.size:=fun y hy=>Nat.lt_of_lt_of_le (hH y hy) g.size
 refine gi call64 rfl (yw w5 (hx.ga g) (fun y hy=>Nat.lt_of_lt_of_le (hH y hy) g.size) P.at L hri zo zo (hr.ext g id)) fun v7 w7 an=> ?_
 obtain⟨h2,F,rfl,hQ,Q⟩:=an
 have b:=b.ga Q
 have a:=a.ga Q
 have f:=f.ga Q
 have g:=g.gb Q
 have J:=hQ.has
 have ah:=Q.size
 have n4:=Cp (u:=w7) am U hH
 have X:=hQ.eq
 rw[a0] at X⊢
 have i:=Nat.le_refl w7.heap.size
 refine j7 gc rfl (gw rfl fun b8 w8 R j M=> ?_)
 have a6:b2≠b8:=Nat.ne_of_lt (Nat.lt_of_lt_of_le b.lt R)
 have C:I≠b8:=Nat.ne_of_lt (Nat.lt_of_lt_of_le a.lt R)
 have a7:b6≠b8:=Nat.ne_of_lt (Nat.lt_of_lt_of_le f.lt R)
 have ao:=Nat.le_trans g.size R
 have Y:=Nat.le_trans i R
 have b:=b.ga M
 have a:=a.ga M
 have f:=f.ga M
 have J:=J.ga M
 have i:=Nat.le_trans i M.size
 have g:=g.gb M
 refine gw rfl fun b9 w9 N n K=> ?_
 have a8:b2≠b9:=Nat.ne_of_lt (Nat.lt_of_lt_of_le b.lt N)
 have D:I≠b9:=Nat.ne_of_lt (Nat.lt_of_lt_of_le a.lt N)
 have a9:b6≠b9:=Nat.ne_of_lt (Nat.lt_of_lt_of_le f.lt N)
 have S:b8≠b9:=Nat.ne_of_lt (Nat.lt_of_lt_of_le j.lt N)
 have ap:=Nat.le_trans g.size N
 have Z:=Nat.le_trans i N
 have b:=b.ga K
 have a:=a.ga K
 have f:=f.ga K
 have j:=j.ga K
 have J:=J.ga K
 have i:=Nat.le_trans i K.size
 have g:=g.gb K
 refine wl (j8 (l':=h2.c) gc j rfl rfl rfl rfl OneC.h fun b7 j E aw=> ?_)
 have b:=b.gk E a6
 have a:=a.gk E C
 have f:=f.gk E a7
 have n:=n.gk E S.symm
 have J:=J.ext E (Dg Y ag ah)
 have i:=Nat.le_trans i E.size
 have g:=g.gj E ao
 refine wl (j8 (l':=F.c) gc n rfl rfl rfl rfl OneC.h fun ba n G ax=> ?_)
 have b:=b.gk G a8
 have a:=a.gk G D
 have f:=f.gk G a9
 have j:=j.gk G S
 have J:=J.ext G (Dg Z ag ah)
 have i:=Nat.le_trans i G.size
 have g:=g.gj G ap
 refine ju rfl ?_
 refine jv (α:=Bool) [4] rfl (fun z=>[(5,.bool z)]) (fun z u=>(z=(ux h.s l).isSome∧x2 u (Grow H w u) h2)∧gz u b2 121 (h.c)∧gz u I 121 (h2.c)∧gz u b6 25 (B.c)∧gz u b8 121 (h2.c)∧gz u b9 25 (F.c)∧Ext No w u) ?_ ?_
 ·refine jt rfl 13 [(0,true),(1,true),(2,true),(3,true),(4,true),(5,true),(6,true),(7,true),(8,true),(9,true),(10,true),(11,true),(12,false)] [13] ((fun x=>x=I∨x=I)) zk fun aq o ay=> ?_
  have ar:=f
  have au:=j
  have av:=n
  have b:=b.ga o
  have a:=a.ga o
  have f:=f.ga o
  have j:=j.ga o
  have n:=n.ga o
  have J:=J.ga o
  have i:=Nat.le_trans i o.size
  have g:=g.gb o
  have hC:Ext ((fun x=>x=I∨x=I)) _ aq:=o.no
  refine qi gc rfl rfl (fun w' T=>(au.ext (show Ext (fun x=>x=I∨x=I) _ w' from T) fun e=>e.elim C.symm C.symm).ki) rfl ?_
  refine gx gc 3 rfl (Af 28 rfl (fun hg=> ?_) (fun hg=> ?_))
  ·refine gx gc 1 rfl ?_
   refine j5 gc rfl rfl (fun w' T=>((av.ext (show Ext (fun x=>x=I∨x=I) _ w' from T) fun e=>e.elim D.symm D.symm).cell rfl)) ?_
   refine gx gc 2 rfl (j5 gc rfl rfl (fun w' T=>((ar.ext (show Ext (fun x=>x=I∨x=I) _ w' from T) fun e=>e.elim A.symm A.symm).cell rfl)) ?_)
   refine gx gc 3 rfl (jg rfl (j8 (l':=h2.c) gc a rfl rfl rfl rfl OneC.h fun bb a q az=>⟨hC.then (q.mono fun _ _ e=>by have e:_=_:=e;show _=_∨_=_;omega),?_⟩))
   have b:=b.gk q O
   have f:=f.gk q A.symm
   have j:=j.gk q C.symm
   have n:=n.gk q D.symm
   have J:=J.ext q n4
   have i:=Nat.le_trans i q.size
   have g:=g.gj q U
   refine jj (wb rfl (D5 gc rfl rfl rfl (j9 ?_)))
   exact j4 (decide ((F.os.length:Int)=(B.os.length:Int))) rfl ⟨⟨said_yes ae a0 hg (X hg).2.1,J.mono fun y hy=>Grow.wide af i hy⟩,b,a,f,j,n,g⟩
  refine gx gc 8 rfl ?_
  refine jg rfl (j8 (l':=h2.c) gc a rfl rfl rfl rfl OneC.h fun bc a t b0=>⟨hC.then (t.mono fun _ _ e=>by have e:_=_:=e;show _=_∨_=_;omega),?_⟩)
  have b:=b.gk t O
  have f:=f.gk t A.symm
  have j:=j.gk t C.symm
  have n:=n.gk t D.symm
  have J:=J.ext t n4
  have i:=Nat.le_trans i t.size
  have g:=g.gj t U
  refine jj (wb rfl (D5 gc rfl rfl rfl (j9 ?_)))
  exact j4 (false) rfl ⟨⟨said_no hg,J.mono fun y hy=>Grow.wide af i hy⟩,b,a,f,j,n,g⟩
 rintro z bd ⟨⟨hz,J⟩,b,a,f,j,n,g⟩
 refine gr (qk [_,_] ⟨⟨I,0,rfl,qu gc rfl rfl a.ki rfl⟩,rfl,trivial⟩ ?_)
 exact⟨h2,by rw[hz];rfl,fun s e=>by obtain⟨_,e1,rfl⟩:=said_some e;exact⟨(X e1).1,(X e1).2.2⟩,J,g⟩
def StB (F H K:Nat→Prop) (sp:Nat):Nat→Prop:=fun y=>F y∨H y∨K y∨y=sp
structure StA (u:World) (sp x d:Nat) (F H K:Nat→Prop) (X:Sd) (h:u7):Prop where
  box:gz u sp 123 (.pointer (some ⟨x,0,none⟩)::h.c)
  disk:At u d F X.W.D
  log:xg u x d H X.W
  has:x2 u K h
  eq:h.s=X.s
  mp:∃r,h.m=some r
  hf:∀y,H y→¬F y
  kf:∀y,K y→¬F y∧¬H y
  sf:¬F sp∧¬H sp∧¬K sp
  klt:∀y,K y→y<u.heap.size
theorem StA.ext {S:Nat→Prop} {u u':World} {sp x d:Nat} {F H K:Nat→Prop} {X:Sd} {h:u7} (k:StA u sp x d F H K X h) (hE:Ext S u u') (hS:∀y,StB F H K sp y→¬S y):StA u' sp x d F H K X h:=
 ⟨k.box.ext hE (hS _ (.inr (.inr (.inr rfl)))),k.disk.ext hE fun y hy=>hS y (.inl hy),k.log.ext hE fun y hy=>hS y (.inr (.inl hy)),k.has.ext hE fun y hy=>hS y (.inr (.inr (.inl hy))),k.eq,k.mp,k.hf,k.kf,k.sf,fun y hy=>Nat.lt_of_lt_of_le (k.klt y hy) hE.size⟩
theorem StA.ga {u u':World} {sp x d:Nat} {F H K:Nat→Prop} {X:Sd} {h:u7} (k:StA u sp x d F H K X h) (hE:Ext No u u'):StA u' sp x d F H K X h:=k.ext hE fun _ _=>id
theorem StA.lt {u:World} {sp x d:Nat} {F H K:Nat→Prop} {X:Sd} {h:u7} (k:StA u sp x d F H K X h):∀y,StB F H K sp y→y<u.heap.size:=fun y hy=>by
 rcases hy with hy|hy|hy|rfl
 ·exact k.disk.lt y hy
 ·exact k.log.lt y hy
 ·exact k.klt y hy
 exact k.box.lt
def StNew (w w':World) (d:Nat) (F':Nat→Prop) (so:Option Addr) (X:Sd):Prop:=∃sp x H K h,so=some ⟨sp,0,none⟩∧StA w' sp x d F' H K X h∧∀y,(H y∨K y∨y=sp)→w.heap.size≤y
theorem yw4 (w:World) {d m:Nat} {F:Nat→Prop} {D:kg} (h:At w d F D) (hok:D.Ok m) (hm:m+7000<1000000000) (area:Int) (har: -9223372036854775808≤area∧area<9223372036854775808) (hr:Rt w) (hF0:¬F 0):
  gp prog 13 [.pointer (some ⟨d,0,none⟩),.int .i64 area] w fun v w'=>∃(so:Option Addr) (F':Nat→Prop),v= .tuple #[.pointer so,.int .i64 (uz D area).2]∧At w' d F' (uz D area).1∧Ext F w w'∧(∀y,F' y→F y∨w.heap.size≤y)∧((uz D area).2≠0→so=none)∧((uz D area).2=0→StNew w w' d F' so ⟨Wl.fresh (uz D area).1 area.toNat,yq9⟩):=by
 refine gh func13 rfl rfl rfl rfl ?_
 have k:=Ext.refl F w
 refine jc rfl (km rfl (gi call23 rfl (xv6 w h hok hm area har hr hF0) fun V N A=> ?_))
 obtain⟨W,O,rfl,l,B,o,Q,p⟩:=A
 have k:=k.then B
 refine ju rfl (gl (jc rfl (jp rfl (fun C=> ?_) (fun C=> ?_))))
 ·refine gl ?_
  refine j1 (ju rfl (gr (gq (qk [_,_] ⟨rfl,rfl,trivial⟩ ?_))))
  exact⟨none,O,rfl,l,k,o,fun _=>rfl,fun e=>absurd e C⟩
 have E:(uz D area).2=0:=Decidable.not_not.1 C
 obtain⟨x,H,rfl,a,q⟩:=p E
 refine j6 (gy (km rfl (qa rfl trivial (l':=hasZ.c) rfl ?_)))
 have G:=k.size
 have r:=a.lt
 have t:=l.lt
 have R:=l
 refine gi call57 rfl (xq9 N (hasZ_at N fun _=>False) (fun _ e=>e.elim)) fun X S I=> ?_
 obtain⟨J,rfl,K,L,P,f⟩:=I
 have l:=l.ga f
 have a:=a.ga f
 have k:=k.gb f
 have M:=P.hasLt f.size
 have T:=f.size
 have g:=Nat.le_refl S.heap.size
 refine qa rfl ⟨⟨rfl,by decide⟩,⟨rfl,by decide⟩,trivial⟩ (l':=(.pointer (some ⟨x,0,none⟩)::J.c)) rfl (gw rfl fun n U u i j=> ?_)
 have z:=Nat.le_trans k.size u
 have l:=l.ga j
 have a:=a.ga j
 have M:=M.ga j
 have g:=Nat.le_trans g j.size
 have k:=k.gb j
 have i:gz U n 123 ((.pointer (some ⟨x,0,none⟩)::J.c)):=i
 refine ju rfl (gr (qk [_,_] ⟨rfl,rfl,trivial⟩ ?_))
 refine⟨_,O,by rw[E];rfl,l,k,o,fun e=>absurd E e,fun _=>⟨n,x,H,_,J,rfl,⟨i,l,a,M,by rw[u7.s,K,L];rfl,P.map.imp fun _ e=>e.1,fun y b=>(q y b).2,fun y b=>⟨fun e=> ?_,fun e=> ?_⟩,⟨fun e=> ?_,fun e=> ?_,fun e=> ?_⟩,fun y b=> ?_⟩,fun y b=> ?_⟩⟩
 ·have:=t y e;have:=b.1.elim (fun e=>e.elim) id;omega
 ·have:=r y e;have:=b.1.elim (fun e=>e.elim) id;omega
 ·have:=t n e;omega
 ·have:=r n e;omega
 ·have:=e.2;omega
 ·exact Nat.lt_of_lt_of_le b.2 g
 rcases b with b|b|rfl
 ·exact(q y b).1
 ·exact Nat.le_trans G (b.1.elim (fun e=>e.elim) id)
 exact z
theorem goes_nil (w:World):gp prog 54 [.pointer none] w fun v w'=>v= .int .i64 1∧Ext No w w':=by
 refine gh func54 rfl rfl rfl rfl ?_
 have hX:=Ext.refl No w
 refine jc rfl (gl (jc rfl (vi rfl (jc rfl (gr (gq (gv rfl rfl ?_)))))))
 exact⟨rfl,hX⟩
theorem goes_calls (w:World) {sp x d:Nat} {F H K:Nat→Prop} {X:Sd} {h:u7} (k:StA w sp x d F H K X h):gp prog 54 [.pointer (some ⟨sp,0,none⟩)] w fun v w'=>v= .int .i64 (if X.W.broken=true then 8 else 0)∧Ext No w w':=by
 refine gh func54 rfl rfl rfl rfl ?_
 have a:=Ext.refl No w
 refine jc rfl (gl (jc rfl (u3 rfl (xy (km rfl (j0 rfl (k.box.cell rfl) ?_))))))
 refine gi call69 rfl (broken_calls w k.log) fun f g b=> ?_
 obtain⟨rfl,c⟩:=b
 have a:=a.gb c
 refine ql (vh rfl (fun e=> ?_) (fun e=> ?_))
 ·refine gl ?_
  refine j1 (ju rfl (gr (gq (gv rfl rfl ?_))))
  exact⟨by rw[if_pos e],a⟩
 refine j6 ?_
 refine gy (jc rfl (gr (gv rfl rfl ?_)))
 exact⟨by rw[e];rfl,a⟩
theorem sbroken_nil (w:World):gp prog 20 [.pointer none] w fun v w'=>v= .bool false∧Ext No w w':=by
 refine gh func20 rfl rfl rfl rfl ?_
 have a:=Ext.refl No w
 refine jc rfl (jv (α:=Unit) [] rfl (fun z=>[(2,.bool false)]) (fun z u=>Ext No w u) ?_ ?_)
 ·refine j1 ?_
  refine j7 gc rfl (ua 5 rfl (fun b=> ?_) (fun b=> ?_))
  ·cases b
  refine j3 gc 7 rfl ?_
  refine gn ?_
  exact j4 (()) rfl a
 rintro⟨⟩ c a
 refine gr (gv rfl rfl ?_)
 exact⟨rfl,a⟩
theorem swal_nil (w:World):gp prog 21 [.pointer none] w fun v w'=>v= .pointer none∧Ext No w w':=by
 refine gh func21 rfl rfl rfl rfl ?_
 have hX:=Ext.refl No w
 refine jc rfl (gl (jc rfl (vi rfl (jc rfl (gr (gq (gv rfl rfl ?_)))))))
 exact⟨rfl,hX⟩
theorem sget_nil (w:World) {id:IdB} (_hid:vd id):gp prog 10 [.pointer none,.agg (ge id).toArray] w fun v w'=>v= .tuple #[.agg (jq ut noP).toArray,.int .i64 1]∧Ext No w w':=by
 refine gh func10 rfl rfl rfl rfl ?_
 have a:=Ext.refl No w
 refine kz (gw rfl fun j k l c d=> ?_)
 have a:=a.gb d
 have c:gz k j 30 (ge id):=c
 refine gw rfl fun m o e b f=> ?_
 have g:=Nat.le_trans a.size e
 have a:=a.gb f
 refine ju rfl (gl (jc rfl (vi rfl (kz (qa rfl trivial (l':=jq ut noP) objZc ?_)))))
 refine wl (j8 (l':=jq ut noP) gc b rfl rfl (gt qd) (by rw[gt qd];rfl) OneC.h fun p b i n=> ?_)
 have a:=a.gj i g
 refine ju rfl (gr (gq (qk [_,_] ⟨⟨m,0,rfl,qu gc rfl rfl b.ki (gt qd)⟩,rfl,trivial⟩ ?_)))
 exact⟨rfl,a⟩
theorem sget_calls (w:World) {sp x d:Nat} {F H K:Nat→Prop} {X:Sd} {h:u7} (k:StA w sp x d F H K X h) {id:IdB} (hid:vd id):
  gp prog 10 [.pointer (some ⟨sp,0,none⟩),.agg (ge id).toArray] w fun v w'=>∃o a,v= .tuple #[.agg (jq o a).toArray,.int .i64 (if id∈ur X.s.row then 0 else 4)]∧(id∈ur X.s.row→o∈X.s.row∧Ac o=id∧Co o∧u4 w w' o a)∧(id∉ur X.s.row→o=ut∧a=noP)∧Ext No w w':=by
 have k0:=k
 have a7:=k.has
 obtain⟨rp,rc,p,m,vp,vc,C⟩:=h
 obtain⟨r,y⟩:=k.mp
 have y:m=some r:=y
 subst y
 have c:gz w sp 123 [.pointer (some ⟨x,0,none⟩),.slice rp p.length rc,.map (some r),.slice vp C.length vc]:=k.box
 have a8:p.length<1000000:=k.has.few
 have a9:C.length<1000000:=k.has.fev
 have a6:u7.s ⟨rp,rc,p,some r,vp,vc,C⟩=⟨p.map qw.o,C.map Prod.fst⟩:=rfl
 have q:X.s.row=p.map qw.o:=by rw[←k.eq];rfl
 have aa:X.s.vals=C.map Prod.fst:=by rw[←k.eq];rfl
 have hM:MapB w r xz2 (placeOf (ur X.s.row)):=by
  rcases k.has.map with⟨Q,_⟩|⟨r',Q,h1⟩
  ·cases Q
  cases Q
  rw[q,←held_ids k.has.o];exact h1
 refine gh func10 rfl rfl rfl rfl ?_
 have f:=Ext.refl No w
 refine kz ?_
 have D:=c.lt
 refine gw rfl fun b3 w1 ab j E=> ?_
 have c:=c.ga E
 have f:=f.gb E
 have j:gz w1 b3 30 (ge id):=j
 have D:=c.lt
 refine gw rfl fun R w2 S b z=> ?_
 have G:=Nat.le_trans f.size S
 have j:=j.ga z
 have c:=c.ga z
 have f:=f.gb z
 have n4:sp≠R:=by omega
 refine ju rfl (gl (jc rfl (u3 rfl (xy ?_))))
 refine jt rfl 12 [(0,true),(1,true),(2,true),(3,true),(4,true),(5,true),(6,true),(7,true),(8,true),(9,true),(10,true),(11,true)] [] (No) zk fun w3 A ac=> ?_
 have T:=j
 have I:=c
 have U:=f
 have b:=b.ga A
 have c:=c.ga A
 have f:=f.gb A
 refine gx gc 4 rfl (j5 gc rfl rfl (fun w' n=>((I.ga n).cell rfl)) ?_)
 refine qi gc rfl rfl (fun w' n=>(T.ga n).ki) hid.len ?_
 refine wd_lu gc rfl rfl idK hid rfl (hM.ga f) (fun w' n=>hM.ga (U.gb n)) ?_
 simp only[if_true]
 rw[xq6]
 refine gx gc 5 rfl (jj (j9 (gy (gl (jc rfl (vh rfl (fun V=> ?_) (fun V=> ?_)))))))
 ·have J:id∉ur X.s.row:=by simpa using V
  refine kz (qa rfl trivial (l':=jq ut noP) objZc (wl (j8 (l':=jq ut noP) gc b rfl rfl (gt qd) (by rw[gt qd];rfl) OneC.h fun w4 b W ad=> ?_)))
  have f:=f.gj W G
  refine ju rfl (gr (gq (qk [_,_] ⟨⟨R,0,rfl,qu gc rfl rfl b.ki (gt qd)⟩,rfl,trivial⟩ ?_)))
  exact⟨ut,noP,by rw[if_neg J];rfl,fun e=>absurd e J,fun _=>⟨rfl,rfl⟩,f⟩
 have t:id∈ur X.s.row:=by simpa using V
 have Y:placeOf (ur X.s.row) id=some ((ur X.s.row).idxOf id):=if_pos t
 rw[Y]
 obtain⟨i,Z⟩:∃i,i=(ur X.s.row).idxOf id:=⟨_,rfl⟩
 rw[←Z]
 have B:i<(ur X.s.row).length:=by rw[Z];exact List.idxOf_lt_length_of_mem t
 have a0:(ur X.s.row)[i]=id:=by subst Z;exact List.getElem_idxOf B
 have u:i<p.length:=by rw[q,ur,List.length_map,List.length_map] at B;exact B
 have a1:Ac p[i].o=id:=by rw[←a0];simp[ur,q]
 have g:=k.has.o _ (List.getElem_mem u)
 have L:p[i].id.length=32:=by rw[g.id];exact vf _
 obtain⟨qb,qo,hp,a3⟩:=k.has.row.qv k.has.held zn
 dsimp only at hp
 subst hp
 refine j6 (gy (km rfl (j0 rfl (c.cell rfl) (j7 gc rfl (ka rfl 105 rfl i rfl u (qo+i*105) rfl (j7 gc rfl ?_))))))
 refine jo rfl (heldO ((a3 i u).ga f) L) (gt g.ok.1) ?_
 have a4:=f
 refine gi call52 rfl (sown_calls w3 g.ok.1 (g.l.ga f) g.ok.2) fun v5 w5 a5=> ?_
 obtain⟨a2,rfl,M,N⟩:=a5
 have b:=b.ga N
 have f:=f.gb N
 have M:=M.older (W0:=w) a4.size
 have O:=b
 refine wl (j8 (l':=jq p[i].o a2) gc b rfl rfl (gt g.ok.1) (by rw[gt g.ok.1];rfl) OneC.h fun w6 b P ae=> ?_)
 have M:=M.gk P O zd zd zd
 have f:=f.gj P G
 refine ju rfl (gr (qk [_,_] ⟨⟨R,0,rfl,qu gc rfl rfl b.ki (gt g.ok.1)⟩,rfl,trivial⟩ ?_))
 exact⟨p[i].o,a2,by rw[if_pos t];rfl,fun _=>⟨by rw[q];exact List.mem_map_of_mem (List.getElem_mem u),a1,g.ok,M⟩,fun e=>absurd t e,f⟩
theorem svalue_nil (w:World) {n:Str}:gp prog 11 [.pointer none,xf n] w fun v w'=>v= .tuple #[.slice none 0 0,.bool false]∧Ext No w w':=by
 refine gh func11 rfl rfl rfl rfl ?_
 have a:=Ext.refl No w
 refine jc rfl (gl (jc rfl (vi rfl (jc rfl (gr (gq (qk [_,_] ⟨rfl,rfl,trivial⟩ ?_)))))))
 exact⟨rfl,a⟩
theorem svalue_calls (w:World) {sp x d:Nat} {F H K:Nat→Prop} {X:Sd} {h:u7} (k:StA w sp x d F H K X h) (hri:A3 X.s.vals) {n:Str}:
  gp prog 11 [.pointer (some ⟨sp,0,none⟩),xf n] w fun v w'=>∃q c b,v= .tuple #[.slice q b.length c,.bool (zz3 X.s.vals n).isSome]∧b=(zz3 X.s.vals n).getD []∧ku w w' q b.length c 5 1 (ge b)∧Ext No w w':=by
 have G:=k
 have Z:=k.has
 obtain⟨Q,R,A,m,S,T,a⟩:=h
 obtain⟨r,p⟩:=k.mp
 have p:m=some r:=p
 subst p
 have g:gz w sp 123 [.pointer (some ⟨x,0,none⟩),.slice Q A.length R,.map (some r),.slice S a.length T]:=k.box
 have a0:A.length<1000000:=k.has.few
 have a1:a.length<1000000:=k.has.fev
 have U:u7.s ⟨Q,R,A,some r,S,T,a⟩=⟨A.map qw.o,a.map Prod.fst⟩:=rfl
 have a2:X.s.row=A.map qw.o:=by rw[←k.eq];rfl
 have t:X.s.vals=a.map Prod.fst:=by rw[←k.eq];rfl
 refine gh func11 rfl rfl rfl rfl ?_
 have f:=Ext.refl No w
 refine jc rfl (gl (jc rfl (u3 rfl (j6 (gy (km rfl ?_))))))
 refine jo rfl ((Seg.append (l:=[.pointer (some ⟨x,0,none⟩)])).1 g.ki).2 rfl (j7 gc rfl ?_)
 refine gi call53 rfl (find_calls w rfl rfl (G.has.vals.ga f) zn (n:=n)) fun v1 w1 I=> ?_
 obtain⟨i,q,rfl,hF,B⟩:=I
 have g:=g.ga B
 have f:=f.gb B
 rw[t] at hri
 have j:=find_two hri hF
 refine ju rfl (gl (jc rfl (vh rfl (fun C=> ?_) (fun C=> ?_))))
 ·have V:zz3 X.s.vals n=none:=by
   rw[t]
   rcases j with⟨e,_⟩|⟨_,e⟩
   ·rw[e] at C;cases C
   exact e
  refine jc rfl (gr (gq (qk [_,_] ⟨rfl,rfl,trivial⟩ ?_)))
  exact⟨none,0,[],by rw[V];rfl,by rw[V];rfl,ku.nil _ _ _ _,f⟩
 obtain⟨D,u⟩:∃W:i<(a.map Prod.fst).length,zz3 X.s.vals n=some (a.map Prod.fst)[i].2:=by
  rw[t]
  rcases j with⟨_,W,_,e⟩|⟨e,_⟩
  ·exact⟨W,e⟩
  rw[e] at C;cases C
 have z:i<a.length:=by rw[List.length_map] at D;exact D
 have J:(a.map Prod.fst)[i]=a[i].1:=List.getElem_map ..
 rw[J] at u
 have E:=G.has.v _ (List.getElem_mem z)
 obtain⟨qb,qo,Y,L⟩:=G.has.vals.qv (fun x _=>Aj x) zn
 dsimp only at Y
 subst Y
 refine j6 (gy (km rfl (j0 rfl (g.cell rfl) (j7 gc rfl (ka rfl 2 rfl i rfl z (qo+i*2) rfl (j7 gc rfl (j0 rfl (((L i z).ga f) 1 _ rfl) ?_)))))))
 have M:=f
 refine gi call35 rfl (xp w1 (E.s.ga f) E.lo) fun v2 w2 N=> ?_
 obtain⟨q2,c2,rfl,ho,O,P⟩:=N
 have f:=f.gb P
 refine ju rfl (gr (qk [_,_] ⟨rfl,rfl,trivial⟩ ?_))
 exact⟨q2,c2,_,by rw[u];rfl,by rw[u];rfl,⟨ho,fun y hy=>Nat.le_trans M.size (O y hy)⟩,f⟩
abbrev nmV (v:A2):Value:=xf v.1
theorem _root_.Go.Vc.ku.not {W w:World} {p:Option Addr} {n c T sz:Nat} {xs:List Value} (h:ku W w p n c T sz xs) {b U:Nat} {L:List Value} (hb:gz w b U L) (hT:T≠U):¬jd p b:=fun e=>by
 obtain⟨l,hl⟩:=h.own.zq2 e
 exact hT (hl.uniq hb).2
theorem snames_nil (w:World):gp prog 18 [.pointer none] w fun v w'=>v= .slice none 0 0∧Ext No w w':=by
 refine gh func18 rfl rfl rfl rfl ?_
 have hX:=Ext.refl No w
 refine jc rfl (gl (jc rfl (vi rfl (jc rfl (gr (gq (gv rfl rfl ?_)))))))
 exact⟨rfl,hX⟩
theorem snames_calls (w:World) {sp x d:Nat} {F H K:Nat→Prop} {X:Sd} {h:u7} (k:StA w sp x d F H K X h):
  gp prog 18 [.pointer (some ⟨sp,0,none⟩)] w fun v w'=>∃q c,v= .slice q X.s.vals.length c∧ku w w' q X.s.vals.length c 9 1 (X.s.vals.map nmV)∧Ext No w w':=by
 have V:=k
 have W:=k.has
 obtain⟨O,P,l,m,Q,R,a⟩:=h
 obtain⟨r,j⟩:=k.mp
 have j:m=some r:=j
 subst j
 have C:gz w sp 123 [.pointer (some ⟨x,0,none⟩),.slice O l.length P,.map (some r),.slice Q a.length R]:=k.box
 have Y:l.length<1000000:=k.has.few
 have Z:a.length<1000000:=k.has.fev
 have S:u7.s ⟨O,P,l,some r,Q,R,a⟩=⟨l.map qw.o,a.map Prod.fst⟩:=rfl
 have a0:X.s.row=l.map qw.o:=by rw[←k.eq];rfl
 have n:X.s.vals=a.map Prod.fst:=by rw[←k.eq];rfl
 refine gh func18 rfl rfl rfl rfl ?_
 have e:=Ext.refl No w
 refine jc rfl (gl (jc rfl (u3 rfl (xy (km rfl (j0 rfl (C.cell rfl) (j7 gc rfl ?_)))))))
 refine ql (gu ?_)
 refine jn (α:=Nat×Option Addr×Nat) [11,12] rfl (fun z=>[(2,.slice z.2.1 z.1 z.2.2),(13,.int .i64 (z.1:Int))]) (fun z u=>(z.1≤a.length∧ku w u z.2.1 z.1 z.2.2 9 1 (((a.map Prod.fst).take z.1).map nmV))∧Ext No w u) (fun z u=>a.length-z.1) (0,none,0) rfl ⟨⟨Nat.zero_le _,ku.nil _ _ _ _⟩,e⟩ ?_
 rintro⟨i,q,c⟩ w1 ⟨⟨D,b⟩,e⟩
 try dsimp only
 dsimp only at D b
 refine jc rfl (gl (jp rfl (fun hc=> ?_) (fun hc=> ?_)))
 ·have f:i<a.length:=by omega
  have E:i<(a.map Prod.fst).length:=by rw[List.length_map];exact f
  have G:(a.map Prod.fst)[i]=a[i].1:=List.getElem_map ..
  obtain⟨qb,qo,T,I⟩:=V.has.vals.qv (fun x _=>Aj x) zn
  dsimp only at T
  subst T
  refine xy (gu (kz (ka rfl 2 rfl i rfl f (qo+i*2) rfl (jo rfl ((I i f).ga e) rfl (gw rfl fun b4 w2 J g p=> ?_)))))
  have L:=Nat.le_trans e.size J
  have b:=b.ga p
  have e:=e.gb p
  have t:=g
  refine wl (j8 (l':=vv a[i]) gc g rfl rfl rfl rfl OneC.h fun w3 g y a1=> ?_)
  have b:=b.gk y t zd
  have e:=e.gj y L
  refine ql (yu rfl (jb g rfl rfl (wl (qc gc rfl 1 rfl rfl rfl zd zd zt (l':=[xf a[i].1.1]) rfl fun M w4 U A B a2=> ?_))))
  have b:=b.ga B
  have e:=e.gb B
  have a3:=b.own
  refine wl (xd gc rfl 1 16 rfl rfl rfl zd b (Src.slice (m:=1) ⟨rfl,.inr ⟨M,0,rfl,A.ki⟩⟩ OneC.h) zm zn (n':=(i+1)) (ys:=(((a.map Prod.fst).take (i+1)).map nmV)) rfl (by rw[←yq8 E,G]) e fun q4 k4 w5 b N e=> ?_)
  dsimp only at b N
  refine j7 gc rfl (gn (B4 rfl ?_))
  rw[IntWalk.i64_in _ zo]
  refine gn ?_
  exact jm (i+1,q4,k4) rfl ⟨⟨f,b⟩,e⟩ zf
 have h0:i=a.length:=by omega
 subst h0
 refine Bg (jc rfl (gr (gv rfl rfl ?_)))
 exact⟨q,c,by rw[n,List.length_map],by rw[n,List.length_map];rw[show a.length=(a.map Prod.fst).length from(List.length_map ..).symm,List.take_length] at b;rw[List.length_map] at b;exact b,e⟩
theorem sheap_nil (w:World):gp prog 19 [.pointer none] w fun v w'=>v= .agg #[.slice none 0 0]∧Ext No w w':=by
 refine gh func19 rfl rfl rfl rfl ?_
 have b:=Ext.refl No w
 refine kz (gw rfl fun g i c a d=> ?_)
 have e:=Nat.le_trans b.size c
 have b:=b.gb d
 have a:gz i g 56 ([.slice none 0 0]):=a
 refine ql (gl (jc rfl (vi rfl (kz (jh a rfl rfl (wl (j8 (l':=[.slice none 0 0]) gc a rfl rfl rfl rfl OneC.h fun k a f j=> ?_)))))))
 have b:=b.gj f e
 refine ql (gr (gq (qk [_] ⟨⟨g,0,rfl,qu gc rfl rfl a.ki rfl⟩,trivial⟩ ?_)))
 exact⟨rfl,b⟩
theorem rise_nodup {l:List A2} (h:A3 l):(l.map Prod.fst).Nodup:=by
 rw[List.Nodup,List.pairwise_map]
 exact h.imp fun e=>nLt_ne e
theorem all_may {s:De} (h:s.Ok):Ba (Al s)↔s.row.length≤4096:=by
 refine⟨fun k=>k.1,fun k=>⟨k,?_,h.objs,?_,?_⟩⟩
 ·show(s.vals.map _).length≤128
  rw[List.length_map];exact h.few
 ·intro x a
  obtain⟨v,b,rfl⟩:=List.mem_map.1 a
  have:=h.vals v b
  exact⟨this.1,this.2.1,⟨Nat.zero_le _,.inr rfl⟩,this.2.2,.inl rfl⟩
 show((s.vals.map _).map yk.name).Nodup
 rw[List.map_map];exact rise_nodup h.rise
theorem codeE_lt (b:Bx):(yr b).length<1000000000:=by
 unfold yr
 split
 ·rename_i h
  have h1:=objsB_len h.2.2.1
  have h2:=setsB_len h.2.2.2
  have h3:=h.1
  have h4:=h.2.1
  simp only[up,List.length_append,jw]
  omega
 decide
def StQ (w w':World) (sp x d:Nat) (F H K:Nat→Prop) (X:Sd) (h:u7) (r:Wl×Int):Prop:=
  ∃F' H':Nat→Prop,StA w' sp x d F' H' K ⟨r.1,X.s⟩ h∧(∀y,F' y→F y∨w.heap.size≤y)∧(∀y,H' y→H y∨w.heap.size≤y)∧Ext (fun y=>F y∨H y) w w'
theorem StA.logQ {w v w':World} {sp x d:Nat} {F H K F' H':Nat→Prop} {X:Sd} {h:u7} {W2:Wl} (k:StA v sp x d F H K X h) (hE0:Ext No w v) (hA:At w' d F' W2.D) (hL:xg w' x d H' W2) (hF:∀y,F' y→F y∨v.heap.size≤y) (hH:∀y,H' y→H y∨v.heap.size≤y) (hHF:∀y,H' y→¬F' y) (hE:Ext (fun y=>F y∨H y) v w') (e:Int):StQ w w' sp x d F H K X h (W2,e):=by
 have b:=k.box.lt
 refine⟨F',H',⟨k.box.ext hE fun e=>e.elim k.sf.1 k.sf.2.1,hA,hL,k.has.ext hE fun y a e=>e.elim (k.kf y a).1 (k.kf y a).2,k.eq,k.mp,hHF,fun y a=>⟨fun e=> ?_,fun e=> ?_⟩,⟨fun e=> ?_,fun e=> ?_,k.sf.2.2⟩,fun y a=>Nat.lt_of_lt_of_le (k.klt y a) hE.size⟩,fun y a=>(hF y a).imp id fun e=>Nat.le_trans hE0.size e,fun y a=>(hH y a).imp id fun e=>Nat.le_trans hE0.size e,hE0.no.then hE⟩
 ·have:=k.klt y a
  exact(hF y e).elim (k.kf y a).1 fun e=>by omega
 ·have:=k.klt y a
  exact(hH y e).elim (k.kf y a).2 fun e=>by omega
 ·exact(hF sp e).elim k.sf.1 fun e=>by omega
 exact(hH sp e).elim k.sf.2.1 fun e=>by omega
theorem _root_.Go.Vc.ku.zq2 {W w:World} {p:Option Addr} {n c T sz:Nat} {xs:List Value} (h:ku W w p n c T sz xs) {y off:Nat} (e:p=some ⟨y,off,none⟩):W.heap.size≤y∧y<w.heap.size:=by
 have d:jd p y:=by
  rcases h.own with⟨a,_⟩|⟨b,l,a,_⟩
  ·rw[e] at a;cases a
  rw[e] at a;cases a;exact e
 exact⟨h.new y d,h.own.lt d⟩
theorem anew_no {X:Sd} {s:De} (hs:s.Ok) (h:¬Ba (Al s)∨40000<(yr (Al s)).length):xq2 X s=(X,6):=by
 refine if_pos ?_
 by_cases k:Ba (Al s)
 ·rw[yr,if_pos k] at h
  exact .inr (h.resolve_left fun e=>e k)
 rw[all_may hs] at k
 exact .inl zo
theorem anew_yes {X:Sd} {s:De} (hs:s.Ok) (h:¬(¬Ba (Al s)∨40000<(yr (Al s)).length)):(xq2 X s).1.W=(X.W.x1 (yr (Al s))).1∧(xq2 X s).2=(X.W.x1 (yr (Al s))).2:=by
 have k:Ba (Al s):=Classical.byContradiction fun k=>h (.inl k)
 have e:yr (Al s)=up (Al s):=if_pos k
 rw[e] at h⊢
 have b:=(all_may hs).1 k
 have a:¬(4096<s.row.length∨40000<(up (Al s)).length):=fun e=>e.elim (fun e=>by omega) fun e=>h (.inr e)
 unfold xq2
 rw[if_neg a]
 exact⟨rfl,rfl⟩
theorem sanew_calls (w:World) {sp x d m:Nat} {F H K:Nat→Prop} {X:Sd} {h:u7} (k:StA w sp x d F H K X h) (hok:X.W.D.Ok m) (hm:m+2000<1000000000) (hW:Wl.Ok X.W) (hr:Rt w) (hF0:¬F 0) {h2:u7} {K2:Nat→Prop} (hx2:x2 w K2 h2) (hn:h2.s.Ok):
  gp prog 56 [.pointer (some ⟨sp,0,none⟩),.agg h2.c.toArray] w fun v w'=>v= .int .i64 (xq2 X h2.s).2∧StQ w w' sp x d F H K X h ((xq2 X h2.s).1.W,(xq2 X h2.s).2):=by
 have P:=k
 refine gh func56 rfl rfl rfl rfl ?_
 have a:=Ext.refl No w
 refine kz (gw rfl fun R Q S f g=> ?_)
 have k:=k.ga g
 have a:=a.gb g
 have f:gz Q R 121 (h2.c):=f
 refine ju rfl (kz (jh f rfl rfl (gi call61 rfl (sall_calls Q (hx2.ga a)) fun v2 T p=> ?_)))
 obtain⟨B,rfl,r,U,i⟩:=p
 have k:=k.ga i
 have a:=a.gb i
 have t:=a
 refine gi call30 rfl (C0 T U) fun v3 w3 A=> ?_
 obtain⟨q,Y,rfl,b,j⟩:=A
 have k:=k.ga j
 have a:=a.gb j
 rw[r] at b⊢
 have b:=b.older (V:=w) t.size
 refine ju rfl (gl ?_)
 refine jv (α:=Bool) [0,5] rfl (fun z=>[(19,.bool z)]) (fun z u=>(z=decide (¬Ba (Al h2.s)∨40000<(yr (Al h2.s)).length)∧StA u sp x d F H K X h∧ku w u q (yr (Al h2.s)).length Y 5 1 (ge (yr (Al h2.s))))∧Ext No w u) ?_ ?_
 ·refine j1 ?_
  refine j7 gc rfl (jl 15 rfl (fun o=> ?_) (fun o=> ?_))
  ·refine j3 gc 4 rfl ?_
   refine gn ?_
   exact j4 (true) rfl ⟨⟨by symm;exact decide_eq_true (.inl fun e=>o (if_pos e)),k,b⟩,a⟩
  refine j3 gc 4 rfl ?_
  refine gn ?_
  exact j4 (_) rfl ⟨⟨by rw[decide_eq_decide];exact⟨fun e=> .inr zo,fun e=>(by have:=e.resolve_left fun e=>e (Classical.byContradiction fun Z=>by rw[mayE,if_neg Z] at o;exact o zd);omega)⟩,k,b⟩,a⟩
 rintro z w4 ⟨⟨rfl,k,b⟩,a⟩
 refine jp rfl (fun C=> ?_) (fun C=> ?_)
 ·refine gl ?_
  refine j1 (ju rfl (gr (gq (gv rfl rfl ?_))))
  have l:=anew_no (X:=X) hn C
  exact⟨by rw[l],F,H,by rw[l];exact k,fun _=> .inl,fun _=> .inl,a.no⟩
 have l:=anew_yes (X:=X) hn C
 refine j6 (gy (km rfl (j0 rfl (k.box.cell rfl) (j7 gc rfl ?_))))
 have k4:=k
 have E:=a
 refine gi call38 rfl (checkpoint_calls w4 k.log k.disk hok hm hW b.sl (codeE_lt _) (hr.ext a id) hF0 k.hf (fun y a0 e=>by obtain⟨hy,hl⟩:=b.zq2 e;exact⟨fun e=>by have:=P.disk.lt y e;omega,fun e=>by have:=P.log.lt y e;omega,hl⟩)) fun v5 w5 G=> ?_
 obtain⟨rfl,F2,H2,I,J,L,M,n,N⟩:=G
 have O:=N
 refine ju rfl (gr (gv rfl rfl ?_))
 exact⟨by rw[l.2],by rw[l.1];exact k4.logQ E I J L M n O _⟩
theorem yc {P:Nat→Prop} {n b:Nat} (h:∀y,P y→y<n) (hb:n≤b):∀y,P y→¬One b y:=fun y hy e=>by
 have e:y=b:=e
 have:=h y hy
 omega
abbrev StS (F H:Nat→Prop) (sp:Nat):Nat→Prop:=fun y=>F y∨H y∨y=sp
def ComQ (w w':World) (sp x d:Nat) (F H K:Nat→Prop) (X':Sd):Prop:=
  ∃(F' H' K':Nat→Prop) (h':u7),StA w' sp x d F' H' K' X' h'∧(∀y,F' y→F y∨w.heap.size≤y)∧(∀y,H' y→H y∨w.heap.size≤y)∧(∀y,K' y→K y∨w.heap.size≤y)
theorem ComQ.same {w w':World} {sp x d:Nat} {F H K:Nat→Prop} {X:Sd} {h:u7} (k:StA w' sp x d F H K X h):ComQ w w' sp x d F H K X:=⟨F,H,K,h,k,fun _=> .inl,fun _=> .inl,fun _=> .inl⟩
def ComJ (w u:World) (sp x d:Nat) (F H K G:Nat→Prop) (X:Sd) (h h2:u7) (W':Wl):Prop:=
  ∃F' H':Nat→Prop,StA u sp x d F' H' K ⟨W',X.s⟩ h∧(∀y,F' y→F y∨w.heap.size≤y)∧(∀y,H' y→H y∨w.heap.size≤y)∧x2 u G h2∧(∀y,G y→¬F' y∧¬H' y∧y≠sp∧y<u.heap.size)
theorem StQ.com {w v u:World} {sp x d:Nat} {F H K G:Nat→Prop} {X:Sd} {h h2:u7} {r:Wl×Int} (q:StQ v u sp x d F H K X h r) (hw:w.heap.size≤v.heap.size) (hG:x2 v G h2) (hg:∀y,G y→¬F y∧¬H y∧y≠sp∧y<v.heap.size):ComJ w u sp x d F H K G X h h2 r.1:=by
 obtain⟨i,j,k,c,f,g⟩:=q
 refine⟨i,j,k,fun y a=>(c y a).imp id (Nat.le_trans hw),fun y a=>(f y a).imp id (Nat.le_trans hw),hG.ext g fun y a e=>e.elim (hg y a).1 (hg y a).2.1,fun y a=> ?_⟩
 have b:=hg y a
 exact⟨fun e=>(c y e).elim b.1 fun e=>by omega,fun e=>(f y e).elim b.2.1 fun e=>by omega,b.2.2.1,Nat.lt_of_lt_of_le b.2.2.2 g.size⟩
theorem sect_pos {n:Nat} (h:0<kj n):n≤40000:=by
 unfold kj at h
 split at h
 ·cases h
 omega
theorem sd_eta {x:Sd} {s:De} (e:x.s=s):x=⟨x.W,s⟩:=by cases x;cases e;rfl
theorem lays_s (X:Sd) (A:De) (C:Bytes):(Ct X A C).1.s=if(Ct X A C).2=0 then A else X.s:=by
 unfold Ct
 split
 ·rfl
 unfold xq2
 split<;>rfl
theorem yw1 (w:World) {sp x d m:Nat} {F H K:Nat→Prop} {X:Sd} {h:u7} (k:StA w sp x d F H K X h) (hok:X.W.D.Ok m) (hm:m+2000<1000000000) (hW:Wl.Ok X.W) (hr:Rt w) (hF0:¬F 0) {B:uk} (hB:Dk w B) (hsok:X.s.Ok) (hfo:h.hs.length+5000<1000000):
  gp prog 15 [.pointer (some ⟨sp,0,none⟩),B.v] w fun v w'=>v= .int .i64 (y0 X B.d).2∧ComQ w w' sp x d F H K (y0 X B.d).1∧Ext (StS F H sp) w w':=by
 have k0:=k
 have bu:∀b,w.heap.size≤b→¬(F b∨H b):=fun b hb e=>e.elim (fun e=>by have:=k.disk.lt b e;omega) fun e=>by have:=k.log.lt b e;omega
 have bf:=k.eq
 have bk:A3 h.s.vals:=by rw[bf];exact hsok.rise
 have av:=hB
 have j:=Ext.refl No w
 have dn:h.vs.length≤128:=by have e:=hsok.few;rw[←bf,u7.s,List.length_map] at e;exact e
 refine gh func15 rfl rfl rfl rfl ?_
 have i:=Ext.refl (StS F H sp) w
 refine kz (gw rfl fun b3 w1 dp a c0=> ?_)
 have k:=k.ga c0
 have j:=j.gb c0
 have i:=i.gb c0
 have a:gz w1 b3 25 (B.c):=a
 refine ju rfl (gl (km rfl (gi call54 rfl (goes_calls w1 k) fun v2 w2 cp=> ?_)))
 obtain⟨rfl,bs⟩:=cp
 have a:=a.ga bs
 have k:=k.ga bs
 have j:=j.gb bs
 have i:=i.gb bs
 refine ju rfl (jc rfl (jp rfl (fun hc=> ?_) (fun hc=> ?_)))
 ·have bi:X.W.broken=true:=Classical.byContradiction fun e=>hc (if_neg e)
  have aw:y0 X B.d=(X,8):=if_pos bi
  refine jc rfl (gr (gq (gv rfl rfl ?_)))
  exact⟨by rw[aw,if_pos bi],by rw[aw];exact ComQ.same k,i⟩
 have bi:¬X.W.broken=true:=fun e=>hc (by rw[if_pos e];decide)
 refine xy (kz (jh a rfl rfl (gi call63 rfl (may_calls w2 (av.ga j)) fun v3 w3 cq=> ?_)))
 obtain⟨rfl,bt⟩:=cq
 have a:=a.ga bt
 have k:=k.ga bt
 have j:=j.gb bt
 have i:=i.gb bt
 refine ju rfl (vh rfl (fun hc=> ?_) (fun hc=> ?_))
 ·have aw:y0 X B.d=(X,2):=by rw[y0,if_neg bi,if_pos (show¬Ba B.d from by simpa using hc)]
  refine jc rfl (gr (gq (gv rfl rfl ?_)))
  exact⟨by rw[aw],by rw[aw];exact ComQ.same k,i⟩
 have a0:Ba B.d:=by simpa using hc
 have dq:B.ss.length≤128:=by have e:=a0.2.1;rw[uk.d,List.length_map] at e;exact e
 have dr:B.os.length≤4096:=by have e:=a0.1;rw[uk.d,List.length_map] at e;exact e
 refine j6 (gy ?_)
 have cr:=a.lt
 have c9:=i.size
 refine jv (α:=(u7×uk)×Nat×Nat) [0] rfl (fun z=>[(6,.pointer (some ⟨z.2.1,0,none⟩)),(7,.pointer (some ⟨z.2.2,0,none⟩)),(8,.int .i64 (js X.s B.d).2.2)]) (fun z u=>(StA u sp x d F H K X h∧Ext No w u∧x2 u (Grow K w u) z.1.1∧Dk u z.1.2∧((js X.s B.d).2.2=0→z.1.1.s=(js X.s B.d).1∧z.1.2.d=(js X.s B.d).2.1∧∃r,z.1.1.m=some r))∧gz u b3 25 (B.c)∧gz u z.2.1 121 (z.1.1.c)∧w3.heap.size≤z.2.1∧gz u z.2.2 25 (z.1.2.c)∧w3.heap.size≤z.2.2∧z.2.1≠z.2.2∧Ext (StS F H sp) w u) ?_ ?_
 ·have C:=Nat.le_refl w3.heap.size
  refine zv6 rfl 15 15 [] (No) zk fun w4 bb ds=> ?_
  have cs:=a
  have kd:=k
  have a:=a.ga bb
  have k:=k.ga bb
  have j:=j.gb bb
  have C:=Nat.le_trans C bb.size
  have i:=i.gb bb
  have p:Ext No _ w4:=bb
  refine qf [(0,true),(1,true),(2,true),(3,true),(4,true)] 10 rfl zk (gx gc 3 rfl (qi gc rfl rfl (fun w' c1=>((Seg.append (l:=[.pointer (some ⟨x,0,none⟩)])).1 (kd.ga c1).box.ki).2) rfl ?_))
  refine qi gc rfl rfl (fun w' c1=>(cs.ga c1).ki) rfl ?_
  refine xn rfl (Ad [5,10,11] rfl zk ⟨⟨_,rfl,?_⟩,⟨_,rfl,?_⟩,⟨_,rfl,?_⟩,trivial⟩)
  ·have b4:=j.size
   have b5:=k.klt
   refine j2 call64 rfl (yw w4 k.has k.klt (av.ga j) a0 bk zo zo (hr.ext j id)) fun v5 w5 ca=>⟨(by obtain⟨h2,Z,rfl,J,bc⟩:=ca;exact p.gb bc),?_⟩
   obtain⟨h2,Z,rfl,J,bc⟩:=ca
   have a:=a.ga bc
   have k:=k.ga bc
   have j:=j.gb bc
   have C:=Nat.le_trans C bc.size
   have i:=i.gb bc
   have p:=p.gb bc
   have E:=J.has
   have o:=J.own
   have b8:=bc.size
   have Y:=J.eq
   rw[bf] at Y⊢
   have n:=Nat.le_refl w5.heap.size
   refine qf [(6,true),(7,true),(8,true),(9,true)] 5 rfl zk (gx gc 4 rfl (xn rfl (Ad [10,11] rfl zk ⟨⟨_,rfl,?_⟩,⟨_,rfl,?_⟩,trivial⟩)))
   ·refine Bj gc rfl fun b6 w6 t f b9=>⟨p.gb b9,?_⟩
    have Q:b3≠b6:=Nat.ne_of_lt (Nat.lt_of_lt_of_le a.lt t)
    have L:=Nat.le_trans i.size t
    have R:=Nat.le_trans C t
    have al:=Nat.le_trans n t
    have A:=Nat.le_trans p.size t
    have a:=a.ga b9
    have k:=k.ga b9
    have j:=j.gb b9
    have E:=E.ga b9
    have o:=o.ga b9
    have C:=Nat.le_trans C b9.size
    have n:=Nat.le_trans n b9.size
    have i:=i.gb b9
    have p:=p.gb b9
    have ax:=Dg al b5 b8
    refine qf [(11,false),(12,false),(13,false),(14,true)] 0 rfl zk (jg rfl (Bj gc rfl fun b7 w7 I g ay=>⟨p.gb ay,?_⟩))
    have S:b3≠b7:=Nat.ne_of_lt (Nat.lt_of_lt_of_le a.lt I)
    have M:b6≠b7:=Nat.ne_of_lt (Nat.lt_of_lt_of_le f.lt I)
    have N:=Nat.le_trans i.size I
    have T:=Nat.le_trans C I
    have am:=Nat.le_trans n I
    have U:=Nat.le_trans p.size I
    have a:=a.ga ay
    have f:=f.ga ay
    have k:=k.ga ay
    have j:=j.gb ay
    have E:=E.ga ay
    have o:=o.ga ay
    have C:=Nat.le_trans C ay.size
    have n:=Nat.le_trans n ay.size
    have i:=i.gb ay
    have p:=p.gb ay
    have az:=Dg am b5 b8
    have a1:=f
    refine jg rfl (j8 (l':=h2.c) gc f rfl rfl rfl rfl OneC.h fun w8 f b0 dt=>⟨p.gj b0 A,?_⟩)
    have p:=p.gj b0 A
    have a:=a.gk b0 Q
    have g:=g.gk b0 M.symm
    have k:=k.ext b0 (yc k0.lt L)
    have j:=j.gj b0 L
    have E:=E.ext b0 ax
    have o:=o.gk b0 a1 zd
    have C:=Nat.le_trans C b0.size
    have n:=Nat.le_trans n b0.size
    have i:=i.gj b0 L
    have a2:=g
    refine jg rfl (j8 (l':=Z.c) gc g rfl rfl rfl rfl OneC.h fun w9 g ba du=>⟨p.gj ba U,?_⟩)
    have a:=a.gk ba S
    have f:=f.gk ba M
    have k:=k.ext ba (yc k0.lt N)
    have j:=j.gj ba N
    have E:=E.ext ba az
    have o:=o.gk ba a2 zd
    have C:=Nat.le_trans C ba.size
    have n:=Nat.le_trans n ba.size
    have i:=i.gj ba N
    refine gx gc 1 rfl (jj (j9 ?_))
    exact j4 ((h2,Z),b6,b7) rfl ⟨⟨k,j,E.mono fun y P=>Grow.wide b4 n P,J.bat _ (av.ga j) o,Y⟩,a,f,R,g,T,M,i⟩
   refine Bj gc rfl fun b7 dv I g ad=>⟨p.gb ad,?_⟩
   have S:b3≠b7:=Nat.ne_of_lt (Nat.lt_of_lt_of_le a.lt I)
   have N:=Nat.le_trans i.size I
   have T:=Nat.le_trans C I
   have am:=Nat.le_trans n I
   have U:=Nat.le_trans p.size I
   have a:=a.ga ad
   have k:=k.ga ad
   have j:=j.gb ad
   have E:=E.ga ad
   have o:=o.ga ad
   have C:=Nat.le_trans C ad.size
   have n:=Nat.le_trans n ad.size
   have i:=i.gb ad
   have p:=p.gb ad
   have az:=Dg am b5 b8
   refine qf [(10,false),(12,false),(13,false),(14,true)] 0 rfl zk (jg rfl (Bj gc rfl fun b6 dw t f a3=>⟨p.gb a3,?_⟩))
   have Q:b3≠b6:=Nat.ne_of_lt (Nat.lt_of_lt_of_le a.lt t)
   have O:b7≠b6:=Nat.ne_of_lt (Nat.lt_of_lt_of_le g.lt t)
   have L:=Nat.le_trans i.size t
   have R:=Nat.le_trans C t
   have al:=Nat.le_trans n t
   have A:=Nat.le_trans p.size t
   have a:=a.ga a3
   have g:=g.ga a3
   have k:=k.ga a3
   have j:=j.gb a3
   have E:=E.ga a3
   have o:=o.ga a3
   have C:=Nat.le_trans C a3.size
   have n:=Nat.le_trans n a3.size
   have i:=i.gb a3
   have p:=p.gb a3
   have ax:=Dg al b5 b8
   have a1:=f
   refine jg rfl (j8 (l':=h2.c) gc f rfl rfl rfl rfl OneC.h fun dx f a4 dc=>⟨p.gj a4 A,?_⟩)
   have p:=p.gj a4 A
   have a:=a.gk a4 Q
   have g:=g.gk a4 O
   have k:=k.ext a4 (yc k0.lt L)
   have j:=j.gj a4 L
   have E:=E.ext a4 ax
   have o:=o.gk a4 a1 zd
   have C:=Nat.le_trans C a4.size
   have n:=Nat.le_trans n a4.size
   have i:=i.gj a4 L
   have a2:=g
   refine jg rfl (j8 (l':=Z.c) gc g rfl rfl rfl rfl OneC.h fun dy g ae dd=>⟨p.gj ae U,?_⟩)
   have a:=a.gk ae S
   have f:=f.gk ae O.symm
   have k:=k.ext ae (yc k0.lt N)
   have j:=j.gj ae N
   have E:=E.ext ae az
   have o:=o.gk ae a2 zd
   have C:=Nat.le_trans C ae.size
   have n:=Nat.le_trans n ae.size
   have i:=i.gj ae N
   refine gx gc 1 rfl (jj (j9 ?_))
   exact j4 ((h2,Z),b6,b7) rfl ⟨⟨k,j,E.mono fun y P=>Grow.wide b4 n P,J.bat _ (av.ga j) o,Y⟩,a,f,R,g,T,O.symm,i⟩
  ·have _u:=i
   refine Bj gc rfl fun b6 ct t f b1=>⟨p.gb b1,?_⟩
   have Q:b3≠b6:=Nat.ne_of_lt (Nat.lt_of_lt_of_le a.lt t)
   have L:=Nat.le_trans i.size t
   have R:=Nat.le_trans C t
   have A:=Nat.le_trans p.size t
   have a:=a.ga b1
   have k:=k.ga b1
   have j:=j.gb b1
   have C:=Nat.le_trans C b1.size
   have i:=i.gb b1
   have p:=p.gb b1
   refine qf [] 9 rfl zk (xn rfl (Ad [5,11] rfl zk ⟨⟨_,rfl,?_⟩,⟨_,rfl,?_⟩,trivial⟩))
   ·have b4:=j.size
    have b5:=k.klt
    have bm:=f.lt
    refine j2 call64 rfl (yw ct k.has k.klt (av.ga j) a0 bk zo zo (hr.ext j id)) fun dz cb bv=>⟨(by obtain⟨h2,Z,rfl,J,af⟩:=bv;exact p.gb af),?_⟩
    obtain⟨h2,Z,rfl,J,af⟩:=bv
    have a:=a.ga af
    have f:=f.ga af
    have k:=k.ga af
    have j:=j.gb af
    have C:=Nat.le_trans C af.size
    have i:=i.gb af
    have p:=p.gb af
    have E:=J.has
    have o:=J.own
    have b8:=af.size
    have Y:=J.eq
    rw[bf] at Y⊢
    have ax:=Cp (u:=cb) bm L k0.klt
    have n:=Nat.le_refl cb.heap.size
    refine qf [(6,true),(7,true),(8,true),(9,true),(11,false),(12,false),(13,false),(14,true)] 0 rfl zk (gx gc 4 rfl (jg rfl (Bj gc rfl fun b7 e0 I g a5=>⟨p.gb a5,?_⟩)))
    have S:b3≠b7:=Nat.ne_of_lt (Nat.lt_of_lt_of_le a.lt I)
    have M:b6≠b7:=Nat.ne_of_lt (Nat.lt_of_lt_of_le f.lt I)
    have N:=Nat.le_trans i.size I
    have T:=Nat.le_trans C I
    have am:=Nat.le_trans n I
    have U:=Nat.le_trans p.size I
    have a:=a.ga a5
    have f:=f.ga a5
    have k:=k.ga a5
    have j:=j.gb a5
    have E:=E.ga a5
    have o:=o.ga a5
    have C:=Nat.le_trans C a5.size
    have n:=Nat.le_trans n a5.size
    have i:=i.gb a5
    have p:=p.gb a5
    have az:=Dg am b5 b8
    have a1:=f
    refine jg rfl (j8 (l':=h2.c) gc f rfl rfl rfl rfl OneC.h fun e3 f a6 de=>⟨p.gj a6 A,?_⟩)
    have p:=p.gj a6 A
    have a:=a.gk a6 Q
    have g:=g.gk a6 M.symm
    have k:=k.ext a6 (yc k0.lt L)
    have j:=j.gj a6 L
    have E:=E.ext a6 ax
    have o:=o.gk a6 a1 zd
    have C:=Nat.le_trans C a6.size
    have n:=Nat.le_trans n a6.size
    have i:=i.gj a6 L
    have a2:=g
    refine jg rfl (j8 (l':=Z.c) gc g rfl rfl rfl rfl OneC.h fun e4 g ag df=>⟨p.gj ag U,?_⟩)
    have a:=a.gk ag S
    have f:=f.gk ag M
    have k:=k.ext ag (yc k0.lt N)
    have j:=j.gj ag N
    have E:=E.ext ag az
    have o:=o.gk ag a2 zd
    have C:=Nat.le_trans C ag.size
    have n:=Nat.le_trans n ag.size
    have i:=i.gj ag N
    refine gx gc 1 rfl (jj (j9 ?_))
    exact j4 ((h2,Z),b6,b7) rfl ⟨⟨k,j,E.mono fun y P=>Grow.wide b4 n P,J.bat _ (av.ga j) o,Y⟩,a,f,R,g,T,M,i⟩
   have _u:=i
   refine Bj gc rfl fun b7 cu I g aq=>⟨p.gb aq,?_⟩
   have S:b3≠b7:=Nat.ne_of_lt (Nat.lt_of_lt_of_le a.lt I)
   have M:b6≠b7:=Nat.ne_of_lt (Nat.lt_of_lt_of_le f.lt I)
   have N:=Nat.le_trans i.size I
   have T:=Nat.le_trans C I
   have U:=Nat.le_trans p.size I
   have a:=a.ga aq
   have f:=f.ga aq
   have k:=k.ga aq
   have j:=j.gb aq
   have C:=Nat.le_trans C aq.size
   have i:=i.gb aq
   have p:=p.gb aq
   refine qf [(5,false),(6,true),(7,true),(8,true),(9,true),(12,false),(13,false),(14,true)] 0 rfl zk ?_
   have b4:=j.size
   have b5:=k.klt
   have bm:=f.lt
   have bn:=g.lt
   refine jg rfl (j2 call64 rfl (yw cu k.has k.klt (av.ga j) a0 bk zo zo (hr.ext j id)) fun e6 c2 bw=>⟨(by obtain⟨h2,Z,rfl,J,a7⟩:=bw;exact p.gb a7),?_⟩)
   obtain⟨h2,Z,rfl,J,a7⟩:=bw
   have a:=a.ga a7
   have f:=f.ga a7
   have g:=g.ga a7
   have k:=k.ga a7
   have j:=j.gb a7
   have C:=Nat.le_trans C a7.size
   have i:=i.gb a7
   have p:=p.gb a7
   have E:=J.has
   have o:=J.own
   have b8:=a7.size
   have Y:=J.eq
   rw[bf] at Y⊢
   have ax:=Cp (u:=c2) bm L k0.klt
   have az:=Cp (u:=c2) bn N k0.klt
   have n:=Nat.le_refl c2.heap.size
   refine gx gc 4 rfl ?_
   have a1:=f
   refine jg rfl (j8 (l':=h2.c) gc f rfl rfl rfl rfl OneC.h fun e7 f a8 dg=>⟨p.gj a8 A,?_⟩)
   have p:=p.gj a8 A
   have a:=a.gk a8 Q
   have g:=g.gk a8 M.symm
   have k:=k.ext a8 (yc k0.lt L)
   have j:=j.gj a8 L
   have E:=E.ext a8 ax
   have o:=o.gk a8 a1 zd
   have C:=Nat.le_trans C a8.size
   have n:=Nat.le_trans n a8.size
   have i:=i.gj a8 L
   have a2:=g
   refine jg rfl (j8 (l':=Z.c) gc g rfl rfl rfl rfl OneC.h fun e8 g ah dh=>⟨p.gj ah U,?_⟩)
   have a:=a.gk ah S
   have f:=f.gk ah M
   have k:=k.ext ah (yc k0.lt N)
   have j:=j.gj ah N
   have E:=E.ext ah az
   have o:=o.gk ah a2 zd
   have C:=Nat.le_trans C ah.size
   have n:=Nat.le_trans n ah.size
   have i:=i.gj ah N
   refine gx gc 1 rfl (jj (j9 ?_))
   exact j4 ((h2,Z),b6,b7) rfl ⟨⟨k,j,E.mono fun y P=>Grow.wide b4 n P,J.bat _ (av.ga j) o,Y⟩,a,f,R,g,T,M,i⟩
  have _u:=i
  refine Bj gc rfl fun b7 cv I g b2=>⟨p.gb b2,?_⟩
  have S:b3≠b7:=Nat.ne_of_lt (Nat.lt_of_lt_of_le a.lt I)
  have N:=Nat.le_trans i.size I
  have T:=Nat.le_trans C I
  have U:=Nat.le_trans p.size I
  have a:=a.ga b2
  have k:=k.ga b2
  have j:=j.gb b2
  have C:=Nat.le_trans C b2.size
  have i:=i.gb b2
  have p:=p.gb b2
  refine qf [] 9 rfl zk (xn rfl (Ad [5,10] rfl zk ⟨⟨_,rfl,?_⟩,⟨_,rfl,?_⟩,trivial⟩))
  ·have b4:=j.size
   have b5:=k.klt
   have bn:=g.lt
   refine j2 call64 rfl (yw cv k.has k.klt (av.ga j) a0 bk zo zo (hr.ext j id)) fun e9 cc bx=>⟨(by obtain⟨h2,Z,rfl,J,ai⟩:=bx;exact p.gb ai),?_⟩
   obtain⟨h2,Z,rfl,J,ai⟩:=bx
   have a:=a.ga ai
   have g:=g.ga ai
   have k:=k.ga ai
   have j:=j.gb ai
   have C:=Nat.le_trans C ai.size
   have i:=i.gb ai
   have p:=p.gb ai
   have E:=J.has
   have o:=J.own
   have b8:=ai.size
   have Y:=J.eq
   rw[bf] at Y⊢
   have az:=Cp (u:=cc) bn N k0.klt
   have n:=Nat.le_refl cc.heap.size
   refine qf [(6,true),(7,true),(8,true),(9,true),(10,false),(12,false),(13,false),(14,true)] 0 rfl zk (gx gc 4 rfl (jg rfl (Bj gc rfl fun b6 ea t f a9=>⟨p.gb a9,?_⟩)))
   have Q:b3≠b6:=Nat.ne_of_lt (Nat.lt_of_lt_of_le a.lt t)
   have O:b7≠b6:=Nat.ne_of_lt (Nat.lt_of_lt_of_le g.lt t)
   have L:=Nat.le_trans i.size t
   have R:=Nat.le_trans C t
   have al:=Nat.le_trans n t
   have A:=Nat.le_trans p.size t
   have a:=a.ga a9
   have g:=g.ga a9
   have k:=k.ga a9
   have j:=j.gb a9
   have E:=E.ga a9
   have o:=o.ga a9
   have C:=Nat.le_trans C a9.size
   have n:=Nat.le_trans n a9.size
   have i:=i.gb a9
   have p:=p.gb a9
   have ax:=Dg al b5 b8
   have a1:=f
   refine jg rfl (j8 (l':=h2.c) gc f rfl rfl rfl rfl OneC.h fun eb f aa di=>⟨p.gj aa A,?_⟩)
   have p:=p.gj aa A
   have a:=a.gk aa Q
   have g:=g.gk aa O
   have k:=k.ext aa (yc k0.lt L)
   have j:=j.gj aa L
   have E:=E.ext aa ax
   have o:=o.gk aa a1 zd
   have C:=Nat.le_trans C aa.size
   have n:=Nat.le_trans n aa.size
   have i:=i.gj aa L
   have a2:=g
   refine jg rfl (j8 (l':=Z.c) gc g rfl rfl rfl rfl OneC.h fun ec g aj dj=>⟨p.gj aj U,?_⟩)
   have a:=a.gk aj S
   have f:=f.gk aj O.symm
   have k:=k.ext aj (yc k0.lt N)
   have j:=j.gj aj N
   have E:=E.ext aj az
   have o:=o.gk aj a2 zd
   have C:=Nat.le_trans C aj.size
   have n:=Nat.le_trans n aj.size
   have i:=i.gj aj N
   refine gx gc 1 rfl (jj (j9 ?_))
   exact j4 ((h2,Z),b6,b7) rfl ⟨⟨k,j,E.mono fun y P=>Grow.wide b4 n P,J.bat _ (av.ga j) o,Y⟩,a,f,R,g,T,O.symm,i⟩
  have _u:=i
  refine Bj gc rfl fun b6 cw t f ar=>⟨p.gb ar,?_⟩
  have Q:b3≠b6:=Nat.ne_of_lt (Nat.lt_of_lt_of_le a.lt t)
  have O:b7≠b6:=Nat.ne_of_lt (Nat.lt_of_lt_of_le g.lt t)
  have L:=Nat.le_trans i.size t
  have R:=Nat.le_trans C t
  have A:=Nat.le_trans p.size t
  have a:=a.ga ar
  have g:=g.ga ar
  have k:=k.ga ar
  have j:=j.gb ar
  have C:=Nat.le_trans C ar.size
  have i:=i.gb ar
  have p:=p.gb ar
  refine qf [(5,false),(6,true),(7,true),(8,true),(9,true),(12,false),(13,false),(14,true)] 0 rfl zk ?_
  have b4:=j.size
  have b5:=k.klt
  have bn:=g.lt
  have bm:=f.lt
  refine jg rfl (j2 call64 rfl (yw cw k.has k.klt (av.ga j) a0 bk zo zo (hr.ext j id)) fun ed c3 bz=>⟨(by obtain⟨h2,Z,rfl,J,ab⟩:=bz;exact p.gb ab),?_⟩)
  obtain⟨h2,Z,rfl,J,ab⟩:=bz
  have a:=a.ga ab
  have g:=g.ga ab
  have f:=f.ga ab
  have k:=k.ga ab
  have j:=j.gb ab
  have C:=Nat.le_trans C ab.size
  have i:=i.gb ab
  have p:=p.gb ab
  have E:=J.has
  have o:=J.own
  have b8:=ab.size
  have Y:=J.eq
  rw[bf] at Y⊢
  have az:=Cp (u:=c3) bn N k0.klt
  have ax:=Cp (u:=c3) bm L k0.klt
  have n:=Nat.le_refl c3.heap.size
  refine gx gc 4 rfl ?_
  have a1:=f
  refine jg rfl (j8 (l':=h2.c) gc f rfl rfl rfl rfl OneC.h fun ee f ac dk=>⟨p.gj ac A,?_⟩)
  have p:=p.gj ac A
  have a:=a.gk ac Q
  have g:=g.gk ac O
  have k:=k.ext ac (yc k0.lt L)
  have j:=j.gj ac L
  have E:=E.ext ac ax
  have o:=o.gk ac a1 zd
  have C:=Nat.le_trans C ac.size
  have n:=Nat.le_trans n ac.size
  have i:=i.gj ac L
  have a2:=g
  refine jg rfl (j8 (l':=Z.c) gc g rfl rfl rfl rfl OneC.h fun ef g ak dl=>⟨p.gj ak U,?_⟩)
  have a:=a.gk ak S
  have f:=f.gk ak O.symm
  have k:=k.ext ak (yc k0.lt N)
  have j:=j.gj ak N
  have E:=E.ext ak az
  have o:=o.gk ak a2 zd
  have C:=Nat.le_trans C ak.size
  have n:=Nat.le_trans n ak.size
  have i:=i.gj ak N
  refine gx gc 1 rfl (jj (j9 ?_))
  exact j4 ((h2,Z),b6,b7) rfl ⟨⟨k,j,E.mono fun y P=>Grow.wide b4 n P,J.bat _ (av.ga j) o,Y⟩,a,f,R,g,T,O.symm,i⟩
 rintro⟨⟨h2,Z⟩,b6,b7⟩ cd ⟨⟨k,j,E,bg,Y⟩,a,f,t,g,I,M,i⟩
 try dsimp only
 dsimp only at f t g I M
 have L:=Nat.le_trans c9 t
 dsimp only at k j E bg Y
 have eg:=bg.lo
 have eh:=bg.ls
 obtain⟨G,ce,an,E⟩:∃G:Nat→Prop,(∀y,G y→K y∨w.heap.size≤y)∧(∀y,G y→y<cd.heap.size)∧x2 cd G h2:=⟨_,fun y P=>P.imp id fun e=>e.1,fun y P=>P.elim (k.klt y) fun e=>e.2,E⟩
 have bj:∀y,G y→¬F y∧¬H y∧y≠sp:=fun y P=>(ce y P).elim (fun e=>⟨(k.kf y e).1,(k.kf y e).2,fun e2=>k.sf.2.2 (e2▸e)⟩) fun e=>⟨fun e2=>by have:=k0.disk.lt y e2;omega,fun e2=>by have:=k0.log.lt y e2;omega,fun e2=>by have:=k0.box.lt;omega⟩
 refine gl ?_
 refine jv (α:=Bool) [0,6,7,8] rfl (fun z=>[(41,.bool z)]) (fun z u=>(z=decide ((js X.s B.d).2.2≠0∨Z.os.length+Z.ss.length=0)∧StA u sp x d F H K X h∧Ext No w u∧x2 u G h2∧Dk u Z∧(∀y,G y→y<u.heap.size))∧gz u b3 25 (B.c)∧gz u b6 121 (h2.c)∧gz u b7 25 (Z.c)∧Ext (StS F H sp) w u) ?_ ?_
 ·refine j1 ?_
  refine j7 gc rfl (jl 32 rfl (fun hg=> ?_) (fun hg=> ?_))
  ·refine j3 gc 9 rfl ?_
   refine gn ?_
   exact j4 (true) rfl ⟨⟨by symm;exact decide_eq_true (.inl hg),k,j,E,bg,an⟩,a,f,g,i⟩
  refine j3 gc 1 rfl ?_
  refine jb g rfl rfl (j3 gc 2 rfl (jb g rfl rfl (j3 gc 4 rfl ?_)))
  rw[IntWalk.i64_in _ zo]
  refine gn ?_
  exact j4 (_) rfl ⟨⟨by rw[decide_eq_decide];exact⟨fun e=> .inr zo,fun e=>(by have:=e.resolve_left hg;omega)⟩,k,j,E,bg,an⟩,a,f,g,i⟩
 rintro z cx ⟨⟨rfl,k,j,E,bg,an⟩,a,f,g,i⟩
 refine jp rfl (fun hc=> ?_) (fun hc=> ?_)
 ·have aw:y0 X B.d=(X,(js X.s B.d).2.2):=by
   rw[y0,if_neg bi,if_neg (fun e=>e a0)]
   refine if_pos (hc.imp id fun e=> ?_)
   by_cases h0:(js X.s B.d).2.2=0
   ·obtain⟨_,e2,_⟩:=Y h0
    rw[←e2]
    refine⟨?_,?_⟩
    ·show Z.os.map Prod.fst=[]
     rw[List.eq_nil_of_length_eq_zero (by omega:Z.os.length=0)];rfl
    show Z.ss.map Prod.fst=[]
    rw[List.eq_nil_of_length_eq_zero (by omega:Z.ss.length=0)];rfl
   rw[(xx0 h0).2];exact⟨rfl,rfl⟩
  refine jc rfl (gr (gq (gv rfl rfl ?_)))
  exact⟨by rw[aw],by rw[aw];exact ComQ.same k,i⟩
 have h0:(js X.s B.d).2.2=0:=Classical.byContradiction fun e=>hc (.inl e)
 obtain⟨c4,cf,cy⟩:=Y h0
 have aw:y0 X B.d=(Ct X (js X.s B.d).1 (up (js X.s B.d).2.1)):=by
  rw[y0,if_neg bi,if_neg (fun e=>e a0)]
  refine if_neg fun e=>hc (.inr ?_)
  have e:=e.resolve_left fun e=>e h0
  rw[←cf] at e
  have e1:(Z.os.map Prod.fst).length=0:=by rw[show Z.os.map Prod.fst=[] from e.1];rfl
  have e2:(Z.ss.map Prod.fst).length=0:=by rw[show Z.ss.map Prod.fst=[] from e.2];rfl
  rw[List.length_map] at e1 e2
  omega
 have cg:yr Z.d=(up (js X.s B.d).2.1):=by rw[cf];exact if_pos (fresh_may a0)
 have cz:h2.s.Ok:=by rw[c4];exact(after_ok hsok a0).1
 refine j6 (gy (kz (jh g rfl rfl ?_)))
 have d0:=j
 refine gi call30 rfl (C0 cx bg) fun ei d1 ch=> ?_
 obtain⟨q,kq,rfl,hq,au⟩:=ch
 have a:=a.ga au
 have f:=f.ga au
 have g:=g.ga au
 have k:=k.ga au
 have j:=j.gb au
 have E:=E.ga au
 have an:=fun y P=>Nat.lt_of_lt_of_le (an y P) au.size
 have i:=i.gb au
 rw[cg] at hq⊢
 have hq:=hq.older (V:=w) d0.size
 refine ju rfl ?_
 refine jv (α:=Unit) [0,6] rfl (fun z=>[(8,.int .i64 (Ct X (js X.s B.d).1 (up (js X.s B.d).2.1)).2)]) (fun z u=>(ComJ w u sp x d F H K G X h h2 (Ct X (js X.s B.d).1 (up (js X.s B.d).2.1)).1.W)∧gz u b6 121 (h2.c)∧Ext (StS F H sp) w u) ?_ ?_
 ·refine gl ?_
  refine yu rfl (gi call65 rfl (vo d1 _) fun ej d2 ci=> ?_)
  obtain⟨rfl,ao⟩:=ci
  have a:=a.ga ao
  have f:=f.ga ao
  have g:=g.ga ao
  have k:=k.ga ao
  have j:=j.gb ao
  have E:=E.ga ao
  have an:=fun y P=>Nat.lt_of_lt_of_le (an y P) ao.size
  have hq:=hq.ga ao
  have i:=i.gb ao
  rw[A8]
  refine ju rfl ?_
  refine jv (α:=Bool) [0,6,9] rfl (fun z=>[(61,.bool z)]) (fun z u=>(z=decide ((up (js X.s B.d).2.1).length≤40000∧(kj (up (js X.s B.d).2.1).length:Int)≤(X.W.size:Int)-X.W.used)∧StA u sp x d F H K X h∧Ext No w u∧x2 u G h2∧(∀y,G y→y<u.heap.size)∧ku w u q (up (js X.s B.d).2.1).length kq 5 1 (ge (up (js X.s B.d).2.1)))∧gz u b3 25 (B.c)∧gz u b6 121 (h2.c)∧gz u b7 25 (Z.c)∧Ext (StS F H sp) w u) ?_ ?_
  ·refine j1 ?_
   refine j7 gc rfl (jl 53 rfl (fun hg=> ?_) (fun hg=> ?_))
   ·refine j3 gc 4 rfl ?_
    refine j0 rfl (k.box.cell rfl) (gi call66 rfl (left_calls d2 k.log (by have:=hW.size;omega) (by have:=hW.size;have:=hW.room;omega)) fun ek el cj=> ?_)
    obtain⟨rfl,ap⟩:=cj
    have a:=a.ga ap
    have f:=f.ga ap
    have g:=g.ga ap
    have k:=k.ga ap
    have j:=j.gb ap
    have E:=E.ga ap
    have an:=fun y P=>Nat.lt_of_lt_of_le (an y P) ap.size
    have hq:=hq.ga ap
    have i:=i.gb ap
    refine j3 gc 2 rfl (gn ?_)
    exact j4 (_) rfl ⟨⟨by rw[decide_eq_decide];exact⟨fun e=>⟨sect_pos zo,e⟩,And.right⟩,k,j,E,an,hq⟩,a,f,g,i⟩
   refine j3 gc 8 rfl ?_
   refine gn ?_
   exact j4 (false) rfl ⟨⟨by symm;rw[decide_eq_false_iff_not];exact fun e=>hg (by have:=Cl e.1;omega),k,j,E,an,hq⟩,a,f,g,i⟩
  rintro z ck ⟨⟨rfl,k,j,E,an,hq⟩,a,f,g,i⟩
  refine jp rfl (fun hc=> ?_) (fun hc=> ?_)
  ·have bo:(Ct X (js X.s B.d).1 (up (js X.s B.d).2.1))=(⟨(X.W.append (up (js X.s B.d).2.1)).1,if(X.W.append (up (js X.s B.d).2.1)).2=0 then(js X.s B.d).1 else X.s⟩,(X.W.append (up (js X.s B.d).2.1)).2):=if_pos hc
   refine yu rfl (j0 rfl (k.box.cell rfl) (j7 gc rfl ?_))
   have k4:=k
   have c5:=j
   have c6:=E
   have bp:=an
   refine gi call39 rfl (append_calls ck k.log k.disk hok hm hW hq.sl (cg▸codeE_lt _) (hr.ext j id) hF0 k.hf (fun y em e=>by obtain⟨P,hl⟩:=hq.zq2 e;exact⟨fun e=>by have:=k0.disk.lt y e;omega,fun e=>by have:=k0.log.lt y e;omega⟩)) fun en eo cl=> ?_
   obtain⟨rfl,F2,H2,d3,d4,d5,d6,cm,bq⟩:=cl
   have f:=f.ext bq (bu b6 L)
   have i:=i.then (bq.mono fun y _ e=>e.imp id .inl)
   have bh:=(k4.logQ (Ext.refl No _) d3 d4 d5 d6 cm bq 0).com c5.size c6 fun y P=>⟨(bj y P).1,(bj y P).2.1,(bj y P).2.2,bp y P⟩
   refine j7 gc rfl (gn ?_)
   exact j4 (()) (by rw[bo];rfl) ⟨(by rw[bo];exact bh),f,i⟩
  have bo:(Ct X (js X.s B.d).1 (up (js X.s B.d).2.1))=xq2 X (js X.s B.d).1:=if_neg hc
  refine yu rfl (jh f rfl rfl ?_)
  have k4:=k
  have c5:=j
  have c6:=E
  have bp:=an
  refine gi call56 rfl (sanew_calls ck k hok hm hW (hr.ext j id) hF0 E cz) fun ep er cn=> ?_
  obtain⟨rfl,co⟩:=cn
  obtain⟨_,_,_,_,_,bb⟩:=id co
  have f:=f.ext bb (bu b6 L)
  have i:=i.then (bb.mono fun y _ e=>e.imp id .inl)
  have bh:=co.com c5.size c6 fun y P=>⟨(bj y P).1,(bj y P).2.1,(bj y P).2.2,bp y P⟩
  rw[c4] at bh⊢
  refine j7 gc rfl (gn ?_)
  exact j4 (()) (by rw[bo];rfl) ⟨(by rw[bo];exact bh),f,i⟩
 rintro z es ⟨bh,f,i⟩
 refine jv (α:=Unit) [8] rfl (fun z=>[]) (fun z u=>(ComQ w u sp x d F H K (y0 X B.d).1)∧Ext (StS F H sp) w u) ?_ ?_
 ·refine gl ?_
  refine j1 (ju rfl (jp rfl (fun hc=> ?_) (fun hc=> ?_)))
  ·obtain⟨F5,H5,k5,c7,c8,d7,br⟩:=bh
   have e5:(Ct X (js X.s B.d).1 (up (js X.s B.d).2.1)).1=⟨(Ct X (js X.s B.d).1 (up (js X.s B.d).2.1)).1.W,(js X.s B.d).1⟩:=by
    have e:=lays_s X (js X.s B.d).1 (up (js X.s B.d).2.1)
    rw[if_pos hc] at e
    exact sd_eta e
   refine yu rfl (jh f rfl rfl (j7 gc rfl (wl (zx5 gc k5.box rfl rfl (Nat.le_refl _) (OneC.h (l:=h2.c)) fun d8 d9 bd dm=> ?_))))
   have i:=i.then (bd.mono fun y _ e=> .inr (.inr e))
   have da:∀y,G y→¬One sp y:=fun y P=>(br y P).2.2.1
   have k6:StA d8 sp x d F5 H5 G ⟨(Ct X (js X.s B.d).1 (up (js X.s B.d).2.1)).1.W,(js X.s B.d).1⟩ h2:=⟨d9,k5.disk.ext bd fun y P e=>k5.sf.1 (by have e:y=sp:=e;exact e▸P),k5.log.ext bd fun y P e=>k5.sf.2.1 (by have e:y=sp:=e;exact e▸P),d7.ext bd da,c4,cy,k5.hf,fun y P=>⟨(br y P).1,(br y P).2.1⟩,⟨k5.sf.1,k5.sf.2.1,fun e=>(br sp e).2.2.1 rfl⟩,fun y P=>Nat.lt_of_lt_of_le (br y P).2.2.2 bd.size⟩
   refine gn ?_
   exact j4 (()) rfl ⟨(by rw[aw,e5];exact⟨F5,H5,G,h2,k6,c7,c8,ce⟩),i⟩
  have e5:(Ct X (js X.s B.d).1 (up (js X.s B.d).2.1)).1=⟨(Ct X (js X.s B.d).1 (up (js X.s B.d).2.1)).1.W,X.s⟩:=by
   have e:=lays_s X (js X.s B.d).1 (up (js X.s B.d).2.1)
   rw[if_neg hc] at e
   exact sd_eta e
  obtain⟨F5,H5,k5,c7,c8,_⟩:=bh
  refine j6 ?_
  exact j4 (()) rfl ⟨(by rw[aw,e5];exact⟨F5,H5,K,h,k5,c7,c8,fun _=> .inl⟩),i⟩
 rintro⟨⟩ et ⟨db,i⟩
 refine jc rfl (gr (gv rfl rfl ?_))
 exact⟨by rw[aw],db,i⟩
abbrev sayF (o:Option De) (b:Bytes):Option De:=o.bind fun s=>ux s b
theorem objsB_ge:∀l:List jk,l.length≤(zz6 l).length
 | []=>Nat.zero_le _
 |o::l=>by
  have h:=objsB_ge l
  have e:zz6 (o::l)=ve 2 (laidB o)++zz6 l:=rfl
  rw[e,List.length_append,ve,List.length_append,jw,List.length_cons]
  omega
theorem code_ge (b:Bx):b.objs.length≤(up b).length:=by
 have:=objsB_ge b.objs
 simp only[up,List.length_append]
 omega
theorem said_ok {s t:De} {b:Bytes} (hs:s.Ok) (h:ux s b=some t):t.Ok∧t.row.length≤s.row.length+b.length∧t.row.length≤s.row.length+4096:=by
 obtain⟨a,_,rfl⟩:=said_some h
 have c:=readB_may a
 have d:=after_ok hs c
 have f:=(readB_two b).elim (fun e=>e.2.2) fun e=>absurd a e.1
 have g:=code_ge (vj b).1
 rw[f] at g
 have i:=c.1
 exact⟨d.1,by omega,by omega⟩
theorem snap_ok {b:Bytes} {t:De} (h:xu b=some t):t.Ok∧t.row.length≤b.length:=by
 unfold xu at h
 split at h
 ·cases h;exact⟨yv3,Nat.zero_le _⟩
 obtain⟨s,c,a⟩:=Option.bind_eq_some_iff.1 h
 split at a
 ·cases a
  have:=said_ok yv3 c
  exact⟨this.1,by have:=this.2.1;simpa using this⟩
 cases a
theorem fold_say:∀(l:List Bytes) {s t:De},s.Ok→l.foldl sayF (some s)=some t→t.Ok∧t.row.length≤s.row.length+(l.map List.length).sum
 | [],s,t,hs,h=>by cases h;exact⟨hs,Nat.le_refl _⟩
 |b::l,s,t,hs,h=>by
  rw[List.foldl_cons] at h
  cases ho:ux s b with
  |none=>rw[show sayF (some s) b=none from ho,Ar (fun _=>rfl)] at h;cases h
  |some u=>
   rw[show sayF (some s) b=some u from ho] at h
   have h1:=said_ok hs ho
   have h2:=fold_say l h1.1 h
   refine⟨h2.1,?_⟩
   have h3:=h1.2.1
   have h4:=h2.2
   rw[List.map_cons,List.sum_cons]
   omega
theorem sum_used:∀l:List Bytes,(∀b∈l,b.length≤40000)→(l.map List.length).sum≤48*u6 l
 | [],_=>Nat.le_refl _
 |b::l,h=>by
  have h1:=sum_used l fun x hx=>h x (List.mem_cons_of_mem _ hx)
  have h2:=xx7 (h b (List.mem_cons_self ..))
  have e:u6 (b::l)=kj b.length+u6 l:=rfl
  rw[e,List.map_cons,List.sum_cons]
  omega
theorem sum_take (l:List Bytes) (k:Nat):((l.take k).map List.length).sum≤(l.map List.length).sum:=by
 have e:(l.map List.length).sum=((l.take k).map List.length).sum+((l.drop k).map List.length).sum:=by rw[←List.sum_append,←List.map_append,List.take_append_drop]
 omega
theorem open_say {W:Wl} (hW:Wl.Ok W) {s0:Bytes} {r0:List Bytes} (hp:W.pieces=s0::r0) (k:Nat) {s:De} (h:(r0.take k).foldl sayF (xu s0)=some s):s.Ok∧s.row.length≤48000:=by
 cases hs:xu s0 with
 |none=>rw[hs,Ar (fun _=>rfl)] at h;cases h
 |some t=>
  rw[hs] at h
  have a:=snap_ok hs
  have b:=fold_say _ a.1 h
  have e:=sum_take r0 k
  have c:=sum_used W.pieces hW.short
  have d:=hW.used
  have f:=hW.room
  have g:=hW.size
  rw[←d,hp,List.map_cons,List.sum_cons] at c
  exact⟨b.1,by omega⟩
def yw8 (o:Option De) (ok:Bool) (h:u7):Prop:=o.isSome=ok∧∀s,o=some s→h.s=s∧∃r,h.m=some r
theorem xw1 {K:Nat→Prop} {v u:World} {b:Nat} (hb:b<v.heap.size) (hK:∀y,K y→y≠b):∀y,Grow K v u y→¬One b y:=fun y hy e=>by
 have e:y=b:=e
 rcases hy with hy|hy
 ·exact hK y hy e
 omega
theorem grow_lt {K:Nat→Prop} {v u:World} (hK:∀y,K y→y<v.heap.size) (hv:v.heap.size≤u.heap.size):∀y,Grow K v u y→y<u.heap.size:=fun y hy=>hy.elim (fun e=>Nat.lt_of_lt_of_le (hK y e) hv) fun e=>e.2
abbrev OpnZ:=u7×Bool×(Nat→Prop)
def opnC (w:World) (b6 b7:Nat) (r0:List Bytes) (o:Option De):CoS OpnZ w where
  Fp:=fun z y=>y=b6∨y=b7∨z.2.2 y
  J:=fun k z u=>gz u b6 121 z.1.c∧gz u b7 4 [.bool z.2.1]∧x2 u z.2.2 z.1∧(∀y,z.2.2 y→y<u.heap.size∧y≠b6∧y≠b7)∧yw8 ((r0.take k).foldl sayF o) z.2.1 z.1
  Jx:=fun _ _ _ _=>False
  st:=fun⟨h1,h2,h3,h4,h5⟩ hE hS=>⟨h1.ext hE fun e=>(hS _ e).2 (.inl rfl),h2.ext hE fun e=>(hS _ e).2 (.inr (.inl rfl)),h3.ext hE fun y hy e=>(hS _ e).2 (.inr (.inr hy)),fun y hy=>⟨Nat.lt_of_lt_of_le (h4 y hy).1 hE.size,(h4 y hy).2⟩,h5⟩
  stx:=fun h _ _=>h.elim
  lt:=fun⟨h1,h2,h3,h4,h5⟩ x e=>by
    rcases e with rfl|rfl|e
    ·exact h1.lt
    ·exact h2.lt
    ·exact(h4 x e).1
  ltx:=fun h=>h.elim
theorem snap_hold {s0:Bytes} (h0:s0≠[]) {h3:u7} (h:∀s,ux yq9 s0=some s→h3.s=s∧∃r,h3.m=some r):(ux yq9 s0=none→yw8 (xu s0) false h3)∧((ux yq9 s0).isSome→yw8 (xu s0) (decide (yr (Al h3.s)=s0)) h3):=by
 unfold xu
 rw[if_neg h0]
 refine⟨fun e=>⟨by rw[e];rfl,fun s k=>by rw[e] at k;cases k⟩,fun e=> ?_⟩
 obtain⟨s,a⟩:=Option.isSome_iff_exists.1 e
 have b:=said_ok yv3 a
 have c:yr (Al s)=up (Al s):=if_pos ((all_may b.1).2 (by have:=b.2.2;simpa using this))
 rw[a,(h s a).1,c]
 by_cases hc:up (Al s)=s0
 ·rw[show((some s).bind fun s=>if up (Al s)=s0 then some s else none)=some s from if_pos hc,decide_eq_true hc]
  exact⟨rfl,fun t e=>by cases e;exact h s a⟩
 rw[show((some s).bind fun s=>if up (Al s)=s0 then some s else none)=none from if_neg hc,decide_eq_false hc]
 exact⟨rfl,fun t e=>by cases e⟩
theorem yw8.round {o:Option De} {ok:Bool} {h h3:u7} {b:Bytes} (k:yw8 o ok h) (hs:∀s,ux h.s b=some s→h3.s=s∧∃r,h3.m=some r) (ht:ok=true):yw8 (sayF o b) (ux h.s b).isSome h3:=by
 obtain⟨s,e⟩:=Option.isSome_iff_exists.1 (k.1.trans ht)
 have a:=(k.2 s e).1
 subst e
 rw[←a]
 exact⟨rfl,hs⟩
theorem yw8.off {o:Option De} {ok:Bool} {h:u7} {b:Bytes} (k:yw8 o ok h) (ht:ok=false):yw8 (sayF o b) ok h:=by
 cases o with
 |none=>exact k
 |some s=>exact absurd (k.1.trans ht) (fun e=>by cases e)
theorem sopen_nil (w:World):gp prog 14 [.pointer none] w fun v w'=>v= .tuple #[.pointer none,.int .i64 1]∧Ext No w w':=by
 refine B8 func14 rfl rfl rfl rfl ?_
 have b:=Ext.refl No w
 refine jc rfl (km rfl (gi call58 rfl (open_nil w) fun g i c=> ?_))
 obtain⟨rfl,d⟩:=c
 have b:=b.gb d
 refine ju rfl (gl (jc rfl (vi rfl (jc rfl (gr ?_)))))
 refine gq (Bz [] List.nodup_nil (fun _ h=>(by cases h)) [.pointer none,.int .i64 1] (fun f a=> ?_) (.inl rfl))
 exact⟨⟨rfl,rfl,trivial⟩,rfl,b.trans a fun x _ e=>by cases e⟩
theorem sopen_calls (w : World) {d m : Nat} {F : Nat → Prop} {D : kg} (h : At w d F D) (hok : D.Ok m) (hm : m + 10000 < 1000000000) (hr : Rt w) (hF0 : ¬ F 0) :
  gp prog 14 [.pointer (some ⟨d, 0, none⟩)] w fun v w' => ∃ (so : Option Addr) (F' : Nat → Prop), v = .tuple #[.pointer so, .int .i64 (yv9 D).2.1] ∧ At w' d F' (yv9 D).1 ∧ Ext F w w' ∧ (∀ y, F' y → F y ∨ w.heap.size ≤ y) ∧ ((yv9 D).2.2 = none → so = none) ∧ ∀ X, (yv9 D).2.2 = some X → StNew w w' d F' so X := by
 refine B8 func14 rfl rfl rfl rfl ?_
 have q := Ext.refl F w
 refine jc rfl (km rfl (gi call58 rfl (open_calls w h hok hm hr hF0) fun v1 w1 ce => ?_))
 obtain ⟨xo, F2, rfl, A, a9, b5, cf, bq⟩ := ce
 have q := q.then a9
 refine ju rfl (gl (jc rfl (jp rfl (fun Y => ?_) (fun Y => ?_))))
 ·have J : yv9 D = ((uf D).1, (uf D).2.1, none) := if_pos Y
  have cg := cf Y
  subst cg
  refine jc rfl (gr (gq (Bz [] List.nodup_nil (fun _ h => (by cases h)) [.pointer none, .int .i64 (uf D).2.1] (fun ak p => ?_) (.inl rfl))))
  have b2 : Ext No _ ak := p.mono fun x _ e => by cases e
  exact ⟨⟨rfl, rfl, trivial⟩, none, F2, by rw [J]; rfl, by rw [J]; exact A.ga b2, q.gb b2, b5, fun _ => rfl, fun X e => by rw [J] at e; cases e⟩
 ·have h0 : (uf D).2.1 = 0 := Decidable.not_not.1 Y
  obtain ⟨x, H, rfl, g, br⟩ := bq h0
  have hW := (openW_fine hok).2.2 h0
  obtain ⟨s0, r0, aa⟩ : ∃ s0 r0, (Wl.opened (uf D)).pieces = s0 :: r0 := by
   cases hp : (Wl.opened (uf D)).pieces with
   | nil => exact absurd hp hW.some
   | cons a l => exact ⟨a, l, rfl⟩
  have dj := hW.size.2
  have db := hW.few
  have dc : (Wl.opened (uf D)).pieces.length = r0.length + 1 := by rw [aa]; rfl
  have au : 0 < (Wl.opened (uf D)).pieces.length := by omega
  have bs : (Wl.opened (uf D)).pieces[0] = s0 := by simp [aa]
  have av : ∀ b ∈ (Wl.opened (uf D)).pieces, b.length < 1000000000 := fun b hb => by have := hW.short b hb; omega
  have ch : (Wl.opened (uf D)).pieces.drop 1 = r0 := by rw [aa]; rfl
  have J : yv9 D = match saidD (Wl.opened (uf D)).pieces with
    | none => ((uf D).1, 201, none)
    | some s => ((uf D).1, 0, some ⟨Wl.opened (uf D), s⟩) := if_neg Y
  have ci : saidD (Wl.opened (uf D)).pieces = r0.foldl sayF (xu s0) := by rw [aa]; rfl
  rw [ci] at J
  obtain ⟨VA, bt⟩ : ∃ VA, VA = w1 := ⟨_, rfl⟩
  have L := A.lt
  have V := g.lt
  have b8 := q
  have o : VA.heap.size ≤ w1.heap.size := by rw [bt]; exact Nat.le_refl _
  rw [← bt] at L V b8
  refine j6 (gy (kz (qa rfl trivial (l' := hasZ.c) rfl ?_)))
  have cj := o
  refine gi call57 rfl (xq9 w1 (hasZ_at w1 fun _ => False) (fun _ e => e.elim)) fun v2 w2 ck => ?_
  obtain ⟨h1, rfl, b9, ba, hB, al⟩ := ck
  have A := A.ga al
  have g := g.ga al
  have o := Nat.le_trans o al.size
  have q := q.gb al
  have cl : ∃ r, h1.m = some r := hB.map.imp fun _ e => e.1
  obtain ⟨K, j, C, t⟩ : ∃ K : Nat → Prop, (∀ y, K y → y < w2.heap.size) ∧ (∀ y, K y → VA.heap.size ≤ y) ∧ x2 w2 K h1 := ⟨_, fun y f => f.2, fun y f => Nat.le_trans cj (f.1.elim (fun e => e.elim) id), hB.hasLt al.size⟩
  have a3 := j
  have am := o
  refine gw rfl fun b6 w3 bb i ah => ?_
  have bu := Nat.le_trans q.size bb
  have A := A.ga ah
  have g := g.ga ah
  have o := Nat.le_trans o ah.size
  have t := t.ga ah
  have j := fun y f => Nat.lt_of_lt_of_le (j y f) ah.size
  have q := q.gb ah
  have M := yc a3 bb
  have af := Nat.le_trans am bb
  have a3 := j
  have am := o
  refine gw rfl fun b7 w4 aw n ab => ?_
  have E : b6 ≠ b7 := Nat.ne_of_lt (Nat.lt_of_lt_of_le i.lt aw)
  have bc := Nat.le_trans q.size aw
  have i := i.ga ab
  have A := A.ga ab
  have g := g.ga ab
  have o := Nat.le_trans o ab.size
  have t := t.ga ab
  have j := fun y f => Nat.lt_of_lt_of_le (j y f) ab.size
  have q := q.gb ab
  have G := yc a3 aw
  have a0 := Nat.le_trans am aw
  have an := i
  refine wl (j8 (l' := h1.c) gc i rfl rfl rfl rfl OneC.h fun w5 i ac dk => ?_)
  have n := n.gk ac E.symm
  have A := A.ext ac (yc L af)
  have g := g.ext ac (yc V af)
  have o := Nat.le_trans o ac.size
  have t := t.ext ac M
  have j := fun y f => Nat.lt_of_lt_of_le (j y f) ac.size
  have q := q.gj ac bu
  refine ky n rfl rfl rfl fun w6 n ad dl => ?_
  have i := i.gk ad E
  have A := A.ext ad (yc L a0)
  have g := g.ext ad (yc V a0)
  have o := Nat.le_trans o ad.size
  have t := t.ext ad G
  have j := fun y f => Nat.lt_of_lt_of_le (j y f) ad.size
  have q := q.gj ad bc
  refine ql ?_
  refine jv (α := OpnZ) [4, 6, 7] rfl (fun z => []) (fun z u => (x2 u z.2.2 z.1 ∧ (∀ y, z.2.2 y → y < u.heap.size) ∧ (∀ y, z.2.2 y → y ≠ b6 ∧ y ≠ b7 ∧ VA.heap.size ≤ y) ∧ yw8 (xu s0) z.2.1 z.1 ∧ xg u x d H (Wl.opened (uf D)) ∧ At u d F2 (uf D).1 ∧ VA.heap.size ≤ u.heap.size) ∧ gz u b6 121 (z.1.c) ∧ gz u b7 4 ([.bool z.2.1]) ∧ Ext F w u) ?_ ?_
  ·refine gl ?_
   refine yu rfl (gi call59 rfl (snapshot_calls w6 g au (av _ (List.getElem_mem au))) fun v7 w7 cm => ?_)
   obtain ⟨q1, k1, rfl, I, dd, a4⟩ := cm
   have i := i.ga a4
   have n := n.ga a4
   have A := A.ga a4
   have g := g.ga a4
   have o := Nat.le_trans o a4.size
   have t := t.ga a4
   have j := fun y f => Nat.lt_of_lt_of_le (j y f) a4.size
   have q := q.gb a4
   rw [bs] at I ⊢
   refine ju rfl (jc rfl (jp rfl (fun Y => ?_) (fun Y => ?_)))
   ·have b3 : s0 ≠ [] := fun e => by rw [e] at Y; exact absurd Y zd
    have ax : h1.s = yq9 := by rw [u7.s, b9, ba]; rfl
    refine kz (jh i rfl rfl (j7 gc rfl ?_))
    have a3 := j
    have bd := i.lt
    have bf := n.lt
    have am := o
    refine gi call60 rfl (said_calls w7 t j (by rw [ax]; exact yv3.rise) I.sl (by rw [← bs]; exact av _ (List.getElem_mem au)) (by rw [b9]; decide) (by rw [ba]; decide) (hr.ext q hF0)) fun v8 w8 cn => ?_
    obtain ⟨h3, rfl, ao, co, Z⟩ := cn
    have i := i.ga Z
    have n := n.ga Z
    have A := A.ga Z
    have g := g.ga Z
    have o := Nat.le_trans o Z.size
    have t := t.ga Z
    have j := fun y f => Nat.lt_of_lt_of_le (j y f) Z.size
    have I := I.ext Z fun _ _ => id
    have q := q.gb Z
    rw [ax] at ao ⊢
    obtain ⟨K3, j, C, M, G, t⟩ : ∃ K3 : Nat → Prop, (∀ y, K3 y → y < w8.heap.size) ∧ (∀ y, K3 y → VA.heap.size ≤ y) ∧ (∀ y, K3 y → ¬ One b6 y) ∧ (∀ y, K3 y → ¬ One b7 y) ∧ x2 w8 K3 h3 := ⟨_, grow_lt a3 Z.size, fun y f => f.elim (C y) fun e => Nat.le_trans am e.1, xw1 bd M, xw1 bf G, co⟩
    refine j7 gc rfl ?_
    have an := i
    refine wl (j8 (l' := h3.c) gc i rfl rfl rfl rfl OneC.h fun w9 i a5 dm => ?_)
    have n := n.gk a5 E.symm
    have A := A.ext a5 (yc L af)
    have g := g.ext a5 (yc V af)
    have o := Nat.le_trans o a5.size
    have t := t.ext a5 M
    have j := fun y f => Nat.lt_of_lt_of_le (j y f) a5.size
    have I := I.k8 a5 an zd
    have q := q.gj a5 bu
    have ag := n
    refine ky n rfl rfl rfl fun cp n S de => ?_
    have i := i.gk S E
    have A := A.ext S (yc L a0)
    have g := g.ext S (yc V a0)
    have o := Nat.le_trans o S.size
    have t := t.ext S G
    have j := fun y f => Nat.lt_of_lt_of_le (j y f) S.size
    have I := I.k8 S ag zd
    have q := q.gj S bc
    refine ql (kz (jb n rfl rfl (ql (vh rfl (fun Y => ?_) (fun Y => ?_)))))
    ·refine gl ?_
     refine j1 (jh i rfl rfl (gi call61 rfl (sall_calls cp t) fun dn cq bv => ?_))
     obtain ⟨B, rfl, cr, cs, N⟩ := bv
     have i := i.ga N
     have n := n.ga N
     have A := A.ga N
     have g := g.ga N
     have o := Nat.le_trans o N.size
     have t := t.ga N
     have j := fun y f => Nat.lt_of_lt_of_le (j y f) N.size
     have I := I.ext N fun _ _ => id
     have q := q.gb N
     refine gi call30 rfl (C0 cq cs) fun dp dq bw => ?_
     obtain ⟨q2, k2, rfl, bx, O⟩ := bw
     have i := i.ga O
     have n := n.ga O
     have A := A.ga O
     have g := g.ga O
     have o := Nat.le_trans o O.size
     have t := t.ga O
     have j := fun y f => Nat.lt_of_lt_of_le (j y f) O.size
     have I := I.ext O fun _ _ => id
     have q := q.gb O
     rw [cr] at bx ⊢
     refine ju rfl (yu rfl (wl (zw0 gc rfl rfl bx.sl (j7 gc rfl (wl (zw0 gc rfl rfl I.sl (j7 gc rfl ?_)))))))
     have ag := n
     refine ky n rfl rfl rfl fun dr n T df => ?_
     have i := i.gk T E
     have A := A.ext T (yc L a0)
     have g := g.ext T (yc V a0)
     have o := Nat.le_trans o T.size
     have t := t.ext T G
     have j := fun y f => Nat.lt_of_lt_of_le (j y f) T.size
     have I := I.k8 T ag zd
     have q := q.gj T bc
     refine gn ?_
     have e7 : decide (um (yr (Al h3.s)) = um s0) = decide (yr (Al h3.s) = s0) := by rw [decide_eq_decide]; exact ⟨fun e => Am e, fun e => by rw [e]⟩
     rw [e7] at n
     exact j4 (h3, decide (yr (Al h3.s) = s0), K3) rfl ⟨⟨t, j, fun y f => ⟨M y f, G y f, C y f⟩, (snap_hold b3 ao).2 Y, g, A, o⟩, i, n, q⟩
    ·refine j6 ?_
     rw [Y] at n
     exact j4 (h3, false, K3) rfl ⟨⟨t, j, fun y f => ⟨M y f, G y f, C y f⟩, (snap_hold b3 ao).1 (Option.not_isSome_iff_eq_none.1 (by rw [Y]; decide)), g, A, o⟩, i, n, q⟩
   ·have bz : s0 = [] := List.eq_nil_of_length_eq_zero zo
    have ax : h1.s = yq9 := by rw [u7.s, b9, ba]; rfl
    refine j6 ?_
    exact j4 (h1, true, K) rfl ⟨⟨t, j, fun y f => ⟨M y f, G y f, C y f⟩, (by rw [bz]; exact ⟨rfl, fun s e => (by cases e; exact ⟨ax, cl⟩)⟩), g, A, o⟩, i, n, q⟩
  rintro ⟨h2, ok, K2⟩ ct ⟨⟨t, j, C, hO, g, A, o⟩, i, n, q⟩
  try dsimp only
  dsimp only at t j C hO i n
  have c0 := A.own
  have M : ∀ y, K2 y → ¬ One b6 y := fun y f => (C y f).1
  have G : ∀ y, K2 y → ¬ One b7 y := fun y f => (C y f).2.1
  refine gl (km rfl ?_)
  have l6 := i.lt
  have l7 := n.lt
  have a3 := j
  have ds := o
  refine gi call62 rfl (all_calls ct g au zo) fun dt cu c1 => ?_
  obtain ⟨bA, qA, cA, cv, rfl, c2, bg, c3, du, bh, P⟩ := c1
  have i := i.ga P
  have n := n.ga P
  have A := A.ga P
  have g := g.ga P
  have o := Nat.le_trans o P.size
  have t := t.ga P
  have j := fun y f => Nat.lt_of_lt_of_le (j y f) P.size
  have q := q.gb P
  rw [ch] at c2 bg c3 bh
  have dv := P.size
  refine ql (gu ?_)
  refine c_iterV (opnC cu b6 b7 r0 (xu s0)) ((h2, ok, K2)) rfl call139 rfl AllA.size (fun w1 a9 => all1_iter w1 (ps := r0) (c2.ga a9) (by by_cases h0 : r0.length = 0; exact ⟨bg.1, .inl h0⟩; exact bg.ext a9 fun _ _ _ => id) (c3.ext a9 fun _ _ _ => id) (fun y bi e h0 => Nat.lt_of_lt_of_le (bh y bi e h0).2 a9.size) (fun y f => by have := V y f; have := a9.size; omega) zo (fun b hb => av b (by rw [aa]; exact List.mem_cons_of_mem _ hb))) (fun y f => by
 rcases f with ⟨bi, e, h⟩ | f
 ·have h1 := bh y bi e h
  refine ⟨h1.2, fun e2 => ?_⟩
  rcases e2 with e2 | e2 | e2
  ·omega
  ·omega
  ·have := a3 y e2; omega
 ·have h1 := V y f
  refine ⟨by omega, fun e2 => ?_⟩
  rcases e2 with e2 | e2 | e2
  ·omega
  ·omega
  ·have := (C y e2).2.2; omega) ⟨i, n, t, fun y f => ⟨j y f, (C y f).1, (C y f).2.1⟩, hO⟩ (fun l DD r k z W vs Xn a6 ay hJ hk A => ?_) (fun DD z W hJ hE b4 cw ai c4 => ?_) (fun DD k c z W hk hJ hE b4 cw ai c4 => ?_)
  ·have Q := a6.l
   obtain ⟨h3, az, K3⟩ := z
   obtain ⟨i, n, t, ae, hO⟩ := hJ
   dsimp only at i n t ae hO
   obtain ⟨qb, cb, rfl, a1, rfl⟩ := A
   have b0 : k < r0.length := hk
   obtain ⟨Bk, bj⟩ : ∃ Bk, Bk = r0.getD k [] := ⟨_, rfl⟩
   rw [← bj] at a1 ⊢
   have c5 : (r0.take (k + 1)).foldl sayF (xu s0) = sayF ((r0.take k).foldl sayF (xu s0)) Bk := by
    rw [Bv b0, bj, List.getD_eq_getElem?_getD, List.getElem?_eq_getElem b0]; rfl
   have cx : Bk.length < 1000000000 := av Bk (by rw [aa, bj, List.getD_eq_getElem?_getD, List.getElem?_eq_getElem b0]; exact List.mem_cons_of_mem _ (List.getElem_mem b0))
   have j : ∀ y, K3 y → y < W.heap.size := fun y f => (ae y f).1
   have M : ∀ y, K3 y → ¬ One b6 y := fun y f => (ae y f).2.1
   have G : ∀ y, K3 y → ¬ One b7 y := fun y f => (ae y f).2.2
   have dw := L d c0
   have cy : ¬ (((0 = b6 ∨ 0 = b7 ∨ K3 0) ∨ 0 = l) ∨ jd qb 0) := fun e => by
    rcases e with ((e | e | e) | e) | e
    ·omega
    ·omega
    ·rcases a6.sub 0 (.inr (.inr e)) with (e | e | e) | e
     ·omega
     ·omega
     ·have := (C 0 e).2.2; omega
     ·omega
    ·have := a6.lo.1; omega
    ·have := (ay.ne 0 e).1; omega
   have cz : Rt W := (hr.ext q hF0).ext a6.X fun e => by
    have h0 := L d c0
    rcases e with e | e | e
    ·omega
    ·omega
    ·have := (C 0 e).2.2; omega
   have d0 := i.neL Q
   have d1 := n.neL Q
   have q : Ext (fun x => ((x = b6 ∨ x = b7 ∨ K3 x) ∨ x = l) ∨ jd qb x) W W := Ext.refl _ _
   refine yd (zw1 gc rfl (zv (xw8 a6 Q fun d2 a2 c6 => ?_)))
   have i := i.extL Q a2
   have n := n.extL Q a2
   have t := t.ext a2 fun y f e => (a6.fp _ (.inr (.inr f))).1 e
   have a1 := a1.ext a2 fun y f e => (ay.ne y f).2.1 e
   have j := fun y f => Nat.lt_of_lt_of_le (j y f) a2.size
   have Q := c6
   have q := q.then (a2.mono fun x _ e => .inl (.inr e))
   refine ci_block (yx1 (yd (wli (.round _) rfl (st_ldb gc n rfl rfl (zv (Df (ci_cond rfl (fun Y => ?_) (fun Y => ?_))))))))
   ·refine yd ?_
    refine wli (.round _) rfl (st_ldB gc i rfl rfl (zw1 gc rfl ?_))
    obtain ⟨s, ap⟩ := Option.isSome_iff_exists.1 (hO.1.trans Y)
    have bk := (hO.2 s ap).1
    have bm := open_say hW aa k ap
    have dx : h3.hs.length ≤ 48000 := by have e := bm.2; rw [← bk, u7.s, List.length_map] at e; exact e
    have dy : h3.vs.length ≤ 128 := by have e := bm.1.few; rw [← bk, u7.s, List.length_map] at e; exact e
    have a3 := j
    have bd := i.lt
    have bf := n.lt
    have d3 := q.size
    refine wli (.round _) rfl (j2 call60 rfl (said_calls d2 t j (by rw [bk]; exact bm.1.rise) a1.sl cx zo zo (cz.ext q cy)) fun dz c7 c8 => ?_)
    obtain ⟨h4, rfl, d4, d5, U⟩ := c8
    have i := i.ga U
    have n := n.ga U
    have t := t.ga U
    have a1 := a1.ext U fun _ _ => id
    have j := fun y f => Nat.lt_of_lt_of_le (j y f) U.size
    have Q := yn Q U id
    have q := q.gb U
    obtain ⟨K4, j, c9, M, G, t⟩ : ∃ K4 : Nat → Prop, (∀ y, K4 y → y < c7.heap.size) ∧ (∀ y, K4 y → K3 y ∨ W.heap.size ≤ y) ∧ (∀ y, K4 y → ¬ One b6 y) ∧ (∀ y, K4 y → ¬ One b7 y) ∧ x2 c7 K4 h4 := ⟨_, grow_lt a3 U.size, fun y f => f.imp id fun e => Nat.le_trans d3 e.1, xw1 bd M, xw1 bf G, d5⟩
    refine zw1 gc rfl ?_
    have an := i
    refine wli (.round _) rfl (j8 (l' := h4.c) gc i rfl rfl rfl rfl OneC.h fun e0 i a7 dg => ?_)
    have n := n.gk a7 E.symm
    have t := t.ext a7 M
    have j := fun y f => Nat.lt_of_lt_of_le (j y f) a7.size
    have Q := yn Q a7 d0.symm
    have q := q.then (a7.mono fun x _ e => by have e : x = b6 := e; subst e; exact (.inl (.inl (.inl rfl))))
    have ag := n
    refine wli (.round _) rfl (xr gc n rfl rfl rfl fun e1 n a8 dh => ?_)
    have i := i.gk a8 E
    have t := t.ext a8 G
    have j := fun y f => Nat.lt_of_lt_of_le (j y f) a8.size
    have Q := yn Q a8 d1.symm
    have q := q.then (a8.mono fun x _ e => by have e : x = b7 := e; subst e; exact (.inl (.inl (.inr (.inl rfl)))))
    refine zv ?_
    exact jz (fin_nextV ((h4, (ux h3.s Bk).isSome, K4)) a6 ay Q q (fun y f => by
 rcases f with f | f | f
 ·exact .inl (.inl f)
 ·exact .inl (.inr (.inl f))
 ·exact (c9 y f).elim (fun e => .inl (.inr (.inr e))) fun e => .inr (.inr e)) (⟨i, n, t, fun y f => ⟨j y f, M y f, G y f⟩, by rw [c5]; exact hO.round d4 Y⟩))
   ·refine ci_skip ?_
    exact jz (fin_nextV ((h3, az, K3)) a6 ay Q q (fun y f => .inl f) (⟨i, n, t, fun y f => ⟨j y f, M y f, G y f⟩, by rw [c5]; exact hO.off Y⟩))
  ·obtain ⟨h3, az, K3⟩ := z
   obtain ⟨i, n, t, ae, hO⟩ := hJ
   dsimp only at i n t ae hO
   rw [List.take_length] at hO
   have j : ∀ y, K3 y → y < W.heap.size := fun y f => (ae y f).1
   have b1 : ∀ y, (y = b6 ∨ y = b7 ∨ K2 y) → VA.heap.size ≤ y := fun y e => by
    rcases e with e | e | e
    ·omega
    ·omega
    ·exact (C y e).2.2
   have bn : ∀ y, K3 y → VA.heap.size ≤ y := fun y f => (b4 y (.inr (.inr f))).elim (b1 y) fun e => by omega
   have d6 : ∀ y, K3 y → y ≠ DD := fun y f => c4 _ (.inr (.inr f))
   have g := g.ext hE fun y f e => by have := b1 y e; have := V y f; omega
   have A := A.ext hE fun y f e => by have := b1 y e; have := L y f; omega
   have q : Ext F w W := q.trans (hE.mono fun y f e => (show VA.heap.size ≤ y from b1 y e)) fun y f e => by have := b8.size; omega
   have e3 := uh ai
   refine jz (gy (gl (kz (jb n rfl rfl (ju rfl (vh rfl (fun Y => ?_) (fun Y => ?_)))))))
   ·have d7 : az = false := by simpa using Y
    have bo : r0.foldl sayF (xu s0) = none := Option.not_isSome_iff_eq_none.1 (by rw [hO.1, d7]; decide)
    rw [bo] at J
    refine jc rfl (gr (gq (Bz [DD] zp (fun x hx => by rw [List.mem_singleton.1 hx]; exact ai) [.pointer none, .int .i64 201] (fun ak p => ?_) (.inl rfl))))
    have R : ∀ x, x ∈ [DD] → x = DD := fun x hx => List.mem_singleton.1 hx
    refine ⟨⟨rfl, rfl, trivial⟩, none, F2, by rw [J]; rfl, by rw [J]; exact A.ext p fun y f e => by have := L y f; have := R y e; omega, q.trans p fun y f e => by have := R y e; omega, b5, fun _ => rfl, fun X e => by rw [J] at e; cases e⟩
   ·have d8 : az = true := by simpa using Y
    obtain ⟨s, ap⟩ := Option.isSome_iff_exists.1 (hO.1.trans d8)
    rw [ap] at J
    have ca := hO.2 s ap
    refine j6 (gy (km rfl (jh i rfl rfl (qa rfl ⟨⟨rfl, by decide⟩, ⟨rfl, by decide⟩, trivial⟩ (l' := (.pointer (some ⟨x, 0, none⟩) :: h3.c)) rfl ?_))))
    have d9 := j
    have e4 := q.size
    refine gw rfl fun aj ak aq ar p => ?_
    have cc : b6 ≠ aj := Nat.ne_of_lt (Nat.lt_of_lt_of_le i.lt aq)
    have cd : b7 ≠ aj := Nat.ne_of_lt (Nat.lt_of_lt_of_le n.lt aq)
    have di := Nat.le_trans q.size aq
    have i := i.ga p
    have n := n.ga p
    have ai := yn ai p id
    have g := g.ga p
    have A := A.ga p
    have t := t.ga p
    have j := fun y f => Nat.lt_of_lt_of_le (j y f) p.size
    have q := q.gb p
    have ar : gz ak aj 123 ((.pointer (some ⟨x, 0, none⟩) :: h3.c)) := ar
    refine ju rfl (gr (Bz [DD] zp (fun x hx => by rw [List.mem_singleton.1 hx]; exact ai) [.pointer (some ⟨aj, 0, none⟩), .int .i64 0] (fun ak p => ?_) (.inl rfl)))
    have R : ∀ x, x ∈ [DD] → x = DD := fun x hx => List.mem_singleton.1 hx
    have bp := p.size
    refine ⟨⟨rfl, rfl, trivial⟩, some ⟨aj, 0, none⟩, F2, by rw [J]; rfl, by rw [J]; exact A.ext p fun y f e => by have := L y f; have := R y e; omega, q.trans p fun y f e => by have := R y e; omega, b5, fun e => (by rw [J] at e; cases e), fun X e => ?_⟩
    rw [J] at e
    have e : some (⟨Wl.opened (uf D), s⟩ : Sd) = some X := e
    cases e
    have da := b8.size
    refine ⟨aj, x, H, K3, h3, rfl, ⟨ar.ext p fun e => by have := R _ e; omega, A.ext p fun y f e => by have := L y f; have := R y e; omega, g.ext p fun y f e => by have := V y f; have := R y e; omega, t.ext p fun y f e => d6 y f (R y e), ca.1, ca.2, fun y f => (br y f).2, fun y f => ⟨fun e => by have := bn y f; have := L y e; omega, fun e => by have := bn y f; have := V y e; omega⟩, ⟨fun e => by have := L _ e; omega, fun e => by have := V _ e; omega, fun e => by have := d9 _ e; omega⟩, fun y f => Nat.lt_of_lt_of_le (j y f) bp⟩, fun y f => ?_⟩
    rcases f with f | f | rfl
    ·exact (br y f).1
    ·exact Nat.le_trans da (bn y f)
    ·omega
  ·exact hJ.elim
theorem scommit_nil (w:World) (B:uk):gp prog 15 [.pointer none,B.v] w fun v w'=>v= .int .i64 1∧Ext No w w':=by
 refine gh func15 rfl rfl rfl rfl ?_
 have a:=Ext.refl No w
 refine kz (gw rfl fun h g i b d=> ?_)
 have a:=a.gb d
 have b:gz g h 25 (B.c):=b
 refine ju rfl (gl (km rfl (gi call54 rfl (goes_nil g) fun j k e=> ?_)))
 obtain⟨rfl,f⟩:=e
 have a:=a.gb f
 refine ju rfl (jc rfl (vi rfl (jc rfl (gr (gq (gv rfl rfl ?_))))))
 exact⟨rfl,a⟩
theorem ssweep_nil (w:World) {p:Option Addr} {n c:Nat}:gp prog 12 [.pointer none,.slice p n c] w fun v w'=>v= .tuple #[.int .i64 0,.int .i64 1]∧Ext No w w':=by
 refine gh func12 rfl rfl rfl rfl ?_
 have a:=Ext.refl No w
 refine jc rfl (c_scope (gl (km rfl (gi call54 rfl (goes_nil w) fun e f b=> ?_))))
 obtain⟨rfl,d⟩:=b
 have a:=a.gb d
 refine ju rfl (jc rfl (vi rfl (jc rfl (gr (gq (Bt (qk [_,_] ⟨rfl,rfl,trivial⟩ ?_)))))))
 exact⟨rfl,a⟩
theorem sformat_nil (w:World) (area:Int):gp prog 13 [.pointer none,.int .i64 area] w fun v w'=>v= .tuple #[.pointer none,.int .i64 1]∧Ext No w w':=by
 refine gh func13 rfl rfl rfl rfl ?_
 have a:=Ext.refl No w
 refine jc rfl (km rfl (gi call23 rfl (format_nil w area) fun d e b=> ?_))
 obtain⟨rfl,c⟩:=b
 have a:=a.gb c
 refine ju rfl (gl (jc rfl (vi rfl (jc rfl (gr (gq (qk [_,_] ⟨rfl,rfl,trivial⟩ ?_)))))))
 exact⟨rfl,a⟩
theorem Cj (w:World) (s:Str) (n:Nat) (_hn:n<100000):gp prog 68 [xf s,.int .i64 (n:Int)] w fun v w'=>v=xf (s.take n)∧w'=w:=by
 refine gh func68 rfl rfl rfl rfl ?_
 have a:=Ext.refl No w
 refine jc rfl (km rfl (wl (st_ss gc rfl 0 (min _ n) (cutBds _ _) ?_)))
 rw[strU_cut]
 refine ju rfl (gr (gv rfl rfl ?_))
 exact⟨rfl,rfl⟩
def zz4 (r:je):je:=⟨r.path.take 60,r.id⟩
def chgS (r:ud):ud:=⟨r.path.take 60,r.is,r.text.take 257⟩
def smL (o:jk):jk:={o with leaves:=o.leaves.take 40}
def smP (o:jk):jk:={smL o with parents:=o.parents.take 4}
def smO (o:jk):jk:={smP o with rows:=o.rows.take 8}
def smT (o:jk):jk:={smO o with text:=o.text.take 257}
def smN (o:jk):jk:={smT o with note:=o.note.take 300}
def xv5 (o:jk):jk:={smN o with leaves:=(o.leaves.take 40).map zz4,rows:=(o.rows.take 8).map chgS}
theorem smL_in {o:jk} (h:u5 o):u5 (smL o):=⟨h.tree,h.base,h.parents,fun r hr=>h.leaves r (List.mem_of_mem_take hr),h.rows,h.number,h.author⟩
theorem smP_in {o:jk} (h:u5 o):u5 (smP o):=⟨h.tree,h.base,fun r hr=>h.parents r (List.mem_of_mem_take hr),(smL_in h).leaves,h.rows,h.number,h.author⟩
theorem Bi {o:jk} (h:u5 o):u5 (smO o):=⟨h.tree,h.base,(smP_in h).parents,(smL_in h).leaves,fun r hr=>h.rows r (List.mem_of_mem_take hr),h.number,h.author⟩
theorem smT_in {o:jk} (h:u5 o):u5 (smT o):=⟨h.tree,h.base,(Bi h).parents,(Bi h).leaves,(Bi h).rows,h.number,h.author⟩
theorem zv8 {o:jk} (h:u5 o):u5 (smN o):=⟨h.tree,h.base,(Bi h).parents,(Bi h).leaves,(Bi h).rows,h.number,h.author⟩
structure ObjCap (x:jk) (a:vb):Prop where
  leaves:x.leaves.length≤a.lc
  parents:x.parents.length≤a.pc
  rows:x.rows.length≤a.rc
theorem objC_smP {x:jk} {a:vb} (h:u5 x):(jq (smL x) a).set (68+0) (.slice a.pp (x.parents.take 4).length a.pc)=jq (smP x) a:=Ai (smL_in h) 0 _
theorem objC_smO {x:jk} {a:vb} (h:u5 x):(jq (smP x) a).set (68+1) (.slice a.rp (x.rows.take 8).length a.rc)=jq (smO x) a:=Ai (smP_in h) 1 _
theorem objC_smN {x:jk} {a:vb} (h:u5 x):(jq (smT x) a).set (68+4) (xf (x.note.take 300))=jq (smN x) a:=Ai (smT_in h) 4 _
theorem objC_objS (x:jk) (a:vb):jq (xv5 x) a=jq (smN x) a:=by
 simp only[jq,xv5,smN,smT,smO,smP,smL,List.length_map]
theorem smO_l {w:World} {x:jk} {a:vb} (h:B3 w x a) (hx:u5 x):B3 w (smO x) a:=
 ⟨h.leaves.cut (fun r hr=>je.len (hx.leaves r hr).2) 40,h.parents.cut (fun r hr=>(by rw[gm];exact hx.parents r hr)) 4,h.rows.cut (fun r _=>r.len) 8⟩
theorem smO_leaves (x:jk):(smO x).leaves.length<1000000000:=Nat.lt_of_le_of_lt (by show(x.leaves.take 40).length≤40;rw[List.length_take];omega) (by decide:40<1000000000)
theorem smO_parents (x:jk):(smO x).parents.length<1000000000:=Nat.lt_of_le_of_lt (by show(x.parents.take 4).length≤8;rw[List.length_take];omega) (by decide:8<1000000000)
theorem smO_rows (x:jk):(smO x).rows.length<1000000000:=Nat.lt_of_le_of_lt (by show(x.rows.take 8).length≤8;rw[List.length_take];omega) (by decide:8<1000000000)
theorem leaf_cutS {L:List je} (hL:∀r∈L,r.id.length=32) {i:Nat} (hi:i<L.length):
  ((upto zz4 i L).flatMap je.cells).set (i*33+0) (xf ((L[i]).path.take 60))=(upto zz4 (i+1) L).flatMap je.cells:=by
 have a:i<(upto zz4 i L).length:=by rw[yj0];exact hi
 have b:∀r∈upto zz4 i L,(je.cells r).length=33:=upto_mem (fun r c=>je.len (hL r c)) (fun r h=>h)
 rw[Go.Vc.yx4 b a zd (y:=zz4 L[i]) (by rw[upto_get hi];rfl),upto_step hi]
theorem chg_cutS {L:List ud} {i:Nat} (hi:i<L.length):
  (((upto chgS i L).flatMap ud.cells).set (i*3+0) (xf ((L[i]).path.take 60))).set (i*3+2) (xf ((L[i]).text.take 257))=(upto chgS (i+1) L).flatMap ud.cells:=by
 have a:i<(upto chgS i L).length:=by rw[yj0];exact hi
 rw[Go.Vc.yx4 (fun r _=>r.len) a zd (y:=⟨(L[i]).path.take 60,(L[i]).is,(L[i]).text⟩) (by rw[upto_get hi];rfl),
  Go.Vc.yx4 (fun r _=>r.len) (by rw[List.length_set];exact a) zd (y:=chgS L[i]) (by rw[List.getElem_set_self];rfl),List.set_set,upto_step hi]
theorem Own.row {α:Type} {w:World} {p:Option Addr} {c T sz:Nat} {g:α→α} {f:α→List Value} {i:Nat} {l:List α} (h:Own w p l.length c T sz ((upto g i l).flatMap f)) (hn:∀x∈upto g i l,(f x).length=sz) {b:Nat} (hp:p=some ⟨b,0,none⟩) (hi:i<l.length):Seg w b (i*sz) (f l[i]):=by
 have a:=h.sl
 have d:Sl w p (upto g i l).length sz ((upto g i l).flatMap f):=by rw[yj0];exact a
 have j:i<(upto g i l).length:=by rw[yj0];exact hi
 obtain⟨n,k,e,m⟩:=d.qv hn zo
 rw[hp] at e
 cases e
 have:=m i j
 rw[upto_get hi,Nat.zero_add] at this
 exact this
theorem lsmall_calls (w:World) {x:jk} {a:vb} (hx:u5 x) (hxl:B3 w x a) (hcap:ObjCap x a):
  gp prog 67 [.agg (jq x a).toArray] w fun v w'=>∃a',v= .agg (jq (xv5 x) a').toArray∧u4 w w' (xv5 x) a'∧Ext No w w':=by
 refine gh func67 rfl rfl rfl rfl ?_
 have g:=Ext.refl No w
 refine kz (gw rfl fun J w1 bb b bc=> ?_)
 have O:=Nat.le_trans g.size bb
 have g:=g.gb bc
 have b:gz w1 J 37 (jq x a):=b
 refine gw rfl fun b2 w2 au c av=> ?_
 have o:J≠b2:=Nat.ne_of_lt (Nat.lt_of_lt_of_le b.lt au)
 have bd:=Nat.le_trans g.size au
 have b:=b.ga av
 have g:=g.gb av
 refine ql (gl ?_)
 refine c_drawL gc rfl [] 24 [11,12,13,20,21,22] [(0,true),(1,true),(2,true),(3,true),(4,true),(5,true),(6,true),(7,true),(8,true),(9,true),(10,true),(14,true),(15,true),(16,true),(17,true),(18,true),(19,true),(23,true)] [41,42,43,50,51,52,24,25,26,27,28,29] (No) zk rfl fun w3 ae c3=> ?_
 have n:=b
 have b:=b.ga ae
 have c:=c.ga ae
 have g:=g.gb ae
 refine gx gc 1 rfl (j5 gc rfl rfl (fun w' k=>((n.ga k).ki.obj hx).leaves) ?_)
 refine gx gc 1 rfl (j5 gc rfl rfl (fun w' k=>((n.ga k).ki.obj hx).leaves) ?_)
 refine gx gc 2 rfl (zq4 gc rfl rfl 0 (min x.leaves.length 40) a.lc 33 rfl (.inr ⟨rfl,rfl⟩) (.inl (congrArg some (minI _ _))) (.inr ⟨rfl,rfl⟩) (Nat.zero_le _) (by have:=hcap.leaves;omega) (Nat.le_refl _) ?_)
 rw[kc,Nat.sub_zero,Nat.sub_zero,Bd]
 refine gx gc 1 rfl (j5 gc rfl rfl (fun w' k=>((n.ga k).ki.obj hx).parents) ?_)
 refine gx gc 1 rfl (j5 gc rfl rfl (fun w' k=>((n.ga k).ki.obj hx).parents) ?_)
 refine gx gc 2 rfl (j5 gc rfl rfl (fun w' k=>((n.ga k).ki.obj hx).rows) ?_)
 refine gx gc 2 rfl (j5 gc rfl rfl (fun w' k=>((n.ga k).ki.obj hx).rows) ?_)
 refine gx gc 1 rfl (jj (wbf gc (i:=11) rfl rfl rfl rfl rfl zk (wbf gc (i:=12) rfl rfl rfl rfl rfl zk ?_)))
 refine wb_sl gc (i:=13) rfl rfl rfl 0 (min x.parents.length 4) a.pc 32 rfl (.inr ⟨rfl,rfl⟩) (.inl (congrArg some (minI _ _))) (.inr ⟨rfl,rfl⟩) (Nat.zero_le _) (by have:=hcap.parents;omega) (Nat.le_refl _) zk ?_
 rw[kc,Nat.sub_zero,Nat.sub_zero,Bd]
 refine wbf gc (i:=20) rfl rfl rfl rfl rfl zk (wbf gc (i:=21) rfl rfl rfl rfl rfl zk ?_)
 refine wb_sl gc (i:=22) rfl rfl rfl 0 (min x.rows.length 8) a.rc 3 rfl (.inr ⟨rfl,rfl⟩) (.inl (congrArg some (minI _ _))) (.inr ⟨rfl,rfl⟩) (Nat.zero_le _) (by have:=hcap.rows;omega) (Nat.le_refl _) zk ?_
 rw[kc,Nat.sub_zero,Nat.sub_zero,Bd]
 refine wb rfl (xr gc b rfl rfl rfl fun w4 b aw c4=> ?_)
 have c:=c.gk aw o.symm
 have g:=g.gj aw O
 have b:gz w4 J 37 (jq (smL x) a):=b
 refine wb rfl (D5 gc rfl rfl rfl ?_)
 refine wb rfl (qz gc b rfl rfl (by rw[gt (smL_in hx)];decide) fun w5 b ax c5=> ?_)
 have c:=c.gk ax o.symm
 have g:=g.gj ax O
 have b:gz w5 J 37 (jq (smP x) a):=(by have h:gz _ J _ ((jq (smL x) a).set (68+0) (.slice a.pp (x.parents.take 4).length a.pc)):=b;rw[objC_smP hx] at h;exact h)
 refine wb rfl (D5 gc rfl rfl rfl (wb rfl (D5 gc rfl rfl rfl ?_)))
 refine wb rfl (qz gc b rfl rfl (by rw[gt (smP_in hx)];decide) fun w6 b ay c6=> ?_)
 have c:=c.gk ay o.symm
 have g:=g.gj ay O
 have b:gz w6 J 37 (jq (smO x) a):=(by have h:gz _ J _ ((jq (smP x) a).set (68+1) (.slice a.rp (x.rows.take 8).length a.rc)):=b;rw[objC_smO hx] at h;exact h)
 refine j9 (gy (kz (jh b rfl (gt (Bi hx)) ?_)))
 have af:=g
 refine gi call122 rfl (copy6_calls w6 (Bi hx) (smO_l (hxl.ga g) hx) (smO_leaves x) (smO_parents x) (smO_rows x)) fun v7 w7 bf=> ?_
 obtain⟨⟨T,R,U,V,W,S⟩,rfl,hN,ag⟩:=bf
 have b:=b.ga ag
 have c:=c.ga ag
 have g:=g.gb ag
 have az:=fun y hy=>Nat.le_trans af.size (hN.nl y hy)
 have bg:=fun y hy=>Nat.le_trans af.size (hN.np y hy)
 have ah:=fun y hy=>Nat.le_trans af.size (hN.nr y hy)
 have e:Own w7 T (x.leaves.take 40).length R 148 33 ((upto zz4 0 (x.leaves.take 40)).flatMap je.cells):=(upto_zero zz4 _).symm▸hN.ol
 have d:Own w7 U (x.parents.take 4).length V 30 32 ((x.parents.take 4).flatMap ge):=hN.op
 have f:Own w7 W (x.rows.take 8).length S 150 3 ((upto chgS 0 (x.rows.take 8)).flatMap ud.cells):=(upto_zero chgS _).symm▸hN.or
 have m:=b
 refine wl (j8 (l':=jq (smO x) ⟨T,R,U,V,W,S⟩) gc b rfl rfl (gt (Bi hx)) (by rw[gt (Bi hx),gt (Bi hx)]) OneC.h fun w8 b X c7=> ?_)
 have c:=c.gk X o.symm
 have e:=e.k8 X m zd
 have d:=d.k8 X m zd
 have f:=f.k8 X m zd
 have g:=g.gj X O
 refine ql (gl (jt rfl 7 [(0,true),(1,true),(3,true),(4,true),(2,false),(6,true),(5,false)] [7,8,9] (No) zk fun w9 M c8=> ?_))
 have n:=b
 have b:=b.ga M
 have c:=c.ga M
 have e:=e.ext M fun _ _=>id
 have d:=d.ext M fun _ _=>id
 have f:=f.ext M fun _ _=>id
 have g:=g.gb M
 have K:Ext (No) _ w9:=M.no
 refine gx gc 1 rfl (j5 gc rfl rfl (fun w' k=>((n.ga k).ki.obj (Bi hx)).text) ?_)
 refine gx gc 1 rfl (j5 gc rfl rfl (fun w' k=>((n.ga k).ki.obj (Bi hx)).note) ?_)
 refine jg rfl (j2 call68 rfl (Cj w9 _ 257 zd) fun c9 bh a7=>⟨(by obtain⟨rfl,rfl⟩:=a7;exact K),?_⟩)
 obtain⟨rfl,rfl⟩:=a7
 have K:=K
 refine gx gc 1 rfl (jg rfl (j2 call68 rfl (Cj bh _ 300 zd) fun ca cb a8=>⟨(by obtain⟨rfl,rfl⟩:=a8;exact K),?_⟩))
 obtain⟨rfl,rfl⟩:=a8
 have K:=K
 refine jj ?_
 have m:=b
 refine wb rfl (xr gc b rfl rfl rfl fun bi b E bs=> ?_)
 have c:=c.gk E o.symm
 have e:=e.k8 E m zd
 have d:=d.k8 E m zd
 have f:=f.k8 E m zd
 have g:=g.gj E O
 have b:gz bi J 37 (jq (smT x) ⟨T,R,U,V,W,S⟩):=b
 refine wb rfl (D5 gc rfl rfl rfl ?_)
 have m:=b
 refine wb rfl (qz gc b rfl rfl (by rw[gt (smT_in hx)];decide) fun bj b F bt=> ?_)
 have c:=c.gk F o.symm
 have e:=e.k8 F m zd
 have d:=d.k8 F m zd
 have f:=f.k8 F m zd
 have g:=g.gj F O
 have b:gz bj J 37 (jq (smN x) ⟨T,R,U,V,W,S⟩):=(by have h:gz _ J _ ((jq (smT x) ⟨T,R,U,V,W,S⟩).set (68+4) (xf (x.note.take 300))):=b;rw[objC_smN hx] at h;exact h)
 refine j9 (gy (gl (km rfl (j0 rfl (b.ki.obj (zv8 hx)).leaves (ju rfl (gu ?_))))))
 refine jn (α:=Nat) [1,2,45,46] rfl (fun z=>[(47,.int .i64 (z:Int))]) (fun z u=>(z≤(x.leaves.take 40).length∧Own u T (x.leaves.take 40).length R 148 33 ((upto zz4 z (x.leaves.take 40)).flatMap je.cells)∧Own u U (x.parents.take 4).length V 30 32 ((x.parents.take 4).flatMap ge)∧Own u W (x.rows.take 8).length S 150 3 ((upto chgS 0 (x.rows.take 8)).flatMap ud.cells))∧gz u J 37 (jq (smN x) ⟨T,R,U,V,W,S⟩)∧gz u b2 37 (cellsOf ti37.zero)∧Ext No w u) (fun z u=>(x.leaves.take 40).length-z) (0) rfl ⟨⟨Nat.zero_le _,e,d,f⟩,b,c,g⟩ ?_
 rintro i cc ⟨⟨hi,e,d,f⟩,b,c,g⟩
 refine jc rfl (gl (jp rfl (fun hc=> ?_) (fun hc=> ?_)))
 ·have bk:(x.leaves.take 40).length≤40:=by rw[List.length_take];omega
  have hi:i<(x.leaves.take 40).length:=(by have h:i<(smN x).leaves.length:=zo;exact h)
  have Y:∀r∈(x.leaves.take 40),r.id.length=32:=fun r hr=>(hx.leaves r (List.mem_of_mem_take hr)).2
  have ai:=je.len (Y _ (List.getElem_mem hi))
  obtain⟨D,L,hp,l,hL,P,aj,ak⟩:=e.opened zo
  have Z:=Own.row e (upto_mem (fun r hr=>je.len (Y r hr)) (fun r h=>h)) hp hi
  subst hp
  have Q:J≠D:=b.ne l zd
  have a4:b2≠D:=c.ne l zd
  refine xy (gu (km rfl (ka rfl 33 rfl i rfl hi (0+i*33) rfl ?_)))
  rw[Nat.zero_add]
  refine jo rfl Z ai ?_
  have b0:=l.lt
  refine gw rfl fun b4 cd al a5 s=> ?_
  have am:J≠b4:=Nat.ne_of_lt (Nat.lt_of_lt_of_le b.lt al)
  have an:b2≠b4:=Nat.ne_of_lt (Nat.lt_of_lt_of_le c.lt al)
  have bm:=Nat.le_trans g.size al
  have b:=b.ga s
  have c:=c.ga s
  have d:=d.ext s fun _ _=>id
  have f:=f.ext s fun _ _=>id
  have l:=l.ga s
  have g:=g.gb s
  have b3:D≠b4:=by omega
  refine j7 gc rfl ?_
  have a9:=a5
  refine wl (j8 (l':=je.cells (x.leaves.take 40)[i]) gc a5 rfl rfl ai (by rw[ai];rfl) OneC.h fun ce a5 t bu=> ?_)
  have b:=b.gk t am
  have c:=c.gk t an
  have d:=d.k8 t a9 zd
  have f:=f.k8 t a9 zd
  have l:=l.gk t b3
  have g:=g.gj t bm
  refine ql (jt rfl 8 [(0,true),(1,true),(2,true),(3,true),(4,true),(5,false),(6,true),(7,true)] [8] (No) zk fun b5 p bv=> ?_)
  have n:=b
  have bn:=a5
  have b:=b.ga p
  have c:=c.ga p
  have d:=d.ext p fun _ _=>id
  have f:=f.ext p fun _ _=>id
  have l:=l.ga p
  have g:=g.gb p
  have K:Ext (No) _ b5:=p.no
  refine gx gc 1 rfl (j5 gc rfl rfl (fun w' k=>((n.ga k).ki.obj (zv8 hx)).leaves) ?_)
  refine gx gc 2 rfl (j5 gc rfl rfl (fun w' k=>((bn.ga k).cell rfl)) ?_)
  refine jg rfl (j2 call68 rfl (Cj b5 _ 60 zd) fun cf cg aa=>⟨(by obtain⟨rfl,rfl⟩:=aa;exact K),?_⟩)
  obtain⟨rfl,rfl⟩:=aa
  refine qs gc rfl rfl 33 rfl i rfl hi (0+i*33) rfl ?_
  rw[Nat.zero_add]
  refine gx gc 1 rfl (jj ?_)
  have G:=l
  have a0:=g
  refine wb rfl (qz gc l rfl rfl (by rw[hL];have:=Nat.mul_le_mul_right 33 P;omega) fun bo l H bw=> ?_)
  have b:=b.gk H Q
  have c:=c.gk H a4
  have g:=a0.gj H (az D rfl)
  have d:=d.k8 H G zd
  have f:=f.k8 H G zd
  have e:Own bo (some ⟨D,0,none⟩) (x.leaves.take 40).length R 148 33 ((upto zz4 (i+1) (x.leaves.take 40)).flatMap je.cells):=by
   rw[←leaf_cutS Y hi];exact Own.setB hL P aj ak l
  refine j9 (B4 rfl ?_)
  rw[IntWalk.i64_in _ zo]
  refine gn ?_
  exact jm (i+1) rfl ⟨⟨hi,e,d,f⟩,b,c,g⟩ zf
 have b7:(x.leaves.take 40).length≤i:=(by have h:(smN x).leaves.length≤i:=zo;exact h)
 refine Bg (gl (km rfl (j0 rfl (b.ki.obj (zv8 hx)).rows (ju rfl (gu ?_)))))
 refine jn (α:=Nat) [1,2,63,64] rfl (fun z=>[(65,.int .i64 (z:Int))]) (fun z u=>(z≤(x.rows.take 8).length∧Own u T (x.leaves.take 40).length R 148 33 ((upto zz4 i (x.leaves.take 40)).flatMap je.cells)∧Own u U (x.parents.take 4).length V 30 32 ((x.parents.take 4).flatMap ge)∧Own u W (x.rows.take 8).length S 150 3 ((upto chgS z (x.rows.take 8)).flatMap ud.cells))∧gz u J 37 (jq (smN x) ⟨T,R,U,V,W,S⟩)∧gz u b2 37 (cellsOf ti37.zero)∧Ext No w u) (fun z u=>(x.rows.take 8).length-z) (0) rfl ⟨⟨Nat.zero_le _,e,d,f⟩,b,c,g⟩ ?_
 rintro j ch ⟨⟨hj,e,d,f⟩,b,c,g⟩
 refine jc rfl (gl (jp rfl (fun hc=> ?_) (fun hc=> ?_)))
 ·have bk:(x.rows.take 8).length≤8:=by rw[List.length_take];omega
  have hj:j<(x.rows.take 8).length:=(by have h:j<(smN x).rows.length:=zo;exact h)
  obtain⟨D,L,hp,l,hL,P,aj,ak⟩:=f.opened zo
  have Z:=Own.row f (fun r _=>r.len) hp hj
  subst hp
  have Q:J≠D:=b.ne l zd
  have a4:b2≠D:=c.ne l zd
  refine xy (gu (km rfl (ka rfl 3 rfl j rfl hj (0+j*3) rfl ?_)))
  rw[Nat.zero_add]
  refine jo rfl Z rfl ?_
  have b0:=l.lt
  refine gw rfl fun b6 ci ao a6 A=> ?_
  have ap:J≠b6:=Nat.ne_of_lt (Nat.lt_of_lt_of_le b.lt ao)
  have aq:b2≠b6:=Nat.ne_of_lt (Nat.lt_of_lt_of_le c.lt ao)
  have bp:=Nat.le_trans g.size ao
  have b:=b.ga A
  have c:=c.ga A
  have e:=e.ext A fun _ _=>id
  have d:=d.ext A fun _ _=>id
  have l:=l.ga A
  have g:=g.gb A
  have a1:D≠b6:=by omega
  refine j7 gc rfl ?_
  have ab:=a6
  refine wl (j8 (l':=ud.cells (x.rows.take 8)[j]) gc a6 rfl rfl rfl rfl OneC.h fun cj a6 B bx=> ?_)
  have b:=b.gk B ap
  have c:=c.gk B aq
  have e:=e.k8 B ab zd
  have d:=d.k8 B ab zd
  have l:=l.gk B a1
  have g:=g.gj B bp
  refine ql ?_
  refine jt rfl 17 [(0,true),(1,true),(2,true),(3,true),(4,true),(5,true),(6,true),(7,true),(8,true),(9,true),(11,true),(12,true),(10,false),(13,false),(14,true),(15,true),(16,false)] [17,18,19] (One D) zk fun b8 q bz=> ?_
  have n:=b
  have b9:=a6
  have b:=b.ga q
  have c:=c.ga q
  have e:=e.ext q fun _ _=>id
  have d:=d.ext q fun _ _=>id
  have l:=l.ga q
  have g:=g.gb q
  have K:Ext (One D) _ b8:=q.no
  refine gx gc 2 rfl (j5 gc rfl rfl (fun w' k=>((n.ext (show Ext (One D) _ w' from k) Q).ki.obj (zv8 hx)).rows) ?_)
  refine gx gc 3 rfl (j5 gc rfl rfl (fun w' k=>((n.ext (show Ext (One D) _ w' from k) Q).ki.obj (zv8 hx)).rows) ?_)
  refine gx gc 2 rfl (j5 gc rfl rfl (fun w' k=>((b9.ext (show Ext (One D) _ w' from k) a1.symm).cell rfl)) ?_)
  refine gx gc 1 rfl (j5 gc rfl rfl (fun w' k=>((b9.ext (show Ext (One D) _ w' from k) a1.symm).cell rfl)) ?_)
  refine jg rfl (j2 call68 rfl (Cj b8 _ 60 zd) fun ck bq ac=>⟨(by obtain⟨rfl,rfl⟩:=ac;exact K),?_⟩)
  obtain⟨rfl,rfl⟩:=ac
  have K:=K
  refine jg rfl (j2 call68 rfl (Cj bq _ 257 zd) fun cl cm ad=>⟨(by obtain⟨rfl,rfl⟩:=ad;exact K),?_⟩)
  obtain⟨rfl,rfl⟩:=ad
  have K:=K
  refine qs gc rfl rfl 3 rfl j rfl hj (0+j*3) rfl ?_
  rw[Nat.zero_add]
  refine gx gc 1 rfl ?_
  have G:=l
  have a0:=g
  refine jg rfl (qz gc l rfl rfl (by rw[hL];have:=Nat.mul_le_mul_right 3 P;omega) fun cn a2 C c0=>⟨K.then C,?_⟩)
  have b:=b.gk C Q
  have c:=c.gk C a4
  have g:=a0.gj C (ah D rfl)
  have d:=d.k8 C G zd
  have e:=e.k8 C G zd
  refine jj (wb rfl (st_ix gc rfl 3 rfl j rfl hj (0+j*3) rfl ?_))
  rw[Nat.zero_add]
  refine wb rfl (D5 gc rfl rfl rfl ?_)
  have a0:=g
  refine wb rfl (qz gc a2 rfl rfl (by show j*3+2<_;rw[List.length_set,hL];have:=Nat.mul_le_mul_right 3 P;omega) fun br ba I c1=> ?_)
  have b:=b.gk I Q
  have c:=c.gk I a4
  have g:=a0.gj I (ah D rfl)
  have d:=d.k8 I a2 zd
  have e:=e.k8 I a2 zd
  have f:Own br (some ⟨D,0,none⟩) (x.rows.take 8).length S 150 3 ((upto chgS (j+1) (x.rows.take 8)).flatMap ud.cells):=by
   rw[←chg_cutS hj];exact Own.setB (by rw[List.length_set,hL]) P aj (by rw[List.take_set,ak]) ba
  refine j9 (B4 rfl ?_)
  rw[IntWalk.i64_in _ zo]
  refine gn ?_
  exact jm (j+1) rfl ⟨⟨hj,e,d,f⟩,b,c,g⟩ zf
 have ar:(x.rows.take 8).length≤j:=(by have h:(smN x).rows.length≤j:=zo;exact h)
 refine Bg (kz (jh b rfl (gt (zv8 hx)) ?_))
 have a3:=c
 refine wl (j8 (l':=jq (smN x) ⟨T,R,U,V,W,S⟩) gc c rfl rfl (gt (zv8 hx)) (by rw[gt (zv8 hx)];rfl) OneC.h fun co c N c2=> ?_)
 have e:=e.k8 N a3 zd
 have d:=d.k8 N a3 zd
 have f:=f.k8 N a3 zd
 have g:=g.gj N bd
 refine ql (gr (qk [_] ⟨⟨b2,0,rfl,qu gc rfl rfl c.ki (gt (zv8 hx))⟩,trivial⟩ ?_))
 rw[upto_all b7] at e
 rw[upto_all ar] at f
 exact⟨⟨T,R,U,V,W,S⟩,by rw[objC_objS];rfl,⟨by rw[show(xv5 x).leaves.length=(x.leaves.take 40).length from List.length_map ..];exact e,d,by rw[show(xv5 x).rows.length=(x.rows.take 8).length from List.length_map ..];exact f,az,bg,ah⟩,g⟩
theorem _root_.Go.Vc.Sl.cutB {w:World} {p:Option Addr} {l:List UInt8} (h:x3 w p l) (k:Nat):x3 w p (l.take k):=by
 have a:=Sl.slice h 0 (min l.length k) (min l.length k) (Nat.zero_le _) (Nat.le_refl _) zo
 have e:((ge l).drop (0*1)).take ((min l.length k-0)*1)=ge (l.take k):=by
  rw[Nat.zero_mul,List.drop_zero,Nat.sub_zero,Nat.mul_one,ge,ge,List.map_take,List.take_eq_take_iff,List.length_map]
  omega
 rw[e,kc,Nat.sub_zero,Bd] at a
 exact a
theorem objS_ok {o:jk} (h:u5 o):Co (xv5 o):=by
 refine⟨⟨h.tree,h.base,(Bi h).parents,fun r a=> ?_,fun r a=> ?_,h.number,h.author⟩,⟨?_,?_,?_,fun r a=> ?_,fun r a=> ?_⟩⟩
 ·obtain⟨x,b,rfl⟩:=List.mem_map.1 a
  have:=h.leaves x (List.mem_of_mem_take b)
  exact⟨by rw[show(zz4 x).path.length=_ from List.length_take];dsimp only[maxLen];omega,this.2⟩
 ·obtain⟨x,b,rfl⟩:=List.mem_map.1 a
  exact⟨by rw[show(chgS x).path.length=_ from List.length_take];dsimp only[maxLen];omega,by rw[show(chgS x).text.length=_ from List.length_take];dsimp only[maxLen];omega⟩
 ·show(List.map _ _).length<_;rw[List.length_map,List.length_take];omega
 ·rw[show(xv5 o).parents.length=_ from List.length_take];omega
 ·show(List.map _ _).length<_;rw[List.length_map,List.length_take];omega
 ·obtain⟨x,_,rfl⟩:=List.mem_map.1 a
  rw[show(zz4 x).path.length=_ from List.length_take];omega
 obtain⟨x,_,rfl⟩:=List.mem_map.1 a
 rw[show(chgS x).path.length=_ from List.length_take];omega
def setS (s:yk):yk:=⟨s.name.take 40,s.was,s.is,s.old.take 4097,s.new.take 4097⟩
def batS (b:Bx):Bx:=⟨(b.objs.take 12).map xv5,(b.sets.take 129).map setS⟩
structure ArgO (w:World) (x:yq4):Prop where
  i:u5 x.1
  l:B3 w x.1 x.2
  c:ObjCap x.1 x.2
structure ArgS (w:World) (x:C9):Prop where
  old:x3 w x.2.op x.1.old
  new:x3 w x.2.np x.1.new
  co:x.1.old.length≤x.2.oc
  cn:x.1.new.length≤x.2.nc
structure BatArg (w:World) (B:uk):Prop where
  os:Sl w B.op B.os.length 73 (B.os.flatMap Aq)
  ss:Sl w B.sp B.ss.length 5 (B.ss.flatMap xt)
  o:∀x∈B.os,ArgO w x
  s:∀x∈B.ss,ArgS w x
  co:B.os.length≤B.oc
  cs:B.ss.length≤B.sc
theorem BatArg.ga {w w':World} {B:uk} (h:BatArg w B) (hE:Ext No w w'):BatArg w' B:=⟨h.os.ga hE,h.ss.ga hE,fun x hx=>⟨(h.o x hx).i,(h.o x hx).l.ga hE,(h.o x hx).c⟩,fun x hx=>⟨(h.s x hx).old.ga hE,(h.s x hx).new.ga hE,(h.s x hx).co,(h.s x hx).cn⟩,h.co,h.cs⟩
theorem lbatch_calls (w:World) {B:uk} (hB:BatArg w B):
  gp prog 16 [B.v] w fun v w'=>∃B':uk,v=B'.v∧B'.d=batS B.d∧Ae w w' B'∧Ext No w w':=by
 obtain⟨op,oc,os,sp,sc,ss⟩:=B
 have hco:=hB.co
 have hcs:=hB.cs
 dsimp only at hco hcs
 refine gh func16 rfl rfl rfl rfl ?_
 have hX:=Ext.refl No w
 refine kz (gw rfl fun b1 w1 hn1 hb1 hE1=> ?_)
 have fr1:=Nat.le_trans hX.size hn1
 have hX:=hX.gb hE1
 have hb1:gz w1 b1 25 ([.slice op os.length oc,.slice sp ss.length sc]):=hb1
 refine gw rfl fun b2 w2 hn2 hb2 hE2=> ?_
 have ne1_2:b1≠b2:=Nat.ne_of_lt (Nat.lt_of_lt_of_le hb1.lt hn2)
 have fr2:=Nat.le_trans hX.size hn2
 have hb1:=hb1.ga hE2
 have hX:=hX.gb hE2
 have hb2:gz w2 b2 25 ([.slice none 0 0,.slice none 0 0]):=hb2
 refine ql (gl (km rfl (jb hb1 rfl rfl (j7 gc rfl (jb hb1 rfl rfl (j7 gc rfl ?_))))))
 refine wl (Ah gc rfl 0 (min os.length 12) oc 73 rfl (.inr ⟨rfl,rfl⟩) (.inl (congrArg some (minI _ _))) (.inr ⟨rfl,rfl⟩) (Nat.zero_le _) (by have:=hco;omega) (Nat.le_refl _) ?_)
 rw[kc,Nat.sub_zero,Nat.sub_zero,Bd]
 refine ju rfl (gu ?_)
 refine jn (α:=Nat×Option Addr×Nat×List yq4) [1,2,13,14] rfl (fun z=>[(15,.int .i64 (z.1:Int))]) (fun z u=>(z.1≤(os.take 12).length∧ku w u z.2.1 z.2.2.2.length z.2.2.1 37 73 (z.2.2.2.flatMap Aq)∧z.2.2.2.map Prod.fst=((os.take 12).take z.1).map (fun x=>xv5 x.1)∧∀x∈z.2.2.2,Co x.1∧u4 w u x.1 x.2)∧gz u b1 25 ([.slice op os.length oc,.slice sp ss.length sc])∧gz u b2 25 ([.slice z.2.1 z.2.2.2.length z.2.2.1,.slice none 0 0])∧Ext No w u) (fun z u=>(os.take 12).length-z.1) (0,none,0,[]) rfl ⟨⟨Nat.zero_le _,ku.nil _ _ _ _,rfl,fun _ e=>(by cases e)⟩,hb1,hb2,hX⟩ ?_
 rintro⟨i,q,k,gs⟩ w3 ⟨⟨hio,hq,hgs,hall⟩,hb1,hb2,hX⟩
 try dsimp only
 dsimp only at hio hq hgs hall hb2
 refine jc rfl (gl (jp rfl (fun hc=> ?_) (fun hc=> ?_)))
 ·have h12:(os.take 12).length≤12:=by rw[List.length_take];omega
  have hi2:i<(os.take 12).length:=by omega
  have hgl:gs.length=i:=by
   have e:=congrArg List.length hgs
   rw[List.length_map,List.length_map,List.length_take] at e;omega
  have hmi:(os.take 12)[i]∈os:=List.mem_of_mem_take (List.getElem_mem hi2)
  have hoi:=hB.o _ hmi
  obtain⟨qb,qo,hp,hsq⟩:=(hB.os.cut (fun x hx=>gt (hB.o x hx).i) 12).qv (fun x hx=>gt (hB.o x (List.mem_of_mem_take hx)).i) zn
  dsimp only at hp hsq
  rw[hp]
  refine xy (gu (kz (ka rfl 73 rfl i rfl hi2 (qo+i*73) rfl (jo rfl ((hsq i hi2).ga hX) (gt hoi.i) ?_))))
  have hqb:=hq
  refine gw rfl fun b4 w4 hn4 hb4 hE4=> ?_
  have ne1_4:b1≠b4:=Nat.ne_of_lt (Nat.lt_of_lt_of_le hb1.lt hn4)
  have ne2_4:b2≠b4:=Nat.ne_of_lt (Nat.lt_of_lt_of_le hb2.lt hn4)
  have fr4:=Nat.le_trans hX.size hn4
  have hb1:=hb1.ga hE4
  have hb2:=hb2.ga hE4
  have hq:=hq.ga hE4
  have hall:=fun x hx=>And.intro (hall x hx).1 ((hall x hx).2.ga hE4)
  have hX:=hX.gb hE4
  have n4q:¬jd q b4:=fun hy=>Nat.lt_irrefl _ (Nat.lt_of_lt_of_le (hqb.own.lt hy) hn4)
  have hq4:∀y,jd q y→y≠b4:=fun y hy e=>n4q (e▸hy)
  have hb4o:=hb4
  have n2q:=hq.not hb2 zd
  refine wl (j8 (l':=Aq (os.take 12)[i]) gc hb4 rfl rfl (gt hoi.i) (by rw[show(Aq _).length=73 from gt hoi.i];rfl) OneC.h fun w5 hb4 hE5 hs5=> ?_)
  have hb1:=hb1.gk hE5 ne1_4
  have hb2:=hb2.gk hE5 ne2_4
  have hq:=ku.mk (hq.own.ext hE5 fun y hy e=>hq4 y hy e) hq.new
  have hall:=fun x hx=>And.intro (hall x hx).1 ((hall x hx).2.gk hE5 hb4o zd zd zd)
  have hX:=hX.gj hE5 fr4
  refine ql (jt rfl 7 [(0,true),(1,true),(2,true),(3,false),(4,false),(5,false),(6,true)] [7] (jd q) zk fun w6 hE6 hs6=> ?_)
  have hd1:=hb1
  have hd2:=hb2
  have hd4:=hb4
  have hqd:=hq
  have halld:=hall
  have hXd:=hX
  have hb1:=hb1.ga hE6
  have hb2:=hb2.ga hE6
  have hb4:=hb4.ga hE6
  have hq:=hq.ga hE6
  have hall:=fun x hx=>And.intro (hall x hx).1 ((hall x hx).2.ga hE6)
  have hX:=hX.gb hE6
  have hC:Ext (jd q) _ w6:=hE6.no
  refine gx gc 1 rfl (j5 gc rfl rfl (fun w' hw'=>((hd2.ext (show Ext (jd q) _ w' from hw') n2q).cell rfl)) ?_)
  refine qi gc rfl rfl (fun w' hw'=>(hd4.ext (show Ext (jd q) _ w' from hw') n4q).ki) (gt hoi.i) ?_
  have hXn:=hX
  refine jg rfl (j2 call67 rfl (lsmall_calls w6 hoi.i (hoi.l.ga hX) hoi.c) fun v7 w7 hr7=>⟨(by obtain⟨a2,rfl,hN,hE7⟩:=hr7;exact hC.gb hE7),?_⟩)
  obtain⟨a2,rfl,hN,hE7⟩:=hr7
  have hb1:=hb1.ga hE7
  have hb2:=hb2.ga hE7
  have hb4:=hb4.ga hE7
  have hq:=hq.ga hE7
  have hall:=fun x hx=>And.intro (hall x hx).1 ((hall x hx).2.ga hE7)
  have hX:=hX.gb hE7
  have hC:=hC.gb hE7
  have hN:=hN.older (W0:=w) hXn.size
  have hsk:=objS_ok hoi.i
  refine jg rfl (qc gc rfl 73 rfl objZc (gt qd) zd zd ⟨⟨by rw[jf];exact gt hsk.1,by decide⟩,trivial⟩ (l':=Aq (xv5 (os.take 12)[i].1,a2)) (xw0 hsk.1) fun b23 w8 hn23 hb23 hE8 hs8=>⟨hC.gb hE8,?_⟩)
  have ne1_23:b1≠b23:=Nat.ne_of_lt (Nat.lt_of_lt_of_le hb1.lt hn23)
  have ne2_23:b2≠b23:=Nat.ne_of_lt (Nat.lt_of_lt_of_le hb2.lt hn23)
  have ne4_23:b4≠b23:=Nat.ne_of_lt (Nat.lt_of_lt_of_le hb4.lt hn23)
  have fr23:=Nat.le_trans hX.size hn23
  have hb1:=hb1.ga hE8
  have hb2:=hb2.ga hE8
  have hb4:=hb4.ga hE8
  have hq:=hq.ga hE8
  have hall:=fun x hx=>And.intro (hall x hx).1 ((hall x hx).2.ga hE8)
  have hN:=hN.ga hE8
  have hX:=hX.gb hE8
  have hC:=hC.gb hE8
  have hqo:=hq.own
  refine jg rfl (xd gc rfl 73 192 rfl rfl rfl zd hq (Src.slice (m:=1) ⟨gt hsk.1,.inr ⟨b23,0,rfl,hb23.ki⟩⟩ OneC.h) zm zn (n':=(gs++[((xv5 (os.take 12)[i].1,a2):yq4)]).length) (ys:=(gs++[((xv5 (os.take 12)[i].1,a2):yq4)]).flatMap Aq) zi (by rw[List.flatMap_append,List.flatMap_singleton];rfl) hX fun q4 k4 w9 hq hE9 hX=>⟨hC.then hE9,?_⟩)
  have hC:=hC.then hE9
  dsimp only at hq hE9
  have hb1:=hb1.ke hqo hE9 (show(37:Nat)≠25 from by decide)
  have hb2:=hb2.ke hqo hE9 (show(37:Nat)≠25 from by decide)
  have hall:=fun x hx=>And.intro (hall x hx).1 ((hall x hx).2.extT hqo hE9 zd zd zd)
  have hN:=hN.extT hqo hE9 zd zd zd
  refine gx gc 1 rfl (jj ?_)
  have hb2o:=hb2
  refine wb rfl (xr gc hb2 rfl rfl rfl fun w10 hb2 hE10 hs10=> ?_)
  have hb1:=hb1.gk hE10 ne1_2
  have hq:=hq.gk hE10 hb2o zd
  have hall:=fun x hx=>And.intro (hall x hx).1 ((hall x hx).2.gk hE10 hb2o zd zd zd)
  have hN:=hN.gk hE10 hb2o zd zd zd
  have hX:=hX.gj hE10 fr2
  refine j9 (B4 rfl ?_)
  rw[IntWalk.i64_in _ zo]
  refine gn ?_
  rw[hp] at hb1
  exact jm (i+1,q4,k4,gs++[((xv5 (os.take 12)[i].1,a2):yq4)]) rfl ⟨⟨hi2,hq,by rw[List.map_append,hgs,←yq8 hi2];rfl,fun y hy=>(List.mem_append.1 hy).elim (hall y) fun e=>by rw[List.mem_singleton.1 e];exact⟨hsk,hN⟩⟩,hb1,hb2,hX⟩ zf
 have h0:i=(os.take 12).length:=by omega
 subst h0
 rw[List.take_length] at hgs
 refine Bg (gl (km rfl (jb hb1 rfl rfl (j7 gc rfl (jb hb1 rfl rfl (j7 gc rfl ?_))))))
 refine wl (Ah gc rfl 0 (min ss.length 129) sc 5 rfl (.inr ⟨rfl,rfl⟩) (.inl (congrArg some (minI _ _))) (.inr ⟨rfl,rfl⟩) (Nat.zero_le _) (by have:=hcs;omega) (Nat.le_refl _) ?_)
 rw[kc,Nat.sub_zero,Nat.sub_zero,Bd]
 refine ju rfl (gu ?_)
 refine jn (α:=Nat×Option Addr×Nat×List C9) [2,33,34] rfl (fun z=>[(35,.int .i64 (z.1:Int))]) (fun z u=>(z.1≤(ss.take 129).length∧ku w u q gs.length k 37 73 (gs.flatMap Aq)∧(∀x∈gs,Co x.1∧u4 w u x.1 x.2)∧ku w u z.2.1 z.2.2.2.length z.2.2.1 91 5 (z.2.2.2.flatMap xt)∧z.2.2.2.map Prod.fst=((ss.take 129).take z.1).map (fun x=>setS x.1)∧∀x∈z.2.2.2,xi w u x)∧gz u b1 25 ([.slice op os.length oc,.slice sp ss.length sc])∧gz u b2 25 ([.slice q gs.length k,.slice z.2.1 z.2.2.2.length z.2.2.1])∧Ext No w u) (fun z u=>(ss.take 129).length-z.1) (0,none,0,[]) rfl ⟨⟨Nat.zero_le _,hq,hall,ku.nil _ _ _ _,rfl,fun _ e=>(by cases e)⟩,hb1,hb2,hX⟩ ?_
 rintro⟨i,q2,k2,ts⟩ w11 ⟨⟨hio,hq,hall,hq2,hts,hset⟩,hb1,hb2,hX⟩
 try dsimp only
 dsimp only at hio hq2 hts hset hb2
 refine jc rfl (gl (jp rfl (fun hc=> ?_) (fun hc=> ?_)))
 ·have h12:(ss.take 129).length≤129:=by rw[List.length_take];omega
  have hi2:i<(ss.take 129).length:=by omega
  have hgl:ts.length=i:=by
   have e:=congrArg List.length hts
   rw[List.length_map,List.length_map,List.length_take] at e;omega
  have hmi:(ss.take 129)[i]∈ss:=List.mem_of_mem_take (List.getElem_mem hi2)
  have hsi:=hB.s _ hmi
  have hci:=And.intro hsi.co hsi.cn
  obtain⟨qb,qo,hp,hsq⟩:=(hB.ss.cut (fun x hx=>yz7 x) 129).qv (fun x hx=>yz7 x) zn
  dsimp only at hp hsq
  rw[hp]
  refine xy (gu (kz (ka rfl 5 rfl i rfl hi2 (qo+i*5) rfl (jo rfl ((hsq i hi2).ga hX) rfl ?_))))
  have hqb:=hq2
  refine gw rfl fun b6 w12 hn6 hb6 hE12=> ?_
  have ne1_6:b1≠b6:=Nat.ne_of_lt (Nat.lt_of_lt_of_le hb1.lt hn6)
  have ne2_6:b2≠b6:=Nat.ne_of_lt (Nat.lt_of_lt_of_le hb2.lt hn6)
  have fr6:=Nat.le_trans hX.size hn6
  have hb1:=hb1.ga hE12
  have hb2:=hb2.ga hE12
  have hq:=hq.ga hE12
  have hall:=fun x hx=>And.intro (hall x hx).1 ((hall x hx).2.ga hE12)
  have hq2:=hq2.ga hE12
  have hset:=fun x hx=>(hset x hx).ga hE12
  have hX:=hX.gb hE12
  have hq6:∀y,jd q2 y→y≠b6:=fun y hy=>Nat.ne_of_lt (Nat.lt_of_lt_of_le (hqb.own.lt hy) hn6)
  have hb6o:=hb6
  refine wl (j8 (l':=xt (ss.take 129)[i]) gc hb6 rfl rfl rfl rfl OneC.h fun w13 hb6 hE13 hs13=> ?_)
  have hb1:=hb1.gk hE13 ne1_6
  have hb2:=hb2.gk hE13 ne2_6
  have hq:=hq.gk hE13 hb6o zd
  have hall:=fun x hx=>And.intro (hall x hx).1 ((hall x hx).2.gk hE13 hb6o zd zd zd)
  have hq2:=ku.mk (hq2.own.ext hE13 fun y hy e=>hq6 y hy e) hq2.new
  have hset:=fun x hx=>(hset x hx).gk hE13 hb6o zd
  have hX:=hX.gj hE13 fr6
  refine ql (gl ?_)
  refine jt rfl 20 [(0,true),(1,true),(3,true),(4,true),(5,true),(6,true),(7,true),(8,true),(9,true),(11,true),(12,true),(13,true),(14,true),(15,true),(16,true),(17,true),(2,false),(19,true),(10,false),(18,false)] [20,21,22,23,24] (No) zk fun w14 hE14 hs14=> ?_
  have hd1:=hb1
  have hd2:=hb2
  have hd6:=hb6
  have hqd:=hq
  have halld:=hall
  have hq2d:=hq2
  have hsetd:=hset
  have hXd:=hX
  have hb1:=hb1.ga hE14
  have hb2:=hb2.ga hE14
  have hb6:=hb6.ga hE14
  have hq:=hq.ga hE14
  have hall:=fun x hx=>And.intro (hall x hx).1 ((hall x hx).2.ga hE14)
  have hq2:=hq2.ga hE14
  have hset:=fun x hx=>(hset x hx).ga hE14
  have hX:=hX.gb hE14
  have hC:Ext (No) _ w14:=hE14.no
  refine gx gc 1 rfl (j5 gc rfl rfl (fun w' hw'=>(hd6.ga hw').cell rfl) ?_)
  refine gx gc 1 rfl (j5 gc rfl rfl (fun w' hw'=>(hd6.ga hw').cell rfl) ?_)
  refine gx gc 1 rfl (j5 gc rfl rfl (fun w' hw'=>(hd6.ga hw').cell rfl) ?_)
  refine gx gc 2 rfl (zq4 gc rfl rfl 0 (min (ss.take 129)[i].1.old.length 4097) (ss.take 129)[i].2.oc 1 rfl (.inr ⟨rfl,rfl⟩) (.inl (congrArg some (minI _ _))) (.inr ⟨rfl,rfl⟩) (Nat.zero_le _) (by have:=hci.1;omega) (Nat.le_refl _) ?_)
  rw[kc,Nat.sub_zero,Nat.sub_zero,Bd]
  refine gx gc 1 rfl (j5 gc rfl rfl (fun w' hw'=>(hd6.ga hw').cell rfl) ?_)
  refine gx gc 1 rfl (j5 gc rfl rfl (fun w' hw'=>(hd6.ga hw').cell rfl) ?_)
  refine gx gc 2 rfl (zq4 gc rfl rfl 0 (min (ss.take 129)[i].1.new.length 4097) (ss.take 129)[i].2.nc 1 rfl (.inr ⟨rfl,rfl⟩) (.inl (congrArg some (minI _ _))) (.inr ⟨rfl,rfl⟩) (Nat.zero_le _) (by have:=hci.2;omega) (Nat.le_refl _) ?_)
  rw[kc,Nat.sub_zero,Nat.sub_zero,Bd]
  refine jg rfl (j2 call68 rfl (Cj w14 _ 40 zd) fun v15 w15 hr15=>⟨(by obtain⟨rfl,rfl⟩:=hr15;exact hC),?_⟩)
  obtain⟨rfl,rfl⟩:=hr15
  have hC:=hC
  refine gx gc 1 rfl ?_
  have hX3:=hX
  refine jg rfl (j2 call35 rfl (xp w15 ((hsi.old.cutB 4097).ga hX) zl) fun v16 w16 hr16=>⟨(by obtain⟨q3,k3,rfl,ho3,hn3,hE16⟩:=hr16;exact hC.gb hE16),?_⟩)
  obtain⟨q3,k3,rfl,ho3,hn3,hE16⟩:=hr16
  have hb1:=hb1.ga hE16
  have hb2:=hb2.ga hE16
  have hb6:=hb6.ga hE16
  have hq:=hq.ga hE16
  have hall:=fun x hx=>And.intro (hall x hx).1 ((hall x hx).2.ga hE16)
  have hq2:=hq2.ga hE16
  have hset:=fun x hx=>(hset x hx).ga hE16
  have hX:=hX.gb hE16
  have hC:=hC.gb hE16
  have ho3:ku w w16 q3 _ k3 5 1 _:=⟨ho3,fun y hy=>Nat.le_trans hX3.size (hn3 y hy)⟩
  have hX5:=hX
  refine jg rfl (j2 call35 rfl (xp w16 ((hsi.new.cutB 4097).ga hX) zl) fun v17 w17 hr17=>⟨(by obtain⟨q5,k5,rfl,ho5,hn5,hE17⟩:=hr17;exact hC.gb hE17),?_⟩)
  obtain⟨q5,k5,rfl,ho5,hn5,hE17⟩:=hr17
  have hb1:=hb1.ga hE17
  have hb2:=hb2.ga hE17
  have hb6:=hb6.ga hE17
  have hq:=hq.ga hE17
  have hall:=fun x hx=>And.intro (hall x hx).1 ((hall x hx).2.ga hE17)
  have hq2:=hq2.ga hE17
  have hset:=fun x hx=>(hset x hx).ga hE17
  have ho3:=ho3.ga hE17
  have hX:=hX.gb hE17
  have hC:=hC.gb hE17
  have ho5:ku w w17 q5 _ k5 5 1 _:=⟨ho5,fun y hy=>Nat.le_trans hX5.size (hn5 y hy)⟩
  refine jj ?_
  have hb6o:=hb6
  refine wb rfl (xr gc hb6 rfl rfl rfl fun w18 hb6 hE18 hs18=> ?_)
  have hb1:=hb1.gk hE18 ne1_6
  have hb2:=hb2.gk hE18 ne2_6
  have hq:=hq.gk hE18 hb6o zd
  have hall:=fun x hx=>And.intro (hall x hx).1 ((hall x hx).2.gk hE18 hb6o zd zd zd)
  have hq2:=ku.mk (hq2.own.ext hE18 fun y hy e=>hq6 y hy e) hq2.new
  have hset:=fun x hx=>(hset x hx).gk hE18 hb6o zd
  have ho3:=ho3.gk hE18 hb6o zd
  have ho5:=ho5.gk hE18 hb6o zd
  have hX:=hX.gj hE18 fr6
  refine wb rfl (D5 gc rfl rfl rfl ?_)
  have hb6o:=hb6
  refine wb rfl (xr gc hb6 rfl rfl rfl fun w19 hb6 hE19 hs19=> ?_)
  have hb1:=hb1.gk hE19 ne1_6
  have hb2:=hb2.gk hE19 ne2_6
  have hq:=hq.gk hE19 hb6o zd
  have hall:=fun x hx=>And.intro (hall x hx).1 ((hall x hx).2.gk hE19 hb6o zd zd zd)
  have hq2:=ku.mk (hq2.own.ext hE19 fun y hy e=>hq6 y hy e) hq2.new
  have hset:=fun x hx=>(hset x hx).gk hE19 hb6o zd
  have ho3:=ho3.gk hE19 hb6o zd
  have ho5:=ho5.gk hE19 hb6o zd
  have hX:=hX.gj hE19 fr6
  refine wb rfl (D5 gc rfl rfl rfl ?_)
  have hb6o:=hb6
  refine wb rfl (xr gc hb6 rfl rfl rfl fun w20 hb6 hE20 hs20=> ?_)
  have hb1:=hb1.gk hE20 ne1_6
  have hb2:=hb2.gk hE20 ne2_6
  have hq:=hq.gk hE20 hb6o zd
  have hall:=fun x hx=>And.intro (hall x hx).1 ((hall x hx).2.gk hE20 hb6o zd zd zd)
  have hq2:=ku.mk (hq2.own.ext hE20 fun y hy e=>hq6 y hy e) hq2.new
  have hset:=fun x hx=>(hset x hx).gk hE20 hb6o zd
  have ho3:=ho3.gk hE20 hb6o zd
  have ho5:=ho5.gk hE20 hb6o zd
  have hX:=hX.gj hE20 fr6
  have hb6:gz w20 b6 91 (xt (setS (ss.take 129)[i].1,⟨q3,k3,q5,k5⟩)):=hb6
  refine j9 (gy (yu rfl (jb hb2 rfl rfl (jh hb6 rfl rfl ?_))))
  refine wl (qc gc rfl 5 rfl setZc rfl zd zd ⟨⟨rfl,by decide⟩,trivial⟩ (l':=xt (setS (ss.take 129)[i].1,⟨q3,k3,q5,k5⟩)) (set_put _) fun b64 w21 hn64 hb64 hE21 hs21=> ?_)
  have ne1_64:b1≠b64:=Nat.ne_of_lt (Nat.lt_of_lt_of_le hb1.lt hn64)
  have ne2_64:b2≠b64:=Nat.ne_of_lt (Nat.lt_of_lt_of_le hb2.lt hn64)
  have ne6_64:b6≠b64:=Nat.ne_of_lt (Nat.lt_of_lt_of_le hb6.lt hn64)
  have fr64:=Nat.le_trans hX.size hn64
  have hb1:=hb1.ga hE21
  have hb2:=hb2.ga hE21
  have hb6:=hb6.ga hE21
  have hq:=hq.ga hE21
  have hall:=fun x hx=>And.intro (hall x hx).1 ((hall x hx).2.ga hE21)
  have hq2:=hq2.ga hE21
  have hset:=fun x hx=>(hset x hx).ga hE21
  have ho3:=ho3.ga hE21
  have ho5:=ho5.ga hE21
  have hX:=hX.gb hE21
  have hq2o:=hq2.own
  refine wl (xd gc rfl 5 72 rfl rfl rfl zd hq2 (Src.slice (m:=1) ⟨rfl,.inr ⟨b64,0,rfl,hb64.ki⟩⟩ OneC.h) zm zn (n':=(ts++[((setS (ss.take 129)[i].1,⟨q3,k3,q5,k5⟩):C9)]).length) (ys:=(ts++[((setS (ss.take 129)[i].1,⟨q3,k3,q5,k5⟩):C9)]).flatMap xt) zi (by rw[List.flatMap_append,List.flatMap_singleton]) hX fun q4 k4 w22 hq2 hE22 hX=> ?_)
  dsimp only at hq2 hE22
  have hb1:=hb1.ke hq2o hE22 (show(91:Nat)≠25 from by decide)
  have hb2:=hb2.ke hq2o hE22 (show(91:Nat)≠25 from by decide)
  have hq:=hq.yq3 hq2o hE22 zd
  have hall:=fun x hx=>And.intro (hall x hx).1 ((hall x hx).2.extT hq2o hE22 zd zd zd)
  have hset:=fun x hx=>(hset x hx).yq3 hq2o hE22 zd
  have ho3:=ho3.yq3 hq2o hE22 zd
  have ho5:=ho5.yq3 hq2o hE22 zd
  refine j7 gc rfl ?_
  have hb2o:=hb2
  refine ky hb2 rfl rfl rfl fun w23 hb2 hE23 hs23=> ?_
  have hb1:=hb1.gk hE23 ne1_2
  have hq:=hq.gk hE23 hb2o zd
  have hall:=fun x hx=>And.intro (hall x hx).1 ((hall x hx).2.gk hE23 hb2o zd zd zd)
  have hq2:=hq2.gk hE23 hb2o zd
  have hset:=fun x hx=>(hset x hx).gk hE23 hb2o zd
  have ho3:=ho3.gk hE23 hb2o zd
  have ho5:=ho5.gk hE23 hb2o zd
  have hX:=hX.gj hE23 fr2
  refine gn (B4 rfl ?_)
  rw[IntWalk.i64_in _ zo]
  refine gn ?_
  rw[hp] at hb1
  exact jm (i+1,q4,k4,ts++[((setS (ss.take 129)[i].1,⟨q3,k3,q5,k5⟩):C9)]) rfl ⟨⟨hi2,hq,hall,hq2,by rw[List.map_append,hts,←yq8 hi2];rfl,fun y hy=>(List.mem_append.1 hy).elim (hset y) fun e=>by rw[List.mem_singleton.1 e];exact⟨ho3,ho5,(by show(List.take 40 _).length<_;rw[List.length_take];omega),(by show(List.take 4097 _).length<_;rw[List.length_take];omega),(by show(List.take 4097 _).length<_;rw[List.length_take];omega)⟩⟩,hb1,hb2,hX⟩ zf
 have h0:i=(ss.take 129).length:=by omega
 subst h0
 rw[List.take_length] at hts
 refine Bg (kz (jh hb2 rfl rfl ?_))
 have hb2o:=hb2
 refine wl (j8 (l':=[.slice q gs.length k,.slice q2 ts.length k2]) gc hb2 rfl rfl rfl rfl OneC.h fun w24 hb2 hE24 hs24=> ?_)
 have hb1:=hb1.gk hE24 ne1_2
 have hq:=hq.gk hE24 hb2o zd
 have hall:=fun x hx=>And.intro (hall x hx).1 ((hall x hx).2.gk hE24 hb2o zd zd zd)
 have hq2:=hq2.gk hE24 hb2o zd
 have hset:=fun x hx=>(hset x hx).gk hE24 hb2o zd
 have hX:=hX.gj hE24 fr2
 refine ql (gr (qk [_] ⟨⟨b2,0,rfl,qu gc rfl rfl hb2.ki rfl⟩,trivial⟩ ?_))
 have hgl:=congrArg List.length hgs
 have htl:=congrArg List.length hts
 rw[List.length_map,List.length_map,List.length_take] at hgl htl
 exact⟨⟨q,k,gs,q2,k2,ts⟩,rfl,by rw[uk.d,batS,uk.d,hgs,hts,←List.map_take,←List.map_take,List.map_map,List.map_map];rfl,⟨hq,hq2,hall,hset,(by show gs.length<1000000;omega),(by show ts.length<1000000;omega)⟩,hX⟩
end Go.Proofs.YtpdiphfjmepijaaGreatDoor
