/-
  Walks and laws towards: the bytes of batches, and the batch of whatever bytes (StoreCodes)
-/
import Derived.Test.YtpdiphfjmepijaaGreatDoorCdG
open List renaming flatMap_append→bC,mem_map→bN,getElem_map→bR,flatMap_singleton→bU,map_append→bX,take_left'→dG,mem_cons_of_mem→dJ,map_cons→dL,mem_of_mem_drop→dO
open Classical renaming byContradiction→cZ
namespace Go.Proofs.YtpdiphfjmepijaaGreatDoor
open Go.Proofs.Tryz
open Go.Vc
def cutV (l:List Ax) (i:Nat) (q:Bool):List Ax:=if q then l.take i++l.drop (i+1) else l
theorem find_two {l:List Ax} {n:Str} {i:Nat} {q:Bool} (hr:Ap l) (h:FindAt l n i q):(q=true∧∃hi:i<l.length,l[i].1=n∧yq2 l n=some l[i].2)∨(q=false∧yq2 l n=none):=by
 obtain⟨h1,h2,h3,h4⟩:=h
 rcases(find_split hr (cS i l).symm h2 h3).2 with⟨x,r,e,_,hv⟩|⟨hne,_,hv⟩
 ·have hi:i<l.length:=by
   rcases bF i l.length with h'|h'
   ·exact h'
   rw[bM h'] at e;cases e
  have hd:=xx3 hi
  rw[e] at hd
  have hd:(n,x)=l[i]:=by simpa using hd
  exact .inl ⟨h4.2 ⟨(n,x),by rw[e];rfl,rfl⟩,hi,by rw[←hd],by rw[hv,←hd]⟩
 refine .inr ⟨?_,hv⟩
 cases hq:q
 ·rfl
 obtain⟨v,e,hn⟩:=h4.1 hq
 exact absurd hn (hne v e)
theorem fit_iff {l:List Ax} {s:yo} {i:Nat} {q:Bool} (h:(q=true∧∃hi:i<l.length,l[i].1=s.name∧yq2 l s.name=some l[i].2)∨(q=false∧yq2 l s.name=none)):FitD l s↔q=s.was∧(q=true→∀hi:i<l.length,l[i].2=s.old):=by
 unfold FitD
 rcases h with⟨a,hi,_,b⟩|⟨a,b⟩
 ·rw[b,a]
  cases hw:s.was
  ·simp
  simp only[cO,bG,true_and,forall_const]
  exact⟨fun e _=>e,fun e=>e hi⟩
 rw[b,a]
 cases hw:s.was<;>simp
theorem putV_cut {l:List Ax} {s:yo} {i:Nat} {q:Bool} (hr:Ap l) (h:FindAt l s.name i q):xq5 l s=(cutV l i q).take i++(if s.is then [(s.name,s.new)] else [])++(cutV l i q).drop i∧i≤(cutV l i q).length:=by
 obtain⟨g,m,n,j⟩:=h
 have o:=find_split hr (cS i l).symm m n
 have a:(l.take i).length=i:=by rw[aL,bP g]
 rcases o with⟨k,⟨x,r,e,c,_⟩|⟨d,c,_⟩⟩
 ·have b:q=true:=j.2 ⟨(s.name,x),by rw[e];rfl,rfl⟩
  have p:l.drop (i+1)=r:=by rw[←List.drop_drop,e];rfl
  have f:cutV l i q=l.take i++r:=by rw[cutV,b,p];rfl
  rw[xq5,k,c,f,dG a,List.drop_left' a]
  exact⟨rfl,by rw[aB,a];omega⟩
 have b:q=false:=by
  cases b:q
  ·rfl
  obtain⟨v,e,t⟩:=j.1 b
  exact absurd t (d v e)
 have f:cutV l i q=l:=by rw[cutV,b];rfl
 rw[xq5,k,c,f]
 exact⟨rfl,g⟩
def yz0 (l:List Bt) (i:Nat) (q:Bool):List Bt:=if q then l.take i++l.drop (i+1) else l
theorem cutX_map (l:List Bt) (i:Nat) (q:Bool):(yz0 l i q).map Prod.fst=cutV (l.map Prod.fst) i q:=by
 unfold yz0 cutV;split
 ·rw[bX,List.map_take,List.map_drop]
 rfl
theorem cutX_mem {l:List Bt} {i:Nat} {q:Bool} {x:Bt} (h:x∈yz0 l i q):x∈l:=by
 unfold yz0 at h;split at h
 ·rcases aY.1 h with h|h
  ·exact bH h
  exact dO h
 exact h
theorem cutX_len (l:List Bt) (i:Nat) (q:Bool):(yz0 l i q).length≤l.length:=by
 unfold yz0;split
 ·rw[aB,aL,aX];omega
 exact aD _
theorem Da.less {W u:World} {G:Nat→Prop} {rp:Option Addr} {rc r:Nat} {hs:List u3} {vs vs':List Bt} (k:Da W u G rp rc hs r vs) (h:∀x∈vs',x∈vs):Da W u G rp rc hs r vs':=⟨k.row,k.map,k.o,fun x hx=>k.v x (h x hx)⟩
theorem one_val {x:Bt}:yh (Cn 1 (xm (([],[]),none,0))) [(0*(0+2),0+2,.agg (xm x).toArray)]=xm x:=rfl
theorem sets_calls (w:World) {W:World} {hb:Nat} {G:Nat→Prop} {h:uh} (hbk:gz w hb 121 h.c) (hi:zw4 W w G h) (hW:Ext No W w) (hfev:h.vs.length+1<1000000) {s:yo} {a:SetP} (ho:SetAt W (s,a)) (hok:D9 s) (hri:Ap h.s.vals) (hbn:W.heap.size≤hb):
  gn prog 142 [.pointer (some ⟨hb,0,none⟩),.agg (uz (s,a)).toArray] w fun v w'=>∃h':uh,v= .int .i64 (if FitD h.s.vals s then 0 else 200)∧gz w' hb 121 h'.c∧zw4 W w' G h'∧h'.hs=h.hs∧h'.s.vals=(if FitD h.s.vals s then xq5 h.s.vals s else h.s.vals)∧h'.vs.length≤h.vs.length+1∧Ext (Brg W w) w w':=by
 have hbk0:=hbk
 have hi0:=hi
 obtain⟨rp,rc,hs,m,vp,vc,vs⟩:=h
 obtain⟨r,hmr,hrW,hM⟩:=hi.map
 have hmr:m=some r:=hmr
 subst hmr
 have hbk:gz w hb 121 [.slice rp hs.length rc,.map (some r),.slice vp vs.length vc]:=hbk
 have hval:k8 W w vp vs.length vc 129 2 (vs.flatMap xm):=hi.vals
 have hre:Da W w G rp rc hs r vs:=⟨hi.row,hM,hi.o,hi.v⟩
 have hfev:vs.length+1<1000000:=hfev
 have hso:=ho.old
 have hsn:=ho.new
 have hsl:=ho.lo
 have hsw:=ho.lw
 dsimp only at hso hsn hsl hsw
 have hln:=ho.ln
 have hrr:uh.s ⟨rp,rc,hs,some r,vp,vc,vs⟩=⟨hs.map u3.o,vs.map Prod.fst⟩:=rfl
 rw[hrr] at hri⊢
 dsimp only at hri hln⊢
 have hW0:=hW.size
 have hN:=Ext.refl No w
 refine gx func142 ?_
 have hX:=Ext.refl (Brg W w) w
 refine ko (gw rfl fun b3 w1 hn3 hb3 hE1=> ?_)
 have hbk:=hbk.ga hE1
 have hval:=hval.ga hE1
 have hre:=hre.ga hE1
 have hW:=hW.gb hE1
 have hN:=hN.gb hE1
 have hX:=hX.gb hE1
 have hb3:gz w1 b3 91 (uz (s,a)):=hb3
 refine km rfl (gl (jr rfl 11 [qP 0,qP 1,qP 2,qP 3,qP 4,(5,false),qP 6,qP 7,qP 8,qP 9,qP 10] [] (No) zk fun w2 hE2 hs2=> ?_))
 have hd3:=hb3
 have hbkd:=hbk
 have hvald:=hval
 have hred:=hre
 have hWd:=hW
 have hb3:=hb3.ga hE2
 have hbk:=hbk.ga hE2
 have hval:=hval.ga hE2
 have hre:=hre.ga hE2
 have hW:=hW.gb hE2
 have hN:=hN.gb hE2
 have hX:=hX.gb hE2
 have hC:Ext (No) _ w2:=hE2.no
 refine gt gc 2 rfl (qa gc rfl rfl (fun w' hw'=>(hbkd.ga hw').kj) rfl ?_)
 refine gt gc 1 rfl (j3 gc rfl rfl (fun w' hw'=>(hd3.ga hw').cell rfl) ?_)
 refine jo rfl (j1 call53 rfl (find_calls w2 rfl rfl hval.sl zo (n:=s.name)) fun v3 w3 hr3=>⟨(by obtain⟨i,q,rfl,hF,hE3⟩:=hr3;exact hC.gb hE3),?_⟩)
 obtain⟨i,q,rfl,hF,hE3⟩:=hr3
 have hb3:=hb3.ga hE3
 have hbk:=hbk.ga hE3
 have hval:=hval.ga hE3
 have hre:=hre.ga hE3
 have hW:=hW.gb hE3
 have hN:=hN.gb hE3
 have hX:=hX.gb hE3
 have hC:=hC.gb hE3
 have htwo:=find_two hri hF
 refine gt gc 5 rfl (jg (j5 (jp (gl ?_))))
 refine ji (α:=Bool) [0,3,5,6] rfl (fun z=>[(37,.bool z)]) (fun z u=>(z=decide (¬FitD (vs.map Prod.fst) s)∧gz u hb 121 [.slice rp hs.length rc,.map (some r),.slice vp vs.length vc]∧k8 W u vp vs.length vc 129 2 (vs.flatMap xm)∧Da W u G rp rc hs r vs∧Ext No W u∧Ext No w u)∧gz u b3 91 (uz (s,a))∧Ext (Brg W w) w u) ?_ ?_
 ·refine jr rfl 22 [qP 0,qP 1,qP 2,qP 3,qP 4,qP 5,qP 6,qP 7,qP 8,qP 9,qP 10,qP 11,qP 12,qP 13,qP 14,qP 15,qP 16,qP 17,qP 18,qP 19,qP 20,qP 21] [] (No) zk fun w4 hE4 hs4=> ?_
  have hd3:=hb3
  have hbkd:=hbk
  have hvald:=hval
  have hred:=hre
  have hWd:=hW
  have hb3:=hb3.ga hE4
  have hbk:=hbk.ga hE4
  have hval:=hval.ga hE4
  have hre:=hre.ga hE4
  have hW:=hW.gb hE4
  have hN:=hN.gb hE4
  have hX:=hX.gb hE4
  refine gt gc 2 rfl (j3 gc rfl rfl (fun w' hw'=>(hd3.ga hw').cell rfl) ?_)
  refine gt gc 2 rfl (Cm 20 rfl (fun hg=> ?_) (fun hg=> ?_))
  ·have hqw:¬q=s.was:=by simpa using hg
   refine gt gc 17 rfl (jg (j5 ?_))
   exact gr (true) rfl ⟨⟨by symm;rw[aU,fit_iff htwo];exact fun k=>hqw k.1,hbk,hval,hre,hW,hN⟩,hb3,hX⟩
  have hqw:q=s.was:=by simpa using hg
  refine gt gc 2 rfl (Cm 22 rfl (fun hg=> ?_) (fun hg=> ?_))
  ·have hi3:i<(vs.map Prod.fst).length:=by
    rcases htwo with⟨_,hi,_⟩|⟨e,_⟩
    ·exact hi
    rw[hg] at e;cases e
   have hi2:i<vs.length:=by rw[aE] at hi3;exact hi3
   have hgi:(vs.map Prod.fst)[i]=vs[i].1:=bR ..
   obtain⟨qb,qo,hp,hsq⟩:=hvald.sl.qd (fun x _=>Bi x) zo
   subst hp
   refine gt gc 3 rfl (j3 gc rfl rfl (fun w' hw'=>((hbkd.ga hw').cell rfl)) ?_)
   refine gt gc 1 rfl (qk gc rfl rfl 2 rfl i rfl hi2 (qo+i*2) rfl (gt gc 1 rfl (j3 gc rfl rfl (fun w' hw'=>(((hsq i hi2).ga hw') 1 _ rfl)) ?_)))
   refine wd_b2s gc rfl rfl rfl (fun w' hw'=>(hred.v _ (aG hi2)).s.ga hw') (hre.v _ (aG hi2)).s ?_
   refine gt gc 1 rfl (j3 gc rfl rfl (fun w' hw'=>(hd3.ga hw').cell rfl) ?_)
   refine wd_b2s gc rfl rfl rfl (fun w' hw'=>hso.ga (hWd.gb hw')) (hso.ga hW) ?_
   refine gt gc 3 rfl (jg (j5 ?_))
   exact gr (_) rfl ⟨⟨by rw[aH,fit_iff htwo];exact⟨fun k k2=>k (by rw[←k2.2 hg hi3,hgi]),fun k e=>k ⟨hqw,fun _ _=>by rw[hgi];exact xt e⟩⟩,hbk,hval,hre,hW,hN⟩,hb3,hX⟩
  refine gt gc 15 rfl ?_
  refine jg (j5 ?_)
  exact gr (false) rfl ⟨⟨by symm;rw[aC,aS,fit_iff htwo];exact⟨hqw,fun e=>by rw[hg] at e;cases e⟩,hbk,hval,hre,hW,hN⟩,hb3,hX⟩
 rintro z w5 ⟨⟨rfl,hbk,hval,hre,hW,hN⟩,hb3,hX⟩
 refine jl rfl (fun hc=> ?_) (fun hc=> ?_)
 ·refine gl ?_
  refine gy (vr rfl (j7 (gv rfl rfl ?_)))
  rw[aP hc,aP hc]
  exact⟨⟨rp,rc,hs,some r,vp,vc,vs⟩,rfl,hbk0.ga hN,hi0.ga hN,rfl,rfl,Nat.le_succ _,hX⟩
 have hfit:FitD (vs.map Prod.fst) s:=aS.1 hc
 rw[aR hfit,aR hfit]
 have hpc:=putV_cut hri hF
 rw[←cutX_map] at hpc
 have hcl:=cutX_len vs i q
 have hile:i≤(yz0 vs i q).length:=by have:=hpc.2;rw[aE] at this;exact this
 refine x3 ?_
 refine ji (α:=Option Addr×Nat) [0,3,5] rfl (fun z=>[]) (fun z u=>(gz u hb 121 [.slice rp hs.length rc,.map (some r),.slice z.1 (yz0 vs i q).length z.2]∧k8 W u z.1 (yz0 vs i q).length z.2 129 2 ((yz0 vs i q).flatMap xm)∧Da W u G rp rc hs r (yz0 vs i q)∧Ext No W u)∧gz u b3 91 (uz (s,a))∧Ext (Brg W w) w u) ?_ ?_
 ·refine gl ?_
  refine gy (km rfl (ud rfl (fun hc=> ?_) (fun hc=> ?_)))
  ·have hi3:i<(vs.map Prod.fst).length:=by
    rcases htwo with⟨_,hi,_⟩|⟨e,_⟩
    ·exact hi
    rw[hc] at e;cases e
   have hi2:i<vs.length:=by rw[aE] at hi3;exact hi3
   have hcx:yz0 vs i q=vs.take i++vs.drop (i+1):=by rw[yz0,hc];rfl
   refine yl rfl (gu rfl (hbk.cell rfl) (j0 gc rfl ?_))
   rw[jz _ zo]
   rw[show(i:Int)+1=((i+1:Nat):Int) from rfl]
   refine gh call186 rfl (vdelete_calls w5 hW hval zo hi2) fun v6 w6 hr6=> ?_
   obtain⟨q5,k5,rfl,hv5,hE6⟩:=hr6
   have hT6:Ext (Bo W _ 129 129) _ _:=hE6.mono fun y _=>Bo.own hval y
   have hbk:=hbk.x4 hT6 zd zd
   have hb3:=hb3.x4 hT6 zd zd
   have hre:=hre.x4 hT6 zd
   have hW:=hW.x4 hT6
   have hX:=hX.yz8 (hT6.mono (Brg.x4 zd))
   rw[←hcx] at hv5⊢
   refine j0 gc rfl (kl hbk rfl rfl rfl fun w7 hbk2 hE7 hs7=> ?_)
   have hb3:=hb3.gj hE7 (hb3.ne hbk zd)
   have hre:=(hre.gj hE7 hbk hbn zd).less (vs':=yz0 vs i q) fun _=>cutX_mem
   have hv5:=hv5.gj hE7 hbk zd
   have hW:=hW.gi hE7 hbn
   have hX:=hX.yz8 (hE7.mono (Brg.one hbk hbn zd))
   refine gk ?_
   exact gr (q5,k5) rfl ⟨⟨hbk2,hv5,hre,hW⟩,hb3,hX⟩
  have hcx:yz0 vs i q=vs:=by rw[yz0,hc];rfl
  refine kc ?_
  exact gr (vp,vc) rfl ⟨⟨by rw[hcx];exact hbk,by rw[hcx];exact hval,by rw[hcx];exact hre,hW⟩,hb3,hX⟩
 rintro⟨vp2,vc2⟩ w8 ⟨⟨hbk,hval,hre,hW⟩,hb3,hX⟩
 try dsimp only
 dsimp only at hbk hval hre
 refine ji (α:=Option Addr×Nat×List Bt) [] rfl (fun z=>[]) (fun z u=>(gz u hb 121 [.slice rp hs.length rc,.map (some r),.slice z.1 z.2.2.length z.2.1]∧k8 W u z.1 z.2.2.length z.2.1 129 2 (z.2.2.flatMap xm)∧Da W u G rp rc hs r z.2.2∧z.2.2.map Prod.fst=xq5 (vs.map Prod.fst) s∧z.2.2.length≤vs.length+1)∧Ext (Brg W w) w u) ?_ ?_
 ·refine gl ?_
  refine yl rfl (gu rfl (hb3.cell rfl) (qq (ud rfl (fun hc=> ?_) (fun hc=> ?_))))
  ·refine jr rfl 16 [qP 0,qP 1,qP 2,qP 3,qP 4,qP 5,qP 6,qP 7,qP 8,qP 9,(10,false),qP 11,(12,false),(13,false),qP 14,qP 15] [16] (Bo W w8 129 129) zk fun w9 hE9 hs9=> ?_
   have hd3:=hb3
   have hbkd:=hbk
   have hbk:=hbk.ga hE9
   have hval:=hval.ga hE9
   have hre:=hre.ga hE9
   have hW:=hW.gb hE9
   have hX:=hX.gb hE9
   have hC:Ext (Bo W w8 129 129) _ w9:=hE9.no
   refine gt gc 4 rfl (j3 gc rfl rfl (fun w' hw'=>((hbkd.x4 (show Ext (Bo W _ 129 129) _ w' from hw') zd zd).cell rfl)) ?_)
   refine gt gc 2 rfl (j3 gc rfl rfl (fun w' hw'=>((hd3.x4 (show Ext (Bo W _ 129 129) _ w' from hw') zd zd).cell rfl)) ?_)
   refine gt gc 1 rfl (j3 gc rfl rfl (fun w' hw'=>((hd3.x4 (show Ext (Bo W _ 129 129) _ w' from hw') zd zd).cell rfl)) ?_)
   have hWn:=hW
   refine jo rfl (j1 call35 rfl (xd w9 (hsn.ga hW) hsw) fun v10 w10 hr10=>⟨(by obtain⟨qn,kn,rfl,hqn,hqnn,hE10⟩:=hr10;exact hC.gb hE10),?_⟩)
   obtain⟨qn,kn,rfl,hqn,hqnn,hE10⟩:=hr10
   have hbk:=hbk.ga hE10
   have hval:=hval.ga hE10
   have hre:=hre.ga hE10
   have hW:=hW.gb hE10
   have hX:=hX.gb hE10
   have hC:=hC.gb hE10
   have hqnW:∀y,jb qn y→W.heap.size≤y:=fun y hy=>aA hWn.size (hqnn y hy)
   refine xj0 gc rfl rfl ⟨⟨rfl,by decide⟩,⟨rfl,by decide⟩,trivial⟩ (l':=xm ((s.name,s.new),(qn,kn))) rfl ?_
   have hvl:=hval
   refine jo rfl (qi gc rfl 2 rfl valZc rfl zd zd ⟨⟨rfl,by decide⟩,trivial⟩ (l':=xm ((s.name,s.new),(qn,kn))) one_val fun b64 w11 hn64 hb64 hE11 hs11=>⟨hC.gb hE11,?_⟩)
   have hbk:=hbk.ga hE11
   have hval:=hval.ga hE11
   have hre:=hre.ga hE11
   have hW:=hW.gb hE11
   have hqn:=hqn.ext hE11 fun _ _=>id
   have hX:=hX.gb hE11
   have hC:=hC.gb hE11
   refine jo rfl (j1 call187 rfl (vinsert_calls w11 hW hval zo hile hb64 (fun y hy=>j2 (hvl.own.lt hy) hn64)) fun v12 w12 hr12=>⟨(by obtain⟨q7,k7,rfl,hv7,hE12⟩:=hr12;exact hC.ky (hE12.mono fun y _=>Bo.own hval y)),?_⟩)
   obtain⟨q7,k7,rfl,hv7,hE12⟩:=hr12
   have hT12:Ext (Bo W _ 129 129) _ _:=hE12.mono fun y _=>Bo.own hval y
   have hbk:=hbk.x4 hT12 zd zd
   have hre:=hre.x4 hT12 zd
   have hX:=hX.yz8 (hT12.mono (Brg.x4 zd))
   have hqn:=hqn.x4 hT12 zd zd
   refine gt gc 2 rfl (jg (wb rfl (yi gc hbk rfl rfl rfl fun w13 hbk2 hE13 hs13=> ?_)))
   have hre:=hre.gj hE13 hbk hbn zd
   have hv7:=hv7.gj hE13 hbk zd
   have hqn:=hqn.ju hE13 hbk zd
   have hX:=hX.yz8 (hE13.mono (Brg.one hbk hbn zd))
   have hnv:zj6 w13 G ((s.name,s.new),(qn,kn)):=⟨hqn,fun y hy=>hi0.new y (hqnW y hy),hln,hsw⟩
   refine j5 ?_
   exact gr (q7,k7,(yz0 vs i q).take i++((s.name,s.new),(qn,kn))::(yz0 vs i q).drop i) rfl ⟨⟨hbk2,hv7,⟨hre.row,hre.map,hre.o,fun x hx=>(by rcases aY.1 hx with hx|hx;exact hre.v x (bH hx);rcases List.mem_cons.1 hx with rfl|hx;exact hnv;exact hre.v x (dO hx))⟩,by rw[hpc.1,aR hc,bX,dL,List.map_take,List.map_drop,aV];rfl,by dsimp only;rw[aB,aW,aL,aX];omega⟩,hX⟩
  refine kc ?_
  exact gr (vp2,vc2,yz0 vs i q) rfl ⟨⟨hbk,hval,hre,by dsimp only;rw[hpc.1,aP (by rw[hc];decide),bK,cS],by dsimp only;omega⟩,hX⟩
 rintro⟨vp3,vc3,vs3⟩ w14 ⟨⟨hbk,hval,hre,hpv,hl3⟩,hX⟩
 try dsimp only
 dsimp only at hbk hval hre hpv hl3
 refine jd rfl (j9 (gv rfl rfl ?_))
 exact⟨⟨rp,rc,hs,some r,vp3,vc3,vs3⟩,rfl,hbk,⟨hre.row,hi0.rin,⟨r,rfl,hrW,hre.map⟩,hval,hre.o,hre.v,hi0.few,by show vs3.length<_;omega,hi0.new⟩,rfl,hpv,hl3,hX⟩
theorem xu.mono {H G:Nat→Prop} {u:World} {h:uh} (k:xu u H h) (g:∀y,H y→G y):xu u G h:=
 ⟨k.row,k.rc,k.map,k.vals,k.vc,fun x hx=>(k.o x hx).mono g,fun x hx=>(k.v x hx).mono g,k.fr.mono g,k.fv.mono g,fun r e=>g r (k.fm r e),k.few,k.fev⟩
abbrev hasZ:uh:=⟨none,0,[],none,none,0,[]⟩
theorem hasZ_at (u:World) (H:Nat→Prop):xu u H hasZ:=⟨Sl.nil _ _ _,aD _,.inl ⟨rfl,fun _=>rfl⟩,Sl.nil _ _ _,aD _,fun _ h=>(by cases h),fun _ h=>(by cases h),fun _ _ e=>(by cases e),fun _ _ e=>(by cases e),fun _ e=>(by cases e),by decide,by decide⟩
theorem zw4.gj {W u u':World} {G:Nat→Prop} {h:uh} (k:zw4 W u G h) {b T:Nat} {L:List Value} (hE:Ext (One b) u u') (hb:gz u b T L) (hn:W.heap.size≤b) (hT:RestT T∧129≠T):zw4 W u' G h:=
 ⟨k.row.gj hE hb hn hT.1.2.2.2.2,k.rin,k.map.imp fun r e=>⟨e.1,e.2.1,e.2.2.gj hE hb⟩,k.vals.gj hE hb hT.2,fun x hx=>(k.o x hx).gj hE hb hT.1.1 hT.1.2.1 hT.1.2.2.1,fun x hx=>(k.v x hx).gj hE hb hT.1.2.2.2.1,k.few,k.fev,k.new⟩
theorem zw4.zv5 {W u u':World} {G:Nat→Prop} {h:uh} (k:zw4 W u G h) {p:Option Addr} {n c T sz:Nat} {xs:List Value} (ho:k8 W u p n c T sz xs) (hE:Ext (jb p) u u') (hT:RestT T∧129≠T):zw4 W u' G h:=by
 rcases ho.own with⟨d,_⟩|⟨b,l,d,e,_⟩
 ·exact k.ga (hE.mono fun x _ a=>by rw[d] at a;cases a)
 exact k.gj (hE.mono fun x _ a=>by rw[d] at a;exact(congrArg Addr.block (cG a)).symm) e (ho.new b d) hT
theorem zw4.hasLt {W u:World} {G:Nat→Prop} {h:uh} (k:zw4 W u G h) (hW:W.heap.size≤u.heap.size):xu u (fun y=>G y∧y<u.heap.size) h:=by
 obtain⟨r,p,i,q⟩:=k.map
 refine⟨k.row.sl,k.row.cap,.inr ⟨r,p,q⟩,k.vals.sl,k.vals.own.cap,fun x j=> ?_,fun x j=> ?_,fun b d e=>⟨k.rin b d e,?_⟩,fun b d e=>⟨ownN_in k.vals k.new b d e,?_⟩,fun t e=> ?_,k.few,k.fev⟩
 ·have a:=k.o x j
  exact⟨a.id,a.ok,a.ol,a.op,a.or,fun y g=>⟨a.f y g,g.elim a.ol.lt fun e=>e.elim a.op.lt a.or.lt⟩⟩
 ·have a:=k.v x j
  exact⟨a.o,fun y g=>⟨a.f y g,a.o.lt g⟩,a.ln,a.lo⟩
 ·rcases k.row with m|m
  ·exact aM (m.2.2 b d e) hW
  rcases m.own with⟨c,_⟩|⟨s,l,c,n,_⟩
  ·rw[e] at c;cases c
  rw[e] at c;cases c;exact n.lt
 ·rcases k.vals.own with⟨c,_⟩|⟨s,l,c,n,_⟩
  ·rw[e] at c;cases c
  rw[e] at c;cases c;exact n.lt
 rw[p] at e;cases e
 exact⟨k.new _ i,q.lt⟩
theorem brO_put {row l:List jq} {i:Nat} {p:List jq×List jq} (hi:i<l.length) (h:yy row (l.take i)=some p):yy row (l.take (i+1))=if(yq9 p.1 l[i]).2.1=0 then some ((yq9 p.1 l[i]).2.2,if(yq9 p.1 l[i]).1=true then p.2 else p.2++[l[i]]) else none:=by
 have e:yy row (l.take (i+1))=brO (yy row (l.take i)) l[i]:=Cj hi
 rw[e,h]
 show(if _ then _ else _)=_
 unfold yq9
 split
 ·rfl
 split<;>rfl
theorem bring_stop {row l:List jq} {i:Nat} (hi:i<l.length) (h:yy row (l.take (i+1))=none):yy row l=none:=by
 have e:yy row (l.take (i+1))=brO (yy row (l.take i)) l[i]:=Cj hi
 exact foldl_stop brO_none hi (e.symm.trans h)
theorem putR_four (row:List jq) (o:jq) (h:(yq9 row o).2.1≠0):(yq9 row o).2.1=4:=by
 unfold yq9 at h⊢
 split
 ·rename_i h1;rw[aR h1] at h;exact absurd rfl h
 rename_i h1;rw[aP h1] at h
 split
 ·rename_i h2;rw[aR h2] at h;exact absurd rfl h
 rfl
theorem putR_len (row:List jq) (o:jq):(yq9 row o).2.2.length≤row.length+1:=by
 unfold yq9;split
 ·exact Nat.le_succ _
 split
 ·rw[aB];exact aD _
 exact Nat.le_succ _
theorem seS_step {l:List Ax} {ss:List yo} {i:Nat} {v:List Ax} (hi:i<ss.length) (h:Bd l (ss.take i)=some v):Bd l (ss.take (i+1))=if FitD v ss[i] then some (xq5 v ss[i]) else none:=by
 have e:Bd l (ss.take (i+1))=seS (Bd l (ss.take i)) ss[i]:=Cj hi
 rw[e,h];rfl
theorem bringS_stop {l:List Ax} {ss:List yo} {i:Nat} (hi:i<ss.length) (h:Bd l (ss.take (i+1))=none):Bd l ss=none:=by
 have e:Bd l (ss.take (i+1))=seS (Bd l (ss.take i)) ss[i]:=Cj hi
 exact foldl_stop seS_none hi (e.symm.trans h)
theorem after_no1 {s:Sto} {b:Bu} (h:yy s.row b.objs=none):(jv s b).2.2=4:=by rw[jv,h]
theorem after_no2 {s:Sto} {b:Bu} {p:List jq×List jq} (h:yy s.row b.objs=some p) (k:Bd s.vals b.sets=none):(jv s b).2.2=200:=by rw[jv,h,k]
theorem after_three {s:Sto} {b:Bu} {p:List jq×List jq} {v:List Ax} (h:yy s.row b.objs=some p) (k:Bd s.vals b.sets=some v):jv s b=if 128<v.length then(s,zz1,6) else(⟨p.1,v⟩,⟨p.2,b.sets⟩,0):=by rw[jv,h,k]
structure BrgQ (w w':World) (H:Nat→Prop) (h:uh) (B:qu) (h':uh) (F:qu):Prop where
  eq:(jv h.s B.d).2.2=0→h'.s=(jv h.s B.d).1∧F.d=(jv h.s B.d).2.1∧∃r,h'.m=some r
  has:xu w' (Grow H w w') h'
  own:k8 w w' F.op F.os.length F.oc 37 73 (F.os.flatMap B6)
  bat:∀u',C9 u' B→k8 w u' F.op F.os.length F.oc 37 73 (F.os.flatMap B6)→C9 u' F
theorem BrgQ.no {w w':World} {H:Nat→Prop} {h:uh} {B:qu} {e:Int} (he:e≠0) (k:(jv h.s B.d).2.2=e):BrgQ w w' H h B hasZ vg:=⟨fun e'=>absurd (k.symm.trans e') he,hasZ_at _ _,k8.nil _ _ _ _,fun _ _ h=>⟨h.sl,Sl.nil _ _ _,fun _ e=>(by cases e),fun _ e=>(by cases e),by decide,by decide⟩⟩
theorem A8 (w:World) {H:Nat→Prop} {h:uh} (hx:xu w H h) (hH:∀y,H y→y<w.heap.size) {B:qu} (hB:C9 w B) (hok:z7 B.d) (hri:Ap h.s.vals) (hfo:h.hs.length+B.os.length<1000000) (hfv:h.vs.length+B.ss.length<1000000) (hr:Rt w):
  gn prog 64 [.agg h.c.toArray,B.v] w fun v w'=>∃(h':uh) (F:qu),v= .tuple #[.agg h'.c.toArray,F.v,.int .i64 (jv h.s B.d).2.2]∧BrgQ w w' H h B h' F∧Ext No w w':=by
 obtain⟨op,oc,os,sp,sc,ss⟩:=B
 dsimp only at hfo hfv
 refine gx func64 ?_
 have n:=Ext.refl No w
 refine ko (gw rfl fun b2 w1 dw Y cv=> ?_)
 have n:=n.gb cv
 have Y:gz w1 b2 121 (h.c):=Y
 refine gw rfl fun b3 w2 dx g c7=> ?_
 have Y:=Y.ga c7
 have n:=n.gb c7
 have g:gz w2 b3 25 ([.slice op os.length oc,.slice sp ss.length sc]):=g
 refine gw rfl fun b4 w3 cw a bu=> ?_
 have al:=aA n.size cw
 have Y:=Y.ga bu
 have g:=g.ga bu
 have n:=n.gb bu
 have a:gz w3 b4 121 ([.slice none 0 0,.map none,.slice none 0 0]):=a
 refine gw rfl fun b5 w4 c8 f b6=> ?_
 have C:=j2 a.lt c8
 have am:=aA n.size c8
 have Y:=Y.ga b6
 have g:=g.ga b6
 have a:=a.ga b6
 have n:=n.gb b6
 have f:gz w4 b5 25 ([.slice none 0 0,.slice none 0 0]):=f
 refine km rfl (ko (je Y rfl rfl ?_))
 obtain⟨W,c9⟩:∃W,W=w4:=⟨_,rfl⟩
 have ag:=n.size
 have a4:=hB.ga n
 have ca:Rt w4:=hr.ext n id
 have cb:=a.lt
 have cc:=f.lt
 refine gh call57 rfl (twin_calls w4 (hx.ga n) (fun y hy=>aM (hH y hy) n.size)) fun v5 w5 cx=> ?_
 obtain⟨h1,rfl,cd,cy,A,an⟩:=cx
 have g:=g.ga an
 have a:=a.ga an
 have f:=f.ga an
 have n:=n.gb an
 rw[←c9] at A ag a4 ca cb cc
 have p:Ext No W w5:=by rw[c9];exact an
 have a5:=p
 refine gw rfl fun b7 w6 ao j ah=> ?_
 have bv:=j2 g.lt ao
 have bw:=j2 a.lt ao
 have bx:=j2 f.lt ao
 have cz:=aA n.size ao
 have g:=g.ga ah
 have a:=a.ga ah
 have f:=f.ga ah
 have A:=A.ga ah
 have p:=p.gb ah
 have n:=n.gb ah
 have j:gz w6 b7 121 ([.slice none 0 0,.map none,.slice none 0 0]):=j
 have ac:=aA a5.size ao
 have ce:=j
 refine wl (j4 (l':=h1.c) gc j rfl rfl rfl rfl OneC.h fun w7 j ai dy=> ?_)
 have g:=g.gj ai bv
 have a:=a.gj ai bw
 have f:=f.gj ai bx
 have A:=A.gj ai ce ac zd
 have p:=p.gi ai ac
 have n:=n.gi ai cz
 refine qq (ki rfl (j6 g rfl rfl (kg rfl ⟨⟨rfl,by decide⟩,trivial⟩ (l':=[.slice none 0 0,.slice sp ss.length sc]) rfl ?_)))
 have a5:=p
 refine gw rfl fun b8 w8 aj l a6=> ?_
 have ap:=j2 g.lt aj
 have aq:=j2 a.lt aj
 have ar:=j2 f.lt aj
 have au:=j2 j.lt aj
 have cf:=aA n.size aj
 have g:=g.ga a6
 have a:=a.ga a6
 have f:=f.ga a6
 have j:=j.ga a6
 have A:=A.ga a6
 have p:=p.gb a6
 have n:=n.gb a6
 have l:gz w8 b8 25 ([.slice none 0 0,.slice none 0 0]):=l
 have ad:=aA a5.size aj
 have ae:=l
 refine wl (j4 (l':=[.slice none 0 0,.slice sp ss.length sc]) gc l rfl rfl rfl rfl OneC.h fun w9 l a7 dz=> ?_)
 have g:=g.gj a7 ap
 have a:=a.gj a7 aq
 have f:=f.gj a7 ar
 have j:=j.gj a7 au
 have A:=A.gj a7 ae ad zd
 have p:=p.gi a7 ad
 have n:=n.gi a7 cf
 refine qq (gl (ki rfl (j6 g rfl rfl (km rfl (j8 ?_)))))
 refine jj (α:=Nat×uh×Option Addr×Nat×List yj1) [3,4,5,7,8,22,23] rfl (fun z=>[(24,.int .i64 (z.1:Int))]) (fun z u=>(z.1≤os.length∧zw4 W u (fun y=>H y∨W.heap.size≤y) z.2.1∧Ext No W u∧k8 W u z.2.2.1 z.2.2.2.2.length z.2.2.2.1 37 73 (z.2.2.2.2.flatMap B6)∧yy h.s.row ((os.map Prod.fst).take z.1)=some (z.2.1.s.row,z.2.2.2.2.map Prod.fst)∧z.2.1.vs=h.vs∧z.2.1.hs.length≤h.hs.length+z.1∧(∀x∈z.2.2.2.2,x∈os)∧z.2.2.2.2.length≤z.1)∧gz u b3 25 ([.slice op os.length oc,.slice sp ss.length sc])∧gz u b4 121 ([.slice none 0 0,.map none,.slice none 0 0])∧gz u b5 25 ([.slice none 0 0,.slice none 0 0])∧gz u b7 121 (z.2.1.c)∧gz u b8 25 ([.slice z.2.2.1 z.2.2.2.2.length z.2.2.2.1,.slice sp ss.length sc])∧Ext No w u) (fun z u=>os.length-z.1) (0,h1,none,0,[]) rfl ⟨⟨aJ _,A,p,k8.nil _ _ _ _,by rw[uh.s,uh.s,cd];rfl,cy,by rw[cd];exact aD _,fun _ h=>(by cases h),aD _⟩,g,a,f,j,l,n⟩ ?_
 rintro⟨i,h2,q,k,fs⟩ e0 ⟨⟨bz,A,p,t,a0,a1,b9,a8,ak⟩,g,a,f,j,l,n⟩
 try dsimp only
 dsimp only at bz A p t a0 a1 b9 a8 ak j l
 refine jd rfl (gl (jl rfl (fun Z=> ?_) (fun Z=> ?_)))
 ·have D:i<os.length:=by omega
  have av:i<(os.map Prod.fst).length:=by rw[aE];exact D
  have c0:(os.map Prod.fst)[i]=os[i].1:=bR ..
  have L:=brO_put av a0
  rw[c0] at L
  dsimp only at L
  have a2:=a4.o _ (aG D)
  obtain⟨qb,qo,hp,c1⟩:=a4.os.qd (fun x hx=>gp (a4.o x hx).i) zn
  dsimp only at hp
  subst hp
  refine x3 ?_
  refine ji (α:=uh×Option Addr×Nat×List yj1) [3,4,5,7,8,22,23,24] rfl (fun z=>[]) (fun z u=>(zw4 W u (fun y=>H y∨W.heap.size≤y) z.1∧Ext No W u∧k8 W u z.2.1 z.2.2.2.length z.2.2.1 37 73 (z.2.2.2.flatMap B6)∧yy h.s.row ((os.map Prod.fst).take (i+1))=some (z.1.s.row,z.2.2.2.map Prod.fst)∧z.1.vs=h.vs∧z.1.hs.length≤h.hs.length+(i+1)∧(∀x∈z.2.2.2,x∈os)∧z.2.2.2.length≤(i+1))∧gz u b3 25 ([.slice (some ⟨qb,qo,none⟩) os.length oc,.slice sp ss.length sc])∧gz u b4 121 ([.slice none 0 0,.map none,.slice none 0 0])∧gz u b5 25 ([.slice none 0 0,.slice none 0 0])∧gz u b7 121 (z.1.c)∧gz u b8 25 ([.slice z.2.1 z.2.2.2.length z.2.2.1,.slice sp ss.length sc])∧Ext No w u) ?_ ?_
  ·refine j8 ?_
   refine ko (ka rfl 73 rfl i rfl D (qo+i*73) rfl (jm rfl ((c1 i D).ga p) (gp a2.i) ?_))
   have d0:=t
   have a5:=p
   refine gw rfl fun d1 e3 M R E=> ?_
   have ba:=j2 g.lt M
   have bb:=j2 a.lt M
   have bc:=j2 f.lt M
   have bd:=j2 j.lt M
   have bf:=j2 l.lt M
   have cg:=aA n.size M
   have g:=g.ga E
   have a:=a.ga E
   have f:=f.ga E
   have j:=j.ga E
   have l:=l.ga E
   have A:=A.ga E
   have p:=p.gb E
   have t:=t.ga E
   have n:=n.gb E
   have aw:=aA a5.size M
   have ch:∀y,jb q y→y≠d1:=fun y hy=>j2 (d0.own.lt hy) M
   have c2:=R
   refine wl (j4 (l':=jn os[i].1 os[i].2) gc R rfl rfl (gp a2.i) (by rw[gp a2.i];rfl) OneC.h fun d2 R G dg=> ?_)
   have g:=g.gj G ba
   have a:=a.gj G bb
   have f:=f.gj G bc
   have j:=j.gj G bd
   have l:=l.gj G bf
   have A:=A.gj G c2 aw zd
   have p:=p.gi G aw
   have t:=k8.mk (t.own.ext G fun y hy e=>ch y hy e) t.new
   have n:=n.gi G cg
   refine qq (ko (je R rfl (gp a2.i) ?_))
   refine gh call141 rfl (puts_calls d2 j A p zo (a4.o _ (aG D)) (hok.2.2.1 _ (List.mem_map_of_mem (aG D))) ca ac) fun e4 e5 ci=> ?_
   obtain⟨h3,rfl,j,d3,a9,bm,N⟩:=ci
   have g:=g.brg N zd
   have f:=f.brg N zd
   have l:=l.brg N zd
   have R:=R.brg N zd
   have a:=a.ext N fun e=>by have:=e.1;omega
   have t:=k8.mk (t.own.brg N zd) t.new
   have p:=p.newer N fun y e=>e.1
   have n:=n.newer N fun y e=>aA ag e.1
   have A:=d3
   have bn:h3.hs.length≤h.hs.length+(i+1):=by
    have e:=congrArg List.length a9
    have e2:=putR_len h2.s.row os[i].1
    rw[←e,uh.s,uh.s,aE,aE] at e2
    omega
   refine km rfl (gl (jd rfl (jl rfl (fun Z=> ?_) (fun Z=> ?_))))
   ·rw[aP Z] at L
    have Q:=after_no1 (b:=⟨(os.map Prod.fst),(ss.map Prod.fst)⟩) (bring_stop av L)
    have d4:=putR_four _ _ Z
    refine ko (kg rfl trivial (l':=[.slice none 0 0,.map none,.slice none 0 0]) rfl (kg rfl trivial (l':=[.slice none 0 0,.slice none 0 0]) rfl (j0 gc rfl ?_)))
    refine wl (j4 (l':=[.slice none 0 0,.map none,.slice none 0 0]) gc a rfl rfl rfl rfl OneC.h fun e6 a bo dh=> ?_)
    have f:=f.gj bo C.symm
    have n:=n.gi bo al
    refine wl (j4 (l':=[.slice none 0 0,.slice none 0 0]) gc f rfl rfl rfl rfl OneC.h fun e7 f bp di=> ?_)
    have a:=a.gj bp C
    have n:=n.gi bp am
    refine vr rfl (j7 (gGl (qe [_,_,_] ⟨⟨b4,0,rfl,qg gc rfl rfl a.kj rfl⟩,⟨b5,0,rfl,qg gc rfl rfl f.kj rfl⟩,rfl,trivial⟩ ?_)))
    exact⟨hasZ,vg,by rw[d4,←Q];rfl,BrgQ.no zd Q,n⟩
   rw[aR (aS.1 Z)] at L
   refine x3 (jd rfl (ud rfl (fun Z=> ?_) (fun Z=> ?_)))
   ·have c3:(yq9 h2.s.row os[i].1).1=false:=by simpa using Z
    refine yl rfl (j6 l rfl rfl (je R rfl (gp a2.i) ?_))
    refine wl (qi gc rfl 73 rfl objZc (gp qf) zd zd ⟨⟨by rw[jh];exact gp a2.i,by decide⟩,trivial⟩ (l':=B6 os[i]) (xz2 a2.i) fun d5 e8 dj cj I dk=> ?_)
    have g:=g.ga I
    have a:=a.ga I
    have f:=f.ga I
    have j:=j.ga I
    have l:=l.ga I
    have A:=A.ga I
    have p:=p.gb I
    have t:=t.ga I
    have n:=n.gb I
    have ck:=t
    have ax:=t.own
    refine wl (xj gc rfl 73 192 rfl rfl rfl zd t (Src.slice (m:=1) ⟨gp a2.i,.inr ⟨d5,0,rfl,cj.kj⟩⟩ OneC.h) zm zn (n':=(fs++[os[i]]).length) (ys:=(fs++[os[i]]).flatMap B6) zi (by rw[bC,bU];rfl) p fun q4 k4 e9 t O d6=> ?_)
    dsimp only at t O
    have g:=g.ke ax O (show(37:Nat)≠25 from by decide)
    have a:=a.ke ax O (show(37:Nat)≠121 from by decide)
    have f:=f.ke ax O (show(37:Nat)≠25 from by decide)
    have j:=j.ke ax O (show(37:Nat)≠121 from by decide)
    have l:=l.ke ax O (show(37:Nat)≠25 from by decide)
    have n:=n.newer O fun y hy=>aA ag (ck.new y hy)
    have A:=A.zv5 ck O zd
    have p:=d6
    refine j0 gc rfl ?_
    have ae:=l
    refine kl l rfl rfl rfl fun ea l P dl=> ?_
    have g:=g.gj P ap
    have a:=a.gj P aq
    have f:=f.gj P ar
    have j:=j.gj P au
    have A:=A.gj P ae ad zd
    have p:=p.gi P ad
    have t:=t.gj P ae zd
    have n:=n.gi P cf
    refine gk ?_
    exact js (gr (h3,q4,k4,fs++[os[i]]) rfl ⟨⟨A,p,t,by rw[L,c3,aP zd,a9,bX];rfl,bm.trans a1,bn,fun x hx=>(aY.1 hx).elim (a8 x) fun e=>by rw[aI.1 e];exact aG D,by rw[aB];exact Nat.succ_le_succ ak⟩,g,a,f,j,l,n⟩)
   have c3:(yq9 h2.s.row os[i].1).1=true:=by simpa using Z
   refine kc ?_
   exact js (gr (h3,q,k,fs) rfl ⟨⟨A,p,t,by rw[L,c3,aR rfl,a9],bm.trans a1,bn,a8,Nat.le_succ_of_le ak⟩,g,a,f,j,l,n⟩)
  rintro⟨h3,q3,k3,d7⟩ eb ⟨⟨A,p,t,a0,a1,b9,a8,ak⟩,g,a,f,j,l,n⟩
  try dsimp only
  dsimp only at A p t a0 a1 b9 a8 ak j l
  refine yl rfl ?_
  rw[jz _ zo]
  refine gk ?_
  exact jk (i+1,h3,q3,k3,d7) rfl ⟨⟨D,A,p,t,a0,a1,b9,a8,ak⟩,g,a,f,j,l,n⟩ zf
 have h0:i=os.length:=by omega
 subst h0
 rw[show os.length=(os.map Prod.fst).length from(aE ..).symm,bZ] at a0
 refine Ak (gl (ki rfl (j6 g rfl rfl (km rfl (j8 ?_)))))
 refine jj (α:=Nat×uh) [4,5,7,8,48,49] rfl (fun z=>[(50,.int .i64 (z.1:Int))]) (fun z u=>(z.1≤ss.length∧zw4 W u (fun y=>H y∨W.heap.size≤y) z.2∧Ext No W u∧k8 W u q fs.length k 37 73 (fs.flatMap B6)∧Bd h.s.vals ((ss.map Prod.fst).take z.1)=some z.2.s.vals∧z.2.hs=h2.hs∧z.2.vs.length≤h.vs.length+z.1)∧gz u b3 25 ([.slice op os.length oc,.slice sp ss.length sc])∧gz u b4 121 ([.slice none 0 0,.map none,.slice none 0 0])∧gz u b5 25 ([.slice none 0 0,.slice none 0 0])∧gz u b7 121 (z.2.c)∧gz u b8 25 ([.slice q fs.length k,.slice sp ss.length sc])∧Ext No w u) (fun z u=>ss.length-z.1) (0,h2) rfl ⟨⟨aJ _,A,p,t,by rw[uh.s,uh.s,a1];rfl,rfl,by rw[a1];exact aD _⟩,g,a,f,j,l,n⟩ ?_
 rintro⟨i,h3⟩ cl ⟨⟨bz,A,p,t,ay,c4,d8⟩,g,a,f,j,l,n⟩
 try dsimp only
 dsimp only at bz A p t ay c4 d8 j
 refine jd rfl (gl (jl rfl (fun Z=> ?_) (fun Z=> ?_)))
 ·have D:i<ss.length:=by omega
  have av:i<(ss.map Prod.fst).length:=by rw[aE];exact D
  have c0:(ss.map Prod.fst)[i]=ss[i].1:=bR ..
  have L:=seS_step av ay
  rw[c0] at L
  have cm:Ap h3.s.vals:=(xq9 _ ay hri).1
  obtain⟨qb,qo,hp,c1⟩:=a4.ss.qd (fun x hx=>Bh x) zn
  dsimp only at hp
  subst hp
  refine Ac (ko (ka rfl 5 rfl i rfl D (qo+i*5) rfl (jm rfl ((c1 i D).ga p) rfl ?_)))
  have a5:=p
  refine gw rfl fun ec ed S af J=> ?_
  have bg:=j2 g.lt S
  have bh:=j2 a.lt S
  have bi:=j2 f.lt S
  have bj:=j2 j.lt S
  have bk:=j2 l.lt S
  have cn:=aA n.size S
  have g:=g.ga J
  have a:=a.ga J
  have f:=f.ga J
  have j:=j.ga J
  have l:=l.ga J
  have A:=A.ga J
  have p:=p.gb J
  have t:=t.ga J
  have n:=n.gb J
  have az:=aA a5.size S
  have b0:=af
  refine wl (j4 (l':=uz ss[i]) gc af rfl rfl rfl rfl OneC.h fun d9 af K dm=> ?_)
  have g:=g.gj K bg
  have a:=a.gj K bh
  have f:=f.gj K bi
  have j:=j.gj K bj
  have l:=l.gj K bk
  have A:=A.gj K b0 az zd
  have p:=p.gi K az
  have t:=t.gj K b0 zd
  have n:=n.gi K cn
  refine qq (ko (je af rfl rfl ?_))
  refine gh call142 rfl (sets_calls d9 j A p zo (a4.s _ (aG D)) (hok.2.2.2.1 _ (List.mem_map_of_mem (aG D))) cm ac) fun ee ef co=> ?_
  obtain⟨h4,rfl,j,da,cp,b1,dn,T⟩:=co
  have g:=g.brg T zd
  have f:=f.brg T zd
  have l:=l.brg T zd
  have a:=a.ext T fun e=>by have:=e.1;omega
  have t:=k8.mk (t.own.brg T zd) t.new
  have p:=p.newer T fun y e=>e.1
  have n:=n.newer T fun y e=>aA ag e.1
  have A:=da
  refine km rfl (jd rfl (jl rfl (fun Z=> ?_) (fun Z=> ?_)))
  ·have cq:¬FitD h3.s.vals ss[i].1:=fun k=>Z (aR k)
   rw[aP cq] at L
   have Q:=after_no2 (b:=⟨(os.map Prod.fst),(ss.map Prod.fst)⟩) a0 (bringS_stop av L)
   refine ko (kg rfl trivial (l':=[.slice none 0 0,.map none,.slice none 0 0]) rfl (kg rfl trivial (l':=[.slice none 0 0,.slice none 0 0]) rfl (j0 gc rfl ?_)))
   refine wl (j4 (l':=[.slice none 0 0,.map none,.slice none 0 0]) gc a rfl rfl rfl rfl OneC.h fun eg a bq dp=> ?_)
   have f:=f.gj bq C.symm
   have n:=n.gi bq al
   refine wl (j4 (l':=[.slice none 0 0,.slice none 0 0]) gc f rfl rfl rfl rfl OneC.h fun eh f br dq=> ?_)
   have a:=a.gj br C
   have n:=n.gi br am
   refine vr rfl (gGl (qe [_,_,_] ⟨⟨b4,0,rfl,qg gc rfl rfl a.kj rfl⟩,⟨b5,0,rfl,qg gc rfl rfl f.kj rfl⟩,rfl,trivial⟩ ?_))
   have db:(if FitD h3.s.vals (ss.get ⟨i,D⟩).1 then(0:Int) else 200)=200:=aP cq
   exact⟨hasZ,vg,by rw[db,←Q];rfl,BrgQ.no zd Q,n⟩
  have cr:FitD h3.s.vals ss[i].1:=cZ fun k=>Z (fun e=>by have e2:(if FitD h3.s.vals (ss.get ⟨i,D⟩).1 then(0:Int) else 200)=200:=aP k;rw[e2] at e;cases e)
  rw[aR cr] at L
  have b1:h4.s.vals=xq5 h3.s.vals ss[i].1:=b1.trans (aR cr)
  refine kc (Aa rfl ?_)
  rw[jz _ zo]
  refine gk ?_
  exact jk (i+1,h4) rfl ⟨⟨D,A,p,t,by rw[L,b1],cp.trans c4,(by show h4.vs.length≤h.vs.length+(i+1);omega)⟩,g,a,f,j,l,n⟩ zf
 have h0:i=ss.length:=by omega
 subst h0
 rw[show ss.length=(ss.map Prod.fst).length from(aE ..).symm,bZ] at ay
 have Q:=after_three (b:=⟨(os.map Prod.fst),(ss.map Prod.fst)⟩) a0 ay
 refine Ak (gl (ki rfl (j6 j rfl rfl (km rfl (jl rfl (fun Z=> ?_) (fun Z=> ?_))))))
 ·have c5:128<(h3.s.vals).length:=by rw[uh.s,aE];omega
  rw[aR c5] at Q
  refine ko (kg rfl trivial (l':=[.slice none 0 0,.map none,.slice none 0 0]) rfl (kg rfl trivial (l':=[.slice none 0 0,.slice none 0 0]) rfl ?_))
  refine wl (j4 (l':=[.slice none 0 0,.map none,.slice none 0 0]) gc a rfl rfl rfl rfl OneC.h fun ei a bs dr=> ?_)
  have f:=f.gj bs C.symm
  have n:=n.gi bs al
  refine wl (j4 (l':=[.slice none 0 0,.slice none 0 0]) gc f rfl rfl rfl rfl OneC.h fun ej f bt ds=> ?_)
  have a:=a.gj bt C
  have n:=n.gi bt am
  refine vr rfl (j7 (qe [_,_,_] ⟨⟨b4,0,rfl,qg gc rfl rfl a.kj rfl⟩,⟨b5,0,rfl,qg gc rfl rfl f.kj rfl⟩,rfl,trivial⟩ ?_))
  have V:=congrArg (fun x=>x.2.2) Q
  dsimp only at V
  exact⟨hasZ,vg,by rw[←V];rfl,BrgQ.no zd V,n⟩
 have c5:¬128<(h3.s.vals).length:=by rw[uh.s,aE];omega
 rw[aP c5] at Q
 have dc:∃r,h3.m=some r:=A.map.imp fun _ e=>e.1
 have aa:=A.hasLt p.size
 have ab:=aD cl.heap.size
 have nF:∀b,b<W.heap.size→w.heap.size≤b→∀y,((H y∨W.heap.size≤y)∧y<cl.heap.size)→¬One b y:=fun b h1 h2 y hy e=>by
  have e:y=b:=e
  rcases hy.1 with hy|hy
  ·have:=hH y hy;omega
  omega
 have n4:=nF b4 cb al
 have n5:=nF b5 cc am
 refine x3 (gl (jr rfl 3 [qP 0,qP 1,(2,false)] [3,4] (fun x=>x=b4∨x=b5) zk fun dd U dt=> ?_))
 have de:=j
 have df:=l
 have a:=a.ga U
 have f:=f.ga U
 have t:=t.ga U
 have aa:=aa.ga U
 have ab:=aA ab U.size
 have n:=n.gb U
 have hC:Ext (fun x=>x=b4∨x=b5) _ dd:=U.no
 refine qa gc rfl rfl (fun w' c6=>(de.ext (show Ext (fun x=>x=b4∨x=b5) _ w' from c6) fun e=>by have e:_=_∨_=_:=e;omega).kj) rfl ?_
 refine qa gc rfl rfl (fun w' c6=>(df.ext (show Ext (fun x=>x=b4∨x=b5) _ w' from c6) fun e=>by have e:_=_∨_=_:=e;omega).kj) rfl ?_
 have cs:=a
 refine jo rfl (j4 (l':=h3.c) gc a rfl rfl rfl rfl OneC.h fun ek a X du=>⟨hC.then (X.mono fun _ _ e=>by have e:_=_:=e;show _=_∨_=_;omega),?_⟩)
 have f:=f.gj X C.symm
 have t:=t.gj X cs zd
 have aa:=aa.ext X n4
 have ab:=aA ab X.size
 have n:=n.gi X al
 refine jg ?_
 have ct:=f
 refine wb rfl (j4 (l':=[.slice q fs.length k,.slice sp ss.length sc]) gc f rfl rfl rfl rfl OneC.h fun el f a3 dv=> ?_)
 have a:=a.gj a3 C
 have t:=t.gj a3 ct zd
 have aa:=aa.ext a3 n5
 have ab:=aA ab a3.size
 have n:=n.gi a3 am
 refine wb rfl (zx9 gc rfl rfl rfl (j5 (jp (j9 (qe [_,_,_] ⟨⟨b4,0,rfl,qg gc rfl rfl a.kj rfl⟩,⟨b5,0,rfl,qg gc rfl rfl f.kj rfl⟩,rfl,trivial⟩ ?_)))))
 have V:=congrArg (fun x=>x.2.2) Q
 dsimp only at V
 have cu:(jv h.s ⟨(os.map Prod.fst),(ss.map Prod.fst)⟩).1=h3.s:=(congrArg (fun x=>x.1) Q).trans (by rw[uh.s,uh.s,c4])
 exact⟨h3,⟨q,k,fs,sp,sc,ss⟩,by rw[←V];rfl,⟨fun _=>⟨cu.symm,(congrArg (fun x=>x.2.1) Q).symm,dc⟩,aa.mono fun y e=>e.1.imp id fun e1=>⟨aA ag e1,aM e.2 ab⟩,t.older ag,fun u' h ho=>⟨ho.sl,h.ss,fun x hx=>h.o x (a8 x hx),h.s,(by show fs.length<1000000;omega),h.ls⟩⟩,n⟩
theorem heldO {w:World} {b off:Nat} {h:u3} (hs:Seg w b off (Bx h)) (hid:h.id.length=32):Seg w b (off+32) (jn h.o h.a):=by
 have h:=(Seg.append.1 hs).2
 rw[gm,hid] at h;exact h
abbrev oxH (x:u3):yj1:=(x.o,x.a)
abbrev sxV (x:Bt):By:=(⟨x.1.1,false,true,[],x.1.2⟩,⟨none,0,x.2.1,x.2.2⟩)
theorem yw4 {α β:Type} {f:α→β} {l:List α} {i:Nat} (hi:i<l.length):(l.take i).map f++[f l[i]]=(l.take (i+1)).map f:=by
 rw[aQ hi,bX];rfl
theorem sall_calls (w:World) {H:Nat→Prop} {h:uh} (hx:xu w H h):
  gn prog 61 [.agg h.c.toArray] w fun v w'=>∃B:qu,v=B.v∧B.d=Bf h.s∧C9 w' B∧Ext No w w':=by
 have a9:=hx.few
 have aa:=hx.fev
 refine gx func61 ?_
 have e:=Ext.refl No w
 refine ko (gw rfl fun b1 w1 ap b ab=> ?_)
 have e:=e.gb ab
 have b:gz w1 b1 121 (h.c):=b
 refine gw rfl fun b2 w2 a3 a a4=> ?_
 have G:=j2 b.lt a3
 have T:=aA e.size a3
 have b:=b.ga a4
 have e:=e.gb a4
 have a:gz w2 b2 25 ([.slice none 0 0,.slice none 0 0]):=a
 refine qq (gl (ki rfl (j6 b rfl rfl (km rfl (j8 ?_)))))
 refine jj (α:=Nat×Option Addr×Nat×List yj1) [1,2,8,9] rfl (fun z=>[(10,.int .i64 (z.1:Int))]) (fun z u=>(z.1≤h.hs.length∧k8 w u z.2.1 z.2.2.2.length z.2.2.1 37 73 (z.2.2.2.flatMap B6)∧z.2.2.2=(h.hs.take z.1).map oxH)∧gz u b1 121 (h.c)∧gz u b2 25 ([.slice z.2.1 z.2.2.2.length z.2.2.1,.slice none 0 0])∧Ext No w u) (fun z u=>h.hs.length-z.1) (0,none,0,[]) rfl ⟨⟨aJ _,k8.nil _ _ _ _,rfl⟩,b,a,e⟩ ?_
 rintro⟨i,q,k,M⟩ w3 ⟨⟨U,g,C⟩,b,a,e⟩
 try dsimp only
 dsimp only at U g C a
 refine jd rfl (gl (jl rfl (fun hc=> ?_) (fun hc=> ?_)))
 ·have j:i<h.hs.length:=by omega
  have ac:M.length=i:=by rw[C,aE,aL];omega
  have p:=hx.o _ (aG j)
  have ad:h.hs[i].id.length=32:=by rw[p.id];exact vu _
  obtain⟨qb,qo,hp,V⟩:=hx.row.qd hx.held zo
  rw[hp]
  refine Ac (ko (ka rfl 105 rfl i rfl j (qo+i*105) rfl (jm rfl ((V i j).ga e) (p.len) ?_)))
  have ae:=g
  refine gw rfl fun b4 w4 N O P=> ?_
  have W:=j2 b.lt N
  have X:=j2 a.lt N
  have af:=aA e.size N
  have b:=b.ga P
  have a:=a.ga P
  have g:=g.ga P
  have e:=e.gb P
  have aq:∀y,jb q y→y≠b4:=fun y hy=>j2 (ae.own.lt hy) N
  have a5:=O
  refine wl (j4 (l':=Bx h.hs[i]) gc O rfl rfl (p.len) (by rw[p.len];rfl) OneC.h fun w5 O Q ar=> ?_)
  have b:=b.gj Q W
  have a:=a.gj Q X
  have g:=g.gj Q a5 zd
  have e:=e.gi Q af
  refine qq (yl rfl (j6 a rfl rfl (j0 gc rfl (jm rfl (heldO O.kj ad) (gp p.ok.1) ?_))))
  refine wl (qi gc rfl 73 rfl objZc (gp qf) zd zd ⟨⟨by rw[jh];exact gp p.ok.1,by decide⟩,trivial⟩ (l':=B6 (oxH h.hs[i])) (xz2 p.ok.1) fun ag w6 aj a6 R au=> ?_)
  have b:=b.ga R
  have a:=a.ga R
  have g:=g.ga R
  have e:=e.gb R
  have a7:=g.own
  refine wl (xj gc rfl 73 192 rfl rfl rfl zd g (Src.slice (m:=1) ⟨gp p.ok.1,.inr ⟨ag,0,rfl,a6.kj⟩⟩ OneC.h) zm zn (n':=(M++[oxH h.hs[i]]).length) (ys:=(M++[oxH h.hs[i]]).flatMap B6) zi (by rw[bC,bU];rfl) e fun q4 k4 w7 g Y e=> ?_)
  dsimp only at g Y
  have b:=b.ke a7 Y (show(37:Nat)≠121 from by decide)
  have a:=a.ke a7 Y (show(37:Nat)≠25 from by decide)
  refine j0 gc rfl ?_
  have n:=a
  refine kl a rfl rfl rfl fun w8 a Z av=> ?_
  have b:=b.gj Z G
  have g:=g.gj Z n zd
  have e:=e.gi Z T
  refine gk (Aa rfl ?_)
  rw[jz _ zo]
  refine gk ?_
  exact jk (i+1,q4,k4,M++[oxH h.hs[i]]) rfl ⟨⟨j,g,by rw[C,yw4 j]⟩,b,a,e⟩ zf
 have h0:i=h.hs.length:=by omega
 subst h0
 rw[bZ] at C
 refine Ak (gl (ki rfl (j6 b rfl rfl (km rfl (j8 ?_)))))
 refine jj (α:=Nat×Option Addr×Nat×List By) [2,23,24] rfl (fun z=>[(25,.int .i64 (z.1:Int))]) (fun z u=>(z.1≤h.vs.length∧k8 w u q M.length k 37 73 (M.flatMap B6)∧k8 w u z.2.1 z.2.2.2.length z.2.2.1 91 5 (z.2.2.2.flatMap uz)∧z.2.2.2=(h.vs.take z.1).map sxV)∧gz u b1 121 (h.c)∧gz u b2 25 ([.slice q M.length k,.slice z.2.1 z.2.2.2.length z.2.2.1])∧Ext No w u) (fun z u=>h.vs.length-z.1) (0,none,0,[]) rfl ⟨⟨aJ _,g,k8.nil _ _ _ _,rfl⟩,b,a,e⟩ ?_
 rintro⟨i,q2,k2,ss⟩ w9 ⟨⟨U,g,f,D⟩,b,a,e⟩
 try dsimp only
 dsimp only at U g f D a
 refine jd rfl (gl (jl rfl (fun hc=> ?_) (fun hc=> ?_)))
 ·have j:i<h.vs.length:=by omega
  have ac:ss.length=i:=by rw[D,aE,aL];omega
  have aw:=hx.v _ (aG j)
  obtain⟨qb,qo,hp,V⟩:=hx.vals.qd (fun x _=>Bi x) zo
  rw[hp]
  refine Ac (ko (ka rfl 2 rfl i rfl j (qo+i*2) rfl (jm rfl ((V i j).ga e) rfl (gw rfl fun b6 ax a0 I r=> ?_))))
  have a1:=j2 b.lt a0
  have a2:=j2 a.lt a0
  have ah:=aA e.size a0
  have b:=b.ga r
  have a:=a.ga r
  have g:=g.ga r
  have f:=f.ga r
  have e:=e.gb r
  have S:=I
  refine wl (j4 (l':=xm h.vs[i]) gc I rfl rfl rfl rfl OneC.h fun ay I t ak=> ?_)
  have b:=b.gj t a1
  have a:=a.gj t a2
  have g:=g.gj t S zd
  have f:=f.gj t S zd
  have e:=e.gi t ah
  refine qq (yl rfl (j6 a rfl rfl (j0 gc rfl (j6 I rfl rfl (j0 gc rfl (j6 I rfl rfl ?_))))))
  refine kg rfl ⟨⟨rfl,by decide⟩,⟨rfl,by decide⟩,⟨rfl,by decide⟩,trivial⟩ (l':=uz (sxV h.vs[i])) rfl ?_
  refine wl (qi gc rfl 5 rfl setZc rfl zd zd ⟨⟨rfl,by decide⟩,trivial⟩ (l':=uz (sxV h.vs[i])) (set_put _) fun ai az al a8 A am=> ?_)
  have b:=b.ga A
  have a:=a.ga A
  have g:=g.ga A
  have f:=f.ga A
  have e:=e.gb A
  have J:=f.own
  refine wl (xj gc rfl 5 72 rfl rfl rfl zd f (Src.slice (m:=1) ⟨rfl,.inr ⟨ai,0,rfl,a8.kj⟩⟩ OneC.h) zm zn (n':=(ss++[sxV h.vs[i]]).length) (ys:=(ss++[sxV h.vs[i]]).flatMap uz) zi (by rw[bC,bU]) e fun q4 k4 b0 f E e=> ?_)
  dsimp only at f E
  have b:=b.ke J E (show(91:Nat)≠121 from by decide)
  have a:=a.ke J E (show(91:Nat)≠25 from by decide)
  have g:=g.zv5 J E zd
  refine j0 gc rfl ?_
  have n:=a
  refine kl a rfl rfl rfl fun b3 a F an=> ?_
  have b:=b.gj F G
  have g:=g.gj F n zd
  have f:=f.gj F n zd
  have e:=e.gi F T
  refine gk (Aa rfl ?_)
  rw[jz _ zo]
  refine gk ?_
  exact jk (i+1,q4,k4,ss++[sxV h.vs[i]]) rfl ⟨⟨j,g,f,by rw[D,yw4 j]⟩,b,a,e⟩ zf
 have h0:i=h.vs.length:=by omega
 subst h0
 rw[bZ] at D
 refine Ak (ko (je a rfl rfl ?_))
 have n:=a
 refine wl (j4 (l':=[.slice q M.length k,.slice q2 ss.length k2]) gc a rfl rfl rfl rfl OneC.h fun b5 a K ao=> ?_)
 have g:=g.gj K n zd
 have f:=f.gj K n zd
 have e:=e.gi K T
 refine qq (j9 (qe [_] ⟨⟨b2,0,rfl,qg gc rfl rfl a.kj rfl⟩,trivial⟩ ?_))
 exact⟨⟨q,k,M,q2,k2,ss⟩,rfl,by rw[qu.d,Bf,uh.s,C,D,List.map_map,List.map_map,List.map_map];rfl,⟨g.sl,f.sl,fun x L=>(by rw[C] at L;obtain⟨y,hy,rfl⟩:=bN.1 L;have ho:=hx.o y hy;exact⟨ho.ok.1,ho.ok.2,ho.l.ga e⟩),fun x L=>(by rw[D] at L;obtain⟨y,hy,rfl⟩:=bN.1 L;have ho:=hx.v y hy;exact⟨Sl.nil _ _ _,ho.s.ga e,ho.ln,(by show(0:Nat)<_;omega),ho.lo⟩),(by rw[C];show(List.map _ _).length<_;rw[aE];exact a9),(by rw[D];show(List.map _ _).length<_;rw[aE];exact aa)⟩,e⟩
theorem readB_two (l:Bytes):((vi l).2=0∧z7 (vi l).1∧uf (vi l).1=l)∨((vi l).2≠0∧(vi l).1=zz1):=by
 unfold vi
 split
 ·exact .inr ⟨by decide,rfl⟩
 split
 ·rename_i h;exact .inl ⟨rfl,h.2⟩
 exact .inr ⟨by decide,rfl⟩
theorem readB_may {l:Bytes} (h:(vi l).2=0):z7 (vi l).1:=(readB_two l).elim (fun e=>e.2.1) fun e=>absurd h e.1
theorem zz3 {H:Nat→Prop} {v u:World} {b:Nat} (hb:u.heap.size≤b) (hH:∀y,H y→y<v.heap.size) (hv:v.heap.size≤u.heap.size):∀y,Grow H v u y→¬One b y:=fun y hy e=>by
 have e:y=b:=e
 rcases hy with hy|hy
 ·have:=hH y hy;omega
 omega
theorem zx7 {H:Nat→Prop} {w v u:World} {b:Nat} (hb:b<v.heap.size) (hw:w.heap.size≤b) (hH:∀y,H y→y<w.heap.size):∀y,Grow H v u y→¬One b y:=fun y hy e=>by
 have e:y=b:=e
 rcases hy with hy|hy
 ·have:=hH y hy;omega
 omega
theorem said_yes {s:Sto} {l:Bytes} {F B:qu} (h0:(vi l).2=0) (hB:B.d=(vi l).1) (h1:(jv s (vi l).1).2.2=0) (hF:F.d=(jv s (vi l).1).2.1):decide ((F.os.length:Int)=(B.os.length:Int))=(vm s l).isSome:=by
 have a:F.os.length=(jv s (vi l).1).2.1.objs.length:=by rw[←hF,qu.d,aE]
 have b:B.os.length=(vi l).1.objs.length:=by rw[←hB,qu.d,aE]
 unfold vm
 rw[a,b]
 by_cases k:(jv s (vi l).1).2.1.objs.length=(vi l).1.objs.length
 ·rw[aR ⟨h0,h1,k⟩,bQ (by rw[k])];rfl
 rw[aP fun e=>k e.2.2,bO zo];rfl
theorem said_no {s:Sto} {l:Bytes} (h1:(jv s (vi l).1).2.2≠0):false=(vm s l).isSome:=by
 rw[vm,aP fun e=>h1 e.2.1];rfl
theorem said_some {s t:Sto} {l:Bytes} (h:vm s l=some t):(vi l).2=0∧(jv s (vi l).1).2.2=0∧t=(jv s (vi l).1).1:=by
 unfold vm at h
 split at h
 ·rename_i k;cases h;exact⟨k.1,k.2.1,rfl⟩
 cases h
theorem said_calls (w:World) {H:Nat→Prop} {h:uh} (hx:xu w H h) (hH:∀y,H y→y<w.heap.size) (hri:Ap h.s.vals) {p:Option Addr} {c:Nat} {l:Bytes} (hs:ux w p l) (hl:l.length<1000000000) (hro:h.hs.length+5000<1000000) (hrv:h.vs.length+200<1000000) (hr:Rt w):
  gn prog 60 [.agg h.c.toArray,.slice p l.length c] w fun v w'=>∃h':uh,v= .tuple #[.agg h'.c.toArray,.bool (vm h.s l).isSome]∧(∀s,vm h.s l=some s→h'.s=s∧∃r,h'.m=some r)∧xu w' (Grow H w w') h'∧Ext No w w':=by
 refine gx func60 ?_
 have g:=Ext.refl No w
 refine ko (gw rfl fun b2 w1 b1 b ai=> ?_)
 have g:=g.gb ai
 have b:gz w1 b2 121 (h.c):=b
 refine gw rfl fun K w2 aa a ab=> ?_
 have O:=j2 b.lt aa
 have U:=aA g.size aa
 have b:=b.ga ab
 have g:=g.gb ab
 have a:gz w2 K 121 ([.slice none 0 0,.map none,.slice none 0 0]):=a
 refine km rfl (ki rfl (gh call36 rfl (xj7 w2 (hs.ga g) hl) fun v3 w3 aj=> ?_))
 obtain⟨B,rfl,a0,P,a1⟩:=aj
 have b:=b.ga a1
 have a:=a.ga a1
 have g:=g.gb a1
 refine j0 gc rfl (gw rfl fun b6 w4 a2 f V=> ?_)
 have a3:=j2 b.lt a2
 have A:=j2 a.lt a2
 have ak:=aA g.size a2
 have b:=b.ga V
 have a:=a.ga V
 have P:=P.ga V
 have g:=g.gb V
 have ac:=f
 refine wl (j4 (l':=B.c) gc f rfl rfl rfl rfl OneC.h fun w5 f W b3=> ?_)
 have b:=b.gj W a3
 have a:=a.gj W A
 have P:=P.xw9 W ac
 have g:=g.gi W ak
 refine km rfl (gl (jd rfl (jl rfl (fun hc=> ?_) (fun hc=> ?_))))
 ·refine gl ?_
  refine gy (kg rfl trivial (l':=[.slice none 0 0,.map none,.slice none 0 0]) rfl (wl (j4 (l':=[.slice none 0 0,.map none,.slice none 0 0]) gc a rfl rfl rfl rfl OneC.h fun w6 a al b5=> ?_)))
  have g:=g.gi al U
  refine vr rfl (j7 (qe [_,_] ⟨⟨K,0,rfl,qg gc rfl rfl a.kj rfl⟩,rfl,trivial⟩ ?_))
  have ad:vm h.s l=none:=aP fun k=>hc k.1
  exact⟨hasZ,by rw[ad];rfl,fun s e=>(by rw[ad] at e;cases e),hasZ_at _ _,g⟩
 have ae:(vi l).2=0:=aS.1 hc
 have L:=readB_may ae
 rw[←a0] at L
 have a4:=L.1
 have a5:=L.2.1
 have a4:B.os.length≤4096:=by rw[qu.d,aE] at a4;exact a4
 have a5:B.ss.length≤128:=by rw[qu.d,aE] at a5;exact a5
 refine x3 (ko (je b rfl rfl (je f rfl rfl ?_)))
 have am:=a.lt
 have af:=g.size
 have ag:∀y,H y→y<w5.heap.size:=fun y hy=>aM (hH y hy) g.size
 refine gh call64 rfl (A8 w5 (hx.ga g) (fun y hy=>aM (hH y hy) g.size) P.at L hri zo zo (hr.ext g id)) fun v7 w7 an=> ?_
 obtain⟨h2,F,rfl,hQ,Q⟩:=an
 have b:=b.ga Q
 have a:=a.ga Q
 have f:=f.ga Q
 have g:=g.gb Q
 have I:=hQ.has
 have ah:=Q.size
 have n4:=zx7 (u:=w7) am U hH
 have X:=hQ.eq
 rw[a0] at X⊢
 have i:=aD w7.heap.size
 refine j0 gc rfl (gw rfl fun b8 w8 R j M=> ?_)
 have a6:=j2 b.lt R
 have C:=j2 a.lt R
 have a7:=j2 f.lt R
 have ao:=aA g.size R
 have Y:=aA i R
 have b:=b.ga M
 have a:=a.ga M
 have f:=f.ga M
 have I:=I.ga M
 have i:=aA i M.size
 have g:=g.gb M
 refine gw rfl fun b9 w9 N n J=> ?_
 have a8:=j2 b.lt N
 have D:=j2 a.lt N
 have a9:=j2 f.lt N
 have S:=j2 j.lt N
 have ap:=aA g.size N
 have Z:=aA i N
 have b:=b.ga J
 have a:=a.ga J
 have f:=f.ga J
 have j:=j.ga J
 have I:=I.ga J
 have i:=aA i J.size
 have g:=g.gb J
 refine wl (j4 (l':=h2.c) gc j rfl rfl rfl rfl OneC.h fun b7 j E aw=> ?_)
 have b:=b.gj E a6
 have a:=a.gj E C
 have f:=f.gj E a7
 have n:=n.gj E S.symm
 have I:=I.ext E (zz3 Y ag ah)
 have i:=aA i E.size
 have g:=g.gi E ao
 refine wl (j4 (l':=F.c) gc n rfl rfl rfl rfl OneC.h fun ba n G ax=> ?_)
 have b:=b.gj G a8
 have a:=a.gj G D
 have f:=f.gj G a9
 have j:=j.gj G S
 have I:=I.ext G (zz3 Z ag ah)
 have i:=aA i G.size
 have g:=g.gi G ap
 refine km rfl ?_
 refine ji (α:=Bool) [4] rfl (fun z=>[(5,.bool z)]) (fun z u=>(z=(vm h.s l).isSome∧xu u (Grow H w u) h2)∧gz u b2 121 (h.c)∧gz u K 121 (h2.c)∧gz u b6 25 (B.c)∧gz u b8 121 (h2.c)∧gz u b9 25 (F.c)∧Ext No w u) ?_ ?_
 ·refine jr rfl 13 [qP 0,qP 1,qP 2,qP 3,qP 4,qP 5,qP 6,qP 7,qP 8,qP 9,qP 10,qP 11,(12,false)] [13] ((fun x=>x=K∨x=K)) zk fun aq o ay=> ?_
  have ar:=f
  have au:=j
  have av:=n
  have b:=b.ga o
  have a:=a.ga o
  have f:=f.ga o
  have j:=j.ga o
  have n:=n.ga o
  have I:=I.ga o
  have i:=aA i o.size
  have g:=g.gb o
  have hC:Ext ((fun x=>x=K∨x=K)) _ aq:=o.no
  refine qa gc rfl rfl (fun w' T=>(au.ext (show Ext (fun x=>x=K∨x=K) _ w' from T) fun e=>e.elim C.symm C.symm).kj) rfl ?_
  refine gt gc 3 rfl (vy 28 rfl (fun hg=> ?_) (fun hg=> ?_))
  ·refine gt gc 1 rfl ?_
   refine j3 gc rfl rfl (fun w' T=>((av.ext (show Ext (fun x=>x=K∨x=K) _ w' from T) fun e=>e.elim D.symm D.symm).cell rfl)) ?_
   refine gt gc 2 rfl (j3 gc rfl rfl (fun w' T=>((ar.ext (show Ext (fun x=>x=K∨x=K) _ w' from T) fun e=>e.elim A.symm A.symm).cell rfl)) ?_)
   refine gt gc 3 rfl (jo rfl (j4 (l':=h2.c) gc a rfl rfl rfl rfl OneC.h fun bb a q az=>⟨hC.then (q.mono fun _ _ e=>by have e:_=_:=e;show _=_∨_=_;omega),?_⟩))
   have b:=b.gj q O
   have f:=f.gj q A.symm
   have j:=j.gj q C.symm
   have n:=n.gj q D.symm
   have I:=I.ext q n4
   have i:=aA i q.size
   have g:=g.gi q U
   refine jg (wb rfl (zx9 gc rfl rfl rfl (j5 ?_)))
   exact gr (decide ((F.os.length:Int)=(B.os.length:Int))) rfl ⟨⟨said_yes ae a0 hg (X hg).2.1,I.mono fun y hy=>Grow.wide af i hy⟩,b,a,f,j,n,g⟩
  refine gt gc 8 rfl ?_
  refine jo rfl (j4 (l':=h2.c) gc a rfl rfl rfl rfl OneC.h fun bc a t b0=>⟨hC.then (t.mono fun _ _ e=>by have e:_=_:=e;show _=_∨_=_;omega),?_⟩)
  have b:=b.gj t O
  have f:=f.gj t A.symm
  have j:=j.gj t C.symm
  have n:=n.gj t D.symm
  have I:=I.ext t n4
  have i:=aA i t.size
  have g:=g.gi t U
  refine jg (wb rfl (zx9 gc rfl rfl rfl (j5 ?_)))
  exact gr (false) rfl ⟨⟨said_no hg,I.mono fun y hy=>Grow.wide af i hy⟩,b,a,f,j,n,g⟩
 rintro z bd ⟨⟨hz,I⟩,b,a,f,j,n,g⟩
 refine j9 (qe [_,_] ⟨⟨K,0,rfl,qg gc rfl rfl a.kj rfl⟩,rfl,trivial⟩ ?_)
 exact⟨h2,by rw[hz];rfl,fun s e=>by obtain⟨_,e1,rfl⟩:=said_some e;exact⟨(X e1).1,(X e1).2.2⟩,I,g⟩
def StB (F H K:Nat→Prop) (sp:Nat):Nat→Prop:=fun y=>F y∨H y∨K y∨y=sp
structure StA (u:World) (sp x d:Nat) (F H K:Nat→Prop) (X:Sd) (h:uh):Prop where
  box:gz u sp 123 (.pointer (some ⟨x,0,none⟩)::h.c)
  disk:At u d F X.W.D
  log:ye u x d H X.W
  has:xu u K h
  eq:h.s=X.s
  mp:∃r,h.m=some r
  hf:∀y,H y→¬F y
  kf:∀y,K y→¬F y∧¬H y
  sf:¬F sp∧¬H sp∧¬K sp
  klt:∀y,K y→y<u.heap.size
theorem StA.ext {S:Nat→Prop} {u u':World} {sp x d:Nat} {F H K:Nat→Prop} {X:Sd} {h:uh} (k:StA u sp x d F H K X h) (hE:Ext S u u') (hS:∀y,StB F H K sp y→¬S y):StA u' sp x d F H K X h:=
 ⟨k.box.ext hE (hS _ (.inr (.inr (.inr rfl)))),k.disk.ext hE fun y hy=>hS y (.inl hy),k.log.ext hE fun y hy=>hS y (.inr (.inl hy)),k.has.ext hE fun y hy=>hS y (.inr (.inr (.inl hy))),k.eq,k.mp,k.hf,k.kf,k.sf,fun y hy=>aM (k.klt y hy) hE.size⟩
theorem StA.ga {u u':World} {sp x d:Nat} {F H K:Nat→Prop} {X:Sd} {h:uh} (k:StA u sp x d F H K X h) (hE:Ext No u u'):StA u' sp x d F H K X h:=k.ext hE fun _ _=>id
theorem StA.lt {u:World} {sp x d:Nat} {F H K:Nat→Prop} {X:Sd} {h:uh} (k:StA u sp x d F H K X h):∀y,StB F H K sp y→y<u.heap.size:=fun y hy=>by
 rcases hy with hy|hy|hy|rfl
 ·exact k.disk.lt y hy
 ·exact k.log.lt y hy
 ·exact k.klt y hy
 exact k.box.lt
def StNew (w w':World) (d:Nat) (F':Nat→Prop) (so:Option Addr) (X:Sd):Prop:=∃sp x H K h,so=some ⟨sp,0,none⟩∧StA w' sp x d F' H K X h∧∀y,(H y∨K y∨y=sp)→w.heap.size≤y
theorem sformat_calls (w:World) {d m:Nat} {F:Nat→Prop} {D:ku} (h:At w d F D) (hok:D.Ok m) (hm:m+7000<1000000000) (area:Int) (har: -9223372036854775808≤area∧area<9223372036854775808) (hr:Rt w) (hF0:¬F 0):
  gn prog 13 [.pointer (some ⟨d,0,none⟩),.int .i64 area] w fun v w'=>∃(so:Option Addr) (F':Nat→Prop),v= .tuple #[.pointer so,.int .i64 (vw D area).2]∧At w' d F' (vw D area).1∧Ext F w w'∧(∀y,F' y→F y∨w.heap.size≤y)∧((vw D area).2≠0→so=none)∧((vw D area).2=0→StNew w w' d F' so ⟨Wl.fresh (vw D area).1 area.toNat,xq1⟩):=by
 refine gx func13 ?_
 have k:=Ext.refl F w
 refine jd rfl (ki rfl (gh call23 rfl (format_calls w h hok hm area har hr hF0) fun V N A=> ?_))
 obtain⟨W,O,rfl,l,B,o,Q,p⟩:=A
 have k:=k.then B
 refine km rfl (gl (jd rfl (jl rfl (fun C=> ?_) (fun C=> ?_))))
 ·refine gl ?_
  refine gy (vr rfl (j7 (qe [_,_] ⟨rfl,rfl,trivial⟩ ?_)))
  exact⟨none,O,rfl,l,k,o,fun _=>rfl,fun e=>absurd e C⟩
 have E:(vw D area).2=0:=aS.1 C
 obtain⟨x,H,rfl,a,q⟩:=p E
 refine x3 (ki rfl (kg rfl trivial (l':=hasZ.c) rfl ?_))
 have G:=k.size
 have r:=a.lt
 have t:=l.lt
 have R:=l
 refine gh call57 rfl (twin_calls N (hasZ_at N fun _=>False) (fun _ e=>e.elim)) fun X S I=> ?_
 obtain⟨J,rfl,K,L,P,f⟩:=I
 have l:=l.ga f
 have a:=a.ga f
 have k:=k.gb f
 have M:=P.hasLt f.size
 have T:=f.size
 have g:=aD S.heap.size
 refine kg rfl ⟨⟨rfl,by decide⟩,⟨rfl,by decide⟩,trivial⟩ (l':=(.pointer (some ⟨x,0,none⟩)::J.c)) rfl (gw rfl fun n U u i j=> ?_)
 have z:=aA k.size u
 have l:=l.ga j
 have a:=a.ga j
 have M:=M.ga j
 have g:=aA g j.size
 have k:=k.gb j
 have i:gz U n 123 ((.pointer (some ⟨x,0,none⟩)::J.c)):=i
 refine vr rfl (qe [_,_] ⟨rfl,rfl,trivial⟩ ?_)
 refine⟨_,O,by rw[E];rfl,l,k,o,fun e=>absurd E e,fun _=>⟨n,x,H,_,J,rfl,⟨i,l,a,M,by rw[uh.s,K,L];rfl,P.map.imp fun _ e=>e.1,fun y b=>(q y b).2,fun y b=>⟨fun e=> ?_,fun e=> ?_⟩,⟨fun e=> ?_,fun e=> ?_,fun e=> ?_⟩,fun y b=> ?_⟩,fun y b=> ?_⟩⟩
 ·have:=t y e;have:=b.1.elim (fun e=>e.elim) id;omega
 ·have:=r y e;have:=b.1.elim (fun e=>e.elim) id;omega
 ·have:=t n e;omega
 ·have:=r n e;omega
 ·have:=e.2;omega
 ·exact aM b.2 g
 rcases b with b|b|rfl
 ·exact(q y b).1
 ·exact aA G (b.1.elim (fun e=>e.elim) id)
 exact z
theorem goes_calls (w:World) {sp x d:Nat} {F H K:Nat→Prop} {X:Sd} {h:uh} (k:StA w sp x d F H K X h):gn prog 54 [.pointer (some ⟨sp,0,none⟩)] w fun v w'=>v= .int .i64 (if X.W.broken=true then 8 else 0)∧Ext No w w':=by
 refine gx func54 ?_
 have a:=Ext.refl No w
 refine jd rfl (gl (jd rfl (up rfl (x3 (gl (ki rfl (gu rfl (k.box.cell rfl) ?_)))))))
 refine gh call69 rfl (broken_calls w k.log) fun f g b=> ?_
 obtain⟨rfl,c⟩:=b
 have a:=a.gb c
 refine qq (ud rfl (fun e=> ?_) (fun e=> ?_))
 ·refine gl ?_
  refine gy (vr rfl (j7 (gv rfl rfl ?_)))
  exact⟨by rw[aR e],a⟩
 refine kc ?_
 refine jp (jd rfl (j9 (gv rfl rfl ?_)))
 exact⟨by rw[e];rfl,a⟩
theorem sget_calls (w:World) {sp x d:Nat} {F H K:Nat→Prop} {X:Sd} {h:uh} (k:StA w sp x d F H K X h) {id:IdB} (hid:uv id):
  gn prog 10 [.pointer (some ⟨sp,0,none⟩),.agg (ge id).toArray] w fun v w'=>∃o a,v= .tuple #[.agg (jn o a).toArray,.int .i64 (if id∈vl X.s.row then 0 else 4)]∧(id∈vl X.s.row→o∈X.s.row∧Be o=id∧Ca o∧qw w w' o a)∧(id∉vl X.s.row→o=uo∧a=Dh)∧Ext No w w':=by
 have k0:=k
 have a7:=k.has
 obtain⟨rp,rc,p,m,vp,vc,C⟩:=h
 obtain⟨r,y⟩:=k.mp
 have y:m=some r:=y
 subst y
 have c:gz w sp 123 [.pointer (some ⟨x,0,none⟩),.slice rp p.length rc,.map (some r),.slice vp C.length vc]:=k.box
 have a8:p.length<1000000:=k.has.few
 have a9:C.length<1000000:=k.has.fev
 have a6:uh.s ⟨rp,rc,p,some r,vp,vc,C⟩=⟨p.map u3.o,C.map Prod.fst⟩:=rfl
 have q:X.s.row=p.map u3.o:=by rw[←k.eq];rfl
 have aa:X.s.vals=C.map Prod.fst:=by rw[←k.eq];rfl
 have hM:MapB w r natV (placeOf (vl X.s.row)):=by
  rcases k.has.map with⟨Q,_⟩|⟨r',Q,h1⟩
  ·cases Q
  cases Q
  rw[q,←held_ids k.has.o];exact h1
 refine gx func10 ?_
 have f:=Ext.refl No w
 refine ko ?_
 have D:=c.lt
 refine gw rfl fun b3 w1 ab j E=> ?_
 have c:=c.ga E
 have f:=f.gb E
 have j:gz w1 b3 30 (ge id):=j
 have D:=c.lt
 refine gw rfl fun R w2 S b z=> ?_
 have G:=aA f.size S
 have j:=j.ga z
 have c:=c.ga z
 have f:=f.gb z
 have n4:sp≠R:=by omega
 refine km rfl (gl (jd rfl (up rfl (x3 (gl ?_)))))
 refine jr rfl 12 [qP 0,qP 1,qP 2,qP 3,qP 4,qP 5,qP 6,qP 7,qP 8,qP 9,qP 10,qP 11] [] (No) zk fun w3 A ac=> ?_
 have T:=j
 have I:=c
 have U:=f
 have b:=b.ga A
 have c:=c.ga A
 have f:=f.gb A
 refine gt gc 4 rfl (j3 gc rfl rfl (fun w' n=>((I.ga n).cell rfl)) ?_)
 refine qa gc rfl rfl (fun w' n=>(T.ga n).kj) hid.len ?_
 refine wd_lu gc rfl rfl idK hid rfl (hM.ga f) (fun w' n=>hM.ga (U.gb n)) ?_
 simp only[cO]
 rw[place_some]
 refine gt gc 5 rfl (jg (j5 (jp (gl (jd rfl (ud rfl (fun V=> ?_) (fun V=> ?_)))))))
 ·have J:id∉vl X.s.row:=by simpa using V
  refine ko (kg rfl trivial (l':=jn uo Dh) objZc (wl (j4 (l':=jn uo Dh) gc b rfl rfl (gp qf) (by rw[gp qf];rfl) OneC.h fun w4 b W ad=> ?_)))
  have f:=f.gi W G
  refine vr rfl (j7 (qe [_,_] ⟨⟨R,0,rfl,qg gc rfl rfl b.kj (gp qf)⟩,rfl,trivial⟩ ?_))
  exact⟨uo,Dh,by rw[aP J];rfl,fun e=>absurd e J,fun _=>⟨rfl,rfl⟩,f⟩
 have t:id∈vl X.s.row:=by simpa using V
 have Y:placeOf (vl X.s.row) id=some ((vl X.s.row).idxOf id):=aR t
 rw[Y]
 obtain⟨i,Z⟩:∃i,i=(vl X.s.row).idxOf id:=⟨_,rfl⟩
 rw[←Z]
 have B:i<(vl X.s.row).length:=by rw[Z];exact List.idxOf_lt_length_of_mem t
 have a0:(vl X.s.row)[i]=id:=by subst Z;exact List.getElem_idxOf B
 have u:i<p.length:=by rw[q,vl,aE,aE] at B;exact B
 have a1:Be p[i].o=id:=by rw[←a0];simp[vl,q]
 have g:=k.has.o _ (aG u)
 have L:p[i].id.length=32:=by rw[g.id];exact vu _
 obtain⟨qb,qo,hp,a3⟩:=k.has.row.qd k.has.held zn
 dsimp only at hp
 subst hp
 refine x3 (ki rfl (gu rfl (c.cell rfl) (j0 gc rfl (ka rfl 105 rfl i rfl u (qo+i*105) rfl (j0 gc rfl ?_)))))
 refine jm rfl (heldO ((a3 i u).ga f) L) (gp g.ok.1) ?_
 have a4:=f
 refine gh call52 rfl (sown_calls w3 g.ok.1 (g.l.ga f) g.ok.2) fun v5 w5 a5=> ?_
 obtain⟨a2,rfl,M,N⟩:=a5
 have b:=b.ga N
 have f:=f.gb N
 have M:=M.older (W0:=w) a4.size
 have O:=b
 refine wl (j4 (l':=jn p[i].o a2) gc b rfl rfl (gp g.ok.1) (by rw[gp g.ok.1];rfl) OneC.h fun w6 b P ae=> ?_)
 have M:=M.gj P O zd zd zd
 have f:=f.gi P G
 refine vr rfl (qe [_,_] ⟨⟨R,0,rfl,qg gc rfl rfl b.kj (gp g.ok.1)⟩,rfl,trivial⟩ ?_)
 exact⟨p[i].o,a2,by rw[aR t];rfl,fun _=>⟨by rw[q];exact List.mem_map_of_mem (aG u),a1,g.ok,M⟩,fun e=>absurd t e,f⟩
theorem svalue_calls (w:World) {sp x d:Nat} {F H K:Nat→Prop} {X:Sd} {h:uh} (k:StA w sp x d F H K X h) (hri:Ap X.s.vals) {n:Str}:
  gn prog 11 [.pointer (some ⟨sp,0,none⟩),y7 n] w fun v w'=>∃q c b,v= .tuple #[.slice q b.length c,.bool (yq2 X.s.vals n).isSome]∧b=(yq2 X.s.vals n).getD []∧k8 w w' q b.length c 5 1 (ge b)∧Ext No w w':=by
 have G:=k
 have Z:=k.has
 obtain⟨Q,R,A,m,S,T,a⟩:=h
 obtain⟨r,p⟩:=k.mp
 have p:m=some r:=p
 subst p
 have g:gz w sp 123 [.pointer (some ⟨x,0,none⟩),.slice Q A.length R,.map (some r),.slice S a.length T]:=k.box
 have a0:A.length<1000000:=k.has.few
 have a1:a.length<1000000:=k.has.fev
 have U:uh.s ⟨Q,R,A,some r,S,T,a⟩=⟨A.map u3.o,a.map Prod.fst⟩:=rfl
 have a2:X.s.row=A.map u3.o:=by rw[←k.eq];rfl
 have t:X.s.vals=a.map Prod.fst:=by rw[←k.eq];rfl
 refine gx func11 ?_
 have f:=Ext.refl No w
 refine jd rfl (gl (jd rfl (up rfl (x3 (ki rfl ?_)))))
 refine jm rfl ((Seg.append (l:=[.pointer (some ⟨x,0,none⟩)])).1 g.kj).2 rfl (j0 gc rfl ?_)
 refine gh call53 rfl (find_calls w rfl rfl (G.has.vals.ga f) zn (n:=n)) fun v1 w1 I=> ?_
 obtain⟨i,q,rfl,hF,B⟩:=I
 have g:=g.ga B
 have f:=f.gb B
 rw[t] at hri
 have j:=find_two hri hF
 refine km rfl (gl (jd rfl (ud rfl (fun C=> ?_) (fun C=> ?_))))
 ·have V:yq2 X.s.vals n=none:=by
   rw[t]
   rcases j with⟨e,_⟩|⟨_,e⟩
   ·rw[e] at C;cases C
   exact e
  refine jd rfl (j9 (j7 (qe [_,_] ⟨rfl,rfl,trivial⟩ ?_)))
  exact⟨none,0,[],by rw[V];rfl,by rw[V];rfl,k8.nil _ _ _ _,f⟩
 obtain⟨D,u⟩:∃W:i<(a.map Prod.fst).length,yq2 X.s.vals n=some (a.map Prod.fst)[i].2:=by
  rw[t]
  rcases j with⟨_,W,_,e⟩|⟨e,_⟩
  ·exact⟨W,e⟩
  rw[e] at C;cases C
 have z:i<a.length:=by rw[aE] at D;exact D
 have J:(a.map Prod.fst)[i]=a[i].1:=bR ..
 rw[J] at u
 have E:=G.has.v _ (aG z)
 obtain⟨qb,qo,Y,L⟩:=G.has.vals.qd (fun x _=>Bi x) zn
 dsimp only at Y
 subst Y
 refine x3 (ki rfl (gu rfl (g.cell rfl) (j0 gc rfl (ka rfl 2 rfl i rfl z (qo+i*2) rfl (j0 gc rfl (gu rfl (((L i z).ga f) 1 _ rfl) ?_))))))
 have M:=f
 refine gh call35 rfl (xd w1 (E.s.ga f) E.lo) fun v2 w2 N=> ?_
 obtain⟨q2,c2,rfl,ho,O,P⟩:=N
 have f:=f.gb P
 refine vr rfl (qe [_,_] ⟨rfl,rfl,trivial⟩ ?_)
 exact⟨q2,c2,_,by rw[u];rfl,by rw[u];rfl,⟨ho,fun y hy=>aA M.size (O y hy)⟩,f⟩
abbrev nmV (v:Ax):Value:=y7 v.1
theorem _root_.Go.Vc.k8.not {W w:World} {p:Option Addr} {n c T sz:Nat} {xs:List Value} (h:k8 W w p n c T sz xs) {b U:Nat} {L:List Value} (hb:gz w b U L) (hT:T≠U):¬jb p b:=fun e=>by
 obtain⟨l,hl⟩:=h.own.D7 e
 exact hT (hl.uniq hb).2
theorem snames_calls (w:World) {sp x d:Nat} {F H K:Nat→Prop} {X:Sd} {h:uh} (k:StA w sp x d F H K X h):
  gn prog 18 [.pointer (some ⟨sp,0,none⟩)] w fun v w'=>∃q c,v= .slice q X.s.vals.length c∧k8 w w' q X.s.vals.length c 9 1 (X.s.vals.map nmV)∧Ext No w w':=by
 have V:=k
 have W:=k.has
 obtain⟨O,P,l,m,Q,R,a⟩:=h
 obtain⟨r,j⟩:=k.mp
 have j:m=some r:=j
 subst j
 have C:gz w sp 123 [.pointer (some ⟨x,0,none⟩),.slice O l.length P,.map (some r),.slice Q a.length R]:=k.box
 have Y:l.length<1000000:=k.has.few
 have Z:a.length<1000000:=k.has.fev
 have S:uh.s ⟨O,P,l,some r,Q,R,a⟩=⟨l.map u3.o,a.map Prod.fst⟩:=rfl
 have a0:X.s.row=l.map u3.o:=by rw[←k.eq];rfl
 have n:X.s.vals=a.map Prod.fst:=by rw[←k.eq];rfl
 refine gx func18 ?_
 have e:=Ext.refl No w
 refine jd rfl (gl (jd rfl (up rfl (x3 (gl (ki rfl (gu rfl (C.cell rfl) (j0 gc rfl ?_))))))))
 refine qq (j8 ?_)
 refine jj (α:=Nat×Option Addr×Nat) [11,12] rfl (fun z=>[(2,.slice z.2.1 z.1 z.2.2),(13,.int .i64 (z.1:Int))]) (fun z u=>(z.1≤a.length∧k8 w u z.2.1 z.1 z.2.2 9 1 (((a.map Prod.fst).take z.1).map nmV))∧Ext No w u) (fun z u=>a.length-z.1) (0,none,0) rfl ⟨⟨aJ _,k8.nil _ _ _ _⟩,e⟩ ?_
 rintro⟨i,q,c⟩ w1 ⟨⟨D,b⟩,e⟩
 try dsimp only
 dsimp only at D b
 refine jd rfl (gl (jl rfl (fun hc=> ?_) (fun hc=> ?_)))
 ·have f:i<a.length:=by omega
  have E:i<(a.map Prod.fst).length:=by rw[aE];exact f
  have G:(a.map Prod.fst)[i]=a[i].1:=bR ..
  obtain⟨qb,qo,T,I⟩:=V.has.vals.qd (fun x _=>Bi x) zn
  dsimp only at T
  subst T
  refine Ac (ko (ka rfl 2 rfl i rfl f (qo+i*2) rfl (jm rfl ((I i f).ga e) rfl (gw rfl fun b4 w2 J g p=> ?_))))
  have L:=aA e.size J
  have b:=b.ga p
  have e:=e.gb p
  have t:=g
  refine wl (j4 (l':=xm a[i]) gc g rfl rfl rfl rfl OneC.h fun w3 g y a1=> ?_)
  have b:=b.gj y t zd
  have e:=e.gi y L
  refine qq (yl rfl (j6 g rfl rfl (wl (qi gc rfl 1 rfl rfl rfl zd zd zt (l':=[y7 a[i].1.1]) rfl fun M w4 U A B a2=> ?_))))
  have b:=b.ga B
  have e:=e.gb B
  have a3:=b.own
  refine wl (xj gc rfl 1 16 rfl rfl rfl zd b (Src.slice (m:=1) ⟨rfl,.inr ⟨M,0,rfl,A.kj⟩⟩ OneC.h) zm zn (n':=(i+1)) (ys:=(((a.map Prod.fst).take (i+1)).map nmV)) rfl (by rw[←yw4 E,G]) e fun q4 k4 w5 b N e=> ?_)
  dsimp only at b N
  refine j0 gc rfl (gk (Aa rfl ?_))
  rw[jz _ zo]
  refine gk ?_
  exact jk (i+1,q4,k4) rfl ⟨⟨f,b⟩,e⟩ zf
 have h0:i=a.length:=by omega
 subst h0
 refine Ak (jd rfl (j9 (gv rfl rfl ?_)))
 exact⟨q,c,by rw[n,aE],by rw[n,aE];rw[show a.length=(a.map Prod.fst).length from(aE ..).symm,bZ] at b;rw[aE] at b;exact b,e⟩
theorem rise_nodup {l:List Ax} (h:Ap l):(l.map Prod.fst).Nodup:=by
 rw[List.Nodup,List.pairwise_map]
 exact h.imp fun e=>nLt_ne e
theorem all_may {s:Sto} (h:s.Ok):z7 (Bf s)↔s.row.length≤4096:=by
 refine⟨fun k=>k.1,fun k=>⟨k,?_,h.objs,?_,?_⟩⟩
 ·show(s.vals.map _).length≤128
  rw[aE];exact h.few
 ·intro x a
  obtain⟨v,b,rfl⟩:=bN.1 a
  have:=h.vals v b
  exact⟨this.1,this.2.1,⟨aJ _,.inr rfl⟩,this.2.2,.inl rfl⟩
 show((s.vals.map _).map yo.name).Nodup
 rw[List.map_map];exact rise_nodup h.rise
theorem codeE_lt (b:Bu):(yx b).length<1000000000:=by
 unfold yx
 split
 ·rename_i h
  have h1:=zq0 h.2.2.1
  have h2:=setsB_len h.2.2.2
  have h3:=h.1
  have h4:=h.2.1
  simp only[uf,aB,jy]
  omega
 decide
def StQ (w w':World) (sp x d:Nat) (F H K:Nat→Prop) (X:Sd) (h:uh) (r:Wl×Int):Prop:=
  ∃F' H':Nat→Prop,StA w' sp x d F' H' K ⟨r.1,X.s⟩ h∧(∀y,F' y→F y∨w.heap.size≤y)∧(∀y,H' y→H y∨w.heap.size≤y)∧Ext (fun y=>F y∨H y) w w'
theorem StA.logQ {w v w':World} {sp x d:Nat} {F H K F' H':Nat→Prop} {X:Sd} {h:uh} {W2:Wl} (k:StA v sp x d F H K X h) (hE0:Ext No w v) (hA:At w' d F' W2.D) (hL:ye w' x d H' W2) (hF:∀y,F' y→F y∨v.heap.size≤y) (hH:∀y,H' y→H y∨v.heap.size≤y) (hHF:∀y,H' y→¬F' y) (hE:Ext (fun y=>F y∨H y) v w') (e:Int):StQ w w' sp x d F H K X h (W2,e):=by
 have b:=k.box.lt
 refine⟨F',H',⟨k.box.ext hE fun e=>e.elim k.sf.1 k.sf.2.1,hA,hL,k.has.ext hE fun y a e=>e.elim (k.kf y a).1 (k.kf y a).2,k.eq,k.mp,hHF,fun y a=>⟨fun e=> ?_,fun e=> ?_⟩,⟨fun e=> ?_,fun e=> ?_,k.sf.2.2⟩,fun y a=>aM (k.klt y a) hE.size⟩,fun y a=>(hF y a).imp id fun e=>aA hE0.size e,fun y a=>(hH y a).imp id fun e=>aA hE0.size e,hE0.no.then hE⟩
 ·have:=k.klt y a
  exact(hF y e).elim (k.kf y a).1 fun e=>by omega
 ·have:=k.klt y a
  exact(hH y e).elim (k.kf y a).2 fun e=>by omega
 ·exact(hF sp e).elim k.sf.1 fun e=>by omega
 exact(hH sp e).elim k.sf.2.1 fun e=>by omega
theorem _root_.Go.Vc.k8.D7 {W w:World} {p:Option Addr} {n c T sz:Nat} {xs:List Value} (h:k8 W w p n c T sz xs) {y off:Nat} (e:p=some ⟨y,off,none⟩):W.heap.size≤y∧y<w.heap.size:=by
 have d:jb p y:=by
  rcases h.own with⟨a,_⟩|⟨b,l,a,_⟩
  ·rw[e] at a;cases a
  rw[e] at a;cases a;exact e
 exact⟨h.new y d,h.own.lt d⟩
theorem anew_no {X:Sd} {s:Sto} (hs:s.Ok) (h:¬z7 (Bf s)∨40000<(yx (Bf s)).length):xv3 X s=(X,6):=by
 refine aR ?_
 by_cases k:z7 (Bf s)
 ·rw[yx,aR k] at h
  exact .inr (h.resolve_left fun e=>e k)
 rw[all_may hs] at k
 exact .inl zo
theorem anew_yes {X:Sd} {s:Sto} (hs:s.Ok) (h:¬(¬z7 (Bf s)∨40000<(yx (Bf s)).length)):(xv3 X s).1.W=(X.W.xq (yx (Bf s))).1∧(xv3 X s).2=(X.W.xq (yx (Bf s))).2:=by
 have k:z7 (Bf s):=cZ fun k=>h (.inl k)
 have e:yx (Bf s)=uf (Bf s):=aR k
 rw[e] at h⊢
 have b:=(all_may hs).1 k
 have a:¬(4096<s.row.length∨40000<(uf (Bf s)).length):=fun e=>e.elim (fun e=>by omega) fun e=>h (.inr e)
 unfold xv3
 rw[aP a]
 exact⟨rfl,rfl⟩
theorem sanew_calls (w:World) {sp x d m:Nat} {F H K:Nat→Prop} {X:Sd} {h:uh} (k:StA w sp x d F H K X h) (hok:X.W.D.Ok m) (hm:m+2000<1000000000) (hW:Wl.Ok X.W) (hr:Rt w) (hF0:¬F 0) {h2:uh} {K2:Nat→Prop} (hx2:xu w K2 h2) (hn:h2.s.Ok):
  gn prog 56 [.pointer (some ⟨sp,0,none⟩),.agg h2.c.toArray] w fun v w'=>v= .int .i64 (xv3 X h2.s).2∧StQ w w' sp x d F H K X h ((xv3 X h2.s).1.W,(xv3 X h2.s).2):=by
 have P:=k
 refine gx func56 ?_
 have a:=Ext.refl No w
 refine ko (gw rfl fun R Q S f g=> ?_)
 have k:=k.ga g
 have a:=a.gb g
 have f:gz Q R 121 (h2.c):=f
 refine km rfl (ko (je f rfl rfl (gh call61 rfl (sall_calls Q (hx2.ga a)) fun v2 T p=> ?_)))
 obtain⟨B,rfl,r,U,i⟩:=p
 have k:=k.ga i
 have a:=a.gb i
 have t:=a
 refine gh call30 rfl (Bl T U) fun v3 w3 A=> ?_
 obtain⟨q,Y,rfl,b,j⟩:=A
 have k:=k.ga j
 have a:=a.gb j
 rw[r] at b⊢
 have b:=b.older (V:=w) t.size
 refine km rfl (gl ?_)
 refine ji (α:=Bool) [0,5] rfl (fun z=>[(19,.bool z)]) (fun z u=>(z=decide (¬z7 (Bf h2.s)∨40000<(yx (Bf h2.s)).length)∧StA u sp x d F H K X h∧k8 w u q (yx (Bf h2.s)).length Y 5 1 (ge (yx (Bf h2.s))))∧Ext No w u) ?_ ?_
 ·refine gy ?_
  refine j0 gc rfl (ja 15 rfl (fun o=> ?_) (fun o=> ?_))
  ·refine gq gc 4 rfl ?_
   refine gk ?_
   exact gr (true) rfl ⟨⟨by symm;exact bQ (.inl fun e=>o (aR e)),k,b⟩,a⟩
  refine gq gc 4 rfl ?_
  refine gk ?_
  exact gr (_) rfl ⟨⟨by rw[aH];exact⟨fun e=> .inr zo,fun e=>(by have:=e.resolve_left fun e=>e (cZ fun Z=>by rw[mayE,aP Z] at o;exact o zd);omega)⟩,k,b⟩,a⟩
 rintro z w4 ⟨⟨rfl,k,b⟩,a⟩
 refine jl rfl (fun C=> ?_) (fun C=> ?_)
 ·refine gl ?_
  refine gy (vr rfl (j7 (gv rfl rfl ?_)))
  have l:=anew_no (X:=X) hn C
  exact⟨by rw[l],F,H,by rw[l];exact k,fun _=> .inl,fun _=> .inl,a.no⟩
 have l:=anew_yes (X:=X) hn C
 refine x3 (ki rfl (gu rfl (k.box.cell rfl) (j0 gc rfl ?_)))
 have k4:=k
 have E:=a
 refine gh call38 rfl (checkpoint_calls w4 k.log k.disk hok hm hW b.sl (codeE_lt _) (hr.ext a id) hF0 k.hf (fun y a0 e=>by obtain⟨hy,hl⟩:=b.D7 e;exact⟨fun e=>by have:=P.disk.lt y e;omega,fun e=>by have:=P.log.lt y e;omega,hl⟩)) fun v5 w5 G=> ?_
 obtain⟨rfl,F2,H2,I,J,L,M,n,N⟩:=G
 have O:=N
 refine vr rfl (gv rfl rfl ?_)
 exact⟨by rw[l.2],by rw[l.1];exact k4.logQ E I J L M n O _⟩
theorem yv {P:Nat→Prop} {n b:Nat} (h:∀y,P y→y<n) (hb:n≤b):∀y,P y→¬One b y:=fun y hy e=>by
 have e:y=b:=e
 have:=h y hy
 omega
abbrev StS (F H:Nat→Prop) (sp:Nat):Nat→Prop:=fun y=>F y∨H y∨y=sp
def ComQ (w w':World) (sp x d:Nat) (F H K:Nat→Prop) (X':Sd):Prop:=
  ∃(F' H' K':Nat→Prop) (h':uh),StA w' sp x d F' H' K' X' h'∧(∀y,F' y→F y∨w.heap.size≤y)∧(∀y,H' y→H y∨w.heap.size≤y)∧(∀y,K' y→K y∨w.heap.size≤y)
theorem ComQ.same {w w':World} {sp x d:Nat} {F H K:Nat→Prop} {X:Sd} {h:uh} (k:StA w' sp x d F H K X h):ComQ w w' sp x d F H K X:=⟨F,H,K,h,k,fun _=> .inl,fun _=> .inl,fun _=> .inl⟩
def ComJ (w u:World) (sp x d:Nat) (F H K G:Nat→Prop) (X:Sd) (h h2:uh) (W':Wl):Prop:=
  ∃F' H':Nat→Prop,StA u sp x d F' H' K ⟨W',X.s⟩ h∧(∀y,F' y→F y∨w.heap.size≤y)∧(∀y,H' y→H y∨w.heap.size≤y)∧xu u G h2∧(∀y,G y→¬F' y∧¬H' y∧y≠sp∧y<u.heap.size)
theorem StQ.com {w v u:World} {sp x d:Nat} {F H K G:Nat→Prop} {X:Sd} {h h2:uh} {r:Wl×Int} (q:StQ v u sp x d F H K X h r) (hw:w.heap.size≤v.heap.size) (hG:xu v G h2) (hg:∀y,G y→¬F y∧¬H y∧y≠sp∧y<v.heap.size):ComJ w u sp x d F H K G X h h2 r.1:=by
 obtain⟨i,j,k,c,f,g⟩:=q
 refine⟨i,j,k,fun y a=>(c y a).imp id (aA hw),fun y a=>(f y a).imp id (aA hw),hG.ext g fun y a e=>e.elim (hg y a).1 (hg y a).2.1,fun y a=> ?_⟩
 have b:=hg y a
 exact⟨fun e=>(c y e).elim b.1 fun e=>by omega,fun e=>(f y e).elim b.2.1 fun e=>by omega,b.2.2.1,aM b.2.2.2 g.size⟩
theorem sect_pos {n:Nat} (h:0<kw n):n≤40000:=by
 unfold kw at h
 split at h
 ·cases h
 omega
theorem sd_eta {x:Sd} {s:Sto} (e:x.s=s):x=⟨x.W,s⟩:=by cases x;cases e;rfl
theorem lays_s (X:Sd) (A:Sto) (C:Bytes):(zx2 X A C).1.s=if(zx2 X A C).2=0 then A else X.s:=by
 unfold zx2
 split
 ·rfl
 unfold xv3
 split<;>rfl
theorem xv1 (w:World) {sp x d m:Nat} {F H K:Nat→Prop} {X:Sd} {h:uh} (k:StA w sp x d F H K X h) (hok:X.W.D.Ok m) (hm:m+2000<1000000000) (hW:Wl.Ok X.W) (hr:Rt w) (hF0:¬F 0) {B:qu} (hB:C9 w B) (hsok:X.s.Ok) (hfo:h.hs.length+5000<1000000):
  gn prog 15 [.pointer (some ⟨sp,0,none⟩),B.v] w fun v w'=>v= .int .i64 (yp X B.d).2∧ComQ w w' sp x d F H K (yp X B.d).1∧Ext (StS F H sp) w w':=by
 have k0:=k
 have bu:∀b,w.heap.size≤b→¬(F b∨H b):=fun b hb e=>e.elim (fun e=>by have:=k.disk.lt b e;omega) fun e=>by have:=k.log.lt b e;omega
 have bf:=k.eq
 have bk:Ap h.s.vals:=by rw[bf];exact hsok.rise
 have av:=hB
 have j:=Ext.refl No w
 have dn:h.vs.length≤128:=by have e:=hsok.few;rw[←bf,uh.s,aE] at e;exact e
 refine gx func15 ?_
 have i:=Ext.refl (StS F H sp) w
 refine ko (gw rfl fun b3 w1 dp a c0=> ?_)
 have k:=k.ga c0
 have j:=j.gb c0
 have i:=i.gb c0
 have a:gz w1 b3 25 (B.c):=a
 refine km rfl (gl (ki rfl (gh call54 rfl (goes_calls w1 k) fun v2 w2 cp=> ?_)))
 obtain⟨rfl,bs⟩:=cp
 have a:=a.ga bs
 have k:=k.ga bs
 have j:=j.gb bs
 have i:=i.gb bs
 refine km rfl (jd rfl (jl rfl (fun hc=> ?_) (fun hc=> ?_)))
 ·have bi:X.W.broken=true:=cZ fun e=>hc (aP e)
  have aw:yp X B.d=(X,8):=aR bi
  refine jd rfl (j9 (j7 (gv rfl rfl ?_)))
  exact⟨by rw[aw,aR bi],by rw[aw];exact ComQ.same k,i⟩
 have bi:¬X.W.broken=true:=fun e=>hc (by rw[aR e];decide)
 refine x3 (gl (ko (je a rfl rfl (gh call63 rfl (may_calls w2 (av.ga j)) fun v3 w3 cq=> ?_))))
 obtain⟨rfl,bt⟩:=cq
 have a:=a.ga bt
 have k:=k.ga bt
 have j:=j.gb bt
 have i:=i.gb bt
 refine km rfl (ud rfl (fun hc=> ?_) (fun hc=> ?_))
 ·have aw:yp X B.d=(X,2):=by rw[yp,aP bi,aR (show¬z7 B.d from by simpa using hc)]
  refine jd rfl (j9 (j7 (gv rfl rfl ?_)))
  exact⟨by rw[aw],by rw[aw];exact ComQ.same k,i⟩
 have a0:z7 B.d:=by simpa using hc
 have dq:B.ss.length≤128:=by have e:=a0.2.1;rw[qu.d,aE] at e;exact e
 have dr:B.os.length≤4096:=by have e:=a0.1;rw[qu.d,aE] at e;exact e
 refine x3 ?_
 have cr:=a.lt
 have c9:=i.size
 refine ji (α:=(uh×qu)×Nat×Nat) [0] rfl (fun z=>[(6,.pointer (some ⟨z.2.1,0,none⟩)),(7,.pointer (some ⟨z.2.2,0,none⟩)),(8,.int .i64 (jv X.s B.d).2.2)]) (fun z u=>(StA u sp x d F H K X h∧Ext No w u∧xu u (Grow K w u) z.1.1∧C9 u z.1.2∧((jv X.s B.d).2.2=0→z.1.1.s=(jv X.s B.d).1∧z.1.2.d=(jv X.s B.d).2.1∧∃r,z.1.1.m=some r))∧gz u b3 25 (B.c)∧gz u z.2.1 121 (z.1.1.c)∧w3.heap.size≤z.2.1∧gz u z.2.2 25 (z.1.2.c)∧w3.heap.size≤z.2.2∧z.2.1≠z.2.2∧Ext (StS F H sp) w u) ?_ ?_
 ·have C:=aD w3.heap.size
  refine zz7 rfl 15 15 [] (No) zk fun w4 bb ds=> ?_
  have cs:=a
  have kd:=k
  have a:=a.ga bb
  have k:=k.ga bb
  have j:=j.gb bb
  have C:=aA C bb.size
  have i:=i.gb bb
  have p:Ext No _ w4:=bb
  refine qm [qP 0,qP 1,qP 2,qP 3,qP 4] 10 rfl zk (gt gc 3 rfl (qa gc rfl rfl (fun w' c1=>((Seg.append (l:=[.pointer (some ⟨x,0,none⟩)])).1 (kd.ga c1).box.kj).2) rfl ?_))
  refine qa gc rfl rfl (fun w' c1=>(cs.ga c1).kj) rfl ?_
  refine yd rfl (As [5,10,11] rfl zk ⟨⟨_,rfl,?_⟩,⟨_,rfl,?_⟩,⟨_,rfl,?_⟩,trivial⟩)
  ·have b4:=j.size
   have b5:=k.klt
   refine j1 call64 rfl (A8 w4 k.has k.klt (av.ga j) a0 bk zo zo (hr.ext j id)) fun v5 w5 ca=>⟨(by obtain⟨h2,Z,rfl,J,bc⟩:=ca;exact p.gb bc),?_⟩
   obtain⟨h2,Z,rfl,J,bc⟩:=ca
   have a:=a.ga bc
   have k:=k.ga bc
   have j:=j.gb bc
   have C:=aA C bc.size
   have i:=i.gb bc
   have p:=p.gb bc
   have E:=J.has
   have o:=J.own
   have b8:=bc.size
   have Y:=J.eq
   rw[bf] at Y⊢
   have n:=aD w5.heap.size
   refine qm [qP 6,qP 7,qP 8,qP 9] 5 rfl zk (gt gc 4 rfl (yd rfl (As [10,11] rfl zk ⟨⟨_,rfl,?_⟩,⟨_,rfl,?_⟩,trivial⟩)))
   ·refine Ba gc rfl fun b6 w6 t f b9=>⟨p.gb b9,?_⟩
    have Q:=j2 a.lt t
    have L:=aA i.size t
    have R:=aA C t
    have al:=aA n t
    have A:=aA p.size t
    have a:=a.ga b9
    have k:=k.ga b9
    have j:=j.gb b9
    have E:=E.ga b9
    have o:=o.ga b9
    have C:=aA C b9.size
    have n:=aA n b9.size
    have i:=i.gb b9
    have p:=p.gb b9
    have ax:=zz3 al b5 b8
    refine qm [(11,false),(12,false),(13,false),qP 14] 0 rfl zk (jo rfl (Ba gc rfl fun b7 w7 I g ay=>⟨p.gb ay,?_⟩))
    have S:=j2 a.lt I
    have M:=j2 f.lt I
    have N:=aA i.size I
    have T:=aA C I
    have am:=aA n I
    have U:=aA p.size I
    have a:=a.ga ay
    have f:=f.ga ay
    have k:=k.ga ay
    have j:=j.gb ay
    have E:=E.ga ay
    have o:=o.ga ay
    have C:=aA C ay.size
    have n:=aA n ay.size
    have i:=i.gb ay
    have p:=p.gb ay
    have az:=zz3 am b5 b8
    have a1:=f
    refine jo rfl (j4 (l':=h2.c) gc f rfl rfl rfl rfl OneC.h fun w8 f b0 dt=>⟨p.gi b0 A,?_⟩)
    have p:=p.gi b0 A
    have a:=a.gj b0 Q
    have g:=g.gj b0 M.symm
    have k:=k.ext b0 (yv k0.lt L)
    have j:=j.gi b0 L
    have E:=E.ext b0 ax
    have o:=o.gj b0 a1 zd
    have C:=aA C b0.size
    have n:=aA n b0.size
    have i:=i.gi b0 L
    have a2:=g
    refine jo rfl (j4 (l':=Z.c) gc g rfl rfl rfl rfl OneC.h fun w9 g ba du=>⟨p.gi ba U,?_⟩)
    have a:=a.gj ba S
    have f:=f.gj ba M
    have k:=k.ext ba (yv k0.lt N)
    have j:=j.gi ba N
    have E:=E.ext ba az
    have o:=o.gj ba a2 zd
    have C:=aA C ba.size
    have n:=aA n ba.size
    have i:=i.gi ba N
    refine gt gc 1 rfl (jg (j5 ?_))
    exact gr ((h2,Z),b6,b7) rfl ⟨⟨k,j,E.mono fun y P=>Grow.wide b4 n P,J.bat _ (av.ga j) o,Y⟩,a,f,R,g,T,M,i⟩
   refine Ba gc rfl fun b7 dv I g ad=>⟨p.gb ad,?_⟩
   have S:=j2 a.lt I
   have N:=aA i.size I
   have T:=aA C I
   have am:=aA n I
   have U:=aA p.size I
   have a:=a.ga ad
   have k:=k.ga ad
   have j:=j.gb ad
   have E:=E.ga ad
   have o:=o.ga ad
   have C:=aA C ad.size
   have n:=aA n ad.size
   have i:=i.gb ad
   have p:=p.gb ad
   have az:=zz3 am b5 b8
   refine qm [(10,false),(12,false),(13,false),qP 14] 0 rfl zk (jo rfl (Ba gc rfl fun b6 dw t f a3=>⟨p.gb a3,?_⟩))
   have Q:=j2 a.lt t
   have O:=j2 g.lt t
   have L:=aA i.size t
   have R:=aA C t
   have al:=aA n t
   have A:=aA p.size t
   have a:=a.ga a3
   have g:=g.ga a3
   have k:=k.ga a3
   have j:=j.gb a3
   have E:=E.ga a3
   have o:=o.ga a3
   have C:=aA C a3.size
   have n:=aA n a3.size
   have i:=i.gb a3
   have p:=p.gb a3
   have ax:=zz3 al b5 b8
   have a1:=f
   refine jo rfl (j4 (l':=h2.c) gc f rfl rfl rfl rfl OneC.h fun dx f a4 dc=>⟨p.gi a4 A,?_⟩)
   have p:=p.gi a4 A
   have a:=a.gj a4 Q
   have g:=g.gj a4 O
   have k:=k.ext a4 (yv k0.lt L)
   have j:=j.gi a4 L
   have E:=E.ext a4 ax
   have o:=o.gj a4 a1 zd
   have C:=aA C a4.size
   have n:=aA n a4.size
   have i:=i.gi a4 L
   have a2:=g
   refine jo rfl (j4 (l':=Z.c) gc g rfl rfl rfl rfl OneC.h fun dy g ae dd=>⟨p.gi ae U,?_⟩)
   have a:=a.gj ae S
   have f:=f.gj ae O.symm
   have k:=k.ext ae (yv k0.lt N)
   have j:=j.gi ae N
   have E:=E.ext ae az
   have o:=o.gj ae a2 zd
   have C:=aA C ae.size
   have n:=aA n ae.size
   have i:=i.gi ae N
   refine gt gc 1 rfl (jg (j5 ?_))
   exact gr ((h2,Z),b6,b7) rfl ⟨⟨k,j,E.mono fun y P=>Grow.wide b4 n P,J.bat _ (av.ga j) o,Y⟩,a,f,R,g,T,O.symm,i⟩
  ·have _u:=i
   refine Ba gc rfl fun b6 ct t f b1=>⟨p.gb b1,?_⟩
   have Q:=j2 a.lt t
   have L:=aA i.size t
   have R:=aA C t
   have A:=aA p.size t
   have a:=a.ga b1
   have k:=k.ga b1
   have j:=j.gb b1
   have C:=aA C b1.size
   have i:=i.gb b1
   have p:=p.gb b1
   refine qm [] 9 rfl zk (yd rfl (As [5,11] rfl zk ⟨⟨_,rfl,?_⟩,⟨_,rfl,?_⟩,trivial⟩))
   ·have b4:=j.size
    have b5:=k.klt
    have bm:=f.lt
    refine j1 call64 rfl (A8 ct k.has k.klt (av.ga j) a0 bk zo zo (hr.ext j id)) fun dz cb bv=>⟨(by obtain⟨h2,Z,rfl,J,af⟩:=bv;exact p.gb af),?_⟩
    obtain⟨h2,Z,rfl,J,af⟩:=bv
    have a:=a.ga af
    have f:=f.ga af
    have k:=k.ga af
    have j:=j.gb af
    have C:=aA C af.size
    have i:=i.gb af
    have p:=p.gb af
    have E:=J.has
    have o:=J.own
    have b8:=af.size
    have Y:=J.eq
    rw[bf] at Y⊢
    have ax:=zx7 (u:=cb) bm L k0.klt
    have n:=aD cb.heap.size
    refine qm [qP 6,qP 7,qP 8,qP 9,(11,false),(12,false),(13,false),qP 14] 0 rfl zk (gt gc 4 rfl (jo rfl (Ba gc rfl fun b7 e0 I g a5=>⟨p.gb a5,?_⟩)))
    have S:=j2 a.lt I
    have M:=j2 f.lt I
    have N:=aA i.size I
    have T:=aA C I
    have am:=aA n I
    have U:=aA p.size I
    have a:=a.ga a5
    have f:=f.ga a5
    have k:=k.ga a5
    have j:=j.gb a5
    have E:=E.ga a5
    have o:=o.ga a5
    have C:=aA C a5.size
    have n:=aA n a5.size
    have i:=i.gb a5
    have p:=p.gb a5
    have az:=zz3 am b5 b8
    have a1:=f
    refine jo rfl (j4 (l':=h2.c) gc f rfl rfl rfl rfl OneC.h fun e3 f a6 de=>⟨p.gi a6 A,?_⟩)
    have p:=p.gi a6 A
    have a:=a.gj a6 Q
    have g:=g.gj a6 M.symm
    have k:=k.ext a6 (yv k0.lt L)
    have j:=j.gi a6 L
    have E:=E.ext a6 ax
    have o:=o.gj a6 a1 zd
    have C:=aA C a6.size
    have n:=aA n a6.size
    have i:=i.gi a6 L
    have a2:=g
    refine jo rfl (j4 (l':=Z.c) gc g rfl rfl rfl rfl OneC.h fun e4 g ag df=>⟨p.gi ag U,?_⟩)
    have a:=a.gj ag S
    have f:=f.gj ag M
    have k:=k.ext ag (yv k0.lt N)
    have j:=j.gi ag N
    have E:=E.ext ag az
    have o:=o.gj ag a2 zd
    have C:=aA C ag.size
    have n:=aA n ag.size
    have i:=i.gi ag N
    refine gt gc 1 rfl (jg (j5 ?_))
    exact gr ((h2,Z),b6,b7) rfl ⟨⟨k,j,E.mono fun y P=>Grow.wide b4 n P,J.bat _ (av.ga j) o,Y⟩,a,f,R,g,T,M,i⟩
   have _u:=i
   refine Ba gc rfl fun b7 cu I g aq=>⟨p.gb aq,?_⟩
   have S:=j2 a.lt I
   have M:=j2 f.lt I
   have N:=aA i.size I
   have T:=aA C I
   have U:=aA p.size I
   have a:=a.ga aq
   have f:=f.ga aq
   have k:=k.ga aq
   have j:=j.gb aq
   have C:=aA C aq.size
   have i:=i.gb aq
   have p:=p.gb aq
   refine qm [(5,false),qP 6,qP 7,qP 8,qP 9,(12,false),(13,false),qP 14] 0 rfl zk ?_
   have b4:=j.size
   have b5:=k.klt
   have bm:=f.lt
   have bn:=g.lt
   refine jo rfl (j1 call64 rfl (A8 cu k.has k.klt (av.ga j) a0 bk zo zo (hr.ext j id)) fun e6 c2 bw=>⟨(by obtain⟨h2,Z,rfl,J,a7⟩:=bw;exact p.gb a7),?_⟩)
   obtain⟨h2,Z,rfl,J,a7⟩:=bw
   have a:=a.ga a7
   have f:=f.ga a7
   have g:=g.ga a7
   have k:=k.ga a7
   have j:=j.gb a7
   have C:=aA C a7.size
   have i:=i.gb a7
   have p:=p.gb a7
   have E:=J.has
   have o:=J.own
   have b8:=a7.size
   have Y:=J.eq
   rw[bf] at Y⊢
   have ax:=zx7 (u:=c2) bm L k0.klt
   have az:=zx7 (u:=c2) bn N k0.klt
   have n:=aD c2.heap.size
   refine gt gc 4 rfl ?_
   have a1:=f
   refine jo rfl (j4 (l':=h2.c) gc f rfl rfl rfl rfl OneC.h fun e7 f a8 dg=>⟨p.gi a8 A,?_⟩)
   have p:=p.gi a8 A
   have a:=a.gj a8 Q
   have g:=g.gj a8 M.symm
   have k:=k.ext a8 (yv k0.lt L)
   have j:=j.gi a8 L
   have E:=E.ext a8 ax
   have o:=o.gj a8 a1 zd
   have C:=aA C a8.size
   have n:=aA n a8.size
   have i:=i.gi a8 L
   have a2:=g
   refine jo rfl (j4 (l':=Z.c) gc g rfl rfl rfl rfl OneC.h fun e8 g ah dh=>⟨p.gi ah U,?_⟩)
   have a:=a.gj ah S
   have f:=f.gj ah M
   have k:=k.ext ah (yv k0.lt N)
   have j:=j.gi ah N
   have E:=E.ext ah az
   have o:=o.gj ah a2 zd
   have C:=aA C ah.size
   have n:=aA n ah.size
   have i:=i.gi ah N
   refine gt gc 1 rfl (jg (j5 ?_))
   exact gr ((h2,Z),b6,b7) rfl ⟨⟨k,j,E.mono fun y P=>Grow.wide b4 n P,J.bat _ (av.ga j) o,Y⟩,a,f,R,g,T,M,i⟩
  have _u:=i
  refine Ba gc rfl fun b7 cv I g b2=>⟨p.gb b2,?_⟩
  have S:=j2 a.lt I
  have N:=aA i.size I
  have T:=aA C I
  have U:=aA p.size I
  have a:=a.ga b2
  have k:=k.ga b2
  have j:=j.gb b2
  have C:=aA C b2.size
  have i:=i.gb b2
  have p:=p.gb b2
  refine qm [] 9 rfl zk (yd rfl (As [5,10] rfl zk ⟨⟨_,rfl,?_⟩,⟨_,rfl,?_⟩,trivial⟩))
  ·have b4:=j.size
   have b5:=k.klt
   have bn:=g.lt
   refine j1 call64 rfl (A8 cv k.has k.klt (av.ga j) a0 bk zo zo (hr.ext j id)) fun e9 cc bx=>⟨(by obtain⟨h2,Z,rfl,J,ai⟩:=bx;exact p.gb ai),?_⟩
   obtain⟨h2,Z,rfl,J,ai⟩:=bx
   have a:=a.ga ai
   have g:=g.ga ai
   have k:=k.ga ai
   have j:=j.gb ai
   have C:=aA C ai.size
   have i:=i.gb ai
   have p:=p.gb ai
   have E:=J.has
   have o:=J.own
   have b8:=ai.size
   have Y:=J.eq
   rw[bf] at Y⊢
   have az:=zx7 (u:=cc) bn N k0.klt
   have n:=aD cc.heap.size
   refine qm [qP 6,qP 7,qP 8,qP 9,(10,false),(12,false),(13,false),qP 14] 0 rfl zk (gt gc 4 rfl (jo rfl (Ba gc rfl fun b6 ea t f a9=>⟨p.gb a9,?_⟩)))
   have Q:=j2 a.lt t
   have O:=j2 g.lt t
   have L:=aA i.size t
   have R:=aA C t
   have al:=aA n t
   have A:=aA p.size t
   have a:=a.ga a9
   have g:=g.ga a9
   have k:=k.ga a9
   have j:=j.gb a9
   have E:=E.ga a9
   have o:=o.ga a9
   have C:=aA C a9.size
   have n:=aA n a9.size
   have i:=i.gb a9
   have p:=p.gb a9
   have ax:=zz3 al b5 b8
   have a1:=f
   refine jo rfl (j4 (l':=h2.c) gc f rfl rfl rfl rfl OneC.h fun eb f aa di=>⟨p.gi aa A,?_⟩)
   have p:=p.gi aa A
   have a:=a.gj aa Q
   have g:=g.gj aa O
   have k:=k.ext aa (yv k0.lt L)
   have j:=j.gi aa L
   have E:=E.ext aa ax
   have o:=o.gj aa a1 zd
   have C:=aA C aa.size
   have n:=aA n aa.size
   have i:=i.gi aa L
   have a2:=g
   refine jo rfl (j4 (l':=Z.c) gc g rfl rfl rfl rfl OneC.h fun ec g aj dj=>⟨p.gi aj U,?_⟩)
   have a:=a.gj aj S
   have f:=f.gj aj O.symm
   have k:=k.ext aj (yv k0.lt N)
   have j:=j.gi aj N
   have E:=E.ext aj az
   have o:=o.gj aj a2 zd
   have C:=aA C aj.size
   have n:=aA n aj.size
   have i:=i.gi aj N
   refine gt gc 1 rfl (jg (j5 ?_))
   exact gr ((h2,Z),b6,b7) rfl ⟨⟨k,j,E.mono fun y P=>Grow.wide b4 n P,J.bat _ (av.ga j) o,Y⟩,a,f,R,g,T,O.symm,i⟩
  have _u:=i
  refine Ba gc rfl fun b6 cw t f ar=>⟨p.gb ar,?_⟩
  have Q:=j2 a.lt t
  have O:=j2 g.lt t
  have L:=aA i.size t
  have R:=aA C t
  have A:=aA p.size t
  have a:=a.ga ar
  have g:=g.ga ar
  have k:=k.ga ar
  have j:=j.gb ar
  have C:=aA C ar.size
  have i:=i.gb ar
  have p:=p.gb ar
  refine qm [(5,false),qP 6,qP 7,qP 8,qP 9,(12,false),(13,false),qP 14] 0 rfl zk ?_
  have b4:=j.size
  have b5:=k.klt
  have bn:=g.lt
  have bm:=f.lt
  refine jo rfl (j1 call64 rfl (A8 cw k.has k.klt (av.ga j) a0 bk zo zo (hr.ext j id)) fun ed c3 bz=>⟨(by obtain⟨h2,Z,rfl,J,ab⟩:=bz;exact p.gb ab),?_⟩)
  obtain⟨h2,Z,rfl,J,ab⟩:=bz
  have a:=a.ga ab
  have g:=g.ga ab
  have f:=f.ga ab
  have k:=k.ga ab
  have j:=j.gb ab
  have C:=aA C ab.size
  have i:=i.gb ab
  have p:=p.gb ab
  have E:=J.has
  have o:=J.own
  have b8:=ab.size
  have Y:=J.eq
  rw[bf] at Y⊢
  have az:=zx7 (u:=c3) bn N k0.klt
  have ax:=zx7 (u:=c3) bm L k0.klt
  have n:=aD c3.heap.size
  refine gt gc 4 rfl ?_
  have a1:=f
  refine jo rfl (j4 (l':=h2.c) gc f rfl rfl rfl rfl OneC.h fun ee f ac dk=>⟨p.gi ac A,?_⟩)
  have p:=p.gi ac A
  have a:=a.gj ac Q
  have g:=g.gj ac O
  have k:=k.ext ac (yv k0.lt L)
  have j:=j.gi ac L
  have E:=E.ext ac ax
  have o:=o.gj ac a1 zd
  have C:=aA C ac.size
  have n:=aA n ac.size
  have i:=i.gi ac L
  have a2:=g
  refine jo rfl (j4 (l':=Z.c) gc g rfl rfl rfl rfl OneC.h fun ef g ak dl=>⟨p.gi ak U,?_⟩)
  have a:=a.gj ak S
  have f:=f.gj ak O.symm
  have k:=k.ext ak (yv k0.lt N)
  have j:=j.gi ak N
  have E:=E.ext ak az
  have o:=o.gj ak a2 zd
  have C:=aA C ak.size
  have n:=aA n ak.size
  have i:=i.gi ak N
  refine gt gc 1 rfl (jg (j5 ?_))
  exact gr ((h2,Z),b6,b7) rfl ⟨⟨k,j,E.mono fun y P=>Grow.wide b4 n P,J.bat _ (av.ga j) o,Y⟩,a,f,R,g,T,O.symm,i⟩
 rintro⟨⟨h2,Z⟩,b6,b7⟩ cd ⟨⟨k,j,E,bg,Y⟩,a,f,t,g,I,M,i⟩
 try dsimp only
 dsimp only at f t g I M
 have L:=aA c9 t
 dsimp only at k j E bg Y
 have eg:=bg.lo
 have eh:=bg.ls
 obtain⟨G,ce,an,E⟩:∃G:Nat→Prop,(∀y,G y→K y∨w.heap.size≤y)∧(∀y,G y→y<cd.heap.size)∧xu cd G h2:=⟨_,fun y P=>P.imp id fun e=>e.1,fun y P=>P.elim (k.klt y) fun e=>e.2,E⟩
 have bj:∀y,G y→¬F y∧¬H y∧y≠sp:=fun y P=>(ce y P).elim (fun e=>⟨(k.kf y e).1,(k.kf y e).2,fun e2=>k.sf.2.2 (e2▸e)⟩) fun e=>⟨fun e2=>by have:=k0.disk.lt y e2;omega,fun e2=>by have:=k0.log.lt y e2;omega,fun e2=>by have:=k0.box.lt;omega⟩
 refine gl ?_
 refine ji (α:=Bool) [0,6,7,8] rfl (fun z=>[(41,.bool z)]) (fun z u=>(z=decide ((jv X.s B.d).2.2≠0∨Z.os.length+Z.ss.length=0)∧StA u sp x d F H K X h∧Ext No w u∧xu u G h2∧C9 u Z∧(∀y,G y→y<u.heap.size))∧gz u b3 25 (B.c)∧gz u b6 121 (h2.c)∧gz u b7 25 (Z.c)∧Ext (StS F H sp) w u) ?_ ?_
 ·refine gy ?_
  refine j0 gc rfl (ja 32 rfl (fun hg=> ?_) (fun hg=> ?_))
  ·refine gq gc 9 rfl ?_
   refine gk ?_
   exact gr (true) rfl ⟨⟨by symm;exact bQ (.inl hg),k,j,E,bg,an⟩,a,f,g,i⟩
  refine gq gc 1 rfl ?_
  refine j6 g rfl rfl (gq gc 2 rfl (j6 g rfl rfl (gq gc 4 rfl ?_)))
  rw[jz _ zo]
  refine gk ?_
  exact gr (_) rfl ⟨⟨by rw[aH];exact⟨fun e=> .inr zo,fun e=>(by have:=e.resolve_left hg;omega)⟩,k,j,E,bg,an⟩,a,f,g,i⟩
 rintro z cx ⟨⟨rfl,k,j,E,bg,an⟩,a,f,g,i⟩
 refine jl rfl (fun hc=> ?_) (fun hc=> ?_)
 ·have aw:yp X B.d=(X,(jv X.s B.d).2.2):=by
   rw[yp,aP bi,aP (fun e=>e a0)]
   refine aR (hc.imp id fun e=> ?_)
   by_cases h0:(jv X.s B.d).2.2=0
   ·obtain⟨_,e2,_⟩:=Y h0
    rw[←e2]
    refine⟨?_,?_⟩
    ·show Z.os.map Prod.fst=[]
     rw[aZ (by omega:Z.os.length=0)];rfl
    show Z.ss.map Prod.fst=[]
    rw[aZ (by omega:Z.ss.length=0)];rfl
   rw[(xw0 h0).2];exact⟨rfl,rfl⟩
  refine jd rfl (j9 (j7 (gv rfl rfl ?_)))
  exact⟨by rw[aw],by rw[aw];exact ComQ.same k,i⟩
 have h0:(jv X.s B.d).2.2=0:=cZ fun e=>hc (.inl e)
 obtain⟨c4,cf,cy⟩:=Y h0
 have aw:yp X B.d=(zx2 X (jv X.s B.d).1 (uf (jv X.s B.d).2.1)):=by
  rw[yp,aP bi,aP (fun e=>e a0)]
  refine aP fun e=>hc (.inr ?_)
  have e:=e.resolve_left fun e=>e h0
  rw[←cf] at e
  have e1:(Z.os.map Prod.fst).length=0:=by rw[show Z.os.map Prod.fst=[] from e.1];rfl
  have e2:(Z.ss.map Prod.fst).length=0:=by rw[show Z.ss.map Prod.fst=[] from e.2];rfl
  rw[aE] at e1 e2
  omega
 have cg:yx Z.d=(uf (jv X.s B.d).2.1):=by rw[cf];exact aR (fresh_may a0)
 have cz:h2.s.Ok:=by rw[c4];exact(after_ok hsok a0).1
 refine x3 (ko (je g rfl rfl ?_))
 have d0:=j
 refine gh call30 rfl (Bl cx bg) fun ei d1 ch=> ?_
 obtain⟨q,kq,rfl,hq,au⟩:=ch
 have a:=a.ga au
 have f:=f.ga au
 have g:=g.ga au
 have k:=k.ga au
 have j:=j.gb au
 have E:=E.ga au
 have an:=fun y P=>aM (an y P) au.size
 have i:=i.gb au
 rw[cg] at hq⊢
 have hq:=hq.older (V:=w) d0.size
 refine km rfl ?_
 refine ji (α:=Unit) [0,6] rfl (fun z=>[(8,.int .i64 (zx2 X (jv X.s B.d).1 (uf (jv X.s B.d).2.1)).2)]) (fun z u=>(ComJ w u sp x d F H K G X h h2 (zx2 X (jv X.s B.d).1 (uf (jv X.s B.d).2.1)).1.W)∧gz u b6 121 (h2.c)∧Ext (StS F H sp) w u) ?_ ?_
 ·refine gl ?_
  refine yl rfl (gh call65 rfl (xb d1 _) fun ej d2 ci=> ?_)
  obtain⟨rfl,ao⟩:=ci
  have a:=a.ga ao
  have f:=f.ga ao
  have g:=g.ga ao
  have k:=k.ga ao
  have j:=j.gb ao
  have E:=E.ga ao
  have an:=fun y P=>aM (an y P) ao.size
  have hq:=hq.ga ao
  have i:=i.gb ao
  rw[B8]
  refine km rfl ?_
  refine ji (α:=Bool) [0,6,9] rfl (fun z=>[(61,.bool z)]) (fun z u=>(z=decide ((uf (jv X.s B.d).2.1).length≤40000∧(kw (uf (jv X.s B.d).2.1).length:Int)≤(X.W.size:Int)-X.W.used)∧StA u sp x d F H K X h∧Ext No w u∧xu u G h2∧(∀y,G y→y<u.heap.size)∧k8 w u q (uf (jv X.s B.d).2.1).length kq 5 1 (ge (uf (jv X.s B.d).2.1)))∧gz u b3 25 (B.c)∧gz u b6 121 (h2.c)∧gz u b7 25 (Z.c)∧Ext (StS F H sp) w u) ?_ ?_
  ·refine gy ?_
   refine j0 gc rfl (ja 53 rfl (fun hg=> ?_) (fun hg=> ?_))
   ·refine gq gc 4 rfl ?_
    refine gu rfl (k.box.cell rfl) (gh call66 rfl (left_calls d2 k.log (by have:=hW.size;omega) (by have:=hW.size;have:=hW.room;omega)) fun ek el cj=> ?_)
    obtain⟨rfl,ap⟩:=cj
    have a:=a.ga ap
    have f:=f.ga ap
    have g:=g.ga ap
    have k:=k.ga ap
    have j:=j.gb ap
    have E:=E.ga ap
    have an:=fun y P=>aM (an y P) ap.size
    have hq:=hq.ga ap
    have i:=i.gb ap
    refine gq gc 2 rfl (gk ?_)
    exact gr (_) rfl ⟨⟨by rw[aH];exact⟨fun e=>⟨sect_pos zo,e⟩,And.right⟩,k,j,E,an,hq⟩,a,f,g,i⟩
   refine gq gc 8 rfl ?_
   refine gk ?_
   exact gr (false) rfl ⟨⟨by symm;rw[aC];exact fun e=>hg (by have:=Df e.1;omega),k,j,E,an,hq⟩,a,f,g,i⟩
  rintro z ck ⟨⟨rfl,k,j,E,an,hq⟩,a,f,g,i⟩
  refine jl rfl (fun hc=> ?_) (fun hc=> ?_)
  ·have bo:(zx2 X (jv X.s B.d).1 (uf (jv X.s B.d).2.1))=(⟨(X.W.append (uf (jv X.s B.d).2.1)).1,if(X.W.append (uf (jv X.s B.d).2.1)).2=0 then(jv X.s B.d).1 else X.s⟩,(X.W.append (uf (jv X.s B.d).2.1)).2):=aR hc
   refine yl rfl (gu rfl (k.box.cell rfl) (j0 gc rfl ?_))
   have k4:=k
   have c5:=j
   have c6:=E
   have bp:=an
   refine gh call39 rfl (append_calls ck k.log k.disk hok hm hW hq.sl (cg▸codeE_lt _) (hr.ext j id) hF0 k.hf (fun y em e=>by obtain⟨P,hl⟩:=hq.D7 e;exact⟨fun e=>by have:=k0.disk.lt y e;omega,fun e=>by have:=k0.log.lt y e;omega⟩)) fun en eo cl=> ?_
   obtain⟨rfl,F2,H2,d3,d4,d5,d6,cm,bq⟩:=cl
   have f:=f.ext bq (bu b6 L)
   have i:=i.then (bq.mono fun y _ e=>e.imp id .inl)
   have bh:=(k4.logQ (Ext.refl No _) d3 d4 d5 d6 cm bq 0).com c5.size c6 fun y P=>⟨(bj y P).1,(bj y P).2.1,(bj y P).2.2,bp y P⟩
   refine j0 gc rfl (gk ?_)
   exact gr (()) (by rw[bo];rfl) ⟨(by rw[bo];exact bh),f,i⟩
  have bo:(zx2 X (jv X.s B.d).1 (uf (jv X.s B.d).2.1))=xv3 X (jv X.s B.d).1:=aP hc
  refine yl rfl (je f rfl rfl ?_)
  have k4:=k
  have c5:=j
  have c6:=E
  have bp:=an
  refine gh call56 rfl (sanew_calls ck k hok hm hW (hr.ext j id) hF0 E cz) fun ep er cn=> ?_
  obtain⟨rfl,co⟩:=cn
  obtain⟨_,_,_,_,_,bb⟩:=id co
  have f:=f.ext bb (bu b6 L)
  have i:=i.then (bb.mono fun y _ e=>e.imp id .inl)
  have bh:=co.com c5.size c6 fun y P=>⟨(bj y P).1,(bj y P).2.1,(bj y P).2.2,bp y P⟩
  rw[c4] at bh⊢
  refine j0 gc rfl (gk ?_)
  exact gr (()) (by rw[bo];rfl) ⟨(by rw[bo];exact bh),f,i⟩
 rintro z es ⟨bh,f,i⟩
 refine ji (α:=Unit) [8] rfl (fun z=>[]) (fun z u=>(ComQ w u sp x d F H K (yp X B.d).1)∧Ext (StS F H sp) w u) ?_ ?_
 ·refine gl ?_
  refine gy (km rfl (jl rfl (fun hc=> ?_) (fun hc=> ?_)))
  ·obtain⟨F5,H5,k5,c7,c8,d7,br⟩:=bh
   have e5:(zx2 X (jv X.s B.d).1 (uf (jv X.s B.d).2.1)).1=⟨(zx2 X (jv X.s B.d).1 (uf (jv X.s B.d).2.1)).1.W,(jv X.s B.d).1⟩:=by
    have e:=lays_s X (jv X.s B.d).1 (uf (jv X.s B.d).2.1)
    rw[aR hc] at e
    exact sd_eta e
   refine yl rfl (je f rfl rfl (j0 gc rfl (wl (D3 gc k5.box rfl rfl (aD _) (OneC.h (l:=h2.c)) fun d8 d9 bd dm=> ?_))))
   have i:=i.then (bd.mono fun y _ e=> .inr (.inr e))
   have da:∀y,G y→¬One sp y:=fun y P=>(br y P).2.2.1
   have k6:StA d8 sp x d F5 H5 G ⟨(zx2 X (jv X.s B.d).1 (uf (jv X.s B.d).2.1)).1.W,(jv X.s B.d).1⟩ h2:=⟨d9,k5.disk.ext bd fun y P e=>k5.sf.1 (by have e:y=sp:=e;exact e▸P),k5.log.ext bd fun y P e=>k5.sf.2.1 (by have e:y=sp:=e;exact e▸P),d7.ext bd da,c4,cy,k5.hf,fun y P=>⟨(br y P).1,(br y P).2.1⟩,⟨k5.sf.1,k5.sf.2.1,fun e=>(br sp e).2.2.1 rfl⟩,fun y P=>aM (br y P).2.2.2 bd.size⟩
   refine gk ?_
   exact gr (()) rfl ⟨(by rw[aw,e5];exact⟨F5,H5,G,h2,k6,c7,c8,ce⟩),i⟩
  have e5:(zx2 X (jv X.s B.d).1 (uf (jv X.s B.d).2.1)).1=⟨(zx2 X (jv X.s B.d).1 (uf (jv X.s B.d).2.1)).1.W,X.s⟩:=by
   have e:=lays_s X (jv X.s B.d).1 (uf (jv X.s B.d).2.1)
   rw[aP hc] at e
   exact sd_eta e
  obtain⟨F5,H5,k5,c7,c8,_⟩:=bh
  refine kc ?_
  exact gr (()) rfl ⟨(by rw[aw,e5];exact⟨F5,H5,K,h,k5,c7,c8,fun _=> .inl⟩),i⟩
 rintro⟨⟩ et ⟨db,i⟩
 refine jd rfl (j9 (gv rfl rfl ?_))
 exact⟨by rw[aw],db,i⟩
abbrev sayF (o:Option Sto) (b:Bytes):Option Sto:=o.bind fun s=>vm s b
theorem objsB_ge:∀l:List jq,l.length≤(yt l).length
 | []=>aJ _
 |o::l=>by
  have h:=objsB_ge l
  have e:yt (o::l)=vz 2 (laidB o)++yt l:=rfl
  rw[e,aB,vz,aB,jy,aW]
  omega
theorem code_ge (b:Bu):b.objs.length≤(uf b).length:=by
 have:=objsB_ge b.objs
 simp only[uf,aB]
 omega
theorem said_ok {s t:Sto} {b:Bytes} (hs:s.Ok) (h:vm s b=some t):t.Ok∧t.row.length≤s.row.length+b.length∧t.row.length≤s.row.length+4096:=by
 obtain⟨a,_,rfl⟩:=said_some h
 have c:=readB_may a
 have d:=after_ok hs c
 have f:=(readB_two b).elim (fun e=>e.2.2) fun e=>absurd a e.1
 have g:=code_ge (vi b).1
 rw[f] at g
 have i:=c.1
 exact⟨d.1,by omega,by omega⟩
theorem snap_ok {b:Bytes} {t:Sto} (h:yj b=some t):t.Ok∧t.row.length≤b.length:=by
 unfold yj at h
 split at h
 ·cases h;exact⟨xz4,aJ _⟩
 obtain⟨s,c,a⟩:=Option.bind_eq_some_iff.1 h
 split at a
 ·cases a
  have:=said_ok xz4 c
  exact⟨this.1,by have:=this.2.1;simpa using this⟩
 cases a
theorem fold_say:∀(l:List Bytes) {s t:Sto},s.Ok→l.foldl sayF (some s)=some t→t.Ok∧t.row.length≤s.row.length+(l.map List.length).sum
 | [],s,t,hs,h=>by cases h;exact⟨hs,aD _⟩
 |b::l,s,t,hs,h=>by
  rw[List.foldl_cons] at h
  cases ho:vm s b with
  |none=>rw[show sayF (some s) b=none from ho,Bv (fun _=>rfl)] at h;cases h
  |some u=>
   rw[show sayF (some s) b=some u from ho] at h
   have h1:=said_ok hs ho
   have h2:=fold_say l h1.1 h
   refine⟨h2.1,?_⟩
   have h3:=h1.2.1
   have h4:=h2.2
   rw[dL,List.sum_cons]
   omega
theorem sum_used:∀l:List Bytes,(∀b∈l,b.length≤40000)→(l.map List.length).sum≤48*ug l
 | [],_=>aD _
 |b::l,h=>by
  have h1:=sum_used l fun x hx=>h x (dJ _ hx)
  have h2:=xw7 (h b (List.mem_cons_self ..))
  have e:ug (b::l)=kw b.length+ug l:=rfl
  rw[e,dL,List.sum_cons]
  omega
theorem sum_take (l:List Bytes) (k:Nat):((l.take k).map List.length).sum≤(l.map List.length).sum:=by
 have e:(l.map List.length).sum=((l.take k).map List.length).sum+((l.drop k).map List.length).sum:=by rw[←List.sum_append,←bX,cS]
 omega
theorem open_say {W:Wl} (hW:Wl.Ok W) {s0:Bytes} {r0:List Bytes} (hp:W.pieces=s0::r0) (k:Nat) {s:Sto} (h:(r0.take k).foldl sayF (yj s0)=some s):s.Ok∧s.row.length≤48000:=by
 cases hs:yj s0 with
 |none=>rw[hs,Bv (fun _=>rfl)] at h;cases h
 |some t=>
  rw[hs] at h
  have a:=snap_ok hs
  have b:=fold_say _ a.1 h
  have e:=sum_take r0 k
  have c:=sum_used W.pieces hW.short
  have d:=hW.used
  have f:=hW.room
  have g:=hW.size
  rw[←d,hp,dL,List.sum_cons] at c
  exact⟨b.1,by omega⟩
def xj1 (o:Option Sto) (ok:Bool) (h:uh):Prop:=o.isSome=ok∧∀s,o=some s→h.s=s∧∃r,h.m=some r
theorem grow_out {K:Nat→Prop} {v u:World} {b:Nat} (hb:b<v.heap.size) (hK:∀y,K y→y≠b):∀y,Grow K v u y→¬One b y:=fun y hy e=>by
 have e:y=b:=e
 rcases hy with hy|hy
 ·exact hK y hy e
 omega
theorem grow_lt {K:Nat→Prop} {v u:World} (hK:∀y,K y→y<v.heap.size) (hv:v.heap.size≤u.heap.size):∀y,Grow K v u y→y<u.heap.size:=fun y hy=>hy.elim (fun e=>aM (hK y e) hv) fun e=>e.2
abbrev OpnZ:=uh×Bool×(Nat→Prop)
def opnC (w:World) (b6 b7:Nat) (r0:List Bytes) (o:Option Sto):CoS OpnZ w where
  Fp:=fun z y=>y=b6∨y=b7∨z.2.2 y
  J:=fun k z u=>gz u b6 121 z.1.c∧gz u b7 4 [.bool z.2.1]∧xu u z.2.2 z.1∧(∀y,z.2.2 y→y<u.heap.size∧y≠b6∧y≠b7)∧xj1 ((r0.take k).foldl sayF o) z.2.1 z.1
  Jx:=fun _ _ _ _=>False
  st:=fun⟨h1,h2,h3,h4,h5⟩ hE hS=>⟨h1.ext hE fun e=>(hS _ e).2 (.inl rfl),h2.ext hE fun e=>(hS _ e).2 (.inr (.inl rfl)),h3.ext hE fun y hy e=>(hS _ e).2 (.inr (.inr hy)),fun y hy=>⟨aM (h4 y hy).1 hE.size,(h4 y hy).2⟩,h5⟩
  stx:=fun h _ _=>h.elim
  lt:=fun⟨h1,h2,h3,h4,h5⟩ x e=>by
    rcases e with rfl|rfl|e
    ·exact h1.lt
    ·exact h2.lt
    ·exact(h4 x e).1
  ltx:=fun h=>h.elim
theorem snap_hold {s0:Bytes} (h0:s0≠[]) {h3:uh} (h:∀s,vm xq1 s0=some s→h3.s=s∧∃r,h3.m=some r):(vm xq1 s0=none→xj1 (yj s0) false h3)∧((vm xq1 s0).isSome→xj1 (yj s0) (decide (yx (Bf h3.s)=s0)) h3):=by
 unfold yj
 rw[aP h0]
 refine⟨fun e=>⟨by rw[e];rfl,fun s k=>by rw[e] at k;cases k⟩,fun e=> ?_⟩
 obtain⟨s,a⟩:=Option.isSome_iff_exists.1 e
 have b:=said_ok xz4 a
 have c:yx (Bf s)=uf (Bf s):=aR ((all_may b.1).2 (by have:=b.2.2;simpa using this))
 rw[a,(h s a).1,c]
 by_cases hc:uf (Bf s)=s0
 ·rw[show((some s).bind fun s=>if uf (Bf s)=s0 then some s else none)=some s from aR hc,bQ hc]
  exact⟨rfl,fun t e=>by cases e;exact h s a⟩
 rw[show((some s).bind fun s=>if uf (Bf s)=s0 then some s else none)=none from aP hc,bO hc]
 exact⟨rfl,fun t e=>by cases e⟩
theorem xj1.round {o:Option Sto} {ok:Bool} {h h3:uh} {b:Bytes} (k:xj1 o ok h) (hs:∀s,vm h.s b=some s→h3.s=s∧∃r,h3.m=some r) (ht:ok=true):xj1 (sayF o b) (vm h.s b).isSome h3:=by
 obtain⟨s,e⟩:=Option.isSome_iff_exists.1 (k.1.trans ht)
 have a:=(k.2 s e).1
 subst e
 rw[←a]
 exact⟨rfl,hs⟩
theorem xj1.off {o:Option Sto} {ok:Bool} {h:uh} {b:Bytes} (k:xj1 o ok h) (ht:ok=false):xj1 (sayF o b) ok h:=by
 cases o with
 |none=>exact k
 |some s=>exact absurd (k.1.trans ht) (fun e=>by cases e)
theorem sopen_calls (w : World) {d m : Nat} {F : Nat → Prop} {D : ku} (h : At w d F D) (hok : D.Ok m) (hm : m + 10000 < 1000000000) (hr : Rt w) (hF0 : ¬ F 0) :
  gn prog 14 [.pointer (some ⟨d, 0, none⟩)] w fun v w' => ∃ (so : Option Addr) (F' : Nat → Prop), v = .tuple #[.pointer so, .int .i64 (xj2 D).2.1] ∧ At w' d F' (xj2 D).1 ∧ Ext F w w' ∧ (∀ y, F' y → F y ∨ w.heap.size ≤ y) ∧ ((xj2 D).2.2 = none → so = none) ∧ ∀ X, (xj2 D).2.2 = some X → StNew w w' d F' so X := by
 refine Db func14 rfl rfl rfl rfl ?_
 have q := Ext.refl F w
 refine jd rfl (ki rfl (gh call58 rfl (open_calls w h hok hm hr hF0) fun v1 w1 ce => ?_))
 obtain ⟨xo, F2, rfl, A, a9, b5, cf, bq⟩ := ce
 have q := q.then a9
 refine km rfl (gl (jd rfl (jl rfl (fun Y => ?_) (fun Y => ?_))))
 ·have J : xj2 D = ((ur D).1, (ur D).2.1, none) := aR Y
  have cg := cf Y
  subst cg
  refine jd rfl (j9 (j7 (De [] List.nodup_nil (fun _ h => (by cases h)) [.pointer none, .int .i64 (ur D).2.1] (fun aj p => ?_) (.inl rfl))))
  have b2 : Ext No _ aj := p.mono fun x _ e => by cases e
  exact ⟨⟨rfl, rfl, trivial⟩, none, F2, by rw [J]; rfl, by rw [J]; exact A.ga b2, q.gb b2, b5, fun _ => rfl, fun X e => by rw [J] at e; cases e⟩
 ·have h0 : (ur D).2.1 = 0 := aS.1 Y
  obtain ⟨x, H, rfl, g, br⟩ := bq h0
  have hW := (openW_fine hok).2.2 h0
  obtain ⟨s0, r0, aa⟩ : ∃ s0 r0, (Wl.opened (ur D)).pieces = s0 :: r0 := by
   cases hp : (Wl.opened (ur D)).pieces with
   | nil => exact absurd hp hW.some
   | cons a l => exact ⟨a, l, rfl⟩
  have dj := hW.size.2
  have db := hW.few
  have dc : (Wl.opened (ur D)).pieces.length = r0.length + 1 := by rw [aa]; rfl
  have ar : 0 < (Wl.opened (ur D)).pieces.length := by omega
  have bs : (Wl.opened (ur D)).pieces[0] = s0 := by simp [aa]
  have au : ∀ b ∈ (Wl.opened (ur D)).pieces, b.length < 1000000000 := fun b hb => by have := hW.short b hb; omega
  have ch : (Wl.opened (ur D)).pieces.drop 1 = r0 := by rw [aa]; rfl
  have J : xj2 D = match saidD (Wl.opened (ur D)).pieces with
    | none => ((ur D).1, 201, none)
    | some s => ((ur D).1, 0, some ⟨Wl.opened (ur D), s⟩) := aP Y
  have ci : saidD (Wl.opened (ur D)).pieces = r0.foldl sayF (yj s0) := by rw [aa]; rfl
  rw [ci] at J
  obtain ⟨VA, bt⟩ : ∃ VA, VA = w1 := ⟨_, rfl⟩
  have L := A.lt
  have V := g.lt
  have b8 := q
  have o : VA.heap.size ≤ w1.heap.size := by rw [bt]; exact aD _
  rw [← bt] at L V b8
  refine x3 (ko (kg rfl trivial (l' := hasZ.c) rfl ?_))
  have cj := o
  refine gh call57 rfl (twin_calls w1 (hasZ_at w1 fun _ => False) (fun _ e => e.elim)) fun v2 w2 ck => ?_
  obtain ⟨h1, rfl, b9, ba, hB, ak⟩ := ck
  have A := A.ga ak
  have g := g.ga ak
  have o := aA o ak.size
  have q := q.gb ak
  have cl : ∃ r, h1.m = some r := hB.map.imp fun _ e => e.1
  obtain ⟨K, j, C, t⟩ : ∃ K : Nat → Prop, (∀ y, K y → y < w2.heap.size) ∧ (∀ y, K y → VA.heap.size ≤ y) ∧ xu w2 K h1 := ⟨_, fun y f => f.2, fun y f => aA cj (f.1.elim (fun e => e.elim) id), hB.hasLt ak.size⟩
  have a3 := j
  have al := o
  refine gw rfl fun b6 w3 bb i ah => ?_
  have bu := aA q.size bb
  have A := A.ga ah
  have g := g.ga ah
  have o := aA o ah.size
  have t := t.ga ah
  have j := fun y f => aM (j y f) ah.size
  have q := q.gb ah
  have M := yv a3 bb
  have af := aA al bb
  have a3 := j
  have al := o
  refine gw rfl fun b7 w4 av n ab => ?_
  have E := j2 i.lt av
  have bc := aA q.size av
  have i := i.ga ab
  have A := A.ga ab
  have g := g.ga ab
  have o := aA o ab.size
  have t := t.ga ab
  have j := fun y f => aM (j y f) ab.size
  have q := q.gb ab
  have G := yv a3 av
  have a0 := aA al av
  have am := i
  refine wl (j4 (l' := h1.c) gc i rfl rfl rfl rfl OneC.h fun w5 i ac dk => ?_)
  have n := n.gj ac E.symm
  have A := A.ext ac (yv L af)
  have g := g.ext ac (yv V af)
  have o := aA o ac.size
  have t := t.ext ac M
  have j := fun y f => aM (j y f) ac.size
  have q := q.gi ac bu
  refine kl n rfl rfl rfl fun w6 n ad dl => ?_
  have i := i.gj ad E
  have A := A.ext ad (yv L a0)
  have g := g.ext ad (yv V a0)
  have o := aA o ad.size
  have t := t.ext ad G
  have j := fun y f => aM (j y f) ad.size
  have q := q.gi ad bc
  refine qq ?_
  refine ji (α := OpnZ) [4, 6, 7] rfl (fun z => []) (fun z u => (xu u z.2.2 z.1 ∧ (∀ y, z.2.2 y → y < u.heap.size) ∧ (∀ y, z.2.2 y → y ≠ b6 ∧ y ≠ b7 ∧ VA.heap.size ≤ y) ∧ xj1 (yj s0) z.2.1 z.1 ∧ ye u x d H (Wl.opened (ur D)) ∧ At u d F2 (ur D).1 ∧ VA.heap.size ≤ u.heap.size) ∧ gz u b6 121 (z.1.c) ∧ gz u b7 4 ([.bool z.2.1]) ∧ Ext F w u) ?_ ?_
  ·refine gl ?_
   refine yl rfl (gh call59 rfl (snapshot_calls w6 g ar (au _ (aG ar))) fun v7 w7 cm => ?_)
   obtain ⟨q1, k1, rfl, I, dd, a4⟩ := cm
   have i := i.ga a4
   have n := n.ga a4
   have A := A.ga a4
   have g := g.ga a4
   have o := aA o a4.size
   have t := t.ga a4
   have j := fun y f => aM (j y f) a4.size
   have q := q.gb a4
   rw [bs] at I ⊢
   refine km rfl (jd rfl (jl rfl (fun Y => ?_) (fun Y => ?_)))
   ·have b3 : s0 ≠ [] := fun e => by rw [e] at Y; exact absurd Y zd
    have aw : h1.s = xq1 := by rw [uh.s, b9, ba]; rfl
    refine ko (je i rfl rfl (j0 gc rfl ?_))
    have a3 := j
    have bd := i.lt
    have bf := n.lt
    have al := o
    refine gh call60 rfl (said_calls w7 t j (by rw [aw]; exact xz4.rise) I.sl (by rw [← bs]; exact au _ (aG ar)) (by rw [b9]; decide) (by rw [ba]; decide) (hr.ext q hF0)) fun v8 w8 cn => ?_
    obtain ⟨h3, rfl, an, co, Z⟩ := cn
    have i := i.ga Z
    have n := n.ga Z
    have A := A.ga Z
    have g := g.ga Z
    have o := aA o Z.size
    have t := t.ga Z
    have j := fun y f => aM (j y f) Z.size
    have I := I.ext Z fun _ _ => id
    have q := q.gb Z
    rw [aw] at an ⊢
    obtain ⟨K3, j, C, M, G, t⟩ : ∃ K3 : Nat → Prop, (∀ y, K3 y → y < w8.heap.size) ∧ (∀ y, K3 y → VA.heap.size ≤ y) ∧ (∀ y, K3 y → ¬ One b6 y) ∧ (∀ y, K3 y → ¬ One b7 y) ∧ xu w8 K3 h3 := ⟨_, grow_lt a3 Z.size, fun y f => f.elim (C y) fun e => aA al e.1, grow_out bd M, grow_out bf G, co⟩
    refine j0 gc rfl ?_
    have am := i
    refine wl (j4 (l' := h3.c) gc i rfl rfl rfl rfl OneC.h fun w9 i a5 dm => ?_)
    have n := n.gj a5 E.symm
    have A := A.ext a5 (yv L af)
    have g := g.ext a5 (yv V af)
    have o := aA o a5.size
    have t := t.ext a5 M
    have j := fun y f => aM (j y f) a5.size
    have I := I.ju a5 am zd
    have q := q.gi a5 bu
    have ag := n
    refine kl n rfl rfl rfl fun cp n S de => ?_
    have i := i.gj S E
    have A := A.ext S (yv L a0)
    have g := g.ext S (yv V a0)
    have o := aA o S.size
    have t := t.ext S G
    have j := fun y f => aM (j y f) S.size
    have I := I.ju S ag zd
    have q := q.gi S bc
    refine qq (ko (j6 n rfl rfl (qq (ud rfl (fun Y => ?_) (fun Y => ?_)))))
    ·refine gl ?_
     refine gy (je i rfl rfl (gh call61 rfl (sall_calls cp t) fun dn cq bv => ?_))
     obtain ⟨B, rfl, cr, cs, N⟩ := bv
     have i := i.ga N
     have n := n.ga N
     have A := A.ga N
     have g := g.ga N
     have o := aA o N.size
     have t := t.ga N
     have j := fun y f => aM (j y f) N.size
     have I := I.ext N fun _ _ => id
     have q := q.gb N
     refine gh call30 rfl (Bl cq cs) fun dp dq bw => ?_
     obtain ⟨q2, k2, rfl, bx, O⟩ := bw
     have i := i.ga O
     have n := n.ga O
     have A := A.ga O
     have g := g.ga O
     have o := aA o O.size
     have t := t.ga O
     have j := fun y f => aM (j y f) O.size
     have I := I.ext O fun _ _ => id
     have q := q.gb O
     rw [cr] at bx ⊢
     refine km rfl (yl rfl (wl (D4 gc rfl rfl bx.sl (j0 gc rfl (wl (D4 gc rfl rfl I.sl (j0 gc rfl ?_)))))))
     have ag := n
     refine kl n rfl rfl rfl fun dr n T df => ?_
     have i := i.gj T E
     have A := A.ext T (yv L a0)
     have g := g.ext T (yv V a0)
     have o := aA o T.size
     have t := t.ext T G
     have j := fun y f => aM (j y f) T.size
     have I := I.ju T ag zd
     have q := q.gi T bc
     refine gk ?_
     have e7 : decide (ul (yx (Bf h3.s)) = ul s0) = decide (yx (Bf h3.s) = s0) := by rw [aH]; exact ⟨fun e => xt e, fun e => by rw [e]⟩
     rw [e7] at n
     exact gr (h3, decide (yx (Bf h3.s) = s0), K3) rfl ⟨⟨t, j, fun y f => ⟨M y f, G y f, C y f⟩, (snap_hold b3 an).2 Y, g, A, o⟩, i, n, q⟩
    ·refine kc ?_
     rw [Y] at n
     exact gr (h3, false, K3) rfl ⟨⟨t, j, fun y f => ⟨M y f, G y f, C y f⟩, (snap_hold b3 an).1 (Option.not_isSome_iff_eq_none.1 (by rw [Y]; decide)), g, A, o⟩, i, n, q⟩
   ·have bz : s0 = [] := aZ zo
    have aw : h1.s = xq1 := by rw [uh.s, b9, ba]; rfl
    refine kc ?_
    exact gr (h1, true, K) rfl ⟨⟨t, j, fun y f => ⟨M y f, G y f, C y f⟩, (by rw [bz]; exact ⟨rfl, fun s e => (by cases e; exact ⟨aw, cl⟩)⟩), g, A, o⟩, i, n, q⟩
  rintro ⟨h2, ok, K2⟩ ct ⟨⟨t, j, C, hO, g, A, o⟩, i, n, q⟩
  try dsimp only
  dsimp only at t j C hO i n
  have c0 := A.own
  have M : ∀ y, K2 y → ¬ One b6 y := fun y f => (C y f).1
  have G : ∀ y, K2 y → ¬ One b7 y := fun y f => (C y f).2.1
  refine gl (ki rfl ?_)
  have l6 := i.lt
  have l7 := n.lt
  have a3 := j
  have ds := o
  refine gh call62 rfl (all_calls ct g ar zo) fun dt cu c1 => ?_
  obtain ⟨bA, qA, cA, cv, rfl, c2, bg, c3, du, bh, P⟩ := c1
  have i := i.ga P
  have n := n.ga P
  have A := A.ga P
  have g := g.ga P
  have o := aA o P.size
  have t := t.ga P
  have j := fun y f => aM (j y f) P.size
  have q := q.gb P
  rw [ch] at c2 bg c3 bh
  have dv := P.size
  refine qq (j8 ?_)
  refine c_iterV (opnC cu b6 b7 r0 (yj s0)) ((h2, ok, K2)) rfl call139 rfl AllA.size (fun w1 a9 => all1_iter w1 (ps := r0) (c2.ga a9) (by by_cases h0 : r0.length = 0; exact ⟨bg.1, .inl h0⟩; exact bg.ext a9 fun _ _ _ => id) (c3.ext a9 fun _ _ _ => id) (fun y bi e h0 => aM (bh y bi e h0).2 a9.size) (fun y f => by have := V y f; have := a9.size; omega) zo (fun b hb => au b (by rw [aa]; exact dJ _ hb))) (fun y f => by
 rcases f with ⟨bi, e, h⟩ | f
 ·have h1 := bh y bi e h
  refine ⟨h1.2, fun e2 => ?_⟩
  rcases e2 with e2 | e2 | e2
  ·omega
  ·omega
  ·have := a3 y e2; omega
 ·have h1 := V y f
  refine ⟨by omega, fun e2 => ?_⟩
  rcases e2 with e2 | e2 | e2
  ·omega
  ·omega
  ·have := (C y e2).2.2; omega) ⟨i, n, t, fun y f => ⟨j y f, (C y f).1, (C y f).2.1⟩, hO⟩ (fun l DD r k z W vs Xn a6 ax hJ hk A => ?_) (fun DD z W hJ hE b4 cw ai c4 => ?_) (fun DD k c z W hk hJ hE b4 cw ai c4 => ?_)
  ·have Q := a6.l
   obtain ⟨h3, ay, K3⟩ := z
   obtain ⟨i, n, t, ae, hO⟩ := hJ
   dsimp only at i n t ae hO
   obtain ⟨qb, cb, rfl, a1, rfl⟩ := A
   have az : k < r0.length := hk
   obtain ⟨Bk, bj⟩ : ∃ Bk, Bk = r0.getD k [] := ⟨_, rfl⟩
   rw [← bj] at a1 ⊢
   have c5 : (r0.take (k + 1)).foldl sayF (yj s0) = sayF ((r0.take k).foldl sayF (yj s0)) Bk := by
    rw [Cj az, bj, cK, aN az]; rfl
   have cx : Bk.length < 1000000000 := au Bk (by rw [aa, bj, cK, aN az]; exact dJ _ (aG az))
   have j : ∀ y, K3 y → y < W.heap.size := fun y f => (ae y f).1
   have M : ∀ y, K3 y → ¬ One b6 y := fun y f => (ae y f).2.1
   have G : ∀ y, K3 y → ¬ One b7 y := fun y f => (ae y f).2.2
   have dw := L d c0
   have cy : ¬ (((0 = b6 ∨ 0 = b7 ∨ K3 0) ∨ 0 = l) ∨ jb qb 0) := fun e => by
    rcases e with ((e | e | e) | e) | e
    ·omega
    ·omega
    ·rcases a6.sub 0 (.inr (.inr e)) with (e | e | e) | e
     ·omega
     ·omega
     ·have := (C 0 e).2.2; omega
     ·omega
    ·have := a6.lo.1; omega
    ·have := (ax.ne 0 e).1; omega
   have cz : Rt W := (hr.ext q hF0).ext a6.X fun e => by
    have h0 := L d c0
    rcases e with e | e | e
    ·omega
    ·omega
    ·have := (C 0 e).2.2; omega
   have d0 := i.neL Q
   have d1 := n.neL Q
   have q : Ext (fun x => ((x = b6 ∨ x = b7 ∨ K3 x) ∨ x = l) ∨ jb qb x) W W := Ext.refl _ _
   refine yz (yx4 gc rfl (Ah (fin_begin a6 Q fun d2 a2 c6 => ?_)))
   have i := i.extL Q a2
   have n := n.extL Q a2
   have t := t.ext a2 fun y f e => (a6.fp _ (.inr (.inr f))).1 e
   have a1 := a1.ext a2 fun y f e => (ax.ne y f).2.1 e
   have j := fun y f => aM (j y f) a2.size
   have Q := c6
   have q := q.then (a2.mono fun x _ e => .inl (.inr e))
   refine ci_block (xx1 (yz (wli (.round _) rfl (st_ldb gc n rfl rfl (Ah (zz2 (ci_cond rfl (fun Y => ?_) (fun Y => ?_))))))))
   ·refine yz ?_
    refine wli (.round _) rfl (st_ldB gc i rfl rfl (yx4 gc rfl ?_))
    obtain ⟨s, ao⟩ := Option.isSome_iff_exists.1 (hO.1.trans Y)
    have bk := (hO.2 s ao).1
    have bm := open_say hW aa k ao
    have dx : h3.hs.length ≤ 48000 := by have e := bm.2; rw [← bk, uh.s, aE] at e; exact e
    have dy : h3.vs.length ≤ 128 := by have e := bm.1.few; rw [← bk, uh.s, aE] at e; exact e
    have a3 := j
    have bd := i.lt
    have bf := n.lt
    have d3 := q.size
    refine wli (.round _) rfl (j1 call60 rfl (said_calls d2 t j (by rw [bk]; exact bm.1.rise) a1.sl cx zo zo (cz.ext q cy)) fun dz c7 c8 => ?_)
    obtain ⟨h4, rfl, d4, d5, U⟩ := c8
    have i := i.ga U
    have n := n.ga U
    have t := t.ga U
    have a1 := a1.ext U fun _ _ => id
    have j := fun y f => aM (j y f) U.size
    have Q := zz Q U id
    have q := q.gb U
    obtain ⟨K4, j, c9, M, G, t⟩ : ∃ K4 : Nat → Prop, (∀ y, K4 y → y < c7.heap.size) ∧ (∀ y, K4 y → K3 y ∨ W.heap.size ≤ y) ∧ (∀ y, K4 y → ¬ One b6 y) ∧ (∀ y, K4 y → ¬ One b7 y) ∧ xu c7 K4 h4 := ⟨_, grow_lt a3 U.size, fun y f => f.imp id fun e => aA d3 e.1, grow_out bd M, grow_out bf G, d5⟩
    refine yx4 gc rfl ?_
    have am := i
    refine wli (.round _) rfl (j4 (l' := h4.c) gc i rfl rfl rfl rfl OneC.h fun e0 i a7 dg => ?_)
    have n := n.gj a7 E.symm
    have t := t.ext a7 M
    have j := fun y f => aM (j y f) a7.size
    have Q := zz Q a7 d0.symm
    have q := q.then (a7.mono fun x _ e => by have e : x = b6 := e; subst e; exact (.inl (.inl (.inl rfl))))
    have ag := n
    refine wli (.round _) rfl (yi gc n rfl rfl rfl fun e1 n a8 dh => ?_)
    have i := i.gj a8 E
    have t := t.ext a8 G
    have j := fun y f => aM (j y f) a8.size
    have Q := zz Q a8 d1.symm
    have q := q.then (a8.mono fun x _ e => by have e : x = b7 := e; subst e; exact (.inl (.inl (.inr (.inl rfl)))))
    refine Ah ?_
    exact js (fin_nextV ((h4, (vm h3.s Bk).isSome, K4)) a6 ax Q q (fun y f => by
 rcases f with f | f | f
 ·exact .inl (.inl f)
 ·exact .inl (.inr (.inl f))
 ·exact (c9 y f).elim (fun e => .inl (.inr (.inr e))) fun e => .inr (.inr e)) (⟨i, n, t, fun y f => ⟨j y f, M y f, G y f⟩, by rw [c5]; exact hO.round d4 Y⟩))
   ·refine ci_skip ?_
    exact js (fin_nextV ((h3, ay, K3)) a6 ax Q q (fun y f => .inl f) (⟨i, n, t, fun y f => ⟨j y f, M y f, G y f⟩, by rw [c5]; exact hO.off Y⟩))
  ·obtain ⟨h3, ay, K3⟩ := z
   obtain ⟨i, n, t, ae, hO⟩ := hJ
   dsimp only at i n t ae hO
   rw [bZ] at hO
   have j : ∀ y, K3 y → y < W.heap.size := fun y f => (ae y f).1
   have b0 : ∀ y, (y = b6 ∨ y = b7 ∨ K2 y) → VA.heap.size ≤ y := fun y e => by
    rcases e with e | e | e
    ·omega
    ·omega
    ·exact (C y e).2.2
   have bn : ∀ y, K3 y → VA.heap.size ≤ y := fun y f => (b4 y (.inr (.inr f))).elim (b0 y) fun e => by omega
   have d6 : ∀ y, K3 y → y ≠ DD := fun y f => c4 _ (.inr (.inr f))
   have g := g.ext hE fun y f e => by have := b0 y e; have := V y f; omega
   have A := A.ext hE fun y f e => by have := b0 y e; have := L y f; omega
   have q : Ext F w W := q.trans (hE.mono fun y f e => (show VA.heap.size ≤ y from b0 y e)) fun y f e => by have := b8.size; omega
   have e3 := uw ai
   refine js (jp (gl (ko (j6 n rfl rfl (km rfl (ud rfl (fun Y => ?_) (fun Y => ?_)))))))
   ·have d7 : ay = false := by simpa using Y
    have bo : r0.foldl sayF (yj s0) = none := Option.not_isSome_iff_eq_none.1 (by rw [hO.1, d7]; decide)
    rw [bo] at J
    refine jd rfl (j9 (j7 (De [DD] zp (fun x hx => by rw [aI.1 hx]; exact ai) [.pointer none, .int .i64 201] (fun aj p => ?_) (.inl rfl))))
    have R : ∀ x, x ∈ [DD] → x = DD := fun x hx => aI.1 hx
    refine ⟨⟨rfl, rfl, trivial⟩, none, F2, by rw [J]; rfl, by rw [J]; exact A.ext p fun y f e => by have := L y f; have := R y e; omega, q.trans p fun y f e => by have := R y e; omega, b5, fun _ => rfl, fun X e => by rw [J] at e; cases e⟩
   ·have d8 : ay = true := by simpa using Y
    obtain ⟨s, ao⟩ := Option.isSome_iff_exists.1 (hO.1.trans d8)
    rw [ao] at J
    have ca := hO.2 s ao
    refine x3 (ki rfl (je i rfl rfl (kg rfl ⟨⟨rfl, by decide⟩, ⟨rfl, by decide⟩, trivial⟩ (l' := (.pointer (some ⟨x, 0, none⟩) :: h3.c)) rfl ?_)))
    have d9 := j
    have e4 := q.size
    refine gw rfl fun b1 aj ap aq p => ?_
    have cc := j2 i.lt ap
    have cd := j2 n.lt ap
    have di := aA q.size ap
    have i := i.ga p
    have n := n.ga p
    have ai := zz ai p id
    have g := g.ga p
    have A := A.ga p
    have t := t.ga p
    have j := fun y f => aM (j y f) p.size
    have q := q.gb p
    have aq : gz aj b1 123 ((.pointer (some ⟨x, 0, none⟩) :: h3.c)) := aq
    refine vr rfl (De [DD] zp (fun x hx => by rw [aI.1 hx]; exact ai) [.pointer (some ⟨b1, 0, none⟩), .int .i64 0] (fun aj p => ?_) (.inl rfl))
    have R : ∀ x, x ∈ [DD] → x = DD := fun x hx => aI.1 hx
    have bp := p.size
    refine ⟨⟨rfl, rfl, trivial⟩, some ⟨b1, 0, none⟩, F2, by rw [J]; rfl, by rw [J]; exact A.ext p fun y f e => by have := L y f; have := R y e; omega, q.trans p fun y f e => by have := R y e; omega, b5, fun e => (by rw [J] at e; cases e), fun X e => ?_⟩
    rw [J] at e
    have e : some (⟨Wl.opened (ur D), s⟩ : Sd) = some X := e
    cases e
    have da := b8.size
    refine ⟨b1, x, H, K3, h3, rfl, ⟨aq.ext p fun e => by have := R _ e; omega, A.ext p fun y f e => by have := L y f; have := R y e; omega, g.ext p fun y f e => by have := V y f; have := R y e; omega, t.ext p fun y f e => d6 y f (R y e), ca.1, ca.2, fun y f => (br y f).2, fun y f => ⟨fun e => by have := bn y f; have := L y e; omega, fun e => by have := bn y f; have := V y e; omega⟩, ⟨fun e => by have := L _ e; omega, fun e => by have := V _ e; omega, fun e => by have := d9 _ e; omega⟩, fun y f => aM (j y f) bp⟩, fun y f => ?_⟩
    rcases f with f | f | rfl
    ·exact (br y f).1
    ·exact aA da (bn y f)
    ·omega
  ·exact hJ.elim
theorem Dm (w:World) (s:Str) (n:Nat) (hn:n<100000):gn prog 68 [y7 s,.int .i64 (n:Int)] w fun v w'=>v=y7 (s.take n)∧w'=w:=by
 refine gx func68 ?_
 have a:=Ext.refl No w
 refine jd rfl (ki rfl (wl (st_ss gc rfl 0 (min _ n) (cutBds _ _) ?_)))
 rw[strU_cut]
 refine vr rfl (gv rfl rfl ?_)
 exact⟨rfl,rfl⟩
def yq0 (r:jf):jf:=⟨r.path.take 60,r.id⟩
def chgS (r:u9):u9:=⟨r.path.take 60,r.is,r.text.take 257⟩
def smL (o:jq):jq:={o with leaves:=o.leaves.take 40}
def smP (o:jq):jq:={smL o with parents:=o.parents.take 4}
def smO (o:jq):jq:={smP o with rows:=o.rows.take 8}
def smT (o:jq):jq:={smO o with text:=o.text.take 257}
def smN (o:jq):jq:={smT o with note:=o.note.take 300}
def objS (o:jq):jq:={smN o with leaves:=(o.leaves.take 40).map yq0,rows:=(o.rows.take 8).map chgS}
theorem smL_in {o:jq} (h:u4 o):u4 (smL o):=⟨h.tree,h.base,h.parents,fun r hr=>h.leaves r (bH hr),h.rows,h.number,h.author⟩
theorem smP_in {o:jq} (h:u4 o):u4 (smP o):=⟨h.tree,h.base,fun r hr=>h.parents r (bH hr),(smL_in h).leaves,h.rows,h.number,h.author⟩
theorem C2 {o:jq} (h:u4 o):u4 (smO o):=⟨h.tree,h.base,(smP_in h).parents,(smL_in h).leaves,fun r hr=>h.rows r (bH hr),h.number,h.author⟩
theorem smT_in {o:jq} (h:u4 o):u4 (smT o):=⟨h.tree,h.base,(C2 h).parents,(C2 h).leaves,(C2 h).rows,h.number,h.author⟩
theorem yz9 {o:jq} (h:u4 o):u4 (smN o):=⟨h.tree,h.base,(C2 h).parents,(C2 h).leaves,(C2 h).rows,h.number,h.author⟩
structure ObjCap (x:jq) (a:vb):Prop where
  leaves:x.leaves.length≤a.lc
  parents:x.parents.length≤a.pc
  rows:x.rows.length≤a.rc
theorem objC_smP {x:jq} {a:vb} (h:u4 x):(jn (smL x) a).set (68+0) (.slice a.pp (x.parents.take 4).length a.pc)=jn (smP x) a:=yc (smL_in h) 0 _
theorem objC_smO {x:jq} {a:vb} (h:u4 x):(jn (smP x) a).set (68+1) (.slice a.rp (x.rows.take 8).length a.rc)=jn (smO x) a:=yc (smP_in h) 1 _
theorem objC_smN {x:jq} {a:vb} (h:u4 x):(jn (smT x) a).set (68+4) (y7 (x.note.take 300))=jn (smN x) a:=yc (smT_in h) 4 _
theorem objC_objS (x:jq) (a:vb):jn (objS x) a=jn (smN x) a:=by
 simp only[jn,objS,smN,smT,smO,smP,smL,aE]
theorem smO_l {w:World} {x:jq} {a:vb} (h:B7 w x a) (hx:u4 x):B7 w (smO x) a:=
 ⟨h.leaves.cut (fun r hr=>jf.len (hx.leaves r hr).2) 40,h.parents.cut (fun r hr=>(by rw[gm];exact hx.parents r hr)) 4,h.rows.cut (fun r _=>r.len) 8⟩
theorem smO_leaves (x:jq):(smO x).leaves.length<1000000000:=bL (by show(x.leaves.take 40).length≤40;rw[aL];omega) (by decide:40<1000000000)
theorem smO_parents (x:jq):(smO x).parents.length<1000000000:=bL (by show(x.parents.take 4).length≤8;rw[aL];omega) (by decide:8<1000000000)
theorem smO_rows (x:jq):(smO x).rows.length<1000000000:=bL (by show(x.rows.take 8).length≤8;rw[aL];omega) (by decide:8<1000000000)
theorem leaf_cutS {L:List jf} (hL:∀r∈L,r.id.length=32) {i:Nat} (hi:i<L.length):
  ((upto yq0 i L).flatMap jf.cells).set (i*33+0) (y7 ((L[i]).path.take 60))=(upto yq0 (i+1) L).flatMap jf.cells:=by
 have a:i<(upto yq0 i L).length:=by rw[xq7];exact hi
 have b:∀r∈upto yq0 i L,(jf.cells r).length=33:=upto_mem (fun r c=>jf.len (hL r c)) (fun r h=>h)
 rw[Go.Vc.yw3 b a zd (y:=yq0 L[i]) (by rw[upto_get hi];rfl),upto_step hi]
theorem chg_cutS {L:List u9} {i:Nat} (hi:i<L.length):
  (((upto chgS i L).flatMap u9.cells).set (i*3+0) (y7 ((L[i]).path.take 60))).set (i*3+2) (y7 ((L[i]).text.take 257))=(upto chgS (i+1) L).flatMap u9.cells:=by
 have a:i<(upto chgS i L).length:=by rw[xq7];exact hi
 rw[Go.Vc.yw3 (fun r _=>r.len) a zd (y:=⟨(L[i]).path.take 60,(L[i]).is,(L[i]).text⟩) (by rw[upto_get hi];rfl),
  Go.Vc.yw3 (fun r _=>r.len) (by rw[List.length_set];exact a) zd (y:=chgS L[i]) (by rw[List.getElem_set_self];rfl),List.set_set,upto_step hi]
theorem Own.row {α:Type} {w:World} {p:Option Addr} {c T sz:Nat} {g:α→α} {f:α→List Value} {i:Nat} {l:List α} (h:Own w p l.length c T sz ((upto g i l).flatMap f)) (hn:∀x∈upto g i l,(f x).length=sz) {b:Nat} (hp:p=some ⟨b,0,none⟩) (hi:i<l.length):Seg w b (i*sz) (f l[i]):=by
 have a:=h.sl
 have d:Sl w p (upto g i l).length sz ((upto g i l).flatMap f):=by rw[xq7];exact a
 have j:i<(upto g i l).length:=by rw[xq7];exact hi
 obtain⟨n,k,e,m⟩:=d.qd hn zo
 rw[hp] at e
 cases e
 have:=m i j
 rw[upto_get hi,bD] at this
 exact this
theorem lsmall_calls (w:World) {x:jq} {a:vb} (hx:u4 x) (hxl:B7 w x a) (hcap:ObjCap x a):
  gn prog 67 [.agg (jn x a).toArray] w fun v w'=>∃a',v= .agg (jn (objS x) a').toArray∧qw w w' (objS x) a'∧Ext No w w':=by
 refine gx func67 ?_
 have g:=Ext.refl No w
 refine ko (gw rfl fun N w1 bb b bc=> ?_)
 have O:=aA g.size bb
 have g:=g.gb bc
 have b:gz w1 N 37 (jn x a):=b
 refine gw rfl fun b2 w2 au c av=> ?_
 have o:=j2 b.lt au
 have bd:=aA g.size au
 have b:=b.ga av
 have g:=g.gb av
 refine qq (gl ?_)
 refine c_drawL gc rfl [] 24 [11,12,13,20,21,22] [qP 0,qP 1,qP 2,qP 3,qP 4,qP 5,qP 6,qP 7,qP 8,qP 9,qP 10,qP 14,qP 15,qP 16,qP 17,qP 18,qP 19,qP 23] [41,42,43,50,51,52,24,25,26,27,28,29] (No) zk rfl fun w3 ae c3=> ?_
 have n:=b
 have b:=b.ga ae
 have c:=c.ga ae
 have g:=g.gb ae
 refine gt gc 1 rfl (j3 gc rfl rfl (fun w' k=>((n.ga k).kj.obj hx).leaves) ?_)
 refine gt gc 1 rfl (j3 gc rfl rfl (fun w' k=>((n.ga k).kj.obj hx).leaves) ?_)
 refine gt gc 2 rfl (D8 gc rfl rfl 0 (min x.leaves.length 40) a.lc 33 rfl (.inr ⟨rfl,rfl⟩) (.inl (congrArg some (minI _ _))) (.inr ⟨rfl,rfl⟩) (aJ _) (by have:=hcap.leaves;omega) (aD _) ?_)
 rw[jw,bB,bB,Bm]
 refine gt gc 1 rfl (j3 gc rfl rfl (fun w' k=>((n.ga k).kj.obj hx).parents) ?_)
 refine gt gc 1 rfl (j3 gc rfl rfl (fun w' k=>((n.ga k).kj.obj hx).parents) ?_)
 refine gt gc 2 rfl (j3 gc rfl rfl (fun w' k=>((n.ga k).kj.obj hx).rows) ?_)
 refine gt gc 2 rfl (j3 gc rfl rfl (fun w' k=>((n.ga k).kj.obj hx).rows) ?_)
 refine gt gc 1 rfl (jg (wbf gc (i:=11) rfl rfl rfl rfl rfl zk (wbf gc (i:=12) rfl rfl rfl rfl rfl zk ?_)))
 refine wb_sl gc (i:=13) rfl rfl rfl 0 (min x.parents.length 4) a.pc 32 rfl (.inr ⟨rfl,rfl⟩) (.inl (congrArg some (minI _ _))) (.inr ⟨rfl,rfl⟩) (aJ _) (by have:=hcap.parents;omega) (aD _) zk ?_
 rw[jw,bB,bB,Bm]
 refine wbf gc (i:=20) rfl rfl rfl rfl rfl zk (wbf gc (i:=21) rfl rfl rfl rfl rfl zk ?_)
 refine wb_sl gc (i:=22) rfl rfl rfl 0 (min x.rows.length 8) a.rc 3 rfl (.inr ⟨rfl,rfl⟩) (.inl (congrArg some (minI _ _))) (.inr ⟨rfl,rfl⟩) (aJ _) (by have:=hcap.rows;omega) (aD _) zk ?_
 rw[jw,bB,bB,Bm]
 refine wb rfl (yi gc b rfl rfl rfl fun w4 b aw c4=> ?_)
 have c:=c.gj aw o.symm
 have g:=g.gi aw O
 have b:gz w4 N 37 (jn (smL x) a):=b
 refine wb rfl (zx9 gc rfl rfl rfl ?_)
 refine wb rfl (qz gc b rfl rfl (by rw[gp (smL_in hx)];decide) fun w5 b ax c5=> ?_)
 have c:=c.gj ax o.symm
 have g:=g.gi ax O
 have b:gz w5 N 37 (jn (smP x) a):=(by have h:gz _ N _ ((jn (smL x) a).set (68+0) (.slice a.pp (x.parents.take 4).length a.pc)):=b;rw[objC_smP hx] at h;exact h)
 refine wb rfl (zx9 gc rfl rfl rfl (wb rfl (zx9 gc rfl rfl rfl ?_)))
 refine wb rfl (qz gc b rfl rfl (by rw[gp (smP_in hx)];decide) fun w6 b ay c6=> ?_)
 have c:=c.gj ay o.symm
 have g:=g.gi ay O
 have b:gz w6 N 37 (jn (smO x) a):=(by have h:gz _ N _ ((jn (smP x) a).set (68+1) (.slice a.rp (x.rows.take 8).length a.rc)):=b;rw[objC_smO hx] at h;exact h)
 refine j5 (jp (ko (je b rfl (gp (C2 hx)) ?_)))
 have af:=g
 refine gh call122 rfl (copy6_calls w6 (C2 hx) (smO_l (hxl.ga g) hx) (smO_leaves x) (smO_parents x) (smO_rows x)) fun v7 w7 bf=> ?_
 obtain⟨⟨T,R,U,V,W,S⟩,rfl,hN,ag⟩:=bf
 have b:=b.ga ag
 have c:=c.ga ag
 have g:=g.gb ag
 have az:=fun y hy=>aA af.size (hN.nl y hy)
 have bg:=fun y hy=>aA af.size (hN.np y hy)
 have ah:=fun y hy=>aA af.size (hN.nr y hy)
 have e:Own w7 T (x.leaves.take 40).length R 148 33 ((upto yq0 0 (x.leaves.take 40)).flatMap jf.cells):=(upto_zero yq0 _).symm▸hN.ol
 have d:Own w7 U (x.parents.take 4).length V 30 32 ((x.parents.take 4).flatMap ge):=hN.op
 have f:Own w7 W (x.rows.take 8).length S 150 3 ((upto chgS 0 (x.rows.take 8)).flatMap u9.cells):=(upto_zero chgS _).symm▸hN.or
 have m:=b
 refine wl (j4 (l':=jn (smO x) ⟨T,R,U,V,W,S⟩) gc b rfl rfl (gp (C2 hx)) (by rw[gp (C2 hx),gp (C2 hx)]) OneC.h fun w8 b X c7=> ?_)
 have c:=c.gj X o.symm
 have e:=e.ju X m zd
 have d:=d.ju X m zd
 have f:=f.ju X m zd
 have g:=g.gi X O
 refine qq (gl (jr rfl 7 [qP 0,qP 1,qP 3,qP 4,(2,false),qP 6,(5,false)] [7,8,9] (No) zk fun w9 K c8=> ?_))
 have n:=b
 have b:=b.ga K
 have c:=c.ga K
 have e:=e.ext K fun _ _=>id
 have d:=d.ext K fun _ _=>id
 have f:=f.ext K fun _ _=>id
 have g:=g.gb K
 have J:Ext (No) _ w9:=K.no
 refine gt gc 1 rfl (j3 gc rfl rfl (fun w' k=>((n.ga k).kj.obj (C2 hx)).text) ?_)
 refine gt gc 1 rfl (j3 gc rfl rfl (fun w' k=>((n.ga k).kj.obj (C2 hx)).note) ?_)
 refine jo rfl (j1 call68 rfl (Dm w9 _ 257 zd) fun c9 bh a7=>⟨(by obtain⟨rfl,rfl⟩:=a7;exact J),?_⟩)
 obtain⟨rfl,rfl⟩:=a7
 have J:=J
 refine gt gc 1 rfl (jo rfl (j1 call68 rfl (Dm bh _ 300 zd) fun ca cb a8=>⟨(by obtain⟨rfl,rfl⟩:=a8;exact J),?_⟩))
 obtain⟨rfl,rfl⟩:=a8
 have J:=J
 refine jg ?_
 have m:=b
 refine wb rfl (yi gc b rfl rfl rfl fun bi b E bs=> ?_)
 have c:=c.gj E o.symm
 have e:=e.ju E m zd
 have d:=d.ju E m zd
 have f:=f.ju E m zd
 have g:=g.gi E O
 have b:gz bi N 37 (jn (smT x) ⟨T,R,U,V,W,S⟩):=b
 refine wb rfl (zx9 gc rfl rfl rfl ?_)
 have m:=b
 refine wb rfl (qz gc b rfl rfl (by rw[gp (smT_in hx)];decide) fun bj b F bt=> ?_)
 have c:=c.gj F o.symm
 have e:=e.ju F m zd
 have d:=d.ju F m zd
 have f:=f.ju F m zd
 have g:=g.gi F O
 have b:gz bj N 37 (jn (smN x) ⟨T,R,U,V,W,S⟩):=(by have h:gz _ N _ ((jn (smT x) ⟨T,R,U,V,W,S⟩).set (68+4) (y7 (x.note.take 300))):=b;rw[objC_smN hx] at h;exact h)
 refine j5 (jp (gl (ki rfl (gu rfl (b.kj.obj (yz9 hx)).leaves (km rfl (j8 ?_))))))
 refine jj (α:=Nat) [1,2,45,46] rfl (fun z=>[(47,.int .i64 (z:Int))]) (fun z u=>(z≤(x.leaves.take 40).length∧Own u T (x.leaves.take 40).length R 148 33 ((upto yq0 z (x.leaves.take 40)).flatMap jf.cells)∧Own u U (x.parents.take 4).length V 30 32 ((x.parents.take 4).flatMap ge)∧Own u W (x.rows.take 8).length S 150 3 ((upto chgS 0 (x.rows.take 8)).flatMap u9.cells))∧gz u N 37 (jn (smN x) ⟨T,R,U,V,W,S⟩)∧gz u b2 37 (cellsOf ti37.zero)∧Ext No w u) (fun z u=>(x.leaves.take 40).length-z) (0) rfl ⟨⟨aJ _,e,d,f⟩,b,c,g⟩ ?_
 rintro i cc ⟨⟨hi,e,d,f⟩,b,c,g⟩
 refine jd rfl (gl (jl rfl (fun hc=> ?_) (fun hc=> ?_)))
 ·have bk:(x.leaves.take 40).length≤40:=by rw[aL];omega
  have hi:i<(x.leaves.take 40).length:=(by have h:i<(smN x).leaves.length:=zo;exact h)
  have Y:∀r∈(x.leaves.take 40),r.id.length=32:=fun r hr=>(hx.leaves r (bH hr)).2
  have ai:=jf.len (Y _ (aG hi))
  obtain⟨D,L,hp,l,hL,P,aj,ak⟩:=e.opened zo
  have Z:=Own.row e (upto_mem (fun r hr=>jf.len (Y r hr)) (fun r h=>h)) hp hi
  subst hp
  have Q:N≠D:=b.ne l zd
  have a4:b2≠D:=c.ne l zd
  refine Ac (ki rfl (ka rfl 33 rfl i rfl hi (0+i*33) rfl ?_))
  rw[bD]
  refine jm rfl Z ai ?_
  have b0:=l.lt
  refine gw rfl fun b4 cd al a5 s=> ?_
  have am:=j2 b.lt al
  have an:=j2 c.lt al
  have bm:=aA g.size al
  have b:=b.ga s
  have c:=c.ga s
  have d:=d.ext s fun _ _=>id
  have f:=f.ext s fun _ _=>id
  have l:=l.ga s
  have g:=g.gb s
  have b3:D≠b4:=by omega
  refine j0 gc rfl ?_
  have a9:=a5
  refine wl (j4 (l':=jf.cells (x.leaves.take 40)[i]) gc a5 rfl rfl ai (by rw[ai];rfl) OneC.h fun ce a5 t bu=> ?_)
  have b:=b.gj t am
  have c:=c.gj t an
  have d:=d.ju t a9 zd
  have f:=f.ju t a9 zd
  have l:=l.gj t b3
  have g:=g.gi t bm
  refine qq (jr rfl 8 [qP 0,qP 1,qP 2,qP 3,qP 4,(5,false),qP 6,qP 7] [8] (No) zk fun b5 p bv=> ?_)
  have n:=b
  have bn:=a5
  have b:=b.ga p
  have c:=c.ga p
  have d:=d.ext p fun _ _=>id
  have f:=f.ext p fun _ _=>id
  have l:=l.ga p
  have g:=g.gb p
  have J:Ext (No) _ b5:=p.no
  refine gt gc 1 rfl (j3 gc rfl rfl (fun w' k=>((n.ga k).kj.obj (yz9 hx)).leaves) ?_)
  refine gt gc 2 rfl (j3 gc rfl rfl (fun w' k=>((bn.ga k).cell rfl)) ?_)
  refine jo rfl (j1 call68 rfl (Dm b5 _ 60 zd) fun cf cg aa=>⟨(by obtain⟨rfl,rfl⟩:=aa;exact J),?_⟩)
  obtain⟨rfl,rfl⟩:=aa
  refine qk gc rfl rfl 33 rfl i rfl hi (0+i*33) rfl ?_
  rw[bD]
  refine gt gc 1 rfl (jg ?_)
  have G:=l
  have a0:=g
  refine wb rfl (qz gc l rfl rfl (by rw[hL];have:=cM 33 P;omega) fun bo l H bw=> ?_)
  have b:=b.gj H Q
  have c:=c.gj H a4
  have g:=a0.gi H (az D rfl)
  have d:=d.ju H G zd
  have f:=f.ju H G zd
  have e:Own bo (some ⟨D,0,none⟩) (x.leaves.take 40).length R 148 33 ((upto yq0 (i+1) (x.leaves.take 40)).flatMap jf.cells):=by
   rw[←leaf_cutS Y hi];exact Own.zx4 hL P aj ak l
  refine j5 (Aa rfl ?_)
  rw[jz _ zo]
  refine gk ?_
  exact jk (i+1) rfl ⟨⟨hi,e,d,f⟩,b,c,g⟩ zf
 have b7:(x.leaves.take 40).length≤i:=(by have h:(smN x).leaves.length≤i:=zo;exact h)
 refine Ak (gl (ki rfl (gu rfl (b.kj.obj (yz9 hx)).rows (km rfl (j8 ?_)))))
 refine jj (α:=Nat) [1,2,63,64] rfl (fun z=>[(65,.int .i64 (z:Int))]) (fun z u=>(z≤(x.rows.take 8).length∧Own u T (x.leaves.take 40).length R 148 33 ((upto yq0 i (x.leaves.take 40)).flatMap jf.cells)∧Own u U (x.parents.take 4).length V 30 32 ((x.parents.take 4).flatMap ge)∧Own u W (x.rows.take 8).length S 150 3 ((upto chgS z (x.rows.take 8)).flatMap u9.cells))∧gz u N 37 (jn (smN x) ⟨T,R,U,V,W,S⟩)∧gz u b2 37 (cellsOf ti37.zero)∧Ext No w u) (fun z u=>(x.rows.take 8).length-z) (0) rfl ⟨⟨aJ _,e,d,f⟩,b,c,g⟩ ?_
 rintro j ch ⟨⟨hj,e,d,f⟩,b,c,g⟩
 refine jd rfl (gl (jl rfl (fun hc=> ?_) (fun hc=> ?_)))
 ·have bk:(x.rows.take 8).length≤8:=by rw[aL];omega
  have hj:j<(x.rows.take 8).length:=(by have h:j<(smN x).rows.length:=zo;exact h)
  obtain⟨D,L,hp,l,hL,P,aj,ak⟩:=f.opened zo
  have Z:=Own.row f (fun r _=>r.len) hp hj
  subst hp
  have Q:N≠D:=b.ne l zd
  have a4:b2≠D:=c.ne l zd
  refine Ac (ki rfl (ka rfl 3 rfl j rfl hj (0+j*3) rfl ?_))
  rw[bD]
  refine jm rfl Z rfl ?_
  have b0:=l.lt
  refine gw rfl fun b6 ci ao a6 A=> ?_
  have ap:=j2 b.lt ao
  have aq:=j2 c.lt ao
  have bp:=aA g.size ao
  have b:=b.ga A
  have c:=c.ga A
  have e:=e.ext A fun _ _=>id
  have d:=d.ext A fun _ _=>id
  have l:=l.ga A
  have g:=g.gb A
  have a1:D≠b6:=by omega
  refine j0 gc rfl ?_
  have ab:=a6
  refine wl (j4 (l':=u9.cells (x.rows.take 8)[j]) gc a6 rfl rfl rfl rfl OneC.h fun cj a6 B bx=> ?_)
  have b:=b.gj B ap
  have c:=c.gj B aq
  have e:=e.ju B ab zd
  have d:=d.ju B ab zd
  have l:=l.gj B a1
  have g:=g.gi B bp
  refine qq ?_
  refine jr rfl 17 [qP 0,qP 1,qP 2,qP 3,qP 4,qP 5,qP 6,qP 7,qP 8,qP 9,qP 11,qP 12,(10,false),(13,false),qP 14,qP 15,(16,false)] [17,18,19] (One D) zk fun b8 q bz=> ?_
  have n:=b
  have b9:=a6
  have b:=b.ga q
  have c:=c.ga q
  have e:=e.ext q fun _ _=>id
  have d:=d.ext q fun _ _=>id
  have l:=l.ga q
  have g:=g.gb q
  have J:Ext (One D) _ b8:=q.no
  refine gt gc 2 rfl (j3 gc rfl rfl (fun w' k=>((n.ext (show Ext (One D) _ w' from k) Q).kj.obj (yz9 hx)).rows) ?_)
  refine gt gc 3 rfl (j3 gc rfl rfl (fun w' k=>((n.ext (show Ext (One D) _ w' from k) Q).kj.obj (yz9 hx)).rows) ?_)
  refine gt gc 2 rfl (j3 gc rfl rfl (fun w' k=>((b9.ext (show Ext (One D) _ w' from k) a1.symm).cell rfl)) ?_)
  refine gt gc 1 rfl (j3 gc rfl rfl (fun w' k=>((b9.ext (show Ext (One D) _ w' from k) a1.symm).cell rfl)) ?_)
  refine jo rfl (j1 call68 rfl (Dm b8 _ 60 zd) fun ck bq ac=>⟨(by obtain⟨rfl,rfl⟩:=ac;exact J),?_⟩)
  obtain⟨rfl,rfl⟩:=ac
  have J:=J
  refine jo rfl (j1 call68 rfl (Dm bq _ 257 zd) fun cl cm ad=>⟨(by obtain⟨rfl,rfl⟩:=ad;exact J),?_⟩)
  obtain⟨rfl,rfl⟩:=ad
  have J:=J
  refine qk gc rfl rfl 3 rfl j rfl hj (0+j*3) rfl ?_
  rw[bD]
  refine gt gc 1 rfl ?_
  have G:=l
  have a0:=g
  refine jo rfl (qz gc l rfl rfl (by rw[hL];have:=cM 3 P;omega) fun cn a2 C c0=>⟨J.then C,?_⟩)
  have b:=b.gj C Q
  have c:=c.gj C a4
  have g:=a0.gi C (ah D rfl)
  have d:=d.ju C G zd
  have e:=e.ju C G zd
  refine jg (wb rfl (st_ix gc rfl 3 rfl j rfl hj (0+j*3) rfl ?_))
  rw[bD]
  refine wb rfl (zx9 gc rfl rfl rfl ?_)
  have a0:=g
  refine wb rfl (qz gc a2 rfl rfl (by show j*3+2<_;rw[List.length_set,hL];have:=cM 3 P;omega) fun br ba I c1=> ?_)
  have b:=b.gj I Q
  have c:=c.gj I a4
  have g:=a0.gi I (ah D rfl)
  have d:=d.ju I a2 zd
  have e:=e.ju I a2 zd
  have f:Own br (some ⟨D,0,none⟩) (x.rows.take 8).length S 150 3 ((upto chgS (j+1) (x.rows.take 8)).flatMap u9.cells):=by
   rw[←chg_cutS hj];exact Own.zx4 (by rw[List.length_set,hL]) P aj (by rw[List.take_set,ak]) ba
  refine j5 (Aa rfl ?_)
  rw[jz _ zo]
  refine gk ?_
  exact jk (j+1) rfl ⟨⟨hj,e,d,f⟩,b,c,g⟩ zf
 have ar:(x.rows.take 8).length≤j:=(by have h:(smN x).rows.length≤j:=zo;exact h)
 refine Ak (ko (je b rfl (gp (yz9 hx)) ?_))
 have a3:=c
 refine wl (j4 (l':=jn (smN x) ⟨T,R,U,V,W,S⟩) gc c rfl rfl (gp (yz9 hx)) (by rw[gp (yz9 hx)];rfl) OneC.h fun co c M c2=> ?_)
 have e:=e.ju M a3 zd
 have d:=d.ju M a3 zd
 have f:=f.ju M a3 zd
 have g:=g.gi M bd
 refine qq (j9 (qe [_] ⟨⟨b2,0,rfl,qg gc rfl rfl c.kj (gp (yz9 hx))⟩,trivial⟩ ?_))
 rw[upto_all b7] at e
 rw[upto_all ar] at f
 exact⟨⟨T,R,U,V,W,S⟩,by rw[objC_objS];rfl,⟨by rw[show(objS x).leaves.length=(x.leaves.take 40).length from aE ..];exact e,d,by rw[show(objS x).rows.length=(x.rows.take 8).length from aE ..];exact f,az,bg,ah⟩,g⟩
theorem _root_.Go.Vc.Sl.cutB {w:World} {p:Option Addr} {l:List UInt8} (h:ux w p l) (k:Nat):ux w p (l.take k):=by
 have a:=Sl.slice h 0 (min l.length k) (min l.length k) (aJ _) (aD _) zo
 have e:((ge l).drop (0*1)).take ((min l.length k-0)*1)=ge (l.take k):=by
  rw[cW,List.drop_zero,bB,bE,ge,ge,List.map_take,List.take_eq_take_iff,aE]
  omega
 rw[e,jw,bB,Bm] at a
 exact a
theorem objS_ok {o:jq} (h:u4 o):Ca (objS o):=by
 refine⟨⟨h.tree,h.base,(C2 h).parents,fun r a=> ?_,fun r a=> ?_,h.number,h.author⟩,⟨?_,?_,?_,fun r a=> ?_,fun r a=> ?_⟩⟩
 ·obtain⟨x,b,rfl⟩:=bN.1 a
  have:=h.leaves x (bH b)
  exact⟨by rw[show(yq0 x).path.length=_ from aL];dsimp only[maxLen];omega,this.2⟩
 ·obtain⟨x,b,rfl⟩:=bN.1 a
  exact⟨by rw[show(chgS x).path.length=_ from aL];dsimp only[maxLen];omega,by rw[show(chgS x).text.length=_ from aL];dsimp only[maxLen];omega⟩
 ·show(List.map _ _).length<_;rw[aE,aL];omega
 ·rw[show(objS o).parents.length=_ from aL];omega
 ·show(List.map _ _).length<_;rw[aE,aL];omega
 ·obtain⟨x,_,rfl⟩:=bN.1 a
  rw[show(yq0 x).path.length=_ from aL];omega
 obtain⟨x,_,rfl⟩:=bN.1 a
 rw[show(chgS x).path.length=_ from aL];omega
def setS (s:yo):yo:=⟨s.name.take 40,s.was,s.is,s.old.take 4097,s.new.take 4097⟩
def batS (b:Bu):Bu:=⟨(b.objs.take 12).map objS,(b.sets.take 129).map setS⟩
structure ArgO (w:World) (x:yj1):Prop where
  i:u4 x.1
  l:B7 w x.1 x.2
  c:ObjCap x.1 x.2
structure ArgS (w:World) (x:By):Prop where
  old:ux w x.2.op x.1.old
  new:ux w x.2.np x.1.new
  co:x.1.old.length≤x.2.oc
  cn:x.1.new.length≤x.2.nc
structure BatArg (w:World) (B:qu):Prop where
  os:Sl w B.op B.os.length 73 (B.os.flatMap B6)
  ss:Sl w B.sp B.ss.length 5 (B.ss.flatMap uz)
  o:∀x∈B.os,ArgO w x
  s:∀x∈B.ss,ArgS w x
  co:B.os.length≤B.oc
  cs:B.ss.length≤B.sc
theorem BatArg.ga {w w':World} {B:qu} (h:BatArg w B) (hE:Ext No w w'):BatArg w' B:=⟨h.os.ga hE,h.ss.ga hE,fun x hx=>⟨(h.o x hx).i,(h.o x hx).l.ga hE,(h.o x hx).c⟩,fun x hx=>⟨(h.s x hx).old.ga hE,(h.s x hx).new.ga hE,(h.s x hx).co,(h.s x hx).cn⟩,h.co,h.cs⟩
theorem lbatch_calls (w:World) {B:qu} (hB:BatArg w B):
  gn prog 16 [B.v] w fun v w'=>∃B':qu,v=B'.v∧B'.d=batS B.d∧xp w w' B'∧Ext No w w':=by
 obtain⟨op,oc,os,sp,sc,ss⟩:=B
 have hco:=hB.co
 have hcs:=hB.cs
 dsimp only at hco hcs
 refine gx func16 ?_
 have hX:=Ext.refl No w
 refine ko (gw rfl fun b1 w1 hn1 hb1 hE1=> ?_)
 have hX:=hX.gb hE1
 have hb1:gz w1 b1 25 ([.slice op os.length oc,.slice sp ss.length sc]):=hb1
 refine gw rfl fun b2 w2 hn2 hb2 hE2=> ?_
 have ne1_2:=j2 hb1.lt hn2
 have fr2:=aA hX.size hn2
 have hb1:=hb1.ga hE2
 have hX:=hX.gb hE2
 have hb2:gz w2 b2 25 ([.slice none 0 0,.slice none 0 0]):=hb2
 refine qq (gl (ki rfl (j6 hb1 rfl rfl (j0 gc rfl (j6 hb1 rfl rfl (j0 gc rfl ?_))))))
 refine wl (zv gc rfl 0 (min os.length 12) oc 73 rfl (.inr ⟨rfl,rfl⟩) (.inl (congrArg some (minI _ _))) (.inr ⟨rfl,rfl⟩) (aJ _) (by have:=hco;omega) (aD _) ?_)
 rw[jw,bB,bB,Bm]
 refine km rfl (j8 ?_)
 refine jj (α:=Nat×Option Addr×Nat×List yj1) [1,2,13,14] rfl (fun z=>[(15,.int .i64 (z.1:Int))]) (fun z u=>(z.1≤(os.take 12).length∧k8 w u z.2.1 z.2.2.2.length z.2.2.1 37 73 (z.2.2.2.flatMap B6)∧z.2.2.2.map Prod.fst=((os.take 12).take z.1).map (fun x=>objS x.1)∧∀x∈z.2.2.2,Ca x.1∧qw w u x.1 x.2)∧gz u b1 25 ([.slice op os.length oc,.slice sp ss.length sc])∧gz u b2 25 ([.slice z.2.1 z.2.2.2.length z.2.2.1,.slice none 0 0])∧Ext No w u) (fun z u=>(os.take 12).length-z.1) (0,none,0,[]) rfl ⟨⟨aJ _,k8.nil _ _ _ _,rfl,fun _ e=>(by cases e)⟩,hb1,hb2,hX⟩ ?_
 rintro⟨i,q,k,gs⟩ w3 ⟨⟨hio,hq,hgs,hall⟩,hb1,hb2,hX⟩
 try dsimp only
 dsimp only at hio hq hgs hall hb2
 refine jd rfl (gl (jl rfl (fun hc=> ?_) (fun hc=> ?_)))
 ·have h12:(os.take 12).length≤12:=by rw[aL];omega
  have hi2:i<(os.take 12).length:=by omega
  have hgl:gs.length=i:=by
   have e:=congrArg List.length hgs
   rw[aE,aE,aL] at e;omega
  have hmi:(os.take 12)[i]∈os:=bH (aG hi2)
  have hoi:=hB.o _ hmi
  obtain⟨qb,qo,hp,hsq⟩:=(hB.os.cut (fun x hx=>gp (hB.o x hx).i) 12).qd (fun x hx=>gp (hB.o x (bH hx)).i) zn
  dsimp only at hp hsq
  rw[hp]
  refine Ac (ko (ka rfl 73 rfl i rfl hi2 (qo+i*73) rfl (jm rfl ((hsq i hi2).ga hX) (gp hoi.i) ?_)))
  have hqb:=hq
  refine gw rfl fun b4 w4 hn4 hb4 hE4=> ?_
  have ne1_4:=j2 hb1.lt hn4
  have ne2_4:=j2 hb2.lt hn4
  have fr4:=aA hX.size hn4
  have hb1:=hb1.ga hE4
  have hb2:=hb2.ga hE4
  have hq:=hq.ga hE4
  have hall:=fun x hx=>And.intro (hall x hx).1 ((hall x hx).2.ga hE4)
  have hX:=hX.gb hE4
  have n4q:¬jb q b4:=fun hy=>Nat.lt_irrefl _ (aM (hqb.own.lt hy) hn4)
  have hq4:∀y,jb q y→y≠b4:=fun y hy e=>n4q (e▸hy)
  have hb4o:=hb4
  have n2q:=hq.not hb2 zd
  refine wl (j4 (l':=B6 (os.take 12)[i]) gc hb4 rfl rfl (gp hoi.i) (by rw[show(B6 _).length=73 from gp hoi.i];rfl) OneC.h fun w5 hb4 hE5 hs5=> ?_)
  have hb1:=hb1.gj hE5 ne1_4
  have hb2:=hb2.gj hE5 ne2_4
  have hq:=k8.mk (hq.own.ext hE5 fun y hy e=>hq4 y hy e) hq.new
  have hall:=fun x hx=>And.intro (hall x hx).1 ((hall x hx).2.gj hE5 hb4o zd zd zd)
  have hX:=hX.gi hE5 fr4
  refine qq (jr rfl 7 [qP 0,qP 1,qP 2,(3,false),(4,false),(5,false),qP 6] [7] (jb q) zk fun w6 hE6 hs6=> ?_)
  have hd2:=hb2
  have hd4:=hb4
  have hb1:=hb1.ga hE6
  have hb2:=hb2.ga hE6
  have hq:=hq.ga hE6
  have hall:=fun x hx=>And.intro (hall x hx).1 ((hall x hx).2.ga hE6)
  have hX:=hX.gb hE6
  have hC:Ext (jb q) _ w6:=hE6.no
  refine gt gc 1 rfl (j3 gc rfl rfl (fun w' hw'=>((hd2.ext (show Ext (jb q) _ w' from hw') n2q).cell rfl)) ?_)
  refine qa gc rfl rfl (fun w' hw'=>(hd4.ext (show Ext (jb q) _ w' from hw') n4q).kj) (gp hoi.i) ?_
  have hXn:=hX
  refine jo rfl (j1 call67 rfl (lsmall_calls w6 hoi.i (hoi.l.ga hX) hoi.c) fun v7 w7 hr7=>⟨(by obtain⟨a2,rfl,hN,hE7⟩:=hr7;exact hC.gb hE7),?_⟩)
  obtain⟨a2,rfl,hN,hE7⟩:=hr7
  have hb1:=hb1.ga hE7
  have hb2:=hb2.ga hE7
  have hq:=hq.ga hE7
  have hall:=fun x hx=>And.intro (hall x hx).1 ((hall x hx).2.ga hE7)
  have hX:=hX.gb hE7
  have hC:=hC.gb hE7
  have hN:=hN.older (W0:=w) hXn.size
  have hsk:=objS_ok hoi.i
  refine jo rfl (qi gc rfl 73 rfl objZc (gp qf) zd zd ⟨⟨by rw[jh];exact gp hsk.1,by decide⟩,trivial⟩ (l':=B6 (objS (os.take 12)[i].1,a2)) (xz2 hsk.1) fun b23 w8 hn23 hb23 hE8 hs8=>⟨hC.gb hE8,?_⟩)
  have hb1:=hb1.ga hE8
  have hb2:=hb2.ga hE8
  have hq:=hq.ga hE8
  have hall:=fun x hx=>And.intro (hall x hx).1 ((hall x hx).2.ga hE8)
  have hN:=hN.ga hE8
  have hX:=hX.gb hE8
  have hC:=hC.gb hE8
  have hqo:=hq.own
  refine jo rfl (xj gc rfl 73 192 rfl rfl rfl zd hq (Src.slice (m:=1) ⟨gp hsk.1,.inr ⟨b23,0,rfl,hb23.kj⟩⟩ OneC.h) zm zn (n':=(gs++[((objS (os.take 12)[i].1,a2):yj1)]).length) (ys:=(gs++[((objS (os.take 12)[i].1,a2):yj1)]).flatMap B6) zi (by rw[bC,bU];rfl) hX fun q4 k4 w9 hq hE9 hX=>⟨hC.then hE9,?_⟩)
  dsimp only at hq hE9
  have hb1:=hb1.ke hqo hE9 (show(37:Nat)≠25 from by decide)
  have hb2:=hb2.ke hqo hE9 (show(37:Nat)≠25 from by decide)
  have hall:=fun x hx=>And.intro (hall x hx).1 ((hall x hx).2.extT hqo hE9 zd zd zd)
  have hN:=hN.extT hqo hE9 zd zd zd
  refine gt gc 1 rfl (jg ?_)
  have hb2o:=hb2
  refine wb rfl (yi gc hb2 rfl rfl rfl fun w10 hb2 hE10 hs10=> ?_)
  have hb1:=hb1.gj hE10 ne1_2
  have hq:=hq.gj hE10 hb2o zd
  have hall:=fun x hx=>And.intro (hall x hx).1 ((hall x hx).2.gj hE10 hb2o zd zd zd)
  have hN:=hN.gj hE10 hb2o zd zd zd
  have hX:=hX.gi hE10 fr2
  refine j5 (Aa rfl ?_)
  rw[jz _ zo]
  refine gk ?_
  rw[hp] at hb1
  exact jk (i+1,q4,k4,gs++[((objS (os.take 12)[i].1,a2):yj1)]) rfl ⟨⟨hi2,hq,by rw[bX,hgs,←yw4 hi2];rfl,fun y hy=>(aY.1 hy).elim (hall y) fun e=>by rw[aI.1 e];exact⟨hsk,hN⟩⟩,hb1,hb2,hX⟩ zf
 have h0:i=(os.take 12).length:=by omega
 subst h0
 rw[bZ] at hgs
 refine Ak (gl (ki rfl (j6 hb1 rfl rfl (j0 gc rfl (j6 hb1 rfl rfl (j0 gc rfl ?_))))))
 refine wl (zv gc rfl 0 (min ss.length 129) sc 5 rfl (.inr ⟨rfl,rfl⟩) (.inl (congrArg some (minI _ _))) (.inr ⟨rfl,rfl⟩) (aJ _) (by have:=hcs;omega) (aD _) ?_)
 rw[jw,bB,bB,Bm]
 refine km rfl (j8 ?_)
 refine jj (α:=Nat×Option Addr×Nat×List By) [2,33,34] rfl (fun z=>[(35,.int .i64 (z.1:Int))]) (fun z u=>(z.1≤(ss.take 129).length∧k8 w u q gs.length k 37 73 (gs.flatMap B6)∧(∀x∈gs,Ca x.1∧qw w u x.1 x.2)∧k8 w u z.2.1 z.2.2.2.length z.2.2.1 91 5 (z.2.2.2.flatMap uz)∧z.2.2.2.map Prod.fst=((ss.take 129).take z.1).map (fun x=>setS x.1)∧∀x∈z.2.2.2,xg w u x)∧gz u b1 25 ([.slice op os.length oc,.slice sp ss.length sc])∧gz u b2 25 ([.slice q gs.length k,.slice z.2.1 z.2.2.2.length z.2.2.1])∧Ext No w u) (fun z u=>(ss.take 129).length-z.1) (0,none,0,[]) rfl ⟨⟨aJ _,hq,hall,k8.nil _ _ _ _,rfl,fun _ e=>(by cases e)⟩,hb1,hb2,hX⟩ ?_
 rintro⟨i,q2,k2,ts⟩ w11 ⟨⟨hio,hq,hall,hq2,hts,hset⟩,hb1,hb2,hX⟩
 try dsimp only
 dsimp only at hio hq2 hts hset hb2
 refine jd rfl (gl (jl rfl (fun hc=> ?_) (fun hc=> ?_)))
 ·have h12:(ss.take 129).length≤129:=by rw[aL];omega
  have hi2:i<(ss.take 129).length:=by omega
  have hgl:ts.length=i:=by
   have e:=congrArg List.length hts
   rw[aE,aE,aL] at e;omega
  have hmi:(ss.take 129)[i]∈ss:=bH (aG hi2)
  have hsi:=hB.s _ hmi
  have hci:=And.intro hsi.co hsi.cn
  obtain⟨qb,qo,hp,hsq⟩:=(hB.ss.cut (fun x hx=>Bh x) 129).qd (fun x hx=>Bh x) zn
  dsimp only at hp hsq
  rw[hp]
  refine Ac (ko (ka rfl 5 rfl i rfl hi2 (qo+i*5) rfl (jm rfl ((hsq i hi2).ga hX) rfl ?_)))
  have hqb:=hq2
  refine gw rfl fun b6 w12 hn6 hb6 hE12=> ?_
  have ne1_6:=j2 hb1.lt hn6
  have ne2_6:=j2 hb2.lt hn6
  have fr6:=aA hX.size hn6
  have hb1:=hb1.ga hE12
  have hb2:=hb2.ga hE12
  have hq:=hq.ga hE12
  have hall:=fun x hx=>And.intro (hall x hx).1 ((hall x hx).2.ga hE12)
  have hq2:=hq2.ga hE12
  have hset:=fun x hx=>(hset x hx).ga hE12
  have hX:=hX.gb hE12
  have hq6:∀y,jb q2 y→y≠b6:=fun y hy=>j2 (hqb.own.lt hy) hn6
  have hb6o:=hb6
  refine wl (j4 (l':=uz (ss.take 129)[i]) gc hb6 rfl rfl rfl rfl OneC.h fun w13 hb6 hE13 hs13=> ?_)
  have hb1:=hb1.gj hE13 ne1_6
  have hb2:=hb2.gj hE13 ne2_6
  have hq:=hq.gj hE13 hb6o zd
  have hall:=fun x hx=>And.intro (hall x hx).1 ((hall x hx).2.gj hE13 hb6o zd zd zd)
  have hq2:=k8.mk (hq2.own.ext hE13 fun y hy e=>hq6 y hy e) hq2.new
  have hset:=fun x hx=>(hset x hx).gj hE13 hb6o zd
  have hX:=hX.gi hE13 fr6
  refine qq (gl ?_)
  refine jr rfl 20 [qP 0,qP 1,qP 3,qP 4,qP 5,qP 6,qP 7,qP 8,qP 9,qP 11,qP 12,qP 13,qP 14,qP 15,qP 16,qP 17,(2,false),qP 19,(10,false),(18,false)] [20,21,22,23,24] (No) zk fun w14 hE14 hs14=> ?_
  have hd6:=hb6
  have hb1:=hb1.ga hE14
  have hb2:=hb2.ga hE14
  have hb6:=hb6.ga hE14
  have hq:=hq.ga hE14
  have hall:=fun x hx=>And.intro (hall x hx).1 ((hall x hx).2.ga hE14)
  have hq2:=hq2.ga hE14
  have hset:=fun x hx=>(hset x hx).ga hE14
  have hX:=hX.gb hE14
  have hC:Ext (No) _ w14:=hE14.no
  refine gt gc 1 rfl (j3 gc rfl rfl (fun w' hw'=>(hd6.ga hw').cell rfl) ?_)
  refine gt gc 1 rfl (j3 gc rfl rfl (fun w' hw'=>(hd6.ga hw').cell rfl) ?_)
  refine gt gc 1 rfl (j3 gc rfl rfl (fun w' hw'=>(hd6.ga hw').cell rfl) ?_)
  refine gt gc 2 rfl (D8 gc rfl rfl 0 (min (ss.take 129)[i].1.old.length 4097) (ss.take 129)[i].2.oc 1 rfl (.inr ⟨rfl,rfl⟩) (.inl (congrArg some (minI _ _))) (.inr ⟨rfl,rfl⟩) (aJ _) (by have:=hci.1;omega) (aD _) ?_)
  rw[jw,bB,bB,Bm]
  refine gt gc 1 rfl (j3 gc rfl rfl (fun w' hw'=>(hd6.ga hw').cell rfl) ?_)
  refine gt gc 1 rfl (j3 gc rfl rfl (fun w' hw'=>(hd6.ga hw').cell rfl) ?_)
  refine gt gc 2 rfl (D8 gc rfl rfl 0 (min (ss.take 129)[i].1.new.length 4097) (ss.take 129)[i].2.nc 1 rfl (.inr ⟨rfl,rfl⟩) (.inl (congrArg some (minI _ _))) (.inr ⟨rfl,rfl⟩) (aJ _) (by have:=hci.2;omega) (aD _) ?_)
  rw[jw,bB,bB,Bm]
  refine jo rfl (j1 call68 rfl (Dm w14 _ 40 zd) fun v15 w15 hr15=>⟨(by obtain⟨rfl,rfl⟩:=hr15;exact hC),?_⟩)
  obtain⟨rfl,rfl⟩:=hr15
  have hC:=hC
  refine gt gc 1 rfl ?_
  have hX3:=hX
  refine jo rfl (j1 call35 rfl (xd w15 ((hsi.old.cutB 4097).ga hX) zl) fun v16 w16 hr16=>⟨(by obtain⟨q3,k3,rfl,ho3,hn3,hE16⟩:=hr16;exact hC.gb hE16),?_⟩)
  obtain⟨q3,k3,rfl,ho3,hn3,hE16⟩:=hr16
  have hb1:=hb1.ga hE16
  have hb2:=hb2.ga hE16
  have hb6:=hb6.ga hE16
  have hq:=hq.ga hE16
  have hall:=fun x hx=>And.intro (hall x hx).1 ((hall x hx).2.ga hE16)
  have hq2:=hq2.ga hE16
  have hset:=fun x hx=>(hset x hx).ga hE16
  have hX:=hX.gb hE16
  have hC:=hC.gb hE16
  have ho3:k8 w w16 q3 _ k3 5 1 _:=⟨ho3,fun y hy=>aA hX3.size (hn3 y hy)⟩
  have hX5:=hX
  refine jo rfl (j1 call35 rfl (xd w16 ((hsi.new.cutB 4097).ga hX) zl) fun v17 w17 hr17=>⟨(by obtain⟨q5,k5,rfl,ho5,hn5,hE17⟩:=hr17;exact hC.gb hE17),?_⟩)
  obtain⟨q5,k5,rfl,ho5,hn5,hE17⟩:=hr17
  have hb1:=hb1.ga hE17
  have hb2:=hb2.ga hE17
  have hb6:=hb6.ga hE17
  have hq:=hq.ga hE17
  have hall:=fun x hx=>And.intro (hall x hx).1 ((hall x hx).2.ga hE17)
  have hq2:=hq2.ga hE17
  have hset:=fun x hx=>(hset x hx).ga hE17
  have ho3:=ho3.ga hE17
  have hX:=hX.gb hE17
  have ho5:k8 w w17 q5 _ k5 5 1 _:=⟨ho5,fun y hy=>aA hX5.size (hn5 y hy)⟩
  refine jg ?_
  have hb6o:=hb6
  refine wb rfl (yi gc hb6 rfl rfl rfl fun w18 hb6 hE18 hs18=> ?_)
  have hb1:=hb1.gj hE18 ne1_6
  have hb2:=hb2.gj hE18 ne2_6
  have hq:=hq.gj hE18 hb6o zd
  have hall:=fun x hx=>And.intro (hall x hx).1 ((hall x hx).2.gj hE18 hb6o zd zd zd)
  have hq2:=k8.mk (hq2.own.ext hE18 fun y hy e=>hq6 y hy e) hq2.new
  have hset:=fun x hx=>(hset x hx).gj hE18 hb6o zd
  have ho3:=ho3.gj hE18 hb6o zd
  have ho5:=ho5.gj hE18 hb6o zd
  have hX:=hX.gi hE18 fr6
  refine wb rfl (zx9 gc rfl rfl rfl ?_)
  have hb6o:=hb6
  refine wb rfl (yi gc hb6 rfl rfl rfl fun w19 hb6 hE19 hs19=> ?_)
  have hb1:=hb1.gj hE19 ne1_6
  have hb2:=hb2.gj hE19 ne2_6
  have hq:=hq.gj hE19 hb6o zd
  have hall:=fun x hx=>And.intro (hall x hx).1 ((hall x hx).2.gj hE19 hb6o zd zd zd)
  have hq2:=k8.mk (hq2.own.ext hE19 fun y hy e=>hq6 y hy e) hq2.new
  have hset:=fun x hx=>(hset x hx).gj hE19 hb6o zd
  have ho3:=ho3.gj hE19 hb6o zd
  have ho5:=ho5.gj hE19 hb6o zd
  have hX:=hX.gi hE19 fr6
  refine wb rfl (zx9 gc rfl rfl rfl ?_)
  have hb6o:=hb6
  refine wb rfl (yi gc hb6 rfl rfl rfl fun w20 hb6 hE20 hs20=> ?_)
  have hb1:=hb1.gj hE20 ne1_6
  have hb2:=hb2.gj hE20 ne2_6
  have hq:=hq.gj hE20 hb6o zd
  have hall:=fun x hx=>And.intro (hall x hx).1 ((hall x hx).2.gj hE20 hb6o zd zd zd)
  have hq2:=k8.mk (hq2.own.ext hE20 fun y hy e=>hq6 y hy e) hq2.new
  have hset:=fun x hx=>(hset x hx).gj hE20 hb6o zd
  have ho3:=ho3.gj hE20 hb6o zd
  have ho5:=ho5.gj hE20 hb6o zd
  have hX:=hX.gi hE20 fr6
  have hb6:gz w20 b6 91 (uz (setS (ss.take 129)[i].1,⟨q3,k3,q5,k5⟩)):=hb6
  refine j5 (jp (yl rfl (j6 hb2 rfl rfl (je hb6 rfl rfl ?_))))
  refine wl (qi gc rfl 5 rfl setZc rfl zd zd ⟨⟨rfl,by decide⟩,trivial⟩ (l':=uz (setS (ss.take 129)[i].1,⟨q3,k3,q5,k5⟩)) (set_put _) fun b64 w21 hn64 hb64 hE21 hs21=> ?_)
  have hb1:=hb1.ga hE21
  have hb2:=hb2.ga hE21
  have hq:=hq.ga hE21
  have hall:=fun x hx=>And.intro (hall x hx).1 ((hall x hx).2.ga hE21)
  have hq2:=hq2.ga hE21
  have hset:=fun x hx=>(hset x hx).ga hE21
  have ho3:=ho3.ga hE21
  have ho5:=ho5.ga hE21
  have hX:=hX.gb hE21
  have hq2o:=hq2.own
  refine wl (xj gc rfl 5 72 rfl rfl rfl zd hq2 (Src.slice (m:=1) ⟨rfl,.inr ⟨b64,0,rfl,hb64.kj⟩⟩ OneC.h) zm zn (n':=(ts++[((setS (ss.take 129)[i].1,⟨q3,k3,q5,k5⟩):By)]).length) (ys:=(ts++[((setS (ss.take 129)[i].1,⟨q3,k3,q5,k5⟩):By)]).flatMap uz) zi (by rw[bC,bU]) hX fun q4 k4 w22 hq2 hE22 hX=> ?_)
  dsimp only at hq2 hE22
  have hb1:=hb1.ke hq2o hE22 (show(91:Nat)≠25 from by decide)
  have hb2:=hb2.ke hq2o hE22 (show(91:Nat)≠25 from by decide)
  have hq:=hq.zv5 hq2o hE22 zd
  have hall:=fun x hx=>And.intro (hall x hx).1 ((hall x hx).2.extT hq2o hE22 zd zd zd)
  have hset:=fun x hx=>(hset x hx).zv5 hq2o hE22 zd
  have ho3:=ho3.zv5 hq2o hE22 zd
  have ho5:=ho5.zv5 hq2o hE22 zd
  refine j0 gc rfl ?_
  have hb2o:=hb2
  refine kl hb2 rfl rfl rfl fun w23 hb2 hE23 hs23=> ?_
  have hb1:=hb1.gj hE23 ne1_2
  have hq:=hq.gj hE23 hb2o zd
  have hall:=fun x hx=>And.intro (hall x hx).1 ((hall x hx).2.gj hE23 hb2o zd zd zd)
  have hq2:=hq2.gj hE23 hb2o zd
  have hset:=fun x hx=>(hset x hx).gj hE23 hb2o zd
  have ho3:=ho3.gj hE23 hb2o zd
  have ho5:=ho5.gj hE23 hb2o zd
  have hX:=hX.gi hE23 fr2
  refine gk (Aa rfl ?_)
  rw[jz _ zo]
  refine gk ?_
  rw[hp] at hb1
  exact jk (i+1,q4,k4,ts++[((setS (ss.take 129)[i].1,⟨q3,k3,q5,k5⟩):By)]) rfl ⟨⟨hi2,hq,hall,hq2,by rw[bX,hts,←yw4 hi2];rfl,fun y hy=>(aY.1 hy).elim (hset y) fun e=>by rw[aI.1 e];exact⟨ho3,ho5,(by show(List.take 40 _).length<_;rw[aL];omega),(by show(List.take 4097 _).length<_;rw[aL];omega),(by show(List.take 4097 _).length<_;rw[aL];omega)⟩⟩,hb1,hb2,hX⟩ zf
 have h0:i=(ss.take 129).length:=by omega
 subst h0
 rw[bZ] at hts
 refine Ak (ko (je hb2 rfl rfl ?_))
 have hb2o:=hb2
 refine wl (j4 (l':=[.slice q gs.length k,.slice q2 ts.length k2]) gc hb2 rfl rfl rfl rfl OneC.h fun w24 hb2 hE24 hs24=> ?_)
 have hq:=hq.gj hE24 hb2o zd
 have hall:=fun x hx=>And.intro (hall x hx).1 ((hall x hx).2.gj hE24 hb2o zd zd zd)
 have hq2:=hq2.gj hE24 hb2o zd
 have hset:=fun x hx=>(hset x hx).gj hE24 hb2o zd
 have hX:=hX.gi hE24 fr2
 refine qq (j9 (qe [_] ⟨⟨b2,0,rfl,qg gc rfl rfl hb2.kj rfl⟩,trivial⟩ ?_))
 have hgl:=congrArg List.length hgs
 have htl:=congrArg List.length hts
 rw[aE,aE,aL] at hgl htl
 exact⟨⟨q,k,gs,q2,k2,ts⟩,rfl,by rw[qu.d,batS,qu.d,hgs,hts,←List.map_take,←List.map_take,List.map_map,List.map_map];rfl,⟨hq,hq2,hall,hset,(by show gs.length<1000000;omega),(by show ts.length<1000000;omega)⟩,hX⟩
end Go.Proofs.YtpdiphfjmepijaaGreatDoor
