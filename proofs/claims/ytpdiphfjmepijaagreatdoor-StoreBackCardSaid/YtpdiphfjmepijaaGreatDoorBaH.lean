/-
  Walks and laws towards: a batch is decoded from its bytes, and less of them is too short (StoreBack)
-/
import Derived.Test.YtpdiphfjmepijaaGreatDoorBaG
namespace Go.Proofs.YtpdiphfjmepijaaGreatDoor
open Go.Proofs.Tryz
open Go.Vc
def cutV (l:List A9) (i:Nat) (q:Bool):List A9:=if q then l.take i++l.drop (i+1) else l
theorem find_two {l:List A9} {n:Str} {i:Nat} {q:Bool} (hr:Ad l) (h:FindAt l n i q):(q=true∧∃hi:i<l.length,l[i].1=n∧zz3 l n=some l[i].2)∨(q=false∧zz3 l n=none):=by
 obtain⟨h1,h2,h3,h4⟩:=h
 rcases(find_split hr (List.take_append_drop i l).symm h2 h3).2 with⟨x,r,e,_,hv⟩|⟨hne,_,hv⟩
 ·have hi:i<l.length:=by
   rcases Nat.lt_or_ge i l.length with h'|h'
   ·exact h'
   rw[List.drop_eq_nil_of_le h'] at e;cases e
  have hd:=yw3 hi
  rw[e] at hd
  have hd:(n,x)=l[i]:=by simpa using hd
  exact .inl ⟨h4.2 ⟨(n,x),by rw[e];rfl,rfl⟩,hi,by rw[←hd],by rw[hv,←hd]⟩
 refine .inr ⟨?_,hv⟩
 cases hq:q
 ·rfl
 obtain⟨v,e,hn⟩:=h4.1 hq
 exact absurd hn (hne v e)
theorem fit_iff {l:List A9} {s:xt} {i:Nat} {q:Bool} (h:(q=true∧∃hi:i<l.length,l[i].1=s.name∧zz3 l s.name=some l[i].2)∨(q=false∧zz3 l s.name=none)):xw8 l s↔q=s.was∧(q=true→∀hi:i<l.length,l[i].2=s.old):=by
 unfold xw8
 rcases h with⟨a,hi,_,b⟩|⟨a,b⟩
 ·rw[b,a]
  cases hw:s.was
  ·simp
  simp only[if_true,Option.some.injEq,true_and,forall_const]
  exact⟨fun e _=>e,fun e=>e hi⟩
 rw[b,a]
 cases hw:s.was<;>simp
theorem putV_cut {l:List A9} {s:xt} {i:Nat} {q:Bool} (hr:Ad l) (h:FindAt l s.name i q):yx5 l s=(cutV l i q).take i++(if s.is then [(s.name,s.new)] else [])++(cutV l i q).drop i∧i≤(cutV l i q).length:=by
 obtain⟨g,m,n,j⟩:=h
 have o:=find_split hr (List.take_append_drop i l).symm m n
 have a:(l.take i).length=i:=by rw[List.length_take,Nat.min_eq_left g]
 rcases o with⟨k,⟨x,r,e,c,_⟩|⟨d,c,_⟩⟩
 ·have b:q=true:=j.2 ⟨(s.name,x),by rw[e];rfl,rfl⟩
  have p:l.drop (i+1)=r:=by rw[←List.drop_drop,e];rfl
  have f:cutV l i q=l.take i++r:=by rw[cutV,b,p];rfl
  rw[yx5,k,c,f,List.take_left' a,List.drop_left' a]
  exact⟨rfl,by rw[List.length_append,a];omega⟩
 have b:q=false:=by
  cases b:q
  ·rfl
  obtain⟨v,e,t⟩:=j.1 b
  exact absurd t (d v e)
 have f:cutV l i q=l:=by rw[cutV,b];rfl
 rw[yx5,k,c,f]
 exact⟨rfl,g⟩
def zw8 (l:List B7) (i:Nat) (q:Bool):List B7:=if q then l.take i++l.drop (i+1) else l
theorem cutX_map (l:List B7) (i:Nat) (q:Bool):(zw8 l i q).map Prod.fst=cutV (l.map Prod.fst) i q:=by
 unfold zw8 cutV;split
 ·rw[List.map_append,List.map_take,List.map_drop]
 rfl
theorem cutX_mem {l:List B7} {i:Nat} {q:Bool} {x:B7} (h:x∈zw8 l i q):x∈l:=by
 unfold zw8 at h;split at h
 ·rcases List.mem_append.1 h with h|h
  ·exact List.mem_of_mem_take h
  exact List.mem_of_mem_drop h
 exact h
theorem cutX_len (l:List B7) (i:Nat) (q:Bool):(zw8 l i q).length≤l.length:=by
 unfold zw8;split
 ·rw[List.length_append,List.length_take,List.length_drop];omega
 exact Nat.le_refl _
theorem Cg.less {W u:World} {G:Nat→Prop} {rp:Option Addr} {rc r:Nat} {hs:List qu} {vs vs':List B7} (k:Cg W u G rp rc hs r vs) (h:∀x∈vs',x∈vs):Cg W u G rp rc hs r vs':=⟨k.row,k.map,k.o,fun x hx=>k.v x (h x hx)⟩
theorem one_val {x:B7}:xm (C1 1 (x1 (([],[]),none,0))) [(0*(0+2),0+2,.agg (x1 x).toArray)]=x1 x:=rfl
theorem sets_calls (w:World) {W:World} {hb:Nat} {G:Nat→Prop} {h:u9} (hbk:j0 w hb 121 h.c) (hi:zj4 W w G h) (hW:Ext No W w) (hfev:h.vs.length+1<1000000) {s:xt} {a:SetP} (ho:SetAt W (s,a)) (_hok:xq6 s) (hri:Ad h.s.vals) (hbn:W.heap.size≤hb):
  gn prog 142 [.pointer (some ⟨hb,0,none⟩),.agg (x8 (s,a)).toArray] w fun v w'=>∃h':u9,v= .int .i64 (if xw8 h.s.vals s then 0 else 200)∧j0 w' hb 121 h'.c∧zj4 W w' G h'∧h'.hs=h.hs∧h'.s.vals=(if xw8 h.s.vals s then yx5 h.s.vals s else h.s.vals)∧h'.vs.length≤h.vs.length+1∧Ext (Brg W w) w w':=by
 have hbk0:=hbk
 have hi0:=hi
 obtain⟨rp,rc,hs,m,vp,vc,vs⟩:=h
 obtain⟨r,hmr,hrW,hM⟩:=hi.map
 have hmr:m=some r:=hmr
 subst hmr
 have hbk:j0 w hb 121 [.slice rp hs.length rc,.map (some r),.slice vp vs.length vc]:=hbk
 have hval:ku W w vp vs.length vc 129 2 (vs.flatMap x1):=hi.vals
 have hre:Cg W w G rp rc hs r vs:=⟨hi.row,hM,hi.o,hi.v⟩
 have hfev:vs.length+1<1000000:=hfev
 have hso:=ho.old
 have hsn:=ho.new
 have hsl:=ho.lo
 have hsw:=ho.lw
 dsimp only at hso hsn hsl hsw
 have hln:=ho.ln
 have hrr:u9.s ⟨rp,rc,hs,some r,vp,vc,vs⟩=⟨hs.map qu.o,vs.map Prod.fst⟩:=rfl
 rw[hrr] at hri⊢
 dsimp only at hri hln⊢
 have hW0:=hW.size
 have hN:=Ext.refl No w
 refine gx func142 ?_
 have hX:=Ext.refl (Brg W w) w
 refine qa (gw rfl fun b3 w1 hn3 hb3 hE1=> ?_)
 have hbk:=hbk.ga hE1
 have hval:=hval.ga hE1
 have hre:=hre.ga hE1
 have hW:=hW.gb hE1
 have hN:=hN.gb hE1
 have hX:=hX.gb hE1
 have hb3:j0 w1 b3 91 (x8 (s,a)):=hb3
 refine jz rfl (gk (js rfl 11 [qP 0,qP 1,qP 2,qP 3,qP 4,(5,false),qP 6,qP 7,qP 8,qP 9,qP 10] [] (No) zk fun w2 hE2 hs2=> ?_))
 have hd3:=hb3
 have hbkd:=hbk
 have hvald:=hval
 have hred:=hre
 have hWd:=hW
 have hb3:=hb3.ga hE2
 have hbk:=hbk.ga hE2
 have hval:=hval.ga hE2
 have hre:=hre.ga hE2
 have hW:=hW.gb hE2
 have hN:=hN.gb hE2
 have hX:=hX.gb hE2
 have hC:Ext (No) _ w2:=hE2.no
 refine gv gc 2 rfl (qf gc rfl rfl (fun w' hw'=>(hbkd.ga hw').ko) rfl ?_)
 refine gv gc 1 rfl (j6 gc rfl rfl (fun w' hw'=>(hd3.ga hw').cell rfl) ?_)
 refine jg rfl (j3 call53 rfl (find_calls w2 rfl rfl hval.sl zo (n:=s.name)) fun v3 w3 hr3=>⟨(by obtain⟨i,q,rfl,hF,hE3⟩:=hr3;exact hC.gb hE3),?_⟩)
 obtain⟨i,q,rfl,hF,hE3⟩:=hr3
 have hb3:=hb3.ga hE3
 have hbk:=hbk.ga hE3
 have hval:=hval.ga hE3
 have hre:=hre.ga hE3
 have hW:=hW.gb hE3
 have hN:=hN.gb hE3
 have hX:=hX.gb hE3
 have hC:=hC.gb hE3
 have htwo:=find_two hri hF
 refine gv gc 5 rfl (jj (ja (j1 (gk ?_))))
 refine jv (α:=Bool) [0,3,5,6] rfl (fun z=>[(37,.bool z)]) (fun z u=>(z=decide (¬xw8 (vs.map Prod.fst) s)∧j0 u hb 121 [.slice rp hs.length rc,.map (some r),.slice vp vs.length vc]∧ku W u vp vs.length vc 129 2 (vs.flatMap x1)∧Cg W u G rp rc hs r vs∧Ext No W u∧Ext No w u)∧j0 u b3 91 (x8 (s,a))∧Ext (Brg W w) w u) ?_ ?_
 ·refine js rfl 22 [qP 0,qP 1,qP 2,qP 3,qP 4,qP 5,qP 6,qP 7,qP 8,qP 9,qP 10,qP 11,qP 12,qP 13,qP 14,qP 15,qP 16,qP 17,qP 18,qP 19,qP 20,qP 21] [] (No) zk fun w4 hE4 hs4=> ?_
  have hd3:=hb3
  have hbkd:=hbk
  have hvald:=hval
  have hred:=hre
  have hWd:=hW
  have hb3:=hb3.ga hE4
  have hbk:=hbk.ga hE4
  have hval:=hval.ga hE4
  have hre:=hre.ga hE4
  have hW:=hW.gb hE4
  have hN:=hN.gb hE4
  have hX:=hX.gb hE4
  refine gv gc 2 rfl (j6 gc rfl rfl (fun w' hw'=>(hd3.ga hw').cell rfl) ?_)
  refine gv gc 2 rfl (yw0 20 rfl (fun hg=> ?_) (fun hg=> ?_))
  ·have hqw:¬q=s.was:=by simpa using hg
   refine gv gc 17 rfl (jj (ja ?_))
   exact gz (true) rfl ⟨⟨by symm;rw[decide_eq_true_eq,fit_iff htwo];exact fun k=>hqw k.1,hbk,hval,hre,hW,hN⟩,hb3,hX⟩
  have hqw:q=s.was:=by simpa using hg
  refine gv gc 2 rfl (yw0 22 rfl (fun hg=> ?_) (fun hg=> ?_))
  ·have hi3:i<(vs.map Prod.fst).length:=by
    rcases htwo with⟨_,hi,_⟩|⟨e,_⟩
    ·exact hi
    rw[hg] at e;cases e
   have hi2:i<vs.length:=by rw[List.length_map] at hi3;exact hi3
   have hgi:(vs.map Prod.fst)[i]=vs[i].1:=List.getElem_map ..
   obtain⟨qb,qo,hp,hsq⟩:=hvald.sl.qm (fun x _=>Ar x) zo
   subst hp
   refine gv gc 3 rfl (j6 gc rfl rfl (fun w' hw'=>((hbkd.ga hw').cell rfl)) ?_)
   refine gv gc 1 rfl (qk gc rfl rfl 2 rfl i rfl hi2 (qo+i*2) rfl (gv gc 1 rfl (j6 gc rfl rfl (fun w' hw'=>(((hsq i hi2).ga hw') 1 _ rfl)) ?_)))
   refine wd_b2s gc rfl rfl rfl (fun w' hw'=>(hred.v _ (List.getElem_mem hi2)).s.ga hw') (hre.v _ (List.getElem_mem hi2)).s ?_
   refine gv gc 1 rfl (j6 gc rfl rfl (fun w' hw'=>(hd3.ga hw').cell rfl) ?_)
   refine wd_b2s gc rfl rfl rfl (fun w' hw'=>hso.ga (hWd.gb hw')) (hso.ga hW) ?_
   refine gv gc 3 rfl (jj (ja ?_))
   exact gz (_) rfl ⟨⟨by rw[decide_eq_decide,fit_iff htwo];exact⟨fun k k2=>k (by rw[←k2.2 hg hi3,hgi]),fun k e=>k ⟨hqw,fun _ _=>by rw[hgi];exact A6 e⟩⟩,hbk,hval,hre,hW,hN⟩,hb3,hX⟩
  refine gv gc 15 rfl ?_
  refine jj (ja ?_)
  exact gz (false) rfl ⟨⟨by symm;rw[decide_eq_false_iff_not,Decidable.not_not,fit_iff htwo];exact⟨hqw,fun e=>by rw[hg] at e;cases e⟩,hbk,hval,hre,hW,hN⟩,hb3,hX⟩
 rintro z w5 ⟨⟨rfl,hbk,hval,hre,hW,hN⟩,hb3,hX⟩
 refine jl rfl (fun hc=> ?_) (fun hc=> ?_)
 ·refine gk ?_
  refine j4 (jz rfl (gq (gp (gu rfl rfl ?_))))
  rw[if_neg hc,if_neg hc]
  exact⟨⟨rp,rc,hs,some r,vp,vc,vs⟩,rfl,hbk0.ga hN,hi0.ga hN,rfl,rfl,Nat.le_succ _,hX⟩
 have hfit:xw8 (vs.map Prod.fst) s:=Decidable.not_not.1 hc
 rw[if_pos hfit,if_pos hfit]
 have hpc:=putV_cut hri hF
 rw[←cutX_map] at hpc
 have hcl:=cutX_len vs i q
 have hile:i≤(zw8 vs i q).length:=by have:=hpc.2;rw[List.length_map] at this;exact this
 refine j7 (j1 ?_)
 refine jv (α:=Option Addr×Nat) [0,3,5] rfl (fun z=>[]) (fun z u=>(j0 u hb 121 [.slice rp hs.length rc,.map (some r),.slice z.1 (zw8 vs i q).length z.2]∧ku W u z.1 (zw8 vs i q).length z.2 129 2 ((zw8 vs i q).flatMap x1)∧Cg W u G rp rc hs r (zw8 vs i q)∧Ext No W u)∧j0 u b3 91 (x8 (s,a))∧Ext (Brg W w) w u) ?_ ?_
 ·refine gk ?_
  refine j4 (jz rfl (vj rfl (fun hc=> ?_) (fun hc=> ?_)))
  ·have hi3:i<(vs.map Prod.fst).length:=by
    rcases htwo with⟨_,hi,_⟩|⟨e,_⟩
    ·exact hi
    rw[hc] at e;cases e
   have hi2:i<vs.length:=by rw[List.length_map] at hi3;exact hi3
   have hcx:zw8 vs i q=vs.take i++vs.drop (i+1):=by rw[zw8,hc];rfl
   refine yv rfl (gy rfl (hbk.cell rfl) (j9 gc rfl ?_))
   rw[kg _ zo]
   rw[show(i:Int)+1=((i+1:Nat):Int) from rfl]
   refine gi call186 rfl (vdelete_calls w5 hW hval zo hi2) fun v6 w6 hr6=> ?_
   obtain⟨q5,k5,rfl,hv5,hE6⟩:=hr6
   have hT6:Ext (Bc W _ 129 129) _ _:=hE6.mono fun y _=>Bc.own hval y
   have hbk:=hbk.xf hT6 zd zd
   have hb3:=hb3.xf hT6 zd zd
   have hre:=hre.xf hT6 zd
   have hW:=hW.xf hT6
   have hX:=hX.yq0 (hT6.mono (Brg.xf zd))
   rw[←hcx] at hv5⊢
   refine j9 gc rfl (ky hbk rfl rfl rfl fun w7 hbk2 hE7 hs7=> ?_)
   have hb3:=hb3.gj hE7 (hb3.ne hbk zd)
   have hre:=(hre.gj hE7 hbk hbn zd).less (vs':=zw8 vs i q) fun _=>cutX_mem
   have hv5:=hv5.gj hE7 hbk zd
   have hW:=hW.gh hE7 hbn
   have hX:=hX.yq0 (hE7.mono (Brg.one hbk hbn zd))
   refine gm ?_
   exact gz (q5,k5) rfl ⟨⟨hbk2,hv5,hre,hW⟩,hb3,hX⟩
  have hcx:zw8 vs i q=vs:=by rw[zw8,hc];rfl
  refine j7 ?_
  exact gz (vp,vc) rfl ⟨⟨by rw[hcx];exact hbk,by rw[hcx];exact hval,by rw[hcx];exact hre,hW⟩,hb3,hX⟩
 rintro⟨vp2,vc2⟩ w8 ⟨⟨hbk,hval,hre,hW⟩,hb3,hX⟩
 try dsimp only
 dsimp only at hbk hval hre
 refine jv (α:=Option Addr×Nat×List B7) [] rfl (fun z=>[]) (fun z u=>(j0 u hb 121 [.slice rp hs.length rc,.map (some r),.slice z.1 z.2.2.length z.2.1]∧ku W u z.1 z.2.2.length z.2.1 129 2 (z.2.2.flatMap x1)∧Cg W u G rp rc hs r z.2.2∧z.2.2.map Prod.fst=yx5 (vs.map Prod.fst) s∧z.2.2.length≤vs.length+1)∧Ext (Brg W w) w u) ?_ ?_
 ·refine gk ?_
  refine yv rfl (gy rfl (hb3.cell rfl) (qr (vj rfl (fun hc=> ?_) (fun hc=> ?_))))
  ·refine js rfl 16 [qP 0,qP 1,qP 2,qP 3,qP 4,qP 5,qP 6,qP 7,qP 8,qP 9,(10,false),qP 11,(12,false),(13,false),qP 14,qP 15] [16] (Bc W w8 129 129) zk fun w9 hE9 hs9=> ?_
   have hd3:=hb3
   have hbkd:=hbk
   have hbk:=hbk.ga hE9
   have hval:=hval.ga hE9
   have hre:=hre.ga hE9
   have hW:=hW.gb hE9
   have hX:=hX.gb hE9
   have hC:Ext (Bc W w8 129 129) _ w9:=hE9.no
   refine gv gc 4 rfl (j6 gc rfl rfl (fun w' hw'=>((hbkd.xf (show Ext (Bc W _ 129 129) _ w' from hw') zd zd).cell rfl)) ?_)
   refine gv gc 2 rfl (j6 gc rfl rfl (fun w' hw'=>((hd3.xf (show Ext (Bc W _ 129 129) _ w' from hw') zd zd).cell rfl)) ?_)
   refine gv gc 1 rfl (j6 gc rfl rfl (fun w' hw'=>((hd3.xf (show Ext (Bc W _ 129 129) _ w' from hw') zd zd).cell rfl)) ?_)
   have hWn:=hW
   refine jg rfl (j3 call35 rfl (xc w9 (hsn.ga hW) hsw) fun v10 w10 hr10=>⟨(by obtain⟨qn,kn,rfl,hqn,hqnn,hE10⟩:=hr10;exact hC.gb hE10),?_⟩)
   obtain⟨qn,kn,rfl,hqn,hqnn,hE10⟩:=hr10
   have hbk:=hbk.ga hE10
   have hval:=hval.ga hE10
   have hre:=hre.ga hE10
   have hW:=hW.gb hE10
   have hX:=hX.gb hE10
   have hC:=hC.gb hE10
   have hqnW:∀y,jd qn y→W.heap.size≤y:=fun y hy=>Nat.le_trans hWn.size (hqnn y hy)
   refine xw0 gc rfl rfl ⟨⟨rfl,by decide⟩,⟨rfl,by decide⟩,trivial⟩ (l':=x1 ((s.name,s.new),(qn,kn))) rfl ?_
   have hvl:=hval
   refine jg rfl (qd gc rfl 2 rfl valZc rfl zd zd ⟨⟨rfl,by decide⟩,trivial⟩ (l':=x1 ((s.name,s.new),(qn,kn))) one_val fun b64 w11 hn64 hb64 hE11 hs11=>⟨hC.gb hE11,?_⟩)
   have hbk:=hbk.ga hE11
   have hval:=hval.ga hE11
   have hre:=hre.ga hE11
   have hW:=hW.gb hE11
   have hqn:=hqn.ext hE11 fun _ _=>id
   have hX:=hX.gb hE11
   have hC:=hC.gb hE11
   refine jg rfl (j3 call187 rfl (vinsert_calls w11 hW hval zo hile hb64 (fun y hy=>j5 (hvl.own.lt hy) hn64)) fun v12 w12 hr12=>⟨(by obtain⟨q7,k7,rfl,hv7,hE12⟩:=hr12;exact hC.km (hE12.mono fun y _=>Bc.own hval y)),?_⟩)
   obtain⟨q7,k7,rfl,hv7,hE12⟩:=hr12
   have hT12:Ext (Bc W _ 129 129) _ _:=hE12.mono fun y _=>Bc.own hval y
   have hbk:=hbk.xf hT12 zd zd
   have hre:=hre.xf hT12 zd
   have hX:=hX.yq0 (hT12.mono (Brg.xf zd))
   have hqn:=hqn.xf hT12 zd zd
   refine gv gc 2 rfl (jj (wb rfl (xv gc hbk rfl rfl rfl fun w13 hbk2 hE13 hs13=> ?_)))
   have hre:=hre.gj hE13 hbk hbn zd
   have hv7:=hv7.gj hE13 hbk zd
   have hqn:=hqn.kc hE13 hbk zd
   have hX:=hX.yq0 (hE13.mono (Brg.one hbk hbn zd))
   have hnv:zx9 w13 G ((s.name,s.new),(qn,kn)):=⟨hqn,fun y hy=>hi0.new y (hqnW y hy),hln,hsw⟩
   refine ja ?_
   exact gz (q7,k7,(zw8 vs i q).take i++((s.name,s.new),(qn,kn))::(zw8 vs i q).drop i) rfl ⟨⟨hbk2,hv7,⟨hre.row,hre.map,hre.o,fun x hx=>(by rcases List.mem_append.1 hx with hx|hx;exact hre.v x (List.mem_of_mem_take hx);rcases List.mem_cons.1 hx with rfl|hx;exact hnv;exact hre.v x (List.mem_of_mem_drop hx))⟩,by rw[hpc.1,if_pos hc,List.map_append,List.map_cons,List.map_take,List.map_drop,List.append_assoc];rfl,by dsimp only;rw[List.length_append,List.length_cons,List.length_take,List.length_drop];omega⟩,hX⟩
  refine j7 ?_
  exact gz (vp2,vc2,zw8 vs i q) rfl ⟨⟨hbk,hval,hre,by dsimp only;rw[hpc.1,if_neg (by rw[hc];decide),List.append_nil,List.take_append_drop],by dsimp only;omega⟩,hX⟩
 rintro⟨vp3,vc3,vs3⟩ w14 ⟨⟨hbk,hval,hre,hpv,hl3⟩,hX⟩
 try dsimp only
 dsimp only at hbk hval hre hpv hl3
 refine je rfl (gq (gu rfl rfl ?_))
 exact⟨⟨rp,rc,hs,some r,vp3,vc3,vs3⟩,rfl,hbk,⟨hre.row,hi0.rin,⟨r,rfl,hrW,hre.map⟩,hval,hre.o,hre.v,hi0.few,by show vs3.length<_;omega,hi0.new⟩,rfl,hpv,hl3,hX⟩
theorem x7.mono {H G:Nat→Prop} {u:World} {h:u9} (k:x7 u H h) (g:∀y,H y→G y):x7 u G h:=
 ⟨k.row,k.rc,k.map,k.vals,k.vc,fun x hx=>(k.o x hx).mono g,fun x hx=>(k.v x hx).mono g,k.fr.mono g,k.fv.mono g,fun r e=>g r (k.fm r e),k.few,k.fev⟩
abbrev hasZ:u9:=⟨none,0,[],none,none,0,[]⟩
theorem hasZ_at (u:World) (H:Nat→Prop):x7 u H hasZ:=⟨Sl.nil _ _ _,Nat.le_refl _,.inl ⟨rfl,fun _=>rfl⟩,Sl.nil _ _ _,Nat.le_refl _,fun _ h=>(by cases h),fun _ h=>(by cases h),fun _ _ e=>(by cases e),fun _ _ e=>(by cases e),fun _ e=>(by cases e),by decide,by decide⟩
theorem zj4.gj {W u u':World} {G:Nat→Prop} {h:u9} (k:zj4 W u G h) {b T:Nat} {L:List Value} (hE:Ext (One b) u u') (hb:j0 u b T L) (hn:W.heap.size≤b) (hT:RestT T∧129≠T):zj4 W u' G h:=
 ⟨k.row.gj hE hb hn hT.1.2.2.2.2,k.rin,k.map.imp fun _r e=>⟨e.1,e.2.1,e.2.2.gj hE hb⟩,k.vals.gj hE hb hT.2,fun x hx=>(k.o x hx).gj hE hb hT.1.1 hT.1.2.1 hT.1.2.2.1,fun x hx=>(k.v x hx).gj hE hb hT.1.2.2.2.1,k.few,k.fev,k.new⟩
theorem zj4.yx0 {W u u':World} {G:Nat→Prop} {h:u9} (k:zj4 W u G h) {p:Option Addr} {n c T sz:Nat} {xs:List Value} (ho:ku W u p n c T sz xs) (hE:Ext (jd p) u u') (hT:RestT T∧129≠T):zj4 W u' G h:=by
 rcases ho.own with⟨d,_⟩|⟨b,l,d,e,_⟩
 ·exact k.ga (hE.mono fun x _ a=>by rw[d] at a;cases a)
 exact k.gj (hE.mono fun x _ a=>by rw[d] at a;exact(congrArg Addr.block (Option.some.inj a)).symm) e (ho.new b d) hT
theorem zj4.hasLt {W u:World} {G:Nat→Prop} {h:u9} (k:zj4 W u G h) (hW:W.heap.size≤u.heap.size):x7 u (fun y=>G y∧y<u.heap.size) h:=by
 obtain⟨r,p,i,q⟩:=k.map
 refine⟨k.row.sl,k.row.cap,.inr ⟨r,p,q⟩,k.vals.sl,k.vals.own.cap,fun x j=> ?_,fun x j=> ?_,fun b d e=>⟨k.rin b d e,?_⟩,fun b d e=>⟨ownN_in k.vals k.new b d e,?_⟩,fun t e=> ?_,k.few,k.fev⟩
 ·have a:=k.o x j
  exact⟨a.id,a.ok,a.ol,a.op,a.or,fun y g=>⟨a.f y g,g.elim a.ol.lt fun e=>e.elim a.op.lt a.or.lt⟩⟩
 ·have a:=k.v x j
  exact⟨a.o,fun y g=>⟨a.f y g,a.o.lt g⟩,a.ln,a.lo⟩
 ·rcases k.row with m|m
  ·exact Nat.lt_of_lt_of_le (m.2.2 b d e) hW
  rcases m.own with⟨c,_⟩|⟨s,l,c,n,_⟩
  ·rw[e] at c;cases c
  rw[e] at c;cases c;exact n.lt
 ·rcases k.vals.own with⟨c,_⟩|⟨s,l,c,n,_⟩
  ·rw[e] at c;cases c
  rw[e] at c;cases c;exact n.lt
 rw[p] at e;cases e
 exact⟨k.new _ i,q.lt⟩
theorem brO_put {row l:List jk} {i:Nat} {p:List jk×List jk} (hi:i<l.length) (h:yf row (l.take i)=some p):yf row (l.take (i+1))=if(zj8 p.1 l[i]).2.1=0 then some ((zj8 p.1 l[i]).2.2,if(zj8 p.1 l[i]).1=true then p.2 else p.2++[l[i]]) else none:=by
 have e:yf row (l.take (i+1))=brO (yf row (l.take i)) l[i]:=Bx hi
 rw[e,h]
 show(if _ then _ else _)=_
 unfold zj8
 split
 ·rfl
 split<;>rfl
theorem bring_stop {row l:List jk} {i:Nat} (hi:i<l.length) (h:yf row (l.take (i+1))=none):yf row l=none:=by
 have e:yf row (l.take (i+1))=brO (yf row (l.take i)) l[i]:=Bx hi
 exact foldl_stop brO_none hi (e.symm.trans h)
theorem putR_four (row:List jk) (o:jk) (h:(zj8 row o).2.1≠0):(zj8 row o).2.1=4:=by
 unfold zj8 at h⊢
 split
 ·rename_i h1;rw[if_pos h1] at h;exact absurd rfl h
 rename_i h1;rw[if_neg h1] at h
 split
 ·rename_i h2;rw[if_pos h2] at h;exact absurd rfl h
 rfl
theorem putR_len (row:List jk) (o:jk):(zj8 row o).2.2.length≤row.length+1:=by
 unfold zj8;split
 ·exact Nat.le_succ _
 split
 ·rw[List.length_append];exact Nat.le_refl _
 exact Nat.le_succ _
theorem seS_step {l:List A9} {ss:List xt} {i:Nat} {v:List A9} (hi:i<ss.length) (h:Am l (ss.take i)=some v):Am l (ss.take (i+1))=if xw8 v ss[i] then some (yx5 v ss[i]) else none:=by
 have e:Am l (ss.take (i+1))=seS (Am l (ss.take i)) ss[i]:=Bx hi
 rw[e,h];rfl
theorem bringS_stop {l:List A9} {ss:List xt} {i:Nat} (hi:i<ss.length) (h:Am l (ss.take (i+1))=none):Am l ss=none:=by
 have e:Am l (ss.take (i+1))=seS (Am l (ss.take i)) ss[i]:=Bx hi
 exact foldl_stop seS_none hi (e.symm.trans h)
theorem after_no1 {s:Dj} {b:A2} (h:yf s.row b.objs=none):(jt s b).2.2=4:=by rw[jt,h]
theorem after_no2 {s:Dj} {b:A2} {p:List jk×List jk} (h:yf s.row b.objs=some p) (k:Am s.vals b.sets=none):(jt s b).2.2=200:=by rw[jt,h,k]
theorem after_three {s:Dj} {b:A2} {p:List jk×List jk} {v:List A9} (h:yf s.row b.objs=some p) (k:Am s.vals b.sets=some v):jt s b=if 128<v.length then(s,zq0,6) else(⟨p.1,v⟩,⟨p.2,b.sets⟩,0):=by rw[jt,h,k]
structure BrgQ (w w':World) (H:Nat→Prop) (h:u9) (B:uf) (h':u9) (F:uf):Prop where
  eq:(jt h.s B.d).2.2=0→h'.s=(jt h.s B.d).1∧F.d=(jt h.s B.d).2.1∧∃r,h'.m=some r
  has:x7 w' (Grow H w w') h'
  own:ku w w' F.op F.os.length F.oc 37 73 (F.os.flatMap Bb)
  bat:∀u',Ch u' B→ku w u' F.op F.os.length F.oc 37 73 (F.os.flatMap Bb)→Ch u' F
theorem BrgQ.no {w w':World} {H:Nat→Prop} {h:u9} {B:uf} {e:Int} (he:e≠0) (k:(jt h.s B.d).2.2=e):BrgQ w w' H h B hasZ yh:=⟨fun e'=>absurd (k.symm.trans e') he,hasZ_at _ _,ku.nil _ _ _ _,fun _ _ h=>⟨h.sl,Sl.nil _ _ _,fun _ e=>(by cases e),fun _ e=>(by cases e),by decide,by decide⟩⟩
theorem z1 (w:World) {H:Nat→Prop} {h:u9} (hx:x7 w H h) (hH:∀y,H y→y<w.heap.size) {B:uf} (hB:Ch w B) (hok:yn B.d) (hri:Ad h.s.vals) (hfo:h.hs.length+B.os.length<1000000) (hfv:h.vs.length+B.ss.length<1000000) (hr:Rt w):
  gn prog 64 [.agg h.c.toArray,B.v] w fun v w'=>∃(h':u9) (F:uf),v= .tuple #[.agg h'.c.toArray,F.v,.int .i64 (jt h.s B.d).2.2]∧BrgQ w w' H h B h' F∧Ext No w w':=by
 obtain⟨op,oc,os,sp,sc,ss⟩:=B
 dsimp only at hfo hfv
 refine gx func64 ?_
 have n:=Ext.refl No w
 refine qa (gw rfl fun b2 w1 dw Y cv=> ?_)
 have n:=n.gb cv
 have Y:j0 w1 b2 121 (h.c):=Y
 refine gw rfl fun b3 w2 dx g c7=> ?_
 have Y:=Y.ga c7
 have n:=n.gb c7
 have g:j0 w2 b3 25 ([.slice op os.length oc,.slice sp ss.length sc]):=g
 refine gw rfl fun b4 w3 cw a bu=> ?_
 have al:=Nat.le_trans n.size cw
 have Y:=Y.ga bu
 have g:=g.ga bu
 have n:=n.gb bu
 have a:j0 w3 b4 121 ([.slice none 0 0,.map none,.slice none 0 0]):=a
 refine gw rfl fun b5 w4 c8 f b6=> ?_
 have C:=j5 a.lt c8
 have am:=Nat.le_trans n.size c8
 have Y:=Y.ga b6
 have g:=g.ga b6
 have a:=a.ga b6
 have n:=n.gb b6
 have f:j0 w4 b5 25 ([.slice none 0 0,.slice none 0 0]):=f
 refine jz rfl (qa (jh Y rfl rfl ?_))
 obtain⟨W,c9⟩:∃W,W=w4:=⟨_,rfl⟩
 have ag:=n.size
 have a4:=hB.ga n
 have ca:Rt w4:=hr.ext n id
 have cb:=a.lt
 have cc:=f.lt
 refine gi call57 rfl (xz8 w4 (hx.ga n) (fun y hy=>Nat.lt_of_lt_of_le (hH y hy) n.size)) fun v5 w5 cx=> ?_
 obtain⟨h1,rfl,cd,cy,A,an⟩:=cx
 have g:=g.ga an
 have a:=a.ga an
 have f:=f.ga an
 have n:=n.gb an
 rw[←c9] at A ag a4 ca cb cc
 have p:Ext No W w5:=by rw[c9];exact an
 have a5:=p
 refine gw rfl fun b7 w6 ao j ah=> ?_
 have bv:=j5 g.lt ao
 have bw:=j5 a.lt ao
 have bx:=j5 f.lt ao
 have cz:=Nat.le_trans n.size ao
 have g:=g.ga ah
 have a:=a.ga ah
 have f:=f.ga ah
 have A:=A.ga ah
 have p:=p.gb ah
 have n:=n.gb ah
 have j:j0 w6 b7 121 ([.slice none 0 0,.map none,.slice none 0 0]):=j
 have ac:=Nat.le_trans a5.size ao
 have ce:=j
 refine wl (j8 (l':=h1.c) gc j rfl rfl rfl rfl OneC.h fun w7 j ai dy=> ?_)
 have g:=g.gj ai bv
 have a:=a.gj ai bw
 have f:=f.gj ai bx
 have A:=A.gj ai ce ac zd
 have p:=p.gh ai ac
 have n:=n.gh ai cz
 refine qr (qc rfl (jb g rfl rfl (qg rfl ⟨⟨rfl,by decide⟩,trivial⟩ (l':=[.slice none 0 0,.slice sp ss.length sc]) rfl ?_)))
 have a5:=p
 refine gw rfl fun b8 w8 aj l a6=> ?_
 have ap:=j5 g.lt aj
 have aq:=j5 a.lt aj
 have ar:=j5 f.lt aj
 have au:=j5 j.lt aj
 have cf:=Nat.le_trans n.size aj
 have g:=g.ga a6
 have a:=a.ga a6
 have f:=f.ga a6
 have j:=j.ga a6
 have A:=A.ga a6
 have p:=p.gb a6
 have n:=n.gb a6
 have l:j0 w8 b8 25 ([.slice none 0 0,.slice none 0 0]):=l
 have ad:=Nat.le_trans a5.size aj
 have ae:=l
 refine wl (j8 (l':=[.slice none 0 0,.slice sp ss.length sc]) gc l rfl rfl rfl rfl OneC.h fun w9 l a7 dz=> ?_)
 have g:=g.gj a7 ap
 have a:=a.gj a7 aq
 have f:=f.gj a7 ar
 have j:=j.gj a7 au
 have A:=A.gj a7 ae ad zd
 have p:=p.gh a7 ad
 have n:=n.gh a7 cf
 refine qr (gk (qc rfl (jb g rfl rfl (jz rfl (gr ?_)))))
 refine jm (α:=Nat×u9×Option Addr×Nat×List yx3) [3,4,5,7,8,22,23] rfl (fun z=>[(24,.int .i64 (z.1:Int))]) (fun z u=>(z.1≤os.length∧zj4 W u (fun y=>H y∨W.heap.size≤y) z.2.1∧Ext No W u∧ku W u z.2.2.1 z.2.2.2.2.length z.2.2.2.1 37 73 (z.2.2.2.2.flatMap Bb)∧yf h.s.row ((os.map Prod.fst).take z.1)=some (z.2.1.s.row,z.2.2.2.2.map Prod.fst)∧z.2.1.vs=h.vs∧z.2.1.hs.length≤h.hs.length+z.1∧(∀x∈z.2.2.2.2,x∈os)∧z.2.2.2.2.length≤z.1)∧j0 u b3 25 ([.slice op os.length oc,.slice sp ss.length sc])∧j0 u b4 121 ([.slice none 0 0,.map none,.slice none 0 0])∧j0 u b5 25 ([.slice none 0 0,.slice none 0 0])∧j0 u b7 121 (z.2.1.c)∧j0 u b8 25 ([.slice z.2.2.1 z.2.2.2.2.length z.2.2.2.1,.slice sp ss.length sc])∧Ext No w u) (fun z u=>os.length-z.1) (0,h1,none,0,[]) rfl ⟨⟨Nat.zero_le _,A,p,ku.nil _ _ _ _,by rw[u9.s,u9.s,cd];rfl,cy,by rw[cd];exact Nat.le_refl _,fun _ h=>(by cases h),Nat.le_refl _⟩,g,a,f,j,l,n⟩ ?_
 rintro⟨i,h2,q,k,fs⟩ e0 ⟨⟨bz,A,p,t,a0,a1,b9,a8,ak⟩,g,a,f,j,l,n⟩
 try dsimp only
 dsimp only at bz A p t a0 a1 b9 a8 ak j l
 refine je rfl (gk (jl rfl (fun Z=> ?_) (fun Z=> ?_)))
 ·have D:i<os.length:=by omega
  have av:i<(os.map Prod.fst).length:=by rw[List.length_map];exact D
  have c0:(os.map Prod.fst)[i]=os[i].1:=List.getElem_map ..
  have L:=brO_put av a0
  rw[c0] at L
  dsimp only at L
  have a2:=a4.o _ (List.getElem_mem D)
  obtain⟨qb,qo,hp,c1⟩:=a4.os.qm (fun x hx=>gt (a4.o x hx).i) zn
  dsimp only at hp
  subst hp
  refine j7 (j1 ?_)
  refine jv (α:=u9×Option Addr×Nat×List yx3) [3,4,5,7,8,22,23,24] rfl (fun z=>[]) (fun z u=>(zj4 W u (fun y=>H y∨W.heap.size≤y) z.1∧Ext No W u∧ku W u z.2.1 z.2.2.2.length z.2.2.1 37 73 (z.2.2.2.flatMap Bb)∧yf h.s.row ((os.map Prod.fst).take (i+1))=some (z.1.s.row,z.2.2.2.map Prod.fst)∧z.1.vs=h.vs∧z.1.hs.length≤h.hs.length+(i+1)∧(∀x∈z.2.2.2,x∈os)∧z.2.2.2.length≤(i+1))∧j0 u b3 25 ([.slice (some ⟨qb,qo,none⟩) os.length oc,.slice sp ss.length sc])∧j0 u b4 121 ([.slice none 0 0,.map none,.slice none 0 0])∧j0 u b5 25 ([.slice none 0 0,.slice none 0 0])∧j0 u b7 121 (z.1.c)∧j0 u b8 25 ([.slice z.2.1 z.2.2.2.length z.2.2.1,.slice sp ss.length sc])∧Ext No w u) ?_ ?_
  ·refine gr ?_
   refine qa (ki rfl 73 rfl i rfl D (qo+i*73) rfl (jr rfl ((c1 i D).ga p) (gt a2.i) ?_))
   have d0:=t
   have a5:=p
   refine gw rfl fun d1 e3 M R E=> ?_
   have ba:=j5 g.lt M
   have bb:=j5 a.lt M
   have bc:=j5 f.lt M
   have bd:=j5 j.lt M
   have bf:=j5 l.lt M
   have cg:=Nat.le_trans n.size M
   have g:=g.ga E
   have a:=a.ga E
   have f:=f.ga E
   have j:=j.ga E
   have l:=l.ga E
   have A:=A.ga E
   have p:=p.gb E
   have t:=t.ga E
   have n:=n.gb E
   have aw:=Nat.le_trans a5.size M
   have ch:∀y,jd q y→y≠d1:=fun y hy=>j5 (d0.own.lt hy) M
   have c2:=R
   refine wl (j8 (l':=jw os[i].1 os[i].2) gc R rfl rfl (gt a2.i) (by rw[gt a2.i];rfl) OneC.h fun d2 R G dg=> ?_)
   have g:=g.gj G ba
   have a:=a.gj G bb
   have f:=f.gj G bc
   have j:=j.gj G bd
   have l:=l.gj G bf
   have A:=A.gj G c2 aw zd
   have p:=p.gh G aw
   have t:=ku.mk (t.own.ext G fun y hy e=>ch y hy e) t.new
   have n:=n.gh G cg
   refine qr (qa (jh R rfl (gt a2.i) ?_))
   refine gi call141 rfl (puts_calls d2 j A p zo (a4.o _ (List.getElem_mem D)) (hok.2.2.1 _ (List.mem_map_of_mem (List.getElem_mem D))) ca ac) fun e4 e5 ci=> ?_
   obtain⟨h3,rfl,j,d3,a9,bm,N⟩:=ci
   have g:=g.brg N zd
   have f:=f.brg N zd
   have l:=l.brg N zd
   have R:=R.brg N zd
   have a:=a.ext N fun e=>by have:=e.1;omega
   have t:=ku.mk (t.own.brg N zd) t.new
   have p:=p.newer N fun y e=>e.1
   have n:=n.newer N fun y e=>Nat.le_trans ag e.1
   have A:=d3
   have bn:h3.hs.length≤h.hs.length+(i+1):=by
    have e:=congrArg List.length a9
    have e2:=putR_len h2.s.row os[i].1
    rw[←e,u9.s,u9.s,List.length_map,List.length_map] at e2
    omega
   refine jz rfl (gk (je rfl (jl rfl (fun Z=> ?_) (fun Z=> ?_))))
   ·rw[if_neg Z] at L
    have Q:=after_no1 (b:=⟨(os.map Prod.fst),(ss.map Prod.fst)⟩) (bring_stop av L)
    have d4:=putR_four _ _ Z
    refine qa (qg rfl trivial (l':=[.slice none 0 0,.map none,.slice none 0 0]) rfl (qg rfl trivial (l':=[.slice none 0 0,.slice none 0 0]) rfl (j9 gc rfl ?_)))
    refine wl (j8 (l':=[.slice none 0 0,.map none,.slice none 0 0]) gc a rfl rfl rfl rfl OneC.h fun e6 a bo dh=> ?_)
    have f:=f.gj bo C.symm
    have n:=n.gh bo al
    refine wl (j8 (l':=[.slice none 0 0,.slice none 0 0]) gc f rfl rfl rfl rfl OneC.h fun e7 f bp di=> ?_)
    have a:=a.gj bp C
    have n:=n.gh bp am
    refine jz rfl (gq (gp (ji (gp (gp (ji (gp (qz [_,_,_] ⟨⟨b4,0,rfl,u0 gc rfl rfl a.ko rfl⟩,⟨b5,0,rfl,u0 gc rfl rfl f.ko rfl⟩,rfl,trivial⟩ ?_))))))))
    exact⟨hasZ,yh,by rw[d4,←Q];rfl,BrgQ.no zd Q,n⟩
   rw[if_pos (Decidable.not_not.1 Z)] at L
   refine j7 (j1 (je rfl (vj rfl (fun Z=> ?_) (fun Z=> ?_))))
   ·have c3:(zj8 h2.s.row os[i].1).1=false:=by simpa using Z
    refine yv rfl (jb l rfl rfl (jh R rfl (gt a2.i) ?_))
    refine wl (qd gc rfl 73 rfl objZc (gt qw) zd zd ⟨⟨by rw[ju];exact gt a2.i,by decide⟩,trivial⟩ (l':=Bb os[i]) (xj2 a2.i) fun d5 e8 dj cj I dk=> ?_)
    have g:=g.ga I
    have a:=a.ga I
    have f:=f.ga I
    have j:=j.ga I
    have l:=l.ga I
    have A:=A.ga I
    have p:=p.gb I
    have t:=t.ga I
    have n:=n.gb I
    have ck:=t
    have ax:=t.own
    refine wl (xh gc rfl 73 192 rfl rfl rfl zd t (Src.slice (m:=1) ⟨gt a2.i,.inr ⟨d5,0,rfl,cj.ko⟩⟩ OneC.h) zm zn (n':=(fs++[os[i]]).length) (ys:=(fs++[os[i]]).flatMap Bb) zi (by rw[List.flatMap_append,List.flatMap_singleton];rfl) p fun q4 k4 e9 t O d6=> ?_)
    dsimp only at t O
    have g:=g.ke ax O (show(37:Nat)≠25 from by decide)
    have a:=a.ke ax O (show(37:Nat)≠121 from by decide)
    have f:=f.ke ax O (show(37:Nat)≠25 from by decide)
    have j:=j.ke ax O (show(37:Nat)≠121 from by decide)
    have l:=l.ke ax O (show(37:Nat)≠25 from by decide)
    have n:=n.newer O fun y hy=>Nat.le_trans ag (ck.new y hy)
    have A:=A.yx0 ck O zd
    have p:=d6
    refine j9 gc rfl ?_
    have ae:=l
    refine ky l rfl rfl rfl fun ea l P dl=> ?_
    have g:=g.gj P ap
    have a:=a.gj P aq
    have f:=f.gj P ar
    have j:=j.gj P au
    have A:=A.gj P ae ad zd
    have p:=p.gh P ad
    have t:=t.gj P ae zd
    have n:=n.gh P cf
    refine gm ?_
    exact jy (gz (h3,q4,k4,fs++[os[i]]) rfl ⟨⟨A,p,t,by rw[L,c3,if_neg zd,a9,List.map_append];rfl,bm.trans a1,bn,fun x hx=>(List.mem_append.1 hx).elim (a8 x) fun e=>by rw[List.mem_singleton.1 e];exact List.getElem_mem D,by rw[List.length_append];exact Nat.succ_le_succ ak⟩,g,a,f,j,l,n⟩)
   have c3:(zj8 h2.s.row os[i].1).1=true:=by simpa using Z
   refine j7 ?_
   exact jy (gz (h3,q,k,fs) rfl ⟨⟨A,p,t,by rw[L,c3,if_pos rfl,a9],bm.trans a1,bn,a8,Nat.le_succ_of_le ak⟩,g,a,f,j,l,n⟩)
  rintro⟨h3,q3,k3,d7⟩ eb ⟨⟨A,p,t,a0,a1,b9,a8,ak⟩,g,a,f,j,l,n⟩
  try dsimp only
  dsimp only at A p t a0 a1 b9 a8 ak j l
  refine yv rfl ?_
  rw[kg _ zo]
  refine gm ?_
  exact jn (i+1,h3,q3,k3,d7) rfl ⟨⟨D,A,p,t,a0,a1,b9,a8,ak⟩,g,a,f,j,l,n⟩ zf
 have h0:i=os.length:=by omega
 subst h0
 rw[show os.length=(os.map Prod.fst).length from(List.length_map ..).symm,List.take_length] at a0
 refine Bi (gk (qc rfl (jb g rfl rfl (jz rfl (gr ?_)))))
 refine jm (α:=Nat×u9) [4,5,7,8,48,49] rfl (fun z=>[(50,.int .i64 (z.1:Int))]) (fun z u=>(z.1≤ss.length∧zj4 W u (fun y=>H y∨W.heap.size≤y) z.2∧Ext No W u∧ku W u q fs.length k 37 73 (fs.flatMap Bb)∧Am h.s.vals ((ss.map Prod.fst).take z.1)=some z.2.s.vals∧z.2.hs=h2.hs∧z.2.vs.length≤h.vs.length+z.1)∧j0 u b3 25 ([.slice op os.length oc,.slice sp ss.length sc])∧j0 u b4 121 ([.slice none 0 0,.map none,.slice none 0 0])∧j0 u b5 25 ([.slice none 0 0,.slice none 0 0])∧j0 u b7 121 (z.2.c)∧j0 u b8 25 ([.slice q fs.length k,.slice sp ss.length sc])∧Ext No w u) (fun z u=>ss.length-z.1) (0,h2) rfl ⟨⟨Nat.zero_le _,A,p,t,by rw[u9.s,u9.s,a1];rfl,rfl,by rw[a1];exact Nat.le_refl _⟩,g,a,f,j,l,n⟩ ?_
 rintro⟨i,h3⟩ cl ⟨⟨bz,A,p,t,ay,c4,d8⟩,g,a,f,j,l,n⟩
 try dsimp only
 dsimp only at bz A p t ay c4 d8 j
 refine je rfl (gk (jl rfl (fun Z=> ?_) (fun Z=> ?_)))
 ·have D:i<ss.length:=by omega
  have av:i<(ss.map Prod.fst).length:=by rw[List.length_map];exact D
  have c0:(ss.map Prod.fst)[i]=ss[i].1:=List.getElem_map ..
  have L:=seS_step av ay
  rw[c0] at L
  have cm:Ad h3.s.vals:=(yj7 _ ay hri).1
  obtain⟨qb,qo,hp,c1⟩:=a4.ss.qm (fun x hx=>Cw x) zn
  dsimp only at hp
  subst hp
  refine xz (gr (qa (ki rfl 5 rfl i rfl D (qo+i*5) rfl (jr rfl ((c1 i D).ga p) rfl ?_))))
  have a5:=p
  refine gw rfl fun ec ed S af J=> ?_
  have bg:=j5 g.lt S
  have bh:=j5 a.lt S
  have bi:=j5 f.lt S
  have bj:=j5 j.lt S
  have bk:=j5 l.lt S
  have cn:=Nat.le_trans n.size S
  have g:=g.ga J
  have a:=a.ga J
  have f:=f.ga J
  have j:=j.ga J
  have l:=l.ga J
  have A:=A.ga J
  have p:=p.gb J
  have t:=t.ga J
  have n:=n.gb J
  have az:=Nat.le_trans a5.size S
  have b0:=af
  refine wl (j8 (l':=x8 ss[i]) gc af rfl rfl rfl rfl OneC.h fun d9 af K dm=> ?_)
  have g:=g.gj K bg
  have a:=a.gj K bh
  have f:=f.gj K bi
  have j:=j.gj K bj
  have l:=l.gj K bk
  have A:=A.gj K b0 az zd
  have p:=p.gh K az
  have t:=t.gj K b0 zd
  have n:=n.gh K cn
  refine qr (qa (jh af rfl rfl ?_))
  refine gi call142 rfl (sets_calls d9 j A p zo (a4.s _ (List.getElem_mem D)) (hok.2.2.2.1 _ (List.mem_map_of_mem (List.getElem_mem D))) cm ac) fun ee ef co=> ?_
  obtain⟨h4,rfl,j,da,cp,b1,dn,T⟩:=co
  have g:=g.brg T zd
  have f:=f.brg T zd
  have l:=l.brg T zd
  have a:=a.ext T fun e=>by have:=e.1;omega
  have t:=ku.mk (t.own.brg T zd) t.new
  have p:=p.newer T fun y e=>e.1
  have n:=n.newer T fun y e=>Nat.le_trans ag e.1
  have A:=da
  refine jz rfl (je rfl (jl rfl (fun Z=> ?_) (fun Z=> ?_)))
  ·have cq:¬xw8 h3.s.vals ss[i].1:=fun k=>Z (if_pos k)
   rw[if_neg cq] at L
   have Q:=after_no2 (b:=⟨(os.map Prod.fst),(ss.map Prod.fst)⟩) a0 (bringS_stop av L)
   refine qa (qg rfl trivial (l':=[.slice none 0 0,.map none,.slice none 0 0]) rfl (qg rfl trivial (l':=[.slice none 0 0,.slice none 0 0]) rfl (j9 gc rfl ?_)))
   refine wl (j8 (l':=[.slice none 0 0,.map none,.slice none 0 0]) gc a rfl rfl rfl rfl OneC.h fun eg a bq dp=> ?_)
   have f:=f.gj bq C.symm
   have n:=n.gh bq al
   refine wl (j8 (l':=[.slice none 0 0,.slice none 0 0]) gc f rfl rfl rfl rfl OneC.h fun eh f br dq=> ?_)
   have a:=a.gj br C
   have n:=n.gh br am
   refine jz rfl (gq (ji (gp (gp (ji (gp (qz [_,_,_] ⟨⟨b4,0,rfl,u0 gc rfl rfl a.ko rfl⟩,⟨b5,0,rfl,u0 gc rfl rfl f.ko rfl⟩,rfl,trivial⟩ ?_)))))))
   have db:(if xw8 h3.s.vals (ss.get ⟨i,D⟩).1 then(0:Int) else 200)=200:=if_neg cq
   exact⟨hasZ,yh,by rw[db,←Q];rfl,BrgQ.no zd Q,n⟩
  have cr:xw8 h3.s.vals ss[i].1:=Classical.byContradiction fun k=>Z (fun e=>by have e2:(if xw8 h3.s.vals (ss.get ⟨i,D⟩).1 then(0:Int) else 200)=200:=if_neg k;rw[e2] at e;cases e)
  rw[if_pos cr] at L
  have b1:h4.s.vals=yx5 h3.s.vals ss[i].1:=b1.trans (if_pos cr)
  refine j7 (Bo rfl ?_)
  rw[kg _ zo]
  refine gm ?_
  exact jn (i+1,h4) rfl ⟨⟨D,A,p,t,by rw[L,b1],cp.trans c4,(by show h4.vs.length≤h.vs.length+(i+1);omega)⟩,g,a,f,j,l,n⟩ zf
 have h0:i=ss.length:=by omega
 subst h0
 rw[show ss.length=(ss.map Prod.fst).length from(List.length_map ..).symm,List.take_length] at ay
 have Q:=after_three (b:=⟨(os.map Prod.fst),(ss.map Prod.fst)⟩) a0 ay
 refine Bi (gk (qc rfl (jb j rfl rfl (jz rfl (jl rfl (fun Z=> ?_) (fun Z=> ?_))))))
 ·have c5:128<(h3.s.vals).length:=by rw[u9.s,List.length_map];omega
  rw[if_pos c5] at Q
  refine qa (qg rfl trivial (l':=[.slice none 0 0,.map none,.slice none 0 0]) rfl (qg rfl trivial (l':=[.slice none 0 0,.slice none 0 0]) rfl ?_))
  refine wl (j8 (l':=[.slice none 0 0,.map none,.slice none 0 0]) gc a rfl rfl rfl rfl OneC.h fun ei a bs dr=> ?_)
  have f:=f.gj bs C.symm
  have n:=n.gh bs al
  refine wl (j8 (l':=[.slice none 0 0,.slice none 0 0]) gc f rfl rfl rfl rfl OneC.h fun ej f bt ds=> ?_)
  have a:=a.gj bt C
  have n:=n.gh bt am
  refine jz rfl (gq (gp (qz [_,_,_] ⟨⟨b4,0,rfl,u0 gc rfl rfl a.ko rfl⟩,⟨b5,0,rfl,u0 gc rfl rfl f.ko rfl⟩,rfl,trivial⟩ ?_)))
  have V:=congrArg (fun x=>x.2.2) Q
  dsimp only at V
  exact⟨hasZ,yh,by rw[←V];rfl,BrgQ.no zd V,n⟩
 have c5:¬128<(h3.s.vals).length:=by rw[u9.s,List.length_map];omega
 rw[if_neg c5] at Q
 have dc:∃r,h3.m=some r:=A.map.imp fun _ e=>e.1
 have aa:=A.hasLt p.size
 have ab:=Nat.le_refl cl.heap.size
 have nF:∀b,b<W.heap.size→w.heap.size≤b→∀y,((H y∨W.heap.size≤y)∧y<cl.heap.size)→¬One b y:=fun b h1 h2 y hy e=>by
  have e:y=b:=e
  rcases hy.1 with hy|hy
  ·have:=hH y hy;omega
  omega
 have n4:=nF b4 cb al
 have n5:=nF b5 cc am
 refine xz (js rfl 3 [qP 0,qP 1,(2,false)] [3,4] (fun x=>x=b4∨x=b5) zk fun dd U dt=> ?_)
 have de:=j
 have df:=l
 have a:=a.ga U
 have f:=f.ga U
 have t:=t.ga U
 have aa:=aa.ga U
 have ab:=Nat.le_trans ab U.size
 have n:=n.gb U
 have hC:Ext (fun x=>x=b4∨x=b5) _ dd:=U.no
 refine qf gc rfl rfl (fun w' c6=>(de.ext (show Ext (fun x=>x=b4∨x=b5) _ w' from c6) fun e=>by have e:_=_∨_=_:=e;omega).ko) rfl ?_
 refine qf gc rfl rfl (fun w' c6=>(df.ext (show Ext (fun x=>x=b4∨x=b5) _ w' from c6) fun e=>by have e:_=_∨_=_:=e;omega).ko) rfl ?_
 have cs:=a
 refine jg rfl (j8 (l':=h3.c) gc a rfl rfl rfl rfl OneC.h fun ek a X du=>⟨hC.then (X.mono fun _ _ e=>by have e:_=_:=e;show _=_∨_=_;omega),?_⟩)
 have f:=f.gj X C.symm
 have t:=t.gj X cs zd
 have aa:=aa.ext X n4
 have ab:=Nat.le_trans ab X.size
 have n:=n.gh X al
 refine jj ?_
 have ct:=f
 refine wb rfl (j8 (l':=[.slice q fs.length k,.slice sp ss.length sc]) gc f rfl rfl rfl rfl OneC.h fun el f a3 dv=> ?_)
 have a:=a.gj a3 C
 have t:=t.gj a3 ct zd
 have aa:=aa.ext a3 n5
 have ab:=Nat.le_trans ab a3.size
 have n:=n.gh a3 am
 refine wb rfl (Dg gc rfl rfl rfl (ja (j1 (gq (qz [_,_,_] ⟨⟨b4,0,rfl,u0 gc rfl rfl a.ko rfl⟩,⟨b5,0,rfl,u0 gc rfl rfl f.ko rfl⟩,rfl,trivial⟩ ?_)))))
 have V:=congrArg (fun x=>x.2.2) Q
 dsimp only at V
 have cu:(jt h.s ⟨(os.map Prod.fst),(ss.map Prod.fst)⟩).1=h3.s:=(congrArg (fun x=>x.1) Q).trans (by rw[u9.s,u9.s,c4])
 exact⟨h3,⟨q,k,fs,sp,sc,ss⟩,by rw[←V];rfl,⟨fun _=>⟨cu.symm,(congrArg (fun x=>x.2.1) Q).symm,dc⟩,aa.mono fun y e=>e.1.imp id fun e1=>⟨Nat.le_trans ag e1,Nat.lt_of_lt_of_le e.2 ab⟩,t.older ag,fun u' h ho=>⟨ho.sl,h.ss,fun x hx=>h.o x (a8 x hx),h.s,(by show fs.length<1000000;omega),h.ls⟩⟩,n⟩
theorem heldO {w:World} {b off:Nat} {h:qu} (hs:Seg w b off (Bg h)) (hid:h.id.length=32):Seg w b (off+32) (jw h.o h.a):=by
 have h:=(Seg.append.1 hs).2
 rw[gl,hid] at h;exact h
abbrev oxH (x:qu):yx3:=(x.o,x.a)
abbrev sxV (x:B7):Ce:=(⟨x.1.1,false,true,[],x.1.2⟩,⟨none,0,x.2.1,x.2.2⟩)
theorem yz2 {α β:Type} {f:α→β} {l:List α} {i:Nat} (hi:i<l.length):(l.take i).map f++[f l[i]]=(l.take (i+1)).map f:=by
 rw[List.take_succ_eq_append_getElem hi,List.map_append];rfl
theorem sall_calls (w:World) {H:Nat→Prop} {h:u9} (hx:x7 w H h):
  gn prog 61 [.agg h.c.toArray] w fun v w'=>∃B:uf,v=B.v∧B.d=Az h.s∧Ch w' B∧Ext No w w':=by
 have a9:=hx.few
 have aa:=hx.fev
 refine gx func61 ?_
 have e:=Ext.refl No w
 refine qa (gw rfl fun b1 w1 ap b ab=> ?_)
 have e:=e.gb ab
 have b:j0 w1 b1 121 (h.c):=b
 refine gw rfl fun b2 w2 a3 a a4=> ?_
 have G:=j5 b.lt a3
 have T:=Nat.le_trans e.size a3
 have b:=b.ga a4
 have e:=e.gb a4
 have a:j0 w2 b2 25 ([.slice none 0 0,.slice none 0 0]):=a
 refine qr (gk (qc rfl (jb b rfl rfl (jz rfl (gr ?_)))))
 refine jm (α:=Nat×Option Addr×Nat×List yx3) [1,2,8,9] rfl (fun z=>[(10,.int .i64 (z.1:Int))]) (fun z u=>(z.1≤h.hs.length∧ku w u z.2.1 z.2.2.2.length z.2.2.1 37 73 (z.2.2.2.flatMap Bb)∧z.2.2.2=(h.hs.take z.1).map oxH)∧j0 u b1 121 (h.c)∧j0 u b2 25 ([.slice z.2.1 z.2.2.2.length z.2.2.1,.slice none 0 0])∧Ext No w u) (fun z u=>h.hs.length-z.1) (0,none,0,[]) rfl ⟨⟨Nat.zero_le _,ku.nil _ _ _ _,rfl⟩,b,a,e⟩ ?_
 rintro⟨i,q,k,M⟩ w3 ⟨⟨U,g,C⟩,b,a,e⟩
 try dsimp only
 dsimp only at U g C a
 refine je rfl (gk (jl rfl (fun hc=> ?_) (fun hc=> ?_)))
 ·have j:i<h.hs.length:=by omega
  have ac:M.length=i:=by rw[C,List.length_map,List.length_take];omega
  have p:=hx.o _ (List.getElem_mem j)
  have ad:h.hs[i].id.length=32:=by rw[p.id];exact vg _
  obtain⟨qb,qo,hp,V⟩:=hx.row.qm hx.held zo
  rw[hp]
  refine xz (gr (qa (ki rfl 105 rfl i rfl j (qo+i*105) rfl (jr rfl ((V i j).ga e) (p.len) ?_))))
  have ae:=g
  refine gw rfl fun b4 w4 N O P=> ?_
  have W:=j5 b.lt N
  have X:=j5 a.lt N
  have af:=Nat.le_trans e.size N
  have b:=b.ga P
  have a:=a.ga P
  have g:=g.ga P
  have e:=e.gb P
  have aq:∀y,jd q y→y≠b4:=fun y hy=>j5 (ae.own.lt hy) N
  have a5:=O
  refine wl (j8 (l':=Bg h.hs[i]) gc O rfl rfl (p.len) (by rw[p.len];rfl) OneC.h fun w5 O Q ar=> ?_)
  have b:=b.gj Q W
  have a:=a.gj Q X
  have g:=g.gj Q a5 zd
  have e:=e.gh Q af
  refine qr (yv rfl (jb a rfl rfl (j9 gc rfl (jr rfl (heldO O.ko ad) (gt p.ok.1) ?_))))
  refine wl (qd gc rfl 73 rfl objZc (gt qw) zd zd ⟨⟨by rw[ju];exact gt p.ok.1,by decide⟩,trivial⟩ (l':=Bb (oxH h.hs[i])) (xj2 p.ok.1) fun ag w6 aj a6 R au=> ?_)
  have b:=b.ga R
  have a:=a.ga R
  have g:=g.ga R
  have e:=e.gb R
  have a7:=g.own
  refine wl (xh gc rfl 73 192 rfl rfl rfl zd g (Src.slice (m:=1) ⟨gt p.ok.1,.inr ⟨ag,0,rfl,a6.ko⟩⟩ OneC.h) zm zn (n':=(M++[oxH h.hs[i]]).length) (ys:=(M++[oxH h.hs[i]]).flatMap Bb) zi (by rw[List.flatMap_append,List.flatMap_singleton];rfl) e fun q4 k4 w7 g Y e=> ?_)
  dsimp only at g Y
  have b:=b.ke a7 Y (show(37:Nat)≠121 from by decide)
  have a:=a.ke a7 Y (show(37:Nat)≠25 from by decide)
  refine j9 gc rfl ?_
  have n:=a
  refine ky a rfl rfl rfl fun w8 a Z av=> ?_
  have b:=b.gj Z G
  have g:=g.gj Z n zd
  have e:=e.gh Z T
  refine gm (Bo rfl ?_)
  rw[kg _ zo]
  refine gm ?_
  exact jn (i+1,q4,k4,M++[oxH h.hs[i]]) rfl ⟨⟨j,g,by rw[C,yz2 j]⟩,b,a,e⟩ zf
 have h0:i=h.hs.length:=by omega
 subst h0
 rw[List.take_length] at C
 refine Bi (gk (qc rfl (jb b rfl rfl (jz rfl (gr ?_)))))
 refine jm (α:=Nat×Option Addr×Nat×List Ce) [2,23,24] rfl (fun z=>[(25,.int .i64 (z.1:Int))]) (fun z u=>(z.1≤h.vs.length∧ku w u q M.length k 37 73 (M.flatMap Bb)∧ku w u z.2.1 z.2.2.2.length z.2.2.1 91 5 (z.2.2.2.flatMap x8)∧z.2.2.2=(h.vs.take z.1).map sxV)∧j0 u b1 121 (h.c)∧j0 u b2 25 ([.slice q M.length k,.slice z.2.1 z.2.2.2.length z.2.2.1])∧Ext No w u) (fun z u=>h.vs.length-z.1) (0,none,0,[]) rfl ⟨⟨Nat.zero_le _,g,ku.nil _ _ _ _,rfl⟩,b,a,e⟩ ?_
 rintro⟨i,q2,k2,ss⟩ w9 ⟨⟨U,g,f,D⟩,b,a,e⟩
 try dsimp only
 dsimp only at U g f D a
 refine je rfl (gk (jl rfl (fun hc=> ?_) (fun hc=> ?_)))
 ·have j:i<h.vs.length:=by omega
  have ac:ss.length=i:=by rw[D,List.length_map,List.length_take];omega
  have aw:=hx.v _ (List.getElem_mem j)
  obtain⟨qb,qo,hp,V⟩:=hx.vals.qm (fun x _=>Ar x) zo
  rw[hp]
  refine xz (gr (qa (ki rfl 2 rfl i rfl j (qo+i*2) rfl (jr rfl ((V i j).ga e) rfl (gw rfl fun b6 ax a0 I r=> ?_)))))
  have a1:=j5 b.lt a0
  have a2:=j5 a.lt a0
  have ah:=Nat.le_trans e.size a0
  have b:=b.ga r
  have a:=a.ga r
  have g:=g.ga r
  have f:=f.ga r
  have e:=e.gb r
  have S:=I
  refine wl (j8 (l':=x1 h.vs[i]) gc I rfl rfl rfl rfl OneC.h fun ay I t ak=> ?_)
  have b:=b.gj t a1
  have a:=a.gj t a2
  have g:=g.gj t S zd
  have f:=f.gj t S zd
  have e:=e.gh t ah
  refine qr (yv rfl (jb a rfl rfl (j9 gc rfl (jb I rfl rfl (j9 gc rfl (jb I rfl rfl ?_))))))
  refine qg rfl ⟨⟨rfl,by decide⟩,⟨rfl,by decide⟩,⟨rfl,by decide⟩,trivial⟩ (l':=x8 (sxV h.vs[i])) rfl ?_
  refine wl (qd gc rfl 5 rfl setZc rfl zd zd ⟨⟨rfl,by decide⟩,trivial⟩ (l':=x8 (sxV h.vs[i])) (set_put _) fun ai az al a8 A am=> ?_)
  have b:=b.ga A
  have a:=a.ga A
  have g:=g.ga A
  have f:=f.ga A
  have e:=e.gb A
  have J:=f.own
  refine wl (xh gc rfl 5 72 rfl rfl rfl zd f (Src.slice (m:=1) ⟨rfl,.inr ⟨ai,0,rfl,a8.ko⟩⟩ OneC.h) zm zn (n':=(ss++[sxV h.vs[i]]).length) (ys:=(ss++[sxV h.vs[i]]).flatMap x8) zi (by rw[List.flatMap_append,List.flatMap_singleton]) e fun q4 k4 b0 f E e=> ?_)
  dsimp only at f E
  have b:=b.ke J E (show(91:Nat)≠121 from by decide)
  have a:=a.ke J E (show(91:Nat)≠25 from by decide)
  have g:=g.yx0 J E zd
  refine j9 gc rfl ?_
  have n:=a
  refine ky a rfl rfl rfl fun b3 a F an=> ?_
  have b:=b.gj F G
  have g:=g.gj F n zd
  have f:=f.gj F n zd
  have e:=e.gh F T
  refine gm (Bo rfl ?_)
  rw[kg _ zo]
  refine gm ?_
  exact jn (i+1,q4,k4,ss++[sxV h.vs[i]]) rfl ⟨⟨j,g,f,by rw[D,yz2 j]⟩,b,a,e⟩ zf
 have h0:i=h.vs.length:=by omega
 subst h0
 rw[List.take_length] at D
 refine Bi (qa (jh a rfl rfl ?_))
 have n:=a
 refine wl (j8 (l':=[.slice q M.length k,.slice q2 ss.length k2]) gc a rfl rfl rfl rfl OneC.h fun b5 a K ao=> ?_)
 have g:=g.gj K n zd
 have f:=f.gj K n zd
 have e:=e.gh K T
 refine qr (gq (qz [_] ⟨⟨b2,0,rfl,u0 gc rfl rfl a.ko rfl⟩,trivial⟩ ?_))
 exact⟨⟨q,k,M,q2,k2,ss⟩,rfl,by rw[uf.d,Az,u9.s,C,D,List.map_map,List.map_map,List.map_map];rfl,⟨g.sl,f.sl,fun x L=>(by rw[C] at L;obtain⟨y,hy,rfl⟩:=List.mem_map.1 L;have ho:=hx.o y hy;exact⟨ho.ok.1,ho.ok.2,ho.l.ga e⟩),fun x L=>(by rw[D] at L;obtain⟨y,hy,rfl⟩:=List.mem_map.1 L;have ho:=hx.v y hy;exact⟨Sl.nil _ _ _,ho.s.ga e,ho.ln,(by show(0:Nat)<_;omega),ho.lo⟩),(by rw[C];show(List.map _ _).length<_;rw[List.length_map];exact a9),(by rw[D];show(List.map _ _).length<_;rw[List.length_map];exact aa)⟩,e⟩
theorem readB_two (l:Bytes):((uc l).2=0∧yn (uc l).1∧qi (uc l).1=l)∨((uc l).2≠0∧(uc l).1=zq0):=by
 unfold uc
 split
 ·exact .inr ⟨by decide,rfl⟩
 split
 ·rename_i h;exact .inl ⟨rfl,h.2⟩
 exact .inr ⟨by decide,rfl⟩
theorem readB_may {l:Bytes} (h:(uc l).2=0):yn (uc l).1:=(readB_two l).elim (fun e=>e.2.1) fun e=>absurd h e.1
theorem zq8 {H:Nat→Prop} {v u:World} {b:Nat} (hb:u.heap.size≤b) (hH:∀y,H y→y<v.heap.size) (hv:v.heap.size≤u.heap.size):∀y,Grow H v u y→¬One b y:=fun y hy e=>by
 have e:y=b:=e
 rcases hy with hy|hy
 ·have:=hH y hy;omega
 omega
theorem Db {H:Nat→Prop} {w v u:World} {b:Nat} (hb:b<v.heap.size) (hw:w.heap.size≤b) (hH:∀y,H y→y<w.heap.size):∀y,Grow H v u y→¬One b y:=fun y hy e=>by
 have e:y=b:=e
 rcases hy with hy|hy
 ·have:=hH y hy;omega
 omega
theorem said_yes {s:Dj} {l:Bytes} {F B:uf} (h0:(uc l).2=0) (hB:B.d=(uc l).1) (h1:(jt s (uc l).1).2.2=0) (hF:F.d=(jt s (uc l).1).2.1):decide ((F.os.length:Int)=(B.os.length:Int))=(ux s l).isSome:=by
 have a:F.os.length=(jt s (uc l).1).2.1.objs.length:=by rw[←hF,uf.d,List.length_map]
 have b:B.os.length=(uc l).1.objs.length:=by rw[←hB,uf.d,List.length_map]
 unfold ux
 rw[a,b]
 by_cases k:(jt s (uc l).1).2.1.objs.length=(uc l).1.objs.length
 ·rw[if_pos ⟨h0,h1,k⟩,decide_eq_true (by rw[k])];rfl
 rw[if_neg fun e=>k e.2.2,decide_eq_false zo];rfl
theorem said_no {s:Dj} {l:Bytes} (h1:(jt s (uc l).1).2.2≠0):false=(ux s l).isSome:=by
 rw[ux,if_neg fun e=>h1 e.2.1];rfl
theorem said_some {s t:Dj} {l:Bytes} (h:ux s l=some t):(uc l).2=0∧(jt s (uc l).1).2.2=0∧t=(jt s (uc l).1).1:=by
 unfold ux at h
 split at h
 ·rename_i k;cases h;exact⟨k.1,k.2.1,rfl⟩
 cases h
theorem said_calls (w:World) {H:Nat→Prop} {h:u9} (hx:x7 w H h) (hH:∀y,H y→y<w.heap.size) (hri:Ad h.s.vals) {p:Option Addr} {c:Nat} {l:Bytes} (hs:vt w p l) (hl:l.length<1000000000) (hro:h.hs.length+5000<1000000) (hrv:h.vs.length+200<1000000) (hr:Rt w):
  gn prog 60 [.agg h.c.toArray,.slice p l.length c] w fun v w'=>∃h':u9,v= .tuple #[.agg h'.c.toArray,.bool (ux h.s l).isSome]∧(∀s,ux h.s l=some s→h'.s=s∧∃r,h'.m=some r)∧x7 w' (Grow H w w') h'∧Ext No w w':=by
 refine gx func60 ?_
 have g:=Ext.refl No w
 refine qa (gw rfl fun b2 w1 b1 b ai=> ?_)
 have g:=g.gb ai
 have b:j0 w1 b2 121 (h.c):=b
 refine gw rfl fun K w2 aa a ab=> ?_
 have O:=j5 b.lt aa
 have U:=Nat.le_trans g.size aa
 have b:=b.ga ab
 have g:=g.gb ab
 have a:j0 w2 K 121 ([.slice none 0 0,.map none,.slice none 0 0]):=a
 refine jz rfl (qc rfl (gi call36 rfl (Ap w2 (hs.ga g) hl) fun v3 w3 aj=> ?_))
 obtain⟨B,rfl,a0,P,a1⟩:=aj
 have b:=b.ga a1
 have a:=a.ga a1
 have g:=g.gb a1
 refine j9 gc rfl (gw rfl fun b6 w4 a2 f V=> ?_)
 have a3:=j5 b.lt a2
 have A:=j5 a.lt a2
 have ak:=Nat.le_trans g.size a2
 have b:=b.ga V
 have a:=a.ga V
 have P:=P.ga V
 have g:=g.gb V
 have ac:=f
 refine wl (j8 (l':=B.c) gc f rfl rfl rfl rfl OneC.h fun w5 f W b3=> ?_)
 have b:=b.gj W a3
 have a:=a.gj W A
 have P:=P.extB W ac
 have g:=g.gh W ak
 refine jz rfl (gk (je rfl (jl rfl (fun hc=> ?_) (fun hc=> ?_))))
 ·refine gk ?_
  refine j4 (qg rfl trivial (l':=[.slice none 0 0,.map none,.slice none 0 0]) rfl (wl (j8 (l':=[.slice none 0 0,.map none,.slice none 0 0]) gc a rfl rfl rfl rfl OneC.h fun w6 a al b5=> ?_)))
  have g:=g.gh al U
  refine jz rfl (gq (gp (qz [_,_] ⟨⟨K,0,rfl,u0 gc rfl rfl a.ko rfl⟩,rfl,trivial⟩ ?_)))
  have ad:ux h.s l=none:=if_neg fun k=>hc k.1
  exact⟨hasZ,by rw[ad];rfl,fun s e=>(by rw[ad] at e;cases e),hasZ_at _ _,g⟩
 have ae:(uc l).2=0:=Decidable.not_not.1 hc
 have L:=readB_may ae
 rw[←a0] at L
 have a4:=L.1
 have a5:=L.2.1
 have a4:B.os.length≤4096:=by rw[uf.d,List.length_map] at a4;exact a4
 have a5:B.ss.length≤128:=by rw[uf.d,List.length_map] at a5;exact a5
 refine j7 (j1 (qa (jh b rfl rfl (jh f rfl rfl ?_))))
 have am:=a.lt
 have af:=g.size
 have ag:∀y,H y→y<w5.heap.size:=fun y hy=>Nat.lt_of_lt_of_le (hH y hy) g.size
 refine gi call64 rfl (z1 w5 (hx.ga g) (fun y hy=>Nat.lt_of_lt_of_le (hH y hy) g.size) P.at L hri zo zo (hr.ext g id)) fun v7 w7 an=> ?_
 obtain⟨h2,F,rfl,hQ,Q⟩:=an
 have b:=b.ga Q
 have a:=a.ga Q
 have f:=f.ga Q
 have g:=g.gb Q
 have I:=hQ.has
 have ah:=Q.size
 have n4:=Db (u:=w7) am U hH
 have X:=hQ.eq
 rw[a0] at X⊢
 have i:=Nat.le_refl w7.heap.size
 refine j9 gc rfl (gw rfl fun b8 w8 R j M=> ?_)
 have a6:=j5 b.lt R
 have C:=j5 a.lt R
 have a7:=j5 f.lt R
 have ao:=Nat.le_trans g.size R
 have Y:=Nat.le_trans i R
 have b:=b.ga M
 have a:=a.ga M
 have f:=f.ga M
 have I:=I.ga M
 have i:=Nat.le_trans i M.size
 have g:=g.gb M
 refine gw rfl fun b9 w9 N n J=> ?_
 have a8:=j5 b.lt N
 have D:=j5 a.lt N
 have a9:=j5 f.lt N
 have S:=j5 j.lt N
 have ap:=Nat.le_trans g.size N
 have Z:=Nat.le_trans i N
 have b:=b.ga J
 have a:=a.ga J
 have f:=f.ga J
 have j:=j.ga J
 have I:=I.ga J
 have i:=Nat.le_trans i J.size
 have g:=g.gb J
 refine wl (j8 (l':=h2.c) gc j rfl rfl rfl rfl OneC.h fun b7 j E aw=> ?_)
 have b:=b.gj E a6
 have a:=a.gj E C
 have f:=f.gj E a7
 have n:=n.gj E S.symm
 have I:=I.ext E (zq8 Y ag ah)
 have i:=Nat.le_trans i E.size
 have g:=g.gh E ao
 refine wl (j8 (l':=F.c) gc n rfl rfl rfl rfl OneC.h fun ba n G ax=> ?_)
 have b:=b.gj G a8
 have a:=a.gj G D
 have f:=f.gj G a9
 have j:=j.gj G S
 have I:=I.ext G (zq8 Z ag ah)
 have i:=Nat.le_trans i G.size
 have g:=g.gh G ap
 refine jz rfl ?_
 refine jv (α:=Bool) [4] rfl (fun z=>[(5,.bool z)]) (fun z u=>(z=(ux h.s l).isSome∧x7 u (Grow H w u) h2)∧j0 u b2 121 (h.c)∧j0 u K 121 (h2.c)∧j0 u b6 25 (B.c)∧j0 u b8 121 (h2.c)∧j0 u b9 25 (F.c)∧Ext No w u) ?_ ?_
 ·refine js rfl 13 [qP 0,qP 1,qP 2,qP 3,qP 4,qP 5,qP 6,qP 7,qP 8,qP 9,qP 10,qP 11,(12,false)] [13] ((fun x=>x=K∨x=K)) zk fun aq o ay=> ?_
  have ar:=f
  have au:=j
  have av:=n
  have b:=b.ga o
  have a:=a.ga o
  have f:=f.ga o
  have j:=j.ga o
  have n:=n.ga o
  have I:=I.ga o
  have i:=Nat.le_trans i o.size
  have g:=g.gb o
  have hC:Ext ((fun x=>x=K∨x=K)) _ aq:=o.no
  refine qf gc rfl rfl (fun w' T=>(au.ext (show Ext (fun x=>x=K∨x=K) _ w' from T) fun e=>e.elim C.symm C.symm).ko) rfl ?_
  refine gv gc 3 rfl (Ax 28 rfl (fun hg=> ?_) (fun hg=> ?_))
  ·refine gv gc 1 rfl ?_
   refine j6 gc rfl rfl (fun w' T=>((av.ext (show Ext (fun x=>x=K∨x=K) _ w' from T) fun e=>e.elim D.symm D.symm).cell rfl)) ?_
   refine gv gc 2 rfl (j6 gc rfl rfl (fun w' T=>((ar.ext (show Ext (fun x=>x=K∨x=K) _ w' from T) fun e=>e.elim A.symm A.symm).cell rfl)) ?_)
   refine gv gc 3 rfl (jg rfl (j8 (l':=h2.c) gc a rfl rfl rfl rfl OneC.h fun bb a q az=>⟨hC.then (q.mono fun _ _ e=>by have e:_=_:=e;show _=_∨_=_;omega),?_⟩))
   have b:=b.gj q O
   have f:=f.gj q A.symm
   have j:=j.gj q C.symm
   have n:=n.gj q D.symm
   have I:=I.ext q n4
   have i:=Nat.le_trans i q.size
   have g:=g.gh q U
   refine jj (wb rfl (Dg gc rfl rfl rfl (ja ?_)))
   exact gz (decide ((F.os.length:Int)=(B.os.length:Int))) rfl ⟨⟨said_yes ae a0 hg (X hg).2.1,I.mono fun y hy=>Grow.wide af i hy⟩,b,a,f,j,n,g⟩
  refine gv gc 8 rfl ?_
  refine jg rfl (j8 (l':=h2.c) gc a rfl rfl rfl rfl OneC.h fun bc a t b0=>⟨hC.then (t.mono fun _ _ e=>by have e:_=_:=e;show _=_∨_=_;omega),?_⟩)
  have b:=b.gj t O
  have f:=f.gj t A.symm
  have j:=j.gj t C.symm
  have n:=n.gj t D.symm
  have I:=I.ext t n4
  have i:=Nat.le_trans i t.size
  have g:=g.gh t U
  refine jj (wb rfl (Dg gc rfl rfl rfl (ja ?_)))
  exact gz (false) rfl ⟨⟨said_no hg,I.mono fun y hy=>Grow.wide af i hy⟩,b,a,f,j,n,g⟩
 rintro z bd ⟨⟨hz,I⟩,b,a,f,j,n,g⟩
 refine gq (qz [_,_] ⟨⟨K,0,rfl,u0 gc rfl rfl a.ko rfl⟩,rfl,trivial⟩ ?_)
 exact⟨h2,by rw[hz];rfl,fun s e=>by obtain⟨_,e1,rfl⟩:=said_some e;exact⟨(X e1).1,(X e1).2.2⟩,I,g⟩
def StB (F H K:Nat→Prop) (sp:Nat):Nat→Prop:=fun y=>F y∨H y∨K y∨y=sp
structure StA (u:World) (sp x d:Nat) (F H K:Nat→Prop) (X:Sd) (h:u9):Prop where
  box:j0 u sp 123 (.pointer (some ⟨x,0,none⟩)::h.c)
  disk:At u d F X.W.D
  log:xi u x d H X.W
  has:x7 u K h
  eq:h.s=X.s
  mp:∃r,h.m=some r
  hf:∀y,H y→¬F y
  kf:∀y,K y→¬F y∧¬H y
  sf:¬F sp∧¬H sp∧¬K sp
  klt:∀y,K y→y<u.heap.size
theorem StA.ext {S:Nat→Prop} {u u':World} {sp x d:Nat} {F H K:Nat→Prop} {X:Sd} {h:u9} (k:StA u sp x d F H K X h) (hE:Ext S u u') (hS:∀y,StB F H K sp y→¬S y):StA u' sp x d F H K X h:=
 ⟨k.box.ext hE (hS _ (.inr (.inr (.inr rfl)))),k.disk.ext hE fun y hy=>hS y (.inl hy),k.log.ext hE fun y hy=>hS y (.inr (.inl hy)),k.has.ext hE fun y hy=>hS y (.inr (.inr (.inl hy))),k.eq,k.mp,k.hf,k.kf,k.sf,fun y hy=>Nat.lt_of_lt_of_le (k.klt y hy) hE.size⟩
theorem StA.ga {u u':World} {sp x d:Nat} {F H K:Nat→Prop} {X:Sd} {h:u9} (k:StA u sp x d F H K X h) (hE:Ext No u u'):StA u' sp x d F H K X h:=k.ext hE fun _ _=>id
theorem StA.lt {u:World} {sp x d:Nat} {F H K:Nat→Prop} {X:Sd} {h:u9} (k:StA u sp x d F H K X h):∀y,StB F H K sp y→y<u.heap.size:=fun y hy=>by
 rcases hy with hy|hy|hy|rfl
 ·exact k.disk.lt y hy
 ·exact k.log.lt y hy
 ·exact k.klt y hy
 exact k.box.lt
def StNew (w w':World) (d:Nat) (F':Nat→Prop) (so:Option Addr) (X:Sd):Prop:=∃sp x H K h,so=some ⟨sp,0,none⟩∧StA w' sp x d F' H K X h∧∀y,(H y∨K y∨y=sp)→w.heap.size≤y
theorem sformat_calls (w:World) {d m:Nat} {F:Nat→Prop} {D:kj} (h:At w d F D) (hok:D.Ok m) (hm:m+7000<1000000000) (area:Int) (har: -9223372036854775808≤area∧area<9223372036854775808) (hr:Rt w) (hF0:¬F 0):
  gn prog 13 [.pointer (some ⟨d,0,none⟩),.int .i64 area] w fun v w'=>∃(so:Option Addr) (F':Nat→Prop),v= .tuple #[.pointer so,.int .i64 (ve D area).2]∧At w' d F' (ve D area).1∧Ext F w w'∧(∀y,F' y→F y∨w.heap.size≤y)∧((ve D area).2≠0→so=none)∧((ve D area).2=0→StNew w w' d F' so ⟨Wl.fresh (ve D area).1 area.toNat,yx4⟩):=by
 refine gx func13 ?_
 have k:=Ext.refl F w
 refine je rfl (qc rfl (gi call23 rfl (format_calls w h hok hm area har hr hF0) fun V N A=> ?_))
 obtain⟨W,O,rfl,l,B,o,Q,p⟩:=A
 have k:=k.then B
 refine jz rfl (gk (je rfl (jl rfl (fun C=> ?_) (fun C=> ?_))))
 ·refine gk ?_
  refine j4 (jz rfl (gq (gp (qz [_,_] ⟨rfl,rfl,trivial⟩ ?_))))
  exact⟨none,O,rfl,l,k,o,fun _=>rfl,fun e=>absurd e C⟩
 have E:(ve D area).2=0:=Decidable.not_not.1 C
 obtain⟨x,H,rfl,a,q⟩:=p E
 refine j7 (j1 (qc rfl (qg rfl trivial (l':=hasZ.c) rfl ?_)))
 have G:=k.size
 have r:=a.lt
 have t:=l.lt
 have R:=l
 refine gi call57 rfl (xz8 N (hasZ_at N fun _=>False) (fun _ e=>e.elim)) fun X S I=> ?_
 obtain⟨J,rfl,K,L,P,f⟩:=I
 have l:=l.ga f
 have a:=a.ga f
 have k:=k.gb f
 have M:=P.hasLt f.size
 have T:=f.size
 have g:=Nat.le_refl S.heap.size
 refine qg rfl ⟨⟨rfl,by decide⟩,⟨rfl,by decide⟩,trivial⟩ (l':=(.pointer (some ⟨x,0,none⟩)::J.c)) rfl (gw rfl fun n U u i j=> ?_)
 have z:=Nat.le_trans k.size u
 have l:=l.ga j
 have a:=a.ga j
 have M:=M.ga j
 have g:=Nat.le_trans g j.size
 have k:=k.gb j
 have i:j0 U n 123 ((.pointer (some ⟨x,0,none⟩)::J.c)):=i
 refine jz rfl (gq (qz [_,_] ⟨rfl,rfl,trivial⟩ ?_))
 refine⟨_,O,by rw[E];rfl,l,k,o,fun e=>absurd E e,fun _=>⟨n,x,H,_,J,rfl,⟨i,l,a,M,by rw[u9.s,K,L];rfl,P.map.imp fun _ e=>e.1,fun y b=>(q y b).2,fun y b=>⟨fun e=> ?_,fun e=> ?_⟩,⟨fun e=> ?_,fun e=> ?_,fun e=> ?_⟩,fun y b=> ?_⟩,fun y b=> ?_⟩⟩
 ·have:=t y e;have:=b.1.elim (fun e=>e.elim) id;omega
 ·have:=r y e;have:=b.1.elim (fun e=>e.elim) id;omega
 ·have:=t n e;omega
 ·have:=r n e;omega
 ·have:=e.2;omega
 ·exact Nat.lt_of_lt_of_le b.2 g
 rcases b with b|b|rfl
 ·exact(q y b).1
 ·exact Nat.le_trans G (b.1.elim (fun e=>e.elim) id)
 exact z
theorem goes_calls (w:World) {sp x d:Nat} {F H K:Nat→Prop} {X:Sd} {h:u9} (k:StA w sp x d F H K X h):gn prog 54 [.pointer (some ⟨sp,0,none⟩)] w fun v w'=>v= .int .i64 (if X.W.broken=true then 8 else 0)∧Ext No w w':=by
 refine gx func54 ?_
 have a:=Ext.refl No w
 refine je rfl (gk (je rfl (ur rfl (xz (qc rfl (gy rfl (k.box.cell rfl) ?_))))))
 refine gi call69 rfl (broken_calls w k.log) fun f g b=> ?_
 obtain⟨rfl,c⟩:=b
 have a:=a.gb c
 refine qr (vj rfl (fun e=> ?_) (fun e=> ?_))
 ·refine gk ?_
  refine j4 (jz rfl (gq (gp (gu rfl rfl ?_))))
  exact⟨by rw[if_pos e],a⟩
 refine j7 ?_
 refine j1 (je rfl (gq (gu rfl rfl ?_)))
 exact⟨by rw[e];rfl,a⟩
theorem sget_calls (w:World) {sp x d:Nat} {F H K:Nat→Prop} {X:Sd} {h:u9} (k:StA w sp x d F H K X h) {id:IdB} (hid:vh id):
  gn prog 10 [.pointer (some ⟨sp,0,none⟩),.agg (ge id).toArray] w fun v w'=>∃o a,v= .tuple #[.agg (jw o a).toArray,.int .i64 (if id∈uv X.s.row then 0 else 4)]∧(id∈uv X.s.row→o∈X.s.row∧Ao o=id∧Cx o∧u6 w w' o a)∧(id∉uv X.s.row→o=ut∧a=noP)∧Ext No w w':=by
 have k0:=k
 have a7:=k.has
 obtain⟨rp,rc,p,m,vp,vc,C⟩:=h
 obtain⟨r,y⟩:=k.mp
 have y:m=some r:=y
 subst y
 have c:j0 w sp 123 [.pointer (some ⟨x,0,none⟩),.slice rp p.length rc,.map (some r),.slice vp C.length vc]:=k.box
 have a8:p.length<1000000:=k.has.few
 have a9:C.length<1000000:=k.has.fev
 have a6:u9.s ⟨rp,rc,p,some r,vp,vc,C⟩=⟨p.map qu.o,C.map Prod.fst⟩:=rfl
 have q:X.s.row=p.map qu.o:=by rw[←k.eq];rfl
 have aa:X.s.vals=C.map Prod.fst:=by rw[←k.eq];rfl
 have hM:MapB w r xz9 (placeOf (uv X.s.row)):=by
  rcases k.has.map with⟨Q,_⟩|⟨r',Q,h1⟩
  ·cases Q
  cases Q
  rw[q,←held_ids k.has.o];exact h1
 refine gx func10 ?_
 have f:=Ext.refl No w
 refine qa ?_
 have D:=c.lt
 refine gw rfl fun b3 w1 ab j E=> ?_
 have c:=c.ga E
 have f:=f.gb E
 have j:j0 w1 b3 30 (ge id):=j
 have D:=c.lt
 refine gw rfl fun R w2 S b z=> ?_
 have G:=Nat.le_trans f.size S
 have j:=j.ga z
 have c:=c.ga z
 have f:=f.gb z
 have n4:sp≠R:=by omega
 refine jz rfl (gk (je rfl (ur rfl (xz ?_))))
 refine js rfl 12 [qP 0,qP 1,qP 2,qP 3,qP 4,qP 5,qP 6,qP 7,qP 8,qP 9,qP 10,qP 11] [] (No) zk fun w3 A ac=> ?_
 have T:=j
 have I:=c
 have U:=f
 have b:=b.ga A
 have c:=c.ga A
 have f:=f.gb A
 refine gv gc 4 rfl (j6 gc rfl rfl (fun w' n=>((I.ga n).cell rfl)) ?_)
 refine qf gc rfl rfl (fun w' n=>(T.ga n).ko) hid.len ?_
 refine wd_lu gc rfl rfl idK hid rfl (hM.ga f) (fun w' n=>hM.ga (U.gb n)) ?_
 simp only[if_true]
 rw[xx9]
 refine gv gc 5 rfl (jj (ja (j1 (gk (je rfl (vj rfl (fun V=> ?_) (fun V=> ?_)))))))
 ·have J:id∉uv X.s.row:=by simpa using V
  refine qa (qg rfl trivial (l':=jw ut noP) objZc (wl (j8 (l':=jw ut noP) gc b rfl rfl (gt qw) (by rw[gt qw];rfl) OneC.h fun w4 b W ad=> ?_)))
  have f:=f.gh W G
  refine jz rfl (gq (gp (qz [_,_] ⟨⟨R,0,rfl,u0 gc rfl rfl b.ko (gt qw)⟩,rfl,trivial⟩ ?_)))
  exact⟨ut,noP,by rw[if_neg J];rfl,fun e=>absurd e J,fun _=>⟨rfl,rfl⟩,f⟩
 have t:id∈uv X.s.row:=by simpa using V
 have Y:placeOf (uv X.s.row) id=some ((uv X.s.row).idxOf id):=if_pos t
 rw[Y]
 obtain⟨i,Z⟩:∃i,i=(uv X.s.row).idxOf id:=⟨_,rfl⟩
 rw[←Z]
 have B:i<(uv X.s.row).length:=by rw[Z];exact List.idxOf_lt_length_of_mem t
 have a0:(uv X.s.row)[i]=id:=by subst Z;exact List.getElem_idxOf B
 have u:i<p.length:=by rw[q,uv,List.length_map,List.length_map] at B;exact B
 have a1:Ao p[i].o=id:=by rw[←a0];simp[uv,q]
 have g:=k.has.o _ (List.getElem_mem u)
 have L:p[i].id.length=32:=by rw[g.id];exact vg _
 obtain⟨qb,qo,hp,a3⟩:=k.has.row.qm k.has.held zn
 dsimp only at hp
 subst hp
 refine j7 (j1 (qc rfl (gy rfl (c.cell rfl) (j9 gc rfl (ki rfl 105 rfl i rfl u (qo+i*105) rfl (j9 gc rfl ?_))))))
 refine jr rfl (heldO ((a3 i u).ga f) L) (gt g.ok.1) ?_
 have a4:=f
 refine gi call52 rfl (sown_calls w3 g.ok.1 (g.l.ga f) g.ok.2) fun v5 w5 a5=> ?_
 obtain⟨a2,rfl,M,N⟩:=a5
 have b:=b.ga N
 have f:=f.gb N
 have M:=M.older (W0:=w) a4.size
 have O:=b
 refine wl (j8 (l':=jw p[i].o a2) gc b rfl rfl (gt g.ok.1) (by rw[gt g.ok.1];rfl) OneC.h fun w6 b P ae=> ?_)
 have M:=M.gj P O zd zd zd
 have f:=f.gh P G
 refine jz rfl (gq (qz [_,_] ⟨⟨R,0,rfl,u0 gc rfl rfl b.ko (gt g.ok.1)⟩,rfl,trivial⟩ ?_))
 exact⟨p[i].o,a2,by rw[if_pos t];rfl,fun _=>⟨by rw[q];exact List.mem_map_of_mem (List.getElem_mem u),a1,g.ok,M⟩,fun e=>absurd t e,f⟩
theorem svalue_calls (w:World) {sp x d:Nat} {F H K:Nat→Prop} {X:Sd} {h:u9} (k:StA w sp x d F H K X h) (hri:Ad X.s.vals) {n:Str}:
  gn prog 11 [.pointer (some ⟨sp,0,none⟩),xn n] w fun v w'=>∃q c b,v= .tuple #[.slice q b.length c,.bool (zz3 X.s.vals n).isSome]∧b=(zz3 X.s.vals n).getD []∧ku w w' q b.length c 5 1 (ge b)∧Ext No w w':=by
 have G:=k
 have Z:=k.has
 obtain⟨Q,R,A,m,S,T,a⟩:=h
 obtain⟨r,p⟩:=k.mp
 have p:m=some r:=p
 subst p
 have g:j0 w sp 123 [.pointer (some ⟨x,0,none⟩),.slice Q A.length R,.map (some r),.slice S a.length T]:=k.box
 have a0:A.length<1000000:=k.has.few
 have a1:a.length<1000000:=k.has.fev
 have U:u9.s ⟨Q,R,A,some r,S,T,a⟩=⟨A.map qu.o,a.map Prod.fst⟩:=rfl
 have a2:X.s.row=A.map qu.o:=by rw[←k.eq];rfl
 have t:X.s.vals=a.map Prod.fst:=by rw[←k.eq];rfl
 refine gx func11 ?_
 have f:=Ext.refl No w
 refine je rfl (gk (je rfl (ur rfl (j7 (j1 (qc rfl ?_))))))
 refine jr rfl ((Seg.append (l:=[.pointer (some ⟨x,0,none⟩)])).1 g.ko).2 rfl (j9 gc rfl ?_)
 refine gi call53 rfl (find_calls w rfl rfl (G.has.vals.ga f) zn (n:=n)) fun v1 w1 I=> ?_
 obtain⟨i,q,rfl,hF,B⟩:=I
 have g:=g.ga B
 have f:=f.gb B
 rw[t] at hri
 have j:=find_two hri hF
 refine jz rfl (gk (je rfl (vj rfl (fun C=> ?_) (fun C=> ?_))))
 ·have V:zz3 X.s.vals n=none:=by
   rw[t]
   rcases j with⟨e,_⟩|⟨_,e⟩
   ·rw[e] at C;cases C
   exact e
  refine je rfl (gq (gp (qz [_,_] ⟨rfl,rfl,trivial⟩ ?_)))
  exact⟨none,0,[],by rw[V];rfl,by rw[V];rfl,ku.nil _ _ _ _,f⟩
 obtain⟨D,u⟩:∃W:i<(a.map Prod.fst).length,zz3 X.s.vals n=some (a.map Prod.fst)[i].2:=by
  rw[t]
  rcases j with⟨_,W,_,e⟩|⟨e,_⟩
  ·exact⟨W,e⟩
  rw[e] at C;cases C
 have z:i<a.length:=by rw[List.length_map] at D;exact D
 have J:(a.map Prod.fst)[i]=a[i].1:=List.getElem_map ..
 rw[J] at u
 have E:=G.has.v _ (List.getElem_mem z)
 obtain⟨qb,qo,Y,L⟩:=G.has.vals.qm (fun x _=>Ar x) zn
 dsimp only at Y
 subst Y
 refine j7 (j1 (qc rfl (gy rfl (g.cell rfl) (j9 gc rfl (ki rfl 2 rfl i rfl z (qo+i*2) rfl (j9 gc rfl (gy rfl (((L i z).ga f) 1 _ rfl) ?_)))))))
 have M:=f
 refine gi call35 rfl (xc w1 (E.s.ga f) E.lo) fun v2 w2 N=> ?_
 obtain⟨q2,c2,rfl,ho,O,P⟩:=N
 have f:=f.gb P
 refine jz rfl (gq (qz [_,_] ⟨rfl,rfl,trivial⟩ ?_))
 exact⟨q2,c2,_,by rw[u];rfl,by rw[u];rfl,⟨ho,fun y hy=>Nat.le_trans M.size (O y hy)⟩,f⟩
abbrev nmV (v:A9):Value:=xn v.1
theorem _root_.Go.Vc.ku.not {W w:World} {p:Option Addr} {n c T sz:Nat} {xs:List Value} (h:ku W w p n c T sz xs) {b U:Nat} {L:List Value} (hb:j0 w b U L) (hT:T≠U):¬jd p b:=fun e=>by
 obtain⟨l,hl⟩:=h.own.Dk e
 exact hT (hl.uniq hb).2
theorem snames_calls (w:World) {sp x d:Nat} {F H K:Nat→Prop} {X:Sd} {h:u9} (k:StA w sp x d F H K X h):
  gn prog 18 [.pointer (some ⟨sp,0,none⟩)] w fun v w'=>∃q c,v= .slice q X.s.vals.length c∧ku w w' q X.s.vals.length c 9 1 (X.s.vals.map nmV)∧Ext No w w':=by
 have V:=k
 have W:=k.has
 obtain⟨O,P,l,m,Q,R,a⟩:=h
 obtain⟨r,j⟩:=k.mp
 have j:m=some r:=j
 subst j
 have C:j0 w sp 123 [.pointer (some ⟨x,0,none⟩),.slice O l.length P,.map (some r),.slice Q a.length R]:=k.box
 have Y:l.length<1000000:=k.has.few
 have Z:a.length<1000000:=k.has.fev
 have S:u9.s ⟨O,P,l,some r,Q,R,a⟩=⟨l.map qu.o,a.map Prod.fst⟩:=rfl
 have a0:X.s.row=l.map qu.o:=by rw[←k.eq];rfl
 have n:X.s.vals=a.map Prod.fst:=by rw[←k.eq];rfl
 refine gx func18 ?_
 have e:=Ext.refl No w
 refine je rfl (gk (je rfl (ur rfl (xz (qc rfl (gy rfl (C.cell rfl) (j9 gc rfl ?_)))))))
 refine qr (gr ?_)
 refine jm (α:=Nat×Option Addr×Nat) [11,12] rfl (fun z=>[(2,.slice z.2.1 z.1 z.2.2),(13,.int .i64 (z.1:Int))]) (fun z u=>(z.1≤a.length∧ku w u z.2.1 z.1 z.2.2 9 1 (((a.map Prod.fst).take z.1).map nmV))∧Ext No w u) (fun z u=>a.length-z.1) (0,none,0) rfl ⟨⟨Nat.zero_le _,ku.nil _ _ _ _⟩,e⟩ ?_
 rintro⟨i,q,c⟩ w1 ⟨⟨D,b⟩,e⟩
 try dsimp only
 dsimp only at D b
 refine je rfl (gk (jl rfl (fun hc=> ?_) (fun hc=> ?_)))
 ·have f:i<a.length:=by omega
  have E:i<(a.map Prod.fst).length:=by rw[List.length_map];exact f
  have G:(a.map Prod.fst)[i]=a[i].1:=List.getElem_map ..
  obtain⟨qb,qo,T,I⟩:=V.has.vals.qm (fun x _=>Ar x) zn
  dsimp only at T
  subst T
  refine xz (gr (qa (ki rfl 2 rfl i rfl f (qo+i*2) rfl (jr rfl ((I i f).ga e) rfl (gw rfl fun b4 w2 J g p=> ?_)))))
  have L:=Nat.le_trans e.size J
  have b:=b.ga p
  have e:=e.gb p
  have t:=g
  refine wl (j8 (l':=x1 a[i]) gc g rfl rfl rfl rfl OneC.h fun w3 g y a1=> ?_)
  have b:=b.gj y t zd
  have e:=e.gh y L
  refine qr (yv rfl (jb g rfl rfl (wl (qd gc rfl 1 rfl rfl rfl zd zd zt (l':=[xn a[i].1.1]) rfl fun M w4 U A B a2=> ?_))))
  have b:=b.ga B
  have e:=e.gb B
  have a3:=b.own
  refine wl (xh gc rfl 1 16 rfl rfl rfl zd b (Src.slice (m:=1) ⟨rfl,.inr ⟨M,0,rfl,A.ko⟩⟩ OneC.h) zm zn (n':=(i+1)) (ys:=(((a.map Prod.fst).take (i+1)).map nmV)) rfl (by rw[←yz2 E,G]) e fun q4 k4 w5 b N e=> ?_)
  dsimp only at b N
  refine j9 gc rfl (gm (Bo rfl ?_))
  rw[kg _ zo]
  refine gm ?_
  exact jn (i+1,q4,k4) rfl ⟨⟨f,b⟩,e⟩ zf
 have h0:i=a.length:=by omega
 subst h0
 refine Bi (je rfl (gq (gu rfl rfl ?_)))
 exact⟨q,c,by rw[n,List.length_map],by rw[n,List.length_map];rw[show a.length=(a.map Prod.fst).length from(List.length_map ..).symm,List.take_length] at b;rw[List.length_map] at b;exact b,e⟩
theorem rise_nodup {l:List A9} (h:Ad l):(l.map Prod.fst).Nodup:=by
 rw[List.Nodup,List.pairwise_map]
 exact h.imp fun e=>nLt_ne e
theorem all_may {s:Dj} (h:s.Ok):yn (Az s)↔s.row.length≤4096:=by
 refine⟨fun k=>k.1,fun k=>⟨k,?_,h.objs,?_,?_⟩⟩
 ·show(s.vals.map _).length≤128
  rw[List.length_map];exact h.few
 ·intro x a
  obtain⟨v,b,rfl⟩:=List.mem_map.1 a
  have:=h.vals v b
  exact⟨this.1,this.2.1,⟨Nat.zero_le _,.inr rfl⟩,this.2.2,.inl rfl⟩
 show((s.vals.map _).map xt.name).Nodup
 rw[List.map_map];exact rise_nodup h.rise
theorem codeE_lt (b:A2):(yg b).length<1000000000:=by
 unfold yg
 split
 ·rename_i h
  have h1:=yw4 h.2.2.1
  have h2:=setsB_len h.2.2.2
  have h3:=h.1
  have h4:=h.2.1
  simp only[qi,List.length_append,jp]
  omega
 decide
def StQ (w w':World) (sp x d:Nat) (F H K:Nat→Prop) (X:Sd) (h:u9) (r:Wl×Int):Prop:=
  ∃F' H':Nat→Prop,StA w' sp x d F' H' K ⟨r.1,X.s⟩ h∧(∀y,F' y→F y∨w.heap.size≤y)∧(∀y,H' y→H y∨w.heap.size≤y)∧Ext (fun y=>F y∨H y) w w'
theorem StA.logQ {w v w':World} {sp x d:Nat} {F H K F' H':Nat→Prop} {X:Sd} {h:u9} {W2:Wl} (k:StA v sp x d F H K X h) (hE0:Ext No w v) (hA:At w' d F' W2.D) (hL:xi w' x d H' W2) (hF:∀y,F' y→F y∨v.heap.size≤y) (hH:∀y,H' y→H y∨v.heap.size≤y) (hHF:∀y,H' y→¬F' y) (hE:Ext (fun y=>F y∨H y) v w') (e:Int):StQ w w' sp x d F H K X h (W2,e):=by
 have b:=k.box.lt
 refine⟨F',H',⟨k.box.ext hE fun e=>e.elim k.sf.1 k.sf.2.1,hA,hL,k.has.ext hE fun y a e=>e.elim (k.kf y a).1 (k.kf y a).2,k.eq,k.mp,hHF,fun y a=>⟨fun e=> ?_,fun e=> ?_⟩,⟨fun e=> ?_,fun e=> ?_,k.sf.2.2⟩,fun y a=>Nat.lt_of_lt_of_le (k.klt y a) hE.size⟩,fun y a=>(hF y a).imp id fun e=>Nat.le_trans hE0.size e,fun y a=>(hH y a).imp id fun e=>Nat.le_trans hE0.size e,hE0.no.then hE⟩
 ·have:=k.klt y a
  exact(hF y e).elim (k.kf y a).1 fun e=>by omega
 ·have:=k.klt y a
  exact(hH y e).elim (k.kf y a).2 fun e=>by omega
 ·exact(hF sp e).elim k.sf.1 fun e=>by omega
 exact(hH sp e).elim k.sf.2.1 fun e=>by omega
theorem _root_.Go.Vc.ku.Dk {W w:World} {p:Option Addr} {n c T sz:Nat} {xs:List Value} (h:ku W w p n c T sz xs) {y off:Nat} (e:p=some ⟨y,off,none⟩):W.heap.size≤y∧y<w.heap.size:=by
 have d:jd p y:=by
  rcases h.own with⟨a,_⟩|⟨b,l,a,_⟩
  ·rw[e] at a;cases a
  rw[e] at a;cases a;exact e
 exact⟨h.new y d,h.own.lt d⟩
theorem anew_no {X:Sd} {s:Dj} (hs:s.Ok) (h:¬yn (Az s)∨40000<(yg (Az s)).length):xq8 X s=(X,6):=by
 refine if_pos ?_
 by_cases k:yn (Az s)
 ·rw[yg,if_pos k] at h
  exact .inr (h.resolve_left fun e=>e k)
 rw[all_may hs] at k
 exact .inl zo
theorem anew_yes {X:Sd} {s:Dj} (hs:s.Ok) (h:¬(¬yn (Az s)∨40000<(yg (Az s)).length)):(xq8 X s).1.W=(X.W.x3 (yg (Az s))).1∧(xq8 X s).2=(X.W.x3 (yg (Az s))).2:=by
 have k:yn (Az s):=Classical.byContradiction fun k=>h (.inl k)
 have e:yg (Az s)=qi (Az s):=if_pos k
 rw[e] at h⊢
 have b:=(all_may hs).1 k
 have a:¬(4096<s.row.length∨40000<(qi (Az s)).length):=fun e=>e.elim (fun e=>by omega) fun e=>h (.inr e)
 unfold xq8
 rw[if_neg a]
 exact⟨rfl,rfl⟩
theorem sanew_calls (w:World) {sp x d m:Nat} {F H K:Nat→Prop} {X:Sd} {h:u9} (k:StA w sp x d F H K X h) (hok:X.W.D.Ok m) (hm:m+2000<1000000000) (hW:Wl.Ok X.W) (hr:Rt w) (hF0:¬F 0) {h2:u9} {K2:Nat→Prop} (hx2:x7 w K2 h2) (hn:h2.s.Ok):
  gn prog 56 [.pointer (some ⟨sp,0,none⟩),.agg h2.c.toArray] w fun v w'=>v= .int .i64 (xq8 X h2.s).2∧StQ w w' sp x d F H K X h ((xq8 X h2.s).1.W,(xq8 X h2.s).2):=by
 have P:=k
 refine gx func56 ?_
 have a:=Ext.refl No w
 refine qa (gw rfl fun R Q S f g=> ?_)
 have k:=k.ga g
 have a:=a.gb g
 have f:j0 Q R 121 (h2.c):=f
 refine jz rfl (qa (jh f rfl rfl (gi call61 rfl (sall_calls Q (hx2.ga a)) fun v2 T p=> ?_)))
 obtain⟨B,rfl,r,U,i⟩:=p
 have k:=k.ga i
 have a:=a.gb i
 have t:=a
 refine gi call30 rfl (yx T U) fun v3 w3 A=> ?_
 obtain⟨q,Y,rfl,b,j⟩:=A
 have k:=k.ga j
 have a:=a.gb j
 rw[r] at b⊢
 have b:=b.older (V:=w) t.size
 refine jz rfl (gk ?_)
 refine jv (α:=Bool) [0,5] rfl (fun z=>[(19,.bool z)]) (fun z u=>(z=decide (¬yn (Az h2.s)∨40000<(yg (Az h2.s)).length)∧StA u sp x d F H K X h∧ku w u q (yg (Az h2.s)).length Y 5 1 (ge (yg (Az h2.s))))∧Ext No w u) ?_ ?_
 ·refine j4 ?_
  refine j9 gc rfl (jo 15 rfl (fun o=> ?_) (fun o=> ?_))
  ·refine j2 gc 4 rfl ?_
   refine gm ?_
   exact gz (true) rfl ⟨⟨by symm;exact decide_eq_true (.inl fun e=>o (if_pos e)),k,b⟩,a⟩
  refine j2 gc 4 rfl ?_
  refine gm ?_
  exact gz (_) rfl ⟨⟨by rw[decide_eq_decide];exact⟨fun e=> .inr zo,fun e=>(by have:=e.resolve_left fun e=>e (Classical.byContradiction fun Z=>by rw[mayE,if_neg Z] at o;exact o zd);omega)⟩,k,b⟩,a⟩
 rintro z w4 ⟨⟨rfl,k,b⟩,a⟩
 refine jl rfl (fun C=> ?_) (fun C=> ?_)
 ·refine gk ?_
  refine j4 (jz rfl (gq (gp (gu rfl rfl ?_))))
  have l:=anew_no (X:=X) hn C
  exact⟨by rw[l],F,H,by rw[l];exact k,fun _=> .inl,fun _=> .inl,a.no⟩
 have l:=anew_yes (X:=X) hn C
 refine j7 (j1 (qc rfl (gy rfl (k.box.cell rfl) (j9 gc rfl ?_))))
 have k4:=k
 have E:=a
 refine gi call38 rfl (checkpoint_calls w4 k.log k.disk hok hm hW b.sl (codeE_lt _) (hr.ext a id) hF0 k.hf (fun y a0 e=>by obtain⟨hy,hl⟩:=b.Dk e;exact⟨fun e=>by have:=P.disk.lt y e;omega,fun e=>by have:=P.log.lt y e;omega,hl⟩)) fun v5 w5 G=> ?_
 obtain⟨rfl,F2,H2,I,J,L,M,n,N⟩:=G
 have O:=N
 refine jz rfl (gq (gu rfl rfl ?_))
 exact⟨by rw[l.2],by rw[l.1];exact k4.logQ E I J L M n O _⟩
theorem yb {P:Nat→Prop} {n b:Nat} (h:∀y,P y→y<n) (hb:n≤b):∀y,P y→¬One b y:=fun y hy e=>by
 have e:y=b:=e
 have:=h y hy
 omega
abbrev StS (F H:Nat→Prop) (sp:Nat):Nat→Prop:=fun y=>F y∨H y∨y=sp
def ComQ (w w':World) (sp x d:Nat) (F H K:Nat→Prop) (X':Sd):Prop:=
  ∃(F' H' K':Nat→Prop) (h':u9),StA w' sp x d F' H' K' X' h'∧(∀y,F' y→F y∨w.heap.size≤y)∧(∀y,H' y→H y∨w.heap.size≤y)∧(∀y,K' y→K y∨w.heap.size≤y)
theorem ComQ.same {w w':World} {sp x d:Nat} {F H K:Nat→Prop} {X:Sd} {h:u9} (k:StA w' sp x d F H K X h):ComQ w w' sp x d F H K X:=⟨F,H,K,h,k,fun _=> .inl,fun _=> .inl,fun _=> .inl⟩
def ComJ (w u:World) (sp x d:Nat) (F H K G:Nat→Prop) (X:Sd) (h h2:u9) (W':Wl):Prop:=
  ∃F' H':Nat→Prop,StA u sp x d F' H' K ⟨W',X.s⟩ h∧(∀y,F' y→F y∨w.heap.size≤y)∧(∀y,H' y→H y∨w.heap.size≤y)∧x7 u G h2∧(∀y,G y→¬F' y∧¬H' y∧y≠sp∧y<u.heap.size)
theorem StQ.com {w v u:World} {sp x d:Nat} {F H K G:Nat→Prop} {X:Sd} {h h2:u9} {r:Wl×Int} (q:StQ v u sp x d F H K X h r) (hw:w.heap.size≤v.heap.size) (hG:x7 v G h2) (hg:∀y,G y→¬F y∧¬H y∧y≠sp∧y<v.heap.size):ComJ w u sp x d F H K G X h h2 r.1:=by
 obtain⟨i,j,k,c,f,g⟩:=q
 refine⟨i,j,k,fun y a=>(c y a).imp id (Nat.le_trans hw),fun y a=>(f y a).imp id (Nat.le_trans hw),hG.ext g fun y a e=>e.elim (hg y a).1 (hg y a).2.1,fun y a=> ?_⟩
 have b:=hg y a
 exact⟨fun e=>(c y e).elim b.1 fun e=>by omega,fun e=>(f y e).elim b.2.1 fun e=>by omega,b.2.2.1,Nat.lt_of_lt_of_le b.2.2.2 g.size⟩
theorem sect_pos {n:Nat} (h:0<kl n):n≤40000:=by
 unfold kl at h
 split at h
 ·cases h
 omega
theorem sd_eta {x:Sd} {s:Dj} (e:x.s=s):x=⟨x.W,s⟩:=by cases x;cases e;rfl
theorem lays_s (X:Sd) (A:Dj) (C:Bytes):(D5 X A C).1.s=if(D5 X A C).2=0 then A else X.s:=by
 unfold D5
 split
 ·rfl
 unfold xq8
 split<;>rfl
theorem xq3 (w:World) {sp x d m:Nat} {F H K:Nat→Prop} {X:Sd} {h:u9} (k:StA w sp x d F H K X h) (hok:X.W.D.Ok m) (hm:m+2000<1000000000) (hW:Wl.Ok X.W) (hr:Rt w) (hF0:¬F 0) {B:uf} (hB:Ch w B) (hsok:X.s.Ok) (hfo:h.hs.length+5000<1000000):
  gn prog 15 [.pointer (some ⟨sp,0,none⟩),B.v] w fun v w'=>v= .int .i64 (y7 X B.d).2∧ComQ w w' sp x d F H K (y7 X B.d).1∧Ext (StS F H sp) w w':=by
 have k0:=k
 have bu:∀b,w.heap.size≤b→¬(F b∨H b):=fun b hb e=>e.elim (fun e=>by have:=k.disk.lt b e;omega) fun e=>by have:=k.log.lt b e;omega
 have bf:=k.eq
 have bk:Ad h.s.vals:=by rw[bf];exact hsok.rise
 have av:=hB
 have j:=Ext.refl No w
 have dn:h.vs.length≤128:=by have e:=hsok.few;rw[←bf,u9.s,List.length_map] at e;exact e
 refine gx func15 ?_
 have i:=Ext.refl (StS F H sp) w
 refine qa (gw rfl fun b3 w1 dp a c0=> ?_)
 have k:=k.ga c0
 have j:=j.gb c0
 have i:=i.gb c0
 have a:j0 w1 b3 25 (B.c):=a
 refine jz rfl (gk (qc rfl (gi call54 rfl (goes_calls w1 k) fun v2 w2 cp=> ?_)))
 obtain⟨rfl,bs⟩:=cp
 have a:=a.ga bs
 have k:=k.ga bs
 have j:=j.gb bs
 have i:=i.gb bs
 refine jz rfl (je rfl (jl rfl (fun hc=> ?_) (fun hc=> ?_)))
 ·have bi:X.W.broken=true:=Classical.byContradiction fun e=>hc (if_neg e)
  have aw:y7 X B.d=(X,8):=if_pos bi
  refine je rfl (gq (gp (gu rfl rfl ?_)))
  exact⟨by rw[aw,if_pos bi],by rw[aw];exact ComQ.same k,i⟩
 have bi:¬X.W.broken=true:=fun e=>hc (by rw[if_pos e];decide)
 refine xz (qa (jh a rfl rfl (gi call63 rfl (may_calls w2 (av.ga j)) fun v3 w3 cq=> ?_)))
 obtain⟨rfl,bt⟩:=cq
 have a:=a.ga bt
 have k:=k.ga bt
 have j:=j.gb bt
 have i:=i.gb bt
 refine jz rfl (vj rfl (fun hc=> ?_) (fun hc=> ?_))
 ·have aw:y7 X B.d=(X,2):=by rw[y7,if_neg bi,if_pos (show¬yn B.d from by simpa using hc)]
  refine je rfl (gq (gp (gu rfl rfl ?_)))
  exact⟨by rw[aw],by rw[aw];exact ComQ.same k,i⟩
 have a0:yn B.d:=by simpa using hc
 have dq:B.ss.length≤128:=by have e:=a0.2.1;rw[uf.d,List.length_map] at e;exact e
 have dr:B.os.length≤4096:=by have e:=a0.1;rw[uf.d,List.length_map] at e;exact e
 refine j7 (j1 ?_)
 have cr:=a.lt
 have c9:=i.size
 refine jv (α:=(u9×uf)×Nat×Nat) [0] rfl (fun z=>[(6,.pointer (some ⟨z.2.1,0,none⟩)),(7,.pointer (some ⟨z.2.2,0,none⟩)),(8,.int .i64 (jt X.s B.d).2.2)]) (fun z u=>(StA u sp x d F H K X h∧Ext No w u∧x7 u (Grow K w u) z.1.1∧Ch u z.1.2∧((jt X.s B.d).2.2=0→z.1.1.s=(jt X.s B.d).1∧z.1.2.d=(jt X.s B.d).2.1∧∃r,z.1.1.m=some r))∧j0 u b3 25 (B.c)∧j0 u z.2.1 121 (z.1.1.c)∧w3.heap.size≤z.2.1∧j0 u z.2.2 25 (z.1.2.c)∧w3.heap.size≤z.2.2∧z.2.1≠z.2.2∧Ext (StS F H sp) w u) ?_ ?_
 ·have C:=Nat.le_refl w3.heap.size
  refine zq7 rfl 15 15 [] (No) zk fun w4 bb ds=> ?_
  have cs:=a
  have kd:=k
  have a:=a.ga bb
  have k:=k.ga bb
  have j:=j.gb bb
  have C:=Nat.le_trans C bb.size
  have i:=i.gb bb
  have p:Ext No _ w4:=bb
  refine qe [qP 0,qP 1,qP 2,qP 3,qP 4] 10 rfl zk (gv gc 3 rfl (qf gc rfl rfl (fun w' c1=>((Seg.append (l:=[.pointer (some ⟨x,0,none⟩)])).1 (kd.ga c1).box.ko).2) rfl ?_))
  refine qf gc rfl rfl (fun w' c1=>(cs.ga c1).ko) rfl ?_
  refine xg rfl (Ab [5,10,11] rfl zk ⟨⟨_,rfl,?_⟩,⟨_,rfl,?_⟩,⟨_,rfl,?_⟩,trivial⟩)
  ·have b4:=j.size
   have b5:=k.klt
   refine j3 call64 rfl (z1 w4 k.has k.klt (av.ga j) a0 bk zo zo (hr.ext j id)) fun v5 w5 ca=>⟨(by obtain⟨h2,Z,rfl,J,bc⟩:=ca;exact p.gb bc),?_⟩
   obtain⟨h2,Z,rfl,J,bc⟩:=ca
   have a:=a.ga bc
   have k:=k.ga bc
   have j:=j.gb bc
   have C:=Nat.le_trans C bc.size
   have i:=i.gb bc
   have p:=p.gb bc
   have E:=J.has
   have o:=J.own
   have b8:=bc.size
   have Y:=J.eq
   rw[bf] at Y⊢
   have n:=Nat.le_refl w5.heap.size
   refine qe [qP 6,qP 7,qP 8,qP 9] 5 rfl zk (gv gc 4 rfl (xg rfl (Ab [10,11] rfl zk ⟨⟨_,rfl,?_⟩,⟨_,rfl,?_⟩,trivial⟩)))
   ·refine Ak gc rfl fun b6 w6 t f b9=>⟨p.gb b9,?_⟩
    have Q:=j5 a.lt t
    have L:=Nat.le_trans i.size t
    have R:=Nat.le_trans C t
    have al:=Nat.le_trans n t
    have A:=Nat.le_trans p.size t
    have a:=a.ga b9
    have k:=k.ga b9
    have j:=j.gb b9
    have E:=E.ga b9
    have o:=o.ga b9
    have C:=Nat.le_trans C b9.size
    have n:=Nat.le_trans n b9.size
    have i:=i.gb b9
    have p:=p.gb b9
    have ax:=zq8 al b5 b8
    refine qe [(11,false),(12,false),(13,false),qP 14] 0 rfl zk (jg rfl (Ak gc rfl fun b7 w7 I g ay=>⟨p.gb ay,?_⟩))
    have S:=j5 a.lt I
    have M:=j5 f.lt I
    have N:=Nat.le_trans i.size I
    have T:=Nat.le_trans C I
    have am:=Nat.le_trans n I
    have U:=Nat.le_trans p.size I
    have a:=a.ga ay
    have f:=f.ga ay
    have k:=k.ga ay
    have j:=j.gb ay
    have E:=E.ga ay
    have o:=o.ga ay
    have C:=Nat.le_trans C ay.size
    have n:=Nat.le_trans n ay.size
    have i:=i.gb ay
    have p:=p.gb ay
    have az:=zq8 am b5 b8
    have a1:=f
    refine jg rfl (j8 (l':=h2.c) gc f rfl rfl rfl rfl OneC.h fun w8 f b0 dt=>⟨p.gh b0 A,?_⟩)
    have p:=p.gh b0 A
    have a:=a.gj b0 Q
    have g:=g.gj b0 M.symm
    have k:=k.ext b0 (yb k0.lt L)
    have j:=j.gh b0 L
    have E:=E.ext b0 ax
    have o:=o.gj b0 a1 zd
    have C:=Nat.le_trans C b0.size
    have n:=Nat.le_trans n b0.size
    have i:=i.gh b0 L
    have a2:=g
    refine jg rfl (j8 (l':=Z.c) gc g rfl rfl rfl rfl OneC.h fun w9 g ba du=>⟨p.gh ba U,?_⟩)
    have a:=a.gj ba S
    have f:=f.gj ba M
    have k:=k.ext ba (yb k0.lt N)
    have j:=j.gh ba N
    have E:=E.ext ba az
    have o:=o.gj ba a2 zd
    have C:=Nat.le_trans C ba.size
    have n:=Nat.le_trans n ba.size
    have i:=i.gh ba N
    refine gv gc 1 rfl (jj (ja ?_))
    exact gz ((h2,Z),b6,b7) rfl ⟨⟨k,j,E.mono fun y P=>Grow.wide b4 n P,J.bat _ (av.ga j) o,Y⟩,a,f,R,g,T,M,i⟩
   refine Ak gc rfl fun b7 dv I g ad=>⟨p.gb ad,?_⟩
   have S:=j5 a.lt I
   have N:=Nat.le_trans i.size I
   have T:=Nat.le_trans C I
   have am:=Nat.le_trans n I
   have U:=Nat.le_trans p.size I
   have a:=a.ga ad
   have k:=k.ga ad
   have j:=j.gb ad
   have E:=E.ga ad
   have o:=o.ga ad
   have C:=Nat.le_trans C ad.size
   have n:=Nat.le_trans n ad.size
   have i:=i.gb ad
   have p:=p.gb ad
   have az:=zq8 am b5 b8
   refine qe [(10,false),(12,false),(13,false),qP 14] 0 rfl zk (jg rfl (Ak gc rfl fun b6 dw t f a3=>⟨p.gb a3,?_⟩))
   have Q:=j5 a.lt t
   have O:=j5 g.lt t
   have L:=Nat.le_trans i.size t
   have R:=Nat.le_trans C t
   have al:=Nat.le_trans n t
   have A:=Nat.le_trans p.size t
   have a:=a.ga a3
   have g:=g.ga a3
   have k:=k.ga a3
   have j:=j.gb a3
   have E:=E.ga a3
   have o:=o.ga a3
   have C:=Nat.le_trans C a3.size
   have n:=Nat.le_trans n a3.size
   have i:=i.gb a3
   have p:=p.gb a3
   have ax:=zq8 al b5 b8
   have a1:=f
   refine jg rfl (j8 (l':=h2.c) gc f rfl rfl rfl rfl OneC.h fun dx f a4 dc=>⟨p.gh a4 A,?_⟩)
   have p:=p.gh a4 A
   have a:=a.gj a4 Q
   have g:=g.gj a4 O
   have k:=k.ext a4 (yb k0.lt L)
   have j:=j.gh a4 L
   have E:=E.ext a4 ax
   have o:=o.gj a4 a1 zd
   have C:=Nat.le_trans C a4.size
   have n:=Nat.le_trans n a4.size
   have i:=i.gh a4 L
   have a2:=g
   refine jg rfl (j8 (l':=Z.c) gc g rfl rfl rfl rfl OneC.h fun dy g ae dd=>⟨p.gh ae U,?_⟩)
   have a:=a.gj ae S
   have f:=f.gj ae O.symm
   have k:=k.ext ae (yb k0.lt N)
   have j:=j.gh ae N
   have E:=E.ext ae az
   have o:=o.gj ae a2 zd
   have C:=Nat.le_trans C ae.size
   have n:=Nat.le_trans n ae.size
   have i:=i.gh ae N
   refine gv gc 1 rfl (jj (ja ?_))
   exact gz ((h2,Z),b6,b7) rfl ⟨⟨k,j,E.mono fun y P=>Grow.wide b4 n P,J.bat _ (av.ga j) o,Y⟩,a,f,R,g,T,O.symm,i⟩
  ·have _u:=i
   refine Ak gc rfl fun b6 ct t f b1=>⟨p.gb b1,?_⟩
   have Q:=j5 a.lt t
   have L:=Nat.le_trans i.size t
   have R:=Nat.le_trans C t
   have A:=Nat.le_trans p.size t
   have a:=a.ga b1
   have k:=k.ga b1
   have j:=j.gb b1
   have C:=Nat.le_trans C b1.size
   have i:=i.gb b1
   have p:=p.gb b1
   refine qe [] 9 rfl zk (xg rfl (Ab [5,11] rfl zk ⟨⟨_,rfl,?_⟩,⟨_,rfl,?_⟩,trivial⟩))
   ·have b4:=j.size
    have b5:=k.klt
    have bm:=f.lt
    refine j3 call64 rfl (z1 ct k.has k.klt (av.ga j) a0 bk zo zo (hr.ext j id)) fun dz cb bv=>⟨(by obtain⟨h2,Z,rfl,J,af⟩:=bv;exact p.gb af),?_⟩
    obtain⟨h2,Z,rfl,J,af⟩:=bv
    have a:=a.ga af
    have f:=f.ga af
    have k:=k.ga af
    have j:=j.gb af
    have C:=Nat.le_trans C af.size
    have i:=i.gb af
    have p:=p.gb af
    have E:=J.has
    have o:=J.own
    have b8:=af.size
    have Y:=J.eq
    rw[bf] at Y⊢
    have ax:=Db (u:=cb) bm L k0.klt
    have n:=Nat.le_refl cb.heap.size
    refine qe [qP 6,qP 7,qP 8,qP 9,(11,false),(12,false),(13,false),qP 14] 0 rfl zk (gv gc 4 rfl (jg rfl (Ak gc rfl fun b7 e0 I g a5=>⟨p.gb a5,?_⟩)))
    have S:=j5 a.lt I
    have M:=j5 f.lt I
    have N:=Nat.le_trans i.size I
    have T:=Nat.le_trans C I
    have am:=Nat.le_trans n I
    have U:=Nat.le_trans p.size I
    have a:=a.ga a5
    have f:=f.ga a5
    have k:=k.ga a5
    have j:=j.gb a5
    have E:=E.ga a5
    have o:=o.ga a5
    have C:=Nat.le_trans C a5.size
    have n:=Nat.le_trans n a5.size
    have i:=i.gb a5
    have p:=p.gb a5
    have az:=zq8 am b5 b8
    have a1:=f
    refine jg rfl (j8 (l':=h2.c) gc f rfl rfl rfl rfl OneC.h fun e3 f a6 de=>⟨p.gh a6 A,?_⟩)
    have p:=p.gh a6 A
    have a:=a.gj a6 Q
    have g:=g.gj a6 M.symm
    have k:=k.ext a6 (yb k0.lt L)
    have j:=j.gh a6 L
    have E:=E.ext a6 ax
    have o:=o.gj a6 a1 zd
    have C:=Nat.le_trans C a6.size
    have n:=Nat.le_trans n a6.size
    have i:=i.gh a6 L
    have a2:=g
    refine jg rfl (j8 (l':=Z.c) gc g rfl rfl rfl rfl OneC.h fun e4 g ag df=>⟨p.gh ag U,?_⟩)
    have a:=a.gj ag S
    have f:=f.gj ag M
    have k:=k.ext ag (yb k0.lt N)
    have j:=j.gh ag N
    have E:=E.ext ag az
    have o:=o.gj ag a2 zd
    have C:=Nat.le_trans C ag.size
    have n:=Nat.le_trans n ag.size
    have i:=i.gh ag N
    refine gv gc 1 rfl (jj (ja ?_))
    exact gz ((h2,Z),b6,b7) rfl ⟨⟨k,j,E.mono fun y P=>Grow.wide b4 n P,J.bat _ (av.ga j) o,Y⟩,a,f,R,g,T,M,i⟩
   have _u:=i
   refine Ak gc rfl fun b7 cu I g aq=>⟨p.gb aq,?_⟩
   have S:=j5 a.lt I
   have M:=j5 f.lt I
   have N:=Nat.le_trans i.size I
   have T:=Nat.le_trans C I
   have U:=Nat.le_trans p.size I
   have a:=a.ga aq
   have f:=f.ga aq
   have k:=k.ga aq
   have j:=j.gb aq
   have C:=Nat.le_trans C aq.size
   have i:=i.gb aq
   have p:=p.gb aq
   refine qe [(5,false),qP 6,qP 7,qP 8,qP 9,(12,false),(13,false),qP 14] 0 rfl zk ?_
   have b4:=j.size
   have b5:=k.klt
   have bm:=f.lt
   have bn:=g.lt
   refine jg rfl (j3 call64 rfl (z1 cu k.has k.klt (av.ga j) a0 bk zo zo (hr.ext j id)) fun e6 c2 bw=>⟨(by obtain⟨h2,Z,rfl,J,a7⟩:=bw;exact p.gb a7),?_⟩)
   obtain⟨h2,Z,rfl,J,a7⟩:=bw
   have a:=a.ga a7
   have f:=f.ga a7
   have g:=g.ga a7
   have k:=k.ga a7
   have j:=j.gb a7
   have C:=Nat.le_trans C a7.size
   have i:=i.gb a7
   have p:=p.gb a7
   have E:=J.has
   have o:=J.own
   have b8:=a7.size
   have Y:=J.eq
   rw[bf] at Y⊢
   have ax:=Db (u:=c2) bm L k0.klt
   have az:=Db (u:=c2) bn N k0.klt
   have n:=Nat.le_refl c2.heap.size
   refine gv gc 4 rfl ?_
   have a1:=f
   refine jg rfl (j8 (l':=h2.c) gc f rfl rfl rfl rfl OneC.h fun e7 f a8 dg=>⟨p.gh a8 A,?_⟩)
   have p:=p.gh a8 A
   have a:=a.gj a8 Q
   have g:=g.gj a8 M.symm
   have k:=k.ext a8 (yb k0.lt L)
   have j:=j.gh a8 L
   have E:=E.ext a8 ax
   have o:=o.gj a8 a1 zd
   have C:=Nat.le_trans C a8.size
   have n:=Nat.le_trans n a8.size
   have i:=i.gh a8 L
   have a2:=g
   refine jg rfl (j8 (l':=Z.c) gc g rfl rfl rfl rfl OneC.h fun e8 g ah dh=>⟨p.gh ah U,?_⟩)
   have a:=a.gj ah S
   have f:=f.gj ah M
   have k:=k.ext ah (yb k0.lt N)
   have j:=j.gh ah N
   have E:=E.ext ah az
   have o:=o.gj ah a2 zd
   have C:=Nat.le_trans C ah.size
   have n:=Nat.le_trans n ah.size
   have i:=i.gh ah N
   refine gv gc 1 rfl (jj (ja ?_))
   exact gz ((h2,Z),b6,b7) rfl ⟨⟨k,j,E.mono fun y P=>Grow.wide b4 n P,J.bat _ (av.ga j) o,Y⟩,a,f,R,g,T,M,i⟩
  have _u:=i
  refine Ak gc rfl fun b7 cv I g b2=>⟨p.gb b2,?_⟩
  have S:=j5 a.lt I
  have N:=Nat.le_trans i.size I
  have T:=Nat.le_trans C I
  have U:=Nat.le_trans p.size I
  have a:=a.ga b2
  have k:=k.ga b2
  have j:=j.gb b2
  have C:=Nat.le_trans C b2.size
  have i:=i.gb b2
  have p:=p.gb b2
  refine qe [] 9 rfl zk (xg rfl (Ab [5,10] rfl zk ⟨⟨_,rfl,?_⟩,⟨_,rfl,?_⟩,trivial⟩))
  ·have b4:=j.size
   have b5:=k.klt
   have bn:=g.lt
   refine j3 call64 rfl (z1 cv k.has k.klt (av.ga j) a0 bk zo zo (hr.ext j id)) fun e9 cc bx=>⟨(by obtain⟨h2,Z,rfl,J,ai⟩:=bx;exact p.gb ai),?_⟩
   obtain⟨h2,Z,rfl,J,ai⟩:=bx
   have a:=a.ga ai
   have g:=g.ga ai
   have k:=k.ga ai
   have j:=j.gb ai
   have C:=Nat.le_trans C ai.size
   have i:=i.gb ai
   have p:=p.gb ai
   have E:=J.has
   have o:=J.own
   have b8:=ai.size
   have Y:=J.eq
   rw[bf] at Y⊢
   have az:=Db (u:=cc) bn N k0.klt
   have n:=Nat.le_refl cc.heap.size
   refine qe [qP 6,qP 7,qP 8,qP 9,(10,false),(12,false),(13,false),qP 14] 0 rfl zk (gv gc 4 rfl (jg rfl (Ak gc rfl fun b6 ea t f a9=>⟨p.gb a9,?_⟩)))
   have Q:=j5 a.lt t
   have O:=j5 g.lt t
   have L:=Nat.le_trans i.size t
   have R:=Nat.le_trans C t
   have al:=Nat.le_trans n t
   have A:=Nat.le_trans p.size t
   have a:=a.ga a9
   have g:=g.ga a9
   have k:=k.ga a9
   have j:=j.gb a9
   have E:=E.ga a9
   have o:=o.ga a9
   have C:=Nat.le_trans C a9.size
   have n:=Nat.le_trans n a9.size
   have i:=i.gb a9
   have p:=p.gb a9
   have ax:=zq8 al b5 b8
   have a1:=f
   refine jg rfl (j8 (l':=h2.c) gc f rfl rfl rfl rfl OneC.h fun eb f aa di=>⟨p.gh aa A,?_⟩)
   have p:=p.gh aa A
   have a:=a.gj aa Q
   have g:=g.gj aa O
   have k:=k.ext aa (yb k0.lt L)
   have j:=j.gh aa L
   have E:=E.ext aa ax
   have o:=o.gj aa a1 zd
   have C:=Nat.le_trans C aa.size
   have n:=Nat.le_trans n aa.size
   have i:=i.gh aa L
   have a2:=g
   refine jg rfl (j8 (l':=Z.c) gc g rfl rfl rfl rfl OneC.h fun ec g aj dj=>⟨p.gh aj U,?_⟩)
   have a:=a.gj aj S
   have f:=f.gj aj O.symm
   have k:=k.ext aj (yb k0.lt N)
   have j:=j.gh aj N
   have E:=E.ext aj az
   have o:=o.gj aj a2 zd
   have C:=Nat.le_trans C aj.size
   have n:=Nat.le_trans n aj.size
   have i:=i.gh aj N
   refine gv gc 1 rfl (jj (ja ?_))
   exact gz ((h2,Z),b6,b7) rfl ⟨⟨k,j,E.mono fun y P=>Grow.wide b4 n P,J.bat _ (av.ga j) o,Y⟩,a,f,R,g,T,O.symm,i⟩
  have _u:=i
  refine Ak gc rfl fun b6 cw t f ar=>⟨p.gb ar,?_⟩
  have Q:=j5 a.lt t
  have O:=j5 g.lt t
  have L:=Nat.le_trans i.size t
  have R:=Nat.le_trans C t
  have A:=Nat.le_trans p.size t
  have a:=a.ga ar
  have g:=g.ga ar
  have k:=k.ga ar
  have j:=j.gb ar
  have C:=Nat.le_trans C ar.size
  have i:=i.gb ar
  have p:=p.gb ar
  refine qe [(5,false),qP 6,qP 7,qP 8,qP 9,(12,false),(13,false),qP 14] 0 rfl zk ?_
  have b4:=j.size
  have b5:=k.klt
  have bn:=g.lt
  have bm:=f.lt
  refine jg rfl (j3 call64 rfl (z1 cw k.has k.klt (av.ga j) a0 bk zo zo (hr.ext j id)) fun ed c3 bz=>⟨(by obtain⟨h2,Z,rfl,J,ab⟩:=bz;exact p.gb ab),?_⟩)
  obtain⟨h2,Z,rfl,J,ab⟩:=bz
  have a:=a.ga ab
  have g:=g.ga ab
  have f:=f.ga ab
  have k:=k.ga ab
  have j:=j.gb ab
  have C:=Nat.le_trans C ab.size
  have i:=i.gb ab
  have p:=p.gb ab
  have E:=J.has
  have o:=J.own
  have b8:=ab.size
  have Y:=J.eq
  rw[bf] at Y⊢
  have az:=Db (u:=c3) bn N k0.klt
  have ax:=Db (u:=c3) bm L k0.klt
  have n:=Nat.le_refl c3.heap.size
  refine gv gc 4 rfl ?_
  have a1:=f
  refine jg rfl (j8 (l':=h2.c) gc f rfl rfl rfl rfl OneC.h fun ee f ac dk=>⟨p.gh ac A,?_⟩)
  have p:=p.gh ac A
  have a:=a.gj ac Q
  have g:=g.gj ac O
  have k:=k.ext ac (yb k0.lt L)
  have j:=j.gh ac L
  have E:=E.ext ac ax
  have o:=o.gj ac a1 zd
  have C:=Nat.le_trans C ac.size
  have n:=Nat.le_trans n ac.size
  have i:=i.gh ac L
  have a2:=g
  refine jg rfl (j8 (l':=Z.c) gc g rfl rfl rfl rfl OneC.h fun ef g ak dl=>⟨p.gh ak U,?_⟩)
  have a:=a.gj ak S
  have f:=f.gj ak O.symm
  have k:=k.ext ak (yb k0.lt N)
  have j:=j.gh ak N
  have E:=E.ext ak az
  have o:=o.gj ak a2 zd
  have C:=Nat.le_trans C ak.size
  have n:=Nat.le_trans n ak.size
  have i:=i.gh ak N
  refine gv gc 1 rfl (jj (ja ?_))
  exact gz ((h2,Z),b6,b7) rfl ⟨⟨k,j,E.mono fun y P=>Grow.wide b4 n P,J.bat _ (av.ga j) o,Y⟩,a,f,R,g,T,O.symm,i⟩
 rintro⟨⟨h2,Z⟩,b6,b7⟩ cd ⟨⟨k,j,E,bg,Y⟩,a,f,t,g,I,M,i⟩
 try dsimp only
 dsimp only at f t g I M
 have L:=Nat.le_trans c9 t
 dsimp only at k j E bg Y
 have eg:=bg.lo
 have eh:=bg.ls
 obtain⟨G,ce,an,E⟩:∃G:Nat→Prop,(∀y,G y→K y∨w.heap.size≤y)∧(∀y,G y→y<cd.heap.size)∧x7 cd G h2:=⟨_,fun y P=>P.imp id fun e=>e.1,fun y P=>P.elim (k.klt y) fun e=>e.2,E⟩
 have bj:∀y,G y→¬F y∧¬H y∧y≠sp:=fun y P=>(ce y P).elim (fun e=>⟨(k.kf y e).1,(k.kf y e).2,fun e2=>k.sf.2.2 (e2▸e)⟩) fun e=>⟨fun e2=>by have:=k0.disk.lt y e2;omega,fun e2=>by have:=k0.log.lt y e2;omega,fun e2=>by have:=k0.box.lt;omega⟩
 refine gk ?_
 refine jv (α:=Bool) [0,6,7,8] rfl (fun z=>[(41,.bool z)]) (fun z u=>(z=decide ((jt X.s B.d).2.2≠0∨Z.os.length+Z.ss.length=0)∧StA u sp x d F H K X h∧Ext No w u∧x7 u G h2∧Ch u Z∧(∀y,G y→y<u.heap.size))∧j0 u b3 25 (B.c)∧j0 u b6 121 (h2.c)∧j0 u b7 25 (Z.c)∧Ext (StS F H sp) w u) ?_ ?_
 ·refine j4 ?_
  refine j9 gc rfl (jo 32 rfl (fun hg=> ?_) (fun hg=> ?_))
  ·refine j2 gc 9 rfl ?_
   refine gm ?_
   exact gz (true) rfl ⟨⟨by symm;exact decide_eq_true (.inl hg),k,j,E,bg,an⟩,a,f,g,i⟩
  refine j2 gc 1 rfl ?_
  refine jb g rfl rfl (j2 gc 2 rfl (jb g rfl rfl (j2 gc 4 rfl ?_)))
  rw[kg _ zo]
  refine gm ?_
  exact gz (_) rfl ⟨⟨by rw[decide_eq_decide];exact⟨fun e=> .inr zo,fun e=>(by have:=e.resolve_left hg;omega)⟩,k,j,E,bg,an⟩,a,f,g,i⟩
 rintro z cx ⟨⟨rfl,k,j,E,bg,an⟩,a,f,g,i⟩
 refine jl rfl (fun hc=> ?_) (fun hc=> ?_)
 ·have aw:y7 X B.d=(X,(jt X.s B.d).2.2):=by
   rw[y7,if_neg bi,if_neg (fun e=>e a0)]
   refine if_pos (hc.imp id fun e=> ?_)
   by_cases h0:(jt X.s B.d).2.2=0
   ·obtain⟨_,e2,_⟩:=Y h0
    rw[←e2]
    refine⟨?_,?_⟩
    ·show Z.os.map Prod.fst=[]
     rw[List.eq_nil_of_length_eq_zero (by omega:Z.os.length=0)];rfl
    show Z.ss.map Prod.fst=[]
    rw[List.eq_nil_of_length_eq_zero (by omega:Z.ss.length=0)];rfl
   rw[(xz6 h0).2];exact⟨rfl,rfl⟩
  refine je rfl (gq (gp (gu rfl rfl ?_)))
  exact⟨by rw[aw],by rw[aw];exact ComQ.same k,i⟩
 have h0:(jt X.s B.d).2.2=0:=Classical.byContradiction fun e=>hc (.inl e)
 obtain⟨c4,cf,cy⟩:=Y h0
 have aw:y7 X B.d=(D5 X (jt X.s B.d).1 (qi (jt X.s B.d).2.1)):=by
  rw[y7,if_neg bi,if_neg (fun e=>e a0)]
  refine if_neg fun e=>hc (.inr ?_)
  have e:=e.resolve_left fun e=>e h0
  rw[←cf] at e
  have e1:(Z.os.map Prod.fst).length=0:=by rw[show Z.os.map Prod.fst=[] from e.1];rfl
  have e2:(Z.ss.map Prod.fst).length=0:=by rw[show Z.ss.map Prod.fst=[] from e.2];rfl
  rw[List.length_map] at e1 e2
  omega
 have cg:yg Z.d=(qi (jt X.s B.d).2.1):=by rw[cf];exact if_pos (fresh_may a0)
 have cz:h2.s.Ok:=by rw[c4];exact(after_ok hsok a0).1
 refine j7 (j1 (qa (jh g rfl rfl ?_)))
 have d0:=j
 refine gi call30 rfl (yx cx bg) fun ei d1 ch=> ?_
 obtain⟨q,kq,rfl,hq,au⟩:=ch
 have a:=a.ga au
 have f:=f.ga au
 have g:=g.ga au
 have k:=k.ga au
 have j:=j.gb au
 have E:=E.ga au
 have an:=fun y P=>Nat.lt_of_lt_of_le (an y P) au.size
 have i:=i.gb au
 rw[cg] at hq⊢
 have hq:=hq.older (V:=w) d0.size
 refine jz rfl ?_
 refine jv (α:=Unit) [0,6] rfl (fun z=>[(8,.int .i64 (D5 X (jt X.s B.d).1 (qi (jt X.s B.d).2.1)).2)]) (fun z u=>(ComJ w u sp x d F H K G X h h2 (D5 X (jt X.s B.d).1 (qi (jt X.s B.d).2.1)).1.W)∧j0 u b6 121 (h2.c)∧Ext (StS F H sp) w u) ?_ ?_
 ·refine gk ?_
  refine yv rfl (gi call65 rfl (vo d1 _) fun ej d2 ci=> ?_)
  obtain⟨rfl,ao⟩:=ci
  have a:=a.ga ao
  have f:=f.ga ao
  have g:=g.ga ao
  have k:=k.ga ao
  have j:=j.gb ao
  have E:=E.ga ao
  have an:=fun y P=>Nat.lt_of_lt_of_le (an y P) ao.size
  have hq:=hq.ga ao
  have i:=i.gb ao
  rw[Aj]
  refine jz rfl ?_
  refine jv (α:=Bool) [0,6,9] rfl (fun z=>[(61,.bool z)]) (fun z u=>(z=decide ((qi (jt X.s B.d).2.1).length≤40000∧(kl (qi (jt X.s B.d).2.1).length:Int)≤(X.W.size:Int)-X.W.used)∧StA u sp x d F H K X h∧Ext No w u∧x7 u G h2∧(∀y,G y→y<u.heap.size)∧ku w u q (qi (jt X.s B.d).2.1).length kq 5 1 (ge (qi (jt X.s B.d).2.1)))∧j0 u b3 25 (B.c)∧j0 u b6 121 (h2.c)∧j0 u b7 25 (Z.c)∧Ext (StS F H sp) w u) ?_ ?_
  ·refine j4 ?_
   refine j9 gc rfl (jo 53 rfl (fun hg=> ?_) (fun hg=> ?_))
   ·refine j2 gc 4 rfl ?_
    refine gy rfl (k.box.cell rfl) (gi call66 rfl (left_calls d2 k.log (by have:=hW.size;omega) (by have:=hW.size;have:=hW.room;omega)) fun ek el cj=> ?_)
    obtain⟨rfl,ap⟩:=cj
    have a:=a.ga ap
    have f:=f.ga ap
    have g:=g.ga ap
    have k:=k.ga ap
    have j:=j.gb ap
    have E:=E.ga ap
    have an:=fun y P=>Nat.lt_of_lt_of_le (an y P) ap.size
    have hq:=hq.ga ap
    have i:=i.gb ap
    refine j2 gc 2 rfl (gm ?_)
    exact gz (_) rfl ⟨⟨by rw[decide_eq_decide];exact⟨fun e=>⟨sect_pos zo,e⟩,And.right⟩,k,j,E,an,hq⟩,a,f,g,i⟩
   refine j2 gc 8 rfl ?_
   refine gm ?_
   exact gz (false) rfl ⟨⟨by symm;rw[decide_eq_false_iff_not];exact fun e=>hg (by have:=Cl e.1;omega),k,j,E,an,hq⟩,a,f,g,i⟩
  rintro z ck ⟨⟨rfl,k,j,E,an,hq⟩,a,f,g,i⟩
  refine jl rfl (fun hc=> ?_) (fun hc=> ?_)
  ·have bo:(D5 X (jt X.s B.d).1 (qi (jt X.s B.d).2.1))=(⟨(X.W.append (qi (jt X.s B.d).2.1)).1,if(X.W.append (qi (jt X.s B.d).2.1)).2=0 then(jt X.s B.d).1 else X.s⟩,(X.W.append (qi (jt X.s B.d).2.1)).2):=if_pos hc
   refine yv rfl (gy rfl (k.box.cell rfl) (j9 gc rfl ?_))
   have k4:=k
   have c5:=j
   have c6:=E
   have bp:=an
   refine gi call39 rfl (append_calls ck k.log k.disk hok hm hW hq.sl (cg▸codeE_lt _) (hr.ext j id) hF0 k.hf (fun y em e=>by obtain⟨P,hl⟩:=hq.Dk e;exact⟨fun e=>by have:=k0.disk.lt y e;omega,fun e=>by have:=k0.log.lt y e;omega⟩)) fun en eo cl=> ?_
   obtain⟨rfl,F2,H2,d3,d4,d5,d6,cm,bq⟩:=cl
   have f:=f.ext bq (bu b6 L)
   have i:=i.then (bq.mono fun y _ e=>e.imp id .inl)
   have bh:=(k4.logQ (Ext.refl No _) d3 d4 d5 d6 cm bq 0).com c5.size c6 fun y P=>⟨(bj y P).1,(bj y P).2.1,(bj y P).2.2,bp y P⟩
   refine j9 gc rfl (gm ?_)
   exact gz (()) (by rw[bo];rfl) ⟨(by rw[bo];exact bh),f,i⟩
  have bo:(D5 X (jt X.s B.d).1 (qi (jt X.s B.d).2.1))=xq8 X (jt X.s B.d).1:=if_neg hc
  refine yv rfl (jh f rfl rfl ?_)
  have k4:=k
  have c5:=j
  have c6:=E
  have bp:=an
  refine gi call56 rfl (sanew_calls ck k hok hm hW (hr.ext j id) hF0 E cz) fun ep er cn=> ?_
  obtain⟨rfl,co⟩:=cn
  obtain⟨_,_,_,_,_,bb⟩:=id co
  have f:=f.ext bb (bu b6 L)
  have i:=i.then (bb.mono fun y _ e=>e.imp id .inl)
  have bh:=co.com c5.size c6 fun y P=>⟨(bj y P).1,(bj y P).2.1,(bj y P).2.2,bp y P⟩
  rw[c4] at bh⊢
  refine j9 gc rfl (gm ?_)
  exact gz (()) (by rw[bo];rfl) ⟨(by rw[bo];exact bh),f,i⟩
 rintro z es ⟨bh,f,i⟩
 refine jv (α:=Unit) [8] rfl (fun z=>[]) (fun z u=>(ComQ w u sp x d F H K (y7 X B.d).1)∧Ext (StS F H sp) w u) ?_ ?_
 ·refine gk ?_
  refine j4 (jz rfl (jl rfl (fun hc=> ?_) (fun hc=> ?_)))
  ·obtain⟨F5,H5,k5,c7,c8,d7,br⟩:=bh
   have e5:(D5 X (jt X.s B.d).1 (qi (jt X.s B.d).2.1)).1=⟨(D5 X (jt X.s B.d).1 (qi (jt X.s B.d).2.1)).1.W,(jt X.s B.d).1⟩:=by
    have e:=lays_s X (jt X.s B.d).1 (qi (jt X.s B.d).2.1)
    rw[if_pos hc] at e
    exact sd_eta e
   refine yv rfl (jh f rfl rfl (j9 gc rfl (wl (zw6 gc k5.box rfl rfl (Nat.le_refl _) (OneC.h (l:=h2.c)) fun d8 d9 bd dm=> ?_))))
   have i:=i.then (bd.mono fun y _ e=> .inr (.inr e))
   have da:∀y,G y→¬One sp y:=fun y P=>(br y P).2.2.1
   have k6:StA d8 sp x d F5 H5 G ⟨(D5 X (jt X.s B.d).1 (qi (jt X.s B.d).2.1)).1.W,(jt X.s B.d).1⟩ h2:=⟨d9,k5.disk.ext bd fun y P e=>k5.sf.1 (by have e:y=sp:=e;exact e▸P),k5.log.ext bd fun y P e=>k5.sf.2.1 (by have e:y=sp:=e;exact e▸P),d7.ext bd da,c4,cy,k5.hf,fun y P=>⟨(br y P).1,(br y P).2.1⟩,⟨k5.sf.1,k5.sf.2.1,fun e=>(br sp e).2.2.1 rfl⟩,fun y P=>Nat.lt_of_lt_of_le (br y P).2.2.2 bd.size⟩
   refine gm ?_
   exact gz (()) rfl ⟨(by rw[aw,e5];exact⟨F5,H5,G,h2,k6,c7,c8,ce⟩),i⟩
  have e5:(D5 X (jt X.s B.d).1 (qi (jt X.s B.d).2.1)).1=⟨(D5 X (jt X.s B.d).1 (qi (jt X.s B.d).2.1)).1.W,X.s⟩:=by
   have e:=lays_s X (jt X.s B.d).1 (qi (jt X.s B.d).2.1)
   rw[if_neg hc] at e
   exact sd_eta e
  obtain⟨F5,H5,k5,c7,c8,_⟩:=bh
  refine j7 ?_
  exact gz (()) rfl ⟨(by rw[aw,e5];exact⟨F5,H5,K,h,k5,c7,c8,fun _=> .inl⟩),i⟩
 rintro⟨⟩ et ⟨db,i⟩
 refine je rfl (gq (gu rfl rfl ?_))
 exact⟨by rw[aw],db,i⟩
abbrev sayF (o:Option Dj) (b:Bytes):Option Dj:=o.bind fun s=>ux s b
theorem objsB_ge:∀l:List jk,l.length≤(Df l).length
 | []=>Nat.zero_le _
 |o::l=>by
  have h:=objsB_ge l
  have e:Df (o::l)=ue 2 (laidB o)++Df l:=rfl
  rw[e,List.length_append,ue,List.length_append,jp,List.length_cons]
  omega
theorem code_ge (b:A2):b.objs.length≤(qi b).length:=by
 have:=objsB_ge b.objs
 simp only[qi,List.length_append]
 omega
theorem said_ok {s t:Dj} {b:Bytes} (hs:s.Ok) (h:ux s b=some t):t.Ok∧t.row.length≤s.row.length+b.length∧t.row.length≤s.row.length+4096:=by
 obtain⟨a,_,rfl⟩:=said_some h
 have c:=readB_may a
 have d:=after_ok hs c
 have f:=(readB_two b).elim (fun e=>e.2.2) fun e=>absurd a e.1
 have g:=code_ge (uc b).1
 rw[f] at g
 have i:=c.1
 exact⟨d.1,by omega,by omega⟩
theorem snap_ok {b:Bytes} {t:Dj} (h:xr b=some t):t.Ok∧t.row.length≤b.length:=by
 unfold xr at h
 split at h
 ·cases h;exact⟨yv8,Nat.zero_le _⟩
 obtain⟨s,c,a⟩:=Option.bind_eq_some_iff.1 h
 split at a
 ·cases a
  have:=said_ok yv8 c
  exact⟨this.1,by have:=this.2.1;simpa using this⟩
 cases a
theorem fold_say:∀(l:List Bytes) {s t:Dj},s.Ok→l.foldl sayF (some s)=some t→t.Ok∧t.row.length≤s.row.length+(l.map List.length).sum
 | [],s,t,hs,h=>by cases h;exact⟨hs,Nat.le_refl _⟩
 |b::l,s,t,hs,h=>by
  rw[List.foldl_cons] at h
  cases ho:ux s b with
  |none=>rw[show sayF (some s) b=none from ho,Be (fun _=>rfl)] at h;cases h
  |some u=>
   rw[show sayF (some s) b=some u from ho] at h
   have h1:=said_ok hs ho
   have h2:=fold_say l h1.1 h
   refine⟨h2.1,?_⟩
   have h3:=h1.2.1
   have h4:=h2.2
   rw[List.map_cons,List.sum_cons]
   omega
theorem sum_used:∀l:List Bytes,(∀b∈l,b.length≤40000)→(l.map List.length).sum≤48*u7 l
 | [],_=>Nat.le_refl _
 |b::l,h=>by
  have h1:=sum_used l fun x hx=>h x (List.mem_cons_of_mem _ hx)
  have h2:=xx1 (h b (List.mem_cons_self ..))
  have e:u7 (b::l)=kl b.length+u7 l:=rfl
  rw[e,List.map_cons,List.sum_cons]
  omega
theorem sum_take (l:List Bytes) (k:Nat):((l.take k).map List.length).sum≤(l.map List.length).sum:=by
 have e:(l.map List.length).sum=((l.take k).map List.length).sum+((l.drop k).map List.length).sum:=by rw[←List.sum_append,←List.map_append,List.take_append_drop]
 omega
theorem open_say {W:Wl} (hW:Wl.Ok W) {s0:Bytes} {r0:List Bytes} (hp:W.pieces=s0::r0) (k:Nat) {s:Dj} (h:(r0.take k).foldl sayF (xr s0)=some s):s.Ok∧s.row.length≤48000:=by
 cases hs:xr s0 with
 |none=>rw[hs,Be (fun _=>rfl)] at h;cases h
 |some t=>
  rw[hs] at h
  have a:=snap_ok hs
  have b:=fold_say _ a.1 h
  have e:=sum_take r0 k
  have c:=sum_used W.pieces hW.short
  have d:=hW.used
  have f:=hW.room
  have g:=hW.size
  rw[←d,hp,List.map_cons,List.sum_cons] at c
  exact⟨b.1,by omega⟩
def xq4 (o:Option Dj) (ok:Bool) (h:u9):Prop:=o.isSome=ok∧∀s,o=some s→h.s=s∧∃r,h.m=some r
theorem xj3 {K:Nat→Prop} {v u:World} {b:Nat} (hb:b<v.heap.size) (hK:∀y,K y→y≠b):∀y,Grow K v u y→¬One b y:=fun y hy e=>by
 have e:y=b:=e
 rcases hy with hy|hy
 ·exact hK y hy e
 omega
theorem grow_lt {K:Nat→Prop} {v u:World} (hK:∀y,K y→y<v.heap.size) (hv:v.heap.size≤u.heap.size):∀y,Grow K v u y→y<u.heap.size:=fun y hy=>hy.elim (fun e=>Nat.lt_of_lt_of_le (hK y e) hv) fun e=>e.2
abbrev OpnZ:=u9×Bool×(Nat→Prop)
def opnC (w:World) (b6 b7:Nat) (r0:List Bytes) (o:Option Dj):CoS OpnZ w where
  Fp:=fun z y=>y=b6∨y=b7∨z.2.2 y
  J:=fun k z u=>j0 u b6 121 z.1.c∧j0 u b7 4 [.bool z.2.1]∧x7 u z.2.2 z.1∧(∀y,z.2.2 y→y<u.heap.size∧y≠b6∧y≠b7)∧xq4 ((r0.take k).foldl sayF o) z.2.1 z.1
  Jx:=fun _ _ _ _=>False
  st:=fun⟨h1,h2,h3,h4,h5⟩ hE hS=>⟨h1.ext hE fun e=>(hS _ e).2 (.inl rfl),h2.ext hE fun e=>(hS _ e).2 (.inr (.inl rfl)),h3.ext hE fun y hy e=>(hS _ e).2 (.inr (.inr hy)),fun y hy=>⟨Nat.lt_of_lt_of_le (h4 y hy).1 hE.size,(h4 y hy).2⟩,h5⟩
  stx:=fun h _ _=>h.elim
  lt:=fun⟨h1,h2,h3,h4,h5⟩ x e=>by
    rcases e with rfl|rfl|e
    ·exact h1.lt
    ·exact h2.lt
    ·exact(h4 x e).1
  ltx:=fun h=>h.elim
theorem snap_hold {s0:Bytes} (h0:s0≠[]) {h3:u9} (h:∀s,ux yx4 s0=some s→h3.s=s∧∃r,h3.m=some r):(ux yx4 s0=none→xq4 (xr s0) false h3)∧((ux yx4 s0).isSome→xq4 (xr s0) (decide (yg (Az h3.s)=s0)) h3):=by
 unfold xr
 rw[if_neg h0]
 refine⟨fun e=>⟨by rw[e];rfl,fun s k=>by rw[e] at k;cases k⟩,fun e=> ?_⟩
 obtain⟨s,a⟩:=Option.isSome_iff_exists.1 e
 have b:=said_ok yv8 a
 have c:yg (Az s)=qi (Az s):=if_pos ((all_may b.1).2 (by have:=b.2.2;simpa using this))
 rw[a,(h s a).1,c]
 by_cases hc:qi (Az s)=s0
 ·rw[show((some s).bind fun s=>if qi (Az s)=s0 then some s else none)=some s from if_pos hc,decide_eq_true hc]
  exact⟨rfl,fun t e=>by cases e;exact h s a⟩
 rw[show((some s).bind fun s=>if qi (Az s)=s0 then some s else none)=none from if_neg hc,decide_eq_false hc]
 exact⟨rfl,fun t e=>by cases e⟩
theorem xq4.round {o:Option Dj} {ok:Bool} {h h3:u9} {b:Bytes} (k:xq4 o ok h) (hs:∀s,ux h.s b=some s→h3.s=s∧∃r,h3.m=some r) (ht:ok=true):xq4 (sayF o b) (ux h.s b).isSome h3:=by
 obtain⟨s,e⟩:=Option.isSome_iff_exists.1 (k.1.trans ht)
 have a:=(k.2 s e).1
 subst e
 rw[←a]
 exact⟨rfl,hs⟩
theorem xq4.off {o:Option Dj} {ok:Bool} {h:u9} {b:Bytes} (k:xq4 o ok h) (ht:ok=false):xq4 (sayF o b) ok h:=by
 cases o with
 |none=>exact k
 |some s=>exact absurd (k.1.trans ht) (fun e=>by cases e)
theorem sopen_calls (w : World) {d m : Nat} {F : Nat → Prop} {D : kj} (h : At w d F D) (hok : D.Ok m) (hm : m + 10000 < 1000000000) (hr : Rt w) (hF0 : ¬ F 0) :
  gn prog 14 [.pointer (some ⟨d, 0, none⟩)] w fun v w' => ∃ (so : Option Addr) (F' : Nat → Prop), v = .tuple #[.pointer so, .int .i64 (xq9 D).2.1] ∧ At w' d F' (xq9 D).1 ∧ Ext F w w' ∧ (∀ y, F' y → F y ∨ w.heap.size ≤ y) ∧ ((xq9 D).2.2 = none → so = none) ∧ ∀ X, (xq9 D).2.2 = some X → StNew w w' d F' so X := by
 refine Ci func14 rfl rfl rfl rfl ?_
 have q := Ext.refl F w
 refine je rfl (qc rfl (gi call58 rfl (open_calls w h hok hm hr hF0) fun v1 w1 ce => ?_))
 obtain ⟨xo, F2, rfl, A, a9, b5, cf, bq⟩ := ce
 have q := q.then a9
 refine jz rfl (gk (je rfl (jl rfl (fun Y => ?_) (fun Y => ?_))))
 ·have J : xq9 D = ((ui D).1, (ui D).2.1, none) := if_pos Y
  have cg := cf Y
  subst cg
  refine je rfl (gq (gp (Cj [] List.nodup_nil (fun _ h => (by cases h)) [.pointer none, .int .i64 (ui D).2.1] (fun aj p => ?_) (.inl rfl))))
  have b2 : Ext No _ aj := p.mono fun x _ e => by cases e
  exact ⟨⟨rfl, rfl, trivial⟩, none, F2, by rw [J]; rfl, by rw [J]; exact A.ga b2, q.gb b2, b5, fun _ => rfl, fun X e => by rw [J] at e; cases e⟩
 ·have h0 : (ui D).2.1 = 0 := Decidable.not_not.1 Y
  obtain ⟨x, H, rfl, g, br⟩ := bq h0
  have hW := (openW_fine hok).2.2 h0
  obtain ⟨s0, r0, aa⟩ : ∃ s0 r0, (Wl.opened (ui D)).pieces = s0 :: r0 := by
   cases hp : (Wl.opened (ui D)).pieces with
   | nil => exact absurd hp hW.some
   | cons a l => exact ⟨a, l, rfl⟩
  have dj := hW.size.2
  have db := hW.few
  have dc : (Wl.opened (ui D)).pieces.length = r0.length + 1 := by rw [aa]; rfl
  have ar : 0 < (Wl.opened (ui D)).pieces.length := by omega
  have bs : (Wl.opened (ui D)).pieces[0] = s0 := by simp [aa]
  have au : ∀ b ∈ (Wl.opened (ui D)).pieces, b.length < 1000000000 := fun b hb => by have := hW.short b hb; omega
  have ch : (Wl.opened (ui D)).pieces.drop 1 = r0 := by rw [aa]; rfl
  have J : xq9 D = match saidD (Wl.opened (ui D)).pieces with
    | none => ((ui D).1, 201, none)
    | some s => ((ui D).1, 0, some ⟨Wl.opened (ui D), s⟩) := if_neg Y
  have ci : saidD (Wl.opened (ui D)).pieces = r0.foldl sayF (xr s0) := by rw [aa]; rfl
  rw [ci] at J
  obtain ⟨VA, bt⟩ : ∃ VA, VA = w1 := ⟨_, rfl⟩
  have L := A.lt
  have V := g.lt
  have b8 := q
  have o : VA.heap.size ≤ w1.heap.size := by rw [bt]; exact Nat.le_refl _
  rw [← bt] at L V b8
  refine j7 (j1 (qa (qg rfl trivial (l' := hasZ.c) rfl ?_)))
  have cj := o
  refine gi call57 rfl (xz8 w1 (hasZ_at w1 fun _ => False) (fun _ e => e.elim)) fun v2 w2 ck => ?_
  obtain ⟨h1, rfl, b9, ba, hB, ak⟩ := ck
  have A := A.ga ak
  have g := g.ga ak
  have o := Nat.le_trans o ak.size
  have q := q.gb ak
  have cl : ∃ r, h1.m = some r := hB.map.imp fun _ e => e.1
  obtain ⟨K, j, C, t⟩ : ∃ K : Nat → Prop, (∀ y, K y → y < w2.heap.size) ∧ (∀ y, K y → VA.heap.size ≤ y) ∧ x7 w2 K h1 := ⟨_, fun y f => f.2, fun y f => Nat.le_trans cj (f.1.elim (fun e => e.elim) id), hB.hasLt ak.size⟩
  have a3 := j
  have al := o
  refine gw rfl fun b6 w3 bb i ah => ?_
  have bu := Nat.le_trans q.size bb
  have A := A.ga ah
  have g := g.ga ah
  have o := Nat.le_trans o ah.size
  have t := t.ga ah
  have j := fun y f => Nat.lt_of_lt_of_le (j y f) ah.size
  have q := q.gb ah
  have M := yb a3 bb
  have af := Nat.le_trans al bb
  have a3 := j
  have al := o
  refine gw rfl fun b7 w4 av n ab => ?_
  have E := j5 i.lt av
  have bc := Nat.le_trans q.size av
  have i := i.ga ab
  have A := A.ga ab
  have g := g.ga ab
  have o := Nat.le_trans o ab.size
  have t := t.ga ab
  have j := fun y f => Nat.lt_of_lt_of_le (j y f) ab.size
  have q := q.gb ab
  have G := yb a3 av
  have a0 := Nat.le_trans al av
  have am := i
  refine wl (j8 (l' := h1.c) gc i rfl rfl rfl rfl OneC.h fun w5 i ac dk => ?_)
  have n := n.gj ac E.symm
  have A := A.ext ac (yb L af)
  have g := g.ext ac (yb V af)
  have o := Nat.le_trans o ac.size
  have t := t.ext ac M
  have j := fun y f => Nat.lt_of_lt_of_le (j y f) ac.size
  have q := q.gh ac bu
  refine ky n rfl rfl rfl fun w6 n ad dl => ?_
  have i := i.gj ad E
  have A := A.ext ad (yb L a0)
  have g := g.ext ad (yb V a0)
  have o := Nat.le_trans o ad.size
  have t := t.ext ad G
  have j := fun y f => Nat.lt_of_lt_of_le (j y f) ad.size
  have q := q.gh ad bc
  refine qr ?_
  refine jv (α := OpnZ) [4, 6, 7] rfl (fun z => []) (fun z u => (x7 u z.2.2 z.1 ∧ (∀ y, z.2.2 y → y < u.heap.size) ∧ (∀ y, z.2.2 y → y ≠ b6 ∧ y ≠ b7 ∧ VA.heap.size ≤ y) ∧ xq4 (xr s0) z.2.1 z.1 ∧ xi u x d H (Wl.opened (ui D)) ∧ At u d F2 (ui D).1 ∧ VA.heap.size ≤ u.heap.size) ∧ j0 u b6 121 (z.1.c) ∧ j0 u b7 4 ([.bool z.2.1]) ∧ Ext F w u) ?_ ?_
  ·refine gk ?_
   refine yv rfl (gi call59 rfl (snapshot_calls w6 g ar (au _ (List.getElem_mem ar))) fun v7 w7 cm => ?_)
   obtain ⟨q1, k1, rfl, I, dd, a4⟩ := cm
   have i := i.ga a4
   have n := n.ga a4
   have A := A.ga a4
   have g := g.ga a4
   have o := Nat.le_trans o a4.size
   have t := t.ga a4
   have j := fun y f => Nat.lt_of_lt_of_le (j y f) a4.size
   have q := q.gb a4
   rw [bs] at I ⊢
   refine jz rfl (je rfl (jl rfl (fun Y => ?_) (fun Y => ?_)))
   ·have b3 : s0 ≠ [] := fun e => by rw [e] at Y; exact absurd Y zd
    have aw : h1.s = yx4 := by rw [u9.s, b9, ba]; rfl
    refine qa (jh i rfl rfl (j9 gc rfl ?_))
    have a3 := j
    have bd := i.lt
    have bf := n.lt
    have al := o
    refine gi call60 rfl (said_calls w7 t j (by rw [aw]; exact yv8.rise) I.sl (by rw [← bs]; exact au _ (List.getElem_mem ar)) (by rw [b9]; decide) (by rw [ba]; decide) (hr.ext q hF0)) fun v8 w8 cn => ?_
    obtain ⟨h3, rfl, an, co, Z⟩ := cn
    have i := i.ga Z
    have n := n.ga Z
    have A := A.ga Z
    have g := g.ga Z
    have o := Nat.le_trans o Z.size
    have t := t.ga Z
    have j := fun y f => Nat.lt_of_lt_of_le (j y f) Z.size
    have I := I.ext Z fun _ _ => id
    have q := q.gb Z
    rw [aw] at an ⊢
    obtain ⟨K3, j, C, M, G, t⟩ : ∃ K3 : Nat → Prop, (∀ y, K3 y → y < w8.heap.size) ∧ (∀ y, K3 y → VA.heap.size ≤ y) ∧ (∀ y, K3 y → ¬ One b6 y) ∧ (∀ y, K3 y → ¬ One b7 y) ∧ x7 w8 K3 h3 := ⟨_, grow_lt a3 Z.size, fun y f => f.elim (C y) fun e => Nat.le_trans al e.1, xj3 bd M, xj3 bf G, co⟩
    refine j9 gc rfl ?_
    have am := i
    refine wl (j8 (l' := h3.c) gc i rfl rfl rfl rfl OneC.h fun w9 i a5 dm => ?_)
    have n := n.gj a5 E.symm
    have A := A.ext a5 (yb L af)
    have g := g.ext a5 (yb V af)
    have o := Nat.le_trans o a5.size
    have t := t.ext a5 M
    have j := fun y f => Nat.lt_of_lt_of_le (j y f) a5.size
    have I := I.kc a5 am zd
    have q := q.gh a5 bu
    have ag := n
    refine ky n rfl rfl rfl fun cp n S de => ?_
    have i := i.gj S E
    have A := A.ext S (yb L a0)
    have g := g.ext S (yb V a0)
    have o := Nat.le_trans o S.size
    have t := t.ext S G
    have j := fun y f => Nat.lt_of_lt_of_le (j y f) S.size
    have I := I.kc S ag zd
    have q := q.gh S bc
    refine qr (qa (jb n rfl rfl (qr (vj rfl (fun Y => ?_) (fun Y => ?_)))))
    ·refine gk ?_
     refine j4 (jh i rfl rfl (gi call61 rfl (sall_calls cp t) fun dn cq bv => ?_))
     obtain ⟨B, rfl, cr, cs, N⟩ := bv
     have i := i.ga N
     have n := n.ga N
     have A := A.ga N
     have g := g.ga N
     have o := Nat.le_trans o N.size
     have t := t.ga N
     have j := fun y f => Nat.lt_of_lt_of_le (j y f) N.size
     have I := I.ext N fun _ _ => id
     have q := q.gb N
     refine gi call30 rfl (yx cq cs) fun dp dq bw => ?_
     obtain ⟨q2, k2, rfl, bx, O⟩ := bw
     have i := i.ga O
     have n := n.ga O
     have A := A.ga O
     have g := g.ga O
     have o := Nat.le_trans o O.size
     have t := t.ga O
     have j := fun y f => Nat.lt_of_lt_of_le (j y f) O.size
     have I := I.ext O fun _ _ => id
     have q := q.gb O
     rw [cr] at bx ⊢
     refine jz rfl (yv rfl (wl (zv6 gc rfl rfl bx.sl (j9 gc rfl (wl (zv6 gc rfl rfl I.sl (j9 gc rfl ?_)))))))
     have ag := n
     refine ky n rfl rfl rfl fun dr n T df => ?_
     have i := i.gj T E
     have A := A.ext T (yb L a0)
     have g := g.ext T (yb V a0)
     have o := Nat.le_trans o T.size
     have t := t.ext T G
     have j := fun y f => Nat.lt_of_lt_of_le (j y f) T.size
     have I := I.kc T ag zd
     have q := q.gh T bc
     refine gm ?_
     have e7 : decide (uo (yg (Az h3.s)) = uo s0) = decide (yg (Az h3.s) = s0) := by rw [decide_eq_decide]; exact ⟨fun e => A6 e, fun e => by rw [e]⟩
     rw [e7] at n
     exact gz (h3, decide (yg (Az h3.s) = s0), K3) rfl ⟨⟨t, j, fun y f => ⟨M y f, G y f, C y f⟩, (snap_hold b3 an).2 Y, g, A, o⟩, i, n, q⟩
    ·refine j7 ?_
     rw [Y] at n
     exact gz (h3, false, K3) rfl ⟨⟨t, j, fun y f => ⟨M y f, G y f, C y f⟩, (snap_hold b3 an).1 (Option.not_isSome_iff_eq_none.1 (by rw [Y]; decide)), g, A, o⟩, i, n, q⟩
   ·have bz : s0 = [] := List.eq_nil_of_length_eq_zero zo
    have aw : h1.s = yx4 := by rw [u9.s, b9, ba]; rfl
    refine j7 ?_
    exact gz (h1, true, K) rfl ⟨⟨t, j, fun y f => ⟨M y f, G y f, C y f⟩, (by rw [bz]; exact ⟨rfl, fun s e => (by cases e; exact ⟨aw, cl⟩)⟩), g, A, o⟩, i, n, q⟩
  rintro ⟨h2, ok, K2⟩ ct ⟨⟨t, j, C, hO, g, A, o⟩, i, n, q⟩
  try dsimp only
  dsimp only at t j C hO i n
  have c0 := A.own
  have M : ∀ y, K2 y → ¬ One b6 y := fun y f => (C y f).1
  have G : ∀ y, K2 y → ¬ One b7 y := fun y f => (C y f).2.1
  refine gk (qc rfl ?_)
  have l6 := i.lt
  have l7 := n.lt
  have a3 := j
  have ds := o
  refine gi call62 rfl (all_calls ct g ar zo) fun dt cu c1 => ?_
  obtain ⟨bA, qA, cA, cv, rfl, c2, bg, c3, du, bh, P⟩ := c1
  have i := i.ga P
  have n := n.ga P
  have A := A.ga P
  have g := g.ga P
  have o := Nat.le_trans o P.size
  have t := t.ga P
  have j := fun y f => Nat.lt_of_lt_of_le (j y f) P.size
  have q := q.gb P
  rw [ch] at c2 bg c3 bh
  have dv := P.size
  refine qr (gr ?_)
  refine c_iterV (opnC cu b6 b7 r0 (xr s0)) ((h2, ok, K2)) rfl call139 rfl AllA.size (fun w1 a9 => all1_iter w1 (ps := r0) (c2.ga a9) (by by_cases h0 : r0.length = 0; exact ⟨bg.1, .inl h0⟩; exact bg.ext a9 fun _ _ _ => id) (c3.ext a9 fun _ _ _ => id) (fun y bi e h0 => Nat.lt_of_lt_of_le (bh y bi e h0).2 a9.size) (fun y f => by have := V y f; have := a9.size; omega) zo (fun b hb => au b (by rw [aa]; exact List.mem_cons_of_mem _ hb))) (fun y f => by
 rcases f with ⟨bi, e, h⟩ | f
 ·have h1 := bh y bi e h
  refine ⟨h1.2, fun e2 => ?_⟩
  rcases e2 with e2 | e2 | e2
  ·omega
  ·omega
  ·have := a3 y e2; omega
 ·have h1 := V y f
  refine ⟨by omega, fun e2 => ?_⟩
  rcases e2 with e2 | e2 | e2
  ·omega
  ·omega
  ·have := (C y e2).2.2; omega) ⟨i, n, t, fun y f => ⟨j y f, (C y f).1, (C y f).2.1⟩, hO⟩ (fun l DD r k z W vs Xn a6 ax hJ hk A => ?_) (fun DD z W hJ hE b4 cw ai c4 => ?_) (fun DD k c z W hk hJ hE b4 cw ai c4 => ?_)
  ·have Q := a6.l
   obtain ⟨h3, ay, K3⟩ := z
   obtain ⟨i, n, t, ae, hO⟩ := hJ
   dsimp only at i n t ae hO
   obtain ⟨qb, cb, rfl, a1, rfl⟩ := A
   have az : k < r0.length := hk
   obtain ⟨Bk, bj⟩ : ∃ Bk, Bk = r0.getD k [] := ⟨_, rfl⟩
   rw [← bj] at a1 ⊢
   have c5 : (r0.take (k + 1)).foldl sayF (xr s0) = sayF ((r0.take k).foldl sayF (xr s0)) Bk := by
    rw [Bx az, bj, List.getD_eq_getElem?_getD, List.getElem?_eq_getElem az]; rfl
   have cx : Bk.length < 1000000000 := au Bk (by rw [aa, bj, List.getD_eq_getElem?_getD, List.getElem?_eq_getElem az]; exact List.mem_cons_of_mem _ (List.getElem_mem az))
   have j : ∀ y, K3 y → y < W.heap.size := fun y f => (ae y f).1
   have M : ∀ y, K3 y → ¬ One b6 y := fun y f => (ae y f).2.1
   have G : ∀ y, K3 y → ¬ One b7 y := fun y f => (ae y f).2.2
   have dw := L d c0
   have cy : ¬ (((0 = b6 ∨ 0 = b7 ∨ K3 0) ∨ 0 = l) ∨ jd qb 0) := fun e => by
    rcases e with ((e | e | e) | e) | e
    ·omega
    ·omega
    ·rcases a6.sub 0 (.inr (.inr e)) with (e | e | e) | e
     ·omega
     ·omega
     ·have := (C 0 e).2.2; omega
     ·omega
    ·have := a6.lo.1; omega
    ·have := (ax.ne 0 e).1; omega
   have cz : Rt W := (hr.ext q hF0).ext a6.X fun e => by
    have h0 := L d c0
    rcases e with e | e | e
    ·omega
    ·omega
    ·have := (C 0 e).2.2; omega
   have d0 := i.neL Q
   have d1 := n.neL Q
   have q : Ext (fun x => ((x = b6 ∨ x = b7 ∨ K3 x) ∨ x = l) ∨ jd qb x) W W := Ext.refl _ _
   refine yi (zw1 gc rfl (zx (fin_begin a6 Q fun d2 a2 c6 => ?_)))
   have i := i.extL Q a2
   have n := n.extL Q a2
   have t := t.ext a2 fun y f e => (a6.fp _ (.inr (.inr f))).1 e
   have a1 := a1.ext a2 fun y f e => (ax.ne y f).2.1 e
   have j := fun y f => Nat.lt_of_lt_of_le (j y f) a2.size
   have Q := c6
   have q := q.then (a2.mono fun x _ e => .inl (.inr e))
   refine ci_block (yx9 (yi (wli (.round _) rfl (st_ldb gc n rfl rfl (zx (zq2 (ci_cond rfl (fun Y => ?_) (fun Y => ?_))))))))
   ·refine yi ?_
    refine wli (.round _) rfl (st_ldB gc i rfl rfl (zw1 gc rfl ?_))
    obtain ⟨s, ao⟩ := Option.isSome_iff_exists.1 (hO.1.trans Y)
    have bk := (hO.2 s ao).1
    have bm := open_say hW aa k ao
    have dx : h3.hs.length ≤ 48000 := by have e := bm.2; rw [← bk, u9.s, List.length_map] at e; exact e
    have dy : h3.vs.length ≤ 128 := by have e := bm.1.few; rw [← bk, u9.s, List.length_map] at e; exact e
    have a3 := j
    have bd := i.lt
    have bf := n.lt
    have d3 := q.size
    refine wli (.round _) rfl (j3 call60 rfl (said_calls d2 t j (by rw [bk]; exact bm.1.rise) a1.sl cx zo zo (cz.ext q cy)) fun dz c7 c8 => ?_)
    obtain ⟨h4, rfl, d4, d5, U⟩ := c8
    have i := i.ga U
    have n := n.ga U
    have t := t.ga U
    have a1 := a1.ext U fun _ _ => id
    have j := fun y f => Nat.lt_of_lt_of_le (j y f) U.size
    have Q := ym Q U id
    have q := q.gb U
    obtain ⟨K4, j, c9, M, G, t⟩ : ∃ K4 : Nat → Prop, (∀ y, K4 y → y < c7.heap.size) ∧ (∀ y, K4 y → K3 y ∨ W.heap.size ≤ y) ∧ (∀ y, K4 y → ¬ One b6 y) ∧ (∀ y, K4 y → ¬ One b7 y) ∧ x7 c7 K4 h4 := ⟨_, grow_lt a3 U.size, fun y f => f.imp id fun e => Nat.le_trans d3 e.1, xj3 bd M, xj3 bf G, d5⟩
    refine zw1 gc rfl ?_
    have am := i
    refine wli (.round _) rfl (j8 (l' := h4.c) gc i rfl rfl rfl rfl OneC.h fun e0 i a7 dg => ?_)
    have n := n.gj a7 E.symm
    have t := t.ext a7 M
    have j := fun y f => Nat.lt_of_lt_of_le (j y f) a7.size
    have Q := ym Q a7 d0.symm
    have q := q.then (a7.mono fun x _ e => by have e : x = b6 := e; subst e; exact (.inl (.inl (.inl rfl))))
    have ag := n
    refine wli (.round _) rfl (xv gc n rfl rfl rfl fun e1 n a8 dh => ?_)
    have i := i.gj a8 E
    have t := t.ext a8 G
    have j := fun y f => Nat.lt_of_lt_of_le (j y f) a8.size
    have Q := ym Q a8 d1.symm
    have q := q.then (a8.mono fun x _ e => by have e : x = b7 := e; subst e; exact (.inl (.inl (.inr (.inl rfl)))))
    refine zx ?_
    exact jy (fin_nextV ((h4, (ux h3.s Bk).isSome, K4)) a6 ax Q q (fun y f => by
 rcases f with f | f | f
 ·exact .inl (.inl f)
 ·exact .inl (.inr (.inl f))
 ·exact (c9 y f).elim (fun e => .inl (.inr (.inr e))) fun e => .inr (.inr e)) (⟨i, n, t, fun y f => ⟨j y f, M y f, G y f⟩, by rw [c5]; exact hO.round d4 Y⟩))
   ·refine ci_skip ?_
    exact jy (fin_nextV ((h3, ay, K3)) a6 ax Q q (fun y f => .inl f) (⟨i, n, t, fun y f => ⟨j y f, M y f, G y f⟩, by rw [c5]; exact hO.off Y⟩))
  ·obtain ⟨h3, ay, K3⟩ := z
   obtain ⟨i, n, t, ae, hO⟩ := hJ
   dsimp only at i n t ae hO
   rw [List.take_length] at hO
   have j : ∀ y, K3 y → y < W.heap.size := fun y f => (ae y f).1
   have b0 : ∀ y, (y = b6 ∨ y = b7 ∨ K2 y) → VA.heap.size ≤ y := fun y e => by
    rcases e with e | e | e
    ·omega
    ·omega
    ·exact (C y e).2.2
   have bn : ∀ y, K3 y → VA.heap.size ≤ y := fun y f => (b4 y (.inr (.inr f))).elim (b0 y) fun e => by omega
   have d6 : ∀ y, K3 y → y ≠ DD := fun y f => c4 _ (.inr (.inr f))
   have g := g.ext hE fun y f e => by have := b0 y e; have := V y f; omega
   have A := A.ext hE fun y f e => by have := b0 y e; have := L y f; omega
   have q : Ext F w W := q.trans (hE.mono fun y f e => (show VA.heap.size ≤ y from b0 y e)) fun y f e => by have := b8.size; omega
   have e3 := uk ai
   refine jy (j1 (gk (qa (jb n rfl rfl (jz rfl (vj rfl (fun Y => ?_) (fun Y => ?_)))))))
   ·have d7 : ay = false := by simpa using Y
    have bo : r0.foldl sayF (xr s0) = none := Option.not_isSome_iff_eq_none.1 (by rw [hO.1, d7]; decide)
    rw [bo] at J
    refine je rfl (gq (gp (Cj [DD] zp (fun x hx => by rw [List.mem_singleton.1 hx]; exact ai) [.pointer none, .int .i64 201] (fun aj p => ?_) (.inl rfl))))
    have R : ∀ x, x ∈ [DD] → x = DD := fun x hx => List.mem_singleton.1 hx
    refine ⟨⟨rfl, rfl, trivial⟩, none, F2, by rw [J]; rfl, by rw [J]; exact A.ext p fun y f e => by have := L y f; have := R y e; omega, q.trans p fun y f e => by have := R y e; omega, b5, fun _ => rfl, fun X e => by rw [J] at e; cases e⟩
   ·have d8 : ay = true := by simpa using Y
    obtain ⟨s, ao⟩ := Option.isSome_iff_exists.1 (hO.1.trans d8)
    rw [ao] at J
    have ca := hO.2 s ao
    refine j7 (j1 (qc rfl (jh i rfl rfl (qg rfl ⟨⟨rfl, by decide⟩, ⟨rfl, by decide⟩, trivial⟩ (l' := (.pointer (some ⟨x, 0, none⟩) :: h3.c)) rfl ?_))))
    have d9 := j
    have e4 := q.size
    refine gw rfl fun b1 aj ap aq p => ?_
    have cc := j5 i.lt ap
    have cd := j5 n.lt ap
    have di := Nat.le_trans q.size ap
    have i := i.ga p
    have n := n.ga p
    have ai := ym ai p id
    have g := g.ga p
    have A := A.ga p
    have t := t.ga p
    have j := fun y f => Nat.lt_of_lt_of_le (j y f) p.size
    have q := q.gb p
    have aq : j0 aj b1 123 ((.pointer (some ⟨x, 0, none⟩) :: h3.c)) := aq
    refine jz rfl (gq (Cj [DD] zp (fun x hx => by rw [List.mem_singleton.1 hx]; exact ai) [.pointer (some ⟨b1, 0, none⟩), .int .i64 0] (fun aj p => ?_) (.inl rfl)))
    have R : ∀ x, x ∈ [DD] → x = DD := fun x hx => List.mem_singleton.1 hx
    have bp := p.size
    refine ⟨⟨rfl, rfl, trivial⟩, some ⟨b1, 0, none⟩, F2, by rw [J]; rfl, by rw [J]; exact A.ext p fun y f e => by have := L y f; have := R y e; omega, q.trans p fun y f e => by have := R y e; omega, b5, fun e => (by rw [J] at e; cases e), fun X e => ?_⟩
    rw [J] at e
    have e : some (⟨Wl.opened (ui D), s⟩ : Sd) = some X := e
    cases e
    have da := b8.size
    refine ⟨b1, x, H, K3, h3, rfl, ⟨aq.ext p fun e => by have := R _ e; omega, A.ext p fun y f e => by have := L y f; have := R y e; omega, g.ext p fun y f e => by have := V y f; have := R y e; omega, t.ext p fun y f e => d6 y f (R y e), ca.1, ca.2, fun y f => (br y f).2, fun y f => ⟨fun e => by have := bn y f; have := L y e; omega, fun e => by have := bn y f; have := V y e; omega⟩, ⟨fun e => by have := L _ e; omega, fun e => by have := V _ e; omega, fun e => by have := d9 _ e; omega⟩, fun y f => Nat.lt_of_lt_of_le (j y f) bp⟩, fun y f => ?_⟩
    rcases f with f | f | rfl
    ·exact (br y f).1
    ·exact Nat.le_trans da (bn y f)
    ·omega
  ·exact hJ.elim
theorem Cp (w:World) (s:Str) (n:Nat) (_hn:n<100000):gn prog 68 [xn s,.int .i64 (n:Int)] w fun v w'=>v=xn (s.take n)∧w'=w:=by
 refine gx func68 ?_
 have a:=Ext.refl No w
 refine je rfl (qc rfl (wl (st_ss gc rfl 0 (min _ n) (cutBds _ _) ?_)))
 rw[strU_cut]
 refine jz rfl (gq (gu rfl rfl ?_))
 exact⟨rfl,rfl⟩
def zz9 (r:jf):jf:=⟨r.path.take 60,r.id⟩
def chgS (r:ud):ud:=⟨r.path.take 60,r.is,r.text.take 257⟩
def smL (o:jk):jk:={o with leaves:=o.leaves.take 40}
def smP (o:jk):jk:={smL o with parents:=o.parents.take 4}
def smO (o:jk):jk:={smP o with rows:=o.rows.take 8}
def smT (o:jk):jk:={smO o with text:=o.text.take 257}
def smN (o:jk):jk:={smT o with note:=o.note.take 300}
def xv5 (o:jk):jk:={smN o with leaves:=(o.leaves.take 40).map zz9,rows:=(o.rows.take 8).map chgS}
theorem smL_in {o:jk} (h:qv o):qv (smL o):=⟨h.tree,h.base,h.parents,fun r hr=>h.leaves r (List.mem_of_mem_take hr),h.rows,h.number,h.author⟩
theorem smP_in {o:jk} (h:qv o):qv (smP o):=⟨h.tree,h.base,fun r hr=>h.parents r (List.mem_of_mem_take hr),(smL_in h).leaves,h.rows,h.number,h.author⟩
theorem Br {o:jk} (h:qv o):qv (smO o):=⟨h.tree,h.base,(smP_in h).parents,(smL_in h).leaves,fun r hr=>h.rows r (List.mem_of_mem_take hr),h.number,h.author⟩
theorem smT_in {o:jk} (h:qv o):qv (smT o):=⟨h.tree,h.base,(Br h).parents,(Br h).leaves,(Br h).rows,h.number,h.author⟩
theorem zv5 {o:jk} (h:qv o):qv (smN o):=⟨h.tree,h.base,(Br h).parents,(Br h).leaves,(Br h).rows,h.number,h.author⟩
structure ObjCap (x:jk) (a:vd):Prop where
  leaves:x.leaves.length≤a.lc
  parents:x.parents.length≤a.pc
  rows:x.rows.length≤a.rc
theorem objC_smP {x:jk} {a:vd} (h:qv x):(jw (smL x) a).set (68+0) (.slice a.pp (x.parents.take 4).length a.pc)=jw (smP x) a:=Au (smL_in h) 0 _
theorem objC_smO {x:jk} {a:vd} (h:qv x):(jw (smP x) a).set (68+1) (.slice a.rp (x.rows.take 8).length a.rc)=jw (smO x) a:=Au (smP_in h) 1 _
theorem objC_smN {x:jk} {a:vd} (h:qv x):(jw (smT x) a).set (68+4) (xn (x.note.take 300))=jw (smN x) a:=Au (smT_in h) 4 _
theorem objC_objS (x:jk) (a:vd):jw (xv5 x) a=jw (smN x) a:=by
 simp only[jw,xv5,smN,smT,smO,smP,smL,List.length_map]
theorem smO_l {w:World} {x:jk} {a:vd} (h:Bh w x a) (hx:qv x):Bh w (smO x) a:=
 ⟨h.leaves.cut (fun r hr=>jf.len (hx.leaves r hr).2) 40,h.parents.cut (fun r hr=>(by rw[gl];exact hx.parents r hr)) 4,h.rows.cut (fun r _=>r.len) 8⟩
theorem smO_leaves (x:jk):(smO x).leaves.length<1000000000:=Nat.lt_of_le_of_lt (by show(x.leaves.take 40).length≤40;rw[List.length_take];omega) (by decide:40<1000000000)
theorem smO_parents (x:jk):(smO x).parents.length<1000000000:=Nat.lt_of_le_of_lt (by show(x.parents.take 4).length≤8;rw[List.length_take];omega) (by decide:8<1000000000)
theorem smO_rows (x:jk):(smO x).rows.length<1000000000:=Nat.lt_of_le_of_lt (by show(x.rows.take 8).length≤8;rw[List.length_take];omega) (by decide:8<1000000000)
theorem leaf_cutS {L:List jf} (hL:∀r∈L,r.id.length=32) {i:Nat} (hi:i<L.length):
  ((upto zz9 i L).flatMap jf.cells).set (i*33+0) (xn ((L[i]).path.take 60))=(upto zz9 (i+1) L).flatMap jf.cells:=by
 have a:i<(upto zz9 i L).length:=by rw[yz7];exact hi
 have b:∀r∈upto zz9 i L,(jf.cells r).length=33:=upto_mem (fun r c=>jf.len (hL r c)) (fun r h=>h)
 rw[Go.Vc.yj0 b a zd (y:=zz9 L[i]) (by rw[upto_get hi];rfl),upto_step hi]
theorem chg_cutS {L:List ud} {i:Nat} (hi:i<L.length):
  (((upto chgS i L).flatMap ud.cells).set (i*3+0) (xn ((L[i]).path.take 60))).set (i*3+2) (xn ((L[i]).text.take 257))=(upto chgS (i+1) L).flatMap ud.cells:=by
 have a:i<(upto chgS i L).length:=by rw[yz7];exact hi
 rw[Go.Vc.yj0 (fun r _=>r.len) a zd (y:=⟨(L[i]).path.take 60,(L[i]).is,(L[i]).text⟩) (by rw[upto_get hi];rfl),
  Go.Vc.yj0 (fun r _=>r.len) (by rw[List.length_set];exact a) zd (y:=chgS L[i]) (by rw[List.getElem_set_self];rfl),List.set_set,upto_step hi]
theorem Own.row {α:Type} {w:World} {p:Option Addr} {c T sz:Nat} {g:α→α} {f:α→List Value} {i:Nat} {l:List α} (h:Own w p l.length c T sz ((upto g i l).flatMap f)) (hn:∀x∈upto g i l,(f x).length=sz) {b:Nat} (hp:p=some ⟨b,0,none⟩) (hi:i<l.length):Seg w b (i*sz) (f l[i]):=by
 have a:=h.sl
 have d:Sl w p (upto g i l).length sz ((upto g i l).flatMap f):=by rw[yz7];exact a
 have j:i<(upto g i l).length:=by rw[yz7];exact hi
 obtain⟨n,k,e,m⟩:=d.qm hn zo
 rw[hp] at e
 cases e
 have:=m i j
 rw[upto_get hi,Nat.zero_add] at this
 exact this
theorem lsmall_calls (w:World) {x:jk} {a:vd} (hx:qv x) (hxl:Bh w x a) (hcap:ObjCap x a):
  gn prog 67 [.agg (jw x a).toArray] w fun v w'=>∃a',v= .agg (jw (xv5 x) a').toArray∧u6 w w' (xv5 x) a'∧Ext No w w':=by
 refine gx func67 ?_
 have g:=Ext.refl No w
 refine qa (gw rfl fun N w1 bb b bc=> ?_)
 have O:=Nat.le_trans g.size bb
 have g:=g.gb bc
 have b:j0 w1 N 37 (jw x a):=b
 refine gw rfl fun b2 w2 au c av=> ?_
 have o:=j5 b.lt au
 have bd:=Nat.le_trans g.size au
 have b:=b.ga av
 have g:=g.gb av
 refine qr (gk ?_)
 refine c_drawL gc rfl [] 24 [11,12,13,20,21,22] [qP 0,qP 1,qP 2,qP 3,qP 4,qP 5,qP 6,qP 7,qP 8,qP 9,qP 10,qP 14,qP 15,qP 16,qP 17,qP 18,qP 19,qP 23] [41,42,43,50,51,52,24,25,26,27,28,29] (No) zk rfl fun w3 ae c3=> ?_
 have n:=b
 have b:=b.ga ae
 have c:=c.ga ae
 have g:=g.gb ae
 refine gv gc 1 rfl (j6 gc rfl rfl (fun w' k=>((n.ga k).ko.obj hx).leaves) ?_)
 refine gv gc 1 rfl (j6 gc rfl rfl (fun w' k=>((n.ga k).ko.obj hx).leaves) ?_)
 refine gv gc 2 rfl (zx1 gc rfl rfl 0 (min x.leaves.length 40) a.lc 33 rfl (.inr ⟨rfl,rfl⟩) (.inl (congrArg some (minI _ _))) (.inr ⟨rfl,rfl⟩) (Nat.zero_le _) (by have:=hcap.leaves;omega) (Nat.le_refl _) ?_)
 rw[ka,Nat.sub_zero,Nat.sub_zero,Av]
 refine gv gc 1 rfl (j6 gc rfl rfl (fun w' k=>((n.ga k).ko.obj hx).parents) ?_)
 refine gv gc 1 rfl (j6 gc rfl rfl (fun w' k=>((n.ga k).ko.obj hx).parents) ?_)
 refine gv gc 2 rfl (j6 gc rfl rfl (fun w' k=>((n.ga k).ko.obj hx).rows) ?_)
 refine gv gc 2 rfl (j6 gc rfl rfl (fun w' k=>((n.ga k).ko.obj hx).rows) ?_)
 refine gv gc 1 rfl (jj (wbf gc (i:=11) rfl rfl rfl rfl rfl zk (wbf gc (i:=12) rfl rfl rfl rfl rfl zk ?_)))
 refine wb_sl gc (i:=13) rfl rfl rfl 0 (min x.parents.length 4) a.pc 32 rfl (.inr ⟨rfl,rfl⟩) (.inl (congrArg some (minI _ _))) (.inr ⟨rfl,rfl⟩) (Nat.zero_le _) (by have:=hcap.parents;omega) (Nat.le_refl _) zk ?_
 rw[ka,Nat.sub_zero,Nat.sub_zero,Av]
 refine wbf gc (i:=20) rfl rfl rfl rfl rfl zk (wbf gc (i:=21) rfl rfl rfl rfl rfl zk ?_)
 refine wb_sl gc (i:=22) rfl rfl rfl 0 (min x.rows.length 8) a.rc 3 rfl (.inr ⟨rfl,rfl⟩) (.inl (congrArg some (minI _ _))) (.inr ⟨rfl,rfl⟩) (Nat.zero_le _) (by have:=hcap.rows;omega) (Nat.le_refl _) zk ?_
 rw[ka,Nat.sub_zero,Nat.sub_zero,Av]
 refine wb rfl (xv gc b rfl rfl rfl fun w4 b aw c4=> ?_)
 have c:=c.gj aw o.symm
 have g:=g.gh aw O
 have b:j0 w4 N 37 (jw (smL x) a):=b
 refine wb rfl (Dg gc rfl rfl rfl ?_)
 refine wb rfl (u4 gc b rfl rfl (by rw[gt (smL_in hx)];decide) fun w5 b ax c5=> ?_)
 have c:=c.gj ax o.symm
 have g:=g.gh ax O
 have b:j0 w5 N 37 (jw (smP x) a):=(by have h:j0 _ N _ ((jw (smL x) a).set (68+0) (.slice a.pp (x.parents.take 4).length a.pc)):=b;rw[objC_smP hx] at h;exact h)
 refine wb rfl (Dg gc rfl rfl rfl (wb rfl (Dg gc rfl rfl rfl ?_)))
 refine wb rfl (u4 gc b rfl rfl (by rw[gt (smP_in hx)];decide) fun w6 b ay c6=> ?_)
 have c:=c.gj ay o.symm
 have g:=g.gh ay O
 have b:j0 w6 N 37 (jw (smO x) a):=(by have h:j0 _ N _ ((jw (smP x) a).set (68+1) (.slice a.rp (x.rows.take 8).length a.rc)):=b;rw[objC_smO hx] at h;exact h)
 refine ja (j1 (qa (jh b rfl (gt (Br hx)) ?_)))
 have af:=g
 refine gi call122 rfl (copy6_calls w6 (Br hx) (smO_l (hxl.ga g) hx) (smO_leaves x) (smO_parents x) (smO_rows x)) fun v7 w7 bf=> ?_
 obtain⟨⟨T,R,U,V,W,S⟩,rfl,hN,ag⟩:=bf
 have b:=b.ga ag
 have c:=c.ga ag
 have g:=g.gb ag
 have az:=fun y hy=>Nat.le_trans af.size (hN.nl y hy)
 have bg:=fun y hy=>Nat.le_trans af.size (hN.np y hy)
 have ah:=fun y hy=>Nat.le_trans af.size (hN.nr y hy)
 have e:Own w7 T (x.leaves.take 40).length R 148 33 ((upto zz9 0 (x.leaves.take 40)).flatMap jf.cells):=(upto_zero zz9 _).symm▸hN.ol
 have d:Own w7 U (x.parents.take 4).length V 30 32 ((x.parents.take 4).flatMap ge):=hN.op
 have f:Own w7 W (x.rows.take 8).length S 150 3 ((upto chgS 0 (x.rows.take 8)).flatMap ud.cells):=(upto_zero chgS _).symm▸hN.or
 have m:=b
 refine wl (j8 (l':=jw (smO x) ⟨T,R,U,V,W,S⟩) gc b rfl rfl (gt (Br hx)) (by rw[gt (Br hx),gt (Br hx)]) OneC.h fun w8 b X c7=> ?_)
 have c:=c.gj X o.symm
 have e:=e.kc X m zd
 have d:=d.kc X m zd
 have f:=f.kc X m zd
 have g:=g.gh X O
 refine qr (gk (js rfl 7 [qP 0,qP 1,qP 3,qP 4,(2,false),qP 6,(5,false)] [7,8,9] (No) zk fun w9 K c8=> ?_))
 have n:=b
 have b:=b.ga K
 have c:=c.ga K
 have e:=e.ext K fun _ _=>id
 have d:=d.ext K fun _ _=>id
 have f:=f.ext K fun _ _=>id
 have g:=g.gb K
 have J:Ext (No) _ w9:=K.no
 refine gv gc 1 rfl (j6 gc rfl rfl (fun w' k=>((n.ga k).ko.obj (Br hx)).text) ?_)
 refine gv gc 1 rfl (j6 gc rfl rfl (fun w' k=>((n.ga k).ko.obj (Br hx)).note) ?_)
 refine jg rfl (j3 call68 rfl (Cp w9 _ 257 zd) fun c9 bh a7=>⟨(by obtain⟨rfl,rfl⟩:=a7;exact J),?_⟩)
 obtain⟨rfl,rfl⟩:=a7
 have J:=J
 refine gv gc 1 rfl (jg rfl (j3 call68 rfl (Cp bh _ 300 zd) fun ca cb a8=>⟨(by obtain⟨rfl,rfl⟩:=a8;exact J),?_⟩))
 obtain⟨rfl,rfl⟩:=a8
 have J:=J
 refine jj ?_
 have m:=b
 refine wb rfl (xv gc b rfl rfl rfl fun bi b E bs=> ?_)
 have c:=c.gj E o.symm
 have e:=e.kc E m zd
 have d:=d.kc E m zd
 have f:=f.kc E m zd
 have g:=g.gh E O
 have b:j0 bi N 37 (jw (smT x) ⟨T,R,U,V,W,S⟩):=b
 refine wb rfl (Dg gc rfl rfl rfl ?_)
 have m:=b
 refine wb rfl (u4 gc b rfl rfl (by rw[gt (smT_in hx)];decide) fun bj b F bt=> ?_)
 have c:=c.gj F o.symm
 have e:=e.kc F m zd
 have d:=d.kc F m zd
 have f:=f.kc F m zd
 have g:=g.gh F O
 have b:j0 bj N 37 (jw (smN x) ⟨T,R,U,V,W,S⟩):=(by have h:j0 _ N _ ((jw (smT x) ⟨T,R,U,V,W,S⟩).set (68+4) (xn (x.note.take 300))):=b;rw[objC_smN hx] at h;exact h)
 refine ja (j1 (gk (qc rfl (gy rfl (b.ko.obj (zv5 hx)).leaves (jz rfl (gr ?_))))))
 refine jm (α:=Nat) [1,2,45,46] rfl (fun z=>[(47,.int .i64 (z:Int))]) (fun z u=>(z≤(x.leaves.take 40).length∧Own u T (x.leaves.take 40).length R 148 33 ((upto zz9 z (x.leaves.take 40)).flatMap jf.cells)∧Own u U (x.parents.take 4).length V 30 32 ((x.parents.take 4).flatMap ge)∧Own u W (x.rows.take 8).length S 150 3 ((upto chgS 0 (x.rows.take 8)).flatMap ud.cells))∧j0 u N 37 (jw (smN x) ⟨T,R,U,V,W,S⟩)∧j0 u b2 37 (cellsOf ti37.zero)∧Ext No w u) (fun z u=>(x.leaves.take 40).length-z) (0) rfl ⟨⟨Nat.zero_le _,e,d,f⟩,b,c,g⟩ ?_
 rintro i cc ⟨⟨hi,e,d,f⟩,b,c,g⟩
 refine je rfl (gk (jl rfl (fun hc=> ?_) (fun hc=> ?_)))
 ·have bk:(x.leaves.take 40).length≤40:=by rw[List.length_take];omega
  have hi:i<(x.leaves.take 40).length:=(by have h:i<(smN x).leaves.length:=zo;exact h)
  have Y:∀r∈(x.leaves.take 40),r.id.length=32:=fun r hr=>(hx.leaves r (List.mem_of_mem_take hr)).2
  have ai:=jf.len (Y _ (List.getElem_mem hi))
  obtain⟨D,L,hp,l,hL,P,aj,ak⟩:=e.opened zo
  have Z:=Own.row e (upto_mem (fun r hr=>jf.len (Y r hr)) (fun r h=>h)) hp hi
  subst hp
  have Q:N≠D:=b.ne l zd
  have a4:b2≠D:=c.ne l zd
  refine xz (gr (qc rfl (ki rfl 33 rfl i rfl hi (0+i*33) rfl ?_)))
  rw[Nat.zero_add]
  refine jr rfl Z ai ?_
  have b0:=l.lt
  refine gw rfl fun b4 cd al a5 s=> ?_
  have am:=j5 b.lt al
  have an:=j5 c.lt al
  have bm:=Nat.le_trans g.size al
  have b:=b.ga s
  have c:=c.ga s
  have d:=d.ext s fun _ _=>id
  have f:=f.ext s fun _ _=>id
  have l:=l.ga s
  have g:=g.gb s
  have b3:D≠b4:=by omega
  refine j9 gc rfl ?_
  have a9:=a5
  refine wl (j8 (l':=jf.cells (x.leaves.take 40)[i]) gc a5 rfl rfl ai (by rw[ai];rfl) OneC.h fun ce a5 t bu=> ?_)
  have b:=b.gj t am
  have c:=c.gj t an
  have d:=d.kc t a9 zd
  have f:=f.kc t a9 zd
  have l:=l.gj t b3
  have g:=g.gh t bm
  refine qr (js rfl 8 [qP 0,qP 1,qP 2,qP 3,qP 4,(5,false),qP 6,qP 7] [8] (No) zk fun b5 p bv=> ?_)
  have n:=b
  have bn:=a5
  have b:=b.ga p
  have c:=c.ga p
  have d:=d.ext p fun _ _=>id
  have f:=f.ext p fun _ _=>id
  have l:=l.ga p
  have g:=g.gb p
  have J:Ext (No) _ b5:=p.no
  refine gv gc 1 rfl (j6 gc rfl rfl (fun w' k=>((n.ga k).ko.obj (zv5 hx)).leaves) ?_)
  refine gv gc 2 rfl (j6 gc rfl rfl (fun w' k=>((bn.ga k).cell rfl)) ?_)
  refine jg rfl (j3 call68 rfl (Cp b5 _ 60 zd) fun cf cg aa=>⟨(by obtain⟨rfl,rfl⟩:=aa;exact J),?_⟩)
  obtain⟨rfl,rfl⟩:=aa
  refine qk gc rfl rfl 33 rfl i rfl hi (0+i*33) rfl ?_
  rw[Nat.zero_add]
  refine gv gc 1 rfl (jj ?_)
  have G:=l
  have a0:=g
  refine wb rfl (u4 gc l rfl rfl (by rw[hL];have:=Nat.mul_le_mul_right 33 P;omega) fun bo l H bw=> ?_)
  have b:=b.gj H Q
  have c:=c.gj H a4
  have g:=a0.gh H (az D rfl)
  have d:=d.kc H G zd
  have f:=f.kc H G zd
  have e:Own bo (some ⟨D,0,none⟩) (x.leaves.take 40).length R 148 33 ((upto zz9 (i+1) (x.leaves.take 40)).flatMap jf.cells):=by
   rw[←leaf_cutS Y hi];exact Own.yq3 hL P aj ak l
  refine ja (Bo rfl ?_)
  rw[kg _ zo]
  refine gm ?_
  exact jn (i+1) rfl ⟨⟨hi,e,d,f⟩,b,c,g⟩ zf
 have b7:(x.leaves.take 40).length≤i:=(by have h:(smN x).leaves.length≤i:=zo;exact h)
 refine Bi (gk (qc rfl (gy rfl (b.ko.obj (zv5 hx)).rows (jz rfl (gr ?_)))))
 refine jm (α:=Nat) [1,2,63,64] rfl (fun z=>[(65,.int .i64 (z:Int))]) (fun z u=>(z≤(x.rows.take 8).length∧Own u T (x.leaves.take 40).length R 148 33 ((upto zz9 i (x.leaves.take 40)).flatMap jf.cells)∧Own u U (x.parents.take 4).length V 30 32 ((x.parents.take 4).flatMap ge)∧Own u W (x.rows.take 8).length S 150 3 ((upto chgS z (x.rows.take 8)).flatMap ud.cells))∧j0 u N 37 (jw (smN x) ⟨T,R,U,V,W,S⟩)∧j0 u b2 37 (cellsOf ti37.zero)∧Ext No w u) (fun z u=>(x.rows.take 8).length-z) (0) rfl ⟨⟨Nat.zero_le _,e,d,f⟩,b,c,g⟩ ?_
 rintro j ch ⟨⟨hj,e,d,f⟩,b,c,g⟩
 refine je rfl (gk (jl rfl (fun hc=> ?_) (fun hc=> ?_)))
 ·have bk:(x.rows.take 8).length≤8:=by rw[List.length_take];omega
  have hj:j<(x.rows.take 8).length:=(by have h:j<(smN x).rows.length:=zo;exact h)
  obtain⟨D,L,hp,l,hL,P,aj,ak⟩:=f.opened zo
  have Z:=Own.row f (fun r _=>r.len) hp hj
  subst hp
  have Q:N≠D:=b.ne l zd
  have a4:b2≠D:=c.ne l zd
  refine xz (gr (qc rfl (ki rfl 3 rfl j rfl hj (0+j*3) rfl ?_)))
  rw[Nat.zero_add]
  refine jr rfl Z rfl ?_
  have b0:=l.lt
  refine gw rfl fun b6 ci ao a6 A=> ?_
  have ap:=j5 b.lt ao
  have aq:=j5 c.lt ao
  have bp:=Nat.le_trans g.size ao
  have b:=b.ga A
  have c:=c.ga A
  have e:=e.ext A fun _ _=>id
  have d:=d.ext A fun _ _=>id
  have l:=l.ga A
  have g:=g.gb A
  have a1:D≠b6:=by omega
  refine j9 gc rfl ?_
  have ab:=a6
  refine wl (j8 (l':=ud.cells (x.rows.take 8)[j]) gc a6 rfl rfl rfl rfl OneC.h fun cj a6 B bx=> ?_)
  have b:=b.gj B ap
  have c:=c.gj B aq
  have e:=e.kc B ab zd
  have d:=d.kc B ab zd
  have l:=l.gj B a1
  have g:=g.gh B bp
  refine qr ?_
  refine js rfl 17 [qP 0,qP 1,qP 2,qP 3,qP 4,qP 5,qP 6,qP 7,qP 8,qP 9,qP 11,qP 12,(10,false),(13,false),qP 14,qP 15,(16,false)] [17,18,19] (One D) zk fun b8 q bz=> ?_
  have n:=b
  have b9:=a6
  have b:=b.ga q
  have c:=c.ga q
  have e:=e.ext q fun _ _=>id
  have d:=d.ext q fun _ _=>id
  have l:=l.ga q
  have g:=g.gb q
  have J:Ext (One D) _ b8:=q.no
  refine gv gc 2 rfl (j6 gc rfl rfl (fun w' k=>((n.ext (show Ext (One D) _ w' from k) Q).ko.obj (zv5 hx)).rows) ?_)
  refine gv gc 3 rfl (j6 gc rfl rfl (fun w' k=>((n.ext (show Ext (One D) _ w' from k) Q).ko.obj (zv5 hx)).rows) ?_)
  refine gv gc 2 rfl (j6 gc rfl rfl (fun w' k=>((b9.ext (show Ext (One D) _ w' from k) a1.symm).cell rfl)) ?_)
  refine gv gc 1 rfl (j6 gc rfl rfl (fun w' k=>((b9.ext (show Ext (One D) _ w' from k) a1.symm).cell rfl)) ?_)
  refine jg rfl (j3 call68 rfl (Cp b8 _ 60 zd) fun ck bq ac=>⟨(by obtain⟨rfl,rfl⟩:=ac;exact J),?_⟩)
  obtain⟨rfl,rfl⟩:=ac
  have J:=J
  refine jg rfl (j3 call68 rfl (Cp bq _ 257 zd) fun cl cm ad=>⟨(by obtain⟨rfl,rfl⟩:=ad;exact J),?_⟩)
  obtain⟨rfl,rfl⟩:=ad
  have J:=J
  refine qk gc rfl rfl 3 rfl j rfl hj (0+j*3) rfl ?_
  rw[Nat.zero_add]
  refine gv gc 1 rfl ?_
  have G:=l
  have a0:=g
  refine jg rfl (u4 gc l rfl rfl (by rw[hL];have:=Nat.mul_le_mul_right 3 P;omega) fun cn a2 C c0=>⟨J.then C,?_⟩)
  have b:=b.gj C Q
  have c:=c.gj C a4
  have g:=a0.gh C (ah D rfl)
  have d:=d.kc C G zd
  have e:=e.kc C G zd
  refine jj (wb rfl (st_ix gc rfl 3 rfl j rfl hj (0+j*3) rfl ?_))
  rw[Nat.zero_add]
  refine wb rfl (Dg gc rfl rfl rfl ?_)
  have a0:=g
  refine wb rfl (u4 gc a2 rfl rfl (by show j*3+2<_;rw[List.length_set,hL];have:=Nat.mul_le_mul_right 3 P;omega) fun br ba I c1=> ?_)
  have b:=b.gj I Q
  have c:=c.gj I a4
  have g:=a0.gh I (ah D rfl)
  have d:=d.kc I a2 zd
  have e:=e.kc I a2 zd
  have f:Own br (some ⟨D,0,none⟩) (x.rows.take 8).length S 150 3 ((upto chgS (j+1) (x.rows.take 8)).flatMap ud.cells):=by
   rw[←chg_cutS hj];exact Own.yq3 (by rw[List.length_set,hL]) P aj (by rw[List.take_set,ak]) ba
  refine ja (Bo rfl ?_)
  rw[kg _ zo]
  refine gm ?_
  exact jn (j+1) rfl ⟨⟨hj,e,d,f⟩,b,c,g⟩ zf
 have ar:(x.rows.take 8).length≤j:=(by have h:(smN x).rows.length≤j:=zo;exact h)
 refine Bi (qa (jh b rfl (gt (zv5 hx)) ?_))
 have a3:=c
 refine wl (j8 (l':=jw (smN x) ⟨T,R,U,V,W,S⟩) gc c rfl rfl (gt (zv5 hx)) (by rw[gt (zv5 hx)];rfl) OneC.h fun co c M c2=> ?_)
 have e:=e.kc M a3 zd
 have d:=d.kc M a3 zd
 have f:=f.kc M a3 zd
 have g:=g.gh M bd
 refine qr (gq (qz [_] ⟨⟨b2,0,rfl,u0 gc rfl rfl c.ko (gt (zv5 hx))⟩,trivial⟩ ?_))
 rw[upto_all b7] at e
 rw[upto_all ar] at f
 exact⟨⟨T,R,U,V,W,S⟩,by rw[objC_objS];rfl,⟨by rw[show(xv5 x).leaves.length=(x.leaves.take 40).length from List.length_map ..];exact e,d,by rw[show(xv5 x).rows.length=(x.rows.take 8).length from List.length_map ..];exact f,az,bg,ah⟩,g⟩
theorem _root_.Go.Vc.Sl.cutB {w:World} {p:Option Addr} {l:List UInt8} (h:vt w p l) (k:Nat):vt w p (l.take k):=by
 have a:=Sl.slice h 0 (min l.length k) (min l.length k) (Nat.zero_le _) (Nat.le_refl _) zo
 have e:((ge l).drop (0*1)).take ((min l.length k-0)*1)=ge (l.take k):=by
  rw[Nat.zero_mul,List.drop_zero,Nat.sub_zero,Nat.mul_one,ge,ge,List.map_take,List.take_eq_take_iff,List.length_map]
  omega
 rw[e,ka,Nat.sub_zero,Av] at a
 exact a
theorem objS_ok {o:jk} (h:qv o):Cx (xv5 o):=by
 refine⟨⟨h.tree,h.base,(Br h).parents,fun r a=> ?_,fun r a=> ?_,h.number,h.author⟩,⟨?_,?_,?_,fun r a=> ?_,fun r a=> ?_⟩⟩
 ·obtain⟨x,b,rfl⟩:=List.mem_map.1 a
  have:=h.leaves x (List.mem_of_mem_take b)
  exact⟨by rw[show(zz9 x).path.length=_ from List.length_take];dsimp only[maxLen];omega,this.2⟩
 ·obtain⟨x,b,rfl⟩:=List.mem_map.1 a
  exact⟨by rw[show(chgS x).path.length=_ from List.length_take];dsimp only[maxLen];omega,by rw[show(chgS x).text.length=_ from List.length_take];dsimp only[maxLen];omega⟩
 ·show(List.map _ _).length<_;rw[List.length_map,List.length_take];omega
 ·rw[show(xv5 o).parents.length=_ from List.length_take];omega
 ·show(List.map _ _).length<_;rw[List.length_map,List.length_take];omega
 ·obtain⟨x,_,rfl⟩:=List.mem_map.1 a
  rw[show(zz9 x).path.length=_ from List.length_take];omega
 obtain⟨x,_,rfl⟩:=List.mem_map.1 a
 rw[show(chgS x).path.length=_ from List.length_take];omega
def setS (s:xt):xt:=⟨s.name.take 40,s.was,s.is,s.old.take 4097,s.new.take 4097⟩
def batS (b:A2):A2:=⟨(b.objs.take 12).map xv5,(b.sets.take 129).map setS⟩
structure ArgO (w:World) (x:yx3):Prop where
  i:qv x.1
  l:Bh w x.1 x.2
  c:ObjCap x.1 x.2
structure ArgS (w:World) (x:Ce):Prop where
  old:vt w x.2.op x.1.old
  new:vt w x.2.np x.1.new
  co:x.1.old.length≤x.2.oc
  cn:x.1.new.length≤x.2.nc
structure BatArg (w:World) (B:uf):Prop where
  os:Sl w B.op B.os.length 73 (B.os.flatMap Bb)
  ss:Sl w B.sp B.ss.length 5 (B.ss.flatMap x8)
  o:∀x∈B.os,ArgO w x
  s:∀x∈B.ss,ArgS w x
  co:B.os.length≤B.oc
  cs:B.ss.length≤B.sc
theorem BatArg.ga {w w':World} {B:uf} (h:BatArg w B) (hE:Ext No w w'):BatArg w' B:=⟨h.os.ga hE,h.ss.ga hE,fun x hx=>⟨(h.o x hx).i,(h.o x hx).l.ga hE,(h.o x hx).c⟩,fun x hx=>⟨(h.s x hx).old.ga hE,(h.s x hx).new.ga hE,(h.s x hx).co,(h.s x hx).cn⟩,h.co,h.cs⟩
theorem lbatch_calls (w:World) {B:uf} (hB:BatArg w B):
  gn prog 16 [B.v] w fun v w'=>∃B':uf,v=B'.v∧B'.d=batS B.d∧zu w w' B'∧Ext No w w':=by
 obtain⟨op,oc,os,sp,sc,ss⟩:=B
 have hco:=hB.co
 have hcs:=hB.cs
 dsimp only at hco hcs
 refine gx func16 ?_
 have hX:=Ext.refl No w
 refine qa (gw rfl fun b1 w1 hn1 hb1 hE1=> ?_)
 have hX:=hX.gb hE1
 have hb1:j0 w1 b1 25 ([.slice op os.length oc,.slice sp ss.length sc]):=hb1
 refine gw rfl fun b2 w2 hn2 hb2 hE2=> ?_
 have ne1_2:=j5 hb1.lt hn2
 have fr2:=Nat.le_trans hX.size hn2
 have hb1:=hb1.ga hE2
 have hX:=hX.gb hE2
 have hb2:j0 w2 b2 25 ([.slice none 0 0,.slice none 0 0]):=hb2
 refine qr (gk (qc rfl (jb hb1 rfl rfl (j9 gc rfl (jb hb1 rfl rfl (j9 gc rfl ?_))))))
 refine wl (A5 gc rfl 0 (min os.length 12) oc 73 rfl (.inr ⟨rfl,rfl⟩) (.inl (congrArg some (minI _ _))) (.inr ⟨rfl,rfl⟩) (Nat.zero_le _) (by have:=hco;omega) (Nat.le_refl _) ?_)
 rw[ka,Nat.sub_zero,Nat.sub_zero,Av]
 refine jz rfl (gr ?_)
 refine jm (α:=Nat×Option Addr×Nat×List yx3) [1,2,13,14] rfl (fun z=>[(15,.int .i64 (z.1:Int))]) (fun z u=>(z.1≤(os.take 12).length∧ku w u z.2.1 z.2.2.2.length z.2.2.1 37 73 (z.2.2.2.flatMap Bb)∧z.2.2.2.map Prod.fst=((os.take 12).take z.1).map (fun x=>xv5 x.1)∧∀x∈z.2.2.2,Cx x.1∧u6 w u x.1 x.2)∧j0 u b1 25 ([.slice op os.length oc,.slice sp ss.length sc])∧j0 u b2 25 ([.slice z.2.1 z.2.2.2.length z.2.2.1,.slice none 0 0])∧Ext No w u) (fun z u=>(os.take 12).length-z.1) (0,none,0,[]) rfl ⟨⟨Nat.zero_le _,ku.nil _ _ _ _,rfl,fun _ e=>(by cases e)⟩,hb1,hb2,hX⟩ ?_
 rintro⟨i,q,k,gs⟩ w3 ⟨⟨hio,hq,hgs,hall⟩,hb1,hb2,hX⟩
 try dsimp only
 dsimp only at hio hq hgs hall hb2
 refine je rfl (gk (jl rfl (fun hc=> ?_) (fun hc=> ?_)))
 ·have h12:(os.take 12).length≤12:=by rw[List.length_take];omega
  have hi2:i<(os.take 12).length:=by omega
  have hgl:gs.length=i:=by
   have e:=congrArg List.length hgs
   rw[List.length_map,List.length_map,List.length_take] at e;omega
  have hmi:(os.take 12)[i]∈os:=List.mem_of_mem_take (List.getElem_mem hi2)
  have hoi:=hB.o _ hmi
  obtain⟨qb,qo,hp,hsq⟩:=(hB.os.cut (fun x hx=>gt (hB.o x hx).i) 12).qm (fun x hx=>gt (hB.o x (List.mem_of_mem_take hx)).i) zn
  dsimp only at hp hsq
  rw[hp]
  refine xz (gr (qa (ki rfl 73 rfl i rfl hi2 (qo+i*73) rfl (jr rfl ((hsq i hi2).ga hX) (gt hoi.i) ?_))))
  have hqb:=hq
  refine gw rfl fun b4 w4 hn4 hb4 hE4=> ?_
  have ne1_4:=j5 hb1.lt hn4
  have ne2_4:=j5 hb2.lt hn4
  have fr4:=Nat.le_trans hX.size hn4
  have hb1:=hb1.ga hE4
  have hb2:=hb2.ga hE4
  have hq:=hq.ga hE4
  have hall:=fun x hx=>And.intro (hall x hx).1 ((hall x hx).2.ga hE4)
  have hX:=hX.gb hE4
  have n4q:¬jd q b4:=fun hy=>Nat.lt_irrefl _ (Nat.lt_of_lt_of_le (hqb.own.lt hy) hn4)
  have hq4:∀y,jd q y→y≠b4:=fun y hy e=>n4q (e▸hy)
  have hb4o:=hb4
  have n2q:=hq.not hb2 zd
  refine wl (j8 (l':=Bb (os.take 12)[i]) gc hb4 rfl rfl (gt hoi.i) (by rw[show(Bb _).length=73 from gt hoi.i];rfl) OneC.h fun w5 hb4 hE5 hs5=> ?_)
  have hb1:=hb1.gj hE5 ne1_4
  have hb2:=hb2.gj hE5 ne2_4
  have hq:=ku.mk (hq.own.ext hE5 fun y hy e=>hq4 y hy e) hq.new
  have hall:=fun x hx=>And.intro (hall x hx).1 ((hall x hx).2.gj hE5 hb4o zd zd zd)
  have hX:=hX.gh hE5 fr4
  refine qr (js rfl 7 [qP 0,qP 1,qP 2,(3,false),(4,false),(5,false),qP 6] [7] (jd q) zk fun w6 hE6 hs6=> ?_)
  have hd2:=hb2
  have hd4:=hb4
  have hb1:=hb1.ga hE6
  have hb2:=hb2.ga hE6
  have hq:=hq.ga hE6
  have hall:=fun x hx=>And.intro (hall x hx).1 ((hall x hx).2.ga hE6)
  have hX:=hX.gb hE6
  have hC:Ext (jd q) _ w6:=hE6.no
  refine gv gc 1 rfl (j6 gc rfl rfl (fun w' hw'=>((hd2.ext (show Ext (jd q) _ w' from hw') n2q).cell rfl)) ?_)
  refine qf gc rfl rfl (fun w' hw'=>(hd4.ext (show Ext (jd q) _ w' from hw') n4q).ko) (gt hoi.i) ?_
  have hXn:=hX
  refine jg rfl (j3 call67 rfl (lsmall_calls w6 hoi.i (hoi.l.ga hX) hoi.c) fun v7 w7 hr7=>⟨(by obtain⟨a2,rfl,hN,hE7⟩:=hr7;exact hC.gb hE7),?_⟩)
  obtain⟨a2,rfl,hN,hE7⟩:=hr7
  have hb1:=hb1.ga hE7
  have hb2:=hb2.ga hE7
  have hq:=hq.ga hE7
  have hall:=fun x hx=>And.intro (hall x hx).1 ((hall x hx).2.ga hE7)
  have hX:=hX.gb hE7
  have hC:=hC.gb hE7
  have hN:=hN.older (W0:=w) hXn.size
  have hsk:=objS_ok hoi.i
  refine jg rfl (qd gc rfl 73 rfl objZc (gt qw) zd zd ⟨⟨by rw[ju];exact gt hsk.1,by decide⟩,trivial⟩ (l':=Bb (xv5 (os.take 12)[i].1,a2)) (xj2 hsk.1) fun b23 w8 hn23 hb23 hE8 hs8=>⟨hC.gb hE8,?_⟩)
  have hb1:=hb1.ga hE8
  have hb2:=hb2.ga hE8
  have hq:=hq.ga hE8
  have hall:=fun x hx=>And.intro (hall x hx).1 ((hall x hx).2.ga hE8)
  have hN:=hN.ga hE8
  have hX:=hX.gb hE8
  have hC:=hC.gb hE8
  have hqo:=hq.own
  refine jg rfl (xh gc rfl 73 192 rfl rfl rfl zd hq (Src.slice (m:=1) ⟨gt hsk.1,.inr ⟨b23,0,rfl,hb23.ko⟩⟩ OneC.h) zm zn (n':=(gs++[((xv5 (os.take 12)[i].1,a2):yx3)]).length) (ys:=(gs++[((xv5 (os.take 12)[i].1,a2):yx3)]).flatMap Bb) zi (by rw[List.flatMap_append,List.flatMap_singleton];rfl) hX fun q4 k4 w9 hq hE9 hX=>⟨hC.then hE9,?_⟩)
  dsimp only at hq hE9
  have hb1:=hb1.ke hqo hE9 (show(37:Nat)≠25 from by decide)
  have hb2:=hb2.ke hqo hE9 (show(37:Nat)≠25 from by decide)
  have hall:=fun x hx=>And.intro (hall x hx).1 ((hall x hx).2.extT hqo hE9 zd zd zd)
  have hN:=hN.extT hqo hE9 zd zd zd
  refine gv gc 1 rfl (jj ?_)
  have hb2o:=hb2
  refine wb rfl (xv gc hb2 rfl rfl rfl fun w10 hb2 hE10 hs10=> ?_)
  have hb1:=hb1.gj hE10 ne1_2
  have hq:=hq.gj hE10 hb2o zd
  have hall:=fun x hx=>And.intro (hall x hx).1 ((hall x hx).2.gj hE10 hb2o zd zd zd)
  have hN:=hN.gj hE10 hb2o zd zd zd
  have hX:=hX.gh hE10 fr2
  refine ja (Bo rfl ?_)
  rw[kg _ zo]
  refine gm ?_
  rw[hp] at hb1
  exact jn (i+1,q4,k4,gs++[((xv5 (os.take 12)[i].1,a2):yx3)]) rfl ⟨⟨hi2,hq,by rw[List.map_append,hgs,←yz2 hi2];rfl,fun y hy=>(List.mem_append.1 hy).elim (hall y) fun e=>by rw[List.mem_singleton.1 e];exact⟨hsk,hN⟩⟩,hb1,hb2,hX⟩ zf
 have h0:i=(os.take 12).length:=by omega
 subst h0
 rw[List.take_length] at hgs
 refine Bi (gk (qc rfl (jb hb1 rfl rfl (j9 gc rfl (jb hb1 rfl rfl (j9 gc rfl ?_))))))
 refine wl (A5 gc rfl 0 (min ss.length 129) sc 5 rfl (.inr ⟨rfl,rfl⟩) (.inl (congrArg some (minI _ _))) (.inr ⟨rfl,rfl⟩) (Nat.zero_le _) (by have:=hcs;omega) (Nat.le_refl _) ?_)
 rw[ka,Nat.sub_zero,Nat.sub_zero,Av]
 refine jz rfl (gr ?_)
 refine jm (α:=Nat×Option Addr×Nat×List Ce) [2,33,34] rfl (fun z=>[(35,.int .i64 (z.1:Int))]) (fun z u=>(z.1≤(ss.take 129).length∧ku w u q gs.length k 37 73 (gs.flatMap Bb)∧(∀x∈gs,Cx x.1∧u6 w u x.1 x.2)∧ku w u z.2.1 z.2.2.2.length z.2.2.1 91 5 (z.2.2.2.flatMap x8)∧z.2.2.2.map Prod.fst=((ss.take 129).take z.1).map (fun x=>setS x.1)∧∀x∈z.2.2.2,xj w u x)∧j0 u b1 25 ([.slice op os.length oc,.slice sp ss.length sc])∧j0 u b2 25 ([.slice q gs.length k,.slice z.2.1 z.2.2.2.length z.2.2.1])∧Ext No w u) (fun z u=>(ss.take 129).length-z.1) (0,none,0,[]) rfl ⟨⟨Nat.zero_le _,hq,hall,ku.nil _ _ _ _,rfl,fun _ e=>(by cases e)⟩,hb1,hb2,hX⟩ ?_
 rintro⟨i,q2,k2,ts⟩ w11 ⟨⟨hio,hq,hall,hq2,hts,hset⟩,hb1,hb2,hX⟩
 try dsimp only
 dsimp only at hio hq2 hts hset hb2
 refine je rfl (gk (jl rfl (fun hc=> ?_) (fun hc=> ?_)))
 ·have h12:(ss.take 129).length≤129:=by rw[List.length_take];omega
  have hi2:i<(ss.take 129).length:=by omega
  have hgl:ts.length=i:=by
   have e:=congrArg List.length hts
   rw[List.length_map,List.length_map,List.length_take] at e;omega
  have hmi:(ss.take 129)[i]∈ss:=List.mem_of_mem_take (List.getElem_mem hi2)
  have hsi:=hB.s _ hmi
  have hci:=And.intro hsi.co hsi.cn
  obtain⟨qb,qo,hp,hsq⟩:=(hB.ss.cut (fun x hx=>Cw x) 129).qm (fun x hx=>Cw x) zn
  dsimp only at hp hsq
  rw[hp]
  refine xz (gr (qa (ki rfl 5 rfl i rfl hi2 (qo+i*5) rfl (jr rfl ((hsq i hi2).ga hX) rfl ?_))))
  have hqb:=hq2
  refine gw rfl fun b6 w12 hn6 hb6 hE12=> ?_
  have ne1_6:=j5 hb1.lt hn6
  have ne2_6:=j5 hb2.lt hn6
  have fr6:=Nat.le_trans hX.size hn6
  have hb1:=hb1.ga hE12
  have hb2:=hb2.ga hE12
  have hq:=hq.ga hE12
  have hall:=fun x hx=>And.intro (hall x hx).1 ((hall x hx).2.ga hE12)
  have hq2:=hq2.ga hE12
  have hset:=fun x hx=>(hset x hx).ga hE12
  have hX:=hX.gb hE12
  have hq6:∀y,jd q2 y→y≠b6:=fun y hy=>j5 (hqb.own.lt hy) hn6
  have hb6o:=hb6
  refine wl (j8 (l':=x8 (ss.take 129)[i]) gc hb6 rfl rfl rfl rfl OneC.h fun w13 hb6 hE13 hs13=> ?_)
  have hb1:=hb1.gj hE13 ne1_6
  have hb2:=hb2.gj hE13 ne2_6
  have hq:=hq.gj hE13 hb6o zd
  have hall:=fun x hx=>And.intro (hall x hx).1 ((hall x hx).2.gj hE13 hb6o zd zd zd)
  have hq2:=ku.mk (hq2.own.ext hE13 fun y hy e=>hq6 y hy e) hq2.new
  have hset:=fun x hx=>(hset x hx).gj hE13 hb6o zd
  have hX:=hX.gh hE13 fr6
  refine qr (gk ?_)
  refine js rfl 20 [qP 0,qP 1,qP 3,qP 4,qP 5,qP 6,qP 7,qP 8,qP 9,qP 11,qP 12,qP 13,qP 14,qP 15,qP 16,qP 17,(2,false),qP 19,(10,false),(18,false)] [20,21,22,23,24] (No) zk fun w14 hE14 hs14=> ?_
  have hd6:=hb6
  have hb1:=hb1.ga hE14
  have hb2:=hb2.ga hE14
  have hb6:=hb6.ga hE14
  have hq:=hq.ga hE14
  have hall:=fun x hx=>And.intro (hall x hx).1 ((hall x hx).2.ga hE14)
  have hq2:=hq2.ga hE14
  have hset:=fun x hx=>(hset x hx).ga hE14
  have hX:=hX.gb hE14
  have hC:Ext (No) _ w14:=hE14.no
  refine gv gc 1 rfl (j6 gc rfl rfl (fun w' hw'=>(hd6.ga hw').cell rfl) ?_)
  refine gv gc 1 rfl (j6 gc rfl rfl (fun w' hw'=>(hd6.ga hw').cell rfl) ?_)
  refine gv gc 1 rfl (j6 gc rfl rfl (fun w' hw'=>(hd6.ga hw').cell rfl) ?_)
  refine gv gc 2 rfl (zx1 gc rfl rfl 0 (min (ss.take 129)[i].1.old.length 4097) (ss.take 129)[i].2.oc 1 rfl (.inr ⟨rfl,rfl⟩) (.inl (congrArg some (minI _ _))) (.inr ⟨rfl,rfl⟩) (Nat.zero_le _) (by have:=hci.1;omega) (Nat.le_refl _) ?_)
  rw[ka,Nat.sub_zero,Nat.sub_zero,Av]
  refine gv gc 1 rfl (j6 gc rfl rfl (fun w' hw'=>(hd6.ga hw').cell rfl) ?_)
  refine gv gc 1 rfl (j6 gc rfl rfl (fun w' hw'=>(hd6.ga hw').cell rfl) ?_)
  refine gv gc 2 rfl (zx1 gc rfl rfl 0 (min (ss.take 129)[i].1.new.length 4097) (ss.take 129)[i].2.nc 1 rfl (.inr ⟨rfl,rfl⟩) (.inl (congrArg some (minI _ _))) (.inr ⟨rfl,rfl⟩) (Nat.zero_le _) (by have:=hci.2;omega) (Nat.le_refl _) ?_)
  rw[ka,Nat.sub_zero,Nat.sub_zero,Av]
  refine jg rfl (j3 call68 rfl (Cp w14 _ 40 zd) fun v15 w15 hr15=>⟨(by obtain⟨rfl,rfl⟩:=hr15;exact hC),?_⟩)
  obtain⟨rfl,rfl⟩:=hr15
  have hC:=hC
  refine gv gc 1 rfl ?_
  have hX3:=hX
  refine jg rfl (j3 call35 rfl (xc w15 ((hsi.old.cutB 4097).ga hX) zl) fun v16 w16 hr16=>⟨(by obtain⟨q3,k3,rfl,ho3,hn3,hE16⟩:=hr16;exact hC.gb hE16),?_⟩)
  obtain⟨q3,k3,rfl,ho3,hn3,hE16⟩:=hr16
  have hb1:=hb1.ga hE16
  have hb2:=hb2.ga hE16
  have hb6:=hb6.ga hE16
  have hq:=hq.ga hE16
  have hall:=fun x hx=>And.intro (hall x hx).1 ((hall x hx).2.ga hE16)
  have hq2:=hq2.ga hE16
  have hset:=fun x hx=>(hset x hx).ga hE16
  have hX:=hX.gb hE16
  have hC:=hC.gb hE16
  have ho3:ku w w16 q3 _ k3 5 1 _:=⟨ho3,fun y hy=>Nat.le_trans hX3.size (hn3 y hy)⟩
  have hX5:=hX
  refine jg rfl (j3 call35 rfl (xc w16 ((hsi.new.cutB 4097).ga hX) zl) fun v17 w17 hr17=>⟨(by obtain⟨q5,k5,rfl,ho5,hn5,hE17⟩:=hr17;exact hC.gb hE17),?_⟩)
  obtain⟨q5,k5,rfl,ho5,hn5,hE17⟩:=hr17
  have hb1:=hb1.ga hE17
  have hb2:=hb2.ga hE17
  have hb6:=hb6.ga hE17
  have hq:=hq.ga hE17
  have hall:=fun x hx=>And.intro (hall x hx).1 ((hall x hx).2.ga hE17)
  have hq2:=hq2.ga hE17
  have hset:=fun x hx=>(hset x hx).ga hE17
  have ho3:=ho3.ga hE17
  have hX:=hX.gb hE17
  have ho5:ku w w17 q5 _ k5 5 1 _:=⟨ho5,fun y hy=>Nat.le_trans hX5.size (hn5 y hy)⟩
  refine jj ?_
  have hb6o:=hb6
  refine wb rfl (xv gc hb6 rfl rfl rfl fun w18 hb6 hE18 hs18=> ?_)
  have hb1:=hb1.gj hE18 ne1_6
  have hb2:=hb2.gj hE18 ne2_6
  have hq:=hq.gj hE18 hb6o zd
  have hall:=fun x hx=>And.intro (hall x hx).1 ((hall x hx).2.gj hE18 hb6o zd zd zd)
  have hq2:=ku.mk (hq2.own.ext hE18 fun y hy e=>hq6 y hy e) hq2.new
  have hset:=fun x hx=>(hset x hx).gj hE18 hb6o zd
  have ho3:=ho3.gj hE18 hb6o zd
  have ho5:=ho5.gj hE18 hb6o zd
  have hX:=hX.gh hE18 fr6
  refine wb rfl (Dg gc rfl rfl rfl ?_)
  have hb6o:=hb6
  refine wb rfl (xv gc hb6 rfl rfl rfl fun w19 hb6 hE19 hs19=> ?_)
  have hb1:=hb1.gj hE19 ne1_6
  have hb2:=hb2.gj hE19 ne2_6
  have hq:=hq.gj hE19 hb6o zd
  have hall:=fun x hx=>And.intro (hall x hx).1 ((hall x hx).2.gj hE19 hb6o zd zd zd)
  have hq2:=ku.mk (hq2.own.ext hE19 fun y hy e=>hq6 y hy e) hq2.new
  have hset:=fun x hx=>(hset x hx).gj hE19 hb6o zd
  have ho3:=ho3.gj hE19 hb6o zd
  have ho5:=ho5.gj hE19 hb6o zd
  have hX:=hX.gh hE19 fr6
  refine wb rfl (Dg gc rfl rfl rfl ?_)
  have hb6o:=hb6
  refine wb rfl (xv gc hb6 rfl rfl rfl fun w20 hb6 hE20 hs20=> ?_)
  have hb1:=hb1.gj hE20 ne1_6
  have hb2:=hb2.gj hE20 ne2_6
  have hq:=hq.gj hE20 hb6o zd
  have hall:=fun x hx=>And.intro (hall x hx).1 ((hall x hx).2.gj hE20 hb6o zd zd zd)
  have hq2:=ku.mk (hq2.own.ext hE20 fun y hy e=>hq6 y hy e) hq2.new
  have hset:=fun x hx=>(hset x hx).gj hE20 hb6o zd
  have ho3:=ho3.gj hE20 hb6o zd
  have ho5:=ho5.gj hE20 hb6o zd
  have hX:=hX.gh hE20 fr6
  have hb6:j0 w20 b6 91 (x8 (setS (ss.take 129)[i].1,⟨q3,k3,q5,k5⟩)):=hb6
  refine ja (j1 (yv rfl (jb hb2 rfl rfl (jh hb6 rfl rfl ?_))))
  refine wl (qd gc rfl 5 rfl setZc rfl zd zd ⟨⟨rfl,by decide⟩,trivial⟩ (l':=x8 (setS (ss.take 129)[i].1,⟨q3,k3,q5,k5⟩)) (set_put _) fun b64 w21 hn64 hb64 hE21 hs21=> ?_)
  have hb1:=hb1.ga hE21
  have hb2:=hb2.ga hE21
  have hq:=hq.ga hE21
  have hall:=fun x hx=>And.intro (hall x hx).1 ((hall x hx).2.ga hE21)
  have hq2:=hq2.ga hE21
  have hset:=fun x hx=>(hset x hx).ga hE21
  have ho3:=ho3.ga hE21
  have ho5:=ho5.ga hE21
  have hX:=hX.gb hE21
  have hq2o:=hq2.own
  refine wl (xh gc rfl 5 72 rfl rfl rfl zd hq2 (Src.slice (m:=1) ⟨rfl,.inr ⟨b64,0,rfl,hb64.ko⟩⟩ OneC.h) zm zn (n':=(ts++[((setS (ss.take 129)[i].1,⟨q3,k3,q5,k5⟩):Ce)]).length) (ys:=(ts++[((setS (ss.take 129)[i].1,⟨q3,k3,q5,k5⟩):Ce)]).flatMap x8) zi (by rw[List.flatMap_append,List.flatMap_singleton]) hX fun q4 k4 w22 hq2 hE22 hX=> ?_)
  dsimp only at hq2 hE22
  have hb1:=hb1.ke hq2o hE22 (show(91:Nat)≠25 from by decide)
  have hb2:=hb2.ke hq2o hE22 (show(91:Nat)≠25 from by decide)
  have hq:=hq.yx0 hq2o hE22 zd
  have hall:=fun x hx=>And.intro (hall x hx).1 ((hall x hx).2.extT hq2o hE22 zd zd zd)
  have hset:=fun x hx=>(hset x hx).yx0 hq2o hE22 zd
  have ho3:=ho3.yx0 hq2o hE22 zd
  have ho5:=ho5.yx0 hq2o hE22 zd
  refine j9 gc rfl ?_
  have hb2o:=hb2
  refine ky hb2 rfl rfl rfl fun w23 hb2 hE23 hs23=> ?_
  have hb1:=hb1.gj hE23 ne1_2
  have hq:=hq.gj hE23 hb2o zd
  have hall:=fun x hx=>And.intro (hall x hx).1 ((hall x hx).2.gj hE23 hb2o zd zd zd)
  have hq2:=hq2.gj hE23 hb2o zd
  have hset:=fun x hx=>(hset x hx).gj hE23 hb2o zd
  have ho3:=ho3.gj hE23 hb2o zd
  have ho5:=ho5.gj hE23 hb2o zd
  have hX:=hX.gh hE23 fr2
  refine gm (Bo rfl ?_)
  rw[kg _ zo]
  refine gm ?_
  rw[hp] at hb1
  exact jn (i+1,q4,k4,ts++[((setS (ss.take 129)[i].1,⟨q3,k3,q5,k5⟩):Ce)]) rfl ⟨⟨hi2,hq,hall,hq2,by rw[List.map_append,hts,←yz2 hi2];rfl,fun y hy=>(List.mem_append.1 hy).elim (hset y) fun e=>by rw[List.mem_singleton.1 e];exact⟨ho3,ho5,(by show(List.take 40 _).length<_;rw[List.length_take];omega),(by show(List.take 4097 _).length<_;rw[List.length_take];omega),(by show(List.take 4097 _).length<_;rw[List.length_take];omega)⟩⟩,hb1,hb2,hX⟩ zf
 have h0:i=(ss.take 129).length:=by omega
 subst h0
 rw[List.take_length] at hts
 refine Bi (qa (jh hb2 rfl rfl ?_))
 have hb2o:=hb2
 refine wl (j8 (l':=[.slice q gs.length k,.slice q2 ts.length k2]) gc hb2 rfl rfl rfl rfl OneC.h fun w24 hb2 hE24 hs24=> ?_)
 have hq:=hq.gj hE24 hb2o zd
 have hall:=fun x hx=>And.intro (hall x hx).1 ((hall x hx).2.gj hE24 hb2o zd zd zd)
 have hq2:=hq2.gj hE24 hb2o zd
 have hset:=fun x hx=>(hset x hx).gj hE24 hb2o zd
 have hX:=hX.gh hE24 fr2
 refine qr (gq (qz [_] ⟨⟨b2,0,rfl,u0 gc rfl rfl hb2.ko rfl⟩,trivial⟩ ?_))
 have hgl:=congrArg List.length hgs
 have htl:=congrArg List.length hts
 rw[List.length_map,List.length_map,List.length_take] at hgl htl
 exact⟨⟨q,k,gs,q2,k2,ts⟩,rfl,by rw[uf.d,batS,uf.d,hgs,hts,←List.map_take,←List.map_take,List.map_map,List.map_map];rfl,⟨hq,hq2,hall,hset,(by show gs.length<1000000;omega),(by show ts.length<1000000;omega)⟩,hX⟩
end Go.Proofs.YtpdiphfjmepijaaGreatDoor
