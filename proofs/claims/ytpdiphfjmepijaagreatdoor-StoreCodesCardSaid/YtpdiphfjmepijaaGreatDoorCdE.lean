/-
  Walks and laws towards: the bytes of batches, and the batch of whatever bytes (StoreCodes)
-/
import Derived.ChangeSame
import Derived.ReadAgain
import Derived.RowKit
import Derived.ChangeBears
import Derived.OpenShut
import Derived.Test.YtpdiphfjmepijaaGreatDoorCdD
open List renaming mem_iff_getElem→bJ,mem_map→bN,length_replicate→bS,getElem?_map→cE,getElem?_append_right→cJ,getElem?_append_left→cT,getElem?_eq_some_iff→cY,flatten_cons→dB,take_left'→dG,all_eq_true→dH,flatMap_cons→dI,mem_of_mem_drop→dO,mem_of_getElem?→dP
open Int renaming toNat_natCast→cC,natCast_nonneg→dN
namespace Go.Proofs.YtpdiphfjmepijaaGreatDoor
open Go.Proofs.Tryz
open Go.Vc
theorem first_bad {l:List UInt8}:((⟨l,false⟩:Ds).off 1).2.bad=true↔l=[]:=by
 cases l with
 |nil=>simp[Ds.off]
 |cons x r=>simp[Ds.off]
theorem row_step {α:Type} {f:Ds→α×Ds} {s0 s:Ds} {acc:List α} {n i:Nat} (h:s0.row f=(acc++(Ds.each f (n-i) s).1,(Ds.each f (n-i) s).2)) (hi:i<n) (hb:s.bad=false):
  s0.row f=((acc++[(f s).1])++(Ds.each f (n-(i+1)) (f s).2).1,(Ds.each f (n-(i+1)) (f s).2).2):=by
 rw[show n-i=(n-(i+1))+1 from by omega,Ds.Dg hb] at h
 rw[h]
 simp
theorem row_end {α:Type} {f:Ds→α×Ds} {s0 s:Ds} {acc:List α} {n i:Nat} (h:s0.row f=(acc++(Ds.each f (n-i) s).1,(Ds.each f (n-i) s).2)) (hi:¬(i<n∧s.bad=false)):s0.row f=(acc,s):=by
 rw[h,Ds.each_end (by
  by_cases h0:i<n
  ·cases hb:s.bad
   ·exact absurd ⟨h0,hb⟩ hi
   exact .inr rfl
  exact .inl zo),bK]
abbrev dC1 (s:Ds):jq:={uo with kind:=((3:Nat):Int)}
abbrev dC2 (s:Ds):jq:={dC1 s with style:=(num (s.off 1).1:Nat)}
abbrev dC3 (s:Ds):jq:={dC2 s with tree:=(s.off 1).2.id.1}
abbrev dC4 (s:Ds):jq:={dC3 s with parents:=((s.off 1).2.id.2.row Ds.id).1}
abbrev dC5 (s:Ds):jq:={dC4 s with base:=((s.off 1).2.id.2.row Ds.id).2.id.1}
theorem decode6_calls (w:World) {p:Option Addr} {c:Nat} {l:List UInt8} (h:ux w p l) (ht:TyU w p) (hc0:l.length≤c) (hl:l.length<1000000000):
  gn prog 175 [.slice p l.length c] w fun v w'=>∃a,v= .tuple #[.agg (jn (vj l).1 a).toArray,.int .i64 (vj l).2]∧qw w w' (vj l).1 a∧Ext No w w':=by
 refine gx func175 ?_
 have hX:=Ext.refl No w
 refine ko (gw rfl fun b2 w1 hn2 hb2 hE1=> ?_)
 have fr2:=aA hX.size hn2
 have hX:=hX.gb hE1
 have hb2o:=hb2
 have hX1:=hX
 refine km rfl (ki rfl (kg rfl ⟨⟨rfl,by decide⟩,trivial⟩ (l':=[.slice p l.length c,.bool false]) rfl (gw rfl fun b16 w2 hn16 hb16 hE2=> ?_)))
 have ne2_16:=j2 hb2.lt hn16
 have fr16:=aA hX.size hn16
 have hb2:=hb2.ga hE2
 have hX:=hX.gb hE2
 have hb16:gz w2 b16 296 ([.slice p l.length c,.bool false]):=hb16
 have hn16o:=hn16
 have hT:TkS w2 b16 ⟨l,false⟩:=⟨p,c,hb16,hc0,h.ga hX,ht.ext hX fun _ _ _=>id⟩
 refine km rfl (ki rfl (gh call203 rfl (yx2 w2 hT hl 1 zd) fun v3 w3 hr3=> ?_))
 obtain⟨rfl,hR2,hE3⟩:=hr3
 have hb2:=hb2.gj hE3 (hT.ne hb2 zd).symm
 have hX:=hX.trans hE3 fun y hy hF=>by have hF:y=b16:=hF;omega
 have hT:=hR2
 have hnm:=(⟨l,false⟩:Ds).ub 1
 refine j0 gc rfl ?_
 rw[jz _ zo]
 obtain⟨k,hk⟩:∃k,k=num ((⟨l,false⟩:Ds).off 1).1:=⟨_,rfl⟩
 rw[←hk]
 refine kg rfl ⟨⟨rfl,by decide⟩,trivial⟩ (l':=jn {uo with kind:=(k:Int)} Dh) (by rw[←zv8];rfl) (gw rfl fun b5 w4 hn5 hb5 hE4=> ?_)
 have ne2_5:=j2 hb2.lt hn5
 have fr5:=aA hX.size hn5
 have hb2:=hb2.ga hE4
 have hT:=TkS.ga hT hE4
 have hX:=hX.gb hE4
 have hb5o:=hb5
 refine wl (j4 (l':=jn {uo with kind:=(k:Int)} Dh) gc hb5 rfl rfl rfl rfl OneC.h fun w5 hb5 hE5 hs5=> ?_)
 have hb2:=hb2.gj hE5 ne2_5
 have hT:=TkS.gj hT hE5 hb5o zd zd
 have hX:=hX.gi hE5 fr5
 have z1:=hX1.size
 have z2:=hE2.size
 have z3:=hE3.size
 have z4:=hE4.size
 have hXX:Ext No w1 w5:=(((hE2.trans hE3 fun y hy hF=>by have hF:y=b16:=hF;omega).gb hE4).gi hE5 zo)
 have hD:Bc w1 w5 b16 b5 {uo with kind:=(k:Int)} Dh ((⟨l,false⟩:Ds).off 1).2:=⟨hT,hb5,Own.nil _ _ _,Own.nil _ _ _,Own.nil _ _ _,zw3,zw3,zw3,hn16o,by omega,hXX,Ds.off_lt hl,⟨qf.tree,qf.base,qf.parents,qf.leaves,qf.rows,qf.number,qf.author⟩,⟨xz.leaves,xz.parents,xz.rows,xz.leafP,xz.rowP⟩⟩
 refine qq ?_
 refine ji (α:=jq×vb×Ds) [0,2,4,5] rfl (fun z=>[]) (fun z u=>(Bc w1 u b16 b5 z.1 z.2.1 z.2.2∧(l=[]∧z.2.2.bad=true∨l≠[]∧vj l=endB l (z.1,z.2.2)))∧gz u b2 37 (cellsOf ti37.zero)∧Ext No w u) ?_ ?_
 ·refine j8 ?_
  refine ki rfl (gu rfl hD.tk.cell (km rfl (ud rfl (fun hc=> ?_) (fun hc=> ?_))))
  ·have hle:=first_bad.1 hc
   refine kc ?_
   exact js (gr (_,_,_) rfl ⟨⟨hD,.inl ⟨hle,hc⟩⟩,hb2,hX⟩)
  have hne:l≠[]:=fun e=>by rw[first_bad.2 e] at hc;cases hc
  refine ki rfl (gu rfl ((hD.bo.kj.obj hD.oin).kind) ?_)
  dsimp only
  refine km rfl (jl rfl (fun hc=> ?_) (fun hc=> ?_))
  ·obtain rfl:k=1:=by omega
   refine yl rfl (gh call204 rfl (text_tk w5 hD.tk hD.len 2 zd) fun v6 w6 hr6=> ?_)
   obtain⟨rfl,hR2,hE6⟩:=hr6
   have hb2:=hb2.gj hE6 (hD.neR hb2 zd)
   have hX:=hX
   have hD:=hD.read hR2 hE6 (Ds.vf _ 2).2
   have hb2:=hb2o.ga hD.X
   have hX:=hX1.gb hD.X
   refine j0 gc rfl (kl hD.bo rfl rfl rfl fun w7 hbo hE7 hs7=> ?_)
   have hD:=hD.put hE7 (o':={uo with kind:=((1:Nat):Int),text:=(((⟨l,false⟩:Ds).off 1).2.str 2).1}) hbo rfl rfl rfl ⟨hD.oin.tree,hD.oin.base,hD.oin.parents,hD.oin.leaves,hD.oin.rows,hD.oin.number,hD.oin.author⟩ ⟨hD.sh.leaves,hD.sh.parents,hD.sh.rows,hD.sh.leafP,hD.sh.rowP⟩
   have hb2:=hb2o.ga hD.X
   have hX:=hX1.gb hD.X
   refine gk ?_
   exact js (gr (_,_,_) rfl ⟨⟨hD,.inr ⟨hne,dec1 hne hk rfl⟩⟩,hb2,hX⟩)
  have h1:¬k=1:=by omega
  refine ki rfl (gu rfl ((hD.bo.kj.obj hD.oin).kind) ?_)
  dsimp only
  refine km rfl (jl rfl (fun hc=> ?_) (fun hc=> ?_))
  ·obtain rfl:k=2:=by omega
   generalize hs1:((⟨l,false⟩:Ds).off 1).2=s1 at hD
   refine ki rfl (gh call203 rfl (yx2 w5 hD.tk hD.len 1 zd) fun v8 w8 hr8=> ?_)
   obtain⟨rfl,hR2,hE8⟩:=hr8
   have hb2:=hb2.gj hE8 (hD.neR hb2 zd)
   have hX:=hX
   have hD:=hD.read hR2 hE8 (Ds.qc _ 1).2.1
   have hb2:=hb2o.ga hD.X
   have hX:=hX1.gb hD.X
   refine j0 gc rfl ?_
   rw[jz _ (by have:=s1.ub 1;omega)]
   obtain⟨n,hn⟩:∃n,n=num (s1.off 1).1:=⟨_,rfl⟩
   have hn255:n≤255:=by have:=s1.ub 1;omega
   have hrow0:s1.row Ds.leaf=([]++(Ds.each Ds.leaf (n-0) (s1.off 1).2).1,(Ds.each Ds.leaf (n-0) (s1.off 1).2).2):=by rw[Ds.row,←hn];rfl
   rw[←hn]
   refine km rfl (j8 ?_)
   refine jj (α:=Nat×List (jf)×vb×Ds) [0,2,4,5,7] rfl (fun z=>[(6,.int .i64 (z.1:Int))]) (fun z u=>(z.1≤n∧z.2.1.length≤z.1∧Bc w1 u b16 b5 {uo with kind:=((2:Nat):Int),leaves:=z.2.1} z.2.2.1 z.2.2.2∧s1.row Ds.leaf=(z.2.1++(Ds.each Ds.leaf (n-z.1) z.2.2.2).1,(Ds.each Ds.leaf (n-z.1) z.2.2.2).2))∧gz u b2 37 (cellsOf ti37.zero)∧Ext No w u) (fun z u=>n-z.1) (0,[],_,_) rfl ⟨⟨aJ _,aD _,hD,hrow0⟩,hb2,hX⟩ ?_
   rintro⟨i,acc,aa,s⟩ w9 ⟨⟨hi,hal,hD,hrow⟩,hb2,hX⟩
   try dsimp only
   dsimp only at hi hal hD hrow
   refine gl (ji (α:=Bool) [0,2,4,5,6,7] rfl (fun z=>[(50,.bool z)]) (fun z u=>u=w9∧z=decide (i<n∧s.bad=false)) ?_ ?_)
   ·refine gy ?_
    refine j0 gc rfl (ja 44 rfl (fun hg=> ?_) (fun hg=> ?_))
    ·refine gq gc 3 rfl ?_
     refine gu rfl hD.tk.cell (gq gc 2 rfl (gk ?_))
     exact gr (_) rfl ⟨rfl,by cases hbd:s.bad;exact(bQ ⟨by omega,rfl⟩).symm;exact(bO (fun h=>absurd h.2 zd)).symm⟩
    refine gq gc 6 rfl ?_
    refine gk ?_
    exact gr (false) rfl ⟨rfl,(bO (fun h=>absurd h.1 zo)).symm⟩
   rintro z w10 ⟨hu,rfl⟩
   have hu:=hu.symm
   subst hu
   refine jl rfl (fun hc=> ?_) (fun hc=> ?_)
   ·have hin:=hc.1
    have hbf:=hc.2
    have hDl:=hD.len
    refine Ac (ki rfl (gh call204 rfl (text_tk w9 hD.tk hD.len 1 zd) fun v11 w11 hr11=> ?_))
    obtain⟨rfl,hR2,hE11⟩:=hr11
    have hb2:=hb2.gj hE11 (hD.neR hb2 zd)
    have hX:=hX
    have hD:=hD.read hR2 hE11 (Ds.vf _ 1).2
    have hb2:=hb2o.ga hD.X
    have hX:=hX1.gb hD.X
    refine kg rfl ⟨⟨rfl,by decide⟩,trivial⟩ (l':=jf.cells ⟨(s.str 1).1,Ao⟩) (by rw[xz6];rfl) ?_
    have hDo:=hD
    refine gw rfl fun b8 w12 hn8 hb8 hE12=> ?_
    have ne2_8:=j2 hb2.lt hn8
    have fr8:=aA hX.size hn8
    have hb2:=hb2.ga hE12
    have hD:=hD.ga hE12
    have hX:=hX.gb hE12
    have hsp:=hDo.sep hn8
    have hb8o:=hb8
    refine wl (j4 (l':=jf.cells ⟨(s.str 1).1,Ao⟩) gc hb8 rfl rfl (jf.len rfl) (jf.len rfl) OneC.h fun w13 hb8 hE13 hs13=> ?_)
    have hb2:=hb2.gj hE13 ne2_8
    have hD:=hD.gj hsp hb8o zd hE13
    have hX:=hX.gi hE13 fr8
    refine qq (ki rfl (gh call205 rfl (id_tk w13 hD.tk hD.len) fun v14 w14 hr14=> ?_))
    obtain⟨rfl,hR2,hE14⟩:=hr14
    have hb2:=hb2.gj hE14 (hD.neR hb2 zd)
    have hb8:=hb8.gj hE14 (hD.neR hb8 zd)
    have hX:=hX
    have hD:=hD.read hR2 hE14 (Ds.un _).2
    have hb2:=hb2o.ga hD.X
    have hX:=hX1.gb hD.X
    refine j0 gc rfl ?_
    have hb8o:=hb8
    have hlf:=Ds.leaf_in hDl
    refine wl (D3 gc hb8 rfl (by rw[jh,gm,(s.str 1).2.un.1]) (by rw[jf.len rfl];decide) (by rw[jh];exact OneC.h) fun w15 hb8 hE15 hs15=> ?_)
    have hb2:=hb2.gj hE15 ne2_8
    have hD:=hD.gj hsp hb8o zd hE15
    have hX:=hX.gi hE15 fr8
    have hb8:gz w15 b8 148 ((s.leaf.1).cells):=(by have:=hb8;rw[jh,leaf_put rfl (s.str 1).2.un.1] at this;exact this)
    refine qq (yl rfl (gu rfl ((hD.bo.kj.obj hD.oin).leaves) (je hb8 rfl (jf.len hlf.2) ?_)))
    refine wl (qi gc rfl 33 rfl xz6 (jf.len rfl) zd zd ⟨⟨by rw[jh];exact(jf.len hlf.2),by decide⟩,trivial⟩ (l':=(s.leaf.1).cells) (one_leaf hlf.2) fun b62 w16 hn62 hb62 hE16 hs16=> ?_)
    have ne2_62:=j2 hb2.lt hn62
    have ne8_62:=j2 hb8.lt hn62
    have fr62:=aA hX.size hn62
    have hb2:=hb2.ga hE16
    have hb8:=hb8.ga hE16
    have hD:=hD.ga hE16
    have hX:=hX.gb hE16
    have hX0:=hX
    refine wl (va gc rfl 33 48 rfl rfl rfl zd hD.ol (Src.slice (m:=1) ⟨jf.len hlf.2,.inr ⟨b62,0,rfl,hb62.kj⟩⟩ OneC.h) zm zn fun p17 c17 w17 ho17 hE17 hB17=> ?_)
    dsimp only at ho17 hE17 hB17⊢
    have hbo1:=hD.bo.ke hD.ol hE17 (show(148:Nat)≠37 from by decide)
    refine j0 gc rfl (kl hbo1 rfl rfl rfl fun w18 hbo hE18 hs18=> ?_)
    have hbo:gz w18 b5 37 (jn {uo with kind:=((2:Nat):Int),leaves:=acc++[s.leaf.1]} ⟨p17,c17,aa.pp,aa.pc,aa.rp,aa.rc⟩):=by
     simp only[jn,aB]
     exact hbo
    have hD:=hD.putLeaf (r:=s.leaf.1) hE17 ho17 hB17 hE18 hbo hlf (by have:=s.vf 1;show(s.str 1).1.length<_;omega) zn
    have hb2:=hb2o.ga hD.X
    have hX:=hX1.gb hD.X
    refine gk (Aa rfl ?_)
    rw[jz _ zo]
    refine gk ?_
    exact jk (i+1,_,_,_) rfl ⟨⟨by dsimp only;omega,by dsimp only;rw[aB,List.length_singleton];omega,hD,row_step hrow hin hbf⟩,hb2,hX⟩ zf
   have hrow:=row_end hrow hc
   refine y8 ?_
   exact ql (ql (ve (js (gr (_,_,_) rfl ⟨⟨hD,.inr ⟨hne,(dec2 hne hk rfl).trans (by rw[hs1,hrow];rfl)⟩⟩,hb2,hX⟩))))
  have h2:¬k=2:=by omega
  refine ki rfl (gu rfl ((hD.bo.kj.obj hD.oin).kind) ?_)
  dsimp only
  refine km rfl (jl rfl (fun hc=> ?_) (fun hc=> ?_))
  ·obtain rfl:k=3:=by omega
   generalize hs1:((⟨l,false⟩:Ds).off 1).2=s1 at hD
   refine ki rfl (gh call203 rfl (yx2 w5 hD.tk hD.len 1 zd) fun v19 w19 hr19=> ?_)
   obtain⟨rfl,hR2,hE19⟩:=hr19
   have hb2:=hb2.gj hE19 (hD.neR hb2 zd)
   have hX:=hX
   have hD:=hD.read hR2 hE19 (Ds.qc _ 1).2.1
   have hb2:=hb2o.ga hD.X
   have hX:=hX1.gb hD.X
   refine j0 gc rfl ?_
   rw[jz _ (by have:=s1.ub 1;omega)]
   refine j0 gc rfl (gh call205 rfl (id_tk w19 hD.tk hD.len) fun v20 w20 hr20=> ?_)
   obtain⟨rfl,hR2,hE20⟩:=hr20
   have hb2:=hb2.gj hE20 (hD.neR hb2 zd)
   have hX:=hX
   have hD:=hD.read hR2 hE20 (Ds.un _).2
   have hb2:=hb2o.ga hD.X
   have hX:=hX1.gb hD.X
   refine j0 gc rfl (kl hD.bo rfl rfl rfl fun w21 hbo hE21 hs21=> ?_)
   have hD:=hD.put hE21 (o':=(dC2 s1)) hbo rfl rfl rfl ⟨hD.oin.tree,hD.oin.base,hD.oin.parents,hD.oin.leaves,hD.oin.rows,hD.oin.number,hD.oin.author⟩ ⟨hD.sh.leaves,hD.sh.parents,hD.sh.rows,hD.sh.leafP,hD.sh.rowP⟩
   have hb2:=hb2o.ga hD.X
   have hX:=hX1.gb hD.X
   refine j0 gc rfl (wl (D3 gc hD.bo rfl (by rw[jh,gm,(Ds.un _).1]) (by rw[gp hD.oin];decide) (by rw[jh];exact OneC.h) fun w22 hbo hE22 hs22=> ?_))
   rw[jh] at hbo
   have hbo:=(show _=_ from objC_tree hD.oin (Ds.un _).1)▸hbo
   have hD:=hD.put hE22 (o':=(dC3 s1)) hbo rfl rfl rfl ⟨(Ds.un _).1,hD.oin.base,hD.oin.parents,hD.oin.leaves,hD.oin.rows,hD.oin.number,hD.oin.author⟩ ⟨hD.sh.leaves,hD.sh.parents,hD.sh.rows,hD.sh.leafP,hD.sh.rowP⟩
   have hb2:=hb2o.ga hD.X
   have hX:=hX1.gb hD.X
   refine qq (gl (ki rfl (gh call203 rfl (yx2 w22 hD.tk hD.len 1 zd) fun v23 w23 hr23=> ?_)))
   obtain⟨rfl,hR2,hE23⟩:=hr23
   have hb2:=hb2.gj hE23 (hD.neR hb2 zd)
   have hX:=hX
   have hD:=hD.read hR2 hE23 (Ds.qc _ 1).2.1
   have hb2:=hb2o.ga hD.X
   have hX:=hX1.gb hD.X
   refine j0 gc rfl ?_
   rw[jz _ (by have:=(s1.off 1).2.id.2.ub 1;omega)]
   obtain⟨n,hn⟩:∃n,n=num ((s1.off 1).2.id.2.off 1).1:=⟨_,rfl⟩
   have hn255:n≤255:=by have:=(s1.off 1).2.id.2.ub 1;omega
   have hrow0:(s1.off 1).2.id.2.row Ds.id=([]++(Ds.each Ds.id (n-0) ((s1.off 1).2.id.2.off 1).2).1,(Ds.each Ds.id (n-0) ((s1.off 1).2.id.2.off 1).2).2):=by rw[Ds.row,←hn];rfl
   rw[←hn]
   refine km rfl (j8 ?_)
   refine jj (α:=Nat×List (List UInt8)×vb×Ds) [0,2,4,5,10] rfl (fun z=>[(9,.int .i64 (z.1:Int))]) (fun z u=>(z.1≤n∧z.2.1.length≤z.1∧Bc w1 u b16 b5 {dC3 s1 with parents:=z.2.1} z.2.2.1 z.2.2.2∧(s1.off 1).2.id.2.row Ds.id=(z.2.1++(Ds.each Ds.id (n-z.1) z.2.2.2).1,(Ds.each Ds.id (n-z.1) z.2.2.2).2))∧gz u b2 37 (cellsOf ti37.zero)∧Ext No w u) (fun z u=>n-z.1) (0,[],_,_) rfl ⟨⟨aJ _,aD _,hD,hrow0⟩,hb2,hX⟩ ?_
   rintro⟨i,acc,aa,s⟩ w24 ⟨⟨hi,hal,hD,hrow⟩,hb2,hX⟩
   try dsimp only
   dsimp only at hi hal hD hrow
   refine gl (ji (α:=Bool) [0,2,4,5,9,10] rfl (fun z=>[(88,.bool z)]) (fun z u=>u=w24∧z=decide (i<n∧s.bad=false)) ?_ ?_)
   ·refine gy ?_
    refine j0 gc rfl (ja 82 rfl (fun hg=> ?_) (fun hg=> ?_))
    ·refine gq gc 3 rfl ?_
     refine gu rfl hD.tk.cell (gq gc 2 rfl (gk ?_))
     exact gr (_) rfl ⟨rfl,by cases hbd:s.bad;exact(bQ ⟨by omega,rfl⟩).symm;exact(bO (fun h=>absurd h.2 zd)).symm⟩
    refine gq gc 6 rfl ?_
    refine gk ?_
    exact gr (false) rfl ⟨rfl,(bO (fun h=>absurd h.1 zo)).symm⟩
   rintro z w25 ⟨hu,rfl⟩
   have hu:=hu.symm
   subst hu
   refine jl rfl (fun hc=> ?_) (fun hc=> ?_)
   ·have hin:=hc.1
    have hbf:=hc.2
    have hDl:=hD.len
    refine Ac (jr rfl 7 [qP 0,qP 1,qP 2,(3,false),(4,false),(5,false),qP 6] [7] ((fun x=>x=b16∨jb aa.pp x)) zk fun w26 hE26 hs26=> ?_)
    have hd2:=hb2
    have hTd:=hT
    have hDd:=hD
    have hXd:=hX
    have hb2:=hb2.ga hE26
    have hD:=hD.ga hE26
    have hX:=hX.gb hE26
    have hC:Ext ((fun x=>x=b16∨jb aa.pp x)) _ w26:=hE26.no
    have hn5:¬(fun x=>x=b16∨jb aa.pp x) b5:=fun e=>e.elim (hDd.neR hDd.bo zd) fun hx=>hDd.op.zj7 hx hDd.bo zd rfl
    have hin1:=s.un
    refine gt gc 1 rfl (j3 gc rfl rfl (fun w' hw'=>((hDd.bo.ext (show Ext (fun x=>x=b16∨jb aa.pp x) _ w' from hw') hn5).kj.obj hDd.oin).parents) ?_)
    refine gt gc 1 rfl (jo rfl (j1 call205 rfl (id_tk w26 hD.tk hD.len) fun v27 w27 hr27=>⟨(by obtain⟨rfl,hR2,hE27⟩:=hr27;exact hC.then (hE27.mono fun _ _ e=> .inl e)),?_⟩))
    obtain⟨rfl,hR2,hE27⟩:=hr27
    have hb2:=hb2.gj hE27 (hD.neR hb2 zd)
    have hX:=hX
    have hC:=hC.then (hE27.mono fun _ _ e=> .inl e)
    have hD:=hD.read hR2 hE27 s.un.2
    have hb2:=hb2o.ga hD.X
    have hX:=hX1.gb hD.X
    refine jo rfl (qi gc rfl 32 rfl A6.symm zj zd zd ⟨⟨by rw[jh];exact(uv.len hin1.1),by decide⟩,trivial⟩ (l':=ge s.id.1) (xv7 hin1.1) fun b95 w28 hn95 hb95 hE28 hs28=>⟨hC.gb hE28,?_⟩)
    have ne2_95:=j2 hb2.lt hn95
    have fr95:=aA hX.size hn95
    have hb2:=hb2.ga hE28
    have hD:=hD.ga hE28
    have hX:=hX.gb hE28
    have hC:=hC.gb hE28
    have hX0:=hX
    refine jo rfl (va gc rfl 32 32 rfl rfl rfl zd hD.op (Src.slice (m:=1) (one_idS hin1.1 hb95) OneC.h) zm zn fun p29 c29 w29 ho29 hE29 hB29=>⟨hC.then (hE29.mono fun _ _ e=> .inr e),?_⟩)
    have hC:=hC.then (hE29.mono fun _ _ e=> .inr e)
    dsimp only at ho29 hE29 hB29⊢
    have hbo1:=hD.bo.ke hD.op hE29 (show(30:Nat)≠37 from by decide)
    refine gt gc 1 rfl (jg (wb rfl (qz gc hbo1 rfl rfl (by rw[gp hD.oin];decide) fun w30 hbo hE30 hs30=> ?_)))
    have hbo:=(show _=_ from yc hD.oin 0 _)▸(show gz w30 b5 37 ((jn _ aa).set (68+0) _) from hbo)
    have hbo:gz w30 b5 37 (jn {dC3 s1 with parents:=acc++[s.id.1]} ⟨aa.lp,aa.lc,p29,c29,aa.rp,aa.rc⟩):=by
     simp only[jn,aB]
     exact hbo
    have hD:=hD.putId (r:=s.id.1) hE29 ho29 hB29 hE30 hbo hin1.1 zn
    have hb2:=hb2o.ga hD.X
    have hX:=hX1.gb hD.X
    refine j5 (Aa rfl ?_)
    rw[jz _ zo]
    refine gk ?_
    exact jk (i+1,_,_,_) rfl ⟨⟨by dsimp only;omega,by dsimp only;rw[aB,List.length_singleton];omega,hD,row_step hrow hin hbf⟩,hb2,hX⟩ zf
   have hrow:=row_end hrow hc
   have e1:acc=((s1.off 1).2.id.2.row Ds.id).1:=by rw[hrow]
   have e2:s=((s1.off 1).2.id.2.row Ds.id).2:=by rw[hrow]
   subst e1
   subst e2
   refine Ak (ki rfl (gh call205 rfl (id_tk w24 hD.tk hD.len) fun v31 w31 hr31=> ?_))
   obtain⟨rfl,hR2,hE31⟩:=hr31
   have hb2:=hb2.gj hE31 (hD.neR hb2 zd)
   have hX:=hX
   have hD:=hD.read hR2 hE31 (Ds.un _).2
   have hb2:=hb2o.ga hD.X
   have hX:=hX1.gb hD.X
   refine j0 gc rfl (wl (D3 gc hD.bo rfl (by rw[jh,gm,(Ds.un _).1]) (by rw[gp hD.oin];decide) (by rw[jh];exact OneC.h) fun w32 hbo hE32 hs32=> ?_))
   rw[jh] at hbo
   have hbo:=(show _=_ from objC_base hD.oin (Ds.un _).1)▸hbo
   have hD:=hD.put hE32 (o':=(dC5 s1)) hbo rfl rfl rfl ⟨hD.oin.tree,(Ds.un _).1,hD.oin.parents,hD.oin.leaves,hD.oin.rows,hD.oin.number,hD.oin.author⟩ ⟨hD.sh.leaves,hD.sh.parents,hD.sh.rows,hD.sh.leafP,hD.sh.rowP⟩
   have hb2:=hb2o.ga hD.X
   have hX:=hX1.gb hD.X
   refine qq (gl (ki rfl (gh call203 rfl (yx2 w32 hD.tk hD.len 1 zd) fun v33 w33 hr33=> ?_)))
   obtain⟨rfl,hR2,hE33⟩:=hr33
   have hb2:=hb2.gj hE33 (hD.neR hb2 zd)
   have hX:=hX
   have hD:=hD.read hR2 hE33 (Ds.qc _ 1).2.1
   have hb2:=hb2o.ga hD.X
   have hX:=hX1.gb hD.X
   refine j0 gc rfl ?_
   rw[jz _ (by have:=((s1.off 1).2.id.2.row Ds.id).2.id.2.ub 1;omega)]
   obtain⟨n,hn⟩:∃n,n=num (((s1.off 1).2.id.2.row Ds.id).2.id.2.off 1).1:=⟨_,rfl⟩
   have hn255:n≤255:=by have:=((s1.off 1).2.id.2.row Ds.id).2.id.2.ub 1;omega
   have hrow0:((s1.off 1).2.id.2.row Ds.id).2.id.2.row Ds.chg=([]++(Ds.each Ds.chg (n-0) (((s1.off 1).2.id.2.row Ds.id).2.id.2.off 1).2).1,(Ds.each Ds.chg (n-0) (((s1.off 1).2.id.2.row Ds.id).2.id.2.off 1).2).2):=by rw[Ds.row,←hn];rfl
   rw[←hn]
   refine km rfl (j8 ?_)
   refine jj (α:=Nat×List (u9)×vb×Ds) [0,2,4,5,12] rfl (fun z=>[(11,.int .i64 (z.1:Int))]) (fun z u=>(z.1≤n∧z.2.1.length≤z.1∧Bc w1 u b16 b5 {dC5 s1 with rows:=z.2.1} z.2.2.1 z.2.2.2∧((s1.off 1).2.id.2.row Ds.id).2.id.2.row Ds.chg=(z.2.1++(Ds.each Ds.chg (n-z.1) z.2.2.2).1,(Ds.each Ds.chg (n-z.1) z.2.2.2).2))∧gz u b2 37 (cellsOf ti37.zero)∧Ext No w u) (fun z u=>n-z.1) (0,[],_,_) rfl ⟨⟨aJ _,aD _,hD,hrow0⟩,hb2,hX⟩ ?_
   rintro⟨i,acc,aa,s⟩ w34 ⟨⟨hi,hal,hD,hrow⟩,hb2,hX⟩
   try dsimp only
   dsimp only at hi hal hD hrow
   refine gl (ji (α:=Bool) [0,2,4,5,11,12] rfl (fun z=>[(113,.bool z)]) (fun z u=>u=w34∧z=decide (i<n∧s.bad=false)) ?_ ?_)
   ·refine gy ?_
    refine j0 gc rfl (ja 107 rfl (fun hg=> ?_) (fun hg=> ?_))
    ·refine gq gc 3 rfl ?_
     refine gu rfl hD.tk.cell (gq gc 2 rfl (gk ?_))
     exact gr (_) rfl ⟨rfl,by cases hbd:s.bad;exact(bQ ⟨by omega,rfl⟩).symm;exact(bO (fun h=>absurd h.2 zd)).symm⟩
    refine gq gc 6 rfl ?_
    refine gk ?_
    exact gr (false) rfl ⟨rfl,(bO (fun h=>absurd h.1 zo)).symm⟩
   rintro z w35 ⟨hu,rfl⟩
   have hu:=hu.symm
   subst hu
   refine jl rfl (fun hc=> ?_) (fun hc=> ?_)
   ·have hin:=hc.1
    have hbf:=hc.2
    have hDl:=hD.len
    refine Ac (ki rfl (gh call204 rfl (text_tk w34 hD.tk hD.len 1 zd) fun v36 w36 hr36=> ?_))
    obtain⟨rfl,hR2,hE36⟩:=hr36
    have hb2:=hb2.gj hE36 (hD.neR hb2 zd)
    have hX:=hX
    have hD:=hD.read hR2 hE36 (Ds.vf _ 1).2
    have hb2:=hb2o.ga hD.X
    have hX:=hX1.gb hD.X
    refine kg rfl ⟨⟨rfl,by decide⟩,trivial⟩ (l':=u9.cells ⟨(s.str 1).1,false,[]⟩) (by rw[chgZ_c];rfl) ?_
    have hDo:=hD
    refine gw rfl fun b13 w37 hn13 hb13 hE37=> ?_
    have ne2_13:=j2 hb2.lt hn13
    have fr13:=aA hX.size hn13
    have hb2:=hb2.ga hE37
    have hD:=hD.ga hE37
    have hX:=hX.gb hE37
    have hsp:=hDo.sep hn13
    have hb13o:=hb13
    refine wl (j4 (l':=u9.cells ⟨(s.str 1).1,false,[]⟩) gc hb13 rfl rfl rfl rfl OneC.h fun w38 hb13 hE38 hs38=> ?_)
    have hb2:=hb2.gj hE38 ne2_13
    have hD:=hD.gj hsp hb13o zd hE38
    have hX:=hX.gi hE38 fr13
    refine qq (ki rfl (gh call203 rfl (yx2 w38 hD.tk hD.len 1 zd) fun v39 w39 hr39=> ?_))
    obtain⟨rfl,hR2,hE39⟩:=hr39
    have hb2:=hb2.gj hE39 (hD.neR hb2 zd)
    have hb13:=hb13.gj hE39 (hD.neR hb13 zd)
    have hX:=hX
    have hD:=hD.read hR2 hE39 (Ds.qc _ 1).2.1
    have hb2:=hb2o.ga hD.X
    have hX:=hX1.gb hD.X
    refine j0 gc rfl ?_
    have hb13o:=hb13
    refine kl hb13 rfl rfl rfl fun w40 hb13 hE40 hs40=> ?_
    have hb2:=hb2.gj hE40 ne2_13
    have hD:=hD.gj hsp hb13o zd hE40
    have hX:=hX.gi hE40 fr13
    have hb13:gz w40 b13 150 (u9.cells ⟨(s.str 1).1,(decide (0<num ((s.str 1).2.off 1).1)),[]⟩):=(by have e:decide ((num ((s.str 1).2.off 1).1:Int)>0)=(decide (0<num ((s.str 1).2.off 1).1)):=aH.2 zo;rw[←e];exact hb13)
    refine qq (ki rfl (gh call204 rfl (text_tk w40 hD.tk hD.len 2 zd) fun v41 w41 hr41=> ?_))
    obtain⟨rfl,hR2,hE41⟩:=hr41
    have hb2:=hb2.gj hE41 (hD.neR hb2 zd)
    have hb13:=hb13.gj hE41 (hD.neR hb13 zd)
    have hX:=hX
    have hD:=hD.read hR2 hE41 (Ds.vf _ 2).2
    have hb2:=hb2o.ga hD.X
    have hX:=hX1.gb hD.X
    refine j0 gc rfl ?_
    have hb13o:=hb13
    have hch:=Ds.chg_in hDl
    refine kl hb13 rfl rfl rfl fun w42 hb13 hE42 hs42=> ?_
    have hb2:=hb2.gj hE42 ne2_13
    have hD:=hD.gj hsp hb13o zd hE42
    have hX:=hX.gi hE42 fr13
    have hb13:gz w42 b13 150 ((s.chg.1).cells):=hb13
    refine qq (yl rfl (gu rfl ((hD.bo.kj.obj hD.oin).rows) (je hb13 rfl rfl ?_)))
    refine wl (qi gc rfl 3 rfl chgZ_c rfl zd zd ⟨⟨rfl,by decide⟩,trivial⟩ (l':=(s.chg.1).cells) rfl fun b130 w43 hn130 hb130 hE43 hs43=> ?_)
    have ne2_130:=j2 hb2.lt hn130
    have ne13_130:=j2 hb13.lt hn130
    have fr130:=aA hX.size hn130
    have hb2:=hb2.ga hE43
    have hb13:=hb13.ga hE43
    have hD:=hD.ga hE43
    have hX:=hX.gb hE43
    have hX0:=hX
    refine wl (va gc rfl 3 40 rfl rfl rfl zd hD.or (Src.slice (m:=1) ⟨rfl,.inr ⟨b130,0,rfl,hb130.kj⟩⟩ OneC.h) zm zn fun p44 c44 w44 ho44 hE44 hB44=> ?_)
    dsimp only at ho44 hE44 hB44⊢
    have hbo1:=hD.bo.ke hD.or hE44 (show(150:Nat)≠37 from by decide)
    refine j0 gc rfl (wl (qz gc hbo1 rfl rfl (by rw[gp hD.oin];decide) fun w45 hbo hE45 hs45=> ?_))
    have hbo:=(show _=_ from yc hD.oin 1 _)▸(show gz w45 b5 37 ((jn _ aa).set (68+1) _) from hbo)
    have hbo:gz w45 b5 37 (jn {dC5 s1 with rows:=acc++[s.chg.1]} ⟨aa.lp,aa.lc,aa.pp,aa.pc,p44,c44⟩):=by
     simp only[jn,aB]
     exact hbo
    have hD:=hD.putChg (r:=s.chg.1) hE44 ho44 hB44 hE45 hbo hch (by have:=s.vf 1;show(s.str 1).1.length<_;omega) zn
    have hb2:=hb2o.ga hD.X
    have hX:=hX1.gb hD.X
    refine gk (Aa rfl ?_)
    rw[jz _ zo]
    refine gk ?_
    exact jk (i+1,_,_,_) rfl ⟨⟨by dsimp only;omega,by dsimp only;rw[aB,List.length_singleton];omega,hD,row_step hrow hin hbf⟩,hb2,hX⟩ zf
   have hrow:=row_end hrow hc
   have hcom:s1.com=({dC5 s1 with rows:=acc,number:=num (s.off 4).1,author:=num ((s.off 4).2.off 4).1,note:=(((s.off 4).2.off 4).2.str 1).1},(((s.off 4).2.off 4).2.str 1).2):=by unfold Ds.com;dsimp only;rw[hrow];rfl
   refine Ak (ki rfl (gh call203 rfl (yx2 w34 hD.tk hD.len 4 zd) fun v46 w46 hr46=> ?_))
   obtain⟨rfl,hR2,hE46⟩:=hr46
   have hb2:=hb2.gj hE46 (hD.neR hb2 zd)
   have hX:=hX
   have hD:=hD.read hR2 hE46 (Ds.qc _ 4).2.1
   have hb2:=hb2o.ga hD.X
   have hX:=hX1.gb hD.X
   refine j0 gc rfl ?_
   rw[IntWalk.u32_in _ (by have:=Ds.ub s 4;omega)]
   refine j0 gc rfl (gh call203 rfl (yx2 w46 hD.tk hD.len 4 zd) fun v47 w47 hr47=> ?_)
   obtain⟨rfl,hR2,hE47⟩:=hr47
   have hb2:=hb2.gj hE47 (hD.neR hb2 zd)
   have hX:=hX
   have hD:=hD.read hR2 hE47 (Ds.qc _ 4).2.1
   have hb2:=hb2o.ga hD.X
   have hX:=hX1.gb hD.X
   refine j0 gc rfl ?_
   rw[IntWalk.u32_in _ (by have:=Ds.ub (s.off 4).2 4;omega)]
   refine j0 gc rfl (wl (qz gc hD.bo rfl rfl (by rw[gp hD.oin];decide) fun w48 hbo hE48 hs48=> ?_))
   have hbo:=(show _=_ from yc hD.oin 2 _)▸(show gz w48 b5 37 ((jn _ aa).set (68+2) _) from hbo)
   have hD:=hD.put hE48 (o':={dC5 s1 with rows:=acc,number:=num (s.off 4).1}) hbo rfl rfl rfl ⟨hD.oin.tree,hD.oin.base,hD.oin.parents,hD.oin.leaves,hD.oin.rows,(Ds.ub _ 4),hD.oin.author⟩ ⟨hD.sh.leaves,hD.sh.parents,hD.sh.rows,hD.sh.leafP,hD.sh.rowP⟩
   have hb2:=hb2o.ga hD.X
   have hX:=hX1.gb hD.X
   refine j0 gc rfl (wl (qz gc hD.bo rfl rfl (by rw[gp hD.oin];decide) fun w49 hbo hE49 hs49=> ?_))
   have hbo:=(show _=_ from yc hD.oin 3 _)▸(show gz w49 b5 37 ((jn _ aa).set (68+3) _) from hbo)
   have hD:=hD.put hE49 (o':={dC5 s1 with rows:=acc,number:=num (s.off 4).1,author:=num ((s.off 4).2.off 4).1}) hbo rfl rfl rfl ⟨hD.oin.tree,hD.oin.base,hD.oin.parents,hD.oin.leaves,hD.oin.rows,hD.oin.number,(Ds.ub _ 4)⟩ ⟨hD.sh.leaves,hD.sh.parents,hD.sh.rows,hD.sh.leafP,hD.sh.rowP⟩
   have hb2:=hb2o.ga hD.X
   have hX:=hX1.gb hD.X
   refine qq (yl rfl (gh call204 rfl (text_tk w49 hD.tk hD.len 1 zd) fun v50 w50 hr50=> ?_))
   obtain⟨rfl,hR2,hE50⟩:=hr50
   have hb2:=hb2.gj hE50 (hD.neR hb2 zd)
   have hX:=hX
   have hD:=hD.read hR2 hE50 (Ds.vf _ 1).2
   have hb2:=hb2o.ga hD.X
   have hX:=hX1.gb hD.X
   refine j0 gc rfl (wl (qz gc hD.bo rfl rfl (by rw[gp hD.oin];decide) fun w51 hbo hE51 hs51=> ?_))
   have hbo:=(show _=_ from yc hD.oin 4 _)▸(show gz w51 b5 37 ((jn _ aa).set (68+4) _) from hbo)
   have hD:=hD.put hE51 (o':={dC5 s1 with rows:=acc,number:=num (s.off 4).1,author:=num ((s.off 4).2.off 4).1,note:=(((s.off 4).2.off 4).2.str 1).1}) hbo rfl rfl rfl ⟨hD.oin.tree,hD.oin.base,hD.oin.parents,hD.oin.leaves,hD.oin.rows,hD.oin.number,hD.oin.author⟩ ⟨hD.sh.leaves,hD.sh.parents,hD.sh.rows,hD.sh.leafP,hD.sh.rowP⟩
   have hb2:=hb2o.ga hD.X
   have hX:=hX1.gb hD.X
   refine gk ?_
   exact js (gr (_,_,_) rfl ⟨⟨hD,.inr ⟨hne,(dec3 hne hk rfl).trans (by rw[hs1,hcom])⟩⟩,hb2,hX⟩)
  have h3:¬k=3:=by omega
  refine ko (kg rfl trivial (l':=jn uo Dh) zv8.symm (wl (j4 (l':=jn uo Dh) gc hb2 rfl rfl rfl rfl OneC.h fun w52 hb2 hE52 hs52=> ?_)))
  have hX:=hX.gi hE52 fr2
  refine vr rfl (u1 (j7 (qe [_,_] ⟨⟨b2,0,rfl,qg gc rfl rfl hb2.kj rfl⟩,rfl,trivial⟩ ?_)))
  exact⟨Dh,by rw[dec4 hne hk h1 h2 h3];rfl,by rw[dec4 hne hk h1 h2 h3];exact qw.nil _ _ _ rfl rfl rfl,hX⟩
 rintro⟨o,aa,s⟩ w53 ⟨⟨hD,hdec⟩,hb2,hX⟩
 try dsimp only
 dsimp only at hD hdec
 refine gl (ki rfl (gu rfl hD.tk.cell (qq (ud rfl (fun hc=> ?_) (fun hc=> ?_)))))
 ·have hd2:vj l=(uo,7):=by
   rcases hdec with⟨h1,_⟩|⟨_,h1⟩
   ·exact dec0 h1
   rw[h1,endB];exact aR hc
  refine ko (kg rfl trivial (l':=jn uo Dh) zv8.symm (wl (j4 (l':=jn uo Dh) gc hb2 rfl rfl rfl rfl OneC.h fun w54 hb2 hE54 hs54=> ?_)))
  have hX:=hX.gi hE54 fr2
  refine vr rfl (j7 (qe [_,_] ⟨⟨b2,0,rfl,qg gc rfl rfl hb2.kj rfl⟩,rfl,trivial⟩ ?_))
  exact⟨Dh,by rw[hd2];rfl,by rw[hd2];exact qw.nil _ _ _ rfl rfl rfl,hX⟩
 have hd1:vj l=if x9 o∧laidB o=l then(o,0) else(uo,160):=by
  rcases hdec with⟨_,h1⟩|⟨_,h1⟩
  ·rw[h1] at hc;cases hc
  rw[h1,endB];exact aP (by rw[hc];decide)
 refine x3 (gl (ji (α:=Bool) [2,5] rfl (fun z=>[(160,.bool z)]) (fun z u=>(z=decide (¬(x9 o∧laidB o=l))∧Bc w1 u b16 b5 o aa s)∧gz u b2 37 (cellsOf ti37.zero)∧Ext No w u) ?_ ?_))
 ·refine jr rfl 11 [qP 0,(1,false),qP 2,qP 3,qP 4,qP 7,qP 8,(5,false),(6,false),qP 9,qP 10] [] (No) zk fun w55 hE55 hs55=> ?_
  have hd2:=hb2
  have hTd:=hT
  have hDd:=hD
  have hXd:=hX
  have hb2:=hb2.ga hE55
  have hD:=hD.ga hE55
  have hX:=hX.gb hE55
  have hC:Ext (No) _ w55:=hE55.no
  refine qa gc rfl rfl (fun w' hw'=>(hDd.ga hw').bo.kj) (gp hDd.oin) ?_
  refine jo rfl (j1 call94 rfl (right6_calls w55 hD.oin hD.new.l hD.sh) fun v56 w56 hr56=>⟨(by obtain⟨rfl,hE56⟩:=hr56;exact hC.gb hE56),?_⟩)
  obtain⟨rfl,hE56⟩:=hr56
  have hb2:=hb2.ga hE56
  have hD:=hD.ga hE56
  have hX:=hX.gb hE56
  have hC:=hC.gb hE56
  refine gt gc 2 rfl (Cm 153 rfl (fun hg=> ?_) (fun hg=> ?_))
  ·have hok:¬x9 o:=by simpa using hg
   refine gt gc 7 rfl (jg (j5 ?_))
   exact gr (_) rfl ⟨⟨by symm;rw[aU];exact fun h=>hok h.1,hD⟩,hb2,hX⟩
  have hok:x9 o:=by simpa using hg
  refine qa gc rfl rfl (fun w' hw'=>(hDd.ga hw').bo.kj) (gp hDd.oin) ?_
  refine gt gc 1 rfl (wd_b2s gc rfl rfl rfl (fun w' hw'=>(h.ga (hXd.gb hw'))) (h.ga hX) ?_)
  refine jo rfl (j1 call99 rfl (Dd w56 hD.oin hD.new.l (bytes_of hok.1)) fun v57 w57 hr57=>⟨(by obtain⟨q,k2,rfl,hq,hqn,hE57⟩:=hr57;exact hC.gb hE57),?_⟩)
  obtain⟨q,k2,rfl,hq,hqn,hE57⟩:=hr57
  have hb2:=hb2.ga hE57
  have hD:=hD.ga hE57
  have hX:=hX.gb hE57
  have hC:=hC.gb hE57
  refine jo rfl (D4 gc rfl rfl hq.sl ⟨hC,?_⟩)
  refine gt gc 2 rfl (jg (j5 ?_))
  exact gr (_) rfl ⟨⟨by rw[aH];exact⟨fun h h2=>h (by rw[h2.2]),fun h e=>h ⟨hok,xt e⟩⟩,hD⟩,hb2,hX⟩
 rintro z w58 ⟨⟨rfl,hD⟩,hb2,hX⟩
 refine jl rfl (fun hc=> ?_) (fun hc=> ?_)
 ·have hd2:vj l=(uo,160):=by rw[hd1];exact aP hc
  refine ko (kg rfl trivial (l':=jn uo Dh) zv8.symm (wl (j4 (l':=jn uo Dh) gc hb2 rfl rfl rfl rfl OneC.h fun w59 hb2 hE59 hs59=> ?_)))
  have hX:=hX.gi hE59 fr2
  refine vr rfl (j7 (qe [_,_] ⟨⟨b2,0,rfl,qg gc rfl rfl hb2.kj rfl⟩,rfl,trivial⟩ ?_))
  exact⟨Dh,by rw[hd2];rfl,by rw[hd2];exact qw.nil _ _ _ rfl rfl rfl,hX⟩
 have hd2:vj l=(o,0):=by rw[hd1];exact aR (aS.1 hc)
 refine x3 (ko (jm rfl hD.bo.kj (gp hD.oin) ?_))
 have hN:=hD.new
 have hin:=hD.oin
 have hb2p:=hb2
 refine wl (j4 (l':=jn o aa) gc hb2 rfl rfl (gp hD.oin) (gp hD.oin) OneC.h fun w60 hb2 hE60 hs60=> ?_)
 have hX:=hX.gi hE60 fr2
 have hN:=hN.gj hE60 hb2p zd zd zd
 refine vr rfl (qe [_,_] ⟨⟨b2,0,rfl,qg gc rfl rfl hb2.kj (gp hin)⟩,rfl,trivial⟩ ?_)
 exact⟨aa,by rw[hd2];rfl,by rw[hd2];exact hN.older hX1.size,hX⟩
theorem idK:IdKey prog 30:=by
 refine⟨deep_law (m:=10) zo kId zk (by simp only[uId]),fun x a=> ?_,fun _ _ h=>idV_inj h⟩
 have b:Nat.blt 0 prog.types.size=true:=by kernel_rfl
 obtain⟨d,c⟩:∃d,prog.types.size+1=d+2:=by
  generalize prog.types.size=n at b⊢
  cases n with
  |zero=>cases b
  |succ n=>exact⟨n,rfl⟩
 have e:prog.keyType 30=true:=by kernel_rfl
 have f:prog.keyLits (prog.types.size+1) 30 (ge x)=some (zq4 x):=by rw[c];exact lits_bytes uId cId uByte cByte a
 refine⟨.string (keyBytes (zq4 x)),?_⟩
 unfold keyOf
 rw[uId]
 have g:(prog.keyType 30&&(idV x).formed prog 30)=true:=by rw[e,ue a];rfl
 simp only[g,cO]
 show(prog.keyLits (prog.types.size+1) 30 (ge x)).map _=_
 rw[f]
 rfl
theorem heldZ_c:cellsOf ti126.zero=ge Ao++jn uo Dh:=by kernel_rfl
theorem held_build {i:List UInt8} {o:jq} {a:vb} (hi:i.length=32) (ho:u4 o):yh (ge Ao++jn uo Dh) [(0,32,.agg (ge i).toArray),(32,73,.agg (jn o a).toArray)]=Bx ⟨i,o,a⟩:=by
 simp only[yh,jh,Bx]
 rw[put_eq _ 0 _ (by rw[aB,gm,gm,hi,gp qf];decide),gm,hi]
 have c:(ge Ao++jn uo Dh).drop (0+32)=jn uo Dh:=List.drop_left' zj
 rw[c,List.take_zero,cB]
 have b:(ge i).length=32:=by rw[gm,hi]
 rw[put_eq _ 32 _ (by rw[aB,b,gp qf,gp ho];exact aD _),gp ho,dG b,List.drop_of_length_le (by rw[aB,b,gp qf];exact aD _),bK]
section
variable {n1 N0 l:Nat} {J:List u3→World→Prop} {hs:List u3} {w w':World}
end
end Go.Proofs.YtpdiphfjmepijaaGreatDoor
namespace Go.Vc
structure Sec where
  safe:List UInt8
  waits:List (List UInt8)
structure ku where
  secs:List Sec
  order:List Nat
  dead:Bool
  fuse:Int
  fault:Int
  done:Int
def zeros:List UInt8:=List.replicate 64 0
def Sec.now (s:Sec):List UInt8:=s.waits.getLast?.getD s.safe
def ku.fresh (n:Nat):ku:=⟨List.replicate n ⟨zeros,[]⟩,[],false,-1,-1,0⟩
def ku.now (D:ku) (i:Nat):List UInt8:=((D.secs[i]?).map Sec.now).getD zeros
def Aw (burns:Bool) (fu:Int):Int:=if burns=true∧fu≠-1 then fu-1 else fu
def vo (fa:Int):Int:=if fa= -1 then-1 else fa-1
def ku.begin (D:ku) (i:Int) (burns:Bool):ku×Int:=
  if D.dead=true then(D,9)
  else if¬(0≤i∧i<D.secs.length) then(D,2)
  else if D.fault=0 then({D with fault:= -1},8)
  else if burns=true∧D.fuse=0 then({D with fault:=vo D.fault,fuse:= -1,dead:=true},9)
  else({D with fault:=vo D.fault,fuse:=Aw burns D.fuse,done:=D.done+1},0)
def C8 (b:List UInt8) (s:Sec):Sec:=⟨s.safe,s.waits++[b]⟩
def ku.put (D:ku) (i:Nat) (b:List UInt8):ku:={D with secs:=D.secs.modify i (C8 b),order:=D.order++[i]}
def ut (b:Bool) (s:Sec):Sec:=⟨if b then s.waits.headD s.safe else s.safe,s.waits.tail⟩
def B9 (lives:Nat→Bool):List Nat→Nat→List Sec→List Sec
  | [],_,secs=>secs
  |k::r,i,secs=>B9 lives r (i+1) (secs.modify k (ut (lives i)))
def ku.settle (D:ku) (lives:Nat→Bool):ku:={D with secs:=B9 lives D.order 0 D.secs,order:=[]}
def ku.read (D:ku) (i:Int):ku×List UInt8×Int:=
  let x:=D.begin i false
  (x.1,if x.2=0 then x.1.now i.toNat else zeros,x.2)
def ku.write (D:ku) (i:Int) (b:List UInt8):ku×Int:=
  let x:=D.begin i true
  (if x.2=0 then x.1.put i.toNat b else x.1,x.2)
def ku.sync (D:ku):ku×Int:=
  let x:=D.begin 0 true
  (if x.2=0 then x.1.settle fun _=>true else x.1,x.2)
def setTo (n:Int):Int:=if n< -1 then-1 else n
def yx3 (keep:List Bool) (i:Nat):Bool:=(keep[i]?).getD false
def ku.crash (D:ku) (keep:List Bool):ku:={D.settle (yx3 keep) with dead:=false,fuse:= -1,fault:= -1}
structure ku.Ok (D:ku) (m:Nat):Prop where
  size:1≤D.secs.length∧D.secs.length≤2048
  safe:∀s∈D.secs,s.safe.length=64∧∀b∈s.waits,b.length=64
  inside:∀k∈D.order,k<D.secs.length
  count:∀i s,D.secs[i]? =some s→s.waits.length=D.order.count i
  few:D.order.length≤m
  fuse: -1≤D.fuse∧D.fuse<9223372036854775808
  fault: -1≤D.fault∧D.fault<9223372036854775808
  done:0≤D.done∧D.done≤m
theorem setTo_ge (n:Int) (h:n<9223372036854775808): -1≤setTo n∧setTo n<9223372036854775808:=by unfold setTo;split<;>omega
theorem fuseTo_ge (b:Bool) (n:Int) (h: -1≤n∧n<9223372036854775808): -1≤Aw b n∧Aw b n<9223372036854775808:=by unfold Aw;split<;>omega
theorem faultTo_ge (n:Int) (h: -1≤n∧n<9223372036854775808): -1≤vo n∧vo n<9223372036854775808:=by unfold vo;split<;>omega
theorem ku.Ok.mono {D:ku} {m m':Nat} (h:D.Ok m) (hm:m≤m'):D.Ok m':=
 ⟨h.size,h.safe,h.inside,h.count,aA h.few hm,h.fuse,h.fault,by have:=h.done;omega⟩
theorem ku.Ar (D:ku) (i:Int) (b:Bool):(D.begin i b).1.secs=D.secs∧(D.begin i b).1.order=D.order:=by
 unfold ku.begin
 repeat' split
 all_goals exact⟨rfl,rfl⟩
theorem ku.Ok.begin {D:ku} {m:Nat} (h:D.Ok m) (i:Int) (b:Bool):(D.begin i b).1.Ok (m+1):=by
 have a:=fuseTo_ge b _ h.fuse
 have c:=faultTo_ge _ h.fault
 have d:=h.done
 have e:=h.fuse
 have f:=h.fault
 have g:=h.few
 unfold ku.begin
 repeat' split
 all_goals exact⟨h.size,h.safe,h.inside,h.count,by simp only;omega,by simp only;omega,by simp only;omega,by simp only;omega⟩
theorem ku.begin0 {D:ku} (i:Int) (b:Bool) (h0:(D.begin i b).2=0):0≤i∧i<D.secs.length:=by
 unfold ku.begin at h0
 repeat' split at h0
 all_goals first|(simp at h0;done)|(rename_i hh _ _;exact aS.1 hh)
theorem ku.Ok.put {D:ku} {m:Nat} (h:D.Ok m) {i:Nat} (hi:i<D.secs.length) {b:List UInt8} (hb:b.length=64):(D.put i b).Ok (m+1):=by
 refine⟨by simpa [ku.put] using h.size,?_,?_,?_,?_,h.fuse,h.fault,by have:=h.done;simp only[ku.put];omega⟩
 ·intro s a
  simp only[ku.put] at a
  obtain⟨j,f,rfl⟩:=bJ.1 a
  rw[List.getElem_modify]
  simp only[List.length_modify] at f
  have:=h.safe D.secs[j] (aG f)
  split
  ·refine⟨this.1,fun c d=> ?_⟩
   simp only[C8,aY,aI] at d
   rcases d with d|rfl
   ·exact this.2 c d
   exact hb
  exact this
 ·intro k e
  simp only[ku.put,aY,aI,List.length_modify] at*
  rcases e with e|rfl
  ·exact h.inside k e
  exact hi
 ·intro j s a
  simp only[ku.put] at*
  rw[List.getElem?_modify] at a
  rw[List.count_append,List.count_singleton]
  cases hsj:D.secs[j]? with
  |none=>rw[hsj] at a;simp at a
  |some t=>
   rw[hsj] at a
   have:=h.count j t hsj
   by_cases hij:i=j
   ·subst hij
    simp at a
    subst a
    simp[C8,this]
   simp[hij] at a
   subst a
   have:(i==j)=false:=by simpa using hij
   simp[*]
 have:=h.few
 simp only[ku.put,aB,List.length_singleton]
 omega
theorem Ay (lives:Nat→Bool):∀(l:List Nat) (i:Nat) (secs:List Sec),(B9 lives l i secs).length=secs.length
 | [],_,_=>rfl
 |k::r,i,secs=>by rw[B9,Ay lives r];simp
theorem yw7 (lives:Nat→Bool):∀(l:List Nat) (i:Nat) (secs:List Sec),(∀s∈secs,s.safe.length=64∧∀b∈s.waits,b.length=64)→∀s∈B9 lives l i secs,s.safe.length=64∧∀b∈s.waits,b.length=64
 | [],_,_,h=>h
 |k::r,i,secs,h=>by
  refine yw7 lives r (i+1) _ fun s hs=> ?_
  obtain⟨j,hj,rfl⟩:=bJ.1 hs
  rw[List.getElem_modify]
  simp only[List.length_modify] at hj
  have:=h secs[j] (aG hj)
  split
  ·refine⟨?_,fun b hb=>this.2 b (List.mem_of_mem_tail hb)⟩
   simp only[ut]
   split
   ·cases hw:secs[j].waits with
    |nil=>exact this.1
    |cons b r=>exact this.2 b (by rw[hw];simp)
   exact this.1
  exact this
theorem yv2 (lives:Nat→Bool):∀(l:List Nat) (i:Nat) (secs:List Sec) (j:Nat) (s:Sec),(B9 lives l i secs)[j]? =some s→∃t,secs[j]? =some t∧s.waits=t.waits.drop (l.count j)
 | [],_,secs,j,s,h=>⟨s,h,by simp⟩
 |k::r,i,secs,j,s,h=>by
  obtain⟨t,ht,hw⟩:=yv2 lives r (i+1) _ j s h
  rw[List.getElem?_modify] at ht
  cases hs:secs[j]? with
  |none=>rw[hs] at ht;simp at ht
  |some u=>
   rw[hs] at ht
   refine⟨u,rfl,?_⟩
   by_cases hk:k=j
   ·subst hk
    simp at ht
    subst ht
    rw[hw]
    simp only[ut,List.count_cons_self]
    rw[List.drop_tail]
   simp[hk] at ht
   subst ht
   have:(k==j)=false:=by simpa using hk
   rw[hw,List.count_cons,this]
   simp
theorem ku.Ok.settle {D:ku} {m:Nat} (h:D.Ok m) (lives:Nat→Bool):(D.settle lives).Ok m:=by
 refine⟨by simpa [ku.settle,Ay] using h.size,yw7 lives _ _ _ h.safe,?_,?_,by simp[ku.settle],h.fuse,h.fault,h.done⟩
 ·intro k hk;simp[ku.settle] at hk
 intro i s hs
 obtain⟨t,ht,hw⟩:=yv2 lives _ _ _ i s hs
 rw[hw,aX,h.count i t ht]
 simp[ku.settle]
theorem ku.Ok.crash {D:ku} {m:Nat} (h:D.Ok m) (keep:List Bool):(D.crash keep).Ok m:=by
 have:=h.settle (yx3 keep)
 exact⟨this.size,this.safe,this.inside,this.count,this.few,by simp[ku.crash],by simp[ku.crash],this.done⟩
theorem zeros_length:zeros.length=64:=by simp[zeros]
theorem ku.Ok.fresh {n:Nat} (h:1≤n∧n≤2048):(ku.fresh n).Ok 0:=by
 refine⟨by simpa [ku.fresh] using h,?_,?_,?_,by simp[ku.fresh],by simp[ku.fresh],by simp[ku.fresh],by simp[ku.fresh]⟩
 ·intro s hs
  simp only[ku.fresh,List.mem_replicate] at hs
  rw[hs.2]
  exact⟨zeros_length,fun b hb=>by cases hb⟩
 ·intro k hk;simp[ku.fresh] at hk
 intro i s hs
 simp only[ku.fresh,List.getElem?_replicate] at hs
 split at hs
 ·cases hs;simp[ku.fresh]
 cases hs
abbrev Bytes:=List UInt8
abbrev numB (b:Bytes):Value:= .agg (ge b).toArray
theorem Cb {b:Bytes}:∀u∈ge b,u.oneCell'=true:=fun u hu=>by
 obtain⟨x,_,rfl⟩:=bN.1 hu;rfl
theorem qj {b:Bytes} (h:b.length=64):(ge b).length=64:=by rw[gm,h]
def yv1 (b:Bytes):List Int:=b.map fun x=>(x.toNat:Int)
theorem Dl (b:Bytes):(yv1 b).length=b.length:=by simp[yv1]
theorem xz5 (b:Bytes):numB b=Ci .u8 (yv1 b):=by simp[numB,Ci,yv1,ge,zu,Function.comp_def]
theorem yq3 {a b:Bytes}:yv1 a=yv1 b↔a=b:=by
 refine List.map_inj_right (f:=fun x:UInt8=>(x.toNat:Int)) fun x y e=> ?_
 exact UInt8.toNat_inj.1 (by have e:(x.toNat:Int)=y.toNat:=e;omega)
def kw (n:Nat):Nat:=if 40000<n then 0 else(n+3)/48+1
def sectZ (n:Int):Int:=if n<0∨40000<n then 0 else((n.toNat+3)/48+1:Nat)
theorem B8 (n:Nat):sectZ (n:Int)=(kw n:Int):=by
 unfold sectZ kw
 by_cases h:40000<n
 ·rw[aR zo,aR h];rfl
 rw[aP zo,aP h,cC]
theorem Df {n:Nat} (h:n≤40000):0<kw n:=by rw[kw,aP zo];omega
theorem zx6 (n:Nat):kw n≤834:=by unfold kw;split<;>omega
theorem xw7 {n:Nat} (h:n≤40000):n+4≤48*kw n:=by rw[kw,aP zo];omega
theorem sectN_tight {n:Nat} (h:n≤40000):48*(kw n-1)<n+4:=by rw[kw,aP zo];omega
def sealB (b:Bytes):Bytes:=(sumW (b++List.replicate (60-b.length) 0)).take 4++(b++List.replicate (60-b.length) 0)
theorem yq6 {b:Bytes} (h:b.length≤60):(sealB b).length=64:=by
 simp only[sealB,aB,aL,C3,bS]
 omega
def zq3:Bytes:=[114,105,118,101,114,108,111,103]
def yv3 (turn n:Nat):Bytes:=sealB (zq3++be 4 turn++be 4 n)
theorem Dn (turn n:Nat):(yv3 turn n).length=64:=yq6 (by simp[zq3,jy])
def zj3 (b:Bytes):Bytes:=be 4 b.length++b
def C1 (turn number:Nat) (b:Bytes) (k:Nat):Bytes:=sealB (be 4 turn++be 4 number++be 2 k++be 2 (kw b.length)++((zj3 b).drop (48*k)).take 48)
theorem pieceAt_len (turn number:Nat) (b:Bytes) (k:Nat):(C1 turn number b k).length=64:=yq6 (by
 simp only[aB,jy,aL];omega)
def vk (turn number:Nat) (b:Bytes):List Bytes:=(List.range (kw b.length)).map (C1 turn number b)
theorem xc (turn number:Nat) (b:Bytes):(vk turn number b).length=kw b.length:=by simp[vk]
theorem zq5 (turn number:Nat) (b:Bytes):∀s∈vk turn number b,s.length=64:=fun s hs=>by
 obtain⟨k,_,rfl⟩:=bN.1 hs
 exact pieceAt_len _ _ _ _
def Bw (n sectors:Nat):Prop:=4≤n∧n≤1000∧2+2*n≤sectors
instance (n s:Nat):Decidable (Bw n s):=inferInstanceAs (Decidable (_∧_∧_))
def uj (turn n:Nat):Nat:=if turn%2=1 then 2+n else 2
def zx8 (b:Bytes):Nat:=num ((b.drop 12).take 4)
def zz0 (b:Bytes):Nat:=num ((b.drop 16).take 4)
def HeadOk (i sectors:Nat) (b:Bytes):Prop:=zx8 b%2=i∧Bw (zz0 b) sectors∧yv3 (zx8 b) (zz0 b)=b
instance (i s:Nat) (b:Bytes):Decidable (HeadOk i s b):=inferInstanceAs (Decidable (_∧_∧_))
def newer (i sectors:Nat) (b:Bytes) (o:Option (Nat×Nat)):Option (Nat×Nat):=
  if HeadOk i sectors b then match o with
    |none=>some (zx8 b,zz0 b)
    |some (t,n)=>if t<zx8 b then some (zx8 b,zz0 b) else some (t,n)
  else o
def yz1 (l:List Bytes):Bytes:=l.flatMap (·.drop 16)
def yk (s:Bytes):Nat:=num ((s.drop 16).take 4)
def zx0 (l:List Bytes) (turn number:Nat):Option Bytes:=
  match l with
  | []=>none
  |s::_=>
    if 40000<yk s∨l.length<kw (yk s) then none
    else if vk turn number (((yz1 (l.take (kw (yk s)))).drop 4).take (yk s))=l.take (kw (yk s)) then some (((yz1 (l.take (kw (yk s)))).drop 4).take (yk s)) else none
def lyGo (turn:Nat):Nat→List Bytes→Nat→List Bytes
  |0,_,_=>[]
  |f+1,area,n=>match zx0 area turn n with
    |none=>[]
    |some b=>b::lyGo turn f (area.drop (kw b.length)) (n+1)
def lyingB (area:List Bytes) (turn:Nat):List Bytes:=lyGo turn area.length area 0
def ug (l:List Bytes):Nat:=(l.map fun b=>kw b.length).sum
def Br:ku→Int→List Bytes→ku×Int
  |D,_,[]=>D.sync
  |D,at_,b::r=>if(D.write at_ b).2≠0 then D.write at_ b else Br (D.write at_ b).1 (at_+1) r
def Av (D:ku) (turn n:Nat) (x:Bytes):ku×Int:=
  let y:=Br D (uj turn n) (vk turn 0 x)
  if y.2≠0 then y else Br y.1 ((turn%2:Nat):Int) [yv3 turn n]
structure Wl where
  D:ku
  size:Nat
  turn:Nat
  pieces:List Bytes
  used:Nat
  broken:Bool
def vw (D:ku) (area:Int):ku×Int:=
  if¬(0≤area∧Bw area.toNat D.secs.length) then(D,2)
  else
    let y:=Br D 0 (List.replicate (2+2*area.toNat) zeros)
    if y.2≠0 then y else Av y.1 0 area.toNat []
def yf:ku→Int→Nat→ku×List Bytes×Int
  |D,_,0=>(D,[],0)
  |D,at_,k+1=>
    let x:=D.read at_
    if x.2.2≠0 then(x.1,[],x.2.2) else
      let y:=yf x.1 (at_+1) k
      (y.1,x.2.1::y.2.1,y.2.2)
def Ct:ku→Int→List Bytes→ku×Int
  |D,_,[]=>(D,0)
  |D,at_,b::r=>if b=zeros then Ct D (at_+1) r else if(D.write at_ zeros).2≠0 then D.write at_ zeros else Ct (D.write at_ zeros).1 (at_+1) r
def D5 (D:ku) (at_:Int) (rest:List Bytes):ku×Int:=
  let y:=Ct D at_ rest
  if y.2≠0 then y else if D.order=[]∧(∀b∈rest,b=zeros) then y else y.1.sync
def nwE (o:Option (Nat×Nat)):Int:=match o with|none=>140|some _=>0
def nwT (o:Option (Nat×Nat)):Nat:=match o with|none=>0|some (t,_)=>t
def y9 (S:Nat):Nat→Nat→ku→Option (Nat×Nat)→ku×Int×Option (Nat×Nat)
  |0,_,D,o=>(D,nwE o,o)
  |k+1,i,D,o=>if(D.read i).2.2≠0 then((D.read i).1,(D.read i).2.2,none) else y9 S k (i+1) (D.read i).1 (newer i S (D.read i).2.1 o)
def u7 (D:ku):ku×Int×Option (Nat×Nat):=y9 D.secs.length 2 0 D none
def x7 (D:ku) (turn n:Nat):ku×Int×Nat×Nat×List Bytes:=
  let z:=yf D (uj turn n) n
  if z.2.2≠0 then(z.1,z.2.2,0,0,[]) else
  let ps:=lyingB z.2.1 turn
  if ps=[] then(z.1,140,0,0,[]) else
  let c:=D5 z.1 ((uj turn n+ug ps:Nat):Int) (z.2.1.drop (ug ps))
  (c.1,c.2,turn,n,ps)
def ur (D:ku):ku×Int×Nat×Nat×List Bytes:=
  match u7 D with
  |(D',_,some (turn,n))=>x7 D' turn n
  |(D',e,none)=>(D',e,0,0,[])
def Wl.opened (x:ku×Int×Nat×Nat×List Bytes):Wl:=⟨x.1,x.2.2.2.1,x.2.2.1,x.2.2.2.2,ug x.2.2.2.2,false⟩
def Wl.refuses (W:Wl) (x:Bytes) (room:Int):Int:=
  if 40000<x.length then 3 else if W.broken=true then 8 else if room<kw x.length then 6 else 0
def Wl.append (W:Wl) (x:Bytes):Wl×Int:=
  let e:=W.refuses x ((W.size:Int)-W.used)
  if e≠0 then(W,e) else
  let y:=Br W.D ((uj W.turn W.size+W.used:Nat):Int) (vk W.turn W.pieces.length x)
  if y.2≠0 then({W with D:=y.1,broken:=true},y.2) else({W with D:=y.1,broken:=false,pieces:=W.pieces++[x],used:=W.used+kw x.length},0)
def Wl.xq (W:Wl) (x:Bytes):Wl×Int:=
  let e:=W.refuses x (if W.turn=4294967295 then 0 else W.size)
  if e≠0 then(W,e) else
  let y:=Av W.D (W.turn+1) W.size x
  if y.2≠0 then({W with D:=y.1,broken:=true},y.2) else({W with D:=y.1,broken:=false,turn:=W.turn+1,pieces:=[x],used:=kw x.length},0)
/-! ### What holds of disks on the way -/
theorem ku.Ok.write {D:ku} {m:Nat} (h:D.Ok m) (i:Int) {b:Bytes} (hb:b.length=64):(D.write i b).1.Ok (m+2):=by
 unfold ku.write
 dsimp only
 have a:=h.begin i true
 split
 ·rename_i c
  have d:=ku.begin0 i true c
  refine a.put ?_ hb
  rw[(ku.Ar D i true).1]
  omega
 exact a.mono zo
theorem ku.Ok.sync {D:ku} {m:Nat} (h:D.Ok m):D.sync.1.Ok (m+1):=by
 unfold ku.sync
 dsimp only
 have h1:=h.begin 0 true
 split
 ·exact h1.settle _
 exact h1
theorem ku.Ok.read {D:ku} {m:Nat} (h:D.Ok m) (i:Int):(D.read i).1.Ok (m+1):=h.begin i false
theorem ku.yz2 (D:ku) (i:Int) (b:Bytes):(D.write i b).1.secs.length=D.secs.length:=by
 unfold ku.write
 dsimp only
 split
 ·simp[ku.put,(ku.Ar D i true).1]
 rw[(ku.Ar D i true).1]
theorem ku.sync_secs (D:ku):D.sync.1.secs.length=D.secs.length:=by
 unfold ku.sync
 dsimp only
 split
 ·simp[ku.settle,Ay,(ku.Ar D 0 true).1]
 rw[(ku.Ar D 0 true).1]
theorem ku.read_secs (D:ku) (i:Int):(D.read i).1.secs=D.secs:=(ku.Ar D i false).1
theorem yx7:∀(l:List Bytes) {D:ku} {m:Nat} (at_:Int),D.Ok m→(∀b∈l,b.length=64)→(Br D at_ l).1.Ok (m+2*l.length+1)
 | [],D,m,at_,h,_=>h.sync
 |b::r,D,m,at_,h,hl=>by
  have h1:=h.write at_ (hl b zp)
  unfold Br
  split
  ·exact h1.mono ze
  exact(yx7 r (at_+1) h1 fun x hx=>hl x (by simp[hx])).mono zc
theorem Cf:∀(l:List Bytes) (D:ku) (at_:Int),(Br D at_ l).1.secs.length=D.secs.length
 | [],D,at_=>D.sync_secs
 |b::r,D,at_=>by
  unfold Br
  split
  ·exact D.yz2 at_ b
  rw[Cf r,D.yz2]
theorem beginD_ok {D:ku} {m:Nat} (h:D.Ok m) (turn n:Nat) (x:Bytes):(Av D turn n x).1.Ok (m+2*kw x.length+4):=by
 unfold Av
 dsimp only
 have a:=yx7 (vk turn 0 x) (uj turn n:Int) h (zq5 turn 0 x)
 rw[xc] at a
 split
 ·exact a.mono zo
 exact(yx7 [yv3 turn n] _ a fun b c=>by rw[aI.1 c];exact Dn _ _).mono zp
theorem beginD_secs (D:ku) (turn n:Nat) (x:Bytes):(Av D turn n x).1.secs.length=D.secs.length:=by
 unfold Av
 dsimp only
 split
 ·rw[Cf]
 rw[Cf,Cf]
theorem layD_step {L:List Bytes} {k:Nat} (hk:k<L.length) (D:ku) (at_:Int):Br D (at_+k) (L.drop k)=if(D.write (at_+k) (L.getD k [])).2≠0 then D.write (at_+k) (L.getD k []) else Br (D.write (at_+k) (L.getD k [])).1 (at_+(k+1:Nat)) (L.drop (k+1)):=by
 have e:L.getD k []=L[k]:=by simp[hk]
 rw[bY hk,Br,e,Int.natCast_add,←Int.add_assoc]
 rfl
theorem formatW_no {D:ku} {area:Int} (h:¬(0≤area∧Bw area.toNat D.secs.length)):vw D area=(D,2):=aR h
theorem formatW_yes {D:ku} {a:Nat} (h:Bw a D.secs.length):vw D (a:Int)=if(Br D 0 (List.replicate (2+2*a) zeros)).2≠0 then Br D 0 (List.replicate (2+2*a) zeros) else Av (Br D 0 (List.replicate (2+2*a) zeros)).1 0 a []:=by
 unfold vw
 rw[aP (fun b=>b ⟨dN a,by rw[cC];exact h⟩),cC]
theorem zeros_rep (n:Nat):∀b∈List.replicate n zeros,b.length=64:=fun b hb=>by rw[(List.mem_replicate.1 hb).2];exact zeros_length
theorem wipeD_zero {R:List Bytes} {i:Nat} (hi:i<R.length) (h:R[i]=zeros) (D:ku) (at_:Int):Ct D (at_+i) (R.drop i)=Ct D (at_+(i+1:Nat)) (R.drop (i+1)):=by
 rw[bY hi,Ct,aR h,Int.natCast_add,←Int.add_assoc]
 rfl
theorem wipeD_step {R:List Bytes} {i:Nat} (hi:i<R.length) (h:R[i]≠zeros) (D:ku) (at_:Int):Ct D (at_+i) (R.drop i)=if(D.write (at_+i) zeros).2≠0 then D.write (at_+i) zeros else Ct (D.write (at_+i) zeros).1 (at_+(i+1:Nat)) (R.drop (i+1)):=by
 rw[bY hi,Ct,aP h,Int.natCast_add,←Int.add_assoc]
 rfl
theorem wipeD_ok:∀(l:List Bytes) {D:ku} {m:Nat} (at_:Int),D.Ok m→(Ct D at_ l).1.Ok (m+2*l.length)
 | [],D,m,at_,h=>h
 |b::r,D,m,at_,h=>by
  unfold Ct
  split
  ·exact(wipeD_ok r (at_+1) h).mono ze
  have h1:=h.write at_ zeros_length
  split
  ·exact h1.mono ze
  exact(wipeD_ok r (at_+1) h1).mono ze
theorem zq7:∀(l:List Bytes) (D:ku) (at_:Int),(Ct D at_ l).1.secs.length=D.secs.length
 | [],D,at_=>rfl
 |b::r,D,at_=>by
  unfold Ct
  split
  ·exact zq7 r D _
  split
  ·exact D.yz2 _ _
  rw[zq7 r,D.yz2]
theorem cleanD_ok {D:ku} {m:Nat} (h:D.Ok m) (at_:Int) (l:List Bytes):(D5 D at_ l).1.Ok (m+2*l.length+1):=by
 unfold D5
 dsimp only
 have h1:=wipeD_ok l at_ h
 split
 ·exact h1.mono zo
 split
 ·exact h1.mono zo
 exact h1.sync
theorem cleanD_secs (D:ku) (at_:Int) (l:List Bytes):(D5 D at_ l).1.secs.length=D.secs.length:=by
 unfold D5
 dsimp only
 split
 ·exact zq7 _ _ _
 split
 ·exact zq7 _ _ _
 rw[ku.sync_secs,zq7]
theorem xq0:∀(k:Nat) (L:List Bytes),(∀b∈L,b.length=64)→(L.flatMap ge).drop (k*64)=(L.drop k).flatMap ge
 |0,L,_=>by simp
 |k+1,[],_=>by simp
 |k+1,b::L,h=>by
  rw[dI,List.drop_succ_cons,←xq0 k L fun x hx=>h x (by simp[hx]),List.drop_append,qj (h b zp),bM (by rw[qj (h b zp)];omega),cB,show(k+1)*64-64=k*64 from by omega]
/-! ### Opening -/
def NwOk (S:Nat) (o:Option (Nat×Nat)):Prop:=∀t n,o=some (t,n)→Bw n S∧t<4294967296
theorem turnOf_lt {b:Bytes}:zx8 b<4294967296:=by
 have h:=ub ((b.drop 12).take 4)
 have hl:((b.drop 12).take 4).length≤4:=by rw[aL];omega
 have h2:256^((b.drop 12).take 4).length≤256^4:=cR zd hl
 exact aM h h2
theorem newer_ok {i S:Nat} {b:Bytes} {o:Option (Nat×Nat)} (h:NwOk S o):NwOk S (newer i S b o):=by
 intro t n e
 unfold newer at e
 split at e
 ·rename_i a
  cases o with
  |none=>simp at e;obtain⟨rfl,rfl⟩:=e;exact⟨a.2.1,turnOf_lt⟩
  |some x=>
   simp only at e
   split at e
   ·simp at e;obtain⟨rfl,rfl⟩:=e;exact⟨a.2.1,turnOf_lt⟩
   exact h t n e
 exact h t n e
theorem xj9 (S:Nat):∀(k i:Nat) (D:ku) (o:Option (Nat×Nat)) (m:Nat),NwOk S o→D.Ok m→
  ((y9 S k i D o).1.Ok (m+k)∧(y9 S k i D o).1.secs=D.secs∧(y9 S k i D o).1.order=D.order)∧(((y9 S k i D o).2.2=none∧(y9 S k i D o).2.1≠0)∨∃t n,(y9 S k i D o).2.2=some (t,n)∧(y9 S k i D o).2.1=0∧Bw n S∧t<4294967296)
 |0,i,D,o,m,ho,hok=>by
  refine⟨⟨hok,rfl,rfl⟩,?_⟩
  cases o with
  |none=>exact .inl ⟨rfl,by simp[y9,nwE]⟩
  |some x=>exact .inr ⟨x.1,x.2,rfl,rfl,ho x.1 x.2 rfl⟩
 |k+1,i,D,o,m,ho,hok=>by
  have h1:=hok.read (i:Int)
  have h2:=ku.Ar D (i:Int) false
  unfold y9
  split
  ·rename_i he
   exact⟨⟨h1.mono zo,h2.1,h2.2⟩,.inl ⟨rfl,he⟩⟩
  obtain⟨⟨a1,a2,a3⟩,b⟩:=xj9 S k (i+1) (D.read i).1 (newer i S (D.read i).2.1 o) (m+1) (newer_ok ho) h1
  exact⟨⟨a1.mono zo,a2.trans h2.1,a3.trans h2.2⟩,b⟩
theorem newestD_spec {D:ku} {m:Nat} (hok:D.Ok m):((u7 D).1.Ok (m+2)∧(u7 D).1.secs=D.secs∧(u7 D).1.order=D.order)∧(((u7 D).2.2=none∧(u7 D).2.1≠0)∨∃t n,(u7 D).2.2=some (t,n)∧(u7 D).2.1=0∧Bw n D.secs.length∧t<4294967296):=
 xj9 D.secs.length 2 0 D none m (fun _ _ e=>by cases e) hok
theorem openW_no {D:ku} (h:(u7 D).2.2=none):ur D=((u7 D).1,(u7 D).2.1,0,0,[]):=by
 unfold ur
 generalize u7 D=x at h
 obtain⟨D',e,o⟩:=x
 dsimp only at h
 subst h
 rfl
theorem openW_yes {D:ku} {t n:Nat} (h:(u7 D).2.2=some (t,n)):ur D=x7 (u7 D).1 t n:=by
 unfold ur
 generalize u7 D=x at h
 obtain⟨D',e,o⟩:=x
 dsimp only at h
 subst h
 rfl
theorem readsD_step (D:ku) (at_:Int) (k:Nat):yf D at_ (k+1)=if(D.read at_).2.2≠0 then((D.read at_).1,[],(D.read at_).2.2) else((yf (D.read at_).1 (at_+1) k).1,(D.read at_).2.1::(yf (D.read at_).1 (at_+1) k).2.1,(yf (D.read at_).1 (at_+1) k).2.2):=by
 rfl
theorem Cd (l:List Bytes) (b:Bytes):ug (l++[b])=ug l+kw b.length:=by simp[ug]
theorem liesB_some {L:List Bytes} {t n:Nat} {b:Bytes} (hL:∀s∈L,s.length=64) (h:zx0 L t n=some b):b.length≤40000∧kw b.length≤L.length∧vk t n b=L.take (kw b.length):=by
 cases L with
 |nil=>cases h
 |cons s r=>
  have h:(if 40000<yk s∨(s::r).length<kw (yk s) then none
   else if vk t n (((yz1 ((s::r).take (kw (yk s)))).drop 4).take (yk s))=(s::r).take (kw (yk s)) then some (((yz1 ((s::r).take (kw (yk s)))).drop 4).take (yk s)) else none)=some b:=h
  split at h
  ·cases h
  rename_i l
  split at h
  ·rename_i g
   simp only[bG] at h
   have i:yk s≤40000:=by omega
   have j:kw (yk s)≤(s::r).length:=by omega
   have c:(yz1 ((s::r).take (kw (yk s)))).length=48*kw (yk s):=by
    have:∀(L:List Bytes),(∀b∈L,b.length=64)→(yz1 L).length=48*L.length:=by
     intro L
     induction L with
     |nil=>intro _;rfl
     |cons a L ih=>
      intro h
      have e:yz1 (a::L)=a.drop 16++yz1 L:=rfl
      rw[e,aB,aX,h a zp,ih fun x k=>h x (by simp[k]),aW]
      omega
    rw[this _ fun b d=>hL b (bH d),aL,bP j]
   have f:=xw7 i
   have d:b.length=yk s:=by rw[←h,aL,aX,c];omega
   rw[h] at g
   rw[d]
   exact⟨i,j,g⟩
  cases h
theorem lyGo_step (t:Nat):∀(f:Nat) (area:List Bytes) (n:Nat),(∀s∈area,s.length=64)→area.length≤f→lyGo t f area n=match zx0 area t n with
  |none=>[]
  |some b=>b::lyGo t (f-1) (area.drop (kw b.length)) (n+1)
 |0,area,n,_,h=>by
  have:area=[]:=aZ zo
  subst this
  rfl
 |f+1,area,n,_,_=>rfl
theorem zeros_64 {n:Nat}:∀s∈List.replicate n zeros,s.length=64:=fun s hs=>by rw[(List.mem_replicate.1 hs).2];exact zeros_length
open Go.WideShapes Go.ChangeShapes Go.RowKit
section
variable {H:Type} {enc:TypeId×Value→H} {P:Program} {w w':World}
theorem Ext.sameAt (hE:Ext No w w') {p:MemPlace} (hp:p.block<w.heap.size):w.sameAt w' p:=by
 cases p with
 |cell b off=>
  have:=hE.same b hp id
  show w'.cell? ⟨b,off,none⟩=w.cell? ⟨b,off,none⟩
  unfold World.cell?
  rw[this]
 |map b=>exact hE.same b hp id
theorem xj3 {base:Nat} {sp:Nat→Bool} {held:Bool}:∀{ts:List TypeId} {vs:List Value} {ds:List (DataW H)} {ps:List MemPlace},DataW.TrodAll enc P w base sp held ts vs ds ps→(∀p∈ps,w.sameAt w' p)→DataW.TrodAll enc P w' base sp held ts vs ds ps
 | [],[],[],_,h,_=>h
 |_::_,_::_,_::_,_,⟨p,q,⟨n,h1⟩,h2,e⟩,hs=>⟨p,q,⟨n,DataW.trod_carry n _ _ _ h1 fun x hx=>hs x (by rw[e];exact List.mem_append_left _ hx)⟩,xj3 h2 fun x hx=>hs x (by rw[e];exact List.mem_append_right _ hx),e⟩
theorem post_of_old {f:Func} {s:ChangeSpec} {apart fresh handsOn again:Bool} {W W':World} {args:Array Value} {v:Value} {ds gs:List (DataW H)} {before pa pv:List MemPlace}
  (hW:DataW.Whole enc P f.params.toList s.vars apart W args.toList ds gs before)
  (hres:∀(b:Nat) (sp:Nat→Bool) (hd:Bool),DataW.TrodAll enc P W' b sp hd f.resultTypes.toList (v.resultList f.resultTypes.size) (s.fn H (ds++gs)).results [])
  (hargs:∀sp:Nat→Bool,(∀p∈before,sp p.block=true)→DataW.TrodAll enc P W' 0 sp true f.params.toList args.toList (s.fn H (ds++gs)).args pa)
  (hvars:∀sp:Nat→Bool,(∀p∈before,sp p.block=true)→DataW.TrodVars enc P W' sp s.vars (s.fn H (ds++gs)).vars pv)
  (hps:before=pa++pv) (hk:W.keptBut W' (·∈before)) (hfz:∀a:Addr,a.block<W.heap.size→W'.frozen? a=W.frozen? a)
  (hok:∀(j:Nat) (t:TypeId) (r:Value),f.resultTypes[j]? =some t→(v.resultList f.resultTypes.size)[j]? =some r→Value.okWide P W' .any 0 t r):
  s.post enc P f apart fresh handsOn again W args v W':=by
 have e:∀p∈before,p.block<W.heap.size:=fun p c=>hW.lt p c
 have d:∀p∈before,(fun b=>decide (b<W.heap.size)) p.block=true:=fun p c=>by simpa using e p c
 have h:∀p,p∈[]++pa++pv↔p∈before:=fun p=>by rw[hps,cB]
 refine⟨ds,gs,before,[],pa,pv,hW,hres _ _ _,hargs _ d,hvars _ d,World.keptBut_mono (fun p c=>⟨c,.inr (aY.1 (hps▸c))⟩) hk,fun _=> ?_⟩
 obtain⟨_,_,_,_,_,k,l⟩:=hW
 refine⟨hok,_,_,([]++pa)++pv,⟨[]++pa,pv,trodAll_append (hargs _ (fun _ _=>rfl)) (hres _ _ _),hvars _ (fun _ _=>rfl),rfl,fun b g c=> ?_,fun m=> ?_⟩,fun p c _=>(h p).1 c⟩
 ·have i:=(h _).1 c
  rw[hfz _ (e _ i)]
  exact k b g i
 have:=l m
 rw[hps] at this
 exact this
theorem post_true {f:Func} {s:ChangeSpec} {fresh handsOn again:Bool} {W W':World} {args:Array Value} {ds gs:List (DataW H)} {before:List MemPlace} (hl:laidOutB P=true) (hm:mapsRowed P=true) (hz:((List.range P.types.size).all fun t=>match P.underlying t with|some (.slice e)=>decide (0<P.cellsOf e)|_=>true)=true)
  (hW:DataW.Whole enc P f.params.toList s.vars false W args.toList ds gs before) (hv:s.vars=[]) (hts:f.params.toList.all (fun t=>decide (t<P.types.size))=true)
  {tb:TypeId} (hrt:f.resultTypes= #[tb]) (htb:P.underlying tb=some .bool) (hr:(s.fn H (ds++gs)).results=[.lit (.bool true)]) (ha:(s.fn H (ds++gs)).args=ds) (hvr:(s.fn H (ds++gs)).vars=[]) (hE:Ext No W W'):
  s.post enc P f false fresh handsOn again W args (.bool true) W':=by
 have b:=hW
 obtain⟨p,q,g,h,rfl,_,_⟩:=hW
 rw[hv] at h
 obtain⟨rfl,rfl⟩:=trodVars_none h
 refine post_of_old (pa:=p) (pv:=[]) b (fun _ _ _=> ?_) (fun j c=> ?_) (fun _ _=> ?_) zp (World.keptBut_mono (fun _ f=>f.elim) (hE.kept fun _ _=>id)) (fun a ha=>hE.froz ha id) ?_
 ·rw[hrt,hr]
  exact trodAll_cons_mk (RowKit.shut_bool htb true) trodAll_mk0
 ·rw[ha]
  refine xj3 (g.respare (kids_rows hl hm) (slices_full_of P hz) (fun t i=>by simpa using dH.1 hts t i) fun x d=>c x (by simpa using d)) fun x d=> ?_
  exact hE.sameAt (g.lt x d)
 ·rw[hv,hvr];rfl
 exact ok_one hrt rfl (RowKit.okWide_bool_mk htb true)
theorem cells?_seg {a:Addr} {m:Nat} {r:List Value} (h:w.cells? 0 a m=some r) (hm:0<m):a=⟨a.block,a.off,none⟩∧r.length=m∧Seg w a.block a.off r∧a.block<w.heap.size:=by
 have hlt:=World.cells?_block h hm
 unfold World.cells? at h
 rw[aR (aJ _)] at h
 have hlen:=mapM_some_length h
 have hget:∀i,i<m→w.cell? (a.add i)=r[i]? :=fun i hi=>mapM_some_get h i i (by simp[hi])
 simp only[List.length_range] at hlen
 have hspot:a.spot=none:=by
  have h0:=hget 0 hm
  have hr0:r[0]? =some r[0]:=by simp
  rw[hr0] at h0
  have e:a.add 0=a:=by simp[Addr.add]
  rw[e] at h0
  unfold World.cell? at h0
  split at h0
  ·split at h0
   ·cases h0
   rename_i hs;simpa using hs
  cases h0
 have ha:a=⟨a.block,a.off,none⟩:=by rw[←hspot]
 refine⟨ha,hlen,fun i v hv=> ?_,hlt⟩
 have hi:i<m:=by
  have:=(cY.1 hv).1
  omega
 have hi':=hget i hi
 rw[hv] at hi'
 have e:a.add i=⟨a.block,a.off+i,none⟩:=by rw[ha];exact addr_add _ _ _
 rw[e] at hi'
 exact hi'
theorem rows_seg {b m:Nat}:∀{L:List (List Value)} {off:Nat},Uni m L→(∀(i:Nat) (r:List Value),L[i]? =some r→Seg w b (off+i*m) r)→Seg w b off L.flatten
 | [],_,_,_=>fun i v hv=>by simp at hv
 |r::L,off,hu,h=>by
  rw[dB,Seg.append]
  have hr:=hu r zp
  refine⟨by simpa using h 0 r rfl,?_⟩
  rw[hr]
  refine rows_seg (fun x hx=>hu x (by simp[hx])) fun i x hx=> ?_
  have:=h (i+1) x (by simpa using hx)
  rwa [show off+(i+1)*m=off+m+i*m from by rw[Nat.succ_mul];omega] at this
theorem open_rows {sp:Nat→Bool} {held:Bool} {fuel:Nat} {t e m:Nat} {cs:List Value} {x:DataW H×List MemPlace} (ht:P.underlying t=some (.slice e)) (hm:P.cellsOf e=m) (hm0:0<m) (h:DataW.trod enc P w 0 sp held fuel t cs=some x):
  ∃(p:Option Addr) (n c:Nat) (L:List (List Value)),cs=[.slice p n c]∧n≤c∧c≤maxLen∧L.length=n∧Uni m L∧Sl w p n m L.flatten∧(n≠0→∀b off,p=some ⟨b,off,none⟩→b<w.heap.size)∧
   ∀r∈L,∃k y,DataW.trod enc P w 0 sp held k e r=some y:=by
 subst hm
 rcases DataW.trod_slice ht h with⟨q,_⟩|⟨a,d,v,z,F,n,_,q,_,_,M,N,G,A,_⟩
 ·exact⟨none,0,0,[],q,aD _,by unfold maxLen;omega,rfl,Uni.nil _,Sl.nil _ _ _,fun h=>absurd rfl h,fun r g=>by cases g⟩
 have s:∀i,i<d→∃r y,w.cells? 0 (a.add (i*P.cellsOf e)) (P.cellsOf e)=some r∧DataW.trod enc P w 0 sp held n e r=some y:=by
  intro i o
  have:=A i o
  rw[aN zo,Option.bind_eq_some_iff] at this
  obtain⟨r,B,C⟩:=this
  exact⟨r,_,B,C⟩
 have f:∀i:_root_.Fin d,∃r y,w.cells? 0 (a.add (i.1*P.cellsOf e)) (P.cellsOf e)=some r∧DataW.trod enc P w 0 sp held n e r=some y:=fun i=>s i.1 i.2
 let L:List (List Value):=List.ofFn fun i:_root_.Fin d=>Classical.choose (f i)
 have u:∀(i:Nat) (r:List Value),L[i]? =some r→i<d∧w.cells? 0 (a.add (i*P.cellsOf e)) (P.cellsOf e)=some r∧∃y,DataW.trod enc P w 0 sp held n e r=some y:=by
  intro i r g
  have o:i<d:=by
   have:=(cY.1 g).1
   simpa [L] using this
  have:r=Classical.choose (f ⟨i,o⟩):=by
   simp only[L,List.getElem?_ofFn,o,dif_pos,bG] at g
   exact g.symm
  subst this
  obtain⟨y,B,C⟩:=Classical.choose_spec (f ⟨i,o⟩)
  exact⟨o,B,y,C⟩
 have j:L.length=d:=by simp[L]
 have D:Uni (P.cellsOf e) L:=fun r g=>by
  obtain⟨i,o,rfl⟩:=bJ.1 g
  have:=u i L[i] zp
  exact(cells?_seg this.2.1 hm0).2.1
 refine⟨some a,d,v,L,q,M,N,j,D,⟨by rw[Aq D,j],?_⟩,?_,fun r g=> ?_⟩
 ·rcases Nat.eq_zero_or_pos d with I|I
  ·exact .inl I
  right
  have l:=u 0 L[0] zp
  have E:a.add (0*P.cellsOf e)=a:=by simp[Addr.add]
  rw[E] at l
  have J:=(cells?_seg l.2.1 hm0).1
  refine⟨a.block,a.off,congrArg some J,rows_seg D fun i r g=> ?_⟩
  have o:=u i r g
  have:=(cells?_seg o.2.1 hm0).2.2.1
  have O:a.add (i*P.cellsOf e)=⟨a.block,a.off+i*P.cellsOf e,none⟩:=by
   conv=>lhs;rw[J]
   exact addr_add _ _ _
  rw[O] at this
  exact this
 ·intro R b off K
  have l:=u 0 (L[0]'zo) zp
  have E:a.add (0*P.cellsOf e)=a:=by simp[Addr.add]
  rw[E] at l
  have:=(cells?_seg l.2.1 hm0).2.2.2
  simp only[bG] at K
  rw[K] at this
  exact this
 obtain⟨i,o,rfl⟩:=bJ.1 g
 obtain⟨_,_,y,Q⟩:=u i L[i] zp
 exact⟨n,y,Q⟩
end
end Go.Vc
namespace Go.Proofs.YtpdiphfjmepijaaGreatDoor
open Go.Proofs.Tryz
open Go.Vc
abbrev dskL (sb n:Nat) (op:Option Addr) (on oc:Nat) (dead:Bool) (fu fa dn:Int):List Value:=
  [.slice (some ⟨sb,0,none⟩) n n,.slice op on oc,.bool dead,.int .i64 fu,.int .i64 fa,.int .i64 dn]
theorem alive_live (w:World) {d sb n:Nat} {op:Option Addr} {on oc:Nat} {dead:Bool} {fu fa dn:Int} (hb:gz w d 153 (dskL sb n op on oc dead fu fa dn)):
  gn prog 148 [.pointer (some ⟨d,0,none⟩)] w fun v w'=>v= .int .i64 (if dead then 9 else 0)∧w'=w:=by
 refine gx func148 ?_
 refine jd rfl (gl (jd rfl (up rfl ?_)))
 refine x3 (gl (ki rfl (j6 hb rfl rfl (qq (ud rfl (fun h=> ?_) (fun h=> ?_))))))
 ·refine jd rfl (j9 (j7 (gv rfl rfl ⟨by simp[h],rfl⟩)))
 refine x3 (jd rfl (j9 (gv rfl rfl ⟨by simp[h],rfl⟩)))
theorem zw1 (w:World) {d sb n:Nat} {op:Option Addr} {on oc:Nat} {dead:Bool} {fu fa dn:Int} (i:Int) (burns:Bool) {g:Nat} {caps:Array Value}
  (hcf:∀args w,(callFunc g args).run prog w= .ok (.enter g args) w)
  (hb:gz w d 153 (dskL sb n op on oc dead fu fa dn)) (hfu: -1≤fu∧fu<9223372036854775808) (hfa: -1≤fa∧fa<9223372036854775808) (hdn:0≤dn∧dn<9223372036854775807) (R:Value→World→Prop)
  (hdead:dead=true→R (.int .i64 9) w)
  (harg:dead=false→¬(0≤i∧i<n)→R (.int .i64 2) w)
  (hio:dead=false→0≤i∧i<n→fa=0→∀w',gz w' d 153 (dskL sb n op on oc false fu (-1) dn)→Ext (One d) w w'→R (.int .i64 8) w')
  (hfuse:dead=false→0≤i∧i<n→fa≠0→burns=true→fu=0→∀w',gz w' d 153 (dskL sb n op on oc true (-1) (vo fa) dn)→Ext (One d) w w'→R (.int .i64 9) w')
  (hgo:dead=false→0≤i∧i<n→fa≠0→¬(burns=true∧fu=0)→∀w',gz w' d 153 (dskL sb n op on oc false (Aw burns fu) (vo fa) (dn+1))→Ext (One d) w w'→
   gn prog g ([.pointer (some ⟨sb,i.toNat*65,none⟩)]++caps.toList) w' fun _ w2=>R (.int .i64 0) w2):
  gn prog 149 [.pointer (some ⟨d,0,none⟩),.int .i64 i,.bool burns,.func (.func g) #[] caps] w R:=by
 refine gx func149 ?_
 refine jd rfl (gl (ki rfl (gh call148 rfl (alive_live w hb) fun B x o=> ?_)))
 obtain⟨rfl,rfl⟩:=o
 cases dead
 case true=>
  refine km rfl (jd rfl (Cl rfl ?_))
  exact jd rfl (j9 (j7 (gv rfl rfl (hdead rfl))))
 refine km rfl (jd rfl (up rfl ?_))
 refine x3 (gl (ji (α:=Bool) [0,1,2,3] rfl (fun z=>[(25,.bool z)]) (fun z u=>u=x∧z=decide (¬(0≤i∧i<n))) ?_ ?_))
 ·refine yl rfl (ja 17 rfl (fun j=> ?_) (fun j=> ?_))
  ·refine xq6 gc rfl (gk (gr true rfl ⟨rfl,?_⟩))
   simp;omega
  refine xq6 gc rfl (j6 hb rfl rfl (xq6 gc rfl (gk (gr _ rfl ⟨rfl,?_⟩))))
  simp only[aH];omega
 rintro z w ⟨rfl,rfl⟩
 refine jl rfl (fun b=> ?_) (fun b=> ?_)
 ·exact jd rfl (j9 (j7 (gv rfl rfl (harg rfl b))))
 have p:0≤i∧i<n:=aS.1 b
 refine x3 (ji (α:=Unit) [0,1,2,3] rfl (fun z=>[]) (fun z u=>fa≠0∧gz u d 153 (dskL sb n op on oc false fu (vo fa) dn)∧Ext (One d) w u) ?_ ?_)
 ·refine gl ?_
  refine yl rfl (j6 hb rfl rfl (km rfl (jl rfl (fun b=> ?_) (fun b=> ?_))))
  ·refine gl ?_
   refine yl rfl (j6 hb rfl rfl (j0 gc rfl ?_))
   rw[jz _ zo]
   refine kl hb rfl rfl rfl fun w2 c a k=> ?_
   refine qq (ki rfl (j6 c rfl rfl (km rfl (jl rfl (fun b=> ?_) (fun b=> ?_)))))
   ·refine jd rfl (j9 (j7 (gv rfl rfl ?_)))
    rw[b] at c
    exact hio rfl p zo w2 c a
   refine kc (gr () rfl ⟨by omega,?_,a⟩)
   rw[show vo fa=fa-1 from aP zo]
   exact c
  refine kc (gr () rfl ⟨by omega,?_,Ext.refl _ _⟩)
  rw[show vo fa=fa from by unfold vo;split<;>omega]
  exact hb
 rintro⟨⟩ w2 ⟨f,hb,l⟩
 refine ji (α:=Unit) [0,1,3] rfl (fun z=>[]) (fun z u=>¬(burns=true∧fu=0)∧gz u d 153 (dskL sb n op on oc false (Aw burns fu) (vo fa) dn)∧Ext (One d) w u) ?_ ?_
 ·refine ji (α:=Bool) [0,1,3] rfl (fun z=>[(50,.bool z)]) (fun z u=>u=w2∧z=decide (burns=true∧fu≠-1)) ?_ ?_
  ·refine yl rfl (uq 44 rfl (fun j=> ?_) (fun j=> ?_))
   ·refine xq6 gc rfl (j6 hb rfl rfl (xq6 gc rfl (gk (gr _ rfl ⟨rfl,?_⟩))))
    simp[j]
   refine xq6 gc rfl (gk (gr false rfl ⟨rfl,?_⟩))
   simp[j]
  rintro z s ⟨rfl,rfl⟩
  refine jl rfl (fun b=> ?_) (fun b=> ?_)
  ·refine ki rfl (j6 hb rfl rfl (j0 gc rfl ?_))
   rw[jz _ zo]
   refine kl hb rfl rfl rfl fun t hb a k=> ?_
   refine qq (ki rfl (j6 hb rfl rfl (j0 gc rfl (kl hb rfl rfl rfl fun y hb m A=> ?_))))
   refine qq (ki rfl (j6 hb rfl rfl (qq (jl rfl (fun v=> ?_) (fun v=> ?_)))))
   ·refine jd rfl (j9 (j7 (gv rfl rfl ?_)))
    have e:fu=0:=by omega
    subst e
    exact hfuse rfl p f b.1 rfl y (by simpa using hb) (l.then (a.then m))
   refine kc (gr () rfl ⟨by omega,?_,l.then (a.then m)⟩)
   rw[show Aw burns fu=fu-1 from aR b]
   simpa [v] using hb
  refine kc (gr () rfl ⟨fun h=>b ⟨h.1,by omega⟩,?_,l⟩)
  rw[show Aw burns fu=fu from aP b]
  exact hb
 rintro⟨⟩ s ⟨q,hb,l⟩
 refine ki rfl (j6 hb rfl rfl (j0 gc rfl ?_))
 rw[jz _ zo]
 refine kl hb rfl rfl rfl fun t hb a k=> ?_
 refine qq (ki rfl (j6 hb rfl rfl (j0 gc rfl (ka rfl 65 rfl i.toNat zo zo (i.toNat*65) zo ?_))))
 refine gh hcf rfl (hgo rfl p f q t hb (l.then a)) fun C s r=> ?_
 exact qq (jd rfl (j9 (gv rfl rfl r)))
def TyB (w:World) (b T:Nat):Prop:=∃l,gz w b T l
theorem TyB.ext {S:Nat→Prop} {w w':World} {b T:Nat} (h:TyB w b T) (hE:Ext S w w') (hS:¬S b):TyB w' b T:=let⟨l,hl⟩:=h;⟨l,hl.ext hE hS⟩
theorem TyB.ne {w:World} {b c T U:Nat} {l:List Value} (h:TyB w b T) (k:gz w c U l) (hT:T≠U):b≠c:=let⟨_,hl⟩:=h;hl.ne k hT
def bl (ws:List Bytes):List (List Value):=ws.map ge
def x8 (s:Bytes) (p:Option Addr) (n c:Nat):List Value:=ge s++[.slice p n c]
def yz6 (w:World) (F:Nat→Prop) (p:Option Addr) (ws:List Bytes):Prop:=
  Sl w p ws.length 64 (bl ws).flatten∧∀b off,p=some ⟨b,off,none⟩→F b∧TyB w b 165
def yj9 (w:World) (F:Nat→Prop) (s:Sec) (r:List Value):Prop:=
  ∃p c,r=x8 s.safe p s.waits.length c∧s.waits.length≤c∧s.safe.length=64∧(∀b∈s.waits,b.length=64)∧yz6 w F p s.waits
theorem yz6.ext {S F:Nat→Prop} {w w':World} {p:Option Addr} {ws:List Bytes} (h:yz6 w F p ws) (hE:Ext S w w') (hS:∀b,F b→TyB w b 165→¬S b):yz6 w' F p ws:=
 ⟨h.1.ext hE fun b off hp=>hS b (h.2 b off hp).1 (h.2 b off hp).2,fun b off hp=>⟨(h.2 b off hp).1,(h.2 b off hp).2.ext hE (hS b (h.2 b off hp).1 (h.2 b off hp).2)⟩⟩
theorem yz6.mono {F F':Nat→Prop} {w:World} {p:Option Addr} {ws:List Bytes} (h:yz6 w F p ws) (hF:∀b,F b→F' b):yz6 w F' p ws:=⟨h.1,fun b off hp=>⟨hF b (h.2 b off hp).1,(h.2 b off hp).2⟩⟩
theorem yj9.ext {S F:Nat→Prop} {w w':World} {s:Sec} {r:List Value} (h:yj9 w F s r) (hE:Ext S w w') (hS:∀b,F b→TyB w b 165→¬S b):yj9 w' F s r:=by
 obtain⟨p,c,h1,h2,h3,h4,h5⟩:=h
 exact⟨p,c,h1,h2,h3,h4,h5.ext hE hS⟩
theorem yj9.mono {F F':Nat→Prop} {w:World} {s:Sec} {r:List Value} (h:yj9 w F s r) (hF:∀b,F b→F' b):yj9 w F' s r:=by
 obtain⟨p,c,h1,h2,h3,h4,h5⟩:=h
 exact⟨p,c,h1,h2,h3,h4,h5.mono hF⟩
theorem yj9.len {w:World} {F:Nat→Prop} {s:Sec} {r:List Value} (h:yj9 w F s r):r.length=65:=by
 obtain⟨p,c,rfl,_,h3,_⟩:=h
 simp[x8,ge,h3]
def Ae (w:World) (F:Nat→Prop) (secs:List Sec) (L:List (List Value)):Prop:=
  L.length=secs.length∧∀(i:Nat) (s:Sec) (r:List Value),secs[i]? =some s→L[i]? =some r→yj9 w F s r
theorem Ae.uni {w:World} {F:Nat→Prop} {secs:List Sec} {L:List (List Value)} (h:Ae w F secs L):Uni 65 L:=fun r hr=>by
 obtain⟨i,hi,rfl⟩:=bJ.1 hr
 exact(h.2 i (secs[i]'(by rw[←h.1];exact hi)) L[i] zp zp).len
theorem Ae.ext {S F:Nat→Prop} {w w':World} {secs:List Sec} {L:List (List Value)} (h:Ae w F secs L) (hE:Ext S w w') (hS:∀b,F b→TyB w b 165→¬S b):Ae w' F secs L:=
 ⟨h.1,fun i s r hs hr=>(h.2 i s r hs hr).ext hE hS⟩
theorem Ae.mono {F F':Nat→Prop} {w:World} {secs:List Sec} {L:List (List Value)} (h:Ae w F secs L) (hF:∀b,F b→F' b):Ae w F' secs L:=
 ⟨h.1,fun i s r hs hr=>(h.2 i s r hs hr).mono hF⟩
abbrev zj4 (l:List Nat):List Value:=l.map fun i:Nat=>Value.int .i64 (i:Int)
structure xe (w:World) (d sb:Nat) (op:Option Addr) (oc:Nat) (F:Nat→Prop) (D:ku):Prop where
  head:gz w d 153 (dskL sb D.secs.length op D.order.length oc D.dead D.fuse D.fault D.done)
  secs:∃L,gz w sb 218 (List.flatten L)∧Ae w F D.secs L
  order:Own w op D.order.length oc 3 1 (zj4 D.order)
  own:F d∧F sb∧∀x,jb op x→F x
  lt:∀x,F x→x<w.heap.size
theorem xe.ext {S F:Nat→Prop} {w w':World} {d sb oc:Nat} {op:Option Addr} {D:ku} (h:xe w d sb op oc F D) (hE:Ext S w w') (hS:∀x,F x→¬S x):xe w' d sb op oc F D:=by
 obtain⟨L,c,e⟩:=h.secs
 exact⟨h.head.ext hE (hS d h.own.1),⟨L,c.ext hE (hS sb h.own.2.1),e.ext hE fun b f _=>hS b f⟩,h.order.ext hE fun x a=>hS x (h.own.2.2 x a),h.own,fun x a=>aM (h.lt x a) hE.size⟩
theorem xe.ga {F:Nat→Prop} {w w':World} {d sb oc:Nat} {op:Option Addr} {D:ku} (h:xe w d sb op oc F D) (hE:Ext No w w'):xe w' d sb op oc F D:=h.ext hE fun _ _=>id
theorem xe.extNew {F:Nat→Prop} {w w':World} {d sb oc b:Nat} {op:Option Addr} {D:ku} (h:xe w d sb op oc F D) (hE:Ext (One b) w w') (hb:¬F b):xe w' d sb op oc F D:=h.ext hE fun x hx e=>hb (e▸hx)
theorem Own.ty {w:World} {p:Option Addr} {n c T sz:Nat} {xs:List Value} (h:Own w p n c T sz xs) {x:Nat} (hx:jb p x):TyB w x T:=by
 rcases h with⟨hp,_⟩|⟨b,l,hp,hb,_⟩
 ·rw[hp] at hx;cases hx
 rw[hp] at hx
 obtain rfl:b=x:=by simpa using hx
 exact⟨l,hb⟩
theorem xe.yz3 {F:Nat→Prop} {w w':World} {d sb oc:Nat} {op:Option Addr} {D D':ku} (h:xe w d sb op oc F D) (hs:D'.secs=D.secs) (ho:D'.order=D.order) (hb:gz w' d 153 (dskL sb D.secs.length op D.order.length oc D'.dead D'.fuse D'.fault D'.done)) (hE:Ext (One d) w w'):xe w' d sb op oc F D':=by
 obtain⟨L,c,f⟩:=h.secs
 have g:Ae w' F D.secs L:=f.ext hE fun b _ hb e=>hb.ne h.head zd e
 have i:=h.order.ext hE fun _ a e=>(Own.ty h.order a).ne h.head zd e
 exact⟨by rw[hs,ho];exact hb,⟨L,c.gj hE (c.ne h.head zd),by rw[hs];exact g⟩,by rw[ho];exact i,h.own,fun x a=>aM (h.lt x a) hE.size⟩
theorem dk_now (w:World) {sb i:Nat} {L:List (List Value)} (hb:gz w sb 218 L.flatten) (hu:Uni 65 L) {s:Sec} {r:List Value} (hr:L[i]? =some r) {F:Nat→Prop} (hs:yj9 w F s r) (hfew:s.waits.length<4611686018427387904):
  gn prog 151 [.pointer (some ⟨sb,i*65,none⟩)] w fun v w'=>v=numB s.now∧Ext No w w':=by
 obtain⟨p,c,l,G,o,z,H,_⟩:=hs
 have q:w.cell? ⟨sb,i*65+64,none⟩=some (.slice p s.waits.length c):=by
  refine hb.cell ?_
  rw[yw8 hu hr zd,l]
  simp[x8,ge,o]
 have t:Seg w sb (i*65) (ge s.safe):=by
  have:=(hb.kj.drop (i*65)).take 64
  rw[bD] at this
  have e:=rows_part hu hr (j:=0) (n:=64) zd
  rw[Nat.add_zero] at e
  rw[e,l] at this
  simpa [x8,ge,o] using this
 refine gx func151 ?_
 have h:=Ext.refl No w
 refine ko (gw rfl fun K M I d f=> ?_)
 have A:=aA h.size I
 have h:=h.gb f
 have N:=f
 have b:=zq9 q f id
 have k:=t.ga f
 have B:=H.ga f
 refine qq (gl (ki rfl (gu rfl b (km rfl (jd rfl (jl rfl (fun G=> ?_) (fun G=> ?_)))))))
 ·have O:s.waits≠[]:=fun e=>by rw[e] at G;simp at G
  obtain⟨P,m,rfl,C⟩:=B.2.resolve_left zo
  have D:Uni 64 (bl s.waits):=Uni.map fun x Q=>by simp[ge,z x Q]
  have g:(bl s.waits)[s.waits.length-1]? =some (ge s.now):=by
   unfold bl Sec.now
   rw[cE,List.getLast?_eq_getElem?]
   have:s.waits.length-1<s.waits.length:=by omega
   simp[this]
  have u:Seg M P (m+(s.waits.length-1)*64) (ge s.now):=by
   have:=(C.drop ((s.waits.length-1)*64)).take 64
   rw[rows_row D g] at this
   exact this
  have a:(ge s.now).length=64:=D.get g
  refine ki rfl (gu rfl b (j0 gc rfl ?_))
  rw[jz _ zo]
  refine ka rfl 64 rfl (s.waits.length-1) zo zo (m+(s.waits.length-1)*64) rfl (jm rfl u a ?_)
  refine wl (j4 gc d rfl rfl a (by rw[jh,a];rfl) Cb fun R d y J=> ?_)
  have h:=h.gi y A
  refine qq (j9 (j7 (qe [_] ⟨⟨K,0,rfl,qg gc rfl rfl d.kj a⟩,trivial⟩ ?_)))
  exact⟨rfl,h⟩
 have S:s.waits=[]:=aZ zo
 have E:s.now=s.safe:=by simp[Sec.now,S]
 have a:(ge s.safe).length=64:=by simp[ge,o]
 refine kc ?_
 refine jp (ki rfl (jm rfl k a (wl (j4 gc d rfl rfl a (by rw[jh,a];rfl) Cb fun R d y J=> ?_))))
 have h:=h.gi y A
 refine qq (j9 (qe [_] ⟨⟨K,0,rfl,qg gc rfl rfl d.kj a⟩,trivial⟩ ?_))
 exact⟨by rw[E];rfl,h⟩
theorem dk_readIn (w:World) {sb i x:Nat} {L:List (List Value)} (hb:gz w sb 218 L.flatten) (hu:Uni 65 L) {s:Sec} {r:List Value} (hr:L[i]? =some r) {F:Nat→Prop} (hs:yj9 w F s r) (hfew:s.waits.length<4611686018427387904) {l:List Value} (hx:gz w x 165 l) (hl:l.length=64) (hnow:s.now.length=64):
  gn prog 150 ([.pointer (some ⟨sb,i*65,none⟩)]++ #[Value.pointer (some ⟨x,0,none⟩)].toList) w fun _ w'=>gz w' x 165 (ge s.now)∧Ext (One x) w w':=by
 refine gx func150 ?_
 refine yl rfl (gh call151 rfl (dk_now w hb hu hr hs hfew) fun g h c=> ?_)
 obtain⟨rfl,a⟩:=c
 have b:(ge s.now).length=64:=by simp[ge,hnow]
 refine wl (j4 gc (hx.ga a) rfl rfl b (by rw[hl];exact b) Cb fun j d e f=> ?_)
 refine gk (z6 rfl ?_)
 exact⟨d,a.no.then e⟩
theorem yx5 {D:ku} {m:Nat} (hok:D.Ok m) (i:Nat):(D.now i).length=64:=by
 rw[ku.now]
 cases hs:D.secs[i]? with
 |none=>exact zeros_length
 |some s=>
  have a:=hok.safe s (dP hs)
  simp only[Option.map_some,Option.getD_some,Sec.now]
  cases hl:s.waits.getLast? with
  |none=>exact a.1
  |some b=>exact a.2 b (List.mem_of_getLast? hl)
theorem waits_few {D:ku} {m:Nat} (hok:D.Ok m) {i:Nat} {s:Sec} (hs:D.secs[i]? =some s):s.waits.length≤m:=by
 rw[hok.count i s hs]
 exact aA List.count_le_length hok.few
theorem dk_read (w:World) {d sb oc m:Nat} {F:Nat→Prop} {op:Option Addr} {D:ku} (h:xe w d sb op oc F D) (hok:D.Ok m) (hm:m<1000000000) (i:Int):
  gn prog 78 [.pointer (some ⟨d,0,none⟩),.int .i64 i] w fun v w'=>v= .tuple #[numB (D.read i).2.1,.int .i64 (D.read i).2.2]∧xe w' d sb op oc F (D.read i).1∧Ext (One d) w w':=by
 refine gx func78 ?_
 have hX:=Ext.refl (One d) w
 refine ko (gw rfl fun b4 w1 hn4 hb4 hE1=> ?_)
 have fr4:=aA hX.size hn4
 have hX:=hX.gb hE1
 have hF4:¬F b4:=fun e=>by have:=h.lt b4 e;omega
 have hd4:d≠b4:=fun e=>hF4 (e▸h.own.1)
 have h:=h.ga hE1
 have hb4:gz w1 b4 165 (ge zeros):=by
  have e:cellsOf ti165.zero=ge zeros:=by simp[ti165,zeros,ge]
  rw[←e];exact hb4
 have hop:=zw1 w1 i false call150 h.head hok.fuse hok.fault ⟨hok.done.1,by have:=hok.done.2;omega⟩
  (fun v w'=>v= .int .i64 (D.read i).2.2∧xe w' d sb op oc F (D.read i).1∧gz w' b4 165 (ge (D.read i).2.1)∧Ext (fun x=>x=d∨x=b4) w1 w') (caps:= #[.pointer (some ⟨b4,0,none⟩)])
  (fun hd=> ?_) (fun hd hi=> ?_) (fun hd hi hf w' hb' hE=> ?_) (fun hd hi hf hbu hfu w' hb' hE=> ?_) (fun hd hi hf hbu w' hb' hE=> ?_)
 ·refine km rfl (ki rfl (gh call149 rfl hop fun v2 w2 hr2=> ?_))
  obtain⟨rfl,h,hb4,hE2⟩:=hr2
  have hl:(ge (D.read i).2.1).length=64:=by
   unfold ge
   rw[aE]
   unfold ku.read
   dsimp only
   split
   ·exact yx5 (hok.begin i false) _
   exact zeros_length
  have hX:Ext (One d) w w2:=hX.trans hE2 fun x hx e=>e.resolve_right zo
  refine km rfl (ko (je hb4 rfl hl (j0 gc rfl (wl (j4 gc hb4 rfl rfl hl (by rw[jh]) Cb fun w3 hb4 hE3 hs3=> ?_)))))
  refine vr rfl (qe [_,_] ⟨⟨b4,0,rfl,qg gc rfl rfl hb4.kj hl⟩,rfl,trivial⟩ ?_)
  exact⟨rfl,h.extNew hE3 hF4,hX.gi hE3 fr4⟩
 ·have e:D.read i=(D,zeros,9):=by simp[ku.read,ku.begin,hd]
  rw[e]
  exact⟨rfl,h,hb4,Ext.refl _ _⟩
 ·have e:D.read i=(D,zeros,2):=by simp[ku.read,ku.begin,hd,hi]
  rw[e]
  exact⟨rfl,h,hb4,Ext.refl _ _⟩
 ·have e:D.read i=({D with fault:= -1},zeros,8):=by simp[ku.read,ku.begin,hd,hi,hf]
  rw[e]
  have h':=h.yz3 (D':={D with fault:= -1}) rfl rfl (by rw[hd];exact hb') hE
  exact⟨rfl,h',hb4.gj hE hd4.symm,hE.mono fun x _ e=> .inl e⟩
 ·cases hbu
 have e0:D.begin i false=({D with fault:=vo D.fault,fuse:=Aw false D.fuse,done:=D.done+1},0):=by simp[ku.begin,hd,hi,hf]
 have e:D.read i=({D with fault:=vo D.fault,fuse:=Aw false D.fuse,done:=D.done+1},D.now i.toNat,0):=by
  simp only[ku.read,e0,cO,ku.now]
 rw[e]
 have h':=h.yz3 (D':={D with fault:=vo D.fault,fuse:=Aw false D.fuse,done:=D.done+1}) rfl rfl (by rw[hd];exact hb') hE
 obtain⟨L,hL1,hL2⟩:=h'.secs
 have hi':i.toNat<D.secs.length:=by omega
 have hs:D.secs[i.toNat]? =some D.secs[i.toNat]:=by simp[hi']
 have hiL:i.toNat<L.length:=by rw[hL2.1];exact hi'
 have hr:L[i.toNat]? =some L[i.toNat]:=by simp
 have hnow:D.now i.toNat=D.secs[i.toNat].now:=by simp[ku.now,hs]
 have hn64:=yx5 hok i.toNat
 rw[hnow] at hn64⊢
 refine(dk_readIn w' hL1 hL2.uni hr (hL2.2 _ _ _ hs hr) (by have:=waits_few hok hs;omega) (hb4.gj hE hd4.symm) (by simp[ge,zeros]) hn64).mono fun v w2 ⟨hb2,hE2⟩=> ?_
 exact⟨rfl,h'.extNew hE2 hF4,hb2,(hE.mono fun x _ e=> .inl e).then (hE2.mono fun x _ e=> .inr e)⟩
def Grow (F:Nat→Prop) (w w':World):Nat→Prop:=fun x=>F x∨(w.heap.size≤x∧x<w'.heap.size)
theorem z29:cellsOf ti165.zero=ge zeros:=by simp[ti165,zeros,ge]
theorem dk_writeIn (w:World) {d sb oc m b1 b2 b3:Nat} {F:Nat→Prop} {op:Option Addr} {D:ku} (h:xe w d sb op oc F D) (hok:D.Ok m) (hm:m<1000000000) {i:Nat} (hi:i<D.secs.length) {b:Bytes} (hb64:b.length=64)
  (hb1:gz w b1 165 (ge b)) (hb2:gz w b2 61 [.pointer (some ⟨d,0,none⟩)]) (hb3:gz w b3 3 [.int .i64 (i:Int)]) (hF3:¬F b1∧¬F b2∧¬F b3):
  gn prog 188 ([.pointer (some ⟨sb,i*65,none⟩)]++ #[Value.pointer (some ⟨b1,0,none⟩),.pointer (some ⟨b2,0,none⟩),.pointer (some ⟨b3,0,none⟩)].toList) w
   fun _ w'=>∃op' oc',xe w' d sb op' oc' (Grow F w w') (D.put i b)∧Ext F w w':=by
 obtain⟨L,a6,E⟩:=h.secs
 have hu:=E.uni
 have hs:D.secs[i]? =some D.secs[i]:=by simp[hi]
 have a7:i<L.length:=by rw[E.1];exact hi
 have hr:L[i]? =some L[i]:=by simp
 obtain⟨p,c,T,hc,C,a8,aq,az⟩:=E.2 _ _ _ hs hr
 generalize hsd:D.secs[i]=s at*
 generalize hrd:L[i]=r at*
 have aw:=waits_few hok hs
 have y:w.cell? ⟨sb,i*65+64,none⟩=some (.slice p s.waits.length c):=by
  refine a6.cell ?_
  rw[yw8 hu hr zd,T]
  simp[x8,ge,C]
 refine gx func188 ?_
 have o:=Ext.refl F w
 refine gl ?_
 refine jr rfl 19 [qP 0,qP 1,qP 2,qP 3,qP 4,qP 5,qP 6,qP 7,qP 8,qP 9,qP 10,qP 11,qP 12,qP 13,qP 14,qP 15,qP 16,(17,false),(18,false)] [19,20,21] No zk fun w1 X b0=> ?_
 have o:=o.gb X
 refine wd_p gc rfl (j3 gc rfl rfl (fun w' f=>zq9 y f id) ?_)
 refine wd_p gc rfl (j3 gc rfl rfl (fun w' f=>zq9 y f id) ?_)
 refine wd_p gc rfl (j3 gc rfl rfl (fun w' f=>zq9 y f id) ?_)
 refine wd_p gc rfl (D8 gc rfl rfl 0 s.waits.length s.waits.length 64 rfl (.inl ⟨rfl,rfl⟩) (.inl rfl) (.inr ⟨rfl,rfl⟩) zo zo (by simpa using hc) ?_)
 refine qa gc rfl rfl (fun w' f=>(hb1.ga f).kj) (by simp[ge,hb64]) ?_
 refine jo rfl (qi gc rfl 64 rfl z29 (qj zeros_length) zd zd ⟨⟨qj hb64,by decide⟩,trivial⟩ (l':=ge b) ?_ fun a9 w2 ax aa Y b4=>⟨X.gb Y,?_⟩)
 ·simp only[yh,jh]
  rw[cW,Az]
  rw[um,qj hb64,qj zeros_length]
 have o:=o.gb Y
 have G:=X.gb Y
 have ab:Sl w2 (u6 p 0 s.waits.length 64) (s.waits.length-0) 64 (bl s.waits).flatten:=by rw[jw];exact aq.ga G
 have ac:Src prog w2 64 (.slice (some ⟨a9,0,none⟩) 1 1) 1 (ge b):=Src.slice ⟨by rw[qj hb64],.inr ⟨a9,0,rfl,aa.kj⟩⟩ Cb
 refine jo rfl (st_appG gc rfl 64 64 rfl rfl (by rw[z29];exact qj zeros_length) zd ab ac zm zn zn fun z c3 Z ad H a0=>⟨G.gb a0,?_⟩)
 have H:Own Z (some ⟨z,0,none⟩) (s.waits.length+1) c3 165 64 ((bl s.waits).flatten++ge b):=H
 have ae:=aA o.size ad
 have o:=o.gb a0
 have k:=G.gb a0
 have q:=a6.ga k
 have O:=h.ga k
 have af:Ae Z F D.secs L:=E.ext k fun _ _ _=>id
 have ag:=Aq hu
 refine jg (wb rfl (zx9 gc rfl rfl rfl (wb rfl (zx9 gc rfl rfl rfl (wb rfl (qz gc q rfl rfl (by show i*65+64<_;rw[ag];have:=cM 65 a7;omega) fun w4 P A b5=> ?_))))))
 have P:gz w4 sb 218 (Vc.put L.flatten (i*65+64) [Value.slice (some ⟨z,0,none⟩) (s.waits.length+1) c3]):=P
 rw[rows_put hu hr _ zp] at P
 have o:Ext F w w4:=o.trans A fun x a e=>by rw[e];exact h.own.2.1
 have ah:d≠sb:=(O.head.ne q zd)
 have g:=O.head.gj A ah
 have I:Own w4 op D.order.length oc 3 1 (zj4 D.order):=O.order.ext A fun x a e=>(Own.ty O.order a).ne q zd e
 have U:=(hb2.ga k).gj A fun e=>hF3.2.1 (e▸h.own.2.1)
 have ai:=(hb3.ga k).gj A fun e=>hF3.2.2 (e▸h.own.2.1)
 have V:∀x,jb op x→b2≠x:=fun x a e=>hF3.2.1 (e▸h.own.2.2 x a)
 have aj:∀x,jb op x→b3≠x:=fun x a e=>hF3.2.2 (e▸h.own.2.2 x a)
 have W:∀x,jb op x→d≠x:=fun x a e=>(Own.ty O.order a).ne O.head zd e.symm
 refine j5 (jp (jr rfl 8 [qP 0,qP 1,qP 2,qP 3,qP 4,qP 5,(6,false),(7,false)] [8,9,10] (jb op) zk fun w5 a1 b6=> ?_))
 have o:=o.gb a1
 refine j3 gc rfl rfl (fun w' f=>(U.ext f fun e=>V _ e rfl).cell rfl) ?_
 refine j3 gc rfl rfl (fun w' f=>(U.ext f fun e=>V _ e rfl).cell rfl) ?_
 refine wd_p gc rfl (j3 gc rfl rfl (fun w' f=>(g.ext f fun e=>W _ e rfl).cell rfl) ?_)
 refine j3 gc rfl rfl (fun w' f=>(ai.ext f fun e=>aj _ e rfl).cell rfl) ?_
 refine jo rfl (qi gc rfl 1 rfl rfl rfl zd zd ⟨⟨rfl,by decide⟩,trivial⟩ (l':=[.int .i64 (i:Int)]) rfl fun ak w6 ay al a2 b7=>⟨(a1.gb a2).no,?_⟩)
 have o:=o.gb a2
 have n:=a1.gb a2
 have I:=I.ext n fun _ _=>id
 have a3:Src prog w6 1 (.slice (some ⟨ak,0,none⟩) 1 1) 1 [.int .i64 (i:Int)]:=Src.slice ⟨rfl,.inr ⟨ak,0,rfl,al.kj⟩⟩ (fun v hv=>by simp at hv;subst hv;rfl)
 have b8:=hok.few
 refine jo rfl (va gc rfl 1 8 rfl rfl rfl zd I a3 zm zn fun p7 c7 w7 Q J ar=>⟨n.no.then J,?_⟩)
 have Q:Own w7 p7 (D.order.length+1) c7 3 1 (zj4 D.order++[.int .i64 (i:Int)]):=Q
 have o:Ext F w w7:=o.trans J fun x a e=>h.own.2.2 x e
 have g:=(g.ga n).ext J fun e=>W _ e rfl
 have R:=g
 refine jg (wb rfl (zx9 gc rfl rfl rfl (wb rfl (zx9 gc rfl rfl rfl (wb rfl (yi gc g rfl rfl rfl fun w8 g S b9=> ?_))))))
 have o:Ext F w w8:=o.trans S fun x a e=>by rw[e];exact h.own.1
 refine j5 (z6 rfl ?_)
 refine⟨p7,c7,?_,o⟩
 have am:sb≠d:=ah.symm
 have an:∀x,jb op x→sb≠x:=fun x a e=>(Own.ty O.order a).ne q zd e.symm
 -- what has turned since Z
 have K:Ext (fun x=>x=sb∨jb op x∨x=d) Z w8:=
  ((A.mono fun _ _ e=> .inl e).gb n).then ((J.mono fun _ _ e=> .inr (.inl e)).then (S.mono fun _ _ e=> .inr (.inr e)))
 have M:∀x,TyB Z x 165→¬(x=sb∨jb op x∨x=d):=fun x a e=>by
  rcases e with e|e|e
  ·exact a.ne q zd e
  ·obtain⟨l,hl⟩:=Own.ty O.order e
   exact a.ne hl zd rfl
  exact a.ne O.head zd e
 have au:gz w8 sb 218 (L.set i (Vc.put r 64 [Value.slice (some ⟨z,0,none⟩) (s.waits.length+1) c3])).flatten:=
  ((P.ga n).ext J fun e=>an _ e rfl).gj S am
 have N:=Q.ext S fun x a e=>(Own.ty Q a).ne R zd e
 have a4:TyB Z z 165:=Own.ty H rfl
 have a5:Vc.put r 64 [Value.slice (some ⟨z,0,none⟩) (s.waits.length+1) c3]=x8 s.safe (some ⟨z,0,none⟩) (s.waits.length+1) c3:=by
  rw[T,put_eq _ _ _ (by simp[x8,ge,C])]
  have e1:(x8 s.safe p s.waits.length c).take 64=ge s.safe:=by
   unfold x8;rw[List.take_append_of_le_length (by simp[ge,C]),aO (by simp[ge,C])]
  rw[e1,bM (by simp[x8,ge,C])]
  simp[x8]
 refine⟨?_,⟨_,au,?_,?_⟩,?_,⟨.inl h.own.1,.inl h.own.2.1,fun x a=> ?_⟩,fun x a=> ?_⟩
 ·have e:(D.put i b).secs.length=D.secs.length:=by simp[ku.put]
  have e2:(D.put i b).order.length=D.order.length+1:=by simp[ku.put]
  rw[e,e2]
  exact g
 ·simp[ku.put,E.1]
 ·intro j s' r' u B
  simp only[ku.put,List.getElem?_modify] at u
  rw[List.getElem?_set] at B
  by_cases hij:i=j
  ·subst hij
   rw[aR rfl,aR a7] at B
   rw[hs] at u
   simp at u B
   subst u
   rw[a5] at B
   subst B
   refine⟨some ⟨z,0,none⟩,c3,?_,?_,C,?_,?_,?_⟩
   ·simp[C8]
   ·have:=H.cap
    simp only[C8,aB,List.length_singleton]
    omega
   ·intro x a
    simp only[C8,aY,aI] at a
    rcases a with a|rfl
    ·exact a8 x a
    exact hb64
   ·have e3:=H.sl.ext K fun x av hp=>by
     simp only[bG,Addr.mk.injEq] at hp
     rw[←hp.1]
     exact M _ a4
    have e4:(bl (C8 b s).waits).flatten=(bl s.waits).flatten++ge b:=by simp[bl,C8]
    rw[e4]
    simpa [C8] using e3
   intro x av hp
   simp only[bG,Addr.mk.injEq] at hp
   rw[←hp.1]
   have h8:=a4.ext K (M _ a4)
   obtain⟨l,hl⟩:=h8
   exact⟨.inr ⟨ae,hl.lt⟩,l,hl⟩
  rw[aP hij] at B
  have ao:D.secs[j]? =some s':=by
   cases hj:D.secs[j]? with
   |none=>rw[hj] at u;simp at u
   |some t=>rw[hj] at u;simpa [hij] using u
  exact((af.2 j s' r' ao B).ext K fun x _ a=>M x a).mono fun x a=> .inl a
 ·have e2:(D.put i b).order.length=D.order.length+1:=by simp[ku.put]
  rw[e2]
  simpa [ku.put,zj4] using N
 ·rcases ar x a with ap|ap
  ·exact .inl (h.own.2.2 x ap)
  refine .inr ⟨?_,N.lt a⟩
  have:=(k.gb (Ext.refl No Z)).size
  have:=A.size
  have:=n.size
  omega
 rcases a with a|a
 ·exact aM (h.lt x a) o.size
 exact a.2
def At (w:World) (d:Nat) (F:Nat→Prop) (D:ku):Prop:=∃sb op oc,xe w d sb op oc F D
theorem xe.mono {F F':Nat→Prop} {w:World} {d sb oc:Nat} {op:Option Addr} {D:ku} (h:xe w d sb op oc F D) (hF:∀x,F x→F' x) (hlt:∀x,F' x→x<w.heap.size):xe w d sb op oc F' D:=by
 obtain⟨L,a,b⟩:=h.secs
 exact⟨h.head,⟨L,a,b.mono hF⟩,h.order,⟨hF _ h.own.1,hF _ h.own.2.1,fun x c=>hF _ (h.own.2.2 x c)⟩,hlt⟩
theorem xe.grow {F:Nat→Prop} {w w':World} {d sb oc:Nat} {op:Option Addr} {D:ku} (h:xe w' d sb op oc F D):xe w' d sb op oc (Grow F w w') D:=
 h.mono (fun _=> .inl) fun x hx=>hx.elim (h.lt x) fun hx=>hx.2
theorem At.ext {S F:Nat→Prop} {w w':World} {d:Nat} {D:ku} (h:At w d F D) (hE:Ext S w w') (hS:∀x,F x→¬S x):At w' d F D:=let⟨sb,op,oc,h⟩:=h;⟨sb,op,oc,h.ext hE hS⟩
theorem At.ga {F:Nat→Prop} {w w':World} {d:Nat} {D:ku} (h:At w d F D) (hE:Ext No w w'):At w' d F D:=let⟨sb,op,oc,h⟩:=h;⟨sb,op,oc,h.ga hE⟩
theorem At.lt {F:Nat→Prop} {w:World} {d:Nat} {D:ku} (h:At w d F D):∀x,F x→x<w.heap.size:=let⟨_,_,_,h⟩:=h;h.lt
theorem At.own {F:Nat→Prop} {w:World} {d:Nat} {D:ku} (h:At w d F D):F d:=let⟨_,_,_,h⟩:=h;h.own.1
theorem Grow.wide {F:Nat→Prop} {w0 w w' w1:World} (h0:w0.heap.size≤w.heap.size) (h1:w'.heap.size≤w1.heap.size) {x:Nat} (h:Grow F w w' x):Grow F w0 w1 x:=
 h.imp id fun h=>⟨aA h0 h.1,aM h.2 h1⟩
theorem cells_num (b:Bytes):cellsOf (numB b)=ge b:=by simp[Ci,ge,jh]
theorem dk_write (w:World) {d m:Nat} {F:Nat→Prop} {D:ku} (h:At w d F D) (hok:D.Ok m) (hm:m+1<1000000000) (i:Int) {b:Bytes} (hb:b.length=64):
  gn prog 143 [.pointer (some ⟨d,0,none⟩),.int .i64 i,numB b] w fun v w'=>v= .int .i64 (D.write i b).2∧At w' d (Grow F w w') (D.write i b).1∧Ext F w w':=by
 obtain⟨sb,op,oc,h⟩:=h
 refine gx func143 ?_
 have hX:=Ext.refl F w
 refine ko (gw rfl fun b3 w1 hn3 hb3 hE1=> ?_)
 have fr3:=aA hX.size hn3
 have hX:=hX.gb hE1
 refine gw rfl fun b4 w2 hn4 hb4 hE2=> ?_
 have fr4:=aA hX.size hn4
 have hb3:=hb3.ga hE2
 have hX:=hX.gb hE2
 refine gw rfl fun b5 w3 hn5 hb5 hE3=> ?_
 have fr5:=aA hX.size hn5
 have hb3:=hb3.ga hE3
 have hb4:=hb4.ga hE3
 have hX:=hX.gb hE3
 have hF:∀x,w.heap.size≤x→¬F x:=fun x hx e=>by have:=h.lt x e;omega
 have h:=((h.ga hE1).ga hE2).ga hE3
 have hb5:gz w3 b5 165 (ge b):=by rw[←cells_num];exact hb5
 have hop:=zw1 w3 i true call188 h.head hok.fuse hok.fault ⟨hok.done.1,by have:=hok.done.2;omega⟩
  (fun v w'=>v= .int .i64 (D.write i b).2∧At w' d (Grow F w w') (D.write i b).1∧Ext F w w') (caps:= #[.pointer (some ⟨b5,0,none⟩),.pointer (some ⟨b3,0,none⟩),.pointer (some ⟨b4,0,none⟩)])
  (fun hd=> ?_) (fun hd hi=> ?_) (fun hd hi hf w' hb' hE=> ?_) (fun hd hi hf hbu hfu w' hb' hE=> ?_) (fun hd hi hf hbu w' hb' hE=> ?_)
 ·refine km rfl (ko (j6 hb3 rfl rfl (j6 hb4 rfl rfl (j0 gc rfl (gh call149 rfl hop fun v4 w4 hr4=> ?_)))))
  obtain⟨rfl,hr4⟩:=hr4
  refine vr rfl (gv rfl rfl ?_)
  exact⟨rfl,hr4⟩
 ·have e:D.write i b=(D,9):=by simp[ku.write,ku.begin,hd]
  rw[e]
  exact⟨rfl,⟨_,_,_,h.grow⟩,hX⟩
 ·have e:D.write i b=(D,2):=by simp[ku.write,ku.begin,hd,hi]
  rw[e]
  exact⟨rfl,⟨_,_,_,h.grow⟩,hX⟩
 ·have e:D.write i b=({D with fault:= -1},8):=by simp[ku.write,ku.begin,hd,hi,hf]
  rw[e]
  have h':=h.yz3 (D':={D with fault:= -1}) rfl rfl (by rw[hd];exact hb') hE
  exact⟨rfl,⟨_,_,_,h'.grow⟩,hX.trans hE fun x _ e=>e▸h.own.1⟩
 ·have e:D.write i b=({D with fault:=vo D.fault,fuse:= -1,dead:=true},9):=by simp[ku.write,ku.begin,hd,hi,hf,hfu]
  rw[e]
  have h':=h.yz3 (D':={D with fault:=vo D.fault,fuse:= -1,dead:=true}) rfl rfl hb' hE
  exact⟨rfl,⟨_,_,_,h'.grow⟩,hX.trans hE fun x _ e=>e▸h.own.1⟩
 have hbu':¬(D.fuse=0):=fun e=>hbu ⟨rfl,e⟩
 have e0:D.begin i true=({D with fault:=vo D.fault,fuse:=Aw true D.fuse,done:=D.done+1},0):=by simp[ku.begin,hd,hi,hf,hbu']
 have e:D.write i b=(({D with fault:=vo D.fault,fuse:=Aw true D.fuse,done:=D.done+1}:ku).put i.toNat b,0):=by
  simp only[ku.write,e0,cO]
 rw[e]
 have h':=h.yz3 (D':={D with fault:=vo D.fault,fuse:=Aw true D.fuse,done:=D.done+1}) rfl rfl (by rw[hd];exact hb') hE
 have hok':=hok.begin i true
 rw[e0] at hok'
 have nd:∀x,w.heap.size≤x→x≠d:=fun x hx e=>hF x hx (e▸h.own.1)
 have hi':(i.toNat:Int)=i:=by omega
 refine(dk_writeIn w' h' hok' zo (i:=i.toNat) (by simp only;omega) hb (hb5.gj hE (nd _ fr5)) (hb3.gj hE (nd _ fr3)) (by rw[hi'];exact hb4.gj hE (nd _ fr4)) ⟨hF _ fr5,hF _ fr3,hF _ fr4⟩).mono fun v w2 ⟨op',oc',h2,hE2⟩=> ?_
 have hXw:Ext F w w':=hX.trans hE fun x _ e=>e▸h.own.1
 refine⟨rfl,⟨_,_,_,h2.mono (fun x hx=>hx.wide hXw.size (aD _)) fun x hx=> ?_⟩,hXw.trans hE2 fun x _=>id⟩
 exact hx.elim (fun hx=>h2.lt x (.inl hx)) fun hx=>hx.2
theorem Ae.modify {w:World} {F:Nat→Prop} {secs:List Sec} {L:List (List Value)} (h:Ae w F secs L) {k:Nat} {f:Sec→Sec} {r:List Value} (hr:∀s,secs[k]? =some s→yj9 w F (f s) r):Ae w F (secs.modify k f) (L.set k r):=by
 refine⟨by simp[h.1],fun j s x a b=> ?_⟩
 rw[List.getElem?_modify] at a
 rw[List.getElem?_set] at b
 by_cases hkj:k=j
 ·subst hkj
  rw[aR rfl] at b
  split at b
  ·simp at b
   subst b
   cases hk:secs[k]? with
   |none=>rw[hk] at a;simp at a
   |some t=>
    rw[hk] at a
    simp at a
    subst a
    exact hr t hk
  cases b
 rw[aP hkj] at b
 cases hk:secs[j]? with
 |none=>rw[hk] at a;simp at a
 |some t=>
  rw[hk] at a
  simp[hkj] at a
  subst a
  exact h.2 j t x hk b
theorem dk_settle (w:World) {d m:Nat} {F:Nat→Prop} {D:ku} (h:At w d F D) (hok:D.Ok m) (hm:m<1000000000) (lives:Nat→Bool) {g:Nat} {caps:Array Value}
  (hcf:∀args w,(callFunc g args).run prog w= .ok (.enter g args) w)
  (hl:∀w1 (i:Nat),i<D.order.length→Ext F w w1→gn prog g ([.int .i64 (i:Int)]++caps.toList) w1 fun v w2=>v= .bool (lives i)∧Ext No w1 w2):
  gn prog 126 [.pointer (some ⟨d,0,none⟩),.func (.func g) #[] caps] w fun _ w'=>At w' d F (D.settle lives)∧Ext F w w':=by
 obtain⟨V,op,oc,h⟩:=h
 have ax:=hok.size
 have b6:=hok.few
 refine gx func126 ?_
 refine c_scopeJ (α:=Nat×List Sec) 0 rfl
  (fun z u=>z.1≤D.order.length∧z.2.length=D.secs.length∧(∀k s,z.2[k]? =some s→s.waits.length=(D.order.drop z.1).count k)∧B9 lives (D.order.drop z.1) z.1 z.2=B9 lives D.order 0 D.secs∧
   (∃L,gz u V 218 (List.flatten L)∧Ae u F z.2 L)∧gz u d 153 (dskL V D.secs.length op D.order.length oc D.dead D.fuse D.fault D.done)∧Own u op D.order.length oc 3 1 (zj4 D.order)∧Ext F w u)
  (fun z=>[(0,.pointer (some ⟨d,0,none⟩)),(1,.func (.func g) #[] caps),(4,.int .i64 (z.1:Int))]) (fun z _=>D.order.length-z.1) ?_ ?_
 ·refine yl rfl (gk ?_)
  refine f_first (0,D.secs) rfl ⟨aJ _,rfl,fun k s hs=>hok.count k s hs,rfl,h.secs,h.head,h.order,Ext.refl F w⟩
 rintro⟨i,K⟩ u ⟨hi,aj,H,O,⟨L,q,S⟩,j,P,hX⟩
 dsimp only at hi aj H O S⊢
 have ad:∀x,TyB u x 165→x≠V:=fun x T=>T.ne q zd
 refine gl (ki rfl (j6 j rfl rfl (km rfl (jl rfl (fun hc=> ?_) (fun hc=> ?_)))))
 ·have a5:i<D.order.length:=by omega
  have hk:D.order[i]? =some D.order[i]:=by simp[a5]
  generalize hkk:D.order[i]=k at hk
  have ak:k<D.secs.length:=hok.inside k (dP hk)
  obtain⟨b0,aa,X,al⟩:=P.sl.2.resolve_left zo
  have a6:u.cell? ⟨b0,aa+i,none⟩=some (.int .i64 (k:Int)):=al i _ (by simp[zj4,hk])
  have ay:op=some ⟨b0,0,none⟩∧aa=0:=by
   rcases P with⟨hp,_⟩|⟨b,l,hp,_⟩
   ·rw[hp] at X;cases X
   rw[hp] at X;simp at X;obtain⟨rfl,rfl⟩:=X;exact⟨hp,rfl⟩
  obtain⟨am,rfl⟩:=ay
  subst am
  have Y:K[k]? =some (K[k]'zo):=by simp[show k<K.length by omega]
  generalize hss:K[k]'zo=s at Y
  have M:D.order.drop i=k::D.order.drop (i+1):=by
   rw[bY a5,hkk]
  have Q:=H k s Y
  rw[M,List.count_cons_self] at Q
  have an:k<L.length:=by rw[S.1];omega
  have hr:L[k]? =some L[k]:=by simp
  generalize hrd:L[k]=r at hr
  have ao:=S.2 k s r Y hr
  obtain⟨p,c,Z,ab,a7,a0,ap,aq⟩:=ao
  have hu:=S.uni
  have y:u.cell? ⟨V,k*65+64,none⟩=some (.slice p s.waits.length c):=by
   refine q.cell ?_
   rw[yw8 hu hr zd,Z]
   simp[x8,ge,a7]
  obtain⟨o,f,hp,ae⟩:=ap.2.resolve_left zo
  subst hp
  obtain⟨f0,I,a⟩:∃f0 I,s.waits=f0::I:=by
   cases hww:s.waits with
   |nil=>rw[hww] at Q;simp at Q
   |cons f0 I=>exact⟨f0,I,rfl⟩
  have A:f0.length=64:=a0 f0 (by rw[a];simp)
  have B:Seg u o f (ge f0):=by
   have:=ae.take 64
   rw[a] at this
   simpa [bl,ge,A] using this
  have af:=Aq hu
  have b7:=cM 65 (Nat.succ_le_of_lt an)
  refine gl ?_
  refine jr rfl 13 [qP 0,qP 1,qP 2,qP 3,qP 4,qP 5,qP 6,qP 7,qP 8,qP 9,qP 10,qP 11,qP 12] [] No zk fun w1 C az=> ?_
  refine wd_p gc rfl (j3 gc rfl rfl (fun w' a1=>(j.ga a1).cell rfl) ?_)
  refine wd_p gc rfl (j3 gc rfl rfl (fun w' a1=>(j.ga a1).cell rfl) ?_)
  refine wd_p gc rfl (qk gc rfl rfl 1 rfl i rfl a5 (0+i) zo (j3 gc rfl rfl (fun w' a1=>zq9 a6 a1 id) ?_))
  refine qk gc rfl rfl 65 rfl k rfl ak (0+k*65) zo (wd_p gc rfl (jg (j5 (jp ?_))))
  rw[bD]
  have ac:=q
  have b1:=hX
  have q:=q.ga C
  have y:=zq9 y C id
  have B:=B.ga C
  have hX:=hX.gb C
  have a2:TyB u o 165:=(aq o f rfl).2
  have ar:F V:=h.own.2.1
  refine ji (α:=Unit) [0,1,4,5] rfl (fun z=>[]) (fun z u'=>gz u' V 218 (L.set k (x8 (ut (lives i) s).safe (some ⟨o,f,none⟩) s.waits.length c)).flatten∧Ext (Vc.One V) u u') ?_ ?_
  ·refine gl ?_
   refine yl rfl (gh hcf rfl (hl w1 i a5 hX) fun v2 w2 a8=> ?_)
   obtain⟨rfl,N⟩:=a8
   have q:=q.ga N
   have y:=zq9 y N id
   have B:=B.ga N
   refine qq (ud rfl (fun hc=> ?_) (fun hc=> ?_))
   ·refine gy ?_
    refine j0 gc rfl (gu rfl y (ka rfl 64 rfl 0 rfl zo f zo (jm rfl B (by simp[ge,A]) ?_)))
    refine j0 gc rfl (wl (D3 gc q rfl (by rw[jh];simp[ge,A]) (by rw[af];show k*65+64≤_;omega) (by rw[jh];exact Cb) fun w3 J ag b2=> ?_))
    refine gk (gr () rfl ⟨?_,C.no.then (N.no.then ag)⟩)
    have J:gz w3 V 218 (Vc.put L.flatten (k*65+0) (ge f0)):=by simpa using J
    rw[rows_put hu hr _ (by simp[ge,A])] at J
    have:Vc.put r 0 (ge f0)=x8 (ut (lives i) s).safe (some ⟨o,f,none⟩) s.waits.length c:=by
     rw[Z,put_eq _ _ _ (by simp[x8,ge,a7,A]),hc]
     simp[x8,ge,a7,A,ut,a]
    rwa [this] at J
   refine kc (gr () rfl ⟨?_,C.no.then N.no⟩)
   rw[hc]
   have e:(ut false s).safe=s.safe:=rfl
   rw[e,←Z,←hrd,List.set_getElem_self]
   exact q
  rintro⟨⟩ u2 ⟨a3,N⟩
  generalize hrow2:x8 (ut (lives i) s).safe (some ⟨o,f,none⟩) s.waits.length c=r2 at a3
  have E:(ut (lives i) s).safe.length=64:=by
   simp only[ut,a,List.headD_cons]
   split
   ·exact A
   exact a7
  have ah:Uni 65 (L.set k r2):=hu.set k (by rw[←hrow2];simp[x8,ge,E])
  have a8:(L.set k r2)[k]? =some r2:=by simp[an]
  have a9:u2.cell? ⟨V,k*65+64,none⟩=some (.slice (some ⟨o,f,none⟩) s.waits.length c):=by
   refine a3.cell ?_
   rw[yw8 ah a8 zd,←hrow2]
   simp[x8,ge,E]
  have R:=Aq ah
  rw[List.length_set] at R
  refine ki rfl (gu rfl a9 (wl (zv gc rfl 1 s.waits.length c 64 rfl (.inr ⟨rfl,rfl⟩) (.inr ⟨rfl,rfl⟩) (.inl rfl) zo ab (aD c) (j0 gc rfl (wl (qz gc a3 rfl rfl (by show k*65+64<_;rw[R];omega) fun w3 J ag b2=> ?_))))))
  have J:gz w3 V 218 (Vc.put (L.set k r2).flatten (k*65+64) [Value.slice (u6 (some ⟨o,f,none⟩) 1 c 64) (s.waits.length-1) (c-1)]):=J
  rw[rows_put ah a8 _ zp] at J
  have G:Ext (Vc.One V) u w3:=N.then ag
  refine qq (ki rfl ?_)
  rw[jz _ zo]
  refine qq (c_goto (f_thenG (f_back (i+1,K.modify k (ut (lives i))) rfl ⟨by simp only;omega,by simp only[List.length_modify];omega,?_,?_,⟨_,J,?_⟩,?_,?_,?_⟩ ?_)))
  ·intro k' s' n
   simp only[List.getElem?_modify] at n
   by_cases hkk':k=k'
   ·subst hkk'
    rw[Y] at n
    simp at n
    subst n
    simp only[ut,a,List.tail_cons]
    rw[a,aW] at Q
    omega
   cases hck:K[k']? with
   |none=>rw[hck] at n;simp at n
   |some t=>
    rw[hck] at n
    simp[hkk'] at n
    subst n
    have:=H k' t hck
    rw[M,List.count_cons_of_ne hkk'] at this
    exact this
  ·rw[←O,M];rfl
  ·have au:Ae w3 F K L:=S.ext G fun x _ T=>ad x T
   dsimp only
   rw[List.set_set]
   refine Ae.modify au fun s' n=> ?_
   rw[Y] at n
   simp at n
   subst n
   have a4:∀b U,u6 (some ⟨o,f,none⟩) 1 c 64=some ⟨b,U,none⟩→b=o:=by
    intro b U W
    unfold u6 at W
    split at W
    ·simp at W;exact W.1.symm
    simp[addr_add] at W;exact W.1.symm
   have av:=(ap.slice 1 s.waits.length c zo ab (aD _)).ext G fun b U W=>by
    rw[a4 b U W]
    exact ad _ a2
   refine⟨u6 (some ⟨o,f,none⟩) 1 c 64,c-1,?_,?_,E,?_,?_,?_⟩
   ·rw[←hrow2,put_eq _ _ _ (by simp[x8,ge,E])]
    have e1:(x8 (ut (lives i) s).safe (some ⟨o,f,none⟩) s.waits.length c).take 64=ge (ut (lives i) s).safe:=by
     unfold x8;rw[List.take_append_of_le_length (by simp[ge,E]),aO (by simp[ge,E])]
    rw[e1,bM (by simp[x8,ge,E])]
    simp[x8,ut]
   ·simp[ut];omega
   ·intro b W
    exact a0 b (List.mem_of_mem_tail W)
   ·have e1:(ut (lives i) s).waits.length=s.waits.length-1:=by simp[ut]
    have e2:(bl (ut (lives i) s).waits).flatten=((bl s.waits).flatten.drop (1*64)).take ((s.waits.length-1)*64):=by
     have b3:Uni 64 (bl s.waits):=Uni.map fun x T=>by simp[ge,a0 x T]
     rw[rows_sub b3]
     congr 1
     rw[aO (by simp[bl])]
     simp[ut,bl,a]
    rw[e1,e2]
    exact av
   intro b U W
   have:=a4 b U W
   subst this
   exact⟨(aq b f rfl).1,a2.ext G (ad _ a2)⟩
  ·exact j.gj G (j.ne ac zd)
  ·exact P.ext G fun x T e=>(Own.ty P T).ne ac zd e
  ·exact b1.trans G fun x _ e=>e▸ar
  simp only;omega
 have b4:i=D.order.length:=by omega
 subst b4
 rw[List.drop_length] at O
 refine x3 (yl rfl (kl j rfl rfl rfl fun w1 b5 C az=> ?_))
 refine gk (f_jumpN (z6 rfl ?_))
 have aw:F d:=h.own.1
 have ai:K=B9 lives D.order 0 D.secs:=O
 refine⟨⟨V,none,0,?_,⟨L,q.gj C (q.ne j zd),?_⟩,.inl ⟨rfl,rfl,rfl,rfl⟩,⟨aw,h.own.2.1,fun x T=>by cases T⟩,?_⟩,hX.trans C fun x _ e=>e▸aw⟩
 ·simp only[ku.settle,Ay]
  exact b5
 ·simp only[ku.settle]
  rw[←ai]
  exact S.ext C fun x _ T e=>T.ne j zd e
 intro x T
 have:=hX.size
 have:=C.size
 have:=h.lt x T
 omega
theorem dk_yes (w:World) (i:Nat):gn prog 190 ([.int .i64 (i:Int)]++(#[]:Array Value).toList) w fun v w'=>v= .bool true∧Ext No w w':=by
 refine gx func190 ?_
 refine jd rfl (jd rfl (j9 (gv rfl rfl ?_)))
 exact⟨rfl,Ext.refl _ _⟩
theorem dk_sync (w:World) {d m:Nat} {F:Nat→Prop} {D:ku} (h:At w d F D) (hok:D.Ok m) (hm:m+1<1000000000):
  gn prog 144 [.pointer (some ⟨d,0,none⟩)] w fun v w'=>v= .int .i64 D.sync.2∧At w' d F D.sync.1∧Ext F w w':=by
 obtain⟨sb,op,oc,h⟩:=h
 refine gx func144 ?_
 have hX:=Ext.refl F w
 refine ko (gw rfl fun b1 w1 hn1 hb1 hE1=> ?_)
 have hX:=hX.gb hE1
 have hF1:¬F b1:=fun e=>by have:=h.lt b1 e;omega
 have h:=h.ga hE1
 have hsz:=hok.size
 have hop:=zw1 w1 0 true call189 h.head hok.fuse hok.fault ⟨hok.done.1,by have:=hok.done.2;omega⟩
  (fun v w'=>v= .int .i64 D.sync.2∧At w' d F D.sync.1∧Ext F w w') (caps:= #[.pointer (some ⟨b1,0,none⟩)])
  (fun hd=> ?_) (fun hd hi=> ?_) (fun hd hi hf w' hb' hE=> ?_) (fun hd hi hf hbu hfu w' hb' hE=> ?_) (fun hd hi hf hbu w' hb' hE=> ?_)
 ·refine km rfl (ko (j6 hb1 rfl rfl (j0 gc rfl (gh call149 rfl hop fun v2 w2 hr2=> ?_))))
  obtain⟨rfl,hr2⟩:=hr2
  refine vr rfl (gv rfl rfl ?_)
  exact⟨rfl,hr2⟩
 ·have e:D.sync=(D,9):=by simp[ku.sync,ku.begin,hd]
  rw[e]
  exact⟨rfl,⟨_,_,_,h⟩,hX⟩
 ·exact absurd zo hi
 ·have hi':(0:Int)≤0∧(0:Int)<D.secs.length:=hi
  have e:D.sync=({D with fault:= -1},8):=by simp[ku.sync,ku.begin,hd,hf,show 0<D.secs.length by omega]
  rw[e]
  have h':=h.yz3 (D':={D with fault:= -1}) rfl rfl (by rw[hd];exact hb') hE
  exact⟨rfl,⟨_,_,_,h'⟩,hX.trans hE fun x _ e=>e▸h.own.1⟩
 ·have e:D.sync=({D with fault:=vo D.fault,fuse:= -1,dead:=true},9):=by simp[ku.sync,ku.begin,hd,hf,hfu,show 0<D.secs.length by omega]
  rw[e]
  have h':=h.yz3 (D':={D with fault:=vo D.fault,fuse:= -1,dead:=true}) rfl rfl hb' hE
  exact⟨rfl,⟨_,_,_,h'⟩,hX.trans hE fun x _ e=>e▸h.own.1⟩
 have hbu':¬(D.fuse=0):=fun e=>hbu ⟨rfl,e⟩
 have e0:D.begin 0 true=({D with fault:=vo D.fault,fuse:=Aw true D.fuse,done:=D.done+1},0):=by simp[ku.begin,hd,hf,hbu',show 0<D.secs.length by omega]
 have e:D.sync=(({D with fault:=vo D.fault,fuse:=Aw true D.fuse,done:=D.done+1}:ku).settle fun _=>true,0):=by
  simp only[ku.sync,e0,cO]
 rw[e]
 have h':=h.yz3 (D':={D with fault:=vo D.fault,fuse:=Aw true D.fuse,done:=D.done+1}) rfl rfl (by rw[hd];exact hb') hE
 have hok':=hok.begin 0 true
 rw[e0] at hok'
 have hXw:Ext F w w':=hX.trans hE fun x _ e=>e▸h.own.1
 have hb1:=hb1.gj hE fun e=>hF1 (e▸h.own.1)
 refine gx func189 ?_
 refine gy (j6 hb1 rfl rfl (gh call126 rfl (dk_settle w' ⟨_,_,_,h'⟩ hok' zo (fun _=>true) (caps:= #[]) call190 fun w1 i _ _=>dk_yes w1 i) fun v1 w2 hr1=> ?_))
 refine gk (z6 rfl ?_)
 exact⟨rfl,hr1.1,hXw.trans hr1.2 fun x _=>id⟩
theorem dk_keep (w:World) {b3 n c:Nat} {kp:Option Addr} {keep:List Bool} (hb3:gz w b3 74 [.slice kp n c]) (hn:keep.length=n) (hk:Sl w kp n 1 (keep.map Value.bool)) (i:Nat):
  gn prog 127 ([.int .i64 (i:Int)]++(#[.pointer (some ⟨b3,0,none⟩)]:Array Value).toList) w fun v w'=>v= .bool (yx3 keep i)∧Ext No w w':=by
 refine gx func127 ?_
 refine jd rfl (ji (α:=Bool) [] rfl (fun z=>[(3,.bool z)]) (fun z u=>u=w∧z=yx3 keep i) ?_ ?_)
 ·refine gy ?_
  refine j0 gc rfl (j6 hb3 rfl rfl (j0 gc rfl (ja 8 rfl (fun f=> ?_) (fun f=> ?_))))
  ·refine j6 hb3 rfl rfl ?_
   obtain⟨g,a,rfl,d⟩:=hk.2.resolve_left zo
   have e:i<keep.length:=by omega
   have b:w.cell? ⟨g,a+i,none⟩=some (.bool keep[i]):=d i _ (by simp[e])
   refine xq6 gc rfl (ka rfl 1 rfl i rfl zo (a+i) zo (gu rfl b (xq6 gc rfl (gk ?_))))
   exact gr _ rfl ⟨rfl,by simp[yx3,e]⟩
  refine xq6 gc rfl ?_
  refine gk ?_
  have e:keep.length≤i:=by omega
  exact gr _ rfl ⟨rfl,by simp[yx3,e]⟩
 rintro z w ⟨rfl,rfl⟩
 exact j9 (gv rfl rfl ⟨rfl,Ext.refl _ _⟩)
theorem dk_crash (w:World) {d m:Nat} {F:Nat→Prop} {D:ku} (h:At w d F D) (hok:D.Ok m) (hm:m<1000000000) {n c:Nat} {kp:Option Addr} {keep:List Bool} (hn:keep.length=n) (hk:Sl w kp n 1 (keep.map Value.bool)) (hkF:∀b off,kp=some ⟨b,off,none⟩→¬F b):
  gn prog 46 [.pointer (some ⟨d,0,none⟩),.slice kp n c] w fun v w'=>v= .int .i64 0∧At w' d F (D.crash keep)∧Ext F w w':=by
 refine gx func46 ?_
 have g:=Ext.refl F w
 refine ko (gw rfl fun k A B l f=> ?_)
 have g:=g.gb f
 have o:¬F k:=fun e=>by have:=h.lt k e;omega
 have p:=h.own
 have h:=h.ga f
 have hk:=hk.ga f
 refine km rfl (gl (jd rfl (up rfl ?_)))
 refine kc ?_
 refine jp (ki rfl (gh call126 rfl (dk_settle A h hok hm (yx3 keep) (caps:= #[.pointer (some ⟨k,0,none⟩)]) call127 fun y i _ j=>dk_keep y (c:=c) (l.ext j o) hn (hk.ext j hkF) i) fun K y q=> ?_))
 obtain⟨⟨C,E,G,z⟩,r⟩:=q
 have g:=g.trans r fun x _=>id
 have a:=z.head
 refine qq (ki rfl (kl a rfl rfl rfl fun L a s H=> ?_))
 refine j0 gc rfl (kl a rfl rfl rfl fun M a t I=> ?_)
 refine j0 gc rfl (kl a rfl rfl rfl fun N a u J=> ?_)
 have j:=s.then (t.then u)
 refine qq (jd rfl (j9 (gv rfl rfl ?_)))
 exact⟨rfl,⟨C,E,G,z.yz3 (D':=D.crash keep) rfl rfl a j⟩,g.trans j fun x _ e=>e▸p⟩
theorem dk_len (w:World) {d:Nat} {F:Nat→Prop} {D:ku} (h:At w d F D):
  gn prog 77 [.pointer (some ⟨d,0,none⟩)] w fun v w'=>v= .int .i64 (D.secs.length:Int)∧w'=w:=by
 obtain⟨a,b,c,h⟩:=h
 refine gx func77 ?_
 refine jd rfl (gl (jd rfl (up rfl ?_)))
 refine x3 (ki rfl (j6 h.head rfl rfl (vr rfl (gv rfl rfl ?_))))
 exact⟨rfl,rfl⟩
theorem xe.order_src {w:World} {d sb oc:Nat} {F:Nat→Prop} {op:Option Addr} {D:ku} (h:xe w d sb op oc F D) {w':World} (hE:Ext No w w'):Src prog w' 1 (.slice op D.order.length oc) D.order.length (zj4 D.order):=
 Src.slice (h.order.sl.ga hE) fun v hv=>by
  obtain⟨x,_,rfl⟩:=bN.1 hv
  rfl
theorem dk_pending (w:World) {d m:Nat} {F:Nat→Prop} {D:ku} (h:At w d F D) (hok:D.Ok m) (hm:m<1000000000):
  gn prog 74 [.pointer (some ⟨d,0,none⟩)] w fun v w'=>∃b,v= .slice (some ⟨b,0,none⟩) D.order.length D.order.length∧w.heap.size≤b∧gz w' b 3 (zj4 D.order)∧Ext No w w':=by
 obtain⟨q,r,s,h⟩:=h
 have k:=hok.few
 refine gx func74 ?_
 have e:=Ext.refl No w
 refine jd rfl (gl (jd rfl (up rfl ?_)))
 refine kc ?_
 refine jp (ki rfl (j6 h.head rfl rfl (j0 gc rfl (wl (zz4 gc rfl D.order.length D.order.length 8 rfl (zs:=[.int .i64 0]) rfl rfl zd rfl rfl (aD _) zo zr fun f t a g i n=> ?_)))))
 have l:=h.ga i
 have e:=e.gb i
 refine km rfl (ki rfl (j6 l.head rfl rfl (wl (zj1 gc rfl 1 rfl g (l.order_src (Ext.refl _ _)) (aD _) (by rw[um];simp) fun o c j p=> ?_))))
 have e:=e.gi j a
 refine qq (jd rfl (j9 (gv rfl rfl ?_)))
 refine⟨f,rfl,a,?_,e⟩
 have c:gz o f 3 (put (Cn D.order.length [.int .i64 0]) 0 (zj4 D.order)):=c
 rwa [Az (by rw[um];simp[zj4])] at c
theorem fresh_rows (w:World) (F:Nat→Prop) (n:Nat):Ae w F (ku.fresh n).secs (List.replicate n (x8 zeros none 0 0)):=by
 refine⟨by simp[ku.fresh],fun i s r c d=> ?_⟩
 simp only[ku.fresh] at c
 have e:=dP c
 have f:=dP d
 rw[List.eq_of_mem_replicate e,List.eq_of_mem_replicate f]
 refine⟨none,0,rfl,aD _,zeros_length,fun b a=>(by cases a),⟨rfl,.inl rfl⟩,fun b g a=>(by cases a)⟩
theorem dk_new (w:World) (n:Int):gn prog 22 [.int .i64 n] w fun v w'=>
  if 1≤n∧n≤2048 then∃d,v= .tuple #[.pointer (some ⟨d,0,none⟩),.int .i64 0]∧w.heap.size≤d∧At w' d (Grow No w w') (ku.fresh n.toNat)∧Ext No w w'
  else v= .tuple #[.pointer none,.int .i64 2]∧Ext No w w':=by
 refine gx func22 ?_
 have f:=Ext.refl No w
 refine jd rfl (gl (ji (α:=Bool) [0] rfl (fun z=>[(9,.bool z)]) (fun z u=>u=w∧z=decide (¬(1≤n∧n≤2048))) ?_ ?_))
 ·refine gy ?_
  refine j0 gc rfl (ja 6 rfl (fun r=> ?_) (fun r=> ?_))
  ·refine xq6 gc rfl (gk (gr _ rfl ⟨rfl,?_⟩))
   simp;omega
  refine xq6 gc rfl (gk (gr _ rfl ⟨rfl,?_⟩))
  simp only[aH];omega
 rintro z w ⟨rfl,rfl⟩
 refine jl rfl (fun l=> ?_) (fun l=> ?_)
 ·refine gl ?_
  refine gy (vr rfl (j7 (f_ret2 rfl rfl rfl ?_)))
  rw[aP l]
  exact⟨rfl,f⟩
 have s:=aS.1 l
 refine kc ?_
 refine jp (ki rfl (wl (zz4 gc rfl n.toNat n.toNat 88 rfl (zs:=x8 zeros none 0 0) (by simp[ti218,x8,zeros,ge]) rfl zd zo zo (aD _) zo zr fun m y g i o t=> ?_)))
 have f:=f.gb o
 refine kg rfl (by simp[Cp,ti153]) rfl (gw rfl fun p A j b k=> ?_)
 have c:=aA f.size j
 have a:=i.ga k
 have f:=f.gb k
 refine vr rfl (f_ret2 rfl rfl rfl ?_)
 rw[aR s]
 have e:(ku.fresh n.toNat).secs.length=n.toNat:=by simp[ku.fresh]
 refine⟨p,rfl,c,⟨m,none,0,?_,⟨_,a,fresh_rows _ _ _⟩,.inl ⟨rfl,rfl,rfl,rfl⟩,⟨.inr ⟨c,b.lt⟩,.inr ⟨g,a.lt⟩,fun x q=>(by cases q)⟩,fun x q=>q.elim False.elim fun h=>h.2⟩,f⟩
 rw[e]
 exact b
abbrev Rt (w:World):Prop:=Seg w 0 0 (jt qv)
theorem Rt.ext {S:Nat→Prop} {w w':World} (h:Rt w) (hE:Ext S w w') (hS:¬S 0):Rt w':=Seg.ext h hE hS
theorem Rt.lt {w:World} (h:Rt w):0<w.heap.size:=Seg.lt h zd
theorem zeros_b:ge zeros=cellsOf ti165.zero:=z29.symm
theorem xb (w:World) (n:Int):
  gn prog 65 [.int .i64 n] w fun v w'=>v= .int .i64 (sectZ n)∧Ext No w w':=by
 refine gx func65 ?_
 have e:=Ext.refl No w
 refine jd rfl (gl (ji (α:=Bool) [0] rfl (fun z=>[(8,.bool z)]) (fun z u=>u=w∧z=decide (n<0∨40000<n)) ?_ ?_))
 ·refine gy ?_
  refine j0 gc rfl (ja 5 rfl (fun a=> ?_) (fun a=> ?_))
  ·refine gq gc 3 rfl ?_
   refine gk ?_
   exact gr (true) rfl ⟨rfl,by simp[a]⟩
  refine gq gc 3 rfl ?_
  refine gk ?_
  exact gr (_) rfl ⟨rfl,by simp[a]⟩
 rintro z g ⟨b,rfl⟩
 have b:=b.symm
 subst b
 refine jl rfl (fun c=> ?_) (fun c=> ?_)
 ·have d:sectZ n=0:=aR c
  rw[d]
  refine jd rfl (j9 (j7 (gv rfl rfl ?_)))
  exact⟨rfl,e⟩
 have d:sectZ n=((n.toNat+3)/48+1:Nat):=aP c
 rw[d]
 have f:IntKind.i64.wrap (IntKind.i64.wrap ((IntKind.i64.wrap (n+3)).tdiv 48)+1)=(((n.toNat+3)/48+1:Nat):Int):=by
  rw[jz (n+3) zo,IntWalk.i64_quo _ _ zo,jz _ zo]
  omega
 refine x3 (ki rfl ?_)
 rw[f]
 refine vr rfl (gv rfl rfl ?_)
 exact⟨rfl,e⟩
theorem slb4 (b:Nat):u6 (some ⟨b,0,none⟩) 4 64 1=some ⟨b,4,none⟩:=rfl
theorem seal_put (l:Bytes) (hl:l.length≤60):Vc.put (ge (List.replicate 64 0)) 4 (ge l)=ge (List.replicate 4 0++(l++List.replicate (60-l.length) 0)):=by
 rw[put_eq _ _ _ (by simp[gm];omega),gm,ui,uk]
 have a:(List.replicate 64 (0:UInt8)).take 4=List.replicate 4 0:=rfl
 have b:(List.replicate 64 (0:UInt8)).drop (4+l.length)=List.replicate (60-l.length) 0:=by rw[List.drop_replicate];congr 1;omega
 rw[a,b,kz,kz,aV]
theorem sum_put (R:Bytes) (d:Bytes) (hd:d.length=4):Vc.put (ge (List.replicate 4 0++R)) 0 (ge d)=ge (d++R):=by
 rw[put_eq _ _ _ (by simp[gm];omega),gm,ui,uk,hd]
 simp[kz,ge]
theorem sealed_calls (w:World) {p:Option Addr} {c:Nat} {l:Bytes} (h:ux w p l) (hl:l.length≤60) (hr:Rt w):
  gn prog 180 [.slice p l.length c] w fun v w'=>v=numB (sealB l)∧Ext No w w':=by
 obtain⟨R,y⟩:∃R,R=l++List.replicate (60-l.length) 0:=⟨_,rfl⟩
 have k:R.length=60:=by rw[y];simp;omega
 have J:sealB l=(sumW R).take 4++R:=by rw[y];rfl
 have G:=hr.lt
 refine gx func180 ?_
 have b:=Ext.refl No w
 refine ko (gw rfl fun d K z a m=> ?_)
 have i:=aA b.size z
 have b:=b.gb m
 have a:gz K d 165 (ge (List.replicate 64 0)):=by(rw[show ge (List.replicate 64 0)=cellsOf ti165.zero from zeros_b];exact a)
 refine qq (ko (wl (st_sa gc rfl 4 64 64 1 rfl ⟨.inr ⟨rfl,rfl⟩,.inr ⟨rfl,rfl⟩,.inl rfl,by decide,by decide,by decide⟩ ?_)))
 rw[slb4]
 refine j0 gc rfl (wl (zj1 gc rfl 1 rfl a (Src.slice (h.ga b) OneC.h) zn (by rw[gm];simp;omega) fun x A n L=> ?_))
 have b:=b.gi n i
 have a:gz x d 165 (ge (List.replicate 4 0++R)):=by
  rw[y,←seal_put l hl];exact A
 have hr:Rt x:=(hr.ext m id).ext n fun e=>by have e:0=d:=e;omega
 refine qq (ko (wl (st_sa gc rfl 4 64 64 1 rfl ⟨.inr ⟨rfl,rfl⟩,.inr ⟨rfl,rfl⟩,.inl rfl,by decide,by decide,by decide⟩ ?_)))
 rw[slb4]
 have B:ux x (some ⟨d,4,none⟩) R:=⟨by rw[gm,bE],.inr ⟨d,4,rfl,by have e:=a.kj.drop 4;rw[uk] at e;simpa using e⟩⟩
 rw[show Value.slice (some ⟨d,4,none⟩) (64-4) (64-4)= .slice (some ⟨d,4,none⟩) R.length 60 from by rw[k]]
 refine gh call181 rfl (sum_calls x B zo hr) fun U V C=> ?_
 obtain⟨rfl,o⟩:=C
 have a:=a.ga o
 have b:=b.gb o
 refine gw rfl fun H W q f r=> ?_
 have j:=j2 a.lt q
 have D:=aA b.size q
 have a:=a.ga r
 have b:=b.gb r
 refine wl (j4 (l':=ge (sumW R)) gc f rfl rfl (by rw[gm,C3]) (by rw[gm,C3];rfl) OneC.h fun X f s M=> ?_)
 have a:=a.gj s j
 have b:=b.gi s D
 refine qq (gl (jr rfl 3 [qP 0,qP 1,(2,false)] [] (One d) zk fun I g N=> ?_))
 have a:=a.ga g
 have f:=f.ga g
 have b:=b.gb g
 have O:Ext (One d) _ I:=g.no
 refine xv0 gc rfl rfl 0 4 64 1 rfl ⟨.inr ⟨rfl,rfl⟩,.inl rfl,.inr ⟨rfl,rfl⟩,by decide,by decide,by decide⟩ ?_
 rw[jw,bB]
 refine xv0 gc rfl rfl 0 32 32 1 rfl ⟨.inr ⟨rfl,rfl⟩,.inr ⟨rfl,rfl⟩,.inr ⟨rfl,rfl⟩,by decide,by decide,by decide⟩ ?_
 rw[jw,bB]
 have E:Sl I (some ⟨H,0,none⟩) 4 1 (ge ((sumW R).take 4)):=⟨by rw[gm,aL,C3];rfl,.inr ⟨H,0,rfl,by have e:=f.kj.take 4;rwa [ui] at e⟩⟩
 have P:((sumW R).take 4).length=4:=by rw[aL,C3];rfl
 refine jo rfl (st_cpK gc rfl 1 rfl a rfl (by show 4≤32;decide) E OneC.h (by simp[gm,k]) fun Q t u S=>⟨O.then (u.mono fun _ _ e=>e),?_⟩)
 have b:=b.gi u i
 have a:gz Q d 165 (ge (sealB l)):=by
  rw[J,←sum_put R _ P];exact t
 refine jg (j5 (jp (ko (je a rfl (by rw[gm,yq6 hl]) ?_))))
 refine wl (j4 (l':=ge (sealB l)) gc a rfl rfl (by rw[gm,yq6 hl]) (by rw[gm]) OneC.h fun Y a F T=> ?_)
 have b:=b.gi F i
 refine qq (j9 (qe [_] ⟨⟨d,0,rfl,qg gc rfl rfl a.kj (by rw[gm,yq6 hl];rfl)⟩,trivial⟩ ?_))
 exact⟨rfl,b⟩
theorem and1 (t:Nat) (ht:t<4294967296):bitI .and .u32 (t:Int) 1=((t%2:Nat):Int):=by
 have a:(BitVec.ofInt IntKind.u32.bits (t:Int)&&&BitVec.ofInt IntKind.u32.bits 1).toNat=t%2:=by
  rw[BitVec.toNat_and]
  have b:(BitVec.ofInt IntKind.u32.bits (t:Int)).toNat=t:=by
   show(BitVec.ofInt 32 (t:Int)).toNat=t
   rw[BitVec.toNat_ofInt]
   omega
  have c:(BitVec.ofInt IntKind.u32.bits 1).toNat=1:=rfl
  rw[b,c,Nat.and_one_is_mod]
 show IntKind.u32.wrap _=_
 rw[a,IntKind.wrap_u32]
 omega
theorem yx8 (w:World) (x:Value) (n t:Nat) (hn:n<5000000000) (ht:t<4294967296) (hx:x.oneCell'=true):
  gn prog 120 [.agg #[x,.int .i64 (n:Int)],.int .u32 (t:Int)] w fun v w'=>v= .int .i64 (uj t n:Int)∧Ext No w w':=by
 refine gx func120 ?_
 have b:=Ext.refl No w
 refine ko (gw rfl fun f g h a c=> ?_)
 have b:=b.gb c
 have a:gz g f 155 ([x,.int .i64 (n:Int)]):=a
 refine km rfl (gl (jd rfl (jl rfl (fun d=> ?_) (fun d=> ?_))))
 ·have e:uj t n=2+n:=aR (by rw[and1 t ht] at d;omega)
  rw[e]
  refine ki rfl (j6 a rfl rfl (j0 gc rfl ?_))
  rw[jz _ zo]
  refine qq (j9 (j7 (gv rfl rfl ?_)))
  exact⟨by congr 1,b⟩
 have e:uj t n=2:=aP (by rw[and1 t ht] at d;omega)
 rw[e]
 refine x3 (jd rfl (j9 (gv rfl rfl ?_)))
 exact⟨rfl,b⟩
theorem _root_.Go.Vc.gz.slB {w:World} {b T:Nat} {l:Bytes} (h:gz w b T (ge l)):ux w (some ⟨b,0,none⟩) l:=⟨by rw[gm,bE],.inr ⟨b,0,rfl,h.kj⟩⟩
theorem wrap32 (n:Nat) (h:n<4294967296):IntKind.u32.wrap (n:Int)=(n:Int):=by rw[IntKind.wrap_u32];omega
theorem fits_calls (w:World) {d:Nat} {F:Nat→Prop} {D:ku} (h:At w d F D) (n:Int) (hn: -9223372036854775808≤n∧n<9223372036854775808):
  gn prog 70 [.agg #[.pointer (some ⟨d,0,none⟩),.int .i64 n]] w fun v w'=>v= .bool (decide (0≤n∧Bw n.toNat D.secs.length))∧Ext No w w':=by
 refine gx func70 ?_
 have c:=Ext.refl No w
 refine ko (gw rfl fun l o p a k=> ?_)
 have c:=c.gb k
 have a:gz o l 155 ([.pointer (some ⟨d,0,none⟩),.int .i64 n]):=a
 refine km rfl (ji (α:=Bool) [] rfl (fun z=>[(2,.bool z)]) (fun z u=>(z=decide (0≤n∧Bw n.toNat D.secs.length))∧gz u l 155 ([.pointer (some ⟨d,0,none⟩),.int .i64 n])∧Ext No w u) ?_ ?_)
 ·refine jr rfl 19 [qP 0,qP 1,qP 2,qP 3,qP 4,qP 5,qP 6,qP 7,qP 8,qP 9,qP 10,qP 12,qP 13,qP 14,qP 15,(11,false),qP 16,qP 17,qP 18] [] (No) zk fun m g q=> ?_
  have e:=a
  have a:=a.ga g
  have c:=c.gb g
  have r:Ext (No) _ m:=g.no
  refine gt gc 1 rfl (j3 gc rfl rfl (fun w' b=>(e.ga b).cell rfl) ?_)
  refine gt gc 2 rfl (vy 6 rfl (fun j=> ?_) (fun j=> ?_))
  ·refine gt gc 1 rfl ?_
   refine j3 gc rfl rfl (fun w' b=>(e.ga b).cell rfl) ?_
   refine gt gc 3 rfl (vy 11 rfl (fun j=> ?_) (fun j=> ?_))
   ·have s:=j
    refine gt gc 1 rfl (j3 gc rfl rfl (fun w' b=>(e.ga b).cell rfl) ?_)
    refine gt gc 1 rfl (j3 gc rfl rfl (fun w' b=>(e.ga b).cell rfl) ?_)
    refine gt gc 2 rfl ?_
    rw[jz (2*n) zo,jz _ zo]
    refine jo rfl (j1 call77 rfl ((dk_len m (h.ga c)).same) fun t x i=>⟨(by obtain⟨rfl,f⟩:=i;exact r.gb f),?_⟩)
    obtain⟨rfl,f⟩:=i
    have a:=a.ga f
    have c:=c.gb f
    refine gt gc 3 rfl (jg (j5 ?_))
    exact gr (_) rfl ⟨by rw[aH];unfold Bw;omega,a,c⟩
   refine gt gc 10 rfl ?_
   refine jg (j5 ?_)
   exact gr (false) rfl ⟨by symm;rw[aC];unfold Bw;omega,a,c⟩
  refine gt gc 15 rfl ?_
  refine jg (j5 ?_)
  exact gr (false) rfl ⟨by symm;rw[aC];unfold Bw;omega,a,c⟩
 rintro z y ⟨rfl,a,c⟩
 refine j9 (gv rfl rfl ?_)
 exact⟨rfl,c⟩
theorem head_calls (w:World) (x:Value) (n t:Nat) (hn:n<4294967296) (ht:t<4294967296) (hx:x.oneCell'=true) (hr:Rt w):
  gn prog 147 [.agg #[x,.int .i64 (n:Int)],.int .u32 (t:Int)] w fun v w'=>v=numB (yv3 t n)∧Ext No w w':=by
 refine gx func147 ?_
 have b:=Ext.refl No w
 refine ko (gw rfl fun Q R T d E=> ?_)
 have b:=b.gb E
 have d:gz R Q 155 ([x,.int .i64 (n:Int)]):=d
 refine gw rfl fun U w2 F a q=> ?_
 have G:=aA b.size F
 have d:=d.ga q
 have b:=b.gb q
 refine qq (gl (jr rfl 9 [qP 2,qP 4,qP 5,qP 6,(0,false),(1,false),(3,false),(7,false),(8,false)] [9] (No) zk fun V o W=> ?_))
 have H:=d
 have a:=a.ga o
 have b:=b.gb o
 have c:Ext (No) _ V:=o.no
 refine gt gc 2 rfl (j3 gc rfl rfl (fun w' I=>(H.ga I).cell rfl) ?_)
 refine gt gc 1 rfl ?_
 rw[wrap32 n hn]
 have r:=c
 refine jo rfl (qi gc rfl 1 rfl rfl rfl zd zd zt (l':=ge zq3) rfl fun D w4 s J i X=>⟨c.gb i,?_⟩)
 have p:=j2 a.lt s
 have K:=aA b.size s
 have a:=a.ga i
 have b:=b.gb i
 have c:=c.gb i
 refine jo rfl (st_cv gc rfl J fun P j u Y=>⟨c.trans j fun x hx e=>by have e:x=D:=e;have:=r.size;omega,?_⟩)
 have c:=c.trans j (S:=No) fun x hx e=>by have e:x=D:=e;have:=r.size;omega
 have b:=b.gi j K
 have a:=a.gj j p
 have L:ux P (some ⟨D,0,none⟩) zq3:=⟨rfl,.inr ⟨D,0,rfl,u⟩⟩
 refine jo rfl (j1 call179 rfl (z9 P (l:=zq3) L zd t ht) fun v6 Z y=>⟨(by obtain⟨b8,rfl,M,z,f⟩:=y;exact c.gb f),?_⟩)
 obtain⟨b8,rfl,M,z,f⟩:=y
 have a:=a.ga f
 have b:=b.gb f
 have c:=c.gb f
 refine jo rfl (j1 call179 rfl (z9 Z z.slB (by simp[zq3,jy]) n hn) fun v7 w7 A=>⟨(by obtain⟨N,rfl,B,m,g⟩:=A;exact c.gb g),?_⟩)
 obtain⟨N,rfl,B,m,g⟩:=A
 have a:=a.ga g
 have b:=b.gb g
 have c:=c.gb g
 refine jo rfl (j1 call180 rfl (sealed_calls w7 m.slB (by simp[zq3,jy]) (hr.ext b id)) fun v8 w8 C=>⟨(by obtain⟨rfl,k⟩:=C;exact c.gb k),?_⟩)
 obtain⟨rfl,k⟩:=C
 have a:=a.ga k
 have b:=b.gb k
 refine jg (wb rfl (j4 (l':=ge (yv3 t n)) gc a rfl rfl (by rw[gm,Dn]) (by rw[gm,Dn];rfl) OneC.h fun w9 a O a0=> ?_))
 have b:=b.gi O G
 refine j5 (jp (j9 (qe [_] ⟨⟨U,0,rfl,qg gc rfl rfl a.kj (by rw[gm,Dn];rfl)⟩,trivial⟩ ?_)))
 exact⟨rfl,b⟩
abbrev ItQ (w:World) (F:Nat→Prop) (N:Nat) (J Jx:Nat→(Nat→Prop)→World→Prop) (w':World):Prop:=
  ∃F':Nat→Prop,Ext F w w'∧(∀x,F' x→F x∨w.heap.size≤x)∧(J N F' w'∨∃k,k<N∧Jx k F' w')
abbrev argB (l:List Bytes) (k:Nat):Array Value:= #[numB (l.getD k [])]
theorem getD_rep {n k:Nat} {b:Bytes} (h:k<n):(List.replicate n b).getD k []=b:=by simp[h]
theorem blank1_walk (w:World) {l b n:Nat} {F:Nat→Prop} {J Jx:Nat→(Nat→Prop)→World→Prop} (hC:Cons prog l w.heap.size n (argB (List.replicate n zeros)) J Jx) (hb:gz w b 3 [.int .i64 (n:Int)]) (hn:n<1000000000) (h0:J 0 F w):
  gn prog 145 [.func (.yield l) #[] #[],.pointer (some ⟨b,0,none⟩)] w fun _ w'=>ItQ w F n J Jx w':=by
 refine gx func145 ?_
 have c:=Ext.refl F w
 refine ko (gu rfl (hb.cell rfl) (km rfl (j8 ?_)))
 refine jj (α:=Nat×(Nat→Prop)) [0,3] rfl (fun z=>[(4,.int .i64 (z.1:Int))]) (fun z u=>(z.1≤n∧J z.1 z.2 u∧(∀x,z.2 x→F x∨w.heap.size≤x))∧Ext F w u) (fun z u=>n-z.1) (0,F) rfl ⟨⟨aJ _,h0,fun x i=> .inl i⟩,c⟩ ?_
 rintro⟨k,G⟩ B ⟨⟨t,d,j⟩,c⟩
 try dsimp only
 dsimp only at t d j
 refine jd rfl (gl (jl rfl (fun f=> ?_) (fun f=> ?_)))
 ·have a:k<n:=by omega
  refine Ac (gl (c_regionI (wlw_p rfl gc rfl (wlw rfl (st_bd gc rfl trivial (l':=ge zeros) (by rw[zeros_b];rfl) ?_)))))
  rw[show ge zeros=ge ((List.replicate n zeros).getD k []) from by rw[getD_rep a]]
  refine wli_yield rfl rfl rfl rfl rfl rfl (hC.round d a) fun y C v=> ?_
  obtain⟨m,o,p,q,r⟩:=v
  have A:=c.size
  have c:=c.trans o fun x i e=>(j x e).resolve_right zo
  have g:∀x,m x→F x∨w.heap.size≤x:=fun x i=>(p x i).elim (j x) fun h=> .inr zo
  refine wlw_p rfl gc rfl (Ah (jp (ud rfl (fun f=> ?_) (fun f=> ?_))))
  ·have s:=r (by simpa using f)
   refine j9 (u1 (j7 (j7 (u1 (f_ret0 rfl ?_)))))
   exact⟨m,c,g,.inr ⟨k,a,s⟩⟩
  have d:=q (by simpa using f)
  refine kc (Aa rfl ?_)
  rw[jz _ zo]
  refine gk ?_
  exact jk (k+1,m) rfl ⟨⟨a,d,g⟩,c⟩ zf
 have a:k=n:=by omega
 subst a
 refine y8 (ql (ql (ve (z6 rfl ?_))))
 exact⟨G,c,j,.inl d⟩
theorem blank1_iter (w:World) {b n:Nat} (hb:gz w b 3 [.int .i64 (n:Int)]) (hn:n<1000000000):Iter prog 145 [.pointer (some ⟨b,0,none⟩)] n (argB (List.replicate n zeros)) (One b) w:=fun _ _ _ _ hC h0 _=>blank1_walk w hC hb hn h0
theorem blank_calls (w:World) (n:Nat):
  gn prog 72 [.int .i64 (n:Int)] w fun v w'=>∃b,v= .func (.func 145) #[] #[.pointer (some ⟨b,0,none⟩)]∧w.heap.size≤b∧gz w' b 3 [.int .i64 (n:Int)]∧Ext No w w':=by
 refine gx func72 ?_
 have c:=Ext.refl No w
 refine ko (gw rfl fun g h d a e=> ?_)
 have f:=aA c.size d
 have c:=c.gb e
 have a:gz h g 3 ([.int .i64 (n:Int)]):=a
 refine km rfl (jd rfl (j9 (gv rfl rfl ?_)))
 exact⟨g,rfl,f,a,c⟩
theorem begin1_walk (w:World) {l bl bt n t:Nat} {x:Value} {F:Nat→Prop} {J Jx:Nat→(Nat→Prop)→World→Prop} (hC:Cons prog l w.heap.size 1 (argB [yv3 t n]) J Jx) (hbl:gz w bl 155 [x,.int .i64 (n:Int)]) (hbt:gz w bt 35 [.int .u32 (t:Int)]) (hx:x.oneCell'=true) (hn:n<4294967296) (ht:t<4294967296) (hr:Rt w) (h0:J 0 F w):
  gn prog 146 [.func (.yield l) #[] #[],.pointer (some ⟨bl,0,none⟩),.pointer (some ⟨bt,0,none⟩)] w fun _ w'=>ItQ w F 1 J Jx w':=by
 obtain⟨H,m⟩:∃H,H=yv3 t n:=⟨_,rfl⟩
 rw[←m] at hC
 refine gx func146 ?_
 have a:=Ext.refl F w
 have c:=h0
 refine c_regionI (wlw_p rfl gc rfl (wlw rfl (st_ldN gc rfl hbl.kj rfl (wlw rfl (st_ld gc rfl (hbt.cell rfl) (wlw rfl (j1 call147 rfl (head_calls w x n t hn ht hx hr) fun r s d=> ?_)))))))
 obtain⟨rfl,b⟩:=d
 have c:=hC.st c b fun _ e=>e.elim
 have a:=a.gb b
 rw[←m]
 refine wli_yield rfl rfl rfl rfl rfl rfl (hC.round c zd) fun y u p=> ?_
 obtain⟨o,f,g,i,j⟩:=p
 have q:=a.size
 have a:=a.then f
 have k:∀x,o x→F x∨w.heap.size≤x:=fun x hx=>(g x hx).elim .inl fun h=> .inr zo
 refine Ah (z6 rfl (⟨o,a,k,?_⟩))
 cases y with
 |true=>exact .inl (i rfl)
 |false=>exact .inr ⟨0,by decide,j rfl⟩
theorem begin1_iter (w:World) {bl bt n t:Nat} {x:Value} (hbl:gz w bl 155 [x,.int .i64 (n:Int)]) (hbt:gz w bt 35 [.int .u32 (t:Int)]) (hx:x.oneCell'=true) (hn:n<4294967296) (ht:t<4294967296) (hr:Rt w):Iter prog 146 [.pointer (some ⟨bl,0,none⟩),.pointer (some ⟨bt,0,none⟩)] 1 (argB [yv3 t n]) (fun x=>x=bl∨x=bt∨x=0) w:=fun _ _ _ _ hC h0 _=>begin1_walk w hC hbl hbt hx hn ht hr h0
theorem bodyB_len (b:Bytes):(zj3 b).length=b.length+4:=by simp[zj3,jy];omega
theorem sect_le (b:Bytes) (hb:b.length≤40000) {k:Nat} (hk:k<kw b.length):48*k<(zj3 b).length:=by
 have:=sectN_tight hb
 rw[bodyB_len]
 omega
theorem xz3 (t n:Nat) (b:Bytes) {k:Nat} (hk:k<kw b.length):(vk t n b).getD k []=C1 t n b k:=by simp[vk,hk]
theorem own1 {b x:Nat} (h:jb (some ⟨b,0,none⟩) x):x=b:=by
 have h:some (⟨b,0,none⟩:Addr)=some ⟨x,0,none⟩:=h
 simp at h
 exact h.symm
theorem Al {G G2:Nat→Prop} {b:Nat} {w:World} (h:¬G b) (hb:b<w.heap.size) (hG:∀x,G2 x→G x∨w.heap.size≤x):¬G2 b:=fun e=>(hG b e).elim h fun h=>by omega
theorem yv8 (w:World) (t n:Nat) {p:Option Addr} {m c:Nat}:
  gn prog 121 [.int .u32 (t:Int),.int .u32 (n:Int),.slice p m c] w fun v w'=>∃bb bt bn,v= .func (.func 178) #[] #[.pointer (some ⟨bb,0,none⟩),.pointer (some ⟨bt,0,none⟩),.pointer (some ⟨bn,0,none⟩)]∧(w.heap.size≤bb∧w.heap.size≤bt∧w.heap.size≤bn)∧gz w' bb 41 [.slice p m c]∧gz w' bt 35 [.int .u32 (t:Int)]∧gz w' bn 35 [.int .u32 (n:Int)]∧Ext No w w':=by
 refine gx func121 ?_
 have d:=Ext.refl No w
 refine ko (gw rfl fun r x h a i=> ?_)
 have j:=aA d.size h
 have d:=d.gb i
 have a:gz x r 35 ([.int .u32 (t:Int)]):=a
 refine gw rfl fun s y k b g=> ?_
 have l:=aA d.size k
 have a:=a.ga g
 have d:=d.gb g
 have b:gz y s 35 ([.int .u32 (n:Int)]):=b
 refine gw rfl fun u z o e f=> ?_
 have q:=aA d.size o
 have a:=a.ga f
 have b:=b.ga f
 have d:=d.gb f
 have e:gz z u 41 ([.slice p m c]):=e
 refine km rfl (jd rfl (j9 (gv rfl rfl ?_)))
 exact⟨u,r,s,rfl,⟨q,j,l⟩,e,a,b,d⟩
def xw3 (w u:World) (G:Nat→Prop) (q:Option Addr) (m c:Nat) (l:Bytes):Prop:=
  ux u q l∧m=l.length∧m≤c∧∀x off,q=some ⟨x,off,none⟩→w.heap.size≤x∧x<u.heap.size∧¬G x
theorem xw3.ga {w u u':World} {G:Nat→Prop} {q:Option Addr} {m c:Nat} {l:Bytes} (h:xw3 w u G q m c l) (hE:Ext No u u'):xw3 w u' G q m c l:=
 ⟨h.1.ga hE,h.2.1,h.2.2.1,fun x off e=>let⟨a,b,d⟩:=h.2.2.2 x off e;⟨a,aM b hE.size,d⟩⟩
theorem xw3.round {w u u':World} {G G2:Nat→Prop} {q:Option Addr} {m c:Nat} {l:Bytes} (h:xw3 w u G q m c l) (hE:Ext G u u') (hG:∀x,G2 x→G x∨u.heap.size≤x):xw3 w u' G2 q m c l:=
 ⟨h.1.ext hE fun x off e=>(h.2.2.2 x off e).2.2,h.2.1,h.2.2.1,fun x off e=>let⟨a,b,d⟩:=h.2.2.2 x off e;⟨a,aM b hE.size,Al d b hG⟩⟩
theorem yw2 {q:Option Addr} {l m sz x off:Nat} (h:u6 q l m sz=some ⟨x,off,none⟩) (hq:∀x off sp,q=some ⟨x,off,sp⟩→sp=none):∃off',q=some ⟨x,off',none⟩:=by
 unfold u6 at h
 split at h
 ·exact⟨off,h⟩
 cases q with
 |none=>cases h
 |some a=>
  obtain⟨b,off',sp⟩:=a
  obtain rfl:=hq _ _ _ rfl
  simp only[Option.map_some,bG] at h
  unfold Addr.add at h
  split at h
  ·simp at h;exact⟨off',by rw[h.1]⟩
  simp at h;exact⟨off',by rw[h.1]⟩
theorem slB_spot {w:World} {q:Option Addr} {l:Bytes} (h:ux w q l) (hl:l≠[]):∀x off sp,q=some ⟨x,off,sp⟩→sp=none:=fun x off sp e=>by
 rcases h.2 with h0|⟨b,o,h1,_⟩
 ·exact absurd (aZ h0) hl
 rw[h1] at e;simp at e;exact e.2.2.symm
theorem xw3.tail {w u:World} {G:Nat→Prop} {q:Option Addr} {m c:Nat} {l:Bytes} (h:xw3 w u G q m c l) (hl:l≠[]) {k:Nat} (hk:k≤m):xw3 w u G (u6 q k c 1) (m-k) (c-k) (l.drop k):=by
 obtain⟨d,g,i,j⟩:=h
 have b:=slB_spot d hl
 have f:=d.slice k m c hk i zo
 rw[bE,bE,uk,ui,aO za] at f
 refine⟨?_,by rw[aX];omega,by omega,fun x n e=> ?_⟩
 ·rw[ux,aX,←g];exact f
 obtain⟨a,o⟩:=yw2 e b
 exact j x a o
theorem xw3.head {w u:World} {G:Nat→Prop} {q:Option Addr} {m c:Nat} {l:Bytes} (h:xw3 w u G q m c l) {k:Nat} (hk:k≤m):ux u q (l.take k):=by
 obtain⟨b,d,e,f⟩:=h
 have a:=b.slice 0 k k (aJ _) (aD _) zo
 rw[jw,bB,cW,List.drop_zero,bE,ui] at a
 rw[ux,aL,bP zo]
 exact a
theorem wrap16 (n:Nat) (h:n<65536):IntKind.u16.wrap (n:Int)=(n:Int):=by rw[IntKind.wrap_u16];omega
theorem piece1_walk (w:World) {l bb bt bn t n c:Nat} {p:Option Addr} {b:Bytes} {F:Nat→Prop} {J Jx:Nat→(Nat→Prop)→World→Prop} (hCo:Cons prog l w.heap.size (kw b.length) (argB (vk t n b)) J Jx)
  (hbb:gz w bb 41 [.slice p b.length c]) (hbt:gz w bt 35 [.int .u32 (t:Int)]) (hbn:gz w bn 35 [.int .u32 (n:Int)]) (hs:ux w p b) (ht:t<4294967296) (hn:n<4294967296) (hb4:b.length≤40000) (hr:Rt w)
  (hF:¬F 0) (h0:J 0 F w):
  gn prog 178 [.func (.yield l) #[] #[],.pointer (some ⟨bb,0,none⟩),.pointer (some ⟨bt,0,none⟩),.pointer (some ⟨bn,0,none⟩)] w fun _ w'=>ItQ w F (kw b.length) J Jx w':=by
 have cb:=zx6 b.length
 refine gx func178 ?_
 have f:=Ext.refl F w
 have g:=h0
 have Y:=hCo.lt h0
 have cc:=hr.lt
 have cd:=hbb.lt
 have ce:=hbt.lt
 have cf:=hbn.lt
 refine gl (jr rfl 7 [qP 0,qP 1,qP 2,qP 4,(3,false),(5,false),qP 6] [] (No) zk fun w1 D cg=> ?_)
 have ao:=g
 have R:=hbb
 have Z:=hbt
 have a0:=hbn
 have ap:=hs
 have aq:=hr
 have ar:=f
 have g:=hCo.st g D fun _ e=>e.elim
 have hbb:=hbb.ga D
 have hbt:=hbt.ga D
 have hbn:=hbn.ga D
 have hs:=hs.ga D
 have hr:=Rt.ext hr D id
 have f:=f.gb D
 have r:Ext (No) _ w1:=D.no
 refine j3 gc rfl rfl (fun w' K=>((R.ga K).cell rfl)) ?_
 refine gt gc 2 rfl ?_
 rw[wrap32 b.length zo]
 refine j3 gc rfl rfl (fun w' K=>((R.ga K).cell rfl)) ?_
 have au:=f
 refine jo rfl (j1 call179 rfl (z9 w1 (l:=[]) (Sl.nil _ _ _) zd b.length zo) fun v2 w2 av=>⟨(by obtain⟨L,rfl,a9,aa,v⟩:=av;exact r.gb v),?_⟩)
 obtain⟨L,rfl,a9,aa,v⟩:=av
 have g:=hCo.st g v fun _ e=>e.elim
 have hbb:=hbb.ga v
 have hbt:=hbt.ga v
 have hbn:=hbn.ga v
 have hs:=hs.ga v
 have hr:=Rt.ext hr v id
 have f:=f.gb v
 have r:=r.gb v
 have c7:=aA au.size a9
 have aw:=Own.blk aa 1 (n:=4) (c:=4) (T:=5) (by rw[gm,cB,jy]) zd zd
 refine jo rfl (va gc rfl 1 1 rfl rfl rfl zd aw (Src.slice hs OneC.h) (by dsimp only[maxLen];simp only[jy,cB];omega) (by dsimp only;simp only[jy,cB];omega) fun pr cr w3 M N bg=>⟨r.trans N fun x X e=>by have:=own1 e;omega,?_⟩)
 have bh:bb≠L:=by omega
 have bi:bt≠L:=by omega
 have bj:bn≠L:=by omega
 have O:∀x,jb (some (⟨L,0,none⟩:Addr)) x→x=L:=fun x e=>by have e:some (⟨L,0,none⟩:Addr)=some ⟨x,0,none⟩:=e;simp at e;exact e.symm
 have f:=f.trans N fun x X e=>by have:=O x e;omega
 have g:=hCo.st g N fun x e=>by have:=O x e;exact⟨by omega,fun e=>by have:=Y _ e;omega⟩
 have hbb:=hbb.ext N fun e=>bh (O _ e)
 have hbt:=hbt.ext N fun e=>bi (O _ e)
 have hbn:=hbn.ext N fun e=>bj (O _ e)
 have hr:=Rt.ext hr N fun e=>by have:=O _ e;omega
 have a:xw3 w w3 F pr (4+b.length) cr (zj3 b):=by
  have M:Own w3 pr (4+b.length) cr 5 1 ((ge ([]++be 4 b.length)).take (4*1)++ge b):=M
  rw[cB,bE,ui,aO (by rw[jy];omega),←kz] at M
  have e1:4+b.length=(zj3 b).length:=by rw[bodyB_len];omega
  refine⟨by have:=M.sl;rw[e1] at this;exact this,e1,M.cap,fun x a4 e=> ?_⟩
  have X:jb pr x:=by
   rcases M with⟨h1,_⟩|⟨b',l',h1,_⟩
   ·rw[h1] at e;cases e
   rw[h1] at e;simp at e;obtain⟨rfl,rfl⟩:=e;exact h1
  have hw:w.heap.size≤x:=(bg x X).elim (fun h=>by have:=O x h;omega) fun h=>by have:=au.size;have:=v.size;omega
  exact⟨hw,M.lt X,fun e=>by have:=Y _ e;omega⟩
 have hs:=0
 dsimp only
 rw[show Value.slice pr (([]++be 4 b.length:List UInt8).length+b.length) cr= .slice pr (4+b.length) cr from by rw[cB,jy]]
 refine gt gc 1 rfl (jg (j5 (jp (ko (gu rfl (hbb.cell rfl) (j0 gc rfl (gh call65 rfl (xb w3 (b.length:Int)) fun v4 w4 bk=> ?_)))))))
 obtain⟨rfl,P⟩:=bk
 have g:=hCo.st g P fun _ e=>e.elim
 have hbb:=hbb.ga P
 have hbt:=hbt.ga P
 have hbn:=hbn.ga P
 have hr:=Rt.ext hr P id
 have a:=a.ga P
 have f:=f.gb P
 rw[B8]
 refine j0 gc rfl ?_
 rw[wrap16 _ zo]
 refine km rfl (gl (jr rfl 5 [qP 0,qP 2,(1,false),(3,false),qP 4] [] (No) zk fun w5 E ch=> ?_))
 have ao:=g
 have R:=hbb
 have Z:=hbt
 have a0:=hbn
 have ap:=hs
 have aq:=hr
 have ai:=a
 have ar:=f
 have g:=hCo.st g E fun _ e=>e.elim
 have hbb:=hbb.ga E
 have hbt:=hbt.ga E
 have hbn:=hbn.ga E
 have hr:=Rt.ext hr E id
 have a:=a.ga E
 have f:=f.gb E
 have r:Ext (No) _ w5:=E.no
 refine j3 gc rfl rfl (fun w' K=>((Z.ga K).cell rfl)) ?_
 refine j3 gc rfl rfl (fun w' K=>((a0.ga K).cell rfl)) ?_
 refine jo rfl (j1 call179 rfl (z9 w5 (l:=[]) (Sl.nil _ _ _) zd t ht) fun v6 w6 ax=>⟨(by obtain⟨bm,rfl,ay,ab,B⟩:=ax;exact r.gb B),?_⟩)
 obtain⟨bm,rfl,ay,ab,B⟩:=ax
 have g:=hCo.st g B fun _ e=>e.elim
 have hbb:=hbb.ga B
 have hbt:=hbt.ga B
 have hbn:=hbn.ga B
 have hr:=Rt.ext hr B id
 have a:=a.ga B
 have f:=f.gb B
 have r:=r.gb B
 have bo:=f
 refine jo rfl (j1 call179 rfl (z9 w6 ab.slB (by simp[jy]) n hn) fun v7 w7 az=>⟨(by obtain⟨a5,rfl,ac,a1,C⟩:=az;exact r.gb C),?_⟩)
 obtain⟨a5,rfl,ac,a1,C⟩:=az
 have g:=hCo.st g C fun _ e=>e.elim
 have hbb:=hbb.ga C
 have hbt:=hbt.ga C
 have hbn:=hbn.ga C
 have hr:=Rt.ext hr C id
 have a:=a.ga C
 have f:=f.gb C
 have r:=r.gb C
 have c8:=aA bo.size ac
 have d:gz w7 a5 5 (ge (be 4 t++be 4 n)):=by rw[cB] at a1;exact a1
 refine gt gc 1 rfl (jg (j5 (jp (jd rfl (j8 ?_)))))
 refine jj (α:=Nat×(Option Addr×Nat×Nat)×(Nat→Prop)) [0,6,7,24] rfl (fun z=>[(5,.slice z.2.1.1 z.2.1.2.1 z.2.1.2.2),(25,.int .u16 (z.1:Int))]) (fun z u=>(z.1≤kw b.length∧J z.1 z.2.2 u∧(∀x,z.2.2 x→F x∨w.heap.size≤x)∧xw3 w u z.2.2 z.2.1.1 z.2.1.2.1 z.2.1.2.2 ((zj3 b).drop (48*z.1))∧gz u a5 5 (ge (be 4 t++be 4 n))∧¬z.2.2 a5∧¬z.2.2 0∧Rt u)∧Ext F w u) (fun z u=>kw b.length-z.1) (0,(pr,4+b.length,cr),F) rfl ⟨⟨aJ _,g,fun x X=> .inl X,by rw[Nat.mul_zero,List.drop_zero];exact a,d,fun e=>by have:=Y _ e;omega,hF,hr⟩,f⟩ ?_
 rintro⟨k,⟨q,m,c⟩,G⟩ w8 ⟨⟨hk,g,hG,a,d,aj,ak,hr⟩,f⟩
 try dsimp only
 dsimp only at hk g hG a d aj ak
 have hm:=a.2.1
 have bp:=a.2.2.1
 have bq:=d.lt
 refine jd rfl (gl (jl rfl (fun hc=> ?_) (fun hc=> ?_)))
 ·have Q:k<kw b.length:=by omega
  have ci:=sect_le b hb4 Q
  rw[aX] at hm
  have cj:=bodyB_len b
  obtain⟨s,ck⟩:∃s,s=min m 48:=⟨_,rfl⟩
  have br:(zj3 b).drop (48*k)≠[]:=fun e=>by have:=congrArg List.length e;rw[aX] at this;simp at this;omega
  refine Ac (jd rfl (ki rfl ?_))
  rw[show(if 48<(m:Int) then(48:Int) else(m:Int))=(s:Int) from by split<;>omega]
  refine km rfl (gl (gl ?_))
  refine c_drawY 12 rfl 12 [qP 0,qP 1,qP 2,qP 4,qP 6,qP 7,qP 8,qP 9,(3,false),(5,false),(10,false),(11,false)] [] (No) zk zk [12,13] rfl fun w9 U cl=> ?_
  have ao:=g
  have R:=hbb
  have Z:=hbt
  have a0:=hbn
  have ap:=hs
  have aq:=hr
  have ai:=a
  have bs:=d
  have ar:=f
  have g:=hCo.st g U fun _ e=>e.elim
  have hr:=Rt.ext hr U id
  have a:=a.ga U
  have d:=d.ga U
  have f:=f.gb U
  have r:Ext (No) _ w9:=U.no
  refine gt gc 7 rfl (D8 gc rfl rfl 0 s s 1 rfl (.inl ⟨rfl,rfl⟩) (.inl rfl) (.inr ⟨rfl,rfl⟩) (aJ _) (aD _) zn ?_)
  dsimp only
  rw[jw,bB]
  refine jo rfl (j1 call91 rfl (Cu w9 d.slB (by simp[jy]) k zo) fun cm bu ad=>⟨(by obtain⟨bv,rfl,b0,ae,i⟩:=ad;exact r.gb i),?_⟩)
  obtain⟨bv,rfl,b0,ae,i⟩:=ad
  have g:=hCo.st g i fun _ e=>e.elim
  have hr:=Rt.ext hr i id
  have a:=a.ga i
  have d:=d.ga i
  have f:=f.gb i
  have r:=r.gb i
  have bw:=f
  have cn:=r.size
  have b1:=hCo.lt g
  have al:=a
  have bf:=d.lt
  have c9:=hr.lt
  refine jo rfl (j1 call91 rfl (Cu bu ae.slB (by simp[jy]) (kw b.length) zo) fun co bx af=>⟨(by obtain⟨V,rfl,ag,a2,j⟩:=af;exact r.gb j),?_⟩)
  obtain⟨V,rfl,ag,a2,j⟩:=af
  have g:=hCo.st g j fun _ e=>e.elim
  have hr:=Rt.ext hr j id
  have a:=a.ga j
  have d:=d.ga j
  have f:=f.gb j
  have r:=r.gb j
  have b2:=aA bw.size ag
  obtain⟨H,hH⟩:∃H,H=be 4 t++be 4 n++be 2 k++be 2 (kw b.length):=⟨_,rfl⟩
  rw[←hH] at a2⊢
  have bz:H.length=12:=by rw[hH];simp[jy]
  have b3:=Own.blk a2 1 (n:=H.length) (c:=H.length) (T:=5) (by rw[gm,bE]) (aD _) (by rw[bz];decide)
  have b4:(((zj3 b).drop (48*k)).take s).length=s:=by rw[aL,aX];omega
  have b5:Sl bx q s 1 (ge (((zj3 b).drop (48*k)).take s)):=by have e:=a.head (k:=s) zo;rw[ux,b4] at e;exact e
  have b6:¬G V:=fun e=>by have:=b1 V e;omega
  refine jo rfl (va gc rfl 1 1 rfl rfl rfl zd b3 (Src.slice b5 OneC.h) zm zn fun pa ca a6 a3 I cp=>⟨r.trans I fun x X e=>by have:=own1 e;omega,?_⟩)
  have W:∀x,jb (some (⟨V,0,none⟩:Addr)) x→x=V:=fun x e=>by have e:some (⟨V,0,none⟩:Addr)=some ⟨x,0,none⟩:=e;simp at e;exact e.symm
  have r:=r.trans I (S:=No) fun x X e=>by have:=W x e;omega
  have f:=f.trans I fun x X e=>by have:=W x e;omega
  have g:=hCo.st g I fun x e=>by have:=W x e;subst this;exact⟨b2,b6⟩
  have hr:=Rt.ext hr I fun e=>by have:=W _ e;omega
  have a:xw3 w a6 G q m c ((zj3 b).drop (48*k)):=by
   refine⟨a.1.ext I fun x a4 e h=> ?_,a.2.1,a.2.2.1,fun x a4 e=> ?_⟩
   ·have:=W x h
    have:=(al.2.2.2 x a4 e).2.1
    omega
   have h3:=a.2.2.2 x a4 e
   exact⟨h3.1,aM h3.2.1 I.size,h3.2.2⟩
  have d:=d.ext I fun e=>by have:=W _ e;omega
  have a3:Own a6 pa (H.length+s) ca 5 1 ((ge H).take (H.length*1)++ge (((zj3 b).drop (48*k)).take s)):=a3
  rw[bE,ui,aO (aD _),←kz] at a3
  obtain⟨A,hA⟩:∃A,A=H++((zj3 b).drop (48*k)).take s:=⟨_,rfl⟩
  rw[←hA] at a3
  have b7:A.length=H.length+s:=by rw[hA,aB,b4]
  have c0:ux a6 pa A:=by have e:=a3.sl;rw[←b7] at e;exact e
  dsimp only
  rw[←b7]
  refine jo rfl (j1 call180 rfl (sealed_calls a6 c0 zo hr) fun cq cs ah=>⟨(by obtain⟨rfl,o⟩:=ah;exact r.gb o),?_⟩)
  obtain⟨rfl,o⟩:=ah
  have g:=hCo.st g o fun _ e=>e.elim
  have hr:=Rt.ext hr o id
  have a:=a.ga o
  have d:=d.ga o
  have f:=f.gb o
  have r:=r.gb o
  have hP:sealB A=C1 t n b k:=by
   rw[hA,hH,C1]
   congr 2
   rcases Nat.le_total m 48 with h|h
   ·rw[aO za,aO za]
   rw[show s=48 from by omega]
  obtain⟨Pk,b8⟩:∃Pk,Pk=C1 t n b k:=⟨_,rfl⟩
  rw[hP,←b8]
  have am:argB (vk t n b) k= #[numB Pk]:=by rw[argB,xz3 t n b Q,b8]
  have b9:=hCo.round g Q
  rw[am] at b9
  refine jg (j5 (f_tail zk (wbi_yield rfl rfl rfl rfl rfl rfl rfl b9 fun y c1 hy=> ?_)))
  obtain⟨G2,a7,a8,c2,c3⟩:=hy
  have ct:=f.size
  have f:=f.trans a7 fun x X e=>(hG x e).resolve_right zo
  have ba:∀x,G2 x→F x∨w.heap.size≤x:=fun x X=>(a8 x X).elim (hG x) fun h=> .inr zo
  have a:=a.round a7 a8
  have c4:=d.lt
  have c5:=hr.lt
  have d:=d.ext a7 aj
  have hr:=Rt.ext hr a7 ak
  have bc:=Al aj c4 a8
  have bd:=Al ak c5 a8
  refine wbi (hF:= .none) rfl rfl (zx9 gc rfl rfl rfl (wbi_nil (jp (ud rfl (fun hc=> ?_) (fun hc=> ?_)))))
  ·have c6:=c3 (by simpa using hc)
   refine j9 (j7 (u1 (j7 (j7 (u1 (f_ret0 rfl ?_))))))
   exact⟨G2,f,ba,.inr ⟨k,Q,c6⟩⟩
  have g:=c2 (by simpa using hc)
  refine x3 (yl rfl (wl (zv gc rfl s m c 1 rfl (.inr ⟨rfl,rfl⟩) (.inr ⟨rfl,rfl⟩) (.inl rfl) zo bp (aD _) ?_)))
  dsimp only
  refine j0 gc rfl (gk (Aa rfl ?_))
  rw[show IntKind.u16.wrap ((k:Int)+1)=((k+1:Nat):Int) from wrap16 (k+1) zo]
  refine j0 gc rfl (gk ?_)
  have an:xw3 w c1 G2 (u6 q s c 1) (m-s) (c-s) ((zj3 b).drop (48*(k+1))):=by
   have e:=a.tail br (k:=s) zo
   rw[List.drop_drop] at e
   rcases Nat.le_total m 48 with h|h
   ·rw[bM zo] at e
    rw[bM zo]
    exact e
   rw[show 48*k+s=48*(k+1) from by omega] at e
   exact e
  exact jk (k+1,(u6 q s c 1,m-s,c-s),G2) rfl ⟨⟨Q,g,ba,an,d,bc,bd,hr⟩,f⟩ zf
 have Q:k=kw b.length:=by omega
 subst Q
 refine y8 (ql (ql (ve (z6 rfl ?_))))
 exact⟨G,f,hG,.inl g⟩
theorem xw1 (w:World) {bb bt bn t n c:Nat} {p:Option Addr} {b:Bytes} (hbb:gz w bb 41 [.slice p b.length c]) (hbt:gz w bt 35 [.int .u32 (t:Int)]) (hbn:gz w bn 35 [.int .u32 (n:Int)]) (hs:ux w p b) (ht:t<4294967296) (hn:n<4294967296) (hb4:b.length≤40000) (hr:Rt w):
  Iter prog 178 [.pointer (some ⟨bb,0,none⟩),.pointer (some ⟨bt,0,none⟩),.pointer (some ⟨bn,0,none⟩)] (kw b.length) (argB (vk t n b)) (fun x=>x=0) w:=
 fun _ _ _ _ hC h0 hown=>piece1_walk w hC hbb hbt hbn hs ht hn hb4 hr (hown 0 rfl) h0
abbrev DkQ (w:World) (d:Nat) (F:Nat→Prop) (D:ku) (w':World):Prop:=∃F':Nat→Prop,At w' d F' D∧Ext F w w'∧∀x,F' x→F x∨w.heap.size≤x
theorem dkWrite (w:World) {d m:Nat} {F:Nat→Prop} {D:ku} (h:At w d F D) (hok:D.Ok m) (hm:m+1<1000000000) (i:Int) {b:Bytes} (hb:b.length=64):
  gn prog 143 [.pointer (some ⟨d,0,none⟩),.int .i64 i,numB b] w fun v w'=>v= .int .i64 (D.write i b).2∧DkQ w d F (D.write i b).1 w':=
 (dk_write w h hok hm i hb).mono fun _ w' ⟨h1,h2,h3⟩=>⟨h1,_,h2,h3,fun _ hx=>hx.imp id fun h=>h.1⟩
theorem dkSync (w:World) {d m:Nat} {F:Nat→Prop} {D:ku} (h:At w d F D) (hok:D.Ok m) (hm:m+1<1000000000):
  gn prog 144 [.pointer (some ⟨d,0,none⟩)] w fun v w'=>v= .int .i64 D.sync.2∧DkQ w d F D.sync.1 w':=
 (dk_sync w h hok hm).mono fun _ _ ⟨h1,h2,h3⟩=>⟨h1,F,h2,h3,fun _=> .inl⟩
theorem dkRead (w:World) {d m:Nat} {F:Nat→Prop} {D:ku} (h:At w d F D) (hok:D.Ok m) (hm:m<1000000000) (i:Int):
  gn prog 78 [.pointer (some ⟨d,0,none⟩),.int .i64 i] w fun v w'=>v= .tuple #[numB (D.read i).2.1,.int .i64 (D.read i).2.2]∧At w' d F (D.read i).1∧Ext F w w':=by
 obtain⟨f,g,j,h⟩:=h
 exact(dk_read w h hok hm i).mono fun _ _ ⟨a,b,c⟩=>⟨a,⟨_,_,_,b⟩,c.mono fun x _ e=>by have e:x=d:=e;rw[e];exact h.own.1⟩
def PutJ (w0:World) (d n m b3 b4 b6:Nat) (at_:Int) (D0:ku) (L:List Bytes) (k:Nat) (z:(Nat→Prop)×ku) (u:World):Prop:=
  At u d z.1 z.2∧z.2.Ok (m+2*k)∧Br D0 at_ L=Br z.2 (at_+k) (L.drop k)∧(¬z.1 b3∧¬z.1 b4∧¬z.1 b6)∧gz u b3 155 [.pointer (some ⟨d,0,none⟩),.int .i64 n]∧gz u b4 3 [.int .i64 (at_+k)]∧∃e,gz u b6 38 [.int .i64 e]
def PutX (b3 b4 b6 d:Nat) (at_:Int) (D0:ku) (L:List Bytes) (c:Code) (z:(Nat→Prop)×ku) (u:World):Prop:=
  c= .ret∧At u d z.1 z.2∧(¬z.1 b3∧¬z.1 b4∧¬z.1 b6)∧(Br D0 at_ L).1=z.2∧(b4<u.heap.size∧b6<u.heap.size)∧gz u b6 38 [.int .i64 (Br D0 at_ L).2]
abbrev PutF (b4 b6:Nat) (z:(Nat→Prop)×ku):Nat→Prop:=fun x=>z.1 x∨x=b4∨x=b6
def putC (w w0:World) (d n m b3 b4 b6:Nat) (at_:Int) (D0:ku) (L:List Bytes) (h3:b3<w.heap.size):CoS ((Nat→Prop)×ku) w where
  Fp:=PutF b4 b6
  J:=PutJ w0 d n m b3 b4 b6 at_ D0 L
  Jx:=fun _ c z u=>PutX b3 b4 b6 d at_ D0 L c z u
  st:=by
    rintro k z S u u' ⟨h1,h2,h3',h4,h5,h6,e,h7⟩ hE hS
    exact⟨h1.ext hE fun x hx hs=>(hS x hs).2 (.inl hx),h2,h3',h4,h5.ext hE fun hs=>by have:=(hS _ hs).1;omega,h6.ext hE fun hs=>(hS _ hs).2 (.inr (.inl rfl)),e,h7.ext hE fun hs=>(hS _ hs).2 (.inr (.inr rfl))⟩
  stx:=by
    rintro k c z S u u' ⟨h1,h2,h3',h4,h5,h6⟩ hE hS
    exact⟨h1,h2.ext hE fun x hx hs=>(hS x hs).2 (.inl hx),h3',h4,⟨aM h5.1 hE.size,aM h5.2 hE.size⟩,h6.ext hE fun hs=>(hS _ hs).2 (.inr (.inr rfl))⟩
  lt:=by
    rintro k z u ⟨h1,h2,h3',h4,h5,h6,e,h7⟩ x hx
    rcases hx with hx|rfl|rfl
    ·exact h1.lt x hx
    ·exact h6.lt
    ·exact h7.lt
  ltx:=by
    rintro k c z u ⟨h1,h2,h3',h4,h5,h6⟩ x hx
    rcases hx with hx|rfl|rfl
    ·exact h2.lt x hx
    ·exact h5.1
    ·exact h5.2
theorem A3 {F F' G:Nat→Prop} {u w:World} (h:∀x,G x→F x∨w.heap.size≤x) (hs:w.heap.size≤u.heap.size) (h':∀x,F' x→G x∨u.heap.size≤x):∀x,F' x→F x∨w.heap.size≤x:=fun x hx=>(h' x hx).elim (h x) fun e=> .inr (aA hs e)
theorem xx7 (w:World) {d m gf n:Nat} {F own:Nat→Prop} {D:ku} {cap:Array Value} {L:List Bytes} (h:At w d F D) (hok:D.Ok m) (hm:m+2*L.length+3<1000000000) (at_:Int) (hat: -1000000000≤at_∧at_≤1000000000) (hL64:∀b∈L,b.length=64)
  (hcf:∀args w,(callFunc gf args).run prog w= .ok (.enter gf args) w) (hit:∀w1,Ext No w w1→Iter prog gf cap.toList L.length (argB L) own w1) (hown:∀x,own x→x<w.heap.size∧¬F x):
  gn prog 71 [.agg #[.pointer (some ⟨d,0,none⟩),.int .i64 (n:Int)],.int .i64 at_,.func (.func gf) #[] cap] w fun v w'=>v= .int .i64 (Br D at_ L).2∧DkQ w d F (Br D at_ L).1 w':=by
 refine Db func71 rfl rfl rfl rfl ?_
 have hX:=Ext.refl F w
 have hFlt:=h.lt
 have hN0:=Ext.refl No w
 refine ko (gw rfl fun b3 w1 hn3 hb3 hE1=> ?_)
 have fr3:=aA hX.size hn3
 have h:=h.ga hE1
 have hN0:=hN0.gb hE1
 have hX:=hX.gb hE1
 have hb3:gz w1 b3 155 ([.pointer (some ⟨d,0,none⟩),.int .i64 (n:Int)]):=hb3
 refine gw rfl fun b4 w2 hn4 hb4 hE2=> ?_
 have ne3_4:=j2 hb3.lt hn4
 have fr4:=aA hX.size hn4
 have hb3:=hb3.ga hE2
 have h:=h.ga hE2
 have hN0:=hN0.gb hE2
 have hX:=hX.gb hE2
 have hb4:gz w2 b4 3 ([.int .i64 at_]):=hb4
 refine gw rfl fun b6 w3 hn6 hb6 hE3=> ?_
 have ne3_6:=j2 hb3.lt hn6
 have ne4_6:=j2 hb4.lt hn6
 have fr6:=aA hX.size hn6
 have hb3:=hb3.ga hE3
 have hb4:=hb4.ga hE3
 have h:=h.ga hE3
 have hN0:=hN0.gb hE3
 have hX:=hX.gb hE3
 have hb6:gz w3 b6 38 ([.int .i64 0]):=hb6
 refine qq (gl (jd rfl (j8 ?_)))
 have hF3:¬F b3:=fun e=>by have:=hFlt _ e;omega
 have hF4:¬F b4:=fun e=>by have:=hFlt _ e;omega
 have hF6:¬F b6:=fun e=>by have:=hFlt _ e;omega
 have hwX:=hX
 have hwXs:=hX.size
 have l3:=hb3.lt
 have l4:=hb4.lt
 have l6:=hb6.lt
 refine c_iter (putC w3 w d n m b3 b4 b6 at_ D L hb3.lt) (F,D) rfl hcf rfl (fun _=>rfl) (fun w1 hE1=>hit w1 (hN0.gb hE1)) (fun x hx=>by have:=hown x hx;exact⟨by omega,fun e=>by rcases e with e|e|e;exact this.2 e;omega;omega⟩) ⟨h,hok,by simp,⟨hF3,hF4,hF6⟩,hb3,by simpa using hb4,0,hb6⟩ (fun l DD r k z W hRd hJ hk=> ?_) (fun DD z W hJ hE hsub hDn hmk hnd=> ?_) (fun DD k c z W hk hJ hE hsub hDn hmk hnd=> ?_)
 ·have hLr:=hRd.l
  obtain⟨G,D2⟩:=z
  obtain⟨hA,hok2,hlay,⟨hG3,hG4,hG6⟩,hb3,hb4,e0,hb6⟩:=hJ
  dsimp only at hA hok2 hlay hG3 hG4 hG6
  have hGl:¬G l:=fun e=>(hRd.fp _ (.inl e)).1 rfl
  have hGlt:=hA.lt
  obtain⟨Bk,hBk⟩:∃Bk,Bk=L.getD k []:=⟨_,rfl⟩
  have hB64:Bk.length=64:=by rw[hBk];have:=hL64 (L[k]) (aG hk);simpa [hk] using this
  rw[show argB L k= #[numB Bk] from by rw[argB,hBk]]
  have hW3:=hb3.lt
  have hW4:=hb4.lt
  have hW6:=hb6.lt
  have ne4_3:=ne3_4.symm
  have nl3:=hb3.neL hLr
  have nl4:=hb4.neL hLr
  have nl6:=hb6.neL hLr
  have hX:Ext (fun x=>PutF b4 b6 (G,D2) x∨x=l) W W:=Ext.refl _ _
  refine yz (wli (.round _) rfl (Ba gc rfl fun b7 w4 hn7 hb7 hE4=> ?_))
  have ne3_7:=j2 hb3.lt hn7
  have ne4_7:=j2 hb4.lt hn7
  have ne6_7:=j2 hb6.lt hn7
  have fr7:=aA hX.size hn7
  have hb3:=hb3.ga hE4
  have hb4:=hb4.ga hE4
  have hb6:=hb6.ga hE4
  have hA:=hA.ga hE4
  have hLr:=zz hLr hE4 id
  have hX:=hX.gb hE4
  have nl7:=hb7.neL hLr
  have hG7:¬G b7:=fun e=>by have:=hGlt _ e;omega
  refine wli (.round _) rfl (j4 (l':=ge Bk) gc hb7 rfl rfl (by rw[gm,hB64]) (by rw[gm,hB64];rfl) OneC.h fun w5 hb7 hE5 hs5=> ?_)
  have hb3:=hb3.gj hE5 ne3_7
  have hb4:=hb4.gj hE5 ne4_7
  have hb6:=hb6.gj hE5 ne6_7
  have hA:=hA.ext hE5 fun x hx e=>by have e:x=b7:=e;subst e;exact hG7 hx
  have hLr:=zz hLr hE5 nl7.symm
  have hX:=hX.gi hE5 fr7
  refine Ah (fin_begin hRd hLr fun w6 hE6 hL6=> ?_)
  have hb3:=hb3.extL hLr hE6
  have hb4:=hb4.extL hLr hE6
  have hb6:=hb6.extL hLr hE6
  have hb7:=hb7.extL hLr hE6
  have hA:=hA.ext hE6 fun x hx e=>by have e:x=l:=e;subst e;exact hGl hx
  have hLr:=hL6
  have hX:=hX.then (hE6.mono fun x _ e=> .inr e)
  refine ci_block (xx1 (xx1 (yz (yx4 gc rfl (wli (.round _) rfl (st_ldb gc hb3 rfl rfl (wli (.round _) rfl (st_ldb gc hb4 rfl rfl (wli (.round _) rfl (st_ldB gc hb7 rfl (by rw[gm,hB64]) ?_))))))))))
  have hX4:=hX.size
  have l3:=hb3.lt
  have l4:=hb4.lt
  have l6:=hb6.lt
  have l7:=hb7.lt
  have hstep:=layD_step hk D2 at_
  rw[←hlay,←hBk] at hstep
  refine wli (.round _) rfl (j1 call143 rfl (dkWrite w6 hA hok2 zo (at_+k) hB64) fun v7 w7 hr7=> ?_)
  obtain⟨rfl,G2,hA2,hE7,hGs⟩:=hr7
  have hb3:=hb3.ext hE7 hG3
  have hb4:=hb4.ext hE7 hG4
  have hb6:=hb6.ext hE7 hG6
  have hb7:=hb7.ext hE7 hG7
  have hLr:=zz hLr hE7 hGl
  have hX:=hX.then (hE7.mono fun x _ e=> .inl (.inl e))
  have hG3:=Al hG3 l3 hGs
  have hG4:=Al hG4 l4 hGs
  have hG6:=Al hG6 l6 hGs
  have hG7:=Al hG7 l7 hGs
  have hA:=hA2
  have hok3:=hok2.write (at_+k) hB64
  have hFs:∀(D':ku) x,PutF b4 b6 (G2,D') x→PutF b4 b6 (G,D2) x∨W.heap.size≤x:=fun D' x hx=>by
   rcases hx with hx|hx
   ·exact(hGs x hx).elim (fun h=> .inl (.inl h)) fun h=> .inr (aA hX4 h)
   exact .inl (.inr hx)
  refine yx4 gc rfl (Ah (zz2 (xx1 (yz (yx4 gc rfl (Ah (zz2 (ci_if rfl (fun hc=> ?_) (fun hc=> ?_)))))))))
  ·rw[aR hc] at hstep
   refine xx1 (yz (yx4 gc rfl (wli (.round _) rfl (yi gc hb6 rfl rfl rfl fun w8 hb6 hE8 hs8=> ?_))))
   have hb3:=hb3.gj hE8 ne3_6
   have hb4:=hb4.gj hE8 ne4_6
   have hb7:=hb7.gj hE8 ne6_7.symm
   have hA:=hA.ext hE8 fun x hx e=>by have e:x=b6:=e;subst e;exact hG6 hx
   have hLr:=zz hLr hE8 nl6.symm
   have hX:=hX.then (hE8.mono fun x _ e=>by have e:x=b6:=e;subst e;exact(.inl (.inr (.inr rfl))))
   refine Ah (zz2 (ci_ret ?_))
   exact j7 (u1 (fin_stop (.inl ⟨rfl,rfl⟩) (G2,(D2.write (at_+k) Bk).1) hRd hLr hX (hFs _) (⟨rfl,hA,⟨hG3,hG4,hG6⟩,by rw[hstep],⟨hb4.lt,hb6.lt⟩,by rw[hstep];exact hb6⟩)))
  rw[aP hc] at hstep
  refine ci_skip (zz2 (yz (wli (.round _) rfl (st_ldb gc hb4 rfl rfl (yx4 gc rfl ?_)))))
  rw[jz _ zo]
  refine wli (.round _) rfl (yi gc hb4 rfl rfl rfl fun w9 hb4 hE9 hs9=> ?_)
  have hb3:=hb3.gj hE9 ne3_4
  have hb6:=hb6.gj hE9 ne4_6.symm
  have hb7:=hb7.gj hE9 ne4_7.symm
  have hA:=hA.ext hE9 fun x hx e=>by have e:x=b4:=e;subst e;exact hG4 hx
  have hLr:=zz hLr hE9 nl4.symm
  have hX:=hX.then (hE9.mono fun x _ e=>by have e:x=b4:=e;subst e;exact(.inl (.inr (.inl rfl))))
  refine Ah ?_
  exact js (fin_next (G2,(D2.write (at_+k) Bk).1) hRd hLr hX (hFs _) (⟨hA,by rw[show m+2*(k+1)=m+2*k+2 from by omega];exact hok3,hstep,⟨hG3,hG4,hG6⟩,hb3,by rw[show(at_+((k+1:Nat):Int))=at_+k+1 from by omega];exact hb4,_,hb6⟩))
 ·obtain⟨G,D2⟩:=z
  obtain⟨hA,hok2,hlay,⟨hG3,hG4,hG6⟩,hb3,hb4,e0,hb6⟩:=hJ
  dsimp only at hA hok2 hlay hG3 hG4 hG6
  rw[List.drop_length] at hlay
  have hX:Ext F w W:=hX.trans hE fun x hx e=>by rcases e with e|rfl|rfl;exact e;omega;omega
  have nd3:b3≠DD:=by omega
  have nd6:b6≠DD:=hnd _ (.inr (.inr rfl))
  have hGD:¬G DD:=fun e=>hnd _ (.inl e) rfl
  have hGF:∀x,G x→F x∨w.heap.size≤x:=fun x hx=>(hsub x (.inl hx)).elim (fun e=>by rcases e with e|rfl|rfl;exact .inl e;omega;omega) fun e=> .inr zo
  have hDl:=uw hmk
  refine js (jp (ki rfl (j6 hb3 rfl rfl ?_)))
  have hX4:=hX.size
  have l6:=hb6.lt
  refine gh call144 rfl (dkSync W hA hok2 zo) fun v10 w10 hr10=> ?_
  obtain⟨rfl,G2,hA2,hE10,hGs⟩:=hr10
  have hb3:=hb3.ext hE10 hG3
  have hb6:=hb6.ext hE10 hG6
  have hmk:=zz hmk hE10 hGD
  have hX:=hX.trans hE10 fun x hx e=>(hGF x e).resolve_right zo
  have hG6:=Al hG6 l6 hGs
  have hA:=hA2
  have hG3:=A3 hGF hX4 hGs
  refine kl hb6 rfl rfl rfl fun w11 hb6 hE11 hs11=> ?_
  have hb3:=hb3.gj hE11 ne3_6
  have hmk:=zz hmk hE11 nd6.symm
  have hA:=hA.ext hE11 fun x hx e=>by have e:x=b6:=e;subst e;exact hG6 hx
  have hX:=hX.gi hE11 fr6
  refine qq (j9 (De [DD] zp (fun x hx=>by rw[aI.1 hx];exact hmk) [.int .i64 D2.sync.2] (fun w20 hE20=> ?_) (.inl rfl)))
  refine⟨⟨⟨b6,0,rfl,zx3 gc rfl rfl ((hb6.ext hE20 (fun e=>nd6 (aI.1 e))).cell rfl)⟩,trivial⟩,?_⟩
  rw[hlay]
  exact⟨rfl,G2,hA.ext hE20 fun x hx e=>by rw[aI.1 e] at hx;exact(hGs DD hx).elim hGD fun h=>by omega,hX.trans hE20 fun x hx e=>by rw[aI.1 e] at hx;omega,hG3⟩
 obtain⟨G,D2⟩:=z
 obtain⟨rfl,hA,⟨hG3,hG4,hG6⟩,hlay,⟨hl4,hl6⟩,hb6⟩:=hJ
 dsimp only at hA hlay hG3 hG4 hG6
 have hX:Ext F w W:=hX.trans hE fun x hx e=>by rcases e with e|rfl|rfl;exact e;omega;omega
 have nd6:b6≠DD:=hnd _ (.inr (.inr rfl))
 have hGD:¬G DD:=fun e=>hnd _ (.inl e) rfl
 have hGF:∀x,G x→F x∨w.heap.size≤x:=fun x hx=>(hsub x (.inl hx)).elim (fun e=>by rcases e with e|rfl|rfl;exact .inl e;omega;omega) fun e=> .inr zo
 refine j9 (u1 (j7 (De [DD] zp (fun x hx=>by rw[aI.1 hx];exact hmk) [.int .i64 (Br D at_ L).2] (fun w20 hE20=> ?_) (.inl rfl))))
 refine⟨⟨⟨b6,0,rfl,zx3 gc rfl rfl ((hb6.ext hE20 (fun e=>nd6 (aI.1 e))).cell rfl)⟩,trivial⟩,?_⟩
 exact⟨rfl,G,by rw[hlay];exact hA.ext hE20 fun x hx e=>by rw[aI.1 e] at hx;exact hGD hx,hX.trans hE20 fun x hx e=>by rw[aI.1 e] at hx;omega,hGF⟩
theorem begin_calls (w:World) {d m n t c:Nat} {F:Nat→Prop} {D:ku} {p:Option Addr} {b:Bytes} (h:At w d F D) (hok:D.Ok m) (hm:m+2000<1000000000) (hn:n<1000000) (ht:t<4294967296) (hs:ux w p b) (hbl:b.length≤40000) (hr:Rt w) (hF0:¬F 0):
  gn prog 73 [.agg #[.pointer (some ⟨d,0,none⟩),.int .i64 (n:Int)],.int .u32 (t:Int),.slice p b.length c] w fun v w'=>v= .int .i64 (Av D t n b).2∧DkQ w d F (Av D t n b).1 w':=by
 refine gx func73 ?_
 have hX:=Ext.refl F w
 have hFlt:=h.lt
 have hsl:=zx6 b.length
 have hr0:=hr.lt
 refine ko (gw rfl fun b3 w1 hn3 hb3 hE1=> ?_)
 have fr3:=aA hX.size hn3
 have h:=h.ga hE1
 have hs:=hs.ga hE1
 have hr:=Rt.ext hr hE1 id
 have hX:=hX.gb hE1
 have hb3:gz w1 b3 155 ([.pointer (some ⟨d,0,none⟩),.int .i64 (n:Int)]):=hb3
 refine gw rfl fun b4 w2 hn4 hb4 hE2=> ?_
 have ne3_4:=j2 hb3.lt hn4
 have fr4:=aA hX.size hn4
 have hb3:=hb3.ga hE2
 have h:=h.ga hE2
 have hs:=hs.ga hE2
 have hr:=Rt.ext hr hE2 id
 have hX:=hX.gb hE2
 have hb4:gz w2 b4 35 ([.int .u32 (t:Int)]):=hb4
 have hF3:¬F b3:=fun e=>by have:=hFlt _ e;omega
 have hF4:¬F b4:=fun e=>by have:=hFlt _ e;omega
 refine km rfl (gl (gl (jr rfl 9 [qP 0,qP 1,qP 2,qP 4,qP 5,(3,false),(6,false),(7,false),qP 8] [] (F) zk fun w3 hE3 hs3=> ?_)))
 have hd3:=hb3
 have hd4:=hb4
 have hd:=h
 have hsd:=hs
 have hrd:=hr
 have hXd:=hX
 have hb3:=hb3.ga hE3
 have hb4:=hb4.ga hE3
 have h:=h.ga hE3
 have hs:=hs.ga hE3
 have hr:=Rt.ext hr hE3 id
 have hX:=hX.gb hE3
 have hC:Ext (F) _ w3:=hE3.no
 refine qa gc rfl rfl (fun w' hw'=>((hd3.ext hw' hF3).kj)) rfl ?_
 refine qa gc rfl rfl (fun w' hw'=>((hd3.ext hw' hF3).kj)) rfl ?_
 refine j3 gc rfl rfl (fun w' hw'=>((hd4.ext hw' hF4).cell rfl)) ?_
 refine j3 gc rfl rfl (fun w' hw'=>((hd4.ext hw' hF4).cell rfl)) ?_
 refine gt gc 1 rfl (jo rfl (j1 call120 rfl (yx8 w3 (.pointer (some ⟨d,0,none⟩)) n t zo ht rfl) fun v4 w4 hr4=>⟨(by obtain⟨rfl,hE4⟩:=hr4;exact hC.gb hE4),?_⟩))
 obtain⟨rfl,hE4⟩:=hr4
 have hb3:=hb3.ga hE4
 have hb4:=hb4.ga hE4
 have h:=h.ga hE4
 have hs:=hs.ga hE4
 have hr:=Rt.ext hr hE4 id
 have hX:=hX.gb hE4
 have hC:=hC.gb hE4
 refine jo rfl (j1 call121 rfl (yv8 w4 t 0 (p:=p) (m:=b.length) (c:=c)) fun v5 w5 hr5=>⟨(by obtain⟨bb,bt,bn,rfl,hnn,hbb,hbt,hbn,hE5⟩:=hr5;exact hC.gb hE5),?_⟩)
 obtain⟨bb,bt,bn,rfl,hnn,hbb,hbt,hbn,hE5⟩:=hr5
 have hb3:=hb3.ga hE5
 have hb4:=hb4.ga hE5
 have h:=h.ga hE5
 have hs:=hs.ga hE5
 have hr:=Rt.ext hr hE5 id
 have hX:=hX.gb hE5
 have hC:=hC.gb hE5
 have hX1:=hX.size
 have l3:=hb3.lt
 have l4:=hb4.lt
 refine jo rfl (j1 call71 rfl (xx7 w5 (n:=n) (L:=vk t 0 b) (own:=fun x=>x=0) h hok (by rw[xc];omega) (uj t n:Int) (by unfold uj;split<;>omega) (zq5 t 0 b) call178 (fun w1 hE1=>by rw[xc];exact xw1 w1 (hbb.ga hE1) (hbt.ga hE1) (hbn.ga hE1) (hs.ga hE1) ht zd hbl (hr.ext hE1 id)) (fun x e=>by subst e;exact⟨aM hr0 (by have:=hX.size;omega),hF0⟩)) fun v6 w6 hr6=>⟨(by obtain⟨rfl,F2,h2,hE6,hF2⟩:=hr6;exact hC.then hE6),?_⟩)
 obtain⟨rfl,F2,h2,hE6,hF2⟩:=hr6
 have hb3:=hb3.ext hE6 hF3
 have hb4:=hb4.ext hE6 hF4
 have hX:=hX.then hE6
 have hC:=hC.then hE6
 have hF3:=Al hF3 l3 hF2
 have hF4:=Al hF4 l4 hF2
 have hr:=Rt.ext hr hE6 hF0
 have hF0:=Al hF0 zo hF2
 obtain⟨y,hy⟩:∃y,y=Br D (uj t n) (vk t 0 b):=⟨_,rfl⟩
 have hyo:=yx7 (vk t 0 b) (uj t n:Int) hok (zq5 t 0 b)
 rw[xc] at hyo
 have hbe:Av D t n b=if y.2≠0 then y else Br y.1 ((t%2:Nat):Int) [yv3 t n]:=by rw[hy];rfl
 rw[←hy] at h2 hyo⊢
 rw[hbe]
 have hF2:=A3 (fun x=> .inl) hX1 hF2
 refine gt gc 1 rfl (jg (j5 (jp (jd rfl (jl rfl (fun hc=> ?_) (fun hc=> ?_))))))
 ·rw[aR hc]
  refine jd rfl (j9 (j7 (gv rfl rfl ?_)))
  exact⟨rfl,F2,h2,hX,hF2⟩
 rw[aP hc]
 refine x3 (ko (je hb3 rfl rfl (j6 hb4 rfl rfl (j0 gc rfl ?_))))
 rw[and1 t ht]
 refine j0 gc rfl ?_
 rw[jz ((t%2:Nat):Int) zo]
 refine j0 gc rfl ?_
 have hX2:=hX.size
 have hHl:=Dn t n
 have hbi:=fun w1 (hE1:Ext No w6 w1)=>begin1_iter w1 (hb3.ga hE1) (hb4.ga hE1) rfl zo ht (hr.ext hE1 id)
 generalize yv3 t n=Hd at hHl hbi⊢
 refine gh call71 rfl (xx7 w6 (n:=n) (L:=[Hd]) (own:=fun x=>x=b3∨x=b4∨x=0) h2 hyo zc ((t%2:Nat):Int) zo (fun x hx=>by rw[aI.1 hx];exact hHl) call146 hbi (fun x e=>by rcases e with rfl|rfl|rfl;exact⟨hb3.lt,hF3⟩;exact⟨hb4.lt,hF4⟩;exact⟨hr.lt,hF0⟩)) fun v7 w7 hr7=> ?_
 obtain⟨rfl,F4,h4,hE7,hF4s⟩:=hr7
 have hX:=hX.trans hE7 fun x hx e=>(hF2 x e).resolve_right zo
 refine vr rfl (gv rfl rfl ?_)
 exact⟨rfl,F4,h4,hX,A3 hF2 hX2 hF4s⟩
def yq (u:World) (H:Nat→Prop) (v:Value) (b:Bytes):Prop:=∃p c,v= .slice p b.length c∧b.length≤c∧ux u p b∧∀y off,p=some ⟨y,off,none⟩→H y∧TyB u y 5
theorem yq.ext {S H:Nat→Prop} {u u':World} {v:Value} {b:Bytes} (h:yq u H v b) (hE:Ext S u u') (hS:∀y,H y→TyB u y 5→¬S y):yq u' H v b:=by
 obtain⟨p,c,f,g,i,d⟩:=h
 exact⟨p,c,f,g,i.ext hE fun y a e=>hS y (d y a e).1 (d y a e).2,fun y a e=>⟨(d y a e).1,(d y a e).2.ext hE (hS y (d y a e).1 (d y a e).2)⟩⟩
theorem yq.mono {H H':Nat→Prop} {u:World} {v:Value} {b:Bytes} (h:yq u H v b) (hH:∀y,H y→H' y):yq u H' v b:=by
 obtain⟨p,c,h1,h2,h3,h4⟩:=h
 exact⟨p,c,h1,h2,h3,fun y off e=>⟨hH y (h4 y off e).1,(h4 y off e).2⟩⟩
def qr (u:World) (H:Nat→Prop) (ps:List Bytes) (rows:List Value):Prop:=rows.length=ps.length∧∀(i:Nat) (b:Bytes) (v:Value),ps[i]? =some b→rows[i]? =some v→yq u H v b
theorem qr.ext {S H:Nat→Prop} {u u':World} {ps:List Bytes} {rows:List Value} (h:qr u H ps rows) (hE:Ext S u u') (hS:∀y,H y→TyB u y 5→¬S y):qr u' H ps rows:=⟨h.1,fun i b v h1 h2=>(h.2 i b v h1 h2).ext hE hS⟩
theorem qr.mono {H H':Nat→Prop} {u:World} {ps:List Bytes} {rows:List Value} (h:qr u H ps rows) (hH:∀y,H y→H' y):qr u H' ps rows:=⟨h.1,fun i b v h1 h2=>(h.2 i b v h1 h2).mono hH⟩
theorem qr.one {u:World} {H:Nat→Prop} {ps:List Bytes} {rows:List Value} (h:qr u H ps rows):∀v∈rows,v.oneCell'=true:=fun v hv=>by
 obtain⟨i,hi,rfl⟩:=bJ.1 hv
 obtain⟨p,c,e,_⟩:=h.2 i (ps[i]'(by rw[←h.1];exact hi)) rows[i] zp zp
 rw[e];rfl
theorem qr.snoc {u:World} {H:Nat→Prop} {ps:List Bytes} {rows:List Value} (h:qr u H ps rows) {b:Bytes} {v:Value} (hv:yq u H v b):qr u H (ps++[b]) (rows++[v]):=by
 refine⟨by simp[h.1],fun i e f a c=> ?_⟩
 rcases bF i ps.length with d|d
 ·rw[cT d] at a
  rw[cT (by rw[h.1];exact d)] at c
  exact h.2 i e f a c
 rw[cJ d] at a
 rw[cJ (by rw[h.1];exact d),h.1] at c
 have g:i-ps.length=0:=by
  have:=(cY.1 a).1
  simp at this;omega
 rw[g] at a c
 simp at a c
 subst a c
 exact hv
theorem qr.drop {u:World} {H:Nat→Prop} {ps:List Bytes} {rows:List Value} (h:qr u H ps rows) (k:Nat):qr u H (ps.drop k) (rows.drop k):=
 ⟨by simp[h.1],fun i b v h1 h2=>h.2 (k+i) b v (by rw[List.getElem?_drop] at h1;exact h1) (by rw[List.getElem?_drop] at h2;exact h2)⟩
theorem qr.get {u:World} {H:Nat→Prop} {ps:List Bytes} {rows:List Value} (h:qr u H ps rows) {i:Nat} (hi:i<ps.length):∃p c,rows[i]? =some (.slice p (ps[i]).length c)∧(ps[i]).length≤c∧ux u p ps[i]∧∀y off,p=some ⟨y,off,none⟩→H y∧TyB u y 5:=by
 obtain⟨p,c,e,a⟩:=h.2 i ps[i] (rows[i]'(by rw[h.1];exact hi)) zp zp
 exact⟨p,c,by rw[←e];simp,a⟩
structure ye (u:World) (x d:Nat) (H:Nat→Prop) (W:Wl):Prop where
  box:∃q c rows,gz u x 162 [.pointer (some ⟨d,0,none⟩),.int .i64 (W.size:Int),.int .u32 (W.turn:Int),.slice q W.pieces.length c,.int .i64 (W.used:Int),.bool W.broken]∧Own u q W.pieces.length c 41 1 rows∧qr u H W.pieces rows∧∀y,jb q y→H y
  own:H x
  lt:∀y,H y→y<u.heap.size
theorem ye.ext {S H:Nat→Prop} {u u':World} {x d:Nat} {W:Wl} (h:ye u x d H W) (hE:Ext S u u') (hS:∀y,H y→¬S y):ye u' x d H W:=by
 obtain⟨⟨q,c,a,g,i,j,e⟩,f,k⟩:=h
 exact⟨⟨q,c,a,g.ext hE (hS x f),i.ext hE fun y b=>hS y (e y b),j.ext hE fun y b _=>hS y b,e⟩,f,fun y b=>aM (k y b) hE.size⟩
theorem ye.ga {H:Nat→Prop} {u u':World} {x d:Nat} {W:Wl} (h:ye u x d H W) (hE:Ext No u u'):ye u' x d H W:=h.ext hE fun _ _=>id
theorem ye.data {H:Nat→Prop} {u:World} {x d:Nat} {W W':Wl} (h:ye u x d H W) (h1:W'.size=W.size) (h2:W'.turn=W.turn) (h3:W'.pieces=W.pieces) (h4:W'.used=W.used) (h5:W'.broken=W.broken):ye u x d H W':=by
 obtain⟨a,b,c⟩:=h
 exact⟨by rw[h1,h2,h3,h4,h5];exact a,b,c⟩
structure Wl.Ok (W:Wl):Prop where
  size:4≤W.size∧W.size≤1000
  secs:2+2*W.size≤W.D.secs.length
  turn:W.turn<4294967296
  some:W.pieces≠[]
  short:∀b∈W.pieces,b.length≤40000
  few:W.pieces.length≤W.size
  used:W.used=ug W.pieces
  room:W.used≤W.size
theorem cloneB_nil (w:World) {c:Nat}:
  gn prog 35 [.slice none 0 c] w fun v w'=>∃q k,v= .slice q 0 k∧Own w' q 0 k 5 1 []∧(∀y,jb q y→w.heap.size≤y)∧Ext No w w':=by
 refine gx func35 ?_
 have a:=Ext.refl No w
 refine jd rfl (gl (jd rfl (Cl rfl (jd rfl (j9 (j7 (gv rfl rfl ?_)))))))
 exact⟨none,0,rfl,Own.nil _ _ _,fun y b=>(by cases b),a⟩
theorem cloneB_some (w:World) {a:Addr} {c:Nat} {l:Bytes} (h:ux w (some a) l) (hl:l.length<1000000000):
  gn prog 35 [.slice (some a) l.length c] w fun v w'=>∃q k,v= .slice q l.length k∧Own w' q l.length k 5 1 (ge l)∧(∀y,jb q y→w.heap.size≤y)∧Ext No w w':=by
 refine gx func35 ?_
 have b:=Ext.refl No w
 refine jd rfl (gl (jd rfl (up rfl (x3 (ko ?_)))))
 refine wl (qi gc rfl 1 rfl rfl rfl zd zd trivial (l':=[]) rfl fun A B r f d s=> ?_)
 have b:=b.gb d
 refine j0 gc rfl ?_
 refine wl (va gc rfl 1 1 rfl rfl rfl zd (Own.blk (n:=0) (c:=0) f 1 rfl (aD _) zd) (Src.slice (h.ga b) OneC.h) zm zn fun p t u g i j=> ?_)
 have b:=b.trans i fun y C m=>by have:=own1 m;omega
 have o:∀x,jb p x→w.heap.size≤x:=fun x z=>(j x z).elim (fun m=>by have:=own1 m;omega) fun h=>by have:=d.size;omega
 have e:Own u p (0+l.length) t 5 1 (ge l):=g
 rw[bD] at e
 dsimp only
 rw[bD]
 refine vr rfl (gv rfl rfl ?_)
 exact⟨_,_,rfl,e,o,b⟩
theorem xd (w:World) {p:Option Addr} {c:Nat} {l:Bytes} (h:ux w p l) (hl:l.length<1000000000):
  gn prog 35 [.slice p l.length c] w fun v w'=>∃q k,v= .slice q l.length k∧Own w' q l.length k 5 1 (ge l)∧(∀y,jb q y→w.heap.size≤y)∧Ext No w w':=by
 cases p with
 |none=>
  have d:l=[]:=by
   rcases h.2 with e|⟨b,f,g,_⟩
   ·exact aZ e
   cases g
  subst d
  exact cloneB_nil w
 |some a=>exact cloneB_some w h hl
theorem cloneP_nil (w:World) {c:Nat}:
  gn prog 138 [.slice none 0 c] w fun v w'=>∃q k,v= .slice q 0 k∧Own w' q 0 k 41 1 []∧(∀y,jb q y→w.heap.size≤y)∧Ext No w w':=by
 refine gx func138 ?_
 have a:=Ext.refl No w
 refine jd rfl (gl (jd rfl (Cl rfl (jd rfl (j9 (j7 (gv rfl rfl ?_)))))))
 exact⟨none,0,rfl,Own.nil _ _ _,fun y b=>(by cases b),a⟩
theorem cloneP_some (w:World) {a:Addr} {c:Nat} {n:Nat} {rows:List Value} (h:Sl w (some a) n 1 rows) (hl:n<1000000000) (h1:∀v∈rows,v.oneCell'=true):
  gn prog 138 [.slice (some a) n c] w fun v w'=>∃q k,v= .slice q n k∧Own w' q n k 41 1 rows∧(∀y,jb q y→w.heap.size≤y)∧Ext No w w':=by
 refine gx func138 ?_
 have b:=Ext.refl No w
 refine jd rfl (gl (jd rfl (up rfl (x3 (ko ?_)))))
 refine wl (qi gc rfl 1 rfl rfl rfl zd zd trivial (l':=[]) rfl fun z A p f d r=> ?_)
 have b:=b.gb d
 refine j0 gc rfl ?_
 refine wl (va gc rfl 1 24 rfl rfl rfl zd (Own.blk (n:=0) (c:=0) f 1 rfl (aD _) zd) (Src.slice (h.ga b) h1) zm zn fun o s t g i j=> ?_)
 have b:=b.trans i fun y B l=>by have:=own1 l;omega
 have m:∀x,jb o x→w.heap.size≤x:=fun x u=>(j x u).elim (fun l=>by have:=own1 l;omega) fun h=>by have:=d.size;omega
 have e:Own t o (0+n) s 41 1 rows:=g
 rw[bD] at e
 dsimp only
 rw[bD]
 refine vr rfl (gv rfl rfl ?_)
 exact⟨_,_,rfl,e,m,b⟩
theorem cloneP_calls (w:World) {p:Option Addr} {n c:Nat} {rows:List Value} (h:Sl w p n 1 rows) (hl:n<1000000000) (h1:∀v∈rows,v.oneCell'=true):
  gn prog 138 [.slice p n c] w fun v w'=>∃q k,v= .slice q n k∧Own w' q n k 41 1 rows∧(∀y,jb q y→w.heap.size≤y)∧Ext No w w':=by
 cases p with
 |none=>
  have d:n=0:=by
   rcases h.2 with f|⟨b,g,h1,_⟩
   ·exact f
   cases h1
  subst d
  have e:rows=[]:=aZ (by simpa using h.1)
  subst e
  exact cloneP_nil w
 |some a=>exact cloneP_some w h hl h1
theorem left_calls (w:World) {x d:Nat} {H:Nat→Prop} {W:Wl} (h:ye w x d H W) (h1:W.size<1000000000) (h2:W.used<1000000000):
  gn prog 66 [.pointer (some ⟨x,0,none⟩)] w fun v w'=>v= .int .i64 ((W.size:Int)-W.used)∧Ext No w w':=by
 obtain⟨⟨q,c,i,b,j,k,l⟩,m,n⟩:=h
 refine gx func66 ?_
 have f:=Ext.refl No w
 refine jd rfl (gl (jd rfl (up rfl (x3 (gl ?_)))))
 refine jr rfl 11 [qP 0,qP 1,qP 2,qP 3,qP 4,qP 5,qP 6,qP 7,qP 8,qP 9,qP 10] [] (No) zk fun p g o=> ?_
 have e:=f
 have f:=f.gb g
 refine gt gc 4 rfl (j3 gc rfl rfl (fun w' a=>((b.ga (e.gb a)).cell rfl)) ?_)
 refine gt gc 3 rfl (j3 gc rfl rfl (fun w' a=>((b.ga (e.gb a)).cell rfl)) ?_)
 refine gt gc 2 rfl ?_
 rw[jz _ zo]
 refine jg (j5 (jp (j9 (gv rfl rfl ?_))))
 exact⟨rfl,f⟩
theorem broken_calls (w:World) {x d:Nat} {H:Nat→Prop} {W:Wl} (h:ye w x d H W):
  gn prog 69 [.pointer (some ⟨x,0,none⟩)] w fun v w'=>v= .bool W.broken∧Ext No w w':=by
 obtain⟨⟨q,c,e,a,g,i,j⟩,k,l⟩:=h
 refine gx func69 ?_
 have m:=Ext.refl No w
 refine jd rfl (ji (α:=Bool) [] rfl (fun z=>[(2,.bool z)]) (fun z u=>u=w∧z=W.broken) ?_ ?_)
 ·refine gy ?_
  refine j0 gc rfl (uq 5 rfl (fun f=> ?_) (fun f=> ?_))
  ·refine gq gc 3 rfl ?_
   refine gu rfl (a.cell rfl) (j0 gc rfl (gk ?_))
   exact gr (_) rfl ⟨rfl,rfl⟩
  cases f
 rintro z n ⟨b,rfl⟩
 have b:=b.symm
 subst b
 refine j9 (gv rfl rfl ?_)
 exact⟨rfl,m⟩
theorem ready_calls (w:World) {x d:Nat} {H:Nat→Prop} {W:Wl} (h:ye w x d H W) {p:Option Addr} {n k:Nat}:
  gn prog 116 [.pointer (some ⟨x,0,none⟩),.slice p n k] w fun v w'=>v= .int .i64 (if 40000<n then 3 else if W.broken=true then 8 else 0)∧Ext No w w':=by
 obtain⟨⟨q,c,f,b,g,i,j⟩,l,m⟩:=h
 refine gx func116 ?_
 have e:=Ext.refl No w
 refine jd rfl (gl (j8 (jd rfl (up rfl (jd rfl (jl rfl (fun a=> ?_) (fun a=> ?_)))))))
 ·rw[aR zo]
  refine jd rfl (j9 (u1 (j7 (gv rfl rfl ?_))))
  exact⟨rfl,e⟩
 rw[aP zo]
 refine ki rfl (gu rfl (b.cell rfl) (km rfl (ud rfl (fun a=> ?_) (fun a=> ?_))))
 ·rw[aR a]
  refine jd rfl (j9 (u1 (j7 (gv rfl rfl ?_))))
  exact⟨rfl,e⟩
 rw[aP (by rw[a];decide)]
 refine kc (js (jp (jd rfl (j9 (gv rfl rfl ?_)))))
 exact⟨rfl,e⟩
theorem snapshot_calls (w:World) {x d:Nat} {H:Nat→Prop} {W:Wl} (h:ye w x d H W) (hne:0<W.pieces.length) (hsh:(W.pieces[0]).length<1000000000):
  gn prog 59 [.pointer (some ⟨x,0,none⟩)] w fun v w'=>∃q k,v= .slice q (W.pieces[0]).length k∧Own w' q (W.pieces[0]).length k 5 1 (ge W.pieces[0])∧(∀y,jb q y→w.heap.size≤y)∧Ext No w w':=by
 obtain⟨⟨q,c,a,e,f,g,u⟩,z,A⟩:=h
 obtain⟨I,J,i,B,j,_⟩:=g.get hne
 obtain⟨m,rfl,n⟩:∃m,q=some ⟨m,0,none⟩∧Seg w m 0 a:=by
  rcases f with⟨_,K,_⟩|⟨b,l,C,D,_,_,_,E⟩
  ·omega
  exact⟨b,C,by rw[←E];exact D.kj.take _⟩
 refine gx func59 ?_
 have o:=Ext.refl No w
 refine jd rfl (gl (jd rfl (up rfl (x3 (ki rfl (gu rfl (e.cell rfl) ?_))))))
 refine ka rfl 1 rfl 0 rfl hne (0+0*1) rfl (gu rfl (n 0 _ i) (gh call35 rfl (xd w j hsh) fun L M p=> ?_))
 obtain⟨F,G,rfl,r,s,t⟩:=p
 have o:=o.gb t
 refine vr rfl (gv rfl rfl ?_)
 exact⟨F,G,rfl,r,s,o⟩
def AllA (ps:List Bytes) (k:Nat) (vs:Array Value) (X:Nat→Prop) (W:World):Prop:=∃q c,vs= #[.int .i64 ((k:Int)+1),.slice q (ps.getD k []).length c]∧Own W q (ps.getD k []).length c 5 1 (ge (ps.getD k []))∧X=jb q
theorem AllA.size {ps:List Bytes} (k:Nat) (vs:Array Value) (X:Nat→Prop) (W:World) (h:AllA ps k vs X W):vs.size=2:=by
 obtain⟨q,c,rfl,_⟩:=h
 rfl
theorem all1_walk (w:World) {l b c:Nat} {q:Option Addr} {ps:List Bytes} {rows:List Value} {H F:Nat→Prop} {J Jx:Nat→(Nat→Prop)→World→Prop} (hCo:ConsV prog l w.heap.size ps.length (AllA ps) J Jx) (hb:gz w b 80 [.slice q ps.length c]) (hs:Sl w q ps.length 1 rows) (hps:qr w H ps rows)
  (hq:∀y off,q=some ⟨y,off,none⟩→ps.length≠0→y<w.heap.size∧¬F y) (hH:∀y,H y→y<w.heap.size∧¬F y) (hl:ps.length<1000000000) (hsh:∀x∈ps,x.length<1000000000) (h0:J 0 F w):
  gn prog 139 [.func (.yield l) #[] #[],.pointer (some ⟨b,0,none⟩)] w fun _ w'=>ItQ w F ps.length J Jx w':=by
 refine gx func139 ?_
 have hX:=Ext.refl F w
 have hFlt:=hCo.lt h0
 refine ko (gu rfl (hb.cell rfl) (km rfl (j8 ?_)))
 refine jj (α:=Nat×(Nat→Prop)) [0,5,6] rfl (fun z=>[(7,.int .i64 (z.1:Int))]) (fun z u=>(z.1≤ps.length∧J z.1 z.2 u∧(∀x,z.2 x→F x∨w.heap.size≤x)∧Sl u q ps.length 1 rows∧qr u H ps rows)∧Ext F w u) (fun z u=>ps.length-z.1) (0,F) rfl ⟨⟨aJ _,h0,fun x hx=> .inl hx,hs,hps⟩,hX⟩ ?_
 rintro⟨k,G⟩ w1 ⟨⟨hk,hJ,hG,hs,hps⟩,hX⟩
 try dsimp only
 dsimp only at hk hJ hG
 refine jd rfl (gl (jl rfl (fun hc=> ?_) (fun hc=> ?_)))
 ·have hkn:k<ps.length:=by omega
  obtain⟨pk,ck,hrk,hck,hsk,hpk⟩:=hps.get hkn
  have hbk:ps.getD k []=ps[k]:=by simp[hkn]
  rw[←hbk] at hrk hck hsk
  have hbl:(ps.getD k []).length<1000000000:=by rw[hbk];exact hsh _ (aG hkn)
  obtain⟨qb,qo,rfl,hqs⟩:∃qb qo,q=some ⟨qb,qo,none⟩∧Seg w1 qb qo rows:=by
   rcases hs.2 with h0|⟨b',off,h1,h2⟩
   ·omega
   exact⟨b',off,h1,h2⟩
  obtain⟨hqw,hqF⟩:=hq qb qo rfl zo
  refine Ac (ki rfl (ka rfl 1 rfl k rfl hkn (qo+k*1) rfl (gu rfl (by rw[bE];exact hqs k _ hrk) (km rfl (gl ?_)))))
  refine c_regionI (wlw_p rfl gc rfl ?_)
  rw[jz _ zo]
  have hGlt:=hCo.lt hJ
  have hXs:=hX.size
  refine wlw rfl (j1 call35 rfl (xd w1 hsk hbl) fun v2 w2 hr2=> ?_)
  obtain⟨q2,k2,rfl,ho2,hn2,hE2⟩:=hr2
  have hJ:=hCo.st hJ hE2 fun _ e=>e.elim
  have hs:=hs.ga hE2
  have hps:=hps.ext hE2 fun _ _ _=>id
  have hX:=hX.gb hE2
  refine wli_yield rfl rfl rfl rfl rfl rfl (hCo.round hJ hkn _ (jb q2) ⟨q2,k2,rfl,ho2,rfl⟩ (fun x hx=>⟨by have:=hn2 x hx;omega,fun e=>by have:=hn2 x hx;have:=hGlt x e;omega⟩)) fun y w3 hy=> ?_
  obtain⟨G2,hEy,hGy,hyt,hyf⟩:=hy
  have hX0:=hX.size
  have hX:=hX.trans hEy fun x hx e=>by rcases e with e|e;exact(hG x e).resolve_right zo;have:=hn2 x e;omega
  have hG2:∀x,G2 x→F x∨w.heap.size≤x:=fun x hx=>by rcases hGy x hx with h|h|h;exact hG x h;exact .inr (by have:=hn2 x h;omega);exact .inr zo
  have hs:=hs.ext hEy fun b off e h=>by cases e;rcases h with h|h;exact(hG _ h).elim hqF zo;have:=hn2 _ h;omega
  have hps:=hps.ext hEy fun y hy _ h=>by have h3:=hH y hy;rcases h with h|h;exact(hG _ h).elim h3.2 zo;have:=hn2 _ h;omega
  refine wlw_p rfl gc rfl (Ah (jp (ud rfl (fun hc=> ?_) (fun hc=> ?_))))
  ·have hJx:=hyf (by simpa using hc)
   refine j9 (u1 (j7 (j7 (u1 (f_ret0 rfl ?_)))))
   exact⟨G2,hX,hG2,.inr ⟨k,hkn,hJx⟩⟩
  have hJ:=hyt (by simpa using hc)
  refine kc (Aa rfl ?_)
  rw[jz _ zo]
  refine gk ?_
  exact jk (k+1,G2) rfl ⟨⟨hkn,hJ,hG2,hs,hps⟩,hX⟩ zf
 have hkn:k=ps.length:=by omega
 subst hkn
 refine y8 (ql (ql (ve (z6 rfl ?_))))
 exact⟨G,hX,hG,.inl hJ⟩
theorem all1_iter (w:World) {b c:Nat} {q:Option Addr} {ps:List Bytes} {rows:List Value} {H:Nat→Prop} (hb:gz w b 80 [.slice q ps.length c]) (hs:Sl w q ps.length 1 rows) (hps:qr w H ps rows)
  (hq:∀y off,q=some ⟨y,off,none⟩→ps.length≠0→y<w.heap.size) (hH:∀y,H y→y<w.heap.size) (hl:ps.length<1000000000) (hsh:∀x∈ps,x.length<1000000000):
  IterV prog 139 [.pointer (some ⟨b,0,none⟩)] ps.length (AllA ps) (fun y=>(∃off,q=some ⟨y,off,none⟩∧ps.length≠0)∨H y) w:=
 fun _ _ _ _ hC h0 hown=>all1_walk w hC hb hs hps (fun y off e h=>⟨hq y off e h,hown y (.inl ⟨off,e,h⟩)⟩) (fun y hy=>⟨hH y hy,hown y (.inr hy)⟩) hl hsh h0
theorem all_calls (w:World) {x d:Nat} {H:Nat→Prop} {W:Wl} (h:ye w x d H W) (hne:0<W.pieces.length) (hn:W.pieces.length<1000000000):
  gn prog 62 [.pointer (some ⟨x,0,none⟩)] w fun v w'=>∃b q c rows,v= .func (.func 139) #[] #[.pointer (some ⟨b,0,none⟩)]∧gz w' b 80 [.slice q (W.pieces.drop 1).length c]∧Sl w' q (W.pieces.drop 1).length 1 rows∧qr w' H (W.pieces.drop 1) rows∧w.heap.size≤b∧(∀y off,q=some ⟨y,off,none⟩→(W.pieces.drop 1).length≠0→w.heap.size≤y∧y<w'.heap.size)∧Ext No w w':=by
 obtain⟨⟨q,c,rows,hbx,hrw,hps,hqH⟩,hxH,hlt⟩:=h
 have hcap:=hrw.cap
 have hxl:=hbx.lt
 have hone:=hps.one
 refine gx func62 ?_
 have hX:=Ext.refl No w
 refine jd rfl (ko (gw rfl fun b3 w1 hn3 hb3 hE1=> ?_))
 have fr3:=aA hX.size hn3
 have hX:=hX.gb hE1
 have hb3:gz w1 b3 80 ([.slice none 0 0]):=hb3
 refine qq ?_
 refine ji (α:=Option Addr×Nat×List Value) [3] rfl (fun z=>[]) (fun z u=>(Sl u z.1 (W.pieces.drop 1).length 1 z.2.2∧qr u H (W.pieces.drop 1) z.2.2∧∀y off,z.1=some ⟨y,off,none⟩→(W.pieces.drop 1).length≠0→w.heap.size≤y∧y<u.heap.size)∧gz u b3 80 ([.slice z.1 (W.pieces.drop 1).length z.2.1])∧Ext No w u) ?_ ?_
 ·refine gl ?_
  refine gy (km rfl (Cl rfl (yl rfl (gu rfl ((hbx.ga hX).cell rfl) ?_))))
  refine wl (zv gc rfl 1 W.pieces.length c 1 rfl (.inr ⟨rfl,rfl⟩) (.inr ⟨rfl,rfl⟩) (.inl rfl) hne hcap (aD _) ?_)
  dsimp only
  have hsd:=(hrw.sl.ga hX).slice 1 W.pieces.length c hne hcap (aD _)
  rw[Nat.one_mul,bE,aO (by rw[aX,hps.1];exact aD _)] at hsd
  have l3:=hb3.lt
  refine gh call138 rfl (cloneP_calls w1 hsd zo (fun v hv=>hone v (dO hv))) fun v2 w2 hr2=> ?_
  obtain⟨q2,c2,rfl,ho2,hn2,hE2⟩:=hr2
  have hb3:=hb3.ga hE2
  have hX:=hX.gb hE2
  refine kl hb3 rfl rfl rfl fun w3 hb3 hE3 hs3=> ?_
  have hX:=hX.gi hE3 fr3
  refine gk ?_
  have hln:W.pieces.length-1=(W.pieces.drop 1).length:=by simp
  rw[hln] at hb3
  exact gr (q2,c2,rows.drop 1) rfl ⟨⟨by rw[aX];exact(ho2.ext hE3 (fun y hy e=>by have e:y=b3:=e;have:=hn2 y hy;omega)).sl,((hps.ext hX fun _ _ _=>id).drop 1),fun y off e _=>by rcases ho2 with⟨h1,_⟩|⟨b',l,h1,h2,_⟩;rw[h1] at e;cases e;rw[h1] at e;cases e;exact⟨by have:=hn2 _ h1;have:=hE1.size;omega,aM h2.lt hE3.size⟩⟩,hb3,hX⟩
 rintro⟨q2,c2,rows2⟩ w4 ⟨⟨hs2,hps2,hy2⟩,hb3,hX⟩
 refine jd rfl (j9 (gv rfl rfl ?_))
 exact⟨b3,q2,c2,rows2,rfl,hb3,hs2,hps2,fr3,hy2,hX⟩
end Go.Proofs.YtpdiphfjmepijaaGreatDoor
