/-
  Walks and laws towards: the bytes of batches, and the batch of whatever bytes (StoreCodes)
-/
import Derived.DeepKeys3
import Derived.MapKept
import Derived.MapFrom
import Derived.TacticsIn
import Derived.RangeFuncSeq
import Derived.RangeFuncLeaves
import Derived.OrdersIn
import Derived.Test.YtpdiphfjmepijaaGreatDoorCdB
open List renaming flatMap_append→bC,mem_iff_getElem→bJ,mem_map→bN,getElem_map→bR,length_replicate→bS,getElem?_toArray→bT,map_append→bX,getElem?_eq_none→cD,getElem?_map→cE,getElem?_cons_zero→cN,getElem?_eq_some_iff→cY,flatten_cons→dB,set_append_right→dF,take_left'→dG,all_eq_true→dH,flatMap_cons→dI,map_cons→dL,mem_of_getElem?→dP
open Bool renaming and_eq_true→bV
open Array renaming getD_eq_getD_getElem?→cF,ext'→cH,getElem?_eq_none→cI,getElem?_eq_some_iff→cL,getElem?_setIfInBounds_ne→dC,getElem?_eq_getElem→dK
open Nat renaming add_mul→cQ,le_of_ble_eq_true→dD,eq_of_beq_eq_true→dE
open Classical renaming byContradiction→cZ
open Int renaming natCast_nonneg→dN
namespace Go.Proofs.YtpdiphfjmepijaaGreatDoor
open Go.Proofs.Tryz
open Go.Vc
theorem uStr:prog.underlying 9=some .string:=by kernel_rfl
theorem uBool:prog.underlying 4=some .bool:=by kernel_rfl
theorem uByte:prog.underlying 5=some (.int .u8):=by kernel_rfl
theorem uId:prog.underlying 30=some (.array 32 5):=by kernel_rfl
theorem cStr:prog.cellsOf 9=1:=by kernel_rfl
theorem cBool:prog.cellsOf 4=1:=by kernel_rfl
theorem cByte:prog.cellsOf 5=1:=by kernel_rfl
theorem cId:prog.cellsOf 30=32:=by kernel_rfl
theorem kId:prog.keyTypeAt 10 30=true:=by kernel_rfl
theorem gId:prog.eqGuardType prog.depth 30=false:=by kernel_rfl
theorem vt {l:List UInt8} (hl:l.length=32):prog.keyLits 2 30 (ge l)=some (zq4 l):=lits_bytes uId cId uByte cByte hl
theorem ue {l:List UInt8} (hl:l.length=32):(Value.agg (ge l).toArray).formed prog 30=true:=by
 simp[Value.formed,cId,gm,hl]
theorem uChgD:prog.underlying 150=some (.struct (prog.fieldsOf 150)):=by kernel_rfl
theorem cChgD:prog.cellsOf 150=3:=by kernel_rfl
theorem kChgD:prog.keyTypeAt 10 150=true:=by kernel_rfl
theorem gChgD:prog.eqGuardType prog.depth 150=false:=by kernel_rfl
theorem chgKey {r:u9} (h1:r.path.length≤maxLen) (h2:r.text.length≤maxLen):prog.keyLits 3 150 r.cells=some ([.string r.path,.bool r.is,.string r.text]):=by
 have a:[(9,0),(4,1),(9,2)].mapM (fun p:Nat×Nat=>prog.keyLits 2 p.1 ((r.cells.drop p.2).take (prog.cellsOf p.1)))=some [[.string r.path],[.bool r.is],[.string r.text]]:=by
  have b:((r.cells.drop 0).take (prog.cellsOf 9))=[.string (ul r.path)]:=by rw[cStr];rfl
  have c:((r.cells.drop 1).take (prog.cellsOf 4))=[.bool r.is]:=by rw[cBool];rfl
  have f:((r.cells.drop 2).take (prog.cellsOf 9))=[.string (ul r.text)]:=by rw[cStr];rfl
  simp only[List.mapM_cons,List.mapM_nil,b,c,f,lits_str (d:=1) uStr h1,lits_bool (d:=1) uBool,lits_str (d:=1) uStr h2]
  rfl
 have e:=lits_struct (d:=2) (cs:=r.cells) uChgD zk (by rw[cChgD];exact rfl) (L:=[(9,0),(4,1),(9,2)]) zk a
 rw[e]
 simp
theorem chgForm {r:u9} (h:r.cells.length=3):(Value.agg r.cells.toArray).formed prog 150=true:=by
 simp[Value.formed,cChgD,h]
theorem uLeafD:prog.underlying 148=some (.struct (prog.fieldsOf 148)):=by kernel_rfl
theorem cLeafD:prog.cellsOf 148=33:=by kernel_rfl
theorem kLeafD:prog.keyTypeAt 10 148=true:=by kernel_rfl
theorem gLeafD:prog.eqGuardType prog.depth 148=false:=by kernel_rfl
theorem leafKey {r:jf} (h1:r.path.length≤maxLen) (h2:r.id.length=32):prog.keyLits 3 148 r.cells=some (.string r.path::zq4 r.id):=by
 have a:[(9,0),(30,1)].mapM (fun p:Nat×Nat=>prog.keyLits 2 p.1 ((r.cells.drop p.2).take (prog.cellsOf p.1)))=some [[.string r.path],zq4 r.id]:=by
  have b:((r.cells.drop 0).take (prog.cellsOf 9))=[.string (ul r.path)]:=by rw[cStr];rfl
  have c:((r.cells.drop 1).take (prog.cellsOf 30))=ge r.id:=by rw[cId];exact aO (by rw[←h2];exact Nat.le_of_eq (gm _))
  simp only[List.mapM_cons,List.mapM_nil,b,c,lits_str (d:=1) uStr h1,vt h2]
  rfl
 have e:=lits_struct (d:=2) (cs:=r.cells) uLeafD zk (by rw[cLeafD];exact jf.len h2) (L:=[(9,0),(30,1)]) zk a
 rw[e]
 simp
theorem leafForm {r:jf} (h:r.cells.length=33):(Value.agg r.cells.toArray).formed prog 148=true:=by
 simp[Value.formed,cLeafD,h]
theorem chg_eq {r s:u9}:([.string r.path,.bool r.is,.string r.text]:List Lit)=[.string s.path,.bool s.is,.string s.text]↔r=s:=by
 obtain⟨a,b,c⟩:=r
 obtain⟨d,e,f⟩:=s
 simp
theorem leaf_eq {r s:jf}:((.string r.path:Lit)::zq4 r.id)= .string s.path::zq4 s.id↔r=s:=by
 obtain⟨a,b⟩:=r
 obtain⟨c,d⟩:=s
 simp[ua]
theorem Cr {α:Type} {l m:List α} (hl:l.length=m.length) (h:∀k (hk:k<l.length),l[k]=m[k]'zo):l=m:=
 List.ext_getElem hl fun k h1 _=>h k h1
def RowsIn (l:List Bj):Prop:=∀r∈l,r.path.length≤maxLen∧r.text.length≤maxLen
def LeafIn (r:jf):Prop:=r.path.length≤maxLen∧r.id.length=32
def ChgIn (r:u9):Prop:=r.path.length≤maxLen∧r.text.length≤maxLen
def uv (r:List UInt8):Prop:=r.length=32
theorem uv.len {r:List UInt8} (h:uv r):(ge r).length=32:=by rw[gm];exact h
theorem equalLeaf_calls (w:World) {p q:Option Addr} {c d:Nat} {l m:(List (jf))} (h:Sl w p l.length 33 (l.flatMap jf.cells)) (h':Sl w q m.length 33 (m.flatMap jf.cells)) (hl:l.length<1000000000) (h1:∀r∈l,LeafIn r) (h2:∀r∈m,LeafIn r):
  gn prog 234 [.slice p l.length c,.slice q m.length d] w fun v w'=>v= .bool (decide (l=m))∧Ext No w w':=by
 refine gx func234 ?_
 have hX:=Ext.refl No w
 refine jd rfl (gl (jd rfl (jl rfl (fun hc=> ?_) (fun hc=> ?_))))
 ·refine gl ?_
  refine gy (vr rfl (j7 (gv rfl rfl ?_)))
  exact⟨congrArg Value.bool (by symm;rw[aC];intro h;rw[h] at hc;exact hc rfl),hX⟩
 have hlm:l.length=m.length:=by omega
 refine x3 (gl (jd rfl (j8 ?_)))
 refine jj (α:=Nat) [0,1,12] rfl (fun z=>[(13,.int .i64 (z:Int))]) (fun z u=>(z≤l.length∧∀k (hk:k<l.length),k<z→l[k]=m[k]'zo)∧Ext No w u) (fun z u=>l.length-z) (0) rfl ⟨⟨aJ _,fun k _ h=>absurd h (bW _)⟩,hX⟩ ?_
 rintro i w1 ⟨⟨hi,hok⟩,hX⟩
 refine jd rfl (gl (jl rfl (fun hc=> ?_) (fun hc=> ?_)))
 ·have hi:i<l.length:=by omega
  have him:i<m.length:=by omega
  obtain⟨b,off,rfl,hsa⟩:=h.qd (fun r hr=>jf.len (h1 r hr).2) zo
  obtain⟨b',off',rfl,hsb⟩:=h'.qd (fun r hr=>jf.len (h2 r hr).2) zo
  have ha1:=h1 _ (aG hi)
  have ha2:=h2 _ (aG him)
  refine Ac (jd rfl (gl ?_))
  refine jr rfl 9 [qP 0,qP 1,qP 2,qP 3,qP 4,qP 5,qP 6,qP 7,qP 8] [] (No) zk fun w2 hE2 hs2=> ?_
  have hXd:=hX
  have hX:=hX.gb hE2
  refine gt gc 2 rfl (qk gc rfl rfl 33 rfl i rfl zo (off+i*33) rfl (qa gc rfl rfl (fun w' hw'=>((hsa i hi).ga (hXd.gb hw'))) (jf.len ha1.2) ?_))
  refine gt gc 2 rfl (qk gc rfl rfl 33 rfl i rfl zo (off'+i*33) rfl (qa gc rfl rfl (fun w' hw'=>((hsb i him).ga (hXd.gb hw'))) (jf.len ha2.2) ?_))
  refine zv4 rfl rfl gLeafD 10 zd kLeafD (leafForm (jf.len ha1.2)) (leafForm (jf.len ha2.2)) (leafKey ha1.1 ha1.2) (leafKey ha2.1 ha2.2) leaf_eq ?_
  simp only[bI,cX]
  refine jg (j5 (jp (jl rfl (fun hc=> ?_) (fun hc=> ?_))))
  ·refine gl ?_
   refine gy (vr rfl (gGl (gv rfl rfl ?_)))
   exact⟨congrArg Value.bool (by symm;rw[aC];intro e;subst e;exact hc rfl),hX⟩
  have hei:=aS.1 hc
  refine kc (Aa rfl ?_)
  rw[jz _ zo]
  refine gk ?_
  exact jk (i+1) rfl ⟨⟨by omega,fun k hk hlt=>(by rcases bF k i with h0|h0;exact hok k hk h0;(have e:k=i:=zo);subst e;exact hei)⟩,hX⟩ zf
 have hall:l=m:=Cr hlm fun k hk=>hok k hk zo
 refine Ak (jd rfl (j9 (gv rfl rfl ?_)))
 exact⟨congrArg Value.bool (bQ hall).symm,hX⟩
theorem equalChange_calls (w:World) {p q:Option Addr} {c d:Nat} {l m:(List (u9))} (h:Sl w p l.length 3 (l.flatMap u9.cells)) (h':Sl w q m.length 3 (m.flatMap u9.cells)) (hl:l.length<1000000000) (h1:∀r∈l,ChgIn r) (h2:∀r∈m,ChgIn r):
  gn prog 236 [.slice p l.length c,.slice q m.length d] w fun v w'=>v= .bool (decide (l=m))∧Ext No w w':=by
 refine gx func236 ?_
 have hX:=Ext.refl No w
 refine jd rfl (gl (jd rfl (jl rfl (fun hc=> ?_) (fun hc=> ?_))))
 ·refine gl ?_
  refine gy (vr rfl (j7 (gv rfl rfl ?_)))
  exact⟨congrArg Value.bool (by symm;rw[aC];intro h;rw[h] at hc;exact hc rfl),hX⟩
 have hlm:l.length=m.length:=by omega
 refine x3 (gl (jd rfl (j8 ?_)))
 refine jj (α:=Nat) [0,1,12] rfl (fun z=>[(13,.int .i64 (z:Int))]) (fun z u=>(z≤l.length∧∀k (hk:k<l.length),k<z→l[k]=m[k]'zo)∧Ext No w u) (fun z u=>l.length-z) (0) rfl ⟨⟨aJ _,fun k _ h=>absurd h (bW _)⟩,hX⟩ ?_
 rintro i w1 ⟨⟨hi,hok⟩,hX⟩
 refine jd rfl (gl (jl rfl (fun hc=> ?_) (fun hc=> ?_)))
 ·have hi:i<l.length:=by omega
  have him:i<m.length:=by omega
  obtain⟨b,off,rfl,hsa⟩:=h.qd (fun r _=>r.len) zo
  obtain⟨b',off',rfl,hsb⟩:=h'.qd (fun r _=>r.len) zo
  have ha1:=h1 _ (aG hi)
  have ha2:=h2 _ (aG him)
  refine Ac (jd rfl (gl ?_))
  refine jr rfl 9 [qP 0,qP 1,qP 2,qP 3,qP 4,qP 5,qP 6,qP 7,qP 8] [] (No) zk fun w2 hE2 hs2=> ?_
  have hXd:=hX
  have hX:=hX.gb hE2
  refine gt gc 2 rfl (qk gc rfl rfl 3 rfl i rfl zo (off+i*3) rfl (qa gc rfl rfl (fun w' hw'=>((hsa i hi).ga (hXd.gb hw'))) rfl ?_))
  refine gt gc 2 rfl (qk gc rfl rfl 3 rfl i rfl zo (off'+i*3) rfl (qa gc rfl rfl (fun w' hw'=>((hsb i him).ga (hXd.gb hw'))) rfl ?_))
  refine zv4 rfl rfl gChgD 10 zd kChgD (chgForm rfl) (chgForm rfl) (chgKey ha1.1 ha1.2) (chgKey ha2.1 ha2.2) chg_eq ?_
  simp only[bI,cX]
  refine jg (j5 (jp (jl rfl (fun hc=> ?_) (fun hc=> ?_))))
  ·refine gl ?_
   refine gy (vr rfl (gGl (gv rfl rfl ?_)))
   exact⟨congrArg Value.bool (by symm;rw[aC];intro e;subst e;exact hc rfl),hX⟩
  have hei:=aS.1 hc
  refine kc (Aa rfl ?_)
  rw[jz _ zo]
  refine gk ?_
  exact jk (i+1) rfl ⟨⟨by omega,fun k hk hlt=>(by rcases bF k i with h0|h0;exact hok k hk h0;(have e:k=i:=zo);subst e;exact hei)⟩,hX⟩ zf
 have hall:l=m:=Cr hlm fun k hk=>hok k hk zo
 refine Ak (jd rfl (j9 (gv rfl rfl ?_)))
 exact⟨congrArg Value.bool (bQ hall).symm,hX⟩
theorem equalId_calls (w:World) {p q:Option Addr} {c d:Nat} {l m:(List (List UInt8))} (h:Sl w p l.length 32 (l.flatMap ge)) (h':Sl w q m.length 32 (m.flatMap ge)) (hl:l.length<1000000000) (h1:∀r∈l,uv r) (h2:∀r∈m,uv r):
  gn prog 235 [.slice p l.length c,.slice q m.length d] w fun v w'=>v= .bool (decide (l=m))∧Ext No w w':=by
 refine gx func235 ?_
 have hX:=Ext.refl No w
 refine jd rfl (gl (jd rfl (jl rfl (fun hc=> ?_) (fun hc=> ?_))))
 ·refine gl ?_
  refine gy (vr rfl (j7 (gv rfl rfl ?_)))
  exact⟨congrArg Value.bool (by symm;rw[aC];intro h;rw[h] at hc;exact hc rfl),hX⟩
 have hlm:l.length=m.length:=by omega
 refine x3 (gl (jd rfl (j8 ?_)))
 refine jj (α:=Nat) [0,1,12] rfl (fun z=>[(13,.int .i64 (z:Int))]) (fun z u=>(z≤l.length∧∀k (hk:k<l.length),k<z→l[k]=m[k]'zo)∧Ext No w u) (fun z u=>l.length-z) (0) rfl ⟨⟨aJ _,fun k _ h=>absurd h (bW _)⟩,hX⟩ ?_
 rintro i w1 ⟨⟨hi,hok⟩,hX⟩
 refine jd rfl (gl (jl rfl (fun hc=> ?_) (fun hc=> ?_)))
 ·have hi:i<l.length:=by omega
  have him:i<m.length:=by omega
  obtain⟨b,off,rfl,hsa⟩:=h.qd (fun r hr=>(h1 r hr).len) zo
  obtain⟨b',off',rfl,hsb⟩:=h'.qd (fun r hr=>(h2 r hr).len) zo
  have ha1:=h1 _ (aG hi)
  have ha2:=h2 _ (aG him)
  refine Ac (jd rfl (gl ?_))
  refine jr rfl 9 [qP 0,qP 1,qP 2,qP 3,qP 4,qP 5,qP 6,qP 7,qP 8] [] (No) zk fun w2 hE2 hs2=> ?_
  have hXd:=hX
  have hX:=hX.gb hE2
  refine gt gc 2 rfl (qk gc rfl rfl 32 rfl i rfl zo (off+i*32) rfl (qa gc rfl rfl (fun w' hw'=>((hsa i hi).ga (hXd.gb hw'))) (uv.len ha1) ?_))
  refine gt gc 2 rfl (qk gc rfl rfl 32 rfl i rfl zo (off'+i*32) rfl (qa gc rfl rfl (fun w' hw'=>((hsb i him).ga (hXd.gb hw'))) (uv.len ha2) ?_))
  refine zv4 rfl rfl gId 10 zd kId (ue ha1) (ue ha2) (vt ha1) (vt ha2) ua ?_
  simp only[bI,cX]
  refine jg (j5 (jp (jl rfl (fun hc=> ?_) (fun hc=> ?_))))
  ·refine gl ?_
   refine gy (vr rfl (gGl (gv rfl rfl ?_)))
   exact⟨congrArg Value.bool (by symm;rw[aC];intro e;subst e;exact hc rfl),hX⟩
  have hei:=aS.1 hc
  refine kc (Aa rfl ?_)
  rw[jz _ zo]
  refine gk ?_
  exact jk (i+1) rfl ⟨⟨by omega,fun k hk hlt=>(by rcases bF k i with h0|h0;exact hok k hk h0;(have e:k=i:=zo);subst e;exact hei)⟩,hX⟩ zf
 have hall:l=m:=Cr hlm fun k hk=>hok k hk zo
 refine Ak (jd rfl (j9 (gv rfl rfl ?_)))
 exact⟨congrArg Value.bool (bQ hall).symm,hX⟩
end Go.Proofs.YtpdiphfjmepijaaGreatDoor
namespace Go.Vc
structure jq where
  kind:Int
  text:Str
  leaves:List jf
  style:Int
  tree:List UInt8
  base:List UInt8
  parents:List (List UInt8)
  rows:List u9
  number:Nat
  author:Nat
  note:Str
  deriving DecidableEq
structure vb where
  lp:Option Addr
  lc:Nat
  pp:Option Addr
  pc:Nat
  rp:Option Addr
  rc:Nat
def jn (o:jq) (a:vb):List Value:=
  [.int .i64 o.kind,y7 o.text,.slice a.lp o.leaves.length a.lc,.int .i64 o.style]++(ge o.tree++(ge o.base++
    [.slice a.pp o.parents.length a.pc,.slice a.rp o.rows.length a.rc,.int .u32 (o.number:Int),.int .u32 (o.author:Int),y7 o.note]))
instance (o:jq) (a:vb):OneC (jn o a):=by unfold jn;infer_instance
structure u4 (o:jq):Prop where
  tree:o.tree.length=32
  base:o.base.length=32
  parents:∀r∈o.parents,r.length=32
  leaves:∀r∈o.leaves,r.path.length≤maxLen∧r.id.length=32
  rows:∀r∈o.rows,r.path.length≤maxLen∧r.text.length≤maxLen
  number:o.number<2^32
  author:o.author<2^32
theorem gp {o:jq} {a:vb} (h:u4 o):(jn o a).length=73:=by
 simp only[jn,aB,gm,h.tree,h.base,aW,List.length_nil]
structure B7 (w:World) (o:jq) (a:vb):Prop where
  leaves:Sl w a.lp o.leaves.length 33 (o.leaves.flatMap jf.cells)
  parents:Sl w a.pp o.parents.length 32 (o.parents.flatMap ge)
  rows:Sl w a.rp o.rows.length 3 (o.rows.flatMap u9.cells)
theorem B7.ga {w w':World} {o:jq} {a:vb} (h:B7 w o a) (hE:Ext No w w'):B7 w' o a:=⟨h.leaves.ga hE,h.parents.ga hE,h.rows.ga hE⟩
structure ObjAt (w:World) (b off:Nat) (o:jq) (a:vb):Prop where
  kind:w.cell? ⟨b,off,none⟩=some (.int .i64 o.kind)
  text:w.cell? ⟨b,off+1,none⟩=some (y7 o.text)
  leaves:w.cell? ⟨b,off+2,none⟩=some (.slice a.lp o.leaves.length a.lc)
  style:w.cell? ⟨b,off+3,none⟩=some (.int .i64 o.style)
  tree:Seg w b (off+4) (ge o.tree)
  base:Seg w b (off+36) (ge o.base)
  parents:w.cell? ⟨b,off+68,none⟩=some (.slice a.pp o.parents.length a.pc)
  rows:w.cell? ⟨b,off+69,none⟩=some (.slice a.rp o.rows.length a.rc)
  number:w.cell? ⟨b,off+70,none⟩=some (.int .u32 (o.number:Int))
  author:w.cell? ⟨b,off+71,none⟩=some (.int .u32 (o.author:Int))
  note:w.cell? ⟨b,off+72,none⟩=some (y7 o.note)
theorem Seg.obj {w:World} {b off:Nat} {o:jq} {a:vb} (hs:Seg w b off (jn o a)) (h:u4 o):ObjAt w b off o a:=by
 unfold jn at hs
 obtain⟨d,f⟩:=Seg.append.1 hs
 obtain⟨g,i⟩:=Seg.append.1 f
 obtain⟨e,c⟩:=Seg.append.1 i
 have j:off+4+(ge o.tree).length=off+36:=by rw[gm,h.tree]
 have e:Seg w b (off+4+(ge o.tree).length) (ge o.base):=e
 have c:Seg w b (off+4+(ge o.tree).length+(ge o.base).length) _:=c
 rw[j] at e c
 rw[gm,h.base] at c
 exact⟨d 0 _ rfl,d 1 _ rfl,d 2 _ rfl,d 3 _ rfl,g,e,c 0 _ rfl,c 1 _ rfl,c 2 _ rfl,c 3 _ rfl,c 4 _ rfl⟩
theorem ObjAt.ga {w w':World} {b off:Nat} {o:jq} {a:vb} (hs:ObjAt w b off o a) (hE:Ext No w w'):ObjAt w' b off o a:=by
 have c:∀{k:Nat} {v:Value},w.cell? ⟨b,k,none⟩=some v→w'.cell? ⟨b,k,none⟩=some v:=fun{k v} e=>by
  have f:Seg w b k [v]:=fun i u d=>by
   cases i with
   |zero=>cases d;exact e
   |succ i=>cases d
  exact(f.ga hE) 0 v rfl
 exact⟨c hs.kind,c hs.text,c hs.leaves,c hs.style,hs.tree.ga hE,hs.base.ga hE,c hs.parents,c hs.rows,c hs.number,c hs.author,c hs.note⟩
abbrev Ao:List UInt8:=List.replicate 32 0
def uo:jq:=⟨0,[],[],0,Ao,Ao,[],[],0,0,[]⟩
theorem qf:u4 uo:=⟨rfl,rfl,fun _ h=>absurd h List.not_mem_nil,fun _ h=>absurd h List.not_mem_nil,fun _ h=>absurd h List.not_mem_nil,by decide,by decide⟩
def StyleIs (o:jq):Prop:=
  o.style=1∧o.parents.length=0∧o.base=Ao∧o.rows.length=0∧o.number=0∨
  o.style=2∧o.parents.length=1∧o.base=Ao∧0<o.number∨
  o.style=3∧o.parents.length=2∧o.parents.getD 0 []≠o.parents.getD 1 []∧0<o.number
instance (o:jq):Decidable (StyleIs o):=inferInstanceAs (Decidable (_∨_))
def Bz (o:jq):Prop:=Ao∉o.parents∧StyleIs o
instance (o:jq):Decidable (Bz o):=inferInstanceAs (Decidable (_∧_))
def D6 (o:jq):Prop:=o.tree≠Ao∧Bz o
instance (o:jq):Decidable (D6 o):=inferInstanceAs (Decidable (_∧_))
def NoCom (o:jq):Prop:=o.style=0∧o.tree=Ao∧o.base=Ao∧o.parents.length=0∧o.rows.length=0∧o.number=0∧o.author=0∧o.note=[]
instance (o:jq):Decidable (NoCom o):=inferInstanceAs (Decidable (_∧_))
def Leaved (l:List jf):Prop:=xx2 (l.map jf.path)∧∀x∈l,x.id≠Ao
instance (l:List jf):Decidable (Leaved l):=inferInstanceAs (Decidable (_∧_))
def BlobOk (o:jq):Prop:=o.text.length≤256∧o.leaves.length=0∧NoCom o
instance (o:jq):Decidable (BlobOk o):=inferInstanceAs (Decidable (_∧_))
def TreeOk (o:jq):Prop:=Leaved o.leaves∧o.text=[]∧NoCom o
instance (o:jq):Decidable (TreeOk o):=inferInstanceAs (Decidable (_∧_))
def ComOk (o:jq):Prop:=o.text=[]∧o.leaves.length=0∧o.note.length≤200∧zw0 o.rows∧D6 o
instance (o:jq):Decidable (ComOk o):=inferInstanceAs (Decidable (_∧_))
def xf (o:jq):Prop:=o.kind=1∧BlobOk o∨o.kind=2∧TreeOk o∨o.kind=3∧ComOk o
instance (o:jq):Decidable (xf o):=inferInstanceAs (Decidable (_∨_))
theorem blob_zero {o:jq}:BlobOk o↔o.text.length≤256∧{o with kind:=0,text:=[]}=uo:=by
 obtain⟨k,t,l,s,tr,ba,p,r,n,a,no⟩:=o
 simp only[BlobOk,NoCom,uo,jq.mk.injEq,List.length_eq_zero_iff,true_and]
theorem tree_zero {o:jq}:TreeOk o↔Leaved o.leaves∧{o with kind:=0,leaves:=[]}=uo:=by
 obtain⟨k,t,l,s,tr,ba,p,r,n,a,no⟩:=o
 simp only[TreeOk,NoCom,uo,jq.mk.injEq,List.length_eq_zero_iff,true_and]
/-! ### Bytes -/
def vz (n:Nat) (s:Str):List UInt8:=be n s.length++s
def isB (b:Bool):UInt8:=if b then 1 else 0
def Cw (r:jf):List UInt8:=vz 1 r.path++r.id
def yj3 (r:u9):List UInt8:=vz 1 r.path++[isB r.is]++vz 2 r.text
def treeB (l:List jf):List UInt8:=be 1 l.length++l.flatMap Cw
def comB (o:jq):List UInt8:=be 1 o.style.toNat++o.tree++be 1 o.parents.length++o.parents.flatten++o.base++be 1 o.rows.length++o.rows.flatMap yj3++be 4 o.number++be 4 o.author++vz 1 o.note
def laidB (o:jq):List UInt8:=
  be 1 o.kind.toNat++if o.kind=1 then vz 2 o.text else if o.kind=2 then treeB o.leaves else comB o
def x9 (o:jq):Prop:=xf o∧(laidB o).length≤800
instance (o:jq):Decidable (x9 o):=inferInstanceAs (Decidable (_∧_))
def Be (o:jq):List UInt8:=sumW (laidB o)
def u5 (o:jq):List (List UInt8):=if o.kind=2 then o.leaves.map jf.id else if o.kind=3 then o.tree::o.parents else []
theorem B1 {α β:Type} {f:α→List β} {n:Nat}:∀{l:List α},(∀x∈l,(f x).length≤n)→(l.flatMap f).length≤l.length*n
 | [],_=>by simp
 |x::r,h=>by
  have h1:=h x zp
  have h2:=B1 (f:=f) (n:=n) (l:=r) fun y hy=>h y (by simp[hy])
  rw[dI,aB,aW,Nat.succ_mul]
  omega
theorem zz5 {l:List (List UInt8)} {n:Nat} (h:∀x∈l,x.length=n):l.flatten.length=l.length*n:=by
 induction l with
 |nil=>simp
 |cons x r ih=>rw[dB,aB,h x zp,ih fun y hy=>h y (by simp[hy]),aW,Nat.succ_mul,Nat.add_comm]
/-! ### What is taken off bytes -/
structure Ds where
  rest:List UInt8
  bad:Bool
def Ds.off (s:Ds) (n:Nat):List UInt8×Ds:=if s.bad=true∨s.rest.length<n then([],⟨s.rest,true⟩) else(s.rest.take n,⟨s.rest.drop n,false⟩)
def Ds.err (s:Ds):Int:=if s.bad then 7 else 0
def Ds.str (s:Ds) (n:Nat):Str×Ds:=(s.off n).2.off (num (s.off n).1)
def Ds.id (s:Ds):List UInt8×Ds:=((s.off 32).1++List.replicate (32-(s.off 32).1.length) 0,(s.off 32).2)
def Ds.each {α:Type} (f:Ds→α×Ds):Nat→Ds→List α×Ds
  |0,s=>([],s)
  |n+1,s=>if s.bad then([],s) else((f s).1::(Ds.each f n (f s).2).1,(Ds.each f n (f s).2).2)
def Ds.leaf (s:Ds):jf×Ds:=(⟨(s.str 1).1,(s.str 1).2.id.1⟩,(s.str 1).2.id.2)
def Ds.chg (s:Ds):u9×Ds:=
  (⟨(s.str 1).1,decide (0<num ((s.str 1).2.off 1).1),(((s.str 1).2.off 1).2.str 2).1⟩,(((s.str 1).2.off 1).2.str 2).2)
def Ds.row {α:Type} (f:Ds→α×Ds) (s:Ds):List α×Ds:=Ds.each f (num (s.off 1).1) (s.off 1).2
def Ds.com (s:Ds):jq×Ds:=
  let a:=s.off 1
  let t:=a.2.id
  let p:=t.2.row Ds.id
  let b:=p.2.id
  let r:=b.2.row Ds.chg
  let n:=r.2.off 4
  let m:=n.2.off 4
  let x:=m.2.str 1
  (⟨3,[],[],(num a.1:Nat),t.1,b.1,p.1,r.1,num n.1,num m.1,x.1⟩,x.2)
def endB (b:List UInt8) (o:jq×Ds):jq×Int:=
  if o.2.bad then(uo,7) else if x9 o.1∧laidB o.1=b then(o.1,0) else(uo,160)
def vj (b:List UInt8):jq×Int:=
  if b=[] then(uo,7)
  else
    let a:=(⟨b,false⟩:Ds).off 1
    if num a.1=1 then endB b ({uo with kind:=1,text:=(a.2.str 2).1},(a.2.str 2).2)
    else if num a.1=2 then endB b ({uo with kind:=2,leaves:=(a.2.row Ds.leaf).1},(a.2.row Ds.leaf).2)
    else if num a.1=3 then endB b a.2.com
    else(uo,160)
theorem Ds.qc (s:Ds) (n:Nat):(s.off n).1.length≤n∧(s.off n).2.rest.length≤s.rest.length∧(s.off n).1.length≤s.rest.length:=by
 unfold Ds.off
 split<;>simp<;>omega
theorem Ds.un (s:Ds):s.id.1.length=32∧s.id.2.rest.length≤s.rest.length:=by
 have:=s.qc 32
 simp only[Ds.id,aB,bS]
 omega
theorem Ds.vf (s:Ds) (n:Nat):(s.str n).1.length≤s.rest.length∧(s.str n).2.rest.length≤s.rest.length:=by
 have h1:=s.qc n
 have h2:=(s.off n).2.qc (num (s.off n).1)
 simp only[Ds.str]
 omega
theorem Ds.Dg {α:Type} {f:Ds→α×Ds} {n:Nat} {s:Ds} (h:s.bad=false):Ds.each f (n+1) s=((f s).1::(Ds.each f n (f s).2).1,(Ds.each f n (f s).2).2):=by
 rw[Ds.each,h];rfl
theorem Ds.each_end {α:Type} {f:Ds→α×Ds} {n:Nat} {s:Ds} (h:n=0∨s.bad=true):Ds.each f n s=([],s):=by
 cases n with
 |zero=>rfl
 |succ n=>rw[Ds.each,aR (h.resolve_left zo)]
theorem Ds.xx0 {α:Type} {f:Ds→α×Ds}:∀(n:Nat) (s:Ds),(Ds.each f n s).1.length≤n
 |0,s=>by simp[Ds.each]
 |n+1,s=>by
  rw[Ds.each]
  split
  ·simp
  have:=Ds.xx0 (f:=f) n (f s).2
  simp only[aW]
  omega
end Go.Vc
namespace Go.Proofs.YtpdiphfjmepijaaGreatDoor
open Go.Proofs.Tryz
open Go.Vc
def Flat (x y:jq):Prop:=x.kind=y.kind∧x.text=y.text∧x.style=y.style∧x.tree=y.tree∧x.base=y.base∧x.number=y.number∧x.author=y.author∧x.note=y.note
instance (x y:jq):Decidable (Flat x y):=inferInstanceAs (Decidable (_∧_))
theorem same_iff {x y:jq}:x=y↔Flat x y∧x.leaves=y.leaves∧x.parents=y.parents∧x.rows=y.rows:=by
 cases x;cases y
 simp only[Flat,jq.mk.injEq]
 constructor
 ·rintro⟨rfl,rfl,rfl,rfl,rfl,rfl,rfl,rfl,rfl,rfl,rfl⟩
  exact⟨⟨rfl,rfl,rfl,rfl,rfl,rfl,rfl,rfl⟩,rfl,rfl,rfl⟩
 rintro⟨⟨rfl,rfl,rfl,rfl,rfl,rfl,rfl,rfl⟩,rfl,rfl,rfl⟩
 exact⟨rfl,rfl,rfl,rfl,rfl,rfl,rfl,rfl,rfl,rfl,rfl⟩
theorem str_iff {a b:Str}:ul a=ul b↔a=b:=⟨fun h=>xt h,fun h=>h▸rfl⟩
structure A5 (x:jq):Prop where
  leaves:x.leaves.length<1000000000
  parents:x.parents.length<1000000000
  rows:x.rows.length<1000000000
  leafP:∀r∈x.leaves,r.path.length<1000000000
  rowP:∀r∈x.rows,r.path.length<1000000000
theorem sameObj_calls (w:World) {x y:jq} {a b:vb} (hx:u4 x) (hy:u4 y) (hxl:B7 w x a) (hyl:B7 w y b) (hsx:A5 x):
  gn prog 223 [.agg (jn x a).toArray,.agg (jn y b).toArray] w fun v w'=>v= .bool (decide (x=y))∧Ext No w w':=by
 refine gx func223 ?_
 have d:=Ext.refl No w
 refine ko (gw rfl fun B D E f q=> ?_)
 have d:=d.gb q
 have f:gz D B 37 (jn x a):=f
 have i:=f.kj.obj hx
 refine gw rfl fun C F G g k=> ?_
 have f:=f.ga k
 have i:=i.ga k
 have d:=d.gb k
 have g:gz F C 37 (jn y b):=g
 have j:=g.kj.obj hy
 refine km rfl (ji (α:=Bool) [2,3] rfl (fun z=>[(5,.bool z)]) (fun z u=>(z=decide (Flat x y))∧gz u B 37 (jn x a)∧gz u C 37 (jn y b)∧Ext No w u) ?_ ?_)
 ·refine gy ?_
  refine j0 gc rfl (gu rfl i.kind (j0 gc rfl (gu rfl j.kind (j0 gc rfl (ja 11 rfl (fun c=> ?_) (fun c=> ?_))))))
  ·have H:x.kind=y.kind:=by exact c
   refine gq gc 1 rfl (gu rfl i.text (gq gc 1 rfl (gu rfl j.text (gq gc 3 rfl (ja 18 rfl (fun c=> ?_) (fun c=> ?_))))))
   ·have I:x.text=y.text:=by exact str_iff.1 c
    refine gq gc 1 rfl (gu rfl i.style (gq gc 1 rfl (gu rfl j.style (gq gc 3 rfl (ja 25 rfl (fun c=> ?_) (fun c=> ?_))))))
    ·have J:x.style=y.style:=by exact c
     refine gq gc 1 rfl (jm rfl i.tree (uv.len hx.tree) (gq gc 1 rfl (jm rfl j.tree (uv.len hy.tree) ?_)))
     refine wl (C0 rfl gId 10 zd kId (ue hx.tree) (ue hy.tree) (vt hx.tree) (vt hy.tree) ua ?_)
     simp only[cO]
     refine j0 gc rfl (ja 32 rfl (fun c=> ?_) (fun c=> ?_))
     ·have K:x.tree=y.tree:=by exact c
      refine gq gc 1 rfl (jm rfl i.base (uv.len hx.base) (gq gc 1 rfl (jm rfl j.base (uv.len hy.base) ?_)))
      refine wl (C0 rfl gId 10 zd kId (ue hx.base) (ue hy.base) (vt hx.base) (vt hy.base) ua ?_)
      simp only[cO]
      refine j0 gc rfl (ja 39 rfl (fun c=> ?_) (fun c=> ?_))
      ·have L:x.base=y.base:=by exact c
       refine gq gc 1 rfl (gu rfl i.number (gq gc 1 rfl (gu rfl j.number (gq gc 3 rfl (ja 46 rfl (fun c=> ?_) (fun c=> ?_))))))
       ·have M:x.number=y.number:=by omega
        refine gq gc 1 rfl (gu rfl i.author (gq gc 1 rfl (gu rfl j.author (gq gc 3 rfl (ja 53 rfl (fun c=> ?_) (fun c=> ?_))))))
        ·have N:x.author=y.author:=by omega
         refine gq gc 1 rfl (gu rfl i.note (gq gc 1 rfl (gu rfl j.note (gq gc 3 rfl (gk ?_)))))
         exact gr (_) rfl ⟨by rw[aH,str_iff];exact⟨fun h=>⟨H,I,J,K,L,M,N,h⟩,fun h=>h.2.2.2.2.2.2.2⟩,f,g,d⟩
        have O:¬x.author=y.author:=fun e=>c (by rw[e])
        refine gq gc 7 rfl (gk ?_)
        exact gr (false) rfl ⟨by symm;rw[aC];exact fun h=>O h.2.2.2.2.2.2.1,f,g,d⟩
       have P:¬x.number=y.number:=fun e=>c (by rw[e])
       refine gq gc 14 rfl (gk ?_)
       exact gr (false) rfl ⟨by symm;rw[aC];exact fun h=>P h.2.2.2.2.2.1,f,g,d⟩
      have Q:¬x.base=y.base:=fun e=>c (by rw[e])
      refine gq gc 21 rfl (gk ?_)
      exact gr (false) rfl ⟨by symm;rw[aC];exact fun h=>Q h.2.2.2.2.1,f,g,d⟩
     have R:¬x.tree=y.tree:=fun e=>c (by rw[e])
     refine gq gc 28 rfl (gk ?_)
     exact gr (false) rfl ⟨by symm;rw[aC];exact fun h=>R h.2.2.2.1,f,g,d⟩
    have S:¬x.style=y.style:=fun e=>c (by rw[e])
    refine gq gc 35 rfl (gk ?_)
    exact gr (false) rfl ⟨by symm;rw[aC];exact fun h=>S h.2.2.1,f,g,d⟩
   have T:¬x.text=y.text:=fun e=>c (by rw[e])
   refine gq gc 42 rfl (gk ?_)
   exact gr (false) rfl ⟨by symm;rw[aC];exact fun h=>T h.2.1,f,g,d⟩
  have U:¬x.kind=y.kind:=fun e=>c (by rw[e])
  refine gq gc 49 rfl (gk ?_)
  exact gr (false) rfl ⟨by symm;rw[aC];exact fun h=>U h.1,f,g,d⟩
 rintro z V ⟨p,f,g,d⟩
 have i:=f.kj.obj hx
 have j:=g.kj.obj hy
 refine ji (α:=Bool) [] rfl (fun z=>[(4,.bool z)]) (fun z u=>(z=decide (x=y))∧Ext No w u) ?_ ?_
 ·refine gy ?_
  refine j0 gc rfl (uq 61 rfl (fun c=> ?_) (fun c=> ?_))
  ·have p:Flat x y:=by simpa [c] using p
   refine gq gc 1 rfl (gu rfl i.leaves (gq gc 1 rfl (gu rfl j.leaves ?_)))
   refine gh call234 rfl (equalLeaf_calls V (hxl.leaves.ga d) (hyl.leaves.ga d) hsx.leaves hx.leaves hy.leaves) fun Y W r=> ?_
   obtain⟨rfl,l⟩:=r
   have i:=i.ga l
   have j:=j.ga l
   have d:=d.gb l
   refine j0 gc rfl (ja 68 rfl (fun c=> ?_) (fun c=> ?_))
   ·have m:=c
    refine gq gc 1 rfl (gu rfl i.parents (gq gc 1 rfl (gu rfl j.parents ?_)))
    refine gh call235 rfl (equalId_calls W (hxl.parents.ga d) (hyl.parents.ga d) hsx.parents hx.parents hy.parents) fun Z X s=> ?_
    obtain⟨rfl,n⟩:=s
    have i:=i.ga n
    have j:=j.ga n
    have d:=d.gb n
    refine j0 gc rfl (ja 75 rfl (fun c=> ?_) (fun c=> ?_))
    ·have o:=c
     refine gq gc 2 rfl (gu rfl i.rows (gq gc 2 rfl (gu rfl j.rows ?_)))
     refine gh call236 rfl (equalChange_calls X (hxl.rows.ga d) (hyl.rows.ga d) hsx.rows hx.rows hy.rows) fun v6 w6 t=> ?_
     obtain⟨rfl,A⟩:=t
     have d:=d.gb A
     refine j0 gc rfl (gk ?_)
     exact gr (_) rfl ⟨by rw[aH];exact⟨fun h=>same_iff.2 ⟨p,m,o,h⟩,fun h=>(same_iff.1 h).2.2.2⟩,d⟩
    have o:=c
    refine gq gc 9 rfl (gk ?_)
    exact gr (false) rfl ⟨by symm;rw[aC];exact fun h=>o (same_iff.1 h).2.2.1,d⟩
   have m:=c
   refine gq gc 16 rfl (gk ?_)
   exact gr (false) rfl ⟨by symm;rw[aC];exact fun h=>m (same_iff.1 h).2.1,d⟩
  have p:¬Flat x y:=by simpa [c] using p
  refine gq gc 23 rfl (gk ?_)
  exact gr (false) rfl ⟨by symm;rw[aC];exact fun h=>p (same_iff.1 h).1,d⟩
 rintro z w7 ⟨rfl,d⟩
 refine j9 (gv rfl rfl ?_)
 exact⟨rfl,d⟩
theorem objZ_l (w:World):B7 w uo ⟨none,0,none,0,none,0⟩:=⟨Sl.nil _ _ _,Sl.nil _ _ _,Sl.nil _ _ _⟩
theorem zv8:jn uo ⟨none,0,none,0,none,0⟩=cellsOf ti37.zero:=by kernel_rfl
theorem xv5 (w:World) {x:jq} {a:vb} (hx:u4 x) (hxl:B7 w x a) (hsx:A5 x):
  gn prog 212 [.agg (jn x a).toArray] w fun v w'=>v= .bool (decide (x=uo))∧Ext No w w':=by
 refine gx func212 ?_
 have c:=Ext.refl No w
 refine ko (gw rfl fun h g i b d=> ?_)
 have c:=c.gb d
 have b:gz g h 37 (jn x a):=b
 refine km rfl (ko (je b rfl (gp hx) (kg rfl trivial (l':=jn uo ⟨none,0,none,0,none,0⟩) zv8.symm ?_)))
 refine gh call223 rfl (sameObj_calls g hx qf (hxl.ga c) (objZ_l _) hsx) fun j k e=> ?_
 obtain⟨rfl,f⟩:=e
 have c:=c.gb f
 refine vr rfl (gv rfl rfl ?_)
 exact⟨rfl,c⟩
theorem A6:ge Ao=cellsOf ti30.zero:=by kernel_rfl
theorem yb:uv Ao:=rfl
theorem indexId_calls (w:World) {p:Option Addr} {c:Nat} {l:List (List UInt8)} {x:List UInt8} (h:Sl w p l.length 32 (l.flatMap ge)) (hl:l.length<1000000000) (h1:∀r∈l,uv r) (hx:uv x):
  gn prog 244 [.slice p l.length c,.agg (ge x).toArray] w fun v w'=>∃n:Int,v= .int .i64 n∧(0≤n↔x∈l)∧Ext No w w':=by
 refine gx func244 ?_
 have d:=Ext.refl No w
 refine ko (gw rfl fun F H I a A=> ?_)
 have d:=d.gb A
 have a:gz H F 30 (ge x):=a
 refine km rfl (gl (jd rfl (j8 ?_)))
 refine jj (α:=Nat) [0,3,7] rfl (fun z=>[(8,.int .i64 (z:Int))]) (fun z u=>(z≤l.length∧∀k (G:k<l.length),k<z→¬x=l[k])∧gz u F 30 (ge x)∧Ext No w u) (fun z u=>l.length-z) (0) rfl ⟨⟨aJ _,fun k _ h=>absurd h (bW _)⟩,a,d⟩ ?_
 rintro i K ⟨⟨j,m⟩,a,d⟩
 refine jd rfl (gl (jl rfl (fun o=> ?_) (fun o=> ?_)))
 ·have j:i<l.length:=by omega
  obtain⟨b,B,rfl,q⟩:=(h.qd (fun r C=>(h1 r C).len) zo)
  have f:=h1 _ (aG j)
  refine Ac (jd rfl (gl (jr rfl 6 [qP 0,qP 1,qP 2,qP 3,qP 4,qP 5] [] (No) zk fun L s J=> ?_)))
  have D:=a
  have E:=d
  have a:=a.ga s
  have d:=d.gb s
  refine qa gc rfl rfl (fun w' g=>(D.ga g).kj) hx.len ?_
  refine gt gc 2 rfl (qk gc rfl rfl 32 rfl i rfl zo (B+i*32) rfl (qa gc rfl rfl (fun w' g=>((q i j).ga (E.gb g))) f.len ?_))
  refine zv4 rfl rfl gId 10 zd kId (ue hx) (ue f) (vt hx) (vt f) ua ?_
  simp only[cO]
  refine jg (j5 (jp (jl rfl (fun o=> ?_) (fun o=> ?_))))
  ·refine gl ?_
   refine gy (vr rfl (gGl (gv rfl rfl ?_)))
   exact⟨_,rfl,⟨fun _=>o▸aG j,fun _=>dN _⟩,d⟩
  refine kc ?_
  refine Aa rfl ?_
  rw[jz _ zo]
  refine gk ?_
  exact jk (i+1) rfl ⟨⟨by omega,zj0 (p:=fun y=>¬x=y) m j o⟩,a,d⟩ zf
 have t:¬x∈l:=fun C=>by
  obtain⟨k,G,e⟩:=bJ.1 C
  exact m k G zo e.symm
 refine Ak (jd rfl (j9 (gv rfl rfl ?_)))
 exact⟨_,rfl,⟨fun h=>absurd h zd,fun h=>absurd h t⟩,d⟩
theorem containsId_calls (w:World) {p:Option Addr} {c:Nat} {l:List (List UInt8)} {x:List UInt8} (h:Sl w p l.length 32 (l.flatMap ge)) (hl:l.length<1000000000) (h1:∀r∈l,uv r) (hx:uv x):
  gn prog 231 [.slice p l.length c,.agg (ge x).toArray] w fun v w'=>v= .bool (decide (x∈l))∧Ext No w w':=by
 refine gx func231 ?_
 have b:=Ext.refl No w
 refine ko (gw rfl fun j i k a d=> ?_)
 have b:=b.gb d
 have a:gz i j 30 (ge x):=a
 refine km rfl (ki rfl (je a rfl hx.len (gh call244 rfl (indexId_calls i (h.ga b) hl h1 hx) fun m o e=> ?_)))
 obtain⟨n,rfl,f,g⟩:=e
 have b:=b.gb g
 refine vr rfl (gv rfl rfl ?_)
 exact⟨congrArg Value.bool (aH.2 f),b⟩
theorem styled_no {o:jq} (h:Ao∈o.parents∨o.tree=Ao):¬D6 o:=fun hs=>h.elim hs.2.1 hs.1
theorem styled1 {o:jq} (h:¬(Ao∈o.parents∨o.tree=Ao)) (hs:o.style=1):D6 o↔o.parents.length=0∧o.base=Ao∧o.rows.length=0∧o.number=0:=by
 constructor
 ·rintro⟨_,_,a|a|a⟩
  ·exact a.2
  ·exact absurd (hs.symm.trans a.1) zd
  exact absurd (hs.symm.trans a.1) zd
 exact fun a=>⟨fun e=>h (.inr e),fun e=>h (.inl e),.inl ⟨hs,a⟩⟩
theorem styled2 {o:jq} (h:¬(Ao∈o.parents∨o.tree=Ao)) (hs:o.style=2):D6 o↔o.parents.length=1∧o.base=Ao∧0<o.number:=by
 constructor
 ·rintro⟨_,_,a|a|a⟩
  ·exact absurd (hs.symm.trans a.1) zd
  ·exact a.2
  exact absurd (hs.symm.trans a.1) zd
 exact fun a=>⟨fun e=>h (.inr e),fun e=>h (.inl e),.inr (.inl ⟨hs,a⟩)⟩
theorem styled3 {o:jq} (h:¬(Ao∈o.parents∨o.tree=Ao)) (hs:o.style=3):D6 o↔o.parents.length=2∧o.parents.getD 0 []≠o.parents.getD 1 []∧0<o.number:=by
 constructor
 ·rintro⟨_,_,a|a|a⟩
  ·exact absurd (hs.symm.trans a.1) zd
  ·exact absurd (hs.symm.trans a.1) zd
  exact a.2
 exact fun a=>⟨fun e=>h (.inr e),fun e=>h (.inl e),.inr (.inr ⟨hs,a⟩)⟩
theorem styled0 {o:jq} (h1:¬o.style=1) (h2:¬o.style=2) (h3:¬o.style=3):¬D6 o:=fun h=>h.2.2.elim (fun h=>h1 h.1) fun h=>h.elim (fun h=>h2 h.1) fun h=>h3 h.1
theorem getD_get {α:Type} {l:List α} {i:Nat} (h:i<l.length) (d:α):l.getD i d=l[i]:=by rw[cK,aN h];rfl
theorem styledObj_calls (w:World) {x:jq} {a:vb} (hx:u4 x) (hxl:B7 w x a) (hsx:A5 x):
  gn prog 215 [.agg (jn x a).toArray] w fun v w'=>v= .bool (decide (D6 x))∧Ext No w w':=by
 refine gx func215 ?_
 have hX:=Ext.refl No w
 refine ko (gw rfl fun b1 w1 hn1 hb1 hE1=> ?_)
 have hX:=hX.gb hE1
 have hb1:gz w1 b1 37 (jn x a):=hb1
 have oa:=hb1.kj.obj hx
 refine km rfl (gl (ji (α:=Bool) [1] rfl (fun z=>[(13,.bool z)]) (fun z u=>(z=decide (Ao∈x.parents∨x.tree=Ao))∧gz u b1 37 (jn x a)∧Ext No w u) ?_ ?_))
 ·refine gy ?_
  refine j0 gc rfl (gu rfl oa.parents (kg rfl trivial (l':=ge Ao) A6.symm ?_))
  refine gh call231 rfl (containsId_calls w1 (hxl.parents.ga hX) hsx.parents hx.parents yb) fun v2 w2 hr2=> ?_
  obtain⟨rfl,hE2⟩:=hr2
  have hb1:=hb1.ga hE2
  have oa:=oa.ga hE2
  have hX:=hX.gb hE2
  refine j0 gc rfl (ja 8 rfl (fun hg=> ?_) (fun hg=> ?_))
  ·refine gq gc 5 rfl ?_
   refine gk ?_
   exact gr (true) rfl ⟨by symm;rw[aU];exact .inl hg,hb1,hX⟩
  refine gq gc 1 rfl ?_
  refine jm rfl oa.tree (uv.len hx.tree) (kg rfl trivial (l':=ge Ao) A6.symm (wl (C0 rfl gId 10 zd kId (ue hx.tree) (ue yb) (vt hx.tree) (vt yb) ua ?_)))
  simp only[cO]
  refine j0 gc rfl (gk ?_)
  exact gr (_) rfl ⟨by rw[aH];exact⟨fun h=> .inr h,fun h=>h.resolve_left hg⟩,hb1,hX⟩
 rintro z w3 ⟨rfl,hb1,hX⟩
 have oa:=hb1.kj.obj hx
 refine jl rfl (fun hc=> ?_) (fun hc=> ?_)
 ·have hno:=styled_no hc
  refine jd rfl (j9 (j7 (gv rfl rfl ?_)))
  exact⟨congrArg Value.bool (bO hno).symm,hX⟩
 have h0:=hc
 refine x3 (ki rfl (gu rfl oa.parents (km rfl (gl (ki rfl (gu rfl oa.style (qq (j8 (ko ?_)))))))))
 refine km rfl (jl rfl (fun hc=> ?_) (fun hc=> ?_))
 ·have h1:x.style=1:=hc
  refine ji (α:=Bool) [] rfl (fun z=>[(2,.bool z)]) (fun z u=>(z=decide (D6 x))∧Ext No w u) ?_ ?_
  ·refine gy ?_
   refine j0 gc rfl (ja 23 rfl (fun hg=> ?_) (fun hg=> ?_))
   ·refine gq gc 1 rfl ?_
    refine jm rfl oa.base (uv.len hx.base) (kg rfl trivial (l':=ge Ao) A6.symm (wl (C0 rfl gId 10 zd kId (ue hx.base) (ue yb) (vt hx.base) (vt yb) ua ?_)))
    simp only[cO]
    refine j0 gc rfl (ja 29 rfl (fun hg=> ?_) (fun hg=> ?_))
    ·have hb:=hg
     refine gq gc 2 rfl (gu rfl oa.rows (gq gc 4 rfl (ja 36 rfl (fun hg=> ?_) (fun hg=> ?_))))
     ·refine gq gc 1 rfl ?_
      refine gu rfl oa.number (gq gc 3 rfl (gk ?_))
      exact gr (_) rfl ⟨by rw[aH,styled1 h0 h1];exact⟨fun h=>⟨by omega,hb,by omega,by omega⟩,fun h=>by omega⟩,hX⟩
     refine gq gc 5 rfl ?_
     refine gk ?_
     exact gr (false) rfl ⟨by symm;rw[aC,styled1 h0 h1];intro h;omega,hX⟩
    have hb:=hg
    refine gq gc 12 rfl (gk ?_)
    exact gr (false) rfl ⟨by symm;rw[aC,styled1 h0 h1];intro h;exact hb h.2.1,hX⟩
   refine gq gc 18 rfl ?_
   refine gk ?_
   exact gr (false) rfl ⟨by symm;rw[aC,styled1 h0 h1];intro h;omega,hX⟩
  rintro z w4 ⟨rfl,hX⟩
  refine j9 (u1 (j7 (gv rfl rfl ?_)))
  exact⟨rfl,hX⟩
 have h1:¬x.style=1:=hc
 refine jd rfl (jl rfl (fun hc=> ?_) (fun hc=> ?_))
 ·have h2:x.style=2:=hc
  refine ji (α:=Bool) [] rfl (fun z=>[(2,.bool z)]) (fun z u=>(z=decide (D6 x))∧Ext No w u) ?_ ?_
  ·refine gy ?_
   refine j0 gc rfl (ja 45 rfl (fun hg=> ?_) (fun hg=> ?_))
   ·refine gq gc 1 rfl ?_
    refine jm rfl oa.base (uv.len hx.base) (kg rfl trivial (l':=ge Ao) A6.symm (wl (C0 rfl gId 10 zd kId (ue hx.base) (ue yb) (vt hx.base) (vt yb) ua ?_)))
    simp only[cO]
    refine j0 gc rfl (ja 51 rfl (fun hg=> ?_) (fun hg=> ?_))
    ·have hb:=hg
     refine gq gc 1 rfl (gu rfl oa.number (gq gc 3 rfl (gk ?_)))
     exact gr (_) rfl ⟨by rw[aH,styled2 h0 h2];exact⟨fun h=>⟨by omega,hb,by omega⟩,fun h=>by omega⟩,hX⟩
    have hb:=hg
    refine gq gc 5 rfl (gk ?_)
    exact gr (false) rfl ⟨by symm;rw[aC,styled2 h0 h2];intro h;exact hb h.2.1,hX⟩
   refine gq gc 11 rfl ?_
   refine gk ?_
   exact gr (false) rfl ⟨by symm;rw[aC,styled2 h0 h2];intro h;omega,hX⟩
  rintro z w5 ⟨rfl,hX⟩
  refine j9 (u1 (j7 (gv rfl rfl ?_)))
  exact⟨rfl,hX⟩
 have h2:¬x.style=2:=hc
 refine jd rfl (jl rfl (fun hc=> ?_) (fun hc=> ?_))
 ·have h3:x.style=3:=hc
  refine ji (α:=Bool) [] rfl (fun z=>[(2,.bool z)]) (fun z u=>(z=decide (D6 x))∧Ext No w u) ?_ ?_
  ·refine jr rfl 19 [qP 0,qP 1,qP 2,qP 3,qP 4,qP 5,qP 6,qP 7,qP 8,qP 9,qP 10,qP 11,qP 12,qP 13,qP 14,qP 15,qP 16,qP 17,qP 18] [] (No) zk fun w6 hE6 hs6=> ?_
   have oad:=oa
   have hXd:=hX
   have hX:=hX.gb hE6
   refine gt gc 3 rfl (vy 60 rfl (fun hg=> ?_) (fun hg=> ?_))
   ·have hl2:x.parents.length=2:=by omega
    obtain⟨b,off,hp,hsa⟩:=hxl.parents.qd (fun r hr=>uv.len (hx.parents r hr)) zo
    have ha0:=hx.parents _ (aG (show 0<x.parents.length by omega))
    have ha1:=hx.parents _ (aG (show 1<x.parents.length by omega))
    refine gt gc 1 rfl (j3 gc rfl rfl (fun w' hw'=>(oad.ga hw').parents) ?_)
    rw[hp]
    refine qk gc rfl rfl 32 rfl 0 rfl zo (off+0*32) rfl (qa gc rfl rfl (fun w' hw'=>((hsa 0 zo).ga (hXd.gb hw'))) (uv.len ha0) ?_)
    refine gt gc 1 rfl (j3 gc rfl rfl (fun w' hw'=>(oad.ga hw').parents) ?_)
    rw[hp]
    refine qk gc rfl rfl 32 rfl 1 rfl zo (off+1*32) rfl (qa gc rfl rfl (fun w' hw'=>((hsa 1 zo).ga (hXd.gb hw'))) (uv.len ha1) ?_)
    refine zv4 rfl rfl gId 10 zd kId (ue ha0) (ue ha1) (vt ha0) (vt ha1) ua ?_
    simp only[bI,cX]
    refine gt gc 2 rfl (vy 71 rfl (fun hg=> ?_) (fun hg=> ?_))
    ·have hne:=hg
     refine gt gc 1 rfl (j3 gc rfl rfl (fun w' hw'=>(oad.ga hw').number) ?_)
     refine gt gc 3 rfl (jg (j5 ?_))
     exact gr (_) rfl ⟨by rw[aH,styled3 h0 h3,getD_get zo,getD_get zo];exact⟨fun h=>⟨hl2,hne,by omega⟩,fun h=>by omega⟩,hX⟩
    have hne:=hg
    refine gt gc 5 rfl (jg (j5 ?_))
    exact gr (false) rfl ⟨by symm;rw[aC,styled3 h0 h3,getD_get zo,getD_get zo];intro h;exact hne h.2.1,hX⟩
   refine gt gc 16 rfl ?_
   refine jg (j5 ?_)
   exact gr (false) rfl ⟨by symm;rw[aC,styled3 h0 h3];intro h;omega,hX⟩
  rintro z w7 ⟨rfl,hX⟩
  refine j9 (u1 (j7 (gv rfl rfl ?_)))
  exact⟨rfl,hX⟩
 have h3:¬x.style=3:=hc
 refine kc (js (jp (jd rfl (j9 (gv rfl rfl ?_)))))
 exact⟨congrArg Value.bool (bO (styled0 h1 h2 h3)).symm,hX⟩
end Go.Proofs.YtpdiphfjmepijaaGreatDoor
namespace Go.Vc
theorem Own.D7 {w:World} {p:Option Addr} {n c T sz:Nat} {xs:List Value} (h:Own w p n c T sz xs) {x:Nat} (hx:jb p x):∃l,gz w x T l:=by
 rcases h with⟨hp,_⟩|⟨b,l,hp,hb,_⟩
 ·rw[hp] at hx;cases hx
 rw[hp] at hx
 obtain rfl:b=x:=by simpa using hx
 exact⟨l,hb⟩
theorem Own.zj7 {w:World} {p:Option Addr} {n c T sz:Nat} {xs:List Value} (h:Own w p n c T sz xs) {x b U:Nat} {m:List Value} (hx:jb p x) (hb:gz w b U m) (hT:T≠U):x≠b:=by
 obtain⟨l,hl⟩:=h.D7 hx
 exact hl.ne hb hT
theorem Own.ju {w w':World} {p:Option Addr} {n c T sz:Nat} {xs:List Value} (h:Own w p n c T sz xs) {b U:Nat} {m:List Value} (hE:Ext (One b) w w') (hb:gz w b U m) (hT:T≠U):Own w' p n c T sz xs:=
 h.ext hE fun _ hx e=>h.zj7 hx hb hT e
theorem gz.ke {w w':World} {p:Option Addr} {n c T sz:Nat} {xs:List Value} {b U:Nat} {m:List Value} (hb:gz w b U m) (h:Own w p n c T sz xs) (hE:Ext (jb p) w w') (hT:T≠U):gz w' b U m:=
 hb.ext hE fun hx=>h.zj7 hx hb hT rfl
theorem Sl.lt {w:World} {p:Option Addr} {n sz:Nat} {xs:List Value} (h:Sl w p n sz xs) {b off:Nat} (hp:p=some ⟨b,off,none⟩) (hx:xs≠[]):b<w.heap.size:=by
 obtain⟨c,e|⟨g,d,a,f⟩⟩:=h
 ·subst e
  rw[cW] at c
  exact absurd (aZ c) hx
 rw[hp] at a
 cases a
 exact f.lt hx
theorem Seg.one {w:World} {b off:Nat} {v:Value} (h:w.cell? ⟨b,off,none⟩=some v):Seg w b off [v]:=fun i u hi=>by
 cases i with
 |zero=>cases hi;exact h
 |succ i=>cases hi
instance {α:Type} (l:List α) (f:α→List Value) [∀x,OneC (f x)]:OneC (l.flatMap f):=⟨fun u hu=>by
  obtain⟨r,_,hr⟩:=List.mem_flatMap.1 hu
  exact OneC.h u hr⟩
end Go.Vc
namespace Go.Proofs.YtpdiphfjmepijaaGreatDoor
open Go.Proofs.Tryz
open Go.Vc
def C5 (x:jf):Bj:=⟨x.path,[]⟩
theorem leafRows_ok {l:List jf}:xw4 (l.map C5)↔xx2 (l.map jf.path):=by
 have e:(l.map C5).map Bj.path=l.map jf.path:=by rw[List.map_map];rfl
 rw[xw4,e]
 refine⟨fun h=>h.2,fun h=>⟨fun⟨r,a,b⟩=> ?_,h⟩⟩
 obtain⟨x,_,rfl⟩:=bN.1 a
 exact absurd b (by simp[C5])
def yq7 (l:List jf):List Value:=(l.map C5).flatMap Bj.cells
theorem leafRows_take (l:List jf) {i:Nat} (h:i<l.length):yq7 (l.take (i+1))=yq7 (l.take i)++(C5 l[i]).cells:=by
 rw[yq7,aQ h,bX,bC]
 simp[yq7]
theorem maxLen_big:1000000000≤maxLen:=by decide
theorem leaved1_calls (w:World) (r:jf) (hr:r.cells.length=33):
  gn prog 226 [.agg r.cells.toArray] w fun v w'=>v= .bool (decide (r.id=Ao))∧Ext No w w':=by
 have b:uv r.id:=by have:=hr;simp only[jf.cells,aW,gm] at this;exact Nat.succ.inj this
 refine gx func226 ?_
 have c:=Ext.refl No w
 refine ko (gw rfl fun e f g a d=> ?_)
 have c:=c.gb d
 have a:gz f e 148 (r.cells):=a
 refine km rfl (ki rfl (jm rfl (by have:=a.kj.drop 1;exact this) b.len (kg rfl trivial (l':=ge Ao) A6.symm ?_)))
 refine wl (C0 rfl gId 10 zd kId (ue b) (ue yb) (vt b) (vt yb) ua ?_)
 simp only[cO]
 refine vr rfl (gv rfl rfl ?_)
 exact⟨rfl,c⟩
theorem leaved_calls (w:World) {p:Option Addr} {c:Nat} {l:List jf} (h:Sl w p l.length 33 (l.flatMap jf.cells)) (hl:l.length<1000000000) (h1:∀r∈l,LeafIn r) (h2:∀r∈l,r.path.length<1000000000):
  gn prog 213 [.slice p l.length c] w fun v w'=>v= .bool (decide (Leaved l))∧Ext No w w':=by
 refine gx func213 ?_
 have d:=Ext.refl No w
 refine jd rfl (ko (gw rfl fun b3 w1 S a T=> ?_))
 have U:=aA d.size S
 have d:=d.gb T
 have a:gz w1 b3 319 ([.slice none 0 0]):=a
 refine qq (gl (jd rfl (j8 ?_)))
 refine jj (α:=Nat×Option Addr×Nat) [0,3,6,7] rfl (fun z=>[(8,.int .i64 (z.1:Int))]) (fun z u=>(z.1≤l.length∧Own u z.2.1 z.1 z.2.2 321 2 (yq7 (l.take z.1))∧(∀x,jb z.2.1 x→w.heap.size≤x))∧gz u b3 319 ([.slice z.2.1 z.1 z.2.2])∧Ext No w u) (fun z u=>l.length-z.1) (0,none,0) rfl ⟨⟨aJ _,Own.nil _ _ _,fun x j=>by cases j⟩,a,d⟩ ?_
 rintro⟨i,q,k⟩ w2 ⟨⟨F,f,s⟩,a,d⟩
 try dsimp only
 dsimp only at F f s a
 refine jd rfl (gl (jl rfl (fun hc=> ?_) (fun hc=> ?_)))
 ·have F:i<l.length:=by omega
  obtain⟨b,V,rfl,G⟩:=h.qd (fun r g=>jf.len (h1 r g).2) zo
  have t:=h1 _ (aG F)
  refine Ac (ko (ka rfl 33 rfl i rfl zo (V+i*33) rfl (jm rfl ((G i F).ga d) (jf.len t.2) (gw rfl fun b5 w3 H n A=> ?_))))
  have B:=j2 a.lt H
  have W:=aA d.size H
  have a:=a.ga A
  have f:=f.ext A fun _ _=>id
  have d:=d.gb A
  have I:=n
  refine wl (j4 (l':=(l[i]).cells) gc n rfl rfl (jf.len t.2) (jf.len t.2) OneC.h fun w4 n C a6=> ?_)
  have a:=a.gj C B
  have f:=f.ju C I zd
  have d:=d.gi C W
  refine qq (yl rfl (j6 a rfl rfl (j0 gc rfl (j6 n rfl rfl (kg rfl ⟨⟨rfl,by decide⟩,trivial⟩ (l':=(C5 l[i]).cells) rfl ?_)))))
  refine wl (qi gc rfl 2 rfl rfl rfl zd zd ⟨⟨rfl,by decide⟩,trivial⟩ (l':=(C5 l[i]).cells) rfl fun X w5 a5 J D a7=> ?_)
  have a:=a.ga D
  have f:=f.ext D fun _ _=>id
  have d:=d.gb D
  have K:=d
  refine wl (va gc rfl 2 32 rfl rfl rfl zd f (Src.slice (m:=1) ⟨rfl,.inr ⟨X,0,rfl,J.kj⟩⟩ OneC.h) zm zn fun p6 c6 w6 Y L Z=> ?_)
  have d:=K.trans L fun y hy hF=>by have:=s y hF;omega
  have a:=a.ke f L zd
  have o:∀x,jb p6 x→w.heap.size≤x:=fun x j=>(Z x j).elim (fun h=>s x h) fun h=>aA K.size h
  obtain⟨P,Q,M,a0,E⟩:∃P Q,P=p6∧Q=c6∧Own w6 P (i+1) Q 321 2 (yq7 (l.take (i+1))):=⟨_,_,rfl,rfl,by rw[leafRows_take _ F];exact Y⟩
  rw[←M] at o
  rw[←M,←a0]
  have N:=a
  refine j0 gc rfl (kl a rfl rfl rfl fun w7 a O a8=> ?_)
  have E:=E.ju O N zd
  have d:=d.gi O U
  refine gk (Aa rfl ?_)
  rw[jz _ zo]
  refine gk ?_
  exact jk (i+1,P,Q) rfl ⟨⟨F,E,o⟩,a,d⟩ zf
 have h0:i=l.length:=by omega
 subst h0
 rw[bZ] at f
 refine Ak (ji (α:=Bool) [] rfl (fun z=>[(2,.bool z)]) (fun z u=>(z=decide (Leaved l))∧Ext No w u) ?_ ?_)
 ·refine gy ?_
  refine je a rfl rfl ?_
  rw[show Value.slice q l.length k= .slice q (l.map C5).length k from by rw[aE]]
  refine gh call224 rfl (check_calls w2 (c:=k) (l:=l.map C5) (by have:=f.sl;rw[aE];exact this) (by rw[aE];exact hl) (fun r g=>by obtain⟨x,j,rfl⟩:=bN.1 g;exact h2 x j)) fun v8 w8 a1=> ?_
  obtain⟨rfl,a2⟩:=a1
  have d:=d.gb a2
  refine j0 gc rfl (ja 24 rfl (fun R=> ?_) (fun R=> ?_))
  ·have g:=leafRows_ok.1 (show xw4 (l.map C5) from by by_cases h:xw4 (l.map C5);exact h;rw[aP h] at R;exact absurd R zd)
   refine gq gc 1 rfl ?_
   refine gh call225 rfl (yj0 w8 (fun r g=>jf.len (h1 r g).2) (h.ga d) hl (fun r=>r.id=Ao) call226 fun w r g=>leaved1_calls w r g) fun v9 w9 a3=> ?_
   obtain⟨rfl,a4⟩:=a3
   have d:=d.gb a4
   refine gq gc 3 rfl (gk ?_)
   exact gr (_) rfl ⟨by rw[←decide_not,aH];exact⟨fun h=>⟨g,fun x j e=>h ⟨x,j,e⟩⟩,fun h ⟨x,j,e⟩=>h.2 x j e⟩,d⟩
  have g:¬xx2 (l.map jf.path):=fun h=>R (aR (leafRows_ok.2 h))
  refine gq gc 5 rfl (gk ?_)
  exact gr (false) rfl ⟨by symm;rw[aC];exact fun h=>g h.1,d⟩
 rintro z a9 ⟨rfl,d⟩
 refine j9 (gv rfl rfl ?_)
 exact⟨rfl,d⟩
theorem yz7 {p:Prop} [Decidable p] {n:Int} (hn:n≠0):(if p then 0 else n)=0↔p:=by
 by_cases h:p
 ·simp[h]
 simp[h,hn]
theorem yj2 {o:jq} (h:o.kind=1):xf o↔BlobOk o:=by
 constructor
 ·rintro(h1|h1|h1)
  ·exact h1.2
  ·exact absurd (h.symm.trans h1.1) zd
  exact absurd (h.symm.trans h1.1) zd
 exact fun h1=> .inl ⟨h,h1⟩
theorem zz8 {o:jq} (h:o.kind=2):xf o↔TreeOk o:=by
 constructor
 ·rintro(h1|h1|h1)
  ·exact absurd (h.symm.trans h1.1) zd
  ·exact h1.2
  exact absurd (h.symm.trans h1.1) zd
 exact fun h1=> .inr (.inl ⟨h,h1⟩)
theorem zx {o:jq} (h:o.kind=3):xf o↔ComOk o:=by
 constructor
 ·rintro(h1|h1|h1)
  ·exact absurd (h.symm.trans h1.1) zd
  ·exact absurd (h.symm.trans h1.1) zd
  exact h1.2
 exact fun h1=> .inr (.inr ⟨h,h1⟩)
theorem fields0 {o:jq} (h1:¬o.kind=1) (h2:¬o.kind=2) (h3:¬o.kind=3):¬xf o:=fun h=>h.elim (fun h=>h1 h.1) fun h=>h.elim (fun h=>h2 h.1) fun h=>h3 h.1
theorem fielded_calls (w:World) {x:jq} {a:vb} (hx:u4 x) (hxl:B7 w x a) (hsx:A5 x):
  gn prog 185 [.agg (jn x a).toArray] w fun v w'=>v= .bool (decide (xf x))∧Ext No w w':=by
 have hs:(ul x.text).size=x.text.length:=rfl
 have hsn:(ul x.note).size=x.note.length:=rfl
 have hy1:u4 {x with kind:=0,text:=[]}:=⟨hx.tree,hx.base,hx.parents,hx.leaves,hx.rows,hx.number,hx.author⟩
 have hs1:A5 {x with kind:=0,text:=[]}:=⟨hsx.leaves,hsx.parents,hsx.rows,hsx.leafP,hsx.rowP⟩
 have hl1:B7 w {x with kind:=0,text:=[]} a:=⟨hxl.leaves,hxl.parents,hxl.rows⟩
 have hy2:u4 {x with kind:=0,leaves:=[]}:=⟨hx.tree,hx.base,hx.parents,fun _ h=>absurd h List.not_mem_nil,hx.rows,hx.number,hx.author⟩
 have hs2:A5 {x with kind:=0,leaves:=[]}:=⟨(by decide:(0:Nat)<1000000000),hsx.parents,hsx.rows,fun _ h=>absurd h List.not_mem_nil,hsx.rowP⟩
 have hl2:B7 w {x with kind:=0,leaves:=[]} ⟨none,0,a.pp,a.pc,a.rp,a.rc⟩:=⟨Sl.nil _ _ _,hxl.parents,hxl.rows⟩
 refine gx func185 ?_
 have hX:=Ext.refl No w
 refine ko (gw rfl fun b1 w1 hn1 hb1 hE1=> ?_)
 have hX:=hX.gb hE1
 have hb1:gz w1 b1 37 (jn x a):=hb1
 refine km rfl (ko (je hb1 rfl (gp hx) (gw rfl fun b3 w2 hn3 hb3 hE2=> ?_)))
 have ne1_3:=j2 hb1.lt hn3
 have fr3:=aA hX.size hn3
 have hb1:=hb1.ga hE2
 have hX:=hX.gb hE2
 refine wl (j4 (l':=jn x a) gc hb3 rfl rfl (gp hx) (gp hx) OneC.h fun w3 hb3 hE3 hs3=> ?_)
 have hb1:=hb1.gj hE3 ne1_3
 have hX:=hX.gi hE3 fr3
 refine qq (ki rfl (kl hb3 rfl rfl rfl fun w4 hb3 hE4 hs4=> ?_))
 have hb1:=hb1.gj hE4 ne1_3
 have hX:=hX.gi hE4 fr3
 have hb3:gz w4 b3 37 (jn {x with kind:=0} a):=hb3
 have oa:=hb1.kj.obj hx
 refine qq (jd rfl (ji (α:=Bool) [] rfl (fun z=>[(4,.bool z)]) (fun z u=>(z=decide (xf x))∧Ext No w u) ?_ ?_))
 ·refine gl ?_
  refine yl rfl (gu rfl oa.kind (qq (j8 (jd rfl (jl rfl (fun hc=> ?_) (fun hc=> ?_))))))
  ·have h1:x.kind=1:=hc
   refine ki rfl (kl hb3 rfl rfl rfl fun w5 hb3 hE5 hs5=> ?_)
   have hb1:=hb1.gj hE5 ne1_3
   have oa:=(hb1.kj.obj hx)
   have hX:=hX.gi hE5 fr3
   have hb3:gz w5 b3 37 (jn {x with kind:=0,text:=[]} a):=hb3
   refine qq (yl rfl (gu rfl oa.text (j0 gc rfl (ja 16 rfl (fun hg=> ?_) (fun hg=> ?_)))))
   ·refine je hb3 rfl (gp hy1) ?_
    refine gh call212 rfl (xv5 w5 hy1 (hl1.ga hX) hs1) fun v6 w6 hr6=> ?_
    obtain⟨rfl,hE6⟩:=hr6
    have hX:=hX.gb hE6
    refine j0 gc rfl (gk ?_)
    exact js (gr (_) rfl ⟨by rw[aH,yj2 h1,blob_zero];exact⟨fun h=>⟨by omega,h⟩,fun h=>h.2⟩,hX⟩)
   refine gq gc 4 rfl ?_
   refine gk ?_
   exact js (gr (false) rfl ⟨by symm;rw[aC,yj2 h1];exact fun h=>absurd h.1 zo,hX⟩)
  have h1:¬x.kind=1:=hc
  refine jd rfl (jl rfl (fun hc=> ?_) (fun hc=> ?_))
  ·have h2:x.kind=2:=hc
   refine ki rfl (kl hb3 rfl rfl rfl fun w7 hb3 hE7 hs7=> ?_)
   have hb1:=hb1.gj hE7 ne1_3
   have oa:=(hb1.kj.obj hx)
   have hX:=hX.gi hE7 fr3
   have hb3:gz w7 b3 37 (jn {x with kind:=0,leaves:=[]} ⟨none,0,a.pp,a.pc,a.rp,a.rc⟩):=hb3
   refine qq (yl rfl (gu rfl oa.leaves (gh call213 rfl (leaved_calls w7 (hxl.leaves.ga hX) hsx.leaves hx.leaves hsx.leafP) fun v8 w8 hr8=> ?_)))
   obtain⟨rfl,hE8⟩:=hr8
   have hb3:=hb3.ga hE8
   have hX:=hX.gb hE8
   refine j0 gc rfl (ja 26 rfl (fun hg=> ?_) (fun hg=> ?_))
   ·have hlv:=hg
    refine je hb3 rfl (gp hy2) (gh call212 rfl (xv5 w8 hy2 (hl2.ga hX) hs2) fun v9 w9 hr9=> ?_)
    obtain⟨rfl,hE9⟩:=hr9
    have hX:=hX.gb hE9
    refine j0 gc rfl (gk ?_)
    exact js (gr (_) rfl ⟨by rw[aH,zz8 h2,tree_zero];exact⟨fun h=>⟨hlv,h⟩,fun h=>h.2⟩,hX⟩)
   have hlv:=hg
   refine gq gc 4 rfl (gk ?_)
   exact js (gr (false) rfl ⟨by symm;rw[aC,zz8 h2];exact fun h=>hlv h.1,hX⟩)
  have h2:¬x.kind=2:=hc
  refine jd rfl (jl rfl (fun hc=> ?_) (fun hc=> ?_))
  ·have h3:x.kind=3:=hc
   refine yl rfl (gu rfl oa.text (j0 gc rfl (ja 35 rfl (fun hg=> ?_) (fun hg=> ?_))))
   ·have e1:x.text=[]:=xt (b:=[]) hg
    refine gq gc 1 rfl (gu rfl oa.leaves (gq gc 4 rfl (ja 41 rfl (fun hg=> ?_) (fun hg=> ?_))))
    ·refine gq gc 1 rfl ?_
     refine gu rfl oa.note (gq gc 4 rfl (ja 47 rfl (fun hg=> ?_) (fun hg=> ?_)))
     ·refine gq gc 1 rfl ?_
      refine jm rfl (Seg.one oa.rows) rfl (gh call214 rfl (checkEdit_calls w4 (hxl.rows.ga hX) hsx.rows hsx.rowP) fun v10 w10 hr10=> ?_)
      obtain⟨rfl,hE10⟩:=hr10
      have hb1:=hb1.ga hE10
      have hX:=hX.gb hE10
      refine gq gc 3 rfl (ja 53 rfl (fun hg=> ?_) (fun hg=> ?_))
      ·have e6:zw0 x.rows:=(yz7 zd).1 hg
       refine je hb1 rfl (gp hx) (gh call215 rfl (styledObj_calls w10 hx (hxl.ga hX) hsx) fun v11 w11 hr11=> ?_)
       obtain⟨rfl,hE11⟩:=hr11
       have hX:=hX.gb hE11
       refine j0 gc rfl (gk ?_)
       exact js (gr (_) rfl ⟨by rw[aH,zx h3];exact⟨fun h=>⟨e1,by omega,by omega,e6,h⟩,fun h=>h.2.2.2.2⟩,hX⟩)
      have e6:¬zw0 x.rows:=fun h=>hg (aR h)
      refine gq gc 4 rfl (gk ?_)
      exact js (gr (false) rfl ⟨by symm;rw[aC,zx h3];exact fun h=>e6 h.2.2.2.1,hX⟩)
     refine gq gc 10 rfl ?_
     refine gk ?_
     exact js (gr (false) rfl ⟨by symm;rw[aC,zx h3];exact fun h=>absurd h.2.2.1 zo,hX⟩)
    refine gq gc 16 rfl ?_
    refine gk ?_
    exact js (gr (false) rfl ⟨by symm;rw[aC,zx h3];exact fun h=>absurd h.2.1 zo,hX⟩)
   have e1:¬x.text=[]:=fun e=>hg (by rw[e];rfl)
   refine gq gc 22 rfl (gk ?_)
   exact js (gr (false) rfl ⟨by symm;rw[aC,zx h3];exact fun h=>e1 h.1,hX⟩)
  have h3:¬x.kind=3:=hc
  refine kc ?_
  exact js (gr (false) rfl ⟨(bO (fields0 h1 h2 h3)).symm,hX⟩)
 rintro z w12 ⟨rfl,hX⟩
 refine jd rfl (j9 (gv rfl rfl ?_))
 exact⟨rfl,hX⟩
def Wr (w:World) (b:Nat) (p:Option Addr) (l:List UInt8):Prop:=
  ∃c,gz w b 288 [.slice p l.length c]∧Own w p l.length c 5 1 (ge l)
abbrev WrF (b:Nat) (p:Option Addr):Nat→Prop:=fun x=>x=b∨jb p x
theorem _root_.Go.Vc.gz.keepW {w w':World} {b:Nat} {p:Option Addr} {l:List UInt8} {x T:Nat} {L:List Value} (hb:gz w x T L) (h:Wr w b p l) (hE:Ext (WrF b p) w w') (h1:288≠T) (h2:5≠T):gz w' x T L:=by
 obtain⟨c,a,d⟩:=h
 exact hb.ext hE fun f=>f.elim (fun e=>a.ne hb h1 e.symm) fun g=>d.zj7 g hb h2 rfl
theorem _root_.Go.Vc.Ext.thenW {w0 w w':World} {b:Nat} {p:Option Addr} (hX:Ext No w0 w) (hE:Ext (WrF b p) w w') (h1:w0.heap.size≤b) (h2:∀x,jb p x→w0.heap.size≤x):Ext No w0 w':=
 hX.trans hE fun y hy hF=>hF.elim (fun e=>by omega) fun h=>by have:=h2 y h;omega
theorem yv5 {w0 w:World} {p p':Option Addr} (hX:Ext No w0 w) (h2:∀x,jb p x→w0.heap.size≤x) (h3:∀x,jb p' x→jb p x∨w.heap.size≤x):∀x,jb p' x→w0.heap.size≤x:=
 fun x hx=>(h3 x hx).elim (fun h=>h2 x h) fun h=>aA hX.size h
theorem yw0 (w:World) {b:Nat} {p:Option Addr} {l:List UInt8} (h:Wr w b p l) (s:Str) (hl:l.length+s.length<900000000):
  gn prog 196 [.pointer (some ⟨b,0,none⟩),y7 s] w fun v w'=>v= .tuple #[]∧∃p',Wr w' b p' (l++vz 1 s)∧(∀x,jb p' x→jb p x∨w.heap.size≤x)∧Ext (WrF b p) w w':=by
 obtain⟨c,a,f⟩:=h
 have O:(ul s).size=s.length:=rfl
 refine gx func196 ?_
 have d:=Ext.refl (WrF b p) w
 refine yl rfl (gu rfl (a.cell rfl) (j0 gc rfl ?_))
 rw[y6]
 refine wl (qi gc rfl 1 rfl rfl rfl zd zd zt (l':=ge [UInt8.ofNat s.length]) rfl fun B W J q j P=> ?_)
 have d:=d.gb j
 have a:=a.ga j
 have f:=f.ext j fun _ _=>id
 have C:=d
 refine wl (va gc rfl 1 1 rfl rfl rfl zd f (Src.slice (m:=1) ⟨rfl,.inr ⟨B,0,rfl,q.kj⟩⟩ OneC.h) zm zn fun Q R X e k n=> ?_)
 dsimp only at e k n⊢
 have d:=d.trans k fun y D r=> .inr r
 have a:=a.ke f k (show(5:Nat)≠288 from by decide)
 obtain⟨E,K,F,L⟩:∃E K,E=Q∧K=R:=⟨_,_,rfl,rfl⟩
 rw[←F,←L] at e
 rw[←F] at n
 rw[←F,←L]
 have t:=e
 have g:=n
 have g:∀x,jb E x→jb p x∨w.heap.size≤x:=fun x G=>(g x G).elim .inl fun h=> .inr (aA C.size h)
 refine j0 gc rfl ?_
 have H:=d
 refine wl (va gc rfl 1 1 rfl rfl rfl zd t Src.string zm zn fun M S T i o u=> ?_)
 dsimp only at i o u⊢
 have d:=d.trans o fun y D r=>(g y r).elim .inr fun h=>absurd D zo
 have a:=a.ke t o (show(5:Nat)≠288 from by decide)
 have I:∀x,jb M x→jb p x∨w.heap.size≤x:=fun x G=>(u x G).elim (fun h=>g x h) fun h=> .inr (aA H.size h)
 have N:l.length+1+(ul s).size=(l++vz 1 s).length:=by simp[vz,be];omega
 have e:Own T M (l++vz 1 s).length S 5 1 (ge (l++vz 1 s)):=by
  have U:l++vz 1 s=l++[UInt8.ofNat s.length]++s:=by simp[vz,be]
  rw[←N,U,kz,kz]
  exact i
 rw[N]
 refine j0 gc rfl (kl a rfl rfl rfl fun Y z A V=> ?_)
 have i:=e.ju A a zd
 have d:=d.trans A fun y D r=> .inl r
 refine gk (z6 rfl ?_)
 exact⟨rfl,_,⟨_,z,i⟩,I,d⟩
theorem text_calls (w:World) {b:Nat} {p:Option Addr} {l:List UInt8} (h:Wr w b p l) (s:Str) (hl:l.length<900000000) (hs:s.length<65536):
  gn prog 195 [.pointer (some ⟨b,0,none⟩),y7 s] w fun v w'=>v= .tuple #[]∧∃p',Wr w' b p' (l++vz 2 s)∧(∀x,jb p' x→jb p x∨w.heap.size≤x)∧Ext (WrF b p) w w':=by
 obtain⟨c,a,t⟩:=h
 have u:(ul s).size=s.length:=rfl
 refine gx func195 ?_
 have f:=Ext.refl (WrF b p) w
 refine yl rfl (gu rfl (a.cell rfl) (j0 gc rfl ?_))
 rw[IntWalk.u16_in _ zo]
 refine gh call91 rfl (Cu w t.sl zo s.length hs) fun P Q z=> ?_
 obtain⟨D,rfl,H,j,k⟩:=z
 have f:=f.gb k
 have a:=a.ga k
 have A:=f
 have g:(ge (l++be 2 s.length)).length=(l++be 2 s.length).length*1:=by rw[gm,bE]
 refine j0 gc rfl ?_
 refine wl (va gc rfl 1 1 rfl rfl rfl zd (Own.blk (n:=(l++be 2 s.length).length) (c:=(l++be 2 s.length).length) j 1 g (aD _) (by rw[aB,jy];dsimp only[maxLen];omega)) Src.string (by rw[aB,jy];dsimp only[maxLen];omega) (by dsimp only;rw[aB,jy];omega) fun E I J d i m=> ?_)
 dsimp only at d i m⊢
 have f:=f.trans i fun y K o=>by have e:D=y:=congrArg Addr.block (cG o);omega
 have F:=a
 have a:=a.ke (Own.blk (n:=0) (c:=(l++be 2 s.length).length) j 1 g (aJ _) (by rw[aB,jy];dsimp only[maxLen];omega)) i (show(5:Nat)≠288 from by decide)
 have B:∀x,jb E x→jb p x∨w.heap.size≤x:=fun x L=>(m x L).elim (fun o=>by have e:D=x:=congrArg Addr.block (cG o);exact .inr zo) fun h=> .inr (aA A.size h)
 have G:(l++be 2 s.length).length+(ul s).size=(l++vz 2 s).length:=by simp only[vz,aB,u];omega
 have d:Own J E (l++vz 2 s).length I 5 1 (ge (l++vz 2 s)):=by
  have M:ge (l++vz 2 s)=ge (l++be 2 s.length)++ge s:=by rw[vz,←aV,kz]
  have N:(ge (l++be 2 s.length)).take ((l++be 2 s.length).length*1)=ge (l++be 2 s.length):=aO (by rw[g];exact aD _)
  rw[←G,M]
  rw[N] at d
  exact d
 rw[G]
 refine j0 gc rfl (kl a rfl rfl rfl fun R q r O=> ?_)
 have C:=d.ju r a zd
 have f:=f.trans r fun y K o=> .inl o
 refine gk (z6 rfl ?_)
 exact⟨rfl,_,⟨_,q,C⟩,B,f⟩
theorem yx6 {l:List (List UInt8)} {i:Nat} (h:i<l.length):(l.take (i+1)).flatten=(l.take i).flatten++l[i]:=by
 rw[aQ h,List.flatten_append]
 simp
theorem flatten_in {l:List (List UInt8)} (h:∀r∈l,uv r) (i:Nat):(l.take i).flatten.length=(l.take i).length*32:=zz5 fun x hx=>h x (bH hx)
theorem ids_calls (w:World) {b:Nat} {p:Option Addr} {l:List UInt8} (h:Wr w b p l) {q:Option Addr} {d:Nat} {m:List (List UInt8)} (hq:Sl w q m.length 32 (m.flatMap ge)) (hm:∀r∈m,uv r) (hl:l.length<900000000) (hml:m.length<1000000)
  (hsep:∀x off,q=some ⟨x,off,none⟩→m≠[]→¬WrF b p x):
  gn prog 197 [.pointer (some ⟨b,0,none⟩),.slice q m.length d] w fun v w'=>v= .tuple #[]∧∃p',Wr w' b p' (l++m.flatten)∧(∀x,jb p' x→jb p x∨w.heap.size≤x)∧Ext (WrF b p) w w':=by
 refine gx func197 ?_
 have f:=Ext.refl (WrF b p) w
 refine jd rfl (j8 ?_)
 refine jj (α:=Nat×Option Addr) [0,6,7] rfl (fun z=>[(8,.int .i64 (z.1:Int))]) (fun z u=>(z.1≤m.length∧Wr u b z.2 (l++(m.take z.1).flatten)∧(∀x,jb z.2 x→jb p x∨w.heap.size≤x))∧Ext (WrF b p) w u) (fun z u=>m.length-z.1) (0,p) rfl ⟨⟨aJ _,by simpa using h,fun _ h=> .inl h⟩,f⟩ ?_
 rintro⟨i,N⟩ w1 ⟨⟨o,hW,s⟩,f⟩
 try dsimp only
 dsimp only at o hW s
 obtain⟨k,a,c⟩:=hW
 refine jd rfl (gl (jl rfl (fun hc=> ?_) (fun hc=> ?_)))
 ·have o:i<m.length:=by omega
  have O:m≠[]:=fun e=>by rw[e] at o;exact absurd o (bW _)
  obtain⟨qb,A,rfl,P⟩:=hq.qd (fun r hr=>(hm r hr).len) zo
  have Q:=hsep qb A rfl O
  have j:=hm _ (aG o)
  have R:=flatten_in hm i
  rw[aL,bP zo] at R
  refine Ac (ko (ka rfl 32 rfl i rfl zo (A+i*32) rfl (jm rfl ((P i o).ext f Q) j.len (gw rfl fun b5 w2 S g D=> ?_))))
  have T:=aA f.size S
  have a:=a.ga D
  have c:=c.ext D fun _ _=>id
  have f:=f.gb D
  have B:=g
  refine wl (j4 (l':=ge m[i]) gc g rfl rfl j.len (j.len) OneC.h fun w3 g E a0=> ?_)
  have a:=a.gj E (a.ne B zd)
  have c:=c.ju E B zd
  have f:=f.gi E T
  refine qq (jr rfl 9 [qP 0,qP 1,qP 2,qP 3,qP 4,qP 5,(6,false),qP 7,qP 8] [9] (jb N) zk fun w4 n a1=> ?_)
  have C:=a
  have F:=c
  have g:=g.ga n
  have a:=a.ga n
  have c:=c.ext n fun _ _=>id
  have f:=f.gb n
  have hC:Ext (jb N) _ w4:=n.no
  refine gt gc 4 rfl (j3 gc rfl rfl (fun w' U=>((C.ext (show Ext (jb N) _ w' from U) fun V=>F.zj7 V C zd rfl).cell rfl)) ?_)
  refine xv0 gc rfl rfl 0 32 32 1 rfl ⟨.inr ⟨rfl,rfl⟩,.inr ⟨rfl,rfl⟩,.inr ⟨rfl,rfl⟩,by decide,by decide,by decide⟩ ?_
  rw[jw,bB]
  have W:=f
  refine jo rfl (va gc rfl 1 1 rfl rfl rfl zd c (Src.slice (m:=32) ⟨j.len,.inr ⟨b5,0,rfl,g.kj⟩⟩ OneC.h) (by dsimp only[maxLen];rw[aB];omega) (by dsimp only;rw[aB];omega) fun p5 c5 w5 G t H=>⟨hC.then t,?_⟩)
  dsimp only at G t H⊢
  have f:=f.trans t fun y hy X=>(s y X).elim .inr fun h=>absurd hy zo
  have a:=a.ke c t (show(5:Nat)≠288 from by decide)
  have I:∀x,jb p5 x→jb p x∨w.heap.size≤x:=fun x V=>(H x V).elim (fun h=>s x h) fun h=> .inr (aA W.size h)
  have e3:(l++(m.take i).flatten).length+32=(l++(m.take (i+1)).flatten).length:=by rw[yx6 o,aB,aB,aB,j];omega
  obtain⟨L,M,e1,e2,Y⟩:∃L M,L=p5∧M=c5∧Own w5 L (l++(m.take (i+1)).flatten).length M 5 1 (ge (l++(m.take (i+1)).flatten)):=⟨_,_,rfl,rfl,by
   rw[←e3,yx6 o,←aV,kz]
   exact G⟩
  rw[←e1] at I
  rw[←e1,←e2,e3]
  refine gt gc 2 rfl (jg (wb rfl (yi gc a rfl rfl rfl fun w6 J K a2=> ?_)))
  have Z:=Y.ju K a zd
  have f:=f.trans K fun y hy X=> .inl X
  refine j5 (Aa rfl ?_)
  rw[jz _ zo]
  refine gk ?_
  exact jk (i+1,L) rfl ⟨⟨o,⟨M,J,Z⟩,I⟩,f⟩ zf
 have h0:i=m.length:=by omega
 subst h0
 rw[bZ] at a c
 refine y8 (ql (ql (ve (z6 rfl ?_))))
 exact⟨rfl,_,⟨_,a,c⟩,s,f⟩
end Go.Proofs.YtpdiphfjmepijaaGreatDoor
namespace Go.Vc
section
variable {P:Program} {I:u0} {f:Fs} {ops:Array Oper} {o:Oper} {env:Env} {w:World} {K:Env→World→Prop}
theorem run_appIn (hI:I.Ok P) {t t2 ty e:Nat} {y y2 g:TI} (hy:yn I t=some y) (he:y.desc= .slice e) (hg:yn I e=some g) (hy2:yn I t2=some y2) (hd2:(∃e2,y2.desc= .slice e2)∨y2.desc= .string)
  {p:Option Addr} {n c:Nat} {xs:List Value} (hown:Own w p n c e g.size xs) {x:Value} {m:Nat} {news:List Value} (hsrc:Src P w g.size x m news)
  (hfit:n+m≤c):
  ∃w',(Builtin.append_ #[t,t2] ty #[.slice p n c,x]).run P w= .ok (.slice p (n+m) c) w'∧Own w' p (n+m) c e g.size (xs++news)∧Ext (jb p) w w':=by
 have hu:=(hI.get hy).under w
 rw[he] at hu
 have hs:=(hI.get hg).sizeOf w
 have hu2:=(hI.get hy2).under w
 obtain⟨i,hi,i1,i2,i3⟩:=TI.Ok.info (hI.get hg)
 have hcap:=hown.cap
 have hxl:=hown.len
 have hlen:=hsrc.1
 unfold Builtin.append_
 simp only[bT,cN,List.getElem?_cons_succ]
 rw[jc hu]
 simp only[]
 rw[aK,hs,aF]
 rw[jc hu2]
 rcases hd2 with⟨e2,h2⟩|h2<;>rw[h2]<;>simp only[pure_bind,bI,cX,Bool.not_false,cO,hlen]
 all_goals
  rw[aR hfit]
  simp only[aK,hsrc.cells (fun _=>rfl),aF]
  rcases hown with⟨rfl,rfl,rfl,rfl⟩|⟨b,l,rfl,hblk,hl,hn,hcm,htk⟩
  ·have hm0:m=0:=by omega
   subst hm0
   have:news=[]:=by have:=hsrc.2.1;simpa using this
   subst this
   exact⟨w,by simp,.inl ⟨rfl,rfl,rfl,rfl⟩,Ext.refl _ _⟩
  have hroom:n*g.size+news.length≤l.length:=by
   rw[hsrc.2.1,hl,←cQ];exact cM _ hfit
  obtain⟨w',hr,hb',hE,hsz⟩:=vq (P:=P) news w l (n*g.size) 0 hblk zo hsrc.2.2.1
  refine⟨w',?_,.inr ⟨b,_,rfl,hb',by rw[x5,hl],hfit,hcm,?_⟩,hE.mono ?_⟩
  ·have ha:(⟨b,0,none⟩:Addr).add (n*g.size)=⟨b,n*g.size,none⟩:=by rw[addr_add,bD]
   simp only[ha,aK,hr,aF,aT]
  ·rw[Nat.add_zero,put_eq _ _ _ hroom,htk,cQ,←hsrc.2.1]
   rw[show n*g.size+news.length=(xs++news).length from by simp[hxl]]
   rw[List.take_left]
  intro x _ hx
  subst hx
  rfl
theorem st_appC (hI:I.Ok P) {s:yj5} (h:appE I f.n ops env o=some s) (sz by_:Nat) (hsz:s.g.size=sz) (hby:s.g.bytes=by_) (hz:(cellsOf s.g.zero).length=sz) (hz0:0<sz) {xs:List Value} (hown:Own w s.p s.n s.c s.e sz xs) {m:Nat} {news:List Value} (hsrc:Src P w sz s.x m news)
  (hm:s.n+m≤maxLen) (hb:(s.n+m)*by_≤140737488355328)
  (k:∀p' c' w',Own w' p' (s.n+m) c' s.e sz (xs++news)→(s.n+m≤s.c∧p'=s.p∧c'=s.c∧Ext (jb s.p) w w'∨s.c<s.n+m∧Ext No w w'∧∀b,jb p' b→w.heap.size≤b)→K ((s.d,.slice p' (s.n+m) c')::env) w'):St P f ops o env w K:=by
 subst hsz
 subst hby
 unfold appE at h
 split at h
 ·cases h
 rename_i M
 obtain⟨N,O⟩:=pre_eq M
 split at h
 ·rename_i Y Q
  split at h
  ·rename_i l R S
   split at h
   ·rename_i D E q
    have r:l= #[D,E]:=by apply cH;simpa using q
    subst r
    split at h
    ·rename_i t F u
     have z:R= #[t,F]:=by apply cH;simpa using u
     subst z
     split at h
     ·rename_i y G
      split at h
      ·rename_i e H
       split at h
       ·rename_i g J
        split at h
        ·rename_i Z i
         split at h
         ·rename_i j
          split at h
          ·rename_i p n c T
           split at h
           ·rename_i v U
            cases h
            simp only at*
            obtain⟨p',c',w',V,a,W⟩:∃p' c' w',(Builtin.append_ #[t,F] o.type #[.slice p n c,v]).run P w= .ok (.slice p' (n+m) c') w'∧Own w' p' (n+m) c' e g.size (xs++news)∧(n+m≤c∧p'=p∧c'=c∧Ext (jb p) w w'∨c<n+m∧Ext No w w'∧∀b,jb p' b→w.heap.size≤b):=by
             by_cases hfit:n+m≤c
             ·obtain⟨w',A,B,C⟩:=run_appIn (P:=P) (ty:=o.type) hI G H J i (yz5 j) hown hsrc hfit
              exact⟨p,c,w',A,B,.inl ⟨hfit,rfl,rfl,C⟩⟩
             obtain⟨c',w',A,B,C⟩:=run_appG (P:=P) (ty:=o.type) (c:=c) hI G H J i (yz5 j) hz hz0 hown.sl hsrc hm hb (Nat.lt_of_not_le hfit)
             exact⟨_,c',w',A,B,.inr ⟨Nat.lt_of_not_le hfit,C,fun b hb=>Nat.le_of_eq (congrArg Addr.block (cG hb))⟩⟩
            refine yg N O (v:= .slice p' (n+m) c') (w':=w') (fun ρ L=> ?_) (by rw[Q];exact k p' c' w' a W)
            have X:Array.map ρ #[D,E]= #[.slice p n c,v]:=by simp[L _ _ T,L _ _ U]
            simp only[execOp,S,resolve,aK,aT,aF,invoke,builtin,X,V]
           cases h
          cases h
         cases h
        cases h
       cases h
      cases h
     cases h
    cases h
   cases h
  cases h
 cases h
end
theorem objC_tree {o:jq} {a:vb} (h:u4 o) {t:List UInt8} (ht:t.length=32):put (jn o a) 4 (ge t)=jn {o with tree:=t} a:=by
 rw[put_eq _ _ _ (by rw[gp h,gm,ht];decide),gm,ht]
 simp only[jn]
 rw[dG (by rfl),aV,←List.drop_drop,List.drop_left' (by rfl),List.drop_left' (by rw[gm,h.tree])]
theorem objC_base {o:jq} {a:vb} (h:u4 o) {t:List UInt8} (ht:t.length=32):put (jn o a) 36 (ge t)=jn {o with base:=t} a:=by
 rw[put_eq _ _ _ (by rw[gp h,gm,ht];decide),gm,ht]
 simp only[jn]
 rw[←aV,dG (by rw[aB,gm,h.tree];rfl),aV,aV,←List.drop_drop,←aV,List.drop_left' (by rw[aB,gm,h.tree];rfl),List.drop_left' (by rw[gm,h.base])]
 simp only[aV]
theorem yc {o:jq} {a:vb} (h:u4 o) (i:Nat) (v:Value):(jn o a).set (68+i) v=
  [.int .i64 o.kind,y7 o.text,.slice a.lp o.leaves.length a.lc,.int .i64 o.style]++(ge o.tree++(ge o.base++
   ([.slice a.pp o.parents.length a.pc,.slice a.rp o.rows.length a.rc,.int .u32 (o.number:Int),.int .u32 (o.author:Int),y7 o.note]:List Value).set i v)):=by
 have b:68+i-4-32-32=i:=by omega
 rw[jn,dF _ _ zc,dF _ _ (by rw[gm,h.tree];simp;omega),dF _ _ (by rw[gm,gm,h.tree,h.base];simp;omega),gm,gm,h.tree,h.base]
 rw[show 68+i-([.int .i64 o.kind,y7 o.text,.slice a.lp o.leaves.length a.lc,.int .i64 o.style]:List Value).length-32-32=i from b]
theorem Ds.ub (s:Ds) (n:Nat):num (s.off n).1<256^n:=
 aM (Vc.ub _) (cR zd (s.qc n).1)
abbrev idV (x:List UInt8):Value:= .agg (ge x).toArray
theorem idV_inj {x y:List UInt8} (h:idV x=idV y):x=y:=by
 injection h with h
 exact bytesU_inj (by simpa using h)
def Ad (kv:List UInt8→Value) (okx:List UInt8→Prop) {β:Type} (w:World) (r:Nat) (enc:β→Value) (f:List UInt8→Option β):Prop:=
  ∃es clock,w.heap[r]? =some (.map es clock)∧(∀e∈es.toList,∃x b,okx x∧e.key=kv x∧e.val=enc b∧f x=some b)∧
    (∀x b,f x=some b→∃e∈es.toList,e.key=kv x)∧(es.toList.map (·.key)).Nodup∧(∀e∈es.toList,e.born<clock)∧(es.toList.map (·.born)).Nodup
structure KeyG (P:Program) (k:TypeId) (kv:List UInt8→Value) (okx:List UInt8→Prop):Prop where
  law:WideMaps.KeyLaw P k
  key:∀x:List UInt8,okx x→∃l,keyOf P k (kv x)=some l
  inj:∀x y,kv x=kv y→x=y
abbrev IsId (x:List UInt8):Prop:=x.length=32
abbrev IdKey (P:Program) (k:TypeId):Prop:=KeyG P k idV IsId
abbrev MapB {β:Type} (w:World) (r:Nat) (enc:β→Value) (f:List UInt8→Option β):Prop:=Ad idV IsId w r enc f
section
variable {kv:List UInt8→Value} {okx:List UInt8→Prop}
theorem Ad.lt {β:Type} {w:World} {r:Nat} {enc:β→Value} {f:List UInt8→Option β} (h:Ad kv okx w r enc f):r<w.heap.size:=by
 obtain⟨es,c,h,_⟩:=h
 rcases bF r w.heap.size with h'|h'
 ·exact h'
 rw[cI h'] at h;cases h
theorem Ad.ext {β:Type} {S:Nat→Prop} {w w':World} {r:Nat} {enc:β→Value} {f:List UInt8→Option β} (h:Ad kv okx w r enc f) (hE:Ext S w w') (hS:¬S r):Ad kv okx w' r enc f:=by
 have hlt:=h.lt
 obtain⟨es,c,h,r1⟩:=h
 exact⟨es,c,(hE.same r hlt hS).trans h,r1⟩
theorem Ad.ga {β:Type} {w w':World} {r:Nat} {enc:β→Value} {f:List UInt8→Option β} (h:Ad kv okx w r enc f) (hE:Ext No w w'):Ad kv okx w' r enc f:=h.ext hE id
theorem Ad.ne {β:Type} {w:World} {r b T:Nat} {L:List Value} {enc:β→Value} {f:List UInt8→Option β} (h:Ad kv okx w r enc f) (hb:gz w b T L):r≠b:=fun e=>by
 obtain⟨es,c,h,_⟩:=h
 rw[e] at h
 rw[gz,h] at hb
 cases hb
theorem Ad.gj {β:Type} {w w':World} {r b T:Nat} {L:List Value} {enc:β→Value} {f:List UInt8→Option β} (h:Ad kv okx w r enc f) (hE:Ext (One b) w w') (hb:gz w b T L):Ad kv okx w' r enc f:=h.ext hE (h.ne hb)
section
variable {P:Program} {I:u0} {f:Fs} {ops:Array Oper} {o:Oper} {env:Env} {w:World} {K:Env→World→Prop}
theorem ext_setMap {w:World} {r:Nat} {es:Array MapEntry} {c:Nat} (h:w.heap[r]? =some (.map es c)) (es':Array MapEntry) (c':Nat):
  Ext (One r) w {w with heap:=w.heap.setIfInBounds r (.map es' c')}∧({w with heap:=w.heap.setIfInBounds r (.map es' c')}:World).heap.size=w.heap.size∧({w with heap:=w.heap.setIfInBounds r (.map es' c')}:World).heap[r]? =some (.map es' c'):=by
 have a:r<w.heap.size:=by
  rcases bF r w.heap.size with d|d
  ·exact d
  rw[cI d] at h;cases h
 refine⟨⟨rfl,rfl,rfl,by simp,fun b g e=> ?_,aD _⟩,by simp,by simp[a]⟩
 exact dC (fun f=>e f.symm)
def mmE (n:Nat) (ops:Array Oper) (env:Env) (o:Oper):Option Nat:=
  match pre n ops env o with
  |false=>none
  |true=>match o.dst with
    |some d=>match o.op with
      | .makeMap _ none=>some d
      |_=>none
    |none=>none
theorem st_mmG (kv:List UInt8→Value) (okx:List UInt8→Prop) {β:Type} (enc:β→Value) {d:Nat} (h:mmE f.n ops env o=some d)
  (k:∀(r:Nat) w',w.heap.size≤r→Ad kv okx w' r enc (fun _=>none)→Ext No w w'→w'.heap.size=w.heap.size+1→K ((d,.map (some r))::env) w'):St P f ops o env w K:=by
 unfold mmE at h
 split at h
 ·cases h
 rename_i hp
 obtain⟨h1,h2⟩:=pre_eq hp
 split at h
 ·rename_i d' hd
  split at h
  ·rename_i t ho
   cases h
   refine yg h1 h2 (v:= .map (some w.heap.size)) (w':=w.alloc (.map #[] 0)) (fun ρ hρ=> ?_) ?_
   ·simp only[execOp,ho,Option.map_none,aK]
    rfl
   rw[hd]
   refine k _ _ (aD _) ⟨#[],0,?_,?_,?_,?_,?_,?_⟩ ⟨rfl,rfl,rfl,by simp,fun b hb _=> ?_,aD _⟩ zp
   ·show(w.heap.push _)[w.heap.size]? =_
    simp
   ·intro e he;simp at he
   ·intro x b hb;cases hb
   ·simp
   ·intro e he;simp at he
   ·simp
   show(w.heap.push _)[b]? =_
   rw[Array.getElem?_push,aP zo]
  cases h
 cases h
def mmsE (I:u0) (n:Nat) (ops:Array Oper) (env:Env) (o:Oper):Option Nat:=
  match pre n ops env o with
  |false=>none
  |true=>match o.dst with
    |some d=>match o.op with
      | .makeMap t (some x)=>match yn I t with
        |some y=>match y.desc with
          | .map _ _=>match xh env x with
            |some (.int _ _)=>some d
            |_=>none
          |_=>none
        |none=>none
      |_=>none
    |none=>none
theorem st_mms (hI:I.Ok P) (kv:List UInt8→Value) (okx:List UInt8→Prop) {β:Type} (enc:β→Value) {d:Nat} (h:mmsE I f.n ops env o=some d)
  (k:∀(r:Nat) w',w.heap.size≤r→Ad kv okx w' r enc (fun _=>none)→Ext No w w'→w'.heap.size=w.heap.size+1→K ((d,.map (some r))::env) w'):St P f ops o env w K:=by
 unfold mmsE at h
 split at h
 ·cases h
 rename_i hp
 obtain⟨h1,h2⟩:=pre_eq hp
 split at h
 ·rename_i d' hd
  split at h
  ·rename_i t x ho
   split at h
   ·rename_i y hy
    split at h
    ·rename_i k' e he
     split at h
     ·rename_i kk n hx
      cases h
      have hu:=(hI.get hy).under w
      rw[he] at hu
      refine yg h1 h2 (v:= .map (some w.heap.size)) (w':=w.alloc (.map #[] 0)) (fun ρ hρ=> ?_) ?_
      ·have hm:(Instr.makeMap t (some (.int kk n))).run P w= .ok (.map (some w.heap.size)) (w.alloc (.map #[] 0)):=by
        unfold Instr.makeMap
        simp only[aK,hu,aF]
        rfl
       simp only[execOp,ho,Option.map_some,hρ _ _ hx,aK,hm,aF,aT]
      rw[hd]
      refine k _ _ (aD _) ⟨#[],0,?_,?_,?_,?_,?_,?_⟩ ⟨rfl,rfl,rfl,by simp,fun b hb _=> ?_,aD _⟩ zp
      ·show(w.heap.push _)[w.heap.size]? =_
       simp
      ·intro e he;simp at he
      ·intro x b hb;cases hb
      ·simp
      ·intro e he;simp at he
      ·simp
      show(w.heap.push _)[b]? =_
      rw[Array.getElem?_push,aP zo]
     cases h
    cases h
   cases h
  cases h
 cases h
def luE (I:u0) (n:Nat) (ops:Array Oper) (env:Env) (o:Oper):Option (Nat×Value×Nat×Value×Bool×Nat):=
  match pre n ops env o with
  |false=>none
  |true=>match o.dst with
    |some d=>match o.op with
      | .lookup t x j okx=>match yn I t with
        |some y=>match y.desc with
          | .map k e=>match yn I e with
            |some g=>match xh env x with
              |some (.map (some r))=>match xh env j with
                |some v=>some (k,g.zero,r,v,okx,d)
                |none=>none
              |_=>none
            |none=>none
          |_=>none
        |none=>none
      |_=>none
    |none=>none
theorem Ad.keys {β:Type} {k:TypeId} (hK:KeyG P k kv okx) {es:List MapEntry} {enc:β→Value} {g:List UInt8→Option β} (h:∀e∈es,∃x b,okx x∧e.key=kv x∧e.val=enc b∧g x=some b):∀e∈es,∃l,keyOf P k e.key=some l:=fun e he=>by
 obtain⟨x,b,hx,h1,_⟩:=h e he
 rw[h1]
 exact hK.key x hx
def tell {β:Type} (enc:β→Value) (z:Value) (o:Option β):Value:=match o with|some b=>enc b|none=>z
theorem ov_lu {β:Type} (hI:I.Ok P) {k r d:Nat} {z v:Value} {ok:Bool} (h:luE I f.n ops env o=some (k,z,r,v,ok,d)) (hK:KeyG P k kv okx) {x:List UInt8} (hx:okx x) (hv:v=kv x) {enc:β→Value} {g:List UInt8→Option β} (hm:Ad kv okx w r enc g):
  pre f.n ops env o=true∧o.dst=some d∧Ov P o env w (if ok then .tuple #[tell enc z (g x),.bool (g x).isSome] else tell enc z (g x)) w:=by
 subst hv
 unfold luE at h
 split at h
 ·cases h
 rename_i E
 obtain⟨h1,h2⟩:=pre_eq E
 split at h
 ·rename_i d' N
  split at h
  ·rename_i t xx j p O
   split at h
   ·rename_i y Q
    split at h
    ·rename_i k' e s
     split at h
     ·rename_i F u
      split at h
      ·rename_i R A
       split at h
       ·rename_i v' S
        simp only[bG,cP] at h
        obtain⟨rfl,rfl,rfl,rfl,rfl,rfl⟩:=h
        have G:=(hI.get Q).under w
        rw[s] at G
        have T:=(hI.get u).zeroValue w
        obtain⟨B,c,H,J,U,a3,_⟩:=hm
        obtain⟨l,K⟩:=hK.key x hx
        have i:=hK.law.find w K B.toList (Ad.keys hK J)
        have a:=hK.law.check w B.isEmpty K
        refine⟨E,N,fun ρ L=> ?_⟩
        have m:(Instr.lookup t (.map (some R)) (kv x) p).run P w= .ok (if p then .tuple #[tell enc F.zero (g x),.bool (g x).isSome] else tell enc F.zero (g x)) w:=by
         unfold Instr.lookup
         rw[jc G]
         rcases i with⟨C,D⟩|⟨j',M,C,D,V⟩
         ·have W:g x=none:=by
           cases hgx:g x with
           |none=>rfl
           |some b=>
            obtain⟨e,s,X⟩:=U x b hgx
            exact absurd X (D e s)
          simp only[aK,MapKept.run_getObj_map H,aT,aF,a,C,T,W,tell,Option.isSome]
         have q:M∈B.toList:=dP D
         obtain⟨Y,b,_,Z,k2,k3⟩:=J M q
         have:Y=x:=hK.inj _ _ (Z.symm.trans V)
         subst this
         simp only[aK,MapKept.run_getObj_map H,aT,aF,a,C,k2,k3,tell,Option.isSome]
        simp only[execOp,O,L _ _ A,L _ _ S,aK,m,aF,aT]
       cases h
      cases h
     cases h
    cases h
   cases h
  cases h
 cases h
theorem st_lu {β:Type} (hI:I.Ok P) {k r d:Nat} {z v:Value} {ok:Bool} (h:luE I f.n ops env o=some (k,z,r,v,ok,d)) (hK:KeyG P k kv okx) {x:List UInt8} (hx:okx x) (hv:v=kv x) {enc:β→Value} {g:List UInt8→Option β} (hm:Ad kv okx w r enc g)
  (kk:K ((d,if ok then .tuple #[tell enc z (g x),.bool (g x).isSome] else tell enc z (g x))::env) w):St P f ops o env w K:=by
 obtain⟨a,b,c⟩:=ov_lu (f:=f) (w:=w) hI h hK hx hv hm
 exact yg (pre_eq a).1 (pre_eq a).2 c (by rw[b];exact kk)
def muE (I:u0) (n:Nat) (ops:Array Oper) (env:Env) (o:Oper):Option (Nat×Nat×Value×Value):=
  match pre n ops env o with
  |false=>none
  |true=>match o.dst with
    |none=>match o.op with
      | .mapUpdate t x j u=>match yn I t with
        |some y=>match y.desc with
          | .map k _=>match xh env x with
            |some (.map (some r))=>match xh env j with
              |some v=>match xh env u with
                |some b=>some (k,r,v,b)
                |none=>none
              |none=>none
            |_=>none
          |_=>none
        |none=>none
      |_=>none
    |some _=>none
def setM {β:Type} (g:List UInt8→Option β) (x:List UInt8) (b:β):List UInt8→Option β:=fun y=>if y=x then some b else g y
theorem st_mu {β:Type} (hI:I.Ok P) {k r:Nat} {v u:Value} (h:muE I f.n ops env o=some (k,r,v,u)) (hK:KeyG P k kv okx) {x:List UInt8} (hx:okx x) (hv:v=kv x) {enc:β→Value} {g:List UInt8→Option β} (hm:Ad kv okx w r enc g) {b:β} (hb:u=enc b)
  (kk:∀w',Ad kv okx w' r enc (setM g x b)→Ext (One r) w w'→w'.heap.size=w.heap.size→K env w'):St P f ops o env w K:=by
 subst hv
 subst hb
 unfold muE at h
 split at h
 ·cases h
 rename_i hp
 obtain⟨h1,h2⟩:=pre_eq hp
 split at h
 ·rename_i hd
  split at h
  ·rename_i t xx j uu ho
   split at h
   ·rename_i y hy
    split at h
    ·rename_i k' e he
     split at h
     ·rename_i r' hxx
      split at h
      ·rename_i v' hj
       split at h
       ·rename_i u' huu
        simp only[bG,cP] at h
        obtain⟨rfl,rfl,rfl,rfl⟩:=h
        have hu:=(hI.get hy).under w
        rw[he] at hu
        obtain⟨es,c,hh,a1,a2,a3,a4,a5⟩:=hm
        obtain⟨l,hl⟩:=hK.key x hx
        have hfind:=hK.law.find w hl es.toList (Ad.keys hK a1)
        have hchk:=hK.law.check w false hl
        obtain⟨es',c',hr,hM⟩:∃es' c',(Instr.mapUpdate t (.map (some r')) (kv x) (enc b)).run P w= .ok () {w with heap:=w.heap.setIfInBounds r' (.map es' c')}∧
          ((∀e∈es'.toList,∃y b',okx y∧e.key=kv y∧e.val=enc b'∧setM g x b y=some b')∧(∀y b',setM g x b y=some b'→∃e∈es'.toList,e.key=kv y)∧(es'.toList.map (·.key)).Nodup∧(∀e∈es'.toList,e.born<c')∧(es'.toList.map (·.born)).Nodup):=by
         rcases hfind with⟨f1,f2⟩|⟨j',e0,f1,f2,f3⟩
         ·refine⟨es.push ⟨kv x,enc b,c⟩,c+1,?_,?_,?_,?_,?_,?_⟩
          ·unfold Instr.mapUpdate
           rw[jc hu]
           simp[MapKept.run_getObj_map hh,hchk,f1,MapKept.run_setObj_map _ hh,Result.andThen]
          ·intro e he
           simp only[Array.toList_push,aY,aI] at he
           rcases he with he|rfl
           ·obtain⟨y,b',q1,q2,q3,q4⟩:=a1 e he
            refine⟨y,b',q1,q2,q3,?_⟩
            rw[setM,aP fun e1=>f2 e he (by rw[q2,e1])]
            exact q4
           exact⟨x,b,hx,rfl,rfl,aR rfl⟩
          ·intro y b' hy'
           by_cases e1:y=x
           ·exact⟨⟨kv x,enc b,c⟩,by simp,by rw[e1]⟩
           rw[setM,aP e1] at hy'
           obtain⟨e,he,hk⟩:=a2 y b' hy'
           exact⟨e,by simp[Array.mem_toList_iff.1 he],hk⟩
          ·rw[Array.toList_push,bX,List.nodup_append]
           refine⟨a3,by simp,fun q hq q' hq' e1=> ?_⟩
           simp only[dL,List.map_nil,aI] at hq'
           obtain⟨e,he,rfl⟩:=bN.1 hq
           exact f2 e he (e1.trans hq')
          ·intro e he
           simp only[Array.toList_push,aY,aI] at he
           rcases he with he|rfl
           ·exact Nat.lt_succ_of_lt (a4 e he)
           exact Nat.lt_succ_self c
          rw[Array.toList_push,bX,List.nodup_append]
          refine⟨a5,by simp,fun q hq q' hq' e1=> ?_⟩
          simp only[dL,List.map_nil,aI] at hq'
          obtain⟨e,he,rfl⟩:=bN.1 hq
          have:=a4 e he
          omega
         have hj':es[j']? =some e0:=by simpa using f2
         have hjl:j'<es.toList.length:=(cY.1 f2).1
         have hlist:(es.modify j' (fun e'=>{e' with key:=kv x,val:=enc b})).toList=es.toList.set j' {e0 with key:=kv x,val:=enc b}:=by rw[Array.toList_modify,ChangeMaps.modify_eq_set _ _ _ _ f2]
         have hkeys:(es.toList.set j' {e0 with key:=kv x,val:=enc b}).map (·.key)=es.toList.map (·.key):=by
          rw[List.map_set]
          refine List.ext_getElem? fun i=> ?_
          rw[List.getElem?_set]
          split
          ·rename_i hij
           subst hij
           rw[cE,f2]
           have hjs:j'<es.size:=by simpa using hjl
           simp[hjs,f3]
          rfl
         have hmem:e0∈es.toList:=dP f2
         have hborn:(es.toList.set j' {e0 with key:=kv x,val:=enc b}).map (·.born)=es.toList.map (·.born):=by
          rw[List.map_set]
          refine List.ext_getElem? fun i=> ?_
          rw[List.getElem?_set]
          split
          ·rename_i hij
           subst hij
           rw[cE,f2]
           have hjs:j'<es.size:=by simpa using hjl
           simp[hjs]
          rfl
         refine⟨es.modify j' (fun e'=>{e' with key:=kv x,val:=enc b}),c,?_,?_,?_,?_,?_,?_⟩
         ·unfold Instr.mapUpdate
          rw[jc hu]
          simp[MapKept.run_getObj_map hh,hchk,f1,hj',f3,hK.law.stays w hl,MapKept.run_setObj_map _ hh,Result.andThen]
         ·rw[hlist]
          intro e he
          obtain⟨i,hi,rfl⟩:=bJ.1 he
          rw[List.length_set] at hi
          by_cases hij:j'=i
          ·subst hij
           rw[List.getElem_set_self]
           exact⟨x,b,hx,rfl,rfl,aR rfl⟩
          rw[List.getElem_set_ne hij]
          obtain⟨y,b',q1,q2,q3,q4⟩:=a1 _ (aG hi)
          refine⟨y,b',q1,q2,q3,?_⟩
          rw[setM,aP fun e1=> ?_]
          ·exact q4
          rw[e1,←f3] at q2
          have h6:=List.pairwise_iff_getElem.1 a3
          have h7:=(cY.1 f2).2
          rcases Nat.lt_or_gt_of_ne hij with hlt|hlt
          ·refine h6 j' i (by simpa using hjl) (by simpa using hi) hlt ?_
           simp only[bR]
           rw[h7,q2]
          refine h6 i j' (by simpa using hi) (by simpa using hjl) hlt ?_
          simp only[bR]
          rw[h7,q2]
         ·rw[hlist]
          intro y b' hy'
          by_cases e1:y=x
          ·exact⟨{e0 with key:=kv x,val:=enc b},bJ.2 ⟨j',by rw[List.length_set];exact hjl,List.getElem_set_self _⟩,by rw[e1]⟩
          rw[setM,aP e1] at hy'
          obtain⟨e,he,hk⟩:=a2 y b' hy'
          have:e.key∈(es.toList.set j' {e0 with key:=kv x,val:=enc b}).map (·.key):=by rw[hkeys];exact bN.2 ⟨e,he,rfl⟩
          obtain⟨e',he',hk'⟩:=bN.1 this
          exact⟨e',he',hk'.trans hk⟩
         ·rw[hlist,hkeys]
          exact a3
         ·rw[hlist]
          intro e he
          have:e.born∈(es.toList.set j' {e0 with key:=kv x,val:=enc b}).map (·.born):=bN.2 ⟨e,he,rfl⟩
          rw[hborn] at this
          obtain⟨e',he',hk'⟩:=bN.1 this
          rw[←hk']
          exact a4 e' he'
         rw[hlist,hborn]
         exact a5
        obtain⟨m1,m2,m3⟩:=ext_setMap hh es' c'
        refine st_s h1 h2 (fun ρ hρ=> ?_) (by rw[hd];exact kk _ ⟨es',c',m3,hM⟩ m1 m2)
        simp only[execOp,ho,hρ _ _ hxx,hρ _ _ hj,hρ _ _ huu,aK,hr,aF,aT]
       cases h
      cases h
     cases h
    cases h
   cases h
  cases h
 cases h
end
end
abbrev Dh:vb:=⟨none,0,none,0,none,0⟩
structure u3 where
  id:List UInt8
  o:jq
  a:vb
def Bx (h:u3):List Value:=ge h.id++jn h.o h.a
instance (h:u3):OneC (Bx h):=by unfold Bx;infer_instance
theorem xz0 {h:u3} (hi:h.id.length=32) (ho:u4 h.o):(Bx h).length=105:=by
 rw[Bx,aB,gm,hi,gp ho]
theorem vu (o:jq):(Be o).length=32:=C3 _
theorem Own.xy {kv:List UInt8→Value} {okx:List UInt8→Prop} {β:Type} {w w':World} {p:Option Addr} {n c T sz:Nat} {xs:List Value} (ho:Own w p n c T sz xs) {r:Nat} {enc:β→Value} {g:List UInt8→Option β} (hm:Ad kv okx w r enc g) (hE:Ext (One r) w w'):Own w' p n c T sz xs:=
 ho.ext hE fun x hx e=>by
  have e:x=r:=e
  subst e
  obtain⟨l,hl⟩:=ho.D7 hx
  exact hm.ne hl rfl
theorem gz.xy {kv:List UInt8→Value} {okx:List UInt8→Prop} {β:Type} {w w':World} {b T:Nat} {L:List Value} (hb:gz w b T L) {r:Nat} {enc:β→Value} {g:List UInt8→Option β} (hm:Ad kv okx w r enc g) (hE:Ext (One r) w w'):gz w' b T L:=hb.gj hE (hm.ne hb).symm
section
variable {T1 T2 N:Nat} {w w':World}
end
inductive Bn:Fence→Prop where
  |none:Bn Fence.wide
  |round (l:Nat):Bn (Fence.wide.inRound l)
section
variable {F:Fence} {n:Nat} {P:Program}
theorem Bn.fn (h:Bn F) (g:FuncId):F.fn g:=by cases h<;>trivial
theorem Bn.depth (h:Bn F):F.depth.isSome=true→1≤n:=by cases h<;>(intro h;cases h)
theorem Bn.calls (h:Bn F) {f:FuncId} {args:Array Value} {w:World} {R:Ending→World→Prop} (hc:Calls P f args w R):CallsIn F n P f args w R:=by
 cases h with
 |none=>exact callsIn_wide.2 hc
 |round l=>exact(callsIn_wide (n:=n)).2 hc
theorem Bn.rows (h:Bn F) {row:String} {args:Array Value} {w:World} {R:Value→World→Prop} (hc:Rows P row args w R):RowsIn F n P row args w R:=by
 have a:RowsIn Fence.wide n P row args w R:=fun c b _=>by
  obtain⟨v,d,r,s⟩:=hc c b
  exact⟨v,d,r,stepsIn_wide.2 s⟩
 cases h with
 |none=>exact a
 |round l=>exact a
def nd:Op→Bool
  | .defer _=>false
  |_=>true
theorem upon_in (hF:Bn F) {o:Oper} {a:Act} {next:Act→World→Prop} {Q:Exit→Act→World→Prop} {r:Result Next} (h:o.upon P a next (fun _ _ _=>False) r):o.uponIn F n P a next Q r:=by
 cases r with
 |ok x c=>
  cases x<;>simp only[Oper.upon,Oper.uponIn] at h⊢
  all_goals first
   |exact h
   |exact h.elim
   |exact⟨hF.depth,(hF.calls h).mono fun e c b=>by
     cases e
     ·exact b
     ·exact b.elim
     obtain⟨_,_,d⟩:=b
     exact d.elim⟩
   |exact⟨hF.depth,hF.rows h⟩
 |halt x c=>
  cases x<;>simp only[Oper.upon,Oper.uponIn] at h⊢
  all_goals first
   |exact h
   |exact h.elim
end
def WLI (F:Fence) (n:Nat) (P:Program) (f:Fs) (ops:Array Oper) (Q:vd) (l:List Oper) (env:Env) (w:World):Prop:=∀a,Ag f env a→wpListIn F n P ops Q l a w
section
variable {F:Fence} {n:Nat} {P:Program} {I:u0} {f:Fs} {ops:Array Oper} {Q:vd} {o:Oper} {rest l:List Oper} {env:Env} {w:World}
theorem wli (hF:Bn F) (hnd:nd o.op=true) (h:St P f ops o env w (WLI F n P f ops Q rest)):WLI F n P f ops Q (o::rest) env w:=by
 intro a j
 have b:=h a (fun _ _ _=>False) (wpListIn F n P ops Q rest) j fun _ l _ d k=>k l d
 unfold wpListIn
 split at b
 ·rename_i i
  rw[aR i]
  rcases b with b|⟨_,_,_,m⟩
  ·refine⟨fun g _=>hF.fn g,?_⟩
   rw[Oper.semAt_eq _ _ _ (fun c e=>by rw[e] at hnd;cases hnd)]
   exact upon_in hF b
  exact m.elim
 rename_i i
 rw[aP i]
 exact⟨fun g _=>hF.fn g,b⟩
theorem Ah (h:Fin f Q .normal env w):WLI F n P f ops Q [] env w:=fun a ha=>h a ha
def nds (l:List Oper):Bool:=l.all fun o=>nd o.op
theorem nds_cons (h:nds (o::l)=true):nd o.op=true∧nds l=true:=by simpa [nds] using h
theorem wli_p (hF:Bn F) (hI:I.Ok P) {l':List Oper} {env':Env} (hn:nds l=true) (h:xw8 I f.n l env=some (l',env')) (k:WLI F n P f ops Q l' env' w):WLI F n P f ops Q l env w:=by
 induction l generalizing env with
 |nil=>simp[xw8] at h;obtain⟨rfl,rfl⟩:=h;exact k
 |cons o r ih=>
  simp only[xw8] at h
  split at h
  ·simp at h;obtain⟨rfl,rfl⟩:=h;exact k
  rename_i a
  split at h
  ·simp at h;obtain⟨rfl,rfl⟩:=h;exact k
  rename_i v b
  split at h
  ·rename_i e c
   obtain⟨d,rfl⟩:=A4 c
   exact wli hF (nds_cons hn).1 (yg (by simp[takes,a]) d (A7 hI b w) (ih (nds_cons hn).2 h))
  cases h
theorem c_regionI {id:Nat} {l:List Oper} (h:WLI Fence.wide 9 P f l.toArray Q l env w):WC P f (.region id l.toArray false) Q env w:=fun a ha=>wpIn_wide.1 (wpIn_region_lit (h a ha))
theorem wli_yield {g:Nat} {x:Operand} {xs:Array Operand} {ts:Array TypeId} {d:Nat} {vs:List Value} {R:Bool→World→Prop} (ho:o.op= .call {callee:= .value x,args:=xs,argTypes:=ts})
  (hg:takes ops env o=true) (hd:o.dst=some d) (hdn:Nat.blt d f.n=true) (hx:xh env x=some (.func (.yield g) #[] #[])) (hvs:evs env xs.toList=some vs)
  (hY:YieldAt Fence.wide (n-1) P g vs.toArray w fun e w'=>∃b,e= .returned (.bool b)∧R b w') (k:∀b w',R b w'→WLI Fence.wide n P f ops Q rest ((d,.bool b)::env) w'):WLI Fence.wide n P f ops Q (o::rest) env w:=by
 intro a ha
 unfold wpListIn
 rw[aR (xv ha hg)]
 have hevs:∀(l:List Operand) vs,evs env l=some vs→l.map a.eval=vs:=by
  intro l
  induction l with
  |nil=>intro vs h;simp[evs] at h;subst h;rfl
  |cons y r ih=>
   intro vs h
   simp only[evs] at h
   split at h
   ·rename_i u hu
    split at h
    ·rename_i l' hl'
     simp at h;subst h
     simp[ha.eval hu,ih _ hl']
    simp at h
   simp at h
 have h1:xs.map a.eval=vs.toArray:=by
  apply cH
  rw[Array.toList_map,hevs _ _ hvs]
 obtain⟨fn,tmps,assign,body,hr,hR⟩:=hY
 have hrun:(execOp a.eval o).run P w= .ok (.round g fn tmps assign body) w:=by
  simp only[execOp,ho,resolve,h1,ha.eval hx,Deferred.ofValue,aK,aT,aF,invoke]
  simpa using hr
 refine⟨fun _ _=>trivial,?_⟩
 rw[Oper.semAt_eq _ _ _ (fun c e=>by rw[ho] at e;cases e),hrun,Oper.uponIn_round]
 refine⟨fun h=>(by cases h),hR.mono ?_⟩
 rintro e w' ⟨b,rfl,hb⟩
 refine k b w' hb _ ?_
 have:=ha.put (dst:=some d) (v:= .bool b) (by rw[dOk];exact hdn)
 rw[hd]
 exact this
end
/-! ### The loop's record, and worlds -/
def notCells:Obj→Bool
  | .cells .. =>false
  |_=>true
theorem Ext.putObj {w:World} {r:Nat} {o:Obj} (_:w.heap[r]? =some o) (_:notCells o=true) {o':Obj} (_:notCells o'=true):Ext (One r) w (w.putObj r o'):=
 ⟨rfl,rfl,rfl,by simp,fun b _ hS=>World.putObj_heap_other hS,aD _⟩
theorem Ext.allocObj (w:World) {o:Obj} (_:notCells o=true):Ext No w (w.alloc o):=by
 refine⟨rfl,rfl,rfl,by simp,fun b hb _=> ?_,aD _⟩
 show(w.heap.push _)[b]? =_
 rw[Array.getElem?_push,aP zo]
theorem Db {P:Program} {g:FuncId} {fn:Func} {c:Code} {args:List Value} {w:World} {R:Value→World→Prop} {n:Nat} {env:Env}
  (hf:P.funcs[g]? =some fn) (hb:fn.body=some c) (hn:fn.ntmps=n) (hl:Nat.ble args.length n=true) (he:envO 0 args=some env) (h:WC P ⟨n,[]⟩ c (bodyPostM Fence.wide 9 P fn (Rv R)) env w):gn P g args w R:=by
 refine callsIn_wide.1 (callsIn_of_wp_marks (n:=9) hf hb trivial (wpIn_wide.2 (h _ ⟨rfl,?_,fun i v d=> ?_⟩)))
 ·have:args.length≤n:=dD hl
  simp only[hn,Array.size_append,List.size_toArray,Array.size_replicate]
  omega
 have:=(envO_lk he i v d).2
 simp only[bB] at this
 have a:i<args.length:=by
  rcases bF i args.length with b|b
  ·exact b
  simp[cD b] at this
 simp only[hn]
 rw[Array.getElem?_append_left (by simpa using a)]
 simpa using this
def WCI (F:Fence) (n:Nat) (P:Program) (f:Fs) (c:Code) (Q:vd) (env:Env) (w:World):Prop:=∀a,Ag f env a→c.wpIn F n P Q a w
section
variable {F:Fence} {n:Nat} {P:Program} {f:Fs} {Q:vd} {env:Env} {w:World}
theorem yz {id:Nat} {l:List Oper} (h:WLI F n P f l.toArray Q l env w):WCI F n P f (.region id l.toArray false) Q env w:=fun a ha=>wpIn_region_lit (h a ha)
theorem ci_block {id:Nat} {c:Code} (h:WCI F n P f c (Exit.inBlock id Q) env w):WCI F n P f (.block id c) Q env w:=fun a ha=>wpIn_block (h a ha)
end
section
variable {P:Program} {I:u0} {f:Fs} {ops:Array Oper} {Q:vd} {o:Oper} {rest l:List Oper} {env:Env} {w:World}
theorem wlw (hnd:nd o.op=true) (h:St P f ops o env w (WLI Fence.wide 9 P f ops Q rest)):WLI Fence.wide 9 P f ops Q (o::rest) env w:=wli .none hnd h
theorem wlw_p (hn:nds l=true) (hI:I.Ok P) {l':List Oper} {env':Env} (h:xw8 I f.n l env=some (l',env')) (k:WLI Fence.wide 9 P f ops Q l' env' w):WLI Fence.wide 9 P f ops Q l env w:=wli_p .none hI hn h k
end
section
variable {P:Program} {l:Nat} {r:Loop} {w:World}
theorem begin_round (h:w.heap[l]? =some (.loop r)) (hr:r.state= .ready) {Q:World→Prop} (k:∀w',Ext (One l) w w'→w'.heap[l]? =some (.loop {r with state:= .busy})→Q w'):∃w2,(Instr.beginRound l).run P w= .ok () w2∧Q w2:=
 ⟨_,run_beginRound h hr,k _ (Ext.putObj h rfl rfl) (World.putObj_heap_same (cL.1 h).1)⟩
end
section
variable {F:Fence} {n:Nat} {P:Program} {f:Fs} {Q:vd} {env:Env} {w:World}
theorem xx1 {x y:Code} (h:WCI F n P f x (Exit.then (y.wpIn F n P Q) Q) env w):WCI F n P f (.seq x y) Q env w:=fun a ha=>wpIn_seq (h a ha)
theorem ci_skip (h:Fin f Q .normal env w):WCI F n P f .skip Q env w:=fun a ha=>wpIn_skip (h a ha)
theorem ci_ret (h:Fin f Q .ret env w):WCI F n P f .ret Q env w:=fun a ha=>wpIn_ret (h a ha)
theorem ci_cond {c:Operand} {x y:Code} {b:Bool} (hc:xh env c=some (.bool b)) (ht:b=true→WCI F n P f x Q env w) (hf:b=false→WCI F n P f y Q env w):WCI F n P f (.cond c x y) Q env w:=
 fun a ha=>wpIn_cond_split (ha.eval hc) (fun h=>ht h a ha) (fun h=>hf h a ha)
theorem ci_if {c:Operand} {x y:Code} {p:Prop} [Decidable p] (hc:xh env c=some (.bool (decide p))) (ht:p→WCI F n P f x Q env w) (hf:¬p→WCI F n P f y Q env w):WCI F n P f (.cond c x y) Q env w:=
 ci_cond hc (fun h=>ht (of_decide_eq_true h)) (fun h=>hf (of_decide_eq_false h))
theorem zz2 {y:Code} (h:WCI F n P f y Q env w):Fin f (Exit.then (y.wpIn F n P Q) Q) .normal env w:=fun a ha=>h a ha
end
/-! ### Regions whose order is open, within a fence -/
section
variable {F:Fence} {n:Nat} {P:Program}
theorem upon_in' (hF:Bn F) {o:Oper} {a:Act} {next:Act→World→Prop} {K:Act→World→Prop} {Q:Exit→Act→World→Prop} {r:Result Next} (h:o.upon P a next (NQ K) r):o.uponIn F n P a next Q r:=by
 refine upon_in hF ?_
 cases r with
 |ok x w'=>
  cases x<;>simp only[Oper.upon] at h⊢
  all_goals first
   |exact h
   |exact Calls.mono h fun e c b=>by cases e<;>first|exact b|exact b.elim
 |halt x w'=>
  cases x<;>simp only[Oper.upon] at h⊢
  all_goals first
   |exact h
   |exact h.elim
theorem op_in (hF:Bn F) {ops:Array Oper} {Q:vd} {K K':Act→World→Prop} {i:Nat} {o:Oper} (ho:ops[i]? =some o) (hnd:nd o.op=true) {a:Act} {w:World}
  (h:if Region.wanted o (yielded ops a.tmps) then o.wp P a w K' (NQ K)∨(o.asks P a w∧LetsOut (NQ K)) else K' (a.put o.dst undef) w):wpOpIn F n P ops Q i K' a w:=by
 unfold wpOpIn
 simp only[ho]
 split
 ·rename_i b
  rw[aR b] at h
  rcases h with h|⟨_,_,_,d⟩
  ·refine⟨fun g _=>hF.fn g,?_⟩
   rw[Oper.semAt_eq _ _ _ (fun c e=>by rw[e] at hnd;cases hnd)]
   exact upon_in' hF h
  exact d.elim
 rename_i b
 rw[aP b] at h
 exact⟨fun g _=>hF.fn g,h⟩
theorem nds_get {l:List Oper} (h:nds l=true) {i:Nat} {o:Oper} (ho:l.toArray[i]? =some o):nd o.op=true:=by
 have:=dH.1 h o (dP (by simpa using ho))
 simpa using this
theorem any_in (hF:Bn F) {l:List Oper} (hnd:nds l=true) {Q:vd} {K:Act→World→Prop} (hQ:∀a w,K a w→Q .normal a w):∀(fuel:Nat) (listed:Array Bool) (a:Act) (w:World),
  wpAny P .any l.toArray (NQ K) fuel listed a w→wpAnyIn F n P .any l.toArray Q fuel listed a w
 |0,_,_,_,h=>⟨h.1,hQ _ _ h.2⟩
 |fuel+1,listed,a,w,h=>by
  refine⟨fun h0=>hQ _ _ (h.1 h0),fun i hi=> ?_⟩
  have h1:=h.2 i hi
  obtain⟨_,o,ho,_⟩:=mem_ready.1 hi
  unfold wpOp at h1
  simp only[ho] at h1
  refine wpOpIn_mono (fun a' w' h2=>any_in hF hnd hQ fuel _ a' w' h2) (op_in hF ho (nds_get hnd ho) h1)
variable {f:Fs} {env:Env} {w:World}
theorem ci_draw (hF : Bn F) {Q : vd} {id : Nat} {l : List Oper} (hnd : nds l = true) (hm : P.follows .mixedOrders = true) (nA : Nat) (pl : List (Nat × Bool)) (pb : List Nat) (S : Nat → Prop)
  (hok : (B0 l.toArray (Nat.blt · nA) 0 pl pb [] && xj4 l.toArray (Nat.blt · nA) [] && Region.noSelect l.toArray && Nat.beq (pl.length + pb.length) l.length) = true)
  (h : ∀ w1, Ext No w w1 → w1.heap.size = w.heap.size → WD P f l.toArray (Q .normal) ⟨(Nat.blt · nA), pb, Ext S w, [], 0⟩ pl [] env w1) : WCI F n P f (.region id l.toArray true) Q env w := by
 intro a b
 simp only [bV] at hok
 obtain ⟨⟨⟨c, d⟩, e⟩, g⟩ := hok
 have i := h _ (Ext.drew' w) rfl c ⟨d, fun _ j => (by cases j), Ce _ _⟩ e (Ext.drew' w).no a b
 have k : pl.length + pb.length = l.toArray.size := by simpa using dE g
 refine wpIn_region_any hm (any_in hF hnd (fun _ _ h => h) _ _ _ _ ?_)
 have := Bq _ _ _ _ i
 simp only [Nat.add_zero] at this
 rwa [k] at this
/-! A part of the region ahead of a yield's call -/
def backOk (ops:Array Oper):Bool:=(List.range ops.size).all fun i=>match ops[i]? with
  |some o=>o.after.all fun e=> !Region.binds .any e||Nat.blt e.on i
  |none=>true
theorem yw6 {ops:Array Oper} (h:backOk ops=true) {i:Nat} {o:Oper} (ho:ops[i]? =some o) {e:Edge} (he:e∈o.after) (hb:Region.binds .any e=true):e.on<i:=by
 have a:i<ops.size:=(cL.1 ho).1
 have b:=dH.1 h i (List.mem_range.2 a)
 simp only[ho] at b
 rw[←Array.all_toList,dH] at b
 have c:=b e (by simpa using he)
 rw[hb] at c
 exact dD c
theorem ready_nil {ops:Array Oper} {listed:Array Bool} (hsz:listed.size=ops.size) (hb:backOk ops=true) (h:Region.ready .any ops listed=[]):∀i,i<ops.size→listed.getD i true=true:=by
 intro i
 induction i using Nat.strongRecOn with
 |_ i ih=>
  intro f
  cases hv:listed.getD i true with
  |true=>rfl
  |false=>
   have d:ops[i]? =some ops[i]:=by simp[f]
   have:i∈Region.ready .any ops listed:=mem_ready.2 ⟨hv,_,d,fun e g a=>by
    have b:=yw6 hb d g a
    have c:=ih e.on b zo
    rw[cF] at c⊢
    have j:e.on<listed.size:=by omega
    rw[dK j] at c⊢
    exact c⟩
   rw[h] at this
   cases this
def tailOk (ops:Array Oper) (y:Nat):Bool:=(List.range ops.size).all fun j=>Nat.blt j y||(List.range y).all fun i=>zv6 ops 16 j i
def guardOk (l:List Oper):Bool:=(List.range l.length).all fun i=>match l[i]? with
  |some o=>match o.guard with
    |some (j,_)=>Nat.blt j i
    |none=>true
  |none=>true
theorem mk_getD (n:Nat):∀(l:List Nat) (i:Nat),i<n→(mk n l).getD i true=decide (i∈l)
 | [],i,hi=>by simp[mk,hi]
 |j::l,i,hi=>by
  have ih:=mk_getD n l i hi
  by_cases e:j=i
  ·subst e
   simp[mk,mk_size,hi]
  rw[mk,getD_set_ne true e,ih]
  simp[Ne.symm e]
theorem yielded_take {l:List Oper} {y:Nat} {tmps:Array Value} {o:Oper} {i:Nat} (hi:i<y) (ho:l[i]? =some o) (hg:guardOk l=true):Region.wanted o (yielded (l.take y).toArray tmps)=Region.wanted o (yielded l.toArray tmps):=by
 have a:i<l.length:=(cY.1 ho).1
 have b:=dH.1 hg i (List.mem_range.2 a)
 simp only[ho] at b
 unfold Region.wanted
 cases hgd:o.guard with
 |none=>rfl
 |some p=>
  obtain⟨j,c⟩:=p
  rw[hgd] at b
  have d:j<i:=dD b
  simp only
  unfold yielded
  have:(l.take y).toArray[j]? =l.toArray[j]? :=by
   simp only[bT,List.getElem?_take]
   rw[aR zo]
  rw[this]
theorem any_prefix (hF:Bn F) {l:List Oper} {y:Nat} (hnd:nds (l.take y)=true) (hy:y≤l.length) (hb:backOk (l.take y).toArray=true) (ht:tailOk l.toArray y=true) (hg:guardOk l=true) {Q:vd} {K:Act→World→Prop} {t:Nat}
  (hK:∀a w,K a w→∀fuel,t≤fuel→wpAnyIn F n P .any l.toArray Q fuel (mk l.length (List.range y).reverse) a w):
  ∀(k:Nat) (listed' listed:Array Bool) (a:Act) (w:World),listed'.size=y→listed.size=l.length→(∀i,i<y→listed.getD i true=listed'.getD i true)→(∀i,y≤i→i<l.length→listed.getD i true=false)→Closed l.toArray listed→
   wpAny P .any (l.take y).toArray (NQ K) k listed' a w→wpAnyIn F n P .any l.toArray Q (k+t) listed a w:=by
 have G:(l.take y).toArray.size=y:=by simp;omega
 have d:∀(listed' listed:Array Bool),listed'.size=y→listed.size=l.length→(∀i,i<y→listed.getD i true=listed'.getD i true)→(∀i,y≤i→i<l.length→listed.getD i true=false)→Region.ready .any (l.take y).toArray listed'=[]→listed=mk l.length (List.range y).reverse:=by
  intro listed' listed x z m D H
  have c:=ready_nil (x.trans G.symm) hb H
  refine Array.ext (by rw[z,mk_size]) fun i A B=> ?_
  have Y:listed.getD i true=listed[i]:=by simp[A]
  have Z:(mk l.length (List.range y).reverse).getD i true=(mk l.length (List.range y).reverse)[i]:=by simp[B]
  rw[←Y,←Z,mk_getD _ _ _ zo]
  by_cases b:i<y
  ·rw[m i b,c i zo]
   simp[b]
  rw[D i zo zo]
  simp[b]
 intro k
 induction k with
 |zero=>
  intro listed' listed a w x z m D S h
  rw[d listed' listed x z m D h.1]
  exact hK a w h.2 _ zo
 |succ k ih=>
  intro listed' listed a w x z m D S h
  by_cases H:Region.ready .any (l.take y).toArray listed'=[]
  ·rw[d listed' listed x z m D H]
   exact hK a w (h.1 H) _ zo
  obtain⟨E,I⟩:=List.exists_mem_of_ne_nil _ H
  obtain⟨J,o0,T,_⟩:=mem_ready.1 I
  have f:E<y:=by have:=(cL.1 T).1;omega
  have L:∀i,i∈Region.ready .any l.toArray listed→i<y∧i∈Region.ready .any (l.take y).toArray listed':=by
   intro i A
   obtain⟨hu,o,p,c⟩:=mem_ready.1 A
   have M:i<l.length:=by have:=(cL.1 p).1;simpa using this
   have b:i<y:=by
    rcases bF i y with X|X
    ·exact X
    have R:=dH.1 ht i (List.mem_range.2 (by simpa using M))
    have:Nat.blt i y=false:=by cases hb':Nat.blt i y with
     |false=>rfl
     |true=>have:=dD hb';omega
    rw[this,Bool.false_or,dH] at R
    have u:=zj5 S 16 p c (R E (List.mem_range.2 f))
    have C:=m E f
    rw[J,cF] at C
    rw[cF] at u
    rw[dK zo] at u C
    simp only[Option.getD_some] at u C
    rw[u] at C
    cases C
   refine⟨b,mem_ready.2 ⟨by rw[←m i b];exact hu,o,?_,fun e N q=> ?_⟩⟩
   ·simp only[bT,List.getElem?_take,aR b]
    simpa using p
   have g:(l.take y).toArray[i]? =some o:=by
    simp only[bT,List.getElem?_take,aR b]
    simpa using p
   have U:=yw6 hb g N q
   have v:=c e N q
   have r:=m e.on zo
   rw[cF,cF] at r
   rw[cF] at v⊢
   rw[dK zo] at v r
   rw[dK zo] at r⊢
   simp only[Option.getD_some] at v r⊢
   rw[←r,v]
  have s:E∈Region.ready .any l.toArray listed:=by
   obtain⟨_,o,p,c⟩:=mem_ready.1 I
   have g:l.toArray[E]? =some o:=by
    simp only[bT,List.getElem?_take,aR f] at p
    simpa using p
   refine mem_ready.2 ⟨by rw[m E f];exact J,o,g,fun e N q=> ?_⟩
   have U:=yw6 hb p N q
   have v:=c e N q
   have r:=m e.on zo
   rw[cF,cF] at r
   rw[cF] at v⊢
   rw[dK zo] at r⊢
   rw[dK zo] at v r
   simp only[Option.getD_some] at v r⊢
   rw[r,v]
  rw[show k+1+t=(k+t)+1 from by omega]
  refine⟨fun R=>(by rw[R] at s;cases s),fun i A=> ?_⟩
  obtain⟨b,B⟩:=L i A
  have u:=h.2 i B
  obtain⟨_,o,p,_⟩:=mem_ready.1 A
  have O:l[i]? =some o:=by simpa using p
  have g:(l.take y).toArray[i]? =some o:=by
   simp only[bT,List.getElem?_take,aR b]
   exact O
  unfold wpOp at u
  simp only[g] at u
  rw[yielded_take b O hg] at u
  refine wpOpIn_mono (fun a' w' C=>ih (listed'.setIfInBounds i true) (listed.setIfInBounds i true) a' w' (by simpa using x) (by simpa using z) (fun j V=> ?_) (fun j V W=> ?_) (S.set A) C) (op_in hF p (nds_get hnd g) u)
  ·by_cases e:i=j
   ·subst e
    simp[x,z,b,show i<l.length from by omega]
   rw[getD_set_ne true e,getD_set_ne true e]
   exact m j V
  rw[getD_set_ne true zo]
  exact D j V W
def WBI (F:Fence) (n:Nat) (P:Program) (f:Fs) (ops:Array Oper) (Q:vd) (pl:List Nat) (dn:List Nat) (env:Env) (w:World):Prop:=
  yj8 ops pl dn=true→∀a,Ag f env a→∀fuel,pl.length≤fuel→wpAnyIn F n P .any ops Q fuel (mk ops.size dn) a w
variable {ops:Array Oper} {Q:vd}
theorem wbi_nil {dn:List Nat} (h:Fin f Q .normal env w):WBI F n P f ops Q [] dn env w:=fun hp a ha fuel _=>by
 have h0:Region.ready .any ops (mk ops.size dn)=[]:=by simpa [yj8] using hp
 cases fuel with
 |zero=>exact⟨h0,h a ha⟩
 |succ k=>exact⟨fun _=>h a ha,fun i b=>by rw[h0] at b;cases b⟩
theorem wbi {hF:Bn F} {i:Nat} {o:Oper} {pl dn:List Nat} (ho:ops[i]? =some o) (hnd:nd o.op=true) (h:St P f ops o env w (WBI F n P f ops Q pl (i::dn))):WBI F n P f ops Q (i::pl) dn env w:=by
 intro l a s b c
 have d:Nat.blt i ops.size=true:=by
  have:i<ops.size:=(cL.1 ho).1
  simpa using this
 simp only[yj8,d,bV,beq_iff_eq] at l
 obtain⟨m,e⟩:=l
 obtain⟨k,rfl⟩:∃k,b=k+1:=⟨b-1,by simp at c;omega⟩
 refine⟨fun p=>(by rw[m] at p;cases p),fun j q=> ?_⟩
 rw[m] at q
 obtain rfl:j=i:=by simpa using q
 exact op_in (K:=fun _ _=>True) hF ho hnd (h a (NQ fun _ _=>True) _ s fun r t v g u=>u e t g k (by simp at c;omega))
theorem wbi_yield {i:Nat} {o:Oper} {pl dn:List Nat} (ho:ops[i]? =some o) {g:Nat} {x:Operand} {xs:Array Operand} {ts:Array TypeId} {d:Nat} {vs:List Value} {R:Bool→World→Prop} (hop:o.op= .call {callee:= .value x,args:=xs,argTypes:=ts})
  (hg:takes ops env o=true) (hd:o.dst=some d) (hdn:Nat.blt d f.n=true) (hx:xh env x=some (.func (.yield g) #[] #[])) (hvs:evs env xs.toList=some vs)
  (hY:YieldAt Fence.wide (n-1) P g vs.toArray w fun e w'=>∃b,e= .returned (.bool b)∧R b w') (k:∀b w',R b w'→WBI Fence.wide n P f ops Q pl (i::dn) ((d,.bool b)::env) w'):WBI Fence.wide n P f ops Q (i::pl) dn env w:=by
 intro hp a ha fuel hfu
 have hlt:Nat.blt i ops.size=true:=by
  have:i<ops.size:=(cL.1 ho).1
  simpa using this
 simp only[yj8,hlt,bV,beq_iff_eq] at hp
 obtain⟨hr,hp'⟩:=hp
 obtain⟨m,rfl⟩:∃k,fuel=k+1:=⟨fuel-1,by simp at hfu;omega⟩
 refine⟨fun h0=>(by rw[hr] at h0;cases h0),fun j hj=> ?_⟩
 rw[hr] at hj
 obtain rfl:j=i:=by simpa using hj
 unfold wpOpIn
 simp only[ho]
 rw[aR (xv ha hg)]
 have hevs:∀(l:List Operand) vs,evs env l=some vs→l.map a.eval=vs:=by
  intro l
  induction l with
  |nil=>intro vs h;simp[evs] at h;subst h;rfl
  |cons y r ih=>
   intro vs h
   simp only[evs] at h
   split at h
   ·rename_i u hu
    split at h
    ·rename_i l' hl'
     simp at h;subst h
     simp[ha.eval hu,ih _ hl']
    simp at h
   simp at h
 have h1:xs.map a.eval=vs.toArray:=by
  apply cH
  rw[Array.toList_map,hevs _ _ hvs]
 obtain⟨fn,tmps,assign,body,hrr,hR⟩:=hY
 have hrun:(execOp a.eval o).run P w= .ok (.round g fn tmps assign body) w:=by
  simp only[execOp,hop,resolve,h1,ha.eval hx,Deferred.ofValue,aK,aT,aF,invoke]
  simpa using hrr
 refine⟨fun _ _=>trivial,?_⟩
 rw[Oper.semAt_eq _ _ _ (fun c e=>by rw[hop] at e;cases e),hrun,Oper.uponIn_round]
 refine⟨fun h=>(by cases h),hR.mono ?_⟩
 rintro e w' ⟨b,rfl,hb⟩
 refine k b w' hb hp' _ ?_ m (by simp at hfu;omega)
 have:=ha.put (dst:=some d) (v:= .bool b) (by rw[dOk];exact hdn)
 rw[hd]
 exact this
theorem c_drawY {id : Nat} {l : List Oper} (y : Nat) (hm : P.follows .mixedOrders = true) (nA : Nat) (pl : List (Nat × Bool)) (pb : List Nat) (S : Nat → Prop)
  (hok : (B0 (l.take y).toArray (Nat.blt · nA) 0 pl pb [] && xj4 (l.take y).toArray (Nat.blt · nA) [] && Region.noSelect (l.take y).toArray && Nat.beq (pl.length + pb.length) y) = true)
  (hY : (Nat.ble y l.length && nds (l.take y) && backOk (l.take y).toArray && tailOk l.toArray y && guardOk l) = true) (tl : List Nat) (htl : Nat.beq (y + tl.length) l.length = true)
  (h : ∀ w1, Ext No w w1 → w1.heap.size = w.heap.size → WD P f (l.take y).toArray (NQ (fun a w => ∀ fuel, tl.length ≤ fuel → wpAnyIn Fence.wide 9 P .any l.toArray Q fuel (mk l.length (List.range y).reverse) a w) .normal) ⟨(Nat.blt · nA), pb, Ext S w, [], 0⟩ pl [] env w1) : WC P f (.region id l.toArray true) Q env w := by
 intro a g
 have htl := dE htl
 simp only [bV] at hok hY
 obtain ⟨⟨⟨j, k⟩, m⟩, o⟩ := hok
 obtain ⟨⟨⟨⟨p, q⟩, r⟩, s⟩, u⟩ := hY
 have c := dD p
 have v := h _ (Ext.drew' w) rfl j ⟨k, fun _ x => (by cases x), Ce _ _⟩ m (Ext.drew' w).no a g
 have z : pl.length + pb.length = y := dE o
 have b := Bq _ _ _ _ v
 simp only [Nat.add_zero] at b
 have d : (l.take y).toArray.size = y := by simp; omega
 refine wpIn_wide.1 (wpIn_region_any (n := 9) hm ?_)
 have A : mk (l.take y).toArray.size [] = Array.replicate y false := by rw [d]; rfl
 rw [A, z] at b
 have := any_prefix (n := 9) Bn.none q c r s u (Q := Q) (t := tl.length) (fun a w h => h) y (Array.replicate y false) (Array.replicate l.length false) a _ zp zp (fun i e => by simp [e, show i < l.length from by omega]) (fun i _ e => by simp [e]) (Ce l.toArray l.length) b
 rw [htl] at this
 simpa using this
theorem f_tail {y:Nat} {l:List Oper} {tl:List Nat} (hp:yj8 l.toArray tl (List.range y).reverse=true) (h:WBI Fence.wide 9 P f l.toArray Q tl (List.range y).reverse env w):
  Fin f (NQ (fun a w=>∀fuel,tl.length≤fuel→wpAnyIn Fence.wide 9 P .any l.toArray Q fuel (mk l.length (List.range y).reverse) a w)) .normal env w:=fun a ha=>h hp a ha
end
/-! ### Iterators -/
structure Cons (P:Program) (l n0 N:Nat) (args:Nat→Array Value) (J Jx:Nat→(Nat→Prop)→World→Prop):Prop where
  st:∀{k:Nat} {F S:Nat→Prop} {w w':World},J k F w→Ext S w w'→(∀x,S x→n0≤x∧¬F x)→J k F w'
  stx:∀{k:Nat} {F S:Nat→Prop} {w w':World},Jx k F w→Ext S w w'→(∀x,S x→n0≤x∧¬F x)→Jx k F w'
  lt:∀{k:Nat} {F:Nat→Prop} {w:World},J k F w→∀x,F x→x<w.heap.size
  ltx:∀{k:Nat} {F:Nat→Prop} {w:World},Jx k F w→∀x,F x→x<w.heap.size
  round:∀{k:Nat} {F:Nat→Prop} {w:World},J k F w→k<N→YieldAt Fence.wide 8 P l (args k) w fun e w'=>∃b,e= .returned (.bool b)∧∃F':Nat→Prop,Ext F w w'∧(∀x,F' x→F x∨w.heap.size≤x)∧(b=true→J (k+1) F' w')∧(b=false→Jx k F' w')
def Iter (P:Program) (gf:Nat) (cap:List Value) (N:Nat) (args:Nat→Array Value) (own:Nat→Prop) (w:World):Prop:=
  ∀(l:Nat) (J Jx:Nat→(Nat→Prop)→World→Prop) (F:Nat→Prop),Cons P l w.heap.size N args J Jx→J 0 F w→(∀x,own x→¬F x)→
    gn P gf (.func (.yield l) #[] #[]::cap) w fun _ w'=>∃F':Nat→Prop,Ext F w w'∧(∀x,F' x→F x∨w.heap.size≤x)∧(J N F' w'∨∃k,k<N∧Jx k F' w')
structure CoS (α:Type) (w:World) where
  Fp:α→Nat→Prop
  J:Nat→α→World→Prop
  Jx:Nat→Code→α→World→Prop
  st:∀{k:Nat} {z:α} {S:Nat→Prop} {u u':World},J k z u→Ext S u u'→(∀x,S x→w.heap.size≤x∧¬Fp z x)→J k z u'
  stx:∀{k:Nat} {c:Code} {z:α} {S:Nat→Prop} {u u':World},Jx k c z u→Ext S u u'→(∀x,S x→w.heap.size≤x∧¬Fp z x)→Jx k c z u'
  lt:∀{k:Nat} {z:α} {u:World},J k z u→∀x,Fp z x→x<u.heap.size
  ltx:∀{k:Nat} {c:Code} {z:α} {u:World},Jx k c z u→∀x,Fp z x→x<u.heap.size
abbrev zq6:Obj:= .deferred (some [])
abbrev busy (r:Loop):Loop:={r with state:= .busy}
section
variable {α:Type} {w:World} {P:Program}
def CJ (C:CoS α w) (z0:α) (l D:Nat) (r:Loop) (k:Nat) (F:Nat→Prop) (u:World):Prop:=
  ∃z,F=(fun x=>C.Fp z x∨x=l∨x=D)∧C.J k z u∧(∀x,C.Fp z x→x≠l∧x≠D)∧u.heap[l]? =some (.loop r)∧u.heap[D]? =some zq6∧Ext (C.Fp z0) w u∧(∀x,C.Fp z x→C.Fp z0 x∨w.heap.size≤x)
def CJx (C:CoS α w) (z0:α) (l D:Nat) (r:Loop) (k:Nat) (F:Nat→Prop) (u:World):Prop:=
  ∃c z,F=(fun x=>C.Fp z x∨x=l∨x=D)∧C.Jx k c z u∧(∀x,C.Fp z x→x≠l∧x≠D)∧u.heap[l]? =some (.loop {r with state:= .done,pending:=some c})∧u.heap[D]? =some zq6∧Ext (C.Fp z0) w u∧(∀x,C.Fp z x→C.Fp z0 x∨w.heap.size≤x)
structure RdC (C:CoS α w) (z0:α) (l D:Nat) (r:Loop) (z:α) (W:World):Prop where
  rd:r.state= .ready
  pe:r.pending=none
  ne:l≠D
  lo:w.heap.size≤l∧w.heap.size≤D
  fp:∀x,C.Fp z x→x≠l∧x≠D
  l:W.heap[l]? =some (.loop r)
  D:W.heap[D]? =some zq6
  X:Ext (C.Fp z0) w W
  sub:∀x,C.Fp z x→C.Fp z0 x∨w.heap.size≤x
def RdQ (C:CoS α w) (z0:α) (l D:Nat) (r:Loop) (k:Nat) (z:α) (W:World):Ending→World→Prop:=fun e w'=>
  ∃b,e= .returned (.bool b)∧∃F':Nat→Prop,Ext (fun x=>C.Fp z x∨x=l∨x=D) W w'∧(∀x,F' x→(C.Fp z x∨x=l∨x=D)∨W.heap.size≤x)∧(b=true→CJ C z0 l D r (k+1) F' w')∧(b=false→CJx C z0 l D r k F' w')
theorem uw {W:World} {x:Nat} {o:Obj} (h:W.heap[x]? =some o):x<W.heap.size:=(cL.1 h).1
variable {C:CoS α w} {z0:α} {l D:Nat} {r:Loop} {k:Nat} {z:α} {W:World} {f:Fs} {env:Env} {u:World}
theorem RdC.ends (h:RdC C z0 l D r z W) (hE:Ext (fun x=>C.Fp z x∨x=l) W u) {z':α} (hF:∀x,C.Fp z' x→C.Fp z x∨W.heap.size≤x):
  u.heap[D]? =some zq6∧(∀x,C.Fp z' x→x≠l∧x≠D)∧Ext (C.Fp z0) w u∧(∀x,C.Fp z' x→C.Fp z0 x∨w.heap.size≤x):=by
 refine⟨(hE.same _ (uw h.D) fun e=>e.elim (fun e=>(h.fp _ e).2 rfl) fun e=>h.ne e.symm).trans h.D,fun x a=> ?_,h.X.trans hE fun x a e=> ?_,fun x a=> ?_⟩
 ·rcases hF x a with a|a
  ·exact h.fp x a
  exact⟨fun e=>by have:=uw h.l;omega,fun e=>by have:=uw h.D;omega⟩
 ·rcases e with e|e
  ·exact(h.sub x e).resolve_right zo
  have:=h.lo.1;omega
 rcases hF x a with a|a
 ·exact h.sub x a
 exact .inr (aA h.X.size a)
theorem fin_next (z':α) (h:RdC C z0 l D r z W) (hl:u.heap[l]? =some (.loop (busy r))) (hE:Ext (fun x=>C.Fp z x∨x=l) W u) (hF:∀x,C.Fp z' x→C.Fp z x∨W.heap.size≤x) (hJ:C.J (k+1) z' u):
  Fin f (roundPost P l (RdQ C z0 l D r k z W)) .normal env u:=by
 intro a _
 obtain⟨h1,h2,h3,h4⟩:=h.ends hE hF
 have hE2:Ext (One l) u (u.putObj l (.loop {busy r with state:=if(none:Option Code).isNone then .ready else .done,pending:=none})):=Ext.putObj hl rfl rfl
 refine⟨_,_,run_endRound none hl,true,rfl,fun x=>C.Fp z' x∨x=l∨x=D,?_,fun x hx=> ?_,fun _=> ?_,fun e=>by cases e⟩
 ·exact(hE.mono fun x _ e=>e.imp id .inl).then (hE2.mono fun x _ e=> .inr (.inl e))
 ·rcases hx with hx|hx
  ·exact(hF x hx).imp .inl id
  exact .inl (.inr hx)
 refine⟨z',rfl,C.st hJ hE2 fun x e=> ?_,h2,?_,?_,h3.trans hE2 fun x hx e=> ?_,h4⟩
 ·have e:x=l:=e
  subst e
  exact⟨h.lo.1,fun e=>(h2 _ e).1 rfl⟩
 ·rw[World.putObj_heap_same (uw hl)]
  have e1:=h.rd
  have e2:=h.pe
  cases r
  cases e1
  cases e2
  rfl
 ·exact(World.putObj_heap_other h.ne.symm).trans h1
 have e:x=l:=e
 have:=h.lo.1
 omega
theorem fin_stop {c:Code} {e:Exit} (hc:(e= .ret∧c= .ret)∨∃id,e= .exit id∧c= .exit id) (z':α) (h:RdC C z0 l D r z W) (hl:u.heap[l]? =some (.loop (busy r))) (hE:Ext (fun x=>C.Fp z x∨x=l) W u) (hF:∀x,C.Fp z' x→C.Fp z x∨W.heap.size≤x) (hJ:C.Jx k c z' u):
  Fin f (roundPost P l (RdQ C z0 l D r k z W)) e env u:=by
 intro a _
 obtain⟨h1,h2,h3,h4⟩:=h.ends hE hF
 have hE2:Ext (One l) u (u.putObj l (.loop {busy r with state:=if(some c:Option Code).isNone then .ready else .done,pending:=some c})):=Ext.putObj hl rfl rfl
 have key:∃v w',(Instr.endRound l (some c)).run P u= .ok v w'∧RdQ C z0 l D r k z W (.returned v) w':=by
  refine⟨_,_,run_endRound (some c) hl,false,rfl,fun x=>C.Fp z' x∨x=l∨x=D,?_,fun x hx=> ?_,(fun e=>by cases e),fun _=> ?_⟩
  ·exact(hE.mono fun x _ e=>e.imp id .inl).then (hE2.mono fun x _ e=> .inr (.inl e))
  ·rcases hx with hx|hx
   ·exact(hF x hx).imp .inl id
   exact .inl (.inr hx)
  refine⟨c,z',rfl,C.stx hJ hE2 fun x e=> ?_,h2,?_,?_,h3.trans hE2 fun x hx e=> ?_,h4⟩
  ·have e:x=l:=e
   subst e
   exact⟨h.lo.1,fun e=>(h2 _ e).1 rfl⟩
  ·exact World.putObj_heap_same (uw hl)
  ·exact(World.putObj_heap_other h.ne.symm).trans h1
  have e:x=l:=e
  have:=h.lo.1
  omega
 rcases hc with⟨rfl,rfl⟩|⟨id,rfl,rfl⟩
 ·exact key
 exact key
theorem fin_begin {R:Ending→World→Prop} {body:Code} (h:RdC C z0 l D r z W) (hl:u.heap[l]? =some (.loop r)) (hb:∀u',Ext (One l) u u'→u'.heap[l]? =some (.loop (busy r))→WCI (Fence.wide.inRound l) 8 P f body (roundPost P l R) env u'):
  Fin f (Exit.then (fun a1 w1=>∃w2,(Instr.beginRound l).run P w1= .ok () w2∧body.wpIn (Fence.wide.inRound l) 8 P (roundPost P l R) a1 w2) (fun _ _ _=>False)) .normal env u:=fun a ha=>
 begin_round hl h.rd fun w' hE hl'=>hb w' hE hl' a ha
def penv:List Tmp→List Value→Env→Env
  |t::ts,v::vs,e=>penv ts vs ((t,v)::e)
  |_,_,e=>e
theorem ag_fold:∀(ts:List Tmp) (vs:List Value) (env:Env) (tmps:Array Value),ts.all (fun t=>Nat.blt t f.n)=true→tmps.size=f.n→(∀i v,lk env i=some v→tmps[i]? =some v)→
  ((ts.zip vs).foldl (fun tmps (x:Tmp×Value)=>tmps.setIfInBounds x.1 x.2) tmps).size=f.n∧∀i v,lk (penv ts vs env) i=some v→((ts.zip vs).foldl (fun tmps (x:Tmp×Value)=>tmps.setIfInBounds x.1 x.2) tmps)[i]? =some v
 | [],vs,env,tmps,_,hs,h=>⟨hs,by cases vs<;>exact h⟩
 |t::ts,[],env,tmps,_,hs,h=>⟨hs,h⟩
 |t::ts,v::vs,env,tmps,ht,hs,h=>by
  simp only[List.all_cons,bV] at ht
  have htn:t<f.n:=dD ht.1
  refine ag_fold ts vs ((t,v)::env) (tmps.setIfInBounds t v) ht.2 (by simpa using hs) fun i u hi=> ?_
  rw[yx9] at hi
  split at hi
  ·rename_i e
   subst e
   cases hi
   simp[hs,htn]
  rename_i e
  rw[dC e]
  exact h i u hi
theorem c_rangeX {Q:vd} {g:Operand} {ps:Array Tmp} {assign body:Code} {gf:Nat} {cap:Array Value}
  (hg:xh env g=some (.func (.func gf) #[] cap)) (hcf:∀args w,(callFunc gf args).run P w= .ok (.enter gf args) w)
  (H:∀(fn:FuncId) (a:Act),Ag f env a→∀rec:Loop,rec={state:= .ready,pending:=none,fn,tmps:=a.tmps,params:=ps,assign,body,defers:=w.heap.size}→
   ∀w1,Ext No w w1→w1.heap[w.heap.size+1]? =some (.loop rec)→w1.heap[w.heap.size]? =some zq6→w1.heap.size=w.heap.size+2→
   gn P gf (.func (.yield (w.heap.size+1)) #[] #[]::cap.toList) w1 fun _ w2=>∃r2,w2.heap[w.heap.size+1]? =some (.loop r2)∧r2.state≠ .busy∧w2.heap[w.heap.size]? =some zq6∧
    ∀w3,Ext (One (w.heap.size+1)) w2 w3→w3.heap[w.heap.size]? =some zq6→(r2.pending=none→Fin ⟨f.n,{target:= .collected w.heap.size,args:= #[]}::f.ds⟩ Q .normal env w3)∧
     ∀c,r2.pending=some c→WC P ⟨f.n,{target:= .collected w.heap.size,args:= #[]}::f.ds⟩ c Q env w3):
  WC P f (.rangeFunc g ps assign body) Q env w:=by
 intro a ha
 refine(wpIn_wide (n:=9)).1 (wpIn_rangeFunc fun fn _=> ?_)
 obtain⟨rec,hrec⟩:∃rec:Loop,rec={state:= .ready,pending:=none,fn,tmps:=a.tmps,params:=ps,assign,body,defers:=w.heap.size}:=⟨_,rfl⟩
 have e0:Ext No w (w.alloc (.deferred (some []))):=Ext.allocObj w rfl
 have e1:Ext No (w.alloc (.deferred (some []))) ((w.alloc (.deferred (some []))).alloc (.loop rec)):=Ext.allocObj _ rfl
 have hL:((w.alloc (.deferred (some []))).alloc (.loop rec)).heap[w.heap.size+1]? =some (.loop rec):=by
  have:=World.alloc_heap_new (w.alloc (.deferred (some []))) (.loop rec);rwa [World.size_alloc] at this
 have hD:((w.alloc (.deferred (some []))).alloc (.loop rec)).heap[w.heap.size]? =some (.deferred (some [])):=
  (e1.same _ zp id).trans (World.alloc_heap_new w _)
 refine⟨w.heap.size+1,[{target:= .collected w.heap.size,args:= #[]}],(w.alloc (.deferred (some []))).alloc (.loop rec),{target:= .fn (.func gf) cap,args:= #[.func (.yield (w.heap.size+1)) #[] #[]]},(w.alloc (.deferred (some []))).alloc (.loop rec),gf,
  #[.func (.yield (w.heap.size+1)) #[] #[]]++cap,(w.alloc (.deferred (some []))).alloc (.loop rec),?_,?_,fun _ _=>trivial,?_,fun h=>(by cases h),?_⟩
 ·rw[hrec];exact run_enterLoop_outer _ _ _ _ _
 ·have hev:=ha.eval hg
  simp only[resolve,rangeCall,hev]
  simp[Deferred.ofValue,Act.eval]
 ·simp[invoke,hcf]
 have hc:=H fn a ha rec hrec _ (e0.gb e1) hL hD zp
 have e2:(#[.func (.yield (w.heap.size+1)) #[] #[]]++cap:Array Value)=(.func (.yield (w.heap.size+1)) #[] #[]::cap.toList).toArray:=by
  apply cH;simp
 rw[e2]
 refine(Bn.none.calls hc).mono ?_
 rintro e w2 he
 cases e with
 |returned v=>
  obtain⟨r2,hl2,hb2,hd2,hk⟩:=he
  have hend:=run_endLoop (P:=P) hl2 hb2
  have hd3:(w2.putObj (w.heap.size+1) (.loop {r2 with state:= .exhausted})).heap[w.heap.size]? =some zq6:=(World.putObj_heap_other zo).trans hd2
  have hE3:Ext (One (w.heap.size+1)) w2 (w2.putObj (w.heap.size+1) (.loop {r2 with state:= .exhausted})):=Ext.putObj hl2 rfl rfl
  generalize w2.putObj (w.heap.size+1) (.loop {r2 with state:= .exhausted})=w3 at hend hd3 hE3
  obtain⟨hk1,hk2⟩:=hk _ hE3 hd3
  have hag:Ag ⟨f.n,{target:= .collected w.heap.size,args:= #[]}::f.ds⟩ env {a with defers:=[{target:= .collected w.heap.size,args:= #[]}]++a.defers}:=⟨by simp[ha.defers],ha.size,ha.get⟩
  refine⟨_,_,hend,?_⟩
  split
  ·rename_i hp;exact hk1 hp _ hag
  rename_i c hp;exact wpIn_wide.2 (hk2 c hp _ hag)
 |panicked ch=>exact he.elim
 |outgrown=>exact he.elim
theorem c_iter (C:CoS α w) (z0:α) {Q:vd} {g:Operand} {ps:Array Tmp} {assign body:Code} {gf:Nat} {cap:Array Value} {N:Nat} {args:Nat→Array Value} {own:Nat→Prop}
  (hg:xh env g=some (.func (.func gf) #[] cap)) (hcf:∀args w,(callFunc gf args).run P w= .ok (.enter gf args) w)
  (hps:ps.toList.all (fun t=>Nat.blt t f.n)=true) (hpn:∀k,(args k).size=ps.size)
  (hit:∀w1,Ext No w w1→Iter P gf cap.toList N args own w1) (hown:∀x,own x→x<w.heap.size∧¬C.Fp z0 x) (h0:C.J 0 z0 w)
  (hround:∀(l D:Nat) (r:Loop) (k:Nat) (z:α) (W:World),RdC C z0 l D r z W→C.J k z W→k<N→
   WCI (Fence.wide.inRound l) 8 P ⟨f.n,[]⟩ assign (Exit.then (fun a1 w1=>∃w2,(Instr.beginRound l).run P w1= .ok () w2∧body.wpIn (Fence.wide.inRound l) 8 P (roundPost P l (RdQ C z0 l D r k z W)) a1 w2) (fun _ _ _=>False)) (penv ps.toList (args k).toList env) W)
  (hdone:∀(D:Nat) (z:α) (W:World),C.J N z W→Ext (C.Fp z0) w W→(∀x,C.Fp z x→C.Fp z0 x∨w.heap.size≤x)→w.heap.size≤D→W.heap[D]? =some zq6→(∀x,C.Fp z x→x≠D)→
   Fin ⟨f.n,{target:= .collected D,args:= #[]}::f.ds⟩ Q .normal env W)
  (hstop:∀(D:Nat) (k:Nat) (c:Code) (z:α) (W:World),k<N→C.Jx k c z W→Ext (C.Fp z0) w W→(∀x,C.Fp z x→C.Fp z0 x∨w.heap.size≤x)→w.heap.size≤D→W.heap[D]? =some zq6→(∀x,C.Fp z x→x≠D)→
   WC P ⟨f.n,{target:= .collected D,args:= #[]}::f.ds⟩ c Q env W):
  WC P f (.rangeFunc g ps assign body) Q env w:=by
 refine c_rangeX hg hcf fun fn a Y d h w1 G O R Z=> ?_
 have T:w.heap.size+1≠w.heap.size:=by omega
 have L:d.state= .ready:=by rw[h]
 have M:d.pending=none:=by rw[h]
 have H:Cons P (w.heap.size+1) w1.heap.size N args (CJ C z0 (w.heap.size+1) w.heap.size d) (CJx C z0 (w.heap.size+1) w.heap.size d):=by
  refine⟨?_,?_,?_,?_,?_⟩
  ·rintro k F S u u' ⟨z,rfl,p,q,m,o,s,y⟩ B E
   have j:∀x,S x→w.heap.size≤x∧¬C.Fp z x:=fun x b=>⟨by have:=(E x b).1;omega,fun e=>(E x b).2 (.inl e)⟩
   exact⟨z,rfl,C.st p B j,q,(B.same _ (uw m) fun e=>(E _ e).2 (.inr (.inl rfl))).trans m,(B.same _ (uw o) fun e=>(E _ e).2 (.inr (.inr rfl))).trans o,s.trans B fun x b e=>by have:=(j x e).1;omega,y⟩
  ·rintro k F S u u' ⟨c,z,rfl,p,q,m,o,s,y⟩ B E
   have j:∀x,S x→w.heap.size≤x∧¬C.Fp z x:=fun x b=>⟨by have:=(E x b).1;omega,fun e=>(E x b).2 (.inl e)⟩
   exact⟨c,z,rfl,C.stx p B j,q,(B.same _ (uw m) fun e=>(E _ e).2 (.inr (.inl rfl))).trans m,(B.same _ (uw o) fun e=>(E _ e).2 (.inr (.inr rfl))).trans o,s.trans B fun x b e=>by have:=(j x e).1;omega,y⟩
  ·rintro k F u ⟨z,rfl,p,q,m,o,s,y⟩ x b
   rcases b with b|rfl|rfl
   ·exact C.lt p x b
   ·exact uw m
   exact uw o
  ·rintro k F u ⟨c,z,rfl,p,q,m,o,s,y⟩ x b
   rcases b with b|rfl|rfl
   ·exact C.ltx p x b
   ·exact uw m
   exact uw o
  rintro k F u ⟨z,rfl,p,q,m,o,s,y⟩ U
  have hy:=run_yield (P:=P) (args:=args k) m (by rw[h];exact hpn k)
  refine⟨_,_,_,_,hy,roundIn_of_wpIn trivial ?_⟩
  have hA:d.assign=assign:=by rw[h]
  have hB:d.body=body:=by rw[h]
  have hT:d.tmps=a.tmps:=by rw[h]
  have hP:d.params=ps:=by rw[h]
  rw[hA,hB,hT,hP]
  obtain⟨g1,g2⟩:=ag_fold (f:=⟨f.n,[]⟩) ps.toList (args k).toList env a.tmps hps Y.size Y.get
  refine hround (w.heap.size+1) w.heap.size d k z u ⟨L,M,T,⟨by omega,aD _⟩,q,m,o,s,y⟩ p U _ ⟨rfl,?_,fun i v hi=> ?_⟩
  ·rw[←Array.foldl_toList,Array.toList_zip];exact g1
  show(Array.foldl _ a.tmps (ps.zip (args k)))[i]? =some v
  rw[←Array.foldl_toList,Array.toList_zip];exact g2 i v hi
 have V:CJ C z0 (w.heap.size+1) w.heap.size d 0 (fun x=>C.Fp z0 x∨x=w.heap.size+1∨x=w.heap.size) w1:=
  ⟨z0,rfl,C.st h0 G fun x e=>e.elim,fun x b=>⟨fun e=>by have:=C.lt h0 x b;omega,fun e=>by have:=C.lt h0 x b;omega⟩,O,R,G.no,fun x b=> .inl b⟩
 refine(hit w1 G (w.heap.size+1) _ _ _ H V fun x b=> ?_).mono ?_
 ·have:=hown x b
  rintro(e|e|e)
  ·exact this.2 e
  ·omega
  omega
 rintro _ w2 ⟨F',a0,a2,⟨z,rfl,p,q,m,o,s,y⟩|⟨k,U,c,z,rfl,p,q,m,o,s,y⟩⟩
 ·refine⟨d,m,by rw[L];decide,o,fun X A I=>⟨fun _=> ?_,fun c K=>by rw[M] at K;cases K⟩⟩
  have j:∀x,One (w.heap.size+1) x→w.heap.size≤x∧¬C.Fp z x:=fun x b=>by
   have b:x=w.heap.size+1:=b
   exact⟨by omega,fun e=>(q x e).1 b⟩
  exact hdone _ z X (C.st p A j) (s.trans A fun x b e=>by have:=(j x e).1;omega) y (aD _) I fun x b=>(q x b).2
 refine⟨_,m,(fun e=>by cases e),o,fun X A I=>⟨fun K=>(by cases K),fun c' K=> ?_⟩⟩
 cases K
 have j:∀x,One (w.heap.size+1) x→w.heap.size≤x∧¬C.Fp z x:=fun x b=>by
  have b:x=w.heap.size+1:=b
  exact⟨by omega,fun e=>(q x e).1 b⟩
 exact hstop _ k c z X U (C.stx p A j) (s.trans A fun x b e=>by have:=(j x e).1;omega) y (aD _) I fun x b=>(q x b).2
end
/-! ### A function's end with marks, and with a deferred call -/
theorem leaves_marks {P:Program} {fn:Func} {tmps:Array Value} {R:Ending→World→Prop}:∀(Ds:List Nat) (w:World),Ds.Nodup→(∀D∈Ds,w.heap[D]? =some zq6)→
  (∀w',Ext (fun x=>x∈Ds) w w'→LeavesInM Fence.wide 9 P fn tmps R [] .returning w')→
  LeavesInM Fence.wide 9 P fn tmps R (Ds.map fun D=>{target:= .collected D,args:= #[]}) .returning w
 | [],w,_,_,k=>k w (Ext.refl _ _)
 |D::Ds,w,hn,hD,k=>by
  have hd:=hD D zp
  have hE:Ext (One D) w (w.putObj D (.deferred none)):=Ext.putObj hd rfl rfl
  simp only[List.nodup_cons] at hn
  refine⟨by simp,.inl ⟨D,_,rfl,run_takeDeferred hd,?_⟩⟩
  refine leaves_marks Ds _ hn.2 (fun D' hD'=> ?_) fun w' hE'=>k w' ?_
  ·have hne:D'≠D:=fun e=>hn.1 (e▸hD')
   exact(World.putObj_heap_other hne).trans (hD D' (by simp[hD']))
  exact(hE.mono fun x _ e=>by have e:x=D:=e;subst e;simp).then (hE'.mono fun x _ e=>by simp[e])
theorem De {P:Program} {n:Nat} {fn:Func} {R:Value→World→Prop} {env:Env} {w:World} (Ds:List Nat) (hn:Ds.Nodup) (hD:∀D∈Ds,w.heap[D]? =some zq6) (vs:List Value)
  (k:∀w',Ext (fun x=>x∈Ds) w w'→ResAll P env w' fn.results.toList vs∧R (tupV vs) w') {e:Exit} (he:e= .ret∨e= .normal):
  Fin ⟨n,Ds.map fun D=>{target:= .collected D,args:= #[]}⟩ (bodyPostM Fence.wide 9 P fn (Rv R)) e env w:=by
 intro a ha
 have key:LeavesInM Fence.wide 9 P fn a.tmps (Rv R) a.defers .returning w:=by
  rw[ha.defers]
  refine leaves_marks Ds w hn hD fun w' hE=> ?_
  obtain⟨h1,h2⟩:=k w' hE
  have hr:=zj2 (a:={a with defers:=[]}) (w:=w') (n:=n) ⟨rfl,ha.size,ha.get⟩ _ _ h1
  refine⟨tupV vs,?_,h2⟩
  unfold results
  rw[Array.mapM_eq_mapM_toList,aK,Sem.run_map]
  erw [hr]
  simp only[aF,aT]
  congr 1
  cases vs with
  |nil=>rfl
  |cons v r=>cases r<;>simp[tupV]
 rcases he with rfl|rfl
 ·exact key
 exact key
theorem zz {S:Nat→Prop} {w w':World} {l:Nat} {o:Obj} (h:w.heap[l]? =some o) (hE:Ext S w w') (hS:¬S l):w'.heap[l]? =some o:=(hE.same _ (uw h) hS).trans h
theorem gz.neL {w:World} {l b T:Nat} {r:Loop} {L:List Value} (hb:gz w b T L) (h:w.heap[l]? =some (.loop r)):b≠l:=fun e=>by
 subst e
 unfold gz at hb
 rw[h] at hb
 cases hb
theorem gz.extL {w w':World} {l b T:Nat} {r:Loop} {L:List Value} (hb:gz w b T L) (h:w.heap[l]? =some (.loop r)) (hE:Ext (One l) w w'):gz w' b T L:=hb.gj hE (hb.neL h)
section
variable {P:Program} {I:u0} {f:Fs} {ops:Array Oper} {Q:vd} {rest l:List Oper} {env:Env} {w:World} {F:Fence} {n:Nat} {k:Nat}
theorem yx4 (hI:I.Ok P) {l':List Oper} {env':Env} (h:xw8 I f.n l env=some (l',env')) (c:WLI (Fence.wide.inRound k) 8 P f ops Q l' env' w) (hn:nds l=true:=by rfl):WLI (Fence.wide.inRound k) 8 P f ops Q l env w:=wli_p (.round k) hI hn h c
end
section
variable {P:Program} {I:u0} {f:Fs} {ops:Array Oper} {o:Oper} {env:Env} {w:World}
def cvE (I:u0) (n:Nat) (ops:Array Oper) (env:Env) (o:Oper):Option (Nat×Nat×Nat×Nat×Nat):=
  match pre n ops env o with
  |false=>none
  |true=>match o.dst with
    |some d=>match o.op with
      | .convert s t x=>match Nat.beq s t with
        |true=>match yn I s with
          |some y=>match y.desc with
            | .slice e=>match yn I e with
              |some g=>match g.desc with
                | .int .u8=>match xh env x with
                  |some (.slice (some ⟨b,off,none⟩) m c)=>some (b,off,m,c,d)
                  |_=>none
                |_=>none
              |none=>none
            |_=>none
          |none=>none
        |false=>none
      |_=>none
    |none=>none
theorem freeze_ext {b T:Nat} {l:List Value} (h:gz w b T l):Ext (One b) w (w.freeze ⟨b,l.length,none⟩ 1)∧Seg (w.freeze ⟨b,l.length,none⟩ 1) b 0 l∧(w.freeze ⟨b,l.length,none⟩ 1).heap.size=w.heap.size:=by
 unfold World.freeze
 rw[aP zd]
 refine⟨⟨rfl,rfl,rfl,by simp,fun x d a=> ?_,aD _⟩,fun i v c=> ?_,by simp⟩
 ·simp only[Array.getElem?_modify]
  rw[aP (fun e=>a e.symm)]
 unfold gz at h
 simp only[World.cell?,Array.getElem?_modify,cO,h,Option.map_some]
 rw[bD]
 simp[c]
theorem st_cv (hI:I.Ok P) {K:Env→World→Prop} {b off m c d:Nat} (h:cvE I f.n ops env o=some (b,off,m,c,d)) {T:Nat} {l:List Value} (hb:gz w b T l)
  (k:∀w',Ext (One b) w w'→Seg w' b 0 l→w'.heap.size=w.heap.size→K ((d,.slice (some ⟨b,off,none⟩) m c)::env) w'):St P f ops o env w K:=by
 unfold cvE at h
 split at h
 ·cases h
 rename_i B
 obtain⟨C,D⟩:=pre_eq B
 split at h
 ·rename_i S E
  split at h
  ·rename_i s t x F
   split at h
   ·rename_i i
    have i:=dE i
    subst i
    split at h
    ·rename_i y G
     split at h
     ·rename_i e H
      split at h
      ·rename_i g J
       split at h
       ·rename_i p
        split at h
        ·rename_i j a q r L
         simp only[bG,cP] at h
         obtain⟨rfl,rfl,rfl,rfl,rfl⟩:=h
         have u:=(hI.get G).under w
         have A:=(hI.get J).under w
         rw[H] at u
         rw[p] at A
         obtain⟨M,N,O⟩:=freeze_ext hb
         refine yg C D (v:= .slice (some ⟨j,a,none⟩) q r) (w':=w.freeze ⟨j,l.length,none⟩ 1) (fun U Q=> ?_) (by rw[E];exact k _ M N O)
         have z:w.shape? j=some (T,l.length):=by
          unfold gz at hb
          simp[World.shape?,hb]
         have R:(convert s s (.slice (some ⟨j,a,none⟩) q r)).run P w= .ok (.slice (some ⟨j,a,none⟩) q r) (w.freeze ⟨j,l.length,none⟩ 1):=by
          unfold convert
          rw[jc u,jc u]
          show(underlying e>>=_).run P w=_
          rw[jc A]
          simp[markStringish,shape,freeze,Sem.run,z]
         simp only[execOp,F,Q _ _ L,aK,R,aF,aT]
        cases h
       cases h
      cases h
     cases h
    cases h
   cases h
  cases h
 cases h
theorem firstCells_len {sz n m m' c:Nat} {p:Option Addr}:Builtin.firstCells sz n (.slice p m c)=Builtin.firstCells sz n (.slice p m' c):=by
 cases p<;>rfl
theorem st_cpK (hI:I.Ok P) {K:Env→World→Prop} {s:CpArgs} (h:cpE I f.n ops env o=some s) (sz:Nat) (hsz:s.g.size=sz) {T:Nat} {l:List Value} (hblk:gz w s.b T l) {p:Option Addr} {m c:Nat} {news:List Value} (hx:s.x= .slice p m c) (hm:s.n≤m) (hsl:Sl w p s.n sz news) (h1:∀v∈news,v.oneCell'=true)
  (hroom:s.off+s.n*sz≤l.length)
  (k:∀w',gz w' s.b T (put l s.off news)→Ext (One s.b) w w'→w'.heap.size=w.heap.size→K ((s.d,.int .i64 (s.n:Int))::env) w'):St P f ops o env w K:=by
 subst hsz
 unfold cpE at h
 split at h
 ·cases h
 rename_i M
 obtain⟨N,O⟩:=pre_eq M
 split at h
 ·rename_i d' Q
  split at h
  ·rename_i q R S
   split at h
   ·rename_i E F r
    have u:q= #[E,F]:=by apply cH;simpa using r
    subst u
    split at h
    ·rename_i t G z
     have A:R= #[t,G]:=by apply cH;simpa using z
     subst A
     split at h
     ·rename_i y U
      split at h
      ·rename_i e V
       split at h
       ·rename_i g W
        split at h
        ·rename_i b off n H X
         split at h
         ·rename_i v Y
          cases h
          simp only at*
          subst hx
          have J:=(hI.get U).under w
          rw[V] at J
          have hsz:=(hI.get W).sizeOf w
          have a:Nat.min m n=n:=Nat.min_eq_right hm
          have i:=Src.slice (P:=P) (c:=c) hsl h1
          obtain⟨w',Z,B,hE,C⟩:=vq (P:=P) news w l off 0 hblk (by rw[hsl.1];omega) h1
          have D:(Builtin.firstCells g.size n (.slice p m c)).run P w= .ok news.toArray w:=by
           rw[firstCells_len (m':=n)]
           exact i.cells fun _=>rfl
          have j:(Builtin.copy_ #[t,G] o.type #[.slice (some ⟨b,off,none⟩) n H,.slice p m c]).run P w= .ok (.int .i64 (n:Int)) w':=by
           unfold Builtin.copy_
           simp only[bT,cN,List.getElem?_cons_succ]
           rw[jc J]
           simp only[Builtin.lenOf,pure_bind,a,aK,hsz,aF,D,Z,aT,goInt]
          refine yg N O (v:= .int .i64 (n:Int)) (w':=w') (fun ρ L=> ?_) (by rw[Q];exact k w' B hE C)
          have em:Array.map ρ #[E,F]= #[.slice (some ⟨b,off,none⟩) n H,.slice p m c]:=by simp[L _ _ X,L _ _ Y]
          simp only[execOp,S,resolve,aK,aT,aF,invoke,builtin,em,j]
         cases h
        cases h
       cases h
      cases h
     cases h
    cases h
   cases h
  cases h
 cases h
end
structure ConsV (P:Program) (l n0 N:Nat) (A:Nat→Array Value→(Nat→Prop)→World→Prop) (J Jx:Nat→(Nat→Prop)→World→Prop):Prop where
  st:∀{k:Nat} {F S:Nat→Prop} {w w':World},J k F w→Ext S w w'→(∀x,S x→n0≤x∧¬F x)→J k F w'
  stx:∀{k:Nat} {F S:Nat→Prop} {w w':World},Jx k F w→Ext S w w'→(∀x,S x→n0≤x∧¬F x)→Jx k F w'
  lt:∀{k:Nat} {F:Nat→Prop} {w:World},J k F w→∀x,F x→x<w.heap.size
  ltx:∀{k:Nat} {F:Nat→Prop} {w:World},Jx k F w→∀x,F x→x<w.heap.size
  round:∀{k:Nat} {F:Nat→Prop} {w:World},J k F w→k<N→∀(vs:Array Value) (X:Nat→Prop),A k vs X w→(∀x,X x→n0≤x∧¬F x)→
    YieldAt Fence.wide 8 P l vs w fun e w'=>∃b,e= .returned (.bool b)∧∃F':Nat→Prop,Ext (fun x=>F x∨X x) w w'∧(∀x,F' x→F x∨X x∨w.heap.size≤x)∧(b=true→J (k+1) F' w')∧(b=false→Jx k F' w')
def IterV (P:Program) (gf:Nat) (cap:List Value) (N:Nat) (A:Nat→Array Value→(Nat→Prop)→World→Prop) (own:Nat→Prop) (w:World):Prop:=
  ∀(l:Nat) (J Jx:Nat→(Nat→Prop)→World→Prop) (F:Nat→Prop),ConsV P l w.heap.size N A J Jx→J 0 F w→(∀x,own x→¬F x)→
    gn P gf (.func (.yield l) #[] #[]::cap) w fun _ w'=>∃F':Nat→Prop,Ext F w w'∧(∀x,F' x→F x∨w.heap.size≤x)∧(J N F' w'∨∃k,k<N∧Jx k F' w')
section
variable {α:Type} {w:World} {P:Program}
structure RdX (C:CoS α w) (l D:Nat) (z:α) (W:World) (X:Nat→Prop):Prop where
  ne:∀x,X x→w.heap.size≤x∧x≠l∧x≠D∧¬C.Fp z x
def RdV (C:CoS α w) (z0:α) (l D:Nat) (r:Loop) (k:Nat) (z:α) (W:World) (X:Nat→Prop):Ending→World→Prop:=fun e w'=>
  ∃b,e= .returned (.bool b)∧∃F':Nat→Prop,Ext (fun x=>(C.Fp z x∨x=l∨x=D)∨X x) W w'∧(∀x,F' x→(C.Fp z x∨x=l∨x=D)∨X x∨W.heap.size≤x)∧(b=true→CJ C z0 l D r (k+1) F' w')∧(b=false→CJx C z0 l D r k F' w')
variable {C:CoS α w} {z0:α} {l D:Nat} {r:Loop} {k:Nat} {z:α} {W:World} {f:Fs} {env:Env} {u:World} {X:Nat→Prop}
theorem RdC.endsV (h:RdC C z0 l D r z W) (hN:RdX C l D z W X) (hE:Ext (fun x=>(C.Fp z x∨x=l)∨X x) W u) {z':α} (hF:∀x,C.Fp z' x→C.Fp z x∨X x∨W.heap.size≤x):
  u.heap[D]? =some zq6∧(∀x,C.Fp z' x→x≠l∧x≠D)∧Ext (C.Fp z0) w u∧(∀x,C.Fp z' x→C.Fp z0 x∨w.heap.size≤x):=by
 refine⟨(hE.same _ (uw h.D) fun e=>e.elim (fun e=>e.elim (fun e=>(h.fp _ e).2 rfl) fun e=>h.ne e.symm) fun e=>(hN.ne _ e).2.2.1 rfl).trans h.D,fun x a=> ?_,h.X.trans hE fun x a e=> ?_,fun x a=> ?_⟩
 ·rcases hF x a with a|a|a
  ·exact h.fp x a
  ·exact⟨(hN.ne x a).2.1,(hN.ne x a).2.2.1⟩
  exact⟨fun e=>by have:=uw h.l;omega,fun e=>by have:=uw h.D;omega⟩
 ·rcases e with(e|e)|e
  ·exact(h.sub x e).resolve_right zo
  ·have:=h.lo.1;omega
  have:=(hN.ne x e).1;omega
 rcases hF x a with a|a|a
 ·exact h.sub x a
 ·exact .inr (hN.ne x a).1
 exact .inr (aA h.X.size a)
theorem fin_nextV (z':α) (h:RdC C z0 l D r z W) (hN:RdX C l D z W X) (hl:u.heap[l]? =some (.loop (busy r))) (hE:Ext (fun x=>(C.Fp z x∨x=l)∨X x) W u) (hF:∀x,C.Fp z' x→C.Fp z x∨X x∨W.heap.size≤x) (hJ:C.J (k+1) z' u):
  Fin f (roundPost P l (RdV C z0 l D r k z W X)) .normal env u:=by
 intro a _
 obtain⟨h1,h2,h3,h4⟩:=h.endsV hN hE hF
 have hE2:Ext (One l) u (u.putObj l (.loop {busy r with state:=if(none:Option Code).isNone then .ready else .done,pending:=none})):=Ext.putObj hl rfl rfl
 refine⟨_,_,run_endRound none hl,true,rfl,fun x=>C.Fp z' x∨x=l∨x=D,?_,fun x hx=> ?_,fun _=> ?_,fun e=>by cases e⟩
 ·exact(hE.mono fun x _ e=>e.imp (fun e=>e.imp id .inl) id).then (hE2.mono fun x _ e=> .inl (.inr (.inl e)))
 ·rcases hx with hx|hx
  ·exact(hF x hx).imp .inl id
  exact .inl (.inr hx)
 refine⟨z',rfl,C.st hJ hE2 fun x e=> ?_,h2,?_,?_,h3.trans hE2 fun x hx e=> ?_,h4⟩
 ·have e:x=l:=e
  subst e
  exact⟨h.lo.1,fun e=>(h2 _ e).1 rfl⟩
 ·rw[World.putObj_heap_same (uw hl)]
  have e1:=h.rd
  have e2:=h.pe
  cases r
  cases e1
  cases e2
  rfl
 ·exact(World.putObj_heap_other h.ne.symm).trans h1
 have e:x=l:=e
 have:=h.lo.1
 omega
variable {Q:vd}
theorem c_iterV (C:CoS α w) (z0:α) {g:Operand} {ps:Array Tmp} {assign body:Code} {gf:Nat} {cap:Array Value} {N:Nat} {A:Nat→Array Value→(Nat→Prop)→World→Prop} {own:Nat→Prop}
  (hg:xh env g=some (.func (.func gf) #[] cap)) (hcf:∀args w,(callFunc gf args).run P w= .ok (.enter gf args) w)
  (hps:ps.toList.all (fun t=>Nat.blt t f.n)=true) (hpn:∀k vs X W,A k vs X W→vs.size=ps.size)
  (hit:∀w1,Ext No w w1→IterV P gf cap.toList N A own w1) (hown:∀x,own x→x<w.heap.size∧¬C.Fp z0 x) (h0:C.J 0 z0 w)
  (hround:∀(l D:Nat) (r:Loop) (k:Nat) (z:α) (W:World) (vs:Array Value) (X:Nat→Prop),RdC C z0 l D r z W→RdX C l D z W X→C.J k z W→k<N→A k vs X W→
   WCI (Fence.wide.inRound l) 8 P ⟨f.n,[]⟩ assign (Exit.then (fun a1 w1=>∃w2,(Instr.beginRound l).run P w1= .ok () w2∧body.wpIn (Fence.wide.inRound l) 8 P (roundPost P l (RdV C z0 l D r k z W X)) a1 w2) (fun _ _ _=>False)) (penv ps.toList vs.toList env) W)
  (hdone:∀(D:Nat) (z:α) (W:World),C.J N z W→Ext (C.Fp z0) w W→(∀x,C.Fp z x→C.Fp z0 x∨w.heap.size≤x)→w.heap.size≤D→W.heap[D]? =some zq6→(∀x,C.Fp z x→x≠D)→
   Fin ⟨f.n,{target:= .collected D,args:= #[]}::f.ds⟩ Q .normal env W)
  (hstop:∀(D:Nat) (k:Nat) (c:Code) (z:α) (W:World),k<N→C.Jx k c z W→Ext (C.Fp z0) w W→(∀x,C.Fp z x→C.Fp z0 x∨w.heap.size≤x)→w.heap.size≤D→W.heap[D]? =some zq6→(∀x,C.Fp z x→x≠D)→
   WC P ⟨f.n,{target:= .collected D,args:= #[]}::f.ds⟩ c Q env W):
  WC P f (.rangeFunc g ps assign body) Q env w:=by
 refine c_rangeX hg hcf fun fn a ha d h w1 H U V a2=> ?_
 have Y:w.heap.size+1≠w.heap.size:=by omega
 have M:d.state= .ready:=by rw[h]
 have O:d.pending=none:=by rw[h]
 have I:ConsV P (w.heap.size+1) w1.heap.size N A (CJ C z0 (w.heap.size+1) w.heap.size d) (CJx C z0 (w.heap.size+1) w.heap.size d):=by
  refine⟨?_,?_,?_,?_,?_⟩
  ·rintro k F S u u' ⟨z,rfl,p,q,m,o,s,y⟩ E G
   have j:∀x,S x→w.heap.size≤x∧¬C.Fp z x:=fun x b=>⟨by have:=(G x b).1;omega,fun e=>(G x b).2 (.inl e)⟩
   exact⟨z,rfl,C.st p E j,q,(E.same _ (uw m) fun e=>(G _ e).2 (.inr (.inl rfl))).trans m,(E.same _ (uw o) fun e=>(G _ e).2 (.inr (.inr rfl))).trans o,s.trans E fun x b e=>by have:=(j x e).1;omega,y⟩
  ·rintro k F S u u' ⟨c,z,rfl,p,q,m,o,s,y⟩ E G
   have j:∀x,S x→w.heap.size≤x∧¬C.Fp z x:=fun x b=>⟨by have:=(G x b).1;omega,fun e=>(G x b).2 (.inl e)⟩
   exact⟨c,z,rfl,C.stx p E j,q,(E.same _ (uw m) fun e=>(G _ e).2 (.inr (.inl rfl))).trans m,(E.same _ (uw o) fun e=>(G _ e).2 (.inr (.inr rfl))).trans o,s.trans E fun x b e=>by have:=(j x e).1;omega,y⟩
  ·rintro k F u ⟨z,rfl,p,q,m,o,s,y⟩ x b
   rcases b with b|rfl|rfl
   ·exact C.lt p x b
   ·exact uw m
   exact uw o
  ·rintro k F u ⟨c,z,rfl,p,q,m,o,s,y⟩ x b
   rcases b with b|rfl|rfl
   ·exact C.ltx p x b
   ·exact uw m
   exact uw o
  rintro k F u ⟨z,rfl,p,q,m,o,s,y⟩ Z vs X R T
  have hy:=run_yield (P:=P) (args:=vs) m (by rw[h];exact hpn k vs X u R)
  refine⟨_,_,_,_,hy,roundIn_of_wpIn trivial ?_⟩
  have hA:d.assign=assign:=by rw[h]
  have hB:d.body=body:=by rw[h]
  have hT:d.tmps=a.tmps:=by rw[h]
  have hP:d.params=ps:=by rw[h]
  rw[hA,hB,hT,hP]
  obtain⟨g1,g2⟩:=ag_fold (f:=⟨f.n,[]⟩) ps.toList vs.toList env a.tmps hps ha.size ha.get
  refine hround (w.heap.size+1) w.heap.size d k z u vs X ⟨M,O,Y,⟨by omega,aD _⟩,q,m,o,s,y⟩ ⟨fun x b=>⟨by have:=(T x b).1;omega,fun e=>(T x b).2 (.inr (.inl e)),fun e=>(T x b).2 (.inr (.inr e)),fun e=>(T x b).2 (.inl e)⟩⟩ p Z R _ ⟨rfl,?_,fun i v hi=> ?_⟩
  ·rw[←Array.foldl_toList,Array.toList_zip];exact g1
  show(Array.foldl _ a.tmps (ps.zip vs))[i]? =some v
  rw[←Array.foldl_toList,Array.toList_zip];exact g2 i v hi
 have a0:CJ C z0 (w.heap.size+1) w.heap.size d 0 (fun x=>C.Fp z0 x∨x=w.heap.size+1∨x=w.heap.size) w1:=
  ⟨z0,rfl,C.st h0 H fun x e=>e.elim,fun x b=>⟨fun e=>by have:=C.lt h0 x b;omega,fun e=>by have:=C.lt h0 x b;omega⟩,U,V,H.no,fun x b=> .inl b⟩
 refine(hit w1 H (w.heap.size+1) _ _ _ I a0 fun x b=> ?_).mono ?_
 ·have:=hown x b
  rintro(e|e|e)
  ·exact this.2 e
  ·omega
  omega
 rintro _ w2 ⟨F',a3,a4,⟨z,rfl,p,q,m,o,s,y⟩|⟨k,Z,c,z,rfl,p,q,m,o,s,y⟩⟩
 ·refine⟨d,m,by rw[M];decide,o,fun w3 B K=>⟨fun _=> ?_,fun c L=>by rw[O] at L;cases L⟩⟩
  have j:∀x,One (w.heap.size+1) x→w.heap.size≤x∧¬C.Fp z x:=fun x b=>by
   have b:x=w.heap.size+1:=b
   exact⟨by omega,fun e=>(q x e).1 b⟩
  exact hdone _ z w3 (C.st p B j) (s.trans B fun x b e=>by have:=(j x e).1;omega) y (aD _) K fun x b=>(q x b).2
 refine⟨_,m,(fun e=>by cases e),o,fun w3 B K=>⟨fun L=>(by cases L),fun c' L=> ?_⟩⟩
 cases L
 have j:∀x,One (w.heap.size+1) x→w.heap.size≤x∧¬C.Fp z x:=fun x b=>by
  have b:x=w.heap.size+1:=b
  exact⟨by omega,fun e=>(q x e).1 b⟩
 exact hstop _ k c z w3 Z (C.stx p B j) (s.trans B fun x b e=>by have:=(j x e).1;omega) y (aD _) K fun x b=>(q x b).2
end
/-! ### A deferred call -/
theorem callsD_enter {P:Program} {g:FuncId} {fn:Func} {c:Code} {args:List Value} {w:World} {R:Value→World→Prop} {n:Nat} {env:Env}
  (hf:P.funcs[g]? =some fn) (hb:fn.body=some c) (hn:fn.ntmps=n) (hl:Nat.ble args.length n=true) (he:envO 0 args=some env) (h:WC P ⟨n,[]⟩ c (bodyPost P fn (Rv R)) env w):
  CallsDIn Fence.wide 8 P g args.toArray .returning w fun e u' w'=>u'= .returning∧Rv R e w':=by
 refine callsDIn_of_wp hf hb trivial (wpIn_wide.2 (h _ ⟨rfl,?_,fun i v d=> ?_⟩))
 ·have:args.length≤n:=dD hl
  simp only[hn,Array.size_append,List.size_toArray,Array.size_replicate]
  omega
 have:=(envO_lk he i v d).2
 simp only[bB] at this
 have a:i<args.length:=by
  rcases bF i args.length with b|b
  ·exact b
  simp[cD b] at this
 simp only[hn]
 rw[Array.getElem?_append_left (by simpa using a)]
 simpa using this
theorem wl_defer {P:Program} {f:Fs} {ops:Array Oper} {Q:vd} {o:Oper} {rest:List Oper} {env:Env} {w:World} {x:Operand} {g:Nat} {cap:Array Value}
  (ho:o.op= .defer {callee:= .value x,args:= #[],argTypes:= #[]}) (hg:takes ops env o=true) (hd:o.dst=none) (hx:xh env x=some (.func (.func g) #[] cap))
  (h:WL P ⟨f.n,{target:= .fn (.func g) cap,args:= #[]}::f.ds⟩ ops Q rest env w):WL P f ops Q (o::rest) env w:=by
 intro a ha
 unfold wpList
 rw[aR (xv ha hg)]
 refine .inl ?_
 have hrun:(execOp a.eval o).run P w= .ok (.defer {target:= .fn (.func g) cap,args:= #[]}) w:=by
  simp[execOp,ho,resolve,ha.eval hx,Deferred.ofValue]
 unfold Oper.wp
 rw[hrun]
 show wpList P ops Q rest (({a with defers:=_::a.defers}:Act).put o.dst undef) w
 rw[hd]
 exact h _ ⟨by simp[Act.put,ha.defers],ha.size,ha.get⟩
theorem f_retD {P:Program} {n g:Nat} {fn:Func} {R:Value→World→Prop} {env:Env} {w:World} {cap:Array Value} {R':Value→World→Prop} (vs:List Value)
  (hcf:∀args w,(callFunc g args).run P w= .ok (.enter g args) w) (hD:CallsDIn Fence.wide 8 P g cap .returning w fun e u' w'=>u'= .returning∧Rv R' e w')
  (k:∀v w',R' v w'→ResAll P env w' fn.results.toList vs∧R (tupV vs) w'):
  Fin ⟨n,[{target:= .fn (.func g) cap,args:= #[]}]⟩ (bodyPostM Fence.wide 9 P fn (Rv R)) .ret env w:=by
 intro a ha
 show LeavesInM Fence.wide 9 P fn a.tmps (Rv R) a.defers .returning w
 rw[ha.defers]
 refine⟨by simp,.inr ⟨fun h=>(by cases h),.func g,cap,g,cap,rfl,by simp[invoke,hcf],fun _ _=>trivial,hD.mono ?_⟩⟩
 rintro e u' w' ⟨rfl,he⟩
 cases e with
 |returned v=>
  obtain⟨h1,h2⟩:=k v w' he
  have hr:=zj2 (a:={a with defers:=[]}) (w:=w') (n:=n) ⟨rfl,ha.size,ha.get⟩ _ _ h1
  refine⟨tupV vs,?_,h2⟩
  unfold results
  rw[Array.mapM_eq_mapM_toList,aK,Sem.run_map]
  erw [hr]
  simp only[aF,aT]
  congr 1
  cases vs with
  |nil=>rfl
  |cons v r=>cases r<;>simp[tupV]
 |panicked ch=>exact he.elim
 |outgrown=>exact he.elim
structure k8 (W w:World) (p:Option Addr) (n c T sz:Nat) (xs:List Value):Prop where
  own:Own w p n c T sz xs
  new:∀y,jb p y→W.heap.size≤y
section
variable {W w w':World} {p:Option Addr} {n c T sz:Nat} {xs:List Value}
theorem k8.nil (W w:World) (T sz:Nat):k8 W w none 0 0 T sz []:=⟨Own.nil _ _ _,fun _ h=>by cases h⟩
theorem k8.ga (h:k8 W w p n c T sz xs) (hE:Ext No w w'):k8 W w' p n c T sz xs:=⟨h.own.ext hE fun _ _=>id,h.new⟩
theorem k8.gj {b U:Nat} {L:List Value} (h:k8 W w p n c T sz xs) (hE:Ext (One b) w w') (hb:gz w b U L) (hT:T≠U):k8 W w' p n c T sz xs:=⟨h.own.ju hE hb hT,h.new⟩
theorem k8.xy {kv:List UInt8→Value} {okx:List UInt8→Prop} {β:Type} {r:Nat} {enc:β→Value} {g:List UInt8→Option β} (h:k8 W w p n c T sz xs) (hm:Ad kv okx w r enc g) (hE:Ext (One r) w w'):k8 W w' p n c T sz xs:=⟨h.own.xy hm hE,h.new⟩
theorem k8.sl (h:k8 W w p n c T sz xs):Sl w p n sz xs:=h.own.sl
theorem k8.older {V:World} (h:k8 W w p n c T sz xs) (hV:V.heap.size≤W.heap.size):k8 V w p n c T sz xs:=⟨h.own,fun y hy=>aA hV (h.new y hy)⟩
theorem k8.blk {b:Nat} {l:List Value} (h:gz w b T l) (hn:W.heap.size≤b) (hl:l.length=n*sz) (hm:n≤maxLen):k8 W w (some ⟨b,0,none⟩) n n T sz l:=
 ⟨by have:=Own.blk (n:=n) (c:=n) h sz hl (aD _) hm;rw[aO zo] at this;exact this,fun y hy=>by have e:b=y:=congrArg Addr.block (cG hy);omega⟩
end
theorem xj {P:Program} {I:u0} {f:Fs} {ops:Array Oper} {o:Oper} {env:Env} {w W:World} {K:Env→World→Prop} (hI:I.Ok P) {s:yj5} (h:appE I f.n ops env o=some s) (sz by_:Nat) (hsz:s.g.size=sz) (hby:s.g.bytes=by_) (hz:(cellsOf s.g.zero).length=sz) (hz0:0<sz)
  {xs:List Value} (hq:k8 W w s.p s.n s.c s.e sz xs) {m:Nat} {news:List Value} (hsrc:Src P w sz s.x m news) (hm:s.n+m≤maxLen) (hb:(s.n+m)*by_≤140737488355328)
  {n':Nat} {ys:List Value} (hn:s.n+m=n') (hy:xs++news=ys) {S:Nat→Prop} (hX:Ext S W w)
  (k:∀p' c' w',k8 W w' p' n' c' s.e sz ys→Ext (jb s.p) w w'→Ext S W w'→K ((s.d,.slice p' n' c')::env) w'):St P f ops o env w K:=by
 subst hn;subst hy
 refine va hI h sz by_ hsz hby hz hz0 hq.own hsrc hm hb fun p' c' w' b a i=>k p' c' w' ⟨b,fun y hy=>(i y hy).elim (hq.new y) fun e=>aA hX.size e⟩ a (hX.trans a fun y hy j=>absurd hy (Nat.not_lt.2 (hq.new y j)))
def Bo (W w:World) (T U:Nat):Nat→Prop:=fun y=>W.heap.size≤y∧∃L,gz w y T L∨gz w y U L
theorem Ext.newer {W w w':World} {S:Nat→Prop} (hX:Ext No W w) (hE:Ext S w w') (hS:∀y,S y→W.heap.size≤y):Ext No W w':=hX.trans hE fun y hy hF=>absurd hy (Nat.not_lt.2 (hS y hF))
theorem Ext.x4 {W w w':World} {T U:Nat} (hX:Ext No W w) (hE:Ext (Bo W w T U) w w'):Ext No W w':=hX.newer hE fun _ h=>h.1
theorem gz.x4 {W w w':World} {T U b V:Nat} {L:List Value} (hb:gz w b V L) (hE:Ext (Bo W w T U) w w') (h1:V≠T) (h2:V≠U):gz w' b V L:=
 hb.ext hE fun h=>by
  obtain⟨_,M,h|h⟩:=h
  ·exact h1 (hb.uniq h).2
  exact h2 (hb.uniq h).2
theorem Own.x4 {W w w':World} {T U V:Nat} {p:Option Addr} {n c sz:Nat} {xs:List Value} (h:Own w p n c V sz xs) (hE:Ext (Bo W w T U) w w') (h1:V≠T) (h2:V≠U):Own w' p n c V sz xs:=
 h.ext hE fun y hy k=>by
  obtain⟨l,hl⟩:=h.D7 hy
  obtain⟨_,M,k|k⟩:=k
  ·exact h1 (hl.uniq k).2
  exact h2 (hl.uniq k).2
theorem Ext.ky {W w w1 w2:World} {T U:Nat} (h:Ext (Bo W w T U) w w1) (k:Ext (Bo W w1 T U) w1 w2):Ext (Bo W w T U) w w2:=
 h.trans k fun x hx hT=>cZ fun hn=>by
  have e:=h.same x hx hn
  obtain⟨h1,L,h2|h2⟩:=hT
  ·exact hn ⟨h1,L,.inl (by rw[gz,←e];exact h2)⟩
  exact hn ⟨h1,L,.inr (by rw[gz,←e];exact h2)⟩
theorem k8.zv5 {W w w':World} {p:Option Addr} {n c T sz:Nat} {xs:List Value} (h:k8 W w p n c T sz xs) {p2:Option Addr} {n2 c2 T2 sz2:Nat} {xs2:List Value} (ho:Own w p2 n2 c2 T2 sz2 xs2) (hE:Ext (jb p2) w w') (hT:T≠T2):k8 W w' p n c T sz xs:=by
 rcases ho with⟨d,_⟩|⟨b,l,d,e,_⟩
 ·exact h.ga (hE.mono fun x _ a=>by rw[d] at a;cases a)
 exact h.gj (hE.mono fun x _ a=>by rw[d] at a;exact(congrArg Addr.block (cG a)).symm) e hT
theorem Bo.one {W w:World} {T U b:Nat} {L:List Value} (hb:gz w b T L) (hn:W.heap.size≤b):∀y,One b y→Bo W w T U y:=fun y e=>by have e:y=b:=e;subst e;exact⟨hn,L,.inl hb⟩
theorem Bo.own {W w:World} {T U:Nat} {p:Option Addr} {n c sz:Nat} {xs:List Value} (h:k8 W w p n c U sz xs):∀y,jb p y→Bo W w T U y:=fun y hy=>by
 obtain⟨l,hl⟩:=h.own.D7 hy
 exact⟨h.new y hy,l,.inr hl⟩
theorem k8.x4 {V W w w':World} {T U R:Nat} {p:Option Addr} {n c sz:Nat} {xs:List Value} (h:k8 V w p n c R sz xs) (hE:Ext (Bo W w T U) w w') (h1:R≠T) (h2:R≠U):k8 V w' p n c R sz xs:=⟨h.own.x4 hE h1 h2,h.new⟩
theorem Ad.x4 {kv:List UInt8→Value} {okx:List UInt8→Prop} {β:Type} {W w w':World} {T U r:Nat} {enc:β→Value} {g:List UInt8→Option β} (hm:Ad kv okx w r enc g) (hE:Ext (Bo W w T U) w w'):Ad kv okx w' r enc g:=
 hm.ext hE fun⟨_,L,h⟩=>h.elim (fun h=>hm.ne h rfl) fun h=>hm.ne h rfl
def zq1 (W w:World) (p:Option Addr) (n c T sz:Nat) (xs:List Value):Prop:=(c=n∧Sl w p n sz xs∧∀b off,p=some ⟨b,off,none⟩→b<W.heap.size)∨k8 W w p n c T sz xs
theorem zq1.ext {S:Nat→Prop} {W w w':World} {p:Option Addr} {n c T sz:Nat} {xs:List Value} (h:zq1 W w p n c T sz xs) (hE:Ext S w w') (h1:∀y,S y→W.heap.size≤y) (h2:k8 W w p n c T sz xs→k8 W w' p n c T sz xs):zq1 W w' p n c T sz xs:=
 h.imp (fun e=>⟨e.1,e.2.1.ext hE fun b off hp hb=>by have:=e.2.2 b off hp;have:=h1 b hb;omega,e.2.2⟩) h2
theorem zq1.ga {W w w':World} {p:Option Addr} {n c T sz:Nat} {xs:List Value} (h:zq1 W w p n c T sz xs) (hE:Ext No w w'):zq1 W w' p n c T sz xs:=h.ext hE (fun _ e=>e.elim) fun e=>e.ga hE
theorem zq1.gj {W w w':World} {p:Option Addr} {n c T sz:Nat} {xs:List Value} (h:zq1 W w p n c T sz xs) {b U:Nat} {L:List Value} (hE:Ext (One b) w w') (hb:gz w b U L) (hn:W.heap.size≤b) (hT:T≠U):zq1 W w' p n c T sz xs:=h.ext hE (fun y e=>by have e:y=b:=e;omega) fun e=>e.gj hE hb hT
theorem zq1.x4 {W w w':World} {p:Option Addr} {n c T sz U:Nat} {xs:List Value} (h:zq1 W w p n c T sz xs) (hE:Ext (Bo W w U U) w w') (hT:T≠U):zq1 W w' p n c T sz xs:=h.ext hE (fun _ e=>e.1) fun e=>e.x4 hE hT hT
theorem zq1.xy {kv:List UInt8→Value} {okx:List UInt8→Prop} {β:Type} {W w w':World} {p:Option Addr} {n c T sz:Nat} {xs:List Value} (h:zq1 W w p n c T sz xs) {r:Nat} {enc:β→Value} {g:List UInt8→Option β} (hm:Ad kv okx w r enc g) (hE:Ext (One r) w w') (hn:W.heap.size≤r):zq1 W w' p n c T sz xs:=h.ext hE (fun y e=>by have e:y=r:=e;omega) fun e=>e.xy hm hE
theorem zq1.sl {W w:World} {p:Option Addr} {n c T sz:Nat} {xs:List Value} (h:zq1 W w p n c T sz xs):Sl w p n sz xs:=h.elim (fun e=>e.2.1) fun e=>e.sl
theorem zq1.cap {W w:World} {p:Option Addr} {n c T sz:Nat} {xs:List Value} (h:zq1 W w p n c T sz xs):n≤c:=h.elim (fun e=>by rw[e.1];exact aD _) fun e=>e.own.cap
theorem st_appT {P:Program} {I:u0} {f:Fs} {ops:Array Oper} {o:Oper} {env:Env} {w W:World} {K:Env→World→Prop} (hI:I.Ok P) {s:yj5} (h:appE I f.n ops env o=some s) (sz by_:Nat) (hsz:s.g.size=sz) (hby:s.g.bytes=by_) (hz:(cellsOf s.g.zero).length=sz) (hz0:0<sz)
  {xs:List Value} (hq:zq1 W w s.p s.n s.c s.e sz xs) {m:Nat} {news:List Value} (hsrc:Src P w sz s.x m news) (hm:s.n+m≤maxLen) (hm0:0<m) (hb:(s.n+m)*by_≤140737488355328)
  {n':Nat} {ys:List Value} (hn:s.n+m=n') (hy:xs++news=ys) (hW:W.heap.size≤w.heap.size)
  (k:∀p' c' w',k8 W w' p' n' c' s.e sz ys→Ext (Bo W w s.e s.e) w w'→K ((s.d,.slice p' n' c')::env) w'):St P f ops o env w K:=by
 subst hn;subst hy
 rcases hq with⟨r,j,_⟩|hq
 ·exact st_appG hI h sz by_ hsz hby hz hz0 j hsrc hm hb zo fun b c' w' l a i=>k _ c' w' ⟨a,fun y hy=>by have e:b=y:=congrArg Addr.block (cG hy);omega⟩ i.no
 exact va hI h sz by_ hsz hby hz hz0 hq.own hsrc hm hb fun p' c' w' a i q=>k p' c' w' ⟨a,fun y hy=>(q y hy).elim (hq.new y) fun e=>aA hW e⟩ (i.mono fun y _ hy=>Bo.own hq y hy)
section
variable {P:Program} {I:u0} {f:Fs} {ops:Array Oper} {o:Oper} {env:Env} {w:World}
def s2bE (I:u0) (n:Nat) (ops:Array Oper) (env:Env) (o:Oper):Option (ByteArray×Nat):=
  match pre n ops env o with
  |false=>none
  |true=>match o.dst with
    |some d=>match o.op with
      | .convert s t x=>match yn I s with
        |some y=>match y.desc with
          | .string=>match yn I t with
            |some z=>match z.desc with
              | .slice e=>match yn I e with
                |some g=>match g.desc with
                  | .int .u8=>match xh env x with
                    |some (.string b)=>some (b,d)
                    |_=>none
                  |_=>none
                |none=>none
              |_=>none
            |none=>none
          |_=>none
        |none=>none
      |_=>none
    |none=>none
theorem st_s2b (hI:I.Ok P) {K:Env→World→Prop} {x:List UInt8} {d:Nat} (h:s2bE I f.n ops env o=some (ul x,d))
  (k:∀b c w',w.heap.size≤b→ux w' (some ⟨b,0,none⟩) x→x.length≤c→(∀T L,¬gz w' b T L)→Ext No w w'→K ((d,.slice (some ⟨b,0,none⟩) x.length c)::env) w'):St P f ops o env w K:=by
 unfold s2bE at h
 split at h
 ·cases h
 rename_i O
 obtain⟨Q,R⟩:=pre_eq O
 split at h
 ·rename_i d' S
  split at h
  ·rename_i s t y U
   split at h
   ·rename_i ys m
    split at h
    ·rename_i p
     split at h
     ·rename_i z q
      split at h
      ·rename_i e V
       split at h
       ·rename_i g W
        split at h
        ·rename_i r
         split at h
         ·rename_i bb X
          simp only[bG,cP] at h
          obtain⟨rfl,rfl⟩:=h
          have G:=(hI.get m).under w
          have H:=(hI.get q).under w
          have J:=(hI.get W).under w
          rw[p] at G
          rw[V] at H
          rw[r] at J
          obtain⟨c,M⟩:∃c,c=grownCap w x.length 0 e:=⟨_,rfl⟩
          have A:x.length≤c:=by rw[M];unfold grownCap Question.cut;exact Nat.le_add_right _ _
          obtain⟨l,N⟩:∃l,l=ge x++List.replicate (c-x.length) (Value.int .u8 0):=⟨_,rfl⟩
          obtain⟨u,a⟩:∃u,u=w.drew.alloc (.cells l.toArray e):=⟨_,rfl⟩
          have B:Ext No w u:=by rw[a];exact(Ext.drew w).then (Ext.alloc w.drew l.toArray e)
          have i:gz u w.heap.size e l:=by rw[a];exact Cc w.drew l e
          obtain⟨Y,Z,f3⟩:=freeze_ext i
          have hE:Ext No w (u.freeze ⟨w.heap.size,l.length,none⟩ 1):=
           B.trans Y fun y hy k=>by have k:y=w.heap.size:=k;omega
          have C:l.take x.length=ge x:=by rw[N,dG (gm x)]
          refine yg Q R (v:= .slice (some ⟨w.heap.size,0,none⟩) x.length c) (w':=u.freeze ⟨w.heap.size,l.length,none⟩ 1) (fun ρ a0=> ?_) (by
           rw[S]
           refine k _ c _ (aD _) ⟨by rw[gm,bE],.inr ⟨_,0,rfl,?_⟩⟩ A ?_ hE
           ·have:=Z.take x.length
            rw[C] at this
            exact this
           intro T L j
           unfold gz World.freeze at j
           rw[aP zd] at j
           unfold gz at i
           simp only[Array.getElem?_modify,cO,i,Option.map_some,bG,Obj.cells.injEq,cP] at j
           have:=j.2.2
           simp at this)
          have D:u.shape? w.heap.size=some (e,l.length):=by
           unfold gz at i
           simp[World.shape?,i]
          have E:(choose (.appendCap x.length 0 e)).run P w= .ok c w.drew:=by
           rw[M];simp[Question.forced,grownCap]
          have F:(ul x).data.map (fun b=>Value.int .u8 b.toNat)++Array.replicate (c-x.length) (.int .u8 0)=l.toArray:=by
           rw[N];simp[ul,ge,zu,Function.comp_def]
          have go:(convert s t (.string (ul x))).run P w= .ok (.slice (some ⟨w.heap.size,0,none⟩) x.length c) (u.freeze ⟨w.heap.size,l.length,none⟩ 1):=by
           unfold convert
           rw[jc G,jc H]
           show(underlying e>>=_).run P w=_
           rw[jc J]
           show(Conv.stringToBytes e (ul x)).run P w=_
           unfold Conv.stringToBytes
           have q:(ul x).size=x.length:=rfl
           simp only[aK,q,E,aF,F,newRow,run_newObj,aT]
           show(Sem.run P (markStringish ⟨w.heap.size,0,none⟩) (w.drew.alloc (.cells l.toArray e))).andThen _=_
           rw[←a]
           simp[markStringish,shape,freeze,Sem.run,D]
          simp only[execOp,U,a0 _ _ X,aK,go,aF,aT]
         cases h
        cases h
       cases h
      cases h
     cases h
    cases h
   cases h
  cases h
 cases h
end
theorem Src.bytes {P:Program} {w:World} {p:Option Addr} {c:Nat} {M:List UInt8} (h:ux w p M):Src P w 1 (.slice p M.length c) M.length (ge M):=Src.slice h OneC.h
theorem Src.one {P:Program} {w:World} {b T c:Nat} {x:UInt8} (h:gz w b T (ge [x])):Src P w 1 (.slice (some ⟨b,0,none⟩) 1 c) 1 (ge [x]):=Src.slice (m:=1) ⟨rfl,.inr ⟨b,0,rfl,h.kj⟩⟩ OneC.h
theorem Src.id {P:Program} {w:World} {b off c:Nat} {x:List UInt8} (h:Seg w b off (ge x)) (hx:x.length=32):Src P w 1 (.slice (some ⟨b,off,none⟩) 32 c) 32 (ge x):=Src.slice (m:=32) ⟨by rw[gm,hx],.inr ⟨b,off,rfl,h⟩⟩ OneC.h
theorem vv {P:Program} {I:u0} {f:Fs} {ops:Array Oper} {o:Oper} {env:Env} {w W:World} {K:Env→World→Prop} (hI:I.Ok P) {s:yj5} (h:appE I f.n ops env o=some s) (T:Nat) (he:s.e=T) (hsz:s.g.size=1) (hby:s.g.bytes=1) (hz:(cellsOf s.g.zero).length=1)
  {L M:List UInt8} (hq:k8 W w s.p s.n s.c T 1 (ge L)) (hn:s.n=L.length) {m:Nat} (hsrc:Src P w 1 s.x m (ge M)) (hm:m=M.length) (hl:L.length+m<1000000000) (hX:Ext No W w)
  (k:∀p' c' w' L',L'=L++M→L'.length=L.length+m→k8 W w' p' L'.length c' T 1 (ge L')→Ext (jb s.p) w w'→Ext (Bo W w T T) w w'→Ext No W w'→K ((s.d,.slice p' L'.length c')::env) w'):St P f ops o env w K:=by
 subst he
 have e:(L++M).length=L.length+m:=by rw[aB,hm]
 refine xj hI h 1 1 hsz hby hz zd hq hsrc zm zo (n':=(L++M).length) (ys:=ge (L++M)) (by rw[e,hn]) (kz _ _).symm hX fun p' c' w' i b a=>k p' c' w' _ rfl e i b (b.mono fun y _ j=>Bo.own hq y j) a
end Go.Vc
