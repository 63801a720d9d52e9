/-
  Walks and laws towards: a batch is decoded from its bytes, and less of them is too short (StoreBack)
-/
import Derived.DeepKeys3
import Derived.MapKept
import Derived.MapFrom
import Derived.Test.YtpdiphfjmepijaaGreatDoorBaB
namespace Go.Proofs.YtpdiphfjmepijaaGreatDoor
open Go.Proofs.Tryz
open Go.Vc
theorem uStr:prog.underlying 9=some .string:=by kernel_rfl
theorem uBool:prog.underlying 4=some .bool:=by kernel_rfl
theorem uByte:prog.underlying 5=some (.int .u8):=by kernel_rfl
theorem uId:prog.underlying 30=some (.array 32 5):=by kernel_rfl
theorem cStr:prog.cellsOf 9=1:=by kernel_rfl
theorem cBool:prog.cellsOf 4=1:=by kernel_rfl
theorem cByte:prog.cellsOf 5=1:=by kernel_rfl
theorem cId:prog.cellsOf 30=32:=by kernel_rfl
theorem kId:prog.keyTypeAt 10 30=true:=by kernel_rfl
theorem gId:prog.eqGuardType prog.depth 30=false:=by kernel_rfl
theorem yu {l:List UInt8} (hl:l.length=32):prog.keyLits 2 30 (ge l)=some (D9 l):=lits_bytes uId cId uByte cByte hl
theorem x2 {l:List UInt8} (hl:l.length=32):(Value.agg (ge l).toArray).formed prog 30=true:=by
 simp[Value.formed,cId,gl,hl]
theorem uChgD:prog.underlying 150=some (.struct (prog.fieldsOf 150)):=by kernel_rfl
theorem cChgD:prog.cellsOf 150=3:=by kernel_rfl
theorem kChgD:prog.keyTypeAt 10 150=true:=by kernel_rfl
theorem gChgD:prog.eqGuardType prog.depth 150=false:=by kernel_rfl
theorem chgKey {r:ud} (h1:r.path.length≤maxLen) (h2:r.text.length≤maxLen):prog.keyLits 3 150 r.cells=some ([.string r.path,.bool r.is,.string r.text]):=by
 have a:[(9,0),(4,1),(9,2)].mapM (fun p:Nat×Nat=>prog.keyLits 2 p.1 ((r.cells.drop p.2).take (prog.cellsOf p.1)))=some [[.string r.path],[.bool r.is],[.string r.text]]:=by
  have b:((r.cells.drop 0).take (prog.cellsOf 9))=[.string (uo r.path)]:=by rw[cStr];rfl
  have c:((r.cells.drop 1).take (prog.cellsOf 4))=[.bool r.is]:=by rw[cBool];rfl
  have f:((r.cells.drop 2).take (prog.cellsOf 9))=[.string (uo r.text)]:=by rw[cStr];rfl
  simp only[List.mapM_cons,List.mapM_nil,b,c,f,lits_str (d:=1) uStr h1,lits_bool (d:=1) uBool,lits_str (d:=1) uStr h2]
  rfl
 have e:=lits_struct (d:=2) (cs:=r.cells) uChgD zk (by rw[cChgD];exact rfl) (L:=[(9,0),(4,1),(9,2)]) zk a
 rw[e]
 simp
theorem chgForm {r:ud} (h:r.cells.length=3):(Value.agg r.cells.toArray).formed prog 150=true:=by
 simp[Value.formed,cChgD,h]
theorem uLeafD:prog.underlying 148=some (.struct (prog.fieldsOf 148)):=by kernel_rfl
theorem cLeafD:prog.cellsOf 148=33:=by kernel_rfl
theorem kLeafD:prog.keyTypeAt 10 148=true:=by kernel_rfl
theorem gLeafD:prog.eqGuardType prog.depth 148=false:=by kernel_rfl
theorem leafKey {r:jf} (h1:r.path.length≤maxLen) (h2:r.id.length=32):prog.keyLits 3 148 r.cells=some (.string r.path::D9 r.id):=by
 have a:[(9,0),(30,1)].mapM (fun p:Nat×Nat=>prog.keyLits 2 p.1 ((r.cells.drop p.2).take (prog.cellsOf p.1)))=some [[.string r.path],D9 r.id]:=by
  have b:((r.cells.drop 0).take (prog.cellsOf 9))=[.string (uo r.path)]:=by rw[cStr];rfl
  have c:((r.cells.drop 1).take (prog.cellsOf 30))=ge r.id:=by rw[cId];exact List.take_of_length_le (by rw[←h2];exact Nat.le_of_eq (gl _))
  simp only[List.mapM_cons,List.mapM_nil,b,c,lits_str (d:=1) uStr h1,yu h2]
  rfl
 have e:=lits_struct (d:=2) (cs:=r.cells) uLeafD zk (by rw[cLeafD];exact jf.len h2) (L:=[(9,0),(30,1)]) zk a
 rw[e]
 simp
theorem xv3 {r:jf} (h:r.cells.length=33):(Value.agg r.cells.toArray).formed prog 148=true:=by
 simp[Value.formed,cLeafD,h]
theorem chg_eq {r s:ud}:([.string r.path,.bool r.is,.string r.text]:List Lit)=[.string s.path,.bool s.is,.string s.text]↔r=s:=by
 obtain⟨a,b,c⟩:=r
 obtain⟨d,e,f⟩:=s
 simp
theorem leaf_eq {r s:jf}:((.string r.path:Lit)::D9 r.id)= .string s.path::D9 s.id↔r=s:=by
 obtain⟨a,b⟩:=r
 obtain⟨c,d⟩:=s
 simp[vk]
theorem C8 {α:Type} {l m:List α} (hl:l.length=m.length) (h:∀k (hk:k<l.length),l[k]=m[k]'zo):l=m:=
 List.ext_getElem hl fun k h1 _=>h k h1
def RowsIn (l:List Aq):Prop:=∀r∈l,r.path.length≤maxLen∧r.text.length≤maxLen
def LeafIn (r:jf):Prop:=r.path.length≤maxLen∧r.id.length=32
def ChgIn (r:ud):Prop:=r.path.length≤maxLen∧r.text.length≤maxLen
def vh (r:List UInt8):Prop:=r.length=32
theorem vh.len {r:List UInt8} (h:vh r):(ge r).length=32:=by rw[gl];exact h
theorem equalLeaf_calls (w:World) {p q:Option Addr} {c d:Nat} {l m:(List (jf))} (h:Sl w p l.length 33 (l.flatMap jf.cells)) (h':Sl w q m.length 33 (m.flatMap jf.cells)) (hl:l.length<1000000000) (h1:∀r∈l,LeafIn r) (h2:∀r∈m,LeafIn r):
  gn prog 234 [.slice p l.length c,.slice q m.length d] w fun v w'=>v= .bool (decide (l=m))∧Ext No w w':=by
 refine gx func234 ?_
 have hX:=Ext.refl No w
 refine je rfl (gk (je rfl (jl rfl (fun hc=> ?_) (fun hc=> ?_))))
 ·refine gk ?_
  refine j4 (jz rfl (gq (gp (gu rfl rfl ?_))))
  exact⟨congrArg Value.bool (by symm;rw[decide_eq_false_iff_not];intro h;rw[h] at hc;exact hc rfl),hX⟩
 have hlm:l.length=m.length:=by omega
 refine xz (je rfl (gr ?_))
 refine jm (α:=Nat) [0,1,12] rfl (fun z=>[(13,.int .i64 (z:Int))]) (fun z u=>(z≤l.length∧∀k (hk:k<l.length),k<z→l[k]=m[k]'zo)∧Ext No w u) (fun z u=>l.length-z) (0) rfl ⟨⟨Nat.zero_le _,fun k _ h=>absurd h (Nat.not_lt_zero _)⟩,hX⟩ ?_
 rintro i w1 ⟨⟨hi,hok⟩,hX⟩
 refine je rfl (gk (jl rfl (fun hc=> ?_) (fun hc=> ?_)))
 ·have hi:i<l.length:=by omega
  have him:i<m.length:=by omega
  obtain⟨b,off,rfl,hsa⟩:=h.qm (fun r hr=>jf.len (h1 r hr).2) zo
  obtain⟨b',off',rfl,hsb⟩:=h'.qm (fun r hr=>jf.len (h2 r hr).2) zo
  have ha1:=h1 _ (List.getElem_mem hi)
  have ha2:=h2 _ (List.getElem_mem him)
  refine xz (gr (je rfl (gk ?_)))
  refine js rfl 9 [qP 0,qP 1,qP 2,qP 3,qP 4,qP 5,qP 6,qP 7,qP 8] [] (No) zk fun w2 hE2 hs2=> ?_
  have hXd:=hX
  have hX:=hX.gb hE2
  refine gv gc 2 rfl (qk gc rfl rfl 33 rfl i rfl zo (off+i*33) rfl (qf gc rfl rfl (fun w' hw'=>((hsa i hi).ga (hXd.gb hw'))) (jf.len ha1.2) ?_))
  refine gv gc 2 rfl (qk gc rfl rfl 33 rfl i rfl zo (off'+i*33) rfl (qf gc rfl rfl (fun w' hw'=>((hsb i him).ga (hXd.gb hw'))) (jf.len ha2.2) ?_))
  refine yj4 rfl rfl gLeafD 10 zd kLeafD (xv3 (jf.len ha1.2)) (xv3 (jf.len ha2.2)) (leafKey ha1.1 ha1.2) (leafKey ha2.1 ha2.2) leaf_eq ?_
  simp only[Bool.false_eq_true,if_false]
  refine jj (ja (j1 (jl rfl (fun hc=> ?_) (fun hc=> ?_))))
  ·refine gk ?_
   refine j4 (jz rfl (gq (ji (gp (gp (ji (gp (gu rfl rfl ?_))))))))
   exact⟨congrArg Value.bool (by symm;rw[decide_eq_false_iff_not];intro e;subst e;exact hc rfl),hX⟩
  have hei:=Decidable.not_not.1 hc
  refine j7 (Bo rfl ?_)
  rw[kg _ zo]
  refine gm ?_
  exact jn (i+1) rfl ⟨⟨by omega,fun k hk hlt=>(by rcases Nat.lt_or_ge k i with h0|h0;exact hok k hk h0;(have e:k=i:=zo);subst e;exact hei)⟩,hX⟩ zf
 have hall:l=m:=C8 hlm fun k hk=>hok k hk zo
 refine Bi (je rfl (gq (gu rfl rfl ?_)))
 exact⟨congrArg Value.bool (decide_eq_true hall).symm,hX⟩
theorem xw7 (w:World) {p q:Option Addr} {c d:Nat} {l m:(List (ud))} (h:Sl w p l.length 3 (l.flatMap ud.cells)) (h':Sl w q m.length 3 (m.flatMap ud.cells)) (hl:l.length<1000000000) (h1:∀r∈l,ChgIn r) (h2:∀r∈m,ChgIn r):
  gn prog 236 [.slice p l.length c,.slice q m.length d] w fun v w'=>v= .bool (decide (l=m))∧Ext No w w':=by
 refine gx func236 ?_
 have hX:=Ext.refl No w
 refine je rfl (gk (je rfl (jl rfl (fun hc=> ?_) (fun hc=> ?_))))
 ·refine gk ?_
  refine j4 (jz rfl (gq (gp (gu rfl rfl ?_))))
  exact⟨congrArg Value.bool (by symm;rw[decide_eq_false_iff_not];intro h;rw[h] at hc;exact hc rfl),hX⟩
 have hlm:l.length=m.length:=by omega
 refine xz (je rfl (gr ?_))
 refine jm (α:=Nat) [0,1,12] rfl (fun z=>[(13,.int .i64 (z:Int))]) (fun z u=>(z≤l.length∧∀k (hk:k<l.length),k<z→l[k]=m[k]'zo)∧Ext No w u) (fun z u=>l.length-z) (0) rfl ⟨⟨Nat.zero_le _,fun k _ h=>absurd h (Nat.not_lt_zero _)⟩,hX⟩ ?_
 rintro i w1 ⟨⟨hi,hok⟩,hX⟩
 refine je rfl (gk (jl rfl (fun hc=> ?_) (fun hc=> ?_)))
 ·have hi:i<l.length:=by omega
  have him:i<m.length:=by omega
  obtain⟨b,off,rfl,hsa⟩:=h.qm (fun r _=>r.len) zo
  obtain⟨b',off',rfl,hsb⟩:=h'.qm (fun r _=>r.len) zo
  have ha1:=h1 _ (List.getElem_mem hi)
  have ha2:=h2 _ (List.getElem_mem him)
  refine xz (gr (je rfl (gk ?_)))
  refine js rfl 9 [qP 0,qP 1,qP 2,qP 3,qP 4,qP 5,qP 6,qP 7,qP 8] [] (No) zk fun w2 hE2 hs2=> ?_
  have hXd:=hX
  have hX:=hX.gb hE2
  refine gv gc 2 rfl (qk gc rfl rfl 3 rfl i rfl zo (off+i*3) rfl (qf gc rfl rfl (fun w' hw'=>((hsa i hi).ga (hXd.gb hw'))) rfl ?_))
  refine gv gc 2 rfl (qk gc rfl rfl 3 rfl i rfl zo (off'+i*3) rfl (qf gc rfl rfl (fun w' hw'=>((hsb i him).ga (hXd.gb hw'))) rfl ?_))
  refine yj4 rfl rfl gChgD 10 zd kChgD (chgForm rfl) (chgForm rfl) (chgKey ha1.1 ha1.2) (chgKey ha2.1 ha2.2) chg_eq ?_
  simp only[Bool.false_eq_true,if_false]
  refine jj (ja (j1 (jl rfl (fun hc=> ?_) (fun hc=> ?_))))
  ·refine gk ?_
   refine j4 (jz rfl (gq (ji (gp (gp (ji (gp (gu rfl rfl ?_))))))))
   exact⟨congrArg Value.bool (by symm;rw[decide_eq_false_iff_not];intro e;subst e;exact hc rfl),hX⟩
  have hei:=Decidable.not_not.1 hc
  refine j7 (Bo rfl ?_)
  rw[kg _ zo]
  refine gm ?_
  exact jn (i+1) rfl ⟨⟨by omega,fun k hk hlt=>(by rcases Nat.lt_or_ge k i with h0|h0;exact hok k hk h0;(have e:k=i:=zo);subst e;exact hei)⟩,hX⟩ zf
 have hall:l=m:=C8 hlm fun k hk=>hok k hk zo
 refine Bi (je rfl (gq (gu rfl rfl ?_)))
 exact⟨congrArg Value.bool (decide_eq_true hall).symm,hX⟩
theorem equalId_calls (w:World) {p q:Option Addr} {c d:Nat} {l m:(List (List UInt8))} (h:Sl w p l.length 32 (l.flatMap ge)) (h':Sl w q m.length 32 (m.flatMap ge)) (hl:l.length<1000000000) (h1:∀r∈l,vh r) (h2:∀r∈m,vh r):
  gn prog 235 [.slice p l.length c,.slice q m.length d] w fun v w'=>v= .bool (decide (l=m))∧Ext No w w':=by
 refine gx func235 ?_
 have hX:=Ext.refl No w
 refine je rfl (gk (je rfl (jl rfl (fun hc=> ?_) (fun hc=> ?_))))
 ·refine gk ?_
  refine j4 (jz rfl (gq (gp (gu rfl rfl ?_))))
  exact⟨congrArg Value.bool (by symm;rw[decide_eq_false_iff_not];intro h;rw[h] at hc;exact hc rfl),hX⟩
 have hlm:l.length=m.length:=by omega
 refine xz (je rfl (gr ?_))
 refine jm (α:=Nat) [0,1,12] rfl (fun z=>[(13,.int .i64 (z:Int))]) (fun z u=>(z≤l.length∧∀k (hk:k<l.length),k<z→l[k]=m[k]'zo)∧Ext No w u) (fun z u=>l.length-z) (0) rfl ⟨⟨Nat.zero_le _,fun k _ h=>absurd h (Nat.not_lt_zero _)⟩,hX⟩ ?_
 rintro i w1 ⟨⟨hi,hok⟩,hX⟩
 refine je rfl (gk (jl rfl (fun hc=> ?_) (fun hc=> ?_)))
 ·have hi:i<l.length:=by omega
  have him:i<m.length:=by omega
  obtain⟨b,off,rfl,hsa⟩:=h.qm (fun r hr=>(h1 r hr).len) zo
  obtain⟨b',off',rfl,hsb⟩:=h'.qm (fun r hr=>(h2 r hr).len) zo
  have ha1:=h1 _ (List.getElem_mem hi)
  have ha2:=h2 _ (List.getElem_mem him)
  refine xz (gr (je rfl (gk ?_)))
  refine js rfl 9 [qP 0,qP 1,qP 2,qP 3,qP 4,qP 5,qP 6,qP 7,qP 8] [] (No) zk fun w2 hE2 hs2=> ?_
  have hXd:=hX
  have hX:=hX.gb hE2
  refine gv gc 2 rfl (qk gc rfl rfl 32 rfl i rfl zo (off+i*32) rfl (qf gc rfl rfl (fun w' hw'=>((hsa i hi).ga (hXd.gb hw'))) (vh.len ha1) ?_))
  refine gv gc 2 rfl (qk gc rfl rfl 32 rfl i rfl zo (off'+i*32) rfl (qf gc rfl rfl (fun w' hw'=>((hsb i him).ga (hXd.gb hw'))) (vh.len ha2) ?_))
  refine yj4 rfl rfl gId 10 zd kId (x2 ha1) (x2 ha2) (yu ha1) (yu ha2) vk ?_
  simp only[Bool.false_eq_true,if_false]
  refine jj (ja (j1 (jl rfl (fun hc=> ?_) (fun hc=> ?_))))
  ·refine gk ?_
   refine j4 (jz rfl (gq (ji (gp (gp (ji (gp (gu rfl rfl ?_))))))))
   exact⟨congrArg Value.bool (by symm;rw[decide_eq_false_iff_not];intro e;subst e;exact hc rfl),hX⟩
  have hei:=Decidable.not_not.1 hc
  refine j7 (Bo rfl ?_)
  rw[kg _ zo]
  refine gm ?_
  exact jn (i+1) rfl ⟨⟨by omega,fun k hk hlt=>(by rcases Nat.lt_or_ge k i with h0|h0;exact hok k hk h0;(have e:k=i:=zo);subst e;exact hei)⟩,hX⟩ zf
 have hall:l=m:=C8 hlm fun k hk=>hok k hk zo
 refine Bi (je rfl (gq (gu rfl rfl ?_)))
 exact⟨congrArg Value.bool (decide_eq_true hall).symm,hX⟩
end Go.Proofs.YtpdiphfjmepijaaGreatDoor
namespace Go.Vc
structure jk where
  kind:Int
  text:Str
  leaves:List jf
  style:Int
  tree:List UInt8
  base:List UInt8
  parents:List (List UInt8)
  rows:List ud
  number:Nat
  author:Nat
  note:Str
  deriving DecidableEq
structure vd where
  lp:Option Addr
  lc:Nat
  pp:Option Addr
  pc:Nat
  rp:Option Addr
  rc:Nat
def jw (o:jk) (a:vd):List Value:=
  [.int .i64 o.kind,xn o.text,.slice a.lp o.leaves.length a.lc,.int .i64 o.style]++(ge o.tree++(ge o.base++
    [.slice a.pp o.parents.length a.pc,.slice a.rp o.rows.length a.rc,.int .u32 (o.number:Int),.int .u32 (o.author:Int),xn o.note]))
instance (o:jk) (a:vd):OneC (jw o a):=by unfold jw;infer_instance
structure qv (o:jk):Prop where
  tree:o.tree.length=32
  base:o.base.length=32
  parents:∀r∈o.parents,r.length=32
  leaves:∀r∈o.leaves,r.path.length≤maxLen∧r.id.length=32
  rows:∀r∈o.rows,r.path.length≤maxLen∧r.text.length≤maxLen
  number:o.number<2^32
  author:o.author<2^32
theorem gt {o:jk} {a:vd} (h:qv o):(jw o a).length=73:=by
 simp only[jw,List.length_append,gl,h.tree,h.base,List.length_cons,List.length_nil]
structure Bh (w:World) (o:jk) (a:vd):Prop where
  leaves:Sl w a.lp o.leaves.length 33 (o.leaves.flatMap jf.cells)
  parents:Sl w a.pp o.parents.length 32 (o.parents.flatMap ge)
  rows:Sl w a.rp o.rows.length 3 (o.rows.flatMap ud.cells)
theorem Bh.ga {w w':World} {o:jk} {a:vd} (h:Bh w o a) (hE:Ext No w w'):Bh w' o a:=⟨h.leaves.ga hE,h.parents.ga hE,h.rows.ga hE⟩
structure ObjAt (w:World) (b off:Nat) (o:jk) (a:vd):Prop where
  kind:w.cell? ⟨b,off,none⟩=some (.int .i64 o.kind)
  text:w.cell? ⟨b,off+1,none⟩=some (xn o.text)
  leaves:w.cell? ⟨b,off+2,none⟩=some (.slice a.lp o.leaves.length a.lc)
  style:w.cell? ⟨b,off+3,none⟩=some (.int .i64 o.style)
  tree:Seg w b (off+4) (ge o.tree)
  base:Seg w b (off+36) (ge o.base)
  parents:w.cell? ⟨b,off+68,none⟩=some (.slice a.pp o.parents.length a.pc)
  rows:w.cell? ⟨b,off+69,none⟩=some (.slice a.rp o.rows.length a.rc)
  number:w.cell? ⟨b,off+70,none⟩=some (.int .u32 (o.number:Int))
  author:w.cell? ⟨b,off+71,none⟩=some (.int .u32 (o.author:Int))
  note:w.cell? ⟨b,off+72,none⟩=some (xn o.note)
theorem Seg.obj {w:World} {b off:Nat} {o:jk} {a:vd} (hs:Seg w b off (jw o a)) (h:qv o):ObjAt w b off o a:=by
 unfold jw at hs
 obtain⟨d,f⟩:=Seg.append.1 hs
 obtain⟨g,i⟩:=Seg.append.1 f
 obtain⟨e,c⟩:=Seg.append.1 i
 have j:off+4+(ge o.tree).length=off+36:=by rw[gl,h.tree]
 have e:Seg w b (off+4+(ge o.tree).length) (ge o.base):=e
 have c:Seg w b (off+4+(ge o.tree).length+(ge o.base).length) _:=c
 rw[j] at e c
 rw[gl,h.base] at c
 exact⟨d 0 _ rfl,d 1 _ rfl,d 2 _ rfl,d 3 _ rfl,g,e,c 0 _ rfl,c 1 _ rfl,c 2 _ rfl,c 3 _ rfl,c 4 _ rfl⟩
theorem ObjAt.ga {w w':World} {b off:Nat} {o:jk} {a:vd} (hs:ObjAt w b off o a) (hE:Ext No w w'):ObjAt w' b off o a:=by
 have c:∀{k:Nat} {v:Value},w.cell? ⟨b,k,none⟩=some v→w'.cell? ⟨b,k,none⟩=some v:=fun{k v} e=>by
  have f:Seg w b k [v]:=fun i u d=>by
   cases i with
   |zero=>cases d;exact e
   |succ i=>cases d
  exact(f.ga hE) 0 v rfl
 exact⟨c hs.kind,c hs.text,c hs.leaves,c hs.style,hs.tree.ga hE,hs.base.ga hE,c hs.parents,c hs.rows,c hs.number,c hs.author,c hs.note⟩
abbrev Dh:List UInt8:=List.replicate 32 0
def ut:jk:=⟨0,[],[],0,Dh,Dh,[],[],0,0,[]⟩
theorem qw:qv ut:=⟨rfl,rfl,fun _ h=>absurd h List.not_mem_nil,fun _ h=>absurd h List.not_mem_nil,fun _ h=>absurd h List.not_mem_nil,by decide,by decide⟩
def StyleIs (o:jk):Prop:=
  o.style=1∧o.parents.length=0∧o.base=Dh∧o.rows.length=0∧o.number=0∨
  o.style=2∧o.parents.length=1∧o.base=Dh∧0<o.number∨
  o.style=3∧o.parents.length=2∧o.parents.getD 0 []≠o.parents.getD 1 []∧0<o.number
instance (o:jk):Decidable (StyleIs o):=inferInstanceAs (Decidable (_∨_))
def StyleOk (o:jk):Prop:=Dh∉o.parents∧StyleIs o
instance (o:jk):Decidable (StyleOk o):=inferInstanceAs (Decidable (_∧_))
def Cc (o:jk):Prop:=o.tree≠Dh∧StyleOk o
instance (o:jk):Decidable (Cc o):=inferInstanceAs (Decidable (_∧_))
def NoCom (o:jk):Prop:=o.style=0∧o.tree=Dh∧o.base=Dh∧o.parents.length=0∧o.rows.length=0∧o.number=0∧o.author=0∧o.note=[]
instance (o:jk):Decidable (NoCom o):=inferInstanceAs (Decidable (_∧_))
def Leaved (l:List jf):Prop:=yx8 (l.map jf.path)∧∀x∈l,x.id≠Dh
instance (l:List jf):Decidable (Leaved l):=inferInstanceAs (Decidable (_∧_))
def BlobOk (o:jk):Prop:=o.text.length≤256∧o.leaves.length=0∧NoCom o
instance (o:jk):Decidable (BlobOk o):=inferInstanceAs (Decidable (_∧_))
def TreeOk (o:jk):Prop:=Leaved o.leaves∧o.text=[]∧NoCom o
instance (o:jk):Decidable (TreeOk o):=inferInstanceAs (Decidable (_∧_))
def ComOk (o:jk):Prop:=o.text=[]∧o.leaves.length=0∧o.note.length≤200∧xz4 o.rows∧Cc o
instance (o:jk):Decidable (ComOk o):=inferInstanceAs (Decidable (_∧_))
def yc (o:jk):Prop:=o.kind=1∧BlobOk o∨o.kind=2∧TreeOk o∨o.kind=3∧ComOk o
instance (o:jk):Decidable (yc o):=inferInstanceAs (Decidable (_∨_))
theorem blob_zero {o:jk}:BlobOk o↔o.text.length≤256∧{o with kind:=0,text:=[]}=ut:=by
 obtain⟨k,t,l,s,tr,ba,p,r,n,a,no⟩:=o
 simp only[BlobOk,NoCom,ut,jk.mk.injEq,List.length_eq_zero_iff,true_and]
theorem tree_zero {o:jk}:TreeOk o↔Leaved o.leaves∧{o with kind:=0,leaves:=[]}=ut:=by
 obtain⟨k,t,l,s,tr,ba,p,r,n,a,no⟩:=o
 simp only[TreeOk,NoCom,ut,jk.mk.injEq,List.length_eq_zero_iff,true_and]
/-! ### Bytes -/
def ue (n:Nat) (s:Str):List UInt8:=be n s.length++s
def isB (b:Bool):UInt8:=if b then 1 else 0
def Ay (r:jf):List UInt8:=ue 1 r.path++r.id
def xw (r:ud):List UInt8:=ue 1 r.path++[isB r.is]++ue 2 r.text
def treeB (l:List jf):List UInt8:=be 1 l.length++l.flatMap Ay
def comB (o:jk):List UInt8:=be 1 o.style.toNat++o.tree++be 1 o.parents.length++o.parents.flatten++o.base++be 1 o.rows.length++o.rows.flatMap xw++be 4 o.number++be 4 o.author++ue 1 o.note
def laidB (o:jk):List UInt8:=
  be 1 o.kind.toNat++if o.kind=1 then ue 2 o.text else if o.kind=2 then treeB o.leaves else comB o
def xy (o:jk):Prop:=yc o∧(laidB o).length≤800
instance (o:jk):Decidable (xy o):=inferInstanceAs (Decidable (_∧_))
def Ao (o:jk):List UInt8:=sumW (laidB o)
def qx (o:jk):List (List UInt8):=if o.kind=2 then o.leaves.map jf.id else if o.kind=3 then o.tree::o.parents else []
theorem B0 {α β:Type} {f:α→List β} {n:Nat}:∀{l:List α},(∀x∈l,(f x).length≤n)→(l.flatMap f).length≤l.length*n
 | [],_=>by simp
 |x::r,h=>by
  have h1:=h x zp
  have h2:=B0 (f:=f) (n:=n) (l:=r) fun y hy=>h y (by simp[hy])
  rw[List.flatMap_cons,List.length_append,List.length_cons,Nat.succ_mul]
  omega
theorem zq6 {l:List (List UInt8)} {n:Nat} (h:∀x∈l,x.length=n):l.flatten.length=l.length*n:=by
 induction l with
 |nil=>simp
 |cons x r ih=>rw[List.flatten_cons,List.length_append,h x zp,ih fun y hy=>h y (by simp[hy]),List.length_cons,Nat.succ_mul,Nat.add_comm]
/-! ### What is taken off bytes -/
structure Ds where
  rest:List UInt8
  bad:Bool
def Ds.off (s:Ds) (n:Nat):List UInt8×Ds:=if s.bad=true∨s.rest.length<n then([],⟨s.rest,true⟩) else(s.rest.take n,⟨s.rest.drop n,false⟩)
def Ds.err (s:Ds):Int:=if s.bad then 7 else 0
def Ds.str (s:Ds) (n:Nat):Str×Ds:=(s.off n).2.off (num (s.off n).1)
def Ds.id (s:Ds):List UInt8×Ds:=((s.off 32).1++List.replicate (32-(s.off 32).1.length) 0,(s.off 32).2)
def Ds.each {α:Type} (f:Ds→α×Ds):Nat→Ds→List α×Ds
  |0,s=>([],s)
  |n+1,s=>if s.bad then([],s) else((f s).1::(Ds.each f n (f s).2).1,(Ds.each f n (f s).2).2)
def Ds.leaf (s:Ds):jf×Ds:=(⟨(s.str 1).1,(s.str 1).2.id.1⟩,(s.str 1).2.id.2)
def Ds.chg (s:Ds):ud×Ds:=
  (⟨(s.str 1).1,decide (0<num ((s.str 1).2.off 1).1),(((s.str 1).2.off 1).2.str 2).1⟩,(((s.str 1).2.off 1).2.str 2).2)
def Ds.row {α:Type} (f:Ds→α×Ds) (s:Ds):List α×Ds:=Ds.each f (num (s.off 1).1) (s.off 1).2
def Ds.com (s:Ds):jk×Ds:=
  let a:=s.off 1
  let t:=a.2.id
  let p:=t.2.row Ds.id
  let b:=p.2.id
  let r:=b.2.row Ds.chg
  let n:=r.2.off 4
  let m:=n.2.off 4
  let x:=m.2.str 1
  (⟨3,[],[],(num a.1:Nat),t.1,b.1,p.1,r.1,num n.1,num m.1,x.1⟩,x.2)
def endB (b:List UInt8) (o:jk×Ds):jk×Int:=
  if o.2.bad then(ut,7) else if xy o.1∧laidB o.1=b then(o.1,0) else(ut,160)
def x4 (b:List UInt8):jk×Int:=
  if b=[] then(ut,7)
  else
    let a:=(⟨b,false⟩:Ds).off 1
    if num a.1=1 then endB b ({ut with kind:=1,text:=(a.2.str 2).1},(a.2.str 2).2)
    else if num a.1=2 then endB b ({ut with kind:=2,leaves:=(a.2.row Ds.leaf).1},(a.2.row Ds.leaf).2)
    else if num a.1=3 then endB b a.2.com
    else(ut,160)
theorem Ds.un (s:Ds) (n:Nat):(s.off n).1.length≤n∧(s.off n).2.rest.length≤s.rest.length∧(s.off n).1.length≤s.rest.length:=by
 unfold Ds.off
 split<;>simp<;>omega
theorem Ds.xl (s:Ds):s.id.1.length=32∧s.id.2.rest.length≤s.rest.length:=by
 have:=s.un 32
 simp only[Ds.id,List.length_append,List.length_replicate]
 omega
theorem Ds.vu (s:Ds) (n:Nat):(s.str n).1.length≤s.rest.length∧(s.str n).2.rest.length≤s.rest.length:=by
 have h1:=s.un n
 have h2:=(s.off n).2.un (num (s.off n).1)
 simp only[Ds.str]
 omega
theorem Ds.Cm {α:Type} {f:Ds→α×Ds} {n:Nat} {s:Ds} (h:s.bad=false):Ds.each f (n+1) s=((f s).1::(Ds.each f n (f s).2).1,(Ds.each f n (f s).2).2):=by
 rw[Ds.each,h];rfl
theorem Ds.each_end {α:Type} {f:Ds→α×Ds} {n:Nat} {s:Ds} (h:n=0∨s.bad=true):Ds.each f n s=([],s):=by
 cases n with
 |zero=>rfl
 |succ n=>rw[Ds.each,if_pos (h.resolve_left zo)]
theorem Ds.yz5 {α:Type} {f:Ds→α×Ds}:∀(n:Nat) (s:Ds),(Ds.each f n s).1.length≤n
 |0,s=>by simp[Ds.each]
 |n+1,s=>by
  rw[Ds.each]
  split
  ·simp
  have:=Ds.yz5 (f:=f) n (f s).2
  simp only[List.length_cons]
  omega
end Go.Vc
namespace Go.Proofs.YtpdiphfjmepijaaGreatDoor
open Go.Proofs.Tryz
open Go.Vc
def Flat (x y:jk):Prop:=x.kind=y.kind∧x.text=y.text∧x.style=y.style∧x.tree=y.tree∧x.base=y.base∧x.number=y.number∧x.author=y.author∧x.note=y.note
instance (x y:jk):Decidable (Flat x y):=inferInstanceAs (Decidable (_∧_))
theorem same_iff {x y:jk}:x=y↔Flat x y∧x.leaves=y.leaves∧x.parents=y.parents∧x.rows=y.rows:=by
 cases x;cases y
 simp only[Flat,jk.mk.injEq]
 constructor
 ·rintro⟨rfl,rfl,rfl,rfl,rfl,rfl,rfl,rfl,rfl,rfl,rfl⟩
  exact⟨⟨rfl,rfl,rfl,rfl,rfl,rfl,rfl,rfl⟩,rfl,rfl,rfl⟩
 rintro⟨⟨rfl,rfl,rfl,rfl,rfl,rfl,rfl,rfl⟩,rfl,rfl,rfl⟩
 exact⟨rfl,rfl,rfl,rfl,rfl,rfl,rfl,rfl,rfl,rfl,rfl⟩
theorem xj4 {a b:Str}:uo a=uo b↔a=b:=⟨fun h=>A6 h,fun h=>h▸rfl⟩
structure Bp (x:jk):Prop where
  leaves:x.leaves.length<1000000000
  parents:x.parents.length<1000000000
  rows:x.rows.length<1000000000
  leafP:∀r∈x.leaves,r.path.length<1000000000
  rowP:∀r∈x.rows,r.path.length<1000000000
theorem sameObj_calls (w:World) {x y:jk} {a b:vd} (hx:qv x) (hy:qv y) (hxl:Bh w x a) (hyl:Bh w y b) (hsx:Bp x):
  gn prog 223 [.agg (jw x a).toArray,.agg (jw y b).toArray] w fun v w'=>v= .bool (decide (x=y))∧Ext No w w':=by
 refine gx func223 ?_
 have d:=Ext.refl No w
 refine qa (gw rfl fun B D E f q=> ?_)
 have d:=d.gb q
 have f:j0 D B 37 (jw x a):=f
 have i:=f.ko.obj hx
 refine gw rfl fun C F G g k=> ?_
 have f:=f.ga k
 have i:=i.ga k
 have d:=d.gb k
 have g:j0 F C 37 (jw y b):=g
 have j:=g.ko.obj hy
 refine jz rfl (jv (α:=Bool) [2,3] rfl (fun z=>[(5,.bool z)]) (fun z u=>(z=decide (Flat x y))∧j0 u B 37 (jw x a)∧j0 u C 37 (jw y b)∧Ext No w u) ?_ ?_)
 ·refine j4 ?_
  refine j9 gc rfl (gy rfl i.kind (j9 gc rfl (gy rfl j.kind (j9 gc rfl (jo 11 rfl (fun c=> ?_) (fun c=> ?_))))))
  ·have H:x.kind=y.kind:=by exact c
   refine j2 gc 1 rfl (gy rfl i.text (j2 gc 1 rfl (gy rfl j.text (j2 gc 3 rfl (jo 18 rfl (fun c=> ?_) (fun c=> ?_))))))
   ·have I:x.text=y.text:=by exact xj4.1 c
    refine j2 gc 1 rfl (gy rfl i.style (j2 gc 1 rfl (gy rfl j.style (j2 gc 3 rfl (jo 25 rfl (fun c=> ?_) (fun c=> ?_))))))
    ·have J:x.style=y.style:=by exact c
     refine j2 gc 1 rfl (jr rfl i.tree (vh.len hx.tree) (j2 gc 1 rfl (jr rfl j.tree (vh.len hy.tree) ?_)))
     refine wl (yj9 rfl gId 10 zd kId (x2 hx.tree) (x2 hy.tree) (yu hx.tree) (yu hy.tree) vk ?_)
     simp only[if_true]
     refine j9 gc rfl (jo 32 rfl (fun c=> ?_) (fun c=> ?_))
     ·have K:x.tree=y.tree:=by exact c
      refine j2 gc 1 rfl (jr rfl i.base (vh.len hx.base) (j2 gc 1 rfl (jr rfl j.base (vh.len hy.base) ?_)))
      refine wl (yj9 rfl gId 10 zd kId (x2 hx.base) (x2 hy.base) (yu hx.base) (yu hy.base) vk ?_)
      simp only[if_true]
      refine j9 gc rfl (jo 39 rfl (fun c=> ?_) (fun c=> ?_))
      ·have L:x.base=y.base:=by exact c
       refine j2 gc 1 rfl (gy rfl i.number (j2 gc 1 rfl (gy rfl j.number (j2 gc 3 rfl (jo 46 rfl (fun c=> ?_) (fun c=> ?_))))))
       ·have M:x.number=y.number:=by omega
        refine j2 gc 1 rfl (gy rfl i.author (j2 gc 1 rfl (gy rfl j.author (j2 gc 3 rfl (jo 53 rfl (fun c=> ?_) (fun c=> ?_))))))
        ·have N:x.author=y.author:=by omega
         refine j2 gc 1 rfl (gy rfl i.note (j2 gc 1 rfl (gy rfl j.note (j2 gc 3 rfl (gm ?_)))))
         exact gz (_) rfl ⟨by rw[decide_eq_decide,xj4];exact⟨fun h=>⟨H,I,J,K,L,M,N,h⟩,fun h=>h.2.2.2.2.2.2.2⟩,f,g,d⟩
        have O:¬x.author=y.author:=fun e=>c (by rw[e])
        refine j2 gc 7 rfl (gm ?_)
        exact gz (false) rfl ⟨by symm;rw[decide_eq_false_iff_not];exact fun h=>O h.2.2.2.2.2.2.1,f,g,d⟩
       have P:¬x.number=y.number:=fun e=>c (by rw[e])
       refine j2 gc 14 rfl (gm ?_)
       exact gz (false) rfl ⟨by symm;rw[decide_eq_false_iff_not];exact fun h=>P h.2.2.2.2.2.1,f,g,d⟩
      have Q:¬x.base=y.base:=fun e=>c (by rw[e])
      refine j2 gc 21 rfl (gm ?_)
      exact gz (false) rfl ⟨by symm;rw[decide_eq_false_iff_not];exact fun h=>Q h.2.2.2.2.1,f,g,d⟩
     have R:¬x.tree=y.tree:=fun e=>c (by rw[e])
     refine j2 gc 28 rfl (gm ?_)
     exact gz (false) rfl ⟨by symm;rw[decide_eq_false_iff_not];exact fun h=>R h.2.2.2.1,f,g,d⟩
    have S:¬x.style=y.style:=fun e=>c (by rw[e])
    refine j2 gc 35 rfl (gm ?_)
    exact gz (false) rfl ⟨by symm;rw[decide_eq_false_iff_not];exact fun h=>S h.2.2.1,f,g,d⟩
   have T:¬x.text=y.text:=fun e=>c (by rw[e])
   refine j2 gc 42 rfl (gm ?_)
   exact gz (false) rfl ⟨by symm;rw[decide_eq_false_iff_not];exact fun h=>T h.2.1,f,g,d⟩
  have U:¬x.kind=y.kind:=fun e=>c (by rw[e])
  refine j2 gc 49 rfl (gm ?_)
  exact gz (false) rfl ⟨by symm;rw[decide_eq_false_iff_not];exact fun h=>U h.1,f,g,d⟩
 rintro z V ⟨p,f,g,d⟩
 have i:=f.ko.obj hx
 have j:=g.ko.obj hy
 refine jv (α:=Bool) [] rfl (fun z=>[(4,.bool z)]) (fun z u=>(z=decide (x=y))∧Ext No w u) ?_ ?_
 ·refine j4 ?_
  refine j9 gc rfl (vb 61 rfl (fun c=> ?_) (fun c=> ?_))
  ·have p:Flat x y:=by simpa [c] using p
   refine j2 gc 1 rfl (gy rfl i.leaves (j2 gc 1 rfl (gy rfl j.leaves ?_)))
   refine gi call234 rfl (equalLeaf_calls V (hxl.leaves.ga d) (hyl.leaves.ga d) hsx.leaves hx.leaves hy.leaves) fun Y W r=> ?_
   obtain⟨rfl,l⟩:=r
   have i:=i.ga l
   have j:=j.ga l
   have d:=d.gb l
   refine j9 gc rfl (jo 68 rfl (fun c=> ?_) (fun c=> ?_))
   ·have m:=c
    refine j2 gc 1 rfl (gy rfl i.parents (j2 gc 1 rfl (gy rfl j.parents ?_)))
    refine gi call235 rfl (equalId_calls W (hxl.parents.ga d) (hyl.parents.ga d) hsx.parents hx.parents hy.parents) fun Z X s=> ?_
    obtain⟨rfl,n⟩:=s
    have i:=i.ga n
    have j:=j.ga n
    have d:=d.gb n
    refine j9 gc rfl (jo 75 rfl (fun c=> ?_) (fun c=> ?_))
    ·have o:=c
     refine j2 gc 2 rfl (gy rfl i.rows (j2 gc 2 rfl (gy rfl j.rows ?_)))
     refine gi call236 rfl (xw7 X (hxl.rows.ga d) (hyl.rows.ga d) hsx.rows hx.rows hy.rows) fun v6 w6 t=> ?_
     obtain⟨rfl,A⟩:=t
     have d:=d.gb A
     refine j9 gc rfl (gm ?_)
     exact gz (_) rfl ⟨by rw[decide_eq_decide];exact⟨fun h=>same_iff.2 ⟨p,m,o,h⟩,fun h=>(same_iff.1 h).2.2.2⟩,d⟩
    have o:=c
    refine j2 gc 9 rfl (gm ?_)
    exact gz (false) rfl ⟨by symm;rw[decide_eq_false_iff_not];exact fun h=>o (same_iff.1 h).2.2.1,d⟩
   have m:=c
   refine j2 gc 16 rfl (gm ?_)
   exact gz (false) rfl ⟨by symm;rw[decide_eq_false_iff_not];exact fun h=>m (same_iff.1 h).2.1,d⟩
  have p:¬Flat x y:=by simpa [c] using p
  refine j2 gc 23 rfl (gm ?_)
  exact gz (false) rfl ⟨by symm;rw[decide_eq_false_iff_not];exact fun h=>p (same_iff.1 h).1,d⟩
 rintro z w7 ⟨rfl,d⟩
 refine gq (gu rfl rfl ?_)
 exact⟨rfl,d⟩
theorem objZ_l (w:World):Bh w ut ⟨none,0,none,0,none,0⟩:=⟨Sl.nil _ _ _,Sl.nil _ _ _,Sl.nil _ _ _⟩
theorem objZ_c:jw ut ⟨none,0,none,0,none,0⟩=cellsOf ti37.zero:=by kernel_rfl
theorem xq2 (w:World) {x:jk} {a:vd} (hx:qv x) (hxl:Bh w x a) (hsx:Bp x):
  gn prog 212 [.agg (jw x a).toArray] w fun v w'=>v= .bool (decide (x=ut))∧Ext No w w':=by
 refine gx func212 ?_
 have c:=Ext.refl No w
 refine qa (gw rfl fun h g i b d=> ?_)
 have c:=c.gb d
 have b:j0 g h 37 (jw x a):=b
 refine jz rfl (qa (jh b rfl (gt hx) (qg rfl trivial (l':=jw ut ⟨none,0,none,0,none,0⟩) objZ_c.symm ?_)))
 refine gi call223 rfl (sameObj_calls g hx qw (hxl.ga c) (objZ_l _) hsx) fun j k e=> ?_
 obtain⟨rfl,f⟩:=e
 have c:=c.gb f
 refine jz rfl (gq (gu rfl rfl ?_))
 exact⟨rfl,c⟩
theorem Ct:ge Dh=cellsOf ti30.zero:=by kernel_rfl
theorem yq4:vh Dh:=rfl
theorem indexId_calls (w:World) {p:Option Addr} {c:Nat} {l:List (List UInt8)} {x:List UInt8} (h:Sl w p l.length 32 (l.flatMap ge)) (hl:l.length<1000000000) (h1:∀r∈l,vh r) (hx:vh x):
  gn prog 244 [.slice p l.length c,.agg (ge x).toArray] w fun v w'=>∃n:Int,v= .int .i64 n∧(0≤n↔x∈l)∧Ext No w w':=by
 refine gx func244 ?_
 have d:=Ext.refl No w
 refine qa (gw rfl fun F H I a A=> ?_)
 have d:=d.gb A
 have a:j0 H F 30 (ge x):=a
 refine jz rfl (gk (je rfl (gr ?_)))
 refine jm (α:=Nat) [0,3,7] rfl (fun z=>[(8,.int .i64 (z:Int))]) (fun z u=>(z≤l.length∧∀k (G:k<l.length),k<z→¬x=l[k])∧j0 u F 30 (ge x)∧Ext No w u) (fun z u=>l.length-z) (0) rfl ⟨⟨Nat.zero_le _,fun k _ h=>absurd h (Nat.not_lt_zero _)⟩,a,d⟩ ?_
 rintro i K ⟨⟨j,m⟩,a,d⟩
 refine je rfl (gk (jl rfl (fun o=> ?_) (fun o=> ?_)))
 ·have j:i<l.length:=by omega
  obtain⟨b,B,rfl,q⟩:=(h.qm (fun r C=>(h1 r C).len) zo)
  have f:=h1 _ (List.getElem_mem j)
  refine xz (gr (je rfl (gk (js rfl 6 [qP 0,qP 1,qP 2,qP 3,qP 4,qP 5] [] (No) zk fun L s J=> ?_))))
  have D:=a
  have E:=d
  have a:=a.ga s
  have d:=d.gb s
  refine qf gc rfl rfl (fun w' g=>(D.ga g).ko) hx.len ?_
  refine gv gc 2 rfl (qk gc rfl rfl 32 rfl i rfl zo (B+i*32) rfl (qf gc rfl rfl (fun w' g=>((q i j).ga (E.gb g))) f.len ?_))
  refine yj4 rfl rfl gId 10 zd kId (x2 hx) (x2 f) (yu hx) (yu f) vk ?_
  simp only[if_true]
  refine jj (ja (j1 (jl rfl (fun o=> ?_) (fun o=> ?_))))
  ·refine gk ?_
   refine j4 (jz rfl (gq (ji (gp (gp (ji (gp (gu rfl rfl ?_))))))))
   exact⟨_,rfl,⟨fun _=>o▸List.getElem_mem j,fun _=>Int.natCast_nonneg _⟩,d⟩
  refine j7 ?_
  refine Bo rfl ?_
  rw[kg _ zo]
  refine gm ?_
  exact jn (i+1) rfl ⟨⟨by omega,xw5 (p:=fun y=>¬x=y) m j o⟩,a,d⟩ zf
 have t:¬x∈l:=fun C=>by
  obtain⟨k,G,e⟩:=List.mem_iff_getElem.1 C
  exact m k G zo e.symm
 refine Bi (je rfl (gq (gu rfl rfl ?_)))
 exact⟨_,rfl,⟨fun h=>absurd h zd,fun h=>absurd h t⟩,d⟩
theorem containsId_calls (w:World) {p:Option Addr} {c:Nat} {l:List (List UInt8)} {x:List UInt8} (h:Sl w p l.length 32 (l.flatMap ge)) (hl:l.length<1000000000) (h1:∀r∈l,vh r) (hx:vh x):
  gn prog 231 [.slice p l.length c,.agg (ge x).toArray] w fun v w'=>v= .bool (decide (x∈l))∧Ext No w w':=by
 refine gx func231 ?_
 have b:=Ext.refl No w
 refine qa (gw rfl fun j i k a d=> ?_)
 have b:=b.gb d
 have a:j0 i j 30 (ge x):=a
 refine jz rfl (qc rfl (jh a rfl hx.len (gi call244 rfl (indexId_calls i (h.ga b) hl h1 hx) fun m o e=> ?_)))
 obtain⟨n,rfl,f,g⟩:=e
 have b:=b.gb g
 refine jz rfl (gq (gu rfl rfl ?_))
 exact⟨congrArg Value.bool (decide_eq_decide.2 f),b⟩
theorem styled_no {o:jk} (h:Dh∈o.parents∨o.tree=Dh):¬Cc o:=fun hs=>h.elim hs.2.1 hs.1
theorem styled1 {o:jk} (h:¬(Dh∈o.parents∨o.tree=Dh)) (hs:o.style=1):Cc o↔o.parents.length=0∧o.base=Dh∧o.rows.length=0∧o.number=0:=by
 constructor
 ·rintro⟨_,_,a|a|a⟩
  ·exact a.2
  ·exact absurd (hs.symm.trans a.1) zd
  exact absurd (hs.symm.trans a.1) zd
 exact fun a=>⟨fun e=>h (.inr e),fun e=>h (.inl e),.inl ⟨hs,a⟩⟩
theorem styled2 {o:jk} (h:¬(Dh∈o.parents∨o.tree=Dh)) (hs:o.style=2):Cc o↔o.parents.length=1∧o.base=Dh∧0<o.number:=by
 constructor
 ·rintro⟨_,_,a|a|a⟩
  ·exact absurd (hs.symm.trans a.1) zd
  ·exact a.2
  exact absurd (hs.symm.trans a.1) zd
 exact fun a=>⟨fun e=>h (.inr e),fun e=>h (.inl e),.inr (.inl ⟨hs,a⟩)⟩
theorem styled3 {o:jk} (h:¬(Dh∈o.parents∨o.tree=Dh)) (hs:o.style=3):Cc o↔o.parents.length=2∧o.parents.getD 0 []≠o.parents.getD 1 []∧0<o.number:=by
 constructor
 ·rintro⟨_,_,a|a|a⟩
  ·exact absurd (hs.symm.trans a.1) zd
  ·exact absurd (hs.symm.trans a.1) zd
  exact a.2
 exact fun a=>⟨fun e=>h (.inr e),fun e=>h (.inl e),.inr (.inr ⟨hs,a⟩)⟩
theorem styled0 {o:jk} (h1:¬o.style=1) (h2:¬o.style=2) (h3:¬o.style=3):¬Cc o:=fun h=>h.2.2.elim (fun h=>h1 h.1) fun h=>h.elim (fun h=>h2 h.1) fun h=>h3 h.1
theorem getD_get {α:Type} {l:List α} {i:Nat} (h:i<l.length) (d:α):l.getD i d=l[i]:=by rw[List.getD_eq_getElem?_getD,List.getElem?_eq_getElem h];rfl
theorem styledObj_calls (w:World) {x:jk} {a:vd} (hx:qv x) (hxl:Bh w x a) (hsx:Bp x):
  gn prog 215 [.agg (jw x a).toArray] w fun v w'=>v= .bool (decide (Cc x))∧Ext No w w':=by
 refine gx func215 ?_
 have hX:=Ext.refl No w
 refine qa (gw rfl fun b1 w1 hn1 hb1 hE1=> ?_)
 have hX:=hX.gb hE1
 have hb1:j0 w1 b1 37 (jw x a):=hb1
 have oa:=hb1.ko.obj hx
 refine jz rfl (gk (jv (α:=Bool) [1] rfl (fun z=>[(13,.bool z)]) (fun z u=>(z=decide (Dh∈x.parents∨x.tree=Dh))∧j0 u b1 37 (jw x a)∧Ext No w u) ?_ ?_))
 ·refine j4 ?_
  refine j9 gc rfl (gy rfl oa.parents (qg rfl trivial (l':=ge Dh) Ct.symm ?_))
  refine gi call231 rfl (containsId_calls w1 (hxl.parents.ga hX) hsx.parents hx.parents yq4) fun v2 w2 hr2=> ?_
  obtain⟨rfl,hE2⟩:=hr2
  have hb1:=hb1.ga hE2
  have oa:=oa.ga hE2
  have hX:=hX.gb hE2
  refine j9 gc rfl (jo 8 rfl (fun hg=> ?_) (fun hg=> ?_))
  ·refine j2 gc 5 rfl ?_
   refine gm ?_
   exact gz (true) rfl ⟨by symm;rw[decide_eq_true_eq];exact .inl hg,hb1,hX⟩
  refine j2 gc 1 rfl ?_
  refine jr rfl oa.tree (vh.len hx.tree) (qg rfl trivial (l':=ge Dh) Ct.symm (wl (yj9 rfl gId 10 zd kId (x2 hx.tree) (x2 yq4) (yu hx.tree) (yu yq4) vk ?_)))
  simp only[if_true]
  refine j9 gc rfl (gm ?_)
  exact gz (_) rfl ⟨by rw[decide_eq_decide];exact⟨fun h=> .inr h,fun h=>h.resolve_left hg⟩,hb1,hX⟩
 rintro z w3 ⟨rfl,hb1,hX⟩
 have oa:=hb1.ko.obj hx
 refine jl rfl (fun hc=> ?_) (fun hc=> ?_)
 ·have hno:=styled_no hc
  refine je rfl (gq (gp (gu rfl rfl ?_)))
  exact⟨congrArg Value.bool (decide_eq_false hno).symm,hX⟩
 have h0:=hc
 refine j7 (j1 (qc rfl (gy rfl oa.parents (jz rfl (gk (qc rfl (gy rfl oa.style (qr (gr (qa ?_))))))))))
 refine jz rfl (jl rfl (fun hc=> ?_) (fun hc=> ?_))
 ·have h1:x.style=1:=hc
  refine jv (α:=Bool) [] rfl (fun z=>[(2,.bool z)]) (fun z u=>(z=decide (Cc x))∧Ext No w u) ?_ ?_
  ·refine j4 ?_
   refine j9 gc rfl (jo 23 rfl (fun hg=> ?_) (fun hg=> ?_))
   ·refine j2 gc 1 rfl ?_
    refine jr rfl oa.base (vh.len hx.base) (qg rfl trivial (l':=ge Dh) Ct.symm (wl (yj9 rfl gId 10 zd kId (x2 hx.base) (x2 yq4) (yu hx.base) (yu yq4) vk ?_)))
    simp only[if_true]
    refine j9 gc rfl (jo 29 rfl (fun hg=> ?_) (fun hg=> ?_))
    ·have hb:=hg
     refine j2 gc 2 rfl (gy rfl oa.rows (j2 gc 4 rfl (jo 36 rfl (fun hg=> ?_) (fun hg=> ?_))))
     ·refine j2 gc 1 rfl ?_
      refine gy rfl oa.number (j2 gc 3 rfl (gm ?_))
      exact gz (_) rfl ⟨by rw[decide_eq_decide,styled1 h0 h1];exact⟨fun h=>⟨by omega,hb,by omega,by omega⟩,fun h=>by omega⟩,hX⟩
     refine j2 gc 5 rfl ?_
     refine gm ?_
     exact gz (false) rfl ⟨by symm;rw[decide_eq_false_iff_not,styled1 h0 h1];intro h;omega,hX⟩
    have hb:=hg
    refine j2 gc 12 rfl (gm ?_)
    exact gz (false) rfl ⟨by symm;rw[decide_eq_false_iff_not,styled1 h0 h1];intro h;exact hb h.2.1,hX⟩
   refine j2 gc 18 rfl ?_
   refine gm ?_
   exact gz (false) rfl ⟨by symm;rw[decide_eq_false_iff_not,styled1 h0 h1];intro h;omega,hX⟩
  rintro z w4 ⟨rfl,hX⟩
  refine gq (ji (gp (gu rfl rfl ?_)))
  exact⟨rfl,hX⟩
 have h1:¬x.style=1:=hc
 refine je rfl (jl rfl (fun hc=> ?_) (fun hc=> ?_))
 ·have h2:x.style=2:=hc
  refine jv (α:=Bool) [] rfl (fun z=>[(2,.bool z)]) (fun z u=>(z=decide (Cc x))∧Ext No w u) ?_ ?_
  ·refine j4 ?_
   refine j9 gc rfl (jo 45 rfl (fun hg=> ?_) (fun hg=> ?_))
   ·refine j2 gc 1 rfl ?_
    refine jr rfl oa.base (vh.len hx.base) (qg rfl trivial (l':=ge Dh) Ct.symm (wl (yj9 rfl gId 10 zd kId (x2 hx.base) (x2 yq4) (yu hx.base) (yu yq4) vk ?_)))
    simp only[if_true]
    refine j9 gc rfl (jo 51 rfl (fun hg=> ?_) (fun hg=> ?_))
    ·have hb:=hg
     refine j2 gc 1 rfl (gy rfl oa.number (j2 gc 3 rfl (gm ?_)))
     exact gz (_) rfl ⟨by rw[decide_eq_decide,styled2 h0 h2];exact⟨fun h=>⟨by omega,hb,by omega⟩,fun h=>by omega⟩,hX⟩
    have hb:=hg
    refine j2 gc 5 rfl (gm ?_)
    exact gz (false) rfl ⟨by symm;rw[decide_eq_false_iff_not,styled2 h0 h2];intro h;exact hb h.2.1,hX⟩
   refine j2 gc 11 rfl ?_
   refine gm ?_
   exact gz (false) rfl ⟨by symm;rw[decide_eq_false_iff_not,styled2 h0 h2];intro h;omega,hX⟩
  rintro z w5 ⟨rfl,hX⟩
  refine gq (ji (gp (gu rfl rfl ?_)))
  exact⟨rfl,hX⟩
 have h2:¬x.style=2:=hc
 refine je rfl (jl rfl (fun hc=> ?_) (fun hc=> ?_))
 ·have h3:x.style=3:=hc
  refine jv (α:=Bool) [] rfl (fun z=>[(2,.bool z)]) (fun z u=>(z=decide (Cc x))∧Ext No w u) ?_ ?_
  ·refine js rfl 19 [qP 0,qP 1,qP 2,qP 3,qP 4,qP 5,qP 6,qP 7,qP 8,qP 9,qP 10,qP 11,qP 12,qP 13,qP 14,qP 15,qP 16,qP 17,qP 18] [] (No) zk fun w6 hE6 hs6=> ?_
   have oad:=oa
   have hXd:=hX
   have hX:=hX.gb hE6
   refine gv gc 3 rfl (Ax 60 rfl (fun hg=> ?_) (fun hg=> ?_))
   ·have hl2:x.parents.length=2:=by omega
    obtain⟨b,off,hp,hsa⟩:=hxl.parents.qm (fun r hr=>vh.len (hx.parents r hr)) zo
    have ha0:=hx.parents _ (List.getElem_mem (show 0<x.parents.length by omega))
    have ha1:=hx.parents _ (List.getElem_mem (show 1<x.parents.length by omega))
    refine gv gc 1 rfl (j6 gc rfl rfl (fun w' hw'=>(oad.ga hw').parents) ?_)
    rw[hp]
    refine qk gc rfl rfl 32 rfl 0 rfl zo (off+0*32) rfl (qf gc rfl rfl (fun w' hw'=>((hsa 0 zo).ga (hXd.gb hw'))) (vh.len ha0) ?_)
    refine gv gc 1 rfl (j6 gc rfl rfl (fun w' hw'=>(oad.ga hw').parents) ?_)
    rw[hp]
    refine qk gc rfl rfl 32 rfl 1 rfl zo (off+1*32) rfl (qf gc rfl rfl (fun w' hw'=>((hsa 1 zo).ga (hXd.gb hw'))) (vh.len ha1) ?_)
    refine yj4 rfl rfl gId 10 zd kId (x2 ha0) (x2 ha1) (yu ha0) (yu ha1) vk ?_
    simp only[Bool.false_eq_true,if_false]
    refine gv gc 2 rfl (Ax 71 rfl (fun hg=> ?_) (fun hg=> ?_))
    ·have hne:=hg
     refine gv gc 1 rfl (j6 gc rfl rfl (fun w' hw'=>(oad.ga hw').number) ?_)
     refine gv gc 3 rfl (jj (ja ?_))
     exact gz (_) rfl ⟨by rw[decide_eq_decide,styled3 h0 h3,getD_get zo,getD_get zo];exact⟨fun h=>⟨hl2,hne,by omega⟩,fun h=>by omega⟩,hX⟩
    have hne:=hg
    refine gv gc 5 rfl (jj (ja ?_))
    exact gz (false) rfl ⟨by symm;rw[decide_eq_false_iff_not,styled3 h0 h3,getD_get zo,getD_get zo];intro h;exact hne h.2.1,hX⟩
   refine gv gc 16 rfl ?_
   refine jj (ja ?_)
   exact gz (false) rfl ⟨by symm;rw[decide_eq_false_iff_not,styled3 h0 h3];intro h;omega,hX⟩
  rintro z w7 ⟨rfl,hX⟩
  refine gq (ji (gp (gu rfl rfl ?_)))
  exact⟨rfl,hX⟩
 have h3:¬x.style=3:=hc
 refine j7 (jy (j1 (je rfl (gq (gu rfl rfl ?_)))))
 exact⟨congrArg Value.bool (decide_eq_false (styled0 h1 h2 h3)).symm,hX⟩
end Go.Proofs.YtpdiphfjmepijaaGreatDoor
namespace Go.Vc
theorem Own.Dk {w:World} {p:Option Addr} {n c T sz:Nat} {xs:List Value} (h:Own w p n c T sz xs) {x:Nat} (hx:jd p x):∃l,j0 w x T l:=by
 rcases h with⟨hp,_⟩|⟨b,l,hp,hb,_⟩
 ·rw[hp] at hx;cases hx
 rw[hp] at hx
 obtain rfl:b=x:=by simpa using hx
 exact⟨l,hb⟩
theorem Own.zx7 {w:World} {p:Option Addr} {n c T sz:Nat} {xs:List Value} (h:Own w p n c T sz xs) {x b U:Nat} {m:List Value} (hx:jd p x) (hb:j0 w b U m) (hT:T≠U):x≠b:=by
 obtain⟨l,hl⟩:=h.Dk hx
 exact hl.ne hb hT
theorem Own.kc {w w':World} {p:Option Addr} {n c T sz:Nat} {xs:List Value} (h:Own w p n c T sz xs) {b U:Nat} {m:List Value} (hE:Ext (One b) w w') (hb:j0 w b U m) (hT:T≠U):Own w' p n c T sz xs:=
 h.ext hE fun _ hx e=>h.zx7 hx hb hT e
theorem j0.ke {w w':World} {p:Option Addr} {n c T sz:Nat} {xs:List Value} {b U:Nat} {m:List Value} (hb:j0 w b U m) (h:Own w p n c T sz xs) (hE:Ext (jd p) w w') (hT:T≠U):j0 w' b U m:=
 hb.ext hE fun hx=>h.zx7 hx hb hT rfl
theorem Sl.lt {w:World} {p:Option Addr} {n sz:Nat} {xs:List Value} (h:Sl w p n sz xs) {b off:Nat} (hp:p=some ⟨b,off,none⟩) (hx:xs≠[]):b<w.heap.size:=by
 obtain⟨c,e|⟨g,d,a,f⟩⟩:=h
 ·subst e
  rw[Nat.zero_mul] at c
  exact absurd (List.eq_nil_of_length_eq_zero c) hx
 rw[hp] at a
 cases a
 exact f.lt hx
theorem Seg.one {w:World} {b off:Nat} {v:Value} (h:w.cell? ⟨b,off,none⟩=some v):Seg w b off [v]:=fun i u hi=>by
 cases i with
 |zero=>cases hi;exact h
 |succ i=>cases hi
instance {α:Type} (l:List α) (f:α→List Value) [∀x,OneC (f x)]:OneC (l.flatMap f):=⟨fun u hu=>by
  obtain⟨r,_,hr⟩:=List.mem_flatMap.1 hu
  exact OneC.h u hr⟩
end Go.Vc
namespace Go.Proofs.YtpdiphfjmepijaaGreatDoor
open Go.Proofs.Tryz
open Go.Vc
def Bn (x:jf):Aq:=⟨x.path,[]⟩
theorem leafRows_ok {l:List jf}:xz2 (l.map Bn)↔yx8 (l.map jf.path):=by
 have e:(l.map Bn).map Aq.path=l.map jf.path:=by rw[List.map_map];rfl
 rw[xz2,e]
 refine⟨fun h=>h.2,fun h=>⟨fun⟨r,a,b⟩=> ?_,h⟩⟩
 obtain⟨x,_,rfl⟩:=List.mem_map.1 a
 exact absurd b (by simp[Bn])
def zj5 (l:List jf):List Value:=(l.map Bn).flatMap Aq.cells
theorem leafRows_take (l:List jf) {i:Nat} (h:i<l.length):zj5 (l.take (i+1))=zj5 (l.take i)++(Bn l[i]).cells:=by
 rw[zj5,List.take_succ_eq_append_getElem h,List.map_append,List.flatMap_append]
 simp[zj5]
theorem maxLen_big:1000000000≤maxLen:=by decide
theorem leaved1_calls (w:World) (r:jf) (hr:r.cells.length=33):
  gn prog 226 [.agg r.cells.toArray] w fun v w'=>v= .bool (decide (r.id=Dh))∧Ext No w w':=by
 have b:vh r.id:=by have:=hr;simp only[jf.cells,List.length_cons,gl] at this;exact Nat.succ.inj this
 refine gx func226 ?_
 have c:=Ext.refl No w
 refine qa (gw rfl fun e f g a d=> ?_)
 have c:=c.gb d
 have a:j0 f e 148 (r.cells):=a
 refine jz rfl (qc rfl (jr rfl (by have:=a.ko.drop 1;exact this) b.len (qg rfl trivial (l':=ge Dh) Ct.symm ?_)))
 refine wl (yj9 rfl gId 10 zd kId (x2 b) (x2 yq4) (yu b) (yu yq4) vk ?_)
 simp only[if_true]
 refine jz rfl (gq (gu rfl rfl ?_))
 exact⟨rfl,c⟩
theorem leaved_calls (w:World) {p:Option Addr} {c:Nat} {l:List jf} (h:Sl w p l.length 33 (l.flatMap jf.cells)) (hl:l.length<1000000000) (h1:∀r∈l,LeafIn r) (h2:∀r∈l,r.path.length<1000000000):
  gn prog 213 [.slice p l.length c] w fun v w'=>v= .bool (decide (Leaved l))∧Ext No w w':=by
 refine gx func213 ?_
 have d:=Ext.refl No w
 refine je rfl (qa (gw rfl fun b3 w1 S a T=> ?_))
 have U:=Nat.le_trans d.size S
 have d:=d.gb T
 have a:j0 w1 b3 319 ([.slice none 0 0]):=a
 refine qr (gk (je rfl (gr ?_)))
 refine jm (α:=Nat×Option Addr×Nat) [0,3,6,7] rfl (fun z=>[(8,.int .i64 (z.1:Int))]) (fun z u=>(z.1≤l.length∧Own u z.2.1 z.1 z.2.2 321 2 (zj5 (l.take z.1))∧(∀x,jd z.2.1 x→w.heap.size≤x))∧j0 u b3 319 ([.slice z.2.1 z.1 z.2.2])∧Ext No w u) (fun z u=>l.length-z.1) (0,none,0) rfl ⟨⟨Nat.zero_le _,Own.nil _ _ _,fun x j=>by cases j⟩,a,d⟩ ?_
 rintro⟨i,q,k⟩ w2 ⟨⟨F,f,s⟩,a,d⟩
 try dsimp only
 dsimp only at F f s a
 refine je rfl (gk (jl rfl (fun hc=> ?_) (fun hc=> ?_)))
 ·have F:i<l.length:=by omega
  obtain⟨b,V,rfl,G⟩:=h.qm (fun r g=>jf.len (h1 r g).2) zo
  have t:=h1 _ (List.getElem_mem F)
  refine xz (gr (qa (ki rfl 33 rfl i rfl zo (V+i*33) rfl (jr rfl ((G i F).ga d) (jf.len t.2) (gw rfl fun b5 w3 H n A=> ?_)))))
  have B:=j5 a.lt H
  have W:=Nat.le_trans d.size H
  have a:=a.ga A
  have f:=f.ext A fun _ _=>id
  have d:=d.gb A
  have I:=n
  refine wl (j8 (l':=(l[i]).cells) gc n rfl rfl (jf.len t.2) (jf.len t.2) OneC.h fun w4 n C a6=> ?_)
  have a:=a.gj C B
  have f:=f.kc C I zd
  have d:=d.gh C W
  refine qr (yv rfl (jb a rfl rfl (j9 gc rfl (jb n rfl rfl (qg rfl ⟨⟨rfl,by decide⟩,trivial⟩ (l':=(Bn l[i]).cells) rfl ?_)))))
  refine wl (qd gc rfl 2 rfl rfl rfl zd zd ⟨⟨rfl,by decide⟩,trivial⟩ (l':=(Bn l[i]).cells) rfl fun X w5 a5 J D a7=> ?_)
  have a:=a.ga D
  have f:=f.ext D fun _ _=>id
  have d:=d.gb D
  have K:=d
  refine wl (uh gc rfl 2 32 rfl rfl rfl zd f (Src.slice (m:=1) ⟨rfl,.inr ⟨X,0,rfl,J.ko⟩⟩ OneC.h) zm zn fun p6 c6 w6 Y L Z=> ?_)
  have d:=K.trans L fun y hy hF=>by have:=s y hF;omega
  have a:=a.ke f L zd
  have o:∀x,jd p6 x→w.heap.size≤x:=fun x j=>(Z x j).elim (fun h=>s x h) fun h=>Nat.le_trans K.size h
  obtain⟨P,Q,M,a0,E⟩:∃P Q,P=p6∧Q=c6∧Own w6 P (i+1) Q 321 2 (zj5 (l.take (i+1))):=⟨_,_,rfl,rfl,by rw[leafRows_take _ F];exact Y⟩
  rw[←M] at o
  rw[←M,←a0]
  have N:=a
  refine j9 gc rfl (ky a rfl rfl rfl fun w7 a O a8=> ?_)
  have E:=E.kc O N zd
  have d:=d.gh O U
  refine gm (Bo rfl ?_)
  rw[kg _ zo]
  refine gm ?_
  exact jn (i+1,P,Q) rfl ⟨⟨F,E,o⟩,a,d⟩ zf
 have h0:i=l.length:=by omega
 subst h0
 rw[List.take_length] at f
 refine Bi (jv (α:=Bool) [] rfl (fun z=>[(2,.bool z)]) (fun z u=>(z=decide (Leaved l))∧Ext No w u) ?_ ?_)
 ·refine j4 ?_
  refine jh a rfl rfl ?_
  rw[show Value.slice q l.length k= .slice q (l.map Bn).length k from by rw[List.length_map]]
  refine gi call224 rfl (check_calls w2 (c:=k) (l:=l.map Bn) (by have:=f.sl;rw[List.length_map];exact this) (by rw[List.length_map];exact hl) (fun r g=>by obtain⟨x,j,rfl⟩:=List.mem_map.1 g;exact h2 x j)) fun v8 w8 a1=> ?_
  obtain⟨rfl,a2⟩:=a1
  have d:=d.gb a2
  refine j9 gc rfl (jo 24 rfl (fun R=> ?_) (fun R=> ?_))
  ·have g:=leafRows_ok.1 (show xz2 (l.map Bn) from by by_cases h:xz2 (l.map Bn);exact h;rw[if_neg h] at R;exact absurd R zd)
   refine j2 gc 1 rfl ?_
   refine gi call225 rfl (zv8 w8 (fun r g=>jf.len (h1 r g).2) (h.ga d) hl (fun r=>r.id=Dh) call226 fun w r g=>leaved1_calls w r g) fun v9 w9 a3=> ?_
   obtain⟨rfl,a4⟩:=a3
   have d:=d.gb a4
   refine j2 gc 3 rfl (gm ?_)
   exact gz (_) rfl ⟨by rw[←decide_not,decide_eq_decide];exact⟨fun h=>⟨g,fun x j e=>h ⟨x,j,e⟩⟩,fun h ⟨x,j,e⟩=>h.2 x j e⟩,d⟩
  have g:¬yx8 (l.map jf.path):=fun h=>R (if_pos (leafRows_ok.2 h))
  refine j2 gc 5 rfl (gm ?_)
  exact gz (false) rfl ⟨by symm;rw[decide_eq_false_iff_not];exact fun h=>g h.1,d⟩
 rintro z a9 ⟨rfl,d⟩
 refine gq (gu rfl rfl ?_)
 exact⟨rfl,d⟩
theorem zq5 {p:Prop} [Decidable p] {n:Int} (hn:n≠0):(if p then 0 else n)=0↔p:=by
 by_cases h:p
 ·simp[h]
 simp[h,hn]
theorem fields1 {o:jk} (h:o.kind=1):yc o↔BlobOk o:=by
 constructor
 ·rintro(h1|h1|h1)
  ·exact h1.2
  ·exact absurd (h.symm.trans h1.1) zd
  exact absurd (h.symm.trans h1.1) zd
 exact fun h1=> .inl ⟨h,h1⟩
theorem fields2 {o:jk} (h:o.kind=2):yc o↔TreeOk o:=by
 constructor
 ·rintro(h1|h1|h1)
  ·exact absurd (h.symm.trans h1.1) zd
  ·exact h1.2
  exact absurd (h.symm.trans h1.1) zd
 exact fun h1=> .inr (.inl ⟨h,h1⟩)
theorem yv0 {o:jk} (h:o.kind=3):yc o↔ComOk o:=by
 constructor
 ·rintro(h1|h1|h1)
  ·exact absurd (h.symm.trans h1.1) zd
  ·exact absurd (h.symm.trans h1.1) zd
  exact h1.2
 exact fun h1=> .inr (.inr ⟨h,h1⟩)
theorem fields0 {o:jk} (h1:¬o.kind=1) (h2:¬o.kind=2) (h3:¬o.kind=3):¬yc o:=fun h=>h.elim (fun h=>h1 h.1) fun h=>h.elim (fun h=>h2 h.1) fun h=>h3 h.1
theorem fielded_calls (w:World) {x:jk} {a:vd} (hx:qv x) (hxl:Bh w x a) (hsx:Bp x):
  gn prog 185 [.agg (jw x a).toArray] w fun v w'=>v= .bool (decide (yc x))∧Ext No w w':=by
 have hs:(uo x.text).size=x.text.length:=rfl
 have hsn:(uo x.note).size=x.note.length:=rfl
 have hy1:qv {x with kind:=0,text:=[]}:=⟨hx.tree,hx.base,hx.parents,hx.leaves,hx.rows,hx.number,hx.author⟩
 have hs1:Bp {x with kind:=0,text:=[]}:=⟨hsx.leaves,hsx.parents,hsx.rows,hsx.leafP,hsx.rowP⟩
 have hl1:Bh w {x with kind:=0,text:=[]} a:=⟨hxl.leaves,hxl.parents,hxl.rows⟩
 have hy2:qv {x with kind:=0,leaves:=[]}:=⟨hx.tree,hx.base,hx.parents,fun _ h=>absurd h List.not_mem_nil,hx.rows,hx.number,hx.author⟩
 have hs2:Bp {x with kind:=0,leaves:=[]}:=⟨(by decide:(0:Nat)<1000000000),hsx.parents,hsx.rows,fun _ h=>absurd h List.not_mem_nil,hsx.rowP⟩
 have hl2:Bh w {x with kind:=0,leaves:=[]} ⟨none,0,a.pp,a.pc,a.rp,a.rc⟩:=⟨Sl.nil _ _ _,hxl.parents,hxl.rows⟩
 refine gx func185 ?_
 have hX:=Ext.refl No w
 refine qa (gw rfl fun b1 w1 hn1 hb1 hE1=> ?_)
 have hX:=hX.gb hE1
 have hb1:j0 w1 b1 37 (jw x a):=hb1
 refine jz rfl (qa (jh hb1 rfl (gt hx) (gw rfl fun b3 w2 hn3 hb3 hE2=> ?_)))
 have ne1_3:=j5 hb1.lt hn3
 have fr3:=Nat.le_trans hX.size hn3
 have hb1:=hb1.ga hE2
 have hX:=hX.gb hE2
 refine wl (j8 (l':=jw x a) gc hb3 rfl rfl (gt hx) (gt hx) OneC.h fun w3 hb3 hE3 hs3=> ?_)
 have hb1:=hb1.gj hE3 ne1_3
 have hX:=hX.gh hE3 fr3
 refine qr (qc rfl (ky hb3 rfl rfl rfl fun w4 hb3 hE4 hs4=> ?_))
 have hb1:=hb1.gj hE4 ne1_3
 have hX:=hX.gh hE4 fr3
 have hb3:j0 w4 b3 37 (jw {x with kind:=0} a):=hb3
 have oa:=hb1.ko.obj hx
 refine qr (je rfl (jv (α:=Bool) [] rfl (fun z=>[(4,.bool z)]) (fun z u=>(z=decide (yc x))∧Ext No w u) ?_ ?_))
 ·refine gk ?_
  refine yv rfl (gy rfl oa.kind (qr (gr (je rfl (jl rfl (fun hc=> ?_) (fun hc=> ?_))))))
  ·have h1:x.kind=1:=hc
   refine qc rfl (ky hb3 rfl rfl rfl fun w5 hb3 hE5 hs5=> ?_)
   have hb1:=hb1.gj hE5 ne1_3
   have oa:=(hb1.ko.obj hx)
   have hX:=hX.gh hE5 fr3
   have hb3:j0 w5 b3 37 (jw {x with kind:=0,text:=[]} a):=hb3
   refine qr (yv rfl (gy rfl oa.text (j9 gc rfl (jo 16 rfl (fun hg=> ?_) (fun hg=> ?_)))))
   ·refine jh hb3 rfl (gt hy1) ?_
    refine gi call212 rfl (xq2 w5 hy1 (hl1.ga hX) hs1) fun v6 w6 hr6=> ?_
    obtain⟨rfl,hE6⟩:=hr6
    have hX:=hX.gb hE6
    refine j9 gc rfl (gm ?_)
    exact jy (gz (_) rfl ⟨by rw[decide_eq_decide,fields1 h1,blob_zero];exact⟨fun h=>⟨by omega,h⟩,fun h=>h.2⟩,hX⟩)
   refine j2 gc 4 rfl ?_
   refine gm ?_
   exact jy (gz (false) rfl ⟨by symm;rw[decide_eq_false_iff_not,fields1 h1];exact fun h=>absurd h.1 zo,hX⟩)
  have h1:¬x.kind=1:=hc
  refine je rfl (jl rfl (fun hc=> ?_) (fun hc=> ?_))
  ·have h2:x.kind=2:=hc
   refine qc rfl (ky hb3 rfl rfl rfl fun w7 hb3 hE7 hs7=> ?_)
   have hb1:=hb1.gj hE7 ne1_3
   have oa:=(hb1.ko.obj hx)
   have hX:=hX.gh hE7 fr3
   have hb3:j0 w7 b3 37 (jw {x with kind:=0,leaves:=[]} ⟨none,0,a.pp,a.pc,a.rp,a.rc⟩):=hb3
   refine qr (yv rfl (gy rfl oa.leaves (gi call213 rfl (leaved_calls w7 (hxl.leaves.ga hX) hsx.leaves hx.leaves hsx.leafP) fun v8 w8 hr8=> ?_)))
   obtain⟨rfl,hE8⟩:=hr8
   have hb3:=hb3.ga hE8
   have hX:=hX.gb hE8
   refine j9 gc rfl (jo 26 rfl (fun hg=> ?_) (fun hg=> ?_))
   ·have hlv:=hg
    refine jh hb3 rfl (gt hy2) (gi call212 rfl (xq2 w8 hy2 (hl2.ga hX) hs2) fun v9 w9 hr9=> ?_)
    obtain⟨rfl,hE9⟩:=hr9
    have hX:=hX.gb hE9
    refine j9 gc rfl (gm ?_)
    exact jy (gz (_) rfl ⟨by rw[decide_eq_decide,fields2 h2,tree_zero];exact⟨fun h=>⟨hlv,h⟩,fun h=>h.2⟩,hX⟩)
   have hlv:=hg
   refine j2 gc 4 rfl (gm ?_)
   exact jy (gz (false) rfl ⟨by symm;rw[decide_eq_false_iff_not,fields2 h2];exact fun h=>hlv h.1,hX⟩)
  have h2:¬x.kind=2:=hc
  refine je rfl (jl rfl (fun hc=> ?_) (fun hc=> ?_))
  ·have h3:x.kind=3:=hc
   refine yv rfl (gy rfl oa.text (j9 gc rfl (jo 35 rfl (fun hg=> ?_) (fun hg=> ?_))))
   ·have e1:x.text=[]:=A6 (b:=[]) hg
    refine j2 gc 1 rfl (gy rfl oa.leaves (j2 gc 4 rfl (jo 41 rfl (fun hg=> ?_) (fun hg=> ?_))))
    ·refine j2 gc 1 rfl ?_
     refine gy rfl oa.note (j2 gc 4 rfl (jo 47 rfl (fun hg=> ?_) (fun hg=> ?_)))
     ·refine j2 gc 1 rfl ?_
      refine jr rfl (Seg.one oa.rows) rfl (gi call214 rfl (checkEdit_calls w4 (hxl.rows.ga hX) hsx.rows hsx.rowP) fun v10 w10 hr10=> ?_)
      obtain⟨rfl,hE10⟩:=hr10
      have hb1:=hb1.ga hE10
      have hX:=hX.gb hE10
      refine j2 gc 3 rfl (jo 53 rfl (fun hg=> ?_) (fun hg=> ?_))
      ·have e6:xz4 x.rows:=(zq5 zd).1 hg
       refine jh hb1 rfl (gt hx) (gi call215 rfl (styledObj_calls w10 hx (hxl.ga hX) hsx) fun v11 w11 hr11=> ?_)
       obtain⟨rfl,hE11⟩:=hr11
       have hX:=hX.gb hE11
       refine j9 gc rfl (gm ?_)
       exact jy (gz (_) rfl ⟨by rw[decide_eq_decide,yv0 h3];exact⟨fun h=>⟨e1,by omega,by omega,e6,h⟩,fun h=>h.2.2.2.2⟩,hX⟩)
      have e6:¬xz4 x.rows:=fun h=>hg (if_pos h)
      refine j2 gc 4 rfl (gm ?_)
      exact jy (gz (false) rfl ⟨by symm;rw[decide_eq_false_iff_not,yv0 h3];exact fun h=>e6 h.2.2.2.1,hX⟩)
     refine j2 gc 10 rfl ?_
     refine gm ?_
     exact jy (gz (false) rfl ⟨by symm;rw[decide_eq_false_iff_not,yv0 h3];exact fun h=>absurd h.2.2.1 zo,hX⟩)
    refine j2 gc 16 rfl ?_
    refine gm ?_
    exact jy (gz (false) rfl ⟨by symm;rw[decide_eq_false_iff_not,yv0 h3];exact fun h=>absurd h.2.1 zo,hX⟩)
   have e1:¬x.text=[]:=fun e=>hg (by rw[e];rfl)
   refine j2 gc 22 rfl (gm ?_)
   exact jy (gz (false) rfl ⟨by symm;rw[decide_eq_false_iff_not,yv0 h3];exact fun h=>e1 h.1,hX⟩)
  have h3:¬x.kind=3:=hc
  refine j7 ?_
  exact jy (gz (false) rfl ⟨(decide_eq_false (fields0 h1 h2 h3)).symm,hX⟩)
 rintro z w12 ⟨rfl,hX⟩
 refine je rfl (gq (gu rfl rfl ?_))
 exact⟨rfl,hX⟩
def Wr (w:World) (b:Nat) (p:Option Addr) (l:List UInt8):Prop:=
  ∃c,j0 w b 288 [.slice p l.length c]∧Own w p l.length c 5 1 (ge l)
abbrev WrF (b:Nat) (p:Option Addr):Nat→Prop:=fun x=>x=b∨jd p x
theorem _root_.Go.Vc.j0.keepW {w w':World} {b:Nat} {p:Option Addr} {l:List UInt8} {x T:Nat} {L:List Value} (hb:j0 w x T L) (h:Wr w b p l) (hE:Ext (WrF b p) w w') (h1:288≠T) (h2:5≠T):j0 w' x T L:=by
 obtain⟨c,a,d⟩:=h
 exact hb.ext hE fun f=>f.elim (fun e=>a.ne hb h1 e.symm) fun g=>d.zx7 g hb h2 rfl
theorem _root_.Go.Vc.Ext.thenW {w0 w w':World} {b:Nat} {p:Option Addr} (hX:Ext No w0 w) (hE:Ext (WrF b p) w w') (h1:w0.heap.size≤b) (h2:∀x,jd p x→w0.heap.size≤x):Ext No w0 w':=
 hX.trans hE fun y hy hF=>hF.elim (fun e=>by omega) fun h=>by have:=h2 y h;omega
theorem zz7 {w0 w:World} {p p':Option Addr} (hX:Ext No w0 w) (h2:∀x,jd p x→w0.heap.size≤x) (h3:∀x,jd p' x→jd p x∨w.heap.size≤x):∀x,jd p' x→w0.heap.size≤x:=
 fun x hx=>(h3 x hx).elim (fun h=>h2 x h) fun h=>Nat.le_trans hX.size h
theorem yz8 (w:World) {b:Nat} {p:Option Addr} {l:List UInt8} (h:Wr w b p l) (s:Str) (hl:l.length+s.length<900000000):
  gn prog 196 [.pointer (some ⟨b,0,none⟩),xn s] w fun v w'=>v= .tuple #[]∧∃p',Wr w' b p' (l++ue 1 s)∧(∀x,jd p' x→jd p x∨w.heap.size≤x)∧Ext (WrF b p) w w':=by
 obtain⟨c,a,f⟩:=h
 have O:(uo s).size=s.length:=rfl
 refine gx func196 ?_
 have d:=Ext.refl (WrF b p) w
 refine yv rfl (gy rfl (a.cell rfl) (j9 gc rfl ?_))
 rw[xd]
 refine wl (qd gc rfl 1 rfl rfl rfl zd zd zt (l':=ge [UInt8.ofNat s.length]) rfl fun B W J q j P=> ?_)
 have d:=d.gb j
 have a:=a.ga j
 have f:=f.ext j fun _ _=>id
 have C:=d
 refine wl (uh gc rfl 1 1 rfl rfl rfl zd f (Src.slice (m:=1) ⟨rfl,.inr ⟨B,0,rfl,q.ko⟩⟩ OneC.h) zm zn fun Q R X e k n=> ?_)
 dsimp only at e k n⊢
 have d:=d.trans k fun y D r=> .inr r
 have a:=a.ke f k (show(5:Nat)≠288 from by decide)
 obtain⟨E,K,F,L⟩:∃E K,E=Q∧K=R:=⟨_,_,rfl,rfl⟩
 rw[←F,←L] at e
 rw[←F] at n
 rw[←F,←L]
 have t:=e
 have g:=n
 have g:∀x,jd E x→jd p x∨w.heap.size≤x:=fun x G=>(g x G).elim .inl fun h=> .inr (Nat.le_trans C.size h)
 refine j9 gc rfl ?_
 have H:=d
 refine wl (uh gc rfl 1 1 rfl rfl rfl zd t Src.string zm zn fun M S T i o u=> ?_)
 dsimp only at i o u⊢
 have d:=d.trans o fun y D r=>(g y r).elim .inr fun h=>absurd D zo
 have a:=a.ke t o (show(5:Nat)≠288 from by decide)
 have I:∀x,jd M x→jd p x∨w.heap.size≤x:=fun x G=>(u x G).elim (fun h=>g x h) fun h=> .inr (Nat.le_trans H.size h)
 have N:l.length+1+(uo s).size=(l++ue 1 s).length:=by simp[ue,be];omega
 have e:Own T M (l++ue 1 s).length S 5 1 (ge (l++ue 1 s)):=by
  have U:l++ue 1 s=l++[UInt8.ofNat s.length]++s:=by simp[ue,be]
  rw[←N,U,k8,k8]
  exact i
 rw[N]
 refine j9 gc rfl (ky a rfl rfl rfl fun Y z A V=> ?_)
 have i:=e.kc A a zd
 have d:=d.trans A fun y D r=> .inl r
 refine gm (y9 rfl ?_)
 exact⟨rfl,_,⟨_,z,i⟩,I,d⟩
theorem text_calls (w:World) {b:Nat} {p:Option Addr} {l:List UInt8} (h:Wr w b p l) (s:Str) (hl:l.length<900000000) (hs:s.length<65536):
  gn prog 195 [.pointer (some ⟨b,0,none⟩),xn s] w fun v w'=>v= .tuple #[]∧∃p',Wr w' b p' (l++ue 2 s)∧(∀x,jd p' x→jd p x∨w.heap.size≤x)∧Ext (WrF b p) w w':=by
 obtain⟨c,a,t⟩:=h
 have u:(uo s).size=s.length:=rfl
 refine gx func195 ?_
 have f:=Ext.refl (WrF b p) w
 refine yv rfl (gy rfl (a.cell rfl) (j9 gc rfl ?_))
 rw[IntWalk.u16_in _ zo]
 refine gi call91 rfl (C6 w t.sl zo s.length hs) fun P Q z=> ?_
 obtain⟨D,rfl,H,j,k⟩:=z
 have f:=f.gb k
 have a:=a.ga k
 have A:=f
 have g:(ge (l++be 2 s.length)).length=(l++be 2 s.length).length*1:=by rw[gl,Nat.mul_one]
 refine j9 gc rfl ?_
 refine wl (uh gc rfl 1 1 rfl rfl rfl zd (Own.blk (n:=(l++be 2 s.length).length) (c:=(l++be 2 s.length).length) j 1 g (Nat.le_refl _) (by rw[List.length_append,jp];dsimp only[maxLen];omega)) Src.string (by rw[List.length_append,jp];dsimp only[maxLen];omega) (by dsimp only;rw[List.length_append,jp];omega) fun E I J d i m=> ?_)
 dsimp only at d i m⊢
 have f:=f.trans i fun y K o=>by have e:D=y:=congrArg Addr.block (Option.some.inj o);omega
 have F:=a
 have a:=a.ke (Own.blk (n:=0) (c:=(l++be 2 s.length).length) j 1 g (Nat.zero_le _) (by rw[List.length_append,jp];dsimp only[maxLen];omega)) i (show(5:Nat)≠288 from by decide)
 have B:∀x,jd E x→jd p x∨w.heap.size≤x:=fun x L=>(m x L).elim (fun o=>by have e:D=x:=congrArg Addr.block (Option.some.inj o);exact .inr zo) fun h=> .inr (Nat.le_trans A.size h)
 have G:(l++be 2 s.length).length+(uo s).size=(l++ue 2 s).length:=by simp only[ue,List.length_append,u];omega
 have d:Own J E (l++ue 2 s).length I 5 1 (ge (l++ue 2 s)):=by
  have M:ge (l++ue 2 s)=ge (l++be 2 s.length)++ge s:=by rw[ue,←List.append_assoc,k8]
  have N:(ge (l++be 2 s.length)).take ((l++be 2 s.length).length*1)=ge (l++be 2 s.length):=List.take_of_length_le (by rw[g];exact Nat.le_refl _)
  rw[←G,M]
  rw[N] at d
  exact d
 rw[G]
 refine j9 gc rfl (ky a rfl rfl rfl fun R q r O=> ?_)
 have C:=d.kc r a zd
 have f:=f.trans r fun y K o=> .inl o
 refine gm (y9 rfl ?_)
 exact⟨rfl,_,⟨_,q,C⟩,B,f⟩
theorem zw0 {l:List (List UInt8)} {i:Nat} (h:i<l.length):(l.take (i+1)).flatten=(l.take i).flatten++l[i]:=by
 rw[List.take_succ_eq_append_getElem h,List.flatten_append]
 simp
theorem flatten_in {l:List (List UInt8)} (h:∀r∈l,vh r) (i:Nat):(l.take i).flatten.length=(l.take i).length*32:=zq6 fun x hx=>h x (List.mem_of_mem_take hx)
theorem yv9 (w:World) {b:Nat} {p:Option Addr} {l:List UInt8} (h:Wr w b p l) {q:Option Addr} {d:Nat} {m:List (List UInt8)} (hq:Sl w q m.length 32 (m.flatMap ge)) (hm:∀r∈m,vh r) (hl:l.length<900000000) (hml:m.length<1000000)
  (hsep:∀x off,q=some ⟨x,off,none⟩→m≠[]→¬WrF b p x):
  gn prog 197 [.pointer (some ⟨b,0,none⟩),.slice q m.length d] w fun v w'=>v= .tuple #[]∧∃p',Wr w' b p' (l++m.flatten)∧(∀x,jd p' x→jd p x∨w.heap.size≤x)∧Ext (WrF b p) w w':=by
 refine gx func197 ?_
 have f:=Ext.refl (WrF b p) w
 refine je rfl (gr ?_)
 refine jm (α:=Nat×Option Addr) [0,6,7] rfl (fun z=>[(8,.int .i64 (z.1:Int))]) (fun z u=>(z.1≤m.length∧Wr u b z.2 (l++(m.take z.1).flatten)∧(∀x,jd z.2 x→jd p x∨w.heap.size≤x))∧Ext (WrF b p) w u) (fun z u=>m.length-z.1) (0,p) rfl ⟨⟨Nat.zero_le _,by simpa using h,fun _ h=> .inl h⟩,f⟩ ?_
 rintro⟨i,N⟩ w1 ⟨⟨o,hW,s⟩,f⟩
 try dsimp only
 dsimp only at o hW s
 obtain⟨k,a,c⟩:=hW
 refine je rfl (gk (jl rfl (fun hc=> ?_) (fun hc=> ?_)))
 ·have o:i<m.length:=by omega
  have O:m≠[]:=fun e=>by rw[e] at o;exact absurd o (Nat.not_lt_zero _)
  obtain⟨qb,A,rfl,P⟩:=hq.qm (fun r hr=>(hm r hr).len) zo
  have Q:=hsep qb A rfl O
  have j:=hm _ (List.getElem_mem o)
  have R:=flatten_in hm i
  rw[List.length_take,Nat.min_eq_left zo] at R
  refine xz (gr (qa (ki rfl 32 rfl i rfl zo (A+i*32) rfl (jr rfl ((P i o).ext f Q) j.len (gw rfl fun b5 w2 S g D=> ?_)))))
  have T:=Nat.le_trans f.size S
  have a:=a.ga D
  have c:=c.ext D fun _ _=>id
  have f:=f.gb D
  have B:=g
  refine wl (j8 (l':=ge m[i]) gc g rfl rfl j.len (j.len) OneC.h fun w3 g E a0=> ?_)
  have a:=a.gj E (a.ne B zd)
  have c:=c.kc E B zd
  have f:=f.gh E T
  refine qr (js rfl 9 [qP 0,qP 1,qP 2,qP 3,qP 4,qP 5,(6,false),qP 7,qP 8] [9] (jd N) zk fun w4 n a1=> ?_)
  have C:=a
  have F:=c
  have g:=g.ga n
  have a:=a.ga n
  have c:=c.ext n fun _ _=>id
  have f:=f.gb n
  have hC:Ext (jd N) _ w4:=n.no
  refine gv gc 4 rfl (j6 gc rfl rfl (fun w' U=>((C.ext (show Ext (jd N) _ w' from U) fun V=>F.zx7 V C zd rfl).cell rfl)) ?_)
  refine xw9 gc rfl rfl 0 32 32 1 rfl ⟨.inr ⟨rfl,rfl⟩,.inr ⟨rfl,rfl⟩,.inr ⟨rfl,rfl⟩,by decide,by decide,by decide⟩ ?_
  rw[ka,Nat.sub_zero]
  have W:=f
  refine jg rfl (uh gc rfl 1 1 rfl rfl rfl zd c (Src.slice (m:=32) ⟨j.len,.inr ⟨b5,0,rfl,g.ko⟩⟩ OneC.h) (by dsimp only[maxLen];rw[List.length_append];omega) (by dsimp only;rw[List.length_append];omega) fun p5 c5 w5 G t H=>⟨hC.then t,?_⟩)
  dsimp only at G t H⊢
  have f:=f.trans t fun y hy X=>(s y X).elim .inr fun h=>absurd hy zo
  have a:=a.ke c t (show(5:Nat)≠288 from by decide)
  have I:∀x,jd p5 x→jd p x∨w.heap.size≤x:=fun x V=>(H x V).elim (fun h=>s x h) fun h=> .inr (Nat.le_trans W.size h)
  have e3:(l++(m.take i).flatten).length+32=(l++(m.take (i+1)).flatten).length:=by rw[zw0 o,List.length_append,List.length_append,List.length_append,j];omega
  obtain⟨L,M,e1,e2,Y⟩:∃L M,L=p5∧M=c5∧Own w5 L (l++(m.take (i+1)).flatten).length M 5 1 (ge (l++(m.take (i+1)).flatten)):=⟨_,_,rfl,rfl,by
   rw[←e3,zw0 o,←List.append_assoc,k8]
   exact G⟩
  rw[←e1] at I
  rw[←e1,←e2,e3]
  refine gv gc 2 rfl (jj (wb rfl (xv gc a rfl rfl rfl fun w6 J K a2=> ?_)))
  have Z:=Y.kc K a zd
  have f:=f.trans K fun y hy X=> .inl X
  refine ja (Bo rfl ?_)
  rw[kg _ zo]
  refine gm ?_
  exact jn (i+1,L) rfl ⟨⟨o,⟨M,J,Z⟩,I⟩,f⟩ zf
 have h0:i=m.length:=by omega
 subst h0
 rw[List.take_length] at a c
 refine yo (qy (qy (vf (y9 rfl ?_))))
 exact⟨rfl,_,⟨_,a,c⟩,s,f⟩
theorem kw (n:Nat) (s:Str):(ue n s).length=n+s.length:=by simp[ue,jp]
theorem zw9 {x:Int} (h:0≤x):IntKind.u8.wrap x=((UInt8.ofNat x.toNat).toNat:Int):=by
 have:=xd x.toNat
 rw[Int.toNat_of_nonneg h] at this
 exact this
theorem yv4 {α β:Type} {f:α→List β} {l:List α} {i:Nat} (h:i<l.length):(l.take (i+1)).flatMap f=(l.take i).flatMap f++f l[i]:=by
 rw[List.take_succ_eq_append_getElem h,List.flatMap_append]
 simp
theorem rises_at {l:List Str} (h:yx8 l) {s:Str} (hs:s∈l):s.length≤48:=by
 obtain⟨i,hi,rfl⟩:=List.mem_iff_getElem.1 hs
 exact(h.2 i hi).1.2.2
theorem leaved_at {l:List jf} (h:Leaved l):l.length≤32∧∀r∈l,r.path.length≤48:=
 ⟨by have:=h.1.1;rwa [List.length_map] at this,fun r hr=>rises_at h.1 (List.mem_map.2 ⟨r,hr,rfl⟩)⟩
theorem edit_at {l:List ud} (h:xz4 l):l.length≤32∧∀r∈l,r.path.length≤48∧r.text.length≤256:=
 ⟨by have:=h.2.1;rwa [List.length_map] at this,fun r hr=>⟨rises_at h.2 (List.mem_map.2 ⟨r,hr,rfl⟩),Nat.not_lt.1 fun ht=>h.1 ⟨r,hr,.inl ht⟩⟩⟩
theorem styled_at {o:jk} (h:Cc o):o.parents.length≤2∧0≤o.style:=by
 obtain⟨_,_,h|h|h⟩:=h
 ·exact⟨by omega,by omega⟩
 ·exact⟨by omega,by omega⟩
 exact⟨by omega,by omega⟩
theorem kind_at {o:jk} (h:yc o):0≤o.kind:=by
 rcases h with h|h|h<;>omega
theorem leafB_le {r:jf} (h:r.path.length≤48) (hi:r.id.length=32):(Ay r).length≤100:=by
 rw[Ay,List.length_append,kw];omega
theorem chgB_le {r:ud} (h:r.path.length≤48∧r.text.length≤256):(xw r).length≤400:=by
 rw[xw,List.length_append,List.length_append,kw,kw];simp;omega
theorem flat_ne {m:List (List UInt8)} (h:∀r∈m,vh r) (hm:m≠[]):m.flatMap ge≠[]:=fun e=>by
 have h1:(m.flatMap ge).length=m.length*32:=yz3 fun r hr=>(h r hr).len
 rw[e] at h1
 have:0<m.length:=List.length_pos_iff.2 hm
 simp at h1
 omega
theorem one_id {r:List UInt8} (h:vh r):xm (C1 1 (ge Dh)) [(0*(0+32),0+32,.agg (ge r).toArray)]=ge r:=by
 simp only[xm,ju]
 rw[Nat.zero_mul,Ai (by rw[ub,gl,gl,h];rfl)]
theorem laid_calls (w:World) {x:jk} {a:vd} (hx:qv x) (hxl:Bh w x a) (hf:yc x):
  gn prog 159 [.agg (jw x a).toArray] w fun v w'=>∃q k,v= .slice q (laidB x).length k∧Own w' q (laidB x).length k 5 1 (ge (laidB x))∧(∀b,jd q b→w.heap.size≤b)∧Ext No w w':=by
 have d9:=kind_at hf
 refine gx func159 ?_
 have j:=Ext.refl No w
 refine qa (gw rfl fun b1 w1 da g db=> ?_)
 have f6:=Nat.le_trans j.size da
 have j:=j.gb db
 have g:j0 w1 b1 37 (jw x a):=g
 refine jz rfl (qc rfl (gy rfl (g.ko.obj hx).kind (j9 gc rfl ?_)))
 rw[zw9 d9]
 refine wl (qd gc rfl 1 rfl rfl rfl zd zd zt (l':=ge [UInt8.ofNat x.kind.toNat]) rfl fun ai w2 al ab c9 f7=> ?_)
 have d1:=j5 g.lt al
 have ca:=Nat.le_trans j.size al
 have g:=g.ga c9
 have j:=j.gb c9
 have ca:=al
 refine qg rfl ⟨⟨rfl,by decide⟩,trivial⟩ (l':=[.slice (some ⟨ai,0,none⟩) 1 1]) rfl (gw rfl fun N w3 am an bz=> ?_)
 have d2:=j5 g.lt am
 have cb:=j5 ab.lt am
 have K:=Nat.le_trans j.size am
 have g:=g.ga bz
 have ab:=ab.ga bz
 have j:=j.gb bz
 have an:j0 w3 N 288 ([.slice (some ⟨ai,0,none⟩) (be 1 x.kind.toNat).length 1]):=an
 have d:=an
 have eh:=j.size
 have f:Own w3 (some ⟨ai,0,none⟩) (be 1 x.kind.toNat).length 1 5 1 (ge (be 1 x.kind.toNat)):=Own.blk (n:=1) (c:=1) ab 1 rfl (Nat.le_refl _) zd
 have o:∀y,jd (some ⟨ai,0,none⟩) y→w.heap.size≤y:=fun y hy=>by have e:ai=y:=congrArg Addr.block (Option.some.inj hy);omega
 obtain⟨p,hp⟩:∃p:Option Addr,p=some ⟨ai,0,none⟩:=⟨_,rfl⟩
 rw[←hp] at d f o
 refine jz rfl (jv (α:=Option Addr) [3] rfl (fun z=>[]) (fun z u=>(Wr u N z (laidB x)∧∀y,jd z y→w.heap.size≤y)∧Ext No w u) ?_ ?_)
 ·refine gk ?_
  refine yv rfl (gy rfl (g.ko.obj hx).kind (qr (gr (je rfl (jl rfl (fun Y=> ?_) (fun Y=> ?_))))))
  ·have h1:x.kind=1:=Y
   have hB:=(fields1 h1).1 hf
   have f8:=hB.1
   refine yv rfl (gy rfl (g.ko.obj hx).text ?_)
   have D:=j
   refine gi call195 rfl (text_calls w3 ⟨_,d,f⟩ x.text zh zo) fun v4 w4 dc=> ?_
   obtain⟨rfl,p,E,s,cc⟩:=dc
   have g:=g.keepW ⟨_,d,f⟩ cc zd zd
   have j:=Ext.thenW j cc K o
   have o:=zz7 D o s
   obtain⟨k4,d,f⟩:=E
   refine gm ?_
   exact jy (gz (p) rfl ⟨⟨by rw[laidB,if_pos h1];exact⟨_,d,f⟩,o⟩,j⟩)
  have h1:¬x.kind=1:=Y
  refine je rfl (jl rfl (fun Y=> ?_) (fun Y=> ?_))
  ·have h2:x.kind=2:=Y
   have hB:=(fields2 h2).1 hf
   obtain⟨cd,R⟩:=leaved_at hB.1
   refine gk (js rfl 13 [qP 0,qP 1,qP 2,qP 3,qP 4,qP 5,qP 6,qP 7,qP 8,(9,false),(10,false),qP 11,qP 12] [13] (jd p) zk fun w5 ao f9=> ?_)
   have L:=g
   have B:=d
   have C:=f
   have b8:=j
   have g:=g.ga ao
   have d:=d.ga ao
   have f:=f.ext ao fun _ _=>id
   have j:=j.gb ao
   have I:Ext (jd p) _ w5:=ao.no
   refine gv gc 4 rfl (j6 gc rfl rfl (fun w' t=>((B.ext (show Ext (jd p) _ w' from t) fun J=>C.zx7 J B zd rfl).cell rfl)) ?_)
   refine gv gc 1 rfl (j6 gc rfl rfl (fun w' t=>((L.ext (show Ext (jd p) _ w' from t) fun J=>C.zx7 J L zd rfl).ko.obj hx).leaves) ?_)
   refine gv gc 2 rfl ?_
   rw[xd]
   refine jg rfl (qd gc rfl 1 rfl rfl rfl zd zd zt (l':=ge [UInt8.ofNat x.leaves.length]) rfl fun dd w6 ba ce aj fa=>⟨I.gb aj,?_⟩)
   have d3:=j5 g.lt ba
   have ei:=Nat.le_trans j.size ba
   have g:=g.ga aj
   have d:=d.ga aj
   have f:=f.ext aj fun _ _=>id
   have j:=j.gb aj
   have I:=I.gb aj
   have O:=j
   refine jg rfl (uh gc rfl 1 1 rfl rfl rfl zd f (Src.slice (m:=1) ⟨rfl,.inr ⟨dd,0,rfl,ce.ko⟩⟩ OneC.h) (by dsimp only[maxLen];simp only[jp];omega) (by dsimp only;simp only[jp];omega) fun p7 c7 w7 cf ak cg=>⟨I.then ak,?_⟩)
   have I:=I.then ak
   dsimp only at cf ak cg⊢
   have g:=g.ke f ak (show(5:Nat)≠37 from by decide)
   have j:=j.trans ak fun y hy F=>by have:=o y F;omega
   have d:=d.ke f ak (show(5:Nat)≠288 from by decide)
   have s:=zz7 O o cg
   have e3:(be 1 x.kind.toNat).length+1=(be 1 x.kind.toNat++be 1 x.leaves.length).length:=by simp only[List.length_append,jp]
   obtain⟨p,k,e1,e2,G⟩:∃p k,p=p7∧k=c7∧Own w7 p (be 1 x.kind.toNat++be 1 x.leaves.length).length k 5 1 (ge (be 1 x.kind.toNat++be 1 x.leaves.length)):=⟨_,_,rfl,rfl,by
    rw[←e3,k8 (be 1 x.kind.toNat)]
    exact cf⟩
   rw[←e1] at s
   have o:=s
   rw[←e1,←e2,e3]
   refine gv gc 2 rfl (jj (wb rfl (xv gc d rfl rfl rfl fun w8 H c0 fb=> ?_)))
   have f:=G.kc c0 d zd
   have g:=g.gj c0 (g.ne d zd)
   have j:=j.trans c0 fun y hy F=>by have F:y=N:=F;omega
   have d:=H
   refine ja (j1 (qc rfl (gy rfl (g.ko.obj hx).leaves (jz rfl (gr ?_)))))
   refine jm (α:=Nat×Option Addr) [3,39,40] rfl (fun z=>[(41,.int .i64 (z.1:Int))]) (fun z u=>(z.1≤x.leaves.length∧Wr u N z.2 (be 1 x.kind.toNat++be 1 x.leaves.length++(x.leaves.take z.1).flatMap Ay)∧∀y,jd z.2 y→w.heap.size≤y)∧Ext No w u) (fun z u=>x.leaves.length-z.1) (0,p) rfl ⟨⟨Nat.zero_le _,⟨_,by simpa using d,by simpa using f⟩,o⟩,j⟩ ?_
   rintro⟨i,p⟩ w9 ⟨⟨hi,⟨k,d,f⟩,o⟩,j⟩
   try dsimp only
   dsimp only at hi d f o
   refine je rfl (gk (jl rfl (fun Y=> ?_) (fun Y=> ?_)))
   ·have hi:i<x.leaves.length:=by omega
    obtain⟨qb,ap,hp,c1⟩:=hxl.leaves.qm (fun r hr=>jf.len (hx.leaves r hr).2) zo
    rw[hp]
    have a9:=hx.leaves _ (List.getElem_mem hi)
    have de:=R _ (List.getElem_mem hi)
    have b9:((x.leaves.take i).flatMap Ay).length≤(x.leaves.take i).length*100:=B0 fun r hr=>leafB_le (R r (List.mem_of_mem_take hr)) (hx.leaves r (List.mem_of_mem_take hr)).2
    rw[List.length_take,Nat.min_eq_left zo] at b9
    refine xz (gr (qa (ki rfl 33 rfl i rfl zo (ap+i*33) rfl (jr rfl ((c1 i hi).ga j) (jf.len a9.2) (gw rfl fun b5 fc df M aq=> ?_)))))
    have dg:=Nat.le_trans j.size df
    have d:=d.ga aq
    have f:=f.ext aq fun _ _=>id
    have j:=j.gb aq
    have bb:=M
    refine wl (j8 (l':=(x.leaves[i]).cells) gc M rfl rfl (jf.len a9.2) (jf.len a9.2) OneC.h fun dh M ar ej=> ?_)
    have d:=d.gj ar (d.ne bb zd)
    have f:=f.kc ar bb zd
    have j:=j.gh ar dg
    refine qr (qc rfl (jb M rfl rfl ?_))
    have D:=j
    refine gi call196 rfl (yz8 dh ⟨_,d,f⟩ (x.leaves[i]).path zh) fun fd fe ch=> ?_
    obtain⟨rfl,p,E,s,bc⟩:=ch
    have M:=M.keepW ⟨_,d,f⟩ bc zd zd
    have j:=Ext.thenW j bc K o
    have o:=zz7 D o s
    obtain⟨ff,d,f⟩:=E
    refine qr (yv rfl (jr rfl (by have:=M.ko.drop 1;exact this) (vh.len a9.2) ?_))
    have Z:vh (x.leaves[i]).id:=a9.2
    refine wl (qd gc rfl 32 rfl Ct.symm zj zd zd ⟨⟨by rw[ju];exact(vh.len a9.2),by decide⟩,trivial⟩ (l':=ge (x.leaves[i]).id) (one_id a9.2) fun ci di bd a0 ac ek=> ?_)
    have d4:=j5 M.lt bd
    have el:=Nat.le_trans j.size bd
    have M:=M.ga ac
    have d:=d.ga ac
    have f:=f.ext ac fun _ _=>id
    have j:=j.gb ac
    have D:=j
    refine gi call197 rfl (yv9 di ⟨_,d,f⟩ (q:=some ⟨ci,0,none⟩) (m:=[(x.leaves[i]).id]) ⟨by simp only[List.flatMap_cons,List.flatMap_nil,List.append_nil];exact Z.len,.inr ⟨ci,0,rfl,by simpa using a0.ko⟩⟩ (fun r hr=>by rw[List.mem_singleton.1 hr];exact Z) zh (by simp only[List.length_cons,List.length_nil];omega) (fun y c2 e _ F=>by cases e;exact F.elim (fun e=>d.ne a0 zd e.symm) fun h=>f.zx7 h a0 zd rfl)) fun fg fh cj=> ?_
    obtain⟨rfl,p,E,s,au⟩:=cj
    have M:=M.keepW ⟨_,d,f⟩ au zd zd
    have a0:=a0.keepW ⟨_,d,f⟩ au zd zd
    have j:=Ext.thenW j au K o
    have o:=zz7 D o s
    obtain⟨fi,d,f⟩:=E
    refine gm (Bo rfl ?_)
    rw[kg _ zo]
    refine gm ?_
    exact jn (i+1,p) rfl ⟨⟨hi,by have e:be 1 x.kind.toNat++be 1 x.leaves.length++(x.leaves.take (i+1)).flatMap Ay=be 1 x.kind.toNat++be 1 x.leaves.length++(x.leaves.take i).flatMap Ay++ue 1 (x.leaves[i]).path++[(x.leaves[i]).id].flatten:=(by rw[yv4 hi,Ay];simp);rw[e];exact⟨_,d,f⟩,o⟩,j⟩ zf
   have h0:i=x.leaves.length:=by omega
   subst h0
   rw[List.take_length] at d f
   refine yo ?_
   exact qy (qy (vf (jy (gz (p) rfl ⟨⟨by have e:laidB x=be 1 x.kind.toNat++be 1 x.leaves.length++x.leaves.flatMap Ay:=(by rw[laidB,if_neg h1,if_pos h2,treeB,List.append_assoc]);rw[e];exact⟨_,d,f⟩,o⟩,j⟩))))
  have h2:¬x.kind=2:=Y
  refine je rfl (jl rfl (fun Y=> ?_) (fun Y=> ?_))
  ·have h3:x.kind=3:=Y
   have hB:=(yv0 h3).1 hf
   obtain⟨cd,R⟩:=edit_at hB.2.2.2.1
   obtain⟨fj,dj⟩:=styled_at hB.2.2.2.2
   have fk:=hB.2.2.1
   have fl:=hx.tree
   have fm:=hx.base
   have fn:=zq6 (n:=32) hx.parents
   refine gk (js rfl 12 [qP 0,qP 1,qP 2,qP 3,qP 4,qP 5,qP 6,qP 7,(8,false),(9,false),qP 10,qP 11] [12] (jd p) zk fun dk a1 em=> ?_)
   have L:=g
   have B:=d
   have C:=f
   have b8:=j
   have g:=g.ga a1
   have d:=d.ga a1
   have f:=f.ext a1 fun _ _=>id
   have j:=j.gb a1
   have I:Ext (jd p) _ dk:=a1.no
   refine gv gc 4 rfl (j6 gc rfl rfl (fun w' t=>((B.ext (show Ext (jd p) _ w' from t) fun J=>C.zx7 J B zd rfl).cell rfl)) ?_)
   refine gv gc 1 rfl (j6 gc rfl rfl (fun w' t=>((L.ext (show Ext (jd p) _ w' from t) fun J=>C.zx7 J L zd rfl).ko.obj hx).style) ?_)
   refine gv gc 1 rfl ?_
   rw[zw9 dj]
   refine jg rfl (qd gc rfl 1 rfl rfl rfl zd zd zt (l':=ge [UInt8.ofNat x.style.toNat]) rfl fun dl fo bf ck S en=>⟨I.gb S,?_⟩)
   have d5:=j5 g.lt bf
   have eo:=Nat.le_trans j.size bf
   have g:=g.ga S
   have d:=d.ga S
   have f:=f.ext S fun _ _=>id
   have j:=j.gb S
   have I:=I.gb S
   have O:=j
   refine jg rfl (uh gc rfl 1 1 rfl rfl rfl zd f (Src.slice (m:=1) ⟨rfl,.inr ⟨dl,0,rfl,ck.ko⟩⟩ OneC.h) (by dsimp only[maxLen];simp only[jp];omega) (by dsimp only;simp only[jp];omega) fun dm dn dp bg T bh=>⟨I.then T,?_⟩)
   have I:=I.then T
   dsimp only at bg T bh⊢
   have g:=g.ke f T (show(5:Nat)≠37 from by decide)
   have j:=j.trans T fun y hy F=>by have:=o y F;omega
   have d:=d.ke f T (show(5:Nat)≠288 from by decide)
   have s:=zz7 O o bh
   have e3:(be 1 x.kind.toNat).length+1=(be 1 x.kind.toNat++be 1 x.style.toNat).length:=by simp only[List.length_append,jp]
   obtain⟨p,k,e1,e2,G⟩:∃p k,p=dm∧k=dn∧Own dp p (be 1 x.kind.toNat++be 1 x.style.toNat).length k 5 1 (ge (be 1 x.kind.toNat++be 1 x.style.toNat)):=⟨_,_,rfl,rfl,by
    rw[←e3,k8 (be 1 x.kind.toNat)]
    exact bg⟩
   rw[←e1] at s
   have o:=s
   rw[←e1,←e2,e3]
   refine gv gc 2 rfl (jj (wb rfl (xv gc d rfl rfl rfl fun fp H av ep=> ?_)))
   have f:=G.kc av d zd
   have g:=g.gj av (g.ne d zd)
   have j:=j.trans av fun y hy F=>by have F:y=N:=F;omega
   have d:=H
   refine ja (j1 (qc rfl (jr rfl (g.ko.obj hx).tree (vh.len hx.tree) ?_)))
   have Z:vh x.tree:=hx.tree
   refine wl (qd gc rfl 32 rfl Ct.symm zj zd zd ⟨⟨by rw[ju];exact(vh.len hx.tree),by decide⟩,trivial⟩ (l':=ge x.tree) (one_id hx.tree) fun cl dq bi a2 ad eq=> ?_)
   have d6:=j5 g.lt bi
   have er:=Nat.le_trans j.size bi
   have g:=g.ga ad
   have d:=d.ga ad
   have f:=f.ext ad fun _ _=>id
   have j:=j.gb ad
   have D:=j
   refine gi call197 rfl (yv9 dq ⟨_,d,f⟩ (q:=some ⟨cl,0,none⟩) (m:=[x.tree]) ⟨by simp only[List.flatMap_cons,List.flatMap_nil,List.append_nil];exact Z.len,.inr ⟨cl,0,rfl,by simpa using a2.ko⟩⟩ (fun r hr=>by rw[List.mem_singleton.1 hr];exact Z) zh (by simp only[List.length_cons,List.length_nil];omega) (fun y c2 e _ F=>by cases e;exact F.elim (fun e=>d.ne a2 zd e.symm) fun h=>f.zx7 h a2 zd rfl)) fun fq fr cm=> ?_
   obtain⟨rfl,p,E,s,aw⟩:=cm
   have g:=g.keepW ⟨_,d,f⟩ aw zd zd
   have a2:=a2.keepW ⟨_,d,f⟩ aw zd zd
   have j:=Ext.thenW j aw K o
   have o:=zz7 D o s
   obtain⟨fs,d,f⟩:=E
   refine qr (gk ?_)
   refine js rfl 13 [qP 0,qP 1,qP 2,qP 3,qP 4,qP 5,qP 6,qP 7,qP 8,(9,false),(10,false),qP 11,qP 12] [13] (jd p) zk fun dr a3 es=> ?_
   have L:=g
   have B:=d
   have C:=f
   have b8:=j
   have g:=g.ga a3
   have d:=d.ga a3
   have f:=f.ext a3 fun _ _=>id
   have j:=j.gb a3
   have I:Ext (jd p) _ dr:=a3.no
   refine gv gc 4 rfl (j6 gc rfl rfl (fun w' t=>((B.ext (show Ext (jd p) _ w' from t) fun J=>C.zx7 J B zd rfl).cell rfl)) ?_)
   refine gv gc 1 rfl (j6 gc rfl rfl (fun w' t=>((L.ext (show Ext (jd p) _ w' from t) fun J=>C.zx7 J L zd rfl).ko.obj hx).parents) ?_)
   refine gv gc 2 rfl ?_
   rw[xd]
   refine jg rfl (qd gc rfl 1 rfl rfl rfl zd zd zt (l':=ge [UInt8.ofNat x.parents.length]) rfl fun ds ft bj cn U et=>⟨I.gb U,?_⟩)
   have d7:=j5 g.lt bj
   have eu:=Nat.le_trans j.size bj
   have g:=g.ga U
   have d:=d.ga U
   have f:=f.ext U fun _ _=>id
   have j:=j.gb U
   have I:=I.gb U
   have O:=j
   refine jg rfl (uh gc rfl 1 1 rfl rfl rfl zd f (Src.slice (m:=1) ⟨rfl,.inr ⟨ds,0,rfl,cn.ko⟩⟩ OneC.h) (by dsimp only[maxLen];simp only[List.length_append,jp,List.length_nil,List.flatten_cons,List.flatten_nil];omega) (by dsimp only;simp only[List.length_append,jp,List.length_nil,List.flatten_cons,List.flatten_nil];omega) fun dt du dv bk V bm=>⟨I.then V,?_⟩)
   have I:=I.then V
   dsimp only at bk V bm⊢
   have g:=g.ke f V (show(5:Nat)≠37 from by decide)
   have j:=j.trans V fun y hy F=>by have:=o y F;omega
   have d:=d.ke f V (show(5:Nat)≠288 from by decide)
   have s:=zz7 O o bm
   have e3:(be 1 x.kind.toNat++be 1 x.style.toNat++[x.tree].flatten).length+1=(be 1 x.kind.toNat++be 1 x.style.toNat++[x.tree].flatten++be 1 x.parents.length).length:=by simp only[List.length_append,jp]
   obtain⟨p,k,e1,e2,G⟩:∃p k,p=dt∧k=du∧Own dv p (be 1 x.kind.toNat++be 1 x.style.toNat++[x.tree].flatten++be 1 x.parents.length).length k 5 1 (ge (be 1 x.kind.toNat++be 1 x.style.toNat++[x.tree].flatten++be 1 x.parents.length)):=⟨_,_,rfl,rfl,by
    rw[←e3,k8 (be 1 x.kind.toNat++be 1 x.style.toNat++[x.tree].flatten)]
    exact bk⟩
   rw[←e1] at s
   have o:=s
   rw[←e1,←e2,e3]
   refine gv gc 2 rfl (jj (wb rfl (xv gc d rfl rfl rfl fun dw H ax ev=> ?_)))
   have f:=G.kc ax d zd
   have g:=g.gj ax (g.ne d zd)
   have j:=j.trans ax fun y hy F=>by have F:y=N:=F;omega
   have d:=H
   refine ja (j1 (qc rfl (gy rfl (g.ko.obj hx).parents ?_)))
   have D:=j
   refine gi call197 rfl (yv9 dw ⟨_,d,f⟩ (hxl.parents.ga j) hx.parents zh zo (fun y c2 e dx F=>by have fu:=hxl.parents.lt e (flat_ne hx.parents dx);exact F.elim (fun e=>by omega) fun h=>by have:=o y h;omega)) fun fv fw co=> ?_
   obtain⟨rfl,p,E,s,bn⟩:=co
   have g:=g.keepW ⟨_,d,f⟩ bn zd zd
   have j:=Ext.thenW j bn K o
   have o:=zz7 D o s
   obtain⟨fx,d,f⟩:=E
   refine qr (qc rfl (jr rfl (g.ko.obj hx).base (vh.len hx.base) ?_))
   have Z:vh x.base:=hx.base
   refine wl (qd gc rfl 32 rfl Ct.symm zj zd zd ⟨⟨by rw[ju];exact(vh.len hx.base),by decide⟩,trivial⟩ (l':=ge x.base) (one_id hx.base) fun cp dy bo a4 ae ew=> ?_)
   have d8:=j5 g.lt bo
   have ex:=Nat.le_trans j.size bo
   have g:=g.ga ae
   have d:=d.ga ae
   have f:=f.ext ae fun _ _=>id
   have j:=j.gb ae
   have D:=j
   refine gi call197 rfl (yv9 dy ⟨_,d,f⟩ (q:=some ⟨cp,0,none⟩) (m:=[x.base]) ⟨by simp only[List.flatMap_cons,List.flatMap_nil,List.append_nil];exact Z.len,.inr ⟨cp,0,rfl,by simpa using a4.ko⟩⟩ (fun r hr=>by rw[List.mem_singleton.1 hr];exact Z) zh (by simp only[List.length_cons,List.length_nil];omega) (fun y c2 e _ F=>by cases e;exact F.elim (fun e=>d.ne a4 zd e.symm) fun h=>f.zx7 h a4 zd rfl)) fun fy fz cq=> ?_
   obtain⟨rfl,p,E,s,ay⟩:=cq
   have g:=g.keepW ⟨_,d,f⟩ ay zd zd
   have a4:=a4.keepW ⟨_,d,f⟩ ay zd zd
   have j:=Ext.thenW j ay K o
   have o:=zz7 D o s
   obtain⟨g0,d,f⟩:=E
   refine qr (gk ?_)
   refine js rfl 14 [qP 0,qP 1,qP 2,qP 3,qP 4,qP 5,qP 6,qP 7,qP 8,qP 9,(10,false),(11,false),qP 12,qP 13] [14] (jd p) zk fun dz a5 ey=> ?_
   have L:=g
   have B:=d
   have C:=f
   have b8:=j
   have g:=g.ga a5
   have d:=d.ga a5
   have f:=f.ext a5 fun _ _=>id
   have j:=j.gb a5
   have I:Ext (jd p) _ dz:=a5.no
   refine gv gc 4 rfl (j6 gc rfl rfl (fun w' t=>((B.ext (show Ext (jd p) _ w' from t) fun J=>C.zx7 J B zd rfl).cell rfl)) ?_)
   refine gv gc 2 rfl (j6 gc rfl rfl (fun w' t=>((L.ext (show Ext (jd p) _ w' from t) fun J=>C.zx7 J L zd rfl).ko.obj hx).rows) ?_)
   refine gv gc 2 rfl ?_
   rw[xd]
   refine jg rfl (qd gc rfl 1 rfl rfl rfl zd zd zt (l':=ge [UInt8.ofNat x.rows.length]) rfl fun cr g1 az c3 W ez=>⟨I.gb W,?_⟩)
   have cs:=j5 g.lt az
   have e0:=Nat.le_trans j.size az
   have g:=g.ga W
   have d:=d.ga W
   have f:=f.ext W fun _ _=>id
   have j:=j.gb W
   have I:=I.gb W
   have O:=j
   refine jg rfl (uh gc rfl 1 1 rfl rfl rfl zd f (Src.slice (m:=1) ⟨rfl,.inr ⟨cr,0,rfl,c3.ko⟩⟩ OneC.h) (by dsimp only[maxLen];simp only[List.length_append,jp,List.length_nil,List.flatten_cons,List.flatten_nil];omega) (by dsimp only;simp only[List.length_append,jp,List.length_nil,List.flatten_cons,List.flatten_nil];omega) fun e4 e5 e6 bq X br=>⟨I.then X,?_⟩)
   have I:=I.then X
   dsimp only at bq X br⊢
   have g:=g.ke f X (show(5:Nat)≠37 from by decide)
   have j:=j.trans X fun y hy F=>by have:=o y F;omega
   have d:=d.ke f X (show(5:Nat)≠288 from by decide)
   have s:=zz7 O o br
   have e3:(be 1 x.kind.toNat++be 1 x.style.toNat++[x.tree].flatten++be 1 x.parents.length++x.parents.flatten++[x.base].flatten).length+1=(be 1 x.kind.toNat++be 1 x.style.toNat++[x.tree].flatten++be 1 x.parents.length++x.parents.flatten++[x.base].flatten++be 1 x.rows.length).length:=by simp only[List.length_append,jp]
   obtain⟨p,k,e1,e2,G⟩:∃p k,p=e4∧k=e5∧Own e6 p (be 1 x.kind.toNat++be 1 x.style.toNat++[x.tree].flatten++be 1 x.parents.length++x.parents.flatten++[x.base].flatten++be 1 x.rows.length).length k 5 1 (ge (be 1 x.kind.toNat++be 1 x.style.toNat++[x.tree].flatten++be 1 x.parents.length++x.parents.flatten++[x.base].flatten++be 1 x.rows.length)):=⟨_,_,rfl,rfl,by
    rw[←e3,k8 (be 1 x.kind.toNat++be 1 x.style.toNat++[x.tree].flatten++be 1 x.parents.length++x.parents.flatten++[x.base].flatten)]
    exact bq⟩
   rw[←e1] at s
   have o:=s
   rw[←e1,←e2,e3]
   refine gv gc 2 rfl (jj (wb rfl (xv gc d rfl rfl rfl fun g2 H b0 f0=> ?_)))
   have f:=G.kc b0 d zd
   have g:=g.gj b0 (g.ne d zd)
   have j:=j.trans b0 fun y hy F=>by have F:y=N:=F;omega
   have d:=H
   refine ja (j1 (gk (qc rfl (gy rfl (g.ko.obj hx).rows (jz rfl (gr ?_))))))
   refine jm (α:=Nat×Option Addr) [1,3,112,113] rfl (fun z=>[(114,.int .i64 (z.1:Int))]) (fun z u=>(z.1≤x.rows.length∧Wr u N z.2 (be 1 x.kind.toNat++be 1 x.style.toNat++[x.tree].flatten++be 1 x.parents.length++x.parents.flatten++[x.base].flatten++be 1 x.rows.length++(x.rows.take z.1).flatMap xw)∧∀y,jd z.2 y→w.heap.size≤y)∧j0 u b1 37 (jw x a)∧Ext No w u) (fun z u=>x.rows.length-z.1) (0,p) rfl ⟨⟨Nat.zero_le _,⟨_,by simpa using d,by simpa using f⟩,o⟩,g,j⟩ ?_
   rintro⟨i,p⟩ g3 ⟨⟨hi,⟨k,d,f⟩,o⟩,g,j⟩
   try dsimp only
   dsimp only at hi d f o
   refine je rfl (gk (jl rfl (fun Y=> ?_) (fun Y=> ?_)))
   ·have hi:i<x.rows.length:=by omega
    obtain⟨qb,ap,hp,c1⟩:=hxl.rows.qm (fun r _=>r.len) zo
    rw[hp]
    have de:=R _ (List.getElem_mem hi)
    have b9:((x.rows.take i).flatMap xw).length≤(x.rows.take i).length*400:=B0 fun r hr=>chgB_le (R r (List.mem_of_mem_take hr))
    rw[List.length_take,Nat.min_eq_left zo] at b9
    refine xz (gr (qa (ki rfl 3 rfl i rfl zo (ap+i*3) rfl (jr rfl ((c1 i hi).ga j) rfl (gw rfl fun b7 g4 ct A af=> ?_)))))
    have c4:=j5 g.lt ct
    have e7:=Nat.le_trans j.size ct
    have g:=g.ga af
    have d:=d.ga af
    have f:=f.ext af fun _ _=>id
    have j:=j.gb af
    have bs:=A
    refine wl (j8 (l':=(x.rows[i]).cells) gc A rfl rfl rfl rfl OneC.h fun e8 A ag f1=> ?_)
    have g:=g.gj ag c4
    have d:=d.gj ag (d.ne bs zd)
    have f:=f.kc ag bs zd
    have j:=j.gh ag e7
    refine qr (qc rfl (jb A rfl rfl ?_))
    have D:=j
    refine gi call196 rfl (yz8 e8 ⟨_,d,f⟩ (x.rows[i]).path zh) fun g5 g6 cu=> ?_
    obtain⟨rfl,p,E,s,b2⟩:=cu
    have g:=g.keepW ⟨_,d,f⟩ b2 zd zd
    have A:=A.keepW ⟨_,d,f⟩ b2 zd zd
    have j:=Ext.thenW j b2 K o
    have o:=zz7 D o s
    obtain⟨g7,d,f⟩:=E
    refine qr (je rfl ?_)
    refine jv (α:=UInt8) [1,3,7,112,113,114] rfl (fun z=>[(8,.int .u8 (z.toNat:Int))]) (fun z u=>(z=isB (x.rows[i]).is∧Wr u N p (be 1 x.kind.toNat++be 1 x.style.toNat++[x.tree].flatten++be 1 x.parents.length++x.parents.flatten++[x.base].flatten++be 1 x.rows.length++(x.rows.take i).flatMap xw++ue 1 (x.rows[i]).path))∧j0 u b1 37 (jw x a)∧j0 u b7 150 ((x.rows[i]).cells)∧Ext No w u) ?_ ?_
    ·refine gk ?_
     refine yv rfl (jb A rfl rfl (qr (vj rfl (fun Y=> ?_) (fun Y=> ?_))))
     ·have c5:isB (x.rows[i]).is=1:=by rw[isB,Y];rfl
      refine yv rfl (gm ?_)
      exact gz (1) rfl ⟨⟨c5.symm,⟨_,d,f⟩⟩,g,A,j⟩
     have c5:isB (x.rows[i]).is=0:=by rw[isB,Y];rfl
     refine j7 ?_
     exact gz (0) rfl ⟨⟨c5.symm,⟨_,d,f⟩⟩,g,A,j⟩
    rintro z g8 ⟨⟨rfl,⟨k,d,f⟩⟩,g,A,j⟩
    refine qc rfl (gy rfl (d.cell rfl) (j9 gc rfl ?_))
    refine wl (qd gc rfl 1 rfl rfl rfl zd zd zt (l':=ge [isB (x.rows[i]).is]) rfl fun cv g9 aa c6 a6 f2=> ?_)
    have cw:=j5 g.lt aa
    have cx:=j5 A.lt aa
    have e9:=Nat.le_trans j.size aa
    have g:=g.ga a6
    have A:=A.ga a6
    have d:=d.ga a6
    have f:=f.ext a6 fun _ _=>id
    have j:=j.gb a6
    have O:=j
    refine wl (uh gc rfl 1 1 rfl rfl rfl zd f (Src.slice (m:=1) ⟨rfl,.inr ⟨cv,0,rfl,c6.ko⟩⟩ OneC.h) (by dsimp only[maxLen];simp only[List.length_append,jp,kw,List.length_nil,List.flatten_cons,List.flatten_nil];omega) (by dsimp only;simp only[List.length_append,jp,kw,List.length_nil,List.flatten_cons,List.flatten_nil];omega) fun ea eb ec bt a7 bu=> ?_)
    dsimp only at bt a7 bu⊢
    have g:=g.ke f a7 (show(5:Nat)≠37 from by decide)
    have A:=A.ke f a7 (show(5:Nat)≠150 from by decide)
    have j:=j.trans a7 fun y hy F=>by have:=o y F;omega
    have d:=d.ke f a7 (show(5:Nat)≠288 from by decide)
    have s:=zz7 O o bu
    have e3:(be 1 x.kind.toNat++be 1 x.style.toNat++[x.tree].flatten++be 1 x.parents.length++x.parents.flatten++[x.base].flatten++be 1 x.rows.length++(x.rows.take i).flatMap xw++ue 1 (x.rows[i]).path).length+1=(be 1 x.kind.toNat++be 1 x.style.toNat++[x.tree].flatten++be 1 x.parents.length++x.parents.flatten++[x.base].flatten++be 1 x.rows.length++(x.rows.take i).flatMap xw++ue 1 (x.rows[i]).path++[isB (x.rows[i]).is]).length:=by simp only[List.length_append,jp,List.length_cons,List.length_nil]
    obtain⟨p,k,e1,e2,G⟩:∃p k,p=ea∧k=eb∧Own ec p (be 1 x.kind.toNat++be 1 x.style.toNat++[x.tree].flatten++be 1 x.parents.length++x.parents.flatten++[x.base].flatten++be 1 x.rows.length++(x.rows.take i).flatMap xw++ue 1 (x.rows[i]).path++[isB (x.rows[i]).is]).length k 5 1 (ge (be 1 x.kind.toNat++be 1 x.style.toNat++[x.tree].flatten++be 1 x.parents.length++x.parents.flatten++[x.base].flatten++be 1 x.rows.length++(x.rows.take i).flatMap xw++ue 1 (x.rows[i]).path++[isB (x.rows[i]).is])):=⟨_,_,rfl,rfl,by
     rw[←e3,k8 (be 1 x.kind.toNat++be 1 x.style.toNat++[x.tree].flatten++be 1 x.parents.length++x.parents.flatten++[x.base].flatten++be 1 x.rows.length++(x.rows.take i).flatMap xw++ue 1 (x.rows[i]).path)]
     exact bt⟩
    rw[←e1] at s
    have o:=s
    rw[←e1,←e2,e3]
    refine j9 gc rfl (ky d rfl rfl rfl fun ed H ah f3=> ?_)
    have f:=G.kc ah d zd
    have g:=g.gj ah (g.ne d zd)
    have A:=A.gj ah (A.ne d zd)
    have j:=j.trans ah fun y hy F=>by have F:y=N:=F;omega
    have d:=H
    refine qr (yv rfl (jb A rfl rfl ?_))
    have D:=j
    refine gi call195 rfl (text_calls ed ⟨_,d,f⟩ (x.rows[i]).text zh zo) fun gd gf cy=> ?_
    obtain⟨rfl,p,E,s,b3⟩:=cy
    have g:=g.keepW ⟨_,d,f⟩ b3 zd zd
    have A:=A.keepW ⟨_,d,f⟩ b3 zd zd
    have j:=Ext.thenW j b3 K o
    have o:=zz7 D o s
    obtain⟨gg,d,f⟩:=E
    refine gm (Bo rfl ?_)
    rw[kg _ zo]
    refine gm ?_
    exact jn (i+1,p) rfl ⟨⟨hi,by have e:be 1 x.kind.toNat++be 1 x.style.toNat++[x.tree].flatten++be 1 x.parents.length++x.parents.flatten++[x.base].flatten++be 1 x.rows.length++(x.rows.take (i+1)).flatMap xw=be 1 x.kind.toNat++be 1 x.style.toNat++[x.tree].flatten++be 1 x.parents.length++x.parents.flatten++[x.base].flatten++be 1 x.rows.length++(x.rows.take i).flatMap xw++ue 1 (x.rows[i]).path++[isB (x.rows[i]).is]++ue 2 (x.rows[i]).text:=(by rw[yv4 hi,xw];simp);rw[e];exact⟨_,d,f⟩,o⟩,g,j⟩ zf
   have h0:i=x.rows.length:=by omega
   subst h0
   rw[List.take_length] at d f
   have b9:(x.rows.flatMap xw).length≤x.rows.length*400:=B0 fun r hr=>chgB_le (R r hr)
   refine Bi (gk ?_)
   refine js rfl 13 [qP 0,qP 1,qP 2,qP 3,qP 4,qP 5,qP 6,qP 8,qP 9,(7,false),(10,false),qP 11,qP 12] [13] (No) zk fun cz a8 f4=> ?_
   have L:=g
   have B:=d
   have C:=f
   have b8:=j
   have g:=g.ga a8
   have d:=d.ga a8
   have f:=f.ext a8 fun _ _=>id
   have j:=j.gb a8
   have I:Ext (No) _ cz:=a8.no
   refine gv gc 4 rfl (j6 gc rfl rfl (fun w' t=>((B.ga t).cell rfl)) ?_)
   refine gv gc 1 rfl (j6 gc rfl rfl (fun w' t=>((L.ga t).ko.obj hx).number) ?_)
   refine gv gc 1 rfl (j6 gc rfl rfl (fun w' t=>((L.ga t).ko.obj hx).author) ?_)
   refine jg rfl (j3 call179 rfl (yk cz f.sl zh x.number hx.number) fun go ee bv=>⟨(by obtain⟨bp,rfl,c8,b4,P⟩:=bv;exact I.gb P),?_⟩)
   obtain⟨bp,rfl,c8,b4,P⟩:=bv
   have g:=g.ga P
   have d:=d.ga P
   have f:=f.ext P fun _ _=>id
   have j:=j.gb P
   have I:=I.gb P
   have O:=j
   refine jg rfl (j3 call179 rfl (yk ee (l:=be 1 x.kind.toNat++be 1 x.style.toNat++[x.tree].flatten++be 1 x.parents.length++x.parents.flatten++[x.base].flatten++be 1 x.rows.length++x.rows.flatMap xw++be 4 x.number) (p:=some ⟨bp,0,none⟩) ⟨by rw[gl,Nat.mul_one],.inr ⟨bp,0,rfl,b4.ko⟩⟩ zh x.author hx.author) fun gs ef bw=>⟨(by obtain⟨bp,rfl,c8,b4,Q⟩:=bw;exact I.gb Q),?_⟩)
   obtain⟨bp,rfl,c8,b4,Q⟩:=bw
   have g:=g.ga Q
   have d:=d.ga Q
   have f:=f.ext Q fun _ _=>id
   have j:=j.gb Q
   have I:=I.gb Q
   obtain⟨p,k,hp,hk,G⟩:∃p k,p=some ⟨bp,0,none⟩∧k=(be 1 x.kind.toNat++be 1 x.style.toNat++[x.tree].flatten++be 1 x.parents.length++x.parents.flatten++[x.base].flatten++be 1 x.rows.length++x.rows.flatMap xw++be 4 x.number++be 4 x.author).length∧Own ef p (be 1 x.kind.toNat++be 1 x.style.toNat++[x.tree].flatten++be 1 x.parents.length++x.parents.flatten++[x.base].flatten++be 1 x.rows.length++x.rows.flatMap xw++be 4 x.number++be 4 x.author).length k 5 1 (ge (be 1 x.kind.toNat++be 1 x.style.toNat++[x.tree].flatten++be 1 x.parents.length++x.parents.flatten++[x.base].flatten++be 1 x.rows.length++x.rows.flatMap xw++be 4 x.number++be 4 x.author)):=⟨_,_,rfl,rfl,by
    have:=Own.blk (n:=(be 1 x.kind.toNat++be 1 x.style.toNat++[x.tree].flatten++be 1 x.parents.length++x.parents.flatten++[x.base].flatten++be 1 x.rows.length++x.rows.flatMap xw++be 4 x.number++be 4 x.author).length) (c:=(be 1 x.kind.toNat++be 1 x.style.toNat++[x.tree].flatten++be 1 x.parents.length++x.parents.flatten++[x.base].flatten++be 1 x.rows.length++x.rows.flatMap xw++be 4 x.number++be 4 x.author).length) b4 1 (by rw[gl,Nat.mul_one]) (Nat.le_refl _) (by dsimp only[maxLen];simp only[List.length_append,jp,List.length_nil,List.flatten_cons,List.flatten_nil];omega)
    rw[List.take_of_length_le (by rw[gl,Nat.mul_one];exact Nat.le_refl _)] at this
    exact this⟩
   have o:∀y,jd p y→w.heap.size≤y:=fun y hy=>by rw[hp] at hy;have e:bp=y:=congrArg Addr.block (Option.some.inj hy);have:=O.size;omega
   rw[←hp]
   rw[show Value.slice p (be 1 x.kind.toNat++be 1 x.style.toNat++[x.tree].flatten++be 1 x.parents.length++x.parents.flatten++[x.base].flatten++be 1 x.rows.length++x.rows.flatMap xw++be 4 x.number++be 4 x.author).length (be 1 x.kind.toNat++be 1 x.style.toNat++[x.tree].flatten++be 1 x.parents.length++x.parents.flatten++[x.base].flatten++be 1 x.rows.length++x.rows.flatMap xw++be 4 x.number++be 4 x.author).length= .slice p (be 1 x.kind.toNat++be 1 x.style.toNat++[x.tree].flatten++be 1 x.parents.length++x.parents.flatten++[x.base].flatten++be 1 x.rows.length++x.rows.flatMap xw++be 4 x.number++be 4 x.author).length k from by rw[hk]]
   refine gv gc 2 rfl (jj (wb rfl (xv gc d rfl rfl rfl fun eg H b6 f5=> ?_)))
   have f:=G.kc b6 d zd
   have g:=g.gj b6 (g.ne d zd)
   have j:=j.trans b6 fun y hy F=>by have F:y=N:=F;omega
   have d:=H
   refine ja (j1 (yv rfl (gy rfl (g.ko.obj hx).note ?_)))
   have D:=j
   refine gi call196 rfl (yz8 eg ⟨_,d,f⟩ x.note zh) fun h4 h5 d0=> ?_
   obtain⟨rfl,p,E,s,bx⟩:=d0
   have g:=g.keepW ⟨_,d,f⟩ bx zd zd
   have j:=Ext.thenW j bx K o
   have o:=zz7 D o s
   obtain⟨h6,d,f⟩:=E
   refine gm ?_
   exact jy (gz (p) rfl ⟨⟨by have e:laidB x=be 1 x.kind.toNat++be 1 x.style.toNat++[x.tree].flatten++be 1 x.parents.length++x.parents.flatten++[x.base].flatten++be 1 x.rows.length++x.rows.flatMap xw++be 4 x.number++be 4 x.author++ue 1 x.note:=(by rw[laidB,if_neg h1,if_neg h2,comB];simp only[List.append_assoc,List.flatten_cons,List.flatten_nil,List.append_nil]);rw[e];exact⟨_,d,f⟩,o⟩,j⟩)
  exact absurd hf (fields0 h1 h2 Y)
 rintro p h7 ⟨⟨⟨k,d,f⟩,o⟩,j⟩
 refine qc rfl (gy rfl (d.cell rfl) (jz rfl (gq (gu rfl rfl ?_))))
 exact⟨p,k,rfl,f,o,j⟩
abbrev objE (x:jk):Int:=if xy x then 0 else 160
def encB (x:jk):List UInt8:=if xy x then laidB x else []
def idB (x:jk):List UInt8:=if xy x then Ao x else Dh
theorem yw8 {n:Nat}:∀b,jd none b→n≤b:=fun _ h=>by cases h
def xx4 (x:jk):List (List UInt8):=if xy x then qx x else []
theorem D7 (w:World) {x:jk} {a:vd} (hx:qv x) (hxl:Bh w x a) (hsx:Bp x):
  gn prog 134 [.agg (jw x a).toArray] w fun v w'=>v= .int .i64 (objE x)∧Ext No w w':=by
 refine gx func134 ?_
 have b:=Ext.refl No w
 refine qa (gw rfl fun o n p c f=> ?_)
 have b:=b.gb f
 have c:j0 n o 37 (jw x a):=c
 refine jz rfl (gk (jv (α:=Bool) [] rfl (fun z=>[(11,.bool z)]) (fun z u=>(z=decide (¬xy x))∧Ext No w u) ?_ ?_))
 ·refine j4 ?_
  refine jh c rfl (gt hx) (gi call185 rfl (fielded_calls n hx (hxl.ga b) hsx) fun A r g=> ?_)
  obtain⟨rfl,d⟩:=g
  have c:=c.ga d
  have b:=b.gb d
  refine j9 gc rfl (vb 6 rfl (fun i=> ?_) (fun i=> ?_))
  ·have e:¬yc x:=by simpa using i
   refine j2 gc 5 rfl (gm ?_)
   exact gz (true) rfl ⟨by symm;rw[decide_eq_true_eq];exact fun h=>e h.1,b⟩
  have e:yc x:=by simpa using i
  refine jh c rfl (gt hx) (gi call159 rfl (laid_calls r hx (hxl.ga b) e) fun B C j=> ?_)
  obtain⟨q,k,rfl,D,s,l⟩:=j
  have b:=b.gb l
  refine j2 gc 3 rfl (gm ?_)
  exact gz (_) rfl ⟨by rw[decide_eq_decide];exact⟨fun h t=>by have:=t.2;omega,fun h=>by have:¬(laidB x).length≤800:=fun y=>h ⟨e,y⟩;omega⟩,b⟩
 rintro z E ⟨rfl,b⟩
 refine jl rfl (fun m=> ?_) (fun m=> ?_)
 ·refine gk ?_
  refine j4 (jz rfl (gq (gp (gu rfl rfl ?_))))
  exact⟨by rw[objE,if_neg m],b⟩
 refine j7 ?_
 refine j1 (je rfl (gq (gu rfl rfl ?_)))
 exact⟨by rw[objE,if_pos (Decidable.not_not.1 m)],b⟩
theorem zw2 (w:World) {x:jk} {a:vd} (hx:qv x) (hxl:Bh w x a) (hsx:Bp x):
  gn prog 92 [.agg (jw x a).toArray] w fun v w'=>∃q k,v= .tuple #[.slice q (encB x).length k,.int .i64 (objE x)]∧Own w' q (encB x).length k 5 1 (ge (encB x))∧(∀b,jd q b→w.heap.size≤b)∧Ext No w w':=by
 refine gx func92 ?_
 have d:=Ext.refl No w
 refine qa (gw rfl fun r p s c g=> ?_)
 have d:=d.gb g
 have c:j0 p r 37 (jw x a):=c
 refine jz rfl (gk (qa (jh c rfl (gt hx) (gi call134 rfl (D7 p hx (hxl.ga d) hsx) fun y t i=> ?_))))
 obtain⟨rfl,f⟩:=i
 have c:=c.ga f
 have d:=d.gb f
 refine jz rfl (je rfl (jl rfl (fun j=> ?_) (fun j=> ?_)))
 ·have e:¬xy x:=fun h=>j (if_pos h)
  refine je rfl (gq (gp (qz [_,_] ⟨rfl,rfl,trivial⟩ ?_)))
  exact⟨none,0,by rw[encB,if_neg e];rfl,by rw[encB,if_neg e];exact Own.nil _ _ _,yw8,d⟩
 have e:xy x:=(zq5 zd).1 (Decidable.not_not.1 j)
 refine j7 (j1 (qa (jh c rfl (gt hx) ?_)))
 have l:=d
 refine gi call159 rfl (laid_calls t hx (hxl.ga d) e.1) fun z A m=> ?_
 obtain⟨q,k,rfl,u,n,o⟩:=m
 have d:=d.gb o
 refine jz rfl (gq (qz [_,_] ⟨rfl,rfl,trivial⟩ ?_))
 exact⟨q,k,by rw[encB,if_pos e,objE,if_pos e];rfl,by rw[encB,if_pos e];exact u,fun b h=>Nat.le_trans l.size (n b h),d⟩
theorem idObj_calls (w:World) {x:jk} {a:vd} (hx:qv x) (hxl:Bh w x a) (hsx:Bp x) (hr:Seg w 0 0 (jq ql)):
  gn prog 129 [.agg (jw x a).toArray] w fun v w'=>v= .tuple #[.agg (ge (idB x)).toArray,.int .i64 (objE x)]∧Ext No w w':=by
 refine gx func129 ?_
 have c:=Ext.refl No w
 refine qa (gw rfl fun y z A d l=> ?_)
 have c:=c.gb l
 have d:j0 z y 37 (jw x a):=d
 refine gw rfl fun t B m b f=> ?_
 have g:=Nat.le_trans c.size m
 have d:=d.ga f
 have c:=c.gb f
 refine jz rfl (qa (jh d rfl (gt hx) (gi call92 rfl (zw2 B hx (hxl.ga c) hsx) fun I C n=> ?_)))
 obtain⟨q,k,rfl,u,D,i⟩:=n
 have b:=b.ga i
 have c:=c.gb i
 refine jz rfl (gk (je rfl (jl rfl (fun o=> ?_) (fun o=> ?_))))
 ·have e:¬xy x:=fun h=>o (if_pos h)
  refine qa (qg rfl trivial (l':=ge Dh) Ct.symm (j9 gc rfl (wl (j8 (l':=ge Dh) gc b rfl rfl rfl rfl OneC.h fun J b p E=> ?_))))
  have c:=c.gh p g
  refine jz rfl (gq (gp (qz [_,_] ⟨⟨t,0,rfl,u0 gc rfl rfl b.ko rfl⟩,rfl,trivial⟩ ?_)))
  exact⟨by rw[idB,if_neg e];rfl,c⟩
 have e:xy x:=(zq5 zd).1 (Decidable.not_not.1 o)
 have F:=e.2
 have G:encB x=laidB x:=if_pos e
 rw[G] at u⊢
 refine j7 (j1 (qc rfl (gi call181 rfl (sum_calls C u.sl zo (hr.ga c)) fun K L r=> ?_)))
 obtain⟨rfl,j⟩:=r
 have b:=b.ga j
 have c:=c.gb j
 refine wl (j8 (l':=ge (sumW (laidB x))) gc b rfl rfl (by rw[gl,Bq]) (by rw[gl,Bq];rfl) OneC.h fun M b s H=> ?_)
 have c:=c.gh s g
 refine jz rfl (gq (qz [_,_] ⟨⟨t,0,rfl,u0 gc rfl rfl b.ko (by rw[gl,Bq];rfl)⟩,rfl,trivial⟩ ?_))
 exact⟨by rw[idB,if_pos e,objE,if_pos e];rfl,c⟩
theorem one_idS {w:World} {b:Nat} {r:List UInt8} (h:vh r) (hb:j0 w b 30 (ge r)):Sl w (some ⟨b,0,none⟩) 1 32 (ge r):=⟨h.len,.inr ⟨b,0,rfl,hb.ko⟩⟩
theorem links_calls (w:World) {x:jk} {a:vd} (hx:qv x) (hxl:Bh w x a) (hsx:Bp x):
  gn prog 55 [.agg (jw x a).toArray] w fun v w'=>∃q k,v= .slice q (xx4 x).length k∧Own w' q (xx4 x).length k 30 32 ((xx4 x).flatMap ge)∧(∀b,jd q b→w.heap.size≤b)∧Ext No w w':=by
 refine gx func55 ?_
 have c:=Ext.refl No w
 refine qa (gw rfl fun b1 w1 H d a0=> ?_)
 have c:=c.gb a0
 have d:j0 w1 b1 37 (jw x a):=d
 refine jz rfl (gk (qa (jh d rfl (gt hx) (gi call134 rfl (D7 w1 hx (hxl.ga c) hsx) fun v2 w2 a1=> ?_))))
 obtain⟨rfl,N⟩:=a1
 have d:=d.ga N
 have c:=c.gb N
 refine jz rfl (jl rfl (fun l=> ?_) (fun l=> ?_))
 ·have hk:¬xy x:=fun h=>l (if_pos h)
  refine je rfl (gq (gp (gu rfl rfl ?_)))
  exact⟨none,0,by rw[xx4,if_neg hk];rfl,by rw[xx4,if_neg hk];exact Own.nil _ _ _,yw8,c⟩
 have hk:xy x:=(zq5 zd).1 (Decidable.not_not.1 l)
 have he:xx4 x=qx x:=if_pos hk
 refine j7 (j1 (je rfl ?_))
 refine jv (α:=Option Addr×Nat) [] rfl (fun z=>[(3,.slice z.1 (qx x).length z.2)]) (fun z u=>(Own u z.1 (qx x).length z.2 30 32 ((qx x).flatMap ge)∧∀b,jd z.1 b→w.heap.size≤b)∧Ext No w u) ?_ ?_
 ·refine gk ?_
  refine yv rfl (gy rfl (d.ko.obj hx).kind (qr (gr (je rfl (jl rfl (fun l=> ?_) (fun l=> ?_))))))
  ·have h2:x.kind=2:=l
   refine qc rfl (gy rfl (d.ko.obj hx).leaves (jz rfl (gr ?_)))
   refine jm (α:=Nat×Option Addr×Nat) [14,15] rfl (fun z=>[(3,.slice z.2.1 z.1 z.2.2),(16,.int .i64 (z.1:Int))]) (fun z u=>(z.1≤x.leaves.length∧Own u z.2.1 z.1 z.2.2 30 32 (((x.leaves.take z.1).map jf.id).flatMap ge)∧(∀y,jd z.2.1 y→w.heap.size≤y))∧Ext No w u) (fun z u=>x.leaves.length-z.1) (0,none,0) rfl ⟨⟨Nat.zero_le _,Own.nil _ _ _,yw8⟩,c⟩ ?_
   rintro⟨i,q,k⟩ w3 ⟨⟨M,n,f⟩,c⟩
   try dsimp only
   dsimp only at M n f
   refine je rfl (gk (jl rfl (fun l=> ?_) (fun l=> ?_)))
   ·have M:i<x.leaves.length:=by omega
    obtain⟨qb,O,hp,a2⟩:=hxl.leaves.qm (fun r hr=>jf.len (hx.leaves r hr).2) zo
    rw[hp]
    have af:=hsx.leaves
    have g:=hx.leaves _ (List.getElem_mem M)
    refine xz (gr (qa (ki rfl 33 rfl i rfl zo (O+i*33) rfl (jr rfl ((a2 i M).ga c) (jf.len g.2) (gw rfl fun b5 w4 a3 B P=> ?_)))))
    have a4:=Nat.le_trans c.size a3
    have n:=n.ext P fun _ _=>id
    have c:=c.gb P
    have Q:=B
    refine wl (j8 (l':=(x.leaves[i]).cells) gc B rfl rfl (jf.len g.2) (jf.len g.2) OneC.h fun w5 B R ag=> ?_)
    have n:=n.kc R Q zd
    have c:=c.gh R a4
    refine qr (yv rfl (jr rfl (by have:=B.ko.drop 1;exact this) (vh.len g.2) ?_))
    have I:vh (x.leaves[i]).id:=g.2
    refine wl (qd gc rfl 32 rfl Ct.symm zj zd zd ⟨⟨by rw[ju];exact(vh.len g.2),by decide⟩,trivial⟩ (l':=ge (x.leaves[i]).id) (one_id g.2) fun ah w6 ad S T ai=> ?_)
    have n:=n.ext T fun _ _=>id
    have c:=c.gb T
    have e:=c
    refine wl (uh gc rfl 32 32 rfl rfl rfl zd n (Src.slice (m:=1) (one_idS I S) OneC.h) zm zn fun p7 c7 w7 U V W=> ?_)
    dsimp only at U V W⊢
    have c:=e.trans V fun y C o=>by have:=f y o;omega
    have p:=zz7 e f W
    have a5:Own w7 p7 (i+1) c7 30 32 (((x.leaves.take (i+1)).map jf.id).flatMap ge):=by
     have e1:((x.leaves.take (i+1)).map jf.id).flatMap ge=((x.leaves.take i).map jf.id).flatMap ge++ge (x.leaves[i]).id:=by
      rw[List.take_succ_eq_append_getElem M,List.map_append,List.flatMap_append]
      simp
     rw[e1]
     exact U
    refine j9 gc rfl (gm (Bo rfl ?_))
    rw[kg _ zo]
    refine gm ?_
    exact jn (i+1,p7,c7) rfl ⟨⟨M,a5,p⟩,c⟩ zf
   have h0:i=x.leaves.length:=by omega
   subst h0
   rw[List.take_length] at n
   have D:qx x=x.leaves.map jf.id:=by rw[qx,if_pos h2]
   have e3:(qx x).length=x.leaves.length:=by rw[D,List.length_map]
   refine yo ?_
   exact qy (qy (vf (jy (gz (q,k) (by rw[e3];rfl) ⟨⟨by rw[e3,D];exact n,f⟩,c⟩))))
  have h2:¬x.kind=2:=l
  refine je rfl (jl rfl (fun l=> ?_) (fun l=> ?_))
  ·have h3:x.kind=3:=l
   have aj:=hsx.parents
   have D:qx x=x.tree::x.parents:=by rw[qx,if_neg h2,if_pos h3]
   have e3:1+x.parents.length=(qx x).length:=by rw[D,List.length_cons];omega
   refine js rfl 9 [qP 0,qP 1,qP 2,qP 5,qP 6,(3,false),(4,false),(7,false),qP 8] [] (No) zk fun w8 X ak=> ?_
   have Y:=d
   have c:=c.gb X
   have E:Ext (No) _ w8:=X.no
   refine gv gc 2 rfl (qf gc rfl rfl (fun w' J=>((Y.ga J).ko.obj hx).tree) (vh.len hx.tree) ?_)
   refine gv gc 1 rfl (j6 gc rfl rfl (fun w' J=>((Y.ga J).ko.obj hx).parents) ?_)
   have I:vh x.tree:=hx.tree
   refine jg rfl (qd gc rfl 32 rfl Ct.symm zj zd zd ⟨⟨by rw[ju];exact(vh.len hx.tree),by decide⟩,trivial⟩ (l':=ge x.tree) (one_id hx.tree) fun al w9 ae Z K am=>⟨E.gb K,?_⟩)
   have c:=c.gb K
   have E:=E.gb K
   have e:=c
   have a6:=E
   refine jg rfl (uh gc rfl 32 32 rfl rfl rfl zd (Own.nil _ _ _) (Src.slice (m:=1) (one_idS I Z) OneC.h) zm zn fun L a7 a8 F j s=>⟨E.trans j (fun y C o=>(by cases o)),?_⟩)
   have E:=E.trans j (fun y C o=>(by cases o))
   dsimp only at F j s⊢
   have c:=e.trans j fun y C o=>by cases o
   have H:∀y,jd L y→w.heap.size≤y:=fun y C=>(s y C).elim (fun h=>by cases h) fun h=>Nat.le_trans e.size h
   have a9:∀y,jd L y→_:=fun y C=>(s y C).elim (fun h=>by cases h) fun h=>Nat.le_trans a6.size h
   have aa:Own a8 L 1 a7 30 32 (ge x.tree):=by have:=F;rw[List.nil_append] at this;exact this
   have e:=c
   refine jg rfl (uh gc rfl 32 32 rfl rfl rfl zd aa (Src.slice (hxl.parents.ga c) OneC.h) zm zn fun ab ac an t A G=>⟨E.trans A (fun y C o=>(by have:=a9 y o;omega)),?_⟩)
   dsimp only at t A G⊢
   have c:=e.trans A fun y C o=>by have:=H y o;omega
   have p:=zz7 e H G
   rw[e3] at t⊢
   refine gv gc 1 rfl (jj (ja ?_))
   exact jy (gz (ab,ac) rfl ⟨⟨by rw[show(qx x).flatMap ge=ge x.tree++x.parents.flatMap ge from by rw[D];rfl];exact t,p⟩,c⟩)
  have h3:¬x.kind=3:=l
  have D:qx x=[]:=by rw[qx,if_neg h2,if_neg h3]
  refine j7 ?_
  exact jy (gz (none,0) (by rw[D];rfl) ⟨⟨by rw[D];exact Own.nil _ _ _,yw8⟩,c⟩)
 rintro⟨q,k⟩ ao ⟨⟨n,f⟩,c⟩
 try dsimp only
 dsimp only at n f
 refine je rfl (gq (gu rfl rfl ?_))
 exact⟨q,k,by rw[he],by rw[he];exact n,f,c⟩
end Go.Proofs.YtpdiphfjmepijaaGreatDoor
namespace Go.Vc
theorem objC_tree {o:jk} {a:vd} (h:qv o) {t:List UInt8} (ht:t.length=32):put (jw o a) 4 (ge t)=jw {o with tree:=t} a:=by
 rw[put_eq _ _ _ (by rw[gt h,gl,ht];decide),gl,ht]
 simp only[jw]
 rw[List.take_left' (by rfl),List.append_assoc,←List.drop_drop,List.drop_left' (by rfl),List.drop_left' (by rw[gl,h.tree])]
theorem objC_base {o:jk} {a:vd} (h:qv o) {t:List UInt8} (ht:t.length=32):put (jw o a) 36 (ge t)=jw {o with base:=t} a:=by
 rw[put_eq _ _ _ (by rw[gt h,gl,ht];decide),gl,ht]
 simp only[jw]
 rw[←List.append_assoc,List.take_left' (by rw[List.length_append,gl,h.tree];rfl),List.append_assoc,List.append_assoc,←List.drop_drop,←List.append_assoc,List.drop_left' (by rw[List.length_append,gl,h.tree];rfl),List.drop_left' (by rw[gl,h.base])]
 simp only[List.append_assoc]
theorem Au {o:jk} {a:vd} (h:qv o) (i:Nat) (v:Value):(jw o a).set (68+i) v=
  [.int .i64 o.kind,xn o.text,.slice a.lp o.leaves.length a.lc,.int .i64 o.style]++(ge o.tree++(ge o.base++
   ([.slice a.pp o.parents.length a.pc,.slice a.rp o.rows.length a.rc,.int .u32 (o.number:Int),.int .u32 (o.author:Int),xn o.note]:List Value).set i v)):=by
 have b:68+i-4-32-32=i:=by omega
 rw[jw,List.set_append_right _ _ zc,List.set_append_right _ _ (by rw[gl,h.tree];simp;omega),List.set_append_right _ _ (by rw[gl,gl,h.tree,h.base];simp;omega),gl,gl,h.tree,h.base]
 rw[show 68+i-([.int .i64 o.kind,xn o.text,.slice a.lp o.leaves.length a.lc,.int .i64 o.style]:List Value).length-32-32=i from b]
theorem Ds.vl (s:Ds) (n:Nat):num (s.off n).1<256^n:=
 Nat.lt_of_lt_of_le (Vc.vl _) (Nat.pow_le_pow_right zd (s.un n).1)
end Go.Vc
namespace Go.Proofs.YtpdiphfjmepijaaGreatDoor
open Go.Proofs.Tryz
open Go.Vc
theorem bytesEqual_calls (w:World) {p q:Option Addr} {c d:Nat} {l m:List UInt8} (h:vt w p l) (h':vt w q m):
  gn prog 172 [.slice p l.length c,.slice q m.length d] w fun v w'=>v= .bool (decide (l=m))∧w'=w:=by
 refine gx func172 ?_
 have a:=Ext.refl No w
 refine je rfl (qc rfl (wl (zv6 gc rfl rfl h (j9 gc rfl (wl (zv6 gc rfl rfl h' (jz rfl (gq (gu rfl rfl ?_)))))))))
 exact⟨congrArg Value.bool (decide_eq_decide.2 xj4),rfl⟩
def C9 (w:World) (rb:Nat) (s:Ds):Prop:=Rd w rb s.rest s.err
theorem off_eq (s:Ds) (n:Nat):uz s.rest s.err (n:Int)=((s.off n).1,(s.off n).2.rest,(s.off n).2.err):=by
 obtain⟨l,b⟩:=s
 cases b with
 |true=>simp[uz,Ds.err,Ds.off]
 |false=>
  by_cases h:l.length<n
  ·have a:¬(n:Int)<0:=by omega
   have c:(l.length:Int)<n:=by omega
   simp[uz,Ds.err,Ds.off,h,a]
  have a:¬(n:Int)<0:=by omega
  have c:¬(l.length:Int)<n:=by omega
  simp[uz,Ds.err,Ds.off,h,a]
theorem C9.ga {w w':World} {rb:Nat} {s:Ds} (h:C9 w rb s) (hE:Ext No w w'):C9 w' rb s:=Rd.ga h hE
theorem C9.ne {w:World} {rb:Nat} {s:Ds} (h:C9 w rb s) {b T:Nat} {L:List Value} (hb:j0 w b T L) (hT:264≠T):rb≠b:=Rd.ne h hb hT
theorem C9.gj {w w':World} {rb:Nat} {s:Ds} (h:C9 w rb s) {x T:Nat} {L:List Value} (hE:Ext (One x) w w') (hb:j0 w x T L) (h1:264≠T) (h2:5≠T):C9 w' rb s:=
 Rd.ext h hE (fun e=>h.ne hb h1 e) fun _b _L hL e=>hL.ne hb h2 e
theorem C9.err {w:World} {rb:Nat} {s:Ds} (h:C9 w rb s):gn prog 111 [.pointer (some ⟨rb,0,none⟩)] w fun v w'=>v= .int .i64 s.err∧w'=w:=err_calls w h
theorem C9.u8 {w:World} {rb:Nat} {s:Ds} (h:C9 w rb s) (hl:s.rest.length<1000000000):gn prog 109 [.pointer (some ⟨rb,0,none⟩)] w fun v w'=>v= .int .u8 ((num (s.off 1).1:Nat):Int)∧C9 w' rb (s.off 1).2∧Ext (One rb) w w':=
 ((u8_calls w h hl)).mono fun v w' ⟨h1,h2,h3⟩=>by
  have e:=off_eq s 1
  rw[show uz s.rest s.err 1=_ from e] at h1 h2
  exact⟨h1,h2,h3⟩
theorem C9.u16 {w:World} {rb:Nat} {s:Ds} (h:C9 w rb s) (hl:s.rest.length<1000000000):gn prog 104 [.pointer (some ⟨rb,0,none⟩)] w fun v w'=>v= .int .u16 ((num (s.off 2).1:Nat):Int)∧C9 w' rb (s.off 2).2∧Ext (One rb) w w':=
 ((u16_calls w h hl)).mono fun v w' ⟨h1,h2,h3⟩=>by
  have e:=off_eq s 2
  rw[show uz s.rest s.err 2=_ from e] at h1 h2
  exact⟨h1,h2,h3⟩
theorem C9.u32 {w:World} {rb:Nat} {s:Ds} (h:C9 w rb s) (hl:s.rest.length<1000000000):gn prog 171 [.pointer (some ⟨rb,0,none⟩)] w fun v w'=>v= .int .u32 ((num (s.off 4).1:Nat):Int)∧C9 w' rb (s.off 4).2∧Ext (One rb) w w':=
 ((zz5 w h hl)).mono fun v w' ⟨h1,h2,h3⟩=>by
  have e:=off_eq s 4
  rw[show uz s.rest s.err 4=_ from e] at h1 h2
  exact⟨h1,h2,h3⟩
theorem C9.raw {w:World} {rb:Nat} {s:Ds} (h:C9 w rb s) (hl:s.rest.length<1000000000) (n:Nat):gn prog 103 [.pointer (some ⟨rb,0,none⟩),.int .i64 (n:Int)] w fun v w'=>∃q c,v= .slice q (s.off n).1.length c∧vt w' q (s.off n).1∧C9 w' rb (s.off n).2∧Ext (One rb) w w':=
 ((raw_calls w h hl n)).mono fun v w' ⟨q,c,h1,h2,h3,h4⟩=>by
  have e:=off_eq s n
  rw[e] at h1 h2 h3
  exact⟨q,c,h1,h2,h3,h4⟩
theorem small_rd (w:World) {rb:Nat} {s:Ds} (h:C9 w rb s) (hl:s.rest.length<1000000000):
  gn prog 167 [.agg #[.pointer (some ⟨rb,0,none⟩)]] w fun v w'=>v=xn (s.str 1).1∧C9 w' rb (s.str 1).2∧Ext (One rb) w w':=by
 refine gx func167 ?_
 have a:=Ext.refl (One rb) w
 refine qa (gw rfl fun u x y b j=> ?_)
 have a:=a.gb j
 have b:j0 x u 267 ([.pointer (some ⟨rb,0,none⟩)]):=b
 have r:=h.ga j
 have k:=(r.ne b zd).symm
 refine jz rfl (gk (js rfl 9 [qP 0,qP 1,qP 2,qP 3,(4,false),qP 5,(6,false),(7,false),qP 8] [] (One rb) zk fun z f A=> ?_))
 have l:=b
 have a:=a.gb f
 have g:Ext (One rb) _ z:=f.no
 have r:=r.ga f
 have B:=s.un 1
 have C:=s.vl 1
 refine gv gc 1 rfl (j6 gc rfl rfl (fun w' i=>((l.ext (show Ext (One rb) _ w' from i) k).cell rfl)) ?_)
 refine gv gc 1 rfl (j6 gc rfl rfl (fun w' i=>((l.ext (show Ext (One rb) _ w' from i) k).cell rfl)) ?_)
 refine jg rfl (j3 call109 rfl (r.u8 hl) fun D E m=>⟨(by obtain⟨rfl,n,d⟩:=m;exact g.then d),?_⟩)
 obtain⟨rfl,n,d⟩:=m
 have a:=a.then d
 have g:=g.then d
 refine gv gc 1 rfl ?_
 rw[kg _ zo]
 refine jg rfl (j3 call103 rfl (n.raw zo (num (s.off 1).1)) fun F G o=>⟨(by obtain⟨q,c,rfl,t,p,e⟩:=o;exact g.then e),?_⟩)
 obtain⟨q,c,rfl,t,p,e⟩:=o
 have a:=a.then e
 have g:=g.then e
 refine jg rfl (zv6 gc rfl rfl t ⟨g,?_⟩)
 refine gv gc 1 rfl (jj (ja (j1 (gq (gu rfl rfl ?_)))))
 exact⟨rfl,p,a⟩
theorem text_rd (w:World) {rb:Nat} {s:Ds} (h:C9 w rb s) (hl:s.rest.length<1000000000):
  gn prog 164 [.agg #[.pointer (some ⟨rb,0,none⟩)]] w fun v w'=>v=xn (s.str 2).1∧C9 w' rb (s.str 2).2∧Ext (One rb) w w':=by
 refine gx func164 ?_
 have a:=Ext.refl (One rb) w
 refine qa (gw rfl fun u x y b j=> ?_)
 have a:=a.gb j
 have b:j0 x u 267 ([.pointer (some ⟨rb,0,none⟩)]):=b
 have r:=h.ga j
 have k:=(r.ne b zd).symm
 refine jz rfl (gk (js rfl 9 [qP 0,qP 1,qP 2,qP 3,(4,false),qP 5,(6,false),(7,false),qP 8] [] (One rb) zk fun z f A=> ?_))
 have l:=b
 have a:=a.gb f
 have g:Ext (One rb) _ z:=f.no
 have r:=r.ga f
 have B:=s.un 2
 have C:=s.vl 2
 refine gv gc 1 rfl (j6 gc rfl rfl (fun w' i=>((l.ext (show Ext (One rb) _ w' from i) k).cell rfl)) ?_)
 refine gv gc 1 rfl (j6 gc rfl rfl (fun w' i=>((l.ext (show Ext (One rb) _ w' from i) k).cell rfl)) ?_)
 refine jg rfl (j3 call104 rfl (r.u16 hl) fun D E m=>⟨(by obtain⟨rfl,n,d⟩:=m;exact g.then d),?_⟩)
 obtain⟨rfl,n,d⟩:=m
 have a:=a.then d
 have g:=g.then d
 refine gv gc 1 rfl ?_
 rw[kg _ zo]
 refine jg rfl (j3 call103 rfl (n.raw zo (num (s.off 2).1)) fun F G o=>⟨(by obtain⟨q,c,rfl,t,p,e⟩:=o;exact g.then e),?_⟩)
 obtain⟨q,c,rfl,t,p,e⟩:=o
 have a:=a.then e
 have g:=g.then e
 refine jg rfl (zv6 gc rfl rfl t ⟨g,?_⟩)
 refine gv gc 1 rfl (jj (ja (j1 (gq (gu rfl rfl ?_)))))
 exact⟨rfl,p,a⟩
theorem idZ_fill {t:List UInt8} (h:t.length≤32):put (ge Dh) 0 (ge t)=ge (t++List.replicate (32-t.length) 0):=by
 rw[put_eq _ _ _ (by rw[gl,gl];simpa using h),k8]
 simp[ug,gl]
theorem id_rd (w:World) {rb:Nat} {s:Ds} (h:C9 w rb s) (hl:s.rest.length<1000000000):
  gn prog 168 [.agg #[.pointer (some ⟨rb,0,none⟩)]] w fun v w'=>v= .agg (ge s.id.1).toArray∧C9 w' rb s.id.2∧Ext (One rb) w w':=by
 refine gx func168 ?_
 have d:=Ext.refl (One rb) w
 refine qa (gw rfl fun J K L b p=> ?_)
 have d:=d.gb p
 have b:j0 K J 267 ([.pointer (some ⟨rb,0,none⟩)]):=b
 have j:=h.ga p
 have B:=(j.ne b zd).symm
 refine gw rfl fun o M r a k=> ?_
 have l:=j5 b.lt r
 have t:=Nat.le_trans d.size r
 have b:=b.ga k
 have d:=d.gb k
 have a:j0 M o 30 (ge Dh):=(by rw[Ct];exact a)
 have j:=j.ga k
 have C:=(j.ne a zd).symm
 refine qr (gk (js rfl 5 [qP 0,qP 1,qP 2,(3,false),(4,false)] [] ((fun x=>x=rb∨x=o)) zk fun N i O=> ?_))
 have D:=b
 have a:=a.ga i
 have d:=d.gb i
 have A:Ext ((fun x=>x=rb∨x=o)) _ N:=i.no
 have j:=j.ga i
 have m:=s.un 32
 refine xw9 gc rfl rfl 0 32 32 1 rfl ⟨.inr ⟨rfl,rfl⟩,.inr ⟨rfl,rfl⟩,.inr ⟨rfl,rfl⟩,by decide,by decide,by decide⟩ ?_
 rw[ka,Nat.sub_zero]
 refine gv gc 1 rfl (j6 gc rfl rfl (fun w' E=>((D.ext (show Ext (fun x=>x=rb∨x=o) _ w' from E) fun e=>e.elim B l).cell rfl)) ?_)
 refine jg rfl (j3 call103 rfl (j.raw hl 32) fun S T u=>⟨(by obtain⟨q,c,rfl,I,y,f⟩:=u;exact A.then (f.mono fun _ _ e=> .inl e)),?_⟩)
 obtain⟨q,c,rfl,I,y,f⟩:=u
 have a:=a.gj f C
 have d:=d.then f
 have A:=A.then (f.mono fun _ _ e=> .inl e)
 have g:=a
 refine jg rfl (zj0 gc rfl 1 rfl a (Src.slice I OneC.h) m.1 (by rw[gl];dsimp only;have:=m.1;simp;omega) fun P F n Q=>⟨A.then (n.mono fun _ _ e=> .inr e),?_⟩)
 have a:j0 P o 30 (ge s.id.1):=by rw[Ds.id,←idZ_fill m.1];exact F
 have d:=d.gh n t
 have G:=y.gj n g zd zd
 refine jj (ja (j1 (qa (jh a rfl (by rw[gl,s.xl.1]) ?_))))
 have g:=a
 refine wl (j8 (l':=ge s.id.1) gc a rfl rfl (by rw[gl,s.xl.1]) rfl OneC.h fun U a z R=> ?_)
 have d:=d.gh z t
 have H:=G.gj z g zd zd
 refine qr (gq (qz [_] ⟨⟨o,0,rfl,u0 gc rfl rfl a.ko (by rw[gl,s.xl.1];rfl)⟩,trivial⟩ ?_))
 exact⟨rfl,H,d⟩
abbrev Any:Nat→Prop:=fun _=>True
theorem yz5 {α:Type} {f:Ds→α×Ds} (hf:∀s,(f s).2.rest.length≤s.rest.length):∀(n:Nat) (s:Ds),(Ds.each f n s).2.rest.length≤s.rest.length
 |0,s=>Nat.le_refl _
 |n+1,s=>by
  rw[Ds.each]
  split
  ·exact Nat.le_refl _
  exact Nat.le_trans (yz5 hf n _) (hf s)
theorem each_rd {α:Type} (f:Ds→α×Ds) (w:World) {rb:Nat} {s:Ds} {G:Nat} {cap:Array Value} (hcf:∀args w,(callFunc G args).run prog w= .ok (.enter G args) w)
  (J:List α→Ds→World→Prop) (hl:s.rest.length<1000000000)
  (hR:∀acc s w,J acc s w→C9 w rb s) (hNo:∀acc s w w',J acc s w→Ext No w w'→J acc s w') (hU:∀acc s s' w w',J acc s w→C9 w' rb s'→s'.rest.length≤s.rest.length→Ext (One rb) w w'→J acc s' w')
  (hstep:∀acc s w,J acc s w→s.bad=false→acc.length<255→gn prog G cap.toList w fun v w'=>v= .tuple #[]∧J (acc++[(f s).1]) (f s).2 w'∧(∀b L,j0 w b 267 L→j0 w' b 267 L)∧Ext Any w w')
  (h:J [] s w):
  gn prog 165 [.agg #[.pointer (some ⟨rb,0,none⟩)],.func (.func G) #[] cap] w fun v w'=>v= .tuple #[]∧J (s.row f).1 (s.row f).2 w'∧(∀b L,j0 w b 267 L→j0 w' b 267 L)∧Ext Any w w':=by
 refine gx func165 ?_
 have i:=Ext.refl Any w
 refine qa (gw rfl fun A B D a k=> ?_)
 have i:=i.gb k
 have a:j0 B A 267 ([.pointer (some ⟨rb,0,none⟩)]):=a
 have h:=hNo _ _ _ _ h k
 have g:=hR _ _ _ h
 have c:∀b L,j0 w b 267 L→j0 B b 267 L:=fun _ _ h=>h.ga k
 refine qr (qc rfl (jb a rfl rfl (gi call109 rfl (g.u8 hl) fun N E p=> ?_)))
 obtain⟨rfl,q,j⟩:=p
 have a:=a.gj j (g.ne a zd).symm
 have i:=i.then (j.mono fun _ _ _=>trivial)
 have h:=hU _ _ _ _ _ h q (s.un 1).2.1 j
 have c:∀b L,j0 w b 267 L→j0 E b 267 L:=fun b L h=>(c b L h).gj j (g.ne (c b L h) zd).symm
 have F:=s.vl 1
 refine jz rfl (gr ?_)
 refine jm (α:=Nat×List α×Ds) [1,2] rfl (fun z=>[(4,.int .u8 (z.1:Int))]) (fun z u=>(z.2.1.length+z.1≤255∧J z.2.1 z.2.2 u∧s.row f=(z.2.1++(Ds.each f z.1 z.2.2).1,(Ds.each f z.1 z.2.2).2)∧∀b L,j0 w b 267 L→j0 u b 267 L)∧j0 u A 267 ([.pointer (some ⟨rb,0,none⟩)])∧Ext Any w u) (fun z u=>z.1) (num (s.off 1).1,[],(s.off 1).2) rfl ⟨⟨by dsimp only[List.length_nil];omega,h,rfl,c⟩,a,i⟩ ?_
 rintro⟨n,acc,d⟩ C ⟨⟨H,h,e,c⟩,a,i⟩
 try dsimp only
 dsimp only at H h e c
 have g:=hR _ _ _ h
 refine gk (jv (α:=Bool) [1,2,4] rfl (fun z=>[(15,.bool z)]) (fun z u=>u=C∧z=decide (¬n=0∧d.bad=false)) ?_ ?_)
 ·refine j4 ?_
  refine j9 gc rfl (jo 10 rfl (fun I=> ?_) (fun I=> ?_))
  ·refine j2 gc 1 rfl ?_
   refine jb a rfl rfl (gi call111 rfl (g.err) fun O P r=> ?_)
   obtain⟨rfl,rfl⟩:=r
   refine j2 gc 2 rfl (gm ?_)
   exact gz (_) rfl ⟨rfl,by rw[decide_eq_decide];cases hbd:d.bad;exact⟨fun _=>⟨by omega,rfl⟩,fun _=>by rw[Ds.err,hbd];rfl⟩;exact⟨fun h=>by rw[Ds.err,hbd] at h;exact absurd h zd,fun h=>absurd h.2 zd⟩⟩
  refine j2 gc 5 rfl ?_
  refine gm ?_
  exact gz (false) rfl ⟨rfl,by symm;rw[decide_eq_false_iff_not];exact fun h=>h.1 zo⟩
 rintro z Q ⟨t,rfl⟩
 have t:=t.symm
 subst t
 refine jl rfl (fun o=> ?_) (fun o=> ?_)
 ·obtain⟨m,rfl⟩:∃m,n=m+1:=⟨n-1,by omega⟩
  rw[Ds.Cm o.2] at e
  refine xz (gr (yv rfl (gi hcf rfl (hstep _ _ C h o.2 zo) fun R K x=> ?_)))
  obtain⟨rfl,h,l,y⟩:=x
  have a:=a|>l _ _
  have i:=i.then y
  have c:∀b L,j0 w b 267 L→j0 K b 267 L:=fun b L h=>l b L (c b L h)
  refine gm (Bo rfl ?_)
  rw[show IntKind.u8.wrap (((m+1:Nat):Int)-1)=(m:Int) from by rw[IntWalk.u8_in _ zo];omega]
  refine j9 gc rfl (gm ?_)
  exact jn (m,acc++[(f d).1],(f d).2) rfl ⟨⟨by dsimp only;rw[List.length_append];simp only[List.length_cons,List.length_nil];omega,h,by rw[e];simp,c⟩,a,i⟩ zf
 have M:Ds.each f n d=([],d):=Ds.each_end (by
  by_cases h0:n=0
  ·exact .inl h0
  cases hbd:d.bad
  ·exact absurd ⟨h0,hbd⟩ o
  exact .inr rfl)
 rw[M,List.append_nil] at e
 refine yo (qy (qy (vf (y9 rfl ?_))))
 exact⟨rfl,by rw[e];exact h,c,i⟩
structure yq (W0 w:World) (rb b4 b5:Nat) (o:jk) (a:vd) (s:Ds):Prop where
  rd:C9 w rb s
  bs:j0 w b4 267 [.pointer (some ⟨rb,0,none⟩)]
  bo:j0 w b5 37 (jw o a)
  ol:Own w a.lp o.leaves.length a.lc 148 33 (o.leaves.flatMap jf.cells)
  op:Own w a.pp o.parents.length a.pc 30 32 (o.parents.flatMap ge)
  or:Own w a.rp o.rows.length a.rc 150 3 (o.rows.flatMap ud.cells)
  nl:∀x,jd a.lp x→W0.heap.size≤x
  np:∀x,jd a.pp x→W0.heap.size≤x
  nr:∀x,jd a.rp x→W0.heap.size≤x
  fr:W0.heap.size≤rb
  fo:W0.heap.size≤b5
  X:Ext No W0 w
  len:s.rest.length<1000000000
  oin:qv o
  sh:Bp o
section
variable {W0 w w' w1 w2:World} {rb b4 b5:Nat} {o:jk} {a:vd} {s s':Ds}
theorem C9.lt (h:C9 w rb s):rb<w.heap.size:=Rd.lt h
theorem yq.ga (h:yq W0 w rb b4 b5 o a s) (hE:Ext No w w'):yq W0 w' rb b4 b5 o a s:=
 ⟨h.rd.ga hE,h.bs.ga hE,h.bo.ga hE,h.ol.ext hE fun _ _=>id,h.op.ext hE fun _ _=>id,h.or.ext hE fun _ _=>id,h.nl,h.np,h.nr,h.fr,h.fo,h.X.gb hE,h.len,h.oin,h.sh⟩
theorem yq.neR (h:yq W0 w rb b4 b5 o a s) {b T:Nat} {L:List Value} (hb:j0 w b T L) (hT:264≠T):b≠rb:=(h.rd.ne hb hT).symm
theorem yq.read (h:yq W0 w rb b4 b5 o a s) (hR:C9 w' rb s') (hE:Ext (One rb) w w') (hl:s'.rest.length≤s.rest.length):yq W0 w' rb b4 b5 o a s':=by
 have f:∀{x T:Nat} {L:List Value},j0 w x T L→264≠T→j0 w' x T L:=fun g b=>g.gj hE (h.neR g b)
 have d:∀{p:Option Addr} {n c T sz:Nat} {xs:List Value},Own w p n c T sz xs→264≠T→Own w' p n c T sz xs:=fun i b=>i.ext hE fun x k e=>by
  have e:x=rb:=e
  obtain⟨l,hl⟩:=i.Dk k
  exact h.neR hl b e
 exact⟨hR,f h.bs zd,f h.bo zd,d h.ol zd,d h.op zd,d h.or zd,h.nl,h.np,h.nr,h.fr,h.fo,h.X.trans hE fun y m j=>by have j:y=rb:=j;have:=h.fr;omega,Nat.lt_of_le_of_lt hl h.len,h.oin,h.sh⟩
structure Sep (W0:World) (rb b4 b5:Nat) (a:vd) (x:Nat):Prop where
  r:rb≠x
  s:b4≠x
  o:b5≠x
  l:¬jd a.lp x
  p:¬jd a.pp x
  c:¬jd a.rp x
  n:W0.heap.size≤x
theorem yq.sep (h:yq W0 w rb b4 b5 o a s) {x:Nat} (hx:w.heap.size≤x):Sep W0 rb b4 b5 a x:=
 ⟨by have:=h.rd.lt;omega,by have:=h.bs.lt;omega,by have:=h.bo.lt;omega,fun e=>by have:=h.ol.lt e;omega,fun e=>by have:=h.op.lt e;omega,fun e=>by have:=h.or.lt e;omega,Nat.le_trans h.X.size hx⟩
theorem yq.gj (h:yq W0 w rb b4 b5 o a s) {x T:Nat} {L:List Value} (hs:Sep W0 rb b4 b5 a x) (hb:j0 w x T L) (hT:5≠T) (hE:Ext (One x) w w'):yq W0 w' rb b4 b5 o a s:=
 ⟨Rd.ext h.rd hE hs.r fun b L hL e=>hL.ne hb hT e,h.bs.gj hE hs.s,h.bo.gj hE hs.o,h.ol.ext hE fun y hy e=>by have e:y=x:=e;subst e;exact hs.l hy,h.op.ext hE fun y hy e=>by have e:y=x:=e;subst e;exact hs.p hy,h.or.ext hE fun y hy e=>by have e:y=x:=e;subst e;exact hs.c hy,
  h.nl,h.np,h.nr,h.fr,h.fo,h.X.gh hE hs.n,h.len,h.oin,h.sh⟩
theorem yq.put (h:yq W0 w rb b4 b5 o a s) (hE:Ext (One b5) w w') {o':jk} (hb:j0 w' b5 37 (jw o' a)) (e1:o'.leaves=o.leaves) (e2:o'.parents=o.parents) (e3:o'.rows=o.rows) (hi:qv o') (hs:Bp o'):yq W0 w' rb b4 b5 o' a s:=
 ⟨h.rd.gj hE h.bo zd zd,h.bs.gj hE (h.bs.ne h.bo zd),hb,by rw[e1];exact h.ol.kc hE h.bo zd,by rw[e2];exact h.op.kc hE h.bo zd,by rw[e3];exact h.or.kc hE h.bo zd,
  h.nl,h.np,h.nr,h.fr,h.fo,h.X.trans hE fun y hy hF=>by have hF:y=b5:=hF;have:=h.fo;omega,h.len,hi,hs⟩
theorem C9.ke (h:C9 w rb s) {p:Option Addr} {n c T sz:Nat} {xs:List Value} (ho:Own w p n c T sz xs) (hE:Ext (jd p) w w') (h1:264≠T) (h2:5≠T):C9 w' rb s:=
 Rd.ext h hE (fun hx=>by obtain⟨l,hl⟩:=ho.Dk hx;exact h.ne hl h1 rfl) fun b L hL hx=>(ho.zx7 hx hL (Ne.symm h2)) rfl
theorem _root_.Go.Vc.Own.ke {p q:Option Addr} {n c T sz m d U sy:Nat} {xs ys:List Value} (h:Own w p n c T sz xs) (ho:Own w q m d U sy ys) (hE:Ext (jd q) w w') (hT:U≠T):Own w' p n c T sz xs:=
 h.ext hE fun x hx hy=>by
  obtain⟨l,hl⟩:=h.Dk hx
  exact ho.zx7 hy hl hT rfl
theorem yq.putLeaf (h:yq W0 w rb b4 b5 o a s) {p:Option Addr} {c:Nat} {r:jf} (hE1:Ext (jd a.lp) w w1) (ho:Own w1 p (o.leaves.length+1) c 148 33 (o.leaves.flatMap jf.cells++r.cells)) (hB:∀x,jd p x→jd a.lp x∨w.heap.size≤x)
  (hE2:Ext (One b5) w1 w2) (hb:j0 w2 b5 37 (jw {o with leaves:=o.leaves++[r]} ⟨p,c,a.pp,a.pc,a.rp,a.rc⟩)) (hr:LeafIn r) (hp:r.path.length<1000000000) (hn:o.leaves.length<255):
  yq W0 w2 rb b4 b5 {o with leaves:=o.leaves++[r]} ⟨p,c,a.pp,a.pc,a.rp,a.rc⟩ s:=by
 have bo1:=h.bo.ke h.ol hE1 zd
 have e1:(o.leaves++[r]).length=o.leaves.length+1:=by rw[List.length_append];rfl
 have e2:(o.leaves++[r]).flatMap jf.cells=o.leaves.flatMap jf.cells++r.cells:=by rw[List.flatMap_append];simp
 exact⟨(h.rd.ke h.ol hE1 zd zd).gj hE2 bo1 zd zd,(h.bs.ke h.ol hE1 zd).gj hE2 ((h.bs.ke h.ol hE1 zd).ne bo1 zd),hb,
  by rw[e1,e2];exact ho.kc hE2 bo1 zd,(h.op.ke h.ol hE1 zd).kc hE2 bo1 zd,(h.or.ke h.ol hE1 zd).kc hE2 bo1 zd,
  zz7 h.X h.nl hB,h.np,h.nr,h.fr,h.fo,
  (h.X.trans hE1 fun y hy hF=>by have:=h.nl y hF;omega).trans hE2 fun y hy hF=>by have hF:y=b5:=hF;have:=h.fo;omega,
  h.len,⟨h.oin.tree,h.oin.base,h.oin.parents,fun x hx=>by rcases List.mem_append.1 hx with hx|hx;exact h.oin.leaves x hx;rw[List.mem_singleton.1 hx];exact hr,h.oin.rows,h.oin.number,h.oin.author⟩,⟨by show(o.leaves++[r]).length<_;omega,h.sh.parents,h.sh.rows,fun x hx=>by rcases List.mem_append.1 hx with hx|hx;exact h.sh.leafP x hx;rw[List.mem_singleton.1 hx];exact hp,h.sh.rowP⟩⟩
theorem yq.putId (h:yq W0 w rb b4 b5 o a s) {p:Option Addr} {c:Nat} {r:List UInt8} (hE1:Ext (jd a.pp) w w1) (ho:Own w1 p (o.parents.length+1) c 30 32 (o.parents.flatMap ge++ge r)) (hB:∀x,jd p x→jd a.pp x∨w.heap.size≤x)
  (hE2:Ext (One b5) w1 w2) (hb:j0 w2 b5 37 (jw {o with parents:=o.parents++[r]} ⟨a.lp,a.lc,p,c,a.rp,a.rc⟩)) (hr:vh r) (hn:o.parents.length<255):
  yq W0 w2 rb b4 b5 {o with parents:=o.parents++[r]} ⟨a.lp,a.lc,p,c,a.rp,a.rc⟩ s:=by
 have bo1:=h.bo.ke h.op hE1 zd
 have e1:(o.parents++[r]).length=o.parents.length+1:=by rw[List.length_append];rfl
 have e2:(o.parents++[r]).flatMap ge=o.parents.flatMap ge++ge r:=by rw[List.flatMap_append];simp
 exact⟨(h.rd.ke h.op hE1 zd zd).gj hE2 bo1 zd zd,(h.bs.ke h.op hE1 zd).gj hE2 ((h.bs.ke h.op hE1 zd).ne bo1 zd),hb,
  (h.ol.ke h.op hE1 zd).kc hE2 bo1 zd,by rw[e1,e2];exact ho.kc hE2 bo1 zd,(h.or.ke h.op hE1 zd).kc hE2 bo1 zd,
  h.nl,zz7 h.X h.np hB,h.nr,h.fr,h.fo,
  (h.X.trans hE1 fun y hy hF=>by have:=h.np y hF;omega).trans hE2 fun y hy hF=>by have hF:y=b5:=hF;have:=h.fo;omega,
  h.len,⟨h.oin.tree,h.oin.base,fun x hx=>by rcases List.mem_append.1 hx with hx|hx;exact h.oin.parents x hx;rw[List.mem_singleton.1 hx];exact hr,h.oin.leaves,h.oin.rows,h.oin.number,h.oin.author⟩,⟨h.sh.leaves,by show(o.parents++[r]).length<_;omega,h.sh.rows,h.sh.leafP,h.sh.rowP⟩⟩
theorem yq.putChg (h:yq W0 w rb b4 b5 o a s) {p:Option Addr} {c:Nat} {r:ud} (hE1:Ext (jd a.rp) w w1) (ho:Own w1 p (o.rows.length+1) c 150 3 (o.rows.flatMap ud.cells++r.cells)) (hB:∀x,jd p x→jd a.rp x∨w.heap.size≤x)
  (hE2:Ext (One b5) w1 w2) (hb:j0 w2 b5 37 (jw {o with rows:=o.rows++[r]} ⟨a.lp,a.lc,a.pp,a.pc,p,c⟩)) (hr:ChgIn r) (hp:r.path.length<1000000000) (hn:o.rows.length<255):
  yq W0 w2 rb b4 b5 {o with rows:=o.rows++[r]} ⟨a.lp,a.lc,a.pp,a.pc,p,c⟩ s:=by
 have bo1:=h.bo.ke h.or hE1 zd
 have e1:(o.rows++[r]).length=o.rows.length+1:=by rw[List.length_append];rfl
 have e2:(o.rows++[r]).flatMap ud.cells=o.rows.flatMap ud.cells++r.cells:=by rw[List.flatMap_append];simp
 exact⟨(h.rd.ke h.or hE1 zd zd).gj hE2 bo1 zd zd,(h.bs.ke h.or hE1 zd).gj hE2 ((h.bs.ke h.or hE1 zd).ne bo1 zd),hb,
  (h.ol.ke h.or hE1 zd).kc hE2 bo1 zd,(h.op.ke h.or hE1 zd).kc hE2 bo1 zd,by rw[e1,e2];exact ho.kc hE2 bo1 zd,
  h.nl,h.np,zz7 h.X h.nr hB,h.fr,h.fo,
  (h.X.trans hE1 fun y hy hF=>by have:=h.nr y hF;omega).trans hE2 fun y hy hF=>by have hF:y=b5:=hF;have:=h.fo;omega,
  h.len,⟨h.oin.tree,h.oin.base,h.oin.parents,h.oin.leaves,fun x hx=>by rcases List.mem_append.1 hx with hx|hx;exact h.oin.rows x hx;rw[List.mem_singleton.1 hx];exact hr,h.oin.number,h.oin.author⟩,⟨h.sh.leaves,h.sh.parents,by show(o.rows++[r]).length<_;omega,h.sh.leafP,fun x hx=>by rcases List.mem_append.1 hx with hx|hx;exact h.sh.rowP x hx;rw[List.mem_singleton.1 hx];exact hp⟩⟩
end
structure u6 (W0 w:World) (o:jk) (a:vd):Prop where
  ol:Own w a.lp o.leaves.length a.lc 148 33 (o.leaves.flatMap jf.cells)
  op:Own w a.pp o.parents.length a.pc 30 32 (o.parents.flatMap ge)
  or:Own w a.rp o.rows.length a.rc 150 3 (o.rows.flatMap ud.cells)
  nl:∀x,jd a.lp x→W0.heap.size≤x
  np:∀x,jd a.pp x→W0.heap.size≤x
  nr:∀x,jd a.rp x→W0.heap.size≤x
theorem u6.ga {W0 w w':World} {o:jk} {a:vd} (h:u6 W0 w o a) (hE:Ext No w w'):u6 W0 w' o a:=⟨h.ol.ext hE fun _ _=>id,h.op.ext hE fun _ _=>id,h.or.ext hE fun _ _=>id,h.nl,h.np,h.nr⟩
theorem u6.gj {W0 w w':World} {o:jk} {a:vd} (h:u6 W0 w o a) {b T:Nat} {L:List Value} (hE:Ext (One b) w w') (hb:j0 w b T L) (h1:148≠T) (h2:30≠T) (h3:150≠T):u6 W0 w' o a:=⟨h.ol.kc hE hb h1,h.op.kc hE hb h2,h.or.kc hE hb h3,h.nl,h.np,h.nr⟩
theorem u6.l {W0 w:World} {o:jk} {a:vd} (h:u6 W0 w o a):Bh w o a:=⟨h.ol.sl,h.op.sl,h.or.sl⟩
theorem u6.nil (W0 w:World) (o:jk) (h1:o.leaves=[]) (h2:o.parents=[]) (h3:o.rows=[]):u6 W0 w o ⟨none,0,none,0,none,0⟩:=by
 refine⟨?_,?_,?_,yw8,yw8,yw8⟩
 ·rw[h1];exact Own.nil _ _ _
 ·rw[h2];exact Own.nil _ _ _
 rw[h3];exact Own.nil _ _ _
theorem u6.older {W0 W1 w:World} {o:jk} {a:vd} (h:u6 W1 w o a) (hX:W0.heap.size≤W1.heap.size):u6 W0 w o a:=⟨h.ol,h.op,h.or,fun x hx=>Nat.le_trans hX (h.nl x hx),fun x hx=>Nat.le_trans hX (h.np x hx),fun x hx=>Nat.le_trans hX (h.nr x hx)⟩
theorem yq.new {W0 w:World} {rb b4 b5:Nat} {o:jk} {a:vd} {s:Ds} (h:yq W0 w rb b4 b5 o a s):u6 W0 w o a:=⟨h.ol,h.op,h.or,h.nl,h.np,h.nr⟩
theorem leafZ_c:cellsOf ti148.zero=jf.cells ⟨[],Dh⟩:=by kernel_rfl
theorem chgZ_c:cellsOf ti150.zero=ud.cells ⟨[],false,[]⟩:=by kernel_rfl
theorem leaf_put {p:Str} {i j:List UInt8} (hi:i.length=32) (hj:j.length=32):put (jf.cells ⟨p,i⟩) 1 (ge j)=jf.cells ⟨p,j⟩:=by
 rw[put_eq _ _ _ (by simp[jf.cells,gl,hi,hj])]
 simp[jf.cells,gl,hi,hj]
theorem one_leaf {r:jf} (h:r.id.length=32):xm (C1 1 (jf.cells ⟨[],Dh⟩)) [(0*(0+33),0+33,.agg r.cells.toArray)]=r.cells:=by
 simp only[xm,ju]
 rw[Nat.zero_mul,Ai (by rw[ub,jf.len h];rfl)]
theorem Ds.leaf_in {s:Ds} (hl:s.rest.length<1000000000):LeafIn s.leaf.1:=by
 have h1:=(s.vu 1).1
 have h2:=maxLen_big
 exact⟨by show(s.str 1).1.length≤maxLen;omega,(s.str 1).2.xl.1⟩
theorem Ds.chg_in {s:Ds} (hl:s.rest.length<1000000000):ChgIn s.chg.1:=by
 have a:=s.vu 1
 have b:=maxLen_big
 have c:=(s.str 1).2.un 1
 have d:=((s.str 1).2.off 1).2.vu 2
 exact⟨by show(s.str 1).1.length≤maxLen;omega,by show(((s.str 1).2.off 1).2.str 2).1.length≤maxLen;omega⟩
theorem Ds.leaf_le (s:Ds):s.leaf.2.rest.length≤s.rest.length:=Nat.le_trans (s.str 1).2.xl.2 (s.vu 1).2
theorem Ds.chg_le (s:Ds):s.chg.2.rest.length≤s.rest.length:=by
 have h1:=s.vu 1
 have h3:=(s.str 1).2.un 1
 have h4:=((s.str 1).2.off 1).2.vu 2
 show(((s.str 1).2.off 1).2.str 2).2.rest.length≤_
 omega
theorem dec1_calls (w:World) {W0:World} {rb b4 b5:Nat} {o:jk} {a:vd} {s:Ds} (h:yq W0 w rb b4 b5 o a s) (hl:o.leaves.length<255):
  gn prog 166 [.pointer (some ⟨b4,0,none⟩),.pointer (some ⟨b5,0,none⟩)] w fun v w'=>v= .tuple #[]∧(∃a',yq W0 w' rb b4 b5 {o with leaves:=o.leaves++[s.leaf.1]} a' s.leaf.2)∧(∀b L,j0 w b 267 L→j0 w' b 267 L)∧Ext Any w w':=by
 refine gx func166 ?_
 have f:=Ext.refl Any w
 have d:=h
 have G:=h.len
 have c:∀b L,j0 w b 267 L→j0 w b 267 L:=fun _ _ h=>h
 refine qa (jr rfl d.bs.ko rfl (gi call167 rfl (small_rd w d.rd d.len) fun v1 w1 H=> ?_))
 obtain⟨rfl,n,p⟩:=H
 have c:=fun b L h=>(c b L h).gj p (d.neR (c b L h) zd)
 have f:=f.then (p.mono fun _ _ _=>trivial)
 have d:=d.read n p (s.vu 1).2
 refine qg rfl ⟨⟨rfl,by decide⟩,trivial⟩ (l':=jf.cells ⟨(s.str 1).1,Dh⟩) (by rw[leafZ_c];rfl) ?_
 have I:=d
 refine gw rfl fun Q w2 A e q=> ?_
 have B:=Nat.le_trans f.size A
 have c:=fun b L h=>(c b L h).ga q
 have d:=d.ga q
 have f:=f.gb q
 have C:=I.sep A
 have g:=e
 refine wl (j8 (l':=jf.cells ⟨(s.str 1).1,Dh⟩) gc e rfl rfl (jf.len rfl) (jf.len rfl) OneC.h fun R e t S=> ?_)
 have c:=fun b L h=>(c b L h).gj t ((c b L h).ne g zd)
 have d:=d.gj C g zd t
 have f:=f.gh t B
 refine qr (qa (jr rfl d.bs.ko rfl (gi call168 rfl (id_rd R d.rd d.len) fun v4 w4 J=> ?_)))
 obtain⟨rfl,n,k⟩:=J
 have e:=e.gj k (d.neR e zd)
 have c:=fun b L h=>(c b L h).gj k (d.neR (c b L h) zd)
 have f:=f.then (k.mono fun _ _ _=>trivial)
 have d:=d.read n k (s.str 1).2.xl.2
 refine j9 gc rfl ?_
 have g:=e
 have i:=Ds.leaf_in G
 refine wl (zw6 gc e rfl (by rw[ju,gl,(s.str 1).2.xl.1]) (by rw[jf.len rfl];decide) (by rw[ju];exact OneC.h) fun T e u U=> ?_)
 have c:=fun b L h=>(c b L h).gj u ((c b L h).ne g zd)
 have d:=d.gj C g zd u
 have f:=f.gh u B
 have e:j0 T Q 148 ((s.leaf.1).cells):=(by have:=e;rw[ju,leaf_put rfl (s.str 1).2.xl.1] at this;exact this)
 refine qr (yv rfl (gy rfl ((d.bo.ko.obj d.oin).leaves) (jh e rfl (jf.len i.2) ?_)))
 refine wl (qd gc rfl 33 rfl leafZ_c (jf.len rfl) zd zd ⟨⟨by rw[ju];exact(jf.len i.2),by decide⟩,trivial⟩ (l':=(s.leaf.1).cells) (one_leaf i.2) fun K w6 O D x V=> ?_)
 have c:=fun b L h=>(c b L h).ga x
 have d:=d.ga x
 have f:=f.gb x
 have M:=f
 refine wl (uh gc rfl 33 48 rfl rfl rfl zd d.ol (Src.slice (m:=1) ⟨jf.len i.2,.inr ⟨K,0,rfl,D.ko⟩⟩ OneC.h) zm zn fun W X Y E j F=> ?_)
 dsimp only at E j F⊢
 have f:=M.then (j.mono fun _ _ _=>trivial)
 have c:∀b L,j0 w b 267 L→j0 Y b 267 L:=fun b L h=>(c b L h).ke d.ol j (show(148:Nat)≠267 from by decide)
 have l:=d.bo.ke d.ol j (show(148:Nat)≠37 from by decide)
 refine j9 gc rfl (ky l rfl rfl rfl fun P y z Z=> ?_)
 have y:j0 P b5 37 (jw {o with leaves:=o.leaves++[s.leaf.1]} ⟨W,X,a.pp,a.pc,a.rp,a.rc⟩):=by
  simp only[jw,List.length_append]
  exact y
 have N:=d.putLeaf (r:=s.leaf.1) j E F z y i (by have:=s.vu 1;show(s.str 1).1.length<_;omega) hl
 have c:∀b L,j0 w b 267 L→j0 P b 267 L:=fun b L h=>(c b L h).gj z ((c b L h).ne l zd)
 have f:=f.then (z.mono fun _ _ _=>trivial)
 refine gm (y9 rfl ?_)
 exact⟨rfl,⟨_,N⟩,c,f⟩
theorem dec2_calls (w:World) {W0:World} {rb b4 b5:Nat} {o:jk} {a:vd} {s:Ds} (h:yq W0 w rb b4 b5 o a s) (hl:o.parents.length<255):
  gn prog 169 [.pointer (some ⟨b5,0,none⟩),.pointer (some ⟨b4,0,none⟩)] w fun v w'=>v= .tuple #[]∧(∃a',yq W0 w' rb b4 b5 {o with parents:=o.parents++[s.id.1]} a' s.id.2)∧(∀b L,j0 w b 267 L→j0 w' b 267 L)∧Ext Any w w':=by
 refine gx func169 ?_
 have j:=Ext.refl Any w
 have d:=h
 have N:=h.len
 have c:∀b L,j0 w b 267 L→j0 w b 267 L:=fun _ _ h=>h
 refine js rfl 7 [qP 0,qP 1,qP 2,(3,false),(4,false),(5,false),qP 6] [7] ((fun x=>x=rb∨jd a.pp x)) zk fun J l O=> ?_
 have c:=fun b L h=>(c b L h).ga l
 have d:=d.ga l
 have j:=j.gb l
 have q:Ext ((fun x=>x=rb∨jd a.pp x)) _ J:=l.no
 have C:¬(fun x=>x=rb∨jd a.pp x) b5:=fun e=>e.elim (h.neR h.bo zd) fun D=>h.op.zx7 D h.bo zd rfl
 have E:¬(fun x=>x=rb∨jd a.pp x) b4:=fun e=>e.elim (h.neR h.bs zd) fun D=>h.op.zx7 D h.bs zd rfl
 have n:=s.xl
 refine gv gc 1 rfl (j6 gc rfl rfl (fun w' t=>((h.bo.ext (show Ext (fun x=>x=rb∨jd a.pp x) _ w' from t) C).ko.obj h.oin).parents) ?_)
 refine qf gc rfl rfl (fun w' t=>(h.bs.ext (show Ext (fun x=>x=rb∨jd a.pp x) _ w' from t) E).ko) rfl ?_
 refine jg rfl (j3 call168 rfl (id_rd J d.rd d.len) fun T U y=>⟨(by obtain⟨rfl,z,f⟩:=y;exact q.then (f.mono fun _ _ e=> .inl e)),?_⟩)
 obtain⟨rfl,z,f⟩:=y
 have c:=fun b L h=>(c b L h).gj f (d.neR (c b L h) zd)
 have j:=j.then (f.mono fun _ _ _=>trivial)
 have q:=q.then (f.mono fun _ _ e=> .inl e)
 have d:=d.read z f s.xl.2
 refine jg rfl (qd gc rfl 32 rfl Ct.symm zj zd zd ⟨⟨by rw[ju];exact(vh.len n.1),by decide⟩,trivial⟩ (l':=ge s.id.1) (one_id n.1) fun V W P F k Q=>⟨q.gb k,?_⟩)
 have c:=fun b L h=>(c b L h).ga k
 have d:=d.ga k
 have j:=j.gb k
 have q:=q.gb k
 have G:=j
 refine jg rfl (uh gc rfl 32 32 rfl rfl rfl zd d.op (Src.slice (m:=1) (one_idS n.1 F) OneC.h) zm zn fun K M R A g B=>⟨q.then (g.mono fun _ _ e=> .inr e),?_⟩)
 dsimp only at A g B⊢
 have j:=G.then (g.mono fun _ _ _=>trivial)
 have c:∀b L,j0 w b 267 L→j0 R b 267 L:=fun b L h=>(c b L h).ke d.op g (show(30:Nat)≠267 from by decide)
 have p:=d.bo.ke d.op g (show(30:Nat)≠37 from by decide)
 refine gv gc 1 rfl (jj (wb rfl (u4 gc p rfl rfl (by rw[gt d.oin];decide) fun H i u S=> ?_)))
 have i:j0 H b5 37 ((jw o a).set (68+0) (.slice K (o.parents.length+1) M)):=i
 rw[Au d.oin] at i
 have i:j0 H b5 37 (jw {o with parents:=o.parents++[s.id.1]} ⟨a.lp,a.lc,K,M,a.rp,a.rc⟩):=by
  simp only[jw,List.length_append]
  exact i
 have I:=d.putId (r:=s.id.1) g A B u i n.1 hl
 have c:∀b L,j0 w b 267 L→j0 H b 267 L:=fun b L h=>(c b L h).gj u ((c b L h).ne p zd)
 have j:=j.then (u.mono fun _ _ _=>trivial)
 refine ja (y9 rfl ?_)
 exact⟨rfl,⟨_,I⟩,c,j⟩
theorem dec3_calls (w:World) {W0:World} {rb b4 b5:Nat} {o:jk} {a:vd} {s:Ds} (h:yq W0 w rb b4 b5 o a s) (hl:o.rows.length<255):
  gn prog 170 [.pointer (some ⟨b4,0,none⟩),.pointer (some ⟨b5,0,none⟩)] w fun v w'=>v= .tuple #[]∧(∃a',yq W0 w' rb b4 b5 {o with rows:=o.rows++[s.chg.1]} a' s.chg.2)∧(∀b L,j0 w b 267 L→j0 w' b 267 L)∧Ext Any w w':=by
 refine gx func170 ?_
 have i:=Ext.refl Any w
 have f:=h
 have J:=h.len
 have c:∀b L,j0 w b 267 L→j0 w b 267 L:=fun _ _ h=>h
 refine qa (jr rfl f.bs.ko rfl (gi call167 rfl (small_rd w f.rd f.len) fun v1 w1 K=> ?_))
 obtain⟨rfl,k,u⟩:=K
 have c:=fun b L h=>(c b L h).gj u (f.neR (c b L h) zd)
 have i:=i.then (u.mono fun _ _ _=>trivial)
 have f:=f.read k u (s.vu 1).2
 refine qg rfl ⟨⟨rfl,by decide⟩,trivial⟩ (l':=ud.cells ⟨(s.str 1).1,false,[]⟩) (by rw[chgZ_c];rfl) ?_
 have M:=f
 refine gw rfl fun T w2 F d x=> ?_
 have y:=Nat.le_trans i.size F
 have c:=fun b L h=>(c b L h).ga x
 have f:=f.ga x
 have i:=i.gb x
 have z:=M.sep F
 have g:=d
 refine wl (j8 (l':=ud.cells ⟨(s.str 1).1,false,[]⟩) gc d rfl rfl rfl rfl OneC.h fun w3 d A Z=> ?_)
 have c:=fun b L h=>(c b L h).gj A ((c b L h).ne g zd)
 have f:=f.gj z g zd A
 have i:=i.gh A y
 refine qr (qc rfl (gy rfl (f.bs.cell rfl) (gi call109 rfl (f.rd.u8 f.len) fun v4 w4 N=> ?_)))
 obtain⟨rfl,k,p⟩:=N
 have d:=d.gj p (f.neR d zd)
 have c:=fun b L h=>(c b L h).gj p (f.neR (c b L h) zd)
 have i:=i.then (p.mono fun _ _ _=>trivial)
 have f:=f.read k p ((s.str 1).2.un 1).2.1
 refine j9 gc rfl ?_
 have g:=d
 refine ky d rfl rfl rfl fun U d B a0=> ?_
 have c:=fun b L h=>(c b L h).gj B ((c b L h).ne g zd)
 have f:=f.gj z g zd B
 have i:=i.gh B y
 have d:j0 U T 150 (ud.cells ⟨(s.str 1).1,(decide (0<num ((s.str 1).2.off 1).1)),[]⟩):=(by have e:decide ((num ((s.str 1).2.off 1).1:Int)>0)=(decide (0<num ((s.str 1).2.off 1).1)):=decide_eq_decide.2 zo;rw[←e];exact d)
 refine qr (qa (jr rfl f.bs.ko rfl (gi call164 rfl (text_rd U f.rd f.len) fun v6 w6 O=> ?_)))
 obtain⟨rfl,k,q⟩:=O
 have d:=d.gj q (f.neR d zd)
 have c:=fun b L h=>(c b L h).gj q (f.neR (c b L h) zd)
 have i:=i.then (q.mono fun _ _ _=>trivial)
 have f:=f.read k q (((s.str 1).2.off 1).2.vu 2).2
 refine j9 gc rfl ?_
 have g:=d
 have P:=Ds.chg_in J
 refine ky d rfl rfl rfl fun w7 d C a1=> ?_
 have c:=fun b L h=>(c b L h).gj C ((c b L h).ne g zd)
 have f:=f.gj z g zd C
 have i:=i.gh C y
 have d:j0 w7 T 150 ((s.chg.1).cells):=d
 refine qr (yv rfl (gy rfl ((f.bo.ko.obj f.oin).rows) (jh d rfl rfl ?_)))
 refine wl (qd gc rfl 3 rfl chgZ_c rfl zd zd ⟨⟨rfl,by decide⟩,trivial⟩ (l':=(s.chg.1).cells) rfl fun Q w8 V G D a2=> ?_)
 have c:=fun b L h=>(c b L h).ga D
 have f:=f.ga D
 have i:=i.gb D
 have R:=i
 refine wl (uh gc rfl 3 40 rfl rfl rfl zd f.or (Src.slice (m:=1) ⟨rfl,.inr ⟨Q,0,rfl,G.ko⟩⟩ OneC.h) zm zn fun W X w9 H l I=> ?_)
 dsimp only at H l I⊢
 have i:=R.then (l.mono fun _ _ _=>trivial)
 have c:∀b L,j0 w b 267 L→j0 w9 b 267 L:=fun b L h=>(c b L h).ke f.or l (show(150:Nat)≠267 from by decide)
 have t:=f.bo.ke f.or l (show(150:Nat)≠37 from by decide)
 refine j9 gc rfl (wl (u4 gc t rfl rfl (by rw[gt f.oin];decide) fun E j n Y=> ?_))
 have j:j0 E b5 37 ((jw o a).set (68+1) (.slice W (o.rows.length+1) X)):=j
 rw[Au f.oin] at j
 have j:j0 E b5 37 (jw {o with rows:=o.rows++[s.chg.1]} ⟨a.lp,a.lc,a.pp,a.pc,W,X⟩):=by
  simp only[jw,List.length_append]
  exact j
 have S:=f.putChg (r:=s.chg.1) l H I n j P (by have:=s.vu 1;show(s.str 1).1.length<_;omega) hl
 have c:∀b L,j0 w b 267 L→j0 E b 267 L:=fun b L h=>(c b L h).gj n ((c b L h).ne t zd)
 have i:=i.then (n.mono fun _ _ _=>trivial)
 refine gm (y9 rfl ?_)
 exact⟨rfl,⟨_,S⟩,c,i⟩
end Go.Proofs.YtpdiphfjmepijaaGreatDoor
namespace Go.Vc
abbrev idV (x:List UInt8):Value:= .agg (ge x).toArray
theorem idV_inj {x y:List UInt8} (h:idV x=idV y):x=y:=by
 injection h with h
 exact bytesU_inj (by simpa using h)
def z7 (kv:List UInt8→Value) (okx:List UInt8→Prop) {β:Type} (w:World) (r:Nat) (enc:β→Value) (f:List UInt8→Option β):Prop:=
  ∃es clock,w.heap[r]? =some (.map es clock)∧(∀e∈es.toList,∃x b,okx x∧e.key=kv x∧e.val=enc b∧f x=some b)∧
    (∀x b,f x=some b→∃e∈es.toList,e.key=kv x)∧(es.toList.map (·.key)).Nodup∧(∀e∈es.toList,e.born<clock)∧(es.toList.map (·.born)).Nodup
structure KeyG (P:Program) (k:TypeId) (kv:List UInt8→Value) (okx:List UInt8→Prop):Prop where
  law:WideMaps.KeyLaw P k
  key:∀x:List UInt8,okx x→∃l,keyOf P k (kv x)=some l
  inj:∀x y,kv x=kv y→x=y
abbrev IsId (x:List UInt8):Prop:=x.length=32
abbrev IdKey (P:Program) (k:TypeId):Prop:=KeyG P k idV IsId
abbrev MapB {β:Type} (w:World) (r:Nat) (enc:β→Value) (f:List UInt8→Option β):Prop:=z7 idV IsId w r enc f
section
variable {kv:List UInt8→Value} {okx:List UInt8→Prop}
theorem z7.lt {β:Type} {w:World} {r:Nat} {enc:β→Value} {f:List UInt8→Option β} (h:z7 kv okx w r enc f):r<w.heap.size:=by
 obtain⟨es,c,h,_⟩:=h
 rcases Nat.lt_or_ge r w.heap.size with h'|h'
 ·exact h'
 rw[Array.getElem?_eq_none h'] at h;cases h
theorem z7.ext {β:Type} {S:Nat→Prop} {w w':World} {r:Nat} {enc:β→Value} {f:List UInt8→Option β} (h:z7 kv okx w r enc f) (hE:Ext S w w') (hS:¬S r):z7 kv okx w' r enc f:=by
 have hlt:=h.lt
 obtain⟨es,c,h,r1⟩:=h
 exact⟨es,c,(hE.same r hlt hS).trans h,r1⟩
theorem z7.ga {β:Type} {w w':World} {r:Nat} {enc:β→Value} {f:List UInt8→Option β} (h:z7 kv okx w r enc f) (hE:Ext No w w'):z7 kv okx w' r enc f:=h.ext hE id
theorem z7.ne {β:Type} {w:World} {r b T:Nat} {L:List Value} {enc:β→Value} {f:List UInt8→Option β} (h:z7 kv okx w r enc f) (hb:j0 w b T L):r≠b:=fun e=>by
 obtain⟨es,c,h,_⟩:=h
 rw[e] at h
 rw[j0,h] at hb
 cases hb
theorem z7.gj {β:Type} {w w':World} {r b T:Nat} {L:List Value} {enc:β→Value} {f:List UInt8→Option β} (h:z7 kv okx w r enc f) (hE:Ext (One b) w w') (hb:j0 w b T L):z7 kv okx w' r enc f:=h.ext hE (h.ne hb)
section
variable {P:Program} {I:qs} {f:Fs} {ops:Array Oper} {o:Oper} {env:Env} {w:World} {K:Env→World→Prop}
theorem ext_setMap {w:World} {r:Nat} {es:Array MapEntry} {c:Nat} (h:w.heap[r]? =some (.map es c)) (es':Array MapEntry) (c':Nat):
  Ext (One r) w {w with heap:=w.heap.setIfInBounds r (.map es' c')}∧({w with heap:=w.heap.setIfInBounds r (.map es' c')}:World).heap.size=w.heap.size∧({w with heap:=w.heap.setIfInBounds r (.map es' c')}:World).heap[r]? =some (.map es' c'):=by
 have a:r<w.heap.size:=by
  rcases Nat.lt_or_ge r w.heap.size with d|d
  ·exact d
  rw[Array.getElem?_eq_none d] at h;cases h
 refine⟨⟨rfl,rfl,rfl,by simp,fun b g e=> ?_,Nat.le_refl _⟩,by simp,by simp[a]⟩
 exact Array.getElem?_setIfInBounds_ne (fun f=>e f.symm)
def mmE (n:Nat) (ops:Array Oper) (env:Env) (o:Oper):Option Nat:=
  match pre n ops env o with
  |false=>none
  |true=>match o.dst with
    |some d=>match o.op with
      | .makeMap _ none=>some d
      |_=>none
    |none=>none
theorem st_mmG (kv:List UInt8→Value) (okx:List UInt8→Prop) {β:Type} (enc:β→Value) {d:Nat} (h:mmE f.n ops env o=some d)
  (k:∀(r:Nat) w',w.heap.size≤r→z7 kv okx w' r enc (fun _=>none)→Ext No w w'→w'.heap.size=w.heap.size+1→K ((d,.map (some r))::env) w'):St P f ops o env w K:=by
 unfold mmE at h
 split at h
 ·cases h
 rename_i hp
 obtain⟨h1,h2⟩:=pre_eq hp
 split at h
 ·rename_i d' hd
  split at h
  ·rename_i t ho
   cases h
   refine xq h1 h2 (v:= .map (some w.heap.size)) (w':=w.alloc (.map #[] 0)) (fun ρ hρ=> ?_) ?_
   ·simp only[execOp,ho,Option.map_none,Sem.run_bind]
    rfl
   rw[hd]
   refine k _ _ (Nat.le_refl _) ⟨#[],0,?_,?_,?_,?_,?_,?_⟩ ⟨rfl,rfl,rfl,by simp,fun b hb _=> ?_,Nat.le_refl _⟩ zp
   ·show(w.heap.push _)[w.heap.size]? =_
    simp
   ·intro e he;simp at he
   ·intro x b hb;cases hb
   ·simp
   ·intro e he;simp at he
   ·simp
   show(w.heap.push _)[b]? =_
   rw[Array.getElem?_push,if_neg zo]
  cases h
 cases h
def mmsE (I:qs) (n:Nat) (ops:Array Oper) (env:Env) (o:Oper):Option Nat:=
  match pre n ops env o with
  |false=>none
  |true=>match o.dst with
    |some d=>match o.op with
      | .makeMap t (some x)=>match y0 I t with
        |some y=>match y.desc with
          | .map _ _=>match vv env x with
            |some (.int _ _)=>some d
            |_=>none
          |_=>none
        |none=>none
      |_=>none
    |none=>none
theorem st_mms (hI:I.Ok P) (kv:List UInt8→Value) (okx:List UInt8→Prop) {β:Type} (enc:β→Value) {d:Nat} (h:mmsE I f.n ops env o=some d)
  (k:∀(r:Nat) w',w.heap.size≤r→z7 kv okx w' r enc (fun _=>none)→Ext No w w'→w'.heap.size=w.heap.size+1→K ((d,.map (some r))::env) w'):St P f ops o env w K:=by
 unfold mmsE at h
 split at h
 ·cases h
 rename_i hp
 obtain⟨h1,h2⟩:=pre_eq hp
 split at h
 ·rename_i d' hd
  split at h
  ·rename_i t x ho
   split at h
   ·rename_i y hy
    split at h
    ·rename_i k' e he
     split at h
     ·rename_i kk n hx
      cases h
      have hu:=(hI.get hy).under w
      rw[he] at hu
      refine xq h1 h2 (v:= .map (some w.heap.size)) (w':=w.alloc (.map #[] 0)) (fun ρ hρ=> ?_) ?_
      ·have hm:(Instr.makeMap t (some (.int kk n))).run P w= .ok (.map (some w.heap.size)) (w.alloc (.map #[] 0)):=by
        unfold Instr.makeMap
        simp only[Sem.run_bind,hu,Result.andThen_ok]
        rfl
       simp only[execOp,ho,Option.map_some,hρ _ _ hx,Sem.run_bind,hm,Result.andThen_ok,Sem.run_pure]
      rw[hd]
      refine k _ _ (Nat.le_refl _) ⟨#[],0,?_,?_,?_,?_,?_,?_⟩ ⟨rfl,rfl,rfl,by simp,fun b hb _=> ?_,Nat.le_refl _⟩ zp
      ·show(w.heap.push _)[w.heap.size]? =_
       simp
      ·intro e he;simp at he
      ·intro x b hb;cases hb
      ·simp
      ·intro e he;simp at he
      ·simp
      show(w.heap.push _)[b]? =_
      rw[Array.getElem?_push,if_neg zo]
     cases h
    cases h
   cases h
  cases h
 cases h
def luE (I:qs) (n:Nat) (ops:Array Oper) (env:Env) (o:Oper):Option (Nat×Value×Nat×Value×Bool×Nat):=
  match pre n ops env o with
  |false=>none
  |true=>match o.dst with
    |some d=>match o.op with
      | .lookup t x j okx=>match y0 I t with
        |some y=>match y.desc with
          | .map k e=>match y0 I e with
            |some g=>match vv env x with
              |some (.map (some r))=>match vv env j with
                |some v=>some (k,g.zero,r,v,okx,d)
                |none=>none
              |_=>none
            |none=>none
          |_=>none
        |none=>none
      |_=>none
    |none=>none
theorem z7.keys {β:Type} {k:TypeId} (hK:KeyG P k kv okx) {es:List MapEntry} {enc:β→Value} {g:List UInt8→Option β} (h:∀e∈es,∃x b,okx x∧e.key=kv x∧e.val=enc b∧g x=some b):∀e∈es,∃l,keyOf P k e.key=some l:=fun e he=>by
 obtain⟨x,b,hx,h1,_⟩:=h e he
 rw[h1]
 exact hK.key x hx
def tell {β:Type} (enc:β→Value) (z:Value) (o:Option β):Value:=match o with|some b=>enc b|none=>z
theorem ov_lu {β:Type} (hI:I.Ok P) {k r d:Nat} {z v:Value} {ok:Bool} (h:luE I f.n ops env o=some (k,z,r,v,ok,d)) (hK:KeyG P k kv okx) {x:List UInt8} (hx:okx x) (hv:v=kv x) {enc:β→Value} {g:List UInt8→Option β} (hm:z7 kv okx w r enc g):
  pre f.n ops env o=true∧o.dst=some d∧Ov P o env w (if ok then .tuple #[tell enc z (g x),.bool (g x).isSome] else tell enc z (g x)) w:=by
 subst hv
 unfold luE at h
 split at h
 ·cases h
 rename_i E
 obtain⟨h1,h2⟩:=pre_eq E
 split at h
 ·rename_i d' N
  split at h
  ·rename_i t xx j p O
   split at h
   ·rename_i y Q
    split at h
    ·rename_i k' e s
     split at h
     ·rename_i F u
      split at h
      ·rename_i R A
       split at h
       ·rename_i v' S
        simp only[Option.some.injEq,Prod.mk.injEq] at h
        obtain⟨rfl,rfl,rfl,rfl,rfl,rfl⟩:=h
        have G:=(hI.get Q).under w
        rw[s] at G
        have T:=(hI.get u).zeroValue w
        obtain⟨B,c,H,J,U,a3,_⟩:=hm
        obtain⟨l,K⟩:=hK.key x hx
        have i:=hK.law.find w K B.toList (z7.keys hK J)
        have a:=hK.law.check w B.isEmpty K
        refine⟨E,N,fun ρ L=> ?_⟩
        have m:(Instr.lookup t (.map (some R)) (kv x) p).run P w= .ok (if p then .tuple #[tell enc F.zero (g x),.bool (g x).isSome] else tell enc F.zero (g x)) w:=by
         unfold Instr.lookup
         rw[jc G]
         rcases i with⟨C,D⟩|⟨j',M,C,D,V⟩
         ·have W:g x=none:=by
           cases hgx:g x with
           |none=>rfl
           |some b=>
            obtain⟨e,s,X⟩:=U x b hgx
            exact absurd X (D e s)
          simp only[Sem.run_bind,MapKept.run_getObj_map H,Sem.run_pure,Result.andThen_ok,a,C,T,W,tell,Option.isSome]
         have q:M∈B.toList:=List.mem_of_getElem? D
         obtain⟨Y,b,_,Z,k2,k3⟩:=J M q
         have:Y=x:=hK.inj _ _ (Z.symm.trans V)
         subst this
         simp only[Sem.run_bind,MapKept.run_getObj_map H,Sem.run_pure,Result.andThen_ok,a,C,k2,k3,tell,Option.isSome]
        simp only[execOp,O,L _ _ A,L _ _ S,Sem.run_bind,m,Result.andThen_ok,Sem.run_pure]
       cases h
      cases h
     cases h
    cases h
   cases h
  cases h
 cases h
theorem st_lu {β:Type} (hI:I.Ok P) {k r d:Nat} {z v:Value} {ok:Bool} (h:luE I f.n ops env o=some (k,z,r,v,ok,d)) (hK:KeyG P k kv okx) {x:List UInt8} (hx:okx x) (hv:v=kv x) {enc:β→Value} {g:List UInt8→Option β} (hm:z7 kv okx w r enc g)
  (kk:K ((d,if ok then .tuple #[tell enc z (g x),.bool (g x).isSome] else tell enc z (g x))::env) w):St P f ops o env w K:=by
 obtain⟨a,b,c⟩:=ov_lu (f:=f) (w:=w) hI h hK hx hv hm
 exact xq (pre_eq a).1 (pre_eq a).2 c (by rw[b];exact kk)
def muE (I:qs) (n:Nat) (ops:Array Oper) (env:Env) (o:Oper):Option (Nat×Nat×Value×Value):=
  match pre n ops env o with
  |false=>none
  |true=>match o.dst with
    |none=>match o.op with
      | .mapUpdate t x j u=>match y0 I t with
        |some y=>match y.desc with
          | .map k _=>match vv env x with
            |some (.map (some r))=>match vv env j with
              |some v=>match vv env u with
                |some b=>some (k,r,v,b)
                |none=>none
              |none=>none
            |_=>none
          |_=>none
        |none=>none
      |_=>none
    |some _=>none
def xx7 {β:Type} (g:List UInt8→Option β) (x:List UInt8) (b:β):List UInt8→Option β:=fun y=>if y=x then some b else g y
theorem st_mu {β:Type} (hI:I.Ok P) {k r:Nat} {v u:Value} (h:muE I f.n ops env o=some (k,r,v,u)) (hK:KeyG P k kv okx) {x:List UInt8} (hx:okx x) (hv:v=kv x) {enc:β→Value} {g:List UInt8→Option β} (hm:z7 kv okx w r enc g) {b:β} (hb:u=enc b)
  (kk:∀w',z7 kv okx w' r enc (xx7 g x b)→Ext (One r) w w'→w'.heap.size=w.heap.size→K env w'):St P f ops o env w K:=by
 subst hv
 subst hb
 unfold muE at h
 split at h
 ·cases h
 rename_i hp
 obtain⟨h1,h2⟩:=pre_eq hp
 split at h
 ·rename_i hd
  split at h
  ·rename_i t xx j uu ho
   split at h
   ·rename_i y hy
    split at h
    ·rename_i k' e he
     split at h
     ·rename_i r' hxx
      split at h
      ·rename_i v' hj
       split at h
       ·rename_i u' huu
        simp only[Option.some.injEq,Prod.mk.injEq] at h
        obtain⟨rfl,rfl,rfl,rfl⟩:=h
        have hu:=(hI.get hy).under w
        rw[he] at hu
        obtain⟨es,c,hh,a1,a2,a3,a4,a5⟩:=hm
        obtain⟨l,hl⟩:=hK.key x hx
        have hfind:=hK.law.find w hl es.toList (z7.keys hK a1)
        have hchk:=hK.law.check w false hl
        obtain⟨es',c',hr,hM⟩:∃es' c',(Instr.mapUpdate t (.map (some r')) (kv x) (enc b)).run P w= .ok () {w with heap:=w.heap.setIfInBounds r' (.map es' c')}∧
          ((∀e∈es'.toList,∃y b',okx y∧e.key=kv y∧e.val=enc b'∧xx7 g x b y=some b')∧(∀y b',xx7 g x b y=some b'→∃e∈es'.toList,e.key=kv y)∧(es'.toList.map (·.key)).Nodup∧(∀e∈es'.toList,e.born<c')∧(es'.toList.map (·.born)).Nodup):=by
         rcases hfind with⟨f1,f2⟩|⟨j',e0,f1,f2,f3⟩
         ·refine⟨es.push ⟨kv x,enc b,c⟩,c+1,?_,?_,?_,?_,?_,?_⟩
          ·unfold Instr.mapUpdate
           rw[jc hu]
           simp[MapKept.run_getObj_map hh,hchk,f1,MapKept.run_setObj_map _ hh,Result.andThen]
          ·intro e he
           simp only[Array.toList_push,List.mem_append,List.mem_singleton] at he
           rcases he with he|rfl
           ·obtain⟨y,b',q1,q2,q3,q4⟩:=a1 e he
            refine⟨y,b',q1,q2,q3,?_⟩
            rw[xx7,if_neg fun e1=>f2 e he (by rw[q2,e1])]
            exact q4
           exact⟨x,b,hx,rfl,rfl,if_pos rfl⟩
          ·intro y b' hy'
           by_cases e1:y=x
           ·exact⟨⟨kv x,enc b,c⟩,by simp,by rw[e1]⟩
           rw[xx7,if_neg e1] at hy'
           obtain⟨e,he,hk⟩:=a2 y b' hy'
           exact⟨e,by simp[Array.mem_toList_iff.1 he],hk⟩
          ·rw[Array.toList_push,List.map_append,List.nodup_append]
           refine⟨a3,by simp,fun q hq q' hq' e1=> ?_⟩
           simp only[List.map_cons,List.map_nil,List.mem_singleton] at hq'
           obtain⟨e,he,rfl⟩:=List.mem_map.1 hq
           exact f2 e he (e1.trans hq')
          ·intro e he
           simp only[Array.toList_push,List.mem_append,List.mem_singleton] at he
           rcases he with he|rfl
           ·exact Nat.lt_succ_of_lt (a4 e he)
           exact Nat.lt_succ_self c
          rw[Array.toList_push,List.map_append,List.nodup_append]
          refine⟨a5,by simp,fun q hq q' hq' e1=> ?_⟩
          simp only[List.map_cons,List.map_nil,List.mem_singleton] at hq'
          obtain⟨e,he,rfl⟩:=List.mem_map.1 hq
          have:=a4 e he
          omega
         have hj':es[j']? =some e0:=by simpa using f2
         have hjl:j'<es.toList.length:=(List.getElem?_eq_some_iff.1 f2).1
         have hlist:(es.modify j' (fun e'=>{e' with key:=kv x,val:=enc b})).toList=es.toList.set j' {e0 with key:=kv x,val:=enc b}:=by rw[Array.toList_modify,ChangeMaps.modify_eq_set _ _ _ _ f2]
         have hkeys:(es.toList.set j' {e0 with key:=kv x,val:=enc b}).map (·.key)=es.toList.map (·.key):=by
          rw[List.map_set]
          refine List.ext_getElem? fun i=> ?_
          rw[List.getElem?_set]
          split
          ·rename_i hij
           subst hij
           rw[List.getElem?_map,f2]
           have hjs:j'<es.size:=by simpa using hjl
           simp[hjs,f3]
          rfl
         have hmem:e0∈es.toList:=List.mem_of_getElem? f2
         have hborn:(es.toList.set j' {e0 with key:=kv x,val:=enc b}).map (·.born)=es.toList.map (·.born):=by
          rw[List.map_set]
          refine List.ext_getElem? fun i=> ?_
          rw[List.getElem?_set]
          split
          ·rename_i hij
           subst hij
           rw[List.getElem?_map,f2]
           have hjs:j'<es.size:=by simpa using hjl
           simp[hjs]
          rfl
         refine⟨es.modify j' (fun e'=>{e' with key:=kv x,val:=enc b}),c,?_,?_,?_,?_,?_,?_⟩
         ·unfold Instr.mapUpdate
          rw[jc hu]
          simp[MapKept.run_getObj_map hh,hchk,f1,hj',f3,hK.law.stays w hl,MapKept.run_setObj_map _ hh,Result.andThen]
         ·rw[hlist]
          intro e he
          obtain⟨i,hi,rfl⟩:=List.mem_iff_getElem.1 he
          rw[List.length_set] at hi
          by_cases hij:j'=i
          ·subst hij
           rw[List.getElem_set_self]
           exact⟨x,b,hx,rfl,rfl,if_pos rfl⟩
          rw[List.getElem_set_ne hij]
          obtain⟨y,b',q1,q2,q3,q4⟩:=a1 _ (List.getElem_mem hi)
          refine⟨y,b',q1,q2,q3,?_⟩
          rw[xx7,if_neg fun e1=> ?_]
          ·exact q4
          rw[e1,←f3] at q2
          have h6:=List.pairwise_iff_getElem.1 a3
          have h7:=(List.getElem?_eq_some_iff.1 f2).2
          rcases Nat.lt_or_gt_of_ne hij with hlt|hlt
          ·refine h6 j' i (by simpa using hjl) (by simpa using hi) hlt ?_
           simp only[List.getElem_map]
           rw[h7,q2]
          refine h6 i j' (by simpa using hi) (by simpa using hjl) hlt ?_
          simp only[List.getElem_map]
          rw[h7,q2]
         ·rw[hlist]
          intro y b' hy'
          by_cases e1:y=x
          ·exact⟨{e0 with key:=kv x,val:=enc b},List.mem_iff_getElem.2 ⟨j',by rw[List.length_set];exact hjl,List.getElem_set_self _⟩,by rw[e1]⟩
          rw[xx7,if_neg e1] at hy'
          obtain⟨e,he,hk⟩:=a2 y b' hy'
          have:e.key∈(es.toList.set j' {e0 with key:=kv x,val:=enc b}).map (·.key):=by rw[hkeys];exact List.mem_map.2 ⟨e,he,rfl⟩
          obtain⟨e',he',hk'⟩:=List.mem_map.1 this
          exact⟨e',he',hk'.trans hk⟩
         ·rw[hlist,hkeys]
          exact a3
         ·rw[hlist]
          intro e he
          have:e.born∈(es.toList.set j' {e0 with key:=kv x,val:=enc b}).map (·.born):=List.mem_map.2 ⟨e,he,rfl⟩
          rw[hborn] at this
          obtain⟨e',he',hk'⟩:=List.mem_map.1 this
          rw[←hk']
          exact a4 e' he'
         rw[hlist,hborn]
         exact a5
        obtain⟨m1,m2,m3⟩:=ext_setMap hh es' c'
        refine st_s h1 h2 (fun ρ hρ=> ?_) (by rw[hd];exact kk _ ⟨es',c',m3,hM⟩ m1 m2)
        simp only[execOp,ho,hρ _ _ hxx,hρ _ _ hj,hρ _ _ huu,Sem.run_bind,hr,Result.andThen_ok,Sem.run_pure]
       cases h
      cases h
     cases h
    cases h
   cases h
  cases h
 cases h
end
end
abbrev noP:vd:=⟨none,0,none,0,none,0⟩
structure qu where
  id:List UInt8
  o:jk
  a:vd
def Bg (h:qu):List Value:=ge h.id++jw h.o h.a
instance (h:qu):OneC (Bg h):=by unfold Bg;infer_instance
theorem yv5 {h:qu} (hi:h.id.length=32) (ho:qv h.o):(Bg h).length=105:=by
 rw[Bg,List.length_append,gl,hi,gt ho]
abbrev blobO (t:Str):jk:={ut with kind:=1,text:=t}
abbrev treeO (l:List jf):jk:={ut with kind:=2,leaves:=l}
theorem vg (o:jk):(Ao o).length=32:=Bq _
theorem Own.x9 {kv:List UInt8→Value} {okx:List UInt8→Prop} {β:Type} {w w':World} {p:Option Addr} {n c T sz:Nat} {xs:List Value} (ho:Own w p n c T sz xs) {r:Nat} {enc:β→Value} {g:List UInt8→Option β} (hm:z7 kv okx w r enc g) (hE:Ext (One r) w w'):Own w' p n c T sz xs:=
 ho.ext hE fun x hx e=>by
  have e:x=r:=e
  subst e
  obtain⟨l,hl⟩:=ho.Dk hx
  exact hm.ne hl rfl
theorem j0.x9 {kv:List UInt8→Value} {okx:List UInt8→Prop} {β:Type} {w w':World} {b T:Nat} {L:List Value} (hb:j0 w b T L) {r:Nat} {enc:β→Value} {g:List UInt8→Option β} (hm:z7 kv okx w r enc g) (hE:Ext (One r) w w'):j0 w' b T L:=hb.gj hE (hm.ne hb).symm
section
variable {T1 T2 N:Nat} {w w':World}
end
end Go.Vc
namespace Go.Proofs.YtpdiphfjmepijaaGreatDoor
open Go.Proofs.Tryz
open Go.Vc
theorem A0:Bp ut:=⟨by decide,by decide,by decide,fun _ h=>absurd h List.not_mem_nil,fun _ h=>absurd h List.not_mem_nil⟩
section
variable {l:List UInt8}
theorem dec0 (h:l=[]):x4 l=(ut,7):=if_pos h
theorem dec1 {k:Nat} (h:l≠[]) (hk:k=num ((⟨l,false⟩:Ds).off 1).1) (h1:k=1):x4 l=endB l ({ut with kind:=1,text:=(((⟨l,false⟩:Ds).off 1).2.str 2).1},(((⟨l,false⟩:Ds).off 1).2.str 2).2):=by
 rw[x4,if_neg h]
 exact if_pos (hk.symm.trans h1)
theorem dec2 {k:Nat} (h:l≠[]) (hk:k=num ((⟨l,false⟩:Ds).off 1).1) (h1:k=2):x4 l=endB l ({ut with kind:=2,leaves:=(((⟨l,false⟩:Ds).off 1).2.row Ds.leaf).1},(((⟨l,false⟩:Ds).off 1).2.row Ds.leaf).2):=by
 rw[x4,if_neg h]
 exact(if_neg zo).trans (if_pos (hk.symm.trans h1))
theorem dec3 {k:Nat} (h:l≠[]) (hk:k=num ((⟨l,false⟩:Ds).off 1).1) (h1:k=3):x4 l=endB l ((⟨l,false⟩:Ds).off 1).2.com:=by
 rw[x4,if_neg h]
 exact(if_neg zo).trans ((if_neg zo).trans (if_pos (hk.symm.trans h1)))
theorem dec4 {k:Nat} (h:l≠[]) (hk:k=num ((⟨l,false⟩:Ds).off 1).1) (h1:¬k=1) (h2:¬k=2) (h3:¬k=3):x4 l=(ut,160):=by
 rw[x4,if_neg h]
 exact(if_neg zo).trans ((if_neg zo).trans (if_neg zo))
end
theorem Ds.off_lt {s:Ds} {n:Nat} (h:s.rest.length<1000000000):(s.off n).2.rest.length<1000000000:=Nat.lt_of_le_of_lt (s.un n).2.1 h
theorem decode_calls (w:World) {p:Option Addr} {c:Nat} {l:List UInt8} (h:vt w p l) (hl:l.length<1000000000):
  gn prog 107 [.slice p l.length c] w fun v w'=>∃a,v= .tuple #[.agg (jw (x4 l).1 a).toArray,.int .i64 (x4 l).2]∧u6 w w' (x4 l).1 a∧Ext No w w':=by
 refine gx func107 ?_
 have hX:=Ext.refl No w
 refine qa (gw rfl fun b2 w1 hn2 hb2 hE1=> ?_)
 have fr2:=Nat.le_trans hX.size hn2
 have hX:=hX.gb hE1
 have hb2o:=hb2
 have hX1:=hX
 refine jz rfl (qc rfl (gi call101 rfl (Dd w1 (h.ga hX) hl) fun v2 w2 hr2=> ?_))
 obtain⟨rb,rfl,hrn,hR,hE2⟩:=hr2
 have hb2:=hb2.ga hE2
 have hX:=hX.gb hE2
 have hR:C9 w2 rb ⟨l,false⟩:=hR
 refine qg rfl ⟨⟨rfl,by decide⟩,trivial⟩ (l':=[.pointer (some ⟨rb,0,none⟩)]) rfl (gw rfl fun b4 w3 hn4 hb4 hE3=> ?_)
 have ne2_4:=j5 hb2.lt hn4
 have fr4:=Nat.le_trans hX.size hn4
 have hb2:=hb2.ga hE3
 have hR:=C9.ga hR hE3
 have hX:=hX.gb hE3
 have hn4o:=hn4
 have hb4o:=hb4
 refine wl (j8 (l':=[.pointer (some ⟨rb,0,none⟩)]) gc hb4 rfl rfl rfl rfl OneC.h fun w4 hb4 hE4 hs4=> ?_)
 have hb2:=hb2.gj hE4 ne2_4
 have hR:=C9.gj hR hE4 hb4o zd zd
 have hX:=hX.gh hE4 fr4
 refine qr (qc rfl (jb hb4 rfl rfl (gi call109 rfl (hR.u8 hl) fun v5 w5 hr5=> ?_)))
 obtain⟨rfl,hR2,hE5⟩:=hr5
 have hb2:=hb2.gj hE5 (hR.ne hb2 zd).symm
 have hb4:=hb4.gj hE5 (hR.ne hb4 zd).symm
 have hX:=hX.trans hE5 fun y hy hF=>by have hF:y=rb:=hF;have:=hX1.size;omega
 have hR:=hR2
 have hnm:=(⟨l,false⟩:Ds).vl 1
 refine j9 gc rfl ?_
 rw[kg _ zo]
 obtain⟨k,hk⟩:∃k,k=num ((⟨l,false⟩:Ds).off 1).1:=⟨_,rfl⟩
 rw[←hk]
 refine qg rfl ⟨⟨rfl,by decide⟩,trivial⟩ (l':=jw {ut with kind:=(k:Int)} noP) (by rw[←objZ_c];rfl) (gw rfl fun b5 w6 hn5 hb5 hE6=> ?_)
 have ne2_5:=j5 hb2.lt hn5
 have ne4_5:=j5 hb4.lt hn5
 have fr5:=Nat.le_trans hX.size hn5
 have hb2:=hb2.ga hE6
 have hb4:=hb4.ga hE6
 have hR:=C9.ga hR hE6
 have hX:=hX.gb hE6
 have hb5o:=hb5
 refine wl (j8 (l':=jw {ut with kind:=(k:Int)} noP) gc hb5 rfl rfl rfl rfl OneC.h fun w7 hb5 hE7 hs7=> ?_)
 have hb2:=hb2.gj hE7 ne2_5
 have hb4:=hb4.gj hE7 ne4_5
 have hR:=C9.gj hR hE7 hb5o zd zd
 have hX:=hX.gh hE7 fr5
 have hX1s:=hX1.size
 have z2:=hE2.size
 have z3:=hE3.size
 have z4:=hE4.size
 have z5:=hE5.size
 have hXX:Ext No w1 w7:=((((((hE2.gb hE3).gh hE4 zo).trans hE5 fun y hy hF=>by have hF:y=rb:=hF;omega).gb hE6).gh hE7 zo))
 have hD:yq w1 w7 rb b4 b5 {ut with kind:=(k:Int)} noP ((⟨l,false⟩:Ds).off 1).2:=⟨hR,hb4,hb5,Own.nil _ _ _,Own.nil _ _ _,Own.nil _ _ _,yw8,yw8,yw8,hrn,by omega,hXX,Ds.off_lt hl,⟨qw.tree,qw.base,qw.parents,qw.leaves,qw.rows,qw.number,qw.author⟩,⟨A0.leaves,A0.parents,A0.rows,A0.leafP,A0.rowP⟩⟩
 refine qr (gk (je rfl (jl rfl (fun hc=> ?_) (fun hc=> ?_))))
 ·have hl0:l=[]:=List.eq_nil_of_length_eq_zero zo
  refine qa (qg rfl trivial (l':=jw ut noP) objZ_c.symm (wl (j8 (l':=jw ut noP) gc hb2 rfl rfl rfl rfl OneC.h fun w8 hb2 hE8 hs8=> ?_)))
  have hX:=hX.gh hE8 fr2
  refine jz rfl (gq (gp (qz [_,_] ⟨⟨b2,0,rfl,u0 gc rfl rfl hb2.ko rfl⟩,rfl,trivial⟩ ?_)))
  exact⟨noP,by rw[dec0 hl0];rfl,by rw[dec0 hl0];exact u6.nil _ _ _ rfl rfl rfl,hX⟩
 have hne:l≠[]:=fun e=>hc (by rw[e];rfl)
 refine j7 (j1 (jv (α:=jk×vd×Ds) [0,2,4,5] rfl (fun z=>[]) (fun z u=>(yq w1 u rb b4 b5 z.1 z.2.1 z.2.2∧x4 l=endB l (z.1,z.2.2))∧j0 u b2 37 (cellsOf ti37.zero)∧Ext No w u) ?_ ?_))
 ·refine gk ?_
  refine yv rfl (gy rfl ((hD.bo.ko.obj hD.oin).kind) ?_)
  dsimp only
  refine qr (gr (je rfl (jl rfl (fun hc=> ?_) (fun hc=> ?_))))
  ·obtain rfl:k=1:=by omega
   refine j4 (jr rfl hD.bs.ko rfl (gi call164 rfl (text_rd w7 hD.rd hD.len) fun v9 w9 hr9=> ?_))
   obtain⟨rfl,hR2,hE9⟩:=hr9
   have hD:=hD.read hR2 hE9 (Ds.vu _ 2).2
   have hb2:=hb2o.ga hD.X
   have hX:=hX1.gb hD.X
   refine j9 gc rfl (ky hD.bo rfl rfl rfl fun w10 hbo hE10 hs10=> ?_)
   have hD:=hD.put hE10 (o':={ut with kind:=((1:Nat):Int),text:=(((⟨l,false⟩:Ds).off 1).2.str 2).1}) hbo rfl rfl rfl ⟨hD.oin.tree,hD.oin.base,hD.oin.parents,hD.oin.leaves,hD.oin.rows,hD.oin.number,hD.oin.author⟩ ⟨hD.sh.leaves,hD.sh.parents,hD.sh.rows,hD.sh.leafP,hD.sh.rowP⟩
   have hb2:=hb2o.ga hD.X
   have hX:=hX1.gb hD.X
   refine gm ?_
   exact jy (gz (_,_,_) rfl ⟨⟨hD,dec1 hne hk rfl⟩,hb2,hX⟩)
  have h1:¬k=1:=by omega
  refine je rfl (jl rfl (fun hc=> ?_) (fun hc=> ?_))
  ·obtain rfl:k=2:=by omega
   refine j4 (jr rfl hD.bs.ko rfl (wl (st_mf rfl ?_)))
   refine gi call165 rfl (each_rd Ds.leaf w7 call166 (fun acc s u=>∃a,yq w1 u rb b4 b5 {ut with kind:=((2:Nat):Int),leaves:=acc} a s) hD.len (fun acc s u ⟨a,h⟩=>h.rd) (fun acc s u u' ⟨a,h⟩ hE=>⟨a,h.ga hE⟩) (fun acc s s' u u' ⟨a,h⟩ hR hl hE=>⟨a,h.read hR hE hl⟩) (fun acc s u ⟨a,h⟩ _ hl=>dec1_calls u h hl) ⟨_,hD⟩) fun v11 w11 hr11=> ?_
   obtain⟨rfl,⟨aa,hD⟩,hk1,hE11⟩:=hr11
   have hb2:=hb2o.ga hD.X
   have hX:=hX1.gb hD.X
   refine gm ?_
   exact jy (gz (_,_,_) rfl ⟨⟨hD,dec2 hne hk rfl⟩,hb2,hX⟩)
  have h2:¬k=2:=by omega
  refine je rfl (jl rfl (fun hc=> ?_) (fun hc=> ?_))
  ·obtain rfl:k=3:=by omega
   generalize hs1:((⟨l,false⟩:Ds).off 1).2=s1 at hD
   refine qc rfl (gy rfl (hD.bs.cell rfl) (gi call109 rfl (hD.rd.u8 hD.len) fun v12 w12 hr12=> ?_))
   obtain⟨rfl,hR2,hE12⟩:=hr12
   have hD:=hD.read hR2 hE12 (Ds.un _ 1).2.1
   have hb2:=hb2o.ga hD.X
   have hX:=hX1.gb hD.X
   have hn1:=s1.vl 1
   refine j9 gc rfl ?_
   rw[kg _ zo]
   refine j9 gc rfl (ky hD.bo rfl rfl rfl fun w13 hbo hE13 hs13=> ?_)
   have hD:=hD.put hE13 (o':={ut with kind:=((3:Nat):Int),style:=(num (s1.off 1).1:Nat)}) hbo rfl rfl rfl ⟨hD.oin.tree,hD.oin.base,hD.oin.parents,hD.oin.leaves,hD.oin.rows,hD.oin.number,hD.oin.author⟩ ⟨hD.sh.leaves,hD.sh.parents,hD.sh.rows,hD.sh.leafP,hD.sh.rowP⟩
   have hb2:=hb2o.ga hD.X
   have hX:=hX1.gb hD.X
   refine qr (qa (jr rfl hD.bs.ko rfl (gi call168 rfl (id_rd w13 hD.rd hD.len) fun v14 w14 hr14=> ?_)))
   obtain⟨rfl,hR2,hE14⟩:=hr14
   have hD:=hD.read hR2 hE14 (Ds.xl _).2
   have hb2:=hb2o.ga hD.X
   have hX:=hX1.gb hD.X
   refine j9 gc rfl (wl (zw6 gc hD.bo rfl (by rw[ju,gl,(Ds.xl _).1]) (by rw[gt hD.oin];decide) (by rw[ju];exact OneC.h) fun w15 hbo hE15 hs15=> ?_))
   rw[ju] at hbo
   have hbo:=(show _=_ from objC_tree hD.oin (Ds.xl _).1)▸hbo
   have hD:=hD.put hE15 (o':={ut with kind:=((3:Nat):Int),style:=(num (s1.off 1).1:Nat),tree:=(s1.off 1).2.id.1}) hbo rfl rfl rfl ⟨(Ds.xl _).1,hD.oin.base,hD.oin.parents,hD.oin.leaves,hD.oin.rows,hD.oin.number,hD.oin.author⟩ ⟨hD.sh.leaves,hD.sh.parents,hD.sh.rows,hD.sh.leafP,hD.sh.rowP⟩
   have hb2:=hb2o.ga hD.X
   have hX:=hX1.gb hD.X
   refine qr (qa (jr rfl hD.bs.ko rfl (wl (st_mf rfl ?_))))
   refine gi call165 rfl (each_rd Ds.id w15 call169 (fun acc s u=>∃a,yq w1 u rb b4 b5 {ut with kind:=((3:Nat):Int),style:=(num (s1.off 1).1:Nat),tree:=(s1.off 1).2.id.1,parents:=acc} a s) hD.len (fun acc s u ⟨a,h⟩=>h.rd) (fun acc s u u' ⟨a,h⟩ hE=>⟨a,h.ga hE⟩) (fun acc s s' u u' ⟨a,h⟩ hR hl hE=>⟨a,h.read hR hE hl⟩) (fun acc s u ⟨a,h⟩ _ hl=>dec2_calls u h hl) ⟨_,hD⟩) fun v16 w16 hr16=> ?_
   obtain⟨rfl,⟨aa,hD⟩,hk1,hE16⟩:=hr16
   have hb2:=hb2o.ga hD.X
   have hX:=hX1.gb hD.X
   refine qr (qa (jr rfl hD.bs.ko rfl (gi call168 rfl (id_rd w16 hD.rd hD.len) fun v17 w17 hr17=> ?_)))
   obtain⟨rfl,hR2,hE17⟩:=hr17
   have hD:=hD.read hR2 hE17 (Ds.xl _).2
   have hb2:=hb2o.ga hD.X
   have hX:=hX1.gb hD.X
   refine j9 gc rfl (wl (zw6 gc hD.bo rfl (by rw[ju,gl,(Ds.xl _).1]) (by rw[gt hD.oin];decide) (by rw[ju];exact OneC.h) fun w18 hbo hE18 hs18=> ?_))
   rw[ju] at hbo
   have hbo:=(show _=_ from objC_base hD.oin (Ds.xl _).1)▸hbo
   have hD:=hD.put hE18 (o':={ut with kind:=((3:Nat):Int),style:=(num (s1.off 1).1:Nat),tree:=(s1.off 1).2.id.1,parents:=((s1.off 1).2.id.2.row Ds.id).1,base:=((s1.off 1).2.id.2.row Ds.id).2.id.1}) hbo rfl rfl rfl ⟨hD.oin.tree,(Ds.xl _).1,hD.oin.parents,hD.oin.leaves,hD.oin.rows,hD.oin.number,hD.oin.author⟩ ⟨hD.sh.leaves,hD.sh.parents,hD.sh.rows,hD.sh.leafP,hD.sh.rowP⟩
   have hb2:=hb2o.ga hD.X
   have hX:=hX1.gb hD.X
   refine qr (qa (jr rfl hD.bs.ko rfl (wl (st_mf rfl ?_))))
   refine gi call165 rfl (each_rd Ds.chg w18 call170 (fun acc s u=>∃a,yq w1 u rb b4 b5 {ut with kind:=((3:Nat):Int),style:=(num (s1.off 1).1:Nat),tree:=(s1.off 1).2.id.1,parents:=((s1.off 1).2.id.2.row Ds.id).1,base:=((s1.off 1).2.id.2.row Ds.id).2.id.1,rows:=acc} a s) hD.len (fun acc s u ⟨a,h⟩=>h.rd) (fun acc s u u' ⟨a,h⟩ hE=>⟨a,h.ga hE⟩) (fun acc s s' u u' ⟨a,h⟩ hR hl hE=>⟨a,h.read hR hE hl⟩) (fun acc s u ⟨a,h⟩ _ hl=>dec3_calls u h hl) ⟨_,hD⟩) fun v19 w19 hr19=> ?_
   obtain⟨rfl,⟨aa,hD⟩,hk1,hE19⟩:=hr19
   have hb2:=hb2o.ga hD.X
   have hX:=hX1.gb hD.X
   refine qr (qc rfl (gy rfl (hD.bs.cell rfl) (gi call171 rfl (hD.rd.u32 hD.len) fun v20 w20 hr20=> ?_)))
   obtain⟨rfl,hR2,hE20⟩:=hr20
   have hD:=hD.read hR2 hE20 (Ds.un _ 4).2.1
   have hb2:=hb2o.ga hD.X
   have hX:=hX1.gb hD.X
   refine j9 gc rfl (wl (u4 gc hD.bo rfl rfl (by rw[gt hD.oin];decide) fun w21 hbo hE21 hs21=> ?_))
   have hbo:=(show _=_ from Au hD.oin 2 _)▸(show j0 w21 b5 37 ((jw _ aa).set (68+2) _) from hbo)
   have hD:=hD.put hE21 (o':={ut with kind:=((3:Nat):Int),style:=(num (s1.off 1).1:Nat),tree:=(s1.off 1).2.id.1,parents:=((s1.off 1).2.id.2.row Ds.id).1,base:=((s1.off 1).2.id.2.row Ds.id).2.id.1,rows:=(((s1.off 1).2.id.2.row Ds.id).2.id.2.row Ds.chg).1,number:=num ((((s1.off 1).2.id.2.row Ds.id).2.id.2.row Ds.chg).2.off 4).1}) hbo rfl rfl rfl ⟨hD.oin.tree,hD.oin.base,hD.oin.parents,hD.oin.leaves,hD.oin.rows,(Ds.vl _ 4),hD.oin.author⟩ ⟨hD.sh.leaves,hD.sh.parents,hD.sh.rows,hD.sh.leafP,hD.sh.rowP⟩
   have hb2:=hb2o.ga hD.X
   have hX:=hX1.gb hD.X
   refine qr (qc rfl (gy rfl (hD.bs.cell rfl) (gi call171 rfl (hD.rd.u32 hD.len) fun v22 w22 hr22=> ?_)))
   obtain⟨rfl,hR2,hE22⟩:=hr22
   have hD:=hD.read hR2 hE22 (Ds.un _ 4).2.1
   have hb2:=hb2o.ga hD.X
   have hX:=hX1.gb hD.X
   refine j9 gc rfl (wl (u4 gc hD.bo rfl rfl (by rw[gt hD.oin];decide) fun w23 hbo hE23 hs23=> ?_))
   have hbo:=(show _=_ from Au hD.oin 3 _)▸(show j0 w23 b5 37 ((jw _ aa).set (68+3) _) from hbo)
   have hD:=hD.put hE23 (o':={ut with kind:=((3:Nat):Int),style:=(num (s1.off 1).1:Nat),tree:=(s1.off 1).2.id.1,parents:=((s1.off 1).2.id.2.row Ds.id).1,base:=((s1.off 1).2.id.2.row Ds.id).2.id.1,rows:=(((s1.off 1).2.id.2.row Ds.id).2.id.2.row Ds.chg).1,number:=num ((((s1.off 1).2.id.2.row Ds.id).2.id.2.row Ds.chg).2.off 4).1,author:=num (((((s1.off 1).2.id.2.row Ds.id).2.id.2.row Ds.chg).2.off 4).2.off 4).1}) hbo rfl rfl rfl ⟨hD.oin.tree,hD.oin.base,hD.oin.parents,hD.oin.leaves,hD.oin.rows,hD.oin.number,(Ds.vl _ 4)⟩ ⟨hD.sh.leaves,hD.sh.parents,hD.sh.rows,hD.sh.leafP,hD.sh.rowP⟩
   have hb2:=hb2o.ga hD.X
   have hX:=hX1.gb hD.X
   refine qr (j4 (jr rfl hD.bs.ko rfl (gi call167 rfl (small_rd w23 hD.rd hD.len) fun v24 w24 hr24=> ?_)))
   obtain⟨rfl,hR2,hE24⟩:=hr24
   have hD:=hD.read hR2 hE24 (Ds.vu _ 1).2
   have hb2:=hb2o.ga hD.X
   have hX:=hX1.gb hD.X
   refine j9 gc rfl (wl (u4 gc hD.bo rfl rfl (by rw[gt hD.oin];decide) fun w25 hbo hE25 hs25=> ?_))
   have hbo:=(show _=_ from Au hD.oin 4 _)▸(show j0 w25 b5 37 ((jw _ aa).set (68+4) _) from hbo)
   have hD:=hD.put hE25 (o':={ut with kind:=((3:Nat):Int),style:=(num (s1.off 1).1:Nat),tree:=(s1.off 1).2.id.1,parents:=((s1.off 1).2.id.2.row Ds.id).1,base:=((s1.off 1).2.id.2.row Ds.id).2.id.1,rows:=(((s1.off 1).2.id.2.row Ds.id).2.id.2.row Ds.chg).1,number:=num ((((s1.off 1).2.id.2.row Ds.id).2.id.2.row Ds.chg).2.off 4).1,author:=num (((((s1.off 1).2.id.2.row Ds.id).2.id.2.row Ds.chg).2.off 4).2.off 4).1,note:=((((((s1.off 1).2.id.2.row Ds.id).2.id.2.row Ds.chg).2.off 4).2.off 4).2.str 1).1}) hbo rfl rfl rfl ⟨hD.oin.tree,hD.oin.base,hD.oin.parents,hD.oin.leaves,hD.oin.rows,hD.oin.number,hD.oin.author⟩ ⟨hD.sh.leaves,hD.sh.parents,hD.sh.rows,hD.sh.leafP,hD.sh.rowP⟩
   have hb2:=hb2o.ga hD.X
   have hX:=hX1.gb hD.X
   refine gm ?_
   exact jy (gz (_,_,_) rfl ⟨⟨hD,(dec3 hne hk rfl).trans (by rw[hs1];rfl)⟩,hb2,hX⟩)
  have h3:¬k=3:=by omega
  refine qa (qg rfl trivial (l':=jw ut noP) objZ_c.symm (wl (j8 (l':=jw ut noP) gc hb2 rfl rfl rfl rfl OneC.h fun w26 hb2 hE26 hs26=> ?_)))
  have hX:=hX.gh hE26 fr2
  refine jz rfl (gq (ji (gp (qz [_,_] ⟨⟨b2,0,rfl,u0 gc rfl rfl hb2.ko rfl⟩,rfl,trivial⟩ ?_))))
  exact⟨noP,by rw[dec4 hne hk h1 h2 h3];rfl,by rw[dec4 hne hk h1 h2 h3];exact u6.nil _ _ _ rfl rfl rfl,hX⟩
 rintro⟨o,aa,s⟩ w27 ⟨⟨hD,hdec⟩,hb2,hX⟩
 try dsimp only
 dsimp only at hD hdec
 refine gk (qc rfl (gy rfl (hD.bs.cell rfl) (gi call111 rfl (hD.rd.err) fun v28 w28 hr28=> ?_)))
 obtain⟨rfl,rfl⟩:=hr28
 refine jz rfl (jl rfl (fun hc=> ?_) (fun hc=> ?_))
 ·have hd2:x4 l=(ut,7):=by
   rw[hdec,endB]
   exact if_pos (by cases hb:s.bad;exact absurd (by rw[Ds.err,hb];rfl) hc;rfl)
  refine qa (qg rfl trivial (l':=jw ut noP) objZ_c.symm (wl (j8 (l':=jw ut noP) gc hb2 rfl rfl rfl rfl OneC.h fun w29 hb2 hE29 hs29=> ?_)))
  have hX:=hX.gh hE29 fr2
  refine jz rfl (gq (gp (qz [_,_] ⟨⟨b2,0,rfl,u0 gc rfl rfl hb2.ko rfl⟩,rfl,trivial⟩ ?_)))
  exact⟨noP,by rw[hd2];rfl,by rw[hd2];exact u6.nil _ _ _ rfl rfl rfl,hX⟩
 have hbd:s.bad=false:=by
  cases hb:s.bad
  ·rfl
  exact absurd (fun e=>by rw[Ds.err,hb] at e;exact absurd e zd) hc
 have hd1:x4 l=if xy o∧laidB o=l then(o,0) else(ut,160):=by
  rw[hdec,endB]
  exact if_neg (by rw[hbd];decide)
 refine j7 (j1 (qa (jr rfl hD.bo.ko (gt hD.oin) (gi call92 rfl (zw2 w28 hD.oin hD.new.l hD.sh) fun v30 w30 hr30=> ?_))))
 obtain⟨q,k2,rfl,hq,hqn,hE30⟩:=hr30
 have hb2:=hb2.ga hE30
 have hD:=hD.ga hE30
 have hX:=hX.gb hE30
 refine jz rfl (gk (jv (α:=Bool) [2,5] rfl (fun z=>[(80,.bool z)]) (fun z u=>(z=decide (¬(xy o∧laidB o=l))∧yq w1 u rb b4 b5 o aa s)∧j0 u b2 37 (cellsOf ti37.zero)∧Ext No w u) ?_ ?_))
 ·refine j4 ?_
  refine j9 gc rfl (jo 75 rfl (fun hg=> ?_) (fun hg=> ?_))
  ·have hok:¬xy o:=fun h=>hg (if_pos h)
   refine j2 gc 5 rfl (gm ?_)
   exact gz (true) rfl ⟨⟨by symm;rw[decide_eq_true_eq];exact fun h=>hok h.1,hD⟩,hb2,hX⟩
  have hok:xy o:=(zq5 zd).1 (Decidable.not_not.1 hg)
  refine j2 gc 2 rfl (gi call172 rfl (bytesEqual_calls w30 hq.sl (h.ga hX)) fun v31 w31 hr31=> ?_)
  obtain⟨rfl,rfl⟩:=hr31
  refine j2 gc 2 rfl (gm ?_)
  exact gz (_) rfl ⟨⟨by rw[encB,if_pos hok,←decide_not,decide_eq_decide];exact⟨fun h h2=>h h2.2,fun h h2=>h ⟨hok,h2⟩⟩,hD⟩,hb2,hX⟩
 rintro z w32 ⟨⟨rfl,hD⟩,hb2,hX⟩
 refine jl rfl (fun hc=> ?_) (fun hc=> ?_)
 ·have hd2:x4 l=(ut,160):=by rw[hd1];exact if_neg hc
  refine qa (qg rfl trivial (l':=jw ut noP) objZ_c.symm (wl (j8 (l':=jw ut noP) gc hb2 rfl rfl rfl rfl OneC.h fun w33 hb2 hE33 hs33=> ?_)))
  have hX:=hX.gh hE33 fr2
  refine jz rfl (gq (gp (qz [_,_] ⟨⟨b2,0,rfl,u0 gc rfl rfl hb2.ko rfl⟩,rfl,trivial⟩ ?_)))
  exact⟨noP,by rw[hd2];rfl,by rw[hd2];exact u6.nil _ _ _ rfl rfl rfl,hX⟩
 have hd2:x4 l=(o,0):=by rw[hd1];exact if_pos (Decidable.not_not.1 hc)
 refine j7 (j1 (qa (jr rfl hD.bo.ko (gt hD.oin) ?_)))
 have hN:=hD.new
 have hin:=hD.oin
 have hb2p:=hb2
 refine wl (j8 (l':=jw o aa) gc hb2 rfl rfl (gt hD.oin) (gt hD.oin) OneC.h fun w34 hb2 hE34 hs34=> ?_)
 have hX:=hX.gh hE34 fr2
 have hN:=hN.gj hE34 hb2p zd zd zd
 refine jz rfl (gq (qz [_,_] ⟨⟨b2,0,rfl,u0 gc rfl rfl hb2.ko (gt hin)⟩,rfl,trivial⟩ ?_))
 exact⟨aa,by rw[hd2];rfl,by rw[hd2];exact hN.older hX1.size,hX⟩
end Go.Proofs.YtpdiphfjmepijaaGreatDoor
