/-
  Walks and laws towards: StoreLasts: wherever the power goes, what is opened again has what was there, or what the batch was to bring, and all that its objects link to; for whatever deeds.
-/
import Derived.DeepKeys3
import Derived.MapKept
import Derived.MapFrom
import Derived.TacticsIn
import Derived.RangeFuncSeq
import Derived.RangeFuncLeaves
import Derived.OrdersIn
import Derived.Test.YtpdiphfjmepijaaGreatDoorLaB
open List renaming mem_iff_getElem→bG,getElem_map→bQ,map_append→bU,getElem?_toArray→bX,length_set→cK,length_nil→cL,getElem?_cons_zero→cN,flatMap_cons→cX,getElem?_eq_some_iff→dB,take_left'→dC,all_eq_true→dE,flatten_cons→dG,map_cons→dI,set_append_right→dM
open Bool renaming and_eq_true→bY
open Int renaming natCast_nonneg→cF
open Array renaming getD_eq_getD_getElem?→cG,ext'→cH,getElem?_eq_none→cI,getElem?_eq_some_iff→cJ,getElem?_setIfInBounds_ne→dJ
open Nat renaming add_mul→cS,le_of_ble_eq_true→dK,eq_of_beq_eq_true→dL
namespace Go.Proofs.YtpdiphfjmepijaaGreatDoor
open Go.Proofs.Tryz
open Go.Vc
theorem uStr : prog.underlying 9 = some .string := by kernel_rfl
theorem uBool : prog.underlying 4 = some .bool := by kernel_rfl
theorem uByte : prog.underlying 5 = some (.int .u8) := by kernel_rfl
theorem uId : prog.underlying 30 = some (.array 32 5) := by kernel_rfl
theorem cStr : prog.cellsOf 9 = 1 := by kernel_rfl
theorem cBool : prog.cellsOf 4 = 1 := by kernel_rfl
theorem cByte : prog.cellsOf 5 = 1 := by kernel_rfl
theorem cId : prog.cellsOf 30 = 32 := by kernel_rfl
theorem kId : prog.keyTypeAt 10 30 = true := by kernel_rfl
theorem gId : prog.eqGuardType prog.depth 30 = false := by kernel_rfl
theorem yn {l : List UInt8} (hl : l.length = 32) : prog.keyLits 2 30 (gh l) = some (zj4 l) := lits_bytes uId cId uByte cByte hl
theorem x8 {l : List UInt8} (hl : l.length = 32) : (Value.agg (gh l).toArray).formed prog 30 = true := by
  simp [Value.formed, cId, gm, hl]
theorem uChgD : prog.underlying 150 = some (.struct (prog.fieldsOf 150)) := by kernel_rfl
theorem cChgD : prog.cellsOf 150 = 3 := by kernel_rfl
theorem kChgD : prog.keyTypeAt 10 150 = true := by kernel_rfl
theorem gChgD : prog.eqGuardType prog.depth 150 = false := by kernel_rfl
theorem chgKey {r:vb} (h1:r.path.length<=maxLen) (h2:r.text.length<=maxLen):prog.keyLits 3 150 r.cells=some ([.string r.path,.bool r.is,.string r.text]):=by
 have a:[(9,0),(4,1),(9,2)].mapM (λp:Nat×Nat=>prog.keyLits 2 p.1 ((r.cells.drop p.2).take (prog.cellsOf p.1)))=some [[.string r.path],[.bool r.is],[.string r.text]]:=by
  have b:((r.cells.drop 0).take (prog.cellsOf 9))=[.string (vw r.path)]:=by rw[cStr];rfl
  have c:((r.cells.drop 1).take (prog.cellsOf 4))=[.bool r.is]:=by rw[cBool];rfl
  have f:((r.cells.drop 2).take (prog.cellsOf 9))=[.string (vw r.text)]:=by rw[cStr];rfl
  simp only[List.mapM_cons,List.mapM_nil,b,c,f,lits_str (d:=1) uStr h1,lits_bool (d:=1) uBool,lits_str (d:=1) uStr h2];rfl
 have e:=lits_struct (d:=2) (cs:=r.cells) uChgD zf (by rw[cChgD];exact Z) (L:=[(9,0),(4,1),(9,2)]) zf a;rw[e];simp
theorem chgForm {r : vb} (h : r.cells.length = 3) : (Value.agg r.cells.toArray).formed prog 150 = true := by
  simp [Value.formed, cChgD, h]
theorem uLeafD : prog.underlying 148 = some (.struct (prog.fieldsOf 148)) := by kernel_rfl
theorem cLeafD : prog.cellsOf 148 = 33 := by kernel_rfl
theorem kLeafD : prog.keyTypeAt 10 148 = true := by kernel_rfl
theorem gLeafD : prog.eqGuardType prog.depth 148 = false := by kernel_rfl
theorem leafKey {r:jn} (h1:r.path.length<=maxLen) (h2:r.id.length=32):prog.keyLits 3 148 r.cells=some (.string r.path::zj4 r.id):=by
 have a:[(9,0),(30,1)].mapM (λp:Nat×Nat=>prog.keyLits 2 p.1 ((r.cells.drop p.2).take (prog.cellsOf p.1)))=some [[.string r.path],zj4 r.id]:=by
  have b:((r.cells.drop 0).take (prog.cellsOf 9))=[.string (vw r.path)]:=by rw[cStr];rfl
  have c:((r.cells.drop 1).take (prog.cellsOf 30))=gh r.id:=by rw[cId];exact aN (by rw[<-h2];exact Nat.le_of_eq (gm _))
  simp only[List.mapM_cons,List.mapM_nil,b,c,lits_str (d:=1) uStr h1,yn h2];rfl
 have e:=lits_struct (d:=2) (cs:=r.cells) uLeafD zf (by rw[cLeafD];exact jn.len h2) (L:=[(9,0),(30,1)]) zf a;rw[e];simp
theorem leafForm {r : jn} (h : r.cells.length = 33) : (Value.agg r.cells.toArray).formed prog 148 = true := by
  simp [Value.formed, cLeafD, h]
theorem chg_eq {r s:vb}:([.string r.path,.bool r.is,.string r.text]:List Lit)=[.string s.path,.bool s.is,.string s.text]↔r=s:=by
 obtain⟨a,b,c⟩:=r;obtain⟨d,e,f⟩:=s;simp
theorem leaf_eq {r s:jn}:((.string r.path:Lit)::zj4 r.id)= .string s.path::zj4 s.id↔r=s:=by
 obtain⟨a,b⟩:=r;obtain⟨c,d⟩:=s;simp[vy]
theorem zq8 {α:Type} {l m:List α} (hl:l.length=m.length) (h:∀k (hk:k<l.length),l[k]=m[k]'zk):l=m:=
 List.ext_getElem hl λk h1 _=>h k h1
def RowsIn (l : List C5) : Prop := ∀ r ∈ l, r.path.length <= maxLen /\ r.text.length <= maxLen
def LeafIn (r : jn) : Prop := r.path.length <= maxLen /\ r.id.length = 32
def ChgIn (r : vb) : Prop := r.path.length <= maxLen /\ r.text.length <= maxLen
def vd (r : List UInt8) : Prop := r.length = 32
theorem vd.len {r : List UInt8} (h : vd r) : (gh r).length = 32 := by rw [gm]; exact h
theorem equalLeaf_calls (w:World) {p q:Option Addr} {c d:Nat} {l m:(List (jn))} (h:Sl w p l.length 33 (l.flatMap jn.cells)) (h':Sl w q m.length 33 (m.flatMap jn.cells)) (hl:l.length<1000000000) (h1:∀r∈l,LeafIn r) (h2:∀r∈m,LeafIn r):
  gn prog 234 [.slice p l.length c,.slice q m.length d] w λv w'=>v= .bool (decide (l=m))/\Ext No w w':=by
 refine gz func234 (have a:=Ext.refl No w;vo Z (kw Z (jy Z (λf=>?_) (λf=>?_))));exact gp (j1 (kg Z (gv (gu (gy Z Z ⟨congrArg Value.bool (by symm;rw[aE];intro h;rw[h] at f;exact f Z),a⟩)))));have B:l.length=m.length:=by omega
 refine xg (gp (kw Z (j8 (jl (α:=Nat) [0,1,12] Z (λz=>[(13,.int .i64 (z:Int))]) (λz u=>(z<=l.length/\∀k (A:k<l.length),k<z->l[k]=m[k]'zk)/\Ext No w u) (λz u=>l.length-z) (0) Z ⟨⟨aJ _,λk _ h=>absurd h (cE _)⟩,a⟩ ?_))));rintro i N ⟨⟨C,o⟩,a⟩;refine vo Z (jy Z (λf=>?_) (λf=>?_));have C:i<l.length:=by omega
 have s:i<m.length:=by omega
 obtain⟨b,D,rfl,E⟩:=h.qm (λr F=>jn.len (h1 r F).2) zk;obtain⟨O,t,rfl,G⟩:=h'.qm (λr F=>jn.len (h2 r F).2) zk;have g:=h1 _ (aC C);have j:=h2 _ (aC s);refine Bn (vo Z (ke Z 9 [qP 0,qP 1,qP 2,qP 3,qP 4,qP 5,qP 6,qP 7,qP 8] [] (No) zf λP H L=> have x:=a;have a:=a.gb H;gw ge 2 Z (u0 ge Z Z 33 Z i Z zk (D+i*33) Z (qu ge Z Z (λw' n=>((E i C).ga (x.gb n))) (jn.len g.2) (gw ge 2 Z (u0 ge Z Z 33 Z i Z zk (t+i*33) Z (qu ge Z Z (λw' n=>((G i s).ga (x.gb n))) (jn.len j.2) (yx2 Z Z gLeafD 10 zd kLeafD (leafForm (jn.len g.2)) (leafForm (jn.len j.2)) (leafKey g.1 g.2) (leafKey j.1 j.2) leaf_eq ?_))))))));simp only[bO,dF];refine js (ja (jq (jy Z (λf=>?_) (λf=>?_))));exact gp (j1 (kg Z (gv (jt (gu (gu (jt (gu (gy Z Z ⟨congrArg Value.bool (by symm;rw[aE];intro e;subst e;exact f Z),a⟩)))))))));have J:=aT.1 f;refine qf (Bi Z ?_);rw[qc _ zk];exact gl (jh (i+1) Z ⟨⟨by omega,λk A M=>(by rcases bC k i with K|K;exact o k A K;(have e:k=i:=zk);subst e;exact J)⟩,a⟩ zm);have y:l=m:=zq8 B λk A=>o k A zk;exact Bh (kw Z (gv (gy Z Z ⟨congrArg Value.bool (bZ y).symm,a⟩)))
theorem equalChange_calls (w:World) {p q:Option Addr} {c d:Nat} {l m:(List (vb))} (h:Sl w p l.length 3 (l.flatMap vb.cells)) (h':Sl w q m.length 3 (m.flatMap vb.cells)) (hl:l.length<1000000000) (h1:∀r∈l,ChgIn r) (h2:∀r∈m,ChgIn r):
  gn prog 236 [.slice p l.length c,.slice q m.length d] w λv w'=>v= .bool (decide (l=m))/\Ext No w w':=by
 refine gz func236 (have a:=Ext.refl No w;vo Z (kw Z (jy Z (λf=>?_) (λf=>?_))));exact gp (j1 (kg Z (gv (gu (gy Z Z ⟨congrArg Value.bool (by symm;rw[aE];intro h;rw[h] at f;exact f Z),a⟩)))));have B:l.length=m.length:=by omega
 refine xg (gp (kw Z (j8 (jl (α:=Nat) [0,1,12] Z (λz=>[(13,.int .i64 (z:Int))]) (λz u=>(z<=l.length/\∀k (A:k<l.length),k<z->l[k]=m[k]'zk)/\Ext No w u) (λz u=>l.length-z) (0) Z ⟨⟨aJ _,λk _ h=>absurd h (cE _)⟩,a⟩ ?_))));rintro i M ⟨⟨C,j⟩,a⟩;refine vo Z (jy Z (λf=>?_) (λf=>?_));have C:i<l.length:=by omega
 have n:i<m.length:=by omega
 obtain⟨b,D,rfl,E⟩:=h.qm (λr _=>r.len) zk;obtain⟨N,o,rfl,F⟩:=h'.qm (λr _=>r.len) zk;have s:=h1 _ (aC C);have t:=h2 _ (aC n);refine Bn (vo Z (ke Z 9 [qP 0,qP 1,qP 2,qP 3,qP 4,qP 5,qP 6,qP 7,qP 8] [] (No) zf λO G K=> have x:=a;have a:=a.gb G;gw ge 2 Z (u0 ge Z Z 3 Z i Z zk (D+i*3) Z (qu ge Z Z (λw' g=>((E i C).ga (x.gb g))) Z (gw ge 2 Z (u0 ge Z Z 3 Z i Z zk (o+i*3) Z (qu ge Z Z (λw' g=>((F i n).ga (x.gb g))) Z (yx2 Z Z gChgD 10 zd kChgD (chgForm Z) (chgForm Z) (chgKey s.1 s.2) (chgKey t.1 t.2) chg_eq ?_))))))));simp only[bO,dF];refine js (ja (jq (jy Z (λf=>?_) (λf=>?_))));exact gp (j1 (kg Z (gv (jt (gu (gu (jt (gu (gy Z Z ⟨congrArg Value.bool (by symm;rw[aE];intro e;subst e;exact f Z),a⟩)))))))));have H:=aT.1 f;refine qf (Bi Z ?_);rw[qc _ zk];exact gl (jh (i+1) Z ⟨⟨by omega,λk A L=>(by rcases bC k i with J|J;exact j k A J;(have e:k=i:=zk);subst e;exact H)⟩,a⟩ zm);have y:l=m:=zq8 B λk A=>j k A zk;exact Bh (kw Z (gv (gy Z Z ⟨congrArg Value.bool (bZ y).symm,a⟩)))
theorem equalId_calls (w:World) {p q:Option Addr} {c d:Nat} {l m:(List (List UInt8))} (h:Sl w p l.length 32 (l.flatMap gh)) (h':Sl w q m.length 32 (m.flatMap gh)) (hl:l.length<1000000000) (h1:∀r∈l,vd r) (h2:∀r∈m,vd r):
  gn prog 235 [.slice p l.length c,.slice q m.length d] w λv w'=>v= .bool (decide (l=m))/\Ext No w w':=by
 refine gz func235 (have a:=Ext.refl No w;vo Z (kw Z (jy Z (λf=>?_) (λf=>?_))));exact gp (j1 (kg Z (gv (gu (gy Z Z ⟨congrArg Value.bool (by symm;rw[aE];intro h;rw[h] at f;exact f Z),a⟩)))));have B:l.length=m.length:=by omega
 refine xg (gp (kw Z (j8 (jl (α:=Nat) [0,1,12] Z (λz=>[(13,.int .i64 (z:Int))]) (λz u=>(z<=l.length/\∀k (A:k<l.length),k<z->l[k]=m[k]'zk)/\Ext No w u) (λz u=>l.length-z) (0) Z ⟨⟨aJ _,λk _ h=>absurd h (cE _)⟩,a⟩ ?_))));rintro i N ⟨⟨C,o⟩,a⟩;refine vo Z (jy Z (λf=>?_) (λf=>?_));have C:i<l.length:=by omega
 have s:i<m.length:=by omega
 obtain⟨b,D,rfl,E⟩:=h.qm (λr F=>(h1 r F).len) zk;obtain⟨O,t,rfl,G⟩:=h'.qm (λr F=>(h2 r F).len) zk;have g:=h1 _ (aC C);have j:=h2 _ (aC s);refine Bn (vo Z (ke Z 9 [qP 0,qP 1,qP 2,qP 3,qP 4,qP 5,qP 6,qP 7,qP 8] [] (No) zf λP H L=> have x:=a;have a:=a.gb H;gw ge 2 Z (u0 ge Z Z 32 Z i Z zk (D+i*32) Z (qu ge Z Z (λw' n=>((E i C).ga (x.gb n))) (vd.len g) (gw ge 2 Z (u0 ge Z Z 32 Z i Z zk (t+i*32) Z (qu ge Z Z (λw' n=>((G i s).ga (x.gb n))) (vd.len j) (yx2 Z Z gId 10 zd kId (x8 g) (x8 j) (yn g) (yn j) vy ?_))))))));simp only[bO,dF];refine js (ja (jq (jy Z (λf=>?_) (λf=>?_))));exact gp (j1 (kg Z (gv (jt (gu (gu (jt (gu (gy Z Z ⟨congrArg Value.bool (by symm;rw[aE];intro e;subst e;exact f Z),a⟩)))))))));have J:=aT.1 f;refine qf (Bi Z ?_);rw[qc _ zk];exact gl (jh (i+1) Z ⟨⟨by omega,λk A M=>(by rcases bC k i with K|K;exact o k A K;(have e:k=i:=zk);subst e;exact J)⟩,a⟩ zm);have y:l=m:=zq8 B λk A=>o k A zk;exact Bh (kw Z (gv (gy Z Z ⟨congrArg Value.bool (bZ y).symm,a⟩)))
end Go.Proofs.YtpdiphfjmepijaaGreatDoor
namespace Go.Vc
structure jm where
  kind : Int
  text : Str
  leaves : List jn
  style : Int
  tree : List UInt8
  base : List UInt8
  parents : List (List UInt8)
  rows : List vb
  number : Nat
  author : Nat
  note : Str
  deriving DecidableEq
structure x9 where
  lp : Option Addr
  lc : Nat
  pp : Option Addr
  pc : Nat
  rp : Option Addr
  rc : Nat
def km (o : jm) (a : x9) : List Value :=
  [.int .i64 o.kind, yj o.text, .slice a.lp o.leaves.length a.lc, .int .i64 o.style] ++ (gh o.tree ++ (gh o.base ++
    [.slice a.pp o.parents.length a.pc, .slice a.rp o.rows.length a.rc, .int .u32 (o.number : Int), .int .u32 (o.author : Int), yj o.note]))
instance (o : jm) (a : x9) : OneC (km o a) := by unfold km; infer_instance
structure ub (o : jm) : Prop where
  tree : o.tree.length = 32
  base : o.base.length = 32
  parents : ∀ r ∈ o.parents, r.length = 32
  leaves : ∀ r ∈ o.leaves, r.path.length <= maxLen /\ r.id.length = 32
  rows : ∀ r ∈ o.rows, r.path.length <= maxLen /\ r.text.length <= maxLen
  number : o.number < 2 ^ 32
  author : o.author < 2 ^ 32
theorem gr {o:jm} {a:x9} (h:ub o):(km o a).length=73:=by
 simp only[km,ao,gm,h.tree,h.base,aQ,cL]
structure Ch (w : World) (o : jm) (a : x9) : Prop where
  leaves : Sl w a.lp o.leaves.length 33 (o.leaves.flatMap jn.cells)
  parents : Sl w a.pp o.parents.length 32 (o.parents.flatMap gh)
  rows : Sl w a.rp o.rows.length 3 (o.rows.flatMap vb.cells)
theorem Ch.ga {w w' : World} {o : jm} {a : x9} (h : Ch w o a) (hE : Ext No w w') : Ch w' o a := ⟨h.leaves.ga hE, h.parents.ga hE, h.rows.ga hE⟩
structure ObjAt (w : World) (b off : Nat) (o : jm) (a : x9) : Prop where
  kind : w.cell? ⟨b, off, none⟩ = some (.int .i64 o.kind)
  text : w.cell? ⟨b, off + 1, none⟩ = some (yj o.text)
  leaves : w.cell? ⟨b, off + 2, none⟩ = some (.slice a.lp o.leaves.length a.lc)
  style : w.cell? ⟨b, off + 3, none⟩ = some (.int .i64 o.style)
  tree : Seg w b (off + 4) (gh o.tree)
  base : Seg w b (off + 36) (gh o.base)
  parents : w.cell? ⟨b, off + 68, none⟩ = some (.slice a.pp o.parents.length a.pc)
  rows : w.cell? ⟨b, off + 69, none⟩ = some (.slice a.rp o.rows.length a.rc)
  number : w.cell? ⟨b, off + 70, none⟩ = some (.int .u32 (o.number : Int))
  author : w.cell? ⟨b, off + 71, none⟩ = some (.int .u32 (o.author : Int))
  note : w.cell? ⟨b, off + 72, none⟩ = some (yj o.note)
theorem Seg.obj {w:World} {b off:Nat} {o:jm} {a:x9} (hs:Seg w b off (km o a)) (h:ub o):ObjAt w b off o a:=by
 unfold km at hs;obtain⟨d,f⟩:=Seg.append.1 hs;obtain⟨g,i⟩:=Seg.append.1 f;obtain⟨e,c⟩:=Seg.append.1 i;have j:off+4+(gh o.tree).length=off+36:=by rw[gm,h.tree]
 have e:Seg w b (off+4+(gh o.tree).length) (gh o.base):=e;have c:Seg w b (off+4+(gh o.tree).length+(gh o.base).length) _:=c;rw[j] at e c;rw[gm,h.base] at c;exact⟨d 0 _ Z,d 1 _ Z,d 2 _ Z,d 3 _ Z,g,e,c 0 _ Z,c 1 _ Z,c 2 _ Z,c 3 _ Z,c 4 _ Z⟩
theorem ObjAt.ga {w w':World} {b off:Nat} {o:jm} {a:x9} (hs:ObjAt w b off o a) (hE:Ext No w w'):ObjAt w' b off o a:=by
 have c:∀{k:Nat} {v:Value},w.cell? ⟨b,k,none⟩=some v->w'.cell? ⟨b,k,none⟩=some v:=λ{k v} e=>by
  have f:Seg w b k [v]:=λi u d=>by
   cases i with
   |zero=>cases d;exact e
   |succ i=>cases d
  exact(f.ga hE) 0 v Z
 exact⟨c hs.kind,c hs.text,c hs.leaves,c hs.style,hs.tree.ga hE,hs.base.ga hE,c hs.parents,c hs.rows,c hs.number,c hs.author,c hs.note⟩
abbrev idZ : List UInt8 := List.replicate 32 0
def x1 : jm := ⟨0, [], [], 0, idZ, idZ, [], [], 0, 0, []⟩
theorem u6:ub x1:=⟨Z,Z,λ_ h=>absurd h List.not_mem_nil,λ_ h=>absurd h List.not_mem_nil,λ_ h=>absurd h List.not_mem_nil,by decide,by decide⟩
def StyleIs (o : jm) : Prop :=
  o.style = 1 /\ o.parents.length = 0 /\ o.base = idZ /\ o.rows.length = 0 /\ o.number = 0 \/
  o.style = 2 /\ o.parents.length = 1 /\ o.base = idZ /\ 0 < o.number \/
  o.style = 3 /\ o.parents.length = 2 /\ o.parents.getD 0 [] ≠ o.parents.getD 1 [] /\ 0 < o.number
instance (o : jm) : Decidable (StyleIs o) := inferInstanceAs (Decidable (_ \/ _))
def StyleOk (o : jm) : Prop := idZ ∉ o.parents /\ StyleIs o
instance (o : jm) : Decidable (StyleOk o) := inferInstanceAs (Decidable (_ /\ _))
def zx4 (o : jm) : Prop := o.tree ≠ idZ /\ StyleOk o
instance (o : jm) : Decidable (zx4 o) := inferInstanceAs (Decidable (_ /\ _))
def NoCom (o : jm) : Prop := o.style = 0 /\ o.tree = idZ /\ o.base = idZ /\ o.parents.length = 0 /\ o.rows.length = 0 /\ o.number = 0 /\ o.author = 0 /\ o.note = []
instance (o : jm) : Decidable (NoCom o) := inferInstanceAs (Decidable (_ /\ _))
def Leaved (l : List jn) : Prop := xj4 (l.map jn.path) /\ ∀ x ∈ l, x.id ≠ idZ
instance (l : List jn) : Decidable (Leaved l) := inferInstanceAs (Decidable (_ /\ _))
def BlobOk (o : jm) : Prop := o.text.length <= 256 /\ o.leaves.length = 0 /\ NoCom o
instance (o : jm) : Decidable (BlobOk o) := inferInstanceAs (Decidable (_ /\ _))
def TreeOk (o : jm) : Prop := Leaved o.leaves /\ o.text = [] /\ NoCom o
instance (o : jm) : Decidable (TreeOk o) := inferInstanceAs (Decidable (_ /\ _))
def ComOk (o : jm) : Prop := o.text = [] /\ o.leaves.length = 0 /\ o.note.length <= 200 /\ EditOk o.rows /\ zx4 o
instance (o : jm) : Decidable (ComOk o) := inferInstanceAs (Decidable (_ /\ _))
def A9 (o : jm) : Prop := o.kind = 1 /\ BlobOk o \/ o.kind = 2 /\ TreeOk o \/ o.kind = 3 /\ ComOk o
instance (o : jm) : Decidable (A9 o) := inferInstanceAs (Decidable (_ \/ _))
theorem blob_zero {o:jm}:BlobOk o↔o.text.length<=256/\{o with kind:=0,text:=[]}=x1:=by
 obtain⟨k,t,l,s,b,c,p,r,n,a,d⟩:=o;simp only[BlobOk,NoCom,x1,jm.mk.injEq,List.length_eq_zero_iff,true_and]
theorem tree_zero {o:jm}:TreeOk o↔Leaved o.leaves/\{o with kind:=0,leaves:=[]}=x1:=by
 obtain⟨k,t,l,s,b,c,p,r,n,a,d⟩:=o
 simp only[TreeOk,NoCom,x1,jm.mk.injEq,List.length_eq_zero_iff,true_and]
def vj (n : Nat) (s : Str) : List UInt8 := be n s.length ++ s
def isB (b : Bool) : UInt8 := if b then 1 else 0
def Cq (r : jn) : List UInt8 := vj 1 r.path ++ r.id
def Dk (r : vb) : List UInt8 := vj 1 r.path ++ [isB r.is] ++ vj 2 r.text
def treeB (l : List jn) : List UInt8 := be 1 l.length ++ l.flatMap Cq
def comB (o : jm) : List UInt8 := be 1 o.style.toNat ++ o.tree ++ be 1 o.parents.length ++ o.parents.flatten ++ o.base ++ be 1 o.rows.length ++ o.rows.flatMap Dk ++ be 4 o.number ++ be 4 o.author ++ vj 1 o.note
def laidB (o : jm) : List UInt8 :=
  be 1 o.kind.toNat ++ if o.kind = 1 then vj 2 o.text else if o.kind = 2 then treeB o.leaves else comB o
def yv (o : jm) : Prop := A9 o /\ (laidB o).length <= 800
instance (o : jm) : Decidable (yv o) := inferInstanceAs (Decidable (_ /\ _))
def vv (o : jm) : List UInt8 := sumW (laidB o)
def qd (o : jm) : List (List UInt8) := if o.kind = 2 then o.leaves.map jn.id else if o.kind = 3 then o.tree :: o.parents else []
theorem D9 {α β:Type} {f:α->List β} {n:Nat}:∀{l:List α},(∀x∈l,(f x).length<=n)->(l.flatMap f).length<=l.length*n
 | [],_=>by simp
 |x::r,h=>by
  have h1:=h x zq
  have b:=D9 (f:=f) (n:=n) (l:=r) λy a=>h y (by simp[a])
  rw[cX,ao,aQ,Nat.succ_mul]
  omega
theorem yq6 {l:List (List UInt8)} {n:Nat} (h:∀x∈l,x.length=n):l.flatten.length=l.length*n:=by
 induction l with
 |nil=>simp
 |cons x r ih=>rw[dG,ao,h x zq,ih λy a=>h y (by simp[a]),aQ,Nat.succ_mul,Nat.add_comm]
structure Ds where
  rest : List UInt8
  bad : Bool
def Ds.off (s : Ds) (n : Nat) : List UInt8 × Ds := if s.bad = true \/ s.rest.length < n then ([], ⟨s.rest, true⟩) else (s.rest.take n, ⟨s.rest.drop n, false⟩)
def Ds.err (s : Ds) : Int := if s.bad then 7 else 0
def Ds.str (s : Ds) (n : Nat) : Str × Ds := (s.off n).2.off (num (s.off n).1)
def Ds.id (s : Ds) : List UInt8 × Ds := ((s.off 32).1 ++ List.replicate (32 - (s.off 32).1.length) 0, (s.off 32).2)
def Ds.each {α : Type} (f : Ds -> α × Ds) : Nat -> Ds -> List α × Ds
  | 0, s => ([], s)
  | n + 1, s => if s.bad then ([], s) else ((f s).1 :: (Ds.each f n (f s).2).1, (Ds.each f n (f s).2).2)
def Ds.leaf (s : Ds) : jn × Ds := (⟨(s.str 1).1, (s.str 1).2.id.1⟩, (s.str 1).2.id.2)
def Ds.chg (s : Ds) : vb × Ds :=
  (⟨(s.str 1).1, decide (0 < num ((s.str 1).2.off 1).1), (((s.str 1).2.off 1).2.str 2).1⟩, (((s.str 1).2.off 1).2.str 2).2)
def Ds.row {α : Type} (f : Ds -> α × Ds) (s : Ds) : List α × Ds := Ds.each f (num (s.off 1).1) (s.off 1).2
def Ds.com (s : Ds) : jm × Ds :=
  let a := s.off 1
  let t := a.2.id
  let p := t.2.row Ds.id
  let b := p.2.id
  let r := b.2.row Ds.chg
  let n := r.2.off 4
  let m := n.2.off 4
  let x := m.2.str 1
  (⟨3, [], [], (num a.1 : Nat), t.1, b.1, p.1, r.1, num n.1, num m.1, x.1⟩, x.2)
def endB (b : List UInt8) (o : jm × Ds) : jm × Int :=
  if o.2.bad then (x1, 7) else if yv o.1 /\ laidB o.1 = b then (o.1, 0) else (x1, 160)
def ye (b : List UInt8) : jm × Int :=
  if b = [] then (x1, 7)
  else
    let a := (⟨b, false⟩ : Ds).off 1
    if num a.1 = 1 then endB b ({ x1 with kind := 1, text := (a.2.str 2).1 }, (a.2.str 2).2)
    else if num a.1 = 2 then endB b ({ x1 with kind := 2, leaves := (a.2.row Ds.leaf).1 }, (a.2.row Ds.leaf).2)
    else if num a.1 = 3 then endB b a.2.com
    else (x1, 160)
theorem Ds.vq (s:Ds) (n:Nat):(s.off n).1.length<=n/\(s.off n).2.rest.length<=s.rest.length/\(s.off n).1.length<=s.rest.length:=by
 unfold Ds.off;split<;>simp<;>omega
theorem Ds.yz (s:Ds):s.id.1.length=32/\s.id.2.rest.length<=s.rest.length:=by
 have:=s.vq 32;simp only[Ds.id,ao,bN];omega
theorem Ds.y6 (s:Ds) (n:Nat):(s.str n).1.length<=s.rest.length/\(s.str n).2.rest.length<=s.rest.length:=by
 have a:=s.vq n;have b:=(s.off n).2.vq (num (s.off n).1);simp only[Ds.str];omega
theorem Ds.each_step {α:Type} {f:Ds->α×Ds} {n:Nat} {s:Ds} (h:s.bad=false):Ds.each f (n+1) s=((f s).1::(Ds.each f n (f s).2).1,(Ds.each f n (f s).2).2):=by
 rw[Ds.each,h];rfl
theorem Ds.each_end {α:Type} {f:Ds->α×Ds} {n:Nat} {s:Ds} (h:n=0\/s.bad=true):Ds.each f n s=([],s):=by
 cases n with
 |zero=>rfl
 |succ n=>rw[Ds.each,aL (h.resolve_left zk)]
theorem Ds.xv7 {α:Type} {f:Ds->α×Ds}:∀(n:Nat) (s:Ds),(Ds.each f n s).1.length<=n
 |0,s=>by simp[Ds.each]
 |n+1,s=>by
  rw[Ds.each]
  split
  ·simp
  have:=Ds.xv7 (f:=f) n (f s).2
  simp only[aQ]
  omega
end Go.Vc
namespace Go.Proofs.YtpdiphfjmepijaaGreatDoor
open Go.Proofs.Tryz
open Go.Vc
def Flat (x y : jm) : Prop := x.kind = y.kind /\ x.text = y.text /\ x.style = y.style /\ x.tree = y.tree /\ x.base = y.base /\ x.number = y.number /\ x.author = y.author /\ x.note = y.note
instance (x y : jm) : Decidable (Flat x y) := inferInstanceAs (Decidable (_ /\ _))
theorem same_iff {x y:jm}:x=y↔Flat x y/\x.leaves=y.leaves/\x.parents=y.parents/\x.rows=y.rows:=by
 cases x;cases y;simp only[Flat,jm.mk.injEq];constructor;rintro⟨rfl,rfl,rfl,rfl,rfl,rfl,rfl,rfl,rfl,rfl,rfl⟩;exact⟨⟨Z,Z,Z,Z,Z,Z,Z,Z⟩,Z,Z,Z⟩
 rintro⟨⟨rfl,rfl,rfl,rfl,rfl,rfl,rfl,rfl⟩,rfl,rfl,rfl⟩;exact⟨Z,Z,Z,Z,Z,Z,Z,Z,Z,Z,Z⟩
theorem str_iff {a b : Str} : vw a = vw b ↔ a = b := ⟨λh => Bo h, λh => h ▸ rfl⟩
structure Cw (x : jm) : Prop where
  leaves : x.leaves.length < 1000000000
  parents : x.parents.length < 1000000000
  rows : x.rows.length < 1000000000
  leafP : ∀ r ∈ x.leaves, r.path.length < 1000000000
  rowP : ∀ r ∈ x.rows, r.path.length < 1000000000
theorem sameObj_calls (w:World) {x y:jm} {a b:x9} (hx:ub x) (hy:ub y) (hxl:Ch w x a) (hyl:Ch w y b) (hsx:Cw x):
  gn prog 223 [.agg (km x a).toArray,.agg (km y b).toArray] w λv w'=>v= .bool (decide (x=y))/\Ext No w w':=by
 refine gz func223 (have d:=Ext.refl No w;qr (gt Z λB D E f q=> have d:=d.gb q;have f:j0 D B 37 (km x a):=f;have i:=f.ql.obj hx;gt Z λC F G g k=> have f:=f.ga k;have i:=i.ga k;have d:=d.gb k;have g:j0 F C 37 (km y b):=g;have j:=g.ql.obj hy;kg Z (ju (α:=Bool) [2,3] Z (λz=>[(5,.bool z)]) (λz u=>(z=decide (Flat x y))/\j0 u B 37 (km x a)/\j0 u C 37 (km y b)/\Ext No w u) ?_ ?_)));refine j1 (j6 ge Z (gx Z i.kind (j6 ge Z (gx Z j.kind (j6 ge Z (jw 11 Z (λc=>?_) (λc=>?_)))))));have H:x.kind=y.kind:=by exact c
 refine j4 ge 1 Z (gx Z i.text (j4 ge 1 Z (gx Z j.text (j4 ge 3 Z (jw 18 Z (λc=>?_) (λc=>?_))))));have J:x.text=y.text:=by exact str_iff.1 c
 refine j4 ge 1 Z (gx Z i.style (j4 ge 1 Z (gx Z j.style (j4 ge 3 Z (jw 25 Z (λc=>?_) (λc=>?_))))));have K:x.style=y.style:=by exact c
 refine j4 ge 1 Z (jk Z i.tree (vd.len hx.tree) (j4 ge 1 Z (jk Z j.tree (vd.len hy.tree) (wl (yw0 Z gId 10 zd kId (x8 hx.tree) (x8 hy.tree) (yn hx.tree) (yn hy.tree) vy ?_)))));simp only[cT];refine j6 ge Z (jw 32 Z (λc=>?_) (λc=>?_));have L:x.tree=y.tree:=by exact c
 refine j4 ge 1 Z (jk Z i.base (vd.len hx.base) (j4 ge 1 Z (jk Z j.base (vd.len hy.base) (wl (yw0 Z gId 10 zd kId (x8 hx.base) (x8 hy.base) (yn hx.base) (yn hy.base) vy ?_)))));simp only[cT];refine j6 ge Z (jw 39 Z (λc=>?_) (λc=>?_));have M:x.base=y.base:=by exact c
 refine j4 ge 1 Z (gx Z i.number (j4 ge 1 Z (gx Z j.number (j4 ge 3 Z (jw 46 Z (λc=>?_) (λc=>?_))))));have N:x.number=y.number:=by omega
 refine j4 ge 1 Z (gx Z i.author (j4 ge 1 Z (gx Z j.author (j4 ge 3 Z (jw 53 Z (λc=>?_) (λc=>?_))))));have O:x.author=y.author:=by omega
 exact j4 ge 1 Z (gx Z i.note (j4 ge 1 Z (gx Z j.note (j4 ge 3 Z (gl (j2 (_) Z ⟨by rw[aP,str_iff];exact⟨λh=>⟨H,J,K,L,M,N,O,h⟩,λh=>h.2.2.2.2.2.2.2⟩,f,g,d⟩))))));have P:¬x.author=y.author:=λe=>c (by rw[e]);exact j4 ge 7 Z (gl (j2 (false) Z ⟨by symm;rw[aE];exact λh=>P h.2.2.2.2.2.2.1,f,g,d⟩));have Q:¬x.number=y.number:=λe=>c (by rw[e]);exact j4 ge 14 Z (gl (j2 (false) Z ⟨by symm;rw[aE];exact λh=>Q h.2.2.2.2.2.1,f,g,d⟩));have R:¬x.base=y.base:=λe=>c (by rw[e]);exact j4 ge 21 Z (gl (j2 (false) Z ⟨by symm;rw[aE];exact λh=>R h.2.2.2.2.1,f,g,d⟩));have S:¬x.tree=y.tree:=λe=>c (by rw[e]);exact j4 ge 28 Z (gl (j2 (false) Z ⟨by symm;rw[aE];exact λh=>S h.2.2.2.1,f,g,d⟩));have T:¬x.style=y.style:=λe=>c (by rw[e]);exact j4 ge 35 Z (gl (j2 (false) Z ⟨by symm;rw[aE];exact λh=>T h.2.2.1,f,g,d⟩));have U:¬x.text=y.text:=λe=>c (by rw[e]);exact j4 ge 42 Z (gl (j2 (false) Z ⟨by symm;rw[aE];exact λh=>U h.2.1,f,g,d⟩));have V:¬x.kind=y.kind:=λe=>c (by rw[e]);exact j4 ge 49 Z (gl (j2 (false) Z ⟨by symm;rw[aE];exact λh=>V h.1,f,g,d⟩));rintro z W ⟨p,f,g,d⟩;have i:=f.ql.obj hx;have j:=g.ql.obj hy;refine ju (α:=Bool) [] Z (λz=>[(4,.bool z)]) (λz u=>(z=decide (x=y))/\Ext No w u) ?_ ?_;refine j1 (j6 ge Z (ut 61 Z (λc=>?_) (λc=>?_)));have p:Flat x y:=by simpa [c] using p
 refine j4 ge 1 Z (gx Z i.leaves (j4 ge 1 Z (gx Z j.leaves (gj call234 Z (equalLeaf_calls W (hxl.leaves.ga d) (hyl.leaves.ga d) hsx.leaves hx.leaves hy.leaves) ?_))));rintro r X⟨rfl,l⟩;have i:=i.ga l;have j:=j.ga l;have d:=d.gb l;refine j6 ge Z (jw 68 Z (λc=>?_) (λc=>?_));have m:=c;refine j4 ge 1 Z (gx Z i.parents (j4 ge 1 Z (gx Z j.parents (gj call235 Z (equalId_calls X (hxl.parents.ga d) (hyl.parents.ga d) hsx.parents hx.parents hy.parents) ?_))));rintro v5 Y⟨rfl,n⟩;have i:=i.ga n;have j:=j.ga n;have d:=d.gb n;refine j6 ge Z (jw 75 Z (λc=>?_) (λc=>?_));have o:=c;refine j4 ge 2 Z (gx Z i.rows (j4 ge 2 Z (gx Z j.rows (gj call236 Z (equalChange_calls Y (hxl.rows.ga d) (hyl.rows.ga d) hsx.rows hx.rows hy.rows) ?_))));rintro v6 w6⟨rfl,A⟩;have d:=d.gb A;refine j6 ge Z (gl ?_);exact j2 (_) Z ⟨by rw[aP];exact⟨λh=>same_iff.2 ⟨p,m,o,h⟩,λh=>(same_iff.1 h).2.2.2⟩,d⟩;have o:=c;exact j4 ge 9 Z (gl (j2 (false) Z ⟨by symm;rw[aE];exact λh=>o (same_iff.1 h).2.2.1,d⟩));have m:=c;exact j4 ge 16 Z (gl (j2 (false) Z ⟨by symm;rw[aE];exact λh=>m (same_iff.1 h).2.1,d⟩));have p:¬Flat x y:=by simpa [c] using p
 exact j4 ge 23 Z (gl (j2 (false) Z ⟨by symm;rw[aE];exact λh=>p (same_iff.1 h).1,d⟩));rintro z w7 ⟨rfl,d⟩;exact gv (gy Z Z ⟨Z,d⟩)
theorem objZ_l (w : World) : Ch w x1 ⟨none, 0, none, 0, none, 0⟩ := ⟨Sl.nil _ _ _, Sl.nil _ _ _, Sl.nil _ _ _⟩
theorem objZ_c : km x1 ⟨none, 0, none, 0, none, 0⟩ = cellsOf ti37.zero := by kernel_rfl
theorem zeroObj_calls (w:World) {x:jm} {a:x9} (hx:ub x) (hxl:Ch w x a) (hsx:Cw x):
  gn prog 212 [.agg (km x a).toArray] w λv w'=>v= .bool (decide (x=x1))/\Ext No w w':=by
 refine gz func212 ?_;have c:=Ext.refl No w;refine qr (gt Z λh g i b d=>?_);have c:=c.gb d;have b:j0 g h 37 (km x a):=b;refine kg Z (qr (jf b Z (gr hx) (u1 Z trivial (l':=km x1 ⟨none,0,none,0,none,0⟩) objZ_c.symm (gj call223 Z (sameObj_calls g hx u6 (hxl.ga c) (objZ_l _) hsx) ?_))));rintro j k⟨rfl,f⟩;have c:=c.gb f;refine kg Z (gv (gy Z Z ?_));exact⟨Z,c⟩
theorem Dd : gh idZ = cellsOf ti30.zero := by kernel_rfl
theorem yw9 : vd idZ := rfl
theorem indexId_calls (w:World) {p:Option Addr} {c:Nat} {l:List (List UInt8)} {x:List UInt8} (h:Sl w p l.length 32 (l.flatMap gh)) (hl:l.length<1000000000) (h1:∀r∈l,vd r) (hx:vd x):
  gn prog 244 [.slice p l.length c,.agg (gh x).toArray] w λv w'=>∃n:Int,v= .int .i64 n/\(0<=n↔x∈l)/\Ext No w w':=by
 refine gz func244 ?_;have d:=Ext.refl No w;refine qr (gt Z λF H J a A=>?_);have d:=d.gb A;have a:j0 H F 30 (gh x):=a;refine kg Z (gp (kw Z (j8 (jl (α:=Nat) [0,3,7] Z (λz=>[(8,.int .i64 (z:Int))]) (λz u=>(z<=l.length/\∀k (G:k<l.length),k<z->¬x=l[k])/\j0 u F 30 (gh x)/\Ext No w u) (λz u=>l.length-z) (0) Z ⟨⟨aJ _,λk _ h=>absurd h (cE _)⟩,a,d⟩ ?_))));rintro i L ⟨⟨j,m⟩,a,d⟩;refine vo Z (jy Z (λo=>?_) (λo=>?_));have j:i<l.length:=by omega
 obtain⟨b,B,rfl,q⟩:=(h.qm (λr C=>(h1 r C).len) zk)
 have f:=h1 _ (aC j);refine Bn (vo Z (ke Z 6 [qP 0,qP 1,qP 2,qP 3,qP 4,qP 5] [] (No) zf λM s K=> have D:=a;have E:=d;have a:=a.ga s;have d:=d.gb s;qu ge Z Z (λw' g=>(D.ga g).ql) hx.len (gw ge 2 Z (u0 ge Z Z 32 Z i Z zk (B+i*32) Z (qu ge Z Z (λw' g=>((q i j).ga (E.gb g))) f.len (yx2 Z Z gId 10 zd kId (x8 hx) (x8 f) (yn hx) (yn f) vy ?_))))));simp only[cT];refine js (ja (jq (jy Z (λo=>?_) (λo=>?_))));exact gp (j1 (kg Z (gv (jt (gu (gu (jt (gu (gy Z Z ⟨_,Z,⟨λ_=>o▸aC j,λ_=>cF _⟩,d⟩)))))))));refine qf (Bi Z ?_);rw[qc _ zk];exact gl (jh (i+1) Z ⟨⟨by omega,allStep (p:=λy=>¬x=y) m j o⟩,a,d⟩ zm);have t:¬x∈l:=λC=>by obtain⟨k,G,e⟩:=bG.1 C;exact m k G zk e.symm
 exact Bh (kw Z (gv (gy Z Z ⟨_,Z,⟨λh=>absurd h zd,λh=>absurd h t⟩,d⟩)))
theorem containsId_calls (w:World) {p:Option Addr} {c:Nat} {l:List (List UInt8)} {x:List UInt8} (h:Sl w p l.length 32 (l.flatMap gh)) (hl:l.length<1000000000) (h1:∀r∈l,vd r) (hx:vd x):
  gn prog 231 [.slice p l.length c,.agg (gh x).toArray] w λv w'=>v= .bool (decide (x∈l))/\Ext No w w':=by
 refine gz func231 ?_;have b:=Ext.refl No w;refine qr (gt Z λj i k a d=>?_);have b:=b.gb d;have a:j0 i j 30 (gh x):=a;refine kg Z (qj Z (jf a Z hx.len (gj call244 Z (indexId_calls i (h.ga b) hl h1 hx) ?_)));rintro m o⟨n,rfl,f,g⟩;have b:=b.gb g;refine kg Z (gv (gy Z Z ?_));exact⟨congrArg Value.bool (aP.2 f),b⟩
theorem styled_no {o : jm} (h : idZ ∈ o.parents \/ o.tree = idZ) : ¬ zx4 o := λhs => h.elim hs.2.1 hs.1
theorem styled1 {o:jm} (h:¬(idZ∈o.parents\/o.tree=idZ)) (hs:o.style=1):zx4 o↔o.parents.length=0/\o.base=idZ/\o.rows.length=0/\o.number=0:=by
 constructor;rintro⟨_,_,a|a|a⟩;exact a.2;exact absurd (hs.symm.trans a.1) zd;exact absurd (hs.symm.trans a.1) zd;exact λa=>⟨λe=>h (.inr e),λe=>h (.inl e),.inl ⟨hs,a⟩⟩
theorem styled2 {o:jm} (h:¬(idZ∈o.parents\/o.tree=idZ)) (hs:o.style=2):zx4 o↔o.parents.length=1/\o.base=idZ/\0<o.number:=by
 constructor;rintro⟨_,_,a|a|a⟩;exact absurd (hs.symm.trans a.1) zd;exact a.2;exact absurd (hs.symm.trans a.1) zd;exact λa=>⟨λe=>h (.inr e),λe=>h (.inl e),.inr (.inl ⟨hs,a⟩)⟩
theorem styled3 {o:jm} (h:¬(idZ∈o.parents\/o.tree=idZ)) (hs:o.style=3):zx4 o↔o.parents.length=2/\o.parents.getD 0 []≠o.parents.getD 1 []/\0<o.number:=by
 constructor;rintro⟨_,_,a|a|a⟩;exact absurd (hs.symm.trans a.1) zd;exact absurd (hs.symm.trans a.1) zd;exact a.2;exact λa=>⟨λe=>h (.inr e),λe=>h (.inl e),.inr (.inr ⟨hs,a⟩)⟩
theorem styled0 {o:jm} (h1:¬o.style=1) (h2:¬o.style=2) (h3:¬o.style=3):¬zx4 o:=λh=>h.2.2.elim (λh=>h1 h.1) λh=>h.elim (λh=>h2 h.1) λh=>h3 h.1
theorem getD_get {α:Type} {l:List α} {i:Nat} (h:i<l.length) (d:α):l.getD i d=l[i]:=by rw[bH,aG h];rfl
theorem styledObj_calls (w:World) {x:jm} {a:x9} (hx:ub x) (hxl:Ch w x a) (hsx:Cw x):
  gn prog 215 [.agg (km x a).toArray] w λv w'=>v= .bool (decide (zx4 x))/\Ext No w w':=by
 refine gz func215 (have c:=Ext.refl No w;qr (gt Z λH J L e C=> have c:=c.gb C;have e:j0 J H 37 (km x a):=e;have i:=e.ql.obj hx;kg Z (gp (ju (α:=Bool) [1] Z (λz=>[(13,.bool z)]) (λz u=>(z=decide (idZ∈x.parents\/x.tree=idZ))/\j0 u H 37 (km x a)/\Ext No w u) ?_ ?_))));refine j1 (j6 ge Z (gx Z i.parents (u1 Z trivial (l':=gh idZ) Dd.symm (gj call231 Z (containsId_calls J (hxl.parents.ga c) hsx.parents hx.parents yw9) ?_))));rintro O P⟨rfl,k⟩;have e:=e.ga k;have i:=i.ga k;have c:=c.gb k;refine j6 ge Z (jw 8 Z (λd=>?_) (λd=>?_));exact j4 ge 5 Z (gl (j2 (true) Z ⟨by symm;rw[bD];exact .inl d,e,c⟩));refine j4 ge 1 Z (jk Z i.tree (vd.len hx.tree) (u1 Z trivial (l':=gh idZ) Dd.symm (wl (yw0 Z gId 10 zd kId (x8 hx.tree) (x8 yw9) (yn hx.tree) (yn yw9) vy ?_))));simp only[cT];exact j6 ge Z (gl (j2 (_) Z ⟨by rw[aP];exact⟨λh=> .inr h,λh=>h.resolve_left d⟩,e,c⟩));rintro z Q ⟨rfl,e,c⟩;have i:=e.ql.obj hx;refine jy Z (λg=>?_) (λg=>?_);have E:=styled_no g;exact kw Z (gv (gu (gy Z Z ⟨congrArg Value.bool (decide_eq_false E).symm,c⟩)));have j:=g;refine xg (qj Z (gx Z i.parents (kg Z (gp (qj Z (gx Z i.style (u3 (j8 (qr (kg Z (jy Z (λg=>?_) (λg=>?_))))))))))));have q:x.style=1:=g;refine ju (α:=Bool) [] Z (λz=>[(2,.bool z)]) (λz u=>(z=decide (zx4 x))/\Ext No w u) ?_ ?_;refine j1 (j6 ge Z (jw 23 Z (λd=>?_) (λd=>?_)));refine j4 ge 1 Z (jk Z i.base (vd.len hx.base) (u1 Z trivial (l':=gh idZ) Dd.symm (wl (yw0 Z gId 10 zd kId (x8 hx.base) (x8 yw9) (yn hx.base) (yn yw9) vy ?_))));simp only[cT];refine j6 ge Z (jw 29 Z (λd=>?_) (λd=>?_));have l:=d;refine j4 ge 2 Z (gx Z i.rows (j4 ge 4 Z (jw 36 Z (λd=>?_) (λd=>?_))));exact j4 ge 1 Z (gx Z i.number (j4 ge 3 Z (gl (j2 (_) Z ⟨by rw[aP,styled1 j q];exact⟨λh=>⟨by omega,l,by omega,by omega⟩,λh=>by omega⟩,c⟩))));exact j4 ge 5 Z (gl (j2 (false) Z ⟨by symm;rw[aE,styled1 j q];intro h;omega,c⟩));have l:=d;exact j4 ge 12 Z (gl (j2 (false) Z ⟨by symm;rw[aE,styled1 j q];intro h;exact l h.2.1,c⟩));exact j4 ge 18 Z (gl (j2 (false) Z ⟨by symm;rw[aE,styled1 j q];intro h;omega,c⟩));rintro z R ⟨rfl,c⟩;exact gv (jt (gu (gy Z Z ⟨Z,c⟩)));have q:¬x.style=1:=g;refine kw Z (jy Z (λg=>?_) (λg=>?_));have s:x.style=2:=g;refine ju (α:=Bool) [] Z (λz=>[(2,.bool z)]) (λz u=>(z=decide (zx4 x))/\Ext No w u) ?_ ?_;refine j1 (j6 ge Z (jw 45 Z (λd=>?_) (λd=>?_)));refine j4 ge 1 Z (jk Z i.base (vd.len hx.base) (u1 Z trivial (l':=gh idZ) Dd.symm (wl (yw0 Z gId 10 zd kId (x8 hx.base) (x8 yw9) (yn hx.base) (yn yw9) vy ?_))));simp only[cT];refine j6 ge Z (jw 51 Z (λd=>?_) (λd=>?_));have l:=d;exact j4 ge 1 Z (gx Z i.number (j4 ge 3 Z (gl (j2 (_) Z ⟨by rw[aP,styled2 j s];exact⟨λh=>⟨by omega,l,by omega⟩,λh=>by omega⟩,c⟩))));have l:=d;exact j4 ge 5 Z (gl (j2 (false) Z ⟨by symm;rw[aE,styled2 j s];intro h;exact l h.2.1,c⟩));exact j4 ge 11 Z (gl (j2 (false) Z ⟨by symm;rw[aE,styled2 j s];intro h;omega,c⟩));rintro z S ⟨rfl,c⟩;exact gv (jt (gu (gy Z Z ⟨Z,c⟩)));have s:¬x.style=2:=g;refine kw Z (jy Z (λg=>?_) (λg=>?_));have t:x.style=3:=g;refine ju (α:=Bool) [] Z (λz=>[(2,.bool z)]) (λz u=>(z=decide (zx4 x))/\Ext No w u) ?_ ?_;refine ke Z 19 [qP 0,qP 1,qP 2,qP 3,qP 4,qP 5,qP 6,qP 7,qP 8,qP 9,qP 10,qP 11,qP 12,qP 13,qP 14,qP 15,qP 16,qP 17,qP 18] [] (No) zf λT F M=> have m:=i;have y:=c;have c:=c.gb F;gw ge 3 Z (Ao 60 Z (λd=>?_) (λd=>?_));have G:x.parents.length=2:=by omega
 obtain⟨b,A,K,B⟩:=hxl.parents.qm (λr N=>vd.len (hx.parents r N)) zk;have n:=hx.parents _ (aC (show 0<x.parents.length by omega));have o:=hx.parents _ (aC (show 1<x.parents.length by omega));refine gw ge 1 Z (j5 ge Z Z (λw' f=>(m.ga f).parents) ?_);rw[K];refine u0 ge Z Z 32 Z 0 Z zk (A+0*32) Z (qu ge Z Z (λw' f=>((B 0 zk).ga (y.gb f))) (vd.len n) (gw ge 1 Z (j5 ge Z Z (λw' f=>(m.ga f).parents) ?_)));rw[K];refine u0 ge Z Z 32 Z 1 Z zk (A+1*32) Z (qu ge Z Z (λw' f=>((B 1 zk).ga (y.gb f))) (vd.len o) (yx2 Z Z gId 10 zd kId (x8 n) (x8 o) (yn n) (yn o) vy ?_));simp only[bO,dF];refine gw ge 2 Z (Ao 71 Z (λd=>?_) (λd=>?_));have p:=d;exact gw ge 1 Z (j5 ge Z Z (λw' f=>(m.ga f).number) (gw ge 3 Z (js (ja (j2 (_) Z ⟨by rw[aP,styled3 j t,getD_get zk,getD_get zk];exact⟨λh=>⟨G,p,by omega⟩,λh=>by omega⟩,c⟩)))));have p:=d;exact gw ge 5 Z (js (ja (j2 (false) Z ⟨by symm;rw[aE,styled3 j t,getD_get zk,getD_get zk];intro h;exact p h.2.1,c⟩)));exact gw ge 16 Z (js (ja (j2 (false) Z ⟨by symm;rw[aE,styled3 j t];intro h;omega,c⟩)));rintro z U ⟨rfl,c⟩;exact gv (jt (gu (gy Z Z ⟨Z,c⟩)));have t:¬x.style=3:=g;exact qf (jr (jq (kw Z (gv (gy Z Z ⟨congrArg Value.bool (decide_eq_false (styled0 q s t)).symm,c⟩)))))
end Go.Proofs.YtpdiphfjmepijaaGreatDoor
namespace Go.Vc
theorem Own.zv1 {w:World} {p:Option Addr} {n c T sz:Nat} {xs:List Value} (h:Own w p n c T sz xs) {x:Nat} (hx:jb p x):∃l,j0 w x T l:=by
 rcases h with⟨a,_⟩|⟨b,l,a,d,_⟩;rw[a] at hx;cases hx;rw[a] at hx;obtain rfl:b=x:=by simpa using hx
 exact⟨l,d⟩
theorem Own.xq3 {w:World} {p:Option Addr} {n c T sz:Nat} {xs:List Value} (h:Own w p n c T sz xs) {x b U:Nat} {m:List Value} (hx:jb p x) (hb:j0 w b U m) (hT:T≠U):x≠b:=by
 obtain⟨l,hl⟩:=h.zv1 hx;exact hl.ne hb hT
theorem Own.qa {w w':World} {p:Option Addr} {n c T sz:Nat} {xs:List Value} (h:Own w p n c T sz xs) {b U:Nat} {m:List Value} (hE:Ext (One b) w w') (hb:j0 w b U m) (hT:T≠U):Own w' p n c T sz xs:=
 h.ext hE λ_ hx e=>h.xq3 hx hb hT e
theorem j0.qg {w w':World} {p:Option Addr} {n c T sz:Nat} {xs:List Value} {b U:Nat} {m:List Value} (hb:j0 w b U m) (h:Own w p n c T sz xs) (hE:Ext (jb p) w w') (hT:T≠U):j0 w' b U m:=
 hb.ext hE λhx=>h.xq3 hx hb hT Z
theorem Sl.lt {w:World} {p:Option Addr} {n sz:Nat} {xs:List Value} (h:Sl w p n sz xs) {b off:Nat} (hp:p=some ⟨b,off,none⟩) (hx:xs≠[]):b<w.heap.size:=by
 obtain⟨c,e|⟨g,d,a,f⟩⟩:=h;subst e;rw[dA] at c;exact absurd (aU c) hx;rw[hp] at a;cases a;exact f.lt hx
theorem Seg.one {w:World} {b off:Nat} {v:Value} (h:w.cell? ⟨b,off,none⟩=some v):Seg w b off [v]:=λi u a=>by
 cases i with
 |zero=>cases a;exact h
 |succ i=>cases a
instance {α : Type} (l : List α) (f : α -> List Value) [∀ x, OneC (f x)] : OneC (l.flatMap f) := ⟨λu hu => by
  obtain ⟨r, _, hr⟩ := List.mem_flatMap.1 hu
  exact OneC.h u hr⟩
end Go.Vc
namespace Go.Proofs.YtpdiphfjmepijaaGreatDoor
open Go.Proofs.Tryz
open Go.Vc
def D8 (x : jn) : C5 := ⟨x.path, []⟩
theorem leafRows_ok {l:List jn}:RowsOk (l.map D8)↔xj4 (l.map jn.path):=by
 have e:(l.map D8).map C5.path=l.map jn.path:=by rw[List.map_map];rfl
 rw[RowsOk,e];refine⟨λh=>h.2,λh=>⟨λ⟨r,a,b⟩=>?_,h⟩⟩;obtain⟨x,_,rfl⟩:=aZ.1 a;exact absurd b (by simp[D8])
def yz0 (l : List jn) : List Value := (l.map D8).flatMap C5.cells
theorem leafRows_take (l:List jn) {i:Nat} (h:i<l.length):yz0 (l.take (i+1))=yz0 (l.take i)++(D8 l[i]).cells:=by
 rw[yz0,aO h,bU,aY];simp[yz0]
theorem maxLen_big : 1000000000 <= maxLen := by decide
theorem leaved1_calls (w:World) (r:jn) (hr:r.cells.length=33):
  gn prog 226 [.agg r.cells.toArray] w λv w'=>v= .bool (decide (r.id=idZ))/\Ext No w w':=by
 have b:vd r.id:=by have:=hr;simp only[jn.cells,aQ,gm] at this;exact Nat.succ.inj this
 refine gz func226 ?_;have c:=Ext.refl No w;refine qr (gt Z λe f g a d=>?_);have c:=c.gb d;have a:j0 f e 148 (r.cells):=a;refine kg Z (qj Z (jk Z (by have:=a.ql.drop 1;exact this) b.len (u1 Z trivial (l':=gh idZ) Dd.symm (wl (yw0 Z gId 10 zd kId (x8 b) (x8 yw9) (yn b) (yn yw9) vy ?_)))));simp only[cT];exact kg Z (gv (gy Z Z ⟨Z,c⟩))
theorem leaved_calls (w:World) {p:Option Addr} {c:Nat} {l:List jn} (h:Sl w p l.length 33 (l.flatMap jn.cells)) (hl:l.length<1000000000) (h1:∀r∈l,LeafIn r) (h2:∀r∈l,r.path.length<1000000000):
  gn prog 213 [.slice p l.length c] w λv w'=>v= .bool (decide (Leaved l))/\Ext No w w':=by
 refine gz func213 ?_;have d:=Ext.refl No w;refine kw Z (qr (gt Z λb3 w1 T a U=>?_));have V:=al d.size T;have d:=d.gb U;have a:j0 w1 b3 319 ([.slice none 0 0]):=a;refine u3 (gp (kw Z (j8 (jl (α:=Nat×Option Addr×Nat) [0,3,6,7] Z (λz=>[(8,.int .i64 (z.1:Int))]) (λz u=>(z.1<=l.length/\Own u z.2.1 z.1 z.2.2 321 2 (yz0 (l.take z.1))/\(∀x,jb z.2.1 x->w.heap.size<=x))/\j0 u b3 319 ([.slice z.2.1 z.1 z.2.2])/\Ext No w u) (λz u=>l.length-z.1) (0,none,0) Z ⟨⟨aJ _,Own.nil _ _ _,λx j=>by cases j⟩,a,d⟩ ?_))));rintro⟨i,q,k⟩ w2 ⟨⟨E,g,F⟩,a,d⟩;refine vo Z (jy Z (λhc=>?_) (λhc=>?_));have E:i<l.length:=by omega
 obtain⟨b,W,rfl,G⟩:=h.qm (λr f=>jn.len (h1 r f).2) zk;have s:=h1 _ (aC E);refine Bn (qr (ki Z 33 Z i Z zk (W+i*33) Z (jk Z ((G i E).ga d) (jn.len s.2) (gt Z λb5 w3 H n t=>?_))));have A:=j3 a.lt H;have X:=al d.size H;have a:=a.ga t;have g:=g.ext t λ_ _=>id;have d:=d.gb t;have J:=n;refine wl (j9 (l':=(l[i]).cells) ge n Z Z (jn.len s.2) (jn.len s.2) OneC.h λw4 n B ah=> have a:=a.gk B A;have g:=g.qa B J zd;have d:=d.gi B X;u3 (yy Z (jd a Z Z (j6 ge Z (jd n Z Z (u1 Z ⟨⟨Z,by decide⟩,trivial⟩ (l':=(D8 l[i]).cells) Z (wl (qw ge Z 2 Z Z Z zd zd ⟨⟨Z,by decide⟩,trivial⟩ (l':=(D8 l[i]).cells) Z λY w5 ag K C ai=>?_))))))));have a:=a.ga C;have g:=g.ext C λ_ _=>id;have d:=d.gb C;have L:=d;refine wl (vt ge Z 2 32 Z Z Z zd g (Src.slice (m:=1) ⟨Z,.inr ⟨Y,0,Z,K.ql⟩⟩ OneC.h) zn zt λp6 c6 w6 I M aa=>?_);have d:=L.trans M λy hy hF=>by have:=F y hF;omega
 have a:=a.qg g M zd;have o:∀x,jb p6 x->w.heap.size<=x:=λx j=>(aa x j).elim (λh=>F x h) λh=>al L.size h;obtain⟨Q,R,N,ab,D⟩:∃Q R,Q=p6/\R=c6/\Own w6 Q (i+1) R 321 2 (yz0 (l.take (i+1))):=⟨_,_,Z,Z,by rw[leafRows_take _ E];exact I⟩
 rw[<-N] at o;rw[<-N,<-ab];have O:=a;refine j6 ge Z (qk a Z Z Z λw7 a P aj=> have D:=D.qa P O zd;have d:=d.gi P V;gl (Bi Z ?_));rw[qc _ zk];exact gl (jh (i+1,Q,R) Z ⟨⟨E,D,o⟩,a,d⟩ zm);have h0:i=l.length:=by omega
 subst h0;rw[bM] at g;refine Bh (ju (α:=Bool) [] Z (λz=>[(2,.bool z)]) (λz u=>(z=decide (Leaved l))/\Ext No w u) ?_ ?_);refine j1 (jf a Z Z ?_);rw[show Value.slice q l.length k= .slice q (l.map D8).length k from by rw[aA]];refine gj call224 Z (check_calls w2 (c:=k) (l:=l.map D8) (by have:=g.sl;rw[aA];exact this) (by rw[aA];exact hl) (λr f=>by obtain⟨x,j,rfl⟩:=aZ.1 f;exact h2 x j)) ?_;rintro v8 w8⟨rfl,ad⟩;have d:=d.gb ad;refine j6 ge Z (jw 24 Z (λS=>?_) (λS=>?_));have f:=leafRows_ok.1 (show RowsOk (l.map D8) from by by_cases h:RowsOk (l.map D8);exact h;rw[aI h] at S;exact absurd S zd);refine j4 ge 1 Z (gj call225 Z (xq5 w8 (λr f=>jn.len (h1 r f).2) (h.ga d) hl (λr=>r.id=idZ) call226 λw r f=>leaved1_calls w r f) ?_);rintro v9 w9⟨rfl,af⟩;have d:=d.gb af;refine j4 ge 3 Z (gl ?_);exact j2 (_) Z ⟨by rw[<-decide_not,aP];exact⟨λh=>⟨f,λx j e=>h ⟨x,j,e⟩⟩,λh ⟨x,j,e⟩=>h.2 x j e⟩,d⟩;have f:¬xj4 (l.map jn.path):=λh=>S (aL (leafRows_ok.2 h));exact j4 ge 5 Z (gl (j2 (false) Z ⟨by symm;rw[aE];exact λh=>f h.1,d⟩));rintro z ak ⟨rfl,d⟩;exact gv (gy Z Z ⟨Z,d⟩)
theorem xq7 {p : Prop} [Decidable p] {n : Int} (hn : n ≠ 0) : (if p then 0 else n) = 0 ↔ p := by
  by_cases h : p
  · simp [h]
  · simp [h, hn]
theorem fields1 {o:jm} (h:o.kind=1):A9 o↔BlobOk o:=by
 constructor;rintro(a|a|a);exact a.2;exact absurd (h.symm.trans a.1) zd;exact absurd (h.symm.trans a.1) zd;exact λa=> .inl ⟨h,a⟩
theorem fields2 {o:jm} (h:o.kind=2):A9 o↔TreeOk o:=by
 constructor;rintro(a|a|a);exact absurd (h.symm.trans a.1) zd;exact a.2;exact absurd (h.symm.trans a.1) zd;exact λa=> .inr (.inl ⟨h,a⟩)
theorem fields3 {o:jm} (h:o.kind=3):A9 o↔ComOk o:=by
 constructor;rintro(a|a|a);exact absurd (h.symm.trans a.1) zd;exact absurd (h.symm.trans a.1) zd;exact a.2;exact λa=> .inr (.inr ⟨h,a⟩)
theorem fields0 {o:jm} (h1:¬o.kind=1) (h2:¬o.kind=2) (h3:¬o.kind=3):¬A9 o:=λh=>h.elim (λh=>h1 h.1) λh=>h.elim (λh=>h2 h.1) λh=>h3 h.1
theorem fielded_calls (w:World) {x:jm} {a:x9} (hx:ub x) (hxl:Ch w x a) (hsx:Cw x):
  gn prog 185 [.agg (km x a).toArray] w λv w'=>v= .bool (decide (A9 x))/\Ext No w w':=by
 have hs:(vw x.text).size=x.text.length:=rfl;have aa:(vw x.note).size=x.note.length:=rfl;have y:ub {x with kind:=0,text:=[]}:=⟨hx.tree,hx.base,hx.parents,hx.leaves,hx.rows,hx.number,hx.author⟩
 have M:Cw {x with kind:=0,text:=[]}:=⟨hsx.leaves,hsx.parents,hsx.rows,hsx.leafP,hsx.rowP⟩
 have N:Ch w {x with kind:=0,text:=[]} a:=⟨hxl.leaves,hxl.parents,hxl.rows⟩
 have A:ub {x with kind:=0,leaves:=[]}:=⟨hx.tree,hx.base,hx.parents,λ_ h=>absurd h List.not_mem_nil,hx.rows,hx.number,hx.author⟩
 have O:Cw {x with kind:=0,leaves:=[]}:=⟨(by decide:(0:Nat)<1000000000),hsx.parents,hsx.rows,λ_ h=>absurd h List.not_mem_nil,hsx.rowP⟩
 have P:Ch w {x with kind:=0,leaves:=[]} ⟨none,0,a.pp,a.pc,a.rp,a.rc⟩:=⟨Sl.nil _ _ _,hxl.parents,hxl.rows⟩
 refine gz func185 (have f:=Ext.refl No w;qr (gt Z λb1 w1 Q c R=> have ab:=al f.size Q;have f:=f.gb R;have c:j0 w1 b1 37 (km x a):=c;kg Z (qr (jf c Z (gr hx) (gt Z λS w2 B d C=> have i:=j3 c.lt B;have o:=al f.size B;have c:=c.ga C;have f:=f.gb C;wl (j9 (l':=km x a) ge d Z Z (gr hx) (gr hx) OneC.h λw3 d D ac=> have c:=c.gk D i;have f:=f.gi D o;u3 (qj Z (qk d Z Z Z λg d E ad=> have c:=c.gk E i;have f:=f.gi E o;have d:j0 g S 37 (km {x with kind:=0} a):=d;have j:=c.ql.obj hx;u3 (kw Z (ju (α:=Bool) [] Z (λz=>[(4,.bool z)]) (λz u=>(z=decide (A9 x))/\Ext No w u) ?_ ?_))))))))));refine gp (yy Z (gx Z j.kind (u3 (j8 (kw Z (jy Z (λn=>?_) (λn=>?_)))))));have K:x.kind=1:=n;refine qj Z (qk d Z Z Z λw5 d F ae=> have c:=c.gk F i;have j:=(c.ql.obj hx);have f:=f.gi F o;have d:j0 w5 S 37 (km {x with kind:=0,text:=[]} a):=d;u3 (yy Z (gx Z j.text (j6 ge Z (jw 16 Z (λk=>?_) (λk=>?_))))));refine jf d Z (gr y) (gj call212 Z (zeroObj_calls w5 y (N.ga f) M) ?_);rintro v6 w6⟨rfl,p⟩;have c:=c.ga p;have d:=d.ga p;have j:=j.ga p;have f:=f.gb p;refine j6 ge Z (gl ?_);exact jr (j2 (_) Z ⟨by rw[aP,fields1 K,blob_zero];exact⟨λh=>⟨by omega,h⟩,λh=>h.2⟩,f⟩);exact j4 ge 4 Z (gl (jr (j2 (false) Z ⟨by symm;rw[aE,fields1 K];exact λh=>absurd h.1 zk,f⟩)));have K:¬x.kind=1:=n;refine kw Z (jy Z (λn=>?_) (λn=>?_));have L:x.kind=2:=n;refine qj Z (qk d Z Z Z λw7 d G af=>?_);have c:=c.gk G i;have j:=(c.ql.obj hx)
 have f:=f.gi G o;have d:j0 w7 S 37 (km {x with kind:=0,leaves:=[]} ⟨none,0,a.pp,a.pc,a.rp,a.rc⟩):=d;refine u3 (yy Z (gx Z j.leaves (gj call213 Z (leaved_calls w7 (hxl.leaves.ga f) hsx.leaves hx.leaves hsx.leafP) ?_)));rintro v8 w8⟨rfl,q⟩;have c:=c.ga q;have d:=d.ga q;have j:=j.ga q;have f:=f.gb q;refine j6 ge Z (jw 26 Z (λk=>?_) (λk=>?_));have s:=k;refine jf d Z (gr A) (gj call212 Z (zeroObj_calls w8 A (P.ga f) O) ?_);rintro v9 w9⟨rfl,r⟩;have c:=c.ga r;have d:=d.ga r;have j:=j.ga r;have f:=f.gb r;refine j6 ge Z (gl ?_);exact jr (j2 (_) Z ⟨by rw[aP,fields2 L,tree_zero];exact⟨λh=>⟨s,h⟩,λh=>h.2⟩,f⟩);have s:=k;exact j4 ge 4 Z (gl (jr (j2 (false) Z ⟨by symm;rw[aE,fields2 L];exact λh=>s h.1,f⟩)));have L:¬x.kind=2:=n;refine kw Z (jy Z (λn=>?_) (λn=>?_));have t:x.kind=3:=n;refine yy Z (gx Z j.text (j6 ge Z (jw 35 Z (λk=>?_) (λk=>?_))));have W:x.text=[]:=Bo (b:=[]) k;refine j4 ge 1 Z (gx Z j.leaves (j4 ge 4 Z (jw 41 Z (λk=>?_) (λk=>?_))));refine j4 ge 1 Z (gx Z j.note (j4 ge 4 Z (jw 47 Z (λk=>?_) (λk=>?_))));refine j4 ge 1 Z (jk Z (Seg.one j.rows) Z (gj call214 Z (checkEdit_calls g (hxl.rows.ga f) hsx.rows hsx.rowP) ?_));rintro ag X⟨rfl,l⟩;have c:=c.ga l;have d:=d.ga l;have j:=j.ga l;have f:=f.gb l;refine j4 ge 3 Z (jw 53 Z (λk=>?_) (λk=>?_));have Y:EditOk x.rows:=(xq7 zd).1 k;refine jf c Z (gr hx) (gj call215 Z (styledObj_calls X hx (hxl.ga f) hsx) ?_);rintro ah ai⟨rfl,m⟩;have c:=c.ga m;have d:=d.ga m;have j:=j.ga m;have f:=f.gb m;refine j6 ge Z (gl ?_);exact jr (j2 (_) Z ⟨by rw[aP,fields3 t];exact⟨λh=>⟨W,by omega,by omega,Y,h⟩,λh=>h.2.2.2.2⟩,f⟩);have Y:¬EditOk x.rows:=λh=>k (aL h);exact j4 ge 4 Z (gl (jr (j2 (false) Z ⟨by symm;rw[aE,fields3 t];exact λh=>Y h.2.2.2.1,f⟩)));exact j4 ge 10 Z (gl (jr (j2 (false) Z ⟨by symm;rw[aE,fields3 t];exact λh=>absurd h.2.2.1 zk,f⟩)));exact j4 ge 16 Z (gl (jr (j2 (false) Z ⟨by symm;rw[aE,fields3 t];exact λh=>absurd h.2.1 zk,f⟩)));have W:¬x.text=[]:=λe=>k (by rw[e];rfl);exact j4 ge 22 Z (gl (jr (j2 (false) Z ⟨by symm;rw[aE,fields3 t];exact λh=>W h.1,f⟩)));have t:¬x.kind=3:=n;exact qf (jr (j2 (false) Z ⟨(decide_eq_false (fields0 K L t)).symm,f⟩));rintro z aj ⟨rfl,f⟩;exact kw Z (gv (gy Z Z ⟨Z,f⟩))
def Wr (w : World) (b : Nat) (p : Option Addr) (l : List UInt8) : Prop :=
  ∃ c, j0 w b 288 [.slice p l.length c] /\ Own w p l.length c 5 1 (gh l)
abbrev WrF (b : Nat) (p : Option Addr) : Nat -> Prop := λx => x = b \/ jb p x
theorem _root_.Go.Vc.j0.keepW {w w':World} {b:Nat} {p:Option Addr} {l:List UInt8} {x T:Nat} {L:List Value} (hb:j0 w x T L) (h:Wr w b p l) (hE:Ext (WrF b p) w w') (h1:288≠T) (h2:5≠T):j0 w' x T L:=by
 obtain⟨c,a,d⟩:=h;exact hb.ext hE λf=>f.elim (λe=>a.ne hb h1 e.symm) λg=>d.xq3 g hb h2 Z
theorem _root_.Go.Vc.Ext.thenW {w0 w w':World} {b:Nat} {p:Option Addr} (hX:Ext No w0 w) (hE:Ext (WrF b p) w w') (h1:w0.heap.size<=b) (h2:∀x,jb p x->w0.heap.size<=x):Ext No w0 w':=
 hX.trans hE λy c a=>a.elim (λe=>by omega) λh=>by have:=h2 y h;omega
theorem newW {w0 w:World} {p p':Option Addr} (hX:Ext No w0 w) (h2:∀x,jb p x->w0.heap.size<=x) (h3:∀x,jb p' x->jb p x\/w.heap.size<=x):∀x,jb p' x->w0.heap.size<=x:=
 λx a=>(h3 x a).elim (λh=>h2 x h) λh=>al hX.size h
theorem xv0 (w:World) {b:Nat} {p:Option Addr} {l:List UInt8} (h:Wr w b p l) (s:Str) (hl:l.length+s.length<900000000):
  gn prog 196 [.pointer (some ⟨b,0,none⟩),yj s] w λv w'=>v= .tuple #[]/\∃p',Wr w' b p' (l++vj 1 s)/\(∀x,jb p' x->jb p x\/w.heap.size<=x)/\Ext (WrF b p) w w':=by
 obtain⟨c,a,f⟩:=h;have P:(vw s).size=s.length:=rfl;refine gz func196 (have d:=Ext.refl (WrF b p) w;yy Z (gx Z (a.cell Z) (j6 ge Z ?_)));rw[yi];refine wl (qw ge Z 1 Z Z Z zd zd zp (l':=gh [UInt8.ofNat s.length]) Z λB X K q j Q=>?_);have d:=d.gb j;have a:=a.ga j;have f:=f.ext j λ_ _=>id;have C:=d;refine wl (vt ge Z 1 1 Z Z Z zd f (Src.slice (m:=1) ⟨Z,.inr ⟨B,0,Z,q.ql⟩⟩ OneC.h) zn zt λR S Y e k n=>?_);dsimp only at e k n|-;have d:=d.trans k λy D r=> .inr r;have a:=a.qg f k (show(5:Nat)≠288 from by decide);obtain⟨E,L,F,M⟩:∃E L,E=R/\L=S:=⟨_,_,Z,Z⟩
 rw[<-F,<-M] at e;rw[<-F] at n;rw[<-F,<-M];have t:=e;have g:=n;have g:∀x,jb E x->jb p x\/w.heap.size<=x:=λx G=>(g x G).elim .inl λh=> .inr (al C.size h);refine j6 ge Z (have H:=d;wl (vt ge Z 1 1 Z Z Z zd t Src.string zn zt λN T U i o u=>?_));dsimp only at i o u|-;have d:=d.trans o λy D r=>(g y r).elim .inr λh=>absurd D zk;have a:=a.qg t o (show(5:Nat)≠288 from by decide);have J:∀x,jb N x->jb p x\/w.heap.size<=x:=λx G=>(u x G).elim (λh=>g x h) λh=> .inr (al H.size h);have O:l.length+1+(vw s).size=(l++vj 1 s).length:=by simp[vj,be];omega
 have e:Own U N (l++vj 1 s).length T 5 1 (gh (l++vj 1 s)):=by
  have V:l++vj 1 s=l++[UInt8.ofNat s.length]++s:=by simp[vj,be]
  rw[<-O,V,qy,qy];exact i
 rw[O];refine j6 ge Z (qk a Z Z Z λI z A W=>?_);have i:=e.qa A a zd;have d:=d.trans A λy D r=> .inl r;exact gl (zz Z ⟨Z,_,⟨_,z,i⟩,J,d⟩)
theorem text_calls (w:World) {b:Nat} {p:Option Addr} {l:List UInt8} (h:Wr w b p l) (s:Str) (hl:l.length<900000000) (hs:s.length<65536):
  gn prog 195 [.pointer (some ⟨b,0,none⟩),yj s] w λv w'=>v= .tuple #[]/\∃p',Wr w' b p' (l++vj 2 s)/\(∀x,jb p' x->jb p x\/w.heap.size<=x)/\Ext (WrF b p) w w':=by
 obtain⟨c,a,t⟩:=h;have u:(vw s).size=s.length:=rfl;refine gz func195 (have f:=Ext.refl (WrF b p) w;yy Z (gx Z (a.cell Z) (j6 ge Z ?_)));rw[IntWalk.u16_in _ zk];refine gj call91 Z (zx0 w t.sl zk s.length hs) ?_;rintro P Q⟨D,rfl,G,j,k⟩;have f:=f.gb k;have a:=a.ga k;have A:=f;have g:(gh (l++be 2 s.length)).length=(l++be 2 s.length).length*1:=by rw[gm,bF]
 refine j6 ge Z (wl (vt ge Z 1 1 Z Z Z zd (Own.blk (n:=(l++be 2 s.length).length) (c:=(l++be 2 s.length).length) j 1 g (aB _) (by rw[ao,ka];dsimp only[maxLen];omega)) Src.string (by rw[ao,ka];dsimp only[maxLen];omega) (by dsimp only;rw[ao,ka];omega) λE H J d i m=>?_));dsimp only at d i m|-;have f:=f.trans i λy K o=>by have e:D=y:=congrArg Addr.block (cl o);omega
 have a:=a.qg (Own.blk (n:=0) (c:=(l++be 2 s.length).length) j 1 g (aJ _) (by rw[ao,ka];dsimp only[maxLen];omega)) i (show(5:Nat)≠288 from by decide);have B:∀x,jb E x->jb p x\/w.heap.size<=x:=λx L=>(m x L).elim (λo=>by have e:D=x:=congrArg Addr.block (cl o);exact .inr zk) λh=> .inr (al A.size h);have F:(l++be 2 s.length).length+(vw s).size=(l++vj 2 s).length:=by simp only[vj,ao,u];omega
 have d:Own J E (l++vj 2 s).length H 5 1 (gh (l++vj 2 s)):=by
  have M:gh (l++vj 2 s)=gh (l++be 2 s.length)++gh s:=by rw[vj,<-aM,qy]
  have N:(gh (l++be 2 s.length)).take ((l++be 2 s.length).length*1)=gh (l++be 2 s.length):=aN (by rw[g];exact aB _);rw[<-F,M];rw[N] at d;exact d
 rw[F];refine j6 ge Z (qk a Z Z Z λR q r O=>?_);have C:=d.qa r a zd;have f:=f.trans r λy K o=> .inl o;exact gl (zz Z ⟨Z,_,⟨_,q,C⟩,B,f⟩)
theorem yw5 {l:List (List UInt8)} {i:Nat} (h:i<l.length):(l.take (i+1)).flatten=(l.take i).flatten++l[i]:=by
 rw[aO h,List.flatten_append];simp
theorem flatten_in {l:List (List UInt8)} (h:∀r∈l,vd r) (i:Nat):(l.take i).flatten.length=(l.take i).length*32:=yq6 λx hx=>h x (bK hx)
theorem ids_calls (w:World) {b:Nat} {p:Option Addr} {l:List UInt8} (h:Wr w b p l) {q:Option Addr} {d:Nat} {m:List (List UInt8)} (hq:Sl w q m.length 32 (m.flatMap gh)) (hm:∀r∈m,vd r) (hl:l.length<900000000) (hml:m.length<1000000)
  (hsep:∀x off,q=some ⟨x,off,none⟩->m≠[]->¬WrF b p x):
  gn prog 197 [.pointer (some ⟨b,0,none⟩),.slice q m.length d] w λv w'=>v= .tuple #[]/\∃p',Wr w' b p' (l++m.flatten)/\(∀x,jb p' x->jb p x\/w.heap.size<=x)/\Ext (WrF b p) w w':=by
 refine gz func197 ?_;have f:=Ext.refl (WrF b p) w;refine kw Z (j8 (jl (α:=Nat×Option Addr) [0,6,7] Z (λz=>[(8,.int .i64 (z.1:Int))]) (λz u=>(z.1<=m.length/\Wr u b z.2 (l++(m.take z.1).flatten)/\(∀x,jb z.2 x->jb p x\/w.heap.size<=x))/\Ext (WrF b p) w u) (λz u=>m.length-z.1) (0,p) Z ⟨⟨aJ _,by simpa using h,λ_ h=> .inl h⟩,f⟩ ?_));rintro⟨i,O⟩ w1 ⟨⟨s,hW,C⟩,f⟩;obtain⟨k,a,c⟩:=hW;refine vo Z (jy Z (λhc=>?_) (λhc=>?_));have s:i<m.length:=by omega
 have P:m≠[]:=λe=>by rw[e] at s;exact absurd s (cE _)
 obtain⟨qb,t,rfl,Q⟩:=hq.qm (λr hr=>(hm r hr).len) zk;have R:=hsep qb t Z P;have j:=hm _ (aC s);have S:=flatten_in hm i;rw[aH,bP zk] at S;refine Bn (qr (ki Z 32 Z i Z zk (t+i*32) Z (jk Z ((Q i s).ext f R) j.len (gt Z λb5 w2 T g D=>?_))));have U:=al f.size T;have a:=a.ga D;have c:=c.ext D λ_ _=>id;have f:=f.gb D;have A:=g;refine wl (j9 (l':=gh m[i]) ge g Z Z j.len (j.len) OneC.h λw3 g E ab=> have a:=a.gk E (a.ne A zd);have c:=c.qa E A zd;have f:=f.gi E U;u3 (ke Z 9 [qP 0,qP 1,qP 2,qP 3,qP 4,qP 5,(6,false),qP 7,qP 8] [9] (jb O) zf λw4 n ac=>?_));have B:=a;have F:=c;have g:=g.ga n;have a:=a.ga n;have c:=c.ext n λ_ _=>id;have f:=f.gb n;have hC:Ext (jb O) _ w4:=n.no;refine gw ge 4 Z (j5 ge Z Z (λw' V=>((B.ext (show Ext (jb O) _ w' from V) λW=>F.xq3 W B zd Z).cell Z)) (wd_sa ge Z Z 0 32 32 1 Z ⟨.inr ⟨Z,Z⟩,.inr ⟨Z,Z⟩,.inr ⟨Z,Z⟩,by decide,by decide,by decide⟩ ?_));rw[qe,bB];have X:=f;refine jv Z (vt ge Z 1 1 Z Z Z zd c (Src.slice (m:=32) ⟨j.len,.inr ⟨b5,0,Z,g.ql⟩⟩ OneC.h) (by dsimp only[maxLen];rw[ao];omega) (by dsimp only;rw[ao];omega) λp5 c5 w5 G o H=>⟨hC.then o,?_⟩);dsimp only at G o H|-;have f:=f.trans o λy hy Y=>(C y Y).elim .inr λh=>absurd hy zk;have a:=a.qg c o (show(5:Nat)≠288 from by decide);have J:∀x,jb p5 x->jb p x\/w.heap.size<=x:=λx W=>(H x W).elim (λh=>C x h) λh=> .inr (al X.size h);have e3:(l++(m.take i).flatten).length+32=(l++(m.take (i+1)).flatten).length:=by rw[yw5 s,ao,ao,ao,j];omega
 obtain⟨M,N,e1,e2,I⟩:∃M N,M=p5/\N=c5/\Own w5 M (l++(m.take (i+1)).flatten).length N 5 1 (gh (l++(m.take (i+1)).flatten)):=⟨_,_,Z,Z,by
  rw[<-e3,yw5 s,<-aM,qy]
  exact G⟩
 rw[<-e1] at J;rw[<-e1,<-e2,e3];refine gw ge 2 Z (js (wb Z (yo ge a Z Z Z λw6 K L ad=>?_)));have aa:=I.qa L a zd;have f:=f.trans L λy hy Y=> .inl Y;refine ja (Bi Z ?_);rw[qc _ zk];exact gl (jh (i+1,M) Z ⟨⟨s,⟨N,K,aa⟩,J⟩,f⟩ zm);have h0:i=m.length:=by omega
 subst h0;rw[bM] at a c;exact xt (qs (qs (ux (zz Z ⟨Z,_,⟨_,a,c⟩,C,f⟩))))
end Go.Proofs.YtpdiphfjmepijaaGreatDoor
namespace Go.Vc
section
variable {P : Program} {I : uh} {f : Fs} {ops : Array Oper} {o : Oper} {env : Env} {w : World} {K : Env -> World -> Prop}
theorem run_appIn (hI:I.Ok P) {t t2 ty e:Nat} {y y2 g:TI} (hy:z7 I t=some y) (he:y.desc= .slice e) (hg:z7 I e=some g) (hy2:z7 I t2=some y2) (hd2:(∃e2,y2.desc= .slice e2)\/y2.desc= .string)
  {p:Option Addr} {n c:Nat} {xs:List Value} (hown:Own w p n c e g.size xs) {x:Value} {m:Nat} {news:List Value} (hsrc:Src P w g.size x m news)
  (hfit:n+m<=c):
  ∃w',(Builtin.append_ #[t,t2] ty #[.slice p n c,x]).run P w= .ok (.slice p (n+m) c) w'/\Own w' p (n+m) c e g.size (xs++news)/\Ext (jb p) w w':=by
 have z:=(hI.get hy).under w;rw[he] at z;have D:=(hI.get hg).sizeOf w;have o:=(hI.get hy2).under w;obtain⟨i,K,L,M,N⟩:=TI.Ok.info (hI.get hg);have A:=hown.cap;have q:=hown.len;have h:=hsrc.1;unfold Builtin.append_;simp only[bX,cN,List.getElem?_cons_succ];rw[jg z];simp only[];rw[Sem.run_bind,D,aD];rw[jg o];rcases hd2 with⟨e2,B⟩|B<;>rw[B]<;>simp only[pure_bind,bO,dF,Bool.not_false,cT,h]
 all_goals
  rw[aL hfit];simp only[Sem.run_bind,hsrc.cells (λ_=>rfl),aD];rcases hown with⟨rfl,rfl,rfl,rfl⟩|⟨b,l,rfl,k,C,O,r,s⟩;have u:m=0:=by omega
  subst u;have:news=[]:=by have:=hsrc.2.1;simpa using this
  subst this;exact⟨w,by simp,.inl ⟨Z,Z,Z,Z⟩,Ext.refl _ _⟩
  have d:n*g.size+news.length<=l.length:=by rw[hsrc.2.1,C,<-cS];exact cC _ hfit
  obtain⟨w',E,v,F,G⟩:=x7 (P:=P) news w l (n*g.size) 0 k zk hsrc.2.2.1;refine⟨w',?_,.inr ⟨b,_,Z,v,by rw[vz,C],hfit,r,?_⟩,F.mono ?_⟩;have H:(⟨b,0,none⟩:Addr).add (n*g.size)=⟨b,n*g.size,none⟩:=by rw[addr_add,aV]
  simp only[H,Sem.run_bind,E,aD,aR];rw[Nat.add_zero,put_eq _ _ _ d,s,cS,<-hsrc.2.1];rw[show n*g.size+news.length=(xs++news).length from by simp[q]];rw[List.take_left];intro x _ J;subst J;rfl
theorem st_appC (hI:I.Ok P) {s:xq4} (h:appE I f.n ops env o=some s) (sz by_:Nat) (hsz:s.g.size=sz) (hby:s.g.bytes=by_) (hz:(cellsOf s.g.zero).length=sz) (hz0:0<sz) {xs:List Value} (hown:Own w s.p s.n s.c s.e sz xs) {m:Nat} {news:List Value} (hsrc:Src P w sz s.x m news)
  (hm:s.n+m<=maxLen) (hb:(s.n+m)*by_<=140737488355328)
  (k:∀p' c' w',Own w' p' (s.n+m) c' s.e sz (xs++news)->(s.n+m<=s.c/\p'=s.p/\c'=s.c/\Ext (jb s.p) w w'\/s.c<s.n+m/\Ext No w w'/\∀b,jb p' b->w.heap.size<=b)->K ((s.d,.slice p' (s.n+m) c')::env) w'):St P f ops o env w K:=by
 subst hsz;subst hby;unfold appE at h;split at h;cases h;rename_i M;obtain⟨N,O⟩:=pre_eq M;split at h;rename_i Y Q;split at h;rename_i l R S;split at h;rename_i D E q;have r:l= #[D,E]:=by apply cH;simpa using q
 subst r;split at h;rename_i t F u;have z:R= #[t,F]:=by apply cH;simpa using u
 subst z;split at h;rename_i y G;split at h;rename_i e H;split at h;rename_i g J;split at h;rename_i Z0 i;split at h;rename_i j;split at h;rename_i p n c T;split at h;rename_i v U;cases h;simp only at*
 obtain⟨p',c',w',V,a,W⟩:∃p' c' w',(Builtin.append_ #[t,F] o.type #[.slice p n c,v]).run P w= .ok (.slice p' (n+m) c') w'/\Own w' p' (n+m) c' e g.size (xs++news)/\(n+m<=c/\p'=p/\c'=c/\Ext (jb p) w w'\/c<n+m/\Ext No w w'/\∀b,jb p' b->w.heap.size<=b):=by
  by_cases hfit:n+m<=c;obtain⟨w',A,B,C⟩:=run_appIn (P:=P) (ty:=o.type) hI G H J i (yj9 j) hown hsrc hfit;exact⟨p,c,w',A,B,.inl ⟨hfit,Z,Z,C⟩⟩
  obtain⟨c',w',A,B,C⟩:=run_appG (P:=P) (ty:=o.type) (c:=c) hI G H J i (yj9 j) hz hz0 hown.sl hsrc hm hb (Nat.lt_of_not_le hfit);exact⟨_,c',w',A,B,.inr ⟨Nat.lt_of_not_le hfit,C,λb hb=>Nat.le_of_eq (congrArg Addr.block (cl hb))⟩⟩
 refine yt N O (v:= .slice p' (n+m) c') (w':=w') (λρ L=>?_) (by rw[Q];exact k p' c' w' a W);have X:Array.map ρ #[D,E]= #[.slice p n c,v]:=by simp[L _ _ T,L _ _ U]
 simp only[execOp,S,resolve,Sem.run_bind,aR,aD,invoke,builtin,X,V];cases h;cases h;cases h;cases h;cases h;cases h;cases h;cases h;cases h;cases h;cases h
end
theorem objC_tree {o:jm} {a:x9} (h:ub o) {t:List UInt8} (ht:t.length=32):put (km o a) 4 (gh t)=km {o with tree:=t} a:=by
 rw[put_eq _ _ _ (by rw[gr h,gm,ht];decide),gm,ht];simp only[km];rw[dC (by rfl),aM,<-cY,List.drop_left' (by rfl),List.drop_left' (by rw[gm,h.tree])]
theorem objC_base {o:jm} {a:x9} (h:ub o) {t:List UInt8} (ht:t.length=32):put (km o a) 36 (gh t)=km {o with base:=t} a:=by
 rw[put_eq _ _ _ (by rw[gr h,gm,ht];decide),gm,ht];simp only[km];rw[<-aM,dC (by rw[ao,gm,h.tree];rfl),aM,aM,<-cY,<-aM,List.drop_left' (by rw[ao,gm,h.tree];rfl),List.drop_left' (by rw[gm,h.base])];simp only[aM]
theorem C6 {o:jm} {a:x9} (h:ub o) (i:Nat) (v:Value):(km o a).set (68+i) v=
  [.int .i64 o.kind,yj o.text,.slice a.lp o.leaves.length a.lc,.int .i64 o.style]++(gh o.tree++(gh o.base++
   ([.slice a.pp o.parents.length a.pc,.slice a.rp o.rows.length a.rc,.int .u32 (o.number:Int),.int .u32 (o.author:Int),yj o.note]:List Value).set i v)):=by
 have b:68+i-4-32-32=i:=by omega
 rw[km,dM _ _ ze,dM _ _ (by rw[gm,h.tree];simp;omega),dM _ _ (by rw[gm,gm,h.tree,h.base];simp;omega),gm,gm,h.tree,h.base];rw[show 68+i-([.int .i64 o.kind,yj o.text,.slice a.lp o.leaves.length a.lc,.int .i64 o.style]:List Value).length-32-32=i from b]
theorem Ds.xu (s : Ds) (n : Nat) : num (s.off n).1 < 256 ^ n :=
  aK (Vc.xu _) (Nat.pow_le_pow_right zd (s.vq n).1)
abbrev idV (x : List UInt8) : Value := .agg (gh x).toArray
theorem idV_inj {x y : List UInt8} (h : idV x = idV y) : x = y := by
  injection h with h
  exact bytesU_inj (by simpa using h)
def B0 (kv : List UInt8 -> Value) (okx : List UInt8 -> Prop) {β : Type} (w : World) (r : Nat) (enc : β -> Value) (f : List UInt8 -> Option β) : Prop :=
  ∃ es clock, w.heap[r]? = some (.map es clock) /\ (∀ e ∈ es.toList, ∃ x b, okx x /\ e.key = kv x /\ e.val = enc b /\ f x = some b) /\
    (∀ x b, f x = some b -> ∃ e ∈ es.toList, e.key = kv x) /\ (es.toList.map (·.key)).Nodup /\ (∀ e ∈ es.toList, e.born < clock) /\ (es.toList.map (·.born)).Nodup
structure KeyG (P : Program) (k : TypeId) (kv : List UInt8 -> Value) (okx : List UInt8 -> Prop) : Prop where
  law : WideMaps.KeyLaw P k
  key : ∀ x : List UInt8, okx x -> ∃ l, keyOf P k (kv x) = some l
  inj : ∀ x y, kv x = kv y -> x = y
abbrev IsId (x : List UInt8) : Prop := x.length = 32
abbrev IdKey (P : Program) (k : TypeId) : Prop := KeyG P k idV IsId
abbrev xx5 {β : Type} (w : World) (r : Nat) (enc : β -> Value) (f : List UInt8 -> Option β) : Prop := B0 idV IsId w r enc f
section
variable {kv : List UInt8 -> Value} {okx : List UInt8 -> Prop}
theorem B0.lt {β:Type} {w:World} {r:Nat} {enc:β->Value} {f:List UInt8->Option β} (h:B0 kv okx w r enc f):r<w.heap.size:=by
 obtain⟨b,c,h,_⟩:=h;rcases bC r w.heap.size with a|a;exact a;rw[cI a] at h;cases h
theorem B0.ext {β:Type} {S:Nat->Prop} {w w':World} {r:Nat} {enc:β->Value} {f:List UInt8->Option β} (h:B0 kv okx w r enc f) (hE:Ext S w w') (hS:¬S r):B0 kv okx w' r enc f:=by
 have a:=h.lt;obtain⟨b,c,h,d⟩:=h;exact⟨b,c,(hE.same r a hS).trans h,d⟩
theorem B0.ga {β:Type} {w w':World} {r:Nat} {enc:β->Value} {f:List UInt8->Option β} (h:B0 kv okx w r enc f) (hE:Ext No w w'):B0 kv okx w' r enc f:=h.ext hE id
theorem B0.ne {β:Type} {w:World} {r b T:Nat} {L:List Value} {enc:β->Value} {f:List UInt8->Option β} (h:B0 kv okx w r enc f) (hb:j0 w b T L):r≠b:=λe=>by
 obtain⟨a,c,h,_⟩:=h
 rw[e] at h
 rw[j0,h] at hb
 cases hb
theorem B0.gk {β:Type} {w w':World} {r b T:Nat} {L:List Value} {enc:β->Value} {f:List UInt8->Option β} (h:B0 kv okx w r enc f) (hE:Ext (One b) w w') (hb:j0 w b T L):B0 kv okx w' r enc f:=h.ext hE (h.ne hb)
section
variable {P : Program} {I : uh} {f : Fs} {ops : Array Oper} {o : Oper} {env : Env} {w : World} {K : Env -> World -> Prop}
theorem ext_setMap {w:World} {r:Nat} {es:Array MapEntry} {c:Nat} (h:w.heap[r]? =some (.map es c)) (es':Array MapEntry) (c':Nat):
  Ext (One r) w {w with heap:=w.heap.setIfInBounds r (.map es' c')}/\({w with heap:=w.heap.setIfInBounds r (.map es' c')}:World).heap.size=w.heap.size/\({w with heap:=w.heap.setIfInBounds r (.map es' c')}:World).heap[r]? =some (.map es' c'):=by
 have a:r<w.heap.size:=by rcases bC r w.heap.size with d|d;exact d;rw[cI d] at h;cases h
 exact⟨⟨Z,Z,Z,by simp,λb g e=> dJ (λf=>e f.symm),aB _⟩,by simp,by simp[a]⟩
def mmE (n : Nat) (ops : Array Oper) (env : Env) (o : Oper) : Option Nat :=
  match pre n ops env o with
  | false => none
  | true => match o.dst with
    | some d => match o.op with
      | .makeMap _ none => some d
      | _ => none
    | none => none
theorem st_mmG (kv:List UInt8->Value) (okx:List UInt8->Prop) {β:Type} (enc:β->Value) {d:Nat} (h:mmE f.n ops env o=some d)
  (k:∀(r:Nat) w',w.heap.size<=r->B0 kv okx w' r enc (λ_=>none)->Ext No w w'->w'.heap.size=w.heap.size+1->K ((d,.map (some r))::env) w'):St P f ops o env w K:=by
 unfold mmE at h;split at h;cases h;rename_i g;obtain⟨i,j⟩:=pre_eq g;split at h;rename_i p l;split at h;rename_i t m;cases h;refine yt i j (v:= .map (some w.heap.size)) (w':=w.alloc (.map #[] 0)) (λs q=>?_) ?_;simp only[execOp,m,Option.map_none,Sem.run_bind];rfl;rw[l];refine k _ _ (aB _) ⟨#[],0,?_,?_,?_,?_,?_,?_⟩ ⟨Z,Z,Z,by simp,λb c _=>?_,aB _⟩ zq;show(w.heap.push _)[w.heap.size]? =_;simp;intro e a;simp at a;intro x b c;cases c;simp;intro e a;simp at a;simp;show(w.heap.push _)[b]? =_;rw[Array.getElem?_push,aI zk];cases h;cases h
theorem st_mm {β:Type} (enc:β->Value) {d:Nat} (h:mmE f.n ops env o=some d)
  (k:∀(r:Nat) w',w.heap.size<=r->xx5 w' r enc (λ_=>none)->Ext No w w'->w'.heap.size=w.heap.size+1->K ((d,.map (some r))::env) w'):St P f ops o env w K:=st_mmG idV IsId enc h k
def mmsE (I : uh) (n : Nat) (ops : Array Oper) (env : Env) (o : Oper) : Option Nat :=
  match pre n ops env o with
  | false => none
  | true => match o.dst with
    | some d => match o.op with
      | .makeMap t (some x) => match z7 I t with
        | some y => match y.desc with
          | .map _ _ => match xz env x with
            | some (.int _ _) => some d
            | _ => none
          | _ => none
        | none => none
      | _ => none
    | none => none
theorem st_mms (hI:I.Ok P) (kv:List UInt8->Value) (okx:List UInt8->Prop) {β:Type} (enc:β->Value) {d:Nat} (h:mmsE I f.n ops env o=some d)
  (k:∀(r:Nat) w',w.heap.size<=r->B0 kv okx w' r enc (λ_=>none)->Ext No w w'->w'.heap.size=w.heap.size+1->K ((d,.map (some r))::env) w'):St P f ops o env w K:=by
 unfold mmsE at h;split at h;cases h;rename_i i;obtain⟨j,l⟩:=pre_eq i;split at h;rename_i B m;split at h;rename_i t x p;split at h;rename_i y q;split at h;rename_i C e a;split at h;rename_i s n u;cases h;have c:=(hI.get q).under w;rw[a] at c;refine yt j l (v:= .map (some w.heap.size)) (w':=w.alloc (.map #[] 0)) (λD z=>?_) ?_;have A:(Instr.makeMap t (some (.int s n))).run P w= .ok (.map (some w.heap.size)) (w.alloc (.map #[] 0)):=by unfold Instr.makeMap;simp only[Sem.run_bind,c,aD];rfl
 simp only[execOp,p,Option.map_some,z _ _ u,Sem.run_bind,A,aD,aR];rw[m];refine k _ _ (aB _) ⟨#[],0,?_,?_,?_,?_,?_,?_⟩ ⟨Z,Z,Z,by simp,λb g _=>?_,aB _⟩ zq;show(w.heap.push _)[w.heap.size]? =_;simp;intro e a;simp at a;intro x b g;cases g;simp;intro e a;simp at a;simp;show(w.heap.push _)[b]? =_;rw[Array.getElem?_push,aI zk];cases h;cases h;cases h;cases h;cases h
def luE (I : uh) (n : Nat) (ops : Array Oper) (env : Env) (o : Oper) : Option (Nat × Value × Nat × Value × Bool × Nat) :=
  match pre n ops env o with
  | false => none
  | true => match o.dst with
    | some d => match o.op with
      | .lookup t x j okx => match z7 I t with
        | some y => match y.desc with
          | .map k e => match z7 I e with
            | some g => match xz env x with
              | some (.map (some r)) => match xz env j with
                | some v => some (k, g.zero, r, v, okx, d)
                | none => none
              | _ => none
            | none => none
          | _ => none
        | none => none
      | _ => none
    | none => none
theorem B0.keys {β:Type} {k:TypeId} (hK:KeyG P k kv okx) {es:List MapEntry} {enc:β->Value} {g:List UInt8->Option β} (h:∀e∈es,∃x b,okx x/\e.key=kv x/\e.val=enc b/\g x=some b):∀e∈es,∃l,keyOf P k e.key=some l:=λe a=>by
 obtain⟨x,b,c,d,_⟩:=h e a
 rw[d]
 exact hK.key x c
def tell {β : Type} (enc : β -> Value) (z : Value) (o : Option β) : Value := match o with | some b => enc b | none => z
theorem ov_lu {β:Type} (hI:I.Ok P) {k r d:Nat} {z v:Value} {ok:Bool} (h:luE I f.n ops env o=some (k,z,r,v,ok,d)) (hK:KeyG P k kv okx) {x:List UInt8} (hx:okx x) (hv:v=kv x) {enc:β->Value} {g:List UInt8->Option β} (hm:B0 kv okx w r enc g):
  pre f.n ops env o=true/\o.dst=some d/\Ov P o env w (if ok then .tuple #[tell enc z (g x),.bool (g x).isSome] else tell enc z (g x)) w:=by
 subst hv;unfold luE at h;split at h;cases h;rename_i E;obtain⟨h1,h2⟩:=pre_eq E;split at h;rename_i d' N;split at h;rename_i t xx j p O;split at h;rename_i y Q;split at h;rename_i k' e s;split at h;rename_i F u;split at h;rename_i R A;split at h;rename_i v' S;simp only[bJ,cR] at h;obtain⟨rfl,rfl,rfl,rfl,rfl,rfl⟩:=h;have G:=(hI.get Q).under w;rw[s] at G;have T:=(hI.get u).zeroValue w;obtain⟨B,c,H,J,U,a3,_⟩:=hm;obtain⟨l,K⟩:=hK.key x hx;have i:=hK.law.find w K B.toList (B0.keys hK J);have a:=hK.law.check w B.isEmpty K;refine⟨E,N,λρ L=>?_⟩
 have m:(Instr.lookup t (.map (some R)) (kv x) p).run P w= .ok (if p then .tuple #[tell enc F.zero (g x),.bool (g x).isSome] else tell enc F.zero (g x)) w:=by
  unfold Instr.lookup;rw[jg G];rcases i with⟨C,D⟩|⟨j',M,C,D,V⟩
  have W:g x=none:=by
   cases hgx:g x with
   |none=>rfl
   |some b=>
    obtain⟨e,s,X⟩:=U x b hgx;exact absurd X (D e s)
  simp only[Sem.run_bind,MapKept.run_getObj_map H,aR,aD,a,C,T,W,tell,Option.isSome];have q:M∈B.toList:=List.mem_of_getElem? D;obtain⟨Y,b,_,Z0,k2,k3⟩:=J M q;have:Y=x:=hK.inj _ _ (Z0.symm.trans V);subst this;simp only[Sem.run_bind,MapKept.run_getObj_map H,aR,aD,a,C,k2,k3,tell,Option.isSome]
 simp only[execOp,O,L _ _ A,L _ _ S,Sem.run_bind,m,aD,aR];cases h;cases h;cases h;cases h;cases h;cases h;cases h
theorem st_lu {β:Type} (hI:I.Ok P) {k r d:Nat} {z v:Value} {ok:Bool} (h:luE I f.n ops env o=some (k,z,r,v,ok,d)) (hK:KeyG P k kv okx) {x:List UInt8} (hx:okx x) (hv:v=kv x) {enc:β->Value} {g:List UInt8->Option β} (hm:B0 kv okx w r enc g)
  (kk:K ((d,if ok then .tuple #[tell enc z (g x),.bool (g x).isSome] else tell enc z (g x))::env) w):St P f ops o env w K:=by
 obtain⟨a,b,c⟩:=ov_lu (f:=f) (w:=w) hI h hK hx hv hm;exact yt (pre_eq a).1 (pre_eq a).2 c (by rw[b];exact kk)
def muE (I : uh) (n : Nat) (ops : Array Oper) (env : Env) (o : Oper) : Option (Nat × Nat × Value × Value) :=
  match pre n ops env o with
  | false => none
  | true => match o.dst with
    | none => match o.op with
      | .mapUpdate t x j u => match z7 I t with
        | some y => match y.desc with
          | .map k _ => match xz env x with
            | some (.map (some r)) => match xz env j with
              | some v => match xz env u with
                | some b => some (k, r, v, b)
                | none => none
              | none => none
            | _ => none
          | _ => none
        | none => none
      | _ => none
    | some _ => none
def setM {β : Type} (g : List UInt8 -> Option β) (x : List UInt8) (b : β) : List UInt8 -> Option β := λy => if y = x then some b else g y
theorem st_mu {β:Type} (hI:I.Ok P) {k r:Nat} {v u:Value} (h:muE I f.n ops env o=some (k,r,v,u)) (hK:KeyG P k kv okx) {x:List UInt8} (hx:okx x) (hv:v=kv x) {enc:β->Value} {g:List UInt8->Option β} (hm:B0 kv okx w r enc g) {b:β} (hb:u=enc b)
  (kk:∀w',B0 kv okx w' r enc (setM g x b)->Ext (One r) w w'->w'.heap.size=w.heap.size->K env w'):St P f ops o env w K:=by
 subst hv;subst hb;unfold muE at h;split at h;cases h;rename_i hp;obtain⟨h1,h2⟩:=pre_eq hp;split at h;rename_i hd;split at h;rename_i t xx j uu ho;split at h;rename_i y hy;split at h;rename_i k' e a;split at h;rename_i r' z;split at h;rename_i v' hj;split at h;rename_i u' aa;simp only[bJ,cR] at h;obtain⟨rfl,rfl,rfl,rfl⟩:=h;have hu:=(hI.get hy).under w;rw[a] at hu;obtain⟨p,c,W,a1,a2,a3,a4,a5⟩:=hm;obtain⟨l,hl⟩:=hK.key x hx;have N:=hK.law.find w hl p.toList (B0.keys hK a1);have L:=hK.law.check w false hl
 obtain⟨m,X,hr,hM⟩:∃m X,(Instr.mapUpdate t (.map (some r')) (kv x) (enc b)).run P w= .ok () {w with heap:=w.heap.setIfInBounds r' (.map m X)}/\
   ((∀e∈m.toList,∃y B,okx y/\e.key=kv y/\e.val=enc B/\setM g x b y=some B)/\(∀y B,setM g x b y=some B->∃e∈m.toList,e.key=kv y)/\(m.toList.map (·.key)).Nodup/\(∀e∈m.toList,e.born<X)/\(m.toList.map (·.born)).Nodup):=by
  rcases N with⟨f1,H⟩|⟨s,O,f1,H,f3⟩;refine⟨p.push ⟨kv x,enc b,c⟩,c+1,?_,?_,?_,?_,?_,?_⟩;unfold Instr.mapUpdate;rw[jg hu];simp[MapKept.run_getObj_map W,L,f1,MapKept.run_setObj_map _ W,Result.andThen];intro e a;simp only[Array.toList_push,aS,aF] at a;rcases a with a|rfl;obtain⟨y,B,q1,Q,q3,q4⟩:=a1 e a;refine⟨y,B,q1,Q,q3,?_⟩;rw[setM,aI λC=>H e a (by rw[Q,C])];exact q4;exact⟨x,b,hx,Z,Z,aL Z⟩
  intro y B D;by_cases C:y=x;exact⟨⟨kv x,enc b,c⟩,by simp,by rw[C]⟩
  rw[setM,aI C] at D;obtain⟨e,a,hk⟩:=a2 y B D;exact⟨e,by simp[Array.mem_toList_iff.1 a],hk⟩
  rw[Array.toList_push,bU,List.nodup_append];refine⟨a3,by simp,λq hq q' J C=>?_⟩;simp only[dI,List.map_nil,aF] at J;obtain⟨e,a,rfl⟩:=aZ.1 hq;exact H e a (C.trans J);intro e a;simp only[Array.toList_push,aS,aF] at a;rcases a with a|rfl;exact Nat.lt_succ_of_lt (a4 e a);exact Nat.lt_succ_self c;rw[Array.toList_push,bU,List.nodup_append];refine⟨a5,by simp,λq hq q' J C=>?_⟩;simp only[dI,List.map_nil,aF] at J;obtain⟨e,a,rfl⟩:=aZ.1 hq;have:=a4 e a;omega;have ab:p[s]? =some O:=by simpa using H
  have E:s<p.toList.length:=(dB.1 H).1;have d:(p.modify s (λR=>{R with key:=kv x,val:=enc b})).toList=p.toList.set s {O with key:=kv x,val:=enc b}:=by rw[Array.toList_modify,ChangeMaps.modify_eq_set _ _ _ _ H]
  have F:(p.toList.set s {O with key:=kv x,val:=enc b}).map (·.key)=p.toList.map (·.key):=by
   rw[List.map_set];refine List.ext_getElem? λi=>?_;rw[List.getElem?_set];split;rename_i A;subst A;rw[bS,H];have S:s<p.size:=by simpa using E
   simp[S,f3];rfl
  have G:(p.toList.set s {O with key:=kv x,val:=enc b}).map (·.born)=p.toList.map (·.born):=by
   rw[List.map_set];refine List.ext_getElem? λi=>?_;rw[List.getElem?_set];split;rename_i A;subst A;rw[bS,H];have S:s<p.size:=by simpa using E
   simp[S];rfl
  refine⟨p.modify s (λR=>{R with key:=kv x,val:=enc b}),c,?_,?_,?_,?_,?_,?_⟩;unfold Instr.mapUpdate;rw[jg hu];simp[MapKept.run_getObj_map W,L,f1,ab,f3,hK.law.stays w hl,MapKept.run_setObj_map _ W,Result.andThen];rw[d];intro e a;obtain⟨i,Y,rfl⟩:=bG.1 a;rw[cK] at Y;by_cases A:s=i;subst A;rw[List.getElem_set_self];exact⟨x,b,hx,Z,Z,aL Z⟩
  rw[List.getElem_set_ne A];obtain⟨y,B,q1,Q,q3,q4⟩:=a1 _ (aC Y);refine⟨y,B,q1,Q,q3,?_⟩;rw[setM,aI λC=>?_];exact q4;rw[C,<-f3] at Q;have h6:=List.pairwise_iff_getElem.1 a3;have h7:=(dB.1 H).2;rcases Nat.lt_or_gt_of_ne A with T|T;refine h6 s i (by simpa using E) (by simpa using Y) T ?_;simp only[bQ];rw[h7,Q];refine h6 i s (by simpa using Y) (by simpa using E) T ?_;simp only[bQ];rw[h7,Q];rw[d];intro y B D;by_cases C:y=x;exact⟨{O with key:=kv x,val:=enc b},bG.2 ⟨s,by rw[cK];exact E,List.getElem_set_self _⟩,by rw[C]⟩
  rw[setM,aI C] at D;obtain⟨e,a,hk⟩:=a2 y B D;have:e.key∈(p.toList.set s {O with key:=kv x,val:=enc b}).map (·.key):=by rw[F];exact aZ.2 ⟨e,a,Z⟩
  obtain⟨R,U,V⟩:=aZ.1 this;exact⟨R,U,V.trans hk⟩
  rw[d,F];exact a3;rw[d];intro e a;have:e.born∈(p.toList.set s {O with key:=kv x,val:=enc b}).map (·.born):=aZ.2 ⟨e,a,Z⟩;rw[G] at this;obtain⟨R,U,V⟩:=aZ.1 this;rw[<-V];exact a4 R U;rw[d,G];exact a5
 obtain⟨m1,m2,m3⟩:=ext_setMap W m X;refine st_s h1 h2 (λρ ac=>?_) (by rw[hd];exact kk _ ⟨m,X,m3,hM⟩ m1 m2);simp only[execOp,ho,ac _ _ z,ac _ _ hj,ac _ _ aa,Sem.run_bind,hr,aD,aR];cases h;cases h;cases h;cases h;cases h;cases h;cases h
end
end
abbrev noP : x9 := ⟨none, 0, none, 0, none, 0⟩
structure je where
  id : List UInt8
  o : jm
  a : x9
def uv (h : je) : List Value := gh h.id ++ km h.o h.a
instance (h : je) : OneC (uv h) := by unfold uv; infer_instance
theorem By {h : je} (hi : h.id.length = 32) (ho : ub h.o) : (uv h).length = 105 := by
  rw [uv, ao, gm, hi, gr ho]
abbrev blobO (t : Str) : jm := { x1 with kind := 1, text := t }
abbrev treeO (l : List jn) : jm := { x1 with kind := 2, leaves := l }
theorem ul (o : jm) : (vv o).length = 32 := C8 _
theorem Own.xm {kv:List UInt8->Value} {okx:List UInt8->Prop} {β:Type} {w w':World} {p:Option Addr} {n c T sz:Nat} {xs:List Value} (ho:Own w p n c T sz xs) {r:Nat} {enc:β->Value} {g:List UInt8->Option β} (hm:B0 kv okx w r enc g) (hE:Ext (One r) w w'):Own w' p n c T sz xs:=
 ho.ext hE λx a e=>by
  have e:x=r:=e
  subst e
  obtain⟨l,b⟩:=ho.zv1 a
  exact hm.ne b Z
theorem j0.xm {kv:List UInt8->Value} {okx:List UInt8->Prop} {β:Type} {w w':World} {b T:Nat} {L:List Value} (hb:j0 w b T L) {r:Nat} {enc:β->Value} {g:List UInt8->Option β} (hm:B0 kv okx w r enc g) (hE:Ext (One r) w w'):j0 w' b T L:=hb.gk hE (hm.ne hb).symm
section
variable {T1 T2 N : Nat} {w w' : World}
end
inductive C7 : Fence -> Prop where
  | none : C7 Fence.wide
  | round (l : Nat) : C7 (Fence.wide.inRound l)
section
variable {F : Fence} {n : Nat} {P : Program}
theorem C7.fn (h : C7 F) (g : FuncId) : F.fn g := by cases h <;> trivial
theorem C7.depth (h : C7 F) : F.depth.isSome = true -> 1 <= n := by cases h <;> (intro h; cases h)
theorem C7.calls (h:C7 F) {f:FuncId} {args:Array Value} {w:World} {R:Ending->World->Prop} (hc:Calls P f args w R):CallsIn F n P f args w R:=by
 cases h with
 |none=>exact callsIn_wide.2 hc
 |round l=>exact(callsIn_wide (n:=n)).2 hc
theorem C7.rows (h:C7 F) {row:String} {args:Array Value} {w:World} {R:Value->World->Prop} (hc:Rows P row args w R):RowsIn F n P row args w R:=by
 have a:RowsIn Fence.wide n P row args w R:=λc b _=>by obtain⟨v,d,r,s⟩:=hc c b;exact⟨v,d,r,stepsIn_wide.2 s⟩
 cases h with
 |none=>exact a
 |round l=>exact a
def nd : Op -> Bool
  | .defer _ => false
  | _ => true
theorem upon_in (hF:C7 F) {o:Oper} {a:Act} {next:Act->World->Prop} {Q:Exit->Act->World->Prop} {r:Result Next} (h:o.upon P a next (λ_ _ _=>False) r):o.uponIn F n P a next Q r:=by
 cases r with
 |ok x c=>
  cases x<;>simp only[Oper.upon,Oper.uponIn] at h|-
  all_goals first
   |exact h
   |exact h.elim
   |exact⟨hF.depth,(hF.calls h).mono λe c b=>by
     cases e
     exact b
     exact b.elim
     obtain⟨_,_,d⟩:=b
     exact d.elim⟩
   |exact⟨hF.depth,hF.rows h⟩
 |halt x c=>
  cases x<;>simp only[Oper.upon,Oper.uponIn] at h|-
  all_goals first
   |exact h
   |exact h.elim
end
def WLI (F : Fence) (n : Nat) (P : Program) (f : Fs) (ops : Array Oper) (Q : vn) (l : List Oper) (env : Env) (w : World) : Prop := ∀ a, Ag f env a -> wpListIn F n P ops Q l a w
section
variable {F : Fence} {n : Nat} {P : Program} {I : uh} {f : Fs} {ops : Array Oper} {Q : vn} {o : Oper} {rest l : List Oper} {env : Env} {w : World}
theorem wli (hF:C7 F) (hnd:nd o.op=true) (h:St P f ops o env w (WLI F n P f ops Q rest)):WLI F n P f ops Q (o::rest) env w:=by
 intro a j;have b:=h a (λ_ _ _=>False) (wpListIn F n P ops Q rest) j λ_ l _ d k=>k l d;unfold wpListIn;split at b;rename_i i;rw[aL i];rcases b with b|⟨_,_,_,m⟩;refine⟨λg _=>hF.fn g,?_⟩;rw[Oper.semAt_eq _ _ _ (λc e=>by rw[e] at hnd;cases hnd)];exact upon_in hF b;exact m.elim;rename_i i;rw[aI i];exact⟨λg _=>hF.fn g,b⟩
theorem Bf (h : Fin f Q .normal env w) : WLI F n P f ops Q [] env w := λa ha => h a ha
def nds (l : List Oper) : Bool := l.all λo => nd o.op
theorem nds_cons (h : nds (o :: l) = true) : nd o.op = true /\ nds l = true := by simpa [nds] using h
theorem wli_p (hF:C7 F) (hI:I.Ok P) {l':List Oper} {env':Env} (hn:nds l=true) (h:pevs I f.n l env=some (l',env')) (k:WLI F n P f ops Q l' env' w):WLI F n P f ops Q l env w:=by
 induction l generalizing env with
 |nil=>simp[pevs] at h;obtain⟨rfl,rfl⟩:=h;exact k
 |cons o r ih=>
  simp only[pevs] at h;split at h;simp at h;obtain⟨rfl,rfl⟩:=h;exact k;rename_i a;split at h;simp at h;obtain⟨rfl,rfl⟩:=h;exact k;rename_i v b;split at h;rename_i e c;obtain⟨d,rfl⟩:=As c;exact wli hF (nds_cons hn).1 (yt (by simp[takes,a]) d (Aw hI b w) (ih (nds_cons hn).2 h));cases h
theorem c_regionI {id:Nat} {l:List Oper} (h:WLI Fence.wide 9 P f l.toArray Q l env w):WC P f (.region id l.toArray false) Q env w:=λa ha=>wpIn_wide.1 (wpIn_region_lit (h a ha))
theorem wli_yield {g:Nat} {x:Operand} {xs:Array Operand} {ts:Array TypeId} {d:Nat} {vs:List Value} {R:Bool->World->Prop} (ho:o.op= .call {callee:= .value x,args:=xs,argTypes:=ts})
  (hg:takes ops env o=true) (hd:o.dst=some d) (hdn:Nat.blt d f.n=true) (hx:xz env x=some (.func (.yield g) #[] #[])) (hvs:evs env xs.toList=some vs)
  (hY:YieldAt Fence.wide (n-1) P g vs.toArray w λe w'=>∃b,e= .returned (.bool b)/\R b w') (k:∀b w',R b w'->WLI Fence.wide n P f ops Q rest ((d,.bool b)::env) w'):WLI Fence.wide n P f ops Q (o::rest) env w:=by
 intro a s;unfold wpListIn;rw[aL (yf s hg)]
 have j:∀(l:List Operand) vs,evs env l=some vs->l.map a.eval=vs:=by
  intro l;induction l with
  |nil=>intro vs h;simp[evs] at h;subst h;rfl
  |cons y r ih=>
   intro vs h;simp only[evs] at h;split at h;rename_i u z;split at h;rename_i F t;simp at h;subst h;simp[s.eval z,ih _ t];simp at h;simp at h
 have A:xs.map a.eval=vs.toArray:=by apply cH;rw[Array.toList_map,j _ _ hvs]
 obtain⟨B,m,i,p,C,D⟩:=hY;have q:(execOp a.eval o).run P w= .ok (.round g B m i p) w:=by simp only[execOp,ho,resolve,A,s.eval hx,Deferred.ofValue,Sem.run_bind,aR,aD,invoke];simpa using C
 refine⟨λ_ _=>trivial,?_⟩;rw[Oper.semAt_eq _ _ _ (λc e=>by rw[ho] at e;cases e),q,Oper.uponIn_round];refine⟨λh=>(by cases h),D.mono ?_⟩;rintro e w' ⟨b,rfl,E⟩;refine k b w' E _ ?_;have:=s.put (dst:=some d) (v:= .bool b) (by rw[dOk];exact hdn);rw[hd];exact this
end
def notCells : Obj -> Bool
  | .cells .. => false
  | _ => true
theorem Ext.putObj {w:World} {r:Nat} {o:Obj} (_:w.heap[r]? =some o) (_:notCells o=true) {o':Obj} (_:notCells o'=true):Ext (One r) w (w.putObj r o'):=
 ⟨Z,Z,Z,by simp,λb _ a=>World.putObj_heap_other a,aB _⟩
theorem Ext.allocObj (w:World) {o:Obj} (_:notCells o=true):Ext No w (w.alloc o):=by
 refine⟨Z,Z,Z,by simp,λb a _=>?_,aB _⟩;show(w.heap.push _)[b]? =_;rw[Array.getElem?_push,aI zk]
theorem zz1 {P:Program} {g:FuncId} {fn:Func} {c:Code} {args:List Value} {w:World} {R:Value->World->Prop} {n:Nat} {env:Env}
  (hf:P.funcs[g]? =some fn) (hb:fn.body=some c) (hn:fn.ntmps=n) (hl:Nat.ble args.length n=true) (he:envO 0 args=some env) (h:WC P ⟨n,[]⟩ c (bodyPostM Fence.wide 9 P fn (Rv R)) env w):gn P g args w R:=by
 refine callsIn_wide.1 (callsIn_of_wp_marks (n:=9) hf hb trivial (wpIn_wide.2 (h _ ⟨Z,?_,λi v d=>?_⟩)));have:args.length<=n:=dK hl;simp only[hn,Array.size_append,List.size_toArray,Array.size_replicate];omega;have:=(envO_lk he i v d).2;simp only[bB] at this;have a:i<args.length:=by rcases bC i args.length with b|b;exact b;simp[bR b] at this
 simp only[hn];rw[Array.getElem?_append_left (by simpa using a)];simpa using this
def WCI (F : Fence) (n : Nat) (P : Program) (f : Fs) (c : Code) (Q : vn) (env : Env) (w : World) : Prop := ∀ a, Ag f env a -> c.wpIn F n P Q a w
section
variable {F : Fence} {n : Nat} {P : Program} {f : Fs} {Q : vn} {env : Env} {w : World}
theorem A5 {id:Nat} {l:List Oper} (h:WLI F n P f l.toArray Q l env w):WCI F n P f (.region id l.toArray false) Q env w:=λa ha=>wpIn_region_lit (h a ha)
theorem ci_block {id:Nat} {c:Code} (h:WCI F n P f c (Exit.inBlock id Q) env w):WCI F n P f (.block id c) Q env w:=λa ha=>wpIn_block (h a ha)
end
section
variable {P : Program} {I : uh} {f : Fs} {ops : Array Oper} {Q : vn} {o : Oper} {rest l : List Oper} {env : Env} {w : World}
theorem wlw (hnd:nd o.op=true) (h:St P f ops o env w (WLI Fence.wide 9 P f ops Q rest)):WLI Fence.wide 9 P f ops Q (o::rest) env w:=wli .none hnd h
theorem wlw_p (hn:nds l=true) (hI:I.Ok P) {l':List Oper} {env':Env} (h:pevs I f.n l env=some (l',env')) (k:WLI Fence.wide 9 P f ops Q l' env' w):WLI Fence.wide 9 P f ops Q l env w:=wli_p .none hI hn h k
end
section
variable {P : Program} {l : Nat} {r : Loop} {w : World}
theorem begin_round (h:w.heap[l]? =some (.loop r)) (hr:r.state= .ready) {Q:World->Prop} (k:∀w',Ext (One l) w w'->w'.heap[l]? =some (.loop {r with state:= .busy})->Q w'):∃w2,(Instr.beginRound l).run P w= .ok () w2/\Q w2:=
 ⟨_,run_beginRound h hr,k _ (Ext.putObj h Z Z) (World.putObj_heap_same (cJ.1 h).1)⟩
end
section
variable {F : Fence} {n : Nat} {P : Program} {f : Fs} {Q : vn} {env : Env} {w : World}
theorem xv5 {x y : Code} (h : WCI F n P f x (Exit.then (y.wpIn F n P Q) Q) env w) : WCI F n P f (.seq x y) Q env w := λa ha => wpIn_seq (h a ha)
theorem ci_skip (h : Fin f Q .normal env w) : WCI F n P f .skip Q env w := λa ha => wpIn_skip (h a ha)
theorem ci_ret (h : Fin f Q .ret env w) : WCI F n P f .ret Q env w := λa ha => wpIn_ret (h a ha)
theorem ci_cond {c:Operand} {x y:Code} {b:Bool} (hc:xz env c=some (.bool b)) (ht:b=true->WCI F n P f x Q env w) (hf:b=false->WCI F n P f y Q env w):WCI F n P f (.cond c x y) Q env w:=
 λa d=>wpIn_cond_split (d.eval hc) (λh=>ht h a d) (λh=>hf h a d)
theorem ci_if {c:Operand} {x y:Code} {p:Prop} [Decidable p] (hc:xz env c=some (.bool (decide p))) (ht:p->WCI F n P f x Q env w) (hf:¬p->WCI F n P f y Q env w):WCI F n P f (.cond c x y) Q env w:=
 ci_cond hc (λh=>ht (cQ h)) (λh=>hf (of_decide_eq_false h))
theorem yq5 {y : Code} (h : WCI F n P f y Q env w) : Fin f (Exit.then (y.wpIn F n P Q) Q) .normal env w := λa ha => h a ha
end
section
variable {F : Fence} {n : Nat} {P : Program}
theorem upon_in' (hF:C7 F) {o:Oper} {a:Act} {next:Act->World->Prop} {K:Act->World->Prop} {Q:Exit->Act->World->Prop} {r:Result Next} (h:o.upon P a next (NQ K) r):o.uponIn F n P a next Q r:=by
 refine upon_in hF ?_;cases r with
 |ok x w'=>
  cases x<;>simp only[Oper.upon] at h|-
  all_goals first
   |exact h
   |exact Calls.mono h λe c b=>by cases e<;>first|exact b|exact b.elim
 |halt x w'=>
  cases x<;>simp only[Oper.upon] at h|-
  all_goals first
   |exact h
   |exact h.elim
theorem op_in (hF:C7 F) {ops:Array Oper} {Q:vn} {K K':Act->World->Prop} {i:Nat} {o:Oper} (ho:ops[i]? =some o) (hnd:nd o.op=true) {a:Act} {w:World}
  (h:if Region.wanted o (yielded ops a.tmps) then o.wp P a w K' (NQ K)\/(o.asks P a w/\LetsOut (NQ K)) else K' (a.put o.dst undef) w):wpOpIn F n P ops Q i K' a w:=by
 unfold wpOpIn;simp only[ho];split;rename_i b;rw[aL b] at h;rcases h with h|⟨_,_,_,d⟩;refine⟨λg _=>hF.fn g,?_⟩;rw[Oper.semAt_eq _ _ _ (λc e=>by rw[e] at hnd;cases hnd)];exact upon_in' hF h;exact d.elim;rename_i b;rw[aI b] at h;exact⟨λg _=>hF.fn g,h⟩
theorem nds_get {l:List Oper} (h:nds l=true) {i:Nat} {o:Oper} (ho:l.toArray[i]? =some o):nd o.op=true:=by
 have:=dE.1 h o (List.mem_of_getElem? (by simpa using ho));simpa using this
theorem any_in (hF:C7 F) {l:List Oper} (hnd:nds l=true) {Q:vn} {K:Act->World->Prop} (hQ:∀a w,K a w->Q .normal a w):∀(fuel:Nat) (listed:Array Bool) (a:Act) (w:World),
  wpAny P .any l.toArray (NQ K) fuel listed a w->wpAnyIn F n P .any l.toArray Q fuel listed a w
 |0,_,_,_,h=>⟨h.1,hQ _ _ h.2⟩
 |fuel+1,listed,a,w,h=>by
  refine⟨λh0=>hQ _ _ (h.1 h0),λi hi=>?_⟩
  have h1:=h.2 i hi
  obtain⟨_,o,b,_⟩:=mem_ready.1 hi
  unfold wpOp at h1
  simp only[b] at h1
  refine wpOpIn_mono (λc d e=>any_in hF hnd hQ fuel _ c d e) (op_in hF b (nds_get hnd b) h1)
variable {f : Fs} {env : Env} {w : World}
theorem ci_draw (hF : C7 F) {Q : vn} {id : Nat} {l : List Oper} (hnd : nds l = true) (hm : P.follows .mixedOrders = true) (nA : Nat) (pl : List (Nat × Bool)) (pb : List Nat) (S : Nat -> Prop)
  (hok : (Bw l.toArray (Nat.blt · nA) 0 pl pb [] && barOk l.toArray (Nat.blt · nA) [] && Region.noSelect l.toArray && Nat.beq (pl.length + pb.length) l.length) = true)
  (h : ∀ w1, Ext No w w1 -> w1.heap.size = w.heap.size -> WD P f l.toArray (Q .normal) ⟨(Nat.blt · nA), pb, Ext S w, [], 0⟩ pl [] env w1) : WCI F n P f (.region id l.toArray true) Q env w := by
 intro a b
 simp only [bY] at hok
 obtain ⟨⟨⟨c, d⟩, e⟩, g⟩ := hok
 have i := h _ (Ext.drew' w) Z c ⟨d, λ_ j => (by cases j), Dp _ _⟩ e (Ext.drew' w).no a b
 have k : pl.length + pb.length = l.toArray.size := by simpa using dL g
 refine wpIn_region_any hm (any_in hF hnd (λ_ _ h => h) _ _ _ _ ?_)
 have := Cl _ _ _ _ i
 simp only [Nat.add_zero] at this
 rwa [k] at this
def backOk (ops : Array Oper) : Bool := (List.range ops.size).all λi => match ops[i]? with
  | some o => o.after.all λe => !Region.binds .any e || Nat.blt e.on i
  | none => true
theorem xz3 {ops:Array Oper} (h:backOk ops=true) {i:Nat} {o:Oper} (ho:ops[i]? =some o) {e:Edge} (he:e∈o.after) (hb:Region.binds .any e=true):e.on<i:=by
 have a:i<ops.size:=(cJ.1 ho).1;have b:=dE.1 h i (List.mem_range.2 a);simp only[ho] at b;rw[<-Array.all_toList,dE] at b;have c:=b e (by simpa using he);rw[hb] at c;exact dK c
theorem ready_nil {ops:Array Oper} {listed:Array Bool} (hsz:listed.size=ops.size) (hb:backOk ops=true) (h:Region.ready .any ops listed=[]):∀i,i<ops.size->listed.getD i true=true:=by
 intro i;induction i using Nat.strongRecOn with
 |_ i ih=>
  intro f;cases hv:listed.getD i true with
  |true=>rfl
  |false=>
   have d:ops[i]? =some ops[i]:=by simp[f]
   have:i∈Region.ready .any ops listed:=mem_ready.2 ⟨hv,_,d,λe g a=>by
    have b:=xz3 hb d g a
    have c:=ih e.on b zk
    rw[cG] at c|-
    have j:e.on<listed.size:=by omega
    rw[Array.getElem?_eq_getElem j] at c|-
    exact c⟩
   rw[h] at this;cases this
def tailOk (ops : Array Oper) (y : Nat) : Bool := (List.range ops.size).all λj => Nat.blt j y || (List.range y).all λi => yx3 ops 16 j i
def guardOk (l : List Oper) : Bool := (List.range l.length).all λi => match l[i]? with
  | some o => match o.guard with
    | some (j, _) => Nat.blt j i
    | none => true
  | none => true
theorem mk_getD (n:Nat):∀(l:List Nat) (i:Nat),i<n->(mk n l).getD i true=decide (i∈l)
 | [],i,hi=>by simp[mk,hi]
 |j::l,i,hi=>by
  have ih:=mk_getD n l i hi
  by_cases e:j=i
  ·subst e
   simp[mk,mk_size,hi]
  rw[mk,getD_set_ne true e,ih]
  simp[Ne.symm e]
theorem yielded_take {l:List Oper} {y:Nat} {tmps:Array Value} {o:Oper} {i:Nat} (hi:i<y) (ho:l[i]? =some o) (hg:guardOk l=true):Region.wanted o (yielded (l.take y).toArray tmps)=Region.wanted o (yielded l.toArray tmps):=by
 have a:i<l.length:=(dB.1 ho).1;have b:=dE.1 hg i (List.mem_range.2 a);simp only[ho] at b;unfold Region.wanted;cases hgd:o.guard with
 |none=>rfl
 |some p=>
  obtain⟨j,c⟩:=p;rw[hgd] at b;have d:j<i:=dK b;simp only;unfold yielded;have:(l.take y).toArray[j]? =l.toArray[j]? :=by simp only[bX,List.getElem?_take];rw[aL zk]
  rw[this]
theorem any_prefix (hF:C7 F) {l:List Oper} {y:Nat} (hnd:nds (l.take y)=true) (hy:y<=l.length) (hb:backOk (l.take y).toArray=true) (ht:tailOk l.toArray y=true) (hg:guardOk l=true) {Q:vn} {K:Act->World->Prop} {t:Nat}
  (hK:∀a w,K a w->∀fuel,t<=fuel->wpAnyIn F n P .any l.toArray Q fuel (mk l.length (List.range y).reverse) a w):
  ∀(k:Nat) (listed' listed:Array Bool) (a:Act) (w:World),listed'.size=y->listed.size=l.length->(∀i,i<y->listed.getD i true=listed'.getD i true)->(∀i,y<=i->i<l.length->listed.getD i true=false)->Closed l.toArray listed->
   wpAny P .any (l.take y).toArray (NQ K) k listed' a w->wpAnyIn F n P .any l.toArray Q (k+t) listed a w:=by
 have G:(l.take y).toArray.size=y:=by simp;omega
 have d:∀(listed' listed:Array Bool),listed'.size=y->listed.size=l.length->(∀i,i<y->listed.getD i true=listed'.getD i true)->(∀i,y<=i->i<l.length->listed.getD i true=false)->Region.ready .any (l.take y).toArray listed'=[]->listed=mk l.length (List.range y).reverse:=by
  intro listed' listed x z m D H;have c:=ready_nil (x.trans G.symm) hb H;refine Array.ext (by rw[z,mk_size]) λi A B=>?_;have I:listed.getD i true=listed[i]:=by simp[A]
  have e2:(mk l.length (List.range y).reverse).getD i true=(mk l.length (List.range y).reverse)[i]:=by simp[B]
  rw[<-I,<-e2,mk_getD _ _ _ zk];by_cases b:i<y;rw[m i b,c i zk];simp[b];rw[D i zk zk];simp[b]
 intro k;induction k with
 |zero=>
  intro listed' listed a w x z m D T h;rw[d listed' listed x z m D h.1];exact hK a w h.2 _ zk
 |succ k ih=>
  intro listed' listed a w x z m D T h;by_cases H:Region.ready .any (l.take y).toArray listed'=[];rw[d listed' listed x z m D H];exact hK a w (h.1 H) _ zk;obtain⟨E,J⟩:=List.exists_mem_of_ne_nil _ H;obtain⟨L,o0,U,_⟩:=mem_ready.1 J;have f:E<y:=by have:=(cJ.1 U).1;omega
  have M:∀i,i∈Region.ready .any l.toArray listed->i<y/\i∈Region.ready .any (l.take y).toArray listed':=by
   intro i A;obtain⟨hu,o,p,c⟩:=mem_ready.1 A;have N:i<l.length:=by have:=(cJ.1 p).1;simpa using this
   have b:i<y:=by
    rcases bC i y with Y|Y;exact Y;have S:=dE.1 ht i (List.mem_range.2 (by simpa using N))
    have:Nat.blt i y=false:=by cases hb':Nat.blt i y with
     |false=>rfl
     |true=>have:=dK hb';omega
    rw[this,Bool.false_or,dE] at S;have u:=yx7 T 16 p c (S E (List.mem_range.2 f));have C:=m E f;rw[L,cG] at C;rw[cG] at u;rw[Array.getElem?_eq_getElem zk] at u C;simp only[Option.getD_some] at u C;rw[u] at C;cases C
   refine⟨b,mem_ready.2 ⟨by rw[<-m i b];exact hu,o,?_,λe O q=>?_⟩⟩;simp only[bX,List.getElem?_take,aL b];simpa using p;have g:(l.take y).toArray[i]? =some o:=by simp only[bX,List.getElem?_take,aL b];simpa using p
   have V:=xz3 hb g O q;have v:=c e O q;have r:=m e.on zk;rw[cG,cG] at r;rw[cG] at v|-;rw[Array.getElem?_eq_getElem zk] at v r;rw[Array.getElem?_eq_getElem zk] at r|-;simp only[Option.getD_some] at v r|-;rw[<-r,v]
  have s:E∈Region.ready .any l.toArray listed:=by
   obtain⟨_,o,p,c⟩:=mem_ready.1 J;have g:l.toArray[E]? =some o:=by simp only[bX,List.getElem?_take,aL f] at p;simpa using p
   refine mem_ready.2 ⟨by rw[m E f];exact L,o,g,λe O q=>?_⟩;have V:=xz3 hb p O q;have v:=c e O q;have r:=m e.on zk;rw[cG,cG] at r;rw[cG] at v|-;rw[Array.getElem?_eq_getElem zk] at r|-;rw[Array.getElem?_eq_getElem zk] at v r;simp only[Option.getD_some] at v r|-;rw[r,v]
  rw[show k+1+t=(k+t)+1 from by omega];refine⟨λS=>(by rw[S] at s;cases s),λi A=>?_⟩;obtain⟨b,B⟩:=M i A;have u:=h.2 i B;obtain⟨_,o,p,_⟩:=mem_ready.1 A;have R:l[i]? =some o:=by simpa using p
  have g:(l.take y).toArray[i]? =some o:=by simp only[bX,List.getElem?_take,aL b];exact R
  unfold wpOp at u;simp only[g] at u;rw[yielded_take b R hg] at u;refine wpOpIn_mono (λa' w' C=>ih (listed'.setIfInBounds i true) (listed.setIfInBounds i true) a' w' (by simpa using x) (by simpa using z) (λj W=>?_) (λj W X=>?_) (T.set A) C) (op_in hF p (nds_get hnd g) u);by_cases e:i=j;subst e;simp[x,z,b,show i<l.length from by omega];rw[getD_set_ne true e,getD_set_ne true e];exact m j W;rw[getD_set_ne true zk];exact D j W X
def WBI (F : Fence) (n : Nat) (P : Program) (f : Fs) (ops : Array Oper) (Q : vn) (pl : List Nat) (dn : List Nat) (env : Env) (w : World) : Prop :=
  xx2 ops pl dn = true -> ∀ a, Ag f env a -> ∀ fuel, pl.length <= fuel -> wpAnyIn F n P .any ops Q fuel (mk ops.size dn) a w
variable {ops : Array Oper} {Q : vn}
theorem wbi_nil {dn:List Nat} (h:Fin f Q .normal env w):WBI F n P f ops Q [] dn env w:=λg a c b _=>by
 have d:Region.ready .any ops (mk ops.size dn)=[]:=by simpa [xx2] using g
 cases b with
 |zero=>exact⟨d,h a c⟩
 |succ k=>exact⟨λ_=>h a c,λi e=>by rw[d] at e;cases e⟩
theorem wbi {hF:C7 F} {i:Nat} {o:Oper} {pl dn:List Nat} (ho:ops[i]? =some o) (hnd:nd o.op=true) (h:St P f ops o env w (WBI F n P f ops Q pl (i::dn))):WBI F n P f ops Q (i::pl) dn env w:=by
 intro l a s b c;have d:Nat.blt i ops.size=true:=by have:i<ops.size:=(cJ.1 ho).1;simpa using this
 simp only[xx2,d,bY,beq_iff_eq] at l;obtain⟨m,e⟩:=l;obtain⟨k,rfl⟩:∃k,b=k+1:=⟨b-1,by simp at c;omega⟩
 refine⟨λp=>(by rw[m] at p;cases p),λj q=>?_⟩;rw[m] at q;obtain rfl:j=i:=by simpa using q
 exact op_in (K:=λ_ _=>True) hF ho hnd (h a (NQ λ_ _=>True) _ s λr t v g u=>u e t g k (by simp at c;omega))
theorem wbi_yield {i:Nat} {o:Oper} {pl dn:List Nat} (ho:ops[i]? =some o) {g:Nat} {x:Operand} {xs:Array Operand} {ts:Array TypeId} {d:Nat} {vs:List Value} {R:Bool->World->Prop} (hop:o.op= .call {callee:= .value x,args:=xs,argTypes:=ts})
  (hg:takes ops env o=true) (hd:o.dst=some d) (hdn:Nat.blt d f.n=true) (hx:xz env x=some (.func (.yield g) #[] #[])) (hvs:evs env xs.toList=some vs)
  (hY:YieldAt Fence.wide (n-1) P g vs.toArray w λe w'=>∃b,e= .returned (.bool b)/\R b w') (k:∀b w',R b w'->WBI Fence.wide n P f ops Q pl (i::dn) ((d,.bool b)::env) w'):WBI Fence.wide n P f ops Q (i::pl) dn env w:=by
 intro H a C q s;have D:Nat.blt i ops.size=true:=by have:i<ops.size:=(cJ.1 ho).1;simpa using this
 simp only[xx2,D,bY,beq_iff_eq] at H;obtain⟨J,E⟩:=H;obtain⟨m,rfl⟩:∃k,q=k+1:=⟨q-1,by simp at s;omega⟩
 refine⟨λK=>(by rw[J] at K;cases K),λj L=>?_⟩;rw[J] at L;obtain rfl:j=i:=by simpa using L
 unfold wpOpIn;simp only[ho];rw[aL (yf C hg)]
 have t:∀(l:List Operand) vs,evs env l=some vs->l.map a.eval=vs:=by
  intro l;induction l with
  |nil=>intro vs h;simp[evs] at h;subst h;rfl
  |cons y r ih=>
   intro vs h;simp only[evs] at h;split at h;rename_i u M;split at h;rename_i U F;simp at h;subst h;simp[C.eval M,ih _ F];simp at h;simp at h
 have N:xs.map a.eval=vs.toArray:=by apply cH;rw[Array.toList_map,t _ _ hvs]
 obtain⟨O,z,p,A,G,S⟩:=hY;have B:(execOp a.eval o).run P w= .ok (.round g O z p A) w:=by simp only[execOp,hop,resolve,N,C.eval hx,Deferred.ofValue,Sem.run_bind,aR,aD,invoke];simpa using G
 refine⟨λ_ _=>trivial,?_⟩;rw[Oper.semAt_eq _ _ _ (λc e=>by rw[hop] at e;cases e),B,Oper.uponIn_round];refine⟨λh=>(by cases h),S.mono ?_⟩;rintro e w' ⟨b,rfl,T⟩;refine k b w' T E _ ?_ m (by simp at s;omega);have:=C.put (dst:=some d) (v:= .bool b) (by rw[dOk];exact hdn);rw[hd];exact this
theorem c_drawY {id : Nat} {l : List Oper} (y : Nat) (hm : P.follows .mixedOrders = true) (nA : Nat) (pl : List (Nat × Bool)) (pb : List Nat) (S : Nat -> Prop)
  (hok : (Bw (l.take y).toArray (Nat.blt · nA) 0 pl pb [] && barOk (l.take y).toArray (Nat.blt · nA) [] && Region.noSelect (l.take y).toArray && Nat.beq (pl.length + pb.length) y) = true)
  (hY : (Nat.ble y l.length && nds (l.take y) && backOk (l.take y).toArray && tailOk l.toArray y && guardOk l) = true) (tl : List Nat) (htl : Nat.beq (y + tl.length) l.length = true)
  (h : ∀ w1, Ext No w w1 -> w1.heap.size = w.heap.size -> WD P f (l.take y).toArray (NQ (λa w => ∀ fuel, tl.length <= fuel -> wpAnyIn Fence.wide 9 P .any l.toArray Q fuel (mk l.length (List.range y).reverse) a w) .normal) ⟨(Nat.blt · nA), pb, Ext S w, [], 0⟩ pl [] env w1) : WC P f (.region id l.toArray true) Q env w := by
 intro a g;have htl := dL htl;simp only [bY] at hok hY;obtain ⟨⟨⟨j, k⟩, m⟩, o⟩ := hok;obtain ⟨⟨⟨⟨p, q⟩, r⟩, s⟩, u⟩ := hY;have c := dK p;have v := h _ (Ext.drew' w) Z j ⟨k, λ_ x => (by cases x), Dp _ _⟩ m (Ext.drew' w).no a g;have z : pl.length + pb.length = y := dL o;have b := Cl _ _ _ _ v;simp only [Nat.add_zero] at b;have d : (l.take y).toArray.size = y := by simp; omega
 refine wpIn_wide.1 (wpIn_region_any (n := 9) hm ?_);have A : mk (l.take y).toArray.size [] = Array.replicate y false := by rw [d]; rfl
 rw [A, z] at b;have := any_prefix (n := 9) C7.none q c r s u (Q := Q) (t := tl.length) (λa w h => h) y (Array.replicate y false) (Array.replicate l.length false) a _ zq zq (λi e => by simp [e, show i < l.length from by omega]) (λi _ e => by simp [e]) (Dp l.toArray l.length) b;rw [htl] at this;simpa using this
theorem f_tail {y:Nat} {l:List Oper} {tl:List Nat} (hp:xx2 l.toArray tl (List.range y).reverse=true) (h:WBI Fence.wide 9 P f l.toArray Q tl (List.range y).reverse env w):
  Fin f (NQ (λa w=>∀fuel,tl.length<=fuel->wpAnyIn Fence.wide 9 P .any l.toArray Q fuel (mk l.length (List.range y).reverse) a w)) .normal env w:=λa ha=>h hp a ha
end
structure Cons (P : Program) (l n0 N : Nat) (args : Nat -> Array Value) (J Jx : Nat -> (Nat -> Prop) -> World -> Prop) : Prop where
  st : ∀ {k : Nat} {F S : Nat -> Prop} {w w' : World}, J k F w -> Ext S w w' -> (∀ x, S x -> n0 <= x /\ ¬ F x) -> J k F w'
  stx : ∀ {k : Nat} {F S : Nat -> Prop} {w w' : World}, Jx k F w -> Ext S w w' -> (∀ x, S x -> n0 <= x /\ ¬ F x) -> Jx k F w'
  lt : ∀ {k : Nat} {F : Nat -> Prop} {w : World}, J k F w -> ∀ x, F x -> x < w.heap.size
  ltx : ∀ {k : Nat} {F : Nat -> Prop} {w : World}, Jx k F w -> ∀ x, F x -> x < w.heap.size
  round : ∀ {k : Nat} {F : Nat -> Prop} {w : World}, J k F w -> k < N -> YieldAt Fence.wide 8 P l (args k) w λe w' => ∃ b, e = .returned (.bool b) /\ ∃ F' : Nat -> Prop, Ext F w w' /\ (∀ x, F' x -> F x \/ w.heap.size <= x) /\ (b = true -> J (k + 1) F' w') /\ (b = false -> Jx k F' w')
def Iter (P : Program) (gf : Nat) (cap : List Value) (N : Nat) (args : Nat -> Array Value) (own : Nat -> Prop) (w : World) : Prop :=
  ∀ (l : Nat) (J Jx : Nat -> (Nat -> Prop) -> World -> Prop) (F : Nat -> Prop), Cons P l w.heap.size N args J Jx -> J 0 F w -> (∀ x, own x -> ¬ F x) ->
    gn P gf (.func (.yield l) #[] #[] :: cap) w λ_ w' => ∃ F' : Nat -> Prop, Ext F w w' /\ (∀ x, F' x -> F x \/ w.heap.size <= x) /\ (J N F' w' \/ ∃ k, k < N /\ Jx k F' w')
structure CoS (α : Type) (w : World) where
  Fp : α -> Nat -> Prop
  J : Nat -> α -> World -> Prop
  Jx : Nat -> Code -> α -> World -> Prop
  st : ∀ {k : Nat} {z : α} {S : Nat -> Prop} {u u' : World}, J k z u -> Ext S u u' -> (∀ x, S x -> w.heap.size <= x /\ ¬ Fp z x) -> J k z u'
  stx : ∀ {k : Nat} {c : Code} {z : α} {S : Nat -> Prop} {u u' : World}, Jx k c z u -> Ext S u u' -> (∀ x, S x -> w.heap.size <= x /\ ¬ Fp z x) -> Jx k c z u'
  lt : ∀ {k : Nat} {z : α} {u : World}, J k z u -> ∀ x, Fp z x -> x < u.heap.size
  ltx : ∀ {k : Nat} {c : Code} {z : α} {u : World}, Jx k c z u -> ∀ x, Fp z x -> x < u.heap.size
abbrev zj8 : Obj := .deferred (some [])
abbrev busy (r : Loop) : Loop := { r with state := .busy }
section
variable {α : Type} {w : World} {P : Program}
def CJ (C : CoS α w) (z0 : α) (l D : Nat) (r : Loop) (k : Nat) (F : Nat -> Prop) (u : World) : Prop :=
  ∃ z, F = (λx => C.Fp z x \/ x = l \/ x = D) /\ C.J k z u /\ (∀ x, C.Fp z x -> x ≠ l /\ x ≠ D) /\ u.heap[l]? = some (.loop r) /\ u.heap[D]? = some zj8 /\ Ext (C.Fp z0) w u /\ (∀ x, C.Fp z x -> C.Fp z0 x \/ w.heap.size <= x)
def CJx (C : CoS α w) (z0 : α) (l D : Nat) (r : Loop) (k : Nat) (F : Nat -> Prop) (u : World) : Prop :=
  ∃ c z, F = (λx => C.Fp z x \/ x = l \/ x = D) /\ C.Jx k c z u /\ (∀ x, C.Fp z x -> x ≠ l /\ x ≠ D) /\ u.heap[l]? = some (.loop { r with state := .done, pending := some c }) /\ u.heap[D]? = some zj8 /\ Ext (C.Fp z0) w u /\ (∀ x, C.Fp z x -> C.Fp z0 x \/ w.heap.size <= x)
structure RdC (C : CoS α w) (z0 : α) (l D : Nat) (r : Loop) (z : α) (W : World) : Prop where
  rd : r.state = .ready
  pe : r.pending = none
  ne : l ≠ D
  lo : w.heap.size <= l /\ w.heap.size <= D
  fp : ∀ x, C.Fp z x -> x ≠ l /\ x ≠ D
  l : W.heap[l]? = some (.loop r)
  D : W.heap[D]? = some zj8
  X : Ext (C.Fp z0) w W
  sub : ∀ x, C.Fp z x -> C.Fp z0 x \/ w.heap.size <= x
def RdQ (C : CoS α w) (z0 : α) (l D : Nat) (r : Loop) (k : Nat) (z : α) (W : World) : Ending -> World -> Prop := λe w' =>
  ∃ b, e = .returned (.bool b) /\ ∃ F' : Nat -> Prop, Ext (λx => C.Fp z x \/ x = l \/ x = D) W w' /\ (∀ x, F' x -> (C.Fp z x \/ x = l \/ x = D) \/ W.heap.size <= x) /\ (b = true -> CJ C z0 l D r (k + 1) F' w') /\ (b = false -> CJx C z0 l D r k F' w')
theorem vh {W : World} {x : Nat} {o : Obj} (h : W.heap[x]? = some o) : x < W.heap.size := (cJ.1 h).1
variable {C : CoS α w} {z0 : α} {l D : Nat} {r : Loop} {k : Nat} {z : α} {W : World} {f : Fs} {env : Env} {u : World}
theorem RdC.ends (h:RdC C z0 l D r z W) (hE:Ext (λx=>C.Fp z x\/x=l) W u) {z':α} (hF:∀x,C.Fp z' x->C.Fp z x\/W.heap.size<=x):
  u.heap[D]? =some zj8/\(∀x,C.Fp z' x->x≠l/\x≠D)/\Ext (C.Fp z0) w u/\(∀x,C.Fp z' x->C.Fp z0 x\/w.heap.size<=x):=by
 refine⟨(hE.same _ (vh h.D) λe=>e.elim (λe=>(h.fp _ e).2 Z) λe=>h.ne e.symm).trans h.D,λx a=>?_,h.X.trans hE λx a e=>?_,λx a=>?_⟩;rcases hF x a with a|a;exact h.fp x a;exact⟨λe=>by have:=vh h.l;omega,λe=>by have:=vh h.D;omega⟩
 rcases e with e|e;exact(h.sub x e).resolve_right zk;have:=h.lo.1;omega;rcases hF x a with a|a;exact h.sub x a;exact .inr (al h.X.size a)
theorem fin_next (z':α) (h:RdC C z0 l D r z W) (hl:u.heap[l]? =some (.loop (busy r))) (hE:Ext (λx=>C.Fp z x\/x=l) W u) (hF:∀x,C.Fp z' x->C.Fp z x\/W.heap.size<=x) (hJ:C.J (k+1) z' u):
  Fin f (roundPost P l (RdQ C z0 l D r k z W)) .normal env u:=by
 intro a _;obtain⟨i,g,j,m⟩:=h.ends hE hF;have b:Ext (One l) u (u.putObj l (.loop {busy r with state:=if(none:Option Code).isNone then .ready else .done,pending:=none})):=Ext.putObj hl Z Z;refine⟨_,_,run_endRound none hl,true,Z,λx=>C.Fp z' x\/x=l\/x=D,?_,λx c=>?_,λ_=>?_,λe=>by cases e⟩;exact(hE.mono λx _ e=>e.imp id .inl).then (b.mono λx _ e=> .inr (.inl e));rcases c with c|c;exact(hF x c).imp .inl id;exact .inl (.inr c);refine⟨z',rfl,C.st hJ b λx e=>?_,g,?_,?_,j.trans b λx c e=>?_,m⟩;have e:x=l:=e;subst e;exact⟨h.lo.1,λe=>(g _ e).1 Z⟩
 rw[World.putObj_heap_same (vh hl)];have n:=h.rd;have o:=h.pe;cases r;cases n;cases o;rfl;exact(World.putObj_heap_other h.ne.symm).trans i;have:=h.lo.1;omega
theorem fin_stop {c:Code} {e:Exit} (hc:(e= .ret/\c= .ret)\/∃id,e= .exit id/\c= .exit id) (z':α) (h:RdC C z0 l D r z W) (hl:u.heap[l]? =some (.loop (busy r))) (hE:Ext (λx=>C.Fp z x\/x=l) W u) (hF:∀x,C.Fp z' x->C.Fp z x\/W.heap.size<=x) (hJ:C.Jx k c z' u):
  Fin f (roundPost P l (RdQ C z0 l D r k z W)) e env u:=by
 intro a _;obtain⟨m,j,n,o⟩:=h.ends hE hF;have b:Ext (One l) u (u.putObj l (.loop {busy r with state:=if(some c:Option Code).isNone then .ready else .done,pending:=some c})):=Ext.putObj hl Z Z
 have g:∃v w',(Instr.endRound l (some c)).run P u= .ok v w'/\RdQ C z0 l D r k z W (.returned v) w':=by
  refine⟨_,_,run_endRound (some c) hl,false,Z,λx=>C.Fp z' x\/x=l\/x=D,?_,λx d=>?_,(λe=>by cases e),λ_=>?_⟩;exact(hE.mono λx _ e=>e.imp id .inl).then (b.mono λx _ e=> .inr (.inl e));rcases d with d|d;exact(hF x d).imp .inl id;exact .inl (.inr d);refine⟨c,z',rfl,C.stx hJ b λx e=>?_,j,?_,?_,n.trans b λx d e=>?_,o⟩;have e:x=l:=e;subst e;exact⟨h.lo.1,λe=>(j _ e).1 Z⟩
  exact World.putObj_heap_same (vh hl);exact(World.putObj_heap_other h.ne.symm).trans m;have:=h.lo.1;omega
 rcases hc with⟨rfl,rfl⟩|⟨id,rfl,rfl⟩;exact g;exact g
theorem fin_begin {R:Ending->World->Prop} {body:Code} (h:RdC C z0 l D r z W) (hl:u.heap[l]? =some (.loop r)) (hb:∀u',Ext (One l) u u'->u'.heap[l]? =some (.loop (busy r))->WCI (Fence.wide.inRound l) 8 P f body (roundPost P l R) env u'):
  Fin f (Exit.then (λa1 w1=>∃w2,(Instr.beginRound l).run P w1= .ok () w2/\body.wpIn (Fence.wide.inRound l) 8 P (roundPost P l R) a1 w2) (λ_ _ _=>False)) .normal env u:=λa c=>
 begin_round hl h.rd λd e b=>hb d e b a c
def penv : List Tmp -> List Value -> Env -> Env
  | t :: ts, v :: vs, e => penv ts vs ((t, v) :: e)
  | _, _, e => e
theorem ag_fold:∀(ts:List Tmp) (vs:List Value) (env:Env) (tmps:Array Value),ts.all (λt=>Nat.blt t f.n)=true->tmps.size=f.n->(∀i v,lk env i=some v->tmps[i]? =some v)->
  ((ts.zip vs).foldl (λtmps (x:Tmp×Value)=>tmps.setIfInBounds x.1 x.2) tmps).size=f.n/\∀i v,lk (penv ts vs env) i=some v->((ts.zip vs).foldl (λtmps (x:Tmp×Value)=>tmps.setIfInBounds x.1 x.2) tmps)[i]? =some v
 | [],vs,env,tmps,_,hs,h=>⟨hs,by cases vs<;>exact h⟩
 |t::ts,[],env,tmps,_,hs,h=>⟨hs,h⟩
 |t::ts,v::vs,env,tmps,ht,hs,h=>by
  simp only[List.all_cons,bY] at ht
  have htn:t<f.n:=dK ht.1
  refine ag_fold ts vs ((t,v)::env) (tmps.setIfInBounds t v) ht.2 (by simpa using hs) λi u a=>?_
  rw[yj7] at a
  split at a
  ·rename_i e
   subst e
   cases a
   simp[hs,htn]
  rename_i e
  rw[dJ e]
  exact h i u a
theorem c_rangeX {Q:vn} {g:Operand} {ps:Array Tmp} {assign body:Code} {gf:Nat} {cap:Array Value}
  (hg:xz env g=some (.func (.func gf) #[] cap)) (hcf:∀args w,(callFunc gf args).run P w= .ok (.enter gf args) w)
  (H:∀(fn:FuncId) (a:Act),Ag f env a->∀rec:Loop,rec={state:= .ready,pending:=none,fn,tmps:=a.tmps,params:=ps,assign,body,defers:=w.heap.size}->
   ∀w1,Ext No w w1->w1.heap[w.heap.size+1]? =some (.loop rec)->w1.heap[w.heap.size]? =some zj8->w1.heap.size=w.heap.size+2->
   gn P gf (.func (.yield (w.heap.size+1)) #[] #[]::cap.toList) w1 λ_ w2=>∃r2,w2.heap[w.heap.size+1]? =some (.loop r2)/\r2.state≠ .busy/\w2.heap[w.heap.size]? =some zj8/\
    ∀w3,Ext (One (w.heap.size+1)) w2 w3->w3.heap[w.heap.size]? =some zj8->(r2.pending=none->Fin ⟨f.n,{target:= .collected w.heap.size,args:= #[]}::f.ds⟩ Q .normal env w3)/\
     ∀c,r2.pending=some c->WC P ⟨f.n,{target:= .collected w.heap.size,args:= #[]}::f.ds⟩ c Q env w3):
  WC P f (.rangeFunc g ps assign body) Q env w:=by
 intro a j;refine(wpIn_wide (n:=9)).1 (wpIn_rangeFunc λfn _=>?_);obtain⟨rec,d⟩:∃rec:Loop,rec={state:= .ready,pending:=none,fn,tmps:=a.tmps,params:=ps,assign,body,defers:=w.heap.size}:=⟨_,Z⟩
 have z:Ext No w (w.alloc (.deferred (some []))):=Ext.allocObj w Z;have y:Ext No (w.alloc (.deferred (some []))) ((w.alloc (.deferred (some []))).alloc (.loop rec)):=Ext.allocObj _ Z;have A:((w.alloc (.deferred (some []))).alloc (.loop rec)).heap[w.heap.size+1]? =some (.loop rec):=by have:=World.alloc_heap_new (w.alloc (.deferred (some []))) (.loop rec);rwa [World.size_alloc] at this
 have B:((w.alloc (.deferred (some []))).alloc (.loop rec)).heap[w.heap.size]? =some (.deferred (some [])):=
  (y.same _ zq id).trans (World.alloc_heap_new w _)
 refine⟨w.heap.size+1,[{target:= .collected w.heap.size,args:= #[]}],(w.alloc (.deferred (some []))).alloc (.loop rec),{target:= .fn (.func gf) cap,args:= #[.func (.yield (w.heap.size+1)) #[] #[]]},(w.alloc (.deferred (some []))).alloc (.loop rec),gf,
  #[.func (.yield (w.heap.size+1)) #[] #[]]++cap,(w.alloc (.deferred (some []))).alloc (.loop rec),?_,?_,λ_ _=>trivial,?_,λh=>(by cases h),?_⟩
 rw[d];exact run_enterLoop_outer _ _ _ _ _;have p:=j.eval hg;simp only[resolve,rangeCall,p];simp[Deferred.ofValue,Act.eval];simp[invoke,hcf];have C:=H fn a j rec d _ (z.gb y) A B zq;have D:(#[.func (.yield (w.heap.size+1)) #[] #[]]++cap:Array Value)=(.func (.yield (w.heap.size+1)) #[] #[]::cap.toList).toArray:=by apply cH;simp
 rw[D];refine(C7.none.calls C).mono ?_;rintro e w2 q;cases e with
 |returned v=>
  obtain⟨r2,k,r,s,E⟩:=q;have i:=run_endLoop (P:=P) k r;have l:(w2.putObj (w.heap.size+1) (.loop {r2 with state:= .exhausted})).heap[w.heap.size]? =some zj8:=(World.putObj_heap_other zk).trans s;have m:Ext (One (w.heap.size+1)) w2 (w2.putObj (w.heap.size+1) (.loop {r2 with state:= .exhausted})):=Ext.putObj k Z Z;generalize w2.putObj (w.heap.size+1) (.loop {r2 with state:= .exhausted})=w3 at i l m;obtain⟨t,u⟩:=E _ m l;have o:Ag ⟨f.n,{target:= .collected w.heap.size,args:= #[]}::f.ds⟩ env {a with defers:=[{target:= .collected w.heap.size,args:= #[]}]++a.defers}:=⟨by simp[j.defers],j.size,j.get⟩
  refine⟨_,_,i,?_⟩;split;rename_i x;exact t x _ o;rename_i c x;exact wpIn_wide.2 (u c x _ o)
 |panicked ch=>exact q.elim
 |outgrown=>exact q.elim
theorem c_iter (C:CoS α w) (z0:α) {Q:vn} {g:Operand} {ps:Array Tmp} {assign body:Code} {gf:Nat} {cap:Array Value} {N:Nat} {args:Nat->Array Value} {own:Nat->Prop}
  (hg:xz env g=some (.func (.func gf) #[] cap)) (hcf:∀args w,(callFunc gf args).run P w= .ok (.enter gf args) w)
  (hps:ps.toList.all (λt=>Nat.blt t f.n)=true) (hpn:∀k,(args k).size=ps.size)
  (hit:∀w1,Ext No w w1->Iter P gf cap.toList N args own w1) (hown:∀x,own x->x<w.heap.size/\¬C.Fp z0 x) (h0:C.J 0 z0 w)
  (hround:∀(l D:Nat) (r:Loop) (k:Nat) (z:α) (W:World),RdC C z0 l D r z W->C.J k z W->k<N->
   WCI (Fence.wide.inRound l) 8 P ⟨f.n,[]⟩ assign (Exit.then (λa1 w1=>∃w2,(Instr.beginRound l).run P w1= .ok () w2/\body.wpIn (Fence.wide.inRound l) 8 P (roundPost P l (RdQ C z0 l D r k z W)) a1 w2) (λ_ _ _=>False)) (penv ps.toList (args k).toList env) W)
  (hdone:∀(D:Nat) (z:α) (W:World),C.J N z W->Ext (C.Fp z0) w W->(∀x,C.Fp z x->C.Fp z0 x\/w.heap.size<=x)->w.heap.size<=D->W.heap[D]? =some zj8->(∀x,C.Fp z x->x≠D)->
   Fin ⟨f.n,{target:= .collected D,args:= #[]}::f.ds⟩ Q .normal env W)
  (hstop:∀(D:Nat) (k:Nat) (c:Code) (z:α) (W:World),k<N->C.Jx k c z W->Ext (C.Fp z0) w W->(∀x,C.Fp z x->C.Fp z0 x\/w.heap.size<=x)->w.heap.size<=D->W.heap[D]? =some zj8->(∀x,C.Fp z x->x≠D)->
   WC P ⟨f.n,{target:= .collected D,args:= #[]}::f.ds⟩ c Q env W):
  WC P f (.rangeFunc g ps assign body) Q env w:=by
 refine c_rangeX hg hcf λfn a I d h w1 G R T aa=>?_;have U:w.heap.size+1≠w.heap.size:=by omega
 have M:d.state= .ready:=by rw[h]
 have O:d.pending=none:=by rw[h]
 have H:Cons P (w.heap.size+1) w1.heap.size N args (CJ C z0 (w.heap.size+1) w.heap.size d) (CJx C z0 (w.heap.size+1) w.heap.size d):=by
  refine⟨?_,?_,?_,?_,?_⟩;rintro k F S u u' ⟨z,rfl,p,q,m,o,s,y⟩ B E;have j:∀x,S x->w.heap.size<=x/\¬C.Fp z x:=λx b=>⟨by have:=(E x b).1;omega,λe=>(E x b).2 (.inl e)⟩
  exact⟨z,Z,C.st p B j,q,(B.same _ (vh m) λe=>(E _ e).2 (.inr (.inl Z))).trans m,(B.same _ (vh o) λe=>(E _ e).2 (.inr (.inr Z))).trans o,s.trans B λx b e=>by have:=(j x e).1;omega,y⟩
  rintro k F S u u' ⟨c,z,rfl,p,q,m,o,s,y⟩ B E;have j:∀x,S x->w.heap.size<=x/\¬C.Fp z x:=λx b=>⟨by have:=(E x b).1;omega,λe=>(E x b).2 (.inl e)⟩
  exact⟨c,z,Z,C.stx p B j,q,(B.same _ (vh m) λe=>(E _ e).2 (.inr (.inl Z))).trans m,(B.same _ (vh o) λe=>(E _ e).2 (.inr (.inr Z))).trans o,s.trans B λx b e=>by have:=(j x e).1;omega,y⟩
  rintro k F u ⟨z,rfl,p,q,m,o,s,y⟩ x b;rcases b with b|rfl|rfl;exact C.lt p x b;exact vh m;exact vh o;rintro k F u ⟨c,z,rfl,p,q,m,o,s,y⟩ x b;rcases b with b|rfl|rfl;exact C.ltx p x b;exact vh m;exact vh o;rintro k F u ⟨z,rfl,p,q,m,o,s,y⟩ V;have hy:=run_yield (P:=P) (args:=args k) m (by rw[h];exact hpn k);refine⟨_,_,_,_,hy,roundIn_of_wpIn trivial ?_⟩;have hA:d.assign=assign:=by rw[h]
  have hB:d.body=body:=by rw[h]
  have hT:d.tmps=a.tmps:=by rw[h]
  have hP:d.params=ps:=by rw[h]
  rw[hA,hB,hT,hP];obtain⟨g1,g2⟩:=ag_fold (f:=⟨f.n,[]⟩) ps.toList (args k).toList env a.tmps hps I.size I.get;refine hround (w.heap.size+1) w.heap.size d k z u ⟨M,O,U,⟨by omega,aB _⟩,q,m,o,s,y⟩ p V _ ⟨Z,?_,λi v hi=>?_⟩;rw[<-Array.foldl_toList,Array.toList_zip];exact g1;show(Array.foldl _ a.tmps (ps.zip (args k)))[i]? =some v;rw[<-Array.foldl_toList,Array.toList_zip];exact g2 i v hi
 have X:CJ C z0 (w.heap.size+1) w.heap.size d 0 (λx=>C.Fp z0 x\/x=w.heap.size+1\/x=w.heap.size) w1:=
  ⟨z0,Z,C.st h0 G λx e=>e.elim,λx b=>⟨λe=>by have:=C.lt h0 x b;omega,λe=>by have:=C.lt h0 x b;omega⟩,R,T,G.no,λx b=> .inl b⟩
 refine(hit w1 G (w.heap.size+1) _ _ _ H X λx b=>?_).mono ?_;have:=hown x b;rintro(e|e|e);exact this.2 e;omega;omega;rintro _ w2 ⟨F',ab,ac,⟨z,rfl,p,q,m,o,s,y⟩|⟨k,V,c,z,rfl,p,q,m,o,s,y⟩⟩;refine⟨d,m,by rw[M];decide,o,λY A K=>⟨λ_=>?_,λc L=>by rw[O] at L;cases L⟩⟩;have j:∀x,One (w.heap.size+1) x->w.heap.size<=x/\¬C.Fp z x:=λx b=>by have b:x=w.heap.size+1:=b;exact⟨by omega,λe=>(q x e).1 b⟩
 exact hdone _ z Y (C.st p A j) (s.trans A λx b e=>by have:=(j x e).1;omega) y (aB _) K λx b=>(q x b).2;refine⟨_,m,(λe=>by cases e),o,λY A K=>⟨λL=>(by cases L),λc' L=>?_⟩⟩;cases L;have j:∀x,One (w.heap.size+1) x->w.heap.size<=x/\¬C.Fp z x:=λx b=>by have b:x=w.heap.size+1:=b;exact⟨by omega,λe=>(q x e).1 b⟩
 exact hstop _ k c z Y V (C.stx p A j) (s.trans A λx b e=>by have:=(j x e).1;omega) y (aB _) K λx b=>(q x b).2
end
theorem leaves_marks {P:Program} {fn:Func} {tmps:Array Value} {R:Ending->World->Prop}:∀(Ds:List Nat) (w:World),Ds.Nodup->(∀D∈Ds,w.heap[D]? =some zj8)->
  (∀w',Ext (λx=>x∈Ds) w w'->LeavesInM Fence.wide 9 P fn tmps R [] .returning w')->
  LeavesInM Fence.wide 9 P fn tmps R (Ds.map λD=>{target:= .collected D,args:= #[]}) .returning w
 | [],w,_,_,k=>k w (Ext.refl _ _)
 |D::Ds,w,hn,hD,k=>by
  have hd:=hD D zq
  have f:Ext (One D) w (w.putObj D (.deferred none)):=Ext.putObj hd Z Z
  simp only[List.nodup_cons] at hn
  refine⟨by simp,.inl ⟨D,_,Z,run_takeDeferred hd,leaves_marks Ds _ hn.2 (λd a=>?_) λw' b=>k w' ?_⟩⟩
  ·have c:d≠D:=λe=>hn.1 (e▸a)
   exact(World.putObj_heap_other c).trans (hD d (by simp[a]))
  exact(f.mono λx _ e=>by have e:x=D:=e;subst e;simp).then (b.mono λx _ e=>by simp[e])
theorem zz2 {P:Program} {n:Nat} {fn:Func} {R:Value->World->Prop} {env:Env} {w:World} (Ds:List Nat) (hn:Ds.Nodup) (hD:∀D∈Ds,w.heap[D]? =some zj8) (vs:List Value)
  (k:∀w',Ext (λx=>x∈Ds) w w'->ResAll P env w' fn.results.toList vs/\R (tupV vs) w') {e:Exit} (he:e= .ret\/e= .normal):
  Fin ⟨n,Ds.map λD=>{target:= .collected D,args:= #[]}⟩ (bodyPostM Fence.wide 9 P fn (Rv R)) e env w:=by
 intro a d
 have b:LeavesInM Fence.wide 9 P fn a.tmps (Rv R) a.defers .returning w:=by
  rw[d.defers];refine leaves_marks Ds w hn hD λw' f=>?_;obtain⟨g,h⟩:=k w' f;have i:=yq4 (a:={a with defers:=[]}) (w:=w') (n:=n) ⟨Z,d.size,d.get⟩ _ _ g;refine⟨tupV vs,?_,h⟩;unfold results;rw[Array.mapM_eq_mapM_toList,Sem.run_bind,Sem.run_map];erw [i];simp only[aD,aR];congr 1;cases vs with
  |nil=>rfl
  |cons v r=>cases r<;>simp[tupV]
 rcases he with rfl|rfl;exact b;exact b
theorem Ah {S:Nat->Prop} {w w':World} {l:Nat} {o:Obj} (h:w.heap[l]? =some o) (hE:Ext S w w') (hS:¬S l):w'.heap[l]? =some o:=(hE.same _ (vh h) hS).trans h
theorem j0.neL {w:World} {l b T:Nat} {r:Loop} {L:List Value} (hb:j0 w b T L) (h:w.heap[l]? =some (.loop r)):b≠l:=λe=>by
 subst e
 unfold j0 at hb
 rw[h] at hb
 cases hb
theorem j0.extL {w w':World} {l b T:Nat} {r:Loop} {L:List Value} (hb:j0 w b T L) (h:w.heap[l]? =some (.loop r)) (hE:Ext (One l) w w'):j0 w' b T L:=hb.gk hE (hb.neL h)
section
variable {P : Program} {I : uh} {f : Fs} {ops : Array Oper} {Q : vn} {rest l : List Oper} {env : Env} {w : World} {F : Fence} {n : Nat} {k : Nat}
theorem yw2 (hI:I.Ok P) {l':List Oper} {env':Env} (h:pevs I f.n l env=some (l',env')) (c:WLI (Fence.wide.inRound k) 8 P f ops Q l' env' w) (hn:nds l=true:=by rfl):WLI (Fence.wide.inRound k) 8 P f ops Q l env w:=wli_p (.round k) hI hn h c
end
section
variable {P : Program} {I : uh} {f : Fs} {ops : Array Oper} {o : Oper} {env : Env} {w : World}
def cvE (I : uh) (n : Nat) (ops : Array Oper) (env : Env) (o : Oper) : Option (Nat × Nat × Nat × Nat × Nat) :=
  match pre n ops env o with
  | false => none
  | true => match o.dst with
    | some d => match o.op with
      | .convert s t x => match Nat.beq s t with
        | true => match z7 I s with
          | some y => match y.desc with
            | .slice e => match z7 I e with
              | some g => match g.desc with
                | .int .u8 => match xz env x with
                  | some (.slice (some ⟨b, off, none⟩) m c) => some (b, off, m, c, d)
                  | _ => none
                | _ => none
              | none => none
            | _ => none
          | none => none
        | false => none
      | _ => none
    | none => none
theorem freeze_ext {b T:Nat} {l:List Value} (h:j0 w b T l):Ext (One b) w (w.freeze ⟨b,l.length,none⟩ 1)/\Seg (w.freeze ⟨b,l.length,none⟩ 1) b 0 l/\(w.freeze ⟨b,l.length,none⟩ 1).heap.size=w.heap.size:=by
 unfold World.freeze;rw[aI zd];refine⟨⟨Z,Z,Z,by simp,λx d a=>?_,aB _⟩,λi v c=>?_,by simp⟩;simp only[Array.getElem?_modify];rw[aI (λe=>a e.symm)];unfold j0 at h;simp only[World.cell?,Array.getElem?_modify,cT,h,Option.map_some];rw[aV];simp[c]
theorem st_cv (hI:I.Ok P) {K:Env->World->Prop} {b off m c d:Nat} (h:cvE I f.n ops env o=some (b,off,m,c,d)) {T:Nat} {l:List Value} (hb:j0 w b T l)
  (k:∀w',Ext (One b) w w'->Seg w' b 0 l->w'.heap.size=w.heap.size->K ((d,.slice (some ⟨b,off,none⟩) m c)::env) w'):St P f ops o env w K:=by
 unfold cvE at h;split at h;cases h;rename_i B;obtain⟨C,D⟩:=pre_eq B;split at h;rename_i S E;split at h;rename_i s t x F;split at h;rename_i i;have i:=dL i;subst i;split at h;rename_i y G;split at h;rename_i e H;split at h;rename_i g J;split at h;rename_i p;split at h;rename_i j a q r L;simp only[bJ,cR] at h;obtain⟨rfl,rfl,rfl,rfl,rfl⟩:=h;have u:=(hI.get G).under w;have A:=(hI.get J).under w;rw[H] at u;rw[p] at A;obtain⟨M,N,O⟩:=freeze_ext hb;refine yt C D (v:= .slice (some ⟨j,a,none⟩) q r) (w':=w.freeze ⟨j,l.length,none⟩ 1) (λU Q=>?_) (by rw[E];exact k _ M N O);have z:w.shape? j=some (T,l.length):=by unfold j0 at hb;simp[World.shape?,hb]
 have R:(convert s s (.slice (some ⟨j,a,none⟩) q r)).run P w= .ok (.slice (some ⟨j,a,none⟩) q r) (w.freeze ⟨j,l.length,none⟩ 1):=by unfold convert;rw[jg u,jg u];show(underlying e>>=_).run P w=_;rw[jg A];simp[markStringish,shape,freeze,Sem.run,z]
 simp only[execOp,F,Q _ _ L,Sem.run_bind,R,aD,aR];cases h;cases h;cases h;cases h;cases h;cases h;cases h;cases h
theorem firstCells_len {sz n m m' c:Nat} {p:Option Addr}:Builtin.firstCells sz n (.slice p m c)=Builtin.firstCells sz n (.slice p m' c):=by
 cases p<;>rfl
theorem st_cpK (hI:I.Ok P) {K:Env->World->Prop} {s:CpArgs} (h:cpE I f.n ops env o=some s) (sz:Nat) (hsz:s.g.size=sz) {T:Nat} {l:List Value} (hblk:j0 w s.b T l) {p:Option Addr} {m c:Nat} {news:List Value} (hx:s.x= .slice p m c) (hm:s.n<=m) (hsl:Sl w p s.n sz news) (h1:∀v∈news,v.oneCell'=true)
  (hroom:s.off+s.n*sz<=l.length)
  (k:∀w',j0 w' s.b T (put l s.off news)->Ext (One s.b) w w'->w'.heap.size=w.heap.size->K ((s.d,.int .i64 (s.n:Int))::env) w'):St P f ops o env w K:=by
 subst hsz;unfold cpE at h;split at h;cases h;rename_i M;obtain⟨N,O⟩:=pre_eq M;split at h;rename_i d' Q;split at h;rename_i q R S;split at h;rename_i E F r;have u:q= #[E,F]:=by apply cH;simpa using r
 subst u;split at h;rename_i t G z;have A:R= #[t,G]:=by apply cH;simpa using z
 subst A;split at h;rename_i y U;split at h;rename_i e V;split at h;rename_i g W;split at h;rename_i b off n H X;split at h;rename_i v Y;cases h;simp only at*;subst hx;have J:=(hI.get U).under w;rw[V] at J;have hsz:=(hI.get W).sizeOf w;have a:Nat.min m n=n:=Nat.min_eq_right hm;have i:=Src.slice (P:=P) (c:=c) hsl h1;obtain⟨w',Z0,B,hE,C⟩:=x7 (P:=P) news w l off 0 hblk (by rw[hsl.1];omega) h1;have D:(Builtin.firstCells g.size n (.slice p m c)).run P w= .ok news.toArray w:=by rw[firstCells_len (m':=n)];exact i.cells λ_=>rfl
 have j:(Builtin.copy_ #[t,G] o.type #[.slice (some ⟨b,off,none⟩) n H,.slice p m c]).run P w= .ok (.int .i64 (n:Int)) w':=by unfold Builtin.copy_;simp only[bX,cN,List.getElem?_cons_succ];rw[jg J];simp only[Builtin.lenOf,pure_bind,a,Sem.run_bind,hsz,aD,D,Z0,aR,goInt]
 refine yt N O (v:= .int .i64 (n:Int)) (w':=w') (λρ L=>?_) (by rw[Q];exact k w' B hE C);have em:Array.map ρ #[E,F]= #[.slice (some ⟨b,off,none⟩) n H,.slice p m c]:=by simp[L _ _ X,L _ _ Y]
 simp only[execOp,S,resolve,Sem.run_bind,aR,aD,invoke,builtin,em,j];cases h;cases h;cases h;cases h;cases h;cases h;cases h;cases h;cases h
end
structure ConsV (P : Program) (l n0 N : Nat) (A : Nat -> Array Value -> (Nat -> Prop) -> World -> Prop) (J Jx : Nat -> (Nat -> Prop) -> World -> Prop) : Prop where
  st : ∀ {k : Nat} {F S : Nat -> Prop} {w w' : World}, J k F w -> Ext S w w' -> (∀ x, S x -> n0 <= x /\ ¬ F x) -> J k F w'
  stx : ∀ {k : Nat} {F S : Nat -> Prop} {w w' : World}, Jx k F w -> Ext S w w' -> (∀ x, S x -> n0 <= x /\ ¬ F x) -> Jx k F w'
  lt : ∀ {k : Nat} {F : Nat -> Prop} {w : World}, J k F w -> ∀ x, F x -> x < w.heap.size
  ltx : ∀ {k : Nat} {F : Nat -> Prop} {w : World}, Jx k F w -> ∀ x, F x -> x < w.heap.size
  round : ∀ {k : Nat} {F : Nat -> Prop} {w : World}, J k F w -> k < N -> ∀ (vs : Array Value) (X : Nat -> Prop), A k vs X w -> (∀ x, X x -> n0 <= x /\ ¬ F x) ->
    YieldAt Fence.wide 8 P l vs w λe w' => ∃ b, e = .returned (.bool b) /\ ∃ F' : Nat -> Prop, Ext (λx => F x \/ X x) w w' /\ (∀ x, F' x -> F x \/ X x \/ w.heap.size <= x) /\ (b = true -> J (k + 1) F' w') /\ (b = false -> Jx k F' w')
def IterV (P : Program) (gf : Nat) (cap : List Value) (N : Nat) (A : Nat -> Array Value -> (Nat -> Prop) -> World -> Prop) (own : Nat -> Prop) (w : World) : Prop :=
  ∀ (l : Nat) (J Jx : Nat -> (Nat -> Prop) -> World -> Prop) (F : Nat -> Prop), ConsV P l w.heap.size N A J Jx -> J 0 F w -> (∀ x, own x -> ¬ F x) ->
    gn P gf (.func (.yield l) #[] #[] :: cap) w λ_ w' => ∃ F' : Nat -> Prop, Ext F w w' /\ (∀ x, F' x -> F x \/ w.heap.size <= x) /\ (J N F' w' \/ ∃ k, k < N /\ Jx k F' w')
section
variable {α : Type} {w : World} {P : Program}
structure RdX (C : CoS α w) (l D : Nat) (z : α) (W : World) (X : Nat -> Prop) : Prop where
  ne : ∀ x, X x -> w.heap.size <= x /\ x ≠ l /\ x ≠ D /\ ¬ C.Fp z x
def RdV (C : CoS α w) (z0 : α) (l D : Nat) (r : Loop) (k : Nat) (z : α) (W : World) (X : Nat -> Prop) : Ending -> World -> Prop := λe w' =>
  ∃ b, e = .returned (.bool b) /\ ∃ F' : Nat -> Prop, Ext (λx => (C.Fp z x \/ x = l \/ x = D) \/ X x) W w' /\ (∀ x, F' x -> (C.Fp z x \/ x = l \/ x = D) \/ X x \/ W.heap.size <= x) /\ (b = true -> CJ C z0 l D r (k + 1) F' w') /\ (b = false -> CJx C z0 l D r k F' w')
variable {C : CoS α w} {z0 : α} {l D : Nat} {r : Loop} {k : Nat} {z : α} {W : World} {f : Fs} {env : Env} {u : World} {X : Nat -> Prop}
theorem RdC.endsV (h:RdC C z0 l D r z W) (hN:RdX C l D z W X) (hE:Ext (λx=>(C.Fp z x\/x=l)\/X x) W u) {z':α} (hF:∀x,C.Fp z' x->C.Fp z x\/X x\/W.heap.size<=x):
  u.heap[D]? =some zj8/\(∀x,C.Fp z' x->x≠l/\x≠D)/\Ext (C.Fp z0) w u/\(∀x,C.Fp z' x->C.Fp z0 x\/w.heap.size<=x):=by
 refine⟨(hE.same _ (vh h.D) λe=>e.elim (λe=>e.elim (λe=>(h.fp _ e).2 Z) λe=>h.ne e.symm) λe=>(hN.ne _ e).2.2.1 Z).trans h.D,λx a=>?_,h.X.trans hE λx a e=>?_,λx a=>?_⟩;rcases hF x a with a|a|a;exact h.fp x a;exact⟨(hN.ne x a).2.1,(hN.ne x a).2.2.1⟩
 exact⟨λe=>by have:=vh h.l;omega,λe=>by have:=vh h.D;omega⟩
 rcases e with(e|e)|e;exact(h.sub x e).resolve_right zk;have:=h.lo.1;omega;have:=(hN.ne x e).1;omega;rcases hF x a with a|a|a;exact h.sub x a;exact .inr (hN.ne x a).1;exact .inr (al h.X.size a)
theorem fin_nextV (z':α) (h:RdC C z0 l D r z W) (hN:RdX C l D z W X) (hl:u.heap[l]? =some (.loop (busy r))) (hE:Ext (λx=>(C.Fp z x\/x=l)\/X x) W u) (hF:∀x,C.Fp z' x->C.Fp z x\/X x\/W.heap.size<=x) (hJ:C.J (k+1) z' u):
  Fin f (roundPost P l (RdV C z0 l D r k z W X)) .normal env u:=by
 intro a _;obtain⟨i,g,j,m⟩:=h.endsV hN hE hF;have b:Ext (One l) u (u.putObj l (.loop {busy r with state:=if(none:Option Code).isNone then .ready else .done,pending:=none})):=Ext.putObj hl Z Z;refine⟨_,_,run_endRound none hl,true,Z,λx=>C.Fp z' x\/x=l\/x=D,?_,λx c=>?_,λ_=>?_,λe=>by cases e⟩;exact(hE.mono λx _ e=>e.imp (λe=>e.imp id .inl) id).then (b.mono λx _ e=> .inl (.inr (.inl e)));rcases c with c|c;exact(hF x c).imp .inl id;exact .inl (.inr c);refine⟨z',rfl,C.st hJ b λx e=>?_,g,?_,?_,j.trans b λx c e=>?_,m⟩;have e:x=l:=e;subst e;exact⟨h.lo.1,λe=>(g _ e).1 Z⟩
 rw[World.putObj_heap_same (vh hl)];have n:=h.rd;have o:=h.pe;cases r;cases n;cases o;rfl;exact(World.putObj_heap_other h.ne.symm).trans i;have:=h.lo.1;omega
variable {Q : vn}
theorem c_iterV (C:CoS α w) (z0:α) {g:Operand} {ps:Array Tmp} {assign body:Code} {gf:Nat} {cap:Array Value} {N:Nat} {A:Nat->Array Value->(Nat->Prop)->World->Prop} {own:Nat->Prop}
  (hg:xz env g=some (.func (.func gf) #[] cap)) (hcf:∀args w,(callFunc gf args).run P w= .ok (.enter gf args) w)
  (hps:ps.toList.all (λt=>Nat.blt t f.n)=true) (hpn:∀k vs X W,A k vs X W->vs.size=ps.size)
  (hit:∀w1,Ext No w w1->IterV P gf cap.toList N A own w1) (hown:∀x,own x->x<w.heap.size/\¬C.Fp z0 x) (h0:C.J 0 z0 w)
  (hround:∀(l D:Nat) (r:Loop) (k:Nat) (z:α) (W:World) (vs:Array Value) (X:Nat->Prop),RdC C z0 l D r z W->RdX C l D z W X->C.J k z W->k<N->A k vs X W->
   WCI (Fence.wide.inRound l) 8 P ⟨f.n,[]⟩ assign (Exit.then (λa1 w1=>∃w2,(Instr.beginRound l).run P w1= .ok () w2/\body.wpIn (Fence.wide.inRound l) 8 P (roundPost P l (RdV C z0 l D r k z W X)) a1 w2) (λ_ _ _=>False)) (penv ps.toList vs.toList env) W)
  (hdone:∀(D:Nat) (z:α) (W:World),C.J N z W->Ext (C.Fp z0) w W->(∀x,C.Fp z x->C.Fp z0 x\/w.heap.size<=x)->w.heap.size<=D->W.heap[D]? =some zj8->(∀x,C.Fp z x->x≠D)->
   Fin ⟨f.n,{target:= .collected D,args:= #[]}::f.ds⟩ Q .normal env W)
  (hstop:∀(D:Nat) (k:Nat) (c:Code) (z:α) (W:World),k<N->C.Jx k c z W->Ext (C.Fp z0) w W->(∀x,C.Fp z x->C.Fp z0 x\/w.heap.size<=x)->w.heap.size<=D->W.heap[D]? =some zj8->(∀x,C.Fp z x->x≠D)->
   WC P ⟨f.n,{target:= .collected D,args:= #[]}::f.ds⟩ c Q env W):
  WC P f (.rangeFunc g ps assign body) Q env w:=by
 refine c_rangeX hg hcf λfn a ha d h w1 H V Y ab=>?_;have I:w.heap.size+1≠w.heap.size:=by omega
 have O:d.state= .ready:=by rw[h]
 have R:d.pending=none:=by rw[h]
 have K:ConsV P (w.heap.size+1) w1.heap.size N A (CJ C z0 (w.heap.size+1) w.heap.size d) (CJx C z0 (w.heap.size+1) w.heap.size d):=by
  refine⟨?_,?_,?_,?_,?_⟩;rintro k F S u u' ⟨z,rfl,p,q,m,o,s,y⟩ E G;have j:∀x,S x->w.heap.size<=x/\¬C.Fp z x:=λx b=>⟨by have:=(G x b).1;omega,λe=>(G x b).2 (.inl e)⟩
  exact⟨z,Z,C.st p E j,q,(E.same _ (vh m) λe=>(G _ e).2 (.inr (.inl Z))).trans m,(E.same _ (vh o) λe=>(G _ e).2 (.inr (.inr Z))).trans o,s.trans E λx b e=>by have:=(j x e).1;omega,y⟩
  rintro k F S u u' ⟨c,z,rfl,p,q,m,o,s,y⟩ E G;have j:∀x,S x->w.heap.size<=x/\¬C.Fp z x:=λx b=>⟨by have:=(G x b).1;omega,λe=>(G x b).2 (.inl e)⟩
  exact⟨c,z,Z,C.stx p E j,q,(E.same _ (vh m) λe=>(G _ e).2 (.inr (.inl Z))).trans m,(E.same _ (vh o) λe=>(G _ e).2 (.inr (.inr Z))).trans o,s.trans E λx b e=>by have:=(j x e).1;omega,y⟩
  rintro k F u ⟨z,rfl,p,q,m,o,s,y⟩ x b;rcases b with b|rfl|rfl;exact C.lt p x b;exact vh m;exact vh o;rintro k F u ⟨c,z,rfl,p,q,m,o,s,y⟩ x b;rcases b with b|rfl|rfl;exact C.ltx p x b;exact vh m;exact vh o;rintro k F u ⟨z,rfl,p,q,m,o,s,y⟩ hk vs X T U;have hy:=run_yield (P:=P) (args:=vs) m (by rw[h];exact hpn k vs X u T);refine⟨_,_,_,_,hy,roundIn_of_wpIn trivial ?_⟩;have hA:d.assign=assign:=by rw[h]
  have hB:d.body=body:=by rw[h]
  have hT:d.tmps=a.tmps:=by rw[h]
  have hP:d.params=ps:=by rw[h]
  rw[hA,hB,hT,hP];obtain⟨g1,g2⟩:=ag_fold (f:=⟨f.n,[]⟩) ps.toList vs.toList env a.tmps hps ha.size ha.get;refine hround (w.heap.size+1) w.heap.size d k z u vs X ⟨O,R,I,⟨by omega,aB _⟩,q,m,o,s,y⟩ ⟨λx b=>⟨by have:=(U x b).1;omega,λe=>(U x b).2 (.inr (.inl e)),λe=>(U x b).2 (.inr (.inr e)),λe=>(U x b).2 (.inl e)⟩⟩ p hk T _ ⟨Z,?_,λi v hi=>?_⟩;rw[<-Array.foldl_toList,Array.toList_zip];exact g1;show(Array.foldl _ a.tmps (ps.zip vs))[i]? =some v;rw[<-Array.foldl_toList,Array.toList_zip];exact g2 i v hi
 have aa:CJ C z0 (w.heap.size+1) w.heap.size d 0 (λx=>C.Fp z0 x\/x=w.heap.size+1\/x=w.heap.size) w1:=
  ⟨z0,Z,C.st h0 H λx e=>e.elim,λx b=>⟨λe=>by have:=C.lt h0 x b;omega,λe=>by have:=C.lt h0 x b;omega⟩,V,Y,H.no,λx b=> .inl b⟩
 refine(hit w1 H (w.heap.size+1) _ _ _ K aa λx b=>?_).mono ?_;have:=hown x b;rintro(e|e|e);exact this.2 e;omega;omega;rintro _ w2 ⟨F',ac,ad,⟨z,rfl,p,q,m,o,s,y⟩|⟨k,hk,c,z,rfl,p,q,m,o,s,y⟩⟩;refine⟨d,m,by rw[O];decide,o,λw3 B L=>⟨λ_=>?_,λc M=>by rw[R] at M;cases M⟩⟩;have j:∀x,One (w.heap.size+1) x->w.heap.size<=x/\¬C.Fp z x:=λx b=>by have b:x=w.heap.size+1:=b;exact⟨by omega,λe=>(q x e).1 b⟩
 exact hdone _ z w3 (C.st p B j) (s.trans B λx b e=>by have:=(j x e).1;omega) y (aB _) L λx b=>(q x b).2;refine⟨_,m,(λe=>by cases e),o,λw3 B L=>⟨λM=>(by cases M),λc' M=>?_⟩⟩;cases M;have j:∀x,One (w.heap.size+1) x->w.heap.size<=x/\¬C.Fp z x:=λx b=>by have b:x=w.heap.size+1:=b;exact⟨by omega,λe=>(q x e).1 b⟩
 exact hstop _ k c z w3 hk (C.stx p B j) (s.trans B λx b e=>by have:=(j x e).1;omega) y (aB _) L λx b=>(q x b).2
end
theorem callsD_enter {P:Program} {g:FuncId} {fn:Func} {c:Code} {args:List Value} {w:World} {R:Value->World->Prop} {n:Nat} {env:Env}
  (hf:P.funcs[g]? =some fn) (hb:fn.body=some c) (hn:fn.ntmps=n) (hl:Nat.ble args.length n=true) (he:envO 0 args=some env) (h:WC P ⟨n,[]⟩ c (bodyPost P fn (Rv R)) env w):
  CallsDIn Fence.wide 8 P g args.toArray .returning w λe u' w'=>u'= .returning/\Rv R e w':=by
 refine callsDIn_of_wp hf hb trivial (wpIn_wide.2 (h _ ⟨Z,?_,λi v d=>?_⟩));have:args.length<=n:=dK hl;simp only[hn,Array.size_append,List.size_toArray,Array.size_replicate];omega;have:=(envO_lk he i v d).2;simp only[bB] at this;have a:i<args.length:=by rcases bC i args.length with b|b;exact b;simp[bR b] at this
 simp only[hn];rw[Array.getElem?_append_left (by simpa using a)];simpa using this
theorem wl_defer {P:Program} {f:Fs} {ops:Array Oper} {Q:vn} {o:Oper} {rest:List Oper} {env:Env} {w:World} {x:Operand} {g:Nat} {cap:Array Value}
  (ho:o.op= .defer {callee:= .value x,args:= #[],argTypes:= #[]}) (hg:takes ops env o=true) (hd:o.dst=none) (hx:xz env x=some (.func (.func g) #[] cap))
  (h:WL P ⟨f.n,{target:= .fn (.func g) cap,args:= #[]}::f.ds⟩ ops Q rest env w):WL P f ops Q (o::rest) env w:=by
 intro a b;unfold wpList;rw[aL (yf b hg)];refine .inl ?_;have c:(execOp a.eval o).run P w= .ok (.defer {target:= .fn (.func g) cap,args:= #[]}) w:=by simp[execOp,ho,resolve,b.eval hx,Deferred.ofValue]
 unfold Oper.wp;rw[c];show wpList P ops Q rest (({a with defers:=_::a.defers}:Act).put o.dst undef) w;rw[hd];exact h _ ⟨by simp[Act.put,b.defers],b.size,b.get⟩
theorem f_retD {P:Program} {n g:Nat} {fn:Func} {R:Value->World->Prop} {env:Env} {w:World} {cap:Array Value} {R':Value->World->Prop} (vs:List Value)
  (hcf:∀args w,(callFunc g args).run P w= .ok (.enter g args) w) (hD:CallsDIn Fence.wide 8 P g cap .returning w λe u' w'=>u'= .returning/\Rv R' e w')
  (k:∀v w',R' v w'->ResAll P env w' fn.results.toList vs/\R (tupV vs) w'):
  Fin ⟨n,[{target:= .fn (.func g) cap,args:= #[]}]⟩ (bodyPostM Fence.wide 9 P fn (Rv R)) .ret env w:=by
 intro a c;show LeavesInM Fence.wide 9 P fn a.tmps (Rv R) a.defers .returning w;rw[c.defers];refine⟨by simp,.inr ⟨λh=>(by cases h),.func g,cap,g,cap,Z,by simp[invoke,hcf],λ_ _=>trivial,hD.mono ?_⟩⟩;rintro e u' w' ⟨rfl,d⟩;cases e with
 |returned v=>
  obtain⟨f,i⟩:=k v w' d;have j:=yq4 (a:={a with defers:=[]}) (w:=w') (n:=n) ⟨Z,c.size,c.get⟩ _ _ f;refine⟨tupV vs,?_,i⟩;unfold results;rw[Array.mapM_eq_mapM_toList,Sem.run_bind,Sem.run_map];erw [j];simp only[aD,aR];congr 1;cases vs with
  |nil=>rfl
  |cons v r=>cases r<;>simp[tupV]
 |panicked ch=>exact d.elim
 |outgrown=>exact d.elim
structure ky (W w : World) (p : Option Addr) (n c T sz : Nat) (xs : List Value) : Prop where
  own : Own w p n c T sz xs
  new : ∀ y, jb p y -> W.heap.size <= y
section
variable {W w w' : World} {p : Option Addr} {n c T sz : Nat} {xs : List Value}
theorem ky.nil (W w : World) (T sz : Nat) : ky W w none 0 0 T sz [] := ⟨Own.nil _ _ _, λ_ h => by cases h⟩
theorem ky.ga (h : ky W w p n c T sz xs) (hE : Ext No w w') : ky W w' p n c T sz xs := ⟨h.own.ext hE λ_ _ => id, h.new⟩
theorem ky.ext {S:Nat->Prop} (h:ky W w p n c T sz xs) (hE:Ext S w w') (hS:∀y,W.heap.size<=y->y<w.heap.size->¬S y):ky W w' p n c T sz xs:=⟨h.own.ext hE λy a=>hS y (h.new y a) (h.own.lt a),h.new⟩
theorem ky.gk {b U:Nat} {L:List Value} (h:ky W w p n c T sz xs) (hE:Ext (One b) w w') (hb:j0 w b U L) (hT:T≠U):ky W w' p n c T sz xs:=⟨h.own.qa hE hb hT,h.new⟩
theorem ky.xm {kv:List UInt8->Value} {okx:List UInt8->Prop} {β:Type} {r:Nat} {enc:β->Value} {g:List UInt8->Option β} (h:ky W w p n c T sz xs) (hm:B0 kv okx w r enc g) (hE:Ext (One r) w w'):ky W w' p n c T sz xs:=⟨h.own.xm hm hE,h.new⟩
theorem ky.sl (h : ky W w p n c T sz xs) : Sl w p n sz xs := h.own.sl
theorem ky.older {V:World} (h:ky W w p n c T sz xs) (hV:V.heap.size<=W.heap.size):ky V w p n c T sz xs:=⟨h.own,λy hy=>al hV (h.new y hy)⟩
theorem ky.blk {b:Nat} {l:List Value} (h:j0 w b T l) (hn:W.heap.size<=b) (hl:l.length=n*sz) (hm:n<=maxLen):ky W w (some ⟨b,0,none⟩) n n T sz l:=
 ⟨by have:=Own.blk (n:=n) (c:=n) h sz hl (aB _) hm;rw[aN zk] at this;exact this,λy a=>by have e:b=y:=congrArg Addr.block (cl a);omega⟩
end
theorem x3 {P:Program} {I:uh} {f:Fs} {ops:Array Oper} {o:Oper} {env:Env} {w W:World} {K:Env->World->Prop} (hI:I.Ok P) {s:xq4} (h:appE I f.n ops env o=some s) (sz by_:Nat) (hsz:s.g.size=sz) (hby:s.g.bytes=by_) (hz:(cellsOf s.g.zero).length=sz) (hz0:0<sz)
  {xs:List Value} (hq:ky W w s.p s.n s.c s.e sz xs) {m:Nat} {news:List Value} (hsrc:Src P w sz s.x m news) (hm:s.n+m<=maxLen) (hb:(s.n+m)*by_<=140737488355328)
  {n':Nat} {ys:List Value} (hn:s.n+m=n') (hy:xs++news=ys) {S:Nat->Prop} (hX:Ext S W w)
  (k:∀p' c' w',ky W w' p' n' c' s.e sz ys->Ext (jb s.p) w w'->Ext S W w'->K ((s.d,.slice p' n' c')::env) w'):St P f ops o env w K:=by
 subst hn;subst hy;refine vt hI h sz by_ hsz hby hz hz0 hq.own hsrc hm hb λp' c' w' b a i=>k p' c' w' ⟨b,λy hy=>(i y hy).elim (hq.new y) λe=>al hX.size e⟩ a (hX.trans a λy hy j=>absurd hy (Nat.not_lt.2 (hq.new y j)))
def Ck (W w : World) (T U : Nat) : Nat -> Prop := λy => W.heap.size <= y /\ ∃ L, j0 w y T L \/ j0 w y U L
theorem Ext.newer {W w w':World} {S:Nat->Prop} (hX:Ext No W w) (hE:Ext S w w') (hS:∀y,S y->W.heap.size<=y):Ext No W w':=hX.trans hE λy hy hF=>absurd hy (Nat.not_lt.2 (hS y hF))
theorem Ext.y0 {W w w' : World} {T U : Nat} (hX : Ext No W w) (hE : Ext (Ck W w T U) w w') : Ext No W w' := hX.newer hE λ_ h => h.1
theorem j0.y0 {W w w':World} {T U b V:Nat} {L:List Value} (hb:j0 w b V L) (hE:Ext (Ck W w T U) w w') (h1:V≠T) (h2:V≠U):j0 w' b V L:=
 hb.ext hE λh=>by
  obtain⟨_,M,h|h⟩:=h
  ·exact h1 (hb.uniq h).2
  exact h2 (hb.uniq h).2
theorem Own.y0 {W w w':World} {T U V:Nat} {p:Option Addr} {n c sz:Nat} {xs:List Value} (h:Own w p n c V sz xs) (hE:Ext (Ck W w T U) w w') (h1:V≠T) (h2:V≠U):Own w' p n c V sz xs:=
 h.ext hE λy b k=>by
  obtain⟨l,a⟩:=h.zv1 b
  obtain⟨_,M,k|k⟩:=k
  ·exact h1 (a.uniq k).2
  exact h2 (a.uniq k).2
theorem Ext.qx {W w w1 w2:World} {T U:Nat} (h:Ext (Ck W w T U) w w1) (k:Ext (Ck W w1 T U) w1 w2):Ext (Ck W w T U) w w2:=
 h.trans k λx d f=>cV λa=>by
  have e:=h.same x d a
  obtain⟨c,L,b|b⟩:=f
  ·exact a ⟨c,L,.inl (by rw[j0,<-e];exact b)⟩
  exact a ⟨c,L,.inr (by rw[j0,<-e];exact b)⟩
theorem ky.Ct {W w w':World} {p:Option Addr} {n c T sz:Nat} {xs:List Value} (h:ky W w p n c T sz xs) {p2:Option Addr} {n2 c2 T2 sz2:Nat} {xs2:List Value} (ho:Own w p2 n2 c2 T2 sz2 xs2) (hE:Ext (jb p2) w w') (hT:T≠T2):ky W w' p n c T sz xs:=by
 rcases ho with⟨d,_⟩|⟨b,l,d,e,_⟩;exact h.ga (hE.mono λx _ a=>by rw[d] at a;cases a);exact h.gk (hE.mono λx _ a=>by rw[d] at a;exact(congrArg Addr.block (cl a)).symm) e hT
theorem Ck.one {W w:World} {T U b:Nat} {L:List Value} (hb:j0 w b T L) (hn:W.heap.size<=b):∀y,One b y->Ck W w T U y:=λy e=>by have e:y=b:=e;subst e;exact⟨hn,L,.inl hb⟩
theorem Ck.own {W w:World} {T U:Nat} {p:Option Addr} {n c sz:Nat} {xs:List Value} (h:ky W w p n c U sz xs):∀y,jb p y->Ck W w T U y:=λy a=>by
 obtain⟨l,b⟩:=h.own.zv1 a
 exact⟨h.new y a,l,.inr b⟩
theorem ky.y0 {V W w w':World} {T U R:Nat} {p:Option Addr} {n c sz:Nat} {xs:List Value} (h:ky V w p n c R sz xs) (hE:Ext (Ck W w T U) w w') (h1:R≠T) (h2:R≠U):ky V w' p n c R sz xs:=⟨h.own.y0 hE h1 h2,h.new⟩
theorem B0.y0 {kv:List UInt8->Value} {okx:List UInt8->Prop} {β:Type} {W w w':World} {T U r:Nat} {enc:β->Value} {g:List UInt8->Option β} (hm:B0 kv okx w r enc g) (hE:Ext (Ck W w T U) w w'):B0 kv okx w' r enc g:=
 hm.ext hE λ⟨_,L,h⟩=>h.elim (λh=>hm.ne h Z) λh=>hm.ne h Z
def zw5 (W w : World) (p : Option Addr) (n c T sz : Nat) (xs : List Value) : Prop := (c = n /\ Sl w p n sz xs /\ ∀ b off, p = some ⟨b, off, none⟩ -> b < W.heap.size) \/ ky W w p n c T sz xs
theorem zw5.ext {S:Nat->Prop} {W w w':World} {p:Option Addr} {n c T sz:Nat} {xs:List Value} (h:zw5 W w p n c T sz xs) (hE:Ext S w w') (h1:∀y,S y->W.heap.size<=y) (h2:ky W w p n c T sz xs->ky W w' p n c T sz xs):zw5 W w' p n c T sz xs:=
 h.imp (λe=>⟨e.1,e.2.1.ext hE λb a d f=>by have:=e.2.2 b a d;have:=h1 b f;omega,e.2.2⟩) h2
theorem zw5.ga {W w w':World} {p:Option Addr} {n c T sz:Nat} {xs:List Value} (h:zw5 W w p n c T sz xs) (hE:Ext No w w'):zw5 W w' p n c T sz xs:=h.ext hE (λ_ e=>e.elim) λe=>e.ga hE
theorem zw5.gk {W w w':World} {p:Option Addr} {n c T sz:Nat} {xs:List Value} (h:zw5 W w p n c T sz xs) {b U:Nat} {L:List Value} (hE:Ext (One b) w w') (hb:j0 w b U L) (hn:W.heap.size<=b) (hT:T≠U):zw5 W w' p n c T sz xs:=h.ext hE (λy e=>by have e:y=b:=e;omega) λe=>e.gk hE hb hT
theorem zw5.y0 {W w w':World} {p:Option Addr} {n c T sz U:Nat} {xs:List Value} (h:zw5 W w p n c T sz xs) (hE:Ext (Ck W w U U) w w') (hT:T≠U):zw5 W w' p n c T sz xs:=h.ext hE (λ_ e=>e.1) λe=>e.y0 hE hT hT
theorem zw5.xm {kv:List UInt8->Value} {okx:List UInt8->Prop} {β:Type} {W w w':World} {p:Option Addr} {n c T sz:Nat} {xs:List Value} (h:zw5 W w p n c T sz xs) {r:Nat} {enc:β->Value} {g:List UInt8->Option β} (hm:B0 kv okx w r enc g) (hE:Ext (One r) w w') (hn:W.heap.size<=r):zw5 W w' p n c T sz xs:=h.ext hE (λy e=>by have e:y=r:=e;omega) λe=>e.xm hm hE
theorem zw5.sl {W w:World} {p:Option Addr} {n c T sz:Nat} {xs:List Value} (h:zw5 W w p n c T sz xs):Sl w p n sz xs:=h.elim (λe=>e.2.1) λe=>e.sl
theorem zw5.cap {W w:World} {p:Option Addr} {n c T sz:Nat} {xs:List Value} (h:zw5 W w p n c T sz xs):n<=c:=h.elim (λe=>by rw[e.1];exact aB _) λe=>e.own.cap
theorem st_appT {P:Program} {I:uh} {f:Fs} {ops:Array Oper} {o:Oper} {env:Env} {w W:World} {K:Env->World->Prop} (hI:I.Ok P) {s:xq4} (h:appE I f.n ops env o=some s) (sz by_:Nat) (hsz:s.g.size=sz) (hby:s.g.bytes=by_) (hz:(cellsOf s.g.zero).length=sz) (hz0:0<sz)
  {xs:List Value} (hq:zw5 W w s.p s.n s.c s.e sz xs) {m:Nat} {news:List Value} (hsrc:Src P w sz s.x m news) (hm:s.n+m<=maxLen) (hm0:0<m) (hb:(s.n+m)*by_<=140737488355328)
  {n':Nat} {ys:List Value} (hn:s.n+m=n') (hy:xs++news=ys) (hW:W.heap.size<=w.heap.size)
  (k:∀p' c' w',ky W w' p' n' c' s.e sz ys->Ext (Ck W w s.e s.e) w w'->K ((s.d,.slice p' n' c')::env) w'):St P f ops o env w K:=by
 subst hn;subst hy;rcases hq with⟨r,j,_⟩|hq;exact st_appG hI h sz by_ hsz hby hz hz0 j hsrc hm hb zk λb c' w' l a i=>k _ c' w' ⟨a,λy hy=>by have e:b=y:=congrArg Addr.block (cl hy);omega⟩ i.no;exact vt hI h sz by_ hsz hby hz hz0 hq.own hsrc hm hb λp' c' w' a i q=>k p' c' w' ⟨a,λy hy=>(q y hy).elim (hq.new y) λe=>al hW e⟩ (i.mono λy _ hy=>Ck.own hq y hy)
section
variable {P : Program} {I : uh} {f : Fs} {ops : Array Oper} {o : Oper} {env : Env} {w : World}
def s2bE (I : uh) (n : Nat) (ops : Array Oper) (env : Env) (o : Oper) : Option (ByteArray × Nat) :=
  match pre n ops env o with
  | false => none
  | true => match o.dst with
    | some d => match o.op with
      | .convert s t x => match z7 I s with
        | some y => match y.desc with
          | .string => match z7 I t with
            | some z => match z.desc with
              | .slice e => match z7 I e with
                | some g => match g.desc with
                  | .int .u8 => match xz env x with
                    | some (.string b) => some (b, d)
                    | _ => none
                  | _ => none
                | none => none
              | _ => none
            | none => none
          | _ => none
        | none => none
      | _ => none
    | none => none
theorem st_s2b (hI:I.Ok P) {K:Env->World->Prop} {x:List UInt8} {d:Nat} (h:s2bE I f.n ops env o=some (vw x,d))
  (k:∀b c w',w.heap.size<=b->xy w' (some ⟨b,0,none⟩) x->x.length<=c->(∀T L,¬j0 w' b T L)->Ext No w w'->K ((d,.slice (some ⟨b,0,none⟩) x.length c)::env) w'):St P f ops o env w K:=by
 unfold s2bE at h;split at h;cases h;rename_i O;obtain⟨Q,R⟩:=pre_eq O;split at h;rename_i d' S;split at h;rename_i s t y U;split at h;rename_i ys m;split at h;rename_i p;split at h;rename_i z q;split at h;rename_i e V;split at h;rename_i g W;split at h;rename_i r;split at h;rename_i bb X;simp only[bJ,cR] at h;obtain⟨rfl,rfl⟩:=h;have G:=(hI.get m).under w;have H:=(hI.get q).under w;have J:=(hI.get W).under w;rw[p] at G;rw[V] at H;rw[r] at J;obtain⟨c,M⟩:∃c,c=grownCap w x.length 0 e:=⟨_,Z⟩
 have A:x.length<=c:=by rw[M];unfold grownCap Question.cut;exact Nat.le_add_right _ _
 obtain⟨l,N⟩:∃l,l=gh x++List.replicate (c-x.length) (Value.int .u8 0):=⟨_,Z⟩
 obtain⟨u,a⟩:∃u,u=w.drew.alloc (.cells l.toArray e):=⟨_,Z⟩
 have B:Ext No w u:=by rw[a];exact(Ext.drew w).then (Ext.alloc w.drew l.toArray e)
 have i:j0 u w.heap.size e l:=by rw[a];exact Dt w.drew l e
 obtain⟨Y,Z0,f3⟩:=freeze_ext i
 have hE:Ext No w (u.freeze ⟨w.heap.size,l.length,none⟩ 1):=
  B.trans Y λy hy k=>by have k:y=w.heap.size:=k;omega
 have C:l.take x.length=gh x:=by rw[N,dC (gm x)]
 refine yt Q R (v:= .slice (some ⟨w.heap.size,0,none⟩) x.length c) (w':=u.freeze ⟨w.heap.size,l.length,none⟩ 1) (λρ aa=>?_) (by
  rw[S]
  refine k _ c _ (aB _) ⟨by rw[gm,bF],.inr ⟨_,0,Z,?_⟩⟩ A ?_ hE
  have:=Z0.take x.length
  rw[C] at this
  exact this
  intro T L j
  unfold j0 World.freeze at j
  rw[aI zd] at j
  unfold j0 at i
  simp only[Array.getElem?_modify,cT,i,Option.map_some,bJ,Obj.cells.injEq,cR] at j
  have:=j.2.2
  simp at this)
 have D:u.shape? w.heap.size=some (e,l.length):=by unfold j0 at i;simp[World.shape?,i]
 have E:(choose (.appendCap x.length 0 e)).run P w= .ok c w.drew:=by rw[M];simp[Question.forced,grownCap]
 have F:(vw x).data.map (λb=>Value.int .u8 b.toNat)++Array.replicate (c-x.length) (.int .u8 0)=l.toArray:=by rw[N];simp[vw,gh,yk,Function.comp_def]
 have go:(convert s t (.string (vw x))).run P w= .ok (.slice (some ⟨w.heap.size,0,none⟩) x.length c) (u.freeze ⟨w.heap.size,l.length,none⟩ 1):=by unfold convert;rw[jg G,jg H];show(underlying e>>=_).run P w=_;rw[jg J];show(Conv.stringToBytes e (vw x)).run P w=_;unfold Conv.stringToBytes;have q:(vw x).size=x.length:=rfl;simp only[Sem.run_bind,q,E,aD,F,newRow,run_newObj,aR];show(Sem.run P (markStringish ⟨w.heap.size,0,none⟩) (w.drew.alloc (.cells l.toArray e))).andThen _=_;rw[<-a];simp[markStringish,shape,freeze,Sem.run,D]
 simp only[execOp,U,aa _ _ X,Sem.run_bind,go,aD,aR];cases h;cases h;cases h;cases h;cases h;cases h;cases h;cases h;cases h
end
theorem Src.bytes {P:Program} {w:World} {p:Option Addr} {c:Nat} {M:List UInt8} (h:xy w p M):Src P w 1 (.slice p M.length c) M.length (gh M):=Src.slice h OneC.h
theorem Src.one {P:Program} {w:World} {b T c:Nat} {x:UInt8} (h:j0 w b T (gh [x])):Src P w 1 (.slice (some ⟨b,0,none⟩) 1 c) 1 (gh [x]):=Src.slice (m:=1) ⟨Z,.inr ⟨b,0,Z,h.ql⟩⟩ OneC.h
theorem Src.id {P:Program} {w:World} {b off c:Nat} {x:List UInt8} (h:Seg w b off (gh x)) (hx:x.length=32):Src P w 1 (.slice (some ⟨b,off,none⟩) 32 c) 32 (gh x):=Src.slice (m:=32) ⟨by rw[gm,hx],.inr ⟨b,off,Z,h⟩⟩ OneC.h
theorem xc {P:Program} {I:uh} {f:Fs} {ops:Array Oper} {o:Oper} {env:Env} {w W:World} {K:Env->World->Prop} (hI:I.Ok P) {s:xq4} (h:appE I f.n ops env o=some s) (T:Nat) (he:s.e=T) (hsz:s.g.size=1) (hby:s.g.bytes=1) (hz:(cellsOf s.g.zero).length=1)
  {L M:List UInt8} (hq:ky W w s.p s.n s.c T 1 (gh L)) (hn:s.n=L.length) {m:Nat} (hsrc:Src P w 1 s.x m (gh M)) (hm:m=M.length) (hl:L.length+m<1000000000) (hX:Ext No W w)
  (k:∀p' c' w' L',L'=L++M->L'.length=L.length+m->ky W w' p' L'.length c' T 1 (gh L')->Ext (jb s.p) w w'->Ext (Ck W w T T) w w'->Ext No W w'->K ((s.d,.slice p' L'.length c')::env) w'):St P f ops o env w K:=by
 subst he;have e:(L++M).length=L.length+m:=by rw[ao,hm]
 refine x3 hI h 1 1 hsz hby hz zd hq hsrc zn zk (n':=(L++M).length) (ys:=gh (L++M)) (by rw[e,hn]) (qy _ _).symm hX λp' c' w' i b a=>k p' c' w' _ Z e i b (b.mono λy _ j=>Ck.own hq y j) a
end Go.Vc
