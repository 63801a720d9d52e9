/-
  Walks and laws towards: StoreLasts: wherever the power goes, what is opened again has what was there, or what the batch was to bring, and all that its objects link to; for whatever deeds.
-/
import Derived.StringKeys
import Derived.Laws.IdiomRangeMap
import Derived.Lib.Overlaps
import Derived.LaidEql
import Derived.Test.YtpdiphfjmepijaaGreatDoorLaF
open List renaming mem_iff_getElem→bG,flatMap_singleton→bL,getElem_map→bQ,map_append→bU,getElem?_toArray→bX,length_nil→cL,getElem?_cons_zero→cN,flatMap_cons→cX,take_left'→dC,map_cons→dI
open Int renaming toNat_natCast→bV
open Array renaming ext'→cH,getElem?_eq_none→cI,getElem?_setIfInBounds_ne→dJ
open Nat renaming add_mul→cS
namespace Go.Proofs.YtpdiphfjmepijaaGreatDoor
open Go.Proofs.Tryz
open Go.Vc
abbrev IsStr (x : List UInt8) : Prop := x.length <= maxLen
theorem strK:KeyG prog 9 yj IsStr:=
 ⟨WideMaps.string_law Tryz.underlying9,λ_ a=>⟨_,WideMaps.keyOf_string_mk Tryz.underlying9 a⟩,λ_ _ h=>Bo (by injection h)⟩
structure SetP where
  op : Option Addr
  oc : Nat
  np : Option Addr
  nc : Nat
abbrev Ce := A4 × SetP
abbrev Cv := jm × x9
def yu (x : Cv) : List Value := km x.1 x.2
def yc (x : Ce) : List Value := [yj x.1.name, .bool x.1.was, .bool x.1.is, .slice x.2.op x.1.old.length x.2.oc, .slice x.2.np x.1.new.length x.2.nc]
theorem yz9 (x : Ce) : (yc x).length = 5 := rfl
instance (x : Ce) : OneC (yc x) := by unfold yc; infer_instance
instance (x : Cv) : OneC (yu x) := by unfold yu; infer_instance
theorem objX_len {l : List Cv} (h : ∀ x ∈ l, ub x.1) : ∀ x ∈ l, (yu x).length = 73 := λx hx => gr (h x hx)
structure SetAt (w : World) (x : Ce) : Prop where
  old : xy w x.2.op x.1.old
  new : xy w x.2.np x.1.new
  ln : x.1.name.length < 1000000000
  lo : x.1.old.length < 1000000000
  lw : x.1.new.length < 1000000000
theorem SetAt.ga {w w' : World} {x : Ce} (h : SetAt w x) (hE : Ext No w w') : SetAt w' x := ⟨h.old.ga hE, h.new.ga hE, h.ln, h.lo, h.lw⟩
structure ObjAt' (w : World) (x : Cv) : Prop where
  i : ub x.1
  s : Cw x.1
  l : Ch w x.1 x.2
theorem ObjAt'.ga {w w' : World} {x : Cv} (h : ObjAt' w x) (hE : Ext No w w') : ObjAt' w' x := ⟨h.i, h.s, h.l.ga hE⟩
structure uz where
  op : Option Addr
  oc : Nat
  os : List Cv
  sp : Option Addr
  sc : Nat
  ss : List Ce
def uz.d (b : uz) : Ap := ⟨b.os.map Prod.fst, b.ss.map Prod.fst⟩
def uz.c (b : uz) : List Value := [.slice b.op b.os.length b.oc, .slice b.sp b.ss.length b.sc]
abbrev uz.v (b : uz) : Value := .agg b.c.toArray
instance (b : uz) : OneC b.c := by unfold uz.c; infer_instance
structure zv6 (w : World) (b : uz) : Prop where
  os : Sl w b.op b.os.length 73 (b.os.flatMap yu)
  ss : Sl w b.sp b.ss.length 5 (b.ss.flatMap yc)
  o : ∀ x ∈ b.os, ObjAt' w x
  s : ∀ x ∈ b.ss, SetAt w x
  lo : b.os.length < 1000000
  ls : b.ss.length < 1000000
theorem zv6.ga {w w':World} {b:uz} (h:zv6 w b) (hE:Ext No w w'):zv6 w' b:=
 ⟨h.os.ga hE,h.ss.ga hE,λx a=>(h.o x a).ga hE,λx a=>(h.s x a).ga hE,h.lo,h.ls⟩
def cntS (l : List Str) : Str -> Option Int := λx => if x ∈ l then some 1 else none
abbrev intV (i : Int) : Value := .int .i64 i
theorem cnt_tell {l : List Str} {x : Str} : tell intV (.int .i64 0) (cntS l x) = .int .i64 (if x ∈ l then 1 else 0) := by
  unfold cntS; split <;> rfl
theorem setM_at {β : Type} (g : List UInt8 -> Option β) (x : List UInt8) (b : β) : setM g x b x = some b := aL Z
theorem cnt_step {l:List Str} {x:Str} (h:x∉l):setM (cntS l) x 1=cntS (l++[x]):=by
 funext y;unfold setM cntS;by_cases e:y=x;subst e;simp;rw[aI e];simp[e]
theorem setsOk_step {l:List A4} {i:Nat} (hi:i<l.length):xq8 (l.take (i+1))↔xq8 (l.take i)/\SetOk l[i]/\l[i].name∉(l.take i).map A4.name:=by
 rw[aO hi];unfold xq8;rw[bU,List.nodup_append];constructor;rintro⟨d,f,h,g⟩;exact⟨⟨λs c=>d s (List.mem_append_left _ c),f⟩,d _ (List.mem_append_right _ (aF.2 Z)),λk=>g _ k _ zq Z⟩
 rintro⟨⟨d,f⟩,h,g⟩;refine⟨λs c=>?_,f,by simp,λa m b j e=>?_⟩;rcases aS.1 c with c|c;exact d s c;rw[aF.1 c];exact h;simp only[dI,List.map_nil,aF] at j;subst j;subst e;exact g m
theorem setsOk_no {l:List A4} {i:Nat} (hi:i<l.length) (h:¬xq8 (l.take (i+1))):¬xq8 l:=λk=>h ⟨λs a=>k.1 s (bK a),(List.Sublist.map _ (List.take_sublist _ _)).nodup k.2⟩
theorem may_os {b:uz} {i:Nat} (hi:i<b.os.length) (h:¬yv b.os[i].1):¬Bx b.d:=λk=>h (k.2.2.1 _ (aZ.2 ⟨_,aC hi,Z⟩))
theorem sside_calls (w:World) {q:Bool} {p:Option Addr} {c:Nat} {l:Bytes}:
  gn prog 140 [.bool q,.slice p l.length c] w λv w'=>v= .bool (decide (SideOk q l))/\w'=w:=by
 refine gz func140 (have b:=Ext.refl No w;kw Z (ju (α:=Bool) [] Z (λz=>[(4,.bool z)]) (λz u=>(z=decide (SideOk q l)/\u=w)/\Ext No w u) ?_ ?_));refine j1 (j6 ge Z (jw 8 Z (λa=>?_) (λa=>?_)));have d:l.length<=4096:=by omega
 refine j4 ge 2 Z (ut 10 Z (λa=>?_) (λa=>?_));exact j4 ge 6 Z (gl (j2 (true) Z ⟨⟨by symm;rw[bD];exact⟨d,.inl a⟩,Z⟩,b⟩));exact j4 ge 6 Z (gl (j2 (_) Z ⟨⟨by rw[aP];exact⟨λh=>⟨d,.inr zk⟩,λh=>h.2.elim (λe=>(by rw[a] at e;cases e)) zk⟩,Z⟩,b⟩));have d:¬l.length<=4096:=by omega
 exact j4 ge 8 Z (gl (j2 (_) Z ⟨⟨by symm;rw[aE];exact λh=>d h.1,Z⟩,b⟩));rintro z f ⟨⟨rfl,rfl⟩,b⟩;exact gv (gy Z Z ⟨Z,Z⟩)
theorem may_calls (w:World) {b:uz} (h:zv6 w b):
  gn prog 63 [b.v] w λv w'=>v= .bool (decide (Bx b.d))/\Ext No w w':=by
 have aw:=h.lo;have ax:=h.ls;refine gz func63 (have f:=Ext.refl No w;qr (gt Z λW w1 ay a ah=> have f:=f.gb ah;have a:j0 w1 W 25 (b.c):=a;kg Z (gp (ju (α:=Bool) [1] Z (λz=>[(17,.bool z)]) (λz u=>(z=decide (4096<b.os.length\/128<b.ss.length))/\j0 u W 25 (b.c)/\Ext No w u) ?_ ?_))));refine j1 (j6 ge Z (gx Z (a.cell Z) (j6 ge Z (jw 12 Z (λB=>?_) (λB=>?_)))));have h1:4096<b.os.length:=by omega
 exact j4 ge 5 Z (gl (j2 (true) Z ⟨by symm;rw[bD];exact .inl h1,a,f⟩));exact j4 ge 1 Z (gx Z (a.cell Z) (j4 ge 3 Z (gl (j2 (_) Z ⟨by rw[aP];omega,a,f⟩))));rintro z w2 ⟨rfl,a,f⟩;refine jy Z (λA=>?_) (λA=>?_);exact gp (j1 (kg Z (gv (gu (gy Z Z ⟨by congr 1;symm;rw[aE];rintro⟨k1,k2,_⟩;simp only[uz.d,aA] at k1 k2;omega,f⟩)))));refine qf (jq (gp (qj Z (gx Z (a.cell Z) (kg Z (j8 (jl (α:=Nat) [1,19,20] Z (λz=>[(21,.int .i64 (z:Int))]) (λz u=>(z<=b.os.length/\∀x∈b.os.take z,yv x.1)/\j0 u W 25 (b.c)/\Ext No w u) (λz u=>b.os.length-z) (0) Z ⟨⟨aJ _,λ_ h=>(by cases h)⟩,a,f⟩ ?_)))))));rintro i w3 ⟨⟨hi,D⟩,a,f⟩;refine vo Z (jy Z (λA=>?_) (λA=>?_));have C:i<b.os.length:=by omega
 obtain⟨q,qo,hp,M⟩:=h.os.qm (objX_len λx K=>(h.o x K).i) zk;have L:=h.o _ (aC C);rw[hp];refine Bn (qr (ki Z 73 Z i Z C (qo+i*73) Z (jk Z ((M i C).ga f) (gr L.i) (gt Z λb4 w4 X N Y=>?_))));have O:=j3 a.lt X;have ai:=al f.size X;have a:=a.ga Y;have f:=f.gb Y;refine wl (j9 (l':=yu b.os[i]) ge N Z Z (gr L.i) (gr L.i) OneC.h λw5 N I az=>?_);have a:=a.gk I O;have f:=f.gi I ai;refine u3 (qr (jf N Z (gr L.i) (gj call134 Z (zw0 w5 L.i (L.l.ga f) L.s) ?_)));rintro v6 w6⟨rfl,aa⟩;have a:=a.ga aa;have f:=f.gb aa;refine kg Z (jy Z (λA=>?_) (λA=>?_));have hk:¬yv b.os[i].1:=λh=>A (aL h);exact kw Z (gv (jt (gu (gu (jt (gu (gy Z Z ⟨by rw[decide_eq_false (may_os C hk)],f⟩)))))));have hk:yv b.os[i].1:=(xq7 zd).1 (aT.1 A);refine qf (Bi Z ?_);rw[qc _ zk];exact gl (jh (i+1) Z ⟨⟨C,λx K=>by rw[aO C] at K;rcases aS.1 K with K|K;exact D x K;rw[aF.1 K];exact hk⟩,a,f⟩ zm);have h0:i=b.os.length:=by omega
 subst h0;rw[bM] at D;refine Bh (qr (wl (st_mmG yj IsStr intV Z λr w7 ak E ab a0=> have a:=a.ga ab;have am:=al f.size ak;have f:=f.gb ab;kg Z (gp (qj Z (gx Z (a.cell Z) (kg Z (j8 (jl (α:=Nat) [5,31,32] Z (λz=>[(33,.int .i64 (z:Int))]) (λz u=>(z<=b.ss.length/\xq8 ((b.ss.map Prod.fst).take z)/\B0 yj IsStr u r intV (cntS (((b.ss.map Prod.fst).take z).map A4.name)))/\j0 u W 25 (b.c)/\Ext No w u) (λz u=>b.ss.length-z) (0) Z ⟨⟨aJ _,⟨λ_ h=>(by cases h),List.Pairwise.nil⟩,E⟩,a,f⟩ ?_)))))))));rintro j w8 ⟨⟨hj,P,E⟩,a,f⟩;refine vo Z (jy Z (λA=>?_) (λA=>?_));have F:j<b.ss.length:=by omega
 have Q:j<(b.ss.map Prod.fst).length:=by rw[aA];exact F
 obtain⟨q,qo,hp,M⟩:=h.ss.qm (λx _=>yz9 x) zk;have R:=h.s _ (aC F);have ac:(b.ss.map Prod.fst)[j]=b.ss[j].1:=bQ ..;obtain⟨g,S⟩:∃g,g=((b.ss.map Prod.fst).take j).map A4.name:=⟨_,Z⟩
 have p:=setsOk_step Q;rw[ac,<-S] at p;rw[<-S] at E;rw[hp];refine Bn (qr (ki Z 5 Z j Z F (qo+j*5) Z (jk Z ((M j F).ga f) Z (gt Z λb7 w9 ad n T=> have U:=j3 a.lt ad;have an:=al f.size ad;have a:=a.ga T;have E:=E.ga T;have f:=f.gb T;have ae:=n;wl (j9 (l':=yc b.ss[j]) ge n Z Z Z Z OneC.h λa1 n G au=> have a:=a.gk G U;have E:=E.gk G ae;have f:=f.gi G an;u3 (qj Z (gx Z (n.cell Z) (wl (st_lu ge Z strK (x:=b.ss[j].1.name) (by have:=R.ln;dsimp only[IsStr,maxLen];omega) Z E ?_)))))))));simp only[bO,dF];rw[show tell intV ti3.zero (cntS g b.ss[j].1.name)= .int .i64 (if b.ss[j].1.name∈g then 1 else 0) from cnt_tell];obtain⟨m,hm⟩:∃m:Int,m=(if b.ss[j].1.name∈g then 1 else 0):=⟨_,Z⟩
 have a2:0<=m/\m<=1:=by rw[hm];split<;>decide
 rw[<-hm];refine j6 ge Z ?_;rw[qc _ zk];refine wl (st_mu ge Z strK (x:=b.ss[j].1.name) (by have:=R.ln;dsimp only[IsStr,maxLen];omega) Z E (b:=m+1) Z λap t H av=> have a:=a.xm E H;have n:=n.xm E H;have f:=f.gi H am;u3 (ju (α:=Bool) [5,31,32,33] Z (λz=>[(73,.bool z)]) (λz u=>(z=decide (¬(SetOk b.ss[j].1/\b.ss[j].1.name∉g))/\B0 yj IsStr u r intV (setM (cntS g) b.ss[j].1.name (m+1)))/\j0 u W 25 (b.c)/\Ext No w u) ?_ ?_));refine j1 (j6 ge Z (gx Z (n.cell Z) (wl (st_lu ge Z strK (x:=b.ss[j].1.name) (by have:=R.ln;dsimp only[IsStr,maxLen];omega) Z t ?_))));simp only[bO,dF];rw[setM_at];show WL _ _ _ _ _ ((45,.int .i64 (m+1))::_) _;refine j6 ge Z (jw 47 Z (λB=>?_) (λB=>?_));have V:b.ss[j].1.name∈g:=Decidable.by_contra λhn=>(by rw[aI hn] at hm;omega)
 exact j4 ge 26 Z (gl (j2 (true) Z ⟨⟨by symm;rw[bD];exact λk=>k.2 V,t⟩,a,f⟩));have V:b.ss[j].1.name∉g:=λhn=>(by rw[aL hn] at hm;omega)
 refine j4 ge 1 Z (gx Z (n.cell Z) (j4 ge 3 Z (jw 52 Z (λB=>?_) (λB=>?_))));have y:¬SetOk b.ss[j].1:=λk=>k.1 (Bo B);exact j4 ge 21 Z (gl (j2 (true) Z ⟨⟨by symm;rw[bD];exact λk=>y k.1,t⟩,a,f⟩));have h1:b.ss[j].1.name≠[]:=λe=>B (by rw[e];rfl);refine j4 ge 1 Z (gx Z (n.cell Z) (j4 ge 4 Z (jw 58 Z (λB=>?_) (λB=>?_))));have y:¬SetOk b.ss[j].1:=λk=>by have:=k.2.1;have e:(vw b.ss[j].1.name).size=b.ss[j].1.name.length:=rfl;omega
 exact j4 ge 15 Z (gl (j2 (true) Z ⟨⟨by symm;rw[bD];exact λk=>y k.1,t⟩,a,f⟩));have h2:b.ss[j].1.name.length<=32:=by have e:(vw b.ss[j].1.name).size=b.ss[j].1.name.length:=rfl;omega
 refine j4 ge 1 Z (gx Z (n.cell Z) (j4 ge 1 Z (gx Z (n.cell Z) (gj call140 Z (sside_calls ap (q:=b.ss[j].1.was) (l:=b.ss[j].1.old)) ?_))));rintro a3 aq⟨rfl,rfl⟩;refine j4 ge 3 Z (ut 66 Z (λB=>?_) (λB=>?_));have y:¬SetOk b.ss[j].1:=λk=>by have:=k.2.2.1;simp[this] at B
 exact j4 ge 7 Z (gl (j2 (true) Z ⟨⟨by symm;rw[bD];exact λk=>y k.1,t⟩,a,f⟩));have h3:SideOk b.ss[j].1.was b.ss[j].1.old:=by simpa using B
 refine j4 ge 1 Z (gx Z (n.cell Z) (j4 ge 1 Z (gx Z (n.cell Z) (gj call140 Z (sside_calls aq (q:=b.ss[j].1.is) (l:=b.ss[j].1.new)) ?_))));rintro a4 a5⟨rfl,rfl⟩;refine j4 ge 2 Z (gl ?_);exact j2 (_) Z ⟨⟨by rw[<-decide_not,aP];exact⟨λk l=>k l.1.2.2.2,λk l=>k ⟨⟨h1,h2,h3,l⟩,V⟩⟩,t⟩,a,f⟩;rintro z a6 ⟨⟨rfl,t⟩,a,f⟩;refine vk Z (λA=>?_) (λA=>?_);have ar:¬Bx b.d:=λk=>setsOk_no Q (λl=>by have:=p.1 l;simp at A;exact A.elim (λq=>q this.2.1) this.2.2) k.2.2.2;exact kw Z (gv (jt (gu (gu (jt (gu (gy Z Z ⟨by rw[decide_eq_false ar],f⟩)))))));have J:=p.2 ⟨P,by simpa using A⟩;refine qf (Bi Z ?_);rw[qc _ zk];exact gl (jh (j+1) Z ⟨⟨F,J,by rw[aO Q,bU,<-S,ac];have e:=hm;rw[aI (by have:=p.1 J;exact this.2.2)] at e;subst e;rw[show(0:Int)+1=1 from Z,cnt_step (p.1 J).2.2] at t;exact t⟩,a,f⟩ zm);have h0:j=b.ss.length:=by omega
 subst h0;rw[aN (by rw[aA];exact aB _)] at P;exact Bh (kw Z (gv (gy Z Z ⟨by congr 1;symm;rw[bD];exact⟨by simp only[uz.d,aA];omega,by simp only[uz.d,aA];omega,λo L=>(by obtain⟨x,K,rfl⟩:=aZ.1 L;exact D x K),P⟩,f⟩)))
abbrev TyW (W w : World) : Nat -> Prop := Ck W w 180 5
def WrS (W w : World) (b : Nat) (l : Bytes) : Prop := W.heap.size <= b /\ ∃ p c, j0 w b 180 [.slice p l.length c] /\ ky W w p l.length c 5 1 (gh l)
theorem WrS.ga {W w w':World} {b:Nat} {l:Bytes} (h:WrS W w b l) (hE:Ext No w w'):WrS W w' b l:=by
 obtain⟨a,p,c,d,e⟩:=h;exact⟨a,p,c,d.ga hE,e.ga hE⟩
theorem WrS.gk {W w w':World} {b:Nat} {l:Bytes} (h:WrS W w b l) {x T:Nat} {L:List Value} (hE:Ext (One x) w w') (hb:j0 w x T L) (h1:180≠T) (h2:5≠T):WrS W w' b l:=by
 obtain⟨n,p,c,a,d⟩:=h;exact⟨n,p,c,a.gk hE (a.ne hb h1),d.gk hE hb h2⟩
theorem bytes_app (a b : Bytes) : gh a ++ gh b = gh (a ++ b) := (qy a b).symm
theorem slong_calls (w:World) {W:World} {b:Nat} {l:Bytes} (h:WrS W w b l) (hW:Ext No W w) {px:Option Addr} {cx:Nat} {x:Bytes} (hs:xy w px x) (hl:l.length<900000000) (hx:x.length<65536):
  gn prog 88 [.pointer (some ⟨b,0,none⟩),.slice px x.length cx] w λv w'=>v= .tuple #[]/\WrS W w' b (l++vj 2 x)/\Ext (TyW W w) w w':=by
 obtain⟨g,B,C,a,m⟩:=h;refine gz func88 (have d:=Ext.refl (TyW W w) w;yy Z (gx Z (a.cell Z) (j6 ge Z ?_)));rw[IntWalk.u16_in _ zk];have o:=hW;refine gj call91 Z (zx0 w m.sl zk x.length hx) ?_;rintro D E⟨F,rfl,r,s,c⟩;have hs:=hs.ga c;have a:=a.ga c;have hW:=hW.gb c;have d:=d.gb c;have f:=ky.blk (n:=(l++be 2 x.length).length) (sz:=1) s (al o.size r) (by rw[gm,bF]) (by simp only[ao,ka];dsimp only[maxLen];omega);refine j6 ge Z (have t:=f;have u:=f.own;wl (x3 ge Z 1 1 Z Z Z zd f (Src.slice hs OneC.h) (by dsimp only[maxLen];(try simp only[ao,ka]);omega) (by dsimp only;(try simp only[ao,ka]);omega) (n':=(l++vj 2 x).length) (ys:=gh (l++vj 2 x)) (by simp only[ao,ka,ue];omega) (by rw[vj,<-aM,qy (l++be 2 x.length)]) hW λq k G f e z=>?_));dsimp only at f e;have a:=a.qg u e (show(5:Nat)≠180 from by decide);have d:=d.qx (e.mono λy _=>Ck.own t y);exact j6 ge Z (qk a Z Z Z λH i j A=> have d:=d.qx (j.mono λy _=>Ck.one a g y);gl (zz Z ⟨Z,⟨g,_,_,i,f.gk j a zd⟩,d⟩))
theorem sshort_calls (w:World) {W:World} {b:Nat} {l:Bytes} (h:WrS W w b l) (hW:Ext No W w) {px:Option Addr} {cx:Nat} {x:Bytes} (hs:xy w px x) (hsp:∀y off,px=some ⟨y,off,none⟩->¬TyW W w y) (hl:l.length<900000000) (hx:x.length<900000000):
  gn prog 89 [.pointer (some ⟨b,0,none⟩),.slice px x.length cx] w λv w'=>v= .tuple #[]/\WrS W w' b (l++vj 1 x)/\Ext (TyW W w) w w':=by
 obtain⟨o,G,H,a,c⟩:=h;have p:=c;refine gz func89 (have f:=Ext.refl (TyW W w) w;yy Z (gx Z (a.cell Z) (j6 ge Z ?_)));rw[yi];refine wl (qw ge Z 1 Z Z Z zd zd zp (l':=gh [UInt8.ofNat x.length]) Z λA J C r d D=> have hs:=hs.ga d;have a:=a.ga d;have c:=c.ga d;have hW:=hW.gb d;have f:=f.gb d;have g:=c;have s:=c.own;wl (x3 ge Z 1 1 Z Z Z zd c (Src.slice (m:=1) ⟨Z,.inr ⟨A,0,Z,r.ql⟩⟩ OneC.h) (by dsimp only[maxLen];(try simp only[ao,ka]);omega) (by dsimp only;(try simp only[ao,ka]);omega) (n':=(l.length+1)) (ys:=gh (l++be 1 x.length)) Z (bytes_app _ _) hW λq k K n i t=>?_));have a:=a.qg s i (show(5:Nat)≠180 from by decide);have hs:=hs.ext i λy off e E=>hsp y off e (Ck.own p y E);have f:=f.qx (i.mono λy _=>Ck.own g y);have hW:=t;refine j6 ge Z (have g:=n;have B:=n.own;wl (x3 ge Z 1 1 Z Z Z zd n (Src.slice hs OneC.h) (by dsimp only[maxLen];(try simp only[ao,ka]);omega) (by dsimp only;(try simp only[ao,ka]);omega) (n':=(l++vj 1 x).length) (ys:=gh (l++vj 1 x)) (by simp only[ao,ka,ue];omega) (by rw[bytes_app,vj,aM]) hW λq k L n j t=>?_));dsimp only at n j;have a:=a.qg B j (show(5:Nat)≠180 from by decide);have f:=f.qx (j.mono λy _=>Ck.own g y);exact j6 ge Z (qk a Z Z Z λM u z F=> have f:=f.qx (z.mono λy _=>Ck.one a o y);gl (zz Z ⟨Z,⟨o,_,_,u,n.gk z a zd⟩,f⟩))
theorem wside_calls (w:World) {W:World} {b:Nat} {l:Bytes} (h:WrS W w b l) (hW:Ext No W w) {q:Bool} {px:Option Addr} {cx:Nat} {x:Bytes} (hs:xy W px x) (hl:l.length<800000000) (hx:x.length<65536):
  gn prog 90 [.pointer (some ⟨b,0,none⟩),.bool q,.slice px x.length cx] w λv w'=>v= .tuple #[]/\WrS W w' b (l++sideB q x)/\Ext (TyW W w) w w':=by
 obtain⟨j,M,N,a,c⟩:=h;refine gz func90 ?_;have f:=Ext.refl (TyW W w) w;have p:=a;have r:=c;have B:=hW;refine qr (wl (qw ge Z 1 Z Z Z zd zd zp (l':=[.int .u8 0]) Z λs Q k d g R=>?_));have C:=al f.size k;have a:=a.ga g;have c:=c.ga g;have hW:=hW.gb g;have f:=f.gb g;refine kg Z (ju (α:=Unit) [0,2,6] Z (λz=>[]) (λz u=>(j0 u b 180 [.slice M l.length N]/\ky W u M l.length N 5 1 (gh l)/\Ext No W u)/\j0 u s 5 (gh [isB q])/\Ext (TyW W w) w u) ?_ ?_);refine gp (j1 (kg Z (vk Z (λD=>?_) (λD=>?_))));have E:isB q=1:=by rw[D];rfl
 refine yy Z (ki Z 1 Z 0 Z zd (0+0*1) Z (jd d Z Z (j6 ge Z (ki Z 1 Z 0 Z zd (0+0*1) Z (qk d Z Z Z λS d i T=>?_)))));have a:=a.gk i (j3 p.lt k);have c:=ky.mk (c.own.ext i λy U e=>(by have e:y=s:=e;have:=r.own.lt U;omega)) c.new;have hW:=hW.gi i (al B.size k);have f:=f.gi i C;have d:j0 S s 5 (gh [isB q]):=(by rw[E];exact d)
 exact gl (j2 (()) Z ⟨⟨a,c,hW⟩,d,f⟩);have E:isB q=0:=by rw[D];rfl
 refine qf ?_;have d:j0 Q s 5 (gh [isB q]):=by rw[E];exact d
 exact j2 (()) Z ⟨⟨a,c,hW⟩,d,f⟩;rintro⟨⟩ X ⟨⟨a,c,hW⟩,d,f⟩;refine qj Z (gx Z (a.cell Z) (j6 ge Z (have F:=c;have t:=c.own;wl (x3 ge Z 1 1 Z Z Z zd c (Src.slice (m:=1) ⟨Z,.inr ⟨s,0,Z,d.ql⟩⟩ OneC.h) (by dsimp only[maxLen];(try simp only[ao,ka]);omega) (by dsimp only;(try simp only[ao,ka]);omega) (n':=(l++[isB q]).length) (ys:=gh (l++[isB q])) zi (bytes_app _ _) hW λY I w4 O n G=>?_))));dsimp only at O n;have a:=a.qg t n (show(5:Nat)≠180 from by decide);have f:=f.qx (n.mono λy _=>Ck.own F y);have hW:=G;refine j6 ge Z (qk a Z Z Z λP A o V=>?_);have f:=f.qx (o.mono λy _=>Ck.one a j y);have hW:=hW.gi o j;have H:WrS W P b (l++[isB q]):=⟨j,_,_,A,O.gk o a zd⟩
 refine u3 (yy Z (gj call88 Z (slong_calls P H hW (hs.ga hW) (by rw[ao];show l.length+1<_;omega) hx) ?_));rintro v6 w6⟨rfl,K,L⟩;have f:=f.qx L;refine gl (zz Z ?_);exact⟨Z,by rw[sideB,<-aM];exact K,f⟩
theorem objsB_len {l : List jm} (h : ∀ o ∈ l, yv o) : (zv2 l).length <= l.length * 802 := D9 λo ho => by
  have := (h o ho).2
  rw [ue]; omega
theorem sideB_len {q:Bool} {x:Bytes} (h:SideOk q x):(sideB q x).length<=4099:=by
 have:=h.1;rw[sideB,ao,ue,cU];omega
theorem setB_len {s:A4} (h:SetOk s):(xx7 s).length<=9000:=by
 have a:=sideB_len h.2.2.1;have b:=sideB_len h.2.2.2;have c:=h.2.1;rw[xx7,ao,ao,ue];omega
theorem setsB_len {l : List A4} (h : xq8 l) : (l.flatMap xx7).length <= l.length * 9000 := D9 λs hs => setB_len (h.1 s hs)
def Ar (b : Ap) : Bytes := if Bx b then uo b else []
abbrev mayE (b : Ap) : Int := if Bx b then 0 else 2
theorem zq3 (w:World) {b:uz} (h:zv6 w b):
  gn prog 30 [b.v] w λv w'=>∃q k,v= .tuple #[.slice q (Ar b.d).length k,.int .i64 (mayE b.d)]/\ky w w' q (Ar b.d).length k 5 1 (gh (Ar b.d))/\Ext No w w':=by
 refine gz func30 ?_;have f:=Ext.refl No w;refine qr (gt Z λb1 w1 cc a bh=>?_);have f:=f.gb bh;have a:j0 w1 b1 25 (b.c):=a;refine kg Z (gp (qr (jf a Z Z (gj call63 Z (may_calls w1 (h.ga f)) ?_))));rintro v2 w2⟨rfl,av⟩;have a:=a.ga av;have f:=f.gb av;refine kg Z (vk Z (λhc=>?_) (λhc=>?_));have F:¬Bx b.d:=by simpa using hc
 exact kw Z (gv (gu (u7 [_,_] ⟨Z,Z,trivial⟩ ⟨none,0,by rw[Ar,aI F,mayE,aI F];rfl,by rw[Ar,aI F];exact ky.nil _ _ _ _,f⟩)));have F:Bx b.d:=by simpa using hc
 have bj:=F.1;have bk:=F.2.1;have bm:=objsB_len F.2.2.1;simp only[uz.d,aA] at bj bk bm;refine xg (qr (u1 Z trivial (l':=[.slice none 0 0]) Z (gt Z λJ w3 V r aw=> have S:=j3 a.lt V;have X:=al f.size V;have a:=a.ga aw;have f:=f.gb aw;have r:j0 w3 J 180 ([.slice none 0 0]):=r;kg Z (kw Z (qj Z (gx Z (a.cell Z) (j6 ge Z ?_)))))));rw[IntWalk.u16_in _ zk];have bn:=f;refine gj call91 Z (zx0 w3 (l:=[]) (p:=none) (c:=0) ⟨Z,.inl Z⟩ zd b.os.length zk) ?_;rintro v4 w4⟨bp,rfl,br,ax,ae⟩;have a:=a.ga ae;have r:=r.ga ae;have f:=f.gb ae;have hq:=ky.blk (W:=w) (n:=(be 2 b.os.length).length) (sz:=1) ax (al bn.size br) (by rw[gm,bI,bF]) (by rw[ka];decide);rw[bI] at hq ax|-;refine j6 ge Z (have af:=r;qk r Z Z Z λw5 r ag cd=> have a:=a.gk ag S;have f:=f.gi ag X;have r:j0 w5 J 180 ([.slice (some ⟨bp,0,none⟩) (be 2 b.os.length).length (be 2 b.os.length).length]):=r;have t:WrS w w5 J (be 2 b.os.length):=⟨X,_,_,r,hq.gk ag af zd⟩;u3 (gp (qj Z (gx Z (a.cell Z) (kg Z (j8 (jl (α:=Nat) [1,4,5,6,7,35,36] Z (λz=>[(37,.int .i64 (z:Int))]) (λz u=>(z<=b.os.length/\WrS w u J (be 2 b.os.length++zv2 ((b.os.map Prod.fst).take z)))/\j0 u b1 25 (b.c)/\Ext No w u) (λz u=>b.os.length-z) (0) Z ⟨⟨aJ _,by rw[List.take_zero,zv2,List.flatMap_nil,bE];exact t⟩,a,f⟩ ?_)))))));rintro i w6 ⟨⟨hi,t⟩,a,f⟩;refine vo Z (jy Z (λhc=>?_) (λhc=>?_));have K:i<b.os.length:=by omega
 have ay:i<(b.os.map Prod.fst).length:=by rw[aA];exact K
 obtain⟨q,qo,hp,ah⟩:=h.os.qm (objX_len λx hx=>(h.o x hx).i) zk;have ho:=h.o _ (aC K);have az:(b.os.map Prod.fst)[i]=b.os[i].1:=bQ ..;have E:yv b.os[i].1:=F.2.2.1 _ (by rw[<-az];exact aC ay);have ce:=E.2;have ai:=objsB_len (l:=(b.os.map Prod.fst).take i) λo h=>F.2.2.1 o (bK h);rw[aH,bP zk] at ai;have a0:encB b.os[i].1=laidB b.os[i].1:=aL E;rw[hp];refine Bn (qr (ki Z 73 Z i Z K (qo+i*73) Z (jk Z ((ah i K).ga f) (gr ho.i) (gt Z λb9 w7 a1 T aj=>?_))));have ak:=j3 a.lt a1;have bt:=al f.size a1;have a:=a.ga aj;have t:=t.ga aj;have f:=f.gb aj;have a2:=T;refine wl (j9 (l':=yu b.os[i]) ge T Z Z (gr ho.i) (gr ho.i) OneC.h λw8 T am cf=>?_);have a:=a.gk am ak;have t:=t.gk am a2 zd zd;have f:=f.gi am bt;refine u3 (qr (jf T Z (gr ho.i) (gj call92 Z (yj5 w8 ho.i (ho.l.ga f) ho.s) ?_)));rintro v9 w9⟨q2,k2,rfl,a3,b4,an⟩;have a:=a.ga an;have t:=t.ga an;have f:=f.gb an;rw[a0] at a3|-;refine kg Z (yy Z (gj call88 Z (slong_calls w9 t f a3.sl (by simp only[ao,ka];omega) zk) λcg ch⟨rfl,t,Y⟩=> have a:=a.y0 Y zd zd;have f:=f.y0 Y;gl (Bi Z ?_)));rw[qc _ zk];exact gl (jh (i+1) Z ⟨⟨K,by rw[aO ay,zv2,aY,bL,<-aM,az];exact t⟩,a,f⟩ zm);have h0:i=b.os.length:=by omega
 subst h0;rw[aN (by rw[aA];exact aB _)] at t;obtain⟨ap,p,c,A,C⟩:=t;refine Bh (gp (ke Z 15 [qP 0,qP 1,qP 2,qP 3,qP 4,qP 5,qP 6,qP 7,qP 8,qP 9,(10,false),(11,false),qP 12,qP 13,qP 14] [15] (jb p) zf λbv D b5=> have a5:=a;have I:=A;have aa:=C;have a:=a.ga D;have A:=A.ga D;have C:=C.ga D;have f:=f.gb D;have hC:Ext (jb p) _ bv:=D.no;gw ge 5 Z (j5 ge Z Z (λw' aq=>((I.ext (show Ext (jb p) _ w' from aq) λar=>aa.own.xq3 ar I zd Z).cell Z)) (gw ge 1 Z (j5 ge Z Z (λw' aq=>((a5.ext (show Ext (jb p) _ w' from aq) λar=>aa.own.xq3 ar a5 zd Z).cell Z)) (gw ge 2 Z ?_))))));rw[yi];refine jv Z (qw ge Z 1 Z Z Z zd zd zp (l':=gh [UInt8.ofNat b.ss.length]) Z λbw ci b6 a6 B b7=>⟨hC.gb B,have a:=a.ga B;have A:=A.ga B;have C:=C.ga B;have f:=f.gb B;have hC:=hC.gb B;have ab:=C.own;jv Z (x3 ge Z 1 1 Z Z Z zd C (Src.slice (m:=1) ⟨Z,.inr ⟨bw,0,Z,a6.ql⟩⟩ OneC.h) (by dsimp only[maxLen];simp only[ao,ka];omega) (by dsimp only;simp only[ao,ka];omega) (n':=(be 2 b.os.length++zv2 (b.os.map Prod.fst)++be 1 b.ss.length).length) (ys:=gh (be 2 b.os.length++zv2 (b.os.map Prod.fst)++be 1 b.ss.length)) (by simp only[ao,ka]) (bytes_app _ _) f λq k cj hq G f=>⟨hC.then G,?_⟩)⟩);dsimp only at hq G;have a:=a.qg ab G (show(5:Nat)≠25 from by decide);have A:=A.qg ab G (show(5:Nat)≠180 from by decide);refine gw ge 3 Z (js (wb Z (yo ge A Z Z Z λbx a7 M b8=> have f:=f.gi M ap;have a:=a.gk M (a.ne A zd);have t:WrS w bx J (be 2 b.os.length++zv2 (b.os.map Prod.fst)++be 1 b.ss.length):=⟨ap,_,_,a7,hq.gk M A zd⟩;ja (jq (gp (qj Z (gx Z (a.cell Z) (kg Z (j8 (jl (α:=Nat) [4,6,7,66,67] Z (λz=>[(68,.int .i64 (z:Int))]) (λz u=>(z<=b.ss.length/\WrS w u J (be 2 b.os.length++zv2 (b.os.map Prod.fst)++be 1 b.ss.length++((b.ss.map Prod.fst).take z).flatMap xx7))/\j0 u b1 25 (b.c)/\Ext No w u) (λz u=>b.ss.length-z) (0) Z ⟨⟨aJ _,by rw[List.take_zero,List.flatMap_nil,bE];exact t⟩,a,f⟩ ?_))))))))));rintro j ck ⟨⟨hj,t⟩,a,f⟩;refine vo Z (jy Z (λhc=>?_) (λhc=>?_));have N:j<b.ss.length:=by omega
 have a8:j<(b.ss.map Prod.fst).length:=by rw[aA];exact N
 obtain⟨q,qo,hp,ah⟩:=h.ss.qm (λx _=>yz9 x) zk;have a9:=h.s _ (aC N);have ba:(b.ss.map Prod.fst)[j]=b.ss[j].1:=bQ ..;have E:SetOk b.ss[j].1:=F.2.2.2.1 _ (by rw[<-ba];exact aC a8);have cm:=E.2.1;have cn:=E.2.2.1.1;have cp:=E.2.2.2.1;have ai:=setsB_len (l:=(b.ss.map Prod.fst).take j) ⟨λs h=>F.2.2.2.1 s (bK h),(List.Sublist.map _ (List.take_sublist _ _)).nodup F.2.2.2.2⟩;rw[aH,bP zk] at ai;rw[hp];refine Bn (qr (ki Z 5 Z j Z N (qo+j*5) Z (jk Z ((ah j N).ga f) Z (gt Z λcq cr ac g O=> have U:=j3 a.lt ac;have bb:=al f.size ac;have a:=a.ga O;have t:=t.ga O;have f:=f.gb O;have au:=g;wl (j9 (l':=yc b.ss[j]) ge g Z Z Z Z OneC.h λct g P ca=> have a:=a.gk P U;have t:=t.gk P au zd zd;have f:=f.gi P bb;u3 (qj Z (gx Z (g.cell Z) (wl (st_s2b ge Z λbs cs bz cb b0 cu bc H=> have a:=a.ga H;have g:=g.ga H;have t:=t.ga H;have f:=f.gb H;gj call89 Z (sshort_calls bz t f b0 (λy cv e k=>by have e:bs=y:=congrArg Addr.block (cl e);subst e;obtain⟨_,L,k|k⟩:=k;exact bc _ _ k;exact bc _ _ k) (by simp only[ao,ka];omega) zk) λcw b2⟨rfl,t,Q⟩=> have a:=a.y0 Q zd zd;have g:=g.y0 Q zd zd;have f:=f.y0 Q;u3 (qj Z (gx Z (g.cell Z) (j6 ge Z (gx Z (g.cell Z) (gj call90 Z (wside_calls b2 t f (q:=b.ss[j].1.was) a9.old (by simp only[ao,ka,ue];omega) zk) λcx b3⟨rfl,t,R⟩=> have a:=a.y0 R zd zd;have g:=g.y0 R zd zd;have f:=f.y0 R;u3 (yy Z (gx Z (g.cell Z) (j6 ge Z (gx Z (g.cell Z) (gj call90 Z (wside_calls b3 t f (q:=b.ss[j].1.is) a9.new (by have:=sideB_len E.2.2.1;simp only[ao,ka,ue];omega) zk) λcy cz⟨rfl,t,ad⟩=> have a:=a.y0 ad zd zd;have f:=f.y0 ad;gl (Bi Z ?_))))))))))))))))))));rw[qc _ zk];exact gl (jh (j+1) Z ⟨⟨N,by rw[aO a8,aY,bL,ba,xx7];simp only[<-aM];exact t⟩,a,f⟩ zm);have h0:j=b.ss.length:=by omega
 subst h0;rw[aN (by rw[aA];exact aB _)] at t;have e1:Ar b.d=be 2 b.os.length++zv2 (b.os.map Prod.fst)++be 1 b.ss.length++(b.ss.map Prod.fst).flatMap xx7:=by rw[Ar,aL F,uo];simp only[uz.d,aA]
 rw[<-e1] at t;obtain⟨ap,p,c,A,C⟩:=t;exact Bh (qj Z (gx Z (A.cell Z) (kg Z (gv (u7 [_,_] ⟨Z,Z,trivial⟩ ⟨p,c,by rw[mayE,aL F];rfl,C,f⟩)))))
theorem each_all {α:Type} {f:Ds->α×Ds} {P:α->Prop} (hf:∀s,(f s).2.rest.length<=s.rest.length) (hp:∀s,s.rest.length<1000000000->P (f s).1):∀(n:Nat) (s:Ds),s.rest.length<1000000000->∀x∈(Ds.each f n s).1,P x
 |0,s,_,x,hx=>by cases hx
 |n+1,s,hs,x,hx=>by
  rw[Ds.each] at hx
  split at hx
  ·cases hx
  rcases List.mem_cons.1 hx with rfl|hx
  ·exact hp s hs
  exact each_all hf hp n _ (bT (hf s) hs) x hx
theorem row_len {α:Type} {f:Ds->α×Ds} (s:Ds):(s.row f).1.length<1000000000:=
 bT (Ds.xv7 _ _) (Nat.lt_trans (s.xu 1) zd)
theorem row_rest {α:Type} {f:Ds->α×Ds} (hf:∀s,(f s).2.rest.length<=s.rest.length) (s:Ds):(s.row f).2.rest.length<=s.rest.length:=
 al (xv7 hf _ _) (s.vq 1).2.1
theorem row_all {α:Type} {f:Ds->α×Ds} {P:α->Prop} (hf:∀s,(f s).2.rest.length<=s.rest.length) (hp:∀s,s.rest.length<1000000000->P (f s).1) {s:Ds} (hs:s.rest.length<1000000000):∀x∈(s.row f).1,P x:=
 each_all hf hp _ _ (bT (s.vq 1).2.1 hs)
theorem Ds.id_le (s : Ds) : s.id.2.rest.length <= s.rest.length := s.yz.2
def D7 (o : jm) : Prop := ub o /\ Cw o
theorem objZ_dec : D7 x1 := ⟨u6, Be⟩
theorem endB_dec {b:List UInt8} {o:jm×Ds} (h:D7 o.1):D7 (endB b o).1:=by
 unfold endB;split;exact objZ_dec;split;exact h;exact objZ_dec
theorem com_dec {s:Ds} (hs:s.rest.length<1000000000):D7 s.com.1:=by
 have c:(s.off 1).2.rest.length<1000000000:=bT (s.vq 1).2.1 hs;have a:(s.off 1).2.id.2.rest.length<1000000000:=bT (Ds.id_le _) c;have d:((s.off 1).2.id.2.row Ds.id).2.rest.length<1000000000:=bT (row_rest Ds.id_le _) a;have b:((s.off 1).2.id.2.row Ds.id).2.id.2.rest.length<1000000000:=bT (Ds.id_le _) d;refine⟨⟨(Ds.yz _).1,(Ds.yz _).1,row_all Ds.id_le (λs _=>(Ds.yz s).1) a,λ_ h=>absurd h List.not_mem_nil,?_,Ds.xu _ 4,Ds.xu _ 4⟩,⟨(show([]:List jn).length<1000000000 from by decide),row_len _,row_len _,λ_ h=>absurd h List.not_mem_nil,?_⟩⟩;exact row_all (P:=λr:vb=>r.path.length<=maxLen/\r.text.length<=maxLen) Ds.chg_le (λs hs=>Ds.chg_in hs) b;exact row_all (P:=λr:vb=>r.path.length<1000000000) Ds.chg_le (λs hs=>bT (s.y6 1).1 hs) b
theorem dec_ok {l:List UInt8} (hl:l.length<1000000000):D7 (ye l).1:=by
 have a:((⟨l,false⟩:Ds).off 1).2.rest.length<1000000000:=bT (Ds.vq _ 1).2.1 hl;unfold ye;split;exact objZ_dec;dsimp only;split;exact endB_dec ⟨⟨u6.tree,u6.base,u6.parents,u6.leaves,u6.rows,u6.number,u6.author⟩,⟨Be.leaves,Be.parents,Be.rows,Be.leafP,Be.rowP⟩⟩;split;exact endB_dec ⟨⟨u6.tree,u6.base,u6.parents,row_all (P:=λr:jn=>r.path.length<=maxLen/\r.id.length=32) Ds.leaf_le (λs b=>Ds.leaf_in b) a,u6.rows,u6.number,u6.author⟩,⟨row_len _,Be.parents,Be.rows,row_all (P:=λr:jn=>r.path.length<1000000000) Ds.leaf_le (λs b=>bT (s.y6 1).1 b) a,Be.rowP⟩⟩;split;exact endB_dec (com_dec a);exact objZ_dec
theorem RdS.rawN {w:World} {rb:Nat} {s:Ds} (h:RdS w rb s) (hl:s.rest.length<1000000000) (n:Nat):gn prog 103 [.pointer (some ⟨rb,0,none⟩),.int .i64 (n:Int)] w λv w'=>∃q c,v= .slice q (s.off n).1.length c/\ky w w' q (s.off n).1.length c 5 1 (gh (s.off n).1)/\RdS w' rb (s.off n).2/\Ext (One rb) w w':=
 ((rawN_calls w h hl n)).mono λv w' ⟨q,c,b,a,d,f⟩=>by
  have e:=off_eq s n
  rw[e] at b a d
  exact⟨q,c,b,⟨a.1,a.2⟩,d,f⟩
abbrev longV (b4 : Nat) : Value := .func (.func 102) #[] #[.pointer (some ⟨b4, 0, none⟩)]
structure Dc (W u : World) (rb b4 b6 : Nat) (s : Ds) : Prop where
  r : RdS u rb s
  p4 : j0 u b4 194 [.pointer (some ⟨rb, 0, none⟩)]
  p6 : j0 u b6 135 [longV b4]
  nr : W.heap.size <= rb
  len : s.rest.length < 1000000000
theorem Dc.ga {W w w':World} {rb b4 b6:Nat} {s:Ds} (h:Dc W w rb b4 b6 s) (hE:Ext No w w'):Dc W w' rb b4 b6 s:=⟨h.r.ga hE,h.p4.ga hE,h.p6.ga hE,h.nr,h.len⟩
def DecT (T : Nat) : Prop := 264 ≠ T /\ 5 ≠ T /\ 194 ≠ T /\ 135 ≠ T
instance (T : Nat) : Decidable (DecT T) := inferInstanceAs (Decidable (_ /\ _))
theorem Dc.gk {W w w':World} {rb b4 b6:Nat} {s:Ds} (h:Dc W w rb b4 b6 s) {x T:Nat} {L:List Value} (hE:Ext (One x) w w') (hb:j0 w x T L) (hT:DecT T):Dc W w' rb b4 b6 s:=
 ⟨h.r.gk hE hb hT.1 hT.2.1,h.p4.gk hE (h.p4.ne hb hT.2.2.1),h.p6.gk hE (h.p6.ne hb hT.2.2.2),h.nr,h.len⟩
theorem Dc.ne {W w:World} {rb b4 b6:Nat} {s:Ds} (h:Dc W w rb b4 b6 s) {x T:Nat} {L:List Value} (hb:j0 w x T L) (hT:264≠T):x≠rb:=(h.r.ne hb hT).symm
theorem Dc.rd {W w w':World} {rb b4 b6:Nat} {s s':Ds} (h:Dc W w rb b4 b6 s) (hr:RdS w' rb s') (hE:Ext (One rb) w w') (hl:s'.rest.length<=s.rest.length):Dc W w' rb b4 b6 s':=
 ⟨hr,h.p4.gk hE (h.ne h.p4 zd),h.p6.gk hE (h.ne h.p6 zd),h.nr,bT hl h.len⟩
theorem Dc.own {W w w':World} {rb b4 b6:Nat} {s:Ds} (h:Dc W w rb b4 b6 s) {p:Option Addr} {n c T sz:Nat} {xs:List Value} (ho:Own w p n c T sz xs) (hE:Ext (jb p) w w') (hT:DecT T) (hlt:∀x,jb p x->x<w.heap.size):Dc W w' rb b4 b6 s:=by
 rcases ho with⟨d,_⟩|⟨b,l,d,e,_⟩;exact h.ga (hE.mono λx _ a=>by rw[d] at a;cases a);exact h.gk (hE.mono λx _ a=>by rw[d] at a;exact(congrArg Addr.block (cl a)).symm) e hT
theorem rdNew {W w w' : World} {rb : Nat} (hX : Ext No W w) (hE : Ext (One rb) w w') (hn : W.heap.size <= rb) : Ext No W w' := hX.gi hE hn
abbrev str2 (s : Ds) : Bytes × Ds := s.str 2
theorem yx8 (w:World) {W:World} {rb b4 b6:Nat} {s:Ds} (h:Dc W w rb b4 b6 s):
  gn prog 102 [.pointer (some ⟨b4,0,none⟩)] w λv w'=>∃q c,v= .slice q (s.str 2).1.length c/\ky w w' q (s.str 2).1.length c 5 1 (gh (s.str 2).1)/\Dc W w' rb b4 b6 (s.str 2).2/\Ext (One rb) w w':=by
 have t:=s.xu 2;refine gz func102 (have d:=Ext.refl (One rb) w;vo Z (ke Z 6 [qP 0,qP 1,(2,false),qP 3,(4,false),qP 5] [] (One rb) zf λu e x=> have g:=h;have h:=h.ga e;have d:=d.gb e;have m:Ext (One rb) _ u:=e.no;j5 ge Z Z (λw' f=>((g.p4.ext (show Ext (One rb) _ w' from f) (g.ne g.p4 zd)).cell Z)) (j5 ge Z Z (λw' f=>((g.p4.ext (show Ext (One rb) _ w' from f) (g.ne g.p4 zd)).cell Z)) (jv Z (j7 call104 Z (h.r.u16 h.len) λz A i=>⟨(by obtain⟨rfl,j,a⟩:=i;exact m.then a),?_⟩)))));obtain⟨rfl,j,a⟩:=i;have m:=m.then a;have d:=d.then a;have n:=h.rd j a (s.vq 2).2.1;refine gw ge 1 Z ?_;rw[qc _ zk];have o:=d;refine jv Z (j7 call103 Z (n.r.rawN n.len (num (s.off 2).1)) λB C k=>⟨(by obtain⟨q,c,rfl,p,l,b⟩:=k;exact m.then b),?_⟩);obtain⟨q,c,rfl,p,l,b⟩:=k;have d:=d.then b;have y:=n.rd l b (Ds.vq _ _).2.1;exact gw ge 1 Z (js (ja (jq (gv (gy Z Z ⟨q,c,Z,p.older o.size,y,d⟩)))))
theorem decobj_calls (w:World) {W:World} {rb b4 b5 b6:Nat} {s:Ds} (h:Dc W w rb b4 b6 s) {ok:Bool} (hb5:j0 w b5 4 [.bool ok]):
  gn prog 106 [.pointer (some ⟨b6,0,none⟩),.pointer (some ⟨b5,0,none⟩)] w λv w'=>∃a,v= .agg (km (ye (s.str 2).1).1 a).toArray/\um w w' (ye (s.str 2).1).1 a/\Dc W w' rb b4 b6 (s.str 2).2/\j0 w' b5 4 [.bool (ok&&decide ((ye (s.str 2).1).2=0))]/\Ext (λx=>x=rb\/x=b5) w w':=by
 have C:=bT (s.y6 2).1 h.len;have j:=dec_ok C;refine gz func106 ?_;have g:=Ext.refl (λx=>x=rb\/x=b5) w;refine qr (gt Z λM N E b y=>?_);have F:=al g.size E;have h:=h.ga y;have hb5:=hb5.ga y;have g:=g.gb y;refine u3 (qr (gx Z (h.p6.cell Z) (gj call102 Z (yx8 N h) ?_)));rintro X O⟨q,c,rfl,P,Q,A⟩;have b:=b.gk A (h.ne b zd);have g:=g.then (A.mono λ_ _ e=> .inl e);have hb5:=hb5.gk A (h.ne hb5 zd);have h:=Q;have H:=g;refine gj call107 Z (decode_calls O P.sl C) ?_;rintro Y G⟨a,rfl,i,r⟩;have b:=b.ga r;have h:=h.ga r;have hb5:=hb5.ga r;have g:=g.gb r;have i:=i.older H.size;refine j6 ge Z (gt Z λR w4 D f k=>?_);have B:=j3 b.lt D;have K:=al g.size D;have b:=b.ga k;have h:=h.ga k;have hb5:=hb5.ga k;have i:=i.ga k;have g:=g.gb k;have l:=f;refine wl (j9 (l':=km (ye (s.str 2).1).1 a) ge f Z Z (gr j.1) (gr j.1) OneC.h λw5 f m S=>?_);have b:=b.gk m B;have h:=h.gk m l zd;have hb5:=hb5.gk m (hb5.ne l zd);have i:=i.gk m l zd zd zd;have g:=g.gi m K;refine kg Z (ju (α:=Bool) [2,3] Z (λz=>[]) (λz u=>(z=(ok&&decide ((ye (s.str 2).1).2=0))/\Dc W u rb b4 b6 (s.str 2).2/\j0 u b5 4 [.bool z]/\um w u (ye (s.str 2).1).1 a)/\j0 u M 37 (cellsOf ti37.zero)/\j0 u R 37 (km (ye (s.str 2).1).1 a)/\Ext (λx=>x=rb\/x=b5) w u) ?_ ?_);refine j1 (gx Z (hb5.cell Z) (j6 ge Z (ut 12 Z (λL=>?_) (λL=>?_))));exact j4 ge 3 Z (have d:=hb5;qk hb5 Z Z Z λw6 hb5 n T=> have h:=h.gk n d zd;have i:=i.gk n d zd zd zd;have b:=b.gk n (b.ne d zd);have f:=f.gk n (f.ne d zd);have g:=g.then (n.mono λ_ _ e=> .inr e);gl (j2 (_) Z ⟨⟨by rw[L];rfl,h,hb5,i⟩,b,f,g⟩));exact j4 ge 3 Z (have d:=hb5;qk hb5 Z Z Z λw7 hb5 o U=> have h:=h.gk o d zd;have i:=i.gk o d zd zd zd;have b:=b.gk o (b.ne d zd);have f:=f.gk o (f.ne d zd);have g:=g.then (o.mono λ_ _ e=> .inr e);gl (j2 (false) Z ⟨⟨by rw[L];rfl,h,hb5,i⟩,b,f,g⟩));rintro z w8 ⟨⟨rfl,h,hb5,i⟩,b,f,g⟩;exact qr (jf f Z (gr j.1) (have p:=b;wl (j9 (l':=km (ye (s.str 2).1).1 a) ge b Z Z (gr j.1) (by rw[gr j.1];rfl) OneC.h λw9 b t V=> have h:=h.gk t p zd;have hb5:=hb5.gk t (hb5.ne p zd);have i:=i.gk t p zd zd zd;have g:=g.gi t F;u3 (gv (u7 [_] ⟨⟨M,0,Z,ud ge Z Z b.ql (gr j.1)⟩,trivial⟩ ⟨a,Z,i,h,hb5,g⟩)))))
structure SevO (w W u : World) (rb b4 b5 b6 : Nat) (s : Ds) (n : Nat) (ok : Bool) (q : Option Addr) (k : Nat) (xs : List Cv) : Prop where
  own : ky w u q xs.length k 37 73 (xs.flatMap yu)
  all : ∀ x ∈ xs, D7 x.1 /\ um w u x.1 x.2
  i : Dc W u rb b4 b6 (Ds.each str2 n s).2
  few : xs.length <= n
  b5 : ∃ o, j0 u b5 4 [.bool o] /\ ((Ds.each str2 n s).2.bad = false -> xs.map Prod.fst = (Ds.each str2 n s).1.map (λy => (ye y).1) /\ o = (ok && (Ds.each str2 n s).1.all λy => decide ((ye y).2 = 0)))
theorem objZc : cellsOf ti37.zero = km x1 noP := by kernel_rfl
theorem xw6 {o:jm} {a:x9} (h:ub o):ym (Df 1 (km x1 noP)) [(0*(0+73),0+73,.agg (km o a).toArray)]=km o a:=by
 simp only[ym,jc];rw[dA,Bv (by rw[va,gr h,gr u6])]
theorem um.extT {W0 w w':World} {o:jm} {a:x9} (h:um W0 w o a) {p:Option Addr} {n c T sz:Nat} {xs:List Value} (ho:Own w p n c T sz xs) (hE:Ext (jb p) w w') (h1:148≠T) (h2:30≠T) (h3:150≠T):um W0 w' o a:=by
 rcases ho with⟨e,_⟩|⟨b,l,e,f,_⟩;exact h.ga (hE.mono λx _ d=>by rw[e] at d;cases d);exact h.gk (hE.mono λx _ d=>by rw[e] at d;exact(congrArg Addr.block (cl d)).symm) f h1 h2 h3
theorem Own.not2 {w:World} {p:Option Addr} {n c T sz:Nat} {xs:List Value} (h:Own w p n c T sz xs) {rb b5:Nat} {s:Ds} {v:List Value} (hr:RdS w rb s) (hb:j0 w b5 4 v) (h1:264≠T) (h2:T≠4):∀y,jb p y->¬(y=rb\/y=b5):=λy b e=>by
 obtain⟨l,a⟩:=h.zv1 b
 exact e.elim (λe=>hr.ne a h1 e.symm) λe=>a.ne hb h2 e
theorem objNew_keep {W0 w w':World} {o:jm} {a:x9} (h:um W0 w o a) {rb b5:Nat} {s:Ds} {v:List Value} (hE:Ext (λx=>x=rb\/x=b5) w w') (hr:RdS w rb s) (hb:j0 w b5 4 v):um W0 w' o a:=
 ⟨h.ol.ext hE (Own.not2 h.ol hr hb zd zd),h.op.ext hE (Own.not2 h.op hr hb zd zd),h.or.ext hE (Own.not2 h.or hr hb zd zd),h.nl,h.np,h.nr⟩
theorem ds_err {s : Ds} : s.err = 0 ↔ s.bad = false := by unfold Ds.err; cases s.bad <;> simp
theorem each_bad {α : Type} {f : Ds -> α × Ds} {n : Nat} {s : Ds} (h : s.bad = true) : Ds.each f n s = ([], s) := Ds.each_end (.inr h)
theorem sevobj_calls (w:World) {W:World} {rb b4 b5 b6:Nat} {s:Ds} (h:Dc W w rb b4 b6 s) {ok:Bool} (hb5:j0 w b5 4 [.bool ok]) (n:Nat) (hn:n<65536) (hs:n=0\/s.bad=false):
  gn prog 105 [.pointer (some ⟨rb,0,none⟩),.int .i64 (n:Int),.func (.func 106) #[] #[.pointer (some ⟨b6,0,none⟩),.pointer (some ⟨b5,0,none⟩)]] w λv w'=>∃q k xs,v= .slice q xs.length k/\SevO w W w' rb b4 b5 b6 s n ok q k xs/\Ext (λx=>x=rb\/x=b5) w w':=by
 refine gz func105 (have c:=Ext.refl (λx=>x=rb\/x=b5) w;kw Z (ju (α:=Option Addr×Nat×List Cv) [] Z (λz=>[(6,.slice z.1 z.2.2.length z.2.1)]) (λz u=>(SevO w W u rb b4 b5 b6 s n ok z.1 z.2.1 z.2.2)/\Ext (λx=>x=rb\/x=b5) w u) ?_ ?_));refine gp (j1 (kg Z (j8 (jl (α:=Nat×Option Addr×Nat×List Cv×Ds×List Bytes×Bool) [0,2,8] Z (λz=>[(6,.slice z.2.1 z.2.2.2.1.length z.2.2.1),(9,.int .i64 (z.1:Int))]) (λz u=>((z.1<=n/\(z.1=n\/z.2.2.2.2.1.bad=false)/\z.2.2.2.1.length=z.1/\Ds.each str2 n s=(z.2.2.2.2.2.1++(Ds.each str2 (n-z.1) z.2.2.2.2.1).1,(Ds.each str2 (n-z.1) z.2.2.2.2.1).2)/\z.2.2.2.1.map Prod.fst=z.2.2.2.2.2.1.map (λy=>(ye y).1)/\z.2.2.2.2.2.2=(ok&&z.2.2.2.2.2.1.all λy=>decide ((ye y).2=0)))/\ky w u z.2.1 z.2.2.2.1.length z.2.2.1 37 73 (z.2.2.2.1.flatMap yu)/\(∀x∈z.2.2.2.1,D7 x.1/\um w u x.1 x.2)/\Dc W u rb b4 b6 z.2.2.2.2.1/\j0 u b5 4 [.bool z.2.2.2.2.2.2])/\Ext (λx=>x=rb\/x=b5) w u) (λz u=>n-z.1) (0,none,0,[],s,[],ok) Z ⟨⟨⟨aJ _,hs.imp Eq.symm id,Z,Z,Z,by simp⟩,ky.nil _ _ _ _,λ_ h=>(by cases h),h,hb5⟩,c⟩ ?_))));rintro⟨i,q,k,xs,p,ys,o⟩ w1 ⟨⟨⟨hi,N,O,j,K,U⟩,f,b,h,hb5⟩,c⟩;dsimp only at hi N O j K U f b h hb5;refine vo Z (jy Z (λP=>?_) (λP=>?_));have V:i<n:=by omega
 have X:p.bad=false:=N.elim (λe=>by omega) id;have Y:=bT (p.y6 2).1 h.len;have l:=dec_ok Y;rw[show n-i=(n-i-1)+1 from by omega,Ds.each_step X] at j;refine Bn (qj Z ?_);have I:=c;have d:=f;have D:=b;have Q:=h;refine gj call106 Z (decobj_calls w1 h hb5) ?_;rintro v2 w2⟨a,rfl,E,h2,R,L⟩;have c:=c.then L;have f:=ky.mk (d.own.ext L (Own.not2 d.own Q.r hb5 zd zd)) d.new;have b:(∀x∈xs,D7 x.1/\um w w2 x.1 x.2):=λx g=>⟨(D x g).1,objNew_keep (D x g).2 L Q.r hb5⟩
 have h:=h2;have hb5:=R;have E:=E.older I.size;have ab:=f;refine gt Z λb7 w3 S G A=>?_;have ac:=al c.size S;have h:=h.ga A;have hb5:=hb5.ga A;have f:=f.ga A;have b:=λx g=>And.intro (b x g).1 ((b x g).2.ga A);have E:=E.ga A;have c:=c.gb A;have ad:∀y,jb q y->y≠b7:=λy hy=>j3 (ab.own.lt hy) S;have t:=G;refine wl (j9 (l':=km (ye (p.str 2).1).1 a) ge G Z Z (gr l.1) (gr l.1) OneC.h λw4 G B ai=>?_);have h:=h.gk B t zd;have hb5:=hb5.gk B (hb5.ne t zd);have f:=ky.mk (f.own.ext B λy hy e=>ad y hy e) f.new;have b:=λx g=>And.intro (b x g).1 ((b x g).2.gk B t zd zd zd);have E:=E.gk B t zd zd zd;have c:=c.gi B ac;refine u3 (gp (qj Z (gj call111 Z (h.r.err) ?_)));rintro v5 w5⟨rfl,rfl⟩;refine kg Z (jy Z (λP=>?_) (λP=>?_));have J:(str2 p).2.bad=true:=by have:=mt ds_err.2 P;simpa using this
 have H:(Ds.each str2 n s).2=(str2 p).2:=by rw[j];dsimp only;rw[each_bad J]
 exact xt (qs (f_blockE' Z (qs (qs (ux (j2 (q,k,xs) Z ⟨⟨f,b,by rw[H];exact h,by dsimp only;omega,_,hb5,λhb=>by rw[H,J] at hb;cases hb⟩,c⟩))))));have M:(str2 p).2.bad=false:=ds_err.1 (aT.1 P);refine xg (yy Z (jf G Z (gr l.1) (wl (qw ge Z 73 Z objZc (gr u6) zd zd ⟨⟨by rw[jc];exact gr l.1,by decide⟩,trivial⟩ (l':=km (ye (p.str 2).1).1 a) (xw6 l.1) λaf w6 ah T C aj=> have h:=h.ga C;have hb5:=hb5.ga C;have f:=f.ga C;have b:=λx g=>And.intro (b x g).1 ((b x g).2.ga C);have E:=E.ga C;have c:=c.gb C;have d:=f.own;wl (x3 ge Z 73 192 Z Z Z zd f (Src.slice (m:=1) ⟨gr l.1,.inr ⟨af,0,Z,T.ql⟩⟩ OneC.h) zn zt (n':=(xs++[((ye (p.str 2).1).1,a)]).length) (ys:=(xs++[((ye (p.str 2).1).1,a)]).flatMap yu) zi (by rw[aY,bL];rfl) c λq k w7 f F c=>?_)))));dsimp only at f F;have h:=h.own d F zd λx=>d.lt;have hb5:=hb5.qg d F zd;have b:=λx g=>And.intro (b x g).1 ((b x g).2.extT d F zd zd zd);have E:=E.extT d F zd zd zd;refine j6 ge Z (gl (Bi Z ?_));rw[qc _ zk];exact gl (jh (i+1,q,k,xs++[((ye (p.str 2).1).1,a)],(str2 p).2,ys++[(p.str 2).1],o&&decide ((ye (p.str 2).1).2=0)) Z ⟨⟨⟨V,.inr M,by simp[O],by rw[j];simp[show n-(i+1)=n-i-1 from by omega],by rw[bU,bU,K];rfl,by rw[U,List.all_append];simp[Bool.and_assoc]⟩,f,λx g=>(aS.1 g).elim (b x) (λe=>by rw[aF.1 e];exact⟨l,E⟩),h,hb5⟩,c⟩ zm);have h0:i=n:=by omega
 subst h0;rw[Nat.sub_self] at j;have ag:(Ds.each str2 i s).1=ys:=by rw[j];simp[Ds.each]
 have H:(Ds.each str2 i s).2=p:=by rw[j];rfl
 exact xt (qs (qs (ux (j2 (q,k,xs) Z ⟨⟨f,b,by rw[H];exact h,by dsimp only;omega,_,hb5,λ_=>by rw[ag];exact⟨K,U⟩⟩,c⟩))));rintro⟨q,k,xs⟩ w8 ⟨hS,c⟩;exact kw Z (gv (gy Z Z ⟨q,k,xs,Z,hS,c⟩))
structure yp (W w : World) (x : Ce) : Prop where
  old : ky W w x.2.op x.1.old.length x.2.oc 5 1 (gh x.1.old)
  new : ky W w x.2.np x.1.new.length x.2.nc 5 1 (gh x.1.new)
  ln : x.1.name.length < 1000000000
  lo : x.1.old.length < 1000000000
  lw : x.1.new.length < 1000000000
theorem yp.ga {W w w' : World} {x : Ce} (h : yp W w x) (hE : Ext No w w') : yp W w' x := ⟨h.old.ga hE, h.new.ga hE, h.ln, h.lo, h.lw⟩
theorem yp.gk {W w w':World} {x:Ce} (h:yp W w x) {b T:Nat} {L:List Value} (hE:Ext (One b) w w') (hb:j0 w b T L) (hT:5≠T):yp W w' x:=⟨h.old.gk hE hb hT,h.new.gk hE hb hT,h.ln,h.lo,h.lw⟩
theorem yp.at {W w : World} {x : Ce} (h : yp W w x) : SetAt w x := ⟨h.old.sl, h.new.sl, h.ln, h.lo, h.lw⟩
theorem yp.Ct {W w w':World} {x:Ce} (h:yp W w x) {p2:Option Addr} {n2 c2 T2 sz2:Nat} {xs2:List Value} (ho:Own w p2 n2 c2 T2 sz2 xs2) (hE:Ext (jb p2) w w') (hT:5≠T2):yp W w' x:=⟨h.old.Ct ho hE hT,h.new.Ct ho hE hT,h.ln,h.lo,h.lw⟩
theorem ownRd {W w w':World} {p:Option Addr} {n c T sz:Nat} {xs:List Value} (h:ky W w p n c T sz xs) {rb:Nat} {s:Ds} (hE:Ext (One rb) w w') (hr:RdS w rb s) (hT:264≠T):ky W w' p n c T sz xs:=
 ⟨h.own.ext hE λy a e=>by obtain⟨l,b⟩:=h.own.zv1 a;exact hr.ne b hT (by have e:y=rb:=e;exact e.symm),h.new⟩
theorem yp.rd {W w w':World} {x:Ce} (h:yp W w x) {rb:Nat} {s:Ds} (hE:Ext (One rb) w w') (hr:RdS w rb s):yp W w' x:=⟨ownRd h.old hE hr zd,ownRd h.new hE hr zd,h.ln,h.lo,h.lw⟩
theorem setZc : cellsOf ti91.zero = yc (⟨[], false, false, [], []⟩, ⟨none, 0, none, 0⟩) := by kernel_rfl
theorem yp.older {V W w:World} {x:Ce} (h:yp W w x) (hV:V.heap.size<=W.heap.size):yp V w x:=⟨h.old.older hV,h.new.older hV,h.ln,h.lo,h.lw⟩
theorem decset_calls (w:World) {W:World} {rb b4 b6:Nat} {s:Ds} (h:Dc W w rb b4 b6 s):
  gn prog 110 [.pointer (some ⟨b4,0,none⟩),.pointer (some ⟨b6,0,none⟩)] w λv w'=>∃a,v= .agg (yc (s.set.1,a)).toArray/\yp w w' (s.set.1,a)/\Dc W w' rb b4 b6 s.set.2/\Ext (One rb) w w':=by
 have F:=s.xu 1;have U:=h.len;refine gz func110 (have e:=Ext.refl (One rb) w;qr (gt Z λx w1 V b G=> have l:=al e.size V;have h:=h.ga G;have e:=e.gb G;have b:j0 w1 x 91 (yc (⟨[],false,false,[],[]⟩,⟨none,0,none,0⟩)):=b;u3 (gp (ke Z 7 [qP 0,qP 1,(2,false),qP 3,(4,false),(5,false),qP 6] [7] (One rb) zf λw2 u af=> have D:=h;have b:=b.ga u;have h:=h.ga u;have e:=e.gb u;have y:Ext (One rb) _ w2:=u.no;j5 ge Z Z (λw' z=>((D.p4.ext (show Ext (One rb) _ w' from z) (D.ne D.p4 zd)).cell Z)) (j5 ge Z Z (λw' z=>((D.p4.ext (show Ext (One rb) _ w' from z) (D.ne D.p4 zd)).cell Z)) (jv Z (j7 call109 Z (h.r.u8 h.len) λv3 w3 H=>⟨(by obtain⟨rfl,m,n⟩:=H;exact y.then n),?_⟩)))))));obtain⟨rfl,m,n⟩:=H;have b:=b.gk n (h.ne b zd);have e:=e.then n;have y:=y.then n;have h:=h.rd m n (s.vq 1).2.1;refine gw ge 1 Z ?_;rw[qc _ zk];refine jv Z (j7 call103 Z (h.r.rawN h.len (num (s.off 1).1)) λv4 w4 J=>⟨(by obtain⟨q,c,rfl,hq,K,o⟩:=J;exact y.then o),?_⟩);obtain⟨q,c,rfl,hq,K,o⟩:=J;have b:=b.gk o (h.ne b zd);have e:=e.then o;have y:=y.then o;have h:Dc W w4 rb b4 b6 (s.str 1).2:=h.rd K o (Ds.vq _ _).2.1;have X:=bT (s.y6 1).1 U;refine jv Z (yv2 ge Z Z hq.sl ⟨y,?_⟩);refine gw ge 1 Z (js ?_);have d:=b;refine wb Z (yo ge b Z Z Z λw5 b L ag=>?_);have h:=h.gk L d zd;have e:=e.gi L l;have b:j0 w5 x 91 (yc (⟨(s.str 1).1,false,false,[],[]⟩,⟨none,0,none,0⟩)):=b;refine ja (jq (qr (gx Z (h.p4.cell Z) ?_)));have F:=Ds.xu (s.str 1).2 1;refine gj call109 Z (h.r.u8 h.len) ?_;rintro v6 w6⟨rfl,m,A⟩;have b:=b.gk A (h.ne b zd);have e:=e.then A;have h:=h.rd m A (Ds.vq _ _).2.1;refine j6 ge Z ?_;rw[show decide ((0:Int)<((num ((s.str 1).2.off 1).1:Nat):Int))=decide (0<num ((s.str 1).2.off 1).1) from by rw[aP];omega];refine j6 ge Z ?_;have d:=b;refine qk b Z Z Z λw7 b M ah=>?_;have h:=h.gk M d zd;have e:=e.gi M l;have b:j0 w7 x 91 (yc (⟨(s.str 1).1,(decide (0<num ((s.str 1).2.off 1).1)),false,[],[]⟩,⟨none,0,none,0⟩)):=b;refine u3 (qr (gx Z (h.p6.cell Z) ?_));have B:=e;have E:=h;refine gj call102 Z (yx8 w7 h) ?_;rintro v8 w8⟨N,O,rfl,f,h2,P⟩;have b:=b.gk P (h.ne b zd);have e:=e.then P;have h:=h2;have f:=f.older B.size;have aa:=bT (Ds.y6 ((s.str 1).2.off 1).2 2).1 E.len;refine j6 ge Z ?_;have d:=b;refine qk b Z Z Z λw9 b C ai=>?_;have h:=h.gk C d zd;have f:=f.gk C d zd;have e:=e.gi C l;have b:j0 w9 x 91 (yc (⟨(s.str 1).1,(decide (0<num ((s.str 1).2.off 1).1)),false,(((s.str 1).2.off 1).2.str 2).1,[]⟩,⟨N,O,none,0⟩)):=b;refine u3 (qr (gx Z (h.p4.cell Z) ?_));have E:=h;have F:=Ds.xu (((s.str 1).2.off 1).2.str 2).2 1;refine gj call109 Z (h.r.u8 h.len) ?_;rintro aj ak⟨rfl,m,i⟩;have b:=b.gk i (h.ne b zd);have e:=e.then i;have h:=h.rd m i (Ds.vq _ _).2.1;have f:=ownRd f i E.r zd;refine j6 ge Z ?_;rw[show decide ((0:Int)<((num ((((s.str 1).2.off 1).2.str 2).2.off 1).1:Nat):Int))=decide (0<num ((((s.str 1).2.off 1).2.str 2).2.off 1).1) from by rw[aP];omega];refine j6 ge Z ?_;have d:=b;refine qk b Z Z Z λR b p ac=>?_;have h:=h.gk p d zd;have f:=f.gk p d zd;have e:=e.gi p l;have b:j0 R x 91 (yc (⟨(s.str 1).1,(decide (0<num ((s.str 1).2.off 1).1)),(decide (0<num ((((s.str 1).2.off 1).2.str 2).2.off 1).1)),(((s.str 1).2.off 1).2.str 2).1,[]⟩,⟨N,O,none,0⟩)):=b;refine u3 (qr (gx Z (h.p6.cell Z) ?_));have B:=e;have E:=h;refine gj call102 Z (yx8 R h) ?_;rintro am an⟨q2,c2,rfl,g,h2,t⟩;have b:=b.gk t (h.ne b zd);have e:=e.then t;have h:=h2;have g:=g.older B.size;have T:=bT (Ds.y6 ((((s.str 1).2.off 1).2.str 2).2.off 1).2 2).1 E.len;have f:=ownRd f t E.r zd;refine j6 ge Z ?_;have d:=b;refine qk b Z Z Z λab b j ad=>?_;have h:=h.gk j d zd;have f:=f.gk j d zd;have g:=g.gk j d zd;have e:=e.gi j l;have b:j0 ab x 91 (yc (⟨(s.str 1).1,(decide (0<num ((s.str 1).2.off 1).1)),(decide (0<num ((((s.str 1).2.off 1).2.str 2).2.off 1).1)),(((s.str 1).2.off 1).2.str 2).1,(((((s.str 1).2.off 1).2.str 2).2.off 1).2.str 2).1⟩,⟨N,O,q2,c2⟩)):=b;refine u3 (qr (jf b Z Z ?_));have d:=b;refine wl (j9 (l':=yc (⟨(s.str 1).1,(decide (0<num ((s.str 1).2.off 1).1)),(decide (0<num ((((s.str 1).2.off 1).2.str 2).2.off 1).1)),(((s.str 1).2.off 1).2.str 2).1,(((((s.str 1).2.off 1).2.str 2).2.off 1).2.str 2).1⟩,⟨N,O,q2,c2⟩)) ge b Z Z Z Z OneC.h λap b k ae=>?_);have h:=h.gk k d zd;have f:=f.gk k d zd;have g:=g.gk k d zd;have e:=e.gi k l;refine u3 (gv (u7 [_] ⟨⟨x,0,Z,ud ge Z Z b.ql Z⟩,trivial⟩ ?_));exact⟨⟨N,O,q2,c2⟩,Z,⟨f,g,X,aa,T⟩,h,e⟩
structure SevS (w W u : World) (rb b4 b6 : Nat) (s : Ds) (n : Nat) (q : Option Addr) (k : Nat) (xs : List Ce) : Prop where
  own : ky w u q xs.length k 91 5 (xs.flatMap yc)
  all : ∀ x ∈ xs, yp w u x
  i : Dc W u rb b4 b6 (Ds.each Ds.set n s).2
  few : xs.length <= n
  eq : (Ds.each Ds.set n s).2.bad = false -> xs.map Prod.fst = (Ds.each Ds.set n s).1
theorem set_put (x : Ce) : ym (Df 1 (yc (⟨[], false, false, [], []⟩, ⟨none, 0, none, 0⟩))) [(0 * (0 + 5), 0 + 5, .agg (yc x).toArray)] = yc x := rfl
theorem sevset_calls (w:World) {W:World} {rb b4 b6:Nat} {s:Ds} (h:Dc W w rb b4 b6 s) (n:Nat) (hn:n<65536) (hs:n=0\/s.bad=false):
  gn prog 108 [.pointer (some ⟨rb,0,none⟩),.int .i64 (n:Int),.func (.func 110) #[] #[.pointer (some ⟨b4,0,none⟩),.pointer (some ⟨b6,0,none⟩)]] w λv w'=>∃q k xs,v= .slice q xs.length k/\SevS w W w' rb b4 b6 s n q k xs/\Ext (One rb) w w':=by
 refine gz func108 (have c:=Ext.refl (One rb) w;kw Z (ju (α:=Option Addr×Nat×List Ce) [] Z (λz=>[(6,.slice z.1 z.2.2.length z.2.1)]) (λz u=>(SevS w W u rb b4 b6 s n z.1 z.2.1 z.2.2)/\Ext (One rb) w u) ?_ ?_));refine gp (j1 (kg Z (j8 (jl (α:=Nat×Option Addr×Nat×List Ce×Ds) [0,2,8] Z (λz=>[(6,.slice z.2.1 z.2.2.2.1.length z.2.2.1),(9,.int .i64 (z.1:Int))]) (λz u=>((z.1<=n/\(z.1=n\/z.2.2.2.2.bad=false)/\z.2.2.2.1.length=z.1/\Ds.each Ds.set n s=(z.2.2.2.1.map Prod.fst++(Ds.each Ds.set (n-z.1) z.2.2.2.2).1,(Ds.each Ds.set (n-z.1) z.2.2.2.2).2))/\ky w u z.2.1 z.2.2.2.1.length z.2.2.1 91 5 (z.2.2.2.1.flatMap yc)/\(∀x∈z.2.2.2.1,yp w u x)/\Dc W u rb b4 b6 z.2.2.2.2)/\Ext (One rb) w u) (λz u=>n-z.1) (0,none,0,[],s) Z ⟨⟨⟨aJ _,hs.imp Eq.symm id,Z,Z⟩,ky.nil _ _ _ _,λ_ h=>(by cases h),h⟩,c⟩ ?_))));rintro⟨i,q,k,xs,g⟩ w1 ⟨⟨⟨hi,J,K,f⟩,d,b,h⟩,c⟩;dsimp only at hi J K f d b h;refine vo Z (jy Z (λL=>?_) (λL=>?_));have P:i<n:=by omega
 have Q:g.bad=false:=J.elim (λe=>by omega) id;rw[show n-i=(n-i-1)+1 from by omega,Ds.each_step Q] at f;refine Bn (qj Z ?_);have R:=c;have M:=h;refine gj call110 Z (decset_calls w1 h) ?_;rintro v2 w2⟨a,rfl,j,h2,G⟩;have c:=c.then G;have d:=ownRd d G M.r zd;have b:=λx l=>(b x l).rd G M.r;have h:=h2;have j:=j.older R.size;have T:=d;refine gt Z λb7 w3 N B o=>?_;have U:=al c.size N;have h:=h.ga o;have d:=d.ga o;have b:=λx l=>(b x l).ga o;have j:=j.ga o;have c:=c.gb o;have V:∀y,jb q y->y≠b7:=λy X=>j3 (T.own.lt X) N;have p:=B;refine wl (j9 (l':=yc (g.set.1,a)) ge B Z Z Z Z OneC.h λw4 B t ac=>?_);have h:=h.gk t p zd;have d:=ky.mk (d.own.ext t λy X e=>V y X e) d.new;have b:=λx l=>(b x l).gk t p zd;have j:=j.gk t p zd;have c:=c.gi t U;refine u3 (gp (qj Z (gj call111 Z (h.r.err) ?_)));rintro v5 w5⟨rfl,rfl⟩;refine kg Z (jy Z (λL=>?_) (λL=>?_));have F:g.set.2.bad=true:=by have:=mt ds_err.2 L;simpa using this
 have C:(Ds.each Ds.set n s).2=g.set.2:=by rw[f];dsimp only;rw[each_bad F]
 exact xt (qs (f_blockE' Z (qs (qs (ux (j2 (q,k,xs) Z ⟨⟨d,b,by rw[C];exact h,by dsimp only;omega,λhb=>by rw[C,F] at hb;cases hb⟩,c⟩))))));have H:g.set.2.bad=false:=ds_err.1 (aT.1 L);refine xg (yy Z (jf B Z Z (wl (qw ge Z 5 Z setZc Z zd zd ⟨⟨Z,by decide⟩,trivial⟩ (l':=yc (g.set.1,a)) (set_put _) λI w6 ab O A ad=> have h:=h.ga A;have d:=d.ga A;have b:=λx l=>(b x l).ga A;have j:=j.ga A;have c:=c.gb A;have D:=d.own;wl (x3 ge Z 5 72 Z Z Z zd d (Src.slice (m:=1) ⟨Z,.inr ⟨I,0,Z,O.ql⟩⟩ OneC.h) zn zt (n':=(xs++[(g.set.1,a)]).length) (ys:=(xs++[(g.set.1,a)]).flatMap yc) zi (by rw[aY,bL]) c λq k w7 d E c=>?_)))));dsimp only at d E;have h:=h.own D E zd λx=>D.lt;have b:=λx l=>(b x l).Ct D E zd;have j:=j.Ct D E zd;refine j6 ge Z (gl (Bi Z ?_));rw[qc _ zk];exact gl (jh (i+1,q,k,xs++[(g.set.1,a)],g.set.2) Z ⟨⟨⟨P,.inr H,by simp[K],by rw[f];simp[show n-(i+1)=n-i-1 from by omega]⟩,d,λx l=>(aS.1 l).elim (b x) (λe=>by rw[aF.1 e];exact j),h⟩,c⟩ zm);have h0:i=n:=by omega
 subst h0;rw[Nat.sub_self] at f;have aa:(Ds.each Ds.set i s).1=xs.map Prod.fst:=by rw[f];simp[Ds.each]
 have C:(Ds.each Ds.set i s).2=g:=by rw[f];rfl
 exact xt (qs (qs (ux (j2 (q,k,xs) Z ⟨⟨d,b,by rw[C];exact h,by dsimp only;omega,λ_=>aa.symm⟩,c⟩))));rintro⟨q,k,xs⟩ w8 ⟨hS,c⟩;exact kw Z (gv (gy Z Z ⟨q,k,xs,Z,hS,c⟩))
structure vf (W w : World) (B : uz) : Prop where
  os : ky W w B.op B.os.length B.oc 37 73 (B.os.flatMap yu)
  ss : ky W w B.sp B.ss.length B.sc 91 5 (B.ss.flatMap yc)
  o : ∀ x ∈ B.os, D7 x.1 /\ um W w x.1 x.2
  s : ∀ x ∈ B.ss, yp W w x
  lo : B.os.length < 1000000
  ls : B.ss.length < 1000000
theorem vf.at {W w:World} {B:uz} (h:vf W w B):zv6 w B:=⟨h.os.sl,h.ss.sl,λx a=>⟨(h.o x a).1.1,(h.o x a).1.2,(h.o x a).2.l⟩,λx a=>(h.s x a).at,h.lo,h.ls⟩
theorem vf.ga {W w w':World} {B:uz} (h:vf W w B) (hE:Ext No w w'):vf W w' B:=⟨h.os.ga hE,h.ss.ga hE,λx a=>⟨(h.o x a).1,(h.o x a).2.ga hE⟩,λx a=>(h.s x a).ga hE,h.lo,h.ls⟩
abbrev B6 : uz := ⟨none, 0, [], none, 0, []⟩
theorem vf.no (W w : World) : vf W w B6 := ⟨ky.nil _ _ _ _, ky.nil _ _ _ _, λ_ h => (by cases h), λ_ h => (by cases h), by decide, by decide⟩
theorem off_okS (s : Ds) (n : Nat) : num (s.off n).1 = 0 \/ (s.off n).2.bad = false := by
  unfold Ds.off; split
  · exact .inl Z
  · exact .inr Z
theorem off_badS {s:Ds} {n:Nat} (h:(s.off n).2.bad=false):s.bad=false:=by
 unfold Ds.off at h;split at h;cases h;rename_i a;cases hb:s.bad;rfl;exact absurd (.inl hb) a
theorem each_good {α:Type} {f:Ds->α×Ds} {n:Nat} {s:Ds} (h:(Ds.each f n s).2.bad=false):s.bad=false:=by
 cases hb:s.bad;rfl;rw[each_bad hb,hb] at h;cases h
theorem objNew_rd {W w w':World} {o:jm} {a:x9} (h:um W w o a) {rb:Nat} {s:Ds} (hE:Ext (One rb) w w') (hr:RdS w rb s):um W w' o a:=
 ⟨(ownRd ⟨h.ol,h.nl⟩ hE hr zd).own,(ownRd ⟨h.op,h.np⟩ hE hr zd).own,(ownRd ⟨h.or,h.nr⟩ hE hr zd).own,h.nl,h.np,h.nr⟩
theorem vf.extB {W w w':World} {B:uz} (h:vf W w B) {b:Nat} {L:List Value} (hE:Ext (One b) w w') (hb:j0 w b 25 L):vf W w' B:=
 ⟨h.os.gk hE hb zd,h.ss.gk hE hb zd,λx a=>⟨(h.o x a).1,(h.o x a).2.gk hE hb zd zd zd⟩,λx a=>(h.s x a).gk hE hb zd,h.lo,h.ls⟩
theorem sdecode_calls (w:World) {p:Option Addr} {c:Nat} {l:Bytes} (hs:xy w p l) (hl:l.length<1000000000):
  gn prog 36 [.slice p l.length c] w λv w'=>∃B:uz,v= .tuple #[B.v,.int .i64 (xd l).2]/\B.d=(xd l).1/\vf w w' B/\Ext No w w':=by
 have ba:=hs;refine gz func36 ?_;have m:=Ext.refl No w;refine qr (gt Z λb2 w1 b1 a bb=>?_);have ax:=al m.size b1;have hs:=hs.ga bb;have m:=m.gb bb;have a:j0 w1 b2 25 (B6.c):=a;refine kg Z (qj Z ?_);have b3:=m;refine gj call101 Z (zv3 w1 hs hl) ?_;rintro v2 w2⟨rb,rfl,ay,b9,bc⟩;have a:=a.ga bc;have m:=m.gb bc;have ay:=al b3.size ay;have W:RdS w2 rb ⟨l,false⟩:=b9;refine gt Z λb4 w3 bd s az=>?_;have a0:=j3 a.lt bd;have ca:=al m.size bd;have a:=a.ga az;have W:=W.ga az;have m:=m.gb az;have bf:=s;refine qk s Z Z Z λw4 s a1 c2=>?_;have a:=a.gk a1 a0;have W:=W.gk a1 bf zd zd;have m:=m.gi a1 ca;have s:j0 w4 b4 194 ([.pointer (some ⟨rb,0,none⟩)]):=s;refine u3 (qr (gt Z λb5 w5 a2 g ai=>?_));have aa:=j3 a.lt a2;have a3:=j3 s.lt a2;have bg:=al m.size a2;have a:=a.ga ai;have s:=s.ga ai;have W:=W.ga ai;have m:=m.gb ai;have bh:=g;refine qk g Z Z Z λw6 g aj c3=>?_;have a:=a.gk aj aa;have s:=s.gk aj a3;have W:=W.gk aj bh zd zd;have m:=m.gi aj bg;have g:j0 w6 b5 4 ([.bool true]):=g;refine u3 (qj Z (gt Z λb6 w7 ak X ab=>?_));have a4:=j3 a.lt ak;have a5:=j3 s.lt ak;have a6:=j3 g.lt ak;have cb:=al m.size ak;have a:=a.ga ab;have s:=s.ga ab;have g:=g.ga ab;have W:=W.ga ab;have m:=m.gb ab;have bi:=X;refine qk X Z Z Z λw8 X ac c4=>?_;have a:=a.gk ac a4;have s:=s.gk ac a5;have g:=g.gk ac a6;have W:=W.gk ac bi zd zd;have m:=m.gi ac cb;have X:j0 w8 b6 135 ([longV b4]):=X;have h:Dc w w8 rb b4 b6 ⟨l,false⟩:=⟨W,s,X,ay,hl⟩
 obtain⟨s0,an⟩:∃s0:Ds,s0=⟨l,false⟩:=⟨_,Z⟩
 rw[<-an] at h;refine u3 (qr (gt Z λb7 w9 a7 j am=> have ad:=j3 a.lt a7;have S:=j3 g.lt a7;have bj:=al m.size a7;have a:=a.ga am;have g:=g.ga am;have h:=h.ga am;have m:=m.gb am;have j:j0 w9 b7 25 (B6.c):=j;u3 (gp (ke Z 7 [qP 0,qP 1,qP 4,(2,false),qP 3,(5,false),qP 6] [7] ((λx=>x=rb\/x=b5)) zf λcc H ct=> have bk:=g;have T:=h;have a:=a.ga H;have g:=g.ga H;have j:=j.ga H;have h:=h.ga H;have m:=m.gb H;have hC:Ext ((λx=>x=rb\/x=b5)) _ cc:=H.no;have c5:=s0.xu 2;j5 ge Z Z (λw' U=>((T.p4.ext (show Ext (λx=>x=rb\/x=b5) _ w' from U) λe=>e.elim (T.ne T.p4 zd) (T.p4.ne bk zd)).cell Z)) (j5 ge Z Z (λw' U=>((T.p4.ext (show Ext (λx=>x=rb\/x=b5) _ w' from U) λe=>e.elim (T.ne T.p4 zd) (T.p4.ne bk zd)).cell Z)) (gw ge 1 Z (jv Z (j7 call104 Z (h.r.u16 h.len) λc6 cd ap=>⟨(by obtain⟨rfl,ae,A⟩:=ap;exact hC.then (A.mono λ_ _ e=> .inl e)),?_⟩))))))));obtain⟨rfl,ae,A⟩:=ap;have a:=a.gk A (h.ne a zd);have g:=g.gk A (h.ne g zd);have j:=j.gk A (h.ne j zd);have m:=rdNew m A h.nr;have hC:=hC.then (A.mono λ_ _ e=> .inl e);have h:=h.rd ae A (s0.vq 2).2.1;refine gw ge 1 Z ?_;rw[qc _ zk];have af:=m;refine jv Z (j7 call105 Z (sevobj_calls cd h g (num (s0.off 2).1) zk (off_okS _ 2)) λc7 ce aq=>⟨(by obtain⟨q,k,E,rfl,hS,N⟩:=aq;exact hC.then N),?_⟩);obtain⟨q,k,E,rfl,hS,N⟩:=aq;have a:=a.ext N λe=>e.elim (h.ne a zd) aa;have j:=j.ext N λe=>e.elim (h.ne j zd) S.symm;have m:=m.newer N λy e=>e.elim (λe=>e▸h.nr) λe=>e▸bg;obtain⟨o,g,bm⟩:=hS.b5;have cu:=hS.few;obtain⟨Y,bn⟩:∃Y,Y=Ds.each str2 (num (s0.off 2).1) (s0.off 2).2:=⟨_,Z⟩
 have h:=hS.i;rw[<-bn] at h bm;have L:=hS.own.older af.size;have n:∀x∈E,D7 x.1/\um w ce x.1 x.2:=λx R=>⟨(hS.all x R).1,(hS.all x R).2.older af.size⟩
 refine gw ge 1 Z (js (have J:=j;wb Z (yo ge j Z Z Z λcf j K cv=> have a:=a.gk K ad;have g:=g.gk K S;have h:=h.gk K J zd;have L:=L.gk K J zd;have n:=λx R=>And.intro (n x R).1 ((n x R).2.gk K J zd zd zd);have m:=m.gi K bj;have j:j0 cf b7 25 ([.slice q E.length k,.slice none 0 0]):=j;ja (jq (gp (ke Z 7 [qP 0,qP 1,qP 4,(2,false),qP 3,(5,false),qP 6] [7] (One rb) zf λcg C cw=> have T:=h;have a:=a.ga C;have g:=g.ga C;have j:=j.ga C;have h:=h.ga C;have L:=L.ga C;have n:=λx R=>And.intro (n x R).1 ((n x R).2.ga C);have m:=m.gb C;have hC:Ext (One rb) _ cg:=C.no;have cx:=Y.2.xu 1;j5 ge Z Z (λw' U=>((T.p4.ext (show Ext (One rb) _ w' from U) (T.ne T.p4 zd)).cell Z)) (j5 ge Z Z (λw' U=>((T.p4.ext (show Ext (One rb) _ w' from U) (T.ne T.p4 zd)).cell Z)) (gw ge 1 Z (have h0:=h;jv Z (j7 call109 Z (h.r.u8 h.len) λc8 ch ar=>⟨(by obtain⟨rfl,ae,t⟩:=ar;exact hC.then t),?_⟩))))))))));obtain⟨rfl,ae,t⟩:=ar;have a:=a.gk t (h.ne a zd);have g:=g.gk t (h.ne g zd);have j:=j.gk t (h.ne j zd);have m:=rdNew m t h.nr;have hC:=hC.then t;have L:=ownRd L t h0.r zd;have n:=λx R=>And.intro (n x R).1 (objNew_rd (n x R).2 t h0.r);have h:=h.rd ae t (Y.2.vq 1).2.1;refine gw ge 1 Z ?_;rw[qc _ zk];have af:=m;have h0:=h;refine jv Z (j7 call108 Z (sevset_calls ch h (num (Y.2.off 1).1) zk (off_okS _ 1)) λc9 ci au=>⟨(by obtain⟨M,F,G,rfl,hT,D⟩:=au;exact hC.then D),?_⟩);obtain⟨M,F,G,rfl,hT,D⟩:=au;have a:=a.gk D (h.ne a zd);have g:=g.gk D (h.ne g zd);have j:=j.gk D (h.ne j zd);have m:=rdNew m D h.nr;have L:=ownRd L D h0.r zd;have n:=λx R=>And.intro (n x R).1 (objNew_rd (n x R).2 D h0.r);obtain⟨s2,a8⟩:∃s2,s2=Ds.each Ds.set (num (Y.2.off 1).1) (Y.2.off 1).2:=⟨_,Z⟩
 have h:=hT.i;have bp:=hT.eq;have cj:=hT.few;rw[<-a8] at h bp;have I:vf w ci (uz.mk q k E M F G):=⟨L,hT.own.older af.size,n,λx R=>(hT.all x R).older af.size,by show E.length<_;omega,by show G.length<_;omega⟩
 have ag:rawB l=((Y.1,s2.1),s2.2):=by rw[a8,bn,an];rfl
 refine gw ge 1 Z (js ?_);have J:=j;refine wb Z (yo ge j Z Z Z λck j O cy=>?_);have a:=a.gk O ad;have g:=g.gk O S;have h:=h.gk O J zd;have I:=I.extB O J;have m:=m.gi O bj;have j:j0 ck b7 25 ((uz.mk q k E M F G).c):=j;refine ja (jq (gp (qr (gx Z (h.p4.cell Z) (gj call111 Z (h.r.err) ?_)))));rintro da cm⟨rfl,rfl⟩;refine kg Z (jy Z (λhc=>?_) (λhc=>?_));have br:s2.2.bad=true:=by have:=mt ds_err.2 hc;simpa using this
 have ah:xd l=(xw1,7):=by rw[xd,ag];exact aL br
 exact qr (u1 Z trivial (l':=B6.c) Z (wl (j9 (l':=B6.c) ge a Z Z Z Z OneC.h λdb a bs cz=> have m:=m.gi bs ax;kg Z (gv (gu (u7 [_,_] ⟨⟨b2,0,Z,ud ge Z Z a.ql Z⟩,Z,trivial⟩ ⟨B6,by rw[ah];rfl,by rw[ah];rfl,vf.no _ _,m⟩))))));have V:s2.2.bad=false:=ds_err.1 (aT.1 hc);have cn:Y.2.bad=false:=off_badS (each_good (f:=Ds.set) (by rw[<-a8];exact V));obtain⟨cp,bt⟩:=bm cn;have cq:=bp V;have cr:(uz.mk q k E M F G).d=batOf (rawB l).1:=by rw[ag];show Ap.mk (E.map Prod.fst) (G.map Prod.fst)=_;rw[cp,cq];rfl
 have ah:xd l=if(∀y∈Y.1,(ye y).2=0)/\Bx (uz.mk q k E M F G).d/\uo (uz.mk q k E M F G).d=l then((uz.mk q k E M F G).d,0) else(xw1,2):=by rw[xd,cr,ag];exact aI (by rw[V];decide)
 refine xg (qr (jf j Z Z (gj call30 Z (zq3 cm (b:=(uz.mk q k E M F G)) I.at) ?_)));rintro dc dd⟨q3,k3,rfl,bv,P⟩;have a:=a.ga P;have g:=g.ga P;have j:=j.ga P;have I:=I.ga P;have m:=m.gb P;refine kg Z (gp (ju (α:=Bool) [2,7] Z (λz=>[(48,.bool z)]) (λz u=>(z=decide (¬((∀y∈Y.1,(ye y).2=0)/\Bx (uz.mk q k E M F G).d/\uo (uz.mk q k E M F G).d=l))/\vf w u (uz.mk q k E M F G))/\j0 u b2 25 (B6.c)/\j0 u b7 25 ((uz.mk q k E M F G).c)/\Ext No w u) ?_ ?_));refine j1 (gx Z (g.cell Z) (j6 ge Z (ut 38 Z (λhg=>?_) (λhg=>?_))));have a9:¬∀y∈Y.1,(ye y).2=0:=λk=>by rw[bt] at hg;simp at hg;obtain⟨y,hy,cs⟩:=hg;exact cs (k y hy)
 exact j4 ge 10 Z (gl (j2 (true) Z ⟨⟨by symm;rw[bD];exact λk=>a9 k.1,I⟩,a,j,m⟩));have bw:∀y∈Y.1,(ye y).2=0:=by rw[bt] at hg;simpa using hg
 refine j4 ge 4 Z (jw 42 Z (λhg=>?_) (λhg=>?_));have a9:¬Bx (uz.mk q k E M F G).d:=λk=>hg (aL k);exact j4 ge 6 Z (gl (j2 (true) Z ⟨⟨by symm;rw[bD];exact λk=>a9 k.2.1,I⟩,a,j,m⟩));have av:Bx (uz.mk q k E M F G).d:=(xq7 zd).1 (aT.1 hg);have bx:Ar (uz.mk q k E M F G).d=uo (uz.mk q k E M F G).d:=aL av;rw[bx] at bv;exact j4 ge 1 Z (wl (yv2 ge Z (by rw[bx]) bv.own.sl (j4 ge 1 Z (wl (yv2 ge Z Z (ba.ga m) (j4 ge 2 Z (gl (j2 (_) Z ⟨⟨by rw[aP];exact⟨λk F=>k (by rw[F.2.2]),λk F=>k ⟨bw,av,Bo F⟩⟩,I⟩,a,j,m⟩))))))));rintro z de ⟨⟨rfl,I⟩,a,j,m⟩;refine jy Z (λhc=>?_) (λhc=>?_);have Q:xd l=(xw1,2):=by rw[ah];exact aI hc
 exact qr (u1 Z trivial (l':=B6.c) Z (wl (j9 (l':=B6.c) ge a Z Z Z Z OneC.h λdf a bz c0=> have m:=m.gi bz ax;kg Z (gv (gu (u7 [_,_] ⟨⟨b2,0,Z,ud ge Z Z a.ql Z⟩,Z,trivial⟩ ⟨B6,by rw[Q];rfl,by rw[Q];rfl,vf.no _ _,m⟩))))));have Q:xd l=((uz.mk q k E M F G).d,0):=by rw[ah];exact aL (aT.1 hc)
 exact xg (qr (jf j Z Z (have b0:=a;wl (j9 (l':=(uz.mk q k E M F G).c) ge a Z Z Z Z OneC.h λdg a aw c1=> have I:=I.extB aw b0;have m:=m.gi aw ax;kg Z (gv (u7 [_,_] ⟨⟨b2,0,Z,ud ge Z Z a.ql Z⟩,Z,trivial⟩ ⟨(uz.mk q k E M F G),by rw[Q];rfl,by rw[Q],I,m⟩))))))
theorem cloneL_nil (w:World) {c:Nat}:
  gn prog 131 [.slice none 0 c] w λv w'=>∃q k,v= .slice q 0 k/\Own w' q 0 k 148 33 []/\(∀y,jb q y->w.heap.size<=y)/\Ext No w w':=by
 exact gz func131 (have a:=Ext.refl No w;vo Z (kw Z (Cd Z (kw Z (gv (gu (gy Z Z ⟨none,0,Z,Own.nil _ _ _,λy b=>(by cases b),a⟩)))))))
theorem cloneL_some (w:World) {a:Addr} {c:Nat} {l:List jn} (h:Sl w (some a) l.length 33 (l.flatMap jn.cells)) (hl:l.length<1000000000):
  gn prog 131 [.slice (some a) l.length c] w λv w'=>∃q k,v= .slice q l.length k/\Own w' q l.length k 148 33 (l.flatMap jn.cells)/\(∀y,jb q y->w.heap.size<=y)/\Ext No w w':=by
 refine gz func131 ?_;have b:=Ext.refl No w;refine vo Z (kw Z (uc Z (xg (qr (wl (qw ge Z 33 Z leafZ_c (jn.len Z) zd zd trivial (l':=[]) Z λA B r f d s=>?_))))));have b:=b.gb d;refine j6 ge Z (wl (vt ge Z 33 48 Z Z Z zd (Own.blk (n:=0) (c:=0) f 33 Z (aB _) zd) (Src.slice (h.ga b) OneC.h) zn zt λp t u g i j=>?_));have b:=b.trans i λy C m=>by have:=own1 m;omega
 have o:∀x,jb p x->w.heap.size<=x:=λx z=>(j x z).elim (λm=>by have:=own1 m;omega) λh=>by have:=d.size;omega
 have e:Own u p (0+l.length) t 148 33 (l.flatMap jn.cells):=g;rw[aV] at e;rw[aV];exact kg Z (gv (gy Z Z ⟨_,_,Z,e,o,b⟩))
theorem cloneL_calls (w:World) {p:Option Addr} {c:Nat} {l:List jn} (h:Sl w p l.length 33 (l.flatMap jn.cells)) (hl:l.length<1000000000):
  gn prog 131 [.slice p l.length c] w λv w'=>∃q k,v= .slice q l.length k/\Own w' q l.length k 148 33 (l.flatMap jn.cells)/\(∀y,jb q y->w.heap.size<=y)/\Ext No w w':=by
 cases p with
 |none=>
  have d:l=[]:=by rcases h.2 with e|⟨b,f,g,_⟩;exact aU e;cases g
  subst d;exact cloneL_nil w
 |some a=>exact cloneL_some w h hl
theorem cloneI_nil (w:World) {c:Nat}:
  gn prog 132 [.slice none 0 c] w λv w'=>∃q k,v= .slice q 0 k/\Own w' q 0 k 30 32 []/\(∀y,jb q y->w.heap.size<=y)/\Ext No w w':=by
 exact gz func132 (have a:=Ext.refl No w;vo Z (kw Z (Cd Z (kw Z (gv (gu (gy Z Z ⟨none,0,Z,Own.nil _ _ _,λy b=>(by cases b),a⟩)))))))
theorem cloneI_some (w:World) {a:Addr} {c:Nat} {l:List B7} (h:Sl w (some a) l.length 32 (l.flatMap gh)) (hl:l.length<1000000000):
  gn prog 132 [.slice (some a) l.length c] w λv w'=>∃q k,v= .slice q l.length k/\Own w' q l.length k 30 32 (l.flatMap gh)/\(∀y,jb q y->w.heap.size<=y)/\Ext No w w':=by
 refine gz func132 ?_;have b:=Ext.refl No w;refine vo Z (kw Z (uc Z (xg (qr (wl (qw ge Z 32 Z Dd.symm zj zd zd trivial (l':=[]) Z λA B r f d s=>?_))))));have b:=b.gb d;refine j6 ge Z (wl (vt ge Z 32 32 Z Z Z zd (Own.blk (n:=0) (c:=0) f 32 Z (aB _) zd) (Src.slice (h.ga b) OneC.h) zn zt λp t u g i j=>?_));have b:=b.trans i λy C m=>by have:=own1 m;omega
 have o:∀x,jb p x->w.heap.size<=x:=λx z=>(j x z).elim (λm=>by have:=own1 m;omega) λh=>by have:=d.size;omega
 have e:Own u p (0+l.length) t 30 32 (l.flatMap gh):=g;rw[aV] at e;rw[aV];exact kg Z (gv (gy Z Z ⟨_,_,Z,e,o,b⟩))
theorem cloneI_calls (w:World) {p:Option Addr} {c:Nat} {l:List B7} (h:Sl w p l.length 32 (l.flatMap gh)) (hl:l.length<1000000000):
  gn prog 132 [.slice p l.length c] w λv w'=>∃q k,v= .slice q l.length k/\Own w' q l.length k 30 32 (l.flatMap gh)/\(∀y,jb q y->w.heap.size<=y)/\Ext No w w':=by
 cases p with
 |none=>
  have d:l=[]:=by rcases h.2 with e|⟨b,f,g,_⟩;exact aU e;cases g
  subst d;exact cloneI_nil w
 |some a=>exact cloneI_some w h hl
theorem cloneC_nil (w:World) {c:Nat}:
  gn prog 133 [.slice none 0 c] w λv w'=>∃q k,v= .slice q 0 k/\Own w' q 0 k 150 3 []/\(∀y,jb q y->w.heap.size<=y)/\Ext No w w':=by
 exact gz func133 (have a:=Ext.refl No w;vo Z (kw Z (Cd Z (kw Z (gv (gu (gy Z Z ⟨none,0,Z,Own.nil _ _ _,λy b=>(by cases b),a⟩)))))))
theorem cloneC_some (w:World) {a:Addr} {c:Nat} {l:List vb} (h:Sl w (some a) l.length 3 (l.flatMap vb.cells)) (hl:l.length<1000000000):
  gn prog 133 [.slice (some a) l.length c] w λv w'=>∃q k,v= .slice q l.length k/\Own w' q l.length k 150 3 (l.flatMap vb.cells)/\(∀y,jb q y->w.heap.size<=y)/\Ext No w w':=by
 refine gz func133 ?_;have b:=Ext.refl No w;refine vo Z (kw Z (uc Z (xg (qr (wl (qw ge Z 3 Z chgZ_c Z zd zd trivial (l':=[]) Z λA B r f d s=>?_))))));have b:=b.gb d;refine j6 ge Z (wl (vt ge Z 3 40 Z Z Z zd (Own.blk (n:=0) (c:=0) f 3 Z (aB _) zd) (Src.slice (h.ga b) OneC.h) zn zt λp t u g i j=>?_));have b:=b.trans i λy C m=>by have:=own1 m;omega
 have o:∀x,jb p x->w.heap.size<=x:=λx z=>(j x z).elim (λm=>by have:=own1 m;omega) λh=>by have:=d.size;omega
 have e:Own u p (0+l.length) t 150 3 (l.flatMap vb.cells):=g;rw[aV] at e;rw[aV];exact kg Z (gv (gy Z Z ⟨_,_,Z,e,o,b⟩))
theorem cloneC_calls (w:World) {p:Option Addr} {c:Nat} {l:List vb} (h:Sl w p l.length 3 (l.flatMap vb.cells)) (hl:l.length<1000000000):
  gn prog 133 [.slice p l.length c] w λv w'=>∃q k,v= .slice q l.length k/\Own w' q l.length k 150 3 (l.flatMap vb.cells)/\(∀y,jb q y->w.heap.size<=y)/\Ext No w w':=by
 cases p with
 |none=>
  have d:l=[]:=by rcases h.2 with e|⟨b,f,g,_⟩;exact aU e;cases g
  subst d;exact cloneC_nil w
 |some a=>exact cloneC_some w h hl
theorem sown_calls (w:World) {x:jm} {a:x9} (hx:ub x) (hxl:Ch w x a) (hs:Cw x):
  gn prog 52 [.agg (km x a).toArray] w λv w'=>∃a',v= .agg (km x a').toArray/\um w w' x a'/\Ext No w w':=by
 refine gz func52 (have e:=Ext.refl No w;qr (gt Z λF X S b T=> have B:=al e.size S;have e:=e.gb T;have b:j0 X F 37 (km x a):=b;gt Z λY w2 H c J=> have f:=j3 b.lt H;have U:=al e.size H;have b:=b.ga J;have e:=e.gb J;u3 (gp (ke Z 11 [qP 0,qP 1,qP 3,qP 4,qP 6,qP 7,qP 8,(2,false),qP 10,(5,false),(9,false)] [11,12,13,14,15,16] (No) zf λV u I=> have C:=b;have b:=b.ga u;have c:=c.ga u;have e:=e.gb u;have D:Ext (No) _ V:=u.no;gw ge 1 Z (j5 ge Z Z (λw' n=>((C.ga n).ql.obj hx).leaves) (gw ge 1 Z (j5 ge Z Z (λw' n=>((C.ga n).ql.obj hx).parents) (gw ge 2 Z (j5 ge Z Z (λw' n=>((C.ga n).ql.obj hx).rows) (have o:=e.size;jv Z (j7 call131 Z (cloneL_calls V (hxl.leaves.ga e) hs.leaves) λv4 w4 K=>⟨(by obtain⟨z,A,rfl,j,L,l⟩:=K;exact D.gb l),?_⟩)))))))))));obtain⟨z,A,rfl,j,L,l⟩:=K;have b:=b.ga l;have c:=c.ga l;have e:=e.gb l;have D:=D.gb l;have nL:∀y,jb z y->w.heap.size<=y:=λy M=>al o (L y M);refine gw ge 1 Z (have o:=e.size;jv Z (j7 call132 Z (cloneI_calls w4 (hxl.parents.ga e) hs.parents) λv5 w5 N=>⟨(by obtain⟨qP,E,rfl,m,O,g⟩:=N;exact D.gb g),?_⟩));obtain⟨qP,E,rfl,m,O,g⟩:=N;have b:=b.ga g;have c:=c.ga g;have j:=j.ext g λ_ _=>id;have e:=e.gb g;have D:=D.gb g;have nP:∀y,jb qP y->w.heap.size<=y:=λy M=>al o (O y M);have o:=e.size;refine jv Z (j7 call133 Z (cloneC_calls w5 (hxl.rows.ga e) hs.rows) λv6 w6 P=>⟨(by obtain⟨G,Q,rfl,t,R,i⟩:=P;exact D.gb i),?_⟩);obtain⟨G,Q,rfl,t,R,i⟩:=P;have b:=b.ga i;have c:=c.ga i;have j:=j.ext i λ_ _=>id;have m:=m.ext i λ_ _=>id;have e:=e.gb i;have nR:∀y,jb G y->w.heap.size<=y:=λy M=>al o (R y M);refine js (have d:=b;wb Z (yo ge b Z Z Z λw7 b p aa=> have c:=c.gk p f.symm;have j:=j.qa p d zd;have m:=m.qa p d zd;have t:=t.qa p d zd;have e:=e.gi p B;have b:j0 w7 F 37 (km x ⟨z,A,a.pp,a.pc,a.rp,a.rc⟩):=b;wb Z (zz3 ge Z Z Z (have d:=b;wb Z (un ge b Z Z (by rw[gr hx];decide) λw8 b q ab=>?_)))));have c:=c.gk q f.symm;have j:=j.qa q d zd;have m:=m.qa q d zd;have t:=t.qa q d zd;have e:=e.gi q B;have b:j0 w8 F 37 (km x ⟨z,A,qP,E,a.rp,a.rc⟩):=(by have h:j0 _ F _ ((km x ⟨z,A,a.pp,a.pc,a.rp,a.rc⟩).set (68+0) (.slice qP x.parents.length E)):=b;rw[objC_parents hx] at h;exact h)
 refine wb Z (zz3 ge Z Z Z (wb Z (zz3 ge Z Z Z (have d:=b;wb Z (un ge b Z Z (by rw[gr hx];decide) λw9 b r ac=>?_)))));have c:=c.gk r f.symm;have j:=j.qa r d zd;have m:=m.qa r d zd;have t:=t.qa r d zd;have e:=e.gi r B;have b:j0 w9 F 37 (km x ⟨z,A,qP,E,G,Q⟩):=(by have h:j0 _ F _ ((km x ⟨z,A,qP,E,a.rp,a.rc⟩).set (68+1) (.slice G x.rows.length Q)):=b;rw[objC_rows hx] at h;exact h)
 exact ja (jq (qr (jf b Z (gr hx) (have s:=c;wl (j9 (l':=km x ⟨z,A,qP,E,G,Q⟩) ge c Z Z (gr hx) (gr hx) OneC.h λad c k W=> have j:=j.qa k s zd;have m:=m.qa k s zd;have t:=t.qa k s zd;have e:=e.gi k U;u3 (gv (u7 [_] ⟨⟨Y,0,Z,ud ge Z Z c.ql (gr hx)⟩,trivial⟩ ⟨⟨z,A,qP,E,G,Q⟩,Z,⟨j,m,t,nL,nP,nR⟩,e⟩)))))))
end Go.Proofs.YtpdiphfjmepijaaGreatDoor
namespace Go.Vc
theorem zx6 (w:World) (o:Obj) {r:Nat} (h:r<w.heap.size):(w.alloc o).heap[r]? =w.heap[r]? :=by
 show(w.heap.push o)[r]? =w.heap[r]?;rw[Array.getElem?_push,aI zk]
theorem nodup_len {α:Type}:∀{l m:List α},l.Nodup->(∀x∈l,x∈m)->l.length<=m.length
 | [],_,_,_=>aJ _
 |x::l,m,hn,hs=>by
  obtain⟨a,b,rfl⟩:=List.append_of_mem (hs x zq)
  have:=nodup_len (l:=l) (m:=a++b) (List.nodup_cons.1 hn).2 λy c=>by
   have:=hs y (by simp[c])
   rcases aS.1 this with h|h
   ·exact List.mem_append_left _ h
   rcases List.mem_cons.1 h with rfl|h
   ·exact absurd c (List.nodup_cons.1 hn).1
   exact List.mem_append_right _ h
  simp only[ao,aQ] at this|-
  omega
def xv6 {β : Type} (w : World) (it m : Nat) (enc : β -> Value) (g : List UInt8 -> Option β) (N : Nat) (done : List (List UInt8)) : Prop :=
  ∃ es clock since seen last, w.heap[it]? = some (.mapIter (some m) since seen last) /\ w.heap[m]? = some (.map es clock) /\
    (∀ e ∈ es.toList, ∃ x b, x.length = 32 /\ e.key = idV x /\ e.val = enc b /\ g x = some b) /\ (∀ x b, g x = some b -> ∃ e ∈ es.toList, e.key = idV x) /\ (es.toList.map (·.key)).Nodup /\
    (∀ e ∈ es.toList, e.born < since) /\ (es.toList.map (·.born)).Nodup /\ since <= last /\ since <= clock /\ done.Nodup /\ es.size = N /\ (∀ x ∈ done, ∃ b, g x = some b) /\ (∀ e ∈ es.toList, ∀ x, e.key = idV x -> (seen.contains e.born = true ↔ x ∈ done))
theorem xv6.lt {β:Type} {w:World} {it m N:Nat} {enc:β->Value} {g:List UInt8->Option β} {done:List (List UInt8)} (h:xv6 w it m enc g N done):it<w.heap.size/\m<w.heap.size:=by
 obtain⟨e,c,s,f,i,b,d,_⟩:=h;constructor;rcases bC it w.heap.size with a|a;exact a;rw[cI a] at b;cases b;rcases bC m w.heap.size with a|a;exact a;rw[cI a] at d;cases d
theorem xv6.ext {β:Type} {S:Nat->Prop} {w w':World} {it m N:Nat} {enc:β->Value} {g:List UInt8->Option β} {done:List (List UInt8)} (h:xv6 w it m enc g N done) (hE:Ext S w w') (h1:¬S it) (h2:¬S m):xv6 w' it m enc g N done:=by
 obtain⟨d,e⟩:=h.lt;obtain⟨f,c,s,i,j,a,b,r⟩:=h;exact⟨f,c,s,i,j,(hE.same it d h1).trans a,(hE.same m e h2).trans b,r⟩
theorem xv6.neB {β:Type} {w:World} {it m N:Nat} {enc:β->Value} {g:List UInt8->Option β} {done:List (List UInt8)} (h:xv6 w it m enc g N done) {b T:Nat} {L:List Value} (hb:j0 w b T L):it≠b/\m≠b:=by
 obtain⟨f,c,s,i,j,a,d,_⟩:=h;exact⟨(λe=>by rw[e] at a;rw[j0,a] at hb;cases hb),(λe=>by rw[e] at d;rw[j0,d] at hb;cases hb)⟩
theorem ext_putAt {w:World} {r:Nat} {o:Obj} (h:w.heap[r]? =some o) (o':Obj):
  Ext (One r) w {w with heap:=w.heap.setIfInBounds r o'}/\({w with heap:=w.heap.setIfInBounds r o'}:World).heap.size=w.heap.size/\({w with heap:=w.heap.setIfInBounds r o'}:World).heap[r]? =some o':=by
 have a:r<w.heap.size:=by rcases bC r w.heap.size with c|c;exact c;rw[cI c] at h;cases h
 exact⟨⟨Z,Z,Z,by simp,λb f d=> dJ (λe=>d e.symm),aB _⟩,by simp,by simp[a]⟩
theorem run_next {P:Program} {w:World} {it m since last clock:Nat} {seen:Array Nat} {es:Array MapEntry} (hi:w.heap[it]? =some (.mapIter (some m) since seen last)) (hm:w.heap[m]? =some (.map es clock)) (hold:∀x∈es.toList,x.born<since) (hsc:since<=last) (ty:TypeId):
  ((leftOf es seen).size=0/\(Instr.next (.pointer (some ⟨it,0,none⟩)) false ty).run P w= .ok (.tuple #[.bool false]) w)\/
  ∃e∈(leftOf es seen).toList,∃w1:World,(w1=w\/w1=w.drew)/\(Instr.next (.pointer (some ⟨it,0,none⟩)) false ty).run P w= .ok (.tuple #[.bool true,e.key,e.val]) {w1 with heap:=w1.heap.setIfInBounds it (.mapIter (some m) since (seen.push e.born) clock)}:=by
 simp only[Instr.next,getObj,Sem.run_bind,Sem.run,hi,hm,Result.andThen,next_test_false seen es since last hold hsc,bO,dF];unfold leftOf;have d:∀x∈(Array.filter (λe=> !seen.contains e.born) es).toList,x.born<since:=λx g=>hold x (by simp at g|-;exact g.1);generalize Array.filter (λe=> !seen.contains e.born) es=L at d|-;have r:L.filter (λx=>decide (x.born<since))=L:=Array.filter_eq_self.2 (λx g=>by simpa using d x (by simpa using g));have s:L.filter (λx=>decide (x.born>=since))= #[]:=by rw[Array.filter_eq_empty_iff];intro x g;have:=d x (by simpa using g);simp;omega
 simp only[r,s,Array.append_empty];by_cases h0:L.size=0;left;have:L= #[]:=Array.eq_empty_of_size_eq_zero h0;subst this;refine⟨Z,?_⟩;simp[choose,Sem.run,Question.forced];right;have n:L.isEmpty=false:=by simp[Array.isEmpty,h0]
 simp only[n,bO,dF,Array.empty_append,Array.size_map]
 have o:∃(j:Nat) (w1:World),j<L.size/\(w1=w\/w1=w.drew)/\(choose (Question.mapNext L.size)).run P w= .ok j w1:=by
  by_cases hf:L.size<=1;exact⟨0,w,by omega,.inl Z,by simp[choose,Sem.run,Question.forced,hf]⟩
  exact⟨_,w.drew,Nat.mod_lt _ zk,.inr Z,by
   simp only[choose,Sem.run,Question.forced,bD,hf,dF,Question.cut]
   rfl⟩
 obtain⟨j,w1,t,h,i⟩:=o;refine⟨L[j],by simp,w1,h,?_⟩;have p:w1.heap[it]? =some (.mapIter (some m) since seen last):=by rcases h with rfl|rfl<;>exact hi
 have k:∀(q:Obj),(setObj it q).run P w1= .ok () {w1 with heap:=w1.heap.setIfInBounds it q}:=λq=>by simp[setObj,Sem.run,p]
 simp only[i,Array.getElem?_map,Array.getElem?_eq_getElem t,Option.map_some,Sem.run_bind,k,Result.andThen];rfl
def Cur (w : World) (it m : Nat) (kx vx : Value) : Prop :=
  ∃ es clock since seen e, w.heap[it]? = some (.mapIter (some m) since seen clock) /\ w.heap[m]? = some (.map es clock) /\ seen.back? = some e.born /\ es.toList.find? (λx => x.born == e.born) = some e /\ e.key = kx /\ e.val = vx
theorem run_entry {P:Program} {w:World} {it m:Nat} {kx vx:Value} (h:Cur w it m kx vx):(Instr.entry (.pointer (some ⟨it,0,none⟩))).run P w= .ok (.tuple #[kx,vx]) w:=by
 obtain⟨a,c,s,j,e,b,d,f,g,rfl,rfl⟩:=h;have i:a.find? (λx=>x.born==e.born)=some e:=by rw[<-Array.find?_toList];exact g
 simp only[Instr.entry,getObj,Sem.run_bind,Sem.run,b,d,Result.andThen,f,bne_self_eq_false,bO,dF,i];rfl
section
variable {P : Program} {I : uh} {f : Fs} {ops : Array Oper} {o : Oper} {env : Env} {w : World} {K : Env -> World -> Prop}
def rgE (I : uh) (n : Nat) (ops : Array Oper) (env : Env) (o : Oper) : Option (Nat × Nat) :=
  match pre n ops env o with
  | false => none
  | true => match o.dst with
    | some d => match o.op with
      | .range t x => match z7 I t with
        | some y => match y.desc with
          | .map _ _ => match xz env x with
            | some (.map (some r)) => some (r, d)
            | _ => none
          | _ => none
        | none => none
      | _ => none
    | none => none
theorem st_rg {β:Type} (hI:I.Ok P) {m d:Nat} (h:rgE I f.n ops env o=some (m,d)) {enc:β->Value} {g:List UInt8->Option β} (hm:xx5 w m enc g)
  (k:∀(it N:Nat) w',w.heap.size<=it->xv6 w' it m enc g N []->Ext No w w'->K ((d,.pointer (some ⟨it,0,none⟩))::env) w'):St P f ops o env w K:=by
 unfold rgE at h;split at h;cases h;rename_i s;obtain⟨u,z⟩:=pre_eq s;split at h;rename_i O A;split at h;rename_i t x B;split at h;rename_i y C;split at h;rename_i Q e D;split at h;rename_i i j;simp only[bJ,cR] at h;obtain⟨rfl,rfl⟩:=h;have p:=(hI.get C).under w;rw[D] at p;have l:=hm.lt;obtain⟨q,c,r,E,F,G,H,J⟩:=hm;have a:(Instr.range t (.map (some i))).run P w= .ok (.pointer (some ⟨w.heap.size,0,none⟩)) (w.alloc (.mapIter (some i) c #[] c)):=by unfold Instr.range;rw[jg p];simp only[Sem.run_bind,MapKept.run_getObj_map r,aD];rfl
 refine yt u z (v:= .pointer (some ⟨w.heap.size,0,none⟩)) (w':=w.alloc (.mapIter (some i) c #[] c)) (λR L=>?_) ?_;simp only[execOp,B,L _ _ j,Sem.run_bind,a,aD,aR];rw[A];refine k _ q.size _ (aB _) ⟨q,c,c, #[],c,heap_alloc_new w _,?_,E,F,G,H,J,aB _,aB _,List.nodup_nil,Z,(λx j=>by cases j),λe _ x _=>by simp⟩ ⟨Z,Z,Z,by simp,λb M _=>?_,aB _⟩;rw[zx6 w _ l];exact r;exact zx6 w _ M;cases h;cases h;cases h;cases h;cases h
def enE (n : Nat) (ops : Array Oper) (env : Env) (o : Oper) : Option (Nat × Nat) :=
  match pre n ops env o with
  | false => none
  | true => match o.dst with
    | some d => match o.op with
      | .entry x => match xz env x with
        | some (.pointer (some ⟨it, 0, none⟩)) => some (it, d)
        | _ => none
      | _ => none
    | none => none
theorem st_en {it m d:Nat} {kx vx:Value} (h:enE f.n ops env o=some (it,d)) (hc:Cur w it m kx vx) (k:K ((d,.tuple #[kx,vx])::env) w):St P f ops o env w K:=by
 unfold enE at h;split at h;cases h;rename_i a;obtain⟨b,c⟩:=pre_eq a;split at h;rename_i p e;split at h;rename_i q g;split at h;rename_i i j;simp only[bJ,cR] at h;obtain⟨rfl,rfl⟩:=h;refine yt b c (v:= .tuple #[kx,vx]) (w':=w) (λr l=>?_) (by rw[e];exact k);simp only[execOp,g,l _ _ j,Sem.run_bind,run_entry hc,aD,aR];cases h;cases h;cases h
def nxE (n : Nat) (ops : Array Oper) (env : Env) (o : Oper) : Option (Nat × Nat) :=
  match pre n ops env o with
  | false => none
  | true => match o.dst with
    | some d => match o.op with
      | .next x false => match xz env x with
        | some (.pointer (some ⟨it, 0, none⟩)) => some (it, d)
        | _ => none
      | _ => none
    | none => none
theorem st_nx {β:Type} {it d:Nat} (h:nxE f.n ops env o=some (it,d)) {m N:Nat} {enc:β->Value} {g:List UInt8->Option β} {done:List (List UInt8)} (hit:xv6 w it m enc g N done)
  (k0:(∀x b,g x=some b->x∈done)->K ((d,.tuple #[.bool false])::env) w)
  (k1:∀(x:List UInt8) (b:β) w',g x=some b->x.length=32->x∉done->done.length<N->xv6 w' it m enc g N (done++[x])->Cur w' it m (idV x) (enc b)->Ext (One it) w w'->w'.heap.size=w.heap.size->K ((d,.tuple #[.bool true,idV x,enc b])::env) w'):St P f ops o env w K:=by
 unfold nxE at h;split at h;cases h;rename_i hp;obtain⟨h1,h2⟩:=pre_eq hp;split at h
 ·rename_i d' hd
  split at h
  ·rename_i xx ho
   split at h
   ·rename_i r hx
    simp only[bJ,cR] at h;obtain⟨rfl,rfl⟩:=h;obtain⟨t,c,s,C,la,M,T,a1,U,a3,a4,O,a6,a7,b1,b2,b3,Q⟩:=hit;rcases run_next (P:=P) M T a4 a6 o.type with⟨c1,D⟩|⟨e,c1,B,D,c3⟩;refine yt h1 h2 (v:= .tuple #[.bool false]) (w':=w) (λρ V=>?_) ?_;simp only[execOp,ho,V _ _ hx,Sem.run_bind,D,aD,aR];rw[hd];refine k0 λx b R=>?_;obtain⟨e,he,A⟩:=U x b R;refine(Q e he x A).1 (cV λhc=>?_);have:e∈(leftOf t C).toList:=Array.mem_toList_iff.2 (Array.mem_filter.2 ⟨Array.mem_toList_iff.1 he,by simpa using hc⟩);rw[Array.eq_empty_of_size_eq_zero c1] at this;simp at this;obtain⟨l,W⟩:=mem_left c1;obtain⟨x,b,F,A,S,R⟩:=a1 e l;have u:x∉done:=λu=>by have:=(Q e l x A).2 u;rw[W] at this;cases this
    have X:B.heap[r]? =some (.mapIter (some m) s C la):=by rcases D with rfl|rfl<;>exact M
    have G:B.heap[m]? =some (.map t c):=by rcases D with rfl|rfl<;>exact T
    have Y:Ext No w B:=by rcases D with rfl|rfl;exact Ext.refl _ _;exact Ext.drew w
    obtain⟨p1,p2,p3⟩:=ext_putAt X (.mapIter (some m) s (C.push e.born) c);have H:r≠m:=λq=>by rw[q,T] at M;cases M
    refine yt h1 h2 (v:= .tuple #[.bool true,idV x,enc b]) (w':={B with heap:=B.heap.setIfInBounds r (.mapIter (some m) s (C.push e.born) c)}) (λρ V=>?_) ?_;rw[A,S] at c3;simp only[execOp,ho,V _ _ hx,Sem.run_bind,c3,aD,aR];rw[hd]
    have I:done.length<N:=by
     rw[<-b2]
     have z:(done++[x]).length<=(t.toList.map (·.key)).length:=by
      have aa:((done++[x]).map idV).Nodup:=by rw[List.nodup_iff_pairwise_ne];refine List.pairwise_map.2 ((List.nodup_append.2 ⟨b1,by simp,λa ha b hb=>?_⟩).imp λab e=>ab (idV_inj e));rw[aF.1 hb];exact λe=>u (e▸ha)
      have:=nodup_len aa (m:=t.toList.map (·.key)) λv S=>by obtain⟨y,k,rfl⟩:=aZ.1 S;rcases aS.1 k with k|k;obtain⟨b',ac⟩:=b3 y k;obtain⟨E,p,ad⟩:=U y b' ac;exact aZ.2 ⟨E,p,ad⟩;rw[aF.1 k];exact aZ.2 ⟨e,l,A⟩
      rw[aA] at this;exact this
     rw[ao,aA,Array.length_toList] at z;simp only[aQ,cL] at z;exact aK (Nat.lt_succ_self _) z
    refine k1 x b _ R F u I ⟨t,c,s,C.push e.born,c,p3,?_,a1,U,a3,a4,O,a7,a7,?_,b2,?_,?_⟩ ⟨t,c,s,C.push e.born,e,p3,(by
     show(B.heap.setIfInBounds r _)[m]? =_
     rw[dJ H]
     exact G),by simp,find_born e t.toList O l,A,S⟩ ((Y.mono λ_ _ q=>q.elim).trans p1 λ_ _ q=>q) (p2.trans (by rcases D with rfl|rfl<;>rfl))
    show(B.heap.setIfInBounds r _)[m]? =_;rw[dJ H];exact G;exact List.nodup_append.2 ⟨b1,by simp,λa ha b hb=>by rw[aF.1 hb];exact λe=>u (e▸ha)⟩;intro y k;rcases aS.1 k with k|k;exact b3 y k;rw[aF.1 k];exact⟨b,R⟩
    intro E p y k;rw[contains_push];simp only[Bool.or_eq_true,beq_iff_eq,aS,aF];constructor;rintro(q|q);exact .inl ((Q E p y k).1 q);have ae:=find_born e t.toList O l;have J:=find_born E t.toList O p;rw[q,ae] at J;have:=cl J;rw[<-this] at k;exact .inr (idV_inj (k.symm.trans A));rintro(q|q);exact .inl ((Q E p y k).2 q);refine .inr ?_;subst q
    have af:E=e:=by
     have i1:=bG.1 p;have i2:=bG.1 l;obtain⟨i,ag,rfl⟩:=i1;obtain⟨j,ah,L⟩:=i2
     have:i=j:=by
      have q2:(t.toList.map (·.key))[i]'(by simpa using ag)=(t.toList.map (·.key))[j]'(by simpa using ah):=by simp only[bQ];rw[k,L,A]
      exact(List.getElem_inj a3).1 q2
     subst this;exact L
    rw[af]
   cases h
  cases h
 cases h
theorem wd_lu {K:Act->World->Prop} {kv:List UInt8->Value} {okx:List UInt8->Prop} {β:Type} {r:Dr} {i:Nat} {pl:List (Nat×Bool)} {dn:List Nat} (hI:I.Ok P) (ho:ops[i]? =some o) {k rm d:Nat} {z v:Value} {ok:Bool} (h:luE I f.n ops env o=some (k,z,rm,v,ok,d)) (hK:KeyG P k kv okx) {x:List UInt8} (hx:okx x) (hv:v=kv x) {enc:β->Value} {g:List UInt8->Option β} (hm0:B0 kv okx w rm enc g) (hm:∀w',r.C w'->B0 kv okx w' rm enc g)
  (kk:WD P f ops K r pl (i::dn) ((d,if ok then .tuple #[tell enc z (g x),.bool (g x).isSome] else tell enc z (g x))::env) w):WD P f ops K r ((i,true)::pl) dn env w:=by
 obtain⟨b,c,_⟩:=ov_lu (f:=f) (w:=w) hI h hK hx hv hm0;exact wd_q ho b c (λw' a=>(ov_lu (f:=f) (w:=w') hI h hK hx hv (hm w' a)).2.2) kk
end
def MapO {β : Type} (w : World) (m : Option Nat) (enc : β -> Value) (g : List UInt8 -> Option β) : Prop := (m = none /\ ∀ x, g x = none) \/ ∃ r, m = some r /\ xx5 w r enc g
theorem MapO.ga {β:Type} {w w':World} {m:Option Nat} {enc:β->Value} {g:List UInt8->Option β} (h:MapO w m enc g) (hE:Ext No w w'):MapO w' m enc g:=h.imp id λ⟨r,e,hm⟩=>⟨r,e,hm.ga hE⟩
theorem MapO.gk {β:Type} {w w':World} {m:Option Nat} {enc:β->Value} {g:List UInt8->Option β} (h:MapO w m enc g) {b T:Nat} {L:List Value} (hE:Ext (One b) w w') (hb:j0 w b T L):MapO w' m enc g:=h.imp id λ⟨r,e,hm⟩=>⟨r,e,hm.gk hE hb⟩
theorem MapO.len {β:Type} {w:World} {m:Option Nat} {enc:β->Value} {g:List UInt8->Option β} (h:MapO w m enc g):∃n:Nat,∀w',Ext No w w'->(m=none/\n=0)\/∃r es c,m=some r/\w'.heap[r]? =some (.map es c)/\n=es.size:=by
 rcases h with⟨rfl,_⟩|⟨r,rfl,b⟩;exact⟨0,λ_ _=> .inl ⟨Z,Z⟩⟩
 have a:=b.lt;obtain⟨es,c,d,_⟩:=b;exact⟨es.size,λw' e=> .inr ⟨r,es,c,Z,(e.same r a id).trans d,Z⟩⟩
def zv5 {β : Type} (w : World) (it : Nat) (m : Option Nat) (enc : β -> Value) (g : List UInt8 -> Option β) (N : Nat) (done : List (List UInt8)) : Prop :=
  (m = none /\ (∃ since seen last, w.heap[it]? = some (.mapIter none since seen last)) /\ ∀ x, g x = none) \/ ∃ r, m = some r /\ xv6 w it r enc g N done
theorem zv5.ext {β:Type} {S:Nat->Prop} {w w':World} {it N:Nat} {m:Option Nat} {enc:β->Value} {g:List UInt8->Option β} {done:List (List UInt8)} (h:zv5 w it m enc g N done) (hE:Ext S w w') (h1:¬S it) (h2:∀r,m=some r->¬S r):zv5 w' it m enc g N done:=by
 rcases h with⟨rfl,⟨a,b,c,d⟩,i⟩|⟨r,rfl,j⟩;have e:it<w.heap.size:=by rcases bC it w.heap.size with f|f;exact f;rw[cI f] at d;cases d
 exact .inl ⟨Z,⟨a,b,c,(hE.same it e h1).trans d⟩,i⟩;exact .inr ⟨r,Z,j.ext hE h1 (h2 r Z)⟩
theorem zv5.ga {β:Type} {w w':World} {it N:Nat} {m:Option Nat} {enc:β->Value} {g:List UInt8->Option β} {done:List (List UInt8)} (h:zv5 w it m enc g N done) (hE:Ext No w w'):zv5 w' it m enc g N done:=h.ext hE id λ_ _=>id
theorem zv5.neB {β:Type} {w:World} {it N:Nat} {m:Option Nat} {enc:β->Value} {g:List UInt8->Option β} {done:List (List UInt8)} (h:zv5 w it m enc g N done) {b T:Nat} {L:List Value} (hb:j0 w b T L):it≠b/\∀r,m=some r->r≠b:=by
 rcases h with⟨rfl,⟨a,c,d,i⟩,_⟩|⟨r,rfl,f⟩;refine⟨λe=>?_,λr h=>by cases h⟩;subst e;rw[j0,i] at hb;cases hb;exact⟨(f.neB hb).1,λj e=>by cases e;exact(f.neB hb).2⟩
theorem zv5.gk {β:Type} {w w':World} {it N:Nat} {m:Option Nat} {enc:β->Value} {g:List UInt8->Option β} {done:List (List UInt8)} (h:zv5 w it m enc g N done) {b T:Nat} {L:List Value} (hE:Ext (One b) w w') (hb:j0 w b T L):zv5 w' it m enc g N done:=
 h.ext hE (h.neB hb).1 (h.neB hb).2
section
variable {P : Program} {I : uh} {f : Fs} {ops : Array Oper} {o : Oper} {env : Env} {w : World}
def lnoE (I : uh) (n : Nat) (ops : Array Oper) (env : Env) (o : Oper) : Option (Option Nat × Nat) :=
  match pre n ops env o with
  | false => none
  | true => match o.dst with
    | some d => match o.op with
      | .call { callee := .builtin .len, args := xs, argTypes := ts } => match xs.toList with
        | [x] => match ts.toList with
          | [t] => match z7 I t with
            | some y => match y.desc with
              | .map _ _ => match xz env x with
                | some (.map m) => some (m, d)
                | _ => none
              | _ => none
            | none => none
          | _ => none
        | _ => none
      | _ => none
    | none => none
theorem wd_lnO {K:Act->World->Prop} {r:Dr} {i:Nat} {pl:List (Nat×Bool)} {dn:List Nat} (hI:I.Ok P) (ho:ops[i]? =some o) {m:Option Nat} {d:Nat} (h:lnoE I f.n ops env o=some (m,d)) {n:Nat}
  (hm:∀w',r.C w'->(m=none/\n=0)\/∃r es c,m=some r/\w'.heap[r]? =some (.map es c)/\n=es.size)
  (kk:WD P f ops K r pl (i::dn) ((d,.int .i64 (n:Int))::env) w):WD P f ops K r ((i,true)::pl) dn env w:=by
 unfold lnoE at h;split at h;cases h;rename_i l;split at h;rename_i G p;split at h;rename_i q s a;split at h;rename_i x b;split at h;rename_i t g;split at h;rename_i y u;split at h;rename_i H e v;split at h;rename_i J z;cases h;refine wd_q ho l p (λw' j L A=>?_) kk;have k:=(hI.get u).under w';rw[v] at k;have B:q= #[x]:=by rw[<-b]
 have D:s= #[t]:=by rw[<-g]
 subst B D;have E:(Builtin.len_ #[t] o.type #[.map m]).run P w'= .ok (.int .i64 (n:Int)) w':=by unfold Builtin.len_;simp only[bX,cN];rw[jg k];rcases hm w' j with⟨rfl,rfl⟩|⟨r,es,c,rfl,F,rfl⟩;rfl;simp only[Sem.run_bind,MapKept.run_getObj_map F,aD];rfl
 unfold execOp;simp only[a,resolve,invoke,builtin,Sem.run_bind,aR,aD,List.map_toArray,dI,List.map_nil,A _ _ z,E];cases h;cases h;cases h;cases h;cases h;cases h;cases h
def rgoE (I : uh) (n : Nat) (ops : Array Oper) (env : Env) (o : Oper) : Option (Option Nat × Nat) :=
  match pre n ops env o with
  | false => none
  | true => match o.dst with
    | some d => match o.op with
      | .range t x => match z7 I t with
        | some y => match y.desc with
          | .map _ _ => match xz env x with
            | some (.map m) => some (m, d)
            | _ => none
          | _ => none
        | none => none
      | _ => none
    | none => none
theorem st_rgO {K:Env->World->Prop} {β:Type} (hI:I.Ok P) {m:Option Nat} {d:Nat} (h:rgoE I f.n ops env o=some (m,d)) {enc:β->Value} {g:List UInt8->Option β} (hm:MapO w m enc g)
  (k:∀(it N:Nat) w',w.heap.size<=it->zv5 w' it m enc g N []->Ext No w w'->K ((d,.pointer (some ⟨it,0,none⟩))::env) w'):St P f ops o env w K:=by
 rcases hm with⟨rfl,l⟩|⟨r,rfl,hm⟩;unfold rgoE at h;split at h;cases h;rename_i p;obtain⟨c,i⟩:=pre_eq p;split at h;rename_i E q;split at h;rename_i t x s;split at h;rename_i y u;split at h;rename_i F e z;split at h;rename_i G A;simp only[bJ,cR] at h;obtain⟨rfl,rfl⟩:=h;have j:=(hI.get u).under w;rw[z] at j;have a:(Instr.range t (.map none)).run P w= .ok (.pointer (some ⟨w.heap.size,0,none⟩)) (w.alloc (.mapIter none 0 #[] 0)):=by unfold Instr.range;rw[jg j];rfl
 refine yt c i (v:= .pointer (some ⟨w.heap.size,0,none⟩)) (w':=w.alloc (.mapIter none 0 #[] 0)) (λH B=>?_) ?_;simp only[execOp,s,B _ _ A,Sem.run_bind,a,aD,aR];rw[q];refine k _ 0 _ (aB _) (.inl ⟨Z,⟨_,_,_,heap_alloc_new w _⟩,l⟩) ⟨Z,Z,Z,by simp,λb C _=>zx6 w _ C,aB _⟩;cases h;cases h;cases h;cases h;cases h;refine st_rg hI (m:=r) (d:=d) ?_ hm λit N w' c i D=>k it N w' c (.inr ⟨r,Z,i⟩) D;unfold rgoE at h;unfold rgE;repeat' split at h
 all_goals first|cases h|skip
 all_goals simp_all
theorem st_nxO {K:Env->World->Prop} {β:Type} {it d:Nat} (h:nxE f.n ops env o=some (it,d)) {m:Option Nat} {N:Nat} {enc:β->Value} {g:List UInt8->Option β} {done:List (List UInt8)} (hit:zv5 w it m enc g N done)
  (k0:(∀x b,g x=some b->x∈done)->K ((d,.tuple #[.bool false])::env) w)
  (k1:∀(x:List UInt8) (b:β) w',g x=some b->x.length=32->x∉done->done.length<N->zv5 w' it m enc g N (done++[x])->(∃r,m=some r/\Cur w' it r (idV x) (enc b))->Ext (One it) w w'->w'.heap.size=w.heap.size->K ((d,.tuple #[.bool true,idV x,enc b])::env) w'):St P f ops o env w K:=by
 rcases hit with⟨rfl,⟨a,b,c,u⟩,y⟩|⟨r,rfl,z⟩;unfold nxE at h;split at h;cases h;rename_i A;obtain⟨p,q⟩:=pre_eq A;split at h;rename_i O B;split at h;rename_i x t C;split at h;rename_i s D;simp only[bJ,cR] at h;obtain⟨rfl,rfl⟩:=h;have k:(Instr.next (.pointer (some ⟨s,0,none⟩)) false o.type).run P w= .ok (.tuple #[.bool false]) w:=by simp only[Instr.next,getObj,Sem.run_bind,Sem.run,u,Result.andThen];rfl
 refine yt p q (v:= .tuple #[.bool false]) (w':=w) (λQ E=>?_) (by rw[B];exact k0 λx b e=>by rw[y] at e;cases e);simp only[execOp,C,E _ _ D,Sem.run_bind,k,aD,aR];cases h;cases h;cases h;exact st_nx h z k0 λx b w' p q F G H J L M=>k1 x b w' p q F G (.inr ⟨r,Z,H⟩) ⟨r,Z,J⟩ L M
end
end Go.Vc
namespace Go.Proofs.YtpdiphfjmepijaaGreatDoor
open Go.Proofs.Tryz
open Go.Vc
abbrev Bm := Am × (Option Addr × Nat)
def xb (x : Bm) : List Value := [yj x.1.1, .slice x.2.1 x.1.2.length x.2.2]
theorem Al (x : Bm) : (xb x).length = 2 := rfl
instance (x : Bm) : OneC (xb x) := by unfold xb; infer_instance
structure uk where
  rp : Option Addr
  rc : Nat
  hs : List je
  m : Option Nat
  vp : Option Addr
  vc : Nat
  vs : List Bm
def uk.c (h : uk) : List Value := [.slice h.rp h.hs.length h.rc, .map h.m, .slice h.vp h.vs.length h.vc]
instance (h : uk) : OneC h.c := by unfold uk.c; infer_instance
def uk.s (h : uk) : Ax := ⟨h.hs.map je.o, h.vs.map Prod.fst⟩
abbrev zx5 (i : Nat) : Value := .int .i64 (i : Int)
def placeOf (l : List B7) (x : B7) : Option Nat := if x ∈ l then some (l.idxOf x) else none
theorem yw7 {l:List B7} {x:B7} (h:x∉l):setM (placeOf l) x l.length=placeOf (l++[x]):=by
 funext y;unfold setM placeOf;by_cases e:y=x;subst e;rw[aL Z,aL zq,List.idxOf_append,aI h];simp;rw[aI e];by_cases hy:y∈l;rw[aL hy,aL (by simp[hy]),List.idxOf_append,aL hy];rw[aI hy,aI (by simp[hy,e])]
def InH (p : Option Addr) (H : Nat -> Prop) : Prop := ∀ b off, p = some ⟨b, off, none⟩ -> H b
theorem InH.mono {p : Option Addr} {H G : Nat -> Prop} (h : InH p H) (k : ∀ y, H y -> G y) : InH p G := λb off e => k b (h b off e)
theorem Sl.inH {S H:Nat->Prop} {w w':World} {p:Option Addr} {n sz:Nat} {xs:List Value} (h:Sl w p n sz xs) (hE:Ext S w w') (hH:InH p H) (hS:∀y,H y->¬S y):Sl w' p n sz xs:=h.ext hE λb off e=>hS b (hH b off e)
def ObjB (a : x9) (y : Nat) : Prop := jb a.lp y \/ jb a.pp y \/ jb a.rp y
structure Bd (u : World) (H : Nat -> Prop) (x : je) : Prop where
  id : x.id = vv x.o
  ok : D7 x.o
  ol : Own u x.a.lp x.o.leaves.length x.a.lc 148 33 (x.o.leaves.flatMap jn.cells)
  op : Own u x.a.pp x.o.parents.length x.a.pc 30 32 (x.o.parents.flatMap gh)
  or : Own u x.a.rp x.o.rows.length x.a.rc 150 3 (x.o.rows.flatMap vb.cells)
  f : ∀ y, ObjB x.a y -> H y
theorem Bd.l {H : Nat -> Prop} {u : World} {x : je} (h : Bd u H x) : Ch u x.o x.a := ⟨h.ol.sl, h.op.sl, h.or.sl⟩
theorem Bd.ext {S H:Nat->Prop} {u u':World} {x:je} (h:Bd u H x) (hE:Ext S u u') (hS:∀y,H y->¬S y):Bd u' H x:=
 ⟨h.id,h.ok,h.ol.ext hE λy a=>hS y (h.f y (.inl a)),h.op.ext hE λy a=>hS y (h.f y (.inr (.inl a))),h.or.ext hE λy a=>hS y (h.f y (.inr (.inr a))),h.f⟩
theorem Bd.y0 {W:World} {H:Nat->Prop} {u u':World} {T:Nat} {x:je} (h:Bd u H x) (hE:Ext (Ck W u T T) u u') (h1:148≠T) (h2:30≠T) (h3:150≠T):Bd u' H x:=
 ⟨h.id,h.ok,h.ol.y0 hE h1 h1,h.op.y0 hE h2 h2,h.or.y0 hE h3 h3,h.f⟩
theorem Bd.gk {H:Nat->Prop} {u u':World} {x:je} (h:Bd u H x) {b T:Nat} {L:List Value} (hE:Ext (One b) u u') (hb:j0 u b T L) (h1:148≠T) (h2:30≠T) (h3:150≠T):Bd u' H x:=
 ⟨h.id,h.ok,h.ol.qa hE hb h1,h.op.qa hE hb h2,h.or.qa hE hb h3,h.f⟩
theorem Bd.xm {kv:List UInt8->Value} {okx:List UInt8->Prop} {β:Type} {H:Nat->Prop} {u u':World} {x:je} (h:Bd u H x) {r:Nat} {enc:β->Value} {g:List UInt8->Option β} (hm:B0 kv okx u r enc g) (hE:Ext (One r) u u'):Bd u' H x:=
 ⟨h.id,h.ok,h.ol.xm hm hE,h.op.xm hm hE,h.or.xm hm hE,h.f⟩
theorem Bd.mono {H G:Nat->Prop} {u:World} {x:je} (h:Bd u H x) (k:∀y,H y->G y):Bd u G x:=⟨h.id,h.ok,h.ol,h.op,h.or,λy hy=>k y (h.f y hy)⟩
theorem Bd.len {H : Nat -> Prop} {u : World} {x : je} (h : Bd u H x) : (uv x).length = 105 := By (by rw [h.id]; exact ul _) h.ok.1
structure yx1 (u : World) (H : Nat -> Prop) (x : Bm) : Prop where
  o : Own u x.2.1 x.1.2.length x.2.2 5 1 (gh x.1.2)
  f : ∀ y, jb x.2.1 y -> H y
  ln : x.1.1.length < 1000000000
  lo : x.1.2.length < 1000000000
theorem yx1.s {H : Nat -> Prop} {u : World} {x : Bm} (h : yx1 u H x) : xy u x.2.1 x.1.2 := h.o.sl
theorem yx1.ext {S H:Nat->Prop} {u u':World} {x:Bm} (h:yx1 u H x) (hE:Ext S u u') (hS:∀y,H y->¬S y):yx1 u' H x:=⟨h.o.ext hE λy hy=>hS y (h.f y hy),h.f,h.ln,h.lo⟩
theorem yx1.y0 {W:World} {H:Nat->Prop} {u u':World} {T:Nat} {x:Bm} (h:yx1 u H x) (hE:Ext (Ck W u T T) u u') (h1:5≠T):yx1 u' H x:=⟨h.o.y0 hE h1 h1,h.f,h.ln,h.lo⟩
theorem yx1.gk {H:Nat->Prop} {u u':World} {x:Bm} (h:yx1 u H x) {b T:Nat} {L:List Value} (hE:Ext (One b) u u') (hb:j0 u b T L) (h1:5≠T):yx1 u' H x:=⟨h.o.qa hE hb h1,h.f,h.ln,h.lo⟩
theorem yx1.xm {kv:List UInt8->Value} {okx:List UInt8->Prop} {β:Type} {H:Nat->Prop} {u u':World} {x:Bm} (h:yx1 u H x) {r:Nat} {enc:β->Value} {g:List UInt8->Option β} (hm:B0 kv okx u r enc g) (hE:Ext (One r) u u'):yx1 u' H x:=⟨h.o.xm hm hE,h.f,h.ln,h.lo⟩
theorem yx1.mono {H G:Nat->Prop} {u:World} {x:Bm} (h:yx1 u H x) (k:∀y,H y->G y):yx1 u G x:=⟨h.o,λy hy=>k y (h.f y hy),h.ln,h.lo⟩
structure y7 (u : World) (H : Nat -> Prop) (h : uk) : Prop where
  row : Sl u h.rp h.hs.length 105 (h.hs.flatMap uv)
  rc : h.hs.length <= h.rc
  map : MapO u h.m zx5 (placeOf (h.hs.map je.id))
  vals : Sl u h.vp h.vs.length 2 (h.vs.flatMap xb)
  vc : h.vs.length <= h.vc
  o : ∀ x ∈ h.hs, Bd u H x
  v : ∀ x ∈ h.vs, yx1 u H x
  fr : InH h.rp H
  fv : InH h.vp H
  fm : ∀ r, h.m = some r -> H r
  few : h.hs.length < 1000000
  fev : h.vs.length < 1000000
theorem y7.ext {S H:Nat->Prop} {u u':World} {h:uk} (k:y7 u H h) (hE:Ext S u u') (hS:∀y,H y->¬S y):y7 u' H h:=
 ⟨Sl.inH k.row hE k.fr hS,k.rc,k.map.imp _root_.id λ⟨r,e,b⟩=>⟨r,e,b.ext hE (hS r (k.fm r e))⟩,Sl.inH k.vals hE k.fv hS,k.vc,λx a=>(k.o x a).ext hE hS,λx a=>(k.v x a).ext hE hS,k.fr,k.fv,k.fm,k.few,k.fev⟩
theorem y7.ga {H : Nat -> Prop} {u u' : World} {h : uk} (k : y7 u H h) (hE : Ext No u u') : y7 u' H h := k.ext hE λ_ _ => _root_.id
theorem y7.held {u : World} {H : Nat -> Prop} {h : uk} (k : y7 u H h) : ∀ x ∈ h.hs, (uv x).length = 105 := λx hx => (k.o x hx).len
def FindAt (l : List Am) (n : Str) (i : Nat) (q : Bool) : Prop := i <= l.length /\ (∀ v ∈ l.take i, nLt v.1 n) /\ (∀ v, (l.drop i).head? = some v -> ¬ nLt v.1 n) /\ (q = true ↔ ∃ v, (l.drop i).head? = some v /\ v.1 = n)
theorem drop_head {α:Type} {l:List α} {i:Nat} (hi:i<l.length):(l.drop i).head? =some l[i]:=by rw[List.head?_drop];exact aG hi
theorem drop_none {α : Type} {l : List α} {i : Nat} (hi : l.length <= i) : (l.drop i).head? = none := by rw [aW hi]; rfl
theorem find_calls (w:World) {rv mv:Value} (h1:rv.oneCell'=true) (h2:mv.oneCell'=true) {p:Option Addr} {c:Nat} {vs:List Bm} (h:Sl w p vs.length 2 (vs.flatMap xb)) (hl:vs.length<1000000) {n:Str}:
  gn prog 53 [.agg #[rv,mv,.slice p vs.length c],yj n] w λv w'=>∃(i:Nat) (q:Bool),v= .tuple #[.int .i64 (i:Int),.bool q]/\FindAt (vs.map Prod.fst) n i q/\Ext No w w':=by
 refine gz func53 ?_;have f:=Ext.refl No w;refine qr (gt Z λB O P a D=>?_);have f:=f.gb D;have a:j0 O B 121 ([rv,mv,.slice p vs.length c]):=a;refine kg Z (vo Z (j8 (jl (α:=Nat) [1,2] Z (λz=>[(6,.int .i64 (z:Int))]) (λz u=>(z<=vs.length/\∀v∈(vs.map Prod.fst).take z,nLt v.1 n)/\j0 u B 121 ([rv,mv,.slice p vs.length c])/\Ext No w u) (λz u=>vs.length-z) (0) Z ⟨⟨aJ _,λ_ h=>(by cases h)⟩,a,f⟩ ?_)));rintro i T ⟨⟨Q,t⟩,a,f⟩;refine gp (ju (α:=Bool) [1,2,6] Z (λz=>[(21,.bool z)]) (λz u=>(z=true↔∃v,((vs.map Prod.fst).drop i).head? =some v/\nLt v.1 n)/\j0 u B 121 ([rv,mv,.slice p vs.length c])/\Ext No w u) ?_ ?_);refine j1 (j6 ge Z (gx Z (a.cell Z) (j6 ge Z (jw 12 Z (λE=>?_) (λE=>?_)))));have b:i<vs.length:=by omega
 have d:i<(vs.map Prod.fst).length:=by rw[aA];exact b
 have g:=drop_head d;rw[bQ] at g;obtain⟨R,F,G,o⟩:=h.qm (λx _=>Al x) zk;subst G;exact j4 ge 1 Z (gx Z (a.cell Z) (j4 ge 1 Z (ki Z 2 Z i Z b (F+i*2) Z (j4 ge 1 Z (gx Z (((o i b).ga f) 0 _ Z) (j4 ge 3 Z (gl (j2 (_) Z ⟨by rw[bD,g];exact⟨λk=>⟨_,Z,k⟩,λ⟨v,e,k⟩=>by cases e;exact k⟩,a,f⟩))))))));have r:=drop_none (l:=vs.map Prod.fst) (i:=i) (by rw[aA];omega);exact j4 ge 9 Z (gl (j2 (false) Z ⟨by rw[r];exact⟨λk=>(by cases k),λ⟨v,e,_⟩=>by cases e⟩,a,f⟩));rintro z U ⟨N,a,f⟩;refine vk Z (λC=>?_) (λC=>?_);obtain⟨V,m,H⟩:=N.1 C;have d:i<(vs.map Prod.fst).length:=by rcases bC i (vs.map Prod.fst).length with J|J;exact J;rw[drop_none J] at m;cases m
 have b:i<vs.length:=by rw[aA] at d;exact d
 rw[drop_head d] at m;refine xg (j8 (yy Z ?_));rw[qc _ zk];exact gl (jr (jh (i+1) Z ⟨⟨b,λv s=>by rw[aO d] at s;rcases aS.1 s with s|s;exact t v s;rw[aF.1 s];cases m;exact H⟩,a,f⟩ zm));have K:∀v,((vs.map Prod.fst).drop i).head? =some v->¬nLt v.1 n:=λv e k=>by rw[N.2 ⟨v,e,k⟩] at C;cases C
 refine Bh (ju (α:=Bool) [] Z (λz=>[(4,.int .i64 (i:Int)),(5,.bool z)]) (λz u=>(z=true↔∃v,((vs.map Prod.fst).drop i).head? =some v/\v.1=n)/\j0 u B 121 ([rv,mv,.slice p vs.length c])/\Ext No w u) ?_ ?_);refine ke Z 18 [qP 0,qP 1,qP 2,qP 3,qP 4,qP 5,qP 6,qP 7,qP 8,qP 9,qP 10,qP 11,qP 12,qP 13,qP 14,qP 15,qP 16,qP 17] [] (No) zf λW y S=> have A:=a;have L:=f;have a:=a.ga y;have f:=f.gb y;gw ge 3 Z (j5 ge Z Z (λw' j=>(A.ga j).cell Z) (gw ge 3 Z (Ao 30 Z (λE=>?_) (λE=>?_))));have b:i<vs.length:=by omega
 have d:i<(vs.map Prod.fst).length:=by rw[aA];exact b
 have g:=drop_head d;rw[bQ] at g;obtain⟨R,F,G,o⟩:=h.qm (λx _=>Al x) zk;subst G;exact gw ge 1 Z (j5 ge Z Z (λw' j=>(A.ga j).cell Z) (gw ge 1 Z (u0 ge Z Z 2 Z i Z b (F+i*2) Z (gw ge 1 Z (j5 ge Z Z (λw' j=>(((o i b).ga (L.gb j)) 0 _ Z)) (gw ge 5 Z (js (ja (j2 (_) Z ⟨by rw[bD,g];exact⟨λk=>⟨_,Z,Bo k⟩,λ⟨v,e,k⟩=>by cases e;rw[<-k]⟩,a,f⟩)))))))));have r:=drop_none (l:=vs.map Prod.fst) (i:=i) (by rw[aA];omega);exact gw ge 11 Z (js (ja (j2 (false) Z ⟨by rw[r];exact⟨λk=>(by cases k),λ⟨v,e,_⟩=>by cases e⟩,a,f⟩)));rintro z X ⟨M,a,f⟩;exact gv (u7 [_,_] ⟨Z,Z,trivial⟩ ⟨i,_,Z,⟨by rw[aA];exact Q,t,K,M⟩,f⟩)
structure yz8 (W u : World) (G : Nat -> Prop) (h : uk) : Prop where
  row : zw5 W u h.rp h.hs.length h.rc 126 105 (h.hs.flatMap uv)
  rin : InH h.rp G
  map : ∃ r, h.m = some r /\ W.heap.size <= r /\ xx5 u r zx5 (placeOf (h.hs.map je.id))
  vals : ky W u h.vp h.vs.length h.vc 129 2 (h.vs.flatMap xb)
  o : ∀ x ∈ h.hs, Bd u G x
  v : ∀ x ∈ h.vs, yx1 u G x
  few : h.hs.length < 1000000
  fev : h.vs.length < 1000000
  new : ∀ y, W.heap.size <= y -> G y
theorem ownN_in {W u:World} {G:Nat->Prop} {p:Option Addr} {n c T sz:Nat} {xs:List Value} (h:ky W u p n c T sz xs) (hG:∀y,W.heap.size<=y->G y):InH p G:=λb d e=>by
 rcases h.own with⟨a,_⟩|⟨f,l,a,_⟩
 ·rw[e] at a;cases a
 rw[e] at a;cases a
 exact hG _ (h.new _ e)
def RestT (T : Nat) : Prop := 148 ≠ T /\ 30 ≠ T /\ 150 ≠ T /\ 5 ≠ T /\ 126 ≠ T
instance (T : Nat) : Decidable (RestT T) := inferInstanceAs (Decidable (_ /\ _))
structure zx9 (W u : World) (G : Nat -> Prop) (rp : Option Addr) (rc : Nat) (hs : List je) (r : Nat) (vs : List Bm) : Prop where
  row : zw5 W u rp hs.length rc 126 105 (hs.flatMap uv)
  map : xx5 u r zx5 (placeOf (hs.map je.id))
  o : ∀ x ∈ hs, Bd u G x
  v : ∀ x ∈ vs, yx1 u G x
section
variable {W u u' : World} {G : Nat -> Prop} {rp : Option Addr} {rc r : Nat} {hs : List je} {vs : List Bm}
theorem zx9.ga (k:zx9 W u G rp rc hs r vs) (hE:Ext No u u'):zx9 W u' G rp rc hs r vs:=⟨k.row.ga hE,k.map.ga hE,λx a=>(k.o x a).ext hE λ_ _=>id,λx a=>(k.v x a).ext hE λ_ _=>id⟩
theorem zx9.gk (k:zx9 W u G rp rc hs r vs) {b T:Nat} {L:List Value} (hE:Ext (One b) u u') (hb:j0 u b T L) (hn:W.heap.size<=b) (hT:RestT T):zx9 W u' G rp rc hs r vs:=
 ⟨k.row.gk hE hb hn hT.2.2.2.2,k.map.gk hE hb,λx a=>(k.o x a).gk hE hb hT.1 hT.2.1 hT.2.2.1,λx a=>(k.v x a).gk hE hb hT.2.2.2.1⟩
theorem zx9.y0 (k:zx9 W u G rp rc hs r vs) {T:Nat} (hE:Ext (Ck W u T T) u u') (hT:RestT T):zx9 W u' G rp rc hs r vs:=
 ⟨k.row.y0 hE hT.2.2.2.2,k.map.y0 hE,λx a=>(k.o x a).y0 hE hT.1 hT.2.1 hT.2.2.1,λx a=>(k.v x a).y0 hE hT.2.2.2.1⟩
end
theorem valZc : cellsOf ti129.zero = xb (([], []), none, 0) := by kernel_rfl
def partM (g : B7 -> Option Nat) (l : List B7) : B7 -> Option Nat := λx => if x ∈ l then g x else none
theorem partM_step {g:B7->Option Nat} {l:List B7} {x:B7} {b:Nat} (h:g x=some b):setM (partM g l) x b=partM g (l++[x]):=by
 funext y;unfold setM partM;by_cases e:y=x;subst e;rw[aL Z,aL zq,h];rw[aI e];simp[e]
theorem partM_all {g:B7->Option Nat} {l:List B7} (h:∀x b,g x=some b->x∈l):partM g l=g:=by
 funext y;unfold partM;split;rfl;rename_i a;cases hg:g y with
 |none=>rfl
 |some b=>exact absurd (h y b hg) a
theorem twin_calls (w:World) {H:Nat->Prop} {h:uk} (hx:y7 w H h) (hH:∀y,H y->y<w.heap.size):
  gn prog 57 [.agg h.c.toArray] w λv w'=>∃h':uk,v= .agg h'.c.toArray/\h'.hs=h.hs/\h'.vs=h.vs/\yz8 w w' (λy=>H y\/w.heap.size<=y) h'/\Ext No w w':=by
 have i:=hx.map;have cs:=hx.fev;refine gz func57 (have j:=Ext.refl No w;qr (gt Z λb1 w1 ct f bb=> have i:=i.ga bb;have j:=j.gb bb;have f:j0 w1 b1 121 (h.c):=f;gt Z λb2 w2 bp d a5=> have bq:=al j.size bp;have f:=f.ga a5;have i:=i.ga a5;have j:=j.gb a5;have d:j0 w2 b2 121 ([.slice none 0 0,.map none,.slice none 0 0]):=d;u3 (have a6:=d.lt;have bc:=j.size;ju (α:=(Nat)×Nat×Nat) [1,2] Z (λz=>[(3,.pointer (some ⟨z.2.1,0,none⟩))]) (λz u=>(xx5 u z.1 zx5 (λ_=>none)/\w.heap.size<=z.1/\MapO u h.m zx5 (placeOf (h.hs.map je.id)))/\j0 u b1 121 (h.c)/\j0 u b2 121 ([.slice none 0 0,.map none,.slice none 0 0])/\j0 u z.2.1 121 ([.slice h.rp h.hs.length h.hs.length,.map (some z.1),.slice (some ⟨z.2.2,0,none⟩) h.vs.length h.vs.length])/\w2.heap.size<=z.2.1/\j0 u z.2.2 129 (Df h.vs.length (xb (([],[]),none,0)))/\w2.heap.size<=z.2.2/\z.2.1≠z.2.2/\Ext No w u) ?_ ?_)));have J:=aB w2.heap.size;refine yw8 Z 19 19 [19] (No) zf λw3 au cu=>?_;have aw:=f;have bd:=i;have f:=f.ga au;have d:=d.ga au;have i:=i.ga au;have J:=al J au.size;have j:=j.gb au;have F:Ext No _ w3:=au;obtain⟨nn,br⟩:=bd.len;refine u9 [qP 0,qP 1,qP 2,qP 3,qP 4,qP 5,qP 6,qP 7,qP 8,qP 9,qP 10,qP 11,qP 13,qP 14,qP 15] 4 Z zf (gw ge 1 Z (j5 ge Z Z (λw' M=>(aw.ga M).cell Z) (gw ge 1 Z (j5 ge Z Z (λw' M=>(aw.ga M).cell Z) (gw ge 2 Z (j5 ge Z Z (λw' M=>(aw.ga M).cell Z) (gw ge 1 Z (yq1 ge Z Z 0 h.hs.length h.hs.length 105 Z (.inl ⟨Z,Z⟩) (.inl Z) (.inr ⟨Z,Z⟩) (aJ _) (aB _) hx.rc ?_))))))));rw[qe,bB];refine gw ge 1 Z (j5 ge Z Z (λw' M=>(aw.ga M).cell Z) (wd_lnO ge Z Z (n:=nn) (λw' M=>br w' M) (gw ge 1 Z (j5 ge Z Z (λw' M=>(aw.ga M).cell Z) (gw ge 1 Z (zu Z (C2 [12,16,18] Z zf ⟨⟨_,Z,?_⟩,⟨_,Z,?_⟩,⟨_,Z,?_⟩,trivial⟩)))))));have ah:=j;refine st_mms ge idV IsId zx5 Z λr w4 hr l ak cv=>⟨F.gb ak,have f:=f.ga ak;have d:=d.ga ak;have i:=i.ga ak;have J:=al J ak.size;have j:=j.gb ak;have F:=F.gb ak;have G:=al ah.size hr;u9 [] 3 Z zf (zu Z (C2 [16,18] Z zf ⟨⟨_,Z,?_⟩,⟨_,Z,?_⟩,trivial⟩))⟩
 exact zx8 ge Z h.vs.length h.vs.length 40 Z valZc Z zd Z Z (aB _) zk zn λk w5 A a ai cw=>⟨F.gb ai,have q:=al J A;have f:=f.ga ai;have d:=d.ga ai;have i:=i.ga ai;have l:=l.ga ai;have J:=al J ai.size;have j:=j.gb ai;have F:=F.gb ai;have a:j0 w5 k 129 (Df h.vs.length (xb (([],[]),none,0))):=a;u9 [qP 17,(18,false)] 0 Z zf (wd_bd ge Z Z ⟨⟨Z,by decide⟩,⟨Z,by decide⟩,⟨Z,by decide⟩,trivial⟩ (l':=[.slice h.rp h.hs.length h.hs.length,.map (some r),.slice (some ⟨k,0,none⟩) h.vs.length h.vs.length]) Z (jv Z (Dg ge Z λb3 w6 p g am=>⟨F.gb am,have C:=j3 f.lt p;have D:=j3 d.lt p;have B:=j3 a.lt p;have Y:=al j.size p;have E:=al J p;have f:=f.ga am;have d:=d.ga am;have a:=a.ga am;have i:=i.ga am;have l:=l.ga am;have j:=j.gb am;js (have t:=g;wb Z (j9 (l':=[.slice h.rp h.hs.length h.hs.length,.map (some r),.slice (some ⟨k,0,none⟩) h.vs.length h.vs.length]) ge g Z Z Z Z OneC.h λw7 g av cx=> have f:=f.gk av C;have d:=d.gk av D;have a:=a.gk av B;have i:=i.gk av t;have l:=l.gk av t;have j:=j.gi av Y;ja (j2 ((r),b3,k) Z ⟨⟨l,G,i⟩,f,d,g,E,a,q,B.symm,j⟩)))⟩)))⟩
 exact Dg ge Z λb3 w8 p g aj=>⟨F.gb aj,have C:=j3 f.lt p;have D:=j3 d.lt p;have Y:=al j.size p;have E:=al J p;have f:=f.ga aj;have d:=d.ga aj;have i:=i.ga aj;have l:=l.ga aj;have J:=al J aj.size;have j:=j.gb aj;have F:=F.gb aj;u9 [(16,false),qP 17] 0 Z zf (jv Z (zx8 ge Z h.vs.length h.vs.length 40 Z valZc Z zd Z Z (aB _) zk zn λk w9 A a an cy=>⟨F.gb an,have s:=j3 g.lt A;have q:=al J A;have f:=f.ga an;have d:=d.ga an;have g:=g.ga an;have i:=i.ga an;have l:=l.ga an;have j:=j.gb an;have a:j0 w9 k 129 (Df h.vs.length (xb (([],[]),none,0))):=a;wd_bd ge Z Z ⟨⟨Z,by decide⟩,⟨Z,by decide⟩,⟨Z,by decide⟩,trivial⟩ (l':=[.slice h.rp h.hs.length h.hs.length,.map (some r),.slice (some ⟨k,0,none⟩) h.vs.length h.vs.length]) Z (js (have t:=g;wb Z (j9 (l':=[.slice h.rp h.hs.length h.hs.length,.map (some r),.slice (some ⟨k,0,none⟩) h.vs.length h.vs.length]) ge g Z Z Z Z OneC.h λcz g I b8=> have f:=f.gk I C;have d:=d.gk I D;have a:=a.gk I s.symm;have i:=i.gk I t;have l:=l.gk I t;have j:=j.gi I Y;ja (j2 ((r),b3,k) Z ⟨⟨l,G,i⟩,f,d,g,E,a,q,s,j⟩))))⟩))⟩
 refine zx8 ge Z h.vs.length h.vs.length 40 Z valZc Z zd Z Z (aB _) zk zn λk bs A a O b9=>⟨F.gb O,have q:=al J A;have f:=f.ga O;have d:=d.ga O;have i:=i.ga O;have J:=al J O.size;have j:=j.gb O;have F:=F.gb O;have a:j0 bs k 129 (Df h.vs.length (xb (([],[]),none,0))):=a;u9 [] 3 Z zf (zu Z (C2 [12,18] Z zf ⟨⟨_,Z,?_⟩,⟨_,Z,?_⟩,trivial⟩))⟩
 have ah:=j;exact st_mms ge idV IsId zx5 Z λr c0 hr l K ca=>⟨F.gb K,have f:=f.ga K;have d:=d.ga K;have a:=a.ga K;have i:=i.ga K;have J:=al J K.size;have j:=j.gb K;have F:=F.gb K;have G:=al ah.size hr;u9 [qP 17,(18,false)] 0 Z zf (wd_bd ge Z Z ⟨⟨Z,by decide⟩,⟨Z,by decide⟩,⟨Z,by decide⟩,trivial⟩ (l':=[.slice h.rp h.hs.length h.hs.length,.map (some r),.slice (some ⟨k,0,none⟩) h.vs.length h.vs.length]) Z (jv Z (Dg ge Z λb3 c1 p g P=>⟨F.gb P,have C:=j3 f.lt p;have D:=j3 d.lt p;have B:=j3 a.lt p;have Y:=al j.size p;have E:=al J p;have f:=f.ga P;have d:=d.ga P;have a:=a.ga P;have i:=i.ga P;have l:=l.ga P;have j:=j.gb P;js (have t:=g;wb Z (j9 (l':=[.slice h.rp h.hs.length h.hs.length,.map (some r),.slice (some ⟨k,0,none⟩) h.vs.length h.vs.length]) ge g Z Z Z Z OneC.h λc2 g aa cb=> have f:=f.gk aa C;have d:=d.gk aa D;have a:=a.gk aa B;have i:=i.gk aa t;have l:=l.gk aa t;have j:=j.gi aa Y;ja (j2 ((r),b3,k) Z ⟨⟨l,G,i⟩,f,d,g,E,a,q,B.symm,j⟩)))⟩)))⟩
 exact Dg ge Z λb3 c3 p g Q=>⟨F.gb Q,have C:=j3 f.lt p;have D:=j3 d.lt p;have B:=j3 a.lt p;have Y:=al j.size p;have E:=al J p;have f:=f.ga Q;have d:=d.ga Q;have a:=a.ga Q;have i:=i.ga Q;have j:=j.gb Q;have F:=F.gb Q;u9 [(12,false),qP 17] 0 Z zf (have ah:=j;jv Z (st_mms ge idV IsId zx5 Z λr c4 hr l R cc=>⟨F.gb R,have f:=f.ga R;have d:=d.ga R;have a:=a.ga R;have g:=g.ga R;have i:=i.ga R;have j:=j.gb R;have G:=al ah.size hr;wd_bd ge Z Z ⟨⟨Z,by decide⟩,⟨Z,by decide⟩,⟨Z,by decide⟩,trivial⟩ (l':=[.slice h.rp h.hs.length h.hs.length,.map (some r),.slice (some ⟨k,0,none⟩) h.vs.length h.vs.length]) Z (js (have t:=g;wb Z (j9 (l':=[.slice h.rp h.hs.length h.hs.length,.map (some r),.slice (some ⟨k,0,none⟩) h.vs.length h.vs.length]) ge g Z Z Z Z OneC.h λc5 g ab cd=> have f:=f.gk ab C;have d:=d.gk ab D;have a:=a.gk ab B;have i:=i.gk ab t;have l:=l.gk ab t;have j:=j.gi ab Y;ja (j2 ((r),b3,k) Z ⟨⟨l,G,i⟩,f,d,g,E,a,q,B.symm,j⟩))))⟩))⟩
 refine Dg ge Z λb3 c6 p g S=>⟨F.gb S,have C:=j3 f.lt p;have D:=j3 d.lt p;have Y:=al j.size p;have E:=al J p;have f:=f.ga S;have d:=d.ga S;have i:=i.ga S;have J:=al J S.size;have j:=j.gb S;have F:=F.gb S;u9 [] 3 Z zf (zu Z (C2 [12,16] Z zf ⟨⟨_,Z,?_⟩,⟨_,Z,?_⟩,trivial⟩))⟩
 have ah:=j;exact st_mms ge idV IsId zx5 Z λr c7 hr l L ce=>⟨F.gb L,have f:=f.ga L;have d:=d.ga L;have g:=g.ga L;have i:=i.ga L;have J:=al J L.size;have j:=j.gb L;have F:=F.gb L;have G:=al ah.size hr;u9 [(16,false),qP 17] 0 Z zf (jv Z (zx8 ge Z h.vs.length h.vs.length 40 Z valZc Z zd Z Z (aB _) zk zn λk bt A a T cf=>⟨F.gb T,have s:=j3 g.lt A;have q:=al J A;have f:=f.ga T;have d:=d.ga T;have g:=g.ga T;have i:=i.ga T;have l:=l.ga T;have j:=j.gb T;have a:j0 bt k 129 (Df h.vs.length (xb (([],[]),none,0))):=a;wd_bd ge Z Z ⟨⟨Z,by decide⟩,⟨Z,by decide⟩,⟨Z,by decide⟩,trivial⟩ (l':=[.slice h.rp h.hs.length h.hs.length,.map (some r),.slice (some ⟨k,0,none⟩) h.vs.length h.vs.length]) Z (js (have t:=g;wb Z (j9 (l':=[.slice h.rp h.hs.length h.hs.length,.map (some r),.slice (some ⟨k,0,none⟩) h.vs.length h.vs.length]) ge g Z Z Z Z OneC.h λc8 g ac cg=> have f:=f.gk ac C;have d:=d.gk ac D;have a:=a.gk ac s.symm;have i:=i.gk ac t;have l:=l.gk ac t;have j:=j.gi ac Y;ja (j2 ((r),b3,k) Z ⟨⟨l,G,i⟩,f,d,g,E,a,q,s,j⟩))))⟩))⟩
 exact zx8 ge Z h.vs.length h.vs.length 40 Z valZc Z zd Z Z (aB _) zk zn λk bu A a U ch=>⟨F.gb U,have s:=j3 g.lt A;have q:=al J A;have f:=f.ga U;have d:=d.ga U;have g:=g.ga U;have i:=i.ga U;have j:=j.gb U;have F:=F.gb U;have a:j0 bu k 129 (Df h.vs.length (xb (([],[]),none,0))):=a;u9 [(12,false),qP 17] 0 Z zf (have ah:=j;jv Z (st_mms ge idV IsId zx5 Z λr c9 hr l V ci=>⟨F.gb V,have f:=f.ga V;have d:=d.ga V;have g:=g.ga V;have a:=a.ga V;have i:=i.ga V;have j:=j.gb V;have G:=al ah.size hr;wd_bd ge Z Z ⟨⟨Z,by decide⟩,⟨Z,by decide⟩,⟨Z,by decide⟩,trivial⟩ (l':=[.slice h.rp h.hs.length h.hs.length,.map (some r),.slice (some ⟨k,0,none⟩) h.vs.length h.vs.length]) Z (js (have t:=g;wb Z (j9 (l':=[.slice h.rp h.hs.length h.hs.length,.map (some r),.slice (some ⟨k,0,none⟩) h.vs.length h.vs.length]) ge g Z Z Z Z OneC.h λda g ad cj=> have f:=f.gk ad C;have d:=d.gk ad D;have a:=a.gk ad s.symm;have i:=i.gk ad t;have l:=l.gk ad t;have j:=j.gi ad Y;ja (j2 ((r),b3,k) Z ⟨⟨l,G,i⟩,f,d,g,E,a,q,s,j⟩))))⟩))⟩
 rintro⟨r,b3,k⟩ db ⟨⟨l,G,i⟩,f,d,g,p,a,A,s,j⟩;have ap:b2≠k:=j3 a6 A;have a2:=al bc A;refine gp (qj Z (gx Z (f.cell Z) (have bv:=j;have dc:=l.lt;wl (st_rgO ge Z i λit N dd bw hI ae=>?_))));have f:=f.ga ae;have d:=d.ga ae;have g:=g.ga ae;have a:=a.ga ae;have l:=l.ga ae;have j:=j.gb ae;have bf:=al bv.size bw;have bg:it≠r:=by omega
 have bx:∀r2,h.m=some r2->r2≠r:=λr2 e e2=>by have:=hH r2 (hx.fm r2 e);omega
 refine u3 (j8 (jl (α:=List B7) [1,2,3,26] Z (λz=>[]) (λz u=>(zv5 u it h.m zx5 (placeOf (h.hs.map je.id)) N z/\xx5 u r zx5 (partM (placeOf (h.hs.map je.id)) z))/\j0 u b1 121 (h.c)/\j0 u b2 121 ([.slice none 0 0,.map none,.slice none 0 0])/\j0 u b3 121 ([.slice h.rp h.hs.length h.hs.length,.map (some r),.slice (some ⟨k,0,none⟩) h.vs.length h.vs.length])/\j0 u k 129 (Df h.vs.length (xb (([],[]),none,0)))/\Ext No w u) (λz u=>N-z.length) ([]) Z ⟨⟨hI,by rw[show partM (placeOf (h.hs.map je.id)) []=λ_=>none from by funext x;simp[partM]];exact l⟩,f,d,g,a,j⟩ ?_));rintro ax de ⟨⟨hI,l⟩,f,d,g,a,j⟩;refine qr (wl (st_nxO Z hI (λbh=>?_) (λxk bk df bz aq dg ck b0 bi af cm=>?_)));refine j6 ge Z (u3 (gp (uc Z (Bh (qj Z (jd g Z Z (j6 ge Z (jd f Z Z (have a7:=a;wl (yj2 ge Z 2 Z a (Src.slice (hx.vals.ga j) OneC.h) (aB _) (by rw[va];exact Nat.le_of_eq (aV _)) λb5 a3 ar cn=>?_))))))))));have a:j0 b5 k 129 (h.vs.flatMap xb):=by rw[Bv (by rw[va,hx.vals.1];rfl)] at a3;exact a3
 have d:=d.gk ar ap;have g:=g.gk ar s;have l:=l.gk ar a7;have j:=j.gi ar a2;exact u3 (qr (jf g Z Z (have bj:=d;wl (j9 (l':=[.slice h.rp h.hs.length h.hs.length,.map (some r),.slice (some ⟨k,0,none⟩) h.vs.length h.vs.length]) ge d Z Z Z Z OneC.h λdh d ay cp=> have a:=a.gk ay ap.symm;have l:=l.gk ay bj;have j:=j.gi ay bq;u3 (gv (u7 [_] ⟨⟨b2,0,Z,ud ge Z Z d.ql Z⟩,trivial⟩ ⟨⟨h.rp,h.hs.length,h.hs,some r,some ⟨k,0,none⟩,h.vs.length,h.vs⟩,Z,Z,Z,⟨.inl ⟨Z,hx.row.ga j,λb b6 e=>hH b (hx.fr b b6 e)⟩,hx.fr.mono λ_=> .inl,⟨r,Z,G,by rw[partM_all bh] at l;exact l⟩,ky.blk a a2 (hx.vals.1) zn,λx h'=>((hx.o x h').ext j λ_ _=>_root_.id).mono λ_=> .inl,λx h'=>((hx.v x h').ext j λ_ _=>_root_.id).mono λ_=> .inl,hx.few,hx.fev,λy hy=> .inr hy⟩,j⟩))))));have f:=f.gk af (hI.neB f).1.symm;have d:=d.gk af (hI.neB d).1.symm;have g:=g.gk af (hI.neB g).1.symm;have a:=a.gk af (hI.neB a).1.symm;have l:=l.ext af bg.symm;have hI:=b0;have j:=j.gi af bf;refine kg Z (gp (Cd Z (xg (j8 (qr ?_)))));obtain⟨rr,_,bm⟩:=bi;refine wl (st_en Z bm (j6 ge Z (gt Z λb4 di az a0 W=> have a8:=j3 f.lt az;have a9:=j3 d.lt az;have ba:=j3 g.lt az;have a1:=j3 a.lt az;have b7:=al j.size az;have f:=f.ga W;have d:=d.ga W;have g:=g.ga W;have a:=a.ga W;have l:=l.ga W;have hI:=hI.ga W;have j:=j.gb W;have a4:=a0;wl (j9 (l':=gh xk) ge a0 Z Z (by rw[gm];exact aq) (by rw[gm,aq];rfl) OneC.h λdj a0 X cq=> have f:=f.gk X a8;have d:=d.gk X a9;have g:=g.gk X ba;have a:=a.gk X a1;have l:=l.gk X a4;have hI:=hI.gk X a4;have j:=j.gi X b7;kg Z (yy Z (jd g Z Z (jf a0 Z (by rw[gm];exact aq) (j6 ge Z (wl (st_mu ge Z idK aq Z l (b:=bk) Z λdk bn ag cr=>?_))))))))));rw[partM_step bz] at bn;have f:=f.xm l ag;have d:=d.xm l ag;have g:=g.xm l ag;have a:=a.xm l ag;have hI:=hI.ext ag bg bx;have j:=j.gi ag G;exact gl (jr (jh (ax++[xk]) Z ⟨⟨hI,bn⟩,f,d,g,a,j⟩ (by rw[ao];show N-(ax.length+1)<N-ax.length;omega)))
end Go.Proofs.YtpdiphfjmepijaaGreatDoor
namespace Go.Vc
section
variable {P : Program} {I : uh} {f : Fs} {ops : Array Oper} {o : Oper} {env : Env} {w : World} {K : Env -> World -> Prop}
def capE (I : uh) (n : Nat) (ops : Array Oper) (env : Env) (o : Oper) : Option (Nat × Nat) :=
  match pre n ops env o with
  | false => none
  | true => match o.dst with
    | some d => match o.op with
      | .call { callee := .builtin .cap, args := xs, argTypes := ts } => match xs.toList with
        | [x] => match ts.toList with
          | [t] => match z7 I t with
            | some y => match y.desc with
              | .slice _ => match xz env x with
                | some (.slice _ _ c) => some (c, d)
                | _ => none
              | _ => none
            | none => none
          | _ => none
        | _ => none
      | _ => none
    | none => none
theorem st_cap (hI:I.Ok P) {c d:Nat} (h:capE I f.n ops env o=some (c,d)) (k:K ((d,.int .i64 (c:Int))::env) w):St P f ops o env w K:=by
 unfold capE at h;split at h;cases h;rename_i j;obtain⟨l,m⟩:=pre_eq j;split at h;rename_i F q;split at h;rename_i r s a;split at h;rename_i x b;split at h;rename_i t g;split at h;rename_i y u;split at h;rename_i e z;split at h;rename_i p n G A;cases h;have i:=(hI.get u).under w;rw[z] at i;have B:r= #[x]:=by rw[<-b]
 have C:s= #[t]:=by rw[<-g]
 subst B C;have D:(Builtin.cap_ #[t] o.type #[.slice p n c]).run P w= .ok (.int .i64 (c:Int)) w:=by unfold Builtin.cap_;simp only[bX,cN];rw[jg i];rfl
 refine yt l m (v:= .int .i64 (c:Int)) (w':=w) (λH E=>?_) (by rw[q];exact k);unfold execOp;simp only[a,resolve,invoke,builtin,Sem.run_bind,aR,aD,List.map_toArray,dI,List.map_nil,E _ _ A,D];cases h;cases h;cases h;cases h;cases h;cases h;cases h
theorem run_app0 (hI:I.Ok P) {t t2 ty e:Nat} {y y2 g:TI} {kk:IntKind} (hy:z7 I t=some y) (he:y.desc= .slice e) (hg:z7 I e=some g) (hy2:z7 I t2=some y2) (hd2:y2.desc= .int kk)
  (hz:(cellsOf g.zero).length=g.size) (hz0:0<g.size) {p:Option Addr} {n c:Nat} {xs:List Value} (hsl:Sl w p n g.size xs) {m:Nat}
  (hm:n+m<=maxLen) (hb:(n+m)*g.bytes<=140737488355328) (hgr:c<n+m) (kx:IntKind):
  ∃c' w',(Builtin.append_ #[t,t2] ty #[.slice p n c,.int kx (m:Int)]).run P w= .ok (.slice (some ⟨w.heap.size,0,none⟩) (n+m) c') w'/\Own w' (some ⟨w.heap.size,0,none⟩) (n+m) c' e g.size (xs++Df m (cellsOf g.zero))/\Ext No w w':=by
 have H:=(hI.get hy).under w;rw[he] at H;have K:=(hI.get hg).sizeOf w;have k:=(hI.get hy2).under w;rw[hd2] at k;obtain⟨i,L,N,J,O⟩:=TI.Ok.info (hI.get hg);have d:=hsl.1;unfold maxLen at hm;have f:∀w:World,(typeInfo e).run P w= .ok i w:=λw=>by unfold typeInfo;simp[L]
 have u:IntKind.i64.wrap (m:Int)=(m:Int):=qc _ zk;have l:¬(n+m<=c):=by omega
 have v:¬((n+m:Nat):Int)>IntKind.i64.max:=by show¬((n+m:Nat):Int)>2^(64-1)-1;omega
 have x:¬Builtin.nextslicecap (n+m) c*i.bytes>2^48:=by have:=growslice_fits (need:=n+m) (old:=c) (bytes:=i.bytes) zk (by rw[J];exact hb);simp only[gt_iff_lt,Nat.not_lt];exact this
 have z:¬(m:Int)*(i.bytes:Int)>2^48:=by
  have Q:m*i.bytes<=(n+m)*g.bytes:=by rw[J];exact cC _ zk
  have M:((m*i.bytes:Nat):Int)<=140737488355328:=by omega
  rw[Int.natCast_mul] at M;omega
 have o:¬(m:Int)<0:=by omega
 have A:(choose (.appendCap (n+m) c e)).run P w= .ok (grownCap w (n+m) c e) w.drew:=by simp[Question.forced,grownCap]
 have q:(Builtin.firstCells g.size n (.slice p n c)).run P w.drew= .ok xs.toArray w.drew:=by
  rcases hsl.2 with j|⟨b,r,rfl,B⟩;have:xs=[]:=by rw[j] at d;simpa using d
  subst this;subst j;cases p with
  |none=>rfl
  |some a=>
   unfold Builtin.firstCells loadCells;rw[dA];rfl
  have C:Seg w.drew b (r+0) xs:=B;have:=x4 (P:=P) (n*g.size) 0 xs #[] C d;show(loadCellsFrom ⟨b,r,none⟩ 0 (n*g.size) #[]).run P w.drew=_;rw[this];simp
 have D:n+m<=grownCap w (n+m) c e:=by unfold grownCap Question.cut;exact Nat.le_add_right _ _
 have E:grownCap w (n+m) c e<=maxLen:=grownCap_le_maxLen w _ _ _ zb;have F:¬m*g.size=0\/m=0:=by rcases Nat.eq_zero_or_pos m with h|h;exact .inr h;exact .inl (by have:=Nat.mul_pos h hz0;omega)
 refine⟨grownCap w (n+m) c e,w.drew.alloc (.cells (xs++Df m (cellsOf g.zero)++Df (grownCap w (n+m) c e-(n+m)) (cellsOf g.zero)).toArray e),?_,.inr ⟨_,_,Z,Dt w.drew _ e,?_,D,E,?_⟩,?_⟩;unfold Builtin.append_;simp only[bX,cN,List.getElem?_cons_succ];rw[jg H];simp only[];rw[Sem.run_bind,K,aD];rw[jg k];have G:∀w:World,(asInt (.int kx (m:Int))).run P w= .ok (m:Int) w:=λ_=>rfl;simp only[pure_bind,cT,Sem.run_bind,G,aD,u,Sem.run_ite,o,dF,f,z,aR,bV,l,v,false_and,x,A,run_askRoom,q,(hI.get hg).zeroValue,Bool.not_true,bO,newRow,run_newObj];have s:g.zero.cells=(cellsOf g.zero).toArray:=by rw[<-yb]
 rcases F with j|j;rw[aI j];simp only[Sem.run_bind,(hI.get hg).zeroValue,aR,aD,s,C4 _ _ (show 0<(cellsOf g.zero).length by omega),List.append_toArray];rfl;subst j;simp only[dA,cT,aR,aD,s,C4 _ _ (show 0<(cellsOf g.zero).length by omega)];simp only[Df,List.replicate_zero,List.flatten_nil,bE,Array.append_empty,List.append_toArray];rfl;rw[ao,ao,va,va,hz,d,<-cS,<-cS];congr 1;omega;rw[cS,<-d,<-hz,<-va,<-ao,List.take_left];exact(Ext.drew w).then (Ext.alloc w.drew _ e)
structure App0Args where
  p : Option Addr
  n : Nat
  c : Nat
  e : Nat
  g : TI
  x : Int
  d : Nat
def app0E (I : uh) (n : Nat) (ops : Array Oper) (env : Env) (o : Oper) : Option App0Args :=
  match pre n ops env o with
  | false => none
  | true => match o.dst with
    | some d => match o.op with
      | .call { callee := .builtin .append, args := xs, argTypes := ts } => match xs.toList with
        | [s, x] => match ts.toList with
          | [t, t2] => match z7 I t with
            | some y => match y.desc with
              | .slice e => match z7 I e with
                | some g => match z7 I t2 with
                  | some y2 => match y2.desc with
                    | .int _ => match xz env s with
                      | some (.slice p m c) => match xz env x with
                        | some (.int _ q) => some ⟨p, m, c, e, g, q, d⟩
                        | _ => none
                      | _ => none
                    | _ => none
                  | none => none
                | none => none
              | _ => none
            | none => none
          | _ => none
        | _ => none
      | _ => none
    | none => none
theorem st_app0 (hI:I.Ok P) {s:App0Args} (h:app0E I f.n ops env o=some s) (sz by_:Nat) (hsz:s.g.size=sz) (hby:s.g.bytes=by_) {zs:List Value} (hzs:cellsOf s.g.zero=zs) (hz:zs.length=sz) (hz0:0<sz) {xs:List Value} (hsl:Sl w s.p s.n sz xs) (m:Nat) (hxm:s.x=(m:Int))
  (hm:s.n+m<=maxLen) (hb:(s.n+m)*by_<=140737488355328) (hgr:s.c<s.n+m)
  (k:∀b c' w',w.heap.size<=b->Own w' (some ⟨b,0,none⟩) (s.n+m) c' s.e sz (xs++Df m zs)->Ext No w w'->K ((s.d,.slice (some ⟨b,0,none⟩) (s.n+m) c')::env) w'):St P f ops o env w K:=by
 subst hsz;subst hby;subst hzs;unfold app0E at h;split at h;cases h;rename_i F;obtain⟨G,H⟩:=pre_eq F;split at h;rename_i X J;split at h;rename_i i L M;split at h;rename_i B C j;have l:i= #[B,C]:=by apply cH;simpa using j
 subst l;split at h;rename_i t N r;have u:L= #[t,N]:=by apply cH;simpa using r
 subst u;split at h;rename_i y O;split at h;rename_i e Q;split at h;rename_i g R;split at h;rename_i Y z;split at h;rename_i Z0 A;split at h;rename_i p n c S;split at h;rename_i D q T;cases h;simp only at*;subst hxm;obtain⟨c',w',U,a,V⟩:=run_app0 (P:=P) (ty:=o.type) hI O Q R z A hz hz0 hsl hm hb hgr D;refine yt G H (v:= .slice (some ⟨w.heap.size,0,none⟩) (n+m) c') (w':=w') (λρ E=>?_) (by rw[J];exact k _ c' w' (aB _) a V);have W:Array.map ρ #[B,C]= #[.slice p n c,.int D (m:Int)]:=by simp[E _ _ S,E _ _ T]
 simp only[execOp,M,resolve,Sem.run_bind,aR,aD,invoke,builtin,W,U];cases h;cases h;cases h;cases h;cases h;cases h;cases h;cases h;cases h;cases h;cases h
theorem st_extn {x:Operand} {xs:Array Operand} {ts:Array TypeId} {g:FuncId} {vs:List Value} {v:Value} {w':World} (ho:o.op= .call {callee:= .value x,args:=xs,argTypes:=ts}) (hg:takes ops env o=true) {d:Nat} (hd:o.dst=some d) (hdn:Nat.blt d f.n=true)
  (hx:xz env x=some (.func (.func g) #[] #[])) (hvs:evs env xs.toList=some vs) (hr:(callFunc g vs.toArray).run P w= .ok (.value v) w') (k:K ((d,v)::env) w'):St P f ops o env w K:=by
 refine yt (o:=o) (v:=v) (w':=w') hg (by rw[hd];exact hdn) (λm c=>?_) (by rw[hd];exact k)
 have a:∀(l:List Operand) vs,evs env l=some vs->l.map m=vs:=by
  intro l;induction l with
  |nil=>intro vs h;simp[evs] at h;subst h;rfl
  |cons y r ih=>
   intro vs h;simp only[evs] at h;split at h;rename_i u e;split at h;rename_i j b;simp at h;subst h;simp[c _ _ e,ih _ b];simp at h;simp at h
 have i:xs.map m=vs.toArray:=by apply cH;rw[Array.toList_map,a _ _ hvs]
 simp only[execOp,ho,resolve,i,c _ _ hx,Deferred.ofValue,Sem.run_bind,aR,aD,invoke,Array.empty_append,Array.append_empty,hr]
end
section
variable {P : Program} {I : uh} {f : Fs} {ops : Array Oper} {o : Oper} {env : Env} {w : World}
def eqPE (n : Nat) (ops : Array Oper) (env : Env) (o : Oper) : Option (Nat × Bool × Addr × Addr × Nat) :=
  match pre n ops env o with
  | false => none
  | true => match o.dst with
    | some d => match o.op with
      | .binOp op t x y _ => match xz env x with
        | some (.pointer (some a)) => match xz env y with
          | some (.pointer (some b)) => match op with
            | .eql => some (t, true, a, b, d)
            | .neq => some (t, false, a, b, d)
            | _ => none
          | _ => none
        | _ => none
      | _ => none
    | none => none
end
section
variable {P : Program} {I : uh} {f : Fs} {ops : Array Oper} {o : Oper} {env : Env} {w : World}
structure ClArgs where
  p : Option Addr
  n : Nat
  g : TI
def clE (I : uh) (n : Nat) (ops : Array Oper) (env : Env) (o : Oper) : Option ClArgs :=
  match pre n ops env o with
  | false => none
  | true => match o.dst with
    | none => match o.op with
      | .call { callee := .builtin .clear, args := xs, argTypes := ts } => match xs.toList with
        | [s] => match ts.toList with
          | [t] => match z7 I t with
            | some y => match y.desc with
              | .slice e => match z7 I e with
                | some g => match xz env s with
                  | some (.slice p m _) => some ⟨p, m, g⟩
                  | _ => none
                | none => none
              | _ => none
            | none => none
          | _ => none
        | _ => none
      | _ => none
    | some _ => none
theorem st_cl {K:Env->World->Prop} (hI:I.Ok P) {s:ClArgs} (h:clE I f.n ops env o=some s) {zs:List Value} (hz:cellsOf s.g.zero=zs) (hzl:0<zs.length) (h1:∀v∈zs,v.oneCell'=true)
  (k0:s.n=0->K env w)
  (k:0<s.n->∃b off T l,s.p=some ⟨b,off,none⟩/\j0 w b T l/\off+s.n*zs.length<=l.length/\∀w',j0 w' b T (put l off (Df s.n zs))->Ext (One b) w w'->w'.heap.size=w.heap.size->K env w'):St P f ops o env w K:=by
 subst hz;unfold clE at h;split at h;cases h;rename_i V;obtain⟨O,Q⟩:=pre_eq V;split at h;rename_i R;split at h;rename_i j W S;split at h;rename_i q u;have x:j= #[q]:=by apply cH;simpa using u
 subst x;split at h;rename_i t z;have A:W= #[t]:=by apply cH;simpa using z
 subst A;split at h;rename_i y X;split at h;rename_i e Y;split at h;rename_i g Z0;split at h;rename_i p n c U;cases h;simp only at*;have B:=(hI.get X).under w;rw[Y] at B;have C:=(hI.get Z0).zeroValue w;rcases Nat.eq_zero_or_pos n with D|D;subst D;refine yt O Q (v:= .tuple #[]) (w':=w) (λρ E=>?_) (by rw[R];exact k0 Z);have F:Array.map ρ #[q]= #[.slice p 0 c]:=by simp[E _ _ U]
 have a:(Builtin.clear_ #[t] o.type #[.slice p 0 c]).run P w= .ok (.tuple #[]) w:=by unfold Builtin.clear_;simp only[bX,cN];rw[jg B];cases p<;>simp
 simp only[execOp,S,resolve,Sem.run_bind,aR,aD,invoke,builtin,F,a];obtain⟨b,off,T,l,rfl,d,G,kk⟩:=k D;have H:(Df n (cellsOf g.zero)).length=n*(cellsOf g.zero).length:=va _ _
 obtain⟨w',J,L,hE,M⟩:=x7 (P:=P) (Df n (cellsOf g.zero)) w l off 0 d (by rw[H];omega) (λv i=>by
  unfold Df at i
  obtain⟨r,J,i⟩:=List.mem_flatten.1 i
  rw[(List.mem_replicate.1 J).2] at i
  exact h1 v i)
 refine yt O Q (v:= .tuple #[]) (w':=w') (λρ E=>?_) (by rw[R];exact kk w' L hE M);have F:Array.map ρ #[q]= #[.slice (some ⟨b,off,none⟩) n c]:=by simp[E _ _ U]
 have N:(Builtin.zeroCells g.zero.cells n).toList=Df n (cellsOf g.zero):=by rw[show g.zero.cells=(cellsOf g.zero).toArray from by rw[<-yb],C4 _ _ hzl]
 have a:(Builtin.clear_ #[t] o.type #[.slice (some ⟨b,off,none⟩) n c]).run P w= .ok (.tuple #[]) w':=by
  unfold Builtin.clear_;simp only[bX,cN];rw[jg B];obtain⟨m,rfl⟩:∃m,n=m+1:=⟨n-1,by omega⟩
  simp only[Sem.run_bind,C,aD,N,J,aR]
 simp only[execOp,S,resolve,Sem.run_bind,aR,aD,invoke,builtin,F,a];cases h;cases h;cases h;cases h;cases h;cases h;cases h;cases h
end
end Go.Vc
namespace Go.Proofs.YtpdiphfjmepijaaGreatDoor
open Go.Proofs.Tryz
open Go.Vc
theorem ownCut {w:World} {p:Option Addr} {n c T sz:Nat} {xs:List Value} (h:Own w p n c T sz xs) {i:Nat} (hi:i<=n):Own w p i c T sz (xs.take (i*sz)):=by
 rcases h with⟨a,e,d,f⟩|⟨b,l,a,e,d,f,g,j⟩;refine .inl ⟨a,by omega,d,by rw[f];simp⟩;exact .inr ⟨b,l,a,e,d,by omega,g,by rw[<-j,List.take_take,bP (cC _ hi)]⟩
theorem vals_take (vs:List Bm) (i:Nat) (hi:i<=vs.length):(vs.flatMap xb).take (i*2)=(vs.take i).flatMap xb:=by
 rw[<-cP i vs,aY,dC (by rw[xw5 λx _=>Al x,aH,bP hi]),cP]
theorem vals_drop (vs:List Bm) (i:Nat) (hi:i<=vs.length):(vs.flatMap xb).drop (i*2)=(vs.drop i).flatMap xb:=by
 conv=>lhs;rw[<-cP i vs,aY,List.drop_left' (by rw[xw5 λx _=>Al x,aH,bP hi])]
theorem xz1 (vs : List Bm) : (vs.flatMap xb).length = vs.length * 2 := xw5 λx _ => Al x
theorem Sl.vdrop {w:World} {p:Option Addr} {vs:List Bm} (h:Sl w p vs.length 2 (vs.flatMap xb)) {i c:Nat} (hi:i<=vs.length) (hc:vs.length<=c):Sl w (ur p i c 2) (vs.length-i) 2 ((vs.drop i).flatMap xb):=by
 have:=h.slice i vs.length c hi hc (aB _);rw[vals_drop vs i hi,aN (by rw[xz1,aX];exact aB _)] at this;exact this
theorem ins_fit {l A B X:List Value} {i n:Nat} (h:l.take (n*2)=A++B) (hA:A.length=i*2) (hB:B.length=(n-i)*2) (hX:X.length=2) (hi:i<=n) (hl:(n+1)*2<=l.length):(put (put l ((i+1)*2) B) (i*2) X).take ((n+1)*2)=A++X++B:=by
 have a:l.take (i*2)=A:=by
  have:(l.take (n*2)).take (i*2)=A:=by rw[h,dC hA]
  rw[List.take_take,bP zk] at this;exact this
 have b:put l ((i+1)*2) B=l.take ((i+1)*2)++B++l.drop ((i+1)*2+B.length):=put_eq _ _ _ zk;have c:(l.take ((i+1)*2)).length=(i+1)*2:=by rw[aH];omega
 rw[put_eq _ _ _ (by rw[vz];omega),b,hX,show i*2+2=(i+1)*2 from by omega];rw[show(l.take ((i+1)*2)++B++l.drop ((i+1)*2+B.length)).drop ((i+1)*2)=B++l.drop ((i+1)*2+B.length) from by rw[aM,List.drop_left' c]];rw[show(l.take ((i+1)*2)++B++l.drop ((i+1)*2+B.length)).take (i*2)=A from by rw[aM,bW zk,List.take_take,bP zk,a]];rw[<-aM,dC (by rw[ao,ao,hA,hX,hB];omega)]
theorem ins_grow {l A B X:List Value} {i n:Nat} (h:l.take (i*2)=A) (hA:A.length=i*2) (hB:B.length=(n-i)*2) (hX:X.length=2) (hi:i<=n) (hl:(n+1)*2<=l.length):(put (put l (i*2) X) ((i+1)*2) B).take ((n+1)*2)=A++X++B:=by
 have b:put l (i*2) X=A++X++l.drop ((i+1)*2):=by rw[put_eq _ _ _ zk,h,hX,show i*2+2=(i+1)*2 from by omega]
 rw[put_eq _ _ _ (by rw[vz];omega),b];have a:(A++X).length=(i+1)*2:=by rw[ao,hA,hX];omega
 rw[dC a,dC (by rw[ao,a,hB];omega)]
theorem put_lo {l vs:List Value} {k:Nat} (h:k+vs.length<=l.length):(put l k vs).take k=l.take k:=by
 rw[put_eq _ _ _ h,aM,dC zl]
theorem vdelete_calls (w:World) {W:World} (hW:Ext No W w) {p:Option Addr} {c:Nat} {vs:List Bm} (hq:ky W w p vs.length c 129 2 (vs.flatMap xb)) (hl:vs.length<1000000) {i:Nat} (hi:i<vs.length):
  gn prog 186 [.slice p vs.length c,.int .i64 (i:Int),.int .i64 ((i+1:Nat):Int)] w λv w'=>∃q k,v= .slice q (vs.take i++vs.drop (i+1)).length k/\ky W w' q (vs.take i++vs.drop (i+1)).length k 129 2 ((vs.take i++vs.drop (i+1)).flatMap xb)/\Ext (jb p) w w':=by
 have b:=hq.own.cap;obtain⟨o,I,g,C,J,D,r,E⟩:=hq.own.opened zk;have j:(vs.take i++vs.drop (i+1)).length=i+(vs.length-(i+1)):=by rw[ao,aH,aX,bP zk]
 refine gz func186 (have d:=Ext.refl (jb p) w;kw Z (qj Z (wl (Ba ge Z i (i+1) vs.length 2 Z (.inl ⟨Z,Z⟩) (.inl Z) (.inl Z) zk zk b (u3 (gp (gp (j1 (kg Z (jy Z (λF=>?_) (λF=>?_)))))))))));exact absurd F zk;refine qf (jq (vo Z (ke Z 8 [qP 0,qP 1,qP 2,qP 3,qP 4,qP 5,(6,false),qP 7] [] (jb p) zf λK f L=> have M:=hq;have N:=d;have hq:=hq.ga f;have d:=d.gb f;have O:Ext (jb p) _ K:=f.no;gw ge 2 Z (yq1 ge Z Z 0 i c 2 Z (.inr ⟨Z,Z⟩) (.inl Z) (.inr ⟨Z,Z⟩) (aJ _) zk (aB _) ?_))));rw[qe,bB,bB];refine gw ge 2 Z (yq1 ge Z Z (i+1) vs.length c 2 Z (.inr ⟨Z,Z⟩) (.inr ⟨Z,Z⟩) (.inl Z) zk b (aB _) (jv Z (st_appC ge Z 2 40 Z Z Z zd (ownCut hq.own (i:=i) zk) (Src.slice (Sl.vdrop hq.sl (i:=i+1) zk b) OneC.h) zn zt λG m P s a=>⟨a.elim (λh=>O.then h.2.2.2) (λh=>absurd h.1 zt),?_⟩)));dsimp only at s a;obtain⟨_,Q,R,t⟩:_/\G=p/\m=c/\Ext (jb p) _ _:=a.elim id λh=>absurd h.1 zk;subst Q;subst R;have d:=d.then t;rw[vals_take vs i zk,<-aY] at s;obtain⟨l,u,x,z,A⟩:∃l,j0 P o 129 l/\l.length=m*2/\i+(vs.length-(i+1))<=m/\l.take ((i+(vs.length-(i+1)))*2)=(vs.take i++vs.drop (i+1)).flatMap xb:=by rcases s with⟨h,_⟩|⟨b',l,H,S,T,U,_,V⟩;rw[g] at h;cases h;rw[g] at H;cases H;exact⟨l,S,T,U,V⟩
 exact gw ge 1 Z (js (ja (jq (qj Z (wl (Ba ge Z (i+(vs.length-(i+1))) vs.length m 2 Z (.inr ⟨Z,Z⟩) (.inl Z) (.inl Z) zk zk (aB _) (wl (st_cl ge Z valZc zd OneC.h (λX=>absurd X (by show vs.length-(i+(vs.length-(i+1)))≠0;omega)) λ_=>⟨o,(i+(vs.length-(i+1)))*2,_,l,by dsimp only;rw[g,A6 zk,aV],u,by show(i+(vs.length-(i+1)))*2+(vs.length-(i+(vs.length-(i+1))))*2<=_;omega,λw3 n B Y=> have d:=d.then (B.mono λy _ e=>by have e:y=o:=e;rw[e];exact g);u3 (kw Z (gv (gy Z Z ⟨G,m,by rw[j],⟨by rw[j];exact .inr ⟨o,_,g,n,by rw[vz];exact x,z,r,by rw[put_lo (by show _+(Df (vs.length-(i+(vs.length-(i+1)))) _).length<=_;rw[va,Al];omega)];exact A⟩,hq.new⟩,d⟩)))⟩))))))))
theorem v_over (w:World) {bv pb ov op la ca lb cb T1 T2:Nat} {l1 l2:List Value} (hv:j0 w bv T1 l1) (hp:j0 w pb T2 l2) (hne:bv≠pb) (hl:l2≠[]):
  (callFunc 216 #[.slice (some ⟨bv,ov,none⟩) la ca,.slice (some ⟨pb,op,none⟩) lb cb]).run prog w= .ok (.value (.bool false)) w:=by
 rw[run_callFunc_extern func216 zf zf zf (e:=Extern.SlicesOverlaps.overlaps #[119,119] #[4]) zf];have a:∀w,(Go.sizeOf 129).run prog w= .ok 2 w:=λw=>(ge.get (t:=129) Z).sizeOf (w:=w);have b:w.shape? bv=some (T1,l1.length):=by unfold j0 at hv;simp[World.shape?,hv]
 have c:w.shape? pb=some (T2,l2.length):=by unfold j0 at hp;simp[World.shape?,hp]
 rw[Lib.run_overlaps_apart w 119 4 129 Tryz.underlying119 2 a ⟨bv,ov,none⟩ ⟨pb,op,none⟩ la ca lb cb hne T1 T2 l1.length l2.length b c (λe=>hl (aU e)) (hv.free _ Z) (hv.free _ Z)];rfl
theorem vinsert_calls (w:World) {W:World} (hW:Ext No W w) {p:Option Addr} {c:Nat} {vs:List Bm} (hq:ky W w p vs.length c 129 2 (vs.flatMap xb)) (hl:vs.length<1000000) {i:Nat} (hi:i<=vs.length) {bv:Nat} {x:Bm} (hv:j0 w bv 129 (xb x)) (hne:∀y,jb p y->y≠bv):
  gn prog 187 [.slice p vs.length c,.int .i64 (i:Int),.slice (some ⟨bv,0,none⟩) 1 1] w λv w'=>∃q k,v= .slice q (vs.take i++x::vs.drop i).length k/\ky W w' q (vs.take i++x::vs.drop i).length k 129 2 ((vs.take i++x::vs.drop i).flatMap xb)/\Ext (jb p) w w':=by
 have f:=hq.own.cap;have g:(vs.take i++x::vs.drop i).length=vs.length+1:=by rw[ao,aQ,aH,aX,bP hi];omega
 have N:((vs.take i).flatMap xb).length=i*2:=by rw[xz1,aH,bP hi]
 have hB:((vs.drop i).flatMap xb).length=(vs.length-i)*2:=by rw[xz1,aX]
 have O:(vs.flatMap xb).take (vs.length*2)=(vs.take i).flatMap xb++(vs.drop i).flatMap xb:=by rw[<-aY,cP,aN (by rw[xz1];exact aB _)]
 have u:(vs.take i++x::vs.drop i).flatMap xb=(vs.take i).flatMap xb++xb x++(vs.drop i).flatMap xb:=by rw[aY,cX,aM]
 refine gz func187 (have b:=Ext.refl (jb p) w;kw Z (qj Z (wl (Ba ge Z i vs.length c 2 Z (.inr ⟨Z,Z⟩) (.inr ⟨Z,Z⟩) (.inl Z) hi f (aB _) (u3 (qr (kg Z (gp (kw Z (jy Z (λo=>?_) (λo=>?_)))))))))));exact absurd o zd;refine qf (jq (vo Z (kw Z (jy Z (λo=>?_) (λo=>?_)))));have h0:i=vs.length:=by omega
 have e1:vs.take i=vs:=by rw[h0];exact bM
 have e2:vs.drop i=[]:=by rw[h0];exact List.drop_length
 exact qj Z (wl (x3 ge Z 2 40 Z Z Z zd hq (Src.slice (m:=1) ⟨Z,.inr ⟨bv,0,Z,hv.ql⟩⟩ OneC.h) zn zt (n':=(vs.take i++x::vs.drop i).length) (ys:=(vs.take i++x::vs.drop i).flatMap xb) (by rw[g]) (by rw[u,e1,e2];simp) hW λq k w1 P Q ab=> have b:=b.then Q;kg Z (gv (gu (gy Z Z ⟨q,k,Z,P,b⟩)))));have ac:i<vs.length:=by omega
 refine xg (gp (qj Z ?_));rw[qc _ zk];refine wl (st_cap ge Z (kg Z (jy Z (λo=>?_) (λo=>?_))));have ad:c<vs.length+1:=by omega
 refine qj Z (wl (Ba ge Z 0 i c 2 Z (.inr ⟨Z,Z⟩) (.inl Z) (.inr ⟨Z,Z⟩) (aJ _) zk (aB _) ?_));rw[qe,bB,bB];refine j6 ge Z ?_;rw[show IntKind.i64.wrap (IntKind.i64.wrap ((vs.length:Int)+((1:Nat):Int))-(i:Int))=((vs.length+1-i:Nat):Int) from by rw[qc ((vs.length:Int)+((1:Nat):Int)) zk,qc _ zk];omega];have G:=b;have R:=hq;have S:=hW;refine wl (st_app0 ge Z 2 40 Z Z valZc Z zd (ownCut hq.own hi).sl (vs.length+1-i) Z zn zt zt λt F w2 ae ho z=>?_);have hq:=hq.ga z;have hv:=hv.ga z;have b:=b.gb z;dsimp only at ho;obtain⟨l,a,A,H,B,C⟩:∃l,j0 w2 t 129 l/\l.length=F*2/\i+(vs.length+1-i)<=F/\F<=maxLen/\l.take (i*2)=(vs.take i).flatMap xb:=by rcases ho with⟨h,_⟩|⟨b',l,h1,h2,h3,h4,h5,h6⟩;cases h;cases h1;refine⟨l,h2,h3,h4,h5,?_⟩;have:=congrArg (List.take (i*2)) h6;rw[List.take_take,bP zk,vals_take vs i hi,dC N] at this;exact this
 have j:(vs.length+1)*2<=l.length:=by omega
 refine kg Z (qj Z (wl (Ba ge Z i (i+(vs.length+1-i)) F 2 Z (.inr ⟨Z,Z⟩) (.inr ⟨Z,Z⟩) (.inl Z) zk H (aB _) ?_)));rw[A6 zk,aV];refine j6 ge Z (wl (yj2 ge Z 2 Z a (Src.slice (m:=1) ⟨Z,.inr ⟨bv,0,Z,hv.ql⟩⟩ OneC.h) zm zm λw3 T J af=>?_));have b:=b.trans J λy K e=>by have e:y=t:=e;have:=G.size;omega
 have hq:=ky.mk (hq.own.ext J λy K e=>by have e:y=t:=e;have:=R.own.lt K;omega) hq.new;have a:=T;refine u3 (gp (ke Z 9 [qP 0,qP 1,qP 2,qP 3,qP 4,qP 5,qP 6,qP 7,(8,false)] [] (One t) zf λw4 r ag=>?_));have hq:=hq.ga r;have a:=a.ga r;have b:=b.gb r;have U:Ext (One t) _ w4:=r.no;refine gw ge 4 Z ?_;rw[qc _ zk];refine yq1 ge Z Z (i+1) (i+(vs.length+1-i)) F 2 Z (.inr ⟨Z,Z⟩) (.inr ⟨Z,Z⟩) (.inl (congrArg some zk)) zk H (aB _) ?_;rw[A6 zk,aV];refine gw ge 2 Z (yq1 ge Z Z i vs.length c 2 Z (.inr ⟨Z,Z⟩) (.inr ⟨Z,Z⟩) (.inl Z) hi f (aB _) (jv Z (yj2 ge Z 2 Z a (Src.slice (Sl.vdrop hq.sl hi f) OneC.h) zm (by rw[vz];first|omega|(dsimp only;omega)) λw5 V L ah=>⟨U.then L,?_⟩)));have b:=b.trans L λy K e=>by have e:y=t:=e;have:=G.size;omega
 have a:=V;refine js (ja (jq (kw Z (gv (gu (gy Z Z ?_))))));exact⟨_,F,by rw[g,show i+(vs.length+1-i)=vs.length+1 from by omega],⟨.inr ⟨t,_,Z,a,by rw[vz,vz];exact A,by omega,B,by rw[g,u];exact ins_grow C N hB Z hi j⟩,λy K=>by have e:t=y:=congrArg Addr.block (cl K);have:=S.size;omega⟩,b⟩
 have d:vs.length+1<=c:=by omega
 obtain⟨s,l,hp,a,A,ai,B,C⟩:=hq.own.opened zk;subst hp;have j:(vs.length+1)*2<=l.length:=by omega
 have M:s≠bv:=hne s Z;have X:=hq.new;have D:Sl w (some ⟨s,i*2,none⟩) (vs.length+1-(i+1)) 2 ((vs.drop i).flatMap xb):=by have:=Sl.vdrop hq.sl hi f;rw[A6 zk,aV] at this;rw[show vs.length+1-(i+1)=vs.length-i from by omega];exact this
 refine xg (qj Z ?_);rw[qc _ zk];refine wl (Ba ge Z 0 (vs.length+1) c 2 Z (.inr ⟨Z,Z⟩) (.inl (congrArg some zk)) (.inr ⟨Z,Z⟩) (aJ _) d (aB _) ?_);rw[qe,bB,bB];refine kg Z (gp (qj Z ?_));rw[qc _ zk];refine wl (Ba ge Z (i+1) (vs.length+1) c 2 Z (.inr ⟨Z,Z⟩) (.inr ⟨Z,Z⟩) (.inl (congrArg some zk)) zk d (aB _) ?_);rw[A6 zk,aV];refine wl (st_extn Z Z Z Z Z Z (v_over w hv a M.symm (λe=>by rw[e] at j;simp at j)) (kg Z (vk Z (λo=>?_) (λo=>?_))));refine gp (ke Z 9 [qP 0,qP 1,qP 2,qP 3,qP 4,qP 5,qP 6,qP 7,(8,false)] [] (jb (some ⟨s,0,none⟩)) zf λw6 n aj=> have hv:=hv.ga n;have a:=a.ga n;have D:=D.ga n;have b:=b.gb n;have U:Ext (jb (some ⟨s,0,none⟩)) _ w6:=n.no;gw ge 4 Z ?_);rw[qc _ zk];refine yq1 ge Z Z (i+1) (vs.length+1) c 2 Z (.inr ⟨Z,Z⟩) (.inr ⟨Z,Z⟩) (.inl (congrArg some zk)) zk d (aB _) ?_;rw[A6 zk,aV];refine gw ge 2 Z (yq1 ge Z Z i (vs.length+1) c 2 Z (.inr ⟨Z,Z⟩) (.inr ⟨Z,Z⟩) (.inl Z) zk d (aB _) ?_);rw[A6 zk,aV];refine jv Z (st_cpK ge Z 2 Z a Z zt D OneC.h (by show(i+1)*2+(vs.length+1-(i+1))*2<=_;omega) λw7 Y E ak=>⟨U.then (E.mono λy _ e=>by have e:y=s:=e;rw[e]),have b:=b.then (E.mono λy _ e=>by have e:y=s:=e;rw[e]);have hv:=hv.gk E M.symm;have a:=Y;js (ja (jq (qj Z (wl (Ba ge Z i (vs.length+1) c 2 Z (.inr ⟨Z,Z⟩) (.inr ⟨Z,Z⟩) (.inl Z) zk d (aB _) ?_)))))⟩);rw[A6 zk,aV];exact j6 ge Z (wl (yj2 ge Z 2 Z a (Src.slice (m:=1) ⟨Z,.inr ⟨bv,0,Z,hv.ql⟩⟩ OneC.h) zm (by rw[vz];first|omega|(dsimp only;omega)) λw8 I aa am=> have b:=b.then (aa.mono λy _ e=>by have e:y=s:=e;rw[e]);have a:=I;u3 (kw Z (gv (gu (gy Z Z ⟨_,c,by rw[g],⟨.inr ⟨s,_,Z,a,by rw[vz,vz];exact A,by omega,B,by rw[g,u];exact ins_fit (C.trans (by rw[<-O,aN (by rw[xz1];exact aB _)])) N hB Z hi j⟩,X⟩,b⟩))))));cases o
def Brg (W w : World) : Nat -> Prop := λy => W.heap.size <= y /\ ∀ T L, j0 w y T L -> T = 121 \/ T = 126 \/ T = 129
theorem Brg.map {W w:World} {r:Nat} {kv:List UInt8->Value} {okx:List UInt8->Prop} {β:Type} {enc:β->Value} {g:List UInt8->Option β} (hm:B0 kv okx w r enc g) (hn:W.heap.size<=r):∀y,y<w.heap.size->One r y->Brg W w y:=λy _ e=>by
 have e:y=r:=e
 rw[e];exact⟨hn,λT L h=>absurd Z (hm.ne h)⟩
theorem Brg.one {W w:World} {b T:Nat} {L:List Value} (hb:j0 w b T L) (hn:W.heap.size<=b) (hT:T=121\/T=126\/T=129):∀y,y<w.heap.size->One b y->Brg W w y:=λy _ e=>by
 have e:y=b:=e
 rw[e];exact⟨hn,λU M h=>by rw[(h.uniq hb).2];exact hT⟩
theorem Brg.y0 {W w:World} {T:Nat} (hT:T=121\/T=126\/T=129):∀y,y<w.heap.size->Ck W w T T y->Brg W w y:=λy _ h=>by
 obtain⟨b,L,a|a⟩:=h<;>exact⟨b,λU M h=>by rw[(h.uniq a).2];exact hT⟩
theorem _root_.Go.Vc.Ext.yv3 {W w w1 w2:World} (h:Ext (Brg W w) w w1) (k:Ext (Brg W w1) w1 w2):Ext (Brg W w) w w2:=
 h.trans k λx d a=>cV λb=>b ⟨a.1,λT L c=>a.2 T L (by have e:=h.same x d b;rw[j0] at c|-;rw[e];exact c)⟩
theorem _root_.Go.Vc.j0.brg {W w w':World} {b V:Nat} {L:List Value} (hb:j0 w b V L) (hE:Ext (Brg W w) w w') (h1:¬(V=121\/V=126\/V=129)):j0 w' b V L:=hb.ext hE λh=>h1 (h.2 _ _ hb)
theorem _root_.Go.Vc.Own.brg {W w w':World} {V:Nat} {p:Option Addr} {n c sz:Nat} {xs:List Value} (h:Own w p n c V sz xs) (hE:Ext (Brg W w) w w') (h1:¬(V=121\/V=126\/V=129)):Own w' p n c V sz xs:=
 h.ext hE λy a k=>by
  obtain⟨l,b⟩:=h.zv1 a
  exact h1 (k.2 _ _ b)
def yv8 (row : List jm) (o : jm) : Bool × Int × List jm := if vv o ∈ qi row then (true, 0, row) else if ∀ x ∈ qd o, x ∈ qi row then (false, 0, row ++ [o]) else (false, 4, row)
theorem Dl {l:List B7} {x:B7}:(placeOf l x).isSome=decide (x∈l):=by
 unfold placeOf;split;rename_i h;simp[h];rename_i h;simp[h]
theorem links_in {o:jm} (h:ub o):∀z∈qd o,vd z:=λz a=>by
 unfold qd at a
 split at a
 ·obtain⟨x,b,rfl⟩:=aZ.1 a
  exact(h.leaves x b).2
 split at a
 ·rcases List.mem_cons.1 a with rfl|a
  ·exact h.tree
  exact h.parents z a
 cases a
theorem one_held {h:je} (hl:(uv h).length=105):ym (Df 1 (gh idZ++km x1 noP)) [(0*(0+105),0+105,.agg (uv h).toArray)]=uv h:=by
 simp only[ym,jc];rw[dA,Bv (by rw[va,hl,ao,gm,gr u6];rfl)]
theorem xj9 {o:jm} (h:Cw o):(qd o).length<2000000000:=by
 have a:=h.leaves;have b:=h.parents;unfold qd;split;rw[aA];omega;split;rw[aQ];omega;decide
theorem held_ids {G:Nat->Prop} {u:World} {l:List je} (h:∀x∈l,Bd u G x):l.map je.id=qi (l.map je.o):=by
 rw[qi,List.map_map];exact List.map_congr_left λx a=>(h x a).id
theorem yz8.ga {W u u':World} {G:Nat->Prop} {h:uk} (k:yz8 W u G h) (hE:Ext No u u'):yz8 W u' G h:=
 ⟨k.row.ga hE,k.rin,k.map.imp λr e=>⟨e.1,e.2.1,e.2.2.ga hE⟩,k.vals.ga hE,λx a=>(k.o x a).ext hE λ_ _=>id,λx a=>(k.v x a).ext hE λ_ _=>id,k.few,k.fev,k.new⟩
theorem puts_calls (w:World) {W:World} {hb:Nat} {G:Nat->Prop} {h:uk} (hbk:j0 w hb 121 h.c) (hi:yz8 W w G h) (hW:Ext No W w) (hfew:h.hs.length+1<1000000) {x:jm} {a:x9} (ho:ObjAt' W (x,a)) (hok:yv x) (hr:Rt W) (hbn:W.heap.size<=hb):
  gn prog 141 [.pointer (some ⟨hb,0,none⟩),.agg (km x a).toArray] w λv w'=>∃h':uk,v= .tuple #[.bool (yv8 h.s.row x).1,.int .i64 (yv8 h.s.row x).2.1]/\j0 w' hb 121 h'.c/\yz8 W w' G h'/\h'.s.row=(yv8 h.s.row x).2.2/\h'.vs=h.vs/\Ext (Brg W w) w w':=by
 obtain⟨rp,rc,hs,m,vp,vc,vs⟩:=h;obtain⟨r,am,ae,J⟩:=hi.map;have am:m=some r:=am;subst am;have hbk:j0 w hb 121 [.slice rp hs.length rc,.map (some r),.slice vp vs.length vc]:=hbk;have a0:hb≠r:=λe=>J.ne hbk e.symm;have aj:hs.map je.id=qi (hs.map je.o):=held_ids hi.o;have J:xx5 w r zx5 (placeOf (hs.map je.id)):=J;rw[aj] at J;have C:=ho.i;have T:=ho.s;have af:=ho.l;dsimp only at C T af;have hfew:hs.length+1<1000000:=hfew;have bc:uk.s ⟨rp,rc,hs,some r,vp,vc,vs⟩=⟨hs.map je.o,vs.map Prod.fst⟩:=rfl;rw[bc];have bd:idB x=vv x:=aL hok;have bf:yv9 x=qd x:=aL hok;have b7:=xj9 T;have an:=hW.size;refine gz func141 ?_;have f:=Ext.refl No w;refine qr (gt Z λb3 w1 b9 d a1=>?_);have hW:=hW.gb a1;have f:=f.gb a1;have d:j0 w1 b3 37 (km x a):=d;refine kg Z (qr (jf d Z (gr C) (gj call129 Z (idObj_calls w1 C (af.ga hW) T (hr.ext hW id)) ?_)));rintro v2 w2⟨rfl,ap⟩;have d:=d.ga ap;have hW:=hW.gb ap;have f:=f.gb ap;rw[bd,show objE x=0 from aL hok];refine j6 ge Z (gt Z λb6 w3 a3 g aq=> have ar:=j3 d.lt a3;have a4:=al f.size a3;have d:=d.ga aq;have hW:=hW.gb aq;have f:=f.gb aq;wl (j9 (l':=gh (vv x)) ge g Z Z (by rw[gm,ul]) (by rw[gm,ul];rfl) OneC.h λw4 g au ca=> have d:=d.gk au ar;have hW:=hW.gi au (al an a4);have f:=f.gi au a4;kg Z (gp (kw Z (uc Z (xg (gp (gp (ke Z 10 [qP 0,qP 1,qP 2,qP 3,qP 4,qP 5,qP 6,qP 7,qP 8,qP 9] [] (No) zf λw5 ag cb=> have U:=g;have L:=f;have d:=d.ga ag;have g:=g.ga ag;have hW:=hW.gb ag;have f:=f.gb ag;gw ge 3 Z (j5 ge Z Z (λw' j=>((hbk.ga (L.gb j)).cell Z)) (qu ge Z Z (λw' j=>(U.ga j).ql) (by rw[gm,ul]) (wd_lu ge Z Z idK (ul _) Z (J.ga f) (λw' j=>J.ga (L.gb j)) ?_))))))))))));simp only[cT];rw[Dl];refine gw ge 4 Z (js (ja (jq (kw Z (jy Z (λhc=>?_) (λhc=>?_))))));have hp:yv8 (hs.map je.o) x=(true,0,hs.map je.o):=aL hc;exact kw Z (gv (gu (u7 [_,_] ⟨Z,Z,trivial⟩ ⟨⟨rp,rc,hs,some r,vp,vc,vs⟩,by rw[hp];rfl,hbk.ga f,hi.ga f,by rw[hp];rfl,Z,f.no⟩)));have av:¬vv x∈qi (hs.map je.o):=hc;refine xg (gp (qr (jf d Z (gr C) (gj call55 Z (xv8 w5 C (af.ga hW) T) ?_))));rintro v6 w6⟨q,k,rfl,hq,cc,ah⟩;have d:=d.ga ah;have g:=g.ga ah;have hW:=hW.gb ah;have f:=f.gb ah;rw[bf] at hq|-;obtain⟨w7,a5⟩:∃w7,w7=w6:=⟨_,Z⟩
 rw[<-a5] at hq;have I:Ext No w7 w6:=a5▸Ext.refl No _;refine kg Z (j8 (jl (α:=Nat) [0,3,6,29,30] Z (λz=>[(31,.int .i64 (z:Int))]) (λz u=>(z<=(qd x).length/\(∀y∈(qd x).take z,y∈qi (hs.map je.o))/\Ext No w7 u/\Ext No W u)/\j0 u b3 37 (km x a)/\j0 u b6 30 (gh (vv x))/\Ext No w u) (λz u=>(qd x).length-z) (0) Z ⟨⟨aJ _,λ_ h=>(by cases h),I,hW⟩,d,g,f⟩ ?_));rintro i w7 ⟨⟨cd,aa,I,hW⟩,d,g,f⟩;refine vo Z (jy Z (λhc=>?_) (λhc=>?_));have V:i<(qd x).length:=by omega
 have P:vd (qd x)[i]:=links_in C _ (aC V);obtain⟨qb,qo,hp,bi⟩:=hq.sl.qm (λy n=>(links_in C y n).len) zk;subst hp;refine Bn (qr (ki Z 32 Z i Z V (qo+i*32) Z (jk Z ((bi i V).ga I) P.len (have bj:=I;gt Z λb8 w8 ai aw ab=> have ax:=j3 d.lt ai;have ay:=j3 g.lt ai;have a6:=al f.size ai;have d:=d.ga ab;have g:=g.ga ab;have hW:=hW.gb ab;have I:=I.gb ab;have f:=f.gb ab;have bk:=al bj.size ai;wl (j9 (l':=gh (qd x)[i]) ge aw Z Z P.len (by rw[P.len];rfl) OneC.h λw9 aw ac ce=> have d:=d.gk ac ax;have g:=g.gk ac ay;have hW:=hW.gi ac (al an a6);have I:=I.gi ac bk;have f:=f.gi ac a6;u3 (gp (ke Z 11 [qP 0,qP 1,qP 2,qP 3,qP 4,qP 5,qP 6,qP 7,qP 8,qP 9,qP 10] [] (No) zf λcf Q bx=> have bm:=aw;have L:=f;have d:=d.ga Q;have g:=g.ga Q;have hW:=hW.gb Q;have I:=I.gb Q;have f:=f.gb Q;gw ge 3 Z (j5 ge Z Z (λw' j=>((hbk.ga (L.gb j)).cell Z)) (qu ge Z Z (λw' j=>(bm.ga j).ql) P.len (wd_lu ge Z Z idK P Z (J.ga f) (λw' j=>J.ga (L.gb j)) ?_))))))))));simp only[cT];rw[Dl];refine gw ge 5 Z (js (ja (jq (kw Z (vk Z (λhc=>?_) (λhc=>?_))))));have bn:(qd x)[i]∉qi (hs.map je.o):=by simpa using hc
 have hp:yv8 (hs.map je.o) x=(false,4,hs.map je.o):=by rw[yv8,aI av,aI λk=>bn (k _ (aC V))]
 exact kw Z (gv (jt (gu (gu (jt (gu (u7 [_,_] ⟨Z,Z,trivial⟩ ⟨⟨rp,rc,hs,some r,vp,vc,vs⟩,by rw[hp];rfl,hbk.ga f,hi.ga f,by rw[hp];rfl,Z,f.no⟩)))))));have a7:(qd x)[i]∈qi (hs.map je.o):=by simpa using hc
 refine qf (Bi Z ?_);rw[qc _ zk];exact gl (jh (i+1) Z ⟨⟨V,λy n=>by rw[aO V] at n;rcases aS.1 n with n|n;exact aa y n;rw[aF.1 n];exact a7,I,hW⟩,d,g,f⟩ zm);have h0:i=(qd x).length:=by omega
 subst h0;rw[bM] at aa;have hp:yv8 (hs.map je.o) x=(false,0,hs.map je.o++[x]):=by rw[yv8,aI av,aL aa]
 refine Bh (gp (ke Z 11 [qP 0,qP 1,qP 2,qP 3,qP 4,qP 5,qP 6,qP 7,qP 8,qP 9,(10,false)] [] (One r) zf λbp R bz=> have U:=g;have L:=f;have d:=d.ga R;have g:=g.ga R;have hW:=hW.gb R;have f:=f.gb R;have hC:Ext (One r) _ bp:=R.no;gw ge 3 Z (j5 ge Z Z (λw' j=>(((hbk.ga L).ext (show Ext (One r) _ w' from j) a0).cell Z)) (qu ge Z Z (λw' j=>((U.ext (show Ext (One r) _ w' from j) λe=>(J.ga L).ne U e.symm).ql)) (by rw[gm,ul]) (gw ge 3 Z (j5 ge Z Z (λw' j=>(((hbk.ga L).ext (show Ext (One r) _ w' from j) a0).cell Z)) (gw ge 1 Z (have X:=f;have M:=J.ga f;jv Z (st_mu ge Z idK (ul _) Z M (b:=hs.length) Z λad bq B b0=>⟨hC.then B,?_⟩)))))))));have d:=d.xm M B;have g:=g.xm M B;have hbk:=(hbk.ga X).xm M B;have f:Ext (Brg W w) w ad:=(X.no (S:=Brg W w)).yv3 (B.mono (Brg.map M ae));have hW:=hW.newer B λy e=>by have e:y=r:=e;rw[e];exact ae
 have J:xx5 ad r zx5 (placeOf (qi (hs.map je.o++[x]))):=by
  rw[idsOf_snoc,<-yw7 av];have e:(qi (hs.map je.o)).length=hs.length:=by rw[qi,aA,aA]
  rw[e];exact bq
 have D:=(hi.vals.ga X).xm M B;have N:=λy n=>((hi.o y n).ext X λ_ _=>id).xm M B;have O:=λy n=>((hi.v y n).ext X λ_ _=>id).xm M B;have F:zw5 W ad rp hs.length rc 126 105 (hs.flatMap uv):=(hi.row.ga X).xm M B ae;refine js (ja (jq (gp (ke Z 13 [qP 0,qP 1,qP 2,qP 3,qP 4,qP 5,qP 6,(7,false),qP 8,(9,false),(10,false),qP 11,qP 12] [13] (Ck W ad 126 126) zf λa8 E b1=>?_))));have br:=d;have U:=g;have a9:=hbk;have hW:=hW.gb E;have hbk:=hbk.ga E;have J:=J.ga E;have D:=D.ga E;have N:=λy n=>(N y n).ext E λ_ _=>id;have O:=λy n=>(O y n).ext E λ_ _=>id;have F:=F.ga E;have f:=f.gb E;have hC:Ext (Ck W ad 126 126) _ a8:=E.no;refine gw ge 4 Z (j5 ge Z Z (λw' j=>(a9.y0 (show Ext (Ck W _ 126 126) _ w' from j) zd zd).cell Z) (qu ge Z Z (λw' j=>(U.y0 (show Ext (Ck W _ 126 126) _ w' from j) zd zd).ql) (by rw[gm,ul]) (qu ge Z Z (λw' j=>(br.y0 (show Ext (Ck W _ 126 126) _ w' from j) zd zd).ql) (gr C) (have bs:=f;jv Z (j7 call52 Z (sown_calls a8 C (af.ga hW) T) λcg ch ak=>⟨(by obtain⟨Y,rfl,K,p⟩:=ak;exact hC.gb p),?_⟩)))));obtain⟨Y,rfl,K,p⟩:=ak;have hW:=hW.gb p;have hbk:=hbk.ga p;have J:=J.ga p;have D:=D.ga p;have N:=λy n=>(N y n).ext p λ_ _=>id;have O:=λy n=>(O y n).ext p λ_ _=>id;have F:=F.ga p;have f:=f.gb p;have hC:=hC.gb p;have K:=K.older (W0:=w) bs.size;have K:=K.older an;refine wd_bd ge Z Z ⟨⟨by rw[jc,gm,ul],by decide⟩,⟨by rw[jc];exact gr C,by decide⟩,trivial⟩ (l':=uv ⟨vv x,x,Y⟩) (by rw[heldZ_c];exact held_build (ul _) C) (jv Z (qw ge Z 105 Z heldZ_c (by rw[ao,gm,gr u6];rfl) zd zd ⟨⟨by rw[jc];exact By (h:=⟨vv x,x,Y⟩) (ul _) C,by decide⟩,trivial⟩ (l':=uv ⟨vv x,x,Y⟩) (one_held (h:=⟨vv x,x,Y⟩) (By (ul _) C)) λbt ci b2 ba t b4=>⟨hC.gb t,?_⟩));have hW:=hW.gb t;have hbk:=hbk.ga t;have J:=J.ga t;have D:=D.ga t;have N:=λy n=>(N y n).ext t λ_ _=>id;have O:=λy n=>(O y n).ext t λ_ _=>id;have F:=F.ga t;have K:=K.ga t;have f:=f.gb t;have hC:=hC.gb t;refine jv Z (st_appT ge Z 105 224 Z Z Z zd F (Src.slice (m:=1) ⟨By (h:=⟨vv x,x,Y⟩) (ul _) C,.inr ⟨bt,0,Z,ba.ql⟩⟩ OneC.h) zn zd zt (n':=(hs++[(⟨vv x,x,Y⟩:je)]).length) (ys:=(hs++[(⟨vv x,x,Y⟩:je)]).flatMap uv) zi (by rw[aY,bL]) hW.size λq3 k3 bu az A=>⟨hC.qx A,?_⟩);dsimp only at az A;have f:=f.yv3 (A.mono (Brg.y0 zd));have hbk:=hbk.y0 A zd zd;have J:=J.y0 A;have D:=D.y0 A zd zd;have N:=λy n=>(N y n).y0 A zd zd zd;have O:=λy n=>(O y n).y0 A zd;have K:um W bu x Y:=⟨K.ol.y0 A zd zd,K.op.y0 A zd zd,K.or.y0 A zd zd,K.nl,K.np,K.nr⟩
 refine gw ge 2 Z (js (wb Z (yo ge hbk Z Z Z λbv bb H b5=>?_)));have f:=f.yv3 (H.mono (Brg.one hbk hbn zd))
 have bw:yz8 W bv G ⟨q3,k3,hs++[⟨vv x,x,Y⟩],some r,vp,vc,vs⟩:=⟨.inr (az.gk H hbk zd),ownN_in az hi.new,⟨r,Z,ae,by
    have e:(hs++[(⟨vv x,x,Y⟩:je)]).map je.id=qi (hs.map je.o++[x]):=by rw[bU,aj,idsOf_snoc];rfl
    rw[e];exact J.gk H hbk⟩,D.gk H hbk zd,λy n=>by
    rcases aS.1 n with n|n
    exact(N y n).gk H hbk zd zd zd
    rw[aF.1 n]
    exact(⟨Z,⟨C,T⟩,K.ol,K.op,K.or,λy n=>hi.new y (n.elim (K.nl y) λe=>e.elim (K.np y) (K.nr y))⟩:Bd _ G ⟨vv x,x,Y⟩).gk H hbk zd zd zd,λy n=>(O y n).gk H hbk zd,by rw[ao];exact hfew,hi.fev,hi.new⟩
 exact ja (jq (kw Z (gv (u7 [_,_] ⟨Z,Z,trivial⟩ ⟨⟨q3,k3,hs++[(⟨vv x,x,Y⟩:je)],some r,vp,vc,vs⟩,by rw[hp];rfl,bb,bw,by rw[hp];show List.map je.o (hs++_)=_;rw[bU];rfl,Z,f⟩))))
end Go.Proofs.YtpdiphfjmepijaaGreatDoor
