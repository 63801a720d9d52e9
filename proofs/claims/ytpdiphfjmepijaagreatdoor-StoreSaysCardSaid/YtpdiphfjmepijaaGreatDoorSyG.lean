/-
  Walks and laws towards: which store a log of whatever bytes says (StoreSays)
-/
import Derived.StringKeys
import Derived.Laws.IdiomRangeMap
import Derived.Lib.Overlaps
import Derived.LaidEql
import Derived.Test.YtpdiphfjmepijaaGreatDoorSyF
open List renaming flatMap_singleton→bB,getElem_map→bD,map_append→bE,mem_iff_getElem→bF,mem_map→bL,getElem?_toArray→bS,getElem?_cons_zero→cG,flatMap_cons→cZ,take_left'→dB,map_cons→dD,mem_cons→dK
open Int renaming toNat_natCast→bT
open Array renaming ext'→cC,getElem?_eq_none→cO,getElem?_setIfInBounds_ne→dl
open Nat renaming add_mul→cJ
open Classical renaming byContradiction→cV
namespace Go.Proofs.YtpdiphfjmepijaaGreatDoor
open Go.Proofs.Tryz
open Go.Vc
abbrev IsStr (x : List UInt8) : Prop := x.length <= maxLen
theorem strK:KeyG prog 9 z9 IsStr:=
 ⟨WideMaps.string_law Tryz.underlying9,λ_ a=>⟨_,WideMaps.keyOf_string_mk Tryz.underlying9 a⟩,λ_ _ h=>xp (by injection h)⟩
structure SetP where
  op : Option Addr
  oc : Nat
  np : Option Addr
  nc : Nat
abbrev zv1 := yu × SetP
abbrev xq6 := jr × vh
def B2 (x : xq6) : List Value := js x.1 x.2
def vv (x : zv1) : List Value := [z9 x.1.name, .bool x.1.was, .bool x.1.is, .slice x.2.op x.1.old.length x.2.oc, .slice x.2.np x.1.new.length x.2.nc]
theorem yx9 (x : zv1) : (vv x).length = 5 := rfl
instance (x : zv1) : OneC (vv x) := by unfold vv; infer_instance
instance (x : xq6) : OneC (B2 x) := by unfold B2; infer_instance
theorem objX_len {l : List xq6} (h : ∀ x ∈ l, vn x.1) : ∀ x ∈ l, (B2 x).length = 73 := λx hx => gi (h x hx)
structure SetAt (w : World) (x : zv1) : Prop where
  old : ux w x.2.op x.1.old
  new : ux w x.2.np x.1.new
  ln : x.1.name.length < 1000000000
  lo : x.1.old.length < 1000000000
  lw : x.1.new.length < 1000000000
theorem SetAt.g0 {w w' : World} {x : zv1} (h : SetAt w x) (hE : Ext No w w') : SetAt w' x := ⟨h.old.g0 hE, h.new.g0 hE, h.ln, h.lo, h.lw⟩
structure ObjAt' (w : World) (x : xq6) : Prop where
  i : vn x.1
  s : A6 x.1
  l : Bv w x.1 x.2
theorem ObjAt'.g0 {w w' : World} {x : xq6} (h : ObjAt' w x) (hE : Ext No w w') : ObjAt' w' x := ⟨h.i, h.s, h.l.g0 hE⟩
structure qv where
  op : Option Addr
  oc : Nat
  os : List xq6
  sp : Option Addr
  sc : Nat
  ss : List zv1
def qv.d (b : qv) : Bu := ⟨b.os.map Prod.fst, b.ss.map Prod.fst⟩
def qv.c (b : qv) : List Value := [.slice b.op b.os.length b.oc, .slice b.sp b.ss.length b.sc]
abbrev qv.v (b : qv) : Value := .agg b.c.toArray
instance (b : qv) : OneC b.c := by unfold qv.c; infer_instance
structure C1 (w : World) (b : qv) : Prop where
  os : Sl w b.op b.os.length 73 (b.os.flatMap B2)
  ss : Sl w b.sp b.ss.length 5 (b.ss.flatMap vv)
  o : ∀ x ∈ b.os, ObjAt' w x
  s : ∀ x ∈ b.ss, SetAt w x
  lo : b.os.length < 1000000
  ls : b.ss.length < 1000000
theorem C1.g0 {w w':World} {b:qv} (h:C1 w b) (hE:Ext No w w'):C1 w' b:=
 ⟨h.os.g0 hE,h.ss.g0 hE,λx a=>(h.o x a).g0 hE,λx a=>(h.s x a).g0 hE,h.lo,h.ls⟩
def cntS (l : List Str) : Str -> Option Int := λx => if x ∈ l then some 1 else none
abbrev intV (i : Int) : Value := .int .i64 i
theorem cnt_tell {l : List Str} {x : Str} : tell intV (.int .i64 0) (cntS l x) = .int .i64 (if x ∈ l then 1 else 0) := by
  unfold cntS; split <;> rfl
theorem setM_at {β : Type} (g : List UInt8 -> Option β) (x : List UInt8) (b : β) : setM g x b x = some b := aM Z
theorem cnt_step {l:List Str} {x:Str} (h:x∉l):setM (cntS l) x 1=cntS (l++[x]):=by
 funext y;unfold setM cntS;by_cases e:y=x;subst e;simp;rw[aJ e];simp[e]
theorem setsOk_step {l:List yu} {i:Nat} (hi:i<l.length):yq7 (l.take (i+1))↔yq7 (l.take i)/\Cj l[i]/\l[i].name∉(l.take i).map yu.name:=by
 rw[List.take_succ_eq_append_getElem hi];unfold yq7;rw[bE,List.nodup_append];constructor;rintro⟨d,f,h,g⟩;exact⟨⟨λs c=>d s (List.mem_append_left _ c),f⟩,d _ (List.mem_append_right _ (aE.2 Z)),λk=>g _ k _ zp Z⟩
 grind
theorem setsOk_no {l:List yu} {i:Nat} (hi:i<l.length) (h:¬yq7 (l.take (i+1))):¬yq7 l:=λk=>h ⟨λs a=>k.1 s (bX a),(List.Sublist.map _ (List.take_sublist _ _)).nodup k.2⟩
theorem may_os {b:qv} {i:Nat} (hi:i<b.os.length) (h:¬xf b.os[i].1):¬Ad b.d:=λk=>h (k.2.2.1 _ (bL.2 ⟨_,aC hi,Z⟩))
theorem sside_calls (w:World) {q:Bool} {p:Option Addr} {c:Nat} {l:Bytes}:
  ge prog 140 [.bool q,.slice p l.length c] w λv w'=>v= .bool (decide (yq5 q l))/\w'=w:=by
 refine gt func140 (have b:=Ext.refl No w;jn Z (jb (α:=Bool) [] Z (λz=>[(4,.bool z)]) (λz u=>(z=decide (yq5 q l)/\u=w)/\Ext No w u) ?_ ?_));refine gr (gv g5 Z (j7 8 Z (λa=>?_) (λa=>?_)));have d:l.length<=4096:=by omega
 refine gm g5 2 Z (qy 10 Z (λa=>?_) (λa=>?_));exact gm g5 6 Z (ga (gk (true) Z ⟨⟨by symm;rw[aO];exact⟨d,.inl a⟩,Z⟩,b⟩));exact gm g5 6 Z (ga (gk (_) Z ⟨⟨by rw[aH];exact⟨λh=>⟨d,.inr zo⟩,λh=>h.2.elim (λe=>(by rw[a] at e;cases e)) zo⟩,Z⟩,b⟩));have d:¬l.length<=4096:=by omega
 exact gm g5 8 Z (ga (gk (_) Z ⟨⟨by symm;rw[ao];exact λh=>d h.1,Z⟩,b⟩));rintro z f ⟨⟨rfl,rfl⟩,b⟩;exact j6 (gp Z Z ⟨Z,Z⟩)
theorem may_calls (w:World) {b:qv} (h:C1 w b):
  ge prog 63 [b.v] w λv w'=>v= .bool (decide (Ad b.d))/\Ext No w w':=by
 have av:=h.lo;have aw:=h.ls;refine gt func63 (have f:=Ext.refl No w;ki (gn Z λW w1 ax a ah=> have f:=f.g4 ah;have a:gu w1 W 25 (b.c):=a;k9 Z (gh (jb (α:=Bool) [1] Z (λz=>[(17,.bool z)]) (λz u=>(z=decide (4096<b.os.length\/128<b.ss.length))/\gu u W 25 (b.c)/\Ext No w u) ?_ ?_))));refine gr (gv g5 Z (gj Z (a.cell Z) (gv g5 Z (j7 12 Z (λB=>?_) (λB=>?_)))));have h1:4096<b.os.length:=by omega
 exact gm g5 5 Z (ga (gk (true) Z ⟨by symm;rw[aO];exact .inl h1,a,f⟩));exact gm g5 1 Z (gj Z (a.cell Z) (gm g5 3 Z (ga (gk (_) Z ⟨by rw[aH];omega,a,f⟩))));rintro z w2 ⟨rfl,a,f⟩;refine jc Z (λA=>?_) (λA=>?_);exact gh (gr (vl Z (j2 (gp Z Z ⟨by congr 1;symm;rw[ao];rintro⟨k1,k2,_⟩;simp only[qv.d,aB] at k1 k2;omega,f⟩))));refine jw (jh (gh (jy Z (gj Z (a.cell Z) (k9 Z (j0 (ja (α:=Nat) [1,19,20] Z (λz=>[(21,.int .i64 (z:Int))]) (λz u=>(z<=b.os.length/\∀x∈b.os.take z,xf x.1)/\gu u W 25 (b.c)/\Ext No w u) (λz u=>b.os.length-z) (0) Z ⟨⟨aF _,λ_ h=>(by cases h)⟩,a,f⟩ ?_)))))));rintro i w3 ⟨⟨hi,D⟩,a,f⟩;refine uz Z (jc Z (λA=>?_) (λA=>?_));have C:i<b.os.length:=by omega
 let⟨q,qo,hp,M⟩:=h.os.km (objX_len λx K=>(h.o x K).i) zo;have L:=h.o _ (aC C);rw[hp];refine yz (ki (jo Z 73 Z i Z C (qo+i*73) Z (je Z ((M i C).g0 f) (gi L.i) (gn Z λb4 w4 X N Y=>?_))));have O:=gw a.lt X;have ai:=Nat.le_trans f.size X;have a:=a.g0 Y;have f:=f.g4 Y;refine wl (gz (l':=B2 b.os[i]) g5 N Z Z (gi L.i) (gi L.i) OneC.h λw5 N I ay=>?_);have a:=a.g9 I O;have f:=f.g8 I ai;refine qi (ki (j8 N Z (gi L.i) (g7 call134 Z (zx7 w5 L.i (L.l.g0 f) L.s) ?_)));rintro v6 w6⟨rfl,aa⟩;have a:=a.g0 aa;have f:=f.g4 aa;refine k9 Z (jc Z (λA=>?_) (λA=>?_));have hk:¬xf b.os[i].1:=λh=>A (aM h);exact jn Z (j6 (gGk (gp Z Z ⟨by rw[bG (may_os C hk)],f⟩)));have hk:xf b.os[i].1:=(yw1 zd).1 (aN.1 A);refine jw (yt Z ?_);rw[jt _ zo];exact ga (j9 (i+1) Z ⟨⟨C,λx K=>by rw[List.take_succ_eq_append_getElem C] at K;rcases aV.1 K with K|K;exact D x K;rw[aE.1 K];exact hk⟩,a,f⟩ zf);have h0:i=b.os.length:=by omega
 subst h0;rw[bC] at D;refine zu (ki (wl (st_mmG z9 IsStr intV Z λr w7 ak E ab az=> have a:=a.g0 ab;have am:=Nat.le_trans f.size ak;have f:=f.g4 ab;k9 Z (gh (jy Z (gj Z (a.cell Z) (k9 Z (j0 (ja (α:=Nat) [5,31,32] Z (λz=>[(33,.int .i64 (z:Int))]) (λz u=>(z<=b.ss.length/\yq7 ((b.ss.map Prod.fst).take z)/\As z9 IsStr u r intV (cntS (((b.ss.map Prod.fst).take z).map yu.name)))/\gu u W 25 (b.c)/\Ext No w u) (λz u=>b.ss.length-z) (0) Z ⟨⟨aF _,⟨λ_ h=>(by cases h),List.Pairwise.nil⟩,E⟩,a,f⟩ ?_)))))))));rintro j w8 ⟨⟨hj,P,E⟩,a,f⟩;refine uz Z (jc Z (λA=>?_) (λA=>?_));have F:j<b.ss.length:=by omega
 have Q:j<(b.ss.map Prod.fst).length:=by rw[aB];exact F
 let⟨q,qo,hp,M⟩:=h.ss.km (λx _=>yx9 x) zo;have R:=h.s _ (aC F);have ac:(b.ss.map Prod.fst)[j]=b.ss[j].1:=bD ..;let⟨g,S⟩:∃g,g=((b.ss.map Prod.fst).take j).map yu.name:=⟨_,Z⟩
 have p:=setsOk_step Q;rw[ac,<-S] at p;rw[<-S] at E;rw[hp];refine yz (ki (jo Z 5 Z j Z F (qo+j*5) Z (je Z ((M j F).g0 f) Z (gn Z λb7 w9 ad n T=> have U:=gw a.lt ad;have an:=Nat.le_trans f.size ad;have a:=a.g0 T;have E:=E.g0 T;have f:=f.g4 T;have ae:=n;wl (gz (l':=vv b.ss[j]) g5 n Z Z Z Z OneC.h λa0 n G hs10=> have a:=a.g9 G U;have E:=E.g9 G ae;have f:=f.g8 G an;qi (jy Z (gj Z (n.cell Z) (wl (st_lu g5 Z strK (x:=b.ss[j].1.name) (by have:=R.ln;dsimp only[IsStr,maxLen];omega) Z E ?_)))))))));simp only[bK,cW];rw[show tell intV ti3.zero (cntS g b.ss[j].1.name)= .int .i64 (if b.ss[j].1.name∈g then 1 else 0) from cnt_tell];let⟨m,hm⟩:∃m:Int,m=(if b.ss[j].1.name∈g then 1 else 0):=⟨_,Z⟩
 have a1:0<=m/\m<=1:=by rw[hm];split<;>decide
 rw[<-hm];refine gv g5 Z ?_;rw[jt _ zo];refine wl (st_mu g5 Z strK (x:=b.ss[j].1.name) (by have:=R.ln;dsimp only[IsStr,maxLen];omega) Z E (b:=m+1) Z λap t H au=> have a:=a.yc E H;have n:=n.yc E H;have f:=f.g8 H am;qi (jb (α:=Bool) [5,31,32,33] Z (λz=>[(73,.bool z)]) (λz u=>(z=decide (¬(Cj b.ss[j].1/\b.ss[j].1.name∉g))/\As z9 IsStr u r intV (setM (cntS g) b.ss[j].1.name (m+1)))/\gu u W 25 (b.c)/\Ext No w u) ?_ ?_));refine gr (gv g5 Z (gj Z (n.cell Z) (wl (st_lu g5 Z strK (x:=b.ss[j].1.name) (by have:=R.ln;dsimp only[IsStr,maxLen];omega) Z t ?_))));simp only[bK,cW];rw[setM_at];show WL _ _ _ _ _ ((45,.int .i64 (m+1))::_) _;refine gv g5 Z (j7 47 Z (λB=>?_) (λB=>?_));have V:b.ss[j].1.name∈g:=Decidable.by_contra λhn=>(by rw[aJ hn] at hm;omega)
 exact gm g5 26 Z (ga (gk (true) Z ⟨⟨by symm;rw[aO];exact λk=>k.2 V,t⟩,a,f⟩));have V:b.ss[j].1.name∉g:=λhn=>(by rw[aM hn] at hm;omega)
 refine gm g5 1 Z (gj Z (n.cell Z) (gm g5 3 Z (j7 52 Z (λB=>?_) (λB=>?_))));have y:¬Cj b.ss[j].1:=λk=>k.1 (xp B);exact gm g5 21 Z (ga (gk (true) Z ⟨⟨by symm;rw[aO];exact λk=>y k.1,t⟩,a,f⟩));have h1:b.ss[j].1.name≠[]:=λe=>B (by rw[e];rfl);refine gm g5 1 Z (gj Z (n.cell Z) (gm g5 4 Z (j7 58 Z (λB=>?_) (λB=>?_))));have y:¬Cj b.ss[j].1:=λk=>by have:=k.2.1;have e:(vg b.ss[j].1.name).size=b.ss[j].1.name.length:=rfl;omega
 exact gm g5 15 Z (ga (gk (true) Z ⟨⟨by symm;rw[aO];exact λk=>y k.1,t⟩,a,f⟩));have h2:b.ss[j].1.name.length<=32:=by have e:(vg b.ss[j].1.name).size=b.ss[j].1.name.length:=rfl;omega
 refine gm g5 1 Z (gj Z (n.cell Z) (gm g5 1 Z (gj Z (n.cell Z) (g7 call140 Z (sside_calls ap (q:=b.ss[j].1.was) (l:=b.ss[j].1.old)) ?_))));rintro a2 aq⟨rfl,rfl⟩;refine gm g5 3 Z (qy 66 Z (λB=>?_) (λB=>?_));have y:¬Cj b.ss[j].1:=λk=>by have:=k.2.2.1;simp[this] at B
 exact gm g5 7 Z (ga (gk (true) Z ⟨⟨by symm;rw[aO];exact λk=>y k.1,t⟩,a,f⟩));have h3:yq5 b.ss[j].1.was b.ss[j].1.old:=by simpa using B
 refine gm g5 1 Z (gj Z (n.cell Z) (gm g5 1 Z (gj Z (n.cell Z) (g7 call140 Z (sside_calls aq (q:=b.ss[j].1.is) (l:=b.ss[j].1.new)) ?_))));rintro a3 a4⟨rfl,rfl⟩;refine gm g5 2 Z (ga ?_);exact gk (_) Z ⟨⟨by rw[<-decide_not,aH];exact⟨λk l=>k l.1.2.2.2,λk l=>k ⟨⟨h1,h2,h3,l⟩,V⟩⟩,t⟩,a,f⟩;rintro z a5 ⟨⟨rfl,t⟩,a,f⟩;refine u5 Z (λA=>?_) (λA=>?_);have ar:¬Ad b.d:=λk=>setsOk_no Q (λl=>by have:=p.1 l;simp at A;exact A.elim (λq=>q this.2.1) this.2.2) k.2.2.2;exact jn Z (j6 (gGk (gp Z Z ⟨by rw[bG ar],f⟩)));have J:=p.2 ⟨P,by simpa using A⟩;refine jw (yt Z ?_);rw[jt _ zo];exact ga (j9 (j+1) Z ⟨⟨F,J,by rw[List.take_succ_eq_append_getElem Q,bE,<-S,ac];have e:=hm;rw[aJ (by have:=p.1 J;exact this.2.2)] at e;subst e;rw[show(0:Int)+1=1 from Z,cnt_step (p.1 J).2.2] at t;exact t⟩,a,f⟩ zf);have h0:j=b.ss.length:=by omega
 subst h0;rw[aL (by rw[aB];exact aA _)] at P;exact zu (jn Z (j6 (gp Z Z ⟨by congr 1;symm;rw[aO];exact⟨by simp only[qv.d,aB];omega,by simp only[qv.d,aB];omega,λo L=>(by obtain⟨x,K,rfl⟩:=bL.1 L;exact D x K),P⟩,f⟩)))
abbrev TyW (W w : World) : Nat -> Prop := Bt W w 180 5
def WrS (W w : World) (b : Nat) (l : Bytes) : Prop := W.heap.size <= b /\ ∃ p c, gu w b 180 [.slice p l.length c] /\ jj W w p l.length c 5 1 (g6 l)
theorem WrS.g0 {W w w':World} {b:Nat} {l:Bytes} (h:WrS W w b l) (hE:Ext No w w'):WrS W w' b l:=by
 let⟨a,p,c,d,e⟩:=h;exact⟨a,p,c,d.g0 hE,e.g0 hE⟩
theorem WrS.g9 {W w w':World} {b:Nat} {l:Bytes} (h:WrS W w b l) {x T:Nat} {L:List Value} (hE:Ext (One x) w w') (hb:gu w x T L) (h1:180≠T) (h2:5≠T):WrS W w' b l:=by
 let⟨n,p,c,a,d⟩:=h;exact⟨n,p,c,a.g9 hE (a.ne hb h1),d.g9 hE hb h2⟩
theorem xv2 (a b : Bytes) : g6 a ++ g6 b = g6 (a ++ b) := (qd a b).symm
theorem slong_calls (w:World) {W:World} {b:Nat} {l:Bytes} (h:WrS W w b l) (hW:Ext No W w) {px:Option Addr} {cx:Nat} {x:Bytes} (hs:ux w px x) (hl:l.length<900000000) (hx:x.length<65536):
  ge prog 88 [.pointer (some ⟨b,0,none⟩),.slice px x.length cx] w λv w'=>v= .tuple #[]/\WrS W w' b (l++x9 2 x)/\Ext (TyW W w) w w':=by
 let⟨g,B,C,a,m⟩:=h;refine gt func88 (have d:=Ext.refl (TyW W w) w;xt Z (gj Z (a.cell Z) (gv g5 Z ?_)));rw[IntWalk.u16_in _ zo];have o:=hW;refine g7 call91 Z (D9 w m.sl zo x.length hx) ?_;rintro D E⟨F,rfl,r,s,c⟩;have hs:=hs.g0 c;have a:=a.g0 c;have hW:=hW.g4 c;have d:=d.g4 c;have f:=jj.blk (n:=(l++be 2 x.length).length) (sz:=1) s (Nat.le_trans o.size r) (by rw[gb,aY]) (by simp only[al,jz];dsimp only[maxLen];omega);refine gv g5 Z (have t:=f;have u:=f.own;wl (vu g5 Z 1 1 Z Z Z zd f (Src.slice hs OneC.h) (by dsimp only[maxLen];(try simp only[al,jz]);omega) (by dsimp only;(try simp only[al,jz]);omega) (n':=(l++x9 2 x).length) (ys:=g6 (l++x9 2 x)) zg (by rw[x9,<-aU,qd (l++be 2 x.length)]) hW λq k G f e z=>?_));dsimp only at f e;have a:=a.jq u e (show(5:Nat)≠180 from by decide);have d:=d.qc (e.mono λy _=>Bt.own t y);exact gv g5 Z (ka a Z Z Z λH i j A=> have d:=d.qc (j.mono λy _=>Bt.one a g y);ga (yq Z ⟨Z,⟨g,_,_,i,f.g9 j a zd⟩,d⟩))
theorem sshort_calls (w:World) {W:World} {b:Nat} {l:Bytes} (h:WrS W w b l) (hW:Ext No W w) {px:Option Addr} {cx:Nat} {x:Bytes} (hs:ux w px x) (hsp:∀y off,px=some ⟨y,off,none⟩->¬TyW W w y) (hl:l.length<900000000) (hx:x.length<900000000):
  ge prog 89 [.pointer (some ⟨b,0,none⟩),.slice px x.length cx] w λv w'=>v= .tuple #[]/\WrS W w' b (l++x9 1 x)/\Ext (TyW W w) w w':=by
 let⟨o,G,H,a,c⟩:=h;have p:=c;refine gt func89 (have f:=Ext.refl (TyW W w) w;xt Z (gj Z (a.cell Z) (gv g5 Z ?_)));rw[yi];refine wl (kz g5 Z 1 Z Z Z zd zd zt (l':=g6 [UInt8.ofNat x.length]) Z λA J C r d D=> have hs:=hs.g0 d;have a:=a.g0 d;have c:=c.g0 d;have hW:=hW.g4 d;have f:=f.g4 d;have g:=c;have s:=c.own;wl (vu g5 Z 1 1 Z Z Z zd c (Src.slice (m:=1) ⟨Z,.inr ⟨A,0,Z,r.kc⟩⟩ OneC.h) (by dsimp only[maxLen];(try simp only[al,jz]);omega) (by dsimp only;(try simp only[al,jz]);omega) (n':=(l.length+1)) (ys:=g6 (l++be 1 x.length)) Z (xv2 _ _) hW λq k K n i t=>?_));have a:=a.jq s i (show(5:Nat)≠180 from by decide);have hs:=hs.ext i λy off e E=>hsp y off e (Bt.own p y E);have f:=f.qc (i.mono λy _=>Bt.own g y);have hW:=t;refine gv g5 Z (have g:=n;have B:=n.own;wl (vu g5 Z 1 1 Z Z Z zd n (Src.slice hs OneC.h) (by dsimp only[maxLen];(try simp only[al,jz]);omega) (by dsimp only;(try simp only[al,jz]);omega) (n':=(l++x9 1 x).length) (ys:=g6 (l++x9 1 x)) zg (by rw[xv2,x9,aU]) hW λq k L n j t=>?_));dsimp only at n j;have a:=a.jq B j (show(5:Nat)≠180 from by decide);have f:=f.qc (j.mono λy _=>Bt.own g y);exact gv g5 Z (ka a Z Z Z λM u z F=> have f:=f.qc (z.mono λy _=>Bt.one a o y);ga (yq Z ⟨Z,⟨o,_,_,u,n.g9 z a zd⟩,f⟩))
theorem wside_calls (w:World) {W:World} {b:Nat} {l:Bytes} (h:WrS W w b l) (hW:Ext No W w) {q:Bool} {px:Option Addr} {cx:Nat} {x:Bytes} (hs:ux W px x) (hl:l.length<800000000) (hx:x.length<65536):
  ge prog 90 [.pointer (some ⟨b,0,none⟩),.bool q,.slice px x.length cx] w λv w'=>v= .tuple #[]/\WrS W w' b (l++xw6 q x)/\Ext (TyW W w) w w':=by
 let⟨j,M,N,a,c⟩:=h;refine gt func90 ?_;have f:=Ext.refl (TyW W w) w;have p:=a;have r:=c;have B:=hW;refine ki (wl (kz g5 Z 1 Z Z Z zd zd zt (l':=[.int .u8 0]) Z λs Q k d g R=>?_));have C:=Nat.le_trans f.size k;have a:=a.g0 g;have c:=c.g0 g;have hW:=hW.g4 g;have f:=f.g4 g;refine k9 Z (jb (α:=Unit) [0,2,6] Z (λz=>[]) (λz u=>(gu u b 180 [.slice M l.length N]/\jj W u M l.length N 5 1 (g6 l)/\Ext No W u)/\gu u s 5 (g6 [isB q])/\Ext (TyW W w) w u) ?_ ?_);refine gh (gr (k9 Z (u5 Z (λD=>?_) (λD=>?_))));have E:isB q=1:=by rw[D];rfl
 refine xt Z (jo Z 1 Z 0 Z zd (0+0*1) Z (j3 d Z Z (gv g5 Z (jo Z 1 Z 0 Z zd (0+0*1) Z (ka d Z Z Z λS d i T=>?_)))));have a:=a.g9 i (gw p.lt k);have c:=jj.mk (c.own.ext i λy U e=>(by have e:y=s:=e;have:=r.own.lt U;omega)) c.new;have hW:=hW.g8 i (Nat.le_trans B.size k);have f:=f.g8 i C;have d:gu S s 5 (g6 [isB q]):=(by rw[E];exact d)
 exact ga (gk (()) Z ⟨⟨a,c,hW⟩,d,f⟩);have E:isB q=0:=by rw[D];rfl
 refine jw ?_;have d:gu Q s 5 (g6 [isB q]):=by rw[E];exact d
 exact gk (()) Z ⟨⟨a,c,hW⟩,d,f⟩;rintro⟨⟩ X ⟨⟨a,c,hW⟩,d,f⟩;refine jy Z (gj Z (a.cell Z) (gv g5 Z (have F:=c;have t:=c.own;wl (vu g5 Z 1 1 Z Z Z zd c (Src.slice (m:=1) ⟨Z,.inr ⟨s,0,Z,d.kc⟩⟩ OneC.h) (by dsimp only[maxLen];(try simp only[al,jz]);omega) (by dsimp only;(try simp only[al,jz]);omega) (n':=(l++[isB q]).length) (ys:=g6 (l++[isB q])) zh (xv2 _ _) hW λY I w4 O n G=>?_))));dsimp only at O n;have a:=a.jq t n (show(5:Nat)≠180 from by decide);have f:=f.qc (n.mono λy _=>Bt.own F y);have hW:=G;refine gv g5 Z (ka a Z Z Z λP A o V=>?_);have f:=f.qc (o.mono λy _=>Bt.one a j y);have hW:=hW.g8 o j;have H:WrS W P b (l++[isB q]):=⟨j,_,_,A,O.g9 o a zd⟩
 refine qi (xt Z (g7 call88 Z (slong_calls P H hW (hs.g0 hW) (by rw[al];show l.length+1<_;omega) hx) ?_));rintro v6 w6⟨rfl,K,L⟩;have f:=f.qc L;refine ga (yq Z ?_);exact⟨Z,by rw[xw6,<-aU];exact K,f⟩
theorem Cs {l : List jr} (h : ∀ o ∈ l, xf o) : (za l).length <= l.length * 802 := B0 λo ho => by
  have := (h o ho).2
  rw [u3]; omega
theorem zx6 {q:Bool} {x:Bytes} (h:yq5 q x):(xw6 q x).length<=4099:=by
 have:=h.1;rw[xw6,al,u3,dI];omega
theorem setB_len {s:yu} (h:Cj s):(zv2 s).length<=9000:=by
 have a:=zx6 h.2.2.1;have b:=zx6 h.2.2.2;have c:=h.2.1;rw[zv2,al,al,u3];omega
theorem setsB_len {l : List yu} (h : yq7 l) : (l.flatMap zv2).length <= l.length * 9000 := B0 λs hs => setB_len (h.1 s hs)
def Ak (b : Bu) : Bytes := if Ad b then u7 b else []
abbrev mayE (b : Bu) : Int := if Ad b then 0 else 2
theorem D3 (w:World) {b:qv} (h:C1 w b):
  ge prog 30 [b.v] w λv w'=>∃q k,v= .tuple #[.slice q (Ak b.d).length k,.int .i64 (mayE b.d)]/\jj w w' q (Ak b.d).length k 5 1 (g6 (Ak b.d))/\Ext No w w':=by
 refine gt func30 ?_;have f:=Ext.refl No w;refine ki (gn Z λb1 w1 cb a bg=>?_);have f:=f.g4 bg;have a:gu w1 b1 25 (b.c):=a;refine k9 Z (gh (ki (j8 a Z Z (g7 call63 Z (may_calls w1 (h.g0 f)) ?_))));rintro v2 w2⟨rfl,au⟩;have a:=a.g0 au;have f:=f.g4 au;refine k9 Z (u5 Z (λhc=>?_) (λhc=>?_));have F:¬Ad b.d:=by simpa using hc
 exact jn Z (j6 (j2 (ko [_,_] ⟨Z,Z,trivial⟩ ⟨none,0,by rw[Ak,aJ F,mayE,aJ F];rfl,by rw[Ak,aJ F];exact jj.nil _ _ _ _,f⟩)));have F:Ad b.d:=by simpa using hc
 have bi:=F.1;have bj:=F.2.1;have bk:=Cs F.2.2.1;simp only[qv.d,aB] at bi bj bk;refine vo (ki (jv Z trivial (l':=[.slice none 0 0]) Z (gn Z λJ w3 V r av=> have S:=gw a.lt V;have X:=Nat.le_trans f.size V;have a:=a.g0 av;have f:=f.g4 av;have r:gu w3 J 180 ([.slice none 0 0]):=r;k9 Z (jn Z (jy Z (gj Z (a.cell Z) (gv g5 Z ?_)))))));rw[IntWalk.u16_in _ zo];have bm:=f;refine g7 call91 Z (D9 w3 (l:=[]) (p:=none) (c:=0) ⟨Z,.inl Z⟩ zd b.os.length zo) ?_;rintro v4 w4⟨bp,rfl,bq,aw,ae⟩;have a:=a.g0 ae;have r:=r.g0 ae;have f:=f.g4 ae;have hq:=jj.blk (W:=w) (n:=(be 2 b.os.length).length) (sz:=1) aw (Nat.le_trans bm.size bq) (by rw[gb,bU,aY]) (by rw[jz];decide);rw[bU] at hq aw|-;refine gv g5 Z (have af:=r;ka r Z Z Z λw5 r ag cc=> have a:=a.g9 ag S;have f:=f.g8 ag X;have r:gu w5 J 180 ([.slice (some ⟨bp,0,none⟩) (be 2 b.os.length).length (be 2 b.os.length).length]):=r;have t:WrS w w5 J (be 2 b.os.length):=⟨X,_,_,r,hq.g9 ag af zd⟩;qi (gh (jy Z (gj Z (a.cell Z) (k9 Z (j0 (ja (α:=Nat) [1,4,5,6,7,35,36] Z (λz=>[(37,.int .i64 (z:Int))]) (λz u=>(z<=b.os.length/\WrS w u J (be 2 b.os.length++za ((b.os.map Prod.fst).take z)))/\gu u b1 25 (b.c)/\Ext No w u) (λz u=>b.os.length-z) (0) Z ⟨⟨aF _,by rw[List.take_zero,za,List.flatMap_nil,bJ];exact t⟩,a,f⟩ ?_)))))));rintro i w6 ⟨⟨hi,t⟩,a,f⟩;refine uz Z (jc Z (λhc=>?_) (λhc=>?_));have K:i<b.os.length:=by omega
 have ax:i<(b.os.map Prod.fst).length:=by rw[aB];exact K
 let⟨q,qo,hp,ah⟩:=h.os.km (objX_len λx hx=>(h.o x hx).i) zo;have ho:=h.o _ (aC K);have ay:(b.os.map Prod.fst)[i]=b.os[i].1:=bD ..;have E:xf b.os[i].1:=F.2.2.1 _ (by rw[<-ay];exact aC ax);have cd:=E.2;have ai:=Cs (l:=(b.os.map Prod.fst).take i) λo h=>F.2.2.1 o (bX h);rw[aK,bR zo] at ai;have az:encB b.os[i].1=laidB b.os[i].1:=aM E;rw[hp];refine yz (ki (jo Z 73 Z i Z K (qo+i*73) Z (je Z ((ah i K).g0 f) (gi ho.i) (gn Z λb9 w7 a0 T aj=>?_))));have ak:=gw a.lt a0;have br:=Nat.le_trans f.size a0;have a:=a.g0 aj;have t:=t.g0 aj;have f:=f.g4 aj;have a1:=T;refine wl (gz (l':=B2 b.os[i]) g5 T Z Z (gi ho.i) (gi ho.i) OneC.h λw8 T am ce=>?_);have a:=a.g9 am ak;have t:=t.g9 am a1 zd zd;have f:=f.g8 am br;refine qi (ki (j8 T Z (gi ho.i) (g7 call92 Z (yw6 w8 ho.i (ho.l.g0 f) ho.s) ?_)));rintro v9 w9⟨q2,k2,rfl,a2,b3,an⟩;have a:=a.g0 an;have t:=t.g0 an;have f:=f.g4 an;rw[az] at a2|-;refine k9 Z (xt Z (g7 call88 Z (slong_calls w9 t f a2.sl (by simp only[al,jz];omega) zo) λcf cg⟨rfl,t,Y⟩=> have a:=a.xq Y zd zd;have f:=f.xq Y;ga (yt Z ?_)));rw[jt _ zo];exact ga (j9 (i+1) Z ⟨⟨K,by rw[List.take_succ_eq_append_getElem ax,za,aQ,bB,<-aU,ay];exact t⟩,a,f⟩ zf);have h0:i=b.os.length:=by omega
 subst h0;rw[aL (by rw[aB];exact aA _)] at t;let⟨ap,p,c,A,C⟩:=t;refine zu (gh (jl Z 15 [qP 0,qP 1,qP 2,qP 3,qP 4,qP 5,qP 6,qP 7,qP 8,qP 9,(10,false),(11,false),qP 12,qP 13,qP 14] [15] (j5 p) zk λbu D b4=> have a4:=a;have I:=A;have aa:=C;have a:=a.g0 D;have A:=A.g0 D;have C:=C.g0 D;have f:=f.g4 D;have hC:Ext (j5 p) _ bu:=D.no;gl g5 5 Z (gy g5 Z Z (λw' aq=>((I.ext (show Ext (j5 p) _ w' from aq) λar=>aa.own.C4 ar I zd Z).cell Z)) (gl g5 1 Z (gy g5 Z Z (λw' aq=>((a4.ext (show Ext (j5 p) _ w' from aq) λar=>aa.own.C4 ar a4 zd Z).cell Z)) (gl g5 2 Z ?_))))));rw[yi];refine jg Z (kz g5 Z 1 Z Z Z zd zd zt (l':=g6 [UInt8.ofNat b.ss.length]) Z λbv ch b5 a5 B b6=>⟨hC.g4 B,have a:=a.g0 B;have A:=A.g0 B;have C:=C.g0 B;have f:=f.g4 B;have hC:=hC.g4 B;have ab:=C.own;jg Z (vu g5 Z 1 1 Z Z Z zd C (Src.slice (m:=1) ⟨Z,.inr ⟨bv,0,Z,a5.kc⟩⟩ OneC.h) (by dsimp only[maxLen];simp only[al,jz];omega) (by dsimp only;simp only[al,jz];omega) (n':=(be 2 b.os.length++za (b.os.map Prod.fst)++be 1 b.ss.length).length) (ys:=g6 (be 2 b.os.length++za (b.os.map Prod.fst)++be 1 b.ss.length)) (by simp only[al,jz]) (xv2 _ _) f λq k ci hq G f=>⟨hC.then G,?_⟩)⟩);dsimp only at hq G;have a:=a.jq ab G (show(5:Nat)≠25 from by decide);have A:=A.jq ab G (show(5:Nat)≠180 from by decide);refine gl g5 3 Z (jd (wb Z (Aa g5 A Z Z Z λbw a6 M b7=> have f:=f.g8 M ap;have a:=a.g9 M (a.ne A zd);have t:WrS w bw J (be 2 b.os.length++za (b.os.map Prod.fst)++be 1 b.ss.length):=⟨ap,_,_,a6,hq.g9 M A zd⟩;j1 (jh (gh (jy Z (gj Z (a.cell Z) (k9 Z (j0 (ja (α:=Nat) [4,6,7,66,67] Z (λz=>[(68,.int .i64 (z:Int))]) (λz u=>(z<=b.ss.length/\WrS w u J (be 2 b.os.length++za (b.os.map Prod.fst)++be 1 b.ss.length++((b.ss.map Prod.fst).take z).flatMap zv2))/\gu u b1 25 (b.c)/\Ext No w u) (λz u=>b.ss.length-z) (0) Z ⟨⟨aF _,by rw[List.take_zero,List.flatMap_nil,bJ];exact t⟩,a,f⟩ ?_))))))))));rintro j cj ⟨⟨hj,t⟩,a,f⟩;refine uz Z (jc Z (λhc=>?_) (λhc=>?_));have N:j<b.ss.length:=by omega
 have a7:j<(b.ss.map Prod.fst).length:=by rw[aB];exact N
 let⟨q,qo,hp,ah⟩:=h.ss.km (λx _=>yx9 x) zo;have a8:=h.s _ (aC N);have a9:(b.ss.map Prod.fst)[j]=b.ss[j].1:=bD ..;have E:Cj b.ss[j].1:=F.2.2.2.1 _ (by rw[<-a9];exact aC a7);have ck:=E.2.1;have cm:=E.2.2.1.1;have cn:=E.2.2.2.1;have ai:=setsB_len (l:=(b.ss.map Prod.fst).take j) ⟨λs h=>F.2.2.2.1 s (bX h),(List.Sublist.map _ (List.take_sublist _ _)).nodup F.2.2.2.2⟩;rw[aK,bR zo] at ai;rw[hp];refine yz (ki (jo Z 5 Z j Z N (qo+j*5) Z (je Z ((ah j N).g0 f) Z (gn Z λcp cq ac g O=> have U:=gw a.lt ac;have ba:=Nat.le_trans f.size ac;have a:=a.g0 O;have t:=t.g0 O;have f:=f.g4 O;have hb13o:=g;wl (gz (l':=vv b.ss[j]) g5 g Z Z Z Z OneC.h λcr g P b8=> have a:=a.g9 P U;have t:=t.g9 P hb13o zd zd;have f:=f.g8 P ba;qi (jy Z (gj Z (g.cell Z) (wl (st_s2b g5 Z λbs cs bx ca bz ct bb H=> have a:=a.g0 H;have g:=g.g0 H;have t:=t.g0 H;have f:=f.g4 H;g7 call89 Z (sshort_calls bx t f bz (λy cu e k=>by have e:bs=y:=congrArg Addr.block (bW e);subst e;obtain⟨_,L,k|k⟩:=k;exact bb _ _ k;exact bb _ _ k) (by simp only[al,jz];omega) zo) λcv b0⟨rfl,t,Q⟩=> have a:=a.xq Q zd zd;have g:=g.xq Q zd zd;have f:=f.xq Q;qi (jy Z (gj Z (g.cell Z) (gv g5 Z (gj Z (g.cell Z) (g7 call90 Z (wside_calls b0 t f (q:=b.ss[j].1.was) a8.old zg zo) λcw b2⟨rfl,t,R⟩=> have a:=a.xq R zd zd;have g:=g.xq R zd zd;have f:=f.xq R;qi (xt Z (gj Z (g.cell Z) (gv g5 Z (gj Z (g.cell Z) (g7 call90 Z (wside_calls b2 t f (q:=b.ss[j].1.is) a8.new (by have:=zx6 E.2.2.1;simp only[al,jz,u3];omega) zo) λcx cy⟨rfl,t,ad⟩=> have a:=a.xq ad zd zd;have f:=f.xq ad;ga (yt Z ?_))))))))))))))))))));rw[jt _ zo];exact ga (j9 (j+1) Z ⟨⟨N,by rw[List.take_succ_eq_append_getElem a7,aQ,bB,a9,zv2];simp only[<-aU];exact t⟩,a,f⟩ zf);have h0:j=b.ss.length:=by omega
 subst h0;rw[aL (by rw[aB];exact aA _)] at t;have e1:Ak b.d=be 2 b.os.length++za (b.os.map Prod.fst)++be 1 b.ss.length++(b.ss.map Prod.fst).flatMap zv2:=by rw[Ak,aM F,u7];simp only[qv.d,aB]
 rw[<-e1] at t;let⟨ap,p,c,A,C⟩:=t;exact zu (jy Z (gj Z (A.cell Z) (vl Z (ko [_,_] ⟨Z,Z,trivial⟩ ⟨p,c,by rw[mayE,aM F];rfl,C,f⟩))))
theorem each_all {α:Type} {f:Ds->α×Ds} {P:α->Prop} (hf:∀s,(f s).2.rest.length<=s.rest.length) (hp:∀s,s.rest.length<1000000000->P (f s).1):∀(n:Nat) (s:Ds),s.rest.length<1000000000->∀x∈(Ds.each f n s).1,P x
 |0,s,_,x,hx=>by cases hx
 |n+1,s,hs,x,hx=>by
  rw[Ds.each] at hx
  split at hx
  ·cases hx
  rcases dK.1 hx with rfl|hx
  ·exact hp s hs
  exact each_all hf hp n _ (bP (hf s) hs) x hx
theorem row_len {α:Type} {f:Ds->α×Ds} (s:Ds):(s.row f).1.length<1000000000:=
 bP (Ds.xx8 _ _) (Nat.lt_trans (s.ug 1) zd)
theorem row_rest {α:Type} {f:Ds->α×Ds} (hf:∀s,(f s).2.rest.length<=s.rest.length) (s:Ds):(s.row f).2.rest.length<=s.rest.length:=
 Nat.le_trans (xx8 hf _ _) (s.qf 1).2.1
theorem row_all {α:Type} {f:Ds->α×Ds} {P:α->Prop} (hf:∀s,(f s).2.rest.length<=s.rest.length) (hp:∀s,s.rest.length<1000000000->P (f s).1) {s:Ds} (hs:s.rest.length<1000000000):∀x∈(s.row f).1,P x:=
 each_all hf hp _ _ (bP (s.qf 1).2.1 hs)
theorem Ds.id_le (s : Ds) : s.id.2.rest.length <= s.rest.length := s.uq.2
def Df (o : jr) : Prop := vn o /\ A6 o
theorem objZ_dec : Df uv := ⟨ky, yd⟩
theorem endB_dec {b:List UInt8} {o:jr×Ds} (h:Df o.1):Df (endB b o).1:=by
 unfold endB;split;exact objZ_dec;split;exact h;exact objZ_dec
theorem com_dec {s:Ds} (hs:s.rest.length<1000000000):Df s.com.1:=by
 have c:(s.off 1).2.rest.length<1000000000:=bP (s.qf 1).2.1 hs;have a:(s.off 1).2.id.2.rest.length<1000000000:=bP (Ds.id_le _) c;have d:((s.off 1).2.id.2.row Ds.id).2.rest.length<1000000000:=bP (row_rest Ds.id_le _) a;have b:((s.off 1).2.id.2.row Ds.id).2.id.2.rest.length<1000000000:=bP (Ds.id_le _) d;refine⟨⟨(Ds.uq _).1,(Ds.uq _).1,row_all Ds.id_le (λs _=>(Ds.uq s).1) a,λ_ h=>absurd h List.not_mem_nil,?_,Ds.ug _ 4,Ds.ug _ 4⟩,⟨(show([]:List ji).length<1000000000 from by decide),row_len _,row_len _,λ_ h=>absurd h List.not_mem_nil,?_⟩⟩;exact row_all (P:=λr:uw=>r.path.length<=maxLen/\r.text.length<=maxLen) Ds.chg_le (λs hs=>Ds.chg_in hs) b;exact row_all (P:=λr:uw=>r.path.length<1000000000) Ds.chg_le (λs hs=>bP (s.vj 1).1 hs) b
theorem dec_ok {l:List UInt8} (hl:l.length<1000000000):Df (vy l).1:=by
 have a:((⟨l,false⟩:Ds).off 1).2.rest.length<1000000000:=bP (Ds.qf _ 1).2.1 hl;unfold vy;split;exact objZ_dec;dsimp only;split;exact endB_dec ⟨⟨ky.tree,ky.base,ky.parents,ky.leaves,ky.rows,ky.number,ky.author⟩,⟨yd.leaves,yd.parents,yd.rows,yd.leafP,yd.rowP⟩⟩;split;exact endB_dec ⟨⟨ky.tree,ky.base,ky.parents,row_all (P:=λr:ji=>r.path.length<=maxLen/\r.id.length=32) Ds.leaf_le (λs b=>Ds.leaf_in b) a,ky.rows,ky.number,ky.author⟩,⟨row_len _,yd.parents,yd.rows,row_all (P:=λr:ji=>r.path.length<1000000000) Ds.leaf_le (λs b=>bP (s.vj 1).1 b) a,yd.rowP⟩⟩;split;exact endB_dec (com_dec a);exact objZ_dec
theorem D4.rawN {w:World} {rb:Nat} {s:Ds} (h:D4 w rb s) (hl:s.rest.length<1000000000) (n:Nat):ge prog 103 [.pointer (some ⟨rb,0,none⟩),.int .i64 (n:Int)] w λv w'=>∃q c,v= .slice q (s.off n).1.length c/\jj w w' q (s.off n).1.length c 5 1 (g6 (s.off n).1)/\D4 w' rb (s.off n).2/\Ext (One rb) w w':=
 ((rawN_calls w h hl n)).mono λv w' ⟨q,c,b,a,d,f⟩=>by
  have e:=off_eq s n
  rw[e] at b a d
  exact⟨q,c,b,⟨a.1,a.2⟩,d,f⟩
abbrev longV (b4 : Nat) : Value := .func (.func 102) #[] #[.pointer (some ⟨b4, 0, none⟩)]
structure Ch (W u : World) (rb b4 b6 : Nat) (s : Ds) : Prop where
  r : D4 u rb s
  p4 : gu u b4 194 [.pointer (some ⟨rb, 0, none⟩)]
  p6 : gu u b6 135 [longV b4]
  nr : W.heap.size <= rb
  len : s.rest.length < 1000000000
theorem Ch.g0 {W w w':World} {rb b4 b6:Nat} {s:Ds} (h:Ch W w rb b4 b6 s) (hE:Ext No w w'):Ch W w' rb b4 b6 s:=⟨h.r.g0 hE,h.p4.g0 hE,h.p6.g0 hE,h.nr,h.len⟩
def DecT (T : Nat) : Prop := 264 ≠ T /\ 5 ≠ T /\ 194 ≠ T /\ 135 ≠ T
instance (T : Nat) : Decidable (DecT T) := inferInstanceAs (Decidable (_ /\ _))
theorem Ch.g9 {W w w':World} {rb b4 b6:Nat} {s:Ds} (h:Ch W w rb b4 b6 s) {x T:Nat} {L:List Value} (hE:Ext (One x) w w') (hb:gu w x T L) (hT:DecT T):Ch W w' rb b4 b6 s:=
 ⟨h.r.g9 hE hb hT.1 hT.2.1,h.p4.g9 hE (h.p4.ne hb hT.2.2.1),h.p6.g9 hE (h.p6.ne hb hT.2.2.2),h.nr,h.len⟩
theorem Ch.ne {W w:World} {rb b4 b6:Nat} {s:Ds} (h:Ch W w rb b4 b6 s) {x T:Nat} {L:List Value} (hb:gu w x T L) (hT:264≠T):x≠rb:=(h.r.ne hb hT).symm
theorem Ch.rd {W w w':World} {rb b4 b6:Nat} {s s':Ds} (h:Ch W w rb b4 b6 s) (hr:D4 w' rb s') (hE:Ext (One rb) w w') (hl:s'.rest.length<=s.rest.length):Ch W w' rb b4 b6 s':=
 ⟨hr,h.p4.g9 hE (h.ne h.p4 zd),h.p6.g9 hE (h.ne h.p6 zd),h.nr,bP hl h.len⟩
theorem Ch.own {W w w':World} {rb b4 b6:Nat} {s:Ds} (h:Ch W w rb b4 b6 s) {p:Option Addr} {n c T sz:Nat} {xs:List Value} (ho:Own w p n c T sz xs) (hE:Ext (j5 p) w w') (hT:DecT T) (hlt:∀x,j5 p x->x<w.heap.size):Ch W w' rb b4 b6 s:=by
 rcases ho with⟨d,_⟩|⟨b,l,d,e,_⟩;exact h.g0 (hE.mono λx _ a=>by rw[d] at a;cases a);exact h.g9 (hE.mono λx _ a=>by rw[d] at a;exact(congrArg Addr.block (bW a)).symm) e hT
theorem rdNew {W w w' : World} {rb : Nat} (hX : Ext No W w) (hE : Ext (One rb) w w') (hn : W.heap.size <= rb) : Ext No W w' := hX.g8 hE hn
abbrev yq9 (s : Ds) : Bytes × Ds := s.str 2
theorem yq0 (w:World) {W:World} {rb b4 b6:Nat} {s:Ds} (h:Ch W w rb b4 b6 s):
  ge prog 102 [.pointer (some ⟨b4,0,none⟩)] w λv w'=>∃q c,v= .slice q (s.str 2).1.length c/\jj w w' q (s.str 2).1.length c 5 1 (g6 (s.str 2).1)/\Ch W w' rb b4 b6 (s.str 2).2/\Ext (One rb) w w':=by
 have t:=s.ug 2;refine gt func102 (have d:=Ext.refl (One rb) w;uz Z (jl Z 6 [qP 0,qP 1,(2,false),qP 3,(4,false),qP 5] [] (One rb) zk λu e x=> have g:=h;have h:=h.g0 e;have d:=d.g4 e;have m:Ext (One rb) _ u:=e.no;gy g5 Z Z (λw' f=>((g.p4.ext (show Ext (One rb) _ w' from f) (g.ne g.p4 zd)).cell Z)) (gy g5 Z Z (λw' f=>((g.p4.ext (show Ext (One rb) _ w' from f) (g.ne g.p4 zd)).cell Z)) (jg Z (gx call104 Z (h.r.u16 h.len) λz A i=>⟨(by let⟨rfl,j,a⟩:=i;exact m.then a),?_⟩)))));obtain⟨rfl,j,a⟩:=i;have m:=m.then a;have d:=d.then a;have n:=h.rd j a (s.qf 2).2.1;refine gl g5 1 Z ?_;rw[jt _ zo];have o:=d;refine jg Z (gx call103 Z (n.r.rawN n.len (num (s.off 2).1)) λB C k=>⟨(by obtain⟨q,c,rfl,p,l,b⟩:=k;exact m.then b),?_⟩);obtain⟨q,c,rfl,p,l,b⟩:=k;have d:=d.then b;have y:=n.rd l b (Ds.qf _ _).2.1;exact gl g5 1 Z (jd (j1 (jh (j6 (gp Z Z ⟨q,c,Z,p.older o.size,y,d⟩)))))
theorem decobj_calls (w:World) {W:World} {rb b4 b5 b6:Nat} {s:Ds} (h:Ch W w rb b4 b6 s) {ok:Bool} (hb5:gu w b5 4 [.bool ok]):
  ge prog 106 [.pointer (some ⟨b6,0,none⟩),.pointer (some ⟨b5,0,none⟩)] w λv w'=>∃a,v= .agg (js (vy (s.str 2).1).1 a).toArray/\qs w w' (vy (s.str 2).1).1 a/\Ch W w' rb b4 b6 (s.str 2).2/\gu w' b5 4 [.bool (ok&&decide ((vy (s.str 2).1).2=0))]/\Ext (λx=>x=rb\/x=b5) w w':=by
 have C:=bP (s.vj 2).1 h.len;have j:=dec_ok C;refine gt func106 ?_;have g:=Ext.refl (λx=>x=rb\/x=b5) w;refine ki (gn Z λM N E b y=>?_);have F:=Nat.le_trans g.size E;have h:=h.g0 y;have hb5:=hb5.g0 y;have g:=g.g4 y;refine qi (ki (gj Z (h.p6.cell Z) (g7 call102 Z (yq0 N h) ?_)));rintro X O⟨q,c,rfl,P,Q,A⟩;have b:=b.g9 A (h.ne b zd);have g:=g.then (A.mono λ_ _ e=> .inl e);have hb5:=hb5.g9 A (h.ne hb5 zd);have h:=Q;have H:=g;refine g7 call107 Z (decode_calls O P.sl C) ?_;rintro Y G⟨a,rfl,i,r⟩;have b:=b.g0 r;have h:=h.g0 r;have hb5:=hb5.g0 r;have g:=g.g4 r;have i:=i.older H.size;refine gv g5 Z (gn Z λR w4 D f k=>?_);have B:=gw b.lt D;have K:=Nat.le_trans g.size D;have b:=b.g0 k;have h:=h.g0 k;have hb5:=hb5.g0 k;have i:=i.g0 k;have g:=g.g4 k;have l:=f;refine wl (gz (l':=js (vy (s.str 2).1).1 a) g5 f Z Z (gi j.1) (gi j.1) OneC.h λw5 f m S=>?_);have b:=b.g9 m B;have h:=h.g9 m l zd;have hb5:=hb5.g9 m (hb5.ne l zd);have i:=i.g9 m l zd zd zd;have g:=g.g8 m K;refine k9 Z (jb (α:=Bool) [2,3] Z (λz=>[]) (λz u=>(z=(ok&&decide ((vy (s.str 2).1).2=0))/\Ch W u rb b4 b6 (s.str 2).2/\gu u b5 4 [.bool z]/\qs w u (vy (s.str 2).1).1 a)/\gu u M 37 (cellsOf ti37.zero)/\gu u R 37 (js (vy (s.str 2).1).1 a)/\Ext (λx=>x=rb\/x=b5) w u) ?_ ?_);refine gr (gj Z (hb5.cell Z) (gv g5 Z (qy 12 Z (λL=>?_) (λL=>?_))));exact gm g5 3 Z (have d:=hb5;ka hb5 Z Z Z λw6 hb5 n T=> have h:=h.g9 n d zd;have i:=i.g9 n d zd zd zd;have b:=b.g9 n (b.ne d zd);have f:=f.g9 n (f.ne d zd);have g:=g.then (n.mono λ_ _ e=> .inr e);ga (gk (_) Z ⟨⟨by rw[L];rfl,h,hb5,i⟩,b,f,g⟩));exact gm g5 3 Z (have d:=hb5;ka hb5 Z Z Z λw7 hb5 o U=> have h:=h.g9 o d zd;have i:=i.g9 o d zd zd zd;have b:=b.g9 o (b.ne d zd);have f:=f.g9 o (f.ne d zd);have g:=g.then (o.mono λ_ _ e=> .inr e);ga (gk (false) Z ⟨⟨by rw[L];rfl,h,hb5,i⟩,b,f,g⟩));rintro z w8 ⟨⟨rfl,h,hb5,i⟩,b,f,g⟩;exact ki (j8 f Z (gi j.1) (have p:=b;wl (gz (l':=js (vy (s.str 2).1).1 a) g5 b Z Z (gi j.1) (by rw[gi j.1];rfl) OneC.h λw9 b t V=> have h:=h.g9 t p zd;have hb5:=hb5.g9 t (hb5.ne p zd);have i:=i.g9 t p zd zd zd;have g:=g.g8 t F;qi (j6 (ko [_] ⟨⟨M,0,Z,kj g5 Z Z b.kc (gi j.1)⟩,trivial⟩ ⟨a,Z,i,h,hb5,g⟩)))))
structure SevO (w W u : World) (rb b4 b5 b6 : Nat) (s : Ds) (n : Nat) (ok : Bool) (q : Option Addr) (k : Nat) (xs : List xq6) : Prop where
  own : jj w u q xs.length k 37 73 (xs.flatMap B2)
  all : ∀ x ∈ xs, Df x.1 /\ qs w u x.1 x.2
  i : Ch W u rb b4 b6 (Ds.each yq9 n s).2
  few : xs.length <= n
  b5 : ∃ o, gu u b5 4 [.bool o] /\ ((Ds.each yq9 n s).2.bad = false -> xs.map Prod.fst = (Ds.each yq9 n s).1.map (λy => (vy y).1) /\ o = (ok && (Ds.each yq9 n s).1.all λy => decide ((vy y).2 = 0)))
theorem objZc : cellsOf ti37.zero = js uv noP := by kernel_rfl
theorem yj4 {o:jr} {a:vh} (h:vn o):yk (Cl 1 (js uv noP)) [(0*(0+73),0+73,.agg (js o a).toArray)]=js o a:=by
 simp only[yk,j4];rw[cX,Ba (by rw[ur,gi h,gi ky])]
theorem qs.extT {W0 w w':World} {o:jr} {a:vh} (h:qs W0 w o a) {p:Option Addr} {n c T sz:Nat} {xs:List Value} (ho:Own w p n c T sz xs) (hE:Ext (j5 p) w w') (h1:148≠T) (h2:30≠T) (h3:150≠T):qs W0 w' o a:=by
 rcases ho with⟨e,_⟩|⟨b,l,e,f,_⟩;exact h.g0 (hE.mono λx _ d=>by rw[e] at d;cases d);exact h.g9 (hE.mono λx _ d=>by rw[e] at d;exact(congrArg Addr.block (bW d)).symm) f h1 h2 h3
theorem Own.not2 {w:World} {p:Option Addr} {n c T sz:Nat} {xs:List Value} (h:Own w p n c T sz xs) {rb b5:Nat} {s:Ds} {v:List Value} (hr:D4 w rb s) (hb:gu w b5 4 v) (h1:264≠T) (h2:T≠4):∀y,j5 p y->¬(y=rb\/y=b5):=λy b e=>by
 let⟨l,a⟩:=h.Cm b
 exact e.elim (λe=>hr.ne a h1 e.symm) λe=>a.ne hb h2 e
theorem objNew_keep {W0 w w':World} {o:jr} {a:vh} (h:qs W0 w o a) {rb b5:Nat} {s:Ds} {v:List Value} (hE:Ext (λx=>x=rb\/x=b5) w w') (hr:D4 w rb s) (hb:gu w b5 4 v):qs W0 w' o a:=
 ⟨h.ol.ext hE (Own.not2 h.ol hr hb zd zd),h.op.ext hE (Own.not2 h.op hr hb zd zd),h.or.ext hE (Own.not2 h.or hr hb zd zd),h.nl,h.np,h.nr⟩
theorem ds_err {s : Ds} : s.err = 0 ↔ s.bad = false := by unfold Ds.err; cases s.bad <;> simp
theorem C5 {α : Type} {f : Ds -> α × Ds} {n : Nat} {s : Ds} (h : s.bad = true) : Ds.each f n s = ([], s) := Ds.each_end (.inr h)
theorem sevobj_calls (w:World) {W:World} {rb b4 b5 b6:Nat} {s:Ds} (h:Ch W w rb b4 b6 s) {ok:Bool} (hb5:gu w b5 4 [.bool ok]) (n:Nat) (hn:n<65536) (hs:n=0\/s.bad=false):
  ge prog 105 [.pointer (some ⟨rb,0,none⟩),.int .i64 (n:Int),.func (.func 106) #[] #[.pointer (some ⟨b6,0,none⟩),.pointer (some ⟨b5,0,none⟩)]] w λv w'=>∃q k xs,v= .slice q xs.length k/\SevO w W w' rb b4 b5 b6 s n ok q k xs/\Ext (λx=>x=rb\/x=b5) w w':=by
 refine gt func105 (have c:=Ext.refl (λx=>x=rb\/x=b5) w;jn Z (jb (α:=Option Addr×Nat×List xq6) [] Z (λz=>[(6,.slice z.1 z.2.2.length z.2.1)]) (λz u=>(SevO w W u rb b4 b5 b6 s n ok z.1 z.2.1 z.2.2)/\Ext (λx=>x=rb\/x=b5) w u) ?_ ?_));refine gh (gr (k9 Z (j0 (ja (α:=Nat×Option Addr×Nat×List xq6×Ds×List Bytes×Bool) [0,2,8] Z (λz=>[(6,.slice z.2.1 z.2.2.2.1.length z.2.2.1),(9,.int .i64 (z.1:Int))]) (λz u=>((z.1<=n/\(z.1=n\/z.2.2.2.2.1.bad=false)/\z.2.2.2.1.length=z.1/\Ds.each yq9 n s=(z.2.2.2.2.2.1++(Ds.each yq9 (n-z.1) z.2.2.2.2.1).1,(Ds.each yq9 (n-z.1) z.2.2.2.2.1).2)/\z.2.2.2.1.map Prod.fst=z.2.2.2.2.2.1.map (λy=>(vy y).1)/\z.2.2.2.2.2.2=(ok&&z.2.2.2.2.2.1.all λy=>decide ((vy y).2=0)))/\jj w u z.2.1 z.2.2.2.1.length z.2.2.1 37 73 (z.2.2.2.1.flatMap B2)/\(∀x∈z.2.2.2.1,Df x.1/\qs w u x.1 x.2)/\Ch W u rb b4 b6 z.2.2.2.2.1/\gu u b5 4 [.bool z.2.2.2.2.2.2])/\Ext (λx=>x=rb\/x=b5) w u) (λz u=>n-z.1) (0,none,0,[],s,[],ok) Z ⟨⟨⟨aF _,hs.imp Eq.symm id,Z,Z,Z,by simp⟩,jj.nil _ _ _ _,λ_ h=>(by cases h),h,hb5⟩,c⟩ ?_))));rintro⟨i,q,k,xs,p,ys,o⟩ w1 ⟨⟨⟨hi,N,O,j,K,U⟩,f,b,h,hb5⟩,c⟩;dsimp only at hi N O j K U f b h hb5;refine uz Z (jc Z (λP=>?_) (λP=>?_));have V:i<n:=by omega
 have X:p.bad=false:=N.elim (λe=>by omega) id;have Y:=bP (p.vj 2).1 h.len;have l:=dec_ok Y;rw[show n-i=(n-i-1)+1 from by omega,Ds.zx4 X] at j;refine yz (jy Z ?_);have I:=c;have d:=f;have D:=b;have Q:=h;refine g7 call106 Z (decobj_calls w1 h hb5) ?_;rintro v2 w2⟨a,rfl,E,h2,R,L⟩;have c:=c.then L;have f:=jj.mk (d.own.ext L (Own.not2 d.own Q.r hb5 zd zd)) d.new;have b:(∀x∈xs,Df x.1/\qs w w2 x.1 x.2):=λx g=>⟨(D x g).1,objNew_keep (D x g).2 L Q.r hb5⟩
 have h:=h2;have hb5:=R;have E:=E.older I.size;have ab:=f;refine gn Z λb7 w3 S G A=>?_;have ac:=Nat.le_trans c.size S;have h:=h.g0 A;have hb5:=hb5.g0 A;have f:=f.g0 A;have b:=λx g=>And.intro (b x g).1 ((b x g).2.g0 A);have E:=E.g0 A;have c:=c.g4 A;have ad:∀y,j5 q y->y≠b7:=λy hy=>gw (ab.own.lt hy) S;have t:=G;refine wl (gz (l':=js (vy (p.str 2).1).1 a) g5 G Z Z (gi l.1) (gi l.1) OneC.h λw4 G B ai=>?_);have h:=h.g9 B t zd;have hb5:=hb5.g9 B (hb5.ne t zd);have f:=jj.mk (f.own.ext B λy hy e=>ad y hy e) f.new;have b:=λx g=>And.intro (b x g).1 ((b x g).2.g9 B t zd zd zd);have E:=E.g9 B t zd zd zd;have c:=c.g8 B ac;refine qi (gh (jy Z (g7 call111 Z (h.r.err) ?_)));rintro v5 w5⟨rfl,rfl⟩;refine k9 Z (jc Z (λP=>?_) (λP=>?_));have J:(yq9 p).2.bad=true:=by have:=mt ds_err.2 P;simpa using this
 have H:(Ds.each yq9 n s).2=(yq9 p).2:=by rw[j];dsimp only;rw[C5 J]
 exact vw (ke (f_blockE' Z (ke (ke (qu (gk (q,k,xs) Z ⟨⟨f,b,by rw[H];exact h,by dsimp only;omega,_,hb5,λhb=>by rw[H,J] at hb;cases hb⟩,c⟩))))));have M:(yq9 p).2.bad=false:=ds_err.1 (aN.1 P);refine vo (xt Z (j8 G Z (gi l.1) (wl (kz g5 Z 73 Z objZc (gi ky) zd zd ⟨⟨by rw[j4];exact gi l.1,by decide⟩,trivial⟩ (l':=js (vy (p.str 2).1).1 a) (yj4 l.1) λaf w6 ah T C aj=> have h:=h.g0 C;have hb5:=hb5.g0 C;have f:=f.g0 C;have b:=λx g=>And.intro (b x g).1 ((b x g).2.g0 C);have E:=E.g0 C;have c:=c.g4 C;have d:=f.own;wl (vu g5 Z 73 192 Z Z Z zd f (Src.slice (m:=1) ⟨gi l.1,.inr ⟨af,0,Z,T.kc⟩⟩ OneC.h) zm zn (n':=(xs++[((vy (p.str 2).1).1,a)]).length) (ys:=(xs++[((vy (p.str 2).1).1,a)]).flatMap B2) zh (by rw[aQ,bB];rfl) c λq k w7 f F c=>?_)))));dsimp only at f F;have h:=h.own d F zd λx=>d.lt;have hb5:=hb5.jq d F zd;have b:=λx g=>And.intro (b x g).1 ((b x g).2.extT d F zd zd zd);have E:=E.extT d F zd zd zd;refine gv g5 Z (ga (yt Z ?_));rw[jt _ zo];exact ga (j9 (i+1,q,k,xs++[((vy (p.str 2).1).1,a)],(yq9 p).2,ys++[(p.str 2).1],o&&decide ((vy (p.str 2).1).2=0)) Z ⟨⟨⟨V,.inr M,by simp[O],by rw[j];simp[show n-(i+1)=n-i-1 from by omega],by rw[bE,bE,K];rfl,by rw[U,List.all_append];simp[Bool.and_assoc]⟩,f,λx g=>(aV.1 g).elim (b x) (λe=>by rw[aE.1 e];exact⟨l,E⟩),h,hb5⟩,c⟩ zf);have h0:i=n:=by omega
 subst h0;rw[Nat.sub_self] at j;have ag:(Ds.each yq9 i s).1=ys:=by rw[j];simp[Ds.each]
 have H:(Ds.each yq9 i s).2=p:=by rw[j];rfl
 exact vw (ke (ke (qu (gk (q,k,xs) Z ⟨⟨f,b,by rw[H];exact h,by dsimp only;omega,_,hb5,λ_=>by rw[ag];exact⟨K,U⟩⟩,c⟩))));rintro⟨q,k,xs⟩ w8 ⟨hS,c⟩;exact jn Z (j6 (gp Z Z ⟨q,k,xs,Z,hS,c⟩))
structure y9 (W w : World) (x : zv1) : Prop where
  old : jj W w x.2.op x.1.old.length x.2.oc 5 1 (g6 x.1.old)
  new : jj W w x.2.np x.1.new.length x.2.nc 5 1 (g6 x.1.new)
  ln : x.1.name.length < 1000000000
  lo : x.1.old.length < 1000000000
  lw : x.1.new.length < 1000000000
theorem y9.g0 {W w w' : World} {x : zv1} (h : y9 W w x) (hE : Ext No w w') : y9 W w' x := ⟨h.old.g0 hE, h.new.g0 hE, h.ln, h.lo, h.lw⟩
theorem y9.g9 {W w w':World} {x:zv1} (h:y9 W w x) {b T:Nat} {L:List Value} (hE:Ext (One b) w w') (hb:gu w b T L) (hT:5≠T):y9 W w' x:=⟨h.old.g9 hE hb hT,h.new.g9 hE hb hT,h.ln,h.lo,h.lw⟩
theorem y9.at {W w : World} {x : zv1} (h : y9 W w x) : SetAt w x := ⟨h.old.sl, h.new.sl, h.ln, h.lo, h.lw⟩
theorem y9.Dg {W w w':World} {x:zv1} (h:y9 W w x) {p2:Option Addr} {n2 c2 T2 sz2:Nat} {xs2:List Value} (ho:Own w p2 n2 c2 T2 sz2 xs2) (hE:Ext (j5 p2) w w') (hT:5≠T2):y9 W w' x:=⟨h.old.Dg ho hE hT,h.new.Dg ho hE hT,h.ln,h.lo,h.lw⟩
theorem ownRd {W w w':World} {p:Option Addr} {n c T sz:Nat} {xs:List Value} (h:jj W w p n c T sz xs) {rb:Nat} {s:Ds} (hE:Ext (One rb) w w') (hr:D4 w rb s) (hT:264≠T):jj W w' p n c T sz xs:=
 ⟨h.own.ext hE λy a e=>by let⟨l,b⟩:=h.own.Cm a;exact hr.ne b hT (by have e:y=rb:=e;exact e.symm),h.new⟩
theorem y9.rd {W w w':World} {x:zv1} (h:y9 W w x) {rb:Nat} {s:Ds} (hE:Ext (One rb) w w') (hr:D4 w rb s):y9 W w' x:=⟨ownRd h.old hE hr zd,ownRd h.new hE hr zd,h.ln,h.lo,h.lw⟩
theorem setZc : cellsOf ti91.zero = vv (⟨[], false, false, [], []⟩, ⟨none, 0, none, 0⟩) := by kernel_rfl
theorem y9.older {V W w:World} {x:zv1} (h:y9 W w x) (hV:V.heap.size<=W.heap.size):y9 V w x:=⟨h.old.older hV,h.new.older hV,h.ln,h.lo,h.lw⟩
theorem decset_calls (w:World) {W:World} {rb b4 b6:Nat} {s:Ds} (h:Ch W w rb b4 b6 s):
  ge prog 110 [.pointer (some ⟨b4,0,none⟩),.pointer (some ⟨b6,0,none⟩)] w λv w'=>∃a,v= .agg (vv (s.set.1,a)).toArray/\y9 w w' (s.set.1,a)/\Ch W w' rb b4 b6 s.set.2/\Ext (One rb) w w':=by
 have F:=s.ug 1;have U:=h.len;refine gt func110 (have e:=Ext.refl (One rb) w;ki (gn Z λx w1 V b G=> have l:=Nat.le_trans e.size V;have h:=h.g0 G;have e:=e.g4 G;have b:gu w1 x 91 (vv (⟨[],false,false,[],[]⟩,⟨none,0,none,0⟩)):=b;qi (gh (jl Z 7 [qP 0,qP 1,(2,false),qP 3,(4,false),(5,false),qP 6] [7] (One rb) zk λw2 u af=> have D:=h;have b:=b.g0 u;have h:=h.g0 u;have e:=e.g4 u;have y:Ext (One rb) _ w2:=u.no;gy g5 Z Z (λw' z=>((D.p4.ext (show Ext (One rb) _ w' from z) (D.ne D.p4 zd)).cell Z)) (gy g5 Z Z (λw' z=>((D.p4.ext (show Ext (One rb) _ w' from z) (D.ne D.p4 zd)).cell Z)) (jg Z (gx call109 Z (h.r.u8 h.len) λv3 w3 H=>⟨(by let⟨rfl,m,n⟩:=H;exact y.then n),?_⟩)))))));obtain⟨rfl,m,n⟩:=H;have b:=b.g9 n (h.ne b zd);have e:=e.then n;have y:=y.then n;have h:=h.rd m n (s.qf 1).2.1;refine gl g5 1 Z ?_;rw[jt _ zo];refine jg Z (gx call103 Z (h.r.rawN h.len (num (s.off 1).1)) λv4 w4 J=>⟨(by obtain⟨q,c,rfl,hq,K,o⟩:=J;exact y.then o),?_⟩);obtain⟨q,c,rfl,hq,K,o⟩:=J;have b:=b.g9 o (h.ne b zd);have e:=e.then o;have y:=y.then o;have h:Ch W w4 rb b4 b6 (s.str 1).2:=h.rd K o (Ds.qf _ _).2.1;have X:=bP (s.vj 1).1 U;refine jg Z (zq5 g5 Z Z hq.sl ⟨y,?_⟩);refine gl g5 1 Z (jd ?_);have d:=b;refine wb Z (Aa g5 b Z Z Z λw5 b L ag=>?_);have h:=h.g9 L d zd;have e:=e.g8 L l;have b:gu w5 x 91 (vv (⟨(s.str 1).1,false,false,[],[]⟩,⟨none,0,none,0⟩)):=b;refine j1 (jh (ki (gj Z (h.p4.cell Z) ?_)));have F:=Ds.ug (s.str 1).2 1;refine g7 call109 Z (h.r.u8 h.len) ?_;rintro v6 w6⟨rfl,m,A⟩;have b:=b.g9 A (h.ne b zd);have e:=e.then A;have h:=h.rd m A (Ds.qf _ _).2.1;refine gv g5 Z ?_;rw[show decide ((0:Int)<((num ((s.str 1).2.off 1).1:Nat):Int))=decide (0<num ((s.str 1).2.off 1).1) from by rw[aH];omega];refine gv g5 Z ?_;have d:=b;refine ka b Z Z Z λw7 b M ah=>?_;have h:=h.g9 M d zd;have e:=e.g8 M l;have b:gu w7 x 91 (vv (⟨(s.str 1).1,(decide (0<num ((s.str 1).2.off 1).1)),false,[],[]⟩,⟨none,0,none,0⟩)):=b;refine qi (ki (gj Z (h.p6.cell Z) ?_));have B:=e;have E:=h;refine g7 call102 Z (yq0 w7 h) ?_;rintro v8 w8⟨N,O,rfl,f,h2,P⟩;have b:=b.g9 P (h.ne b zd);have e:=e.then P;have h:=h2;have f:=f.older B.size;have aa:=bP (Ds.vj ((s.str 1).2.off 1).2 2).1 E.len;refine gv g5 Z ?_;have d:=b;refine ka b Z Z Z λw9 b C ai=>?_;have h:=h.g9 C d zd;have f:=f.g9 C d zd;have e:=e.g8 C l;have b:gu w9 x 91 (vv (⟨(s.str 1).1,(decide (0<num ((s.str 1).2.off 1).1)),false,(((s.str 1).2.off 1).2.str 2).1,[]⟩,⟨N,O,none,0⟩)):=b;refine qi (ki (gj Z (h.p4.cell Z) ?_));have E:=h;have F:=Ds.ug (((s.str 1).2.off 1).2.str 2).2 1;refine g7 call109 Z (h.r.u8 h.len) ?_;rintro aj ak⟨rfl,m,i⟩;have b:=b.g9 i (h.ne b zd);have e:=e.then i;have h:=h.rd m i (Ds.qf _ _).2.1;have f:=ownRd f i E.r zd;refine gv g5 Z ?_;rw[show decide ((0:Int)<((num ((((s.str 1).2.off 1).2.str 2).2.off 1).1:Nat):Int))=decide (0<num ((((s.str 1).2.off 1).2.str 2).2.off 1).1) from by rw[aH];omega];refine gv g5 Z ?_;have d:=b;refine ka b Z Z Z λR b p ac=>?_;have h:=h.g9 p d zd;have f:=f.g9 p d zd;have e:=e.g8 p l;have b:gu R x 91 (vv (⟨(s.str 1).1,(decide (0<num ((s.str 1).2.off 1).1)),(decide (0<num ((((s.str 1).2.off 1).2.str 2).2.off 1).1)),(((s.str 1).2.off 1).2.str 2).1,[]⟩,⟨N,O,none,0⟩)):=b;refine qi (ki (gj Z (h.p6.cell Z) ?_));have B:=e;have E:=h;refine g7 call102 Z (yq0 R h) ?_;rintro am an⟨q2,c2,rfl,g,h2,t⟩;have b:=b.g9 t (h.ne b zd);have e:=e.then t;have h:=h2;have g:=g.older B.size;have T:=bP (Ds.vj ((((s.str 1).2.off 1).2.str 2).2.off 1).2 2).1 E.len;have f:=ownRd f t E.r zd;refine gv g5 Z ?_;have d:=b;refine ka b Z Z Z λab b j ad=>?_;have h:=h.g9 j d zd;have f:=f.g9 j d zd;have g:=g.g9 j d zd;have e:=e.g8 j l;have b:gu ab x 91 (vv (⟨(s.str 1).1,(decide (0<num ((s.str 1).2.off 1).1)),(decide (0<num ((((s.str 1).2.off 1).2.str 2).2.off 1).1)),(((s.str 1).2.off 1).2.str 2).1,(((((s.str 1).2.off 1).2.str 2).2.off 1).2.str 2).1⟩,⟨N,O,q2,c2⟩)):=b;refine qi (ki (j8 b Z Z ?_));have d:=b;refine wl (gz (l':=vv (⟨(s.str 1).1,(decide (0<num ((s.str 1).2.off 1).1)),(decide (0<num ((((s.str 1).2.off 1).2.str 2).2.off 1).1)),(((s.str 1).2.off 1).2.str 2).1,(((((s.str 1).2.off 1).2.str 2).2.off 1).2.str 2).1⟩,⟨N,O,q2,c2⟩)) g5 b Z Z Z Z OneC.h λap b k ae=>?_);have h:=h.g9 k d zd;have f:=f.g9 k d zd;have g:=g.g9 k d zd;have e:=e.g8 k l;refine qi (j6 (ko [_] ⟨⟨x,0,Z,kj g5 Z Z b.kc Z⟩,trivial⟩ ?_));exact⟨⟨N,O,q2,c2⟩,Z,⟨f,g,X,aa,T⟩,h,e⟩
structure SevS (w W u : World) (rb b4 b6 : Nat) (s : Ds) (n : Nat) (q : Option Addr) (k : Nat) (xs : List zv1) : Prop where
  own : jj w u q xs.length k 91 5 (xs.flatMap vv)
  all : ∀ x ∈ xs, y9 w u x
  i : Ch W u rb b4 b6 (Ds.each Ds.set n s).2
  few : xs.length <= n
  eq : (Ds.each Ds.set n s).2.bad = false -> xs.map Prod.fst = (Ds.each Ds.set n s).1
theorem set_put (x : zv1) : yk (Cl 1 (vv (⟨[], false, false, [], []⟩, ⟨none, 0, none, 0⟩))) [(0 * (0 + 5), 0 + 5, .agg (vv x).toArray)] = vv x := rfl
theorem sevset_calls (w:World) {W:World} {rb b4 b6:Nat} {s:Ds} (h:Ch W w rb b4 b6 s) (n:Nat) (hn:n<65536) (hs:n=0\/s.bad=false):
  ge prog 108 [.pointer (some ⟨rb,0,none⟩),.int .i64 (n:Int),.func (.func 110) #[] #[.pointer (some ⟨b4,0,none⟩),.pointer (some ⟨b6,0,none⟩)]] w λv w'=>∃q k xs,v= .slice q xs.length k/\SevS w W w' rb b4 b6 s n q k xs/\Ext (One rb) w w':=by
 refine gt func108 (have c:=Ext.refl (One rb) w;jn Z (jb (α:=Option Addr×Nat×List zv1) [] Z (λz=>[(6,.slice z.1 z.2.2.length z.2.1)]) (λz u=>(SevS w W u rb b4 b6 s n z.1 z.2.1 z.2.2)/\Ext (One rb) w u) ?_ ?_));refine gh (gr (k9 Z (j0 (ja (α:=Nat×Option Addr×Nat×List zv1×Ds) [0,2,8] Z (λz=>[(6,.slice z.2.1 z.2.2.2.1.length z.2.2.1),(9,.int .i64 (z.1:Int))]) (λz u=>((z.1<=n/\(z.1=n\/z.2.2.2.2.bad=false)/\z.2.2.2.1.length=z.1/\Ds.each Ds.set n s=(z.2.2.2.1.map Prod.fst++(Ds.each Ds.set (n-z.1) z.2.2.2.2).1,(Ds.each Ds.set (n-z.1) z.2.2.2.2).2))/\jj w u z.2.1 z.2.2.2.1.length z.2.2.1 91 5 (z.2.2.2.1.flatMap vv)/\(∀x∈z.2.2.2.1,y9 w u x)/\Ch W u rb b4 b6 z.2.2.2.2)/\Ext (One rb) w u) (λz u=>n-z.1) (0,none,0,[],s) Z ⟨⟨⟨aF _,hs.imp Eq.symm id,Z,Z⟩,jj.nil _ _ _ _,λ_ h=>(by cases h),h⟩,c⟩ ?_))));rintro⟨i,q,k,xs,g⟩ w1 ⟨⟨⟨hi,J,K,f⟩,d,b,h⟩,c⟩;dsimp only at hi J K f d b h;refine uz Z (jc Z (λL=>?_) (λL=>?_));have P:i<n:=by omega
 have Q:g.bad=false:=J.elim (λe=>by omega) id;rw[show n-i=(n-i-1)+1 from by omega,Ds.zx4 Q] at f;refine yz (jy Z ?_);have R:=c;have M:=h;refine g7 call110 Z (decset_calls w1 h) ?_;rintro v2 w2⟨a,rfl,j,h2,G⟩;have c:=c.then G;have d:=ownRd d G M.r zd;have b:=λx l=>(b x l).rd G M.r;have h:=h2;have j:=j.older R.size;have T:=d;refine gn Z λb7 w3 N B o=>?_;have U:=Nat.le_trans c.size N;have h:=h.g0 o;have d:=d.g0 o;have b:=λx l=>(b x l).g0 o;have j:=j.g0 o;have c:=c.g4 o;have V:∀y,j5 q y->y≠b7:=λy X=>gw (T.own.lt X) N;have p:=B;refine wl (gz (l':=vv (g.set.1,a)) g5 B Z Z Z Z OneC.h λw4 B t ac=>?_);have h:=h.g9 t p zd;have d:=jj.mk (d.own.ext t λy X e=>V y X e) d.new;have b:=λx l=>(b x l).g9 t p zd;have j:=j.g9 t p zd;have c:=c.g8 t U;refine qi (gh (jy Z (g7 call111 Z (h.r.err) ?_)));rintro v5 w5⟨rfl,rfl⟩;refine k9 Z (jc Z (λL=>?_) (λL=>?_));have F:g.set.2.bad=true:=by have:=mt ds_err.2 L;simpa using this
 have C:(Ds.each Ds.set n s).2=g.set.2:=by rw[f];dsimp only;rw[C5 F]
 exact vw (ke (f_blockE' Z (ke (ke (qu (gk (q,k,xs) Z ⟨⟨d,b,by rw[C];exact h,by dsimp only;omega,λhb=>by rw[C,F] at hb;cases hb⟩,c⟩))))));have H:g.set.2.bad=false:=ds_err.1 (aN.1 L);refine vo (xt Z (j8 B Z Z (wl (kz g5 Z 5 Z setZc Z zd zd ⟨⟨Z,by decide⟩,trivial⟩ (l':=vv (g.set.1,a)) (set_put _) λI w6 ab O A ad=> have h:=h.g0 A;have d:=d.g0 A;have b:=λx l=>(b x l).g0 A;have j:=j.g0 A;have c:=c.g4 A;have D:=d.own;wl (vu g5 Z 5 72 Z Z Z zd d (Src.slice (m:=1) ⟨Z,.inr ⟨I,0,Z,O.kc⟩⟩ OneC.h) zm zn (n':=(xs++[(g.set.1,a)]).length) (ys:=(xs++[(g.set.1,a)]).flatMap vv) zh (by rw[aQ,bB]) c λq k w7 d E c=>?_)))));dsimp only at d E;have h:=h.own D E zd λx=>D.lt;have b:=λx l=>(b x l).Dg D E zd;have j:=j.Dg D E zd;refine gv g5 Z (ga (yt Z ?_));rw[jt _ zo];exact ga (j9 (i+1,q,k,xs++[(g.set.1,a)],g.set.2) Z ⟨⟨⟨P,.inr H,by simp[K],by rw[f];simp[show n-(i+1)=n-i-1 from by omega]⟩,d,λx l=>(aV.1 l).elim (b x) (λe=>by rw[aE.1 e];exact j),h⟩,c⟩ zf);have h0:i=n:=by omega
 subst h0;rw[Nat.sub_self] at f;have aa:(Ds.each Ds.set i s).1=xs.map Prod.fst:=by rw[f];simp[Ds.each]
 have C:(Ds.each Ds.set i s).2=g:=by rw[f];rfl
 exact vw (ke (ke (qu (gk (q,k,xs) Z ⟨⟨d,b,by rw[C];exact h,by dsimp only;omega,λ_=>aa.symm⟩,c⟩))));rintro⟨q,k,xs⟩ w8 ⟨hS,c⟩;exact jn Z (j6 (gp Z Z ⟨q,k,xs,Z,hS,c⟩))
structure ym (W w : World) (B : qv) : Prop where
  os : jj W w B.op B.os.length B.oc 37 73 (B.os.flatMap B2)
  ss : jj W w B.sp B.ss.length B.sc 91 5 (B.ss.flatMap vv)
  o : ∀ x ∈ B.os, Df x.1 /\ qs W w x.1 x.2
  s : ∀ x ∈ B.ss, y9 W w x
  lo : B.os.length < 1000000
  ls : B.ss.length < 1000000
theorem ym.at {W w:World} {B:qv} (h:ym W w B):C1 w B:=⟨h.os.sl,h.ss.sl,λx a=>⟨(h.o x a).1.1,(h.o x a).1.2,(h.o x a).2.l⟩,λx a=>(h.s x a).at,h.lo,h.ls⟩
theorem ym.g0 {W w w':World} {B:qv} (h:ym W w B) (hE:Ext No w w'):ym W w' B:=⟨h.os.g0 hE,h.ss.g0 hE,λx a=>⟨(h.o x a).1,(h.o x a).2.g0 hE⟩,λx a=>(h.s x a).g0 hE,h.lo,h.ls⟩
abbrev um : qv := ⟨none, 0, [], none, 0, []⟩
theorem ym.no (W w : World) : ym W w um := ⟨jj.nil _ _ _ _, jj.nil _ _ _ _, λ_ h => (by cases h), λ_ h => (by cases h), by decide, by decide⟩
theorem off_okS (s : Ds) (n : Nat) : num (s.off n).1 = 0 \/ (s.off n).2.bad = false := by
  unfold Ds.off; split
  · exact .inl Z
  · exact .inr Z
theorem off_badS {s:Ds} {n:Nat} (h:(s.off n).2.bad=false):s.bad=false:=by
 unfold Ds.off at h;split at h;cases h;rename_i a;cases hb:s.bad;rfl;exact absurd (.inl hb) a
theorem each_good {α:Type} {f:Ds->α×Ds} {n:Nat} {s:Ds} (h:(Ds.each f n s).2.bad=false):s.bad=false:=by
 cases hb:s.bad;rfl;rw[C5 hb,hb] at h;cases h
theorem objNew_rd {W w w':World} {o:jr} {a:vh} (h:qs W w o a) {rb:Nat} {s:Ds} (hE:Ext (One rb) w w') (hr:D4 w rb s):qs W w' o a:=
 ⟨(ownRd ⟨h.ol,h.nl⟩ hE hr zd).own,(ownRd ⟨h.op,h.np⟩ hE hr zd).own,(ownRd ⟨h.or,h.nr⟩ hE hr zd).own,h.nl,h.np,h.nr⟩
theorem ym.extB {W w w':World} {B:qv} (h:ym W w B) {b:Nat} {L:List Value} (hE:Ext (One b) w w') (hb:gu w b 25 L):ym W w' B:=
 ⟨h.os.g9 hE hb zd,h.ss.g9 hE hb zd,λx a=>⟨(h.o x a).1,(h.o x a).2.g9 hE hb zd zd zd⟩,λx a=>(h.s x a).g9 hE hb zd,h.lo,h.ls⟩
theorem sdecode_calls (w:World) {p:Option Addr} {c:Nat} {l:Bytes} (hs:ux w p l) (hl:l.length<1000000000):
  ge prog 36 [.slice p l.length c] w λv w'=>∃B:qv,v= .tuple #[B.v,.int .i64 (vi l).2]/\B.d=(vi l).1/\ym w w' B/\Ext No w w':=by
 have ba:=hs;refine gt func36 ?_;have m:=Ext.refl No w;refine ki (gn Z λb2 w1 b1 a bb=>?_);have ax:=Nat.le_trans m.size b1;have hs:=hs.g0 bb;have m:=m.g4 bb;have a:gu w1 b2 25 (um.c):=a;refine k9 Z (jy Z ?_);have b3:=m;refine g7 call101 Z (zz0 w1 hs hl) λv2 w2 b8=>?_;obtain⟨rb,rfl,ay,b9,bc⟩:=b8;have a:=a.g0 bc;have m:=m.g4 bc;have ay:=Nat.le_trans b3.size ay;have W:D4 w2 rb ⟨l,false⟩:=b9;refine gn Z λb4 w3 bd s az=>?_;have a0:=gw a.lt bd;have ca:=Nat.le_trans m.size bd;have a:=a.g0 az;have W:=W.g0 az;have m:=m.g4 az;have bf:=s;refine ka s Z Z Z λw4 s a1 c2=>?_;have a:=a.g9 a1 a0;have W:=W.g9 a1 bf zd zd;have m:=m.g8 a1 ca;have s:gu w4 b4 194 ([.pointer (some ⟨rb,0,none⟩)]):=s;refine qi (ki (gn Z λb5 w5 a2 g ai=>?_));have aa:=gw a.lt a2;have a3:=gw s.lt a2;have bg:=Nat.le_trans m.size a2;have a:=a.g0 ai;have s:=s.g0 ai;have W:=W.g0 ai;have m:=m.g4 ai;have bh:=g;refine ka g Z Z Z λw6 g aj c3=>?_;have a:=a.g9 aj aa;have s:=s.g9 aj a3;have W:=W.g9 aj bh zd zd;have m:=m.g8 aj bg;have g:gu w6 b5 4 ([.bool true]):=g;refine qi (jy Z (gn Z λb6 w7 ak X ab=>?_));have a4:=gw a.lt ak;have a5:=gw s.lt ak;have a6:=gw g.lt ak;have cb:=Nat.le_trans m.size ak;have a:=a.g0 ab;have s:=s.g0 ab;have g:=g.g0 ab;have W:=W.g0 ab;have m:=m.g4 ab;have bi:=X;refine ka X Z Z Z λw8 X ac c4=>?_;have a:=a.g9 ac a4;have s:=s.g9 ac a5;have g:=g.g9 ac a6;have W:=W.g9 ac bi zd zd;have m:=m.g8 ac cb;have X:gu w8 b6 135 ([longV b4]):=X;have h:Ch w w8 rb b4 b6 ⟨l,false⟩:=⟨W,s,X,ay,hl⟩
 obtain⟨s0,an⟩:∃s0:Ds,s0=⟨l,false⟩:=⟨_,Z⟩
 rw[<-an] at h;refine qi (ki (gn Z λb7 w9 a7 j am=>?_));have ad:=gw a.lt a7;have S:=gw g.lt a7;have bj:=Nat.le_trans m.size a7;have a:=a.g0 am;have g:=g.g0 am;have h:=h.g0 am;have m:=m.g4 am;have j:gu w9 b7 25 (um.c):=j;refine qi (gh (jl Z 7 [qP 0,qP 1,qP 4,(2,false),qP 3,(5,false),qP 6] [7] ((λx=>x=rb\/x=b5)) zk λcc H ct=>?_));have bk:=g;have T:=h;have a:=a.g0 H;have g:=g.g0 H;have j:=j.g0 H;have h:=h.g0 H;have m:=m.g4 H;have hC:Ext ((λx=>x=rb\/x=b5)) _ cc:=H.no;have c5:=s0.ug 2;refine gy g5 Z Z (λw' U=>((T.p4.ext (show Ext (λx=>x=rb\/x=b5) _ w' from U) λe=>e.elim (T.ne T.p4 zd) (T.p4.ne bk zd)).cell Z)) ?_;refine gy g5 Z Z (λw' U=>((T.p4.ext (show Ext (λx=>x=rb\/x=b5) _ w' from U) λe=>e.elim (T.ne T.p4 zd) (T.p4.ne bk zd)).cell Z)) ?_;refine gl g5 1 Z (jg Z (gx call104 Z (h.r.u16 h.len) λc6 cd ap=>⟨(by obtain⟨rfl,ae,A⟩:=ap;exact hC.then (A.mono λ_ _ e=> .inl e)),?_⟩));obtain⟨rfl,ae,A⟩:=ap;have a:=a.g9 A (h.ne a zd);have g:=g.g9 A (h.ne g zd);have j:=j.g9 A (h.ne j zd);have m:=rdNew m A h.nr;have hC:=hC.then (A.mono λ_ _ e=> .inl e);have h:=h.rd ae A (s0.qf 2).2.1;refine gl g5 1 Z ?_;rw[jt _ zo];have af:=m;refine jg Z (gx call105 Z (sevobj_calls cd h g (num (s0.off 2).1) zo (off_okS _ 2)) λc7 ce aq=>⟨(by obtain⟨q,k,E,rfl,hS,N⟩:=aq;exact hC.then N),?_⟩);obtain⟨q,k,E,rfl,hS,N⟩:=aq;have a:=a.ext N λe=>e.elim (h.ne a zd) aa;have j:=j.ext N λe=>e.elim (h.ne j zd) S.symm;have m:=m.newer N λy e=>e.elim (λe=>e▸h.nr) λe=>e▸bg;obtain⟨o,g,bm⟩:=hS.b5;have cu:=hS.few;obtain⟨Y,bn⟩:∃Y,Y=Ds.each yq9 (num (s0.off 2).1) (s0.off 2).2:=⟨_,Z⟩
 have h:=hS.i;rw[<-bn] at h bm;have L:=hS.own.older af.size;have n:∀x∈E,Df x.1/\qs w ce x.1 x.2:=λx R=>⟨(hS.all x R).1,(hS.all x R).2.older af.size⟩
 refine gl g5 1 Z (jd ?_);have J:=j;refine wb Z (Aa g5 j Z Z Z λcf j K cv=>?_);have a:=a.g9 K ad;have g:=g.g9 K S;have h:=h.g9 K J zd;have L:=L.g9 K J zd;have n:=λx R=>And.intro (n x R).1 ((n x R).2.g9 K J zd zd zd);have m:=m.g8 K bj;have j:gu cf b7 25 ([.slice q E.length k,.slice none 0 0]):=j;refine j1 (jh (gh (jl Z 7 [qP 0,qP 1,qP 4,(2,false),qP 3,(5,false),qP 6] [7] (One rb) zk λcg C cw=>?_)));have T:=h;have a:=a.g0 C;have g:=g.g0 C;have j:=j.g0 C;have h:=h.g0 C;have L:=L.g0 C;have n:=λx R=>And.intro (n x R).1 ((n x R).2.g0 C);have m:=m.g4 C;have hC:Ext (One rb) _ cg:=C.no;have cx:=Y.2.ug 1;refine gy g5 Z Z (λw' U=>((T.p4.ext (show Ext (One rb) _ w' from U) (T.ne T.p4 zd)).cell Z)) ?_;refine gy g5 Z Z (λw' U=>((T.p4.ext (show Ext (One rb) _ w' from U) (T.ne T.p4 zd)).cell Z)) ?_;refine gl g5 1 Z ?_;have h0:=h;refine jg Z (gx call109 Z (h.r.u8 h.len) λc8 ch ar=>⟨(by obtain⟨rfl,ae,t⟩:=ar;exact hC.then t),?_⟩);obtain⟨rfl,ae,t⟩:=ar;have a:=a.g9 t (h.ne a zd);have g:=g.g9 t (h.ne g zd);have j:=j.g9 t (h.ne j zd);have m:=rdNew m t h.nr;have hC:=hC.then t;have L:=ownRd L t h0.r zd;have n:=λx R=>And.intro (n x R).1 (objNew_rd (n x R).2 t h0.r);have h:=h.rd ae t (Y.2.qf 1).2.1;refine gl g5 1 Z ?_;rw[jt _ zo];have af:=m;have h0:=h;refine jg Z (gx call108 Z (sevset_calls ch h (num (Y.2.off 1).1) zo (off_okS _ 1)) λc9 ci au=>⟨(by obtain⟨M,F,G,rfl,hT,D⟩:=au;exact hC.then D),?_⟩);obtain⟨M,F,G,rfl,hT,D⟩:=au;have a:=a.g9 D (h.ne a zd);have g:=g.g9 D (h.ne g zd);have j:=j.g9 D (h.ne j zd);have m:=rdNew m D h.nr;have L:=ownRd L D h0.r zd;have n:=λx R=>And.intro (n x R).1 (objNew_rd (n x R).2 D h0.r);obtain⟨s2,a8⟩:∃s2,s2=Ds.each Ds.set (num (Y.2.off 1).1) (Y.2.off 1).2:=⟨_,Z⟩
 have h:=hT.i;have bp:=hT.eq;have cj:=hT.few;rw[<-a8] at h bp;have I:ym w ci (qv.mk q k E M F G):=⟨L,hT.own.older af.size,n,λx R=>(hT.all x R).older af.size,by show E.length<_;omega,by show G.length<_;omega⟩
 have ag:rawB l=((Y.1,s2.1),s2.2):=by rw[a8,bn,an];rfl
 refine gl g5 1 Z (jd ?_);have J:=j;refine wb Z (Aa g5 j Z Z Z λck j O cy=>?_);have a:=a.g9 O ad;have g:=g.g9 O S;have h:=h.g9 O J zd;have I:=I.extB O J;have m:=m.g8 O bj;have j:gu ck b7 25 ((qv.mk q k E M F G).c):=j;refine j1 (jh (gh (ki (gj Z (h.p4.cell Z) (g7 call111 Z (h.r.err) λda cm bq=>?_)))));obtain⟨rfl,rfl⟩:=bq;refine k9 Z (jc Z (λhc=>?_) (λhc=>?_));have br:s2.2.bad=true:=by have:=mt ds_err.2 hc;simpa using this
 have ah:vi l=(D6,7):=by rw[vi,ag];exact aM br
 refine ki (jv Z trivial (l':=um.c) Z ?_);refine wl (gz (l':=um.c) g5 a Z Z Z Z OneC.h λdb a bs cz=>?_);have m:=m.g8 bs ax;refine vl Z (j2 (ko [_,_] ⟨⟨b2,0,Z,kj g5 Z Z a.kc Z⟩,Z,trivial⟩ ?_));exact⟨um,by rw[ah];rfl,by rw[ah];rfl,ym.no _ _,m⟩
 have V:s2.2.bad=false:=ds_err.1 (aN.1 hc);have cn:Y.2.bad=false:=off_badS (each_good (f:=Ds.set) (by rw[<-a8];exact V));obtain⟨cp,bt⟩:=bm cn;have cq:=bp V;have cr:(qv.mk q k E M F G).d=batOf (rawB l).1:=by rw[ag];show Bu.mk (E.map Prod.fst) (G.map Prod.fst)=_;rw[cp,cq];rfl
 have ah:vi l=if(∀y∈Y.1,(vy y).2=0)/\Ad (qv.mk q k E M F G).d/\u7 (qv.mk q k E M F G).d=l then((qv.mk q k E M F G).d,0) else(D6,2):=by rw[vi,cr,ag];exact aJ (by rw[V];decide)
 refine vo (ki (j8 j Z Z (g7 call30 Z (D3 cm (b:=(qv.mk q k E M F G)) I.at) λdc dd bu=>?_)));obtain⟨q3,k3,rfl,bv,P⟩:=bu;have a:=a.g0 P;have g:=g.g0 P;have j:=j.g0 P;have I:=I.g0 P;have m:=m.g4 P;refine k9 Z (gh ?_);refine jb (α:=Bool) [2,7] Z (λz=>[(48,.bool z)]) (λz u=>(z=decide (¬((∀y∈Y.1,(vy y).2=0)/\Ad (qv.mk q k E M F G).d/\u7 (qv.mk q k E M F G).d=l))/\ym w u (qv.mk q k E M F G))/\gu u b2 25 (um.c)/\gu u b7 25 ((qv.mk q k E M F G).c)/\Ext No w u) ?_ ?_;refine gr ?_;refine gj Z (g.cell Z) (gv g5 Z (qy 38 Z (λhg=>?_) (λhg=>?_)));have a9:¬∀y∈Y.1,(vy y).2=0:=λk=>by rw[bt] at hg;simp at hg;obtain⟨y,hy,cs⟩:=hg;exact cs (k y hy)
 refine gm g5 10 Z (ga ?_);exact gk (true) Z ⟨⟨by symm;rw[aO];exact λk=>a9 k.1,I⟩,a,j,m⟩;have bw:∀y∈Y.1,(vy y).2=0:=by rw[bt] at hg;simpa using hg
 refine gm g5 4 Z (j7 42 Z (λhg=>?_) (λhg=>?_));have a9:¬Ad (qv.mk q k E M F G).d:=λk=>hg (aM k);refine gm g5 6 Z (ga ?_);exact gk (true) Z ⟨⟨by symm;rw[aO];exact λk=>a9 k.2.1,I⟩,a,j,m⟩;have av:Ad (qv.mk q k E M F G).d:=(yw1 zd).1 (aN.1 hg);have bx:Ak (qv.mk q k E M F G).d=u7 (qv.mk q k E M F G).d:=aM av;rw[bx] at bv;refine gm g5 1 Z (wl (zq5 g5 Z (by rw[bx]) bv.own.sl (gm g5 1 Z (wl (zq5 g5 Z Z (ba.g0 m) (gm g5 2 Z (ga ?_)))))));exact gk (_) Z ⟨⟨by rw[aH];exact⟨λk F=>k (by rw[F.2.2]),λk F=>k ⟨bw,av,xp F⟩⟩,I⟩,a,j,m⟩;rintro z de ⟨⟨rfl,I⟩,a,j,m⟩;refine jc Z (λhc=>?_) (λhc=>?_);have Q:vi l=(D6,2):=by rw[ah];exact aJ hc
 refine ki (jv Z trivial (l':=um.c) Z ?_);refine wl (gz (l':=um.c) g5 a Z Z Z Z OneC.h λdf a bz c0=>?_);have m:=m.g8 bz ax;refine vl Z (j2 (ko [_,_] ⟨⟨b2,0,Z,kj g5 Z Z a.kc Z⟩,Z,trivial⟩ ?_));exact⟨um,by rw[Q];rfl,by rw[Q];rfl,ym.no _ _,m⟩
 have Q:vi l=((qv.mk q k E M F G).d,0):=by rw[ah];exact aM (aN.1 hc)
 refine vo (ki (j8 j Z Z ?_));have b0:=a;refine wl (gz (l':=(qv.mk q k E M F G).c) g5 a Z Z Z Z OneC.h λdg a aw c1=>?_);have I:=I.extB aw b0;have m:=m.g8 aw ax;refine vl Z (ko [_,_] ⟨⟨b2,0,Z,kj g5 Z Z a.kc Z⟩,Z,trivial⟩ ?_);exact⟨(qv.mk q k E M F G),by rw[Q];rfl,by rw[Q],I,m⟩
theorem cloneL_nil (w:World) {c:Nat}:
  ge prog 131 [.slice none 0 c] w λv w'=>∃q k,v= .slice q 0 k/\Own w' q 0 k 148 33 []/\(∀y,j5 q y->w.heap.size<=y)/\Ext No w w':=by
 exact gt func131 (have a:=Ext.refl No w;uz Z (jn Z (Cy Z (jn Z (j6 (j2 (gp Z Z ⟨none,0,Z,Own.nil _ _ _,λy b=>(by cases b),a⟩)))))))
theorem cloneL_some (w:World) {a:Addr} {c:Nat} {l:List ji} (h:Sl w (some a) l.length 33 (l.flatMap ji.cells)) (hl:l.length<1000000000):
  ge prog 131 [.slice (some a) l.length c] w λv w'=>∃q k,v= .slice q l.length k/\Own w' q l.length k 148 33 (l.flatMap ji.cells)/\(∀y,j5 q y->w.heap.size<=y)/\Ext No w w':=by
 refine gt func131 ?_;have b:=Ext.refl No w;refine uz Z (jn Z (qz Z (vo (ki (wl (kz g5 Z 33 Z leafZ_c (ji.len Z) zd zd trivial (l':=[]) Z λA B r f d s=>?_))))));have b:=b.g4 d;refine gv g5 Z (wl (ul g5 Z 33 48 Z Z Z zd (Own.blk (n:=0) (c:=0) f 33 Z (aA _) zd) (Src.slice (h.g0 b) OneC.h) zm zn λp t u g i j=>?_));have b:=b.trans i λy C m=>by have:=own1 m;omega
 have o:∀x,j5 p x->w.heap.size<=x:=λx z=>(j x z).elim (λm=>by have:=own1 m;omega) λh=>by have:=d.size;omega
 have e:Own u p (0+l.length) t 148 33 (l.flatMap ji.cells):=g;rw[aX] at e;rw[aX];exact vl Z (gp Z Z ⟨_,_,Z,e,o,b⟩)
theorem cloneL_calls (w:World) {p:Option Addr} {c:Nat} {l:List ji} (h:Sl w p l.length 33 (l.flatMap ji.cells)) (hl:l.length<1000000000):
  ge prog 131 [.slice p l.length c] w λv w'=>∃q k,v= .slice q l.length k/\Own w' q l.length k 148 33 (l.flatMap ji.cells)/\(∀y,j5 q y->w.heap.size<=y)/\Ext No w w':=by
 cases p with
 |none=>
  have d:l=[]:=by rcases h.2 with e|⟨b,f,g,_⟩;exact aT e;cases g
  subst d;exact cloneL_nil w
 |some a=>exact cloneL_some w h hl
theorem cloneI_nil (w:World) {c:Nat}:
  ge prog 132 [.slice none 0 c] w λv w'=>∃q k,v= .slice q 0 k/\Own w' q 0 k 30 32 []/\(∀y,j5 q y->w.heap.size<=y)/\Ext No w w':=by
 exact gt func132 (have a:=Ext.refl No w;uz Z (jn Z (Cy Z (jn Z (j6 (j2 (gp Z Z ⟨none,0,Z,Own.nil _ _ _,λy b=>(by cases b),a⟩)))))))
theorem cloneI_some (w:World) {a:Addr} {c:Nat} {l:List IdB} (h:Sl w (some a) l.length 32 (l.flatMap g6)) (hl:l.length<1000000000):
  ge prog 132 [.slice (some a) l.length c] w λv w'=>∃q k,v= .slice q l.length k/\Own w' q l.length k 30 32 (l.flatMap g6)/\(∀y,j5 q y->w.heap.size<=y)/\Ext No w w':=by
 refine gt func132 ?_;have b:=Ext.refl No w;refine uz Z (jn Z (qz Z (vo (ki (wl (kz g5 Z 32 Z A0.symm zi zd zd trivial (l':=[]) Z λA B r f d s=>?_))))));have b:=b.g4 d;refine gv g5 Z (wl (ul g5 Z 32 32 Z Z Z zd (Own.blk (n:=0) (c:=0) f 32 Z (aA _) zd) (Src.slice (h.g0 b) OneC.h) zm zn λp t u g i j=>?_));have b:=b.trans i λy C m=>by have:=own1 m;omega
 have o:∀x,j5 p x->w.heap.size<=x:=λx z=>(j x z).elim (λm=>by have:=own1 m;omega) λh=>by have:=d.size;omega
 have e:Own u p (0+l.length) t 30 32 (l.flatMap g6):=g;rw[aX] at e;rw[aX];exact vl Z (gp Z Z ⟨_,_,Z,e,o,b⟩)
theorem cloneI_calls (w:World) {p:Option Addr} {c:Nat} {l:List IdB} (h:Sl w p l.length 32 (l.flatMap g6)) (hl:l.length<1000000000):
  ge prog 132 [.slice p l.length c] w λv w'=>∃q k,v= .slice q l.length k/\Own w' q l.length k 30 32 (l.flatMap g6)/\(∀y,j5 q y->w.heap.size<=y)/\Ext No w w':=by
 cases p with
 |none=>
  have d:l=[]:=by rcases h.2 with e|⟨b,f,g,_⟩;exact aT e;cases g
  subst d;exact cloneI_nil w
 |some a=>exact cloneI_some w h hl
theorem cloneC_nil (w:World) {c:Nat}:
  ge prog 133 [.slice none 0 c] w λv w'=>∃q k,v= .slice q 0 k/\Own w' q 0 k 150 3 []/\(∀y,j5 q y->w.heap.size<=y)/\Ext No w w':=by
 exact gt func133 (have a:=Ext.refl No w;uz Z (jn Z (Cy Z (jn Z (j6 (j2 (gp Z Z ⟨none,0,Z,Own.nil _ _ _,λy b=>(by cases b),a⟩)))))))
theorem cloneC_some (w:World) {a:Addr} {c:Nat} {l:List uw} (h:Sl w (some a) l.length 3 (l.flatMap uw.cells)) (hl:l.length<1000000000):
  ge prog 133 [.slice (some a) l.length c] w λv w'=>∃q k,v= .slice q l.length k/\Own w' q l.length k 150 3 (l.flatMap uw.cells)/\(∀y,j5 q y->w.heap.size<=y)/\Ext No w w':=by
 refine gt func133 ?_;have b:=Ext.refl No w;refine uz Z (jn Z (qz Z (vo (ki (wl (kz g5 Z 3 Z chgZ_c Z zd zd trivial (l':=[]) Z λA B r f d s=>?_))))));have b:=b.g4 d;refine gv g5 Z (wl (ul g5 Z 3 40 Z Z Z zd (Own.blk (n:=0) (c:=0) f 3 Z (aA _) zd) (Src.slice (h.g0 b) OneC.h) zm zn λp t u g i j=>?_));have b:=b.trans i λy C m=>by have:=own1 m;omega
 have o:∀x,j5 p x->w.heap.size<=x:=λx z=>(j x z).elim (λm=>by have:=own1 m;omega) λh=>by have:=d.size;omega
 have e:Own u p (0+l.length) t 150 3 (l.flatMap uw.cells):=g;rw[aX] at e;rw[aX];exact vl Z (gp Z Z ⟨_,_,Z,e,o,b⟩)
theorem cloneC_calls (w:World) {p:Option Addr} {c:Nat} {l:List uw} (h:Sl w p l.length 3 (l.flatMap uw.cells)) (hl:l.length<1000000000):
  ge prog 133 [.slice p l.length c] w λv w'=>∃q k,v= .slice q l.length k/\Own w' q l.length k 150 3 (l.flatMap uw.cells)/\(∀y,j5 q y->w.heap.size<=y)/\Ext No w w':=by
 cases p with
 |none=>
  have d:l=[]:=by rcases h.2 with e|⟨b,f,g,_⟩;exact aT e;cases g
  subst d;exact cloneC_nil w
 |some a=>exact cloneC_some w h hl
theorem sown_calls (w:World) {x:jr} {a:vh} (hx:vn x) (hxl:Bv w x a) (hs:A6 x):
  ge prog 52 [.agg (js x a).toArray] w λv w'=>∃a',v= .agg (js x a').toArray/\qs w w' x a'/\Ext No w w':=by
 refine gt func52 (have e:=Ext.refl No w;ki (gn Z λF X S b T=> have B:=Nat.le_trans e.size S;have e:=e.g4 T;have b:gu X F 37 (js x a):=b;gn Z λY w2 H c J=> have f:=gw b.lt H;have U:=Nat.le_trans e.size H;have b:=b.g0 J;have e:=e.g4 J;qi (gh (jl Z 11 [qP 0,qP 1,qP 3,qP 4,qP 6,qP 7,qP 8,(2,false),qP 10,(5,false),(9,false)] [11,12,13,14,15,16] (No) zk λV u I=> have C:=b;have b:=b.g0 u;have c:=c.g0 u;have e:=e.g4 u;have D:Ext (No) _ V:=u.no;gl g5 1 Z (gy g5 Z Z (λw' n=>((C.g0 n).kc.obj hx).leaves) (gl g5 1 Z (gy g5 Z Z (λw' n=>((C.g0 n).kc.obj hx).parents) (gl g5 2 Z (gy g5 Z Z (λw' n=>((C.g0 n).kc.obj hx).rows) (have o:=e.size;jg Z (gx call131 Z (cloneL_calls V (hxl.leaves.g0 e) hs.leaves) λv4 w4 K=>⟨(by obtain⟨z,A,rfl,j,L,l⟩:=K;exact D.g4 l),?_⟩)))))))))));obtain⟨z,A,rfl,j,L,l⟩:=K;have b:=b.g0 l;have c:=c.g0 l;have e:=e.g4 l;have D:=D.g4 l;have nL:∀y,j5 z y->w.heap.size<=y:=λy M=>Nat.le_trans o (L y M);refine gl g5 1 Z (have o:=e.size;jg Z (gx call132 Z (cloneI_calls w4 (hxl.parents.g0 e) hs.parents) λv5 w5 N=>⟨(by obtain⟨qP,E,rfl,m,O,g⟩:=N;exact D.g4 g),?_⟩));obtain⟨qP,E,rfl,m,O,g⟩:=N;have b:=b.g0 g;have c:=c.g0 g;have j:=j.ext g λ_ _=>id;have e:=e.g4 g;have D:=D.g4 g;have nP:∀y,j5 qP y->w.heap.size<=y:=λy M=>Nat.le_trans o (O y M);have o:=e.size;refine jg Z (gx call133 Z (cloneC_calls w5 (hxl.rows.g0 e) hs.rows) λv6 w6 P=>⟨(by obtain⟨G,Q,rfl,t,R,i⟩:=P;exact D.g4 i),?_⟩);obtain⟨G,Q,rfl,t,R,i⟩:=P;have b:=b.g0 i;have c:=c.g0 i;have j:=j.ext i λ_ _=>id;have m:=m.ext i λ_ _=>id;have e:=e.g4 i;have nR:∀y,j5 G y->w.heap.size<=y:=λy M=>Nat.le_trans o (R y M);refine jd (have d:=b;wb Z (Aa g5 b Z Z Z λw7 b p aa=> have c:=c.g9 p f.symm;have j:=j.ku p d zd;have m:=m.ku p d zd;have t:=t.ku p d zd;have e:=e.g8 p B;have b:gu w7 F 37 (js x ⟨z,A,a.pp,a.pc,a.rp,a.rc⟩):=b;wb Z (st_p g5 Z Z Z (have d:=b;wb Z (uh g5 b Z Z (by rw[gi hx];decide) λw8 b q ab=>?_)))));have c:=c.g9 q f.symm;have j:=j.ku q d zd;have m:=m.ku q d zd;have t:=t.ku q d zd;have e:=e.g8 q B;have b:gu w8 F 37 (js x ⟨z,A,qP,E,a.rp,a.rc⟩):=(by have h:gu _ F _ ((js x ⟨z,A,a.pp,a.pc,a.rp,a.rc⟩).set (68+0) (.slice qP x.parents.length E)):=b;rw[objC_parents hx] at h;exact h)
 refine wb Z (st_p g5 Z Z Z (wb Z (st_p g5 Z Z Z (have d:=b;wb Z (uh g5 b Z Z (by rw[gi hx];decide) λw9 b r ac=>?_)))));have c:=c.g9 r f.symm;have j:=j.ku r d zd;have m:=m.ku r d zd;have t:=t.ku r d zd;have e:=e.g8 r B;have b:gu w9 F 37 (js x ⟨z,A,qP,E,G,Q⟩):=(by have h:gu _ F _ ((js x ⟨z,A,qP,E,a.rp,a.rc⟩).set (68+1) (.slice G x.rows.length Q)):=b;rw[objC_rows hx] at h;exact h)
 exact j1 (jh (ki (j8 b Z (gi hx) (have s:=c;wl (gz (l':=js x ⟨z,A,qP,E,G,Q⟩) g5 c Z Z (gi hx) (gi hx) OneC.h λad c k W=> have j:=j.ku k s zd;have m:=m.ku k s zd;have t:=t.ku k s zd;have e:=e.g8 k U;qi (j6 (ko [_] ⟨⟨Y,0,Z,kj g5 Z Z c.kc (gi hx)⟩,trivial⟩ ⟨⟨z,A,qP,E,G,Q⟩,Z,⟨j,m,t,nL,nP,nR⟩,e⟩)))))))
end Go.Proofs.YtpdiphfjmepijaaGreatDoor
namespace Go.Vc
theorem zq3 (w:World) (o:Obj) {r:Nat} (h:r<w.heap.size):(w.alloc o).heap[r]? =w.heap[r]? :=by
 show(w.heap.push o)[r]? =w.heap[r]?;rw[Array.getElem?_push,aJ zo]
theorem nodup_len {α:Type}:∀{l m:List α},l.Nodup->(∀x∈l,x∈m)->l.length<=m.length
 | [],_,_,_=>aF _
 |x::l,m,hn,hs=>by
  obtain⟨a,b,rfl⟩:=List.append_of_mem (hs x zp)
  have:=nodup_len (l:=l) (m:=a++b) (List.nodup_cons.1 hn).2 λy c=>by
   have:=hs y (by simp[c])
   rcases aV.1 this with h|h
   ·exact List.mem_append_left _ h
   rcases dK.1 h with rfl|h
   ·exact absurd c (List.nodup_cons.1 hn).1
   exact List.mem_append_right _ h
  simp only[al,aR] at this|-
  omega
def xx9 {β : Type} (w : World) (it m : Nat) (enc : β -> Value) (g : List UInt8 -> Option β) (N : Nat) (done : List (List UInt8)) : Prop :=
  ∃ es clock since seen last, w.heap[it]? = some (.mapIter (some m) since seen last) /\ w.heap[m]? = some (.map es clock) /\
    (∀ e ∈ es.toList, ∃ x b, x.length = 32 /\ e.key = idV x /\ e.val = enc b /\ g x = some b) /\ (∀ x b, g x = some b -> ∃ e ∈ es.toList, e.key = idV x) /\ (es.toList.map (·.key)).Nodup /\
    (∀ e ∈ es.toList, e.born < since) /\ (es.toList.map (·.born)).Nodup /\ since <= last /\ since <= clock /\ done.Nodup /\ es.size = N /\ (∀ x ∈ done, ∃ b, g x = some b) /\ (∀ e ∈ es.toList, ∀ x, e.key = idV x -> (seen.contains e.born = true ↔ x ∈ done))
theorem xx9.lt {β:Type} {w:World} {it m N:Nat} {enc:β->Value} {g:List UInt8->Option β} {done:List (List UInt8)} (h:xx9 w it m enc g N done):it<w.heap.size/\m<w.heap.size:=by
 let⟨e,c,s,f,i,b,d,_⟩:=h;constructor;rcases aZ it w.heap.size with a|a;exact a;rw[cO a] at b;cases b;rcases aZ m w.heap.size with a|a;exact a;rw[cO a] at d;cases d
theorem xx9.ext {β:Type} {S:Nat->Prop} {w w':World} {it m N:Nat} {enc:β->Value} {g:List UInt8->Option β} {done:List (List UInt8)} (h:xx9 w it m enc g N done) (hE:Ext S w w') (h1:¬S it) (h2:¬S m):xx9 w' it m enc g N done:=by
 let⟨d,e⟩:=h.lt;let⟨f,c,s,i,j,a,b,r⟩:=h;exact⟨f,c,s,i,j,(hE.same it d h1).trans a,(hE.same m e h2).trans b,r⟩
theorem xx9.neB {β:Type} {w:World} {it m N:Nat} {enc:β->Value} {g:List UInt8->Option β} {done:List (List UInt8)} (h:xx9 w it m enc g N done) {b T:Nat} {L:List Value} (hb:gu w b T L):it≠b/\m≠b:=by
 let⟨f,c,s,i,j,a,d,_⟩:=h;exact⟨(λe=>by rw[e] at a;rw[gu,a] at hb;cases hb),(λe=>by rw[e] at d;rw[gu,d] at hb;cases hb)⟩
theorem ext_putAt {w:World} {r:Nat} {o:Obj} (h:w.heap[r]? =some o) (o':Obj):
  Ext (One r) w {w with heap:=w.heap.setIfInBounds r o'}/\({w with heap:=w.heap.setIfInBounds r o'}:World).heap.size=w.heap.size/\({w with heap:=w.heap.setIfInBounds r o'}:World).heap[r]? =some o':=by
 have a:r<w.heap.size:=by rcases aZ r w.heap.size with c|c;exact c;rw[cO c] at h;cases h
 exact⟨⟨Z,Z,Z,by simp,λb f d=> dl (λe=>d e.symm),aA _⟩,by simp,by simp[a]⟩
theorem run_next {P:Program} {w:World} {it m since last clock:Nat} {seen:Array Nat} {es:Array MapEntry} (hi:w.heap[it]? =some (.mapIter (some m) since seen last)) (hm:w.heap[m]? =some (.map es clock)) (hold:∀x∈es.toList,x.born<since) (hsc:since<=last) (ty:TypeId):
  ((leftOf es seen).size=0/\(Instr.next (.pointer (some ⟨it,0,none⟩)) false ty).run P w= .ok (.tuple #[.bool false]) w)\/
  ∃e∈(leftOf es seen).toList,∃w1:World,(w1=w\/w1=w.drew)/\(Instr.next (.pointer (some ⟨it,0,none⟩)) false ty).run P w= .ok (.tuple #[.bool true,e.key,e.val]) {w1 with heap:=w1.heap.setIfInBounds it (.mapIter (some m) since (seen.push e.born) clock)}:=by
 simp only[Instr.next,getObj,aI,Sem.run,hi,hm,Result.andThen,next_test_false seen es since last hold hsc,bK,cW];unfold leftOf;have d:∀x∈(Array.filter (λe=> !seen.contains e.born) es).toList,x.born<since:=λx g=>hold x (by simp at g|-;exact g.1);generalize Array.filter (λe=> !seen.contains e.born) es=L at d|-;have r:L.filter (λx=>decide (x.born<since))=L:=Array.filter_eq_self.2 (λx g=>by simpa using d x (by simpa using g));have s:L.filter (λx=>decide (x.born>=since))= #[]:=by rw[Array.filter_eq_empty_iff];intro x g;have:=d x (by simpa using g);simp;omega
 simp only[r,s,Array.append_empty];by_cases h0:L.size=0;left;have:L= #[]:=Array.eq_empty_of_size_eq_zero h0;subst this;refine⟨Z,?_⟩;simp[choose,Sem.run,Question.forced];right;have n:L.isEmpty=false:=by simp[Array.isEmpty,h0]
 simp only[n,bK,cW,Array.empty_append,Array.size_map]
 have o:∃(j:Nat) (w1:World),j<L.size/\(w1=w\/w1=w.drew)/\(choose (Question.mapNext L.size)).run P w= .ok j w1:=by
  by_cases hf:L.size<=1;exact⟨0,w,by omega,.inl Z,by simp[choose,Sem.run,Question.forced,hf]⟩
  exact⟨_,w.drew,Nat.mod_lt _ zo,.inr Z,by
   simp only[choose,Sem.run,Question.forced,aO,hf,cW,Question.cut]
   rfl⟩
 let⟨j,w1,t,h,i⟩:=o;refine⟨L[j],by simp,w1,h,?_⟩;have p:w1.heap[it]? =some (.mapIter (some m) since seen last):=by rcases h with rfl|rfl<;>exact hi
 have k:∀(q:Obj),(setObj it q).run P w1= .ok () {w1 with heap:=w1.heap.setIfInBounds it q}:=λq=>by simp[setObj,Sem.run,p]
 simp_all
def Cur (w : World) (it m : Nat) (kx vx : Value) : Prop :=
  ∃ es clock since seen e, w.heap[it]? = some (.mapIter (some m) since seen clock) /\ w.heap[m]? = some (.map es clock) /\ seen.back? = some e.born /\ es.toList.find? (λx => x.born == e.born) = some e /\ e.key = kx /\ e.val = vx
theorem run_entry {P:Program} {w:World} {it m:Nat} {kx vx:Value} (h:Cur w it m kx vx):(Instr.entry (.pointer (some ⟨it,0,none⟩))).run P w= .ok (.tuple #[kx,vx]) w:=by
 obtain⟨a,c,s,j,e,b,d,f,g,rfl,rfl⟩:=h;have i:a.find? (λx=>x.born==e.born)=some e:=by rw[<-Array.find?_toList];exact g
 simp only[Instr.entry,getObj,aI,Sem.run,b,d,Result.andThen,f,bne_self_eq_false,bK,cW,i];rfl
section
variable {P : Program} {I : u6} {f : Fs} {ops : Array Oper} {o : Oper} {env : Env} {w : World} {K : Env -> World -> Prop}
def rgE (I : u6) (n : Nat) (ops : Array Oper) (env : Env) (o : Oper) : Option (Nat × Nat) :=
  match pre n ops env o with
  | false => none
  | true => match o.dst with
    | some d => match o.op with
      | .range t x => match z7 I t with
        | some y => match y.desc with
          | .map _ _ => match xr env x with
            | some (.map (some r)) => some (r, d)
            | _ => none
          | _ => none
        | none => none
      | _ => none
    | none => none
theorem st_rg {β:Type} (hI:I.Ok P) {m d:Nat} (h:rgE I f.n ops env o=some (m,d)) {enc:β->Value} {g:List UInt8->Option β} (hm:MapB w m enc g)
  (k:∀(it N:Nat) w',w.heap.size<=it->xx9 w' it m enc g N []->Ext No w w'->K ((d,.pointer (some ⟨it,0,none⟩))::env) w'):St P f ops o env w K:=by
 unfold rgE at h;split at h;cases h;rename_i s;let⟨u,z⟩:=pre_eq s;split at h;rename_i O A;split at h;rename_i t x B;split at h;rename_i y C;split at h;rename_i Q e D;split at h;rename_i i j;simp only[bI,cP] at h;let⟨rfl,rfl⟩:=h;have p:=(hI.get C).under w;rw[D] at p;have l:=hm.lt;let⟨q,c,r,E,F,G,H,J⟩:=hm;have a:(Instr.range t (.map (some i))).run P w= .ok (.pointer (some ⟨w.heap.size,0,none⟩)) (w.alloc (.mapIter (some i) c #[] c)):=by unfold Instr.range;rw[jf p];simp only[aI,MapKept.run_getObj_map r,aD];rfl
 refine yv u z (v:= .pointer (some ⟨w.heap.size,0,none⟩)) (w':=w.alloc (.mapIter (some i) c #[] c)) (λR L=>?_) ?_;simp only[execOp,B,L _ _ j,aI,a,aD,aP];rw[A];refine k _ q.size _ (aA _) ⟨q,c,c, #[],c,heap_alloc_new w _,?_,E,F,G,H,J,aA _,aA _,List.nodup_nil,Z,(λx j=>by cases j),λe _ x _=>by simp⟩ ⟨Z,Z,Z,by simp,λb M _=>?_,aA _⟩;rw[zq3 w _ l];exact r;exact zq3 w _ M;cases h;cases h;cases h;cases h;cases h
def enE (n : Nat) (ops : Array Oper) (env : Env) (o : Oper) : Option (Nat × Nat) :=
  match pre n ops env o with
  | false => none
  | true => match o.dst with
    | some d => match o.op with
      | .entry x => match xr env x with
        | some (.pointer (some ⟨it, 0, none⟩)) => some (it, d)
        | _ => none
      | _ => none
    | none => none
theorem st_en {it m d:Nat} {kx vx:Value} (h:enE f.n ops env o=some (it,d)) (hc:Cur w it m kx vx) (k:K ((d,.tuple #[kx,vx])::env) w):St P f ops o env w K:=by
 unfold enE at h;split at h;cases h;rename_i a;let⟨b,c⟩:=pre_eq a;split at h;rename_i p e;split at h;rename_i q g;split at h;rename_i i j;simp only[bI,cP] at h;let⟨rfl,rfl⟩:=h;refine yv b c (v:= .tuple #[kx,vx]) (w':=w) (λr l=>?_) (by rw[e];exact k);simp only[execOp,g,l _ _ j,aI,run_entry hc,aD,aP];cases h;cases h;cases h
def nxE (n : Nat) (ops : Array Oper) (env : Env) (o : Oper) : Option (Nat × Nat) :=
  match pre n ops env o with
  | false => none
  | true => match o.dst with
    | some d => match o.op with
      | .next x false => match xr env x with
        | some (.pointer (some ⟨it, 0, none⟩)) => some (it, d)
        | _ => none
      | _ => none
    | none => none
theorem st_nx {β:Type} {it d:Nat} (h:nxE f.n ops env o=some (it,d)) {m N:Nat} {enc:β->Value} {g:List UInt8->Option β} {done:List (List UInt8)} (hit:xx9 w it m enc g N done)
  (k0:(∀x b,g x=some b->x∈done)->K ((d,.tuple #[.bool false])::env) w)
  (k1:∀(x:List UInt8) (b:β) w',g x=some b->x.length=32->x∉done->done.length<N->xx9 w' it m enc g N (done++[x])->Cur w' it m (idV x) (enc b)->Ext (One it) w w'->w'.heap.size=w.heap.size->K ((d,.tuple #[.bool true,idV x,enc b])::env) w'):St P f ops o env w K:=by
 unfold nxE at h;split at h;cases h;rename_i hp;let⟨h1,h2⟩:=pre_eq hp;split at h
 ·rename_i d' hd
  split at h
  ·rename_i xx ho
   split at h
   ·rename_i r hx
    simp only[bI,cP] at h;let⟨rfl,rfl⟩:=h;let⟨t,c,s,C,la,M,T,a1,U,a3,a4,O,a6,a7,b1,b2,b3,Q⟩:=hit;rcases run_next (P:=P) M T a4 a6 o.type with⟨c1,D⟩|⟨e,c1,B,D,c3⟩;refine yv h1 h2 (v:= .tuple #[.bool false]) (w':=w) (λρ V=>?_) ?_;simp only[execOp,ho,V _ _ hx,aI,D,aD,aP];rw[hd];refine k0 λx b R=>?_;let⟨e,he,A⟩:=U x b R;refine(Q e he x A).1 (cV λhc=>?_);have:e∈(leftOf t C).toList:=Array.mem_toList_iff.2 (Array.mem_filter.2 ⟨Array.mem_toList_iff.1 he,by simpa using hc⟩);rw[Array.eq_empty_of_size_eq_zero c1] at this;simp at this;let⟨l,W⟩:=mem_left c1;let⟨x,b,F,A,S,R⟩:=a1 e l;have u:x∉done:=λu=>by have:=(Q e l x A).2 u;rw[W] at this;cases this
    have X:B.heap[r]? =some (.mapIter (some m) s C la):=by rcases D with rfl|rfl<;>exact M
    have G:B.heap[m]? =some (.map t c):=by rcases D with rfl|rfl<;>exact T
    have Y:Ext No w B:=by rcases D with rfl|rfl;exact Ext.refl _ _;exact Ext.drew w
    let⟨p1,p2,p3⟩:=ext_putAt X (.mapIter (some m) s (C.push e.born) c);have H:r≠m:=λq=>by rw[q,T] at M;cases M
    refine yv h1 h2 (v:= .tuple #[.bool true,idV x,enc b]) (w':={B with heap:=B.heap.setIfInBounds r (.mapIter (some m) s (C.push e.born) c)}) (λρ V=>?_) ?_;rw[A,S] at c3;simp only[execOp,ho,V _ _ hx,aI,c3,aD,aP];rw[hd]
    have I:done.length<N:=by
     rw[<-b2]
     have z:(done++[x]).length<=(t.toList.map (·.key)).length:=by
      have aa:((done++[x]).map idV).Nodup:=by rw[List.nodup_iff_pairwise_ne];refine List.pairwise_map.2 ((List.nodup_append.2 ⟨b1,by simp,λa ha b hb=>?_⟩).imp λab e=>ab (idV_inj e));rw[aE.1 hb];exact λe=>u (e▸ha)
      have:=nodup_len aa (m:=t.toList.map (·.key)) λv S=>by obtain⟨y,k,rfl⟩:=bL.1 S;rcases aV.1 k with k|k;let⟨b',ac⟩:=b3 y k;let⟨E,p,ad⟩:=U y b' ac;exact bL.2 ⟨E,p,ad⟩;rw[aE.1 k];exact bL.2 ⟨e,l,A⟩
      grind
     grind
    refine k1 x b _ R F u I ⟨t,c,s,C.push e.born,c,p3,?_,a1,U,a3,a4,O,a7,a7,?_,b2,?_,?_⟩ ⟨t,c,s,C.push e.born,e,p3,(by
     show(B.heap.setIfInBounds r _)[m]? =_
     rw[dl H]
     exact G),by simp,find_born e t.toList O l,A,S⟩ ((Y.mono λ_ _ q=>q.elim).trans p1 λ_ _ q=>q) (p2.trans (by rcases D with rfl|rfl<;>rfl))
    show(B.heap.setIfInBounds r _)[m]? =_;rw[dl H];exact G;exact List.nodup_append.2 ⟨b1,by simp,λa ha b hb=>by rw[aE.1 hb];exact λe=>u (e▸ha)⟩;intro y k;rcases aV.1 k with k|k;exact b3 y k;rw[aE.1 k];exact⟨b,R⟩
    intro E p y k;rw[contains_push];simp only[Bool.or_eq_true,beq_iff_eq,aV,aE];constructor;rintro(q|q);exact .inl ((Q E p y k).1 q);have ae:=find_born e t.toList O l;have J:=find_born E t.toList O p;rw[q,ae] at J;have:=bW J;rw[<-this] at k;exact .inr (idV_inj (k.symm.trans A));rintro(q|q);exact .inl ((Q E p y k).2 q);refine .inr ?_;subst q
    have af:E=e:=by
     have i1:=bF.1 p;have i2:=bF.1 l;obtain⟨i,ag,rfl⟩:=i1;obtain⟨j,ah,L⟩:=i2
     have:i=j:=by
      have q2:(t.toList.map (·.key))[i]'(by simpa using ag)=(t.toList.map (·.key))[j]'(by simpa using ah):=by simp only[bD];rw[k,L,A]
      exact(List.getElem_inj a3).1 q2
     grind
    grind
   grind
  grind
 grind
theorem wd_lu {K:Act->World->Prop} {kv:List UInt8->Value} {okx:List UInt8->Prop} {β:Type} {r:Dr} {i:Nat} {pl:List (Nat×Bool)} {dn:List Nat} (hI:I.Ok P) (ho:ops[i]? =some o) {k rm d:Nat} {z v:Value} {ok:Bool} (h:luE I f.n ops env o=some (k,z,rm,v,ok,d)) (hK:KeyG P k kv okx) {x:List UInt8} (hx:okx x) (hv:v=kv x) {enc:β->Value} {g:List UInt8->Option β} (hm0:As kv okx w rm enc g) (hm:∀w',r.C w'->As kv okx w' rm enc g)
  (kk:WD P f ops K r pl (i::dn) ((d,if ok then .tuple #[tell enc z (g x),.bool (g x).isSome] else tell enc z (g x))::env) w):WD P f ops K r ((i,true)::pl) dn env w:=by
 let⟨b,c,_⟩:=ov_lu (f:=f) (w:=w) hI h hK hx hv hm0;exact wd_q ho b c (λw' a=>(ov_lu (f:=f) (w:=w') hI h hK hx hv (hm w' a)).2.2) kk
end
def MapO {β : Type} (w : World) (m : Option Nat) (enc : β -> Value) (g : List UInt8 -> Option β) : Prop := (m = none /\ ∀ x, g x = none) \/ ∃ r, m = some r /\ MapB w r enc g
theorem MapO.g0 {β:Type} {w w':World} {m:Option Nat} {enc:β->Value} {g:List UInt8->Option β} (h:MapO w m enc g) (hE:Ext No w w'):MapO w' m enc g:=h.imp id λ⟨r,e,hm⟩=>⟨r,e,hm.g0 hE⟩
theorem MapO.g9 {β:Type} {w w':World} {m:Option Nat} {enc:β->Value} {g:List UInt8->Option β} (h:MapO w m enc g) {b T:Nat} {L:List Value} (hE:Ext (One b) w w') (hb:gu w b T L):MapO w' m enc g:=h.imp id λ⟨r,e,hm⟩=>⟨r,e,hm.g9 hE hb⟩
theorem MapO.len {β:Type} {w:World} {m:Option Nat} {enc:β->Value} {g:List UInt8->Option β} (h:MapO w m enc g):∃n:Nat,∀w',Ext No w w'->(m=none/\n=0)\/∃r es c,m=some r/\w'.heap[r]? =some (.map es c)/\n=es.size:=by
 rcases h with⟨rfl,_⟩|⟨r,rfl,b⟩;exact⟨0,λ_ _=> .inl ⟨Z,Z⟩⟩
 have a:=b.lt;let⟨es,c,d,_⟩:=b;exact⟨es.size,λw' e=> .inr ⟨r,es,c,Z,(e.same r a id).trans d,Z⟩⟩
def zj8 {β : Type} (w : World) (it : Nat) (m : Option Nat) (enc : β -> Value) (g : List UInt8 -> Option β) (N : Nat) (done : List (List UInt8)) : Prop :=
  (m = none /\ (∃ since seen last, w.heap[it]? = some (.mapIter none since seen last)) /\ ∀ x, g x = none) \/ ∃ r, m = some r /\ xx9 w it r enc g N done
theorem zj8.ext {β:Type} {S:Nat->Prop} {w w':World} {it N:Nat} {m:Option Nat} {enc:β->Value} {g:List UInt8->Option β} {done:List (List UInt8)} (h:zj8 w it m enc g N done) (hE:Ext S w w') (h1:¬S it) (h2:∀r,m=some r->¬S r):zj8 w' it m enc g N done:=by
 rcases h with⟨rfl,⟨a,b,c,d⟩,i⟩|⟨r,rfl,j⟩;have e:it<w.heap.size:=by rcases aZ it w.heap.size with f|f;exact f;rw[cO f] at d;cases d
 exact .inl ⟨Z,⟨a,b,c,(hE.same it e h1).trans d⟩,i⟩;exact .inr ⟨r,Z,j.ext hE h1 (h2 r Z)⟩
theorem zj8.g0 {β:Type} {w w':World} {it N:Nat} {m:Option Nat} {enc:β->Value} {g:List UInt8->Option β} {done:List (List UInt8)} (h:zj8 w it m enc g N done) (hE:Ext No w w'):zj8 w' it m enc g N done:=h.ext hE id λ_ _=>id
theorem zj8.neB {β:Type} {w:World} {it N:Nat} {m:Option Nat} {enc:β->Value} {g:List UInt8->Option β} {done:List (List UInt8)} (h:zj8 w it m enc g N done) {b T:Nat} {L:List Value} (hb:gu w b T L):it≠b/\∀r,m=some r->r≠b:=by
 rcases h with⟨rfl,⟨a,c,d,i⟩,_⟩|⟨r,rfl,f⟩;refine⟨λe=>?_,λr h=>by cases h⟩;subst e;rw[gu,i] at hb;cases hb;exact⟨(f.neB hb).1,λj e=>by cases e;exact(f.neB hb).2⟩
theorem zj8.g9 {β:Type} {w w':World} {it N:Nat} {m:Option Nat} {enc:β->Value} {g:List UInt8->Option β} {done:List (List UInt8)} (h:zj8 w it m enc g N done) {b T:Nat} {L:List Value} (hE:Ext (One b) w w') (hb:gu w b T L):zj8 w' it m enc g N done:=
 h.ext hE (h.neB hb).1 (h.neB hb).2
section
variable {P : Program} {I : u6} {f : Fs} {ops : Array Oper} {o : Oper} {env : Env} {w : World}
def lnoE (I : u6) (n : Nat) (ops : Array Oper) (env : Env) (o : Oper) : Option (Option Nat × Nat) :=
  match pre n ops env o with
  | false => none
  | true => match o.dst with
    | some d => match o.op with
      | .call { callee := .builtin .len, args := xs, argTypes := ts } => match xs.toList with
        | [x] => match ts.toList with
          | [t] => match z7 I t with
            | some y => match y.desc with
              | .map _ _ => match xr env x with
                | some (.map m) => some (m, d)
                | _ => none
              | _ => none
            | none => none
          | _ => none
        | _ => none
      | _ => none
    | none => none
theorem wd_lnO {K:Act->World->Prop} {r:Dr} {i:Nat} {pl:List (Nat×Bool)} {dn:List Nat} (hI:I.Ok P) (ho:ops[i]? =some o) {m:Option Nat} {d:Nat} (h:lnoE I f.n ops env o=some (m,d)) {n:Nat}
  (hm:∀w',r.C w'->(m=none/\n=0)\/∃r es c,m=some r/\w'.heap[r]? =some (.map es c)/\n=es.size)
  (kk:WD P f ops K r pl (i::dn) ((d,.int .i64 (n:Int))::env) w):WD P f ops K r ((i,true)::pl) dn env w:=by
 unfold lnoE at h;split at h;cases h;rename_i l;split at h;rename_i G p;split at h;rename_i q s a;split at h;rename_i x b;split at h;rename_i t g;split at h;rename_i y u;split at h;rename_i H e v;split at h;rename_i J z;cases h;refine wd_q ho l p (λw' j L A=>?_) kk;have k:=(hI.get u).under w';rw[v] at k;have B:q= #[x]:=by rw[<-b]
 have D:s= #[t]:=by rw[<-g]
 subst B D;have E:(Builtin.len_ #[t] o.type #[.map m]).run P w'= .ok (.int .i64 (n:Int)) w':=by unfold Builtin.len_;simp only[bS,cG];rw[jf k];rcases hm w' j with⟨rfl,rfl⟩|⟨r,es,c,rfl,F,rfl⟩;rfl;simp only[aI,MapKept.run_getObj_map F,aD];rfl
 unfold execOp;simp only[a,resolve,invoke,builtin,aI,aP,aD,List.map_toArray,dD,List.map_nil,A _ _ z,E];cases h;cases h;cases h;cases h;cases h;cases h;cases h
def rgoE (I : u6) (n : Nat) (ops : Array Oper) (env : Env) (o : Oper) : Option (Option Nat × Nat) :=
  match pre n ops env o with
  | false => none
  | true => match o.dst with
    | some d => match o.op with
      | .range t x => match z7 I t with
        | some y => match y.desc with
          | .map _ _ => match xr env x with
            | some (.map m) => some (m, d)
            | _ => none
          | _ => none
        | none => none
      | _ => none
    | none => none
theorem st_rgO {K:Env->World->Prop} {β:Type} (hI:I.Ok P) {m:Option Nat} {d:Nat} (h:rgoE I f.n ops env o=some (m,d)) {enc:β->Value} {g:List UInt8->Option β} (hm:MapO w m enc g)
  (k:∀(it N:Nat) w',w.heap.size<=it->zj8 w' it m enc g N []->Ext No w w'->K ((d,.pointer (some ⟨it,0,none⟩))::env) w'):St P f ops o env w K:=by
 rcases hm with⟨rfl,l⟩|⟨r,rfl,hm⟩;unfold rgoE at h;split at h;cases h;rename_i p;let⟨c,i⟩:=pre_eq p;split at h;rename_i E q;split at h;rename_i t x s;split at h;rename_i y u;split at h;rename_i F e z;split at h;rename_i G A;simp only[bI,cP] at h;obtain⟨rfl,rfl⟩:=h;have j:=(hI.get u).under w;rw[z] at j;have a:(Instr.range t (.map none)).run P w= .ok (.pointer (some ⟨w.heap.size,0,none⟩)) (w.alloc (.mapIter none 0 #[] 0)):=by unfold Instr.range;rw[jf j];rfl
 refine yv c i (v:= .pointer (some ⟨w.heap.size,0,none⟩)) (w':=w.alloc (.mapIter none 0 #[] 0)) (λH B=>?_) ?_;simp only[execOp,s,B _ _ A,aI,a,aD,aP];rw[q];refine k _ 0 _ (aA _) (.inl ⟨Z,⟨_,_,_,heap_alloc_new w _⟩,l⟩) ⟨Z,Z,Z,by simp,λb C _=>zq3 w _ C,aA _⟩;cases h;cases h;cases h;cases h;cases h;refine st_rg hI (m:=r) (d:=d) ?_ hm λit N w' c i D=>k it N w' c (.inr ⟨r,Z,i⟩) D;unfold rgoE at h;unfold rgE;repeat' split at h
 all_goals first|cases h|skip
 grind
theorem st_nxO {K:Env->World->Prop} {β:Type} {it d:Nat} (h:nxE f.n ops env o=some (it,d)) {m:Option Nat} {N:Nat} {enc:β->Value} {g:List UInt8->Option β} {done:List (List UInt8)} (hit:zj8 w it m enc g N done)
  (k0:(∀x b,g x=some b->x∈done)->K ((d,.tuple #[.bool false])::env) w)
  (k1:∀(x:List UInt8) (b:β) w',g x=some b->x.length=32->x∉done->done.length<N->zj8 w' it m enc g N (done++[x])->(∃r,m=some r/\Cur w' it r (idV x) (enc b))->Ext (One it) w w'->w'.heap.size=w.heap.size->K ((d,.tuple #[.bool true,idV x,enc b])::env) w'):St P f ops o env w K:=by
 rcases hit with⟨rfl,⟨a,b,c,u⟩,y⟩|⟨r,rfl,z⟩;unfold nxE at h;split at h;cases h;rename_i A;let⟨p,q⟩:=pre_eq A;split at h;rename_i O B;split at h;rename_i x t C;split at h;rename_i s D;simp only[bI,cP] at h;let⟨rfl,rfl⟩:=h;have k:(Instr.next (.pointer (some ⟨s,0,none⟩)) false o.type).run P w= .ok (.tuple #[.bool false]) w:=by simp only[Instr.next,getObj,aI,Sem.run,u,Result.andThen];rfl
 refine yv p q (v:= .tuple #[.bool false]) (w':=w) (λQ E=>?_) (by rw[B];exact k0 λx b e=>by rw[y] at e;cases e);simp only[execOp,C,E _ _ D,aI,k,aD,aP];cases h;cases h;cases h;exact st_nx h z k0 λx b w' p q F G H J L M=>k1 x b w' p q F G (.inr ⟨r,Z,H⟩) ⟨r,Z,J⟩ L M
end
end Go.Vc
namespace Go.Proofs.YtpdiphfjmepijaaGreatDoor
open Go.Proofs.Tryz
open Go.Vc
abbrev x5 := yp × (Option Addr × Nat)
def ui (x : x5) : List Value := [z9 x.1.1, .slice x.2.1 x.1.2.length x.2.2]
theorem xz (x : x5) : (ui x).length = 2 := rfl
instance (x : x5) : OneC (ui x) := by unfold ui; infer_instance
structure ua where
  rp : Option Addr
  rc : Nat
  hs : List jk
  m : Option Nat
  vp : Option Addr
  vc : Nat
  vs : List x5
def ua.c (h : ua) : List Value := [.slice h.rp h.hs.length h.rc, .map h.m, .slice h.vp h.vs.length h.vc]
instance (h : ua) : OneC h.c := by unfold ua.c; infer_instance
def ua.s (h : ua) : C3 := ⟨h.hs.map jk.o, h.vs.map Prod.fst⟩
abbrev natV (i : Nat) : Value := .int .i64 (i : Int)
def placeOf (l : List IdB) (x : IdB) : Option Nat := if x ∈ l then some (l.idxOf x) else none
theorem placeOf_step {l:List IdB} {x:IdB} (h:x∉l):setM (placeOf l) x l.length=placeOf (l++[x]):=by
 funext y;unfold setM placeOf;by_cases e:y=x;subst e;rw[aM Z,aM zp,List.idxOf_append,aJ h];simp;rw[aJ e];by_cases hy:y∈l;rw[aM hy,aM (by simp[hy]),List.idxOf_append,aM hy];rw[aJ hy,aJ (by simp[hy,e])]
def InH (p : Option Addr) (H : Nat -> Prop) : Prop := ∀ b off, p = some ⟨b, off, none⟩ -> H b
theorem InH.mono {p : Option Addr} {H G : Nat -> Prop} (h : InH p H) (k : ∀ y, H y -> G y) : InH p G := λb off e => k b (h b off e)
theorem Sl.inH {S H:Nat->Prop} {w w':World} {p:Option Addr} {n sz:Nat} {xs:List Value} (h:Sl w p n sz xs) (hE:Ext S w w') (hH:InH p H) (hS:∀y,H y->¬S y):Sl w' p n sz xs:=h.ext hE λb off e=>hS b (hH b off e)
def ObjB (a : vh) (y : Nat) : Prop := j5 a.lp y \/ j5 a.pp y \/ j5 a.rp y
structure Av (u : World) (H : Nat -> Prop) (x : jk) : Prop where
  id : x.id = xj x.o
  ok : Df x.o
  ol : Own u x.a.lp x.o.leaves.length x.a.lc 148 33 (x.o.leaves.flatMap ji.cells)
  op : Own u x.a.pp x.o.parents.length x.a.pc 30 32 (x.o.parents.flatMap g6)
  or : Own u x.a.rp x.o.rows.length x.a.rc 150 3 (x.o.rows.flatMap uw.cells)
  f : ∀ y, ObjB x.a y -> H y
theorem Av.l {H : Nat -> Prop} {u : World} {x : jk} (h : Av u H x) : Bv u x.o x.a := ⟨h.ol.sl, h.op.sl, h.or.sl⟩
theorem Av.ext {S H:Nat->Prop} {u u':World} {x:jk} (h:Av u H x) (hE:Ext S u u') (hS:∀y,H y->¬S y):Av u' H x:=
 ⟨h.id,h.ok,h.ol.ext hE λy a=>hS y (h.f y (.inl a)),h.op.ext hE λy a=>hS y (h.f y (.inr (.inl a))),h.or.ext hE λy a=>hS y (h.f y (.inr (.inr a))),h.f⟩
theorem Av.xq {W:World} {H:Nat->Prop} {u u':World} {T:Nat} {x:jk} (h:Av u H x) (hE:Ext (Bt W u T T) u u') (h1:148≠T) (h2:30≠T) (h3:150≠T):Av u' H x:=
 ⟨h.id,h.ok,h.ol.xq hE h1 h1,h.op.xq hE h2 h2,h.or.xq hE h3 h3,h.f⟩
theorem Av.g9 {H:Nat->Prop} {u u':World} {x:jk} (h:Av u H x) {b T:Nat} {L:List Value} (hE:Ext (One b) u u') (hb:gu u b T L) (h1:148≠T) (h2:30≠T) (h3:150≠T):Av u' H x:=
 ⟨h.id,h.ok,h.ol.ku hE hb h1,h.op.ku hE hb h2,h.or.ku hE hb h3,h.f⟩
theorem Av.yc {kv:List UInt8->Value} {okx:List UInt8->Prop} {β:Type} {H:Nat->Prop} {u u':World} {x:jk} (h:Av u H x) {r:Nat} {enc:β->Value} {g:List UInt8->Option β} (hm:As kv okx u r enc g) (hE:Ext (One r) u u'):Av u' H x:=
 ⟨h.id,h.ok,h.ol.yc hm hE,h.op.yc hm hE,h.or.yc hm hE,h.f⟩
theorem Av.mono {H G:Nat->Prop} {u:World} {x:jk} (h:Av u H x) (k:∀y,H y->G y):Av u G x:=⟨h.id,h.ok,h.ol,h.op,h.or,λy hy=>k y (h.f y hy)⟩
theorem Av.len {H : Nat -> Prop} {u : World} {x : jk} (h : Av u H x) : (ut x).length = 105 := yx (by rw [h.id]; exact qm _) h.ok.1
structure yq8 (u : World) (H : Nat -> Prop) (x : x5) : Prop where
  o : Own u x.2.1 x.1.2.length x.2.2 5 1 (g6 x.1.2)
  f : ∀ y, j5 x.2.1 y -> H y
  ln : x.1.1.length < 1000000000
  lo : x.1.2.length < 1000000000
theorem yq8.s {H : Nat -> Prop} {u : World} {x : x5} (h : yq8 u H x) : ux u x.2.1 x.1.2 := h.o.sl
theorem yq8.ext {S H:Nat->Prop} {u u':World} {x:x5} (h:yq8 u H x) (hE:Ext S u u') (hS:∀y,H y->¬S y):yq8 u' H x:=⟨h.o.ext hE λy hy=>hS y (h.f y hy),h.f,h.ln,h.lo⟩
theorem yq8.xq {W:World} {H:Nat->Prop} {u u':World} {T:Nat} {x:x5} (h:yq8 u H x) (hE:Ext (Bt W u T T) u u') (h1:5≠T):yq8 u' H x:=⟨h.o.xq hE h1 h1,h.f,h.ln,h.lo⟩
theorem yq8.g9 {H:Nat->Prop} {u u':World} {x:x5} (h:yq8 u H x) {b T:Nat} {L:List Value} (hE:Ext (One b) u u') (hb:gu u b T L) (h1:5≠T):yq8 u' H x:=⟨h.o.ku hE hb h1,h.f,h.ln,h.lo⟩
theorem yq8.yc {kv:List UInt8->Value} {okx:List UInt8->Prop} {β:Type} {H:Nat->Prop} {u u':World} {x:x5} (h:yq8 u H x) {r:Nat} {enc:β->Value} {g:List UInt8->Option β} (hm:As kv okx u r enc g) (hE:Ext (One r) u u'):yq8 u' H x:=⟨h.o.yc hm hE,h.f,h.ln,h.lo⟩
theorem yq8.mono {H G:Nat->Prop} {u:World} {x:x5} (h:yq8 u H x) (k:∀y,H y->G y):yq8 u G x:=⟨h.o,λy hy=>k y (h.f y hy),h.ln,h.lo⟩
structure y0 (u : World) (H : Nat -> Prop) (h : ua) : Prop where
  row : Sl u h.rp h.hs.length 105 (h.hs.flatMap ut)
  rc : h.hs.length <= h.rc
  map : MapO u h.m natV (placeOf (h.hs.map jk.id))
  vals : Sl u h.vp h.vs.length 2 (h.vs.flatMap ui)
  vc : h.vs.length <= h.vc
  o : ∀ x ∈ h.hs, Av u H x
  v : ∀ x ∈ h.vs, yq8 u H x
  fr : InH h.rp H
  fv : InH h.vp H
  fm : ∀ r, h.m = some r -> H r
  few : h.hs.length < 1000000
  fev : h.vs.length < 1000000
theorem y0.ext {S H:Nat->Prop} {u u':World} {h:ua} (k:y0 u H h) (hE:Ext S u u') (hS:∀y,H y->¬S y):y0 u' H h:=
 ⟨Sl.inH k.row hE k.fr hS,k.rc,k.map.imp _root_.id λ⟨r,e,b⟩=>⟨r,e,b.ext hE (hS r (k.fm r e))⟩,Sl.inH k.vals hE k.fv hS,k.vc,λx a=>(k.o x a).ext hE hS,λx a=>(k.v x a).ext hE hS,k.fr,k.fv,k.fm,k.few,k.fev⟩
theorem y0.g0 {H : Nat -> Prop} {u u' : World} {h : ua} (k : y0 u H h) (hE : Ext No u u') : y0 u' H h := k.ext hE λ_ _ => _root_.id
theorem y0.held {u : World} {H : Nat -> Prop} {h : ua} (k : y0 u H h) : ∀ x ∈ h.hs, (ut x).length = 105 := λx hx => (k.o x hx).len
def FindAt (l : List yp) (n : Str) (i : Nat) (q : Bool) : Prop := i <= l.length /\ (∀ v ∈ l.take i, C2 v.1 n) /\ (∀ v, (l.drop i).head? = some v -> ¬ C2 v.1 n) /\ (q = true ↔ ∃ v, (l.drop i).head? = some v /\ v.1 = n)
theorem xv8 {α:Type} {l:List α} {i:Nat} (hi:i<l.length):(l.drop i).head? =some l[i]:=by simp_all
theorem drop_none {α : Type} {l : List α} {i : Nat} (hi : l.length <= i) : (l.drop i).head? = none := by rw [bY hi]; rfl
theorem find_calls (w:World) {rv mv:Value} (h1:rv.oneCell'=true) (h2:mv.oneCell'=true) {p:Option Addr} {c:Nat} {vs:List x5} (h:Sl w p vs.length 2 (vs.flatMap ui)) (hl:vs.length<1000000) {n:Str}:
  ge prog 53 [.agg #[rv,mv,.slice p vs.length c],z9 n] w λv w'=>∃(i:Nat) (q:Bool),v= .tuple #[.int .i64 (i:Int),.bool q]/\FindAt (vs.map Prod.fst) n i q/\Ext No w w':=by
 refine gt func53 ?_;have f:=Ext.refl No w;refine ki (gn Z λB O P a D=>?_);have f:=f.g4 D;have a:gu O B 121 ([rv,mv,.slice p vs.length c]):=a;refine k9 Z (uz Z (j0 (ja (α:=Nat) [1,2] Z (λz=>[(6,.int .i64 (z:Int))]) (λz u=>(z<=vs.length/\∀v∈(vs.map Prod.fst).take z,C2 v.1 n)/\gu u B 121 ([rv,mv,.slice p vs.length c])/\Ext No w u) (λz u=>vs.length-z) (0) Z ⟨⟨aF _,λ_ h=>(by cases h)⟩,a,f⟩ ?_)));rintro i T ⟨⟨Q,t⟩,a,f⟩;refine gh (jb (α:=Bool) [1,2,6] Z (λz=>[(21,.bool z)]) (λz u=>(z=true↔∃v,((vs.map Prod.fst).drop i).head? =some v/\C2 v.1 n)/\gu u B 121 ([rv,mv,.slice p vs.length c])/\Ext No w u) ?_ ?_);refine gr (gv g5 Z (gj Z (a.cell Z) (gv g5 Z (j7 12 Z (λE=>?_) (λE=>?_)))));have b:i<vs.length:=by omega
 have d:i<(vs.map Prod.fst).length:=by rw[aB];exact b
 have g:=xv8 d;rw[bD] at g;let⟨R,F,G,o⟩:=h.km (λx _=>xz x) zo;subst G;exact gm g5 1 Z (gj Z (a.cell Z) (gm g5 1 Z (jo Z 2 Z i Z b (F+i*2) Z (gm g5 1 Z (gj Z (((o i b).g0 f) 0 _ Z) (gm g5 3 Z (ga (gk (_) Z ⟨by rw[aO,g];exact⟨λk=>⟨_,Z,k⟩,λ⟨v,e,k⟩=>by cases e;exact k⟩,a,f⟩))))))));have r:=drop_none (l:=vs.map Prod.fst) (i:=i) (by rw[aB];omega);exact gm g5 9 Z (ga (gk (false) Z ⟨by rw[r];exact⟨λk=>(by cases k),λ⟨v,e,_⟩=>by cases e⟩,a,f⟩));rintro z U ⟨N,a,f⟩;refine u5 Z (λC=>?_) (λC=>?_);let⟨V,m,H⟩:=N.1 C;have d:i<(vs.map Prod.fst).length:=by rcases aZ i (vs.map Prod.fst).length with J|J;exact J;rw[drop_none J] at m;cases m
 have b:i<vs.length:=by rw[aB] at d;exact d
 rw[xv8 d] at m;refine vo (j0 (xt Z ?_));rw[jt _ zo];exact ga (jm (j9 (i+1) Z ⟨⟨b,λv s=>by rw[List.take_succ_eq_append_getElem d] at s;rcases aV.1 s with s|s;exact t v s;rw[aE.1 s];cases m;exact H⟩,a,f⟩ zf));have K:∀v,((vs.map Prod.fst).drop i).head? =some v->¬C2 v.1 n:=λv e k=>by rw[N.2 ⟨v,e,k⟩] at C;cases C
 refine zu (jb (α:=Bool) [] Z (λz=>[(4,.int .i64 (i:Int)),(5,.bool z)]) (λz u=>(z=true↔∃v,((vs.map Prod.fst).drop i).head? =some v/\v.1=n)/\gu u B 121 ([rv,mv,.slice p vs.length c])/\Ext No w u) ?_ ?_);refine jl Z 18 [qP 0,qP 1,qP 2,qP 3,qP 4,qP 5,qP 6,qP 7,qP 8,qP 9,qP 10,qP 11,qP 12,qP 13,qP 14,qP 15,qP 16,qP 17] [] (No) zk λW y S=> have A:=a;have L:=f;have a:=a.g0 y;have f:=f.g4 y;gl g5 3 Z (gy g5 Z Z (λw' j=>(A.g0 j).cell Z) (gl g5 3 Z (ve 30 Z (λE=>?_) (λE=>?_))));have b:i<vs.length:=by omega
 have d:i<(vs.map Prod.fst).length:=by rw[aB];exact b
 have g:=xv8 d;rw[bD] at g;let⟨R,F,G,o⟩:=h.km (λx _=>xz x) zo;subst G;exact gl g5 1 Z (gy g5 Z Z (λw' j=>(A.g0 j).cell Z) (gl g5 1 Z (qe g5 Z Z 2 Z i Z b (F+i*2) Z (gl g5 1 Z (gy g5 Z Z (λw' j=>(((o i b).g0 (L.g4 j)) 0 _ Z)) (gl g5 5 Z (jd (j1 (gk (_) Z ⟨by rw[aO,g];exact⟨λk=>⟨_,Z,xp k⟩,λ⟨v,e,k⟩=>by cases e;rw[<-k]⟩,a,f⟩)))))))));have r:=drop_none (l:=vs.map Prod.fst) (i:=i) (by rw[aB];omega);exact gl g5 11 Z (jd (j1 (gk (false) Z ⟨by rw[r];exact⟨λk=>(by cases k),λ⟨v,e,_⟩=>by cases e⟩,a,f⟩)));rintro z X ⟨M,a,f⟩;exact j6 (ko [_,_] ⟨Z,Z,trivial⟩ ⟨i,_,Z,⟨by rw[aB];exact Q,t,K,M⟩,f⟩)
structure yx8 (W u : World) (G : Nat -> Prop) (h : ua) : Prop where
  row : zx8 W u h.rp h.hs.length h.rc 126 105 (h.hs.flatMap ut)
  rin : InH h.rp G
  map : ∃ r, h.m = some r /\ W.heap.size <= r /\ MapB u r natV (placeOf (h.hs.map jk.id))
  vals : jj W u h.vp h.vs.length h.vc 129 2 (h.vs.flatMap ui)
  o : ∀ x ∈ h.hs, Av u G x
  v : ∀ x ∈ h.vs, yq8 u G x
  few : h.hs.length < 1000000
  fev : h.vs.length < 1000000
  new : ∀ y, W.heap.size <= y -> G y
theorem xj6 {W u:World} {G:Nat->Prop} {p:Option Addr} {n c T sz:Nat} {xs:List Value} (h:jj W u p n c T sz xs) (hG:∀y,W.heap.size<=y->G y):InH p G:=λb d e=>by
 rcases h.own with⟨a,_⟩|⟨f,l,a,_⟩
 ·rw[e] at a;cases a
 rw[e] at a;cases a
 exact hG _ (h.new _ e)
def RestT (T : Nat) : Prop := 148 ≠ T /\ 30 ≠ T /\ 150 ≠ T /\ 5 ≠ T /\ 126 ≠ T
instance (T : Nat) : Decidable (RestT T) := inferInstanceAs (Decidable (_ /\ _))
structure zq6 (W u : World) (G : Nat -> Prop) (rp : Option Addr) (rc : Nat) (hs : List jk) (r : Nat) (vs : List x5) : Prop where
  row : zx8 W u rp hs.length rc 126 105 (hs.flatMap ut)
  map : MapB u r natV (placeOf (hs.map jk.id))
  o : ∀ x ∈ hs, Av u G x
  v : ∀ x ∈ vs, yq8 u G x
section
variable {W u u' : World} {G : Nat -> Prop} {rp : Option Addr} {rc r : Nat} {hs : List jk} {vs : List x5}
theorem zq6.g0 (k:zq6 W u G rp rc hs r vs) (hE:Ext No u u'):zq6 W u' G rp rc hs r vs:=⟨k.row.g0 hE,k.map.g0 hE,λx a=>(k.o x a).ext hE λ_ _=>id,λx a=>(k.v x a).ext hE λ_ _=>id⟩
theorem zq6.g9 (k:zq6 W u G rp rc hs r vs) {b T:Nat} {L:List Value} (hE:Ext (One b) u u') (hb:gu u b T L) (hn:W.heap.size<=b) (hT:RestT T):zq6 W u' G rp rc hs r vs:=
 ⟨k.row.g9 hE hb hn hT.2.2.2.2,k.map.g9 hE hb,λx a=>(k.o x a).g9 hE hb hT.1 hT.2.1 hT.2.2.1,λx a=>(k.v x a).g9 hE hb hT.2.2.2.1⟩
theorem zq6.xq (k:zq6 W u G rp rc hs r vs) {T:Nat} (hE:Ext (Bt W u T T) u u') (hT:RestT T):zq6 W u' G rp rc hs r vs:=
 ⟨k.row.xq hE hT.2.2.2.2,k.map.xq hE,λx a=>(k.o x a).xq hE hT.1 hT.2.1 hT.2.2.1,λx a=>(k.v x a).xq hE hT.2.2.2.1⟩
end
theorem valZc : cellsOf ti129.zero = ui (([], []), none, 0) := by kernel_rfl
def partM (g : IdB -> Option Nat) (l : List IdB) : IdB -> Option Nat := λx => if x ∈ l then g x else none
theorem partM_step {g:IdB->Option Nat} {l:List IdB} {x:IdB} {b:Nat} (h:g x=some b):setM (partM g l) x b=partM g (l++[x]):=by
 funext y;unfold setM partM;by_cases e:y=x;subst e;rw[aM Z,aM zp,h];rw[aJ e];simp[e]
theorem partM_all {g:IdB->Option Nat} {l:List IdB} (h:∀x b,g x=some b->x∈l):partM g l=g:=by
 funext y;unfold partM;split;rfl;rename_i a;cases hg:g y with
 |none=>rfl
 |some b=>exact absurd (h y b hg) a
theorem twin_calls (w:World) {H:Nat->Prop} {h:ua} (hx:y0 w H h) (hH:∀y,H y->y<w.heap.size):
  ge prog 57 [.agg h.c.toArray] w λv w'=>∃h':ua,v= .agg h'.c.toArray/\h'.hs=h.hs/\h'.vs=h.vs/\yx8 w w' (λy=>H y\/w.heap.size<=y) h'/\Ext No w w':=by
 have i:=hx.map;have cr:=hx.fev;refine gt func57 (have j:=Ext.refl No w;ki (gn Z λb1 w1 cs f ba=> have i:=i.g0 ba;have j:=j.g4 ba;have f:gu w1 b1 121 (h.c):=f;gn Z λb2 w2 bn d a4=> have bp:=Nat.le_trans j.size bn;have f:=f.g0 a4;have i:=i.g0 a4;have j:=j.g4 a4;have d:gu w2 b2 121 ([.slice none 0 0,.map none,.slice none 0 0]):=d;qi (have a5:=d.lt;have bb:=j.size;jb (α:=(Nat)×Nat×Nat) [1,2] Z (λz=>[(3,.pointer (some ⟨z.2.1,0,none⟩))]) (λz u=>(MapB u z.1 natV (λ_=>none)/\w.heap.size<=z.1/\MapO u h.m natV (placeOf (h.hs.map jk.id)))/\gu u b1 121 (h.c)/\gu u b2 121 ([.slice none 0 0,.map none,.slice none 0 0])/\gu u z.2.1 121 ([.slice h.rp h.hs.length h.hs.length,.map (some z.1),.slice (some ⟨z.2.2,0,none⟩) h.vs.length h.vs.length])/\w2.heap.size<=z.2.1/\gu u z.2.2 129 (Cl h.vs.length (ui (([],[]),none,0)))/\w2.heap.size<=z.2.2/\z.2.1≠z.2.2/\Ext No w u) ?_ ?_)));have J:=aA w2.heap.size;refine yv3 Z 19 19 [19] (No) zk λw3 hE3 ct=>?_;have av:=f;have bc:=i;have f:=f.g0 hE3;have d:=d.g0 hE3;have i:=i.g0 hE3;have J:=Nat.le_trans J hE3.size;have j:=j.g4 hE3;have F:Ext No _ w3:=hE3;let⟨nn,bq⟩:=bc.len;refine ql [qP 0,qP 1,qP 2,qP 3,qP 4,qP 5,qP 6,qP 7,qP 8,qP 9,qP 10,qP 11,qP 13,qP 14,qP 15] 4 Z zk (gl g5 1 Z (gy g5 Z Z (λw' M=>(av.g0 M).cell Z) (gl g5 1 Z (gy g5 Z Z (λw' M=>(av.g0 M).cell Z) (gl g5 2 Z (gy g5 Z Z (λw' M=>(av.g0 M).cell Z) (gl g5 1 Z (yx5 g5 Z Z 0 h.hs.length h.hs.length 105 Z (.inl ⟨Z,Z⟩) (.inl Z) (.inr ⟨Z,Z⟩) (aF _) (aA _) hx.rc ?_))))))));rw[qa,bH];refine gl g5 1 Z (gy g5 Z Z (λw' M=>(av.g0 M).cell Z) (wd_lnO g5 Z Z (n:=nn) (λw' M=>bq w' M) (gl g5 1 Z (gy g5 Z Z (λw' M=>(av.g0 M).cell Z) (gl g5 1 Z (z6 Z (B9 [12,16,18] Z zk ⟨⟨_,Z,?_⟩,⟨_,Z,?_⟩,⟨_,Z,?_⟩,trivial⟩)))))));have ah:=j;refine st_mms g5 idV IsId natV Z λr w4 hr l ak cu=>⟨F.g4 ak,have f:=f.g0 ak;have d:=d.g0 ak;have i:=i.g0 ak;have J:=Nat.le_trans J ak.size;have j:=j.g4 ak;have F:=F.g4 ak;have G:=Nat.le_trans ah.size hr;ql [] 3 Z zk (z6 Z (B9 [16,18] Z zk ⟨⟨_,Z,?_⟩,⟨_,Z,?_⟩,trivial⟩))⟩
 exact zq8 g5 Z h.vs.length h.vs.length 40 Z valZc Z zd Z Z (aA _) zo zm λk w5 A a ai cv=>⟨F.g4 ai,have q:=Nat.le_trans J A;have f:=f.g0 ai;have d:=d.g0 ai;have i:=i.g0 ai;have l:=l.g0 ai;have J:=Nat.le_trans J ai.size;have j:=j.g4 ai;have F:=F.g4 ai;have a:gu w5 k 129 (Cl h.vs.length (ui (([],[]),none,0))):=a;ql [qP 17,(18,false)] 0 Z zk (zv7 g5 Z Z ⟨⟨Z,by decide⟩,⟨Z,by decide⟩,⟨Z,by decide⟩,trivial⟩ (l':=[.slice h.rp h.hs.length h.hs.length,.map (some r),.slice (some ⟨k,0,none⟩) h.vs.length h.vs.length]) Z (jg Z (Bi g5 Z λb3 w6 p g am=>⟨F.g4 am,have C:=gw f.lt p;have D:=gw d.lt p;have B:=gw a.lt p;have Y:=Nat.le_trans j.size p;have E:=Nat.le_trans J p;have f:=f.g0 am;have d:=d.g0 am;have a:=a.g0 am;have i:=i.g0 am;have l:=l.g0 am;have j:=j.g4 am;jd (have t:=g;wb Z (gz (l':=[.slice h.rp h.hs.length h.hs.length,.map (some r),.slice (some ⟨k,0,none⟩) h.vs.length h.vs.length]) g5 g Z Z Z Z OneC.h λw7 g au cw=> have f:=f.g9 au C;have d:=d.g9 au D;have a:=a.g9 au B;have i:=i.g9 au t;have l:=l.g9 au t;have j:=j.g8 au Y;j1 (gk ((r),b3,k) Z ⟨⟨l,G,i⟩,f,d,g,E,a,q,B.symm,j⟩)))⟩)))⟩
 exact Bi g5 Z λb3 w8 p g aj=>⟨F.g4 aj,have C:=gw f.lt p;have D:=gw d.lt p;have Y:=Nat.le_trans j.size p;have E:=Nat.le_trans J p;have f:=f.g0 aj;have d:=d.g0 aj;have i:=i.g0 aj;have l:=l.g0 aj;have J:=Nat.le_trans J aj.size;have j:=j.g4 aj;have F:=F.g4 aj;ql [(16,false),qP 17] 0 Z zk (jg Z (zq8 g5 Z h.vs.length h.vs.length 40 Z valZc Z zd Z Z (aA _) zo zm λk w9 A a an cx=>⟨F.g4 an,have s:=gw g.lt A;have q:=Nat.le_trans J A;have f:=f.g0 an;have d:=d.g0 an;have g:=g.g0 an;have i:=i.g0 an;have l:=l.g0 an;have j:=j.g4 an;have a:gu w9 k 129 (Cl h.vs.length (ui (([],[]),none,0))):=a;zv7 g5 Z Z ⟨⟨Z,by decide⟩,⟨Z,by decide⟩,⟨Z,by decide⟩,trivial⟩ (l':=[.slice h.rp h.hs.length h.hs.length,.map (some r),.slice (some ⟨k,0,none⟩) h.vs.length h.vs.length]) Z (jd (have t:=g;wb Z (gz (l':=[.slice h.rp h.hs.length h.hs.length,.map (some r),.slice (some ⟨k,0,none⟩) h.vs.length h.vs.length]) g5 g Z Z Z Z OneC.h λcy g I b7=> have f:=f.g9 I C;have d:=d.g9 I D;have a:=a.g9 I s.symm;have i:=i.g9 I t;have l:=l.g9 I t;have j:=j.g8 I Y;j1 (gk ((r),b3,k) Z ⟨⟨l,G,i⟩,f,d,g,E,a,q,s,j⟩))))⟩))⟩
 refine zq8 g5 Z h.vs.length h.vs.length 40 Z valZc Z zd Z Z (aA _) zo zm λk br A a O b8=>⟨F.g4 O,have q:=Nat.le_trans J A;have f:=f.g0 O;have d:=d.g0 O;have i:=i.g0 O;have J:=Nat.le_trans J O.size;have j:=j.g4 O;have F:=F.g4 O;have a:gu br k 129 (Cl h.vs.length (ui (([],[]),none,0))):=a;ql [] 3 Z zk (z6 Z (B9 [12,18] Z zk ⟨⟨_,Z,?_⟩,⟨_,Z,?_⟩,trivial⟩))⟩
 have ah:=j;exact st_mms g5 idV IsId natV Z λr cz hr l K b9=>⟨F.g4 K,have f:=f.g0 K;have d:=d.g0 K;have a:=a.g0 K;have i:=i.g0 K;have J:=Nat.le_trans J K.size;have j:=j.g4 K;have F:=F.g4 K;have G:=Nat.le_trans ah.size hr;ql [qP 17,(18,false)] 0 Z zk (zv7 g5 Z Z ⟨⟨Z,by decide⟩,⟨Z,by decide⟩,⟨Z,by decide⟩,trivial⟩ (l':=[.slice h.rp h.hs.length h.hs.length,.map (some r),.slice (some ⟨k,0,none⟩) h.vs.length h.vs.length]) Z (jg Z (Bi g5 Z λb3 c0 p g P=>⟨F.g4 P,have C:=gw f.lt p;have D:=gw d.lt p;have B:=gw a.lt p;have Y:=Nat.le_trans j.size p;have E:=Nat.le_trans J p;have f:=f.g0 P;have d:=d.g0 P;have a:=a.g0 P;have i:=i.g0 P;have l:=l.g0 P;have j:=j.g4 P;jd (have t:=g;wb Z (gz (l':=[.slice h.rp h.hs.length h.hs.length,.map (some r),.slice (some ⟨k,0,none⟩) h.vs.length h.vs.length]) g5 g Z Z Z Z OneC.h λc1 g aa ca=> have f:=f.g9 aa C;have d:=d.g9 aa D;have a:=a.g9 aa B;have i:=i.g9 aa t;have l:=l.g9 aa t;have j:=j.g8 aa Y;j1 (gk ((r),b3,k) Z ⟨⟨l,G,i⟩,f,d,g,E,a,q,B.symm,j⟩)))⟩)))⟩
 exact Bi g5 Z λb3 c2 p g Q=>⟨F.g4 Q,have C:=gw f.lt p;have D:=gw d.lt p;have B:=gw a.lt p;have Y:=Nat.le_trans j.size p;have E:=Nat.le_trans J p;have f:=f.g0 Q;have d:=d.g0 Q;have a:=a.g0 Q;have i:=i.g0 Q;have j:=j.g4 Q;have F:=F.g4 Q;ql [(12,false),qP 17] 0 Z zk (have ah:=j;jg Z (st_mms g5 idV IsId natV Z λr c3 hr l R cb=>⟨F.g4 R,have f:=f.g0 R;have d:=d.g0 R;have a:=a.g0 R;have g:=g.g0 R;have i:=i.g0 R;have j:=j.g4 R;have G:=Nat.le_trans ah.size hr;zv7 g5 Z Z ⟨⟨Z,by decide⟩,⟨Z,by decide⟩,⟨Z,by decide⟩,trivial⟩ (l':=[.slice h.rp h.hs.length h.hs.length,.map (some r),.slice (some ⟨k,0,none⟩) h.vs.length h.vs.length]) Z (jd (have t:=g;wb Z (gz (l':=[.slice h.rp h.hs.length h.hs.length,.map (some r),.slice (some ⟨k,0,none⟩) h.vs.length h.vs.length]) g5 g Z Z Z Z OneC.h λc4 g ab cc=> have f:=f.g9 ab C;have d:=d.g9 ab D;have a:=a.g9 ab B;have i:=i.g9 ab t;have l:=l.g9 ab t;have j:=j.g8 ab Y;j1 (gk ((r),b3,k) Z ⟨⟨l,G,i⟩,f,d,g,E,a,q,B.symm,j⟩))))⟩))⟩
 refine Bi g5 Z λb3 c5 p g S=>⟨F.g4 S,have C:=gw f.lt p;have D:=gw d.lt p;have Y:=Nat.le_trans j.size p;have E:=Nat.le_trans J p;have f:=f.g0 S;have d:=d.g0 S;have i:=i.g0 S;have J:=Nat.le_trans J S.size;have j:=j.g4 S;have F:=F.g4 S;ql [] 3 Z zk (z6 Z (B9 [12,16] Z zk ⟨⟨_,Z,?_⟩,⟨_,Z,?_⟩,trivial⟩))⟩
 have ah:=j;exact st_mms g5 idV IsId natV Z λr c6 hr l L cd=>⟨F.g4 L,have f:=f.g0 L;have d:=d.g0 L;have g:=g.g0 L;have i:=i.g0 L;have J:=Nat.le_trans J L.size;have j:=j.g4 L;have F:=F.g4 L;have G:=Nat.le_trans ah.size hr;ql [(16,false),qP 17] 0 Z zk (jg Z (zq8 g5 Z h.vs.length h.vs.length 40 Z valZc Z zd Z Z (aA _) zo zm λk bs A a T ce=>⟨F.g4 T,have s:=gw g.lt A;have q:=Nat.le_trans J A;have f:=f.g0 T;have d:=d.g0 T;have g:=g.g0 T;have i:=i.g0 T;have l:=l.g0 T;have j:=j.g4 T;have a:gu bs k 129 (Cl h.vs.length (ui (([],[]),none,0))):=a;zv7 g5 Z Z ⟨⟨Z,by decide⟩,⟨Z,by decide⟩,⟨Z,by decide⟩,trivial⟩ (l':=[.slice h.rp h.hs.length h.hs.length,.map (some r),.slice (some ⟨k,0,none⟩) h.vs.length h.vs.length]) Z (jd (have t:=g;wb Z (gz (l':=[.slice h.rp h.hs.length h.hs.length,.map (some r),.slice (some ⟨k,0,none⟩) h.vs.length h.vs.length]) g5 g Z Z Z Z OneC.h λc7 g ac cf=> have f:=f.g9 ac C;have d:=d.g9 ac D;have a:=a.g9 ac s.symm;have i:=i.g9 ac t;have l:=l.g9 ac t;have j:=j.g8 ac Y;j1 (gk ((r),b3,k) Z ⟨⟨l,G,i⟩,f,d,g,E,a,q,s,j⟩))))⟩))⟩
 exact zq8 g5 Z h.vs.length h.vs.length 40 Z valZc Z zd Z Z (aA _) zo zm λk bt A a U cg=>⟨F.g4 U,have s:=gw g.lt A;have q:=Nat.le_trans J A;have f:=f.g0 U;have d:=d.g0 U;have g:=g.g0 U;have i:=i.g0 U;have j:=j.g4 U;have F:=F.g4 U;have a:gu bt k 129 (Cl h.vs.length (ui (([],[]),none,0))):=a;ql [(12,false),qP 17] 0 Z zk (have ah:=j;jg Z (st_mms g5 idV IsId natV Z λr c8 hr l V ch=>⟨F.g4 V,have f:=f.g0 V;have d:=d.g0 V;have g:=g.g0 V;have a:=a.g0 V;have i:=i.g0 V;have j:=j.g4 V;have G:=Nat.le_trans ah.size hr;zv7 g5 Z Z ⟨⟨Z,by decide⟩,⟨Z,by decide⟩,⟨Z,by decide⟩,trivial⟩ (l':=[.slice h.rp h.hs.length h.hs.length,.map (some r),.slice (some ⟨k,0,none⟩) h.vs.length h.vs.length]) Z (jd (have t:=g;wb Z (gz (l':=[.slice h.rp h.hs.length h.hs.length,.map (some r),.slice (some ⟨k,0,none⟩) h.vs.length h.vs.length]) g5 g Z Z Z Z OneC.h λc9 g ad ci=> have f:=f.g9 ad C;have d:=d.g9 ad D;have a:=a.g9 ad s.symm;have i:=i.g9 ad t;have l:=l.g9 ad t;have j:=j.g8 ad Y;j1 (gk ((r),b3,k) Z ⟨⟨l,G,i⟩,f,d,g,E,a,q,s,j⟩))))⟩))⟩
 rintro⟨r,b3,k⟩ da ⟨⟨l,G,i⟩,f,d,g,p,a,A,s,j⟩;have ap:b2≠k:=gw a5 A;have a1:=Nat.le_trans bb A;refine gh (jy Z (gj Z (f.cell Z) (have bu:=j;have db:=l.lt;wl (st_rgO g5 Z i λit N dc bv hI ae=>?_))));have f:=f.g0 ae;have d:=d.g0 ae;have g:=g.g0 ae;have a:=a.g0 ae;have l:=l.g0 ae;have j:=j.g4 ae;have bd:=Nat.le_trans bu.size bv;have bf:it≠r:=by omega
 have bw:∀r2,h.m=some r2->r2≠r:=λr2 e e2=>by have:=hH r2 (hx.fm r2 e);omega
 refine qi (j0 (ja (α:=List IdB) [1,2,3,26] Z (λz=>[]) (λz u=>(zj8 u it h.m natV (placeOf (h.hs.map jk.id)) N z/\MapB u r natV (partM (placeOf (h.hs.map jk.id)) z))/\gu u b1 121 (h.c)/\gu u b2 121 ([.slice none 0 0,.map none,.slice none 0 0])/\gu u b3 121 ([.slice h.rp h.hs.length h.hs.length,.map (some r),.slice (some ⟨k,0,none⟩) h.vs.length h.vs.length])/\gu u k 129 (Cl h.vs.length (ui (([],[]),none,0)))/\Ext No w u) (λz u=>N-z.length) ([]) Z ⟨⟨hI,by rw[show partM (placeOf (h.hs.map jk.id)) []=λ_=>none from by funext x;simp[partM]];exact l⟩,f,d,g,a,j⟩ ?_));rintro aw dd ⟨⟨hI,l⟩,f,d,g,a,j⟩;refine ki (wl (st_nxO Z hI (λbg=>?_) (λxk bk de bx aq df cj bz bh af ck=>?_)));refine gv g5 Z (qi (gh (qz Z (zu (jy Z (j3 g Z Z (gv g5 Z (j3 f Z Z (have a6:=a;wl (zw0 g5 Z 2 Z a (Src.slice (hx.vals.g0 j) OneC.h) (aA _) (by rw[ur];exact Nat.le_of_eq (aX _)) λb0 a2 ar cm=>?_))))))))));have a:gu b0 k 129 (h.vs.flatMap ui):=by rw[Ba (by rw[ur,hx.vals.1];rfl)] at a2;exact a2
 have d:=d.g9 ar ap;have g:=g.g9 ar s;have l:=l.g9 ar a6;have j:=j.g8 ar a1;exact qi (ki (j8 g Z Z (have bi:=d;wl (gz (l':=[.slice h.rp h.hs.length h.hs.length,.map (some r),.slice (some ⟨k,0,none⟩) h.vs.length h.vs.length]) g5 d Z Z Z Z OneC.h λdg d ax cn=> have a:=a.g9 ax ap.symm;have l:=l.g9 ax bi;have j:=j.g8 ax bp;qi (j6 (ko [_] ⟨⟨b2,0,Z,kj g5 Z Z d.kc Z⟩,trivial⟩ ⟨⟨h.rp,h.hs.length,h.hs,some r,some ⟨k,0,none⟩,h.vs.length,h.vs⟩,Z,Z,Z,⟨.inl ⟨Z,hx.row.g0 j,λb b5 e=>hH b (hx.fr b b5 e)⟩,hx.fr.mono λ_=> .inl,⟨r,Z,G,by rw[partM_all bg] at l;exact l⟩,jj.blk a a1 (hx.vals.1) zm,λx h'=>((hx.o x h').ext j λ_ _=>_root_.id).mono λ_=> .inl,λx h'=>((hx.v x h').ext j λ_ _=>_root_.id).mono λ_=> .inl,hx.few,hx.fev,λy hy=> .inr hy⟩,j⟩))))));have f:=f.g9 af (hI.neB f).1.symm;have d:=d.g9 af (hI.neB d).1.symm;have g:=g.g9 af (hI.neB g).1.symm;have a:=a.g9 af (hI.neB a).1.symm;have l:=l.ext af bf.symm;have hI:=bz;have j:=j.g8 af bd;refine k9 Z (gh (Cy Z (vo (j0 (ki ?_)))));let⟨rr,_,bj⟩:=bh;refine wl (st_en Z bj (gv g5 Z (gn Z λb4 dh ay az W=> have a7:=gw f.lt ay;have a8:=gw d.lt ay;have a9:=gw g.lt ay;have a0:=gw a.lt ay;have b6:=Nat.le_trans j.size ay;have f:=f.g0 W;have d:=d.g0 W;have g:=g.g0 W;have a:=a.g0 W;have l:=l.g0 W;have hI:=hI.g0 W;have j:=j.g4 W;have a3:=az;wl (gz (l':=g6 xk) g5 az Z Z (by rw[gb];exact aq) (by rw[gb,aq];rfl) OneC.h λdi az X cp=> have f:=f.g9 X a7;have d:=d.g9 X a8;have g:=g.g9 X a9;have a:=a.g9 X a0;have l:=l.g9 X a3;have hI:=hI.g9 X a3;have j:=j.g8 X b6;k9 Z (xt Z (j3 g Z Z (j8 az Z (by rw[gb];exact aq) (gv g5 Z (wl (st_mu g5 Z idK aq Z l (b:=bk) Z λdj bm ag cq=>?_))))))))));rw[partM_step bx] at bm;have f:=f.yc l ag;have d:=d.yc l ag;have g:=g.yc l ag;have a:=a.yc l ag;have hI:=hI.ext ag bf bw;have j:=j.g8 ag G;exact ga (jm (j9 (aw++[xk]) Z ⟨⟨hI,bm⟩,f,d,g,a,j⟩ (by rw[al];show N-(aw.length+1)<N-aw.length;omega)))
end Go.Proofs.YtpdiphfjmepijaaGreatDoor
namespace Go.Vc
section
variable {P : Program} {I : u6} {f : Fs} {ops : Array Oper} {o : Oper} {env : Env} {w : World} {K : Env -> World -> Prop}
def capE (I : u6) (n : Nat) (ops : Array Oper) (env : Env) (o : Oper) : Option (Nat × Nat) :=
  match pre n ops env o with
  | false => none
  | true => match o.dst with
    | some d => match o.op with
      | .call { callee := .builtin .cap, args := xs, argTypes := ts } => match xs.toList with
        | [x] => match ts.toList with
          | [t] => match z7 I t with
            | some y => match y.desc with
              | .slice _ => match xr env x with
                | some (.slice _ _ c) => some (c, d)
                | _ => none
              | _ => none
            | none => none
          | _ => none
        | _ => none
      | _ => none
    | none => none
theorem st_cap (hI:I.Ok P) {c d:Nat} (h:capE I f.n ops env o=some (c,d)) (k:K ((d,.int .i64 (c:Int))::env) w):St P f ops o env w K:=by
 unfold capE at h;split at h;cases h;rename_i j;let⟨l,m⟩:=pre_eq j;split at h;rename_i F q;split at h;rename_i r s a;split at h;rename_i x b;split at h;rename_i t g;split at h;rename_i y u;split at h;rename_i e z;split at h;rename_i p n G A;cases h;have i:=(hI.get u).under w;rw[z] at i;have B:r= #[x]:=by rw[<-b]
 have C:s= #[t]:=by rw[<-g]
 subst B C;have D:(Builtin.cap_ #[t] o.type #[.slice p n c]).run P w= .ok (.int .i64 (c:Int)) w:=by unfold Builtin.cap_;simp only[bS,cG];rw[jf i];rfl
 refine yv l m (v:= .int .i64 (c:Int)) (w':=w) (λH E=>?_) (by rw[q];exact k);unfold execOp;simp only[a,resolve,invoke,builtin,aI,aP,aD,List.map_toArray,dD,List.map_nil,E _ _ A,D];cases h;cases h;cases h;cases h;cases h;cases h;cases h
theorem run_app0 (hI:I.Ok P) {t t2 ty e:Nat} {y y2 g:TI} {kk:IntKind} (hy:z7 I t=some y) (he:y.desc= .slice e) (hg:z7 I e=some g) (hy2:z7 I t2=some y2) (hd2:y2.desc= .int kk)
  (hz:(cellsOf g.zero).length=g.size) (hz0:0<g.size) {p:Option Addr} {n c:Nat} {xs:List Value} (hsl:Sl w p n g.size xs) {m:Nat}
  (hm:n+m<=maxLen) (hb:(n+m)*g.bytes<=140737488355328) (hgr:c<n+m) (kx:IntKind):
  ∃c' w',(Builtin.append_ #[t,t2] ty #[.slice p n c,.int kx (m:Int)]).run P w= .ok (.slice (some ⟨w.heap.size,0,none⟩) (n+m) c') w'/\Own w' (some ⟨w.heap.size,0,none⟩) (n+m) c' e g.size (xs++Cl m (cellsOf g.zero))/\Ext No w w':=by
 have H:=(hI.get hy).under w;rw[he] at H;have K:=(hI.get hg).sizeOf w;have k:=(hI.get hy2).under w;rw[hd2] at k;let⟨i,L,N,J,O⟩:=TI.Ok.info (hI.get hg);have d:=hsl.1;unfold maxLen at hm;have f:∀w:World,(typeInfo e).run P w= .ok i w:=λw=>by unfold typeInfo;simp[L]
 have u:IntKind.i64.wrap (m:Int)=(m:Int):=jt _ zo;have l:¬(n+m<=c):=by omega
 have v:¬((n+m:Nat):Int)>IntKind.i64.max:=by show¬((n+m:Nat):Int)>2^(64-1)-1;omega
 have x:¬Builtin.nextslicecap (n+m) c*i.bytes>2^48:=by have:=growslice_fits (need:=n+m) (old:=c) (bytes:=i.bytes) zo (by rw[J];exact hb);simp only[gt_iff_lt,Nat.not_lt];exact this
 have z:¬(m:Int)*(i.bytes:Int)>2^48:=by
  grind
 have o:¬(m:Int)<0:=by omega
 have A:(choose (.appendCap (n+m) c e)).run P w= .ok (grownCap w (n+m) c e) w.drew:=by simp[Question.forced,grownCap]
 have q:(Builtin.firstCells g.size n (.slice p n c)).run P w.drew= .ok xs.toArray w.drew:=by
  rcases hsl.2 with j|⟨b,r,rfl,B⟩;have:xs=[]:=by rw[j] at d;simpa using d
  subst this;subst j;cases p with
  |none=>rfl
  |some a=>
   unfold Builtin.firstCells loadCells;rw[cX];rfl
  have C:Seg w.drew b (r+0) xs:=B;have:=vt (P:=P) (n*g.size) 0 xs #[] C d;show(loadCellsFrom ⟨b,r,none⟩ 0 (n*g.size) #[]).run P w.drew=_;rw[this];simp
 have D:n+m<=grownCap w (n+m) c e:=by unfold grownCap Question.cut;exact Nat.le_add_right _ _
 have E:grownCap w (n+m) c e<=maxLen:=grownCap_le_maxLen w _ _ _ zq;have F:¬m*g.size=0\/m=0:=by rcases Nat.eq_zero_or_pos m with h|h;exact .inr h;exact .inl (by have:=Nat.mul_pos h hz0;omega)
 refine⟨grownCap w (n+m) c e,w.drew.alloc (.cells (xs++Cl m (cellsOf g.zero)++Cl (grownCap w (n+m) c e-(n+m)) (cellsOf g.zero)).toArray e),?_,.inr ⟨_,_,Z,Co w.drew _ e,?_,D,E,?_⟩,?_⟩;unfold Builtin.append_;simp only[bS,cG,List.getElem?_cons_succ];rw[jf H];simp only[];rw[aI,K,aD];rw[jf k];have G:∀w:World,(asInt (.int kx (m:Int))).run P w= .ok (m:Int) w:=λ_=>rfl;simp only[pure_bind,cH,aI,G,aD,u,Sem.run_ite,o,cW,f,z,aP,bT,l,v,false_and,x,A,run_askRoom,q,(hI.get hg).zeroValue,Bool.not_true,bK,newRow,run_newObj];have s:g.zero.cells=(cellsOf g.zero).toArray:=by rw[<-xw]
 rcases F with j|j;rw[aJ j];simp only[aI,(hI.get hg).zeroValue,aP,aD,s,Bj _ _ (show 0<(cellsOf g.zero).length by omega),List.append_toArray];rfl;subst j;simp only[cX,cH,aP,aD,s,Bj _ _ (show 0<(cellsOf g.zero).length by omega)];simp only[Cl,List.replicate_zero,List.flatten_nil,bJ,Array.append_empty,List.append_toArray];rfl;rw[al,al,ur,ur,hz,d,<-cJ,<-cJ];congr 1;omega;rw[cJ,<-d,<-hz,<-ur,<-al,List.take_left];exact(Ext.drew w).then (Ext.alloc w.drew _ e)
structure App0Args where
  p : Option Addr
  n : Nat
  c : Nat
  e : Nat
  g : TI
  x : Int
  d : Nat
def app0E (I : u6) (n : Nat) (ops : Array Oper) (env : Env) (o : Oper) : Option App0Args :=
  match pre n ops env o with
  | false => none
  | true => match o.dst with
    | some d => match o.op with
      | .call { callee := .builtin .append, args := xs, argTypes := ts } => match xs.toList with
        | [s, x] => match ts.toList with
          | [t, t2] => match z7 I t with
            | some y => match y.desc with
              | .slice e => match z7 I e with
                | some g => match z7 I t2 with
                  | some y2 => match y2.desc with
                    | .int _ => match xr env s with
                      | some (.slice p m c) => match xr env x with
                        | some (.int _ q) => some ⟨p, m, c, e, g, q, d⟩
                        | _ => none
                      | _ => none
                    | _ => none
                  | none => none
                | none => none
              | _ => none
            | none => none
          | _ => none
        | _ => none
      | _ => none
    | none => none
theorem st_app0 (hI:I.Ok P) {s:App0Args} (h:app0E I f.n ops env o=some s) (sz by_:Nat) (hsz:s.g.size=sz) (hby:s.g.bytes=by_) {zs:List Value} (hzs:cellsOf s.g.zero=zs) (hz:zs.length=sz) (hz0:0<sz) {xs:List Value} (hsl:Sl w s.p s.n sz xs) (m:Nat) (hxm:s.x=(m:Int))
  (hm:s.n+m<=maxLen) (hb:(s.n+m)*by_<=140737488355328) (hgr:s.c<s.n+m)
  (k:∀b c' w',w.heap.size<=b->Own w' (some ⟨b,0,none⟩) (s.n+m) c' s.e sz (xs++Cl m zs)->Ext No w w'->K ((s.d,.slice (some ⟨b,0,none⟩) (s.n+m) c')::env) w'):St P f ops o env w K:=by
 subst hsz;subst hby;subst hzs;unfold app0E at h;split at h;cases h;rename_i F;let⟨G,H⟩:=pre_eq F;split at h;rename_i X J;split at h;rename_i i L M;split at h;rename_i B C j;have l:i= #[B,C]:=by apply cC;simpa using j
 subst l;split at h;rename_i t N r;have u:L= #[t,N]:=by apply cC;simpa using r
 subst u;split at h;rename_i y O;split at h;rename_i e Q;split at h;rename_i g R;split at h;rename_i Y z;split at h;rename_i Z0 A;split at h;rename_i p n c S;split at h;rename_i D q T;cases h;simp only at*;subst hxm;let⟨c',w',U,a,V⟩:=run_app0 (P:=P) (ty:=o.type) hI O Q R z A hz hz0 hsl hm hb hgr D;refine yv G H (v:= .slice (some ⟨w.heap.size,0,none⟩) (n+m) c') (w':=w') (λρ E=>?_) (by rw[J];exact k _ c' w' (aA _) a V);have W:Array.map ρ #[B,C]= #[.slice p n c,.int D (m:Int)]:=by simp[E _ _ S,E _ _ T]
 simp only[execOp,M,resolve,aI,aP,aD,invoke,builtin,W,U];cases h;cases h;cases h;cases h;cases h;cases h;cases h;cases h;cases h;cases h;cases h
theorem st_extn {x:Operand} {xs:Array Operand} {ts:Array TypeId} {g:FuncId} {vs:List Value} {v:Value} {w':World} (ho:o.op= .call {callee:= .value x,args:=xs,argTypes:=ts}) (hg:takes ops env o=true) {d:Nat} (hd:o.dst=some d) (hdn:Nat.blt d f.n=true)
  (hx:xr env x=some (.func (.func g) #[] #[])) (hvs:evs env xs.toList=some vs) (hr:(callFunc g vs.toArray).run P w= .ok (.value v) w') (k:K ((d,v)::env) w'):St P f ops o env w K:=by
 refine yv (o:=o) (v:=v) (w':=w') hg (by rw[hd];exact hdn) (λm c=>?_) (by rw[hd];exact k)
 have a:∀(l:List Operand) vs,evs env l=some vs->l.map m=vs:=by
  intro l;induction l with
  |nil=>intro vs h;simp[evs] at h;subst h;rfl
  |cons y r ih=>
   intro vs h;simp only[evs] at h;split at h;rename_i u e;split at h;rename_i j b;simp at h;subst h;simp[c _ _ e,ih _ b];simp at h;simp at h
 have i:xs.map m=vs.toArray:=by apply cC;rw[Array.toList_map,a _ _ hvs]
 simp only[execOp,ho,resolve,i,c _ _ hx,Deferred.ofValue,aI,aP,aD,invoke,Array.empty_append,Array.append_empty,hr]
end
section
variable {P : Program} {I : u6} {f : Fs} {ops : Array Oper} {o : Oper} {env : Env} {w : World}
def eqPE (n : Nat) (ops : Array Oper) (env : Env) (o : Oper) : Option (Nat × Bool × Addr × Addr × Nat) :=
  match pre n ops env o with
  | false => none
  | true => match o.dst with
    | some d => match o.op with
      | .binOp op t x y _ => match xr env x with
        | some (.pointer (some a)) => match xr env y with
          | some (.pointer (some b)) => match op with
            | .eql => some (t, true, a, b, d)
            | .neq => some (t, false, a, b, d)
            | _ => none
          | _ => none
        | _ => none
      | _ => none
    | none => none
end
section
variable {P : Program} {I : u6} {f : Fs} {ops : Array Oper} {o : Oper} {env : Env} {w : World}
structure ClArgs where
  p : Option Addr
  n : Nat
  g : TI
def clE (I : u6) (n : Nat) (ops : Array Oper) (env : Env) (o : Oper) : Option ClArgs :=
  match pre n ops env o with
  | false => none
  | true => match o.dst with
    | none => match o.op with
      | .call { callee := .builtin .clear, args := xs, argTypes := ts } => match xs.toList with
        | [s] => match ts.toList with
          | [t] => match z7 I t with
            | some y => match y.desc with
              | .slice e => match z7 I e with
                | some g => match xr env s with
                  | some (.slice p m _) => some ⟨p, m, g⟩
                  | _ => none
                | none => none
              | _ => none
            | none => none
          | _ => none
        | _ => none
      | _ => none
    | some _ => none
theorem st_cl {K:Env->World->Prop} (hI:I.Ok P) {s:ClArgs} (h:clE I f.n ops env o=some s) {zs:List Value} (hz:cellsOf s.g.zero=zs) (hzl:0<zs.length) (h1:∀v∈zs,v.oneCell'=true)
  (k0:s.n=0->K env w)
  (k:0<s.n->∃b off T l,s.p=some ⟨b,off,none⟩/\gu w b T l/\off+s.n*zs.length<=l.length/\∀w',gu w' b T (put l off (Cl s.n zs))->Ext (One b) w w'->w'.heap.size=w.heap.size->K env w'):St P f ops o env w K:=by
 subst hz;unfold clE at h;split at h;cases h;rename_i V;let⟨O,Q⟩:=pre_eq V;split at h;rename_i R;split at h;rename_i j W S;split at h;rename_i q u;have x:j= #[q]:=by apply cC;simpa using u
 subst x;split at h;rename_i t z;have A:W= #[t]:=by apply cC;simpa using z
 subst A;split at h;rename_i y X;split at h;rename_i e Y;split at h;rename_i g Z0;split at h;rename_i p n c U;cases h;simp only at*;have B:=(hI.get X).under w;rw[Y] at B;have C:=(hI.get Z0).zeroValue w;rcases Nat.eq_zero_or_pos n with D|D;subst D;refine yv O Q (v:= .tuple #[]) (w':=w) (λρ E=>?_) (by rw[R];exact k0 Z);have F:Array.map ρ #[q]= #[.slice p 0 c]:=by simp[E _ _ U]
 have a:(Builtin.clear_ #[t] o.type #[.slice p 0 c]).run P w= .ok (.tuple #[]) w:=by unfold Builtin.clear_;simp only[bS,cG];rw[jf B];cases p<;>simp
 simp only[execOp,S,resolve,aI,aP,aD,invoke,builtin,F,a];obtain⟨b,off,T,l,rfl,d,G,kk⟩:=k D;have H:(Cl n (cellsOf g.zero)).length=n*(cellsOf g.zero).length:=ur _ _
 obtain⟨w',J,L,hE,M⟩:=x3 (P:=P) (Cl n (cellsOf g.zero)) w l off 0 d (by rw[H];omega) (λv i=>by
  unfold Cl at i
  let⟨r,J,i⟩:=List.mem_flatten.1 i
  rw[(List.mem_replicate.1 J).2] at i
  exact h1 v i)
 refine yv O Q (v:= .tuple #[]) (w':=w') (λρ E=>?_) (by rw[R];exact kk w' L hE M);have F:Array.map ρ #[q]= #[.slice (some ⟨b,off,none⟩) n c]:=by simp[E _ _ U]
 have N:(Builtin.zeroCells g.zero.cells n).toList=Cl n (cellsOf g.zero):=by rw[show g.zero.cells=(cellsOf g.zero).toArray from by rw[<-xw],Bj _ _ hzl]
 have a:(Builtin.clear_ #[t] o.type #[.slice (some ⟨b,off,none⟩) n c]).run P w= .ok (.tuple #[]) w':=by
  unfold Builtin.clear_;simp only[bS,cG];rw[jf B];obtain⟨m,rfl⟩:∃m,n=m+1:=⟨n-1,by omega⟩
  simp_all
 simp only[execOp,S,resolve,aI,aP,aD,invoke,builtin,F,a];cases h;cases h;cases h;cases h;cases h;cases h;cases h;cases h
end
end Go.Vc
namespace Go.Proofs.YtpdiphfjmepijaaGreatDoor
open Go.Proofs.Tryz
open Go.Vc
theorem ownCut {w:World} {p:Option Addr} {n c T sz:Nat} {xs:List Value} (h:Own w p n c T sz xs) {i:Nat} (hi:i<=n):Own w p i c T sz (xs.take (i*sz)):=by
 rcases h with⟨a,e,d,f⟩|⟨b,l,a,e,d,f,g,j⟩;refine .inl ⟨a,by omega,d,by rw[f];simp⟩;exact .inr ⟨b,l,a,e,d,by omega,g,by rw[<-j,List.take_take,bR (cQ _ hi)]⟩
theorem vals_take (vs:List x5) (i:Nat) (hi:i<=vs.length):(vs.flatMap ui).take (i*2)=(vs.take i).flatMap ui:=by
 rw[<-cM i vs,aQ,dB (by rw[xx0 λx _=>xz x,aK,bR hi]),cM]
theorem vals_drop (vs:List x5) (i:Nat) (hi:i<=vs.length):(vs.flatMap ui).drop (i*2)=(vs.drop i).flatMap ui:=by
 conv=>lhs;rw[<-cM i vs,aQ,List.drop_left' (by rw[xx0 λx _=>xz x,aK,bR hi])]
theorem xz6 (vs : List x5) : (vs.flatMap ui).length = vs.length * 2 := xx0 λx _ => xz x
theorem Sl.vdrop {w:World} {p:Option Addr} {vs:List x5} (h:Sl w p vs.length 2 (vs.flatMap ui)) {i c:Nat} (hi:i<=vs.length) (hc:vs.length<=c):Sl w (ub p i c 2) (vs.length-i) 2 ((vs.drop i).flatMap ui):=by
 have:=h.slice i vs.length c hi hc (aA _);rw[vals_drop vs i hi,aL (by rw[xz6,aW];exact aA _)] at this;exact this
theorem ins_fit {l A B X:List Value} {i n:Nat} (h:l.take (n*2)=A++B) (hA:A.length=i*2) (hB:B.length=(n-i)*2) (hX:X.length=2) (hi:i<=n) (hl:(n+1)*2<=l.length):(put (put l ((i+1)*2) B) (i*2) X).take ((n+1)*2)=A++X++B:=by
 have a:l.take (i*2)=A:=by
  have:(l.take (n*2)).take (i*2)=A:=by rw[h,dB hA]
  grind
 have b:put l ((i+1)*2) B=l.take ((i+1)*2)++B++l.drop ((i+1)*2+B.length):=put_eq _ _ _ zo;have c:(l.take ((i+1)*2)).length=(i+1)*2:=by rw[aK];omega
 rw[put_eq _ _ _ (by rw[x4];omega),b,hX,show i*2+2=(i+1)*2 from by omega];rw[show(l.take ((i+1)*2)++B++l.drop ((i+1)*2+B.length)).drop ((i+1)*2)=B++l.drop ((i+1)*2+B.length) from by rw[aU,List.drop_left' c]];rw[show(l.take ((i+1)*2)++B++l.drop ((i+1)*2+B.length)).take (i*2)=A from by rw[aU,List.take_append_of_le_length zo,List.take_take,bR zo,a]];rw[<-aU,dB (by rw[al,al,hA,hX,hB];omega)]
theorem ins_grow {l A B X:List Value} {i n:Nat} (h:l.take (i*2)=A) (hA:A.length=i*2) (hB:B.length=(n-i)*2) (hX:X.length=2) (hi:i<=n) (hl:(n+1)*2<=l.length):(put (put l (i*2) X) ((i+1)*2) B).take ((n+1)*2)=A++X++B:=by
 have b:put l (i*2) X=A++X++l.drop ((i+1)*2):=by rw[put_eq _ _ _ zo,h,hX,show i*2+2=(i+1)*2 from by omega]
 rw[put_eq _ _ _ (by rw[x4];omega),b];have a:(A++X).length=(i+1)*2:=by rw[al,hA,hX];omega
 rw[dB a,dB (by rw[al,a,hB];omega)]
theorem put_lo {l vs:List Value} {k:Nat} (h:k+vs.length<=l.length):(put l k vs).take k=l.take k:=by
 rw[put_eq _ _ _ h,aU,dB zj]
theorem vdelete_calls (w:World) {W:World} (hW:Ext No W w) {p:Option Addr} {c:Nat} {vs:List x5} (hq:jj W w p vs.length c 129 2 (vs.flatMap ui)) (hl:vs.length<1000000) {i:Nat} (hi:i<vs.length):
  ge prog 186 [.slice p vs.length c,.int .i64 (i:Int),.int .i64 ((i+1:Nat):Int)] w λv w'=>∃q k,v= .slice q (vs.take i++vs.drop (i+1)).length k/\jj W w' q (vs.take i++vs.drop (i+1)).length k 129 2 ((vs.take i++vs.drop (i+1)).flatMap ui)/\Ext (j5 p) w w':=by
 have b:=hq.own.cap;let⟨o,I,g,C,J,D,r,E⟩:=hq.own.opened zo;have j:(vs.take i++vs.drop (i+1)).length=i+(vs.length-(i+1)):=by rw[al,aK,aW,bR zo]
 refine gt func186 (have d:=Ext.refl (j5 p) w;jn Z (jy Z (wl (Ay g5 Z i (i+1) vs.length 2 Z (.inl ⟨Z,Z⟩) (.inl Z) (.inl Z) zo zo b (qi (gh (gh (gr (k9 Z (jc Z (λF=>?_) (λF=>?_)))))))))));exact absurd F zo;refine jw (jh (uz Z (jl Z 8 [qP 0,qP 1,qP 2,qP 3,qP 4,qP 5,(6,false),qP 7] [] (j5 p) zk λK f L=> have M:=hq;have N:=d;have hq:=hq.g0 f;have d:=d.g4 f;have O:Ext (j5 p) _ K:=f.no;gl g5 2 Z (yx5 g5 Z Z 0 i c 2 Z (.inr ⟨Z,Z⟩) (.inl Z) (.inr ⟨Z,Z⟩) (aF _) zo (aA _) ?_))));rw[qa,bH,bH];refine gl g5 2 Z (yx5 g5 Z Z (i+1) vs.length c 2 Z (.inr ⟨Z,Z⟩) (.inr ⟨Z,Z⟩) (.inl Z) zo b (aA _) (jg Z (st_appC g5 Z 2 40 Z Z Z zd (ownCut hq.own (i:=i) zo) (Src.slice (Sl.vdrop hq.sl (i:=i+1) zo b) OneC.h) zm zn λG m P s a=>⟨a.elim (λh=>O.then h.2.2.2) (λh=>absurd h.1 zn),?_⟩)));dsimp only at s a;let⟨_,Q,R,t⟩:_/\G=p/\m=c/\Ext (j5 p) _ _:=a.elim id λh=>absurd h.1 zo;subst Q;subst R;have d:=d.then t;rw[vals_take vs i zo,<-aQ] at s;let⟨l,u,x,z,A⟩:∃l,gu P o 129 l/\l.length=m*2/\i+(vs.length-(i+1))<=m/\l.take ((i+(vs.length-(i+1)))*2)=(vs.take i++vs.drop (i+1)).flatMap ui:=by rcases s with⟨h,_⟩|⟨b',l,H,S,T,U,_,V⟩;rw[g] at h;cases h;rw[g] at H;cases H;exact⟨l,S,T,U,V⟩
 exact gl g5 1 Z (jd (j1 (jh (jy Z (wl (Ay g5 Z (i+(vs.length-(i+1))) vs.length m 2 Z (.inr ⟨Z,Z⟩) (.inl Z) (.inl Z) zo zo (aA _) (wl (st_cl g5 Z valZc zd OneC.h (λX=>absurd X (by show vs.length-(i+(vs.length-(i+1)))≠0;omega)) λ_=>⟨o,(i+(vs.length-(i+1)))*2,_,l,by dsimp only;rw[g,zz zo,aX],u,by show(i+(vs.length-(i+1)))*2+(vs.length-(i+(vs.length-(i+1))))*2<=_;omega,λw3 n B Y=> have d:=d.then (B.mono λy _ e=>by have e:y=o:=e;rw[e];exact g);qi (jn Z (j6 (gp Z Z ⟨G,m,by rw[j],⟨by rw[j];exact .inr ⟨o,_,g,n,by rw[x4];exact x,z,r,by rw[put_lo (by show _+(Cl (vs.length-(i+(vs.length-(i+1)))) _).length<=_;rw[ur,xz];omega)];exact A⟩,hq.new⟩,d⟩)))⟩))))))))
theorem v_over (w:World) {bv pb ov op la ca lb cb T1 T2:Nat} {l1 l2:List Value} (hv:gu w bv T1 l1) (hp:gu w pb T2 l2) (hne:bv≠pb) (hl:l2≠[]):
  (callFunc 216 #[.slice (some ⟨bv,ov,none⟩) la ca,.slice (some ⟨pb,op,none⟩) lb cb]).run prog w= .ok (.value (.bool false)) w:=by
 rw[run_callFunc_extern func216 zk zk zk (e:=Extern.SlicesOverlaps.overlaps #[119,119] #[4]) zk];have a:∀w,(Go.sizeOf 129).run prog w= .ok 2 w:=λw=>(g5.get (t:=129) Z).sizeOf (w:=w);have b:w.shape? bv=some (T1,l1.length):=by unfold gu at hv;simp[World.shape?,hv]
 have c:w.shape? pb=some (T2,l2.length):=by unfold gu at hp;simp[World.shape?,hp]
 rw[Lib.run_overlaps_apart w 119 4 129 Tryz.underlying119 2 a ⟨bv,ov,none⟩ ⟨pb,op,none⟩ la ca lb cb hne T1 T2 l1.length l2.length b c (λe=>hl (aT e)) (hv.free _ Z) (hv.free _ Z)];rfl
theorem vinsert_calls (w:World) {W:World} (hW:Ext No W w) {p:Option Addr} {c:Nat} {vs:List x5} (hq:jj W w p vs.length c 129 2 (vs.flatMap ui)) (hl:vs.length<1000000) {i:Nat} (hi:i<=vs.length) {bv:Nat} {x:x5} (hv:gu w bv 129 (ui x)) (hne:∀y,j5 p y->y≠bv):
  ge prog 187 [.slice p vs.length c,.int .i64 (i:Int),.slice (some ⟨bv,0,none⟩) 1 1] w λv w'=>∃q k,v= .slice q (vs.take i++x::vs.drop i).length k/\jj W w' q (vs.take i++x::vs.drop i).length k 129 2 ((vs.take i++x::vs.drop i).flatMap ui)/\Ext (j5 p) w w':=by
 have f:=hq.own.cap;have g:(vs.take i++x::vs.drop i).length=vs.length+1:=by rw[al,aR,aK,aW,bR hi];omega
 have N:((vs.take i).flatMap ui).length=i*2:=by rw[xz6,aK,bR hi]
 have hB:((vs.drop i).flatMap ui).length=(vs.length-i)*2:=by rw[xz6,aW]
 have O:(vs.flatMap ui).take (vs.length*2)=(vs.take i).flatMap ui++(vs.drop i).flatMap ui:=by rw[<-aQ,cM,aL (by rw[xz6];exact aA _)]
 have u:(vs.take i++x::vs.drop i).flatMap ui=(vs.take i).flatMap ui++ui x++(vs.drop i).flatMap ui:=by rw[aQ,cZ,aU]
 refine gt func187 (have b:=Ext.refl (j5 p) w;jn Z (jy Z (wl (Ay g5 Z i vs.length c 2 Z (.inr ⟨Z,Z⟩) (.inr ⟨Z,Z⟩) (.inl Z) hi f (aA _) (qi (ki (k9 Z (gh (jn Z (jc Z (λo=>?_) (λo=>?_)))))))))));exact absurd o zd;refine jw (jh (uz Z (jn Z (jc Z (λo=>?_) (λo=>?_)))));have h0:i=vs.length:=by omega
 have e1:vs.take i=vs:=by rw[h0];exact bC
 have e2:vs.drop i=[]:=by rw[h0];exact List.drop_length
 exact jy Z (wl (vu g5 Z 2 40 Z Z Z zd hq (Src.slice (m:=1) ⟨Z,.inr ⟨bv,0,Z,hv.kc⟩⟩ OneC.h) zm zn (n':=(vs.take i++x::vs.drop i).length) (ys:=(vs.take i++x::vs.drop i).flatMap ui) (by rw[g]) (by rw[u,e1,e2];simp) hW λq k w1 P Q ab=> have b:=b.then Q;vl Z (j2 (gp Z Z ⟨q,k,Z,P,b⟩))));have ac:i<vs.length:=by omega
 refine vo (gh (jy Z ?_));rw[jt _ zo];refine wl (st_cap g5 Z (k9 Z (jc Z (λo=>?_) (λo=>?_))));have ad:c<vs.length+1:=by omega
 refine jy Z (wl (Ay g5 Z 0 i c 2 Z (.inr ⟨Z,Z⟩) (.inl Z) (.inr ⟨Z,Z⟩) (aF _) zo (aA _) ?_));rw[qa,bH,bH];refine gv g5 Z ?_;rw[show IntKind.i64.wrap (IntKind.i64.wrap ((vs.length:Int)+((1:Nat):Int))-(i:Int))=((vs.length+1-i:Nat):Int) from by rw[jt ((vs.length:Int)+((1:Nat):Int)) zo,jt _ zo];omega];have G:=b;have R:=hq;have S:=hW;refine wl (st_app0 g5 Z 2 40 Z Z valZc Z zd (ownCut hq.own hi).sl (vs.length+1-i) Z zm zn zn λt F w2 ae ho z=>?_);have hq:=hq.g0 z;have hv:=hv.g0 z;have b:=b.g4 z;dsimp only at ho;let⟨l,a,A,H,B,C⟩:∃l,gu w2 t 129 l/\l.length=F*2/\i+(vs.length+1-i)<=F/\F<=maxLen/\l.take (i*2)=(vs.take i).flatMap ui:=by rcases ho with⟨h,_⟩|⟨b',l,h1,h2,h3,h4,h5,h6⟩;cases h;cases h1;refine⟨l,h2,h3,h4,h5,?_⟩;have:=congrArg (List.take (i*2)) h6;rw[List.take_take,bR zo,vals_take vs i hi,dB N] at this;exact this
 have j:(vs.length+1)*2<=l.length:=by omega
 refine k9 Z (jy Z (wl (Ay g5 Z i (i+(vs.length+1-i)) F 2 Z (.inr ⟨Z,Z⟩) (.inr ⟨Z,Z⟩) (.inl Z) zo H (aA _) ?_)));rw[zz zo,aX];refine gv g5 Z (wl (zw0 g5 Z 2 Z a (Src.slice (m:=1) ⟨Z,.inr ⟨bv,0,Z,hv.kc⟩⟩ OneC.h) zf zf λw3 T J af=>?_));have b:=b.trans J λy K e=>by have e:y=t:=e;have:=G.size;omega
 have hq:=jj.mk (hq.own.ext J λy K e=>by have e:y=t:=e;have:=R.own.lt K;omega) hq.new;have a:=T;refine qi (gh (jl Z 9 [qP 0,qP 1,qP 2,qP 3,qP 4,qP 5,qP 6,qP 7,(8,false)] [] (One t) zk λw4 r ag=>?_));have hq:=hq.g0 r;have a:=a.g0 r;have b:=b.g4 r;have U:Ext (One t) _ w4:=r.no;refine gl g5 4 Z ?_;rw[jt _ zo];refine yx5 g5 Z Z (i+1) (i+(vs.length+1-i)) F 2 Z (.inr ⟨Z,Z⟩) (.inr ⟨Z,Z⟩) (.inl (congrArg some zo)) zo H (aA _) ?_;rw[zz zo,aX];refine gl g5 2 Z (yx5 g5 Z Z i vs.length c 2 Z (.inr ⟨Z,Z⟩) (.inr ⟨Z,Z⟩) (.inl Z) hi f (aA _) (jg Z (zw0 g5 Z 2 Z a (Src.slice (Sl.vdrop hq.sl hi f) OneC.h) zf (by rw[x4];first|omega|(dsimp only;omega)) λw5 V L ah=>⟨U.then L,?_⟩)));have b:=b.trans L λy K e=>by have e:y=t:=e;have:=G.size;omega
 have a:=V;refine jd (j1 (jh (jn Z (j6 (j2 (gp Z Z ?_))))));exact⟨_,F,by rw[g,show i+(vs.length+1-i)=vs.length+1 from by omega],⟨.inr ⟨t,_,Z,a,by rw[x4,x4];exact A,by omega,B,by rw[g,u];exact ins_grow C N hB Z hi j⟩,λy K=>by have e:t=y:=congrArg Addr.block (bW K);have:=S.size;omega⟩,b⟩
 have d:vs.length+1<=c:=by omega
 let⟨s,l,hp,a,A,ai,B,C⟩:=hq.own.opened zo;subst hp;have j:(vs.length+1)*2<=l.length:=by omega
 have M:s≠bv:=hne s Z;have X:=hq.new;have D:Sl w (some ⟨s,i*2,none⟩) (vs.length+1-(i+1)) 2 ((vs.drop i).flatMap ui):=by have:=Sl.vdrop hq.sl hi f;rw[zz zo,aX] at this;rw[show vs.length+1-(i+1)=vs.length-i from by omega];exact this
 refine vo (jy Z ?_);rw[jt _ zo];refine wl (Ay g5 Z 0 (vs.length+1) c 2 Z (.inr ⟨Z,Z⟩) (.inl (congrArg some zo)) (.inr ⟨Z,Z⟩) (aF _) d (aA _) ?_);rw[qa,bH,bH];refine k9 Z (gh (jy Z ?_));rw[jt _ zo];refine wl (Ay g5 Z (i+1) (vs.length+1) c 2 Z (.inr ⟨Z,Z⟩) (.inr ⟨Z,Z⟩) (.inl (congrArg some zo)) zo d (aA _) ?_);rw[zz zo,aX];refine wl (st_extn Z Z Z Z Z Z (v_over w hv a M.symm (λe=>by rw[e] at j;simp at j)) (k9 Z (u5 Z (λo=>?_) (λo=>?_))));refine gh (jl Z 9 [qP 0,qP 1,qP 2,qP 3,qP 4,qP 5,qP 6,qP 7,(8,false)] [] (j5 (some ⟨s,0,none⟩)) zk λw6 n aj=> have hv:=hv.g0 n;have a:=a.g0 n;have D:=D.g0 n;have b:=b.g4 n;have U:Ext (j5 (some ⟨s,0,none⟩)) _ w6:=n.no;gl g5 4 Z ?_);rw[jt _ zo];refine yx5 g5 Z Z (i+1) (vs.length+1) c 2 Z (.inr ⟨Z,Z⟩) (.inr ⟨Z,Z⟩) (.inl (congrArg some zo)) zo d (aA _) ?_;rw[zz zo,aX];refine gl g5 2 Z (yx5 g5 Z Z i (vs.length+1) c 2 Z (.inr ⟨Z,Z⟩) (.inr ⟨Z,Z⟩) (.inl Z) zo d (aA _) ?_);rw[zz zo,aX];refine jg Z (st_cpK g5 Z 2 Z a Z zn D OneC.h (by show(i+1)*2+(vs.length+1-(i+1))*2<=_;omega) λw7 Y E ak=>⟨U.then (E.mono λy _ e=>by have e:y=s:=e;rw[e]),have b:=b.then (E.mono λy _ e=>by have e:y=s:=e;rw[e]);have hv:=hv.g9 E M.symm;have a:=Y;jd (j1 (jh (jy Z (wl (Ay g5 Z i (vs.length+1) c 2 Z (.inr ⟨Z,Z⟩) (.inr ⟨Z,Z⟩) (.inl Z) zo d (aA _) ?_)))))⟩);rw[zz zo,aX];exact gv g5 Z (wl (zw0 g5 Z 2 Z a (Src.slice (m:=1) ⟨Z,.inr ⟨bv,0,Z,hv.kc⟩⟩ OneC.h) zf (by rw[x4];first|omega|(dsimp only;omega)) λw8 I aa am=> have b:=b.then (aa.mono λy _ e=>by have e:y=s:=e;rw[e]);have a:=I;qi (jn Z (j6 (j2 (gp Z Z ⟨_,c,by rw[g],⟨.inr ⟨s,_,Z,a,by rw[x4,x4];exact A,by omega,B,by rw[g,u];exact ins_fit (C.trans (by rw[<-O,aL (by rw[xz6];exact aA _)])) N hB Z hi j⟩,X⟩,b⟩))))));cases o
def Brg (W w : World) : Nat -> Prop := λy => W.heap.size <= y /\ ∀ T L, gu w y T L -> T = 121 \/ T = 126 \/ T = 129
theorem Brg.map {W w:World} {r:Nat} {kv:List UInt8->Value} {okx:List UInt8->Prop} {β:Type} {enc:β->Value} {g:List UInt8->Option β} (hm:As kv okx w r enc g) (hn:W.heap.size<=r):∀y,y<w.heap.size->One r y->Brg W w y:=λy _ e=>by
 have e:y=r:=e
 rw[e];exact⟨hn,λT L h=>absurd Z (hm.ne h)⟩
theorem Brg.one {W w:World} {b T:Nat} {L:List Value} (hb:gu w b T L) (hn:W.heap.size<=b) (hT:T=121\/T=126\/T=129):∀y,y<w.heap.size->One b y->Brg W w y:=λy _ e=>by
 have e:y=b:=e
 rw[e];exact⟨hn,λU M h=>by rw[(h.uniq hb).2];exact hT⟩
theorem Brg.xq {W w:World} {T:Nat} (hT:T=121\/T=126\/T=129):∀y,y<w.heap.size->Bt W w T T y->Brg W w y:=λy _ h=>by
 obtain⟨b,L,a|a⟩:=h<;>exact⟨b,λU M h=>by rw[(h.uniq a).2];exact hT⟩
theorem _root_.Go.Vc.Ext.yw2 {W w w1 w2:World} (h:Ext (Brg W w) w w1) (k:Ext (Brg W w1) w1 w2):Ext (Brg W w) w w2:=
 h.trans k λx d a=>cV λb=>b ⟨a.1,λT L c=>a.2 T L (by have e:=h.same x d b;rw[gu] at c|-;rw[e];exact c)⟩
theorem _root_.Go.Vc.gu.brg {W w w':World} {b V:Nat} {L:List Value} (hb:gu w b V L) (hE:Ext (Brg W w) w w') (h1:¬(V=121\/V=126\/V=129)):gu w' b V L:=hb.ext hE λh=>h1 (h.2 _ _ hb)
theorem _root_.Go.Vc.Own.brg {W w w':World} {V:Nat} {p:Option Addr} {n c sz:Nat} {xs:List Value} (h:Own w p n c V sz xs) (hE:Ext (Brg W w) w w') (h1:¬(V=121\/V=126\/V=129)):Own w' p n c V sz xs:=
 h.ext hE λy a k=>by
  let⟨l,b⟩:=h.Cm a
  exact h1 (k.2 _ _ b)
def zx2 (row : List jr) (o : jr) : Bool × Int × List jr := if xj o ∈ u1 row then (true, 0, row) else if ∀ x ∈ k8 o, x ∈ u1 row then (false, 0, row ++ [o]) else (false, 4, row)
theorem place_some {l:List IdB} {x:IdB}:(placeOf l x).isSome=decide (x∈l):=by
 unfold placeOf;split;rename_i h;simp[h];rename_i h;simp[h]
theorem links_in {o:jr} (h:vn o):∀z∈k8 o,uc z:=λz a=>by
 unfold k8 at a
 split at a
 ·obtain⟨x,b,rfl⟩:=bL.1 a
  exact(h.leaves x b).2
 split at a
 ·rcases dK.1 a with rfl|a
  ·exact h.tree
  exact h.parents z a
 cases a
theorem one_held {h:jk} (hl:(ut h).length=105):yk (Cl 1 (g6 B1++js uv noP)) [(0*(0+105),0+105,.agg (ut h).toArray)]=ut h:=by
 simp only[yk,j4];rw[cX,Ba (by rw[ur,hl,al,gb,gi ky];rfl)]
theorem links_short {o:jr} (h:A6 o):(k8 o).length<2000000000:=by
 have a:=h.leaves;have b:=h.parents;unfold k8;split;rw[aB];omega;split;rw[aR];omega;decide
theorem held_ids {G:Nat->Prop} {u:World} {l:List jk} (h:∀x∈l,Av u G x):l.map jk.id=u1 (l.map jk.o):=by
 rw[u1,List.map_map];exact List.map_congr_left λx a=>(h x a).id
theorem yx8.g0 {W u u':World} {G:Nat->Prop} {h:ua} (k:yx8 W u G h) (hE:Ext No u u'):yx8 W u' G h:=
 ⟨k.row.g0 hE,k.rin,k.map.imp λr e=>⟨e.1,e.2.1,e.2.2.g0 hE⟩,k.vals.g0 hE,λx a=>(k.o x a).ext hE λ_ _=>id,λx a=>(k.v x a).ext hE λ_ _=>id,k.few,k.fev,k.new⟩
theorem puts_calls (w:World) {W:World} {hb:Nat} {G:Nat->Prop} {h:ua} (hbk:gu w hb 121 h.c) (hi:yx8 W w G h) (hW:Ext No W w) (hfew:h.hs.length+1<1000000) {x:jr} {a:vh} (ho:ObjAt' W (x,a)) (hok:xf x) (hr:Rt W) (hbn:W.heap.size<=hb):
  ge prog 141 [.pointer (some ⟨hb,0,none⟩),.agg (js x a).toArray] w λv w'=>∃h':ua,v= .tuple #[.bool (zx2 h.s.row x).1,.int .i64 (zx2 h.s.row x).2.1]/\gu w' hb 121 h'.c/\yx8 W w' G h'/\h'.s.row=(zx2 h.s.row x).2.2/\h'.vs=h.vs/\Ext (Brg W w) w w':=by
 obtain⟨rp,rc,hs,m,vp,vc,vs⟩:=h;obtain⟨r,am,ae,J⟩:=hi.map;have am:m=some r:=am;subst am;have hbk:gu w hb 121 [.slice rp hs.length rc,.map (some r),.slice vp vs.length vc]:=hbk;have a0:hb≠r:=λe=>J.ne hbk e.symm;have aj:hs.map jk.id=u1 (hs.map jk.o):=held_ids hi.o;have J:MapB w r natV (placeOf (hs.map jk.id)):=J;rw[aj] at J;have C:=ho.i;have T:=ho.s;have af:=ho.l;dsimp only at C T af;have hfew:hs.length+1<1000000:=hfew;have bc:ua.s ⟨rp,rc,hs,some r,vp,vc,vs⟩=⟨hs.map jk.o,vs.map Prod.fst⟩:=rfl;rw[bc];have bd:idB x=xj x:=aM hok;have bf:linksB x=k8 x:=aM hok;have b7:=links_short T;have an:=hW.size;refine gt func141 ?_;have f:=Ext.refl No w;refine ki (gn Z λb3 w1 b9 d a1=>?_);have hW:=hW.g4 a1;have f:=f.g4 a1;have d:gu w1 b3 37 (js x a):=d;refine k9 Z (ki (j8 d Z (gi C) (g7 call129 Z (idObj_calls w1 C (af.g0 hW) T (hr.ext hW id)) λv2 w2 bg=>?_)));obtain⟨rfl,ap⟩:=bg;have d:=d.g0 ap;have hW:=hW.g4 ap;have f:=f.g4 ap;rw[bd,show objE x=0 from aM hok];refine gv g5 Z (gn Z λb6 w3 a3 g aq=>?_);have ar:=gw d.lt a3;have a4:=Nat.le_trans f.size a3;have d:=d.g0 aq;have hW:=hW.g4 aq;have f:=f.g4 aq;refine wl (gz (l':=g6 (xj x)) g5 g Z Z (by rw[gb,qm]) (by rw[gb,qm];rfl) OneC.h λw4 g au ca=>?_);have d:=d.g9 au ar;have hW:=hW.g8 au (Nat.le_trans an a4);have f:=f.g8 au a4;refine k9 Z (gh (jn Z (qz Z (vo (gh (gh ?_))))));refine jl Z 10 [qP 0,qP 1,qP 2,qP 3,qP 4,qP 5,qP 6,qP 7,qP 8,qP 9] [] (No) zk λw5 ag cb=>?_;have U:=g;have L:=f;have d:=d.g0 ag;have g:=g.g0 ag;have hW:=hW.g4 ag;have f:=f.g4 ag;refine gl g5 3 Z (gy g5 Z Z (λw' j=>((hbk.g0 (L.g4 j)).cell Z)) ?_);refine kw g5 Z Z (λw' j=>(U.g0 j).kc) (by rw[gb,qm]) ?_;refine wd_lu g5 Z Z idK (qm _) Z (J.g0 f) (λw' j=>J.g0 (L.g4 j)) ?_;simp only[cH];rw[place_some];refine gl g5 4 Z (jd (j1 (jh (jn Z (jc Z (λhc=>?_) (λhc=>?_))))));have hp:zx2 (hs.map jk.o) x=(true,0,hs.map jk.o):=aM hc;refine jn Z (j6 (j2 (ko [_,_] ⟨Z,Z,trivial⟩ ?_)));exact⟨⟨rp,rc,hs,some r,vp,vc,vs⟩,by rw[hp];rfl,hbk.g0 f,hi.g0 f,by rw[hp];rfl,Z,f.no⟩
 have av:¬xj x∈u1 (hs.map jk.o):=hc;refine vo (gh (ki (j8 d Z (gi C) (g7 call55 Z (links_calls w5 C (af.g0 hW) T) λv6 w6 bh=>?_))));obtain⟨q,k,rfl,hq,cc,ah⟩:=bh;have d:=d.g0 ah;have g:=g.g0 ah;have hW:=hW.g4 ah;have f:=f.g4 ah;rw[bf] at hq|-;obtain⟨w7,a5⟩:∃w7,w7=w6:=⟨_,Z⟩
 rw[<-a5] at hq;have I:Ext No w7 w6:=a5▸Ext.refl No _;refine k9 Z (j0 ?_);refine ja (α:=Nat) [0,3,6,29,30] Z (λz=>[(31,.int .i64 (z:Int))]) (λz u=>(z<=(k8 x).length/\(∀y∈(k8 x).take z,y∈u1 (hs.map jk.o))/\Ext No w7 u/\Ext No W u)/\gu u b3 37 (js x a)/\gu u b6 30 (g6 (xj x))/\Ext No w u) (λz u=>(k8 x).length-z) (0) Z ⟨⟨aF _,λ_ h=>(by cases h),I,hW⟩,d,g,f⟩ ?_;rintro i w7 ⟨⟨cd,aa,I,hW⟩,d,g,f⟩;refine uz Z (jc Z (λhc=>?_) (λhc=>?_));have V:i<(k8 x).length:=by omega
 have P:uc (k8 x)[i]:=links_in C _ (aC V);obtain⟨qb,qo,hp,bi⟩:=hq.sl.km (λy n=>(links_in C y n).len) zo;subst hp;refine yz (ki (jo Z 32 Z i Z V (qo+i*32) Z (je Z ((bi i V).g0 I) P.len ?_)));have bj:=I;refine gn Z λb8 w8 ai aw ab=>?_;have ax:=gw d.lt ai;have ay:=gw g.lt ai;have a6:=Nat.le_trans f.size ai;have d:=d.g0 ab;have g:=g.g0 ab;have hW:=hW.g4 ab;have I:=I.g4 ab;have f:=f.g4 ab;have bk:=Nat.le_trans bj.size ai;refine wl (gz (l':=g6 (k8 x)[i]) g5 aw Z Z P.len (by rw[P.len];rfl) OneC.h λw9 aw ac ce=>?_);have d:=d.g9 ac ax;have g:=g.g9 ac ay;have hW:=hW.g8 ac (Nat.le_trans an a6);have I:=I.g8 ac bk;have f:=f.g8 ac a6;refine qi (gh (jl Z 11 [qP 0,qP 1,qP 2,qP 3,qP 4,qP 5,qP 6,qP 7,qP 8,qP 9,qP 10] [] (No) zk λcf Q bx=>?_));have bm:=aw;have L:=f;have d:=d.g0 Q;have g:=g.g0 Q;have hW:=hW.g4 Q;have I:=I.g4 Q;have f:=f.g4 Q;refine gl g5 3 Z (gy g5 Z Z (λw' j=>((hbk.g0 (L.g4 j)).cell Z)) ?_);refine kw g5 Z Z (λw' j=>(bm.g0 j).kc) P.len ?_;refine wd_lu g5 Z Z idK P Z (J.g0 f) (λw' j=>J.g0 (L.g4 j)) ?_;simp only[cH];rw[place_some];refine gl g5 5 Z (jd (j1 (jh (jn Z (u5 Z (λhc=>?_) (λhc=>?_))))));have bn:(k8 x)[i]∉u1 (hs.map jk.o):=by simpa using hc
 have hp:zx2 (hs.map jk.o) x=(false,4,hs.map jk.o):=by rw[zx2,aJ av,aJ λk=>bn (k _ (aC V))]
 refine jn Z (j6 (gGk (ko [_,_] ⟨Z,Z,trivial⟩ ?_)));exact⟨⟨rp,rc,hs,some r,vp,vc,vs⟩,by rw[hp];rfl,hbk.g0 f,hi.g0 f,by rw[hp];rfl,Z,f.no⟩
 have a7:(k8 x)[i]∈u1 (hs.map jk.o):=by simpa using hc
 refine jw (yt Z ?_);rw[jt _ zo];refine ga ?_;exact j9 (i+1) Z ⟨⟨V,λy n=>by rw[List.take_succ_eq_append_getElem V] at n;rcases aV.1 n with n|n;exact aa y n;rw[aE.1 n];exact a7,I,hW⟩,d,g,f⟩ zf;have h0:i=(k8 x).length:=by omega
 subst h0;rw[bC] at aa;have hp:zx2 (hs.map jk.o) x=(false,0,hs.map jk.o++[x]):=by rw[zx2,aJ av,aM aa]
 refine zu (gh ?_);refine jl Z 11 [qP 0,qP 1,qP 2,qP 3,qP 4,qP 5,qP 6,qP 7,qP 8,qP 9,(10,false)] [] (One r) zk λbp R bz=>?_;have U:=g;have L:=f;have d:=d.g0 R;have g:=g.g0 R;have hW:=hW.g4 R;have f:=f.g4 R;have hC:Ext (One r) _ bp:=R.no;refine gl g5 3 Z (gy g5 Z Z (λw' j=>(((hbk.g0 L).ext (show Ext (One r) _ w' from j) a0).cell Z)) ?_);refine kw g5 Z Z (λw' j=>((U.ext (show Ext (One r) _ w' from j) λe=>(J.g0 L).ne U e.symm).kc)) (by rw[gb,qm]) ?_;refine gl g5 3 Z (gy g5 Z Z (λw' j=>(((hbk.g0 L).ext (show Ext (One r) _ w' from j) a0).cell Z)) ?_);refine gl g5 1 Z ?_;have X:=f;have M:=J.g0 f;refine jg Z (st_mu g5 Z idK (qm _) Z M (b:=hs.length) Z λad bq B b0=>⟨hC.then B,?_⟩);have d:=d.yc M B;have g:=g.yc M B;have hbk:=(hbk.g0 X).yc M B;have f:Ext (Brg W w) w ad:=(X.no (S:=Brg W w)).yw2 (B.mono (Brg.map M ae));have hW:=hW.newer B λy e=>by have e:y=r:=e;rw[e];exact ae
 have J:MapB ad r natV (placeOf (u1 (hs.map jk.o++[x]))):=by
  rw[idsOf_snoc,<-placeOf_step av];have e:(u1 (hs.map jk.o)).length=hs.length:=by rw[u1,aB,aB]
  rw[e];exact bq
 have D:=(hi.vals.g0 X).yc M B;have N:=λy n=>((hi.o y n).ext X λ_ _=>id).yc M B;have O:=λy n=>((hi.v y n).ext X λ_ _=>id).yc M B;have F:zx8 W ad rp hs.length rc 126 105 (hs.flatMap ut):=(hi.row.g0 X).yc M B ae;refine jd (j1 (jh (gh ?_)));refine jl Z 13 [qP 0,qP 1,qP 2,qP 3,qP 4,qP 5,qP 6,(7,false),qP 8,(9,false),(10,false),qP 11,qP 12] [13] (Bt W ad 126 126) zk λa8 E b1=>?_;have br:=d;have U:=g;have a9:=hbk;have hW:=hW.g4 E;have hbk:=hbk.g0 E;have J:=J.g0 E;have D:=D.g0 E;have N:=λy n=>(N y n).ext E λ_ _=>id;have O:=λy n=>(O y n).ext E λ_ _=>id;have F:=F.g0 E;have f:=f.g4 E;have hC:Ext (Bt W ad 126 126) _ a8:=E.no;refine gl g5 4 Z (gy g5 Z Z (λw' j=>(a9.xq (show Ext (Bt W _ 126 126) _ w' from j) zd zd).cell Z) ?_);refine kw g5 Z Z (λw' j=>(U.xq (show Ext (Bt W _ 126 126) _ w' from j) zd zd).kc) (by rw[gb,qm]) ?_;refine kw g5 Z Z (λw' j=>(br.xq (show Ext (Bt W _ 126 126) _ w' from j) zd zd).kc) (gi C) ?_;have bs:=f;refine jg Z (gx call52 Z (sown_calls a8 C (af.g0 hW) T) λcg ch ak=>⟨(by obtain⟨Y,rfl,K,p⟩:=ak;exact hC.g4 p),?_⟩);obtain⟨Y,rfl,K,p⟩:=ak;have hW:=hW.g4 p;have hbk:=hbk.g0 p;have J:=J.g0 p;have D:=D.g0 p;have N:=λy n=>(N y n).ext p λ_ _=>id;have O:=λy n=>(O y n).ext p λ_ _=>id;have F:=F.g0 p;have f:=f.g4 p;have hC:=hC.g4 p;have K:=K.older (W0:=w) bs.size;have K:=K.older an;refine zv7 g5 Z Z ⟨⟨by rw[j4,gb,qm],by decide⟩,⟨by rw[j4];exact gi C,by decide⟩,trivial⟩ (l':=ut ⟨xj x,x,Y⟩) (by rw[yj2];exact held_build (qm _) C) ?_;refine jg Z (kz g5 Z 105 Z yj2 (by rw[al,gb,gi ky];rfl) zd zd ⟨⟨by rw[j4];exact yx (h:=⟨xj x,x,Y⟩) (qm _) C,by decide⟩,trivial⟩ (l':=ut ⟨xj x,x,Y⟩) (one_held (h:=⟨xj x,x,Y⟩) (yx (qm _) C)) λbt ci b2 ba t b4=>⟨hC.g4 t,?_⟩);have hW:=hW.g4 t;have hbk:=hbk.g0 t;have J:=J.g0 t;have D:=D.g0 t;have N:=λy n=>(N y n).ext t λ_ _=>id;have O:=λy n=>(O y n).ext t λ_ _=>id;have F:=F.g0 t;have K:=K.g0 t;have f:=f.g4 t;have hC:=hC.g4 t;refine jg Z (st_appT g5 Z 105 224 Z Z Z zd F (Src.slice (m:=1) ⟨yx (h:=⟨xj x,x,Y⟩) (qm _) C,.inr ⟨bt,0,Z,ba.kc⟩⟩ OneC.h) zm zd zn (n':=(hs++[(⟨xj x,x,Y⟩:jk)]).length) (ys:=(hs++[(⟨xj x,x,Y⟩:jk)]).flatMap ut) zh (by rw[aQ,bB]) hW.size λq3 k3 bu az A=>⟨hC.qc A,?_⟩);dsimp only at az A;have f:=f.yw2 (A.mono (Brg.xq zd));have hbk:=hbk.xq A zd zd;have J:=J.xq A;have D:=D.xq A zd zd;have N:=λy n=>(N y n).xq A zd zd zd;have O:=λy n=>(O y n).xq A zd;have K:qs W bu x Y:=⟨K.ol.xq A zd zd,K.op.xq A zd zd,K.or.xq A zd zd,K.nl,K.np,K.nr⟩
 refine gl g5 2 Z (jd (wb Z (Aa g5 hbk Z Z Z λbv bb H b5=>?_)));have f:=f.yw2 (H.mono (Brg.one hbk hbn zd))
 have bw:yx8 W bv G ⟨q3,k3,hs++[⟨xj x,x,Y⟩],some r,vp,vc,vs⟩:=⟨.inr (az.g9 H hbk zd),xj6 az hi.new,⟨r,Z,ae,by
    have e:(hs++[(⟨xj x,x,Y⟩:jk)]).map jk.id=u1 (hs.map jk.o++[x]):=by rw[bE,aj,idsOf_snoc];rfl
    rw[e];exact J.g9 H hbk⟩,D.g9 H hbk zd,λy n=>by
    rcases aV.1 n with n|n
    exact(N y n).g9 H hbk zd zd zd
    rw[aE.1 n]
    exact(⟨Z,⟨C,T⟩,K.ol,K.op,K.or,λy n=>hi.new y (n.elim (K.nl y) λe=>e.elim (K.np y) (K.nr y))⟩:Av _ G ⟨xj x,x,Y⟩).g9 H hbk zd zd zd,λy n=>(O y n).g9 H hbk zd,by rw[al];exact hfew,hi.fev,hi.new⟩
 refine j1 (jh (jn Z (j6 (ko [_,_] ⟨Z,Z,trivial⟩ ?_))));exact⟨⟨q3,k3,hs++[(⟨xj x,x,Y⟩:jk)],some r,vp,vc,vs⟩,by rw[hp];rfl,bb,bw,by rw[hp];show List.map jk.o (hs++_)=_;rw[bE];rfl,Z,f⟩
end Go.Proofs.YtpdiphfjmepijaaGreatDoor
