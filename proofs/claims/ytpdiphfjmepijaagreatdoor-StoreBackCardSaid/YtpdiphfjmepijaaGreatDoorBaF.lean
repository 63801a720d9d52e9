/-
  Walks and laws towards: a batch is decoded from its bytes, and less of them is too short (StoreBack)
-/
import Derived.Test.YtpdiphfjmepijaaGreatDoorBaE
namespace Go.Proofs.YtpdiphfjmepijaaGreatDoor
open Go.Proofs.Tryz
open Go.Vc
def AllA (ps:List Bytes) (k:Nat) (vs:Array Value) (X:Nat→Prop) (W:World):Prop:=∃q c,vs= #[.int .i64 ((k:Int)+1),.slice q (ps.getD k []).length c]∧Own W q (ps.getD k []).length c 5 1 (ge (ps.getD k []))∧X=jd q
theorem AllA.size {ps:List Bytes} (k:Nat) (vs:Array Value) (X:Nat→Prop) (W:World) (h:AllA ps k vs X W):vs.size=2:=by
 obtain⟨q,c,rfl,_⟩:=h
 rfl
theorem all1_walk (w:World) {l b c:Nat} {q:Option Addr} {ps:List Bytes} {rows:List Value} {H F:Nat→Prop} {J Jx:Nat→(Nat→Prop)→World→Prop} (hCo:ConsV prog l w.heap.size ps.length (AllA ps) J Jx) (hb:j0 w b 80 [.slice q ps.length c]) (hs:Sl w q ps.length 1 rows) (hps:qj w H ps rows)
  (hq:∀y off,q=some ⟨y,off,none⟩→ps.length≠0→y<w.heap.size∧¬F y) (hH:∀y,H y→y<w.heap.size∧¬F y) (hl:ps.length<1000000000) (hsh:∀x∈ps,x.length<1000000000) (h0:J 0 F w):
  gn prog 139 [.func (.yield l) #[] #[],.pointer (some ⟨b,0,none⟩)] w fun _ w'=>ItQ w F ps.length J Jx w':=by
 refine gx func139 ?_
 have hX:=Ext.refl F w
 have hFlt:=hCo.lt h0
 refine qa (gy rfl (hb.cell rfl) (jz rfl (gr ?_)))
 refine jm (α:=Nat×(Nat→Prop)) [0,5,6] rfl (fun z=>[(7,.int .i64 (z.1:Int))]) (fun z u=>(z.1≤ps.length∧J z.1 z.2 u∧(∀x,z.2 x→F x∨w.heap.size≤x)∧Sl u q ps.length 1 rows∧qj u H ps rows)∧Ext F w u) (fun z u=>ps.length-z.1) (0,F) rfl ⟨⟨Nat.zero_le _,h0,fun x hx=> .inl hx,hs,hps⟩,hX⟩ ?_
 rintro⟨k,G⟩ w1 ⟨⟨hk,hJ,hG,hs,hps⟩,hX⟩
 try dsimp only
 dsimp only at hk hJ hG
 refine je rfl (gk (jl rfl (fun hc=> ?_) (fun hc=> ?_)))
 ·have hkn:k<ps.length:=by omega
  obtain⟨pk,ck,hrk,hck,hsk,hpk⟩:=hps.get hkn
  have hbk:ps.getD k []=ps[k]:=by simp[hkn]
  rw[←hbk] at hrk hck hsk
  have hbl:(ps.getD k []).length<1000000000:=by rw[hbk];exact hsh _ (List.getElem_mem hkn)
  obtain⟨qb,qo,rfl,hqs⟩:∃qb qo,q=some ⟨qb,qo,none⟩∧Seg w1 qb qo rows:=by
   rcases hs.2 with h0|⟨b',off,h1,h2⟩
   ·omega
   exact⟨b',off,h1,h2⟩
  obtain⟨hqw,hqF⟩:=hq qb qo rfl zo
  refine xz (gr (qc rfl (ki rfl 1 rfl k rfl hkn (qo+k*1) rfl (gy rfl (by rw[Nat.mul_one];exact hqs k _ hrk) (jz rfl (gk ?_))))))
  refine c_regionI (wlw_p rfl gc rfl ?_)
  rw[kg _ zo]
  have hGlt:=hCo.lt hJ
  have hXs:=hX.size
  refine wlw rfl (j3 call35 rfl (xc w1 hsk hbl) fun v2 w2 hr2=> ?_)
  obtain⟨q2,k2,rfl,ho2,hn2,hE2⟩:=hr2
  have hJ:=hCo.st hJ hE2 fun _ e=>e.elim
  have hs:=hs.ga hE2
  have hps:=hps.ext hE2 fun _ _ _=>id
  have hX:=hX.gb hE2
  refine wli_yield rfl rfl rfl rfl rfl rfl (hCo.round hJ hkn _ (jd q2) ⟨q2,k2,rfl,ho2,rfl⟩ (fun x hx=>⟨by have:=hn2 x hx;omega,fun e=>by have:=hn2 x hx;have:=hGlt x e;omega⟩)) fun y w3 hy=> ?_
  obtain⟨G2,hEy,hGy,hyt,hyf⟩:=hy
  have hX0:=hX.size
  have hX:=hX.trans hEy fun x hx e=>by rcases e with e|e;exact(hG x e).resolve_right zo;have:=hn2 x e;omega
  have hG2:∀x,G2 x→F x∨w.heap.size≤x:=fun x hx=>by rcases hGy x hx with h|h|h;exact hG x h;exact .inr (by have:=hn2 x h;omega);exact .inr zo
  have hs:=hs.ext hEy fun b off e h=>by cases e;rcases h with h|h;exact(hG _ h).elim hqF zo;have:=hn2 _ h;omega
  have hps:=hps.ext hEy fun y hy _ h=>by have h3:=hH y hy;rcases h with h|h;exact(hG _ h).elim h3.2 zo;have:=hn2 _ h;omega
  refine wlw_p rfl gc rfl (zx (j1 (vj rfl (fun hc=> ?_) (fun hc=> ?_))))
  ·have hJx:=hyf (by simpa using hc)
   refine gq (ji (gp (gp (ji (f_ret0 rfl ?_)))))
   exact⟨G2,hX,hG2,.inr ⟨k,hkn,hJx⟩⟩
  have hJ:=hyt (by simpa using hc)
  refine j7 (Bo rfl ?_)
  rw[kg _ zo]
  refine gm ?_
  exact jn (k+1,G2) rfl ⟨⟨hkn,hJ,hG2,hs,hps⟩,hX⟩ zf
 have hkn:k=ps.length:=by omega
 subst hkn
 refine yo (qy (qy (vf (y9 rfl ?_))))
 exact⟨G,hX,hG,.inl hJ⟩
theorem all1_iter (w:World) {b c:Nat} {q:Option Addr} {ps:List Bytes} {rows:List Value} {H:Nat→Prop} (hb:j0 w b 80 [.slice q ps.length c]) (hs:Sl w q ps.length 1 rows) (hps:qj w H ps rows)
  (hq:∀y off,q=some ⟨y,off,none⟩→ps.length≠0→y<w.heap.size) (hH:∀y,H y→y<w.heap.size) (hl:ps.length<1000000000) (hsh:∀x∈ps,x.length<1000000000):
  IterV prog 139 [.pointer (some ⟨b,0,none⟩)] ps.length (AllA ps) (fun y=>(∃off,q=some ⟨y,off,none⟩∧ps.length≠0)∨H y) w:=
 fun _ _ _ _ hC h0 hown=>all1_walk w hC hb hs hps (fun y off e h=>⟨hq y off e h,hown y (.inl ⟨off,e,h⟩)⟩) (fun y hy=>⟨hH y hy,hown y (.inr hy)⟩) hl hsh h0
theorem all_calls (w:World) {x d:Nat} {H:Nat→Prop} {W:Wl} (h:xi w x d H W) (hne:0<W.pieces.length) (hn:W.pieces.length<1000000000):
  gn prog 62 [.pointer (some ⟨x,0,none⟩)] w fun v w'=>∃b q c rows,v= .func (.func 139) #[] #[.pointer (some ⟨b,0,none⟩)]∧j0 w' b 80 [.slice q (W.pieces.drop 1).length c]∧Sl w' q (W.pieces.drop 1).length 1 rows∧qj w' H (W.pieces.drop 1) rows∧w.heap.size≤b∧(∀y off,q=some ⟨y,off,none⟩→(W.pieces.drop 1).length≠0→w.heap.size≤y∧y<w'.heap.size)∧Ext No w w':=by
 obtain⟨⟨q,c,rows,hbx,hrw,hps,hqH⟩,hxH,hlt⟩:=h
 have hcap:=hrw.cap
 have hxl:=hbx.lt
 have hone:=hps.one
 refine gx func62 ?_
 have hX:=Ext.refl No w
 refine je rfl (qa (gw rfl fun b3 w1 hn3 hb3 hE1=> ?_))
 have fr3:=Nat.le_trans hX.size hn3
 have hX:=hX.gb hE1
 have hb3:j0 w1 b3 80 ([.slice none 0 0]):=hb3
 refine qr ?_
 refine jv (α:=Option Addr×Nat×List Value) [3] rfl (fun z=>[]) (fun z u=>(Sl u z.1 (W.pieces.drop 1).length 1 z.2.2∧qj u H (W.pieces.drop 1) z.2.2∧∀y off,z.1=some ⟨y,off,none⟩→(W.pieces.drop 1).length≠0→w.heap.size≤y∧y<u.heap.size)∧j0 u b3 80 ([.slice z.1 (W.pieces.drop 1).length z.2.1])∧Ext No w u) ?_ ?_
 ·refine gk ?_
  refine j4 (jz rfl (C3 rfl (yv rfl (gy rfl ((hbx.ga hX).cell rfl) ?_))))
  refine wl (A5 gc rfl 1 W.pieces.length c 1 rfl (.inr ⟨rfl,rfl⟩) (.inr ⟨rfl,rfl⟩) (.inl rfl) hne hcap (Nat.le_refl _) ?_)
  dsimp only
  have hsd:=(hrw.sl.ga hX).slice 1 W.pieces.length c hne hcap (Nat.le_refl _)
  rw[Nat.one_mul,Nat.mul_one,List.take_of_length_le (by rw[List.length_drop,hps.1];exact Nat.le_refl _)] at hsd
  have l3:=hb3.lt
  refine gi call138 rfl (cloneP_calls w1 hsd zo (fun v hv=>hone v (List.mem_of_mem_drop hv))) fun v2 w2 hr2=> ?_
  obtain⟨q2,c2,rfl,ho2,hn2,hE2⟩:=hr2
  have hb3:=hb3.ga hE2
  have hX:=hX.gb hE2
  refine ky hb3 rfl rfl rfl fun w3 hb3 hE3 hs3=> ?_
  have hX:=hX.gh hE3 fr3
  refine gm ?_
  have hln:W.pieces.length-1=(W.pieces.drop 1).length:=by simp
  rw[hln] at hb3
  exact gz (q2,c2,rows.drop 1) rfl ⟨⟨by rw[List.length_drop];exact(ho2.ext hE3 (fun y hy e=>by have e:y=b3:=e;have:=hn2 y hy;omega)).sl,((hps.ext hX fun _ _ _=>id).drop 1),fun y off e _=>by rcases ho2 with⟨h1,_⟩|⟨b',l,h1,h2,_⟩;rw[h1] at e;cases e;rw[h1] at e;cases e;exact⟨by have:=hn2 _ h1;have:=hE1.size;omega,Nat.lt_of_lt_of_le h2.lt hE3.size⟩⟩,hb3,hX⟩
 rintro⟨q2,c2,rows2⟩ w4 ⟨⟨hs2,hps2,hy2⟩,hb3,hX⟩
 refine je rfl (gq (gu rfl rfl ?_))
 exact⟨b3,q2,c2,rows2,rfl,hb3,hs2,hps2,fr3,hy2,hX⟩
def Wl.fresh (D:kj) (a:Nat):Wl:=⟨D,a,0,[[]],1,false⟩
def LogOf (w0 w':World) (d:Nat) (F':Nat→Prop) (xo:Option Addr) (W:Wl):Prop:=∃x H,xo=some ⟨x,0,none⟩∧xi w' x d H W∧∀y,H y→w0.heap.size≤y∧¬F' y
theorem nil_piece (u:World) (H:Nat→Prop):y6 u H (.slice none 0 0) []:=⟨none,0,rfl,Nat.le_refl _,Sl.nil _ _ _,fun _ _ e=>by cases e⟩
theorem format_calls (w:World) {d m:Nat} {F:Nat→Prop} {D:kj} (h:At w d F D) (hok:D.Ok m) (hm:m+7000<1000000000) (area:Int) (har: -9223372036854775808≤area∧area<9223372036854775808) (hr:Rt w) (hF0:¬F 0):
  gn prog 23 [.pointer (some ⟨d,0,none⟩),.int .i64 area] w fun v w'=>∃(xo:Option Addr) (F':Nat→Prop),v= .tuple #[.pointer xo,.int .i64 (ve D area).2]∧At w' d F' (ve D area).1∧Ext F w w'∧(∀y,F' y→F y∨w.heap.size≤y)∧((ve D area).2≠0→xo=none)∧((ve D area).2=0→LogOf w w' d F' xo (Wl.fresh (ve D area).1 area.toNat)):=by
 refine gx func23 ?_
 have g:=Ext.refl F w
 have M:=h.lt
 have af:=hr.lt
 refine je rfl (gk (je rfl (ur rfl (j7 (j1 (qc rfl ?_))))))
 refine qg rfl ⟨⟨rfl,by decide⟩,⟨rfl,by decide⟩,trivial⟩ (l':=[.pointer (some ⟨d,0,none⟩),.int .i64 area]) rfl (gw rfl fun b6 w1 a3 f A=> ?_)
 have a4:=Nat.le_trans g.size a3
 have h:=h.ga A
 have hr:=Rt.ext hr A id
 have g:=g.gb A
 have r:¬F b6:=fun e=>by have:=M _ e;omega
 refine wl (j8 (l':=[.pointer (some ⟨d,0,none⟩),.int .i64 area]) gc f rfl rfl rfl rfl OneC.h fun w2 f N ag=> ?_)
 have h:=h.ext N fun x hx e=>by have e:x=b6:=e;subst e;exact r hx
 have hr:=Rt.ext hr N fun e=>by have e:0=b6:=e;omega
 have g:=g.gh N a4
 refine qr (gk (qa (jh f rfl rfl (gi call70 rfl (fits_calls w2 h area har) fun v3 w3 a5=> ?_))))
 obtain⟨rfl,I⟩:=a5
 have f:=f.ga I
 have h:=h.ga I
 have hr:=Rt.ext hr I id
 have g:=g.gb I
 refine jz rfl (vj rfl (fun s=> ?_) (fun s=> ?_))
 ·have j:¬(0≤area∧Bf area.toNat D.secs.length):=fun h=>by rw[decide_eq_true h] at s;cases s
  have he:=xz5 j
  rw[he]
  refine je rfl (gq (gp (qz [_,_] ⟨rfl,rfl,trivial⟩ ?_)))
  exact⟨none,F,rfl,h,g,fun y B=> .inl B,fun _=>rfl,fun e=>absurd (show(2:Int)=0 from e) zd⟩
 have j:0≤area∧Bf area.toNat D.secs.length:=by simpa using s
 obtain⟨a,rfl⟩:∃a:Nat,area=(a:Int):=⟨area.toNat,by omega⟩
 rw[Int.toNat_natCast] at j
 have j:=j.2
 have ah:=j.1
 have ai:=j.2.1
 have hW:=formatW_yes j
 rw[Int.toNat_natCast]
 obtain⟨y,B⟩:∃y,y=Bd D 0 (List.replicate (2+2*a) zeros):=⟨_,rfl⟩
 have S:=zv0 (List.replicate (2+2*a) zeros) 0 hok (zeros_rep _)
 rw[List.length_replicate,←B] at S
 rw[←B] at hW
 refine xz (js rfl 7 [qP 0,qP 1,qP 2,qP 3,(4,false),(5,false),qP 6] [] (F) zk fun w4 C aj=> ?_)
 have a6:=f
 have f:=f.ga C
 have h:=h.ga C
 have hr:=Rt.ext hr C id
 have g:=g.gb C
 have hC:Ext (F) _ w4:=C.no
 refine qf gc rfl rfl (fun w' a7=>((a6.ext a7 r).ko)) rfl ?_
 refine gv gc 3 rfl ?_
 rw[show IntKind.i64.wrap (2+IntKind.i64.wrap (2*(a:Int)))=((2+2*a:Nat):Int) from by rw[kg (2*(a:Int)) zo,kg _ zo];omega]
 have a8:=g
 refine jg rfl (j3 call72 rfl (blank_calls w4 (2+2*a)) fun v5 w5 T=>⟨(by obtain⟨bb,rfl,a9,O,l⟩:=T;exact hC.gb l),?_⟩)
 obtain⟨bb,rfl,a9,O,l⟩:=T
 have f:=f.ga l
 have h:=h.ga l
 have hr:=Rt.ext hr l id
 have g:=g.gb l
 have hC:=hC.gb l
 have aa:=g.size
 have l6:=f.lt
 have lr:=hr.lt
 refine jg rfl (j3 call71 rfl (yw5 w5 (n:=a) (L:=List.replicate (2+2*a) zeros) (own:=One bb) h hok (by rw[List.length_replicate];omega) 0 zd (zeros_rep _) call145 (fun w1 A=>by rw[List.length_replicate];exact blank1_iter w1 (O.ga A) zo) (fun x e=>by have e:x=bb:=e;subst e;exact⟨O.lt,fun e=>by have:=M _ e;have:=a8.size;omega⟩)) fun v6 w6 U=>⟨(by obtain⟨rfl,F2,P,E,k⟩:=U;exact hC.then E),?_⟩)
 obtain⟨rfl,F2,P,E,k⟩:=U
 have f:=f.ext E r
 have g:=g.then E
 have r:=zz r l6 k
 have hr:=Rt.ext hr E hF0
 have hF0:=zz hF0 lr k
 rw[←B] at P⊢
 have k:=yw (fun x=> .inl) aa k
 refine gv gc 1 rfl (jj (ja (j1 ?_)))
 refine jv (α:=(Nat→Prop)×kj×Int) [6] rfl (fun z=>[(7,.int .i64 z.2.2)]) (fun z u=>((z.2.1,z.2.2)=ve D (a:Int)∧At u d z.1 z.2.1∧(∀x,z.1 x→F x∨w.heap.size≤x))∧j0 u b6 155 ([.pointer (some ⟨d,0,none⟩),.int .i64 (a:Int)])∧Ext F w u) ?_ ?_
 ·refine gk ?_
  refine j4 (jz rfl (jl rfl (fun s=> ?_) (fun s=> ?_)))
  ·refine j4 ?_
   refine jh f rfl rfl ?_
   have ab:=g.size
   refine gi call73 rfl (begin_calls w6 (n:=a) (t:=0) (b:=[]) (c:=0) (p:=none) P S zo zo zd (Sl.nil _ _ _) zd hr hF0) fun v7 w7 ac=> ?_
   obtain⟨rfl,F4,h4,V,W⟩:=ac
   have f:=f.ext V r
   have g:=g.trans V fun x hx e=>(k x e).resolve_right zo
   refine j9 gc rfl (gm ?_)
   exact gz (F4,(Aa y.1 0 a []).1,(Aa y.1 0 a []).2) rfl ⟨⟨by rw[hW,if_neg (fun h=>h s)],h4,yw k ab W⟩,f,g⟩
  refine j7 ?_
  exact gz (F2,y.1,y.2) rfl ⟨⟨by rw[hW,if_pos s],P,k⟩,f,g⟩
 rintro⟨G,D1,e⟩ w8 ⟨⟨X,Q,hG⟩,f,g⟩
 refine gk (je rfl (jl rfl (fun s=> ?_) (fun s=> ?_)))
 ·refine gk ?_
  refine j4 (jz rfl (gq (gp (qz [_,_] ⟨rfl,rfl,trivial⟩ ?_))))
  rw[←X]
  exact⟨none,G,rfl,Q,g,hG,fun _=>rfl,fun e=>absurd e s⟩
 refine j7 ?_
 refine j1 (qa (jh f rfl rfl ?_))
 have Y:=Q.lt
 refine wl (qd gc rfl 1 rfl rfl rfl zd zd zt (l':=[.slice none 0 0]) rfl fun J w9 Z o R ak=> ?_)
 have a0:=Nat.le_trans g.size Z
 have Q:=Q.ga R
 have g:=g.gb R
 refine qg rfl ⟨⟨rfl,by decide⟩,⟨rfl,by decide⟩,⟨rfl,by decide⟩,trivial⟩ (l':=[.pointer (some ⟨d,0,none⟩),.int .i64 (a:Int),.int .u32 0,.slice (some ⟨J,0,none⟩) 1 1,.int .i64 1,.bool false]) rfl ?_
 refine gw rfl fun K ad a1 q H=> ?_
 have a2:=Nat.le_trans g.size a1
 have o:=o.ga H
 have Q:=Q.ga H
 have g:=g.gb H
 have q:j0 ad K 162 ([.pointer (some ⟨d,0,none⟩),.int .i64 (a:Int),.int .u32 0,.slice (some ⟨J,0,none⟩) 1 1,.int .i64 1,.bool false]):=q
 refine jz rfl (gq (qz [_,_] ⟨rfl,rfl,trivial⟩ ?_))
 have ae:e=0:=Decidable.not_not.1 s
 subst ae
 rw[←X]
 refine⟨some ⟨K,0,none⟩,G,rfl,Q,g,hG,fun e=>absurd rfl e,fun _=>⟨K,fun y=>y=K∨y=J,rfl,⟨⟨some ⟨J,0,none⟩,1,[.slice none 0 0],q,Own.blk o 1 (n:=1) (c:=1) rfl (Nat.le_refl _) zd,⟨rfl,fun i b v h1 P=> ?_⟩,fun y B=> .inr (own1 B)⟩,.inl rfl,fun y B=> ?_⟩,fun y B=> ?_⟩⟩
 ·have hi:i=0:=by have:=(List.getElem?_eq_some_iff.1 h1).1;simpa [Wl.fresh] using this
  subst hi
  simp[Wl.fresh] at h1 P
  subst h1 P
  exact nil_piece _ _
 ·rcases B with rfl|rfl
  ·exact q.lt
  exact o.lt
 rcases B with rfl|rfl
 ·exact⟨a2,fun e=>by have:=Y _ e;have:=R.size;omega⟩
 exact⟨a0,fun e=>by have:=Y _ e;omega⟩
theorem sectN_zero {n:Nat}:kl n=0↔40000<n:=by unfold kl;split<;>omega
def ye (w w':World) (q:Option Addr) (k:Nat) (b:Bytes):Prop:=b.length≤k∧vt w' q b∧∀y off,q=some ⟨y,off,none⟩→w.heap.size≤y∧TyB w' y 5
def LiesQ (w w':World) (o:Option Bytes) (v:Value):Prop:=match o with
  |none=>v= .tuple #[.slice none 0 0,.bool false]
  |some b=>∃q k,v= .tuple #[.slice q b.length k,.bool true]∧ye w w' q k b
theorem ye.ga {w u u':World} {q:Option Addr} {k:Nat} {b:Bytes} (h:ye w u q k b) (hE:Ext No u u'):ye w u' q k b:=⟨h.1,h.2.1.ga hE,fun y off e=>⟨(h.2.2 y off e).1,(h.2.2 y off e).2.ext hE id⟩⟩
theorem ye.extB {w u u':World} {q:Option Addr} {k x T:Nat} {b:Bytes} {L:List Value} (h:ye w u q k b) (hE:Ext (One x) u u') (hx:j0 u x T L) (hT:5≠T):ye w u' q k b:=
 have key:∀y off,q=some ⟨y,off,none⟩→¬One x y:=fun y off e h'=>((h.2.2 y off e).2.ne hx hT) h'
 ⟨h.1,h.2.1.ext hE key,fun y off e=>⟨(h.2.2 y off e).1,(h.2.2 y off e).2.ext hE (key y off e)⟩⟩
theorem ye.ext {S:Nat→Prop} {w u u':World} {q:Option Addr} {k:Nat} {b:Bytes} (h:ye w u q k b) (hE:Ext S u u') (hS:∀y,TyB u y 5→¬S y):ye w u' q k b:=
 ⟨h.1,h.2.1.ext hE fun y off e=>hS y (h.2.2 y off e).2,fun y off e=>⟨(h.2.2 y off e).1,(h.2.2 y off e).2.ext hE (hS y (h.2.2 y off e).2)⟩⟩
theorem allB_take {L:List Bytes} {i:Nat} (h:i<L.length):zw4 (L.take (i+1))=zw4 (L.take i)++(L[i]).drop 16:=by
 rw[List.take_succ_eq_append_getElem h,zw4,List.flatMap_append]
 simp[zw4]
theorem allB_len {L:List Bytes} (hL:∀b∈L,b.length=64) {i:Nat} (h:i≤L.length):(zw4 (L.take i)).length=48*i:=by
 induction i with
 |zero=>simp[zw4]
 |succ i ih=>
  rw[allB_take zo,List.length_append,ih zo,List.length_drop,hL _ (List.getElem_mem _)]
  omega
theorem liesB_no {L:List Bytes} (h0:0<L.length) (t n:Nat) (h:40000<xu L[0]∨L.length<kl (xu L[0])):Da L t n=none:=by
 cases L with
 |nil=>simp at h0
 |cons s r=>exact if_pos h
theorem liesB_yes {L:List Bytes} (h0:0<L.length) (t n:Nat) (h:¬(40000<xu L[0]∨L.length<kl (xu L[0]))):
  Da L t n=if uw t n (((zw4 (L.take (kl (xu L[0])))).drop 4).take (xu L[0]))=L.take (kl (xu L[0])) then some (((zw4 (L.take (kl (xu L[0])))).drop 4).take (xu L[0])) else none:=by
 cases L with
 |nil=>simp at h0
 |cons s r=>exact if_neg h
def LieJ (L:List Bytes) (t n:Nat) (b:Bytes) (b6 b7 b15:Nat) (k:Nat) (u:World):Prop:=
  j0 u b15 3 [.int .i64 (k:Int)]∧(∃v,j0 u b6 41 [v])∧(∃v,j0 u b7 4 [v])∧∀j,j<k→Bm t n b j=L.getD j []
def LieX (L:List Bytes) (t n:Nat) (b:Bytes) (b6 b7 b15 k:Nat) (c:Code) (u:World):Prop:=
  c= .ret∧b15<u.heap.size∧j0 u b6 41 [.slice none 0 0]∧j0 u b7 4 [.bool false]∧Bm t n b k≠L.getD k []
def lieC (w:World) (L:List Bytes) (t n:Nat) (b:Bytes) (b6 b7 b15:Nat):CoS Unit w where
  Fp:=fun _ x=>x=b6∨x=b7∨x=b15
  J:=fun k _ u=>LieJ L t n b b6 b7 b15 k u
  Jx:=fun k c _ u=>LieX L t n b b6 b7 b15 k c u
  st:=by
    rintro k z S u u' ⟨h1,⟨v,h2⟩,⟨v',h3⟩,h4⟩ hE hS
    exact⟨h1.ext hE fun e=>(hS _ e).2 (.inr (.inr rfl)),⟨v,h2.ext hE fun e=>(hS _ e).2 (.inl rfl)⟩,⟨v',h3.ext hE fun e=>(hS _ e).2 (.inr (.inl rfl))⟩,h4⟩
  stx:=by
    rintro k c z S u u' ⟨h1,h2,h3,h4,h5⟩ hE hS
    exact⟨h1,Nat.lt_of_lt_of_le h2 hE.size,h3.ext hE fun e=>(hS _ e).2 (.inl rfl),h4.ext hE fun e=>(hS _ e).2 (.inr (.inl rfl)),h5⟩
  lt:=by
    rintro k z u ⟨h1,⟨v,h2⟩,⟨v',h3⟩,h4⟩ x (rfl|rfl|rfl)
    ·exact h2.lt
    ·exact h3.lt
    ·exact h1.lt
  ltx:=by
    rintro k c z u ⟨h1,h2,h3,h4,h5⟩ x (rfl|rfl|rfl)
    ·exact h3.lt
    ·exact h4.lt
    ·exact h2
theorem lies_calls (w:World) {p:Option Addr} {c t n:Nat} {L:List Bytes} (hs:Sl w p L.length 64 (L.flatMap ge)) (hL:∀b∈L,b.length=64) (hc:L.length≤c) (hLl:L.length≤100000) (ht:t<4294967296) (hn:n<4294967296) (hr:Rt w):
  gn prog 136 [.slice p L.length c,.int .u32 (t:Int),.int .u32 (n:Int)] w fun v w'=>LiesQ w w' (Da L t n) v∧Ext No w w':=by
 refine Ci func136 rfl rfl rfl rfl ?_
 have hX:=Ext.refl No w
 have hr0:=hr.lt
 refine qa (gw rfl fun b3 w1 hn3 hb3 hE1=> ?_)
 have fr3:=Nat.le_trans hX.size hn3
 have hr:=Rt.ext hr hE1 id
 have hX:=hX.gb hE1
 have hb3:j0 w1 b3 216 ([.slice p L.length c]):=hb3
 refine gw rfl fun b6 w2 hn6 hb6 hE2=> ?_
 have ne3_6:=j5 hb3.lt hn6
 have fr6:=Nat.le_trans hX.size hn6
 have hb3:=hb3.ga hE2
 have hr:=Rt.ext hr hE2 id
 have hX:=hX.gb hE2
 have hb6:j0 w2 b6 41 ([.slice none 0 0]):=hb6
 refine gw rfl fun b7 w3 hn7 hb7 hE3=> ?_
 have ne3_7:=j5 hb3.lt hn7
 have ne6_7:=j5 hb6.lt hn7
 have fr7:=Nat.le_trans hX.size hn7
 have hb3:=hb3.ga hE3
 have hb6:=hb6.ga hE3
 have hr:=Rt.ext hr hE3 id
 have hX:=hX.gb hE3
 have hb7:j0 w3 b7 4 ([.bool false]):=hb7
 refine qr (gk (qa ?_))
 have hN0:=hX
 refine jb hb3 rfl rfl (jz rfl (jl rfl (fun hc=> ?_) (fun hc=> ?_)))
 ·have hL0:L=[]:=List.eq_nil_of_length_eq_zero zo
  refine qa (ky hb6 rfl rfl rfl fun w4 hb6 hE4 hs4=> ?_)
  have hb3:=hb3.gj hE4 ne3_6
  have hb7:=hb7.gj hE4 ne6_7.symm
  have hr:=Rt.ext hr hE4 fun e=>by have e:0=b6:=e;omega
  have hX:=hX.gh hE4 fr6
  refine ky hb7 rfl rfl rfl fun w5 hb7 hE5 hs5=> ?_
  have hb3:=hb3.gj hE5 ne3_7
  have hb6:=hb6.gj hE5 ne6_7
  have hr:=Rt.ext hr hE5 fun e=>by have e:0=b7:=e;omega
  have hX:=hX.gh hE5 fr7
  refine qr (gq (gp (Cj [] List.nodup_nil (fun _ h=>(by cases h)) [.slice none 0 0,.bool false] (fun w20 hE20=> ?_) (.inl rfl))))
  refine⟨⟨⟨b6,0,rfl,D8 gc rfl rfl ((hb6.ext hE20 (fun e=>by cases e)).cell rfl)⟩,⟨b7,0,rfl,D8 gc rfl rfl ((hb7.ext hE20 (fun e=>by cases e)).cell rfl)⟩,trivial⟩,?_⟩
  exact⟨by rw[hL0];rfl,hX.trans hE20 fun x _ e=>by cases e⟩
 have hpos:0<L.length:=by omega
 obtain⟨pb,po,rfl,hsg⟩:=hs.qm (fun r hr=>kz (hL r hr)) hpos
 have hpb:pb<w.heap.size:=(hsg 0 hpos).lt (fun e=>by have:=congrArg List.length e;rw[kz (hL _ (List.getElem_mem _))] at this;cases this)
 obtain⟨s0,hs0⟩:∃s0,s0=L[0]:=⟨_,rfl⟩
 have hs64:s0.length=64:=by rw[hs0];exact hL _ (List.getElem_mem _)
 have hsg:=fun i hi=>(hsg i hi).ga hN0
 refine j7 (j1 (qa (jb hb3 rfl rfl (ki rfl 64 rfl 0 rfl hpos (po+0*64) rfl (wl (st_sa gc rfl 16 20 64 1 rfl ⟨.inr ⟨rfl,rfl⟩,.inl rfl,.inl rfl,by decide,by decide,by decide⟩ ?_))))))
 rw[y8 zd]
 obtain⟨l4,hl4⟩:∃l4,l4=(s0.drop 16).take 4:=⟨_,rfl⟩
 have hll4:l4.length=4:=by rw[hl4,List.length_take,List.length_drop];omega
 have hsl4:vt w3 (some ⟨pb,po+0*64+16*1,none⟩) l4:=⟨by rw[gl,Nat.mul_one],.inr ⟨pb,_,rfl,by
  have e:=((hsg 0 hpos).drop 16).take 4
  rw[←hs0,ug,ul,←hl4] at e
  exact e⟩⟩
 rw[show Value.slice (some ⟨pb,po+0*64+16*1,none⟩) (20-16) (64-16)= .slice (some ⟨pb,po+0*64+16*1,none⟩) l4.length 48 from by rw[hll4]]
 have l3:=hb3.lt
 have l6:=hb6.lt
 have l7:=hb7.lt
 have hXr:=hX.size
 refine gi call101 rfl (Dd w3 hsl4 zo) fun v6 w6 hr6=> ?_
 obtain⟨rb,rfl,hnr,hR,hE6⟩:=hr6
 have hb3:=hb3.ga hE6
 have hb6:=hb6.ga hE6
 have hb7:=hb7.ga hE6
 have hr:=Rt.ext hr hE6 id
 have hsg:=fun i hi=>(hsg i hi).ga hE6
 have hX:=hX.gb hE6
 refine jz rfl (qc rfl ?_)
 have hoff:(uz l4 0 4).1=l4:=by rw[uz,if_neg zd,if_neg zd,if_neg zo];exact List.take_of_length_le (by rw[hll4];decide)
 refine gi call171 rfl (zz5 w6 hR zo) fun v7 w7 hr7=> ?_
 obtain⟨rfl,_,hE7⟩:=hr7
 have hb3:=hb3.gj hE7 zo
 have hb6:=hb6.gj hE7 zo
 have hb7:=hb7.gj hE7 zo
 have hX:=hX.gh hE7 zo
 have hsg:=fun i hi=>(hsg i hi).ext hE7 (fun e=>by have e:pb=rb:=e;omega)
 have hr:=Rt.ext hr hE7 (fun e=>by have e:0=rb:=e;omega)
 rw[hoff]
 obtain⟨many,hmany⟩:∃many,many=num l4:=⟨_,rfl⟩
 have hmlt:many<4294967296:=by have:=vl l4;rw[hll4] at this;rw[hmany];exact this
 have hmB:xu L[0]=many:=by rw[hmany,hl4,hs0];rfl
 rw[←hmany]
 refine j9 gc rfl ?_
 rw[kg (many:Int) zo]
 refine jz rfl (qc rfl (gi call65 rfl (vo w7 (many:Int)) fun v8 w8 hr8=> ?_))
 obtain⟨rfl,hE8⟩:=hr8
 have hb3:=hb3.ga hE8
 have hb6:=hb6.ga hE8
 have hb7:=hb7.ga hE8
 have hr:=Rt.ext hr hE8 id
 have hsg:=fun i hi=>(hsg i hi).ga hE8
 have hX:=hX.gb hE8
 rw[Aj]
 refine jz rfl (gk (jv (α:=Bool) [1,2,3,6,7,9,10] rfl (fun z=>[(36,.bool z)]) (fun z u=>u=w8∧z=decide (40000<many∨L.length<kl many)) ?_ ?_))
 ·refine j4 ?_
  refine j9 gc rfl (jo 31 rfl (fun hg=> ?_) (fun hg=> ?_))
  ·have h40:=sectN_zero.1 (show kl many=0 by omega)
   refine j2 gc 5 rfl (gm ?_)
   exact gz (true) rfl ⟨rfl,by symm;rw[decide_eq_true_iff];exact .inl h40⟩
  have h40:¬40000<many:=fun h=>hg (by rw[sectN_zero.2 h];rfl)
  refine j2 gc 1 rfl (jb hb3 rfl rfl (j2 gc 3 rfl (gm ?_)))
  exact gz (_) rfl ⟨rfl,by rw[decide_eq_decide];omega⟩
 rintro z w9 ⟨hu,rfl⟩
 have hu:=hu.symm
 subst hu
 refine jl rfl (fun hc=> ?_) (fun hc=> ?_)
 ·have hno:=liesB_no hpos t n (by rw[hmB];exact hc)
  refine qa (ky hb6 rfl rfl rfl fun w10 hb6 hE10 hs10=> ?_)
  have hb3:=hb3.gj hE10 ne3_6
  have hb7:=hb7.gj hE10 ne6_7.symm
  have hr:=Rt.ext hr hE10 fun e=>by have e:0=b6:=e;omega
  have hsg:=fun i hi=>(hsg i hi).ext hE10 (fun e=>by have e:pb=b6:=e;omega)
  have hX:=hX.gh hE10 fr6
  refine ky hb7 rfl rfl rfl fun w11 hb7 hE11 hs11=> ?_
  have hb3:=hb3.gj hE11 ne3_7
  have hb6:=hb6.gj hE11 ne6_7
  have hr:=Rt.ext hr hE11 fun e=>by have e:0=b7:=e;omega
  have hsg:=fun i hi=>(hsg i hi).ext hE11 (fun e=>by have e:pb=b7:=e;omega)
  have hX:=hX.gh hE11 fr7
  refine qr (gq (gp (Cj [] List.nodup_nil (fun _ h=>(by cases h)) [.slice none 0 0,.bool false] (fun w20 hE20=> ?_) (.inl rfl))))
  refine⟨⟨⟨b6,0,rfl,D8 gc rfl rfl ((hb6.ext hE20 (fun e=>by cases e)).cell rfl)⟩,⟨b7,0,rfl,D8 gc rfl rfl ((hb7.ext hE20 (fun e=>by cases e)).cell rfl)⟩,trivial⟩,?_⟩
  exact⟨by rw[hno];rfl,hX.trans hE20 fun x _ e=>by cases e⟩
 have hyes:=liesB_yes hpos t n (by rw[hmB];exact hc)
 rw[hmB] at hyes
 have hm4:many≤40000:=by omega
 obtain⟨K,hK⟩:∃K,K=kl many:=⟨_,rfl⟩
 have hKl:K≤L.length:=by omega
 have hroom:=xx1 hm4
 rw[←hK] at hyes hroom⊢
 have hK8:K≤834:=by rw[hK];exact D6 _
 refine j7 (j1 (je rfl (gk (qa (jb hb3 rfl rfl (j9 gc rfl ?_))))))
 refine wl (A5 gc rfl 0 K c 64 rfl (.inr ⟨rfl,rfl⟩) (.inl rfl) (.inr ⟨rfl,rfl⟩) (Nat.zero_le _) zo (Nat.le_refl _) ?_)
 dsimp only
 rw[ka,Nat.sub_zero]
 refine jz rfl (gr ?_)
 refine jm (α:=Nat×Option Addr×Nat) [1,2,3,6,7,9,39,40] rfl (fun z=>[(11,.slice z.2.1 (48*z.1) z.2.2),(41,.int .i64 (z.1:Int))]) (fun z u=>(z.1≤K∧Own u z.2.1 (48*z.1) z.2.2 5 1 (ge (zw4 (L.take z.1)))∧(∀y,jd z.2.1 y→w.heap.size≤y)∧(∀i (hi:i<L.length),Seg u pb (po+i*64) (ge L[i]))∧Rt u)∧j0 u b3 216 ([.slice (some ⟨pb,po,none⟩) L.length c])∧j0 u b6 41 ([.slice none 0 0])∧j0 u b7 4 ([.bool false])∧Ext No w u) (fun z u=>K-z.1) (0,none,0) rfl ⟨⟨Nat.zero_le _,Own.nil _ _ _,fun y hy=>(by cases hy),hsg,hr⟩,hb3,hb6,hb7,hX⟩ ?_
 rintro⟨i,q,k⟩ w12 ⟨⟨hi,hq,hqn,hsg,hr⟩,hb3,hb6,hb7,hX⟩
 try dsimp only
 dsimp only at hi hq hqn
 refine je rfl (gk (jl rfl (fun hc=> ?_) (fun hc=> ?_)))
 ·have hiK:i<K:=by omega
  have hiL:i<L.length:=by omega
  have hi64:=hL _ (List.getElem_mem hiL)
  have hqlt:=fun y (hy:jd q y)=>hq.lt hy
  refine xz (gr (qa (ki rfl 64 rfl i rfl hiK (po+i*64) rfl (jr rfl (hsg i hiL) (kz hi64) ?_))))
  have hsz0:=hX.size
  refine gw rfl fun b13 w13 hn13 hb13 hE13=> ?_
  have ne3_13:=j5 hb3.lt hn13
  have ne6_13:=j5 hb6.lt hn13
  have ne7_13:=j5 hb7.lt hn13
  have fr13:=Nat.le_trans hX.size hn13
  have hb3:=hb3.ga hE13
  have hb6:=hb6.ga hE13
  have hb7:=hb7.ga hE13
  have hr:=Rt.ext hr hE13 id
  have hsg:=fun i hi=>(hsg i hi).ga hE13
  have hq:=hq.ext hE13 fun _ _=>id
  have hX:=hX.gb hE13
  refine wl (j8 (l':=ge L[i]) gc hb13 rfl rfl (kz hi64) (by rw[kz hi64];rfl) OneC.h fun w14 hb13 hE14 hs14=> ?_)
  have hb3:=hb3.gj hE14 ne3_13
  have hb6:=hb6.gj hE14 ne6_13
  have hb7:=hb7.gj hE14 ne7_13
  have hr:=Rt.ext hr hE14 fun e=>by have e:0=b13:=e;omega
  have hsg:=fun i hi=>(hsg i hi).ext hE14 (fun e=>by have e:pb=b13:=e;omega)
  have hq:=hq.ext hE14 fun y hy e=>by have e:y=b13:=e;have:=hqlt y hy;omega
  have hX:=hX.gh hE14 fr13
  refine qr (yv rfl (wl (st_sa gc rfl 16 64 64 1 rfl ⟨.inr ⟨rfl,rfl⟩,.inr ⟨rfl,rfl⟩,.inl rfl,by decide,by decide,by decide⟩ ?_)))
  rw[y8 zd]
  have hsr:Sl w14 (some ⟨b13,0+16*1,none⟩) 48 1 (ge ((L[i]).drop 16)):=⟨by rw[gl,List.length_drop,hi64],.inr ⟨b13,_,rfl,by have e:=hb13.ko.drop 16;rw[ug] at e;exact e⟩⟩
  have hXq:=hX.size
  have nq3:¬jd q b3:=fun e=>(Own.ty hq e).ne hb3 zd rfl
  have nq6:¬jd q b6:=fun e=>(Own.ty hq e).ne hb6 zd rfl
  have nq7:¬jd q b7:=fun e=>(Own.ty hq e).ne hb7 zd rfl
  refine wl (uh gc rfl 1 1 rfl rfl rfl zd hq (Src.slice hsr OneC.h) zm zn fun p15 c15 w15 ho15 hE15 hB15=> ?_)
  have hb3:=hb3.ext hE15 fun e=>nq3 e
  have hb6:=hb6.ext hE15 fun e=>nq6 e
  have hb7:=hb7.ext hE15 fun e=>nq7 e
  have hX:=hX.trans hE15 fun y hy e=>by have:=hqn y e;omega
  have hsg:=fun j hj=>(hsg j hj).ext hE15 fun e=>by have:=hqn _ e;omega
  have hr:=Rt.ext hr hE15 fun e=>by have:=hqn _ e;omega
  have hqn2:∀y,jd p15 y→w.heap.size≤y:=fun y hy=>(hB15 y hy).elim (hqn y) fun e=>by omega
  have hq2:Own w15 p15 (48*(i+1)) c15 5 1 (ge (zw4 (L.take (i+1)))):=by
   rw[allB_take hiL,k8,show 48*(i+1)=48*i+48 from by omega]
   exact ho15
  dsimp only
  rw[show 48*i+48=48*(i+1) from by omega]
  refine j9 gc rfl (gm (Bo rfl ?_))
  rw[kg _ zo]
  refine gm ?_
  exact jn (i+1,p15,c15) rfl ⟨⟨hiK,hq2,hqn2,hsg,hr⟩,hb3,hb6,hb7,hX⟩ zf
 have hiK:i=K:=by omega
 subst hiK
 have hKl0:i≤L.length:=hKl
 refine Bi (qc rfl ?_)
 rw[kg _ zo]
 rw[show(4:Int)+(many:Int)=((4+many:Nat):Int) from by omega]
 have hal:=allB_len hL hKl0
 obtain⟨A,hA⟩:∃A,A=zw4 (L.take i):=⟨_,rfl⟩
 obtain⟨b,hb⟩:∃b,b=(A.drop 4).take many:=⟨_,rfl⟩
 rw[←hA] at hal hyes hq
 have hbl:b.length=many:=by rw[hb,List.length_take,List.length_drop];omega
 rw[←hb] at hyes
 have hsq:=hq.sl
 rw[←hal] at hsq
 have hsb:vt w12 (u5 q 4 (4+many) 1) b:=by
  have e:=Sl.slice hsq 4 (4+many) (4+many) zo (Nat.le_refl _) zo
  rw[Nat.mul_one,Nat.mul_one,ug,ul,show 4+many-4=many from by omega,←hb] at e
  rw[vt,hbl]
  exact e
 have hqb:∀y off,u5 q 4 (4+many) 1=some ⟨y,off,none⟩→jd q y:=fun y off e=>by
  obtain⟨bq,lq,hq1,_⟩:∃bq lq,q=some ⟨bq,0,none⟩∧j0 w12 bq 5 lq:=by
   rcases hq with⟨_,h0,_⟩|⟨bq,lq,h1,h2,_⟩
   ·omega
   exact⟨bq,lq,h1,h2⟩
  obtain⟨off',e'⟩:=yj6 e (fun x o sp e=>by rw[hq1] at e;cases e;rfl)
  rw[hq1] at e'
  cases e'
  exact hq1
 have hqty:∀y,jd q y→TyB w12 y 5:=fun y hy=>Own.ty hq hy
 refine wl (A5 gc rfl 4 (4+many) (4+many) 1 rfl (.inl ⟨rfl,rfl⟩) (.inl rfl) (.inl rfl) zo (Nat.le_refl _) (by have:=hq.cap;dsimp only;omega) ?_)
 dsimp only
 obtain⟨qb,hqbd⟩:∃qb,qb=u5 q 4 (4+many) 1:=⟨_,rfl⟩
 rw[←hqbd] at hsb hqb⊢
 rw[show 4+many-4=b.length from by omega]
 have hpn:ye w w12 qb b.length b:=⟨Nat.le_refl _,hsb,fun y off e=>⟨hqn y (hqb y off e),hqty y (hqb y off e)⟩⟩
 refine jz rfl (qa (gw rfl fun b15 w16 hn15 hb15 hE16=> ?_))
 have ne3_15:=j5 hb3.lt hn15
 have ne6_15:=j5 hb6.lt hn15
 have ne7_15:=j5 hb7.lt hn15
 have fr15:=Nat.le_trans hX.size hn15
 have hb3:=hb3.ga hE16
 have hb6:=hb6.ga hE16
 have hb7:=hb7.ga hE16
 have hr:=Rt.ext hr hE16 id
 have hsg:=fun i hi=>(hsg i hi).ga hE16
 have hpn:=hpn.ga hE16
 have hX:=hX.gb hE16
 have hb15:j0 w16 b15 3 ([.int .i64 0]):=hb15
 have hb15o:=hb15
 refine ky hb15 rfl rfl rfl fun w17 hb15 hE17 hs17=> ?_
 have hb3:=hb3.gj hE17 ne3_15
 have hb6:=hb6.gj hE17 ne6_15
 have hb7:=hb7.gj hE17 ne7_15
 have hr:=Rt.ext hr hE17 fun e=>by have e:0=b15:=e;omega
 have hsg:=fun i hi=>(hsg i hi).ext hE17 (fun e=>by have e:pb=b15:=e;omega)
 have hpn:=hpn.extB hE17 hb15o zd
 have hX:=hX.gh hE17 fr15
 refine qr (gk (qc rfl (gi call121 rfl (yj1 w17 t n (p:=qb) (m:=b.length) (c:=b.length)) fun v18 w18 hr18=> ?_)))
 obtain⟨bb,bt,bn,rfl,hnn,hbb,hbt,hbn,hE18⟩:=hr18
 have hb3:=hb3.ga hE18
 have hb6:=hb6.ga hE18
 have hb7:=hb7.ga hE18
 have hb15:=hb15.ga hE18
 have hr:=Rt.ext hr hE18 id
 have hsg:=fun i hi=>(hsg i hi).ga hE18
 have hpn:=hpn.ga hE18
 have hX:=hX.gb hE18
 refine qr (gr ?_)
 have l3:=hb3.lt
 have l6:=hb6.lt
 have l7:=hb7.lt
 have l15:=hb15.lt
 have hXL:=hX.size
 have hb6p:=hb6
 have hb7p:=hb7
 have hb15p:=hb15
 have hsw:=hpn.2.1
 have hKb:kl b.length=i:=by rw[hbl,hK]
 have hbl4:b.length≤40000:=by omega
 refine c_iter (lieC w18 L t n b b6 b7 b15) (()) rfl call178 rfl (fun _=>rfl) (fun w1 hE1=>xx6 w1 (hbb.ga hE1) (hbt.ga hE1) (hbn.ga hE1) (hsw.ga hE1) ht hn hbl4 (hr.ext hE1 id)) (fun x e=>by subst e;exact⟨by omega,fun e=>by rcases e with e|e|e<;>omega⟩) ⟨hb15,⟨_,hb6⟩,⟨_,hb7⟩,fun j hj=>absurd hj (Nat.not_lt_zero _)⟩ (fun l DD r k z W hRd hJ hk=> ?_) (fun DD z W hJ hE hsub hDn hmk hnd=> ?_) (fun DD k c z W hk hJ hE hsub hDn hmk hnd=> ?_)
 ·have hLr:=hRd.l
  obtain⟨hb15,⟨v6,hb6⟩,⟨v7,hb7⟩,heq⟩:=hJ
  have hWX:=hRd.X
  have hWs:=hWX.size
  have hb3:=hb3.ext hWX fun e=>by rcases e with e|e|e<;>omega
  have hsg:=fun j hj=>(hsg j hj).ext hWX fun e=>by rcases e with e|e|e<;>omega
  have hlo:=hRd.lo
  rw[hKb] at hk
  have hkL:k<L.length:=by omega
  have hkb:=yv7 t n b (k:=k) (by rw[hKb];exact hk)
  obtain⟨Pk,hPk⟩:∃Pk,Pk=Bm t n b k:=⟨_,rfl⟩
  have hP64:Pk.length=64:=by rw[hPk];exact pieceAt_len _ _ _ _
  rw[show argB (uw t n b) k= #[numB Pk] from by rw[argB,hkb,hPk]]
  have hLk:L.getD k []=L[k]:=by simp[hkL]
  have hL64:=hL _ (List.getElem_mem hkL)
  have nl3:=hb3.neL hLr
  have nl6:=hb6.neL hLr
  have nl7:=hb7.neL hLr
  have nl15:=hb15.neL hLr
  have hX:Ext (fun x=>(x=b6∨x=b7∨x=b15)∨x=l) W W:=Ext.refl _ _
  refine yi (wli (.round _) rfl (Ak gc rfl fun b16 w19 hn16 hb16 hE19=> ?_))
  have ne3_16:=j5 hb3.lt hn16
  have ne6_16:=j5 hb6.lt hn16
  have ne7_16:=j5 hb7.lt hn16
  have ne15_16:=j5 hb15.lt hn16
  have fr16:=Nat.le_trans hX.size hn16
  have hb3:=hb3.ga hE19
  have hb6:=hb6.ga hE19
  have hb7:=hb7.ga hE19
  have hb15:=hb15.ga hE19
  have hsg:=fun i hi=>(hsg i hi).ga hE19
  have hLr:=ym hLr hE19 id
  have hX:=hX.gb hE19
  have nl16:=hb16.neL hLr
  refine wli (.round _) rfl (j8 (l':=ge Pk) gc hb16 rfl rfl (kz hP64) (by rw[kz hP64];rfl) OneC.h fun w20 hb16 hE20 hs20=> ?_)
  have hb3:=hb3.gj hE20 ne3_16
  have hb6:=hb6.gj hE20 ne6_16
  have hb7:=hb7.gj hE20 ne7_16
  have hb15:=hb15.gj hE20 ne15_16
  have hsg:=fun i hi=>(hsg i hi).ext hE20 (fun e=>by have e:pb=b16:=e;omega)
  have hLr:=ym hLr hE20 nl16.symm
  have hX:=hX.gh hE20 fr16
  refine zx (fin_begin hRd hLr fun w21 hE21 hL21=> ?_)
  have hb3:=hb3.extL hLr hE21
  have hb6:=hb6.extL hLr hE21
  have hb7:=hb7.extL hLr hE21
  have hb15:=hb15.extL hLr hE21
  have hb16:=hb16.extL hLr hE21
  have hsg:=fun i hi=>(hsg i hi).ext hE21 (fun e=>by have e:pb=l:=e;omega)
  have hLr:=hL21
  have hX:=hX.then (hE21.mono fun x _ e=> .inr e)
  refine ci_block (yx9 (yx9 (ci_draw (.round _) rfl rfl 6 [(0,true),(1,true),(2,true),(3,true),(4,true),(5,true)] [] (No) zk fun w22 hE22 hs22=> ?_)))
  have hd3:=hb3
  have hd6:=hb6
  have hd7:=hb7
  have hd15:=hb15
  have hd16:=hb16
  have hsgd:=hsg
  have hLrd:=hLr
  have hXd:=hX
  have hb3:=hb3.ga hE22
  have hb6:=hb6.ga hE22
  have hb7:=hb7.ga hE22
  have hb15:=hb15.ga hE22
  have hb16:=hb16.ga hE22
  have hsg:=fun i hi=>(hsg i hi).ga hE22
  have hLr:=ym hLr hE22 id
  have hX:=hX.gb hE22
  have hC:Ext (No) _ w22:=hE22.no
  refine qf gc rfl rfl (fun w' hw'=>((hd16.ga hw').ko)) (kz hP64) ?_
  refine j6 gc rfl rfl (fun w' hw'=>((hd3.ga hw').cell rfl)) ?_
  refine j6 gc rfl rfl (fun w' hw'=>((hd15.ga hw').cell rfl)) ?_
  refine qk gc rfl rfl 64 rfl k rfl hkL (po+k*64) rfl (qf gc rfl rfl (fun w' hw'=>((hsgd k hkL).ga hw')) (kz hL64) ?_)
  refine wd_eqA (xs:=yq8 Pk) (ys:=yq8 L[k]) gc rfl rfl zk (yv6 _) (yv6 _) (by rw[Cq,hP64]) (by rw[Cq,hL64]) ?_
  simp only[Bool.false_eq_true,if_false]
  refine jj (ja (zq2 (ci_if rfl (fun hc=> ?_) (fun hc=> ?_))))
  ·have hne:Bm t n b k≠L.getD k []:=fun e=>hc (zz6.2 (by rw[hPk,e,hLk]))
   refine yx9 (yi (wli (.round _) rfl (xv gc hb6 rfl rfl rfl fun w23 hb6 hE23 hs23=> ?_)))
   have hb3:=hb3.gj hE23 ne3_6
   have hb7:=hb7.gj hE23 ne6_7.symm
   have hb15:=hb15.gj hE23 ne6_15.symm
   have hb16:=hb16.gj hE23 ne6_16.symm
   have hsg:=fun i hi=>(hsg i hi).ext hE23 (fun e=>by have e:pb=b6:=e;omega)
   have hLr:=ym hLr hE23 nl6.symm
   have hX:=hX.then (hE23.mono fun x _ e=>by have e:x=b6:=e;subst e;exact .inl (.inl rfl))
   refine wli (.round _) rfl (xv gc hb7 rfl rfl rfl fun w24 hb7 hE24 hs24=> ?_)
   have hb3:=hb3.gj hE24 ne3_7
   have hb6:=hb6.gj hE24 ne6_7
   have hb15:=hb15.gj hE24 ne7_15.symm
   have hb16:=hb16.gj hE24 ne7_16.symm
   have hsg:=fun i hi=>(hsg i hi).ext hE24 (fun e=>by have e:pb=b7:=e;omega)
   have hLr:=ym hLr hE24 nl7.symm
   have hX:=hX.then (hE24.mono fun x _ e=>by have e:x=b7:=e;subst e;exact .inl (.inr (.inl rfl)))
   refine zx (zq2 (ci_ret ?_))
   exact gp (ji (fin_stop (.inl ⟨rfl,rfl⟩) (()) hRd hLr hX (fun x hx=> .inl hx) (⟨rfl,hb15.lt,hb6,hb7,hne⟩)))
  have heqk:Bm t n b k=L.getD k []:=by rw[←hPk,hLk];exact zz6.1 (Decidable.not_not.1 hc)
  refine ci_skip (zq2 (yi (wli (.round _) rfl (st_ldb gc hb15 rfl rfl (zw1 gc rfl ?_)))))
  rw[kg _ zo]
  refine wli (.round _) rfl (xv gc hb15 rfl rfl rfl fun w25 hb15 hE25 hs25=> ?_)
  have hb3:=hb3.gj hE25 ne3_15
  have hb6:=hb6.gj hE25 ne6_15
  have hb7:=hb7.gj hE25 ne7_15
  have hb16:=hb16.gj hE25 ne15_16.symm
  have hsg:=fun i hi=>(hsg i hi).ext hE25 (fun e=>by have e:pb=b15:=e;omega)
  have hLr:=ym hLr hE25 nl15.symm
  have hX:=hX.then (hE25.mono fun x _ e=>by have e:x=b15:=e;subst e;exact .inl (.inr (.inr rfl)))
  refine zx ?_
  exact jy (fin_next (()) hRd hLr hX (fun x hx=> .inl hx) (⟨hb15,⟨_,hb6⟩,⟨_,hb7⟩,fun j hj=>by rcases Nat.lt_or_ge j k with h|h;exact heq j h;rw[show j=k from by omega];exact heqk⟩))
 ·obtain⟨hb15,⟨v6,hb6⟩,⟨v7,hb7⟩,heq⟩:=hJ
  have hT6:=hb6p.lt
  have hpn:ye w W qb b.length b:=hpn.ext hE fun y hy h=>by
   rcases h with h|h|h
   ·exact hy.ne hb6p zd h
   ·exact hy.ne hb7p zd h
   exact hy.ne hb15p zd h
  have nd6:b6≠DD:=by omega
  have nd7:b7≠DD:=by omega
  have hX:Ext No w W:=hX.trans hE fun x hx e=>by rcases e with e|e|e<;>omega
  rw[hKb] at heq
  have hpc:uw t n b=L.take i:=by
   refine List.ext_getElem (by rw[vq,hKb,List.length_take];omega) fun j h1 h2=> ?_
   have hj:j<i:=by rw[vq,hKb] at h1;exact h1
   have e:=heq j hj
   rw[←yv7 t n b (by rw[hKb];exact hj)] at e
   have e1:(uw t n b).getD j []=(uw t n b)[j]:=by simp[h1]
   have e2:L.getD j []=L[j]'zo:=by simp[show j<L.length by omega]
   rw[←e1,e,e2,List.getElem_take]
  rw[if_pos hpc] at hyes
  refine jy (j1 (qc rfl ?_))
  have hb6o:=hb6
  refine ky hb6 rfl rfl rfl fun w26 hb6 hE26 hs26=> ?_
  have hb7:=hb7.gj hE26 ne6_7.symm
  have hmk:=ym hmk hE26 nd6.symm
  have hpn:=hpn.extB hE26 hb6o zd
  have hX:=hX.gh hE26 fr6
  have hb7o:=hb7
  refine ky hb7 rfl rfl rfl fun w27 hb7 hE27 hs27=> ?_
  have hb6:=hb6.gj hE27 ne6_7
  have hmk:=ym hmk hE27 nd7.symm
  have hpn:=hpn.extB hE27 hb7o zd
  have hX:=hX.gh hE27 fr7
  refine qr (gq (Cj [DD] zp (fun x hx=>by rw[List.mem_singleton.1 hx];exact hmk) [.slice qb b.length b.length,.bool true] (fun w20 hE20=> ?_) (.inl rfl)))
  refine⟨⟨⟨b6,0,rfl,D8 gc rfl rfl ((hb6.ext hE20 (fun e=>nd6 (List.mem_singleton.1 e))).cell rfl)⟩,⟨b7,0,rfl,D8 gc rfl rfl ((hb7.ext hE20 (fun e=>nd7 (List.mem_singleton.1 e))).cell rfl)⟩,trivial⟩,?_⟩
  rw[hyes]
  exact⟨⟨qb,b.length,rfl,hpn.ext hE20 fun y hy h=>by rw[List.mem_singleton.1 h] at hy;obtain⟨l,hl⟩:=hy;unfold j0 at hl;rw[hmk] at hl;cases hl⟩,hX.trans hE20 fun y hy e=>by rw[List.mem_singleton.1 e] at hy;omega⟩
 obtain⟨rfl,hl15,hb6,hb7,hne⟩:=hJ
 have nd6:b6≠DD:=by omega
 have nd7:b7≠DD:=by omega
 have hX:Ext No w W:=hX.trans hE fun x hx e=>by rcases e with e|e|e<;>omega
 rw[hKb] at hk
 have hpc:¬uw t n b=L.take i:=fun e=>by
  have e1:=yv7 t n b (k:=k) (by rw[hKb];exact hk)
  rw[e] at e1
  refine hne (e1.symm.trans ?_)
  have e2:L.getD k []=L[k]'zo:=by simp[show k<L.length by omega]
  have e3:(L.take i).getD k []=L[k]'zo:=by simp[hk,show k<L.length by omega]
  rw[e2,e3]
 rw[if_neg hpc] at hyes
 refine gq (ji (gp (Cj [DD] zp (fun x hx=>by rw[List.mem_singleton.1 hx];exact hmk) [.slice none 0 0,.bool false] (fun w20 hE20=> ?_) (.inl rfl))))
 refine⟨⟨⟨b6,0,rfl,D8 gc rfl rfl ((hb6.ext hE20 (fun e=>nd6 (List.mem_singleton.1 e))).cell rfl)⟩,⟨b7,0,rfl,D8 gc rfl rfl ((hb7.ext hE20 (fun e=>nd7 (List.mem_singleton.1 e))).cell rfl)⟩,trivial⟩,?_⟩
 rw[hyes]
 exact⟨rfl,hX.trans hE20 fun y hy e=>by rw[List.mem_singleton.1 e] at hy;omega⟩
def nwV (d:Nat) (o:Option (Nat×Nat)):List Value:=match o with
  |none=>[.pointer none,.int .i64 0]
  |some (_,n)=>[.pointer (some ⟨d,0,none⟩),.int .i64 (n:Int)]
theorem Ck (d:Nat) (o:Option (Nat×Nat)):(nwV d o).length=2:=by cases o<;>rfl
theorem nwV_one (d:Nat) (o:Option (Nat×Nat)):∀v∈nwV d o,v.oneCell'=true:=by
 cases o with
 |none=>exact OneC.h (l:=[.pointer none,.int .i64 0])
 |some x=>exact OneC.h (l:=[.pointer (some ⟨d,0,none⟩),.int .i64 (x.2:Int)])
instance (d:Nat) (o:Option (Nat×Nat)):OneC (nwV d o):=⟨nwV_one d o⟩
theorem newestGo_step {S i:Nat} (hi:i<2) (D:kj) (o:Option (Nat×Nat)):xe S (2-i) i D o=if(D.read i).2.2≠0 then((D.read i).1,(D.read i).2.2,none) else xe S (2-(i+1)) (i+1) (D.read i).1 (newer i S (D.read i).2.1 o):=by
 obtain⟨k,a⟩:∃k,2-i=k+1:=⟨1-i,by omega⟩
 rw[a,show 2-(i+1)=k from by omega]
 rfl
theorem newer_no {i S:Nat} {b:Bytes} {o:Option (Nat×Nat)} (h:¬xx8 i S b):newer i S b o=o:=if_neg h
theorem newer_yes {i S:Nat} {b:Bytes} {o:Option (Nat×Nat)} (h:xx8 i S b) (hn:nwE o≠0∨nwT o<De b):newer i S b o=some (De b,zq4 b):=by
 unfold newer
 rw[if_pos h]
 cases o with
 |none=>rfl
 |some x=>exact if_pos (hn.resolve_left fun e=>e rfl)
theorem newer_old {i S:Nat} {b:Bytes} {o:Option (Nat×Nat)} (h:xx8 i S b) (hn:¬(nwE o≠0∨nwT o<De b)):newer i S b o=o:=by
 unfold newer
 rw[if_pos h]
 cases o with
 |none=>exact absurd (.inl zd) hn
 |some x=>exact if_neg fun e=>hn (.inr e)
theorem read_64 {D:kj} {m:Nat} (hok:D.Ok m) (i:Int):(D.read i).2.1.length=64:=by
 unfold kj.read
 dsimp only
 split
 ·exact zv2 (hok.begin i false) _
 exact zeros_length
theorem newest_calls (w:World) {d m:Nat} {F:Nat→Prop} {D:kj} (h:At w d F D) (hok:D.Ok m) (hm:m+10<1000000000) (hr:Rt w) (hF0:¬F 0):
  gn prog 135 [.pointer (some ⟨d,0,none⟩)] w fun v w'=>v= .tuple #[.agg (nwV d (u1 D).2.2).toArray,.int .u32 (nwT (u1 D).2.2:Int),.int .i64 (u1 D).2.1]∧At w' d F (u1 D).1∧Ext F w w':=by
 refine gx func135 ?_
 have hX:=Ext.refl F w
 have hFlt:=h.lt
 have hr0:=hr.lt
 have hA:=h
 refine qa (gw rfl fun b2 w1 hn2 hb2 hE1=> ?_)
 have fr2:=Nat.le_trans hX.size hn2
 have hA:=hA.ga hE1
 have hr:=Rt.ext hr hE1 id
 have hX:=hX.gb hE1
 have hb2:j0 w1 b2 155 (nwV d none):=hb2
 have hF2:¬F b2:=fun e=>by have:=hFlt _ e;omega
 refine jz rfl (je rfl (gk (je rfl (gr ?_))))
 refine jm (α:=Nat×kj×Option (Nat×Nat)) [0,2] rfl (fun z=>[(3,.int .u32 (nwT z.2.2:Int)),(4,.int .i64 (nwE z.2.2)),(12,.int .i64 (z.1:Int))]) (fun z u=>(z.1≤2∧At u d F z.2.1∧z.2.1.Ok (m+z.1)∧u1 D=xe D.secs.length (2-z.1) z.1 z.2.1 z.2.2∧nwT z.2.2<4294967296∧z.2.1.secs.length=D.secs.length∧Rt u)∧j0 u b2 155 (nwV d z.2.2)∧Ext F w u) (fun z u=>2-z.1) (0,D,none) rfl ⟨⟨Nat.zero_le _,hA,hok,rfl,(show 0<4294967296 by decide),rfl,hr⟩,hb2,hX⟩ ?_
 rintro⟨i,D1,o⟩ w2 ⟨⟨hi,hA,hok1,hgo,hnt,hsec,hr⟩,hb2,hX⟩
 try dsimp only
 dsimp only at hi hA hok1 hgo hnt hsec
 refine je rfl (gk (jl rfl (fun hc=> ?_) (fun hc=> ?_)))
 ·have hi2:i<2:=by omega
  rw[newestGo_step hi2] at hgo
  refine j7 (j1 ?_)
  refine jv (α:=kj×Option (Nat×Nat)) [0,2,12] rfl (fun z=>[(3,.int .u32 (nwT z.2:Int)),(4,.int .i64 (nwE z.2))]) (fun z u=>(At u d F z.1∧z.1.Ok (m+(i+1))∧u1 D=xe D.secs.length (2-(i+1)) (i+1) z.1 z.2∧nwT z.2<4294967296∧z.1.secs.length=D.secs.length∧Rt u)∧j0 u b2 155 (nwV d z.2)∧Ext F w u) ?_ ?_
  ·refine gr ?_
   refine je rfl (qc rfl ?_)
   have hl2:=hb2.lt
   refine gi call78 rfl (dkRead w2 hA hok1 zo (i:Int)) fun v3 w3 hr3=> ?_
   obtain⟨rfl,hA,hE3⟩:=hr3
   have hb2:=hb2.ext hE3 hF2
   have hX:=hX.then hE3
   have hr:=Rt.ext hr hE3 hF0
   have hlt3:=hA.lt
   obtain⟨x,hx⟩:∃x,x=D1.read (i:Int):=⟨_,rfl⟩
   have hx64:=read_64 hok1 (i:Int)
   have hxok:=hok1.read (i:Int)
   have hxs:(D1.read (i:Int)).1.secs.length=D.secs.length:=by rw[kj.read_secs,hsec]
   rw[←hx] at hgo hx64 hxok hxs hA⊢
   obtain⟨D2,B,e⟩:=x
   dsimp only at hgo hx64 hxok hxs hA⊢
   refine j9 gc rfl (gw rfl fun b6 w4 hn6 hb6 hE4=> ?_)
   have ne2_6:=j5 hb2.lt hn6
   have fr6:=Nat.le_trans hX.size hn6
   have hb2:=hb2.ga hE4
   have hA:=hA.ga hE4
   have hr:=Rt.ext hr hE4 id
   have hX:=hX.gb hE4
   have hF6:¬F b6:=fun e=>by have:=hlt3 _ e;omega
   refine wl (j8 (l':=ge B) gc hb6 rfl rfl (kz hx64) (by rw[kz hx64];rfl) OneC.h fun w5 hb6 hE5 hs5=> ?_)
   have hb2:=hb2.gj hE5 ne2_6
   have hA:=hA.ext hE5 fun x hx e=>by have e:x=b6:=e;subst e;exact hF6 hx
   have hr:=Rt.ext hr hE5 fun e=>by have e:0=b6:=e;omega
   have hX:=hX.gh hE5 fr6
   refine jz rfl (gk (je rfl (jl rfl (fun hc=> ?_) (fun hc=> ?_))))
   ·rw[if_pos hc] at hgo
    rw[hgo]
    refine qa (qg rfl trivial (l':=nwV d none) rfl (j9 gc rfl (wl (j8 (l':=nwV d none) gc hb2 rfl rfl rfl (by rw[Ck,Ck]) (nwV_one _ _) fun w6 hb2 hE6 hs6=> ?_))))
    have hA:=hA.ext hE6 fun x hx e=>by have e:x=b2:=e;subst e;exact hF2 hx
    have hr:=Rt.ext hr hE6 fun e=>by have e:0=b2:=e;omega
    have hX:=hX.gh hE6 fr2
    refine jz rfl (gq (gp (ji (gp (gp (ji (gp (qz [_,_,_] ⟨⟨b2,0,rfl,u0 gc rfl rfl hb2.ko rfl⟩,rfl,rfl,trivial⟩ ?_))))))))
    exact⟨rfl,hA,hX⟩
   rw[if_neg hc] at hgo
   refine j7 (j1 (qa (wl (st_sa gc rfl 0 64 64 1 rfl ⟨.inr ⟨rfl,rfl⟩,.inr ⟨rfl,rfl⟩,.inr ⟨rfl,rfl⟩,by decide,by decide,by decide⟩ ?_))))
   rw[ka,Nat.sub_zero]
   rw[show Value.slice (some ⟨b6,0,none⟩) 64 64= .slice (some ⟨b6,0,none⟩) B.length 64 from by rw[hx64]]
   have hXr:=hX.size
   have l2:=hb2.lt
   have l6:=hb6.lt
   have lA:=hA.lt
   refine gi call101 rfl (Dd w5 hb6.slB zo) fun v7 w7 hr7=> ?_
   obtain⟨rb,rfl,hnr,hR,hE7⟩:=hr7
   have hb2:=hb2.ga hE7
   have hb6:=hb6.ga hE7
   have hA:=hA.ga hE7
   have hr:=Rt.ext hr hE7 id
   have hX:=hX.gb hE7
   refine jz rfl (qc rfl (gi call103 rfl (raw_calls w7 hR zo 12) fun v8 w8 hr8=> ?_))
   obtain⟨_,_,rfl,_,hR,hE8⟩:=hr8
   have hb2:=hb2.gj hE8 zo
   have hb6:=hb6.gj hE8 zo
   have hX:=hX.gh hE8 zo
   rw[show(12:Int)=((12:Nat):Int) from rfl,offR_ok zo] at hR
   have hA:=hA.ext hE8 fun y hy e=>by have e:y=rb:=e;have:=lA y hy;omega
   have hr:=Rt.ext hr hE8 fun e=>by have e:0=rb:=e;omega
   refine qr (qc rfl (gi call171 rfl (zz5 w8 hR zc) fun v9 w9 hr9=> ?_))
   obtain⟨rfl,hR,hE9⟩:=hr9
   have hb2:=hb2.gj hE9 zo
   have hb6:=hb6.gj hE9 zo
   have hX:=hX.gh hE9 zo
   rw[show(4:Int)=((4:Nat):Int) from rfl,offR_ok za] at hR⊢
   have hA:=hA.ext hE9 fun y hy e=>by have e:y=rb:=e;have:=lA y hy;omega
   have hr:=Rt.ext hr hE9 fun e=>by have e:0=rb:=e;omega
   refine j9 gc rfl (gi call171 rfl (zz5 w9 hR zc) fun v10 w10 hr10=> ?_)
   obtain⟨rfl,_,hE10⟩:=hr10
   have hb2:=hb2.gj hE10 zo
   have hb6:=hb6.gj hE10 zo
   have hX:=hX.gh hE10 zo
   rw[show(4:Int)=((4:Nat):Int) from rfl,offR_ok (by rw[List.length_drop,List.length_drop];omega)]
   have hA:=hA.ext hE10 fun y hy e=>by have e:y=rb:=e;have:=lA y hy;omega
   have hr:=Rt.ext hr hE10 fun e=>by have e:0=rb:=e;omega
   obtain⟨t,ht⟩:∃t,t=De B:=⟨_,rfl⟩
   obtain⟨n,hn⟩:∃n,n=zq4 B:=⟨_,rfl⟩
   have htl:t<4294967296:=by have:=vl ((B.drop 12).take 4);rw[List.length_take,List.length_drop,hx64] at this;rw[ht];exact this
   have hnl:n<4294967296:=by have:=vl ((B.drop 16).take 4);rw[List.length_take,List.length_drop,hx64] at this;rw[hn];exact this
   dsimp only
   rw[show num ((B.drop 12).take 4)=t from ht.symm,show num (((B.drop 12).drop 4).take 4)=n from by rw[List.drop_drop];exact hn.symm]
   refine jz rfl (qc rfl ?_)
   rw[kg (n:Int) zo]
   refine qg rfl ⟨⟨rfl,by decide⟩,⟨rfl,by decide⟩,trivial⟩ (l':=[.pointer (some ⟨d,0,none⟩),.int .i64 (n:Int)]) rfl ?_
   have lA11:=hA.lt
   refine gw rfl fun b11 w11 hn11 hb11 hE11=> ?_
   have ne2_11:=j5 hb2.lt hn11
   have ne6_11:=j5 hb6.lt hn11
   have fr11:=Nat.le_trans hX.size hn11
   have hb2:=hb2.ga hE11
   have hb6:=hb6.ga hE11
   have hA:=hA.ga hE11
   have hr:=Rt.ext hr hE11 id
   have hX:=hX.gb hE11
   have hF11:¬F b11:=fun e=>by have:=lA11 _ e;omega
   refine wl (j8 (l':=[.pointer (some ⟨d,0,none⟩),.int .i64 (n:Int)]) gc hb11 rfl rfl rfl rfl OneC.h fun w12 hb11 hE12 hs12=> ?_)
   have hb2:=hb2.gj hE12 ne2_11
   have hb6:=hb6.gj hE12 ne6_11
   have hA:=hA.ext hE12 fun x hx e=>by have e:x=b11:=e;subst e;exact hF11 hx
   have hr:=Rt.ext hr hE12 fun e=>by have e:0=b11:=e;omega
   have hX:=hX.gh hE12 fr11
   refine qr (gk ?_)
   refine jv (α:=Bool) [0,2,3,4,9,11,12] rfl (fun z=>[(53,.bool z)]) (fun z u=>(z=decide (¬xx8 i D.secs.length B)∧At u d F D2∧Rt u)∧j0 u b2 155 (nwV d o)∧j0 u b6 165 (ge B)∧j0 u b11 155 ([.pointer (some ⟨d,0,none⟩),.int .i64 (n:Int)])∧Ext F w u) ?_ ?_
   ·refine js rfl 17 [qP 0,qP 1,qP 2,qP 3,qP 4,qP 5,qP 6,(7,false),qP 8,qP 9,qP 10,qP 11,qP 12,qP 14,(13,false),qP 15,qP 16] [] (No) zk fun w13 hE13 hs13=> ?_
    have hd6:=hb6
    have hd11:=hb11
    have hb2:=hb2.ga hE13
    have hb6:=hb6.ga hE13
    have hb11:=hb11.ga hE13
    have hA:=hA.ga hE13
    have hr:=Rt.ext hr hE13 id
    have hX:=hX.gb hE13
    have hC:Ext (No) _ w13:=hE13.no
    refine gv gc 2 rfl ?_
    rw[and1 t htl]
    refine gv gc 1 rfl ?_
    rw[kg ((t%2:Nat):Int) zo]
    refine gv gc 3 rfl (Ax 42 rfl (fun hg=> ?_) (fun hg=> ?_))
    ·refine gv gc 11 rfl ?_
     refine jj (ja ?_)
     exact gz (true) rfl ⟨⟨by symm;rw[decide_eq_true_iff];exact fun h=>hg (by rw[ht,h.1]),hA,hr⟩,hb2,hb6,hb11,hX⟩
    have hgi:De B%2=i:=by rw[←ht];omega
    refine qf gc rfl rfl (fun w' hw'=>((hd11.ga hw').ko)) rfl ?_
    refine jg rfl (j3 call70 rfl (fits_calls w13 hA (n:Int) zo) fun v14 w14 hr14=>⟨(by obtain⟨rfl,hE14⟩:=hr14;exact hC.gb hE14),?_⟩)
    obtain⟨rfl,hE14⟩:=hr14
    have hb2:=hb2.ga hE14
    have hb6:=hb6.ga hE14
    have hb11:=hb11.ga hE14
    have hA:=hA.ga hE14
    have hr:=Rt.ext hr hE14 id
    have hX:=hX.gb hE14
    have hC:=hC.gb hE14
    rw[hxs,Int.toNat_natCast]
    refine gv gc 3 rfl (yw0 47 rfl (fun hg=> ?_) (fun hg=> ?_))
    ·have hgf:¬Bf (zq4 B) D.secs.length:=by rw[←hn];intro h;rw[decide_eq_true ⟨Int.natCast_nonneg n,h⟩] at hg;cases hg
     refine gv gc 6 rfl (jj (ja ?_))
     exact gz (true) rfl ⟨⟨by symm;rw[decide_eq_true_iff];exact fun h=>hgf h.2.1,hA,hr⟩,hb2,hb6,hb11,hX⟩
    have hgf:Bf (zq4 B) D.secs.length:=by rw[←hn];simpa using hg
    refine qf gc rfl rfl (fun w' hw'=>((hd11.ga hw').ko)) rfl ?_
    refine gv gc 1 rfl (qf gc rfl rfl (fun w' hw'=>((hd6.ga hw').ko)) (kz hx64) ?_)
    refine jg rfl (j3 call147 rfl (head_calls w14 (.pointer (some ⟨d,0,none⟩)) n t hnl htl rfl hr) fun v15 w15 hr15=>⟨(by obtain⟨rfl,hE15⟩:=hr15;exact hC.gb hE15),?_⟩)
    obtain⟨rfl,hE15⟩:=hr15
    have hb2:=hb2.ga hE15
    have hb6:=hb6.ga hE15
    have hb11:=hb11.ga hE15
    have hA:=hA.ga hE15
    have hr:=Rt.ext hr hE15 id
    have hX:=hX.gb hE15
    refine wd_eqA (xs:=yq8 (yq9 t n)) (ys:=yq8 B) gc rfl rfl zk (yv6 _) (yv6 _) (by rw[Cq,Co]) (by rw[Cq,hx64]) ?_
    simp only[Bool.false_eq_true,if_false]
    refine gv gc 1 rfl (jj (ja ?_))
    exact gz (_) rfl ⟨⟨by rw[decide_eq_decide,ht,hn];exact⟨fun h h2=>h (by rw[h2.2.2]),fun h h2=>h ⟨hgi,hgf,zz6.1 h2⟩⟩,hA,hr⟩,hb2,hb6,hb11,hX⟩
   rintro z w16 ⟨⟨rfl,hA,hr⟩,hb2,hb6,hb11,hX⟩
   refine jl rfl (fun hc=> ?_) (fun hc=> ?_)
   ·refine yo ?_
    exact qy (vf (gz (D2,o) rfl ⟨⟨hA,hxok,by rw[hgo,newer_no hc],hnt,hxs,hr⟩,hb2,hX⟩))
   have hHd:xx8 i D.secs.length B:=Decidable.not_not.1 hc
   refine j7 (j1 (jv (α:=Bool) [0,2,3,4,9,11,12] rfl (fun z=>[(60,.bool z)]) (fun z u=>u=w16∧z=decide (nwE o≠0∨nwT o<t)) ?_ ?_))
   ·refine j4 ?_
    refine j9 gc rfl (jo 56 rfl (fun hg=> ?_) (fun hg=> ?_))
    ·refine j2 gc 4 rfl ?_
     refine gm ?_
     exact gz (true) rfl ⟨rfl,by symm;rw[decide_eq_true_iff];exact .inl hg⟩
    refine j2 gc 4 rfl ?_
    refine gm ?_
    exact gz (_) rfl ⟨rfl,by rw[decide_eq_decide];omega⟩
   rintro z w17 ⟨hu,rfl⟩
   have hu:=hu.symm
   subst hu
   refine jl rfl (fun hc=> ?_) (fun hc=> ?_)
   ·refine j4 ?_
    refine jh hb11 rfl rfl (j9 gc rfl (wl (j8 (l':=[.pointer (some ⟨d,0,none⟩),.int .i64 (n:Int)]) gc hb2 rfl rfl rfl (by rw[Ck];rfl) OneC.h fun w18 hb2 hE18 hs18=> ?_)))
    have hA:=hA.ext hE18 fun x hx e=>by have e:x=b2:=e;subst e;exact hF2 hx
    have hr:=Rt.ext hr hE18 fun e=>by have e:0=b2:=e;omega
    have hX:=hX.gh hE18 fr2
    refine j9 gc rfl (gm ?_)
    exact jy (gz (D2,some (t,n)) rfl ⟨⟨hA,hxok,by rw[hgo,newer_yes hHd (by rw[←ht];exact hc),ht,hn],htl,hxs,hr⟩,hb2,hX⟩)
   refine j7 ?_
   exact jy (gz (D2,o) rfl ⟨⟨hA,hxok,by rw[hgo,newer_old hHd (by rw[←ht];exact hc)],hnt,hxs,hr⟩,hb2,hX⟩)
  rintro⟨D2,o2⟩ w19 ⟨⟨hA,hok2,hgo,hnt,hsec,hr⟩,hb2,hX⟩
  try dsimp only
  dsimp only at hA hok2 hgo hnt hsec
  refine yv rfl ?_
  rw[kg _ zo]
  refine gm ?_
  exact jn (i+1,D2,o2) rfl ⟨⟨by omega,hA,hok2,hgo,hnt,hsec,hr⟩,hb2,hX⟩ zf
 have hi2:i=2:=by omega
 subst hi2
 rw[hgo]
 refine Bi (qa (jh hb2 rfl (Ck _ _) (j9 gc rfl ?_)))
 refine wl (j8 (l':=nwV d o) gc hb2 rfl rfl (Ck _ _) (by rw[Ck]) (nwV_one _ _) fun w20 hb2 hE20 hs20=> ?_)
 have hA:=hA.ext hE20 fun x hx e=>by have e:x=b2:=e;subst e;exact hF2 hx
 have hr:=Rt.ext hr hE20 fun e=>by have e:0=b2:=e;omega
 have hX:=hX.gh hE20 fr2
 refine jz rfl (gq (qz [_,_,_] ⟨⟨b2,0,rfl,u0 gc rfl rfl hb2.ko (Ck _ _)⟩,rfl,rfl,trivial⟩ ?_))
 exact⟨rfl,hA,hX⟩
theorem zv1:∀{R:List Bytes},(∀b∈R,b.length=64)→(R.flatMap ge).length=R.length*64
 | [],_=>rfl
 |b::R,h=>by
  rw[List.flatMap_cons,List.length_append,kz (h b zp),zv1 fun x hx=>h x (by simp[hx]),List.length_cons]
  omega
theorem take_zero {R:List Bytes} {i:Nat} (hi:i<R.length):(∀b∈R.take (i+1),b=zeros)↔(∀b∈R.take i,b=zeros)∧R[i]=zeros:=by
 rw[List.take_succ_eq_append_getElem hi]
 constructor
 ·exact fun h=>⟨fun b a=>h b (List.mem_append_left _ a),h _ (List.mem_append_right _ (List.mem_singleton.2 rfl))⟩
 rintro⟨c,d⟩ b a
 rcases List.mem_append.1 a with a|a
 ·exact c b a
 rw[List.mem_singleton.1 a];exact d
theorem clean_calls (w:World) {x d m c:Nat} {H F:Nat→Prop} {W:Wl} {D:kj} {p:Option Addr} {L:List Bytes} (hW:xi w x d H W) (h:At w d F D) (hok:D.Ok m) (hm:m+2*L.length+10<1000000000) (hs:Sl w p L.length 64 (L.flatMap ge)) (hL:∀b∈L,b.length=64) (hc:L.length≤c) (hu:W.used≤L.length) (hLl:L.length≤100000) (hsz:W.size<1000000) (htu:W.turn<4294967296)
  (hHF:∀y,H y→¬F y) (hpF:∀y off,p=some ⟨y,off,none⟩→0<L.length→¬F y):
  gn prog 137 [.pointer (some ⟨x,0,none⟩),.slice p L.length c] w fun v w'=>v= .int .i64 (Cf D ((ua W.turn W.size+W.used:Nat):Int) (L.drop W.used)).2∧DkQ w d F (Cf D ((ua W.turn W.size+W.used:Nat):Int) (L.drop W.used)).1 w':=by
 obtain⟨⟨q,cq,aq,a,au,av,aw⟩,ab,ax⟩:=hW
 have ar:=h.lt
 have n:=h
 have B:=hHF x ab
 have ay:=a.lt
 obtain⟨R,hR⟩:∃R,R=L.drop W.used:=⟨_,rfl⟩
 have a1:R.length=L.length-W.used:=by rw[hR,List.length_drop]
 have s:∀b∈R,b.length=64:=fun b hb=>hL b (by rw[hR] at hb;exact List.mem_of_mem_drop hb)
 have f:Sl w (u5 p W.used c 64) R.length 64 (R.flatMap ge):=by
  have e:=hs.slice W.used L.length c hu hc (Nat.le_refl _)
  rw[yj3 _ _ hL,←hR,←a1,List.take_of_length_le (Nat.le_of_eq (zv1 s))] at e
  exact e
 have ac:=hs
 have a2:=f
 obtain⟨g,a3⟩:∃g:Int,g=((ua W.turn W.size+W.used:Nat):Int):=⟨_,rfl⟩
 have az:ua W.turn W.size≤1000002:=by unfold ua;split<;>omega
 rw[←hR,←a3]
 refine gx func137 ?_
 have k:=Ext.refl F w
 refine je rfl (qc rfl (gy rfl (a.cell rfl) (gi call74 rfl (dk_pending w n hok zo) fun v1 w1 ad=> ?_)))
 obtain⟨bp,rfl,_,_,O⟩:=ad
 have n:=n.ga O
 have a:=a.ga O
 have f:=f.ga O
 have k:=k.gb O
 refine jz rfl (gk (qc rfl (gy rfl (a.cell rfl) (wl (A5 gc rfl W.used L.length c 64 rfl (.inr ⟨rfl,rfl⟩) (.inr ⟨rfl,rfl⟩) (.inl rfl) hu hc (Nat.le_refl _) ?_)))))
 dsimp only
 rw[←a1]
 refine jz rfl (gr ?_)
 refine jm (α:=Nat×Bool×(Nat→Prop)×kj) [0,22,23] rfl (fun z=>[(5,.bool z.2.1),(24,.int .i64 (z.1:Int))]) (fun z u=>(z.1≤R.length∧At u d z.2.2.1 z.2.2.2∧z.2.2.2.Ok (m+2*z.1)∧C5 D g R=C5 z.2.2.2 (g+(z.1:Nat)) (R.drop z.1)∧(z.2.1=true↔D.order=[]∧∀b∈R.take z.1,b=zeros)∧(∀y,z.2.2.1 y→F y∨w.heap.size≤y)∧j0 u x 162 [.pointer (some ⟨d,0,none⟩),.int .i64 (W.size:Int),.int .u32 (W.turn:Int),.slice q W.pieces.length cq,.int .i64 (W.used:Int),.bool W.broken]∧Sl u (u5 p W.used c 64) R.length 64 (R.flatMap ge))∧Ext F w u) (fun z u=>R.length-z.1) (0,decide ((D.order.length:Int)=0),F,D) rfl ⟨⟨Nat.zero_le _,n,hok,by simp,by simp,fun y hy=> .inl hy,a,f⟩,k⟩ ?_
 rintro⟨i,fl,G,Dz⟩ w2 ⟨⟨hi,n,t,j,C,P,a,f⟩,k⟩
 try dsimp only
 dsimp only at hi n t j C P
 have B:¬G x:=fun e=>(P x e).elim B zo
 have ae:=k.size
 refine je rfl (gk (jl rfl (fun hc=> ?_) (fun hc=> ?_)))
 ·have l:i<R.length:=by omega
  obtain⟨X,po,Y,af⟩:=f.qm (fun r hr=>kz (s r hr)) zo
  have b0:X<w.heap.size:=by
   obtain⟨b1,b2,V,a4⟩:=a2.qm (fun r hr=>kz (s r hr)) zo
   rw[Y] at V
   cases V
   exact(a4 i l).lt (fun e=>by have:=congrArg List.length e;rw[kz (s _ (List.getElem_mem _))] at this;cases this)
  have a5:¬F X:=by
   obtain⟨pL,oL,ag,_⟩:=ac.qm (fun r hr=>kz (hL r hr)) zo
   obtain⟨a6,e'⟩:=yj6 Y (fun y o sp e=>by rw[ag] at e;cases e;rfl)
   exact hpF X a6 e' zo
  have a7:¬G X:=fun e=>(P X e).elim a5 zo
  rw[Y] at f⊢
  have A:=s _ (List.getElem_mem l)
  refine j7 (j1 ?_)
  refine jv (α:=Bool×(Nat→Prop)×kj) [0,22,23,24] rfl (fun z=>[(5,.bool z.1)]) (fun z u=>(At u d z.2.1 z.2.2∧z.2.2.Ok (m+2*(i+1))∧C5 D g R=C5 z.2.2 (g+(i+1:Nat)) (R.drop (i+1))∧(z.1=true↔D.order=[]∧∀b∈R.take (i+1),b=zeros)∧(∀y,z.2.1 y→F y∨w.heap.size≤y)∧j0 u x 162 [.pointer (some ⟨d,0,none⟩),.int .i64 (W.size:Int),.int .u32 (W.turn:Int),.slice q W.pieces.length cq,.int .i64 (W.used:Int),.bool W.broken]∧Sl u (some ⟨X,po,none⟩) R.length 64 (R.flatMap ge))∧Ext F w u) ?_ ?_
  ·refine gr ?_
   refine qc rfl (ki rfl 64 rfl i rfl l (po+i*64) rfl (jr rfl (af i l) (kz A) ?_))
   have ah:=n.lt
   refine gw rfl fun b7 w3 ai Z Q=> ?_
   have aj:=Nat.le_trans k.size ai
   have n:=n.ga Q
   have a:=a.ga Q
   have f:=f.ga Q
   have k:=k.gb Q
   refine j9 gc rfl ?_
   have ak:¬G b7:=fun e=>by have:=ah _ e;omega
   refine wl (j8 (l':=ge R[i]) gc Z rfl rfl (kz A) (by rw[kz A];rfl) OneC.h fun w4 Z S b3=> ?_)
   have n:=n.ext S fun x hx e=>by have e:x=b7:=e;subst e;exact ak hx
   have a:=a.ext S fun e=>by have e:x=b7:=e;omega
   have f:=f.ext S fun b o e h=>by cases e;have h:X=b7:=h;omega
   have k:=k.gh S aj
   refine qr (gk (qa (jh Z rfl (kz A) (qg rfl trivial (l':=ge zeros) (by rw[zeros_b];rfl) ?_))))
   refine wl (st_eqA (xs:=yq8 R[i]) (ys:=yq8 zeros) gc rfl zk (yv6 _) (yv6 _) (by rw[Cq,A]) (by rw[Cq,zeros_length]) ?_)
   simp only[if_true]
   refine qr (jl rfl (fun hc=> ?_) (fun hc=> ?_))
   ·have hz:=zz6.1 hc
    rw[wipeD_zero l hz] at j
    refine yo ?_
    exact qy (vf (gz (fl,G,Dz) rfl ⟨⟨n,t.mono zo,j,C.trans (by rw[take_zero l];exact⟨fun h=>⟨h.1,h.2,hz⟩,fun h=>⟨h.1,h.2.1⟩⟩),P,a,f⟩,k⟩))
   have hz:¬R[i]=zeros:=fun e=>hc (zz6.2 e)
   rw[wipeD_step l hz] at j
   refine j7 (j1 (je rfl (gk ?_)))
   refine js rfl 24 [qP 0,qP 1,qP 2,qP 3,qP 4,qP 5,qP 6,qP 7,qP 8,qP 9,qP 10,qP 11,qP 12,qP 14,qP 15,qP 16,qP 17,qP 19,qP 21,(13,false),qP 18,qP 20,(22,false),qP 23] [] (G) zk fun w5 K b4=> ?_
   have J:=a
   have n:=n.ga K
   have a:=a.ga K
   have f:=f.ga K
   have k:=k.gb K
   have hC:Ext (G) _ w5:=K.no
   refine gv gc 4 rfl (j6 gc rfl rfl (fun w' E=>((J.ext E B).cell rfl)) ?_)
   refine gv gc 3 rfl (qf gc rfl rfl (fun w' E=>((J.ext E B).ko.take 2)) rfl ?_)
   refine gv gc 3 rfl (j6 gc rfl rfl (fun w' E=>((J.ext E B).cell rfl)) ?_)
   refine gv gc 3 rfl (j6 gc rfl rfl (fun w' E=>((J.ext E B).cell rfl)) ?_)
   refine gv gc 1 rfl (xw0 gc rfl rfl trivial (l':=ge zeros) (by rw[zeros_b];rfl) ?_)
   refine jg rfl (j3 call120 rfl (zw3 w5 (.pointer (some ⟨d,0,none⟩)) W.size W.turn zo htu rfl) fun v6 w6 a8=>⟨(by obtain⟨rfl,I⟩:=a8;exact hC.gb I),?_⟩)
   obtain⟨rfl,I⟩:=a8
   have n:=n.ga I
   have a:=a.ga I
   have f:=f.ga I
   have k:=k.gb I
   have hC:=hC.gb I
   refine gv gc 2 rfl ?_
   rw[show IntKind.i64.wrap (IntKind.i64.wrap ((ua W.turn W.size:Int)+(W.used:Int))+(i:Int))=g+(i:Nat) from by rw[kg ((ua W.turn W.size:Int)+(W.used:Int)) zo,kg _ zo,a3];omega]
   have al:=k.size
   refine jg rfl (j3 call143 rfl (dkWrite w6 n t zo (g+(i:Nat)) zeros_length) fun v7 w7 a9=>⟨(by obtain⟨rfl,G2,M,N,T⟩:=a9;exact hC.then N),?_⟩)
   obtain⟨rfl,G2,M,N,T⟩:=a9
   have k:=k.trans N fun y hy e=>(P y e).resolve_right zo
   have a:=a.ext N B
   have f:=f.ext N fun b o e h=>by cases e;exact a7 h
   have U:=yw P al T
   refine gv gc 1 rfl (jj (ja (j1 (je rfl (jl rfl (fun hc=> ?_) (fun hc=> ?_))))))
   ·rw[if_pos hc] at j
    have a0:Cf D g R=Dz.write (g+(i:Nat)) zeros:=by unfold Cf;dsimp only;rw[j,if_pos hc]
    rw[a0]
    refine je rfl (gq (ji (gp (gp (ji (gp (gu rfl rfl ?_)))))))
    exact⟨rfl,G2,M,k,U⟩
   rw[if_neg hc] at j
   refine j7 ?_
   exact jy (gz (false,G2,(Dz.write (g+(i:Nat)) zeros).1) rfl ⟨⟨M,t.write _ zeros_length,j,⟨fun h=>(by cases h),fun h=>absurd (((take_zero l).1 h.2).2) hz⟩,U,a,f⟩,k⟩)
  rintro⟨am,G2,D2⟩ w8 ⟨⟨n,aa,j,C,U,a,f⟩,k⟩
  refine yv rfl ?_
  rw[kg _ zo]
  refine gm ?_
  exact jn (i+1,am,G2,D2) rfl ⟨⟨l,n,aa,j,C,U,a,f⟩,k⟩ zf
 have l:i=R.length:=by omega
 subst l
 rw[List.drop_length] at j
 rw[List.take_length] at C
 have a0:Cf D g R=if fl=true then(Dz,0) else Dz.sync:=by
  unfold Cf
  dsimp only
  rw[j]
  show(if(0:Int)≠0 then _ else _)=_
  rw[if_neg zd]
  by_cases hf:fl=true
  ·rw[if_pos (C.1 hf),if_pos hf];rfl
  rw[if_neg (fun e=>hf (C.2 e)),if_neg hf];rfl
 rw[a0]
 refine Bi (gk (je rfl (vj rfl (fun hc=> ?_) (fun hc=> ?_))))
 ·rw[if_pos hc]
  refine je rfl (gq (gp (gu rfl rfl ?_)))
  exact⟨rfl,G,n,k,P⟩
 rw[if_neg (by rw[hc];decide)]
 refine j7 (j1 (qc rfl (gy rfl (a.cell rfl) (gi call144 rfl (dkSync w2 n t zo) fun v9 w9 an=> ?_))))
 obtain⟨rfl,G2,M,ao,T⟩:=an
 have ap:=k.trans ao fun y hy e=>(P y e).resolve_right zo
 refine jz rfl (gq (gu rfl rfl ?_))
 exact⟨rfl,G2,M,ap,yw P ae T⟩
theorem lies_calls' (w:World) {p:Option Addr} {c t n:Nat} {L:List Bytes} (hs:Sl w p L.length 64 (L.flatMap ge)) (hL:∀b∈L,b.length=64) (hc:L.length≤c) (hLl:L.length≤100000) (ht:t<4294967296) (hn:n<4294967296) (hr:Rt w):
  gn prog 136 [.slice p L.length c,.int .u32 (t:Int),.int .u32 (n:Int)] w fun v w'=>∃q k,v= .tuple #[.slice q ((Da L t n).getD []).length k,.bool (Da L t n).isSome]∧(∀b,Da L t n=some b→ye w w' q k b)∧Ext No w w':=by
 refine(lies_calls w hs hL hc hLl ht hn hr).mono ?_
 rintro v w' ⟨h,a⟩
 cases ho:Da L t n with
 |none=>rw[ho] at h;exact⟨none,0,h,(fun b e=>by cases e),a⟩
 |some b=>rw[ho] at h;obtain⟨q,k,d,f⟩:=h;exact⟨q,k,d,(fun g e=>by cases e;exact f),a⟩
theorem noOwnB {w:World}:∀y,jd none y→w.heap.size≤y:=fun y h=>by cases h
theorem TyB.lt {w:World} {b T:Nat} (h:TyB w b T):b<w.heap.size:=let⟨_,h⟩:=h;h.lt
theorem flat_rep (n:Nat):(List.replicate n zeros).flatMap ge=C1 n (ge zeros):=by
 unfold C1
 rw[List.flatMap_def,List.map_replicate]
theorem pad64 {R:List Bytes} (h:∀b∈R,b.length=64) {n:Nat}:∀b∈R++List.replicate n zeros,b.length=64:=fun b hb=>(List.mem_append.1 hb).elim (h b) (zeros_64 b)
theorem pad_len {R:List Bytes} {n i:Nat} (hi:i≤n) (hR:R.length=i):(R++List.replicate (n-i) zeros).length=n:=by simp[hR];omega
theorem yj0 {R:List Bytes} {n i:Nat} (hi:i<n) (hR:R.length=i) (h64:∀b∈R,b.length=64) {b:Bytes} (hb:b.length=64):
  Vc.put ((R++List.replicate (n-i) zeros).flatMap ge) (i*64) (ge b)=((R++[b])++List.replicate (n-(i+1)) zeros).flatMap ge:=by
 have c:(R.flatMap ge).length=i*64:=by rw[zv1 h64,hR]
 have e:List.replicate (n-i) zeros=zeros::List.replicate (n-(i+1)) zeros:=by rw[show n-i=(n-(i+1))+1 from by omega,List.replicate_succ]
 have d:(ge zeros).length=64:=kz zeros_length
 have a:(ge b).length=64:=kz hb
 rw[e,List.flatMap_append,List.flatMap_cons,put_eq _ _ _ (by simp only[List.length_append,c,d,a];omega),List.take_left' c,a]
 rw[List.drop_append,List.drop_eq_nil_of_le zo,c,List.nil_append,show i*64+64-i*64=64 from by omega,List.drop_left' d]
 simp[List.flatMap_append,List.append_assoc]
theorem open_calls (w:World) {d m:Nat} {F:Nat→Prop} {D:kj} (h:At w d F D) (hok:D.Ok m) (hm:m+10000<1000000000) (hr:Rt w) (hF0:¬F 0):
  gn prog 58 [.pointer (some ⟨d,0,none⟩)] w fun v w'=>∃(xo:Option Addr) (F':Nat→Prop),v= .tuple #[.pointer xo,.int .i64 (ui D).2.1]∧At w' d F' (ui D).1∧Ext F w w'∧(∀y,F' y→F y∨w.heap.size≤y)∧((ui D).2.1≠0→xo=none)∧((ui D).2.1=0→LogOf w w' d F' xo (Wl.opened (ui D))):=by
 refine gx func58 ?_
 have k:=Ext.refl F w
 have S:=h.lt
 have cp:=hr.lt
 have p:=h
 refine je rfl (c_scope (gk (je rfl (ur rfl (j7 (j1 (qc rfl ?_)))))))
 refine gi call135 rfl (newest_calls w p hok zo hr hF0) fun v1 w1 c0=> ?_
 obtain⟨rfl,p,bb⟩:=c0
 have k:=k.then bb
 have hr:=Rt.ext hr bb hF0
 obtain⟨⟨ap,bc,bd⟩,Y⟩:=xj5 hok
 obtain⟨e,he⟩:∃e,e=(u1 D).2.1:=⟨_,rfl⟩
 rw[←he] at Y⊢
 refine j9 gc rfl (gw rfl fun b4 w2 bf g b1=> ?_)
 have c1:=Nat.le_trans k.size bf
 have p:=p.ga b1
 have hr:=Rt.ext hr b1 id
 have k:=k.gb b1
 have bg:¬F b4:=fun e=>by have:=S _ e;omega
 refine wl (j8 (l':=nwV d (u1 D).2.2) gc g rfl rfl (Ck _ _) (by rw[Ck];rfl) (nwV_one _ _) fun w3 g b2 cr=> ?_)
 have p:=p.ext b2 fun x hx e=>by have e:x=b4:=e;subst e;exact bg hx
 have hr:=Rt.ext hr b2 fun e=>by have e:0=b4:=e;omega
 have k:=k.gh b2 c1
 refine jz rfl (gk (je rfl (jl rfl (fun Q=> ?_) (fun Q=> ?_))))
 ·have c2:(u1 D).2.2=none:=Y.elim (fun h=>h.1) fun⟨t,n,_,h,_⟩=>absurd h Q
  have ho:=openW_no c2
  rw[←he] at ho
  rw[ho]
  refine je rfl (gq (gp (zz2 (qz [_,_] ⟨rfl,rfl,trivial⟩ ?_))))
  exact⟨none,F,rfl,p,k,fun y o=> .inl o,fun _=>rfl,fun e=>absurd e Q⟩
 obtain⟨t,n,a6,_,aq,ht⟩:=Y.resolve_left fun h=>h.2 (Decidable.not_not.1 Q)
 rw[a6] at g⊢
 have g:j0 w3 b4 155 [.pointer (some ⟨d,0,none⟩),.int .i64 (n:Int)]:=g
 have ho:=openW_yes a6
 rw[ho]
 obtain⟨D1,c3⟩:∃D1,D1=(u1 D).1:=⟨_,rfl⟩
 rw[←c3] at p ap bc bd⊢
 have bf:=aq.1
 have cs:=aq.2.1
 have ct:ua t n≤1002:=by unfold ua;split<;>omega
 dsimp only[nwT]
 refine j7 (j1 (qc rfl (gy rfl (g.cell rfl) ?_)))
 refine wl (zx0 gc rfl n n 64 rfl (zs:=ge zeros) z29 rfl zd rfl rfl (Nat.le_refl _) zo zr fun J w4 ar a ai cu=> ?_)
 have aj:=j5 g.lt ar
 have bh:=Nat.le_trans k.size ar
 have g:=g.ga ai
 have p:=p.ga ai
 have hr:=Rt.ext hr ai id
 have k:=k.gb ai
 have a:j0 w4 J 165 ((([]:List Bytes)++List.replicate (n-0) zeros).flatMap ge):=by(rw[List.nil_append,Nat.sub_zero,flat_rep];exact a)
 have a7:¬F J:=fun e=>by have:=S _ e;omega
 refine jz rfl (gk (je rfl (gr ?_)))
 refine jm (α:=Nat×kj×List Bytes) [0,4,5,7,28] rfl (fun z=>[(29,.int .i64 (z.1:Int))]) (fun z u=>(z.1≤n∧At u d F z.2.1∧z.2.1.Ok (m+2+z.1)∧z.2.2.length=z.1∧(∀b∈z.2.2,b.length=64)∧xp D1 (ua t n) n=((xp z.2.1 ((ua t n:Int)+(z.1:Nat)) (n-z.1)).1,z.2.2++(xp z.2.1 ((ua t n:Int)+(z.1:Nat)) (n-z.1)).2.1,(xp z.2.1 ((ua t n:Int)+(z.1:Nat)) (n-z.1)).2.2)∧Rt u)∧j0 u b4 155 ([.pointer (some ⟨d,0,none⟩),.int .i64 (n:Int)])∧j0 u J 165 ((z.2.2++List.replicate (n-z.1) zeros).flatMap ge)∧Ext F w u) (fun z u=>n-z.1) (0,D1,[]) rfl ⟨⟨Nat.zero_le _,p,ap,rfl,(fun b hb=>by cases hb),by simp,hr⟩,g,a,k⟩ ?_
 rintro⟨i,Di,R⟩ w5 ⟨⟨hi,p,V,U,K,s,hr⟩,g,a,k⟩
 try dsimp only
 dsimp only at hi p V U K s
 refine je rfl (gk (jl rfl (fun Q=> ?_) (fun Q=> ?_)))
 ·have a8:i<n:=by omega
  rw[show n-i=(n-(i+1))+1 from by omega,readsD_step] at s
  refine xz (gr (je rfl (qc rfl (jh g rfl rfl (j9 gc rfl ?_)))))
  refine gi call120 rfl (zw3 w5 (.pointer (some ⟨d,0,none⟩)) n t zo ht rfl) fun v6 w6 c4=> ?_
  obtain⟨rfl,a9⟩:=c4
  have g:=g.ga a9
  have a:=a.ga a9
  have p:=p.ga a9
  have hr:=Rt.ext hr a9 id
  have k:=k.gb a9
  refine j9 gc rfl ?_
  rw[kg _ zo]
  refine gi call78 rfl (dkRead w6 p V zo ((ua t n:Int)+(i:Nat))) fun v7 w7 c5=> ?_
  obtain⟨rfl,p,ak⟩:=c5
  have g:=g.ext ak bg
  have a:=a.ext ak a7
  have k:=k.then ak
  have hr:=Rt.ext hr ak hF0
  obtain⟨x,hx⟩:∃x,x=Di.read ((ua t n:Int)+(i:Nat)):=⟨_,rfl⟩
  have W:=read_64 V ((ua t n:Int)+(i:Nat))
  have aa:=V.read ((ua t n:Int)+(i:Nat))
  rw[←hx] at s W aa p⊢
  obtain⟨D2,B,e2⟩:=x
  dsimp only at s W aa p⊢
  refine j9 gc rfl (ki rfl 64 rfl i rfl a8 (0+i*64) rfl ?_)
  refine wl (zw6 gc a rfl (by rw[ju];exact kz W) (by rw[zv1 (pad64 K),pad_len zo U];show 0+i*64+64≤n*64;omega) (by rw[ju];exact Bv) fun w8 a al cv=> ?_)
  have g:=g.gj al aj
  have p:=p.ext al fun x hx e=>by have e:x=J:=e;subst e;exact a7 hx
  have hr:=Rt.ext hr al fun e=>by have e:0=J:=e;omega
  have k:=k.gh al bh
  have a:j0 w8 J 165 (((R++[B])++List.replicate (n-(i+1)) zeros).flatMap ge):=(by rw[←yj0 a8 U K W];have e:=a;rw[Nat.zero_add] at e;simpa using e)
  refine jz rfl (je rfl (jl rfl (fun Q=> ?_) (fun Q=> ?_)))
  ·rw[if_pos Q] at s
   have ab:vm D1 t n=(D2,e2,0,0,[]):=by
    unfold vm
    dsimp only
    rw[s,if_pos Q]
   rw[ab]
   refine je rfl (gq (ji (gp (gp (ji (gp (zz2 (qz [_,_] ⟨rfl,rfl,trivial⟩ ?_))))))))
   exact⟨none,F,rfl,p,k,fun y o=> .inl o,fun _=>rfl,fun e=>absurd e Q⟩
  rw[if_neg Q] at s
  refine j7 (Bo rfl ?_)
  rw[kg _ zo]
  refine gm ?_
  exact jn (i+1,D2,R++[B]) rfl ⟨⟨a8,p,aa,by simp[U],fun b hb=>(List.mem_append.1 hb).elim (K b) fun h=>by rw[List.mem_singleton.1 h];exact W,by rw[s];dsimp only;rw[show(ua t n:Int)+((i+1:Nat):Int)=(ua t n:Int)+(i:Nat)+1 from by omega,List.append_assoc];rfl,hr⟩,g,a,k⟩ zf
 have a8:n=i:=by omega
 subst a8
 rw[Nat.sub_self] at s a
 have s:xp D1 (ua t n) n=(Di,R,0):=by rw[s];show(Di,R++[],(0:Int))=_;rw[List.append_nil]
 rw[List.replicate_zero,List.append_nil] at a
 refine Bi (qa (jh g rfl rfl (j9 gc rfl ?_)))
 refine qg rfl ⟨⟨rfl,by decide⟩,⟨rfl,by decide⟩,trivial⟩ (l':=[.pointer (some ⟨d,0,none⟩),.int .i64 (n:Int),.int .u32 (t:Int),.slice none 0 0,.int .i64 (0:Int),.bool false]) rfl ?_
 refine gw rfl fun L w9 a1 f ac=> ?_
 have a2:=j5 g.lt a1
 have X:=j5 a.lt a1
 have ad:=Nat.le_trans k.size a1
 have g:=g.ga ac
 have a:=a.ga ac
 have p:=p.ga ac
 have hr:=Rt.ext hr ac id
 have k:=k.gb ac
 have f:j0 w9 L 162 ([.pointer (some ⟨d,0,none⟩),.int .i64 (n:Int),.int .u32 (t:Int),.slice none ([]:List Bytes).length 0,.int .i64 (u7 []:Int),.bool false]):=f
 have au:¬F L:=fun e=>by have:=S _ e;omega
 have cf:=a1
 have cg:=k.size
 refine jz rfl (gk (c_label (j1 (gk (gr ?_)))))
 refine jm (α:=List Bytes×Option Addr×Nat×List Value) [5,7,9] rfl (fun z=>[]) (fun z u=>(u7 z.1≤n∧z.1.length≤u7 z.1∧(∀b∈z.1,b.length≤40000)∧lyingB R t=z.1++lyGo t (R.length-z.1.length) (R.drop (u7 z.1)) z.1.length∧At u d F Di∧Rt u∧Own u z.2.1 z.1.length z.2.2.1 41 1 z.2.2.2∧(∀y,jd z.2.1 y→w.heap.size≤y)∧qj u (fun y=>w.heap.size≤y∧y<u.heap.size) z.1 z.2.2.2)∧j0 u b4 155 ([.pointer (some ⟨d,0,none⟩),.int .i64 (n:Int)])∧j0 u J 165 (R.flatMap ge)∧j0 u L 162 ([.pointer (some ⟨d,0,none⟩),.int .i64 (n:Int),.int .u32 (t:Int),.slice z.2.1 z.1.length z.2.2.1,.int .i64 (u7 z.1:Int),.bool false])∧Ext F w u) (fun z u=>n-u7 z.1) ([],none,0,[]) rfl ⟨⟨Nat.zero_le _,Nat.le_refl _,(fun b hb=>by cases hb),rfl,p,hr,Own.nil _ _ _,noOwnB,⟨rfl,fun i b v h=>by cases h⟩⟩,g,a,f,k⟩ ?_
 rintro⟨G,q,cq,ae⟩ cw ⟨⟨b3,c6,bi,Z,p,hr,j,a5,r⟩,g,a,f,k⟩
 try dsimp only
 dsimp only at b3 c6 bi Z j a5 r f
 have am:(R.drop (u7 G)).length=n-u7 G:=by rw[List.length_drop,U]
 have a3:∀b∈R.drop (u7 G),b.length=64:=fun b hb=>K b (List.mem_of_mem_drop hb)
 rw[lyGo_step t _ _ _ a3 (by rw[am,U];omega)] at Z
 refine gr (gk ?_)
 refine js rfl 19 [qP 0,qP 1,qP 2,qP 3,qP 4,qP 5,qP 6,qP 7,qP 8,qP 9,qP 10,qP 11,qP 12,(13,false),qP 14,qP 15,qP 16,qP 17,qP 18] [] (No) zk fun af H ch=> ?_
 have a4:=f
 have g:=g.ga H
 have a:=a.ga H
 have f:=f.ga H
 have p:=p.ga H
 have hr:=Rt.ext hr H id
 have r:=qj.mono (H':=fun y=>w.heap.size≤y∧y<af.heap.size) (r.ext H fun _ _ _=>id) fun y o=>And.intro o.1 (Nat.lt_of_lt_of_le o.2 H.size)
 have j:=j.ext H fun _ _=>id
 have k:=k.gb H
 have hC:Ext (No) _ af:=H.no
 refine gv gc 4 rfl (j6 gc rfl rfl (fun w' ag=>((a4.ga ag).cell rfl)) ?_)
 refine zx1 gc rfl rfl (u7 G) n n 64 rfl (.inr ⟨rfl,rfl⟩) (.inr ⟨rfl,rfl⟩) (.inl rfl) b3 (Nat.le_refl _) (Nat.le_refl _) ?_
 dsimp only
 rw[←am]
 refine gv gc 4 rfl (j6 gc rfl rfl (fun w' ag=>((a4.ga ag).cell rfl)) ?_)
 refine gv gc 2 rfl ?_
 rw[wrap32 G.length zo]
 have c7:Sl af (u5 (some ⟨J,0,none⟩) (u7 G) n 64) (R.drop (u7 G)).length 64 ((R.drop (u7 G)).flatMap ge):=by
  have c8:Sl af (some ⟨J,0,none⟩) n 64 (R.flatMap ge):=⟨by rw[zv1 K,U],.inr ⟨J,0,rfl,a.ko⟩⟩
  have e:=c8.slice (u7 G) n n b3 (Nat.le_refl _) (Nat.le_refl _)
  rw[yj3 _ _ K,List.take_of_length_le (by rw[zv1 a3,am];exact Nat.le_refl _),←am] at e
  exact e
 have cx:=k.size
 refine jg rfl (j3 call136 rfl (lies_calls' af (c:=(R.drop (u7 G)).length) c7 a3 (Nat.le_refl _) zo ht (n:=G.length) zo hr) fun cy a0 av=>⟨(by obtain⟨qp,kp,rfl,b5,A⟩:=av;exact hC.gb A),?_⟩)
 obtain⟨qp,kp,rfl,b5,A⟩:=av
 have g:=g.ga A
 have a:=a.ga A
 have f:=f.ga A
 have p:=p.ga A
 have hr:=Rt.ext hr A id
 have r:=qj.mono (H':=fun y=>w.heap.size≤y∧y<a0.heap.size) (r.ext A fun _ _ _=>id) fun y o=>And.intro o.1 (Nat.lt_of_lt_of_le o.2 A.size)
 have j:=j.ext A fun _ _=>id
 have k:=k.gb A
 have hC:=hC.gb A
 refine gv gc 5 rfl (jj (ja (j1 (gk (je rfl (vj rfl (fun Q=> ?_) (fun Q=> ?_)))))))
 ·have an:Da (R.drop (u7 G)) t G.length=none:=by
   cases hl:Da (R.drop (u7 G)) t G.length with
   |none=>rfl
   |some b=>rw[hl] at Q;cases Q
  rw[an,List.append_nil] at Z
  refine yo (qy (f_blockE' rfl (qy (vf (j1 (gk (qc rfl (gy rfl (f.cell rfl) (jz rfl (jl rfl (fun Q=> ?_) (fun Q=> ?_)))))))))))
  ·have b6:G=[]:=List.eq_nil_of_length_eq_zero zo
   have ab:vm D1 t n=(Di,140,0,0,[]):=by
    unfold vm
    dsimp only
    rw[s,if_neg zp,Z,if_pos b6]
   rw[ab]
   refine je rfl (gq (gp (zz2 (qz [_,_] ⟨rfl,rfl,trivial⟩ ?_))))
   exact⟨none,F,rfl,p,k,fun y o=> .inl o,fun _=>rfl,fun e=>absurd (show(140:Int)=0 from e) zd⟩
  have b6:G≠[]:=fun e=>Q (by rw[e];rfl)
  obtain⟨C,hC⟩:∃C,C=Cf Di ((ua t n+u7 G:Nat):Int) (R.drop (u7 G)):=⟨_,rfl⟩
  have ab:vm D1 t n=(C.1,C.2,t,n,G):=by
   unfold vm
   dsimp only
   rw[s,if_neg zp,Z,if_neg b6,hC]
  rw[ab]
  have aw:xi a0 L d (fun y=>w.heap.size≤y∧y<a0.heap.size) ⟨Di,n,t,G,u7 G,false⟩:=⟨⟨q,cq,ae,f,j,r,fun y o=>⟨a5 y o,j.lt o⟩⟩,⟨ad,f.lt⟩,fun y o=>o.2⟩
  have bj:Sl a0 (some ⟨J,0,none⟩) R.length 64 (R.flatMap ge):=⟨zv1 K,.inr ⟨J,0,rfl,a.ko⟩⟩
  have c9:=k.size
  refine xz (qc rfl ?_)
  rw[show Value.slice (some ⟨J,0,none⟩) n n= .slice (some ⟨J,0,none⟩) R.length n from by rw[U]]
  refine gi call137 rfl (clean_calls a0 (c:=n) aw p V (by rw[U];omega) bj K zo zn zo zn ht (fun y o e=>by have:=S y e;have:=o.1;omega) (fun y ao e _ h=>by cases e;exact a7 h)) fun cz d0 bk=> ?_
  obtain⟨rfl,F2,b7,ax,bm⟩:=bk
  rw[←hC] at b7⊢
  have k:=k.then ax
  have b8:=aw.ext ax fun y o e=>by have:=S y e;have:=o.1;omega
  have bn:=yw (fun y=> .inl) c9 bm
  refine jz rfl (je rfl (jl rfl (fun Q=> ?_) (fun Q=> ?_)))
  ·refine gk ?_
   refine j4 (jz rfl (gq (gp (zz2 (qz [_,_] ⟨rfl,rfl,trivial⟩ ?_)))))
   exact⟨none,F2,rfl,b7,k,bn,fun _=>rfl,fun e=>absurd e Q⟩
  refine j7 ?_
  refine j1 (je rfl (gq (zz2 (qz [_,_] ⟨rfl,rfl,trivial⟩ ?_))))
  have bo:C.2=0:=Decidable.not_not.1 Q
  refine⟨some ⟨L,0,none⟩,F2,by dsimp only;rw[bo];rfl,b7,k,bn,fun e=>absurd bo e,fun _=>⟨L,_,rfl,b8.data rfl rfl rfl rfl rfl,fun y o=>⟨o.1,fun e=> ?_⟩⟩⟩
  rcases bm y e with e|e
  ·have:=S y e;have:=o.1;omega
  have:=o.2;omega
 obtain⟨b,an⟩:∃b,Da (R.drop (u7 G)) t G.length=some b:=by
  cases hl:Da (R.drop (u7 G)) t G.length with
  |none=>rw[hl] at Q;cases Q
  |some b=>exact⟨b,rfl⟩
 rw[an] at Z b5⊢
 obtain⟨ay,d1,_⟩:=liesB_some a3 an
 have d2:=Cl ay
 obtain⟨ca,bp,ah⟩:=b5 b rfl
 have cb:y6 a0 (fun y=>w.heap.size≤y∧y<a0.heap.size) (.slice qp b.length kp) b:=⟨qp,kp,rfl,ca,bp,fun y ao e=>⟨⟨by have:=(ah y ao e).1;omega,(ah y ao e).2.lt⟩,(ah y ao e).2⟩⟩
 dsimp only[Option.getD_some]
 have r:=r.snoc cb
 refine j7 (j1 (qc rfl (gy rfl (f.cell rfl) (j9 gc rfl ?_))))
 have ci:=fun y (o:jd q y)=>j.lt o
 refine wl (qd gc rfl 1 rfl rfl rfl zd zd zt (l':=[.slice qp b.length kp]) rfl fun cc cd cj bq M ck=> ?_)
 have g:=g.ga M
 have a:=a.ga M
 have f:=f.ga M
 have p:=p.ga M
 have hr:=Rt.ext hr M id
 have r:=qj.mono (H':=fun y=>w.heap.size≤y∧y<cd.heap.size) (r.ext M fun _ _ _=>id) fun y o=>And.intro o.1 (Nat.lt_of_lt_of_le o.2 M.size)
 have j:=j.ext M fun _ _=>id
 have k:=k.gb M
 have d3:=k.size
 refine wl (uh gc rfl 1 24 rfl rfl rfl zd j (Src.slice (m:=1) ⟨rfl,.inr ⟨cc,0,rfl,bq.ko⟩⟩ OneC.h) zm zn fun b9 br bs bt N bu=> ?_)
 have g:=g.ext N fun e=>(Own.ty j e).ne g zd rfl
 have a:=a.ext N fun e=>(Own.ty j e).ne a zd rfl
 have f:=f.ext N fun e=>(Own.ty j e).ne f zd rfl
 have k:=k.trans N fun y o e=>by have:=a5 y e;omega
 have p:=p.ext N fun y o e=>by have:=a5 y e;have:=S y o;omega
 have hr:=Rt.ext hr N fun e=>by have:=a5 _ e;omega
 have r:=qj.mono (H':=fun y=>w.heap.size≤y∧y<bs.heap.size) (r.ext N fun y o ht h=>by obtain⟨l,hl⟩:=Own.ty j h;exact ht.ne hl zd rfl) fun y o=>And.intro o.1 (Nat.lt_of_lt_of_le o.2 N.size)
 have az:∀y,jd b9 y→w.heap.size≤y:=fun y o=>(bu y o).elim (a5 y) fun e=>by omega
 have j:Own bs b9 (G++[b]).length br 41 1 (ae++[.slice qp b.length kp]):=by rw[List.length_append];exact bt
 dsimp only
 refine j9 gc rfl ?_
 have T:=f
 obtain⟨pn,bv⟩:∃pn,pn=b9:=⟨_,rfl⟩
 obtain⟨cn,bw⟩:∃cn,cn=br:=⟨_,rfl⟩
 rw[←bv] at j az⊢
 rw[←bw] at j⊢
 refine ky f rfl rfl rfl fun bx f O cl=> ?_
 have g:=g.gj O a2
 have a:=a.gj O X
 have p:=p.ext O fun x hx e=>by have e:x=L:=e;subst e;exact au hx
 have hr:=Rt.ext hr O fun e=>by have e:0=L:=e;omega
 have r:=qj.mono (H':=fun y=>w.heap.size≤y∧y<bx.heap.size) (r.ext O fun y o ht h=>by have h:y=L:=h;subst h;exact ht.ne T zd rfl) fun y o=>And.intro o.1 (Nat.lt_of_lt_of_le o.2 O.size)
 have j:=j.kc O T zd
 have k:=k.gh O ad
 have f:j0 bx L 162 ([.pointer (some ⟨d,0,none⟩),.int .i64 (n:Int),.int .u32 (t:Int),.slice pn (G++[b]).length cn,.int .i64 (u7 G:Int),.bool false]):=by(rw[List.length_append];exact f)
 refine qr (js rfl 10 [qP 0,qP 1,qP 2,qP 3,qP 4,qP 5,(6,false),qP 7,qP 8,qP 9] [10] (No) zk fun ba I cm=> ?_)
 have a4:=f
 have g:=g.ga I
 have a:=a.ga I
 have f:=f.ga I
 have p:=p.ga I
 have hr:=Rt.ext hr I id
 have r:=qj.mono (H':=fun y=>w.heap.size≤y∧y<ba.heap.size) (r.ext I fun _ _ _=>id) fun y o=>And.intro o.1 (Nat.lt_of_lt_of_le o.2 I.size)
 have j:=j.ext I fun _ _=>id
 have k:=k.gb I
 have hC:Ext (No) _ ba:=I.no
 refine gv gc 3 rfl (j6 gc rfl rfl (fun w' ag=>((a4.ext ag id).cell rfl)) ?_)
 refine gv gc 2 rfl (jg rfl (j3 call65 rfl (vo ba (b.length:Int)) fun d4 ce b0=>⟨(by obtain⟨rfl,E⟩:=b0;exact hC.gb E),?_⟩))
 obtain⟨rfl,E⟩:=b0
 have g:=g.ga E
 have a:=a.ga E
 have f:=f.ga E
 have p:=p.ga E
 have hr:=Rt.ext hr E id
 have r:=qj.mono (H':=fun y=>w.heap.size≤y∧y<ce.heap.size) (r.ext E fun _ _ _=>id) fun y o=>And.intro o.1 (Nat.lt_of_lt_of_le o.2 E.size)
 have j:=j.ext E fun _ _=>id
 have k:=k.gb E
 rw[Aj]
 refine gv gc 1 rfl ?_
 rw[show IntKind.i64.wrap ((u7 G:Int)+(kl b.length:Int))=(u7 (G++[b]):Int) from by rw[kg _ zo,Bz];omega]
 refine gv gc 2 rfl (jj ?_)
 have T:=f
 refine wb rfl (xv gc f rfl rfl rfl fun bz f P co=> ?_)
 have g:=g.gj P a2
 have a:=a.gj P X
 have p:=p.ext P fun x hx e=>by have e:x=L:=e;subst e;exact au hx
 have hr:=Rt.ext hr P fun e=>by have e:0=L:=e;omega
 have r:=qj.mono (H':=fun y=>w.heap.size≤y∧y<bz.heap.size) (r.ext P fun y o ht h=>by have h:y=L:=h;subst h;exact ht.ne T zd rfl) fun y o=>And.intro o.1 (Nat.lt_of_lt_of_le o.2 P.size)
 have j:=j.kc P T zd
 have k:=k.gh P ad
 have f:j0 bz L 162 ([.pointer (some ⟨d,0,none⟩),.int .i64 (n:Int),.int .u32 (t:Int),.slice pn (G++[b]).length cn,.int .i64 (u7 (G++[b]):Int),.bool false]):=f
 refine ja ?_
 exact jy (jn (G++[b],pn,cn,ae++[.slice qp b.length kp]) rfl ⟨⟨by dsimp only;rw[Bz];omega,by dsimp only;rw[Bz,List.length_append];simp only[List.length_cons,List.length_nil];omega,fun x hx=>(List.mem_append.1 hx).elim (bi x) fun h=>by rw[List.mem_singleton.1 h];exact ay,by dsimp only;rw[Z];dsimp only;rw[Bz,List.length_append,List.drop_drop,List.append_assoc,Nat.sub_sub];rfl,p,hr,j,az,r⟩,g,a,f,k⟩ (by dsimp only;rw[Bz];omega))
theorem does1_calls (w:World) {bx be x:Nat} {e:Int} {a0 a1 a2 a3 a4:Value} {b0:Bool} (hbx:j0 w bx 58 [.pointer (some ⟨x,0,none⟩)]) (hbe:j0 w be 38 [.int .i64 e]) (hb:j0 w x 162 [a0,a1,a2,a3,a4,.bool b0]):
  CallsDIn Fence.wide 8 prog 177 #[.pointer (some ⟨be,0,none⟩),.pointer (some ⟨bx,0,none⟩)] .returning w fun e' u' w'=>u'= .returning∧Rv (fun _ w'=>j0 w' x 162 [a0,a1,a2,a3,a4,.bool (decide (e≠0))]∧Ext (One x) w w') e' w':=by
 refine callsD_enter func177 rfl rfl rfl rfl ?_
 have a:=Ext.refl (One x) w
 refine j4 (gy rfl (hbx.cell rfl) (gy rfl (hbe.cell rfl) (j9 gc rfl (wl (u4 gc hb rfl rfl (Nat.lt_of_lt_of_eq (by decide:0+(4+1)<6) rfl) fun d hb b c=> ?_)))))
 have a:=a.trans b fun y f h=>h
 refine gm (y9 rfl ?_)
 exact⟨hb,a⟩
theorem does_calls (w:World) {x d gf:Nat} {H F:Nat→Prop} {W:Wl} {cap:Array Value} {e:Int} {D':kj} (h:xi w x d H W) (hFlt:∀y,F y→y<w.heap.size) (hHF:∀y,H y→¬F y)
  (hcf:∀args w,(callFunc gf args).run prog w= .ok (.enter gf args) w) (hwhat:∀w1,Ext No w w1→gn prog gf cap.toList w1 fun v w2=>v= .int .i64 e∧DkQ w1 d F D' w2):
  gn prog 117 [.pointer (some ⟨x,0,none⟩),.func (.func gf) #[] cap] w fun v w'=>v= .int .i64 e∧∃F',At w' d F' D'∧(∀y,F' y→F y∨w.heap.size≤y)∧xi w' x d H {W with broken:=decide (e≠0)}∧(∀y,H y→¬F' y)∧Ext (fun y=>F y∨y=x) w w':=by
 refine Ci func117 rfl rfl rfl rfl ?_
 have i:=Ext.refl (fun y=>F y∨y=x) w
 have f:=Ext.refl No w
 refine qa (gw rfl fun S w1 T a z=> ?_)
 have f:=f.gb z
 have i:=i.gb z
 refine gw rfl fun u w2 A b p=> ?_
 have r:=j5 a.lt A
 have L:=Nat.le_trans i.size A
 have a:=a.ga p
 have f:=f.gb p
 have i:=i.gb p
 refine qr (qc rfl (wl_defer rfl rfl rfl rfl (qr (qc rfl ?_))))
 have M:¬F S:=fun e=>by have:=hFlt _ e;omega
 have B:¬F u:=fun e=>by have:=hFlt _ e;omega
 have U:=i.size
 have C:=b
 refine gi hcf rfl (hwhat w2 f) fun v3 w3 N=> ?_
 obtain⟨rfl,O,s,m,n⟩:=N
 have a:=a.ext m M
 have b:=b.ext m B
 have i:=i.then (m.mono fun y _ e=> .inl e)
 have j:=(h.ga f).ext m hHF
 have D:¬O u:=zz B C.lt n
 refine ky b rfl rfl rfl fun V b o X=> ?_
 have a:=a.gj o r
 have j:=j.ext o fun y c e=>by have e:y=u:=e;have:=h.lt y c;omega
 have s:=s.ext o fun y c e=>by have e:y=u:=e;subst e;exact D c
 have i:=i.gh o L
 refine qr (gq ?_)
 obtain⟨⟨q,Y,E,t,G,P,Q⟩,k,I⟩:=j
 refine f_retD [.int .i64 e] call177 (does1_calls V a b (a0:= .pointer (some ⟨d,0,none⟩)) t) (fun v w5 Z=> ?_)
 obtain⟨J,g⟩:=Z
 have R:¬O x:=fun e=>(n x e).elim (hHF x k) fun e=>by have:=I x k;have:=h.lt x k;omega
 have K:=b.ext g fun e=>by have e:u=x:=e;have:=h.lt x k;omega
 refine⟨⟨⟨u,0,rfl,D8 gc rfl rfl (K.cell rfl)⟩,trivial⟩,rfl,O,s.ext g fun y c e=>by have e:y=x:=e;subst e;exact R c,fun y c=>(n y c).imp id zo,⟨⟨q,Y,E,J,?_,?_,Q⟩,k,fun y c=>Nat.lt_of_lt_of_le (I y c) g.size⟩,fun y c e=>(n y e).elim (hHF y c) fun e=>by have:=h.lt y c;omega,i.then (g.mono fun y _ e=> .inr e)⟩
 ·exact G.ext g fun y c e=>by have e:y=x:=e;subst e;obtain⟨l,hl⟩:=Own.ty G c;exact absurd rfl (hl.ne t zd)
 exact P.ext g fun y _ ht e=>by have e:y=x:=e;subst e;exact absurd rfl (ht.ne t zd)
theorem app1_calls (w:World) {bx bb x d m c:Nat} {H F:Nat→Prop} {W:Wl} {p:Option Addr} {b:Bytes} (hbx:j0 w bx 58 [.pointer (some ⟨x,0,none⟩)]) (hbb:j0 w bb 41 [.slice p b.length c]) (h:xi w x d H W) (hA:At w d F W.D) (hok:W.D.Ok m) (hm:m+2000<1000000000) (hW:Wl.Ok W) (hs:vt w p b) (hbl:b.length≤40000) (hr:Rt w) (hF0:¬F 0) (hF1:¬F bx) (hF2:¬F bb) (hHF:∀y,H y→¬F y):
  gn prog 119 [.pointer (some ⟨bx,0,none⟩),.pointer (some ⟨bb,0,none⟩)] w fun v w'=>v= .int .i64 (Bd W.D ((ua W.turn W.size+W.used:Nat):Int) (uw W.turn W.pieces.length b)).2∧DkQ w d F (Bd W.D ((ua W.turn W.size+W.used:Nat):Int) (uw W.turn W.pieces.length b)).1 w':=by
 refine gx func119 ?_
 have t:=Ext.refl F w
 have a0:=D6 b.length
 have O:=hr.lt
 have Y:=hA.lt
 obtain⟨a1,a2⟩:=hW.size
 have a3:=hW.few
 have a4:=hW.room
 have B:=hW.turn
 have a5:ua W.turn W.size≤2+W.size:=by unfold ua;split<;>omega
 obtain⟨⟨q,cq,Z,P,a6,a7,a8⟩,Q,a9⟩:=h
 have s:=hHF x Q
 have R:=P
 have S:=hbx
 have T:=hbb
 have j:=hA
 have k:=hs
 have l:=hr
 refine je rfl (gk ?_)
 refine js rfl 32 [qP 0,qP 1,qP 2,qP 3,qP 4,qP 5,qP 6,qP 7,qP 8,qP 9,qP 10,qP 11,qP 13,qP 14,qP 15,qP 16,qP 18,qP 19,qP 20,qP 21,qP 22,qP 23,qP 24,qP 25,qP 26,qP 27,qP 28,(12,false),qP 17,(29,false),(30,false),qP 31] [] (F) zk fun N f aa=> ?_
 have g:=R
 have i:=S
 have C:=T
 have j:=j.ga f
 have k:=k.ga f
 have l:=Rt.ext l f id
 have t:=t.gb f
 have z:Ext (F) _ N:=f.no
 refine j6 gc rfl rfl (fun w' a=>((i.ext a hF1).cell rfl)) ?_
 refine gv gc 2 rfl (qf gc rfl rfl (fun w' a=>((g.ext a s).ko.take 2)) rfl ?_)
 refine j6 gc rfl rfl (fun w' a=>((i.ext a hF1).cell rfl)) ?_
 refine gv gc 2 rfl (qf gc rfl rfl (fun w' a=>((g.ext a s).ko.take 2)) rfl ?_)
 refine j6 gc rfl rfl (fun w' a=>((i.ext a hF1).cell rfl)) ?_
 refine gv gc 2 rfl (j6 gc rfl rfl (fun w' a=>((g.ext a s).cell rfl)) ?_)
 refine j6 gc rfl rfl (fun w' a=>((i.ext a hF1).cell rfl)) ?_
 refine gv gc 2 rfl (j6 gc rfl rfl (fun w' a=>((g.ext a s).cell rfl)) ?_)
 refine j6 gc rfl rfl (fun w' a=>((i.ext a hF1).cell rfl)) ?_
 refine gv gc 2 rfl (j6 gc rfl rfl (fun w' a=>((g.ext a s).cell rfl)) ?_)
 refine j6 gc rfl rfl (fun w' a=>((i.ext a hF1).cell rfl)) ?_
 refine gv gc 2 rfl (j6 gc rfl rfl (fun w' a=>((g.ext a s).cell rfl)) ?_)
 refine gv gc 2 rfl ?_
 rw[wrap32 W.pieces.length zo]
 refine j6 gc rfl rfl (fun w' a=>((C.ext a hF2).cell rfl)) ?_
 refine jg rfl (j3 call120 rfl (zw3 N (.pointer (some ⟨d,0,none⟩)) W.size W.turn zo B rfl) fun v2 w2 E=>⟨(by obtain⟨rfl,o⟩:=E;exact z.gb o),?_⟩)
 obtain⟨rfl,o⟩:=E
 have j:=j.ga o
 have k:=k.ga o
 have l:=Rt.ext l o id
 have t:=t.gb o
 have z:=z.gb o
 refine gv gc 1 rfl ?_
 rw[show IntKind.i64.wrap ((ua W.turn W.size:Int)+(W.used:Int))=((ua W.turn W.size+W.used:Nat):Int) from by rw[kg _ zo];omega]
 refine jg rfl (j3 call121 rfl (yj1 w2 W.turn W.pieces.length (p:=p) (m:=b.length) (c:=c)) fun v3 w3 G=>⟨(by obtain⟨U,bt,bn,rfl,V,u,I,J,r⟩:=G;exact z.gb r),?_⟩)
 obtain⟨U,bt,bn,rfl,V,u,I,J,r⟩:=G
 have j:=j.ga r
 have k:=k.ga r
 have l:=Rt.ext l r id
 have t:=t.gb r
 have z:=z.gb r
 have X:=t.size
 refine jg rfl (j3 call71 rfl (yw5 w3 (n:=W.size) (L:=uw W.turn W.pieces.length b) (own:=fun x=>x=0) j hok (by rw[vq];omega) ((ua W.turn W.size+W.used:Nat):Int) zo (Dc _ _ b) call178 (fun N f=>by rw[vq];exact xx6 N (u.ga f) (I.ga f) (J.ga f) (k.ga f) B zo hbl (l.ext f id)) (fun x e=>by subst e;exact⟨Nat.lt_of_lt_of_le O (by have:=t.size;omega),hF0⟩)) fun v4 w4 K=>⟨(by obtain⟨rfl,F2,h2,A,M⟩:=K;exact z.then A),?_⟩)
 obtain⟨rfl,F2,h2,A,M⟩:=K
 have t:=t.then A
 refine gv gc 1 rfl (jj (ja (j1 (gq (gu rfl rfl ?_)))))
 exact⟨rfl,F2,h2,t,yw (fun x=> .inl) X M⟩
theorem append_no {W:Wl} {b:Bytes} (h:W.refuses b ((W.size:Int)-W.used)≠0):W.append b=(W,W.refuses b ((W.size:Int)-W.used)):=if_pos h
theorem append_bad {W:Wl} {b:Bytes} (h:W.refuses b ((W.size:Int)-W.used)=0) {y:kj×Int} (hy:y=Bd W.D ((ua W.turn W.size+W.used:Nat):Int) (uw W.turn W.pieces.length b)) (h2:y.2≠0):W.append b=({W with D:=y.1,broken:=true},y.2):=by
 unfold Wl.append;dsimp only;rw[if_neg (fun e=>e h),←hy,if_pos h2]
theorem append_ok {W:Wl} {b:Bytes} (h:W.refuses b ((W.size:Int)-W.used)=0) {y:kj×Int} (hy:y=Bd W.D ((ua W.turn W.size+W.used:Nat):Int) (uw W.turn W.pieces.length b)) (h2:y.2=0):W.append b=({W with D:=y.1,broken:=false,pieces:=W.pieces++[b],used:=W.used+kl b.length},0):=by
 unfold Wl.append;dsimp only;rw[if_neg (fun e=>e h),←hy,if_neg (fun e=>e h2)]
def LogQ (w:World) (x d:Nat) (F H:Nat→Prop) (r:Wl×Int) (v:Value) (w':World):Prop:=
  v= .int .i64 r.2∧∃F' H':Nat→Prop,At w' d F' r.1.D∧xi w' x d H' r.1∧(∀y,F' y→F y∨w.heap.size≤y)∧(∀y,H' y→H y∨w.heap.size≤y)∧(∀y,H' y→¬F' y)∧Ext (fun y=>F y∨H y) w w'
theorem y6.ofOwn {u:World} {H:Nat→Prop} {q:Option Addr} {k:Nat} {b:Bytes} (ho:Own u q b.length k 5 1 (ge b)) (hH:∀y,jd q y→H y):y6 u H (.slice q b.length k) b:=by
 refine⟨q,k,rfl,ho.cap,ho.sl,fun y d e=> ?_⟩
 have c:jd q y:=by
  rcases ho with⟨a,_⟩|⟨f,l,a,_⟩
  ·rw[a] at e;cases e
  rw[a] at e;cases e;exact a
 exact⟨hH y c,Own.ty ho c⟩
theorem append_calls (w:World) {x d m c:Nat} {H F:Nat→Prop} {W:Wl} {p:Option Addr} {b:Bytes} (h:xi w x d H W) (hA:At w d F W.D) (hok:W.D.Ok m) (hm:m+2000<1000000000) (hW:Wl.Ok W) (hs:vt w p b) (hbl:b.length<1000000000) (hr:Rt w) (hF0:¬F 0) (hHF:∀y,H y→¬F y) (hpF:∀y off,p=some ⟨y,off,none⟩→¬F y∧¬H y):
  gn prog 39 [.pointer (some ⟨x,0,none⟩),.slice p b.length c] w fun v w'=>LogQ w x d F H (W.append b) v w':=by
 refine gx func39 ?_
 have hX:=Ext.refl (fun y=>F y∨H y) w
 have hsl:=D6 b.length
 have hFlt:=hA.lt
 have hHlt:=h.lt
 obtain⟨hz1,hz2⟩:=hW.size
 have hz3:=hW.few
 have hz4:=hW.room
 have hxH:=h.own
 have hlog:=h
 have hat:=hA
 have hsb:=hs
 have hrt:=hr
 refine qa (gw rfl fun b2 w1 hn2 hb2 hE1=> ?_)
 have fr2:=Nat.le_trans hX.size hn2
 have hlog:=hlog.ga hE1
 have hat:=hat.ga hE1
 have hsb:=hsb.ga hE1
 have hrt:=Rt.ext hrt hE1 id
 have hX:=hX.gb hE1
 have hb2:j0 w1 b2 58 ([.pointer (some ⟨x,0,none⟩)]):=hb2
 refine gw rfl fun b3 w2 hn3 hb3 hE2=> ?_
 have ne2_3:=j5 hb2.lt hn3
 have fr3:=Nat.le_trans hX.size hn3
 have hb2:=hb2.ga hE2
 have hlog:=hlog.ga hE2
 have hat:=hat.ga hE2
 have hsb:=hsb.ga hE2
 have hrt:=Rt.ext hrt hE2 id
 have hX:=hX.gb hE2
 have hb3:j0 w2 b3 41 ([.slice p b.length c]):=hb3
 refine jz rfl (gk (qa (jb hb2 rfl rfl (jb hb3 rfl rfl ?_))))
 refine gi call116 rfl (ready_calls w2 hlog (p:=p) (n:=b.length) (k:=c)) fun v3 w3 hr3=> ?_
 obtain⟨rfl,hE3⟩:=hr3
 have hb2:=hb2.ga hE3
 have hb3:=hb3.ga hE3
 have hlog:=hlog.ga hE3
 have hat:=hat.ga hE3
 have hsb:=hsb.ga hE3
 have hrt:=Rt.ext hrt hE3 id
 have hX:=hX.gb hE3
 refine jz rfl (je rfl (jl rfl (fun hc=> ?_) (fun hc=> ?_)))
 ·refine gk ?_
  refine j4 (jz rfl (gq (gp (gu rfl rfl ?_))))
  have hre:W.refuses b ((W.size:Int)-W.used)=if 40000<b.length then(3:Int) else if W.broken=true then 8 else 0:=by
   unfold Wl.refuses
   by_cases h1:40000<b.length
   ·rw[if_pos h1,if_pos h1]
   rw[if_neg h1,if_neg h1] at*
   by_cases h2:W.broken=true
   ·rw[if_pos h2,if_pos h2]
   rw[if_neg h2] at hc;exact absurd rfl hc
  rw[append_no (by rw[hre];exact hc),hre]
  exact⟨rfl,F,H,hat,hlog,fun y=> .inl,fun y=> .inl,hHF,hX⟩
 have hc0:(if 40000<b.length then(3:Int) else if W.broken=true then 8 else 0)=0:=Decidable.not_not.1 hc
 have hb40:b.length≤40000:=by
  rcases Nat.lt_or_ge 40000 b.length with h1|h1
  ·rw[if_pos h1] at hc0;cases hc0
  exact h1
 rw[if_neg zo] at hc0
 have hbr:¬W.broken=true:=fun e=>by rw[if_pos e] at hc0;cases hc0
 have hre:W.refuses b ((W.size:Int)-W.used)=if(W.size:Int)-W.used<kl b.length then 6 else 0:=by unfold Wl.refuses;rw[if_neg zo,if_neg hbr]
 have hF1:¬(F b2∨H b2):=fun e=>by rcases e with e|e;have:=hFlt _ e;omega;have:=hHlt _ e;omega
 have hF2:¬(F b3∨H b3):=fun e=>by rcases e with e|e;have:=hFlt _ e;omega;have:=hHlt _ e;omega
 refine xz (gk (js rfl 6 [qP 0,qP 1,qP 3,(2,false),(4,false),qP 5] [] (No) zk fun w4 hE4 hs4=> ?_))
 have hd2:=hb2
 have hd3:=hb3
 have hlogd:=hlog
 have hatd:=hat
 have hsbd:=hsb
 have hrtd:=hrt
 have hXd:=hX
 have hb2:=hb2.ga hE4
 have hb3:=hb3.ga hE4
 have hlog:=hlog.ga hE4
 have hat:=hat.ga hE4
 have hsb:=hsb.ga hE4
 have hrt:=Rt.ext hrt hE4 id
 have hX:=hX.gb hE4
 have hC:Ext (No) _ w4:=hE4.no
 refine j6 gc rfl rfl (fun w' hw'=>(hd3.ga hw').cell rfl) ?_
 refine gv gc 1 rfl (j6 gc rfl rfl (fun w' hw'=>(hd2.ga hw').cell rfl) ?_)
 refine jg rfl (j3 call65 rfl (vo w4 (b.length:Int)) fun v5 w5 hr5=>⟨(by obtain⟨rfl,hE5⟩:=hr5;exact hC.gb hE5),?_⟩)
 obtain⟨rfl,hE5⟩:=hr5
 have hb2:=hb2.ga hE5
 have hb3:=hb3.ga hE5
 have hlog:=hlog.ga hE5
 have hat:=hat.ga hE5
 have hsb:=hsb.ga hE5
 have hrt:=Rt.ext hrt hE5 id
 have hX:=hX.gb hE5
 have hC:=hC.gb hE5
 rw[Aj]
 refine jg rfl (j3 call66 rfl (left_calls w5 hlog zo zo) fun v6 w6 hr6=>⟨(by obtain⟨rfl,hE6⟩:=hr6;exact hC.gb hE6),?_⟩)
 obtain⟨rfl,hE6⟩:=hr6
 have hb2:=hb2.ga hE6
 have hb3:=hb3.ga hE6
 have hlog:=hlog.ga hE6
 have hat:=hat.ga hE6
 have hsb:=hsb.ga hE6
 have hrt:=Rt.ext hrt hE6 id
 have hX:=hX.gb hE6
 have hC:=hC.gb hE6
 refine gv gc 1 rfl (jj (ja (j1 (jl rfl (fun hc=> ?_) (fun hc=> ?_)))))
 ·rw[if_pos hc] at hre
  refine je rfl (gq (gp (gu rfl rfl ?_)))
  rw[append_no (by rw[hre];decide),hre]
  exact⟨rfl,F,H,hat,hlog,fun y=> .inl,fun y=> .inl,hHF,hX⟩
 rw[if_neg hc] at hre
 refine j7 (j1 (qa (jb hb2 rfl rfl (j9 gc rfl ?_))))
 have hX1:=hX.size
 have l2:=hb2.lt
 have l3:=hb3.lt
 refine gi call117 rfl (does_calls w6 hlog hat.lt hHF call119 (fun w1 hE1=>app1_calls w1 (hb2.ga hE1) (hb3.ga hE1) (hlog.ga hE1) (hat.ga hE1) hok hm hW (hsb.ga hE1) hb40 (hrt.ext hE1 id) hF0 (fun e=>hF1 (.inl e)) (fun e=>hF2 (.inl e)) hHF)) fun v7 w7 hr7=> ?_
 obtain⟨rfl,F2,hat2,hFs,hlog2,hHF2,hE7⟩:=hr7
 obtain⟨y,hy⟩:∃y,y=Bd W.D ((ua W.turn W.size+W.used:Nat):Int) (uw W.turn W.pieces.length b):=⟨_,rfl⟩
 rw[←hy] at hat2 hlog2⊢
 have hxb:∀z,F z∨z=x→F z∨H z:=fun z hz=>hz.imp id fun e=>by rw[e];exact hxH
 have hb2:=hb2.ext hE7 fun e=>hF1 (hxb _ e)
 have hb3:=hb3.ext hE7 fun e=>hF2 (hxb _ e)
 have hX:=hX.then (hE7.mono fun z _ e=>hxb z e)
 have hsb:vt w7 p b:=hsb.ext hE7 fun z off e hz=>(hxb z hz).elim (hpF z off e).1 (hpF z off e).2
 have hFs:=yw (fun z=> .inl) hX1 hFs
 obtain⟨N,hN⟩:∃N,N=w7.heap.size:=⟨_,rfl⟩
 have hNw:w.heap.size≤N:=by rw[hN];exact hX.size
 have hF2lt:∀z,F2 z→z<N:=by rw[hN];exact hat2.lt
 refine jz rfl ?_
 refine jv (α:=Wl×(Nat→Prop)) [6] rfl (fun z=>[]) (fun z u=>(xi u x d z.2 z.1∧At u d F2 z.1.D∧(∀y,z.2 y→H y∨w.heap.size≤y)∧(∀y,z.2 y→¬F2 y)∧W.append b=(z.1,y.2))∧j0 u b2 58 ([.pointer (some ⟨x,0,none⟩)])∧j0 u b3 41 ([.slice p b.length c])∧Ext (fun y=>F y∨H y) w u) ?_ ?_
 ·refine gk ?_
  refine j4 (jz rfl (jl rfl (fun hc=> ?_) (fun hc=> ?_)))
  ·have hy0:y.2=0:=hc
   obtain⟨⟨q,cq,rows,hlb,hrw,hps,hqH⟩,_,hHl2⟩:=id hlog2
   dsimp only at hlb hrw hps
   rw[show decide (y.2≠0)=false from decide_eq_false fun e=>e hy0] at hlb
   have hxl:=hHlt x hxH
   have hqx:¬jd q x:=fun e=>(Own.ty hrw e).ne hlb zd rfl
   have hq2:¬jd q b2:=fun e=>by have:=hHlt _ (hqH _ e);omega
   have hq3:¬jd q b3:=fun e=>by have:=hHlt _ (hqH _ e);omega
   refine gk (js rfl 11 [qP 0,qP 1,qP 2,qP 3,qP 4,qP 5,(6,false),(7,false),(8,false),qP 9,qP 10] [11] (fun z=>jd q z) zk fun w8 hE8 hs8=> ?_)
   have hd2:=hb2
   have hd3:=hb3
   have hlogd:=hlog
   have hatd:=hat
   have hsbd:=hsb
   have hrtd:=hrt
   have hlog2d:=hlog2
   have hat2d:=hat2
   have hlbd:=hlb
   have hrwd:=hrw
   have hpsd:=hps
   have hXd:=hX
   have hb2:=hb2.ga hE8
   have hb3:=hb3.ga hE8
   have hsb:=hsb.ga hE8
   have hat2:=hat2.ga hE8
   have hlb:=hlb.ga hE8
   have hrw:=hrw.ext hE8 fun _ _=>id
   have hps:=hps.ext hE8 fun _ _ _=>id
   have hX:=hX.gb hE8
   have hC:Ext (fun z=>jd q z) _ w8:=hE8.no
   refine j6 gc rfl rfl (fun w' hw'=>((hd2.ext hw' hq2).cell rfl)) ?_
   refine j6 gc rfl rfl (fun w' hw'=>((hd2.ext hw' hq2).cell rfl)) ?_
   refine gv gc 2 rfl (j6 gc rfl rfl (fun w' hw'=>((hlbd.ext hw' hqx).cell rfl)) ?_)
   refine j6 gc rfl rfl (fun w' hw'=>((hd3.ext hw' hq3).cell rfl)) ?_
   have hNs0:=hC.size
   refine jg rfl (j3 call35 rfl (xc w8 hsb hbl) fun v9 w9 hr9=>⟨(by obtain⟨q2,k2,rfl,ho2,hnq,hE9⟩:=hr9;exact hC.gb hE9),?_⟩)
   obtain⟨q2,k2,rfl,ho2,hnq,hE9⟩:=hr9
   have hb2:=hb2.ga hE9
   have hb3:=hb3.ga hE9
   have hsb:=hsb.ga hE9
   have hat2:=hat2.ga hE9
   have hlb:=hlb.ga hE9
   have hrw:=hrw.ext hE9 fun _ _=>id
   have hps:=hps.ext hE9 fun _ _ _=>id
   have hX:=hX.gb hE9
   have hC:=hC.gb hE9
   have hnN:∀z,jd q2 z→N≤z:=fun z hz=>by have:=hnq z hz;omega
   have hnq:∀z,jd q2 z→w.heap.size≤z:=fun z hz=>Nat.le_trans hNw (hnN z hz)
   refine jg rfl (qd gc rfl 1 rfl rfl rfl zd zd zt (l':=[.slice q2 b.length k2]) rfl fun b31 w10 hn31 hb31 hE10 hs10=>⟨hC.gb hE10,?_⟩)
   have ne2_31:=j5 hb2.lt hn31
   have ne3_31:=j5 hb3.lt hn31
   have fr31:=Nat.le_trans hX.size hn31
   have hb2:=hb2.ga hE10
   have hb3:=hb3.ga hE10
   have hat2:=hat2.ga hE10
   have hlb:=hlb.ga hE10
   have hrw:=hrw.ext hE10 fun _ _=>id
   have hps:=hps.ext hE10 fun _ _ _=>id
   have ho2:=ho2.ext hE10 fun _ _=>id
   have hX:=hX.gb hE10
   have hC:=hC.gb hE10
   have hNs:=hC.size
   refine jg rfl (uh gc rfl 1 24 rfl rfl rfl zd hrw (Src.slice (m:=1) ⟨rfl,.inr ⟨b31,0,rfl,hb31.ko⟩⟩ OneC.h) zm zn fun p11 c11 w11 ho11 hE11 hB11=>⟨(hC.then hE11),?_⟩)
   have hC:=(hC.then hE11)
   have hb2:=hb2.ext hE11 hq2
   have hb3:=hb3.ext hE11 hq3
   have hb31:=hb31.ext hE11 fun e=>by have:=hHlt _ (hqH _ e);omega
   have hX:=hX.then (hE11.mono fun z _ e=> .inr (hqH z e))
   have hlb:=hlb.ext hE11 hqx
   have hat2:=hat2.ext hE11 fun z hz e=>hHF2 z (hqH z e) hz
   have ho2:=ho2.ext hE11 fun z hz e=>by have:=hnq z hz;have:=hHlt _ (hqH _ e);omega
   have hps:=hps.ext hE11 fun z hz ht e=>by obtain⟨l,hl⟩:=Own.ty hrw e;exact ht.ne hl zd rfl
   have hqn:∀z,jd p11 z→H z∨N≤z:=fun z hz=>(hB11 z hz).imp (hqH z) fun e=>by omega
   have hrw:Own w11 p11 (W.pieces++[b]).length c11 41 1 (rows++[.slice q2 b.length k2]):=by rw[List.length_append];exact ho11
   dsimp only
   obtain⟨pn,hpn0⟩:∃pn,pn=p11:=⟨_,rfl⟩
   obtain⟨cn,hcn0⟩:∃cn,cn=c11:=⟨_,rfl⟩
   rw[←hpn0] at hrw hqn⊢
   rw[←hcn0] at hrw⊢
   refine gv gc 2 rfl (jj ?_)
   have hlb0:=hlb
   refine wb rfl (u4 gc hlb rfl rfl (Nat.lt_of_lt_of_eq (by decide:0+(2+1)<6) rfl) fun w12 hlb hE12 hs12=> ?_)
   have hb2:=hb2.ext hE12 fun e=>by have e:b2=x:=e;omega
   have hb3:=hb3.ext hE12 fun e=>by have e:b3=x:=e;omega
   have hb31:=hb31.ext hE12 fun e=>by have e:b31=x:=e;omega
   have hX:=hX.then (hE12.mono fun z _ e=> .inr (by have e:z=x:=e;rw[e];exact hxH))
   have hat2:=hat2.ext hE12 fun z hz e=>by have e:z=x:=e;subst e;exact hHF2 z hxH hz
   have ho2:=ho2.kc hE12 hlb0 zd
   have hrw:=hrw.kc hE12 hlb0 zd
   have hps:=hps.ext hE12 fun z _ ht e=>by have e:z=x:=e;subst e;exact ht.ne hlb0 zd rfl
   refine ja (j1 (js rfl 10 [qP 0,qP 1,qP 2,qP 3,qP 4,qP 5,(6,false),qP 7,qP 8,qP 9] [10] (No) zk fun w13 hE13 hs13=> ?_))
   have hd2:=hb2
   have hd3:=hb3
   have hd31:=hb31
   have hlogd:=hlog
   have hatd:=hat
   have hsbd:=hsb
   have hrtd:=hrt
   have hlog2d:=hlog2
   have hat2d:=hat2
   have hlbd:=hlb
   have hrwd:=hrw
   have hpsd:=hps
   have ho2d:=ho2
   have hXd:=hX
   have hb2:=hb2.ga hE13
   have hb3:=hb3.ga hE13
   have hb31:=hb31.ga hE13
   have hat2:=hat2.ga hE13
   have hlb:=hlb.ga hE13
   have hrw:=hrw.ext hE13 fun _ _=>id
   have hps:=hps.ext hE13 fun _ _ _=>id
   have ho2:=ho2.ext hE13 fun _ _=>id
   have hX:=hX.gb hE13
   have hC:Ext (No) _ w13:=hE13.no
   refine j6 gc rfl rfl (fun w' hw'=>(hd2.ga hw').cell rfl) ?_
   refine gv gc 2 rfl (j6 gc rfl rfl (fun w' hw'=>((hlbd.ga hw').cell rfl)) ?_)
   refine j6 gc rfl rfl (fun w' hw'=>(hd3.ga hw').cell rfl) ?_
   refine gv gc 1 rfl (jg rfl (j3 call65 rfl (vo w13 (b.length:Int)) fun v14 w14 hr14=>⟨(by obtain⟨rfl,hE14⟩:=hr14;exact hC.gb hE14),?_⟩))
   obtain⟨rfl,hE14⟩:=hr14
   have hb2:=hb2.ga hE14
   have hb3:=hb3.ga hE14
   have hb31:=hb31.ga hE14
   have hat2:=hat2.ga hE14
   have hlb:=hlb.ga hE14
   have hrw:=hrw.ext hE14 fun _ _=>id
   have hps:=hps.ext hE14 fun _ _ _=>id
   have ho2:=ho2.ext hE14 fun _ _=>id
   have hX:=hX.gb hE14
   have hC:=hC.gb hE14
   rw[Aj]
   refine gv gc 1 rfl ?_
   rw[show IntKind.i64.wrap ((W.used:Int)+(kl b.length:Int))=((W.used+kl b.length:Nat):Int) from by rw[kg _ zo];omega]
   refine gv gc 2 rfl (jj ?_)
   have hlb0:=hlb
   refine wb rfl (u4 gc hlb rfl rfl (Nat.lt_of_lt_of_eq (by decide:0+(3+1)<6) rfl) fun w15 hlb hE15 hs15=> ?_)
   have hb2:=hb2.ext hE15 fun e=>by have e:b2=x:=e;omega
   have hb3:=hb3.ext hE15 fun e=>by have e:b3=x:=e;omega
   have hb31:=hb31.ext hE15 fun e=>by have e:b31=x:=e;omega
   have hX:=hX.then (hE15.mono fun z _ e=> .inr (by have e:z=x:=e;rw[e];exact hxH))
   have hat2:=hat2.ext hE15 fun z hz e=>by have e:z=x:=e;subst e;exact hHF2 z hxH hz
   have ho2:=ho2.kc hE15 hlb0 zd
   have hrw:=hrw.kc hE15 hlb0 zd
   have hps:=hps.ext hE15 fun z _ ht e=>by have e:z=x:=e;subst e;exact ht.ne hlb0 zd rfl
   have hnw:=hat2.lt
   have hho:=fun z (hz:jd q2 z)=>ho2.lt hz
   have hhr:=fun z (hz:jd pn z)=>hrw.lt hz
   have hxw:=hX.size
   refine ja ?_
   exact gz ({W with D:=y.1,broken:=false,pieces:=W.pieces++[b],used:=W.used+kl b.length},fun z=>H z∨(N≤z∧z<w15.heap.size)) rfl ⟨⟨⟨⟨pn,cn,_,by dsimp only;rw[List.length_append];exact hlb,hrw,(qj.mono hps fun z hz=> .inl hz).snoc (y6.ofOwn ho2 fun z hz=> .inr ⟨hnN z hz,hho z hz⟩),fun z hz=>(hqn z hz).imp id fun e=>⟨e,hhr z hz⟩⟩,.inl hxH,fun z hz=>hz.elim (fun e=>Nat.lt_of_lt_of_le (hHlt z e) hxw) fun e=>e.2⟩,hat2,fun z hz=>hz.imp id fun e=>Nat.le_trans hNw e.1,fun z hz e=>hz.elim (fun h=>hHF2 z h e) fun h=>by have:=hF2lt z e;omega,by rw[hy0];exact append_ok hre hy hy0⟩,hb2,hb3,hX⟩
  refine j7 ?_
  exact gz ({W with D:=y.1,broken:=true},H) rfl ⟨⟨by have e:=hlog2;rw[decide_eq_true hc] at e;exact e.data rfl rfl rfl rfl rfl,hat2,fun z hz=> .inl hz,hHF2,append_bad hre hy hc⟩,hb2,hb3,hX⟩
 rintro⟨V,G⟩ w16 ⟨⟨hlog3,hat3,hGs,hGF,hap⟩,hb2,hb3,hX⟩
 refine je rfl (gq (gu rfl rfl ?_))
 rw[hap]
 exact⟨rfl,F2,G,hat3,hlog3,hFs,hGs,hGF,hX⟩
theorem ckp1_calls (w:World) {bx bt bb x d m c t:Nat} {H F:Nat→Prop} {W:Wl} {p:Option Addr} {b:Bytes} (hbx:j0 w bx 58 [.pointer (some ⟨x,0,none⟩)]) (hbt:j0 w bt 35 [.int .u32 (t:Int)]) (hbb:j0 w bb 41 [.slice p b.length c]) (h:xi w x d H W) (hA:At w d F W.D) (hok:W.D.Ok m) (hm:m+2000<1000000000) (hz2:W.size≤1000) (ht:t<4294967296) (hs:vt w p b) (hbl:b.length≤40000) (hr:Rt w) (hF0:¬F 0) (hF1:¬F bx) (hFt:¬F bt) (hF2:¬F bb) (hHF:∀y,H y→¬F y):
  gn prog 118 [.pointer (some ⟨bx,0,none⟩),.pointer (some ⟨bt,0,none⟩),.pointer (some ⟨bb,0,none⟩)] w fun v w'=>v= .int .i64 (Aa W.D t W.size b).2∧DkQ w d F (Aa W.D t W.size b).1 w':=by
 refine gx func118 ?_
 have k:=Ext.refl F w
 have Q:=hr.lt
 have L:=hA.lt
 obtain⟨⟨q,Y,M,A,R,S,T⟩,B,U⟩:=h
 have C:=hHF x B
 have E:=A
 have G:=hbx
 have I:=hbt
 have J:=hbb
 have f:=hA
 have g:=hs
 have i:=hr
 refine je rfl (gk (js rfl 8 [qP 0,qP 1,qP 2,qP 3,qP 4,qP 5,(6,false),qP 7] [] (F) zk fun N e V=> ?_))
 have l:=E
 have o:=G
 have r:=J
 have s:=I
 have f:=f.ga e
 have g:=g.ga e
 have i:=Rt.ext i e id
 have k:=k.gb e
 have X:Ext (F) _ N:=e.no
 refine j6 gc rfl rfl (fun w' a=>((o.ext a hF1).cell rfl)) ?_
 refine gv gc 2 rfl (qf gc rfl rfl (fun w' a=>((l.ext a C).ko.take 2)) rfl ?_)
 refine j6 gc rfl rfl (fun w' a=>((s.ext a hFt).cell rfl)) ?_
 refine j6 gc rfl rfl (fun w' a=>((r.ext a hF2).cell rfl)) ?_
 have K:=k.size
 refine jg rfl (j3 call73 rfl (begin_calls N (n:=W.size) f hok hm zo ht g hbl i hF0) fun Z w2 u=>⟨(by obtain⟨rfl,O,P,j,z⟩:=u;exact X.then j),?_⟩)
 obtain⟨rfl,O,P,j,z⟩:=u
 have k:=k.then j
 refine gv gc 1 rfl (jj (ja (j1 (gq (gu rfl rfl ?_)))))
 exact⟨rfl,O,P,k,yw (fun x=> .inl) K z⟩
theorem ckp_no {W:Wl} {b:Bytes} (h:W.refuses b (if W.turn=4294967295 then 0 else(W.size:Int))≠0):W.x3 b=(W,W.refuses b (if W.turn=4294967295 then 0 else(W.size:Int))):=if_pos h
theorem ckp_bad {W:Wl} {b:Bytes} (h:W.refuses b (if W.turn=4294967295 then 0 else(W.size:Int))=0) {y:kj×Int} (hy:y=Aa W.D (W.turn+1) W.size b) (h2:y.2≠0):W.x3 b=({W with D:=y.1,broken:=true},y.2):=by
 unfold Wl.x3;dsimp only;rw[if_neg (fun e=>e h),←hy,if_pos h2]
theorem ckp_ok {W:Wl} {b:Bytes} (h:W.refuses b (if W.turn=4294967295 then 0 else(W.size:Int))=0) {y:kj×Int} (hy:y=Aa W.D (W.turn+1) W.size b) (h2:y.2=0):W.x3 b=({W with D:=y.1,broken:=false,turn:=W.turn+1,pieces:=[b],used:=kl b.length},0):=by
 unfold Wl.x3;dsimp only;rw[if_neg (fun e=>e h),←hy,if_neg (fun e=>e h2)]
theorem next_turn {t:Nat} (ht:t<4294967296):IntKind.u32.wrap ((t:Int)+1)=((if t=4294967295 then 0 else t+1:Nat):Int):=by
 by_cases h:t=4294967295
 ·subst h;decide
 rw[if_neg h];exact wrap32 (t+1) zo
theorem checkpoint_calls (w:World) {x d m c:Nat} {H F:Nat→Prop} {W:Wl} {p:Option Addr} {b:Bytes} (h:xi w x d H W) (hA:At w d F W.D) (hok:W.D.Ok m) (hm:m+2000<1000000000) (hW:Wl.Ok W) (hs:vt w p b) (hbl:b.length<1000000000) (hr:Rt w) (hF0:¬F 0) (hHF:∀y,H y→¬F y) (hpF:∀y off,p=some ⟨y,off,none⟩→¬F y∧¬H y∧y<w.heap.size):
  gn prog 38 [.pointer (some ⟨x,0,none⟩),.slice p b.length c] w fun v w'=>LogQ w x d F H (W.x3 b) v w':=by
 refine gx func38 ?_
 have hX:=Ext.refl (fun y=>F y∨H y) w
 have hsl:=D6 b.length
 have hFlt:=hA.lt
 have hHlt:=h.lt
 obtain⟨hz1,hz2⟩:=hW.size
 have hz5:=hW.turn
 have hxH:=h.own
 have hlog:=h
 have hat:=hA
 have hsb:=hs
 have hrt:=hr
 refine qa (gw rfl fun b2 w1 hn2 hb2 hE1=> ?_)
 have fr2:=Nat.le_trans hX.size hn2
 have hlog:=hlog.ga hE1
 have hat:=hat.ga hE1
 have hsb:=hsb.ga hE1
 have hrt:=Rt.ext hrt hE1 id
 have hX:=hX.gb hE1
 have hb2:j0 w1 b2 58 ([.pointer (some ⟨x,0,none⟩)]):=hb2
 refine gw rfl fun b3 w2 hn3 hb3 hE2=> ?_
 have ne2_3:=j5 hb2.lt hn3
 have fr3:=Nat.le_trans hX.size hn3
 have hb2:=hb2.ga hE2
 have hlog:=hlog.ga hE2
 have hat:=hat.ga hE2
 have hsb:=hsb.ga hE2
 have hrt:=Rt.ext hrt hE2 id
 have hX:=hX.gb hE2
 have hb3:j0 w2 b3 41 ([.slice p b.length c]):=hb3
 refine jz rfl (gk (qa (jb hb2 rfl rfl (jb hb3 rfl rfl ?_))))
 refine gi call116 rfl (ready_calls w2 hlog (p:=p) (n:=b.length) (k:=c)) fun v3 w3 hr3=> ?_
 obtain⟨rfl,hE3⟩:=hr3
 have hb2:=hb2.ga hE3
 have hb3:=hb3.ga hE3
 have hlog:=hlog.ga hE3
 have hat:=hat.ga hE3
 have hsb:=hsb.ga hE3
 have hrt:=Rt.ext hrt hE3 id
 have hX:=hX.gb hE3
 refine jz rfl (je rfl (jl rfl (fun hc=> ?_) (fun hc=> ?_)))
 ·refine gk ?_
  refine j4 (jz rfl (gq (gp (gu rfl rfl ?_))))
  have hre:W.refuses b (if W.turn=4294967295 then 0 else(W.size:Int))=if 40000<b.length then(3:Int) else if W.broken=true then 8 else 0:=by
   unfold Wl.refuses
   by_cases h1:40000<b.length
   ·rw[if_pos h1,if_pos h1]
   ·rw[if_neg h1,if_neg h1] at*
    by_cases h2:W.broken=true
    ·rw[if_pos h2,if_pos h2]
    ·rw[if_neg h2] at hc;exact absurd rfl hc
  rw[ckp_no (by rw[hre];exact hc),hre]
  exact⟨rfl,F,H,hat,hlog,fun y=> .inl,fun y=> .inl,hHF,hX⟩
 ·have hc0:(if 40000<b.length then(3:Int) else if W.broken=true then 8 else 0)=0:=Decidable.not_not.1 hc
  have hb40:b.length≤40000:=by
   rcases Nat.lt_or_ge 40000 b.length with h1|h1
   ·rw[if_pos h1] at hc0;cases hc0
   ·exact h1
  rw[if_neg zo] at hc0
  have hbr:¬W.broken=true:=fun e=>by rw[if_pos e] at hc0;cases hc0
  have hbp:=Cl hb40
  have hre:W.refuses b (if W.turn=4294967295 then 0 else(W.size:Int))=if W.size<kl b.length∨W.turn=4294967295 then 6 else 0:=by
   unfold Wl.refuses
   rw[if_neg zo,if_neg hbr]
   by_cases ht:W.turn=4294967295
   ·rw[if_pos ht,if_pos zo,if_pos (.inr ht)]
   ·rw[if_neg ht]
    by_cases h1:W.size<kl b.length
    ·rw[if_pos zo,if_pos (.inl h1)]
    ·rw[if_neg zo,if_neg (fun e=>e.elim h1 ht)]
  have hF1:¬(F b2∨H b2):=fun e=>by rcases e with e|e;have:=hFlt _ e;omega;have:=hHlt _ e;omega
  have hF2:¬(F b3∨H b3):=fun e=>by rcases e with e|e;have:=hFlt _ e;omega;have:=hHlt _ e;omega
  obtain⟨⟨q0,cq0,rows0,hlb0,_,_,_⟩,_,_⟩:=id hlog
  obtain⟨nx,hnx⟩:∃nx,nx=if W.turn=4294967295 then 0 else W.turn+1:=⟨_,rfl⟩
  have hnxl:nx<4294967296:=by rw[hnx];split<;>omega
  refine j7 (j1 (qa (jb hb2 rfl rfl (j9 gc rfl (gy rfl (hlb0.cell rfl) (j9 gc rfl ?_))))))
  rw[next_turn hz5,←hnx]
  refine gw rfl fun b6 w4 hn6 hb6 hE4=> ?_
  have ne2_6:=j5 hb2.lt hn6
  have ne3_6:=j5 hb3.lt hn6
  have fr6:=Nat.le_trans hX.size hn6
  have hb2:=hb2.ga hE4
  have hb3:=hb3.ga hE4
  have hlog:=hlog.ga hE4
  have hat:=hat.ga hE4
  have hsb:=hsb.ga hE4
  have hrt:=Rt.ext hrt hE4 id
  have hX:=hX.gb hE4
  have hr6:=hr.lt
  refine ky hb6 rfl rfl rfl fun w5 hb6 hE5 hs5=> ?_
  have hb2:=hb2.gj hE5 ne2_6
  have hb3:=hb3.gj hE5 ne3_6
  have hX:=hX.gh hE5 fr6
  have hb6:j0 w5 b6 35 ([.int .u32 (nx:Int)]):=hb6
  have hlog:=hlog.ext hE5 fun y hy e=>by have e:y=b6:=e;have:=hHlt y hy;omega
  have hat:=hat.ext hE5 fun y hy e=>by have e:y=b6:=e;have:=hFlt y hy;omega
  have hsb:vt w5 p b:=hsb.ext hE5 fun y off e hz=>by have hz:y=b6:=hz;have:=(hpF y off e).2.2;omega
  have hrt:=Rt.ext hrt hE5 fun e=>by have e:0=b6:=e;omega
  obtain⟨⟨q1,cq1,rows1,hlb1,_,_,_⟩,_,_⟩:=id hlog
  have hF6:¬(F b6∨H b6):=fun e=>by rcases e with e|e;have:=hFlt _ e;omega;have:=hHlt _ e;omega
  refine qr (gk ?_)
  refine jv (α:=Bool) [2,3,6] rfl (fun z=>[(31,.bool z)]) (fun z u=>(z=decide (W.size<kl b.length∨W.turn=4294967295)∧xi u x d H W∧At u d F W.D∧vt u p b∧Rt u)∧j0 u b2 58 ([.pointer (some ⟨x,0,none⟩)])∧j0 u b3 41 ([.slice p b.length c])∧j0 u b6 35 ([.int .u32 (nx:Int)])∧Ext (fun y=>F y∨H y) w u) ?_ ?_
  ·refine js rfl 13 [qP 0,qP 1,qP 3,qP 4,qP 5,qP 6,qP 7,(2,false),qP 8,qP 9,qP 10,qP 11,qP 12] [] (No) zk fun w6 hE6 hs6=> ?_
   have hd2:=hb2
   have hd3:=hb3
   have hd6:=hb6
   have hlogd:=hlog
   have hatd:=hat
   have hsbd:=hsb
   have hrtd:=hrt
   have hXd:=hX
   have hb2:=hb2.ga hE6
   have hb3:=hb3.ga hE6
   have hb6:=hb6.ga hE6
   have hlog:=hlog.ga hE6
   have hat:=hat.ga hE6
   have hsb:=hsb.ga hE6
   have hrt:=Rt.ext hrt hE6 id
   have hX:=hX.gb hE6
   have hC:Ext (No) _ w6:=hE6.no
   refine j6 gc rfl rfl (fun w' hw'=>(hd3.ga hw').cell rfl) ?_
   refine gv gc 1 rfl (j6 gc rfl rfl (fun w' hw'=>(hd2.ga hw').cell rfl) ?_)
   refine gv gc 3 rfl (j6 gc rfl rfl (fun w' hw'=>((hlb1.ga hw').cell rfl)) ?_)
   refine jg rfl (j3 call65 rfl (vo w6 (b.length:Int)) fun v7 w7 hr7=>⟨(by obtain⟨rfl,hE7⟩:=hr7;exact hC.gb hE7),?_⟩)
   obtain⟨rfl,hE7⟩:=hr7
   have hb2:=hb2.ga hE7
   have hb3:=hb3.ga hE7
   have hb6:=hb6.ga hE7
   have hlog:=hlog.ga hE7
   have hat:=hat.ga hE7
   have hsb:=hsb.ga hE7
   have hrt:=Rt.ext hrt hE7 id
   have hX:=hX.gb hE7
   have hC:=hC.gb hE7
   rw[Aj]
   refine gv gc 2 rfl (Ax 28 rfl (fun hg=> ?_) (fun hg=> ?_))
   ·refine gv gc 3 rfl ?_
    refine jj (ja ?_)
    exact gz (true) rfl ⟨⟨(decide_eq_true (.inl zo)).symm,hlog,hat,hsb,hrt⟩,hb2,hb3,hb6,hX⟩
   ·refine j6 gc rfl rfl (fun w' hw'=>(hd6.ga hw').cell rfl) ?_
    refine gv gc 2 rfl (jj (ja ?_))
    exact gz (decide ((nx:Int)=0)) rfl ⟨⟨by
 rw[decide_eq_decide]
 constructor
 ·intro h0;refine .inr ?_;rcases Nat.lt_or_ge W.turn 4294967295 with h1|h1;rw[if_neg zo] at hnx;omega;omega
 ·intro h0;rcases h0 with h0|h0;omega;rw[if_pos h0] at hnx;omega,hlog,hat,hsb,hrt⟩,hb2,hb3,hb6,hX⟩
  rintro z w8 ⟨⟨hz,hlog,hat,hsb,hrt⟩,hb2,hb3,hb6,hX⟩
  refine vj rfl (fun hc=> ?_) (fun hc=> ?_)
  ·have hcx:=of_decide_eq_true (hz.symm.trans hc)
   rw[if_pos hcx] at hre
   refine je rfl (gq (gp (gu rfl rfl ?_)))
   rw[ckp_no (by rw[hre];decide),hre]
   exact⟨rfl,F,H,hat,hlog,fun y=> .inl,fun y=> .inl,hHF,hX⟩
  ·have hcx:¬(W.size<kl b.length∨W.turn=4294967295):=of_decide_eq_false (hz.symm.trans hc)
   rw[if_neg hcx] at hre
   rw[if_neg (fun e=>hcx (.inr e))] at hnx
   refine j7 (j1 (qa (jb hb2 rfl rfl (j9 gc rfl ?_))))
   have hX1:=hX.size
   have l2:=hb2.lt
   have l3:=hb3.lt
   have l6:=hb6.lt
   refine gi call117 rfl (does_calls w8 hlog hat.lt hHF call118 (fun w1 hE1=>ckp1_calls w1 (hb2.ga hE1) (hb6.ga hE1) (hb3.ga hE1) (hlog.ga hE1) (hat.ga hE1) hok hm hz2 hnxl (hsb.ga hE1) hb40 (hrt.ext hE1 id) hF0 (fun e=>hF1 (.inl e)) (fun e=>hF6 (.inl e)) (fun e=>hF2 (.inl e)) hHF)) fun v9 w9 hr9=> ?_
   obtain⟨rfl,F2,hat2,hFs,hlog2,hHF2,hE9⟩:=hr9
   obtain⟨y,hy⟩:∃y,y=Aa W.D nx W.size b:=⟨_,rfl⟩
   rw[←hy] at hat2 hlog2⊢
   rw[hnx] at hy
   have hxb:∀z,F z∨z=x→F z∨H z:=fun z hz=>hz.imp id fun e=>by rw[e];exact hxH
   have hb2:=hb2.ext hE9 fun e=>hF1 (hxb _ e)
   have hb3:=hb3.ext hE9 fun e=>hF2 (hxb _ e)
   have hb6:=hb6.ext hE9 fun e=>hF6 (hxb _ e)
   have hX:=hX.then (hE9.mono fun z _ e=>hxb z e)
   have hsb:vt w9 p b:=hsb.ext hE9 fun z off e hz=>(hxb z hz).elim (hpF z off e).1 (hpF z off e).2.1
   have hFs:=yw (fun z=> .inl) hX1 hFs
   obtain⟨N,hN⟩:∃N,N=w9.heap.size:=⟨_,rfl⟩
   have hNw:w.heap.size≤N:=by rw[hN];exact hX.size
   have hF2lt:∀z,F2 z→z<N:=by rw[hN];exact hat2.lt
   refine jz rfl ?_
   refine jv (α:=Wl×(Nat→Prop)) [7] rfl (fun z=>[]) (fun z u=>(xi u x d z.2 z.1∧At u d F2 z.1.D∧(∀y,z.2 y→H y∨w.heap.size≤y)∧(∀y,z.2 y→¬F2 y)∧W.x3 b=(z.1,y.2))∧j0 u b2 58 ([.pointer (some ⟨x,0,none⟩)])∧j0 u b3 41 ([.slice p b.length c])∧j0 u b6 35 ([.int .u32 (nx:Int)])∧Ext (fun y=>F y∨H y) w u) ?_ ?_
   ·refine gk ?_
    refine j4 (jz rfl (jl rfl (fun hc=> ?_) (fun hc=> ?_)))
    ·have hy0:y.2=0:=hc
     obtain⟨⟨q,cq,rows,hlb,_,_,_⟩,_,_⟩:=id hlog2
     dsimp only at hlb
     rw[show decide (y.2≠0)=false from decide_eq_false fun e=>e hy0] at hlb
     have hxl:=hHlt x hxH
     have h2x:¬One x b2:=fun e=>by have e:b2=x:=e;omega
     have h3x:¬One x b3:=fun e=>by have e:b3=x:=e;omega
     have h6x:¬One x b6:=fun e=>by have e:b6=x:=e;omega
     have hNC:N=w9.heap.size:=hN
     refine zq7 rfl 19 19 [] (One x) zk fun w10 hE10 hs10=> ?_
     have hd2:=hb2
     have hd3:=hb3
     have hd6:=hb6
     have hlogd:=hlog
     have hatd:=hat
     have hsbd:=hsb
     have hrtd:=hrt
     have hlog2d:=hlog2
     have hat2d:=hat2
     have hlbd:=hlb
     have hXd:=hX
     have hb2:=hb2.ga hE10
     have hb3:=hb3.ga hE10
     have hb6:=hb6.ga hE10
     have hsb:=hsb.ga hE10
     have hat2:=hat2.ga hE10
     have hlb:=hlb.ga hE10
     have hX:=hX.gb hE10
     have hC:Ext (One x) _ w10:=hE10.no
     refine qe [qP 0,qP 1,qP 2,qP 3,qP 4,qP 7,qP 8,(5,false)] 11 rfl zk (j6 gc rfl rfl (fun w' hw'=>((hd2.ext hw' h2x).cell rfl)) ?_)
     refine j6 gc rfl rfl (fun w' hw'=>((hd2.ext hw' h2x).cell rfl)) ?_
     refine j6 gc rfl rfl (fun w' hw'=>((hd2.ext hw' h2x).cell rfl)) ?_
     refine j6 gc rfl rfl (fun w' hw'=>((hd6.ext hw' h6x).cell rfl)) ?_
     refine j6 gc rfl rfl (fun w' hw'=>((hd3.ext hw' h3x).cell rfl)) ?_
     refine j6 gc rfl rfl (fun w' hw'=>((hd3.ext hw' h3x).cell rfl)) ?_
     refine gv gc 1 rfl ?_
     have hNs0:=hC.size
     refine jg rfl (j3 call35 rfl (xc w10 hsb hbl) fun v11 w11 hr11=>⟨(by obtain⟨q2,k2,rfl,ho2,hnq,hE11⟩:=hr11;exact hC.gb hE11),?_⟩)
     obtain⟨q2,k2,rfl,ho2,hnq,hE11⟩:=hr11
     have hb2:=hb2.ga hE11
     have hb3:=hb3.ga hE11
     have hb6:=hb6.ga hE11
     have hsb:=hsb.ga hE11
     have hat2:=hat2.ga hE11
     have hlb:=hlb.ga hE11
     have hX:=hX.gb hE11
     have hC:=hC.gb hE11
     have hnN:∀z,jd q2 z→N≤z:=fun z hz=>by have:=hnq z hz;omega
     refine xg rfl (Ab [6,9] rfl zk ⟨⟨_,rfl,?_⟩,⟨_,rfl,?_⟩,trivial⟩)
     ·refine qd gc rfl 1 rfl rfl rfl zd zd zt (l':=[.slice q2 b.length k2]) rfl fun b43 w12 hn43 hb43 hE12 hs12=>⟨hC.gb hE12,?_⟩
      have ne2_43:=j5 hb2.lt hn43
      have ne3_43:=j5 hb3.lt hn43
      have ne6_43:=j5 hb6.lt hn43
      have fr43:=Nat.le_trans hX.size hn43
      have frhC43:=Nat.le_trans hC.size hn43
      have hb2:=hb2.ga hE12
      have hb3:=hb3.ga hE12
      have hb6:=hb6.ga hE12
      have hat2:=hat2.ga hE12
      have hlb:=hlb.ga hE12
      have ho2:=ho2.ext hE12 fun _ _=>id
      have hX:=hX.gb hE12
      have hC:=hC.gb hE12
      refine qe [(9,false),qP 10,qP 11,(12,false),qP 13,qP 14,(15,false),qP 16,qP 17,(18,false)] 0 rfl zk ?_
      refine jg rfl (j3 call65 rfl (vo w12 (b.length:Int)) fun v13 w13 hr13=>⟨(by obtain⟨rfl,hE13⟩:=hr13;exact hC.gb hE13),?_⟩)
      obtain⟨rfl,hE13⟩:=hr13
      have hb2:=hb2.ga hE13
      have hb3:=hb3.ga hE13
      have hb6:=hb6.ga hE13
      have hb43:=hb43.ga hE13
      have hat2:=hat2.ga hE13
      have hlb:=hlb.ga hE13
      have ho2:=ho2.ext hE13 fun _ _=>id
      have hX:=hX.gb hE13
      have hC:=hC.gb hE13
      rw[Aj]
      refine gv gc 2 rfl ?_
      have hlb0:=hlb
      refine jg rfl (u4 gc hlb rfl rfl (Nat.lt_of_lt_of_eq (by decide:0+(1+1)<6) rfl) fun w14 hlb hE14 hs14=>⟨hC.then hE14,?_⟩)
      have hb2:=hb2.ext hE14 h2x
      have hb3:=hb3.ext hE14 h3x
      have hb6:=hb6.ext hE14 h6x
      have hb43:=hb43.ext hE14 fun e=>by have e:b43=x:=e;omega
      have hC:=hC.then hE14
      have hX:=hX.then (hE14.mono fun z _ e=> .inr (by have e:z=x:=e;rw[e];exact hxH))
      have hat2:=hat2.ext hE14 fun z hz e=>by have e:z=x:=e;subst e;exact hHF2 z hxH hz
      have ho2:=ho2.kc hE14 hlb0 zd
      refine gv gc 2 rfl ?_
      have hlb0:=hlb
      refine jg rfl (u4 gc hlb rfl rfl (Nat.lt_of_lt_of_eq (by decide:0+(2+1)<6) rfl) fun w15 hlb hE15 hs15=>⟨hC.then hE15,?_⟩)
      have hb2:=hb2.ext hE15 h2x
      have hb3:=hb3.ext hE15 h3x
      have hb6:=hb6.ext hE15 h6x
      have hb43:=hb43.ext hE15 fun e=>by have e:b43=x:=e;omega
      have hC:=hC.then hE15
      have hX:=hX.then (hE15.mono fun z _ e=> .inr (by have e:z=x:=e;rw[e];exact hxH))
      have hat2:=hat2.ext hE15 fun z hz e=>by have e:z=x:=e;subst e;exact hHF2 z hxH hz
      have ho2:=ho2.kc hE15 hlb0 zd
      refine gv gc 2 rfl ?_
      have hlb0:=hlb
      refine jg rfl (u4 gc hlb rfl rfl (Nat.lt_of_lt_of_eq (by decide:0+(3+1)<6) rfl) fun w16 hlb hE16 hs16=>⟨hC.then hE16,?_⟩)
      have hb2:=hb2.ext hE16 h2x
      have hb3:=hb3.ext hE16 h3x
      have hb6:=hb6.ext hE16 h6x
      have hb43:=hb43.ext hE16 fun e=>by have e:b43=x:=e;omega
      have hC:=hC.then hE16
      have hX:=hX.then (hE16.mono fun z _ e=> .inr (by have e:z=x:=e;rw[e];exact hxH))
      have hat2:=hat2.ext hE16 fun z hz e=>by have e:z=x:=e;subst e;exact hHF2 z hxH hz
      have ho2:=ho2.kc hE16 hlb0 zd
      have hho:=fun z (hz:jd q2 z)=>ho2.lt hz
      have hxw:=hX.size
      refine jj (ja ?_)
      exact gz ({W with D:=y.1,broken:=false,turn:=W.turn+1,pieces:=[b],used:=kl b.length},fun z=>z=x∨z=b43∨jd q2 z) rfl ⟨⟨⟨⟨some ⟨b43,0,none⟩,1,_,(by rw[hnx] at hlb;exact hlb),Own.blk (n:=1) (c:=1) hb43 1 rfl (Nat.le_refl _) zd,qj.snoc (ps:=[]) (rows:=[]) ⟨rfl,fun i b v h=>by cases h⟩ (y6.ofOwn ho2 fun z hz=> .inr (.inr hz)),fun z hz=>by cases hz;exact .inr (.inl rfl)⟩,.inl rfl,fun z hz=>by rcases hz with rfl|rfl|hz;exact hlb.lt;exact hb43.lt;exact hho z hz⟩,hat2,fun z hz=>by rcases hz with rfl|rfl|hz;exact .inl hxH;exact .inr fr43;exact .inr (Nat.le_trans hNw (hnN z hz)),fun z hz e=>by rcases hz with rfl|rfl|hz;exact hHF2 _ hxH e;have:=hF2lt _ e;omega;have:=hF2lt z e;have:=hnN z hz;omega,by rw[hy0];exact ckp_ok hre hy hy0⟩,hb2,hb3,hb6,hX⟩
     ·refine j3 call65 rfl (vo w11 (b.length:Int)) fun v17 w17 hr17=>⟨(by obtain⟨rfl,hE17⟩:=hr17;exact hC.gb hE17),?_⟩
      obtain⟨rfl,hE17⟩:=hr17
      have hb2:=hb2.ga hE17
      have hb3:=hb3.ga hE17
      have hb6:=hb6.ga hE17
      have hat2:=hat2.ga hE17
      have hlb:=hlb.ga hE17
      have ho2:=ho2.ext hE17 fun _ _=>id
      have hX:=hX.gb hE17
      have hC:=hC.gb hE17
      rw[Aj]
      refine qe [qP 10,qP 11] 8 rfl zk (gv gc 2 rfl (xg rfl (Ab [6,12] rfl zk ⟨⟨_,rfl,?_⟩,⟨_,rfl,?_⟩,trivial⟩)))
      ·refine qd gc rfl 1 rfl rfl rfl zd zd zt (l':=[.slice q2 b.length k2]) rfl fun b43 w18 hn43 hb43 hE18 hs18=>⟨hC.gb hE18,?_⟩
       have ne2_43:=j5 hb2.lt hn43
       have ne3_43:=j5 hb3.lt hn43
       have ne6_43:=j5 hb6.lt hn43
       have fr43:=Nat.le_trans hX.size hn43
       have frhC43:=Nat.le_trans hC.size hn43
       have hb2:=hb2.ga hE18
       have hb3:=hb3.ga hE18
       have hb6:=hb6.ga hE18
       have hat2:=hat2.ga hE18
       have hlb:=hlb.ga hE18
       have ho2:=ho2.ext hE18 fun _ _=>id
       have hX:=hX.gb hE18
       have hC:=hC.gb hE18
       refine qe [(12,false),qP 13,qP 14,(15,false),qP 16,qP 17,(18,false)] 0 rfl zk ?_
       have hlb0:=hlb
       refine jg rfl (u4 gc hlb rfl rfl (Nat.lt_of_lt_of_eq (by decide:0+(1+1)<6) rfl) fun w19 hlb hE19 hs19=>⟨hC.then hE19,?_⟩)
       have hb2:=hb2.ext hE19 h2x
       have hb3:=hb3.ext hE19 h3x
       have hb6:=hb6.ext hE19 h6x
       have hb43:=hb43.ext hE19 fun e=>by have e:b43=x:=e;omega
       have hC:=hC.then hE19
       have hX:=hX.then (hE19.mono fun z _ e=> .inr (by have e:z=x:=e;rw[e];exact hxH))
       have hat2:=hat2.ext hE19 fun z hz e=>by have e:z=x:=e;subst e;exact hHF2 z hxH hz
       have ho2:=ho2.kc hE19 hlb0 zd
       refine gv gc 2 rfl ?_
       have hlb0:=hlb
       refine jg rfl (u4 gc hlb rfl rfl (Nat.lt_of_lt_of_eq (by decide:0+(2+1)<6) rfl) fun w20 hlb hE20 hs20=>⟨hC.then hE20,?_⟩)
       have hb2:=hb2.ext hE20 h2x
       have hb3:=hb3.ext hE20 h3x
       have hb6:=hb6.ext hE20 h6x
       have hb43:=hb43.ext hE20 fun e=>by have e:b43=x:=e;omega
       have hC:=hC.then hE20
       have hX:=hX.then (hE20.mono fun z _ e=> .inr (by have e:z=x:=e;rw[e];exact hxH))
       have hat2:=hat2.ext hE20 fun z hz e=>by have e:z=x:=e;subst e;exact hHF2 z hxH hz
       have ho2:=ho2.kc hE20 hlb0 zd
       refine gv gc 2 rfl ?_
       have hlb0:=hlb
       refine jg rfl (u4 gc hlb rfl rfl (Nat.lt_of_lt_of_eq (by decide:0+(3+1)<6) rfl) fun w21 hlb hE21 hs21=>⟨hC.then hE21,?_⟩)
       have hb2:=hb2.ext hE21 h2x
       have hb3:=hb3.ext hE21 h3x
       have hb6:=hb6.ext hE21 h6x
       have hb43:=hb43.ext hE21 fun e=>by have e:b43=x:=e;omega
       have hC:=hC.then hE21
       have hX:=hX.then (hE21.mono fun z _ e=> .inr (by have e:z=x:=e;rw[e];exact hxH))
       have hat2:=hat2.ext hE21 fun z hz e=>by have e:z=x:=e;subst e;exact hHF2 z hxH hz
       have ho2:=ho2.kc hE21 hlb0 zd
       have hho:=fun z (hz:jd q2 z)=>ho2.lt hz
       have hxw:=hX.size
       refine jj (ja ?_)
       exact gz ({W with D:=y.1,broken:=false,turn:=W.turn+1,pieces:=[b],used:=kl b.length},fun z=>z=x∨z=b43∨jd q2 z) rfl ⟨⟨⟨⟨some ⟨b43,0,none⟩,1,_,(by rw[hnx] at hlb;exact hlb),Own.blk (n:=1) (c:=1) hb43 1 rfl (Nat.le_refl _) zd,qj.snoc (ps:=[]) (rows:=[]) ⟨rfl,fun i b v h=>by cases h⟩ (y6.ofOwn ho2 fun z hz=> .inr (.inr hz)),fun z hz=>by cases hz;exact .inr (.inl rfl)⟩,.inl rfl,fun z hz=>by rcases hz with rfl|rfl|hz;exact hlb.lt;exact hb43.lt;exact hho z hz⟩,hat2,fun z hz=>by rcases hz with rfl|rfl|hz;exact .inl hxH;exact .inr fr43;exact .inr (Nat.le_trans hNw (hnN z hz)),fun z hz e=>by rcases hz with rfl|rfl|hz;exact hHF2 _ hxH e;have:=hF2lt _ e;omega;have:=hF2lt z e;have:=hnN z hz;omega,by rw[hy0];exact ckp_ok hre hy hy0⟩,hb2,hb3,hb6,hX⟩
      ·have hlb0:=hlb
       refine u4 gc hlb rfl rfl (Nat.lt_of_lt_of_eq (by decide:0+(1+1)<6) rfl) fun w22 hlb hE22 hs22=>⟨hC.then hE22,?_⟩
       have hb2:=hb2.ext hE22 h2x
       have hb3:=hb3.ext hE22 h3x
       have hb6:=hb6.ext hE22 h6x
       have hC:=hC.then hE22
       have hX:=hX.then (hE22.mono fun z _ e=> .inr (by have e:z=x:=e;rw[e];exact hxH))
       have hat2:=hat2.ext hE22 fun z hz e=>by have e:z=x:=e;subst e;exact hHF2 z hxH hz
       have ho2:=ho2.kc hE22 hlb0 zd
       refine qe [(6,false),qP 13,qP 14,(15,false),qP 16,qP 17,(18,false)] 0 rfl zk ?_
       refine jg rfl (qd gc rfl 1 rfl rfl rfl zd zd zt (l':=[.slice q2 b.length k2]) rfl fun b43 w23 hn43 hb43 hE23 hs23=>⟨hC.gb hE23,?_⟩)
       have ne2_43:=j5 hb2.lt hn43
       have ne3_43:=j5 hb3.lt hn43
       have ne6_43:=j5 hb6.lt hn43
       have fr43:=Nat.le_trans hX.size hn43
       have frhC43:=Nat.le_trans hC.size hn43
       have hb2:=hb2.ga hE23
       have hb3:=hb3.ga hE23
       have hb6:=hb6.ga hE23
       have hat2:=hat2.ga hE23
       have hlb:=hlb.ga hE23
       have ho2:=ho2.ext hE23 fun _ _=>id
       have hX:=hX.gb hE23
       have hC:=hC.gb hE23
       refine gv gc 2 rfl ?_
       have hlb0:=hlb
       refine jg rfl (u4 gc hlb rfl rfl (Nat.lt_of_lt_of_eq (by decide:0+(2+1)<6) rfl) fun w24 hlb hE24 hs24=>⟨hC.then hE24,?_⟩)
       have hb2:=hb2.ext hE24 h2x
       have hb3:=hb3.ext hE24 h3x
       have hb6:=hb6.ext hE24 h6x
       have hb43:=hb43.ext hE24 fun e=>by have e:b43=x:=e;omega
       have hC:=hC.then hE24
       have hX:=hX.then (hE24.mono fun z _ e=> .inr (by have e:z=x:=e;rw[e];exact hxH))
       have hat2:=hat2.ext hE24 fun z hz e=>by have e:z=x:=e;subst e;exact hHF2 z hxH hz
       have ho2:=ho2.kc hE24 hlb0 zd
       refine gv gc 2 rfl ?_
       have hlb0:=hlb
       refine jg rfl (u4 gc hlb rfl rfl (Nat.lt_of_lt_of_eq (by decide:0+(3+1)<6) rfl) fun w25 hlb hE25 hs25=>⟨hC.then hE25,?_⟩)
       have hb2:=hb2.ext hE25 h2x
       have hb3:=hb3.ext hE25 h3x
       have hb6:=hb6.ext hE25 h6x
       have hb43:=hb43.ext hE25 fun e=>by have e:b43=x:=e;omega
       have hC:=hC.then hE25
       have hX:=hX.then (hE25.mono fun z _ e=> .inr (by have e:z=x:=e;rw[e];exact hxH))
       have hat2:=hat2.ext hE25 fun z hz e=>by have e:z=x:=e;subst e;exact hHF2 z hxH hz
       have ho2:=ho2.kc hE25 hlb0 zd
       have hho:=fun z (hz:jd q2 z)=>ho2.lt hz
       have hxw:=hX.size
       refine jj (ja ?_)
       exact gz ({W with D:=y.1,broken:=false,turn:=W.turn+1,pieces:=[b],used:=kl b.length},fun z=>z=x∨z=b43∨jd q2 z) rfl ⟨⟨⟨⟨some ⟨b43,0,none⟩,1,_,(by rw[hnx] at hlb;exact hlb),Own.blk (n:=1) (c:=1) hb43 1 rfl (Nat.le_refl _) zd,qj.snoc (ps:=[]) (rows:=[]) ⟨rfl,fun i b v h=>by cases h⟩ (y6.ofOwn ho2 fun z hz=> .inr (.inr hz)),fun z hz=>by cases hz;exact .inr (.inl rfl)⟩,.inl rfl,fun z hz=>by rcases hz with rfl|rfl|hz;exact hlb.lt;exact hb43.lt;exact hho z hz⟩,hat2,fun z hz=>by rcases hz with rfl|rfl|hz;exact .inl hxH;exact .inr fr43;exact .inr (Nat.le_trans hNw (hnN z hz)),fun z hz e=>by rcases hz with rfl|rfl|hz;exact hHF2 _ hxH e;have:=hF2lt _ e;omega;have:=hF2lt z e;have:=hnN z hz;omega,by rw[hy0];exact ckp_ok hre hy hy0⟩,hb2,hb3,hb6,hX⟩
    ·refine j7 ?_
     exact gz ({W with D:=y.1,broken:=true},H) rfl ⟨⟨by have e:=hlog2;rw[decide_eq_true hc] at e;exact e.data rfl rfl rfl rfl rfl,hat2,fun z hz=> .inl hz,hHF2,ckp_bad hre hy hc⟩,hb2,hb3,hb6,hX⟩
   rintro⟨V,G⟩ w26 ⟨⟨hlog3,hat3,hGs,hGF,hap⟩,hb2,hb3,hb6,hX⟩
   refine je rfl (gq (gu rfl rfl ?_))
   rw[hap]
   exact⟨rfl,F2,G,hat3,hlog3,hFs,hGs,hGF,hX⟩
theorem ready_nil (w:World) {p:Option Addr} {n k:Nat}:
  gn prog 116 [.pointer none,.slice p n k] w fun v w'=>v= .int .i64 1∧Ext No w w':=by
 refine gx func116 ?_
 have a:=Ext.refl No w
 refine je rfl (gk (gr (je rfl (C3 rfl (je rfl (gq (ji (gp (gu rfl rfl ?_)))))))))
 exact⟨rfl,a⟩
theorem formatW_ok {D:kj} {m:Nat} (hok:D.Ok m) (area:Int):(ve D area).1.Ok (m+6000)∧(ve D area).1.secs.length=D.secs.length:=by
 by_cases h:0≤area∧Bf area.toNat D.secs.length
 ·obtain⟨a,rfl⟩:∃a:Nat,area=(a:Int):=⟨area.toNat,by omega⟩
  rw[Int.toNat_natCast] at h
  have b:=zv0 (List.replicate (2+2*a) zeros) 0 hok (zeros_rep _)
  rw[List.length_replicate] at b
  have c:=h.2.2.1
  rw[formatW_yes h.2]
  split
  ·exact⟨b.mono zo,Bu _ _ _⟩
  exact⟨(beginD_ok b 0 a []).mono (by have:kl ([]:Bytes).length=1:=rfl;omega),by rw[beginD_secs,Bu]⟩
 rw[xz5 h]
 exact⟨hok.mono zo,rfl⟩
theorem format_fine {D:kj} {a:Nat} (h:(ve D (a:Int)).2=0) {m:Nat} (hok:D.Ok m):Wl.Ok (Wl.fresh (ve D (a:Int)).1 a)∧Bf a D.secs.length:=by
 have c:Bf a D.secs.length:=by
  refine Decidable.byContradiction fun d=> ?_
  rw[xz5 (fun e=>d (by have:=e.2;rwa [Int.toNat_natCast] at this))] at h
  exact absurd (show(2:Int)=0 from h) zd
 have f:=(formatW_ok hok (a:Int)).2
 exact⟨⟨⟨c.1,c.2.1⟩,by show 2+2*a≤_;rw[show(Wl.fresh (ve D (a:Int)).1 a).D=(ve D (a:Int)).1 from rfl,f];exact c.2.2,by show 0<4294967296;decide,by simp[Wl.fresh],fun b g=>by rw[List.mem_singleton.1 g];exact Nat.zero_le _,by have:=c.1;show 1≤a;omega,rfl,by have:=c.1;show 1≤a;omega⟩,c⟩
theorem append_fine {W:Wl} {m:Nat} (hok:W.D.Ok m) (hW:Wl.Ok W) (b:Bytes):(W.append b).1.D.Ok (m+2000)∧Wl.Ok (W.append b).1:=by
 by_cases hr:W.refuses b ((W.size:Int)-W.used)=0
 ·obtain⟨y,hy⟩:∃y,y=Bd W.D ((ua W.turn W.size+W.used:Nat):Int) (uw W.turn W.pieces.length b):=⟨_,rfl⟩
  have h1:=zv0 (uw W.turn W.pieces.length b) ((ua W.turn W.size+W.used:Nat):Int) hok (Dc _ _ _)
  have h2:=Bu (uw W.turn W.pieces.length b) W.D ((ua W.turn W.size+W.used:Nat):Int)
  rw[←hy,vq] at h1
  rw[←hy] at h2
  have hsl:=D6 b.length
  by_cases h0:y.2=0
  ·rw[append_ok hr hy h0]
   have hb40:b.length≤40000:=by
    rcases Nat.lt_or_ge 40000 b.length with h|h
    ·unfold Wl.refuses at hr;rw[if_pos h] at hr;cases hr
    exact h
   have hrm:W.used+kl b.length≤W.size:=by
    unfold Wl.refuses at hr
    rw[if_neg zo] at hr
    split at hr
    ·cases hr
    split at hr
    ·cases hr
    omega
   have hp:=Cl hb40
   have hus:W.pieces.length≤u7 W.pieces:=by
    have:∀(l:List Bytes),(∀b∈l,b.length≤40000)→l.length≤u7 l:=by
     intro l
     induction l with
     |nil=>intro _;exact Nat.le_refl _
     |cons a l ih=>
      intro h
      have:=Cl (h a zp)
      have e:u7 (a::l)=kl a.length+u7 l:=by simp[u7]
      rw[e,List.length_cons]
      have:=ih fun x hx=>h x (by simp[hx])
      omega
    exact this _ hW.short
   have hu:=hW.used
   refine⟨h1.mono zo,⟨hW.size,by show _≤y.1.secs.length;rw[h2];exact hW.secs,hW.turn,by simp,fun x hx=> ?_,?_,?_,hrm⟩⟩
   ·rcases List.mem_append.1 hx with hx|hx
    ·exact hW.short x hx
    rw[List.mem_singleton.1 hx];exact hb40
   ·show(W.pieces++[b]).length≤W.size
    rw[List.length_append,List.length_singleton]
    omega
   show W.used+kl b.length=u7 (W.pieces++[b])
   rw[Bz,hu]
  rw[append_bad hr hy h0]
  exact⟨h1.mono zo,⟨hW.size,by show _≤y.1.secs.length;rw[h2];exact hW.secs,hW.turn,hW.some,hW.short,hW.few,hW.used,hW.room⟩⟩
 rw[append_no hr]
 exact⟨hok.mono zo,hW⟩
theorem readsD_ok:∀(k:Nat) {D:kj} {m:Nat} (at_:Int),D.Ok m→(xp D at_ k).1.Ok (m+k)∧(xp D at_ k).1.secs=D.secs∧(xp D at_ k).1.order=D.order∧((xp D at_ k).2.2=0→(xp D at_ k).2.1.length=k∧∀s∈(xp D at_ k).2.1,s.length=64)
 |0,D,m,at_,h=>⟨h,rfl,rfl,fun _=>⟨rfl,fun s hs=>(by cases hs)⟩⟩
 |k+1,D,m,at_,h=>by
  have h1:=h.read at_
  have h2:=kj.Ac D at_ false
  rw[readsD_step]
  split
  ·rename_i he
   exact⟨h1.mono zo,h2.1,h2.2,fun e=>absurd e he⟩
  obtain⟨a1,a2,a3,a4⟩:=readsD_ok k (at_+1) h1
  refine⟨a1.mono zo,a2.trans h2.1,a3.trans h2.2,fun e=> ?_⟩
  obtain⟨b1,b2⟩:=a4 e
  refine⟨by rw[List.length_cons,b1],fun s hs=> ?_⟩
  rcases List.mem_cons.1 hs with rfl|hs
  ·unfold kj.read
   dsimp only
   split
   ·exact zv2 (h.begin at_ false) _
   exact zeros_length
  exact b2 s hs
theorem lyGo_fine (t:Nat):∀(f:Nat) (area:List Bytes) (n:Nat),(∀s∈area,s.length=64)→(∀b∈lyGo t f area n,b.length≤40000)∧u7 (lyGo t f area n)≤area.length
 |0,area,n,h=>⟨fun b hb=>(by cases hb),Nat.zero_le _⟩
 |f+1,area,n,h=>by
  unfold lyGo
  cases hl:Da area t n with
  |none=>exact⟨fun b hb=>(by cases hb),Nat.zero_le _⟩
  |some b=>
   obtain⟨h1,h2,h3⟩:=liesB_some h hl
   obtain⟨i1,i2⟩:=lyGo_fine t f (area.drop (kl b.length)) (n+1) fun s hs=>h s (List.mem_of_mem_drop hs)
   dsimp only
   refine⟨fun x hx=> ?_,?_⟩
   ·rcases List.mem_cons.1 hx with rfl|hx
    ·exact h1
    exact i1 x hx
   rw[List.length_drop] at i2
   have e:u7 (b::lyGo t f (area.drop (kl b.length)) (n+1))=kl b.length+u7 (lyGo t f (area.drop (kl b.length)) (n+1)):=by simp[u7]
   rw[e]
   omega
theorem used_few:∀(l:List Bytes),(∀b∈l,b.length≤40000)→l.length≤u7 l
 | [],_=>Nat.le_refl _
 |a::l,h=>by
  have:=Cl (h a zp)
  have e:u7 (a::l)=kl a.length+u7 l:=by simp[u7]
  rw[e,List.length_cons]
  have:=used_few l fun x hx=>h x (by simp[hx])
  omega
theorem openAt_fine {D:kj} {m t n:Nat} (hok:D.Ok m) (hn:n≤1000):(vm D t n).1.Ok (m+4000)∧(vm D t n).1.secs.length=D.secs.length∧((vm D t n).2.1=0→(vm D t n).2.2.1=t∧(vm D t n).2.2.2.1=n∧(vm D t n).2.2.2.2≠[]∧(∀b∈(vm D t n).2.2.2.2,b.length≤40000)∧u7 (vm D t n).2.2.2.2≤n):=by
 obtain⟨c,d,o,i⟩:=readsD_ok n (ua t n) hok
 unfold vm
 dsimp only
 split
 ·rename_i f
  exact⟨c.mono zo,by rw[d],fun e=>absurd e f⟩
 rename_i f
 obtain⟨h,j⟩:=i (Decidable.not_not.1 f)
 obtain⟨k,l⟩:=lyGo_fine t (xp D (ua t n) n).2.1.length (xp D (ua t n) n).2.1 0 j
 split
 ·exact⟨c.mono zo,by rw[d],fun e=>absurd (show(140:Int)=0 from e) zd⟩
 rename_i g
 have a:=cleanD_ok c ((ua t n+u7 (lyingB (xp D (ua t n) n).2.1 t):Nat):Int) ((xp D (ua t n) n).2.1.drop (u7 (lyingB (xp D (ua t n) n).2.1 t)))
 rw[List.length_drop,h] at a
 exact⟨a.mono zo,by rw[cleanD_secs,d],fun _=>⟨rfl,rfl,g,k,Nat.le_trans l (Nat.le_of_eq h)⟩⟩
theorem openW_fine {D:kj} {m:Nat} (hok:D.Ok m):(ui D).1.Ok (m+5000)∧(ui D).1.secs.length=D.secs.length∧((ui D).2.1=0→Wl.Ok (Wl.opened (ui D))):=by
 obtain⟨⟨i,j,v⟩,b|⟨t,n,b,w,c,o⟩⟩:=xj5 hok
 ·rw[openW_no b.1]
  exact⟨i.mono zo,by rw[j],fun e=>absurd e b.2⟩
 rw[openW_yes b]
 obtain⟨p,q,r⟩:=openAt_fine (t:=t) i c.2.1
 have a:(vm (u1 D).1 t n).1.secs.length=D.secs.length:=by rw[q,j]
 refine⟨p.mono zo,a,fun e=> ?_⟩
 obtain⟨s,d,u,k,l⟩:=r e
 have f:=c.1
 have g:=c.2.1
 have h:=c.2.2
 refine⟨?_,?_,?_,u,k,?_,rfl,?_⟩
 ·show 4≤(vm (u1 D).1 t n).2.2.2.1∧(vm (u1 D).1 t n).2.2.2.1≤1000
  rw[d];exact⟨f,g⟩
 ·show 2+2*(vm (u1 D).1 t n).2.2.2.1≤(vm (u1 D).1 t n).1.secs.length
  rw[d,a];exact h
 ·show(vm (u1 D).1 t n).2.2.1<4294967296
  rw[s];exact o
 ·show(vm (u1 D).1 t n).2.2.2.2.length≤(vm (u1 D).1 t n).2.2.2.1
  rw[d];exact Nat.le_trans (used_few _ k) l
 show u7 (vm (u1 D).1 t n).2.2.2.2≤(vm (u1 D).1 t n).2.2.2.1
 rw[d];exact l
theorem new_calls (w:World) {n:Nat} (h:1≤n∧n≤2048):
  gn prog 22 [.int .i64 (n:Int)] w fun v w'=>∃(d:Nat) (F:Nat→Prop),v= .tuple #[.pointer (some ⟨d,0,none⟩),.int .i64 0]∧At w' d F (kj.fresh n)∧(∀y,F y→w.heap.size≤y)∧Ext No w w':=
 (dk_new w (n:Int)).mono fun v w' hq=>by
  rw[if_pos zo] at hq
  obtain⟨d,h1,h2,h3,h4⟩:=hq
  rw[Int.toNat_natCast] at h3
  exact⟨d,_,h1,h3,fun y hy=>hy.elim (fun e=>e.elim) fun e=>e.1,h4⟩
end Go.Proofs.YtpdiphfjmepijaaGreatDoor
namespace Go.Vc
theorem Own.opened {w:World} {p:Option Addr} {n c T sz:Nat} {xs:List Value} (h:Own w p n c T sz xs) (hn:0<n):∃b l,p=some ⟨b,0,none⟩∧j0 w b T l∧l.length=c*sz∧n≤c∧c≤maxLen∧l.take (n*sz)=xs:=by
 rcases h with⟨_,h,_,_⟩|⟨b,l,d,e,f,a,g,i⟩
 ·omega
 exact⟨b,l,d,e,f,a,g,i⟩
theorem Own.yq3 {w:World} {b n c T sz:Nat} {l xs:List Value} {k:Nat} {v:Value} (hl:l.length=c*sz) (hn:n≤c) (hc:c≤maxLen) (hx:l.take (n*sz)=xs) (hb:j0 w b T (l.set k v)):Own w (some ⟨b,0,none⟩) n c T sz (xs.set k v):=
 .inr ⟨b,_,rfl,hb,by rw[List.length_set,hl],hn,hc,by rw[List.take_set,hx]⟩
theorem yj0 {α:Type} {f:α→List Value} {n:Nat} {l:List α} (hn:∀x∈l,(f x).length=n) {i j:Nat} (hi:i<l.length) (hj:j<n) {v:Value} {y:α} (hy:f y=(f l[i]).set j v):(l.flatMap f).set (i*n+j) v=(l.set i y).flatMap f:=by
 have h:=xj6 (Uni.map hn) (i:=i) (j:=j) (r:=f l[i]) (by rw[List.getElem?_map,List.getElem?_eq_getElem hi];rfl) [v] zc
 rw[List.flatMap_def,List.flatMap_def,List.map_set,hy]
 exact h
def upto {α:Type} (g:α→α) (i:Nat) (l:List α):List α:=(l.take i).map g++l.drop i
theorem upto_zero {α:Type} (g:α→α) (l:List α):upto g 0 l=l:=by simp[upto]
theorem yz7 {α:Type} (g:α→α) (i:Nat) (l:List α):(upto g i l).length=l.length:=by simp[upto];omega
theorem upto_all {α:Type} {g:α→α} {i:Nat} {l:List α} (h:l.length≤i):upto g i l=l.map g:=by
 simp[upto,List.take_of_length_le h,List.drop_eq_nil_of_le h]
theorem upto_get {α:Type} {g:α→α} {i:Nat} {l:List α} (h:i<l.length):(upto g i l)[i]'(by rw[yz7];exact h)=l[i]:=by
 have e:((l.take i).map g).length=i:=by simp;omega
 simp only[upto]
 rw[List.getElem_append_right (by rw[e];exact Nat.le_refl _)]
 rw[List.getElem_drop]
 congr 1
 omega
theorem upto_step {α:Type} {g:α→α} {i:Nat} {l:List α} (h:i<l.length):(upto g i l).set i (g l[i])=upto g (i+1) l:=by
 have e:((l.take i).map g).length=i:=by simp;omega
 simp only[upto]
 rw[List.set_append,if_neg zo,e,Nat.sub_self,List.drop_eq_getElem_cons h,List.set_cons_zero,List.take_succ_eq_append_getElem h,List.map_append,List.append_assoc]
 rfl
theorem upto_mem {α:Type} {g:α→α} {i:Nat} {l:List α} {p:α→Prop} (h:∀x∈l,p x) (hg:∀x,p x→p (g x)):∀x∈upto g i l,p x:=fun x hx=>by
 simp only[upto,List.mem_append,List.mem_map] at hx
 rcases hx with⟨y,hy,rfl⟩|hx
 ·exact hg y (h y (List.mem_of_mem_take hy))
 exact h x (List.mem_of_mem_drop hx)
theorem strU_cut (l:Str) (n:Nat):(uo l).extract 0 (min (uo l).size n)=uo (l.take n):=by
 apply ByteArray.ext
 show((uo l).extract 0 (min (uo l).size n)).data=(l.take n).toArray
 rw[ByteArray.data_extract,strU_size]
 show l.toArray.extract 0 (min l.length n)=_
 rw[List.extract_toArray]
 congr 1
 simp only[List.extract,Nat.sub_zero,List.drop_zero]
 rw[List.take_eq_take_iff]
 omega
theorem minI (n k:Nat):(if(k:Int)<(n:Int) then(k:Int) else(n:Int))=((min n k:Nat):Int):=by split<;>omega
theorem cutBds (n k:Nat):Bds.Is ⟨none,some (if(k:Int)<(n:Int) then(k:Int) else(n:Int)),none⟩ n n 0 (min n k) n:=
 ⟨.inr ⟨rfl,rfl⟩,.inl (congrArg some (minI n k)),.inr ⟨rfl,rfl⟩,Nat.zero_le _,by omega,Nat.le_refl _⟩
theorem Av {α:Type} (l:List α) (k:Nat):min l.length k=(l.take k).length:=by simp[Nat.min_comm]
theorem Sl.cut {α:Type} {w:World} {p:Option Addr} {f:α→List Value} {n:Nat} {l:List α} (h:Sl w p l.length n (l.flatMap f)) (hn:∀x∈l,(f x).length=n) (k:Nat):Sl w p (l.take k).length n ((l.take k).flatMap f):=by
 have a:=h.slice 0 (min l.length k) (min l.length k) (Nat.zero_le _) (Nat.le_refl _) zo
 have e:((l.flatMap f).drop (0*n)).take ((min l.length k-0)*n)=(l.take k).flatMap f:=by
  rw[Nat.zero_mul,List.drop_zero,Nat.sub_zero,List.flatMap_def,List.flatMap_def,rows_take (Uni.map hn),←List.map_take]
  congr 2
  rw[List.take_eq_take_iff]
  omega
 rw[e,ka,Nat.sub_zero,Av] at a
 exact a
abbrev IdB:=List UInt8
/-! ### Ad rows of Ids -/
def idLt (a b:IdB):Prop:=Op.bytesLess a b=true
instance (a b:IdB):Decidable (idLt a b):=inferInstanceAs (Decidable (_=true))
theorem idLt_irrefl (a:IdB):¬idLt a a:=fun h=>bl_asymm a a h h
theorem bl_trans:∀(x y z:List UInt8),Op.bytesLess x y=true→Op.bytesLess y z=true→Op.bytesLess x z=true
 | [],[],_,h,_=>by cases h
 | [],_::_,[],_,h=>by cases h
 | [],_::_,_::_,_,_=>rfl
 |_::_,[],_,h,_=>by cases h
 |_::_,_::_,[],_,h=>by cases h
 |a::x,b::y,c::z,h,k=>by
  simp only[Op.bytesLess,Bool.or_eq_true,Bool.and_eq_true,decide_eq_true_eq,beq_iff_eq] at h k⊢
  rcases h with h|⟨rfl,h⟩
  ·rcases k with k|⟨rfl,k⟩
   ·exact .inl (UInt8.lt_trans h k)
   exact .inl h
  rcases k with k|⟨rfl,k⟩
  ·exact .inl k
  exact .inr ⟨rfl,bl_trans x y z h k⟩
def Rise (l:List IdB):Prop:=l.Pairwise idLt
theorem rise_nodup {l:List IdB} (h:Rise l):l.Nodup:=List.Pairwise.imp (fun{a b} (hab:idLt a b) (e:a=b)=>idLt_irrefl b (e▸hab)) h
/-! ### All that an Id leads to -/
open Classical in
/-! ### Closed commits -/
structure xt where
  name:Str
  was:Bool
  is:Bool
  old:Bytes
  new:Bytes
  deriving DecidableEq
structure A2 where
  objs:List jk
  sets:List xt
  deriving DecidableEq
abbrev A9:=Str×Bytes
structure Dj where
  row:List jk
  vals:List A9
def xx3 (is:Bool) (b:Bytes):Prop:=b.length≤4096∧(is=true∨b.length=0)
instance (i:Bool) (b:Bytes):Decidable (xx3 i b):=inferInstanceAs (Decidable (_∧_))
def xq6 (s:xt):Prop:=s.name≠[]∧s.name.length≤32∧xx3 s.was s.old∧xx3 s.is s.new
instance (s:xt):Decidable (xq6 s):=inferInstanceAs (Decidable (_∧_))
def zv4 (l:List xt):Prop:=(∀s∈l,xq6 s)∧(l.map xt.name).Nodup
instance (l:List xt):Decidable (zv4 l):=inferInstanceAs (Decidable (_∧_))
def yn (b:A2):Prop:=b.objs.length≤4096∧b.sets.length≤128∧(∀o∈b.objs,xy o)∧zv4 b.sets
instance (b:A2):Decidable (yn b):=inferInstanceAs (Decidable (_∧_))
def sideB (is:Bool) (b:Bytes):Bytes:=[isB is]++ue 2 b
def yq3 (s:xt):Bytes:=ue 1 s.name++sideB s.was s.old++sideB s.is s.new
def Df (l:List jk):Bytes:=l.flatMap fun o=>ue 2 (laidB o)
def qi (b:A2):Bytes:=be 2 b.objs.length++Df b.objs++be 1 b.sets.length++b.sets.flatMap yq3
def Ds.side (s:Ds):(Bool×Bytes)×Ds:=((decide (0<num (s.off 1).1),((s.off 1).2.str 2).1),((s.off 1).2.str 2).2)
def Ds.set (s:Ds):xt×Ds:=
  let n:=s.str 1
  let o:=n.2.side
  let p:=o.2.side
  (⟨n.1,o.1.1,p.1.1,o.1.2,p.1.2⟩,p.2)
abbrev zq0:A2:=⟨[],[]⟩
def yz1 (b:Bytes):(List Bytes×List xt)×Ds:=
  let n:=(⟨b,false⟩:Ds).off 2
  let os:=Ds.each (fun s=>s.str 2) (num n.1) n.2
  let m:=os.2.off 1
  let ss:=Ds.each Ds.set (num m.1) m.2
  ((os.1,ss.1),ss.2)
def xj9 (x:List Bytes×List xt):A2:=⟨x.1.map fun y=>(x4 y).1,x.2⟩
def uc (b:Bytes):A2×Int:=
  if(yz1 b).2.bad then(zq0,7)
  else if(∀y∈(yz1 b).1.1,(x4 y).2=0)∧yn (xj9 (yz1 b).1)∧qi (xj9 (yz1 b).1)=b then(xj9 (yz1 b).1,0)
  else(zq0,2)
/-! ### what a batch brings -/
def uv (l:List jk):List IdB:=l.map Ao
def brO (s:Option (List jk×List jk)) (o:jk):Option (List jk×List jk):=
  s.bind fun p=>if Ao o∈uv p.1 then some p else if∀x∈qx o,x∈uv p.1 then some (p.1++[o],p.2++[o]) else none
def yf (row l:List jk):Option (List jk×List jk):=l.foldl brO (some (row,[]))
def zz3 (l:List A9) (n:Str):Option Bytes:=(l.find? fun v=>decide (v.1=n)).map (·.2)
def xw8 (l:List A9) (s:xt):Prop:=zz3 l s.name=if s.was then some s.old else none
instance (l:List A9) (s:xt):Decidable (xw8 l s):=inferInstanceAs (Decidable (_=_))
abbrev nLt (a b:Str):Prop:=SLt (uo a) (uo b)
def yx5 (l:List A9) (s:xt):List A9:=
  (l.filter fun v=>decide (nLt v.1 s.name))++(if s.is then [(s.name,s.new)] else [])++l.filter fun v=>decide (nLt s.name v.1)
def seS (v:Option (List A9)) (s:xt):Option (List A9):=v.bind fun l=>if xw8 l s then some (yx5 l s) else none
def Am (l:List A9) (ss:List xt):Option (List A9):=ss.foldl seS (some l)
def jt (s:Dj) (b:A2):Dj×A2×Int:=match yf s.row b.objs with
  |none=>(s,zq0,4)
  |some p=>match Am s.vals b.sets with
    |none=>(s,zq0,200)
    |some v=>if 128<v.length then(s,zq0,6) else(⟨p.1,v⟩,⟨p.2,b.sets⟩,0)
def Az (s:Dj):A2:=⟨s.row,s.vals.map fun v=>⟨v.1,false,true,[],v.2⟩⟩
def ux (s:Dj) (b:Bytes):Option Dj:=
  if(uc b).2=0∧(jt s (uc b).1).2.2=0∧(jt s (uc b).1).2.1.objs.length=(uc b).1.objs.length then some (jt s (uc b).1).1 else none
abbrev yx4:Dj:=⟨[],[]⟩
def xr (b:Bytes):Option Dj:=if b=[] then some yx4 else(ux yx4 b).bind fun s=>if qi (Az s)=b then some s else none
def saidD (ps:List Bytes):Option Dj:=match ps with
  | []=>none
  |b::l=>l.foldl (fun s x=>s.bind fun s=>ux s x) (xr b)
/-! ### the store over its log -/
structure Sd where
  W:Wl
  s:Dj
def xq8 (x:Sd) (next:Dj):Sd×Int:=
  if 4096<next.row.length∨40000<(qi (Az next)).length then(x,6)
  else(⟨(x.W.x3 (qi (Az next))).1,if(x.W.x3 (qi (Az next))).2=0 then next else x.s⟩,(x.W.x3 (qi (Az next))).2)
def D5 (x:Sd) (a:Dj) (row:Bytes):Sd×Int:=
  if row.length≤40000∧(kl row.length:Int)≤(x.W.size:Int)-x.W.used then(⟨(x.W.append row).1,if(x.W.append row).2=0 then a else x.s⟩,(x.W.append row).2) else xq8 x a
def y7 (x:Sd) (b:A2):Sd×Int:=
  if x.W.broken=true then(x,8) else if¬yn b then(x,2)
  else if(jt x.s b).2.2≠0∨((jt x.s b).2.1.objs=[]∧(jt x.s b).2.1.sets=[]) then(x,(jt x.s b).2.2)
  else D5 x (jt x.s b).1 (qi (jt x.s b).2.1)
open Classical in
def xq9 (D:kj):kj×Int×Option Sd:=
  if(ui D).2.1≠0 then((ui D).1,(ui D).2.1,none) else match saidD (Wl.opened (ui D)).pieces with
  |none=>((ui D).1,201,none)
  |some s=>((ui D).1,0,some ⟨Wl.opened (ui D),s⟩)
/-! ### what holds of every store -/
def Ad (l:List A9):Prop:=l.Pairwise fun a b=>nLt a.1 b.1
def Ahead:List jk→List jk→Prop
  |_,[]=>True
  |before,o::r=>(Ao o∉uv before∧∀x∈qx o,x∈uv before)∧Ahead (before++[o]) r
structure Dj.Ok (s:Dj):Prop where
  objs:∀o∈s.row,xy o
  ahead:Ahead [] s.row
  rise:Ad s.vals
  vals:∀v∈s.vals,v.1≠[]∧v.1.length≤32∧v.2.length≤4096
  few:s.vals.length≤128
theorem nLt_irrefl (a:Str):¬nLt a a:=fun h=>bl_asymm a a h h
theorem zj6 {a b:Str} (h:nLt a b):¬nLt b a:=fun k=>bl_asymm a b h k
theorem nLt_trans {a b c:Str} (h:nLt a b) (k:nLt b c):nLt a c:=bl_trans a b c h k
theorem nLt_total (a b:Str):nLt a b∨a=b∨nLt b a:=by
 rcases bl_total a b with(h|h)|h
 ·exact .inl h
 ·exact .inr (.inl h)
 exact .inr (.inr h)
theorem nLt_ne {a b:Str} (h:nLt a b):a≠b:=fun e=>nLt_irrefl b (e▸h)
theorem Bx {α β:Type} {f:β→α→β} {b:β} {l:List α} {i:Nat} (hi:i<l.length):(l.take (i+1)).foldl f b=f ((l.take i).foldl f b) l[i]:=by
 rw[List.take_succ_eq_append_getElem hi,List.foldl_append];rfl
theorem Be {α β:Type} {f:Option β→α→Option β} (hf:∀x,f none x=none):∀l:List α,l.foldl f none=none
 | []=>rfl
 |x::r=>by rw[List.foldl_cons,hf,Be hf r]
theorem foldl_stop {α β:Type} {f:Option β→α→Option β} (hf:∀x,f none x=none) {b:Option β} {l:List α} {i:Nat} (hi:i<l.length) (h:f ((l.take i).foldl f b) l[i]=none):l.foldl f b=none:=by
 rw[←List.take_append_drop (i+1) l,List.foldl_append,Bx hi,h,Be hf]
theorem brO_none (o:jk):brO none o=none:=rfl
theorem seS_none (s:xt):seS none s=none:=rfl
/-! ### objects that are brought -/
theorem idsOf_snoc (l:List jk) (o:jk):uv (l++[o])=uv l++[Ao o]:=by rw[uv,List.map_append];rfl
theorem Ahead.snoc {o:jk}:∀{b l:List jk},Ahead b l→(Ao o∉uv (b++l)∧∀x∈qx o,x∈uv (b++l))→Ahead b (l++[o])
 |b,[],_,h=>by rw[List.append_nil] at h;exact⟨h,trivial⟩
 |b,y::r,h,k=>⟨h.1,Ahead.snoc h.2 (by rw[List.append_assoc];exact k)⟩
theorem xz7:∀(l row:List jk) (fresh:List jk) {row' fresh':List jk},Ahead [] row→l.foldl brO (some (row,fresh))=some (row',fresh')→
  Ahead [] row'∧(∃m,row'=row++m∧fresh'=fresh++m∧m.Sublist l)
 | [],row,fresh,row',fresh',ha,h=>by cases h;exact⟨ha,[],by simp,by simp,.slnil⟩
 |o::l,row,fresh,row',fresh',ha,h=>by
  rw[List.foldl_cons] at h
  by_cases h1:Ao o∈uv row
  ·rw[show brO (some (row,fresh)) o=some (row,fresh) from by simp[brO,h1]] at h
   obtain⟨h2,m,e1,e2,e3⟩:=xz7 l row fresh ha h
   exact⟨h2,m,e1,e2,e3.cons _⟩
  by_cases h2:∀x∈qx o,x∈uv row
  ·rw[show brO (some (row,fresh)) o=some (row++[o],fresh++[o]) from by simp only[brO,Option.bind_some,if_neg h1,if_pos h2]] at h
   obtain⟨h3,m,e1,e2,e3⟩:=xz7 l _ _ (ha.snoc (by rw[List.nil_append];exact⟨h1,h2⟩)) h
   exact⟨h3,o::m,by rw[e1,List.append_assoc];rfl,by rw[e2,List.append_assoc];rfl,e3.cons_cons _⟩
  rw[show brO (some (row,fresh)) o=none from by simp only[brO,Option.bind_some,if_neg h1,if_neg h2],Be brO_none] at h
  cases h
/-! ### values -/
theorem find_split {l A B:List A9} {n:Str} (hr:Ad l) (e:l=A++B) (hA:∀v∈A,nLt v.1 n) (hB:∀v,B.head? =some v→¬nLt v.1 n):
  (l.filter fun v=>decide (nLt v.1 n))=A∧((∃x r,B=(n,x)::r∧(l.filter fun v=>decide (nLt n v.1))=r∧zz3 l n=some x)∨
   ((∀v,B.head? =some v→v.1≠n)∧(l.filter fun v=>decide (nLt n v.1))=B∧zz3 l n=none)):=by
 subst e
 obtain⟨_,hrB,_⟩:=List.pairwise_append.1 hr
 have hA2:(A.filter fun v=>decide (nLt v.1 n))=A:=List.filter_eq_self.2 fun v hv=>by simpa using hA v hv
 have hA3:(A.filter fun v=>decide (nLt n v.1))=[]:=List.filter_eq_nil_iff.2 fun v hv=>by simpa using zj6 (hA v hv)
 have hA4:A.find? (fun v=>decide (v.1=n))=none:=List.find?_eq_none.2 fun v hv=>by simpa using nLt_ne (hA v hv)
 cases B with
 |nil=>exact⟨by rw[List.append_nil,hA2],.inr ⟨fun v hv=>(by cases hv),by rw[List.append_nil,hA3],by rw[zz3,List.append_nil,hA4];rfl⟩⟩
 |cons b r=>
  obtain⟨hb,_⟩:=List.pairwise_cons.1 hrB
  have hbn:=hB b rfl
  have hgt:∀v∈r,nLt n v.1:=fun v hv=>by
   rcases nLt_total b.1 n with h|h|h
   ·exact absurd h hbn
   ·rw[←h];exact hb v hv
   exact nLt_trans h (hb v hv)
  have hr1:(r.filter fun v=>decide (nLt v.1 n))=[]:=List.filter_eq_nil_iff.2 fun v hv=>by simpa using zj6 (hgt v hv)
  have hr2:(r.filter fun v=>decide (nLt n v.1))=r:=List.filter_eq_self.2 fun v hv=>by simpa using hgt v hv
  have hr4:r.find? (fun v=>decide (v.1=n))=none:=List.find?_eq_none.2 fun v hv=>by simpa using(nLt_ne (hgt v hv)).symm
  refine⟨by rw[List.filter_append,hA2,List.filter_cons_of_neg (by simpa using hbn),hr1,List.append_nil],?_⟩
  by_cases hbe:b.1=n
  ·refine .inl ⟨b.2,r,by rw[←hbe],?_,?_⟩
   ·rw[List.filter_append,hA3,List.filter_cons_of_neg (by rw[hbe];simpa using nLt_irrefl n),hr2,List.nil_append]
   rw[zz3,List.find?_append,hA4,Option.none_or,List.find?_cons_of_pos (by simpa using hbe)];rfl
  have hnb:nLt n b.1:=by
   rcases nLt_total b.1 n with h|h|h
   ·exact absurd h hbn
   ·exact absurd h hbe
   exact h
  refine .inr ⟨fun v hv=>by cases hv;exact hbe,?_,?_⟩
  ·rw[List.filter_append,hA3,List.filter_cons_of_pos (by simpa using hnb),hr2,List.nil_append]
  rw[zz3,List.find?_append,hA4,Option.none_or,List.find?_cons_of_neg (by simpa using hbe),hr4];rfl
theorem putV_mem {l:List A9} {s:xt} {v:A9} (h:v∈yx5 l s):v∈l∨s.is=true∧v=(s.name,s.new):=by
 unfold yx5 at h
 rcases List.mem_append.1 h with h|h
 ·rcases List.mem_append.1 h with h|h
  ·exact .inl (List.mem_filter.1 h).1
  split at h
  ·rename_i hi;exact .inr ⟨hi,by simpa using h⟩
  cases h
 exact .inl (List.mem_filter.1 h).1
theorem putV_rise {l:List A9} {s:xt} (h:Ad l):Ad (yx5 l s):=by
 unfold yx5 Ad
 refine List.pairwise_append.2 ⟨List.pairwise_append.2 ⟨h.filter _,?_,fun a c b d=> ?_⟩,h.filter _,fun a c b d=> ?_⟩
 ·split
  ·exact List.pairwise_singleton _ _
  exact .nil
 ·have f:=(List.mem_filter.1 c).2
  split at d
  ·rw[List.mem_singleton.1 d];simpa using f
  cases d
 have e:nLt s.name b.1:=by simpa using(List.mem_filter.1 d).2
 rcases List.mem_append.1 c with c|c
 ·exact nLt_trans (by simpa using(List.mem_filter.1 c).2) e
 split at c
 ·rw[List.mem_singleton.1 c];exact e
 cases c
theorem filters_le (n:Str):∀l:List A9,(l.filter fun v=>decide (nLt v.1 n)).length+(l.filter fun v=>decide (nLt n v.1)).length≤l.length
 | []=>Nat.le_refl _
 |v::r=>by
  have:=filters_le n r
  by_cases h:nLt v.1 n
  ·rw[List.filter_cons_of_pos (by simpa using h),List.filter_cons_of_neg (by simpa using zj6 h),List.length_cons,List.length_cons];omega
  by_cases k:nLt n v.1
  ·rw[List.filter_cons_of_neg (by simpa using h),List.filter_cons_of_pos (by simpa using k),List.length_cons,List.length_cons];omega
  rw[List.filter_cons_of_neg (by simpa using h),List.filter_cons_of_neg (by simpa using k),List.length_cons];omega
theorem putV_len (l:List A9) (s:xt):(yx5 l s).length≤l.length+1:=by
 have:=filters_le s.name l
 unfold yx5
 rw[List.length_append,List.length_append]
 split<;>simp only[List.length_cons,List.length_nil]<;>omega
theorem yx7 {p q:A9→Bool}:∀{l:List A9},(∀v∈l,p v=true→q v=true)→(l.filter q).find? p=l.find? p
 | [],_=>rfl
 |v::r,h=>by
  have ih:=yx7 (p:=p) (q:=q) (l:=r) fun u hu=>h u (List.mem_cons_of_mem _ hu)
  by_cases hp:p v=true
  ·rw[List.filter_cons_of_pos (h v List.mem_cons_self hp),List.find?_cons_of_pos hp,List.find?_cons_of_pos hp]
  rw[List.find?_cons_of_neg hp]
  by_cases hq:q v=true
  ·rw[List.filter_cons_of_pos hq,List.find?_cons_of_neg hp,ih]
  rw[List.filter_cons_of_neg hq,ih]
theorem valN_put {l:List A9} {s:xt} {m:Str} (hm:m≠s.name):zz3 (yx5 l s) m=zz3 l m:=by
 unfold zz3 yx5
 congr 1
 have hmid:(if s.is then [(s.name,s.new)] else []:List A9).find? (fun v=>decide (v.1=m))=none:=by
  split
  ·rw[List.find?_cons_of_neg (by simpa using hm.symm)];rfl
  rfl
 rw[List.find?_append,List.find?_append,hmid,Option.or_none]
 rcases nLt_total m s.name with h|h|h
 ·rw[yx7 (fun v _ hv=>by simp only[decide_eq_true_eq] at hv⊢;rw[hv];exact h)]
  have h2:(l.filter fun v=>decide (nLt s.name v.1)).find? (fun v=>decide (v.1=m))=none:=List.find?_eq_none.2 fun v hv=>by
   have h1:nLt s.name v.1:=by simpa using(List.mem_filter.1 hv).2
   simp only[decide_eq_true_eq]
   intro e
   rw[e] at h1
   exact zj6 h h1
  rw[h2,Option.or_none]
 ·exact absurd h hm
 have h2:(l.filter fun v=>decide (nLt v.1 s.name)).find? (fun v=>decide (v.1=m))=none:=List.find?_eq_none.2 fun v hv=>by
  have h1:nLt v.1 s.name:=by simpa using(List.mem_filter.1 hv).2
  simp only[decide_eq_true_eq]
  intro e
  rw[e] at h1
  exact zj6 h h1
 rw[h2,Option.none_or,yx7 (fun v _ hv=>by simp only[decide_eq_true_eq] at hv⊢;rw[hv];exact h)]
theorem yj7:∀(ss:List xt) {l l':List A9},ss.foldl seS (some l)=some l'→Ad l→
  Ad l'∧l'.length≤l.length+ss.length∧(∀v∈l',v∈l∨∃s∈ss,s.is=true∧v=(s.name,s.new))∧∀m,m∉ss.map xt.name→zz3 l' m=zz3 l m
 | [],l,l',h,hr=>by cases h;exact⟨hr,by simp,fun v hv=> .inl hv,fun _ _=>rfl⟩
 |s::r,l,l',h,hr=>by
  rw[List.foldl_cons] at h
  by_cases hf:xw8 l s
  ·rw[show seS (some l) s=some (yx5 l s) from by simp only[seS,Option.bind_some,if_pos hf]] at h
   obtain⟨h1,h2,h3,h4⟩:=yj7 r h (putV_rise hr)
   refine⟨h1,?_,fun v hv=> ?_,fun m hm=> ?_⟩
   ·have:=putV_len l s
    rw[List.length_cons];omega
   ·rcases h3 v hv with h|⟨t,ht,e⟩
    ·rcases putV_mem h with h|h
     ·exact .inl h
     exact .inr ⟨s,List.mem_cons_self,h⟩
    exact .inr ⟨t,List.mem_cons_of_mem _ ht,e⟩
   rw[List.map_cons,List.mem_cons,not_or] at hm
   rw[h4 m hm.2,valN_put hm.1]
  rw[show seS (some l) s=none from by simp only[seS,Option.bind_some,if_neg hf],Be seS_none] at h
  cases h
/-! ### a store stays fine -/
theorem yv8:Dj.Ok yx4:=⟨fun _ h=>(by cases h),trivial,List.Pairwise.nil,fun _ h=>(by cases h),Nat.zero_le _⟩
theorem after_some {s:Dj} {b:A2} (h:(jt s b).2.2=0):∃p v,yf s.row b.objs=some p∧Am s.vals b.sets=some v∧v.length≤128∧jt s b=(⟨p.1,v⟩,⟨p.2,b.sets⟩,0):=by
 unfold jt at h⊢
 cases h1:yf s.row b.objs with
 |none=>rw[h1] at h;cases h
 |some p=>
  rw[h1] at h
  cases h2:Am s.vals b.sets with
  |none=>rw[h2] at h;cases h
  |some v=>
   rw[h2] at h
   dsimp only at h⊢
   split at h
   ·cases h
   rename_i a
   exact⟨p,v,rfl,rfl,by omega,by rw[if_neg a]⟩
theorem xz6 {s:Dj} {b:A2} (h:(jt s b).2.2≠0):(jt s b).1=s∧(jt s b).2.1=zq0:=by
 unfold jt at h⊢
 split
 ·exact⟨rfl,rfl⟩
 rename_i p a
 rw[a] at h
 dsimp only at h⊢
 split
 ·exact⟨rfl,rfl⟩
 rename_i v c
 rw[c] at h
 dsimp only at h⊢
 split
 ·exact⟨rfl,rfl⟩
 rename_i d
 rw[if_neg d] at h
 exact absurd rfl h
theorem after_ok {s:Dj} {b:A2} (hs:s.Ok) (hb:yn b):(jt s b).1.Ok∧(jt s b).1.row.length≤s.row.length+b.objs.length:=by
 by_cases h0:(jt s b).2.2=0
 ·obtain⟨p,v,f,g,i,e⟩:=after_some h0
  rw[e]
  obtain⟨j,m,c,y,d⟩:=xz7 b.objs s.row [] hs.ahead f
  obtain⟨k,z,l,_⟩:=yj7 b.sets g hs.rise
  refine⟨⟨fun o a=> ?_,j,k,fun x n=> ?_,i⟩,by dsimp only;rw[c,List.length_append];have:=d.length_le;omega⟩
  ·dsimp only at a
   rw[c] at a
   rcases List.mem_append.1 a with a|a
   ·exact hs.objs o a
   exact hb.2.2.1 o (d.subset a)
  rcases l x n with h|⟨t,q,h,e⟩
  ·exact hs.vals x h
  obtain⟨r,u,_,w⟩:=hb.2.2.2.1 t q
  rw[e]
  exact⟨r,u,w.1⟩
 rw[(xz6 h0).1];exact⟨hs,Nat.le_add_right _ _⟩
theorem fresh_may {s:Dj} {b:A2} (hb:yn b):yn (jt s b).2.1:=by
 by_cases h0:(jt s b).2.2=0
 ·obtain⟨p,v,h1,h2,h3,e⟩:=after_some h0
  rw[e]
  have key:∀(l row fresh:List jk) (row' fresh':List jk),l.foldl brO (some (row,fresh))=some (row',fresh')→∃m,fresh'=fresh++m∧m.Sublist l:=by
   intro l
   induction l with
   |nil=>intro row fresh row' fresh' h;cases h;exact⟨[],by simp,.slnil⟩
   |cons o l ih=>
    intro row fresh row' fresh' h
    rw[List.foldl_cons] at h
    by_cases h1:Ao o∈uv row
    ·rw[show brO (some (row,fresh)) o=some (row,fresh) from by simp[brO,h1]] at h
     obtain⟨m,e2,e3⟩:=ih row fresh _ _ h
     exact⟨m,e2,e3.cons _⟩
    by_cases h2:∀x∈qx o,x∈uv row
    ·rw[show brO (some (row,fresh)) o=some (row++[o],fresh++[o]) from by simp only[brO,Option.bind_some,if_neg h1,if_pos h2]] at h
     obtain⟨m,e2,e3⟩:=ih _ _ _ _ h
     exact⟨o::m,by rw[e2,List.append_assoc];rfl,e3.cons_cons _⟩
    rw[show brO (some (row,fresh)) o=none from by simp only[brO,Option.bind_some,if_neg h1,if_neg h2],Be brO_none] at h
    cases h
  obtain⟨m,e2,hm⟩:=key b.objs s.row [] p.1 p.2 h1
  rw[List.nil_append] at e2
  rw[e2]
  exact⟨Nat.le_trans hm.length_le hb.1,hb.2.1,fun o ho=>hb.2.2.1 o (hm.subset ho),hb.2.2.2⟩
 rw[(xz6 h0).2]
 exact⟨Nat.zero_le _,Nat.zero_le _,fun _ h=>(by cases h),fun _ h=>(by cases h),List.Pairwise.nil⟩
section
variable {P:Program} {I:qs} {f:Fs} {ops:Array Oper} {o:Oper} {env:Env} {w:World} {K:Env→World→Prop}
end
end Go.Vc
namespace Go.Proofs.YtpdiphfjmepijaaGreatDoor
open Go.Proofs.Tryz
open Go.Vc
theorem zv9:∀(n k:Nat),k<256^n→num (be n k)=k
 |0,k,h=>by
  have:k=0:=by simpa using h
  subst this;rfl
 |n+1,k,h=>by
  rw[be,num_snoc,zv9 n (k/256) (by rw[Nat.pow_succ] at h;omega),UInt8.toNat_ofNat']
  omega
abbrev dS (l:List UInt8):Ds:=⟨l,false⟩
theorem B1 {l r:List UInt8} {n:Nat} (h:l.length=n):(dS (l++r)).off n=(l,dS r):=by
 have:¬((dS (l++r)).bad=true∨(dS (l++r)).rest.length<n):=by
  rintro(a|a)
  ·cases a
  rw[List.length_append] at a;omega
 rw[Ds.off,if_neg this]
 show((l++r).take n,(⟨(l++r).drop n,false⟩:Ds))=_
 rw[List.take_left' h,List.drop_left' h]
theorem zq9 {s:Str} {r:List UInt8} {n:Nat} (h:s.length<256^n):(dS (ue n s++r)).str n=(s,dS r):=by
 rw[ue,List.append_assoc,Ds.str,B1 (jp n _)]
 show(dS (s++r)).off (num (be n s.length))=_
 rw[zv9 n _ h,B1 rfl]
theorem id_app {x r:List UInt8} (h:x.length=32):(dS (x++r)).id=(x,dS r):=by
 rw[Ds.id,B1 h,h]
 simp
theorem xv6 {α:Type} {f:Ds→α×Ds} {e:α→List UInt8}:∀{l:List α} {r:List UInt8},(∀x∈l,∀r,f (dS (e x++r))=(x,dS r))→Ds.each f l.length (dS (l.flatMap e++r))=(l,dS r)
 | [],r,_=>rfl
 |x::l,r,h=>by
  rw[List.length_cons,Ds.Cm rfl,List.flatMap_cons,List.append_assoc,h x List.mem_cons_self,xv6 fun y hy=>h y (List.mem_cons_of_mem _ hy)]
theorem row_app {α:Type} {f:Ds→α×Ds} {e:α→List UInt8} {l:List α} {r:List UInt8} (hl:l.length<256) (h:∀x∈l,∀r,f (dS (e x++r))=(x,dS r)):(dS (be 1 l.length++(l.flatMap e++r))).row f=(l,dS r):=by
 rw[Ds.row,B1 (jp 1 _),zv9 1 _ zo]
 exact xv6 h
theorem leaf_app {x:jf} (hp:x.path.length<256) (hi:x.id.length=32) (r:List UInt8):(dS (Ay x++r)).leaf=(x,dS r):=by
 rw[Ay,List.append_assoc,Ds.leaf,zq9 zo,id_app hi]
theorem is_app (b:Bool):num [isB b]=if b then 1 else 0:=by cases b<;>rfl
theorem chg_app {x:ud} (hp:x.path.length<256) (ht:x.text.length<65536) (r:List UInt8):(dS (xw x++r)).chg=(x,dS r):=by
 have a:(dS ([isB x.is]++(ue 2 x.text++r))).off 1=([isB x.is],dS (ue 2 x.text++r)):=B1 rfl
 rw[xw,List.append_assoc,List.append_assoc,Ds.chg,zq9 zo,a,zq9 zo,is_app]
 obtain⟨p,b,t⟩:=x
 cases b<;>rfl
theorem flatten_flat (l:List (List UInt8)):l.flatten=l.flatMap id:=by rw[List.flatMap_def,List.map_id]
theorem com_app {o:jk} (h:qv o) (hc:ComOk o) (hk:o.kind=3):(dS (comB o)).com=(o,dS []):=by
 obtain⟨hl,hp⟩:=edit_at hc.2.2.2.1
 obtain⟨hpl,hst⟩:=styled_at hc.2.2.2.2
 have hnl:=hc.2.2.1
 have hs3:o.style.toNat<256:=by rcases hc.2.2.2.2.2.2 with h|h|h<;>rw[h.1]<;>decide
 have hse:(o.style.toNat:Int)=o.style:=Int.toNat_of_nonneg hst
 have e:comB o=be 1 o.style.toNat++(o.tree++(be 1 o.parents.length++(o.parents.flatMap id++(o.base++(be 1 o.rows.length++(o.rows.flatMap xw++(be 4 o.number++(be 4 o.author++(ue 1 o.note++[]))))))))):=by
  simp only[comB,List.append_assoc,List.append_nil,flatten_flat]
 rw[e,Ds.com]
 have e1:=B1 (r:=o.tree++(be 1 o.parents.length++(o.parents.flatMap id++(o.base++(be 1 o.rows.length++(o.rows.flatMap xw++(be 4 o.number++(be 4 o.author++(ue 1 o.note++[]))))))))) (jp 1 o.style.toNat)
 have e2:=id_app (r:=be 1 o.parents.length++(o.parents.flatMap id++(o.base++(be 1 o.rows.length++(o.rows.flatMap xw++(be 4 o.number++(be 4 o.author++(ue 1 o.note++[])))))))) h.tree
 have e3:=row_app (f:=Ds.id) (e:=id) (l:=o.parents) (r:=o.base++(be 1 o.rows.length++(o.rows.flatMap xw++(be 4 o.number++(be 4 o.author++(ue 1 o.note++[])))))) zo (fun x hx r=>id_app (h.parents x hx))
 have e4:=id_app (r:=be 1 o.rows.length++(o.rows.flatMap xw++(be 4 o.number++(be 4 o.author++(ue 1 o.note++[]))))) h.base
 have e5:=row_app (f:=Ds.chg) (e:=xw) (l:=o.rows) (r:=be 4 o.number++(be 4 o.author++(ue 1 o.note++[]))) zo (fun x hx r=>chg_app (by have:=(hp x hx).1;omega) (by have:=(hp x hx).2;omega) r)
 have e6:=B1 (r:=be 4 o.author++(ue 1 o.note++[])) (jp 4 o.number)
 have e7:=B1 (r:=ue 1 o.note++[]) (jp 4 o.author)
 have e8:=zq9 (n:=1) (r:=[]) (show o.note.length<256^1 by omega)
 rw[e1]
 dsimp only
 rw[e2]
 dsimp only
 rw[e3]
 dsimp only
 rw[e4]
 dsimp only
 rw[e5]
 dsimp only
 rw[e6]
 dsimp only
 rw[e7]
 dsimp only
 rw[e8,zv9 1 _ zo,zv9 4 _ (by have:=h.number;omega),zv9 4 _ (by have:=h.author;omega),hse]
 obtain⟨k,tx,lv,st,tr,ba,pa,ro,nu,au,no⟩:=o
 have h1:tx=[]:=hc.1
 have h2:lv=[]:=List.eq_nil_of_length_eq_zero hc.2.1
 have h3:k=3:=hk
 subst h1;subst h2;subst h3
 rfl
theorem blob_eq {o:jk} (hk:o.kind=1) (h:BlobOk o):o=blobO o.text:=by
 have:=(blob_zero.1 h).2
 obtain⟨k,m,n,p,q,r,s,t,u,v,no⟩:=o
 have a:k=1:=hk
 subst a
 simp only[ut,jk.mk.injEq,true_and] at this
 obtain⟨b,c,d,e,f,g,i,j,l⟩:=this
 simp only[blobO,ut,b,c,d,e,f,g,i,j,l]
theorem tree_eq {o:jk} (hk:o.kind=2) (h:TreeOk o):o=treeO o.leaves:=by
 have:=(tree_zero.1 h).2
 obtain⟨k,m,n,p,q,r,s,t,u,v,no⟩:=o
 have a:k=2:=hk
 subst a
 simp only[ut,jk.mk.injEq,true_and] at this
 obtain⟨b,c,d,e,f,g,i,j,l⟩:=this
 simp only[treeO,ut,b,c,d,e,f,g,i,j,l]
def parseK (k:Nat) (s:Ds):Option (jk×Ds):=
  if k=1 then some ({ut with kind:=1,text:=(s.str 2).1},(s.str 2).2)
  else if k=2 then some ({ut with kind:=2,leaves:=(s.row Ds.leaf).1},(s.row Ds.leaf).2)
  else if k=3 then some s.com else none
theorem decB_parse {b:List UInt8} (h:b≠[]):x4 b=match parseK (num ((dS b).off 1).1) ((dS b).off 1).2 with|some o=>endB b o|none=>(ut,160):=by
 rw[x4,if_neg h]
 unfold parseK
 dsimp only
 split
 ·rfl
 split
 ·rfl
 split
 ·rfl
 rfl
theorem laid_parse {o:jk} (h:qv o) (hf:yc o):∃k t,laidB o=be 1 k++t∧k<256∧parseK k (dS t)=some (o,dS []):=by
 rcases hf with⟨a,b⟩|⟨a,b⟩|⟨a,b⟩
 ·refine⟨1,ue 2 o.text++[],by rw[laidB,if_pos a,a,List.append_nil];rfl,by decide,?_⟩
  have e:=b.1
  rw[parseK,if_pos rfl,zq9 zo]
  exact congrArg (fun o=>some (o,dS [])) (blob_eq a b).symm
 ·obtain⟨f,d⟩:=leaved_at b.1
  refine⟨2,be 1 o.leaves.length++(o.leaves.flatMap Ay++[]),by rw[laidB,if_neg zo,if_pos a,a,List.append_nil];rfl,by decide,?_⟩
  rw[parseK,if_neg zd,if_pos rfl,row_app zo (fun x c r=>leaf_app (by have:=d x c;omega) (h.leaves x c).2 r)]
  exact congrArg (fun o=>some (o,dS [])) (tree_eq a b).symm
 refine⟨3,comB o,by rw[laidB,if_neg zo,if_neg zo,a];rfl,by decide,?_⟩
 rw[parseK,if_neg zd,if_neg zd,if_pos rfl,com_app h b a]
theorem dec_laid {o:jk} (h:qv o) (hk:xy o):x4 (laidB o)=(o,0):=by
 obtain⟨k,t,e,b,c⟩:=laid_parse h hk.1
 have a:laidB o≠[]:=by
  rw[e]
  intro d
  have:=congrArg List.length d
  rw[List.length_append,jp] at this
  simp at this
 rw[decB_parse a]
 have f:(dS (laidB o)).off 1=(be 1 k,dS t):=by rw[e,B1 (jp 1 k)]
 rw[f,zv9 1 k zo,c]
 show endB (laidB o) (o,dS [])=_
 rw[endB,if_neg (show¬(false=true) from Bool.false_ne_true),if_pos ⟨hk,rfl⟩]
/-! ### Less of it is too short -/
structure A7 {α:Type} (f:Ds→α×Ds):Prop where
  bad:∀s:Ds,s.bad=true→(f s).2.bad=true
  more:∀p q:List UInt8,(f (dS p)).2.bad=true∨f (dS (p++q))=((f (dS p)).1,dS ((f (dS p)).2.rest++q))∧(f (dS p)).2=dS (f (dS p)).2.rest
theorem A7.off (n:Nat):A7 (fun s=>s.off n) where
 bad:=fun s h=>by rw[Ds.off,if_pos (.inl h)]
 more:=fun p q=>by
  by_cases h:p.length<n
  ·left
   rw[Ds.off,if_pos (.inr h)]
  right
  have e1:(dS p).off n=(p.take n,dS (p.drop n)):=by
   rw[Ds.off,if_neg (fun b=>b.elim (fun a=>by cases a) h)]
  have c:(dS (p++q)).off n=((p++q).take n,dS ((p++q).drop n)):=by
   rw[Ds.off,if_neg (fun b=>b.elim (fun a=>by cases a) fun a=>h (by have a:(p++q).length<n:=a;rw[List.length_append] at a;omega))]
  rw[e1,c]
  refine⟨?_,rfl⟩
  rw[List.take_append_of_le_length zo,List.drop_append_of_le_length zo]
theorem A7.bind {α β γ:Type} {f:Ds→α×Ds} {g:α→Ds→β×Ds} {c:α→β→γ} (hf:A7 f) (hg:∀a,A7 (g a)):A7 (fun s=>(c (f s).1 (g (f s).1 (f s).2).1,(g (f s).1 (f s).2).2)) where
 bad:=fun s h=>(hg _).bad _ (hf.bad s h)
 more:=fun p q=>by
  rcases hf.more p q with h|⟨h1,h2⟩
  ·exact .inl ((hg _).bad _ h)
  dsimp only
  rw[h1]
  dsimp only
  have hg':=(hg (f (dS p)).1).more (f (dS p)).2.rest q
  rw[←h2] at hg'
  rcases hg' with h|⟨h3,h4⟩
  ·exact .inl h
  refine .inr ⟨?_,h4⟩
  rw[h3]
theorem A7.pure {α:Type} (a:α):A7 (fun s=>(a,s)):=⟨fun _ h=>h,fun _ _=> .inr ⟨rfl,rfl⟩⟩
theorem A7.str (n:Nat):A7 (fun s=>s.str n):=(A7.off n).bind (g:=fun a s=>s.off (num a)) (c:=fun _ b=>b) fun _=>A7.off _
theorem A7.each {α:Type} {f:Ds→α×Ds} (hf:A7 f):∀n,A7 (Ds.each f n)
 |0=>A7.pure []
 |n+1=>by
  have h:=hf.bind (g:=fun _ s=>Ds.each f n s) (c:=fun a b=>a::b) fun _=>A7.each hf n
  exact{
   bad:=fun s hs=>by rw[Ds.each,if_pos hs];exact hs
   more:=fun p q=>by
    have h1:=h.more p q
    rw[Ds.Cm rfl,Ds.Cm rfl]
    exact h1}
end Go.Proofs.YtpdiphfjmepijaaGreatDoor
