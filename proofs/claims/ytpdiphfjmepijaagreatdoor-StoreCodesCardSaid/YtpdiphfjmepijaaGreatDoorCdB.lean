/-
  Walks and laws towards: the bytes of batches, and the batch of whatever bytes (StoreCodes)
-/
import Derived.IntWalk
import Derived.DeepKeys
import Derived.Test.YtpdiphfjmepijaaGreatDoorCdA
open List renaming flatMap_append→bC,mem_iff_getElem→bJ,mem_map→bN,getElem_map→bR,length_replicate→bS,getElem?_eq_none→cD,getElem?_map→cE,getElem?_append_right→cJ,getElem?_append_left→cT,flatten_cons→dB,set_append_right→dF,flatMap_cons→dI,map_cons→dL
open Bool renaming and_eq_true→bV
open Int renaming toNat_natCast→cC,natCast_nonneg→dN
open Nat renaming add_mul→cQ
namespace Go.Vc
section
variable {P:Program} {I:u0} {f:Fs} {ops:Array Oper} {o:Oper} {env:Env} {w:World} {K:Env→World→Prop}
end
abbrev zu (b:UInt8):Value:= .int .u8 (b.toNat:Int)
def ge (l:List UInt8):List Value:=l.map zu
theorem gm (l:List UInt8):(ge l).length=l.length:=by simp[ge]
instance (l:List UInt8):OneC (ge l):=⟨fun u hu=>by obtain⟨x,_,rfl⟩:=bN.1 hu;rfl⟩
theorem kz (a b:List UInt8):ge (a++b)=ge a++ge b:=by simp[ge]
theorem ui (l:List UInt8) (n:Nat):(ge l).take n=ge (l.take n):=by simp[ge]
theorem uk (l:List UInt8) (n:Nat):(ge l).drop n=ge (l.drop n):=by simp[ge]
theorem bytesU_get (l:List UInt8) {i:Nat} (h:i<l.length):(ge l)[i]? =some (zu l[i]):=by simp[ge,h]
theorem bytesU_inj {a b:List UInt8} (h:ge a=ge b):a=b:=by
 refine(List.map_inj_right (f:=zu) fun x y e=> ?_).1 h
 simp only[zu,Value.int.injEq,true_and] at e
 exact UInt8.toNat_inj.1 zo
abbrev ux (w:World) (p:Option Addr) (l:List UInt8):Prop:=Sl w p l.length 1 (ge l)
def be:Nat→Nat→List UInt8
  |0,_=>[]
  |n+1,x=>be n (x/256)++[UInt8.ofNat x]
theorem jy (n x:Nat):(be n x).length=n:=by
 induction n generalizing x with
 |zero=>rfl
 |succ n ih=>simp[be,ih]
theorem y6 (x:Nat):IntKind.u8.wrap (x:Int)=((UInt8.ofNat x).toNat:Int):=by
 rw[IntKind.wrap_u8,UInt8.toNat_ofNat']
 omega
theorem shr4 (x:Nat):Int.fdiv (x:Int) (2^4)=((x/16:Nat):Int):=by
 rw[Int.fdiv_eq_ediv_of_nonneg _ zd]
 rfl
theorem fill_byte (l t:List UInt8) (k:Nat) (b:UInt8):(ge (l++(List.replicate (k+1) 0++t))).set (l.length+k) (zu b)=ge (l++(List.replicate k 0++(b::t))):=by
 rw[ge,←List.map_set,dF _ _ zo,Nat.add_sub_cancel_left,List.replicate_succ',aV,dF _ _ zp]
 simp[ge]
theorem zw6 (n:Nat):Cn n [Value.int .u8 0]=ge (List.replicate n 0):=by
 rw[rep_one]
 simp[ge,zu]
def num (l:List UInt8):Nat:=l.foldl (fun x b=>x*256+b.toNat) 0
theorem num_snoc (l:List UInt8) (b:UInt8):num (l++[b])=num l*256+b.toNat:=by simp[num]
theorem num_take (l:List UInt8) {i:Nat} (h:i<l.length):num (l.take (i+1))=num (l.take i)*256+(l[i]).toNat:=by
 rw[aQ h,num_snoc]
theorem ux.at {w:World} {p:Option Addr} {l:List UInt8} (h:ux w p l) {i:Nat} (hi:i<l.length):∃b off,p=some ⟨b,off,none⟩∧w.cell? ⟨b,off+i*1,none⟩=some (zu l[i]):=by
 obtain⟨_,d|⟨b,off,a,c⟩⟩:=h
 ·omega
 exact⟨b,off,a,by rw[bE];exact c i _ (bytesU_get l hi)⟩
theorem ub (l:List UInt8):num l<256^l.length:=by
 have:∀(l:List UInt8),num l<256^l.length:=by
  intro l
  generalize hn:l.length=n
  induction n generalizing l with
  |zero=>
   have:l=[]:=aZ hn
   subst this;simp[num]
  |succ n ih=>
   have a:l≠[]:=fun e=>by subst e;simp at hn
   obtain⟨b,c⟩:∃b,l=l.dropLast++[b]:=⟨l.getLast a,(List.dropLast_concat_getLast a).symm⟩
   rw[c,num_snoc]
   have d:=ih l.dropLast (by simp[hn])
   have f:=b.toNat_lt
   rw[Nat.pow_succ]
   omega
 exact this l
theorem num_go (l:List UInt8) (x:Nat):l.foldl (fun x b=>x*256+b.toNat) x=x*256^l.length+num l:=by
 induction l generalizing x with
 |nil=>simp[num]
 |cons b r ih=>
  have e:num (b::r)=(0*256+b.toNat)*256^r.length+num r:=ih _
  rw[List.foldl_cons,ih,e,aW,Nat.pow_succ,cQ,cW,bD,Nat.add_assoc,Nat.mul_assoc,Nat.mul_comm 256]
theorem num_cons (b:UInt8) (l:List UInt8):num (b::l)=b.toNat*256^l.length+num l:=by
 have e:num (b::l)=(0*256+b.toNat)*256^l.length+num l:=num_go l _
 rw[e,cW,bD]
theorem num_drop (l:List UInt8) {i:Nat} (h:i<l.length):num (l.drop i)=(l[i]).toNat*256^(l.length-(i+1))+num (l.drop (i+1)):=by
 rw[bY h,num_cons,aX]
end Go.Vc
namespace Go.Proofs.YtpdiphfjmepijaaGreatDoor
open Go.Proofs.Tryz
open Go.Vc
theorem lies16_calls (w:World) {p:Option Addr} {c:Nat} {l:List UInt8} (h:ux w p l) (hl:l.length<1000000000) (x n:Nat) (hn:n<100) (hx:x<2^16):
  gn prog 158 [.slice p l.length c,.int .u16 (x:Int),.int .i64 (n:Int)] w fun v w'=>∃b,v= .slice (some ⟨b,0,none⟩) (l.length+n) (l.length+n)∧w.heap.size≤b∧gz w' b 5 (ge (l++be n x))∧Ext No w w':=by
 refine gx func158 ?_
 have d:=Ext.refl No w
 refine jd rfl (ki rfl ?_)
 rw[jz _ zo]
 refine wl (zz4 gc rfl (l.length+n) (l.length+n) 1 rfl rfl rfl zd zo zo (aD _) zo zr fun f B m a o C=> ?_)
 have g:=aA d.size m
 have d:=d.gb o
 have a:gz B f 5 (ge (List.replicate (l.length+n) 0)):=by(have e:Cn (l.length+n) (cellsOf ti5.zero)=ge (List.replicate (l.length+n) 0):=zw6 _);rw[←e];exact a
 refine km rfl (ki rfl (wl (zj1 gc rfl 1 rfl a (Src.slice (h.ga d) OneC.h) zn (by rw[gm,bS];dsimp only;omega) fun D q r E=> ?_)))
 have a:gz D f 5 (ge (l++(List.replicate n 0++[]))):=by
  have e:Vc.put (ge (List.replicate (l.length+n) 0)) 0 (ge l)=ge (l++(List.replicate n 0++[])):=by
   rw[put_eq _ _ _ (by simp[gm])]
   rw[uk]
   simp[kz,gm]
  rw[←e];exact q
 have d:=d.gi r g
 refine km rfl (gl (jd rfl (j8 ?_)))
 refine jj (α:=Nat×Nat×List UInt8) [7,8] rfl (fun z=>[(1,.int .u16 (z.2.1:Int)),(9,.int .i64 ((l.length+z.1:Nat):Int))]) (fun z u=>(z.1≤n∧z.2.1<2^16∧be n x=be z.1 z.2.1++z.2.2∧gz u f 5 (ge (l++(List.replicate z.1 0++z.2.2))))∧Ext No w u) (fun z u=>z.1) (n,x,[]) rfl ⟨⟨aD _,hx,by simp,a⟩,d⟩ ?_
 rintro⟨j,y,t⟩ K ⟨⟨F,G,k,a⟩,d⟩
 try dsimp only
 dsimp only at F G k a
 refine gl (jd rfl (jl rfl (fun H=> ?_) (fun H=> ?_)))
 ·obtain⟨i,rfl⟩:∃i,j=i+1:=⟨j-1,by omega⟩
  refine x3 (j8 (ki rfl ?_))
  rw[jz _ zo]
  refine qq (ki rfl ?_)
  rw[show(((l.length+(i+1):Nat):Int)-1)=((l.length+i:Nat):Int) from by omega]
  rw[y6]
  refine ka rfl 1 rfl (l.length+i) rfl zo (0+(l.length+i)*1) rfl (wl (qz gc a rfl rfl (by rw[gm];simp;omega) fun I a s J=> ?_))
  have d:=d.gi s g
  have a:gz I f 5 (ge (l++(List.replicate i 0++(UInt8.ofNat y::t)))):=by
   rw[bD,bE,fill_byte] at a
   exact a
  refine qq (jd rfl (yl rfl ?_))
  rw[show Int.fdiv (Int.fdiv (y:Int) (2^min (4:Int).toNat IntKind.u16.bits)) (2^min (4:Int).toNat IntKind.u16.bits)=((y/16/16:Nat):Int) from by rw[show(2:Int)^min (4:Int).toNat IntKind.u16.bits=2^4 from rfl,shr4,shr4]]
  refine gk ?_
  exact js (jk (i,y/16/16,UInt8.ofNat y::t) rfl ⟨⟨by dsimp only;omega,by dsimp only;omega,by dsimp only;rw[k,be,Nat.div_div_eq_div_mul];simp,a⟩,d⟩ zf)
 have A:j=0:=by omega
 subst A
 have k:be n x=t:=by rw[k];rfl
 rw[List.replicate_zero,cB,←k] at a
 refine Ak (jd rfl (j9 (gv rfl rfl ?_)))
 exact⟨f,rfl,g,a,d⟩
theorem Cu (w:World) {p:Option Addr} {c:Nat} {l:List UInt8} (h:ux w p l) (hl:l.length<1000000000) (x:Nat) (hx:x<2^16):
  gn prog 91 [.slice p l.length c,.int .u16 (x:Int)] w fun v w'=>∃b,v= .slice (some ⟨b,0,none⟩) (l++be 2 x).length (l++be 2 x).length∧w.heap.size≤b∧gz w' b 5 (ge (l++be 2 x))∧Ext No w w':=by
 refine gx func91 ?_
 have a:=Ext.refl No w
 refine jd rfl (ki rfl ?_)
 have d:=a
 refine gh call158 rfl (lies16_calls w (h.ga a) hl x 2 zd hx) fun j k e=> ?_
 obtain⟨b,rfl,g,i,f⟩:=e
 have a:=a.gb f
 refine vr rfl (gv rfl rfl ?_)
 exact⟨b,by simp[jy],aA d.size g,i,a⟩
theorem lies32_calls (w:World) {p:Option Addr} {c:Nat} {l:List UInt8} (h:ux w p l) (hl:l.length<1000000000) (x n:Nat) (hn:n<100) (hx:x<2^32):
  gn prog 206 [.slice p l.length c,.int .u32 (x:Int),.int .i64 (n:Int)] w fun v w'=>∃b,v= .slice (some ⟨b,0,none⟩) (l.length+n) (l.length+n)∧w.heap.size≤b∧gz w' b 5 (ge (l++be n x))∧Ext No w w':=by
 refine gx func206 ?_
 have d:=Ext.refl No w
 refine jd rfl (ki rfl ?_)
 rw[jz _ zo]
 refine wl (zz4 gc rfl (l.length+n) (l.length+n) 1 rfl rfl rfl zd zo zo (aD _) zo zr fun f B m a o C=> ?_)
 have g:=aA d.size m
 have d:=d.gb o
 have a:gz B f 5 (ge (List.replicate (l.length+n) 0)):=by(have e:Cn (l.length+n) (cellsOf ti5.zero)=ge (List.replicate (l.length+n) 0):=zw6 _);rw[←e];exact a
 refine km rfl (ki rfl (wl (zj1 gc rfl 1 rfl a (Src.slice (h.ga d) OneC.h) zn (by rw[gm,bS];dsimp only;omega) fun D q r E=> ?_)))
 have a:gz D f 5 (ge (l++(List.replicate n 0++[]))):=by
  have e:Vc.put (ge (List.replicate (l.length+n) 0)) 0 (ge l)=ge (l++(List.replicate n 0++[])):=by
   rw[put_eq _ _ _ (by simp[gm])]
   rw[uk]
   simp[kz,gm]
  rw[←e];exact q
 have d:=d.gi r g
 refine km rfl (gl (jd rfl (j8 ?_)))
 refine jj (α:=Nat×Nat×List UInt8) [7,8] rfl (fun z=>[(1,.int .u32 (z.2.1:Int)),(9,.int .i64 ((l.length+z.1:Nat):Int))]) (fun z u=>(z.1≤n∧z.2.1<2^32∧be n x=be z.1 z.2.1++z.2.2∧gz u f 5 (ge (l++(List.replicate z.1 0++z.2.2))))∧Ext No w u) (fun z u=>z.1) (n,x,[]) rfl ⟨⟨aD _,hx,by simp,a⟩,d⟩ ?_
 rintro⟨j,y,t⟩ K ⟨⟨F,G,k,a⟩,d⟩
 try dsimp only
 dsimp only at F G k a
 refine gl (jd rfl (jl rfl (fun H=> ?_) (fun H=> ?_)))
 ·obtain⟨i,rfl⟩:∃i,j=i+1:=⟨j-1,by omega⟩
  refine x3 (j8 (ki rfl ?_))
  rw[jz _ zo]
  refine qq (ki rfl ?_)
  rw[show(((l.length+(i+1):Nat):Int)-1)=((l.length+i:Nat):Int) from by omega]
  rw[y6]
  refine ka rfl 1 rfl (l.length+i) rfl zo (0+(l.length+i)*1) rfl (wl (qz gc a rfl rfl (by rw[gm];simp;omega) fun I a s J=> ?_))
  have d:=d.gi s g
  have a:gz I f 5 (ge (l++(List.replicate i 0++(UInt8.ofNat y::t)))):=by
   rw[bD,bE,fill_byte] at a
   exact a
  refine qq (jd rfl (yl rfl ?_))
  rw[show Int.fdiv (Int.fdiv (y:Int) (2^min (4:Int).toNat IntKind.u32.bits)) (2^min (4:Int).toNat IntKind.u32.bits)=((y/16/16:Nat):Int) from by rw[show(2:Int)^min (4:Int).toNat IntKind.u32.bits=2^4 from rfl,shr4,shr4]]
  refine gk ?_
  exact js (jk (i,y/16/16,UInt8.ofNat y::t) rfl ⟨⟨by dsimp only;omega,by dsimp only;omega,by dsimp only;rw[k,be,Nat.div_div_eq_div_mul];simp,a⟩,d⟩ zf)
 have A:j=0:=by omega
 subst A
 have k:be n x=t:=by rw[k];rfl
 rw[List.replicate_zero,cB,←k] at a
 refine Ak (jd rfl (j9 (gv rfl rfl ?_)))
 exact⟨f,rfl,g,a,d⟩
theorem z9 (w:World) {p:Option Addr} {c:Nat} {l:List UInt8} (h:ux w p l) (hl:l.length<1000000000) (x:Nat) (hx:x<2^32):
  gn prog 179 [.slice p l.length c,.int .u32 (x:Int)] w fun v w'=>∃b,v= .slice (some ⟨b,0,none⟩) (l++be 4 x).length (l++be 4 x).length∧w.heap.size≤b∧gz w' b 5 (ge (l++be 4 x))∧Ext No w w':=by
 refine gx func179 ?_
 have a:=Ext.refl No w
 refine jd rfl (ki rfl ?_)
 have d:=a
 refine gh call206 rfl (lies32_calls w (h.ga a) hl x 4 zd hx) fun j k e=> ?_
 obtain⟨b,rfl,g,i,f⟩:=e
 have a:=a.gb f
 refine vr rfl (gv rfl rfl ?_)
 exact⟨b,by simp[jy],aA d.size g,i,a⟩
theorem lies64_calls (w:World) {p:Option Addr} {c:Nat} {l:List UInt8} (h:ux w p l) (hl:l.length<1000000000) (x n:Nat) (hn:n<100) (hx:x<2^64):
  gn prog 233 [.slice p l.length c,.int .u64 (x:Int),.int .i64 (n:Int)] w fun v w'=>∃b,v= .slice (some ⟨b,0,none⟩) (l.length+n) (l.length+n)∧w.heap.size≤b∧gz w' b 5 (ge (l++be n x))∧Ext No w w':=by
 refine gx func233 ?_
 have d:=Ext.refl No w
 refine jd rfl (ki rfl ?_)
 rw[jz _ zo]
 refine wl (zz4 gc rfl (l.length+n) (l.length+n) 1 rfl rfl rfl zd zo zo (aD _) zo zr fun f B m a o C=> ?_)
 have g:=aA d.size m
 have d:=d.gb o
 have a:gz B f 5 (ge (List.replicate (l.length+n) 0)):=by(have e:Cn (l.length+n) (cellsOf ti5.zero)=ge (List.replicate (l.length+n) 0):=zw6 _);rw[←e];exact a
 refine km rfl (ki rfl (wl (zj1 gc rfl 1 rfl a (Src.slice (h.ga d) OneC.h) zn (by rw[gm,bS];dsimp only;omega) fun D q r E=> ?_)))
 have a:gz D f 5 (ge (l++(List.replicate n 0++[]))):=by
  have e:Vc.put (ge (List.replicate (l.length+n) 0)) 0 (ge l)=ge (l++(List.replicate n 0++[])):=by
   rw[put_eq _ _ _ (by simp[gm])]
   rw[uk]
   simp[kz,gm]
  rw[←e];exact q
 have d:=d.gi r g
 refine km rfl (gl (jd rfl (j8 ?_)))
 refine jj (α:=Nat×Nat×List UInt8) [7,8] rfl (fun z=>[(1,.int .u64 (z.2.1:Int)),(9,.int .i64 ((l.length+z.1:Nat):Int))]) (fun z u=>(z.1≤n∧z.2.1<2^64∧be n x=be z.1 z.2.1++z.2.2∧gz u f 5 (ge (l++(List.replicate z.1 0++z.2.2))))∧Ext No w u) (fun z u=>z.1) (n,x,[]) rfl ⟨⟨aD _,hx,by simp,a⟩,d⟩ ?_
 rintro⟨j,y,t⟩ K ⟨⟨F,G,k,a⟩,d⟩
 try dsimp only
 dsimp only at F G k a
 refine gl (jd rfl (jl rfl (fun H=> ?_) (fun H=> ?_)))
 ·obtain⟨i,rfl⟩:∃i,j=i+1:=⟨j-1,by omega⟩
  refine x3 (j8 (ki rfl ?_))
  rw[jz _ zo]
  refine qq (ki rfl ?_)
  rw[show(((l.length+(i+1):Nat):Int)-1)=((l.length+i:Nat):Int) from by omega]
  rw[y6]
  refine ka rfl 1 rfl (l.length+i) rfl zo (0+(l.length+i)*1) rfl (wl (qz gc a rfl rfl (by rw[gm];simp;omega) fun I a s J=> ?_))
  have d:=d.gi s g
  have a:gz I f 5 (ge (l++(List.replicate i 0++(UInt8.ofNat y::t)))):=by
   rw[bD,bE,fill_byte] at a
   exact a
  refine qq (jd rfl (yl rfl ?_))
  rw[show Int.fdiv (Int.fdiv (y:Int) (2^min (4:Int).toNat IntKind.u64.bits)) (2^min (4:Int).toNat IntKind.u64.bits)=((y/16/16:Nat):Int) from by rw[show(2:Int)^min (4:Int).toNat IntKind.u64.bits=2^4 from rfl,shr4,shr4]]
  refine gk ?_
  exact js (jk (i,y/16/16,UInt8.ofNat y::t) rfl ⟨⟨by dsimp only;omega,by dsimp only;omega,by dsimp only;rw[k,be,Nat.div_div_eq_div_mul];simp,a⟩,d⟩ zf)
 have A:j=0:=by omega
 subst A
 have k:be n x=t:=by rw[k];rfl
 rw[List.replicate_zero,cB,←k] at a
 refine Ak (jd rfl (j9 (gv rfl rfl ?_)))
 exact⟨f,rfl,g,a,d⟩
theorem put64_calls (w:World) {p:Option Addr} {c:Nat} {l:List UInt8} (h:ux w p l) (hl:l.length<1000000000) (x:Nat) (hx:x<2^64):
  gn prog 222 [.slice p l.length c,.int .u64 (x:Int)] w fun v w'=>∃b,v= .slice (some ⟨b,0,none⟩) (l++be 8 x).length (l++be 8 x).length∧w.heap.size≤b∧gz w' b 5 (ge (l++be 8 x))∧Ext No w w':=by
 refine gx func222 ?_
 have a:=Ext.refl No w
 refine jd rfl (ki rfl ?_)
 have d:=a
 refine gh call233 rfl (lies64_calls w (h.ga a) hl x 8 zd hx) fun j k e=> ?_
 obtain⟨b,rfl,g,i,f⟩:=e
 have a:=a.gb f
 refine vr rfl (gv rfl rfl ?_)
 exact⟨b,by simp[jy],aA d.size g,i,a⟩
def TyU (w:World) (p:Option Addr):Prop:=∀a,p=some a→∃L,gz w a.block 5 L
theorem TyU.ext {S:Nat→Prop} {w w':World} {p:Option Addr} (h:TyU w p) (hE:Ext S w w') (hS:∀b L,gz w b 5 L→¬S b):TyU w' p:=fun a ha=>by
 obtain⟨L,hL⟩:=h a ha
 exact⟨L,hL.ext hE (hS _ L hL)⟩
theorem TyU.nil (w:World):TyU w none:=fun _ h=>by cases h
theorem TyU.of {w:World} {b:Nat} {L:List Value} (h:gz w b 5 L) (o:Nat) (e:Option Nat):TyU w (some ⟨b,o,e⟩):=fun a ha=>by cases ha;exact⟨L,h⟩
theorem TyU.sub {w:World} {p:Option Addr} (h:TyU w p) (l m sz:Nat):TyU w (u6 p l m sz):=fun a ha=>by
 unfold u6 at ha
 split at ha
 ·exact h a ha
 cases p with
 |none=>cases ha
 |some a0=>
  have h0:=h a0 rfl
  simp only[Option.map_some,bG,Addr.add] at ha
  subst ha
  obtain⟨L,hL⟩:=h0
  refine⟨L,?_⟩
  split<;>exact hL
theorem ux.ju {S:Nat→Prop} {w w':World} {p:Option Addr} {l:List UInt8} (h:ux w p l) (ht:TyU w p) (hE:Ext S w w') (hS:∀b L,gz w b 5 L→¬S b):ux w' p l:=
 h.ext hE fun b off hb=>by obtain⟨L,hL⟩:=ht _ hb;exact hS b L hL
def Rd (w:World) (rb:Nat) (l:List UInt8) (e:Int):Prop:=
  ∃p c,gz w rb 264 [.slice p l.length c,.int .i64 e]∧l.length≤c∧ux w p l∧TyU w p
theorem Rd.ext {S:Nat→Prop} {w w':World} {rb:Nat} {l:List UInt8} {e:Int} (h:Rd w rb l e) (hE:Ext S w w') (h1:¬S rb) (h2:∀b L,gz w b 5 L→¬S b):Rd w' rb l e:=by
 obtain⟨p,c,hb,hc,hs,ht⟩:=h
 exact⟨p,c,hb.ext hE h1,hc,ux.ju hs ht hE h2,ht.ext hE h2⟩
theorem Rd.ga {w w':World} {rb:Nat} {l:List UInt8} {e:Int} (h:Rd w rb l e) (hE:Ext No w w'):Rd w' rb l e:=h.ext hE id fun _ _ _=>id
theorem Rd.lt {w:World} {rb:Nat} {l:List UInt8} {e:Int} (h:Rd w rb l e):rb<w.heap.size:=by obtain⟨_,_,hb,_⟩:=h;exact hb.lt
theorem Rd.ne {w:World} {rb:Nat} {l:List UInt8} {e:Int} (h:Rd w rb l e) {b T:Nat} {L:List Value} (hb:gz w b T L) (hT:264≠T):rb≠b:=by obtain⟨_,_,h,_⟩:=h;exact h.ne hb hT
def vn (l:List UInt8) (e n:Int):List UInt8×List UInt8×Int:=
  if e≠0 then([],l,e) else if n<0 then([],l,2) else if(l.length:Int)<n then([],l,7) else(l.take n.toNat,l.drop n.toNat,0)
theorem offR_len (l:List UInt8) (e n:Int):(vn l e n).1.length≤n.toNat∧(vn l e n).2.1.length≤l.length∧(vn l e n).1.length≤l.length:=by
 unfold vn
 repeat' split
 all_goals simp
 all_goals omega
theorem zx5 (w:World) {p:Option Addr} {c:Nat} {l:List UInt8} (h:ux w p l) (hl:l.length<1000000000):
  gn prog 101 [.slice p l.length c] w fun v w'=>∃rb,v= .pointer (some ⟨rb,0,none⟩)∧w.heap.size≤rb∧Rd w' rb l 0∧Ext No w w':=by
 refine gx func101 ?_
 have d:=Ext.refl No w
 refine jd rfl (ki rfl ?_)
 refine wl (zz4 gc rfl l.length l.length 1 rfl rfl rfl zd rfl rfl (aD _) zo zr fun f s m a n t=> ?_)
 have o:=aA d.size m
 have d:=d.gb n
 have a:gz s f 5 (ge (List.replicate l.length 0)):=by(have e:Cn l.length (cellsOf ti5.zero)=ge (List.replicate l.length 0):=zw6 _);rw[←e];exact a
 refine km rfl (ki rfl (wl (zj1 gc rfl 1 rfl a (Src.slice (h.ga d) OneC.h) (aD _) (by rw[gm,bS];dsimp only;omega) fun u q r x=> ?_)))
 have a:gz u f 5 (ge l):=by
  have e:Vc.put (ge (List.replicate l.length 0)) 0 (ge l)=ge l:=Az (by simp[gm])
  rw[←e];exact q
 have d:=d.gi r o
 refine qq (ki rfl (kg rfl ⟨⟨rfl,by decide⟩,trivial⟩ (l':=[.slice (some ⟨f,0,none⟩) l.length l.length,.int .i64 0]) rfl ?_))
 refine kg rfl ⟨⟨rfl,by decide⟩,trivial⟩ (l':=[.slice (some ⟨f,0,none⟩) l.length l.length,.int .i64 0]) rfl (gw rfl fun g y i b j=> ?_)
 have k:=aA d.size i
 have d:=d.gb j
 have b:gz y g 264 ([.slice (some ⟨f,0,none⟩) l.length l.length,.int .i64 0]):=b
 have a:=a.ga j
 refine vr rfl (gv rfl rfl ?_)
 exact⟨g,rfl,k,⟨_,_,b,aD _,⟨by simp[gm],.inr ⟨f,0,rfl,a.kj⟩⟩,TyU.of a _ _⟩,d⟩
theorem xx4 (w:World) {rb:Nat} {l:List UInt8} {e:Int} (h:Rd w rb l e) (hl:l.length<1000000000) (n:Int):
  gn prog 162 [.pointer (some ⟨rb,0,none⟩),.int .i64 n] w fun v w'=>∃q c',v= .slice q (vn l e n).1.length c'∧ux w' q (vn l e n).1∧TyU w' q∧Rd w' rb (vn l e n).2.1 (vn l e n).2.2∧Ext (One rb) w w':=by
 have O:=h
 obtain⟨p,c,a,g,E,r⟩:=h
 have f:∀(F:World) (b:Nat) (L:List Value),gz w b 5 L→¬One rb b:=fun _ b L P e=>P.ne a zd e
 refine gx func162 ?_
 have T:=Ext.refl (One rb) w
 refine jd rfl (gl (ji (α:=Bool) [0,1] rfl (fun z=>[(15,.bool z)]) (fun z u=>u=w∧z=decide (e≠0)) ?_ ?_))
 ·refine gy ?_
  refine j0 gc rfl (uq 8 rfl (fun M=> ?_) (fun M=> ?_))
  ·cases M
  refine gq gc 4 rfl ?_
  refine gu rfl (a.cell rfl) (gq gc 2 rfl (gk ?_))
  exact gr (_) rfl ⟨rfl,rfl⟩
 rintro z U ⟨H,rfl⟩
 have H:=H.symm
 subst H
 refine jl rfl (fun i=> ?_) (fun i=> ?_)
 ·have s:vn l e n=([],l,e):=aR i
  rw[s]
  refine jd rfl (j9 (j7 (gv rfl rfl ?_)))
  exact⟨none,0,rfl,Sl.nil _ _ _,TyU.nil _,O,Ext.refl _ _⟩
 have G:e=0:=aS.1 i
 refine x3 (gl (jd rfl (jl rfl (fun i=> ?_) (fun i=> ?_))))
 ·have s:vn l e n=([],l,2):=by rw[vn,aP (by simpa using G),aR i]
  rw[s]
  refine ki rfl (kl a rfl rfl rfl fun F d t j=> ?_)
  have k:=t
  have a:=d
  have C:Rd F rb l 2:=⟨p,c,a,g,ux.ju E r t (f F),r.ext t (f F)⟩
  refine qq (jd rfl (j9 (j7 (gv rfl rfl ?_))))
  exact⟨none,0,rfl,Sl.nil _ _ _,TyU.nil _,C,k⟩
 have D:¬n<0:=i
 refine x3 (gl (ki rfl (gu rfl (a.cell rfl) (km rfl (jl rfl (fun i=> ?_) (fun i=> ?_))))))
 ·have s:vn l e n=([],l,7):=by rw[vn,aP (by simpa using G),aP D,aR i]
  rw[s]
  refine ki rfl (kl a rfl rfl rfl fun I d x Q=> ?_)
  have k:=x
  have a:=d
  have C:Rd I rb l 7:=⟨p,c,a,g,ux.ju E r x (f I),r.ext x (f I)⟩
  refine qq (jd rfl (j9 (j7 (gv rfl rfl ?_))))
  exact⟨none,0,rfl,Sl.nil _ _ _,TyU.nil _,C,k⟩
 have s:vn l e n=(l.take n.toNat,l.drop n.toNat,0):=by rw[vn,aP (by simpa using G),aP D,aP i]
 rw[s]
 have y:n=(n.toNat:Int):=by omega
 have A:n.toNat≤l.length:=by omega
 refine x3 (ki rfl (gu rfl (a.cell rfl) (j0 gc rfl ?_)))
 refine wl (zv gc rfl 0 n.toNat n.toNat 1 rfl (.inl ⟨congrArg some y,rfl⟩) (.inl (congrArg some y)) (.inr ⟨rfl,rfl⟩) (aJ _) (aD _) zn ?_)
 dsimp only
 rw[jw,bB]
 refine km rfl (ki rfl (gu rfl (a.cell rfl) (j0 gc rfl ?_)))
 refine wl (zv gc rfl n.toNat l.length c 1 rfl (.inr ⟨rfl,rfl⟩) (.inr ⟨rfl,rfl⟩) (.inl (congrArg some y)) A g (aD _) ?_)
 dsimp only
 refine j0 gc rfl (kl a rfl rfl rfl fun B d m R=> ?_)
 have k:=m
 have a:=d
 have o:=E.slice 0 n.toNat n.toNat (aJ _) (aD _) A
 have j:=E.slice n.toNat l.length c A g (aD _)
 rw[jw,bB,cW,List.drop_zero,bE,ui] at o
 rw[bE,bE,uk,ui,aO zp] at j
 have N:(l.take n.toNat).length=n.toNat:=by rw[aL];omega
 have J:(l.drop n.toNat).length=l.length-n.toNat:=by simp
 have o:ux w p (l.take n.toNat):=by rw[ux,N];exact o
 have j:ux w (u6 p n.toNat c 1) (l.drop n.toNat):=by rw[ux,J];exact j
 have a:gz B rb 264 [.slice (u6 p n.toNat c 1) (l.drop n.toNat).length (c-n.toNat),.int .i64 0]:=by rw[J,←G];exact d
 have C:Rd B rb (l.drop n.toNat) 0:=⟨_,_,a,by rw[J];omega,ux.ju j (r.sub _ _ _) m (f B),(r.sub _ _ _).ext m (f B)⟩
 have S:=ux.ju o r m (f B)
 have K:=r.ext m (f B)
 refine qq (jd rfl (j9 (gv rfl rfl ?_)))
 exact⟨p,n.toNat,by rw[N],S,K,C,k⟩
theorem next8_calls (w:World) {rb:Nat} {l:List UInt8} {e:Int} (h:Rd w rb l e) (hl:l.length<1000000000) (n:Nat) (hn:256^n≤2^8):
  gn prog 173 [.pointer (some ⟨rb,0,none⟩),.int .i64 (n:Int)] w fun v w'=>v= .int .u8 ((num (vn l e n).1:Nat):Int)∧Rd w' rb (vn l e n).2.1 (vn l e n).2.2∧Ext (One rb) w w':=by
 refine gx func173 ?_
 have d:=Ext.refl (One rb) w
 refine jd rfl (gl (ki rfl (gh call162 rfl (xx4 w h hl (n:Int)) fun G H k=> ?_)))
 obtain⟨q,c,rfl,f,t,g,m⟩:=k
 have d:=d.then m
 obtain⟨o,x,p⟩:=offR_len l e n
 obtain⟨s,y⟩:∃s,s=(vn l e n).1:=⟨_,rfl⟩
 rw[←y] at f o p⊢
 refine km rfl (j8 ?_)
 refine jj (α:=Nat) [9,10] rfl (fun z=>[(4,.int .u8 ((num (s.take z):Nat):Int)),(11,.int .i64 (z:Int))]) (fun z u=>(z≤s.length∧ux u q s∧Rd u rb (vn l e n).2.1 (vn l e n).2.2)∧Ext (One rb) w u) (fun z u=>s.length-z) (0) rfl ⟨⟨aJ _,f,g⟩,d⟩ ?_
 rintro i I ⟨⟨j,f,g⟩,d⟩
 try dsimp only
 refine jd rfl (gl (jl rfl (fun A=> ?_) (fun A=> ?_)))
 ·have j:i<s.length:=by omega
  obtain⟨b,r,rfl,a⟩:=f.at j
  have B:=num_take s j
  have C:=ub (s.take (i+1))
  have D:256^(s.take (i+1)).length≤2^8:=aA (cR zd zl) hn
  have E:=(s[i]).toNat_lt
  have F:IntKind.u8.wrap (IntKind.u8.wrap (IntKind.u8.wrap (((num (s.take i):Nat):Int)*2^min (4:Int).toNat IntKind.u8.bits)*2^min (4:Int).toNat IntKind.u8.bits)+((s[i]).toNat:Int))=((num (s.take (i+1)):Nat):Int):=by
   rw[show(2:Int)^min (4:Int).toNat IntKind.u8.bits=16 from rfl,IntWalk.u8_in (((num (s.take i):Nat):Int)*16) zo,IntWalk.u8_in (((num (s.take i):Nat):Int)*16*16) zo,IntWalk.u8_in _ zo]
   omega
  refine Ac (ko (ka rfl 1 rfl i rfl zo (r+i*1) rfl (gu rfl a (km rfl (jd rfl (gl ?_))))))
  refine gy (km rfl (yl rfl ?_))
  rw[F]
  refine gk (Aa rfl ?_)
  rw[jz _ zo]
  refine gk ?_
  exact jk (i+1) rfl ⟨⟨j,f,g⟩,d⟩ zf
 have e:s.take i=s:=aO zo
 rw[e]
 refine Ak (jd rfl (j9 (gv rfl rfl ?_)))
 exact⟨rfl,g,d⟩
theorem next16_calls (w:World) {rb:Nat} {l:List UInt8} {e:Int} (h:Rd w rb l e) (hl:l.length<1000000000) (n:Nat) (hn:256^n≤2^16):
  gn prog 163 [.pointer (some ⟨rb,0,none⟩),.int .i64 (n:Int)] w fun v w'=>v= .int .u16 ((num (vn l e n).1:Nat):Int)∧Rd w' rb (vn l e n).2.1 (vn l e n).2.2∧Ext (One rb) w w':=by
 refine gx func163 ?_
 have d:=Ext.refl (One rb) w
 refine jd rfl (gl (ki rfl (gh call162 rfl (xx4 w h hl (n:Int)) fun G H k=> ?_)))
 obtain⟨q,c,rfl,f,t,g,m⟩:=k
 have d:=d.then m
 obtain⟨o,x,p⟩:=offR_len l e n
 obtain⟨s,y⟩:∃s,s=(vn l e n).1:=⟨_,rfl⟩
 rw[←y] at f o p⊢
 refine km rfl (j8 ?_)
 refine jj (α:=Nat) [9,10] rfl (fun z=>[(4,.int .u16 ((num (s.take z):Nat):Int)),(11,.int .i64 (z:Int))]) (fun z u=>(z≤s.length∧ux u q s∧Rd u rb (vn l e n).2.1 (vn l e n).2.2)∧Ext (One rb) w u) (fun z u=>s.length-z) (0) rfl ⟨⟨aJ _,f,g⟩,d⟩ ?_
 rintro i I ⟨⟨j,f,g⟩,d⟩
 try dsimp only
 refine jd rfl (gl (jl rfl (fun A=> ?_) (fun A=> ?_)))
 ·have j:i<s.length:=by omega
  obtain⟨b,r,rfl,a⟩:=f.at j
  have B:=num_take s j
  have C:=ub (s.take (i+1))
  have D:256^(s.take (i+1)).length≤2^16:=aA (cR zd zl) hn
  have E:=(s[i]).toNat_lt
  have F:IntKind.u16.wrap (IntKind.u16.wrap (IntKind.u16.wrap (((num (s.take i):Nat):Int)*2^min (4:Int).toNat IntKind.u16.bits)*2^min (4:Int).toNat IntKind.u16.bits)+IntKind.u16.wrap ((s[i]).toNat:Int))=((num (s.take (i+1)):Nat):Int):=by
   rw[show(2:Int)^min (4:Int).toNat IntKind.u16.bits=16 from rfl,IntWalk.u16_in ((s[i]).toNat:Int) zo,IntWalk.u16_in (((num (s.take i):Nat):Int)*16) zo,IntWalk.u16_in (((num (s.take i):Nat):Int)*16*16) zo,IntWalk.u16_in _ zo]
   omega
  refine Ac (ko (ka rfl 1 rfl i rfl zo (r+i*1) rfl (gu rfl a (km rfl (jd rfl (gl ?_))))))
  refine gy (km rfl (yl rfl ?_))
  rw[F]
  refine gk (Aa rfl ?_)
  rw[jz _ zo]
  refine gk ?_
  exact jk (i+1) rfl ⟨⟨j,f,g⟩,d⟩ zf
 have e:s.take i=s:=aO zo
 rw[e]
 refine Ak (jd rfl (j9 (gv rfl rfl ?_)))
 exact⟨rfl,g,d⟩
theorem next32_calls (w:World) {rb:Nat} {l:List UInt8} {e:Int} (h:Rd w rb l e) (hl:l.length<1000000000) (n:Nat) (hn:256^n≤2^32):
  gn prog 202 [.pointer (some ⟨rb,0,none⟩),.int .i64 (n:Int)] w fun v w'=>v= .int .u32 ((num (vn l e n).1:Nat):Int)∧Rd w' rb (vn l e n).2.1 (vn l e n).2.2∧Ext (One rb) w w':=by
 refine gx func202 ?_
 have d:=Ext.refl (One rb) w
 refine jd rfl (gl (ki rfl (gh call162 rfl (xx4 w h hl (n:Int)) fun G H k=> ?_)))
 obtain⟨q,c,rfl,f,t,g,m⟩:=k
 have d:=d.then m
 obtain⟨o,x,p⟩:=offR_len l e n
 obtain⟨s,y⟩:∃s,s=(vn l e n).1:=⟨_,rfl⟩
 rw[←y] at f o p⊢
 refine km rfl (j8 ?_)
 refine jj (α:=Nat) [9,10] rfl (fun z=>[(4,.int .u32 ((num (s.take z):Nat):Int)),(11,.int .i64 (z:Int))]) (fun z u=>(z≤s.length∧ux u q s∧Rd u rb (vn l e n).2.1 (vn l e n).2.2)∧Ext (One rb) w u) (fun z u=>s.length-z) (0) rfl ⟨⟨aJ _,f,g⟩,d⟩ ?_
 rintro i I ⟨⟨j,f,g⟩,d⟩
 try dsimp only
 refine jd rfl (gl (jl rfl (fun A=> ?_) (fun A=> ?_)))
 ·have j:i<s.length:=by omega
  obtain⟨b,r,rfl,a⟩:=f.at j
  have B:=num_take s j
  have C:=ub (s.take (i+1))
  have D:256^(s.take (i+1)).length≤2^32:=aA (cR zd zl) hn
  have E:=(s[i]).toNat_lt
  have F:IntKind.u32.wrap (IntKind.u32.wrap (IntKind.u32.wrap (((num (s.take i):Nat):Int)*2^min (4:Int).toNat IntKind.u32.bits)*2^min (4:Int).toNat IntKind.u32.bits)+IntKind.u32.wrap ((s[i]).toNat:Int))=((num (s.take (i+1)):Nat):Int):=by
   rw[show(2:Int)^min (4:Int).toNat IntKind.u32.bits=16 from rfl,IntWalk.u32_in ((s[i]).toNat:Int) zo,IntWalk.u32_in (((num (s.take i):Nat):Int)*16) zo,IntWalk.u32_in (((num (s.take i):Nat):Int)*16*16) zo,IntWalk.u32_in _ zo]
   omega
  refine Ac (ko (ka rfl 1 rfl i rfl zo (r+i*1) rfl (gu rfl a (km rfl (jd rfl (gl ?_))))))
  refine gy (km rfl (yl rfl ?_))
  rw[F]
  refine gk (Aa rfl ?_)
  rw[jz _ zo]
  refine gk ?_
  exact jk (i+1) rfl ⟨⟨j,f,g⟩,d⟩ zf
 have e:s.take i=s:=aO zo
 rw[e]
 refine Ak (jd rfl (j9 (gv rfl rfl ?_)))
 exact⟨rfl,g,d⟩
theorem u8_calls (w:World) {rb:Nat} {l:List UInt8} {e:Int} (h:Rd w rb l e) (hl:l.length<1000000000):
  gn prog 109 [.pointer (some ⟨rb,0,none⟩)] w fun v w'=>v= .int .u8 ((num (vn l e 1).1:Nat):Int)∧Rd w' rb (vn l e 1).2.1 (vn l e 1).2.2∧Ext (One rb) w w':=by
 refine gx func109 ?_
 have a:=Ext.refl (One rb) w
 refine jd rfl (ki rfl (gh call173 rfl (next8_calls w h hl 1 zd) fun f g b=> ?_))
 obtain⟨rfl,d,c⟩:=b
 have a:=a.then c
 refine vr rfl (gv rfl rfl ?_)
 exact⟨rfl,d,a⟩
theorem u16_calls (w:World) {rb:Nat} {l:List UInt8} {e:Int} (h:Rd w rb l e) (hl:l.length<1000000000):
  gn prog 104 [.pointer (some ⟨rb,0,none⟩)] w fun v w'=>v= .int .u16 ((num (vn l e 2).1:Nat):Int)∧Rd w' rb (vn l e 2).2.1 (vn l e 2).2.2∧Ext (One rb) w w':=by
 refine gx func104 ?_
 have a:=Ext.refl (One rb) w
 refine jd rfl (ki rfl (gh call163 rfl (next16_calls w h hl 2 zd) fun f g b=> ?_))
 obtain⟨rfl,d,c⟩:=b
 have a:=a.then c
 refine vr rfl (gv rfl rfl ?_)
 exact⟨rfl,d,a⟩
theorem zw8 (w:World) {rb:Nat} {l:List UInt8} {e:Int} (h:Rd w rb l e) (hl:l.length<1000000000):
  gn prog 171 [.pointer (some ⟨rb,0,none⟩)] w fun v w'=>v= .int .u32 ((num (vn l e 4).1:Nat):Int)∧Rd w' rb (vn l e 4).2.1 (vn l e 4).2.2∧Ext (One rb) w w':=by
 refine gx func171 ?_
 have a:=Ext.refl (One rb) w
 refine jd rfl (ki rfl (gh call202 rfl (next32_calls w h hl 4 zd) fun f g b=> ?_))
 obtain⟨rfl,d,c⟩:=b
 have a:=a.then c
 refine vr rfl (gv rfl rfl ?_)
 exact⟨rfl,d,a⟩
theorem rawN_calls (w:World) {rb:Nat} {l:List UInt8} {e:Int} (h:Rd w rb l e) (hl:l.length<1000000000) (n:Int):
  gn prog 103 [.pointer (some ⟨rb,0,none⟩),.int .i64 n] w fun v w'=>∃q c,v= .slice q (vn l e n).1.length c∧(Own w' q (vn l e n).1.length c 5 1 (ge (vn l e n).1)∧∀y,jb q y→w.heap.size≤y)∧Rd w' rb (vn l e n).2.1 (vn l e n).2.2∧Ext (One rb) w w':=by
 refine gx func103 ?_
 have d:=Ext.refl (One rb) w
 refine jd rfl (ki rfl (gh call162 rfl (xx4 w h hl n) fun N D j=> ?_))
 obtain⟨q,c,rfl,x,E,z,k⟩:=j
 have d:=d.then k
 obtain⟨m,F,o⟩:=offR_len l e n
 obtain⟨s,G⟩:∃s,s=(vn l e n).1:=⟨_,rfl⟩
 rw[←G] at x m o⊢
 refine km rfl (gl (jd rfl (jl rfl (fun H=> ?_) (fun H=> ?_))))
 ·have I:s=[]:=aZ zo
  subst I
  refine jd rfl (j9 (j7 (gv rfl rfl ?_)))
  exact⟨none,0,rfl,⟨Own.nil _ _ _,fun _ h=>by cases h⟩,z,d⟩
 refine kc ?_
 refine jp (ki rfl ?_)
 have p:=x
 have a:=d
 refine wl (zz4 gc rfl 0 s.length 1 rfl rfl rfl zd rfl rfl (aJ _) zo zr fun f O A g b J=> ?_)
 refine j0 gc rfl ?_
 refine wl (va gc rfl 1 1 rfl rfl rfl zd (Own.blk g 1 (by rw[um];rfl) (aJ _) zm) (Src.slice (p.ga b) OneC.h) zm zn fun K L M i r t=> ?_)
 have B:Ext No D M:=b.trans r fun y C u=>by have e:f=y:=congrArg Addr.block (cG u);omega
 have d:=a.then (B.no (S:=One rb))
 have P:=i.sl
 refine vr rfl (gv rfl rfl ?_)
 exact⟨K,L,by simp,⟨by simpa using i,fun y C=>(t y C).elim (fun u=>by have e:f=y:=congrArg Addr.block (cG u);have:=a.size;omega) fun h=>by have:=a.size;have:=b.size;omega⟩,z.ga B,d⟩
theorem raw_calls (w:World) {rb:Nat} {l:List UInt8} {e:Int} (h:Rd w rb l e) (hl:l.length<1000000000) (n:Int):
  gn prog 103 [.pointer (some ⟨rb,0,none⟩),.int .i64 n] w fun v w'=>∃q c,v= .slice q (vn l e n).1.length c∧ux w' q (vn l e n).1∧Rd w' rb (vn l e n).2.1 (vn l e n).2.2∧Ext (One rb) w w':=
 (rawN_calls w h hl n).mono fun v w' ⟨q,c,h1,h2,h3,h4⟩=>⟨q,c,h1,h2.1.sl,h3,h4⟩
theorem err_calls (w:World) {rb:Nat} {l:List UInt8} {e:Int} (h:Rd w rb l e):
  gn prog 111 [.pointer (some ⟨rb,0,none⟩)] w fun v w'=>v= .int .i64 e∧w'=w:=by
 obtain⟨p,c,a,b,d,f⟩:=h
 refine gx func111 ?_
 have g:=Ext.refl No w
 refine jd rfl (gl (jd rfl (Cl rfl (ki rfl (gu rfl (a.cell rfl) (vr rfl ?_))))))
 refine j7 (gv rfl rfl ?_)
 exact⟨rfl,rfl⟩
theorem A1 (n:Nat) (hn:n<100):∀(w:World) (x:Nat),x<2^64→
  gn prog 96 [.int .u64 (x:Int),.int .i64 (n:Int)] w fun v w'=>∃q c,v= .slice q n c∧Own w' q n c 5 1 (ge (be n x))∧(∀b,jb q b→w.heap.size≤b)∧Ext No w w':=by
 induction n using Nat.strongRecOn
 rename_i n t
 intro w x I
 refine gx func96 ?_
 have d:=Ext.refl No w
 refine jd rfl (gl (jd rfl (jl rfl (fun u=> ?_) (fun u=> ?_))))
 ·have z:n=0:=by omega
  subst z
  refine jd rfl (j9 (j7 (gv rfl rfl ?_)))
  exact⟨none,0,rfl,Own.nil _ _ _,fun b j=>by(cases j),d⟩
 obtain⟨m,rfl⟩:∃m,n=m+1:=⟨n-1,by omega⟩
 refine x3 (ki rfl ?_)
 rw[jz _ zo]
 have A:IntKind.u64.wrap ((x:Int).tdiv 256)=((x/256:Nat):Int):=by rw[IntWalk.u64_quo _ _ zo];rfl
 rw[A]
 rw[show(((m+1:Nat):Int)-1)=(m:Int) from by omega]
 refine gh call96 rfl (t m zo zo w (x/256) zo) fun J K k=> ?_
 obtain⟨q,c,rfl,B,f,g⟩:=k
 have d:=d.gb g
 refine j0 gc rfl (wl (qi gc rfl 1 rfl rfl rfl zd zd zt rfl fun i C r a e D=> ?_))
 have d:=d.gb e
 have a:gz C i 5 (ge [UInt8.ofNat x]):=by
  have E:IntKind.u8.wrap ((x:Int).tmod 256)=((UInt8.ofNat x).toNat:Int):=by
   rw[Int.tmod_eq_emod_of_nonneg zo,IntKind.wrap_u8,UInt8.toNat_ofNat'];omega
  have s:=a
  rw[E] at s
  exact s
 refine wl (va gc rfl 1 1 rfl rfl rfl zd (B.ext e fun _ _=>id) (Src.slice (m:=1) ⟨rfl,.inr ⟨i,0,rfl,a.kj⟩⟩ OneC.h) zm zn fun F G L l o p=> ?_)
 have d:=d.trans o fun y M H=>by have:=f y H;omega
 refine vr rfl (gv rfl rfl ?_)
 exact⟨F,G,rfl,by rw[be,kz];exact l,fun b j=>(p b j).elim (fun h=>f b h) fun h=>by have:=g.size;have:=e.size;omega,d⟩
theorem C7 (w:World) {p:Option Addr} {c:Nat} {l:List UInt8} (h:ux w p l) (hl:l.length≤8):
  gn prog 113 [.slice p l.length c] w fun v w'=>v= .int .u64 (num l:Int)∧w'=w:=by
 refine gx func113 ?_
 have d:=Ext.refl No w
 refine jd rfl (jd rfl (gl (jd rfl (j8 ?_))))
 refine jj (α:=Nat×Nat×Nat) [0] rfl (fun z=>[(3,.int .u64 (z.2.1:Int)),(4,.int .u64 (z.2.2:Int)),(5,.int .i64 (z.1:Int))]) (fun z u=>((z.1≤l.length∧z.2.1=num (l.drop z.1)∧z.2.2=256^(l.length-z.1)%2^64)∧u=w)∧Ext No w u) (fun z u=>z.1) ((l.length,0,1)) rfl ⟨⟨⟨aD _,by simp[num],by simp⟩,rfl⟩,d⟩ ?_
 rintro⟨i,x,q⟩ F ⟨⟨⟨t,o,r⟩,rfl⟩,d⟩
 try dsimp only
 dsimp only at t o r
 subst o r
 refine gl (jd rfl (jl rfl (fun y=> ?_) (fun y=> ?_)))
 ·obtain⟨k,rfl⟩:∃k,i=k+1:=⟨i-1,by omega⟩
  have s:k<l.length:=by omega
  obtain⟨b,e,rfl,a⟩:=h.at s
  have A:=num_drop l s
  have f:=ub (l.drop k)
  rw[aX] at f
  have g:l.length-k=(l.length-(k+1))+1:=by omega
  have B:256^(l.length-k)≤256^8:=cR zd zo
  have j:256^(l.length-(k+1))≤256^7:=cR zd zo
  have C:=(l[k]).toNat_lt
  have m:256^(l.length-(k+1))%2^64=256^(l.length-(k+1)):=Nat.mod_eq_of_lt (bL j zd)
  rw[m]
  have D:IntKind.u64.wrap ((num (l.drop (k+1)):Int)+IntKind.u64.wrap (((256^(l.length-(k+1)):Nat):Int)*IntKind.u64.wrap ((l[k]).toNat:Int)))=((num (l.drop k):Nat):Int):=by
   rw[cU ((l[k]).toNat:Int) zo,←Int.natCast_mul,Nat.mul_comm,cU (((l[k]).toNat*256^(l.length-(k+1)):Nat):Int) zo,cU _ zo]
   omega
  have n:IntKind.u64.wrap (((256^(l.length-(k+1)):Nat):Int)*256)=((256^(l.length-k)%2^64:Nat):Int):=by
   rw[g,Nat.pow_succ,IntKind.wrap_u64];omega
  refine Ac (ki rfl ?_)
  rw[jz _ zo]
  refine ka rfl 1 rfl k zo zo (e+k*1) rfl (gu rfl a (j0 gc rfl ?_))
  rw[D]
  refine qq (yl rfl ?_)
  rw[n]
  refine gk (Aa rfl ?_)
  rw[jz _ zo]
  rw[show(((k+1:Nat):Int)-1)=(k:Int) from by omega]
  refine gk ?_
  exact jk (k,num (l.drop k),256^(l.length-k)%2^64) rfl ⟨⟨⟨by dsimp only;omega,rfl,rfl⟩,rfl⟩,d⟩ zf
 have E:i=0:=by omega
 subst E
 rw[List.drop_zero]
 refine Ak (jd rfl (j9 (gv rfl rfl ?_)))
 exact⟨rfl,rfl⟩
theorem ym (w:World) {p q:Option Addr} {c d:Nat} {l m:List UInt8} (h:ux w p l) (h':ux w q m) (hl:l.length<1000000000) (hm:m.length<1000000000):
  gn prog 97 [.slice p l.length c,.slice q m.length d] w fun v w'=>∃r k,v= .slice r (l++m).length k∧Own w' r (l++m).length k 5 1 (ge (l++m))∧(∀b,jb r b→w.heap.size≤b)∧Ext No w w':=by
 refine gx func97 ?_
 have a:=Ext.refl No w
 refine jd rfl (ko (wl (qi gc rfl 1 rfl rfl rfl zd zd trivial (l':=[]) rfl fun F O I s f J=> ?_)))
 have a:=a.gb f
 refine j0 gc rfl ?_
 refine wl (va gc rfl 1 1 rfl rfl rfl zd (Own.blk (n:=0) (c:=0) s 1 rfl (aD _) zd) (Src.slice (h.ga a) OneC.h) zm zn fun G K L t u z=> ?_)
 have a:=a.trans u fun y M g=>by have e:F=y:=congrArg Addr.block (cG g);omega
 have i:∀x,jb G x→w.heap.size≤x:=fun x A=>(z x A).elim (fun g=>by have e:F=x:=congrArg Addr.block (cG g);omega) fun h=>by have:=f.size;omega
 have B:Own L G (0+l.length) K 5 1 (ge l):=t
 refine km rfl (ki rfl ?_)
 have j:=a
 refine wl (va gc rfl 1 1 rfl rfl rfl zd B (Src.slice (h'.ga a) OneC.h) zm zn fun H N P o C D=> ?_)
 have a:=j.trans C fun y M g=>by have:=i y g;omega
 have E:∀x,jb H x→w.heap.size≤x:=fun x A=>(D x A).elim (fun h=>i x h) fun h=>aA j.size h
 refine vr rfl (gv rfl rfl ?_)
 exact⟨H,N,by dsimp only;rw[aB,bD],by rw[aB,kz];rw[bD] at o;exact o,E,a⟩
end Go.Proofs.YtpdiphfjmepijaaGreatDoor
namespace Go.Vc
section
variable {P:Program} {I:u0} {f:Fs} {ops:Array Oper} {o:Oper} {env:Env} {w:World}
def shE (n:Nat) (ops:Array Oper) (env:Env) (o:Oper):Option (BinOp×IntKind×Int×Int×Nat):=
  match pre n ops env o with
  |false=>none
  |true=>match o.dst with
    |some d=>match o.op with
      | .binOp op _ x y _=>match isShift op with
        |true=>match xh env x with
          |some (.int k p)=>match xh env y with
            |some (.int _ q)=>some (op,k,p,q,d)
            |_=>none
          |_=>none
        |false=>none
      |_=>none
    |none=>none
def shV (op:BinOp) (k:IntKind) (p q:Int):Value:=
  match op with
  | .shl=> .int k (k.wrap (p*2^min q.toNat k.bits))
  |_=> .int k (p.fdiv (2^min q.toNat k.bits))
theorem shE_pev {n:Nat} {op:BinOp} {k:IntKind} {p q:Int} {d:Nat} (h:shE n ops env o=some (op,k,p,q,d)) (hq:0≤q):pre n ops env o=true∧o.dst=some d∧pev I o.op env=some (shV op k p q):=by
 unfold shE at h
 split at h
 ·cases h
 rename_i c
 split at h
 ·rename_i m e
  split at h
  ·rename_i a t x y u f
   split at h
   ·rename_i b
    split at h
    ·rename_i r s g
     split at h
     ·rename_i v i j
      simp only[bG,cP] at h
      obtain⟨rfl,rfl,rfl,rfl,rfl⟩:=h
      refine⟨c,e,?_⟩
      have l:decide (i<0)=false:=bO zo
      rw[f]
      simp only[pev,g,j,bin,b,shiftBin,l]
      cases a<;>first|rfl|cases b
     cases h
    cases h
   cases h
  cases h
 cases h
theorem wd_sh (hI:I.Ok P) {K:Act→World→Prop} {r:Dr} {i:Nat} {pl:List (Nat×Bool)} {dn:List Nat} (ho:ops[i]? =some o) {op:BinOp} {k:IntKind} {p q:Int} {d:Nat} (h:shE f.n ops env o=some (op,k,p,q,d)) (hq:0≤q)
  (kk:WD P f ops K r pl (i::dn) ((d,shV op k p q)::env) w):WD P f ops K r ((i,true)::pl) dn env w:=by
 obtain⟨a,b,c⟩:=shE_pev (I:=I) h hq
 exact wd_q ho a b (fun e _=>A7 hI c e) kk
end
abbrev A2:=BitVec 32
abbrev x1 (x:A2):Value:= .int .u32 (x.toNat:Int)
def jt (l:List A2):List Value:=l.map x1
theorem uc (l:List A2):(jt l).length=l.length:=by simp[jt]
theorem xv2 (a b:List A2):jt (a++b)=jt a++jt b:=by simp[jt]
theorem Au (l:List A2) {i:Nat} (h:i<l.length):(jt l)[i]? =some (x1 l[i]):=by simp[jt,h]
instance (l:List A2):OneC (jt l):=⟨fun u hu=>by obtain⟨x,_,rfl⟩:=bN.1 hu;rfl⟩
theorem xx8 (x:A2):BitVec.ofInt 32 (x.toNat:Int)=x:=by
 apply BitVec.eq_of_toNat_eq
 have:=x.isLt
 rw[BitVec.toNat_ofInt]
 omega
theorem w_in (x:A2):IntKind.u32.wrap (x.toNat:Int)=(x.toNat:Int):=by
 have:=x.isLt
 rw[IntKind.wrap_u32];omega
theorem w_wrap (n:Nat):IntKind.u32.wrap (n:Int)=((BitVec.ofNat 32 n).toNat:Int):=by
 rw[IntKind.wrap_u32,BitVec.toNat_ofNat];omega
theorem Bb (x y:A2):IntKind.u32.wrap ((x.toNat:Int)+(y.toNat:Int))=((x+y).toNat:Int):=by
 rw[IntKind.wrap_u32,BitVec.toNat_add];omega
theorem w_not (x:A2):IntKind.u32.wrap (4294967295-(x.toNat:Int))=((~~~x).toNat:Int):=by
 have:=x.isLt
 rw[IntKind.wrap_u32,BitVec.toNat_not];omega
theorem zw7 (x y:A2):bitI .xor .u32 (x.toNat:Int) (y.toNat:Int)=((x^^^y).toNat:Int):=by
 show IntKind.u32.wrap ((BitVec.ofInt 32 (x.toNat:Int)^^^BitVec.ofInt 32 (y.toNat:Int)).toNat:Int)=_
 rw[xx8,xx8,w_in]
theorem w_and (x y:A2):bitI .and .u32 (x.toNat:Int) (y.toNat:Int)=((x&&&y).toNat:Int):=by
 show IntKind.u32.wrap ((BitVec.ofInt 32 (x.toNat:Int)&&&BitVec.ofInt 32 (y.toNat:Int)).toNat:Int)=_
 rw[xx8,xx8,w_in]
theorem w_or (x y:A2):bitI .or .u32 (x.toNat:Int) (y.toNat:Int)=((x|||y).toNat:Int):=by
 show IntKind.u32.wrap ((BitVec.ofInt 32 (x.toNat:Int)|||BitVec.ofInt 32 (y.toNat:Int)).toNat:Int)=_
 rw[xx8,xx8,w_in]
theorem w_shr (x:A2) (q:Int):Int.fdiv (x.toNat:Int) (2^min q.toNat IntKind.u32.bits)=((x>>>q.toNat).toNat:Int):=by
 have a:=x.isLt
 rw[show(2:Int)^min q.toNat IntKind.u32.bits=((2^min q.toNat 32:Nat):Int) from by rw[Int.natCast_pow];rfl,Int.fdiv_eq_ediv_of_nonneg _ (dN _),←Int.natCast_ediv,BitVec.toNat_ushiftRight,Nat.shiftRight_eq_div_pow]
 rcases Nat.le_total q.toNat 32 with h|h
 ·rw[bP h]
 rw[Nat.min_eq_right h,Nat.div_eq_of_lt a,Nat.div_eq_of_lt (aM a (cR zd h))]
theorem w_shl (x:A2) (q:Int):IntKind.u32.wrap ((x.toNat:Int)*2^min q.toNat IntKind.u32.bits)=((x<<<q.toNat).toNat:Int):=by
 rw[show(2:Int)^min q.toNat IntKind.u32.bits=((2^min q.toNat 32:Nat):Int) from by rw[Int.natCast_pow];rfl,←Int.natCast_mul,w_wrap]
 congr 1
 rw[BitVec.toNat_ofNat,BitVec.toNat_shiftLeft,Nat.shiftLeft_eq]
 rcases Nat.le_total q.toNat 32 with h|h
 ·rw[bP h]
 rw[Nat.min_eq_right h,Nat.mul_mod_left]
 obtain⟨k,a⟩:=Nat.exists_eq_add_of_le h
 rw[a,Nat.pow_add,←Nat.mul_assoc,Nat.mul_right_comm,Nat.mul_mod_left]
def rot (x:A2) (n:Nat):A2:=x>>>n|||x<<<(32-n)
def Ck (x:A2) (ns:List Nat):A2:=ns.foldl (fun o n=>o^^^rot x n) 0
theorem mixW_snoc (x:A2) (l:List Nat) (n:Nat):Ck x (l++[n])=Ck x l^^^rot x n:=by simp[Ck]
theorem rot_eq (x:A2) (n:Nat) (h:0<n∧n<32):(rot x n).toNat=x.toNat/2^n+(x.toNat%2^n)*2^(32-n):=by
 have c:=x.isLt
 obtain⟨k,d⟩:∃k,32=k+n:=⟨32-n,by omega⟩
 have a:32-n=k:=by omega
 have e:2^32=2^k*2^n:=by rw[←Nat.pow_add,←d]
 rw[rot,a,BitVec.toNat_or,BitVec.toNat_ushiftRight,BitVec.toNat_shiftLeft,Nat.shiftRight_eq_div_pow,Nat.shiftLeft_eq,e,Nat.mul_comm x.toNat,Nat.mul_mod_mul_left]
 have b:x.toNat/2^n<2^k:=Nat.div_lt_of_lt_mul (by rw[Nat.mul_comm,←e];exact c)
 have f:=Nat.two_pow_add_eq_or_of_lt b (x.toNat%2^n)
 rw[Nat.or_comm,←f,Nat.add_comm,Nat.mul_comm]
theorem Co (x:A2) (n:Nat) (h:0<n∧n<32):IntKind.u32.wrap (IntKind.u32.wrap ((x.toNat:Int).tdiv ((2^n:Nat):Int))+IntKind.u32.wrap ((x.toNat:Int).tmod ((2^n:Nat):Int)*((2^(32-n):Nat):Int)))=((rot x n).toNat:Int):=by
 have e:=rot_eq x n h
 have c:=(rot x n).isLt
 have a:(x.toNat:Int).tdiv ((2^n:Nat):Int)=((x.toNat/2^n:Nat):Int):=rfl
 have b:(x.toNat:Int).tmod ((2^n:Nat):Int)=((x.toNat%2^n:Nat):Int):=rfl
 rw[a,b,←Int.natCast_mul]
 rw[IntKind.wrap_u32,IntKind.wrap_u32,IntKind.wrap_u32]
 omega
theorem div_eq (x:A2) (n:Nat):IntKind.u32.wrap ((x.toNat:Int).tdiv ((2^n:Nat):Int))=((x>>>n).toNat:Int):=by
 have a:(x.toNat:Int).tdiv ((2^n:Nat):Int)=((x.toNat/2^n:Nat):Int):=rfl
 have c:=x.isLt
 have b:x.toNat/2^n≤x.toNat:=Nat.div_le_self _ _
 rw[a,BitVec.toNat_ushiftRight,Nat.shiftRight_eq_div_pow,IntKind.wrap_u32]
 generalize x.toNat/2^n=q at b⊢
 omega
def natsV (l:List Nat):List Value:=l.map fun n:Nat=> .int .i64 (n:Int)
theorem Sl.natAt {w:World} {p:Option Addr} {l:List Nat} (h:Sl w p l.length 1 (natsV l)) {i:Nat} (hi:i<l.length):∃b off,p=some ⟨b,off,none⟩∧w.cell? ⟨b,off+i*1,none⟩=some (.int .i64 (l[i]:Int)):=by
 obtain⟨_,d|⟨b,off,a,c⟩⟩:=h
 ·omega
 exact⟨b,off,a,by rw[bE];exact c i _ (by simp[natsV,hi])⟩
theorem mixW_take (x:A2) (l:List Nat) {i:Nat} (h:i<l.length):Ck x (l.take (i+1))=Ck x (l.take i)^^^rot x l[i]:=by
 rw[aQ h,mixW_snoc]
def nextW (b:List UInt8) (l:List A2):A2:=
  if l.length<16 then BitVec.ofNat 32 (num ((b.drop (4*l.length)).take 4))
  else l.getD (l.length-16) 0+l.getD (l.length-7) 0+(Ck (l.getD (l.length-2) 0) [17,19]^^^l.getD (l.length-2) 0>>>10)+(Ck (l.getD (l.length-15) 0) [7,18]^^^l.getD (l.length-15) 0>>>3)
def sched (b:List UInt8):Nat→List A2
  |0=>[]
  |t+1=>sched b t++[nextW b (sched b t)]
theorem qx (b:List UInt8) (t:Nat):(sched b t).length=t:=by
 induction t with
 |zero=>rfl
 |succ t ih=>simp[sched,ih]
theorem words_at (l r:List A2) {i:Nat} (h:i<l.length):(jt (l++r))[0+i*1]? =some (x1 (l.getD i 0)):=by
 rw[bD,bE,Au _ (by rw[aB];omega),List.getElem_append_left h,cK,aN h]
 rfl
theorem Bs (l:List A2) {i:Nat} (h:i<l.length):(jt l)[i]? =some (x1 (l.getD i 0)):=by
 rw[Au _ h,cK,aN h]
 rfl
theorem xz7 (l:List A2) (k i:Nat) (x:A2) (hi:i=l.length):(jt (l++List.replicate (k+1) 0)).set (0+i*1) (x1 x)=jt (l++[x]++List.replicate k 0):=by
 subst hi
 rw[bD,bE,jt,←List.map_set,dF _ _ (aD _),Nat.sub_self,List.replicate_succ,aV]
 rfl
theorem nextW_raw {b:List UInt8} {l:List A2} (h:l.length<16):nextW b l=BitVec.ofNat 32 (num ((b.drop (4*l.length)).take 4)):=aR h
theorem nextW_mix {b:List UInt8} {l:List A2} (h:¬l.length<16):nextW b l=l.getD (l.length-16) 0+l.getD (l.length-7) 0+(Ck (l.getD (l.length-2) 0) [17,19]^^^l.getD (l.length-2) 0>>>10)+(Ck (l.getD (l.length-15) 0) [7,18]^^^l.getD (l.length-15) 0>>>3):=aP h
def turnW (l:List A2) (k w:A2):List A2:=
  match l with
  | [a,b,c,d,e,f,g,h]=>
    let x:=h+Ck e [6,11,25]+(g^^^(e&&&(f^^^g)))+k+w
    let y:=Ck a [2,13,22]+((a&&&b)|||(c&&&(a|||b)))
    [x+y,a,b,c,d+x,e,f,g]
  |l=>l
def Ab (h ks ws:List A2):Nat→List A2
  |0=>h
  |t+1=>turnW (Ab h ks ws t) (ks.getD t 0) (ws.getD t 0)
theorem turnW_len (l:List A2) (k w:A2):(turnW l k w).length=l.length:=by
 unfold turnW
 split<;>rfl
theorem zx1 (h ks ws:List A2) (t:Nat):(Ab h ks ws t).length=h.length:=by
 induction t with
 |zero=>rfl
 |succ t ih=>rw[Ab,turnW_len,ih]
theorem eight {α:Type} {l:List α} (h:l.length=8):∃a b c d e f g i,l=[a,b,c,d,e,f,g,i]:=by
 match l,h with
 | [a,b,c,d,e,f,g,i],_=>exact⟨a,b,c,d,e,f,g,i,rfl⟩
theorem zip_set {f:A2→A2→A2} {h l:List A2} {i:Nat} (h1:i<h.length) (h2:i<l.length):(jt (List.zipWith f (h.take i) (l.take i)++h.drop i)).set (0+i*1) (x1 (f h[i] l[i]))=jt (List.zipWith f (h.take (i+1)) (l.take (i+1))++h.drop (i+1)):=by
 have a:(List.zipWith f (h.take i) (l.take i)).length=i:=by simp;omega
 rw[bD,bE,jt,←List.map_set,dF _ _ zo,a,Nat.sub_self,bY h1,List.set_cons_zero,aQ h1,aQ h2,List.zipWith_append zc]
 simp[jt]
theorem zip_at {f:A2→A2→A2} {h l:List A2} {i:Nat} (h1:i<h.length) (h2:i<l.length):(jt (List.zipWith f (h.take i) (l.take i)++h.drop i))[0+i*1]? =some (x1 h[i]):=by
 have a:(List.zipWith f (h.take i) (l.take i)).length=i:=by simp;omega
 rw[bD,bE,jt,cE,cJ zo,a,Nat.sub_self,bY h1]
 rfl
def intoW (ks h:List A2) (b:List UInt8):List A2:=List.zipWith (·+·) h (Ab h ks (sched b 64) 64)
theorem intoW_len (ks h:List A2) (b:List UInt8):(intoW ks h b).length=h.length:=by
 rw[intoW,List.length_zipWith,zx1,Nat.min_self]
def Am (ks h:List A2) (p:List UInt8):Nat→List A2
  |0=>h
  |n+1=>intoW ks (Am ks h p n) ((p.drop (64*n)).take 64)
theorem Cs (ks h:List A2) (p:List UInt8) (n:Nat):(Am ks h p n).length=h.length:=by
 induction n with
 |zero=>rfl
 |succ n ih=>rw[Am,intoW_len,ih]
def Cy (l:List UInt8):List UInt8:=l++[128]++List.replicate ((l.length+72)/64*64-8-(l.length+1)) 0++be 8 (8*l.length)
def qv:List A2:=[1116352408,1899447441,3049323471,3921009573,961987163,1508970993,2453635748,2870763221,
  3624381080,310598401,607225278,1426881987,1925078388,2162078206,2614888103,3248222580,
  3835390401,4022224774,264347078,604807628,770255983,1249150122,1555081692,1996064986,
  2554220882,2821834349,2952996808,3210313671,3336571891,3584528711,113926993,338241895,
  666307205,773529912,1294757372,1396182291,1695183700,1986661051,2177026350,2456956037,
  2730485921,2820302411,3259730800,3345764771,3516065817,3600352804,4094571909,275423344,
  430227734,506948616,659060556,883997877,958139571,1322822218,1537002063,1747873779,
  1955562222,2024104815,2227730452,2361852424,2428436474,2756734187,3204031479,3329325298]
def A0:List A2:=[1779033703,3144134277,1013904242,2773480762,1359893119,2600822924,528734635,1541459225]
def sumW (l:List UInt8):List UInt8:=(Am qv A0 (Cy l) ((Cy l).length/64)).flatMap fun x=>be 4 x.toNat
theorem yw9 (l:List UInt8):(Cy l).length=(l.length+72)/64*64:=by
 simp only[Cy,aB,bS,jy,aW,List.length_nil]
 omega
theorem xx5 (l:List A2):(l.flatMap fun x=>be 4 x.toNat).length=4*l.length:=by
 induction l with
 |nil=>rfl
 |cons x r ih=>rw[dI,aB,ih,jy,aW];omega
theorem C3 (l:List UInt8):(sumW l).length=32:=by
 rw[sumW,xx5,Cs];rfl
end Go.Vc
namespace Go.Proofs.YtpdiphfjmepijaaGreatDoor
open Go.Proofs.Tryz
open Go.Vc
theorem z8 (w:World) (x:A2) {p:Option Addr} {c:Nat} {ns:List Nat} (h:Sl w p ns.length 1 (natsV ns)) (hns:∀n∈ns,n≤32) (hlen:ns.length<1000):
  gn prog 221 [x1 x,.slice p ns.length c] w fun v w'=>v=x1 (Ck x ns)∧Ext No w w':=by
 refine gx func221 ?_
 have a:=Ext.refl No w
 refine jd rfl (jd rfl (gl (jd rfl (j8 ?_))))
 refine jj (α:=Nat) [0,9,10] rfl (fun z=>[(5,x1 (Ck x (ns.take z))),(11,.int .i64 (z:Int))]) (fun z u=>(z≤ns.length)∧Ext No w u) (fun z u=>ns.length-z) (0) rfl ⟨aJ _,a⟩ ?_
 rintro i o ⟨f,a⟩
 try dsimp only
 refine jd rfl (gl (jl rfl (fun k=> ?_) (fun k=> ?_)))
 ·have f:i<ns.length:=by omega
  obtain⟨b,g,rfl,d⟩:=(h.ga a).natAt f
  have l:=hns _ (aG f)
  refine Ac (ko (ka rfl 1 rfl i rfl zo (g+i*1) rfl (gu rfl d (km rfl ?_))))
  refine jr rfl 11 [qP 0,qP 1,qP 2,qP 3,qP 4,qP 5,qP 6,qP 7,qP 8,qP 9,qP 10] [] (No) zk fun q j m=> ?_
  have a:=a.gb j
  refine gt gc 3 rfl (wd_sh gc rfl rfl (dN _) ?_)
  dsimp only[shV]
  refine gt gc 3 rfl ?_
  rw[jz _ zo]
  refine wd_sh gc rfl rfl zo ?_
  dsimp only[shV]
  refine gt gc 3 rfl ?_
  rw[show(32-((ns[i]:Nat):Int))=((32-ns[i]:Nat):Int) from by omega,w_shr,w_shl,w_or,zw7,cC,cC,show(x>>>ns[i]|||x<<<(32-ns[i]))=rot x ns[i] from rfl,←mixW_take x ns f]
  refine jg (j5 (Aa rfl ?_))
  rw[jz _ zo]
  refine gk ?_
  exact jk (i+1) rfl ⟨f,a⟩ zf
 have e:ns.take i=ns:=aO zo
 rw[e]
 refine Ak (jd rfl (j9 (gv rfl rfl ?_)))
 exact⟨rfl,a⟩
end Go.Proofs.YtpdiphfjmepijaaGreatDoor
namespace Go.Vc
structure Bds where
  lo:Option Int
  hi:Option Int
  mx:Option Int
def Bds.Is (s:Bds) (n c l hh m:Nat):Prop:=
  (s.mx=some (m:Int)∧s.hi.isSome=true∨s.mx=none∧m=c)∧(s.hi=some (hh:Int)∨s.hi=none∧hh=n)∧(s.lo=some (l:Int)∨s.lo=none∧l=0)∧l≤hh∧hh≤m∧m≤c
section
variable {P:Program} {I:u0} {f:Fs} {ops:Array Oper} {o:Oper} {env:Env} {w:World}
def evB (env:Env) (lo hi mx:Option Operand):Option Bds:=
  match evI env lo with
  |some lo'=>match evI env hi with
    |some hi'=>match evI env mx with
      |some mx'=>some ⟨lo',hi',mx'⟩
      |none=>none
    |none=>none
  |none=>none
theorem run_bds {lo hi mx:Option Operand} {s:Bds} (h:evB env lo hi mx=some s) {ρ:Operand→Value} (hρ:∀x u,xh env x=some u→ρ x=u) {n c l hh m:Nat} (hs:s.Is n c l hh m) (b:Bool):
  (Instr.sliceBounds b n c (lo.map ρ) (hi.map ρ) (mx.map ρ)).run P w= .ok (l,hh,m) w:=by
 obtain⟨h1,h2,h3,hl,hm,hc⟩:=hs
 unfold evB at h
 split at h
 ·rename_i lo' hlo
  split at h
  ·rename_i hi' hhi
   split at h
   ·rename_i mx' hmx
    cases h
    simp only at h1 h2 h3
    have q3:(lo.map ρ=none∧l=0)∨∃k,lo.map ρ=some (.int k (l:Int)):=by
     rcases evI_eq hlo hρ with⟨hr,hv⟩|⟨nn,kk,hr,hv⟩<;>rcases h3 with h3|⟨h3,h3'⟩<;>rw[h3] at hr<;>cases hr
     ·exact .inl ⟨hv,h3'⟩
     exact .inr ⟨kk,hv⟩
    have q2:(hi.map ρ=none∧hi'=none∧hh=n)∨∃k,hi.map ρ=some (.int k (hh:Int)):=by
     rcases evI_eq hhi hρ with⟨hr,hv⟩|⟨nn,kk,hr,hv⟩<;>rcases h2 with h2|⟨h2,h2'⟩<;>rw[h2] at hr<;>cases hr
     ·exact .inl ⟨hv,h2,h2'⟩
     exact .inr ⟨kk,hv⟩
    have q1:(mx.map ρ=none∧m=c)∨(hi'.isSome=true∧∃k,mx.map ρ=some (.int k (m:Int))):=by
     rcases evI_eq hmx hρ with⟨hr,hv⟩|⟨nn,kk,hr,hv⟩<;>rcases h1 with⟨h1,h1'⟩|⟨h1,h1'⟩<;>rw[h1] at hr<;>cases hr
     ·exact .inl ⟨hv,h1'⟩
     exact .inr ⟨h1',kk,hv⟩
    unfold Instr.sliceBounds
    rcases q1 with⟨q1,rfl⟩|⟨q1',k1,q1⟩<;>rcases q2 with⟨q2,q2',rfl⟩|⟨k2,q2⟩<;>rcases q3 with⟨q3,rfl⟩|⟨k3,q3⟩<;>rw[q1,q2,q3]<;>
     first
      |(rw[q2'] at q1';cases q1';done)
      |(cases b<;>simp only[aK,aT,aF,cO,Dj _ _ _ _ hl,Dj _ _ _ _ hm,Dj _ _ _ _ hc];done)
   cases h
  cases h
 cases h
def saE (I:u0) (n:Nat) (ops:Array Oper) (env:Env) (o:Oper):Option (Nat×Nat×Nat×Nat×Bds×Nat):=
  match pre n ops env o with
  |false=>none
  |true=>match o.dst with
    |some d=>match o.op with
      | .slice t x lo hi mx=>match yn I t with
        |some y=>match y.desc with
          | .array m e=>match yn I e with
            |some g=>match xh env x with
              |some (.pointer (some ⟨b,off,none⟩))=>match evB env lo hi mx with
                |some s=>some (b,off,m,g.size,s,d)
                |none=>none
              |_=>none
            |none=>none
          |_=>none
        |none=>none
      |_=>none
    |none=>none
theorem ov_sa (hI:I.Ok P) {nn b off len sz0 d:Nat} {s:Bds} (h:saE I nn ops env o=some (b,off,len,sz0,s,d)) (l hh m sz:Nat) (hsz:sz0=sz) (hs:s.Is len len l hh m):
  pre nn ops env o=true∧o.dst=some d∧Ov P o env w (.slice (u6 (some ⟨b,off,none⟩) l m sz) (hh-l) (m-l)) w:=by
 subst hsz
 unfold saE at h
 split at h
 ·cases h
 rename_i k
 split at h
 ·rename_i E n
  split at h
  ·rename_i t x p q r u
   split at h
   ·rename_i y v
    split at h
    ·rename_i F e z
     split at h
     ·rename_i g A
      split at h
      ·rename_i f a B
       split at h
       ·rename_i G c
        simp only[bG,cP] at h
        obtain⟨rfl,rfl,rfl,rfl,rfl,rfl⟩:=h
        refine⟨k,n,fun H i=> ?_⟩
        have j:=(hI.get v).under w
        have C:=(hI.get A).sizeOf w
        rw[z] at j
        have D:(Instr.sliceAt t (.pointer (some ⟨f,a,none⟩)) (p.map H) (q.map H) (r.map H)).run P w= .ok (.slice (u6 (some ⟨f,a,none⟩) l m g.size) (hh-l) (m-l)) w:=by
         unfold Instr.sliceAt
         rw[jc j]
         simp only[Instr.sureAddr,aK,aT,aF,run_bds c i hs false,C,u6]
         split<;>rfl
        simp only[execOp,u,i _ _ B,aK,D,aF,aT]
       cases h
      cases h
     cases h
    cases h
   cases h
  cases h
 cases h
theorem st_sa (hI:I.Ok P) {K:Env→World→Prop} {b off len sz0 d:Nat} {s:Bds} (h:saE I f.n ops env o=some (b,off,len,sz0,s,d)) (l hh m sz:Nat) (hsz:sz0=sz) (hs:s.Is len len l hh m)
  (k:K ((d,.slice (u6 (some ⟨b,off,none⟩) l m sz) (hh-l) (m-l))::env) w):St P f ops o env w K:=by
 obtain⟨a,c,e⟩:=ov_sa (w:=w) hI h l hh m sz hsz hs
 obtain⟨g,i⟩:=pre_eq a
 exact yg g i e (by rw[c];exact k)
theorem xv0 (hI:I.Ok P) {K:Act→World→Prop} {r:Dr} {i:Nat} {pl:List (Nat×Bool)} {dn:List Nat} (ho:ops[i]? =some o) {b off len sz0 d:Nat} {s:Bds} (h:saE I f.n ops env o=some (b,off,len,sz0,s,d)) (l hh m sz:Nat) (hsz:sz0=sz) (hs:s.Is len len l hh m)
  (k:WD P f ops K r pl (i::dn) ((d,.slice (u6 (some ⟨b,off,none⟩) l m sz) (hh-l) (m-l))::env) w):WD P f ops K r ((i,true)::pl) dn env w:=by
 obtain⟨a,c,_⟩:=ov_sa (w:=w) hI h l hh m sz hsz hs
 exact wd_q ho a c (fun e _=>(ov_sa (w:=e) hI h l hh m sz hsz hs).2.2) k
def ssE (I:u0) (n:Nat) (ops:Array Oper) (env:Env) (o:Oper):Option (ByteArray×Bds×Nat):=
  match pre n ops env o with
  |false=>none
  |true=>match o.dst with
    |some d=>match o.op with
      | .slice t x lo hi none=>match yn I t with
        |some y=>match y.desc with
          | .string=>match xh env x with
            |some (.string s)=>match evB env lo hi none with
              |some bs=>some (s,bs,d)
              |none=>none
            |_=>none
          |_=>none
        |none=>none
      |_=>none
    |none=>none
theorem ov_ss (hI:I.Ok P) {nn d:Nat} {s:ByteArray} {bs:Bds} (h:ssE I nn ops env o=some (s,bs,d)) (l hh:Nat) (hs:bs.Is s.size s.size l hh s.size):
  pre nn ops env o=true∧o.dst=some d∧Ov P o env w (.string (s.extract l hh)) w:=by
 unfold ssE at h
 split at h
 ·cases h
 rename_i j
 split at h
 ·rename_i v k
  split at h
  ·rename_i t x e f m
   split at h
   ·rename_i y n
    split at h
    ·rename_i p
     split at h
     ·rename_i a q
      split at h
      ·rename_i r b
       simp only[bG,cP] at h
       obtain⟨rfl,rfl,rfl⟩:=h
       refine⟨j,k,fun z g=> ?_⟩
       have c:=(hI.get n).under w
       rw[p] at c
       have i:=run_bds (P:=P) (w:=w) b g hs false
       simp only[Option.map_none] at i
       have u:(Instr.sliceAt t (.string a) (e.map z) (f.map z) none).run P w= .ok (.string (a.extract l hh)) w:=by
        unfold Instr.sliceAt
        rw[jc c]
        show(Instr.slice t (.string a) (e.map z) (f.map z) none).run P w=_
        unfold Instr.slice
        rw[jc c]
        simp only[Option.isSome_none,bI,cX,aK,aT,aF,i]
       simp only[execOp,m,g _ _ q,Option.map_none,aK,u,aF,aT]
      cases h
     cases h
    cases h
   cases h
  cases h
 cases h
theorem st_ss (hI:I.Ok P) {K:Env→World→Prop} {d:Nat} {s:ByteArray} {bs:Bds} (h:ssE I f.n ops env o=some (s,bs,d)) (l hh:Nat) (hs:bs.Is s.size s.size l hh s.size)
  (k:K ((d,.string (s.extract l hh))::env) w):St P f ops o env w K:=by
 obtain⟨a,b,c⟩:=ov_ss (w:=w) hI h l hh hs
 obtain⟨e,g⟩:=pre_eq a
 exact yg e g c (by rw[b];exact k)
def spE (I:u0) (n:Nat) (ops:Array Oper) (env:Env) (o:Oper):Option (Option Addr×Nat×Nat×Nat):=
  match pre n ops env o with
  |false=>none
  |true=>match o.dst with
    |some d=>match o.op with
      | .sliceToArrayPointer t x=>match yn I t with
        |some y=>match y.desc with
          | .array m _=>match xh env x with
            |some (.slice p len _)=>some (p,len,m,d)
            |_=>none
          |_=>none
        |none=>none
      |_=>none
    |none=>none
theorem ov_sp (hI:I.Ok P) {nn len m d:Nat} {p:Option Addr} (h:spE I nn ops env o=some (p,len,m,d)) (hm:m≤len):
  pre nn ops env o=true∧o.dst=some d∧Ov P o env w (.pointer p) w:=by
 unfold spE at h
 split at h
 ·cases h
 rename_i f
 split at h
 ·rename_i s g
  split at h
  ·rename_i t x i
   split at h
   ·rename_i y j
    split at h
    ·rename_i u e k
     split at h
     ·rename_i b a l n
      simp only[bG,cP] at h
      obtain⟨rfl,rfl,rfl,rfl⟩:=h
      refine⟨f,g,fun v q=> ?_⟩
      have c:=(hI.get j).under w
      rw[k] at c
      have r:(Instr.arrayAt t (.slice b a l)).run P w= .ok (.pointer b) w:=by
       unfold Instr.arrayAt
       rw[jc c]
       simp only[aP (Nat.not_lt.2 hm),aT]
      simp only[execOp,i,q _ _ n,aK,r,aF,aT]
     cases h
    cases h
   cases h
  cases h
 cases h
theorem st_sp (hI:I.Ok P) {K:Env→World→Prop} {len m d:Nat} {p:Option Addr} (h:spE I f.n ops env o=some (p,len,m,d)) (hm:m≤len)
  (k:K ((d,.pointer p)::env) w):St P f ops o env w K:=by
 obtain⟨a,b,c⟩:=ov_sp (w:=w) hI h hm
 obtain⟨e,g⟩:=pre_eq a
 exact yg e g c (by rw[b];exact k)
def mfE (n:Nat) (ops:Array Oper) (env:Env) (o:Oper):Option (FuncId×List Value×List Value×Nat):=
  match pre n ops env o with
  |false=>none
  |true=>match o.dst with
    |some d=>match o.op with
      | .makeFunc (.func g) fs cs=>match evs env fs.toList with
        |some l=>match evs env cs.toList with
          |some m=>some (g,l,m,d)
          |none=>none
        |none=>none
      |_=>none
    |none=>none
theorem ov_mf {nn d:Nat} {g:FuncId} {l m:List Value} (h:mfE nn ops env o=some (g,l,m,d)):
  pre nn ops env o=true∧o.dst=some d∧Ov P o env w (.func (.func g) l.toArray m.toArray) w:=by
 unfold mfE at h
 split at h
 ·cases h
 rename_i b
 split at h
 ·rename_i j c
  split at h
  ·rename_i k n p e
   split at h
   ·rename_i q f
    split at h
    ·rename_i r i
     simp only[bG,cP] at h
     obtain⟨rfl,rfl,rfl,rfl⟩:=h
     refine⟨b,c,fun s a=> ?_⟩
     simp only[execOp,e,Instr.makeFunc,evs_arr a f,evs_arr a i,aK,aF,aT]
    cases h
   cases h
  cases h
 cases h
theorem st_mf {K:Env→World→Prop} {d:Nat} {g:FuncId} {l m:List Value} (h:mfE f.n ops env o=some (g,l,m,d))
  (k:K ((d,.func (.func g) l.toArray m.toArray)::env) w):St P f ops o env w K:=by
 obtain⟨a,b,c⟩:=ov_mf (P:=P) (w:=w) h
 obtain⟨e,i⟩:=pre_eq a
 exact yg e i c (by rw[b];exact k)
end
end Go.Vc
namespace Go.Proofs.YtpdiphfjmepijaaGreatDoor
open Go.Proofs.Tryz
open Go.Vc
theorem offR_ok {l:List UInt8} {n:Nat} (h:n≤l.length):vn l 0 (n:Int)=(l.take n,l.drop n,0):=by
 unfold vn
 rw[aP zp,aP zo,aP zo]
 simp
theorem drawn_calls (w:World) {b:List UInt8} (hb:b.length=64):
  gn prog 220 [.agg (ge b).toArray] w fun v w'=>v= .agg (jt (sched b 64)).toArray∧Ext No w w':=by
 refine gx func220 ?_
 have d:=Ext.refl No w
 refine ko (gw rfl fun b1 w1 b5 a6 ae=> ?_)
 have d:=d.gb ae
 refine gw rfl fun T w2 af a a9=> ?_
 have M:=aA d.size af
 have a6:=a6.ga a9
 have d:=d.gb a9
 have a:gz w2 T 313 (jt (sched b 0++List.replicate (64-0) 0)):=a
 refine qq (ko (wl (st_sa gc rfl 0 64 64 1 rfl ⟨.inr ⟨rfl,rfl⟩,.inr ⟨rfl,rfl⟩,.inr ⟨rfl,rfl⟩,by decide,by decide,by decide⟩ ?_)))
 rw[jw,bB]
 rw[show Value.slice (some ⟨b1,0,none⟩) 64 64= .slice (some ⟨b1,0,none⟩) b.length b.length from by rw[hb]]
 have ag:=d
 refine gh call101 rfl (zx5 w2 (p:=some ⟨b1,0,none⟩) (c:=b.length) (l:=b) ⟨by simp[gm],.inr ⟨b1,0,rfl,a6.kj⟩⟩ zo) fun v3 w3 ah=> ?_
 obtain⟨rb,rfl,ai,f,aa⟩:=ah
 have a:=a.ga aa
 have d:=d.gb aa
 have aj:=aA ag.size ai
 refine km rfl (gl (jd rfl (j8 ?_)))
 refine jj (α:=Nat) [2,3] rfl (fun z=>[(9,.int .i64 (z:Int))]) (fun z u=>(z≤64∧Rd u rb (b.drop (4*min z 16)) 0)∧gz u T 313 (jt (sched b z++List.replicate (64-z) 0))∧Ext No w u) (fun z u=>64-z) (0) rfl ⟨⟨by decide,by simpa using f⟩,a,d⟩ ?_
 rintro t w4 ⟨⟨ht,f⟩,a,d⟩
 refine jd rfl (gl (jl rfl (fun hc=> ?_) (fun hc=> ?_)))
 ·have ht:t<64:=by omega
  refine x3 (ji (α:=Unit) [2,3,9] rfl (fun z=>[]) (fun z u=>(Rd u rb (b.drop (4*min (t+1) 16)) 0)∧gz u T 313 (jt (sched b (t+1)++List.replicate (64-(t+1)) 0))∧Ext No w u) ?_ ?_)
  ·refine j8 ?_
   refine jd rfl (gl (jd rfl (jl rfl (fun hc=> ?_) (fun hc=> ?_))))
   ·have N:t<16:=by omega
    have e4:min t 16=t:=by omega
    have e5:min (t+1) 16=t+1:=by omega
    rw[e4] at f
    refine ki rfl ?_
    have y:=f.ne a zd
    refine gh call171 rfl (zw8 w4 f za) fun v5 w5 ak=> ?_
    obtain⟨rfl,f,ab⟩:=ak
    have a:=a.ext ab (fun e=>y e.symm)
    have d:=d.gi ab aj
    have e6:=offR_ok (l:=b.drop (4*t)) (n:=4) za
    have e6:vn (b.drop (4*t)) 0 4=_:=e6
    rw[e6] at f
    rw[e6]
    have e7:List.drop 4 (b.drop (4*t))=b.drop (4*min (t+1) 16):=by rw[List.drop_drop,e5,Nat.mul_add]
    rw[e7] at f
    have e8:(num ((b.drop (4*t)).take 4):Int)=((nextW b (sched b t)).toNat:Int):=by
     rw[nextW_raw (by rw[qx];exact N),qx,BitVec.toNat_ofNat]
     have:=ub ((b.drop (4*t)).take 4)
     rw[aL,aX] at this
     have h4:min 4 (b.length-4*t)=4:=by omega
     rw[h4] at this
     omega
    dsimp only
    rw[e8]
    refine ka rfl 1 rfl t rfl zo (0+t*1) rfl ?_
    have g:=a
    refine wl (qz gc a rfl rfl (by rw[uc,aB,qx,bS];omega) fun w6 a ac b6=> ?_)
    have d:=d.gi ac M
    have a:gz w6 T 313 (jt (sched b (t+1)++List.replicate (64-(t+1)) 0)):=by
     have e:64-t=(64-(t+1))+1:=by omega
     have O:=a
     rw[e,xz7 _ _ _ _ (qx b t).symm] at O
     exact O
    have y:=f.ne g zd
    have f:=f.ext ac (fun e=>y e) (fun b' L h e=>h.ne g zd e)
    refine qq (y8 ?_)
    exact ql (ve (gr (()) rfl ⟨f,a,d⟩))
   have N:¬t<16:=by omega
   have e4:min t 16=min (t+1) 16:=by omega
   rw[e4] at f
   have W:=nextW_mix (b:=b) (l:=sched b t) (by rw[qx];exact N)
   rw[qx] at W
   have a7:IntKind.u32.wrap (IntKind.u32.wrap (IntKind.u32.wrap ((((sched b t).getD (t-16) 0).toNat:Int)+(((sched b t).getD (t-7) 0).toNat:Int))+bitI .xor .u32 ((Ck ((sched b t).getD (t-2) 0) [17,19]).toNat:Int) (Int.fdiv (((sched b t).getD (t-2) 0).toNat:Int) (2^min (10:Int).toNat IntKind.u32.bits)))+bitI .xor .u32 ((Ck ((sched b t).getD (t-15) 0) [7,18]).toNat:Int) (Int.fdiv (((sched b t).getD (t-15) 0).toNat:Int) (2^min (3:Int).toNat IntKind.u32.bits)))=((nextW b (sched b t)).toNat:Int):=by
    rw[W,Bb,w_shr,zw7,Bb,w_shr,zw7,Bb]
    rfl
   refine x3 (gl (jr rfl 10 [qP 0,qP 1,qP 2,qP 3,qP 4,qP 5,qP 6,qP 7,qP 8,qP 9] [] (No) zk fun w7 a8 b7=> ?_))
   have P:=a
   have a:=a.ga a8
   have f:=f.ga a8
   have d:=d.gb a8
   refine gt gc 2 rfl ?_
   rw[jz _ zo]
   refine qk gc rfl rfl 1 rfl (t-2) zo zo (0+(t-2)*1) rfl ?_
   refine j3 gc rfl rfl (fun w' H=>(P.ga H).cell (i:=0+(t-2)*1) (v:=x1 ((sched b t).getD (t-2) 0)) (words_at _ _ (by rw[qx];omega))) ?_
   refine gt gc 2 rfl ?_
   rw[jz _ zo]
   refine qk gc rfl rfl 1 rfl (t-15) zo zo (0+(t-15)*1) rfl ?_
   refine j3 gc rfl rfl (fun w' H=>(P.ga H).cell (i:=0+(t-15)*1) (v:=x1 ((sched b t).getD (t-15) 0)) (words_at _ _ (by rw[qx];omega))) ?_
   refine gt gc 2 rfl (jg (j5 (jp (zz7 rfl 25 25 [25] (No) zk fun w8 U b8=> ?_))))
   have P:=a
   have a:=a.ga U
   have f:=f.ga U
   have d:=d.gb U
   have k:Ext No _ w8:=U
   refine qm [qP 0,qP 1,qP 2,qP 3,qP 4,qP 5,qP 6,qP 7,qP 8,qP 9,qP 10,qP 13,qP 14,qP 17,qP 20,qP 21] 9 rfl zk (gt gc 3 rfl ?_)
   rw[jz _ zo]
   refine qk gc rfl rfl 1 rfl (t-16) zo zo (0+(t-16)*1) rfl ?_
   refine j3 gc rfl rfl (fun w' H=>(P.ga H).cell (i:=0+(t-16)*1) (v:=x1 ((sched b t).getD (t-16) 0)) (words_at _ _ (by rw[qx];omega))) ?_
   refine gt gc 2 rfl ?_
   rw[jz _ zo]
   refine qk gc rfl rfl 1 rfl (t-7) zo zo (0+(t-7)*1) rfl ?_
   refine j3 gc rfl rfl (fun w' H=>(P.ga H).cell (i:=0+(t-7)*1) (v:=x1 ((sched b t).getD (t-7) 0)) (words_at _ _ (by rw[qx];omega))) ?_
   refine gt gc 7 rfl (yd rfl (As [11,18] rfl zk ⟨⟨_,rfl,?_⟩,⟨_,rfl,?_⟩,trivial⟩))
   ·refine qi gc rfl 1 rfl rfl rfl zd zd zt rfl fun I w9 Q q R b9=>⟨k.gb R,?_⟩
    have V:=aA k.size Q
    have a:=a.ga R
    have f:=f.ga R
    have d:=d.gb R
    have k:=k.gb R
    refine qm [] 8 rfl zk (yd rfl (As [12,18] rfl zk ⟨⟨_,rfl,?_⟩,⟨_,rfl,?_⟩,trivial⟩))
    ·refine j1 call221 rfl (z8 w9 _ (p:=some ⟨I,0,none⟩) (c:=2) (ns:=[17,19]) ⟨rfl,.inr ⟨I,0,rfl,q.kj⟩⟩ zd zd) fun ba bb X=>⟨(by obtain⟨rfl,r⟩:=X;exact k.gb r),?_⟩
     obtain⟨rfl,r⟩:=X
     have a:=a.ga r
     have f:=f.ga r
     have d:=d.gb r
     have k:=k.gb r
     refine qm [qP 15,qP 16,(18,false),(19,false),qP 22,qP 23,qP 24] 0 rfl zk (gt gc 2 rfl ?_)
     refine jo rfl (qi gc rfl 1 rfl rfl rfl zd zd zt rfl fun A al B j C av=>⟨k.gb C,?_⟩)
     have J:=aA k.size B
     have a:=a.ga C
     have f:=f.ga C
     have d:=d.gb C
     have k:=k.gb C
     refine jo rfl (j1 call221 rfl (z8 al _ (p:=some ⟨A,0,none⟩) (c:=2) (ns:=[7,18]) ⟨rfl,.inr ⟨A,0,rfl,j.kj⟩⟩ zd zd) fun bc bd Y=>⟨(by obtain⟨rfl,D⟩:=Y;exact k.gb D),?_⟩)
     obtain⟨rfl,D⟩:=Y
     have a:=a.ga D
     have f:=f.ga D
     have d:=d.gb D
     refine gt gc 2 rfl ?_
     rw[a7]
     refine qk gc rfl rfl 1 rfl t rfl zo (0+t*1) rfl (jg ?_)
     have g:=a
     refine wb rfl (qz gc a rfl rfl (by rw[uc,aB,qx,bS];omega) fun am a Z aw=> ?_)
     have d:=d.gi Z M
     have a:gz am T 313 (jt (sched b (t+1)++List.replicate (64-(t+1)) 0)):=by
      have e:64-t=(64-(t+1))+1:=by omega
      have O:=a
      rw[e,xz7 _ _ _ _ (qx b t).symm] at O
      exact O
     have y:=f.ne g zd
     have f:=f.ext Z (fun e=>y e) (fun b' L h e=>h.ne g zd e)
     refine j5 ?_
     exact js (gr (()) rfl ⟨f,a,d⟩)
    refine qi gc rfl 1 rfl rfl rfl zd zd zt rfl fun A an B j s ax=>⟨k.gb s,?_⟩
    have J:=aA k.size B
    have a:=a.ga s
    have q:=q.ga s
    have f:=f.ga s
    have d:=d.gb s
    have k:=k.gb s
    refine qm [(12,false),qP 15,qP 16,(19,false),qP 22,qP 23,qP 24] 0 rfl zk ?_
    refine jo rfl (j1 call221 rfl (z8 an _ (p:=some ⟨I,0,none⟩) (c:=2) (ns:=[17,19]) ⟨rfl,.inr ⟨I,0,rfl,q.kj⟩⟩ zd zd) fun bf ao a0=>⟨(by obtain⟨rfl,m⟩:=a0;exact k.gb m),?_⟩)
    obtain⟨rfl,m⟩:=a0
    have a:=a.ga m
    have j:=j.ga m
    have f:=f.ga m
    have d:=d.gb m
    have k:=k.gb m
    refine gt gc 2 rfl ?_
    refine jo rfl (j1 call221 rfl (z8 ao _ (p:=some ⟨A,0,none⟩) (c:=2) (ns:=[7,18]) ⟨rfl,.inr ⟨A,0,rfl,j.kj⟩⟩ zd zd) fun bg bh a1=>⟨(by obtain⟨rfl,E⟩:=a1;exact k.gb E),?_⟩)
    obtain⟨rfl,E⟩:=a1
    have a:=a.ga E
    have f:=f.ga E
    have d:=d.gb E
    refine gt gc 2 rfl ?_
    rw[a7]
    refine qk gc rfl rfl 1 rfl t rfl zo (0+t*1) rfl (jg ?_)
    have g:=a
    refine wb rfl (qz gc a rfl rfl (by rw[uc,aB,qx,bS];omega) fun ap a a2 ay=> ?_)
    have d:=d.gi a2 M
    have a:gz ap T 313 (jt (sched b (t+1)++List.replicate (64-(t+1)) 0)):=by
     have e:64-t=(64-(t+1))+1:=by omega
     have O:=a
     rw[e,xz7 _ _ _ _ (qx b t).symm] at O
     exact O
    have y:=f.ne g zd
    have f:=f.ext a2 (fun e=>y e) (fun b' L h e=>h.ne g zd e)
    refine j5 ?_
    exact js (gr (()) rfl ⟨f,a,d⟩)
   refine qi gc rfl 1 rfl rfl rfl zd zd zt rfl fun A bi B j F az=>⟨k.gb F,?_⟩
   have J:=aA k.size B
   have a:=a.ga F
   have f:=f.ga F
   have d:=d.gb F
   have k:=k.gb F
   refine qm [(11,false),(12,false),qP 15,qP 16,(19,false),qP 22,qP 23,qP 24] 0 rfl zk ?_
   refine jo rfl (qi gc rfl 1 rfl rfl rfl zd zd zt rfl fun I aq Q q x b0=>⟨k.gb x,?_⟩)
   have V:=aA k.size Q
   have a:=a.ga x
   have j:=j.ga x
   have f:=f.ga x
   have d:=d.gb x
   have k:=k.gb x
   refine jo rfl (j1 call221 rfl (z8 aq _ (p:=some ⟨I,0,none⟩) (c:=2) (ns:=[17,19]) ⟨rfl,.inr ⟨I,0,rfl,q.kj⟩⟩ zd zd) fun bj ar a3=>⟨(by obtain⟨rfl,o⟩:=a3;exact k.gb o),?_⟩)
   obtain⟨rfl,o⟩:=a3
   have a:=a.ga o
   have j:=j.ga o
   have f:=f.ga o
   have d:=d.gb o
   have k:=k.gb o
   refine gt gc 2 rfl ?_
   refine jo rfl (j1 call221 rfl (z8 ar _ (p:=some ⟨A,0,none⟩) (c:=2) (ns:=[7,18]) ⟨rfl,.inr ⟨A,0,rfl,j.kj⟩⟩ zd zd) fun bk bm a4=>⟨(by obtain⟨rfl,G⟩:=a4;exact k.gb G),?_⟩)
   obtain⟨rfl,G⟩:=a4
   have a:=a.ga G
   have f:=f.ga G
   have d:=d.gb G
   refine gt gc 2 rfl ?_
   rw[a7]
   refine qk gc rfl rfl 1 rfl t rfl zo (0+t*1) rfl (jg ?_)
   have g:=a
   refine wb rfl (qz gc a rfl rfl (by rw[uc,aB,qx,bS];omega) fun au a a5 b3=> ?_)
   have d:=d.gi a5 M
   have a:gz au T 313 (jt (sched b (t+1)++List.replicate (64-(t+1)) 0)):=by
    have e:64-t=(64-(t+1))+1:=by omega
    have O:=a
    rw[e,xz7 _ _ _ _ (qx b t).symm] at O
    exact O
   have y:=f.ne g zd
   have f:=f.ext a5 (fun e=>y e) (fun b' L h e=>h.ne g zd e)
   refine j5 ?_
   exact js (gr (()) rfl ⟨f,a,d⟩)
  rintro z bn ⟨f,a,d⟩
  refine yl rfl ?_
  rw[jz _ zo]
  refine gk ?_
  exact jk (t+1) rfl ⟨⟨by omega,f⟩,a,d⟩ zf
 have h0:t=64:=by omega
 subst h0
 have a:gz w4 T 313 (jt (sched b 64)):=by simpa using a
 have K:(jt (sched b 64)).length=64:=by rw[uc,qx]
 generalize sched b 64=S at a K⊢
 refine Ak (ko (je a rfl K (wl (j4 (l':=jt S) gc a rfl rfl K rfl OneC.h fun bo a ad b4=> ?_))))
 have d:=d.gi ad M
 refine qq (j9 (qe [_] ⟨⟨T,0,rfl,qg gc rfl rfl a.kj K⟩,trivial⟩ ?_))
 exact⟨rfl,d⟩
theorem into_calls (w:World) {sb:Nat} {h:List A2} (hs:gz w sb 304 (jt h)) (hl:h.length=8) {b:List UInt8} (hb:b.length=64) (hg:Seg w 0 0 (jt qv)):
  gn prog 208 [.pointer (some ⟨sb,0,none⟩),.agg (ge b).toArray] w fun _ w'=>gz w' sb 304 (jt (intoW qv h b))∧Ext (One sb) w w':=by
 have hs0:=hs
 have hlt:=hs.lt
 have hglt:0<w.heap.size:=Nat.zero_lt_of_lt hlt
 refine gx func208 ?_
 have hX:=Ext.refl (One sb) w
 refine ko (gw rfl fun b3 w1 hn3 hb3 hE1=> ?_)
 have hX:=hX.gb hE1
 have hb3:gz w1 b3 164 (ge b):=hb3
 refine qq (ki rfl ?_)
 have hs:=hs.ga hE1
 have hg:=hg.ga hE1
 refine jm rfl hs.kj (by rw[uc,hl]) (gw rfl fun b4 w2 hn4 hb4 hE2=> ?_)
 have ne3_4:=j2 hb3.lt hn4
 have fr4:=aA hX.size hn4
 have hb3:=hb3.ga hE2
 have hs:=hs.ga hE2
 have hg:=hg.ga hE2
 have hX:=hX.gb hE2
 have hsb4:¬One b4 sb:=fun e=>by have e:sb=b4:=e;omega
 have h0b4:¬One b4 0:=fun e=>by have e:0=b4:=e;omega
 refine wl (j4 (l':=jt h) gc hb4 rfl rfl (by rw[uc,hl]) (by rw[uc,hl];rfl) OneC.h fun w3 hb4 hE3 hs3=> ?_)
 have hb3:=hb3.gj hE3 ne3_4
 have hs:=hs.ext hE3 hsb4
 have hg:=hg.ext hE3 h0b4
 have hX:=hX.gi hE3 fr4
 refine qq (gl (ko (jm rfl hb3.kj (by rw[gm,hb]) (gh call220 rfl (drawn_calls w3 hb) fun v4 w4 hr4=> ?_))))
 obtain⟨rfl,hE4⟩:=hr4
 have hb4:=hb4.ga hE4
 have hs:=hs.ga hE4
 have hg:=hg.ga hE4
 have hX:=hX.gb hE4
 have hWl:=qx b 64
 have hi:intoW qv h b=List.zipWith (·+·) h (Ab h qv (sched b 64) 64):=rfl
 rw[hi]
 generalize sched b 64=W at hWl⊢
 refine km rfl (j8 ?_)
 refine jj (α:=Nat) [0,4,19] rfl (fun z=>[(20,.int .i64 (z:Int))]) (fun z u=>(z≤64∧gz u sb 304 (jt h)∧Seg u 0 0 (jt qv))∧gz u b4 276 (jt (Ab h qv W z))∧Ext (One sb) w u) (fun z u=>64-z) (0) rfl ⟨⟨by decide,hs,hg⟩,hb4,hX⟩ ?_
 rintro t w5 ⟨⟨ht,hs,hg⟩,hb4,hX⟩
 refine jd rfl (gl (jl rfl (fun hc=> ?_) (fun hc=> ?_)))
 ·have ht:t<64:=by omega
  obtain⟨a0,a1,a2,a3,a4,a5,a6,a7,h8⟩:=eight (l:=Ab h qv W t) (by rw[zx1,hl])
  rw[h8] at hb4
  have hW:=Au W (i:=t) zo
  have hk:=Au qv (i:=t) ht
  refine Ac (ki rfl (wl (st_id gc rfl t rfl ht (.inl ⟨rfl,by simpa using hW⟩) (km rfl (gl ?_)))))
  refine jr rfl 6 [qP 0,qP 1,qP 2,qP 3,qP 4,qP 5] [] (No) zk fun w6 hE6 hs6=> ?_
  have hd4:=hb4
  have hb4:=hb4.ga hE6
  have hs:=hs.ga hE6
  have hg:=hg.ga hE6
  have hX:=hX.gb hE6
  refine qk gc rfl rfl 1 rfl 0 rfl zd 0 rfl (j3 gc rfl rfl (fun w' hw'=>(hd4.ga hw').cell rfl) ?_)
  refine qk gc rfl rfl 1 rfl 4 rfl zd 4 rfl (j3 gc rfl rfl (fun w' hw'=>(hd4.ga hw').cell rfl) ?_)
  refine gt gc 2 rfl (jg (j5 (jp (gl ?_))))
  refine jr rfl 24 [qP 0,qP 1,qP 2,qP 6,qP 7,qP 8,qP 9,qP 10,qP 11,qP 12,qP 13,qP 14,qP 15,qP 17,qP 18,qP 19,qP 21,(3,false),(4,false),qP 5,qP 16,qP 20,qP 22,qP 23] [] (No) zk fun w7 hE7 hs7=> ?_
  have hd4:=hb4
  have hgd:=hg
  have hb4:=hb4.ga hE7
  have hs:=hs.ga hE7
  have hg:=hg.ga hE7
  have hX:=hX.gb hE7
  have hC:Ext (No) _ w7:=hE7.no
  refine qk gc rfl rfl 1 rfl 7 rfl zd 7 rfl (j3 gc rfl rfl (fun w' hw'=>(hd4.ga hw').cell rfl) ?_)
  refine gt gc 1 rfl (qk gc rfl rfl 1 rfl 6 rfl zd 6 rfl (j3 gc rfl rfl (fun w' hw'=>(hd4.ga hw').cell rfl) ?_))
  refine gt gc 1 rfl (qk gc rfl rfl 1 rfl 5 rfl zd 5 rfl (j3 gc rfl rfl (fun w' hw'=>(hd4.ga hw').cell rfl) ?_))
  refine qk gc rfl rfl 1 rfl 6 rfl zd 6 rfl (j3 gc rfl rfl (fun w' hw'=>(hd4.ga hw').cell rfl) ?_)
  refine gt gc 4 rfl (qk gc rfl rfl 1 rfl t rfl ht (0+t) zo (j3 gc rfl rfl (fun w' hw'=>(hgd.ga hw') t _ hk) ?_))
  refine gt gc 1 rfl (jo rfl (qi gc rfl 1 rfl rfl rfl zd zd zt rfl fun b31 w8 hn31 hb31 hE8 hs8=>⟨hC.gb hE8,?_⟩))
  have hb4:=hb4.ga hE8
  have hs:=hs.ga hE8
  have hg:=hg.ga hE8
  have hX:=hX.gb hE8
  have hC:=hC.gb hE8
  refine jo rfl (j1 call221 rfl (z8 w8 _ (p:=some ⟨b31,0,none⟩) (c:=3) (ns:=[6,11,25]) ⟨rfl,.inr ⟨b31,0,rfl,hb31.kj⟩⟩ zd zd) fun v9 w9 hr9=>⟨(by obtain⟨rfl,hE9⟩:=hr9;exact hC.gb hE9),?_⟩)
  obtain⟨rfl,hE9⟩:=hr9
  have hb4:=hb4.ga hE9
  have hs:=hs.ga hE9
  have hg:=hg.ga hE9
  have hX:=hX.gb hE9
  refine gt gc 4 rfl ?_
  rw[zw7,w_and,zw7,Bb,Bb,Bb,Bb]
  refine gt gc 1 rfl (jg (j5 (jp (gl ?_))))
  refine jr rfl 17 [qP 0,qP 3,qP 4,qP 5,qP 6,qP 7,qP 8,qP 9,qP 10,qP 11,qP 12,qP 13,qP 14,(1,false),(2,false),qP 15,qP 16] [] (No) zk fun w10 hE10 hs10=> ?_
  have hd4:=hb4
  have hb4:=hb4.ga hE10
  have hs:=hs.ga hE10
  have hg:=hg.ga hE10
  have hX:=hX.gb hE10
  have hC:Ext (No) _ w10:=hE10.no
  refine gt gc 2 rfl (qk gc rfl rfl 1 rfl 1 rfl zd 1 rfl (j3 gc rfl rfl (fun w' hw'=>(hd4.ga hw').cell rfl) ?_))
  refine gt gc 1 rfl (qk gc rfl rfl 1 rfl 2 rfl zd 2 rfl (j3 gc rfl rfl (fun w' hw'=>(hd4.ga hw').cell rfl) ?_))
  refine gt gc 1 rfl (qk gc rfl rfl 1 rfl 1 rfl zd 1 rfl (j3 gc rfl rfl (fun w' hw'=>(hd4.ga hw').cell rfl) ?_))
  refine gt gc 3 rfl (jo rfl (qi gc rfl 1 rfl rfl rfl zd zd zt rfl fun b52 w11 hn52 hb52 hE11 hs11=>⟨hC.gb hE11,?_⟩))
  have hb4:=hb4.ga hE11
  have hs:=hs.ga hE11
  have hg:=hg.ga hE11
  have hX:=hX.gb hE11
  have hC:=hC.gb hE11
  refine jo rfl (j1 call221 rfl (z8 w11 _ (p:=some ⟨b52,0,none⟩) (c:=3) (ns:=[2,13,22]) ⟨rfl,.inr ⟨b52,0,rfl,hb52.kj⟩⟩ zd zd) fun v12 w12 hr12=>⟨(by obtain⟨rfl,hE12⟩:=hr12;exact hC.gb hE12),?_⟩)
  obtain⟨rfl,hE12⟩:=hr12
  have hb4:=hb4.ga hE12
  have hs:=hs.ga hE12
  have hg:=hg.ga hE12
  have hX:=hX.gb hE12
  refine gt gc 1 rfl ?_
  rw[w_and,w_or,w_and,w_or,Bb]
  refine gt gc 1 rfl (jg (j5 (jp (gl (jr rfl 3 [qP 0,qP 1,(2,false)] [] (One b4) zk fun w13 hE13 hs13=> ?_)))))
  have hb4:=hb4.ga hE13
  have hs:=hs.ga hE13
  have hg:=hg.ga hE13
  have hX:=hX.gb hE13
  have hC:Ext (One b4) _ w13:=hE13.no
  refine xv0 gc rfl rfl 1 8 8 1 rfl ⟨.inr ⟨rfl,rfl⟩,.inr ⟨rfl,rfl⟩,.inl rfl,by decide,by decide,by decide⟩ (xv0 gc rfl rfl 0 7 8 1 rfl ⟨.inr ⟨rfl,rfl⟩,.inl rfl,.inr ⟨rfl,rfl⟩,by decide,by decide,by decide⟩ ?_)
  refine jo rfl (zj1 gc rfl 1 rfl hb4 (Src.slice (m:=7) (news:=jt [a0,a1,a2,a3,a4,a5,a6]) ⟨rfl,.inr ⟨b4,0,rfl,(hb4.kj.take 7)⟩⟩ OneC.h) (show 7≤7 from by decide) (show 8≤8 from by decide) fun w14 hc4 hE14 hs14=>⟨hC.then hE14,?_⟩)
  have hb4:gz w14 b4 276 (jt [a0,a0,a1,a2,a3,a4,a5,a6]):=hc4
  have hs:=hs.ext hE14 hsb4
  have hg:=hg.ext hE14 h0b4
  have hX:=hX.gi hE14 fr4
  refine jg (j5 (jp (ki rfl ?_)))
  rw[Bb]
  refine ka rfl 1 rfl 0 rfl zd 0 rfl (wl (qz gc hb4 rfl rfl (show 0<8 from by decide) fun w15 hb4 hE15 hs15=> ?_))
  have hs:=hs.ext hE15 hsb4
  have hg:=hg.ext hE15 h0b4
  have hX:=hX.gi hE15 fr4
  refine qq (gy (ka rfl 1 rfl 4 rfl zd 4 rfl (j6 hb4 rfl rfl (j0 gc rfl ?_))))
  rw[Bb]
  refine ka rfl 1 rfl 4 rfl zd 4 rfl (wl (qz gc hb4 rfl rfl (show 4<8 from by decide) fun w16 hb4 hE16 hs16=> ?_))
  have hs:=hs.ext hE16 hsb4
  have hg:=hg.ext hE16 h0b4
  have hX:=hX.gi hE16 fr4
  have hb4:gz w16 b4 276 (jt (Ab h qv W (t+1))):=by
   have e1:W.getD t 0=W[t]'zo:=by rw[cK,aN zo];rfl
   have e2:qv.getD t 0=qv[t]'ht:=by rw[cK,aN ht];rfl
   rw[Ab,h8,e1,e2]
   exact hb4
  refine gk (Aa rfl ?_)
  rw[jz _ zo]
  refine gk ?_
  exact jk (t+1) rfl ⟨⟨by omega,hs,hg⟩,hb4,hX⟩ zf
 have h0:t=64:=by omega
 subst h0
 have hLl:(Ab h qv W 64).length=8:=by rw[zx1,hl]
 generalize Ab h qv W 64=L at hb4 hLl⊢
 refine Ak (ko (je hb4 rfl (by rw[uc,hLl]) (km rfl (j8 ?_))))
 refine jj (α:=Nat) [0,80] rfl (fun z=>[(81,.int .i64 (z:Int))]) (fun z u=>(z≤8∧gz u sb 304 (jt (List.zipWith (·+·) (h.take z) (L.take z)++h.drop z)))∧Ext (One sb) w u) (fun z u=>8-z) (0) rfl ⟨⟨by decide,by simpa using hs⟩,hX⟩ ?_
 rintro i w17 ⟨⟨hi8,hs⟩,hX⟩
 refine jd rfl (gl (jl rfl (fun hc=> ?_) (fun hc=> ?_)))
 ·have hi8:i<8:=by omega
  have h1:i<h.length:=by omega
  have h2:i<L.length:=by omega
  have hLw:=Au L h2
  refine Ac (ki rfl (wl (st_id gc rfl i rfl hi8 (.inl ⟨rfl,by simpa using hLw⟩) (km rfl ?_))))
  refine jr rfl 13 [qP 0,qP 1,qP 2,qP 3,qP 4,qP 5,qP 6,qP 7,qP 8,qP 9,qP 10,qP 11,qP 12] [13] (No) zk fun w18 hE18 hs18=> ?_
  have hsd:=hs
  have hs:=hs.ga hE18
  have hX:=hX.gb hE18
  refine gt gc 5 rfl (qk gc rfl rfl 1 rfl i rfl hi8 (0+i*1) rfl (j3 gc rfl rfl (fun w' hw'=>(hsd.ga hw').cell (i:=0+i*1) (v:=x1 h[i]) (zip_at h1 h2)) ?_))
  refine gt gc 2 rfl ?_
  rw[Bb]
  refine gt gc 3 rfl (qk gc rfl rfl 1 rfl i rfl hi8 (0+i*1) rfl (jg ?_))
  refine wb rfl (qz gc hs rfl rfl (by rw[uc,aB,List.length_zipWith,aL,aL,aX];omega) fun w19 hs2 hE19 hs19=> ?_)
  rw[zip_set h1 h2] at hs2
  have hs:=hs2
  have hX:=hX.then hE19
  refine j5 (Aa rfl ?_)
  rw[jz _ zo]
  refine gk ?_
  exact jk (i+1) rfl ⟨⟨by omega,hs⟩,hX⟩ zf
 have h0:i=8:=by omega
 subst h0
 have e1:h.take 8=h:=aO zo
 have e2:L.take 8=L:=aO zo
 have e3:h.drop 8=[]:=bM zo
 rw[e1,e2,e3,bK] at hs
 refine y8 (ql (ql (ve (z6 rfl ?_))))
 exact⟨hs,hX⟩
theorem start_calls (w:World):
  gn prog 207 [] w fun v w'=>v= .agg (jt A0).toArray∧Ext No w w':=by
 refine gx func207 ?_
 have b:=Ext.refl No w
 refine ko (gw rfl fun g j c a d=> ?_)
 have e:=aA b.size c
 have b:=b.gb d
 refine qq (ko (kg rfl zb (l':=jt A0) rfl (wl (j4 (l':=jt A0) gc a rfl rfl rfl rfl OneC.h fun k a f i=> ?_))))
 have b:=b.gi f e
 refine qq (j9 (qe [_] ⟨⟨g,0,rfl,qg gc rfl rfl a.kj rfl⟩,trivial⟩ ?_))
 exact⟨rfl,b⟩
theorem pad_calls (w:World) {p:Option Addr} {c:Nat} {l:List UInt8} (h:ux w p l) (hl:l.length<100000000):
  gn prog 209 [.slice p l.length c] w fun v w'=>∃b,v= .slice (some ⟨b,0,none⟩) (Cy l).length (Cy l).length∧w.heap.size≤b∧gz w' b 5 (ge (Cy l))∧Ext No w w':=by
 obtain⟨F,K⟩:∃F,F=(l.length+72)/64*64-8:=⟨_,rfl⟩
 have B:l.length+1≤F:=by omega
 obtain⟨k,C⟩:∃k,F=l.length+(k+1):=⟨F-(l.length+1),by omega⟩
 have D:IntKind.i64.wrap (IntKind.i64.wrap ((IntKind.i64.wrap ((l.length:Int)+72)).tdiv 64)*64)=((F+8:Nat):Int):=by
  rw[jz ((l.length:Int)+72) zo,IntWalk.i64_quo _ _ zo,jz _ zo]
  omega
 refine gx func209 ?_
 have f:=Ext.refl No w
 refine jd rfl (ki rfl ?_)
 rw[D]
 refine qq (ki rfl ?_)
 rw[show IntKind.i64.wrap (((F+8:Nat):Int)-8)=(F:Int) from by rw[jz _ zo];omega]
 refine wl (zz4 gc rfl F F 1 rfl rfl rfl zd rfl rfl (aD _) zo zr fun d E j a n G=> ?_)
 have g:=aA f.size j
 have f:=f.gb n
 have a:gz E d 5 (ge (List.replicate F 0)):=by(have e:Cn F (cellsOf ti5.zero)=ge (List.replicate F 0):=zw6 _);rw[←e];exact a
 refine km rfl (ki rfl (wl (zj1 gc rfl 1 rfl a (Src.slice (h.ga f) OneC.h) zn (by rw[gm,bS];dsimp only;omega) fun H o q I=> ?_)))
 have a:gz H d 5 (ge (l++(List.replicate (k+1) 0++[]))):=by
  have e:Vc.put (ge (List.replicate F 0)) 0 (ge l)=ge (l++(List.replicate (k+1) 0++[])):=by
   rw[put_eq _ _ _ (by simp[gm];omega)]
   rw[uk]
   subst C
   simp[kz,gm]
  rw[←e];exact o
 have f:=f.gi q g
 refine qq (ki rfl (ka rfl 1 rfl l.length rfl zo (0+l.length*1) rfl (wl (qz gc a rfl rfl (by rw[gm];simp) fun z a r J=> ?_))))
 have f:=f.gi r g
 have m:l++(128::(List.replicate k 0++[]))++be 8 (8*l.length)=Cy l:=by
  have s:k=(l.length+72)/64*64-8-(l.length+1):=by omega
  rw[Cy,s]
  simp
 have a:gz z d 5 (ge (l++(128::(List.replicate k 0++[])))):=by
  rw[bD,bE,show(Value.int .u8 128)=zu 128 from rfl,ge,←List.map_set,dF _ _ (aD _),Nat.sub_self,List.replicate_succ] at a
  exact a
 have i:(l++(128::(List.replicate k 0++[]))).length=F:=by simp;omega
 refine qq (ki rfl ?_)
 rw[show IntKind.u64.wrap (IntKind.u64.wrap (l.length:Int)*2^min (3:Int).toNat IntKind.u64.bits)=((8*l.length:Nat):Int) from by rw[show(2:Int)^min (3:Int).toNat IntKind.u64.bits=8 from rfl,cU (l.length:Int) zo,cU _ zo];omega]
 rw[show Value.slice (some ⟨d,0,none⟩) F F= .slice (some ⟨d,0,none⟩) (l++(128::(List.replicate k 0++[]))).length F from by rw[i]]
 have t:=f
 refine gh call222 rfl (put64_calls z (l:=l++(128::(List.replicate k 0++[]))) ⟨by simp[gm],.inr ⟨d,0,rfl,a.kj⟩⟩ zo (8*l.length) zo) fun L M u=> ?_
 obtain⟨b,rfl,x,A,y⟩:=u
 have f:=f.gb y
 rw[m] at A⊢
 refine vr rfl (gv rfl rfl ?_)
 exact⟨b,rfl,aA t.size x,A,f⟩
theorem sum_calls (w:World) {p:Option Addr} {c:Nat} {l:List UInt8} (h:ux w p l) (hl:l.length<100000000) (hg:Seg w 0 0 (jt qv)):
  gn prog 181 [.slice p l.length c] w fun v w'=>v= .agg (ge (sumW l)).toArray∧Ext No w w':=by
 have af:0<w.heap.size:=hg.lt zd
 refine gx func181 ?_
 have f:=Ext.refl No w
 refine ko (gw rfl fun M w1 a3 a B=> ?_)
 have a4:=aA f.size a3
 have hg:=hg.ga B
 have f:=f.gb B
 refine qq (ko (gh call207 rfl (start_calls w1) fun v2 w2 a5=> ?_))
 obtain⟨rfl,C⟩:=a5
 have a:=a.ga C
 have hg:=hg.ga C
 have f:=f.gb C
 refine kg rfl zb (l':=jt A0) rfl (kg rfl zb (l':=jt A0) rfl (gw rfl fun N w3 Q d D=> ?_))
 have E:=j2 a.lt Q
 have R:=aA f.size Q
 have a:=a.ga D
 have hg:=hg.ga D
 have f:=f.gb D
 have y:¬One N 0:=fun e=>by have e:0=N:=e;have:=B.size;omega
 have F:¬One N M:=fun e=>by have e:M=N:=e;omega
 refine wl (j4 (l':=jt A0) gc d rfl rfl rfl rfl OneC.h fun w4 d s ah=> ?_)
 have a:=a.gj s E
 have hg:=hg.ext s y
 have f:=f.gi s R
 have s:=f
 refine qq (ko (wl (st_mf rfl (km rfl (gl (ki rfl ?_))))))
 have a6:=f
 refine gh call209 rfl (pad_calls w4 (h.ga f) hl) fun v5 w5 a7=> ?_
 obtain⟨bp,rfl,S,G,t⟩:=a7
 have a:=a.ga t
 have hg:=hg.ga t
 have f:=f.gb t
 have d:=d.ga t
 have S:=aA a6.size S
 have a8:(Cy l).length%64=0:=by rw[yw9];omega
 have a9:(Cy l).length<200000000:=by rw[yw9];omega
 have T:sumW l=(Am qv A0 (Cy l) ((Cy l).length/64)).flatMap fun x=>be 4 x.toNat:=rfl
 rw[T]
 generalize Cy l=P at G a8 a9⊢
 refine km rfl (j8 ?_)
 refine jj (α:=Nat×Option Addr×Nat) [2,3,4] rfl (fun z=>[(5,.slice z.2.1 (P.drop (64*z.1)).length z.2.2)]) (fun z u=>(64*z.1≤P.length∧ux u z.2.1 (P.drop (64*z.1))∧TyU u z.2.1∧(P.drop (64*z.1)).length≤z.2.2∧gz u N 304 (jt (Am qv A0 P z.1))∧Seg u 0 0 (jt qv))∧gz u M 30 (cellsOf ti30.zero)∧Ext No w u) (fun z u=>(P.drop (64*z.1)).length) (0,some ⟨bp,0,none⟩,P.length) rfl ⟨⟨aJ _,⟨by simp[gm],.inr ⟨bp,0,rfl,G.kj⟩⟩,TyU.of G _ _,aD _,d,hg⟩,a,f⟩ ?_
 rintro⟨k,q,U⟩ w6 ⟨⟨hk,V,o,I,d,hg⟩,a,f⟩
 try dsimp only
 dsimp only at hk V o I d
 refine gl (jd rfl (jl rfl (fun hc=> ?_) (fun hc=> ?_)))
 ·have aa:(P.drop (64*k)).length=P.length-64*k:=aX
  have W:64≤(P.drop (64*k)).length:=by omega
  obtain⟨A,j,rfl,g⟩:∃A j,q=some ⟨A,j,none⟩∧Seg w6 A j (ge (P.drop (64*k))):=by
   rcases V.2 with X|h1
   ·omega
   exact h1
  have g:=g.take 64
  rw[ui] at g
  have Y:((P.drop (64*k)).take 64).length=64:=by rw[aL];omega
  refine Ac (yl rfl (wl (zv gc rfl 0 64 64 1 rfl (.inl ⟨rfl,rfl⟩) (.inl rfl) (.inr ⟨rfl,rfl⟩) (aJ _) (aD _) zn ?_)))
  dsimp only
  rw[jw]
  refine wl (st_sp gc rfl (show 64≤64-0 from aD _) (jm rfl g (by rw[gm,Y]) (gh call208 rfl (into_calls w6 d (by rw[Cs];rfl) Y hg) fun v7 w7 ab=> ?_)))
  obtain⟨Z,r⟩:=ab
  have a:=a.ext r F
  have f:=f.gi r R
  have hg:=hg.ext r y
  have V:ux _ _ _:=ux.ju V o r (fun b L hb e=>hb.ne d zd e)
  have o:=o.ext r (fun b L hb e=>hb.ne d zd e)
  have d:=Z
  refine gk (Aa rfl (wl (zv gc rfl 64 (P.drop (64*k)).length U 1 rfl (.inr ⟨rfl,rfl⟩) (.inr ⟨rfl,rfl⟩) (.inl rfl) W I (aD _) ?_)))
  dsimp only
  have e2:(P.drop (64*k)).length-64=(P.drop (64*(k+1))).length:=by simp only[aX];omega
  have J:=Sl.slice V 64 (P.drop (64*k)).length U W I (aD _)
  rw[bE,bE,uk,ui,List.drop_drop,e2] at J
  rw[show 64*k+64=64*(k+1) from rfl,aO (aD _)] at J
  rw[e2]
  refine j0 gc rfl (gk ?_)
  exact jk (k+1,u6 (some ⟨A,j,none⟩) 64 U 1,U-64) rfl ⟨⟨by dsimp only;omega,J,o.sub _ _ _,by dsimp only;omega,d,hg⟩,a,f⟩ (by dsimp only;simp only[aX];omega)
 have aa:(P.drop (64*k)).length=P.length-64*k:=aX
 have X:k=P.length/64:=by omega
 subst X
 have a0:(Am qv A0 P (P.length/64)).length=8:=by rw[Cs];rfl
 generalize Am qv A0 P (P.length/64)=H at d a0⊢
 refine Ak (jd rfl (gl (ki rfl (jm rfl d.kj (by rw[uc,a0]) (km rfl ?_)))))
 refine j8 ?_
 refine jj (α:=Nat×Option Addr×Nat×List UInt8) [2,28] rfl (fun z=>[(6,.slice z.2.1 z.2.2.2.length z.2.2.1),(29,.int .i64 (z.1:Int))]) (fun z u=>(z.1≤8∧ux u z.2.1 z.2.2.2∧z.2.2.2=(H.take z.1).flatMap (fun x=>be 4 x.toNat))∧gz u M 30 (cellsOf ti30.zero)∧Ext No w u) (fun z u=>8-z.1) (0,none,0,[]) rfl ⟨⟨by decide,Sl.nil _ _ _,by simp⟩,a,f⟩ ?_
 rintro⟨i,q,U,O⟩ w8 ⟨⟨K,hO,m⟩,a,f⟩
 try dsimp only
 dsimp only at K hO m
 refine jd rfl (gl (jl rfl (fun hc=> ?_) (fun hc=> ?_)))
 ·have K:i<8:=by omega
  have ac:=Au H (i:=i) zo
  have n:O.length=4*i:=by rw[m,xx5,aL];omega
  refine Ac (ko (wl (st_id gc rfl i rfl K (.inl ⟨rfl,by simpa using ac⟩) (km rfl (yl rfl ?_)))))
  refine gh call179 rfl (z9 w8 hO zo _ (BitVec.isLt _)) fun v9 w9 ad=> ?_
  obtain⟨bo,rfl,ai,ae,a1⟩:=ad
  have a:=a.ga a1
  have f:=f.gb a1
  refine j0 gc rfl (gk (Aa rfl ?_))
  rw[jz _ zo]
  refine gk ?_
  exact jk (i+1,some ⟨bo,0,none⟩,(O++be 4 (H[i]).toNat).length,O++be 4 (H[i]).toNat) rfl ⟨⟨by dsimp only;omega,⟨by simp[gm],.inr ⟨bo,0,rfl,ae.kj⟩⟩,by dsimp only;rw[aQ zo,bC,m];simp⟩,a,f⟩ zf
 have X:i=8:=by omega
 subst X
 have n:O.length=32:=by rw[m,xx5,aL];omega
 have m:O=H.flatMap (fun x=>be 4 x.toNat):=by rw[m,aO zo]
 obtain⟨A,j,rfl,g⟩:∃A j,q=some ⟨A,j,none⟩∧Seg w8 A j (ge O):=by
  rcases hO.2 with X|h1
  ·omega
  exact h1
 refine Ak (ki rfl (wl (st_sp gc rfl (Nat.le_of_eq n.symm) (jm rfl g (by rw[gm,n]) ?_))))
 refine wl (j4 (l':=ge O) gc a rfl rfl (by rw[gm,n]) (by rw[gm,n];rfl) OneC.h fun aj a a2 ag=> ?_)
 have f:=f.gi a2 a4
 refine qq (j9 (qe [_] ⟨⟨M,0,rfl,qg gc rfl rfl a.kj (by rw[gm,n];rfl)⟩,trivial⟩ ?_))
 exact⟨by rw[m];rfl,f⟩
theorem turned2_calls (w:World) (x:A2):
  gn prog 211 [x1 x,.int .u64 2] w fun v w'=>v=x1 (rot x 2)∧w'=w:=by
 refine gx func211 ?_
 have hX:=Ext.refl No w
 refine jd rfl (jd rfl (jd rfl (j9 (gv rfl rfl ?_))))
 exact⟨congrArg (Value.int .u32) (Co x 2 zd),rfl⟩
theorem turned6_calls (w:World) (x:A2):
  gn prog 211 [x1 x,.int .u64 6] w fun v w'=>v=x1 (rot x 6)∧w'=w:=by
 refine gx func211 ?_
 have hX:=Ext.refl No w
 refine jd rfl (jd rfl (jd rfl (j9 (gv rfl rfl ?_))))
 exact⟨congrArg (Value.int .u32) (Co x 6 zd),rfl⟩
theorem turned7_calls (w:World) (x:A2):
  gn prog 211 [x1 x,.int .u64 7] w fun v w'=>v=x1 (rot x 7)∧w'=w:=by
 refine gx func211 ?_
 have hX:=Ext.refl No w
 refine jd rfl (jd rfl (jd rfl (j9 (gv rfl rfl ?_))))
 exact⟨congrArg (Value.int .u32) (Co x 7 zd),rfl⟩
theorem turned11_calls (w:World) (x:A2):
  gn prog 211 [x1 x,.int .u64 11] w fun v w'=>v=x1 (rot x 11)∧w'=w:=by
 refine gx func211 ?_
 have hX:=Ext.refl No w
 refine jd rfl (jd rfl (jd rfl (j9 (gv rfl rfl ?_))))
 exact⟨congrArg (Value.int .u32) (Co x 11 zd),rfl⟩
theorem turned13_calls (w:World) (x:A2):
  gn prog 211 [x1 x,.int .u64 13] w fun v w'=>v=x1 (rot x 13)∧w'=w:=by
 refine gx func211 ?_
 have hX:=Ext.refl No w
 refine jd rfl (jd rfl (jd rfl (j9 (gv rfl rfl ?_))))
 exact⟨congrArg (Value.int .u32) (Co x 13 zd),rfl⟩
theorem turned17_calls (w:World) (x:A2):
  gn prog 211 [x1 x,.int .u64 17] w fun v w'=>v=x1 (rot x 17)∧w'=w:=by
 refine gx func211 ?_
 have hX:=Ext.refl No w
 refine jd rfl (jd rfl (jd rfl (j9 (gv rfl rfl ?_))))
 exact⟨congrArg (Value.int .u32) (Co x 17 zd),rfl⟩
theorem turned18_calls (w:World) (x:A2):
  gn prog 211 [x1 x,.int .u64 18] w fun v w'=>v=x1 (rot x 18)∧w'=w:=by
 refine gx func211 ?_
 have hX:=Ext.refl No w
 refine jd rfl (jd rfl (jd rfl (j9 (gv rfl rfl ?_))))
 exact⟨congrArg (Value.int .u32) (Co x 18 zd),rfl⟩
theorem turned19_calls (w:World) (x:A2):
  gn prog 211 [x1 x,.int .u64 19] w fun v w'=>v=x1 (rot x 19)∧w'=w:=by
 refine gx func211 ?_
 have hX:=Ext.refl No w
 refine jd rfl (jd rfl (jd rfl (j9 (gv rfl rfl ?_))))
 exact⟨congrArg (Value.int .u32) (Co x 19 zd),rfl⟩
theorem turned22_calls (w:World) (x:A2):
  gn prog 211 [x1 x,.int .u64 22] w fun v w'=>v=x1 (rot x 22)∧w'=w:=by
 refine gx func211 ?_
 have hX:=Ext.refl No w
 refine jd rfl (jd rfl (jd rfl (j9 (gv rfl rfl ?_))))
 exact⟨congrArg (Value.int .u32) (Co x 22 zd),rfl⟩
theorem turned25_calls (w:World) (x:A2):
  gn prog 211 [x1 x,.int .u64 25] w fun v w'=>v=x1 (rot x 25)∧w'=w:=by
 refine gx func211 ?_
 have hX:=Ext.refl No w
 refine jd rfl (jd rfl (jd rfl (j9 (gv rfl rfl ?_))))
 exact⟨congrArg (Value.int .u32) (Co x 25 zd),rfl⟩
theorem known_calls (w:World):
  gn prog 183 [] w fun v w'=>∃b,v= .slice (some ⟨b,0,none⟩) 64 64∧w.heap.size≤b∧gz w' b 35 (jt qv)∧Ext No w w':=by
 refine gx func183 ?_
 have a:=Ext.refl No w
 refine jd rfl (ko (wl (qi gc rfl 1 rfl rfl rfl zd zd zt rfl fun g i c d e h=> ?_)))
 have f:=aA a.size c
 have a:=a.gb e
 refine vr rfl (gv rfl rfl ?_)
 exact⟨g,rfl,f,d,a⟩
theorem mix2 (x:A2) (a b:Nat):Ck x [a,b]=rot x a^^^rot x b:=by simp[Ck]
theorem div1024 (x:A2):IntKind.u32.wrap ((x.toNat:Int).tdiv 1024)=((x>>>10).toNat:Int):=div_eq x 10
theorem div8 (x:A2):IntKind.u32.wrap ((x.toNat:Int).tdiv 8)=((x>>>3).toNat:Int):=div_eq x 3
theorem mix3 (x:A2) (a b c:Nat):Ck x [a,b,c]=rot x a^^^rot x b^^^rot x c:=by simp[Ck]
theorem out_calls (w:World) {p:Option Addr} {c:Nat} {b:List UInt8} (h:ux w p b) (hb:b.length=64) (hc:64≤c):
  gn prog 210 [.slice p b.length c] w fun v w'=>∃q k,v= .slice q 64 k∧Own w' q 64 k 35 1 (jt (sched b 64))∧(∀x,jb q x→w.heap.size≤x)∧Ext No w w':=by
 refine gx func210 ?_
 have d:=Ext.refl No w
 refine jd rfl (jd rfl (gl (jd rfl (j8 ?_))))
 refine jj (α:=Nat×Option Addr×Nat) [0] rfl (fun z=>[(3,.slice z.2.1 z.1 z.2.2),(4,.int .i64 (z.1:Int))]) (fun z u=>(z.1≤64∧Own u z.2.1 z.1 z.2.2 35 1 (jt (sched b z.1))∧(∀x,jb z.2.1 x→w.heap.size≤x))∧Ext No w u) (fun z u=>64-z.1) (0,none,0) rfl ⟨⟨by decide,Own.nil _ _ _,fun x I=>by cases I⟩,d⟩ ?_
 rintro⟨t,q,k⟩ R ⟨⟨ht,i,f⟩,d⟩
 try dsimp only
 dsimp only at ht i f
 refine gl (jd rfl (jl rfl (fun hc=> ?_) (fun hc=> ?_)))
 ·have ht:t<64:=by omega
  refine x3 (ji (α:=Option Addr×Nat) [0,4] rfl (fun z=>[(3,.slice z.1 (t+1) z.2)]) (fun z u=>(Own u z.1 (t+1) z.2 35 1 (jt (sched b (t+1)))∧(∀x,jb z.1 x→w.heap.size≤x))∧Ext No w u) ?_ ?_)
  ·refine j8 ?_
   refine gl (jd rfl (jl rfl (fun hc=> ?_) (fun hc=> ?_)))
   ·have o:t<16:=by omega
    have g:=nextW_raw (b:=b) (l:=sched b t) (by rw[qx];exact o)
    rw[qx] at g
    have E:((b.drop (4*t)).take 4).length=4:=by rw[aL,aX];omega
    have S:ux R (u6 p (4*t) c 1) ((b.drop (4*t)).take 4):=by
     have e:=Sl.slice (h.ga d) (4*t) (4*t+4) c zo zo zo
     rw[bE,bE,uk,ui,show 4*t+4-4*t=4 from by omega] at e
     rw[ux,E]
     exact e
    refine ki rfl ?_
    rw[jz (4*(t:Int)) zo,jz _ zo]
    refine wl (zv gc rfl (4*t) (4*t+4) c 1 rfl (.inr ⟨rfl,rfl⟩) (.inl (congrArg some zo)) (.inl (congrArg some zo)) zo zo (aD _) ?_)
    dsimp only
    rw[show 4*t+4-4*t=((b.drop (4*t)).take 4).length from by rw[E];omega]
    refine gh call113 rfl (C7 R S (by rw[E];decide)) fun v2 w2 T=> ?_
    obtain⟨rfl,rfl⟩:=T
    refine j0 gc rfl ?_
    rw[w_wrap,←g]
    refine wl (qi gc rfl 1 rfl rfl rfl zd zd zt rfl fun J w3 a7 r K ab=> ?_)
    have i:=i.ext K fun _ _=>id
    have d:=d.gb K
    have r:gz w3 J 35 (jt [nextW b (sched b t)]):=r
    have s:=d
    refine wl (va gc rfl 1 4 rfl rfl rfl zd i (Src.slice (m:=1) ⟨rfl,.inr ⟨J,0,rfl,r.kj⟩⟩ OneC.h) zm zn fun U c4 w4 V W X=> ?_)
    have d:=s.trans W fun y hy Y=>by have:=f y Y;omega
    have A:∀x,jb U x→w.heap.size≤x:=fun x I=>(X x I).elim (fun h=>f x h) fun h=>aA s.size h
    have F:Own w4 U (t+1) c4 35 1 (jt (sched b (t+1))):=by
     rw[sched,xv2]
     exact V
    refine km rfl (y8 ?_)
    exact ql (ve (gr (U,c4) rfl ⟨⟨F,A⟩,d⟩))
   have o:¬t<16:=by omega
   have g:=nextW_mix (b:=b) (l:=sched b t) (by rw[qx];exact o)
   rw[qx] at g
   obtain⟨L,rfl,n⟩:∃L,q=some ⟨L,0,none⟩∧Seg R L 0 (jt (sched b t)):=by
    rcases i with⟨_,h0,_⟩|⟨L,l,h1,h2,_,_,_,h3⟩
    ·omega
    refine⟨L,h1,?_⟩
    rw[←h3]
    exact h2.kj.take _
   have Z:(Ck ((sched b t).getD (t-2) 0) [17,19]^^^(sched b t).getD (t-2) 0>>>10)+(sched b t).getD (t-7) 0+(Ck ((sched b t).getD (t-15) 0) [7,18]^^^(sched b t).getD (t-15) 0>>>3)+(sched b t).getD (t-16) 0=nextW b (sched b t):=by
    rw[g]
    ac_rfl
   refine x3 (gl (jr rfl 12 [qP 0,qP 1,qP 2,qP 3,qP 4,qP 5,qP 6,qP 7,qP 8,qP 9,qP 10,qP 11] [] (No) zk fun w5 G ac=> ?_))
   have a:=n
   have i:=i.ext G fun _ _=>id
   have n:=n.ga G
   have d:=d.gb G
   refine gt gc 3 rfl ?_
   rw[jz _ zo]
   refine qk gc rfl rfl 1 rfl (t-2) zo zo (0+(t-2)) zo (j3 gc rfl rfl (fun w' j=>(a.ga j) (t-2) _ (Bs _ (by rw[qx];omega))) ?_)
   refine gt gc 3 rfl ?_
   rw[jz _ zo]
   refine qk gc rfl rfl 1 rfl (t-15) zo zo (0+(t-15)) zo (j3 gc rfl rfl (fun w' j=>(a.ga j) (t-15) _ (Bs _ (by rw[qx];omega))) ?_)
   refine gt gc 2 rfl (jg (j5 (jp (ki rfl (gh call211 rfl (turned17_calls w5 _) fun v6 w6 a0=> ?_)))))
   obtain⟨rfl,rfl⟩:=a0
   refine j0 gc rfl (gh call211 rfl (turned19_calls w6 _) fun v7 w7 a1=> ?_)
   obtain⟨rfl,rfl⟩:=a1
   refine j0 gc rfl ?_
   rw[zw7,div1024,zw7,←mix2]
   refine qq (ki rfl (gh call211 rfl (turned7_calls w7 _) fun v8 w8 a2=> ?_))
   obtain⟨rfl,rfl⟩:=a2
   refine j0 gc rfl (gh call211 rfl (turned18_calls w8 _) fun v9 w9 a3=> ?_)
   obtain⟨rfl,rfl⟩:=a3
   refine j0 gc rfl ?_
   rw[zw7,div8,zw7,←mix2]
   refine qq ?_
   refine jr rfl 17 [qP 0,qP 1,qP 2,qP 3,qP 4,qP 5,qP 6,qP 7,qP 8,qP 9,qP 10,qP 11,qP 12,qP 13,qP 14,qP 15,(16,false)] [17,18] (No) zk fun a4 B a8=> ?_
   have a:=n
   have i:=i.ext B fun _ _=>id
   have d:=d.gb B
   have hC:Ext (No) _ a4:=B.no
   refine gt gc 5 rfl ?_
   rw[jz _ zo]
   refine qk gc rfl rfl 1 rfl (t-7) zo zo (0+(t-7)) zo (j3 gc rfl rfl (fun w' j=>(a.ga j) (t-7) _ (Bs _ (by rw[qx];omega))) ?_)
   refine gt gc 6 rfl ?_
   rw[jz _ zo]
   refine qk gc rfl rfl 1 rfl (t-16) zo zo (0+(t-16)) zo (j3 gc rfl rfl (fun w' j=>(a.ga j) (t-16) _ (Bs _ (by rw[qx];omega))) ?_)
   refine gt gc 1 rfl ?_
   rw[Bb,Bb,Bb,Z]
   refine jo rfl (qi gc rfl 1 rfl rfl rfl zd zd zt rfl fun M a5 a9 C D aa=>⟨hC.gb D,?_⟩)
   have i:=i.ext D fun _ _=>id
   have d:=d.gb D
   have C:gz a5 M 35 (jt [nextW b (sched b t)]):=C
   refine jg ?_
   have s:=d
   refine wb rfl (va gc rfl 1 4 rfl rfl rfl zd i (Src.slice (m:=1) ⟨rfl,.inr ⟨M,0,rfl,C.kj⟩⟩ OneC.h) zm zn fun H N a6 O P Q=> ?_)
   have d:=s.trans P fun y hy Y=>by have:=f y Y;omega
   have A:∀x,jb H x→w.heap.size≤x:=fun x I=>(Q x I).elim (fun h=>f x h) fun h=>aA s.size h
   have F:Own a6 H (t+1) N 35 1 (jt (sched b (t+1))):=by
    rw[sched,xv2]
    exact O
   refine wb rfl (zx9 gc rfl rfl rfl (j5 ?_))
   exact js (gr (H,N) rfl ⟨⟨F,A⟩,d⟩)
  rintro⟨q,k⟩ ad ⟨⟨i,f⟩,d⟩
  dsimp only at i f
  refine yl rfl ?_
  rw[jz _ zo]
  refine gk ?_
  exact jk (t+1,q,k) rfl ⟨⟨by dsimp only;omega,i,f⟩,d⟩ zf
 have h0:t=64:=by omega
 subst h0
 refine Ak (jd rfl (j9 (gv rfl rfl ?_)))
 exact⟨q,k,rfl,i,f,d⟩
theorem ch_eq (e f g:A2):(e&&&f||| ~~~e&&&g)=g^^^(e&&&(f^^^g)):=by
 apply BitVec.eq_of_getLsbD_eq
 intro i a
 simp only[BitVec.getLsbD_or,BitVec.getLsbD_and,BitVec.getLsbD_xor,BitVec.getLsbD_not,a,decide_true,Bool.true_and]
 cases e.getLsbD i<;>cases f.getLsbD i<;>cases g.getLsbD i<;>rfl
theorem maj_eq (a b c:A2):(a&&&b|||a&&&c|||b&&&c)=(a&&&b|||c&&&(a|||b)):=by
 apply BitVec.eq_of_getLsbD_eq
 intro i hi
 simp only[BitVec.getLsbD_or,BitVec.getLsbD_and]
 cases a.getLsbD i<;>cases b.getLsbD i<;>cases c.getLsbD i<;>rfl
theorem refInto_calls (w:World) {h:List A2} (hl:h.length=8) {p:Option Addr} {c:Nat} {b:List UInt8} (hsb:ux w p b) (hb:b.length=64) (hc:64≤c) {kb:Nat} {d:Nat} (hk:Seg w kb 0 (jt qv)):
  gn prog 184 [.agg (jt h).toArray,.slice p b.length c,.slice (some ⟨kb,0,none⟩) 64 d] w fun v w'=>v= .agg (jt (intoW qv h b)).toArray∧Ext No w w':=by
 have b2:=hk.lt zd
 refine gx func184 ?_
 have m:=Ext.refl No w
 refine ko (gw rfl fun b3 w1 ag f a8=> ?_)
 have ah:=aA m.size ag
 have hk:=hk.ga a8
 have m:=m.gb a8
 have f:gz w1 b3 276 (jt h):=f
 refine gw rfl fun b6 w2 a9 g S=> ?_
 have T:=j2 f.lt a9
 have ai:=aA m.size a9
 have f:=f.ga S
 have hk:=hk.ga S
 have m:=m.gb S
 refine qq (ki rfl ?_)
 refine gh call210 rfl (out_calls w2 (hsb.ga m) hb hc) fun v3 w3 aj=> ?_
 obtain⟨q,kq,rfl,hq,ak,H⟩:=aj
 have f:=f.ga H
 have g:=g.ga H
 have hk:=hk.ga H
 have m:=m.gb H
 obtain⟨I,rfl,j⟩:∃I,q=some ⟨I,0,none⟩∧Seg w3 I 0 (jt (sched b 64)):=by
  rcases hq with⟨_,h0,_⟩|⟨I,l,h1,h2,_,_,_,h3⟩
  ·omega
  refine⟨I,h1,?_⟩
  rw[←h3]
  exact h2.kj.take _
 have av:=ak I rfl
 have aa:=qx b 64
 have aw:=j.lt (by intro e;have e:=congrArg List.length e;rw[uc,aa] at e;cases e)
 have hi:intoW qv h b=List.zipWith (·+·) h (Ab h qv (sched b 64) 64):=rfl
 rw[hi]
 generalize sched b 64=W at aa j⊢
 refine km rfl (ko (je f rfl (by rw[uc,hl]) (gw rfl fun U w4 V a B=> ?_)))
 have s:=j2 f.lt V
 have C:=j2 g.lt V
 have ab:=aA m.size V
 have f:=f.ga B
 have g:=g.ga B
 have hk:=hk.ga B
 have j:=j.ga B
 have m:=m.gb B
 have K:¬One U kb:=fun e=>by have e:kb=U:=e;omega
 have M:¬One U I:=fun e=>by have e:I=U:=e;omega
 refine wl (j4 (l':=jt h) gc a rfl rfl (by rw[uc,hl]) (by rw[uc,hl];rfl) OneC.h fun w5 a D b4=> ?_)
 have f:=f.gj D s
 have g:=g.gj D C
 have hk:=hk.ext D K
 have j:=j.ext D M
 have m:=m.gi D ab
 refine qq (gl (jd rfl (j8 ?_)))
 refine jj (α:=Nat) [2,3,6,7,8] rfl (fun z=>[(9,.int .i64 (z:Int))]) (fun z u=>(z≤64∧Seg u I 0 (jt W)∧Seg u kb 0 (jt qv))∧gz u b3 276 (jt h)∧gz u b6 276 (cellsOf ti276.zero)∧gz u U 276 (jt (Ab h qv W z))∧Ext No w u) (fun z u=>64-z) (0) rfl ⟨⟨by decide,j,hk⟩,f,g,a,m⟩ ?_
 rintro t w6 ⟨⟨ht,j,hk⟩,f,g,a,m⟩
 refine gl (jd rfl (jl rfl (fun hc=> ?_) (fun hc=> ?_)))
 ·have ht:t<64:=by omega
  obtain⟨N,Y,a2,a3,F,Z,G,a7,h8⟩:=eight (l:=Ab h qv W t) (by rw[zx1,hl])
  rw[h8] at a
  have hW:=Bs W (i:=t) zo
  have al:=Bs qv (i:=t) ht
  refine Ac (ko (ka rfl 1 rfl 4 rfl zd 4 rfl (j6 a rfl rfl (km rfl (gl ?_)))))
  refine jr rfl 33 [qP 0,qP 1,qP 2,qP 4,qP 7,qP 11,qP 12,qP 13,qP 14,qP 15,qP 16,qP 17,qP 18,qP 19,qP 20,qP 22,qP 23,qP 24,qP 25,qP 27,qP 28,qP 29,qP 30,(3,false),(5,false),qP 6,(8,false),qP 9,qP 10,qP 21,qP 26,qP 31,qP 32] [] (No) zk fun w7 x b5=> ?_
  have o:=a
  have am:=hk
  have X:=j
  have f:=f.ga x
  have g:=g.ga x
  have a:=a.ga x
  have hk:=hk.ga x
  have j:=j.ga x
  have m:=m.gb x
  have y:Ext (No) _ w7:=x.no
  refine qk gc rfl rfl 1 rfl 7 rfl zd 7 rfl (j3 gc rfl rfl (fun w' k=>(o.ga k).cell rfl) ?_)
  refine gt gc 4 rfl (qk gc rfl rfl 1 rfl 5 rfl zd 5 rfl (j3 gc rfl rfl (fun w' k=>(o.ga k).cell rfl) ?_))
  refine gt gc 3 rfl (qk gc rfl rfl 1 rfl 6 rfl zd 6 rfl (j3 gc rfl rfl (fun w' k=>(o.ga k).cell rfl) ?_))
  refine gt gc 4 rfl (qk gc rfl rfl 1 rfl t rfl ht (0+t) zo (j3 gc rfl rfl (fun w' k=>(am.ga k) t _ al) ?_))
  refine gt gc 2 rfl (qk gc rfl rfl 1 rfl t rfl ht (0+t) zo (j3 gc rfl rfl (fun w' k=>(X.ga k) t _ hW) ?_))
  refine jo rfl (j1 call211 rfl (turned6_calls w7 _) fun v8 w8 ac=>⟨(by obtain⟨rfl,rfl⟩:=ac;exact y),?_⟩)
  obtain⟨rfl,rfl⟩:=ac
  have y:=y
  refine jo rfl (j1 call211 rfl (turned11_calls w8 _) fun v9 w9 ad=>⟨(by obtain⟨rfl,rfl⟩:=ad;exact y),?_⟩)
  obtain⟨rfl,rfl⟩:=ad
  have y:=y
  refine gt gc 1 rfl (jo rfl (j1 call211 rfl (turned25_calls w9 _) fun b7 b9 O=>⟨(by obtain⟨rfl,rfl⟩:=O;exact y),?_⟩))
  obtain⟨rfl,rfl⟩:=O
  refine gt gc 5 rfl ?_
  rw[zw7,zw7,w_not,w_and,w_and,w_or,Bb,Bb,Bb,Bb,←mix3,ch_eq]
  refine gt gc 1 rfl (jg (j5 (jp (ko (ka rfl 1 rfl 0 rfl zd 0 rfl (j6 a rfl rfl (km rfl (gl ?_))))))))
  refine jr rfl 25 [qP 0,qP 2,qP 5,qP 8,qP 9,qP 10,qP 11,qP 12,qP 13,qP 14,qP 15,qP 16,qP 17,qP 18,qP 19,qP 20,qP 21,qP 22,(1,false),(3,false),qP 4,(6,false),qP 7,qP 23,qP 24] [] (No) zk fun ae n ax=> ?_
  have o:=a
  have f:=f.ga n
  have g:=g.ga n
  have a:=a.ga n
  have hk:=hk.ga n
  have j:=j.ga n
  have m:=m.gb n
  have y:Ext (No) _ ae:=n.no
  refine gt gc 4 rfl (qk gc rfl rfl 1 rfl 1 rfl zd 1 rfl (j3 gc rfl rfl (fun w' k=>(o.ga k).cell rfl) ?_))
  refine gt gc 2 rfl (qk gc rfl rfl 1 rfl 2 rfl zd 2 rfl (j3 gc rfl rfl (fun w' k=>(o.ga k).cell rfl) ?_))
  refine gt gc 2 rfl (qk gc rfl rfl 1 rfl 1 rfl zd 1 rfl (j3 gc rfl rfl (fun w' k=>(o.ga k).cell rfl) ?_))
  refine qk gc rfl rfl 1 rfl 2 rfl zd 2 rfl (j3 gc rfl rfl (fun w' k=>(o.ga k).cell rfl) ?_)
  refine gt gc 2 rfl (jo rfl (j1 call211 rfl (turned2_calls ae _) fun ba an P=>⟨(by obtain⟨rfl,rfl⟩:=P;exact y),?_⟩))
  obtain⟨rfl,rfl⟩:=P
  have y:=y
  refine jo rfl (j1 call211 rfl (turned13_calls an _) fun bb ao Q=>⟨(by obtain⟨rfl,rfl⟩:=Q;exact y),?_⟩)
  obtain⟨rfl,rfl⟩:=Q
  have y:=y
  refine gt gc 1 rfl (jo rfl (j1 call211 rfl (turned22_calls ao _) fun bc bd R=>⟨(by obtain⟨rfl,rfl⟩:=R;exact y),?_⟩))
  obtain⟨rfl,rfl⟩:=R
  refine gt gc 2 rfl ?_
  rw[zw7,zw7,w_and,w_and,w_and,w_or,w_or,Bb,←mix3,maj_eq]
  refine gt gc 1 rfl (jg (j5 (jp (yl rfl ?_))))
  rw[Bb]
  refine ka rfl 1 rfl 0 rfl zd 0 rfl (j6 a rfl rfl (ka rfl 1 rfl 1 rfl zd 1 rfl (j6 a rfl rfl (ka rfl 1 rfl 2 rfl zd 2 rfl ?_))))
  refine j6 a rfl rfl (ka rfl 1 rfl 3 rfl zd 3 rfl (j6 a rfl rfl (j0 gc rfl ?_)))
  rw[Bb]
  refine ka rfl 1 rfl 4 rfl zd 4 rfl (j6 a rfl rfl (ka rfl 1 rfl 5 rfl zd 5 rfl (j6 a rfl rfl (ka rfl 1 rfl 6 rfl zd 6 rfl ?_))))
  refine j6 a rfl rfl ?_
  refine kg rfl zb (l':=jt [(a7+Ck F [6,11,25]+(G^^^(F&&&(Z^^^G)))+qv.getD t 0+W.getD t 0)+(Ck N [2,13,22]+((N&&&Y)|||(a2&&&(N|||Y)))),N,Y,a2,a3+(a7+Ck F [6,11,25]+(G^^^(F&&&(Z^^^G)))+qv.getD t 0+W.getD t 0),F,Z,G]) rfl ?_
  refine wl (j4 (l':=jt [(a7+Ck F [6,11,25]+(G^^^(F&&&(Z^^^G)))+qv.getD t 0+W.getD t 0)+(Ck N [2,13,22]+((N&&&Y)|||(a2&&&(N|||Y)))),N,Y,a2,a3+(a7+Ck F [6,11,25]+(G^^^(F&&&(Z^^^G)))+qv.getD t 0+W.getD t 0),F,Z,G]) gc a rfl rfl rfl rfl OneC.h fun ap a r ay=> ?_)
  have f:=f.gj r s
  have g:=g.gj r C
  have hk:=hk.ext r K
  have j:=j.ext r M
  have m:=m.gi r ab
  have a:gz ap U 276 (jt (Ab h qv W (t+1))):=by
   rw[Ab,h8]
   exact a
  refine gk (Aa rfl ?_)
  rw[jz _ zo]
  refine gk ?_
  exact jk (t+1) rfl ⟨⟨by omega,j,hk⟩,f,g,a,m⟩ zf
 have h0:t=64:=by omega
 subst h0
 have aq:(Ab h qv W 64).length=8:=by rw[zx1,hl]
 generalize Ab h qv W 64=L at a aq⊢
 refine Ak (gl (jd rfl (j8 ?_)))
 refine jj (α:=Nat) [3,6,8] rfl (fun z=>[(14,.int .i64 (z:Int))]) (fun z u=>(z≤8)∧gz u b3 276 (jt (List.zipWith (·+·) (h.take z) (L.take z)++h.drop z))∧gz u b6 276 (cellsOf ti276.zero)∧gz u U 276 (jt L)∧Ext No w u) (fun z u=>8-z) (0) rfl ⟨by decide,f,g,a,m⟩ ?_
 rintro i bf ⟨J,f,g,a,m⟩
 refine gl (jd rfl (jl rfl (fun hc=> ?_) (fun hc=> ?_)))
 ·have J:i<8:=by omega
  have h1:i<h.length:=by omega
  have h2:i<L.length:=by omega
  have ar:=Au L h2
  refine Ac (jr rfl 9 [qP 0,qP 1,qP 2,qP 3,qP 4,qP 5,qP 6,qP 7,qP 8] [9] (No) zk fun bg A az=> ?_)
  have au:=f
  have o:=a
  have f:=f.ga A
  have g:=g.ga A
  have a:=a.ga A
  have m:=m.gb A
  refine gt gc 2 rfl (qk gc rfl rfl 1 rfl i rfl J (0+i*1) rfl (j3 gc rfl rfl (fun w' k=>(au.ga k).cell (i:=0+i*1) (v:=x1 h[i]) (zip_at h1 h2)) ?_))
  refine gt gc 1 rfl (qk gc rfl rfl 1 rfl i rfl J (0+i) zo (j3 gc rfl rfl (fun w' k=>(o.ga k).cell (i:=0+i) (v:=x1 L[i]) (by rw[bD];exact ar)) ?_))
  refine gt gc 1 rfl ?_
  rw[Bb]
  refine qk gc rfl rfl 1 rfl i rfl J (0+i*1) rfl (jg ?_)
  refine wb rfl (qz gc f rfl rfl (by rw[uc,aB,List.length_zipWith,aL,aL,aX];omega) fun bh f E b0=> ?_)
  have g:=g.gj E T.symm
  have a:=a.gj E s.symm
  have m:=m.gi E ah
  rw[zip_set h1 h2] at f
  refine j5 (Aa rfl ?_)
  rw[jz _ zo]
  refine gk ?_
  exact jk (i+1) rfl ⟨by omega,f,g,a,m⟩ zf
 have h0:i=8:=by omega
 subst h0
 have e1:h.take 8=h:=aO zo
 have e2:L.take 8=L:=aO zo
 have e3:h.drop 8=[]:=bM zo
 rw[e1,e2,e3,bK] at f
 have hZ:(jt (List.zipWith (·+·) h L)).length=8:=by rw[uc,List.length_zipWith];omega
 refine Ak (ko (je f rfl hZ (wl (j4 (l':=jt (List.zipWith (·+·) h L)) gc g rfl rfl hZ (by rw[hZ];rfl) OneC.h fun bi g af b1=> ?_))))
 have m:=m.gi af ai
 refine qq (j9 (qe [_] ⟨⟨b6,0,rfl,qg gc rfl rfl g.kj (by rw[hZ];rfl)⟩,trivial⟩ ?_))
 exact⟨rfl,m⟩
def xz8 (l:List UInt8) (j:Nat):List UInt8:=l++(128::List.replicate j 0)
theorem padJ_len (l:List UInt8) (j:Nat):(xz8 l j).length=l.length+1+j:=by simp[xz8];omega
theorem padJ_succ (l:List UInt8) (j:Nat):xz8 l (j+1)=xz8 l j++[0]:=by rw[xz8,List.replicate_succ',xz8];simp
theorem refPad_calls (w:World) {p:Option Addr} {c:Nat} {l:List UInt8} (h:ux w p l) (hl:l.length<100000000):
  gn prog 182 [.slice p l.length c] w fun v w'=>∃q k,v= .slice q (Cy l).length k∧Own w' q (Cy l).length k 5 1 (ge (Cy l))∧(∀b,jb q b→w.heap.size≤b)∧Ext No w w':=by
 obtain⟨K,hK⟩:∃K,K=(l.length+72)/64*64-8-(l.length+1):=⟨_,rfl⟩
 have n:xz8 l K++be 8 (8*l.length)=Cy l:=by rw[Cy,←hK,xz8];simp
 refine gx func182 ?_
 have a:=Ext.refl No w
 refine jd rfl (ki rfl (wl (qi gc rfl 1 rfl rfl rfl zd zd zt rfl fun S T a0 g D a1=> ?_)))
 have a:=a.gb D
 have g:gz T S 5 (ge [128]):=g
 have i:=a
 refine gh call97 rfl (ym T (m:=[128]) (h.ga a) ⟨rfl,.inr ⟨S,0,rfl,g.kj⟩⟩ zo zd) fun v2 w2 E=> ?_
 obtain⟨q,k,rfl,f,d,F⟩:=E
 have a:=a.gb F
 have d:∀x,jb q x→w.heap.size≤x:=fun x G=>aA i.size (d x G)
 refine km rfl (gl (j8 ?_))
 refine jj (α:=Nat×Option Addr×Nat) [0] rfl (fun z=>[(3,.slice z.2.1 (xz8 l z.1).length z.2.2)]) (fun z u=>(z.1≤K∧Own u z.2.1 (xz8 l z.1).length z.2.2 5 1 (ge (xz8 l z.1))∧(∀x,jb z.2.1 x→w.heap.size≤x))∧Ext No w u) (fun z u=>K-z.1) (0,q,k) rfl ⟨⟨aJ _,f,d⟩,a⟩ ?_
 rintro⟨j,q,k⟩ w3 ⟨⟨hj,f,d⟩,a⟩
 try dsimp only
 dsimp only at hj f d
 have a2:=padJ_len l j
 have e8:(IntKind.i64.wrap (((xz8 l j).length:Int)+8)).tmod 64=(((l.length+9+j)%64:Nat):Int):=by
  rw[jz _ zo,Int.tmod_eq_emod_of_nonneg zo]
  omega
 refine gl (ki rfl ?_)
 rw[e8]
 refine km rfl (jl rfl (fun hc=> ?_) (fun hc=> ?_))
 ·have a3:j<K:=by omega
  refine x3 (j8 (yl rfl (wl (qi gc rfl 1 rfl rfl rfl zd zd zt rfl fun o w4 U e s a4=> ?_))))
  have f:=f.ext s fun _ _=>id
  have a:=a.gb s
  have e:gz w4 o 5 (ge [0]):=e
  have t:=a
  refine wl (va gc rfl 1 1 rfl rfl rfl zd f (Src.slice (m:=1) ⟨rfl,.inr ⟨o,0,rfl,e.kj⟩⟩ OneC.h) zm zn fun H V w5 I J L=> ?_)
  have a:=t.trans J fun y hy hF=>by have:=d y hF;omega
  have A:∀x,jb H x→w.heap.size≤x:=fun x G=>(L x G).elim (fun h=>d x h) fun h=>aA t.size h
  have e9:=padJ_succ l j
  have B:(xz8 l j).length+1=(xz8 l (j+1)).length:=by rw[padJ_len,padJ_len];omega
  have M:Own w5 H (xz8 l (j+1)).length V 5 1 (ge (xz8 l (j+1))):=by
   rw[←B,e9,kz]
   exact I
  dsimp only
  rw[B]
  refine j0 gc rfl (gk ?_)
  exact js (jk (j+1,H,V) rfl ⟨⟨by dsimp only;omega,M,A⟩,a⟩ zf)
 have h0:j=K:=by omega
 subst h0
 refine Ak (ki rfl ?_)
 rw[show IntKind.u64.wrap (IntKind.u64.wrap (l.length:Int)*8)=((8*l.length:Nat):Int) from by rw[cU (l.length:Int) zo,cU _ zo];omega]
 refine gh call96 rfl (A1 8 zd w3 (8*l.length) zo) fun v6 w6 N=> ?_
 obtain⟨W,X,rfl,O,Y,C⟩:=N
 have f:=f.ext C fun _ _=>id
 have a:=a.gb C
 rw[show Value.slice W 8 X= .slice W (be 8 (8*l.length)).length X from by rw[jy]]
 have i:=a
 refine gh call97 rfl (ym w6 f.sl (by rw[ux,jy];exact O.sl) zo (by rw[jy];decide)) fun v7 w7 P=> ?_
 obtain⟨r,kr,rfl,Z,Q,R⟩:=P
 have a:=a.gb R
 rw[n] at Z⊢
 refine vr rfl (gv rfl rfl ?_)
 exact⟨r,kr,rfl,Z,fun b hb=>aA i.size (Q b hb),a⟩
theorem flat4_get (H:List A2) {j:Nat} (hj:j<4*H.length):(H.flatMap fun x=>be 4 x.toNat)[j]? =(be 4 (H.getD (j/4) 0).toNat)[j%4]? :=by
 induction H generalizing j with
 |nil=>simp at hj
 |cons x r ih=>
  rw[dI]
  by_cases h4:j<4
  ·rw[cT (by rw[jy];exact h4),Nat.div_eq_of_lt h4,Nat.mod_eq_of_lt h4]
   rfl
  obtain⟨i,rfl⟩:∃i,j=i+4:=⟨j-4,by omega⟩
  rw[cJ (by rw[jy];omega),jy,Nat.add_sub_cancel,ih (by rw[aW] at hj;omega),Nat.add_mod_right,Nat.add_div_right _ zd]
  rfl
theorem bytes_set (D:List UInt8) {j n:Nat} (h1:j<D.length) (h2:j<n):(ge (D.take j++List.replicate (n-j) 0)).set (0+j*1) (zu D[j])=ge (D.take (j+1)++List.replicate (n-(j+1)) 0):=by
 have a:(D.take j).length=j:=by rw[aL];omega
 have b:n-j=(n-(j+1))+1:=by omega
 rw[bD,bE,ge,←List.map_set,dF _ _ zo,a,Nat.sub_self,b,List.replicate_succ,List.set_cons_zero,aQ h1,aV]
 rfl
theorem refSum_calls (w:World) {p:Option Addr} {c:Nat} {l:List UInt8} (h:ux w p l) (hl:l.length<100000000):
  gn prog 130 [.slice p l.length c] w fun v w'=>v= .agg (ge (sumW l)).toArray∧Ext No w w':=by
 refine gx func130 ?_
 have f:=Ext.refl No w
 refine ko (gw rfl fun b2 w1 a5 a a6=> ?_)
 have a7:=aA f.size a5
 have f:=f.gb a6
 refine qq (ko (kg rfl zb (l':=jt A0) rfl (gw rfl fun O w2 R d S=> ?_)))
 have y:=j2 a.lt R
 have T:=aA f.size R
 have a:=a.ga S
 have f:=f.gb S
 refine wl (j4 (l':=jt A0) gc d rfl rfl rfl rfl OneC.h fun w3 d U ay=> ?_)
 have a:=a.gj U y
 have f:=f.gi U T
 refine qq (ki rfl ?_)
 have I:=d.lt
 have ar:=a.lt
 refine gh call182 rfl (refPad_calls w3 (h.ga f) hl) fun v4 w4 a8=> ?_
 obtain⟨q,kq,rfl,hq,a9,E⟩:=a8
 have a:=a.ga E
 have d:=d.ga E
 have f:=f.gb E
 have aa:(Cy l).length%64=0:=by rw[yw9];omega
 have ab:(Cy l).length<200000000:=by rw[yw9];omega
 have V:sumW l=(Am qv A0 (Cy l) ((Cy l).length/64)).flatMap fun x=>be 4 x.toNat:=rfl
 rw[V]
 have W:=hq.cap
 have s:ux w4 q (Cy l):=hq.sl
 have X:∀b Y,q=some ⟨b,Y,none⟩→¬One O b:=fun b Y e hb=>by
  have hb:b=O:=hb
  rcases hq with⟨_,Q,_⟩|⟨bq,_,h1,_⟩
  ·rw[yw9] at Q;omega
  rw[h1] at e
  cases e
  have:=a9 b h1
  omega
 clear hq
 generalize Cy l=P at s aa ab W⊢
 have I:=aM I E.size
 refine km rfl (ko (gh call183 rfl (known_calls w4) fun v5 w5 ac=> ?_))
 obtain⟨bk,rfl,az,ad,F⟩:=ac
 have a:=a.ga F
 have d:=d.ga F
 have s:=s.ga F
 have f:=f.gb F
 have m:Seg w5 bk 0 (jt qv):=ad.kj
 have Z:¬One O bk:=fun e=>by have e:bk=O:=e;omega
 refine km rfl (gl (jd rfl (j8 ?_)))
 refine jj (α:=Nat) [2,3,4,5] rfl (fun z=>[(6,.int .i64 ((64*z:Nat):Int))]) (fun z u=>(64*z≤P.length∧ux u q P∧Seg u bk 0 (jt qv))∧gz u b2 30 (cellsOf ti30.zero)∧gz u O 276 (jt (Am qv A0 P z))∧Ext No w u) (fun z u=>P.length-64*z) (0) rfl ⟨⟨aJ _,s,m⟩,a,d,f⟩ ?_
 rintro k w6 ⟨⟨hk,s,m⟩,a,d,f⟩
 refine gl (jd rfl (jl rfl (fun hc=> ?_) (fun hc=> ?_)))
 ·have au:64*k+64≤P.length:=by omega
  have K:((P.drop (64*k)).take 64).length=64:=by rw[aL,aX];omega
  have A:(Am qv A0 P k).length=8:=by rw[Cs];rfl
  refine Ac (jr rfl 8 [qP 0,qP 1,qP 2,qP 3,qP 4,qP 5,qP 6,(7,false)] [8] (No) zk fun w7 t b0=> ?_)
  have ae:=d
  have a:=a.ga t
  have d:=d.ga t
  have s:=s.ga t
  have m:=m.ga t
  have f:=f.gb t
  have hC:Ext (No) _ w7:=t.no
  refine qa gc rfl rfl (fun w' af=>(ae.ga af).kj) (by rw[uc,A]) ?_
  refine gt gc 4 rfl ?_
  rw[jz _ zo]
  refine D8 gc rfl rfl (64*k) (64*k+64) kq 1 rfl (.inr ⟨rfl,rfl⟩) (.inl (congrArg some zo)) (.inl (congrArg some zo)) zo zo (aD _) ?_
  dsimp only
  rw[show 64*k+64-64*k=((P.drop (64*k)).take 64).length from by rw[K];omega]
  refine gt gc 1 rfl ?_
  have ag:ux w7 (u6 q (64*k) kq 1) ((P.drop (64*k)).take 64):=by
   have e:=Sl.slice s (64*k) (64*k+64) kq zo zo zo
   rw[bE,bE,uk,ui,show 64*k+64-64*k=64 from by omega] at e
   rw[ux,K]
   exact e
  refine jo rfl (j1 call184 rfl (refInto_calls w7 A (b:=(P.drop (64*k)).take 64) ag K zo m) fun v8 w8 a0=>⟨(by obtain⟨rfl,n⟩:=a0;exact hC.gb n),?_⟩)
  obtain⟨rfl,n⟩:=a0
  have a:=a.ga n
  have d:=d.ga n
  have s:=s.ga n
  have m:=m.ga n
  have f:=f.gb n
  refine jg ?_
  refine wb rfl (j4 (l':=jt (intoW qv (Am qv A0 P k) ((P.drop (64*k)).take 64))) gc d rfl rfl (by rw[uc,intoW_len,A]) (by rw[uc,intoW_len,A,uc,A]) OneC.h fun w9 d G b1=> ?_)
  have a:=a.gj G y
  have s:=s.ext G X
  have m:=m.ext G Z
  have f:=f.gi G T
  refine j5 (Aa rfl ?_)
  rw[jz _ zo]
  refine gk ?_
  exact jk (k+1) rfl ⟨⟨by omega,s,m⟩,a,d,f⟩ zf
 have Q:k=P.length/64:=by omega
 subst Q
 have ah:(Am qv A0 P (P.length/64)).length=8:=by rw[Cs];rfl
 generalize Am qv A0 P (P.length/64)=H at d ah⊢
 have ai:=xx5 H
 have a1:∀j,j<4*H.length→(H.flatMap fun x=>be 4 x.toNat)[j]? =(be 4 (H.getD (j/4) 0).toNat)[j%4]? :=fun j=>flat4_get H
 generalize(H.flatMap fun x=>be 4 x.toNat)=D at ai a1⊢
 refine Ak (ko (gw rfl fun b7 aj L g B=> ?_))
 have M:=j2 a.lt L
 have N:=j2 d.lt L
 have ak:=aA f.size L
 have a:=a.ga B
 have d:=d.ga B
 have f:=f.gb B
 have g:gz aj b7 30 (ge (D.take 0++List.replicate (32-0) 0)):=g
 refine qq (gl (jd rfl (j8 ?_)))
 refine jj (α:=Nat) [2,3,7] rfl (fun z=>[(8,.int .i64 (z:Int))]) (fun z u=>(z≤32)∧gz u b2 30 (cellsOf ti30.zero)∧gz u O 276 (jt H)∧gz u b7 30 (ge (D.take z++List.replicate (32-z) 0))∧Ext No w u) (fun z u=>32-z) (0) rfl ⟨by decide,a,d,g,f⟩ ?_
 rintro j al ⟨hj,a,d,g,f⟩
 refine gl (jd rfl (jl rfl (fun hc=> ?_) (fun hc=> ?_)))
 ·have J:j<32:=by omega
  have a2:=a1 j zo
  rw[aN zo] at a2
  have am:=Bs H (i:=j/4) zo
  refine Ac (yl rfl ?_)
  rw[show IntKind.i64.wrap ((j:Int).tdiv 4)=((j/4:Nat):Int) from by rw[IntWalk.i64_quo _ _ zo];omega]
  refine ka rfl 1 rfl (j/4) rfl zo (0+j/4) zo (gu rfl (d.cell (i:=0+j/4) (v:=x1 (H.getD (j/4) 0)) (by rw[bD];exact am)) (j0 gc rfl ?_))
  rw[show IntKind.u64.wrap ((H.getD (j/4) 0).toNat:Int)=((H.getD (j/4) 0).toNat:Int) from by have:=(H.getD (j/4) 0).isLt;rw[cU _ zo]]
  refine gh call96 rfl (A1 4 zd al (H.getD (j/4) 0).toNat (by have:=(H.getD (j/4) 0).isLt;omega)) fun b4 an a3=> ?_
  obtain⟨qh,kh,rfl,ao,av,o⟩:=a3
  have a:=a.ga o
  have d:=d.ga o
  have g:=g.ga o
  have f:=f.gb o
  obtain⟨bh,rfl,ap⟩:∃bh,qh=some ⟨bh,0,none⟩∧Seg an bh 0 (ge (be 4 (H.getD (j/4) 0).toNat)):=by
   rcases ao with⟨_,Q,_⟩|⟨bh,l,h1,h2,_,_,_,h3⟩
   ·omega
   refine⟨bh,h1,?_⟩
   rw[←h3]
   exact h2.kj.take _
  have aq:(ge (be 4 (H.getD (j/4) 0).toNat))[j%4]? =some (zu (D[j]'zo)):=by rw[ge,cE,←a2];rfl
  refine j0 gc rfl ?_
  rw[show((j:Int).tmod 4)=((j%4:Nat):Int) from rfl]
  refine ka rfl 1 rfl (j%4) rfl zo (0+j%4) zo (gu rfl (ap (j%4) _ aq) (ka rfl 1 rfl j rfl J (0+j*1) rfl ?_))
  refine wl (qz gc g rfl rfl (by rw[gm,aB,aL,bS];omega) fun b5 g C aw=> ?_)
  have a:=a.gj C M
  have d:=d.gj C N
  have f:=f.gi C ak
  rw[bytes_set D zo J] at g
  refine gk (Aa rfl ?_)
  rw[jz _ zo]
  refine gk ?_
  exact jk (j+1) rfl ⟨by omega,a,d,g,f⟩ zf
 have Q:j=32:=by omega
 subst Q
 have e1:D.take 32++List.replicate (32-32) 0=D:=by rw[aO zo];simp
 rw[e1] at g
 have r:(ge D).length=32:=by rw[gm];omega
 refine Ak (ko (je g rfl r (wl (j4 (l':=ge D) gc a rfl rfl r (by rw[r];rfl) OneC.h fun b6 a a4 ax=> ?_))))
 have f:=f.gi a4 a7
 refine qq (j9 (qe [_] ⟨⟨b2,0,rfl,qg gc rfl rfl a.kj (by rw[r];rfl)⟩,trivial⟩ ?_))
 exact⟨rfl,f⟩
end Go.Proofs.YtpdiphfjmepijaaGreatDoor
namespace Go.Vc
def ul (l:List UInt8):ByteArray:=⟨l.toArray⟩
theorem strU_size (l:List UInt8):(ul l).size=l.length:=rfl
theorem strU_of (s:ByteArray):ul s.data.toList=s:=by obtain⟨⟨x⟩⟩:=s;rfl
theorem xt {a b:List UInt8} (h:ul a=ul b):a=b:=by
 have e:=congrArg (fun s:ByteArray=>s.data.toList) h
 exact e
section
variable {P:Program} {I:u0} {f:Fs} {ops:Array Oper} {o:Oper} {env:Env} {w:World}
theorem run_b2s {p:Option Addr} {l:List UInt8} (h:ux w p l) (c:Nat):(Conv.bytesToString (.slice p l.length c)).run P w= .ok (.string (ul l)) w:=by
 unfold Conv.bytesToString
 cases p with
 |none=>
  obtain⟨_,h0|⟨b,off,hp,_⟩⟩:=h
  ·have:l=[]:=aZ h0
   subst this
   rfl
  cases hp
 |some a=>
  have hl:(loadCells a l.length).run P w= .ok (ge l).toArray w:=by
   obtain⟨_,h0|⟨b,off,hp,hs⟩⟩:=h
   ·have:l=[]:=aZ h0
    subst this
    rfl
   cases hp
   unfold loadCells
   have:=vh (P:=P) l.length 0 (ge l) #[] (by simpa using hs) (gm l)
   simpa using this
  simp only[aK,hl,aF]
  have go:∀(m:List UInt8) (s:ByteArray),(forIn (m:=Sem) (ge m) s fun c s=>do
    match c with
    | .int .u8 n=>pure (ForInStep.yield (s.push (UInt8.ofNat n.toNat)))
    |_=>do
     stuck "bytesToString: byte expected"
     pure (ForInStep.yield s)).run P w= .ok (⟨s.data++m.toArray⟩:ByteArray) w:=by
   intro m
   induction m with
   |nil=>intro s;simp[ge]
   |cons x r ih=>
    intro s
    rw[show ge (x::r)=zu x::ge r from rfl,List.forIn_cons]
    simp only[aK,aT,aF]
    rw[ih]
    congr 2
    simp[ByteArray.push]
  rw[←Array.forIn_toList]
  refine(congrArg (fun r=>Result.andThen r _) (go l ByteArray.empty)).trans ?_
  simp only[aF,aT]
  congr 2
  simp[ul,ByteArray.empty,ByteArray.emptyWithCapacity]
  rfl
def b2sE (I:u0) (n:Nat) (ops:Array Oper) (env:Env) (o:Oper):Option (Option Addr×Nat×Nat×Nat):=
  match pre n ops env o with
  |false=>none
  |true=>match o.dst with
    |some d=>match o.op with
      | .convert s t x=>match yn I s with
        |some y=>match y.desc with
          | .slice e=>match yn I e with
            |some g=>match g.desc with
              | .int .u8=>match yn I t with
                |some z=>match z.desc with
                  | .string=>match xh env x with
                    |some (.slice p m c)=>some (p,m,c,d)
                    |_=>none
                  |_=>none
                |none=>none
              |_=>none
            |none=>none
          |_=>none
        |none=>none
      |_=>none
    |none=>none
theorem ov_b2s (hI:I.Ok P) {nn m c d:Nat} {p:Option Addr} (h:b2sE I nn ops env o=some (p,m,c,d)) {l:List UInt8} (hl:m=l.length) (hs:ux w p l):
  pre nn ops env o=true∧o.dst=some d∧Ov P o env w (.string (ul l)) w:=by
 subst hl
 unfold b2sE at h
 split at h
 ·cases h
 rename_i n
 split at h
 ·rename_i H q
  split at h
  ·rename_i s t x r
   split at h
   ·rename_i y u
    split at h
    ·rename_i e v
     split at h
     ·rename_i g A
      split at h
      ·rename_i a
       split at h
       ·rename_i z B
        split at h
        ·rename_i b
         split at h
         ·rename_i C J f D
          simp only[bG,cP] at h
          obtain⟨rfl,rfl,rfl,rfl⟩:=h
          refine⟨n,q,fun K E=> ?_⟩
          have i:=(hI.get u).under w
          have j:=(hI.get B).under w
          have k:=(hI.get A).under w
          rw[v] at i
          rw[b] at j
          rw[a] at k
          have F:=run_b2s (P:=P) hs f
          have G:(convert s t (.slice C l.length f)).run P w= .ok (.string (ul l)) w:=by
           unfold convert
           rw[jc i,jc j]
           show(underlying e>>=_).run P w=_
           rw[jc k]
           exact F
          simp only[execOp,r,E _ _ D,aK,G,aF,aT]
         cases h
        cases h
       cases h
      cases h
     cases h
    cases h
   cases h
  cases h
 cases h
theorem D4 (hI:I.Ok P) {K:Env→World→Prop} {m c d:Nat} {p:Option Addr} (h:b2sE I f.n ops env o=some (p,m,c,d)) {l:List UInt8} (hl:m=l.length) (hs:ux w p l)
  (k:K ((d,.string (ul l))::env) w):St P f ops o env w K:=by
 obtain⟨a,b,e⟩:=ov_b2s (w:=w) hI h hl hs
 obtain⟨g,i⟩:=pre_eq a
 exact yg g i e (by rw[b];exact k)
theorem wd_b2s (hI:I.Ok P) {K:Act→World→Prop} {r:Dr} {i:Nat} {pl:List (Nat×Bool)} {dn:List Nat} (ho:ops[i]? =some o) {m c d:Nat} {p:Option Addr} (h:b2sE I f.n ops env o=some (p,m,c,d)) {l:List UInt8} (hl:m=l.length) (hs:∀w',r.C w'→ux w' p l)
  (hs0:ux w p l) (k:WD P f ops K r pl (i::dn) ((d,.string (ul l))::env) w):WD P f ops K r ((i,true)::pl) dn env w:=by
 obtain⟨a,b,_⟩:=ov_b2s (w:=w) hI h hl hs0
 exact wd_q ho a b (fun w' e=>(ov_b2s (w:=w') hI h hl (hs w' e)).2.2) k
def eqKE (n:Nat) (ops:Array Oper) (env:Env) (o:Oper):Option (Nat×Bool×Value×Value×Nat):=
  match pre n ops env o with
  |false=>none
  |true=>match o.dst with
    |some d=>match o.op with
      | .binOp op t x y _=>match xh env x with
        |some (.agg a)=>match xh env y with
          |some (.agg b)=>match op with
            | .eql=>some (t,true,.agg a,.agg b,d)
            | .neq=>some (t,false,.agg a,.agg b,d)
            |_=>none
          |_=>none
        |_=>none
      |_=>none
    |none=>none
theorem ov_eqK {nn t d : Nat} {q : Bool} {a b : Value} (h : eqKE nn ops env o = some (t, q, a, b, d)) (hgd : P.eqGuardType P.depth t = false) (m : Nat) (hm : m ≤ 10000) (hk : P.keyTypeAt m t = true)
    {D D' : Nat} {la lb : List Lit} (fa : a.formed P t = true) (fb : b.formed P t = true) (ha : P.keyLits D t a.cells.toList = some la) (hb : P.keyLits D' t b.cells.toList = some lb) {p : Prop} [Decidable p] (hp : la = lb ↔ p) :
    pre nn ops env o = true ∧ o.dst = some d ∧ Ov P o env w (.bool (if q then decide p else decide (¬ p))) w := by
  unfold eqKE at h
  split at h
  · cases h
  rename_i s
  split at h
  · rename_i I G
    split at h
    · rename_i J e x y u A
      split at h
      · rename_i f B
        split at h
        · rename_i g C
          have v : ∃ r : Bool, (Op.equal e (.agg f) (.agg g)).run P w = .ok r w ∧ (r = true ↔ p) ∨ e ≠ t ∨ a ≠ .agg f ∨ b ≠ .agg g := by
            by_cases ht : e = t ∧ a = .agg f ∧ b = .agg g
            · obtain ⟨rfl, rfl, rfl⟩ := ht
              obtain ⟨r, i, l⟩ := run_equalIn_deep (P := P) (10000 - m) m e hk w D D' _ _ la lb fa fb ha hb
              rw [Nat.sub_add_cancel hm] at i
              exact ⟨r, .inl ⟨i, l.trans hp⟩⟩
            refine ⟨true, .inr ?_⟩
            by_cases i : e = t
            · by_cases l : a = .agg f
              · exact .inr (.inr fun H => ht ⟨i, l, H⟩)
              exact .inr (.inl l)
            exact .inl i
          split at h
          all_goals first
            | (cases h; done)
            | (simp only [bG, cP] at h
               obtain ⟨rfl, rfl, rfl, rfl, rfl⟩ := h
               obtain ⟨r, ⟨E, z⟩ | c | c | c⟩ := v
               · refine ⟨s, G, fun K n => ?_⟩
                 have j : r = decide p := by
                   rw [Bool.eq_iff_iff, z]; simp
                 have F := run_eqGuard_agg (P := P) w (BinOp.eql) e x y f g hgd
                 have k := run_eqGuard_agg (P := P) w (BinOp.neq) e x y f g hgd
                 first
                   | (simp only [execOp, A, n _ _ B, n _ _ C, aK, F, k, aF, binOp, E, aT, j]; simp; done)
                   | (simp only [execOp, A, n _ _ B, n _ _ C, aK, F, k, aF, binOp, E, aT, j]; done)
               · exact absurd rfl c
               · exact absurd rfl c
               exact absurd rfl c)
        cases h
      cases h
    cases h
  cases h
theorem C0 {K:Env→World→Prop} {t d:Nat} {q:Bool} {a b:Value} (h:eqKE f.n ops env o=some (t,q,a,b,d)) (hgd:P.eqGuardType P.depth t=false) (m:Nat) (hm:m≤10000) (hk:P.keyTypeAt m t=true)
  {D D':Nat} {la lb:List Lit} (fa:a.formed P t=true) (fb:b.formed P t=true) (ha:P.keyLits D t a.cells.toList=some la) (hb:P.keyLits D' t b.cells.toList=some lb) {p:Prop} [Decidable p] (hp:la=lb↔p)
  (k:K ((d,.bool (if q then decide p else decide (¬p)))::env) w):St P f ops o env w K:=by
 obtain⟨c,e,g⟩:=ov_eqK (P:=P) (w:=w) h hgd m hm hk fa fb ha hb hp
 obtain⟨i,j⟩:=pre_eq c
 exact yg i j g (by rw[e];exact k)
end
theorem zv4 {P:Program} {f:Fs} {ops:Array Oper} {o:Oper} {env:Env} {w:World} {K:Act→World→Prop} {r:Dr} {i:Nat} {pl:List (Nat×Bool)} {dn:List Nat} (ho:ops[i]? =some o) {t d:Nat} {q:Bool} {a b:Value} (h:eqKE f.n ops env o=some (t,q,a,b,d)) (hgd:P.eqGuardType P.depth t=false) (m:Nat) (hm:m≤10000) (hk:P.keyTypeAt m t=true)
  {D D':Nat} {la lb:List Lit} (fa:a.formed P t=true) (fb:b.formed P t=true) (ha:P.keyLits D t a.cells.toList=some la) (hb:P.keyLits D' t b.cells.toList=some lb) {p:Prop} [Decidable p] (hp:la=lb↔p)
  (k:WD P f ops K r pl (i::dn) ((d,.bool (if q then decide p else decide (¬p)))::env) w):WD P f ops K r ((i,true)::pl) dn env w:=by
 obtain⟨c,e,_⟩:=ov_eqK (P:=P) (w:=w) h hgd m hm hk fa fb ha hb hp
 exact wd_q ho c e (fun g _=>(ov_eqK (P:=P) (w:=g) h hgd m hm hk fa fb ha hb hp).2.2) k
/-! ### What a key's cells read as -/
theorem mapM_some {α β:Type} {f:α→Option β} {g:α→β}:∀{L:List α},(∀x∈L,f x=some (g x))→L.mapM f=some (L.map g)
 | [],_=>by simp
 |x::r,h=>by
  rw[List.mapM_cons,h x zp,mapM_some (L:=r) fun y hy=>h y (by simp[hy])]
  rfl
theorem flat_single {α β:Type} (f:α→β) (L:List α):(L.map fun x=>[f x]).flatten=L.map f:=by
 induction L with
 |nil=>rfl
 |cons x r ih=>rw[dL,dB,ih];rfl
def zq4 (l:List UInt8):List Lit:=l.map fun b=>Lit.int .u8 (b.toNat:Int)
theorem ua {a b:List UInt8}:zq4 a=zq4 b↔a=b:=by
 refine⟨fun h=>(List.map_inj_right fun x y e=> ?_).1 h,fun h=>by rw[h]⟩
 simp only[Lit.int.injEq,true_and] at e
 exact UInt8.toNat_inj.1 zo
theorem lits_bytes {P:Program} {d t e n:Nat} (hu:P.underlying t=some (.array n e)) (hc:P.cellsOf t=n) (he:P.underlying e=some (.int .u8)) (hce:P.cellsOf e=1) {l:List UInt8} (hl:l.length=n):P.keyLits (d+2) t (ge l)=some (zq4 l):=by
 unfold Program.keyLits
 simp only[hu,hc,hce,gm,hl,cO]
 have c:∀i∈List.range n,P.keyLits (d+1) e (((ge l).drop (i*1)).take 1)=some [Lit.int .u8 ((l.getD i 0).toNat:Int)]:=by
  intro i a
  have a:i<l.length:=by rw[hl];exact List.mem_range.1 a
  have b:((ge l).drop (i*1)).take 1=[zu (l.getD i 0)]:=by
   rw[bE,ge,←List.map_drop,bY a,cK,aN a]
   rfl
  rw[b]
  unfold Program.keyLits
  simp only[he]
  have:=(l.getD i 0).toNat_lt
  rw[aR]
  refine⟨trivial,?_⟩
  have b:IntKind.u8.min=0:=rfl
  have f:IntKind.u8.max=255:=rfl
  simp only[Lit.wf,b,f,bV,aU]
  omega
 rw[mapM_some c]
 simp only[Option.map_some,bG]
 rw[←hl]
 apply List.ext_getElem?
 intro i
 have:((List.range l.length).map fun i=>[Lit.int .u8 ((l.getD i 0).toNat:Int)]).flatten=(List.range l.length).map fun i=>Lit.int .u8 ((l.getD i 0).toNat:Int):=by
  exact flat_single _ _
 rw[this]
 simp only[zq4,cE]
 by_cases a:i<l.length
 ·rw[aN a,aN (by simpa using a)]
  simp[cK,aN a]
 rw[cD (l:=List.range l.length) (by rw[List.length_range];omega),cD (l:=l) zo]
 rfl
theorem lits_str {P:Program} {d t:Nat} (hu:P.underlying t=some .string) {s:List UInt8} (hs:s.length≤maxLen):P.keyLits (d+1) t [.string (ul s)]=some [.string s]:=by
 unfold Program.keyLits
 simp only[hu]
 exact aR hs
theorem lits_bool {P:Program} {d t:Nat} (hu:P.underlying t=some .bool) (b:Bool):P.keyLits (d+1) t [.bool b]=some [.bool b]:=by
 unfold Program.keyLits
 simp only[hu]
theorem lits_struct {P : Program} {d t : Nat} {cs : List Value} {L : List (Nat × Nat)} (hu : P.underlying t = some (.struct (P.fieldsOf t))) (hn : (P.fieldsOf t).all (·.name != "_") = true) (hc : cs.length = P.cellsOf t)
  (hf:(P.fieldsOf t).toList.map (fun f=>(f.type,f.offset))=L) {ls:List (List Lit)} (hm:L.mapM (fun p=>P.keyLits d p.1 ((cs.drop p.2).take (P.cellsOf p.1)))=some ls):P.keyLits (d+1) t cs=some ls.flatten:=by
 unfold Program.keyLits
 simp only[hu]
 rw[aR ⟨hc,hn⟩]
 subst hf
 have:(P.fieldsOf t).toList.mapM (fun f=>P.keyLits d f.type ((cs.drop f.offset).take (P.cellsOf f.type)))=some ls:=by
  rw[←hm]
  generalize(P.fieldsOf t).toList=fs
  induction fs with
  |nil=>rfl
  |cons f fs ih=>simp only[dL,List.mapM_cons,ih]
 rw[this]
 rfl
abbrev Str:=List UInt8
abbrev y7 (l:Str):Value:= .string (ul l)
def okC (c:UInt8):Prop:=33≤c.toNat∧c.toNat≤126
instance (c:UInt8):Decidable (okC c):=inferInstanceAs (Decidable (_∧_))
def xw (l:Str):Prop:=(∀c∈l,okC c)∧1≤l.length∧l.length≤48
instance (l:Str):Decidable (xw l):=inferInstanceAs (Decidable (_∧_))
theorem pathNo {l:Str} {i:Nat} (hi:i<l.length) (h:¬okC l[i]):¬xw l:=fun hp=>h (hp.1 _ (aG hi))
theorem pathIs {l:Str} (h:∀i (hi:i<l.length),okC l[i]):xw l↔1≤l.length∧l.length≤48:=
 ⟨fun hp=>hp.2,fun hl=>⟨fun c hc=>by obtain⟨i,hi,rfl⟩:=bJ.1 hc;exact h i hi,hl⟩⟩
theorem zj0 {α:Type} {p:α→Prop} {l:List α} {i:Nat} (h:∀k (hk:k<l.length),k<i→p l[k]) (hi:i<l.length) (h1:p l[i]):∀k (hk:k<l.length),k<i+1→p l[k]:=fun k hk hlt=>by
 rcases bF k i with h'|h'
 ·exact h k hk h'
 obtain rfl:k=i:=by omega
 exact h1
structure Bj where
  path:Str
  text:Str
  deriving DecidableEq
structure jf where
  path:Str
  id:List UInt8
  deriving DecidableEq
structure u9 where
  path:Str
  is:Bool
  text:Str
  deriving DecidableEq
def Bj.cells (r:Bj):List Value:=[y7 r.path,y7 r.text]
def jf.cells (r:jf):List Value:=y7 r.path::ge r.id
def u9.cells (r:u9):List Value:=[y7 r.path,.bool r.is,y7 r.text]
theorem flat_at {α:Type} {f:α→List Value} {n:Nat}:∀{l:List α},(∀x∈l,(f x).length=n)→∀{i:Nat} (hi:i<l.length),((l.flatMap f).drop (i*n)).take n=f l[i]
 | [],_,i,hi=>absurd hi (bW _)
 |x::r,h,0,_=>by
  rw[cW,List.drop_zero,dI,List.take_append_of_le_length (by rw[h x zp];exact aD _),aO (by rw[h x zp];exact aD _)]
  rfl
 |x::r,h,i+1,hi=>by
  have hx:=h x zp
  rw[dI,Nat.succ_mul,Nat.add_comm,←List.drop_drop,←hx,List.drop_left,hx,flat_at (fun y hy=>h y (by simp[hy])) (by simpa using hi)]
  rfl
theorem yw1 {α:Type} {f:α→List Value} {n:Nat}:∀{l:List α},(∀x∈l,(f x).length=n)→(l.flatMap f).length=l.length*n
 | [],_=>by simp
 |x::r,h=>by
  rw[dI,aB,h x zp,yw1 (fun y hy=>h y (by simp[hy])),aW,Nat.succ_mul,Nat.add_comm]
theorem Sl.rowAt {α:Type} {w:World} {p:Option Addr} {f:α→List Value} {n:Nat} {l:List α} (h:Sl w p l.length n (l.flatMap f)) (hn:∀x∈l,(f x).length=n) {i:Nat} (hi:i<l.length):
  ∃b off,p=some ⟨b,off,none⟩∧Seg w b (off+i*n) (f l[i]):=by
 obtain⟨_,d|⟨b,off,a,c⟩⟩:=h
 ·omega
 refine⟨b,off,a,?_⟩
 have:=(c.drop (i*n)).take n
 rw[flat_at hn hi] at this
 exact this
theorem Sl.qd {α:Type} {w:World} {p:Option Addr} {f:α→List Value} {n:Nat} {l:List α} (h:Sl w p l.length n (l.flatMap f)) (hn:∀x∈l,(f x).length=n) (h0:0<l.length):
  ∃b off,p=some ⟨b,off,none⟩∧∀i (hi:i<l.length),Seg w b (off+i*n) (f l[i]):=by
 obtain⟨_,d|⟨b,off,a,c⟩⟩:=h
 ·omega
 refine⟨b,off,a,fun i hi=> ?_⟩
 have:=(c.drop (i*n)).take n
 rw[flat_at hn hi] at this
 exact this
theorem Bj.len (r:Bj):r.cells.length=2:=rfl
theorem u9.len (r:u9):r.cells.length=3:=rfl
theorem jf.len {r:jf} (h:r.id.length=32):r.cells.length=33:=by simp[jf.cells,gm,h]
instance (r:Bj):OneC r.cells:=by unfold Bj.cells;infer_instance
instance (r:u9):OneC r.cells:=by unfold u9.cells;infer_instance
instance (r:jf):OneC r.cells:=by unfold jf.cells;infer_instance
def xx2 (l:List Str):Prop:=l.length≤32∧∀i (hi:i<l.length),xw l[i]∧(0<i→SLt (ul (l[i-1]'zo)) (ul l[i]))
instance (l:List Str):Decidable (xx2 l):=inferInstanceAs (Decidable (_∧_))
def xw4 (l:List Bj):Prop:=¬(∃r∈l,256<r.text.length)∧xx2 (l.map Bj.path)
instance (l:List Bj):Decidable (xw4 l):=inferInstanceAs (Decidable (_∧_))
theorem bl_total:∀(x y:List UInt8),(Op.bytesLess x y=true∨x=y)∨Op.bytesLess y x=true
 | [],[]=> .inl (.inr rfl)
 | [],_::_=> .inl (.inl rfl)
 |_::_,[]=> .inr rfl
 |a::x,b::y=>by
  simp only[Op.bytesLess,Bool.or_eq_true,bV,aU,beq_iff_eq]
  rcases Nat.lt_trichotomy a.toNat b.toNat with h|h|h
  ·exact .inl (.inl (.inl (UInt8.lt_iff_toNat_lt.2 h)))
  ·obtain rfl:a=b:=UInt8.toNat_inj.1 h
   rcases bl_total x y with(h1|h1)|h1
   ·exact .inl (.inl (.inr ⟨rfl,h1⟩))
   ·exact .inl (.inr (by rw[h1]))
   exact .inr (.inr ⟨rfl,h1⟩)
  exact .inr (.inl (UInt8.lt_iff_toNat_lt.2 h))
theorem yq4:∀(x y:List UInt8),Op.bytesLess x y=true→Op.bytesLess y x=true→False
 | [],[],h,_=>by cases h
 | [],_::_,_,h=>by cases h
 |_::_,[],h,_=>by cases h
 |a::x,b::y,h,k=>by
  simp only[Op.bytesLess,Bool.or_eq_true,bV,aU,beq_iff_eq] at h k
  rcases h with h|⟨rfl,h⟩
  ·rcases k with k|⟨rfl,k⟩
   ·have:=UInt8.lt_iff_toNat_lt.1 h;have:=UInt8.lt_iff_toNat_lt.1 k;omega
   have:=UInt8.lt_iff_toNat_lt.1 h;omega
  rcases k with k|⟨_,k⟩
  ·have:=UInt8.lt_iff_toNat_lt.1 k;omega
  exact yq4 x y h k
theorem slt_flip (a b:ByteArray):¬(SLt a b∨a=b)↔SLt b a:=by
 constructor
 ·intro h
  rcases bl_total a.data.toList b.data.toList with(h1|h1)|h1
  ·exact absurd (.inl h1) h
  ·refine absurd (.inr ?_) h
   obtain⟨⟨x⟩⟩:=a
   obtain⟨⟨y⟩⟩:=b
   have h1:x=y:=h1
   rw[h1]
  exact h1
 rintro h (k|rfl)
 ·exact yq4 _ _ h k
 exact yq4 _ _ h h
def RowGood (l:List Bj) (i:Nat) (hi:i<l.length):Prop:=i≠32∧xw l[i].path∧l[i].text.length≤256∧(0<i→SLt (ul (l[i-1]'zo).path) (ul l[i].path))
instance (l:List Bj) (i:Nat) (hi:i<l.length):Decidable (RowGood l i hi):=inferInstanceAs (Decidable (_∧_))
def xq2 (c:u9):Prop:=256<c.text.length∨c.is=false∧c.text≠[]
instance (c:u9):Decidable (xq2 c):=inferInstanceAs (Decidable (_∨_))
theorem chg_nil (t:Str):(ul t≠ByteArray.mk #[])↔t≠[]:=
 ⟨fun h1 h2=>h1 (by rw[h2];rfl),fun h1 h2=>h1 (xt h2)⟩
def zw0 (l:List u9):Prop:=¬(∃r∈l,xq2 r)∧xx2 (l.map u9.path)
instance (l:List u9):Decidable (zw0 l):=inferInstanceAs (Decidable (_∧_))
def ChgGood (l:List u9) (i:Nat) (hi:i<l.length):Prop:=i≠32∧xw l[i].path∧¬xq2 l[i]∧(0<i→SLt (ul (l[i-1]'zo).path) (ul l[i].path))
instance (l:List u9) (i:Nat) (hi:i<l.length):Decidable (ChgGood l i hi):=inferInstanceAs (Decidable (_∧_))
theorem editOk_iff {l:List u9}:zw0 l↔∀i (hi:i<l.length),ChgGood l i hi:=by
 constructor
 ·rintro⟨a,b,c⟩ i hi
  rw[aE] at b
  have:=c i (by rw[aE];exact hi)
  refine⟨by omega,by simpa using this.1,?_,fun d=>by simpa using this.2 d⟩
  exact fun h=>a ⟨_,aG hi,h⟩
 intro h
 refine⟨fun⟨r,e,f⟩=> ?_,?_,fun i hi=> ?_⟩
 ·obtain⟨i,hi,rfl⟩:=bJ.1 e
  exact(h i hi).2.2.1 f
 ·rw[aE]
  exact Nat.not_lt.1 fun g=>(h 32 g).1 rfl
 rw[aE] at hi
 have:=h i hi
 simp only[bR]
 exact⟨this.2.1,this.2.2.2⟩
end Go.Vc
namespace Go.Proofs.YtpdiphfjmepijaaGreatDoor
open Go.Proofs.Tryz
open Go.Vc
theorem path_calls (w:World) (l:Str) (hl:l.length<1000000000):
  gn prog 243 [y7 l] w fun v w'=>v= .bool (decide (xw l))∧w'=w:=by
 have q:(ul l).size=l.length:=rfl
 refine gx func243 ?_
 have g:=Ext.refl No w
 refine jd rfl (gl (jd rfl (j8 ?_)))
 refine jj (α:=Nat) [0,5] rfl (fun z=>[(6,.int .i64 (z:Int))]) (fun z u=>((z≤l.length∧∀k (o:k<l.length),k<z→okC l[k])∧u=w)∧Ext No w u) (fun z u=>l.length-z) (0) rfl ⟨⟨⟨aJ _,fun k _ h=>absurd h (bW _)⟩,rfl⟩,g⟩ ?_
 rintro i p ⟨⟨⟨f,b⟩,rfl⟩,g⟩
 refine jd rfl (gl (jl rfl (fun c=> ?_) (fun c=> ?_)))
 ·have f:i<l.length:=by omega
  have d:(ul l).data.toList[i]? =some l[i]:=aN f
  refine Ac (jd rfl (ji (α:=Bool) [0,5,6] rfl (fun z=>[(18,.bool z)]) (fun z u=>u=p∧z=decide (¬okC l[i])) ?_ ?_))
  ·refine gy ?_
   refine j0 gc rfl (wl (st_is gc rfl i rfl d (j0 gc rfl (ja 13 rfl (fun j=> ?_) (fun j=> ?_)))))
   ·refine gq gc 5 rfl ?_
    refine gk ?_
    exact gr (true) rfl ⟨rfl,by symm;rw[aU];intro h;have:=h.1;omega⟩
   refine gq gc 2 rfl ?_
   refine wl (st_is gc rfl i rfl d (gq gc 2 rfl (gk ?_)))
   exact gr (_) rfl ⟨rfl,by rw[aH];unfold okC;omega⟩
  rintro z r ⟨a,rfl⟩
  have a:=a.symm
  subst a
  refine jl rfl (fun c=> ?_) (fun c=> ?_)
  ·have m:=pathNo f c
   refine jd rfl (j9 (gGl (gv rfl rfl ?_)))
   exact⟨by rw[bO m],rfl⟩
  have n:okC l[i]:=aS.1 c
  refine kc (Aa rfl ?_)
  rw[jz _ zo]
  refine gk ?_
  exact jk (i+1) rfl ⟨⟨⟨by omega,zj0 b f n⟩,rfl⟩,g⟩ zf
 have e:=pathIs (l:=l) fun k o=>b k o zo
 refine Ak (ji (α:=Bool) [] rfl (fun z=>[(2,.bool z)]) (fun z u=>u=p∧z=decide (1≤l.length∧l.length≤48)) ?_ ?_)
 ·refine gy ?_
  refine j0 gc rfl (ja 23 rfl (fun j=> ?_) (fun j=> ?_))
  ·refine gq gc 5 rfl ?_
   refine gk ?_
   exact gr (_) rfl ⟨rfl,by rw[aH];omega⟩
  refine gq gc 5 rfl ?_
  refine gk ?_
  exact gr (_) rfl ⟨rfl,by symm;rw[aC];omega⟩
 rintro z s ⟨a,rfl⟩
 have a:=a.symm
 subst a
 refine j9 (gv rfl rfl ?_)
 exact⟨by rw[aH.2 e],rfl⟩
theorem path5_calls (w:World) (l:Str) (hl:l.length<1000000000):
  gn prog 218 [y7 l] w fun v w'=>v= .bool (decide (xw l))∧w'=w:=by
 have q:(ul l).size=l.length:=rfl
 refine gx func218 ?_
 have g:=Ext.refl No w
 refine jd rfl (gl (jd rfl (j8 ?_)))
 refine jj (α:=Nat) [0] rfl (fun z=>[(3,.int .i64 (z:Int))]) (fun z u=>((z≤l.length∧∀k (o:k<l.length),k<z→okC l[k])∧u=w)∧Ext No w u) (fun z u=>l.length-z) (0) rfl ⟨⟨⟨aJ _,fun k _ h=>absurd h (bW _)⟩,rfl⟩,g⟩ ?_
 rintro i p ⟨⟨⟨f,b⟩,rfl⟩,g⟩
 refine gl (jd rfl (jl rfl (fun c=> ?_) (fun c=> ?_)))
 ·have f:i<l.length:=by omega
  have d:(ul l).data.toList[i]? =some l[i]:=aN f
  refine Ac (ji (α:=Bool) [0,3] rfl (fun z=>[(19,.bool z)]) (fun z u=>u=p∧z=decide (¬okC l[i])) ?_ ?_)
  ·refine gy ?_
   refine j0 gc rfl (wl (st_is gc rfl i rfl d (j0 gc rfl (ja 14 rfl (fun j=> ?_) (fun j=> ?_)))))
   ·refine gq gc 5 rfl ?_
    refine gk ?_
    exact gr (true) rfl ⟨rfl,by symm;rw[aU];intro h;have:=h.1;omega⟩
   refine gq gc 2 rfl ?_
   refine wl (st_is gc rfl i rfl d (gq gc 2 rfl (gk ?_)))
   exact gr (_) rfl ⟨rfl,by rw[aH];unfold okC;omega⟩
  rintro z r ⟨a,rfl⟩
  have a:=a.symm
  subst a
  refine jl rfl (fun c=> ?_) (fun c=> ?_)
  ·have m:=pathNo f c
   refine jd rfl (j9 (gGl (gv rfl rfl ?_)))
   exact⟨by rw[bO m],rfl⟩
  have n:okC l[i]:=aS.1 c
  refine kc (Aa rfl ?_)
  rw[jz _ zo]
  refine gk ?_
  exact jk (i+1) rfl ⟨⟨⟨by omega,zj0 b f n⟩,rfl⟩,g⟩ zf
 have e:=pathIs (l:=l) fun k o=>b k o zo
 refine Ak (ji (α:=Bool) [] rfl (fun z=>[(2,.bool z)]) (fun z u=>u=p∧z=decide (1≤l.length∧l.length≤48)) ?_ ?_)
 ·refine gy ?_
  refine j0 gc rfl (ja 23 rfl (fun j=> ?_) (fun j=> ?_))
  ·refine gq gc 5 rfl ?_
   refine gk ?_
   exact gr (_) rfl ⟨rfl,by rw[aH];omega⟩
  refine gq gc 5 rfl ?_
  refine gk ?_
  exact gr (_) rfl ⟨rfl,by symm;rw[aC];omega⟩
 rintro z s ⟨a,rfl⟩
 have a:=a.symm
 subst a
 refine j9 (gv rfl rfl ?_)
 exact⟨by rw[aH.2 e],rfl⟩
theorem path6_calls (w:World) (l:Str) (hl:l.length<1000000000):
  gn prog 199 [y7 l] w fun v w'=>v= .bool (decide (xw l))∧w'=w:=by
 have q:(ul l).size=l.length:=rfl
 refine gx func199 ?_
 have g:=Ext.refl No w
 refine jd rfl (gl (jd rfl (j8 ?_)))
 refine jj (α:=Nat) [0,5] rfl (fun z=>[(6,.int .i64 (z:Int))]) (fun z u=>((z≤l.length∧∀k (o:k<l.length),k<z→okC l[k])∧u=w)∧Ext No w u) (fun z u=>l.length-z) (0) rfl ⟨⟨⟨aJ _,fun k _ h=>absurd h (bW _)⟩,rfl⟩,g⟩ ?_
 rintro i p ⟨⟨⟨f,b⟩,rfl⟩,g⟩
 refine jd rfl (gl (jl rfl (fun c=> ?_) (fun c=> ?_)))
 ·have f:i<l.length:=by omega
  have d:(ul l).data.toList[i]? =some l[i]:=aN f
  refine Ac (jd rfl (ji (α:=Bool) [0,5,6] rfl (fun z=>[(18,.bool z)]) (fun z u=>u=p∧z=decide (¬okC l[i])) ?_ ?_))
  ·refine gy ?_
   refine j0 gc rfl (wl (st_is gc rfl i rfl d (j0 gc rfl (ja 13 rfl (fun j=> ?_) (fun j=> ?_)))))
   ·refine gq gc 5 rfl ?_
    refine gk ?_
    exact gr (true) rfl ⟨rfl,by symm;rw[aU];intro h;have:=h.1;omega⟩
   refine gq gc 2 rfl ?_
   refine wl (st_is gc rfl i rfl d (gq gc 2 rfl (gk ?_)))
   exact gr (_) rfl ⟨rfl,by rw[aH];unfold okC;omega⟩
  rintro z r ⟨a,rfl⟩
  have a:=a.symm
  subst a
  refine jl rfl (fun c=> ?_) (fun c=> ?_)
  ·have m:=pathNo f c
   refine jd rfl (j9 (gGl (gv rfl rfl ?_)))
   exact⟨by rw[bO m],rfl⟩
  have n:okC l[i]:=aS.1 c
  refine kc (Aa rfl ?_)
  rw[jz _ zo]
  refine gk ?_
  exact jk (i+1) rfl ⟨⟨⟨by omega,zj0 b f n⟩,rfl⟩,g⟩ zf
 have e:=pathIs (l:=l) fun k o=>b k o zo
 refine Ak (ji (α:=Bool) [] rfl (fun z=>[(2,.bool z)]) (fun z u=>u=p∧z=decide (1≤l.length∧l.length≤48)) ?_ ?_)
 ·refine gy ?_
  refine j0 gc rfl (ja 23 rfl (fun j=> ?_) (fun j=> ?_))
  ·refine gq gc 5 rfl ?_
   refine gk ?_
   exact gr (_) rfl ⟨rfl,by rw[aH];omega⟩
  refine gq gc 5 rfl ?_
  refine gk ?_
  exact gr (_) rfl ⟨rfl,by symm;rw[aC];omega⟩
 rintro z s ⟨a,rfl⟩
 have a:=a.symm
 subst a
 refine j9 (gv rfl rfl ?_)
 exact⟨by rw[aH.2 e],rfl⟩
theorem rowPath_calls (w:World) (r:Bj):
  gn prog 239 [.agg r.cells.toArray] w fun v w'=>v=y7 r.path∧Ext No w w':=by
 refine gx func239 ?_
 have b:=Ext.refl No w
 refine ko (gw rfl fun d e f a c=> ?_)
 have b:=b.gb c
 have a:gz e d 321 (r.cells):=a
 refine km rfl (ki rfl (j6 a rfl rfl (vr rfl (gv rfl rfl ?_))))
 exact⟨rfl,b⟩
theorem changePath_calls (w:World) (r:u9):
  gn prog 229 [.agg r.cells.toArray] w fun v w'=>v=y7 r.path∧Ext No w w':=by
 refine gx func229 ?_
 have b:=Ext.refl No w
 refine ko (gw rfl fun d e f a c=> ?_)
 have b:=b.gb c
 have a:gz e d 150 (r.cells):=a
 refine km rfl (ki rfl (j6 a rfl rfl (vr rfl (gv rfl rfl ?_))))
 exact⟨rfl,b⟩
theorem check1_calls (w:World) (r:Bj):
  gn prog 238 [.agg r.cells.toArray] w fun v w'=>v= .bool (decide (256<r.text.length))∧Ext No w w':=by
 refine gx func238 ?_
 have b:=Ext.refl No w
 refine ko (gw rfl fun d e f a c=> ?_)
 have b:=b.gb c
 have a:gz e d 321 (r.cells):=a
 refine km rfl (ki rfl (j6 a rfl rfl (vr rfl (gv rfl rfl ?_))))
 exact⟨congrArg Value.bool (aH.2 (by have:(ul r.text).size=r.text.length:=rfl;omega)),b⟩
theorem xv9 (w:World) {p:Option Addr} {c G:Nat} {l:List Bj} (h:Sl w p l.length 2 (l.flatMap Bj.cells)) (hl:l.length<1000000000) (Q:Bj→Prop) [DecidablePred Q]
  (hcf:∀args w,(callFunc G args).run prog w= .ok (.enter G args) w) (hQ:∀w (r:Bj),r.cells.length=2→gn prog G [.agg r.cells.toArray] w fun v w'=>v= .bool (decide (Q r))∧Ext No w w'):
  gn prog 246 [.slice p l.length c,.func (.func G) #[] #[]] w fun v w'=>∃n:Int,v= .int .i64 n∧(0≤n↔∃r∈l,Q r)∧Ext No w w':=by
 refine gx func246 ?_
 have a:=Ext.refl No w
 refine jd rfl (gl (jd rfl (j8 ?_)))
 refine jj (α:=Nat) [0,1,7] rfl (fun z=>[(8,.int .i64 (z:Int))]) (fun z u=>(z≤l.length∧∀k (s:k<l.length),k<z→¬Q l[k])∧Ext No w u) (fun z u=>l.length-z) (0) rfl ⟨⟨aJ _,fun k _ h=>absurd h (bW _)⟩,a⟩ ?_
 rintro i t ⟨⟨j,d⟩,a⟩
 refine jd rfl (gl (jl rfl (fun e=> ?_) (fun e=> ?_)))
 ·have j:i<l.length:=by omega
  obtain⟨b,m,rfl,f⟩:=(h.ga a).rowAt (fun r _=>r.len) j
  refine Ac (jd rfl (ki rfl (ka rfl 2 rfl i rfl zo (m+i*2) rfl (jm rfl f rfl ?_))))
  refine gh hcf rfl (hQ t l[i] rfl) fun B C o=> ?_
  obtain⟨rfl,q⟩:=o
  have a:=a.gb q
  refine qq (jl rfl (fun e=> ?_) (fun e=> ?_))
  ·refine gl ?_
   refine gy (vr rfl (gGl (gv rfl rfl ?_)))
   exact⟨_,rfl,⟨fun _=>⟨_,aG j,e⟩,fun _=>dN _⟩,a⟩
  refine kc ?_
  refine Aa rfl ?_
  rw[jz _ zo]
  refine gk ?_
  exact jk (i+1) rfl ⟨⟨by omega,zj0 (p:=fun x=>¬Q x) d j e⟩,a⟩ zf
 have g:¬∃r∈l,Q r:=fun⟨r,y,A⟩=>by
  obtain⟨k,s,rfl⟩:=bJ.1 y
  exact d k s zo A
 refine Ak (jd rfl (j9 (gv rfl rfl ?_)))
 exact⟨_,rfl,⟨fun h=>absurd h zd,fun h=>absurd h g⟩,a⟩
theorem yv4 (w:World) {p:Option Addr} {c G:Nat} {l:List Bj} (h:Sl w p l.length 2 (l.flatMap Bj.cells)) (hl:l.length<1000000000) (Q:Bj→Prop) [DecidablePred Q]
  (hcf:∀args w,(callFunc G args).run prog w= .ok (.enter G args) w) (hQ:∀w (r:Bj),r.cells.length=2→gn prog G [.agg r.cells.toArray] w fun v w'=>v= .bool (decide (Q r))∧Ext No w w'):
  gn prog 237 [.slice p l.length c,.func (.func G) #[] #[]] w fun v w'=>v= .bool (decide (∃r∈l,Q r))∧Ext No w w':=by
 refine gx func237 ?_
 have a:=Ext.refl No w
 refine jd rfl (ki rfl (gh call246 rfl (xv9 w (h.ga a) hl Q hcf hQ) fun f g b=> ?_))
 obtain⟨n,rfl,d,e⟩:=b
 have a:=a.gb e
 refine vr rfl (gv rfl rfl ?_)
 exact⟨congrArg Value.bool (aH.2 d),a⟩
theorem yv6 (w:World) {p:Option Addr} {c G:Nat} {l:List u9} (h:Sl w p l.length 3 (l.flatMap u9.cells)) (hl:l.length<1000000000) (Q:u9→Prop) [DecidablePred Q]
  (hcf:∀args w,(callFunc G args).run prog w= .ok (.enter G args) w) (hQ:∀w (r:u9),r.cells.length=3→gn prog G [.agg r.cells.toArray] w fun v w'=>v= .bool (decide (Q r))∧Ext No w w'):
  gn prog 242 [.slice p l.length c,.func (.func G) #[] #[]] w fun v w'=>∃n:Int,v= .int .i64 n∧(0≤n↔∃r∈l,Q r)∧Ext No w w':=by
 refine gx func242 ?_
 have a:=Ext.refl No w
 refine jd rfl (gl (jd rfl (j8 ?_)))
 refine jj (α:=Nat) [0,1,7] rfl (fun z=>[(8,.int .i64 (z:Int))]) (fun z u=>(z≤l.length∧∀k (s:k<l.length),k<z→¬Q l[k])∧Ext No w u) (fun z u=>l.length-z) (0) rfl ⟨⟨aJ _,fun k _ h=>absurd h (bW _)⟩,a⟩ ?_
 rintro i t ⟨⟨j,d⟩,a⟩
 refine jd rfl (gl (jl rfl (fun e=> ?_) (fun e=> ?_)))
 ·have j:i<l.length:=by omega
  obtain⟨b,m,rfl,f⟩:=(h.ga a).rowAt (fun r _=>r.len) j
  refine Ac (jd rfl (ki rfl (ka rfl 3 rfl i rfl zo (m+i*3) rfl (jm rfl f rfl ?_))))
  refine gh hcf rfl (hQ t l[i] rfl) fun B C o=> ?_
  obtain⟨rfl,q⟩:=o
  have a:=a.gb q
  refine qq (jl rfl (fun e=> ?_) (fun e=> ?_))
  ·refine gl ?_
   refine gy (vr rfl (gGl (gv rfl rfl ?_)))
   exact⟨_,rfl,⟨fun _=>⟨_,aG j,e⟩,fun _=>dN _⟩,a⟩
  refine kc ?_
  refine Aa rfl ?_
  rw[jz _ zo]
  refine gk ?_
  exact jk (i+1) rfl ⟨⟨by omega,zj0 (p:=fun x=>¬Q x) d j e⟩,a⟩ zf
 have g:¬∃r∈l,Q r:=fun⟨r,y,A⟩=>by
  obtain⟨k,s,rfl⟩:=bJ.1 y
  exact d k s zo A
 refine Ak (jd rfl (j9 (gv rfl rfl ?_)))
 exact⟨_,rfl,⟨fun h=>absurd h zd,fun h=>absurd h g⟩,a⟩
theorem zj8 (w:World) {p:Option Addr} {c G:Nat} {l:List u9} (h:Sl w p l.length 3 (l.flatMap u9.cells)) (hl:l.length<1000000000) (Q:u9→Prop) [DecidablePred Q]
  (hcf:∀args w,(callFunc G args).run prog w= .ok (.enter G args) w) (hQ:∀w (r:u9),r.cells.length=3→gn prog G [.agg r.cells.toArray] w fun v w'=>v= .bool (decide (Q r))∧Ext No w w'):
  gn prog 227 [.slice p l.length c,.func (.func G) #[] #[]] w fun v w'=>v= .bool (decide (∃r∈l,Q r))∧Ext No w w':=by
 refine gx func227 ?_
 have a:=Ext.refl No w
 refine jd rfl (ki rfl (gh call242 rfl (yv6 w (h.ga a) hl Q hcf hQ) fun f g b=> ?_))
 obtain⟨n,rfl,d,e⟩:=b
 have a:=a.gb e
 refine vr rfl (gv rfl rfl ?_)
 exact⟨congrArg Value.bool (aH.2 d),a⟩
theorem xz9 (w:World) {p:Option Addr} {c G:Nat} {l:List jf} (hn:∀x∈l,(jf.cells x).length=33) (h:Sl w p l.length 33 (l.flatMap jf.cells)) (hl:l.length<1000000000) (Q:jf→Prop) [DecidablePred Q]
  (hcf:∀args w,(callFunc G args).run prog w= .ok (.enter G args) w) (hQ:∀w (r:jf),r.cells.length=33→gn prog G [.agg r.cells.toArray] w fun v w'=>v= .bool (decide (Q r))∧Ext No w w'):
  gn prog 241 [.slice p l.length c,.func (.func G) #[] #[]] w fun v w'=>∃n:Int,v= .int .i64 n∧(0≤n↔∃r∈l,Q r)∧Ext No w w':=by
 refine gx func241 ?_
 have a:=Ext.refl No w
 refine jd rfl (gl (jd rfl (j8 ?_)))
 refine jj (α:=Nat) [0,1,7] rfl (fun z=>[(8,.int .i64 (z:Int))]) (fun z u=>(z≤l.length∧∀k (s:k<l.length),k<z→¬Q l[k])∧Ext No w u) (fun z u=>l.length-z) (0) rfl ⟨⟨aJ _,fun k _ h=>absurd h (bW _)⟩,a⟩ ?_
 rintro i t ⟨⟨d,e⟩,a⟩
 refine jd rfl (gl (jl rfl (fun f=> ?_) (fun f=> ?_)))
 ·have d:i<l.length:=by omega
  obtain⟨b,m,rfl,g⟩:=(h.ga a).rowAt (hn) d
  refine Ac (jd rfl (ki rfl (ka rfl 33 rfl i rfl zo (m+i*33) rfl ?_)))
  refine jm rfl g (hn _ (aG d)) (gh hcf rfl (hQ t l[i] (hn _ (aG d))) fun B C o=> ?_)
  obtain⟨rfl,q⟩:=o
  have a:=a.gb q
  refine qq (jl rfl (fun f=> ?_) (fun f=> ?_))
  ·refine gl ?_
   refine gy (vr rfl (gGl (gv rfl rfl ?_)))
   exact⟨_,rfl,⟨fun _=>⟨_,aG d,f⟩,fun _=>dN _⟩,a⟩
  refine kc ?_
  refine Aa rfl ?_
  rw[jz _ zo]
  refine gk ?_
  exact jk (i+1) rfl ⟨⟨by omega,zj0 (p:=fun x=>¬Q x) e d f⟩,a⟩ zf
 have j:¬∃r∈l,Q r:=fun⟨r,y,A⟩=>by
  obtain⟨k,s,rfl⟩:=bJ.1 y
  exact e k s zo A
 refine Ak (jd rfl (j9 (gv rfl rfl ?_)))
 exact⟨_,rfl,⟨fun h=>absurd h zd,fun h=>absurd h j⟩,a⟩
theorem yj0 (w:World) {p:Option Addr} {c G:Nat} {l:List jf} (hn:∀x∈l,(jf.cells x).length=33) (h:Sl w p l.length 33 (l.flatMap jf.cells)) (hl:l.length<1000000000) (Q:jf→Prop) [DecidablePred Q]
  (hcf:∀args w,(callFunc G args).run prog w= .ok (.enter G args) w) (hQ:∀w (r:jf),r.cells.length=33→gn prog G [.agg r.cells.toArray] w fun v w'=>v= .bool (decide (Q r))∧Ext No w w'):
  gn prog 225 [.slice p l.length c,.func (.func G) #[] #[]] w fun v w'=>v= .bool (decide (∃r∈l,Q r))∧Ext No w w':=by
 refine gx func225 ?_
 have a:=Ext.refl No w
 refine jd rfl (ki rfl (gh call241 rfl (xz9 w hn (h.ga a) hl Q hcf hQ) fun f g b=> ?_))
 obtain⟨n,rfl,d,e⟩:=b
 have a:=a.gb e
 refine vr rfl (gv rfl rfl ?_)
 exact⟨congrArg Value.bool (aH.2 d),a⟩
theorem checkEdit1_calls (w:World) (r:u9):
  gn prog 228 [.agg r.cells.toArray] w fun v w'=>v= .bool (decide (xq2 r))∧Ext No w w':=by
 have hs:(ul r.text).size=r.text.length:=rfl
 refine gx func228 ?_
 have hX:=Ext.refl No w
 refine ko (gw rfl fun b1 w1 hn1 hb1 hE1=> ?_)
 have fr1:=aA hX.size hn1
 have hX:=hX.gb hE1
 have hb1:gz w1 b1 150 (r.cells):=hb1
 refine km rfl (ji (α:=Bool) [] rfl (fun z=>[(2,.bool z)]) (fun z u=>(z=decide (xq2 r))∧Ext No w u) ?_ ?_)
 ·refine gy ?_
  refine j0 gc rfl (j6 hb1 rfl rfl (j0 gc rfl (ja 7 rfl (fun hg=> ?_) (fun hg=> ?_))))
  ·refine gq gc 10 rfl ?_
   refine gk ?_
   exact gr (true) rfl ⟨by symm;rw[aU];exact .inl zo,hX⟩
  ·refine gq gc 1 rfl ?_
   refine j6 hb1 rfl rfl (gq gc 2 rfl (uq 11 rfl (fun hg=> ?_) (fun hg=> ?_)))
   ·refine gq gc 1 rfl ?_
    refine j6 hb1 rfl rfl (gq gc 4 rfl (gk ?_))
    exact gr (_) rfl ⟨by
 have hi:r.is=false:=by simpa using hg
 have e:(ul r.text≠ByteArray.mk #[])↔r.text≠[]:=by
  constructor
  ·intro h1 h2;exact h1 (by rw[h2];rfl)
  ·intro h1 h2;exact h1 (xt h2)
 rw[aH]
 refine e.trans ⟨fun h=> .inr ⟨hi,h⟩,fun h=>h.elim (fun h=>absurd h zo) fun h=>h.2⟩,hX⟩
   ·refine gq gc 6 rfl ?_
    refine gk ?_
    exact gr (false) rfl ⟨by symm;rw[aC];have hi:r.is=true:=(by simpa using hg);exact fun h=>h.elim (fun h=>absurd h zo) fun h=>absurd (hi.symm.trans h.1) zd,hX⟩
 rintro z w2 ⟨rfl,hX⟩
 refine j9 (gv rfl rfl ?_)
 exact⟨rfl,hX⟩
theorem risingRow_calls (w:World) {p:Option Addr} {c G:Nat} {l:List Bj} (h:Sl w p l.length 2 (l.flatMap Bj.cells)) (hl:l.length<1000000000) (hlen:∀r∈l,r.path.length<1000000000)
  (hcf:∀args w,(callFunc G args).run prog w= .ok (.enter G args) w) (hQ:∀w (r:Bj),gn prog G [.agg r.cells.toArray] w fun v w'=>v=y7 r.path∧Ext No w w'):
  gn prog 240 [.agg #[.slice p l.length c,.func (.func G) #[] #[]]] w fun v w'=>v= .bool (decide (xx2 (l.map Bj.path)))∧Ext No w w':=by
 refine gx func240 ?_
 have d:=Ext.refl No w
 refine ko (gw rfl fun Q w1 a0 a R=> ?_)
 have d:=d.gb R
 have a:gz w1 Q 339 ([.slice p l.length c,.func (.func G) #[] #[]]):=a
 refine km rfl (gl (ki rfl (j6 a rfl rfl (km rfl (jl rfl (fun q=> ?_) (fun q=> ?_))))))
 ·refine gl ?_
  refine gy (vr rfl (j7 (gv rfl rfl ?_)))
  exact⟨congrArg Value.bool (by symm;rw[aC];intro h;have:=h.1;rw[aE] at this;omega),d⟩
 have S:l.length≤32:=by omega
 refine x3 (gl (ki rfl (j6 a rfl rfl (km rfl (j8 ?_)))))
 refine jj (α:=Nat) [1,10,11] rfl (fun z=>[(12,.int .i64 (z:Int))]) (fun z u=>(z≤l.length∧∀k (A:k<l.length),k<z→xw l[k].path∧(0<k→SLt (ul l[k-1].path) (ul l[k].path)))∧gz u Q 339 ([.slice p l.length c,.func (.func G) #[] #[]])∧Ext No w u) (fun z u=>l.length-z) (0) rfl ⟨⟨aJ _,fun k _ h=>absurd h (bW _)⟩,a,d⟩ ?_
 rintro i w2 ⟨⟨P,B⟩,a,d⟩
 refine jd rfl (gl (jl rfl (fun q=> ?_) (fun q=> ?_)))
 ·have P:i<l.length:=by omega
  obtain⟨b,s,rfl,f⟩:=h.qd (fun r _=>r.len) zo
  refine Ac (ki rfl (ka rfl 2 rfl i rfl zo (s+i*2) rfl (jm rfl ((f i P).ga d) rfl (gw rfl fun b4 w3 C t D=> ?_))))
  have x:=j2 a.lt C
  have T:=aA d.size C
  have a:=a.ga D
  have d:=d.gb D
  refine j0 gc rfl (wl (j4 (l':=(l[i]).cells) gc t rfl rfl rfl rfl OneC.h fun w4 t E a1=> ?_))
  have a:=a.gj E x
  have d:=d.gi E T
  refine qq ?_
  refine ji (α:=Bool) [1,10,11,12] rfl (fun z=>[(42,.bool z)]) (fun z u=>(z=decide (¬(xw l[i].path∧(0<i→SLt (ul l[i-1].path) (ul l[i].path)))))∧gz u Q 339 ([.slice (some ⟨b,s,none⟩) l.length c,.func (.func G) #[] #[]])∧Ext No w u) ?_ ?_
  ·refine jr rfl 26 [qP 0,qP 1,qP 2,(3,false),(4,false),qP 5,qP 6,qP 7,qP 8,qP 9,qP 10,qP 11,qP 12,qP 13,qP 14,qP 15,qP 16,qP 17,qP 19,qP 20,qP 21,(18,false),(22,false),qP 23,qP 24,qP 25] [] (No) zk fun Z y a2=> ?_
   have n:=a
   have F:=t
   have U:=d
   have a:=a.ga y
   have d:=d.gb y
   have m:Ext (No) _ Z:=y.no
   refine gt gc 1 rfl (j3 gc rfl rfl (fun w' e=>(n.ga e).cell rfl) ?_)
   refine qa gc rfl rfl (fun w' e=>(F.ga e).kj) rfl ?_
   refine jo rfl (j1 hcf rfl (hQ Z l[i]) fun v6 w6 H=>⟨(by obtain⟨rfl,g⟩:=H;exact m.gb g),?_⟩)
   obtain⟨rfl,g⟩:=H
   have a:=a.ga g
   have d:=d.gb g
   have m:=m.gb g
   refine jo rfl (j1 call243 rfl (path_calls w6 l[i].path (hlen _ (aG P))) fun v7 w7 I=>⟨(by obtain⟨rfl,rfl⟩:=I;exact m),?_⟩)
   obtain⟨rfl,rfl⟩:=I
   have m:=m
   refine gt gc 2 rfl (Cm 23 rfl (fun J=> ?_) (fun J=> ?_))
   ·have V:¬xw l[i].path:=by simpa using J
    refine gt gc 19 rfl (jg (j5 ?_))
    exact gr (true) rfl ⟨by symm;rw[aU];exact fun h=>V h.1,a,d⟩
   have K:xw l[i].path:=by simpa using J
   refine gt gc 3 rfl (vy 26 rfl (fun J=> ?_) (fun J=> ?_))
   ·refine gt gc 1 rfl ?_
    refine j3 gc rfl rfl (fun w' e=>(n.ga e).cell rfl) ?_
    refine gt gc 1 rfl (j3 gc rfl rfl (fun w' e=>(n.ga e).cell rfl) ?_)
    refine gt gc 2 rfl ?_
    rw[jz _ zo]
    refine qk gc rfl rfl 2 rfl (i-1) zo zo (s+(i-1)*2) rfl (qa gc rfl rfl (fun w' e=>((f (i-1) zo).ga (U.gb e))) rfl ?_)
    refine gt gc 1 rfl (j3 gc rfl rfl (fun w' e=>(n.ga e).cell rfl) ?_)
    refine qa gc rfl rfl (fun w' e=>(F.ga e).kj) rfl ?_
    refine jo rfl (j1 hcf rfl (hQ w7 _) fun v8 w8 L=>⟨(by obtain⟨rfl,j⟩:=L;exact m.gb j),?_⟩)
    obtain⟨rfl,j⟩:=L
    have a:=a.ga j
    have d:=d.gb j
    have m:=m.gb j
    refine jo rfl (j1 hcf rfl (hQ w8 _) fun v9 w9 M=>⟨(by obtain⟨rfl,o⟩:=M;exact m.gb o),?_⟩)
    obtain⟨rfl,o⟩:=M
    have a:=a.ga o
    have d:=d.gb o
    refine gt gc 3 rfl (jg (j5 ?_))
    exact gr (_) rfl ⟨by rw[aH];exact⟨fun W X=>W (X.2 zo),fun W X=>W ⟨K,fun _=>X⟩⟩,a,d⟩
   refine gt gc 16 rfl ?_
   refine jg (j5 ?_)
   exact gr (false) rfl ⟨by symm;rw[aC];exact fun h=>h ⟨K,fun h0=>absurd h0 zo⟩,a,d⟩
  rintro z a3 ⟨rfl,a,d⟩
  refine jl rfl (fun q=> ?_) (fun q=> ?_)
  ·refine gl ?_
   refine gy (vr rfl (gGl (gv rfl rfl ?_)))
   exact⟨congrArg Value.bool (by symm;rw[aC];intro h;have:=h.2 i (by rw[aE];exact P);exact q (by simpa using this)),d⟩
  have Y:=aS.1 q
  have N:∀k (A:k<l.length),k<i+1→xw l[k].path∧(0<k→SLt (ul l[k-1].path) (ul l[k].path)):=fun k A a4=>by
   rcases bF k i with h'|h'
   ·exact B k A h'
   obtain rfl:k=i:=by omega
   exact Y
  refine kc (Aa rfl ?_)
  rw[jz _ zo]
  refine gk ?_
  exact jk (i+1) rfl ⟨⟨by omega,N⟩,a,d⟩ zf
 have O:xx2 (l.map Bj.path):=⟨by rw[aE];exact S,fun k A=>by rw[aE] at A;simpa using B k A zo⟩
 refine Ak (jd rfl (j9 (gv rfl rfl ?_)))
 exact⟨congrArg Value.bool (bQ O).symm,d⟩
theorem xw6 (w:World) {p:Option Addr} {c G:Nat} {l:List u9} (h:Sl w p l.length 3 (l.flatMap u9.cells)) (hl:l.length<1000000000) (hlen:∀r∈l,r.path.length<1000000000)
  (hcf:∀args w,(callFunc G args).run prog w= .ok (.enter G args) w) (hQ:∀w (r:u9),gn prog G [.agg r.cells.toArray] w fun v w'=>v=y7 r.path∧Ext No w w'):
  gn prog 230 [.agg #[.slice p l.length c,.func (.func G) #[] #[]]] w fun v w'=>v= .bool (decide (xx2 (l.map u9.path)))∧Ext No w w':=by
 refine gx func230 ?_
 have d:=Ext.refl No w
 refine ko (gw rfl fun Q w1 a0 a R=> ?_)
 have d:=d.gb R
 have a:gz w1 Q 329 ([.slice p l.length c,.func (.func G) #[] #[]]):=a
 refine km rfl (gl (ki rfl (j6 a rfl rfl (km rfl (jl rfl (fun q=> ?_) (fun q=> ?_))))))
 ·refine gl ?_
  refine gy (vr rfl (j7 (gv rfl rfl ?_)))
  exact⟨congrArg Value.bool (by symm;rw[aC];intro h;have:=h.1;rw[aE] at this;omega),d⟩
 have S:l.length≤32:=by omega
 refine x3 (gl (ki rfl (j6 a rfl rfl (km rfl (j8 ?_)))))
 refine jj (α:=Nat) [1,10,11] rfl (fun z=>[(12,.int .i64 (z:Int))]) (fun z u=>(z≤l.length∧∀k (A:k<l.length),k<z→xw l[k].path∧(0<k→SLt (ul l[k-1].path) (ul l[k].path)))∧gz u Q 329 ([.slice p l.length c,.func (.func G) #[] #[]])∧Ext No w u) (fun z u=>l.length-z) (0) rfl ⟨⟨aJ _,fun k _ h=>absurd h (bW _)⟩,a,d⟩ ?_
 rintro i w2 ⟨⟨P,B⟩,a,d⟩
 refine jd rfl (gl (jl rfl (fun q=> ?_) (fun q=> ?_)))
 ·have P:i<l.length:=by omega
  obtain⟨b,s,rfl,f⟩:=h.qd (fun r _=>r.len) zo
  refine Ac (ki rfl (ka rfl 3 rfl i rfl zo (s+i*3) rfl (jm rfl ((f i P).ga d) rfl (gw rfl fun b4 w3 C t D=> ?_))))
  have x:=j2 a.lt C
  have T:=aA d.size C
  have a:=a.ga D
  have d:=d.gb D
  refine j0 gc rfl (wl (j4 (l':=(l[i]).cells) gc t rfl rfl rfl rfl OneC.h fun w4 t E a1=> ?_))
  have a:=a.gj E x
  have d:=d.gi E T
  refine qq ?_
  refine ji (α:=Bool) [1,10,11,12] rfl (fun z=>[(42,.bool z)]) (fun z u=>(z=decide (¬(xw l[i].path∧(0<i→SLt (ul l[i-1].path) (ul l[i].path)))))∧gz u Q 329 ([.slice (some ⟨b,s,none⟩) l.length c,.func (.func G) #[] #[]])∧Ext No w u) ?_ ?_
  ·refine jr rfl 26 [qP 0,qP 1,qP 2,(3,false),(4,false),qP 5,qP 6,qP 7,qP 8,qP 9,qP 10,qP 11,qP 12,qP 13,qP 14,qP 15,qP 16,qP 17,qP 19,qP 20,qP 21,(18,false),(22,false),qP 23,qP 24,qP 25] [] (No) zk fun Z y a2=> ?_
   have n:=a
   have F:=t
   have U:=d
   have a:=a.ga y
   have d:=d.gb y
   have m:Ext (No) _ Z:=y.no
   refine gt gc 1 rfl (j3 gc rfl rfl (fun w' e=>(n.ga e).cell rfl) ?_)
   refine qa gc rfl rfl (fun w' e=>(F.ga e).kj) rfl ?_
   refine jo rfl (j1 hcf rfl (hQ Z l[i]) fun v6 w6 H=>⟨(by obtain⟨rfl,g⟩:=H;exact m.gb g),?_⟩)
   obtain⟨rfl,g⟩:=H
   have a:=a.ga g
   have d:=d.gb g
   have m:=m.gb g
   refine jo rfl (j1 call243 rfl (path_calls w6 l[i].path (hlen _ (aG P))) fun v7 w7 I=>⟨(by obtain⟨rfl,rfl⟩:=I;exact m),?_⟩)
   obtain⟨rfl,rfl⟩:=I
   have m:=m
   refine gt gc 2 rfl (Cm 23 rfl (fun J=> ?_) (fun J=> ?_))
   ·have V:¬xw l[i].path:=by simpa using J
    refine gt gc 19 rfl (jg (j5 ?_))
    exact gr (true) rfl ⟨by symm;rw[aU];exact fun h=>V h.1,a,d⟩
   have K:xw l[i].path:=by simpa using J
   refine gt gc 3 rfl (vy 26 rfl (fun J=> ?_) (fun J=> ?_))
   ·refine gt gc 1 rfl ?_
    refine j3 gc rfl rfl (fun w' e=>(n.ga e).cell rfl) ?_
    refine gt gc 1 rfl (j3 gc rfl rfl (fun w' e=>(n.ga e).cell rfl) ?_)
    refine gt gc 2 rfl ?_
    rw[jz _ zo]
    refine qk gc rfl rfl 3 rfl (i-1) zo zo (s+(i-1)*3) rfl (qa gc rfl rfl (fun w' e=>((f (i-1) zo).ga (U.gb e))) rfl ?_)
    refine gt gc 1 rfl (j3 gc rfl rfl (fun w' e=>(n.ga e).cell rfl) ?_)
    refine qa gc rfl rfl (fun w' e=>(F.ga e).kj) rfl ?_
    refine jo rfl (j1 hcf rfl (hQ w7 _) fun v8 w8 L=>⟨(by obtain⟨rfl,j⟩:=L;exact m.gb j),?_⟩)
    obtain⟨rfl,j⟩:=L
    have a:=a.ga j
    have d:=d.gb j
    have m:=m.gb j
    refine jo rfl (j1 hcf rfl (hQ w8 _) fun v9 w9 M=>⟨(by obtain⟨rfl,o⟩:=M;exact m.gb o),?_⟩)
    obtain⟨rfl,o⟩:=M
    have a:=a.ga o
    have d:=d.gb o
    refine gt gc 3 rfl (jg (j5 ?_))
    exact gr (_) rfl ⟨by rw[aH];exact⟨fun W X=>W (X.2 zo),fun W X=>W ⟨K,fun _=>X⟩⟩,a,d⟩
   refine gt gc 16 rfl ?_
   refine jg (j5 ?_)
   exact gr (false) rfl ⟨by symm;rw[aC];exact fun h=>h ⟨K,fun h0=>absurd h0 zo⟩,a,d⟩
  rintro z a3 ⟨rfl,a,d⟩
  refine jl rfl (fun q=> ?_) (fun q=> ?_)
  ·refine gl ?_
   refine gy (vr rfl (gGl (gv rfl rfl ?_)))
   exact⟨congrArg Value.bool (by symm;rw[aC];intro h;have:=h.2 i (by rw[aE];exact P);exact q (by simpa using this)),d⟩
  have Y:=aS.1 q
  have N:∀k (A:k<l.length),k<i+1→xw l[k].path∧(0<k→SLt (ul l[k-1].path) (ul l[k].path)):=fun k A a4=>by
   rcases bF k i with h'|h'
   ·exact B k A h'
   obtain rfl:k=i:=by omega
   exact Y
  refine kc (Aa rfl ?_)
  rw[jz _ zo]
  refine gk ?_
  exact jk (i+1) rfl ⟨⟨by omega,N⟩,a,d⟩ zf
 have O:xx2 (l.map u9.path):=⟨by rw[aE];exact S,fun k A=>by rw[aE] at A;simpa using B k A zo⟩
 refine Ak (jd rfl (j9 (gv rfl rfl ?_)))
 exact⟨congrArg Value.bool (bQ O).symm,d⟩
theorem check_calls (w:World) {p:Option Addr} {c:Nat} {l:List Bj} (h:Sl w p l.length 2 (l.flatMap Bj.cells)) (hl:l.length<1000000000) (hlen:∀r∈l,r.path.length<1000000000):
  gn prog 224 [.agg #[.slice p l.length c]] w fun v w'=>v= .int .i64 (if xw4 l then 0 else 150)∧Ext No w w':=by
 refine gx func224 ?_
 have a:=Ext.refl No w
 refine ko (gw rfl fun q o s b e=> ?_)
 have a:=a.gb e
 have b:gz o q 319 ([.slice p l.length c]):=b
 refine km rfl (ki rfl (j6 b rfl rfl ?_))
 refine gh call237 rfl (yv4 o (h.ga a) hl (fun r=>256<r.text.length) call238 fun w r _=>check1_calls w r) fun x t f=> ?_
 obtain⟨rfl,d⟩:=f
 have b:=b.ga d
 have a:=a.gb d
 refine km rfl (gl (ji (α:=Bool) [] rfl (fun z=>[(14,.bool z)]) (fun z u=>(z=decide (¬xw4 l))∧Ext No w u) ?_ ?_))
 ·refine gy ?_
  refine j0 gc rfl (ja 8 rfl (fun g=> ?_) (fun g=> ?_))
  ·refine gq gc 6 rfl ?_
   refine gk ?_
   exact gr (true) rfl ⟨by symm;rw[aU];exact fun h=>h.1 g,a⟩
  refine gq gc 1 rfl ?_
  refine j6 b rfl rfl (kg rfl zb (l':=[.slice p l.length c,.func (.func 239) #[] #[]]) rfl ?_)
  refine gh call240 rfl (risingRow_calls t (h.ga a) hl hlen call239 rowPath_calls) fun y A i=> ?_
  obtain⟨rfl,j⟩:=i
  have a:=a.gb j
  refine gq gc 2 rfl (gk ?_)
  exact gr (_) rfl ⟨by rw[←decide_not,aH];exact⟨fun k m=>k m.2,fun k m=>k ⟨g,m⟩⟩,a⟩
 rintro z B ⟨rfl,a⟩
 refine jl rfl (fun n=> ?_) (fun n=> ?_)
 ·refine gl ?_
  refine gy (vr rfl (j7 (gv rfl rfl ?_)))
  exact⟨by rw[aP n],a⟩
 refine kc ?_
 refine jp (jd rfl (j9 (gv rfl rfl ?_)))
 exact⟨by rw[aR (aS.1 n)],a⟩
theorem checkEdit_calls (w:World) {p:Option Addr} {c:Nat} {l:List u9} (h:Sl w p l.length 3 (l.flatMap u9.cells)) (hl:l.length<1000000000) (hlen:∀r∈l,r.path.length<1000000000):
  gn prog 214 [.agg #[.slice p l.length c]] w fun v w'=>v= .int .i64 (if zw0 l then 0 else 151)∧Ext No w w':=by
 refine gx func214 ?_
 have a:=Ext.refl No w
 refine ko (gw rfl fun q o s b e=> ?_)
 have a:=a.gb e
 have b:gz o q 34 ([.slice p l.length c]):=b
 refine km rfl (ki rfl (j6 b rfl rfl ?_))
 refine gh call227 rfl (zj8 o (h.ga a) hl xq2 call228 fun w r _=>checkEdit1_calls w r) fun x t f=> ?_
 obtain⟨rfl,d⟩:=f
 have b:=b.ga d
 have a:=a.gb d
 refine km rfl (gl (ji (α:=Bool) [] rfl (fun z=>[(14,.bool z)]) (fun z u=>(z=decide (¬zw0 l))∧Ext No w u) ?_ ?_))
 ·refine gy ?_
  refine j0 gc rfl (ja 8 rfl (fun g=> ?_) (fun g=> ?_))
  ·refine gq gc 6 rfl ?_
   refine gk ?_
   exact gr (true) rfl ⟨by symm;rw[aU];exact fun h=>h.1 g,a⟩
  refine gq gc 1 rfl ?_
  refine j6 b rfl rfl (kg rfl zb (l':=[.slice p l.length c,.func (.func 229) #[] #[]]) rfl ?_)
  refine gh call230 rfl (xw6 t (h.ga a) hl hlen call229 changePath_calls) fun y A i=> ?_
  obtain⟨rfl,j⟩:=i
  have a:=a.gb j
  refine gq gc 2 rfl (gk ?_)
  exact gr (_) rfl ⟨by rw[←decide_not,aH];exact⟨fun k m=>k m.2,fun k m=>k ⟨g,m⟩⟩,a⟩
 rintro z B ⟨rfl,a⟩
 refine jl rfl (fun n=> ?_) (fun n=> ?_)
 ·refine gl ?_
  refine gy (vr rfl (j7 (gv rfl rfl ?_)))
  exact⟨by rw[aP n],a⟩
 refine kc ?_
 refine jp (jd rfl (j9 (gv rfl rfl ?_)))
 exact⟨by rw[aR (aS.1 n)],a⟩
theorem rightEdit5_calls (w:World) {p:Option Addr} {c:Nat} {l:List u9} (h:Sl w p l.length 3 (l.flatMap u9.cells)) (hl:l.length<1000000000) (hlen:∀r∈l,r.path.length<1000000000):
  gn prog 200 [.agg #[.slice p l.length c]] w fun v w'=>v= .bool (decide (zw0 l))∧Ext No w w':=by
 refine gx func200 ?_
 have hX:=Ext.refl No w
 refine ko (gw rfl fun b1 w1 hn1 hb1 hE1=> ?_)
 have hX:=hX.gb hE1
 have hb1:gz w1 b1 34 ([.slice p l.length c]):=hb1
 refine km rfl (gl (jd rfl (j8 ?_)))
 refine jj (α:=Nat) [1] rfl (fun z=>[(3,.int .i64 (z:Int))]) (fun z u=>(z≤l.length∧∀k (hk:k<l.length),k<z→ChgGood l k hk)∧gz u b1 34 ([.slice p l.length c])∧Ext No w u) (fun z u=>l.length-z) (0) rfl ⟨⟨aJ _,fun k _ h=>absurd h (bW _)⟩,hb1,hX⟩ ?_
 rintro i w2 ⟨⟨hi,hok⟩,hb1,hX⟩
 refine gl (ki rfl (j6 hb1 rfl rfl (km rfl (jl rfl (fun hc=> ?_) (fun hc=> ?_)))))
 ·have hi:i<l.length:=by omega
  obtain⟨b,off,rfl,hseg0⟩:=h.qd (fun r _=>r.len) zo
  have hst:(ul l[i].text).size=l[i].text.length:=rfl
  refine Ac (ki rfl (j6 hb1 rfl rfl (j0 gc rfl (ka rfl 3 rfl i rfl zo (off+i*3) rfl (jm rfl ((hseg0 i hi).ga hX) rfl ?_)))))
  refine gw rfl fun b4 w3 hn4 hb4 hE3=> ?_
  have ne1_4:=j2 hb1.lt hn4
  have fr4:=aA hX.size hn4
  have hb1:=hb1.ga hE3
  have hX:=hX.gb hE3
  refine wl (j4 (l':=(l[i]).cells) gc hb4 rfl rfl rfl rfl OneC.h fun w4 hb4 hE4 hs4=> ?_)
  have hb1:=hb1.gj hE4 ne1_4
  have hX:=hX.gi hE4 fr4
  refine qq (ji (α:=Bool) [1,3] rfl (fun z=>[(56,.bool z)]) (fun z u=>(z=decide (¬ChgGood l i hi))∧gz u b1 34 ([.slice (some ⟨b,off,none⟩) l.length c])∧Ext No w u) ?_ ?_)
  ·refine jr rfl 40 [qP 0,qP 1,qP 2,qP 3,qP 4,(5,false),qP 6,qP 7,qP 8,qP 9,qP 10,qP 11,qP 12,qP 13,qP 14,qP 15,qP 16,qP 17,qP 18,qP 19,qP 20,qP 21,qP 22,qP 23,qP 24,qP 25,qP 26,qP 27,qP 28,qP 29,qP 30,qP 31,qP 32,qP 33,qP 34,qP 35,qP 36,qP 37,qP 38,qP 39] [] (No) zk fun w5 hE5 hs5=> ?_
   have hd1:=hb1
   have hd4:=hb4
   have hXd:=hX
   have hb1:=hb1.ga hE5
   have hX:=hX.gb hE5
   have hC:Ext (No) _ w5:=hE5.no
   refine gt gc 3 rfl (vy 19 rfl (fun hg=> ?_) (fun hg=> ?_))
   ·refine gt gc 37 rfl ?_
    refine jg (j5 ?_)
    exact gr (true) rfl ⟨by symm;rw[aU];exact fun h=>h.1 zo,hb1,hX⟩
   refine gt gc 1 rfl ?_
   refine j3 gc rfl rfl (fun w' hw'=>(hd4.ga hw').cell rfl) ?_
   refine jo rfl (j1 call218 rfl (path5_calls w5 l[i].path (hlen _ (aG hi))) fun v6 w6 hr6=>⟨(by obtain⟨rfl,rfl⟩:=hr6;exact hC),?_⟩)
   obtain⟨rfl,rfl⟩:=hr6
   refine gt gc 3 rfl (Cm 25 rfl (fun hg=> ?_) (fun hg=> ?_))
   ·have hnp:¬xw l[i].path:=by simpa using hg
    refine gt gc 31 rfl (jg (j5 ?_))
    exact gr (true) rfl ⟨by symm;rw[aU];exact fun h=>hnp h.2.1,hb1,hX⟩
   have hip:xw l[i].path:=by simpa using hg
   refine gt gc 1 rfl (j3 gc rfl rfl (fun w' hw'=>(hd4.ga hw').cell rfl) ?_)
   refine gt gc 4 rfl (vy 31 rfl (fun hg=> ?_) (fun hg=> ?_))
   ·refine gt gc 25 rfl ?_
    refine jg (j5 ?_)
    exact gr (true) rfl ⟨by symm;rw[aU];exact fun h=>h.2.2.1 (.inl zo),hb1,hX⟩
   refine gt gc 1 rfl ?_
   refine j3 gc rfl rfl (fun w' hw'=>(hd4.ga hw').cell rfl) ?_
   refine gt gc 2 rfl (Cm 35 rfl (fun hg=> ?_) (fun hg=> ?_))
   ·have his:l[i].is=false:=(by simpa using hg)
    refine gt gc 1 rfl (j3 gc rfl rfl (fun w' hw'=>(hd4.ga hw').cell rfl) ?_)
    refine gt gc 4 rfl (vy 41 rfl (fun hg=> ?_) (fun hg=> ?_))
    ·have htx:=(chg_nil _).1 hg
     refine gt gc 15 rfl (jg (j5 ?_))
     exact gr (true) rfl ⟨by symm;rw[aU];exact fun h=>h.2.2.1 (.inr ⟨his,htx⟩),hb1,hX⟩
    have htx:¬l[i].text≠[]:=fun h=>hg ((chg_nil _).2 h)
    have hnb:¬xq2 l[i]:=fun h=>h.elim (fun h=>absurd h zo) fun h=>htx h.2
    refine gt gc 3 rfl (vy 44 rfl (fun hg=> ?_) (fun hg=> ?_))
    ·refine gt gc 1 rfl ?_
     refine j3 gc rfl rfl (fun w' hw'=>(hd4.ga hw').cell rfl) ?_
     refine gt gc 1 rfl (j3 gc rfl rfl (fun w' hw'=>(hd1.ga hw').cell rfl) ?_)
     refine gt gc 2 rfl ?_
     rw[jz _ zo]
     refine qk gc rfl rfl 3 rfl (i-1) zo zo (off+(i-1)*3) rfl (gt gc 1 rfl (j3 gc rfl rfl (fun w' hw'=>(((hseg0 (i-1) zo).ga (hXd.gb hw')) 0 _ rfl)) ?_))
     refine gt gc 3 rfl (jg (j5 ?_))
     exact gr (_) rfl ⟨by rw[aH];exact⟨fun h1 h2=>(slt_flip _ _).2 (h2.2.2.2 zo) (h1.imp id fun e=>e),fun h1=>aS.1 fun h2=>h1 ⟨by omega,hip,hnb,fun _=>(slt_flip _ _).1 h2⟩⟩,hb1,hX⟩
    refine gt gc 12 rfl ?_
    refine jg (j5 ?_)
    exact gr (false) rfl ⟨by symm;rw[aC];exact fun h=>h ⟨by omega,hip,hnb,fun h0=>absurd h0 zo⟩,hb1,hX⟩
   have his:l[i].is=true:=(by simpa using hg)
   have hnb:¬xq2 l[i]:=fun h=>h.elim (fun h=>absurd h zo) fun h=>absurd (his.symm.trans h.1) zd
   refine gt gc 9 rfl (vy 44 rfl (fun hg=> ?_) (fun hg=> ?_))
   ·refine gt gc 1 rfl ?_
    refine j3 gc rfl rfl (fun w' hw'=>(hd4.ga hw').cell rfl) ?_
    refine gt gc 1 rfl (j3 gc rfl rfl (fun w' hw'=>(hd1.ga hw').cell rfl) ?_)
    refine gt gc 2 rfl ?_
    rw[jz _ zo]
    refine qk gc rfl rfl 3 rfl (i-1) zo zo (off+(i-1)*3) rfl (gt gc 1 rfl (j3 gc rfl rfl (fun w' hw'=>(((hseg0 (i-1) zo).ga (hXd.gb hw')) 0 _ rfl)) ?_))
    refine gt gc 3 rfl (jg (j5 ?_))
    exact gr (_) rfl ⟨by rw[aH];exact⟨fun h1 h2=>(slt_flip _ _).2 (h2.2.2.2 zo) (h1.imp id fun e=>e),fun h1=>aS.1 fun h2=>h1 ⟨by omega,hip,hnb,fun _=>(slt_flip _ _).1 h2⟩⟩,hb1,hX⟩
   refine gt gc 12 rfl ?_
   refine jg (j5 ?_)
   exact gr (false) rfl ⟨by symm;rw[aC];exact fun h=>h ⟨by omega,hip,hnb,fun h0=>absurd h0 zo⟩,hb1,hX⟩
  rintro z w7 ⟨rfl,hb1,hX⟩
  refine jl rfl (fun hc=> ?_) (fun hc=> ?_)
  ·refine gl ?_
   refine gy (vr rfl (gGl (gv rfl rfl ?_)))
   exact⟨congrArg Value.bool (by symm;rw[aC];exact fun h=>hc (editOk_iff.1 h i hi)),hX⟩
  have hgi:=aS.1 hc
  refine kc (Aa rfl ?_)
  rw[jz _ zo]
  refine gk ?_
  exact jk (i+1) rfl ⟨⟨by omega,fun k hk hlt=>(by rcases bF k i with h0|h0;exact hok k hk h0;(have e:k=i:=zo);subst e;exact hgi)⟩,hb1,hX⟩ zf
 have hall:zw0 l:=editOk_iff.2 fun k hk=>hok k hk zo
 refine Ak (jd rfl (j9 (gv rfl rfl ?_)))
 exact⟨congrArg Value.bool (bQ hall).symm,hX⟩
end Go.Proofs.YtpdiphfjmepijaaGreatDoor
