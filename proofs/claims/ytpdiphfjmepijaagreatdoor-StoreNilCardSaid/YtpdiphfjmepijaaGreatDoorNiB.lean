/-
  Walks and laws towards: without a disk there is no store (StoreNil)
-/
import Derived.IntWalk
import Derived.DeepKeys
import Derived.Test.YtpdiphfjmepijaaGreatDoorNiA
namespace Go.Vc
section
variable {P:Program} {I:qr} {f:Fs} {ops:Array Oper} {o:Oper} {env:Env} {w:World} {K:Env→World→Prop}
end
abbrev Aa (b:UInt8):Value:= .int .u8 (b.toNat:Int)
def ge (l:List UInt8):List Value:=l.map Aa
theorem gm (l:List UInt8):(ge l).length=l.length:=by simp[ge]
instance (l:List UInt8):OneC (ge l):=⟨fun u hu=>by obtain⟨x,_,rfl⟩:=List.mem_map.1 hu;rfl⟩
theorem jy (a b:List UInt8):ge (a++b)=ge a++ge b:=by simp[ge]
theorem ui (l:List UInt8) (n:Nat):(ge l).take n=ge (l.take n):=by simp[ge]
theorem ue (l:List UInt8) (n:Nat):(ge l).drop n=ge (l.drop n):=by simp[ge]
theorem bytesU_get (l:List UInt8) {i:Nat} (h:i<l.length):(ge l)[i]? =some (Aa l[i]):=by simp[ge,h]
theorem bytesU_inj {a b:List UInt8} (h:ge a=ge b):a=b:=by
 refine(List.map_inj_right (f:=Aa) fun x y e=> ?_).1 h
 simp only[Aa,Value.int.injEq,true_and] at e
 exact UInt8.toNat_inj.1 zo
abbrev x3 (w:World) (p:Option Addr) (l:List UInt8):Prop:=Sl w p l.length 1 (ge l)
def be:Nat→Nat→List UInt8
  |0,_=>[]
  |n+1,x=>be n (x/256)++[UInt8.ofNat x]
theorem jw (n x:Nat):(be n x).length=n:=by
 induction n generalizing x with
 |zero=>rfl
 |succ n ih=>simp[be,ih]
theorem x9 (x:Nat):IntKind.u8.wrap (x:Int)=((UInt8.ofNat x).toNat:Int):=by
 rw[IntKind.wrap_u8,UInt8.toNat_ofNat']
 omega
theorem shr4 (x:Nat):Int.fdiv (x:Int) (2^4)=((x/16:Nat):Int):=by
 rw[Int.fdiv_eq_ediv_of_nonneg _ zd]
 rfl
theorem fill_byte (l t:List UInt8) (k:Nat) (b:UInt8):(ge (l++(List.replicate (k+1) 0++t))).set (l.length+k) (Aa b)=ge (l++(List.replicate k 0++(b::t))):=by
 rw[ge,←List.map_set,List.set_append_right _ _ zo,Nat.add_sub_cancel_left,List.replicate_succ',List.append_assoc,List.set_append_right _ _ zp]
 simp[ge]
theorem zz1 (n:Nat):Bw n [Value.int .u8 0]=ge (List.replicate n 0):=by
 rw[rep_one]
 simp[ge,Aa]
def num (l:List UInt8):Nat:=l.foldl (fun x b=>x*256+b.toNat) 0
theorem num_snoc (l:List UInt8) (b:UInt8):num (l++[b])=num l*256+b.toNat:=by simp[num]
theorem num_take (l:List UInt8) {i:Nat} (h:i<l.length):num (l.take (i+1))=num (l.take i)*256+(l[i]).toNat:=by
 rw[List.take_succ_eq_append_getElem h,num_snoc]
theorem x3.at {w:World} {p:Option Addr} {l:List UInt8} (h:x3 w p l) {i:Nat} (hi:i<l.length):∃b off,p=some ⟨b,off,none⟩∧w.cell? ⟨b,off+i*1,none⟩=some (Aa l[i]):=by
 obtain⟨_,d|⟨b,off,a,c⟩⟩:=h
 ·omega
 exact⟨b,off,a,by rw[Nat.mul_one];exact c i _ (bytesU_get l hi)⟩
theorem vl (l:List UInt8):num l<256^l.length:=by
 have:∀(l:List UInt8),num l<256^l.length:=by
  intro l
  generalize hn:l.length=n
  induction n generalizing l with
  |zero=>
   have:l=[]:=List.eq_nil_of_length_eq_zero hn
   subst this;simp[num]
  |succ n ih=>
   have a:l≠[]:=fun e=>by subst e;simp at hn
   obtain⟨b,c⟩:∃b,l=l.dropLast++[b]:=⟨l.getLast a,(List.dropLast_concat_getLast a).symm⟩
   rw[c,num_snoc]
   have d:=ih l.dropLast (by simp[hn])
   have f:=b.toNat_lt
   rw[Nat.pow_succ]
   omega
 exact this l
theorem num_go (l:List UInt8) (x:Nat):l.foldl (fun x b=>x*256+b.toNat) x=x*256^l.length+num l:=by
 induction l generalizing x with
 |nil=>simp[num]
 |cons b r ih=>
  have e:num (b::r)=(0*256+b.toNat)*256^r.length+num r:=ih _
  rw[List.foldl_cons,ih,e,List.length_cons,Nat.pow_succ,Nat.add_mul,Nat.zero_mul,Nat.zero_add,Nat.add_assoc,Nat.mul_assoc,Nat.mul_comm 256]
theorem num_cons (b:UInt8) (l:List UInt8):num (b::l)=b.toNat*256^l.length+num l:=by
 have e:num (b::l)=(0*256+b.toNat)*256^l.length+num l:=num_go l _
 rw[e,Nat.zero_mul,Nat.zero_add]
theorem num_drop (l:List UInt8) {i:Nat} (h:i<l.length):num (l.drop i)=(l[i]).toNat*256^(l.length-(i+1))+num (l.drop (i+1)):=by
 rw[List.drop_eq_getElem_cons h,num_cons,List.length_drop]
end Go.Vc
namespace Go.Proofs.YtpdiphfjmepijaaGreatDoor
open Tryz
open Go.Vc
theorem lies16_calls (w:World) {p:Option Addr} {c:Nat} {l:List UInt8} (h:x3 w p l) (hl:l.length<1000000000) (x n:Nat) (hn:n<100) (hx:x<2^16):
  gp prog 158 [.slice p l.length c,.int .u16 (x:Int),.int .i64 (n:Int)] w fun v w'=>∃b,v= .slice (some ⟨b,0,none⟩) (l.length+n) (l.length+n)∧w.heap.size≤b∧gz w' b 5 (ge (l++be n x))∧Ext No w w':=by
 refine gh func158 rfl rfl rfl rfl ?_
 have d:=Ext.refl No w
 refine jc rfl (km rfl ?_)
 rw[IntWalk.i64_in _ zo]
 refine wl (Cg gc rfl (l.length+n) (l.length+n) 1 rfl rfl rfl zd zo zo (Nat.le_refl _) zo zr fun f B m a o C=> ?_)
 have g:=Nat.le_trans d.size m
 have d:=d.gb o
 have a:gz B f 5 (ge (List.replicate (l.length+n) 0)):=by(have e:Bw (l.length+n) (cellsOf ti5.zero)=ge (List.replicate (l.length+n) 0):=zz1 _);rw[←e];exact a
 refine ju rfl (km rfl (wl (zz7 gc rfl 1 rfl a (Src.slice (h.ga d) OneC.h) zn (by rw[gm,List.length_replicate];dsimp only;omega) fun D q r E=> ?_)))
 have a:gz D f 5 (ge (l++(List.replicate n 0++[]))):=by
  have e:Vc.put (ge (List.replicate (l.length+n) 0)) 0 (ge l)=ge (l++(List.replicate n 0++[])):=by
   rw[put_eq _ _ _ (by simp[gm])]
   rw[ue]
   simp[jy,gm]
  rw[←e];exact q
 have d:=d.gj r g
 refine ju rfl (gl (jc rfl (gu ?_)))
 refine jn (α:=Nat×Nat×List UInt8) [7,8] rfl (fun z=>[(1,.int .u16 (z.2.1:Int)),(9,.int .i64 ((l.length+z.1:Nat):Int))]) (fun z u=>(z.1≤n∧z.2.1<2^16∧be n x=be z.1 z.2.1++z.2.2∧gz u f 5 (ge (l++(List.replicate z.1 0++z.2.2))))∧Ext No w u) (fun z u=>z.1) (n,x,[]) rfl ⟨⟨Nat.le_refl _,hx,by simp,a⟩,d⟩ ?_
 rintro⟨j,y,t⟩ K ⟨⟨F,G,k,a⟩,d⟩
 try dsimp only
 dsimp only at F G k a
 refine gl (jc rfl (jp rfl (fun H=> ?_) (fun H=> ?_)))
 ·obtain⟨i,rfl⟩:∃i,j=i+1:=⟨j-1,by omega⟩
  refine j6 (gy (gu (km rfl ?_)))
  rw[IntWalk.i64_in _ zo]
  refine ql (km rfl ?_)
  rw[show(((l.length+(i+1):Nat):Int)-1)=((l.length+i:Nat):Int) from by omega]
  rw[x9]
  refine ka rfl 1 rfl (l.length+i) rfl zo (0+(l.length+i)*1) rfl (wl (qz gc a rfl rfl (by rw[gm];simp;omega) fun I a s J=> ?_))
  have d:=d.gj s g
  have a:gz I f 5 (ge (l++(List.replicate i 0++(UInt8.ofNat y::t)))):=by
   rw[Nat.zero_add,Nat.mul_one,fill_byte] at a
   exact a
  refine ql (jc rfl (yu rfl ?_))
  rw[show Int.fdiv (Int.fdiv (y:Int) (2^min (4:Int).toNat IntKind.u16.bits)) (2^min (4:Int).toNat IntKind.u16.bits)=((y/16/16:Nat):Int) from by rw[show(2:Int)^min (4:Int).toNat IntKind.u16.bits=2^4 from rfl,shr4,shr4]]
  refine gn ?_
  exact jz (jm (i,y/16/16,UInt8.ofNat y::t) rfl ⟨⟨by dsimp only;omega,by dsimp only;omega,by dsimp only;rw[k,be,Nat.div_div_eq_div_mul];simp,a⟩,d⟩ zf)
 have A:j=0:=by omega
 subst A
 have k:be n x=t:=by rw[k];rfl
 rw[List.replicate_zero,List.nil_append,←k] at a
 refine Bg (jc rfl (gr (gv rfl rfl ?_)))
 exact⟨f,rfl,g,a,d⟩
theorem C3 (w:World) {p:Option Addr} {c:Nat} {l:List UInt8} (h:x3 w p l) (hl:l.length<1000000000) (x:Nat) (hx:x<2^16):
  gp prog 91 [.slice p l.length c,.int .u16 (x:Int)] w fun v w'=>∃b,v= .slice (some ⟨b,0,none⟩) (l++be 2 x).length (l++be 2 x).length∧w.heap.size≤b∧gz w' b 5 (ge (l++be 2 x))∧Ext No w w':=by
 refine gh func91 rfl rfl rfl rfl ?_
 have a:=Ext.refl No w
 refine jc rfl (km rfl ?_)
 have d:=a
 refine gi call158 rfl (lies16_calls w (h.ga a) hl x 2 zd hx) fun j k e=> ?_
 obtain⟨b,rfl,g,i,f⟩:=e
 have a:=a.gb f
 refine ju rfl (gr (gv rfl rfl ?_))
 exact⟨b,by simp[jw],Nat.le_trans d.size g,i,a⟩
theorem lies32_calls (w:World) {p:Option Addr} {c:Nat} {l:List UInt8} (h:x3 w p l) (hl:l.length<1000000000) (x n:Nat) (hn:n<100) (hx:x<2^32):
  gp prog 206 [.slice p l.length c,.int .u32 (x:Int),.int .i64 (n:Int)] w fun v w'=>∃b,v= .slice (some ⟨b,0,none⟩) (l.length+n) (l.length+n)∧w.heap.size≤b∧gz w' b 5 (ge (l++be n x))∧Ext No w w':=by
 refine gh func206 rfl rfl rfl rfl ?_
 have d:=Ext.refl No w
 refine jc rfl (km rfl ?_)
 rw[IntWalk.i64_in _ zo]
 refine wl (Cg gc rfl (l.length+n) (l.length+n) 1 rfl rfl rfl zd zo zo (Nat.le_refl _) zo zr fun f B m a o C=> ?_)
 have g:=Nat.le_trans d.size m
 have d:=d.gb o
 have a:gz B f 5 (ge (List.replicate (l.length+n) 0)):=by(have e:Bw (l.length+n) (cellsOf ti5.zero)=ge (List.replicate (l.length+n) 0):=zz1 _);rw[←e];exact a
 refine ju rfl (km rfl (wl (zz7 gc rfl 1 rfl a (Src.slice (h.ga d) OneC.h) zn (by rw[gm,List.length_replicate];dsimp only;omega) fun D q r E=> ?_)))
 have a:gz D f 5 (ge (l++(List.replicate n 0++[]))):=by
  have e:Vc.put (ge (List.replicate (l.length+n) 0)) 0 (ge l)=ge (l++(List.replicate n 0++[])):=by
   rw[put_eq _ _ _ (by simp[gm])]
   rw[ue]
   simp[jy,gm]
  rw[←e];exact q
 have d:=d.gj r g
 refine ju rfl (gl (jc rfl (gu ?_)))
 refine jn (α:=Nat×Nat×List UInt8) [7,8] rfl (fun z=>[(1,.int .u32 (z.2.1:Int)),(9,.int .i64 ((l.length+z.1:Nat):Int))]) (fun z u=>(z.1≤n∧z.2.1<2^32∧be n x=be z.1 z.2.1++z.2.2∧gz u f 5 (ge (l++(List.replicate z.1 0++z.2.2))))∧Ext No w u) (fun z u=>z.1) (n,x,[]) rfl ⟨⟨Nat.le_refl _,hx,by simp,a⟩,d⟩ ?_
 rintro⟨j,y,t⟩ K ⟨⟨F,G,k,a⟩,d⟩
 try dsimp only
 dsimp only at F G k a
 refine gl (jc rfl (jp rfl (fun H=> ?_) (fun H=> ?_)))
 ·obtain⟨i,rfl⟩:∃i,j=i+1:=⟨j-1,by omega⟩
  refine j6 (gy (gu (km rfl ?_)))
  rw[IntWalk.i64_in _ zo]
  refine ql (km rfl ?_)
  rw[show(((l.length+(i+1):Nat):Int)-1)=((l.length+i:Nat):Int) from by omega]
  rw[x9]
  refine ka rfl 1 rfl (l.length+i) rfl zo (0+(l.length+i)*1) rfl (wl (qz gc a rfl rfl (by rw[gm];simp;omega) fun I a s J=> ?_))
  have d:=d.gj s g
  have a:gz I f 5 (ge (l++(List.replicate i 0++(UInt8.ofNat y::t)))):=by
   rw[Nat.zero_add,Nat.mul_one,fill_byte] at a
   exact a
  refine ql (jc rfl (yu rfl ?_))
  rw[show Int.fdiv (Int.fdiv (y:Int) (2^min (4:Int).toNat IntKind.u32.bits)) (2^min (4:Int).toNat IntKind.u32.bits)=((y/16/16:Nat):Int) from by rw[show(2:Int)^min (4:Int).toNat IntKind.u32.bits=2^4 from rfl,shr4,shr4]]
  refine gn ?_
  exact jz (jm (i,y/16/16,UInt8.ofNat y::t) rfl ⟨⟨by dsimp only;omega,by dsimp only;omega,by dsimp only;rw[k,be,Nat.div_div_eq_div_mul];simp,a⟩,d⟩ zf)
 have A:j=0:=by omega
 subst A
 have k:be n x=t:=by rw[k];rfl
 rw[List.replicate_zero,List.nil_append,←k] at a
 refine Bg (jc rfl (gr (gv rfl rfl ?_)))
 exact⟨f,rfl,g,a,d⟩
theorem yh (w:World) {p:Option Addr} {c:Nat} {l:List UInt8} (h:x3 w p l) (hl:l.length<1000000000) (x:Nat) (hx:x<2^32):
  gp prog 179 [.slice p l.length c,.int .u32 (x:Int)] w fun v w'=>∃b,v= .slice (some ⟨b,0,none⟩) (l++be 4 x).length (l++be 4 x).length∧w.heap.size≤b∧gz w' b 5 (ge (l++be 4 x))∧Ext No w w':=by
 refine gh func179 rfl rfl rfl rfl ?_
 have a:=Ext.refl No w
 refine jc rfl (km rfl ?_)
 have d:=a
 refine gi call206 rfl (lies32_calls w (h.ga a) hl x 4 zd hx) fun j k e=> ?_
 obtain⟨b,rfl,g,i,f⟩:=e
 have a:=a.gb f
 refine ju rfl (gr (gv rfl rfl ?_))
 exact⟨b,by simp[jw],Nat.le_trans d.size g,i,a⟩
theorem lies64_calls (w:World) {p:Option Addr} {c:Nat} {l:List UInt8} (h:x3 w p l) (hl:l.length<1000000000) (x n:Nat) (hn:n<100) (hx:x<2^64):
  gp prog 233 [.slice p l.length c,.int .u64 (x:Int),.int .i64 (n:Int)] w fun v w'=>∃b,v= .slice (some ⟨b,0,none⟩) (l.length+n) (l.length+n)∧w.heap.size≤b∧gz w' b 5 (ge (l++be n x))∧Ext No w w':=by
 refine gh func233 rfl rfl rfl rfl ?_
 have d:=Ext.refl No w
 refine jc rfl (km rfl ?_)
 rw[IntWalk.i64_in _ zo]
 refine wl (Cg gc rfl (l.length+n) (l.length+n) 1 rfl rfl rfl zd zo zo (Nat.le_refl _) zo zr fun f B m a o C=> ?_)
 have g:=Nat.le_trans d.size m
 have d:=d.gb o
 have a:gz B f 5 (ge (List.replicate (l.length+n) 0)):=by(have e:Bw (l.length+n) (cellsOf ti5.zero)=ge (List.replicate (l.length+n) 0):=zz1 _);rw[←e];exact a
 refine ju rfl (km rfl (wl (zz7 gc rfl 1 rfl a (Src.slice (h.ga d) OneC.h) zn (by rw[gm,List.length_replicate];dsimp only;omega) fun D q r E=> ?_)))
 have a:gz D f 5 (ge (l++(List.replicate n 0++[]))):=by
  have e:Vc.put (ge (List.replicate (l.length+n) 0)) 0 (ge l)=ge (l++(List.replicate n 0++[])):=by
   rw[put_eq _ _ _ (by simp[gm])]
   rw[ue]
   simp[jy,gm]
  rw[←e];exact q
 have d:=d.gj r g
 refine ju rfl (gl (jc rfl (gu ?_)))
 refine jn (α:=Nat×Nat×List UInt8) [7,8] rfl (fun z=>[(1,.int .u64 (z.2.1:Int)),(9,.int .i64 ((l.length+z.1:Nat):Int))]) (fun z u=>(z.1≤n∧z.2.1<2^64∧be n x=be z.1 z.2.1++z.2.2∧gz u f 5 (ge (l++(List.replicate z.1 0++z.2.2))))∧Ext No w u) (fun z u=>z.1) (n,x,[]) rfl ⟨⟨Nat.le_refl _,hx,by simp,a⟩,d⟩ ?_
 rintro⟨j,y,t⟩ K ⟨⟨F,G,k,a⟩,d⟩
 try dsimp only
 dsimp only at F G k a
 refine gl (jc rfl (jp rfl (fun H=> ?_) (fun H=> ?_)))
 ·obtain⟨i,rfl⟩:∃i,j=i+1:=⟨j-1,by omega⟩
  refine j6 (gy (gu (km rfl ?_)))
  rw[IntWalk.i64_in _ zo]
  refine ql (km rfl ?_)
  rw[show(((l.length+(i+1):Nat):Int)-1)=((l.length+i:Nat):Int) from by omega]
  rw[x9]
  refine ka rfl 1 rfl (l.length+i) rfl zo (0+(l.length+i)*1) rfl (wl (qz gc a rfl rfl (by rw[gm];simp;omega) fun I a s J=> ?_))
  have d:=d.gj s g
  have a:gz I f 5 (ge (l++(List.replicate i 0++(UInt8.ofNat y::t)))):=by
   rw[Nat.zero_add,Nat.mul_one,fill_byte] at a
   exact a
  refine ql (jc rfl (yu rfl ?_))
  rw[show Int.fdiv (Int.fdiv (y:Int) (2^min (4:Int).toNat IntKind.u64.bits)) (2^min (4:Int).toNat IntKind.u64.bits)=((y/16/16:Nat):Int) from by rw[show(2:Int)^min (4:Int).toNat IntKind.u64.bits=2^4 from rfl,shr4,shr4]]
  refine gn ?_
  exact jz (jm (i,y/16/16,UInt8.ofNat y::t) rfl ⟨⟨by dsimp only;omega,by dsimp only;omega,by dsimp only;rw[k,be,Nat.div_div_eq_div_mul];simp,a⟩,d⟩ zf)
 have A:j=0:=by omega
 subst A
 have k:be n x=t:=by rw[k];rfl
 rw[List.replicate_zero,List.nil_append,←k] at a
 refine Bg (jc rfl (gr (gv rfl rfl ?_)))
 exact⟨f,rfl,g,a,d⟩
theorem put64_calls (w:World) {p:Option Addr} {c:Nat} {l:List UInt8} (h:x3 w p l) (hl:l.length<1000000000) (x:Nat) (hx:x<2^64):
  gp prog 222 [.slice p l.length c,.int .u64 (x:Int)] w fun v w'=>∃b,v= .slice (some ⟨b,0,none⟩) (l++be 8 x).length (l++be 8 x).length∧w.heap.size≤b∧gz w' b 5 (ge (l++be 8 x))∧Ext No w w':=by
 refine gh func222 rfl rfl rfl rfl ?_
 have a:=Ext.refl No w
 refine jc rfl (km rfl ?_)
 have d:=a
 refine gi call233 rfl (lies64_calls w (h.ga a) hl x 8 zd hx) fun j k e=> ?_
 obtain⟨b,rfl,g,i,f⟩:=e
 have a:=a.gb f
 refine ju rfl (gr (gv rfl rfl ?_))
 exact⟨b,by simp[jw],Nat.le_trans d.size g,i,a⟩
def TyU (w:World) (p:Option Addr):Prop:=∀a,p=some a→∃L,gz w a.block 5 L
theorem TyU.ext {S:Nat→Prop} {w w':World} {p:Option Addr} (h:TyU w p) (hE:Ext S w w') (hS:∀b L,gz w b 5 L→¬S b):TyU w' p:=fun a ha=>by
 obtain⟨L,hL⟩:=h a ha
 exact⟨L,hL.ext hE (hS _ L hL)⟩
theorem TyU.nil (w:World):TyU w none:=fun _ h=>by cases h
theorem TyU.of {w:World} {b:Nat} {L:List Value} (h:gz w b 5 L) (o:Nat) (e:Option Nat):TyU w (some ⟨b,o,e⟩):=fun a ha=>by cases ha;exact⟨L,h⟩
theorem TyU.sub {w:World} {p:Option Addr} (h:TyU w p) (l m sz:Nat):TyU w (u1 p l m sz):=fun a ha=>by
 unfold u1 at ha
 split at ha
 ·exact h a ha
 cases p with
 |none=>cases ha
 |some a0=>
  have h0:=h a0 rfl
  simp only[Option.map_some,Option.some.injEq,Addr.add] at ha
  subst ha
  obtain⟨L,hL⟩:=h0
  refine⟨L,?_⟩
  split<;>exact hL
theorem x3.k8 {S:Nat→Prop} {w w':World} {p:Option Addr} {l:List UInt8} (h:x3 w p l) (ht:TyU w p) (hE:Ext S w w') (hS:∀b L,gz w b 5 L→¬S b):x3 w' p l:=
 h.ext hE fun b off hb=>by obtain⟨L,hL⟩:=ht _ hb;exact hS b L hL
def Rd (w:World) (rb:Nat) (l:List UInt8) (e:Int):Prop:=
  ∃p c,gz w rb 264 [.slice p l.length c,.int .i64 e]∧l.length≤c∧x3 w p l∧TyU w p
theorem Rd.ext {S:Nat→Prop} {w w':World} {rb:Nat} {l:List UInt8} {e:Int} (h:Rd w rb l e) (hE:Ext S w w') (h1:¬S rb) (h2:∀b L,gz w b 5 L→¬S b):Rd w' rb l e:=by
 obtain⟨p,c,hb,hc,hs,ht⟩:=h
 exact⟨p,c,hb.ext hE h1,hc,x3.k8 hs ht hE h2,ht.ext hE h2⟩
theorem Rd.ga {w w':World} {rb:Nat} {l:List UInt8} {e:Int} (h:Rd w rb l e) (hE:Ext No w w'):Rd w' rb l e:=h.ext hE id fun _ _ _=>id
theorem Rd.lt {w:World} {rb:Nat} {l:List UInt8} {e:Int} (h:Rd w rb l e):rb<w.heap.size:=by obtain⟨_,_,hb,_⟩:=h;exact hb.lt
theorem Rd.ne {w:World} {rb:Nat} {l:List UInt8} {e:Int} (h:Rd w rb l e) {b T:Nat} {L:List Value} (hb:gz w b T L) (hT:264≠T):rb≠b:=by obtain⟨_,_,h,_⟩:=h;exact h.ne hb hT
def uy (l:List UInt8) (e n:Int):List UInt8×List UInt8×Int:=
  if e≠0 then([],l,e) else if n<0 then([],l,2) else if(l.length:Int)<n then([],l,7) else(l.take n.toNat,l.drop n.toNat,0)
theorem xj4 (l:List UInt8) (e n:Int):(uy l e n).1.length≤n.toNat∧(uy l e n).2.1.length≤l.length∧(uy l e n).1.length≤l.length:=by
 unfold uy
 repeat' split
 all_goals simp
 all_goals omega
theorem Cm (w:World) {p:Option Addr} {c:Nat} {l:List UInt8} (h:x3 w p l) (hl:l.length<1000000000):
  gp prog 101 [.slice p l.length c] w fun v w'=>∃rb,v= .pointer (some ⟨rb,0,none⟩)∧w.heap.size≤rb∧Rd w' rb l 0∧Ext No w w':=by
 refine gh func101 rfl rfl rfl rfl ?_
 have d:=Ext.refl No w
 refine jc rfl (km rfl ?_)
 refine wl (Cg gc rfl l.length l.length 1 rfl rfl rfl zd rfl rfl (Nat.le_refl _) zo zr fun f s m a n t=> ?_)
 have o:=Nat.le_trans d.size m
 have d:=d.gb n
 have a:gz s f 5 (ge (List.replicate l.length 0)):=by(have e:Bw l.length (cellsOf ti5.zero)=ge (List.replicate l.length 0):=zz1 _);rw[←e];exact a
 refine ju rfl (km rfl (wl (zz7 gc rfl 1 rfl a (Src.slice (h.ga d) OneC.h) (Nat.le_refl _) (by rw[gm,List.length_replicate];dsimp only;omega) fun u q r x=> ?_)))
 have a:gz u f 5 (ge l):=by
  have e:Vc.put (ge (List.replicate l.length 0)) 0 (ge l)=ge l:=A7 (by simp[gm])
  rw[←e];exact q
 have d:=d.gj r o
 refine ql (km rfl (qa rfl ⟨⟨rfl,by decide⟩,trivial⟩ (l':=[.slice (some ⟨f,0,none⟩) l.length l.length,.int .i64 0]) rfl ?_))
 refine qa rfl ⟨⟨rfl,by decide⟩,trivial⟩ (l':=[.slice (some ⟨f,0,none⟩) l.length l.length,.int .i64 0]) rfl (gw rfl fun g y i b j=> ?_)
 have k:=Nat.le_trans d.size i
 have d:=d.gb j
 have b:gz y g 264 ([.slice (some ⟨f,0,none⟩) l.length l.length,.int .i64 0]):=b
 have a:=a.ga j
 refine ju rfl (gr (gv rfl rfl ?_))
 exact⟨g,rfl,k,⟨_,_,b,Nat.le_refl _,⟨by simp[gm],.inr ⟨f,0,rfl,a.ki⟩⟩,TyU.of a _ _⟩,d⟩
theorem yv0 (w:World) {rb:Nat} {l:List UInt8} {e:Int} (h:Rd w rb l e) (_hl:l.length<1000000000) (n:Int):
  gp prog 162 [.pointer (some ⟨rb,0,none⟩),.int .i64 n] w fun v w'=>∃q c',v= .slice q (uy l e n).1.length c'∧x3 w' q (uy l e n).1∧TyU w' q∧Rd w' rb (uy l e n).2.1 (uy l e n).2.2∧Ext (One rb) w w':=by
 have O:=h
 obtain⟨p,c,a,g,E,r⟩:=h
 have f:∀(F:World) (b:Nat) (L:List Value),gz w b 5 L→¬One rb b:=fun _ b L P e=>P.ne a zd e
 refine gh func162 rfl rfl rfl rfl ?_
 have T:=Ext.refl (One rb) w
 refine jc rfl (gl (jv (α:=Bool) [0,1] rfl (fun z=>[(15,.bool z)]) (fun z u=>u=w∧z=decide (e≠0)) ?_ ?_))
 ·refine j1 ?_
  refine j7 gc rfl (ua 8 rfl (fun M=> ?_) (fun M=> ?_))
  ·cases M
  refine j3 gc 4 rfl ?_
  refine j0 rfl (a.cell rfl) (j3 gc 2 rfl (gn ?_))
  exact j4 (_) rfl ⟨rfl,rfl⟩
 rintro z U ⟨H,rfl⟩
 have H:=H.symm
 subst H
 refine jp rfl (fun i=> ?_) (fun i=> ?_)
 ·have s:uy l e n=([],l,e):=if_pos i
  rw[s]
  refine jc rfl (gr (gq (gv rfl rfl ?_)))
  exact⟨none,0,rfl,Sl.nil _ _ _,TyU.nil _,O,Ext.refl _ _⟩
 have G:e=0:=Decidable.not_not.1 i
 refine xy (jc rfl (jp rfl (fun i=> ?_) (fun i=> ?_)))
 ·have s:uy l e n=([],l,2):=by rw[uy,if_neg (by simpa using G),if_pos i]
  rw[s]
  refine km rfl (ky a rfl rfl rfl fun F d t j=> ?_)
  have k:=t
  have a:=d
  have C:Rd F rb l 2:=⟨p,c,a,g,x3.k8 E r t (f F),r.ext t (f F)⟩
  refine ql (jc rfl (gr (gq (gv rfl rfl ?_))))
  exact⟨none,0,rfl,Sl.nil _ _ _,TyU.nil _,C,k⟩
 have D:¬n<0:=i
 refine xy (km rfl (j0 rfl (a.cell rfl) (ju rfl (jp rfl (fun i=> ?_) (fun i=> ?_)))))
 ·have s:uy l e n=([],l,7):=by rw[uy,if_neg (by simpa using G),if_neg D,if_pos i]
  rw[s]
  refine km rfl (ky a rfl rfl rfl fun I d x Q=> ?_)
  have k:=x
  have a:=d
  have C:Rd I rb l 7:=⟨p,c,a,g,x3.k8 E r x (f I),r.ext x (f I)⟩
  refine ql (jc rfl (gr (gq (gv rfl rfl ?_))))
  exact⟨none,0,rfl,Sl.nil _ _ _,TyU.nil _,C,k⟩
 have s:uy l e n=(l.take n.toNat,l.drop n.toNat,0):=by rw[uy,if_neg (by simpa using G),if_neg D,if_neg i]
 rw[s]
 have y:n=(n.toNat:Int):=by omega
 have A:n.toNat≤l.length:=by omega
 refine j6 (gy (km rfl (j0 rfl (a.cell rfl) (j7 gc rfl ?_))))
 refine wl (Ah gc rfl 0 n.toNat n.toNat 1 rfl (.inl ⟨congrArg some y,rfl⟩) (.inl (congrArg some y)) (.inr ⟨rfl,rfl⟩) (Nat.zero_le _) (Nat.le_refl _) zn ?_)
 dsimp only
 rw[kc,Nat.sub_zero]
 refine ju rfl (km rfl (j0 rfl (a.cell rfl) (j7 gc rfl ?_)))
 refine wl (Ah gc rfl n.toNat l.length c 1 rfl (.inr ⟨rfl,rfl⟩) (.inr ⟨rfl,rfl⟩) (.inl (congrArg some y)) A g (Nat.le_refl _) ?_)
 dsimp only
 refine j7 gc rfl (ky a rfl rfl rfl fun B d m R=> ?_)
 have k:=m
 have a:=d
 have o:=E.slice 0 n.toNat n.toNat (Nat.zero_le _) (Nat.le_refl _) A
 have j:=E.slice n.toNat l.length c A g (Nat.le_refl _)
 rw[kc,Nat.sub_zero,Nat.zero_mul,List.drop_zero,Nat.mul_one,ui] at o
 rw[Nat.mul_one,Nat.mul_one,ue,ui,List.take_of_length_le zp] at j
 have N:(l.take n.toNat).length=n.toNat:=by rw[List.length_take];omega
 have J:(l.drop n.toNat).length=l.length-n.toNat:=by simp
 have o:x3 w p (l.take n.toNat):=by rw[x3,N];exact o
 have j:x3 w (u1 p n.toNat c 1) (l.drop n.toNat):=by rw[x3,J];exact j
 have a:gz B rb 264 [.slice (u1 p n.toNat c 1) (l.drop n.toNat).length (c-n.toNat),.int .i64 0]:=by rw[J,←G];exact d
 have C:Rd B rb (l.drop n.toNat) 0:=⟨_,_,a,by rw[J];omega,x3.k8 j (r.sub _ _ _) m (f B),(r.sub _ _ _).ext m (f B)⟩
 have S:=x3.k8 o r m (f B)
 have K:=r.ext m (f B)
 refine ql (jc rfl (gr (gv rfl rfl ?_)))
 exact⟨p,n.toNat,by rw[N],S,K,C,k⟩
theorem next8_calls (w:World) {rb:Nat} {l:List UInt8} {e:Int} (h:Rd w rb l e) (hl:l.length<1000000000) (n:Nat) (hn:256^n≤2^8):
  gp prog 173 [.pointer (some ⟨rb,0,none⟩),.int .i64 (n:Int)] w fun v w'=>v= .int .u8 ((num (uy l e n).1:Nat):Int)∧Rd w' rb (uy l e n).2.1 (uy l e n).2.2∧Ext (One rb) w w':=by
 refine gh func173 rfl rfl rfl rfl ?_
 have d:=Ext.refl (One rb) w
 refine jc rfl (gl (km rfl (gi call162 rfl (yv0 w h hl (n:Int)) fun G H k=> ?_)))
 obtain⟨q,c,rfl,f,t,g,m⟩:=k
 have d:=d.then m
 obtain⟨o,x,p⟩:=xj4 l e n
 obtain⟨s,y⟩:∃s,s=(uy l e n).1:=⟨_,rfl⟩
 rw[←y] at f o p⊢
 refine ju rfl (gu ?_)
 refine jn (α:=Nat) [9,10] rfl (fun z=>[(4,.int .u8 ((num (s.take z):Nat):Int)),(11,.int .i64 (z:Int))]) (fun z u=>(z≤s.length∧x3 u q s∧Rd u rb (uy l e n).2.1 (uy l e n).2.2)∧Ext (One rb) w u) (fun z u=>s.length-z) (0) rfl ⟨⟨Nat.zero_le _,f,g⟩,d⟩ ?_
 rintro i I ⟨⟨j,f,g⟩,d⟩
 try dsimp only
 refine jc rfl (gl (jp rfl (fun A=> ?_) (fun A=> ?_)))
 ·have j:i<s.length:=by omega
  obtain⟨b,r,rfl,a⟩:=f.at j
  have B:=num_take s j
  have C:=vl (s.take (i+1))
  have D:256^(s.take (i+1)).length≤2^8:=Nat.le_trans (Nat.pow_le_pow_right zd zl) hn
  have E:=(s[i]).toNat_lt
  have F:IntKind.u8.wrap (IntKind.u8.wrap (IntKind.u8.wrap (((num (s.take i):Nat):Int)*2^min (4:Int).toNat IntKind.u8.bits)*2^min (4:Int).toNat IntKind.u8.bits)+((s[i]).toNat:Int))=((num (s.take (i+1)):Nat):Int):=by
   rw[show(2:Int)^min (4:Int).toNat IntKind.u8.bits=16 from rfl,IntWalk.u8_in (((num (s.take i):Nat):Int)*16) zo,IntWalk.u8_in (((num (s.take i):Nat):Int)*16*16) zo,IntWalk.u8_in _ zo]
   omega
  refine xy (gu (kz (ka rfl 1 rfl i rfl zo (r+i*1) rfl (j0 rfl a (ju rfl (jc rfl (gl ?_)))))))
  refine j1 (ju rfl (yu rfl ?_))
  rw[F]
  refine gn (B4 rfl ?_)
  rw[IntWalk.i64_in _ zo]
  refine gn ?_
  exact jm (i+1) rfl ⟨⟨j,f,g⟩,d⟩ zf
 have e:s.take i=s:=List.take_of_length_le zo
 rw[e]
 refine Bg (jc rfl (gr (gv rfl rfl ?_)))
 exact⟨rfl,g,d⟩
theorem next16_calls (w:World) {rb:Nat} {l:List UInt8} {e:Int} (h:Rd w rb l e) (hl:l.length<1000000000) (n:Nat) (hn:256^n≤2^16):
  gp prog 163 [.pointer (some ⟨rb,0,none⟩),.int .i64 (n:Int)] w fun v w'=>v= .int .u16 ((num (uy l e n).1:Nat):Int)∧Rd w' rb (uy l e n).2.1 (uy l e n).2.2∧Ext (One rb) w w':=by
 refine gh func163 rfl rfl rfl rfl ?_
 have d:=Ext.refl (One rb) w
 refine jc rfl (gl (km rfl (gi call162 rfl (yv0 w h hl (n:Int)) fun G H k=> ?_)))
 obtain⟨q,c,rfl,f,t,g,m⟩:=k
 have d:=d.then m
 obtain⟨o,x,p⟩:=xj4 l e n
 obtain⟨s,y⟩:∃s,s=(uy l e n).1:=⟨_,rfl⟩
 rw[←y] at f o p⊢
 refine ju rfl (gu ?_)
 refine jn (α:=Nat) [9,10] rfl (fun z=>[(4,.int .u16 ((num (s.take z):Nat):Int)),(11,.int .i64 (z:Int))]) (fun z u=>(z≤s.length∧x3 u q s∧Rd u rb (uy l e n).2.1 (uy l e n).2.2)∧Ext (One rb) w u) (fun z u=>s.length-z) (0) rfl ⟨⟨Nat.zero_le _,f,g⟩,d⟩ ?_
 rintro i I ⟨⟨j,f,g⟩,d⟩
 try dsimp only
 refine jc rfl (gl (jp rfl (fun A=> ?_) (fun A=> ?_)))
 ·have j:i<s.length:=by omega
  obtain⟨b,r,rfl,a⟩:=f.at j
  have B:=num_take s j
  have C:=vl (s.take (i+1))
  have D:256^(s.take (i+1)).length≤2^16:=Nat.le_trans (Nat.pow_le_pow_right zd zl) hn
  have E:=(s[i]).toNat_lt
  have F:IntKind.u16.wrap (IntKind.u16.wrap (IntKind.u16.wrap (((num (s.take i):Nat):Int)*2^min (4:Int).toNat IntKind.u16.bits)*2^min (4:Int).toNat IntKind.u16.bits)+IntKind.u16.wrap ((s[i]).toNat:Int))=((num (s.take (i+1)):Nat):Int):=by
   rw[show(2:Int)^min (4:Int).toNat IntKind.u16.bits=16 from rfl,IntWalk.u16_in ((s[i]).toNat:Int) zo,IntWalk.u16_in (((num (s.take i):Nat):Int)*16) zo,IntWalk.u16_in (((num (s.take i):Nat):Int)*16*16) zo,IntWalk.u16_in _ zo]
   omega
  refine xy (gu (kz (ka rfl 1 rfl i rfl zo (r+i*1) rfl (j0 rfl a (ju rfl (jc rfl (gl ?_)))))))
  refine j1 (ju rfl (yu rfl ?_))
  rw[F]
  refine gn (B4 rfl ?_)
  rw[IntWalk.i64_in _ zo]
  refine gn ?_
  exact jm (i+1) rfl ⟨⟨j,f,g⟩,d⟩ zf
 have e:s.take i=s:=List.take_of_length_le zo
 rw[e]
 refine Bg (jc rfl (gr (gv rfl rfl ?_)))
 exact⟨rfl,g,d⟩
theorem next32_calls (w:World) {rb:Nat} {l:List UInt8} {e:Int} (h:Rd w rb l e) (hl:l.length<1000000000) (n:Nat) (hn:256^n≤2^32):
  gp prog 202 [.pointer (some ⟨rb,0,none⟩),.int .i64 (n:Int)] w fun v w'=>v= .int .u32 ((num (uy l e n).1:Nat):Int)∧Rd w' rb (uy l e n).2.1 (uy l e n).2.2∧Ext (One rb) w w':=by
 refine gh func202 rfl rfl rfl rfl ?_
 have d:=Ext.refl (One rb) w
 refine jc rfl (gl (km rfl (gi call162 rfl (yv0 w h hl (n:Int)) fun G H k=> ?_)))
 obtain⟨q,c,rfl,f,t,g,m⟩:=k
 have d:=d.then m
 obtain⟨o,x,p⟩:=xj4 l e n
 obtain⟨s,y⟩:∃s,s=(uy l e n).1:=⟨_,rfl⟩
 rw[←y] at f o p⊢
 refine ju rfl (gu ?_)
 refine jn (α:=Nat) [9,10] rfl (fun z=>[(4,.int .u32 ((num (s.take z):Nat):Int)),(11,.int .i64 (z:Int))]) (fun z u=>(z≤s.length∧x3 u q s∧Rd u rb (uy l e n).2.1 (uy l e n).2.2)∧Ext (One rb) w u) (fun z u=>s.length-z) (0) rfl ⟨⟨Nat.zero_le _,f,g⟩,d⟩ ?_
 rintro i I ⟨⟨j,f,g⟩,d⟩
 try dsimp only
 refine jc rfl (gl (jp rfl (fun A=> ?_) (fun A=> ?_)))
 ·have j:i<s.length:=by omega
  obtain⟨b,r,rfl,a⟩:=f.at j
  have B:=num_take s j
  have C:=vl (s.take (i+1))
  have D:256^(s.take (i+1)).length≤2^32:=Nat.le_trans (Nat.pow_le_pow_right zd zl) hn
  have E:=(s[i]).toNat_lt
  have F:IntKind.u32.wrap (IntKind.u32.wrap (IntKind.u32.wrap (((num (s.take i):Nat):Int)*2^min (4:Int).toNat IntKind.u32.bits)*2^min (4:Int).toNat IntKind.u32.bits)+IntKind.u32.wrap ((s[i]).toNat:Int))=((num (s.take (i+1)):Nat):Int):=by
   rw[show(2:Int)^min (4:Int).toNat IntKind.u32.bits=16 from rfl,IntWalk.u32_in ((s[i]).toNat:Int) zo,IntWalk.u32_in (((num (s.take i):Nat):Int)*16) zo,IntWalk.u32_in (((num (s.take i):Nat):Int)*16*16) zo,IntWalk.u32_in _ zo]
   omega
  refine xy (gu (kz (ka rfl 1 rfl i rfl zo (r+i*1) rfl (j0 rfl a (ju rfl (jc rfl (gl ?_)))))))
  refine j1 (ju rfl (yu rfl ?_))
  rw[F]
  refine gn (B4 rfl ?_)
  rw[IntWalk.i64_in _ zo]
  refine gn ?_
  exact jm (i+1) rfl ⟨⟨j,f,g⟩,d⟩ zf
 have e:s.take i=s:=List.take_of_length_le zo
 rw[e]
 refine Bg (jc rfl (gr (gv rfl rfl ?_)))
 exact⟨rfl,g,d⟩
theorem u8_calls (w:World) {rb:Nat} {l:List UInt8} {e:Int} (h:Rd w rb l e) (hl:l.length<1000000000):
  gp prog 109 [.pointer (some ⟨rb,0,none⟩)] w fun v w'=>v= .int .u8 ((num (uy l e 1).1:Nat):Int)∧Rd w' rb (uy l e 1).2.1 (uy l e 1).2.2∧Ext (One rb) w w':=by
 refine gh func109 rfl rfl rfl rfl ?_
 have a:=Ext.refl (One rb) w
 refine jc rfl (km rfl (gi call173 rfl (next8_calls w h hl 1 zd) fun f g b=> ?_))
 obtain⟨rfl,d,c⟩:=b
 have a:=a.then c
 refine ju rfl (gr (gv rfl rfl ?_))
 exact⟨rfl,d,a⟩
theorem u16_calls (w:World) {rb:Nat} {l:List UInt8} {e:Int} (h:Rd w rb l e) (hl:l.length<1000000000):
  gp prog 104 [.pointer (some ⟨rb,0,none⟩)] w fun v w'=>v= .int .u16 ((num (uy l e 2).1:Nat):Int)∧Rd w' rb (uy l e 2).2.1 (uy l e 2).2.2∧Ext (One rb) w w':=by
 refine gh func104 rfl rfl rfl rfl ?_
 have a:=Ext.refl (One rb) w
 refine jc rfl (km rfl (gi call163 rfl (next16_calls w h hl 2 zd) fun f g b=> ?_))
 obtain⟨rfl,d,c⟩:=b
 have a:=a.then c
 refine ju rfl (gr (gv rfl rfl ?_))
 exact⟨rfl,d,a⟩
theorem zz8 (w:World) {rb:Nat} {l:List UInt8} {e:Int} (h:Rd w rb l e) (hl:l.length<1000000000):
  gp prog 171 [.pointer (some ⟨rb,0,none⟩)] w fun v w'=>v= .int .u32 ((num (uy l e 4).1:Nat):Int)∧Rd w' rb (uy l e 4).2.1 (uy l e 4).2.2∧Ext (One rb) w w':=by
 refine gh func171 rfl rfl rfl rfl ?_
 have a:=Ext.refl (One rb) w
 refine jc rfl (km rfl (gi call202 rfl (next32_calls w h hl 4 zd) fun f g b=> ?_))
 obtain⟨rfl,d,c⟩:=b
 have a:=a.then c
 refine ju rfl (gr (gv rfl rfl ?_))
 exact⟨rfl,d,a⟩
theorem rawN_calls (w:World) {rb:Nat} {l:List UInt8} {e:Int} (h:Rd w rb l e) (hl:l.length<1000000000) (n:Int):
  gp prog 103 [.pointer (some ⟨rb,0,none⟩),.int .i64 n] w fun v w'=>∃q c,v= .slice q (uy l e n).1.length c∧(Own w' q (uy l e n).1.length c 5 1 (ge (uy l e n).1)∧∀y,jd q y→w.heap.size≤y)∧Rd w' rb (uy l e n).2.1 (uy l e n).2.2∧Ext (One rb) w w':=by
 refine gh func103 rfl rfl rfl rfl ?_
 have d:=Ext.refl (One rb) w
 refine jc rfl (km rfl (gi call162 rfl (yv0 w h hl n) fun N D j=> ?_))
 obtain⟨q,c,rfl,x,E,z,k⟩:=j
 have d:=d.then k
 obtain⟨m,F,o⟩:=xj4 l e n
 obtain⟨s,G⟩:∃s,s=(uy l e n).1:=⟨_,rfl⟩
 rw[←G] at x m o⊢
 refine ju rfl (gl (jc rfl (jp rfl (fun H=> ?_) (fun H=> ?_))))
 ·have I:s=[]:=List.eq_nil_of_length_eq_zero zo
  subst I
  refine jc rfl (gr (gq (gv rfl rfl ?_)))
  exact⟨none,0,rfl,⟨Own.nil _ _ _,fun _ h=>by cases h⟩,z,d⟩
 refine j6 ?_
 refine gy (km rfl ?_)
 have p:=x
 have a:=d
 refine wl (Cg gc rfl 0 s.length 1 rfl rfl rfl zd rfl rfl (Nat.zero_le _) zo zr fun f O A g b J=> ?_)
 refine j7 gc rfl ?_
 refine wl (uc gc rfl 1 1 rfl rfl rfl zd (Own.blk g 1 (by rw[ub];rfl) (Nat.zero_le _) zm) (Src.slice (p.ga b) OneC.h) zm zn fun K L M i r t=> ?_)
 have B:Ext No D M:=b.trans r fun y C u=>by have e:f=y:=congrArg Addr.block (Option.some.inj u);omega
 have d:=a.then (B.no (S:=One rb))
 have P:=i.sl
 refine ju rfl (gr (gv rfl rfl ?_))
 exact⟨K,L,by simp,⟨by simpa using i,fun y C=>(t y C).elim (fun u=>by have e:f=y:=congrArg Addr.block (Option.some.inj u);have:=a.size;omega) fun h=>by have:=a.size;have:=b.size;omega⟩,z.ga B,d⟩
theorem raw_calls (w:World) {rb:Nat} {l:List UInt8} {e:Int} (h:Rd w rb l e) (hl:l.length<1000000000) (n:Int):
  gp prog 103 [.pointer (some ⟨rb,0,none⟩),.int .i64 n] w fun v w'=>∃q c,v= .slice q (uy l e n).1.length c∧x3 w' q (uy l e n).1∧Rd w' rb (uy l e n).2.1 (uy l e n).2.2∧Ext (One rb) w w':=
 (rawN_calls w h hl n).mono fun _v w' ⟨q,c,h1,h2,h3,h4⟩=>⟨q,c,h1,h2.1.sl,h3,h4⟩
theorem err_calls (w:World) {rb:Nat} {l:List UInt8} {e:Int} (h:Rd w rb l e):
  gp prog 111 [.pointer (some ⟨rb,0,none⟩)] w fun v w'=>v= .int .i64 e∧w'=w:=by
 obtain⟨p,c,a,b,d,f⟩:=h
 refine gh func111 rfl rfl rfl rfl ?_
 have g:=Ext.refl No w
 refine jc rfl (gl (jc rfl (vi rfl (km rfl (j0 rfl (a.cell rfl) (ju rfl (gr ?_)))))))
 refine gq (gv rfl rfl ?_)
 exact⟨rfl,rfl⟩
theorem Cn (n:Nat) (hn:n<100):∀(w:World) (x:Nat),x<2^64→
  gp prog 96 [.int .u64 (x:Int),.int .i64 (n:Int)] w fun v w'=>∃q c,v= .slice q n c∧Own w' q n c 5 1 (ge (be n x))∧(∀b,jd q b→w.heap.size≤b)∧Ext No w w':=by
 induction n using Nat.strongRecOn
 rename_i n t
 intro w x I
 refine gh func96 rfl rfl rfl rfl ?_
 have d:=Ext.refl No w
 refine jc rfl (gl (jc rfl (jp rfl (fun u=> ?_) (fun u=> ?_))))
 ·have z:n=0:=by omega
  subst z
  refine jc rfl (gr (gq (gv rfl rfl ?_)))
  exact⟨none,0,rfl,Own.nil _ _ _,fun b j=>by(cases j),d⟩
 obtain⟨m,rfl⟩:∃m,n=m+1:=⟨n-1,by omega⟩
 refine j6 (gy (km rfl ?_))
 rw[IntWalk.i64_in _ zo]
 have A:IntKind.u64.wrap ((x:Int).tdiv 256)=((x/256:Nat):Int):=by rw[IntWalk.u64_quo _ _ zo];rfl
 rw[A]
 rw[show(((m+1:Nat):Int)-1)=(m:Int) from by omega]
 refine gi call96 rfl (t m zo zo w (x/256) zo) fun J K k=> ?_
 obtain⟨q,c,rfl,B,f,g⟩:=k
 have d:=d.gb g
 refine j7 gc rfl (wl (qc gc rfl 1 rfl rfl rfl zd zd zt rfl fun i C r a e D=> ?_))
 have d:=d.gb e
 have a:gz C i 5 (ge [UInt8.ofNat x]):=by
  have E:IntKind.u8.wrap ((x:Int).tmod 256)=((UInt8.ofNat x).toNat:Int):=by
   rw[Int.tmod_eq_emod_of_nonneg zo,IntKind.wrap_u8,UInt8.toNat_ofNat'];omega
  have s:=a
  rw[E] at s
  exact s
 refine wl (uc gc rfl 1 1 rfl rfl rfl zd (B.ext e fun _ _=>id) (Src.slice (m:=1) ⟨rfl,.inr ⟨i,0,rfl,a.ki⟩⟩ OneC.h) zm zn fun F G L l o p=> ?_)
 have d:=d.trans o fun y M H=>by have:=f y H;omega
 refine ju rfl (gr (gv rfl rfl ?_))
 exact⟨F,G,rfl,by rw[be,jy];exact l,fun b j=>(p b j).elim (fun h=>f b h) fun h=>by have:=g.size;have:=e.size;omega,d⟩
theorem number_calls (w:World) {p:Option Addr} {c:Nat} {l:List UInt8} (h:x3 w p l) (hl:l.length≤8):
  gp prog 113 [.slice p l.length c] w fun v w'=>v= .int .u64 (num l:Int)∧w'=w:=by
 refine gh func113 rfl rfl rfl rfl ?_
 have d:=Ext.refl No w
 refine jc rfl (jc rfl (gl (jc rfl (gu ?_))))
 refine jn (α:=Nat×Nat×Nat) [0] rfl (fun z=>[(3,.int .u64 (z.2.1:Int)),(4,.int .u64 (z.2.2:Int)),(5,.int .i64 (z.1:Int))]) (fun z u=>((z.1≤l.length∧z.2.1=num (l.drop z.1)∧z.2.2=256^(l.length-z.1)%2^64)∧u=w)∧Ext No w u) (fun z u=>z.1) ((l.length,0,1)) rfl ⟨⟨⟨Nat.le_refl _,by simp[num],by simp⟩,rfl⟩,d⟩ ?_
 rintro⟨i,x,q⟩ F ⟨⟨⟨t,o,r⟩,rfl⟩,d⟩
 try dsimp only
 dsimp only at t o r
 subst o r
 refine gl (jc rfl (jp rfl (fun y=> ?_) (fun y=> ?_)))
 ·obtain⟨k,rfl⟩:∃k,i=k+1:=⟨i-1,by omega⟩
  have s:k<l.length:=by omega
  obtain⟨b,e,rfl,a⟩:=h.at s
  have A:=num_drop l s
  have f:=vl (l.drop k)
  rw[List.length_drop] at f
  have g:l.length-k=(l.length-(k+1))+1:=by omega
  have B:256^(l.length-k)≤256^8:=Nat.pow_le_pow_right zd zo
  have j:256^(l.length-(k+1))≤256^7:=Nat.pow_le_pow_right zd zo
  have C:=(l[k]).toNat_lt
  have m:256^(l.length-(k+1))%2^64=256^(l.length-(k+1)):=Nat.mod_eq_of_lt (Nat.lt_of_le_of_lt j zd)
  rw[m]
  have D:IntKind.u64.wrap ((num (l.drop (k+1)):Int)+IntKind.u64.wrap (((256^(l.length-(k+1)):Nat):Int)*IntKind.u64.wrap ((l[k]).toNat:Int)))=((num (l.drop k):Nat):Int):=by
   rw[IntWalk.u64_in ((l[k]).toNat:Int) zo,←Int.natCast_mul,Nat.mul_comm,IntWalk.u64_in (((l[k]).toNat*256^(l.length-(k+1)):Nat):Int) zo,IntWalk.u64_in _ zo]
   omega
  have n:IntKind.u64.wrap (((256^(l.length-(k+1)):Nat):Int)*256)=((256^(l.length-k)%2^64:Nat):Int):=by
   rw[g,Nat.pow_succ,IntKind.wrap_u64];omega
  refine xy (gu (km rfl ?_))
  rw[IntWalk.i64_in _ zo]
  refine ka rfl 1 rfl k zo zo (e+k*1) rfl (j0 rfl a (j7 gc rfl ?_))
  rw[D]
  refine ql (yu rfl ?_)
  rw[n]
  refine gn (B4 rfl ?_)
  rw[IntWalk.i64_in _ zo]
  rw[show(((k+1:Nat):Int)-1)=(k:Int) from by omega]
  refine gn ?_
  exact jm (k,num (l.drop k),256^(l.length-k)%2^64) rfl ⟨⟨⟨by dsimp only;omega,rfl,rfl⟩,rfl⟩,d⟩ zf
 have E:i=0:=by omega
 subst E
 rw[List.drop_zero]
 refine Bg (jc rfl (gr (gv rfl rfl ?_)))
 exact⟨rfl,rfl⟩
theorem both_calls (w:World) {p q:Option Addr} {c d:Nat} {l m:List UInt8} (h:x3 w p l) (h':x3 w q m) (hl:l.length<1000000000) (hm:m.length<1000000000):
  gp prog 97 [.slice p l.length c,.slice q m.length d] w fun v w'=>∃r k,v= .slice r (l++m).length k∧Own w' r (l++m).length k 5 1 (ge (l++m))∧(∀b,jd r b→w.heap.size≤b)∧Ext No w w':=by
 refine gh func97 rfl rfl rfl rfl ?_
 have a:=Ext.refl No w
 refine jc rfl (kz (wl (qc gc rfl 1 rfl rfl rfl zd zd trivial (l':=[]) rfl fun F O I s f J=> ?_)))
 have a:=a.gb f
 refine j7 gc rfl ?_
 refine wl (uc gc rfl 1 1 rfl rfl rfl zd (Own.blk (n:=0) (c:=0) s 1 rfl (Nat.le_refl _) zd) (Src.slice (h.ga a) OneC.h) zm zn fun G K L t u z=> ?_)
 have a:=a.trans u fun y M g=>by have e:F=y:=congrArg Addr.block (Option.some.inj g);omega
 have i:∀x,jd G x→w.heap.size≤x:=fun x A=>(z x A).elim (fun g=>by have e:F=x:=congrArg Addr.block (Option.some.inj g);omega) fun h=>by have:=f.size;omega
 have B:Own L G (0+l.length) K 5 1 (ge l):=t
 refine ju rfl (km rfl ?_)
 have j:=a
 refine wl (uc gc rfl 1 1 rfl rfl rfl zd B (Src.slice (h'.ga a) OneC.h) zm zn fun H N P o C D=> ?_)
 have a:=j.trans C fun y M g=>by have:=i y g;omega
 have E:∀x,jd H x→w.heap.size≤x:=fun x A=>(D x A).elim (fun h=>i x h) fun h=>Nat.le_trans j.size h
 refine ju rfl (gr (gv rfl rfl ?_))
 exact⟨H,N,by dsimp only;rw[List.length_append,Nat.zero_add],by rw[List.length_append,jy];rw[Nat.zero_add] at o;exact o,E,a⟩
end Go.Proofs.YtpdiphfjmepijaaGreatDoor
namespace Go.Vc
section
variable {P:Program} {I:qr} {f:Fs} {ops:Array Oper} {o:Oper} {env:Env} {w:World}
def shE (n:Nat) (ops:Array Oper) (env:Env) (o:Oper):Option (BinOp×IntKind×Int×Int×Nat):=
  match pre n ops env o with
  |false=>none
  |true=>match o.dst with
    |some d=>match o.op with
      | .binOp op _ x y _=>match isShift op with
        |true=>match vr env x with
          |some (.int k p)=>match vr env y with
            |some (.int _ q)=>some (op,k,p,q,d)
            |_=>none
          |_=>none
        |false=>none
      |_=>none
    |none=>none
def shV (op:BinOp) (k:IntKind) (p q:Int):Value:=
  match op with
  | .shl=> .int k (k.wrap (p*2^min q.toNat k.bits))
  |_=> .int k (p.fdiv (2^min q.toNat k.bits))
theorem shE_pev {n:Nat} {op:BinOp} {k:IntKind} {p q:Int} {d:Nat} (h:shE n ops env o=some (op,k,p,q,d)) (hq:0≤q):pre n ops env o=true∧o.dst=some d∧pev I o.op env=some (shV op k p q):=by
 unfold shE at h
 split at h
 ·cases h
 rename_i c
 split at h
 ·rename_i m e
  split at h
  ·rename_i a t x y u f
   split at h
   ·rename_i b
    split at h
    ·rename_i r s g
     split at h
     ·rename_i v i j
      simp only[Option.some.injEq,Prod.mk.injEq] at h
      obtain⟨rfl,rfl,rfl,rfl,rfl⟩:=h
      refine⟨c,e,?_⟩
      have l:decide (i<0)=false:=decide_eq_false zo
      rw[f]
      simp only[pev,g,j,bin,b,xj8,l]
      cases a<;>first|rfl|cases b
     cases h
    cases h
   cases h
  cases h
 cases h
theorem wd_sh (hI:I.Ok P) {K:Act→World→Prop} {r:Dr} {i:Nat} {pl:List (Nat×Bool)} {dn:List Nat} (ho:ops[i]? =some o) {op:BinOp} {k:IntKind} {p q:Int} {d:Nat} (h:shE f.n ops env o=some (op,k,p,q,d)) (hq:0≤q)
  (kk:WD P f ops K r pl (i::dn) ((d,shV op k p q)::env) w):WD P f ops K r ((i,true)::pl) dn env w:=by
 obtain⟨a,b,c⟩:=shE_pev (I:=I) h hq
 exact xj7 ho a b (fun e _=>yx hI c e) kk
end
abbrev yo:=BitVec 32
abbrev vg (x:yo):Value:= .int .u32 (x.toNat:Int)
def jr (l:List yo):List Value:=l.map vg
theorem u0 (l:List yo):(jr l).length=l.length:=by simp[jr]
theorem xq1 (a b:List yo):jr (a++b)=jr a++jr b:=by simp[jr]
theorem A1 (l:List yo) {i:Nat} (h:i<l.length):(jr l)[i]? =some (vg l[i]):=by simp[jr,h]
instance (l:List yo):OneC (jr l):=⟨fun u hu=>by obtain⟨x,_,rfl⟩:=List.mem_map.1 hu;rfl⟩
theorem yv4 (x:yo):BitVec.ofInt 32 (x.toNat:Int)=x:=by
 apply BitVec.eq_of_toNat_eq
 have:=x.isLt
 rw[BitVec.toNat_ofInt]
 omega
theorem w_in (x:yo):IntKind.u32.wrap (x.toNat:Int)=(x.toNat:Int):=by
 have:=x.isLt
 rw[IntKind.wrap_u32];omega
theorem w_wrap (n:Nat):IntKind.u32.wrap (n:Int)=((BitVec.ofNat 32 n).toNat:Int):=by
 rw[IntKind.wrap_u32,BitVec.toNat_ofNat];omega
theorem A9 (x y:yo):IntKind.u32.wrap ((x.toNat:Int)+(y.toNat:Int))=((x+y).toNat:Int):=by
 rw[IntKind.wrap_u32,BitVec.toNat_add];omega
theorem w_not (x:yo):IntKind.u32.wrap (4294967295-(x.toNat:Int))=((~~~x).toNat:Int):=by
 have:=x.isLt
 rw[IntKind.wrap_u32,BitVec.toNat_not];omega
theorem zj1 (x y:yo):bitI .xor .u32 (x.toNat:Int) (y.toNat:Int)=((x^^^y).toNat:Int):=by
 show IntKind.u32.wrap ((BitVec.ofInt 32 (x.toNat:Int)^^^BitVec.ofInt 32 (y.toNat:Int)).toNat:Int)=_
 rw[yv4,yv4,w_in]
theorem w_and (x y:yo):bitI .and .u32 (x.toNat:Int) (y.toNat:Int)=((x&&&y).toNat:Int):=by
 show IntKind.u32.wrap ((BitVec.ofInt 32 (x.toNat:Int)&&&BitVec.ofInt 32 (y.toNat:Int)).toNat:Int)=_
 rw[yv4,yv4,w_in]
theorem w_or (x y:yo):bitI .or .u32 (x.toNat:Int) (y.toNat:Int)=((x|||y).toNat:Int):=by
 show IntKind.u32.wrap ((BitVec.ofInt 32 (x.toNat:Int)|||BitVec.ofInt 32 (y.toNat:Int)).toNat:Int)=_
 rw[yv4,yv4,w_in]
theorem w_shr (x:yo) (q:Int):Int.fdiv (x.toNat:Int) (2^min q.toNat IntKind.u32.bits)=((x>>>q.toNat).toNat:Int):=by
 have a:=x.isLt
 rw[show(2:Int)^min q.toNat IntKind.u32.bits=((2^min q.toNat 32:Nat):Int) from by rw[Int.natCast_pow];rfl,Int.fdiv_eq_ediv_of_nonneg _ (Int.natCast_nonneg _),←Int.natCast_ediv,BitVec.toNat_ushiftRight,Nat.shiftRight_eq_div_pow]
 rcases Nat.le_total q.toNat 32 with h|h
 ·rw[Nat.min_eq_left h]
 rw[Nat.min_eq_right h,Nat.div_eq_of_lt a,Nat.div_eq_of_lt (Nat.lt_of_lt_of_le a (Nat.pow_le_pow_right zd h))]
theorem w_shl (x:yo) (q:Int):IntKind.u32.wrap ((x.toNat:Int)*2^min q.toNat IntKind.u32.bits)=((x<<<q.toNat).toNat:Int):=by
 rw[show(2:Int)^min q.toNat IntKind.u32.bits=((2^min q.toNat 32:Nat):Int) from by rw[Int.natCast_pow];rfl,←Int.natCast_mul,w_wrap]
 congr 1
 rw[BitVec.toNat_ofNat,BitVec.toNat_shiftLeft,Nat.shiftLeft_eq]
 rcases Nat.le_total q.toNat 32 with h|h
 ·rw[Nat.min_eq_left h]
 rw[Nat.min_eq_right h,Nat.mul_mod_left]
 obtain⟨k,a⟩:=Nat.exists_eq_add_of_le h
 rw[a,Nat.pow_add,←Nat.mul_assoc,Nat.mul_right_comm,Nat.mul_mod_left]
def rot (x:yo) (n:Nat):yo:=x>>>n|||x<<<(32-n)
def Bu (x:yo) (ns:List Nat):yo:=ns.foldl (fun o n=>o^^^rot x n) 0
theorem mixW_snoc (x:yo) (l:List Nat) (n:Nat):Bu x (l++[n])=Bu x l^^^rot x n:=by simp[Bu]
theorem rot_eq (x:yo) (n:Nat) (h:0<n∧n<32):(rot x n).toNat=x.toNat/2^n+(x.toNat%2^n)*2^(32-n):=by
 have c:=x.isLt
 obtain⟨k,d⟩:∃k,32=k+n:=⟨32-n,by omega⟩
 have a:32-n=k:=by omega
 have e:2^32=2^k*2^n:=by rw[←Nat.pow_add,←d]
 rw[rot,a,BitVec.toNat_or,BitVec.toNat_ushiftRight,BitVec.toNat_shiftLeft,Nat.shiftRight_eq_div_pow,Nat.shiftLeft_eq,e,Nat.mul_comm x.toNat,Nat.mul_mod_mul_left]
 have b:x.toNat/2^n<2^k:=Nat.div_lt_of_lt_mul (by rw[Nat.mul_comm,←e];exact c)
 have f:=Nat.two_pow_add_eq_or_of_lt b (x.toNat%2^n)
 rw[Nat.or_comm,←f,Nat.add_comm,Nat.mul_comm]
theorem By (x:yo) (n:Nat) (h:0<n∧n<32):IntKind.u32.wrap (IntKind.u32.wrap ((x.toNat:Int).tdiv ((2^n:Nat):Int))+IntKind.u32.wrap ((x.toNat:Int).tmod ((2^n:Nat):Int)*((2^(32-n):Nat):Int)))=((rot x n).toNat:Int):=by
 have e:=rot_eq x n h
 have c:=(rot x n).isLt
 have a:(x.toNat:Int).tdiv ((2^n:Nat):Int)=((x.toNat/2^n:Nat):Int):=rfl
 have b:(x.toNat:Int).tmod ((2^n:Nat):Int)=((x.toNat%2^n:Nat):Int):=rfl
 rw[a,b,←Int.natCast_mul]
 rw[IntKind.wrap_u32,IntKind.wrap_u32,IntKind.wrap_u32]
 omega
theorem div_eq (x:yo) (n:Nat):IntKind.u32.wrap ((x.toNat:Int).tdiv ((2^n:Nat):Int))=((x>>>n).toNat:Int):=by
 have a:(x.toNat:Int).tdiv ((2^n:Nat):Int)=((x.toNat/2^n:Nat):Int):=rfl
 have c:=x.isLt
 have b:x.toNat/2^n≤x.toNat:=Nat.div_le_self _ _
 rw[a,BitVec.toNat_ushiftRight,Nat.shiftRight_eq_div_pow,IntKind.wrap_u32]
 generalize x.toNat/2^n=q at b⊢
 omega
def natsV (l:List Nat):List Value:=l.map fun n:Nat=> .int .i64 (n:Int)
theorem Sl.natAt {w:World} {p:Option Addr} {l:List Nat} (h:Sl w p l.length 1 (natsV l)) {i:Nat} (hi:i<l.length):∃b off,p=some ⟨b,off,none⟩∧w.cell? ⟨b,off+i*1,none⟩=some (.int .i64 (l[i]:Int)):=by
 obtain⟨_,d|⟨b,off,a,c⟩⟩:=h
 ·omega
 exact⟨b,off,a,by rw[Nat.mul_one];exact c i _ (by simp[natsV,hi])⟩
theorem mixW_take (x:yo) (l:List Nat) {i:Nat} (h:i<l.length):Bu x (l.take (i+1))=Bu x (l.take i)^^^rot x l[i]:=by
 rw[List.take_succ_eq_append_getElem h,mixW_snoc]
def nextW (b:List UInt8) (l:List yo):yo:=
  if l.length<16 then BitVec.ofNat 32 (num ((b.drop (4*l.length)).take 4))
  else l.getD (l.length-16) 0+l.getD (l.length-7) 0+(Bu (l.getD (l.length-2) 0) [17,19]^^^l.getD (l.length-2) 0>>>10)+(Bu (l.getD (l.length-15) 0) [7,18]^^^l.getD (l.length-15) 0>>>3)
def sched (b:List UInt8):Nat→List yo
  |0=>[]
  |t+1=>sched b t++[nextW b (sched b t)]
theorem qq (b:List UInt8) (t:Nat):(sched b t).length=t:=by
 induction t with
 |zero=>rfl
 |succ t ih=>simp[sched,ih]
theorem xj9 (l r:List yo) {i:Nat} (h:i<l.length):(jr (l++r))[0+i*1]? =some (vg (l.getD i 0)):=by
 rw[Nat.zero_add,Nat.mul_one,A1 _ (by rw[List.length_append];omega),List.getElem_append_left h,List.getD_eq_getElem?_getD,List.getElem?_eq_getElem h]
 rfl
theorem Ax (l:List yo) {i:Nat} (h:i<l.length):(jr l)[i]? =some (vg (l.getD i 0)):=by
 rw[A1 _ h,List.getD_eq_getElem?_getD,List.getElem?_eq_getElem h]
 rfl
theorem yv2 (l:List yo) (k i:Nat) (x:yo) (hi:i=l.length):(jr (l++List.replicate (k+1) 0)).set (0+i*1) (vg x)=jr (l++[x]++List.replicate k 0):=by
 subst hi
 rw[Nat.zero_add,Nat.mul_one,jr,←List.map_set,List.set_append_right _ _ (Nat.le_refl _),Nat.sub_self,List.replicate_succ,List.append_assoc]
 rfl
theorem nextW_raw {b:List UInt8} {l:List yo} (h:l.length<16):nextW b l=BitVec.ofNat 32 (num ((b.drop (4*l.length)).take 4)):=if_pos h
theorem nextW_mix {b:List UInt8} {l:List yo} (h:¬l.length<16):nextW b l=l.getD (l.length-16) 0+l.getD (l.length-7) 0+(Bu (l.getD (l.length-2) 0) [17,19]^^^l.getD (l.length-2) 0>>>10)+(Bu (l.getD (l.length-15) 0) [7,18]^^^l.getD (l.length-15) 0>>>3):=if_neg h
def turnW (l:List yo) (k w:yo):List yo:=
  match l with
  | [a,b,c,d,e,f,g,h]=>
    let x:=h+Bu e [6,11,25]+(g^^^(e&&&(f^^^g)))+k+w
    let y:=Bu a [2,13,22]+((a&&&b)|||(c&&&(a|||b)))
    [x+y,a,b,c,d+x,e,f,g]
  |l=>l
def z6 (h ks ws:List yo):Nat→List yo
  |0=>h
  |t+1=>turnW (z6 h ks ws t) (ks.getD t 0) (ws.getD t 0)
theorem turnW_len (l:List yo) (k w:yo):(turnW l k w).length=l.length:=by
 unfold turnW
 split<;>rfl
theorem Db (h ks ws:List yo) (t:Nat):(z6 h ks ws t).length=h.length:=by
 induction t with
 |zero=>rfl
 |succ t ih=>rw[z6,turnW_len,ih]
theorem eight {α:Type} {l:List α} (h:l.length=8):∃a b c d e f g i,l=[a,b,c,d,e,f,g,i]:=by
 match l,h with
 | [a,b,c,d,e,f,g,i],_=>exact⟨a,b,c,d,e,f,g,i,rfl⟩
theorem zip_set {f:yo→yo→yo} {h l:List yo} {i:Nat} (h1:i<h.length) (h2:i<l.length):(jr (List.zipWith f (h.take i) (l.take i)++h.drop i)).set (0+i*1) (vg (f h[i] l[i]))=jr (List.zipWith f (h.take (i+1)) (l.take (i+1))++h.drop (i+1)):=by
 have a:(List.zipWith f (h.take i) (l.take i)).length=i:=by simp;omega
 rw[Nat.zero_add,Nat.mul_one,jr,←List.map_set,List.set_append_right _ _ zo,a,Nat.sub_self,List.drop_eq_getElem_cons h1,List.set_cons_zero,List.take_succ_eq_append_getElem h1,List.take_succ_eq_append_getElem h2,List.zipWith_append zc]
 simp[jr]
theorem zip_at {f:yo→yo→yo} {h l:List yo} {i:Nat} (h1:i<h.length) (h2:i<l.length):(jr (List.zipWith f (h.take i) (l.take i)++h.drop i))[0+i*1]? =some (vg h[i]):=by
 have a:(List.zipWith f (h.take i) (l.take i)).length=i:=by simp;omega
 rw[Nat.zero_add,Nat.mul_one,jr,List.getElem?_map,List.getElem?_append_right zo,a,Nat.sub_self,List.drop_eq_getElem_cons h1]
 rfl
def intoW (ks h:List yo) (b:List UInt8):List yo:=List.zipWith (·+·) h (z6 h ks (sched b 64) 64)
theorem intoW_len (ks h:List yo) (b:List UInt8):(intoW ks h b).length=h.length:=by
 rw[intoW,List.length_zipWith,Db,Nat.min_self]
def zu (ks h:List yo) (p:List UInt8):Nat→List yo
  |0=>h
  |n+1=>intoW ks (zu ks h p n) ((p.drop (64*n)).take 64)
theorem C4 (ks h:List yo) (p:List UInt8) (n:Nat):(zu ks h p n).length=h.length:=by
 induction n with
 |zero=>rfl
 |succ n ih=>rw[zu,intoW_len,ih]
def Cc (l:List UInt8):List UInt8:=l++[128]++List.replicate ((l.length+72)/64*64-8-(l.length+1)) 0++be 8 (8*l.length)
def qg:List yo:=[1116352408,1899447441,3049323471,3921009573,961987163,1508970993,2453635748,2870763221,
  3624381080,310598401,607225278,1426881987,1925078388,2162078206,2614888103,3248222580,
  3835390401,4022224774,264347078,604807628,770255983,1249150122,1555081692,1996064986,
  2554220882,2821834349,2952996808,3210313671,3336571891,3584528711,113926993,338241895,
  666307205,773529912,1294757372,1396182291,1695183700,1986661051,2177026350,2456956037,
  2730485921,2820302411,3259730800,3345764771,3516065817,3600352804,4094571909,275423344,
  430227734,506948616,659060556,883997877,958139571,1322822218,1537002063,1747873779,
  1955562222,2024104815,2227730452,2361852424,2428436474,2756734187,3204031479,3329325298]
def yl:List yo:=[1779033703,3144134277,1013904242,2773480762,1359893119,2600822924,528734635,1541459225]
def sumW (l:List UInt8):List UInt8:=(zu qg yl (Cc l) ((Cc l).length/64)).flatMap fun x=>be 4 x.toNat
theorem yj1 (l:List UInt8):(Cc l).length=(l.length+72)/64*64:=by
 simp only[Cc,List.length_append,List.length_replicate,jw,List.length_cons,List.length_nil]
 omega
theorem yv5 (l:List yo):(l.flatMap fun x=>be 4 x.toNat).length=4*l.length:=by
 induction l with
 |nil=>rfl
 |cons x r ih=>rw[List.flatMap_cons,List.length_append,ih,jw,List.length_cons];omega
theorem B9 (l:List UInt8):(sumW l).length=32:=by
 rw[sumW,yv5,C4];rfl
end Go.Vc
namespace Go.Proofs.YtpdiphfjmepijaaGreatDoor
open Tryz
open Go.Vc
theorem yi (w:World) (x:yo) {p:Option Addr} {c:Nat} {ns:List Nat} (h:Sl w p ns.length 1 (natsV ns)) (hns:∀n∈ns,n≤32) (hlen:ns.length<1000):
  gp prog 221 [vg x,.slice p ns.length c] w fun v w'=>v=vg (Bu x ns)∧Ext No w w':=by
 refine gh func221 rfl rfl rfl rfl ?_
 have a:=Ext.refl No w
 refine jc rfl (jc rfl (gl (jc rfl (gu ?_))))
 refine jn (α:=Nat) [0,9,10] rfl (fun z=>[(5,vg (Bu x (ns.take z))),(11,.int .i64 (z:Int))]) (fun z u=>(z≤ns.length)∧Ext No w u) (fun z u=>ns.length-z) (0) rfl ⟨Nat.zero_le _,a⟩ ?_
 rintro i o ⟨f,a⟩
 try dsimp only
 refine jc rfl (gl (jp rfl (fun k=> ?_) (fun k=> ?_)))
 ·have f:i<ns.length:=by omega
  obtain⟨b,g,rfl,d⟩:=(h.ga a).natAt f
  have l:=hns _ (List.getElem_mem f)
  refine xy (gu (kz (ka rfl 1 rfl i rfl zo (g+i*1) rfl (j0 rfl d (ju rfl ?_)))))
  refine jt rfl 11 [(0,true),(1,true),(2,true),(3,true),(4,true),(5,true),(6,true),(7,true),(8,true),(9,true),(10,true)] [] (No) zk fun q j m=> ?_
  have a:=a.gb j
  refine gx gc 3 rfl (wd_sh gc rfl rfl (Int.natCast_nonneg _) ?_)
  dsimp only[shV]
  refine gx gc 3 rfl ?_
  rw[IntWalk.i64_in _ zo]
  refine wd_sh gc rfl rfl zo ?_
  dsimp only[shV]
  refine gx gc 3 rfl ?_
  rw[show(32-((ns[i]:Nat):Int))=((32-ns[i]:Nat):Int) from by omega,w_shr,w_shl,w_or,zj1,Int.toNat_natCast,Int.toNat_natCast,show(x>>>ns[i]|||x<<<(32-ns[i]))=rot x ns[i] from rfl,←mixW_take x ns f]
  refine jj (j9 (B4 rfl ?_))
  rw[IntWalk.i64_in _ zo]
  refine gn ?_
  exact jm (i+1) rfl ⟨f,a⟩ zf
 have e:ns.take i=ns:=List.take_of_length_le zo
 rw[e]
 refine Bg (jc rfl (gr (gv rfl rfl ?_)))
 exact⟨rfl,a⟩
end Go.Proofs.YtpdiphfjmepijaaGreatDoor
namespace Go.Vc
structure Bds where
  lo:Option Int
  hi:Option Int
  mx:Option Int
def Bds.Is (s:Bds) (n c l hh m:Nat):Prop:=
  (s.mx=some (m:Int)∧s.hi.isSome=true∨s.mx=none∧m=c)∧(s.hi=some (hh:Int)∨s.hi=none∧hh=n)∧(s.lo=some (l:Int)∨s.lo=none∧l=0)∧l≤hh∧hh≤m∧m≤c
section
variable {P:Program} {I:qr} {f:Fs} {ops:Array Oper} {o:Oper} {env:Env} {w:World}
def evB (env:Env) (lo hi mx:Option Operand):Option Bds:=
  match evI env lo with
  |some lo'=>match evI env hi with
    |some hi'=>match evI env mx with
      |some mx'=>some ⟨lo',hi',mx'⟩
      |none=>none
    |none=>none
  |none=>none
theorem run_bds {lo hi mx:Option Operand} {s:Bds} (h:evB env lo hi mx=some s) {ρ:Operand→Value} (hρ:∀x u,vr env x=some u→ρ x=u) {n c l hh m:Nat} (hs:s.Is n c l hh m) (b:Bool):
  (Instr.sliceBounds b n c (lo.map ρ) (hi.map ρ) (mx.map ρ)).run P w= .ok (l,hh,m) w:=by
 obtain⟨h1,h2,h3,hl,hm,hc⟩:=hs
 unfold evB at h
 split at h
 ·rename_i lo' hlo
  split at h
  ·rename_i hi' hhi
   split at h
   ·rename_i mx' hmx
    cases h
    simp only at h1 h2 h3
    have q3:(lo.map ρ=none∧l=0)∨∃k,lo.map ρ=some (.int k (l:Int)):=by
     rcases evI_eq hlo hρ with⟨hr,hv⟩|⟨nn,kk,hr,hv⟩<;>rcases h3 with h3|⟨h3,h3'⟩<;>rw[h3] at hr<;>cases hr
     ·exact .inl ⟨hv,h3'⟩
     exact .inr ⟨kk,hv⟩
    have q2:(hi.map ρ=none∧hi'=none∧hh=n)∨∃k,hi.map ρ=some (.int k (hh:Int)):=by
     rcases evI_eq hhi hρ with⟨hr,hv⟩|⟨nn,kk,hr,hv⟩<;>rcases h2 with h2|⟨h2,h2'⟩<;>rw[h2] at hr<;>cases hr
     ·exact .inl ⟨hv,h2,h2'⟩
     exact .inr ⟨kk,hv⟩
    have q1:(mx.map ρ=none∧m=c)∨(hi'.isSome=true∧∃k,mx.map ρ=some (.int k (m:Int))):=by
     rcases evI_eq hmx hρ with⟨hr,hv⟩|⟨nn,kk,hr,hv⟩<;>rcases h1 with⟨h1,h1'⟩|⟨h1,h1'⟩<;>rw[h1] at hr<;>cases hr
     ·exact .inl ⟨hv,h1'⟩
     exact .inr ⟨h1',kk,hv⟩
    unfold Instr.sliceBounds
    rcases q1 with⟨q1,rfl⟩|⟨q1',k1,q1⟩<;>rcases q2 with⟨q2,q2',rfl⟩|⟨k2,q2⟩<;>rcases q3 with⟨q3,rfl⟩|⟨k3,q3⟩<;>rw[q1,q2,q3]<;>
     first
      |(rw[q2'] at q1';cases q1';done)
      |(cases b<;>simp only[Sem.run_bind,Sem.run_pure,Result.andThen_ok,if_true,Ci _ _ _ _ hl,Ci _ _ _ _ hm,Ci _ _ _ _ hc];done)
   cases h
  cases h
 cases h
def saE (I:qr) (n:Nat) (ops:Array Oper) (env:Env) (o:Oper):Option (Nat×Nat×Nat×Nat×Bds×Nat):=
  match pre n ops env o with
  |false=>none
  |true=>match o.dst with
    |some d=>match o.op with
      | .slice t x lo hi mx=>match xm I t with
        |some y=>match y.desc with
          | .array m e=>match xm I e with
            |some g=>match vr env x with
              |some (.pointer (some ⟨b,off,none⟩))=>match evB env lo hi mx with
                |some s=>some (b,off,m,g.size,s,d)
                |none=>none
              |_=>none
            |none=>none
          |_=>none
        |none=>none
      |_=>none
    |none=>none
theorem ov_sa (hI:I.Ok P) {nn b off len sz0 d:Nat} {s:Bds} (h:saE I nn ops env o=some (b,off,len,sz0,s,d)) (l hh m sz:Nat) (hsz:sz0=sz) (hs:s.Is len len l hh m):
  pre nn ops env o=true∧o.dst=some d∧Ov P o env w (.slice (u1 (some ⟨b,off,none⟩) l m sz) (hh-l) (m-l)) w:=by
 subst hsz
 unfold saE at h
 split at h
 ·cases h
 rename_i k
 split at h
 ·rename_i E n
  split at h
  ·rename_i t x p q r u
   split at h
   ·rename_i y v
    split at h
    ·rename_i F e z
     split at h
     ·rename_i g A
      split at h
      ·rename_i f a B
       split at h
       ·rename_i G c
        simp only[Option.some.injEq,Prod.mk.injEq] at h
        obtain⟨rfl,rfl,rfl,rfl,rfl,rfl⟩:=h
        refine⟨k,n,fun H i=> ?_⟩
        have j:=(hI.get v).under w
        have C:=(hI.get A).sizeOf w
        rw[z] at j
        have D:(Instr.sliceAt t (.pointer (some ⟨f,a,none⟩)) (p.map H) (q.map H) (r.map H)).run P w= .ok (.slice (u1 (some ⟨f,a,none⟩) l m g.size) (hh-l) (m-l)) w:=by
         unfold Instr.sliceAt
         rw[ja j]
         simp only[Instr.sureAddr,Sem.run_bind,Sem.run_pure,Result.andThen_ok,run_bds c i hs false,C,u1]
         split<;>rfl
        simp only[execOp,u,i _ _ B,Sem.run_bind,D,Result.andThen_ok,Sem.run_pure]
       cases h
      cases h
     cases h
    cases h
   cases h
  cases h
 cases h
theorem st_sa (hI:I.Ok P) {K:Env→World→Prop} {b off len sz0 d:Nat} {s:Bds} (h:saE I f.n ops env o=some (b,off,len,sz0,s,d)) (l hh m sz:Nat) (hsz:sz0=sz) (hs:s.Is len len l hh m)
  (k:K ((d,.slice (u1 (some ⟨b,off,none⟩) l m sz) (hh-l) (m-l))::env) w):St P f ops o env w K:=by
 obtain⟨a,c,e⟩:=ov_sa (w:=w) hI h l hh m sz hsz hs
 obtain⟨g,i⟩:=pre_eq a
 exact xe g i e (by rw[c];exact k)
theorem xj3 (hI:I.Ok P) {K:Act→World→Prop} {r:Dr} {i:Nat} {pl:List (Nat×Bool)} {dn:List Nat} (ho:ops[i]? =some o) {b off len sz0 d:Nat} {s:Bds} (h:saE I f.n ops env o=some (b,off,len,sz0,s,d)) (l hh m sz:Nat) (hsz:sz0=sz) (hs:s.Is len len l hh m)
  (k:WD P f ops K r pl (i::dn) ((d,.slice (u1 (some ⟨b,off,none⟩) l m sz) (hh-l) (m-l))::env) w):WD P f ops K r ((i,true)::pl) dn env w:=by
 obtain⟨a,c,_⟩:=ov_sa (w:=w) hI h l hh m sz hsz hs
 exact xj7 ho a c (fun e _=>(ov_sa (w:=e) hI h l hh m sz hsz hs).2.2) k
def ssE (I:qr) (n:Nat) (ops:Array Oper) (env:Env) (o:Oper):Option (ByteArray×Bds×Nat):=
  match pre n ops env o with
  |false=>none
  |true=>match o.dst with
    |some d=>match o.op with
      | .slice t x lo hi none=>match xm I t with
        |some y=>match y.desc with
          | .string=>match vr env x with
            |some (.string s)=>match evB env lo hi none with
              |some bs=>some (s,bs,d)
              |none=>none
            |_=>none
          |_=>none
        |none=>none
      |_=>none
    |none=>none
theorem ov_ss (hI:I.Ok P) {nn d:Nat} {s:ByteArray} {bs:Bds} (h:ssE I nn ops env o=some (s,bs,d)) (l hh:Nat) (hs:bs.Is s.size s.size l hh s.size):
  pre nn ops env o=true∧o.dst=some d∧Ov P o env w (.string (s.extract l hh)) w:=by
 unfold ssE at h
 split at h
 ·cases h
 rename_i j
 split at h
 ·rename_i v k
  split at h
  ·rename_i t x e f m
   split at h
   ·rename_i y n
    split at h
    ·rename_i p
     split at h
     ·rename_i a q
      split at h
      ·rename_i r b
       simp only[Option.some.injEq,Prod.mk.injEq] at h
       obtain⟨rfl,rfl,rfl⟩:=h
       refine⟨j,k,fun z g=> ?_⟩
       have c:=(hI.get n).under w
       rw[p] at c
       have i:=run_bds (P:=P) (w:=w) b g hs false
       simp only[Option.map_none] at i
       have u:(Instr.sliceAt t (.string a) (e.map z) (f.map z) none).run P w= .ok (.string (a.extract l hh)) w:=by
        unfold Instr.sliceAt
        rw[ja c]
        show(Instr.slice t (.string a) (e.map z) (f.map z) none).run P w=_
        unfold Instr.slice
        rw[ja c]
        simp only[Option.isSome_none,Bool.false_eq_true,if_false,Sem.run_bind,Sem.run_pure,Result.andThen_ok,i]
       simp only[execOp,m,g _ _ q,Option.map_none,Sem.run_bind,u,Result.andThen_ok,Sem.run_pure]
      cases h
     cases h
    cases h
   cases h
  cases h
 cases h
theorem st_ss (hI:I.Ok P) {K:Env→World→Prop} {d:Nat} {s:ByteArray} {bs:Bds} (h:ssE I f.n ops env o=some (s,bs,d)) (l hh:Nat) (hs:bs.Is s.size s.size l hh s.size)
  (k:K ((d,.string (s.extract l hh))::env) w):St P f ops o env w K:=by
 obtain⟨a,b,c⟩:=ov_ss (w:=w) hI h l hh hs
 obtain⟨e,g⟩:=pre_eq a
 exact xe e g c (by rw[b];exact k)
def spE (I:qr) (n:Nat) (ops:Array Oper) (env:Env) (o:Oper):Option (Option Addr×Nat×Nat×Nat):=
  match pre n ops env o with
  |false=>none
  |true=>match o.dst with
    |some d=>match o.op with
      | .sliceToArrayPointer t x=>match xm I t with
        |some y=>match y.desc with
          | .array m _=>match vr env x with
            |some (.slice p len _)=>some (p,len,m,d)
            |_=>none
          |_=>none
        |none=>none
      |_=>none
    |none=>none
theorem ov_sp (hI:I.Ok P) {nn len m d:Nat} {p:Option Addr} (h:spE I nn ops env o=some (p,len,m,d)) (hm:m≤len):
  pre nn ops env o=true∧o.dst=some d∧Ov P o env w (.pointer p) w:=by
 unfold spE at h
 split at h
 ·cases h
 rename_i f
 split at h
 ·rename_i s g
  split at h
  ·rename_i t x i
   split at h
   ·rename_i y j
    split at h
    ·rename_i u e k
     split at h
     ·rename_i b a l n
      simp only[Option.some.injEq,Prod.mk.injEq] at h
      obtain⟨rfl,rfl,rfl,rfl⟩:=h
      refine⟨f,g,fun v q=> ?_⟩
      have c:=(hI.get j).under w
      rw[k] at c
      have r:(Instr.arrayAt t (.slice b a l)).run P w= .ok (.pointer b) w:=by
       unfold Instr.arrayAt
       rw[ja c]
       simp only[if_neg (Nat.not_lt.2 hm),Sem.run_pure]
      simp only[execOp,i,q _ _ n,Sem.run_bind,r,Result.andThen_ok,Sem.run_pure]
     cases h
    cases h
   cases h
  cases h
 cases h
theorem st_sp (hI:I.Ok P) {K:Env→World→Prop} {len m d:Nat} {p:Option Addr} (h:spE I f.n ops env o=some (p,len,m,d)) (hm:m≤len)
  (k:K ((d,.pointer p)::env) w):St P f ops o env w K:=by
 obtain⟨a,b,c⟩:=ov_sp (w:=w) hI h hm
 obtain⟨e,g⟩:=pre_eq a
 exact xe e g c (by rw[b];exact k)
def mfE (n:Nat) (ops:Array Oper) (env:Env) (o:Oper):Option (FuncId×List Value×List Value×Nat):=
  match pre n ops env o with
  |false=>none
  |true=>match o.dst with
    |some d=>match o.op with
      | .makeFunc (.func g) fs cs=>match evs env fs.toList with
        |some l=>match evs env cs.toList with
          |some m=>some (g,l,m,d)
          |none=>none
        |none=>none
      |_=>none
    |none=>none
theorem ov_mf {nn d:Nat} {g:FuncId} {l m:List Value} (h:mfE nn ops env o=some (g,l,m,d)):
  pre nn ops env o=true∧o.dst=some d∧Ov P o env w (.func (.func g) l.toArray m.toArray) w:=by
 unfold mfE at h
 split at h
 ·cases h
 rename_i b
 split at h
 ·rename_i j c
  split at h
  ·rename_i k n p e
   split at h
   ·rename_i q f
    split at h
    ·rename_i r i
     simp only[Option.some.injEq,Prod.mk.injEq] at h
     obtain⟨rfl,rfl,rfl,rfl⟩:=h
     refine⟨b,c,fun s a=> ?_⟩
     simp only[execOp,e,Instr.makeFunc,evs_arr a f,evs_arr a i,Sem.run_bind,Result.andThen_ok,Sem.run_pure]
    cases h
   cases h
  cases h
 cases h
theorem st_mf {K:Env→World→Prop} {d:Nat} {g:FuncId} {l m:List Value} (h:mfE f.n ops env o=some (g,l,m,d))
  (k:K ((d,.func (.func g) l.toArray m.toArray)::env) w):St P f ops o env w K:=by
 obtain⟨a,b,c⟩:=ov_mf (P:=P) (w:=w) h
 obtain⟨e,i⟩:=pre_eq a
 exact xe e i c (by rw[b];exact k)
end
end Go.Vc
namespace Go.Proofs.YtpdiphfjmepijaaGreatDoor
open Tryz
open Go.Vc
theorem offR_ok {l:List UInt8} {n:Nat} (h:n≤l.length):uy l 0 (n:Int)=(l.take n,l.drop n,0):=by
 unfold uy
 rw[if_neg zp,if_neg zo,if_neg zo]
 simp
theorem drawn_calls (w:World) {b:List UInt8} (hb:b.length=64):
  gp prog 220 [.agg (ge b).toArray] w fun v w'=>v= .agg (jr (sched b 64)).toArray∧Ext No w w':=by
 refine gh func220 rfl rfl rfl rfl ?_
 have d:=Ext.refl No w
 refine kz (gw rfl fun b1 w1 b5 a6 ae=> ?_)
 have d:=d.gb ae
 refine gw rfl fun T w2 af a a9=> ?_
 have M:=Nat.le_trans d.size af
 have a6:=a6.ga a9
 have d:=d.gb a9
 have a:gz w2 T 313 (jr (sched b 0++List.replicate (64-0) 0)):=a
 refine ql (kz (wl (st_sa gc rfl 0 64 64 1 rfl ⟨.inr ⟨rfl,rfl⟩,.inr ⟨rfl,rfl⟩,.inr ⟨rfl,rfl⟩,by decide,by decide,by decide⟩ ?_)))
 rw[kc,Nat.sub_zero]
 rw[show Value.slice (some ⟨b1,0,none⟩) 64 64= .slice (some ⟨b1,0,none⟩) b.length b.length from by rw[hb]]
 have ag:=d
 refine gi call101 rfl (Cm w2 (p:=some ⟨b1,0,none⟩) (c:=b.length) (l:=b) ⟨by simp[gm],.inr ⟨b1,0,rfl,a6.ki⟩⟩ zo) fun v3 w3 ah=> ?_
 obtain⟨rb,rfl,ai,f,aa⟩:=ah
 have a:=a.ga aa
 have d:=d.gb aa
 have aj:=Nat.le_trans ag.size ai
 refine ju rfl (gl (jc rfl (gu ?_)))
 refine jn (α:=Nat) [2,3] rfl (fun z=>[(9,.int .i64 (z:Int))]) (fun z u=>(z≤64∧Rd u rb (b.drop (4*min z 16)) 0)∧gz u T 313 (jr (sched b z++List.replicate (64-z) 0))∧Ext No w u) (fun z u=>64-z) (0) rfl ⟨⟨by decide,by simpa using f⟩,a,d⟩ ?_
 rintro t w4 ⟨⟨ht,f⟩,a,d⟩
 refine jc rfl (gl (jp rfl (fun hc=> ?_) (fun hc=> ?_)))
 ·have ht:t<64:=by omega
  refine j6 (gy (jv (α:=Unit) [2,3,9] rfl (fun z=>[]) (fun z u=>(Rd u rb (b.drop (4*min (t+1) 16)) 0)∧gz u T 313 (jr (sched b (t+1)++List.replicate (64-(t+1)) 0))∧Ext No w u) ?_ ?_))
  ·refine gu ?_
   refine jc rfl (gl (jc rfl (jp rfl (fun hc=> ?_) (fun hc=> ?_))))
   ·have N:t<16:=by omega
    have e4:min t 16=t:=by omega
    have e5:min (t+1) 16=t+1:=by omega
    rw[e4] at f
    refine km rfl ?_
    have y:=f.ne a zd
    refine gi call171 rfl (zz8 w4 f za) fun v5 w5 ak=> ?_
    obtain⟨rfl,f,ab⟩:=ak
    have a:=a.ext ab (fun e=>y e.symm)
    have d:=d.gj ab aj
    have e6:=offR_ok (l:=b.drop (4*t)) (n:=4) za
    have e6:uy (b.drop (4*t)) 0 4=_:=e6
    rw[e6] at f
    rw[e6]
    have e7:List.drop 4 (b.drop (4*t))=b.drop (4*min (t+1) 16):=by rw[List.drop_drop,e5,Nat.mul_add]
    rw[e7] at f
    have e8:(num ((b.drop (4*t)).take 4):Int)=((nextW b (sched b t)).toNat:Int):=by
     rw[nextW_raw (by rw[qq];exact N),qq,BitVec.toNat_ofNat]
     have:=vl ((b.drop (4*t)).take 4)
     rw[List.length_take,List.length_drop] at this
     have h4:min 4 (b.length-4*t)=4:=by omega
     rw[h4] at this
     omega
    dsimp only
    rw[e8]
    refine ka rfl 1 rfl t rfl zo (0+t*1) rfl ?_
    have g:=a
    refine wl (qz gc a rfl rfl (by rw[u0,List.length_append,qq,List.length_replicate];omega) fun w6 a ac b6=> ?_)
    have d:=d.gj ac M
    have a:gz w6 T 313 (jr (sched b (t+1)++List.replicate (64-(t+1)) 0)):=by
     have e:64-t=(64-(t+1))+1:=by omega
     have O:=a
     rw[e,yv2 _ _ _ _ (qq b t).symm] at O
     exact O
    have y:=f.ne g zd
    have f:=f.ext ac (fun e=>y e) (fun b' L h e=>h.ne g zd e)
    refine ql (xw ?_)
    exact qj (uv (j4 (()) rfl ⟨f,a,d⟩))
   have N:¬t<16:=by omega
   have e4:min t 16=min (t+1) 16:=by omega
   rw[e4] at f
   have W:=nextW_mix (b:=b) (l:=sched b t) (by rw[qq];exact N)
   rw[qq] at W
   have a7:IntKind.u32.wrap (IntKind.u32.wrap (IntKind.u32.wrap ((((sched b t).getD (t-16) 0).toNat:Int)+(((sched b t).getD (t-7) 0).toNat:Int))+bitI .xor .u32 ((Bu ((sched b t).getD (t-2) 0) [17,19]).toNat:Int) (Int.fdiv (((sched b t).getD (t-2) 0).toNat:Int) (2^min (10:Int).toNat IntKind.u32.bits)))+bitI .xor .u32 ((Bu ((sched b t).getD (t-15) 0) [7,18]).toNat:Int) (Int.fdiv (((sched b t).getD (t-15) 0).toNat:Int) (2^min (3:Int).toNat IntKind.u32.bits)))=((nextW b (sched b t)).toNat:Int):=by
    rw[W,A9,w_shr,zj1,A9,w_shr,zj1,A9]
    rfl
   refine xy (jt rfl 10 [(0,true),(1,true),(2,true),(3,true),(4,true),(5,true),(6,true),(7,true),(8,true),(9,true)] [] (No) zk fun w7 a8 b7=> ?_)
   have P:=a
   have a:=a.ga a8
   have f:=f.ga a8
   have d:=d.gb a8
   refine gx gc 2 rfl ?_
   rw[IntWalk.i64_in _ zo]
   refine qs gc rfl rfl 1 rfl (t-2) zo zo (0+(t-2)*1) rfl ?_
   refine j5 gc rfl rfl (fun w' H=>(P.ga H).cell (i:=0+(t-2)*1) (v:=vg ((sched b t).getD (t-2) 0)) (xj9 _ _ (by rw[qq];omega))) ?_
   refine gx gc 2 rfl ?_
   rw[IntWalk.i64_in _ zo]
   refine qs gc rfl rfl 1 rfl (t-15) zo zo (0+(t-15)*1) rfl ?_
   refine j5 gc rfl rfl (fun w' H=>(P.ga H).cell (i:=0+(t-15)*1) (v:=vg ((sched b t).getD (t-15) 0)) (xj9 _ _ (by rw[qq];omega))) ?_
   refine gx gc 2 rfl (jj (j9 (gy (zv6 rfl 25 25 [25] (No) zk fun w8 U b8=> ?_))))
   have P:=a
   have a:=a.ga U
   have f:=f.ga U
   have d:=d.gb U
   have k:Ext No _ w8:=U
   refine qf [(0,true),(1,true),(2,true),(3,true),(4,true),(5,true),(6,true),(7,true),(8,true),(9,true),(10,true),(13,true),(14,true),(17,true),(20,true),(21,true)] 9 rfl zk (gx gc 3 rfl ?_)
   rw[IntWalk.i64_in _ zo]
   refine qs gc rfl rfl 1 rfl (t-16) zo zo (0+(t-16)*1) rfl ?_
   refine j5 gc rfl rfl (fun w' H=>(P.ga H).cell (i:=0+(t-16)*1) (v:=vg ((sched b t).getD (t-16) 0)) (xj9 _ _ (by rw[qq];omega))) ?_
   refine gx gc 2 rfl ?_
   rw[IntWalk.i64_in _ zo]
   refine qs gc rfl rfl 1 rfl (t-7) zo zo (0+(t-7)*1) rfl ?_
   refine j5 gc rfl rfl (fun w' H=>(P.ga H).cell (i:=0+(t-7)*1) (v:=vg ((sched b t).getD (t-7) 0)) (xj9 _ _ (by rw[qq];omega))) ?_
   refine gx gc 7 rfl (xn rfl (Ad [11,18] rfl zk ⟨⟨_,rfl,?_⟩,⟨_,rfl,?_⟩,trivial⟩))
   ·refine qc gc rfl 1 rfl rfl rfl zd zd zt rfl fun I w9 Q q R b9=>⟨k.gb R,?_⟩
    have V:=Nat.le_trans k.size Q
    have a:=a.ga R
    have f:=f.ga R
    have d:=d.gb R
    have k:=k.gb R
    refine qf [] 8 rfl zk (xn rfl (Ad [12,18] rfl zk ⟨⟨_,rfl,?_⟩,⟨_,rfl,?_⟩,trivial⟩))
    ·refine j2 call221 rfl (yi w9 _ (p:=some ⟨I,0,none⟩) (c:=2) (ns:=[17,19]) ⟨rfl,.inr ⟨I,0,rfl,q.ki⟩⟩ zd zd) fun ba bb X=>⟨(by obtain⟨rfl,r⟩:=X;exact k.gb r),?_⟩
     obtain⟨rfl,r⟩:=X
     have a:=a.ga r
     have f:=f.ga r
     have d:=d.gb r
     have k:=k.gb r
     refine qf [(15,true),(16,true),(18,false),(19,false),(22,true),(23,true),(24,true)] 0 rfl zk (gx gc 2 rfl ?_)
     refine jg rfl (qc gc rfl 1 rfl rfl rfl zd zd zt rfl fun A al B j C av=>⟨k.gb C,?_⟩)
     have J:=Nat.le_trans k.size B
     have a:=a.ga C
     have f:=f.ga C
     have d:=d.gb C
     have k:=k.gb C
     refine jg rfl (j2 call221 rfl (yi al _ (p:=some ⟨A,0,none⟩) (c:=2) (ns:=[7,18]) ⟨rfl,.inr ⟨A,0,rfl,j.ki⟩⟩ zd zd) fun bc bd Y=>⟨(by obtain⟨rfl,D⟩:=Y;exact k.gb D),?_⟩)
     obtain⟨rfl,D⟩:=Y
     have a:=a.ga D
     have f:=f.ga D
     have d:=d.gb D
     refine gx gc 2 rfl ?_
     rw[a7]
     refine qs gc rfl rfl 1 rfl t rfl zo (0+t*1) rfl (jj ?_)
     have g:=a
     refine wb rfl (qz gc a rfl rfl (by rw[u0,List.length_append,qq,List.length_replicate];omega) fun am a Z aw=> ?_)
     have d:=d.gj Z M
     have a:gz am T 313 (jr (sched b (t+1)++List.replicate (64-(t+1)) 0)):=by
      have e:64-t=(64-(t+1))+1:=by omega
      have O:=a
      rw[e,yv2 _ _ _ _ (qq b t).symm] at O
      exact O
     have y:=f.ne g zd
     have f:=f.ext Z (fun e=>y e) (fun b' L h e=>h.ne g zd e)
     refine j9 ?_
     exact jz (j4 (()) rfl ⟨f,a,d⟩)
    refine qc gc rfl 1 rfl rfl rfl zd zd zt rfl fun A an B j s ax=>⟨k.gb s,?_⟩
    have J:=Nat.le_trans k.size B
    have a:=a.ga s
    have q:=q.ga s
    have f:=f.ga s
    have d:=d.gb s
    have k:=k.gb s
    refine qf [(12,false),(15,true),(16,true),(19,false),(22,true),(23,true),(24,true)] 0 rfl zk ?_
    refine jg rfl (j2 call221 rfl (yi an _ (p:=some ⟨I,0,none⟩) (c:=2) (ns:=[17,19]) ⟨rfl,.inr ⟨I,0,rfl,q.ki⟩⟩ zd zd) fun bf ao a0=>⟨(by obtain⟨rfl,m⟩:=a0;exact k.gb m),?_⟩)
    obtain⟨rfl,m⟩:=a0
    have a:=a.ga m
    have j:=j.ga m
    have f:=f.ga m
    have d:=d.gb m
    have k:=k.gb m
    refine gx gc 2 rfl ?_
    refine jg rfl (j2 call221 rfl (yi ao _ (p:=some ⟨A,0,none⟩) (c:=2) (ns:=[7,18]) ⟨rfl,.inr ⟨A,0,rfl,j.ki⟩⟩ zd zd) fun bg bh a1=>⟨(by obtain⟨rfl,E⟩:=a1;exact k.gb E),?_⟩)
    obtain⟨rfl,E⟩:=a1
    have a:=a.ga E
    have f:=f.ga E
    have d:=d.gb E
    refine gx gc 2 rfl ?_
    rw[a7]
    refine qs gc rfl rfl 1 rfl t rfl zo (0+t*1) rfl (jj ?_)
    have g:=a
    refine wb rfl (qz gc a rfl rfl (by rw[u0,List.length_append,qq,List.length_replicate];omega) fun ap a a2 ay=> ?_)
    have d:=d.gj a2 M
    have a:gz ap T 313 (jr (sched b (t+1)++List.replicate (64-(t+1)) 0)):=by
     have e:64-t=(64-(t+1))+1:=by omega
     have O:=a
     rw[e,yv2 _ _ _ _ (qq b t).symm] at O
     exact O
    have y:=f.ne g zd
    have f:=f.ext a2 (fun e=>y e) (fun b' L h e=>h.ne g zd e)
    refine j9 ?_
    exact jz (j4 (()) rfl ⟨f,a,d⟩)
   refine qc gc rfl 1 rfl rfl rfl zd zd zt rfl fun A bi B j F az=>⟨k.gb F,?_⟩
   have J:=Nat.le_trans k.size B
   have a:=a.ga F
   have f:=f.ga F
   have d:=d.gb F
   have k:=k.gb F
   refine qf [(11,false),(12,false),(15,true),(16,true),(19,false),(22,true),(23,true),(24,true)] 0 rfl zk ?_
   refine jg rfl (qc gc rfl 1 rfl rfl rfl zd zd zt rfl fun I aq Q q x b0=>⟨k.gb x,?_⟩)
   have V:=Nat.le_trans k.size Q
   have a:=a.ga x
   have j:=j.ga x
   have f:=f.ga x
   have d:=d.gb x
   have k:=k.gb x
   refine jg rfl (j2 call221 rfl (yi aq _ (p:=some ⟨I,0,none⟩) (c:=2) (ns:=[17,19]) ⟨rfl,.inr ⟨I,0,rfl,q.ki⟩⟩ zd zd) fun bj ar a3=>⟨(by obtain⟨rfl,o⟩:=a3;exact k.gb o),?_⟩)
   obtain⟨rfl,o⟩:=a3
   have a:=a.ga o
   have j:=j.ga o
   have f:=f.ga o
   have d:=d.gb o
   have k:=k.gb o
   refine gx gc 2 rfl ?_
   refine jg rfl (j2 call221 rfl (yi ar _ (p:=some ⟨A,0,none⟩) (c:=2) (ns:=[7,18]) ⟨rfl,.inr ⟨A,0,rfl,j.ki⟩⟩ zd zd) fun bk bm a4=>⟨(by obtain⟨rfl,G⟩:=a4;exact k.gb G),?_⟩)
   obtain⟨rfl,G⟩:=a4
   have a:=a.ga G
   have f:=f.ga G
   have d:=d.gb G
   refine gx gc 2 rfl ?_
   rw[a7]
   refine qs gc rfl rfl 1 rfl t rfl zo (0+t*1) rfl (jj ?_)
   have g:=a
   refine wb rfl (qz gc a rfl rfl (by rw[u0,List.length_append,qq,List.length_replicate];omega) fun au a a5 b3=> ?_)
   have d:=d.gj a5 M
   have a:gz au T 313 (jr (sched b (t+1)++List.replicate (64-(t+1)) 0)):=by
    have e:64-t=(64-(t+1))+1:=by omega
    have O:=a
    rw[e,yv2 _ _ _ _ (qq b t).symm] at O
    exact O
   have y:=f.ne g zd
   have f:=f.ext a5 (fun e=>y e) (fun b' L h e=>h.ne g zd e)
   refine j9 ?_
   exact jz (j4 (()) rfl ⟨f,a,d⟩)
  rintro z bn ⟨f,a,d⟩
  refine yu rfl ?_
  rw[IntWalk.i64_in _ zo]
  refine gn ?_
  exact jm (t+1) rfl ⟨⟨by omega,f⟩,a,d⟩ zf
 have h0:t=64:=by omega
 subst h0
 have a:gz w4 T 313 (jr (sched b 64)):=by simpa using a
 have K:(jr (sched b 64)).length=64:=by rw[u0,qq]
 generalize sched b 64=S at a K⊢
 refine Bg (kz (jh a rfl K (wl (j8 (l':=jr S) gc a rfl rfl K rfl OneC.h fun bo a ad b4=> ?_))))
 have d:=d.gj ad M
 refine ql (gr (qk [_] ⟨⟨T,0,rfl,qu gc rfl rfl a.ki K⟩,trivial⟩ ?_))
 exact⟨rfl,d⟩
theorem into_calls (w:World) {sb:Nat} {h:List yo} (hs:gz w sb 304 (jr h)) (hl:h.length=8) {b:List UInt8} (hb:b.length=64) (hg:Seg w 0 0 (jr qg)):
  gp prog 208 [.pointer (some ⟨sb,0,none⟩),.agg (ge b).toArray] w fun _ w'=>gz w' sb 304 (jr (intoW qg h b))∧Ext (One sb) w w':=by
 have b7:=hs
 have ag:=hs.lt
 have au:0<w.heap.size:=Nat.zero_lt_of_lt ag
 refine gh func208 rfl rfl rfl rfl ?_
 have d:=Ext.refl (One sb) w
 refine kz (gw rfl fun b3 w1 ah n X=> ?_)
 have b8:=Nat.le_trans d.size ah
 have d:=d.gb X
 have n:gz w1 b3 164 (ge b):=n
 refine ql (km rfl ?_)
 have hs:=hs.ga X
 have hg:=hg.ga X
 refine jo rfl hs.ki (by rw[u0,hl]) (gw rfl fun B w2 a9 a M=> ?_)
 have Y:b3≠B:=Nat.ne_of_lt (Nat.lt_of_lt_of_le n.lt a9)
 have N:=Nat.le_trans d.size a9
 have n:=n.ga M
 have hs:=hs.ga M
 have hg:=hg.ga M
 have d:=d.gb M
 have x:¬One B sb:=fun e=>by have e:sb=B:=e;omega
 have y:¬One B 0:=fun e=>by have e:0=B:=e;omega
 refine wl (j8 (l':=jr h) gc a rfl rfl (by rw[u0,hl]) (by rw[u0,hl];rfl) OneC.h fun w3 a O b9=> ?_)
 have n:=n.gk O Y
 have hs:=hs.ext O x
 have hg:=hg.ext O y
 have d:=d.gj O N
 refine ql (gl (kz (jo rfl n.ki (by rw[gm,hb]) (gi call220 rfl (drawn_calls w3 hb) fun v4 w4 ai=> ?_))))
 obtain⟨rfl,P⟩:=ai
 have a:=a.ga P
 have hs:=hs.ga P
 have hg:=hg.ga P
 have d:=d.gb P
 have aj:=qq b 64
 have hi:intoW qg h b=List.zipWith (·+·) h (z6 h qg (sched b 64) 64):=rfl
 rw[hi]
 generalize sched b 64=W at aj⊢
 refine ju rfl (gu ?_)
 refine jn (α:=Nat) [0,4,19] rfl (fun z=>[(20,.int .i64 (z:Int))]) (fun z u=>(z≤64∧gz u sb 304 (jr h)∧Seg u 0 0 (jr qg))∧gz u B 276 (jr (z6 h qg W z))∧Ext (One sb) w u) (fun z u=>64-z) (0) rfl ⟨⟨by decide,hs,hg⟩,a,d⟩ ?_
 rintro t w5 ⟨⟨ht,hs,hg⟩,a,d⟩
 refine jc rfl (gl (jp rfl (fun hc=> ?_) (fun hc=> ?_)))
 ·have ht:t<64:=by omega
  obtain⟨a0,a1,a2,a3,a4,a5,a6,a7,h8⟩:=eight (l:=z6 h qg W t) (by rw[Db,hl])
  rw[h8] at a
  have hW:=A1 W (i:=t) zo
  have hk:=A1 qg (i:=t) ht
  refine xy (gu (km rfl (wl (st_id gc rfl t rfl ht (.inl ⟨rfl,by simpa using hW⟩) (ju rfl (gl ?_))))))
  refine jt rfl 6 [(0,true),(1,true),(2,true),(3,true),(4,true),(5,true)] [] (No) zk fun w6 D ba=> ?_
  have j:=a
  have E:=hs
  have Q:=hg
  have R:=d
  have a:=a.ga D
  have hs:=hs.ga D
  have hg:=hg.ga D
  have d:=d.gb D
  have o:Ext (No) _ w6:=D.no
  refine qs gc rfl rfl 1 rfl 0 rfl zd 0 rfl (j5 gc rfl rfl (fun w' f=>(j.ga f).cell rfl) ?_)
  refine qs gc rfl rfl 1 rfl 4 rfl zd 4 rfl (j5 gc rfl rfl (fun w' f=>(j.ga f).cell rfl) ?_)
  refine gx gc 2 rfl (jj (j9 (gy (gl ?_))))
  refine jt rfl 24 [(0,true),(1,true),(2,true),(6,true),(7,true),(8,true),(9,true),(10,true),(11,true),(12,true),(13,true),(14,true),(15,true),(17,true),(18,true),(19,true),(21,true),(3,false),(4,false),(5,true),(16,true),(20,true),(22,true),(23,true)] [] (No) zk fun w7 F bb=> ?_
  have j:=a
  have E:=hs
  have Q:=hg
  have R:=d
  have a:=a.ga F
  have hs:=hs.ga F
  have hg:=hg.ga F
  have d:=d.gb F
  have o:Ext (No) _ w7:=F.no
  refine qs gc rfl rfl 1 rfl 7 rfl zd 7 rfl (j5 gc rfl rfl (fun w' f=>(j.ga f).cell rfl) ?_)
  refine gx gc 1 rfl (qs gc rfl rfl 1 rfl 6 rfl zd 6 rfl (j5 gc rfl rfl (fun w' f=>(j.ga f).cell rfl) ?_))
  refine gx gc 1 rfl (qs gc rfl rfl 1 rfl 5 rfl zd 5 rfl (j5 gc rfl rfl (fun w' f=>(j.ga f).cell rfl) ?_))
  refine qs gc rfl rfl 1 rfl 6 rfl zd 6 rfl (j5 gc rfl rfl (fun w' f=>(j.ga f).cell rfl) ?_)
  refine gx gc 4 rfl (qs gc rfl rfl 1 rfl t rfl ht (0+t) zo (j5 gc rfl rfl (fun w' f=>(Q.ga f) t _ hk) ?_))
  refine gx gc 1 rfl (jg rfl (qc gc rfl 1 rfl rfl rfl zd zd zt rfl fun Z w8 T G C bc=>⟨o.gb C,?_⟩))
  have ae:B≠Z:=Nat.ne_of_lt (Nat.lt_of_lt_of_le a.lt T)
  have av:=Nat.le_trans d.size T
  have a:=a.ga C
  have hs:=hs.ga C
  have hg:=hg.ga C
  have d:=d.gb C
  have o:=o.gb C
  refine jg rfl (j2 call221 rfl (yi w8 _ (p:=some ⟨Z,0,none⟩) (c:=3) (ns:=[6,11,25]) ⟨rfl,.inr ⟨Z,0,rfl,G.ki⟩⟩ zd zd) fun v9 w9 aa=>⟨(by obtain⟨rfl,q⟩:=aa;exact o.gb q),?_⟩)
  obtain⟨rfl,q⟩:=aa
  have a:=a.ga q
  have G:=G.ga q
  have hs:=hs.ga q
  have hg:=hg.ga q
  have d:=d.gb q
  have o:=o.gb q
  refine gx gc 4 rfl ?_
  rw[zj1,w_and,zj1,A9,A9,A9,A9]
  refine gx gc 1 rfl (jj (j9 (gy (gl ?_))))
  refine jt rfl 17 [(0,true),(3,true),(4,true),(5,true),(6,true),(7,true),(8,true),(9,true),(10,true),(11,true),(12,true),(13,true),(14,true),(1,false),(2,false),(15,true),(16,true)] [] (No) zk fun ak r aw=> ?_
  have j:=a
  have E:=hs
  have Q:=hg
  have R:=d
  have a:=a.ga r
  have hs:=hs.ga r
  have hg:=hg.ga r
  have d:=d.gb r
  have o:Ext (No) _ ak:=r.no
  refine gx gc 2 rfl (qs gc rfl rfl 1 rfl 1 rfl zd 1 rfl (j5 gc rfl rfl (fun w' f=>(j.ga f).cell rfl) ?_))
  refine gx gc 1 rfl (qs gc rfl rfl 1 rfl 2 rfl zd 2 rfl (j5 gc rfl rfl (fun w' f=>(j.ga f).cell rfl) ?_))
  refine gx gc 1 rfl (qs gc rfl rfl 1 rfl 1 rfl zd 1 rfl (j5 gc rfl rfl (fun w' f=>(j.ga f).cell rfl) ?_))
  refine gx gc 3 rfl (jg rfl (qc gc rfl 1 rfl rfl rfl zd zd zt rfl fun a8 al U H k ax=>⟨o.gb k,?_⟩))
  have af:B≠a8:=Nat.ne_of_lt (Nat.lt_of_lt_of_le a.lt U)
  have ay:=Nat.le_trans d.size U
  have a:=a.ga k
  have hs:=hs.ga k
  have hg:=hg.ga k
  have d:=d.gb k
  have o:=o.gb k
  refine jg rfl (j2 call221 rfl (yi al _ (p:=some ⟨a8,0,none⟩) (c:=3) (ns:=[2,13,22]) ⟨rfl,.inr ⟨a8,0,rfl,H.ki⟩⟩ zd zd) fun bd bf V=>⟨(by obtain⟨rfl,g⟩:=V;exact o.gb g),?_⟩)
  obtain⟨rfl,g⟩:=V
  have a:=a.ga g
  have H:=H.ga g
  have hs:=hs.ga g
  have hg:=hg.ga g
  have d:=d.gb g
  have o:=o.gb g
  refine gx gc 1 rfl ?_
  rw[w_and,w_or,w_and,w_or,A9]
  refine gx gc 1 rfl (jj (j9 (gy (gl (jt rfl 3 [(0,true),(1,true),(2,false)] [] (One B) zk fun am s az=> ?_)))))
  have j:=a
  have E:=hs
  have Q:=hg
  have R:=d
  have a:=a.ga s
  have hs:=hs.ga s
  have hg:=hg.ga s
  have d:=d.gb s
  have o:Ext (One B) _ am:=s.no
  refine xj3 gc rfl rfl 1 8 8 1 rfl ⟨.inr ⟨rfl,rfl⟩,.inr ⟨rfl,rfl⟩,.inl rfl,by decide,by decide,by decide⟩ (xj3 gc rfl rfl 0 7 8 1 rfl ⟨.inr ⟨rfl,rfl⟩,.inl rfl,.inr ⟨rfl,rfl⟩,by decide,by decide,by decide⟩ ?_)
  refine jg rfl (zz7 gc rfl 1 rfl a (Src.slice (m:=7) (news:=jr [a0,a1,a2,a3,a4,a5,a6]) ⟨rfl,.inr ⟨B,0,rfl,(a.ki.take 7)⟩⟩ OneC.h) (show 7≤7 from by decide) (show 8≤8 from by decide) fun an ao A b0=>⟨o.then A,?_⟩)
  have a:gz an B 276 (jr [a0,a0,a1,a2,a3,a4,a5,a6]):=ao
  have hs:=hs.ext A x
  have hg:=hg.ext A y
  have d:=d.gj A N
  refine jj (j9 (gy (km rfl ?_)))
  rw[A9]
  refine ka rfl 1 rfl 0 rfl zd 0 rfl (wl (qz gc a rfl rfl (show 0<8 from by decide) fun bg a I b1=> ?_))
  have hs:=hs.ext I x
  have hg:=hg.ext I y
  have d:=d.gj I N
  refine ql (j1 (ka rfl 1 rfl 4 rfl zd 4 rfl (jb a rfl rfl (j7 gc rfl ?_))))
  rw[A9]
  refine ka rfl 1 rfl 4 rfl zd 4 rfl (wl (qz gc a rfl rfl (show 4<8 from by decide) fun ap a J b2=> ?_))
  have hs:=hs.ext J x
  have hg:=hg.ext J y
  have d:=d.gj J N
  have a:gz ap B 276 (jr (z6 h qg W (t+1))):=by
   have e1:W.getD t 0=W[t]'zo:=by rw[List.getD_eq_getElem?_getD,List.getElem?_eq_getElem zo];rfl
   have e2:qg.getD t 0=qg[t]'ht:=by rw[List.getD_eq_getElem?_getD,List.getElem?_eq_getElem ht];rfl
   rw[z6,h8,e1,e2]
   exact a
  refine gn (B4 rfl ?_)
  rw[IntWalk.i64_in _ zo]
  refine gn ?_
  exact jm (t+1) rfl ⟨⟨by omega,hs,hg⟩,a,d⟩ zf
 have h0:t=64:=by omega
 subst h0
 have ab:(z6 h qg W 64).length=8:=by rw[Db,hl]
 generalize z6 h qg W 64=L at a ab⊢
 refine Bg (kz (jh a rfl (by rw[u0,ab]) (ju rfl (gu ?_))))
 refine jn (α:=Nat) [0,80] rfl (fun z=>[(81,.int .i64 (z:Int))]) (fun z u=>(z≤8∧gz u sb 304 (jr (List.zipWith (·+·) (h.take z) (L.take z)++h.drop z)))∧Ext (One sb) w u) (fun z u=>8-z) (0) rfl ⟨⟨by decide,by simpa using hs⟩,d⟩ ?_
 rintro i bh ⟨⟨S,hs⟩,d⟩
 refine jc rfl (gl (jp rfl (fun hc=> ?_) (fun hc=> ?_)))
 ·have S:i<8:=by omega
  have h1:i<h.length:=by omega
  have h2:i<L.length:=by omega
  have aq:=A1 L h2
  refine xy (gu (km rfl (wl (st_id gc rfl i rfl S (.inl ⟨rfl,by simpa using aq⟩) (ju rfl ?_)))))
  refine jt rfl 13 [(0,true),(1,true),(2,true),(3,true),(4,true),(5,true),(6,true),(7,true),(8,true),(9,true),(10,true),(11,true),(12,true)] [13] (No) zk fun ar K b5=> ?_
  have E:=hs
  have R:=d
  have hs:=hs.ga K
  have d:=d.gb K
  have o:Ext (No) _ ar:=K.no
  refine gx gc 5 rfl (qs gc rfl rfl 1 rfl i rfl S (0+i*1) rfl (j5 gc rfl rfl (fun w' f=>(E.ga f).cell (i:=0+i*1) (v:=vg h[i]) (zip_at h1 h2)) ?_))
  refine gx gc 2 rfl ?_
  rw[A9]
  refine gx gc 3 rfl (qs gc rfl rfl 1 rfl i rfl S (0+i*1) rfl (jj ?_))
  refine wb rfl (qz gc hs rfl rfl (by rw[u0,List.length_append,List.length_zipWith,List.length_take,List.length_take,List.length_drop];omega) fun bi ac ad b6=> ?_)
  rw[zip_set h1 h2] at ac
  have hs:=ac
  have d:=d.then ad
  refine j9 (B4 rfl ?_)
  rw[IntWalk.i64_in _ zo]
  refine gn ?_
  exact jm (i+1) rfl ⟨⟨by omega,hs⟩,d⟩ zf
 have h0:i=8:=by omega
 subst h0
 have e1:h.take 8=h:=List.take_of_length_le zo
 have e2:L.take 8=L:=List.take_of_length_le zo
 have e3:h.drop 8=[]:=List.drop_eq_nil_of_le zo
 rw[e1,e2,e3,List.append_nil] at hs
 refine xw (qj (qj (uv (ye rfl ?_))))
 exact⟨hs,d⟩
theorem start_calls (w:World):
  gp prog 207 [] w fun v w'=>v= .agg (jr yl).toArray∧Ext No w w':=by
 refine gh func207 rfl rfl rfl rfl ?_
 have b:=Ext.refl No w
 refine kz (gw rfl fun g j c a d=> ?_)
 have e:=Nat.le_trans b.size c
 have b:=b.gb d
 refine ql (kz (qa rfl zb (l':=jr yl) rfl (wl (j8 (l':=jr yl) gc a rfl rfl rfl rfl OneC.h fun k a f i=> ?_))))
 have b:=b.gj f e
 refine ql (gr (qk [_] ⟨⟨g,0,rfl,qu gc rfl rfl a.ki rfl⟩,trivial⟩ ?_))
 exact⟨rfl,b⟩
theorem pad_calls (w:World) {p:Option Addr} {c:Nat} {l:List UInt8} (h:x3 w p l) (hl:l.length<100000000):
  gp prog 209 [.slice p l.length c] w fun v w'=>∃b,v= .slice (some ⟨b,0,none⟩) (Cc l).length (Cc l).length∧w.heap.size≤b∧gz w' b 5 (ge (Cc l))∧Ext No w w':=by
 obtain⟨F,K⟩:∃F,F=(l.length+72)/64*64-8:=⟨_,rfl⟩
 have B:l.length+1≤F:=by omega
 obtain⟨k,C⟩:∃k,F=l.length+(k+1):=⟨F-(l.length+1),by omega⟩
 have D:IntKind.i64.wrap (IntKind.i64.wrap ((IntKind.i64.wrap ((l.length:Int)+72)).tdiv 64)*64)=((F+8:Nat):Int):=by
  rw[IntWalk.i64_in ((l.length:Int)+72) zo,IntWalk.i64_quo _ _ zo,IntWalk.i64_in _ zo]
  omega
 refine gh func209 rfl rfl rfl rfl ?_
 have f:=Ext.refl No w
 refine jc rfl (km rfl ?_)
 rw[D]
 refine ql (km rfl ?_)
 rw[show IntKind.i64.wrap (((F+8:Nat):Int)-8)=(F:Int) from by rw[IntWalk.i64_in _ zo];omega]
 refine wl (Cg gc rfl F F 1 rfl rfl rfl zd rfl rfl (Nat.le_refl _) zo zr fun d E j a n G=> ?_)
 have g:=Nat.le_trans f.size j
 have f:=f.gb n
 have a:gz E d 5 (ge (List.replicate F 0)):=by(have e:Bw F (cellsOf ti5.zero)=ge (List.replicate F 0):=zz1 _);rw[←e];exact a
 refine ju rfl (km rfl (wl (zz7 gc rfl 1 rfl a (Src.slice (h.ga f) OneC.h) zn (by rw[gm,List.length_replicate];dsimp only;omega) fun H o q I=> ?_)))
 have a:gz H d 5 (ge (l++(List.replicate (k+1) 0++[]))):=by
  have e:Vc.put (ge (List.replicate F 0)) 0 (ge l)=ge (l++(List.replicate (k+1) 0++[])):=by
   rw[put_eq _ _ _ (by simp[gm];omega)]
   rw[ue]
   subst C
   simp[jy,gm]
  rw[←e];exact o
 have f:=f.gj q g
 refine ql (km rfl (ka rfl 1 rfl l.length rfl zo (0+l.length*1) rfl (wl (qz gc a rfl rfl (by rw[gm];simp) fun z a r J=> ?_))))
 have f:=f.gj r g
 have m:l++(128::(List.replicate k 0++[]))++be 8 (8*l.length)=Cc l:=by
  have s:k=(l.length+72)/64*64-8-(l.length+1):=by omega
  rw[Cc,s]
  simp
 have a:gz z d 5 (ge (l++(128::(List.replicate k 0++[])))):=by
  rw[Nat.zero_add,Nat.mul_one,show(Value.int .u8 128)=Aa 128 from rfl,ge,←List.map_set,List.set_append_right _ _ (Nat.le_refl _),Nat.sub_self,List.replicate_succ] at a
  exact a
 have i:(l++(128::(List.replicate k 0++[]))).length=F:=by simp;omega
 refine ql (km rfl ?_)
 rw[show IntKind.u64.wrap (IntKind.u64.wrap (l.length:Int)*2^min (3:Int).toNat IntKind.u64.bits)=((8*l.length:Nat):Int) from by rw[show(2:Int)^min (3:Int).toNat IntKind.u64.bits=8 from rfl,IntWalk.u64_in (l.length:Int) zo,IntWalk.u64_in _ zo];omega]
 rw[show Value.slice (some ⟨d,0,none⟩) F F= .slice (some ⟨d,0,none⟩) (l++(128::(List.replicate k 0++[]))).length F from by rw[i]]
 have t:=f
 refine gi call222 rfl (put64_calls z (l:=l++(128::(List.replicate k 0++[]))) ⟨by simp[gm],.inr ⟨d,0,rfl,a.ki⟩⟩ zo (8*l.length) zo) fun L M u=> ?_
 obtain⟨b,rfl,x,A,y⟩:=u
 have f:=f.gb y
 rw[m] at A⊢
 refine ju rfl (gr (gv rfl rfl ?_))
 exact⟨b,rfl,Nat.le_trans t.size x,A,f⟩
theorem sum_calls (w:World) {p:Option Addr} {c:Nat} {l:List UInt8} (h:x3 w p l) (hl:l.length<100000000) (hg:Seg w 0 0 (jr qg)):
  gp prog 181 [.slice p l.length c] w fun v w'=>v= .agg (ge (sumW l)).toArray∧Ext No w w':=by
 have af:0<w.heap.size:=hg.lt zd
 refine gh func181 rfl rfl rfl rfl ?_
 have f:=Ext.refl No w
 refine kz (gw rfl fun M w1 a3 a B=> ?_)
 have a4:=Nat.le_trans f.size a3
 have hg:=hg.ga B
 have f:=f.gb B
 refine ql (kz (gi call207 rfl (start_calls w1) fun v2 w2 a5=> ?_))
 obtain⟨rfl,C⟩:=a5
 have a:=a.ga C
 have hg:=hg.ga C
 have f:=f.gb C
 refine qa rfl zb (l':=jr yl) rfl (qa rfl zb (l':=jr yl) rfl (gw rfl fun N w3 Q d D=> ?_))
 have E:M≠N:=Nat.ne_of_lt (Nat.lt_of_lt_of_le a.lt Q)
 have R:=Nat.le_trans f.size Q
 have a:=a.ga D
 have hg:=hg.ga D
 have f:=f.gb D
 have y:¬One N 0:=fun e=>by have e:0=N:=e;have:=B.size;omega
 have F:¬One N M:=fun e=>by have e:M=N:=e;omega
 refine wl (j8 (l':=jr yl) gc d rfl rfl rfl rfl OneC.h fun w4 d s ah=> ?_)
 have a:=a.gk s E
 have hg:=hg.ext s y
 have f:=f.gj s R
 have s:=f
 refine ql (kz (wl (st_mf rfl (ju rfl (gl (km rfl ?_))))))
 have a6:=f
 refine gi call209 rfl (pad_calls w4 (h.ga f) hl) fun v5 w5 a7=> ?_
 obtain⟨bp,rfl,S,G,t⟩:=a7
 have a:=a.ga t
 have hg:=hg.ga t
 have f:=f.gb t
 have d:=d.ga t
 have S:=Nat.le_trans a6.size S
 have a8:(Cc l).length%64=0:=by rw[yj1];omega
 have a9:(Cc l).length<200000000:=by rw[yj1];omega
 have T:sumW l=(zu qg yl (Cc l) ((Cc l).length/64)).flatMap fun x=>be 4 x.toNat:=rfl
 rw[T]
 generalize Cc l=P at G a8 a9⊢
 refine ju rfl (gu ?_)
 refine jn (α:=Nat×Option Addr×Nat) [2,3,4] rfl (fun z=>[(5,.slice z.2.1 (P.drop (64*z.1)).length z.2.2)]) (fun z u=>(64*z.1≤P.length∧x3 u z.2.1 (P.drop (64*z.1))∧TyU u z.2.1∧(P.drop (64*z.1)).length≤z.2.2∧gz u N 304 (jr (zu qg yl P z.1))∧Seg u 0 0 (jr qg))∧gz u M 30 (cellsOf ti30.zero)∧Ext No w u) (fun z u=>(P.drop (64*z.1)).length) (0,some ⟨bp,0,none⟩,P.length) rfl ⟨⟨Nat.zero_le _,⟨by simp[gm],.inr ⟨bp,0,rfl,G.ki⟩⟩,TyU.of G _ _,Nat.le_refl _,d,hg⟩,a,f⟩ ?_
 rintro⟨k,q,U⟩ w6 ⟨⟨hk,V,o,I,d,hg⟩,a,f⟩
 try dsimp only
 dsimp only at hk V o I d
 refine gl (jc rfl (jp rfl (fun hc=> ?_) (fun hc=> ?_)))
 ·have aa:(P.drop (64*k)).length=P.length-64*k:=List.length_drop
  have W:64≤(P.drop (64*k)).length:=by omega
  obtain⟨A,j,rfl,g⟩:∃A j,q=some ⟨A,j,none⟩∧Seg w6 A j (ge (P.drop (64*k))):=by
   rcases V.2 with X|h1
   ·omega
   exact h1
  have g:=g.take 64
  rw[ui] at g
  have Y:((P.drop (64*k)).take 64).length=64:=by rw[List.length_take];omega
  refine xy (gu (yu rfl (wl (Ah gc rfl 0 64 64 1 rfl (.inl ⟨rfl,rfl⟩) (.inl rfl) (.inr ⟨rfl,rfl⟩) (Nat.zero_le _) (Nat.le_refl _) zn ?_))))
  dsimp only
  rw[kc]
  refine wl (st_sp gc rfl (show 64≤64-0 from Nat.le_refl _) (jo rfl g (by rw[gm,Y]) (gi call208 rfl (into_calls w6 d (by rw[C4];rfl) Y hg) fun v7 w7 ab=> ?_)))
  obtain⟨Z,r⟩:=ab
  have a:=a.ext r F
  have f:=f.gj r R
  have hg:=hg.ext r y
  have V:x3 _ _ _:=x3.k8 V o r (fun b L hb e=>hb.ne d zd e)
  have o:=o.ext r (fun b L hb e=>hb.ne d zd e)
  have d:=Z
  refine gn (B4 rfl (wl (Ah gc rfl 64 (P.drop (64*k)).length U 1 rfl (.inr ⟨rfl,rfl⟩) (.inr ⟨rfl,rfl⟩) (.inl rfl) W I (Nat.le_refl _) ?_)))
  dsimp only
  have e2:(P.drop (64*k)).length-64=(P.drop (64*(k+1))).length:=by simp only[List.length_drop];omega
  have J:=Sl.slice V 64 (P.drop (64*k)).length U W I (Nat.le_refl _)
  rw[Nat.mul_one,Nat.mul_one,ue,ui,List.drop_drop,e2] at J
  rw[show 64*k+64=64*(k+1) from rfl,List.take_of_length_le (Nat.le_refl _)] at J
  rw[e2]
  refine j7 gc rfl (gn ?_)
  exact jm (k+1,u1 (some ⟨A,j,none⟩) 64 U 1,U-64) rfl ⟨⟨by dsimp only;omega,J,o.sub _ _ _,by dsimp only;omega,d,hg⟩,a,f⟩ (by dsimp only;simp only[List.length_drop];omega)
 have aa:(P.drop (64*k)).length=P.length-64*k:=List.length_drop
 have X:k=P.length/64:=by omega
 subst X
 have a0:(zu qg yl P (P.length/64)).length=8:=by rw[C4];rfl
 generalize zu qg yl P (P.length/64)=H at d a0⊢
 refine Bg (jc rfl (gl (km rfl (jo rfl d.ki (by rw[u0,a0]) (ju rfl ?_)))))
 refine gu ?_
 refine jn (α:=Nat×Option Addr×Nat×List UInt8) [2,28] rfl (fun z=>[(6,.slice z.2.1 z.2.2.2.length z.2.2.1),(29,.int .i64 (z.1:Int))]) (fun z u=>(z.1≤8∧x3 u z.2.1 z.2.2.2∧z.2.2.2=(H.take z.1).flatMap (fun x=>be 4 x.toNat))∧gz u M 30 (cellsOf ti30.zero)∧Ext No w u) (fun z u=>8-z.1) (0,none,0,[]) rfl ⟨⟨by decide,Sl.nil _ _ _,by simp⟩,a,f⟩ ?_
 rintro⟨i,q,U,O⟩ w8 ⟨⟨K,hO,m⟩,a,f⟩
 try dsimp only
 dsimp only at K hO m
 refine jc rfl (gl (jp rfl (fun hc=> ?_) (fun hc=> ?_)))
 ·have K:i<8:=by omega
  have ac:=A1 H (i:=i) zo
  have n:O.length=4*i:=by rw[m,yv5,List.length_take];omega
  refine xy (gu (kz (wl (st_id gc rfl i rfl K (.inl ⟨rfl,by simpa using ac⟩) (ju rfl (yu rfl ?_))))))
  refine gi call179 rfl (yh w8 hO zo _ (BitVec.isLt _)) fun v9 w9 ad=> ?_
  obtain⟨bo,rfl,ai,ae,a1⟩:=ad
  have a:=a.ga a1
  have f:=f.gb a1
  refine j7 gc rfl (gn (B4 rfl ?_))
  rw[IntWalk.i64_in _ zo]
  refine gn ?_
  exact jm (i+1,some ⟨bo,0,none⟩,(O++be 4 (H[i]).toNat).length,O++be 4 (H[i]).toNat) rfl ⟨⟨by dsimp only;omega,⟨by simp[gm],.inr ⟨bo,0,rfl,ae.ki⟩⟩,by dsimp only;rw[List.take_succ_eq_append_getElem zo,List.flatMap_append,m];simp⟩,a,f⟩ zf
 have X:i=8:=by omega
 subst X
 have n:O.length=32:=by rw[m,yv5,List.length_take];omega
 have m:O=H.flatMap (fun x=>be 4 x.toNat):=by rw[m,List.take_of_length_le zo]
 obtain⟨A,j,rfl,g⟩:∃A j,q=some ⟨A,j,none⟩∧Seg w8 A j (ge O):=by
  rcases hO.2 with X|h1
  ·omega
  exact h1
 refine Bg (km rfl (wl (st_sp gc rfl (Nat.le_of_eq n.symm) (jo rfl g (by rw[gm,n]) ?_))))
 refine wl (j8 (l':=ge O) gc a rfl rfl (by rw[gm,n]) (by rw[gm,n];rfl) OneC.h fun aj a a2 ag=> ?_)
 have f:=f.gj a2 a4
 refine ql (gr (qk [_] ⟨⟨M,0,rfl,qu gc rfl rfl a.ki (by rw[gm,n];rfl)⟩,trivial⟩ ?_))
 exact⟨by rw[m];rfl,f⟩
theorem turned2_calls (w:World) (x:yo):
  gp prog 211 [vg x,.int .u64 2] w fun v w'=>v=vg (rot x 2)∧w'=w:=by
 refine gh func211 rfl rfl rfl rfl ?_
 have hX:=Ext.refl No w
 refine jc rfl (jc rfl (jc rfl (gr (gv rfl rfl ?_))))
 exact⟨congrArg (Value.int .u32) (By x 2 zd),rfl⟩
theorem turned6_calls (w:World) (x:yo):
  gp prog 211 [vg x,.int .u64 6] w fun v w'=>v=vg (rot x 6)∧w'=w:=by
 refine gh func211 rfl rfl rfl rfl ?_
 have hX:=Ext.refl No w
 refine jc rfl (jc rfl (jc rfl (gr (gv rfl rfl ?_))))
 exact⟨congrArg (Value.int .u32) (By x 6 zd),rfl⟩
theorem turned7_calls (w:World) (x:yo):
  gp prog 211 [vg x,.int .u64 7] w fun v w'=>v=vg (rot x 7)∧w'=w:=by
 refine gh func211 rfl rfl rfl rfl ?_
 have hX:=Ext.refl No w
 refine jc rfl (jc rfl (jc rfl (gr (gv rfl rfl ?_))))
 exact⟨congrArg (Value.int .u32) (By x 7 zd),rfl⟩
theorem turned11_calls (w:World) (x:yo):
  gp prog 211 [vg x,.int .u64 11] w fun v w'=>v=vg (rot x 11)∧w'=w:=by
 refine gh func211 rfl rfl rfl rfl ?_
 have hX:=Ext.refl No w
 refine jc rfl (jc rfl (jc rfl (gr (gv rfl rfl ?_))))
 exact⟨congrArg (Value.int .u32) (By x 11 zd),rfl⟩
theorem turned13_calls (w:World) (x:yo):
  gp prog 211 [vg x,.int .u64 13] w fun v w'=>v=vg (rot x 13)∧w'=w:=by
 refine gh func211 rfl rfl rfl rfl ?_
 have hX:=Ext.refl No w
 refine jc rfl (jc rfl (jc rfl (gr (gv rfl rfl ?_))))
 exact⟨congrArg (Value.int .u32) (By x 13 zd),rfl⟩
theorem turned17_calls (w:World) (x:yo):
  gp prog 211 [vg x,.int .u64 17] w fun v w'=>v=vg (rot x 17)∧w'=w:=by
 refine gh func211 rfl rfl rfl rfl ?_
 have hX:=Ext.refl No w
 refine jc rfl (jc rfl (jc rfl (gr (gv rfl rfl ?_))))
 exact⟨congrArg (Value.int .u32) (By x 17 zd),rfl⟩
theorem turned18_calls (w:World) (x:yo):
  gp prog 211 [vg x,.int .u64 18] w fun v w'=>v=vg (rot x 18)∧w'=w:=by
 refine gh func211 rfl rfl rfl rfl ?_
 have hX:=Ext.refl No w
 refine jc rfl (jc rfl (jc rfl (gr (gv rfl rfl ?_))))
 exact⟨congrArg (Value.int .u32) (By x 18 zd),rfl⟩
theorem turned19_calls (w:World) (x:yo):
  gp prog 211 [vg x,.int .u64 19] w fun v w'=>v=vg (rot x 19)∧w'=w:=by
 refine gh func211 rfl rfl rfl rfl ?_
 have hX:=Ext.refl No w
 refine jc rfl (jc rfl (jc rfl (gr (gv rfl rfl ?_))))
 exact⟨congrArg (Value.int .u32) (By x 19 zd),rfl⟩
theorem turned22_calls (w:World) (x:yo):
  gp prog 211 [vg x,.int .u64 22] w fun v w'=>v=vg (rot x 22)∧w'=w:=by
 refine gh func211 rfl rfl rfl rfl ?_
 have hX:=Ext.refl No w
 refine jc rfl (jc rfl (jc rfl (gr (gv rfl rfl ?_))))
 exact⟨congrArg (Value.int .u32) (By x 22 zd),rfl⟩
theorem turned25_calls (w:World) (x:yo):
  gp prog 211 [vg x,.int .u64 25] w fun v w'=>v=vg (rot x 25)∧w'=w:=by
 refine gh func211 rfl rfl rfl rfl ?_
 have hX:=Ext.refl No w
 refine jc rfl (jc rfl (jc rfl (gr (gv rfl rfl ?_))))
 exact⟨congrArg (Value.int .u32) (By x 25 zd),rfl⟩
theorem known_calls (w:World):
  gp prog 183 [] w fun v w'=>∃b,v= .slice (some ⟨b,0,none⟩) 64 64∧w.heap.size≤b∧gz w' b 35 (jr qg)∧Ext No w w':=by
 refine gh func183 rfl rfl rfl rfl ?_
 have a:=Ext.refl No w
 refine jc rfl (kz (wl (qc gc rfl 1 rfl rfl rfl zd zd zt rfl fun g i c d e h=> ?_)))
 have f:=Nat.le_trans a.size c
 have a:=a.gb e
 refine ju rfl (gr (gv rfl rfl ?_))
 exact⟨g,rfl,f,d,a⟩
theorem mix2 (x:yo) (a b:Nat):Bu x [a,b]=rot x a^^^rot x b:=by simp[Bu]
theorem div1024 (x:yo):IntKind.u32.wrap ((x.toNat:Int).tdiv 1024)=((x>>>10).toNat:Int):=div_eq x 10
theorem div8 (x:yo):IntKind.u32.wrap ((x.toNat:Int).tdiv 8)=((x>>>3).toNat:Int):=div_eq x 3
theorem mix3 (x:yo) (a b c:Nat):Bu x [a,b,c]=rot x a^^^rot x b^^^rot x c:=by simp[Bu]
theorem out_calls (w:World) {p:Option Addr} {c:Nat} {b:List UInt8} (h:x3 w p b) (hb:b.length=64) (hc:64≤c):
  gp prog 210 [.slice p b.length c] w fun v w'=>∃q k,v= .slice q 64 k∧Own w' q 64 k 35 1 (jr (sched b 64))∧(∀x,jd q x→w.heap.size≤x)∧Ext No w w':=by
 refine gh func210 rfl rfl rfl rfl ?_
 have d:=Ext.refl No w
 refine jc rfl (jc rfl (gl (jc rfl (gu ?_))))
 refine jn (α:=Nat×Option Addr×Nat) [0] rfl (fun z=>[(3,.slice z.2.1 z.1 z.2.2),(4,.int .i64 (z.1:Int))]) (fun z u=>(z.1≤64∧Own u z.2.1 z.1 z.2.2 35 1 (jr (sched b z.1))∧(∀x,jd z.2.1 x→w.heap.size≤x))∧Ext No w u) (fun z u=>64-z.1) (0,none,0) rfl ⟨⟨by decide,Own.nil _ _ _,fun x I=>by cases I⟩,d⟩ ?_
 rintro⟨t,q,k⟩ R ⟨⟨ht,i,f⟩,d⟩
 try dsimp only
 dsimp only at ht i f
 refine gl (jc rfl (jp rfl (fun hc=> ?_) (fun hc=> ?_)))
 ·have ht:t<64:=by omega
  refine j6 (gy (jv (α:=Option Addr×Nat) [0,4] rfl (fun z=>[(3,.slice z.1 (t+1) z.2)]) (fun z u=>(Own u z.1 (t+1) z.2 35 1 (jr (sched b (t+1)))∧(∀x,jd z.1 x→w.heap.size≤x))∧Ext No w u) ?_ ?_))
  ·refine gu ?_
   refine gl (jc rfl (jp rfl (fun hc=> ?_) (fun hc=> ?_)))
   ·have o:t<16:=by omega
    have g:=nextW_raw (b:=b) (l:=sched b t) (by rw[qq];exact o)
    rw[qq] at g
    have E:((b.drop (4*t)).take 4).length=4:=by rw[List.length_take,List.length_drop];omega
    have S:x3 R (u1 p (4*t) c 1) ((b.drop (4*t)).take 4):=by
     have e:=Sl.slice (h.ga d) (4*t) (4*t+4) c zo zo zo
     rw[Nat.mul_one,Nat.mul_one,ue,ui,show 4*t+4-4*t=4 from by omega] at e
     rw[x3,E]
     exact e
    refine km rfl ?_
    rw[IntWalk.i64_in (4*(t:Int)) zo,IntWalk.i64_in _ zo]
    refine wl (Ah gc rfl (4*t) (4*t+4) c 1 rfl (.inr ⟨rfl,rfl⟩) (.inl (congrArg some zo)) (.inl (congrArg some zo)) zo zo (Nat.le_refl _) ?_)
    dsimp only
    rw[show 4*t+4-4*t=((b.drop (4*t)).take 4).length from by rw[E];omega]
    refine gi call113 rfl (number_calls R S (by rw[E];decide)) fun v2 w2 T=> ?_
    obtain⟨rfl,rfl⟩:=T
    refine j7 gc rfl ?_
    rw[w_wrap,←g]
    refine wl (qc gc rfl 1 rfl rfl rfl zd zd zt rfl fun J w3 a7 r K ab=> ?_)
    have i:=i.ext K fun _ _=>id
    have d:=d.gb K
    have r:gz w3 J 35 (jr [nextW b (sched b t)]):=r
    have s:=d
    refine wl (uc gc rfl 1 4 rfl rfl rfl zd i (Src.slice (m:=1) ⟨rfl,.inr ⟨J,0,rfl,r.ki⟩⟩ OneC.h) zm zn fun U c4 w4 V W X=> ?_)
    have d:=s.trans W fun y hy Y=>by have:=f y Y;omega
    have A:∀x,jd U x→w.heap.size≤x:=fun x I=>(X x I).elim (fun h=>f x h) fun h=>Nat.le_trans s.size h
    have F:Own w4 U (t+1) c4 35 1 (jr (sched b (t+1))):=by
     rw[sched,xq1]
     exact V
    refine ju rfl (xw ?_)
    exact qj (uv (j4 (U,c4) rfl ⟨⟨F,A⟩,d⟩))
   have o:¬t<16:=by omega
   have g:=nextW_mix (b:=b) (l:=sched b t) (by rw[qq];exact o)
   rw[qq] at g
   obtain⟨L,rfl,n⟩:∃L,q=some ⟨L,0,none⟩∧Seg R L 0 (jr (sched b t)):=by
    rcases i with⟨_,h0,_⟩|⟨L,l,h1,h2,_,_,_,h3⟩
    ·omega
    refine⟨L,h1,?_⟩
    rw[←h3]
    exact h2.ki.take _
   have Z:(Bu ((sched b t).getD (t-2) 0) [17,19]^^^(sched b t).getD (t-2) 0>>>10)+(sched b t).getD (t-7) 0+(Bu ((sched b t).getD (t-15) 0) [7,18]^^^(sched b t).getD (t-15) 0>>>3)+(sched b t).getD (t-16) 0=nextW b (sched b t):=by
    rw[g]
    ac_rfl
   refine xy (jt rfl 12 [(0,true),(1,true),(2,true),(3,true),(4,true),(5,true),(6,true),(7,true),(8,true),(9,true),(10,true),(11,true)] [] (No) zk fun w5 G ac=> ?_)
   have a:=n
   have i:=i.ext G fun _ _=>id
   have n:=n.ga G
   have d:=d.gb G
   refine gx gc 3 rfl ?_
   rw[IntWalk.i64_in _ zo]
   refine qs gc rfl rfl 1 rfl (t-2) zo zo (0+(t-2)) zo (j5 gc rfl rfl (fun w' j=>(a.ga j) (t-2) _ (Ax _ (by rw[qq];omega))) ?_)
   refine gx gc 3 rfl ?_
   rw[IntWalk.i64_in _ zo]
   refine qs gc rfl rfl 1 rfl (t-15) zo zo (0+(t-15)) zo (j5 gc rfl rfl (fun w' j=>(a.ga j) (t-15) _ (Ax _ (by rw[qq];omega))) ?_)
   refine gx gc 2 rfl (jj (j9 (gy (km rfl (gi call211 rfl (turned17_calls w5 _) fun v6 w6 a0=> ?_)))))
   obtain⟨rfl,rfl⟩:=a0
   refine j7 gc rfl (gi call211 rfl (turned19_calls w6 _) fun v7 w7 a1=> ?_)
   obtain⟨rfl,rfl⟩:=a1
   refine j7 gc rfl ?_
   rw[zj1,div1024,zj1,←mix2]
   refine ql (km rfl (gi call211 rfl (turned7_calls w7 _) fun v8 w8 a2=> ?_))
   obtain⟨rfl,rfl⟩:=a2
   refine j7 gc rfl (gi call211 rfl (turned18_calls w8 _) fun v9 w9 a3=> ?_)
   obtain⟨rfl,rfl⟩:=a3
   refine j7 gc rfl ?_
   rw[zj1,div8,zj1,←mix2]
   refine ql ?_
   refine jt rfl 17 [(0,true),(1,true),(2,true),(3,true),(4,true),(5,true),(6,true),(7,true),(8,true),(9,true),(10,true),(11,true),(12,true),(13,true),(14,true),(15,true),(16,false)] [17,18] (No) zk fun a4 B a8=> ?_
   have a:=n
   have i:=i.ext B fun _ _=>id
   have d:=d.gb B
   have hC:Ext (No) _ a4:=B.no
   refine gx gc 5 rfl ?_
   rw[IntWalk.i64_in _ zo]
   refine qs gc rfl rfl 1 rfl (t-7) zo zo (0+(t-7)) zo (j5 gc rfl rfl (fun w' j=>(a.ga j) (t-7) _ (Ax _ (by rw[qq];omega))) ?_)
   refine gx gc 6 rfl ?_
   rw[IntWalk.i64_in _ zo]
   refine qs gc rfl rfl 1 rfl (t-16) zo zo (0+(t-16)) zo (j5 gc rfl rfl (fun w' j=>(a.ga j) (t-16) _ (Ax _ (by rw[qq];omega))) ?_)
   refine gx gc 1 rfl ?_
   rw[A9,A9,A9,Z]
   refine jg rfl (qc gc rfl 1 rfl rfl rfl zd zd zt rfl fun M a5 a9 C D aa=>⟨hC.gb D,?_⟩)
   have i:=i.ext D fun _ _=>id
   have d:=d.gb D
   have C:gz a5 M 35 (jr [nextW b (sched b t)]):=C
   refine jj ?_
   have s:=d
   refine wb rfl (uc gc rfl 1 4 rfl rfl rfl zd i (Src.slice (m:=1) ⟨rfl,.inr ⟨M,0,rfl,C.ki⟩⟩ OneC.h) zm zn fun H N a6 O P Q=> ?_)
   have d:=s.trans P fun y hy Y=>by have:=f y Y;omega
   have A:∀x,jd H x→w.heap.size≤x:=fun x I=>(Q x I).elim (fun h=>f x h) fun h=>Nat.le_trans s.size h
   have F:Own a6 H (t+1) N 35 1 (jr (sched b (t+1))):=by
    rw[sched,xq1]
    exact O
   refine wb rfl (D5 gc rfl rfl rfl (j9 ?_))
   exact jz (j4 (H,N) rfl ⟨⟨F,A⟩,d⟩)
  rintro⟨q,k⟩ ad ⟨⟨i,f⟩,d⟩
  dsimp only at i f
  refine yu rfl ?_
  rw[IntWalk.i64_in _ zo]
  refine gn ?_
  exact jm (t+1,q,k) rfl ⟨⟨by dsimp only;omega,i,f⟩,d⟩ zf
 have h0:t=64:=by omega
 subst h0
 refine Bg (jc rfl (gr (gv rfl rfl ?_)))
 exact⟨q,k,rfl,i,f,d⟩
theorem ch_eq (e f g:yo):(e&&&f||| ~~~e&&&g)=g^^^(e&&&(f^^^g)):=by
 apply BitVec.eq_of_getLsbD_eq
 intro i a
 simp only[BitVec.getLsbD_or,BitVec.getLsbD_and,BitVec.getLsbD_xor,BitVec.getLsbD_not,a,decide_true,Bool.true_and]
 cases e.getLsbD i<;>cases f.getLsbD i<;>cases g.getLsbD i<;>rfl
theorem maj_eq (a b c:yo):(a&&&b|||a&&&c|||b&&&c)=(a&&&b|||c&&&(a|||b)):=by
 apply BitVec.eq_of_getLsbD_eq
 intro i hi
 simp only[BitVec.getLsbD_or,BitVec.getLsbD_and]
 cases a.getLsbD i<;>cases b.getLsbD i<;>cases c.getLsbD i<;>rfl
theorem refInto_calls (w:World) {h:List yo} (hl:h.length=8) {p:Option Addr} {c:Nat} {b:List UInt8} (hsb:x3 w p b) (hb:b.length=64) (hc:64≤c) {kb:Nat} {d:Nat} (hk:Seg w kb 0 (jr qg)):
  gp prog 184 [.agg (jr h).toArray,.slice p b.length c,.slice (some ⟨kb,0,none⟩) 64 d] w fun v w'=>v= .agg (jr (intoW qg h b)).toArray∧Ext No w w':=by
 have b2:=hk.lt zd
 refine gh func184 rfl rfl rfl rfl ?_
 have m:=Ext.refl No w
 refine kz (gw rfl fun b3 w1 ag f a8=> ?_)
 have ah:=Nat.le_trans m.size ag
 have hk:=hk.ga a8
 have m:=m.gb a8
 have f:gz w1 b3 276 (jr h):=f
 refine gw rfl fun b6 w2 a9 g T=> ?_
 have U:b3≠b6:=Nat.ne_of_lt (Nat.lt_of_lt_of_le f.lt a9)
 have ai:=Nat.le_trans m.size a9
 have f:=f.ga T
 have hk:=hk.ga T
 have m:=m.gb T
 refine ql (km rfl ?_)
 refine gi call210 rfl (out_calls w2 (hsb.ga m) hb hc) fun v3 w3 aj=> ?_
 obtain⟨q,kq,rfl,hq,ak,H⟩:=aj
 have f:=f.ga H
 have g:=g.ga H
 have hk:=hk.ga H
 have m:=m.gb H
 obtain⟨I,rfl,j⟩:∃I,q=some ⟨I,0,none⟩∧Seg w3 I 0 (jr (sched b 64)):=by
  rcases hq with⟨_,h0,_⟩|⟨I,l,h1,h2,_,_,_,h3⟩
  ·omega
  refine⟨I,h1,?_⟩
  rw[←h3]
  exact h2.ki.take _
 have av:=ak I rfl
 have aa:=qq b 64
 have aw:=j.lt (by intro e;have e:=congrArg List.length e;rw[u0,aa] at e;cases e)
 have hi:intoW qg h b=List.zipWith (·+·) h (z6 h qg (sched b 64) 64):=rfl
 rw[hi]
 generalize sched b 64=W at aa j⊢
 refine ju rfl (kz (jh f rfl (by rw[u0,hl]) (gw rfl fun J w4 V a B=> ?_)))
 have s:b3≠J:=Nat.ne_of_lt (Nat.lt_of_lt_of_le f.lt V)
 have C:b6≠J:=Nat.ne_of_lt (Nat.lt_of_lt_of_le g.lt V)
 have ab:=Nat.le_trans m.size V
 have f:=f.ga B
 have g:=g.ga B
 have hk:=hk.ga B
 have j:=j.ga B
 have m:=m.gb B
 have M:¬One J kb:=fun e=>by have e:kb=J:=e;omega
 have N:¬One J I:=fun e=>by have e:I=J:=e;omega
 refine wl (j8 (l':=jr h) gc a rfl rfl (by rw[u0,hl]) (by rw[u0,hl];rfl) OneC.h fun w5 a D b4=> ?_)
 have f:=f.gk D s
 have g:=g.gk D C
 have hk:=hk.ext D M
 have j:=j.ext D N
 have m:=m.gj D ab
 refine ql (gl (jc rfl (gu ?_)))
 refine jn (α:=Nat) [2,3,6,7,8] rfl (fun z=>[(9,.int .i64 (z:Int))]) (fun z u=>(z≤64∧Seg u I 0 (jr W)∧Seg u kb 0 (jr qg))∧gz u b3 276 (jr h)∧gz u b6 276 (cellsOf ti276.zero)∧gz u J 276 (jr (z6 h qg W z))∧Ext No w u) (fun z u=>64-z) (0) rfl ⟨⟨by decide,j,hk⟩,f,g,a,m⟩ ?_
 rintro t w6 ⟨⟨ht,j,hk⟩,f,g,a,m⟩
 refine gl (jc rfl (jp rfl (fun hc=> ?_) (fun hc=> ?_)))
 ·have ht:t<64:=by omega
  obtain⟨O,Y,a2,a3,F,Z,G,a7,h8⟩:=eight (l:=z6 h qg W t) (by rw[Db,hl])
  rw[h8] at a
  have hW:=Ax W (i:=t) zo
  have al:=Ax qg (i:=t) ht
  refine xy (gu (kz (ka rfl 1 rfl 4 rfl zd 4 rfl (jb a rfl rfl (ju rfl (gl ?_))))))
  refine jt rfl 33 [(0,true),(1,true),(2,true),(4,true),(7,true),(11,true),(12,true),(13,true),(14,true),(15,true),(16,true),(17,true),(18,true),(19,true),(20,true),(22,true),(23,true),(24,true),(25,true),(27,true),(28,true),(29,true),(30,true),(3,false),(5,false),(6,true),(8,false),(9,true),(10,true),(21,true),(26,true),(31,true),(32,true)] [] (No) zk fun w7 x b5=> ?_
  have o:=a
  have am:=hk
  have X:=j
  have f:=f.ga x
  have g:=g.ga x
  have a:=a.ga x
  have hk:=hk.ga x
  have j:=j.ga x
  have m:=m.gb x
  have y:Ext (No) _ w7:=x.no
  refine qs gc rfl rfl 1 rfl 7 rfl zd 7 rfl (j5 gc rfl rfl (fun w' k=>(o.ga k).cell rfl) ?_)
  refine gx gc 4 rfl (qs gc rfl rfl 1 rfl 5 rfl zd 5 rfl (j5 gc rfl rfl (fun w' k=>(o.ga k).cell rfl) ?_))
  refine gx gc 3 rfl (qs gc rfl rfl 1 rfl 6 rfl zd 6 rfl (j5 gc rfl rfl (fun w' k=>(o.ga k).cell rfl) ?_))
  refine gx gc 4 rfl (qs gc rfl rfl 1 rfl t rfl ht (0+t) zo (j5 gc rfl rfl (fun w' k=>(am.ga k) t _ al) ?_))
  refine gx gc 2 rfl (qs gc rfl rfl 1 rfl t rfl ht (0+t) zo (j5 gc rfl rfl (fun w' k=>(X.ga k) t _ hW) ?_))
  refine jg rfl (j2 call211 rfl (turned6_calls w7 _) fun v8 w8 ac=>⟨(by obtain⟨rfl,rfl⟩:=ac;exact y),?_⟩)
  obtain⟨rfl,rfl⟩:=ac
  have y:=y
  refine jg rfl (j2 call211 rfl (turned11_calls w8 _) fun v9 w9 ad=>⟨(by obtain⟨rfl,rfl⟩:=ad;exact y),?_⟩)
  obtain⟨rfl,rfl⟩:=ad
  have y:=y
  refine gx gc 1 rfl (jg rfl (j2 call211 rfl (turned25_calls w9 _) fun b7 b9 P=>⟨(by obtain⟨rfl,rfl⟩:=P;exact y),?_⟩))
  obtain⟨rfl,rfl⟩:=P
  refine gx gc 5 rfl ?_
  rw[zj1,zj1,w_not,w_and,w_and,w_or,A9,A9,A9,A9,←mix3,ch_eq]
  refine gx gc 1 rfl (jj (j9 (gy (kz (ka rfl 1 rfl 0 rfl zd 0 rfl (jb a rfl rfl (ju rfl (gl ?_))))))))
  refine jt rfl 25 [(0,true),(2,true),(5,true),(8,true),(9,true),(10,true),(11,true),(12,true),(13,true),(14,true),(15,true),(16,true),(17,true),(18,true),(19,true),(20,true),(21,true),(22,true),(1,false),(3,false),(4,true),(6,false),(7,true),(23,true),(24,true)] [] (No) zk fun ae n ax=> ?_
  have o:=a
  have f:=f.ga n
  have g:=g.ga n
  have a:=a.ga n
  have hk:=hk.ga n
  have j:=j.ga n
  have m:=m.gb n
  have y:Ext (No) _ ae:=n.no
  refine gx gc 4 rfl (qs gc rfl rfl 1 rfl 1 rfl zd 1 rfl (j5 gc rfl rfl (fun w' k=>(o.ga k).cell rfl) ?_))
  refine gx gc 2 rfl (qs gc rfl rfl 1 rfl 2 rfl zd 2 rfl (j5 gc rfl rfl (fun w' k=>(o.ga k).cell rfl) ?_))
  refine gx gc 2 rfl (qs gc rfl rfl 1 rfl 1 rfl zd 1 rfl (j5 gc rfl rfl (fun w' k=>(o.ga k).cell rfl) ?_))
  refine qs gc rfl rfl 1 rfl 2 rfl zd 2 rfl (j5 gc rfl rfl (fun w' k=>(o.ga k).cell rfl) ?_)
  refine gx gc 2 rfl (jg rfl (j2 call211 rfl (turned2_calls ae _) fun ba an Q=>⟨(by obtain⟨rfl,rfl⟩:=Q;exact y),?_⟩))
  obtain⟨rfl,rfl⟩:=Q
  have y:=y
  refine jg rfl (j2 call211 rfl (turned13_calls an _) fun bb ao R=>⟨(by obtain⟨rfl,rfl⟩:=R;exact y),?_⟩)
  obtain⟨rfl,rfl⟩:=R
  have y:=y
  refine gx gc 1 rfl (jg rfl (j2 call211 rfl (turned22_calls ao _) fun bc bd S=>⟨(by obtain⟨rfl,rfl⟩:=S;exact y),?_⟩))
  obtain⟨rfl,rfl⟩:=S
  refine gx gc 2 rfl ?_
  rw[zj1,zj1,w_and,w_and,w_and,w_or,w_or,A9,←mix3,maj_eq]
  refine gx gc 1 rfl (jj (j9 (gy (yu rfl ?_))))
  rw[A9]
  refine ka rfl 1 rfl 0 rfl zd 0 rfl (jb a rfl rfl (ka rfl 1 rfl 1 rfl zd 1 rfl (jb a rfl rfl (ka rfl 1 rfl 2 rfl zd 2 rfl ?_))))
  refine jb a rfl rfl (ka rfl 1 rfl 3 rfl zd 3 rfl (jb a rfl rfl (j7 gc rfl ?_)))
  rw[A9]
  refine ka rfl 1 rfl 4 rfl zd 4 rfl (jb a rfl rfl (ka rfl 1 rfl 5 rfl zd 5 rfl (jb a rfl rfl (ka rfl 1 rfl 6 rfl zd 6 rfl ?_))))
  refine jb a rfl rfl ?_
  refine qa rfl zb (l':=jr [(a7+Bu F [6,11,25]+(G^^^(F&&&(Z^^^G)))+qg.getD t 0+W.getD t 0)+(Bu O [2,13,22]+((O&&&Y)|||(a2&&&(O|||Y)))),O,Y,a2,a3+(a7+Bu F [6,11,25]+(G^^^(F&&&(Z^^^G)))+qg.getD t 0+W.getD t 0),F,Z,G]) rfl ?_
  refine wl (j8 (l':=jr [(a7+Bu F [6,11,25]+(G^^^(F&&&(Z^^^G)))+qg.getD t 0+W.getD t 0)+(Bu O [2,13,22]+((O&&&Y)|||(a2&&&(O|||Y)))),O,Y,a2,a3+(a7+Bu F [6,11,25]+(G^^^(F&&&(Z^^^G)))+qg.getD t 0+W.getD t 0),F,Z,G]) gc a rfl rfl rfl rfl OneC.h fun ap a r ay=> ?_)
  have f:=f.gk r s
  have g:=g.gk r C
  have hk:=hk.ext r M
  have j:=j.ext r N
  have m:=m.gj r ab
  have a:gz ap J 276 (jr (z6 h qg W (t+1))):=by
   rw[z6,h8]
   exact a
  refine gn (B4 rfl ?_)
  rw[IntWalk.i64_in _ zo]
  refine gn ?_
  exact jm (t+1) rfl ⟨⟨by omega,j,hk⟩,f,g,a,m⟩ zf
 have h0:t=64:=by omega
 subst h0
 have aq:(z6 h qg W 64).length=8:=by rw[Db,hl]
 generalize z6 h qg W 64=L at a aq⊢
 refine Bg (gl (jc rfl (gu ?_)))
 refine jn (α:=Nat) [3,6,8] rfl (fun z=>[(14,.int .i64 (z:Int))]) (fun z u=>(z≤8)∧gz u b3 276 (jr (List.zipWith (·+·) (h.take z) (L.take z)++h.drop z))∧gz u b6 276 (cellsOf ti276.zero)∧gz u J 276 (jr L)∧Ext No w u) (fun z u=>8-z) (0) rfl ⟨by decide,f,g,a,m⟩ ?_
 rintro i bf ⟨K,f,g,a,m⟩
 refine gl (jc rfl (jp rfl (fun hc=> ?_) (fun hc=> ?_)))
 ·have K:i<8:=by omega
  have h1:i<h.length:=by omega
  have h2:i<L.length:=by omega
  have ar:=A1 L h2
  refine xy (gu (jt rfl 9 [(0,true),(1,true),(2,true),(3,true),(4,true),(5,true),(6,true),(7,true),(8,true)] [9] (No) zk fun bg A az=> ?_))
  have au:=f
  have o:=a
  have f:=f.ga A
  have g:=g.ga A
  have a:=a.ga A
  have m:=m.gb A
  refine gx gc 2 rfl (qs gc rfl rfl 1 rfl i rfl K (0+i*1) rfl (j5 gc rfl rfl (fun w' k=>(au.ga k).cell (i:=0+i*1) (v:=vg h[i]) (zip_at h1 h2)) ?_))
  refine gx gc 1 rfl (qs gc rfl rfl 1 rfl i rfl K (0+i) zo (j5 gc rfl rfl (fun w' k=>(o.ga k).cell (i:=0+i) (v:=vg L[i]) (by rw[Nat.zero_add];exact ar)) ?_))
  refine gx gc 1 rfl ?_
  rw[A9]
  refine qs gc rfl rfl 1 rfl i rfl K (0+i*1) rfl (jj ?_)
  refine wb rfl (qz gc f rfl rfl (by rw[u0,List.length_append,List.length_zipWith,List.length_take,List.length_take,List.length_drop];omega) fun bh f E b0=> ?_)
  have g:=g.gk E U.symm
  have a:=a.gk E s.symm
  have m:=m.gj E ah
  rw[zip_set h1 h2] at f
  refine j9 (B4 rfl ?_)
  rw[IntWalk.i64_in _ zo]
  refine gn ?_
  exact jm (i+1) rfl ⟨by omega,f,g,a,m⟩ zf
 have h0:i=8:=by omega
 subst h0
 have e1:h.take 8=h:=List.take_of_length_le zo
 have e2:L.take 8=L:=List.take_of_length_le zo
 have e3:h.drop 8=[]:=List.drop_eq_nil_of_le zo
 rw[e1,e2,e3,List.append_nil] at f
 have hZ:(jr (List.zipWith (·+·) h L)).length=8:=by rw[u0,List.length_zipWith];omega
 refine Bg (kz (jh f rfl hZ (wl (j8 (l':=jr (List.zipWith (·+·) h L)) gc g rfl rfl hZ (by rw[hZ];rfl) OneC.h fun bi g af b1=> ?_))))
 have m:=m.gj af ai
 refine ql (gr (qk [_] ⟨⟨b6,0,rfl,qu gc rfl rfl g.ki (by rw[hZ];rfl)⟩,trivial⟩ ?_))
 exact⟨rfl,m⟩
def yv7 (l:List UInt8) (j:Nat):List UInt8:=l++(128::List.replicate j 0)
theorem padJ_len (l:List UInt8) (j:Nat):(yv7 l j).length=l.length+1+j:=by simp[yv7];omega
theorem padJ_succ (l:List UInt8) (j:Nat):yv7 l (j+1)=yv7 l j++[0]:=by rw[yv7,List.replicate_succ',yv7];simp
theorem refPad_calls (w:World) {p:Option Addr} {c:Nat} {l:List UInt8} (h:x3 w p l) (hl:l.length<100000000):
  gp prog 182 [.slice p l.length c] w fun v w'=>∃q k,v= .slice q (Cc l).length k∧Own w' q (Cc l).length k 5 1 (ge (Cc l))∧(∀b,jd q b→w.heap.size≤b)∧Ext No w w':=by
 obtain⟨K,hK⟩:∃K,K=(l.length+72)/64*64-8-(l.length+1):=⟨_,rfl⟩
 have n:yv7 l K++be 8 (8*l.length)=Cc l:=by rw[Cc,←hK,yv7];simp
 refine gh func182 rfl rfl rfl rfl ?_
 have a:=Ext.refl No w
 refine jc rfl (km rfl (wl (qc gc rfl 1 rfl rfl rfl zd zd zt rfl fun S T a0 g D a1=> ?_)))
 have a:=a.gb D
 have g:gz T S 5 (ge [128]):=g
 have i:=a
 refine gi call97 rfl (both_calls T (m:=[128]) (h.ga a) ⟨rfl,.inr ⟨S,0,rfl,g.ki⟩⟩ zo zd) fun v2 w2 E=> ?_
 obtain⟨q,k,rfl,f,d,F⟩:=E
 have a:=a.gb F
 have d:∀x,jd q x→w.heap.size≤x:=fun x G=>Nat.le_trans i.size (d x G)
 refine ju rfl (gl (gu ?_))
 refine jn (α:=Nat×Option Addr×Nat) [0] rfl (fun z=>[(3,.slice z.2.1 (yv7 l z.1).length z.2.2)]) (fun z u=>(z.1≤K∧Own u z.2.1 (yv7 l z.1).length z.2.2 5 1 (ge (yv7 l z.1))∧(∀x,jd z.2.1 x→w.heap.size≤x))∧Ext No w u) (fun z u=>K-z.1) (0,q,k) rfl ⟨⟨Nat.zero_le _,f,d⟩,a⟩ ?_
 rintro⟨j,q,k⟩ w3 ⟨⟨hj,f,d⟩,a⟩
 try dsimp only
 dsimp only at hj f d
 have a2:=padJ_len l j
 have e8:(IntKind.i64.wrap (((yv7 l j).length:Int)+8)).tmod 64=(((l.length+9+j)%64:Nat):Int):=by
  rw[IntWalk.i64_in _ zo,Int.tmod_eq_emod_of_nonneg zo]
  omega
 refine gl (km rfl ?_)
 rw[e8]
 refine ju rfl (jp rfl (fun hc=> ?_) (fun hc=> ?_))
 ·have a3:j<K:=by omega
  refine j6 (gy (gu (yu rfl (wl (qc gc rfl 1 rfl rfl rfl zd zd zt rfl fun o w4 U e s a4=> ?_)))))
  have f:=f.ext s fun _ _=>id
  have a:=a.gb s
  have e:gz w4 o 5 (ge [0]):=e
  have t:=a
  refine wl (uc gc rfl 1 1 rfl rfl rfl zd f (Src.slice (m:=1) ⟨rfl,.inr ⟨o,0,rfl,e.ki⟩⟩ OneC.h) zm zn fun H V w5 I J L=> ?_)
  have a:=t.trans J fun y hy hF=>by have:=d y hF;omega
  have A:∀x,jd H x→w.heap.size≤x:=fun x G=>(L x G).elim (fun h=>d x h) fun h=>Nat.le_trans t.size h
  have e9:=padJ_succ l j
  have B:(yv7 l j).length+1=(yv7 l (j+1)).length:=by rw[padJ_len,padJ_len];omega
  have M:Own w5 H (yv7 l (j+1)).length V 5 1 (ge (yv7 l (j+1))):=by
   rw[←B,e9,jy]
   exact I
  dsimp only
  rw[B]
  refine j7 gc rfl (gn ?_)
  exact jz (jm (j+1,H,V) rfl ⟨⟨by dsimp only;omega,M,A⟩,a⟩ zf)
 have h0:j=K:=by omega
 subst h0
 refine Bg (km rfl ?_)
 rw[show IntKind.u64.wrap (IntKind.u64.wrap (l.length:Int)*8)=((8*l.length:Nat):Int) from by rw[IntWalk.u64_in (l.length:Int) zo,IntWalk.u64_in _ zo];omega]
 refine gi call96 rfl (Cn 8 zd w3 (8*l.length) zo) fun v6 w6 N=> ?_
 obtain⟨W,X,rfl,O,Y,C⟩:=N
 have f:=f.ext C fun _ _=>id
 have a:=a.gb C
 rw[show Value.slice W 8 X= .slice W (be 8 (8*l.length)).length X from by rw[jw]]
 have i:=a
 refine gi call97 rfl (both_calls w6 f.sl (by rw[x3,jw];exact O.sl) zo (by rw[jw];decide)) fun v7 w7 P=> ?_
 obtain⟨r,kr,rfl,Z,Q,R⟩:=P
 have a:=a.gb R
 rw[n] at Z⊢
 refine ju rfl (gr (gv rfl rfl ?_))
 exact⟨r,kr,rfl,Z,fun b hb=>Nat.le_trans i.size (Q b hb),a⟩
theorem flat4_get (H:List yo) {j:Nat} (hj:j<4*H.length):(H.flatMap fun x=>be 4 x.toNat)[j]? =(be 4 (H.getD (j/4) 0).toNat)[j%4]? :=by
 induction H generalizing j with
 |nil=>simp at hj
 |cons x r ih=>
  rw[List.flatMap_cons]
  by_cases h4:j<4
  ·rw[List.getElem?_append_left (by rw[jw];exact h4),Nat.div_eq_of_lt h4,Nat.mod_eq_of_lt h4]
   rfl
  obtain⟨i,rfl⟩:∃i,j=i+4:=⟨j-4,by omega⟩
  rw[List.getElem?_append_right (by rw[jw];omega),jw,Nat.add_sub_cancel,ih (by rw[List.length_cons] at hj;omega),Nat.add_mod_right,Nat.add_div_right _ zd]
  rfl
theorem bytes_set (D:List UInt8) {j n:Nat} (h1:j<D.length) (h2:j<n):(ge (D.take j++List.replicate (n-j) 0)).set (0+j*1) (Aa D[j])=ge (D.take (j+1)++List.replicate (n-(j+1)) 0):=by
 have a:(D.take j).length=j:=by rw[List.length_take];omega
 have b:n-j=(n-(j+1))+1:=by omega
 rw[Nat.zero_add,Nat.mul_one,ge,←List.map_set,List.set_append_right _ _ zo,a,Nat.sub_self,b,List.replicate_succ,List.set_cons_zero,List.take_succ_eq_append_getElem h1,List.append_assoc]
 rfl
theorem refSum_calls (w:World) {p:Option Addr} {c:Nat} {l:List UInt8} (h:x3 w p l) (hl:l.length<100000000):
  gp prog 130 [.slice p l.length c] w fun v w'=>v= .agg (ge (sumW l)).toArray∧Ext No w w':=by
 refine gh func130 rfl rfl rfl rfl ?_
 have f:=Ext.refl No w
 refine kz (gw rfl fun R w1 a6 a a7=> ?_)
 have a8:=Nat.le_trans f.size a6
 have f:=f.gb a7
 refine ql (kz (qa rfl zb (l':=jr yl) rfl (gw rfl fun I w2 S d T=> ?_)))
 have y:R≠I:=Nat.ne_of_lt (Nat.lt_of_lt_of_le a.lt S)
 have U:=Nat.le_trans f.size S
 have a:=a.ga T
 have f:=f.gb T
 refine wl (j8 (l':=jr yl) gc d rfl rfl rfl rfl OneC.h fun w3 d V az=> ?_)
 have a:=a.gk V y
 have f:=f.gj V U
 refine ql (km rfl ?_)
 have J:=d.lt
 have au:=a.lt
 refine gi call182 rfl (refPad_calls w3 (h.ga f) hl) fun v4 w4 a9=> ?_
 obtain⟨q,kq,rfl,hq,aa,E⟩:=a9
 have a:=a.ga E
 have d:=d.ga E
 have f:=f.gb E
 have ab:(Cc l).length%64=0:=by rw[yj1];omega
 have ac:(Cc l).length<200000000:=by rw[yj1];omega
 have W:sumW l=(zu qg yl (Cc l) ((Cc l).length/64)).flatMap fun x=>be 4 x.toNat:=rfl
 rw[W]
 have X:=hq.cap
 have s:x3 w4 q (Cc l):=hq.sl
 have Y:∀b Z,q=some ⟨b,Z,none⟩→¬One I b:=fun b Z e hb=>by
  have hb:b=I:=hb
  rcases hq with⟨_,Q,_⟩|⟨bq,_,h1,_⟩
  ·rw[yj1] at Q;omega
  rw[h1] at e
  cases e
  have:=aa b h1
  omega
 clear hq
 generalize Cc l=P at s ab ac X⊢
 have J:=Nat.lt_of_lt_of_le J E.size
 refine ju rfl (kz (gi call183 rfl (known_calls w4) fun v5 w5 ad=> ?_))
 obtain⟨bk,rfl,b0,ae,F⟩:=ad
 have a:=a.ga F
 have d:=d.ga F
 have s:=s.ga F
 have f:=f.gb F
 have m:Seg w5 bk 0 (jr qg):=ae.ki
 have a0:¬One I bk:=fun e=>by have e:bk=I:=e;omega
 refine ju rfl (gl (jc rfl (gu ?_)))
 refine jn (α:=Nat) [2,3,4,5] rfl (fun z=>[(6,.int .i64 ((64*z:Nat):Int))]) (fun z u=>(64*z≤P.length∧x3 u q P∧Seg u bk 0 (jr qg))∧gz u R 30 (cellsOf ti30.zero)∧gz u I 276 (jr (zu qg yl P z))∧Ext No w u) (fun z u=>P.length-64*z) (0) rfl ⟨⟨Nat.zero_le _,s,m⟩,a,d,f⟩ ?_
 rintro k w6 ⟨⟨hk,s,m⟩,a,d,f⟩
 refine gl (jc rfl (jp rfl (fun hc=> ?_) (fun hc=> ?_)))
 ·have av:64*k+64≤P.length:=by omega
  have L:((P.drop (64*k)).take 64).length=64:=by rw[List.length_take,List.length_drop];omega
  have A:(zu qg yl P k).length=8:=by rw[C4];rfl
  refine xy (gu (jt rfl 8 [(0,true),(1,true),(2,true),(3,true),(4,true),(5,true),(6,true),(7,false)] [8] (No) zk fun w7 t b1=> ?_))
  have af:=d
  have a:=a.ga t
  have d:=d.ga t
  have s:=s.ga t
  have m:=m.ga t
  have f:=f.gb t
  have hC:Ext (No) _ w7:=t.no
  refine qi gc rfl rfl (fun w' ag=>(af.ga ag).ki) (by rw[u0,A]) ?_
  refine gx gc 4 rfl ?_
  rw[IntWalk.i64_in _ zo]
  refine zq4 gc rfl rfl (64*k) (64*k+64) kq 1 rfl (.inr ⟨rfl,rfl⟩) (.inl (congrArg some zo)) (.inl (congrArg some zo)) zo zo (Nat.le_refl _) ?_
  dsimp only
  rw[show 64*k+64-64*k=((P.drop (64*k)).take 64).length from by rw[L];omega]
  refine gx gc 1 rfl ?_
  have ah:x3 w7 (u1 q (64*k) kq 1) ((P.drop (64*k)).take 64):=by
   have e:=Sl.slice s (64*k) (64*k+64) kq zo zo zo
   rw[Nat.mul_one,Nat.mul_one,ue,ui,show 64*k+64-64*k=64 from by omega] at e
   rw[x3,L]
   exact e
  refine jg rfl (j2 call184 rfl (refInto_calls w7 A (b:=(P.drop (64*k)).take 64) ah L zo m) fun v8 w8 a1=>⟨(by obtain⟨rfl,n⟩:=a1;exact hC.gb n),?_⟩)
  obtain⟨rfl,n⟩:=a1
  have a:=a.ga n
  have d:=d.ga n
  have s:=s.ga n
  have m:=m.ga n
  have f:=f.gb n
  refine jj ?_
  refine wb rfl (j8 (l':=jr (intoW qg (zu qg yl P k) ((P.drop (64*k)).take 64))) gc d rfl rfl (by rw[u0,intoW_len,A]) (by rw[u0,intoW_len,A,u0,A]) OneC.h fun w9 d G b4=> ?_)
  have a:=a.gk G y
  have s:=s.ext G Y
  have m:=m.ext G a0
  have f:=f.gj G U
  refine j9 (B4 rfl ?_)
  rw[IntWalk.i64_in _ zo]
  refine gn ?_
  exact jm (k+1) rfl ⟨⟨by omega,s,m⟩,a,d,f⟩ zf
 have Q:k=P.length/64:=by omega
 subst Q
 have ai:(zu qg yl P (P.length/64)).length=8:=by rw[C4];rfl
 generalize zu qg yl P (P.length/64)=H at d ai⊢
 have aj:=yv5 H
 have a2:∀j,j<4*H.length→(H.flatMap fun x=>be 4 x.toNat)[j]? =(be 4 (H.getD (j/4) 0).toNat)[j%4]? :=fun j=>flat4_get H
 generalize(H.flatMap fun x=>be 4 x.toNat)=D at aj a2⊢
 refine Bg (kz (gw rfl fun b7 ak M g B=> ?_))
 have N:R≠b7:=Nat.ne_of_lt (Nat.lt_of_lt_of_le a.lt M)
 have O:I≠b7:=Nat.ne_of_lt (Nat.lt_of_lt_of_le d.lt M)
 have al:=Nat.le_trans f.size M
 have a:=a.ga B
 have d:=d.ga B
 have f:=f.gb B
 have g:gz ak b7 30 (ge (D.take 0++List.replicate (32-0) 0)):=g
 refine ql (gl (jc rfl (gu ?_)))
 refine jn (α:=Nat) [2,3,7] rfl (fun z=>[(8,.int .i64 (z:Int))]) (fun z u=>(z≤32)∧gz u R 30 (cellsOf ti30.zero)∧gz u I 276 (jr H)∧gz u b7 30 (ge (D.take z++List.replicate (32-z) 0))∧Ext No w u) (fun z u=>32-z) (0) rfl ⟨by decide,a,d,g,f⟩ ?_
 rintro j am ⟨hj,a,d,g,f⟩
 refine gl (jc rfl (jp rfl (fun hc=> ?_) (fun hc=> ?_)))
 ·have K:j<32:=by omega
  have a3:=a2 j zo
  rw[List.getElem?_eq_getElem zo] at a3
  have an:=Ax H (i:=j/4) zo
  refine xy (gu (yu rfl ?_))
  rw[show IntKind.i64.wrap ((j:Int).tdiv 4)=((j/4:Nat):Int) from by rw[IntWalk.i64_quo _ _ zo];omega]
  refine ka rfl 1 rfl (j/4) rfl zo (0+j/4) zo (j0 rfl (d.cell (i:=0+j/4) (v:=vg (H.getD (j/4) 0)) (by rw[Nat.zero_add];exact an)) (j7 gc rfl ?_))
  rw[show IntKind.u64.wrap ((H.getD (j/4) 0).toNat:Int)=((H.getD (j/4) 0).toNat:Int) from by have:=(H.getD (j/4) 0).isLt;rw[IntWalk.u64_in _ zo]]
  refine gi call96 rfl (Cn 4 zd am (H.getD (j/4) 0).toNat (by have:=(H.getD (j/4) 0).isLt;omega)) fun b5 ao a4=> ?_
  obtain⟨qh,kh,rfl,ap,aw,o⟩:=a4
  have a:=a.ga o
  have d:=d.ga o
  have g:=g.ga o
  have f:=f.gb o
  obtain⟨bh,rfl,aq⟩:∃bh,qh=some ⟨bh,0,none⟩∧Seg ao bh 0 (ge (be 4 (H.getD (j/4) 0).toNat)):=by
   rcases ap with⟨_,Q,_⟩|⟨bh,l,h1,h2,_,_,_,h3⟩
   ·omega
   refine⟨bh,h1,?_⟩
   rw[←h3]
   exact h2.ki.take _
  have ar:(ge (be 4 (H.getD (j/4) 0).toNat))[j%4]? =some (Aa (D[j]'zo)):=by rw[ge,List.getElem?_map,←a3];rfl
  refine j7 gc rfl ?_
  rw[show((j:Int).tmod 4)=((j%4:Nat):Int) from rfl]
  refine ka rfl 1 rfl (j%4) rfl zo (0+j%4) zo (j0 rfl (aq (j%4) _ ar) (ka rfl 1 rfl j rfl K (0+j*1) rfl ?_))
  refine wl (qz gc g rfl rfl (by rw[gm,List.length_append,List.length_take,List.length_replicate];omega) fun b6 g C ax=> ?_)
  have a:=a.gk C N
  have d:=d.gk C O
  have f:=f.gj C al
  rw[bytes_set D zo K] at g
  refine gn (B4 rfl ?_)
  rw[IntWalk.i64_in _ zo]
  refine gn ?_
  exact jm (j+1) rfl ⟨by omega,a,d,g,f⟩ zf
 have Q:j=32:=by omega
 subst Q
 have e1:D.take 32++List.replicate (32-32) 0=D:=by rw[List.take_of_length_le zo];simp
 rw[e1] at g
 have r:(ge D).length=32:=by rw[gm];omega
 refine Bg (kz (jh g rfl r (wl (j8 (l':=ge D) gc a rfl rfl r (by rw[r];rfl) OneC.h fun b8 a a5 ay=> ?_))))
 have f:=f.gj a5 a8
 refine ql (gr (qk [_] ⟨⟨R,0,rfl,qu gc rfl rfl a.ki (by rw[r];rfl)⟩,trivial⟩ ?_))
 exact⟨rfl,f⟩
end Go.Proofs.YtpdiphfjmepijaaGreatDoor
namespace Go.Vc
def um (l:List UInt8):ByteArray:=⟨l.toArray⟩
theorem strU_size (l:List UInt8):(um l).size=l.length:=rfl
theorem strU_of (s:ByteArray):um s.data.toList=s:=by obtain⟨⟨x⟩⟩:=s;rfl
theorem Am {a b:List UInt8} (h:um a=um b):a=b:=by
 have e:=congrArg (fun s:ByteArray=>s.data.toList) h
 exact e
section
variable {P:Program} {I:qr} {f:Fs} {ops:Array Oper} {o:Oper} {env:Env} {w:World}
theorem run_b2s {p:Option Addr} {l:List UInt8} (h:x3 w p l) (c:Nat):(Conv.bytesToString (.slice p l.length c)).run P w= .ok (.string (um l)) w:=by
 unfold Conv.bytesToString
 cases p with
 |none=>
  obtain⟨_,h0|⟨b,off,hp,_⟩⟩:=h
  ·have:l=[]:=List.eq_nil_of_length_eq_zero h0
   subst this
   rfl
  cases hp
 |some a=>
  have hl:(loadCells a l.length).run P w= .ok (ge l).toArray w:=by
   obtain⟨_,h0|⟨b,off,hp,hs⟩⟩:=h
   ·have:l=[]:=List.eq_nil_of_length_eq_zero h0
    subst this
    rfl
   cases hp
   unfold loadCells
   have:=uq (P:=P) l.length 0 (ge l) #[] (by simpa using hs) (gm l)
   simpa using this
  simp only[Sem.run_bind,hl,Result.andThen_ok]
  have go:∀(m:List UInt8) (s:ByteArray),(forIn (m:=Sem) (ge m) s fun c s=>do
    match c with
    | .int .u8 n=>pure (ForInStep.yield (s.push (UInt8.ofNat n.toNat)))
    |_=>do
     stuck "bytesToString: byte expected"
     pure (ForInStep.yield s)).run P w= .ok (⟨s.data++m.toArray⟩:ByteArray) w:=by
   intro m
   induction m with
   |nil=>intro s;simp[ge]
   |cons x r ih=>
    intro s
    rw[show ge (x::r)=Aa x::ge r from rfl,List.forIn_cons]
    simp only[Sem.run_bind,Sem.run_pure,Result.andThen_ok]
    rw[ih]
    congr 2
    simp[ByteArray.push]
  rw[←Array.forIn_toList]
  refine(congrArg (fun r=>Result.andThen r _) (go l ByteArray.empty)).trans ?_
  simp only[Result.andThen_ok,Sem.run_pure]
  congr 2
  simp[um,ByteArray.empty,ByteArray.emptyWithCapacity]
  rfl
def b2sE (I:qr) (n:Nat) (ops:Array Oper) (env:Env) (o:Oper):Option (Option Addr×Nat×Nat×Nat):=
  match pre n ops env o with
  |false=>none
  |true=>match o.dst with
    |some d=>match o.op with
      | .convert s t x=>match xm I s with
        |some y=>match y.desc with
          | .slice e=>match xm I e with
            |some g=>match g.desc with
              | .int .u8=>match xm I t with
                |some z=>match z.desc with
                  | .string=>match vr env x with
                    |some (.slice p m c)=>some (p,m,c,d)
                    |_=>none
                  |_=>none
                |none=>none
              |_=>none
            |none=>none
          |_=>none
        |none=>none
      |_=>none
    |none=>none
theorem ov_b2s (hI:I.Ok P) {nn m c d:Nat} {p:Option Addr} (h:b2sE I nn ops env o=some (p,m,c,d)) {l:List UInt8} (hl:m=l.length) (hs:x3 w p l):
  pre nn ops env o=true∧o.dst=some d∧Ov P o env w (.string (um l)) w:=by
 subst hl
 unfold b2sE at h
 split at h
 ·cases h
 rename_i n
 split at h
 ·rename_i H q
  split at h
  ·rename_i s t x r
   split at h
   ·rename_i y u
    split at h
    ·rename_i e v
     split at h
     ·rename_i g A
      split at h
      ·rename_i a
       split at h
       ·rename_i z B
        split at h
        ·rename_i b
         split at h
         ·rename_i C J f D
          simp only[Option.some.injEq,Prod.mk.injEq] at h
          obtain⟨rfl,rfl,rfl,rfl⟩:=h
          refine⟨n,q,fun K E=> ?_⟩
          have i:=(hI.get u).under w
          have j:=(hI.get B).under w
          have k:=(hI.get A).under w
          rw[v] at i
          rw[b] at j
          rw[a] at k
          have F:=run_b2s (P:=P) hs f
          have G:(convert s t (.slice C l.length f)).run P w= .ok (.string (um l)) w:=by
           unfold convert
           rw[ja i,ja j]
           show(underlying e>>=_).run P w=_
           rw[ja k]
           exact F
          simp only[execOp,r,E _ _ D,Sem.run_bind,G,Result.andThen_ok,Sem.run_pure]
         cases h
        cases h
       cases h
      cases h
     cases h
    cases h
   cases h
  cases h
 cases h
theorem zw0 (hI:I.Ok P) {K:Env→World→Prop} {m c d:Nat} {p:Option Addr} (h:b2sE I f.n ops env o=some (p,m,c,d)) {l:List UInt8} (hl:m=l.length) (hs:x3 w p l)
  (k:K ((d,.string (um l))::env) w):St P f ops o env w K:=by
 obtain⟨a,b,e⟩:=ov_b2s (w:=w) hI h hl hs
 obtain⟨g,i⟩:=pre_eq a
 exact xe g i e (by rw[b];exact k)
theorem wd_b2s (hI:I.Ok P) {K:Act→World→Prop} {r:Dr} {i:Nat} {pl:List (Nat×Bool)} {dn:List Nat} (ho:ops[i]? =some o) {m c d:Nat} {p:Option Addr} (h:b2sE I f.n ops env o=some (p,m,c,d)) {l:List UInt8} (hl:m=l.length) (hs:∀w',r.C w'→x3 w' p l)
  (hs0:x3 w p l) (k:WD P f ops K r pl (i::dn) ((d,.string (um l))::env) w):WD P f ops K r ((i,true)::pl) dn env w:=by
 obtain⟨a,b,_⟩:=ov_b2s (w:=w) hI h hl hs0
 exact xj7 ho a b (fun w' e=>(ov_b2s (w:=w') hI h hl (hs w' e)).2.2) k
def eqKE (n:Nat) (ops:Array Oper) (env:Env) (o:Oper):Option (Nat×Bool×Value×Value×Nat):=
  match pre n ops env o with
  |false=>none
  |true=>match o.dst with
    |some d=>match o.op with
      | .binOp op t x y _=>match vr env x with
        |some (.agg a)=>match vr env y with
          |some (.agg b)=>match op with
            | .eql=>some (t,true,.agg a,.agg b,d)
            | .neq=>some (t,false,.agg a,.agg b,d)
            |_=>none
          |_=>none
        |_=>none
      |_=>none
    |none=>none
theorem ov_eqK {nn t d : Nat} {q : Bool} {a b : Value} (h : eqKE nn ops env o = some (t, q, a, b, d)) (hgd : P.eqGuardType P.depth t = false) (m : Nat) (hm : m ≤ 10000) (hk : P.keyTypeAt m t = true)
    {D D' : Nat} {la lb : List Lit} (fa : a.formed P t = true) (fb : b.formed P t = true) (ha : P.keyLits D t a.cells.toList = some la) (hb : P.keyLits D' t b.cells.toList = some lb) {p : Prop} [Decidable p] (hp : la = lb ↔ p) :
    pre nn ops env o = true ∧ o.dst = some d ∧ Ov P o env w (.bool (if q then decide p else decide (¬ p))) w := by
  unfold eqKE at h
  split at h
  · cases h
  · rename_i s
    split at h
    · rename_i I G
      split at h
      · rename_i J e x y u A
        split at h
        · rename_i f B
          split at h
          · rename_i g C
            have v : ∃ r : Bool, (Op.equal e (.agg f) (.agg g)).run P w = .ok r w ∧ (r = true ↔ p) ∨ e ≠ t ∨ a ≠ .agg f ∨ b ≠ .agg g := by
              by_cases ht : e = t ∧ a = .agg f ∧ b = .agg g
              · obtain ⟨rfl, rfl, rfl⟩ := ht
                obtain ⟨r, i, l⟩ := run_equalIn_deep (P := P) (10000 - m) m e hk w D D' _ _ la lb fa fb ha hb
                rw [Nat.sub_add_cancel hm] at i
                exact ⟨r, .inl ⟨i, l.trans hp⟩⟩
              · refine ⟨true, .inr ?_⟩
                by_cases i : e = t
                · by_cases l : a = .agg f
                  · exact .inr (.inr fun H => ht ⟨i, l, H⟩)
                  · exact .inr (.inl l)
                · exact .inl i
            split at h
            all_goals first
              | (cases h; done)
              | (simp only [Option.some.injEq, Prod.mk.injEq] at h
                 obtain ⟨rfl, rfl, rfl, rfl, rfl⟩ := h
                 obtain ⟨r, ⟨E, z⟩ | c | c | c⟩ := v
                 · refine ⟨s, G, fun K n => ?_⟩
                   have j : r = decide p := by
                     rw [Bool.eq_iff_iff, z]; simp
                   have F := run_eqGuard_agg (P := P) w (BinOp.eql) e x y f g hgd
                   have k := run_eqGuard_agg (P := P) w (BinOp.neq) e x y f g hgd
                   first
                     | (simp only [execOp, A, n _ _ B, n _ _ C, Sem.run_bind, F, k, Result.andThen_ok, binOp, E, Sem.run_pure, j]; simp; done)
                     | (simp only [execOp, A, n _ _ B, n _ _ C, Sem.run_bind, F, k, Result.andThen_ok, binOp, E, Sem.run_pure, j]; done)
                 · exact absurd rfl c
                 · exact absurd rfl c
                 · exact absurd rfl c)
          · cases h
        · cases h
      · cases h
    · cases h
theorem yx3 {K:Env→World→Prop} {t d:Nat} {q:Bool} {a b:Value} (h:eqKE f.n ops env o=some (t,q,a,b,d)) (hgd:P.eqGuardType P.depth t=false) (m:Nat) (hm:m≤10000) (hk:P.keyTypeAt m t=true)
  {D D':Nat} {la lb:List Lit} (fa:a.formed P t=true) (fb:b.formed P t=true) (ha:P.keyLits D t a.cells.toList=some la) (hb:P.keyLits D' t b.cells.toList=some lb) {p:Prop} [Decidable p] (hp:la=lb↔p)
  (k:K ((d,.bool (if q then decide p else decide (¬p)))::env) w):St P f ops o env w K:=by
 obtain⟨c,e,g⟩:=ov_eqK (P:=P) (w:=w) h hgd m hm hk fa fb ha hb hp
 obtain⟨i,j⟩:=pre_eq c
 exact xe i j g (by rw[e];exact k)
end
theorem yx5 {P:Program} {f:Fs} {ops:Array Oper} {o:Oper} {env:Env} {w:World} {K:Act→World→Prop} {r:Dr} {i:Nat} {pl:List (Nat×Bool)} {dn:List Nat} (ho:ops[i]? =some o) {t d:Nat} {q:Bool} {a b:Value} (h:eqKE f.n ops env o=some (t,q,a,b,d)) (hgd:P.eqGuardType P.depth t=false) (m:Nat) (hm:m≤10000) (hk:P.keyTypeAt m t=true)
  {D D':Nat} {la lb:List Lit} (fa:a.formed P t=true) (fb:b.formed P t=true) (ha:P.keyLits D t a.cells.toList=some la) (hb:P.keyLits D' t b.cells.toList=some lb) {p:Prop} [Decidable p] (hp:la=lb↔p)
  (k:WD P f ops K r pl (i::dn) ((d,.bool (if q then decide p else decide (¬p)))::env) w):WD P f ops K r ((i,true)::pl) dn env w:=by
 obtain⟨c,e,_⟩:=ov_eqK (P:=P) (w:=w) h hgd m hm hk fa fb ha hb hp
 exact xj7 ho c e (fun g _=>(ov_eqK (P:=P) (w:=g) h hgd m hm hk fa fb ha hb hp).2.2) k
/-! ### What a key's cells read as -/
theorem mapM_some {α β:Type} {f:α→Option β} {g:α→β}:∀{L:List α},(∀x∈L,f x=some (g x))→L.mapM f=some (L.map g)
 | [],_=>by simp
 |x::r,h=>by
  rw[List.mapM_cons,h x zp,mapM_some (L:=r) fun y hy=>h y (by simp[hy])]
  rfl
theorem flat_single {α β:Type} (f:α→β) (L:List α):(L.map fun x=>[f x]).flatten=L.map f:=by
 induction L with
 |nil=>rfl
 |cons x r ih=>rw[List.map_cons,List.flatten_cons,ih];rfl
def Cw (l:List UInt8):List Lit:=l.map fun b=>Lit.int .u8 (b.toNat:Int)
theorem vm {a b:List UInt8}:Cw a=Cw b↔a=b:=by
 refine⟨fun h=>(List.map_inj_right fun x y e=> ?_).1 h,fun h=>by rw[h]⟩
 simp only[Lit.int.injEq,true_and] at e
 exact UInt8.toNat_inj.1 zo
theorem lits_bytes {P:Program} {d t e n:Nat} (hu:P.underlying t=some (.array n e)) (hc:P.cellsOf t=n) (he:P.underlying e=some (.int .u8)) (hce:P.cellsOf e=1) {l:List UInt8} (hl:l.length=n):P.keyLits (d+2) t (ge l)=some (Cw l):=by
 unfold Program.keyLits
 simp only[hu,hc,hce,gm,hl,if_true]
 have c:∀i∈List.range n,P.keyLits (d+1) e (((ge l).drop (i*1)).take 1)=some [Lit.int .u8 ((l.getD i 0).toNat:Int)]:=by
  intro i a
  have a:i<l.length:=by rw[hl];exact List.mem_range.1 a
  have b:((ge l).drop (i*1)).take 1=[Aa (l.getD i 0)]:=by
   rw[Nat.mul_one,ge,←List.map_drop,List.drop_eq_getElem_cons a,List.getD_eq_getElem?_getD,List.getElem?_eq_getElem a]
   rfl
  rw[b]
  unfold Program.keyLits
  simp only[he]
  have:=(l.getD i 0).toNat_lt
  rw[if_pos]
  refine⟨trivial,?_⟩
  have b:IntKind.u8.min=0:=rfl
  have f:IntKind.u8.max=255:=rfl
  simp only[Lit.wf,b,f,Bool.and_eq_true,decide_eq_true_eq]
  omega
 rw[mapM_some c]
 simp only[Option.map_some,Option.some.injEq]
 rw[←hl]
 apply List.ext_getElem?
 intro i
 have:((List.range l.length).map fun i=>[Lit.int .u8 ((l.getD i 0).toNat:Int)]).flatten=(List.range l.length).map fun i=>Lit.int .u8 ((l.getD i 0).toNat:Int):=by
  exact flat_single _ _
 rw[this]
 simp only[Cw,List.getElem?_map]
 by_cases a:i<l.length
 ·rw[List.getElem?_eq_getElem a,List.getElem?_eq_getElem (by simpa using a)]
  simp[List.getD_eq_getElem?_getD,List.getElem?_eq_getElem a]
 rw[List.getElem?_eq_none (l:=List.range l.length) (by rw[List.length_range];omega),List.getElem?_eq_none (l:=l) zo]
 rfl
theorem lits_str {P:Program} {d t:Nat} (hu:P.underlying t=some .string) {s:List UInt8} (hs:s.length≤maxLen):P.keyLits (d+1) t [.string (um s)]=some [.string s]:=by
 unfold Program.keyLits
 simp only[hu]
 exact if_pos hs
theorem lits_bool {P:Program} {d t:Nat} (hu:P.underlying t=some .bool) (b:Bool):P.keyLits (d+1) t [.bool b]=some [.bool b]:=by
 unfold Program.keyLits
 simp only[hu]
theorem lits_struct {P : Program} {d t : Nat} {cs : List Value} {L : List (Nat × Nat)} (hu : P.underlying t = some (.struct (P.fieldsOf t))) (hn : (P.fieldsOf t).all (·.name != "_") = true) (hc : cs.length = P.cellsOf t)
  (hf:(P.fieldsOf t).toList.map (fun f=>(f.type,f.offset))=L) {ls:List (List Lit)} (hm:L.mapM (fun p=>P.keyLits d p.1 ((cs.drop p.2).take (P.cellsOf p.1)))=some ls):P.keyLits (d+1) t cs=some ls.flatten:=by
 unfold Program.keyLits
 simp only[hu]
 rw[if_pos ⟨hc,hn⟩]
 subst hf
 have:(P.fieldsOf t).toList.mapM (fun f=>P.keyLits d f.type ((cs.drop f.offset).take (P.cellsOf f.type)))=some ls:=by
  rw[←hm]
  generalize(P.fieldsOf t).toList=fs
  induction fs with
  |nil=>rfl
  |cons f fs ih=>simp only[List.map_cons,List.mapM_cons,ih]
 rw[this]
 rfl
abbrev Str:=List UInt8
abbrev xf (l:Str):Value:= .string (um l)
def okC (c:UInt8):Prop:=33≤c.toNat∧c.toNat≤126
instance (c:UInt8):Decidable (okC c):=inferInstanceAs (Decidable (_∧_))
def z7 (l:Str):Prop:=(∀c∈l,okC c)∧1≤l.length∧l.length≤48
instance (l:Str):Decidable (z7 l):=inferInstanceAs (Decidable (_∧_))
theorem pathNo {l:Str} {i:Nat} (hi:i<l.length) (h:¬okC l[i]):¬z7 l:=fun hp=>h (hp.1 _ (List.getElem_mem hi))
theorem pathIs {l:Str} (h:∀i (hi:i<l.length),okC l[i]):z7 l↔1≤l.length∧l.length≤48:=
 ⟨fun hp=>hp.2,fun hl=>⟨fun c hc=>by obtain⟨i,hi,rfl⟩:=List.mem_iff_getElem.1 hc;exact h i hi,hl⟩⟩
theorem xz3 {α:Type} {p:α→Prop} {l:List α} {i:Nat} (h:∀k (hk:k<l.length),k<i→p l[k]) (hi:i<l.length) (h1:p l[i]):∀k (hk:k<l.length),k<i+1→p l[k]:=fun k hk hlt=>by
 rcases Nat.lt_or_ge k i with h'|h'
 ·exact h k hk h'
 obtain rfl:k=i:=by omega
 exact h1
structure Ak where
  path:Str
  text:Str
  deriving DecidableEq
structure je where
  path:Str
  id:List UInt8
  deriving DecidableEq
structure ud where
  path:Str
  is:Bool
  text:Str
  deriving DecidableEq
def Ak.cells (r:Ak):List Value:=[xf r.path,xf r.text]
def je.cells (r:je):List Value:=xf r.path::ge r.id
def ud.cells (r:ud):List Value:=[xf r.path,.bool r.is,xf r.text]
theorem flat_at {α:Type} {f:α→List Value} {n:Nat}:∀{l:List α},(∀x∈l,(f x).length=n)→∀{i:Nat} (hi:i<l.length),((l.flatMap f).drop (i*n)).take n=f l[i]
 | [],_,i,hi=>absurd hi (Nat.not_lt_zero _)
 |x::r,h,0,_=>by
  rw[Nat.zero_mul,List.drop_zero,List.flatMap_cons,List.take_append_of_le_length (by rw[h x zp];exact Nat.le_refl _),List.take_of_length_le (by rw[h x zp];exact Nat.le_refl _)]
  rfl
 |x::r,h,i+1,hi=>by
  have hx:=h x zp
  rw[List.flatMap_cons,Nat.succ_mul,Nat.add_comm,←List.drop_drop,←hx,List.drop_left,hx,flat_at (fun y hy=>h y (by simp[hy])) (by simpa using hi)]
  rfl
theorem yx7 {α:Type} {f:α→List Value} {n:Nat}:∀{l:List α},(∀x∈l,(f x).length=n)→(l.flatMap f).length=l.length*n
 | [],_=>by simp
 |x::r,h=>by
  rw[List.flatMap_cons,List.length_append,h x zp,yx7 (fun y hy=>h y (by simp[hy])),List.length_cons,Nat.succ_mul,Nat.add_comm]
theorem Sl.rowAt {α:Type} {w:World} {p:Option Addr} {f:α→List Value} {n:Nat} {l:List α} (h:Sl w p l.length n (l.flatMap f)) (hn:∀x∈l,(f x).length=n) {i:Nat} (hi:i<l.length):
  ∃b off,p=some ⟨b,off,none⟩∧Seg w b (off+i*n) (f l[i]):=by
 obtain⟨_,d|⟨b,off,a,c⟩⟩:=h
 ·omega
 refine⟨b,off,a,?_⟩
 have:=(c.drop (i*n)).take n
 rw[flat_at hn hi] at this
 exact this
theorem Sl.qv {α:Type} {w:World} {p:Option Addr} {f:α→List Value} {n:Nat} {l:List α} (h:Sl w p l.length n (l.flatMap f)) (hn:∀x∈l,(f x).length=n) (h0:0<l.length):
  ∃b off,p=some ⟨b,off,none⟩∧∀i (hi:i<l.length),Seg w b (off+i*n) (f l[i]):=by
 obtain⟨_,d|⟨b,off,a,c⟩⟩:=h
 ·omega
 refine⟨b,off,a,fun i hi=> ?_⟩
 have:=(c.drop (i*n)).take n
 rw[flat_at hn hi] at this
 exact this
theorem Ak.len (r:Ak):r.cells.length=2:=rfl
theorem ud.len (r:ud):r.cells.length=3:=rfl
theorem je.len {r:je} (h:r.id.length=32):r.cells.length=33:=by simp[je.cells,gm,h]
instance (r:Ak):OneC r.cells:=by unfold Ak.cells;infer_instance
instance (r:ud):OneC r.cells:=by unfold ud.cells;infer_instance
instance (r:je):OneC r.cells:=by unfold je.cells;infer_instance
def yx0 (l:List Str):Prop:=l.length≤32∧∀i (hi:i<l.length),z7 l[i]∧(0<i→SLt (um (l[i-1]'zo)) (um l[i]))
instance (l:List Str):Decidable (yx0 l):=inferInstanceAs (Decidable (_∧_))
def xx2 (l:List Ak):Prop:=¬(∃r∈l,256<r.text.length)∧yx0 (l.map Ak.path)
instance (l:List Ak):Decidable (xx2 l):=inferInstanceAs (Decidable (_∧_))
theorem bl_total:∀(x y:List UInt8),(Op.bytesLess x y=true∨x=y)∨Op.bytesLess y x=true
 | [],[]=> .inl (.inr rfl)
 | [],_::_=> .inl (.inl rfl)
 |_::_,[]=> .inr rfl
 |a::x,b::y=>by
  simp only[Op.bytesLess,Bool.or_eq_true,Bool.and_eq_true,decide_eq_true_eq,beq_iff_eq]
  rcases Nat.lt_trichotomy a.toNat b.toNat with h|h|h
  ·exact .inl (.inl (.inl (UInt8.lt_iff_toNat_lt.2 h)))
  ·obtain rfl:a=b:=UInt8.toNat_inj.1 h
   rcases bl_total x y with(h1|h1)|h1
   ·exact .inl (.inl (.inr ⟨rfl,h1⟩))
   ·exact .inl (.inr (by rw[h1]))
   exact .inr (.inr ⟨rfl,h1⟩)
  exact .inr (.inl (UInt8.lt_iff_toNat_lt.2 h))
theorem xv3:∀(x y:List UInt8),Op.bytesLess x y=true→Op.bytesLess y x=true→False
 | [],[],h,_=>by cases h
 | [],_::_,_,h=>by cases h
 |_::_,[],h,_=>by cases h
 |a::x,b::y,h,k=>by
  simp only[Op.bytesLess,Bool.or_eq_true,Bool.and_eq_true,decide_eq_true_eq,beq_iff_eq] at h k
  rcases h with h|⟨rfl,h⟩
  ·rcases k with k|⟨rfl,k⟩
   ·have:=UInt8.lt_iff_toNat_lt.1 h;have:=UInt8.lt_iff_toNat_lt.1 k;omega
   have:=UInt8.lt_iff_toNat_lt.1 h;omega
  rcases k with k|⟨_,k⟩
  ·have:=UInt8.lt_iff_toNat_lt.1 k;omega
  exact xv3 x y h k
def RowGood (l:List Ak) (i:Nat) (hi:i<l.length):Prop:=i≠32∧z7 l[i].path∧l[i].text.length≤256∧(0<i→SLt (um (l[i-1]'zo).path) (um l[i].path))
instance (l:List Ak) (i:Nat) (hi:i<l.length):Decidable (RowGood l i hi):=inferInstanceAs (Decidable (_∧_))
def ChgBad (c:ud):Prop:=256<c.text.length∨c.is=false∧c.text≠[]
instance (c:ud):Decidable (ChgBad c):=inferInstanceAs (Decidable (_∨_))
def xx5 (l:List ud):Prop:=¬(∃r∈l,ChgBad r)∧yx0 (l.map ud.path)
instance (l:List ud):Decidable (xx5 l):=inferInstanceAs (Decidable (_∧_))
def ChgGood (l:List ud) (i:Nat) (hi:i<l.length):Prop:=i≠32∧z7 l[i].path∧¬ChgBad l[i]∧(0<i→SLt (um (l[i-1]'zo).path) (um l[i].path))
instance (l:List ud) (i:Nat) (hi:i<l.length):Decidable (ChgGood l i hi):=inferInstanceAs (Decidable (_∧_))
end Go.Vc
namespace Go.Proofs.YtpdiphfjmepijaaGreatDoor
open Tryz
open Go.Vc
theorem path_calls (w:World) (l:Str) (hl:l.length<1000000000):
  gp prog 243 [xf l] w fun v w'=>v= .bool (decide (z7 l))∧w'=w:=by
 have q:(um l).size=l.length:=rfl
 refine gh func243 rfl rfl rfl rfl ?_
 have g:=Ext.refl No w
 refine jc rfl (gl (jc rfl (gu ?_)))
 refine jn (α:=Nat) [0,5] rfl (fun z=>[(6,.int .i64 (z:Int))]) (fun z u=>((z≤l.length∧∀k (o:k<l.length),k<z→okC l[k])∧u=w)∧Ext No w u) (fun z u=>l.length-z) (0) rfl ⟨⟨⟨Nat.zero_le _,fun k _ h=>absurd h (Nat.not_lt_zero _)⟩,rfl⟩,g⟩ ?_
 rintro i p ⟨⟨⟨f,b⟩,rfl⟩,g⟩
 refine jc rfl (gl (jp rfl (fun c=> ?_) (fun c=> ?_)))
 ·have f:i<l.length:=by omega
  have d:(um l).data.toList[i]? =some l[i]:=List.getElem?_eq_getElem f
  refine xy (gu (jc rfl (jv (α:=Bool) [0,5,6] rfl (fun z=>[(18,.bool z)]) (fun z u=>u=p∧z=decide (¬okC l[i])) ?_ ?_)))
  ·refine j1 ?_
   refine j7 gc rfl (wl (st_is gc rfl i rfl d (j7 gc rfl (jl 13 rfl (fun j=> ?_) (fun j=> ?_)))))
   ·refine j3 gc 5 rfl ?_
    refine gn ?_
    exact j4 (true) rfl ⟨rfl,by symm;rw[decide_eq_true_eq];intro h;have:=h.1;omega⟩
   refine j3 gc 2 rfl ?_
   refine wl (st_is gc rfl i rfl d (j3 gc 2 rfl (gn ?_)))
   exact j4 (_) rfl ⟨rfl,by rw[decide_eq_decide];unfold okC;omega⟩
  rintro z r ⟨a,rfl⟩
  have a:=a.symm
  subst a
  refine jp rfl (fun c=> ?_) (fun c=> ?_)
  ·have m:=pathNo f c
   refine jc rfl (gr (ji (gq (gq (ji (gq (gv rfl rfl ?_)))))))
   exact⟨by rw[decide_eq_false m],rfl⟩
  have n:okC l[i]:=Decidable.not_not.1 c
  refine j6 (B4 rfl ?_)
  rw[IntWalk.i64_in _ zo]
  refine gn ?_
  exact jm (i+1) rfl ⟨⟨⟨by omega,xz3 b f n⟩,rfl⟩,g⟩ zf
 have e:=pathIs (l:=l) fun k o=>b k o zo
 refine Bg (jv (α:=Bool) [] rfl (fun z=>[(2,.bool z)]) (fun z u=>u=p∧z=decide (1≤l.length∧l.length≤48)) ?_ ?_)
 ·refine j1 ?_
  refine j7 gc rfl (jl 23 rfl (fun j=> ?_) (fun j=> ?_))
  ·refine j3 gc 5 rfl ?_
   refine gn ?_
   exact j4 (_) rfl ⟨rfl,by rw[decide_eq_decide];omega⟩
  refine j3 gc 5 rfl ?_
  refine gn ?_
  exact j4 (_) rfl ⟨rfl,by symm;rw[decide_eq_false_iff_not];omega⟩
 rintro z s ⟨a,rfl⟩
 have a:=a.symm
 subst a
 refine gr (gv rfl rfl ?_)
 exact⟨by rw[decide_eq_decide.2 e],rfl⟩
theorem rowPath_calls (w:World) (r:Ak):
  gp prog 239 [.agg r.cells.toArray] w fun v w'=>v=xf r.path∧Ext No w w':=by
 refine gh func239 rfl rfl rfl rfl ?_
 have b:=Ext.refl No w
 refine kz (gw rfl fun d e f a c=> ?_)
 have b:=b.gb c
 have a:gz e d 321 (r.cells):=a
 refine ju rfl (km rfl (jb a rfl rfl (ju rfl (gr (gv rfl rfl ?_)))))
 exact⟨rfl,b⟩
theorem changePath_calls (w:World) (r:ud):
  gp prog 229 [.agg r.cells.toArray] w fun v w'=>v=xf r.path∧Ext No w w':=by
 refine gh func229 rfl rfl rfl rfl ?_
 have b:=Ext.refl No w
 refine kz (gw rfl fun d e f a c=> ?_)
 have b:=b.gb c
 have a:gz e d 150 (r.cells):=a
 refine ju rfl (km rfl (jb a rfl rfl (ju rfl (gr (gv rfl rfl ?_)))))
 exact⟨rfl,b⟩
theorem check1_calls (w:World) (r:Ak):
  gp prog 238 [.agg r.cells.toArray] w fun v w'=>v= .bool (decide (256<r.text.length))∧Ext No w w':=by
 refine gh func238 rfl rfl rfl rfl ?_
 have b:=Ext.refl No w
 refine kz (gw rfl fun d e f a c=> ?_)
 have b:=b.gb c
 have a:gz e d 321 (r.cells):=a
 refine ju rfl (km rfl (jb a rfl rfl (ju rfl (gr (gv rfl rfl ?_)))))
 exact⟨congrArg Value.bool (decide_eq_decide.2 (by have:(um r.text).size=r.text.length:=rfl;omega)),b⟩
theorem xz0 (w:World) {p:Option Addr} {c G:Nat} {l:List Ak} (h:Sl w p l.length 2 (l.flatMap Ak.cells)) (hl:l.length<1000000000) (Q:Ak→Prop) [DecidablePred Q]
  (hcf:∀args w,(callFunc G args).run prog w= .ok (.enter G args) w) (hQ:∀w (r:Ak),r.cells.length=2→gp prog G [.agg r.cells.toArray] w fun v w'=>v= .bool (decide (Q r))∧Ext No w w'):
  gp prog 246 [.slice p l.length c,.func (.func G) #[] #[]] w fun v w'=>∃n:Int,v= .int .i64 n∧(0≤n↔∃r∈l,Q r)∧Ext No w w':=by
 refine gh func246 rfl rfl rfl rfl ?_
 have a:=Ext.refl No w
 refine jc rfl (gl (jc rfl (gu ?_)))
 refine jn (α:=Nat) [0,1,7] rfl (fun z=>[(8,.int .i64 (z:Int))]) (fun z u=>(z≤l.length∧∀k (s:k<l.length),k<z→¬Q l[k])∧Ext No w u) (fun z u=>l.length-z) (0) rfl ⟨⟨Nat.zero_le _,fun k _ h=>absurd h (Nat.not_lt_zero _)⟩,a⟩ ?_
 rintro i t ⟨⟨j,d⟩,a⟩
 refine jc rfl (gl (jp rfl (fun e=> ?_) (fun e=> ?_)))
 ·have j:i<l.length:=by omega
  obtain⟨b,m,rfl,f⟩:=(h.ga a).rowAt (fun r _=>r.len) j
  refine xy (gu (jc rfl (km rfl (ka rfl 2 rfl i rfl zo (m+i*2) rfl (jo rfl f rfl ?_)))))
  refine gi hcf rfl (hQ t l[i] rfl) fun B C o=> ?_
  obtain⟨rfl,q⟩:=o
  have a:=a.gb q
  refine ql (jp rfl (fun e=> ?_) (fun e=> ?_))
  ·refine gl ?_
   refine j1 (ju rfl (gr (ji (gq (gq (ji (gq (gv rfl rfl ?_))))))))
   exact⟨_,rfl,⟨fun _=>⟨_,List.getElem_mem j,e⟩,fun _=>Int.natCast_nonneg _⟩,a⟩
  refine j6 ?_
  refine B4 rfl ?_
  rw[IntWalk.i64_in _ zo]
  refine gn ?_
  exact jm (i+1) rfl ⟨⟨by omega,xz3 (p:=fun x=>¬Q x) d j e⟩,a⟩ zf
 have g:¬∃r∈l,Q r:=fun⟨r,y,A⟩=>by
  obtain⟨k,s,rfl⟩:=List.mem_iff_getElem.1 y
  exact d k s zo A
 refine Bg (jc rfl (gr (gv rfl rfl ?_)))
 exact⟨_,rfl,⟨fun h=>absurd h zd,fun h=>absurd h g⟩,a⟩
theorem yq2 (w:World) {p:Option Addr} {c G:Nat} {l:List Ak} (h:Sl w p l.length 2 (l.flatMap Ak.cells)) (hl:l.length<1000000000) (Q:Ak→Prop) [DecidablePred Q]
  (hcf:∀args w,(callFunc G args).run prog w= .ok (.enter G args) w) (hQ:∀w (r:Ak),r.cells.length=2→gp prog G [.agg r.cells.toArray] w fun v w'=>v= .bool (decide (Q r))∧Ext No w w'):
  gp prog 237 [.slice p l.length c,.func (.func G) #[] #[]] w fun v w'=>v= .bool (decide (∃r∈l,Q r))∧Ext No w w':=by
 refine gh func237 rfl rfl rfl rfl ?_
 have a:=Ext.refl No w
 refine jc rfl (km rfl (gi call246 rfl (xz0 w (h.ga a) hl Q hcf hQ) fun f g b=> ?_))
 obtain⟨n,rfl,d,e⟩:=b
 have a:=a.gb e
 refine ju rfl (gr (gv rfl rfl ?_))
 exact⟨congrArg Value.bool (decide_eq_decide.2 d),a⟩
theorem yq5 (w:World) {p:Option Addr} {c G:Nat} {l:List ud} (h:Sl w p l.length 3 (l.flatMap ud.cells)) (hl:l.length<1000000000) (Q:ud→Prop) [DecidablePred Q]
  (hcf:∀args w,(callFunc G args).run prog w= .ok (.enter G args) w) (hQ:∀w (r:ud),r.cells.length=3→gp prog G [.agg r.cells.toArray] w fun v w'=>v= .bool (decide (Q r))∧Ext No w w'):
  gp prog 242 [.slice p l.length c,.func (.func G) #[] #[]] w fun v w'=>∃n:Int,v= .int .i64 n∧(0≤n↔∃r∈l,Q r)∧Ext No w w':=by
 refine gh func242 rfl rfl rfl rfl ?_
 have a:=Ext.refl No w
 refine jc rfl (gl (jc rfl (gu ?_)))
 refine jn (α:=Nat) [0,1,7] rfl (fun z=>[(8,.int .i64 (z:Int))]) (fun z u=>(z≤l.length∧∀k (s:k<l.length),k<z→¬Q l[k])∧Ext No w u) (fun z u=>l.length-z) (0) rfl ⟨⟨Nat.zero_le _,fun k _ h=>absurd h (Nat.not_lt_zero _)⟩,a⟩ ?_
 rintro i t ⟨⟨j,d⟩,a⟩
 refine jc rfl (gl (jp rfl (fun e=> ?_) (fun e=> ?_)))
 ·have j:i<l.length:=by omega
  obtain⟨b,m,rfl,f⟩:=(h.ga a).rowAt (fun r _=>r.len) j
  refine xy (gu (jc rfl (km rfl (ka rfl 3 rfl i rfl zo (m+i*3) rfl (jo rfl f rfl ?_)))))
  refine gi hcf rfl (hQ t l[i] rfl) fun B C o=> ?_
  obtain⟨rfl,q⟩:=o
  have a:=a.gb q
  refine ql (jp rfl (fun e=> ?_) (fun e=> ?_))
  ·refine gl ?_
   refine j1 (ju rfl (gr (ji (gq (gq (ji (gq (gv rfl rfl ?_))))))))
   exact⟨_,rfl,⟨fun _=>⟨_,List.getElem_mem j,e⟩,fun _=>Int.natCast_nonneg _⟩,a⟩
  refine j6 ?_
  refine B4 rfl ?_
  rw[IntWalk.i64_in _ zo]
  refine gn ?_
  exact jm (i+1) rfl ⟨⟨by omega,xz3 (p:=fun x=>¬Q x) d j e⟩,a⟩ zf
 have g:¬∃r∈l,Q r:=fun⟨r,y,A⟩=>by
  obtain⟨k,s,rfl⟩:=List.mem_iff_getElem.1 y
  exact d k s zo A
 refine Bg (jc rfl (gr (gv rfl rfl ?_)))
 exact⟨_,rfl,⟨fun h=>absurd h zd,fun h=>absurd h g⟩,a⟩
theorem zx0 (w:World) {p:Option Addr} {c G:Nat} {l:List ud} (h:Sl w p l.length 3 (l.flatMap ud.cells)) (hl:l.length<1000000000) (Q:ud→Prop) [DecidablePred Q]
  (hcf:∀args w,(callFunc G args).run prog w= .ok (.enter G args) w) (hQ:∀w (r:ud),r.cells.length=3→gp prog G [.agg r.cells.toArray] w fun v w'=>v= .bool (decide (Q r))∧Ext No w w'):
  gp prog 227 [.slice p l.length c,.func (.func G) #[] #[]] w fun v w'=>v= .bool (decide (∃r∈l,Q r))∧Ext No w w':=by
 refine gh func227 rfl rfl rfl rfl ?_
 have a:=Ext.refl No w
 refine jc rfl (km rfl (gi call242 rfl (yq5 w (h.ga a) hl Q hcf hQ) fun f g b=> ?_))
 obtain⟨n,rfl,d,e⟩:=b
 have a:=a.gb e
 refine ju rfl (gr (gv rfl rfl ?_))
 exact⟨congrArg Value.bool (decide_eq_decide.2 d),a⟩
theorem yv8 (w:World) {p:Option Addr} {c G:Nat} {l:List je} (hn:∀x∈l,(je.cells x).length=33) (h:Sl w p l.length 33 (l.flatMap je.cells)) (hl:l.length<1000000000) (Q:je→Prop) [DecidablePred Q]
  (hcf:∀args w,(callFunc G args).run prog w= .ok (.enter G args) w) (hQ:∀w (r:je),r.cells.length=33→gp prog G [.agg r.cells.toArray] w fun v w'=>v= .bool (decide (Q r))∧Ext No w w'):
  gp prog 241 [.slice p l.length c,.func (.func G) #[] #[]] w fun v w'=>∃n:Int,v= .int .i64 n∧(0≤n↔∃r∈l,Q r)∧Ext No w w':=by
 refine gh func241 rfl rfl rfl rfl ?_
 have a:=Ext.refl No w
 refine jc rfl (gl (jc rfl (gu ?_)))
 refine jn (α:=Nat) [0,1,7] rfl (fun z=>[(8,.int .i64 (z:Int))]) (fun z u=>(z≤l.length∧∀k (s:k<l.length),k<z→¬Q l[k])∧Ext No w u) (fun z u=>l.length-z) (0) rfl ⟨⟨Nat.zero_le _,fun k _ h=>absurd h (Nat.not_lt_zero _)⟩,a⟩ ?_
 rintro i t ⟨⟨d,e⟩,a⟩
 refine jc rfl (gl (jp rfl (fun f=> ?_) (fun f=> ?_)))
 ·have d:i<l.length:=by omega
  obtain⟨b,m,rfl,g⟩:=(h.ga a).rowAt (hn) d
  refine xy (gu (jc rfl (km rfl (ka rfl 33 rfl i rfl zo (m+i*33) rfl ?_))))
  refine jo rfl g (hn _ (List.getElem_mem d)) (gi hcf rfl (hQ t l[i] (hn _ (List.getElem_mem d))) fun B C o=> ?_)
  obtain⟨rfl,q⟩:=o
  have a:=a.gb q
  refine ql (jp rfl (fun f=> ?_) (fun f=> ?_))
  ·refine gl ?_
   refine j1 (ju rfl (gr (ji (gq (gq (ji (gq (gv rfl rfl ?_))))))))
   exact⟨_,rfl,⟨fun _=>⟨_,List.getElem_mem d,f⟩,fun _=>Int.natCast_nonneg _⟩,a⟩
  refine j6 ?_
  refine B4 rfl ?_
  rw[IntWalk.i64_in _ zo]
  refine gn ?_
  exact jm (i+1) rfl ⟨⟨by omega,xz3 (p:=fun x=>¬Q x) e d f⟩,a⟩ zf
 have j:¬∃r∈l,Q r:=fun⟨r,y,A⟩=>by
  obtain⟨k,s,rfl⟩:=List.mem_iff_getElem.1 y
  exact e k s zo A
 refine Bg (jc rfl (gr (gv rfl rfl ?_)))
 exact⟨_,rfl,⟨fun h=>absurd h zd,fun h=>absurd h j⟩,a⟩
theorem zw4 (w:World) {p:Option Addr} {c G:Nat} {l:List je} (hn:∀x∈l,(je.cells x).length=33) (h:Sl w p l.length 33 (l.flatMap je.cells)) (hl:l.length<1000000000) (Q:je→Prop) [DecidablePred Q]
  (hcf:∀args w,(callFunc G args).run prog w= .ok (.enter G args) w) (hQ:∀w (r:je),r.cells.length=33→gp prog G [.agg r.cells.toArray] w fun v w'=>v= .bool (decide (Q r))∧Ext No w w'):
  gp prog 225 [.slice p l.length c,.func (.func G) #[] #[]] w fun v w'=>v= .bool (decide (∃r∈l,Q r))∧Ext No w w':=by
 refine gh func225 rfl rfl rfl rfl ?_
 have a:=Ext.refl No w
 refine jc rfl (km rfl (gi call241 rfl (yv8 w hn (h.ga a) hl Q hcf hQ) fun f g b=> ?_))
 obtain⟨n,rfl,d,e⟩:=b
 have a:=a.gb e
 refine ju rfl (gr (gv rfl rfl ?_))
 exact⟨congrArg Value.bool (decide_eq_decide.2 d),a⟩
theorem xw6 (w:World) (r:ud):
  gp prog 228 [.agg r.cells.toArray] w fun v w'=>v= .bool (decide (ChgBad r))∧Ext No w w':=by
 have hs:(um r.text).size=r.text.length:=rfl
 refine gh func228 rfl rfl rfl rfl ?_
 have hX:=Ext.refl No w
 refine kz (gw rfl fun b1 w1 hn1 hb1 hE1=> ?_)
 have fr1:=Nat.le_trans hX.size hn1
 have hX:=hX.gb hE1
 have hb1:gz w1 b1 150 (r.cells):=hb1
 refine ju rfl (jv (α:=Bool) [] rfl (fun z=>[(2,.bool z)]) (fun z u=>(z=decide (ChgBad r))∧Ext No w u) ?_ ?_)
 ·refine j1 ?_
  refine j7 gc rfl (jb hb1 rfl rfl (j7 gc rfl (jl 7 rfl (fun hg=> ?_) (fun hg=> ?_))))
  ·refine j3 gc 10 rfl ?_
   refine gn ?_
   exact j4 (true) rfl ⟨by symm;rw[decide_eq_true_eq];exact .inl zo,hX⟩
  ·refine j3 gc 1 rfl ?_
   refine jb hb1 rfl rfl (j3 gc 2 rfl (ua 11 rfl (fun hg=> ?_) (fun hg=> ?_)))
   ·refine j3 gc 1 rfl ?_
    refine jb hb1 rfl rfl (j3 gc 4 rfl (gn ?_))
    exact j4 (_) rfl ⟨by
 have hi:r.is=false:=by simpa using hg
 have e:(um r.text≠ByteArray.mk #[])↔r.text≠[]:=by
  constructor
  ·intro h1 h2;exact h1 (by rw[h2];rfl)
  ·intro h1 h2;exact h1 (Am h2)
 rw[decide_eq_decide]
 refine e.trans ⟨fun h=> .inr ⟨hi,h⟩,fun h=>h.elim (fun h=>absurd h zo) fun h=>h.2⟩,hX⟩
   ·refine j3 gc 6 rfl ?_
    refine gn ?_
    exact j4 (false) rfl ⟨by symm;rw[decide_eq_false_iff_not];have hi:r.is=true:=(by simpa using hg);exact fun h=>h.elim (fun h=>absurd h zo) fun h=>absurd (hi.symm.trans h.1) zd,hX⟩
 rintro z w2 ⟨rfl,hX⟩
 refine gr (gv rfl rfl ?_)
 exact⟨rfl,hX⟩
theorem risingRow_calls (w:World) {p:Option Addr} {c G:Nat} {l:List Ak} (h:Sl w p l.length 2 (l.flatMap Ak.cells)) (hl:l.length<1000000000) (hlen:∀r∈l,r.path.length<1000000000)
  (hcf:∀args w,(callFunc G args).run prog w= .ok (.enter G args) w) (hQ:∀w (r:Ak),gp prog G [.agg r.cells.toArray] w fun v w'=>v=xf r.path∧Ext No w w'):
  gp prog 240 [.agg #[.slice p l.length c,.func (.func G) #[] #[]]] w fun v w'=>v= .bool (decide (yx0 (l.map Ak.path)))∧Ext No w w':=by
 refine gh func240 rfl rfl rfl rfl ?_
 have d:=Ext.refl No w
 refine kz (gw rfl fun P w1 a0 a R=> ?_)
 have d:=d.gb R
 have a:gz w1 P 339 ([.slice p l.length c,.func (.func G) #[] #[]]):=a
 refine ju rfl (gl (km rfl (jb a rfl rfl (ju rfl (jp rfl (fun q=> ?_) (fun q=> ?_))))))
 ·refine gl ?_
  refine j1 (ju rfl (gr (gq (gv rfl rfl ?_))))
  exact⟨congrArg Value.bool (by symm;rw[decide_eq_false_iff_not];intro h;have:=h.1;rw[List.length_map] at this;omega),d⟩
 have S:l.length≤32:=by omega
 refine xy (km rfl (jb a rfl rfl (ju rfl (gu ?_))))
 refine jn (α:=Nat) [1,10,11] rfl (fun z=>[(12,.int .i64 (z:Int))]) (fun z u=>(z≤l.length∧∀k (A:k<l.length),k<z→z7 l[k].path∧(0<k→SLt (um l[k-1].path) (um l[k].path)))∧gz u P 339 ([.slice p l.length c,.func (.func G) #[] #[]])∧Ext No w u) (fun z u=>l.length-z) (0) rfl ⟨⟨Nat.zero_le _,fun k _ h=>absurd h (Nat.not_lt_zero _)⟩,a,d⟩ ?_
 rintro i w2 ⟨⟨Q,B⟩,a,d⟩
 refine jc rfl (gl (jp rfl (fun q=> ?_) (fun q=> ?_)))
 ·have Q:i<l.length:=by omega
  obtain⟨b,s,rfl,f⟩:=h.qv (fun r _=>r.len) zo
  refine xy (gu (km rfl (ka rfl 2 rfl i rfl zo (s+i*2) rfl (jo rfl ((f i Q).ga d) rfl (gw rfl fun b4 w3 C t D=> ?_)))))
  have x:P≠b4:=Nat.ne_of_lt (Nat.lt_of_lt_of_le a.lt C)
  have T:=Nat.le_trans d.size C
  have a:=a.ga D
  have d:=d.gb D
  refine j7 gc rfl (wl (j8 (l':=(l[i]).cells) gc t rfl rfl rfl rfl OneC.h fun w4 t E a1=> ?_))
  have a:=a.gk E x
  have d:=d.gj E T
  refine ql ?_
  refine jv (α:=Bool) [1,10,11,12] rfl (fun z=>[(42,.bool z)]) (fun z u=>(z=decide (¬(z7 l[i].path∧(0<i→SLt (um l[i-1].path) (um l[i].path)))))∧gz u P 339 ([.slice (some ⟨b,s,none⟩) l.length c,.func (.func G) #[] #[]])∧Ext No w u) ?_ ?_
  ·refine jt rfl 26 [(0,true),(1,true),(2,true),(3,false),(4,false),(5,true),(6,true),(7,true),(8,true),(9,true),(10,true),(11,true),(12,true),(13,true),(14,true),(15,true),(16,true),(17,true),(19,true),(20,true),(21,true),(18,false),(22,false),(23,true),(24,true),(25,true)] [] (No) zk fun Z y a2=> ?_
   have n:=a
   have F:=t
   have U:=d
   have a:=a.ga y
   have d:=d.gb y
   have m:Ext (No) _ Z:=y.no
   refine gx gc 1 rfl (j5 gc rfl rfl (fun w' e=>(n.ga e).cell rfl) ?_)
   refine qi gc rfl rfl (fun w' e=>(F.ga e).ki) rfl ?_
   refine jg rfl (j2 hcf rfl (hQ Z l[i]) fun v6 w6 H=>⟨(by obtain⟨rfl,g⟩:=H;exact m.gb g),?_⟩)
   obtain⟨rfl,g⟩:=H
   have a:=a.ga g
   have d:=d.gb g
   have m:=m.gb g
   refine jg rfl (j2 call243 rfl (path_calls w6 l[i].path (hlen _ (List.getElem_mem Q))) fun v7 w7 I=>⟨(by obtain⟨rfl,rfl⟩:=I;exact m),?_⟩)
   obtain⟨rfl,rfl⟩:=I
   have m:=m
   refine gx gc 2 rfl (yj6 23 rfl (fun J=> ?_) (fun J=> ?_))
   ·have V:¬z7 l[i].path:=by simpa using J
    refine gx gc 19 rfl (jj (j9 ?_))
    exact j4 (true) rfl ⟨by symm;rw[decide_eq_true_eq];exact fun h=>V h.1,a,d⟩
   have K:z7 l[i].path:=by simpa using J
   refine gx gc 3 rfl (Af 26 rfl (fun J=> ?_) (fun J=> ?_))
   ·refine gx gc 1 rfl ?_
    refine j5 gc rfl rfl (fun w' e=>(n.ga e).cell rfl) ?_
    refine gx gc 1 rfl (j5 gc rfl rfl (fun w' e=>(n.ga e).cell rfl) ?_)
    refine gx gc 2 rfl ?_
    rw[IntWalk.i64_in _ zo]
    refine qs gc rfl rfl 2 rfl (i-1) zo zo (s+(i-1)*2) rfl (qi gc rfl rfl (fun w' e=>((f (i-1) zo).ga (U.gb e))) rfl ?_)
    refine gx gc 1 rfl (j5 gc rfl rfl (fun w' e=>(n.ga e).cell rfl) ?_)
    refine qi gc rfl rfl (fun w' e=>(F.ga e).ki) rfl ?_
    refine jg rfl (j2 hcf rfl (hQ w7 _) fun v8 w8 L=>⟨(by obtain⟨rfl,j⟩:=L;exact m.gb j),?_⟩)
    obtain⟨rfl,j⟩:=L
    have a:=a.ga j
    have d:=d.gb j
    have m:=m.gb j
    refine jg rfl (j2 hcf rfl (hQ w8 _) fun v9 w9 M=>⟨(by obtain⟨rfl,o⟩:=M;exact m.gb o),?_⟩)
    obtain⟨rfl,o⟩:=M
    have a:=a.ga o
    have d:=d.gb o
    refine gx gc 3 rfl (jj (j9 ?_))
    exact j4 (_) rfl ⟨by rw[decide_eq_decide];exact⟨fun W X=>W (X.2 zo),fun W X=>W ⟨K,fun _=>X⟩⟩,a,d⟩
   refine gx gc 16 rfl ?_
   refine jj (j9 ?_)
   exact j4 (false) rfl ⟨by symm;rw[decide_eq_false_iff_not];exact fun h=>h ⟨K,fun h0=>absurd h0 zo⟩,a,d⟩
  rintro z a3 ⟨rfl,a,d⟩
  refine jp rfl (fun q=> ?_) (fun q=> ?_)
  ·refine gl ?_
   refine j1 (ju rfl (gr (ji (gq (gq (ji (gq (gv rfl rfl ?_))))))))
   exact⟨congrArg Value.bool (by symm;rw[decide_eq_false_iff_not];intro h;have:=h.2 i (by rw[List.length_map];exact Q);exact q (by simpa using this)),d⟩
  have Y:=Decidable.not_not.1 q
  have N:∀k (A:k<l.length),k<i+1→z7 l[k].path∧(0<k→SLt (um l[k-1].path) (um l[k].path)):=fun k A a4=>by
   rcases Nat.lt_or_ge k i with h'|h'
   ·exact B k A h'
   obtain rfl:k=i:=by omega
   exact Y
  refine j6 (B4 rfl ?_)
  rw[IntWalk.i64_in _ zo]
  refine gn ?_
  exact jm (i+1) rfl ⟨⟨by omega,N⟩,a,d⟩ zf
 have O:yx0 (l.map Ak.path):=⟨by rw[List.length_map];exact S,fun k A=>by rw[List.length_map] at A;simpa using B k A zo⟩
 refine Bg (jc rfl (gr (gv rfl rfl ?_)))
 exact⟨congrArg Value.bool (decide_eq_true O).symm,d⟩
theorem xx4 (w:World) {p:Option Addr} {c G:Nat} {l:List ud} (h:Sl w p l.length 3 (l.flatMap ud.cells)) (hl:l.length<1000000000) (hlen:∀r∈l,r.path.length<1000000000)
  (hcf:∀args w,(callFunc G args).run prog w= .ok (.enter G args) w) (hQ:∀w (r:ud),gp prog G [.agg r.cells.toArray] w fun v w'=>v=xf r.path∧Ext No w w'):
  gp prog 230 [.agg #[.slice p l.length c,.func (.func G) #[] #[]]] w fun v w'=>v= .bool (decide (yx0 (l.map ud.path)))∧Ext No w w':=by
 refine gh func230 rfl rfl rfl rfl ?_
 have d:=Ext.refl No w
 refine kz (gw rfl fun P w1 a0 a R=> ?_)
 have d:=d.gb R
 have a:gz w1 P 329 ([.slice p l.length c,.func (.func G) #[] #[]]):=a
 refine ju rfl (gl (km rfl (jb a rfl rfl (ju rfl (jp rfl (fun q=> ?_) (fun q=> ?_))))))
 ·refine gl ?_
  refine j1 (ju rfl (gr (gq (gv rfl rfl ?_))))
  exact⟨congrArg Value.bool (by symm;rw[decide_eq_false_iff_not];intro h;have:=h.1;rw[List.length_map] at this;omega),d⟩
 have S:l.length≤32:=by omega
 refine xy (km rfl (jb a rfl rfl (ju rfl (gu ?_))))
 refine jn (α:=Nat) [1,10,11] rfl (fun z=>[(12,.int .i64 (z:Int))]) (fun z u=>(z≤l.length∧∀k (A:k<l.length),k<z→z7 l[k].path∧(0<k→SLt (um l[k-1].path) (um l[k].path)))∧gz u P 329 ([.slice p l.length c,.func (.func G) #[] #[]])∧Ext No w u) (fun z u=>l.length-z) (0) rfl ⟨⟨Nat.zero_le _,fun k _ h=>absurd h (Nat.not_lt_zero _)⟩,a,d⟩ ?_
 rintro i w2 ⟨⟨Q,B⟩,a,d⟩
 refine jc rfl (gl (jp rfl (fun q=> ?_) (fun q=> ?_)))
 ·have Q:i<l.length:=by omega
  obtain⟨b,s,rfl,f⟩:=h.qv (fun r _=>r.len) zo
  refine xy (gu (km rfl (ka rfl 3 rfl i rfl zo (s+i*3) rfl (jo rfl ((f i Q).ga d) rfl (gw rfl fun b4 w3 C t D=> ?_)))))
  have x:P≠b4:=Nat.ne_of_lt (Nat.lt_of_lt_of_le a.lt C)
  have T:=Nat.le_trans d.size C
  have a:=a.ga D
  have d:=d.gb D
  refine j7 gc rfl (wl (j8 (l':=(l[i]).cells) gc t rfl rfl rfl rfl OneC.h fun w4 t E a1=> ?_))
  have a:=a.gk E x
  have d:=d.gj E T
  refine ql ?_
  refine jv (α:=Bool) [1,10,11,12] rfl (fun z=>[(42,.bool z)]) (fun z u=>(z=decide (¬(z7 l[i].path∧(0<i→SLt (um l[i-1].path) (um l[i].path)))))∧gz u P 329 ([.slice (some ⟨b,s,none⟩) l.length c,.func (.func G) #[] #[]])∧Ext No w u) ?_ ?_
  ·refine jt rfl 26 [(0,true),(1,true),(2,true),(3,false),(4,false),(5,true),(6,true),(7,true),(8,true),(9,true),(10,true),(11,true),(12,true),(13,true),(14,true),(15,true),(16,true),(17,true),(19,true),(20,true),(21,true),(18,false),(22,false),(23,true),(24,true),(25,true)] [] (No) zk fun Z y a2=> ?_
   have n:=a
   have F:=t
   have U:=d
   have a:=a.ga y
   have d:=d.gb y
   have m:Ext (No) _ Z:=y.no
   refine gx gc 1 rfl (j5 gc rfl rfl (fun w' e=>(n.ga e).cell rfl) ?_)
   refine qi gc rfl rfl (fun w' e=>(F.ga e).ki) rfl ?_
   refine jg rfl (j2 hcf rfl (hQ Z l[i]) fun v6 w6 H=>⟨(by obtain⟨rfl,g⟩:=H;exact m.gb g),?_⟩)
   obtain⟨rfl,g⟩:=H
   have a:=a.ga g
   have d:=d.gb g
   have m:=m.gb g
   refine jg rfl (j2 call243 rfl (path_calls w6 l[i].path (hlen _ (List.getElem_mem Q))) fun v7 w7 I=>⟨(by obtain⟨rfl,rfl⟩:=I;exact m),?_⟩)
   obtain⟨rfl,rfl⟩:=I
   have m:=m
   refine gx gc 2 rfl (yj6 23 rfl (fun J=> ?_) (fun J=> ?_))
   ·have V:¬z7 l[i].path:=by simpa using J
    refine gx gc 19 rfl (jj (j9 ?_))
    exact j4 (true) rfl ⟨by symm;rw[decide_eq_true_eq];exact fun h=>V h.1,a,d⟩
   have K:z7 l[i].path:=by simpa using J
   refine gx gc 3 rfl (Af 26 rfl (fun J=> ?_) (fun J=> ?_))
   ·refine gx gc 1 rfl ?_
    refine j5 gc rfl rfl (fun w' e=>(n.ga e).cell rfl) ?_
    refine gx gc 1 rfl (j5 gc rfl rfl (fun w' e=>(n.ga e).cell rfl) ?_)
    refine gx gc 2 rfl ?_
    rw[IntWalk.i64_in _ zo]
    refine qs gc rfl rfl 3 rfl (i-1) zo zo (s+(i-1)*3) rfl (qi gc rfl rfl (fun w' e=>((f (i-1) zo).ga (U.gb e))) rfl ?_)
    refine gx gc 1 rfl (j5 gc rfl rfl (fun w' e=>(n.ga e).cell rfl) ?_)
    refine qi gc rfl rfl (fun w' e=>(F.ga e).ki) rfl ?_
    refine jg rfl (j2 hcf rfl (hQ w7 _) fun v8 w8 L=>⟨(by obtain⟨rfl,j⟩:=L;exact m.gb j),?_⟩)
    obtain⟨rfl,j⟩:=L
    have a:=a.ga j
    have d:=d.gb j
    have m:=m.gb j
    refine jg rfl (j2 hcf rfl (hQ w8 _) fun v9 w9 M=>⟨(by obtain⟨rfl,o⟩:=M;exact m.gb o),?_⟩)
    obtain⟨rfl,o⟩:=M
    have a:=a.ga o
    have d:=d.gb o
    refine gx gc 3 rfl (jj (j9 ?_))
    exact j4 (_) rfl ⟨by rw[decide_eq_decide];exact⟨fun W X=>W (X.2 zo),fun W X=>W ⟨K,fun _=>X⟩⟩,a,d⟩
   refine gx gc 16 rfl ?_
   refine jj (j9 ?_)
   exact j4 (false) rfl ⟨by symm;rw[decide_eq_false_iff_not];exact fun h=>h ⟨K,fun h0=>absurd h0 zo⟩,a,d⟩
  rintro z a3 ⟨rfl,a,d⟩
  refine jp rfl (fun q=> ?_) (fun q=> ?_)
  ·refine gl ?_
   refine j1 (ju rfl (gr (ji (gq (gq (ji (gq (gv rfl rfl ?_))))))))
   exact⟨congrArg Value.bool (by symm;rw[decide_eq_false_iff_not];intro h;have:=h.2 i (by rw[List.length_map];exact Q);exact q (by simpa using this)),d⟩
  have Y:=Decidable.not_not.1 q
  have N:∀k (A:k<l.length),k<i+1→z7 l[k].path∧(0<k→SLt (um l[k-1].path) (um l[k].path)):=fun k A a4=>by
   rcases Nat.lt_or_ge k i with h'|h'
   ·exact B k A h'
   obtain rfl:k=i:=by omega
   exact Y
  refine j6 (B4 rfl ?_)
  rw[IntWalk.i64_in _ zo]
  refine gn ?_
  exact jm (i+1) rfl ⟨⟨by omega,N⟩,a,d⟩ zf
 have O:yx0 (l.map ud.path):=⟨by rw[List.length_map];exact S,fun k A=>by rw[List.length_map] at A;simpa using B k A zo⟩
 refine Bg (jc rfl (gr (gv rfl rfl ?_)))
 exact⟨congrArg Value.bool (decide_eq_true O).symm,d⟩
theorem check_calls (w:World) {p:Option Addr} {c:Nat} {l:List Ak} (h:Sl w p l.length 2 (l.flatMap Ak.cells)) (hl:l.length<1000000000) (hlen:∀r∈l,r.path.length<1000000000):
  gp prog 224 [.agg #[.slice p l.length c]] w fun v w'=>v= .int .i64 (if xx2 l then 0 else 150)∧Ext No w w':=by
 refine gh func224 rfl rfl rfl rfl ?_
 have a:=Ext.refl No w
 refine kz (gw rfl fun q o s b e=> ?_)
 have a:=a.gb e
 have b:gz o q 319 ([.slice p l.length c]):=b
 refine ju rfl (km rfl (jb b rfl rfl ?_))
 refine gi call237 rfl (yq2 o (h.ga a) hl (fun r=>256<r.text.length) call238 fun w r _=>check1_calls w r) fun x t f=> ?_
 obtain⟨rfl,d⟩:=f
 have b:=b.ga d
 have a:=a.gb d
 refine ju rfl (gl (jv (α:=Bool) [] rfl (fun z=>[(14,.bool z)]) (fun z u=>(z=decide (¬xx2 l))∧Ext No w u) ?_ ?_))
 ·refine j1 ?_
  refine j7 gc rfl (jl 8 rfl (fun g=> ?_) (fun g=> ?_))
  ·refine j3 gc 6 rfl ?_
   refine gn ?_
   exact j4 (true) rfl ⟨by symm;rw[decide_eq_true_eq];exact fun h=>h.1 g,a⟩
  refine j3 gc 1 rfl ?_
  refine jb b rfl rfl (qa rfl zb (l':=[.slice p l.length c,.func (.func 239) #[] #[]]) rfl ?_)
  refine gi call240 rfl (risingRow_calls t (h.ga a) hl hlen call239 rowPath_calls) fun y A i=> ?_
  obtain⟨rfl,j⟩:=i
  have a:=a.gb j
  refine j3 gc 2 rfl (gn ?_)
  exact j4 (_) rfl ⟨by rw[←decide_not,decide_eq_decide];exact⟨fun k m=>k m.2,fun k m=>k ⟨g,m⟩⟩,a⟩
 rintro z B ⟨rfl,a⟩
 refine jp rfl (fun n=> ?_) (fun n=> ?_)
 ·refine gl ?_
  refine j1 (ju rfl (gr (gq (gv rfl rfl ?_))))
  exact⟨by rw[if_neg n],a⟩
 refine j6 ?_
 refine gy (jc rfl (gr (gv rfl rfl ?_)))
 exact⟨by rw[if_pos (Decidable.not_not.1 n)],a⟩
theorem checkEdit_calls (w:World) {p:Option Addr} {c:Nat} {l:List ud} (h:Sl w p l.length 3 (l.flatMap ud.cells)) (hl:l.length<1000000000) (hlen:∀r∈l,r.path.length<1000000000):
  gp prog 214 [.agg #[.slice p l.length c]] w fun v w'=>v= .int .i64 (if xx5 l then 0 else 151)∧Ext No w w':=by
 refine gh func214 rfl rfl rfl rfl ?_
 have a:=Ext.refl No w
 refine kz (gw rfl fun q o s b e=> ?_)
 have a:=a.gb e
 have b:gz o q 34 ([.slice p l.length c]):=b
 refine ju rfl (km rfl (jb b rfl rfl ?_))
 refine gi call227 rfl (zx0 o (h.ga a) hl ChgBad call228 fun w r _=>xw6 w r) fun x t f=> ?_
 obtain⟨rfl,d⟩:=f
 have b:=b.ga d
 have a:=a.gb d
 refine ju rfl (gl (jv (α:=Bool) [] rfl (fun z=>[(14,.bool z)]) (fun z u=>(z=decide (¬xx5 l))∧Ext No w u) ?_ ?_))
 ·refine j1 ?_
  refine j7 gc rfl (jl 8 rfl (fun g=> ?_) (fun g=> ?_))
  ·refine j3 gc 6 rfl ?_
   refine gn ?_
   exact j4 (true) rfl ⟨by symm;rw[decide_eq_true_eq];exact fun h=>h.1 g,a⟩
  refine j3 gc 1 rfl ?_
  refine jb b rfl rfl (qa rfl zb (l':=[.slice p l.length c,.func (.func 229) #[] #[]]) rfl ?_)
  refine gi call230 rfl (xx4 t (h.ga a) hl hlen call229 changePath_calls) fun y A i=> ?_
  obtain⟨rfl,j⟩:=i
  have a:=a.gb j
  refine j3 gc 2 rfl (gn ?_)
  exact j4 (_) rfl ⟨by rw[←decide_not,decide_eq_decide];exact⟨fun k m=>k m.2,fun k m=>k ⟨g,m⟩⟩,a⟩
 rintro z B ⟨rfl,a⟩
 refine jp rfl (fun n=> ?_) (fun n=> ?_)
 ·refine gl ?_
  refine j1 (ju rfl (gr (gq (gv rfl rfl ?_))))
  exact⟨by rw[if_neg n],a⟩
 refine j6 ?_
 refine gy (jc rfl (gr (gv rfl rfl ?_)))
 exact⟨by rw[if_pos (Decidable.not_not.1 n)],a⟩
end Go.Proofs.YtpdiphfjmepijaaGreatDoor
