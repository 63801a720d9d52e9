/-
  Walks and laws towards: a batch is decoded from its bytes, and less of them is too short (StoreBack)
-/
import Derived.IntWalk
import Derived.DeepKeys
import Derived.Test.YtpdiphfjmepijaaGreatDoorBaA
namespace Go.Vc
section
variable {P:Program} {I:qs} {f:Fs} {ops:Array Oper} {o:Oper} {env:Env} {w:World} {K:Env→World→Prop}
end
abbrev A1 (b:UInt8):Value:= .int .u8 (b.toNat:Int)
def ge (l:List UInt8):List Value:=l.map A1
theorem gl (l:List UInt8):(ge l).length=l.length:=by simp[ge]
instance (l:List UInt8):OneC (ge l):=⟨fun u hu=>by obtain⟨x,_,rfl⟩:=List.mem_map.1 hu;rfl⟩
theorem k8 (a b:List UInt8):ge (a++b)=ge a++ge b:=by simp[ge]
theorem ul (l:List UInt8) (n:Nat):(ge l).take n=ge (l.take n):=by simp[ge]
theorem ug (l:List UInt8) (n:Nat):(ge l).drop n=ge (l.drop n):=by simp[ge]
theorem bytesU_get (l:List UInt8) {i:Nat} (h:i<l.length):(ge l)[i]? =some (A1 l[i]):=by simp[ge,h]
theorem bytesU_inj {a b:List UInt8} (h:ge a=ge b):a=b:=by
 refine(List.map_inj_right (f:=A1) fun x y e=> ?_).1 h
 simp only[A1,Value.int.injEq,true_and] at e
 exact UInt8.toNat_inj.1 zo
abbrev vt (w:World) (p:Option Addr) (l:List UInt8):Prop:=Sl w p l.length 1 (ge l)
def be:Nat→Nat→List UInt8
  |0,_=>[]
  |n+1,x=>be n (x/256)++[UInt8.ofNat x]
theorem jp (n x:Nat):(be n x).length=n:=by
 induction n generalizing x with
 |zero=>rfl
 |succ n ih=>simp[be,ih]
theorem xd (x:Nat):IntKind.u8.wrap (x:Int)=((UInt8.ofNat x).toNat:Int):=by
 rw[IntKind.wrap_u8,UInt8.toNat_ofNat']
 omega
theorem shr4 (x:Nat):Int.fdiv (x:Int) (2^4)=((x/16:Nat):Int):=by
 rw[Int.fdiv_eq_ediv_of_nonneg _ zd]
 rfl
theorem fill_byte (l t:List UInt8) (k:Nat) (b:UInt8):(ge (l++(List.replicate (k+1) 0++t))).set (l.length+k) (A1 b)=ge (l++(List.replicate k 0++(b::t))):=by
 rw[ge,←List.map_set,List.set_append_right _ _ zo,Nat.add_sub_cancel_left,List.replicate_succ',List.append_assoc,List.set_append_right _ _ zp]
 simp[ge]
theorem zj3 (n:Nat):C1 n [Value.int .u8 0]=ge (List.replicate n 0):=by
 rw[rep_one]
 simp[ge,A1]
def num (l:List UInt8):Nat:=l.foldl (fun x b=>x*256+b.toNat) 0
theorem num_snoc (l:List UInt8) (b:UInt8):num (l++[b])=num l*256+b.toNat:=by simp[num]
theorem num_take (l:List UInt8) {i:Nat} (h:i<l.length):num (l.take (i+1))=num (l.take i)*256+(l[i]).toNat:=by
 rw[List.take_succ_eq_append_getElem h,num_snoc]
theorem vt.at {w:World} {p:Option Addr} {l:List UInt8} (h:vt w p l) {i:Nat} (hi:i<l.length):∃b off,p=some ⟨b,off,none⟩∧w.cell? ⟨b,off+i*1,none⟩=some (A1 l[i]):=by
 obtain⟨_,d|⟨b,off,a,c⟩⟩:=h
 ·omega
 exact⟨b,off,a,by rw[Nat.mul_one];exact c i _ (bytesU_get l hi)⟩
theorem vl (l:List UInt8):num l<256^l.length:=by
 have:∀(l:List UInt8),num l<256^l.length:=by
  intro l
  generalize hn:l.length=n
  induction n generalizing l with
  |zero=>
   have:l=[]:=List.eq_nil_of_length_eq_zero hn
   subst this;simp[num]
  |succ n ih=>
   have a:l≠[]:=fun e=>by subst e;simp at hn
   obtain⟨b,c⟩:∃b,l=l.dropLast++[b]:=⟨l.getLast a,(List.dropLast_concat_getLast a).symm⟩
   rw[c,num_snoc]
   have d:=ih l.dropLast (by simp[hn])
   have f:=b.toNat_lt
   rw[Nat.pow_succ]
   omega
 exact this l
theorem num_go (l:List UInt8) (x:Nat):l.foldl (fun x b=>x*256+b.toNat) x=x*256^l.length+num l:=by
 induction l generalizing x with
 |nil=>simp[num]
 |cons b r ih=>
  have e:num (b::r)=(0*256+b.toNat)*256^r.length+num r:=ih _
  rw[List.foldl_cons,ih,e,List.length_cons,Nat.pow_succ,Nat.add_mul,Nat.zero_mul,Nat.zero_add,Nat.add_assoc,Nat.mul_assoc,Nat.mul_comm 256]
theorem num_cons (b:UInt8) (l:List UInt8):num (b::l)=b.toNat*256^l.length+num l:=by
 have e:num (b::l)=(0*256+b.toNat)*256^l.length+num l:=num_go l _
 rw[e,Nat.zero_mul,Nat.zero_add]
theorem num_drop (l:List UInt8) {i:Nat} (h:i<l.length):num (l.drop i)=(l[i]).toNat*256^(l.length-(i+1))+num (l.drop (i+1)):=by
 rw[List.drop_eq_getElem_cons h,num_cons,List.length_drop]
end Go.Vc
namespace Go.Proofs.YtpdiphfjmepijaaGreatDoor
open Go.Proofs.Tryz
open Go.Vc
theorem lies16_calls (w:World) {p:Option Addr} {c:Nat} {l:List UInt8} (h:vt w p l) (hl:l.length<1000000000) (x n:Nat) (hn:n<100) (hx:x<2^16):
  gn prog 158 [.slice p l.length c,.int .u16 (x:Int),.int .i64 (n:Int)] w fun v w'=>∃b,v= .slice (some ⟨b,0,none⟩) (l.length+n) (l.length+n)∧w.heap.size≤b∧j0 w' b 5 (ge (l++be n x))∧Ext No w w':=by
 refine gx func158 ?_
 have d:=Ext.refl No w
 refine je rfl (qc rfl ?_)
 rw[kg _ zo]
 refine wl (zx0 gc rfl (l.length+n) (l.length+n) 1 rfl rfl rfl zd zo zo (Nat.le_refl _) zo zr fun f B m a o C=> ?_)
 have g:=Nat.le_trans d.size m
 have d:=d.gb o
 have a:j0 B f 5 (ge (List.replicate (l.length+n) 0)):=by(have e:C1 (l.length+n) (cellsOf ti5.zero)=ge (List.replicate (l.length+n) 0):=zj3 _);rw[←e];exact a
 refine jz rfl (qc rfl (wl (zj0 gc rfl 1 rfl a (Src.slice (h.ga d) OneC.h) zn (by rw[gl,List.length_replicate];dsimp only;omega) fun D q r E=> ?_)))
 have a:j0 D f 5 (ge (l++(List.replicate n 0++[]))):=by
  have e:Vc.put (ge (List.replicate (l.length+n) 0)) 0 (ge l)=ge (l++(List.replicate n 0++[])):=by
   rw[put_eq _ _ _ (by simp[gl])]
   rw[ug]
   simp[k8,gl]
  rw[←e];exact q
 have d:=d.gh r g
 refine jz rfl (gk (je rfl (gr ?_)))
 refine jm (α:=Nat×Nat×List UInt8) [7,8] rfl (fun z=>[(1,.int .u16 (z.2.1:Int)),(9,.int .i64 ((l.length+z.1:Nat):Int))]) (fun z u=>(z.1≤n∧z.2.1<2^16∧be n x=be z.1 z.2.1++z.2.2∧j0 u f 5 (ge (l++(List.replicate z.1 0++z.2.2))))∧Ext No w u) (fun z u=>z.1) (n,x,[]) rfl ⟨⟨Nat.le_refl _,hx,by simp,a⟩,d⟩ ?_
 rintro⟨j,y,t⟩ K ⟨⟨F,G,k,a⟩,d⟩
 try dsimp only
 dsimp only at F G k a
 refine gk (je rfl (jl rfl (fun H=> ?_) (fun H=> ?_)))
 ·obtain⟨i,rfl⟩:∃i,j=i+1:=⟨j-1,by omega⟩
  refine j7 (j1 (gr (qc rfl ?_)))
  rw[kg _ zo]
  refine qr (qc rfl ?_)
  rw[show(((l.length+(i+1):Nat):Int)-1)=((l.length+i:Nat):Int) from by omega]
  rw[xd]
  refine ki rfl 1 rfl (l.length+i) rfl zo (0+(l.length+i)*1) rfl (wl (u4 gc a rfl rfl (by rw[gl];simp;omega) fun I a s J=> ?_))
  have d:=d.gh s g
  have a:j0 I f 5 (ge (l++(List.replicate i 0++(UInt8.ofNat y::t)))):=by
   rw[Nat.zero_add,Nat.mul_one,fill_byte] at a
   exact a
  refine qr (je rfl (yv rfl ?_))
  rw[show Int.fdiv (Int.fdiv (y:Int) (2^min (4:Int).toNat IntKind.u16.bits)) (2^min (4:Int).toNat IntKind.u16.bits)=((y/16/16:Nat):Int) from by rw[show(2:Int)^min (4:Int).toNat IntKind.u16.bits=2^4 from rfl,shr4,shr4]]
  refine gm ?_
  exact jy (jn (i,y/16/16,UInt8.ofNat y::t) rfl ⟨⟨by dsimp only;omega,by dsimp only;omega,by dsimp only;rw[k,be,Nat.div_div_eq_div_mul];simp,a⟩,d⟩ zf)
 have A:j=0:=by omega
 subst A
 have k:be n x=t:=by rw[k];rfl
 rw[List.replicate_zero,List.nil_append,←k] at a
 refine Bi (je rfl (gq (gu rfl rfl ?_)))
 exact⟨f,rfl,g,a,d⟩
theorem C6 (w:World) {p:Option Addr} {c:Nat} {l:List UInt8} (h:vt w p l) (hl:l.length<1000000000) (x:Nat) (hx:x<2^16):
  gn prog 91 [.slice p l.length c,.int .u16 (x:Int)] w fun v w'=>∃b,v= .slice (some ⟨b,0,none⟩) (l++be 2 x).length (l++be 2 x).length∧w.heap.size≤b∧j0 w' b 5 (ge (l++be 2 x))∧Ext No w w':=by
 refine gx func91 ?_
 have a:=Ext.refl No w
 refine je rfl (qc rfl ?_)
 have d:=a
 refine gi call158 rfl (lies16_calls w (h.ga a) hl x 2 zd hx) fun j k e=> ?_
 obtain⟨b,rfl,g,i,f⟩:=e
 have a:=a.gb f
 refine jz rfl (gq (gu rfl rfl ?_))
 exact⟨b,by simp[jp],Nat.le_trans d.size g,i,a⟩
theorem lies32_calls (w:World) {p:Option Addr} {c:Nat} {l:List UInt8} (h:vt w p l) (hl:l.length<1000000000) (x n:Nat) (hn:n<100) (hx:x<2^32):
  gn prog 206 [.slice p l.length c,.int .u32 (x:Int),.int .i64 (n:Int)] w fun v w'=>∃b,v= .slice (some ⟨b,0,none⟩) (l.length+n) (l.length+n)∧w.heap.size≤b∧j0 w' b 5 (ge (l++be n x))∧Ext No w w':=by
 refine gx func206 ?_
 have d:=Ext.refl No w
 refine je rfl (qc rfl ?_)
 rw[kg _ zo]
 refine wl (zx0 gc rfl (l.length+n) (l.length+n) 1 rfl rfl rfl zd zo zo (Nat.le_refl _) zo zr fun f B m a o C=> ?_)
 have g:=Nat.le_trans d.size m
 have d:=d.gb o
 have a:j0 B f 5 (ge (List.replicate (l.length+n) 0)):=by(have e:C1 (l.length+n) (cellsOf ti5.zero)=ge (List.replicate (l.length+n) 0):=zj3 _);rw[←e];exact a
 refine jz rfl (qc rfl (wl (zj0 gc rfl 1 rfl a (Src.slice (h.ga d) OneC.h) zn (by rw[gl,List.length_replicate];dsimp only;omega) fun D q r E=> ?_)))
 have a:j0 D f 5 (ge (l++(List.replicate n 0++[]))):=by
  have e:Vc.put (ge (List.replicate (l.length+n) 0)) 0 (ge l)=ge (l++(List.replicate n 0++[])):=by
   rw[put_eq _ _ _ (by simp[gl])]
   rw[ug]
   simp[k8,gl]
  rw[←e];exact q
 have d:=d.gh r g
 refine jz rfl (gk (je rfl (gr ?_)))
 refine jm (α:=Nat×Nat×List UInt8) [7,8] rfl (fun z=>[(1,.int .u32 (z.2.1:Int)),(9,.int .i64 ((l.length+z.1:Nat):Int))]) (fun z u=>(z.1≤n∧z.2.1<2^32∧be n x=be z.1 z.2.1++z.2.2∧j0 u f 5 (ge (l++(List.replicate z.1 0++z.2.2))))∧Ext No w u) (fun z u=>z.1) (n,x,[]) rfl ⟨⟨Nat.le_refl _,hx,by simp,a⟩,d⟩ ?_
 rintro⟨j,y,t⟩ K ⟨⟨F,G,k,a⟩,d⟩
 try dsimp only
 dsimp only at F G k a
 refine gk (je rfl (jl rfl (fun H=> ?_) (fun H=> ?_)))
 ·obtain⟨i,rfl⟩:∃i,j=i+1:=⟨j-1,by omega⟩
  refine j7 (j1 (gr (qc rfl ?_)))
  rw[kg _ zo]
  refine qr (qc rfl ?_)
  rw[show(((l.length+(i+1):Nat):Int)-1)=((l.length+i:Nat):Int) from by omega]
  rw[xd]
  refine ki rfl 1 rfl (l.length+i) rfl zo (0+(l.length+i)*1) rfl (wl (u4 gc a rfl rfl (by rw[gl];simp;omega) fun I a s J=> ?_))
  have d:=d.gh s g
  have a:j0 I f 5 (ge (l++(List.replicate i 0++(UInt8.ofNat y::t)))):=by
   rw[Nat.zero_add,Nat.mul_one,fill_byte] at a
   exact a
  refine qr (je rfl (yv rfl ?_))
  rw[show Int.fdiv (Int.fdiv (y:Int) (2^min (4:Int).toNat IntKind.u32.bits)) (2^min (4:Int).toNat IntKind.u32.bits)=((y/16/16:Nat):Int) from by rw[show(2:Int)^min (4:Int).toNat IntKind.u32.bits=2^4 from rfl,shr4,shr4]]
  refine gm ?_
  exact jy (jn (i,y/16/16,UInt8.ofNat y::t) rfl ⟨⟨by dsimp only;omega,by dsimp only;omega,by dsimp only;rw[k,be,Nat.div_div_eq_div_mul];simp,a⟩,d⟩ zf)
 have A:j=0:=by omega
 subst A
 have k:be n x=t:=by rw[k];rfl
 rw[List.replicate_zero,List.nil_append,←k] at a
 refine Bi (je rfl (gq (gu rfl rfl ?_)))
 exact⟨f,rfl,g,a,d⟩
theorem yk (w:World) {p:Option Addr} {c:Nat} {l:List UInt8} (h:vt w p l) (hl:l.length<1000000000) (x:Nat) (hx:x<2^32):
  gn prog 179 [.slice p l.length c,.int .u32 (x:Int)] w fun v w'=>∃b,v= .slice (some ⟨b,0,none⟩) (l++be 4 x).length (l++be 4 x).length∧w.heap.size≤b∧j0 w' b 5 (ge (l++be 4 x))∧Ext No w w':=by
 refine gx func179 ?_
 have a:=Ext.refl No w
 refine je rfl (qc rfl ?_)
 have d:=a
 refine gi call206 rfl (lies32_calls w (h.ga a) hl x 4 zd hx) fun j k e=> ?_
 obtain⟨b,rfl,g,i,f⟩:=e
 have a:=a.gb f
 refine jz rfl (gq (gu rfl rfl ?_))
 exact⟨b,by simp[jp],Nat.le_trans d.size g,i,a⟩
theorem lies64_calls (w:World) {p:Option Addr} {c:Nat} {l:List UInt8} (h:vt w p l) (hl:l.length<1000000000) (x n:Nat) (hn:n<100) (hx:x<2^64):
  gn prog 233 [.slice p l.length c,.int .u64 (x:Int),.int .i64 (n:Int)] w fun v w'=>∃b,v= .slice (some ⟨b,0,none⟩) (l.length+n) (l.length+n)∧w.heap.size≤b∧j0 w' b 5 (ge (l++be n x))∧Ext No w w':=by
 refine gx func233 ?_
 have d:=Ext.refl No w
 refine je rfl (qc rfl ?_)
 rw[kg _ zo]
 refine wl (zx0 gc rfl (l.length+n) (l.length+n) 1 rfl rfl rfl zd zo zo (Nat.le_refl _) zo zr fun f B m a o C=> ?_)
 have g:=Nat.le_trans d.size m
 have d:=d.gb o
 have a:j0 B f 5 (ge (List.replicate (l.length+n) 0)):=by(have e:C1 (l.length+n) (cellsOf ti5.zero)=ge (List.replicate (l.length+n) 0):=zj3 _);rw[←e];exact a
 refine jz rfl (qc rfl (wl (zj0 gc rfl 1 rfl a (Src.slice (h.ga d) OneC.h) zn (by rw[gl,List.length_replicate];dsimp only;omega) fun D q r E=> ?_)))
 have a:j0 D f 5 (ge (l++(List.replicate n 0++[]))):=by
  have e:Vc.put (ge (List.replicate (l.length+n) 0)) 0 (ge l)=ge (l++(List.replicate n 0++[])):=by
   rw[put_eq _ _ _ (by simp[gl])]
   rw[ug]
   simp[k8,gl]
  rw[←e];exact q
 have d:=d.gh r g
 refine jz rfl (gk (je rfl (gr ?_)))
 refine jm (α:=Nat×Nat×List UInt8) [7,8] rfl (fun z=>[(1,.int .u64 (z.2.1:Int)),(9,.int .i64 ((l.length+z.1:Nat):Int))]) (fun z u=>(z.1≤n∧z.2.1<2^64∧be n x=be z.1 z.2.1++z.2.2∧j0 u f 5 (ge (l++(List.replicate z.1 0++z.2.2))))∧Ext No w u) (fun z u=>z.1) (n,x,[]) rfl ⟨⟨Nat.le_refl _,hx,by simp,a⟩,d⟩ ?_
 rintro⟨j,y,t⟩ K ⟨⟨F,G,k,a⟩,d⟩
 try dsimp only
 dsimp only at F G k a
 refine gk (je rfl (jl rfl (fun H=> ?_) (fun H=> ?_)))
 ·obtain⟨i,rfl⟩:∃i,j=i+1:=⟨j-1,by omega⟩
  refine j7 (j1 (gr (qc rfl ?_)))
  rw[kg _ zo]
  refine qr (qc rfl ?_)
  rw[show(((l.length+(i+1):Nat):Int)-1)=((l.length+i:Nat):Int) from by omega]
  rw[xd]
  refine ki rfl 1 rfl (l.length+i) rfl zo (0+(l.length+i)*1) rfl (wl (u4 gc a rfl rfl (by rw[gl];simp;omega) fun I a s J=> ?_))
  have d:=d.gh s g
  have a:j0 I f 5 (ge (l++(List.replicate i 0++(UInt8.ofNat y::t)))):=by
   rw[Nat.zero_add,Nat.mul_one,fill_byte] at a
   exact a
  refine qr (je rfl (yv rfl ?_))
  rw[show Int.fdiv (Int.fdiv (y:Int) (2^min (4:Int).toNat IntKind.u64.bits)) (2^min (4:Int).toNat IntKind.u64.bits)=((y/16/16:Nat):Int) from by rw[show(2:Int)^min (4:Int).toNat IntKind.u64.bits=2^4 from rfl,shr4,shr4]]
  refine gm ?_
  exact jy (jn (i,y/16/16,UInt8.ofNat y::t) rfl ⟨⟨by dsimp only;omega,by dsimp only;omega,by dsimp only;rw[k,be,Nat.div_div_eq_div_mul];simp,a⟩,d⟩ zf)
 have A:j=0:=by omega
 subst A
 have k:be n x=t:=by rw[k];rfl
 rw[List.replicate_zero,List.nil_append,←k] at a
 refine Bi (je rfl (gq (gu rfl rfl ?_)))
 exact⟨f,rfl,g,a,d⟩
theorem put64_calls (w:World) {p:Option Addr} {c:Nat} {l:List UInt8} (h:vt w p l) (hl:l.length<1000000000) (x:Nat) (hx:x<2^64):
  gn prog 222 [.slice p l.length c,.int .u64 (x:Int)] w fun v w'=>∃b,v= .slice (some ⟨b,0,none⟩) (l++be 8 x).length (l++be 8 x).length∧w.heap.size≤b∧j0 w' b 5 (ge (l++be 8 x))∧Ext No w w':=by
 refine gx func222 ?_
 have a:=Ext.refl No w
 refine je rfl (qc rfl ?_)
 have d:=a
 refine gi call233 rfl (lies64_calls w (h.ga a) hl x 8 zd hx) fun j k e=> ?_
 obtain⟨b,rfl,g,i,f⟩:=e
 have a:=a.gb f
 refine jz rfl (gq (gu rfl rfl ?_))
 exact⟨b,by simp[jp],Nat.le_trans d.size g,i,a⟩
def TyU (w:World) (p:Option Addr):Prop:=∀a,p=some a→∃L,j0 w a.block 5 L
theorem TyU.ext {S:Nat→Prop} {w w':World} {p:Option Addr} (h:TyU w p) (hE:Ext S w w') (hS:∀b L,j0 w b 5 L→¬S b):TyU w' p:=fun a ha=>by
 obtain⟨L,hL⟩:=h a ha
 exact⟨L,hL.ext hE (hS _ L hL)⟩
theorem TyU.nil (w:World):TyU w none:=fun _ h=>by cases h
theorem TyU.of {w:World} {b:Nat} {L:List Value} (h:j0 w b 5 L) (o:Nat) (e:Option Nat):TyU w (some ⟨b,o,e⟩):=fun a ha=>by cases ha;exact⟨L,h⟩
theorem TyU.sub {w:World} {p:Option Addr} (h:TyU w p) (l m sz:Nat):TyU w (u5 p l m sz):=fun a ha=>by
 unfold u5 at ha
 split at ha
 ·exact h a ha
 cases p with
 |none=>cases ha
 |some a0=>
  have h0:=h a0 rfl
  simp only[Option.map_some,Option.some.injEq,Addr.add] at ha
  subst ha
  obtain⟨L,hL⟩:=h0
  refine⟨L,?_⟩
  split<;>exact hL
theorem vt.kc {S:Nat→Prop} {w w':World} {p:Option Addr} {l:List UInt8} (h:vt w p l) (ht:TyU w p) (hE:Ext S w w') (hS:∀b L,j0 w b 5 L→¬S b):vt w' p l:=
 h.ext hE fun b off hb=>by obtain⟨L,hL⟩:=ht _ hb;exact hS b L hL
def Rd (w:World) (rb:Nat) (l:List UInt8) (e:Int):Prop:=
  ∃p c,j0 w rb 264 [.slice p l.length c,.int .i64 e]∧l.length≤c∧vt w p l∧TyU w p
theorem Rd.ext {S:Nat→Prop} {w w':World} {rb:Nat} {l:List UInt8} {e:Int} (h:Rd w rb l e) (hE:Ext S w w') (h1:¬S rb) (h2:∀b L,j0 w b 5 L→¬S b):Rd w' rb l e:=by
 obtain⟨p,c,hb,hc,hs,ht⟩:=h
 exact⟨p,c,hb.ext hE h1,hc,vt.kc hs ht hE h2,ht.ext hE h2⟩
theorem Rd.ga {w w':World} {rb:Nat} {l:List UInt8} {e:Int} (h:Rd w rb l e) (hE:Ext No w w'):Rd w' rb l e:=h.ext hE id fun _ _ _=>id
theorem Rd.lt {w:World} {rb:Nat} {l:List UInt8} {e:Int} (h:Rd w rb l e):rb<w.heap.size:=by obtain⟨_,_,hb,_⟩:=h;exact hb.lt
theorem Rd.ne {w:World} {rb:Nat} {l:List UInt8} {e:Int} (h:Rd w rb l e) {b T:Nat} {L:List Value} (hb:j0 w b T L) (hT:264≠T):rb≠b:=by obtain⟨_,_,h,_⟩:=h;exact h.ne hb hT
def uz (l:List UInt8) (e n:Int):List UInt8×List UInt8×Int:=
  if e≠0 then([],l,e) else if n<0 then([],l,2) else if(l.length:Int)<n then([],l,7) else(l.take n.toNat,l.drop n.toNat,0)
theorem xv1 (l:List UInt8) (e n:Int):(uz l e n).1.length≤n.toNat∧(uz l e n).2.1.length≤l.length∧(uz l e n).1.length≤l.length:=by
 unfold uz
 repeat' split
 all_goals simp
 all_goals omega
theorem Dd (w:World) {p:Option Addr} {c:Nat} {l:List UInt8} (h:vt w p l) (hl:l.length<1000000000):
  gn prog 101 [.slice p l.length c] w fun v w'=>∃rb,v= .pointer (some ⟨rb,0,none⟩)∧w.heap.size≤rb∧Rd w' rb l 0∧Ext No w w':=by
 refine gx func101 ?_
 have d:=Ext.refl No w
 refine je rfl (qc rfl ?_)
 refine wl (zx0 gc rfl l.length l.length 1 rfl rfl rfl zd rfl rfl (Nat.le_refl _) zo zr fun f s m a n t=> ?_)
 have o:=Nat.le_trans d.size m
 have d:=d.gb n
 have a:j0 s f 5 (ge (List.replicate l.length 0)):=by(have e:C1 l.length (cellsOf ti5.zero)=ge (List.replicate l.length 0):=zj3 _);rw[←e];exact a
 refine jz rfl (qc rfl (wl (zj0 gc rfl 1 rfl a (Src.slice (h.ga d) OneC.h) (Nat.le_refl _) (by rw[gl,List.length_replicate];dsimp only;omega) fun u q r x=> ?_)))
 have a:j0 u f 5 (ge l):=by
  have e:Vc.put (ge (List.replicate l.length 0)) 0 (ge l)=ge l:=Ai (by simp[gl])
  rw[←e];exact q
 have d:=d.gh r o
 refine qr (qc rfl (qg rfl ⟨⟨rfl,by decide⟩,trivial⟩ (l':=[.slice (some ⟨f,0,none⟩) l.length l.length,.int .i64 0]) rfl ?_))
 refine qg rfl ⟨⟨rfl,by decide⟩,trivial⟩ (l':=[.slice (some ⟨f,0,none⟩) l.length l.length,.int .i64 0]) rfl (gw rfl fun g y i b j=> ?_)
 have k:=Nat.le_trans d.size i
 have d:=d.gb j
 have b:j0 y g 264 ([.slice (some ⟨f,0,none⟩) l.length l.length,.int .i64 0]):=b
 have a:=a.ga j
 refine jz rfl (gq (gu rfl rfl ?_))
 exact⟨g,rfl,k,⟨_,_,b,Nat.le_refl _,⟨by simp[gl],.inr ⟨f,0,rfl,a.ko⟩⟩,TyU.of a _ _⟩,d⟩
theorem yv2 (w:World) {rb:Nat} {l:List UInt8} {e:Int} (h:Rd w rb l e) (_hl:l.length<1000000000) (n:Int):
  gn prog 162 [.pointer (some ⟨rb,0,none⟩),.int .i64 n] w fun v w'=>∃q c',v= .slice q (uz l e n).1.length c'∧vt w' q (uz l e n).1∧TyU w' q∧Rd w' rb (uz l e n).2.1 (uz l e n).2.2∧Ext (One rb) w w':=by
 have O:=h
 obtain⟨p,c,a,g,E,r⟩:=h
 have f:∀(F:World) (b:Nat) (L:List Value),j0 w b 5 L→¬One rb b:=fun _ b L P e=>P.ne a zd e
 refine gx func162 ?_
 have T:=Ext.refl (One rb) w
 refine je rfl (gk (jv (α:=Bool) [0,1] rfl (fun z=>[(15,.bool z)]) (fun z u=>u=w∧z=decide (e≠0)) ?_ ?_))
 ·refine j4 ?_
  refine j9 gc rfl (vb 8 rfl (fun M=> ?_) (fun M=> ?_))
  ·cases M
  refine j2 gc 4 rfl ?_
  refine gy rfl (a.cell rfl) (j2 gc 2 rfl (gm ?_))
  exact gz (_) rfl ⟨rfl,rfl⟩
 rintro z U ⟨H,rfl⟩
 have H:=H.symm
 subst H
 refine jl rfl (fun i=> ?_) (fun i=> ?_)
 ·have s:uz l e n=([],l,e):=if_pos i
  rw[s]
  refine je rfl (gq (gp (gu rfl rfl ?_)))
  exact⟨none,0,rfl,Sl.nil _ _ _,TyU.nil _,O,Ext.refl _ _⟩
 have G:e=0:=Decidable.not_not.1 i
 refine xz (je rfl (jl rfl (fun i=> ?_) (fun i=> ?_)))
 ·have s:uz l e n=([],l,2):=by rw[uz,if_neg (by simpa using G),if_pos i]
  rw[s]
  refine qc rfl (ky a rfl rfl rfl fun F d t j=> ?_)
  have k:=t
  have a:=d
  have C:Rd F rb l 2:=⟨p,c,a,g,vt.kc E r t (f F),r.ext t (f F)⟩
  refine qr (je rfl (gq (gp (gu rfl rfl ?_))))
  exact⟨none,0,rfl,Sl.nil _ _ _,TyU.nil _,C,k⟩
 have D:¬n<0:=i
 refine xz (qc rfl (gy rfl (a.cell rfl) (jz rfl (jl rfl (fun i=> ?_) (fun i=> ?_)))))
 ·have s:uz l e n=([],l,7):=by rw[uz,if_neg (by simpa using G),if_neg D,if_pos i]
  rw[s]
  refine qc rfl (ky a rfl rfl rfl fun I d x Q=> ?_)
  have k:=x
  have a:=d
  have C:Rd I rb l 7:=⟨p,c,a,g,vt.kc E r x (f I),r.ext x (f I)⟩
  refine qr (je rfl (gq (gp (gu rfl rfl ?_))))
  exact⟨none,0,rfl,Sl.nil _ _ _,TyU.nil _,C,k⟩
 have s:uz l e n=(l.take n.toNat,l.drop n.toNat,0):=by rw[uz,if_neg (by simpa using G),if_neg D,if_neg i]
 rw[s]
 have y:n=(n.toNat:Int):=by omega
 have A:n.toNat≤l.length:=by omega
 refine j7 (j1 (qc rfl (gy rfl (a.cell rfl) (j9 gc rfl ?_))))
 refine wl (A5 gc rfl 0 n.toNat n.toNat 1 rfl (.inl ⟨congrArg some y,rfl⟩) (.inl (congrArg some y)) (.inr ⟨rfl,rfl⟩) (Nat.zero_le _) (Nat.le_refl _) zn ?_)
 dsimp only
 rw[ka,Nat.sub_zero]
 refine jz rfl (qc rfl (gy rfl (a.cell rfl) (j9 gc rfl ?_)))
 refine wl (A5 gc rfl n.toNat l.length c 1 rfl (.inr ⟨rfl,rfl⟩) (.inr ⟨rfl,rfl⟩) (.inl (congrArg some y)) A g (Nat.le_refl _) ?_)
 dsimp only
 refine j9 gc rfl (ky a rfl rfl rfl fun B d m R=> ?_)
 have k:=m
 have a:=d
 have o:=E.slice 0 n.toNat n.toNat (Nat.zero_le _) (Nat.le_refl _) A
 have j:=E.slice n.toNat l.length c A g (Nat.le_refl _)
 rw[ka,Nat.sub_zero,Nat.zero_mul,List.drop_zero,Nat.mul_one,ul] at o
 rw[Nat.mul_one,Nat.mul_one,ug,ul,List.take_of_length_le zp] at j
 have N:(l.take n.toNat).length=n.toNat:=by rw[List.length_take];omega
 have J:(l.drop n.toNat).length=l.length-n.toNat:=by simp
 have o:vt w p (l.take n.toNat):=by rw[vt,N];exact o
 have j:vt w (u5 p n.toNat c 1) (l.drop n.toNat):=by rw[vt,J];exact j
 have a:j0 B rb 264 [.slice (u5 p n.toNat c 1) (l.drop n.toNat).length (c-n.toNat),.int .i64 0]:=by rw[J,←G];exact d
 have C:Rd B rb (l.drop n.toNat) 0:=⟨_,_,a,by rw[J];omega,vt.kc j (r.sub _ _ _) m (f B),(r.sub _ _ _).ext m (f B)⟩
 have S:=vt.kc o r m (f B)
 have K:=r.ext m (f B)
 refine qr (je rfl (gq (gu rfl rfl ?_)))
 exact⟨p,n.toNat,by rw[N],S,K,C,k⟩
theorem next8_calls (w:World) {rb:Nat} {l:List UInt8} {e:Int} (h:Rd w rb l e) (hl:l.length<1000000000) (n:Nat) (hn:256^n≤2^8):
  gn prog 173 [.pointer (some ⟨rb,0,none⟩),.int .i64 (n:Int)] w fun v w'=>v= .int .u8 ((num (uz l e n).1:Nat):Int)∧Rd w' rb (uz l e n).2.1 (uz l e n).2.2∧Ext (One rb) w w':=by
 refine gx func173 ?_
 have d:=Ext.refl (One rb) w
 refine je rfl (gk (qc rfl (gi call162 rfl (yv2 w h hl (n:Int)) fun G H k=> ?_)))
 obtain⟨q,c,rfl,f,t,g,m⟩:=k
 have d:=d.then m
 obtain⟨o,x,p⟩:=xv1 l e n
 obtain⟨s,y⟩:∃s,s=(uz l e n).1:=⟨_,rfl⟩
 rw[←y] at f o p⊢
 refine jz rfl (gr ?_)
 refine jm (α:=Nat) [9,10] rfl (fun z=>[(4,.int .u8 ((num (s.take z):Nat):Int)),(11,.int .i64 (z:Int))]) (fun z u=>(z≤s.length∧vt u q s∧Rd u rb (uz l e n).2.1 (uz l e n).2.2)∧Ext (One rb) w u) (fun z u=>s.length-z) (0) rfl ⟨⟨Nat.zero_le _,f,g⟩,d⟩ ?_
 rintro i I ⟨⟨j,f,g⟩,d⟩
 try dsimp only
 refine je rfl (gk (jl rfl (fun A=> ?_) (fun A=> ?_)))
 ·have j:i<s.length:=by omega
  obtain⟨b,r,rfl,a⟩:=f.at j
  have B:=num_take s j
  have C:=vl (s.take (i+1))
  have D:256^(s.take (i+1)).length≤2^8:=Nat.le_trans (Nat.pow_le_pow_right zd zl) hn
  have E:=(s[i]).toNat_lt
  have F:IntKind.u8.wrap (IntKind.u8.wrap (IntKind.u8.wrap (((num (s.take i):Nat):Int)*2^min (4:Int).toNat IntKind.u8.bits)*2^min (4:Int).toNat IntKind.u8.bits)+((s[i]).toNat:Int))=((num (s.take (i+1)):Nat):Int):=by
   rw[show(2:Int)^min (4:Int).toNat IntKind.u8.bits=16 from rfl,IntWalk.u8_in (((num (s.take i):Nat):Int)*16) zo,IntWalk.u8_in (((num (s.take i):Nat):Int)*16*16) zo,IntWalk.u8_in _ zo]
   omega
  refine xz (gr (qa (ki rfl 1 rfl i rfl zo (r+i*1) rfl (gy rfl a (jz rfl (je rfl (gk ?_)))))))
  refine j4 (jz rfl (yv rfl ?_))
  rw[F]
  refine gm (Bo rfl ?_)
  rw[kg _ zo]
  refine gm ?_
  exact jn (i+1) rfl ⟨⟨j,f,g⟩,d⟩ zf
 have e:s.take i=s:=List.take_of_length_le zo
 rw[e]
 refine Bi (je rfl (gq (gu rfl rfl ?_)))
 exact⟨rfl,g,d⟩
theorem next16_calls (w:World) {rb:Nat} {l:List UInt8} {e:Int} (h:Rd w rb l e) (hl:l.length<1000000000) (n:Nat) (hn:256^n≤2^16):
  gn prog 163 [.pointer (some ⟨rb,0,none⟩),.int .i64 (n:Int)] w fun v w'=>v= .int .u16 ((num (uz l e n).1:Nat):Int)∧Rd w' rb (uz l e n).2.1 (uz l e n).2.2∧Ext (One rb) w w':=by
 refine gx func163 ?_
 have d:=Ext.refl (One rb) w
 refine je rfl (gk (qc rfl (gi call162 rfl (yv2 w h hl (n:Int)) fun G H k=> ?_)))
 obtain⟨q,c,rfl,f,t,g,m⟩:=k
 have d:=d.then m
 obtain⟨o,x,p⟩:=xv1 l e n
 obtain⟨s,y⟩:∃s,s=(uz l e n).1:=⟨_,rfl⟩
 rw[←y] at f o p⊢
 refine jz rfl (gr ?_)
 refine jm (α:=Nat) [9,10] rfl (fun z=>[(4,.int .u16 ((num (s.take z):Nat):Int)),(11,.int .i64 (z:Int))]) (fun z u=>(z≤s.length∧vt u q s∧Rd u rb (uz l e n).2.1 (uz l e n).2.2)∧Ext (One rb) w u) (fun z u=>s.length-z) (0) rfl ⟨⟨Nat.zero_le _,f,g⟩,d⟩ ?_
 rintro i I ⟨⟨j,f,g⟩,d⟩
 try dsimp only
 refine je rfl (gk (jl rfl (fun A=> ?_) (fun A=> ?_)))
 ·have j:i<s.length:=by omega
  obtain⟨b,r,rfl,a⟩:=f.at j
  have B:=num_take s j
  have C:=vl (s.take (i+1))
  have D:256^(s.take (i+1)).length≤2^16:=Nat.le_trans (Nat.pow_le_pow_right zd zl) hn
  have E:=(s[i]).toNat_lt
  have F:IntKind.u16.wrap (IntKind.u16.wrap (IntKind.u16.wrap (((num (s.take i):Nat):Int)*2^min (4:Int).toNat IntKind.u16.bits)*2^min (4:Int).toNat IntKind.u16.bits)+IntKind.u16.wrap ((s[i]).toNat:Int))=((num (s.take (i+1)):Nat):Int):=by
   rw[show(2:Int)^min (4:Int).toNat IntKind.u16.bits=16 from rfl,IntWalk.u16_in ((s[i]).toNat:Int) zo,IntWalk.u16_in (((num (s.take i):Nat):Int)*16) zo,IntWalk.u16_in (((num (s.take i):Nat):Int)*16*16) zo,IntWalk.u16_in _ zo]
   omega
  refine xz (gr (qa (ki rfl 1 rfl i rfl zo (r+i*1) rfl (gy rfl a (jz rfl (je rfl (gk ?_)))))))
  refine j4 (jz rfl (yv rfl ?_))
  rw[F]
  refine gm (Bo rfl ?_)
  rw[kg _ zo]
  refine gm ?_
  exact jn (i+1) rfl ⟨⟨j,f,g⟩,d⟩ zf
 have e:s.take i=s:=List.take_of_length_le zo
 rw[e]
 refine Bi (je rfl (gq (gu rfl rfl ?_)))
 exact⟨rfl,g,d⟩
theorem next32_calls (w:World) {rb:Nat} {l:List UInt8} {e:Int} (h:Rd w rb l e) (hl:l.length<1000000000) (n:Nat) (hn:256^n≤2^32):
  gn prog 202 [.pointer (some ⟨rb,0,none⟩),.int .i64 (n:Int)] w fun v w'=>v= .int .u32 ((num (uz l e n).1:Nat):Int)∧Rd w' rb (uz l e n).2.1 (uz l e n).2.2∧Ext (One rb) w w':=by
 refine gx func202 ?_
 have d:=Ext.refl (One rb) w
 refine je rfl (gk (qc rfl (gi call162 rfl (yv2 w h hl (n:Int)) fun G H k=> ?_)))
 obtain⟨q,c,rfl,f,t,g,m⟩:=k
 have d:=d.then m
 obtain⟨o,x,p⟩:=xv1 l e n
 obtain⟨s,y⟩:∃s,s=(uz l e n).1:=⟨_,rfl⟩
 rw[←y] at f o p⊢
 refine jz rfl (gr ?_)
 refine jm (α:=Nat) [9,10] rfl (fun z=>[(4,.int .u32 ((num (s.take z):Nat):Int)),(11,.int .i64 (z:Int))]) (fun z u=>(z≤s.length∧vt u q s∧Rd u rb (uz l e n).2.1 (uz l e n).2.2)∧Ext (One rb) w u) (fun z u=>s.length-z) (0) rfl ⟨⟨Nat.zero_le _,f,g⟩,d⟩ ?_
 rintro i I ⟨⟨j,f,g⟩,d⟩
 try dsimp only
 refine je rfl (gk (jl rfl (fun A=> ?_) (fun A=> ?_)))
 ·have j:i<s.length:=by omega
  obtain⟨b,r,rfl,a⟩:=f.at j
  have B:=num_take s j
  have C:=vl (s.take (i+1))
  have D:256^(s.take (i+1)).length≤2^32:=Nat.le_trans (Nat.pow_le_pow_right zd zl) hn
  have E:=(s[i]).toNat_lt
  have F:IntKind.u32.wrap (IntKind.u32.wrap (IntKind.u32.wrap (((num (s.take i):Nat):Int)*2^min (4:Int).toNat IntKind.u32.bits)*2^min (4:Int).toNat IntKind.u32.bits)+IntKind.u32.wrap ((s[i]).toNat:Int))=((num (s.take (i+1)):Nat):Int):=by
   rw[show(2:Int)^min (4:Int).toNat IntKind.u32.bits=16 from rfl,IntWalk.u32_in ((s[i]).toNat:Int) zo,IntWalk.u32_in (((num (s.take i):Nat):Int)*16) zo,IntWalk.u32_in (((num (s.take i):Nat):Int)*16*16) zo,IntWalk.u32_in _ zo]
   omega
  refine xz (gr (qa (ki rfl 1 rfl i rfl zo (r+i*1) rfl (gy rfl a (jz rfl (je rfl (gk ?_)))))))
  refine j4 (jz rfl (yv rfl ?_))
  rw[F]
  refine gm (Bo rfl ?_)
  rw[kg _ zo]
  refine gm ?_
  exact jn (i+1) rfl ⟨⟨j,f,g⟩,d⟩ zf
 have e:s.take i=s:=List.take_of_length_le zo
 rw[e]
 refine Bi (je rfl (gq (gu rfl rfl ?_)))
 exact⟨rfl,g,d⟩
theorem u8_calls (w:World) {rb:Nat} {l:List UInt8} {e:Int} (h:Rd w rb l e) (hl:l.length<1000000000):
  gn prog 109 [.pointer (some ⟨rb,0,none⟩)] w fun v w'=>v= .int .u8 ((num (uz l e 1).1:Nat):Int)∧Rd w' rb (uz l e 1).2.1 (uz l e 1).2.2∧Ext (One rb) w w':=by
 refine gx func109 ?_
 have a:=Ext.refl (One rb) w
 refine je rfl (qc rfl (gi call173 rfl (next8_calls w h hl 1 zd) fun f g b=> ?_))
 obtain⟨rfl,d,c⟩:=b
 have a:=a.then c
 refine jz rfl (gq (gu rfl rfl ?_))
 exact⟨rfl,d,a⟩
theorem u16_calls (w:World) {rb:Nat} {l:List UInt8} {e:Int} (h:Rd w rb l e) (hl:l.length<1000000000):
  gn prog 104 [.pointer (some ⟨rb,0,none⟩)] w fun v w'=>v= .int .u16 ((num (uz l e 2).1:Nat):Int)∧Rd w' rb (uz l e 2).2.1 (uz l e 2).2.2∧Ext (One rb) w w':=by
 refine gx func104 ?_
 have a:=Ext.refl (One rb) w
 refine je rfl (qc rfl (gi call163 rfl (next16_calls w h hl 2 zd) fun f g b=> ?_))
 obtain⟨rfl,d,c⟩:=b
 have a:=a.then c
 refine jz rfl (gq (gu rfl rfl ?_))
 exact⟨rfl,d,a⟩
theorem zz5 (w:World) {rb:Nat} {l:List UInt8} {e:Int} (h:Rd w rb l e) (hl:l.length<1000000000):
  gn prog 171 [.pointer (some ⟨rb,0,none⟩)] w fun v w'=>v= .int .u32 ((num (uz l e 4).1:Nat):Int)∧Rd w' rb (uz l e 4).2.1 (uz l e 4).2.2∧Ext (One rb) w w':=by
 refine gx func171 ?_
 have a:=Ext.refl (One rb) w
 refine je rfl (qc rfl (gi call202 rfl (next32_calls w h hl 4 zd) fun f g b=> ?_))
 obtain⟨rfl,d,c⟩:=b
 have a:=a.then c
 refine jz rfl (gq (gu rfl rfl ?_))
 exact⟨rfl,d,a⟩
theorem rawN_calls (w:World) {rb:Nat} {l:List UInt8} {e:Int} (h:Rd w rb l e) (hl:l.length<1000000000) (n:Int):
  gn prog 103 [.pointer (some ⟨rb,0,none⟩),.int .i64 n] w fun v w'=>∃q c,v= .slice q (uz l e n).1.length c∧(Own w' q (uz l e n).1.length c 5 1 (ge (uz l e n).1)∧∀y,jd q y→w.heap.size≤y)∧Rd w' rb (uz l e n).2.1 (uz l e n).2.2∧Ext (One rb) w w':=by
 refine gx func103 ?_
 have d:=Ext.refl (One rb) w
 refine je rfl (qc rfl (gi call162 rfl (yv2 w h hl n) fun N D j=> ?_))
 obtain⟨q,c,rfl,x,E,z,k⟩:=j
 have d:=d.then k
 obtain⟨m,F,o⟩:=xv1 l e n
 obtain⟨s,G⟩:∃s,s=(uz l e n).1:=⟨_,rfl⟩
 rw[←G] at x m o⊢
 refine jz rfl (gk (je rfl (jl rfl (fun H=> ?_) (fun H=> ?_))))
 ·have I:s=[]:=List.eq_nil_of_length_eq_zero zo
  subst I
  refine je rfl (gq (gp (gu rfl rfl ?_)))
  exact⟨none,0,rfl,⟨Own.nil _ _ _,fun _ h=>by cases h⟩,z,d⟩
 refine j7 ?_
 refine j1 (qc rfl ?_)
 have p:=x
 have a:=d
 refine wl (zx0 gc rfl 0 s.length 1 rfl rfl rfl zd rfl rfl (Nat.zero_le _) zo zr fun f O A g b J=> ?_)
 refine j9 gc rfl ?_
 refine wl (uh gc rfl 1 1 rfl rfl rfl zd (Own.blk g 1 (by rw[ub];rfl) (Nat.zero_le _) zm) (Src.slice (p.ga b) OneC.h) zm zn fun K L M i r t=> ?_)
 have B:Ext No D M:=b.trans r fun y C u=>by have e:f=y:=congrArg Addr.block (Option.some.inj u);omega
 have d:=a.then (B.no (S:=One rb))
 have P:=i.sl
 refine jz rfl (gq (gu rfl rfl ?_))
 exact⟨K,L,by simp,⟨by simpa using i,fun y C=>(t y C).elim (fun u=>by have e:f=y:=congrArg Addr.block (Option.some.inj u);have:=a.size;omega) fun h=>by have:=a.size;have:=b.size;omega⟩,z.ga B,d⟩
theorem raw_calls (w:World) {rb:Nat} {l:List UInt8} {e:Int} (h:Rd w rb l e) (hl:l.length<1000000000) (n:Int):
  gn prog 103 [.pointer (some ⟨rb,0,none⟩),.int .i64 n] w fun v w'=>∃q c,v= .slice q (uz l e n).1.length c∧vt w' q (uz l e n).1∧Rd w' rb (uz l e n).2.1 (uz l e n).2.2∧Ext (One rb) w w':=
 (rawN_calls w h hl n).mono fun _v w' ⟨q,c,h1,h2,h3,h4⟩=>⟨q,c,h1,h2.1.sl,h3,h4⟩
theorem err_calls (w:World) {rb:Nat} {l:List UInt8} {e:Int} (h:Rd w rb l e):
  gn prog 111 [.pointer (some ⟨rb,0,none⟩)] w fun v w'=>v= .int .i64 e∧w'=w:=by
 obtain⟨p,c,a,b,d,f⟩:=h
 refine gx func111 ?_
 have g:=Ext.refl No w
 refine je rfl (gk (je rfl (C3 rfl (qc rfl (gy rfl (a.cell rfl) (jz rfl (gq ?_)))))))
 refine gp (gu rfl rfl ?_)
 exact⟨rfl,rfl⟩
theorem Cs (n:Nat) (hn:n<100):∀(w:World) (x:Nat),x<2^64→
  gn prog 96 [.int .u64 (x:Int),.int .i64 (n:Int)] w fun v w'=>∃q c,v= .slice q n c∧Own w' q n c 5 1 (ge (be n x))∧(∀b,jd q b→w.heap.size≤b)∧Ext No w w':=by
 induction n using Nat.strongRecOn
 rename_i n t
 intro w x I
 refine gx func96 ?_
 have d:=Ext.refl No w
 refine je rfl (gk (je rfl (jl rfl (fun u=> ?_) (fun u=> ?_))))
 ·have z:n=0:=by omega
  subst z
  refine je rfl (gq (gp (gu rfl rfl ?_)))
  exact⟨none,0,rfl,Own.nil _ _ _,fun b j=>by(cases j),d⟩
 obtain⟨m,rfl⟩:∃m,n=m+1:=⟨n-1,by omega⟩
 refine j7 (j1 (qc rfl ?_))
 rw[kg _ zo]
 have A:IntKind.u64.wrap ((x:Int).tdiv 256)=((x/256:Nat):Int):=by rw[IntWalk.u64_quo _ _ zo];rfl
 rw[A]
 rw[show(((m+1:Nat):Int)-1)=(m:Int) from by omega]
 refine gi call96 rfl (t m zo zo w (x/256) zo) fun J K k=> ?_
 obtain⟨q,c,rfl,B,f,g⟩:=k
 have d:=d.gb g
 refine j9 gc rfl (wl (qd gc rfl 1 rfl rfl rfl zd zd zt rfl fun i C r a e D=> ?_))
 have d:=d.gb e
 have a:j0 C i 5 (ge [UInt8.ofNat x]):=by
  have E:IntKind.u8.wrap ((x:Int).tmod 256)=((UInt8.ofNat x).toNat:Int):=by
   rw[Int.tmod_eq_emod_of_nonneg zo,IntKind.wrap_u8,UInt8.toNat_ofNat'];omega
  have s:=a
  rw[E] at s
  exact s
 refine wl (uh gc rfl 1 1 rfl rfl rfl zd (B.ext e fun _ _=>id) (Src.slice (m:=1) ⟨rfl,.inr ⟨i,0,rfl,a.ko⟩⟩ OneC.h) zm zn fun F G L l o p=> ?_)
 have d:=d.trans o fun y M H=>by have:=f y H;omega
 refine jz rfl (gq (gu rfl rfl ?_))
 exact⟨F,G,rfl,by rw[be,k8];exact l,fun b j=>(p b j).elim (fun h=>f b h) fun h=>by have:=g.size;have:=e.size;omega,d⟩
theorem number_calls (w:World) {p:Option Addr} {c:Nat} {l:List UInt8} (h:vt w p l) (hl:l.length≤8):
  gn prog 113 [.slice p l.length c] w fun v w'=>v= .int .u64 (num l:Int)∧w'=w:=by
 refine gx func113 ?_
 have d:=Ext.refl No w
 refine je rfl (je rfl (gk (je rfl (gr ?_))))
 refine jm (α:=Nat×Nat×Nat) [0] rfl (fun z=>[(3,.int .u64 (z.2.1:Int)),(4,.int .u64 (z.2.2:Int)),(5,.int .i64 (z.1:Int))]) (fun z u=>((z.1≤l.length∧z.2.1=num (l.drop z.1)∧z.2.2=256^(l.length-z.1)%2^64)∧u=w)∧Ext No w u) (fun z u=>z.1) ((l.length,0,1)) rfl ⟨⟨⟨Nat.le_refl _,by simp[num],by simp⟩,rfl⟩,d⟩ ?_
 rintro⟨i,x,q⟩ F ⟨⟨⟨t,o,r⟩,rfl⟩,d⟩
 try dsimp only
 dsimp only at t o r
 subst o r
 refine gk (je rfl (jl rfl (fun y=> ?_) (fun y=> ?_)))
 ·obtain⟨k,rfl⟩:∃k,i=k+1:=⟨i-1,by omega⟩
  have s:k<l.length:=by omega
  obtain⟨b,e,rfl,a⟩:=h.at s
  have A:=num_drop l s
  have f:=vl (l.drop k)
  rw[List.length_drop] at f
  have g:l.length-k=(l.length-(k+1))+1:=by omega
  have B:256^(l.length-k)≤256^8:=Nat.pow_le_pow_right zd zo
  have j:256^(l.length-(k+1))≤256^7:=Nat.pow_le_pow_right zd zo
  have C:=(l[k]).toNat_lt
  have m:256^(l.length-(k+1))%2^64=256^(l.length-(k+1)):=Nat.mod_eq_of_lt (Nat.lt_of_le_of_lt j zd)
  rw[m]
  have D:IntKind.u64.wrap ((num (l.drop (k+1)):Int)+IntKind.u64.wrap (((256^(l.length-(k+1)):Nat):Int)*IntKind.u64.wrap ((l[k]).toNat:Int)))=((num (l.drop k):Nat):Int):=by
   rw[IntWalk.u64_in ((l[k]).toNat:Int) zo,←Int.natCast_mul,Nat.mul_comm,IntWalk.u64_in (((l[k]).toNat*256^(l.length-(k+1)):Nat):Int) zo,IntWalk.u64_in _ zo]
   omega
  have n:IntKind.u64.wrap (((256^(l.length-(k+1)):Nat):Int)*256)=((256^(l.length-k)%2^64:Nat):Int):=by
   rw[g,Nat.pow_succ,IntKind.wrap_u64];omega
  refine xz (gr (qc rfl ?_))
  rw[kg _ zo]
  refine ki rfl 1 rfl k zo zo (e+k*1) rfl (gy rfl a (j9 gc rfl ?_))
  rw[D]
  refine qr (yv rfl ?_)
  rw[n]
  refine gm (Bo rfl ?_)
  rw[kg _ zo]
  rw[show(((k+1:Nat):Int)-1)=(k:Int) from by omega]
  refine gm ?_
  exact jn (k,num (l.drop k),256^(l.length-k)%2^64) rfl ⟨⟨⟨by dsimp only;omega,rfl,rfl⟩,rfl⟩,d⟩ zf
 have E:i=0:=by omega
 subst E
 rw[List.drop_zero]
 refine Bi (je rfl (gq (gu rfl rfl ?_)))
 exact⟨rfl,rfl⟩
theorem both_calls (w:World) {p q:Option Addr} {c d:Nat} {l m:List UInt8} (h:vt w p l) (h':vt w q m) (hl:l.length<1000000000) (hm:m.length<1000000000):
  gn prog 97 [.slice p l.length c,.slice q m.length d] w fun v w'=>∃r k,v= .slice r (l++m).length k∧Own w' r (l++m).length k 5 1 (ge (l++m))∧(∀b,jd r b→w.heap.size≤b)∧Ext No w w':=by
 refine gx func97 ?_
 have a:=Ext.refl No w
 refine je rfl (qa (wl (qd gc rfl 1 rfl rfl rfl zd zd trivial (l':=[]) rfl fun F O I s f J=> ?_)))
 have a:=a.gb f
 refine j9 gc rfl ?_
 refine wl (uh gc rfl 1 1 rfl rfl rfl zd (Own.blk (n:=0) (c:=0) s 1 rfl (Nat.le_refl _) zd) (Src.slice (h.ga a) OneC.h) zm zn fun G K L t u z=> ?_)
 have a:=a.trans u fun y M g=>by have e:F=y:=congrArg Addr.block (Option.some.inj g);omega
 have i:∀x,jd G x→w.heap.size≤x:=fun x A=>(z x A).elim (fun g=>by have e:F=x:=congrArg Addr.block (Option.some.inj g);omega) fun h=>by have:=f.size;omega
 have B:Own L G (0+l.length) K 5 1 (ge l):=t
 refine jz rfl (qc rfl ?_)
 have j:=a
 refine wl (uh gc rfl 1 1 rfl rfl rfl zd B (Src.slice (h'.ga a) OneC.h) zm zn fun H N P o C D=> ?_)
 have a:=j.trans C fun y M g=>by have:=i y g;omega
 have E:∀x,jd H x→w.heap.size≤x:=fun x A=>(D x A).elim (fun h=>i x h) fun h=>Nat.le_trans j.size h
 refine jz rfl (gq (gu rfl rfl ?_))
 exact⟨H,N,by dsimp only;rw[List.length_append,Nat.zero_add],by rw[List.length_append,k8];rw[Nat.zero_add] at o;exact o,E,a⟩
end Go.Proofs.YtpdiphfjmepijaaGreatDoor
namespace Go.Vc
section
variable {P:Program} {I:qs} {f:Fs} {ops:Array Oper} {o:Oper} {env:Env} {w:World}
def shE (n:Nat) (ops:Array Oper) (env:Env) (o:Oper):Option (BinOp×IntKind×Int×Int×Nat):=
  match pre n ops env o with
  |false=>none
  |true=>match o.dst with
    |some d=>match o.op with
      | .binOp op _ x y _=>match isShift op with
        |true=>match vv env x with
          |some (.int k p)=>match vv env y with
            |some (.int _ q)=>some (op,k,p,q,d)
            |_=>none
          |_=>none
        |false=>none
      |_=>none
    |none=>none
def shV (op:BinOp) (k:IntKind) (p q:Int):Value:=
  match op with
  | .shl=> .int k (k.wrap (p*2^min q.toNat k.bits))
  |_=> .int k (p.fdiv (2^min q.toNat k.bits))
theorem shE_pev {n:Nat} {op:BinOp} {k:IntKind} {p q:Int} {d:Nat} (h:shE n ops env o=some (op,k,p,q,d)) (hq:0≤q):pre n ops env o=true∧o.dst=some d∧pev I o.op env=some (shV op k p q):=by
 unfold shE at h
 split at h
 ·cases h
 rename_i c
 split at h
 ·rename_i m e
  split at h
  ·rename_i a t x y u f
   split at h
   ·rename_i b
    split at h
    ·rename_i r s g
     split at h
     ·rename_i v i j
      simp only[Option.some.injEq,Prod.mk.injEq] at h
      obtain⟨rfl,rfl,rfl,rfl,rfl⟩:=h
      refine⟨c,e,?_⟩
      have l:decide (i<0)=false:=decide_eq_false zo
      rw[f]
      simp only[pev,g,j,bin,b,shiftBin,l]
      cases a<;>first|rfl|cases b
     cases h
    cases h
   cases h
  cases h
 cases h
theorem wd_sh (hI:I.Ok P) {K:Act→World→Prop} {r:Dr} {i:Nat} {pl:List (Nat×Bool)} {dn:List Nat} (ho:ops[i]? =some o) {op:BinOp} {k:IntKind} {p q:Int} {d:Nat} (h:shE f.n ops env o=some (op,k,p,q,d)) (hq:0≤q)
  (kk:WD P f ops K r pl (i::dn) ((d,shV op k p q)::env) w):WD P f ops K r ((i,true)::pl) dn env w:=by
 obtain⟨a,b,c⟩:=shE_pev (I:=I) h hq
 exact xv2 ho a b (fun e _=>yy hI c e) kk
end
abbrev yr:=BitVec 32
abbrev vi (x:yr):Value:= .int .u32 (x.toNat:Int)
def jq (l:List yr):List Value:=l.map vi
theorem u3 (l:List yr):(jq l).length=l.length:=by simp[jq]
theorem xq1 (a b:List yr):jq (a++b)=jq a++jq b:=by simp[jq]
theorem A3 (l:List yr) {i:Nat} (h:i<l.length):(jq l)[i]? =some (vi l[i]):=by simp[jq,h]
instance (l:List yr):OneC (jq l):=⟨fun u hu=>by obtain⟨x,_,rfl⟩:=List.mem_map.1 hu;rfl⟩
theorem yv3 (x:yr):BitVec.ofInt 32 (x.toNat:Int)=x:=by
 apply BitVec.eq_of_toNat_eq
 have:=x.isLt
 rw[BitVec.toNat_ofInt]
 omega
theorem w_in (x:yr):IntKind.u32.wrap (x.toNat:Int)=(x.toNat:Int):=by
 have:=x.isLt
 rw[IntKind.wrap_u32];omega
theorem w_wrap (n:Nat):IntKind.u32.wrap (n:Int)=((BitVec.ofNat 32 n).toNat:Int):=by
 rw[IntKind.wrap_u32,BitVec.toNat_ofNat];omega
theorem Al (x y:yr):IntKind.u32.wrap ((x.toNat:Int)+(y.toNat:Int))=((x+y).toNat:Int):=by
 rw[IntKind.wrap_u32,BitVec.toNat_add];omega
theorem w_not (x:yr):IntKind.u32.wrap (4294967295-(x.toNat:Int))=((~~~x).toNat:Int):=by
 have:=x.isLt
 rw[IntKind.wrap_u32,BitVec.toNat_not];omega
theorem zj1 (x y:yr):bitI .xor .u32 (x.toNat:Int) (y.toNat:Int)=((x^^^y).toNat:Int):=by
 show IntKind.u32.wrap ((BitVec.ofInt 32 (x.toNat:Int)^^^BitVec.ofInt 32 (y.toNat:Int)).toNat:Int)=_
 rw[yv3,yv3,w_in]
theorem w_and (x y:yr):bitI .and .u32 (x.toNat:Int) (y.toNat:Int)=((x&&&y).toNat:Int):=by
 show IntKind.u32.wrap ((BitVec.ofInt 32 (x.toNat:Int)&&&BitVec.ofInt 32 (y.toNat:Int)).toNat:Int)=_
 rw[yv3,yv3,w_in]
theorem w_or (x y:yr):bitI .or .u32 (x.toNat:Int) (y.toNat:Int)=((x|||y).toNat:Int):=by
 show IntKind.u32.wrap ((BitVec.ofInt 32 (x.toNat:Int)|||BitVec.ofInt 32 (y.toNat:Int)).toNat:Int)=_
 rw[yv3,yv3,w_in]
theorem w_shr (x:yr) (q:Int):Int.fdiv (x.toNat:Int) (2^min q.toNat IntKind.u32.bits)=((x>>>q.toNat).toNat:Int):=by
 have a:=x.isLt
 rw[show(2:Int)^min q.toNat IntKind.u32.bits=((2^min q.toNat 32:Nat):Int) from by rw[Int.natCast_pow];rfl,Int.fdiv_eq_ediv_of_nonneg _ (Int.natCast_nonneg _),←Int.natCast_ediv,BitVec.toNat_ushiftRight,Nat.shiftRight_eq_div_pow]
 rcases Nat.le_total q.toNat 32 with h|h
 ·rw[Nat.min_eq_left h]
 rw[Nat.min_eq_right h,Nat.div_eq_of_lt a,Nat.div_eq_of_lt (Nat.lt_of_lt_of_le a (Nat.pow_le_pow_right zd h))]
theorem w_shl (x:yr) (q:Int):IntKind.u32.wrap ((x.toNat:Int)*2^min q.toNat IntKind.u32.bits)=((x<<<q.toNat).toNat:Int):=by
 rw[show(2:Int)^min q.toNat IntKind.u32.bits=((2^min q.toNat 32:Nat):Int) from by rw[Int.natCast_pow];rfl,←Int.natCast_mul,w_wrap]
 congr 1
 rw[BitVec.toNat_ofNat,BitVec.toNat_shiftLeft,Nat.shiftLeft_eq]
 rcases Nat.le_total q.toNat 32 with h|h
 ·rw[Nat.min_eq_left h]
 rw[Nat.min_eq_right h,Nat.mul_mod_left]
 obtain⟨k,a⟩:=Nat.exists_eq_add_of_le h
 rw[a,Nat.pow_add,←Nat.mul_assoc,Nat.mul_right_comm,Nat.mul_mod_left]
def rot (x:yr) (n:Nat):yr:=x>>>n|||x<<<(32-n)
def By (x:yr) (ns:List Nat):yr:=ns.foldl (fun o n=>o^^^rot x n) 0
theorem mixW_snoc (x:yr) (l:List Nat) (n:Nat):By x (l++[n])=By x l^^^rot x n:=by simp[By]
theorem rot_eq (x:yr) (n:Nat) (h:0<n∧n<32):(rot x n).toNat=x.toNat/2^n+(x.toNat%2^n)*2^(32-n):=by
 have c:=x.isLt
 obtain⟨k,d⟩:∃k,32=k+n:=⟨32-n,by omega⟩
 have a:32-n=k:=by omega
 have e:2^32=2^k*2^n:=by rw[←Nat.pow_add,←d]
 rw[rot,a,BitVec.toNat_or,BitVec.toNat_ushiftRight,BitVec.toNat_shiftLeft,Nat.shiftRight_eq_div_pow,Nat.shiftLeft_eq,e,Nat.mul_comm x.toNat,Nat.mul_mod_mul_left]
 have b:x.toNat/2^n<2^k:=Nat.div_lt_of_lt_mul (by rw[Nat.mul_comm,←e];exact c)
 have f:=Nat.two_pow_add_eq_or_of_lt b (x.toNat%2^n)
 rw[Nat.or_comm,←f,Nat.add_comm,Nat.mul_comm]
theorem C0 (x:yr) (n:Nat) (h:0<n∧n<32):IntKind.u32.wrap (IntKind.u32.wrap ((x.toNat:Int).tdiv ((2^n:Nat):Int))+IntKind.u32.wrap ((x.toNat:Int).tmod ((2^n:Nat):Int)*((2^(32-n):Nat):Int)))=((rot x n).toNat:Int):=by
 have e:=rot_eq x n h
 have c:=(rot x n).isLt
 have a:(x.toNat:Int).tdiv ((2^n:Nat):Int)=((x.toNat/2^n:Nat):Int):=rfl
 have b:(x.toNat:Int).tmod ((2^n:Nat):Int)=((x.toNat%2^n:Nat):Int):=rfl
 rw[a,b,←Int.natCast_mul]
 rw[IntKind.wrap_u32,IntKind.wrap_u32,IntKind.wrap_u32]
 omega
theorem div_eq (x:yr) (n:Nat):IntKind.u32.wrap ((x.toNat:Int).tdiv ((2^n:Nat):Int))=((x>>>n).toNat:Int):=by
 have a:(x.toNat:Int).tdiv ((2^n:Nat):Int)=((x.toNat/2^n:Nat):Int):=rfl
 have c:=x.isLt
 have b:x.toNat/2^n≤x.toNat:=Nat.div_le_self _ _
 rw[a,BitVec.toNat_ushiftRight,Nat.shiftRight_eq_div_pow,IntKind.wrap_u32]
 generalize x.toNat/2^n=q at b⊢
 omega
def natsV (l:List Nat):List Value:=l.map fun n:Nat=> .int .i64 (n:Int)
theorem Sl.natAt {w:World} {p:Option Addr} {l:List Nat} (h:Sl w p l.length 1 (natsV l)) {i:Nat} (hi:i<l.length):∃b off,p=some ⟨b,off,none⟩∧w.cell? ⟨b,off+i*1,none⟩=some (.int .i64 (l[i]:Int)):=by
 obtain⟨_,d|⟨b,off,a,c⟩⟩:=h
 ·omega
 exact⟨b,off,a,by rw[Nat.mul_one];exact c i _ (by simp[natsV,hi])⟩
theorem mixW_take (x:yr) (l:List Nat) {i:Nat} (h:i<l.length):By x (l.take (i+1))=By x (l.take i)^^^rot x l[i]:=by
 rw[List.take_succ_eq_append_getElem h,mixW_snoc]
def nextW (b:List UInt8) (l:List yr):yr:=
  if l.length<16 then BitVec.ofNat 32 (num ((b.drop (4*l.length)).take 4))
  else l.getD (l.length-16) 0+l.getD (l.length-7) 0+(By (l.getD (l.length-2) 0) [17,19]^^^l.getD (l.length-2) 0>>>10)+(By (l.getD (l.length-15) 0) [7,18]^^^l.getD (l.length-15) 0>>>3)
def sched (b:List UInt8):Nat→List yr
  |0=>[]
  |t+1=>sched b t++[nextW b (sched b t)]
theorem qq (b:List UInt8) (t:Nat):(sched b t).length=t:=by
 induction t with
 |zero=>rfl
 |succ t ih=>simp[sched,ih]
theorem xj8 (l r:List yr) {i:Nat} (h:i<l.length):(jq (l++r))[0+i*1]? =some (vi (l.getD i 0)):=by
 rw[Nat.zero_add,Nat.mul_one,A3 _ (by rw[List.length_append];omega),List.getElem_append_left h,List.getD_eq_getElem?_getD,List.getElem?_eq_getElem h]
 rfl
theorem B8 (l:List yr) {i:Nat} (h:i<l.length):(jq l)[i]? =some (vi (l.getD i 0)):=by
 rw[A3 _ h,List.getD_eq_getElem?_getD,List.getElem?_eq_getElem h]
 rfl
theorem yw2 (l:List yr) (k i:Nat) (x:yr) (hi:i=l.length):(jq (l++List.replicate (k+1) 0)).set (0+i*1) (vi x)=jq (l++[x]++List.replicate k 0):=by
 subst hi
 rw[Nat.zero_add,Nat.mul_one,jq,←List.map_set,List.set_append_right _ _ (Nat.le_refl _),Nat.sub_self,List.replicate_succ,List.append_assoc]
 rfl
theorem nextW_raw {b:List UInt8} {l:List yr} (h:l.length<16):nextW b l=BitVec.ofNat 32 (num ((b.drop (4*l.length)).take 4)):=if_pos h
theorem nextW_mix {b:List UInt8} {l:List yr} (h:¬l.length<16):nextW b l=l.getD (l.length-16) 0+l.getD (l.length-7) 0+(By (l.getD (l.length-2) 0) [17,19]^^^l.getD (l.length-2) 0>>>10)+(By (l.getD (l.length-15) 0) [7,18]^^^l.getD (l.length-15) 0>>>3):=if_neg h
def turnW (l:List yr) (k w:yr):List yr:=
  match l with
  | [a,b,c,d,e,f,g,h]=>
    let x:=h+By e [6,11,25]+(g^^^(e&&&(f^^^g)))+k+w
    let y:=By a [2,13,22]+((a&&&b)|||(c&&&(a|||b)))
    [x+y,a,b,c,d+x,e,f,g]
  |l=>l
def z8 (h ks ws:List yr):Nat→List yr
  |0=>h
  |t+1=>turnW (z8 h ks ws t) (ks.getD t 0) (ws.getD t 0)
theorem turnW_len (l:List yr) (k w:yr):(turnW l k w).length=l.length:=by
 unfold turnW
 split<;>rfl
theorem Cz (h ks ws:List yr) (t:Nat):(z8 h ks ws t).length=h.length:=by
 induction t with
 |zero=>rfl
 |succ t ih=>rw[z8,turnW_len,ih]
theorem eight {α:Type} {l:List α} (h:l.length=8):∃a b c d e f g i,l=[a,b,c,d,e,f,g,i]:=by
 match l,h with
 | [a,b,c,d,e,f,g,i],_=>exact⟨a,b,c,d,e,f,g,i,rfl⟩
theorem zip_set {f:yr→yr→yr} {h l:List yr} {i:Nat} (h1:i<h.length) (h2:i<l.length):(jq (List.zipWith f (h.take i) (l.take i)++h.drop i)).set (0+i*1) (vi (f h[i] l[i]))=jq (List.zipWith f (h.take (i+1)) (l.take (i+1))++h.drop (i+1)):=by
 have a:(List.zipWith f (h.take i) (l.take i)).length=i:=by simp;omega
 rw[Nat.zero_add,Nat.mul_one,jq,←List.map_set,List.set_append_right _ _ zo,a,Nat.sub_self,List.drop_eq_getElem_cons h1,List.set_cons_zero,List.take_succ_eq_append_getElem h1,List.take_succ_eq_append_getElem h2,List.zipWith_append zc]
 simp[jq]
theorem zip_at {f:yr→yr→yr} {h l:List yr} {i:Nat} (h1:i<h.length) (h2:i<l.length):(jq (List.zipWith f (h.take i) (l.take i)++h.drop i))[0+i*1]? =some (vi h[i]):=by
 have a:(List.zipWith f (h.take i) (l.take i)).length=i:=by simp;omega
 rw[Nat.zero_add,Nat.mul_one,jq,List.getElem?_map,List.getElem?_append_right zo,a,Nat.sub_self,List.drop_eq_getElem_cons h1]
 rfl
def intoW (ks h:List yr) (b:List UInt8):List yr:=List.zipWith (·+·) h (z8 h ks (sched b 64) 64)
theorem intoW_len (ks h:List yr) (b:List UInt8):(intoW ks h b).length=h.length:=by
 rw[intoW,List.length_zipWith,Cz,Nat.min_self]
def zy (ks h:List yr) (p:List UInt8):Nat→List yr
  |0=>h
  |n+1=>intoW ks (zy ks h p n) ((p.drop (64*n)).take 64)
theorem C7 (ks h:List yr) (p:List UInt8) (n:Nat):(zy ks h p n).length=h.length:=by
 induction n with
 |zero=>rfl
 |succ n ih=>rw[zy,intoW_len,ih]
def Cb (l:List UInt8):List UInt8:=l++[128]++List.replicate ((l.length+72)/64*64-8-(l.length+1)) 0++be 8 (8*l.length)
def ql:List yr:=[1116352408,1899447441,3049323471,3921009573,961987163,1508970993,2453635748,2870763221,
  3624381080,310598401,607225278,1426881987,1925078388,2162078206,2614888103,3248222580,
  3835390401,4022224774,264347078,604807628,770255983,1249150122,1555081692,1996064986,
  2554220882,2821834349,2952996808,3210313671,3336571891,3584528711,113926993,338241895,
  666307205,773529912,1294757372,1396182291,1695183700,1986661051,2177026350,2456956037,
  2730485921,2820302411,3259730800,3345764771,3516065817,3600352804,4094571909,275423344,
  430227734,506948616,659060556,883997877,958139571,1322822218,1537002063,1747873779,
  1955562222,2024104815,2227730452,2361852424,2428436474,2756734187,3204031479,3329325298]
def yp:List yr:=[1779033703,3144134277,1013904242,2773480762,1359893119,2600822924,528734635,1541459225]
def sumW (l:List UInt8):List UInt8:=(zy ql yp (Cb l) ((Cb l).length/64)).flatMap fun x=>be 4 x.toNat
theorem yz0 (l:List UInt8):(Cb l).length=(l.length+72)/64*64:=by
 simp only[Cb,List.length_append,List.length_replicate,jp,List.length_cons,List.length_nil]
 omega
theorem yw1 (l:List yr):(l.flatMap fun x=>be 4 x.toNat).length=4*l.length:=by
 induction l with
 |nil=>rfl
 |cons x r ih=>rw[List.flatMap_cons,List.length_append,ih,jp,List.length_cons];omega
theorem Bq (l:List UInt8):(sumW l).length=32:=by
 rw[sumW,yw1,C7];rfl
end Go.Vc
namespace Go.Proofs.YtpdiphfjmepijaaGreatDoor
open Go.Proofs.Tryz
open Go.Vc
theorem yj (w:World) (x:yr) {p:Option Addr} {c:Nat} {ns:List Nat} (h:Sl w p ns.length 1 (natsV ns)) (hns:∀n∈ns,n≤32) (hlen:ns.length<1000):
  gn prog 221 [vi x,.slice p ns.length c] w fun v w'=>v=vi (By x ns)∧Ext No w w':=by
 refine gx func221 ?_
 have a:=Ext.refl No w
 refine je rfl (je rfl (gk (je rfl (gr ?_))))
 refine jm (α:=Nat) [0,9,10] rfl (fun z=>[(5,vi (By x (ns.take z))),(11,.int .i64 (z:Int))]) (fun z u=>(z≤ns.length)∧Ext No w u) (fun z u=>ns.length-z) (0) rfl ⟨Nat.zero_le _,a⟩ ?_
 rintro i o ⟨f,a⟩
 try dsimp only
 refine je rfl (gk (jl rfl (fun k=> ?_) (fun k=> ?_)))
 ·have f:i<ns.length:=by omega
  obtain⟨b,g,rfl,d⟩:=(h.ga a).natAt f
  have l:=hns _ (List.getElem_mem f)
  refine xz (gr (qa (ki rfl 1 rfl i rfl zo (g+i*1) rfl (gy rfl d (jz rfl ?_)))))
  refine js rfl 11 [qP 0,qP 1,qP 2,qP 3,qP 4,qP 5,qP 6,qP 7,qP 8,qP 9,qP 10] [] (No) zk fun q j m=> ?_
  have a:=a.gb j
  refine gv gc 3 rfl (wd_sh gc rfl rfl (Int.natCast_nonneg _) ?_)
  dsimp only[shV]
  refine gv gc 3 rfl ?_
  rw[kg _ zo]
  refine wd_sh gc rfl rfl zo ?_
  dsimp only[shV]
  refine gv gc 3 rfl ?_
  rw[show(32-((ns[i]:Nat):Int))=((32-ns[i]:Nat):Int) from by omega,w_shr,w_shl,w_or,zj1,Int.toNat_natCast,Int.toNat_natCast,show(x>>>ns[i]|||x<<<(32-ns[i]))=rot x ns[i] from rfl,←mixW_take x ns f]
  refine jj (ja (Bo rfl ?_))
  rw[kg _ zo]
  refine gm ?_
  exact jn (i+1) rfl ⟨f,a⟩ zf
 have e:ns.take i=ns:=List.take_of_length_le zo
 rw[e]
 refine Bi (je rfl (gq (gu rfl rfl ?_)))
 exact⟨rfl,a⟩
end Go.Proofs.YtpdiphfjmepijaaGreatDoor
namespace Go.Vc
structure Bds where
  lo:Option Int
  hi:Option Int
  mx:Option Int
def Bds.Is (s:Bds) (n c l hh m:Nat):Prop:=
  (s.mx=some (m:Int)∧s.hi.isSome=true∨s.mx=none∧m=c)∧(s.hi=some (hh:Int)∨s.hi=none∧hh=n)∧(s.lo=some (l:Int)∨s.lo=none∧l=0)∧l≤hh∧hh≤m∧m≤c
section
variable {P:Program} {I:qs} {f:Fs} {ops:Array Oper} {o:Oper} {env:Env} {w:World}
def evB (env:Env) (lo hi mx:Option Operand):Option Bds:=
  match evI env lo with
  |some lo'=>match evI env hi with
    |some hi'=>match evI env mx with
      |some mx'=>some ⟨lo',hi',mx'⟩
      |none=>none
    |none=>none
  |none=>none
theorem run_bds {lo hi mx:Option Operand} {s:Bds} (h:evB env lo hi mx=some s) {ρ:Operand→Value} (hρ:∀x u,vv env x=some u→ρ x=u) {n c l hh m:Nat} (hs:s.Is n c l hh m) (b:Bool):
  (Instr.sliceBounds b n c (lo.map ρ) (hi.map ρ) (mx.map ρ)).run P w= .ok (l,hh,m) w:=by
 obtain⟨h1,h2,h3,hl,hm,hc⟩:=hs
 unfold evB at h
 split at h
 ·rename_i lo' hlo
  split at h
  ·rename_i hi' hhi
   split at h
   ·rename_i mx' hmx
    cases h
    simp only at h1 h2 h3
    have q3:(lo.map ρ=none∧l=0)∨∃k,lo.map ρ=some (.int k (l:Int)):=by
     rcases evI_eq hlo hρ with⟨hr,hv⟩|⟨nn,kk,hr,hv⟩<;>rcases h3 with h3|⟨h3,h3'⟩<;>rw[h3] at hr<;>cases hr
     ·exact .inl ⟨hv,h3'⟩
     exact .inr ⟨kk,hv⟩
    have q2:(hi.map ρ=none∧hi'=none∧hh=n)∨∃k,hi.map ρ=some (.int k (hh:Int)):=by
     rcases evI_eq hhi hρ with⟨hr,hv⟩|⟨nn,kk,hr,hv⟩<;>rcases h2 with h2|⟨h2,h2'⟩<;>rw[h2] at hr<;>cases hr
     ·exact .inl ⟨hv,h2,h2'⟩
     exact .inr ⟨kk,hv⟩
    have q1:(mx.map ρ=none∧m=c)∨(hi'.isSome=true∧∃k,mx.map ρ=some (.int k (m:Int))):=by
     rcases evI_eq hmx hρ with⟨hr,hv⟩|⟨nn,kk,hr,hv⟩<;>rcases h1 with⟨h1,h1'⟩|⟨h1,h1'⟩<;>rw[h1] at hr<;>cases hr
     ·exact .inl ⟨hv,h1'⟩
     exact .inr ⟨h1',kk,hv⟩
    unfold Instr.sliceBounds
    rcases q1 with⟨q1,rfl⟩|⟨q1',k1,q1⟩<;>rcases q2 with⟨q2,q2',rfl⟩|⟨k2,q2⟩<;>rcases q3 with⟨q3,rfl⟩|⟨k3,q3⟩<;>rw[q1,q2,q3]<;>
     first
      |(rw[q2'] at q1';cases q1';done)
      |(cases b<;>simp only[Sem.run_bind,Sem.run_pure,Result.andThen_ok,if_true,Cn _ _ _ _ hl,Cn _ _ _ _ hm,Cn _ _ _ _ hc];done)
   cases h
  cases h
 cases h
def saE (I:qs) (n:Nat) (ops:Array Oper) (env:Env) (o:Oper):Option (Nat×Nat×Nat×Nat×Bds×Nat):=
  match pre n ops env o with
  |false=>none
  |true=>match o.dst with
    |some d=>match o.op with
      | .slice t x lo hi mx=>match y0 I t with
        |some y=>match y.desc with
          | .array m e=>match y0 I e with
            |some g=>match vv env x with
              |some (.pointer (some ⟨b,off,none⟩))=>match evB env lo hi mx with
                |some s=>some (b,off,m,g.size,s,d)
                |none=>none
              |_=>none
            |none=>none
          |_=>none
        |none=>none
      |_=>none
    |none=>none
theorem ov_sa (hI:I.Ok P) {nn b off len sz0 d:Nat} {s:Bds} (h:saE I nn ops env o=some (b,off,len,sz0,s,d)) (l hh m sz:Nat) (hsz:sz0=sz) (hs:s.Is len len l hh m):
  pre nn ops env o=true∧o.dst=some d∧Ov P o env w (.slice (u5 (some ⟨b,off,none⟩) l m sz) (hh-l) (m-l)) w:=by
 subst hsz
 unfold saE at h
 split at h
 ·cases h
 rename_i k
 split at h
 ·rename_i E n
  split at h
  ·rename_i t x p q r u
   split at h
   ·rename_i y v
    split at h
    ·rename_i F e z
     split at h
     ·rename_i g A
      split at h
      ·rename_i f a B
       split at h
       ·rename_i G c
        simp only[Option.some.injEq,Prod.mk.injEq] at h
        obtain⟨rfl,rfl,rfl,rfl,rfl,rfl⟩:=h
        refine⟨k,n,fun H i=> ?_⟩
        have j:=(hI.get v).under w
        have C:=(hI.get A).sizeOf w
        rw[z] at j
        have D:(Instr.sliceAt t (.pointer (some ⟨f,a,none⟩)) (p.map H) (q.map H) (r.map H)).run P w= .ok (.slice (u5 (some ⟨f,a,none⟩) l m g.size) (hh-l) (m-l)) w:=by
         unfold Instr.sliceAt
         rw[jc j]
         simp only[Instr.sureAddr,Sem.run_bind,Sem.run_pure,Result.andThen_ok,run_bds c i hs false,C,u5]
         split<;>rfl
        simp only[execOp,u,i _ _ B,Sem.run_bind,D,Result.andThen_ok,Sem.run_pure]
       cases h
      cases h
     cases h
    cases h
   cases h
  cases h
 cases h
theorem st_sa (hI:I.Ok P) {K:Env→World→Prop} {b off len sz0 d:Nat} {s:Bds} (h:saE I f.n ops env o=some (b,off,len,sz0,s,d)) (l hh m sz:Nat) (hsz:sz0=sz) (hs:s.Is len len l hh m)
  (k:K ((d,.slice (u5 (some ⟨b,off,none⟩) l m sz) (hh-l) (m-l))::env) w):St P f ops o env w K:=by
 obtain⟨a,c,e⟩:=ov_sa (w:=w) hI h l hh m sz hsz hs
 obtain⟨g,i⟩:=pre_eq a
 exact xq g i e (by rw[c];exact k)
theorem xw9 (hI:I.Ok P) {K:Act→World→Prop} {r:Dr} {i:Nat} {pl:List (Nat×Bool)} {dn:List Nat} (ho:ops[i]? =some o) {b off len sz0 d:Nat} {s:Bds} (h:saE I f.n ops env o=some (b,off,len,sz0,s,d)) (l hh m sz:Nat) (hsz:sz0=sz) (hs:s.Is len len l hh m)
  (k:WD P f ops K r pl (i::dn) ((d,.slice (u5 (some ⟨b,off,none⟩) l m sz) (hh-l) (m-l))::env) w):WD P f ops K r ((i,true)::pl) dn env w:=by
 obtain⟨a,c,_⟩:=ov_sa (w:=w) hI h l hh m sz hsz hs
 exact xv2 ho a c (fun e _=>(ov_sa (w:=e) hI h l hh m sz hsz hs).2.2) k
def ssE (I:qs) (n:Nat) (ops:Array Oper) (env:Env) (o:Oper):Option (ByteArray×Bds×Nat):=
  match pre n ops env o with
  |false=>none
  |true=>match o.dst with
    |some d=>match o.op with
      | .slice t x lo hi none=>match y0 I t with
        |some y=>match y.desc with
          | .string=>match vv env x with
            |some (.string s)=>match evB env lo hi none with
              |some bs=>some (s,bs,d)
              |none=>none
            |_=>none
          |_=>none
        |none=>none
      |_=>none
    |none=>none
theorem ov_ss (hI:I.Ok P) {nn d:Nat} {s:ByteArray} {bs:Bds} (h:ssE I nn ops env o=some (s,bs,d)) (l hh:Nat) (hs:bs.Is s.size s.size l hh s.size):
  pre nn ops env o=true∧o.dst=some d∧Ov P o env w (.string (s.extract l hh)) w:=by
 unfold ssE at h
 split at h
 ·cases h
 rename_i j
 split at h
 ·rename_i v k
  split at h
  ·rename_i t x e f m
   split at h
   ·rename_i y n
    split at h
    ·rename_i p
     split at h
     ·rename_i a q
      split at h
      ·rename_i r b
       simp only[Option.some.injEq,Prod.mk.injEq] at h
       obtain⟨rfl,rfl,rfl⟩:=h
       refine⟨j,k,fun z g=> ?_⟩
       have c:=(hI.get n).under w
       rw[p] at c
       have i:=run_bds (P:=P) (w:=w) b g hs false
       simp only[Option.map_none] at i
       have u:(Instr.sliceAt t (.string a) (e.map z) (f.map z) none).run P w= .ok (.string (a.extract l hh)) w:=by
        unfold Instr.sliceAt
        rw[jc c]
        show(Instr.slice t (.string a) (e.map z) (f.map z) none).run P w=_
        unfold Instr.slice
        rw[jc c]
        simp only[Option.isSome_none,Bool.false_eq_true,if_false,Sem.run_bind,Sem.run_pure,Result.andThen_ok,i]
       simp only[execOp,m,g _ _ q,Option.map_none,Sem.run_bind,u,Result.andThen_ok,Sem.run_pure]
      cases h
     cases h
    cases h
   cases h
  cases h
 cases h
theorem st_ss (hI:I.Ok P) {K:Env→World→Prop} {d:Nat} {s:ByteArray} {bs:Bds} (h:ssE I f.n ops env o=some (s,bs,d)) (l hh:Nat) (hs:bs.Is s.size s.size l hh s.size)
  (k:K ((d,.string (s.extract l hh))::env) w):St P f ops o env w K:=by
 obtain⟨a,b,c⟩:=ov_ss (w:=w) hI h l hh hs
 obtain⟨e,g⟩:=pre_eq a
 exact xq e g c (by rw[b];exact k)
def spE (I:qs) (n:Nat) (ops:Array Oper) (env:Env) (o:Oper):Option (Option Addr×Nat×Nat×Nat):=
  match pre n ops env o with
  |false=>none
  |true=>match o.dst with
    |some d=>match o.op with
      | .sliceToArrayPointer t x=>match y0 I t with
        |some y=>match y.desc with
          | .array m _=>match vv env x with
            |some (.slice p len _)=>some (p,len,m,d)
            |_=>none
          |_=>none
        |none=>none
      |_=>none
    |none=>none
theorem ov_sp (hI:I.Ok P) {nn len m d:Nat} {p:Option Addr} (h:spE I nn ops env o=some (p,len,m,d)) (hm:m≤len):
  pre nn ops env o=true∧o.dst=some d∧Ov P o env w (.pointer p) w:=by
 unfold spE at h
 split at h
 ·cases h
 rename_i f
 split at h
 ·rename_i s g
  split at h
  ·rename_i t x i
   split at h
   ·rename_i y j
    split at h
    ·rename_i u e k
     split at h
     ·rename_i b a l n
      simp only[Option.some.injEq,Prod.mk.injEq] at h
      obtain⟨rfl,rfl,rfl,rfl⟩:=h
      refine⟨f,g,fun v q=> ?_⟩
      have c:=(hI.get j).under w
      rw[k] at c
      have r:(Instr.arrayAt t (.slice b a l)).run P w= .ok (.pointer b) w:=by
       unfold Instr.arrayAt
       rw[jc c]
       simp only[if_neg (Nat.not_lt.2 hm),Sem.run_pure]
      simp only[execOp,i,q _ _ n,Sem.run_bind,r,Result.andThen_ok,Sem.run_pure]
     cases h
    cases h
   cases h
  cases h
 cases h
theorem st_sp (hI:I.Ok P) {K:Env→World→Prop} {len m d:Nat} {p:Option Addr} (h:spE I f.n ops env o=some (p,len,m,d)) (hm:m≤len)
  (k:K ((d,.pointer p)::env) w):St P f ops o env w K:=by
 obtain⟨a,b,c⟩:=ov_sp (w:=w) hI h hm
 obtain⟨e,g⟩:=pre_eq a
 exact xq e g c (by rw[b];exact k)
def mfE (n:Nat) (ops:Array Oper) (env:Env) (o:Oper):Option (FuncId×List Value×List Value×Nat):=
  match pre n ops env o with
  |false=>none
  |true=>match o.dst with
    |some d=>match o.op with
      | .makeFunc (.func g) fs cs=>match evs env fs.toList with
        |some l=>match evs env cs.toList with
          |some m=>some (g,l,m,d)
          |none=>none
        |none=>none
      |_=>none
    |none=>none
theorem ov_mf {nn d:Nat} {g:FuncId} {l m:List Value} (h:mfE nn ops env o=some (g,l,m,d)):
  pre nn ops env o=true∧o.dst=some d∧Ov P o env w (.func (.func g) l.toArray m.toArray) w:=by
 unfold mfE at h
 split at h
 ·cases h
 rename_i b
 split at h
 ·rename_i j c
  split at h
  ·rename_i k n p e
   split at h
   ·rename_i q f
    split at h
    ·rename_i r i
     simp only[Option.some.injEq,Prod.mk.injEq] at h
     obtain⟨rfl,rfl,rfl,rfl⟩:=h
     refine⟨b,c,fun s a=> ?_⟩
     simp only[execOp,e,Instr.makeFunc,evs_arr a f,evs_arr a i,Sem.run_bind,Result.andThen_ok,Sem.run_pure]
    cases h
   cases h
  cases h
 cases h
theorem st_mf {K:Env→World→Prop} {d:Nat} {g:FuncId} {l m:List Value} (h:mfE f.n ops env o=some (g,l,m,d))
  (k:K ((d,.func (.func g) l.toArray m.toArray)::env) w):St P f ops o env w K:=by
 obtain⟨a,b,c⟩:=ov_mf (P:=P) (w:=w) h
 obtain⟨e,i⟩:=pre_eq a
 exact xq e i c (by rw[b];exact k)
end
end Go.Vc
namespace Go.Proofs.YtpdiphfjmepijaaGreatDoor
open Go.Proofs.Tryz
open Go.Vc
theorem offR_ok {l:List UInt8} {n:Nat} (h:n≤l.length):uz l 0 (n:Int)=(l.take n,l.drop n,0):=by
 unfold uz
 rw[if_neg zp,if_neg zo,if_neg zo]
 simp
theorem drawn_calls (w:World) {b:List UInt8} (hb:b.length=64):
  gn prog 220 [.agg (ge b).toArray] w fun v w'=>v= .agg (jq (sched b 64)).toArray∧Ext No w w':=by
 refine gx func220 ?_
 have d:=Ext.refl No w
 refine qa (gw rfl fun b1 w1 b5 a6 ae=> ?_)
 have d:=d.gb ae
 refine gw rfl fun T w2 af a a9=> ?_
 have M:=Nat.le_trans d.size af
 have a6:=a6.ga a9
 have d:=d.gb a9
 have a:j0 w2 T 313 (jq (sched b 0++List.replicate (64-0) 0)):=a
 refine qr (qa (wl (st_sa gc rfl 0 64 64 1 rfl ⟨.inr ⟨rfl,rfl⟩,.inr ⟨rfl,rfl⟩,.inr ⟨rfl,rfl⟩,by decide,by decide,by decide⟩ ?_)))
 rw[ka,Nat.sub_zero]
 rw[show Value.slice (some ⟨b1,0,none⟩) 64 64= .slice (some ⟨b1,0,none⟩) b.length b.length from by rw[hb]]
 have ag:=d
 refine gi call101 rfl (Dd w2 (p:=some ⟨b1,0,none⟩) (c:=b.length) (l:=b) ⟨by simp[gl],.inr ⟨b1,0,rfl,a6.ko⟩⟩ zo) fun v3 w3 ah=> ?_
 obtain⟨rb,rfl,ai,f,aa⟩:=ah
 have a:=a.ga aa
 have d:=d.gb aa
 have aj:=Nat.le_trans ag.size ai
 refine jz rfl (gk (je rfl (gr ?_)))
 refine jm (α:=Nat) [2,3] rfl (fun z=>[(9,.int .i64 (z:Int))]) (fun z u=>(z≤64∧Rd u rb (b.drop (4*min z 16)) 0)∧j0 u T 313 (jq (sched b z++List.replicate (64-z) 0))∧Ext No w u) (fun z u=>64-z) (0) rfl ⟨⟨by decide,by simpa using f⟩,a,d⟩ ?_
 rintro t w4 ⟨⟨ht,f⟩,a,d⟩
 refine je rfl (gk (jl rfl (fun hc=> ?_) (fun hc=> ?_)))
 ·have ht:t<64:=by omega
  refine j7 (j1 (jv (α:=Unit) [2,3,9] rfl (fun z=>[]) (fun z u=>(Rd u rb (b.drop (4*min (t+1) 16)) 0)∧j0 u T 313 (jq (sched b (t+1)++List.replicate (64-(t+1)) 0))∧Ext No w u) ?_ ?_))
  ·refine gr ?_
   refine je rfl (gk (je rfl (jl rfl (fun hc=> ?_) (fun hc=> ?_))))
   ·have N:t<16:=by omega
    have e4:min t 16=t:=by omega
    have e5:min (t+1) 16=t+1:=by omega
    rw[e4] at f
    refine qc rfl ?_
    have y:=f.ne a zd
    refine gi call171 rfl (zz5 w4 f za) fun v5 w5 ak=> ?_
    obtain⟨rfl,f,ab⟩:=ak
    have a:=a.ext ab (fun e=>y e.symm)
    have d:=d.gh ab aj
    have e6:=offR_ok (l:=b.drop (4*t)) (n:=4) za
    have e6:uz (b.drop (4*t)) 0 4=_:=e6
    rw[e6] at f
    rw[e6]
    have e7:List.drop 4 (b.drop (4*t))=b.drop (4*min (t+1) 16):=by rw[List.drop_drop,e5,Nat.mul_add]
    rw[e7] at f
    have e8:(num ((b.drop (4*t)).take 4):Int)=((nextW b (sched b t)).toNat:Int):=by
     rw[nextW_raw (by rw[qq];exact N),qq,BitVec.toNat_ofNat]
     have:=vl ((b.drop (4*t)).take 4)
     rw[List.length_take,List.length_drop] at this
     have h4:min 4 (b.length-4*t)=4:=by omega
     rw[h4] at this
     omega
    dsimp only
    rw[e8]
    refine ki rfl 1 rfl t rfl zo (0+t*1) rfl ?_
    have g:=a
    refine wl (u4 gc a rfl rfl (by rw[u3,List.length_append,qq,List.length_replicate];omega) fun w6 a ac b6=> ?_)
    have d:=d.gh ac M
    have a:j0 w6 T 313 (jq (sched b (t+1)++List.replicate (64-(t+1)) 0)):=by
     have e:64-t=(64-(t+1))+1:=by omega
     have O:=a
     rw[e,yw2 _ _ _ _ (qq b t).symm] at O
     exact O
    have y:=f.ne g zd
    have f:=f.ext ac (fun e=>y e) (fun b' L h e=>h.ne g zd e)
    refine qr (yo ?_)
    exact qy (vf (gz (()) rfl ⟨f,a,d⟩))
   have N:¬t<16:=by omega
   have e4:min t 16=min (t+1) 16:=by omega
   rw[e4] at f
   have W:=nextW_mix (b:=b) (l:=sched b t) (by rw[qq];exact N)
   rw[qq] at W
   have a7:IntKind.u32.wrap (IntKind.u32.wrap (IntKind.u32.wrap ((((sched b t).getD (t-16) 0).toNat:Int)+(((sched b t).getD (t-7) 0).toNat:Int))+bitI .xor .u32 ((By ((sched b t).getD (t-2) 0) [17,19]).toNat:Int) (Int.fdiv (((sched b t).getD (t-2) 0).toNat:Int) (2^min (10:Int).toNat IntKind.u32.bits)))+bitI .xor .u32 ((By ((sched b t).getD (t-15) 0) [7,18]).toNat:Int) (Int.fdiv (((sched b t).getD (t-15) 0).toNat:Int) (2^min (3:Int).toNat IntKind.u32.bits)))=((nextW b (sched b t)).toNat:Int):=by
    rw[W,Al,w_shr,zj1,Al,w_shr,zj1,Al]
    rfl
   refine xz (js rfl 10 [qP 0,qP 1,qP 2,qP 3,qP 4,qP 5,qP 6,qP 7,qP 8,qP 9] [] (No) zk fun w7 a8 b7=> ?_)
   have P:=a
   have a:=a.ga a8
   have f:=f.ga a8
   have d:=d.gb a8
   refine gv gc 2 rfl ?_
   rw[kg _ zo]
   refine qk gc rfl rfl 1 rfl (t-2) zo zo (0+(t-2)*1) rfl ?_
   refine j6 gc rfl rfl (fun w' H=>(P.ga H).cell (i:=0+(t-2)*1) (v:=vi ((sched b t).getD (t-2) 0)) (xj8 _ _ (by rw[qq];omega))) ?_
   refine gv gc 2 rfl ?_
   rw[kg _ zo]
   refine qk gc rfl rfl 1 rfl (t-15) zo zo (0+(t-15)*1) rfl ?_
   refine j6 gc rfl rfl (fun w' H=>(P.ga H).cell (i:=0+(t-15)*1) (v:=vi ((sched b t).getD (t-15) 0)) (xj8 _ _ (by rw[qq];omega))) ?_
   refine gv gc 2 rfl (jj (ja (j1 (zq7 rfl 25 25 [25] (No) zk fun w8 U b8=> ?_))))
   have P:=a
   have a:=a.ga U
   have f:=f.ga U
   have d:=d.gb U
   have k:Ext No _ w8:=U
   refine qe [qP 0,qP 1,qP 2,qP 3,qP 4,qP 5,qP 6,qP 7,qP 8,qP 9,qP 10,qP 13,qP 14,qP 17,qP 20,qP 21] 9 rfl zk (gv gc 3 rfl ?_)
   rw[kg _ zo]
   refine qk gc rfl rfl 1 rfl (t-16) zo zo (0+(t-16)*1) rfl ?_
   refine j6 gc rfl rfl (fun w' H=>(P.ga H).cell (i:=0+(t-16)*1) (v:=vi ((sched b t).getD (t-16) 0)) (xj8 _ _ (by rw[qq];omega))) ?_
   refine gv gc 2 rfl ?_
   rw[kg _ zo]
   refine qk gc rfl rfl 1 rfl (t-7) zo zo (0+(t-7)*1) rfl ?_
   refine j6 gc rfl rfl (fun w' H=>(P.ga H).cell (i:=0+(t-7)*1) (v:=vi ((sched b t).getD (t-7) 0)) (xj8 _ _ (by rw[qq];omega))) ?_
   refine gv gc 7 rfl (xg rfl (Ab [11,18] rfl zk ⟨⟨_,rfl,?_⟩,⟨_,rfl,?_⟩,trivial⟩))
   ·refine qd gc rfl 1 rfl rfl rfl zd zd zt rfl fun I w9 Q q R b9=>⟨k.gb R,?_⟩
    have V:=Nat.le_trans k.size Q
    have a:=a.ga R
    have f:=f.ga R
    have d:=d.gb R
    have k:=k.gb R
    refine qe [] 8 rfl zk (xg rfl (Ab [12,18] rfl zk ⟨⟨_,rfl,?_⟩,⟨_,rfl,?_⟩,trivial⟩))
    ·refine j3 call221 rfl (yj w9 _ (p:=some ⟨I,0,none⟩) (c:=2) (ns:=[17,19]) ⟨rfl,.inr ⟨I,0,rfl,q.ko⟩⟩ zd zd) fun ba bb X=>⟨(by obtain⟨rfl,r⟩:=X;exact k.gb r),?_⟩
     obtain⟨rfl,r⟩:=X
     have a:=a.ga r
     have f:=f.ga r
     have d:=d.gb r
     have k:=k.gb r
     refine qe [qP 15,qP 16,(18,false),(19,false),qP 22,qP 23,qP 24] 0 rfl zk (gv gc 2 rfl ?_)
     refine jg rfl (qd gc rfl 1 rfl rfl rfl zd zd zt rfl fun A al B j C av=>⟨k.gb C,?_⟩)
     have J:=Nat.le_trans k.size B
     have a:=a.ga C
     have f:=f.ga C
     have d:=d.gb C
     have k:=k.gb C
     refine jg rfl (j3 call221 rfl (yj al _ (p:=some ⟨A,0,none⟩) (c:=2) (ns:=[7,18]) ⟨rfl,.inr ⟨A,0,rfl,j.ko⟩⟩ zd zd) fun bc bd Y=>⟨(by obtain⟨rfl,D⟩:=Y;exact k.gb D),?_⟩)
     obtain⟨rfl,D⟩:=Y
     have a:=a.ga D
     have f:=f.ga D
     have d:=d.gb D
     refine gv gc 2 rfl ?_
     rw[a7]
     refine qk gc rfl rfl 1 rfl t rfl zo (0+t*1) rfl (jj ?_)
     have g:=a
     refine wb rfl (u4 gc a rfl rfl (by rw[u3,List.length_append,qq,List.length_replicate];omega) fun am a Z aw=> ?_)
     have d:=d.gh Z M
     have a:j0 am T 313 (jq (sched b (t+1)++List.replicate (64-(t+1)) 0)):=by
      have e:64-t=(64-(t+1))+1:=by omega
      have O:=a
      rw[e,yw2 _ _ _ _ (qq b t).symm] at O
      exact O
     have y:=f.ne g zd
     have f:=f.ext Z (fun e=>y e) (fun b' L h e=>h.ne g zd e)
     refine ja ?_
     exact jy (gz (()) rfl ⟨f,a,d⟩)
    refine qd gc rfl 1 rfl rfl rfl zd zd zt rfl fun A an B j s ax=>⟨k.gb s,?_⟩
    have J:=Nat.le_trans k.size B
    have a:=a.ga s
    have q:=q.ga s
    have f:=f.ga s
    have d:=d.gb s
    have k:=k.gb s
    refine qe [(12,false),qP 15,qP 16,(19,false),qP 22,qP 23,qP 24] 0 rfl zk ?_
    refine jg rfl (j3 call221 rfl (yj an _ (p:=some ⟨I,0,none⟩) (c:=2) (ns:=[17,19]) ⟨rfl,.inr ⟨I,0,rfl,q.ko⟩⟩ zd zd) fun bf ao a0=>⟨(by obtain⟨rfl,m⟩:=a0;exact k.gb m),?_⟩)
    obtain⟨rfl,m⟩:=a0
    have a:=a.ga m
    have j:=j.ga m
    have f:=f.ga m
    have d:=d.gb m
    have k:=k.gb m
    refine gv gc 2 rfl ?_
    refine jg rfl (j3 call221 rfl (yj ao _ (p:=some ⟨A,0,none⟩) (c:=2) (ns:=[7,18]) ⟨rfl,.inr ⟨A,0,rfl,j.ko⟩⟩ zd zd) fun bg bh a1=>⟨(by obtain⟨rfl,E⟩:=a1;exact k.gb E),?_⟩)
    obtain⟨rfl,E⟩:=a1
    have a:=a.ga E
    have f:=f.ga E
    have d:=d.gb E
    refine gv gc 2 rfl ?_
    rw[a7]
    refine qk gc rfl rfl 1 rfl t rfl zo (0+t*1) rfl (jj ?_)
    have g:=a
    refine wb rfl (u4 gc a rfl rfl (by rw[u3,List.length_append,qq,List.length_replicate];omega) fun ap a a2 ay=> ?_)
    have d:=d.gh a2 M
    have a:j0 ap T 313 (jq (sched b (t+1)++List.replicate (64-(t+1)) 0)):=by
     have e:64-t=(64-(t+1))+1:=by omega
     have O:=a
     rw[e,yw2 _ _ _ _ (qq b t).symm] at O
     exact O
    have y:=f.ne g zd
    have f:=f.ext a2 (fun e=>y e) (fun b' L h e=>h.ne g zd e)
    refine ja ?_
    exact jy (gz (()) rfl ⟨f,a,d⟩)
   refine qd gc rfl 1 rfl rfl rfl zd zd zt rfl fun A bi B j F az=>⟨k.gb F,?_⟩
   have J:=Nat.le_trans k.size B
   have a:=a.ga F
   have f:=f.ga F
   have d:=d.gb F
   have k:=k.gb F
   refine qe [(11,false),(12,false),qP 15,qP 16,(19,false),qP 22,qP 23,qP 24] 0 rfl zk ?_
   refine jg rfl (qd gc rfl 1 rfl rfl rfl zd zd zt rfl fun I aq Q q x b0=>⟨k.gb x,?_⟩)
   have V:=Nat.le_trans k.size Q
   have a:=a.ga x
   have j:=j.ga x
   have f:=f.ga x
   have d:=d.gb x
   have k:=k.gb x
   refine jg rfl (j3 call221 rfl (yj aq _ (p:=some ⟨I,0,none⟩) (c:=2) (ns:=[17,19]) ⟨rfl,.inr ⟨I,0,rfl,q.ko⟩⟩ zd zd) fun bj ar a3=>⟨(by obtain⟨rfl,o⟩:=a3;exact k.gb o),?_⟩)
   obtain⟨rfl,o⟩:=a3
   have a:=a.ga o
   have j:=j.ga o
   have f:=f.ga o
   have d:=d.gb o
   have k:=k.gb o
   refine gv gc 2 rfl ?_
   refine jg rfl (j3 call221 rfl (yj ar _ (p:=some ⟨A,0,none⟩) (c:=2) (ns:=[7,18]) ⟨rfl,.inr ⟨A,0,rfl,j.ko⟩⟩ zd zd) fun bk bm a4=>⟨(by obtain⟨rfl,G⟩:=a4;exact k.gb G),?_⟩)
   obtain⟨rfl,G⟩:=a4
   have a:=a.ga G
   have f:=f.ga G
   have d:=d.gb G
   refine gv gc 2 rfl ?_
   rw[a7]
   refine qk gc rfl rfl 1 rfl t rfl zo (0+t*1) rfl (jj ?_)
   have g:=a
   refine wb rfl (u4 gc a rfl rfl (by rw[u3,List.length_append,qq,List.length_replicate];omega) fun au a a5 b3=> ?_)
   have d:=d.gh a5 M
   have a:j0 au T 313 (jq (sched b (t+1)++List.replicate (64-(t+1)) 0)):=by
    have e:64-t=(64-(t+1))+1:=by omega
    have O:=a
    rw[e,yw2 _ _ _ _ (qq b t).symm] at O
    exact O
   have y:=f.ne g zd
   have f:=f.ext a5 (fun e=>y e) (fun b' L h e=>h.ne g zd e)
   refine ja ?_
   exact jy (gz (()) rfl ⟨f,a,d⟩)
  rintro z bn ⟨f,a,d⟩
  refine yv rfl ?_
  rw[kg _ zo]
  refine gm ?_
  exact jn (t+1) rfl ⟨⟨by omega,f⟩,a,d⟩ zf
 have h0:t=64:=by omega
 subst h0
 have a:j0 w4 T 313 (jq (sched b 64)):=by simpa using a
 have K:(jq (sched b 64)).length=64:=by rw[u3,qq]
 generalize sched b 64=S at a K⊢
 refine Bi (qa (jh a rfl K (wl (j8 (l':=jq S) gc a rfl rfl K rfl OneC.h fun bo a ad b4=> ?_))))
 have d:=d.gh ad M
 refine qr (gq (qz [_] ⟨⟨T,0,rfl,u0 gc rfl rfl a.ko K⟩,trivial⟩ ?_))
 exact⟨rfl,d⟩
theorem into_calls (w:World) {sb:Nat} {h:List yr} (hs:j0 w sb 304 (jq h)) (hl:h.length=8) {b:List UInt8} (hb:b.length=64) (hg:Seg w 0 0 (jq ql)):
  gn prog 208 [.pointer (some ⟨sb,0,none⟩),.agg (ge b).toArray] w fun _ w'=>j0 w' sb 304 (jq (intoW ql h b))∧Ext (One sb) w w':=by
 have hs0:=hs
 have hlt:=hs.lt
 have hglt:0<w.heap.size:=Nat.zero_lt_of_lt hlt
 refine gx func208 ?_
 have hX:=Ext.refl (One sb) w
 refine qa (gw rfl fun b3 w1 hn3 hb3 hE1=> ?_)
 have hX:=hX.gb hE1
 have hb3:j0 w1 b3 164 (ge b):=hb3
 refine qr (qc rfl ?_)
 have hs:=hs.ga hE1
 have hg:=hg.ga hE1
 refine jr rfl hs.ko (by rw[u3,hl]) (gw rfl fun b4 w2 hn4 hb4 hE2=> ?_)
 have ne3_4:=j5 hb3.lt hn4
 have fr4:=Nat.le_trans hX.size hn4
 have hb3:=hb3.ga hE2
 have hs:=hs.ga hE2
 have hg:=hg.ga hE2
 have hX:=hX.gb hE2
 have hsb4:¬One b4 sb:=fun e=>by have e:sb=b4:=e;omega
 have h0b4:¬One b4 0:=fun e=>by have e:0=b4:=e;omega
 refine wl (j8 (l':=jq h) gc hb4 rfl rfl (by rw[u3,hl]) (by rw[u3,hl];rfl) OneC.h fun w3 hb4 hE3 hs3=> ?_)
 have hb3:=hb3.gj hE3 ne3_4
 have hs:=hs.ext hE3 hsb4
 have hg:=hg.ext hE3 h0b4
 have hX:=hX.gh hE3 fr4
 refine qr (gk (qa (jr rfl hb3.ko (by rw[gl,hb]) (gi call220 rfl (drawn_calls w3 hb) fun v4 w4 hr4=> ?_))))
 obtain⟨rfl,hE4⟩:=hr4
 have hb4:=hb4.ga hE4
 have hs:=hs.ga hE4
 have hg:=hg.ga hE4
 have hX:=hX.gb hE4
 have hWl:=qq b 64
 have hi:intoW ql h b=List.zipWith (·+·) h (z8 h ql (sched b 64) 64):=rfl
 rw[hi]
 generalize sched b 64=W at hWl⊢
 refine jz rfl (gr ?_)
 refine jm (α:=Nat) [0,4,19] rfl (fun z=>[(20,.int .i64 (z:Int))]) (fun z u=>(z≤64∧j0 u sb 304 (jq h)∧Seg u 0 0 (jq ql))∧j0 u b4 276 (jq (z8 h ql W z))∧Ext (One sb) w u) (fun z u=>64-z) (0) rfl ⟨⟨by decide,hs,hg⟩,hb4,hX⟩ ?_
 rintro t w5 ⟨⟨ht,hs,hg⟩,hb4,hX⟩
 refine je rfl (gk (jl rfl (fun hc=> ?_) (fun hc=> ?_)))
 ·have ht:t<64:=by omega
  obtain⟨a0,a1,a2,a3,a4,a5,a6,a7,h8⟩:=eight (l:=z8 h ql W t) (by rw[Cz,hl])
  rw[h8] at hb4
  have hW:=A3 W (i:=t) zo
  have hk:=A3 ql (i:=t) ht
  refine xz (gr (qc rfl (wl (st_id gc rfl t rfl ht (.inl ⟨rfl,by simpa using hW⟩) (jz rfl (gk ?_))))))
  refine js rfl 6 [qP 0,qP 1,qP 2,qP 3,qP 4,qP 5] [] (No) zk fun w6 hE6 hs6=> ?_
  have hd4:=hb4
  have hb4:=hb4.ga hE6
  have hs:=hs.ga hE6
  have hg:=hg.ga hE6
  have hX:=hX.gb hE6
  refine qk gc rfl rfl 1 rfl 0 rfl zd 0 rfl (j6 gc rfl rfl (fun w' hw'=>(hd4.ga hw').cell rfl) ?_)
  refine qk gc rfl rfl 1 rfl 4 rfl zd 4 rfl (j6 gc rfl rfl (fun w' hw'=>(hd4.ga hw').cell rfl) ?_)
  refine gv gc 2 rfl (jj (ja (j1 (gk ?_))))
  refine js rfl 24 [qP 0,qP 1,qP 2,qP 6,qP 7,qP 8,qP 9,qP 10,qP 11,qP 12,qP 13,qP 14,qP 15,qP 17,qP 18,qP 19,qP 21,(3,false),(4,false),qP 5,qP 16,qP 20,qP 22,qP 23] [] (No) zk fun w7 hE7 hs7=> ?_
  have hd4:=hb4
  have hgd:=hg
  have hb4:=hb4.ga hE7
  have hs:=hs.ga hE7
  have hg:=hg.ga hE7
  have hX:=hX.gb hE7
  have hC:Ext (No) _ w7:=hE7.no
  refine qk gc rfl rfl 1 rfl 7 rfl zd 7 rfl (j6 gc rfl rfl (fun w' hw'=>(hd4.ga hw').cell rfl) ?_)
  refine gv gc 1 rfl (qk gc rfl rfl 1 rfl 6 rfl zd 6 rfl (j6 gc rfl rfl (fun w' hw'=>(hd4.ga hw').cell rfl) ?_))
  refine gv gc 1 rfl (qk gc rfl rfl 1 rfl 5 rfl zd 5 rfl (j6 gc rfl rfl (fun w' hw'=>(hd4.ga hw').cell rfl) ?_))
  refine qk gc rfl rfl 1 rfl 6 rfl zd 6 rfl (j6 gc rfl rfl (fun w' hw'=>(hd4.ga hw').cell rfl) ?_)
  refine gv gc 4 rfl (qk gc rfl rfl 1 rfl t rfl ht (0+t) zo (j6 gc rfl rfl (fun w' hw'=>(hgd.ga hw') t _ hk) ?_))
  refine gv gc 1 rfl (jg rfl (qd gc rfl 1 rfl rfl rfl zd zd zt rfl fun b31 w8 hn31 hb31 hE8 hs8=>⟨hC.gb hE8,?_⟩))
  have hb4:=hb4.ga hE8
  have hs:=hs.ga hE8
  have hg:=hg.ga hE8
  have hX:=hX.gb hE8
  have hC:=hC.gb hE8
  refine jg rfl (j3 call221 rfl (yj w8 _ (p:=some ⟨b31,0,none⟩) (c:=3) (ns:=[6,11,25]) ⟨rfl,.inr ⟨b31,0,rfl,hb31.ko⟩⟩ zd zd) fun v9 w9 hr9=>⟨(by obtain⟨rfl,hE9⟩:=hr9;exact hC.gb hE9),?_⟩)
  obtain⟨rfl,hE9⟩:=hr9
  have hb4:=hb4.ga hE9
  have hs:=hs.ga hE9
  have hg:=hg.ga hE9
  have hX:=hX.gb hE9
  refine gv gc 4 rfl ?_
  rw[zj1,w_and,zj1,Al,Al,Al,Al]
  refine gv gc 1 rfl (jj (ja (j1 (gk ?_))))
  refine js rfl 17 [qP 0,qP 3,qP 4,qP 5,qP 6,qP 7,qP 8,qP 9,qP 10,qP 11,qP 12,qP 13,qP 14,(1,false),(2,false),qP 15,qP 16] [] (No) zk fun w10 hE10 hs10=> ?_
  have hd4:=hb4
  have hb4:=hb4.ga hE10
  have hs:=hs.ga hE10
  have hg:=hg.ga hE10
  have hX:=hX.gb hE10
  have hC:Ext (No) _ w10:=hE10.no
  refine gv gc 2 rfl (qk gc rfl rfl 1 rfl 1 rfl zd 1 rfl (j6 gc rfl rfl (fun w' hw'=>(hd4.ga hw').cell rfl) ?_))
  refine gv gc 1 rfl (qk gc rfl rfl 1 rfl 2 rfl zd 2 rfl (j6 gc rfl rfl (fun w' hw'=>(hd4.ga hw').cell rfl) ?_))
  refine gv gc 1 rfl (qk gc rfl rfl 1 rfl 1 rfl zd 1 rfl (j6 gc rfl rfl (fun w' hw'=>(hd4.ga hw').cell rfl) ?_))
  refine gv gc 3 rfl (jg rfl (qd gc rfl 1 rfl rfl rfl zd zd zt rfl fun b52 w11 hn52 hb52 hE11 hs11=>⟨hC.gb hE11,?_⟩))
  have hb4:=hb4.ga hE11
  have hs:=hs.ga hE11
  have hg:=hg.ga hE11
  have hX:=hX.gb hE11
  have hC:=hC.gb hE11
  refine jg rfl (j3 call221 rfl (yj w11 _ (p:=some ⟨b52,0,none⟩) (c:=3) (ns:=[2,13,22]) ⟨rfl,.inr ⟨b52,0,rfl,hb52.ko⟩⟩ zd zd) fun v12 w12 hr12=>⟨(by obtain⟨rfl,hE12⟩:=hr12;exact hC.gb hE12),?_⟩)
  obtain⟨rfl,hE12⟩:=hr12
  have hb4:=hb4.ga hE12
  have hs:=hs.ga hE12
  have hg:=hg.ga hE12
  have hX:=hX.gb hE12
  refine gv gc 1 rfl ?_
  rw[w_and,w_or,w_and,w_or,Al]
  refine gv gc 1 rfl (jj (ja (j1 (gk (js rfl 3 [qP 0,qP 1,(2,false)] [] (One b4) zk fun w13 hE13 hs13=> ?_)))))
  have hb4:=hb4.ga hE13
  have hs:=hs.ga hE13
  have hg:=hg.ga hE13
  have hX:=hX.gb hE13
  have hC:Ext (One b4) _ w13:=hE13.no
  refine xw9 gc rfl rfl 1 8 8 1 rfl ⟨.inr ⟨rfl,rfl⟩,.inr ⟨rfl,rfl⟩,.inl rfl,by decide,by decide,by decide⟩ (xw9 gc rfl rfl 0 7 8 1 rfl ⟨.inr ⟨rfl,rfl⟩,.inl rfl,.inr ⟨rfl,rfl⟩,by decide,by decide,by decide⟩ ?_)
  refine jg rfl (zj0 gc rfl 1 rfl hb4 (Src.slice (m:=7) (news:=jq [a0,a1,a2,a3,a4,a5,a6]) ⟨rfl,.inr ⟨b4,0,rfl,(hb4.ko.take 7)⟩⟩ OneC.h) (show 7≤7 from by decide) (show 8≤8 from by decide) fun w14 hc4 hE14 hs14=>⟨hC.then hE14,?_⟩)
  have hb4:j0 w14 b4 276 (jq [a0,a0,a1,a2,a3,a4,a5,a6]):=hc4
  have hs:=hs.ext hE14 hsb4
  have hg:=hg.ext hE14 h0b4
  have hX:=hX.gh hE14 fr4
  refine jj (ja (j1 (qc rfl ?_)))
  rw[Al]
  refine ki rfl 1 rfl 0 rfl zd 0 rfl (wl (u4 gc hb4 rfl rfl (show 0<8 from by decide) fun w15 hb4 hE15 hs15=> ?_))
  have hs:=hs.ext hE15 hsb4
  have hg:=hg.ext hE15 h0b4
  have hX:=hX.gh hE15 fr4
  refine qr (j4 (ki rfl 1 rfl 4 rfl zd 4 rfl (jb hb4 rfl rfl (j9 gc rfl ?_))))
  rw[Al]
  refine ki rfl 1 rfl 4 rfl zd 4 rfl (wl (u4 gc hb4 rfl rfl (show 4<8 from by decide) fun w16 hb4 hE16 hs16=> ?_))
  have hs:=hs.ext hE16 hsb4
  have hg:=hg.ext hE16 h0b4
  have hX:=hX.gh hE16 fr4
  have hb4:j0 w16 b4 276 (jq (z8 h ql W (t+1))):=by
   have e1:W.getD t 0=W[t]'zo:=by rw[List.getD_eq_getElem?_getD,List.getElem?_eq_getElem zo];rfl
   have e2:ql.getD t 0=ql[t]'ht:=by rw[List.getD_eq_getElem?_getD,List.getElem?_eq_getElem ht];rfl
   rw[z8,h8,e1,e2]
   exact hb4
  refine gm (Bo rfl ?_)
  rw[kg _ zo]
  refine gm ?_
  exact jn (t+1) rfl ⟨⟨by omega,hs,hg⟩,hb4,hX⟩ zf
 have h0:t=64:=by omega
 subst h0
 have hLl:(z8 h ql W 64).length=8:=by rw[Cz,hl]
 generalize z8 h ql W 64=L at hb4 hLl⊢
 refine Bi (qa (jh hb4 rfl (by rw[u3,hLl]) (jz rfl (gr ?_))))
 refine jm (α:=Nat) [0,80] rfl (fun z=>[(81,.int .i64 (z:Int))]) (fun z u=>(z≤8∧j0 u sb 304 (jq (List.zipWith (·+·) (h.take z) (L.take z)++h.drop z)))∧Ext (One sb) w u) (fun z u=>8-z) (0) rfl ⟨⟨by decide,by simpa using hs⟩,hX⟩ ?_
 rintro i w17 ⟨⟨hi8,hs⟩,hX⟩
 refine je rfl (gk (jl rfl (fun hc=> ?_) (fun hc=> ?_)))
 ·have hi8:i<8:=by omega
  have h1:i<h.length:=by omega
  have h2:i<L.length:=by omega
  have hLw:=A3 L h2
  refine xz (gr (qc rfl (wl (st_id gc rfl i rfl hi8 (.inl ⟨rfl,by simpa using hLw⟩) (jz rfl ?_)))))
  refine js rfl 13 [qP 0,qP 1,qP 2,qP 3,qP 4,qP 5,qP 6,qP 7,qP 8,qP 9,qP 10,qP 11,qP 12] [13] (No) zk fun w18 hE18 hs18=> ?_
  have hsd:=hs
  have hs:=hs.ga hE18
  have hX:=hX.gb hE18
  refine gv gc 5 rfl (qk gc rfl rfl 1 rfl i rfl hi8 (0+i*1) rfl (j6 gc rfl rfl (fun w' hw'=>(hsd.ga hw').cell (i:=0+i*1) (v:=vi h[i]) (zip_at h1 h2)) ?_))
  refine gv gc 2 rfl ?_
  rw[Al]
  refine gv gc 3 rfl (qk gc rfl rfl 1 rfl i rfl hi8 (0+i*1) rfl (jj ?_))
  refine wb rfl (u4 gc hs rfl rfl (by rw[u3,List.length_append,List.length_zipWith,List.length_take,List.length_take,List.length_drop];omega) fun w19 hs2 hE19 hs19=> ?_)
  rw[zip_set h1 h2] at hs2
  have hs:=hs2
  have hX:=hX.then hE19
  refine ja (Bo rfl ?_)
  rw[kg _ zo]
  refine gm ?_
  exact jn (i+1) rfl ⟨⟨by omega,hs⟩,hX⟩ zf
 have h0:i=8:=by omega
 subst h0
 have e1:h.take 8=h:=List.take_of_length_le zo
 have e2:L.take 8=L:=List.take_of_length_le zo
 have e3:h.drop 8=[]:=List.drop_eq_nil_of_le zo
 rw[e1,e2,e3,List.append_nil] at hs
 refine yo (qy (qy (vf (y9 rfl ?_))))
 exact⟨hs,hX⟩
theorem start_calls (w:World):
  gn prog 207 [] w fun v w'=>v= .agg (jq yp).toArray∧Ext No w w':=by
 refine gx func207 ?_
 have b:=Ext.refl No w
 refine qa (gw rfl fun g j c a d=> ?_)
 have e:=Nat.le_trans b.size c
 have b:=b.gb d
 refine qr (qa (qg rfl zb (l':=jq yp) rfl (wl (j8 (l':=jq yp) gc a rfl rfl rfl rfl OneC.h fun k a f i=> ?_))))
 have b:=b.gh f e
 refine qr (gq (qz [_] ⟨⟨g,0,rfl,u0 gc rfl rfl a.ko rfl⟩,trivial⟩ ?_))
 exact⟨rfl,b⟩
theorem pad_calls (w:World) {p:Option Addr} {c:Nat} {l:List UInt8} (h:vt w p l) (hl:l.length<100000000):
  gn prog 209 [.slice p l.length c] w fun v w'=>∃b,v= .slice (some ⟨b,0,none⟩) (Cb l).length (Cb l).length∧w.heap.size≤b∧j0 w' b 5 (ge (Cb l))∧Ext No w w':=by
 obtain⟨F,K⟩:∃F,F=(l.length+72)/64*64-8:=⟨_,rfl⟩
 have B:l.length+1≤F:=by omega
 obtain⟨k,C⟩:∃k,F=l.length+(k+1):=⟨F-(l.length+1),by omega⟩
 have D:IntKind.i64.wrap (IntKind.i64.wrap ((IntKind.i64.wrap ((l.length:Int)+72)).tdiv 64)*64)=((F+8:Nat):Int):=by
  rw[kg ((l.length:Int)+72) zo,IntWalk.i64_quo _ _ zo,kg _ zo]
  omega
 refine gx func209 ?_
 have f:=Ext.refl No w
 refine je rfl (qc rfl ?_)
 rw[D]
 refine qr (qc rfl ?_)
 rw[show IntKind.i64.wrap (((F+8:Nat):Int)-8)=(F:Int) from by rw[kg _ zo];omega]
 refine wl (zx0 gc rfl F F 1 rfl rfl rfl zd rfl rfl (Nat.le_refl _) zo zr fun d E j a n G=> ?_)
 have g:=Nat.le_trans f.size j
 have f:=f.gb n
 have a:j0 E d 5 (ge (List.replicate F 0)):=by(have e:C1 F (cellsOf ti5.zero)=ge (List.replicate F 0):=zj3 _);rw[←e];exact a
 refine jz rfl (qc rfl (wl (zj0 gc rfl 1 rfl a (Src.slice (h.ga f) OneC.h) zn (by rw[gl,List.length_replicate];dsimp only;omega) fun H o q I=> ?_)))
 have a:j0 H d 5 (ge (l++(List.replicate (k+1) 0++[]))):=by
  have e:Vc.put (ge (List.replicate F 0)) 0 (ge l)=ge (l++(List.replicate (k+1) 0++[])):=by
   rw[put_eq _ _ _ (by simp[gl];omega)]
   rw[ug]
   subst C
   simp[k8,gl]
  rw[←e];exact o
 have f:=f.gh q g
 refine qr (qc rfl (ki rfl 1 rfl l.length rfl zo (0+l.length*1) rfl (wl (u4 gc a rfl rfl (by rw[gl];simp) fun z a r J=> ?_))))
 have f:=f.gh r g
 have m:l++(128::(List.replicate k 0++[]))++be 8 (8*l.length)=Cb l:=by
  have s:k=(l.length+72)/64*64-8-(l.length+1):=by omega
  rw[Cb,s]
  simp
 have a:j0 z d 5 (ge (l++(128::(List.replicate k 0++[])))):=by
  rw[Nat.zero_add,Nat.mul_one,show(Value.int .u8 128)=A1 128 from rfl,ge,←List.map_set,List.set_append_right _ _ (Nat.le_refl _),Nat.sub_self,List.replicate_succ] at a
  exact a
 have i:(l++(128::(List.replicate k 0++[]))).length=F:=by simp;omega
 refine qr (qc rfl ?_)
 rw[show IntKind.u64.wrap (IntKind.u64.wrap (l.length:Int)*2^min (3:Int).toNat IntKind.u64.bits)=((8*l.length:Nat):Int) from by rw[show(2:Int)^min (3:Int).toNat IntKind.u64.bits=8 from rfl,IntWalk.u64_in (l.length:Int) zo,IntWalk.u64_in _ zo];omega]
 rw[show Value.slice (some ⟨d,0,none⟩) F F= .slice (some ⟨d,0,none⟩) (l++(128::(List.replicate k 0++[]))).length F from by rw[i]]
 have t:=f
 refine gi call222 rfl (put64_calls z (l:=l++(128::(List.replicate k 0++[]))) ⟨by simp[gl],.inr ⟨d,0,rfl,a.ko⟩⟩ zo (8*l.length) zo) fun L M u=> ?_
 obtain⟨b,rfl,x,A,y⟩:=u
 have f:=f.gb y
 rw[m] at A⊢
 refine jz rfl (gq (gu rfl rfl ?_))
 exact⟨b,rfl,Nat.le_trans t.size x,A,f⟩
theorem sum_calls (w:World) {p:Option Addr} {c:Nat} {l:List UInt8} (h:vt w p l) (hl:l.length<100000000) (hg:Seg w 0 0 (jq ql)):
  gn prog 181 [.slice p l.length c] w fun v w'=>v= .agg (ge (sumW l)).toArray∧Ext No w w':=by
 have af:0<w.heap.size:=hg.lt zd
 refine gx func181 ?_
 have f:=Ext.refl No w
 refine qa (gw rfl fun M w1 a3 a B=> ?_)
 have a4:=Nat.le_trans f.size a3
 have hg:=hg.ga B
 have f:=f.gb B
 refine qr (qa (gi call207 rfl (start_calls w1) fun v2 w2 a5=> ?_))
 obtain⟨rfl,C⟩:=a5
 have a:=a.ga C
 have hg:=hg.ga C
 have f:=f.gb C
 refine qg rfl zb (l':=jq yp) rfl (qg rfl zb (l':=jq yp) rfl (gw rfl fun N w3 Q d D=> ?_))
 have E:=j5 a.lt Q
 have R:=Nat.le_trans f.size Q
 have a:=a.ga D
 have hg:=hg.ga D
 have f:=f.gb D
 have y:¬One N 0:=fun e=>by have e:0=N:=e;have:=B.size;omega
 have F:¬One N M:=fun e=>by have e:M=N:=e;omega
 refine wl (j8 (l':=jq yp) gc d rfl rfl rfl rfl OneC.h fun w4 d s ah=> ?_)
 have a:=a.gj s E
 have hg:=hg.ext s y
 have f:=f.gh s R
 have s:=f
 refine qr (qa (wl (st_mf rfl (jz rfl (gk (qc rfl ?_))))))
 have a6:=f
 refine gi call209 rfl (pad_calls w4 (h.ga f) hl) fun v5 w5 a7=> ?_
 obtain⟨bp,rfl,S,G,t⟩:=a7
 have a:=a.ga t
 have hg:=hg.ga t
 have f:=f.gb t
 have d:=d.ga t
 have S:=Nat.le_trans a6.size S
 have a8:(Cb l).length%64=0:=by rw[yz0];omega
 have a9:(Cb l).length<200000000:=by rw[yz0];omega
 have T:sumW l=(zy ql yp (Cb l) ((Cb l).length/64)).flatMap fun x=>be 4 x.toNat:=rfl
 rw[T]
 generalize Cb l=P at G a8 a9⊢
 refine jz rfl (gr ?_)
 refine jm (α:=Nat×Option Addr×Nat) [2,3,4] rfl (fun z=>[(5,.slice z.2.1 (P.drop (64*z.1)).length z.2.2)]) (fun z u=>(64*z.1≤P.length∧vt u z.2.1 (P.drop (64*z.1))∧TyU u z.2.1∧(P.drop (64*z.1)).length≤z.2.2∧j0 u N 304 (jq (zy ql yp P z.1))∧Seg u 0 0 (jq ql))∧j0 u M 30 (cellsOf ti30.zero)∧Ext No w u) (fun z u=>(P.drop (64*z.1)).length) (0,some ⟨bp,0,none⟩,P.length) rfl ⟨⟨Nat.zero_le _,⟨by simp[gl],.inr ⟨bp,0,rfl,G.ko⟩⟩,TyU.of G _ _,Nat.le_refl _,d,hg⟩,a,f⟩ ?_
 rintro⟨k,q,U⟩ w6 ⟨⟨hk,V,o,I,d,hg⟩,a,f⟩
 try dsimp only
 dsimp only at hk V o I d
 refine gk (je rfl (jl rfl (fun hc=> ?_) (fun hc=> ?_)))
 ·have aa:(P.drop (64*k)).length=P.length-64*k:=List.length_drop
  have W:64≤(P.drop (64*k)).length:=by omega
  obtain⟨A,j,rfl,g⟩:∃A j,q=some ⟨A,j,none⟩∧Seg w6 A j (ge (P.drop (64*k))):=by
   rcases V.2 with X|h1
   ·omega
   exact h1
  have g:=g.take 64
  rw[ul] at g
  have Y:((P.drop (64*k)).take 64).length=64:=by rw[List.length_take];omega
  refine xz (gr (yv rfl (wl (A5 gc rfl 0 64 64 1 rfl (.inl ⟨rfl,rfl⟩) (.inl rfl) (.inr ⟨rfl,rfl⟩) (Nat.zero_le _) (Nat.le_refl _) zn ?_))))
  dsimp only
  rw[ka]
  refine wl (st_sp gc rfl (show 64≤64-0 from Nat.le_refl _) (jr rfl g (by rw[gl,Y]) (gi call208 rfl (into_calls w6 d (by rw[C7];rfl) Y hg) fun v7 w7 ab=> ?_)))
  obtain⟨Z,r⟩:=ab
  have a:=a.ext r F
  have f:=f.gh r R
  have hg:=hg.ext r y
  have V:vt _ _ _:=vt.kc V o r (fun b L hb e=>hb.ne d zd e)
  have o:=o.ext r (fun b L hb e=>hb.ne d zd e)
  have d:=Z
  refine gm (Bo rfl (wl (A5 gc rfl 64 (P.drop (64*k)).length U 1 rfl (.inr ⟨rfl,rfl⟩) (.inr ⟨rfl,rfl⟩) (.inl rfl) W I (Nat.le_refl _) ?_)))
  dsimp only
  have e2:(P.drop (64*k)).length-64=(P.drop (64*(k+1))).length:=by simp only[List.length_drop];omega
  have J:=Sl.slice V 64 (P.drop (64*k)).length U W I (Nat.le_refl _)
  rw[Nat.mul_one,Nat.mul_one,ug,ul,List.drop_drop,e2] at J
  rw[show 64*k+64=64*(k+1) from rfl,List.take_of_length_le (Nat.le_refl _)] at J
  rw[e2]
  refine j9 gc rfl (gm ?_)
  exact jn (k+1,u5 (some ⟨A,j,none⟩) 64 U 1,U-64) rfl ⟨⟨by dsimp only;omega,J,o.sub _ _ _,by dsimp only;omega,d,hg⟩,a,f⟩ (by dsimp only;simp only[List.length_drop];omega)
 have aa:(P.drop (64*k)).length=P.length-64*k:=List.length_drop
 have X:k=P.length/64:=by omega
 subst X
 have a0:(zy ql yp P (P.length/64)).length=8:=by rw[C7];rfl
 generalize zy ql yp P (P.length/64)=H at d a0⊢
 refine Bi (je rfl (gk (qc rfl (jr rfl d.ko (by rw[u3,a0]) (jz rfl ?_)))))
 refine gr ?_
 refine jm (α:=Nat×Option Addr×Nat×List UInt8) [2,28] rfl (fun z=>[(6,.slice z.2.1 z.2.2.2.length z.2.2.1),(29,.int .i64 (z.1:Int))]) (fun z u=>(z.1≤8∧vt u z.2.1 z.2.2.2∧z.2.2.2=(H.take z.1).flatMap (fun x=>be 4 x.toNat))∧j0 u M 30 (cellsOf ti30.zero)∧Ext No w u) (fun z u=>8-z.1) (0,none,0,[]) rfl ⟨⟨by decide,Sl.nil _ _ _,by simp⟩,a,f⟩ ?_
 rintro⟨i,q,U,O⟩ w8 ⟨⟨K,hO,m⟩,a,f⟩
 try dsimp only
 dsimp only at K hO m
 refine je rfl (gk (jl rfl (fun hc=> ?_) (fun hc=> ?_)))
 ·have K:i<8:=by omega
  have ac:=A3 H (i:=i) zo
  have n:O.length=4*i:=by rw[m,yw1,List.length_take];omega
  refine xz (gr (qa (wl (st_id gc rfl i rfl K (.inl ⟨rfl,by simpa using ac⟩) (jz rfl (yv rfl ?_))))))
  refine gi call179 rfl (yk w8 hO zo _ (BitVec.isLt _)) fun v9 w9 ad=> ?_
  obtain⟨bo,rfl,ai,ae,a1⟩:=ad
  have a:=a.ga a1
  have f:=f.gb a1
  refine j9 gc rfl (gm (Bo rfl ?_))
  rw[kg _ zo]
  refine gm ?_
  exact jn (i+1,some ⟨bo,0,none⟩,(O++be 4 (H[i]).toNat).length,O++be 4 (H[i]).toNat) rfl ⟨⟨by dsimp only;omega,⟨by simp[gl],.inr ⟨bo,0,rfl,ae.ko⟩⟩,by dsimp only;rw[List.take_succ_eq_append_getElem zo,List.flatMap_append,m];simp⟩,a,f⟩ zf
 have X:i=8:=by omega
 subst X
 have n:O.length=32:=by rw[m,yw1,List.length_take];omega
 have m:O=H.flatMap (fun x=>be 4 x.toNat):=by rw[m,List.take_of_length_le zo]
 obtain⟨A,j,rfl,g⟩:∃A j,q=some ⟨A,j,none⟩∧Seg w8 A j (ge O):=by
  rcases hO.2 with X|h1
  ·omega
  exact h1
 refine Bi (qc rfl (wl (st_sp gc rfl (Nat.le_of_eq n.symm) (jr rfl g (by rw[gl,n]) ?_))))
 refine wl (j8 (l':=ge O) gc a rfl rfl (by rw[gl,n]) (by rw[gl,n];rfl) OneC.h fun aj a a2 ag=> ?_)
 have f:=f.gh a2 a4
 refine qr (gq (qz [_] ⟨⟨M,0,rfl,u0 gc rfl rfl a.ko (by rw[gl,n];rfl)⟩,trivial⟩ ?_))
 exact⟨by rw[m];rfl,f⟩
theorem turned2_calls (w:World) (x:yr):
  gn prog 211 [vi x,.int .u64 2] w fun v w'=>v=vi (rot x 2)∧w'=w:=by
 refine gx func211 ?_
 have hX:=Ext.refl No w
 refine je rfl (je rfl (je rfl (gq (gu rfl rfl ?_))))
 exact⟨congrArg (Value.int .u32) (C0 x 2 zd),rfl⟩
theorem turned6_calls (w:World) (x:yr):
  gn prog 211 [vi x,.int .u64 6] w fun v w'=>v=vi (rot x 6)∧w'=w:=by
 refine gx func211 ?_
 have hX:=Ext.refl No w
 refine je rfl (je rfl (je rfl (gq (gu rfl rfl ?_))))
 exact⟨congrArg (Value.int .u32) (C0 x 6 zd),rfl⟩
theorem turned7_calls (w:World) (x:yr):
  gn prog 211 [vi x,.int .u64 7] w fun v w'=>v=vi (rot x 7)∧w'=w:=by
 refine gx func211 ?_
 have hX:=Ext.refl No w
 refine je rfl (je rfl (je rfl (gq (gu rfl rfl ?_))))
 exact⟨congrArg (Value.int .u32) (C0 x 7 zd),rfl⟩
theorem turned11_calls (w:World) (x:yr):
  gn prog 211 [vi x,.int .u64 11] w fun v w'=>v=vi (rot x 11)∧w'=w:=by
 refine gx func211 ?_
 have hX:=Ext.refl No w
 refine je rfl (je rfl (je rfl (gq (gu rfl rfl ?_))))
 exact⟨congrArg (Value.int .u32) (C0 x 11 zd),rfl⟩
theorem turned13_calls (w:World) (x:yr):
  gn prog 211 [vi x,.int .u64 13] w fun v w'=>v=vi (rot x 13)∧w'=w:=by
 refine gx func211 ?_
 have hX:=Ext.refl No w
 refine je rfl (je rfl (je rfl (gq (gu rfl rfl ?_))))
 exact⟨congrArg (Value.int .u32) (C0 x 13 zd),rfl⟩
theorem turned17_calls (w:World) (x:yr):
  gn prog 211 [vi x,.int .u64 17] w fun v w'=>v=vi (rot x 17)∧w'=w:=by
 refine gx func211 ?_
 have hX:=Ext.refl No w
 refine je rfl (je rfl (je rfl (gq (gu rfl rfl ?_))))
 exact⟨congrArg (Value.int .u32) (C0 x 17 zd),rfl⟩
theorem turned18_calls (w:World) (x:yr):
  gn prog 211 [vi x,.int .u64 18] w fun v w'=>v=vi (rot x 18)∧w'=w:=by
 refine gx func211 ?_
 have hX:=Ext.refl No w
 refine je rfl (je rfl (je rfl (gq (gu rfl rfl ?_))))
 exact⟨congrArg (Value.int .u32) (C0 x 18 zd),rfl⟩
theorem turned19_calls (w:World) (x:yr):
  gn prog 211 [vi x,.int .u64 19] w fun v w'=>v=vi (rot x 19)∧w'=w:=by
 refine gx func211 ?_
 have hX:=Ext.refl No w
 refine je rfl (je rfl (je rfl (gq (gu rfl rfl ?_))))
 exact⟨congrArg (Value.int .u32) (C0 x 19 zd),rfl⟩
theorem turned22_calls (w:World) (x:yr):
  gn prog 211 [vi x,.int .u64 22] w fun v w'=>v=vi (rot x 22)∧w'=w:=by
 refine gx func211 ?_
 have hX:=Ext.refl No w
 refine je rfl (je rfl (je rfl (gq (gu rfl rfl ?_))))
 exact⟨congrArg (Value.int .u32) (C0 x 22 zd),rfl⟩
theorem turned25_calls (w:World) (x:yr):
  gn prog 211 [vi x,.int .u64 25] w fun v w'=>v=vi (rot x 25)∧w'=w:=by
 refine gx func211 ?_
 have hX:=Ext.refl No w
 refine je rfl (je rfl (je rfl (gq (gu rfl rfl ?_))))
 exact⟨congrArg (Value.int .u32) (C0 x 25 zd),rfl⟩
theorem known_calls (w:World):
  gn prog 183 [] w fun v w'=>∃b,v= .slice (some ⟨b,0,none⟩) 64 64∧w.heap.size≤b∧j0 w' b 35 (jq ql)∧Ext No w w':=by
 refine gx func183 ?_
 have a:=Ext.refl No w
 refine je rfl (qa (wl (qd gc rfl 1 rfl rfl rfl zd zd zt rfl fun g i c d e h=> ?_)))
 have f:=Nat.le_trans a.size c
 have a:=a.gb e
 refine jz rfl (gq (gu rfl rfl ?_))
 exact⟨g,rfl,f,d,a⟩
theorem mix2 (x:yr) (a b:Nat):By x [a,b]=rot x a^^^rot x b:=by simp[By]
theorem div1024 (x:yr):IntKind.u32.wrap ((x.toNat:Int).tdiv 1024)=((x>>>10).toNat:Int):=div_eq x 10
theorem div8 (x:yr):IntKind.u32.wrap ((x.toNat:Int).tdiv 8)=((x>>>3).toNat:Int):=div_eq x 3
theorem mix3 (x:yr) (a b c:Nat):By x [a,b,c]=rot x a^^^rot x b^^^rot x c:=by simp[By]
theorem out_calls (w:World) {p:Option Addr} {c:Nat} {b:List UInt8} (h:vt w p b) (hb:b.length=64) (hc:64≤c):
  gn prog 210 [.slice p b.length c] w fun v w'=>∃q k,v= .slice q 64 k∧Own w' q 64 k 35 1 (jq (sched b 64))∧(∀x,jd q x→w.heap.size≤x)∧Ext No w w':=by
 refine gx func210 ?_
 have d:=Ext.refl No w
 refine je rfl (je rfl (gk (je rfl (gr ?_))))
 refine jm (α:=Nat×Option Addr×Nat) [0] rfl (fun z=>[(3,.slice z.2.1 z.1 z.2.2),(4,.int .i64 (z.1:Int))]) (fun z u=>(z.1≤64∧Own u z.2.1 z.1 z.2.2 35 1 (jq (sched b z.1))∧(∀x,jd z.2.1 x→w.heap.size≤x))∧Ext No w u) (fun z u=>64-z.1) (0,none,0) rfl ⟨⟨by decide,Own.nil _ _ _,fun x I=>by cases I⟩,d⟩ ?_
 rintro⟨t,q,k⟩ R ⟨⟨ht,i,f⟩,d⟩
 try dsimp only
 dsimp only at ht i f
 refine gk (je rfl (jl rfl (fun hc=> ?_) (fun hc=> ?_)))
 ·have ht:t<64:=by omega
  refine j7 (j1 (jv (α:=Option Addr×Nat) [0,4] rfl (fun z=>[(3,.slice z.1 (t+1) z.2)]) (fun z u=>(Own u z.1 (t+1) z.2 35 1 (jq (sched b (t+1)))∧(∀x,jd z.1 x→w.heap.size≤x))∧Ext No w u) ?_ ?_))
  ·refine gr ?_
   refine gk (je rfl (jl rfl (fun hc=> ?_) (fun hc=> ?_)))
   ·have o:t<16:=by omega
    have g:=nextW_raw (b:=b) (l:=sched b t) (by rw[qq];exact o)
    rw[qq] at g
    have E:((b.drop (4*t)).take 4).length=4:=by rw[List.length_take,List.length_drop];omega
    have S:vt R (u5 p (4*t) c 1) ((b.drop (4*t)).take 4):=by
     have e:=Sl.slice (h.ga d) (4*t) (4*t+4) c zo zo zo
     rw[Nat.mul_one,Nat.mul_one,ug,ul,show 4*t+4-4*t=4 from by omega] at e
     rw[vt,E]
     exact e
    refine qc rfl ?_
    rw[kg (4*(t:Int)) zo,kg _ zo]
    refine wl (A5 gc rfl (4*t) (4*t+4) c 1 rfl (.inr ⟨rfl,rfl⟩) (.inl (congrArg some zo)) (.inl (congrArg some zo)) zo zo (Nat.le_refl _) ?_)
    dsimp only
    rw[show 4*t+4-4*t=((b.drop (4*t)).take 4).length from by rw[E];omega]
    refine gi call113 rfl (number_calls R S (by rw[E];decide)) fun v2 w2 T=> ?_
    obtain⟨rfl,rfl⟩:=T
    refine j9 gc rfl ?_
    rw[w_wrap,←g]
    refine wl (qd gc rfl 1 rfl rfl rfl zd zd zt rfl fun J w3 a7 r K ab=> ?_)
    have i:=i.ext K fun _ _=>id
    have d:=d.gb K
    have r:j0 w3 J 35 (jq [nextW b (sched b t)]):=r
    have s:=d
    refine wl (uh gc rfl 1 4 rfl rfl rfl zd i (Src.slice (m:=1) ⟨rfl,.inr ⟨J,0,rfl,r.ko⟩⟩ OneC.h) zm zn fun U c4 w4 V W X=> ?_)
    have d:=s.trans W fun y hy Y=>by have:=f y Y;omega
    have A:∀x,jd U x→w.heap.size≤x:=fun x I=>(X x I).elim (fun h=>f x h) fun h=>Nat.le_trans s.size h
    have F:Own w4 U (t+1) c4 35 1 (jq (sched b (t+1))):=by
     rw[sched,xq1]
     exact V
    refine jz rfl (yo ?_)
    exact qy (vf (gz (U,c4) rfl ⟨⟨F,A⟩,d⟩))
   have o:¬t<16:=by omega
   have g:=nextW_mix (b:=b) (l:=sched b t) (by rw[qq];exact o)
   rw[qq] at g
   obtain⟨L,rfl,n⟩:∃L,q=some ⟨L,0,none⟩∧Seg R L 0 (jq (sched b t)):=by
    rcases i with⟨_,h0,_⟩|⟨L,l,h1,h2,_,_,_,h3⟩
    ·omega
    refine⟨L,h1,?_⟩
    rw[←h3]
    exact h2.ko.take _
   have Z:(By ((sched b t).getD (t-2) 0) [17,19]^^^(sched b t).getD (t-2) 0>>>10)+(sched b t).getD (t-7) 0+(By ((sched b t).getD (t-15) 0) [7,18]^^^(sched b t).getD (t-15) 0>>>3)+(sched b t).getD (t-16) 0=nextW b (sched b t):=by
    rw[g]
    ac_rfl
   refine xz (js rfl 12 [qP 0,qP 1,qP 2,qP 3,qP 4,qP 5,qP 6,qP 7,qP 8,qP 9,qP 10,qP 11] [] (No) zk fun w5 G ac=> ?_)
   have a:=n
   have i:=i.ext G fun _ _=>id
   have n:=n.ga G
   have d:=d.gb G
   refine gv gc 3 rfl ?_
   rw[kg _ zo]
   refine qk gc rfl rfl 1 rfl (t-2) zo zo (0+(t-2)) zo (j6 gc rfl rfl (fun w' j=>(a.ga j) (t-2) _ (B8 _ (by rw[qq];omega))) ?_)
   refine gv gc 3 rfl ?_
   rw[kg _ zo]
   refine qk gc rfl rfl 1 rfl (t-15) zo zo (0+(t-15)) zo (j6 gc rfl rfl (fun w' j=>(a.ga j) (t-15) _ (B8 _ (by rw[qq];omega))) ?_)
   refine gv gc 2 rfl (jj (ja (j1 (qc rfl (gi call211 rfl (turned17_calls w5 _) fun v6 w6 a0=> ?_)))))
   obtain⟨rfl,rfl⟩:=a0
   refine j9 gc rfl (gi call211 rfl (turned19_calls w6 _) fun v7 w7 a1=> ?_)
   obtain⟨rfl,rfl⟩:=a1
   refine j9 gc rfl ?_
   rw[zj1,div1024,zj1,←mix2]
   refine qr (qc rfl (gi call211 rfl (turned7_calls w7 _) fun v8 w8 a2=> ?_))
   obtain⟨rfl,rfl⟩:=a2
   refine j9 gc rfl (gi call211 rfl (turned18_calls w8 _) fun v9 w9 a3=> ?_)
   obtain⟨rfl,rfl⟩:=a3
   refine j9 gc rfl ?_
   rw[zj1,div8,zj1,←mix2]
   refine qr ?_
   refine js rfl 17 [qP 0,qP 1,qP 2,qP 3,qP 4,qP 5,qP 6,qP 7,qP 8,qP 9,qP 10,qP 11,qP 12,qP 13,qP 14,qP 15,(16,false)] [17,18] (No) zk fun a4 B a8=> ?_
   have a:=n
   have i:=i.ext B fun _ _=>id
   have d:=d.gb B
   have hC:Ext (No) _ a4:=B.no
   refine gv gc 5 rfl ?_
   rw[kg _ zo]
   refine qk gc rfl rfl 1 rfl (t-7) zo zo (0+(t-7)) zo (j6 gc rfl rfl (fun w' j=>(a.ga j) (t-7) _ (B8 _ (by rw[qq];omega))) ?_)
   refine gv gc 6 rfl ?_
   rw[kg _ zo]
   refine qk gc rfl rfl 1 rfl (t-16) zo zo (0+(t-16)) zo (j6 gc rfl rfl (fun w' j=>(a.ga j) (t-16) _ (B8 _ (by rw[qq];omega))) ?_)
   refine gv gc 1 rfl ?_
   rw[Al,Al,Al,Z]
   refine jg rfl (qd gc rfl 1 rfl rfl rfl zd zd zt rfl fun M a5 a9 C D aa=>⟨hC.gb D,?_⟩)
   have i:=i.ext D fun _ _=>id
   have d:=d.gb D
   have C:j0 a5 M 35 (jq [nextW b (sched b t)]):=C
   refine jj ?_
   have s:=d
   refine wb rfl (uh gc rfl 1 4 rfl rfl rfl zd i (Src.slice (m:=1) ⟨rfl,.inr ⟨M,0,rfl,C.ko⟩⟩ OneC.h) zm zn fun H N a6 O P Q=> ?_)
   have d:=s.trans P fun y hy Y=>by have:=f y Y;omega
   have A:∀x,jd H x→w.heap.size≤x:=fun x I=>(Q x I).elim (fun h=>f x h) fun h=>Nat.le_trans s.size h
   have F:Own a6 H (t+1) N 35 1 (jq (sched b (t+1))):=by
    rw[sched,xq1]
    exact O
   refine wb rfl (Dg gc rfl rfl rfl (ja ?_))
   exact jy (gz (H,N) rfl ⟨⟨F,A⟩,d⟩)
  rintro⟨q,k⟩ ad ⟨⟨i,f⟩,d⟩
  dsimp only at i f
  refine yv rfl ?_
  rw[kg _ zo]
  refine gm ?_
  exact jn (t+1,q,k) rfl ⟨⟨by dsimp only;omega,i,f⟩,d⟩ zf
 have h0:t=64:=by omega
 subst h0
 refine Bi (je rfl (gq (gu rfl rfl ?_)))
 exact⟨q,k,rfl,i,f,d⟩
theorem ch_eq (e f g:yr):(e&&&f||| ~~~e&&&g)=g^^^(e&&&(f^^^g)):=by
 apply BitVec.eq_of_getLsbD_eq
 intro i a
 simp only[BitVec.getLsbD_or,BitVec.getLsbD_and,BitVec.getLsbD_xor,BitVec.getLsbD_not,a,decide_true,Bool.true_and]
 cases e.getLsbD i<;>cases f.getLsbD i<;>cases g.getLsbD i<;>rfl
theorem maj_eq (a b c:yr):(a&&&b|||a&&&c|||b&&&c)=(a&&&b|||c&&&(a|||b)):=by
 apply BitVec.eq_of_getLsbD_eq
 intro i hi
 simp only[BitVec.getLsbD_or,BitVec.getLsbD_and]
 cases a.getLsbD i<;>cases b.getLsbD i<;>cases c.getLsbD i<;>rfl
theorem refInto_calls (w:World) {h:List yr} (hl:h.length=8) {p:Option Addr} {c:Nat} {b:List UInt8} (hsb:vt w p b) (hb:b.length=64) (hc:64≤c) {kb:Nat} {d:Nat} (hk:Seg w kb 0 (jq ql)):
  gn prog 184 [.agg (jq h).toArray,.slice p b.length c,.slice (some ⟨kb,0,none⟩) 64 d] w fun v w'=>v= .agg (jq (intoW ql h b)).toArray∧Ext No w w':=by
 have b2:=hk.lt zd
 refine gx func184 ?_
 have m:=Ext.refl No w
 refine qa (gw rfl fun b3 w1 ag f a8=> ?_)
 have ah:=Nat.le_trans m.size ag
 have hk:=hk.ga a8
 have m:=m.gb a8
 have f:j0 w1 b3 276 (jq h):=f
 refine gw rfl fun b6 w2 a9 g S=> ?_
 have T:=j5 f.lt a9
 have ai:=Nat.le_trans m.size a9
 have f:=f.ga S
 have hk:=hk.ga S
 have m:=m.gb S
 refine qr (qc rfl ?_)
 refine gi call210 rfl (out_calls w2 (hsb.ga m) hb hc) fun v3 w3 aj=> ?_
 obtain⟨q,kq,rfl,hq,ak,H⟩:=aj
 have f:=f.ga H
 have g:=g.ga H
 have hk:=hk.ga H
 have m:=m.gb H
 obtain⟨I,rfl,j⟩:∃I,q=some ⟨I,0,none⟩∧Seg w3 I 0 (jq (sched b 64)):=by
  rcases hq with⟨_,h0,_⟩|⟨I,l,h1,h2,_,_,_,h3⟩
  ·omega
  refine⟨I,h1,?_⟩
  rw[←h3]
  exact h2.ko.take _
 have av:=ak I rfl
 have aa:=qq b 64
 have aw:=j.lt (by intro e;have e:=congrArg List.length e;rw[u3,aa] at e;cases e)
 have hi:intoW ql h b=List.zipWith (·+·) h (z8 h ql (sched b 64) 64):=rfl
 rw[hi]
 generalize sched b 64=W at aa j⊢
 refine jz rfl (qa (jh f rfl (by rw[u3,hl]) (gw rfl fun U w4 V a B=> ?_)))
 have s:=j5 f.lt V
 have C:=j5 g.lt V
 have ab:=Nat.le_trans m.size V
 have f:=f.ga B
 have g:=g.ga B
 have hk:=hk.ga B
 have j:=j.ga B
 have m:=m.gb B
 have K:¬One U kb:=fun e=>by have e:kb=U:=e;omega
 have M:¬One U I:=fun e=>by have e:I=U:=e;omega
 refine wl (j8 (l':=jq h) gc a rfl rfl (by rw[u3,hl]) (by rw[u3,hl];rfl) OneC.h fun w5 a D b4=> ?_)
 have f:=f.gj D s
 have g:=g.gj D C
 have hk:=hk.ext D K
 have j:=j.ext D M
 have m:=m.gh D ab
 refine qr (gk (je rfl (gr ?_)))
 refine jm (α:=Nat) [2,3,6,7,8] rfl (fun z=>[(9,.int .i64 (z:Int))]) (fun z u=>(z≤64∧Seg u I 0 (jq W)∧Seg u kb 0 (jq ql))∧j0 u b3 276 (jq h)∧j0 u b6 276 (cellsOf ti276.zero)∧j0 u U 276 (jq (z8 h ql W z))∧Ext No w u) (fun z u=>64-z) (0) rfl ⟨⟨by decide,j,hk⟩,f,g,a,m⟩ ?_
 rintro t w6 ⟨⟨ht,j,hk⟩,f,g,a,m⟩
 refine gk (je rfl (jl rfl (fun hc=> ?_) (fun hc=> ?_)))
 ·have ht:t<64:=by omega
  obtain⟨N,Y,a2,a3,F,Z,G,a7,h8⟩:=eight (l:=z8 h ql W t) (by rw[Cz,hl])
  rw[h8] at a
  have hW:=B8 W (i:=t) zo
  have al:=B8 ql (i:=t) ht
  refine xz (gr (qa (ki rfl 1 rfl 4 rfl zd 4 rfl (jb a rfl rfl (jz rfl (gk ?_))))))
  refine js rfl 33 [qP 0,qP 1,qP 2,qP 4,qP 7,qP 11,qP 12,qP 13,qP 14,qP 15,qP 16,qP 17,qP 18,qP 19,qP 20,qP 22,qP 23,qP 24,qP 25,qP 27,qP 28,qP 29,qP 30,(3,false),(5,false),qP 6,(8,false),qP 9,qP 10,qP 21,qP 26,qP 31,qP 32] [] (No) zk fun w7 x b5=> ?_
  have o:=a
  have am:=hk
  have X:=j
  have f:=f.ga x
  have g:=g.ga x
  have a:=a.ga x
  have hk:=hk.ga x
  have j:=j.ga x
  have m:=m.gb x
  have y:Ext (No) _ w7:=x.no
  refine qk gc rfl rfl 1 rfl 7 rfl zd 7 rfl (j6 gc rfl rfl (fun w' k=>(o.ga k).cell rfl) ?_)
  refine gv gc 4 rfl (qk gc rfl rfl 1 rfl 5 rfl zd 5 rfl (j6 gc rfl rfl (fun w' k=>(o.ga k).cell rfl) ?_))
  refine gv gc 3 rfl (qk gc rfl rfl 1 rfl 6 rfl zd 6 rfl (j6 gc rfl rfl (fun w' k=>(o.ga k).cell rfl) ?_))
  refine gv gc 4 rfl (qk gc rfl rfl 1 rfl t rfl ht (0+t) zo (j6 gc rfl rfl (fun w' k=>(am.ga k) t _ al) ?_))
  refine gv gc 2 rfl (qk gc rfl rfl 1 rfl t rfl ht (0+t) zo (j6 gc rfl rfl (fun w' k=>(X.ga k) t _ hW) ?_))
  refine jg rfl (j3 call211 rfl (turned6_calls w7 _) fun v8 w8 ac=>⟨(by obtain⟨rfl,rfl⟩:=ac;exact y),?_⟩)
  obtain⟨rfl,rfl⟩:=ac
  have y:=y
  refine jg rfl (j3 call211 rfl (turned11_calls w8 _) fun v9 w9 ad=>⟨(by obtain⟨rfl,rfl⟩:=ad;exact y),?_⟩)
  obtain⟨rfl,rfl⟩:=ad
  have y:=y
  refine gv gc 1 rfl (jg rfl (j3 call211 rfl (turned25_calls w9 _) fun b7 b9 O=>⟨(by obtain⟨rfl,rfl⟩:=O;exact y),?_⟩))
  obtain⟨rfl,rfl⟩:=O
  refine gv gc 5 rfl ?_
  rw[zj1,zj1,w_not,w_and,w_and,w_or,Al,Al,Al,Al,←mix3,ch_eq]
  refine gv gc 1 rfl (jj (ja (j1 (qa (ki rfl 1 rfl 0 rfl zd 0 rfl (jb a rfl rfl (jz rfl (gk ?_))))))))
  refine js rfl 25 [qP 0,qP 2,qP 5,qP 8,qP 9,qP 10,qP 11,qP 12,qP 13,qP 14,qP 15,qP 16,qP 17,qP 18,qP 19,qP 20,qP 21,qP 22,(1,false),(3,false),qP 4,(6,false),qP 7,qP 23,qP 24] [] (No) zk fun ae n ax=> ?_
  have o:=a
  have f:=f.ga n
  have g:=g.ga n
  have a:=a.ga n
  have hk:=hk.ga n
  have j:=j.ga n
  have m:=m.gb n
  have y:Ext (No) _ ae:=n.no
  refine gv gc 4 rfl (qk gc rfl rfl 1 rfl 1 rfl zd 1 rfl (j6 gc rfl rfl (fun w' k=>(o.ga k).cell rfl) ?_))
  refine gv gc 2 rfl (qk gc rfl rfl 1 rfl 2 rfl zd 2 rfl (j6 gc rfl rfl (fun w' k=>(o.ga k).cell rfl) ?_))
  refine gv gc 2 rfl (qk gc rfl rfl 1 rfl 1 rfl zd 1 rfl (j6 gc rfl rfl (fun w' k=>(o.ga k).cell rfl) ?_))
  refine qk gc rfl rfl 1 rfl 2 rfl zd 2 rfl (j6 gc rfl rfl (fun w' k=>(o.ga k).cell rfl) ?_)
  refine gv gc 2 rfl (jg rfl (j3 call211 rfl (turned2_calls ae _) fun ba an P=>⟨(by obtain⟨rfl,rfl⟩:=P;exact y),?_⟩))
  obtain⟨rfl,rfl⟩:=P
  have y:=y
  refine jg rfl (j3 call211 rfl (turned13_calls an _) fun bb ao Q=>⟨(by obtain⟨rfl,rfl⟩:=Q;exact y),?_⟩)
  obtain⟨rfl,rfl⟩:=Q
  have y:=y
  refine gv gc 1 rfl (jg rfl (j3 call211 rfl (turned22_calls ao _) fun bc bd R=>⟨(by obtain⟨rfl,rfl⟩:=R;exact y),?_⟩))
  obtain⟨rfl,rfl⟩:=R
  refine gv gc 2 rfl ?_
  rw[zj1,zj1,w_and,w_and,w_and,w_or,w_or,Al,←mix3,maj_eq]
  refine gv gc 1 rfl (jj (ja (j1 (yv rfl ?_))))
  rw[Al]
  refine ki rfl 1 rfl 0 rfl zd 0 rfl (jb a rfl rfl (ki rfl 1 rfl 1 rfl zd 1 rfl (jb a rfl rfl (ki rfl 1 rfl 2 rfl zd 2 rfl ?_))))
  refine jb a rfl rfl (ki rfl 1 rfl 3 rfl zd 3 rfl (jb a rfl rfl (j9 gc rfl ?_)))
  rw[Al]
  refine ki rfl 1 rfl 4 rfl zd 4 rfl (jb a rfl rfl (ki rfl 1 rfl 5 rfl zd 5 rfl (jb a rfl rfl (ki rfl 1 rfl 6 rfl zd 6 rfl ?_))))
  refine jb a rfl rfl ?_
  refine qg rfl zb (l':=jq [(a7+By F [6,11,25]+(G^^^(F&&&(Z^^^G)))+ql.getD t 0+W.getD t 0)+(By N [2,13,22]+((N&&&Y)|||(a2&&&(N|||Y)))),N,Y,a2,a3+(a7+By F [6,11,25]+(G^^^(F&&&(Z^^^G)))+ql.getD t 0+W.getD t 0),F,Z,G]) rfl ?_
  refine wl (j8 (l':=jq [(a7+By F [6,11,25]+(G^^^(F&&&(Z^^^G)))+ql.getD t 0+W.getD t 0)+(By N [2,13,22]+((N&&&Y)|||(a2&&&(N|||Y)))),N,Y,a2,a3+(a7+By F [6,11,25]+(G^^^(F&&&(Z^^^G)))+ql.getD t 0+W.getD t 0),F,Z,G]) gc a rfl rfl rfl rfl OneC.h fun ap a r ay=> ?_)
  have f:=f.gj r s
  have g:=g.gj r C
  have hk:=hk.ext r K
  have j:=j.ext r M
  have m:=m.gh r ab
  have a:j0 ap U 276 (jq (z8 h ql W (t+1))):=by
   rw[z8,h8]
   exact a
  refine gm (Bo rfl ?_)
  rw[kg _ zo]
  refine gm ?_
  exact jn (t+1) rfl ⟨⟨by omega,j,hk⟩,f,g,a,m⟩ zf
 have h0:t=64:=by omega
 subst h0
 have aq:(z8 h ql W 64).length=8:=by rw[Cz,hl]
 generalize z8 h ql W 64=L at a aq⊢
 refine Bi (gk (je rfl (gr ?_)))
 refine jm (α:=Nat) [3,6,8] rfl (fun z=>[(14,.int .i64 (z:Int))]) (fun z u=>(z≤8)∧j0 u b3 276 (jq (List.zipWith (·+·) (h.take z) (L.take z)++h.drop z))∧j0 u b6 276 (cellsOf ti276.zero)∧j0 u U 276 (jq L)∧Ext No w u) (fun z u=>8-z) (0) rfl ⟨by decide,f,g,a,m⟩ ?_
 rintro i bf ⟨J,f,g,a,m⟩
 refine gk (je rfl (jl rfl (fun hc=> ?_) (fun hc=> ?_)))
 ·have J:i<8:=by omega
  have h1:i<h.length:=by omega
  have h2:i<L.length:=by omega
  have ar:=A3 L h2
  refine xz (gr (js rfl 9 [qP 0,qP 1,qP 2,qP 3,qP 4,qP 5,qP 6,qP 7,qP 8] [9] (No) zk fun bg A az=> ?_))
  have au:=f
  have o:=a
  have f:=f.ga A
  have g:=g.ga A
  have a:=a.ga A
  have m:=m.gb A
  refine gv gc 2 rfl (qk gc rfl rfl 1 rfl i rfl J (0+i*1) rfl (j6 gc rfl rfl (fun w' k=>(au.ga k).cell (i:=0+i*1) (v:=vi h[i]) (zip_at h1 h2)) ?_))
  refine gv gc 1 rfl (qk gc rfl rfl 1 rfl i rfl J (0+i) zo (j6 gc rfl rfl (fun w' k=>(o.ga k).cell (i:=0+i) (v:=vi L[i]) (by rw[Nat.zero_add];exact ar)) ?_))
  refine gv gc 1 rfl ?_
  rw[Al]
  refine qk gc rfl rfl 1 rfl i rfl J (0+i*1) rfl (jj ?_)
  refine wb rfl (u4 gc f rfl rfl (by rw[u3,List.length_append,List.length_zipWith,List.length_take,List.length_take,List.length_drop];omega) fun bh f E b0=> ?_)
  have g:=g.gj E T.symm
  have a:=a.gj E s.symm
  have m:=m.gh E ah
  rw[zip_set h1 h2] at f
  refine ja (Bo rfl ?_)
  rw[kg _ zo]
  refine gm ?_
  exact jn (i+1) rfl ⟨by omega,f,g,a,m⟩ zf
 have h0:i=8:=by omega
 subst h0
 have e1:h.take 8=h:=List.take_of_length_le zo
 have e2:L.take 8=L:=List.take_of_length_le zo
 have e3:h.drop 8=[]:=List.drop_eq_nil_of_le zo
 rw[e1,e2,e3,List.append_nil] at f
 have hZ:(jq (List.zipWith (·+·) h L)).length=8:=by rw[u3,List.length_zipWith];omega
 refine Bi (qa (jh f rfl hZ (wl (j8 (l':=jq (List.zipWith (·+·) h L)) gc g rfl rfl hZ (by rw[hZ];rfl) OneC.h fun bi g af b1=> ?_))))
 have m:=m.gh af ai
 refine qr (gq (qz [_] ⟨⟨b6,0,rfl,u0 gc rfl rfl g.ko (by rw[hZ];rfl)⟩,trivial⟩ ?_))
 exact⟨rfl,m⟩
def yw6 (l:List UInt8) (j:Nat):List UInt8:=l++(128::List.replicate j 0)
theorem padJ_len (l:List UInt8) (j:Nat):(yw6 l j).length=l.length+1+j:=by simp[yw6];omega
theorem padJ_succ (l:List UInt8) (j:Nat):yw6 l (j+1)=yw6 l j++[0]:=by rw[yw6,List.replicate_succ',yw6];simp
theorem refPad_calls (w:World) {p:Option Addr} {c:Nat} {l:List UInt8} (h:vt w p l) (hl:l.length<100000000):
  gn prog 182 [.slice p l.length c] w fun v w'=>∃q k,v= .slice q (Cb l).length k∧Own w' q (Cb l).length k 5 1 (ge (Cb l))∧(∀b,jd q b→w.heap.size≤b)∧Ext No w w':=by
 obtain⟨K,hK⟩:∃K,K=(l.length+72)/64*64-8-(l.length+1):=⟨_,rfl⟩
 have n:yw6 l K++be 8 (8*l.length)=Cb l:=by rw[Cb,←hK,yw6];simp
 refine gx func182 ?_
 have a:=Ext.refl No w
 refine je rfl (qc rfl (wl (qd gc rfl 1 rfl rfl rfl zd zd zt rfl fun S T a0 g D a1=> ?_)))
 have a:=a.gb D
 have g:j0 T S 5 (ge [128]):=g
 have i:=a
 refine gi call97 rfl (both_calls T (m:=[128]) (h.ga a) ⟨rfl,.inr ⟨S,0,rfl,g.ko⟩⟩ zo zd) fun v2 w2 E=> ?_
 obtain⟨q,k,rfl,f,d,F⟩:=E
 have a:=a.gb F
 have d:∀x,jd q x→w.heap.size≤x:=fun x G=>Nat.le_trans i.size (d x G)
 refine jz rfl (gk (gr ?_))
 refine jm (α:=Nat×Option Addr×Nat) [0] rfl (fun z=>[(3,.slice z.2.1 (yw6 l z.1).length z.2.2)]) (fun z u=>(z.1≤K∧Own u z.2.1 (yw6 l z.1).length z.2.2 5 1 (ge (yw6 l z.1))∧(∀x,jd z.2.1 x→w.heap.size≤x))∧Ext No w u) (fun z u=>K-z.1) (0,q,k) rfl ⟨⟨Nat.zero_le _,f,d⟩,a⟩ ?_
 rintro⟨j,q,k⟩ w3 ⟨⟨hj,f,d⟩,a⟩
 try dsimp only
 dsimp only at hj f d
 have a2:=padJ_len l j
 have e8:(IntKind.i64.wrap (((yw6 l j).length:Int)+8)).tmod 64=(((l.length+9+j)%64:Nat):Int):=by
  rw[kg _ zo,Int.tmod_eq_emod_of_nonneg zo]
  omega
 refine gk (qc rfl ?_)
 rw[e8]
 refine jz rfl (jl rfl (fun hc=> ?_) (fun hc=> ?_))
 ·have a3:j<K:=by omega
  refine j7 (j1 (gr (yv rfl (wl (qd gc rfl 1 rfl rfl rfl zd zd zt rfl fun o w4 U e s a4=> ?_)))))
  have f:=f.ext s fun _ _=>id
  have a:=a.gb s
  have e:j0 w4 o 5 (ge [0]):=e
  have t:=a
  refine wl (uh gc rfl 1 1 rfl rfl rfl zd f (Src.slice (m:=1) ⟨rfl,.inr ⟨o,0,rfl,e.ko⟩⟩ OneC.h) zm zn fun H V w5 I J L=> ?_)
  have a:=t.trans J fun y hy hF=>by have:=d y hF;omega
  have A:∀x,jd H x→w.heap.size≤x:=fun x G=>(L x G).elim (fun h=>d x h) fun h=>Nat.le_trans t.size h
  have e9:=padJ_succ l j
  have B:(yw6 l j).length+1=(yw6 l (j+1)).length:=by rw[padJ_len,padJ_len];omega
  have M:Own w5 H (yw6 l (j+1)).length V 5 1 (ge (yw6 l (j+1))):=by
   rw[←B,e9,k8]
   exact I
  dsimp only
  rw[B]
  refine j9 gc rfl (gm ?_)
  exact jy (jn (j+1,H,V) rfl ⟨⟨by dsimp only;omega,M,A⟩,a⟩ zf)
 have h0:j=K:=by omega
 subst h0
 refine Bi (qc rfl ?_)
 rw[show IntKind.u64.wrap (IntKind.u64.wrap (l.length:Int)*8)=((8*l.length:Nat):Int) from by rw[IntWalk.u64_in (l.length:Int) zo,IntWalk.u64_in _ zo];omega]
 refine gi call96 rfl (Cs 8 zd w3 (8*l.length) zo) fun v6 w6 N=> ?_
 obtain⟨W,X,rfl,O,Y,C⟩:=N
 have f:=f.ext C fun _ _=>id
 have a:=a.gb C
 rw[show Value.slice W 8 X= .slice W (be 8 (8*l.length)).length X from by rw[jp]]
 have i:=a
 refine gi call97 rfl (both_calls w6 f.sl (by rw[vt,jp];exact O.sl) zo (by rw[jp];decide)) fun v7 w7 P=> ?_
 obtain⟨r,kr,rfl,Z,Q,R⟩:=P
 have a:=a.gb R
 rw[n] at Z⊢
 refine jz rfl (gq (gu rfl rfl ?_))
 exact⟨r,kr,rfl,Z,fun b hb=>Nat.le_trans i.size (Q b hb),a⟩
theorem flat4_get (H:List yr) {j:Nat} (hj:j<4*H.length):(H.flatMap fun x=>be 4 x.toNat)[j]? =(be 4 (H.getD (j/4) 0).toNat)[j%4]? :=by
 induction H generalizing j with
 |nil=>simp at hj
 |cons x r ih=>
  rw[List.flatMap_cons]
  by_cases h4:j<4
  ·rw[List.getElem?_append_left (by rw[jp];exact h4),Nat.div_eq_of_lt h4,Nat.mod_eq_of_lt h4]
   rfl
  obtain⟨i,rfl⟩:∃i,j=i+4:=⟨j-4,by omega⟩
  rw[List.getElem?_append_right (by rw[jp];omega),jp,Nat.add_sub_cancel,ih (by rw[List.length_cons] at hj;omega),Nat.add_mod_right,Nat.add_div_right _ zd]
  rfl
theorem bytes_set (D:List UInt8) {j n:Nat} (h1:j<D.length) (h2:j<n):(ge (D.take j++List.replicate (n-j) 0)).set (0+j*1) (A1 D[j])=ge (D.take (j+1)++List.replicate (n-(j+1)) 0):=by
 have a:(D.take j).length=j:=by rw[List.length_take];omega
 have b:n-j=(n-(j+1))+1:=by omega
 rw[Nat.zero_add,Nat.mul_one,ge,←List.map_set,List.set_append_right _ _ zo,a,Nat.sub_self,b,List.replicate_succ,List.set_cons_zero,List.take_succ_eq_append_getElem h1,List.append_assoc]
 rfl
theorem refSum_calls (w:World) {p:Option Addr} {c:Nat} {l:List UInt8} (h:vt w p l) (hl:l.length<100000000):
  gn prog 130 [.slice p l.length c] w fun v w'=>v= .agg (ge (sumW l)).toArray∧Ext No w w':=by
 refine gx func130 ?_
 have f:=Ext.refl No w
 refine qa (gw rfl fun b2 w1 a5 a a6=> ?_)
 have a7:=Nat.le_trans f.size a5
 have f:=f.gb a6
 refine qr (qa (qg rfl zb (l':=jq yp) rfl (gw rfl fun O w2 R d S=> ?_)))
 have y:=j5 a.lt R
 have T:=Nat.le_trans f.size R
 have a:=a.ga S
 have f:=f.gb S
 refine wl (j8 (l':=jq yp) gc d rfl rfl rfl rfl OneC.h fun w3 d U ay=> ?_)
 have a:=a.gj U y
 have f:=f.gh U T
 refine qr (qc rfl ?_)
 have I:=d.lt
 have ar:=a.lt
 refine gi call182 rfl (refPad_calls w3 (h.ga f) hl) fun v4 w4 a8=> ?_
 obtain⟨q,kq,rfl,hq,a9,E⟩:=a8
 have a:=a.ga E
 have d:=d.ga E
 have f:=f.gb E
 have aa:(Cb l).length%64=0:=by rw[yz0];omega
 have ab:(Cb l).length<200000000:=by rw[yz0];omega
 have V:sumW l=(zy ql yp (Cb l) ((Cb l).length/64)).flatMap fun x=>be 4 x.toNat:=rfl
 rw[V]
 have W:=hq.cap
 have s:vt w4 q (Cb l):=hq.sl
 have X:∀b Y,q=some ⟨b,Y,none⟩→¬One O b:=fun b Y e hb=>by
  have hb:b=O:=hb
  rcases hq with⟨_,Q,_⟩|⟨bq,_,h1,_⟩
  ·rw[yz0] at Q;omega
  rw[h1] at e
  cases e
  have:=a9 b h1
  omega
 clear hq
 generalize Cb l=P at s aa ab W⊢
 have I:=Nat.lt_of_lt_of_le I E.size
 refine jz rfl (qa (gi call183 rfl (known_calls w4) fun v5 w5 ac=> ?_))
 obtain⟨bk,rfl,az,ad,F⟩:=ac
 have a:=a.ga F
 have d:=d.ga F
 have s:=s.ga F
 have f:=f.gb F
 have m:Seg w5 bk 0 (jq ql):=ad.ko
 have Z:¬One O bk:=fun e=>by have e:bk=O:=e;omega
 refine jz rfl (gk (je rfl (gr ?_)))
 refine jm (α:=Nat) [2,3,4,5] rfl (fun z=>[(6,.int .i64 ((64*z:Nat):Int))]) (fun z u=>(64*z≤P.length∧vt u q P∧Seg u bk 0 (jq ql))∧j0 u b2 30 (cellsOf ti30.zero)∧j0 u O 276 (jq (zy ql yp P z))∧Ext No w u) (fun z u=>P.length-64*z) (0) rfl ⟨⟨Nat.zero_le _,s,m⟩,a,d,f⟩ ?_
 rintro k w6 ⟨⟨hk,s,m⟩,a,d,f⟩
 refine gk (je rfl (jl rfl (fun hc=> ?_) (fun hc=> ?_)))
 ·have au:64*k+64≤P.length:=by omega
  have K:((P.drop (64*k)).take 64).length=64:=by rw[List.length_take,List.length_drop];omega
  have A:(zy ql yp P k).length=8:=by rw[C7];rfl
  refine xz (gr (js rfl 8 [qP 0,qP 1,qP 2,qP 3,qP 4,qP 5,qP 6,(7,false)] [8] (No) zk fun w7 t b0=> ?_))
  have ae:=d
  have a:=a.ga t
  have d:=d.ga t
  have s:=s.ga t
  have m:=m.ga t
  have f:=f.gb t
  have hC:Ext (No) _ w7:=t.no
  refine qf gc rfl rfl (fun w' af=>(ae.ga af).ko) (by rw[u3,A]) ?_
  refine gv gc 4 rfl ?_
  rw[kg _ zo]
  refine zx1 gc rfl rfl (64*k) (64*k+64) kq 1 rfl (.inr ⟨rfl,rfl⟩) (.inl (congrArg some zo)) (.inl (congrArg some zo)) zo zo (Nat.le_refl _) ?_
  dsimp only
  rw[show 64*k+64-64*k=((P.drop (64*k)).take 64).length from by rw[K];omega]
  refine gv gc 1 rfl ?_
  have ag:vt w7 (u5 q (64*k) kq 1) ((P.drop (64*k)).take 64):=by
   have e:=Sl.slice s (64*k) (64*k+64) kq zo zo zo
   rw[Nat.mul_one,Nat.mul_one,ug,ul,show 64*k+64-64*k=64 from by omega] at e
   rw[vt,K]
   exact e
  refine jg rfl (j3 call184 rfl (refInto_calls w7 A (b:=(P.drop (64*k)).take 64) ag K zo m) fun v8 w8 a0=>⟨(by obtain⟨rfl,n⟩:=a0;exact hC.gb n),?_⟩)
  obtain⟨rfl,n⟩:=a0
  have a:=a.ga n
  have d:=d.ga n
  have s:=s.ga n
  have m:=m.ga n
  have f:=f.gb n
  refine jj ?_
  refine wb rfl (j8 (l':=jq (intoW ql (zy ql yp P k) ((P.drop (64*k)).take 64))) gc d rfl rfl (by rw[u3,intoW_len,A]) (by rw[u3,intoW_len,A,u3,A]) OneC.h fun w9 d G b1=> ?_)
  have a:=a.gj G y
  have s:=s.ext G X
  have m:=m.ext G Z
  have f:=f.gh G T
  refine ja (Bo rfl ?_)
  rw[kg _ zo]
  refine gm ?_
  exact jn (k+1) rfl ⟨⟨by omega,s,m⟩,a,d,f⟩ zf
 have Q:k=P.length/64:=by omega
 subst Q
 have ah:(zy ql yp P (P.length/64)).length=8:=by rw[C7];rfl
 generalize zy ql yp P (P.length/64)=H at d ah⊢
 have ai:=yw1 H
 have a1:∀j,j<4*H.length→(H.flatMap fun x=>be 4 x.toNat)[j]? =(be 4 (H.getD (j/4) 0).toNat)[j%4]? :=fun j=>flat4_get H
 generalize(H.flatMap fun x=>be 4 x.toNat)=D at ai a1⊢
 refine Bi (qa (gw rfl fun b7 aj L g B=> ?_))
 have M:=j5 a.lt L
 have N:=j5 d.lt L
 have ak:=Nat.le_trans f.size L
 have a:=a.ga B
 have d:=d.ga B
 have f:=f.gb B
 have g:j0 aj b7 30 (ge (D.take 0++List.replicate (32-0) 0)):=g
 refine qr (gk (je rfl (gr ?_)))
 refine jm (α:=Nat) [2,3,7] rfl (fun z=>[(8,.int .i64 (z:Int))]) (fun z u=>(z≤32)∧j0 u b2 30 (cellsOf ti30.zero)∧j0 u O 276 (jq H)∧j0 u b7 30 (ge (D.take z++List.replicate (32-z) 0))∧Ext No w u) (fun z u=>32-z) (0) rfl ⟨by decide,a,d,g,f⟩ ?_
 rintro j al ⟨hj,a,d,g,f⟩
 refine gk (je rfl (jl rfl (fun hc=> ?_) (fun hc=> ?_)))
 ·have J:j<32:=by omega
  have a2:=a1 j zo
  rw[List.getElem?_eq_getElem zo] at a2
  have am:=B8 H (i:=j/4) zo
  refine xz (gr (yv rfl ?_))
  rw[show IntKind.i64.wrap ((j:Int).tdiv 4)=((j/4:Nat):Int) from by rw[IntWalk.i64_quo _ _ zo];omega]
  refine ki rfl 1 rfl (j/4) rfl zo (0+j/4) zo (gy rfl (d.cell (i:=0+j/4) (v:=vi (H.getD (j/4) 0)) (by rw[Nat.zero_add];exact am)) (j9 gc rfl ?_))
  rw[show IntKind.u64.wrap ((H.getD (j/4) 0).toNat:Int)=((H.getD (j/4) 0).toNat:Int) from by have:=(H.getD (j/4) 0).isLt;rw[IntWalk.u64_in _ zo]]
  refine gi call96 rfl (Cs 4 zd al (H.getD (j/4) 0).toNat (by have:=(H.getD (j/4) 0).isLt;omega)) fun b4 an a3=> ?_
  obtain⟨qh,kh,rfl,ao,av,o⟩:=a3
  have a:=a.ga o
  have d:=d.ga o
  have g:=g.ga o
  have f:=f.gb o
  obtain⟨bh,rfl,ap⟩:∃bh,qh=some ⟨bh,0,none⟩∧Seg an bh 0 (ge (be 4 (H.getD (j/4) 0).toNat)):=by
   rcases ao with⟨_,Q,_⟩|⟨bh,l,h1,h2,_,_,_,h3⟩
   ·omega
   refine⟨bh,h1,?_⟩
   rw[←h3]
   exact h2.ko.take _
  have aq:(ge (be 4 (H.getD (j/4) 0).toNat))[j%4]? =some (A1 (D[j]'zo)):=by rw[ge,List.getElem?_map,←a2];rfl
  refine j9 gc rfl ?_
  rw[show((j:Int).tmod 4)=((j%4:Nat):Int) from rfl]
  refine ki rfl 1 rfl (j%4) rfl zo (0+j%4) zo (gy rfl (ap (j%4) _ aq) (ki rfl 1 rfl j rfl J (0+j*1) rfl ?_))
  refine wl (u4 gc g rfl rfl (by rw[gl,List.length_append,List.length_take,List.length_replicate];omega) fun b5 g C aw=> ?_)
  have a:=a.gj C M
  have d:=d.gj C N
  have f:=f.gh C ak
  rw[bytes_set D zo J] at g
  refine gm (Bo rfl ?_)
  rw[kg _ zo]
  refine gm ?_
  exact jn (j+1) rfl ⟨by omega,a,d,g,f⟩ zf
 have Q:j=32:=by omega
 subst Q
 have e1:D.take 32++List.replicate (32-32) 0=D:=by rw[List.take_of_length_le zo];simp
 rw[e1] at g
 have r:(ge D).length=32:=by rw[gl];omega
 refine Bi (qa (jh g rfl r (wl (j8 (l':=ge D) gc a rfl rfl r (by rw[r];rfl) OneC.h fun b6 a a4 ax=> ?_))))
 have f:=f.gh a4 a7
 refine qr (gq (qz [_] ⟨⟨b2,0,rfl,u0 gc rfl rfl a.ko (by rw[r];rfl)⟩,trivial⟩ ?_))
 exact⟨rfl,f⟩
end Go.Proofs.YtpdiphfjmepijaaGreatDoor
namespace Go.Vc
def uo (l:List UInt8):ByteArray:=⟨l.toArray⟩
theorem strU_size (l:List UInt8):(uo l).size=l.length:=rfl
theorem strU_of (s:ByteArray):uo s.data.toList=s:=by obtain⟨⟨x⟩⟩:=s;rfl
theorem A6 {a b:List UInt8} (h:uo a=uo b):a=b:=by
 have e:=congrArg (fun s:ByteArray=>s.data.toList) h
 exact e
section
variable {P:Program} {I:qs} {f:Fs} {ops:Array Oper} {o:Oper} {env:Env} {w:World}
theorem run_b2s {p:Option Addr} {l:List UInt8} (h:vt w p l) (c:Nat):(Conv.bytesToString (.slice p l.length c)).run P w= .ok (.string (uo l)) w:=by
 unfold Conv.bytesToString
 cases p with
 |none=>
  obtain⟨_,h0|⟨b,off,hp,_⟩⟩:=h
  ·have:l=[]:=List.eq_nil_of_length_eq_zero h0
   subst this
   rfl
  cases hp
 |some a=>
  have hl:(loadCells a l.length).run P w= .ok (ge l).toArray w:=by
   obtain⟨_,h0|⟨b,off,hp,hs⟩⟩:=h
   ·have:l=[]:=List.eq_nil_of_length_eq_zero h0
    subst this
    rfl
   cases hp
   unfold loadCells
   have:=uq (P:=P) l.length 0 (ge l) #[] (by simpa using hs) (gl l)
   simpa using this
  simp only[Sem.run_bind,hl,Result.andThen_ok]
  have go:∀(m:List UInt8) (s:ByteArray),(forIn (m:=Sem) (ge m) s fun c s=>do
    match c with
    | .int .u8 n=>pure (ForInStep.yield (s.push (UInt8.ofNat n.toNat)))
    |_=>do
     stuck "bytesToString: byte expected"
     pure (ForInStep.yield s)).run P w= .ok (⟨s.data++m.toArray⟩:ByteArray) w:=by
   intro m
   induction m with
   |nil=>intro s;simp[ge]
   |cons x r ih=>
    intro s
    rw[show ge (x::r)=A1 x::ge r from rfl,List.forIn_cons]
    simp only[Sem.run_bind,Sem.run_pure,Result.andThen_ok]
    rw[ih]
    congr 2
    simp[ByteArray.push]
  rw[←Array.forIn_toList]
  refine(congrArg (fun r=>Result.andThen r _) (go l ByteArray.empty)).trans ?_
  simp only[Result.andThen_ok,Sem.run_pure]
  congr 2
  simp[uo,ByteArray.empty,ByteArray.emptyWithCapacity]
  rfl
def b2sE (I:qs) (n:Nat) (ops:Array Oper) (env:Env) (o:Oper):Option (Option Addr×Nat×Nat×Nat):=
  match pre n ops env o with
  |false=>none
  |true=>match o.dst with
    |some d=>match o.op with
      | .convert s t x=>match y0 I s with
        |some y=>match y.desc with
          | .slice e=>match y0 I e with
            |some g=>match g.desc with
              | .int .u8=>match y0 I t with
                |some z=>match z.desc with
                  | .string=>match vv env x with
                    |some (.slice p m c)=>some (p,m,c,d)
                    |_=>none
                  |_=>none
                |none=>none
              |_=>none
            |none=>none
          |_=>none
        |none=>none
      |_=>none
    |none=>none
theorem ov_b2s (hI:I.Ok P) {nn m c d:Nat} {p:Option Addr} (h:b2sE I nn ops env o=some (p,m,c,d)) {l:List UInt8} (hl:m=l.length) (hs:vt w p l):
  pre nn ops env o=true∧o.dst=some d∧Ov P o env w (.string (uo l)) w:=by
 subst hl
 unfold b2sE at h
 split at h
 ·cases h
 rename_i n
 split at h
 ·rename_i H q
  split at h
  ·rename_i s t x r
   split at h
   ·rename_i y u
    split at h
    ·rename_i e v
     split at h
     ·rename_i g A
      split at h
      ·rename_i a
       split at h
       ·rename_i z B
        split at h
        ·rename_i b
         split at h
         ·rename_i C J f D
          simp only[Option.some.injEq,Prod.mk.injEq] at h
          obtain⟨rfl,rfl,rfl,rfl⟩:=h
          refine⟨n,q,fun K E=> ?_⟩
          have i:=(hI.get u).under w
          have j:=(hI.get B).under w
          have k:=(hI.get A).under w
          rw[v] at i
          rw[b] at j
          rw[a] at k
          have F:=run_b2s (P:=P) hs f
          have G:(convert s t (.slice C l.length f)).run P w= .ok (.string (uo l)) w:=by
           unfold convert
           rw[jc i,jc j]
           show(underlying e>>=_).run P w=_
           rw[jc k]
           exact F
          simp only[execOp,r,E _ _ D,Sem.run_bind,G,Result.andThen_ok,Sem.run_pure]
         cases h
        cases h
       cases h
      cases h
     cases h
    cases h
   cases h
  cases h
 cases h
theorem zv6 (hI:I.Ok P) {K:Env→World→Prop} {m c d:Nat} {p:Option Addr} (h:b2sE I f.n ops env o=some (p,m,c,d)) {l:List UInt8} (hl:m=l.length) (hs:vt w p l)
  (k:K ((d,.string (uo l))::env) w):St P f ops o env w K:=by
 obtain⟨a,b,e⟩:=ov_b2s (w:=w) hI h hl hs
 obtain⟨g,i⟩:=pre_eq a
 exact xq g i e (by rw[b];exact k)
theorem wd_b2s (hI:I.Ok P) {K:Act→World→Prop} {r:Dr} {i:Nat} {pl:List (Nat×Bool)} {dn:List Nat} (ho:ops[i]? =some o) {m c d:Nat} {p:Option Addr} (h:b2sE I f.n ops env o=some (p,m,c,d)) {l:List UInt8} (hl:m=l.length) (hs:∀w',r.C w'→vt w' p l)
  (hs0:vt w p l) (k:WD P f ops K r pl (i::dn) ((d,.string (uo l))::env) w):WD P f ops K r ((i,true)::pl) dn env w:=by
 obtain⟨a,b,_⟩:=ov_b2s (w:=w) hI h hl hs0
 exact xv2 ho a b (fun w' e=>(ov_b2s (w:=w') hI h hl (hs w' e)).2.2) k
def eqKE (n:Nat) (ops:Array Oper) (env:Env) (o:Oper):Option (Nat×Bool×Value×Value×Nat):=
  match pre n ops env o with
  |false=>none
  |true=>match o.dst with
    |some d=>match o.op with
      | .binOp op t x y _=>match vv env x with
        |some (.agg a)=>match vv env y with
          |some (.agg b)=>match op with
            | .eql=>some (t,true,.agg a,.agg b,d)
            | .neq=>some (t,false,.agg a,.agg b,d)
            |_=>none
          |_=>none
        |_=>none
      |_=>none
    |none=>none
theorem ov_eqK {nn t d : Nat} {q : Bool} {a b : Value} (h : eqKE nn ops env o = some (t, q, a, b, d)) (hgd : P.eqGuardType P.depth t = false) (m : Nat) (hm : m ≤ 10000) (hk : P.keyTypeAt m t = true)
    {D D' : Nat} {la lb : List Lit} (fa : a.formed P t = true) (fb : b.formed P t = true) (ha : P.keyLits D t a.cells.toList = some la) (hb : P.keyLits D' t b.cells.toList = some lb) {p : Prop} [Decidable p] (hp : la = lb ↔ p) :
    pre nn ops env o = true ∧ o.dst = some d ∧ Ov P o env w (.bool (if q then decide p else decide (¬ p))) w := by
  unfold eqKE at h
  split at h
  · cases h
  rename_i s
  split at h
  · rename_i I G
    split at h
    · rename_i J e x y u A
      split at h
      · rename_i f B
        split at h
        · rename_i g C
          have v : ∃ r : Bool, (Op.equal e (.agg f) (.agg g)).run P w = .ok r w ∧ (r = true ↔ p) ∨ e ≠ t ∨ a ≠ .agg f ∨ b ≠ .agg g := by
            by_cases ht : e = t ∧ a = .agg f ∧ b = .agg g
            · obtain ⟨rfl, rfl, rfl⟩ := ht
              obtain ⟨r, i, l⟩ := run_equalIn_deep (P := P) (10000 - m) m e hk w D D' _ _ la lb fa fb ha hb
              rw [Nat.sub_add_cancel hm] at i
              exact ⟨r, .inl ⟨i, l.trans hp⟩⟩
            refine ⟨true, .inr ?_⟩
            by_cases i : e = t
            · by_cases l : a = .agg f
              · exact .inr (.inr fun H => ht ⟨i, l, H⟩)
              exact .inr (.inl l)
            exact .inl i
          split at h
          all_goals first
            | (cases h; done)
            | (simp only [Option.some.injEq, Prod.mk.injEq] at h
               obtain ⟨rfl, rfl, rfl, rfl, rfl⟩ := h
               obtain ⟨r, ⟨E, z⟩ | c | c | c⟩ := v
               · refine ⟨s, G, fun K n => ?_⟩
                 have j : r = decide p := by
                   rw [Bool.eq_iff_iff, z]; simp
                 have F := run_eqGuard_agg (P := P) w (BinOp.eql) e x y f g hgd
                 have k := run_eqGuard_agg (P := P) w (BinOp.neq) e x y f g hgd
                 first
                   | (simp only [execOp, A, n _ _ B, n _ _ C, Sem.run_bind, F, k, Result.andThen_ok, binOp, E, Sem.run_pure, j]; simp; done)
                   | (simp only [execOp, A, n _ _ B, n _ _ C, Sem.run_bind, F, k, Result.andThen_ok, binOp, E, Sem.run_pure, j]; done)
               · exact absurd rfl c
               · exact absurd rfl c
               exact absurd rfl c)
        cases h
      cases h
    cases h
  cases h
theorem yj9 {K:Env→World→Prop} {t d:Nat} {q:Bool} {a b:Value} (h:eqKE f.n ops env o=some (t,q,a,b,d)) (hgd:P.eqGuardType P.depth t=false) (m:Nat) (hm:m≤10000) (hk:P.keyTypeAt m t=true)
  {D D':Nat} {la lb:List Lit} (fa:a.formed P t=true) (fb:b.formed P t=true) (ha:P.keyLits D t a.cells.toList=some la) (hb:P.keyLits D' t b.cells.toList=some lb) {p:Prop} [Decidable p] (hp:la=lb↔p)
  (k:K ((d,.bool (if q then decide p else decide (¬p)))::env) w):St P f ops o env w K:=by
 obtain⟨c,e,g⟩:=ov_eqK (P:=P) (w:=w) h hgd m hm hk fa fb ha hb hp
 obtain⟨i,j⟩:=pre_eq c
 exact xq i j g (by rw[e];exact k)
end
theorem yj4 {P:Program} {f:Fs} {ops:Array Oper} {o:Oper} {env:Env} {w:World} {K:Act→World→Prop} {r:Dr} {i:Nat} {pl:List (Nat×Bool)} {dn:List Nat} (ho:ops[i]? =some o) {t d:Nat} {q:Bool} {a b:Value} (h:eqKE f.n ops env o=some (t,q,a,b,d)) (hgd:P.eqGuardType P.depth t=false) (m:Nat) (hm:m≤10000) (hk:P.keyTypeAt m t=true)
  {D D':Nat} {la lb:List Lit} (fa:a.formed P t=true) (fb:b.formed P t=true) (ha:P.keyLits D t a.cells.toList=some la) (hb:P.keyLits D' t b.cells.toList=some lb) {p:Prop} [Decidable p] (hp:la=lb↔p)
  (k:WD P f ops K r pl (i::dn) ((d,.bool (if q then decide p else decide (¬p)))::env) w):WD P f ops K r ((i,true)::pl) dn env w:=by
 obtain⟨c,e,_⟩:=ov_eqK (P:=P) (w:=w) h hgd m hm hk fa fb ha hb hp
 exact xv2 ho c e (fun g _=>(ov_eqK (P:=P) (w:=g) h hgd m hm hk fa fb ha hb hp).2.2) k
/-! ### What a key's cells read as -/
theorem mapM_some {α β:Type} {f:α→Option β} {g:α→β}:∀{L:List α},(∀x∈L,f x=some (g x))→L.mapM f=some (L.map g)
 | [],_=>by simp
 |x::r,h=>by
  rw[List.mapM_cons,h x zp,mapM_some (L:=r) fun y hy=>h y (by simp[hy])]
  rfl
theorem flat_single {α β:Type} (f:α→β) (L:List α):(L.map fun x=>[f x]).flatten=L.map f:=by
 induction L with
 |nil=>rfl
 |cons x r ih=>rw[List.map_cons,List.flatten_cons,ih];rfl
def D9 (l:List UInt8):List Lit:=l.map fun b=>Lit.int .u8 (b.toNat:Int)
theorem vk {a b:List UInt8}:D9 a=D9 b↔a=b:=by
 refine⟨fun h=>(List.map_inj_right fun x y e=> ?_).1 h,fun h=>by rw[h]⟩
 simp only[Lit.int.injEq,true_and] at e
 exact UInt8.toNat_inj.1 zo
theorem lits_bytes {P:Program} {d t e n:Nat} (hu:P.underlying t=some (.array n e)) (hc:P.cellsOf t=n) (he:P.underlying e=some (.int .u8)) (hce:P.cellsOf e=1) {l:List UInt8} (hl:l.length=n):P.keyLits (d+2) t (ge l)=some (D9 l):=by
 unfold Program.keyLits
 simp only[hu,hc,hce,gl,hl,if_true]
 have c:∀i∈List.range n,P.keyLits (d+1) e (((ge l).drop (i*1)).take 1)=some [Lit.int .u8 ((l.getD i 0).toNat:Int)]:=by
  intro i a
  have a:i<l.length:=by rw[hl];exact List.mem_range.1 a
  have b:((ge l).drop (i*1)).take 1=[A1 (l.getD i 0)]:=by
   rw[Nat.mul_one,ge,←List.map_drop,List.drop_eq_getElem_cons a,List.getD_eq_getElem?_getD,List.getElem?_eq_getElem a]
   rfl
  rw[b]
  unfold Program.keyLits
  simp only[he]
  have:=(l.getD i 0).toNat_lt
  rw[if_pos]
  refine⟨trivial,?_⟩
  have b:IntKind.u8.min=0:=rfl
  have f:IntKind.u8.max=255:=rfl
  simp only[Lit.wf,b,f,Bool.and_eq_true,decide_eq_true_eq]
  omega
 rw[mapM_some c]
 simp only[Option.map_some,Option.some.injEq]
 rw[←hl]
 apply List.ext_getElem?
 intro i
 have:((List.range l.length).map fun i=>[Lit.int .u8 ((l.getD i 0).toNat:Int)]).flatten=(List.range l.length).map fun i=>Lit.int .u8 ((l.getD i 0).toNat:Int):=by
  exact flat_single _ _
 rw[this]
 simp only[D9,List.getElem?_map]
 by_cases a:i<l.length
 ·rw[List.getElem?_eq_getElem a,List.getElem?_eq_getElem (by simpa using a)]
  simp[List.getD_eq_getElem?_getD,List.getElem?_eq_getElem a]
 rw[List.getElem?_eq_none (l:=List.range l.length) (by rw[List.length_range];omega),List.getElem?_eq_none (l:=l) zo]
 rfl
theorem lits_str {P:Program} {d t:Nat} (hu:P.underlying t=some .string) {s:List UInt8} (hs:s.length≤maxLen):P.keyLits (d+1) t [.string (uo s)]=some [.string s]:=by
 unfold Program.keyLits
 simp only[hu]
 exact if_pos hs
theorem lits_bool {P:Program} {d t:Nat} (hu:P.underlying t=some .bool) (b:Bool):P.keyLits (d+1) t [.bool b]=some [.bool b]:=by
 unfold Program.keyLits
 simp only[hu]
theorem lits_struct {P : Program} {d t : Nat} {cs : List Value} {L : List (Nat × Nat)} (hu : P.underlying t = some (.struct (P.fieldsOf t))) (hn : (P.fieldsOf t).all (·.name != "_") = true) (hc : cs.length = P.cellsOf t)
  (hf:(P.fieldsOf t).toList.map (fun f=>(f.type,f.offset))=L) {ls:List (List Lit)} (hm:L.mapM (fun p=>P.keyLits d p.1 ((cs.drop p.2).take (P.cellsOf p.1)))=some ls):P.keyLits (d+1) t cs=some ls.flatten:=by
 unfold Program.keyLits
 simp only[hu]
 rw[if_pos ⟨hc,hn⟩]
 subst hf
 have:(P.fieldsOf t).toList.mapM (fun f=>P.keyLits d f.type ((cs.drop f.offset).take (P.cellsOf f.type)))=some ls:=by
  rw[←hm]
  generalize(P.fieldsOf t).toList=fs
  induction fs with
  |nil=>rfl
  |cons f fs ih=>simp only[List.map_cons,List.mapM_cons,ih]
 rw[this]
 rfl
abbrev Str:=List UInt8
abbrev xn (l:Str):Value:= .string (uo l)
def okC (c:UInt8):Prop:=33≤c.toNat∧c.toNat≤126
instance (c:UInt8):Decidable (okC c):=inferInstanceAs (Decidable (_∧_))
def z9 (l:Str):Prop:=(∀c∈l,okC c)∧1≤l.length∧l.length≤48
instance (l:Str):Decidable (z9 l):=inferInstanceAs (Decidable (_∧_))
theorem pathNo {l:Str} {i:Nat} (hi:i<l.length) (h:¬okC l[i]):¬z9 l:=fun hp=>h (hp.1 _ (List.getElem_mem hi))
theorem pathIs {l:Str} (h:∀i (hi:i<l.length),okC l[i]):z9 l↔1≤l.length∧l.length≤48:=
 ⟨fun hp=>hp.2,fun hl=>⟨fun c hc=>by obtain⟨i,hi,rfl⟩:=List.mem_iff_getElem.1 hc;exact h i hi,hl⟩⟩
theorem xw5 {α:Type} {p:α→Prop} {l:List α} {i:Nat} (h:∀k (hk:k<l.length),k<i→p l[k]) (hi:i<l.length) (h1:p l[i]):∀k (hk:k<l.length),k<i+1→p l[k]:=fun k hk hlt=>by
 rcases Nat.lt_or_ge k i with h'|h'
 ·exact h k hk h'
 obtain rfl:k=i:=by omega
 exact h1
structure Aq where
  path:Str
  text:Str
  deriving DecidableEq
structure jf where
  path:Str
  id:List UInt8
  deriving DecidableEq
structure ud where
  path:Str
  is:Bool
  text:Str
  deriving DecidableEq
def Aq.cells (r:Aq):List Value:=[xn r.path,xn r.text]
def jf.cells (r:jf):List Value:=xn r.path::ge r.id
def ud.cells (r:ud):List Value:=[xn r.path,.bool r.is,xn r.text]
theorem flat_at {α:Type} {f:α→List Value} {n:Nat}:∀{l:List α},(∀x∈l,(f x).length=n)→∀{i:Nat} (hi:i<l.length),((l.flatMap f).drop (i*n)).take n=f l[i]
 | [],_,i,hi=>absurd hi (Nat.not_lt_zero _)
 |x::r,h,0,_=>by
  rw[Nat.zero_mul,List.drop_zero,List.flatMap_cons,List.take_append_of_le_length (by rw[h x zp];exact Nat.le_refl _),List.take_of_length_le (by rw[h x zp];exact Nat.le_refl _)]
  rfl
 |x::r,h,i+1,hi=>by
  have hx:=h x zp
  rw[List.flatMap_cons,Nat.succ_mul,Nat.add_comm,←List.drop_drop,←hx,List.drop_left,hx,flat_at (fun y hy=>h y (by simp[hy])) (by simpa using hi)]
  rfl
theorem yz3 {α:Type} {f:α→List Value} {n:Nat}:∀{l:List α},(∀x∈l,(f x).length=n)→(l.flatMap f).length=l.length*n
 | [],_=>by simp
 |x::r,h=>by
  rw[List.flatMap_cons,List.length_append,h x zp,yz3 (fun y hy=>h y (by simp[hy])),List.length_cons,Nat.succ_mul,Nat.add_comm]
theorem Sl.rowAt {α:Type} {w:World} {p:Option Addr} {f:α→List Value} {n:Nat} {l:List α} (h:Sl w p l.length n (l.flatMap f)) (hn:∀x∈l,(f x).length=n) {i:Nat} (hi:i<l.length):
  ∃b off,p=some ⟨b,off,none⟩∧Seg w b (off+i*n) (f l[i]):=by
 obtain⟨_,d|⟨b,off,a,c⟩⟩:=h
 ·omega
 refine⟨b,off,a,?_⟩
 have:=(c.drop (i*n)).take n
 rw[flat_at hn hi] at this
 exact this
theorem Sl.qm {α:Type} {w:World} {p:Option Addr} {f:α→List Value} {n:Nat} {l:List α} (h:Sl w p l.length n (l.flatMap f)) (hn:∀x∈l,(f x).length=n) (h0:0<l.length):
  ∃b off,p=some ⟨b,off,none⟩∧∀i (hi:i<l.length),Seg w b (off+i*n) (f l[i]):=by
 obtain⟨_,d|⟨b,off,a,c⟩⟩:=h
 ·omega
 refine⟨b,off,a,fun i hi=> ?_⟩
 have:=(c.drop (i*n)).take n
 rw[flat_at hn hi] at this
 exact this
theorem Aq.len (r:Aq):r.cells.length=2:=rfl
theorem ud.len (r:ud):r.cells.length=3:=rfl
theorem jf.len {r:jf} (h:r.id.length=32):r.cells.length=33:=by simp[jf.cells,gl,h]
instance (r:Aq):OneC r.cells:=by unfold Aq.cells;infer_instance
instance (r:ud):OneC r.cells:=by unfold ud.cells;infer_instance
instance (r:jf):OneC r.cells:=by unfold jf.cells;infer_instance
def yx8 (l:List Str):Prop:=l.length≤32∧∀i (hi:i<l.length),z9 l[i]∧(0<i→SLt (uo (l[i-1]'zo)) (uo l[i]))
instance (l:List Str):Decidable (yx8 l):=inferInstanceAs (Decidable (_∧_))
def xz2 (l:List Aq):Prop:=¬(∃r∈l,256<r.text.length)∧yx8 (l.map Aq.path)
instance (l:List Aq):Decidable (xz2 l):=inferInstanceAs (Decidable (_∧_))
theorem bl_total:∀(x y:List UInt8),(Op.bytesLess x y=true∨x=y)∨Op.bytesLess y x=true
 | [],[]=> .inl (.inr rfl)
 | [],_::_=> .inl (.inl rfl)
 |_::_,[]=> .inr rfl
 |a::x,b::y=>by
  simp only[Op.bytesLess,Bool.or_eq_true,Bool.and_eq_true,decide_eq_true_eq,beq_iff_eq]
  rcases Nat.lt_trichotomy a.toNat b.toNat with h|h|h
  ·exact .inl (.inl (.inl (UInt8.lt_iff_toNat_lt.2 h)))
  ·obtain rfl:a=b:=UInt8.toNat_inj.1 h
   rcases bl_total x y with(h1|h1)|h1
   ·exact .inl (.inl (.inr ⟨rfl,h1⟩))
   ·exact .inl (.inr (by rw[h1]))
   exact .inr (.inr ⟨rfl,h1⟩)
  exact .inr (.inl (UInt8.lt_iff_toNat_lt.2 h))
theorem bl_asymm:∀(x y:List UInt8),Op.bytesLess x y=true→Op.bytesLess y x=true→False
 | [],[],h,_=>by cases h
 | [],_::_,_,h=>by cases h
 |_::_,[],h,_=>by cases h
 |a::x,b::y,h,k=>by
  simp only[Op.bytesLess,Bool.or_eq_true,Bool.and_eq_true,decide_eq_true_eq,beq_iff_eq] at h k
  rcases h with h|⟨rfl,h⟩
  ·rcases k with k|⟨rfl,k⟩
   ·have:=UInt8.lt_iff_toNat_lt.1 h;have:=UInt8.lt_iff_toNat_lt.1 k;omega
   have:=UInt8.lt_iff_toNat_lt.1 h;omega
  rcases k with k|⟨_,k⟩
  ·have:=UInt8.lt_iff_toNat_lt.1 k;omega
  exact bl_asymm x y h k
def RowGood (l:List Aq) (i:Nat) (hi:i<l.length):Prop:=i≠32∧z9 l[i].path∧l[i].text.length≤256∧(0<i→SLt (uo (l[i-1]'zo).path) (uo l[i].path))
instance (l:List Aq) (i:Nat) (hi:i<l.length):Decidable (RowGood l i hi):=inferInstanceAs (Decidable (_∧_))
def ChgBad (c:ud):Prop:=256<c.text.length∨c.is=false∧c.text≠[]
instance (c:ud):Decidable (ChgBad c):=inferInstanceAs (Decidable (_∨_))
def xz4 (l:List ud):Prop:=¬(∃r∈l,ChgBad r)∧yx8 (l.map ud.path)
instance (l:List ud):Decidable (xz4 l):=inferInstanceAs (Decidable (_∧_))
def ChgGood (l:List ud) (i:Nat) (hi:i<l.length):Prop:=i≠32∧z9 l[i].path∧¬ChgBad l[i]∧(0<i→SLt (uo (l[i-1]'zo).path) (uo l[i].path))
instance (l:List ud) (i:Nat) (hi:i<l.length):Decidable (ChgGood l i hi):=inferInstanceAs (Decidable (_∧_))
end Go.Vc
namespace Go.Proofs.YtpdiphfjmepijaaGreatDoor
open Go.Proofs.Tryz
open Go.Vc
theorem path_calls (w:World) (l:Str) (hl:l.length<1000000000):
  gn prog 243 [xn l] w fun v w'=>v= .bool (decide (z9 l))∧w'=w:=by
 have q:(uo l).size=l.length:=rfl
 refine gx func243 ?_
 have g:=Ext.refl No w
 refine je rfl (gk (je rfl (gr ?_)))
 refine jm (α:=Nat) [0,5] rfl (fun z=>[(6,.int .i64 (z:Int))]) (fun z u=>((z≤l.length∧∀k (o:k<l.length),k<z→okC l[k])∧u=w)∧Ext No w u) (fun z u=>l.length-z) (0) rfl ⟨⟨⟨Nat.zero_le _,fun k _ h=>absurd h (Nat.not_lt_zero _)⟩,rfl⟩,g⟩ ?_
 rintro i p ⟨⟨⟨f,b⟩,rfl⟩,g⟩
 refine je rfl (gk (jl rfl (fun c=> ?_) (fun c=> ?_)))
 ·have f:i<l.length:=by omega
  have d:(uo l).data.toList[i]? =some l[i]:=List.getElem?_eq_getElem f
  refine xz (gr (je rfl (jv (α:=Bool) [0,5,6] rfl (fun z=>[(18,.bool z)]) (fun z u=>u=p∧z=decide (¬okC l[i])) ?_ ?_)))
  ·refine j4 ?_
   refine j9 gc rfl (wl (st_is gc rfl i rfl d (j9 gc rfl (jo 13 rfl (fun j=> ?_) (fun j=> ?_)))))
   ·refine j2 gc 5 rfl ?_
    refine gm ?_
    exact gz (true) rfl ⟨rfl,by symm;rw[decide_eq_true_eq];intro h;have:=h.1;omega⟩
   refine j2 gc 2 rfl ?_
   refine wl (st_is gc rfl i rfl d (j2 gc 2 rfl (gm ?_)))
   exact gz (_) rfl ⟨rfl,by rw[decide_eq_decide];unfold okC;omega⟩
  rintro z r ⟨a,rfl⟩
  have a:=a.symm
  subst a
  refine jl rfl (fun c=> ?_) (fun c=> ?_)
  ·have m:=pathNo f c
   refine je rfl (gq (ji (gp (gp (ji (gp (gu rfl rfl ?_)))))))
   exact⟨by rw[decide_eq_false m],rfl⟩
  have n:okC l[i]:=Decidable.not_not.1 c
  refine j7 (Bo rfl ?_)
  rw[kg _ zo]
  refine gm ?_
  exact jn (i+1) rfl ⟨⟨⟨by omega,xw5 b f n⟩,rfl⟩,g⟩ zf
 have e:=pathIs (l:=l) fun k o=>b k o zo
 refine Bi (jv (α:=Bool) [] rfl (fun z=>[(2,.bool z)]) (fun z u=>u=p∧z=decide (1≤l.length∧l.length≤48)) ?_ ?_)
 ·refine j4 ?_
  refine j9 gc rfl (jo 23 rfl (fun j=> ?_) (fun j=> ?_))
  ·refine j2 gc 5 rfl ?_
   refine gm ?_
   exact gz (_) rfl ⟨rfl,by rw[decide_eq_decide];omega⟩
  refine j2 gc 5 rfl ?_
  refine gm ?_
  exact gz (_) rfl ⟨rfl,by symm;rw[decide_eq_false_iff_not];omega⟩
 rintro z s ⟨a,rfl⟩
 have a:=a.symm
 subst a
 refine gq (gu rfl rfl ?_)
 exact⟨by rw[decide_eq_decide.2 e],rfl⟩
theorem rowPath_calls (w:World) (r:Aq):
  gn prog 239 [.agg r.cells.toArray] w fun v w'=>v=xn r.path∧Ext No w w':=by
 refine gx func239 ?_
 have b:=Ext.refl No w
 refine qa (gw rfl fun d e f a c=> ?_)
 have b:=b.gb c
 have a:j0 e d 321 (r.cells):=a
 refine jz rfl (qc rfl (jb a rfl rfl (jz rfl (gq (gu rfl rfl ?_)))))
 exact⟨rfl,b⟩
theorem changePath_calls (w:World) (r:ud):
  gn prog 229 [.agg r.cells.toArray] w fun v w'=>v=xn r.path∧Ext No w w':=by
 refine gx func229 ?_
 have b:=Ext.refl No w
 refine qa (gw rfl fun d e f a c=> ?_)
 have b:=b.gb c
 have a:j0 e d 150 (r.cells):=a
 refine jz rfl (qc rfl (jb a rfl rfl (jz rfl (gq (gu rfl rfl ?_)))))
 exact⟨rfl,b⟩
theorem check1_calls (w:World) (r:Aq):
  gn prog 238 [.agg r.cells.toArray] w fun v w'=>v= .bool (decide (256<r.text.length))∧Ext No w w':=by
 refine gx func238 ?_
 have b:=Ext.refl No w
 refine qa (gw rfl fun d e f a c=> ?_)
 have b:=b.gb c
 have a:j0 e d 321 (r.cells):=a
 refine jz rfl (qc rfl (jb a rfl rfl (jz rfl (gq (gu rfl rfl ?_)))))
 exact⟨congrArg Value.bool (decide_eq_decide.2 (by have:(uo r.text).size=r.text.length:=rfl;omega)),b⟩
theorem xz3 (w:World) {p:Option Addr} {c G:Nat} {l:List Aq} (h:Sl w p l.length 2 (l.flatMap Aq.cells)) (hl:l.length<1000000000) (Q:Aq→Prop) [DecidablePred Q]
  (hcf:∀args w,(callFunc G args).run prog w= .ok (.enter G args) w) (hQ:∀w (r:Aq),r.cells.length=2→gn prog G [.agg r.cells.toArray] w fun v w'=>v= .bool (decide (Q r))∧Ext No w w'):
  gn prog 246 [.slice p l.length c,.func (.func G) #[] #[]] w fun v w'=>∃n:Int,v= .int .i64 n∧(0≤n↔∃r∈l,Q r)∧Ext No w w':=by
 refine gx func246 ?_
 have a:=Ext.refl No w
 refine je rfl (gk (je rfl (gr ?_)))
 refine jm (α:=Nat) [0,1,7] rfl (fun z=>[(8,.int .i64 (z:Int))]) (fun z u=>(z≤l.length∧∀k (s:k<l.length),k<z→¬Q l[k])∧Ext No w u) (fun z u=>l.length-z) (0) rfl ⟨⟨Nat.zero_le _,fun k _ h=>absurd h (Nat.not_lt_zero _)⟩,a⟩ ?_
 rintro i t ⟨⟨j,d⟩,a⟩
 refine je rfl (gk (jl rfl (fun e=> ?_) (fun e=> ?_)))
 ·have j:i<l.length:=by omega
  obtain⟨b,m,rfl,f⟩:=(h.ga a).rowAt (fun r _=>r.len) j
  refine xz (gr (je rfl (qc rfl (ki rfl 2 rfl i rfl zo (m+i*2) rfl (jr rfl f rfl ?_)))))
  refine gi hcf rfl (hQ t l[i] rfl) fun B C o=> ?_
  obtain⟨rfl,q⟩:=o
  have a:=a.gb q
  refine qr (jl rfl (fun e=> ?_) (fun e=> ?_))
  ·refine gk ?_
   refine j4 (jz rfl (gq (ji (gp (gp (ji (gp (gu rfl rfl ?_))))))))
   exact⟨_,rfl,⟨fun _=>⟨_,List.getElem_mem j,e⟩,fun _=>Int.natCast_nonneg _⟩,a⟩
  refine j7 ?_
  refine Bo rfl ?_
  rw[kg _ zo]
  refine gm ?_
  exact jn (i+1) rfl ⟨⟨by omega,xw5 (p:=fun x=>¬Q x) d j e⟩,a⟩ zf
 have g:¬∃r∈l,Q r:=fun⟨r,y,A⟩=>by
  obtain⟨k,s,rfl⟩:=List.mem_iff_getElem.1 y
  exact d k s zo A
 refine Bi (je rfl (gq (gu rfl rfl ?_)))
 exact⟨_,rfl,⟨fun h=>absurd h zd,fun h=>absurd h g⟩,a⟩
theorem yx1 (w:World) {p:Option Addr} {c G:Nat} {l:List Aq} (h:Sl w p l.length 2 (l.flatMap Aq.cells)) (hl:l.length<1000000000) (Q:Aq→Prop) [DecidablePred Q]
  (hcf:∀args w,(callFunc G args).run prog w= .ok (.enter G args) w) (hQ:∀w (r:Aq),r.cells.length=2→gn prog G [.agg r.cells.toArray] w fun v w'=>v= .bool (decide (Q r))∧Ext No w w'):
  gn prog 237 [.slice p l.length c,.func (.func G) #[] #[]] w fun v w'=>v= .bool (decide (∃r∈l,Q r))∧Ext No w w':=by
 refine gx func237 ?_
 have a:=Ext.refl No w
 refine je rfl (qc rfl (gi call246 rfl (xz3 w (h.ga a) hl Q hcf hQ) fun f g b=> ?_))
 obtain⟨n,rfl,d,e⟩:=b
 have a:=a.gb e
 refine jz rfl (gq (gu rfl rfl ?_))
 exact⟨congrArg Value.bool (decide_eq_decide.2 d),a⟩
theorem yx2 (w:World) {p:Option Addr} {c G:Nat} {l:List ud} (h:Sl w p l.length 3 (l.flatMap ud.cells)) (hl:l.length<1000000000) (Q:ud→Prop) [DecidablePred Q]
  (hcf:∀args w,(callFunc G args).run prog w= .ok (.enter G args) w) (hQ:∀w (r:ud),r.cells.length=3→gn prog G [.agg r.cells.toArray] w fun v w'=>v= .bool (decide (Q r))∧Ext No w w'):
  gn prog 242 [.slice p l.length c,.func (.func G) #[] #[]] w fun v w'=>∃n:Int,v= .int .i64 n∧(0≤n↔∃r∈l,Q r)∧Ext No w w':=by
 refine gx func242 ?_
 have a:=Ext.refl No w
 refine je rfl (gk (je rfl (gr ?_)))
 refine jm (α:=Nat) [0,1,7] rfl (fun z=>[(8,.int .i64 (z:Int))]) (fun z u=>(z≤l.length∧∀k (s:k<l.length),k<z→¬Q l[k])∧Ext No w u) (fun z u=>l.length-z) (0) rfl ⟨⟨Nat.zero_le _,fun k _ h=>absurd h (Nat.not_lt_zero _)⟩,a⟩ ?_
 rintro i t ⟨⟨j,d⟩,a⟩
 refine je rfl (gk (jl rfl (fun e=> ?_) (fun e=> ?_)))
 ·have j:i<l.length:=by omega
  obtain⟨b,m,rfl,f⟩:=(h.ga a).rowAt (fun r _=>r.len) j
  refine xz (gr (je rfl (qc rfl (ki rfl 3 rfl i rfl zo (m+i*3) rfl (jr rfl f rfl ?_)))))
  refine gi hcf rfl (hQ t l[i] rfl) fun B C o=> ?_
  obtain⟨rfl,q⟩:=o
  have a:=a.gb q
  refine qr (jl rfl (fun e=> ?_) (fun e=> ?_))
  ·refine gk ?_
   refine j4 (jz rfl (gq (ji (gp (gp (ji (gp (gu rfl rfl ?_))))))))
   exact⟨_,rfl,⟨fun _=>⟨_,List.getElem_mem j,e⟩,fun _=>Int.natCast_nonneg _⟩,a⟩
  refine j7 ?_
  refine Bo rfl ?_
  rw[kg _ zo]
  refine gm ?_
  exact jn (i+1) rfl ⟨⟨by omega,xw5 (p:=fun x=>¬Q x) d j e⟩,a⟩ zf
 have g:¬∃r∈l,Q r:=fun⟨r,y,A⟩=>by
  obtain⟨k,s,rfl⟩:=List.mem_iff_getElem.1 y
  exact d k s zo A
 refine Bi (je rfl (gq (gu rfl rfl ?_)))
 exact⟨_,rfl,⟨fun h=>absurd h zd,fun h=>absurd h g⟩,a⟩
theorem zz0 (w:World) {p:Option Addr} {c G:Nat} {l:List ud} (h:Sl w p l.length 3 (l.flatMap ud.cells)) (hl:l.length<1000000000) (Q:ud→Prop) [DecidablePred Q]
  (hcf:∀args w,(callFunc G args).run prog w= .ok (.enter G args) w) (hQ:∀w (r:ud),r.cells.length=3→gn prog G [.agg r.cells.toArray] w fun v w'=>v= .bool (decide (Q r))∧Ext No w w'):
  gn prog 227 [.slice p l.length c,.func (.func G) #[] #[]] w fun v w'=>v= .bool (decide (∃r∈l,Q r))∧Ext No w w':=by
 refine gx func227 ?_
 have a:=Ext.refl No w
 refine je rfl (qc rfl (gi call242 rfl (yx2 w (h.ga a) hl Q hcf hQ) fun f g b=> ?_))
 obtain⟨n,rfl,d,e⟩:=b
 have a:=a.gb e
 refine jz rfl (gq (gu rfl rfl ?_))
 exact⟨congrArg Value.bool (decide_eq_decide.2 d),a⟩
theorem yw7 (w:World) {p:Option Addr} {c G:Nat} {l:List jf} (hn:∀x∈l,(jf.cells x).length=33) (h:Sl w p l.length 33 (l.flatMap jf.cells)) (hl:l.length<1000000000) (Q:jf→Prop) [DecidablePred Q]
  (hcf:∀args w,(callFunc G args).run prog w= .ok (.enter G args) w) (hQ:∀w (r:jf),r.cells.length=33→gn prog G [.agg r.cells.toArray] w fun v w'=>v= .bool (decide (Q r))∧Ext No w w'):
  gn prog 241 [.slice p l.length c,.func (.func G) #[] #[]] w fun v w'=>∃n:Int,v= .int .i64 n∧(0≤n↔∃r∈l,Q r)∧Ext No w w':=by
 refine gx func241 ?_
 have a:=Ext.refl No w
 refine je rfl (gk (je rfl (gr ?_)))
 refine jm (α:=Nat) [0,1,7] rfl (fun z=>[(8,.int .i64 (z:Int))]) (fun z u=>(z≤l.length∧∀k (s:k<l.length),k<z→¬Q l[k])∧Ext No w u) (fun z u=>l.length-z) (0) rfl ⟨⟨Nat.zero_le _,fun k _ h=>absurd h (Nat.not_lt_zero _)⟩,a⟩ ?_
 rintro i t ⟨⟨d,e⟩,a⟩
 refine je rfl (gk (jl rfl (fun f=> ?_) (fun f=> ?_)))
 ·have d:i<l.length:=by omega
  obtain⟨b,m,rfl,g⟩:=(h.ga a).rowAt (hn) d
  refine xz (gr (je rfl (qc rfl (ki rfl 33 rfl i rfl zo (m+i*33) rfl ?_))))
  refine jr rfl g (hn _ (List.getElem_mem d)) (gi hcf rfl (hQ t l[i] (hn _ (List.getElem_mem d))) fun B C o=> ?_)
  obtain⟨rfl,q⟩:=o
  have a:=a.gb q
  refine qr (jl rfl (fun f=> ?_) (fun f=> ?_))
  ·refine gk ?_
   refine j4 (jz rfl (gq (ji (gp (gp (ji (gp (gu rfl rfl ?_))))))))
   exact⟨_,rfl,⟨fun _=>⟨_,List.getElem_mem d,f⟩,fun _=>Int.natCast_nonneg _⟩,a⟩
  refine j7 ?_
  refine Bo rfl ?_
  rw[kg _ zo]
  refine gm ?_
  exact jn (i+1) rfl ⟨⟨by omega,xw5 (p:=fun x=>¬Q x) e d f⟩,a⟩ zf
 have j:¬∃r∈l,Q r:=fun⟨r,y,A⟩=>by
  obtain⟨k,s,rfl⟩:=List.mem_iff_getElem.1 y
  exact e k s zo A
 refine Bi (je rfl (gq (gu rfl rfl ?_)))
 exact⟨_,rfl,⟨fun h=>absurd h zd,fun h=>absurd h j⟩,a⟩
theorem zv8 (w:World) {p:Option Addr} {c G:Nat} {l:List jf} (hn:∀x∈l,(jf.cells x).length=33) (h:Sl w p l.length 33 (l.flatMap jf.cells)) (hl:l.length<1000000000) (Q:jf→Prop) [DecidablePred Q]
  (hcf:∀args w,(callFunc G args).run prog w= .ok (.enter G args) w) (hQ:∀w (r:jf),r.cells.length=33→gn prog G [.agg r.cells.toArray] w fun v w'=>v= .bool (decide (Q r))∧Ext No w w'):
  gn prog 225 [.slice p l.length c,.func (.func G) #[] #[]] w fun v w'=>v= .bool (decide (∃r∈l,Q r))∧Ext No w w':=by
 refine gx func225 ?_
 have a:=Ext.refl No w
 refine je rfl (qc rfl (gi call241 rfl (yw7 w hn (h.ga a) hl Q hcf hQ) fun f g b=> ?_))
 obtain⟨n,rfl,d,e⟩:=b
 have a:=a.gb e
 refine jz rfl (gq (gu rfl rfl ?_))
 exact⟨congrArg Value.bool (decide_eq_decide.2 d),a⟩
theorem checkEdit1_calls (w:World) (r:ud):
  gn prog 228 [.agg r.cells.toArray] w fun v w'=>v= .bool (decide (ChgBad r))∧Ext No w w':=by
 have hs:(uo r.text).size=r.text.length:=rfl
 refine gx func228 ?_
 have hX:=Ext.refl No w
 refine qa (gw rfl fun b1 w1 hn1 hb1 hE1=> ?_)
 have fr1:=Nat.le_trans hX.size hn1
 have hX:=hX.gb hE1
 have hb1:j0 w1 b1 150 (r.cells):=hb1
 refine jz rfl (jv (α:=Bool) [] rfl (fun z=>[(2,.bool z)]) (fun z u=>(z=decide (ChgBad r))∧Ext No w u) ?_ ?_)
 ·refine j4 ?_
  refine j9 gc rfl (jb hb1 rfl rfl (j9 gc rfl (jo 7 rfl (fun hg=> ?_) (fun hg=> ?_))))
  ·refine j2 gc 10 rfl ?_
   refine gm ?_
   exact gz (true) rfl ⟨by symm;rw[decide_eq_true_eq];exact .inl zo,hX⟩
  ·refine j2 gc 1 rfl ?_
   refine jb hb1 rfl rfl (j2 gc 2 rfl (vb 11 rfl (fun hg=> ?_) (fun hg=> ?_)))
   ·refine j2 gc 1 rfl ?_
    refine jb hb1 rfl rfl (j2 gc 4 rfl (gm ?_))
    exact gz (_) rfl ⟨by
 have hi:r.is=false:=by simpa using hg
 have e:(uo r.text≠ByteArray.mk #[])↔r.text≠[]:=by
  constructor
  ·intro h1 h2;exact h1 (by rw[h2];rfl)
  ·intro h1 h2;exact h1 (A6 h2)
 rw[decide_eq_decide]
 refine e.trans ⟨fun h=> .inr ⟨hi,h⟩,fun h=>h.elim (fun h=>absurd h zo) fun h=>h.2⟩,hX⟩
   ·refine j2 gc 6 rfl ?_
    refine gm ?_
    exact gz (false) rfl ⟨by symm;rw[decide_eq_false_iff_not];have hi:r.is=true:=(by simpa using hg);exact fun h=>h.elim (fun h=>absurd h zo) fun h=>absurd (hi.symm.trans h.1) zd,hX⟩
 rintro z w2 ⟨rfl,hX⟩
 refine gq (gu rfl rfl ?_)
 exact⟨rfl,hX⟩
theorem risingRow_calls (w:World) {p:Option Addr} {c G:Nat} {l:List Aq} (h:Sl w p l.length 2 (l.flatMap Aq.cells)) (hl:l.length<1000000000) (hlen:∀r∈l,r.path.length<1000000000)
  (hcf:∀args w,(callFunc G args).run prog w= .ok (.enter G args) w) (hQ:∀w (r:Aq),gn prog G [.agg r.cells.toArray] w fun v w'=>v=xn r.path∧Ext No w w'):
  gn prog 240 [.agg #[.slice p l.length c,.func (.func G) #[] #[]]] w fun v w'=>v= .bool (decide (yx8 (l.map Aq.path)))∧Ext No w w':=by
 refine gx func240 ?_
 have d:=Ext.refl No w
 refine qa (gw rfl fun Q w1 a0 a R=> ?_)
 have d:=d.gb R
 have a:j0 w1 Q 339 ([.slice p l.length c,.func (.func G) #[] #[]]):=a
 refine jz rfl (gk (qc rfl (jb a rfl rfl (jz rfl (jl rfl (fun q=> ?_) (fun q=> ?_))))))
 ·refine gk ?_
  refine j4 (jz rfl (gq (gp (gu rfl rfl ?_))))
  exact⟨congrArg Value.bool (by symm;rw[decide_eq_false_iff_not];intro h;have:=h.1;rw[List.length_map] at this;omega),d⟩
 have S:l.length≤32:=by omega
 refine xz (qc rfl (jb a rfl rfl (jz rfl (gr ?_))))
 refine jm (α:=Nat) [1,10,11] rfl (fun z=>[(12,.int .i64 (z:Int))]) (fun z u=>(z≤l.length∧∀k (A:k<l.length),k<z→z9 l[k].path∧(0<k→SLt (uo l[k-1].path) (uo l[k].path)))∧j0 u Q 339 ([.slice p l.length c,.func (.func G) #[] #[]])∧Ext No w u) (fun z u=>l.length-z) (0) rfl ⟨⟨Nat.zero_le _,fun k _ h=>absurd h (Nat.not_lt_zero _)⟩,a,d⟩ ?_
 rintro i w2 ⟨⟨P,B⟩,a,d⟩
 refine je rfl (gk (jl rfl (fun q=> ?_) (fun q=> ?_)))
 ·have P:i<l.length:=by omega
  obtain⟨b,s,rfl,f⟩:=h.qm (fun r _=>r.len) zo
  refine xz (gr (qc rfl (ki rfl 2 rfl i rfl zo (s+i*2) rfl (jr rfl ((f i P).ga d) rfl (gw rfl fun b4 w3 C t D=> ?_)))))
  have x:=j5 a.lt C
  have T:=Nat.le_trans d.size C
  have a:=a.ga D
  have d:=d.gb D
  refine j9 gc rfl (wl (j8 (l':=(l[i]).cells) gc t rfl rfl rfl rfl OneC.h fun w4 t E a1=> ?_))
  have a:=a.gj E x
  have d:=d.gh E T
  refine qr ?_
  refine jv (α:=Bool) [1,10,11,12] rfl (fun z=>[(42,.bool z)]) (fun z u=>(z=decide (¬(z9 l[i].path∧(0<i→SLt (uo l[i-1].path) (uo l[i].path)))))∧j0 u Q 339 ([.slice (some ⟨b,s,none⟩) l.length c,.func (.func G) #[] #[]])∧Ext No w u) ?_ ?_
  ·refine js rfl 26 [qP 0,qP 1,qP 2,(3,false),(4,false),qP 5,qP 6,qP 7,qP 8,qP 9,qP 10,qP 11,qP 12,qP 13,qP 14,qP 15,qP 16,qP 17,qP 19,qP 20,qP 21,(18,false),(22,false),qP 23,qP 24,qP 25] [] (No) zk fun Z y a2=> ?_
   have n:=a
   have F:=t
   have U:=d
   have a:=a.ga y
   have d:=d.gb y
   have m:Ext (No) _ Z:=y.no
   refine gv gc 1 rfl (j6 gc rfl rfl (fun w' e=>(n.ga e).cell rfl) ?_)
   refine qf gc rfl rfl (fun w' e=>(F.ga e).ko) rfl ?_
   refine jg rfl (j3 hcf rfl (hQ Z l[i]) fun v6 w6 H=>⟨(by obtain⟨rfl,g⟩:=H;exact m.gb g),?_⟩)
   obtain⟨rfl,g⟩:=H
   have a:=a.ga g
   have d:=d.gb g
   have m:=m.gb g
   refine jg rfl (j3 call243 rfl (path_calls w6 l[i].path (hlen _ (List.getElem_mem P))) fun v7 w7 I=>⟨(by obtain⟨rfl,rfl⟩:=I;exact m),?_⟩)
   obtain⟨rfl,rfl⟩:=I
   have m:=m
   refine gv gc 2 rfl (yw0 23 rfl (fun J=> ?_) (fun J=> ?_))
   ·have V:¬z9 l[i].path:=by simpa using J
    refine gv gc 19 rfl (jj (ja ?_))
    exact gz (true) rfl ⟨by symm;rw[decide_eq_true_eq];exact fun h=>V h.1,a,d⟩
   have K:z9 l[i].path:=by simpa using J
   refine gv gc 3 rfl (Ax 26 rfl (fun J=> ?_) (fun J=> ?_))
   ·refine gv gc 1 rfl ?_
    refine j6 gc rfl rfl (fun w' e=>(n.ga e).cell rfl) ?_
    refine gv gc 1 rfl (j6 gc rfl rfl (fun w' e=>(n.ga e).cell rfl) ?_)
    refine gv gc 2 rfl ?_
    rw[kg _ zo]
    refine qk gc rfl rfl 2 rfl (i-1) zo zo (s+(i-1)*2) rfl (qf gc rfl rfl (fun w' e=>((f (i-1) zo).ga (U.gb e))) rfl ?_)
    refine gv gc 1 rfl (j6 gc rfl rfl (fun w' e=>(n.ga e).cell rfl) ?_)
    refine qf gc rfl rfl (fun w' e=>(F.ga e).ko) rfl ?_
    refine jg rfl (j3 hcf rfl (hQ w7 _) fun v8 w8 L=>⟨(by obtain⟨rfl,j⟩:=L;exact m.gb j),?_⟩)
    obtain⟨rfl,j⟩:=L
    have a:=a.ga j
    have d:=d.gb j
    have m:=m.gb j
    refine jg rfl (j3 hcf rfl (hQ w8 _) fun v9 w9 M=>⟨(by obtain⟨rfl,o⟩:=M;exact m.gb o),?_⟩)
    obtain⟨rfl,o⟩:=M
    have a:=a.ga o
    have d:=d.gb o
    refine gv gc 3 rfl (jj (ja ?_))
    exact gz (_) rfl ⟨by rw[decide_eq_decide];exact⟨fun W X=>W (X.2 zo),fun W X=>W ⟨K,fun _=>X⟩⟩,a,d⟩
   refine gv gc 16 rfl ?_
   refine jj (ja ?_)
   exact gz (false) rfl ⟨by symm;rw[decide_eq_false_iff_not];exact fun h=>h ⟨K,fun h0=>absurd h0 zo⟩,a,d⟩
  rintro z a3 ⟨rfl,a,d⟩
  refine jl rfl (fun q=> ?_) (fun q=> ?_)
  ·refine gk ?_
   refine j4 (jz rfl (gq (ji (gp (gp (ji (gp (gu rfl rfl ?_))))))))
   exact⟨congrArg Value.bool (by symm;rw[decide_eq_false_iff_not];intro h;have:=h.2 i (by rw[List.length_map];exact P);exact q (by simpa using this)),d⟩
  have Y:=Decidable.not_not.1 q
  have N:∀k (A:k<l.length),k<i+1→z9 l[k].path∧(0<k→SLt (uo l[k-1].path) (uo l[k].path)):=fun k A a4=>by
   rcases Nat.lt_or_ge k i with h'|h'
   ·exact B k A h'
   obtain rfl:k=i:=by omega
   exact Y
  refine j7 (Bo rfl ?_)
  rw[kg _ zo]
  refine gm ?_
  exact jn (i+1) rfl ⟨⟨by omega,N⟩,a,d⟩ zf
 have O:yx8 (l.map Aq.path):=⟨by rw[List.length_map];exact S,fun k A=>by rw[List.length_map] at A;simpa using B k A zo⟩
 refine Bi (je rfl (gq (gu rfl rfl ?_)))
 exact⟨congrArg Value.bool (decide_eq_true O).symm,d⟩
theorem xj0 (w:World) {p:Option Addr} {c G:Nat} {l:List ud} (h:Sl w p l.length 3 (l.flatMap ud.cells)) (hl:l.length<1000000000) (hlen:∀r∈l,r.path.length<1000000000)
  (hcf:∀args w,(callFunc G args).run prog w= .ok (.enter G args) w) (hQ:∀w (r:ud),gn prog G [.agg r.cells.toArray] w fun v w'=>v=xn r.path∧Ext No w w'):
  gn prog 230 [.agg #[.slice p l.length c,.func (.func G) #[] #[]]] w fun v w'=>v= .bool (decide (yx8 (l.map ud.path)))∧Ext No w w':=by
 refine gx func230 ?_
 have d:=Ext.refl No w
 refine qa (gw rfl fun Q w1 a0 a R=> ?_)
 have d:=d.gb R
 have a:j0 w1 Q 329 ([.slice p l.length c,.func (.func G) #[] #[]]):=a
 refine jz rfl (gk (qc rfl (jb a rfl rfl (jz rfl (jl rfl (fun q=> ?_) (fun q=> ?_))))))
 ·refine gk ?_
  refine j4 (jz rfl (gq (gp (gu rfl rfl ?_))))
  exact⟨congrArg Value.bool (by symm;rw[decide_eq_false_iff_not];intro h;have:=h.1;rw[List.length_map] at this;omega),d⟩
 have S:l.length≤32:=by omega
 refine xz (qc rfl (jb a rfl rfl (jz rfl (gr ?_))))
 refine jm (α:=Nat) [1,10,11] rfl (fun z=>[(12,.int .i64 (z:Int))]) (fun z u=>(z≤l.length∧∀k (A:k<l.length),k<z→z9 l[k].path∧(0<k→SLt (uo l[k-1].path) (uo l[k].path)))∧j0 u Q 329 ([.slice p l.length c,.func (.func G) #[] #[]])∧Ext No w u) (fun z u=>l.length-z) (0) rfl ⟨⟨Nat.zero_le _,fun k _ h=>absurd h (Nat.not_lt_zero _)⟩,a,d⟩ ?_
 rintro i w2 ⟨⟨P,B⟩,a,d⟩
 refine je rfl (gk (jl rfl (fun q=> ?_) (fun q=> ?_)))
 ·have P:i<l.length:=by omega
  obtain⟨b,s,rfl,f⟩:=h.qm (fun r _=>r.len) zo
  refine xz (gr (qc rfl (ki rfl 3 rfl i rfl zo (s+i*3) rfl (jr rfl ((f i P).ga d) rfl (gw rfl fun b4 w3 C t D=> ?_)))))
  have x:=j5 a.lt C
  have T:=Nat.le_trans d.size C
  have a:=a.ga D
  have d:=d.gb D
  refine j9 gc rfl (wl (j8 (l':=(l[i]).cells) gc t rfl rfl rfl rfl OneC.h fun w4 t E a1=> ?_))
  have a:=a.gj E x
  have d:=d.gh E T
  refine qr ?_
  refine jv (α:=Bool) [1,10,11,12] rfl (fun z=>[(42,.bool z)]) (fun z u=>(z=decide (¬(z9 l[i].path∧(0<i→SLt (uo l[i-1].path) (uo l[i].path)))))∧j0 u Q 329 ([.slice (some ⟨b,s,none⟩) l.length c,.func (.func G) #[] #[]])∧Ext No w u) ?_ ?_
  ·refine js rfl 26 [qP 0,qP 1,qP 2,(3,false),(4,false),qP 5,qP 6,qP 7,qP 8,qP 9,qP 10,qP 11,qP 12,qP 13,qP 14,qP 15,qP 16,qP 17,qP 19,qP 20,qP 21,(18,false),(22,false),qP 23,qP 24,qP 25] [] (No) zk fun Z y a2=> ?_
   have n:=a
   have F:=t
   have U:=d
   have a:=a.ga y
   have d:=d.gb y
   have m:Ext (No) _ Z:=y.no
   refine gv gc 1 rfl (j6 gc rfl rfl (fun w' e=>(n.ga e).cell rfl) ?_)
   refine qf gc rfl rfl (fun w' e=>(F.ga e).ko) rfl ?_
   refine jg rfl (j3 hcf rfl (hQ Z l[i]) fun v6 w6 H=>⟨(by obtain⟨rfl,g⟩:=H;exact m.gb g),?_⟩)
   obtain⟨rfl,g⟩:=H
   have a:=a.ga g
   have d:=d.gb g
   have m:=m.gb g
   refine jg rfl (j3 call243 rfl (path_calls w6 l[i].path (hlen _ (List.getElem_mem P))) fun v7 w7 I=>⟨(by obtain⟨rfl,rfl⟩:=I;exact m),?_⟩)
   obtain⟨rfl,rfl⟩:=I
   have m:=m
   refine gv gc 2 rfl (yw0 23 rfl (fun J=> ?_) (fun J=> ?_))
   ·have V:¬z9 l[i].path:=by simpa using J
    refine gv gc 19 rfl (jj (ja ?_))
    exact gz (true) rfl ⟨by symm;rw[decide_eq_true_eq];exact fun h=>V h.1,a,d⟩
   have K:z9 l[i].path:=by simpa using J
   refine gv gc 3 rfl (Ax 26 rfl (fun J=> ?_) (fun J=> ?_))
   ·refine gv gc 1 rfl ?_
    refine j6 gc rfl rfl (fun w' e=>(n.ga e).cell rfl) ?_
    refine gv gc 1 rfl (j6 gc rfl rfl (fun w' e=>(n.ga e).cell rfl) ?_)
    refine gv gc 2 rfl ?_
    rw[kg _ zo]
    refine qk gc rfl rfl 3 rfl (i-1) zo zo (s+(i-1)*3) rfl (qf gc rfl rfl (fun w' e=>((f (i-1) zo).ga (U.gb e))) rfl ?_)
    refine gv gc 1 rfl (j6 gc rfl rfl (fun w' e=>(n.ga e).cell rfl) ?_)
    refine qf gc rfl rfl (fun w' e=>(F.ga e).ko) rfl ?_
    refine jg rfl (j3 hcf rfl (hQ w7 _) fun v8 w8 L=>⟨(by obtain⟨rfl,j⟩:=L;exact m.gb j),?_⟩)
    obtain⟨rfl,j⟩:=L
    have a:=a.ga j
    have d:=d.gb j
    have m:=m.gb j
    refine jg rfl (j3 hcf rfl (hQ w8 _) fun v9 w9 M=>⟨(by obtain⟨rfl,o⟩:=M;exact m.gb o),?_⟩)
    obtain⟨rfl,o⟩:=M
    have a:=a.ga o
    have d:=d.gb o
    refine gv gc 3 rfl (jj (ja ?_))
    exact gz (_) rfl ⟨by rw[decide_eq_decide];exact⟨fun W X=>W (X.2 zo),fun W X=>W ⟨K,fun _=>X⟩⟩,a,d⟩
   refine gv gc 16 rfl ?_
   refine jj (ja ?_)
   exact gz (false) rfl ⟨by symm;rw[decide_eq_false_iff_not];exact fun h=>h ⟨K,fun h0=>absurd h0 zo⟩,a,d⟩
  rintro z a3 ⟨rfl,a,d⟩
  refine jl rfl (fun q=> ?_) (fun q=> ?_)
  ·refine gk ?_
   refine j4 (jz rfl (gq (ji (gp (gp (ji (gp (gu rfl rfl ?_))))))))
   exact⟨congrArg Value.bool (by symm;rw[decide_eq_false_iff_not];intro h;have:=h.2 i (by rw[List.length_map];exact P);exact q (by simpa using this)),d⟩
  have Y:=Decidable.not_not.1 q
  have N:∀k (A:k<l.length),k<i+1→z9 l[k].path∧(0<k→SLt (uo l[k-1].path) (uo l[k].path)):=fun k A a4=>by
   rcases Nat.lt_or_ge k i with h'|h'
   ·exact B k A h'
   obtain rfl:k=i:=by omega
   exact Y
  refine j7 (Bo rfl ?_)
  rw[kg _ zo]
  refine gm ?_
  exact jn (i+1) rfl ⟨⟨by omega,N⟩,a,d⟩ zf
 have O:yx8 (l.map ud.path):=⟨by rw[List.length_map];exact S,fun k A=>by rw[List.length_map] at A;simpa using B k A zo⟩
 refine Bi (je rfl (gq (gu rfl rfl ?_)))
 exact⟨congrArg Value.bool (decide_eq_true O).symm,d⟩
theorem check_calls (w:World) {p:Option Addr} {c:Nat} {l:List Aq} (h:Sl w p l.length 2 (l.flatMap Aq.cells)) (hl:l.length<1000000000) (hlen:∀r∈l,r.path.length<1000000000):
  gn prog 224 [.agg #[.slice p l.length c]] w fun v w'=>v= .int .i64 (if xz2 l then 0 else 150)∧Ext No w w':=by
 refine gx func224 ?_
 have a:=Ext.refl No w
 refine qa (gw rfl fun q o s b e=> ?_)
 have a:=a.gb e
 have b:j0 o q 319 ([.slice p l.length c]):=b
 refine jz rfl (qc rfl (jb b rfl rfl ?_))
 refine gi call237 rfl (yx1 o (h.ga a) hl (fun r=>256<r.text.length) call238 fun w r _=>check1_calls w r) fun x t f=> ?_
 obtain⟨rfl,d⟩:=f
 have b:=b.ga d
 have a:=a.gb d
 refine jz rfl (gk (jv (α:=Bool) [] rfl (fun z=>[(14,.bool z)]) (fun z u=>(z=decide (¬xz2 l))∧Ext No w u) ?_ ?_))
 ·refine j4 ?_
  refine j9 gc rfl (jo 8 rfl (fun g=> ?_) (fun g=> ?_))
  ·refine j2 gc 6 rfl ?_
   refine gm ?_
   exact gz (true) rfl ⟨by symm;rw[decide_eq_true_eq];exact fun h=>h.1 g,a⟩
  refine j2 gc 1 rfl ?_
  refine jb b rfl rfl (qg rfl zb (l':=[.slice p l.length c,.func (.func 239) #[] #[]]) rfl ?_)
  refine gi call240 rfl (risingRow_calls t (h.ga a) hl hlen call239 rowPath_calls) fun y A i=> ?_
  obtain⟨rfl,j⟩:=i
  have a:=a.gb j
  refine j2 gc 2 rfl (gm ?_)
  exact gz (_) rfl ⟨by rw[←decide_not,decide_eq_decide];exact⟨fun k m=>k m.2,fun k m=>k ⟨g,m⟩⟩,a⟩
 rintro z B ⟨rfl,a⟩
 refine jl rfl (fun n=> ?_) (fun n=> ?_)
 ·refine gk ?_
  refine j4 (jz rfl (gq (gp (gu rfl rfl ?_))))
  exact⟨by rw[if_neg n],a⟩
 refine j7 ?_
 refine j1 (je rfl (gq (gu rfl rfl ?_)))
 exact⟨by rw[if_pos (Decidable.not_not.1 n)],a⟩
theorem checkEdit_calls (w:World) {p:Option Addr} {c:Nat} {l:List ud} (h:Sl w p l.length 3 (l.flatMap ud.cells)) (hl:l.length<1000000000) (hlen:∀r∈l,r.path.length<1000000000):
  gn prog 214 [.agg #[.slice p l.length c]] w fun v w'=>v= .int .i64 (if xz4 l then 0 else 151)∧Ext No w w':=by
 refine gx func214 ?_
 have a:=Ext.refl No w
 refine qa (gw rfl fun q o s b e=> ?_)
 have a:=a.gb e
 have b:j0 o q 34 ([.slice p l.length c]):=b
 refine jz rfl (qc rfl (jb b rfl rfl ?_))
 refine gi call227 rfl (zz0 o (h.ga a) hl ChgBad call228 fun w r _=>checkEdit1_calls w r) fun x t f=> ?_
 obtain⟨rfl,d⟩:=f
 have b:=b.ga d
 have a:=a.gb d
 refine jz rfl (gk (jv (α:=Bool) [] rfl (fun z=>[(14,.bool z)]) (fun z u=>(z=decide (¬xz4 l))∧Ext No w u) ?_ ?_))
 ·refine j4 ?_
  refine j9 gc rfl (jo 8 rfl (fun g=> ?_) (fun g=> ?_))
  ·refine j2 gc 6 rfl ?_
   refine gm ?_
   exact gz (true) rfl ⟨by symm;rw[decide_eq_true_eq];exact fun h=>h.1 g,a⟩
  refine j2 gc 1 rfl ?_
  refine jb b rfl rfl (qg rfl zb (l':=[.slice p l.length c,.func (.func 229) #[] #[]]) rfl ?_)
  refine gi call230 rfl (xj0 t (h.ga a) hl hlen call229 changePath_calls) fun y A i=> ?_
  obtain⟨rfl,j⟩:=i
  have a:=a.gb j
  refine j2 gc 2 rfl (gm ?_)
  exact gz (_) rfl ⟨by rw[←decide_not,decide_eq_decide];exact⟨fun k m=>k m.2,fun k m=>k ⟨g,m⟩⟩,a⟩
 rintro z B ⟨rfl,a⟩
 refine jl rfl (fun n=> ?_) (fun n=> ?_)
 ·refine gk ?_
  refine j4 (jz rfl (gq (gp (gu rfl rfl ?_))))
  exact⟨by rw[if_neg n],a⟩
 refine j7 ?_
 refine j1 (je rfl (gq (gu rfl rfl ?_)))
 exact⟨by rw[if_pos (Decidable.not_not.1 n)],a⟩
end Go.Proofs.YtpdiphfjmepijaaGreatDoor
