/-
  Walks and laws towards: which store a log of whatever bytes says (StoreSays)
-/
import Derived.IntWalk
import Derived.DeepKeys
import Derived.Test.YtpdiphfjmepijaaGreatDoorSyA
open List renaming getElem_map→bD,mem_iff_getElem→bF,mem_map→bL,getElem?_map→bZ,drop_eq_getElem_cons→cl,getElem?_append_right→cE,getElem?_append_left→cN,flatten_cons→cY,flatMap_cons→cZ,set_append_right→dA,map_cons→dD,length_nil→dF
open Int renaming toNat_natCast→bT,natCast_nonneg→cT
open Bool renaming and_eq_true→co
open Nat renaming add_mul→cJ
namespace Go.Vc
section
variable {P : Program} {I : u6} {f : Fs} {ops : Array Oper} {o : Oper} {env : Env} {w : World} {K : Env -> World -> Prop}
end
abbrev yf (b : UInt8) : Value := .int .u8 (b.toNat : Int)
def g6 (l : List UInt8) : List Value := l.map yf
theorem gb (l : List UInt8) : (g6 l).length = l.length := by simp [g6]
instance (l : List UInt8) : OneC (g6 l) := ⟨λu hu => by obtain ⟨x, _, rfl⟩ := bL.1 hu; rfl⟩
theorem qd (a b : List UInt8) : g6 (a ++ b) = g6 a ++ g6 b := by simp [g6]
theorem up (l : List UInt8) (n : Nat) : (g6 l).take n = g6 (l.take n) := by simp [g6]
theorem uo (l : List UInt8) (n : Nat) : (g6 l).drop n = g6 (l.drop n) := by simp [g6]
theorem bytesU_get (l : List UInt8) {i : Nat} (h : i < l.length) : (g6 l)[i]? = some (yf l[i]) := by simp [g6, h]
theorem bytesU_inj {a b:List UInt8} (h:g6 a=g6 b):a=b:=by
 refine(List.map_inj_right (f:=yf) λx y e=>?_).1 h;simp only[yf,Value.int.injEq,true_and] at e;exact UInt8.toNat_inj.1 zo
abbrev ux (w : World) (p : Option Addr) (l : List UInt8) : Prop := Sl w p l.length 1 (g6 l)
def be : Nat -> Nat -> List UInt8
  | 0, _ => []
  | n + 1, x => be n (x / 256) ++ [UInt8.ofNat x]
theorem jz (n x : Nat) : (be n x).length = n := by
  induction n generalizing x with
  | zero => rfl
  | succ n ih => simp [be, ih]
theorem yi (x : Nat) : IntKind.u8.wrap (x : Int) = ((UInt8.ofNat x).toNat : Int) := by
  rw [IntKind.wrap_u8, UInt8.toNat_ofNat']
  omega
theorem shr4 (x : Nat) : Int.fdiv (x : Int) (2 ^ 4) = ((x / 16 : Nat) : Int) := by
  rw [Int.fdiv_eq_ediv_of_nonneg _ zd]
  rfl
theorem fill_byte (l t:List UInt8) (k:Nat) (b:UInt8):(g6 (l++(List.replicate (k+1) 0++t))).set (l.length+k) (yf b)=g6 (l++(List.replicate k 0++(b::t))):=by
 rw[g6,<-List.map_set,dA _ _ zo,Nat.add_sub_cancel_left,List.replicate_succ',aU,dA _ _ zp];simp[g6]
theorem yz6 (n : Nat) : Cl n [Value.int .u8 0] = g6 (List.replicate n 0) := by
  rw [rep_one]
  simp [g6, yf]
def num (l : List UInt8) : Nat := l.foldl (λx b => x * 256 + b.toNat) 0
theorem num_snoc (l : List UInt8) (b : UInt8) : num (l ++ [b]) = num l * 256 + b.toNat := by simp [num]
theorem num_take (l:List UInt8) {i:Nat} (h:i<l.length):num (l.take (i+1))=num (l.take i)*256+(l[i]).toNat:=by
 rw[List.take_succ_eq_append_getElem h,num_snoc]
theorem ux.at {w:World} {p:Option Addr} {l:List UInt8} (h:ux w p l) {i:Nat} (hi:i<l.length):∃b off,p=some ⟨b,off,none⟩/\w.cell? ⟨b,off+i*1,none⟩=some (yf l[i]):=by
 obtain⟨_,d|⟨b,off,a,c⟩⟩:=h;omega;exact⟨b,off,a,by rw[aY];exact c i _ (bytesU_get l hi)⟩
theorem ug (l:List UInt8):num l<256^l.length:=by
 have:∀(l:List UInt8),num l<256^l.length:=by
  intro l;generalize hn:l.length=n;induction n generalizing l with
  |zero=>
   have:l=[]:=aT hn;subst this;simp[num]
  |succ n ih=>
   have a:l≠[]:=λe=>by subst e;simp at hn
   obtain⟨b,c⟩:∃b,l=l.dropLast++[b]:=⟨l.getLast a,(List.dropLast_concat_getLast a).symm⟩
   rw[c,num_snoc];have d:=ih l.dropLast (by simp[hn]);have f:=b.toNat_lt;rw[Nat.pow_succ];omega
 exact this l
theorem num_go (l:List UInt8) (x:Nat):l.foldl (λx b=>x*256+b.toNat) x=x*256^l.length+num l:=by
 induction l generalizing x with
 |nil=>simp[num]
 |cons b r ih=>
  have e:num (b::r)=(0*256+b.toNat)*256^r.length+num r:=ih _;rw[List.foldl_cons,ih,e,aR,Nat.pow_succ,cJ,cX,aX,Nat.add_assoc,Nat.mul_assoc,Nat.mul_comm 256]
theorem num_cons (b:UInt8) (l:List UInt8):num (b::l)=b.toNat*256^l.length+num l:=by
 have e:num (b::l)=(0*256+b.toNat)*256^l.length+num l:=num_go l _;rw[e,cX,aX]
theorem num_drop (l:List UInt8) {i:Nat} (h:i<l.length):num (l.drop i)=(l[i]).toNat*256^(l.length-(i+1))+num (l.drop (i+1)):=by
 rw[cl h,num_cons,aW]
end Go.Vc
namespace Go.Proofs.YtpdiphfjmepijaaGreatDoor
open Go.Proofs.Tryz
open Go.Vc
theorem lies16_calls (w:World) {p:Option Addr} {c:Nat} {l:List UInt8} (h:ux w p l) (hl:l.length<1000000000) (x n:Nat) (hn:n<100) (hx:x<2^16):
  ge prog 158 [.slice p l.length c,.int .u16 (x:Int),.int .i64 (n:Int)] w λv w'=>∃b,v= .slice (some ⟨b,0,none⟩) (l.length+n) (l.length+n)/\w.heap.size<=b/\gu w' b 5 (g6 (l++be n x))/\Ext No w w':=by
 refine gt func158 ?_;have d:=Ext.refl No w;refine jn Z (jy Z ?_);rw[jt _ zo];refine wl (zq8 g5 Z (l.length+n) (l.length+n) 1 Z Z Z zd zo zo (aA _) zo zq λf B m a o C=>?_);have g:=Nat.le_trans d.size m;have d:=d.g4 o;have a:gu B f 5 (g6 (List.replicate (l.length+n) 0)):=by(have e:Cl (l.length+n) (cellsOf ti5.zero)=g6 (List.replicate (l.length+n) 0):=yz6 _);rw[<-e];exact a
 refine k9 Z (jy Z (wl (zw0 g5 Z 1 Z a (Src.slice (h.g0 d) OneC.h) zn (by rw[gb,bM];dsimp only;omega) λD q r E=>?_)))
 have a:gu D f 5 (g6 (l++(List.replicate n 0++[]))):=by
  have e:Vc.put (g6 (List.replicate (l.length+n) 0)) 0 (g6 l)=g6 (l++(List.replicate n 0++[])):=by rw[put_eq _ _ _ (by simp[gb])];rw[uo];simp[qd,gb]
  rw[<-e];exact q
 have d:=d.g8 r g;refine k9 Z (gh (jn Z (j0 (ja (α:=Nat×Nat×List UInt8) [7,8] Z (λz=>[(1,.int .u16 (z.2.1:Int)),(9,.int .i64 ((l.length+z.1:Nat):Int))]) (λz u=>(z.1<=n/\z.2.1<2^16/\be n x=be z.1 z.2.1++z.2.2/\gu u f 5 (g6 (l++(List.replicate z.1 0++z.2.2))))/\Ext No w u) (λz u=>z.1) (n,x,[]) Z ⟨⟨aA _,hx,by simp,a⟩,d⟩ ?_))));rintro⟨j,y,t⟩ L ⟨⟨F,G,k,a⟩,d⟩;try dsimp only
 dsimp only at F G k a;refine gh (jn Z (jc Z (λH=>?_) (λH=>?_)));obtain⟨i,rfl⟩:∃i,j=i+1:=⟨j-1,by omega⟩
 refine vo (j0 (jy Z ?_));rw[jt _ zo];refine qi (jy Z ?_);rw[show(((l.length+(i+1):Nat):Int)-1)=((l.length+i:Nat):Int) from by omega];rw[yi];refine jo Z 1 Z (l.length+i) Z zo (0+(l.length+i)*1) Z (wl (uh g5 a Z Z (by rw[gb];simp;omega) λJ a s K=>?_));have d:=d.g8 s g;have a:gu J f 5 (g6 (l++(List.replicate i 0++(UInt8.ofNat y::t)))):=by rw[aX,aY,fill_byte] at a;exact a
 refine qi (jn Z (xt Z ?_));rw[show Int.fdiv (Int.fdiv (y:Int) (2^min (4:Int).toNat IntKind.u16.bits)) (2^min (4:Int).toNat IntKind.u16.bits)=((y/16/16:Nat):Int) from by rw[show(2:Int)^min (4:Int).toNat IntKind.u16.bits=2^4 from Z,shr4,shr4]];refine ga ?_;exact jm (j9 (i,y/16/16,UInt8.ofNat y::t) Z ⟨⟨by dsimp only;omega,by dsimp only;omega,by dsimp only;rw[k,be,Nat.div_div_eq_div_mul];simp,a⟩,d⟩ zf);have A:j=0:=by omega
 subst A;have k:be n x=t:=by rw[k];rfl
 rw[List.replicate_zero,bU,<-k] at a;refine zu (jn Z (j6 (gp Z Z ?_)));exact⟨f,Z,g,a,d⟩
theorem D9 (w:World) {p:Option Addr} {c:Nat} {l:List UInt8} (h:ux w p l) (hl:l.length<1000000000) (x:Nat) (hx:x<2^16):
  ge prog 91 [.slice p l.length c,.int .u16 (x:Int)] w λv w'=>∃b,v= .slice (some ⟨b,0,none⟩) (l++be 2 x).length (l++be 2 x).length/\w.heap.size<=b/\gu w' b 5 (g6 (l++be 2 x))/\Ext No w w':=by
 refine gt func91 ?_;have a:=Ext.refl No w;refine jn Z (jy Z ?_);have d:=a;refine g7 call158 Z (lies16_calls w (h.g0 a) hl x 2 zd hx) ?_;rintro j k⟨b,rfl,g,i,f⟩;have a:=a.g4 f;refine vl Z (gp Z Z ?_);exact⟨b,by simp[jz],Nat.le_trans d.size g,i,a⟩
theorem lies32_calls (w:World) {p:Option Addr} {c:Nat} {l:List UInt8} (h:ux w p l) (hl:l.length<1000000000) (x n:Nat) (hn:n<100) (hx:x<2^32):
  ge prog 206 [.slice p l.length c,.int .u32 (x:Int),.int .i64 (n:Int)] w λv w'=>∃b,v= .slice (some ⟨b,0,none⟩) (l.length+n) (l.length+n)/\w.heap.size<=b/\gu w' b 5 (g6 (l++be n x))/\Ext No w w':=by
 refine gt func206 ?_;have d:=Ext.refl No w;refine jn Z (jy Z ?_);rw[jt _ zo];refine wl (zq8 g5 Z (l.length+n) (l.length+n) 1 Z Z Z zd zo zo (aA _) zo zq λf B m a o C=>?_);have g:=Nat.le_trans d.size m;have d:=d.g4 o;have a:gu B f 5 (g6 (List.replicate (l.length+n) 0)):=by(have e:Cl (l.length+n) (cellsOf ti5.zero)=g6 (List.replicate (l.length+n) 0):=yz6 _);rw[<-e];exact a
 refine k9 Z (jy Z (wl (zw0 g5 Z 1 Z a (Src.slice (h.g0 d) OneC.h) zn (by rw[gb,bM];dsimp only;omega) λD q r E=>?_)))
 have a:gu D f 5 (g6 (l++(List.replicate n 0++[]))):=by
  have e:Vc.put (g6 (List.replicate (l.length+n) 0)) 0 (g6 l)=g6 (l++(List.replicate n 0++[])):=by rw[put_eq _ _ _ (by simp[gb])];rw[uo];simp[qd,gb]
  rw[<-e];exact q
 have d:=d.g8 r g;refine k9 Z (gh (jn Z (j0 (ja (α:=Nat×Nat×List UInt8) [7,8] Z (λz=>[(1,.int .u32 (z.2.1:Int)),(9,.int .i64 ((l.length+z.1:Nat):Int))]) (λz u=>(z.1<=n/\z.2.1<2^32/\be n x=be z.1 z.2.1++z.2.2/\gu u f 5 (g6 (l++(List.replicate z.1 0++z.2.2))))/\Ext No w u) (λz u=>z.1) (n,x,[]) Z ⟨⟨aA _,hx,by simp,a⟩,d⟩ ?_))));rintro⟨j,y,t⟩ L ⟨⟨F,G,k,a⟩,d⟩;try dsimp only
 dsimp only at F G k a;refine gh (jn Z (jc Z (λH=>?_) (λH=>?_)));obtain⟨i,rfl⟩:∃i,j=i+1:=⟨j-1,by omega⟩
 refine vo (j0 (jy Z ?_));rw[jt _ zo];refine qi (jy Z ?_);rw[show(((l.length+(i+1):Nat):Int)-1)=((l.length+i:Nat):Int) from by omega];rw[yi];refine jo Z 1 Z (l.length+i) Z zo (0+(l.length+i)*1) Z (wl (uh g5 a Z Z (by rw[gb];simp;omega) λJ a s K=>?_));have d:=d.g8 s g;have a:gu J f 5 (g6 (l++(List.replicate i 0++(UInt8.ofNat y::t)))):=by rw[aX,aY,fill_byte] at a;exact a
 refine qi (jn Z (xt Z ?_));rw[show Int.fdiv (Int.fdiv (y:Int) (2^min (4:Int).toNat IntKind.u32.bits)) (2^min (4:Int).toNat IntKind.u32.bits)=((y/16/16:Nat):Int) from by rw[show(2:Int)^min (4:Int).toNat IntKind.u32.bits=2^4 from Z,shr4,shr4]];refine ga ?_;exact jm (j9 (i,y/16/16,UInt8.ofNat y::t) Z ⟨⟨by dsimp only;omega,by dsimp only;omega,by dsimp only;rw[k,be,Nat.div_div_eq_div_mul];simp,a⟩,d⟩ zf);have A:j=0:=by omega
 subst A;have k:be n x=t:=by rw[k];rfl
 rw[List.replicate_zero,bU,<-k] at a;refine zu (jn Z (j6 (gp Z Z ?_)));exact⟨f,Z,g,a,d⟩
theorem A7 (w:World) {p:Option Addr} {c:Nat} {l:List UInt8} (h:ux w p l) (hl:l.length<1000000000) (x:Nat) (hx:x<2^32):
  ge prog 179 [.slice p l.length c,.int .u32 (x:Int)] w λv w'=>∃b,v= .slice (some ⟨b,0,none⟩) (l++be 4 x).length (l++be 4 x).length/\w.heap.size<=b/\gu w' b 5 (g6 (l++be 4 x))/\Ext No w w':=by
 refine gt func179 ?_;have a:=Ext.refl No w;refine jn Z (jy Z ?_);have d:=a;refine g7 call206 Z (lies32_calls w (h.g0 a) hl x 4 zd hx) ?_;rintro j k⟨b,rfl,g,i,f⟩;have a:=a.g4 f;refine vl Z (gp Z Z ?_);exact⟨b,by simp[jz],Nat.le_trans d.size g,i,a⟩
theorem lies64_calls (w:World) {p:Option Addr} {c:Nat} {l:List UInt8} (h:ux w p l) (hl:l.length<1000000000) (x n:Nat) (hn:n<100) (hx:x<2^64):
  ge prog 233 [.slice p l.length c,.int .u64 (x:Int),.int .i64 (n:Int)] w λv w'=>∃b,v= .slice (some ⟨b,0,none⟩) (l.length+n) (l.length+n)/\w.heap.size<=b/\gu w' b 5 (g6 (l++be n x))/\Ext No w w':=by
 refine gt func233 ?_;have d:=Ext.refl No w;refine jn Z (jy Z ?_);rw[jt _ zo];refine wl (zq8 g5 Z (l.length+n) (l.length+n) 1 Z Z Z zd zo zo (aA _) zo zq λf B m a o C=>?_);have g:=Nat.le_trans d.size m;have d:=d.g4 o;have a:gu B f 5 (g6 (List.replicate (l.length+n) 0)):=by(have e:Cl (l.length+n) (cellsOf ti5.zero)=g6 (List.replicate (l.length+n) 0):=yz6 _);rw[<-e];exact a
 refine k9 Z (jy Z (wl (zw0 g5 Z 1 Z a (Src.slice (h.g0 d) OneC.h) zn (by rw[gb,bM];dsimp only;omega) λD q r E=>?_)))
 have a:gu D f 5 (g6 (l++(List.replicate n 0++[]))):=by
  have e:Vc.put (g6 (List.replicate (l.length+n) 0)) 0 (g6 l)=g6 (l++(List.replicate n 0++[])):=by rw[put_eq _ _ _ (by simp[gb])];rw[uo];simp[qd,gb]
  rw[<-e];exact q
 have d:=d.g8 r g;refine k9 Z (gh (jn Z (j0 (ja (α:=Nat×Nat×List UInt8) [7,8] Z (λz=>[(1,.int .u64 (z.2.1:Int)),(9,.int .i64 ((l.length+z.1:Nat):Int))]) (λz u=>(z.1<=n/\z.2.1<2^64/\be n x=be z.1 z.2.1++z.2.2/\gu u f 5 (g6 (l++(List.replicate z.1 0++z.2.2))))/\Ext No w u) (λz u=>z.1) (n,x,[]) Z ⟨⟨aA _,hx,by simp,a⟩,d⟩ ?_))));rintro⟨j,y,t⟩ L ⟨⟨F,G,k,a⟩,d⟩;try dsimp only
 dsimp only at F G k a;refine gh (jn Z (jc Z (λH=>?_) (λH=>?_)));obtain⟨i,rfl⟩:∃i,j=i+1:=⟨j-1,by omega⟩
 refine vo (j0 (jy Z ?_));rw[jt _ zo];refine qi (jy Z ?_);rw[show(((l.length+(i+1):Nat):Int)-1)=((l.length+i:Nat):Int) from by omega];rw[yi];refine jo Z 1 Z (l.length+i) Z zo (0+(l.length+i)*1) Z (wl (uh g5 a Z Z (by rw[gb];simp;omega) λJ a s K=>?_));have d:=d.g8 s g;have a:gu J f 5 (g6 (l++(List.replicate i 0++(UInt8.ofNat y::t)))):=by rw[aX,aY,fill_byte] at a;exact a
 refine qi (jn Z (xt Z ?_));rw[show Int.fdiv (Int.fdiv (y:Int) (2^min (4:Int).toNat IntKind.u64.bits)) (2^min (4:Int).toNat IntKind.u64.bits)=((y/16/16:Nat):Int) from by rw[show(2:Int)^min (4:Int).toNat IntKind.u64.bits=2^4 from Z,shr4,shr4]];refine ga ?_;exact jm (j9 (i,y/16/16,UInt8.ofNat y::t) Z ⟨⟨by dsimp only;omega,by dsimp only;omega,by dsimp only;rw[k,be,Nat.div_div_eq_div_mul];simp,a⟩,d⟩ zf);have A:j=0:=by omega
 subst A;have k:be n x=t:=by rw[k];rfl
 rw[List.replicate_zero,bU,<-k] at a;refine zu (jn Z (j6 (gp Z Z ?_)));exact⟨f,Z,g,a,d⟩
theorem put64_calls (w:World) {p:Option Addr} {c:Nat} {l:List UInt8} (h:ux w p l) (hl:l.length<1000000000) (x:Nat) (hx:x<2^64):
  ge prog 222 [.slice p l.length c,.int .u64 (x:Int)] w λv w'=>∃b,v= .slice (some ⟨b,0,none⟩) (l++be 8 x).length (l++be 8 x).length/\w.heap.size<=b/\gu w' b 5 (g6 (l++be 8 x))/\Ext No w w':=by
 refine gt func222 ?_;have a:=Ext.refl No w;refine jn Z (jy Z ?_);have d:=a;refine g7 call233 Z (lies64_calls w (h.g0 a) hl x 8 zd hx) ?_;rintro j k⟨b,rfl,g,i,f⟩;have a:=a.g4 f;refine vl Z (gp Z Z ?_);exact⟨b,by simp[jz],Nat.le_trans d.size g,i,a⟩
def TyU (w : World) (p : Option Addr) : Prop := ∀ a, p = some a -> ∃ L, gu w a.block 5 L
theorem TyU.ext {S:Nat->Prop} {w w':World} {p:Option Addr} (h:TyU w p) (hE:Ext S w w') (hS:∀b L,gu w b 5 L->¬S b):TyU w' p:=λa d=>by
 obtain⟨L,c⟩:=h a d
 exact⟨L,c.ext hE (hS _ L c)⟩
theorem TyU.nil (w : World) : TyU w none := λ_ h => by cases h
theorem TyU.of {w:World} {b:Nat} {L:List Value} (h:gu w b 5 L) (o:Nat) (e:Option Nat):TyU w (some ⟨b,o,e⟩):=λa ha=>by cases ha;exact⟨L,h⟩
theorem TyU.sub {w:World} {p:Option Addr} (h:TyU w p) (l m sz:Nat):TyU w (ub p l m sz):=λa b=>by
 unfold ub at b
 split at b
 ·exact h a b
 cases p with
 |none=>cases b
 |some a0=>
  have c:=h a0 Z
  simp only[Option.map_some,bI,Addr.add] at b
  subst b
  obtain⟨L,d⟩:=c
  refine⟨L,?_⟩
  split<;>exact d
theorem ux.ku {S:Nat->Prop} {w w':World} {p:Option Addr} {l:List UInt8} (h:ux w p l) (ht:TyU w p) (hE:Ext S w w') (hS:∀b L,gu w b 5 L->¬S b):ux w' p l:=
 h.ext hE λb a c=>by obtain⟨L,d⟩:=ht _ c;exact hS b L d
def Rd (w : World) (rb : Nat) (l : List UInt8) (e : Int) : Prop :=
  ∃ p c, gu w rb 264 [.slice p l.length c, .int .i64 e] /\ l.length <= c /\ ux w p l /\ TyU w p
theorem Rd.ext {S:Nat->Prop} {w w':World} {rb:Nat} {l:List UInt8} {e:Int} (h:Rd w rb l e) (hE:Ext S w w') (h1:¬S rb) (h2:∀b L,gu w b 5 L->¬S b):Rd w' rb l e:=by
 obtain⟨p,c,d,f,g,a⟩:=h;exact⟨p,c,d.ext hE h1,f,ux.ku g a hE h2,a.ext hE h2⟩
theorem Rd.g0 {w w' : World} {rb : Nat} {l : List UInt8} {e : Int} (h : Rd w rb l e) (hE : Ext No w w') : Rd w' rb l e := h.ext hE id λ_ _ _ => id
theorem Rd.lt {w : World} {rb : Nat} {l : List UInt8} {e : Int} (h : Rd w rb l e) : rb < w.heap.size := by obtain ⟨_, _, hb, _⟩ := h; exact hb.lt
theorem Rd.ne {w:World} {rb:Nat} {l:List UInt8} {e:Int} (h:Rd w rb l e) {b T:Nat} {L:List Value} (hb:gu w b T L) (hT:264≠T):rb≠b:=by obtain⟨_,_,h,_⟩:=h;exact h.ne hb hT
def vz (l : List UInt8) (e n : Int) : List UInt8 × List UInt8 × Int :=
  if e ≠ 0 then ([], l, e) else if n < 0 then ([], l, 2) else if (l.length : Int) < n then ([], l, 7) else (l.take n.toNat, l.drop n.toNat, 0)
theorem offR_len (l:List UInt8) (e n:Int):(vz l e n).1.length<=n.toNat/\(vz l e n).2.1.length<=l.length/\(vz l e n).1.length<=l.length:=by
 unfold vz;repeat' split
 all_goals simp
 all_goals omega
theorem zz0 (w:World) {p:Option Addr} {c:Nat} {l:List UInt8} (h:ux w p l) (hl:l.length<1000000000):
  ge prog 101 [.slice p l.length c] w λv w'=>∃rb,v= .pointer (some ⟨rb,0,none⟩)/\w.heap.size<=rb/\Rd w' rb l 0/\Ext No w w':=by
 refine gt func101 ?_;have d:=Ext.refl No w;refine jn Z (jy Z (wl (zq8 g5 Z l.length l.length 1 Z Z Z zd Z Z (aA _) zo zq λf s m a n t=>?_)));have o:=Nat.le_trans d.size m;have d:=d.g4 n;have a:gu s f 5 (g6 (List.replicate l.length 0)):=by(have e:Cl l.length (cellsOf ti5.zero)=g6 (List.replicate l.length 0):=yz6 _);rw[<-e];exact a
 refine k9 Z (jy Z (wl (zw0 g5 Z 1 Z a (Src.slice (h.g0 d) OneC.h) (aA _) (by rw[gb,bM];dsimp only;omega) λu q r x=>?_)));have a:gu u f 5 (g6 l):=by have e:Vc.put (g6 (List.replicate l.length 0)) 0 (g6 l)=g6 l:=Ba (by simp[gb]);rw[<-e];exact q
 have d:=d.g8 r o;refine qi (jy Z (jv Z ⟨⟨Z,by decide⟩,trivial⟩ (l':=[.slice (some ⟨f,0,none⟩) l.length l.length,.int .i64 0]) Z (jv Z ⟨⟨Z,by decide⟩,trivial⟩ (l':=[.slice (some ⟨f,0,none⟩) l.length l.length,.int .i64 0]) Z (gn Z λg y i b j=>?_))));have k:=Nat.le_trans d.size i;have d:=d.g4 j;have b:gu y g 264 ([.slice (some ⟨f,0,none⟩) l.length l.length,.int .i64 0]):=b;have a:=a.g0 j;refine vl Z (gp Z Z ?_);exact⟨g,Z,k,⟨_,_,b,aA _,⟨by simp[gb],.inr ⟨f,0,Z,a.kc⟩⟩,TyU.of a _ _⟩,d⟩
theorem xv0 (w:World) {rb:Nat} {l:List UInt8} {e:Int} (h:Rd w rb l e) (hl:l.length<1000000000) (n:Int):
  ge prog 162 [.pointer (some ⟨rb,0,none⟩),.int .i64 n] w λv w'=>∃q c',v= .slice q (vz l e n).1.length c'/\ux w' q (vz l e n).1/\TyU w' q/\Rd w' rb (vz l e n).2.1 (vz l e n).2.2/\Ext (One rb) w w':=by
 have P:=h;obtain⟨p,c,a,g,E,r⟩:=h;have d:∀(F:World) (b:Nat) (L:List Value),gu w b 5 L->¬One rb b:=λ_ b L Q e=>Q.ne a zd e;refine gt func162 (uz Z (jb (α:=Bool) [0,1] Z (λz=>[(15,.bool z)]) (λz u=>u=w/\z=decide (e≠0)) ?_ ?_));refine gr (gv g5 Z (qy 8 Z (λN=>?_) (λN=>?_)));cases N;refine gm g5 4 Z (gj Z (a.cell Z) (gm g5 2 Z (ga ?_)));exact gk (_) Z ⟨Z,Z⟩;rintro z U ⟨H,rfl⟩;have H:=H.symm;subst H;refine jc Z (λi=>?_) (λi=>?_);have s:vz l e n=([],l,e):=aM i;rw[s];refine jn Z (j6 (j2 (gp Z Z ?_)));exact⟨none,0,Z,Sl.nil _ _ _,TyU.nil _,P,Ext.refl _ _⟩
 have G:e=0:=aN.1 i;refine vo (gh (jn Z (jc Z (λi=>?_) (λi=>?_))));have s:vz l e n=([],l,2):=by rw[vz,aJ (by simpa using G),aM i]
 rw[s];refine jy Z (ka a Z Z Z λF f t j=>?_);have k:=t;have a:=f;have C:Rd F rb l 2:=⟨p,c,a,g,ux.ku E r t (d F),r.ext t (d F)⟩
 refine qi (jn Z (j6 (j2 (gp Z Z ?_))));exact⟨none,0,Z,Sl.nil _ _ _,TyU.nil _,C,k⟩
 have D:¬n<0:=i;refine vo (gh (jy Z (gj Z (a.cell Z) (k9 Z (jc Z (λi=>?_) (λi=>?_))))));have s:vz l e n=([],l,7):=by rw[vz,aJ (by simpa using G),aJ D,aM i]
 rw[s];refine jy Z (ka a Z Z Z λJ f x R=>?_);have k:=x;have a:=f;have C:Rd J rb l 7:=⟨p,c,a,g,ux.ku E r x (d J),r.ext x (d J)⟩
 refine qi (jn Z (j6 (j2 (gp Z Z ?_))));exact⟨none,0,Z,Sl.nil _ _ _,TyU.nil _,C,k⟩
 have s:vz l e n=(l.take n.toNat,l.drop n.toNat,0):=by rw[vz,aJ (by simpa using G),aJ D,aJ i]
 rw[s];have y:n=(n.toNat:Int):=by omega
 have A:n.toNat<=l.length:=by omega
 refine vo (jy Z (gj Z (a.cell Z) (gv g5 Z (wl (Ay g5 Z 0 n.toNat n.toNat 1 Z (.inl ⟨congrArg some y,Z⟩) (.inl (congrArg some y)) (.inr ⟨Z,Z⟩) (aF _) (aA _) zn ?_)))));dsimp only;rw[qa,bH];refine k9 Z (jy Z (gj Z (a.cell Z) (gv g5 Z (wl (Ay g5 Z n.toNat l.length c 1 Z (.inr ⟨Z,Z⟩) (.inr ⟨Z,Z⟩) (.inl (congrArg some y)) A g (aA _) ?_)))));dsimp only;refine gv g5 Z (ka a Z Z Z λB f m S=>?_);have k:=m;have o:=E.slice 0 n.toNat n.toNat (aF _) (aA _) A;have j:=E.slice n.toNat l.length c A g (aA _);rw[qa,bH,cX,List.drop_zero,aY,up] at o;rw[aY,aY,uo,up,aL zp] at j;have O:(l.take n.toNat).length=n.toNat:=by rw[aK];omega
 have K:(l.drop n.toNat).length=l.length-n.toNat:=by simp
 have o:ux w p (l.take n.toNat):=by rw[ux,O];exact o
 have j:ux w (ub p n.toNat c 1) (l.drop n.toNat):=by rw[ux,K];exact j
 have a:gu B rb 264 [.slice (ub p n.toNat c 1) (l.drop n.toNat).length (c-n.toNat),.int .i64 0]:=by rw[K,<-G];exact f
 have C:Rd B rb (l.drop n.toNat) 0:=⟨_,_,a,by rw[K];omega,ux.ku j (r.sub _ _ _) m (d B),(r.sub _ _ _).ext m (d B)⟩
 have T:=ux.ku o r m (d B);have M:=r.ext m (d B);refine qi (jn Z (j6 (gp Z Z ?_)));exact⟨p,n.toNat,by rw[O],T,M,C,k⟩
theorem next8_calls (w:World) {rb:Nat} {l:List UInt8} {e:Int} (h:Rd w rb l e) (hl:l.length<1000000000) (n:Nat) (hn:256^n<=2^8):
  ge prog 173 [.pointer (some ⟨rb,0,none⟩),.int .i64 (n:Int)] w λv w'=>v= .int .u8 ((num (vz l e n).1:Nat):Int)/\Rd w' rb (vz l e n).2.1 (vz l e n).2.2/\Ext (One rb) w w':=by
 refine gt func173 ?_;have d:=Ext.refl (One rb) w;refine uz Z (jy Z (g7 call162 Z (xv0 w h hl (n:Int)) ?_));rintro G H⟨q,c,rfl,f,t,g,m⟩;have d:=d.then m;obtain⟨o,x,p⟩:=offR_len l e n;obtain⟨s,y⟩:∃s,s=(vz l e n).1:=⟨_,Z⟩
 rw[<-y] at f o p|-;refine k9 Z (j0 (ja (α:=Nat) [9,10] Z (λz=>[(4,.int .u8 ((num (s.take z):Nat):Int)),(11,.int .i64 (z:Int))]) (λz u=>(z<=s.length/\ux u q s/\Rd u rb (vz l e n).2.1 (vz l e n).2.2)/\Ext (One rb) w u) (λz u=>s.length-z) (0) Z ⟨⟨aF _,f,g⟩,d⟩ ?_));rintro i J ⟨⟨j,f,g⟩,d⟩;try dsimp only
 refine uz Z (jc Z (λA=>?_) (λA=>?_));have j:i<s.length:=by omega
 obtain⟨b,r,rfl,a⟩:=f.at j;have B:=num_take s j;have C:=ug (s.take (i+1));have D:256^(s.take (i+1)).length<=2^8:=Nat.le_trans (cK zd zj) hn;have E:=(s[i]).toNat_lt;have F:IntKind.u8.wrap (IntKind.u8.wrap (IntKind.u8.wrap (((num (s.take i):Nat):Int)*2^min (4:Int).toNat IntKind.u8.bits)*2^min (4:Int).toNat IntKind.u8.bits)+((s[i]).toNat:Int))=((num (s.take (i+1)):Nat):Int):=by rw[show(2:Int)^min (4:Int).toNat IntKind.u8.bits=16 from Z,IntWalk.u8_in (((num (s.take i):Nat):Int)*16) zo,IntWalk.u8_in (((num (s.take i):Nat):Int)*16*16) zo,IntWalk.u8_in _ zo];omega
 refine yz (ki (jo Z 1 Z i Z zo (r+i*1) Z (gj Z a (k9 Z (uz Z (gr (k9 Z (xt Z ?_))))))));rw[F];refine ga (yt Z ?_);rw[jt _ zo];refine ga ?_;exact j9 (i+1) Z ⟨⟨j,f,g⟩,d⟩ zf;have e:s.take i=s:=aL zo;rw[e];refine zu (jn Z (j6 (gp Z Z ?_)));exact⟨Z,g,d⟩
theorem next16_calls (w:World) {rb:Nat} {l:List UInt8} {e:Int} (h:Rd w rb l e) (hl:l.length<1000000000) (n:Nat) (hn:256^n<=2^16):
  ge prog 163 [.pointer (some ⟨rb,0,none⟩),.int .i64 (n:Int)] w λv w'=>v= .int .u16 ((num (vz l e n).1:Nat):Int)/\Rd w' rb (vz l e n).2.1 (vz l e n).2.2/\Ext (One rb) w w':=by
 refine gt func163 ?_;have d:=Ext.refl (One rb) w;refine uz Z (jy Z (g7 call162 Z (xv0 w h hl (n:Int)) ?_));rintro G H⟨q,c,rfl,f,t,g,m⟩;have d:=d.then m;obtain⟨o,x,p⟩:=offR_len l e n;obtain⟨s,y⟩:∃s,s=(vz l e n).1:=⟨_,Z⟩
 rw[<-y] at f o p|-;refine k9 Z (j0 (ja (α:=Nat) [9,10] Z (λz=>[(4,.int .u16 ((num (s.take z):Nat):Int)),(11,.int .i64 (z:Int))]) (λz u=>(z<=s.length/\ux u q s/\Rd u rb (vz l e n).2.1 (vz l e n).2.2)/\Ext (One rb) w u) (λz u=>s.length-z) (0) Z ⟨⟨aF _,f,g⟩,d⟩ ?_));rintro i J ⟨⟨j,f,g⟩,d⟩;try dsimp only
 refine uz Z (jc Z (λA=>?_) (λA=>?_));have j:i<s.length:=by omega
 obtain⟨b,r,rfl,a⟩:=f.at j;have B:=num_take s j;have C:=ug (s.take (i+1));have D:256^(s.take (i+1)).length<=2^16:=Nat.le_trans (cK zd zj) hn;have E:=(s[i]).toNat_lt;have F:IntKind.u16.wrap (IntKind.u16.wrap (IntKind.u16.wrap (((num (s.take i):Nat):Int)*2^min (4:Int).toNat IntKind.u16.bits)*2^min (4:Int).toNat IntKind.u16.bits)+IntKind.u16.wrap ((s[i]).toNat:Int))=((num (s.take (i+1)):Nat):Int):=by rw[show(2:Int)^min (4:Int).toNat IntKind.u16.bits=16 from Z,IntWalk.u16_in ((s[i]).toNat:Int) zo,IntWalk.u16_in (((num (s.take i):Nat):Int)*16) zo,IntWalk.u16_in (((num (s.take i):Nat):Int)*16*16) zo,IntWalk.u16_in _ zo];omega
 refine yz (ki (jo Z 1 Z i Z zo (r+i*1) Z (gj Z a (k9 Z (uz Z (gr (k9 Z (xt Z ?_))))))));rw[F];refine ga (yt Z ?_);rw[jt _ zo];refine ga ?_;exact j9 (i+1) Z ⟨⟨j,f,g⟩,d⟩ zf;have e:s.take i=s:=aL zo;rw[e];refine zu (jn Z (j6 (gp Z Z ?_)));exact⟨Z,g,d⟩
theorem next32_calls (w:World) {rb:Nat} {l:List UInt8} {e:Int} (h:Rd w rb l e) (hl:l.length<1000000000) (n:Nat) (hn:256^n<=2^32):
  ge prog 202 [.pointer (some ⟨rb,0,none⟩),.int .i64 (n:Int)] w λv w'=>v= .int .u32 ((num (vz l e n).1:Nat):Int)/\Rd w' rb (vz l e n).2.1 (vz l e n).2.2/\Ext (One rb) w w':=by
 refine gt func202 ?_;have d:=Ext.refl (One rb) w;refine uz Z (jy Z (g7 call162 Z (xv0 w h hl (n:Int)) ?_));rintro G H⟨q,c,rfl,f,t,g,m⟩;have d:=d.then m;obtain⟨o,x,p⟩:=offR_len l e n;obtain⟨s,y⟩:∃s,s=(vz l e n).1:=⟨_,Z⟩
 rw[<-y] at f o p|-;refine k9 Z (j0 (ja (α:=Nat) [9,10] Z (λz=>[(4,.int .u32 ((num (s.take z):Nat):Int)),(11,.int .i64 (z:Int))]) (λz u=>(z<=s.length/\ux u q s/\Rd u rb (vz l e n).2.1 (vz l e n).2.2)/\Ext (One rb) w u) (λz u=>s.length-z) (0) Z ⟨⟨aF _,f,g⟩,d⟩ ?_));rintro i J ⟨⟨j,f,g⟩,d⟩;try dsimp only
 refine uz Z (jc Z (λA=>?_) (λA=>?_));have j:i<s.length:=by omega
 obtain⟨b,r,rfl,a⟩:=f.at j;have B:=num_take s j;have C:=ug (s.take (i+1));have D:256^(s.take (i+1)).length<=2^32:=Nat.le_trans (cK zd zj) hn;have E:=(s[i]).toNat_lt;have F:IntKind.u32.wrap (IntKind.u32.wrap (IntKind.u32.wrap (((num (s.take i):Nat):Int)*2^min (4:Int).toNat IntKind.u32.bits)*2^min (4:Int).toNat IntKind.u32.bits)+IntKind.u32.wrap ((s[i]).toNat:Int))=((num (s.take (i+1)):Nat):Int):=by rw[show(2:Int)^min (4:Int).toNat IntKind.u32.bits=16 from Z,IntWalk.u32_in ((s[i]).toNat:Int) zo,IntWalk.u32_in (((num (s.take i):Nat):Int)*16) zo,IntWalk.u32_in (((num (s.take i):Nat):Int)*16*16) zo,IntWalk.u32_in _ zo];omega
 refine yz (ki (jo Z 1 Z i Z zo (r+i*1) Z (gj Z a (k9 Z (uz Z (gr (k9 Z (xt Z ?_))))))));rw[F];refine ga (yt Z ?_);rw[jt _ zo];refine ga ?_;exact j9 (i+1) Z ⟨⟨j,f,g⟩,d⟩ zf;have e:s.take i=s:=aL zo;rw[e];refine zu (jn Z (j6 (gp Z Z ?_)));exact⟨Z,g,d⟩
theorem u8_calls (w:World) {rb:Nat} {l:List UInt8} {e:Int} (h:Rd w rb l e) (hl:l.length<1000000000):
  ge prog 109 [.pointer (some ⟨rb,0,none⟩)] w λv w'=>v= .int .u8 ((num (vz l e 1).1:Nat):Int)/\Rd w' rb (vz l e 1).2.1 (vz l e 1).2.2/\Ext (One rb) w w':=by
 refine gt func109 ?_;have a:=Ext.refl (One rb) w;refine jn Z (jy Z (g7 call173 Z (next8_calls w h hl 1 zd) ?_));rintro f g⟨rfl,d,c⟩;have a:=a.then c;refine vl Z (gp Z Z ?_);exact⟨Z,d,a⟩
theorem u16_calls (w:World) {rb:Nat} {l:List UInt8} {e:Int} (h:Rd w rb l e) (hl:l.length<1000000000):
  ge prog 104 [.pointer (some ⟨rb,0,none⟩)] w λv w'=>v= .int .u16 ((num (vz l e 2).1:Nat):Int)/\Rd w' rb (vz l e 2).2.1 (vz l e 2).2.2/\Ext (One rb) w w':=by
 refine gt func104 ?_;have a:=Ext.refl (One rb) w;refine jn Z (jy Z (g7 call163 Z (next16_calls w h hl 2 zd) ?_));rintro f g⟨rfl,d,c⟩;have a:=a.then c;refine vl Z (gp Z Z ?_);exact⟨Z,d,a⟩
theorem yx4 (w:World) {rb:Nat} {l:List UInt8} {e:Int} (h:Rd w rb l e) (hl:l.length<1000000000):
  ge prog 171 [.pointer (some ⟨rb,0,none⟩)] w λv w'=>v= .int .u32 ((num (vz l e 4).1:Nat):Int)/\Rd w' rb (vz l e 4).2.1 (vz l e 4).2.2/\Ext (One rb) w w':=by
 refine gt func171 ?_;have a:=Ext.refl (One rb) w;refine jn Z (jy Z (g7 call202 Z (next32_calls w h hl 4 zd) ?_));rintro f g⟨rfl,d,c⟩;have a:=a.then c;refine vl Z (gp Z Z ?_);exact⟨Z,d,a⟩
theorem rawN_calls (w:World) {rb:Nat} {l:List UInt8} {e:Int} (h:Rd w rb l e) (hl:l.length<1000000000) (n:Int):
  ge prog 103 [.pointer (some ⟨rb,0,none⟩),.int .i64 n] w λv w'=>∃q c,v= .slice q (vz l e n).1.length c/\(Own w' q (vz l e n).1.length c 5 1 (g6 (vz l e n).1)/\∀y,j5 q y->w.heap.size<=y)/\Rd w' rb (vz l e n).2.1 (vz l e n).2.2/\Ext (One rb) w w':=by
 refine gt func103 ?_;have a:=Ext.refl (One rb) w;refine jn Z (jy Z (g7 call162 Z (xv0 w h hl n) ?_));rintro P E⟨q,c,rfl,z,F,A,k⟩;have a:=a.then k;obtain⟨m,G,o⟩:=offR_len l e n;obtain⟨s,H⟩:∃s,s=(vz l e n).1:=⟨_,Z⟩
 rw[<-H] at z m o|-;refine k9 Z (gh (jn Z (jc Z (λJ=>?_) (λJ=>?_))));have K:s=[]:=aT zo;subst K;refine jn Z (j6 (j2 (gp Z Z ?_)));exact⟨none,0,Z,⟨Own.nil _ _ _,λ_ h=>by cases h⟩,A,a⟩
 refine jw (jh (jy Z ?_));have p:=z;have b:=a;refine wl (zq8 g5 Z 0 s.length 1 Z Z Z zd Z Z (aF _) zo zq λf Q g i d L=>?_);have B:=Nat.le_trans a.size g;refine gv g5 Z (wl (ul g5 Z 1 1 Z Z Z zd (Own.blk i 1 (by rw[ur];rfl) (aF _) zm) (Src.slice (p.g0 d) OneC.h) zm zn λM N O r t u=>?_));have C:Ext No E O:=d.trans t λy D x=>by have e:f=y:=congrArg Addr.block (bW x);omega
 have a:=b.then (C.no (S:=One rb));refine vl Z (gp Z Z ?_);exact⟨M,N,by simp,⟨by simpa using r,λy D=>(u y D).elim (λx=>by have e:f=y:=congrArg Addr.block (bW x);have:=b.size;omega) λh=>by have:=b.size;have:=d.size;omega⟩,A.g0 C,a⟩
theorem raw_calls (w:World) {rb:Nat} {l:List UInt8} {e:Int} (h:Rd w rb l e) (hl:l.length<1000000000) (n:Int):
  ge prog 103 [.pointer (some ⟨rb,0,none⟩),.int .i64 n] w λv w'=>∃q c,v= .slice q (vz l e n).1.length c/\ux w' q (vz l e n).1/\Rd w' rb (vz l e n).2.1 (vz l e n).2.2/\Ext (One rb) w w':=
 (rawN_calls w h hl n).mono λv w' ⟨q,c,a,b,d,f⟩=>⟨q,c,a,b.1.sl,d,f⟩
theorem err_calls (w:World) {rb:Nat} {l:List UInt8} {e:Int} (h:Rd w rb l e):
  ge prog 111 [.pointer (some ⟨rb,0,none⟩)] w λv w'=>v= .int .i64 e/\w'=w:=by
 obtain⟨p,c,a,b,d,f⟩:=h;refine gt func111 (uz Z (jn Z (Cy Z (jy Z (gj Z (a.cell Z) (vl Z (j2 (gp Z Z ?_))))))));exact⟨Z,Z⟩
theorem Ac (n:Nat) (hn:n<100):∀(w:World) (x:Nat),x<2^64->
  ge prog 96 [.int .u64 (x:Int),.int .i64 (n:Int)] w λv w'=>∃q c,v= .slice q n c/\Own w' q n c 5 1 (g6 (be n x))/\(∀b,j5 q b->w.heap.size<=b)/\Ext No w w':=by
 induction n using Nat.strongRecOn;rename_i n t;intro w x J;refine gt func96 ?_;have d:=Ext.refl No w;refine uz Z (jn Z (jc Z (λu=>?_) (λu=>?_)));have z:n=0:=by omega
 subst z;refine jn Z (j6 (j2 (gp Z Z ?_)));exact⟨none,0,Z,Own.nil _ _ _,λb j=>by(cases j),d⟩
 obtain⟨m,rfl⟩:∃m,n=m+1:=⟨n-1,by omega⟩
 refine vo (jy Z ?_);rw[jt _ zo];have A:IntKind.u64.wrap ((x:Int).tdiv 256)=((x/256:Nat):Int):=by rw[IntWalk.u64_quo _ _ zo];rfl
 rw[A];rw[show(((m+1:Nat):Int)-1)=(m:Int) from by omega];refine g7 call96 Z (t m zo zo w (x/256) zo) ?_;rintro K L⟨q,c,rfl,B,f,g⟩;have d:=d.g4 g;refine gv g5 Z (wl (kz g5 Z 1 Z Z Z zd zd zt Z λi C r a e D=>?_));have d:=d.g4 e
 have a:gu C i 5 (g6 [UInt8.ofNat x]):=by
  have E:IntKind.u8.wrap ((x:Int).tmod 256)=((UInt8.ofNat x).toNat:Int):=by rw[Int.tmod_eq_emod_of_nonneg zo,IntKind.wrap_u8,UInt8.toNat_ofNat'];omega
  have s:=a;rw[E] at s;exact s
 refine wl (ul g5 Z 1 1 Z Z Z zd (B.ext e λ_ _=>id) (Src.slice (m:=1) ⟨Z,.inr ⟨i,0,Z,a.kc⟩⟩ OneC.h) zm zn λF G M l o p=>?_);have d:=d.trans o λy N H=>by have:=f y H;omega
 refine vl Z (gp Z Z ?_);exact⟨F,G,Z,by rw[be,qd];exact l,λb j=>(p b j).elim (λh=>f b h) λh=>by have:=g.size;have:=e.size;omega,d⟩
theorem Ce (w:World) {p:Option Addr} {c:Nat} {l:List UInt8} (h:ux w p l) (hl:l.length<=8):
  ge prog 113 [.slice p l.length c] w λv w'=>v= .int .u64 (num l:Int)/\w'=w:=by
 refine gt func113 ?_;have d:=Ext.refl No w;refine jn Z (uz Z (jn Z (j0 (ja (α:=Nat×Nat×Nat) [0] Z (λz=>[(3,.int .u64 (z.2.1:Int)),(4,.int .u64 (z.2.2:Int)),(5,.int .i64 (z.1:Int))]) (λz u=>((z.1<=l.length/\z.2.1=num (l.drop z.1)/\z.2.2=256^(l.length-z.1)%2^64)/\u=w)/\Ext No w u) (λz u=>z.1) ((l.length,0,1)) Z ⟨⟨⟨aA _,by simp[num],by simp⟩,Z⟩,d⟩ ?_))));rintro⟨i,x,q⟩ F ⟨⟨⟨t,o,r⟩,rfl⟩,d⟩;try dsimp only
 dsimp only at t o r;subst o r;refine gh (jn Z (jc Z (λy=>?_) (λy=>?_)));obtain⟨k,rfl⟩:∃k,i=k+1:=⟨i-1,by omega⟩
 have s:k<l.length:=by omega
 obtain⟨b,e,rfl,a⟩:=h.at s;have A:=num_drop l s;have f:=ug (l.drop k);rw[aW] at f;have g:l.length-k=(l.length-(k+1))+1:=by omega
 have B:256^(l.length-k)<=256^8:=cK zd zo;have j:256^(l.length-(k+1))<=256^7:=cK zd zo;have C:=(l[k]).toNat_lt;have m:256^(l.length-(k+1))%2^64=256^(l.length-(k+1)):=Nat.mod_eq_of_lt (bP j zd);rw[m];have D:IntKind.u64.wrap ((num (l.drop (k+1)):Int)+IntKind.u64.wrap (((256^(l.length-(k+1)):Nat):Int)*IntKind.u64.wrap ((l[k]).toNat:Int)))=((num (l.drop k):Nat):Int):=by rw[cR ((l[k]).toNat:Int) zo,<-Int.natCast_mul,Nat.mul_comm,cR (((l[k]).toNat*256^(l.length-(k+1)):Nat):Int) zo,cR _ zo];omega
 have n:IntKind.u64.wrap (((256^(l.length-(k+1)):Nat):Int)*256)=((256^(l.length-k)%2^64:Nat):Int):=by rw[g,Nat.pow_succ,IntKind.wrap_u64];omega
 refine yz (jy Z ?_);rw[jt _ zo];refine jo Z 1 Z k zo zo (e+k*1) Z (gj Z a (gv g5 Z ?_));rw[D];refine qi (xt Z ?_);rw[n];refine ga (yt Z ?_);rw[jt _ zo];rw[show(((k+1:Nat):Int)-1)=(k:Int) from by omega];refine ga ?_;exact j9 (k,num (l.drop k),256^(l.length-k)%2^64) Z ⟨⟨⟨by dsimp only;omega,Z,Z⟩,Z⟩,d⟩ zf;have E:i=0:=by omega
 subst E;rw[List.drop_zero];refine zu (jn Z (j6 (gp Z Z ?_)));exact⟨Z,Z⟩
theorem yj (w:World) {p q:Option Addr} {c d:Nat} {l m:List UInt8} (h:ux w p l) (h':ux w q m) (hl:l.length<1000000000) (hm:m.length<1000000000):
  ge prog 97 [.slice p l.length c,.slice q m.length d] w λv w'=>∃r k,v= .slice r (l++m).length k/\Own w' r (l++m).length k 5 1 (g6 (l++m))/\(∀b,j5 r b->w.heap.size<=b)/\Ext No w w':=by
 refine gt func97 ?_;have a:=Ext.refl No w;refine jn Z (ki (wl (kz g5 Z 1 Z Z Z zd zd trivial (l':=[]) Z λF P J s f K=>?_)));have a:=a.g4 f;refine gv g5 Z (wl (ul g5 Z 1 1 Z Z Z zd (Own.blk (n:=0) (c:=0) s 1 Z (aA _) zd) (Src.slice (h.g0 a) OneC.h) zm zn λG L M t u z=>?_));have a:=a.trans u λy N g=>by have e:F=y:=congrArg Addr.block (bW g);omega
 have i:∀x,j5 G x->w.heap.size<=x:=λx A=>(z x A).elim (λg=>by have e:F=x:=congrArg Addr.block (bW g);omega) λh=>by have:=f.size;omega
 have B:Own M G (0+l.length) L 5 1 (g6 l):=t;refine k9 Z (jy Z ?_);have j:=a;refine wl (ul g5 Z 1 1 Z Z Z zd B (Src.slice (h'.g0 a) OneC.h) zm zn λH O Q o C D=>?_);have a:=j.trans C λy N g=>by have:=i y g;omega
 have E:∀x,j5 H x->w.heap.size<=x:=λx A=>(D x A).elim (λh=>i x h) λh=>Nat.le_trans j.size h;refine vl Z (gp Z Z ?_);exact⟨H,O,by dsimp only;rw[al,aX],by rw[al,qd];rw[aX] at o;exact o,E,a⟩
end Go.Proofs.YtpdiphfjmepijaaGreatDoor
namespace Go.Vc
section
variable {P : Program} {I : u6} {f : Fs} {ops : Array Oper} {o : Oper} {env : Env} {w : World}
def shE (n : Nat) (ops : Array Oper) (env : Env) (o : Oper) : Option (BinOp × IntKind × Int × Int × Nat) :=
  match pre n ops env o with
  | false => none
  | true => match o.dst with
    | some d => match o.op with
      | .binOp op _ x y _ => match isShift op with
        | true => match xr env x with
          | some (.int k p) => match xr env y with
            | some (.int _ q) => some (op, k, p, q, d)
            | _ => none
          | _ => none
        | false => none
      | _ => none
    | none => none
def shV (op : BinOp) (k : IntKind) (p q : Int) : Value :=
  match op with
  | .shl => .int k (k.wrap (p * 2 ^ min q.toNat k.bits))
  | _ => .int k (p.fdiv (2 ^ min q.toNat k.bits))
theorem shE_pev {n:Nat} {op:BinOp} {k:IntKind} {p q:Int} {d:Nat} (h:shE n ops env o=some (op,k,p,q,d)) (hq:0<=q):pre n ops env o=true/\o.dst=some d/\pev I o.op env=some (shV op k p q):=by
 unfold shE at h;split at h;cases h;rename_i c;split at h;rename_i m e;split at h;rename_i a t x y u f;split at h;rename_i b;split at h;rename_i r s g;split at h;rename_i v i j;simp only[bI,cP] at h;obtain⟨rfl,rfl,rfl,rfl,rfl⟩:=h;refine⟨c,e,?_⟩;have l:decide (i<0)=false:=bG zo;rw[f];simp only[pev,g,j,bin,b,shiftBin,l];cases a<;>first|rfl|cases b
 cases h;cases h;cases h;cases h;cases h
theorem wd_sh (hI:I.Ok P) {K:Act->World->Prop} {r:Dr} {i:Nat} {pl:List (Nat×Bool)} {dn:List Nat} (ho:ops[i]? =some o) {op:BinOp} {k:IntKind} {p q:Int} {d:Nat} (h:shE f.n ops env o=some (op,k,p,q,d)) (hq:0<=q)
  (kk:WD P f ops K r pl (i::dn) ((d,shV op k p q)::env) w):WD P f ops K r ((i,true)::pl) dn env w:=by
 obtain⟨a,b,c⟩:=shE_pev (I:=I) h hq;exact wd_q ho a b (λe _=>By hI c e) kk
end
abbrev Ai := BitVec 32
abbrev xc (x : Ai) : Value := .int .u32 (x.toNat : Int)
def ju (l : List Ai) : List Value := l.map xc
theorem uf (l : List Ai) : (ju l).length = l.length := by simp [ju]
theorem xw7 (a b : List Ai) : ju (a ++ b) = ju a ++ ju b := by simp [ju]
theorem B8 (l : List Ai) {i : Nat} (h : i < l.length) : (ju l)[i]? = some (xc l[i]) := by simp [ju, h]
instance (l : List Ai) : OneC (ju l) := ⟨λu hu => by obtain ⟨x, _, rfl⟩ := bL.1 hu; rfl⟩
theorem xj8 (x : Ai) : BitVec.ofInt 32 (x.toNat : Int) = x := by
  apply BitVec.eq_of_toNat_eq
  have := x.isLt
  rw [BitVec.toNat_ofInt]
  omega
theorem w_in (x : Ai) : IntKind.u32.wrap (x.toNat : Int) = (x.toNat : Int) := by
  have := x.isLt
  rw [dL]; omega
theorem w_wrap (n : Nat) : IntKind.u32.wrap (n : Int) = ((BitVec.ofNat 32 n).toNat : Int) := by
  rw [dL, BitVec.toNat_ofNat]; omega
theorem Bg (x y:Ai):IntKind.u32.wrap ((x.toNat:Int)+(y.toNat:Int))=((x+y).toNat:Int):=by
 rw[dL,BitVec.toNat_add];omega
theorem w_not (x:Ai):IntKind.u32.wrap (4294967295-(x.toNat:Int))=((~~~x).toNat:Int):=by
 have:=x.isLt;rw[dL,BitVec.toNat_not];omega
theorem yz1 (x y:Ai):bitI .xor .u32 (x.toNat:Int) (y.toNat:Int)=((x^^^y).toNat:Int):=by
 show IntKind.u32.wrap ((BitVec.ofInt 32 (x.toNat:Int)^^^BitVec.ofInt 32 (y.toNat:Int)).toNat:Int)=_;rw[xj8,xj8,w_in]
theorem w_and (x y:Ai):bitI .and .u32 (x.toNat:Int) (y.toNat:Int)=((x&&&y).toNat:Int):=by
 show IntKind.u32.wrap ((BitVec.ofInt 32 (x.toNat:Int)&&&BitVec.ofInt 32 (y.toNat:Int)).toNat:Int)=_;rw[xj8,xj8,w_in]
theorem w_or (x y:Ai):bitI .or .u32 (x.toNat:Int) (y.toNat:Int)=((x|||y).toNat:Int):=by
 show IntKind.u32.wrap ((BitVec.ofInt 32 (x.toNat:Int)|||BitVec.ofInt 32 (y.toNat:Int)).toNat:Int)=_;rw[xj8,xj8,w_in]
theorem w_shr (x:Ai) (q:Int):Int.fdiv (x.toNat:Int) (2^min q.toNat IntKind.u32.bits)=((x>>>q.toNat).toNat:Int):=by
 have a:=x.isLt;rw[show(2:Int)^min q.toNat IntKind.u32.bits=((2^min q.toNat 32:Nat):Int) from by rw[Int.natCast_pow];rfl,Int.fdiv_eq_ediv_of_nonneg _ (cT _),<-Int.natCast_ediv,BitVec.toNat_ushiftRight,Nat.shiftRight_eq_div_pow];rcases Nat.le_total q.toNat 32 with h|h;rw[bR h];rw[Nat.min_eq_right h,Nat.div_eq_of_lt a,Nat.div_eq_of_lt (aG a (cK zd h))]
theorem w_shl (x:Ai) (q:Int):IntKind.u32.wrap ((x.toNat:Int)*2^min q.toNat IntKind.u32.bits)=((x<<<q.toNat).toNat:Int):=by
 rw[show(2:Int)^min q.toNat IntKind.u32.bits=((2^min q.toNat 32:Nat):Int) from by rw[Int.natCast_pow];rfl,<-Int.natCast_mul,w_wrap];congr 1;rw[BitVec.toNat_ofNat,BitVec.toNat_shiftLeft,Nat.shiftLeft_eq];rcases Nat.le_total q.toNat 32 with h|h;rw[bR h];rw[Nat.min_eq_right h,Nat.mul_mod_left];obtain⟨k,a⟩:=Nat.exists_eq_add_of_le h;rw[a,Nat.pow_add,<-Nat.mul_assoc,Nat.mul_right_comm,Nat.mul_mod_left]
def rot (x : Ai) (n : Nat) : Ai := x >>> n ||| x <<< (32 - n)
def Cr (x : Ai) (ns : List Nat) : Ai := ns.foldl (λo n => o ^^^ rot x n) 0
theorem mixW_snoc (x : Ai) (l : List Nat) (n : Nat) : Cr x (l ++ [n]) = Cr x l ^^^ rot x n := by simp [Cr]
theorem rot_eq (x:Ai) (n:Nat) (h:0<n/\n<32):(rot x n).toNat=x.toNat/2^n+(x.toNat%2^n)*2^(32-n):=by
 have c:=x.isLt;obtain⟨k,d⟩:∃k,32=k+n:=⟨32-n,by omega⟩
 have a:32-n=k:=by omega
 have e:2^32=2^k*2^n:=by rw[<-Nat.pow_add,<-d]
 rw[rot,a,BitVec.toNat_or,BitVec.toNat_ushiftRight,BitVec.toNat_shiftLeft,Nat.shiftRight_eq_div_pow,Nat.shiftLeft_eq,e,Nat.mul_comm x.toNat,Nat.mul_mod_mul_left];have b:x.toNat/2^n<2^k:=Nat.div_lt_of_lt_mul (by rw[Nat.mul_comm,<-e];exact c);have f:=Nat.two_pow_add_eq_or_of_lt b (x.toNat%2^n);rw[Nat.or_comm,<-f,Nat.add_comm,Nat.mul_comm]
theorem Cx (x:Ai) (n:Nat) (h:0<n/\n<32):IntKind.u32.wrap (IntKind.u32.wrap ((x.toNat:Int).tdiv ((2^n:Nat):Int))+IntKind.u32.wrap ((x.toNat:Int).tmod ((2^n:Nat):Int)*((2^(32-n):Nat):Int)))=((rot x n).toNat:Int):=by
 have e:=rot_eq x n h;have a:(x.toNat:Int).tdiv ((2^n:Nat):Int)=((x.toNat/2^n:Nat):Int):=rfl;have b:(x.toNat:Int).tmod ((2^n:Nat):Int)=((x.toNat%2^n:Nat):Int):=rfl;rw[a,b,<-Int.natCast_mul];rw[dL,dL,dL];omega
theorem div_eq (x:Ai) (n:Nat):IntKind.u32.wrap ((x.toNat:Int).tdiv ((2^n:Nat):Int))=((x>>>n).toNat:Int):=by
 have a:(x.toNat:Int).tdiv ((2^n:Nat):Int)=((x.toNat/2^n:Nat):Int):=rfl;have c:=x.isLt;have b:x.toNat/2^n<=x.toNat:=Nat.div_le_self _ _;rw[a,BitVec.toNat_ushiftRight,Nat.shiftRight_eq_div_pow,dL];generalize x.toNat/2^n=q at b|-;omega
def natsV (l : List Nat) : List Value := l.map λn : Nat => .int .i64 (n : Int)
theorem Sl.natAt {w:World} {p:Option Addr} {l:List Nat} (h:Sl w p l.length 1 (natsV l)) {i:Nat} (hi:i<l.length):∃b off,p=some ⟨b,off,none⟩/\w.cell? ⟨b,off+i*1,none⟩=some (.int .i64 (l[i]:Int)):=by
 obtain⟨_,d|⟨b,off,a,c⟩⟩:=h;omega;exact⟨b,off,a,by rw[aY];exact c i _ (by simp[natsV,hi])⟩
theorem mixW_take (x:Ai) (l:List Nat) {i:Nat} (h:i<l.length):Cr x (l.take (i+1))=Cr x (l.take i)^^^rot x l[i]:=by
 rw[List.take_succ_eq_append_getElem h,mixW_snoc]
def nextW (b : List UInt8) (l : List Ai) : Ai :=
  if l.length < 16 then BitVec.ofNat 32 (num ((b.drop (4 * l.length)).take 4))
  else l.getD (l.length - 16) 0 + l.getD (l.length - 7) 0 + (Cr (l.getD (l.length - 2) 0) [17, 19] ^^^ l.getD (l.length - 2) 0 >>> 10) + (Cr (l.getD (l.length - 15) 0) [7, 18] ^^^ l.getD (l.length - 15) 0 >>> 3)
def sched (b : List UInt8) : Nat -> List Ai
  | 0 => []
  | t + 1 => sched b t ++ [nextW b (sched b t)]
theorem qx (b : List UInt8) (t : Nat) : (sched b t).length = t := by
  induction t with
  | zero => rfl
  | succ t ih => simp [sched, ih]
theorem words_at (l r:List Ai) {i:Nat} (h:i<l.length):(ju (l++r))[0+i*1]? =some (xc (l.getD i 0)):=by
 rw[aX,aY,B8 _ (by rw[al];omega),List.getElem_append_left h,bQ,aS h];rfl
theorem Br (l:List Ai) {i:Nat} (h:i<l.length):(ju l)[i]? =some (xc (l.getD i 0)):=by
 rw[B8 _ h,bQ,aS h];rfl
theorem xv7 (l:List Ai) (k i:Nat) (x:Ai) (hi:i=l.length):(ju (l++List.replicate (k+1) 0)).set (0+i*1) (xc x)=ju (l++[x]++List.replicate k 0):=by
 subst hi;rw[aX,aY,ju,<-List.map_set,dA _ _ (aA _),Nat.sub_self,List.replicate_succ,aU];rfl
theorem nextW_raw {b : List UInt8} {l : List Ai} (h : l.length < 16) : nextW b l = BitVec.ofNat 32 (num ((b.drop (4 * l.length)).take 4)) := aM h
theorem nextW_mix {b:List UInt8} {l:List Ai} (h:¬l.length<16):nextW b l=l.getD (l.length-16) 0+l.getD (l.length-7) 0+(Cr (l.getD (l.length-2) 0) [17,19]^^^l.getD (l.length-2) 0>>>10)+(Cr (l.getD (l.length-15) 0) [7,18]^^^l.getD (l.length-15) 0>>>3):=aJ h
def turnW (l : List Ai) (k w : Ai) : List Ai :=
  match l with
  | [a, b, c, d, e, f, g, h] =>
    let x := h + Cr e [6, 11, 25] + (g ^^^ (e &&& (f ^^^ g))) + k + w
    let y := Cr a [2, 13, 22] + ((a &&& b) ||| (c &&& (a ||| b)))
    [x + y, a, b, c, d + x, e, f, g]
  | l => l
def Ar (h ks ws : List Ai) : Nat -> List Ai
  | 0 => h
  | t + 1 => turnW (Ar h ks ws t) (ks.getD t 0) (ws.getD t 0)
theorem turnW_len (l : List Ai) (k w : Ai) : (turnW l k w).length = l.length := by
  unfold turnW
  split <;> rfl
theorem zz5 (h ks ws:List Ai) (t:Nat):(Ar h ks ws t).length=h.length:=by
 induction t with
 |zero=>rfl
 |succ t ih=>rw[Ar,turnW_len,ih]
theorem eight {α:Type} {l:List α} (h:l.length=8):∃a b c d e f g i,l=[a,b,c,d,e,f,g,i]:=by
 match l,h with
 | [a,b,c,d,e,f,g,i],_=>exact⟨a,b,c,d,e,f,g,i,Z⟩
theorem zip_set {f:Ai->Ai->Ai} {h l:List Ai} {i:Nat} (h1:i<h.length) (h2:i<l.length):(ju (List.zipWith f (h.take i) (l.take i)++h.drop i)).set (0+i*1) (xc (f h[i] l[i]))=ju (List.zipWith f (h.take (i+1)) (l.take (i+1))++h.drop (i+1)):=by
 have a:(List.zipWith f (h.take i) (l.take i)).length=i:=by simp;omega
 rw[aX,aY,ju,<-List.map_set,dA _ _ zo,a,Nat.sub_self,cl h1,List.set_cons_zero,List.take_succ_eq_append_getElem h1,List.take_succ_eq_append_getElem h2,List.zipWith_append zb];simp[ju]
theorem zip_at {f:Ai->Ai->Ai} {h l:List Ai} {i:Nat} (h1:i<h.length) (h2:i<l.length):(ju (List.zipWith f (h.take i) (l.take i)++h.drop i))[0+i*1]? =some (xc h[i]):=by
 have a:(List.zipWith f (h.take i) (l.take i)).length=i:=by simp;omega
 rw[aX,aY,ju,bZ,cE zo,a,Nat.sub_self,cl h1];rfl
def intoW (ks h : List Ai) (b : List UInt8) : List Ai := List.zipWith (· + ·) h (Ar h ks (sched b 64) 64)
theorem intoW_len (ks h : List Ai) (b : List UInt8) : (intoW ks h b).length = h.length := by
  rw [intoW, List.length_zipWith, zz5, Nat.min_self]
def Ax (ks h : List Ai) (p : List UInt8) : Nat -> List Ai
  | 0 => h
  | n + 1 => intoW ks (Ax ks h p n) ((p.drop (64 * n)).take 64)
theorem D5 (ks h:List Ai) (p:List UInt8) (n:Nat):(Ax ks h p n).length=h.length:=by
 induction n with
 |zero=>rfl
 |succ n ih=>rw[Ax,intoW_len,ih]
def zq2 (l : List UInt8) : List UInt8 := l ++ [128] ++ List.replicate ((l.length + 72) / 64 * 64 - 8 - (l.length + 1)) 0 ++ be 8 (8 * l.length)
def qr : List Ai := [1116352408, 1899447441, 3049323471, 3921009573, 961987163, 1508970993, 2453635748, 2870763221,
  3624381080, 310598401, 607225278, 1426881987, 1925078388, 2162078206, 2614888103, 3248222580,
  3835390401, 4022224774, 264347078, 604807628, 770255983, 1249150122, 1555081692, 1996064986,
  2554220882, 2821834349, 2952996808, 3210313671, 3336571891, 3584528711, 113926993, 338241895,
  666307205, 773529912, 1294757372, 1396182291, 1695183700, 1986661051, 2177026350, 2456956037,
  2730485921, 2820302411, 3259730800, 3345764771, 3516065817, 3600352804, 4094571909, 275423344,
  430227734, 506948616, 659060556, 883997877, 958139571, 1322822218, 1537002063, 1747873779,
  1955562222, 2024104815, 2227730452, 2361852424, 2428436474, 2756734187, 3204031479, 3329325298]
def Ae : List Ai := [1779033703, 3144134277, 1013904242, 2773480762, 1359893119, 2600822924, 528734635, 1541459225]
def sumW (l : List UInt8) : List UInt8 := (Ax qr Ae (zq2 l) ((zq2 l).length / 64)).flatMap λx => be 4 x.toNat
theorem xq7 (l:List UInt8):(zq2 l).length=(l.length+72)/64*64:=by
 simp only[zq2,al,bM,jz,aR,dF];omega
theorem xv5 (l:List Ai):(l.flatMap λx=>be 4 x.toNat).length=4*l.length:=by
 induction l with
 |nil=>rfl
 |cons x r ih=>rw[cZ,al,ih,jz,aR];omega
theorem Cd (l : List UInt8) : (sumW l).length = 32 := by
  rw [sumW, xv5, D5]; rfl
end Go.Vc
namespace Go.Proofs.YtpdiphfjmepijaaGreatDoor
open Go.Proofs.Tryz
open Go.Vc
theorem A8 (w:World) (x:Ai) {p:Option Addr} {c:Nat} {ns:List Nat} (h:Sl w p ns.length 1 (natsV ns)) (hns:∀n∈ns,n<=32) (hlen:ns.length<1000):
  ge prog 221 [xc x,.slice p ns.length c] w λv w'=>v=xc (Cr x ns)/\Ext No w w':=by
 refine gt func221 ?_;have a:=Ext.refl No w;refine jn Z (uz Z (jn Z (j0 (ja (α:=Nat) [0,9,10] Z (λz=>[(5,xc (Cr x (ns.take z))),(11,.int .i64 (z:Int))]) (λz u=>(z<=ns.length)/\Ext No w u) (λz u=>ns.length-z) (0) Z ⟨aF _,a⟩ ?_))));rintro i o ⟨f,a⟩;try dsimp only
 refine uz Z (jc Z (λk=>?_) (λk=>?_));have f:i<ns.length:=by omega
 obtain⟨b,g,rfl,d⟩:=(h.g0 a).natAt f;have l:=hns _ (aC f);refine yz (ki (jo Z 1 Z i Z zo (g+i*1) Z (gj Z d (k9 Z (jl Z 11 [qP 0,qP 1,qP 2,qP 3,qP 4,qP 5,qP 6,qP 7,qP 8,qP 9,qP 10] [] (No) zk λq j m=>?_)))));have a:=a.g4 j;refine gl g5 3 Z (wd_sh g5 Z Z (cT _) ?_);dsimp only[shV];refine gl g5 3 Z ?_;rw[jt _ zo];refine wd_sh g5 Z Z zo ?_;dsimp only[shV];refine gl g5 3 Z ?_;rw[show(32-((ns[i]:Nat):Int))=((32-ns[i]:Nat):Int) from by omega,w_shr,w_shl,w_or,yz1,bT,bT,show(x>>>ns[i]|||x<<<(32-ns[i]))=rot x ns[i] from Z,<-mixW_take x ns f];refine jd (j1 (yt Z ?_));rw[jt _ zo];refine ga ?_;exact j9 (i+1) Z ⟨f,a⟩ zf;have e:ns.take i=ns:=aL zo;rw[e];refine zu (jn Z (j6 (gp Z Z ?_)));exact⟨Z,a⟩
end Go.Proofs.YtpdiphfjmepijaaGreatDoor
namespace Go.Vc
structure Bds where
  lo : Option Int
  hi : Option Int
  mx : Option Int
def Bds.Is (s : Bds) (n c l hh m : Nat) : Prop :=
  (s.mx = some (m : Int) /\ s.hi.isSome = true \/ s.mx = none /\ m = c) /\ (s.hi = some (hh : Int) \/ s.hi = none /\ hh = n) /\ (s.lo = some (l : Int) \/ s.lo = none /\ l = 0) /\ l <= hh /\ hh <= m /\ m <= c
section
variable {P : Program} {I : u6} {f : Fs} {ops : Array Oper} {o : Oper} {env : Env} {w : World}
def evB (env : Env) (lo hi mx : Option Operand) : Option Bds :=
  match evI env lo with
  | some lo' => match evI env hi with
    | some hi' => match evI env mx with
      | some mx' => some ⟨lo', hi', mx'⟩
      | none => none
    | none => none
  | none => none
theorem run_bds {lo hi mx:Option Operand} {s:Bds} (h:evB env lo hi mx=some s) {ρ:Operand->Value} (hρ:∀x u,xr env x=some u->ρ x=u) {n c l hh m:Nat} (hs:s.Is n c l hh m) (b:Bool):
  (Instr.sliceBounds b n c (lo.map ρ) (hi.map ρ) (mx.map ρ)).run P w= .ok (l,hh,m) w:=by
 obtain⟨g,f,i,E,F,G⟩:=hs;unfold evB at h;split at h
 ·rename_i H v
  split at h
  ·rename_i j y
   split at h
   ·rename_i J z
    cases h;simp only at g f i;have q:(lo.map ρ=none/\l=0)\/∃k,lo.map ρ=some (.int k (l:Int)):=by rcases evI_eq v hρ with⟨a,d⟩|⟨D,o,a,d⟩<;>rcases i with i|⟨i,A⟩<;>rw[i] at a<;>cases a;exact .inl ⟨d,A⟩;exact .inr ⟨o,d⟩
    have r:(hi.map ρ=none/\j=none/\hh=n)\/∃k,hi.map ρ=some (.int k (hh:Int)):=by rcases evI_eq y hρ with⟨a,d⟩|⟨D,o,a,d⟩<;>rcases f with f|⟨f,B⟩<;>rw[f] at a<;>cases a;exact .inl ⟨d,f,B⟩;exact .inr ⟨o,d⟩
    have t:(mx.map ρ=none/\m=c)\/(j.isSome=true/\∃k,mx.map ρ=some (.int k (m:Int))):=by rcases evI_eq z hρ with⟨a,d⟩|⟨D,o,a,d⟩<;>rcases g with⟨g,e⟩|⟨g,e⟩<;>rw[g] at a<;>cases a;exact .inl ⟨d,e⟩;exact .inr ⟨e,o,d⟩
    unfold Instr.sliceBounds
    rcases t with⟨t,rfl⟩|⟨p,K,t⟩<;>rcases r with⟨r,C,rfl⟩|⟨L,r⟩<;>rcases q with⟨q,rfl⟩|⟨M,q⟩<;>rw[t,r,q]<;>
     first
      |(rw[C] at p;cases p;done)
      |(cases b<;>simp only[aI,aP,aD,cH,zx5 _ _ _ _ E,zx5 _ _ _ _ F,zx5 _ _ _ _ G];done)
   cases h
  cases h
 cases h
def saE (I : u6) (n : Nat) (ops : Array Oper) (env : Env) (o : Oper) : Option (Nat × Nat × Nat × Nat × Bds × Nat) :=
  match pre n ops env o with
  | false => none
  | true => match o.dst with
    | some d => match o.op with
      | .slice t x lo hi mx => match z7 I t with
        | some y => match y.desc with
          | .array m e => match z7 I e with
            | some g => match xr env x with
              | some (.pointer (some ⟨b, off, none⟩)) => match evB env lo hi mx with
                | some s => some (b, off, m, g.size, s, d)
                | none => none
              | _ => none
            | none => none
          | _ => none
        | none => none
      | _ => none
    | none => none
theorem ov_sa (hI:I.Ok P) {nn b off len sz0 d:Nat} {s:Bds} (h:saE I nn ops env o=some (b,off,len,sz0,s,d)) (l hh m sz:Nat) (hsz:sz0=sz) (hs:s.Is len len l hh m):
  pre nn ops env o=true/\o.dst=some d/\Ov P o env w (.slice (ub (some ⟨b,off,none⟩) l m sz) (hh-l) (m-l)) w:=by
 subst hsz;unfold saE at h;split at h;cases h;rename_i k;split at h;rename_i E n;split at h;rename_i t x p q r u;split at h;rename_i y v;split at h;rename_i F e z;split at h;rename_i g A;split at h;rename_i f a B;split at h;rename_i G c;simp only[bI,cP] at h;obtain⟨rfl,rfl,rfl,rfl,rfl,rfl⟩:=h;refine⟨k,n,λH i=>?_⟩;have j:=(hI.get v).under w;have C:=(hI.get A).sizeOf w;rw[z] at j;have D:(Instr.sliceAt t (.pointer (some ⟨f,a,none⟩)) (p.map H) (q.map H) (r.map H)).run P w= .ok (.slice (ub (some ⟨f,a,none⟩) l m g.size) (hh-l) (m-l)) w:=by unfold Instr.sliceAt;rw[jf j];simp only[Instr.sureAddr,aI,aP,aD,run_bds c i hs false,C,ub];split<;>rfl
 simp only[execOp,u,i _ _ B,aI,D,aD,aP];cases h;cases h;cases h;cases h;cases h;cases h;cases h
theorem st_sa (hI:I.Ok P) {K:Env->World->Prop} {b off len sz0 d:Nat} {s:Bds} (h:saE I f.n ops env o=some (b,off,len,sz0,s,d)) (l hh m sz:Nat) (hsz:sz0=sz) (hs:s.Is len len l hh m)
  (k:K ((d,.slice (ub (some ⟨b,off,none⟩) l m sz) (hh-l) (m-l))::env) w):St P f ops o env w K:=by
 obtain⟨a,c,e⟩:=ov_sa (w:=w) hI h l hh m sz hsz hs;obtain⟨g,i⟩:=pre_eq a;exact yv g i e (by rw[c];exact k)
theorem xw3 (hI:I.Ok P) {K:Act->World->Prop} {r:Dr} {i:Nat} {pl:List (Nat×Bool)} {dn:List Nat} (ho:ops[i]? =some o) {b off len sz0 d:Nat} {s:Bds} (h:saE I f.n ops env o=some (b,off,len,sz0,s,d)) (l hh m sz:Nat) (hsz:sz0=sz) (hs:s.Is len len l hh m)
  (k:WD P f ops K r pl (i::dn) ((d,.slice (ub (some ⟨b,off,none⟩) l m sz) (hh-l) (m-l))::env) w):WD P f ops K r ((i,true)::pl) dn env w:=by
 obtain⟨a,c,_⟩:=ov_sa (w:=w) hI h l hh m sz hsz hs;exact wd_q ho a c (λe _=>(ov_sa (w:=e) hI h l hh m sz hsz hs).2.2) k
def spE (I : u6) (n : Nat) (ops : Array Oper) (env : Env) (o : Oper) : Option (Option Addr × Nat × Nat × Nat) :=
  match pre n ops env o with
  | false => none
  | true => match o.dst with
    | some d => match o.op with
      | .sliceToArrayPointer t x => match z7 I t with
        | some y => match y.desc with
          | .array m _ => match xr env x with
            | some (.slice p len _) => some (p, len, m, d)
            | _ => none
          | _ => none
        | none => none
      | _ => none
    | none => none
theorem ov_sp (hI:I.Ok P) {nn len m d:Nat} {p:Option Addr} (h:spE I nn ops env o=some (p,len,m,d)) (hm:m<=len):
  pre nn ops env o=true/\o.dst=some d/\Ov P o env w (.pointer p) w:=by
 unfold spE at h;split at h;cases h;rename_i f;split at h;rename_i s g;split at h;rename_i t x i;split at h;rename_i y j;split at h;rename_i u e k;split at h;rename_i b a l n;simp only[bI,cP] at h;obtain⟨rfl,rfl,rfl,rfl⟩:=h;refine⟨f,g,λv q=>?_⟩;have c:=(hI.get j).under w;rw[k] at c;have r:(Instr.arrayAt t (.slice b a l)).run P w= .ok (.pointer b) w:=by unfold Instr.arrayAt;rw[jf c];simp only[aJ (Nat.not_lt.2 hm),aP]
 simp only[execOp,i,q _ _ n,aI,r,aD,aP];cases h;cases h;cases h;cases h;cases h
theorem st_sp (hI:I.Ok P) {K:Env->World->Prop} {len m d:Nat} {p:Option Addr} (h:spE I f.n ops env o=some (p,len,m,d)) (hm:m<=len)
  (k:K ((d,.pointer p)::env) w):St P f ops o env w K:=by
 obtain⟨a,b,c⟩:=ov_sp (w:=w) hI h hm;obtain⟨e,g⟩:=pre_eq a;exact yv e g c (by rw[b];exact k)
def mfE (n : Nat) (ops : Array Oper) (env : Env) (o : Oper) : Option (FuncId × List Value × List Value × Nat) :=
  match pre n ops env o with
  | false => none
  | true => match o.dst with
    | some d => match o.op with
      | .makeFunc (.func g) fs cs => match evs env fs.toList with
        | some l => match evs env cs.toList with
          | some m => some (g, l, m, d)
          | none => none
        | none => none
      | _ => none
    | none => none
theorem ov_mf {nn d:Nat} {g:FuncId} {l m:List Value} (h:mfE nn ops env o=some (g,l,m,d)):
  pre nn ops env o=true/\o.dst=some d/\Ov P o env w (.func (.func g) l.toArray m.toArray) w:=by
 unfold mfE at h;split at h;cases h;rename_i b;split at h;rename_i j c;split at h;rename_i k n p e;split at h;rename_i q f;split at h;rename_i r i;simp only[bI,cP] at h;obtain⟨rfl,rfl,rfl,rfl⟩:=h;refine⟨b,c,λs a=>?_⟩;simp only[execOp,e,Instr.makeFunc,evs_arr a f,evs_arr a i,aI,aD,aP];cases h;cases h;cases h;cases h
theorem st_mf {K:Env->World->Prop} {d:Nat} {g:FuncId} {l m:List Value} (h:mfE f.n ops env o=some (g,l,m,d))
  (k:K ((d,.func (.func g) l.toArray m.toArray)::env) w):St P f ops o env w K:=by
 obtain⟨a,b,c⟩:=ov_mf (P:=P) (w:=w) h;obtain⟨e,i⟩:=pre_eq a;exact yv e i c (by rw[b];exact k)
end
end Go.Vc
namespace Go.Proofs.YtpdiphfjmepijaaGreatDoor
open Go.Proofs.Tryz
open Go.Vc
theorem offR_ok {l:List UInt8} {n:Nat} (h:n<=l.length):vz l 0 (n:Int)=(l.take n,l.drop n,0):=by
 unfold vz;rw[aJ zp,aJ zo,aJ zo];simp
theorem drawn_calls (w:World) {b:List UInt8} (hb:b.length=64):
  ge prog 220 [.agg (g6 b).toArray] w λv w'=>v= .agg (ju (sched b 64)).toArray/\Ext No w w':=by
 refine gt func220 ?_;have d:=Ext.refl No w;refine ki (gn Z λb1 w1 bd ae ap=>?_);have d:=d.g4 ap;refine gn Z λQ w2 aq a ah=>?_;have K:=Nat.le_trans d.size aq;have ae:=ae.g0 ah;have d:=d.g4 ah;have a:gu w2 Q 313 (ju (sched b 0++List.replicate (64-0) 0)):=a;refine qi (ki (wl (st_sa g5 Z 0 64 64 1 Z ⟨.inr ⟨Z,Z⟩,.inr ⟨Z,Z⟩,.inr ⟨Z,Z⟩,by decide,by decide,by decide⟩ ?_)));rw[qa,bH];rw[show Value.slice (some ⟨b1,0,none⟩) 64 64= .slice (some ⟨b1,0,none⟩) b.length b.length from by rw[hb]];have ar:=d;refine g7 call101 Z (zz0 w2 (p:=some ⟨b1,0,none⟩) (c:=b.length) (l:=b) ⟨by simp[gb],.inr ⟨b1,0,Z,ae.kc⟩⟩ zo) ?_;rintro v3 w3⟨rb,rfl,au,f,ai⟩;have a:=a.g0 ai;have d:=d.g4 ai;have av:=Nat.le_trans ar.size au;refine k9 Z (gh (jn Z (j0 (ja (α:=Nat) [2,3] Z (λz=>[(9,.int .i64 (z:Int))]) (λz u=>(z<=64/\Rd u rb (b.drop (4*min z 16)) 0)/\gu u Q 313 (ju (sched b z++List.replicate (64-z) 0))/\Ext No w u) (λz u=>64-z) (0) Z ⟨⟨by decide,by simpa using f⟩,a,d⟩ ?_))));rintro t w4 ⟨⟨ht,f⟩,a,d⟩;refine uz Z (jc Z (λhc=>?_) (λhc=>?_));have ht:t<64:=by omega
 refine vo (jb (α:=Unit) [2,3,9] Z (λz=>[]) (λz u=>(Rd u rb (b.drop (4*min (t+1) 16)) 0)/\gu u Q 313 (ju (sched b (t+1)++List.replicate (64-(t+1)) 0))/\Ext No w u) ?_ ?_);refine j0 (uz Z (jn Z (jc Z (λhc=>?_) (λhc=>?_))));have M:t<16:=by omega
 have e4:min t 16=t:=by omega
 have e5:min (t+1) 16=t+1:=by omega
 rw[e4] at f;refine jy Z ?_;have y:=f.ne a zd;refine g7 call171 Z (yx4 w4 f zl) ?_;rintro v5 w5⟨rfl,f,aj⟩;have a:=a.ext aj (λe=>y e.symm);have d:=d.g8 aj av;have e6:=offR_ok (l:=b.drop (4*t)) (n:=4) zl;have e6:vz (b.drop (4*t)) 0 4=_:=e6;rw[e6] at f;rw[e6];have e7:List.drop 4 (b.drop (4*t))=b.drop (4*min (t+1) 16):=by rw[List.drop_drop,e5,Nat.mul_add]
 rw[e7] at f
 have e8:(num ((b.drop (4*t)).take 4):Int)=((nextW b (sched b t)).toNat:Int):=by
  rw[nextW_raw (by rw[qx];exact M),qx,BitVec.toNat_ofNat];have:=ug ((b.drop (4*t)).take 4);rw[aK,aW] at this;have h4:min 4 (b.length-4*t)=4:=by omega
  rw[h4] at this;omega
 dsimp only;rw[e8];refine jo Z 1 Z t Z zo (0+t*1) Z ?_;have g:=a;refine wl (uh g5 a Z Z (by rw[uf,al,qx,bM];omega) λw6 a ak bf=>?_);have d:=d.g8 ak K
 have a:gu w6 Q 313 (ju (sched b (t+1)++List.replicate (64-(t+1)) 0)):=by
  have e:64-t=(64-(t+1))+1:=by omega
  have N:=a;rw[e,xv7 _ _ _ _ (qx b t).symm] at N;exact N
 have y:=f.ne g zd;have f:=f.ext ak (λe=>y e) (λb' L h e=>h.ne g zd e);refine qi (vw ?_);exact ke (qu (gk (()) Z ⟨f,a,d⟩));have M:¬t<16:=by omega
 have e4:min t 16=min (t+1) 16:=by omega
 rw[e4] at f;have T:=nextW_mix (b:=b) (l:=sched b t) (by rw[qx];exact M);rw[qx] at T;have af:IntKind.u32.wrap (IntKind.u32.wrap (IntKind.u32.wrap ((((sched b t).getD (t-16) 0).toNat:Int)+(((sched b t).getD (t-7) 0).toNat:Int))+bitI .xor .u32 ((Cr ((sched b t).getD (t-2) 0) [17,19]).toNat:Int) (Int.fdiv (((sched b t).getD (t-2) 0).toNat:Int) (2^min (10:Int).toNat IntKind.u32.bits)))+bitI .xor .u32 ((Cr ((sched b t).getD (t-15) 0) [7,18]).toNat:Int) (Int.fdiv (((sched b t).getD (t-15) 0).toNat:Int) (2^min (3:Int).toNat IntKind.u32.bits)))=((nextW b (sched b t)).toNat:Int):=by rw[T,Bg,w_shr,yz1,Bg,w_shr,yz1,Bg];rfl
 refine vo (gh (jl Z 10 [qP 0,qP 1,qP 2,qP 3,qP 4,qP 5,qP 6,qP 7,qP 8,qP 9] [] (No) zk λw7 ag bg=>?_));have O:=a;have a:=a.g0 ag;have f:=f.g0 ag;have d:=d.g4 ag;refine gl g5 2 Z ?_;rw[jt _ zo];refine qe g5 Z Z 1 Z (t-2) zo zo (0+(t-2)*1) Z (gy g5 Z Z (λw' G=>(O.g0 G).cell (i:=0+(t-2)*1) (v:=xc ((sched b t).getD (t-2) 0)) (words_at _ _ (by rw[qx];omega))) (gl g5 2 Z ?_));rw[jt _ zo];refine qe g5 Z Z 1 Z (t-15) zo zo (0+(t-15)*1) Z (gy g5 Z Z (λw' G=>(O.g0 G).cell (i:=0+(t-15)*1) (v:=xc ((sched b t).getD (t-15) 0)) (words_at _ _ (by rw[qx];omega))) (gl g5 2 Z (jd (j1 (jh (yv3 Z 25 25 [25] (No) zk λw8 R bh=>?_))))));have O:=a;have a:=a.g0 R;have f:=f.g0 R;have d:=d.g4 R;have k:Ext No _ w8:=R;refine ql [qP 0,qP 1,qP 2,qP 3,qP 4,qP 5,qP 6,qP 7,qP 8,qP 9,qP 10,qP 13,qP 14,qP 17,qP 20,qP 21] 9 Z zk (gl g5 3 Z ?_);rw[jt _ zo];refine qe g5 Z Z 1 Z (t-16) zo zo (0+(t-16)*1) Z (gy g5 Z Z (λw' G=>(O.g0 G).cell (i:=0+(t-16)*1) (v:=xc ((sched b t).getD (t-16) 0)) (words_at _ _ (by rw[qx];omega))) (gl g5 2 Z ?_));rw[jt _ zo];refine qe g5 Z Z 1 Z (t-7) zo zo (0+(t-7)*1) Z (gy g5 Z Z (λw' G=>(O.g0 G).cell (i:=0+(t-7)*1) (v:=xc ((sched b t).getD (t-7) 0)) (words_at _ _ (by rw[qx];omega))) (gl g5 7 Z (z6 Z (B9 [11,18] Z zk ⟨⟨_,Z,?_⟩,⟨_,Z,?_⟩,trivial⟩))));refine kz g5 Z 1 Z Z Z zd zd zt Z λH w9 am q P bi=>⟨k.g4 P,?_⟩
 have a:=a.g0 P;have f:=f.g0 P;have d:=d.g4 P;have k:=k.g4 P;refine ql [] 8 Z zk (z6 Z (B9 [12,18] Z zk ⟨⟨_,Z,?_⟩,⟨_,Z,?_⟩,trivial⟩));refine gx call221 Z (A8 w9 _ (p:=some ⟨H,0,none⟩) (c:=2) (ns:=[17,19]) ⟨Z,.inr ⟨H,0,Z,q.kc⟩⟩ zd zd) λbj bk U=>⟨(by obtain⟨rfl,r⟩:=U;exact k.g4 r),?_⟩
 obtain⟨rfl,r⟩:=U;have a:=a.g0 r;have f:=f.g0 r;have d:=d.g4 r;have k:=k.g4 r;refine ql [qP 15,qP 16,(18,false),(19,false),qP 22,qP 23,qP 24] 0 Z zk (gl g5 2 Z (jg Z (kz g5 Z 1 Z Z Z zd zd zt Z λA ax V j B a5=>⟨k.g4 B,?_⟩)));have a:=a.g0 B;have f:=f.g0 B;have d:=d.g4 B;have k:=k.g4 B;refine jg Z (gx call221 Z (A8 ax _ (p:=some ⟨A,0,none⟩) (c:=2) (ns:=[7,18]) ⟨Z,.inr ⟨A,0,Z,j.kc⟩⟩ zd zd) λbm bn W=>⟨(by obtain⟨rfl,C⟩:=W;exact k.g4 C),?_⟩);obtain⟨rfl,C⟩:=W;have a:=a.g0 C;have f:=f.g0 C;have d:=d.g4 C;refine gl g5 2 Z ?_;rw[af];refine qe g5 Z Z 1 Z t Z zo (0+t*1) Z (jd ?_);have g:=a;refine wb Z (uh g5 a Z Z (by rw[uf,al,qx,bM];omega) λay a X a6=>?_);have d:=d.g8 X K
 have a:gu ay Q 313 (ju (sched b (t+1)++List.replicate (64-(t+1)) 0)):=by
  have e:64-t=(64-(t+1))+1:=by omega
  have N:=a;rw[e,xv7 _ _ _ _ (qx b t).symm] at N;exact N
 have y:=f.ne g zd;have f:=f.ext X (λe=>y e) (λb' L h e=>h.ne g zd e);refine j1 ?_;exact jm (gk (()) Z ⟨f,a,d⟩);refine kz g5 Z 1 Z Z Z zd zd zt Z λA az V j s a7=>⟨k.g4 s,?_⟩
 have a:=a.g0 s;have q:=q.g0 s;have f:=f.g0 s;have d:=d.g4 s;have k:=k.g4 s;refine ql [(12,false),qP 15,qP 16,(19,false),qP 22,qP 23,qP 24] 0 Z zk (jg Z (gx call221 Z (A8 az _ (p:=some ⟨H,0,none⟩) (c:=2) (ns:=[17,19]) ⟨Z,.inr ⟨H,0,Z,q.kc⟩⟩ zd zd) λbp a0 Y=>⟨(by obtain⟨rfl,m⟩:=Y;exact k.g4 m),?_⟩));obtain⟨rfl,m⟩:=Y;have a:=a.g0 m;have j:=j.g0 m;have f:=f.g0 m;have d:=d.g4 m;have k:=k.g4 m;refine gl g5 2 Z (jg Z (gx call221 Z (A8 a0 _ (p:=some ⟨A,0,none⟩) (c:=2) (ns:=[7,18]) ⟨Z,.inr ⟨A,0,Z,j.kc⟩⟩ zd zd) λbq br I=>⟨(by obtain⟨rfl,D⟩:=I;exact k.g4 D),?_⟩));obtain⟨rfl,D⟩:=I;have a:=a.g0 D;have f:=f.g0 D;have d:=d.g4 D;refine gl g5 2 Z ?_;rw[af];refine qe g5 Z Z 1 Z t Z zo (0+t*1) Z (jd ?_);have g:=a;refine wb Z (uh g5 a Z Z (by rw[uf,al,qx,bM];omega) λa1 a aa a8=>?_);have d:=d.g8 aa K
 have a:gu a1 Q 313 (ju (sched b (t+1)++List.replicate (64-(t+1)) 0)):=by
  have e:64-t=(64-(t+1))+1:=by omega
  have N:=a;rw[e,xv7 _ _ _ _ (qx b t).symm] at N;exact N
 have y:=f.ne g zd;have f:=f.ext aa (λe=>y e) (λb' L h e=>h.ne g zd e);refine j1 ?_;exact jm (gk (()) Z ⟨f,a,d⟩);refine kz g5 Z 1 Z Z Z zd zd zt Z λA bs V j E a9=>⟨k.g4 E,?_⟩
 have a:=a.g0 E;have f:=f.g0 E;have d:=d.g4 E;have k:=k.g4 E;refine ql [(11,false),(12,false),qP 15,qP 16,(19,false),qP 22,qP 23,qP 24] 0 Z zk (jg Z (kz g5 Z 1 Z Z Z zd zd zt Z λH a2 am q x ba=>⟨k.g4 x,?_⟩));have a:=a.g0 x;have j:=j.g0 x;have f:=f.g0 x;have d:=d.g4 x;have k:=k.g4 x;refine jg Z (gx call221 Z (A8 a2 _ (p:=some ⟨H,0,none⟩) (c:=2) (ns:=[17,19]) ⟨Z,.inr ⟨H,0,Z,q.kc⟩⟩ zd zd) λbt a3 ab=>⟨(by obtain⟨rfl,o⟩:=ab;exact k.g4 o),?_⟩);obtain⟨rfl,o⟩:=ab;have a:=a.g0 o;have j:=j.g0 o;have f:=f.g0 o;have d:=d.g4 o;have k:=k.g4 o;refine gl g5 2 Z (jg Z (gx call221 Z (A8 a3 _ (p:=some ⟨A,0,none⟩) (c:=2) (ns:=[7,18]) ⟨Z,.inr ⟨A,0,Z,j.kc⟩⟩ zd zd) λbu bv ac=>⟨(by obtain⟨rfl,F⟩:=ac;exact k.g4 F),?_⟩));obtain⟨rfl,F⟩:=ac;have a:=a.g0 F;have f:=f.g0 F;have d:=d.g4 F;refine gl g5 2 Z ?_;rw[af];refine qe g5 Z Z 1 Z t Z zo (0+t*1) Z (jd ?_);have g:=a;refine wb Z (uh g5 a Z Z (by rw[uf,al,qx,bM];omega) λa4 a ad bb=>?_);have d:=d.g8 ad K
 have a:gu a4 Q 313 (ju (sched b (t+1)++List.replicate (64-(t+1)) 0)):=by
  have e:64-t=(64-(t+1))+1:=by omega
  have N:=a;rw[e,xv7 _ _ _ _ (qx b t).symm] at N;exact N
 have y:=f.ne g zd;have f:=f.ext ad (λe=>y e) (λb' L h e=>h.ne g zd e);refine j1 ?_;exact jm (gk (()) Z ⟨f,a,d⟩);rintro z bw ⟨f,a,d⟩;refine xt Z ?_;rw[jt _ zo];refine ga ?_;exact j9 (t+1) Z ⟨⟨by omega,f⟩,a,d⟩ zf;have h0:t=64:=by omega
 subst h0;have a:gu w4 Q 313 (ju (sched b 64)):=by simpa using a
 have J:(ju (sched b 64)).length=64:=by rw[uf,qx]
 generalize sched b 64=S at a J|-;refine zu (ki (j8 a Z J (wl (gz (l':=ju S) g5 a Z Z J Z OneC.h λbx a an bc=>?_))));have d:=d.g8 an K;refine qi (j6 (ko [_] ⟨⟨Q,0,Z,kj g5 Z Z a.kc J⟩,trivial⟩ ?_));exact⟨Z,d⟩
theorem into_calls (w:World) {sb:Nat} {h:List Ai} (hs:gu w sb 304 (ju h)) (hl:h.length=8) {b:List UInt8} (hb:b.length=64) (hg:Seg w 0 0 (ju qr)):
  ge prog 208 [.pointer (some ⟨sb,0,none⟩),.agg (g6 b).toArray] w λ_ w'=>gu w' sb 304 (ju (intoW qr h b))/\Ext (One sb) w w':=by
 have a9:=hs.lt;refine gt func208 ?_;have f:=Ext.refl (One sb) w;refine ki (gn Z λb3 w1 ba n Q=>?_);have f:=f.g4 Q;have n:gu w1 b3 164 (g6 b):=n;refine qi (jy Z ?_);have hs:=hs.g0 Q;have hg:=hg.g0 Q;refine je Z hs.kc (by rw[uf,hl]) (gn Z λF w2 S a G=>?_);have R:=gw n.lt S;have H:=Nat.le_trans f.size S;have n:=n.g0 G;have hs:=hs.g0 G;have hg:=hg.g0 G;have f:=f.g4 G;have r:¬One F sb:=λe=>by have e:sb=F:=e;omega
 have s:¬One F 0:=λe=>by have e:0=F:=e;omega
 refine wl (gz (l':=ju h) g5 a Z Z (by rw[uf,hl]) (by rw[uf,hl];rfl) OneC.h λw3 a J bb=>?_);have n:=n.g9 J R;have hs:=hs.ext J r;have hg:=hg.ext J s;have f:=f.g8 J H;refine qi (gh (ki (je Z n.kc (by rw[gb,hb]) (g7 call220 Z (drawn_calls w3 hb) ?_))));rintro v4 w4⟨rfl,K⟩;have a:=a.g0 K;have hs:=hs.g0 K;have hg:=hg.g0 K;have f:=f.g4 K;have ae:=qx b 64;have hi:intoW qr h b=List.zipWith (·+·) h (Ar h qr (sched b 64) 64):=rfl;rw[hi];generalize sched b 64=W at ae|-;refine k9 Z (j0 (ja (α:=Nat) [0,4,19] Z (λz=>[(20,.int .i64 (z:Int))]) (λz u=>(z<=64/\gu u sb 304 (ju h)/\Seg u 0 0 (ju qr))/\gu u F 276 (ju (Ar h qr W z))/\Ext (One sb) w u) (λz u=>64-z) (0) Z ⟨⟨by decide,hs,hg⟩,a,f⟩ ?_));rintro t w5 ⟨⟨ht,hs,hg⟩,a,f⟩;refine uz Z (jc Z (λhc=>?_) (λhc=>?_));have ht:t<64:=by omega
 obtain⟨a0,a1,a2,a3,a4,a5,a6,a7,h8⟩:=eight (l:=Ar h qr W t) (by rw[zz5,hl]);rw[h8] at a;have hW:=B8 W (i:=t) zo;have hk:=B8 qr (i:=t) ht;refine yz (jy Z (wl (st_id g5 Z t Z ht (.inl ⟨Z,by simpa using hW⟩) (k9 Z (gh (jl Z 6 [qP 0,qP 1,qP 2,qP 3,qP 4,qP 5] [] (No) zk λw6 M bc=>?_))))));have g:=a;have a:=a.g0 M;have hs:=hs.g0 M;have hg:=hg.g0 M;have f:=f.g4 M;refine qe g5 Z Z 1 Z 0 Z zd 0 Z (gy g5 Z Z (λw' d=>(g.g0 d).cell Z) (qe g5 Z Z 1 Z 4 Z zd 4 Z (gy g5 Z Z (λw' d=>(g.g0 d).cell Z) (gl g5 2 Z (jd (j1 (jh (gh (jl Z 24 [qP 0,qP 1,qP 2,qP 6,qP 7,qP 8,qP 9,qP 10,qP 11,qP 12,qP 13,qP 14,qP 15,qP 17,qP 18,qP 19,qP 21,(3,false),(4,false),qP 5,qP 16,qP 20,qP 22,qP 23] [] (No) zk λw7 B bd=>?_)))))))));have g:=a;have af:=hg;have a:=a.g0 B;have hs:=hs.g0 B;have hg:=hg.g0 B;have f:=f.g4 B;have C:Ext (No) _ w7:=B.no;refine qe g5 Z Z 1 Z 7 Z zd 7 Z (gy g5 Z Z (λw' d=>(g.g0 d).cell Z) (gl g5 1 Z (qe g5 Z Z 1 Z 6 Z zd 6 Z (gy g5 Z Z (λw' d=>(g.g0 d).cell Z) (gl g5 1 Z (qe g5 Z Z 1 Z 5 Z zd 5 Z (gy g5 Z Z (λw' d=>(g.g0 d).cell Z) (qe g5 Z Z 1 Z 6 Z zd 6 Z (gy g5 Z Z (λw' d=>(g.g0 d).cell Z) (gl g5 4 Z (qe g5 Z Z 1 Z t Z ht (0+t) zo (gy g5 Z Z (λw' d=>(af.g0 d) t _ hk) (gl g5 1 Z (jg Z (kz g5 Z 1 Z Z Z zd zd zt Z λU w8 aq V y bf=>⟨C.g4 y,?_⟩)))))))))))))));have a:=a.g0 y;have hs:=hs.g0 y;have hg:=hg.g0 y;have f:=f.g4 y;have C:=C.g4 y;refine jg Z (gx call221 Z (A8 w8 _ (p:=some ⟨U,0,none⟩) (c:=3) (ns:=[6,11,25]) ⟨Z,.inr ⟨U,0,Z,V.kc⟩⟩ zd zd) λv9 w9 X=>⟨(by obtain⟨rfl,A⟩:=X;exact C.g4 A),?_⟩);obtain⟨rfl,A⟩:=X;have a:=a.g0 A;have hs:=hs.g0 A;have hg:=hg.g0 A;have f:=f.g4 A;refine gl g5 4 Z ?_;rw[yz1,w_and,yz1,Bg,Bg,Bg,Bg];refine gl g5 1 Z (jd (j1 (jh (gh (jl Z 17 [qP 0,qP 3,qP 4,qP 5,qP 6,qP 7,qP 8,qP 9,qP 10,qP 11,qP 12,qP 13,qP 14,(1,false),(2,false),qP 15,qP 16] [] (No) zk λag o ar=>?_)))));have g:=a;have a:=a.g0 o;have hs:=hs.g0 o;have hg:=hg.g0 o;have f:=f.g4 o;have C:Ext (No) _ ag:=o.no;refine gl g5 2 Z (qe g5 Z Z 1 Z 1 Z zd 1 Z (gy g5 Z Z (λw' d=>(g.g0 d).cell Z) (gl g5 1 Z (qe g5 Z Z 1 Z 2 Z zd 2 Z (gy g5 Z Z (λw' d=>(g.g0 d).cell Z) (gl g5 1 Z (qe g5 Z Z 1 Z 1 Z zd 1 Z (gy g5 Z Z (λw' d=>(g.g0 d).cell Z) (gl g5 3 Z (jg Z (kz g5 Z 1 Z Z Z zd zd zt Z λY ah hn52 I j au=>⟨C.g4 j,?_⟩)))))))))));have a:=a.g0 j;have hs:=hs.g0 j;have hg:=hg.g0 j;have f:=f.g4 j;have C:=C.g4 j;refine jg Z (gx call221 Z (A8 ah _ (p:=some ⟨Y,0,none⟩) (c:=3) (ns:=[2,13,22]) ⟨Z,.inr ⟨Y,0,Z,I.kc⟩⟩ zd zd) λbg bh O=>⟨(by obtain⟨rfl,k⟩:=O;exact C.g4 k),?_⟩);obtain⟨rfl,k⟩:=O;have a:=a.g0 k;have hs:=hs.g0 k;have hg:=hg.g0 k;have f:=f.g4 k;refine gl g5 1 Z ?_;rw[w_and,w_or,w_and,w_or,Bg];refine gl g5 1 Z (jd (j1 (jh (gh (jl Z 3 [qP 0,qP 1,(2,false)] [] (One F) zk λai q av=>?_)))));have a:=a.g0 q;have hs:=hs.g0 q;have hg:=hg.g0 q;have f:=f.g4 q;have C:Ext (One F) _ ai:=q.no;refine xw3 g5 Z Z 1 8 8 1 Z ⟨.inr ⟨Z,Z⟩,.inr ⟨Z,Z⟩,.inl Z,by decide,by decide,by decide⟩ (xw3 g5 Z Z 0 7 8 1 Z ⟨.inr ⟨Z,Z⟩,.inl Z,.inr ⟨Z,Z⟩,by decide,by decide,by decide⟩ (jg Z (zw0 g5 Z 1 Z a (Src.slice (m:=7) (news:=ju [a0,a1,a2,a3,a4,a5,a6]) ⟨Z,.inr ⟨F,0,Z,(a.kc.take 7)⟩⟩ OneC.h) (show 7<=7 from by decide) (show 8<=8 from by decide) λaj ak x aw=>⟨C.then x,?_⟩)));have a:gu aj F 276 (ju [a0,a0,a1,a2,a3,a4,a5,a6]):=ak;have hs:=hs.ext x r;have hg:=hg.ext x s;have f:=f.g8 x H;refine jd (j1 (jh (jy Z ?_)));rw[Bg];refine jo Z 1 Z 0 Z zd 0 Z (wl (uh g5 a Z Z (show 0<8 from by decide) λbi a D ax=>?_));have hs:=hs.ext D r;have hg:=hg.ext D s;have f:=f.g8 D H;refine qi (gr (jo Z 1 Z 4 Z zd 4 Z (j3 a Z Z (gv g5 Z ?_))));rw[Bg];refine jo Z 1 Z 4 Z zd 4 Z (wl (uh g5 a Z Z (show 4<8 from by decide) λam a E ay=>?_));have hs:=hs.ext E r;have hg:=hg.ext E s;have f:=f.g8 E H
 have a:gu am F 276 (ju (Ar h qr W (t+1))):=by
  have e1:W.getD t 0=W[t]'zo:=by rw[bQ,aS zo];rfl
  have e2:qr.getD t 0=qr[t]'ht:=by rw[bQ,aS ht];rfl
  rw[Ar,h8,e1,e2];exact a
 refine ga (yt Z ?_);rw[jt _ zo];refine ga ?_;exact j9 (t+1) Z ⟨⟨by omega,hs,hg⟩,a,f⟩ zf;have h0:t=64:=by omega
 subst h0;have aa:(Ar h qr W 64).length=8:=by rw[zz5,hl]
 generalize Ar h qr W 64=L at a aa|-;refine zu (ki (j8 a Z (by rw[uf,aa]) (k9 Z (j0 (ja (α:=Nat) [0,80] Z (λz=>[(81,.int .i64 (z:Int))]) (λz u=>(z<=8/\gu u sb 304 (ju (List.zipWith (·+·) (h.take z) (L.take z)++h.drop z)))/\Ext (One sb) w u) (λz u=>8-z) (0) Z ⟨⟨by decide,by simpa using hs⟩,f⟩ ?_)))));rintro i bj ⟨⟨N,hs⟩,f⟩;refine uz Z (jc Z (λhc=>?_) (λhc=>?_));have N:i<8:=by omega
 have h1:i<h.length:=by omega
 have h2:i<L.length:=by omega
 have an:=B8 L h2;refine yz (jy Z (wl (st_id g5 Z i Z N (.inl ⟨Z,by simpa using an⟩) (k9 Z (jl Z 13 [qP 0,qP 1,qP 2,qP 3,qP 4,qP 5,qP 6,qP 7,qP 8,qP 9,qP 10,qP 11,qP 12] [13] (No) zk λbk P az=>?_)))));have ap:=hs;have hs:=hs.g0 P;have f:=f.g4 P;refine gl g5 5 Z (qe g5 Z Z 1 Z i Z N (0+i*1) Z (gy g5 Z Z (λw' d=>(ap.g0 d).cell (i:=0+i*1) (v:=xc h[i]) (zip_at h1 h2)) (gl g5 2 Z ?_)));rw[Bg];refine gl g5 3 Z (qe g5 Z Z 1 Z i Z N (0+i*1) Z (jd (wb Z (uh g5 hs Z Z (by rw[uf,al,List.length_zipWith,aK,aK,aW];omega) λbm ab ac a8=>?_))));rw[zip_set h1 h2] at ab;have hs:=ab;have f:=f.then ac;refine j1 (yt Z ?_);rw[jt _ zo];refine ga ?_;exact j9 (i+1) Z ⟨⟨by omega,hs⟩,f⟩ zf;have h0:i=8:=by omega
 subst h0;have e1:h.take 8=h:=aL zo;have e2:L.take 8=L:=aL zo;have e3:h.drop 8=[]:=bY zo;rw[e1,e2,e3,bJ] at hs;refine vw (ke (ke (qu (yq Z ?_))));exact⟨hs,f⟩
theorem start_calls (w:World):
  ge prog 207 [] w λv w'=>v= .agg (ju Ae).toArray/\Ext No w w':=by
 refine gt func207 ?_;have b:=Ext.refl No w;refine ki (gn Z λg j c a d=>?_);have e:=Nat.le_trans b.size c;have b:=b.g4 d;refine qi (ki (jv Z zr (l':=ju Ae) Z (wl (gz (l':=ju Ae) g5 a Z Z Z Z OneC.h λk a f i=>?_))));have b:=b.g8 f e;refine qi (j6 (ko [_] ⟨⟨g,0,Z,kj g5 Z Z a.kc Z⟩,trivial⟩ ?_));exact⟨Z,b⟩
theorem pad_calls (w:World) {p:Option Addr} {c:Nat} {l:List UInt8} (h:ux w p l) (hl:l.length<100000000):
  ge prog 209 [.slice p l.length c] w λv w'=>∃b,v= .slice (some ⟨b,0,none⟩) (zq2 l).length (zq2 l).length/\w.heap.size<=b/\gu w' b 5 (g6 (zq2 l))/\Ext No w w':=by
 obtain⟨F,L⟩:∃F,F=(l.length+72)/64*64-8:=⟨_,Z⟩
 have B:l.length+1<=F:=by omega
 obtain⟨k,C⟩:∃k,F=l.length+(k+1):=⟨F-(l.length+1),by omega⟩
 have D:IntKind.i64.wrap (IntKind.i64.wrap ((IntKind.i64.wrap ((l.length:Int)+72)).tdiv 64)*64)=((F+8:Nat):Int):=by rw[jt ((l.length:Int)+72) zo,IntWalk.i64_quo _ _ zo,jt _ zo];omega
 refine gt func209 ?_;have f:=Ext.refl No w;refine jn Z (jy Z ?_);rw[D];refine qi (jy Z ?_);rw[show IntKind.i64.wrap (((F+8:Nat):Int)-8)=(F:Int) from by rw[jt _ zo];omega];refine wl (zq8 g5 Z F F 1 Z Z Z zd Z Z (aA _) zo zq λd E j a n G=>?_);have g:=Nat.le_trans f.size j;have f:=f.g4 n;have a:gu E d 5 (g6 (List.replicate F 0)):=by(have e:Cl F (cellsOf ti5.zero)=g6 (List.replicate F 0):=yz6 _);rw[<-e];exact a
 refine k9 Z (jy Z (wl (zw0 g5 Z 1 Z a (Src.slice (h.g0 f) OneC.h) zn (by rw[gb,bM];dsimp only;omega) λH o q J=>?_)))
 have a:gu H d 5 (g6 (l++(List.replicate (k+1) 0++[]))):=by
  have e:Vc.put (g6 (List.replicate F 0)) 0 (g6 l)=g6 (l++(List.replicate (k+1) 0++[])):=by rw[put_eq _ _ _ (by simp[gb];omega)];rw[uo];subst C;simp[qd,gb]
  rw[<-e];exact o
 have f:=f.g8 q g;refine qi (jy Z (jo Z 1 Z l.length Z zo (0+l.length*1) Z (wl (uh g5 a Z Z (by rw[gb];simp) λz a r K=>?_))));have f:=f.g8 r g
 have m:l++(128::(List.replicate k 0++[]))++be 8 (8*l.length)=zq2 l:=by
  have s:k=(l.length+72)/64*64-8-(l.length+1):=by omega
  rw[zq2,s];simp
 have a:gu z d 5 (g6 (l++(128::(List.replicate k 0++[])))):=by rw[aX,aY,show(Value.int .u8 128)=yf 128 from Z,g6,<-List.map_set,dA _ _ (aA _),Nat.sub_self,List.replicate_succ] at a;exact a
 have i:(l++(128::(List.replicate k 0++[]))).length=F:=by simp;omega
 refine qi (jy Z ?_);rw[show IntKind.u64.wrap (IntKind.u64.wrap (l.length:Int)*2^min (3:Int).toNat IntKind.u64.bits)=((8*l.length:Nat):Int) from by rw[show(2:Int)^min (3:Int).toNat IntKind.u64.bits=8 from Z,cR (l.length:Int) zo,cR _ zo];omega];rw[show Value.slice (some ⟨d,0,none⟩) F F= .slice (some ⟨d,0,none⟩) (l++(128::(List.replicate k 0++[]))).length F from by rw[i]];have t:=f;refine g7 call222 Z (put64_calls z (l:=l++(128::(List.replicate k 0++[]))) ⟨by simp[gb],.inr ⟨d,0,Z,a.kc⟩⟩ zo (8*l.length) zo) ?_;rintro M N⟨b,rfl,x,A,y⟩;have f:=f.g4 y;rw[m] at A|-;refine vl Z (gp Z Z ?_);exact⟨b,Z,Nat.le_trans t.size x,A,f⟩
theorem sum_calls (w:World) {p:Option Addr} {c:Nat} {l:List UInt8} (h:ux w p l) (hl:l.length<100000000) (hg:Seg w 0 0 (ju qr)):
  ge prog 181 [.slice p l.length c] w λv w'=>v= .agg (g6 (sumW l)).toArray/\Ext No w w':=by
 have aq:0<w.heap.size:=hg.lt zd;refine gt func181 ?_;have f:=Ext.refl No w;refine ki (gn Z λN w1 ad a A=>?_);have ae:=Nat.le_trans f.size ad;have hg:=hg.g0 A;have f:=f.g4 A;refine qi (ki (g7 call207 Z (start_calls w1) ?_));rintro v2 w2⟨rfl,B⟩;have a:=a.g0 B;have hg:=hg.g0 B;have f:=f.g4 B;refine jv Z zr (l':=ju Ae) Z (jv Z zr (l':=ju Ae) Z (gn Z λQ w3 R d C=>?_));have D:=gw a.lt R;have S:=Nat.le_trans f.size R;have a:=a.g0 C;have hg:=hg.g0 C;have f:=f.g4 C;have t:¬One Q 0:=λe=>by have e:0=Q:=e;have:=A.size;omega
 have E:¬One Q N:=λe=>by have e:N=Q:=e;omega
 refine wl (gz (l':=ju Ae) g5 d Z Z Z Z OneC.h λw4 d F a0=>?_);have a:=a.g9 F D;have hg:=hg.ext F t;have f:=f.g8 F S;refine qi (ki (wl (st_mf Z (k9 Z (gh (jy Z ?_))))));have au:=f;refine g7 call209 Z (pad_calls w4 (h.g0 f) hl) ?_;rintro v5 w5⟨bp,rfl,av,G,s⟩;have a:=a.g0 s;have hg:=hg.g0 s;have f:=f.g4 s;have d:=d.g0 s;have ah:(zq2 l).length%64=0:=by rw[xq7];omega
 have ai:(zq2 l).length<200000000:=by rw[xq7];omega
 have T:sumW l=(Ax qr Ae (zq2 l) ((zq2 l).length/64)).flatMap λx=>be 4 x.toNat:=rfl;rw[T];generalize zq2 l=P at G ah ai|-;refine k9 Z (j0 (ja (α:=Nat×Option Addr×Nat) [2,3,4] Z (λz=>[(5,.slice z.2.1 (P.drop (64*z.1)).length z.2.2)]) (λz u=>(64*z.1<=P.length/\ux u z.2.1 (P.drop (64*z.1))/\TyU u z.2.1/\(P.drop (64*z.1)).length<=z.2.2/\gu u Q 304 (ju (Ax qr Ae P z.1))/\Seg u 0 0 (ju qr))/\gu u N 30 (cellsOf ti30.zero)/\Ext No w u) (λz u=>(P.drop (64*z.1)).length) (0,some ⟨bp,0,none⟩,P.length) Z ⟨⟨aF _,⟨by simp[gb],.inr ⟨bp,0,Z,G.kc⟩⟩,TyU.of G _ _,aA _,d,hg⟩,a,f⟩ ?_));rintro⟨k,q,U⟩ w6 ⟨⟨hk,V,o,J,d,hg⟩,a,f⟩;try dsimp only
 dsimp only at hk V o J d;refine gh (jn Z (jc Z (λhc=>?_) (λhc=>?_)));have aj:(P.drop (64*k)).length=P.length-64*k:=aW;have W:64<=(P.drop (64*k)).length:=by omega
 obtain⟨y,j,rfl,g⟩:∃y j,q=some ⟨y,j,none⟩/\Seg w6 y j (g6 (P.drop (64*k))):=by rcases V.2 with X|h1;omega;exact h1
 have g:=g.take 64;rw[up] at g;have Y:((P.drop (64*k)).take 64).length=64:=by rw[aK];omega
 refine yz (xt Z (wl (Ay g5 Z 0 64 64 1 Z (.inl ⟨Z,Z⟩) (.inl Z) (.inr ⟨Z,Z⟩) (aF _) (aA _) zn ?_)));dsimp only;rw[qa];refine wl (st_sp g5 Z (show 64<=64-0 from aA _) (je Z g (by rw[gb,Y]) (g7 call208 Z (into_calls w6 d (by rw[D5];rfl) Y hg) ?_)));rintro v7 w7⟨I,r⟩;have a:=a.ext r E;have f:=f.g8 r S;have hg:=hg.ext r t;have V:ux _ _ _:=ux.ku V o r (λb L hb e=>hb.ne d zd e);have o:=o.ext r (λb L hb e=>hb.ne d zd e);have d:=I;refine ga (yt Z (wl (Ay g5 Z 64 (P.drop (64*k)).length U 1 Z (.inr ⟨Z,Z⟩) (.inr ⟨Z,Z⟩) (.inl Z) W J (aA _) ?_)));dsimp only;have e2:(P.drop (64*k)).length-64=(P.drop (64*(k+1))).length:=by simp only[aW];omega
 have K:=Sl.slice V 64 (P.drop (64*k)).length U W J (aA _);rw[aY,aY,uo,up,List.drop_drop,e2] at K;rw[show 64*k+64=64*(k+1) from Z,aL (aA _)] at K;rw[e2];refine gv g5 Z (ga ?_);exact j9 (k+1,ub (some ⟨y,j,none⟩) 64 U 1,U-64) Z ⟨⟨by dsimp only;omega,K,o.sub _ _ _,by dsimp only;omega,d,hg⟩,a,f⟩ (by dsimp only;simp only[aW];omega);have aj:(P.drop (64*k)).length=P.length-64*k:=aW;have X:k=P.length/64:=by omega
 subst X;have aa:(Ax qr Ae P (P.length/64)).length=8:=by rw[D5];rfl
 generalize Ax qr Ae P (P.length/64)=H at d aa|-;refine zu (uz Z (jy Z (je Z d.kc (by rw[uf,aa]) (k9 Z (j0 (ja (α:=Nat×Option Addr×Nat×List UInt8) [2,28] Z (λz=>[(6,.slice z.2.1 z.2.2.2.length z.2.2.1),(29,.int .i64 (z.1:Int))]) (λz u=>(z.1<=8/\ux u z.2.1 z.2.2.2/\z.2.2.2=(H.take z.1).flatMap (λx=>be 4 x.toNat))/\gu u N 30 (cellsOf ti30.zero)/\Ext No w u) (λz u=>8-z.1) (0,none,0,[]) Z ⟨⟨by decide,Sl.nil _ _ _,by simp⟩,a,f⟩ ?_))))));rintro⟨i,q,U,O⟩ w8 ⟨⟨M,hO,m⟩,a,f⟩;try dsimp only
 dsimp only at M hO m;refine uz Z (jc Z (λhc=>?_) (λhc=>?_));have M:i<8:=by omega
 have am:=B8 H (i:=i) zo;have n:O.length=4*i:=by rw[m,xv5,aK];omega
 refine yz (ki (wl (st_id g5 Z i Z M (.inl ⟨Z,by simpa using am⟩) (k9 Z (xt Z (g7 call179 Z (A7 w8 hO zo _ (BitVec.isLt _)) ?_))))));rintro v9 w9⟨bo,rfl,aw,ap,ab⟩;have a:=a.g0 ab;have f:=f.g4 ab;refine gv g5 Z (ga (yt Z ?_));rw[jt _ zo];refine ga ?_;exact j9 (i+1,some ⟨bo,0,none⟩,(O++be 4 (H[i]).toNat).length,O++be 4 (H[i]).toNat) Z ⟨⟨by dsimp only;omega,⟨by simp[gb],.inr ⟨bo,0,Z,ap.kc⟩⟩,by dsimp only;rw[List.take_succ_eq_append_getElem zo,aQ,m];simp⟩,a,f⟩ zf;have X:i=8:=by omega
 subst X;have n:O.length=32:=by rw[m,xv5,aK];omega
 have m:O=H.flatMap (λx=>be 4 x.toNat):=by rw[m,aL zo]
 obtain⟨y,j,rfl,g⟩:∃y j,q=some ⟨y,j,none⟩/\Seg w8 y j (g6 O):=by rcases hO.2 with X|h1;omega;exact h1
 refine zu (jy Z (wl (st_sp g5 Z (Nat.le_of_eq n.symm) (je Z g (by rw[gb,n]) (wl (gz (l':=g6 O) g5 a Z Z (by rw[gb,n]) (by rw[gb,n];rfl) OneC.h λax a ac ar=>?_))))));have f:=f.g8 ac ae;refine qi (j6 (ko [_] ⟨⟨N,0,Z,kj g5 Z Z a.kc (by rw[gb,n];rfl)⟩,trivial⟩ ?_));exact⟨by rw[m];rfl,f⟩
theorem turned2_calls (w:World) (x:Ai):
  ge prog 211 [xc x,.int .u64 2] w λv w'=>v=xc (rot x 2)/\w'=w:=by
 refine gt func211 (jn Z (jn Z (jn Z (j6 (gp Z Z ?_)))));exact⟨congrArg (Value.int .u32) (Cx x 2 zd),Z⟩
theorem turned6_calls (w:World) (x:Ai):
  ge prog 211 [xc x,.int .u64 6] w λv w'=>v=xc (rot x 6)/\w'=w:=by
 refine gt func211 (jn Z (jn Z (jn Z (j6 (gp Z Z ?_)))));exact⟨congrArg (Value.int .u32) (Cx x 6 zd),Z⟩
theorem turned7_calls (w:World) (x:Ai):
  ge prog 211 [xc x,.int .u64 7] w λv w'=>v=xc (rot x 7)/\w'=w:=by
 refine gt func211 (jn Z (jn Z (jn Z (j6 (gp Z Z ?_)))));exact⟨congrArg (Value.int .u32) (Cx x 7 zd),Z⟩
theorem turned11_calls (w:World) (x:Ai):
  ge prog 211 [xc x,.int .u64 11] w λv w'=>v=xc (rot x 11)/\w'=w:=by
 refine gt func211 (jn Z (jn Z (jn Z (j6 (gp Z Z ?_)))));exact⟨congrArg (Value.int .u32) (Cx x 11 zd),Z⟩
theorem turned13_calls (w:World) (x:Ai):
  ge prog 211 [xc x,.int .u64 13] w λv w'=>v=xc (rot x 13)/\w'=w:=by
 refine gt func211 (jn Z (jn Z (jn Z (j6 (gp Z Z ?_)))));exact⟨congrArg (Value.int .u32) (Cx x 13 zd),Z⟩
theorem turned17_calls (w:World) (x:Ai):
  ge prog 211 [xc x,.int .u64 17] w λv w'=>v=xc (rot x 17)/\w'=w:=by
 refine gt func211 (jn Z (jn Z (jn Z (j6 (gp Z Z ?_)))));exact⟨congrArg (Value.int .u32) (Cx x 17 zd),Z⟩
theorem turned18_calls (w:World) (x:Ai):
  ge prog 211 [xc x,.int .u64 18] w λv w'=>v=xc (rot x 18)/\w'=w:=by
 refine gt func211 (jn Z (jn Z (jn Z (j6 (gp Z Z ?_)))));exact⟨congrArg (Value.int .u32) (Cx x 18 zd),Z⟩
theorem turned19_calls (w:World) (x:Ai):
  ge prog 211 [xc x,.int .u64 19] w λv w'=>v=xc (rot x 19)/\w'=w:=by
 refine gt func211 (jn Z (jn Z (jn Z (j6 (gp Z Z ?_)))));exact⟨congrArg (Value.int .u32) (Cx x 19 zd),Z⟩
theorem turned22_calls (w:World) (x:Ai):
  ge prog 211 [xc x,.int .u64 22] w λv w'=>v=xc (rot x 22)/\w'=w:=by
 refine gt func211 (jn Z (jn Z (jn Z (j6 (gp Z Z ?_)))));exact⟨congrArg (Value.int .u32) (Cx x 22 zd),Z⟩
theorem turned25_calls (w:World) (x:Ai):
  ge prog 211 [xc x,.int .u64 25] w λv w'=>v=xc (rot x 25)/\w'=w:=by
 refine gt func211 (jn Z (jn Z (jn Z (j6 (gp Z Z ?_)))));exact⟨congrArg (Value.int .u32) (Cx x 25 zd),Z⟩
theorem known_calls (w:World):
  ge prog 183 [] w λv w'=>∃b,v= .slice (some ⟨b,0,none⟩) 64 64/\w.heap.size<=b/\gu w' b 35 (ju qr)/\Ext No w w':=by
 refine gt func183 ?_;have a:=Ext.refl No w;refine jn Z (ki (wl (kz g5 Z 1 Z Z Z zd zd zt Z λg i c d e h=>?_)));have f:=Nat.le_trans a.size c;have a:=a.g4 e;refine vl Z (gp Z Z ?_);exact⟨g,Z,f,d,a⟩
theorem mix2 (x : Ai) (a b : Nat) : Cr x [a, b] = rot x a ^^^ rot x b := by simp [Cr]
theorem div1024 (x : Ai) : IntKind.u32.wrap ((x.toNat : Int).tdiv 1024) = ((x >>> 10).toNat : Int) := div_eq x 10
theorem div8 (x : Ai) : IntKind.u32.wrap ((x.toNat : Int).tdiv 8) = ((x >>> 3).toNat : Int) := div_eq x 3
theorem mix3 (x : Ai) (a b c : Nat) : Cr x [a, b, c] = rot x a ^^^ rot x b ^^^ rot x c := by simp [Cr]
theorem out_calls (w:World) {p:Option Addr} {c:Nat} {b:List UInt8} (h:ux w p b) (hb:b.length=64) (hc:64<=c):
  ge prog 210 [.slice p b.length c] w λv w'=>∃q k,v= .slice q 64 k/\Own w' q 64 k 35 1 (ju (sched b 64))/\(∀x,j5 q x->w.heap.size<=x)/\Ext No w w':=by
 refine gt func210 ?_;have d:=Ext.refl No w;refine jn Z (uz Z (jn Z (j0 (ja (α:=Nat×Option Addr×Nat) [0] Z (λz=>[(3,.slice z.2.1 z.1 z.2.2),(4,.int .i64 (z.1:Int))]) (λz u=>(z.1<=64/\Own u z.2.1 z.1 z.2.2 35 1 (ju (sched b z.1))/\(∀x,j5 z.2.1 x->w.heap.size<=x))/\Ext No w u) (λz u=>64-z.1) (0,none,0) Z ⟨⟨by decide,Own.nil _ _ _,λx J=>by cases J⟩,d⟩ ?_))));rintro⟨t,q,k⟩ S ⟨⟨ht,i,f⟩,d⟩;try dsimp only
 dsimp only at ht i f;refine gh (jn Z (jc Z (λhc=>?_) (λhc=>?_)));have ht:t<64:=by omega
 refine vo (jb (α:=Option Addr×Nat) [0,4] Z (λz=>[(3,.slice z.1 (t+1) z.2)]) (λz u=>(Own u z.1 (t+1) z.2 35 1 (ju (sched b (t+1)))/\(∀x,j5 z.1 x->w.heap.size<=x))/\Ext No w u) ?_ ?_);refine j0 (gh (jn Z (jc Z (λhc=>?_) (λhc=>?_))));have o:t<16:=by omega
 have g:=nextW_raw (b:=b) (l:=sched b t) (by rw[qx];exact o);rw[qx] at g;have F:((b.drop (4*t)).take 4).length=4:=by rw[aK,aW];omega
 have T:ux S (ub p (4*t) c 1) ((b.drop (4*t)).take 4):=by have e:=Sl.slice (h.g0 d) (4*t) (4*t+4) c zo zo zo;rw[aY,aY,uo,up,show 4*t+4-4*t=4 from by omega] at e;rw[ux,F];exact e
 refine jy Z ?_;rw[jt (4*(t:Int)) zo,jt _ zo];refine wl (Ay g5 Z (4*t) (4*t+4) c 1 Z (.inr ⟨Z,Z⟩) (.inl (congrArg some zo)) (.inl (congrArg some zo)) zo zo (aA _) ?_);dsimp only;rw[show 4*t+4-4*t=((b.drop (4*t)).take 4).length from by rw[F];omega];refine g7 call113 Z (Ce S T (by rw[F];decide)) ?_;rintro v2 w2⟨rfl,rfl⟩;refine gv g5 Z ?_;rw[w_wrap,<-g];refine wl (kz g5 Z 1 Z Z Z zd zd zt Z λK w3 ai r L an=>?_);have i:=i.ext L λ_ _=>id;have d:=d.g4 L;have r:gu w3 K 35 (ju [nextW b (sched b t)]):=r;have s:=d;refine wl (ul g5 Z 1 4 Z Z Z zd i (Src.slice (m:=1) ⟨Z,.inr ⟨K,0,Z,r.kc⟩⟩ OneC.h) zm zn λV c4 w4 W X Y=>?_);have d:=s.trans X λy hy I=>by have:=f y I;omega
 have A:∀x,j5 V x->w.heap.size<=x:=λx J=>(Y x J).elim (λh=>f x h) λh=>Nat.le_trans s.size h;have G:Own w4 V (t+1) c4 35 1 (ju (sched b (t+1))):=by rw[sched,xw7];exact W
 refine k9 Z (vw ?_);exact ke (qu (gk (V,c4) Z ⟨⟨G,A⟩,d⟩));have o:¬t<16:=by omega
 have g:=nextW_mix (b:=b) (l:=sched b t) (by rw[qx];exact o);rw[qx] at g;obtain⟨M,rfl,n⟩:∃M,q=some ⟨M,0,none⟩/\Seg S M 0 (ju (sched b t)):=by rcases i with⟨_,h0,_⟩|⟨M,l,h1,h2,_,_,_,h3⟩;omega;refine⟨M,h1,?_⟩;rw[<-h3];exact h2.kc.take _
 have aa:(Cr ((sched b t).getD (t-2) 0) [17,19]^^^(sched b t).getD (t-2) 0>>>10)+(sched b t).getD (t-7) 0+(Cr ((sched b t).getD (t-15) 0) [7,18]^^^(sched b t).getD (t-15) 0>>>3)+(sched b t).getD (t-16) 0=nextW b (sched b t):=by rw[g];ac_rfl
 refine vo (gh (jl Z 12 [qP 0,qP 1,qP 2,qP 3,qP 4,qP 5,qP 6,qP 7,qP 8,qP 9,qP 10,qP 11] [] (No) zk λw5 E ap=>?_));have a:=n;have i:=i.ext E λ_ _=>id;have n:=n.g0 E;have d:=d.g4 E;have hC:Ext (No) _ w5:=E.no;refine gl g5 3 Z ?_;rw[jt _ zo];refine qe g5 Z Z 1 Z (t-2) zo zo (0+(t-2)) zo (gy g5 Z Z (λw' j=>(a.g0 j) (t-2) _ (Br _ (by rw[qx];omega))) (gl g5 3 Z ?_));rw[jt _ zo];refine qe g5 Z Z 1 Z (t-15) zo zo (0+(t-15)) zo (gy g5 Z Z (λw' j=>(a.g0 j) (t-15) _ (Br _ (by rw[qx];omega))) (gl g5 2 Z (jd (j1 (jh (jy Z (g7 call211 Z (turned17_calls w5 _) ?_)))))));rintro v6 w6⟨rfl,rfl⟩;refine gv g5 Z (g7 call211 Z (turned19_calls w6 _) ?_);rintro v7 w7⟨rfl,rfl⟩;refine gv g5 Z ?_;rw[yz1,div1024,yz1,<-mix2];refine qi (jy Z (g7 call211 Z (turned7_calls w7 _) ?_));rintro v8 w8⟨rfl,rfl⟩;refine gv g5 Z (g7 call211 Z (turned18_calls w8 _) ?_);rintro v9 w9⟨rfl,rfl⟩;refine gv g5 Z ?_;rw[yz1,div8,yz1,<-mix2];refine qi (jl Z 17 [qP 0,qP 1,qP 2,qP 3,qP 4,qP 5,qP 6,qP 7,qP 8,qP 9,qP 10,qP 11,qP 12,qP 13,qP 14,qP 15,(16,false)] [17,18] (No) zk λaf B aj=>?_);have a:=n;have i:=i.ext B λ_ _=>id;have d:=d.g4 B;have hC:Ext (No) _ af:=B.no;refine gl g5 5 Z ?_;rw[jt _ zo];refine qe g5 Z Z 1 Z (t-7) zo zo (0+(t-7)) zo (gy g5 Z Z (λw' j=>(a.g0 j) (t-7) _ (Br _ (by rw[qx];omega))) (gl g5 6 Z ?_));rw[jt _ zo];refine qe g5 Z Z 1 Z (t-16) zo zo (0+(t-16)) zo (gy g5 Z Z (λw' j=>(a.g0 j) (t-16) _ (Br _ (by rw[qx];omega))) (gl g5 1 Z ?_));rw[Bg,Bg,Bg,aa];refine jg Z (kz g5 Z 1 Z Z Z zd zd zt Z λN ag ak C D am=>⟨hC.g4 D,?_⟩);have i:=i.ext D λ_ _=>id;have d:=d.g4 D;have C:gu ag N 35 (ju [nextW b (sched b t)]):=C;refine jd ?_;have s:=d;refine wb Z (ul g5 Z 1 4 Z Z Z zd i (Src.slice (m:=1) ⟨Z,.inr ⟨N,0,Z,C.kc⟩⟩ OneC.h) zm zn λH O ah P Q R=>?_);have d:=s.trans Q λy hy I=>by have:=f y I;omega
 have A:∀x,j5 H x->w.heap.size<=x:=λx J=>(R x J).elim (λh=>f x h) λh=>Nat.le_trans s.size h;have G:Own ah H (t+1) O 35 1 (ju (sched b (t+1))):=by rw[sched,xw7];exact P
 refine wb Z (st_p g5 Z Z Z (j1 ?_));exact jm (gk (H,O) Z ⟨⟨G,A⟩,d⟩);rintro⟨q,k⟩ aq ⟨⟨i,f⟩,d⟩;dsimp only at i f;refine xt Z ?_;rw[jt _ zo];refine ga ?_;exact j9 (t+1,q,k) Z ⟨⟨by dsimp only;omega,i,f⟩,d⟩ zf;have h0:t=64:=by omega
 subst h0;refine zu (jn Z (j6 (gp Z Z ?_)));exact⟨q,k,Z,i,f,d⟩
theorem ch_eq (e f g:Ai):(e&&&f||| ~~~e&&&g)=g^^^(e&&&(f^^^g)):=by
 apply BitVec.eq_of_getLsbD_eq;intro i a;simp only[BitVec.getLsbD_or,BitVec.getLsbD_and,BitVec.getLsbD_xor,BitVec.getLsbD_not,a,decide_true,Bool.true_and];cases e.getLsbD i<;>cases f.getLsbD i<;>cases g.getLsbD i<;>rfl
theorem maj_eq (a b c:Ai):(a&&&b|||a&&&c|||b&&&c)=(a&&&b|||c&&&(a|||b)):=by
 apply BitVec.eq_of_getLsbD_eq;intro i d;simp only[BitVec.getLsbD_or,BitVec.getLsbD_and];cases a.getLsbD i<;>cases b.getLsbD i<;>cases c.getLsbD i<;>rfl
theorem refInto_calls (w:World) {h:List Ai} (hl:h.length=8) {p:Option Addr} {c:Nat} {b:List UInt8} (hsb:ux w p b) (hb:b.length=64) (hc:64<=c) {kb:Nat} {d:Nat} (hk:Seg w kb 0 (ju qr)):
  ge prog 184 [.agg (ju h).toArray,.slice p b.length c,.slice (some ⟨kb,0,none⟩) 64 d] w λv w'=>v= .agg (ju (intoW qr h b)).toArray/\Ext No w w':=by
 have bb:=hk.lt zd;refine gt func184 ?_;have m:=Ext.refl No w;refine ki (gn Z λb3 w1 ai f aa=>?_);have aj:=Nat.le_trans m.size ai;have hk:=hk.g0 aa;have m:=m.g4 aa;have f:gu w1 b3 276 (ju h):=f;refine gn Z λb6 w2 ab g T=>?_;have U:=gw f.lt ab;have ak:=Nat.le_trans m.size ab;have f:=f.g0 T;have hk:=hk.g0 T;have m:=m.g4 T;refine qi (jy Z (g7 call210 Z (out_calls w2 (hsb.g0 m) hb hc) ?_));rintro v3 w3⟨q,kq,rfl,hq,bc,H⟩;have f:=f.g0 H;have g:=g.g0 H;have hk:=hk.g0 H;have m:=m.g4 H;obtain⟨K,rfl,j⟩:∃K,q=some ⟨K,0,none⟩/\Seg w3 K 0 (ju (sched b 64)):=by rcases hq with⟨_,h0,_⟩|⟨K,l,h1,h2,_,_,_,h3⟩;omega;refine⟨K,h1,?_⟩;rw[<-h3];exact h2.kc.take _
 have ac:=qx b 64;have ax:=j.lt (by intro e;have e:=congrArg List.length e;rw[uf,ac] at e;cases e);have hi:intoW qr h b=List.zipWith (·+·) h (Ar h qr (sched b 64) 64):=rfl;rw[hi];generalize sched b 64=W at ac j|-;refine k9 Z (ki (j8 f Z (by rw[uf,hl]) (gn Z λV w4 X a B=>?_)));have s:=gw f.lt X;have C:=gw g.lt X;have ad:=Nat.le_trans m.size X;have f:=f.g0 B;have g:=g.g0 B;have hk:=hk.g0 B;have j:=j.g0 B;have m:=m.g4 B;have M:¬One V kb:=λe=>by have e:kb=V:=e;omega
 have N:¬One V K:=λe=>by have e:K=V:=e;omega
 refine wl (gz (l':=ju h) g5 a Z Z (by rw[uf,hl]) (by rw[uf,hl];rfl) OneC.h λw5 a D bd=>?_);have f:=f.g9 D s;have g:=g.g9 D C;have hk:=hk.ext D M;have j:=j.ext D N;have m:=m.g8 D ad;refine qi (gh (jn Z (j0 (ja (α:=Nat) [2,3,6,7,8] Z (λz=>[(9,.int .i64 (z:Int))]) (λz u=>(z<=64/\Seg u K 0 (ju W)/\Seg u kb 0 (ju qr))/\gu u b3 276 (ju h)/\gu u b6 276 (cellsOf ti276.zero)/\gu u V 276 (ju (Ar h qr W z))/\Ext No w u) (λz u=>64-z) (0) Z ⟨⟨by decide,j,hk⟩,f,g,a,m⟩ ?_))));rintro t w6 ⟨⟨ht,j,hk⟩,f,g,a,m⟩;refine gh (jn Z (jc Z (λhc=>?_) (λhc=>?_)));have ht:t<64:=by omega
 obtain⟨O,I,a2,a3,F,a5,G,a7,h8⟩:=eight (l:=Ar h qr W t) (by rw[zz5,hl]);rw[h8] at a;have hW:=Br W (i:=t) zo;have an:=Br qr (i:=t) ht;refine yz (ki (jo Z 1 Z 4 Z zd 4 Z (j3 a Z Z (k9 Z (gh (jl Z 33 [qP 0,qP 1,qP 2,qP 4,qP 7,qP 11,qP 12,qP 13,qP 14,qP 15,qP 16,qP 17,qP 18,qP 19,qP 20,qP 22,qP 23,qP 24,qP 25,qP 27,qP 28,qP 29,qP 30,(3,false),(5,false),qP 6,(8,false),qP 9,qP 10,qP 21,qP 26,qP 31,qP 32] [] (No) zk λw7 x bf=>?_))))));have o:=a;have ap:=hk;have Y:=j;have f:=f.g0 x;have g:=g.g0 x;have a:=a.g0 x;have hk:=hk.g0 x;have j:=j.g0 x;have m:=m.g4 x;have y:Ext (No) _ w7:=x.no;refine qe g5 Z Z 1 Z 7 Z zd 7 Z (gy g5 Z Z (λw' k=>(o.g0 k).cell Z) (gl g5 4 Z (qe g5 Z Z 1 Z 5 Z zd 5 Z (gy g5 Z Z (λw' k=>(o.g0 k).cell Z) (gl g5 3 Z (qe g5 Z Z 1 Z 6 Z zd 6 Z (gy g5 Z Z (λw' k=>(o.g0 k).cell Z) (gl g5 4 Z (qe g5 Z Z 1 Z t Z ht (0+t) zo (gy g5 Z Z (λw' k=>(ap.g0 k) t _ an) (gl g5 2 Z (qe g5 Z Z 1 Z t Z ht (0+t) zo (gy g5 Z Z (λw' k=>(Y.g0 k) t _ hW) (jg Z (gx call211 Z (turned6_calls w7 _) λv8 w8 ae=>⟨(by obtain⟨rfl,rfl⟩:=ae;exact y),?_⟩)))))))))))))));obtain⟨rfl,rfl⟩:=ae;have y:=y;refine jg Z (gx call211 Z (turned11_calls w8 _) λv9 w9 af=>⟨(by obtain⟨rfl,rfl⟩:=af;exact y),?_⟩);obtain⟨rfl,rfl⟩:=af;have y:=y;refine gl g5 1 Z (jg Z (gx call211 Z (turned25_calls w9 _) λbg bh P=>⟨(by obtain⟨rfl,rfl⟩:=P;exact y),?_⟩));obtain⟨rfl,rfl⟩:=P;refine gl g5 5 Z ?_;rw[yz1,yz1,w_not,w_and,w_and,w_or,Bg,Bg,Bg,Bg,<-mix3,ch_eq];refine gl g5 1 Z (jd (j1 (jh (ki (jo Z 1 Z 0 Z zd 0 Z (j3 a Z Z (k9 Z (gh (jl Z 25 [qP 0,qP 2,qP 5,qP 8,qP 9,qP 10,qP 11,qP 12,qP 13,qP 14,qP 15,qP 16,qP 17,qP 18,qP 19,qP 20,qP 21,qP 22,(1,false),(3,false),qP 4,(6,false),qP 7,qP 23,qP 24] [] (No) zk λag n ay=>?_)))))))));have o:=a;have f:=f.g0 n;have g:=g.g0 n;have a:=a.g0 n;have hk:=hk.g0 n;have j:=j.g0 n;have m:=m.g4 n;have y:Ext (No) _ ag:=n.no;refine gl g5 4 Z (qe g5 Z Z 1 Z 1 Z zd 1 Z (gy g5 Z Z (λw' k=>(o.g0 k).cell Z) (gl g5 2 Z (qe g5 Z Z 1 Z 2 Z zd 2 Z (gy g5 Z Z (λw' k=>(o.g0 k).cell Z) (gl g5 2 Z (qe g5 Z Z 1 Z 1 Z zd 1 Z (gy g5 Z Z (λw' k=>(o.g0 k).cell Z) (qe g5 Z Z 1 Z 2 Z zd 2 Z (gy g5 Z Z (λw' k=>(o.g0 k).cell Z) (gl g5 2 Z (jg Z (gx call211 Z (turned2_calls ag _) λbi aq Q=>⟨(by obtain⟨rfl,rfl⟩:=Q;exact y),?_⟩)))))))))))));obtain⟨rfl,rfl⟩:=Q;have y:=y;refine jg Z (gx call211 Z (turned13_calls aq _) λbj ar R=>⟨(by obtain⟨rfl,rfl⟩:=R;exact y),?_⟩);obtain⟨rfl,rfl⟩:=R;have y:=y;refine gl g5 1 Z (jg Z (gx call211 Z (turned22_calls ar _) λbk bm S=>⟨(by obtain⟨rfl,rfl⟩:=S;exact y),?_⟩));obtain⟨rfl,rfl⟩:=S;refine gl g5 2 Z ?_;rw[yz1,yz1,w_and,w_and,w_and,w_or,w_or,Bg,<-mix3,maj_eq];refine gl g5 1 Z (jd (j1 (jh (xt Z ?_))));rw[Bg];refine jo Z 1 Z 0 Z zd 0 Z (j3 a Z Z (jo Z 1 Z 1 Z zd 1 Z (j3 a Z Z (jo Z 1 Z 2 Z zd 2 Z (j3 a Z Z (jo Z 1 Z 3 Z zd 3 Z (j3 a Z Z (gv g5 Z ?_))))))));rw[Bg];refine jo Z 1 Z 4 Z zd 4 Z (j3 a Z Z (jo Z 1 Z 5 Z zd 5 Z (j3 a Z Z (jo Z 1 Z 6 Z zd 6 Z (j3 a Z Z (jv Z zr (l':=ju [(a7+Cr F [6,11,25]+(G^^^(F&&&(a5^^^G)))+qr.getD t 0+W.getD t 0)+(Cr O [2,13,22]+((O&&&I)|||(a2&&&(O|||I)))),O,I,a2,a3+(a7+Cr F [6,11,25]+(G^^^(F&&&(a5^^^G)))+qr.getD t 0+W.getD t 0),F,a5,G]) Z (wl (gz (l':=ju [(a7+Cr F [6,11,25]+(G^^^(F&&&(a5^^^G)))+qr.getD t 0+W.getD t 0)+(Cr O [2,13,22]+((O&&&I)|||(a2&&&(O|||I)))),O,I,a2,a3+(a7+Cr F [6,11,25]+(G^^^(F&&&(a5^^^G)))+qr.getD t 0+W.getD t 0),F,a5,G]) g5 a rfl rfl rfl rfl OneC.h λw15 a r az=>?_))))))));have f:=f.g9 r s;have g:=g.g9 r C;have hk:=hk.ext r M;have j:=j.ext r N;have m:=m.g8 r ad;have a:gu w15 V 276 (ju (Ar h qr W (t+1))):=by rw[Ar,h8];exact a
 refine ga (yt Z ?_);rw[jt _ zo];refine ga ?_;exact j9 (t+1) Z ⟨⟨by omega,j,hk⟩,f,g,a,m⟩ zf;have h0:t=64:=by omega
 subst h0;have au:(Ar h qr W 64).length=8:=by rw[zz5,hl]
 generalize Ar h qr W 64=L at a au|-;refine zu (gh (jn Z (j0 (ja (α:=Nat) [3,6,8] Z (λz=>[(14,.int .i64 (z:Int))]) (λz u=>(z<=8)/\gu u b3 276 (ju (List.zipWith (·+·) (h.take z) (L.take z)++h.drop z))/\gu u b6 276 (cellsOf ti276.zero)/\gu u V 276 (ju L)/\Ext No w u) (λz u=>8-z) (0) Z ⟨by decide,f,g,a,m⟩ ?_))));rintro i bn ⟨J,f,g,a,m⟩;refine gh (jn Z (jc Z (λhc=>?_) (λhc=>?_)));have J:i<8:=by omega
 have h1:i<h.length:=by omega
 have h2:i<L.length:=by omega
 have av:=B8 L h2;refine yz (jl Z 9 [qP 0,qP 1,qP 2,qP 3,qP 4,qP 5,qP 6,qP 7,qP 8] [9] (No) zk λbp A a8=>?_);have aw:=f;have o:=a;have f:=f.g0 A;have g:=g.g0 A;have a:=a.g0 A;have m:=m.g4 A;refine gl g5 2 Z (qe g5 Z Z 1 Z i Z J (0+i*1) Z (gy g5 Z Z (λw' k=>(aw.g0 k).cell (i:=0+i*1) (v:=xc h[i]) (zip_at h1 h2)) (gl g5 1 Z (qe g5 Z Z 1 Z i Z J (0+i) zo (gy g5 Z Z (λw' k=>(o.g0 k).cell (i:=0+i) (v:=xc L[i]) (by rw[aX];exact av)) (gl g5 1 Z ?_))))));rw[Bg];refine qe g5 Z Z 1 Z i Z J (0+i*1) Z (jd (wb Z (uh g5 f Z Z (by rw[uf,al,List.length_zipWith,aK,aK,aW];omega) λbr f E a9=>?_)));have g:=g.g9 E U.symm;have a:=a.g9 E s.symm;have m:=m.g8 E aj;rw[zip_set h1 h2] at f;refine j1 (yt Z ?_);rw[jt _ zo];refine ga ?_;exact j9 (i+1) Z ⟨by omega,f,g,a,m⟩ zf;have h0:i=8:=by omega
 subst h0;have e1:h.take 8=h:=aL zo;have e2:L.take 8=L:=aL zo;have e3:h.drop 8=[]:=bY zo;rw[e1,e2,e3,bJ] at f;have hZ:(ju (List.zipWith (·+·) h L)).length=8:=by rw[uf,List.length_zipWith];omega
 refine zu (ki (j8 f Z hZ (wl (gz (l':=ju (List.zipWith (·+·) h L)) g5 g Z Z hZ (by rw[hZ];rfl) OneC.h λbs g ah ba=>?_))));have m:=m.g8 ah ak;refine qi (j6 (ko [_] ⟨⟨b6,0,Z,kj g5 Z Z g.kc (by rw[hZ];rfl)⟩,trivial⟩ ?_));exact⟨Z,m⟩
def xw0 (l : List UInt8) (j : Nat) : List UInt8 := l ++ (128 :: List.replicate j 0)
theorem padJ_len (l : List UInt8) (j : Nat) : (xw0 l j).length = l.length + 1 + j := by simp [xw0]; omega
theorem padJ_succ (l : List UInt8) (j : Nat) : xw0 l (j + 1) = xw0 l j ++ [0] := by rw [xw0, List.replicate_succ', xw0]; simp
theorem refPad_calls (w:World) {p:Option Addr} {c:Nat} {l:List UInt8} (h:ux w p l) (hl:l.length<100000000):
  ge prog 182 [.slice p l.length c] w λv w'=>∃q k,v= .slice q (zq2 l).length k/\Own w' q (zq2 l).length k 5 1 (g6 (zq2 l))/\(∀b,j5 q b->w.heap.size<=b)/\Ext No w w':=by
 obtain⟨K,hK⟩:∃K,K=(l.length+72)/64*64-8-(l.length+1):=⟨_,Z⟩
 have n:xw0 l K++be 8 (8*l.length)=zq2 l:=by rw[zq2,<-hK,xw0];simp
 refine gt func182 ?_;have a:=Ext.refl No w;refine jn Z (jy Z (wl (kz g5 Z 1 Z Z Z zd zd zt Z λT U aa g D ab=>?_)));have a:=a.g4 D;have g:gu U T 5 (g6 [128]):=g;have i:=a;refine g7 call97 Z (yj U (m:=[128]) (h.g0 a) ⟨Z,.inr ⟨T,0,Z,g.kc⟩⟩ zo zd) ?_;rintro v2 w2⟨q,k,rfl,f,d,F⟩;have a:=a.g4 F;have d:∀x,j5 q x->w.heap.size<=x:=λx G=>Nat.le_trans i.size (d x G);refine k9 Z (gh (j0 (ja (α:=Nat×Option Addr×Nat) [0] Z (λz=>[(3,.slice z.2.1 (xw0 l z.1).length z.2.2)]) (λz u=>(z.1<=K/\Own u z.2.1 (xw0 l z.1).length z.2.2 5 1 (g6 (xw0 l z.1))/\(∀x,j5 z.2.1 x->w.heap.size<=x))/\Ext No w u) (λz u=>K-z.1) (0,q,k) Z ⟨⟨aF _,f,d⟩,a⟩ ?_)));rintro⟨j,q,k⟩ w3 ⟨⟨hj,f,d⟩,a⟩;try dsimp only
 dsimp only at hj f d;have ac:=padJ_len l j;have e8:(IntKind.i64.wrap (((xw0 l j).length:Int)+8)).tmod 64=(((l.length+9+j)%64:Nat):Int):=by rw[jt _ zo,Int.tmod_eq_emod_of_nonneg zo];omega
 refine gh (jy Z ?_);rw[e8];refine k9 Z (jc Z (λhc=>?_) (λhc=>?_));have ad:j<K:=by omega
 refine vo (j0 (xt Z (wl (kz g5 Z 1 Z Z Z zd zd zt Z λo w4 V e s ae=>?_))));have f:=f.ext s λ_ _=>id;have a:=a.g4 s;have e:gu w4 o 5 (g6 [0]):=e;have t:=a;refine wl (ul g5 Z 1 1 Z Z Z zd f (Src.slice (m:=1) ⟨Z,.inr ⟨o,0,Z,e.kc⟩⟩ OneC.h) zm zn λH W w5 J L M=>?_);have a:=t.trans L λy hy hF=>by have:=d y hF;omega
 have A:∀x,j5 H x->w.heap.size<=x:=λx G=>(M x G).elim (λh=>d x h) λh=>Nat.le_trans t.size h;have e9:=padJ_succ l j;have B:(xw0 l j).length+1=(xw0 l (j+1)).length:=by rw[padJ_len,padJ_len];omega
 have N:Own w5 H (xw0 l (j+1)).length W 5 1 (g6 (xw0 l (j+1))):=by rw[<-B,e9,qd];exact J
 dsimp only;rw[B];refine gv g5 Z (ga ?_);exact jm (j9 (j+1,H,W) Z ⟨⟨by dsimp only;omega,N,A⟩,a⟩ zf);have h0:j=K:=by omega
 subst h0;refine zu (jy Z ?_);rw[show IntKind.u64.wrap (IntKind.u64.wrap (l.length:Int)*8)=((8*l.length:Nat):Int) from by rw[cR (l.length:Int) zo,cR _ zo];omega];refine g7 call96 Z (Ac 8 zd w3 (8*l.length) zo) ?_;rintro v6 w6⟨X,Y,rfl,P,E,C⟩;have f:=f.ext C λ_ _=>id;have a:=a.g4 C;rw[show Value.slice X 8 Y= .slice X (be 8 (8*l.length)).length Y from by rw[jz]];have i:=a;refine g7 call97 Z (yj w6 f.sl (by rw[ux,jz];exact P.sl) zo (by rw[jz];decide)) ?_;rintro v7 w7⟨r,kr,rfl,hr,R,S⟩;have a:=a.g4 S;rw[n] at hr|-;refine vl Z (gp Z Z ?_);exact⟨r,kr,Z,hr,λb hb=>Nat.le_trans i.size (R b hb),a⟩
theorem flat4_get (H:List Ai) {j:Nat} (hj:j<4*H.length):(H.flatMap λx=>be 4 x.toNat)[j]? =(be 4 (H.getD (j/4) 0).toNat)[j%4]? :=by
 induction H generalizing j with
 |nil=>simp at hj
 |cons x r ih=>
  rw[cZ];by_cases h4:j<4;rw[cN (by rw[jz];exact h4),Nat.div_eq_of_lt h4,Nat.mod_eq_of_lt h4];rfl;obtain⟨i,rfl⟩:∃i,j=i+4:=⟨j-4,by omega⟩
  rw[cE (by rw[jz];omega),jz,Nat.add_sub_cancel,ih (by rw[aR] at hj;omega),Nat.add_mod_right,Nat.add_div_right _ zd];rfl
theorem bytes_set (D:List UInt8) {j n:Nat} (h1:j<D.length) (h2:j<n):(g6 (D.take j++List.replicate (n-j) 0)).set (0+j*1) (yf D[j])=g6 (D.take (j+1)++List.replicate (n-(j+1)) 0):=by
 have a:(D.take j).length=j:=by rw[aK];omega
 have b:n-j=(n-(j+1))+1:=by omega
 rw[aX,aY,g6,<-List.map_set,dA _ _ zo,a,Nat.sub_self,b,List.replicate_succ,List.set_cons_zero,List.take_succ_eq_append_getElem h1,aU];rfl
theorem refSum_calls (w:World) {p:Option Addr} {c:Nat} {l:List UInt8} (h:ux w p l) (hl:l.length<100000000):
  ge prog 130 [.slice p l.length c] w λv w'=>v= .agg (g6 (sumW l)).toArray/\Ext No w w':=by
 refine gt func130 ?_;have f:=Ext.refl No w;refine ki (gn Z λb2 w1 ag a ah=>?_);have ai:=Nat.le_trans f.size ag;have f:=f.g4 ah;refine qi (ki (jv Z zr (l':=ju Ae) Z (gn Z λR w2 S d T=>?_)));have y:=gw a.lt S;have U:=Nat.le_trans f.size S;have a:=a.g0 T;have f:=f.g4 T;refine wl (gz (l':=ju Ae) g5 d Z Z Z Z OneC.h λw3 d V a9=>?_);have a:=a.g9 V y;have f:=f.g8 V U;refine qi (jy Z ?_);have J:=d.lt;refine g7 call182 Z (refPad_calls w3 (h.g0 f) hl) ?_;rintro v4 w4⟨q,kq,rfl,hq,ak,E⟩;have a:=a.g0 E;have d:=d.g0 E;have f:=f.g4 E;have am:(zq2 l).length%64=0:=by rw[xq7];omega
 have an:(zq2 l).length<200000000:=by rw[xq7];omega
 have W:sumW l=(Ax qr Ae (zq2 l) ((zq2 l).length/64)).flatMap λx=>be 4 x.toNat:=rfl;rw[W];have X:=hq.cap;have s:ux w4 q (zq2 l):=hq.sl;have Y:∀b I,q=some ⟨b,I,none⟩->¬One R b:=λb I e hb=>by rcases hq with⟨_,Q,_⟩|⟨bq,_,h1,_⟩;rw[xq7] at Q;omega;rw[h1] at e;cases e;have:=ak b h1;omega
 clear hq;generalize zq2 l=P at s am an X|-;have J:=aG J E.size;refine k9 Z (ki (g7 call183 Z (known_calls w4) ?_));rintro v5 w5⟨bk,rfl,ba,aq,F⟩;have a:=a.g0 F;have d:=d.g0 F;have s:=s.g0 F;have f:=f.g4 F;have m:Seg w5 bk 0 (ju qr):=aq.kc;have aa:¬One R bk:=λe=>by have e:bk=R:=e;omega
 refine k9 Z (gh (jn Z (j0 (ja (α:=Nat) [2,3,4,5] Z (λz=>[(6,.int .i64 ((64*z:Nat):Int))]) (λz u=>(64*z<=P.length/\ux u q P/\Seg u bk 0 (ju qr))/\gu u b2 30 (cellsOf ti30.zero)/\gu u R 276 (ju (Ax qr Ae P z))/\Ext No w u) (λz u=>P.length-64*z) (0) Z ⟨⟨aF _,s,m⟩,a,d,f⟩ ?_))));rintro k w6 ⟨⟨hk,s,m⟩,a,d,f⟩;refine gh (jn Z (jc Z (λhc=>?_) (λhc=>?_)));have a5:64*k+64<=P.length:=by omega
 have L:((P.drop (64*k)).take 64).length=64:=by rw[aK,aW];omega
 have A:(Ax qr Ae P k).length=8:=by rw[D5];rfl
 refine yz (jl Z 8 [qP 0,qP 1,qP 2,qP 3,qP 4,qP 5,qP 6,(7,false)] [8] (No) zk λw7 t bb=>?_);have ar:=d;have a:=a.g0 t;have d:=d.g0 t;have s:=s.g0 t;have m:=m.g0 t;have f:=f.g4 t;have hC:Ext (No) _ w7:=t.no;refine kw g5 Z Z (λw' hw'=>(ar.g0 hw').kc) (by rw[uf,A]) (gl g5 4 Z ?_);rw[jt _ zo];refine yx5 g5 Z Z (64*k) (64*k+64) kq 1 Z (.inr ⟨Z,Z⟩) (.inl (congrArg some zo)) (.inl (congrArg some zo)) zo zo (aA _) ?_;dsimp only;rw[show 64*k+64-64*k=((P.drop (64*k)).take 64).length from by rw[L];omega];refine gl g5 1 Z ?_;have au:ux w7 (ub q (64*k) kq 1) ((P.drop (64*k)).take 64):=by have e:=Sl.slice s (64*k) (64*k+64) kq zo zo zo;rw[aY,aY,uo,up,show 64*k+64-64*k=64 from by omega] at e;rw[ux,L];exact e
 refine jg Z (gx call184 Z (refInto_calls w7 A (b:=(P.drop (64*k)).take 64) au L zo m) λv8 w8 ab=>⟨(by obtain⟨rfl,n⟩:=ab;exact hC.g4 n),?_⟩);obtain⟨rfl,n⟩:=ab;have a:=a.g0 n;have d:=d.g0 n;have s:=s.g0 n;have m:=m.g0 n;have f:=f.g4 n;refine jd (wb Z (gz (l':=ju (intoW qr (Ax qr Ae P k) ((P.drop (64*k)).take 64))) g5 d Z Z (by rw[uf,intoW_len,A]) (by rw[uf,intoW_len,A,uf,A]) OneC.h λw9 d G bc=>?_));have a:=a.g9 G y;have s:=s.ext G Y;have m:=m.ext G aa;have f:=f.g8 G U;refine j1 (yt Z ?_);rw[jt _ zo];refine ga ?_;exact j9 (k+1) Z ⟨⟨by omega,s,m⟩,a,d,f⟩ zf;have Q:k=P.length/64:=by omega
 subst Q;have av:(Ax qr Ae P (P.length/64)).length=8:=by rw[D5];rfl
 generalize Ax qr Ae P (P.length/64)=H at d av|-;have aw:=xv5 H;have ac:∀j,j<4*H.length->(H.flatMap λx=>be 4 x.toNat)[j]? =(be 4 (H.getD (j/4) 0).toNat)[j%4]? :=λj=>flat4_get H;generalize(H.flatMap λx=>be 4 x.toNat)=D at aw ac|-;refine zu (ki (gn Z λb7 ax M g B=>?_));have N:=gw a.lt M;have O:=gw d.lt M;have ay:=Nat.le_trans f.size M;have a:=a.g0 B;have d:=d.g0 B;have f:=f.g4 B;have g:gu ax b7 30 (g6 (D.take 0++List.replicate (32-0) 0)):=g;refine qi (gh (jn Z (j0 (ja (α:=Nat) [2,3,7] Z (λz=>[(8,.int .i64 (z:Int))]) (λz u=>(z<=32)/\gu u b2 30 (cellsOf ti30.zero)/\gu u R 276 (ju H)/\gu u b7 30 (g6 (D.take z++List.replicate (32-z) 0))/\Ext No w u) (λz u=>32-z) (0) Z ⟨by decide,a,d,g,f⟩ ?_))));rintro j az ⟨hj,a,d,g,f⟩;refine gh (jn Z (jc Z (λhc=>?_) (λhc=>?_)));have K:j<32:=by omega
 have ad:=ac j zo;rw[aS zo] at ad;have a0:=Br H (i:=j/4) zo;refine yz (xt Z ?_);rw[show IntKind.i64.wrap ((j:Int).tdiv 4)=((j/4:Nat):Int) from by rw[IntWalk.i64_quo _ _ zo];omega];refine jo Z 1 Z (j/4) Z zo (0+j/4) zo (gj Z (d.cell (i:=0+j/4) (v:=xc (H.getD (j/4) 0)) (by rw[aX];exact a0)) (gv g5 Z ?_));rw[show IntKind.u64.wrap ((H.getD (j/4) 0).toNat:Int)=((H.getD (j/4) 0).toNat:Int) from by have:=(H.getD (j/4) 0).isLt;rw[cR _ zo]];refine g7 call96 Z (Ac 4 zd az (H.getD (j/4) 0).toNat (by have:=(H.getD (j/4) 0).isLt;omega)) ?_;rintro bd a1⟨qh,kh,rfl,a2,a6,o⟩;have a:=a.g0 o;have d:=d.g0 o;have g:=g.g0 o;have f:=f.g4 o;obtain⟨bh,rfl,a3⟩:∃bh,qh=some ⟨bh,0,none⟩/\Seg a1 bh 0 (g6 (be 4 (H.getD (j/4) 0).toNat)):=by rcases a2 with⟨_,Q,_⟩|⟨bh,l,h1,h2,_,_,_,h3⟩;omega;refine⟨bh,h1,?_⟩;rw[<-h3];exact h2.kc.take _
 have a4:(g6 (be 4 (H.getD (j/4) 0).toNat))[j%4]? =some (yf (D[j]'zo)):=by rw[g6,bZ,<-ad];rfl
 refine gv g5 Z ?_;rw[show((j:Int).tmod 4)=((j%4:Nat):Int) from Z];refine jo Z 1 Z (j%4) Z zo (0+j%4) zo (gj Z (a3 (j%4) _ a4) (jo Z 1 Z j Z K (0+j*1) Z (wl (uh g5 g Z Z (by rw[gb,al,aK,bM];omega) λbf g C a7=>?_))));have a:=a.g9 C N;have d:=d.g9 C O;have f:=f.g8 C ay;rw[bytes_set D zo K] at g;refine ga (yt Z ?_);rw[jt _ zo];refine ga ?_;exact j9 (j+1) Z ⟨by omega,a,d,g,f⟩ zf;have Q:j=32:=by omega
 subst Q;have e1:D.take 32++List.replicate (32-32) 0=D:=by rw[aL zo];simp
 rw[e1] at g;have r:(g6 D).length=32:=by rw[gb];omega
 refine zu (ki (j8 g Z r (wl (gz (l':=g6 D) g5 a Z Z r (by rw[r];rfl) OneC.h λbg a af a8=>?_))));have f:=f.g8 af ai;refine qi (j6 (ko [_] ⟨⟨b2,0,Z,kj g5 Z Z a.kc (by rw[r];rfl)⟩,trivial⟩ ?_));exact⟨Z,f⟩
end Go.Proofs.YtpdiphfjmepijaaGreatDoor
namespace Go.Vc
def vg (l : List UInt8) : ByteArray := ⟨l.toArray⟩
theorem xp {a b : List UInt8} (h : vg a = vg b) : a = b := by
  have e := congrArg (λs : ByteArray => s.data.toList) h
  exact e
section
variable {P : Program} {I : u6} {f : Fs} {ops : Array Oper} {o : Oper} {env : Env} {w : World}
theorem run_b2s {p:Option Addr} {l:List UInt8} (h:ux w p l) (c:Nat):(Conv.bytesToString (.slice p l.length c)).run P w= .ok (.string (vg l)) w:=by
 unfold Conv.bytesToString;cases p with
 |none=>
  obtain⟨_,d|⟨b,e,f,_⟩⟩:=h;have:l=[]:=aT d;subst this;rfl;cases f
 |some a=>
  have g:(loadCells a l.length).run P w= .ok (g6 l).toArray w:=by obtain⟨_,d|⟨b,e,f,i⟩⟩:=h;have:l=[]:=aT d;subst this;rfl;cases f;unfold loadCells;have:=vt (P:=P) l.length 0 (g6 l) #[] (by simpa using i) (gb l);simpa using this
  simp only[aI,g,aD]
  have j:∀(m:List UInt8) (s:ByteArray),(forIn (m:=Sem) (g6 m) s λc s=>do
    match c with
    | .int .u8 n=>pure (ForInStep.yield (s.push (UInt8.ofNat n.toNat)))
    |_=>do
     stuck "bytesToString: byte expected"
     pure (ForInStep.yield s)).run P w= .ok (⟨s.data++m.toArray⟩:ByteArray) w:=by
   intro m;induction m with
   |nil=>intro s;simp[g6]
   |cons x r ih=>
    intro s;rw[show g6 (x::r)=yf x::g6 r from Z,List.forIn_cons];simp only[aI,aP,aD];rw[ih];congr 2;simp[ByteArray.push]
  rw[<-Array.forIn_toList];refine(congrArg (λr=>Result.andThen r _) (j l ByteArray.empty)).trans ?_;simp only[aD,aP];congr 2;simp[vg,ByteArray.empty,ByteArray.emptyWithCapacity];rfl
def b2sE (I : u6) (n : Nat) (ops : Array Oper) (env : Env) (o : Oper) : Option (Option Addr × Nat × Nat × Nat) :=
  match pre n ops env o with
  | false => none
  | true => match o.dst with
    | some d => match o.op with
      | .convert s t x => match z7 I s with
        | some y => match y.desc with
          | .slice e => match z7 I e with
            | some g => match g.desc with
              | .int .u8 => match z7 I t with
                | some z => match z.desc with
                  | .string => match xr env x with
                    | some (.slice p m c) => some (p, m, c, d)
                    | _ => none
                  | _ => none
                | none => none
              | _ => none
            | none => none
          | _ => none
        | none => none
      | _ => none
    | none => none
theorem ov_b2s (hI:I.Ok P) {nn m c d:Nat} {p:Option Addr} (h:b2sE I nn ops env o=some (p,m,c,d)) {l:List UInt8} (hl:m=l.length) (hs:ux w p l):
  pre nn ops env o=true/\o.dst=some d/\Ov P o env w (.string (vg l)) w:=by
 subst hl;unfold b2sE at h;split at h;cases h;rename_i n;split at h;rename_i H q;split at h;rename_i s t x r;split at h;rename_i y u;split at h;rename_i e v;split at h;rename_i g A;split at h;rename_i a;split at h;rename_i z B;split at h;rename_i b;split at h;rename_i C J f D;simp only[bI,cP] at h;obtain⟨rfl,rfl,rfl,rfl⟩:=h;refine⟨n,q,λK E=>?_⟩;have i:=(hI.get u).under w;have j:=(hI.get B).under w;have k:=(hI.get A).under w;rw[v] at i;rw[b] at j;rw[a] at k;have F:=run_b2s (P:=P) hs f;have G:(convert s t (.slice C l.length f)).run P w= .ok (.string (vg l)) w:=by unfold convert;rw[jf i,jf j];show(underlying e>>=_).run P w=_;rw[jf k];exact F
 simp only[execOp,r,E _ _ D,aI,G,aD,aP];cases h;cases h;cases h;cases h;cases h;cases h;cases h;cases h;cases h
theorem zq5 (hI:I.Ok P) {K:Env->World->Prop} {m c d:Nat} {p:Option Addr} (h:b2sE I f.n ops env o=some (p,m,c,d)) {l:List UInt8} (hl:m=l.length) (hs:ux w p l)
  (k:K ((d,.string (vg l))::env) w):St P f ops o env w K:=by
 obtain⟨a,b,e⟩:=ov_b2s (w:=w) hI h hl hs;obtain⟨g,i⟩:=pre_eq a;exact yv g i e (by rw[b];exact k)
theorem wd_b2s (hI:I.Ok P) {K:Act->World->Prop} {r:Dr} {i:Nat} {pl:List (Nat×Bool)} {dn:List Nat} (ho:ops[i]? =some o) {m c d:Nat} {p:Option Addr} (h:b2sE I f.n ops env o=some (p,m,c,d)) {l:List UInt8} (hl:m=l.length) (hs:∀w',r.C w'->ux w' p l)
  (hs0:ux w p l) (k:WD P f ops K r pl (i::dn) ((d,.string (vg l))::env) w):WD P f ops K r ((i,true)::pl) dn env w:=by
 obtain⟨a,b,_⟩:=ov_b2s (w:=w) hI h hl hs0;exact wd_q ho a b (λw' e=>(ov_b2s (w:=w') hI h hl (hs w' e)).2.2) k
def eqKE (n : Nat) (ops : Array Oper) (env : Env) (o : Oper) : Option (Nat × Bool × Value × Value × Nat) :=
  match pre n ops env o with
  | false => none
  | true => match o.dst with
    | some d => match o.op with
      | .binOp op t x y _ => match xr env x with
        | some (.agg a) => match xr env y with
          | some (.agg b) => match op with
            | .eql => some (t, true, .agg a, .agg b, d)
            | .neq => some (t, false, .agg a, .agg b, d)
            | _ => none
          | _ => none
        | _ => none
      | _ => none
    | none => none
theorem ov_eqK {nn t d : Nat} {q : Bool} {a b : Value} (h : eqKE nn ops env o = some (t, q, a, b, d)) (hgd : P.eqGuardType P.depth t = false) (m : Nat) (hm : m <= 10000) (hk : P.keyTypeAt m t = true)
    {D D' : Nat} {la lb : List Lit} (fa : a.formed P t = true) (fb : b.formed P t = true) (ha : P.keyLits D t a.cells.toList = some la) (hb : P.keyLits D' t b.cells.toList = some lb) {p : Prop} [Decidable p] (hp : la = lb ↔ p) :
    pre nn ops env o = true /\ o.dst = some d /\ Ov P o env w (.bool (if q then decide p else decide (¬ p))) w := by
  unfold eqKE at h;split at h;cases h;rename_i s;split at h
  · rename_i J G
    split at h
    · rename_i K e x y u A
      split at h
      · rename_i f B
        split at h
        · rename_i g C
          have v : ∃ r : Bool, (Op.equal e (.agg f) (.agg g)).run P w = .ok r w /\ (r = true ↔ p) \/ e ≠ t \/ a ≠ .agg f \/ b ≠ .agg g := by by_cases ht : e = t /\ a = .agg f /\ b = .agg g;obtain ⟨rfl, rfl, rfl⟩ := ht;obtain ⟨r, i, l⟩ := run_equalIn_deep (P := P) (10000 - m) m e hk w D D' _ _ la lb fa fb ha hb;rw [Nat.sub_add_cancel hm] at i;exact ⟨r, .inl ⟨i, l.trans hp⟩⟩;refine ⟨true, .inr ?_⟩;by_cases i : e = t;by_cases l : a = .agg f;exact .inr (.inr λH => ht ⟨i, l, H⟩);exact .inr (.inl l);exact .inl i
          split at h
          all_goals first
            | (cases h; done)
            | (simp only [bI, cP] at h
               obtain ⟨rfl, rfl, rfl, rfl, rfl⟩ := h
               obtain ⟨r, ⟨E, z⟩ | c | c | c⟩ := v
               · refine ⟨s, G, λL n =>?_⟩
                 have j : r = decide p := by
                   rw [Bool.eq_iff_iff, z]; simp
                 have F := run_eqGuard_agg (P := P) w (BinOp.eql) e x y f g hgd
                 have k := run_eqGuard_agg (P := P) w (BinOp.neq) e x y f g hgd
                 first
                   | (simp only [execOp, A, n _ _ B, n _ _ C, aI, F, k, aD, binOp, E, aP, j]; simp; done)
                   | (simp only [execOp, A, n _ _ B, n _ _ C, aI, F, k, aD, binOp, E, aP, j]; done)
               exact absurd Z c
               exact absurd Z c
               exact absurd Z c)
        cases h
      cases h
    cases h
  cases h
theorem Cf {K:Env->World->Prop} {t d:Nat} {q:Bool} {a b:Value} (h:eqKE f.n ops env o=some (t,q,a,b,d)) (hgd:P.eqGuardType P.depth t=false) (m:Nat) (hm:m<=10000) (hk:P.keyTypeAt m t=true)
  {D D':Nat} {la lb:List Lit} (fa:a.formed P t=true) (fb:b.formed P t=true) (ha:P.keyLits D t a.cells.toList=some la) (hb:P.keyLits D' t b.cells.toList=some lb) {p:Prop} [Decidable p] (hp:la=lb↔p)
  (k:K ((d,.bool (if q then decide p else decide (¬p)))::env) w):St P f ops o env w K:=by
 obtain⟨c,e,g⟩:=ov_eqK (P:=P) (w:=w) h hgd m hm hk fa fb ha hb hp;obtain⟨i,j⟩:=pre_eq c;exact yv i j g (by rw[e];exact k)
end
theorem zq1 {P:Program} {f:Fs} {ops:Array Oper} {o:Oper} {env:Env} {w:World} {K:Act->World->Prop} {r:Dr} {i:Nat} {pl:List (Nat×Bool)} {dn:List Nat} (ho:ops[i]? =some o) {t d:Nat} {q:Bool} {a b:Value} (h:eqKE f.n ops env o=some (t,q,a,b,d)) (hgd:P.eqGuardType P.depth t=false) (m:Nat) (hm:m<=10000) (hk:P.keyTypeAt m t=true)
  {D D':Nat} {la lb:List Lit} (fa:a.formed P t=true) (fb:b.formed P t=true) (ha:P.keyLits D t a.cells.toList=some la) (hb:P.keyLits D' t b.cells.toList=some lb) {p:Prop} [Decidable p] (hp:la=lb↔p)
  (k:WD P f ops K r pl (i::dn) ((d,.bool (if q then decide p else decide (¬p)))::env) w):WD P f ops K r ((i,true)::pl) dn env w:=by
 obtain⟨c,e,_⟩:=ov_eqK (P:=P) (w:=w) h hgd m hm hk fa fb ha hb hp
 exact wd_q ho c e (λg _=>(ov_eqK (P:=P) (w:=g) h hgd m hm hk fa fb ha hb hp).2.2) k
theorem mapM_some {α β:Type} {f:α->Option β} {g:α->β}:∀{L:List α},(∀x∈L,f x=some (g x))->L.mapM f=some (L.map g)
 | [],_=>by simp
 |x::r,h=>by
  rw[List.mapM_cons,h x zp,mapM_some (L:=r) λy hy=>h y (by simp[hy])]
  rfl
theorem flat_single {α β:Type} (f:α->β) (L:List α):(L.map λx=>[f x]).flatten=L.map f:=by
 induction L with
 |nil=>rfl
 |cons x r ih=>rw[dD,cY,ih];rfl
def zz8 (l : List UInt8) : List Lit := l.map λb => Lit.int .u8 (b.toNat : Int)
theorem u4 {a b:List UInt8}:zz8 a=zz8 b↔a=b:=by
 refine⟨λh=>(List.map_inj_right λx y e=>?_).1 h,λh=>by rw[h]⟩;simp only[Lit.int.injEq,true_and] at e;exact UInt8.toNat_inj.1 zo
theorem lits_bytes {P:Program} {d t e n:Nat} (hu:P.underlying t=some (.array n e)) (hc:P.cellsOf t=n) (he:P.underlying e=some (.int .u8)) (hce:P.cellsOf e=1) {l:List UInt8} (hl:l.length=n):P.keyLits (d+2) t (g6 l)=some (zz8 l):=by
 unfold Program.keyLits;simp only[hu,hc,hce,gb,hl,cH]
 have c:∀i∈List.range n,P.keyLits (d+1) e (((g6 l).drop (i*1)).take 1)=some [Lit.int .u8 ((l.getD i 0).toNat:Int)]:=by
  intro i a;have a:i<l.length:=by rw[hl];exact List.mem_range.1 a
  have b:((g6 l).drop (i*1)).take 1=[yf (l.getD i 0)]:=by rw[aY,g6,<-List.map_drop,cl a,bQ,aS a];rfl
  rw[b];unfold Program.keyLits;simp only[he];have:=(l.getD i 0).toNat_lt;rw[aM];refine⟨trivial,?_⟩;have b:IntKind.u8.min=0:=rfl;have f:IntKind.u8.max=255:=rfl;simp only[Lit.wf,b,f,co,aO];omega
 rw[mapM_some c];simp only[Option.map_some,bI];rw[<-hl];apply List.ext_getElem?;intro i;have:((List.range l.length).map λi=>[Lit.int .u8 ((l.getD i 0).toNat:Int)]).flatten=(List.range l.length).map λi=>Lit.int .u8 ((l.getD i 0).toNat:Int):=by exact flat_single _ _
 rw[this];simp only[zz8,bZ];by_cases a:i<l.length;rw[aS a,aS (by simpa using a)];simp[bQ,aS a];rw[bV (l:=List.range l.length) (by rw[List.length_range];omega),bV (l:=l) zo];rfl
theorem lits_str {P:Program} {d t:Nat} (hu:P.underlying t=some .string) {s:List UInt8} (hs:s.length<=maxLen):P.keyLits (d+1) t [.string (vg s)]=some [.string s]:=by
 unfold Program.keyLits;simp only[hu];exact aM hs
theorem lits_bool {P:Program} {d t:Nat} (hu:P.underlying t=some .bool) (b:Bool):P.keyLits (d+1) t [.bool b]=some [.bool b]:=by
 unfold Program.keyLits;simp only[hu]
theorem lits_struct {P : Program} {d t : Nat} {cs : List Value} {L : List (Nat × Nat)} (hu : P.underlying t = some (.struct (P.fieldsOf t))) (hn : (P.fieldsOf t).all (·.name != "_") = true) (hc : cs.length = P.cellsOf t)
  (hf:(P.fieldsOf t).toList.map (λf=>(f.type,f.offset))=L) {ls:List (List Lit)} (hm:L.mapM (λp=>P.keyLits d p.1 ((cs.drop p.2).take (P.cellsOf p.1)))=some ls):P.keyLits (d+1) t cs=some ls.flatten:=by
 unfold Program.keyLits;simp only[hu];rw[aM ⟨hc,hn⟩];subst hf
 have:(P.fieldsOf t).toList.mapM (λf=>P.keyLits d f.type ((cs.drop f.offset).take (P.cellsOf f.type)))=some ls:=by
  rw[<-hm];generalize(P.fieldsOf t).toList=fs;induction fs with
  |nil=>rfl
  |cons f fs ih=>simp only[dD,List.mapM_cons,ih]
 rw[this];rfl
abbrev Str := List UInt8
abbrev z9 (l : Str) : Value := .string (vg l)
def okC (c : UInt8) : Prop := 33 <= c.toNat /\ c.toNat <= 126
instance (c : UInt8) : Decidable (okC c) := inferInstanceAs (Decidable (_ /\ _))
def y6 (l : Str) : Prop := (∀ c ∈ l, okC c) /\ 1 <= l.length /\ l.length <= 48
instance (l : Str) : Decidable (y6 l) := inferInstanceAs (Decidable (_ /\ _))
theorem pathNo {l : Str} {i : Nat} (hi : i < l.length) (h : ¬ okC l[i]) : ¬ y6 l := λhp => h (hp.1 _ (aC hi))
theorem pathIs {l:Str} (h:∀i (hi:i<l.length),okC l[i]):y6 l↔1<=l.length/\l.length<=48:=
 ⟨λa=>a.2,λb=>⟨λc d=>by obtain⟨i,hi,rfl⟩:=bF.1 d;exact h i hi,b⟩⟩
theorem zv6 {α:Type} {p:α->Prop} {l:List α} {i:Nat} (h:∀k (hk:k<l.length),k<i->p l[k]) (hi:i<l.length) (h1:p l[i]):∀k (hk:k<l.length),k<i+1->p l[k]:=λk hk b=>by
 rcases aZ k i with a|a
 ·exact h k hk a
 obtain rfl:k=i:=by omega
 exact h1
structure Bm where
  path : Str
  text : Str
  deriving DecidableEq
structure ji where
  path : Str
  id : List UInt8
  deriving DecidableEq
structure uw where
  path : Str
  is : Bool
  text : Str
  deriving DecidableEq
def Bm.cells (r : Bm) : List Value := [z9 r.path, z9 r.text]
def ji.cells (r : ji) : List Value := z9 r.path :: g6 r.id
def uw.cells (r : uw) : List Value := [z9 r.path, .bool r.is, z9 r.text]
theorem flat_at {α:Type} {f:α->List Value} {n:Nat}:∀{l:List α},(∀x∈l,(f x).length=n)->∀{i:Nat} (hi:i<l.length),((l.flatMap f).drop (i*n)).take n=f l[i]
 | [],_,i,hi=>absurd hi (bO _)
 |x::r,h,0,_=>by
  rw[cX,List.drop_zero,cZ,List.take_append_of_le_length (by rw[h x zp];exact aA _),aL (by rw[h x zp];exact aA _)]
  rfl
 |x::r,h,i+1,hi=>by
  have hx:=h x zp
  rw[cZ,Nat.succ_mul,Nat.add_comm,<-List.drop_drop,<-hx,List.drop_left,hx,flat_at (λy a=>h y (by simp[a])) (by simpa using hi)]
  rfl
theorem xx0 {α:Type} {f:α->List Value} {n:Nat}:∀{l:List α},(∀x∈l,(f x).length=n)->(l.flatMap f).length=l.length*n
 | [],_=>by simp
 |x::r,h=>by
  rw[cZ,al,h x zp,xx0 (λy hy=>h y (by simp[hy])),aR,Nat.succ_mul,Nat.add_comm]
theorem Sl.rowAt {α:Type} {w:World} {p:Option Addr} {f:α->List Value} {n:Nat} {l:List α} (h:Sl w p l.length n (l.flatMap f)) (hn:∀x∈l,(f x).length=n) {i:Nat} (hi:i<l.length):
  ∃b off,p=some ⟨b,off,none⟩/\Seg w b (off+i*n) (f l[i]):=by
 obtain⟨_,d|⟨b,off,a,c⟩⟩:=h;omega;refine⟨b,off,a,?_⟩;have:=(c.drop (i*n)).take n;rw[flat_at hn hi] at this;exact this
theorem Sl.km {α:Type} {w:World} {p:Option Addr} {f:α->List Value} {n:Nat} {l:List α} (h:Sl w p l.length n (l.flatMap f)) (hn:∀x∈l,(f x).length=n) (h0:0<l.length):
  ∃b off,p=some ⟨b,off,none⟩/\∀i (hi:i<l.length),Seg w b (off+i*n) (f l[i]):=by
 obtain⟨_,d|⟨b,off,a,c⟩⟩:=h;omega;refine⟨b,off,a,λi hi=>?_⟩;have:=(c.drop (i*n)).take n;rw[flat_at hn hi] at this;exact this
theorem Bm.len (r : Bm) : r.cells.length = 2 := rfl
theorem uw.len (r : uw) : r.cells.length = 3 := rfl
theorem ji.len {r : ji} (h : r.id.length = 32) : r.cells.length = 33 := by simp [ji.cells, gb, h]
instance (r : Bm) : OneC r.cells := by unfold Bm.cells; infer_instance
instance (r : uw) : OneC r.cells := by unfold uw.cells; infer_instance
instance (r : ji) : OneC r.cells := by unfold ji.cells; infer_instance
def xx3 (l : List Str) : Prop := l.length <= 32 /\ ∀ i (hi : i < l.length), y6 l[i] /\ (0 < i -> SLt (vg (l[i - 1]'zo)) (vg l[i]))
instance (l : List Str) : Decidable (xx3 l) := inferInstanceAs (Decidable (_ /\ _))
def RowsOk (l : List Bm) : Prop := ¬ (∃ r ∈ l, 256 < r.text.length) /\ xx3 (l.map Bm.path)
instance (l : List Bm) : Decidable (RowsOk l) := inferInstanceAs (Decidable (_ /\ _))
theorem bl_total:∀(x y:List UInt8),(Op.bytesLess x y=true\/x=y)\/Op.bytesLess y x=true
 | [],[]=> .inl (.inr Z)
 | [],_::_=> .inl (.inl Z)
 |_::_,[]=> .inr Z
 |a::x,b::y=>by
  simp only[Op.bytesLess,Bool.or_eq_true,co,aO,beq_iff_eq]
  rcases Nat.lt_trichotomy a.toNat b.toNat with h|h|h
  ·exact .inl (.inl (.inl (UInt8.lt_iff_toNat_lt.2 h)))
  ·obtain rfl:a=b:=UInt8.toNat_inj.1 h
   rcases bl_total x y with(c|c)|c
   ·exact .inl (.inl (.inr ⟨Z,c⟩))
   ·exact .inl (.inr (by rw[c]))
   exact .inr (.inr ⟨Z,c⟩)
  exact .inr (.inl (UInt8.lt_iff_toNat_lt.2 h))
theorem yz5:∀(x y:List UInt8),Op.bytesLess x y=true->Op.bytesLess y x=true->False
 | [],[],h,_=>by cases h
 | [],_::_,_,h=>by cases h
 |_::_,[],h,_=>by cases h
 |a::x,b::y,h,k=>by
  simp only[Op.bytesLess,Bool.or_eq_true,co,aO,beq_iff_eq] at h k
  rcases h with h|⟨rfl,h⟩
  ·rcases k with k|⟨rfl,k⟩
   ·have:=UInt8.lt_iff_toNat_lt.1 h;have:=UInt8.lt_iff_toNat_lt.1 k;omega
   have:=UInt8.lt_iff_toNat_lt.1 h;omega
  rcases k with k|⟨_,k⟩
  ·have:=UInt8.lt_iff_toNat_lt.1 k;omega
  exact yz5 x y h k
theorem yz8 (a b:ByteArray):¬(SLt a b\/a=b)↔SLt b a:=by
 constructor;intro h;rcases bl_total a.data.toList b.data.toList with(c|c)|c;exact absurd (.inl c) h;refine absurd (.inr ?_) h;obtain⟨⟨x⟩⟩:=a;obtain⟨⟨y⟩⟩:=b;have c:x=y:=c;rw[c];exact c;rintro h (k|rfl);exact yz5 _ _ h k;exact yz5 _ _ h h
def RowGood (l : List Bm) (i : Nat) (hi : i < l.length) : Prop := i ≠ 32 /\ y6 l[i].path /\ l[i].text.length <= 256 /\ (0 < i -> SLt (vg (l[i - 1]'zo).path) (vg l[i].path))
instance (l : List Bm) (i : Nat) (hi : i < l.length) : Decidable (RowGood l i hi) := inferInstanceAs (Decidable (_ /\ _))
def xz0 (c : uw) : Prop := 256 < c.text.length \/ c.is = false /\ c.text ≠ []
instance (c : uw) : Decidable (xz0 c) := inferInstanceAs (Decidable (_ \/ _))
theorem chg_nil (t : Str) : (vg t ≠ ByteArray.mk #[]) ↔ t ≠ [] :=
  ⟨λh1 h2 => h1 (by rw [h2]; rfl), λh1 h2 => h1 (xp h2)⟩
def yq6 (l : List uw) : Prop := ¬ (∃ r ∈ l, xz0 r) /\ xx3 (l.map uw.path)
instance (l : List uw) : Decidable (yq6 l) := inferInstanceAs (Decidable (_ /\ _))
def ChgGood (l : List uw) (i : Nat) (hi : i < l.length) : Prop := i ≠ 32 /\ y6 l[i].path /\ ¬ xz0 l[i] /\ (0 < i -> SLt (vg (l[i - 1]'zo).path) (vg l[i].path))
instance (l : List uw) (i : Nat) (hi : i < l.length) : Decidable (ChgGood l i hi) := inferInstanceAs (Decidable (_ /\ _))
theorem editOk_iff {l:List uw}:yq6 l↔∀i (hi:i<l.length),ChgGood l i hi:=by
 constructor;rintro⟨a,b,c⟩ i hi;rw[aB] at b;have:=c i (by rw[aB];exact hi);refine⟨by omega,by simpa using this.1,?_,λd=>by simpa using this.2 d⟩;exact λh=>a ⟨_,aC hi,h⟩;intro h;refine⟨λ⟨r,e,f⟩=>?_,?_,λi hi=>?_⟩;obtain⟨i,hi,rfl⟩:=bF.1 e;exact(h i hi).2.2.1 f;rw[aB];exact Nat.not_lt.1 λg=>(h 32 g).1 Z;rw[aB] at hi;have:=h i hi;simp only[bD];exact⟨this.2.1,this.2.2.2⟩
end Go.Vc
namespace Go.Proofs.YtpdiphfjmepijaaGreatDoor
open Go.Proofs.Tryz
open Go.Vc
theorem path_calls (w:World) (l:Str) (hl:l.length<1000000000):
  ge prog 243 [z9 l] w λv w'=>v= .bool (decide (y6 l))/\w'=w:=by
 have q:(vg l).size=l.length:=rfl;refine gt func243 ?_;have g:=Ext.refl No w;refine uz Z (jn Z (j0 (ja (α:=Nat) [0,5] Z (λz=>[(6,.int .i64 (z:Int))]) (λz u=>((z<=l.length/\∀k (o:k<l.length),k<z->okC l[k])/\u=w)/\Ext No w u) (λz u=>l.length-z) (0) Z ⟨⟨⟨aF _,λk _ h=>absurd h (bO _)⟩,Z⟩,g⟩ ?_)));rintro i p ⟨⟨⟨f,b⟩,rfl⟩,g⟩;refine uz Z (jc Z (λc=>?_) (λc=>?_));have f:i<l.length:=by omega
 have d:(vg l).data.toList[i]? =some l[i]:=aS f;refine yz (jn Z (jb (α:=Bool) [0,5,6] Z (λz=>[(18,.bool z)]) (λz u=>u=p/\z=decide (¬okC l[i])) ?_ ?_));refine gr (gv g5 Z (wl (st_is g5 Z i Z d (gv g5 Z (j7 13 Z (λj=>?_) (λj=>?_))))));refine gm g5 5 Z (ga ?_);exact gk (true) Z ⟨Z,by symm;rw[aO];intro h;have:=h.1;omega⟩;refine gm g5 2 Z (wl (st_is g5 Z i Z d (gm g5 2 Z (ga ?_))));exact gk (_) Z ⟨Z,by rw[aH];unfold okC;omega⟩;rintro z r ⟨a,rfl⟩;have a:=a.symm;subst a;refine jc Z (λc=>?_) (λc=>?_);have m:=pathNo f c;refine jn Z (j6 (gGk (gp Z Z ?_)));exact⟨by rw[bG m],Z⟩
 have n:okC l[i]:=aN.1 c;refine jw (yt Z ?_);rw[jt _ zo];refine ga ?_;exact j9 (i+1) Z ⟨⟨⟨by omega,zv6 b f n⟩,Z⟩,g⟩ zf;have e:=pathIs (l:=l) λk o=>b k o zo;refine zu (jb (α:=Bool) [] Z (λz=>[(2,.bool z)]) (λz u=>u=p/\z=decide (1<=l.length/\l.length<=48)) ?_ ?_);refine gr (gv g5 Z (j7 23 Z (λj=>?_) (λj=>?_)));refine gm g5 5 Z (ga ?_);exact gk (_) Z ⟨Z,by rw[aH];omega⟩;refine gm g5 5 Z (ga ?_);exact gk (_) Z ⟨Z,by symm;rw[ao];omega⟩;rintro z s ⟨a,rfl⟩;have a:=a.symm;subst a;refine j6 (gp Z Z ?_);exact⟨by rw[aH.2 e],Z⟩
theorem path5_calls (w:World) (l:Str) (hl:l.length<1000000000):
  ge prog 218 [z9 l] w λv w'=>v= .bool (decide (y6 l))/\w'=w:=by
 have q:(vg l).size=l.length:=rfl;refine gt func218 ?_;have g:=Ext.refl No w;refine uz Z (jn Z (j0 (ja (α:=Nat) [0] Z (λz=>[(3,.int .i64 (z:Int))]) (λz u=>((z<=l.length/\∀k (o:k<l.length),k<z->okC l[k])/\u=w)/\Ext No w u) (λz u=>l.length-z) (0) Z ⟨⟨⟨aF _,λk _ h=>absurd h (bO _)⟩,Z⟩,g⟩ ?_)));rintro i p ⟨⟨⟨f,b⟩,rfl⟩,g⟩;refine gh (jn Z (jc Z (λc=>?_) (λc=>?_)));have f:i<l.length:=by omega
 have d:(vg l).data.toList[i]? =some l[i]:=aS f;refine yz (jb (α:=Bool) [0,3] Z (λz=>[(19,.bool z)]) (λz u=>u=p/\z=decide (¬okC l[i])) ?_ ?_);refine gr (gv g5 Z (wl (st_is g5 Z i Z d (gv g5 Z (j7 14 Z (λj=>?_) (λj=>?_))))));refine gm g5 5 Z (ga ?_);exact gk (true) Z ⟨Z,by symm;rw[aO];intro h;have:=h.1;omega⟩;refine gm g5 2 Z (wl (st_is g5 Z i Z d (gm g5 2 Z (ga ?_))));exact gk (_) Z ⟨Z,by rw[aH];unfold okC;omega⟩;rintro z r ⟨a,rfl⟩;have a:=a.symm;subst a;refine jc Z (λc=>?_) (λc=>?_);have m:=pathNo f c;refine jn Z (j6 (gGk (gp Z Z ?_)));exact⟨by rw[bG m],Z⟩
 have n:okC l[i]:=aN.1 c;refine jw (yt Z ?_);rw[jt _ zo];refine ga ?_;exact j9 (i+1) Z ⟨⟨⟨by omega,zv6 b f n⟩,Z⟩,g⟩ zf;have e:=pathIs (l:=l) λk o=>b k o zo;refine zu (jb (α:=Bool) [] Z (λz=>[(2,.bool z)]) (λz u=>u=p/\z=decide (1<=l.length/\l.length<=48)) ?_ ?_);refine gr (gv g5 Z (j7 23 Z (λj=>?_) (λj=>?_)));refine gm g5 5 Z (ga ?_);exact gk (_) Z ⟨Z,by rw[aH];omega⟩;refine gm g5 5 Z (ga ?_);exact gk (_) Z ⟨Z,by symm;rw[ao];omega⟩;rintro z s ⟨a,rfl⟩;have a:=a.symm;subst a;refine j6 (gp Z Z ?_);exact⟨by rw[aH.2 e],Z⟩
theorem path6_calls (w:World) (l:Str) (hl:l.length<1000000000):
  ge prog 199 [z9 l] w λv w'=>v= .bool (decide (y6 l))/\w'=w:=by
 have q:(vg l).size=l.length:=rfl;refine gt func199 ?_;have g:=Ext.refl No w;refine uz Z (jn Z (j0 (ja (α:=Nat) [0,5] Z (λz=>[(6,.int .i64 (z:Int))]) (λz u=>((z<=l.length/\∀k (o:k<l.length),k<z->okC l[k])/\u=w)/\Ext No w u) (λz u=>l.length-z) (0) Z ⟨⟨⟨aF _,λk _ h=>absurd h (bO _)⟩,Z⟩,g⟩ ?_)));rintro i p ⟨⟨⟨f,b⟩,rfl⟩,g⟩;refine uz Z (jc Z (λc=>?_) (λc=>?_));have f:i<l.length:=by omega
 have d:(vg l).data.toList[i]? =some l[i]:=aS f;refine yz (jn Z (jb (α:=Bool) [0,5,6] Z (λz=>[(18,.bool z)]) (λz u=>u=p/\z=decide (¬okC l[i])) ?_ ?_));refine gr (gv g5 Z (wl (st_is g5 Z i Z d (gv g5 Z (j7 13 Z (λj=>?_) (λj=>?_))))));refine gm g5 5 Z (ga ?_);exact gk (true) Z ⟨Z,by symm;rw[aO];intro h;have:=h.1;omega⟩;refine gm g5 2 Z (wl (st_is g5 Z i Z d (gm g5 2 Z (ga ?_))));exact gk (_) Z ⟨Z,by rw[aH];unfold okC;omega⟩;rintro z r ⟨a,rfl⟩;have a:=a.symm;subst a;refine jc Z (λc=>?_) (λc=>?_);have m:=pathNo f c;refine jn Z (j6 (gGk (gp Z Z ?_)));exact⟨by rw[bG m],Z⟩
 have n:okC l[i]:=aN.1 c;refine jw (yt Z ?_);rw[jt _ zo];refine ga ?_;exact j9 (i+1) Z ⟨⟨⟨by omega,zv6 b f n⟩,Z⟩,g⟩ zf;have e:=pathIs (l:=l) λk o=>b k o zo;refine zu (jb (α:=Bool) [] Z (λz=>[(2,.bool z)]) (λz u=>u=p/\z=decide (1<=l.length/\l.length<=48)) ?_ ?_);refine gr (gv g5 Z (j7 23 Z (λj=>?_) (λj=>?_)));refine gm g5 5 Z (ga ?_);exact gk (_) Z ⟨Z,by rw[aH];omega⟩;refine gm g5 5 Z (ga ?_);exact gk (_) Z ⟨Z,by symm;rw[ao];omega⟩;rintro z s ⟨a,rfl⟩;have a:=a.symm;subst a;refine j6 (gp Z Z ?_);exact⟨by rw[aH.2 e],Z⟩
theorem rowPath_calls (w:World) (r:Bm):
  ge prog 239 [.agg r.cells.toArray] w λv w'=>v=z9 r.path/\Ext No w w':=by
 refine gt func239 ?_;have b:=Ext.refl No w;refine ki (gn Z λd e f a c=>?_);have b:=b.g4 c;have a:gu e d 321 (r.cells):=a;refine k9 Z (jy Z (j3 a Z Z (vl Z (gp Z Z ?_))));exact⟨Z,b⟩
theorem changePath_calls (w:World) (r:uw):
  ge prog 229 [.agg r.cells.toArray] w λv w'=>v=z9 r.path/\Ext No w w':=by
 refine gt func229 ?_;have b:=Ext.refl No w;refine ki (gn Z λd e f a c=>?_);have b:=b.g4 c;have a:gu e d 150 (r.cells):=a;refine k9 Z (jy Z (j3 a Z Z (vl Z (gp Z Z ?_))));exact⟨Z,b⟩
theorem check1_calls (w:World) (r:Bm):
  ge prog 238 [.agg r.cells.toArray] w λv w'=>v= .bool (decide (256<r.text.length))/\Ext No w w':=by
 refine gt func238 ?_;have b:=Ext.refl No w;refine ki (gn Z λd e f a c=>?_);have b:=b.g4 c;have a:gu e d 321 (r.cells):=a;refine k9 Z (jy Z (j3 a Z Z (vl Z (gp Z Z ?_))));exact⟨congrArg Value.bool (aH.2 (by have:(vg r.text).size=r.text.length:=rfl;omega)),b⟩
theorem indexFuncRow_calls (w:World) {p:Option Addr} {c G:Nat} {l:List Bm} (h:Sl w p l.length 2 (l.flatMap Bm.cells)) (hl:l.length<1000000000) (Q:Bm->Prop) [DecidablePred Q]
  (hcf:∀args w,(callFunc G args).run prog w= .ok (.enter G args) w) (hQ:∀w (r:Bm),r.cells.length=2->ge prog G [.agg r.cells.toArray] w λv w'=>v= .bool (decide (Q r))/\Ext No w w'):
  ge prog 246 [.slice p l.length c,.func (.func G) #[] #[]] w λv w'=>∃n:Int,v= .int .i64 n/\(0<=n↔∃r∈l,Q r)/\Ext No w w':=by
 refine gt func246 ?_;have a:=Ext.refl No w;refine uz Z (jn Z (j0 (ja (α:=Nat) [0,1,7] Z (λz=>[(8,.int .i64 (z:Int))]) (λz u=>(z<=l.length/\∀k (s:k<l.length),k<z->¬Q l[k])/\Ext No w u) (λz u=>l.length-z) (0) Z ⟨⟨aF _,λk _ h=>absurd h (bO _)⟩,a⟩ ?_)));rintro i t ⟨⟨j,d⟩,a⟩;refine uz Z (jc Z (λe=>?_) (λe=>?_));have j:i<l.length:=by omega
 obtain⟨b,m,rfl,f⟩:=(h.g0 a).rowAt (λr _=>r.len) j;refine yz (jn Z (jy Z (jo Z 2 Z i Z zo (m+i*2) Z (je Z f Z (g7 hcf Z (hQ t l[i] Z) ?_)))));rintro B C⟨rfl,q⟩;have a:=a.g4 q;refine qi (jc Z (λe=>?_) (λe=>?_));refine gh (gr (vl Z (gGk (gp Z Z ?_))));exact⟨_,Z,⟨λ_=>⟨_,aC j,e⟩,λ_=>cT _⟩,a⟩
 refine jw (yt Z ?_);rw[jt _ zo];refine ga ?_;exact j9 (i+1) Z ⟨⟨by omega,zv6 (p:=λx=>¬Q x) d j e⟩,a⟩ zf;have g:¬∃r∈l,Q r:=λ⟨r,y,A⟩=>by obtain⟨k,s,rfl⟩:=bF.1 y;exact d k s zo A
 refine zu (jn Z (j6 (gp Z Z ?_)));exact⟨_,Z,⟨λh=>absurd h zd,λh=>absurd h g⟩,a⟩
theorem xq4 (w:World) {p:Option Addr} {c G:Nat} {l:List Bm} (h:Sl w p l.length 2 (l.flatMap Bm.cells)) (hl:l.length<1000000000) (Q:Bm->Prop) [DecidablePred Q]
  (hcf:∀args w,(callFunc G args).run prog w= .ok (.enter G args) w) (hQ:∀w (r:Bm),r.cells.length=2->ge prog G [.agg r.cells.toArray] w λv w'=>v= .bool (decide (Q r))/\Ext No w w'):
  ge prog 237 [.slice p l.length c,.func (.func G) #[] #[]] w λv w'=>v= .bool (decide (∃r∈l,Q r))/\Ext No w w':=by
 refine gt func237 ?_;have a:=Ext.refl No w;refine jn Z (jy Z (g7 call246 Z (indexFuncRow_calls w (h.g0 a) hl Q hcf hQ) ?_));rintro f g⟨n,rfl,d,e⟩;have a:=a.g4 e;refine vl Z (gp Z Z ?_);exact⟨congrArg Value.bool (aH.2 d),a⟩
theorem xq3 (w:World) {p:Option Addr} {c G:Nat} {l:List uw} (h:Sl w p l.length 3 (l.flatMap uw.cells)) (hl:l.length<1000000000) (Q:uw->Prop) [DecidablePred Q]
  (hcf:∀args w,(callFunc G args).run prog w= .ok (.enter G args) w) (hQ:∀w (r:uw),r.cells.length=3->ge prog G [.agg r.cells.toArray] w λv w'=>v= .bool (decide (Q r))/\Ext No w w'):
  ge prog 242 [.slice p l.length c,.func (.func G) #[] #[]] w λv w'=>∃n:Int,v= .int .i64 n/\(0<=n↔∃r∈l,Q r)/\Ext No w w':=by
 refine gt func242 ?_;have a:=Ext.refl No w;refine uz Z (jn Z (j0 (ja (α:=Nat) [0,1,7] Z (λz=>[(8,.int .i64 (z:Int))]) (λz u=>(z<=l.length/\∀k (s:k<l.length),k<z->¬Q l[k])/\Ext No w u) (λz u=>l.length-z) (0) Z ⟨⟨aF _,λk _ h=>absurd h (bO _)⟩,a⟩ ?_)));rintro i t ⟨⟨j,d⟩,a⟩;refine uz Z (jc Z (λe=>?_) (λe=>?_));have j:i<l.length:=by omega
 obtain⟨b,m,rfl,f⟩:=(h.g0 a).rowAt (λr _=>r.len) j;refine yz (jn Z (jy Z (jo Z 3 Z i Z zo (m+i*3) Z (je Z f Z (g7 hcf Z (hQ t l[i] Z) ?_)))));rintro B C⟨rfl,q⟩;have a:=a.g4 q;refine qi (jc Z (λe=>?_) (λe=>?_));refine gh (gr (vl Z (gGk (gp Z Z ?_))));exact⟨_,Z,⟨λ_=>⟨_,aC j,e⟩,λ_=>cT _⟩,a⟩
 refine jw (yt Z ?_);rw[jt _ zo];refine ga ?_;exact j9 (i+1) Z ⟨⟨by omega,zv6 (p:=λx=>¬Q x) d j e⟩,a⟩ zf;have g:¬∃r∈l,Q r:=λ⟨r,y,A⟩=>by obtain⟨k,s,rfl⟩:=bF.1 y;exact d k s zo A
 refine zu (jn Z (j6 (gp Z Z ?_)));exact⟨_,Z,⟨λh=>absurd h zd,λh=>absurd h g⟩,a⟩
theorem yq1 (w:World) {p:Option Addr} {c G:Nat} {l:List uw} (h:Sl w p l.length 3 (l.flatMap uw.cells)) (hl:l.length<1000000000) (Q:uw->Prop) [DecidablePred Q]
  (hcf:∀args w,(callFunc G args).run prog w= .ok (.enter G args) w) (hQ:∀w (r:uw),r.cells.length=3->ge prog G [.agg r.cells.toArray] w λv w'=>v= .bool (decide (Q r))/\Ext No w w'):
  ge prog 227 [.slice p l.length c,.func (.func G) #[] #[]] w λv w'=>v= .bool (decide (∃r∈l,Q r))/\Ext No w w':=by
 refine gt func227 ?_;have a:=Ext.refl No w;refine jn Z (jy Z (g7 call242 Z (xq3 w (h.g0 a) hl Q hcf hQ) ?_));rintro f g⟨n,rfl,d,e⟩;have a:=a.g4 e;refine vl Z (gp Z Z ?_);exact⟨congrArg Value.bool (aH.2 d),a⟩
theorem xv9 (w:World) {p:Option Addr} {c G:Nat} {l:List ji} (hn:∀x∈l,(ji.cells x).length=33) (h:Sl w p l.length 33 (l.flatMap ji.cells)) (hl:l.length<1000000000) (Q:ji->Prop) [DecidablePred Q]
  (hcf:∀args w,(callFunc G args).run prog w= .ok (.enter G args) w) (hQ:∀w (r:ji),r.cells.length=33->ge prog G [.agg r.cells.toArray] w λv w'=>v= .bool (decide (Q r))/\Ext No w w'):
  ge prog 241 [.slice p l.length c,.func (.func G) #[] #[]] w λv w'=>∃n:Int,v= .int .i64 n/\(0<=n↔∃r∈l,Q r)/\Ext No w w':=by
 refine gt func241 ?_;have a:=Ext.refl No w;refine uz Z (jn Z (j0 (ja (α:=Nat) [0,1,7] Z (λz=>[(8,.int .i64 (z:Int))]) (λz u=>(z<=l.length/\∀k (s:k<l.length),k<z->¬Q l[k])/\Ext No w u) (λz u=>l.length-z) (0) Z ⟨⟨aF _,λk _ h=>absurd h (bO _)⟩,a⟩ ?_)));rintro i t ⟨⟨d,e⟩,a⟩;refine uz Z (jc Z (λf=>?_) (λf=>?_));have d:i<l.length:=by omega
 obtain⟨b,m,rfl,g⟩:=(h.g0 a).rowAt (hn) d;refine yz (jn Z (jy Z (jo Z 33 Z i Z zo (m+i*33) Z (je Z g (hn _ (aC d)) (g7 hcf Z (hQ t l[i] (hn _ (aC d))) ?_)))));rintro B C⟨rfl,q⟩;have a:=a.g4 q;refine qi (jc Z (λf=>?_) (λf=>?_));refine gh (gr (vl Z (gGk (gp Z Z ?_))));exact⟨_,Z,⟨λ_=>⟨_,aC d,f⟩,λ_=>cT _⟩,a⟩
 refine jw (yt Z ?_);rw[jt _ zo];refine ga ?_;exact j9 (i+1) Z ⟨⟨by omega,zv6 (p:=λx=>¬Q x) e d f⟩,a⟩ zf;have j:¬∃r∈l,Q r:=λ⟨r,y,A⟩=>by obtain⟨k,s,rfl⟩:=bF.1 y;exact e k s zo A
 refine zu (jn Z (j6 (gp Z Z ?_)));exact⟨_,Z,⟨λh=>absurd h zd,λh=>absurd h j⟩,a⟩
theorem yj8 (w:World) {p:Option Addr} {c G:Nat} {l:List ji} (hn:∀x∈l,(ji.cells x).length=33) (h:Sl w p l.length 33 (l.flatMap ji.cells)) (hl:l.length<1000000000) (Q:ji->Prop) [DecidablePred Q]
  (hcf:∀args w,(callFunc G args).run prog w= .ok (.enter G args) w) (hQ:∀w (r:ji),r.cells.length=33->ge prog G [.agg r.cells.toArray] w λv w'=>v= .bool (decide (Q r))/\Ext No w w'):
  ge prog 225 [.slice p l.length c,.func (.func G) #[] #[]] w λv w'=>v= .bool (decide (∃r∈l,Q r))/\Ext No w w':=by
 refine gt func225 ?_;have a:=Ext.refl No w;refine jn Z (jy Z (g7 call241 Z (xv9 w hn (h.g0 a) hl Q hcf hQ) ?_));rintro f g⟨n,rfl,d,e⟩;have a:=a.g4 e;refine vl Z (gp Z Z ?_);exact⟨congrArg Value.bool (aH.2 d),a⟩
theorem checkEdit1_calls (w:World) (r:uw):
  ge prog 228 [.agg r.cells.toArray] w λv w'=>v= .bool (decide (xz0 r))/\Ext No w w':=by
 have m:(vg r.text).size=r.text.length:=rfl;refine gt func228 ?_;have b:=Ext.refl No w;refine ki (gn Z λj k l a d=>?_);have b:=b.g4 d;have a:gu k j 150 (r.cells):=a;refine k9 Z (jb (α:=Bool) [] Z (λz=>[(2,.bool z)]) (λz u=>(z=decide (xz0 r))/\Ext No w u) ?_ ?_)
 ·refine gr (gv g5 Z (j3 a Z Z (gv g5 Z (j7 7 Z (λc=>?_) (λc=>?_)))))
  ·refine gm g5 10 Z (ga ?_)
   exact gk (true) Z ⟨by symm;rw[aO];exact .inl zo,b⟩
  ·refine gm g5 1 Z (j3 a Z Z (gm g5 2 Z (qy 11 Z (λc=>?_) (λc=>?_))))
   ·refine gm g5 1 Z (j3 a Z Z (gm g5 4 Z (ga ?_)))
    exact gk (_) Z ⟨by
 have f:r.is=false:=by simpa using c
 have e:(vg r.text≠ByteArray.mk #[])↔r.text≠[]:=by
  constructor
  ·intro g i;exact g (by rw[i];rfl)
  ·intro g i;exact g (xp i)
 rw[aH]
 refine e.trans ⟨λh=> .inr ⟨f,h⟩,λh=>h.elim (λh=>absurd h zo) λh=>h.2⟩,b⟩
   ·refine gm g5 6 Z (ga ?_)
    exact gk (false) Z ⟨by symm;rw[ao];have f:r.is=true:=(by simpa using c);exact λh=>h.elim (λh=>absurd h zo) λh=>absurd (f.symm.trans h.1) zd,b⟩
 rintro z n ⟨rfl,b⟩;refine j6 (gp Z Z ?_);exact⟨Z,b⟩
theorem risingRow_calls (w:World) {p:Option Addr} {c G:Nat} {l:List Bm} (h:Sl w p l.length 2 (l.flatMap Bm.cells)) (hl:l.length<1000000000) (hlen:∀r∈l,r.path.length<1000000000)
  (hcf:∀args w,(callFunc G args).run prog w= .ok (.enter G args) w) (hQ:∀w (r:Bm),ge prog G [.agg r.cells.toArray] w λv w'=>v=z9 r.path/\Ext No w w'):
  ge prog 240 [.agg #[.slice p l.length c,.func (.func G) #[] #[]]] w λv w'=>v= .bool (decide (xx3 (l.map Bm.path)))/\Ext No w w':=by
 refine gt func240 ?_;have d:=Ext.refl No w;refine ki (gn Z λR w1 aa a S=>?_);have d:=d.g4 S;have a:gu w1 R 339 ([.slice p l.length c,.func (.func G) #[] #[]]):=a;refine k9 Z (gh (jy Z (j3 a Z Z (k9 Z (jc Z (λt=>?_) (λt=>?_))))));refine gh (gr (vl Z (j2 (gp Z Z ?_))));exact⟨congrArg Value.bool (by symm;rw[ao];intro h;have:=h.1;rw[aB] at this;omega),d⟩
 have T:l.length<=32:=by omega
 refine vo (gh (jy Z (j3 a Z Z (k9 Z (j0 (ja (α:=Nat) [1,10,11] Z (λz=>[(12,.int .i64 (z:Int))]) (λz u=>(z<=l.length/\∀k (A:k<l.length),k<z->y6 l[k].path/\(0<k->SLt (vg l[k-1].path) (vg l[k].path)))/\gu u R 339 ([.slice p l.length c,.func (.func G) #[] #[]])/\Ext No w u) (λz u=>l.length-z) (0) Z ⟨⟨aF _,λk _ h=>absurd h (bO _)⟩,a,d⟩ ?_))))));rintro i w2 ⟨⟨Q,B⟩,a,d⟩;refine uz Z (jc Z (λt=>?_) (λt=>?_));have Q:i<l.length:=by omega
 obtain⟨b,x,rfl,j⟩:=h.km (λr _=>r.len) zo;refine yz (jy Z (jo Z 2 Z i Z zo (x+i*2) Z (je Z ((j i Q).g0 d) Z (gn Z λb4 w3 C f D=>?_))));have y:=gw a.lt C;have U:=Nat.le_trans d.size C;have a:=a.g0 D;have d:=d.g4 D;refine gv g5 Z (wl (gz (l':=(l[i]).cells) g5 f Z Z Z Z OneC.h λw4 f E ab=>?_));have a:=a.g9 E y;have d:=d.g8 E U;refine qi (jb (α:=Bool) [1,10,11,12] Z (λz=>[(42,.bool z)]) (λz u=>(z=decide (¬(y6 l[i].path/\(0<i->SLt (vg l[i-1].path) (vg l[i].path)))))/\gu u R 339 ([.slice (some ⟨b,x,none⟩) l.length c,.func (.func G) #[] #[]])/\Ext No w u) ?_ ?_);refine jl Z 26 [qP 0,qP 1,qP 2,(3,false),(4,false),qP 5,qP 6,qP 7,qP 8,qP 9,qP 10,qP 11,qP 12,qP 13,qP 14,qP 15,qP 16,qP 17,qP 19,qP 20,qP 21,(18,false),(22,false),qP 23,qP 24,qP 25] [] (No) zk λw5 o ac=>?_;have q:=a;have F:=f;have V:=d;have a:=a.g0 o;have f:=f.g0 o;have d:=d.g4 o;have n:Ext (No) _ w5:=o.no;refine gl g5 1 Z (gy g5 Z Z (λw' e=>(q.g0 e).cell Z) (kw g5 Z Z (λw' e=>(F.g0 e).kc) Z (jg Z (gx hcf Z (hQ w5 l[i]) λv6 w6 H=>⟨(by obtain⟨rfl,g⟩:=H;exact n.g4 g),?_⟩))));obtain⟨rfl,g⟩:=H;have a:=a.g0 g;have f:=f.g0 g;have d:=d.g4 g;have n:=n.g4 g;refine jg Z (gx call243 Z (path_calls w6 l[i].path (hlen _ (aC Q))) λv7 w7 J=>⟨(by obtain⟨rfl,rfl⟩:=J;exact n),?_⟩);obtain⟨rfl,rfl⟩:=J;have n:=n;refine gl g5 2 Z (Bo 23 Z (λK=>?_) (λK=>?_));have W:¬y6 l[i].path:=by simpa using K
 refine gl g5 19 Z (jd (j1 ?_));exact gk (true) Z ⟨by symm;rw[aO];exact λh=>W h.1,a,d⟩;have L:y6 l[i].path:=by simpa using K
 refine gl g5 3 Z (ve 26 Z (λK=>?_) (λK=>?_));refine gl g5 1 Z (gy g5 Z Z (λw' e=>(q.g0 e).cell Z) (gl g5 1 Z (gy g5 Z Z (λw' e=>(q.g0 e).cell Z) (gl g5 2 Z ?_))));rw[jt _ zo];refine qe g5 Z Z 2 Z (i-1) zo zo (x+(i-1)*2) Z (kw g5 Z Z (λw' e=>((j (i-1) zo).g0 (V.g4 e))) Z (gl g5 1 Z (gy g5 Z Z (λw' e=>(q.g0 e).cell Z) (kw g5 Z Z (λw' e=>(F.g0 e).kc) Z (jg Z (gx hcf Z (hQ w7 _) λv8 w8 M=>⟨(by obtain⟨rfl,m⟩:=M;exact n.g4 m),?_⟩))))));obtain⟨rfl,m⟩:=M;have a:=a.g0 m;have d:=d.g4 m;have n:=n.g4 m;refine jg Z (gx hcf Z (hQ w8 _) λv9 w9 N=>⟨(by obtain⟨rfl,s⟩:=N;exact n.g4 s),?_⟩);obtain⟨rfl,s⟩:=N;have a:=a.g0 s;have d:=d.g4 s;refine gl g5 3 Z (jd (j1 ?_));exact gk (_) Z ⟨by rw[aH];exact⟨λX Y=>X (Y.2 zo),λX Y=>X ⟨L,λ_=>Y⟩⟩,a,d⟩;refine gl g5 16 Z (jd (j1 ?_));exact gk (false) Z ⟨by symm;rw[ao];exact λh=>h ⟨L,λh0=>absurd h0 zo⟩,a,d⟩;rintro z ad ⟨rfl,a,d⟩;refine jc Z (λt=>?_) (λt=>?_);refine gh (gr (vl Z (gGk (gp Z Z ?_))));exact⟨congrArg Value.bool (by symm;rw[ao];intro h;have:=h.2 i (by rw[aB];exact Q);exact t (by simpa using this)),d⟩
 have I:=aN.1 t
 have O:∀k (A:k<l.length),k<i+1->y6 l[k].path/\(0<k->SLt (vg l[k-1].path) (vg l[k].path)):=λk A ae=>by
  rcases aZ k i with h'|h';exact B k A h';obtain rfl:k=i:=by omega
  exact I
 refine jw (yt Z ?_);rw[jt _ zo];refine ga ?_;exact j9 (i+1) Z ⟨⟨by omega,O⟩,a,d⟩ zf;have P:xx3 (l.map Bm.path):=⟨by rw[aB];exact T,λk A=>by rw[aB] at A;simpa using B k A zo⟩
 refine zu (jn Z (j6 (gp Z Z ?_)));exact⟨congrArg Value.bool (bN P).symm,d⟩
theorem risingChange_calls (w:World) {p:Option Addr} {c G:Nat} {l:List uw} (h:Sl w p l.length 3 (l.flatMap uw.cells)) (hl:l.length<1000000000) (hlen:∀r∈l,r.path.length<1000000000)
  (hcf:∀args w,(callFunc G args).run prog w= .ok (.enter G args) w) (hQ:∀w (r:uw),ge prog G [.agg r.cells.toArray] w λv w'=>v=z9 r.path/\Ext No w w'):
  ge prog 230 [.agg #[.slice p l.length c,.func (.func G) #[] #[]]] w λv w'=>v= .bool (decide (xx3 (l.map uw.path)))/\Ext No w w':=by
 refine gt func230 ?_;have d:=Ext.refl No w;refine ki (gn Z λR w1 aa a S=>?_);have d:=d.g4 S;have a:gu w1 R 329 ([.slice p l.length c,.func (.func G) #[] #[]]):=a;refine k9 Z (gh (jy Z (j3 a Z Z (k9 Z (jc Z (λt=>?_) (λt=>?_))))));refine gh (gr (vl Z (j2 (gp Z Z ?_))));exact⟨congrArg Value.bool (by symm;rw[ao];intro h;have:=h.1;rw[aB] at this;omega),d⟩
 have T:l.length<=32:=by omega
 refine vo (gh (jy Z (j3 a Z Z (k9 Z (j0 (ja (α:=Nat) [1,10,11] Z (λz=>[(12,.int .i64 (z:Int))]) (λz u=>(z<=l.length/\∀k (A:k<l.length),k<z->y6 l[k].path/\(0<k->SLt (vg l[k-1].path) (vg l[k].path)))/\gu u R 329 ([.slice p l.length c,.func (.func G) #[] #[]])/\Ext No w u) (λz u=>l.length-z) (0) Z ⟨⟨aF _,λk _ h=>absurd h (bO _)⟩,a,d⟩ ?_))))));rintro i w2 ⟨⟨Q,B⟩,a,d⟩;refine uz Z (jc Z (λt=>?_) (λt=>?_));have Q:i<l.length:=by omega
 obtain⟨b,x,rfl,j⟩:=h.km (λr _=>r.len) zo;refine yz (jy Z (jo Z 3 Z i Z zo (x+i*3) Z (je Z ((j i Q).g0 d) Z (gn Z λb4 w3 C f D=>?_))));have y:=gw a.lt C;have U:=Nat.le_trans d.size C;have a:=a.g0 D;have d:=d.g4 D;refine gv g5 Z (wl (gz (l':=(l[i]).cells) g5 f Z Z Z Z OneC.h λw4 f E ab=>?_));have a:=a.g9 E y;have d:=d.g8 E U;refine qi (jb (α:=Bool) [1,10,11,12] Z (λz=>[(42,.bool z)]) (λz u=>(z=decide (¬(y6 l[i].path/\(0<i->SLt (vg l[i-1].path) (vg l[i].path)))))/\gu u R 329 ([.slice (some ⟨b,x,none⟩) l.length c,.func (.func G) #[] #[]])/\Ext No w u) ?_ ?_);refine jl Z 26 [qP 0,qP 1,qP 2,(3,false),(4,false),qP 5,qP 6,qP 7,qP 8,qP 9,qP 10,qP 11,qP 12,qP 13,qP 14,qP 15,qP 16,qP 17,qP 19,qP 20,qP 21,(18,false),(22,false),qP 23,qP 24,qP 25] [] (No) zk λw5 o ac=>?_;have q:=a;have F:=f;have V:=d;have a:=a.g0 o;have f:=f.g0 o;have d:=d.g4 o;have n:Ext (No) _ w5:=o.no;refine gl g5 1 Z (gy g5 Z Z (λw' e=>(q.g0 e).cell Z) (kw g5 Z Z (λw' e=>(F.g0 e).kc) Z (jg Z (gx hcf Z (hQ w5 l[i]) λv6 w6 H=>⟨(by obtain⟨rfl,g⟩:=H;exact n.g4 g),?_⟩))));obtain⟨rfl,g⟩:=H;have a:=a.g0 g;have f:=f.g0 g;have d:=d.g4 g;have n:=n.g4 g;refine jg Z (gx call243 Z (path_calls w6 l[i].path (hlen _ (aC Q))) λv7 w7 J=>⟨(by obtain⟨rfl,rfl⟩:=J;exact n),?_⟩);obtain⟨rfl,rfl⟩:=J;have n:=n;refine gl g5 2 Z (Bo 23 Z (λK=>?_) (λK=>?_));have W:¬y6 l[i].path:=by simpa using K
 refine gl g5 19 Z (jd (j1 ?_));exact gk (true) Z ⟨by symm;rw[aO];exact λh=>W h.1,a,d⟩;have L:y6 l[i].path:=by simpa using K
 refine gl g5 3 Z (ve 26 Z (λK=>?_) (λK=>?_));refine gl g5 1 Z (gy g5 Z Z (λw' e=>(q.g0 e).cell Z) (gl g5 1 Z (gy g5 Z Z (λw' e=>(q.g0 e).cell Z) (gl g5 2 Z ?_))));rw[jt _ zo];refine qe g5 Z Z 3 Z (i-1) zo zo (x+(i-1)*3) Z (kw g5 Z Z (λw' e=>((j (i-1) zo).g0 (V.g4 e))) Z (gl g5 1 Z (gy g5 Z Z (λw' e=>(q.g0 e).cell Z) (kw g5 Z Z (λw' e=>(F.g0 e).kc) Z (jg Z (gx hcf Z (hQ w7 _) λv8 w8 M=>⟨(by obtain⟨rfl,m⟩:=M;exact n.g4 m),?_⟩))))));obtain⟨rfl,m⟩:=M;have a:=a.g0 m;have d:=d.g4 m;have n:=n.g4 m;refine jg Z (gx hcf Z (hQ w8 _) λv9 w9 N=>⟨(by obtain⟨rfl,s⟩:=N;exact n.g4 s),?_⟩);obtain⟨rfl,s⟩:=N;have a:=a.g0 s;have d:=d.g4 s;refine gl g5 3 Z (jd (j1 ?_));exact gk (_) Z ⟨by rw[aH];exact⟨λX Y=>X (Y.2 zo),λX Y=>X ⟨L,λ_=>Y⟩⟩,a,d⟩;refine gl g5 16 Z (jd (j1 ?_));exact gk (false) Z ⟨by symm;rw[ao];exact λh=>h ⟨L,λh0=>absurd h0 zo⟩,a,d⟩;rintro z ad ⟨rfl,a,d⟩;refine jc Z (λt=>?_) (λt=>?_);refine gh (gr (vl Z (gGk (gp Z Z ?_))));exact⟨congrArg Value.bool (by symm;rw[ao];intro h;have:=h.2 i (by rw[aB];exact Q);exact t (by simpa using this)),d⟩
 have I:=aN.1 t
 have O:∀k (A:k<l.length),k<i+1->y6 l[k].path/\(0<k->SLt (vg l[k-1].path) (vg l[k].path)):=λk A ae=>by
  rcases aZ k i with h'|h';exact B k A h';obtain rfl:k=i:=by omega
  exact I
 refine jw (yt Z ?_);rw[jt _ zo];refine ga ?_;exact j9 (i+1) Z ⟨⟨by omega,O⟩,a,d⟩ zf;have P:xx3 (l.map uw.path):=⟨by rw[aB];exact T,λk A=>by rw[aB] at A;simpa using B k A zo⟩
 refine zu (jn Z (j6 (gp Z Z ?_)));exact⟨congrArg Value.bool (bN P).symm,d⟩
theorem check_calls (w:World) {p:Option Addr} {c:Nat} {l:List Bm} (h:Sl w p l.length 2 (l.flatMap Bm.cells)) (hl:l.length<1000000000) (hlen:∀r∈l,r.path.length<1000000000):
  ge prog 224 [.agg #[.slice p l.length c]] w λv w'=>v= .int .i64 (if RowsOk l then 0 else 150)/\Ext No w w':=by
 refine gt func224 ?_;have a:=Ext.refl No w;refine ki (gn Z λq o s b e=>?_);have a:=a.g4 e;have b:gu o q 319 ([.slice p l.length c]):=b;refine k9 Z (jy Z (j3 b Z Z (g7 call237 Z (xq4 o (h.g0 a) hl (λr=>256<r.text.length) call238 λw r _=>check1_calls w r) ?_)));rintro x t⟨rfl,d⟩;have b:=b.g0 d;have a:=a.g4 d;refine k9 Z (gh (jb (α:=Bool) [] Z (λz=>[(14,.bool z)]) (λz u=>(z=decide (¬RowsOk l))/\Ext No w u) ?_ ?_));refine gr (gv g5 Z (j7 8 Z (λg=>?_) (λg=>?_)));refine gm g5 6 Z (ga ?_);exact gk (true) Z ⟨by symm;rw[aO];exact λh=>h.1 g,a⟩;refine gm g5 1 Z (j3 b Z Z (jv Z zr (l':=[.slice p l.length c,.func (.func 239) #[] #[]]) Z (g7 call240 Z (risingRow_calls t (h.g0 a) hl hlen call239 rowPath_calls) ?_)));rintro y A⟨rfl,j⟩;have a:=a.g4 j;refine gm g5 2 Z (ga ?_);exact gk (_) Z ⟨by rw[<-decide_not,aH];exact⟨λk m=>k m.2,λk m=>k ⟨g,m⟩⟩,a⟩;rintro z B ⟨rfl,a⟩;refine jc Z (λn=>?_) (λn=>?_);refine gh (gr (vl Z (j2 (gp Z Z ?_))));exact⟨by rw[aJ n],a⟩
 refine jw (jh (jn Z (j6 (gp Z Z ?_))));exact⟨by rw[aM (aN.1 n)],a⟩
theorem checkEdit_calls (w:World) {p:Option Addr} {c:Nat} {l:List uw} (h:Sl w p l.length 3 (l.flatMap uw.cells)) (hl:l.length<1000000000) (hlen:∀r∈l,r.path.length<1000000000):
  ge prog 214 [.agg #[.slice p l.length c]] w λv w'=>v= .int .i64 (if yq6 l then 0 else 151)/\Ext No w w':=by
 refine gt func214 ?_;have a:=Ext.refl No w;refine ki (gn Z λq o s b e=>?_);have a:=a.g4 e;have b:gu o q 34 ([.slice p l.length c]):=b;refine k9 Z (jy Z (j3 b Z Z (g7 call227 Z (yq1 o (h.g0 a) hl xz0 call228 λw r _=>checkEdit1_calls w r) ?_)));rintro x t⟨rfl,d⟩;have b:=b.g0 d;have a:=a.g4 d;refine k9 Z (gh (jb (α:=Bool) [] Z (λz=>[(14,.bool z)]) (λz u=>(z=decide (¬yq6 l))/\Ext No w u) ?_ ?_));refine gr (gv g5 Z (j7 8 Z (λg=>?_) (λg=>?_)));refine gm g5 6 Z (ga ?_);exact gk (true) Z ⟨by symm;rw[aO];exact λh=>h.1 g,a⟩;refine gm g5 1 Z (j3 b Z Z (jv Z zr (l':=[.slice p l.length c,.func (.func 229) #[] #[]]) Z (g7 call230 Z (risingChange_calls t (h.g0 a) hl hlen call229 changePath_calls) ?_)));rintro y A⟨rfl,j⟩;have a:=a.g4 j;refine gm g5 2 Z (ga ?_);exact gk (_) Z ⟨by rw[<-decide_not,aH];exact⟨λk m=>k m.2,λk m=>k ⟨g,m⟩⟩,a⟩;rintro z B ⟨rfl,a⟩;refine jc Z (λn=>?_) (λn=>?_);refine gh (gr (vl Z (j2 (gp Z Z ?_))));exact⟨by rw[aJ n],a⟩
 refine jw (jh (jn Z (j6 (gp Z Z ?_))));exact⟨by rw[aM (aN.1 n)],a⟩
theorem rightEdit5_calls (w:World) {p:Option Addr} {c:Nat} {l:List uw} (h:Sl w p l.length 3 (l.flatMap uw.cells)) (hl:l.length<1000000000) (hlen:∀r∈l,r.path.length<1000000000):
  ge prog 200 [.agg #[.slice p l.length c]] w λv w'=>v= .bool (decide (yq6 l))/\Ext No w w':=by
 refine gt func200 ?_;have f:=Ext.refl No w;refine ki (gn Z λQ W X a R=>?_);have f:=f.g4 R;have a:gu W Q 34 ([.slice p l.length c]):=a;refine k9 Z (gh (jn Z (j0 (ja (α:=Nat) [1] Z (λz=>[(3,.int .i64 (z:Int))]) (λz u=>(z<=l.length/\∀k (E:k<l.length),k<z->ChgGood l k E)/\gu u Q 34 ([.slice p l.length c])/\Ext No w u) (λz u=>l.length-z) (0) Z ⟨⟨aF _,λk _ h=>absurd h (bO _)⟩,a,f⟩ ?_))));rintro i w2 ⟨⟨F,G⟩,a,f⟩;refine gh (jy Z (j3 a Z Z (k9 Z (jc Z (λH=>?_) (λH=>?_)))));have F:i<l.length:=by omega
 obtain⟨b,q,rfl,j⟩:=h.km (λr _=>r.len) zo;have Y:(vg l[i].text).size=l[i].text.length:=rfl;refine yz (jy Z (j3 a Z Z (gv g5 Z (jo Z 3 Z i Z zo (q+i*3) Z (je Z ((j i F).g0 f) Z (gn Z λb4 w3 J n K=>?_))))));have x:=gw a.lt J;have S:=Nat.le_trans f.size J;have a:=a.g0 K;have f:=f.g4 K;refine wl (gz (l':=(l[i]).cells) g5 n Z Z Z Z OneC.h λw4 n L I=>?_);have a:=a.g9 L x;have f:=f.g8 L S;refine qi (jb (α:=Bool) [1,3] Z (λz=>[(56,.bool z)]) (λz u=>(z=decide (¬ChgGood l i F))/\gu u Q 34 ([.slice (some ⟨b,q,none⟩) l.length c])/\Ext No w u) ?_ ?_);refine jl Z 40 [qP 0,qP 1,qP 2,qP 3,qP 4,(5,false),qP 6,qP 7,qP 8,qP 9,qP 10,qP 11,qP 12,qP 13,qP 14,qP 15,qP 16,qP 17,qP 18,qP 19,qP 20,qP 21,qP 22,qP 23,qP 24,qP 25,qP 26,qP 27,qP 28,qP 29,qP 30,qP 31,qP 32,qP 33,qP 34,qP 35,qP 36,qP 37,qP 38,qP 39] [] (No) zk λV s aa=>?_;have M:=a;have m:=n;have N:=f;have a:=a.g0 s;have n:=n.g0 s;have f:=f.g4 s;have hC:Ext (No) _ V:=s.no;refine gl g5 3 Z (ve 19 Z (λg=>?_) (λg=>?_));refine gl g5 37 Z (jd (j1 ?_));exact gk (true) Z ⟨by symm;rw[aO];exact λh=>h.1 zo,a,f⟩;refine gl g5 1 Z (gy g5 Z Z (λw' d=>(m.g0 d).cell Z) (jg Z (gx call218 Z (path5_calls V l[i].path (hlen _ (aC F))) λv6 w6 O=>⟨(by obtain⟨rfl,rfl⟩:=O;exact hC),?_⟩)));obtain⟨rfl,rfl⟩:=O;refine gl g5 3 Z (Bo 25 Z (λg=>?_) (λg=>?_));have T:¬y6 l[i].path:=by simpa using g
 refine gl g5 31 Z (jd (j1 ?_));exact gk (true) Z ⟨by symm;rw[aO];exact λh=>T h.2.1,a,f⟩;have t:y6 l[i].path:=by simpa using g
 refine gl g5 1 Z (gy g5 Z Z (λw' d=>(m.g0 d).cell Z) (gl g5 4 Z (ve 31 Z (λg=>?_) (λg=>?_))));refine gl g5 25 Z (jd (j1 ?_));exact gk (true) Z ⟨by symm;rw[aO];exact λh=>h.2.2.1 (.inl zo),a,f⟩;refine gl g5 1 Z (gy g5 Z Z (λw' d=>(m.g0 d).cell Z) (gl g5 2 Z (Bo 35 Z (λg=>?_) (λg=>?_))));have y:l[i].is=false:=(by simpa using g)
 refine gl g5 1 Z (gy g5 Z Z (λw' d=>(m.g0 d).cell Z) (gl g5 4 Z (ve 41 Z (λg=>?_) (λg=>?_))));have A:=(chg_nil _).1 g;refine gl g5 15 Z (jd (j1 ?_));exact gk (true) Z ⟨by symm;rw[aO];exact λh=>h.2.2.1 (.inr ⟨y,A⟩),a,f⟩;have A:¬l[i].text≠[]:=λh=>g ((chg_nil _).2 h);have o:¬xz0 l[i]:=λh=>h.elim (λh=>absurd h zo) λh=>A h.2;refine gl g5 3 Z (ve 44 Z (λg=>?_) (λg=>?_));refine gl g5 1 Z (gy g5 Z Z (λw' d=>(m.g0 d).cell Z) (gl g5 1 Z (gy g5 Z Z (λw' d=>(M.g0 d).cell Z) (gl g5 2 Z ?_))));rw[jt _ zo];refine qe g5 Z Z 3 Z (i-1) zo zo (q+(i-1)*3) Z (gl g5 1 Z (gy g5 Z Z (λw' d=>(((j (i-1) zo).g0 (N.g4 d)) 0 _ Z)) (gl g5 3 Z (jd (j1 ?_)))));exact gk (_) Z ⟨by rw[aH];exact⟨λB C=>(yz8 _ _).2 (C.2.2.2 zo) (B.imp id λe=>e),λB=>aN.1 λC=>B ⟨by omega,t,o,λ_=>(yz8 _ _).1 C⟩⟩,a,f⟩;refine gl g5 12 Z (jd (j1 ?_));exact gk (false) Z ⟨by symm;rw[ao];exact λh=>h ⟨by omega,t,o,λD=>absurd D zo⟩,a,f⟩;have y:l[i].is=true:=(by simpa using g)
 have o:¬xz0 l[i]:=λh=>h.elim (λh=>absurd h zo) λh=>absurd (y.symm.trans h.1) zd;refine gl g5 9 Z (ve 44 Z (λg=>?_) (λg=>?_));refine gl g5 1 Z (gy g5 Z Z (λw' d=>(m.g0 d).cell Z) (gl g5 1 Z (gy g5 Z Z (λw' d=>(M.g0 d).cell Z) (gl g5 2 Z ?_))));rw[jt _ zo];refine qe g5 Z Z 3 Z (i-1) zo zo (q+(i-1)*3) Z (gl g5 1 Z (gy g5 Z Z (λw' d=>(((j (i-1) zo).g0 (N.g4 d)) 0 _ Z)) (gl g5 3 Z (jd (j1 ?_)))));exact gk (_) Z ⟨by rw[aH];exact⟨λB C=>(yz8 _ _).2 (C.2.2.2 zo) (B.imp id λe=>e),λB=>aN.1 λC=>B ⟨by omega,t,o,λ_=>(yz8 _ _).1 C⟩⟩,a,f⟩;refine gl g5 12 Z (jd (j1 ?_));exact gk (false) Z ⟨by symm;rw[ao];exact λh=>h ⟨by omega,t,o,λD=>absurd D zo⟩,a,f⟩;rintro z w7 ⟨rfl,a,f⟩;refine jc Z (λH=>?_) (λH=>?_);refine gh (gr (vl Z (gGk (gp Z Z ?_))));exact⟨congrArg Value.bool (by symm;rw[ao];exact λh=>H (editOk_iff.1 h i F)),f⟩
 have U:=aN.1 H;refine jw (yt Z ?_);rw[jt _ zo];refine ga ?_;exact j9 (i+1) Z ⟨⟨by omega,λk E ab=>(by rcases aZ k i with D|D;exact G k E D;(have e:k=i:=zo);subst e;exact U)⟩,a,f⟩ zf;have P:yq6 l:=editOk_iff.2 λk E=>G k E zo;refine zu (jn Z (j6 (gp Z Z ?_)));exact⟨congrArg Value.bool (bN P).symm,f⟩
end Go.Proofs.YtpdiphfjmepijaaGreatDoor
