/-
  Walks and laws towards: StoreLasts: wherever the power goes, what is opened again has what was there, or what the batch was to bring, and all that its objects link to; for whatever deeds.
-/
import Derived.IntWalk
import Derived.DeepKeys
import Derived.Test.YtpdiphfjmepijaaGreatDoorLaA
open List renaming mem_iff_getElem→bG,getElem?_append_right→cD,length_nil→cL,getElem?_append_left→cO,flatMap_cons→cX,flatten_cons→dG,map_cons→dI,set_append_right→dM
open Int renaming toNat_natCast→bV,natCast_nonneg→cF
open Bool renaming and_eq_true→bY
open Nat renaming add_mul→cS
namespace Go.Vc
section
variable {P : Program} {I : uh} {f : Fs} {ops : Array Oper} {o : Oper} {env : Env} {w : World} {K : Env -> World -> Prop}
end
abbrev yk (b : UInt8) : Value := .int .u8 (b.toNat : Int)
def gh (l : List UInt8) : List Value := l.map yk
theorem gm (l : List UInt8) : (gh l).length = l.length := by simp [gh]
instance (l : List UInt8) : OneC (gh l) := ⟨λu hu => by obtain ⟨x, _, rfl⟩ := aZ.1 hu; rfl⟩
theorem qy (a b : List UInt8) : gh (a ++ b) = gh a ++ gh b := by simp [gh]
theorem vl (l : List UInt8) (n : Nat) : (gh l).take n = gh (l.take n) := by simp [gh]
theorem ve (l : List UInt8) (n : Nat) : (gh l).drop n = gh (l.drop n) := by simp [gh]
theorem bytesU_get (l : List UInt8) {i : Nat} (h : i < l.length) : (gh l)[i]? = some (yk l[i]) := by simp [gh, h]
theorem bytesU_inj {a b:List UInt8} (h:gh a=gh b):a=b:=by
 refine(List.map_inj_right (f:=yk) λx y e=>?_).1 h;simp only[yk,Value.int.injEq,true_and] at e;exact UInt8.toNat_inj.1 zk
abbrev xy (w : World) (p : Option Addr) (l : List UInt8) : Prop := Sl w p l.length 1 (gh l)
def be : Nat -> Nat -> List UInt8
  | 0, _ => []
  | n + 1, x => be n (x / 256) ++ [UInt8.ofNat x]
theorem ka (n x : Nat) : (be n x).length = n := by
  induction n generalizing x with
  | zero => rfl
  | succ n ih => simp [be, ih]
theorem yi (x : Nat) : IntKind.u8.wrap (x : Int) = ((UInt8.ofNat x).toNat : Int) := by
  rw [IntKind.wrap_u8, UInt8.toNat_ofNat']
  omega
theorem shr4 (x : Nat) : Int.fdiv (x : Int) (2 ^ 4) = ((x / 16 : Nat) : Int) := by
  rw [Int.fdiv_eq_ediv_of_nonneg _ zd]
  rfl
theorem fill_byte (l t:List UInt8) (k:Nat) (b:UInt8):(gh (l++(List.replicate (k+1) 0++t))).set (l.length+k) (yk b)=gh (l++(List.replicate k 0++(b::t))):=by
 rw[gh,<-List.map_set,dM _ _ zk,Nat.add_sub_cancel_left,List.replicate_succ',aM,dM _ _ zq];simp[gh]
theorem yz2 (n : Nat) : Df n [Value.int .u8 0] = gh (List.replicate n 0) := by
  rw [rep_one]
  simp [gh, yk]
def num (l : List UInt8) : Nat := l.foldl (λx b => x * 256 + b.toNat) 0
theorem num_snoc (l : List UInt8) (b : UInt8) : num (l ++ [b]) = num l * 256 + b.toNat := by simp [num]
theorem num_take (l:List UInt8) {i:Nat} (h:i<l.length):num (l.take (i+1))=num (l.take i)*256+(l[i]).toNat:=by
 rw[aO h,num_snoc]
theorem xy.at {w:World} {p:Option Addr} {l:List UInt8} (h:xy w p l) {i:Nat} (hi:i<l.length):∃b off,p=some ⟨b,off,none⟩/\w.cell? ⟨b,off+i*1,none⟩=some (yk l[i]):=by
 obtain⟨_,d|⟨b,off,a,c⟩⟩:=h;omega;exact⟨b,off,a,by rw[bF];exact c i _ (bytesU_get l hi)⟩
theorem xu (l:List UInt8):num l<256^l.length:=by
 have:∀(l:List UInt8),num l<256^l.length:=by
  intro l;generalize hn:l.length=n;induction n generalizing l with
  |zero=>
   have:l=[]:=aU hn;subst this;simp[num]
  |succ n ih=>
   have a:l≠[]:=λe=>by subst e;simp at hn
   obtain⟨b,c⟩:∃b,l=l.dropLast++[b]:=⟨l.getLast a,(List.dropLast_concat_getLast a).symm⟩
   rw[c,num_snoc];have d:=ih l.dropLast (by simp[hn]);have f:=b.toNat_lt;rw[Nat.pow_succ];omega
 exact this l
theorem num_go (l:List UInt8) (x:Nat):l.foldl (λx b=>x*256+b.toNat) x=x*256^l.length+num l:=by
 induction l generalizing x with
 |nil=>simp[num]
 |cons b r ih=>
  have e:num (b::r)=(0*256+b.toNat)*256^r.length+num r:=ih _;rw[List.foldl_cons,ih,e,aQ,Nat.pow_succ,cS,dA,aV,Nat.add_assoc,Nat.mul_assoc,Nat.mul_comm 256]
theorem num_cons (b:UInt8) (l:List UInt8):num (b::l)=b.toNat*256^l.length+num l:=by
 have e:num (b::l)=(0*256+b.toNat)*256^l.length+num l:=num_go l _;rw[e,dA,aV]
theorem num_drop (l:List UInt8) {i:Nat} (h:i<l.length):num (l.drop i)=(l[i]).toNat*256^(l.length-(i+1))+num (l.drop (i+1)):=by
 rw[cB h,num_cons,aX]
end Go.Vc
namespace Go.Proofs.YtpdiphfjmepijaaGreatDoor
open Go.Proofs.Tryz
open Go.Vc
theorem lies16_calls (w:World) {p:Option Addr} {c:Nat} {l:List UInt8} (h:xy w p l) (hl:l.length<1000000000) (x n:Nat) (hn:n<100) (hx:x<2^16):
  gn prog 158 [.slice p l.length c,.int .u16 (x:Int),.int .i64 (n:Int)] w λv w'=>∃b,v= .slice (some ⟨b,0,none⟩) (l.length+n) (l.length+n)/\w.heap.size<=b/\j0 w' b 5 (gh (l++be n x))/\Ext No w w':=by
 refine gz func158 (have d:=Ext.refl No w;kw Z (qj Z ?_));rw[qc _ zk];refine wl (zx8 ge Z (l.length+n) (l.length+n) 1 Z Z Z zd zk zk (aB _) zk zb λf B m a o C=>?_);have g:=al d.size m;have d:=d.gb o;have a:j0 B f 5 (gh (List.replicate (l.length+n) 0)):=by(have e:Df (l.length+n) (cellsOf ti5.zero)=gh (List.replicate (l.length+n) 0):=yz2 _);rw[<-e];exact a
 refine kg Z (qj Z (wl (yj2 ge Z 1 Z a (Src.slice (h.ga d) OneC.h) zt (by rw[gm,bN];dsimp only;omega) λD q r E=>?_)))
 have a:j0 D f 5 (gh (l++(List.replicate n 0++[]))):=by
  have e:Vc.put (gh (List.replicate (l.length+n) 0)) 0 (gh l)=gh (l++(List.replicate n 0++[])):=by rw[put_eq _ _ _ (by simp[gm])];rw[ve];simp[qy,gm]
  rw[<-e];exact q
 have d:=d.gi r g;refine kg Z (gp (kw Z (j8 (jl (α:=Nat×Nat×List UInt8) [7,8] Z (λz=>[(1,.int .u16 (z.2.1:Int)),(9,.int .i64 ((l.length+z.1:Nat):Int))]) (λz u=>(z.1<=n/\z.2.1<2^16/\be n x=be z.1 z.2.1++z.2.2/\j0 u f 5 (gh (l++(List.replicate z.1 0++z.2.2))))/\Ext No w u) (λz u=>z.1) (n,x,[]) Z ⟨⟨aB _,hx,by simp,a⟩,d⟩ ?_))));rintro⟨j,y,t⟩ L ⟨⟨F,G,k,a⟩,d⟩;dsimp only at F G k a;refine gp (kw Z (jy Z (λH=>?_) (λH=>?_)));obtain⟨i,rfl⟩:∃i,j=i+1:=⟨j-1,by omega⟩
 refine xg (j8 (qj Z ?_));rw[qc _ zk];refine u3 (qj Z ?_);rw[show(((l.length+(i+1):Nat):Int)-1)=((l.length+i:Nat):Int) from by omega];rw[yi];refine ki Z 1 Z (l.length+i) Z zk (0+(l.length+i)*1) Z (wl (un ge a Z Z (by rw[gm];simp;omega) λJ a s K=>?_));have d:=d.gi s g;have a:j0 J f 5 (gh (l++(List.replicate i 0++(UInt8.ofNat y::t)))):=by rw[aV,bF,fill_byte] at a;exact a
 refine u3 (kw Z (yy Z ?_));rw[show Int.fdiv (Int.fdiv (y:Int) (2^min (4:Int).toNat IntKind.u16.bits)) (2^min (4:Int).toNat IntKind.u16.bits)=((y/16/16:Nat):Int) from by rw[show(2:Int)^min (4:Int).toNat IntKind.u16.bits=2^4 from Z,shr4,shr4]];exact gl (jr (jh (i,y/16/16,UInt8.ofNat y::t) Z ⟨⟨by dsimp only;omega,by dsimp only;omega,by dsimp only;rw[k,be,Nat.div_div_eq_div_mul];simp,a⟩,d⟩ zm));have A:j=0:=by omega
 subst A;have k:be n x=t:=by rw[k];rfl
 rw[List.replicate_zero,bI,<-k] at a;exact Bh (kw Z (gv (gy Z Z ⟨f,Z,g,a,d⟩)))
theorem zx0 (w:World) {p:Option Addr} {c:Nat} {l:List UInt8} (h:xy w p l) (hl:l.length<1000000000) (x:Nat) (hx:x<2^16):
  gn prog 91 [.slice p l.length c,.int .u16 (x:Int)] w λv w'=>∃b,v= .slice (some ⟨b,0,none⟩) (l++be 2 x).length (l++be 2 x).length/\w.heap.size<=b/\j0 w' b 5 (gh (l++be 2 x))/\Ext No w w':=by
 refine gz func91 ?_;have a:=Ext.refl No w;refine kw Z (qj Z ?_);have d:=a;refine gj call158 Z (lies16_calls w (h.ga a) hl x 2 zd hx) ?_;rintro j k⟨b,rfl,g,i,f⟩;have a:=a.gb f;refine kg Z (gv (gy Z Z ?_));exact⟨b,by simp[ka],al d.size g,i,a⟩
theorem lies32_calls (w:World) {p:Option Addr} {c:Nat} {l:List UInt8} (h:xy w p l) (hl:l.length<1000000000) (x n:Nat) (hn:n<100) (hx:x<2^32):
  gn prog 206 [.slice p l.length c,.int .u32 (x:Int),.int .i64 (n:Int)] w λv w'=>∃b,v= .slice (some ⟨b,0,none⟩) (l.length+n) (l.length+n)/\w.heap.size<=b/\j0 w' b 5 (gh (l++be n x))/\Ext No w w':=by
 refine gz func206 (have d:=Ext.refl No w;kw Z (qj Z ?_));rw[qc _ zk];refine wl (zx8 ge Z (l.length+n) (l.length+n) 1 Z Z Z zd zk zk (aB _) zk zb λf B m a o C=>?_);have g:=al d.size m;have d:=d.gb o;have a:j0 B f 5 (gh (List.replicate (l.length+n) 0)):=by(have e:Df (l.length+n) (cellsOf ti5.zero)=gh (List.replicate (l.length+n) 0):=yz2 _);rw[<-e];exact a
 refine kg Z (qj Z (wl (yj2 ge Z 1 Z a (Src.slice (h.ga d) OneC.h) zt (by rw[gm,bN];dsimp only;omega) λD q r E=>?_)))
 have a:j0 D f 5 (gh (l++(List.replicate n 0++[]))):=by
  have e:Vc.put (gh (List.replicate (l.length+n) 0)) 0 (gh l)=gh (l++(List.replicate n 0++[])):=by rw[put_eq _ _ _ (by simp[gm])];rw[ve];simp[qy,gm]
  rw[<-e];exact q
 have d:=d.gi r g;refine kg Z (gp (kw Z (j8 (jl (α:=Nat×Nat×List UInt8) [7,8] Z (λz=>[(1,.int .u32 (z.2.1:Int)),(9,.int .i64 ((l.length+z.1:Nat):Int))]) (λz u=>(z.1<=n/\z.2.1<2^32/\be n x=be z.1 z.2.1++z.2.2/\j0 u f 5 (gh (l++(List.replicate z.1 0++z.2.2))))/\Ext No w u) (λz u=>z.1) (n,x,[]) Z ⟨⟨aB _,hx,by simp,a⟩,d⟩ ?_))));rintro⟨j,y,t⟩ L ⟨⟨F,G,k,a⟩,d⟩;dsimp only at F G k a;refine gp (kw Z (jy Z (λH=>?_) (λH=>?_)));obtain⟨i,rfl⟩:∃i,j=i+1:=⟨j-1,by omega⟩
 refine xg (j8 (qj Z ?_));rw[qc _ zk];refine u3 (qj Z ?_);rw[show(((l.length+(i+1):Nat):Int)-1)=((l.length+i:Nat):Int) from by omega];rw[yi];refine ki Z 1 Z (l.length+i) Z zk (0+(l.length+i)*1) Z (wl (un ge a Z Z (by rw[gm];simp;omega) λJ a s K=>?_));have d:=d.gi s g;have a:j0 J f 5 (gh (l++(List.replicate i 0++(UInt8.ofNat y::t)))):=by rw[aV,bF,fill_byte] at a;exact a
 refine u3 (kw Z (yy Z ?_));rw[show Int.fdiv (Int.fdiv (y:Int) (2^min (4:Int).toNat IntKind.u32.bits)) (2^min (4:Int).toNat IntKind.u32.bits)=((y/16/16:Nat):Int) from by rw[show(2:Int)^min (4:Int).toNat IntKind.u32.bits=2^4 from Z,shr4,shr4]];exact gl (jr (jh (i,y/16/16,UInt8.ofNat y::t) Z ⟨⟨by dsimp only;omega,by dsimp only;omega,by dsimp only;rw[k,be,Nat.div_div_eq_div_mul];simp,a⟩,d⟩ zm));have A:j=0:=by omega
 subst A;have k:be n x=t:=by rw[k];rfl
 rw[List.replicate_zero,bI,<-k] at a;exact Bh (kw Z (gv (gy Z Z ⟨f,Z,g,a,d⟩)))
theorem Ad (w:World) {p:Option Addr} {c:Nat} {l:List UInt8} (h:xy w p l) (hl:l.length<1000000000) (x:Nat) (hx:x<2^32):
  gn prog 179 [.slice p l.length c,.int .u32 (x:Int)] w λv w'=>∃b,v= .slice (some ⟨b,0,none⟩) (l++be 4 x).length (l++be 4 x).length/\w.heap.size<=b/\j0 w' b 5 (gh (l++be 4 x))/\Ext No w w':=by
 refine gz func179 ?_;have a:=Ext.refl No w;refine kw Z (qj Z ?_);have d:=a;refine gj call206 Z (lies32_calls w (h.ga a) hl x 4 zd hx) ?_;rintro j k⟨b,rfl,g,i,f⟩;have a:=a.gb f;refine kg Z (gv (gy Z Z ?_));exact⟨b,by simp[ka],al d.size g,i,a⟩
theorem lies64_calls (w:World) {p:Option Addr} {c:Nat} {l:List UInt8} (h:xy w p l) (hl:l.length<1000000000) (x n:Nat) (hn:n<100) (hx:x<2^64):
  gn prog 233 [.slice p l.length c,.int .u64 (x:Int),.int .i64 (n:Int)] w λv w'=>∃b,v= .slice (some ⟨b,0,none⟩) (l.length+n) (l.length+n)/\w.heap.size<=b/\j0 w' b 5 (gh (l++be n x))/\Ext No w w':=by
 refine gz func233 (have d:=Ext.refl No w;kw Z (qj Z ?_));rw[qc _ zk];refine wl (zx8 ge Z (l.length+n) (l.length+n) 1 Z Z Z zd zk zk (aB _) zk zb λf B m a o C=>?_);have g:=al d.size m;have d:=d.gb o;have a:j0 B f 5 (gh (List.replicate (l.length+n) 0)):=by(have e:Df (l.length+n) (cellsOf ti5.zero)=gh (List.replicate (l.length+n) 0):=yz2 _);rw[<-e];exact a
 refine kg Z (qj Z (wl (yj2 ge Z 1 Z a (Src.slice (h.ga d) OneC.h) zt (by rw[gm,bN];dsimp only;omega) λD q r E=>?_)))
 have a:j0 D f 5 (gh (l++(List.replicate n 0++[]))):=by
  have e:Vc.put (gh (List.replicate (l.length+n) 0)) 0 (gh l)=gh (l++(List.replicate n 0++[])):=by rw[put_eq _ _ _ (by simp[gm])];rw[ve];simp[qy,gm]
  rw[<-e];exact q
 have d:=d.gi r g;refine kg Z (gp (kw Z (j8 (jl (α:=Nat×Nat×List UInt8) [7,8] Z (λz=>[(1,.int .u64 (z.2.1:Int)),(9,.int .i64 ((l.length+z.1:Nat):Int))]) (λz u=>(z.1<=n/\z.2.1<2^64/\be n x=be z.1 z.2.1++z.2.2/\j0 u f 5 (gh (l++(List.replicate z.1 0++z.2.2))))/\Ext No w u) (λz u=>z.1) (n,x,[]) Z ⟨⟨aB _,hx,by simp,a⟩,d⟩ ?_))));rintro⟨j,y,t⟩ L ⟨⟨F,G,k,a⟩,d⟩;dsimp only at F G k a;refine gp (kw Z (jy Z (λH=>?_) (λH=>?_)));obtain⟨i,rfl⟩:∃i,j=i+1:=⟨j-1,by omega⟩
 refine xg (j8 (qj Z ?_));rw[qc _ zk];refine u3 (qj Z ?_);rw[show(((l.length+(i+1):Nat):Int)-1)=((l.length+i:Nat):Int) from by omega];rw[yi];refine ki Z 1 Z (l.length+i) Z zk (0+(l.length+i)*1) Z (wl (un ge a Z Z (by rw[gm];simp;omega) λJ a s K=>?_));have d:=d.gi s g;have a:j0 J f 5 (gh (l++(List.replicate i 0++(UInt8.ofNat y::t)))):=by rw[aV,bF,fill_byte] at a;exact a
 refine u3 (kw Z (yy Z ?_));rw[show Int.fdiv (Int.fdiv (y:Int) (2^min (4:Int).toNat IntKind.u64.bits)) (2^min (4:Int).toNat IntKind.u64.bits)=((y/16/16:Nat):Int) from by rw[show(2:Int)^min (4:Int).toNat IntKind.u64.bits=2^4 from Z,shr4,shr4]];exact gl (jr (jh (i,y/16/16,UInt8.ofNat y::t) Z ⟨⟨by dsimp only;omega,by dsimp only;omega,by dsimp only;rw[k,be,Nat.div_div_eq_div_mul];simp,a⟩,d⟩ zm));have A:j=0:=by omega
 subst A;have k:be n x=t:=by rw[k];rfl
 rw[List.replicate_zero,bI,<-k] at a;exact Bh (kw Z (gv (gy Z Z ⟨f,Z,g,a,d⟩)))
theorem put64_calls (w:World) {p:Option Addr} {c:Nat} {l:List UInt8} (h:xy w p l) (hl:l.length<1000000000) (x:Nat) (hx:x<2^64):
  gn prog 222 [.slice p l.length c,.int .u64 (x:Int)] w λv w'=>∃b,v= .slice (some ⟨b,0,none⟩) (l++be 8 x).length (l++be 8 x).length/\w.heap.size<=b/\j0 w' b 5 (gh (l++be 8 x))/\Ext No w w':=by
 refine gz func222 ?_;have a:=Ext.refl No w;refine kw Z (qj Z ?_);have d:=a;refine gj call233 Z (lies64_calls w (h.ga a) hl x 8 zd hx) ?_;rintro j k⟨b,rfl,g,i,f⟩;have a:=a.gb f;refine kg Z (gv (gy Z Z ?_));exact⟨b,by simp[ka],al d.size g,i,a⟩
def TyU (w : World) (p : Option Addr) : Prop := ∀ a, p = some a -> ∃ L, j0 w a.block 5 L
theorem TyU.ext {S:Nat->Prop} {w w':World} {p:Option Addr} (h:TyU w p) (hE:Ext S w w') (hS:∀b L,j0 w b 5 L->¬S b):TyU w' p:=λa d=>by
 obtain⟨L,c⟩:=h a d
 exact⟨L,c.ext hE (hS _ L c)⟩
theorem TyU.nil (w : World) : TyU w none := λ_ h => by cases h
theorem TyU.of {w:World} {b:Nat} {L:List Value} (h:j0 w b 5 L) (o:Nat) (e:Option Nat):TyU w (some ⟨b,o,e⟩):=λa ha=>by cases ha;exact⟨L,h⟩
theorem TyU.sub {w:World} {p:Option Addr} (h:TyU w p) (l m sz:Nat):TyU w (ur p l m sz):=λa b=>by
 unfold ur at b
 split at b
 ·exact h a b
 cases p with
 |none=>cases b
 |some a0=>
  have c:=h a0 Z
  simp only[Option.map_some,bJ,Addr.add] at b
  subst b
  obtain⟨L,d⟩:=c
  refine⟨L,?_⟩
  split<;>exact d
theorem xy.qa {S:Nat->Prop} {w w':World} {p:Option Addr} {l:List UInt8} (h:xy w p l) (ht:TyU w p) (hE:Ext S w w') (hS:∀b L,j0 w b 5 L->¬S b):xy w' p l:=
 h.ext hE λb a c=>by obtain⟨L,d⟩:=ht _ c;exact hS b L d
def Rd (w : World) (rb : Nat) (l : List UInt8) (e : Int) : Prop :=
  ∃ p c, j0 w rb 264 [.slice p l.length c, .int .i64 e] /\ l.length <= c /\ xy w p l /\ TyU w p
theorem Rd.ext {S:Nat->Prop} {w w':World} {rb:Nat} {l:List UInt8} {e:Int} (h:Rd w rb l e) (hE:Ext S w w') (h1:¬S rb) (h2:∀b L,j0 w b 5 L->¬S b):Rd w' rb l e:=by
 obtain⟨p,c,d,f,g,a⟩:=h;exact⟨p,c,d.ext hE h1,f,xy.qa g a hE h2,a.ext hE h2⟩
theorem Rd.ga {w w' : World} {rb : Nat} {l : List UInt8} {e : Int} (h : Rd w rb l e) (hE : Ext No w w') : Rd w' rb l e := h.ext hE id λ_ _ _ => id
theorem Rd.lt {w : World} {rb : Nat} {l : List UInt8} {e : Int} (h : Rd w rb l e) : rb < w.heap.size := by obtain ⟨_, _, hb, _⟩ := h; exact hb.lt
theorem Rd.ne {w:World} {rb:Nat} {l:List UInt8} {e:Int} (h:Rd w rb l e) {b T:Nat} {L:List Value} (hb:j0 w b T L) (hT:264≠T):rb≠b:=by obtain⟨_,_,h,_⟩:=h;exact h.ne hb hT
def x5 (l : List UInt8) (e n : Int) : List UInt8 × List UInt8 × Int :=
  if e ≠ 0 then ([], l, e) else if n < 0 then ([], l, 2) else if (l.length : Int) < n then ([], l, 7) else (l.take n.toNat, l.drop n.toNat, 0)
theorem offR_len (l:List UInt8) (e n:Int):(x5 l e n).1.length<=n.toNat/\(x5 l e n).2.1.length<=l.length/\(x5 l e n).1.length<=l.length:=by
 unfold x5;repeat' split
 all_goals simp
 all_goals omega
theorem zv3 (w:World) {p:Option Addr} {c:Nat} {l:List UInt8} (h:xy w p l) (hl:l.length<1000000000):
  gn prog 101 [.slice p l.length c] w λv w'=>∃rb,v= .pointer (some ⟨rb,0,none⟩)/\w.heap.size<=rb/\Rd w' rb l 0/\Ext No w w':=by
 refine gz func101 ?_;have d:=Ext.refl No w;refine kw Z (qj Z (wl (zx8 ge Z l.length l.length 1 Z Z Z zd Z Z (aB _) zk zb λf s m a n t=>?_)));have o:=al d.size m;have d:=d.gb n;have a:j0 s f 5 (gh (List.replicate l.length 0)):=by(have e:Df l.length (cellsOf ti5.zero)=gh (List.replicate l.length 0):=yz2 _);rw[<-e];exact a
 refine kg Z (qj Z (wl (yj2 ge Z 1 Z a (Src.slice (h.ga d) OneC.h) (aB _) (by rw[gm,bN];dsimp only;omega) λu q r x=>?_)));have a:j0 u f 5 (gh l):=by have e:Vc.put (gh (List.replicate l.length 0)) 0 (gh l)=gh l:=Bv (by simp[gm]);rw[<-e];exact q
 have d:=d.gi r o;exact u3 (qj Z (u1 Z ⟨⟨Z,by decide⟩,trivial⟩ (l':=[.slice (some ⟨f,0,none⟩) l.length l.length,.int .i64 0]) Z (u1 Z ⟨⟨Z,by decide⟩,trivial⟩ (l':=[.slice (some ⟨f,0,none⟩) l.length l.length,.int .i64 0]) Z (gt Z λg y i b j=> have k:=al d.size i;have d:=d.gb j;have b:j0 y g 264 ([.slice (some ⟨f,0,none⟩) l.length l.length,.int .i64 0]):=b;have a:=a.ga j;kg Z (gv (gy Z Z ⟨g,Z,k,⟨_,_,b,aB _,⟨by simp[gm],.inr ⟨f,0,Z,a.ql⟩⟩,TyU.of a _ _⟩,d⟩))))))
theorem off_calls (w:World) {rb:Nat} {l:List UInt8} {e:Int} (h:Rd w rb l e) (hl:l.length<1000000000) (n:Int):
  gn prog 162 [.pointer (some ⟨rb,0,none⟩),.int .i64 n] w λv w'=>∃q c',v= .slice q (x5 l e n).1.length c'/\xy w' q (x5 l e n).1/\TyU w' q/\Rd w' rb (x5 l e n).2.1 (x5 l e n).2.2/\Ext (One rb) w w':=by
 have P:=h;obtain⟨p,c,a,g,E,r⟩:=h;have d:∀(F:World) (b:Nat) (L:List Value),j0 w b 5 L->¬One rb b:=λ_ b L Q e=>Q.ne a zd e;refine gz func162 (vo Z (ju (α:=Bool) [0,1] Z (λz=>[(15,.bool z)]) (λz u=>u=w/\z=decide (e≠0)) ?_ ?_));refine j1 (j6 ge Z (ut 8 Z (λN=>?_) (λN=>?_)));cases N;exact j4 ge 4 Z (gx Z (a.cell Z) (j4 ge 2 Z (gl (j2 (_) Z ⟨Z,Z⟩))));rintro z U ⟨H,rfl⟩;have H:=H.symm;subst H;refine jy Z (λi=>?_) (λi=>?_);have s:x5 l e n=([],l,e):=aL i;rw[s];exact kw Z (gv (gu (gy Z Z ⟨none,0,Z,Sl.nil _ _ _,TyU.nil _,P,Ext.refl _ _⟩)));have G:e=0:=aT.1 i;refine xg (gp (kw Z (jy Z (λi=>?_) (λi=>?_))));have s:x5 l e n=([],l,2):=by rw[x5,aI (by simpa using G),aL i]
 rw[s];exact qj Z (qk a Z Z Z λF f t j=> have k:=t;have a:=f;have C:Rd F rb l 2:=⟨p,c,a,g,xy.qa E r t (d F),r.ext t (d F)⟩;u3 (kw Z (gv (gu (gy Z Z ⟨none,0,Z,Sl.nil _ _ _,TyU.nil _,C,k⟩)))));have D:¬n<0:=i;refine xg (gp (qj Z (gx Z (a.cell Z) (kg Z (jy Z (λi=>?_) (λi=>?_))))));have s:x5 l e n=([],l,7):=by rw[x5,aI (by simpa using G),aI D,aL i]
 rw[s];exact qj Z (qk a Z Z Z λJ f x R=> have k:=x;have a:=f;have C:Rd J rb l 7:=⟨p,c,a,g,xy.qa E r x (d J),r.ext x (d J)⟩;u3 (kw Z (gv (gu (gy Z Z ⟨none,0,Z,Sl.nil _ _ _,TyU.nil _,C,k⟩)))));have s:x5 l e n=(l.take n.toNat,l.drop n.toNat,0):=by rw[x5,aI (by simpa using G),aI D,aI i]
 rw[s];have y:n=(n.toNat:Int):=by omega
 have A:n.toNat<=l.length:=by omega
 refine xg (qj Z (gx Z (a.cell Z) (j6 ge Z (wl (Ba ge Z 0 n.toNat n.toNat 1 Z (.inl ⟨congrArg some y,Z⟩) (.inl (congrArg some y)) (.inr ⟨Z,Z⟩) (aJ _) (aB _) zt ?_)))));rw[qe,bB];refine kg Z (qj Z (gx Z (a.cell Z) (j6 ge Z (wl (Ba ge Z n.toNat l.length c 1 Z (.inr ⟨Z,Z⟩) (.inr ⟨Z,Z⟩) (.inl (congrArg some y)) A g (aB _) (j6 ge Z (qk a Z Z Z λB f m S=>?_)))))));have k:=m;have o:=E.slice 0 n.toNat n.toNat (aJ _) (aB _) A;have j:=E.slice n.toNat l.length c A g (aB _);rw[qe,bB,dA,List.drop_zero,bF,vl] at o;rw[bF,bF,ve,vl,aN zq] at j;have O:(l.take n.toNat).length=n.toNat:=by rw[aH];omega
 have K:(l.drop n.toNat).length=l.length-n.toNat:=by simp
 have o:xy w p (l.take n.toNat):=by rw[xy,O];exact o
 have j:xy w (ur p n.toNat c 1) (l.drop n.toNat):=by rw[xy,K];exact j
 have a:j0 B rb 264 [.slice (ur p n.toNat c 1) (l.drop n.toNat).length (c-n.toNat),.int .i64 0]:=by rw[K,<-G];exact f
 have C:Rd B rb (l.drop n.toNat) 0:=⟨_,_,a,by rw[K];omega,xy.qa j (r.sub _ _ _) m (d B),(r.sub _ _ _).ext m (d B)⟩
 have T:=xy.qa o r m (d B);have M:=r.ext m (d B);exact u3 (kw Z (gv (gy Z Z ⟨p,n.toNat,by rw[O],T,M,C,k⟩)))
theorem next8_calls (w:World) {rb:Nat} {l:List UInt8} {e:Int} (h:Rd w rb l e) (hl:l.length<1000000000) (n:Nat) (hn:256^n<=2^8):
  gn prog 173 [.pointer (some ⟨rb,0,none⟩),.int .i64 (n:Int)] w λv w'=>v= .int .u8 ((num (x5 l e n).1:Nat):Int)/\Rd w' rb (x5 l e n).2.1 (x5 l e n).2.2/\Ext (One rb) w w':=by
 refine gz func173 ?_;have d:=Ext.refl (One rb) w;refine vo Z (qj Z (gj call162 Z (off_calls w h hl (n:Int)) ?_));rintro G H⟨q,c,rfl,f,t,g,m⟩;have d:=d.then m;obtain⟨o,x,p⟩:=offR_len l e n;obtain⟨s,y⟩:∃s,s=(x5 l e n).1:=⟨_,Z⟩
 rw[<-y] at f o p|-;refine kg Z (j8 (jl (α:=Nat) [9,10] Z (λz=>[(4,.int .u8 ((num (s.take z):Nat):Int)),(11,.int .i64 (z:Int))]) (λz u=>(z<=s.length/\xy u q s/\Rd u rb (x5 l e n).2.1 (x5 l e n).2.2)/\Ext (One rb) w u) (λz u=>s.length-z) (0) Z ⟨⟨aJ _,f,g⟩,d⟩ ?_));rintro i J ⟨⟨j,f,g⟩,d⟩;refine vo Z (jy Z (λA=>?_) (λA=>?_));have j:i<s.length:=by omega
 obtain⟨b,r,rfl,a⟩:=f.at j;have B:=num_take s j;have C:=xu (s.take (i+1));have D:256^(s.take (i+1)).length<=2^8:=al (Nat.pow_le_pow_right zd zl) hn;have E:=(s[i]).toNat_lt;have F:IntKind.u8.wrap (IntKind.u8.wrap (IntKind.u8.wrap (((num (s.take i):Nat):Int)*2^min (4:Int).toNat IntKind.u8.bits)*2^min (4:Int).toNat IntKind.u8.bits)+((s[i]).toNat:Int))=((num (s.take (i+1)):Nat):Int):=by rw[show(2:Int)^min (4:Int).toNat IntKind.u8.bits=16 from Z,IntWalk.u8_in (((num (s.take i):Nat):Int)*16) zk,IntWalk.u8_in (((num (s.take i):Nat):Int)*16*16) zk,IntWalk.u8_in _ zk];omega
 refine Bn (qr (ki Z 1 Z i Z zk (r+i*1) Z (gx Z a (kg Z (vo Z (j1 (kg Z (yy Z ?_))))))));rw[F];refine gl (Bi Z ?_);rw[qc _ zk];exact gl (jh (i+1) Z ⟨⟨j,f,g⟩,d⟩ zm);have e:s.take i=s:=aN zk;rw[e];exact Bh (kw Z (gv (gy Z Z ⟨Z,g,d⟩)))
theorem next16_calls (w:World) {rb:Nat} {l:List UInt8} {e:Int} (h:Rd w rb l e) (hl:l.length<1000000000) (n:Nat) (hn:256^n<=2^16):
  gn prog 163 [.pointer (some ⟨rb,0,none⟩),.int .i64 (n:Int)] w λv w'=>v= .int .u16 ((num (x5 l e n).1:Nat):Int)/\Rd w' rb (x5 l e n).2.1 (x5 l e n).2.2/\Ext (One rb) w w':=by
 refine gz func163 ?_;have d:=Ext.refl (One rb) w;refine vo Z (qj Z (gj call162 Z (off_calls w h hl (n:Int)) ?_));rintro G H⟨q,c,rfl,f,t,g,m⟩;have d:=d.then m;obtain⟨o,x,p⟩:=offR_len l e n;obtain⟨s,y⟩:∃s,s=(x5 l e n).1:=⟨_,Z⟩
 rw[<-y] at f o p|-;refine kg Z (j8 (jl (α:=Nat) [9,10] Z (λz=>[(4,.int .u16 ((num (s.take z):Nat):Int)),(11,.int .i64 (z:Int))]) (λz u=>(z<=s.length/\xy u q s/\Rd u rb (x5 l e n).2.1 (x5 l e n).2.2)/\Ext (One rb) w u) (λz u=>s.length-z) (0) Z ⟨⟨aJ _,f,g⟩,d⟩ ?_));rintro i J ⟨⟨j,f,g⟩,d⟩;refine vo Z (jy Z (λA=>?_) (λA=>?_));have j:i<s.length:=by omega
 obtain⟨b,r,rfl,a⟩:=f.at j;have B:=num_take s j;have C:=xu (s.take (i+1));have D:256^(s.take (i+1)).length<=2^16:=al (Nat.pow_le_pow_right zd zl) hn;have E:=(s[i]).toNat_lt;have F:IntKind.u16.wrap (IntKind.u16.wrap (IntKind.u16.wrap (((num (s.take i):Nat):Int)*2^min (4:Int).toNat IntKind.u16.bits)*2^min (4:Int).toNat IntKind.u16.bits)+IntKind.u16.wrap ((s[i]).toNat:Int))=((num (s.take (i+1)):Nat):Int):=by rw[show(2:Int)^min (4:Int).toNat IntKind.u16.bits=16 from Z,IntWalk.u16_in ((s[i]).toNat:Int) zk,IntWalk.u16_in (((num (s.take i):Nat):Int)*16) zk,IntWalk.u16_in (((num (s.take i):Nat):Int)*16*16) zk,IntWalk.u16_in _ zk];omega
 refine Bn (qr (ki Z 1 Z i Z zk (r+i*1) Z (gx Z a (kg Z (vo Z (j1 (kg Z (yy Z ?_))))))));rw[F];refine gl (Bi Z ?_);rw[qc _ zk];exact gl (jh (i+1) Z ⟨⟨j,f,g⟩,d⟩ zm);have e:s.take i=s:=aN zk;rw[e];exact Bh (kw Z (gv (gy Z Z ⟨Z,g,d⟩)))
theorem next32_calls (w:World) {rb:Nat} {l:List UInt8} {e:Int} (h:Rd w rb l e) (hl:l.length<1000000000) (n:Nat) (hn:256^n<=2^32):
  gn prog 202 [.pointer (some ⟨rb,0,none⟩),.int .i64 (n:Int)] w λv w'=>v= .int .u32 ((num (x5 l e n).1:Nat):Int)/\Rd w' rb (x5 l e n).2.1 (x5 l e n).2.2/\Ext (One rb) w w':=by
 refine gz func202 ?_;have d:=Ext.refl (One rb) w;refine vo Z (qj Z (gj call162 Z (off_calls w h hl (n:Int)) ?_));rintro G H⟨q,c,rfl,f,t,g,m⟩;have d:=d.then m;obtain⟨o,x,p⟩:=offR_len l e n;obtain⟨s,y⟩:∃s,s=(x5 l e n).1:=⟨_,Z⟩
 rw[<-y] at f o p|-;refine kg Z (j8 (jl (α:=Nat) [9,10] Z (λz=>[(4,.int .u32 ((num (s.take z):Nat):Int)),(11,.int .i64 (z:Int))]) (λz u=>(z<=s.length/\xy u q s/\Rd u rb (x5 l e n).2.1 (x5 l e n).2.2)/\Ext (One rb) w u) (λz u=>s.length-z) (0) Z ⟨⟨aJ _,f,g⟩,d⟩ ?_));rintro i J ⟨⟨j,f,g⟩,d⟩;refine vo Z (jy Z (λA=>?_) (λA=>?_));have j:i<s.length:=by omega
 obtain⟨b,r,rfl,a⟩:=f.at j;have B:=num_take s j;have C:=xu (s.take (i+1));have D:256^(s.take (i+1)).length<=2^32:=al (Nat.pow_le_pow_right zd zl) hn;have E:=(s[i]).toNat_lt;have F:IntKind.u32.wrap (IntKind.u32.wrap (IntKind.u32.wrap (((num (s.take i):Nat):Int)*2^min (4:Int).toNat IntKind.u32.bits)*2^min (4:Int).toNat IntKind.u32.bits)+IntKind.u32.wrap ((s[i]).toNat:Int))=((num (s.take (i+1)):Nat):Int):=by rw[show(2:Int)^min (4:Int).toNat IntKind.u32.bits=16 from Z,IntWalk.u32_in ((s[i]).toNat:Int) zk,IntWalk.u32_in (((num (s.take i):Nat):Int)*16) zk,IntWalk.u32_in (((num (s.take i):Nat):Int)*16*16) zk,IntWalk.u32_in _ zk];omega
 refine Bn (qr (ki Z 1 Z i Z zk (r+i*1) Z (gx Z a (kg Z (vo Z (j1 (kg Z (yy Z ?_))))))));rw[F];refine gl (Bi Z ?_);rw[qc _ zk];exact gl (jh (i+1) Z ⟨⟨j,f,g⟩,d⟩ zm);have e:s.take i=s:=aN zk;rw[e];exact Bh (kw Z (gv (gy Z Z ⟨Z,g,d⟩)))
theorem u8_calls (w:World) {rb:Nat} {l:List UInt8} {e:Int} (h:Rd w rb l e) (hl:l.length<1000000000):
  gn prog 109 [.pointer (some ⟨rb,0,none⟩)] w λv w'=>v= .int .u8 ((num (x5 l e 1).1:Nat):Int)/\Rd w' rb (x5 l e 1).2.1 (x5 l e 1).2.2/\Ext (One rb) w w':=by
 exact gz func109 (have a:=Ext.refl (One rb) w;kw Z (qj Z (gj call173 Z (next8_calls w h hl 1 zd) λf g⟨rfl,d,c⟩=> have a:=a.then c;kg Z (gv (gy Z Z ⟨Z,d,a⟩)))))
theorem u16_calls (w:World) {rb:Nat} {l:List UInt8} {e:Int} (h:Rd w rb l e) (hl:l.length<1000000000):
  gn prog 104 [.pointer (some ⟨rb,0,none⟩)] w λv w'=>v= .int .u16 ((num (x5 l e 2).1:Nat):Int)/\Rd w' rb (x5 l e 2).2.1 (x5 l e 2).2.2/\Ext (One rb) w w':=by
 exact gz func104 (have a:=Ext.refl (One rb) w;kw Z (qj Z (gj call163 Z (next16_calls w h hl 2 zd) λf g⟨rfl,d,c⟩=> have a:=a.then c;kg Z (gv (gy Z Z ⟨Z,d,a⟩)))))
theorem yj0 (w:World) {rb:Nat} {l:List UInt8} {e:Int} (h:Rd w rb l e) (hl:l.length<1000000000):
  gn prog 171 [.pointer (some ⟨rb,0,none⟩)] w λv w'=>v= .int .u32 ((num (x5 l e 4).1:Nat):Int)/\Rd w' rb (x5 l e 4).2.1 (x5 l e 4).2.2/\Ext (One rb) w w':=by
 exact gz func171 (have a:=Ext.refl (One rb) w;kw Z (qj Z (gj call202 Z (next32_calls w h hl 4 zd) λf g⟨rfl,d,c⟩=> have a:=a.then c;kg Z (gv (gy Z Z ⟨Z,d,a⟩)))))
theorem rawN_calls (w:World) {rb:Nat} {l:List UInt8} {e:Int} (h:Rd w rb l e) (hl:l.length<1000000000) (n:Int):
  gn prog 103 [.pointer (some ⟨rb,0,none⟩),.int .i64 n] w λv w'=>∃q c,v= .slice q (x5 l e n).1.length c/\(Own w' q (x5 l e n).1.length c 5 1 (gh (x5 l e n).1)/\∀y,jb q y->w.heap.size<=y)/\Rd w' rb (x5 l e n).2.1 (x5 l e n).2.2/\Ext (One rb) w w':=by
 refine gz func103 ?_;have a:=Ext.refl (One rb) w;refine kw Z (qj Z (gj call162 Z (off_calls w h hl n) ?_));rintro P E⟨q,c,rfl,z,F,A,k⟩;have a:=a.then k;obtain⟨m,G,o⟩:=offR_len l e n;obtain⟨s,H⟩:∃s,s=(x5 l e n).1:=⟨_,Z⟩
 rw[<-H] at z m o|-;refine kg Z (gp (kw Z (jy Z (λJ=>?_) (λJ=>?_))));have K:s=[]:=aU zk;subst K;exact kw Z (gv (gu (gy Z Z ⟨none,0,Z,⟨Own.nil _ _ _,λ_ h=>by cases h⟩,A,a⟩)));refine qf (jq (qj Z (have p:=z;have b:=a;wl (zx8 ge Z 0 s.length 1 Z Z Z zd Z Z (aJ _) zk zb λf Q g i d L=> have B:=al a.size g;j6 ge Z (wl (vt ge Z 1 1 Z Z Z zd (Own.blk i 1 (by rw[va];rfl) (aJ _) zn) (Src.slice (p.ga d) OneC.h) zn zt λM N O r t u=>?_))))));have C:Ext No E O:=d.trans t λy D x=>by have e:f=y:=congrArg Addr.block (cl x);omega
 have a:=b.then (C.no (S:=One rb));exact kg Z (gv (gy Z Z ⟨M,N,by simp,⟨by simpa using r,λy D=>(u y D).elim (λx=>by have e:f=y:=congrArg Addr.block (cl x);have:=b.size;omega) λh=>by have:=b.size;have:=d.size;omega⟩,A.ga C,a⟩))
theorem raw_calls (w:World) {rb:Nat} {l:List UInt8} {e:Int} (h:Rd w rb l e) (hl:l.length<1000000000) (n:Int):
  gn prog 103 [.pointer (some ⟨rb,0,none⟩),.int .i64 n] w λv w'=>∃q c,v= .slice q (x5 l e n).1.length c/\xy w' q (x5 l e n).1/\Rd w' rb (x5 l e n).2.1 (x5 l e n).2.2/\Ext (One rb) w w':=
 (rawN_calls w h hl n).mono λv w' ⟨q,c,a,b,d,f⟩=>⟨q,c,a,b.1.sl,d,f⟩
theorem err_calls (w:World) {rb:Nat} {l:List UInt8} {e:Int} (h:Rd w rb l e):
  gn prog 111 [.pointer (some ⟨rb,0,none⟩)] w λv w'=>v= .int .i64 e/\w'=w:=by
 obtain⟨p,c,a,b,d,f⟩:=h;exact gz func111 (vo Z (kw Z (Cd Z (qj Z (gx Z (a.cell Z) (kg Z (gv (gu (gy Z Z ⟨Z,Z⟩)))))))))
theorem zj7 (n:Nat) (hn:n<100):∀(w:World) (x:Nat),x<2^64->
  gn prog 96 [.int .u64 (x:Int),.int .i64 (n:Int)] w λv w'=>∃q c,v= .slice q n c/\Own w' q n c 5 1 (gh (be n x))/\(∀b,jb q b->w.heap.size<=b)/\Ext No w w':=by
 induction n using Nat.strongRecOn;rename_i n t;intro w x J;refine gz func96 (have d:=Ext.refl No w;vo Z (kw Z (jy Z (λu=>?_) (λu=>?_))));have z:n=0:=by omega
 subst z;exact kw Z (gv (gu (gy Z Z ⟨none,0,Z,Own.nil _ _ _,λb j=>by(cases j),d⟩)));obtain⟨m,rfl⟩:∃m,n=m+1:=⟨n-1,by omega⟩
 refine xg (qj Z ?_);rw[qc _ zk];have A:IntKind.u64.wrap ((x:Int).tdiv 256)=((x/256:Nat):Int):=by rw[IntWalk.u64_quo _ _ zk];rfl
 rw[A];rw[show(((m+1:Nat):Int)-1)=(m:Int) from by omega];refine gj call96 Z (t m zk zk w (x/256) zk) ?_;rintro K L⟨q,c,rfl,B,f,g⟩;have d:=d.gb g;refine j6 ge Z (wl (qw ge Z 1 Z Z Z zd zd zp Z λi C r a e D=>?_));have d:=d.gb e
 have a:j0 C i 5 (gh [UInt8.ofNat x]):=by
  have E:IntKind.u8.wrap ((x:Int).tmod 256)=((UInt8.ofNat x).toNat:Int):=by rw[Int.tmod_eq_emod_of_nonneg zk,IntKind.wrap_u8,UInt8.toNat_ofNat'];omega
  have s:=a;rw[E] at s;exact s
 refine wl (vt ge Z 1 1 Z Z Z zd (B.ext e λ_ _=>id) (Src.slice (m:=1) ⟨Z,.inr ⟨i,0,Z,a.ql⟩⟩ OneC.h) zn zt λF G M l o p=>?_);have d:=d.trans o λy N H=>by have:=f y H;omega
 refine kg Z (gv (gy Z Z ?_));exact⟨F,G,Z,by rw[be,qy];exact l,λb j=>(p b j).elim (λh=>f b h) λh=>by have:=g.size;have:=e.size;omega,d⟩
theorem number_calls (w:World) {p:Option Addr} {c:Nat} {l:List UInt8} (h:xy w p l) (hl:l.length<=8):
  gn prog 113 [.slice p l.length c] w λv w'=>v= .int .u64 (num l:Int)/\w'=w:=by
 refine gz func113 ?_;have d:=Ext.refl No w;refine kw Z (vo Z (kw Z (j8 (jl (α:=Nat×Nat×Nat) [0] Z (λz=>[(3,.int .u64 (z.2.1:Int)),(4,.int .u64 (z.2.2:Int)),(5,.int .i64 (z.1:Int))]) (λz u=>((z.1<=l.length/\z.2.1=num (l.drop z.1)/\z.2.2=256^(l.length-z.1)%2^64)/\u=w)/\Ext No w u) (λz u=>z.1) ((l.length,0,1)) Z ⟨⟨⟨aB _,by simp[num],by simp⟩,Z⟩,d⟩ ?_))));rintro⟨i,x,q⟩ F ⟨⟨⟨t,o,r⟩,rfl⟩,d⟩;dsimp only at t o r;subst o r;refine gp (kw Z (jy Z (λy=>?_) (λy=>?_)));obtain⟨k,rfl⟩:∃k,i=k+1:=⟨i-1,by omega⟩
 have s:k<l.length:=by omega
 obtain⟨b,e,rfl,a⟩:=h.at s;have A:=num_drop l s;have f:=xu (l.drop k);rw[aX] at f;have g:l.length-k=(l.length-(k+1))+1:=by omega
 have B:256^(l.length-k)<=256^8:=Nat.pow_le_pow_right zd zk;have j:256^(l.length-(k+1))<=256^7:=Nat.pow_le_pow_right zd zk;have C:=(l[k]).toNat_lt;have m:256^(l.length-(k+1))%2^64=256^(l.length-(k+1)):=Nat.mod_eq_of_lt (bT j zd);rw[m];have D:IntKind.u64.wrap ((num (l.drop (k+1)):Int)+IntKind.u64.wrap (((256^(l.length-(k+1)):Nat):Int)*IntKind.u64.wrap ((l[k]).toNat:Int)))=((num (l.drop k):Nat):Int):=by rw[IntWalk.u64_in ((l[k]).toNat:Int) zk,<-Int.natCast_mul,Nat.mul_comm,IntWalk.u64_in (((l[k]).toNat*256^(l.length-(k+1)):Nat):Int) zk,IntWalk.u64_in _ zk];omega
 have n:IntKind.u64.wrap (((256^(l.length-(k+1)):Nat):Int)*256)=((256^(l.length-k)%2^64:Nat):Int):=by rw[g,Nat.pow_succ,IntKind.wrap_u64];omega
 refine Bn (qj Z ?_);rw[qc _ zk];refine ki Z 1 Z k zk zk (e+k*1) Z (gx Z a (j6 ge Z ?_));rw[D];refine u3 (yy Z ?_);rw[n];refine gl (Bi Z ?_);rw[qc _ zk];rw[show(((k+1:Nat):Int)-1)=(k:Int) from by omega];exact gl (jh (k,num (l.drop k),256^(l.length-k)%2^64) Z ⟨⟨⟨by dsimp only;omega,Z,Z⟩,Z⟩,d⟩ zm);have E:i=0:=by omega
 subst E;rw[List.drop_zero];exact Bh (kw Z (gv (gy Z Z ⟨Z,Z⟩)))
theorem xq0 (w:World) {p q:Option Addr} {c d:Nat} {l m:List UInt8} (h:xy w p l) (h':xy w q m) (hl:l.length<1000000000) (hm:m.length<1000000000):
  gn prog 97 [.slice p l.length c,.slice q m.length d] w λv w'=>∃r k,v= .slice r (l++m).length k/\Own w' r (l++m).length k 5 1 (gh (l++m))/\(∀b,jb r b->w.heap.size<=b)/\Ext No w w':=by
 refine gz func97 ?_;have a:=Ext.refl No w;refine kw Z (qr (wl (qw ge Z 1 Z Z Z zd zd trivial (l':=[]) Z λF P J s f K=>?_)));have a:=a.gb f;refine j6 ge Z (wl (vt ge Z 1 1 Z Z Z zd (Own.blk (n:=0) (c:=0) s 1 Z (aB _) zd) (Src.slice (h.ga a) OneC.h) zn zt λG L M t u z=>?_));have a:=a.trans u λy N g=>by have e:F=y:=congrArg Addr.block (cl g);omega
 have i:∀x,jb G x->w.heap.size<=x:=λx A=>(z x A).elim (λg=>by have e:F=x:=congrArg Addr.block (cl g);omega) λh=>by have:=f.size;omega
 have B:Own M G (0+l.length) L 5 1 (gh l):=t;refine kg Z (qj Z (have j:=a;wl (vt ge Z 1 1 Z Z Z zd B (Src.slice (h'.ga a) OneC.h) zn zt λH O Q o C D=>?_)));have a:=j.trans C λy N g=>by have:=i y g;omega
 have E:∀x,jb H x->w.heap.size<=x:=λx A=>(D x A).elim (λh=>i x h) λh=>al j.size h;exact kg Z (gv (gy Z Z ⟨H,O,by dsimp only;rw[ao,aV],by rw[ao,qy];rw[aV] at o;exact o,E,a⟩))
end Go.Proofs.YtpdiphfjmepijaaGreatDoor
namespace Go.Vc
section
variable {P : Program} {I : uh} {f : Fs} {ops : Array Oper} {o : Oper} {env : Env} {w : World}
def shE (n : Nat) (ops : Array Oper) (env : Env) (o : Oper) : Option (BinOp × IntKind × Int × Int × Nat) :=
  match pre n ops env o with
  | false => none
  | true => match o.dst with
    | some d => match o.op with
      | .binOp op _ x y _ => match isShift op with
        | true => match xz env x with
          | some (.int k p) => match xz env y with
            | some (.int _ q) => some (op, k, p, q, d)
            | _ => none
          | _ => none
        | false => none
      | _ => none
    | none => none
def shV (op : BinOp) (k : IntKind) (p q : Int) : Value :=
  match op with
  | .shl => .int k (k.wrap (p * 2 ^ min q.toNat k.bits))
  | _ => .int k (p.fdiv (2 ^ min q.toNat k.bits))
theorem shE_pev {n:Nat} {op:BinOp} {k:IntKind} {p q:Int} {d:Nat} (h:shE n ops env o=some (op,k,p,q,d)) (hq:0<=q):pre n ops env o=true/\o.dst=some d/\pev I o.op env=some (shV op k p q):=by
 unfold shE at h;split at h;cases h;rename_i c;split at h;rename_i m e;split at h;rename_i a t x y u f;split at h;rename_i b;split at h;rename_i r s g;split at h;rename_i v i j;simp only[bJ,cR] at h;obtain⟨rfl,rfl,rfl,rfl,rfl⟩:=h;refine⟨c,e,?_⟩;have l:decide (i<0)=false:=decide_eq_false zk;rw[f];simp only[pev,g,j,bin,b,shiftBin,l];cases a<;>first|rfl|cases b
 cases h;cases h;cases h;cases h;cases h
theorem wd_sh (hI:I.Ok P) {K:Act->World->Prop} {r:Dr} {i:Nat} {pl:List (Nat×Bool)} {dn:List Nat} (ho:ops[i]? =some o) {op:BinOp} {k:IntKind} {p q:Int} {d:Nat} (h:shE f.n ops env o=some (op,k,p,q,d)) (hq:0<=q)
  (kk:WD P f ops K r pl (i::dn) ((d,shV op k p q)::env) w):WD P f ops K r ((i,true)::pl) dn env w:=by
 obtain⟨a,b,c⟩:=shE_pev (I:=I) h hq;exact wd_q ho a b (λe _=>Aw hI c e) kk
end
abbrev Ak := BitVec 32
abbrev xj (x : Ak) : Value := .int .u32 (x.toNat : Int)
def ku (l : List Ak) : List Value := l.map xj
theorem up (l : List Ak) : (ku l).length = l.length := by simp [ku]
theorem wordsV_append (a b : List Ak) : ku (a ++ b) = ku a ++ ku b := by simp [ku]
theorem Bp (l : List Ak) {i : Nat} (h : i < l.length) : (ku l)[i]? = some (xj l[i]) := by simp [ku, h]
instance (l : List Ak) : OneC (ku l) := ⟨λu hu => by obtain ⟨x, _, rfl⟩ := aZ.1 hu; rfl⟩
theorem w_ofInt (x : Ak) : BitVec.ofInt 32 (x.toNat : Int) = x := by
  apply BitVec.eq_of_toNat_eq
  have := x.isLt
  rw [BitVec.toNat_ofInt]
  omega
theorem w_in (x : Ak) : IntKind.u32.wrap (x.toNat : Int) = (x.toNat : Int) := by
  have := x.isLt
  rw [IntKind.wrap_u32]; omega
theorem w_wrap (n : Nat) : IntKind.u32.wrap (n : Int) = ((BitVec.ofNat 32 n).toNat : Int) := by
  rw [IntKind.wrap_u32, BitVec.toNat_ofNat]; omega
theorem C1 (x y:Ak):IntKind.u32.wrap ((x.toNat:Int)+(y.toNat:Int))=((x+y).toNat:Int):=by
 rw[IntKind.wrap_u32,BitVec.toNat_add];omega
theorem w_not (x:Ak):IntKind.u32.wrap (4294967295-(x.toNat:Int))=((~~~x).toNat:Int):=by
 have:=x.isLt;rw[IntKind.wrap_u32,BitVec.toNat_not];omega
theorem yj4 (x y:Ak):bitI .xor .u32 (x.toNat:Int) (y.toNat:Int)=((x^^^y).toNat:Int):=by
 show IntKind.u32.wrap ((BitVec.ofInt 32 (x.toNat:Int)^^^BitVec.ofInt 32 (y.toNat:Int)).toNat:Int)=_;rw[w_ofInt,w_ofInt,w_in]
theorem w_and (x y:Ak):bitI .and .u32 (x.toNat:Int) (y.toNat:Int)=((x&&&y).toNat:Int):=by
 show IntKind.u32.wrap ((BitVec.ofInt 32 (x.toNat:Int)&&&BitVec.ofInt 32 (y.toNat:Int)).toNat:Int)=_;rw[w_ofInt,w_ofInt,w_in]
theorem w_or (x y:Ak):bitI .or .u32 (x.toNat:Int) (y.toNat:Int)=((x|||y).toNat:Int):=by
 show IntKind.u32.wrap ((BitVec.ofInt 32 (x.toNat:Int)|||BitVec.ofInt 32 (y.toNat:Int)).toNat:Int)=_;rw[w_ofInt,w_ofInt,w_in]
theorem w_shr (x:Ak) (q:Int):Int.fdiv (x.toNat:Int) (2^min q.toNat IntKind.u32.bits)=((x>>>q.toNat).toNat:Int):=by
 have a:=x.isLt;rw[show(2:Int)^min q.toNat IntKind.u32.bits=((2^min q.toNat 32:Nat):Int) from by rw[Int.natCast_pow];rfl,Int.fdiv_eq_ediv_of_nonneg _ (cF _),<-Int.natCast_ediv,BitVec.toNat_ushiftRight,Nat.shiftRight_eq_div_pow];rcases Nat.le_total q.toNat 32 with h|h;rw[bP h];rw[Nat.min_eq_right h,Nat.div_eq_of_lt a,Nat.div_eq_of_lt (aK a (Nat.pow_le_pow_right zd h))]
theorem w_shl (x:Ak) (q:Int):IntKind.u32.wrap ((x.toNat:Int)*2^min q.toNat IntKind.u32.bits)=((x<<<q.toNat).toNat:Int):=by
 rw[show(2:Int)^min q.toNat IntKind.u32.bits=((2^min q.toNat 32:Nat):Int) from by rw[Int.natCast_pow];rfl,<-Int.natCast_mul,w_wrap];congr 1;rw[BitVec.toNat_ofNat,BitVec.toNat_shiftLeft,Nat.shiftLeft_eq];rcases Nat.le_total q.toNat 32 with h|h;rw[bP h];rw[Nat.min_eq_right h,Nat.mul_mod_left];obtain⟨k,a⟩:=Nat.exists_eq_add_of_le h;rw[a,Nat.pow_add,<-Nat.mul_assoc,Nat.mul_right_comm,Nat.mul_mod_left]
def rot (x : Ak) (n : Nat) : Ak := x >>> n ||| x <<< (32 - n)
def Do (x : Ak) (ns : List Nat) : Ak := ns.foldl (λo n => o ^^^ rot x n) 0
theorem mixW_snoc (x : Ak) (l : List Nat) (n : Nat) : Do x (l ++ [n]) = Do x l ^^^ rot x n := by simp [Do]
theorem rot_eq (x:Ak) (n:Nat) (h:0<n/\n<32):(rot x n).toNat=x.toNat/2^n+(x.toNat%2^n)*2^(32-n):=by
 have c:=x.isLt;obtain⟨k,d⟩:∃k,32=k+n:=⟨32-n,by omega⟩
 have a:32-n=k:=by omega
 have e:2^32=2^k*2^n:=by rw[<-Nat.pow_add,<-d]
 rw[rot,a,BitVec.toNat_or,BitVec.toNat_ushiftRight,BitVec.toNat_shiftLeft,Nat.shiftRight_eq_div_pow,Nat.shiftLeft_eq,e,Nat.mul_comm x.toNat,Nat.mul_mod_mul_left];have b:x.toNat/2^n<2^k:=Nat.div_lt_of_lt_mul (by rw[Nat.mul_comm,<-e];exact c);have f:=Nat.two_pow_add_eq_or_of_lt b (x.toNat%2^n);rw[Nat.or_comm,<-f,Nat.add_comm,Nat.mul_comm]
theorem zq5 (x:Ak) (n:Nat) (h:0<n/\n<32):IntKind.u32.wrap (IntKind.u32.wrap ((x.toNat:Int).tdiv ((2^n:Nat):Int))+IntKind.u32.wrap ((x.toNat:Int).tmod ((2^n:Nat):Int)*((2^(32-n):Nat):Int)))=((rot x n).toNat:Int):=by
 have e:=rot_eq x n h;have a:(x.toNat:Int).tdiv ((2^n:Nat):Int)=((x.toNat/2^n:Nat):Int):=rfl;have b:(x.toNat:Int).tmod ((2^n:Nat):Int)=((x.toNat%2^n:Nat):Int):=rfl;rw[a,b,<-Int.natCast_mul];rw[IntKind.wrap_u32,IntKind.wrap_u32,IntKind.wrap_u32];omega
theorem div_eq (x:Ak) (n:Nat):IntKind.u32.wrap ((x.toNat:Int).tdiv ((2^n:Nat):Int))=((x>>>n).toNat:Int):=by
 have a:(x.toNat:Int).tdiv ((2^n:Nat):Int)=((x.toNat/2^n:Nat):Int):=rfl;have c:=x.isLt;have b:x.toNat/2^n<=x.toNat:=Nat.div_le_self _ _;rw[a,BitVec.toNat_ushiftRight,Nat.shiftRight_eq_div_pow,IntKind.wrap_u32];generalize x.toNat/2^n=q at b|-;omega
def natsV (l : List Nat) : List Value := l.map λn : Nat => .int .i64 (n : Int)
theorem Sl.natAt {w:World} {p:Option Addr} {l:List Nat} (h:Sl w p l.length 1 (natsV l)) {i:Nat} (hi:i<l.length):∃b off,p=some ⟨b,off,none⟩/\w.cell? ⟨b,off+i*1,none⟩=some (.int .i64 (l[i]:Int)):=by
 obtain⟨_,d|⟨b,off,a,c⟩⟩:=h;omega;exact⟨b,off,a,by rw[bF];exact c i _ (by simp[natsV,hi])⟩
theorem mixW_take (x:Ak) (l:List Nat) {i:Nat} (h:i<l.length):Do x (l.take (i+1))=Do x (l.take i)^^^rot x l[i]:=by
 rw[aO h,mixW_snoc]
def nextW (b : List UInt8) (l : List Ak) : Ak :=
  if l.length < 16 then BitVec.ofNat 32 (num ((b.drop (4 * l.length)).take 4))
  else l.getD (l.length - 16) 0 + l.getD (l.length - 7) 0 + (Do (l.getD (l.length - 2) 0) [17, 19] ^^^ l.getD (l.length - 2) 0 >>> 10) + (Do (l.getD (l.length - 15) 0) [7, 18] ^^^ l.getD (l.length - 15) 0 >>> 3)
def sched (b : List UInt8) : Nat -> List Ak
  | 0 => []
  | t + 1 => sched b t ++ [nextW b (sched b t)]
theorem ug (b : List UInt8) (t : Nat) : (sched b t).length = t := by
  induction t with
  | zero => rfl
  | succ t ih => simp [sched, ih]
theorem words_at (l r:List Ak) {i:Nat} (h:i<l.length):(ku (l++r))[0+i*1]? =some (xj (l.getD i 0)):=by
 rw[aV,bF,Bp _ (by rw[ao];omega),List.getElem_append_left h,bH,aG h];rfl
theorem Cm (l:List Ak) {i:Nat} (h:i<l.length):(ku l)[i]? =some (xj (l.getD i 0)):=by
 rw[Bp _ h,bH,aG h];rfl
theorem words_set (l:List Ak) (k i:Nat) (x:Ak) (hi:i=l.length):(ku (l++List.replicate (k+1) 0)).set (0+i*1) (xj x)=ku (l++[x]++List.replicate k 0):=by
 subst hi;rw[aV,bF,ku,<-List.map_set,dM _ _ (aB _),Nat.sub_self,List.replicate_succ,aM];rfl
theorem nextW_raw {b : List UInt8} {l : List Ak} (h : l.length < 16) : nextW b l = BitVec.ofNat 32 (num ((b.drop (4 * l.length)).take 4)) := aL h
theorem nextW_mix {b:List UInt8} {l:List Ak} (h:¬l.length<16):nextW b l=l.getD (l.length-16) 0+l.getD (l.length-7) 0+(Do (l.getD (l.length-2) 0) [17,19]^^^l.getD (l.length-2) 0>>>10)+(Do (l.getD (l.length-15) 0) [7,18]^^^l.getD (l.length-15) 0>>>3):=aI h
def turnW (l : List Ak) (k w : Ak) : List Ak :=
  match l with
  | [a, b, c, d, e, f, g, h] =>
    let x := h + Do e [6, 11, 25] + (g ^^^ (e &&& (f ^^^ g))) + k + w
    let y := Do a [2, 13, 22] + ((a &&& b) ||| (c &&& (a ||| b)))
    [x + y, a, b, c, d + x, e, f, g]
  | l => l
def B5 (h ks ws : List Ak) : Nat -> List Ak
  | 0 => h
  | t + 1 => turnW (B5 h ks ws t) (ks.getD t 0) (ws.getD t 0)
theorem turnW_len (l : List Ak) (k w : Ak) : (turnW l k w).length = l.length := by
  unfold turnW
  split <;> rfl
theorem zj9 (h ks ws:List Ak) (t:Nat):(B5 h ks ws t).length=h.length:=by
 induction t with
 |zero=>rfl
 |succ t ih=>rw[B5,turnW_len,ih]
theorem eight {α:Type} {l:List α} (h:l.length=8):∃a b c d e f g i,l=[a,b,c,d,e,f,g,i]:=by
 match l,h with
 | [a,b,c,d,e,f,g,i],_=>exact⟨a,b,c,d,e,f,g,i,Z⟩
theorem zip_set {f:Ak->Ak->Ak} {h l:List Ak} {i:Nat} (h1:i<h.length) (h2:i<l.length):(ku (List.zipWith f (h.take i) (l.take i)++h.drop i)).set (0+i*1) (xj (f h[i] l[i]))=ku (List.zipWith f (h.take (i+1)) (l.take (i+1))++h.drop (i+1)):=by
 have a:(List.zipWith f (h.take i) (l.take i)).length=i:=by simp;omega
 rw[aV,bF,ku,<-List.map_set,dM _ _ zk,a,Nat.sub_self,cB h1,List.set_cons_zero,aO h1,aO h2,List.zipWith_append ze];simp[ku]
theorem zip_at {f:Ak->Ak->Ak} {h l:List Ak} {i:Nat} (h1:i<h.length) (h2:i<l.length):(ku (List.zipWith f (h.take i) (l.take i)++h.drop i))[0+i*1]? =some (xj h[i]):=by
 have a:(List.zipWith f (h.take i) (l.take i)).length=i:=by simp;omega
 rw[aV,bF,ku,bS,cD zk,a,Nat.sub_self,cB h1];rfl
def intoW (ks h : List Ak) (b : List UInt8) : List Ak := List.zipWith (· + ·) h (B5 h ks (sched b 64) 64)
theorem intoW_len (ks h : List Ak) (b : List UInt8) : (intoW ks h b).length = h.length := by
  rw [intoW, List.length_zipWith, zj9, Nat.min_self]
def Bg (ks h : List Ak) (p : List UInt8) : Nat -> List Ak
  | 0 => h
  | n + 1 => intoW ks (Bg ks h p n) ((p.drop (64 * n)).take 64)
theorem zq6 (ks h:List Ak) (p:List UInt8) (n:Nat):(Bg ks h p n).length=h.length:=by
 induction n with
 |zero=>rfl
 |succ n ih=>rw[Bg,intoW_len,ih]
def zx7 (l : List UInt8) : List UInt8 := l ++ [128] ++ List.replicate ((l.length + 72) / 64 * 64 - 8 - (l.length + 1)) 0 ++ be 8 (8 * l.length)
def ua : List Ak := [1116352408, 1899447441, 3049323471, 3921009573, 961987163, 1508970993, 2453635748, 2870763221,
  3624381080, 310598401, 607225278, 1426881987, 1925078388, 2162078206, 2614888103, 3248222580,
  3835390401, 4022224774, 264347078, 604807628, 770255983, 1249150122, 1555081692, 1996064986,
  2554220882, 2821834349, 2952996808, 3210313671, 3336571891, 3584528711, 113926993, 338241895,
  666307205, 773529912, 1294757372, 1396182291, 1695183700, 1986661051, 2177026350, 2456956037,
  2730485921, 2820302411, 3259730800, 3345764771, 3516065817, 3600352804, 4094571909, 275423344,
  430227734, 506948616, 659060556, 883997877, 958139571, 1322822218, 1537002063, 1747873779,
  1955562222, 2024104815, 2227730452, 2361852424, 2428436474, 2756734187, 3204031479, 3329325298]
def Aj : List Ak := [1779033703, 3144134277, 1013904242, 2773480762, 1359893119, 2600822924, 528734635, 1541459225]
def sumW (l : List UInt8) : List UInt8 := (Bg ua Aj (zx7 l) ((zx7 l).length / 64)).flatMap λx => be 4 x.toNat
theorem xz2 (l:List UInt8):(zx7 l).length=(l.length+72)/64*64:=by
 simp only[zx7,ao,bN,ka,aQ,cL];omega
theorem xw7 (l:List Ak):(l.flatMap λx=>be 4 x.toNat).length=4*l.length:=by
 induction l with
 |nil=>rfl
 |cons x r ih=>rw[cX,ao,ih,ka,aQ];omega
theorem C8 (l : List UInt8) : (sumW l).length = 32 := by
  rw [sumW, xw7, zq6]; rfl
end Go.Vc
namespace Go.Proofs.YtpdiphfjmepijaaGreatDoor
open Go.Proofs.Tryz
open Go.Vc
theorem Ae (w:World) (x:Ak) {p:Option Addr} {c:Nat} {ns:List Nat} (h:Sl w p ns.length 1 (natsV ns)) (hns:∀n∈ns,n<=32) (hlen:ns.length<1000):
  gn prog 221 [xj x,.slice p ns.length c] w λv w'=>v=xj (Do x ns)/\Ext No w w':=by
 refine gz func221 ?_;have a:=Ext.refl No w;refine kw Z (vo Z (kw Z (j8 (jl (α:=Nat) [0,9,10] Z (λz=>[(5,xj (Do x (ns.take z))),(11,.int .i64 (z:Int))]) (λz u=>(z<=ns.length)/\Ext No w u) (λz u=>ns.length-z) (0) Z ⟨aJ _,a⟩ ?_))));rintro i o ⟨f,a⟩;refine vo Z (jy Z (λk=>?_) (λk=>?_));have f:i<ns.length:=by omega
 obtain⟨b,g,rfl,d⟩:=(h.ga a).natAt f;have l:=hns _ (aC f);refine Bn (qr (ki Z 1 Z i Z zk (g+i*1) Z (gx Z d (kg Z (ke Z 11 [qP 0,qP 1,qP 2,qP 3,qP 4,qP 5,qP 6,qP 7,qP 8,qP 9,qP 10] [] (No) zf λq j m=> have a:=a.gb j;gw ge 3 Z (wd_sh ge Z Z (cF _) ?_))))));dsimp only[shV];refine gw ge 3 Z ?_;rw[qc _ zk];refine wd_sh ge Z Z zk ?_;dsimp only[shV];refine gw ge 3 Z ?_;rw[show(32-((ns[i]:Nat):Int))=((32-ns[i]:Nat):Int) from by omega,w_shr,w_shl,w_or,yj4,bV,bV,show(x>>>ns[i]|||x<<<(32-ns[i]))=rot x ns[i] from Z,<-mixW_take x ns f];refine js (ja (Bi Z ?_));rw[qc _ zk];exact gl (jh (i+1) Z ⟨f,a⟩ zm);have e:ns.take i=ns:=aN zk;rw[e];exact Bh (kw Z (gv (gy Z Z ⟨Z,a⟩)))
end Go.Proofs.YtpdiphfjmepijaaGreatDoor
namespace Go.Vc
structure Bds where
  lo : Option Int
  hi : Option Int
  mx : Option Int
def Bds.Is (s : Bds) (n c l hh m : Nat) : Prop :=
  (s.mx = some (m : Int) /\ s.hi.isSome = true \/ s.mx = none /\ m = c) /\ (s.hi = some (hh : Int) \/ s.hi = none /\ hh = n) /\ (s.lo = some (l : Int) \/ s.lo = none /\ l = 0) /\ l <= hh /\ hh <= m /\ m <= c
section
variable {P : Program} {I : uh} {f : Fs} {ops : Array Oper} {o : Oper} {env : Env} {w : World}
def evB (env : Env) (lo hi mx : Option Operand) : Option Bds :=
  match evI env lo with
  | some lo' => match evI env hi with
    | some hi' => match evI env mx with
      | some mx' => some ⟨lo', hi', mx'⟩
      | none => none
    | none => none
  | none => none
theorem run_bds {lo hi mx:Option Operand} {s:Bds} (h:evB env lo hi mx=some s) {ρ:Operand->Value} (hρ:∀x u,xz env x=some u->ρ x=u) {n c l hh m:Nat} (hs:s.Is n c l hh m) (b:Bool):
  (Instr.sliceBounds b n c (lo.map ρ) (hi.map ρ) (mx.map ρ)).run P w= .ok (l,hh,m) w:=by
 obtain⟨g,f,i,E,F,G⟩:=hs;unfold evB at h;split at h
 ·rename_i H v
  split at h
  ·rename_i j y
   split at h
   ·rename_i J z
    cases h;simp only at g f i;have q:(lo.map ρ=none/\l=0)\/∃k,lo.map ρ=some (.int k (l:Int)):=by rcases evI_eq v hρ with⟨a,d⟩|⟨D,o,a,d⟩<;>rcases i with i|⟨i,A⟩<;>rw[i] at a<;>cases a;exact .inl ⟨d,A⟩;exact .inr ⟨o,d⟩
    have r:(hi.map ρ=none/\j=none/\hh=n)\/∃k,hi.map ρ=some (.int k (hh:Int)):=by rcases evI_eq y hρ with⟨a,d⟩|⟨D,o,a,d⟩<;>rcases f with f|⟨f,B⟩<;>rw[f] at a<;>cases a;exact .inl ⟨d,f,B⟩;exact .inr ⟨o,d⟩
    have t:(mx.map ρ=none/\m=c)\/(j.isSome=true/\∃k,mx.map ρ=some (.int k (m:Int))):=by rcases evI_eq z hρ with⟨a,d⟩|⟨D,o,a,d⟩<;>rcases g with⟨g,e⟩|⟨g,e⟩<;>rw[g] at a<;>cases a;exact .inl ⟨d,e⟩;exact .inr ⟨e,o,d⟩
    unfold Instr.sliceBounds
    rcases t with⟨t,rfl⟩|⟨p,K,t⟩<;>rcases r with⟨r,C,rfl⟩|⟨L,r⟩<;>rcases q with⟨q,rfl⟩|⟨M,q⟩<;>rw[t,r,q]<;>
     first
      |(rw[C] at p;cases p;done)
      |(cases b<;>simp only[Sem.run_bind,aR,aD,cT,zj3 _ _ _ _ E,zj3 _ _ _ _ F,zj3 _ _ _ _ G];done)
   cases h
  cases h
 cases h
def saE (I : uh) (n : Nat) (ops : Array Oper) (env : Env) (o : Oper) : Option (Nat × Nat × Nat × Nat × Bds × Nat) :=
  match pre n ops env o with
  | false => none
  | true => match o.dst with
    | some d => match o.op with
      | .slice t x lo hi mx => match z7 I t with
        | some y => match y.desc with
          | .array m e => match z7 I e with
            | some g => match xz env x with
              | some (.pointer (some ⟨b, off, none⟩)) => match evB env lo hi mx with
                | some s => some (b, off, m, g.size, s, d)
                | none => none
              | _ => none
            | none => none
          | _ => none
        | none => none
      | _ => none
    | none => none
theorem ov_sa (hI:I.Ok P) {nn b off len sz0 d:Nat} {s:Bds} (h:saE I nn ops env o=some (b,off,len,sz0,s,d)) (l hh m sz:Nat) (hsz:sz0=sz) (hs:s.Is len len l hh m):
  pre nn ops env o=true/\o.dst=some d/\Ov P o env w (.slice (ur (some ⟨b,off,none⟩) l m sz) (hh-l) (m-l)) w:=by
 subst hsz;unfold saE at h;split at h;cases h;rename_i k;split at h;rename_i E n;split at h;rename_i t x p q r u;split at h;rename_i y v;split at h;rename_i F e z;split at h;rename_i g A;split at h;rename_i f a B;split at h;rename_i G c;simp only[bJ,cR] at h;obtain⟨rfl,rfl,rfl,rfl,rfl,rfl⟩:=h;refine⟨k,n,λH i=>?_⟩;have j:=(hI.get v).under w;have C:=(hI.get A).sizeOf w;rw[z] at j;have D:(Instr.sliceAt t (.pointer (some ⟨f,a,none⟩)) (p.map H) (q.map H) (r.map H)).run P w= .ok (.slice (ur (some ⟨f,a,none⟩) l m g.size) (hh-l) (m-l)) w:=by unfold Instr.sliceAt;rw[jg j];simp only[Instr.sureAddr,Sem.run_bind,aR,aD,run_bds c i hs false,C,ur];split<;>rfl
 simp only[execOp,u,i _ _ B,Sem.run_bind,D,aD,aR];cases h;cases h;cases h;cases h;cases h;cases h;cases h
theorem st_sa (hI:I.Ok P) {K:Env->World->Prop} {b off len sz0 d:Nat} {s:Bds} (h:saE I f.n ops env o=some (b,off,len,sz0,s,d)) (l hh m sz:Nat) (hsz:sz0=sz) (hs:s.Is len len l hh m)
  (k:K ((d,.slice (ur (some ⟨b,off,none⟩) l m sz) (hh-l) (m-l))::env) w):St P f ops o env w K:=by
 obtain⟨a,c,e⟩:=ov_sa (w:=w) hI h l hh m sz hsz hs;obtain⟨g,i⟩:=pre_eq a;exact yt g i e (by rw[c];exact k)
theorem wd_sa (hI:I.Ok P) {K:Act->World->Prop} {r:Dr} {i:Nat} {pl:List (Nat×Bool)} {dn:List Nat} (ho:ops[i]? =some o) {b off len sz0 d:Nat} {s:Bds} (h:saE I f.n ops env o=some (b,off,len,sz0,s,d)) (l hh m sz:Nat) (hsz:sz0=sz) (hs:s.Is len len l hh m)
  (k:WD P f ops K r pl (i::dn) ((d,.slice (ur (some ⟨b,off,none⟩) l m sz) (hh-l) (m-l))::env) w):WD P f ops K r ((i,true)::pl) dn env w:=by
 obtain⟨a,c,_⟩:=ov_sa (w:=w) hI h l hh m sz hsz hs;exact wd_q ho a c (λe _=>(ov_sa (w:=e) hI h l hh m sz hsz hs).2.2) k
def ssE (I : uh) (n : Nat) (ops : Array Oper) (env : Env) (o : Oper) : Option (ByteArray × Bds × Nat) :=
  match pre n ops env o with
  | false => none
  | true => match o.dst with
    | some d => match o.op with
      | .slice t x lo hi none => match z7 I t with
        | some y => match y.desc with
          | .string => match xz env x with
            | some (.string s) => match evB env lo hi none with
              | some bs => some (s, bs, d)
              | none => none
            | _ => none
          | _ => none
        | none => none
      | _ => none
    | none => none
theorem ov_ss (hI:I.Ok P) {nn d:Nat} {s:ByteArray} {bs:Bds} (h:ssE I nn ops env o=some (s,bs,d)) (l hh:Nat) (hs:bs.Is s.size s.size l hh s.size):
  pre nn ops env o=true/\o.dst=some d/\Ov P o env w (.string (s.extract l hh)) w:=by
 unfold ssE at h;split at h;cases h;rename_i j;split at h;rename_i v k;split at h;rename_i t x e f m;split at h;rename_i y n;split at h;rename_i p;split at h;rename_i a q;split at h;rename_i r b;simp only[bJ,cR] at h;obtain⟨rfl,rfl,rfl⟩:=h;refine⟨j,k,λz g=>?_⟩;have c:=(hI.get n).under w;rw[p] at c;have i:=run_bds (P:=P) (w:=w) b g hs false;simp only[Option.map_none] at i;have u:(Instr.sliceAt t (.string a) (e.map z) (f.map z) none).run P w= .ok (.string (a.extract l hh)) w:=by unfold Instr.sliceAt;rw[jg c];show(Instr.slice t (.string a) (e.map z) (f.map z) none).run P w=_;unfold Instr.slice;rw[jg c];simp only[Option.isSome_none,bO,dF,Sem.run_bind,aR,aD,i]
 simp only[execOp,m,g _ _ q,Option.map_none,Sem.run_bind,u,aD,aR];cases h;cases h;cases h;cases h;cases h;cases h
theorem st_ss (hI:I.Ok P) {K:Env->World->Prop} {d:Nat} {s:ByteArray} {bs:Bds} (h:ssE I f.n ops env o=some (s,bs,d)) (l hh:Nat) (hs:bs.Is s.size s.size l hh s.size)
  (k:K ((d,.string (s.extract l hh))::env) w):St P f ops o env w K:=by
 obtain⟨a,b,c⟩:=ov_ss (w:=w) hI h l hh hs;obtain⟨e,g⟩:=pre_eq a;exact yt e g c (by rw[b];exact k)
def spE (I : uh) (n : Nat) (ops : Array Oper) (env : Env) (o : Oper) : Option (Option Addr × Nat × Nat × Nat) :=
  match pre n ops env o with
  | false => none
  | true => match o.dst with
    | some d => match o.op with
      | .sliceToArrayPointer t x => match z7 I t with
        | some y => match y.desc with
          | .array m _ => match xz env x with
            | some (.slice p len _) => some (p, len, m, d)
            | _ => none
          | _ => none
        | none => none
      | _ => none
    | none => none
theorem ov_sp (hI:I.Ok P) {nn len m d:Nat} {p:Option Addr} (h:spE I nn ops env o=some (p,len,m,d)) (hm:m<=len):
  pre nn ops env o=true/\o.dst=some d/\Ov P o env w (.pointer p) w:=by
 unfold spE at h;split at h;cases h;rename_i f;split at h;rename_i s g;split at h;rename_i t x i;split at h;rename_i y j;split at h;rename_i u e k;split at h;rename_i b a l n;simp only[bJ,cR] at h;obtain⟨rfl,rfl,rfl,rfl⟩:=h;refine⟨f,g,λv q=>?_⟩;have c:=(hI.get j).under w;rw[k] at c;have r:(Instr.arrayAt t (.slice b a l)).run P w= .ok (.pointer b) w:=by unfold Instr.arrayAt;rw[jg c];simp only[aI (Nat.not_lt.2 hm),aR]
 simp only[execOp,i,q _ _ n,Sem.run_bind,r,aD,aR];cases h;cases h;cases h;cases h;cases h
theorem st_sp (hI:I.Ok P) {K:Env->World->Prop} {len m d:Nat} {p:Option Addr} (h:spE I f.n ops env o=some (p,len,m,d)) (hm:m<=len)
  (k:K ((d,.pointer p)::env) w):St P f ops o env w K:=by
 obtain⟨a,b,c⟩:=ov_sp (w:=w) hI h hm;obtain⟨e,g⟩:=pre_eq a;exact yt e g c (by rw[b];exact k)
def mfE (n : Nat) (ops : Array Oper) (env : Env) (o : Oper) : Option (FuncId × List Value × List Value × Nat) :=
  match pre n ops env o with
  | false => none
  | true => match o.dst with
    | some d => match o.op with
      | .makeFunc (.func g) fs cs => match evs env fs.toList with
        | some l => match evs env cs.toList with
          | some m => some (g, l, m, d)
          | none => none
        | none => none
      | _ => none
    | none => none
theorem ov_mf {nn d:Nat} {g:FuncId} {l m:List Value} (h:mfE nn ops env o=some (g,l,m,d)):
  pre nn ops env o=true/\o.dst=some d/\Ov P o env w (.func (.func g) l.toArray m.toArray) w:=by
 unfold mfE at h;split at h;cases h;rename_i b;split at h;rename_i j c;split at h;rename_i k n p e;split at h;rename_i q f;split at h;rename_i r i;simp only[bJ,cR] at h;obtain⟨rfl,rfl,rfl,rfl⟩:=h;refine⟨b,c,λs a=>?_⟩;simp only[execOp,e,Instr.makeFunc,evs_arr a f,evs_arr a i,Sem.run_bind,aD,aR];cases h;cases h;cases h;cases h
theorem st_mf {K:Env->World->Prop} {d:Nat} {g:FuncId} {l m:List Value} (h:mfE f.n ops env o=some (g,l,m,d))
  (k:K ((d,.func (.func g) l.toArray m.toArray)::env) w):St P f ops o env w K:=by
 obtain⟨a,b,c⟩:=ov_mf (P:=P) (w:=w) h;obtain⟨e,i⟩:=pre_eq a;exact yt e i c (by rw[b];exact k)
end
end Go.Vc
namespace Go.Proofs.YtpdiphfjmepijaaGreatDoor
open Go.Proofs.Tryz
open Go.Vc
theorem offR_ok {l:List UInt8} {n:Nat} (h:n<=l.length):x5 l 0 (n:Int)=(l.take n,l.drop n,0):=by
 unfold x5;rw[aI zq,aI zk,aI zk];simp
theorem drawn_calls (w:World) {b:List UInt8} (hb:b.length=64):
  gn prog 220 [.agg (gh b).toArray] w λv w'=>v= .agg (ku (sched b 64)).toArray/\Ext No w w':=by
 refine gz func220 (have d:=Ext.refl No w;qr (gt Z λb1 w1 bf ae ap=> have d:=d.gb ap;gt Z λQ w2 aq a ah=> have K:=al d.size aq;have ae:=ae.ga ah;have d:=d.gb ah;have a:j0 w2 Q 313 (ku (sched b 0++List.replicate (64-0) 0)):=a;u3 (qr (wl (st_sa ge Z 0 64 64 1 Z ⟨.inr ⟨Z,Z⟩,.inr ⟨Z,Z⟩,.inr ⟨Z,Z⟩,by decide,by decide,by decide⟩ ?_)))));rw[qe,bB];rw[show Value.slice (some ⟨b1,0,none⟩) 64 64= .slice (some ⟨b1,0,none⟩) b.length b.length from by rw[hb]];have ar:=d;refine gj call101 Z (zv3 w2 (p:=some ⟨b1,0,none⟩) (c:=b.length) (l:=b) ⟨by simp[gm],.inr ⟨b1,0,Z,ae.ql⟩⟩ zk) ?_;rintro v3 w3⟨rb,rfl,av,f,ai⟩;have a:=a.ga ai;have d:=d.gb ai;have aw:=al ar.size av;refine kg Z (gp (kw Z (j8 (jl (α:=Nat) [2,3] Z (λz=>[(9,.int .i64 (z:Int))]) (λz u=>(z<=64/\Rd u rb (b.drop (4*min z 16)) 0)/\j0 u Q 313 (ku (sched b z++List.replicate (64-z) 0))/\Ext No w u) (λz u=>64-z) (0) Z ⟨⟨by decide,by simpa using f⟩,a,d⟩ ?_))));rintro t w4 ⟨⟨ht,f⟩,a,d⟩;refine vo Z (jy Z (λhc=>?_) (λhc=>?_));have ht:t<64:=by omega
 refine xg (ju (α:=Unit) [2,3,9] Z (λz=>[]) (λz u=>(Rd u rb (b.drop (4*min (t+1) 16)) 0)/\j0 u Q 313 (ku (sched b (t+1)++List.replicate (64-(t+1)) 0))/\Ext No w u) ?_ ?_);refine j8 (vo Z (kw Z (jy Z (λhc=>?_) (λhc=>?_))));have M:t<16:=by omega
 have e4:min t 16=t:=by omega
 have e5:min (t+1) 16=t+1:=by omega
 rw[e4] at f;refine qj Z ?_;have y:=f.ne a zd;refine gj call171 Z (yj0 w4 f za) ?_;rintro v5 w5⟨rfl,f,aj⟩;have a:=a.ext aj (λe=>y e.symm);have d:=d.gi aj aw;have e6:=offR_ok (l:=b.drop (4*t)) (n:=4) za;have e6:x5 (b.drop (4*t)) 0 4=_:=e6;rw[e6] at f;rw[e6];have e7:List.drop 4 (b.drop (4*t))=b.drop (4*min (t+1) 16):=by rw[cY,e5,Nat.mul_add]
 rw[e7] at f
 have e8:(num ((b.drop (4*t)).take 4):Int)=((nextW b (sched b t)).toNat:Int):=by
  rw[nextW_raw (by rw[ug];exact M),ug,BitVec.toNat_ofNat];have:=xu ((b.drop (4*t)).take 4);rw[aH,aX] at this;have h4:min 4 (b.length-4*t)=4:=by omega
  rw[h4] at this;omega
 rw[e8];refine ki Z 1 Z t Z zk (0+t*1) Z (have g:=a;wl (un ge a Z Z (by rw[up,ao,ug,bN];omega) λw6 a ak bg=>?_));have d:=d.gi ak K
 have a:j0 w6 Q 313 (ku (sched b (t+1)++List.replicate (64-(t+1)) 0)):=by
  have e:64-t=(64-(t+1))+1:=by omega
  have N:=a;rw[e,words_set _ _ _ _ (ug b t).symm] at N;exact N
 have y:=f.ne g zd;have f:=f.ext ak (λe=>y e) (λb' L h e=>h.ne g zd e);exact u3 (xt (qs (ux (j2 (()) Z ⟨f,a,d⟩))));have M:¬t<16:=by omega
 have e4:min t 16=min (t+1) 16:=by omega
 rw[e4] at f;have T:=nextW_mix (b:=b) (l:=sched b t) (by rw[ug];exact M);rw[ug] at T;have af:IntKind.u32.wrap (IntKind.u32.wrap (IntKind.u32.wrap ((((sched b t).getD (t-16) 0).toNat:Int)+(((sched b t).getD (t-7) 0).toNat:Int))+bitI .xor .u32 ((Do ((sched b t).getD (t-2) 0) [17,19]).toNat:Int) (Int.fdiv (((sched b t).getD (t-2) 0).toNat:Int) (2^min (10:Int).toNat IntKind.u32.bits)))+bitI .xor .u32 ((Do ((sched b t).getD (t-15) 0) [7,18]).toNat:Int) (Int.fdiv (((sched b t).getD (t-15) 0).toNat:Int) (2^min (3:Int).toNat IntKind.u32.bits)))=((nextW b (sched b t)).toNat:Int):=by rw[T,C1,w_shr,yj4,C1,w_shr,yj4,C1];rfl
 refine xg (gp (ke Z 10 [qP 0,qP 1,qP 2,qP 3,qP 4,qP 5,qP 6,qP 7,qP 8,qP 9] [] (No) zf λw7 ag bh=> have O:=a;have a:=a.ga ag;have f:=f.ga ag;have d:=d.gb ag;gw ge 2 Z ?_));rw[qc _ zk];refine u0 ge Z Z 1 Z (t-2) zk zk (0+(t-2)*1) Z (j5 ge Z Z (λw' G=>(O.ga G).cell (i:=0+(t-2)*1) (v:=xj ((sched b t).getD (t-2) 0)) (words_at _ _ (by rw[ug];omega))) (gw ge 2 Z ?_));rw[qc _ zk];refine u0 ge Z Z 1 Z (t-15) zk zk (0+(t-15)*1) Z (j5 ge Z Z (λw' G=>(O.ga G).cell (i:=0+(t-15)*1) (v:=xj ((sched b t).getD (t-15) 0)) (words_at _ _ (by rw[ug];omega))) (gw ge 2 Z (js (ja (jq (yw8 Z 25 25 [25] (No) zf λw8 R bi=> have O:=a;have a:=a.ga R;have f:=f.ga R;have d:=d.gb R;have k:Ext No _ w8:=R;u9 [qP 0,qP 1,qP 2,qP 3,qP 4,qP 5,qP 6,qP 7,qP 8,qP 9,qP 10,qP 13,qP 14,qP 17,qP 20,qP 21] 9 Z zf (gw ge 3 Z ?_)))))));rw[qc _ zk];refine u0 ge Z Z 1 Z (t-16) zk zk (0+(t-16)*1) Z (j5 ge Z Z (λw' G=>(O.ga G).cell (i:=0+(t-16)*1) (v:=xj ((sched b t).getD (t-16) 0)) (words_at _ _ (by rw[ug];omega))) (gw ge 2 Z ?_));rw[qc _ zk];refine u0 ge Z Z 1 Z (t-7) zk zk (0+(t-7)*1) Z (j5 ge Z Z (λw' G=>(O.ga G).cell (i:=0+(t-7)*1) (v:=xj ((sched b t).getD (t-7) 0)) (words_at _ _ (by rw[ug];omega))) (gw ge 7 Z (zu Z (C2 [11,18] Z zf ⟨⟨_,Z,?_⟩,⟨_,Z,?_⟩,trivial⟩))));refine qw ge Z 1 Z Z Z zd zd zp Z λH w9 am q P bj=>⟨k.gb P,have a:=a.ga P;have f:=f.ga P;have d:=d.gb P;have k:=k.gb P;u9 [] 8 Z zf (zu Z (C2 [12,18] Z zf ⟨⟨_,Z,?_⟩,⟨_,Z,?_⟩,trivial⟩))⟩
 refine j7 call221 Z (Ae w9 _ (p:=some ⟨H,0,none⟩) (c:=2) (ns:=[17,19]) ⟨Z,.inr ⟨H,0,Z,q.ql⟩⟩ zd zd) λbk bm U=>⟨(by obtain⟨rfl,r⟩:=U;exact k.gb r),?_⟩
 obtain⟨rfl,r⟩:=U;have a:=a.ga r;have f:=f.ga r;have d:=d.gb r;have k:=k.gb r;refine u9 [qP 15,qP 16,(18,false),(19,false),qP 22,qP 23,qP 24] 0 Z zf (gw ge 2 Z (jv Z (qw ge Z 1 Z Z Z zd zd zp Z λA ay V j B a6=>⟨k.gb B,have a:=a.ga B;have f:=f.ga B;have d:=d.gb B;have k:=k.gb B;jv Z (j7 call221 Z (Ae ay _ (p:=some ⟨A,0,none⟩) (c:=2) (ns:=[7,18]) ⟨Z,.inr ⟨A,0,Z,j.ql⟩⟩ zd zd) λbn bp W=>⟨(by obtain⟨rfl,C⟩:=W;exact k.gb C),?_⟩)⟩)));obtain⟨rfl,C⟩:=W;have a:=a.ga C;have f:=f.ga C;have d:=d.gb C;refine gw ge 2 Z ?_;rw[af];refine u0 ge Z Z 1 Z t Z zk (0+t*1) Z (js (have g:=a;wb Z (un ge a Z Z (by rw[up,ao,ug,bN];omega) λaz a X a7=>?_)));have d:=d.gi X K
 have a:j0 az Q 313 (ku (sched b (t+1)++List.replicate (64-(t+1)) 0)):=by
  have e:64-t=(64-(t+1))+1:=by omega
  have N:=a;rw[e,words_set _ _ _ _ (ug b t).symm] at N;exact N
 have y:=f.ne g zd;have f:=f.ext X (λe=>y e) (λb' L h e=>h.ne g zd e);exact ja (jr (j2 (()) Z ⟨f,a,d⟩));refine qw ge Z 1 Z Z Z zd zd zp Z λA a0 V j s a8=>⟨k.gb s,have a:=a.ga s;have q:=q.ga s;have f:=f.ga s;have d:=d.gb s;have k:=k.gb s;u9 [(12,false),qP 15,qP 16,(19,false),qP 22,qP 23,qP 24] 0 Z zf (jv Z (j7 call221 Z (Ae a0 _ (p:=some ⟨H,0,none⟩) (c:=2) (ns:=[17,19]) ⟨Z,.inr ⟨H,0,Z,q.ql⟩⟩ zd zd) λbq a1 Y=>⟨(by obtain⟨rfl,m⟩:=Y;exact k.gb m),?_⟩))⟩
 obtain⟨rfl,m⟩:=Y;have a:=a.ga m;have j:=j.ga m;have f:=f.ga m;have d:=d.gb m;have k:=k.gb m;refine gw ge 2 Z (jv Z (j7 call221 Z (Ae a1 _ (p:=some ⟨A,0,none⟩) (c:=2) (ns:=[7,18]) ⟨Z,.inr ⟨A,0,Z,j.ql⟩⟩ zd zd) λbr bs I=>⟨(by obtain⟨rfl,D⟩:=I;exact k.gb D),?_⟩));obtain⟨rfl,D⟩:=I;have a:=a.ga D;have f:=f.ga D;have d:=d.gb D;refine gw ge 2 Z ?_;rw[af];refine u0 ge Z Z 1 Z t Z zk (0+t*1) Z (js (have g:=a;wb Z (un ge a Z Z (by rw[up,ao,ug,bN];omega) λa2 a aa a9=>?_)));have d:=d.gi aa K
 have a:j0 a2 Q 313 (ku (sched b (t+1)++List.replicate (64-(t+1)) 0)):=by
  have e:64-t=(64-(t+1))+1:=by omega
  have N:=a;rw[e,words_set _ _ _ _ (ug b t).symm] at N;exact N
 have y:=f.ne g zd;have f:=f.ext aa (λe=>y e) (λb' L h e=>h.ne g zd e);exact ja (jr (j2 (()) Z ⟨f,a,d⟩));refine qw ge Z 1 Z Z Z zd zd zp Z λA bt V j E ba=>⟨k.gb E,have a:=a.ga E;have f:=f.ga E;have d:=d.gb E;have k:=k.gb E;u9 [(11,false),(12,false),qP 15,qP 16,(19,false),qP 22,qP 23,qP 24] 0 Z zf (jv Z (qw ge Z 1 Z Z Z zd zd zp Z λH a3 am q x bb=>⟨k.gb x,have a:=a.ga x;have j:=j.ga x;have f:=f.ga x;have d:=d.gb x;have k:=k.gb x;jv Z (j7 call221 Z (Ae a3 _ (p:=some ⟨H,0,none⟩) (c:=2) (ns:=[17,19]) ⟨Z,.inr ⟨H,0,Z,q.ql⟩⟩ zd zd) λbu a4 ab=>⟨(by obtain⟨rfl,o⟩:=ab;exact k.gb o),?_⟩)⟩))⟩
 obtain⟨rfl,o⟩:=ab;have a:=a.ga o;have j:=j.ga o;have f:=f.ga o;have d:=d.gb o;have k:=k.gb o;refine gw ge 2 Z (jv Z (j7 call221 Z (Ae a4 _ (p:=some ⟨A,0,none⟩) (c:=2) (ns:=[7,18]) ⟨Z,.inr ⟨A,0,Z,j.ql⟩⟩ zd zd) λbv bw ac=>⟨(by obtain⟨rfl,F⟩:=ac;exact k.gb F),?_⟩));obtain⟨rfl,F⟩:=ac;have a:=a.ga F;have f:=f.ga F;have d:=d.gb F;refine gw ge 2 Z ?_;rw[af];refine u0 ge Z Z 1 Z t Z zk (0+t*1) Z (js (have g:=a;wb Z (un ge a Z Z (by rw[up,ao,ug,bN];omega) λa5 a ad bc=>?_)));have d:=d.gi ad K
 have a:j0 a5 Q 313 (ku (sched b (t+1)++List.replicate (64-(t+1)) 0)):=by
  have e:64-t=(64-(t+1))+1:=by omega
  have N:=a;rw[e,words_set _ _ _ _ (ug b t).symm] at N;exact N
 have y:=f.ne g zd;have f:=f.ext ad (λe=>y e) (λb' L h e=>h.ne g zd e);exact ja (jr (j2 (()) Z ⟨f,a,d⟩));rintro z bx ⟨f,a,d⟩;refine yy Z ?_;rw[qc _ zk];exact gl (jh (t+1) Z ⟨⟨by omega,f⟩,a,d⟩ zm);have h0:t=64:=by omega
 subst h0;have a:j0 w4 Q 313 (ku (sched b 64)):=by simpa using a
 have J:(ku (sched b 64)).length=64:=by rw[up,ug]
 generalize sched b 64=S at a J|-;exact Bh (qr (jf a Z J (wl (j9 (l':=ku S) ge a Z Z J Z OneC.h λbz a an bd=> have d:=d.gi an K;u3 (gv (u7 [_] ⟨⟨Q,0,Z,ud ge Z Z a.ql J⟩,trivial⟩ ⟨Z,d⟩))))))
theorem into_calls (w:World) {sb:Nat} {h:List Ak} (hs:j0 w sb 304 (ku h)) (hl:h.length=8) {b:List UInt8} (hb:b.length=64) (hg:Seg w 0 0 (ku ua)):
  gn prog 208 [.pointer (some ⟨sb,0,none⟩),.agg (gh b).toArray] w λ_ w'=>j0 w' sb 304 (ku (intoW ua h b))/\Ext (One sb) w w':=by
 have ba:=hs.lt;refine gz func208 ?_;have f:=Ext.refl (One sb) w;refine qr (gt Z λb3 w1 bb n Q=>?_);have f:=f.gb Q;have n:j0 w1 b3 164 (gh b):=n;refine u3 (qj Z ?_);have hs:=hs.ga Q;have hg:=hg.ga Q;refine jk Z hs.ql (by rw[up,hl]) (gt Z λF w2 S a G=>?_);have R:=j3 n.lt S;have H:=al f.size S;have n:=n.ga G;have hs:=hs.ga G;have hg:=hg.ga G;have f:=f.gb G;have r:¬One F sb:=λe=>by have e:sb=F:=e;omega
 have s:¬One F 0:=λe=>by have e:0=F:=e;omega
 refine wl (j9 (l':=ku h) ge a Z Z (by rw[up,hl]) (by rw[up,hl];rfl) OneC.h λw3 a J bc=>?_);have n:=n.gk J R;have hs:=hs.ext J r;have hg:=hg.ext J s;have f:=f.gi J H;refine u3 (gp (qr (jk Z n.ql (by rw[gm,hb]) (gj call220 Z (drawn_calls w3 hb) ?_))));rintro v4 w4⟨rfl,K⟩;have a:=a.ga K;have hs:=hs.ga K;have hg:=hg.ga K;have f:=f.gb K;have ae:=ug b 64;have hi:intoW ua h b=List.zipWith (·+·) h (B5 h ua (sched b 64) 64):=rfl;rw[hi];generalize sched b 64=W at ae|-;refine kg Z (j8 (jl (α:=Nat) [0,4,19] Z (λz=>[(20,.int .i64 (z:Int))]) (λz u=>(z<=64/\j0 u sb 304 (ku h)/\Seg u 0 0 (ku ua))/\j0 u F 276 (ku (B5 h ua W z))/\Ext (One sb) w u) (λz u=>64-z) (0) Z ⟨⟨by decide,hs,hg⟩,a,f⟩ ?_));rintro t w5 ⟨⟨ht,hs,hg⟩,a,f⟩;refine vo Z (jy Z (λhc=>?_) (λhc=>?_));have ht:t<64:=by omega
 obtain⟨a0,a1,a2,a3,a4,a5,a6,a7,h8⟩:=eight (l:=B5 h ua W t) (by rw[zj9,hl]);rw[h8] at a;have hW:=Bp W (i:=t) zk;have hk:=Bp ua (i:=t) ht;refine Bn (qj Z (wl (st_id ge Z t Z ht (.inl ⟨Z,by simpa using hW⟩) (kg Z (gp (ke Z 6 [qP 0,qP 1,qP 2,qP 3,qP 4,qP 5] [] (No) zf λw6 M bd=> have g:=a;have a:=a.ga M;have hs:=hs.ga M;have hg:=hg.ga M;have f:=f.gb M;u0 ge Z Z 1 Z 0 Z zd 0 Z (j5 ge Z Z (λw' d=>(g.ga d).cell Z) (u0 ge Z Z 1 Z 4 Z zd 4 Z (j5 ge Z Z (λw' d=>(g.ga d).cell Z) (gw ge 2 Z (js (ja (jq (gp (ke Z 24 [qP 0,qP 1,qP 2,qP 6,qP 7,qP 8,qP 9,qP 10,qP 11,qP 12,qP 13,qP 14,qP 15,qP 17,qP 18,qP 19,qP 21,(3,false),(4,false),qP 5,qP 16,qP 20,qP 22,qP 23] [] (No) zf λw7 B bf=> have g:=a;have af:=hg;have a:=a.ga B;have hs:=hs.ga B;have hg:=hg.ga B;have f:=f.gb B;have C:Ext (No) _ w7:=B.no;u0 ge Z Z 1 Z 7 Z zd 7 Z (j5 ge Z Z (λw' d=>(g.ga d).cell Z) (gw ge 1 Z (u0 ge Z Z 1 Z 6 Z zd 6 Z (j5 ge Z Z (λw' d=>(g.ga d).cell Z) (gw ge 1 Z (u0 ge Z Z 1 Z 5 Z zd 5 Z (j5 ge Z Z (λw' d=>(g.ga d).cell Z) (u0 ge Z Z 1 Z 6 Z zd 6 Z (j5 ge Z Z (λw' d=>(g.ga d).cell Z) (gw ge 4 Z (u0 ge Z Z 1 Z t Z ht (0+t) zk (j5 ge Z Z (λw' d=>(af.ga d) t _ hk) (gw ge 1 Z (jv Z (qw ge Z 1 Z Z Z zd zd zp Z λU w8 aq V y bg=>⟨C.gb y,have a:=a.ga y;have hs:=hs.ga y;have hg:=hg.ga y;have f:=f.gb y;have C:=C.gb y;jv Z (j7 call221 Z (Ae w8 _ (p:=some ⟨U,0,none⟩) (c:=3) (ns:=[6,11,25]) ⟨Z,.inr ⟨U,0,Z,V.ql⟩⟩ zd zd) λv9 w9 X=>⟨(by obtain⟨rfl,A⟩:=X;exact C.gb A),?_⟩)⟩))))))))))))))))))))))))))))));obtain⟨rfl,A⟩:=X;have a:=a.ga A;have hs:=hs.ga A;have hg:=hg.ga A;have f:=f.gb A;refine gw ge 4 Z ?_;rw[yj4,w_and,yj4,C1,C1,C1,C1];refine gw ge 1 Z (js (ja (jq (gp (ke Z 17 [qP 0,qP 3,qP 4,qP 5,qP 6,qP 7,qP 8,qP 9,qP 10,qP 11,qP 12,qP 13,qP 14,(1,false),(2,false),qP 15,qP 16] [] (No) zf λag o ar=> have g:=a;have a:=a.ga o;have hs:=hs.ga o;have hg:=hg.ga o;have f:=f.gb o;have C:Ext (No) _ ag:=o.no;gw ge 2 Z (u0 ge Z Z 1 Z 1 Z zd 1 Z (j5 ge Z Z (λw' d=>(g.ga d).cell Z) (gw ge 1 Z (u0 ge Z Z 1 Z 2 Z zd 2 Z (j5 ge Z Z (λw' d=>(g.ga d).cell Z) (gw ge 1 Z (u0 ge Z Z 1 Z 1 Z zd 1 Z (j5 ge Z Z (λw' d=>(g.ga d).cell Z) (gw ge 3 Z (jv Z (qw ge Z 1 Z Z Z zd zd zp Z λY ah au I j av=>⟨C.gb j,have a:=a.ga j;have hs:=hs.ga j;have hg:=hg.ga j;have f:=f.gb j;have C:=C.gb j;jv Z (j7 call221 Z (Ae ah _ (p:=some ⟨Y,0,none⟩) (c:=3) (ns:=[2,13,22]) ⟨Z,.inr ⟨Y,0,Z,I.ql⟩⟩ zd zd) λbh bi O=>⟨(by obtain⟨rfl,k⟩:=O;exact C.gb k),?_⟩)⟩))))))))))))))));obtain⟨rfl,k⟩:=O;have a:=a.ga k;have hs:=hs.ga k;have hg:=hg.ga k;have f:=f.gb k;refine gw ge 1 Z ?_;rw[w_and,w_or,w_and,w_or,C1];refine gw ge 1 Z (js (ja (jq (gp (ke Z 3 [qP 0,qP 1,(2,false)] [] (One F) zf λai q aw=> have a:=a.ga q;have hs:=hs.ga q;have hg:=hg.ga q;have f:=f.gb q;have C:Ext (One F) _ ai:=q.no;wd_sa ge Z Z 1 8 8 1 Z ⟨.inr ⟨Z,Z⟩,.inr ⟨Z,Z⟩,.inl Z,by decide,by decide,by decide⟩ (wd_sa ge Z Z 0 7 8 1 Z ⟨.inr ⟨Z,Z⟩,.inl Z,.inr ⟨Z,Z⟩,by decide,by decide,by decide⟩ (jv Z (yj2 ge Z 1 Z a (Src.slice (m:=7) (news:=ku [a0,a1,a2,a3,a4,a5,a6]) ⟨Z,.inr ⟨F,0,Z,(a.ql.take 7)⟩⟩ OneC.h) (show 7<=7 from by decide) (show 8<=8 from by decide) λaj ak x ax=>⟨C.then x,have a:j0 aj F 276 (ku [a0,a0,a1,a2,a3,a4,a5,a6]):=ak;have hs:=hs.ext x r;have hg:=hg.ext x s;have f:=f.gi x H;js (ja (jq (qj Z ?_)))⟩))))))));rw[C1];refine ki Z 1 Z 0 Z zd 0 Z (wl (un ge a Z Z (show 0<8 from by decide) λbj a D ay=> have hs:=hs.ext D r;have hg:=hg.ext D s;have f:=f.gi D H;u3 (j1 (ki Z 1 Z 4 Z zd 4 Z (jd a Z Z (j6 ge Z ?_))))));rw[C1];refine ki Z 1 Z 4 Z zd 4 Z (wl (un ge a Z Z (show 4<8 from by decide) λam a E az=>?_));have hs:=hs.ext E r;have hg:=hg.ext E s;have f:=f.gi E H
 have a:j0 am F 276 (ku (B5 h ua W (t+1))):=by
  have e1:W.getD t 0=W[t]'zk:=by rw[bH,aG zk];rfl
  have e2:ua.getD t 0=ua[t]'ht:=by rw[bH,aG ht];rfl
  rw[B5,h8,e1,e2];exact a
 refine gl (Bi Z ?_);rw[qc _ zk];exact gl (jh (t+1) Z ⟨⟨by omega,hs,hg⟩,a,f⟩ zm);have h0:t=64:=by omega
 subst h0;have aa:(B5 h ua W 64).length=8:=by rw[zj9,hl]
 generalize B5 h ua W 64=L at a aa|-;refine Bh (qr (jf a Z (by rw[up,aa]) (kg Z (j8 (jl (α:=Nat) [0,80] Z (λz=>[(81,.int .i64 (z:Int))]) (λz u=>(z<=8/\j0 u sb 304 (ku (List.zipWith (·+·) (h.take z) (L.take z)++h.drop z)))/\Ext (One sb) w u) (λz u=>8-z) (0) Z ⟨⟨by decide,by simpa using hs⟩,f⟩ ?_)))));rintro i bk ⟨⟨N,hs⟩,f⟩;refine vo Z (jy Z (λhc=>?_) (λhc=>?_));have N:i<8:=by omega
 have h1:i<h.length:=by omega
 have h2:i<L.length:=by omega
 have an:=Bp L h2;refine Bn (qj Z (wl (st_id ge Z i Z N (.inl ⟨Z,by simpa using an⟩) (kg Z (ke Z 13 [qP 0,qP 1,qP 2,qP 3,qP 4,qP 5,qP 6,qP 7,qP 8,qP 9,qP 10,qP 11,qP 12] [13] (No) zf λbm P a8=> have ap:=hs;have hs:=hs.ga P;have f:=f.gb P;gw ge 5 Z (u0 ge Z Z 1 Z i Z N (0+i*1) Z (j5 ge Z Z (λw' d=>(ap.ga d).cell (i:=0+i*1) (v:=xj h[i]) (zip_at h1 h2)) (gw ge 2 Z ?_))))))));rw[C1];refine gw ge 3 Z (u0 ge Z Z 1 Z i Z N (0+i*1) Z (js (wb Z (un ge hs Z Z (by rw[up,ao,List.length_zipWith,aH,aH,aX];omega) λbn ab ac a9=>?_))));rw[zip_set h1 h2] at ab;have hs:=ab;have f:=f.then ac;refine ja (Bi Z ?_);rw[qc _ zk];exact gl (jh (i+1) Z ⟨⟨by omega,hs⟩,f⟩ zm);have h0:i=8:=by omega
 subst h0;have e1:h.take 8=h:=aN zk;have e2:L.take 8=L:=aN zk;have e3:h.drop 8=[]:=aW zk;rw[e1,e2,e3,bE] at hs;exact xt (qs (qs (ux (zz Z ⟨hs,f⟩))))
theorem start_calls (w:World):
  gn prog 207 [] w λv w'=>v= .agg (ku Aj).toArray/\Ext No w w':=by
 refine gz func207 ?_;have b:=Ext.refl No w;refine qr (gt Z λg j c a d=>?_);have e:=al b.size c;have b:=b.gb d;refine u3 (qr (u1 Z zc (l':=ku Aj) Z (wl (j9 (l':=ku Aj) ge a Z Z Z Z OneC.h λk a f i=>?_))));have b:=b.gi f e;refine u3 (gv (u7 [_] ⟨⟨g,0,Z,ud ge Z Z a.ql Z⟩,trivial⟩ ?_));exact⟨Z,b⟩
theorem pad_calls (w:World) {p:Option Addr} {c:Nat} {l:List UInt8} (h:xy w p l) (hl:l.length<100000000):
  gn prog 209 [.slice p l.length c] w λv w'=>∃b,v= .slice (some ⟨b,0,none⟩) (zx7 l).length (zx7 l).length/\w.heap.size<=b/\j0 w' b 5 (gh (zx7 l))/\Ext No w w':=by
 obtain⟨F,L⟩:∃F,F=(l.length+72)/64*64-8:=⟨_,Z⟩
 have B:l.length+1<=F:=by omega
 obtain⟨k,C⟩:∃k,F=l.length+(k+1):=⟨F-(l.length+1),by omega⟩
 have D:IntKind.i64.wrap (IntKind.i64.wrap ((IntKind.i64.wrap ((l.length:Int)+72)).tdiv 64)*64)=((F+8:Nat):Int):=by rw[qc ((l.length:Int)+72) zk,IntWalk.i64_quo _ _ zk,qc _ zk];omega
 refine gz func209 (have f:=Ext.refl No w;kw Z (qj Z ?_));rw[D];refine u3 (qj Z ?_);rw[show IntKind.i64.wrap (((F+8:Nat):Int)-8)=(F:Int) from by rw[qc _ zk];omega];refine wl (zx8 ge Z F F 1 Z Z Z zd Z Z (aB _) zk zb λd E j a n G=>?_);have g:=al f.size j;have f:=f.gb n;have a:j0 E d 5 (gh (List.replicate F 0)):=by(have e:Df F (cellsOf ti5.zero)=gh (List.replicate F 0):=yz2 _);rw[<-e];exact a
 refine kg Z (qj Z (wl (yj2 ge Z 1 Z a (Src.slice (h.ga f) OneC.h) zt (by rw[gm,bN];dsimp only;omega) λH o q J=>?_)))
 have a:j0 H d 5 (gh (l++(List.replicate (k+1) 0++[]))):=by
  have e:Vc.put (gh (List.replicate F 0)) 0 (gh l)=gh (l++(List.replicate (k+1) 0++[])):=by rw[put_eq _ _ _ (by simp[gm];omega)];rw[ve];subst C;simp[qy,gm]
  rw[<-e];exact o
 have f:=f.gi q g;refine u3 (qj Z (ki Z 1 Z l.length Z zk (0+l.length*1) Z (wl (un ge a Z Z (by rw[gm];simp) λz a r K=>?_))));have f:=f.gi r g
 have m:l++(128::(List.replicate k 0++[]))++be 8 (8*l.length)=zx7 l:=by
  have s:k=(l.length+72)/64*64-8-(l.length+1):=by omega
  rw[zx7,s];simp
 have a:j0 z d 5 (gh (l++(128::(List.replicate k 0++[])))):=by rw[aV,bF,show(Value.int .u8 128)=yk 128 from Z,gh,<-List.map_set,dM _ _ (aB _),Nat.sub_self,List.replicate_succ] at a;exact a
 have i:(l++(128::(List.replicate k 0++[]))).length=F:=by simp;omega
 refine u3 (qj Z ?_);rw[show IntKind.u64.wrap (IntKind.u64.wrap (l.length:Int)*2^min (3:Int).toNat IntKind.u64.bits)=((8*l.length:Nat):Int) from by rw[show(2:Int)^min (3:Int).toNat IntKind.u64.bits=8 from Z,IntWalk.u64_in (l.length:Int) zk,IntWalk.u64_in _ zk];omega];rw[show Value.slice (some ⟨d,0,none⟩) F F= .slice (some ⟨d,0,none⟩) (l++(128::(List.replicate k 0++[]))).length F from by rw[i]];have t:=f;refine gj call222 Z (put64_calls z (l:=l++(128::(List.replicate k 0++[]))) ⟨by simp[gm],.inr ⟨d,0,Z,a.ql⟩⟩ zk (8*l.length) zk) ?_;rintro M N⟨b,rfl,x,A,y⟩;have f:=f.gb y;rw[m] at A|-;exact kg Z (gv (gy Z Z ⟨b,Z,al t.size x,A,f⟩))
theorem sum_calls (w:World) {p:Option Addr} {c:Nat} {l:List UInt8} (h:xy w p l) (hl:l.length<100000000) (hg:Seg w 0 0 (ku ua)):
  gn prog 181 [.slice p l.length c] w λv w'=>v= .agg (gh (sumW l)).toArray/\Ext No w w':=by
 have aq:0<w.heap.size:=hg.lt zd;refine gz func181 ?_;have f:=Ext.refl No w;refine qr (gt Z λN w1 ad a A=>?_);have ae:=al f.size ad;have hg:=hg.ga A;have f:=f.gb A;refine u3 (qr (gj call207 Z (start_calls w1) ?_));rintro v2 w2⟨rfl,B⟩;have a:=a.ga B;have hg:=hg.ga B;have f:=f.gb B;refine u1 Z zc (l':=ku Aj) Z (u1 Z zc (l':=ku Aj) Z (gt Z λQ w3 R d C=>?_));have D:=j3 a.lt R;have S:=al f.size R;have a:=a.ga C;have hg:=hg.ga C;have f:=f.gb C;have t:¬One Q 0:=λe=>by have e:0=Q:=e;have:=A.size;omega
 have E:¬One Q N:=λe=>by have e:N=Q:=e;omega
 refine wl (j9 (l':=ku Aj) ge d Z Z Z Z OneC.h λw4 d F au=>?_);have a:=a.gk F D;have hg:=hg.ext F t;have f:=f.gi F S;refine u3 (qr (wl (st_mf Z (kg Z (gp (qj Z ?_))))));have av:=f;refine gj call209 Z (pad_calls w4 (h.ga f) hl) ?_;rintro v5 w5⟨bp,rfl,aw,G,s⟩;have a:=a.ga s;have hg:=hg.ga s;have f:=f.gb s;have d:=d.ga s;have ah:(zx7 l).length%64=0:=by rw[xz2];omega
 have ai:(zx7 l).length<200000000:=by rw[xz2];omega
 have T:sumW l=(Bg ua Aj (zx7 l) ((zx7 l).length/64)).flatMap λx=>be 4 x.toNat:=rfl;rw[T];generalize zx7 l=P at G ah ai|-;refine kg Z (j8 (jl (α:=Nat×Option Addr×Nat) [2,3,4] Z (λz=>[(5,.slice z.2.1 (P.drop (64*z.1)).length z.2.2)]) (λz u=>(64*z.1<=P.length/\xy u z.2.1 (P.drop (64*z.1))/\TyU u z.2.1/\(P.drop (64*z.1)).length<=z.2.2/\j0 u Q 304 (ku (Bg ua Aj P z.1))/\Seg u 0 0 (ku ua))/\j0 u N 30 (cellsOf ti30.zero)/\Ext No w u) (λz u=>(P.drop (64*z.1)).length) (0,some ⟨bp,0,none⟩,P.length) Z ⟨⟨aJ _,⟨by simp[gm],.inr ⟨bp,0,Z,G.ql⟩⟩,TyU.of G _ _,aB _,d,hg⟩,a,f⟩ ?_));rintro⟨k,q,U⟩ w6 ⟨⟨hk,V,o,J,d,hg⟩,a,f⟩;try dsimp only
 dsimp only at hk V o J d;refine gp (kw Z (jy Z (λhc=>?_) (λhc=>?_)));have aj:(P.drop (64*k)).length=P.length-64*k:=aX;have W:64<=(P.drop (64*k)).length:=by omega
 obtain⟨y,j,rfl,g⟩:∃y j,q=some ⟨y,j,none⟩/\Seg w6 y j (gh (P.drop (64*k))):=by rcases V.2 with X|h1;omega;exact h1
 have g:=g.take 64;rw[vl] at g;have Y:((P.drop (64*k)).take 64).length=64:=by rw[aH];omega
 refine Bn (yy Z (wl (Ba ge Z 0 64 64 1 Z (.inl ⟨Z,Z⟩) (.inl Z) (.inr ⟨Z,Z⟩) (aJ _) (aB _) zt ?_)));dsimp only;rw[qe];refine wl (st_sp ge Z (show 64<=64-0 from aB _) (jk Z g (by rw[gm,Y]) (gj call208 Z (into_calls w6 d (by rw[zq6];rfl) Y hg) λv7 w7⟨I,r⟩=> have a:=a.ext r E;have f:=f.gi r S;have hg:=hg.ext r t;have V:xy _ _ _:=xy.qa V o r (λb L hb e=>hb.ne d zd e);have o:=o.ext r (λb L hb e=>hb.ne d zd e);have d:=I;gl (Bi Z (wl (Ba ge Z 64 (P.drop (64*k)).length U 1 Z (.inr ⟨Z,Z⟩) (.inr ⟨Z,Z⟩) (.inl Z) W J (aB _) ?_))))));dsimp only;have e2:(P.drop (64*k)).length-64=(P.drop (64*(k+1))).length:=by simp only[aX];omega
 have K:=Sl.slice V 64 (P.drop (64*k)).length U W J (aB _);rw[bF,bF,ve,vl,cY,e2] at K;rw[show 64*k+64=64*(k+1) from Z,aN (aB _)] at K;rw[e2];exact j6 ge Z (gl (jh (k+1,ur (some ⟨y,j,none⟩) 64 U 1,U-64) Z ⟨⟨by dsimp only;omega,K,o.sub _ _ _,by dsimp only;omega,d,hg⟩,a,f⟩ (by dsimp only;simp only[aX];omega)));have aj:(P.drop (64*k)).length=P.length-64*k:=aX;have X:k=P.length/64:=by omega
 subst X;have aa:(Bg ua Aj P (P.length/64)).length=8:=by rw[zq6];rfl
 generalize Bg ua Aj P (P.length/64)=H at d aa|-;refine Bh (vo Z (qj Z (jk Z d.ql (by rw[up,aa]) (kg Z (j8 (jl (α:=Nat×Option Addr×Nat×List UInt8) [2,28] Z (λz=>[(6,.slice z.2.1 z.2.2.2.length z.2.2.1),(29,.int .i64 (z.1:Int))]) (λz u=>(z.1<=8/\xy u z.2.1 z.2.2.2/\z.2.2.2=(H.take z.1).flatMap (λx=>be 4 x.toNat))/\j0 u N 30 (cellsOf ti30.zero)/\Ext No w u) (λz u=>8-z.1) (0,none,0,[]) Z ⟨⟨by decide,Sl.nil _ _ _,by simp⟩,a,f⟩ ?_))))));rintro⟨i,q,U,O⟩ w8 ⟨⟨M,hO,m⟩,a,f⟩;dsimp only at M hO m;refine vo Z (jy Z (λhc=>?_) (λhc=>?_));have M:i<8:=by omega
 have am:=Bp H (i:=i) zk;have n:O.length=4*i:=by rw[m,xw7,aH];omega
 refine Bn (qr (wl (st_id ge Z i Z M (.inl ⟨Z,by simpa using am⟩) (kg Z (yy Z (gj call179 Z (Ad w8 hO zk _ (BitVec.isLt _)) ?_))))));rintro v9 w9⟨bo,rfl,ax,ap,ab⟩;have a:=a.ga ab;have f:=f.gb ab;refine j6 ge Z (gl (Bi Z ?_));rw[qc _ zk];exact gl (jh (i+1,some ⟨bo,0,none⟩,(O++be 4 (H[i]).toNat).length,O++be 4 (H[i]).toNat) Z ⟨⟨by dsimp only;omega,⟨by simp[gm],.inr ⟨bo,0,Z,ap.ql⟩⟩,by dsimp only;rw[aO zk,aY,m];simp⟩,a,f⟩ zm);have X:i=8:=by omega
 subst X;have n:O.length=32:=by rw[m,xw7,aH];omega
 have m:O=H.flatMap (λx=>be 4 x.toNat):=by rw[m,aN zk]
 obtain⟨y,j,rfl,g⟩:∃y j,q=some ⟨y,j,none⟩/\Seg w8 y j (gh O):=by rcases hO.2 with X|h1;omega;exact h1
 exact Bh (qj Z (wl (st_sp ge Z (Nat.le_of_eq n.symm) (jk Z g (by rw[gm,n]) (wl (j9 (l':=gh O) ge a Z Z (by rw[gm,n]) (by rw[gm,n];rfl) OneC.h λay a ac ar=> have f:=f.gi ac ae;u3 (gv (u7 [_] ⟨⟨N,0,Z,ud ge Z Z a.ql (by rw[gm,n];rfl)⟩,trivial⟩ ⟨by rw[m];rfl,f⟩))))))))
theorem turned2_calls (w:World) (x:Ak):
  gn prog 211 [xj x,.int .u64 2] w λv w'=>v=xj (rot x 2)/\w'=w:=by
 exact gz func211 (kw Z (kw Z (kw Z (gv (gy Z Z ⟨congrArg (Value.int .u32) (zq5 x 2 zd),Z⟩)))))
theorem turned6_calls (w:World) (x:Ak):
  gn prog 211 [xj x,.int .u64 6] w λv w'=>v=xj (rot x 6)/\w'=w:=by
 exact gz func211 (kw Z (kw Z (kw Z (gv (gy Z Z ⟨congrArg (Value.int .u32) (zq5 x 6 zd),Z⟩)))))
theorem turned7_calls (w:World) (x:Ak):
  gn prog 211 [xj x,.int .u64 7] w λv w'=>v=xj (rot x 7)/\w'=w:=by
 exact gz func211 (kw Z (kw Z (kw Z (gv (gy Z Z ⟨congrArg (Value.int .u32) (zq5 x 7 zd),Z⟩)))))
theorem turned11_calls (w:World) (x:Ak):
  gn prog 211 [xj x,.int .u64 11] w λv w'=>v=xj (rot x 11)/\w'=w:=by
 exact gz func211 (kw Z (kw Z (kw Z (gv (gy Z Z ⟨congrArg (Value.int .u32) (zq5 x 11 zd),Z⟩)))))
theorem turned13_calls (w:World) (x:Ak):
  gn prog 211 [xj x,.int .u64 13] w λv w'=>v=xj (rot x 13)/\w'=w:=by
 exact gz func211 (kw Z (kw Z (kw Z (gv (gy Z Z ⟨congrArg (Value.int .u32) (zq5 x 13 zd),Z⟩)))))
theorem turned17_calls (w:World) (x:Ak):
  gn prog 211 [xj x,.int .u64 17] w λv w'=>v=xj (rot x 17)/\w'=w:=by
 exact gz func211 (kw Z (kw Z (kw Z (gv (gy Z Z ⟨congrArg (Value.int .u32) (zq5 x 17 zd),Z⟩)))))
theorem turned18_calls (w:World) (x:Ak):
  gn prog 211 [xj x,.int .u64 18] w λv w'=>v=xj (rot x 18)/\w'=w:=by
 exact gz func211 (kw Z (kw Z (kw Z (gv (gy Z Z ⟨congrArg (Value.int .u32) (zq5 x 18 zd),Z⟩)))))
theorem turned19_calls (w:World) (x:Ak):
  gn prog 211 [xj x,.int .u64 19] w λv w'=>v=xj (rot x 19)/\w'=w:=by
 exact gz func211 (kw Z (kw Z (kw Z (gv (gy Z Z ⟨congrArg (Value.int .u32) (zq5 x 19 zd),Z⟩)))))
theorem turned22_calls (w:World) (x:Ak):
  gn prog 211 [xj x,.int .u64 22] w λv w'=>v=xj (rot x 22)/\w'=w:=by
 exact gz func211 (kw Z (kw Z (kw Z (gv (gy Z Z ⟨congrArg (Value.int .u32) (zq5 x 22 zd),Z⟩)))))
theorem turned25_calls (w:World) (x:Ak):
  gn prog 211 [xj x,.int .u64 25] w λv w'=>v=xj (rot x 25)/\w'=w:=by
 exact gz func211 (kw Z (kw Z (kw Z (gv (gy Z Z ⟨congrArg (Value.int .u32) (zq5 x 25 zd),Z⟩)))))
theorem known_calls (w:World):
  gn prog 183 [] w λv w'=>∃b,v= .slice (some ⟨b,0,none⟩) 64 64/\w.heap.size<=b/\j0 w' b 35 (ku ua)/\Ext No w w':=by
 refine gz func183 ?_;have a:=Ext.refl No w;refine kw Z (qr (wl (qw ge Z 1 Z Z Z zd zd zp Z λg i c d e h=>?_)));have f:=al a.size c;have a:=a.gb e;refine kg Z (gv (gy Z Z ?_));exact⟨g,Z,f,d,a⟩
theorem mix2 (x : Ak) (a b : Nat) : Do x [a, b] = rot x a ^^^ rot x b := by simp [Do]
theorem div1024 (x : Ak) : IntKind.u32.wrap ((x.toNat : Int).tdiv 1024) = ((x >>> 10).toNat : Int) := div_eq x 10
theorem div8 (x : Ak) : IntKind.u32.wrap ((x.toNat : Int).tdiv 8) = ((x >>> 3).toNat : Int) := div_eq x 3
theorem mix3 (x : Ak) (a b c : Nat) : Do x [a, b, c] = rot x a ^^^ rot x b ^^^ rot x c := by simp [Do]
theorem out_calls (w:World) {p:Option Addr} {c:Nat} {b:List UInt8} (h:xy w p b) (hb:b.length=64) (hc:64<=c):
  gn prog 210 [.slice p b.length c] w λv w'=>∃q k,v= .slice q 64 k/\Own w' q 64 k 35 1 (ku (sched b 64))/\(∀x,jb q x->w.heap.size<=x)/\Ext No w w':=by
 refine gz func210 ?_;have d:=Ext.refl No w;refine kw Z (vo Z (kw Z (j8 (jl (α:=Nat×Option Addr×Nat) [0] Z (λz=>[(3,.slice z.2.1 z.1 z.2.2),(4,.int .i64 (z.1:Int))]) (λz u=>(z.1<=64/\Own u z.2.1 z.1 z.2.2 35 1 (ku (sched b z.1))/\(∀x,jb z.2.1 x->w.heap.size<=x))/\Ext No w u) (λz u=>64-z.1) (0,none,0) Z ⟨⟨by decide,Own.nil _ _ _,λx J=>by cases J⟩,d⟩ ?_))));rintro⟨t,q,k⟩ S ⟨⟨ht,j,g⟩,d⟩;refine gp (kw Z (jy Z (λhc=>?_) (λhc=>?_)));have ht:t<64:=by omega
 refine xg (ju (α:=Option Addr×Nat) [0,4] Z (λz=>[(3,.slice z.1 (t+1) z.2)]) (λz u=>(Own u z.1 (t+1) z.2 35 1 (ku (sched b (t+1)))/\(∀x,jb z.1 x->w.heap.size<=x))/\Ext No w u) ?_ ?_);refine j8 (gp (kw Z (jy Z (λhc=>?_) (λhc=>?_))));have o:t<16:=by omega
 have f:=nextW_raw (b:=b) (l:=sched b t) (by rw[ug];exact o);rw[ug] at f;have F:((b.drop (4*t)).take 4).length=4:=by rw[aH,aX];omega
 have T:xy S (ur p (4*t) c 1) ((b.drop (4*t)).take 4):=by have e:=Sl.slice (h.ga d) (4*t) (4*t+4) c zk zk zk;rw[bF,bF,ve,vl,show 4*t+4-4*t=4 from by omega] at e;rw[xy,F];exact e
 refine qj Z ?_;rw[qc (4*(t:Int)) zk,qc _ zk];refine wl (Ba ge Z (4*t) (4*t+4) c 1 Z (.inr ⟨Z,Z⟩) (.inl (congrArg some zk)) (.inl (congrArg some zk)) zk zk (aB _) ?_);rw[show 4*t+4-4*t=((b.drop (4*t)).take 4).length from by rw[F];omega];refine gj call113 Z (number_calls S T (by rw[F];decide)) ?_;rintro v2 w2⟨rfl,rfl⟩;refine j6 ge Z ?_;rw[w_wrap,<-f];refine wl (qw ge Z 1 Z Z Z zd zd zp Z λK w3 ai r L an=>?_);have j:=j.ext L λ_ _=>id;have d:=d.gb L;have r:j0 w3 K 35 (ku [nextW b (sched b t)]):=r;have s:=d;refine wl (vt ge Z 1 4 Z Z Z zd j (Src.slice (m:=1) ⟨Z,.inr ⟨K,0,Z,r.ql⟩⟩ OneC.h) zn zt λV c4 w4 W X Y=>?_);have d:=s.trans X λy hy I=>by have:=g y I;omega
 have A:∀x,jb V x->w.heap.size<=x:=λx J=>(Y x J).elim (λh=>g x h) λh=>al s.size h;have G:Own w4 V (t+1) c4 35 1 (ku (sched b (t+1))):=by rw[sched,wordsV_append];exact W
 exact kg Z (xt (qs (ux (j2 (V,c4) Z ⟨⟨G,A⟩,d⟩))));have o:¬t<16:=by omega
 have f:=nextW_mix (b:=b) (l:=sched b t) (by rw[ug];exact o);rw[ug] at f;obtain⟨M,rfl,n⟩:∃M,q=some ⟨M,0,none⟩/\Seg S M 0 (ku (sched b t)):=by rcases j with⟨_,h0,_⟩|⟨M,l,h1,h2,_,_,_,h3⟩;omega;refine⟨M,h1,?_⟩;rw[<-h3];exact h2.ql.take _
 have aa:(Do ((sched b t).getD (t-2) 0) [17,19]^^^(sched b t).getD (t-2) 0>>>10)+(sched b t).getD (t-7) 0+(Do ((sched b t).getD (t-15) 0) [7,18]^^^(sched b t).getD (t-15) 0>>>3)+(sched b t).getD (t-16) 0=nextW b (sched b t):=by rw[f];ac_rfl
 refine xg (gp (ke Z 12 [qP 0,qP 1,qP 2,qP 3,qP 4,qP 5,qP 6,qP 7,qP 8,qP 9,qP 10,qP 11] [] (No) zf λw5 E ap=>?_));have a:=n;have j:=j.ext E λ_ _=>id;have n:=n.ga E;have d:=d.gb E;have hC:Ext (No) _ w5:=E.no;refine gw ge 3 Z ?_;rw[qc _ zk];refine u0 ge Z Z 1 Z (t-2) zk zk (0+(t-2)) zk (j5 ge Z Z (λw' i=>(a.ga i) (t-2) _ (Cm _ (by rw[ug];omega))) (gw ge 3 Z ?_));rw[qc _ zk];refine u0 ge Z Z 1 Z (t-15) zk zk (0+(t-15)) zk (j5 ge Z Z (λw' i=>(a.ga i) (t-15) _ (Cm _ (by rw[ug];omega))) (gw ge 2 Z (js (ja (jq (qj Z (gj call211 Z (turned17_calls w5 _) ?_)))))));rintro v6 w6⟨rfl,rfl⟩;refine j6 ge Z (gj call211 Z (turned19_calls w6 _) ?_);rintro v7 w7⟨rfl,rfl⟩;refine j6 ge Z ?_;rw[yj4,div1024,yj4,<-mix2];refine u3 (qj Z (gj call211 Z (turned7_calls w7 _) ?_));rintro v8 w8⟨rfl,rfl⟩;refine j6 ge Z (gj call211 Z (turned18_calls w8 _) ?_);rintro v9 w9⟨rfl,rfl⟩;refine j6 ge Z ?_;rw[yj4,div8,yj4,<-mix2];refine u3 (ke Z 17 [qP 0,qP 1,qP 2,qP 3,qP 4,qP 5,qP 6,qP 7,qP 8,qP 9,qP 10,qP 11,qP 12,qP 13,qP 14,qP 15,(16,false)] [17,18] (No) zf λaf B aj=>?_);have a:=n;have j:=j.ext B λ_ _=>id;have d:=d.gb B;have hC:Ext (No) _ af:=B.no;refine gw ge 5 Z ?_;rw[qc _ zk];refine u0 ge Z Z 1 Z (t-7) zk zk (0+(t-7)) zk (j5 ge Z Z (λw' i=>(a.ga i) (t-7) _ (Cm _ (by rw[ug];omega))) (gw ge 6 Z ?_));rw[qc _ zk];refine u0 ge Z Z 1 Z (t-16) zk zk (0+(t-16)) zk (j5 ge Z Z (λw' i=>(a.ga i) (t-16) _ (Cm _ (by rw[ug];omega))) (gw ge 1 Z ?_));rw[C1,C1,C1,aa];refine jv Z (qw ge Z 1 Z Z Z zd zd zp Z λN ag ak C D am=>⟨hC.gb D,?_⟩);have j:=j.ext D λ_ _=>id;have d:=d.gb D;have C:j0 ag N 35 (ku [nextW b (sched b t)]):=C;refine js (have s:=d;wb Z (vt ge Z 1 4 Z Z Z zd j (Src.slice (m:=1) ⟨Z,.inr ⟨N,0,Z,C.ql⟩⟩ OneC.h) zn zt λH O ah P Q R=>?_));have d:=s.trans Q λy hy I=>by have:=g y I;omega
 have A:∀x,jb H x->w.heap.size<=x:=λx J=>(R x J).elim (λh=>g x h) λh=>al s.size h;have G:Own ah H (t+1) O 35 1 (ku (sched b (t+1))):=by rw[sched,wordsV_append];exact P
 exact wb Z (zz3 ge Z Z Z (ja (jr (j2 (H,O) Z ⟨⟨G,A⟩,d⟩))));rintro⟨q,k⟩ aq ⟨⟨j,g⟩,d⟩;refine yy Z ?_;rw[qc _ zk];exact gl (jh (t+1,q,k) Z ⟨⟨by dsimp only;omega,j,g⟩,d⟩ zm);have h0:t=64:=by omega
 subst h0;exact Bh (kw Z (gv (gy Z Z ⟨q,k,Z,j,g,d⟩)))
theorem ch_eq (e f g:Ak):(e&&&f||| ~~~e&&&g)=g^^^(e&&&(f^^^g)):=by
 apply BitVec.eq_of_getLsbD_eq;intro i a;simp only[BitVec.getLsbD_or,BitVec.getLsbD_and,BitVec.getLsbD_xor,BitVec.getLsbD_not,a,decide_true,Bool.true_and];cases e.getLsbD i<;>cases f.getLsbD i<;>cases g.getLsbD i<;>rfl
theorem maj_eq (a b c:Ak):(a&&&b|||a&&&c|||b&&&c)=(a&&&b|||c&&&(a|||b)):=by
 apply BitVec.eq_of_getLsbD_eq;intro i d;simp only[BitVec.getLsbD_or,BitVec.getLsbD_and];cases a.getLsbD i<;>cases b.getLsbD i<;>cases c.getLsbD i<;>rfl
theorem refInto_calls (w:World) {h:List Ak} (hl:h.length=8) {p:Option Addr} {c:Nat} {b:List UInt8} (hsb:xy w p b) (hb:b.length=64) (hc:64<=c) {kb:Nat} {d:Nat} (hk:Seg w kb 0 (ku ua)):
  gn prog 184 [.agg (ku h).toArray,.slice p b.length c,.slice (some ⟨kb,0,none⟩) 64 d] w λv w'=>v= .agg (ku (intoW ua h b)).toArray/\Ext No w w':=by
 have bc:=hk.lt zd;refine gz func184 ?_;have m:=Ext.refl No w;refine qr (gt Z λb3 w1 ai f aa=>?_);have aj:=al m.size ai;have hk:=hk.ga aa;have m:=m.gb aa;have f:j0 w1 b3 276 (ku h):=f;refine gt Z λb6 w2 ab g T=>?_;have U:=j3 f.lt ab;have ak:=al m.size ab;have f:=f.ga T;have hk:=hk.ga T;have m:=m.gb T;refine u3 (qj Z (gj call210 Z (out_calls w2 (hsb.ga m) hb hc) ?_));rintro v3 w3⟨q,kq,rfl,hq,bd,H⟩;have f:=f.ga H;have g:=g.ga H;have hk:=hk.ga H;have m:=m.gb H;obtain⟨K,rfl,j⟩:∃K,q=some ⟨K,0,none⟩/\Seg w3 K 0 (ku (sched b 64)):=by rcases hq with⟨_,h0,_⟩|⟨K,l,h1,h2,_,_,_,h3⟩;omega;refine⟨K,h1,?_⟩;rw[<-h3];exact h2.ql.take _
 have ac:=ug b 64;have ay:=j.lt (by intro e;have e:=congrArg List.length e;rw[up,ac] at e;cases e);have hi:intoW ua h b=List.zipWith (·+·) h (B5 h ua (sched b 64) 64):=rfl;rw[hi];generalize sched b 64=W at ac j|-;refine kg Z (qr (jf f Z (by rw[up,hl]) (gt Z λV w4 X a B=>?_)));have s:=j3 f.lt X;have C:=j3 g.lt X;have ad:=al m.size X;have f:=f.ga B;have g:=g.ga B;have hk:=hk.ga B;have j:=j.ga B;have m:=m.gb B;have M:¬One V kb:=λe=>by have e:kb=V:=e;omega
 have N:¬One V K:=λe=>by have e:K=V:=e;omega
 refine wl (j9 (l':=ku h) ge a Z Z (by rw[up,hl]) (by rw[up,hl];rfl) OneC.h λw5 a D bf=> have f:=f.gk D s;have g:=g.gk D C;have hk:=hk.ext D M;have j:=j.ext D N;have m:=m.gi D ad;u3 (gp (kw Z (j8 (jl (α:=Nat) [2,3,6,7,8] Z (λz=>[(9,.int .i64 (z:Int))]) (λz u=>(z<=64/\Seg u K 0 (ku W)/\Seg u kb 0 (ku ua))/\j0 u b3 276 (ku h)/\j0 u b6 276 (cellsOf ti276.zero)/\j0 u V 276 (ku (B5 h ua W z))/\Ext No w u) (λz u=>64-z) (0) Z ⟨⟨by decide,j,hk⟩,f,g,a,m⟩ ?_)))));rintro t w6 ⟨⟨ht,j,hk⟩,f,g,a,m⟩;refine gp (kw Z (jy Z (λhc=>?_) (λhc=>?_)));have ht:t<64:=by omega
 obtain⟨O,I,a2,a3,F,a5,G,a7,h8⟩:=eight (l:=B5 h ua W t) (by rw[zj9,hl]);rw[h8] at a;have hW:=Cm W (i:=t) zk;have an:=Cm ua (i:=t) ht;refine Bn (qr (ki Z 1 Z 4 Z zd 4 Z (jd a Z Z (kg Z (gp (ke Z 33 [qP 0,qP 1,qP 2,qP 4,qP 7,qP 11,qP 12,qP 13,qP 14,qP 15,qP 16,qP 17,qP 18,qP 19,qP 20,qP 22,qP 23,qP 24,qP 25,qP 27,qP 28,qP 29,qP 30,(3,false),(5,false),qP 6,(8,false),qP 9,qP 10,qP 21,qP 26,qP 31,qP 32] [] (No) zf λw7 x bg=> have o:=a;have ap:=hk;have Y:=j;have f:=f.ga x;have g:=g.ga x;have a:=a.ga x;have hk:=hk.ga x;have j:=j.ga x;have m:=m.gb x;have y:Ext (No) _ w7:=x.no;u0 ge Z Z 1 Z 7 Z zd 7 Z (j5 ge Z Z (λw' k=>(o.ga k).cell Z) (gw ge 4 Z (u0 ge Z Z 1 Z 5 Z zd 5 Z (j5 ge Z Z (λw' k=>(o.ga k).cell Z) (gw ge 3 Z (u0 ge Z Z 1 Z 6 Z zd 6 Z (j5 ge Z Z (λw' k=>(o.ga k).cell Z) (gw ge 4 Z (u0 ge Z Z 1 Z t Z ht (0+t) zk (j5 ge Z Z (λw' k=>(ap.ga k) t _ an) (gw ge 2 Z (u0 ge Z Z 1 Z t Z ht (0+t) zk (j5 ge Z Z (λw' k=>(Y.ga k) t _ hW) (jv Z (j7 call211 Z (turned6_calls w7 _) λv8 w8 ae=>⟨(by obtain⟨rfl,rfl⟩:=ae;exact y),?_⟩)))))))))))))))))))));obtain⟨rfl,rfl⟩:=ae;have y:=y;refine jv Z (j7 call211 Z (turned11_calls w8 _) λv9 w9 af=>⟨(by obtain⟨rfl,rfl⟩:=af;exact y),?_⟩);obtain⟨rfl,rfl⟩:=af;have y:=y;refine gw ge 1 Z (jv Z (j7 call211 Z (turned25_calls w9 _) λbh bi P=>⟨(by obtain⟨rfl,rfl⟩:=P;exact y),?_⟩));obtain⟨rfl,rfl⟩:=P;refine gw ge 5 Z ?_;rw[yj4,yj4,w_not,w_and,w_and,w_or,C1,C1,C1,C1,<-mix3,ch_eq];refine gw ge 1 Z (js (ja (jq (qr (ki Z 1 Z 0 Z zd 0 Z (jd a Z Z (kg Z (gp (ke Z 25 [qP 0,qP 2,qP 5,qP 8,qP 9,qP 10,qP 11,qP 12,qP 13,qP 14,qP 15,qP 16,qP 17,qP 18,qP 19,qP 20,qP 21,qP 22,(1,false),(3,false),qP 4,(6,false),qP 7,qP 23,qP 24] [] (No) zf λag n az=> have o:=a;have f:=f.ga n;have g:=g.ga n;have a:=a.ga n;have hk:=hk.ga n;have j:=j.ga n;have m:=m.gb n;have y:Ext (No) _ ag:=n.no;gw ge 4 Z (u0 ge Z Z 1 Z 1 Z zd 1 Z (j5 ge Z Z (λw' k=>(o.ga k).cell Z) (gw ge 2 Z (u0 ge Z Z 1 Z 2 Z zd 2 Z (j5 ge Z Z (λw' k=>(o.ga k).cell Z) (gw ge 2 Z (u0 ge Z Z 1 Z 1 Z zd 1 Z (j5 ge Z Z (λw' k=>(o.ga k).cell Z) (u0 ge Z Z 1 Z 2 Z zd 2 Z (j5 ge Z Z (λw' k=>(o.ga k).cell Z) (gw ge 2 Z (jv Z (j7 call211 Z (turned2_calls ag _) λbj aq Q=>⟨(by obtain⟨rfl,rfl⟩:=Q;exact y),?_⟩))))))))))))))))))))));obtain⟨rfl,rfl⟩:=Q;have y:=y;refine jv Z (j7 call211 Z (turned13_calls aq _) λbk ar R=>⟨(by obtain⟨rfl,rfl⟩:=R;exact y),?_⟩);obtain⟨rfl,rfl⟩:=R;have y:=y;refine gw ge 1 Z (jv Z (j7 call211 Z (turned22_calls ar _) λbm bn S=>⟨(by obtain⟨rfl,rfl⟩:=S;exact y),?_⟩));obtain⟨rfl,rfl⟩:=S;refine gw ge 2 Z ?_;rw[yj4,yj4,w_and,w_and,w_and,w_or,w_or,C1,<-mix3,maj_eq];refine gw ge 1 Z (js (ja (jq (yy Z ?_))));rw[C1];refine ki Z 1 Z 0 Z zd 0 Z (jd a Z Z (ki Z 1 Z 1 Z zd 1 Z (jd a Z Z (ki Z 1 Z 2 Z zd 2 Z (jd a Z Z (ki Z 1 Z 3 Z zd 3 Z (jd a Z Z (j6 ge Z ?_))))))));rw[C1];refine ki Z 1 Z 4 Z zd 4 Z (jd a Z Z (ki Z 1 Z 5 Z zd 5 Z (jd a Z Z (ki Z 1 Z 6 Z zd 6 Z (jd a Z Z (u1 Z zc (l':=ku [(a7+Do F [6,11,25]+(G^^^(F&&&(a5^^^G)))+ua.getD t 0+W.getD t 0)+(Do O [2,13,22]+((O&&&I)|||(a2&&&(O|||I)))),O,I,a2,a3+(a7+Do F [6,11,25]+(G^^^(F&&&(a5^^^G)))+ua.getD t 0+W.getD t 0),F,a5,G]) Z (wl (j9 (l':=ku [(a7+Do F [6,11,25]+(G^^^(F&&&(a5^^^G)))+ua.getD t 0+W.getD t 0)+(Do O [2,13,22]+((O&&&I)|||(a2&&&(O|||I)))),O,I,a2,a3+(a7+Do F [6,11,25]+(G^^^(F&&&(a5^^^G)))+ua.getD t 0+W.getD t 0),F,a5,G]) ge a rfl rfl rfl rfl OneC.h λau a r a8=>?_))))))));have f:=f.gk r s;have g:=g.gk r C;have hk:=hk.ext r M;have j:=j.ext r N;have m:=m.gi r ad;have a:j0 au V 276 (ku (B5 h ua W (t+1))):=by rw[B5,h8];exact a
 refine gl (Bi Z ?_);rw[qc _ zk];exact gl (jh (t+1) Z ⟨⟨by omega,j,hk⟩,f,g,a,m⟩ zm);have h0:t=64:=by omega
 subst h0;have av:(B5 h ua W 64).length=8:=by rw[zj9,hl]
 generalize B5 h ua W 64=L at a av|-;refine Bh (gp (kw Z (j8 (jl (α:=Nat) [3,6,8] Z (λz=>[(14,.int .i64 (z:Int))]) (λz u=>(z<=8)/\j0 u b3 276 (ku (List.zipWith (·+·) (h.take z) (L.take z)++h.drop z))/\j0 u b6 276 (cellsOf ti276.zero)/\j0 u V 276 (ku L)/\Ext No w u) (λz u=>8-z) (0) Z ⟨by decide,f,g,a,m⟩ ?_))));rintro i bp ⟨J,f,g,a,m⟩;refine gp (kw Z (jy Z (λhc=>?_) (λhc=>?_)));have J:i<8:=by omega
 have h1:i<h.length:=by omega
 have h2:i<L.length:=by omega
 have aw:=Bp L h2;refine Bn (ke Z 9 [qP 0,qP 1,qP 2,qP 3,qP 4,qP 5,qP 6,qP 7,qP 8] [9] (No) zf λbr A a9=> have ax:=f;have o:=a;have f:=f.ga A;have g:=g.ga A;have a:=a.ga A;have m:=m.gb A;gw ge 2 Z (u0 ge Z Z 1 Z i Z J (0+i*1) Z (j5 ge Z Z (λw' k=>(ax.ga k).cell (i:=0+i*1) (v:=xj h[i]) (zip_at h1 h2)) (gw ge 1 Z (u0 ge Z Z 1 Z i Z J (0+i) zk (j5 ge Z Z (λw' k=>(o.ga k).cell (i:=0+i) (v:=xj L[i]) (by rw[aV];exact aw)) (gw ge 1 Z ?_)))))));rw[C1];refine u0 ge Z Z 1 Z i Z J (0+i*1) Z (js (wb Z (un ge f Z Z (by rw[up,ao,List.length_zipWith,aH,aH,aX];omega) λbs f E ba=>?_)));have g:=g.gk E U.symm;have a:=a.gk E s.symm;have m:=m.gi E aj;rw[zip_set h1 h2] at f;refine ja (Bi Z ?_);rw[qc _ zk];exact gl (jh (i+1) Z ⟨by omega,f,g,a,m⟩ zm);have h0:i=8:=by omega
 subst h0;have e1:h.take 8=h:=aN zk;have e2:L.take 8=L:=aN zk;have e3:h.drop 8=[]:=aW zk;rw[e1,e2,e3,bE] at f;have hZ:(ku (List.zipWith (·+·) h L)).length=8:=by rw[up,List.length_zipWith];omega
 exact Bh (qr (jf f Z hZ (wl (j9 (l':=ku (List.zipWith (·+·) h L)) ge g Z Z hZ (by rw[hZ];rfl) OneC.h λbt g ah bb=> have m:=m.gi ah ak;u3 (gv (u7 [_] ⟨⟨b6,0,Z,ud ge Z Z g.ql (by rw[hZ];rfl)⟩,trivial⟩ ⟨Z,m⟩))))))
def padJ (l : List UInt8) (j : Nat) : List UInt8 := l ++ (128 :: List.replicate j 0)
theorem padJ_len (l : List UInt8) (j : Nat) : (padJ l j).length = l.length + 1 + j := by simp [padJ]; omega
theorem padJ_succ (l : List UInt8) (j : Nat) : padJ l (j + 1) = padJ l j ++ [0] := by rw [padJ, List.replicate_succ', padJ]; simp
theorem refPad_calls (w:World) {p:Option Addr} {c:Nat} {l:List UInt8} (h:xy w p l) (hl:l.length<100000000):
  gn prog 182 [.slice p l.length c] w λv w'=>∃q k,v= .slice q (zx7 l).length k/\Own w' q (zx7 l).length k 5 1 (gh (zx7 l))/\(∀b,jb q b->w.heap.size<=b)/\Ext No w w':=by
 obtain⟨K,hK⟩:∃K,K=(l.length+72)/64*64-8-(l.length+1):=⟨_,Z⟩
 have n:padJ l K++be 8 (8*l.length)=zx7 l:=by rw[zx7,<-hK,padJ];simp
 refine gz func182 ?_;have a:=Ext.refl No w;refine kw Z (qj Z (wl (qw ge Z 1 Z Z Z zd zd zp Z λT U aa g D ab=>?_)));have a:=a.gb D;have g:j0 U T 5 (gh [128]):=g;have i:=a;refine gj call97 Z (xq0 U (m:=[128]) (h.ga a) ⟨Z,.inr ⟨T,0,Z,g.ql⟩⟩ zk zd) ?_;rintro v2 w2⟨q,k,rfl,f,d,F⟩;have a:=a.gb F;have d:∀x,jb q x->w.heap.size<=x:=λx G=>al i.size (d x G);refine kg Z (gp (j8 (jl (α:=Nat×Option Addr×Nat) [0] Z (λz=>[(3,.slice z.2.1 (padJ l z.1).length z.2.2)]) (λz u=>(z.1<=K/\Own u z.2.1 (padJ l z.1).length z.2.2 5 1 (gh (padJ l z.1))/\(∀x,jb z.2.1 x->w.heap.size<=x))/\Ext No w u) (λz u=>K-z.1) (0,q,k) Z ⟨⟨aJ _,f,d⟩,a⟩ ?_)));rintro⟨j,q,k⟩ w3 ⟨⟨hj,f,d⟩,a⟩;try dsimp only
 dsimp only at hj f d;have ac:=padJ_len l j;have e8:(IntKind.i64.wrap (((padJ l j).length:Int)+8)).tmod 64=(((l.length+9+j)%64:Nat):Int):=by rw[qc _ zk,Int.tmod_eq_emod_of_nonneg zk];omega
 refine gp (qj Z ?_);rw[e8];refine kg Z (jy Z (λhc=>?_) (λhc=>?_));have ad:j<K:=by omega
 refine xg (j8 (yy Z (wl (qw ge Z 1 Z Z Z zd zd zp Z λo w4 V e s ae=>?_))));have f:=f.ext s λ_ _=>id;have a:=a.gb s;have e:j0 w4 o 5 (gh [0]):=e;have t:=a;refine wl (vt ge Z 1 1 Z Z Z zd f (Src.slice (m:=1) ⟨Z,.inr ⟨o,0,Z,e.ql⟩⟩ OneC.h) zn zt λH W w5 J L M=>?_);have a:=t.trans L λy hy hF=>by have:=d y hF;omega
 have A:∀x,jb H x->w.heap.size<=x:=λx G=>(M x G).elim (λh=>d x h) λh=>al t.size h;have e9:=padJ_succ l j;have B:(padJ l j).length+1=(padJ l (j+1)).length:=by rw[padJ_len,padJ_len];omega
 have N:Own w5 H (padJ l (j+1)).length W 5 1 (gh (padJ l (j+1))):=by rw[<-B,e9,qy];exact J
 dsimp only;rw[B];exact j6 ge Z (gl (jr (jh (j+1,H,W) Z ⟨⟨by dsimp only;omega,N,A⟩,a⟩ zm)));have h0:j=K:=by omega
 subst h0;refine Bh (qj Z ?_);rw[show IntKind.u64.wrap (IntKind.u64.wrap (l.length:Int)*8)=((8*l.length:Nat):Int) from by rw[IntWalk.u64_in (l.length:Int) zk,IntWalk.u64_in _ zk];omega];refine gj call96 Z (zj7 8 zd w3 (8*l.length) zk) ?_;rintro v6 w6⟨X,Y,rfl,P,E,C⟩;have f:=f.ext C λ_ _=>id;have a:=a.gb C;rw[show Value.slice X 8 Y= .slice X (be 8 (8*l.length)).length Y from by rw[ka]];have i:=a;refine gj call97 Z (xq0 w6 f.sl (by rw[xy,ka];exact P.sl) zk (by rw[ka];decide)) ?_;rintro v7 w7⟨r,kr,rfl,hr,R,S⟩;have a:=a.gb S;rw[n] at hr|-;exact kg Z (gv (gy Z Z ⟨r,kr,Z,hr,λb hb=>al i.size (R b hb),a⟩))
theorem flat4_get (H:List Ak) {j:Nat} (hj:j<4*H.length):(H.flatMap λx=>be 4 x.toNat)[j]? =(be 4 (H.getD (j/4) 0).toNat)[j%4]? :=by
 induction H generalizing j with
 |nil=>simp at hj
 |cons x r ih=>
  rw[cX];by_cases h4:j<4;rw[cO (by rw[ka];exact h4),Nat.div_eq_of_lt h4,Nat.mod_eq_of_lt h4];rfl;obtain⟨i,rfl⟩:∃i,j=i+4:=⟨j-4,by omega⟩
  rw[cD (by rw[ka];omega),ka,Nat.add_sub_cancel,ih (by rw[aQ] at hj;omega),Nat.add_mod_right,Nat.add_div_right _ zd];rfl
theorem bytes_set (D:List UInt8) {j n:Nat} (h1:j<D.length) (h2:j<n):(gh (D.take j++List.replicate (n-j) 0)).set (0+j*1) (yk D[j])=gh (D.take (j+1)++List.replicate (n-(j+1)) 0):=by
 have a:(D.take j).length=j:=by rw[aH];omega
 have b:n-j=(n-(j+1))+1:=by omega
 rw[aV,bF,gh,<-List.map_set,dM _ _ zk,a,Nat.sub_self,b,List.replicate_succ,List.set_cons_zero,aO h1,aM];rfl
theorem refSum_calls (w:World) {p:Option Addr} {c:Nat} {l:List UInt8} (h:xy w p l) (hl:l.length<100000000):
  gn prog 130 [.slice p l.length c] w λv w'=>v= .agg (gh (sumW l)).toArray/\Ext No w w':=by
 refine gz func130 ?_;have f:=Ext.refl No w;refine qr (gt Z λb2 w1 ag a ah=>?_);have ai:=al f.size ag;have f:=f.gb ah;refine u3 (qr (u1 Z zc (l':=ku Aj) Z (gt Z λR w2 S d T=>?_)));have y:=j3 a.lt S;have U:=al f.size S;have a:=a.ga T;have f:=f.gb T;refine wl (j9 (l':=ku Aj) ge d Z Z Z Z OneC.h λw3 d V ba=>?_);have a:=a.gk V y;have f:=f.gi V U;refine u3 (qj Z ?_);have J:=d.lt;refine gj call182 Z (refPad_calls w3 (h.ga f) hl) ?_;rintro v4 w4⟨q,kq,rfl,hq,ak,E⟩;have a:=a.ga E;have d:=d.ga E;have f:=f.gb E;have am:(zx7 l).length%64=0:=by rw[xz2];omega
 have an:(zx7 l).length<200000000:=by rw[xz2];omega
 have W:sumW l=(Bg ua Aj (zx7 l) ((zx7 l).length/64)).flatMap λx=>be 4 x.toNat:=rfl;rw[W];have X:=hq.cap;have s:xy w4 q (zx7 l):=hq.sl;have Y:∀b I,q=some ⟨b,I,none⟩->¬One R b:=λb I e hb=>by rcases hq with⟨_,Q,_⟩|⟨bq,_,h1,_⟩;rw[xz2] at Q;omega;rw[h1] at e;cases e;have:=ak b h1;omega
 generalize zx7 l=P at s am an X|-;have J:=aK J E.size;refine kg Z (qr (gj call183 Z (known_calls w4) ?_));rintro v5 w5⟨bk,rfl,bb,aq,F⟩;have a:=a.ga F;have d:=d.ga F;have s:=s.ga F;have f:=f.gb F;have m:Seg w5 bk 0 (ku ua):=aq.ql;have aa:¬One R bk:=λe=>by have e:bk=R:=e;omega
 refine kg Z (gp (kw Z (j8 (jl (α:=Nat) [2,3,4,5] Z (λz=>[(6,.int .i64 ((64*z:Nat):Int))]) (λz u=>(64*z<=P.length/\xy u q P/\Seg u bk 0 (ku ua))/\j0 u b2 30 (cellsOf ti30.zero)/\j0 u R 276 (ku (Bg ua Aj P z))/\Ext No w u) (λz u=>P.length-64*z) (0) Z ⟨⟨aJ _,s,m⟩,a,d,f⟩ ?_))));rintro k w6 ⟨⟨hk,s,m⟩,a,d,f⟩;refine gp (kw Z (jy Z (λhc=>?_) (λhc=>?_)));have a6:64*k+64<=P.length:=by omega
 have L:((P.drop (64*k)).take 64).length=64:=by rw[aH,aX];omega
 have A:(Bg ua Aj P k).length=8:=by rw[zq6];rfl
 refine Bn (ke Z 8 [qP 0,qP 1,qP 2,qP 3,qP 4,qP 5,qP 6,(7,false)] [8] (No) zf λw7 t bc=> have ar:=d;have a:=a.ga t;have d:=d.ga t;have s:=s.ga t;have m:=m.ga t;have f:=f.gb t;have hC:Ext (No) _ w7:=t.no;qu ge Z Z (λw' au=>(ar.ga au).ql) (by rw[up,A]) (gw ge 4 Z ?_));rw[qc _ zk];refine yq1 ge Z Z (64*k) (64*k+64) kq 1 Z (.inr ⟨Z,Z⟩) (.inl (congrArg some zk)) (.inl (congrArg some zk)) zk zk (aB _) ?_;rw[show 64*k+64-64*k=((P.drop (64*k)).take 64).length from by rw[L];omega];refine gw ge 1 Z ?_;have av:xy w7 (ur q (64*k) kq 1) ((P.drop (64*k)).take 64):=by have e:=Sl.slice s (64*k) (64*k+64) kq zk zk zk;rw[bF,bF,ve,vl,show 64*k+64-64*k=64 from by omega] at e;rw[xy,L];exact e
 refine jv Z (j7 call184 Z (refInto_calls w7 A (b:=(P.drop (64*k)).take 64) av L zk m) λv8 w8 ab=>⟨(by obtain⟨rfl,n⟩:=ab;exact hC.gb n),?_⟩);obtain⟨rfl,n⟩:=ab;have a:=a.ga n;have d:=d.ga n;have s:=s.ga n;have m:=m.ga n;have f:=f.gb n;refine js (wb Z (j9 (l':=ku (intoW ua (Bg ua Aj P k) ((P.drop (64*k)).take 64))) ge d Z Z (by rw[up,intoW_len,A]) (by rw[up,intoW_len,A,up,A]) OneC.h λw9 d G bd=> have a:=a.gk G y;have s:=s.ext G Y;have m:=m.ext G aa;have f:=f.gi G U;ja (Bi Z ?_)));rw[qc _ zk];exact gl (jh (k+1) Z ⟨⟨by omega,s,m⟩,a,d,f⟩ zm);have Q:k=P.length/64:=by omega
 subst Q;have aw:(Bg ua Aj P (P.length/64)).length=8:=by rw[zq6];rfl
 generalize Bg ua Aj P (P.length/64)=H at d aw|-;have ax:=xw7 H;have ac:∀j,j<4*H.length->(H.flatMap λx=>be 4 x.toNat)[j]? =(be 4 (H.getD (j/4) 0).toNat)[j%4]? :=λj=>flat4_get H;generalize(H.flatMap λx=>be 4 x.toNat)=D at ax ac|-;refine Bh (qr (gt Z λb7 ay M g B=> have N:=j3 a.lt M;have O:=j3 d.lt M;have az:=al f.size M;have a:=a.ga B;have d:=d.ga B;have f:=f.gb B;have g:j0 ay b7 30 (gh (D.take 0++List.replicate (32-0) 0)):=g;u3 (gp (kw Z (j8 (jl (α:=Nat) [2,3,7] Z (λz=>[(8,.int .i64 (z:Int))]) (λz u=>(z<=32)/\j0 u b2 30 (cellsOf ti30.zero)/\j0 u R 276 (ku H)/\j0 u b7 30 (gh (D.take z++List.replicate (32-z) 0))/\Ext No w u) (λz u=>32-z) (0) Z ⟨by decide,a,d,g,f⟩ ?_))))));rintro j a0 ⟨hj,a,d,g,f⟩;refine gp (kw Z (jy Z (λhc=>?_) (λhc=>?_)));have K:j<32:=by omega
 have ad:=ac j zk;rw[aG zk] at ad;have a1:=Cm H (i:=j/4) zk;refine Bn (yy Z ?_);rw[show IntKind.i64.wrap ((j:Int).tdiv 4)=((j/4:Nat):Int) from by rw[IntWalk.i64_quo _ _ zk];omega];refine ki Z 1 Z (j/4) Z zk (0+j/4) zk (gx Z (d.cell (i:=0+j/4) (v:=xj (H.getD (j/4) 0)) (by rw[aV];exact a1)) (j6 ge Z ?_));rw[show IntKind.u64.wrap ((H.getD (j/4) 0).toNat:Int)=((H.getD (j/4) 0).toNat:Int) from by have:=(H.getD (j/4) 0).isLt;rw[IntWalk.u64_in _ zk]];refine gj call96 Z (zj7 4 zd a0 (H.getD (j/4) 0).toNat (by have:=(H.getD (j/4) 0).isLt;omega)) ?_;rintro bf a2⟨qh,kh,rfl,a3,a7,o⟩;have a:=a.ga o;have d:=d.ga o;have g:=g.ga o;have f:=f.gb o;obtain⟨bh,rfl,a4⟩:∃bh,qh=some ⟨bh,0,none⟩/\Seg a2 bh 0 (gh (be 4 (H.getD (j/4) 0).toNat)):=by rcases a3 with⟨_,Q,_⟩|⟨bh,l,h1,h2,_,_,_,h3⟩;omega;refine⟨bh,h1,?_⟩;rw[<-h3];exact h2.ql.take _
 have a5:(gh (be 4 (H.getD (j/4) 0).toNat))[j%4]? =some (yk (D[j]'zk)):=by rw[gh,bS,<-ad];rfl
 refine j6 ge Z ?_;rw[show((j:Int).tmod 4)=((j%4:Nat):Int) from Z];refine ki Z 1 Z (j%4) Z zk (0+j%4) zk (gx Z (a4 (j%4) _ a5) (ki Z 1 Z j Z K (0+j*1) Z (wl (un ge g Z Z (by rw[gm,ao,aH,bN];omega) λbg g C a8=>?_))));have a:=a.gk C N;have d:=d.gk C O;have f:=f.gi C az;rw[bytes_set D zk K] at g;refine gl (Bi Z ?_);rw[qc _ zk];exact gl (jh (j+1) Z ⟨by omega,a,d,g,f⟩ zm);have Q:j=32:=by omega
 subst Q;have e1:D.take 32++List.replicate (32-32) 0=D:=by rw[aN zk];simp
 rw[e1] at g;have r:(gh D).length=32:=by rw[gm];omega
 exact Bh (qr (jf g Z r (wl (j9 (l':=gh D) ge a Z Z r (by rw[r];rfl) OneC.h λbi a af a9=> have f:=f.gi af ai;u3 (gv (u7 [_] ⟨⟨b2,0,Z,ud ge Z Z a.ql (by rw[r];rfl)⟩,trivial⟩ ⟨Z,f⟩))))))
end Go.Proofs.YtpdiphfjmepijaaGreatDoor
namespace Go.Vc
def vw (l : List UInt8) : ByteArray := ⟨l.toArray⟩
theorem strU_size (l : List UInt8) : (vw l).size = l.length := rfl
theorem strU_of (s : ByteArray) : vw s.data.toList = s := by obtain ⟨⟨x⟩⟩ := s; rfl
theorem Bo {a b : List UInt8} (h : vw a = vw b) : a = b := by
  have e := congrArg (λs : ByteArray => s.data.toList) h
  exact e
section
variable {P : Program} {I : uh} {f : Fs} {ops : Array Oper} {o : Oper} {env : Env} {w : World}
theorem run_b2s {p:Option Addr} {l:List UInt8} (h:xy w p l) (c:Nat):(Conv.bytesToString (.slice p l.length c)).run P w= .ok (.string (vw l)) w:=by
 unfold Conv.bytesToString;cases p with
 |none=>
  obtain⟨_,d|⟨b,e,f,_⟩⟩:=h;have:l=[]:=aU d;subst this;rfl;cases f
 |some a=>
  have g:(loadCells a l.length).run P w= .ok (gh l).toArray w:=by obtain⟨_,d|⟨b,e,f,i⟩⟩:=h;have:l=[]:=aU d;subst this;rfl;cases f;unfold loadCells;have:=x4 (P:=P) l.length 0 (gh l) #[] (by simpa using i) (gm l);simpa using this
  simp only[Sem.run_bind,g,aD]
  have j:∀(m:List UInt8) (s:ByteArray),(forIn (m:=Sem) (gh m) s λc s=>do
    match c with
    | .int .u8 n=>pure (ForInStep.yield (s.push (UInt8.ofNat n.toNat)))
    |_=>do
     stuck "bytesToString: byte expected"
     pure (ForInStep.yield s)).run P w= .ok (⟨s.data++m.toArray⟩:ByteArray) w:=by
   intro m;induction m with
   |nil=>intro s;simp[gh]
   |cons x r ih=>
    intro s;rw[show gh (x::r)=yk x::gh r from Z,List.forIn_cons];simp only[Sem.run_bind,aR,aD];rw[ih];congr 2;simp[ByteArray.push]
  rw[<-Array.forIn_toList];refine(congrArg (λr=>Result.andThen r _) (j l ByteArray.empty)).trans ?_;simp only[aD,aR];congr 2;simp[vw,ByteArray.empty,ByteArray.emptyWithCapacity];rfl
def b2sE (I : uh) (n : Nat) (ops : Array Oper) (env : Env) (o : Oper) : Option (Option Addr × Nat × Nat × Nat) :=
  match pre n ops env o with
  | false => none
  | true => match o.dst with
    | some d => match o.op with
      | .convert s t x => match z7 I s with
        | some y => match y.desc with
          | .slice e => match z7 I e with
            | some g => match g.desc with
              | .int .u8 => match z7 I t with
                | some z => match z.desc with
                  | .string => match xz env x with
                    | some (.slice p m c) => some (p, m, c, d)
                    | _ => none
                  | _ => none
                | none => none
              | _ => none
            | none => none
          | _ => none
        | none => none
      | _ => none
    | none => none
theorem ov_b2s (hI:I.Ok P) {nn m c d:Nat} {p:Option Addr} (h:b2sE I nn ops env o=some (p,m,c,d)) {l:List UInt8} (hl:m=l.length) (hs:xy w p l):
  pre nn ops env o=true/\o.dst=some d/\Ov P o env w (.string (vw l)) w:=by
 subst hl;unfold b2sE at h;split at h;cases h;rename_i n;split at h;rename_i H q;split at h;rename_i s t x r;split at h;rename_i y u;split at h;rename_i e v;split at h;rename_i g A;split at h;rename_i a;split at h;rename_i z B;split at h;rename_i b;split at h;rename_i C J f D;simp only[bJ,cR] at h;obtain⟨rfl,rfl,rfl,rfl⟩:=h;refine⟨n,q,λK E=>?_⟩;have i:=(hI.get u).under w;have j:=(hI.get B).under w;have k:=(hI.get A).under w;rw[v] at i;rw[b] at j;rw[a] at k;have F:=run_b2s (P:=P) hs f;have G:(convert s t (.slice C l.length f)).run P w= .ok (.string (vw l)) w:=by unfold convert;rw[jg i,jg j];show(underlying e>>=_).run P w=_;rw[jg k];exact F
 simp only[execOp,r,E _ _ D,Sem.run_bind,G,aD,aR];cases h;cases h;cases h;cases h;cases h;cases h;cases h;cases h;cases h
theorem yv2 (hI:I.Ok P) {K:Env->World->Prop} {m c d:Nat} {p:Option Addr} (h:b2sE I f.n ops env o=some (p,m,c,d)) {l:List UInt8} (hl:m=l.length) (hs:xy w p l)
  (k:K ((d,.string (vw l))::env) w):St P f ops o env w K:=by
 obtain⟨a,b,e⟩:=ov_b2s (w:=w) hI h hl hs;obtain⟨g,i⟩:=pre_eq a;exact yt g i e (by rw[b];exact k)
theorem wd_b2s (hI:I.Ok P) {K:Act->World->Prop} {r:Dr} {i:Nat} {pl:List (Nat×Bool)} {dn:List Nat} (ho:ops[i]? =some o) {m c d:Nat} {p:Option Addr} (h:b2sE I f.n ops env o=some (p,m,c,d)) {l:List UInt8} (hl:m=l.length) (hs:∀w',r.C w'->xy w' p l)
  (hs0:xy w p l) (k:WD P f ops K r pl (i::dn) ((d,.string (vw l))::env) w):WD P f ops K r ((i,true)::pl) dn env w:=by
 obtain⟨a,b,_⟩:=ov_b2s (w:=w) hI h hl hs0;exact wd_q ho a b (λw' e=>(ov_b2s (w:=w') hI h hl (hs w' e)).2.2) k
def eqKE (n : Nat) (ops : Array Oper) (env : Env) (o : Oper) : Option (Nat × Bool × Value × Value × Nat) :=
  match pre n ops env o with
  | false => none
  | true => match o.dst with
    | some d => match o.op with
      | .binOp op t x y _ => match xz env x with
        | some (.agg a) => match xz env y with
          | some (.agg b) => match op with
            | .eql => some (t, true, .agg a, .agg b, d)
            | .neq => some (t, false, .agg a, .agg b, d)
            | _ => none
          | _ => none
        | _ => none
      | _ => none
    | none => none
theorem ov_eqK {nn t d : Nat} {q : Bool} {a b : Value} (h : eqKE nn ops env o = some (t, q, a, b, d)) (hgd : P.eqGuardType P.depth t = false) (m : Nat) (hm : m <= 10000) (hk : P.keyTypeAt m t = true)
    {D D' : Nat} {la lb : List Lit} (fa : a.formed P t = true) (fb : b.formed P t = true) (ha : P.keyLits D t a.cells.toList = some la) (hb : P.keyLits D' t b.cells.toList = some lb) {p : Prop} [Decidable p] (hp : la = lb ↔ p) :
    pre nn ops env o = true /\ o.dst = some d /\ Ov P o env w (.bool (if q then decide p else decide (¬ p))) w := by
  unfold eqKE at h;split at h;cases h;rename_i s;split at h
  · rename_i J G
    split at h
    · rename_i K e x y u A
      split at h
      · rename_i f B
        split at h
        · rename_i g C
          have v : ∃ r : Bool, (Op.equal e (.agg f) (.agg g)).run P w = .ok r w /\ (r = true ↔ p) \/ e ≠ t \/ a ≠ .agg f \/ b ≠ .agg g := by by_cases ht : e = t /\ a = .agg f /\ b = .agg g;obtain ⟨rfl, rfl, rfl⟩ := ht;obtain ⟨r, i, l⟩ := run_equalIn_deep (P := P) (10000 - m) m e hk w D D' _ _ la lb fa fb ha hb;rw [Nat.sub_add_cancel hm] at i;exact ⟨r, .inl ⟨i, l.trans hp⟩⟩;refine ⟨true, .inr ?_⟩;by_cases i : e = t;by_cases l : a = .agg f;exact .inr (.inr λH => ht ⟨i, l, H⟩);exact .inr (.inl l);exact .inl i
          split at h
          all_goals first
            | (cases h; done)
            | (simp only [bJ, cR] at h
               obtain ⟨rfl, rfl, rfl, rfl, rfl⟩ := h
               obtain ⟨r, ⟨E, z⟩ | c | c | c⟩ := v
               · refine ⟨s, G, λL n =>?_⟩
                 have j : r = decide p := by
                   rw [Bool.eq_iff_iff, z]; simp
                 have F := run_eqGuard_agg (P := P) w (BinOp.eql) e x y f g hgd
                 have k := run_eqGuard_agg (P := P) w (BinOp.neq) e x y f g hgd
                 first
                   | (simp only [execOp, A, n _ _ B, n _ _ C, Sem.run_bind, F, k, aD, binOp, E, aR, j]; simp; done)
                   | (simp only [execOp, A, n _ _ B, n _ _ C, Sem.run_bind, F, k, aD, binOp, E, aR, j]; done)
               exact absurd Z c
               exact absurd Z c
               exact absurd Z c)
        cases h
      cases h
    cases h
  cases h
theorem yw0 {K:Env->World->Prop} {t d:Nat} {q:Bool} {a b:Value} (h:eqKE f.n ops env o=some (t,q,a,b,d)) (hgd:P.eqGuardType P.depth t=false) (m:Nat) (hm:m<=10000) (hk:P.keyTypeAt m t=true)
  {D D':Nat} {la lb:List Lit} (fa:a.formed P t=true) (fb:b.formed P t=true) (ha:P.keyLits D t a.cells.toList=some la) (hb:P.keyLits D' t b.cells.toList=some lb) {p:Prop} [Decidable p] (hp:la=lb↔p)
  (k:K ((d,.bool (if q then decide p else decide (¬p)))::env) w):St P f ops o env w K:=by
 obtain⟨c,e,g⟩:=ov_eqK (P:=P) (w:=w) h hgd m hm hk fa fb ha hb hp;obtain⟨i,j⟩:=pre_eq c;exact yt i j g (by rw[e];exact k)
end
theorem yx2 {P:Program} {f:Fs} {ops:Array Oper} {o:Oper} {env:Env} {w:World} {K:Act->World->Prop} {r:Dr} {i:Nat} {pl:List (Nat×Bool)} {dn:List Nat} (ho:ops[i]? =some o) {t d:Nat} {q:Bool} {a b:Value} (h:eqKE f.n ops env o=some (t,q,a,b,d)) (hgd:P.eqGuardType P.depth t=false) (m:Nat) (hm:m<=10000) (hk:P.keyTypeAt m t=true)
  {D D':Nat} {la lb:List Lit} (fa:a.formed P t=true) (fb:b.formed P t=true) (ha:P.keyLits D t a.cells.toList=some la) (hb:P.keyLits D' t b.cells.toList=some lb) {p:Prop} [Decidable p] (hp:la=lb↔p)
  (k:WD P f ops K r pl (i::dn) ((d,.bool (if q then decide p else decide (¬p)))::env) w):WD P f ops K r ((i,true)::pl) dn env w:=by
 obtain⟨c,e,_⟩:=ov_eqK (P:=P) (w:=w) h hgd m hm hk fa fb ha hb hp
 exact wd_q ho c e (λg _=>(ov_eqK (P:=P) (w:=g) h hgd m hm hk fa fb ha hb hp).2.2) k
theorem mapM_some {α β:Type} {f:α->Option β} {g:α->β}:∀{L:List α},(∀x∈L,f x=some (g x))->L.mapM f=some (L.map g)
 | [],_=>by simp
 |x::r,h=>by
  rw[List.mapM_cons,h x zq,mapM_some (L:=r) λy hy=>h y (by simp[hy])]
  rfl
theorem flat_single {α β:Type} (f:α->β) (L:List α):(L.map λx=>[f x]).flatten=L.map f:=by
 induction L with
 |nil=>rfl
 |cons x r ih=>rw[dI,dG,ih];rfl
def zj4 (l : List UInt8) : List Lit := l.map λb => Lit.int .u8 (b.toNat : Int)
theorem vy {a b:List UInt8}:zj4 a=zj4 b↔a=b:=by
 refine⟨λh=>(List.map_inj_right λx y e=>?_).1 h,λh=>by rw[h]⟩;simp only[Lit.int.injEq,true_and] at e;exact UInt8.toNat_inj.1 zk
theorem lits_bytes {P:Program} {d t e n:Nat} (hu:P.underlying t=some (.array n e)) (hc:P.cellsOf t=n) (he:P.underlying e=some (.int .u8)) (hce:P.cellsOf e=1) {l:List UInt8} (hl:l.length=n):P.keyLits (d+2) t (gh l)=some (zj4 l):=by
 unfold Program.keyLits;simp only[hu,hc,hce,gm,hl,cT]
 have c:∀i∈List.range n,P.keyLits (d+1) e (((gh l).drop (i*1)).take 1)=some [Lit.int .u8 ((l.getD i 0).toNat:Int)]:=by
  intro i a;have a:i<l.length:=by rw[hl];exact List.mem_range.1 a
  have b:((gh l).drop (i*1)).take 1=[yk (l.getD i 0)]:=by rw[bF,gh,<-List.map_drop,cB a,bH,aG a];rfl
  rw[b];unfold Program.keyLits;simp only[he];have:=(l.getD i 0).toNat_lt;rw[aL];refine⟨trivial,?_⟩;have b:IntKind.u8.min=0:=rfl;have f:IntKind.u8.max=255:=rfl;simp only[Lit.wf,b,f,bY,bD];omega
 rw[mapM_some c];simp only[Option.map_some,bJ];rw[<-hl];apply List.ext_getElem?;intro i;have:((List.range l.length).map λi=>[Lit.int .u8 ((l.getD i 0).toNat:Int)]).flatten=(List.range l.length).map λi=>Lit.int .u8 ((l.getD i 0).toNat:Int):=by exact flat_single _ _
 rw[this];simp only[zj4,bS];by_cases a:i<l.length;rw[aG a,aG (by simpa using a)];simp[bH,aG a];rw[bR (l:=List.range l.length) (by rw[List.length_range];omega),bR (l:=l) zk];rfl
theorem lits_str {P:Program} {d t:Nat} (hu:P.underlying t=some .string) {s:List UInt8} (hs:s.length<=maxLen):P.keyLits (d+1) t [.string (vw s)]=some [.string s]:=by
 unfold Program.keyLits;simp only[hu];exact aL hs
theorem lits_bool {P:Program} {d t:Nat} (hu:P.underlying t=some .bool) (b:Bool):P.keyLits (d+1) t [.bool b]=some [.bool b]:=by
 unfold Program.keyLits;simp only[hu]
theorem lits_struct {P : Program} {d t : Nat} {cs : List Value} {L : List (Nat × Nat)} (hu : P.underlying t = some (.struct (P.fieldsOf t))) (hn : (P.fieldsOf t).all (·.name != "_") = true) (hc : cs.length = P.cellsOf t)
  (hf:(P.fieldsOf t).toList.map (λf=>(f.type,f.offset))=L) {ls:List (List Lit)} (hm:L.mapM (λp=>P.keyLits d p.1 ((cs.drop p.2).take (P.cellsOf p.1)))=some ls):P.keyLits (d+1) t cs=some ls.flatten:=by
 unfold Program.keyLits;simp only[hu];rw[aL ⟨hc,hn⟩];subst hf
 have:(P.fieldsOf t).toList.mapM (λf=>P.keyLits d f.type ((cs.drop f.offset).take (P.cellsOf f.type)))=some ls:=by
  rw[<-hm];generalize(P.fieldsOf t).toList=fs;induction fs with
  |nil=>rfl
  |cons f fs ih=>simp only[dI,List.mapM_cons,ih]
 rw[this];rfl
abbrev Str := List UInt8
abbrev yj (l : Str) : Value := .string (vw l)
def okC (c : UInt8) : Prop := 33 <= c.toNat /\ c.toNat <= 126
instance (c : UInt8) : Decidable (okC c) := inferInstanceAs (Decidable (_ /\ _))
def B1 (l : Str) : Prop := (∀ c ∈ l, okC c) /\ 1 <= l.length /\ l.length <= 48
instance (l : Str) : Decidable (B1 l) := inferInstanceAs (Decidable (_ /\ _))
theorem pathNo {l : Str} {i : Nat} (hi : i < l.length) (h : ¬ okC l[i]) : ¬ B1 l := λhp => h (hp.1 _ (aC hi))
theorem pathIs {l:Str} (h:∀i (hi:i<l.length),okC l[i]):B1 l↔1<=l.length/\l.length<=48:=
 ⟨λa=>a.2,λb=>⟨λc d=>by obtain⟨i,hi,rfl⟩:=bG.1 d;exact h i hi,b⟩⟩
theorem allStep {α:Type} {p:α->Prop} {l:List α} {i:Nat} (h:∀k (hk:k<l.length),k<i->p l[k]) (hi:i<l.length) (h1:p l[i]):∀k (hk:k<l.length),k<i+1->p l[k]:=λk hk b=>by
 rcases bC k i with a|a
 ·exact h k hk a
 obtain rfl:k=i:=by omega
 exact h1
structure C5 where
  path : Str
  text : Str
  deriving DecidableEq
structure jn where
  path : Str
  id : List UInt8
  deriving DecidableEq
structure vb where
  path : Str
  is : Bool
  text : Str
  deriving DecidableEq
def C5.cells (r : C5) : List Value := [yj r.path, yj r.text]
def jn.cells (r : jn) : List Value := yj r.path :: gh r.id
def vb.cells (r : vb) : List Value := [yj r.path, .bool r.is, yj r.text]
theorem flat_at {α:Type} {f:α->List Value} {n:Nat}:∀{l:List α},(∀x∈l,(f x).length=n)->∀{i:Nat} (hi:i<l.length),((l.flatMap f).drop (i*n)).take n=f l[i]
 | [],_,i,hi=>absurd hi (cE _)
 |x::r,h,0,_=>by
  rw[dA,List.drop_zero,cX,bW (by rw[h x zq];exact aB _),aN (by rw[h x zq];exact aB _)]
  rfl
 |x::r,h,i+1,hi=>by
  have hx:=h x zq
  rw[cX,Nat.succ_mul,Nat.add_comm,<-cY,<-hx,List.drop_left,hx,flat_at (λy a=>h y (by simp[a])) (by simpa using hi)]
  rfl
theorem xw5 {α:Type} {f:α->List Value} {n:Nat}:∀{l:List α},(∀x∈l,(f x).length=n)->(l.flatMap f).length=l.length*n
 | [],_=>by simp
 |x::r,h=>by
  rw[cX,ao,h x zq,xw5 (λy hy=>h y (by simp[hy])),aQ,Nat.succ_mul,Nat.add_comm]
theorem Sl.rowAt {α:Type} {w:World} {p:Option Addr} {f:α->List Value} {n:Nat} {l:List α} (h:Sl w p l.length n (l.flatMap f)) (hn:∀x∈l,(f x).length=n) {i:Nat} (hi:i<l.length):
  ∃b off,p=some ⟨b,off,none⟩/\Seg w b (off+i*n) (f l[i]):=by
 obtain⟨_,d|⟨b,off,a,c⟩⟩:=h;omega;refine⟨b,off,a,?_⟩;have:=(c.drop (i*n)).take n;rw[flat_at hn hi] at this;exact this
theorem Sl.qm {α:Type} {w:World} {p:Option Addr} {f:α->List Value} {n:Nat} {l:List α} (h:Sl w p l.length n (l.flatMap f)) (hn:∀x∈l,(f x).length=n) (h0:0<l.length):
  ∃b off,p=some ⟨b,off,none⟩/\∀i (hi:i<l.length),Seg w b (off+i*n) (f l[i]):=by
 obtain⟨_,d|⟨b,off,a,c⟩⟩:=h;omega;refine⟨b,off,a,λi hi=>?_⟩;have:=(c.drop (i*n)).take n;rw[flat_at hn hi] at this;exact this
theorem C5.len (r : C5) : r.cells.length = 2 := rfl
theorem vb.len (r : vb) : r.cells.length = 3 := rfl
theorem jn.len {r : jn} (h : r.id.length = 32) : r.cells.length = 33 := by simp [jn.cells, gm, h]
instance (r : C5) : OneC r.cells := by unfold C5.cells; infer_instance
instance (r : vb) : OneC r.cells := by unfold vb.cells; infer_instance
instance (r : jn) : OneC r.cells := by unfold jn.cells; infer_instance
def xj4 (l : List Str) : Prop := l.length <= 32 /\ ∀ i (hi : i < l.length), B1 l[i] /\ (0 < i -> SLt (vw (l[i - 1]'zk)) (vw l[i]))
instance (l : List Str) : Decidable (xj4 l) := inferInstanceAs (Decidable (_ /\ _))
def RowsOk (l : List C5) : Prop := ¬ (∃ r ∈ l, 256 < r.text.length) /\ xj4 (l.map C5.path)
instance (l : List C5) : Decidable (RowsOk l) := inferInstanceAs (Decidable (_ /\ _))
theorem bl_total:∀(x y:List UInt8),(Op.bytesLess x y=true\/x=y)\/Op.bytesLess y x=true
 | [],[]=> .inl (.inr Z)
 | [],_::_=> .inl (.inl Z)
 |_::_,[]=> .inr Z
 |a::x,b::y=>by
  simp only[Op.bytesLess,Bool.or_eq_true,bY,bD,beq_iff_eq]
  rcases Nat.lt_trichotomy a.toNat b.toNat with h|h|h
  ·exact .inl (.inl (.inl (UInt8.lt_iff_toNat_lt.2 h)))
  ·obtain rfl:a=b:=UInt8.toNat_inj.1 h
   rcases bl_total x y with(c|c)|c
   ·exact .inl (.inl (.inr ⟨Z,c⟩))
   ·exact .inl (.inr (by rw[c]))
   exact .inr (.inr ⟨Z,c⟩)
  exact .inr (.inl (UInt8.lt_iff_toNat_lt.2 h))
theorem bl_asymm:∀(x y:List UInt8),Op.bytesLess x y=true->Op.bytesLess y x=true->False
 | [],[],h,_=>by cases h
 | [],_::_,_,h=>by cases h
 |_::_,[],h,_=>by cases h
 |a::x,b::y,h,k=>by
  simp only[Op.bytesLess,Bool.or_eq_true,bY,bD,beq_iff_eq] at h k
  rcases h with h|⟨rfl,h⟩
  ·rcases k with k|⟨rfl,k⟩
   ·have:=UInt8.lt_iff_toNat_lt.1 h;have:=UInt8.lt_iff_toNat_lt.1 k;omega
   have:=UInt8.lt_iff_toNat_lt.1 h;omega
  rcases k with k|⟨_,k⟩
  ·have:=UInt8.lt_iff_toNat_lt.1 k;omega
  exact bl_asymm x y h k
def RowGood (l : List C5) (i : Nat) (hi : i < l.length) : Prop := i ≠ 32 /\ B1 l[i].path /\ l[i].text.length <= 256 /\ (0 < i -> SLt (vw (l[i - 1]'zk).path) (vw l[i].path))
instance (l : List C5) (i : Nat) (hi : i < l.length) : Decidable (RowGood l i hi) := inferInstanceAs (Decidable (_ /\ _))
def ChgBad (c : vb) : Prop := 256 < c.text.length \/ c.is = false /\ c.text ≠ []
instance (c : vb) : Decidable (ChgBad c) := inferInstanceAs (Decidable (_ \/ _))
def EditOk (l : List vb) : Prop := ¬ (∃ r ∈ l, ChgBad r) /\ xj4 (l.map vb.path)
instance (l : List vb) : Decidable (EditOk l) := inferInstanceAs (Decidable (_ /\ _))
def ChgGood (l : List vb) (i : Nat) (hi : i < l.length) : Prop := i ≠ 32 /\ B1 l[i].path /\ ¬ ChgBad l[i] /\ (0 < i -> SLt (vw (l[i - 1]'zk).path) (vw l[i].path))
instance (l : List vb) (i : Nat) (hi : i < l.length) : Decidable (ChgGood l i hi) := inferInstanceAs (Decidable (_ /\ _))
end Go.Vc
namespace Go.Proofs.YtpdiphfjmepijaaGreatDoor
open Go.Proofs.Tryz
open Go.Vc
theorem path_calls (w:World) (l:Str) (hl:l.length<1000000000):
  gn prog 243 [yj l] w λv w'=>v= .bool (decide (B1 l))/\w'=w:=by
 have q:(vw l).size=l.length:=rfl;refine gz func243 ?_;have g:=Ext.refl No w;refine vo Z (kw Z (j8 (jl (α:=Nat) [0,5] Z (λz=>[(6,.int .i64 (z:Int))]) (λz u=>((z<=l.length/\∀k (o:k<l.length),k<z->okC l[k])/\u=w)/\Ext No w u) (λz u=>l.length-z) (0) Z ⟨⟨⟨aJ _,λk _ h=>absurd h (cE _)⟩,Z⟩,g⟩ ?_)));rintro i p ⟨⟨⟨f,b⟩,rfl⟩,g⟩;refine vo Z (jy Z (λc=>?_) (λc=>?_));have f:i<l.length:=by omega
 have d:(vw l).data.toList[i]? =some l[i]:=aG f;refine Bn (kw Z (ju (α:=Bool) [0,5,6] Z (λz=>[(18,.bool z)]) (λz u=>u=p/\z=decide (¬okC l[i])) ?_ ?_));refine j1 (j6 ge Z (wl (st_is ge Z i Z d (j6 ge Z (jw 13 Z (λj=>?_) (λj=>?_))))));exact j4 ge 5 Z (gl (j2 (true) Z ⟨Z,by symm;rw[bD];intro h;have:=h.1;omega⟩));exact j4 ge 2 Z (wl (st_is ge Z i Z d (j4 ge 2 Z (gl (j2 (_) Z ⟨Z,by rw[aP];unfold okC;omega⟩)))));rintro z r ⟨a,rfl⟩;have a:=a.symm;subst a;refine jy Z (λc=>?_) (λc=>?_);have m:=pathNo f c;exact kw Z (gv (jt (gu (gu (jt (gu (gy Z Z ⟨by rw[decide_eq_false m],Z⟩)))))));have n:okC l[i]:=aT.1 c;refine qf (Bi Z ?_);rw[qc _ zk];exact gl (jh (i+1) Z ⟨⟨⟨by omega,allStep b f n⟩,Z⟩,g⟩ zm);have e:=pathIs (l:=l) λk o=>b k o zk;refine Bh (ju (α:=Bool) [] Z (λz=>[(2,.bool z)]) (λz u=>u=p/\z=decide (1<=l.length/\l.length<=48)) ?_ ?_);refine j1 (j6 ge Z (jw 23 Z (λj=>?_) (λj=>?_)));exact j4 ge 5 Z (gl (j2 (_) Z ⟨Z,by rw[aP];omega⟩));exact j4 ge 5 Z (gl (j2 (_) Z ⟨Z,by symm;rw[aE];omega⟩));rintro z s ⟨a,rfl⟩;have a:=a.symm;subst a;exact gv (gy Z Z ⟨by rw[aP.2 e],Z⟩)
theorem rowPath_calls (w:World) (r:C5):
  gn prog 239 [.agg r.cells.toArray] w λv w'=>v=yj r.path/\Ext No w w':=by
 exact gz func239 (have b:=Ext.refl No w;qr (gt Z λd e f a c=> have b:=b.gb c;have a:j0 e d 321 (r.cells):=a;kg Z (qj Z (jd a Z Z (kg Z (gv (gy Z Z ⟨Z,b⟩)))))))
theorem changePath_calls (w:World) (r:vb):
  gn prog 229 [.agg r.cells.toArray] w λv w'=>v=yj r.path/\Ext No w w':=by
 exact gz func229 (have b:=Ext.refl No w;qr (gt Z λd e f a c=> have b:=b.gb c;have a:j0 e d 150 (r.cells):=a;kg Z (qj Z (jd a Z Z (kg Z (gv (gy Z Z ⟨Z,b⟩)))))))
theorem check1_calls (w:World) (r:C5):
  gn prog 238 [.agg r.cells.toArray] w λv w'=>v= .bool (decide (256<r.text.length))/\Ext No w w':=by
 refine gz func238 ?_;have b:=Ext.refl No w;refine qr (gt Z λd e f a c=>?_);have b:=b.gb c;have a:j0 e d 321 (r.cells):=a;refine kg Z (qj Z (jd a Z Z (kg Z (gv (gy Z Z ?_)))));exact⟨congrArg Value.bool (aP.2 (by have:(vw r.text).size=r.text.length:=rfl;omega)),b⟩
theorem indexFuncRow_calls (w:World) {p:Option Addr} {c G:Nat} {l:List C5} (h:Sl w p l.length 2 (l.flatMap C5.cells)) (hl:l.length<1000000000) (Q:C5->Prop) [DecidablePred Q]
  (hcf:∀args w,(callFunc G args).run prog w= .ok (.enter G args) w) (hQ:∀w (r:C5),r.cells.length=2->gn prog G [.agg r.cells.toArray] w λv w'=>v= .bool (decide (Q r))/\Ext No w w'):
  gn prog 246 [.slice p l.length c,.func (.func G) #[] #[]] w λv w'=>∃n:Int,v= .int .i64 n/\(0<=n↔∃r∈l,Q r)/\Ext No w w':=by
 refine gz func246 ?_;have a:=Ext.refl No w;refine vo Z (kw Z (j8 (jl (α:=Nat) [0,1,7] Z (λz=>[(8,.int .i64 (z:Int))]) (λz u=>(z<=l.length/\∀k (s:k<l.length),k<z->¬Q l[k])/\Ext No w u) (λz u=>l.length-z) (0) Z ⟨⟨aJ _,λk _ h=>absurd h (cE _)⟩,a⟩ ?_)));rintro i t ⟨⟨j,d⟩,a⟩;refine vo Z (jy Z (λe=>?_) (λe=>?_));have j:i<l.length:=by omega
 obtain⟨b,m,rfl,f⟩:=(h.ga a).rowAt (λr _=>r.len) j;refine Bn (kw Z (qj Z (ki Z 2 Z i Z zk (m+i*2) Z (jk Z f Z (gj hcf Z (hQ t l[i] Z) ?_)))));rintro B C⟨rfl,q⟩;have a:=a.gb q;refine u3 (jy Z (λe=>?_) (λe=>?_));exact gp (j1 (kg Z (gv (jt (gu (gu (jt (gu (gy Z Z ⟨_,Z,⟨λ_=>⟨_,aC j,e⟩,λ_=>cF _⟩,a⟩)))))))));refine qf (Bi Z ?_);rw[qc _ zk];exact gl (jh (i+1) Z ⟨⟨by omega,allStep (p:=λx=>¬Q x) d j e⟩,a⟩ zm);have g:¬∃r∈l,Q r:=λ⟨r,y,A⟩=>by obtain⟨k,s,rfl⟩:=bG.1 y;exact d k s zk A
 exact Bh (kw Z (gv (gy Z Z ⟨_,Z,⟨λh=>absurd h zd,λh=>absurd h g⟩,a⟩)))
theorem xx3 (w:World) {p:Option Addr} {c G:Nat} {l:List C5} (h:Sl w p l.length 2 (l.flatMap C5.cells)) (hl:l.length<1000000000) (Q:C5->Prop) [DecidablePred Q]
  (hcf:∀args w,(callFunc G args).run prog w= .ok (.enter G args) w) (hQ:∀w (r:C5),r.cells.length=2->gn prog G [.agg r.cells.toArray] w λv w'=>v= .bool (decide (Q r))/\Ext No w w'):
  gn prog 237 [.slice p l.length c,.func (.func G) #[] #[]] w λv w'=>v= .bool (decide (∃r∈l,Q r))/\Ext No w w':=by
 refine gz func237 ?_;have a:=Ext.refl No w;refine kw Z (qj Z (gj call246 Z (indexFuncRow_calls w (h.ga a) hl Q hcf hQ) ?_));rintro f g⟨n,rfl,d,e⟩;have a:=a.gb e;refine kg Z (gv (gy Z Z ?_));exact⟨congrArg Value.bool (aP.2 d),a⟩
theorem xx6 (w:World) {p:Option Addr} {c G:Nat} {l:List vb} (h:Sl w p l.length 3 (l.flatMap vb.cells)) (hl:l.length<1000000000) (Q:vb->Prop) [DecidablePred Q]
  (hcf:∀args w,(callFunc G args).run prog w= .ok (.enter G args) w) (hQ:∀w (r:vb),r.cells.length=3->gn prog G [.agg r.cells.toArray] w λv w'=>v= .bool (decide (Q r))/\Ext No w w'):
  gn prog 242 [.slice p l.length c,.func (.func G) #[] #[]] w λv w'=>∃n:Int,v= .int .i64 n/\(0<=n↔∃r∈l,Q r)/\Ext No w w':=by
 refine gz func242 ?_;have a:=Ext.refl No w;refine vo Z (kw Z (j8 (jl (α:=Nat) [0,1,7] Z (λz=>[(8,.int .i64 (z:Int))]) (λz u=>(z<=l.length/\∀k (s:k<l.length),k<z->¬Q l[k])/\Ext No w u) (λz u=>l.length-z) (0) Z ⟨⟨aJ _,λk _ h=>absurd h (cE _)⟩,a⟩ ?_)));rintro i t ⟨⟨j,d⟩,a⟩;refine vo Z (jy Z (λe=>?_) (λe=>?_));have j:i<l.length:=by omega
 obtain⟨b,m,rfl,f⟩:=(h.ga a).rowAt (λr _=>r.len) j;refine Bn (kw Z (qj Z (ki Z 3 Z i Z zk (m+i*3) Z (jk Z f Z (gj hcf Z (hQ t l[i] Z) ?_)))));rintro B C⟨rfl,q⟩;have a:=a.gb q;refine u3 (jy Z (λe=>?_) (λe=>?_));exact gp (j1 (kg Z (gv (jt (gu (gu (jt (gu (gy Z Z ⟨_,Z,⟨λ_=>⟨_,aC j,e⟩,λ_=>cF _⟩,a⟩)))))))));refine qf (Bi Z ?_);rw[qc _ zk];exact gl (jh (i+1) Z ⟨⟨by omega,allStep (p:=λx=>¬Q x) d j e⟩,a⟩ zm);have g:¬∃r∈l,Q r:=λ⟨r,y,A⟩=>by obtain⟨k,s,rfl⟩:=bG.1 y;exact d k s zk A
 exact Bh (kw Z (gv (gy Z Z ⟨_,Z,⟨λh=>absurd h zd,λh=>absurd h g⟩,a⟩)))
theorem yx4 (w:World) {p:Option Addr} {c G:Nat} {l:List vb} (h:Sl w p l.length 3 (l.flatMap vb.cells)) (hl:l.length<1000000000) (Q:vb->Prop) [DecidablePred Q]
  (hcf:∀args w,(callFunc G args).run prog w= .ok (.enter G args) w) (hQ:∀w (r:vb),r.cells.length=3->gn prog G [.agg r.cells.toArray] w λv w'=>v= .bool (decide (Q r))/\Ext No w w'):
  gn prog 227 [.slice p l.length c,.func (.func G) #[] #[]] w λv w'=>v= .bool (decide (∃r∈l,Q r))/\Ext No w w':=by
 refine gz func227 ?_;have a:=Ext.refl No w;refine kw Z (qj Z (gj call242 Z (xx6 w (h.ga a) hl Q hcf hQ) ?_));rintro f g⟨n,rfl,d,e⟩;have a:=a.gb e;refine kg Z (gv (gy Z Z ?_));exact⟨congrArg Value.bool (aP.2 d),a⟩
theorem indexFuncLeaf_calls (w:World) {p:Option Addr} {c G:Nat} {l:List jn} (hn:∀x∈l,(jn.cells x).length=33) (h:Sl w p l.length 33 (l.flatMap jn.cells)) (hl:l.length<1000000000) (Q:jn->Prop) [DecidablePred Q]
  (hcf:∀args w,(callFunc G args).run prog w= .ok (.enter G args) w) (hQ:∀w (r:jn),r.cells.length=33->gn prog G [.agg r.cells.toArray] w λv w'=>v= .bool (decide (Q r))/\Ext No w w'):
  gn prog 241 [.slice p l.length c,.func (.func G) #[] #[]] w λv w'=>∃n:Int,v= .int .i64 n/\(0<=n↔∃r∈l,Q r)/\Ext No w w':=by
 refine gz func241 ?_;have a:=Ext.refl No w;refine vo Z (kw Z (j8 (jl (α:=Nat) [0,1,7] Z (λz=>[(8,.int .i64 (z:Int))]) (λz u=>(z<=l.length/\∀k (s:k<l.length),k<z->¬Q l[k])/\Ext No w u) (λz u=>l.length-z) (0) Z ⟨⟨aJ _,λk _ h=>absurd h (cE _)⟩,a⟩ ?_)));rintro i t ⟨⟨d,e⟩,a⟩;refine vo Z (jy Z (λf=>?_) (λf=>?_));have d:i<l.length:=by omega
 obtain⟨b,m,rfl,g⟩:=(h.ga a).rowAt (hn) d;refine Bn (kw Z (qj Z (ki Z 33 Z i Z zk (m+i*33) Z (jk Z g (hn _ (aC d)) (gj hcf Z (hQ t l[i] (hn _ (aC d))) ?_)))));rintro B C⟨rfl,q⟩;have a:=a.gb q;refine u3 (jy Z (λf=>?_) (λf=>?_));exact gp (j1 (kg Z (gv (jt (gu (gu (jt (gu (gy Z Z ⟨_,Z,⟨λ_=>⟨_,aC d,f⟩,λ_=>cF _⟩,a⟩)))))))));refine qf (Bi Z ?_);rw[qc _ zk];exact gl (jh (i+1) Z ⟨⟨by omega,allStep (p:=λx=>¬Q x) e d f⟩,a⟩ zm);have j:¬∃r∈l,Q r:=λ⟨r,y,A⟩=>by obtain⟨k,s,rfl⟩:=bG.1 y;exact e k s zk A
 exact Bh (kw Z (gv (gy Z Z ⟨_,Z,⟨λh=>absurd h zd,λh=>absurd h j⟩,a⟩)))
theorem xq5 (w:World) {p:Option Addr} {c G:Nat} {l:List jn} (hn:∀x∈l,(jn.cells x).length=33) (h:Sl w p l.length 33 (l.flatMap jn.cells)) (hl:l.length<1000000000) (Q:jn->Prop) [DecidablePred Q]
  (hcf:∀args w,(callFunc G args).run prog w= .ok (.enter G args) w) (hQ:∀w (r:jn),r.cells.length=33->gn prog G [.agg r.cells.toArray] w λv w'=>v= .bool (decide (Q r))/\Ext No w w'):
  gn prog 225 [.slice p l.length c,.func (.func G) #[] #[]] w λv w'=>v= .bool (decide (∃r∈l,Q r))/\Ext No w w':=by
 refine gz func225 ?_;have a:=Ext.refl No w;refine kw Z (qj Z (gj call241 Z (indexFuncLeaf_calls w hn (h.ga a) hl Q hcf hQ) ?_));rintro f g⟨n,rfl,d,e⟩;have a:=a.gb e;refine kg Z (gv (gy Z Z ?_));exact⟨congrArg Value.bool (aP.2 d),a⟩
theorem checkEdit1_calls (w:World) (r:vb):
  gn prog 228 [.agg r.cells.toArray] w λv w'=>v= .bool (decide (ChgBad r))/\Ext No w w':=by
 have m:(vw r.text).size=r.text.length:=rfl;refine gz func228 (have b:=Ext.refl No w;qr (gt Z λj k l a d=> have b:=b.gb d;have a:j0 k j 150 (r.cells):=a;kg Z (ju (α:=Bool) [] Z (λz=>[(2,.bool z)]) (λz u=>(z=decide (ChgBad r))/\Ext No w u) ?_ ?_)))
 ·refine j1 (j6 ge Z (jd a Z Z (j6 ge Z (jw 7 Z (λc=>?_) (λc=>?_)))))
  ·refine j4 ge 10 Z (gl ?_)
   exact j2 (true) Z ⟨by symm;rw[bD];exact .inl zk,b⟩
  ·refine j4 ge 1 Z (jd a Z Z (j4 ge 2 Z (ut 11 Z (λc=>?_) (λc=>?_))))
   ·refine j4 ge 1 Z (jd a Z Z (j4 ge 4 Z (gl ?_)))
    exact j2 (_) Z ⟨by
 have f:r.is=false:=by simpa using c
 have e:(vw r.text≠ByteArray.mk #[])↔r.text≠[]:=by
  constructor
  ·intro g i;exact g (by rw[i];rfl)
  ·intro g i;exact g (Bo i)
 rw[aP]
 refine e.trans ⟨λh=> .inr ⟨f,h⟩,λh=>h.elim (λh=>absurd h zk) λh=>h.2⟩,b⟩
   ·exact j4 ge 6 Z (gl (j2 (false) Z ⟨by symm;rw[aE];have f:r.is=true:=(by simpa using c);exact λh=>h.elim (λh=>absurd h zk) λh=>absurd (f.symm.trans h.1) zd,b⟩))
 rintro z n ⟨rfl,b⟩;exact gv (gy Z Z ⟨Z,b⟩)
theorem risingRow_calls (w:World) {p:Option Addr} {c G:Nat} {l:List C5} (h:Sl w p l.length 2 (l.flatMap C5.cells)) (hl:l.length<1000000000) (hlen:∀r∈l,r.path.length<1000000000)
  (hcf:∀args w,(callFunc G args).run prog w= .ok (.enter G args) w) (hQ:∀w (r:C5),gn prog G [.agg r.cells.toArray] w λv w'=>v=yj r.path/\Ext No w w'):
  gn prog 240 [.agg #[.slice p l.length c,.func (.func G) #[] #[]]] w λv w'=>v= .bool (decide (xj4 (l.map C5.path)))/\Ext No w w':=by
 refine gz func240 (have d:=Ext.refl No w;qr (gt Z λR w1 aa a S=> have d:=d.gb S;have a:j0 w1 R 339 ([.slice p l.length c,.func (.func G) #[] #[]]):=a;kg Z (gp (qj Z (jd a Z Z (kg Z (jy Z (λt=>?_) (λt=>?_))))))));exact gp (j1 (kg Z (gv (gu (gy Z Z ⟨congrArg Value.bool (by symm;rw[aE];intro h;have:=h.1;rw[aA] at this;omega),d⟩)))));have T:l.length<=32:=by omega
 refine xg (gp (qj Z (jd a Z Z (kg Z (j8 (jl (α:=Nat) [1,10,11] Z (λz=>[(12,.int .i64 (z:Int))]) (λz u=>(z<=l.length/\∀k (A:k<l.length),k<z->B1 l[k].path/\(0<k->SLt (vw l[k-1].path) (vw l[k].path)))/\j0 u R 339 ([.slice p l.length c,.func (.func G) #[] #[]])/\Ext No w u) (λz u=>l.length-z) (0) Z ⟨⟨aJ _,λk _ h=>absurd h (cE _)⟩,a,d⟩ ?_))))));rintro i w2 ⟨⟨Q,B⟩,a,d⟩;refine vo Z (jy Z (λt=>?_) (λt=>?_));have Q:i<l.length:=by omega
 obtain⟨b,x,rfl,j⟩:=h.qm (λr _=>r.len) zk;refine Bn (qj Z (ki Z 2 Z i Z zk (x+i*2) Z (jk Z ((j i Q).ga d) Z (gt Z λb4 w3 C f D=> have y:=j3 a.lt C;have U:=al d.size C;have a:=a.ga D;have d:=d.gb D;j6 ge Z (wl (j9 (l':=(l[i]).cells) ge f Z Z Z Z OneC.h λw4 f E ab=> have a:=a.gk E y;have d:=d.gi E U;u3 (ju (α:=Bool) [1,10,11,12] Z (λz=>[(42,.bool z)]) (λz u=>(z=decide (¬(B1 l[i].path/\(0<i->SLt (vw l[i-1].path) (vw l[i].path)))))/\j0 u R 339 ([.slice (some ⟨b,x,none⟩) l.length c,.func (.func G) #[] #[]])/\Ext No w u) ?_ ?_)))))));refine ke Z 26 [qP 0,qP 1,qP 2,(3,false),(4,false),qP 5,qP 6,qP 7,qP 8,qP 9,qP 10,qP 11,qP 12,qP 13,qP 14,qP 15,qP 16,qP 17,qP 19,qP 20,qP 21,(18,false),(22,false),qP 23,qP 24,qP 25] [] (No) zf λw5 o ac=> have q:=a;have F:=f;have V:=d;have a:=a.ga o;have f:=f.ga o;have d:=d.gb o;have n:Ext (No) _ w5:=o.no;gw ge 1 Z (j5 ge Z Z (λw' e=>(q.ga e).cell Z) (qu ge Z Z (λw' e=>(F.ga e).ql) Z (jv Z (j7 hcf Z (hQ w5 l[i]) λv6 w6 H=>⟨(by obtain⟨rfl,g⟩:=H;exact n.gb g),?_⟩))));obtain⟨rfl,g⟩:=H;have a:=a.ga g;have f:=f.ga g;have d:=d.gb g;have n:=n.gb g;refine jv Z (j7 call243 Z (path_calls w6 l[i].path (hlen _ (aC Q))) λv7 w7 J=>⟨(by obtain⟨rfl,rfl⟩:=J;exact n),?_⟩);obtain⟨rfl,rfl⟩:=J;have n:=n;refine gw ge 2 Z (wd_case 23 Z (λK=>?_) (λK=>?_));have W:¬B1 l[i].path:=by simpa using K
 exact gw ge 19 Z (js (ja (j2 (true) Z ⟨by symm;rw[bD];exact λh=>W h.1,a,d⟩)));have L:B1 l[i].path:=by simpa using K
 refine gw ge 3 Z (Ao 26 Z (λK=>?_) (λK=>?_));refine gw ge 1 Z (j5 ge Z Z (λw' e=>(q.ga e).cell Z) (gw ge 1 Z (j5 ge Z Z (λw' e=>(q.ga e).cell Z) (gw ge 2 Z ?_))));rw[qc _ zk];refine u0 ge Z Z 2 Z (i-1) zk zk (x+(i-1)*2) Z (qu ge Z Z (λw' e=>((j (i-1) zk).ga (V.gb e))) Z (gw ge 1 Z (j5 ge Z Z (λw' e=>(q.ga e).cell Z) (qu ge Z Z (λw' e=>(F.ga e).ql) Z (jv Z (j7 hcf Z (hQ w7 _) λv8 w8 M=>⟨(by obtain⟨rfl,m⟩:=M;exact n.gb m),?_⟩))))));obtain⟨rfl,m⟩:=M;have a:=a.ga m;have d:=d.gb m;have n:=n.gb m;refine jv Z (j7 hcf Z (hQ w8 _) λv9 w9 N=>⟨(by obtain⟨rfl,s⟩:=N;exact n.gb s),?_⟩);obtain⟨rfl,s⟩:=N;have a:=a.ga s;have d:=d.gb s;exact gw ge 3 Z (js (ja (j2 (_) Z ⟨by rw[aP];exact⟨λX Y=>X (Y.2 zk),λX Y=>X ⟨L,λ_=>Y⟩⟩,a,d⟩)));exact gw ge 16 Z (js (ja (j2 (false) Z ⟨by symm;rw[aE];exact λh=>h ⟨L,λh0=>absurd h0 zk⟩,a,d⟩)));rintro z ad ⟨rfl,a,d⟩;refine jy Z (λt=>?_) (λt=>?_);exact gp (j1 (kg Z (gv (jt (gu (gu (jt (gu (gy Z Z ⟨congrArg Value.bool (by symm;rw[aE];intro h;have:=h.2 i (by rw[aA];exact Q);exact t (by simpa using this)),d⟩)))))))));have I:=aT.1 t
 have O:∀k (A:k<l.length),k<i+1->B1 l[k].path/\(0<k->SLt (vw l[k-1].path) (vw l[k].path)):=λk A ae=>by
  rcases bC k i with h'|h';exact B k A h';obtain rfl:k=i:=by omega
  exact I
 refine qf (Bi Z ?_);rw[qc _ zk];exact gl (jh (i+1) Z ⟨⟨by omega,O⟩,a,d⟩ zm);have P:xj4 (l.map C5.path):=⟨by rw[aA];exact T,λk A=>by rw[aA] at A;simpa using B k A zk⟩
 exact Bh (kw Z (gv (gy Z Z ⟨congrArg Value.bool (bZ P).symm,d⟩)))
theorem risingChange_calls (w:World) {p:Option Addr} {c G:Nat} {l:List vb} (h:Sl w p l.length 3 (l.flatMap vb.cells)) (hl:l.length<1000000000) (hlen:∀r∈l,r.path.length<1000000000)
  (hcf:∀args w,(callFunc G args).run prog w= .ok (.enter G args) w) (hQ:∀w (r:vb),gn prog G [.agg r.cells.toArray] w λv w'=>v=yj r.path/\Ext No w w'):
  gn prog 230 [.agg #[.slice p l.length c,.func (.func G) #[] #[]]] w λv w'=>v= .bool (decide (xj4 (l.map vb.path)))/\Ext No w w':=by
 refine gz func230 (have d:=Ext.refl No w;qr (gt Z λR w1 aa a S=> have d:=d.gb S;have a:j0 w1 R 329 ([.slice p l.length c,.func (.func G) #[] #[]]):=a;kg Z (gp (qj Z (jd a Z Z (kg Z (jy Z (λt=>?_) (λt=>?_))))))));exact gp (j1 (kg Z (gv (gu (gy Z Z ⟨congrArg Value.bool (by symm;rw[aE];intro h;have:=h.1;rw[aA] at this;omega),d⟩)))));have T:l.length<=32:=by omega
 refine xg (gp (qj Z (jd a Z Z (kg Z (j8 (jl (α:=Nat) [1,10,11] Z (λz=>[(12,.int .i64 (z:Int))]) (λz u=>(z<=l.length/\∀k (A:k<l.length),k<z->B1 l[k].path/\(0<k->SLt (vw l[k-1].path) (vw l[k].path)))/\j0 u R 329 ([.slice p l.length c,.func (.func G) #[] #[]])/\Ext No w u) (λz u=>l.length-z) (0) Z ⟨⟨aJ _,λk _ h=>absurd h (cE _)⟩,a,d⟩ ?_))))));rintro i w2 ⟨⟨Q,B⟩,a,d⟩;refine vo Z (jy Z (λt=>?_) (λt=>?_));have Q:i<l.length:=by omega
 obtain⟨b,x,rfl,j⟩:=h.qm (λr _=>r.len) zk;refine Bn (qj Z (ki Z 3 Z i Z zk (x+i*3) Z (jk Z ((j i Q).ga d) Z (gt Z λb4 w3 C f D=> have y:=j3 a.lt C;have U:=al d.size C;have a:=a.ga D;have d:=d.gb D;j6 ge Z (wl (j9 (l':=(l[i]).cells) ge f Z Z Z Z OneC.h λw4 f E ab=> have a:=a.gk E y;have d:=d.gi E U;u3 (ju (α:=Bool) [1,10,11,12] Z (λz=>[(42,.bool z)]) (λz u=>(z=decide (¬(B1 l[i].path/\(0<i->SLt (vw l[i-1].path) (vw l[i].path)))))/\j0 u R 329 ([.slice (some ⟨b,x,none⟩) l.length c,.func (.func G) #[] #[]])/\Ext No w u) ?_ ?_)))))));refine ke Z 26 [qP 0,qP 1,qP 2,(3,false),(4,false),qP 5,qP 6,qP 7,qP 8,qP 9,qP 10,qP 11,qP 12,qP 13,qP 14,qP 15,qP 16,qP 17,qP 19,qP 20,qP 21,(18,false),(22,false),qP 23,qP 24,qP 25] [] (No) zf λw5 o ac=> have q:=a;have F:=f;have V:=d;have a:=a.ga o;have f:=f.ga o;have d:=d.gb o;have n:Ext (No) _ w5:=o.no;gw ge 1 Z (j5 ge Z Z (λw' e=>(q.ga e).cell Z) (qu ge Z Z (λw' e=>(F.ga e).ql) Z (jv Z (j7 hcf Z (hQ w5 l[i]) λv6 w6 H=>⟨(by obtain⟨rfl,g⟩:=H;exact n.gb g),?_⟩))));obtain⟨rfl,g⟩:=H;have a:=a.ga g;have f:=f.ga g;have d:=d.gb g;have n:=n.gb g;refine jv Z (j7 call243 Z (path_calls w6 l[i].path (hlen _ (aC Q))) λv7 w7 J=>⟨(by obtain⟨rfl,rfl⟩:=J;exact n),?_⟩);obtain⟨rfl,rfl⟩:=J;have n:=n;refine gw ge 2 Z (wd_case 23 Z (λK=>?_) (λK=>?_));have W:¬B1 l[i].path:=by simpa using K
 exact gw ge 19 Z (js (ja (j2 (true) Z ⟨by symm;rw[bD];exact λh=>W h.1,a,d⟩)));have L:B1 l[i].path:=by simpa using K
 refine gw ge 3 Z (Ao 26 Z (λK=>?_) (λK=>?_));refine gw ge 1 Z (j5 ge Z Z (λw' e=>(q.ga e).cell Z) (gw ge 1 Z (j5 ge Z Z (λw' e=>(q.ga e).cell Z) (gw ge 2 Z ?_))));rw[qc _ zk];refine u0 ge Z Z 3 Z (i-1) zk zk (x+(i-1)*3) Z (qu ge Z Z (λw' e=>((j (i-1) zk).ga (V.gb e))) Z (gw ge 1 Z (j5 ge Z Z (λw' e=>(q.ga e).cell Z) (qu ge Z Z (λw' e=>(F.ga e).ql) Z (jv Z (j7 hcf Z (hQ w7 _) λv8 w8 M=>⟨(by obtain⟨rfl,m⟩:=M;exact n.gb m),?_⟩))))));obtain⟨rfl,m⟩:=M;have a:=a.ga m;have d:=d.gb m;have n:=n.gb m;refine jv Z (j7 hcf Z (hQ w8 _) λv9 w9 N=>⟨(by obtain⟨rfl,s⟩:=N;exact n.gb s),?_⟩);obtain⟨rfl,s⟩:=N;have a:=a.ga s;have d:=d.gb s;exact gw ge 3 Z (js (ja (j2 (_) Z ⟨by rw[aP];exact⟨λX Y=>X (Y.2 zk),λX Y=>X ⟨L,λ_=>Y⟩⟩,a,d⟩)));exact gw ge 16 Z (js (ja (j2 (false) Z ⟨by symm;rw[aE];exact λh=>h ⟨L,λh0=>absurd h0 zk⟩,a,d⟩)));rintro z ad ⟨rfl,a,d⟩;refine jy Z (λt=>?_) (λt=>?_);exact gp (j1 (kg Z (gv (jt (gu (gu (jt (gu (gy Z Z ⟨congrArg Value.bool (by symm;rw[aE];intro h;have:=h.2 i (by rw[aA];exact Q);exact t (by simpa using this)),d⟩)))))))));have I:=aT.1 t
 have O:∀k (A:k<l.length),k<i+1->B1 l[k].path/\(0<k->SLt (vw l[k-1].path) (vw l[k].path)):=λk A ae=>by
  rcases bC k i with h'|h';exact B k A h';obtain rfl:k=i:=by omega
  exact I
 refine qf (Bi Z ?_);rw[qc _ zk];exact gl (jh (i+1) Z ⟨⟨by omega,O⟩,a,d⟩ zm);have P:xj4 (l.map vb.path):=⟨by rw[aA];exact T,λk A=>by rw[aA] at A;simpa using B k A zk⟩
 exact Bh (kw Z (gv (gy Z Z ⟨congrArg Value.bool (bZ P).symm,d⟩)))
theorem check_calls (w:World) {p:Option Addr} {c:Nat} {l:List C5} (h:Sl w p l.length 2 (l.flatMap C5.cells)) (hl:l.length<1000000000) (hlen:∀r∈l,r.path.length<1000000000):
  gn prog 224 [.agg #[.slice p l.length c]] w λv w'=>v= .int .i64 (if RowsOk l then 0 else 150)/\Ext No w w':=by
 refine gz func224 ?_;have a:=Ext.refl No w;refine qr (gt Z λq o s b e=>?_);have a:=a.gb e;have b:j0 o q 319 ([.slice p l.length c]):=b;refine kg Z (qj Z (jd b Z Z (gj call237 Z (xx3 o (h.ga a) hl (λr=>256<r.text.length) call238 λw r _=>check1_calls w r) ?_)));rintro x t⟨rfl,d⟩;have b:=b.ga d;have a:=a.gb d;refine kg Z (gp (ju (α:=Bool) [] Z (λz=>[(14,.bool z)]) (λz u=>(z=decide (¬RowsOk l))/\Ext No w u) ?_ ?_));refine j1 (j6 ge Z (jw 8 Z (λg=>?_) (λg=>?_)));exact j4 ge 6 Z (gl (j2 (true) Z ⟨by symm;rw[bD];exact λh=>h.1 g,a⟩));refine j4 ge 1 Z (jd b Z Z (u1 Z zc (l':=[.slice p l.length c,.func (.func 239) #[] #[]]) Z (gj call240 Z (risingRow_calls t (h.ga a) hl hlen call239 rowPath_calls) ?_)));rintro y A⟨rfl,j⟩;have a:=a.gb j;refine j4 ge 2 Z (gl ?_);exact j2 (_) Z ⟨by rw[<-decide_not,aP];exact⟨λk m=>k m.2,λk m=>k ⟨g,m⟩⟩,a⟩;rintro z B ⟨rfl,a⟩;refine jy Z (λn=>?_) (λn=>?_);exact gp (j1 (kg Z (gv (gu (gy Z Z ⟨by rw[aI n],a⟩)))));exact qf (jq (kw Z (gv (gy Z Z ⟨by rw[aL (aT.1 n)],a⟩))))
theorem checkEdit_calls (w:World) {p:Option Addr} {c:Nat} {l:List vb} (h:Sl w p l.length 3 (l.flatMap vb.cells)) (hl:l.length<1000000000) (hlen:∀r∈l,r.path.length<1000000000):
  gn prog 214 [.agg #[.slice p l.length c]] w λv w'=>v= .int .i64 (if EditOk l then 0 else 151)/\Ext No w w':=by
 refine gz func214 ?_;have a:=Ext.refl No w;refine qr (gt Z λq o s b e=>?_);have a:=a.gb e;have b:j0 o q 34 ([.slice p l.length c]):=b;refine kg Z (qj Z (jd b Z Z (gj call227 Z (yx4 o (h.ga a) hl ChgBad call228 λw r _=>checkEdit1_calls w r) ?_)));rintro x t⟨rfl,d⟩;have b:=b.ga d;have a:=a.gb d;refine kg Z (gp (ju (α:=Bool) [] Z (λz=>[(14,.bool z)]) (λz u=>(z=decide (¬EditOk l))/\Ext No w u) ?_ ?_));refine j1 (j6 ge Z (jw 8 Z (λg=>?_) (λg=>?_)));exact j4 ge 6 Z (gl (j2 (true) Z ⟨by symm;rw[bD];exact λh=>h.1 g,a⟩));refine j4 ge 1 Z (jd b Z Z (u1 Z zc (l':=[.slice p l.length c,.func (.func 229) #[] #[]]) Z (gj call230 Z (risingChange_calls t (h.ga a) hl hlen call229 changePath_calls) ?_)));rintro y A⟨rfl,j⟩;have a:=a.gb j;refine j4 ge 2 Z (gl ?_);exact j2 (_) Z ⟨by rw[<-decide_not,aP];exact⟨λk m=>k m.2,λk m=>k ⟨g,m⟩⟩,a⟩;rintro z B ⟨rfl,a⟩;refine jy Z (λn=>?_) (λn=>?_);exact gp (j1 (kg Z (gv (gu (gy Z Z ⟨by rw[aI n],a⟩)))));exact qf (jq (kw Z (gv (gy Z Z ⟨by rw[aL (aT.1 n)],a⟩))))
end Go.Proofs.YtpdiphfjmepijaaGreatDoor
