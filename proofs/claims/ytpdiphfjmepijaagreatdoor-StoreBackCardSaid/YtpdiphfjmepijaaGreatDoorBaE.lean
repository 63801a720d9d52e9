/-
  Walks and laws towards: a batch is decoded from its bytes, and less of them is too short (StoreBack)
-/
import Derived.ChangeSame
import Derived.ReadAgain
import Derived.RowKit
import Derived.ChangeBears
import Derived.OpenShut
import Derived.Test.YtpdiphfjmepijaaGreatDoorBaD
namespace Go.Proofs.YtpdiphfjmepijaaGreatDoor
open Go.Proofs.Tryz
open Go.Vc
theorem idK:IdKey prog 30:=by
 refine⟨deep_law (m:=10) zo kId zk (by simp only[uId]),fun x a=> ?_,fun _ _ h=>idV_inj h⟩
 have b:Nat.blt 0 prog.types.size=true:=by kernel_rfl
 obtain⟨d,c⟩:∃d,prog.types.size+1=d+2:=by
  generalize prog.types.size=n at b⊢
  cases n with
  |zero=>cases b
  |succ n=>exact⟨n,rfl⟩
 have e:prog.keyType 30=true:=by kernel_rfl
 have f:prog.keyLits (prog.types.size+1) 30 (ge x)=some (D9 x):=by rw[c];exact lits_bytes uId cId uByte cByte a
 refine⟨.string (keyBytes (D9 x)),?_⟩
 unfold keyOf
 rw[uId]
 have g:(prog.keyType 30&&(idV x).formed prog 30)=true:=by rw[e,x2 a];rfl
 simp only[g,if_true]
 show(prog.keyLits (prog.types.size+1) 30 (ge x)).map _=_
 rw[f]
 rfl
theorem heldZ_c:cellsOf ti126.zero=ge Dh++jw ut noP:=by kernel_rfl
theorem held_build {i:List UInt8} {o:jk} {a:vd} (hi:i.length=32) (ho:qv o):xm (ge Dh++jw ut noP) [(0,32,.agg (ge i).toArray),(32,73,.agg (jw o a).toArray)]=Bg ⟨i,o,a⟩:=by
 simp only[xm,ju,Bg]
 rw[put_eq _ 0 _ (by rw[List.length_append,gl,gl,hi,gt qw];decide),gl,hi]
 have c:(ge Dh++jw ut noP).drop (0+32)=jw ut noP:=List.drop_left' zj
 rw[c,List.take_zero,List.nil_append]
 have b:(ge i).length=32:=by rw[gl,hi]
 rw[put_eq _ 32 _ (by rw[List.length_append,b,gt qw,gt ho];exact Nat.le_refl _),gt ho,List.take_left' b,List.drop_of_length_le (by rw[List.length_append,b,gt qw];exact Nat.le_refl _),List.append_nil]
section
variable {n1 N0 l:Nat} {J:List qu→World→Prop} {hs:List qu} {w w':World}
end
end Go.Proofs.YtpdiphfjmepijaaGreatDoor
namespace Go.Vc
structure Sec where
  safe:List UInt8
  waits:List (List UInt8)
structure kj where
  secs:List Sec
  order:List Nat
  dead:Bool
  fuse:Int
  fault:Int
  done:Int
def zeros:List UInt8:=List.replicate 64 0
def Sec.now (s:Sec):List UInt8:=s.waits.getLast?.getD s.safe
def kj.fresh (n:Nat):kj:=⟨List.replicate n ⟨zeros,[]⟩,[],false,-1,-1,0⟩
def kj.now (D:kj) (i:Nat):List UInt8:=((D.secs[i]?).map Sec.now).getD zeros
def A8 (burns:Bool) (fu:Int):Int:=if burns=true∧fu≠-1 then fu-1 else fu
def uy (fa:Int):Int:=if fa= -1 then-1 else fa-1
def kj.begin (D:kj) (i:Int) (burns:Bool):kj×Int:=
  if D.dead=true then(D,9)
  else if¬(0≤i∧i<D.secs.length) then(D,2)
  else if D.fault=0 then({D with fault:= -1},8)
  else if burns=true∧D.fuse=0 then({D with fault:=uy D.fault,fuse:= -1,dead:=true},9)
  else({D with fault:=uy D.fault,fuse:=A8 burns D.fuse,done:=D.done+1},0)
def Bj (b:List UInt8) (s:Sec):Sec:=⟨s.safe,s.waits++[b]⟩
def kj.put (D:kj) (i:Nat) (b:List UInt8):kj:={D with secs:=D.secs.modify i (Bj b),order:=D.order++[i]}
def uj (b:Bool) (s:Sec):Sec:=⟨if b then s.waits.headD s.safe else s.safe,s.waits.tail⟩
def Ah (lives:Nat→Bool):List Nat→Nat→List Sec→List Sec
  | [],_,secs=>secs
  |k::r,i,secs=>Ah lives r (i+1) (secs.modify k (uj (lives i)))
def kj.settle (D:kj) (lives:Nat→Bool):kj:={D with secs:=Ah lives D.order 0 D.secs,order:=[]}
def kj.read (D:kj) (i:Int):kj×List UInt8×Int:=
  let x:=D.begin i false
  (x.1,if x.2=0 then x.1.now i.toNat else zeros,x.2)
def kj.write (D:kj) (i:Int) (b:List UInt8):kj×Int:=
  let x:=D.begin i true
  (if x.2=0 then x.1.put i.toNat b else x.1,x.2)
def kj.sync (D:kj):kj×Int:=
  let x:=D.begin 0 true
  (if x.2=0 then x.1.settle fun _=>true else x.1,x.2)
def setTo (n:Int):Int:=if n< -1 then-1 else n
def zw5 (keep:List Bool) (i:Nat):Bool:=(keep[i]?).getD false
def kj.xv4 (D:kj) (keep:List Bool):kj:={D.settle (zw5 keep) with dead:=false,fuse:= -1,fault:= -1}
structure kj.Ok (D:kj) (m:Nat):Prop where
  size:1≤D.secs.length∧D.secs.length≤2048
  safe:∀s∈D.secs,s.safe.length=64∧∀b∈s.waits,b.length=64
  inside:∀k∈D.order,k<D.secs.length
  count:∀i s,D.secs[i]? =some s→s.waits.length=D.order.count i
  few:D.order.length≤m
  fuse: -1≤D.fuse∧D.fuse<9223372036854775808
  fault: -1≤D.fault∧D.fault<9223372036854775808
  done:0≤D.done∧D.done≤m
theorem setTo_ge (n:Int) (h:n<9223372036854775808): -1≤setTo n∧setTo n<9223372036854775808:=by unfold setTo;split<;>omega
theorem fuseTo_ge (b:Bool) (n:Int) (h: -1≤n∧n<9223372036854775808): -1≤A8 b n∧A8 b n<9223372036854775808:=by unfold A8;split<;>omega
theorem faultTo_ge (n:Int) (h: -1≤n∧n<9223372036854775808): -1≤uy n∧uy n<9223372036854775808:=by unfold uy;split<;>omega
theorem kj.Ok.mono {D:kj} {m m':Nat} (h:D.Ok m) (hm:m≤m'):D.Ok m':=
 ⟨h.size,h.safe,h.inside,h.count,Nat.le_trans h.few hm,h.fuse,h.fault,by have:=h.done;omega⟩
theorem kj.Ac (D:kj) (i:Int) (b:Bool):(D.begin i b).1.secs=D.secs∧(D.begin i b).1.order=D.order:=by
 unfold kj.begin
 repeat' split
 all_goals exact⟨rfl,rfl⟩
theorem kj.Ok.begin {D:kj} {m:Nat} (h:D.Ok m) (i:Int) (b:Bool):(D.begin i b).1.Ok (m+1):=by
 have a:=fuseTo_ge b _ h.fuse
 have c:=faultTo_ge _ h.fault
 have d:=h.done
 have e:=h.fuse
 have f:=h.fault
 have g:=h.few
 unfold kj.begin
 repeat' split
 all_goals exact⟨h.size,h.safe,h.inside,h.count,by simp only;omega,by simp only;omega,by simp only;omega,by simp only;omega⟩
theorem kj.begin0 {D:kj} (i:Int) (b:Bool) (h0:(D.begin i b).2=0):0≤i∧i<D.secs.length:=by
 unfold kj.begin at h0
 repeat' split at h0
 all_goals first|(simp at h0;done)|(rename_i hh _ _;exact Decidable.not_not.1 hh)
theorem kj.Ok.put {D:kj} {m:Nat} (h:D.Ok m) {i:Nat} (hi:i<D.secs.length) {b:List UInt8} (hb:b.length=64):(D.put i b).Ok (m+1):=by
 refine⟨by simpa [kj.put] using h.size,?_,?_,?_,?_,h.fuse,h.fault,by have:=h.done;simp only[kj.put];omega⟩
 ·intro s a
  simp only[kj.put] at a
  obtain⟨j,f,rfl⟩:=List.mem_iff_getElem.1 a
  rw[List.getElem_modify]
  simp only[List.length_modify] at f
  have:=h.safe D.secs[j] (List.getElem_mem f)
  split
  ·refine⟨this.1,fun c d=> ?_⟩
   simp only[Bj,List.mem_append,List.mem_singleton] at d
   rcases d with d|rfl
   ·exact this.2 c d
   exact hb
  exact this
 ·intro k e
  simp only[kj.put,List.mem_append,List.mem_singleton,List.length_modify] at*
  rcases e with e|rfl
  ·exact h.inside k e
  exact hi
 ·intro j s a
  simp only[kj.put] at*
  rw[List.getElem?_modify] at a
  rw[List.count_append,List.count_singleton]
  cases hsj:D.secs[j]? with
  |none=>rw[hsj] at a;simp at a
  |some t=>
   rw[hsj] at a
   have:=h.count j t hsj
   by_cases hij:i=j
   ·subst hij
    simp at a
    subst a
    simp[Bj,this]
   simp[hij] at a
   subst a
   have:(i==j)=false:=by simpa using hij
   simp[*]
 have:=h.few
 simp only[kj.put,List.length_append,List.length_singleton]
 omega
theorem Ae (lives:Nat→Bool):∀(l:List Nat) (i:Nat) (secs:List Sec),(Ah lives l i secs).length=secs.length
 | [],_,_=>rfl
 |k::r,i,secs=>by rw[Ah,Ae lives r];simp
theorem yz6 (lives:Nat→Bool):∀(l:List Nat) (i:Nat) (secs:List Sec),(∀s∈secs,s.safe.length=64∧∀b∈s.waits,b.length=64)→∀s∈Ah lives l i secs,s.safe.length=64∧∀b∈s.waits,b.length=64
 | [],_,_,h=>h
 |k::r,i,secs,h=>by
  refine yz6 lives r (i+1) _ fun s hs=> ?_
  obtain⟨j,hj,rfl⟩:=List.mem_iff_getElem.1 hs
  rw[List.getElem_modify]
  simp only[List.length_modify] at hj
  have:=h secs[j] (List.getElem_mem hj)
  split
  ·refine⟨?_,fun b hb=>this.2 b (List.mem_of_mem_tail hb)⟩
   simp only[uj]
   split
   ·cases hw:secs[j].waits with
    |nil=>exact this.1
    |cons b r=>exact this.2 b (by rw[hw];simp)
   exact this.1
  exact this
theorem yq6 (lives:Nat→Bool):∀(l:List Nat) (i:Nat) (secs:List Sec) (j:Nat) (s:Sec),(Ah lives l i secs)[j]? =some s→∃t,secs[j]? =some t∧s.waits=t.waits.drop (l.count j)
 | [],_,secs,j,s,h=>⟨s,h,by simp⟩
 |k::r,i,secs,j,s,h=>by
  obtain⟨t,ht,hw⟩:=yq6 lives r (i+1) _ j s h
  rw[List.getElem?_modify] at ht
  cases hs:secs[j]? with
  |none=>rw[hs] at ht;simp at ht
  |some u=>
   rw[hs] at ht
   refine⟨u,rfl,?_⟩
   by_cases hk:k=j
   ·subst hk
    simp at ht
    subst ht
    rw[hw]
    simp only[uj,List.count_cons_self]
    rw[List.drop_tail]
   simp[hk] at ht
   subst ht
   have:(k==j)=false:=by simpa using hk
   rw[hw,List.count_cons,this]
   simp
theorem kj.Ok.settle {D:kj} {m:Nat} (h:D.Ok m) (lives:Nat→Bool):(D.settle lives).Ok m:=by
 refine⟨by simpa [kj.settle,Ae] using h.size,yz6 lives _ _ _ h.safe,?_,?_,by simp[kj.settle],h.fuse,h.fault,h.done⟩
 ·intro k hk;simp[kj.settle] at hk
 intro i s hs
 obtain⟨t,ht,hw⟩:=yq6 lives _ _ _ i s hs
 rw[hw,List.length_drop,h.count i t ht]
 simp[kj.settle]
theorem kj.Ok.xv4 {D:kj} {m:Nat} (h:D.Ok m) (keep:List Bool):(D.xv4 keep).Ok m:=by
 have:=h.settle (zw5 keep)
 exact⟨this.size,this.safe,this.inside,this.count,this.few,by simp[kj.xv4],by simp[kj.xv4],this.done⟩
theorem zeros_length:zeros.length=64:=by simp[zeros]
theorem kj.Ok.fresh {n:Nat} (h:1≤n∧n≤2048):(kj.fresh n).Ok 0:=by
 refine⟨by simpa [kj.fresh] using h,?_,?_,?_,by simp[kj.fresh],by simp[kj.fresh],by simp[kj.fresh],by simp[kj.fresh]⟩
 ·intro s hs
  simp only[kj.fresh,List.mem_replicate] at hs
  rw[hs.2]
  exact⟨zeros_length,fun b hb=>by cases hb⟩
 ·intro k hk;simp[kj.fresh] at hk
 intro i s hs
 simp only[kj.fresh,List.getElem?_replicate] at hs
 split at hs
 ·cases hs;simp[kj.fresh]
 cases hs
abbrev Bytes:=List UInt8
abbrev numB (b:Bytes):Value:= .agg (ge b).toArray
theorem Bv {b:Bytes}:∀u∈ge b,u.oneCell'=true:=fun u hu=>by
 obtain⟨x,_,rfl⟩:=List.mem_map.1 hu;rfl
theorem kz {b:Bytes} (h:b.length=64):(ge b).length=64:=by rw[gl,h]
def yq8 (b:Bytes):List Int:=b.map fun x=>(x.toNat:Int)
theorem Cq (b:Bytes):(yq8 b).length=b.length:=by simp[yq8]
theorem yv6 (b:Bytes):numB b=Bw .u8 (yq8 b):=by simp[numB,Bw,yq8,ge,Function.comp_def]
theorem zz6 {a b:Bytes}:yq8 a=yq8 b↔a=b:=by
 refine List.map_inj_right (f:=fun x:UInt8=>(x.toNat:Int)) fun x y e=> ?_
 exact UInt8.toNat_inj.1 (by have e:(x.toNat:Int)=y.toNat:=e;omega)
def kl (n:Nat):Nat:=if 40000<n then 0 else(n+3)/48+1
def sectZ (n:Int):Int:=if n<0∨40000<n then 0 else((n.toNat+3)/48+1:Nat)
theorem Aj (n:Nat):sectZ (n:Int)=(kl n:Int):=by
 unfold sectZ kl
 by_cases h:40000<n
 ·rw[if_pos zo,if_pos h];rfl
 rw[if_neg zo,if_neg h,Int.toNat_natCast]
theorem Cl {n:Nat} (h:n≤40000):0<kl n:=by rw[kl,if_neg zo];omega
theorem D6 (n:Nat):kl n≤834:=by unfold kl;split<;>omega
theorem xx1 {n:Nat} (h:n≤40000):n+4≤48*kl n:=by rw[kl,if_neg zo];omega
theorem sectN_tight {n:Nat} (h:n≤40000):48*(kl n-1)<n+4:=by rw[kl,if_neg zo];omega
def xv9 (b:Bytes):Bytes:=(sumW (b++List.replicate (60-b.length) 0)).take 4++(b++List.replicate (60-b.length) 0)
theorem zz4 {b:Bytes} (h:b.length≤60):(xv9 b).length=64:=by
 simp only[xv9,List.length_append,List.length_take,Bq,List.length_replicate]
 omega
def Cr:Bytes:=[114,105,118,101,114,108,111,103]
def yq9 (turn n:Nat):Bytes:=xv9 (Cr++be 4 turn++be 4 n)
theorem Co (turn n:Nat):(yq9 turn n).length=64:=zz4 (by simp[Cr,jp])
def Dl (b:Bytes):Bytes:=be 4 b.length++b
def Bm (turn number:Nat) (b:Bytes) (k:Nat):Bytes:=xv9 (be 4 turn++be 4 number++be 2 k++be 2 (kl b.length)++((Dl b).drop (48*k)).take 48)
theorem pieceAt_len (turn number:Nat) (b:Bytes) (k:Nat):(Bm turn number b k).length=64:=zz4 (by
 simp only[List.length_append,jp,List.length_take];omega)
def uw (turn number:Nat) (b:Bytes):List Bytes:=(List.range (kl b.length)).map (Bm turn number b)
theorem vq (turn number:Nat) (b:Bytes):(uw turn number b).length=kl b.length:=by simp[uw]
theorem Dc (turn number:Nat) (b:Bytes):∀s∈uw turn number b,s.length=64:=fun s hs=>by
 obtain⟨k,_,rfl⟩:=List.mem_map.1 hs
 exact pieceAt_len _ _ _ _
def Bf (n sectors:Nat):Prop:=4≤n∧n≤1000∧2+2*n≤sectors
instance (n s:Nat):Decidable (Bf n s):=inferInstanceAs (Decidable (_∧_∧_))
def ua (turn n:Nat):Nat:=if turn%2=1 then 2+n else 2
def De (b:Bytes):Nat:=num ((b.drop 12).take 4)
def zq4 (b:Bytes):Nat:=num ((b.drop 16).take 4)
def xx8 (i sectors:Nat) (b:Bytes):Prop:=De b%2=i∧Bf (zq4 b) sectors∧yq9 (De b) (zq4 b)=b
instance (i s:Nat) (b:Bytes):Decidable (xx8 i s b):=inferInstanceAs (Decidable (_∧_∧_))
def newer (i sectors:Nat) (b:Bytes) (o:Option (Nat×Nat)):Option (Nat×Nat):=
  if xx8 i sectors b then match o with
    |none=>some (De b,zq4 b)
    |some (t,n)=>if t<De b then some (De b,zq4 b) else some (t,n)
  else o
def zw4 (l:List Bytes):Bytes:=l.flatMap (·.drop 16)
def xu (s:Bytes):Nat:=num ((s.drop 16).take 4)
def Da (l:List Bytes) (turn number:Nat):Option Bytes:=
  match l with
  | []=>none
  |s::_=>
    if 40000<xu s∨l.length<kl (xu s) then none
    else if uw turn number (((zw4 (l.take (kl (xu s)))).drop 4).take (xu s))=l.take (kl (xu s)) then some (((zw4 (l.take (kl (xu s)))).drop 4).take (xu s)) else none
def lyGo (turn:Nat):Nat→List Bytes→Nat→List Bytes
  |0,_,_=>[]
  |f+1,area,n=>match Da area turn n with
    |none=>[]
    |some b=>b::lyGo turn f (area.drop (kl b.length)) (n+1)
def lyingB (area:List Bytes) (turn:Nat):List Bytes:=lyGo turn area.length area 0
def u7 (l:List Bytes):Nat:=(l.map fun b=>kl b.length).sum
def Bd:kj→Int→List Bytes→kj×Int
  |D,_,[]=>D.sync
  |D,at_,b::r=>if(D.write at_ b).2≠0 then D.write at_ b else Bd (D.write at_ b).1 (at_+1) r
def Aa (D:kj) (turn n:Nat) (x:Bytes):kj×Int:=
  let y:=Bd D (ua turn n) (uw turn 0 x)
  if y.2≠0 then y else Bd y.1 ((turn%2:Nat):Int) [yq9 turn n]
structure Wl where
  D:kj
  size:Nat
  turn:Nat
  pieces:List Bytes
  used:Nat
  broken:Bool
def ve (D:kj) (area:Int):kj×Int:=
  if¬(0≤area∧Bf area.toNat D.secs.length) then(D,2)
  else
    let y:=Bd D 0 (List.replicate (2+2*area.toNat) zeros)
    if y.2≠0 then y else Aa y.1 0 area.toNat []
def xp:kj→Int→Nat→kj×List Bytes×Int
  |D,_,0=>(D,[],0)
  |D,at_,k+1=>
    let x:=D.read at_
    if x.2.2≠0 then(x.1,[],x.2.2) else
      let y:=xp x.1 (at_+1) k
      (y.1,x.2.1::y.2.1,y.2.2)
def C5:kj→Int→List Bytes→kj×Int
  |D,_,[]=>(D,0)
  |D,at_,b::r=>if b=zeros then C5 D (at_+1) r else if(D.write at_ zeros).2≠0 then D.write at_ zeros else C5 (D.write at_ zeros).1 (at_+1) r
def Cf (D:kj) (at_:Int) (rest:List Bytes):kj×Int:=
  let y:=C5 D at_ rest
  if y.2≠0 then y else if D.order=[]∧(∀b∈rest,b=zeros) then y else y.1.sync
def nwE (o:Option (Nat×Nat)):Int:=match o with|none=>140|some _=>0
def nwT (o:Option (Nat×Nat)):Nat:=match o with|none=>0|some (t,_)=>t
def xe (S:Nat):Nat→Nat→kj→Option (Nat×Nat)→kj×Int×Option (Nat×Nat)
  |0,_,D,o=>(D,nwE o,o)
  |k+1,i,D,o=>if(D.read i).2.2≠0 then((D.read i).1,(D.read i).2.2,none) else xe S k (i+1) (D.read i).1 (newer i S (D.read i).2.1 o)
def u1 (D:kj):kj×Int×Option (Nat×Nat):=xe D.secs.length 2 0 D none
def vm (D:kj) (turn n:Nat):kj×Int×Nat×Nat×List Bytes:=
  let z:=xp D (ua turn n) n
  if z.2.2≠0 then(z.1,z.2.2,0,0,[]) else
  let ps:=lyingB z.2.1 turn
  if ps=[] then(z.1,140,0,0,[]) else
  let c:=Cf z.1 ((ua turn n+u7 ps:Nat):Int) (z.2.1.drop (u7 ps))
  (c.1,c.2,turn,n,ps)
def ui (D:kj):kj×Int×Nat×Nat×List Bytes:=
  match u1 D with
  |(D',_,some (turn,n))=>vm D' turn n
  |(D',e,none)=>(D',e,0,0,[])
def Wl.opened (x:kj×Int×Nat×Nat×List Bytes):Wl:=⟨x.1,x.2.2.2.1,x.2.2.1,x.2.2.2.2,u7 x.2.2.2.2,false⟩
def Wl.refuses (W:Wl) (x:Bytes) (room:Int):Int:=
  if 40000<x.length then 3 else if W.broken=true then 8 else if room<kl x.length then 6 else 0
def Wl.append (W:Wl) (x:Bytes):Wl×Int:=
  let e:=W.refuses x ((W.size:Int)-W.used)
  if e≠0 then(W,e) else
  let y:=Bd W.D ((ua W.turn W.size+W.used:Nat):Int) (uw W.turn W.pieces.length x)
  if y.2≠0 then({W with D:=y.1,broken:=true},y.2) else({W with D:=y.1,broken:=false,pieces:=W.pieces++[x],used:=W.used+kl x.length},0)
def Wl.x3 (W:Wl) (x:Bytes):Wl×Int:=
  let e:=W.refuses x (if W.turn=4294967295 then 0 else W.size)
  if e≠0 then(W,e) else
  let y:=Aa W.D (W.turn+1) W.size x
  if y.2≠0 then({W with D:=y.1,broken:=true},y.2) else({W with D:=y.1,broken:=false,turn:=W.turn+1,pieces:=[x],used:=kl x.length},0)
/-! ### What holds of disks on the way -/
theorem kj.Ok.write {D:kj} {m:Nat} (h:D.Ok m) (i:Int) {b:Bytes} (hb:b.length=64):(D.write i b).1.Ok (m+2):=by
 unfold kj.write
 dsimp only
 have a:=h.begin i true
 split
 ·rename_i c
  have d:=kj.begin0 i true c
  refine a.put ?_ hb
  rw[(kj.Ac D i true).1]
  omega
 exact a.mono zo
theorem kj.Ok.sync {D:kj} {m:Nat} (h:D.Ok m):D.sync.1.Ok (m+1):=by
 unfold kj.sync
 dsimp only
 have h1:=h.begin 0 true
 split
 ·exact h1.settle _
 exact h1
theorem kj.Ok.read {D:kj} {m:Nat} (h:D.Ok m) (i:Int):(D.read i).1.Ok (m+1):=h.begin i false
theorem kj.zv3 (D:kj) (i:Int) (b:Bytes):(D.write i b).1.secs.length=D.secs.length:=by
 unfold kj.write
 dsimp only
 split
 ·simp[kj.put,(kj.Ac D i true).1]
 rw[(kj.Ac D i true).1]
theorem kj.sync_secs (D:kj):D.sync.1.secs.length=D.secs.length:=by
 unfold kj.sync
 dsimp only
 split
 ·simp[kj.settle,Ae,(kj.Ac D 0 true).1]
 rw[(kj.Ac D 0 true).1]
theorem kj.read_secs (D:kj) (i:Int):(D.read i).1.secs=D.secs:=(kj.Ac D i false).1
theorem zv0:∀(l:List Bytes) {D:kj} {m:Nat} (at_:Int),D.Ok m→(∀b∈l,b.length=64)→(Bd D at_ l).1.Ok (m+2*l.length+1)
 | [],D,m,at_,h,_=>h.sync
 |b::r,D,m,at_,h,hl=>by
  have h1:=h.write at_ (hl b zp)
  unfold Bd
  split
  ·exact h1.mono ze
  exact(zv0 r (at_+1) h1 fun x hx=>hl x (by simp[hx])).mono zc
theorem Bu:∀(l:List Bytes) (D:kj) (at_:Int),(Bd D at_ l).1.secs.length=D.secs.length
 | [],D,at_=>D.sync_secs
 |b::r,D,at_=>by
  unfold Bd
  split
  ·exact D.zv3 at_ b
  rw[Bu r,D.zv3]
theorem beginD_ok {D:kj} {m:Nat} (h:D.Ok m) (turn n:Nat) (x:Bytes):(Aa D turn n x).1.Ok (m+2*kl x.length+4):=by
 unfold Aa
 dsimp only
 have a:=zv0 (uw turn 0 x) (ua turn n:Int) h (Dc turn 0 x)
 rw[vq] at a
 split
 ·exact a.mono zo
 exact(zv0 [yq9 turn n] _ a fun b c=>by rw[List.mem_singleton.1 c];exact Co _ _).mono zp
theorem beginD_secs (D:kj) (turn n:Nat) (x:Bytes):(Aa D turn n x).1.secs.length=D.secs.length:=by
 unfold Aa
 dsimp only
 split
 ·rw[Bu]
 rw[Bu,Bu]
theorem layD_step {L:List Bytes} {k:Nat} (hk:k<L.length) (D:kj) (at_:Int):Bd D (at_+k) (L.drop k)=if(D.write (at_+k) (L.getD k [])).2≠0 then D.write (at_+k) (L.getD k []) else Bd (D.write (at_+k) (L.getD k [])).1 (at_+(k+1:Nat)) (L.drop (k+1)):=by
 have e:L.getD k []=L[k]:=by simp[hk]
 rw[List.drop_eq_getElem_cons hk,Bd,e,Int.natCast_add,←Int.add_assoc]
 rfl
theorem xz5 {D:kj} {area:Int} (h:¬(0≤area∧Bf area.toNat D.secs.length)):ve D area=(D,2):=if_pos h
theorem formatW_yes {D:kj} {a:Nat} (h:Bf a D.secs.length):ve D (a:Int)=if(Bd D 0 (List.replicate (2+2*a) zeros)).2≠0 then Bd D 0 (List.replicate (2+2*a) zeros) else Aa (Bd D 0 (List.replicate (2+2*a) zeros)).1 0 a []:=by
 unfold ve
 rw[if_neg (fun b=>b ⟨Int.natCast_nonneg a,by rw[Int.toNat_natCast];exact h⟩),Int.toNat_natCast]
theorem zeros_rep (n:Nat):∀b∈List.replicate n zeros,b.length=64:=fun b hb=>by rw[(List.mem_replicate.1 hb).2];exact zeros_length
theorem wipeD_zero {R:List Bytes} {i:Nat} (hi:i<R.length) (h:R[i]=zeros) (D:kj) (at_:Int):C5 D (at_+i) (R.drop i)=C5 D (at_+(i+1:Nat)) (R.drop (i+1)):=by
 rw[List.drop_eq_getElem_cons hi,C5,if_pos h,Int.natCast_add,←Int.add_assoc]
 rfl
theorem wipeD_step {R:List Bytes} {i:Nat} (hi:i<R.length) (h:R[i]≠zeros) (D:kj) (at_:Int):C5 D (at_+i) (R.drop i)=if(D.write (at_+i) zeros).2≠0 then D.write (at_+i) zeros else C5 (D.write (at_+i) zeros).1 (at_+(i+1:Nat)) (R.drop (i+1)):=by
 rw[List.drop_eq_getElem_cons hi,C5,if_neg h,Int.natCast_add,←Int.add_assoc]
 rfl
theorem wipeD_ok:∀(l:List Bytes) {D:kj} {m:Nat} (at_:Int),D.Ok m→(C5 D at_ l).1.Ok (m+2*l.length)
 | [],D,m,at_,h=>h
 |b::r,D,m,at_,h=>by
  unfold C5
  split
  ·exact(wipeD_ok r (at_+1) h).mono ze
  have h1:=h.write at_ zeros_length
  split
  ·exact h1.mono ze
  exact(wipeD_ok r (at_+1) h1).mono ze
theorem D3:∀(l:List Bytes) (D:kj) (at_:Int),(C5 D at_ l).1.secs.length=D.secs.length
 | [],D,at_=>rfl
 |b::r,D,at_=>by
  unfold C5
  split
  ·exact D3 r D _
  split
  ·exact D.zv3 _ _
  rw[D3 r,D.zv3]
theorem cleanD_ok {D:kj} {m:Nat} (h:D.Ok m) (at_:Int) (l:List Bytes):(Cf D at_ l).1.Ok (m+2*l.length+1):=by
 unfold Cf
 dsimp only
 have h1:=wipeD_ok l at_ h
 split
 ·exact h1.mono zo
 split
 ·exact h1.mono zo
 exact h1.sync
theorem cleanD_secs (D:kj) (at_:Int) (l:List Bytes):(Cf D at_ l).1.secs.length=D.secs.length:=by
 unfold Cf
 dsimp only
 split
 ·exact D3 _ _ _
 split
 ·exact D3 _ _ _
 rw[kj.sync_secs,D3]
theorem yj3:∀(k:Nat) (L:List Bytes),(∀b∈L,b.length=64)→(L.flatMap ge).drop (k*64)=(L.drop k).flatMap ge
 |0,L,_=>by simp
 |k+1,[],_=>by simp
 |k+1,b::L,h=>by
  rw[List.flatMap_cons,List.drop_succ_cons,←yj3 k L fun x hx=>h x (by simp[hx]),List.drop_append,kz (h b zp),List.drop_eq_nil_of_le (by rw[kz (h b zp)];omega),List.nil_append,show(k+1)*64-64=k*64 from by omega]
/-! ### Opening -/
def NwOk (S:Nat) (o:Option (Nat×Nat)):Prop:=∀t n,o=some (t,n)→Bf n S∧t<4294967296
theorem turnOf_lt {b:Bytes}:De b<4294967296:=by
 have h:=vl ((b.drop 12).take 4)
 have hl:((b.drop 12).take 4).length≤4:=by rw[List.length_take];omega
 have h2:256^((b.drop 12).take 4).length≤256^4:=Nat.pow_le_pow_right zd hl
 exact Nat.lt_of_lt_of_le h h2
theorem newer_ok {i S:Nat} {b:Bytes} {o:Option (Nat×Nat)} (h:NwOk S o):NwOk S (newer i S b o):=by
 intro t n e
 unfold newer at e
 split at e
 ·rename_i a
  cases o with
  |none=>simp at e;obtain⟨rfl,rfl⟩:=e;exact⟨a.2.1,turnOf_lt⟩
  |some x=>
   simp only at e
   split at e
   ·simp at e;obtain⟨rfl,rfl⟩:=e;exact⟨a.2.1,turnOf_lt⟩
   exact h t n e
 exact h t n e
theorem yw9 (S:Nat):∀(k i:Nat) (D:kj) (o:Option (Nat×Nat)) (m:Nat),NwOk S o→D.Ok m→
  ((xe S k i D o).1.Ok (m+k)∧(xe S k i D o).1.secs=D.secs∧(xe S k i D o).1.order=D.order)∧(((xe S k i D o).2.2=none∧(xe S k i D o).2.1≠0)∨∃t n,(xe S k i D o).2.2=some (t,n)∧(xe S k i D o).2.1=0∧Bf n S∧t<4294967296)
 |0,i,D,o,m,ho,hok=>by
  refine⟨⟨hok,rfl,rfl⟩,?_⟩
  cases o with
  |none=>exact .inl ⟨rfl,by simp[xe,nwE]⟩
  |some x=>exact .inr ⟨x.1,x.2,rfl,rfl,ho x.1 x.2 rfl⟩
 |k+1,i,D,o,m,ho,hok=>by
  have h1:=hok.read (i:Int)
  have h2:=kj.Ac D (i:Int) false
  unfold xe
  split
  ·rename_i he
   exact⟨⟨h1.mono zo,h2.1,h2.2⟩,.inl ⟨rfl,he⟩⟩
  obtain⟨⟨a1,a2,a3⟩,b⟩:=yw9 S k (i+1) (D.read i).1 (newer i S (D.read i).2.1 o) (m+1) (newer_ok ho) h1
  exact⟨⟨a1.mono zo,a2.trans h2.1,a3.trans h2.2⟩,b⟩
theorem xj5 {D:kj} {m:Nat} (hok:D.Ok m):((u1 D).1.Ok (m+2)∧(u1 D).1.secs=D.secs∧(u1 D).1.order=D.order)∧(((u1 D).2.2=none∧(u1 D).2.1≠0)∨∃t n,(u1 D).2.2=some (t,n)∧(u1 D).2.1=0∧Bf n D.secs.length∧t<4294967296):=
 yw9 D.secs.length 2 0 D none m (fun _ _ e=>by cases e) hok
theorem openW_no {D:kj} (h:(u1 D).2.2=none):ui D=((u1 D).1,(u1 D).2.1,0,0,[]):=by
 unfold ui
 generalize u1 D=x at h
 obtain⟨D',e,o⟩:=x
 dsimp only at h
 subst h
 rfl
theorem openW_yes {D:kj} {t n:Nat} (h:(u1 D).2.2=some (t,n)):ui D=vm (u1 D).1 t n:=by
 unfold ui
 generalize u1 D=x at h
 obtain⟨D',e,o⟩:=x
 dsimp only at h
 subst h
 rfl
theorem readsD_step (D:kj) (at_:Int) (k:Nat):xp D at_ (k+1)=if(D.read at_).2.2≠0 then((D.read at_).1,[],(D.read at_).2.2) else((xp (D.read at_).1 (at_+1) k).1,(D.read at_).2.1::(xp (D.read at_).1 (at_+1) k).2.1,(xp (D.read at_).1 (at_+1) k).2.2):=by
 rfl
theorem Bz (l:List Bytes) (b:Bytes):u7 (l++[b])=u7 l+kl b.length:=by simp[u7]
theorem liesB_some {L:List Bytes} {t n:Nat} {b:Bytes} (hL:∀s∈L,s.length=64) (h:Da L t n=some b):b.length≤40000∧kl b.length≤L.length∧uw t n b=L.take (kl b.length):=by
 cases L with
 |nil=>cases h
 |cons s r=>
  have h:(if 40000<xu s∨(s::r).length<kl (xu s) then none
   else if uw t n (((zw4 ((s::r).take (kl (xu s)))).drop 4).take (xu s))=(s::r).take (kl (xu s)) then some (((zw4 ((s::r).take (kl (xu s)))).drop 4).take (xu s)) else none)=some b:=h
  split at h
  ·cases h
  rename_i l
  split at h
  ·rename_i g
   simp only[Option.some.injEq] at h
   have i:xu s≤40000:=by omega
   have j:kl (xu s)≤(s::r).length:=by omega
   have c:(zw4 ((s::r).take (kl (xu s)))).length=48*kl (xu s):=by
    have:∀(L:List Bytes),(∀b∈L,b.length=64)→(zw4 L).length=48*L.length:=by
     intro L
     induction L with
     |nil=>intro _;rfl
     |cons a L ih=>
      intro h
      have e:zw4 (a::L)=a.drop 16++zw4 L:=rfl
      rw[e,List.length_append,List.length_drop,h a zp,ih fun x k=>h x (by simp[k]),List.length_cons]
      omega
    rw[this _ fun b d=>hL b (List.mem_of_mem_take d),List.length_take,Nat.min_eq_left j]
   have f:=xx1 i
   have d:b.length=xu s:=by rw[←h,List.length_take,List.length_drop,c];omega
   rw[h] at g
   rw[d]
   exact⟨i,j,g⟩
  cases h
theorem lyGo_step (t:Nat):∀(f:Nat) (area:List Bytes) (n:Nat),(∀s∈area,s.length=64)→area.length≤f→lyGo t f area n=match Da area t n with
  |none=>[]
  |some b=>b::lyGo t (f-1) (area.drop (kl b.length)) (n+1)
 |0,area,n,_,h=>by
  have:area=[]:=List.eq_nil_of_length_eq_zero zo
  subst this
  rfl
 |f+1,area,n,_,_=>rfl
theorem zeros_64 {n:Nat}:∀s∈List.replicate n zeros,s.length=64:=fun s hs=>by rw[(List.mem_replicate.1 hs).2];exact zeros_length
open Go.WideShapes Go.ChangeShapes Go.RowKit
section
variable {H:Type} {enc:TypeId×Value→H} {P:Program} {w w':World}
theorem Ext.sameAt (hE:Ext No w w') {p:MemPlace} (hp:p.block<w.heap.size):w.sameAt w' p:=by
 cases p with
 |cell b off=>
  have:=hE.same b hp id
  show w'.cell? ⟨b,off,none⟩=w.cell? ⟨b,off,none⟩
  unfold World.cell?
  rw[this]
 |map b=>exact hE.same b hp id
theorem xq0 {base:Nat} {sp:Nat→Bool} {held:Bool}:∀{ts:List TypeId} {vs:List Value} {ds:List (DataW H)} {ps:List MemPlace},DataW.TrodAll enc P w base sp held ts vs ds ps→(∀p∈ps,w.sameAt w' p)→DataW.TrodAll enc P w' base sp held ts vs ds ps
 | [],[],[],_,h,_=>h
 |_::_,_::_,_::_,_,⟨p,q,⟨n,h1⟩,h2,e⟩,hs=>⟨p,q,⟨n,DataW.trod_carry n _ _ _ h1 fun x hx=>hs x (by rw[e];exact List.mem_append_left _ hx)⟩,xq0 h2 fun x hx=>hs x (by rw[e];exact List.mem_append_right _ hx),e⟩
theorem post_of_old {f:Func} {s:ChangeSpec} {apart fresh handsOn again:Bool} {W W':World} {args:Array Value} {v:Value} {ds gs:List (DataW H)} {before pa pv:List MemPlace}
  (hW:DataW.Whole enc P f.params.toList s.vars apart W args.toList ds gs before)
  (hres:∀(b:Nat) (sp:Nat→Bool) (hd:Bool),DataW.TrodAll enc P W' b sp hd f.resultTypes.toList (v.resultList f.resultTypes.size) (s.fn H (ds++gs)).results [])
  (hargs:∀sp:Nat→Bool,(∀p∈before,sp p.block=true)→DataW.TrodAll enc P W' 0 sp true f.params.toList args.toList (s.fn H (ds++gs)).args pa)
  (hvars:∀sp:Nat→Bool,(∀p∈before,sp p.block=true)→DataW.TrodVars enc P W' sp s.vars (s.fn H (ds++gs)).vars pv)
  (hps:before=pa++pv) (hk:W.keptBut W' (·∈before)) (hfz:∀a:Addr,a.block<W.heap.size→W'.frozen? a=W.frozen? a)
  (hok:∀(j:Nat) (t:TypeId) (r:Value),f.resultTypes[j]? =some t→(v.resultList f.resultTypes.size)[j]? =some r→Value.okWide P W' .any 0 t r):
  s.post enc P f apart fresh handsOn again W args v W':=by
 have e:∀p∈before,p.block<W.heap.size:=fun p c=>hW.lt p c
 have d:∀p∈before,(fun b=>decide (b<W.heap.size)) p.block=true:=fun p c=>by simpa using e p c
 have h:∀p,p∈[]++pa++pv↔p∈before:=fun p=>by rw[hps,List.nil_append]
 refine⟨ds,gs,before,[],pa,pv,hW,hres _ _ _,hargs _ d,hvars _ d,World.keptBut_mono (fun p c=>⟨c,.inr (List.mem_append.1 (hps▸c))⟩) hk,fun _=> ?_⟩
 obtain⟨_,_,_,_,_,k,l⟩:=hW
 refine⟨hok,_,_,([]++pa)++pv,⟨[]++pa,pv,trodAll_append (hargs _ (fun _ _=>rfl)) (hres _ _ _),hvars _ (fun _ _=>rfl),rfl,fun b g c=> ?_,fun m=> ?_⟩,fun p c _=>(h p).1 c⟩
 ·have i:=(h _).1 c
  rw[hfz _ (e _ i)]
  exact k b g i
 have:=l m
 rw[hps] at this
 exact this
theorem post_true {f:Func} {s:ChangeSpec} {fresh handsOn again:Bool} {W W':World} {args:Array Value} {ds gs:List (DataW H)} {before:List MemPlace} (hl:laidOutB P=true) (hm:mapsRowed P=true) (hz:((List.range P.types.size).all fun t=>match P.underlying t with|some (.slice e)=>decide (0<P.cellsOf e)|_=>true)=true)
  (hW:DataW.Whole enc P f.params.toList s.vars false W args.toList ds gs before) (hv:s.vars=[]) (hts:f.params.toList.all (fun t=>decide (t<P.types.size))=true)
  {tb:TypeId} (hrt:f.resultTypes= #[tb]) (htb:P.underlying tb=some .bool) (hr:(s.fn H (ds++gs)).results=[.lit (.bool true)]) (ha:(s.fn H (ds++gs)).args=ds) (hvr:(s.fn H (ds++gs)).vars=[]) (hE:Ext No W W'):
  s.post enc P f false fresh handsOn again W args (.bool true) W':=by
 have b:=hW
 obtain⟨p,q,g,h,rfl,_,_⟩:=hW
 rw[hv] at h
 obtain⟨rfl,rfl⟩:=trodVars_none h
 refine post_of_old (pa:=p) (pv:=[]) b (fun _ _ _=> ?_) (fun j c=> ?_) (fun _ _=> ?_) zp (World.keptBut_mono (fun _ f=>f.elim) (hE.kept fun _ _=>id)) (fun a ha=>hE.froz ha id) ?_
 ·rw[hrt,hr]
  exact trodAll_cons_mk (RowKit.shut_bool htb true) trodAll_mk0
 ·rw[ha]
  refine xq0 (g.respare (kids_rows hl hm) (slices_full_of P hz) (fun t i=>by simpa using List.all_eq_true.1 hts t i) fun x d=>c x (by simpa using d)) fun x d=> ?_
  exact hE.sameAt (g.lt x d)
 ·rw[hv,hvr];rfl
 exact ok_one hrt rfl (RowKit.okWide_bool_mk htb true)
theorem cells?_seg {a:Addr} {m:Nat} {r:List Value} (h:w.cells? 0 a m=some r) (hm:0<m):a=⟨a.block,a.off,none⟩∧r.length=m∧Seg w a.block a.off r∧a.block<w.heap.size:=by
 have hlt:=World.cells?_block h hm
 unfold World.cells? at h
 rw[if_pos (Nat.zero_le _)] at h
 have hlen:=mapM_some_length h
 have hget:∀i,i<m→w.cell? (a.add i)=r[i]? :=fun i hi=>mapM_some_get h i i (by simp[hi])
 simp only[List.length_range] at hlen
 have hspot:a.spot=none:=by
  have h0:=hget 0 hm
  have hr0:r[0]? =some r[0]:=by simp
  rw[hr0] at h0
  have e:a.add 0=a:=by simp[Addr.add]
  rw[e] at h0
  unfold World.cell? at h0
  split at h0
  ·split at h0
   ·cases h0
   rename_i hs;simpa using hs
  cases h0
 have ha:a=⟨a.block,a.off,none⟩:=by rw[←hspot]
 refine⟨ha,hlen,fun i v hv=> ?_,hlt⟩
 have hi:i<m:=by
  have:=(List.getElem?_eq_some_iff.1 hv).1
  omega
 have hi':=hget i hi
 rw[hv] at hi'
 have e:a.add i=⟨a.block,a.off+i,none⟩:=by rw[ha];exact addr_add _ _ _
 rw[e] at hi'
 exact hi'
theorem rows_seg {b m:Nat}:∀{L:List (List Value)} {off:Nat},Uni m L→(∀(i:Nat) (r:List Value),L[i]? =some r→Seg w b (off+i*m) r)→Seg w b off L.flatten
 | [],_,_,_=>fun i v hv=>by simp at hv
 |r::L,off,hu,h=>by
  rw[List.flatten_cons,Seg.append]
  have hr:=hu r zp
  refine⟨by simpa using h 0 r rfl,?_⟩
  rw[hr]
  refine rows_seg (fun x hx=>hu x (by simp[hx])) fun i x hx=> ?_
  have:=h (i+1) x (by simpa using hx)
  rwa [show off+(i+1)*m=off+m+i*m from by rw[Nat.succ_mul];omega] at this
theorem open_rows {sp:Nat→Bool} {held:Bool} {fuel:Nat} {t e m:Nat} {cs:List Value} {x:DataW H×List MemPlace} (ht:P.underlying t=some (.slice e)) (hm:P.cellsOf e=m) (hm0:0<m) (h:DataW.trod enc P w 0 sp held fuel t cs=some x):
  ∃(p:Option Addr) (n c:Nat) (L:List (List Value)),cs=[.slice p n c]∧n≤c∧c≤maxLen∧L.length=n∧Uni m L∧Sl w p n m L.flatten∧(n≠0→∀b off,p=some ⟨b,off,none⟩→b<w.heap.size)∧
   ∀r∈L,∃k y,DataW.trod enc P w 0 sp held k e r=some y:=by
 subst hm
 rcases DataW.trod_slice ht h with⟨q,_⟩|⟨a,d,v,z,F,n,_,q,_,_,M,N,G,A,_⟩
 ·exact⟨none,0,0,[],q,Nat.le_refl _,by unfold maxLen;omega,rfl,Uni.nil _,Sl.nil _ _ _,fun h=>absurd rfl h,fun r g=>by cases g⟩
 have s:∀i,i<d→∃r y,w.cells? 0 (a.add (i*P.cellsOf e)) (P.cellsOf e)=some r∧DataW.trod enc P w 0 sp held n e r=some y:=by
  intro i o
  have:=A i o
  rw[List.getElem?_eq_getElem zo,Option.bind_eq_some_iff] at this
  obtain⟨r,B,C⟩:=this
  exact⟨r,_,B,C⟩
 have f:∀i:_root_.Fin d,∃r y,w.cells? 0 (a.add (i.1*P.cellsOf e)) (P.cellsOf e)=some r∧DataW.trod enc P w 0 sp held n e r=some y:=fun i=>s i.1 i.2
 let L:List (List Value):=List.ofFn fun i:_root_.Fin d=>Classical.choose (f i)
 have u:∀(i:Nat) (r:List Value),L[i]? =some r→i<d∧w.cells? 0 (a.add (i*P.cellsOf e)) (P.cellsOf e)=some r∧∃y,DataW.trod enc P w 0 sp held n e r=some y:=by
  intro i r g
  have o:i<d:=by
   have:=(List.getElem?_eq_some_iff.1 g).1
   simpa [L] using this
  have:r=Classical.choose (f ⟨i,o⟩):=by
   simp only[L,List.getElem?_ofFn,o,dif_pos,Option.some.injEq] at g
   exact g.symm
  subst this
  obtain⟨y,B,C⟩:=Classical.choose_spec (f ⟨i,o⟩)
  exact⟨o,B,y,C⟩
 have j:L.length=d:=by simp[L]
 have D:Uni (P.cellsOf e) L:=fun r g=>by
  obtain⟨i,o,rfl⟩:=List.mem_iff_getElem.1 g
  have:=u i L[i] zp
  exact(cells?_seg this.2.1 hm0).2.1
 refine⟨some a,d,v,L,q,M,N,j,D,⟨by rw[A4 D,j],?_⟩,?_,fun r g=> ?_⟩
 ·rcases Nat.eq_zero_or_pos d with I|I
  ·exact .inl I
  right
  have l:=u 0 L[0] zp
  have E:a.add (0*P.cellsOf e)=a:=by simp[Addr.add]
  rw[E] at l
  have J:=(cells?_seg l.2.1 hm0).1
  refine⟨a.block,a.off,congrArg some J,rows_seg D fun i r g=> ?_⟩
  have o:=u i r g
  have:=(cells?_seg o.2.1 hm0).2.2.1
  have O:a.add (i*P.cellsOf e)=⟨a.block,a.off+i*P.cellsOf e,none⟩:=by
   conv=>lhs;rw[J]
   exact addr_add _ _ _
  rw[O] at this
  exact this
 ·intro R b off K
  have l:=u 0 (L[0]'zo) zp
  have E:a.add (0*P.cellsOf e)=a:=by simp[Addr.add]
  rw[E] at l
  have:=(cells?_seg l.2.1 hm0).2.2.2
  simp only[Option.some.injEq] at K
  rw[K] at this
  exact this
 obtain⟨i,o,rfl⟩:=List.mem_iff_getElem.1 g
 obtain⟨_,_,y,Q⟩:=u i L[i] zp
 exact⟨n,y,Q⟩
end
end Go.Vc
namespace Go.Proofs.YtpdiphfjmepijaaGreatDoor
open Go.Proofs.Tryz
open Go.Vc
abbrev dskL (sb n:Nat) (op:Option Addr) (on oc:Nat) (dead:Bool) (fu fa dn:Int):List Value:=
  [.slice (some ⟨sb,0,none⟩) n n,.slice op on oc,.bool dead,.int .i64 fu,.int .i64 fa,.int .i64 dn]
theorem alive_live (w:World) {d sb n:Nat} {op:Option Addr} {on oc:Nat} {dead:Bool} {fu fa dn:Int} (hb:j0 w d 153 (dskL sb n op on oc dead fu fa dn)):
  gn prog 148 [.pointer (some ⟨d,0,none⟩)] w fun v w'=>v= .int .i64 (if dead then 9 else 0)∧w'=w:=by
 refine gx func148 ?_
 refine je rfl (gk (je rfl (ur rfl ?_)))
 refine xz (qc rfl (jb hb rfl rfl (qr (vj rfl (fun h=> ?_) (fun h=> ?_)))))
 ·refine je rfl (gq (gp (gu rfl rfl ⟨by simp[h],rfl⟩)))
 refine j7 (j1 (je rfl (gq (gu rfl rfl ⟨by simp[h],rfl⟩))))
theorem zx4 (w:World) {d sb n:Nat} {op:Option Addr} {on oc:Nat} {dead:Bool} {fu fa dn:Int} (i:Int) (burns:Bool) {g:Nat} {caps:Array Value}
  (hcf:∀args w,(callFunc g args).run prog w= .ok (.enter g args) w)
  (hb:j0 w d 153 (dskL sb n op on oc dead fu fa dn)) (hfu: -1≤fu∧fu<9223372036854775808) (hfa: -1≤fa∧fa<9223372036854775808) (hdn:0≤dn∧dn<9223372036854775807) (R:Value→World→Prop)
  (hdead:dead=true→R (.int .i64 9) w)
  (harg:dead=false→¬(0≤i∧i<n)→R (.int .i64 2) w)
  (hio:dead=false→0≤i∧i<n→fa=0→∀w',j0 w' d 153 (dskL sb n op on oc false fu (-1) dn)→Ext (One d) w w'→R (.int .i64 8) w')
  (hfuse:dead=false→0≤i∧i<n→fa≠0→burns=true→fu=0→∀w',j0 w' d 153 (dskL sb n op on oc true (-1) (uy fa) dn)→Ext (One d) w w'→R (.int .i64 9) w')
  (hgo:dead=false→0≤i∧i<n→fa≠0→¬(burns=true∧fu=0)→∀w',j0 w' d 153 (dskL sb n op on oc false (A8 burns fu) (uy fa) (dn+1))→Ext (One d) w w'→
   gn prog g ([.pointer (some ⟨sb,i.toNat*65,none⟩)]++caps.toList) w' fun _ w2=>R (.int .i64 0) w2):
  gn prog 149 [.pointer (some ⟨d,0,none⟩),.int .i64 i,.bool burns,.func (.func g) #[] caps] w R:=by
 refine gx func149 ?_
 refine je rfl (gk (qc rfl (gi call148 rfl (alive_live w hb) fun B x o=> ?_)))
 obtain⟨rfl,rfl⟩:=o
 cases dead
 case true=>
  refine jz rfl (je rfl (C3 rfl ?_))
  exact je rfl (gq (gp (gu rfl rfl (hdead rfl))))
 refine jz rfl (je rfl (ur rfl ?_))
 refine xz (jv (α:=Bool) [0,1,2,3] rfl (fun z=>[(25,.bool z)]) (fun z u=>u=x∧z=decide (¬(0≤i∧i<n))) ?_ ?_)
 ·refine yv rfl (jo 17 rfl (fun j=> ?_) (fun j=> ?_))
  ·refine yx6 gc rfl (gm (gz true rfl ⟨rfl,?_⟩))
   simp;omega
  refine yx6 gc rfl (jb hb rfl rfl (yx6 gc rfl (gm (gz _ rfl ⟨rfl,?_⟩))))
  simp only[decide_eq_decide];omega
 rintro z w ⟨rfl,rfl⟩
 refine jl rfl (fun b=> ?_) (fun b=> ?_)
 ·exact je rfl (gq (gp (gu rfl rfl (harg rfl b))))
 have p:0≤i∧i<n:=Decidable.not_not.1 b
 refine j7 (j1 (jv (α:=Unit) [0,1,2,3] rfl (fun z=>[]) (fun z u=>fa≠0∧j0 u d 153 (dskL sb n op on oc false fu (uy fa) dn)∧Ext (One d) w u) ?_ ?_))
 ·refine gk ?_
  refine yv rfl (jb hb rfl rfl (jz rfl (jl rfl (fun b=> ?_) (fun b=> ?_))))
  ·refine gk ?_
   refine yv rfl (jb hb rfl rfl (j9 gc rfl ?_))
   rw[kg _ zo]
   refine ky hb rfl rfl rfl fun w2 c a k=> ?_
   refine qr (qc rfl (jb c rfl rfl (jz rfl (jl rfl (fun b=> ?_) (fun b=> ?_)))))
   ·refine je rfl (gq (gp (gu rfl rfl ?_)))
    rw[b] at c
    exact hio rfl p zo w2 c a
   refine j7 (gz () rfl ⟨by omega,?_,a⟩)
   rw[show uy fa=fa-1 from if_neg zo]
   exact c
  refine j7 (gz () rfl ⟨by omega,?_,Ext.refl _ _⟩)
  rw[show uy fa=fa from by unfold uy;split<;>omega]
  exact hb
 rintro⟨⟩ w2 ⟨f,hb,l⟩
 refine jv (α:=Unit) [0,1,3] rfl (fun z=>[]) (fun z u=>¬(burns=true∧fu=0)∧j0 u d 153 (dskL sb n op on oc false (A8 burns fu) (uy fa) dn)∧Ext (One d) w u) ?_ ?_
 ·refine jv (α:=Bool) [0,1,3] rfl (fun z=>[(50,.bool z)]) (fun z u=>u=w2∧z=decide (burns=true∧fu≠-1)) ?_ ?_
  ·refine yv rfl (vb 44 rfl (fun j=> ?_) (fun j=> ?_))
   ·refine yx6 gc rfl (jb hb rfl rfl (yx6 gc rfl (gm (gz _ rfl ⟨rfl,?_⟩))))
    simp[j]
   refine yx6 gc rfl (gm (gz false rfl ⟨rfl,?_⟩))
   simp[j]
  rintro z s ⟨rfl,rfl⟩
  refine jl rfl (fun b=> ?_) (fun b=> ?_)
  ·refine qc rfl (jb hb rfl rfl (j9 gc rfl ?_))
   rw[kg _ zo]
   refine ky hb rfl rfl rfl fun t hb a k=> ?_
   refine qr (qc rfl (jb hb rfl rfl (j9 gc rfl (ky hb rfl rfl rfl fun y hb m A=> ?_))))
   refine qr (qc rfl (jb hb rfl rfl (qr (jl rfl (fun v=> ?_) (fun v=> ?_)))))
   ·refine je rfl (gq (gp (gu rfl rfl ?_)))
    have e:fu=0:=by omega
    subst e
    exact hfuse rfl p f b.1 rfl y (by simpa using hb) (l.then (a.then m))
   refine j7 (gz () rfl ⟨by omega,?_,l.then (a.then m)⟩)
   rw[show A8 burns fu=fu-1 from if_pos b]
   simpa [v] using hb
  refine j7 (gz () rfl ⟨fun h=>b ⟨h.1,by omega⟩,?_,l⟩)
  rw[show A8 burns fu=fu from if_neg b]
  exact hb
 rintro⟨⟩ s ⟨q,hb,l⟩
 refine qc rfl (jb hb rfl rfl (j9 gc rfl ?_))
 rw[kg _ zo]
 refine ky hb rfl rfl rfl fun t hb a k=> ?_
 refine qr (qc rfl (jb hb rfl rfl (j9 gc rfl (ki rfl 65 rfl i.toNat zo zo (i.toNat*65) zo ?_))))
 refine gi hcf rfl (hgo rfl p f q t hb (l.then a)) fun C s r=> ?_
 exact qr (je rfl (gq (gu rfl rfl r)))
def TyB (w:World) (b T:Nat):Prop:=∃l,j0 w b T l
theorem TyB.ext {S:Nat→Prop} {w w':World} {b T:Nat} (h:TyB w b T) (hE:Ext S w w') (hS:¬S b):TyB w' b T:=let⟨l,hl⟩:=h;⟨l,hl.ext hE hS⟩
theorem TyB.ne {w:World} {b c T U:Nat} {l:List Value} (h:TyB w b T) (k:j0 w c U l) (hT:T≠U):b≠c:=let⟨_,hl⟩:=h;hl.ne k hT
def bl (ws:List Bytes):List (List Value):=ws.map ge
def vn (s:Bytes) (p:Option Addr) (n c:Nat):List Value:=ge s++[.slice p n c]
def yq1 (w:World) (F:Nat→Prop) (p:Option Addr) (ws:List Bytes):Prop:=
  Sl w p ws.length 64 (bl ws).flatten∧∀b off,p=some ⟨b,off,none⟩→F b∧TyB w b 165
def yq7 (w:World) (F:Nat→Prop) (s:Sec) (r:List Value):Prop:=
  ∃p c,r=vn s.safe p s.waits.length c∧s.waits.length≤c∧s.safe.length=64∧(∀b∈s.waits,b.length=64)∧yq1 w F p s.waits
theorem yq1.ext {S F:Nat→Prop} {w w':World} {p:Option Addr} {ws:List Bytes} (h:yq1 w F p ws) (hE:Ext S w w') (hS:∀b,F b→TyB w b 165→¬S b):yq1 w' F p ws:=
 ⟨h.1.ext hE fun b off hp=>hS b (h.2 b off hp).1 (h.2 b off hp).2,fun b off hp=>⟨(h.2 b off hp).1,(h.2 b off hp).2.ext hE (hS b (h.2 b off hp).1 (h.2 b off hp).2)⟩⟩
theorem yq1.mono {F F':Nat→Prop} {w:World} {p:Option Addr} {ws:List Bytes} (h:yq1 w F p ws) (hF:∀b,F b→F' b):yq1 w F' p ws:=⟨h.1,fun b off hp=>⟨hF b (h.2 b off hp).1,(h.2 b off hp).2⟩⟩
theorem yq7.ext {S F:Nat→Prop} {w w':World} {s:Sec} {r:List Value} (h:yq7 w F s r) (hE:Ext S w w') (hS:∀b,F b→TyB w b 165→¬S b):yq7 w' F s r:=by
 obtain⟨p,c,h1,h2,h3,h4,h5⟩:=h
 exact⟨p,c,h1,h2,h3,h4,h5.ext hE hS⟩
theorem yq7.mono {F F':Nat→Prop} {w:World} {s:Sec} {r:List Value} (h:yq7 w F s r) (hF:∀b,F b→F' b):yq7 w F' s r:=by
 obtain⟨p,c,h1,h2,h3,h4,h5⟩:=h
 exact⟨p,c,h1,h2,h3,h4,h5.mono hF⟩
theorem yq7.len {w:World} {F:Nat→Prop} {s:Sec} {r:List Value} (h:yq7 w F s r):r.length=65:=by
 obtain⟨p,c,rfl,_,h3,_⟩:=h
 simp[vn,ge,h3]
def z6 (w:World) (F:Nat→Prop) (secs:List Sec) (L:List (List Value)):Prop:=
  L.length=secs.length∧∀(i:Nat) (s:Sec) (r:List Value),secs[i]? =some s→L[i]? =some r→yq7 w F s r
theorem z6.uni {w:World} {F:Nat→Prop} {secs:List Sec} {L:List (List Value)} (h:z6 w F secs L):Uni 65 L:=fun r hr=>by
 obtain⟨i,hi,rfl⟩:=List.mem_iff_getElem.1 hr
 exact(h.2 i (secs[i]'(by rw[←h.1];exact hi)) L[i] zp zp).len
theorem z6.ext {S F:Nat→Prop} {w w':World} {secs:List Sec} {L:List (List Value)} (h:z6 w F secs L) (hE:Ext S w w') (hS:∀b,F b→TyB w b 165→¬S b):z6 w' F secs L:=
 ⟨h.1,fun i s r hs hr=>(h.2 i s r hs hr).ext hE hS⟩
theorem z6.mono {F F':Nat→Prop} {w:World} {secs:List Sec} {L:List (List Value)} (h:z6 w F secs L) (hF:∀b,F b→F' b):z6 w F' secs L:=
 ⟨h.1,fun i s r hs hr=>(h.2 i s r hs hr).mono hF⟩
abbrev zx5 (l:List Nat):List Value:=l.map fun i:Nat=>Value.int .i64 (i:Int)
structure vr (w:World) (d sb:Nat) (op:Option Addr) (oc:Nat) (F:Nat→Prop) (D:kj):Prop where
  head:j0 w d 153 (dskL sb D.secs.length op D.order.length oc D.dead D.fuse D.fault D.done)
  secs:∃L,j0 w sb 218 (List.flatten L)∧z6 w F D.secs L
  order:Own w op D.order.length oc 3 1 (zx5 D.order)
  own:F d∧F sb∧∀x,jd op x→F x
  lt:∀x,F x→x<w.heap.size
theorem vr.ext {S F:Nat→Prop} {w w':World} {d sb oc:Nat} {op:Option Addr} {D:kj} (h:vr w d sb op oc F D) (hE:Ext S w w') (hS:∀x,F x→¬S x):vr w' d sb op oc F D:=by
 obtain⟨L,c,e⟩:=h.secs
 exact⟨h.head.ext hE (hS d h.own.1),⟨L,c.ext hE (hS sb h.own.2.1),e.ext hE fun b f _=>hS b f⟩,h.order.ext hE fun x a=>hS x (h.own.2.2 x a),h.own,fun x a=>Nat.lt_of_lt_of_le (h.lt x a) hE.size⟩
theorem vr.ga {F:Nat→Prop} {w w':World} {d sb oc:Nat} {op:Option Addr} {D:kj} (h:vr w d sb op oc F D) (hE:Ext No w w'):vr w' d sb op oc F D:=h.ext hE fun _ _=>id
theorem vr.extNew {F:Nat→Prop} {w w':World} {d sb oc b:Nat} {op:Option Addr} {D:kj} (h:vr w d sb op oc F D) (hE:Ext (One b) w w') (hb:¬F b):vr w' d sb op oc F D:=h.ext hE fun _x hx e=>hb (e▸hx)
theorem Own.ty {w:World} {p:Option Addr} {n c T sz:Nat} {xs:List Value} (h:Own w p n c T sz xs) {x:Nat} (hx:jd p x):TyB w x T:=by
 rcases h with⟨hp,_⟩|⟨b,l,hp,hb,_⟩
 ·rw[hp] at hx;cases hx
 rw[hp] at hx
 obtain rfl:b=x:=by simpa using hx
 exact⟨l,hb⟩
theorem vr.yq2 {F:Nat→Prop} {w w':World} {d sb oc:Nat} {op:Option Addr} {D D':kj} (h:vr w d sb op oc F D) (hs:D'.secs=D.secs) (ho:D'.order=D.order) (hb:j0 w' d 153 (dskL sb D.secs.length op D.order.length oc D'.dead D'.fuse D'.fault D'.done)) (hE:Ext (One d) w w'):vr w' d sb op oc F D':=by
 obtain⟨L,c,f⟩:=h.secs
 have g:z6 w' F D.secs L:=f.ext hE fun b _ hb e=>hb.ne h.head zd e
 have i:=h.order.ext hE fun _ a e=>(Own.ty h.order a).ne h.head zd e
 exact⟨by rw[hs,ho];exact hb,⟨L,c.gj hE (c.ne h.head zd),by rw[hs];exact g⟩,by rw[ho];exact i,h.own,fun x a=>Nat.lt_of_lt_of_le (h.lt x a) hE.size⟩
theorem dk_now (w:World) {sb i:Nat} {L:List (List Value)} (hb:j0 w sb 218 L.flatten) (hu:Uni 65 L) {s:Sec} {r:List Value} (hr:L[i]? =some r) {F:Nat→Prop} (hs:yq7 w F s r) (hfew:s.waits.length<4611686018427387904):
  gn prog 151 [.pointer (some ⟨sb,i*65,none⟩)] w fun v w'=>v=numB s.now∧Ext No w w':=by
 obtain⟨p,c,l,G,o,z,H,_⟩:=hs
 have q:w.cell? ⟨sb,i*65+64,none⟩=some (.slice p s.waits.length c):=by
  refine hb.cell ?_
  rw[yz9 hu hr zd,l]
  simp[vn,ge,o]
 have t:Seg w sb (i*65) (ge s.safe):=by
  have:=(hb.ko.drop (i*65)).take 64
  rw[Nat.zero_add] at this
  have e:=rows_part hu hr (j:=0) (n:=64) zd
  rw[Nat.add_zero] at e
  rw[e,l] at this
  simpa [vn,ge,o] using this
 refine gx func151 ?_
 have h:=Ext.refl No w
 refine qa (gw rfl fun K M I d f=> ?_)
 have A:=Nat.le_trans h.size I
 have h:=h.gb f
 have N:=f
 have b:=Cv q f id
 have k:=t.ga f
 have B:=H.ga f
 refine qr (gk (qc rfl (gy rfl b (jz rfl (je rfl (jl rfl (fun G=> ?_) (fun G=> ?_)))))))
 ·have O:s.waits≠[]:=fun e=>by rw[e] at G;simp at G
  obtain⟨P,m,rfl,C⟩:=B.2.resolve_left zo
  have D:Uni 64 (bl s.waits):=Uni.map fun x Q=>by simp[ge,z x Q]
  have g:(bl s.waits)[s.waits.length-1]? =some (ge s.now):=by
   unfold bl Sec.now
   rw[List.getElem?_map,List.getLast?_eq_getElem?]
   have:s.waits.length-1<s.waits.length:=by omega
   simp[this]
  have u:Seg M P (m+(s.waits.length-1)*64) (ge s.now):=by
   have:=(C.drop ((s.waits.length-1)*64)).take 64
   rw[rows_row D g] at this
   exact this
  have a:(ge s.now).length=64:=D.get g
  refine qc rfl (gy rfl b (j9 gc rfl ?_))
  rw[kg _ zo]
  refine ki rfl 64 rfl (s.waits.length-1) zo zo (m+(s.waits.length-1)*64) rfl (jr rfl u a ?_)
  refine wl (j8 gc d rfl rfl a (by rw[ju,a];rfl) Bv fun R d y J=> ?_)
  have h:=h.gh y A
  refine qr (gq (gp (qz [_] ⟨⟨K,0,rfl,u0 gc rfl rfl d.ko a⟩,trivial⟩ ?_)))
  exact⟨rfl,h⟩
 have S:s.waits=[]:=List.eq_nil_of_length_eq_zero zo
 have E:s.now=s.safe:=by simp[Sec.now,S]
 have a:(ge s.safe).length=64:=by simp[ge,o]
 refine j7 ?_
 refine j1 (qc rfl (jr rfl k a (wl (j8 gc d rfl rfl a (by rw[ju,a];rfl) Bv fun R d y J=> ?_))))
 have h:=h.gh y A
 refine qr (gq (qz [_] ⟨⟨K,0,rfl,u0 gc rfl rfl d.ko a⟩,trivial⟩ ?_))
 exact⟨by rw[E];rfl,h⟩
theorem dk_readIn (w:World) {sb i x:Nat} {L:List (List Value)} (hb:j0 w sb 218 L.flatten) (hu:Uni 65 L) {s:Sec} {r:List Value} (hr:L[i]? =some r) {F:Nat→Prop} (hs:yq7 w F s r) (hfew:s.waits.length<4611686018427387904) {l:List Value} (hx:j0 w x 165 l) (hl:l.length=64) (hnow:s.now.length=64):
  gn prog 150 ([.pointer (some ⟨sb,i*65,none⟩)]++ #[Value.pointer (some ⟨x,0,none⟩)].toList) w fun _ w'=>j0 w' x 165 (ge s.now)∧Ext (One x) w w':=by
 refine gx func150 ?_
 refine yv rfl (gi call151 rfl (dk_now w hb hu hr hs hfew) fun g h c=> ?_)
 obtain⟨rfl,a⟩:=c
 have b:(ge s.now).length=64:=by simp[ge,hnow]
 refine wl (j8 gc (hx.ga a) rfl rfl b (by rw[hl];exact b) Bv fun j d e f=> ?_)
 refine gm (y9 rfl ?_)
 exact⟨d,a.no.then e⟩
theorem zv2 {D:kj} {m:Nat} (hok:D.Ok m) (i:Nat):(D.now i).length=64:=by
 rw[kj.now]
 cases hs:D.secs[i]? with
 |none=>exact zeros_length
 |some s=>
  have a:=hok.safe s (List.mem_of_getElem? hs)
  simp only[Option.map_some,Option.getD_some,Sec.now]
  cases hl:s.waits.getLast? with
  |none=>exact a.1
  |some b=>exact a.2 b (List.mem_of_getLast? hl)
theorem waits_few {D:kj} {m:Nat} (hok:D.Ok m) {i:Nat} {s:Sec} (hs:D.secs[i]? =some s):s.waits.length≤m:=by
 rw[hok.count i s hs]
 exact Nat.le_trans List.count_le_length hok.few
theorem dk_read (w:World) {d sb oc m:Nat} {F:Nat→Prop} {op:Option Addr} {D:kj} (h:vr w d sb op oc F D) (hok:D.Ok m) (hm:m<1000000000) (i:Int):
  gn prog 78 [.pointer (some ⟨d,0,none⟩),.int .i64 i] w fun v w'=>v= .tuple #[numB (D.read i).2.1,.int .i64 (D.read i).2.2]∧vr w' d sb op oc F (D.read i).1∧Ext (One d) w w':=by
 refine gx func78 ?_
 have hX:=Ext.refl (One d) w
 refine qa (gw rfl fun b4 w1 hn4 hb4 hE1=> ?_)
 have fr4:=Nat.le_trans hX.size hn4
 have hX:=hX.gb hE1
 have hF4:¬F b4:=fun e=>by have:=h.lt b4 e;omega
 have hd4:d≠b4:=fun e=>hF4 (e▸h.own.1)
 have h:=h.ga hE1
 have hb4:j0 w1 b4 165 (ge zeros):=by
  have e:cellsOf ti165.zero=ge zeros:=by simp[ti165,zeros,ge]
  rw[←e];exact hb4
 have hop:=zx4 w1 i false call150 h.head hok.fuse hok.fault ⟨hok.done.1,by have:=hok.done.2;omega⟩
  (fun v w'=>v= .int .i64 (D.read i).2.2∧vr w' d sb op oc F (D.read i).1∧j0 w' b4 165 (ge (D.read i).2.1)∧Ext (fun x=>x=d∨x=b4) w1 w') (caps:= #[.pointer (some ⟨b4,0,none⟩)])
  (fun hd=> ?_) (fun hd hi=> ?_) (fun hd hi hf w' hb' hE=> ?_) (fun hd hi hf hbu hfu w' hb' hE=> ?_) (fun hd hi hf hbu w' hb' hE=> ?_)
 ·refine jz rfl (qc rfl (gi call149 rfl hop fun v2 w2 hr2=> ?_))
  obtain⟨rfl,h,hb4,hE2⟩:=hr2
  have hl:(ge (D.read i).2.1).length=64:=by
   unfold ge
   rw[List.length_map]
   unfold kj.read
   dsimp only
   split
   ·exact zv2 (hok.begin i false) _
   exact zeros_length
  have hX:Ext (One d) w w2:=hX.trans hE2 fun x hx e=>e.resolve_right zo
  refine jz rfl (qa (jh hb4 rfl hl (j9 gc rfl (wl (j8 gc hb4 rfl rfl hl (by rw[ju]) Bv fun w3 hb4 hE3 hs3=> ?_)))))
  refine jz rfl (gq (qz [_,_] ⟨⟨b4,0,rfl,u0 gc rfl rfl hb4.ko hl⟩,rfl,trivial⟩ ?_))
  exact⟨rfl,h.extNew hE3 hF4,hX.gh hE3 fr4⟩
 ·have e:D.read i=(D,zeros,9):=by simp[kj.read,kj.begin,hd]
  rw[e]
  exact⟨rfl,h,hb4,Ext.refl _ _⟩
 ·have e:D.read i=(D,zeros,2):=by simp[kj.read,kj.begin,hd,hi]
  rw[e]
  exact⟨rfl,h,hb4,Ext.refl _ _⟩
 ·have e:D.read i=({D with fault:= -1},zeros,8):=by simp[kj.read,kj.begin,hd,hi,hf]
  rw[e]
  have h':=h.yq2 (D':={D with fault:= -1}) rfl rfl (by rw[hd];exact hb') hE
  exact⟨rfl,h',hb4.gj hE hd4.symm,hE.mono fun x _ e=> .inl e⟩
 ·cases hbu
 have e0:D.begin i false=({D with fault:=uy D.fault,fuse:=A8 false D.fuse,done:=D.done+1},0):=by simp[kj.begin,hd,hi,hf]
 have e:D.read i=({D with fault:=uy D.fault,fuse:=A8 false D.fuse,done:=D.done+1},D.now i.toNat,0):=by
  simp only[kj.read,e0,if_true,kj.now]
 rw[e]
 have h':=h.yq2 (D':={D with fault:=uy D.fault,fuse:=A8 false D.fuse,done:=D.done+1}) rfl rfl (by rw[hd];exact hb') hE
 obtain⟨L,hL1,hL2⟩:=h'.secs
 have hi':i.toNat<D.secs.length:=by omega
 have hs:D.secs[i.toNat]? =some D.secs[i.toNat]:=by simp[hi']
 have hiL:i.toNat<L.length:=by rw[hL2.1];exact hi'
 have hr:L[i.toNat]? =some L[i.toNat]:=by simp
 have hnow:D.now i.toNat=D.secs[i.toNat].now:=by simp[kj.now,hs]
 have hn64:=zv2 hok i.toNat
 rw[hnow] at hn64⊢
 refine(dk_readIn w' hL1 hL2.uni hr (hL2.2 _ _ _ hs hr) (by have:=waits_few hok hs;omega) (hb4.gj hE hd4.symm) (by simp[ge,zeros]) hn64).mono fun v w2 ⟨hb2,hE2⟩=> ?_
 exact⟨rfl,h'.extNew hE2 hF4,hb2,(hE.mono fun x _ e=> .inl e).then (hE2.mono fun x _ e=> .inr e)⟩
def Grow (F:Nat→Prop) (w w':World):Nat→Prop:=fun x=>F x∨(w.heap.size≤x∧x<w'.heap.size)
theorem z29:cellsOf ti165.zero=ge zeros:=by simp[ti165,zeros,ge]
theorem dk_writeIn (w:World) {d sb oc m b1 b2 b3:Nat} {F:Nat→Prop} {op:Option Addr} {D:kj} (h:vr w d sb op oc F D) (hok:D.Ok m) (hm:m<1000000000) {i:Nat} (hi:i<D.secs.length) {b:Bytes} (hb64:b.length=64)
  (hb1:j0 w b1 165 (ge b)) (hb2:j0 w b2 61 [.pointer (some ⟨d,0,none⟩)]) (hb3:j0 w b3 3 [.int .i64 (i:Int)]) (hF3:¬F b1∧¬F b2∧¬F b3):
  gn prog 188 ([.pointer (some ⟨sb,i*65,none⟩)]++ #[Value.pointer (some ⟨b1,0,none⟩),.pointer (some ⟨b2,0,none⟩),.pointer (some ⟨b3,0,none⟩)].toList) w
   fun _ w'=>∃op' oc',vr w' d sb op' oc' (Grow F w w') (D.put i b)∧Ext F w w':=by
 obtain⟨L,a6,E⟩:=h.secs
 have hu:=E.uni
 have hs:D.secs[i]? =some D.secs[i]:=by simp[hi]
 have a7:i<L.length:=by rw[E.1];exact hi
 have hr:L[i]? =some L[i]:=by simp
 obtain⟨p,c,T,hc,C,a8,aq,az⟩:=E.2 _ _ _ hs hr
 generalize hsd:D.secs[i]=s at*
 generalize hrd:L[i]=r at*
 have aw:=waits_few hok hs
 have y:w.cell? ⟨sb,i*65+64,none⟩=some (.slice p s.waits.length c):=by
  refine a6.cell ?_
  rw[yz9 hu hr zd,T]
  simp[vn,ge,C]
 refine gx func188 ?_
 have o:=Ext.refl F w
 refine gk ?_
 refine js rfl 19 [qP 0,qP 1,qP 2,qP 3,qP 4,qP 5,qP 6,qP 7,qP 8,qP 9,qP 10,qP 11,qP 12,qP 13,qP 14,qP 15,qP 16,(17,false),(18,false)] [19,20,21] No zk fun w1 X b0=> ?_
 have o:=o.gb X
 refine wd_p gc rfl (j6 gc rfl rfl (fun w' f=>Cv y f id) ?_)
 refine wd_p gc rfl (j6 gc rfl rfl (fun w' f=>Cv y f id) ?_)
 refine wd_p gc rfl (j6 gc rfl rfl (fun w' f=>Cv y f id) ?_)
 refine wd_p gc rfl (zx1 gc rfl rfl 0 s.waits.length s.waits.length 64 rfl (.inl ⟨rfl,rfl⟩) (.inl rfl) (.inr ⟨rfl,rfl⟩) zo zo (by simpa using hc) ?_)
 refine qf gc rfl rfl (fun w' f=>(hb1.ga f).ko) (by simp[ge,hb64]) ?_
 refine jg rfl (qd gc rfl 64 rfl z29 (kz zeros_length) zd zd ⟨⟨kz hb64,by decide⟩,trivial⟩ (l':=ge b) ?_ fun a9 w2 ax aa Y b4=>⟨X.gb Y,?_⟩)
 ·simp only[xm,ju]
  rw[Nat.zero_mul,Ai]
  rw[ub,kz hb64,kz zeros_length]
 have o:=o.gb Y
 have G:=X.gb Y
 have ab:Sl w2 (u5 p 0 s.waits.length 64) (s.waits.length-0) 64 (bl s.waits).flatten:=by rw[ka];exact aq.ga G
 have ac:Src prog w2 64 (.slice (some ⟨a9,0,none⟩) 1 1) 1 (ge b):=Src.slice ⟨by rw[kz hb64],.inr ⟨a9,0,rfl,aa.ko⟩⟩ Bv
 refine jg rfl (st_appG gc rfl 64 64 rfl rfl (by rw[z29];exact kz zeros_length) zd ab ac zm zn zn fun z c3 Z ad H a0=>⟨G.gb a0,?_⟩)
 have H:Own Z (some ⟨z,0,none⟩) (s.waits.length+1) c3 165 64 ((bl s.waits).flatten++ge b):=H
 have ae:=Nat.le_trans o.size ad
 have o:=o.gb a0
 have k:=G.gb a0
 have q:=a6.ga k
 have O:=h.ga k
 have af:z6 Z F D.secs L:=E.ext k fun _ _ _=>id
 have ag:=A4 hu
 refine jj (wb rfl (Dg gc rfl rfl rfl (wb rfl (Dg gc rfl rfl rfl (wb rfl (u4 gc q rfl rfl (by show i*65+64<_;rw[ag];have:=Nat.mul_le_mul_right 65 a7;omega) fun w4 P A b5=> ?_))))))
 have P:j0 w4 sb 218 (Vc.put L.flatten (i*65+64) [Value.slice (some ⟨z,0,none⟩) (s.waits.length+1) c3]):=P
 rw[xj6 hu hr _ zp] at P
 have o:Ext F w w4:=o.trans A fun x a e=>by rw[e];exact h.own.2.1
 have ah:d≠sb:=(O.head.ne q zd)
 have g:=O.head.gj A ah
 have I:Own w4 op D.order.length oc 3 1 (zx5 D.order):=O.order.ext A fun x a e=>(Own.ty O.order a).ne q zd e
 have U:=(hb2.ga k).gj A fun e=>hF3.2.1 (e▸h.own.2.1)
 have ai:=(hb3.ga k).gj A fun e=>hF3.2.2 (e▸h.own.2.1)
 have V:∀x,jd op x→b2≠x:=fun x a e=>hF3.2.1 (e▸h.own.2.2 x a)
 have aj:∀x,jd op x→b3≠x:=fun x a e=>hF3.2.2 (e▸h.own.2.2 x a)
 have W:∀x,jd op x→d≠x:=fun x a e=>(Own.ty O.order a).ne O.head zd e.symm
 refine ja (j1 (js rfl 8 [qP 0,qP 1,qP 2,qP 3,qP 4,qP 5,(6,false),(7,false)] [8,9,10] (jd op) zk fun w5 a1 b6=> ?_))
 have o:=o.gb a1
 refine j6 gc rfl rfl (fun w' f=>(U.ext f fun e=>V _ e rfl).cell rfl) ?_
 refine j6 gc rfl rfl (fun w' f=>(U.ext f fun e=>V _ e rfl).cell rfl) ?_
 refine wd_p gc rfl (j6 gc rfl rfl (fun w' f=>(g.ext f fun e=>W _ e rfl).cell rfl) ?_)
 refine j6 gc rfl rfl (fun w' f=>(ai.ext f fun e=>aj _ e rfl).cell rfl) ?_
 refine jg rfl (qd gc rfl 1 rfl rfl rfl zd zd ⟨⟨rfl,by decide⟩,trivial⟩ (l':=[.int .i64 (i:Int)]) rfl fun ak w6 ay al a2 b7=>⟨(a1.gb a2).no,?_⟩)
 have o:=o.gb a2
 have n:=a1.gb a2
 have I:=I.ext n fun _ _=>id
 have a3:Src prog w6 1 (.slice (some ⟨ak,0,none⟩) 1 1) 1 [.int .i64 (i:Int)]:=Src.slice ⟨rfl,.inr ⟨ak,0,rfl,al.ko⟩⟩ (fun v hv=>by simp at hv;subst hv;rfl)
 have b8:=hok.few
 refine jg rfl (uh gc rfl 1 8 rfl rfl rfl zd I a3 zm zn fun p7 c7 w7 Q J ar=>⟨n.no.then J,?_⟩)
 have Q:Own w7 p7 (D.order.length+1) c7 3 1 (zx5 D.order++[.int .i64 (i:Int)]):=Q
 have o:Ext F w w7:=o.trans J fun x a e=>h.own.2.2 x e
 have g:=(g.ga n).ext J fun e=>W _ e rfl
 have R:=g
 refine jj (wb rfl (Dg gc rfl rfl rfl (wb rfl (Dg gc rfl rfl rfl (wb rfl (xv gc g rfl rfl rfl fun w8 g S b9=> ?_))))))
 have o:Ext F w w8:=o.trans S fun x a e=>by rw[e];exact h.own.1
 refine ja (y9 rfl ?_)
 refine⟨p7,c7,?_,o⟩
 have am:sb≠d:=ah.symm
 have an:∀x,jd op x→sb≠x:=fun x a e=>(Own.ty O.order a).ne q zd e.symm
 -- what has turned since Z
 have K:Ext (fun x=>x=sb∨jd op x∨x=d) Z w8:=
  ((A.mono fun _ _ e=> .inl e).gb n).then ((J.mono fun _ _ e=> .inr (.inl e)).then (S.mono fun _ _ e=> .inr (.inr e)))
 have M:∀x,TyB Z x 165→¬(x=sb∨jd op x∨x=d):=fun x a e=>by
  rcases e with e|e|e
  ·exact a.ne q zd e
  ·obtain⟨l,hl⟩:=Own.ty O.order e
   exact a.ne hl zd rfl
  exact a.ne O.head zd e
 have au:j0 w8 sb 218 (L.set i (Vc.put r 64 [Value.slice (some ⟨z,0,none⟩) (s.waits.length+1) c3])).flatten:=
  ((P.ga n).ext J fun e=>an _ e rfl).gj S am
 have N:=Q.ext S fun x a e=>(Own.ty Q a).ne R zd e
 have a4:TyB Z z 165:=Own.ty H rfl
 have a5:Vc.put r 64 [Value.slice (some ⟨z,0,none⟩) (s.waits.length+1) c3]=vn s.safe (some ⟨z,0,none⟩) (s.waits.length+1) c3:=by
  rw[T,put_eq _ _ _ (by simp[vn,ge,C])]
  have e1:(vn s.safe p s.waits.length c).take 64=ge s.safe:=by
   unfold vn;rw[List.take_append_of_le_length (by simp[ge,C]),List.take_of_length_le (by simp[ge,C])]
  rw[e1,List.drop_eq_nil_of_le (by simp[vn,ge,C])]
  simp[vn]
 refine⟨?_,⟨_,au,?_,?_⟩,?_,⟨.inl h.own.1,.inl h.own.2.1,fun x a=> ?_⟩,fun x a=> ?_⟩
 ·have e:(D.put i b).secs.length=D.secs.length:=by simp[kj.put]
  have e2:(D.put i b).order.length=D.order.length+1:=by simp[kj.put]
  rw[e,e2]
  exact g
 ·simp[kj.put,E.1]
 ·intro j s' r' u B
  simp only[kj.put,List.getElem?_modify] at u
  rw[List.getElem?_set] at B
  by_cases hij:i=j
  ·subst hij
   rw[if_pos rfl,if_pos a7] at B
   rw[hs] at u
   simp at u B
   subst u
   rw[a5] at B
   subst B
   refine⟨some ⟨z,0,none⟩,c3,?_,?_,C,?_,?_,?_⟩
   ·simp[Bj]
   ·have:=H.cap
    simp only[Bj,List.length_append,List.length_singleton]
    omega
   ·intro x a
    simp only[Bj,List.mem_append,List.mem_singleton] at a
    rcases a with a|rfl
    ·exact a8 x a
    exact hb64
   ·have e3:=H.sl.ext K fun x av hp=>by
     simp only[Option.some.injEq,Addr.mk.injEq] at hp
     rw[←hp.1]
     exact M _ a4
    have e4:(bl (Bj b s).waits).flatten=(bl s.waits).flatten++ge b:=by simp[bl,Bj]
    rw[e4]
    simpa [Bj] using e3
   intro x av hp
   simp only[Option.some.injEq,Addr.mk.injEq] at hp
   rw[←hp.1]
   have h8:=a4.ext K (M _ a4)
   obtain⟨l,hl⟩:=h8
   exact⟨.inr ⟨ae,hl.lt⟩,l,hl⟩
  rw[if_neg hij] at B
  have ao:D.secs[j]? =some s':=by
   cases hj:D.secs[j]? with
   |none=>rw[hj] at u;simp at u
   |some t=>rw[hj] at u;simpa [hij] using u
  exact((af.2 j s' r' ao B).ext K fun x _ a=>M x a).mono fun x a=> .inl a
 ·have e2:(D.put i b).order.length=D.order.length+1:=by simp[kj.put]
  rw[e2]
  simpa [kj.put,zx5] using N
 ·rcases ar x a with ap|ap
  ·exact .inl (h.own.2.2 x ap)
  refine .inr ⟨?_,N.lt a⟩
  have:=(k.gb (Ext.refl No Z)).size
  have:=A.size
  have:=n.size
  omega
 rcases a with a|a
 ·exact Nat.lt_of_lt_of_le (h.lt x a) o.size
 exact a.2
def At (w:World) (d:Nat) (F:Nat→Prop) (D:kj):Prop:=∃sb op oc,vr w d sb op oc F D
theorem vr.mono {F F':Nat→Prop} {w:World} {d sb oc:Nat} {op:Option Addr} {D:kj} (h:vr w d sb op oc F D) (hF:∀x,F x→F' x) (hlt:∀x,F' x→x<w.heap.size):vr w d sb op oc F' D:=by
 obtain⟨L,a,b⟩:=h.secs
 exact⟨h.head,⟨L,a,b.mono hF⟩,h.order,⟨hF _ h.own.1,hF _ h.own.2.1,fun x c=>hF _ (h.own.2.2 x c)⟩,hlt⟩
theorem vr.grow {F:Nat→Prop} {w w':World} {d sb oc:Nat} {op:Option Addr} {D:kj} (h:vr w' d sb op oc F D):vr w' d sb op oc (Grow F w w') D:=
 h.mono (fun _=> .inl) fun x hx=>hx.elim (h.lt x) fun hx=>hx.2
theorem At.ext {S F:Nat→Prop} {w w':World} {d:Nat} {D:kj} (h:At w d F D) (hE:Ext S w w') (hS:∀x,F x→¬S x):At w' d F D:=let⟨sb,op,oc,h⟩:=h;⟨sb,op,oc,h.ext hE hS⟩
theorem At.ga {F:Nat→Prop} {w w':World} {d:Nat} {D:kj} (h:At w d F D) (hE:Ext No w w'):At w' d F D:=let⟨sb,op,oc,h⟩:=h;⟨sb,op,oc,h.ga hE⟩
theorem At.lt {F:Nat→Prop} {w:World} {d:Nat} {D:kj} (h:At w d F D):∀x,F x→x<w.heap.size:=let⟨_,_,_,h⟩:=h;h.lt
theorem At.own {F:Nat→Prop} {w:World} {d:Nat} {D:kj} (h:At w d F D):F d:=let⟨_,_,_,h⟩:=h;h.own.1
theorem Grow.wide {F:Nat→Prop} {w0 w w' w1:World} (h0:w0.heap.size≤w.heap.size) (h1:w'.heap.size≤w1.heap.size) {x:Nat} (h:Grow F w w' x):Grow F w0 w1 x:=
 h.imp id fun h=>⟨Nat.le_trans h0 h.1,Nat.lt_of_lt_of_le h.2 h1⟩
theorem cells_num (b:Bytes):cellsOf (numB b)=ge b:=by simp[ge,ju]
theorem dk_write (w:World) {d m:Nat} {F:Nat→Prop} {D:kj} (h:At w d F D) (hok:D.Ok m) (hm:m+1<1000000000) (i:Int) {b:Bytes} (hb:b.length=64):
  gn prog 143 [.pointer (some ⟨d,0,none⟩),.int .i64 i,numB b] w fun v w'=>v= .int .i64 (D.write i b).2∧At w' d (Grow F w w') (D.write i b).1∧Ext F w w':=by
 obtain⟨sb,op,oc,h⟩:=h
 refine gx func143 ?_
 have hX:=Ext.refl F w
 refine qa (gw rfl fun b3 w1 hn3 hb3 hE1=> ?_)
 have fr3:=Nat.le_trans hX.size hn3
 have hX:=hX.gb hE1
 refine gw rfl fun b4 w2 hn4 hb4 hE2=> ?_
 have fr4:=Nat.le_trans hX.size hn4
 have hb3:=hb3.ga hE2
 have hX:=hX.gb hE2
 refine gw rfl fun b5 w3 hn5 hb5 hE3=> ?_
 have fr5:=Nat.le_trans hX.size hn5
 have hb3:=hb3.ga hE3
 have hb4:=hb4.ga hE3
 have hX:=hX.gb hE3
 have hF:∀x,w.heap.size≤x→¬F x:=fun x hx e=>by have:=h.lt x e;omega
 have h:=((h.ga hE1).ga hE2).ga hE3
 have hb5:j0 w3 b5 165 (ge b):=by rw[←cells_num];exact hb5
 have hop:=zx4 w3 i true call188 h.head hok.fuse hok.fault ⟨hok.done.1,by have:=hok.done.2;omega⟩
  (fun v w'=>v= .int .i64 (D.write i b).2∧At w' d (Grow F w w') (D.write i b).1∧Ext F w w') (caps:= #[.pointer (some ⟨b5,0,none⟩),.pointer (some ⟨b3,0,none⟩),.pointer (some ⟨b4,0,none⟩)])
  (fun hd=> ?_) (fun hd hi=> ?_) (fun hd hi hf w' hb' hE=> ?_) (fun hd hi hf hbu hfu w' hb' hE=> ?_) (fun hd hi hf hbu w' hb' hE=> ?_)
 ·refine jz rfl (qa (jb hb3 rfl rfl (jb hb4 rfl rfl (j9 gc rfl (gi call149 rfl hop fun v4 w4 hr4=> ?_)))))
  obtain⟨rfl,hr4⟩:=hr4
  refine jz rfl (gq (gu rfl rfl ?_))
  exact⟨rfl,hr4⟩
 ·have e:D.write i b=(D,9):=by simp[kj.write,kj.begin,hd]
  rw[e]
  exact⟨rfl,⟨_,_,_,h.grow⟩,hX⟩
 ·have e:D.write i b=(D,2):=by simp[kj.write,kj.begin,hd,hi]
  rw[e]
  exact⟨rfl,⟨_,_,_,h.grow⟩,hX⟩
 ·have e:D.write i b=({D with fault:= -1},8):=by simp[kj.write,kj.begin,hd,hi,hf]
  rw[e]
  have h':=h.yq2 (D':={D with fault:= -1}) rfl rfl (by rw[hd];exact hb') hE
  exact⟨rfl,⟨_,_,_,h'.grow⟩,hX.trans hE fun x _ e=>e▸h.own.1⟩
 ·have e:D.write i b=({D with fault:=uy D.fault,fuse:= -1,dead:=true},9):=by simp[kj.write,kj.begin,hd,hi,hf,hfu]
  rw[e]
  have h':=h.yq2 (D':={D with fault:=uy D.fault,fuse:= -1,dead:=true}) rfl rfl hb' hE
  exact⟨rfl,⟨_,_,_,h'.grow⟩,hX.trans hE fun x _ e=>e▸h.own.1⟩
 have hbu':¬(D.fuse=0):=fun e=>hbu ⟨rfl,e⟩
 have e0:D.begin i true=({D with fault:=uy D.fault,fuse:=A8 true D.fuse,done:=D.done+1},0):=by simp[kj.begin,hd,hi,hf,hbu']
 have e:D.write i b=(({D with fault:=uy D.fault,fuse:=A8 true D.fuse,done:=D.done+1}:kj).put i.toNat b,0):=by
  simp only[kj.write,e0,if_true]
 rw[e]
 have h':=h.yq2 (D':={D with fault:=uy D.fault,fuse:=A8 true D.fuse,done:=D.done+1}) rfl rfl (by rw[hd];exact hb') hE
 have hok':=hok.begin i true
 rw[e0] at hok'
 have nd:∀x,w.heap.size≤x→x≠d:=fun x hx e=>hF x hx (e▸h.own.1)
 have hi':(i.toNat:Int)=i:=by omega
 refine(dk_writeIn w' h' hok' zo (i:=i.toNat) (by simp only;omega) hb (hb5.gj hE (nd _ fr5)) (hb3.gj hE (nd _ fr3)) (by rw[hi'];exact hb4.gj hE (nd _ fr4)) ⟨hF _ fr5,hF _ fr3,hF _ fr4⟩).mono fun v w2 ⟨op',oc',h2,hE2⟩=> ?_
 have hXw:Ext F w w':=hX.trans hE fun x _ e=>e▸h.own.1
 refine⟨rfl,⟨_,_,_,h2.mono (fun x hx=>hx.wide hXw.size (Nat.le_refl _)) fun x hx=> ?_⟩,hXw.trans hE2 fun x _=>id⟩
 exact hx.elim (fun hx=>h2.lt x (.inl hx)) fun hx=>hx.2
theorem z6.modify {w:World} {F:Nat→Prop} {secs:List Sec} {L:List (List Value)} (h:z6 w F secs L) {k:Nat} {f:Sec→Sec} {r:List Value} (hr:∀s,secs[k]? =some s→yq7 w F (f s) r):z6 w F (secs.modify k f) (L.set k r):=by
 refine⟨by simp[h.1],fun j s x a b=> ?_⟩
 rw[List.getElem?_modify] at a
 rw[List.getElem?_set] at b
 by_cases hkj:k=j
 ·subst hkj
  rw[if_pos rfl] at b
  split at b
  ·simp at b
   subst b
   cases hk:secs[k]? with
   |none=>rw[hk] at a;simp at a
   |some t=>
    rw[hk] at a
    simp at a
    subst a
    exact hr t hk
  cases b
 rw[if_neg hkj] at b
 cases hk:secs[j]? with
 |none=>rw[hk] at a;simp at a
 |some t=>
  rw[hk] at a
  simp[hkj] at a
  subst a
  exact h.2 j t x hk b
theorem dk_settle (w:World) {d m:Nat} {F:Nat→Prop} {D:kj} (h:At w d F D) (hok:D.Ok m) (hm:m<1000000000) (lives:Nat→Bool) {g:Nat} {caps:Array Value}
  (hcf:∀args w,(callFunc g args).run prog w= .ok (.enter g args) w)
  (hl:∀w1 (i:Nat),i<D.order.length→Ext F w w1→gn prog g ([.int .i64 (i:Int)]++caps.toList) w1 fun v w2=>v= .bool (lives i)∧Ext No w1 w2):
  gn prog 126 [.pointer (some ⟨d,0,none⟩),.func (.func g) #[] caps] w fun _ w'=>At w' d F (D.settle lives)∧Ext F w w':=by
 obtain⟨V,op,oc,h⟩:=h
 have ax:=hok.size
 have b6:=hok.few
 refine gx func126 ?_
 refine c_scopeJ (α:=Nat×List Sec) 0 rfl
  (fun z u=>z.1≤D.order.length∧z.2.length=D.secs.length∧(∀k s,z.2[k]? =some s→s.waits.length=(D.order.drop z.1).count k)∧Ah lives (D.order.drop z.1) z.1 z.2=Ah lives D.order 0 D.secs∧
   (∃L,j0 u V 218 (List.flatten L)∧z6 u F z.2 L)∧j0 u d 153 (dskL V D.secs.length op D.order.length oc D.dead D.fuse D.fault D.done)∧Own u op D.order.length oc 3 1 (zx5 D.order)∧Ext F w u)
  (fun z=>[(0,.pointer (some ⟨d,0,none⟩)),(1,.func (.func g) #[] caps),(4,.int .i64 (z.1:Int))]) (fun z _=>D.order.length-z.1) ?_ ?_
 ·refine yv rfl (gm ?_)
  refine f_first (0,D.secs) rfl ⟨Nat.zero_le _,rfl,fun k s hs=>hok.count k s hs,rfl,h.secs,h.head,h.order,Ext.refl F w⟩
 rintro⟨i,K⟩ u ⟨hi,aj,H,O,⟨L,q,S⟩,j,P,hX⟩
 dsimp only at hi aj H O S⊢
 have ad:∀x,TyB u x 165→x≠V:=fun x T=>T.ne q zd
 refine gk (qc rfl (jb j rfl rfl (jz rfl (jl rfl (fun hc=> ?_) (fun hc=> ?_)))))
 ·have a5:i<D.order.length:=by omega
  have hk:D.order[i]? =some D.order[i]:=by simp[a5]
  generalize hkk:D.order[i]=k at hk
  have ak:k<D.secs.length:=hok.inside k (List.mem_of_getElem? hk)
  obtain⟨b0,aa,X,al⟩:=P.sl.2.resolve_left zo
  have a6:u.cell? ⟨b0,aa+i,none⟩=some (.int .i64 (k:Int)):=al i _ (by simp[zx5,hk])
  have ay:op=some ⟨b0,0,none⟩∧aa=0:=by
   rcases P with⟨hp,_⟩|⟨b,l,hp,_⟩
   ·rw[hp] at X;cases X
   rw[hp] at X;simp at X;obtain⟨rfl,rfl⟩:=X;exact⟨hp,rfl⟩
  obtain⟨am,rfl⟩:=ay
  subst am
  have Y:K[k]? =some (K[k]'zo):=by simp[show k<K.length by omega]
  generalize hss:K[k]'zo=s at Y
  have M:D.order.drop i=k::D.order.drop (i+1):=by
   rw[List.drop_eq_getElem_cons a5,hkk]
  have Q:=H k s Y
  rw[M,List.count_cons_self] at Q
  have an:k<L.length:=by rw[S.1];omega
  have hr:L[k]? =some L[k]:=by simp
  generalize hrd:L[k]=r at hr
  have ao:=S.2 k s r Y hr
  obtain⟨p,c,Z,ab,a7,a0,ap,aq⟩:=ao
  have hu:=S.uni
  have y:u.cell? ⟨V,k*65+64,none⟩=some (.slice p s.waits.length c):=by
   refine q.cell ?_
   rw[yz9 hu hr zd,Z]
   simp[vn,ge,a7]
  obtain⟨o,f,hp,ae⟩:=ap.2.resolve_left zo
  subst hp
  obtain⟨f0,I,a⟩:∃f0 I,s.waits=f0::I:=by
   cases hww:s.waits with
   |nil=>rw[hww] at Q;simp at Q
   |cons f0 I=>exact⟨f0,I,rfl⟩
  have A:f0.length=64:=a0 f0 (by rw[a];simp)
  have B:Seg u o f (ge f0):=by
   have:=ae.take 64
   rw[a] at this
   simpa [bl,ge,A] using this
  have af:=A4 hu
  have b7:=Nat.mul_le_mul_right 65 (Nat.succ_le_of_lt an)
  refine gk ?_
  refine js rfl 13 [qP 0,qP 1,qP 2,qP 3,qP 4,qP 5,qP 6,qP 7,qP 8,qP 9,qP 10,qP 11,qP 12] [] No zk fun w1 C az=> ?_
  refine wd_p gc rfl (j6 gc rfl rfl (fun w' a1=>(j.ga a1).cell rfl) ?_)
  refine wd_p gc rfl (j6 gc rfl rfl (fun w' a1=>(j.ga a1).cell rfl) ?_)
  refine wd_p gc rfl (qk gc rfl rfl 1 rfl i rfl a5 (0+i) zo (j6 gc rfl rfl (fun w' a1=>Cv a6 a1 id) ?_))
  refine qk gc rfl rfl 65 rfl k rfl ak (0+k*65) zo (wd_p gc rfl (jj (ja (j1 ?_))))
  rw[Nat.zero_add]
  have ac:=q
  have b1:=hX
  have q:=q.ga C
  have y:=Cv y C id
  have B:=B.ga C
  have hX:=hX.gb C
  have a2:TyB u o 165:=(aq o f rfl).2
  have ar:F V:=h.own.2.1
  refine jv (α:=Unit) [0,1,4,5] rfl (fun z=>[]) (fun z u'=>j0 u' V 218 (L.set k (vn (uj (lives i) s).safe (some ⟨o,f,none⟩) s.waits.length c)).flatten∧Ext (Vc.One V) u u') ?_ ?_
  ·refine gk ?_
   refine yv rfl (gi hcf rfl (hl w1 i a5 hX) fun v2 w2 a8=> ?_)
   obtain⟨rfl,N⟩:=a8
   have q:=q.ga N
   have y:=Cv y N id
   have B:=B.ga N
   refine qr (vj rfl (fun hc=> ?_) (fun hc=> ?_))
   ·refine j4 ?_
    refine j9 gc rfl (gy rfl y (ki rfl 64 rfl 0 rfl zo f zo (jr rfl B (by simp[ge,A]) ?_)))
    refine j9 gc rfl (wl (zw6 gc q rfl (by rw[ju];simp[ge,A]) (by rw[af];show k*65+64≤_;omega) (by rw[ju];exact Bv) fun w3 J ag b2=> ?_))
    refine gm (gz () rfl ⟨?_,C.no.then (N.no.then ag)⟩)
    have J:j0 w3 V 218 (Vc.put L.flatten (k*65+0) (ge f0)):=by simpa using J
    rw[xj6 hu hr _ (by simp[ge,A])] at J
    have:Vc.put r 0 (ge f0)=vn (uj (lives i) s).safe (some ⟨o,f,none⟩) s.waits.length c:=by
     rw[Z,put_eq _ _ _ (by simp[vn,ge,a7,A]),hc]
     simp[vn,ge,a7,A,uj,a]
    rwa [this] at J
   refine j7 (gz () rfl ⟨?_,C.no.then N.no⟩)
   rw[hc]
   have e:(uj false s).safe=s.safe:=rfl
   rw[e,←Z,←hrd,List.set_getElem_self]
   exact q
  rintro⟨⟩ u2 ⟨a3,N⟩
  generalize hrow2:vn (uj (lives i) s).safe (some ⟨o,f,none⟩) s.waits.length c=r2 at a3
  have E:(uj (lives i) s).safe.length=64:=by
   simp only[uj,a,List.headD_cons]
   split
   ·exact A
   exact a7
  have ah:Uni 65 (L.set k r2):=hu.set k (by rw[←hrow2];simp[vn,ge,E])
  have a8:(L.set k r2)[k]? =some r2:=by simp[an]
  have a9:u2.cell? ⟨V,k*65+64,none⟩=some (.slice (some ⟨o,f,none⟩) s.waits.length c):=by
   refine a3.cell ?_
   rw[yz9 ah a8 zd,←hrow2]
   simp[vn,ge,E]
  have R:=A4 ah
  rw[List.length_set] at R
  refine qc rfl (gy rfl a9 (wl (A5 gc rfl 1 s.waits.length c 64 rfl (.inr ⟨rfl,rfl⟩) (.inr ⟨rfl,rfl⟩) (.inl rfl) zo ab (Nat.le_refl c) (j9 gc rfl (wl (u4 gc a3 rfl rfl (by show k*65+64<_;rw[R];omega) fun w3 J ag b2=> ?_))))))
  have J:j0 w3 V 218 (Vc.put (L.set k r2).flatten (k*65+64) [Value.slice (u5 (some ⟨o,f,none⟩) 1 c 64) (s.waits.length-1) (c-1)]):=J
  rw[xj6 ah a8 _ zp] at J
  have G:Ext (Vc.One V) u w3:=N.then ag
  refine qr (qc rfl ?_)
  rw[kg _ zo]
  refine qr (c_goto (f_thenG (f_back (i+1,K.modify k (uj (lives i))) rfl ⟨by simp only;omega,by simp only[List.length_modify];omega,?_,?_,⟨_,J,?_⟩,?_,?_,?_⟩ ?_)))
  ·intro k' s' n
   simp only[List.getElem?_modify] at n
   by_cases hkk':k=k'
   ·subst hkk'
    rw[Y] at n
    simp at n
    subst n
    simp only[uj,a,List.tail_cons]
    rw[a,List.length_cons] at Q
    omega
   cases hck:K[k']? with
   |none=>rw[hck] at n;simp at n
   |some t=>
    rw[hck] at n
    simp[hkk'] at n
    subst n
    have:=H k' t hck
    rw[M,List.count_cons_of_ne hkk'] at this
    exact this
  ·rw[←O,M];rfl
  ·have au:z6 w3 F K L:=S.ext G fun x _ T=>ad x T
   dsimp only
   rw[List.set_set]
   refine z6.modify au fun s' n=> ?_
   rw[Y] at n
   simp at n
   subst n
   have a4:∀b U,u5 (some ⟨o,f,none⟩) 1 c 64=some ⟨b,U,none⟩→b=o:=by
    intro b U W
    unfold u5 at W
    split at W
    ·simp at W;exact W.1.symm
    simp[addr_add] at W;exact W.1.symm
   have av:=(ap.slice 1 s.waits.length c zo ab (Nat.le_refl _)).ext G fun b U W=>by
    rw[a4 b U W]
    exact ad _ a2
   refine⟨u5 (some ⟨o,f,none⟩) 1 c 64,c-1,?_,?_,E,?_,?_,?_⟩
   ·rw[←hrow2,put_eq _ _ _ (by simp[vn,ge,E])]
    have e1:(vn (uj (lives i) s).safe (some ⟨o,f,none⟩) s.waits.length c).take 64=ge (uj (lives i) s).safe:=by
     unfold vn;rw[List.take_append_of_le_length (by simp[ge,E]),List.take_of_length_le (by simp[ge,E])]
    rw[e1,List.drop_eq_nil_of_le (by simp[vn,ge,E])]
    simp[vn,uj]
   ·simp[uj];omega
   ·intro b W
    exact a0 b (List.mem_of_mem_tail W)
   ·have e1:(uj (lives i) s).waits.length=s.waits.length-1:=by simp[uj]
    have e2:(bl (uj (lives i) s).waits).flatten=((bl s.waits).flatten.drop (1*64)).take ((s.waits.length-1)*64):=by
     have b3:Uni 64 (bl s.waits):=Uni.map fun x T=>by simp[ge,a0 x T]
     rw[rows_sub b3]
     congr 1
     rw[List.take_of_length_le (by simp[bl])]
     simp[uj,bl,a]
    rw[e1,e2]
    exact av
   intro b U W
   have:=a4 b U W
   subst this
   exact⟨(aq b f rfl).1,a2.ext G (ad _ a2)⟩
  ·exact j.gj G (j.ne ac zd)
  ·exact P.ext G fun x T e=>(Own.ty P T).ne ac zd e
  ·exact b1.trans G fun x _ e=>e▸ar
  simp only;omega
 have b4:i=D.order.length:=by omega
 subst b4
 rw[List.drop_length] at O
 refine j7 (j1 (yv rfl (ky j rfl rfl rfl fun w1 b5 C az=> ?_)))
 refine gm (f_jumpN (y9 rfl ?_))
 have aw:F d:=h.own.1
 have ai:K=Ah lives D.order 0 D.secs:=O
 refine⟨⟨V,none,0,?_,⟨L,q.gj C (q.ne j zd),?_⟩,.inl ⟨rfl,rfl,rfl,rfl⟩,⟨aw,h.own.2.1,fun x T=>by cases T⟩,?_⟩,hX.trans C fun x _ e=>e▸aw⟩
 ·simp only[kj.settle,Ae]
  exact b5
 ·simp only[kj.settle]
  rw[←ai]
  exact S.ext C fun x _ T e=>T.ne j zd e
 intro x T
 have:=hX.size
 have:=C.size
 have:=h.lt x T
 omega
theorem dk_yes (w:World) (i:Nat):gn prog 190 ([.int .i64 (i:Int)]++(#[]:Array Value).toList) w fun v w'=>v= .bool true∧Ext No w w':=by
 refine gx func190 ?_
 refine je rfl (je rfl (gq (gu rfl rfl ?_)))
 exact⟨rfl,Ext.refl _ _⟩
theorem dk_sync (w:World) {d m:Nat} {F:Nat→Prop} {D:kj} (h:At w d F D) (hok:D.Ok m) (hm:m+1<1000000000):
  gn prog 144 [.pointer (some ⟨d,0,none⟩)] w fun v w'=>v= .int .i64 D.sync.2∧At w' d F D.sync.1∧Ext F w w':=by
 obtain⟨sb,op,oc,h⟩:=h
 refine gx func144 ?_
 have hX:=Ext.refl F w
 refine qa (gw rfl fun b1 w1 hn1 hb1 hE1=> ?_)
 have hX:=hX.gb hE1
 have hF1:¬F b1:=fun e=>by have:=h.lt b1 e;omega
 have h:=h.ga hE1
 have hsz:=hok.size
 have hop:=zx4 w1 0 true call189 h.head hok.fuse hok.fault ⟨hok.done.1,by have:=hok.done.2;omega⟩
  (fun v w'=>v= .int .i64 D.sync.2∧At w' d F D.sync.1∧Ext F w w') (caps:= #[.pointer (some ⟨b1,0,none⟩)])
  (fun hd=> ?_) (fun hd hi=> ?_) (fun hd hi hf w' hb' hE=> ?_) (fun hd hi hf hbu hfu w' hb' hE=> ?_) (fun hd hi hf hbu w' hb' hE=> ?_)
 ·refine jz rfl (qa (jb hb1 rfl rfl (j9 gc rfl (gi call149 rfl hop fun v2 w2 hr2=> ?_))))
  obtain⟨rfl,hr2⟩:=hr2
  refine jz rfl (gq (gu rfl rfl ?_))
  exact⟨rfl,hr2⟩
 ·have e:D.sync=(D,9):=by simp[kj.sync,kj.begin,hd]
  rw[e]
  exact⟨rfl,⟨_,_,_,h⟩,hX⟩
 ·exact absurd zo hi
 ·have hi':(0:Int)≤0∧(0:Int)<D.secs.length:=hi
  have e:D.sync=({D with fault:= -1},8):=by simp[kj.sync,kj.begin,hd,hf,show 0<D.secs.length by omega]
  rw[e]
  have h':=h.yq2 (D':={D with fault:= -1}) rfl rfl (by rw[hd];exact hb') hE
  exact⟨rfl,⟨_,_,_,h'⟩,hX.trans hE fun x _ e=>e▸h.own.1⟩
 ·have e:D.sync=({D with fault:=uy D.fault,fuse:= -1,dead:=true},9):=by simp[kj.sync,kj.begin,hd,hf,hfu,show 0<D.secs.length by omega]
  rw[e]
  have h':=h.yq2 (D':={D with fault:=uy D.fault,fuse:= -1,dead:=true}) rfl rfl hb' hE
  exact⟨rfl,⟨_,_,_,h'⟩,hX.trans hE fun x _ e=>e▸h.own.1⟩
 have hbu':¬(D.fuse=0):=fun e=>hbu ⟨rfl,e⟩
 have e0:D.begin 0 true=({D with fault:=uy D.fault,fuse:=A8 true D.fuse,done:=D.done+1},0):=by simp[kj.begin,hd,hf,hbu',show 0<D.secs.length by omega]
 have e:D.sync=(({D with fault:=uy D.fault,fuse:=A8 true D.fuse,done:=D.done+1}:kj).settle fun _=>true,0):=by
  simp only[kj.sync,e0,if_true]
 rw[e]
 have h':=h.yq2 (D':={D with fault:=uy D.fault,fuse:=A8 true D.fuse,done:=D.done+1}) rfl rfl (by rw[hd];exact hb') hE
 have hok':=hok.begin 0 true
 rw[e0] at hok'
 have hXw:Ext F w w':=hX.trans hE fun x _ e=>e▸h.own.1
 have hb1:=hb1.gj hE fun e=>hF1 (e▸h.own.1)
 refine gx func189 ?_
 refine j4 (jb hb1 rfl rfl (gi call126 rfl (dk_settle w' ⟨_,_,_,h'⟩ hok' zo (fun _=>true) (caps:= #[]) call190 fun w1 i _ _=>dk_yes w1 i) fun v1 w2 hr1=> ?_))
 refine gm (y9 rfl ?_)
 exact⟨rfl,hr1.1,hXw.trans hr1.2 fun x _=>id⟩
theorem dk_keep (w:World) {b3 n c:Nat} {kp:Option Addr} {keep:List Bool} (hb3:j0 w b3 74 [.slice kp n c]) (hn:keep.length=n) (hk:Sl w kp n 1 (keep.map Value.bool)) (i:Nat):
  gn prog 127 ([.int .i64 (i:Int)]++(#[.pointer (some ⟨b3,0,none⟩)]:Array Value).toList) w fun v w'=>v= .bool (zw5 keep i)∧Ext No w w':=by
 refine gx func127 ?_
 refine je rfl (jv (α:=Bool) [] rfl (fun z=>[(3,.bool z)]) (fun z u=>u=w∧z=zw5 keep i) ?_ ?_)
 ·refine j4 ?_
  refine j9 gc rfl (jb hb3 rfl rfl (j9 gc rfl (jo 8 rfl (fun f=> ?_) (fun f=> ?_))))
  ·refine jb hb3 rfl rfl ?_
   obtain⟨g,a,rfl,d⟩:=hk.2.resolve_left zo
   have e:i<keep.length:=by omega
   have b:w.cell? ⟨g,a+i,none⟩=some (.bool keep[i]):=d i _ (by simp[e])
   refine yx6 gc rfl (ki rfl 1 rfl i rfl zo (a+i) zo (gy rfl b (yx6 gc rfl (gm ?_))))
   exact gz _ rfl ⟨rfl,by simp[zw5,e]⟩
  refine yx6 gc rfl ?_
  refine gm ?_
  have e:keep.length≤i:=by omega
  exact gz _ rfl ⟨rfl,by simp[zw5,e]⟩
 rintro z w ⟨rfl,rfl⟩
 exact gq (gu rfl rfl ⟨rfl,Ext.refl _ _⟩)
theorem dk_crash (w:World) {d m:Nat} {F:Nat→Prop} {D:kj} (h:At w d F D) (hok:D.Ok m) (hm:m<1000000000) {n c:Nat} {kp:Option Addr} {keep:List Bool} (hn:keep.length=n) (hk:Sl w kp n 1 (keep.map Value.bool)) (hkF:∀b off,kp=some ⟨b,off,none⟩→¬F b):
  gn prog 46 [.pointer (some ⟨d,0,none⟩),.slice kp n c] w fun v w'=>v= .int .i64 0∧At w' d F (D.xv4 keep)∧Ext F w w':=by
 refine gx func46 ?_
 have g:=Ext.refl F w
 refine qa (gw rfl fun k A B l f=> ?_)
 have g:=g.gb f
 have o:¬F k:=fun e=>by have:=h.lt k e;omega
 have p:=h.own
 have h:=h.ga f
 have hk:=hk.ga f
 refine jz rfl (gk (je rfl (ur rfl ?_)))
 refine j7 ?_
 refine j1 (qc rfl (gi call126 rfl (dk_settle A h hok hm (zw5 keep) (caps:= #[.pointer (some ⟨k,0,none⟩)]) call127 fun y i _ j=>dk_keep y (c:=c) (l.ext j o) hn (hk.ext j hkF) i) fun K y q=> ?_))
 obtain⟨⟨C,E,G,z⟩,r⟩:=q
 have g:=g.trans r fun x _=>id
 have a:=z.head
 refine qr (qc rfl (ky a rfl rfl rfl fun L a s H=> ?_))
 refine j9 gc rfl (ky a rfl rfl rfl fun M a t I=> ?_)
 refine j9 gc rfl (ky a rfl rfl rfl fun N a u J=> ?_)
 have j:=s.then (t.then u)
 refine qr (je rfl (gq (gu rfl rfl ?_)))
 exact⟨rfl,⟨C,E,G,z.yq2 (D':=D.xv4 keep) rfl rfl a j⟩,g.trans j fun x _ e=>e▸p⟩
theorem dk_len (w:World) {d:Nat} {F:Nat→Prop} {D:kj} (h:At w d F D):
  gn prog 77 [.pointer (some ⟨d,0,none⟩)] w fun v w'=>v= .int .i64 (D.secs.length:Int)∧w'=w:=by
 obtain⟨a,b,c,h⟩:=h
 refine gx func77 ?_
 refine je rfl (gk (je rfl (ur rfl ?_)))
 refine j7 (j1 (qc rfl (jb h.head rfl rfl (jz rfl (gq (gu rfl rfl ?_))))))
 exact⟨rfl,rfl⟩
theorem vr.order_src {w:World} {d sb oc:Nat} {F:Nat→Prop} {op:Option Addr} {D:kj} (h:vr w d sb op oc F D) {w':World} (hE:Ext No w w'):Src prog w' 1 (.slice op D.order.length oc) D.order.length (zx5 D.order):=
 Src.slice (h.order.sl.ga hE) fun v hv=>by
  obtain⟨x,_,rfl⟩:=List.mem_map.1 hv
  rfl
theorem dk_pending (w:World) {d m:Nat} {F:Nat→Prop} {D:kj} (h:At w d F D) (hok:D.Ok m) (hm:m<1000000000):
  gn prog 74 [.pointer (some ⟨d,0,none⟩)] w fun v w'=>∃b,v= .slice (some ⟨b,0,none⟩) D.order.length D.order.length∧w.heap.size≤b∧j0 w' b 3 (zx5 D.order)∧Ext No w w':=by
 obtain⟨q,r,s,h⟩:=h
 have k:=hok.few
 refine gx func74 ?_
 have e:=Ext.refl No w
 refine je rfl (gk (je rfl (ur rfl ?_)))
 refine j7 ?_
 refine j1 (qc rfl (jb h.head rfl rfl (j9 gc rfl (wl (zx0 gc rfl D.order.length D.order.length 8 rfl (zs:=[.int .i64 0]) rfl rfl zd rfl rfl (Nat.le_refl _) zo zr fun f t a g i n=> ?_)))))
 have l:=h.ga i
 have e:=e.gb i
 refine jz rfl (qc rfl (jb l.head rfl rfl (wl (zj0 gc rfl 1 rfl g (l.order_src (Ext.refl _ _)) (Nat.le_refl _) (by rw[ub];simp) fun o c j p=> ?_))))
 have e:=e.gh j a
 refine qr (je rfl (gq (gu rfl rfl ?_)))
 refine⟨f,rfl,a,?_,e⟩
 have c:j0 o f 3 (put (C1 D.order.length [.int .i64 0]) 0 (zx5 D.order)):=c
 rwa [Ai (by rw[ub];simp[zx5])] at c
theorem fresh_rows (w:World) (F:Nat→Prop) (n:Nat):z6 w F (kj.fresh n).secs (List.replicate n (vn zeros none 0 0)):=by
 refine⟨by simp[kj.fresh],fun i s r c d=> ?_⟩
 simp only[kj.fresh] at c
 have e:=List.mem_of_getElem? c
 have f:=List.mem_of_getElem? d
 rw[List.eq_of_mem_replicate e,List.eq_of_mem_replicate f]
 refine⟨none,0,rfl,Nat.le_refl _,zeros_length,fun b a=>(by cases a),⟨rfl,.inl rfl⟩,fun b g a=>(by cases a)⟩
theorem dk_new (w:World) (n:Int):gn prog 22 [.int .i64 n] w fun v w'=>
  if 1≤n∧n≤2048 then∃d,v= .tuple #[.pointer (some ⟨d,0,none⟩),.int .i64 0]∧w.heap.size≤d∧At w' d (Grow No w w') (kj.fresh n.toNat)∧Ext No w w'
  else v= .tuple #[.pointer none,.int .i64 2]∧Ext No w w':=by
 refine gx func22 ?_
 have f:=Ext.refl No w
 refine je rfl (gk (jv (α:=Bool) [0] rfl (fun z=>[(9,.bool z)]) (fun z u=>u=w∧z=decide (¬(1≤n∧n≤2048))) ?_ ?_))
 ·refine j4 ?_
  refine j9 gc rfl (jo 6 rfl (fun r=> ?_) (fun r=> ?_))
  ·refine yx6 gc rfl (gm (gz _ rfl ⟨rfl,?_⟩))
   simp;omega
  refine yx6 gc rfl (gm (gz _ rfl ⟨rfl,?_⟩))
  simp only[decide_eq_decide];omega
 rintro z w ⟨rfl,rfl⟩
 refine jl rfl (fun l=> ?_) (fun l=> ?_)
 ·refine gk ?_
  refine j4 (jz rfl (gq (gp (f_ret2 rfl rfl rfl ?_))))
  rw[if_neg l]
  exact⟨rfl,f⟩
 have s:=Decidable.not_not.1 l
 refine j7 ?_
 refine j1 (qc rfl (wl (zx0 gc rfl n.toNat n.toNat 88 rfl (zs:=vn zeros none 0 0) (by simp[ti218,vn,zeros,ge]) rfl zd zo zo (Nat.le_refl _) zo zr fun m y g i o t=> ?_)))
 have f:=f.gb o
 refine qg rfl (by simp[C2,ti153]) rfl (gw rfl fun p A j b k=> ?_)
 have c:=Nat.le_trans f.size j
 have a:=i.ga k
 have f:=f.gb k
 refine jz rfl (gq (f_ret2 rfl rfl rfl ?_))
 rw[if_pos s]
 have e:(kj.fresh n.toNat).secs.length=n.toNat:=by simp[kj.fresh]
 refine⟨p,rfl,c,⟨m,none,0,?_,⟨_,a,fresh_rows _ _ _⟩,.inl ⟨rfl,rfl,rfl,rfl⟩,⟨.inr ⟨c,b.lt⟩,.inr ⟨g,a.lt⟩,fun x q=>(by cases q)⟩,fun x q=>q.elim False.elim fun h=>h.2⟩,f⟩
 rw[e]
 exact b
abbrev Rt (w:World):Prop:=Seg w 0 0 (jq ql)
theorem Rt.ext {S:Nat→Prop} {w w':World} (h:Rt w) (hE:Ext S w w') (hS:¬S 0):Rt w':=Seg.ext h hE hS
theorem Rt.lt {w:World} (h:Rt w):0<w.heap.size:=Seg.lt h zd
theorem zeros_b:ge zeros=cellsOf ti165.zero:=z29.symm
theorem vo (w:World) (n:Int):
  gn prog 65 [.int .i64 n] w fun v w'=>v= .int .i64 (sectZ n)∧Ext No w w':=by
 refine gx func65 ?_
 have e:=Ext.refl No w
 refine je rfl (gk (jv (α:=Bool) [0] rfl (fun z=>[(8,.bool z)]) (fun z u=>u=w∧z=decide (n<0∨40000<n)) ?_ ?_))
 ·refine j4 ?_
  refine j9 gc rfl (jo 5 rfl (fun a=> ?_) (fun a=> ?_))
  ·refine j2 gc 3 rfl ?_
   refine gm ?_
   exact gz (true) rfl ⟨rfl,by simp[a]⟩
  refine j2 gc 3 rfl ?_
  refine gm ?_
  exact gz (_) rfl ⟨rfl,by simp[a]⟩
 rintro z g ⟨b,rfl⟩
 have b:=b.symm
 subst b
 refine jl rfl (fun c=> ?_) (fun c=> ?_)
 ·have d:sectZ n=0:=if_pos c
  rw[d]
  refine je rfl (gq (gp (gu rfl rfl ?_)))
  exact⟨rfl,e⟩
 have d:sectZ n=((n.toNat+3)/48+1:Nat):=if_neg c
 rw[d]
 have f:IntKind.i64.wrap (IntKind.i64.wrap ((IntKind.i64.wrap (n+3)).tdiv 48)+1)=(((n.toNat+3)/48+1:Nat):Int):=by
  rw[kg (n+3) zo,IntWalk.i64_quo _ _ zo,kg _ zo]
  omega
 refine j7 (j1 (qc rfl ?_))
 rw[f]
 refine jz rfl (gq (gu rfl rfl ?_))
 exact⟨rfl,e⟩
theorem slb4 (b:Nat):u5 (some ⟨b,0,none⟩) 4 64 1=some ⟨b,4,none⟩:=rfl
theorem seal_put (l:Bytes) (hl:l.length≤60):Vc.put (ge (List.replicate 64 0)) 4 (ge l)=ge (List.replicate 4 0++(l++List.replicate (60-l.length) 0)):=by
 rw[put_eq _ _ _ (by simp[gl];omega),gl,ul,ug]
 have a:(List.replicate 64 (0:UInt8)).take 4=List.replicate 4 0:=rfl
 have b:(List.replicate 64 (0:UInt8)).drop (4+l.length)=List.replicate (60-l.length) 0:=by rw[List.drop_replicate];congr 1;omega
 rw[a,b,k8,k8,List.append_assoc]
theorem sum_put (R:Bytes) (d:Bytes) (hd:d.length=4):Vc.put (ge (List.replicate 4 0++R)) 0 (ge d)=ge (d++R):=by
 rw[put_eq _ _ _ (by simp[gl];omega),gl,ul,ug,hd]
 simp[ge]
theorem xv0 (w:World) {p:Option Addr} {c:Nat} {l:Bytes} (h:vt w p l) (hl:l.length≤60) (hr:Rt w):
  gn prog 180 [.slice p l.length c] w fun v w'=>v=numB (xv9 l)∧Ext No w w':=by
 obtain⟨R,y⟩:∃R,R=l++List.replicate (60-l.length) 0:=⟨_,rfl⟩
 have k:R.length=60:=by rw[y];simp;omega
 have J:xv9 l=(sumW R).take 4++R:=by rw[y];rfl
 have G:=hr.lt
 refine gx func180 ?_
 have b:=Ext.refl No w
 refine qa (gw rfl fun d K z a m=> ?_)
 have i:=Nat.le_trans b.size z
 have b:=b.gb m
 have a:j0 K d 165 (ge (List.replicate 64 0)):=by(rw[show ge (List.replicate 64 0)=cellsOf ti165.zero from zeros_b];exact a)
 refine qr (qa (wl (st_sa gc rfl 4 64 64 1 rfl ⟨.inr ⟨rfl,rfl⟩,.inr ⟨rfl,rfl⟩,.inl rfl,by decide,by decide,by decide⟩ ?_)))
 rw[slb4]
 refine j9 gc rfl (wl (zj0 gc rfl 1 rfl a (Src.slice (h.ga b) OneC.h) zn (by rw[gl];simp;omega) fun x A n L=> ?_))
 have b:=b.gh n i
 have a:j0 x d 165 (ge (List.replicate 4 0++R)):=by
  rw[y,←seal_put l hl];exact A
 have hr:Rt x:=(hr.ext m id).ext n fun e=>by have e:0=d:=e;omega
 refine qr (qa (wl (st_sa gc rfl 4 64 64 1 rfl ⟨.inr ⟨rfl,rfl⟩,.inr ⟨rfl,rfl⟩,.inl rfl,by decide,by decide,by decide⟩ ?_)))
 rw[slb4]
 have B:vt x (some ⟨d,4,none⟩) R:=⟨by rw[gl,Nat.mul_one],.inr ⟨d,4,rfl,by have e:=a.ko.drop 4;rw[ug] at e;simpa using e⟩⟩
 rw[show Value.slice (some ⟨d,4,none⟩) (64-4) (64-4)= .slice (some ⟨d,4,none⟩) R.length 60 from by rw[k]]
 refine gi call181 rfl (sum_calls x B zo hr) fun U V C=> ?_
 obtain⟨rfl,o⟩:=C
 have a:=a.ga o
 have b:=b.gb o
 refine gw rfl fun H W q f r=> ?_
 have j:=j5 a.lt q
 have D:=Nat.le_trans b.size q
 have a:=a.ga r
 have b:=b.gb r
 refine wl (j8 (l':=ge (sumW R)) gc f rfl rfl (by rw[gl,Bq]) (by rw[gl,Bq];rfl) OneC.h fun X f s M=> ?_)
 have a:=a.gj s j
 have b:=b.gh s D
 refine qr (gk (js rfl 3 [qP 0,qP 1,(2,false)] [] (One d) zk fun I g N=> ?_))
 have a:=a.ga g
 have f:=f.ga g
 have b:=b.gb g
 have O:Ext (One d) _ I:=g.no
 refine xw9 gc rfl rfl 0 4 64 1 rfl ⟨.inr ⟨rfl,rfl⟩,.inl rfl,.inr ⟨rfl,rfl⟩,by decide,by decide,by decide⟩ ?_
 rw[ka,Nat.sub_zero]
 refine xw9 gc rfl rfl 0 32 32 1 rfl ⟨.inr ⟨rfl,rfl⟩,.inr ⟨rfl,rfl⟩,.inr ⟨rfl,rfl⟩,by decide,by decide,by decide⟩ ?_
 rw[ka,Nat.sub_zero]
 have E:Sl I (some ⟨H,0,none⟩) 4 1 (ge ((sumW R).take 4)):=⟨by rw[gl,List.length_take,Bq];rfl,.inr ⟨H,0,rfl,by have e:=f.ko.take 4;rwa [ul] at e⟩⟩
 have P:((sumW R).take 4).length=4:=by rw[List.length_take,Bq];rfl
 refine jg rfl (st_cpK gc rfl 1 rfl a rfl (by show 4≤32;decide) E OneC.h (by simp[gl,k]) fun Q t u S=>⟨O.then (u.mono fun _ _ e=>e),?_⟩)
 have b:=b.gh u i
 have a:j0 Q d 165 (ge (xv9 l)):=by
  rw[J,←sum_put R _ P];exact t
 refine jj (ja (j1 (qa (jh a rfl (by rw[gl,zz4 hl]) ?_))))
 refine wl (j8 (l':=ge (xv9 l)) gc a rfl rfl (by rw[gl,zz4 hl]) (by rw[gl]) OneC.h fun Y a F T=> ?_)
 have b:=b.gh F i
 refine qr (gq (qz [_] ⟨⟨d,0,rfl,u0 gc rfl rfl a.ko (by rw[gl,zz4 hl];rfl)⟩,trivial⟩ ?_))
 exact⟨rfl,b⟩
theorem and1 (t:Nat) (ht:t<4294967296):bitI .and .u32 (t:Int) 1=((t%2:Nat):Int):=by
 have a:(BitVec.ofInt IntKind.u32.bits (t:Int)&&&BitVec.ofInt IntKind.u32.bits 1).toNat=t%2:=by
  rw[BitVec.toNat_and]
  have b:(BitVec.ofInt IntKind.u32.bits (t:Int)).toNat=t:=by
   show(BitVec.ofInt 32 (t:Int)).toNat=t
   rw[BitVec.toNat_ofInt]
   omega
  have c:(BitVec.ofInt IntKind.u32.bits 1).toNat=1:=rfl
  rw[b,c,Nat.and_one_is_mod]
 show IntKind.u32.wrap _=_
 rw[a,IntKind.wrap_u32]
 omega
theorem zw3 (w:World) (x:Value) (n t:Nat) (hn:n<5000000000) (ht:t<4294967296) (_hx:x.oneCell'=true):
  gn prog 120 [.agg #[x,.int .i64 (n:Int)],.int .u32 (t:Int)] w fun v w'=>v= .int .i64 (ua t n:Int)∧Ext No w w':=by
 refine gx func120 ?_
 have b:=Ext.refl No w
 refine qa (gw rfl fun f g h a c=> ?_)
 have b:=b.gb c
 have a:j0 g f 155 ([x,.int .i64 (n:Int)]):=a
 refine jz rfl (gk (je rfl (jl rfl (fun d=> ?_) (fun d=> ?_))))
 ·have e:ua t n=2+n:=if_pos (by rw[and1 t ht] at d;omega)
  rw[e]
  refine qc rfl (jb a rfl rfl (j9 gc rfl ?_))
  rw[kg _ zo]
  refine qr (gq (gp (gu rfl rfl ?_)))
  exact⟨by congr 1,b⟩
 have e:ua t n=2:=if_neg (by rw[and1 t ht] at d;omega)
 rw[e]
 refine j7 (j1 (je rfl (gq (gu rfl rfl ?_))))
 exact⟨rfl,b⟩
theorem _root_.Go.Vc.j0.slB {w:World} {b T:Nat} {l:Bytes} (h:j0 w b T (ge l)):vt w (some ⟨b,0,none⟩) l:=⟨by rw[gl,Nat.mul_one],.inr ⟨b,0,rfl,h.ko⟩⟩
theorem wrap32 (n:Nat) (h:n<4294967296):IntKind.u32.wrap (n:Int)=(n:Int):=by rw[IntKind.wrap_u32];omega
theorem fits_calls (w:World) {d:Nat} {F:Nat→Prop} {D:kj} (h:At w d F D) (n:Int) (hn: -9223372036854775808≤n∧n<9223372036854775808):
  gn prog 70 [.agg #[.pointer (some ⟨d,0,none⟩),.int .i64 n]] w fun v w'=>v= .bool (decide (0≤n∧Bf n.toNat D.secs.length))∧Ext No w w':=by
 refine gx func70 ?_
 have c:=Ext.refl No w
 refine qa (gw rfl fun l o p a k=> ?_)
 have c:=c.gb k
 have a:j0 o l 155 ([.pointer (some ⟨d,0,none⟩),.int .i64 n]):=a
 refine jz rfl (jv (α:=Bool) [] rfl (fun z=>[(2,.bool z)]) (fun z u=>(z=decide (0≤n∧Bf n.toNat D.secs.length))∧j0 u l 155 ([.pointer (some ⟨d,0,none⟩),.int .i64 n])∧Ext No w u) ?_ ?_)
 ·refine js rfl 19 [qP 0,qP 1,qP 2,qP 3,qP 4,qP 5,qP 6,qP 7,qP 8,qP 9,qP 10,qP 12,qP 13,qP 14,qP 15,(11,false),qP 16,qP 17,qP 18] [] (No) zk fun m g q=> ?_
  have e:=a
  have a:=a.ga g
  have c:=c.gb g
  have r:Ext (No) _ m:=g.no
  refine gv gc 1 rfl (j6 gc rfl rfl (fun w' b=>(e.ga b).cell rfl) ?_)
  refine gv gc 2 rfl (Ax 6 rfl (fun j=> ?_) (fun j=> ?_))
  ·refine gv gc 1 rfl ?_
   refine j6 gc rfl rfl (fun w' b=>(e.ga b).cell rfl) ?_
   refine gv gc 3 rfl (Ax 11 rfl (fun j=> ?_) (fun j=> ?_))
   ·have s:=j
    refine gv gc 1 rfl (j6 gc rfl rfl (fun w' b=>(e.ga b).cell rfl) ?_)
    refine gv gc 1 rfl (j6 gc rfl rfl (fun w' b=>(e.ga b).cell rfl) ?_)
    refine gv gc 2 rfl ?_
    rw[kg (2*n) zo,kg _ zo]
    refine jg rfl (j3 call77 rfl ((dk_len m (h.ga c)).same) fun t x i=>⟨(by obtain⟨rfl,f⟩:=i;exact r.gb f),?_⟩)
    obtain⟨rfl,f⟩:=i
    have a:=a.ga f
    have c:=c.gb f
    refine gv gc 3 rfl (jj (ja ?_))
    exact gz (_) rfl ⟨by rw[decide_eq_decide];unfold Bf;omega,a,c⟩
   refine gv gc 10 rfl ?_
   refine jj (ja ?_)
   exact gz (false) rfl ⟨by symm;rw[decide_eq_false_iff_not];unfold Bf;omega,a,c⟩
  refine gv gc 15 rfl ?_
  refine jj (ja ?_)
  exact gz (false) rfl ⟨by symm;rw[decide_eq_false_iff_not];unfold Bf;omega,a,c⟩
 rintro z y ⟨rfl,a,c⟩
 refine gq (gu rfl rfl ?_)
 exact⟨rfl,c⟩
theorem head_calls (w:World) (x:Value) (n t:Nat) (hn:n<4294967296) (ht:t<4294967296) (_hx:x.oneCell'=true) (hr:Rt w):
  gn prog 147 [.agg #[x,.int .i64 (n:Int)],.int .u32 (t:Int)] w fun v w'=>v=numB (yq9 t n)∧Ext No w w':=by
 refine gx func147 ?_
 have b:=Ext.refl No w
 refine qa (gw rfl fun Q R T d E=> ?_)
 have b:=b.gb E
 have d:j0 R Q 155 ([x,.int .i64 (n:Int)]):=d
 refine gw rfl fun U w2 F a q=> ?_
 have G:=Nat.le_trans b.size F
 have d:=d.ga q
 have b:=b.gb q
 refine qr (gk (js rfl 9 [qP 2,qP 4,qP 5,qP 6,(0,false),(1,false),(3,false),(7,false),(8,false)] [9] (No) zk fun V o W=> ?_))
 have H:=d
 have a:=a.ga o
 have b:=b.gb o
 have c:Ext (No) _ V:=o.no
 refine gv gc 2 rfl (j6 gc rfl rfl (fun w' I=>(H.ga I).cell rfl) ?_)
 refine gv gc 1 rfl ?_
 rw[wrap32 n hn]
 have r:=c
 refine jg rfl (qd gc rfl 1 rfl rfl rfl zd zd zt (l':=ge Cr) rfl fun D w4 s J i X=>⟨c.gb i,?_⟩)
 have p:=j5 a.lt s
 have K:=Nat.le_trans b.size s
 have a:=a.ga i
 have b:=b.gb i
 have c:=c.gb i
 refine jg rfl (st_cv gc rfl J fun P j u Y=>⟨c.trans j fun x hx e=>by have e:x=D:=e;have:=r.size;omega,?_⟩)
 have c:=c.trans j (S:=No) fun x hx e=>by have e:x=D:=e;have:=r.size;omega
 have b:=b.gh j K
 have a:=a.gj j p
 have L:vt P (some ⟨D,0,none⟩) Cr:=⟨rfl,.inr ⟨D,0,rfl,u⟩⟩
 refine jg rfl (j3 call179 rfl (yk P (l:=Cr) L zd t ht) fun v6 Z y=>⟨(by obtain⟨b8,rfl,M,z,f⟩:=y;exact c.gb f),?_⟩)
 obtain⟨b8,rfl,M,z,f⟩:=y
 have a:=a.ga f
 have b:=b.gb f
 have c:=c.gb f
 refine jg rfl (j3 call179 rfl (yk Z z.slB (by simp[Cr,jp]) n hn) fun v7 w7 A=>⟨(by obtain⟨N,rfl,B,m,g⟩:=A;exact c.gb g),?_⟩)
 obtain⟨N,rfl,B,m,g⟩:=A
 have a:=a.ga g
 have b:=b.gb g
 have c:=c.gb g
 refine jg rfl (j3 call180 rfl (xv0 w7 m.slB (by simp[Cr,jp]) (hr.ext b id)) fun v8 w8 C=>⟨(by obtain⟨rfl,k⟩:=C;exact c.gb k),?_⟩)
 obtain⟨rfl,k⟩:=C
 have a:=a.ga k
 have b:=b.gb k
 refine jj (wb rfl (j8 (l':=ge (yq9 t n)) gc a rfl rfl (by rw[gl,Co]) (by rw[gl,Co];rfl) OneC.h fun w9 a O a0=> ?_))
 have b:=b.gh O G
 refine ja (j1 (gq (qz [_] ⟨⟨U,0,rfl,u0 gc rfl rfl a.ko (by rw[gl,Co];rfl)⟩,trivial⟩ ?_)))
 exact⟨rfl,b⟩
abbrev ItQ (w:World) (F:Nat→Prop) (N:Nat) (J Jx:Nat→(Nat→Prop)→World→Prop) (w':World):Prop:=
  ∃F':Nat→Prop,Ext F w w'∧(∀x,F' x→F x∨w.heap.size≤x)∧(J N F' w'∨∃k,k<N∧Jx k F' w')
abbrev argB (l:List Bytes) (k:Nat):Array Value:= #[numB (l.getD k [])]
theorem getD_rep {n k:Nat} {b:Bytes} (h:k<n):(List.replicate n b).getD k []=b:=by simp[h]
theorem blank1_walk (w:World) {l b n:Nat} {F:Nat→Prop} {J Jx:Nat→(Nat→Prop)→World→Prop} (hC:Cons prog l w.heap.size n (argB (List.replicate n zeros)) J Jx) (hb:j0 w b 3 [.int .i64 (n:Int)]) (hn:n<1000000000) (h0:J 0 F w):
  gn prog 145 [.func (.yield l) #[] #[],.pointer (some ⟨b,0,none⟩)] w fun _ w'=>ItQ w F n J Jx w':=by
 refine gx func145 ?_
 have c:=Ext.refl F w
 refine qa (gy rfl (hb.cell rfl) (jz rfl (gr ?_)))
 refine jm (α:=Nat×(Nat→Prop)) [0,3] rfl (fun z=>[(4,.int .i64 (z.1:Int))]) (fun z u=>(z.1≤n∧J z.1 z.2 u∧(∀x,z.2 x→F x∨w.heap.size≤x))∧Ext F w u) (fun z u=>n-z.1) (0,F) rfl ⟨⟨Nat.zero_le _,h0,fun x i=> .inl i⟩,c⟩ ?_
 rintro⟨k,G⟩ B ⟨⟨t,d,j⟩,c⟩
 try dsimp only
 dsimp only at t d j
 refine je rfl (gk (jl rfl (fun f=> ?_) (fun f=> ?_)))
 ·have a:k<n:=by omega
  refine xz (gr (gk (c_regionI (wlw_p rfl gc rfl (wlw rfl (st_bd gc rfl trivial (l':=ge zeros) (by rw[zeros_b];rfl) ?_))))))
  rw[show ge zeros=ge ((List.replicate n zeros).getD k []) from by rw[getD_rep a]]
  refine wli_yield rfl rfl rfl rfl rfl rfl (hC.round d a) fun y C v=> ?_
  obtain⟨m,o,p,q,r⟩:=v
  have A:=c.size
  have c:=c.trans o fun x i e=>(j x e).resolve_right zo
  have g:∀x,m x→F x∨w.heap.size≤x:=fun x i=>(p x i).elim (j x) fun h=> .inr zo
  refine wlw_p rfl gc rfl (zx (j1 (vj rfl (fun f=> ?_) (fun f=> ?_))))
  ·have s:=r (by simpa using f)
   refine gq (ji (gp (gp (ji (f_ret0 rfl ?_)))))
   exact⟨m,c,g,.inr ⟨k,a,s⟩⟩
  have d:=q (by simpa using f)
  refine j7 (Bo rfl ?_)
  rw[kg _ zo]
  refine gm ?_
  exact jn (k+1,m) rfl ⟨⟨a,d,g⟩,c⟩ zf
 have a:k=n:=by omega
 subst a
 refine yo (qy (qy (vf (y9 rfl ?_))))
 exact⟨G,c,j,.inl d⟩
theorem blank1_iter (w:World) {b n:Nat} (hb:j0 w b 3 [.int .i64 (n:Int)]) (hn:n<1000000000):Iter prog 145 [.pointer (some ⟨b,0,none⟩)] n (argB (List.replicate n zeros)) (One b) w:=fun _ _ _ _ hC h0 _=>blank1_walk w hC hb hn h0
theorem blank_calls (w:World) (n:Nat):
  gn prog 72 [.int .i64 (n:Int)] w fun v w'=>∃b,v= .func (.func 145) #[] #[.pointer (some ⟨b,0,none⟩)]∧w.heap.size≤b∧j0 w' b 3 [.int .i64 (n:Int)]∧Ext No w w':=by
 refine gx func72 ?_
 have c:=Ext.refl No w
 refine qa (gw rfl fun g h d a e=> ?_)
 have f:=Nat.le_trans c.size d
 have c:=c.gb e
 have a:j0 h g 3 ([.int .i64 (n:Int)]):=a
 refine jz rfl (je rfl (gq (gu rfl rfl ?_)))
 exact⟨g,rfl,f,a,c⟩
theorem begin1_walk (w:World) {l bl bt n t:Nat} {x:Value} {F:Nat→Prop} {J Jx:Nat→(Nat→Prop)→World→Prop} (hC:Cons prog l w.heap.size 1 (argB [yq9 t n]) J Jx) (hbl:j0 w bl 155 [x,.int .i64 (n:Int)]) (hbt:j0 w bt 35 [.int .u32 (t:Int)]) (hx:x.oneCell'=true) (hn:n<4294967296) (ht:t<4294967296) (hr:Rt w) (h0:J 0 F w):
  gn prog 146 [.func (.yield l) #[] #[],.pointer (some ⟨bl,0,none⟩),.pointer (some ⟨bt,0,none⟩)] w fun _ w'=>ItQ w F 1 J Jx w':=by
 obtain⟨H,m⟩:∃H,H=yq9 t n:=⟨_,rfl⟩
 rw[←m] at hC
 refine gx func146 ?_
 have a:=Ext.refl F w
 have c:=h0
 refine c_regionI (wlw_p rfl gc rfl (wlw rfl (st_ldN gc rfl hbl.ko rfl (wlw rfl (st_ld gc rfl (hbt.cell rfl) (wlw rfl (j3 call147 rfl (head_calls w x n t hn ht hx hr) fun r s d=> ?_)))))))
 obtain⟨rfl,b⟩:=d
 have c:=hC.st c b fun _ e=>e.elim
 have a:=a.gb b
 rw[←m]
 refine wli_yield rfl rfl rfl rfl rfl rfl (hC.round c zd) fun y u p=> ?_
 obtain⟨o,f,g,i,j⟩:=p
 have q:=a.size
 have a:=a.then f
 have k:∀x,o x→F x∨w.heap.size≤x:=fun x hx=>(g x hx).elim .inl fun h=> .inr zo
 refine zx (y9 rfl (⟨o,a,k,?_⟩))
 cases y with
 |true=>exact .inl (i rfl)
 |false=>exact .inr ⟨0,by decide,j rfl⟩
theorem begin1_iter (w:World) {bl bt n t:Nat} {x:Value} (hbl:j0 w bl 155 [x,.int .i64 (n:Int)]) (hbt:j0 w bt 35 [.int .u32 (t:Int)]) (hx:x.oneCell'=true) (hn:n<4294967296) (ht:t<4294967296) (hr:Rt w):Iter prog 146 [.pointer (some ⟨bl,0,none⟩),.pointer (some ⟨bt,0,none⟩)] 1 (argB [yq9 t n]) (fun x=>x=bl∨x=bt∨x=0) w:=fun _ _ _ _ hC h0 _=>begin1_walk w hC hbl hbt hx hn ht hr h0
theorem bodyB_len (b:Bytes):(Dl b).length=b.length+4:=by simp[Dl,jp];omega
theorem sect_le (b:Bytes) (hb:b.length≤40000) {k:Nat} (hk:k<kl b.length):48*k<(Dl b).length:=by
 have:=sectN_tight hb
 rw[bodyB_len]
 omega
theorem yv7 (t n:Nat) (b:Bytes) {k:Nat} (hk:k<kl b.length):(uw t n b).getD k []=Bm t n b k:=by simp[uw,hk]
theorem own1 {b x:Nat} (h:jd (some ⟨b,0,none⟩) x):x=b:=by
 have h:some (⟨b,0,none⟩:Addr)=some ⟨x,0,none⟩:=h
 simp at h
 exact h.symm
theorem zz {G G2:Nat→Prop} {b:Nat} {w:World} (h:¬G b) (hb:b<w.heap.size) (hG:∀x,G2 x→G x∨w.heap.size≤x):¬G2 b:=fun e=>(hG b e).elim h fun h=>by omega
theorem yj1 (w:World) (t n:Nat) {p:Option Addr} {m c:Nat}:
  gn prog 121 [.int .u32 (t:Int),.int .u32 (n:Int),.slice p m c] w fun v w'=>∃bb bt bn,v= .func (.func 178) #[] #[.pointer (some ⟨bb,0,none⟩),.pointer (some ⟨bt,0,none⟩),.pointer (some ⟨bn,0,none⟩)]∧(w.heap.size≤bb∧w.heap.size≤bt∧w.heap.size≤bn)∧j0 w' bb 41 [.slice p m c]∧j0 w' bt 35 [.int .u32 (t:Int)]∧j0 w' bn 35 [.int .u32 (n:Int)]∧Ext No w w':=by
 refine gx func121 ?_
 have d:=Ext.refl No w
 refine qa (gw rfl fun r x h a i=> ?_)
 have j:=Nat.le_trans d.size h
 have d:=d.gb i
 have a:j0 x r 35 ([.int .u32 (t:Int)]):=a
 refine gw rfl fun s y k b g=> ?_
 have l:=Nat.le_trans d.size k
 have a:=a.ga g
 have d:=d.gb g
 have b:j0 y s 35 ([.int .u32 (n:Int)]):=b
 refine gw rfl fun u z o e f=> ?_
 have q:=Nat.le_trans d.size o
 have a:=a.ga f
 have b:=b.ga f
 have d:=d.gb f
 have e:j0 z u 41 ([.slice p m c]):=e
 refine jz rfl (je rfl (gq (gu rfl rfl ?_)))
 exact⟨u,r,s,rfl,⟨q,j,l⟩,e,a,b,d⟩
def xx5 (w u:World) (G:Nat→Prop) (q:Option Addr) (m c:Nat) (l:Bytes):Prop:=
  vt u q l∧m=l.length∧m≤c∧∀x off,q=some ⟨x,off,none⟩→w.heap.size≤x∧x<u.heap.size∧¬G x
theorem xx5.ga {w u u':World} {G:Nat→Prop} {q:Option Addr} {m c:Nat} {l:Bytes} (h:xx5 w u G q m c l) (hE:Ext No u u'):xx5 w u' G q m c l:=
 ⟨h.1.ga hE,h.2.1,h.2.2.1,fun x off e=>let⟨a,b,d⟩:=h.2.2.2 x off e;⟨a,Nat.lt_of_lt_of_le b hE.size,d⟩⟩
theorem xx5.round {w u u':World} {G G2:Nat→Prop} {q:Option Addr} {m c:Nat} {l:Bytes} (h:xx5 w u G q m c l) (hE:Ext G u u') (hG:∀x,G2 x→G x∨u.heap.size≤x):xx5 w u' G2 q m c l:=
 ⟨h.1.ext hE fun x off e=>(h.2.2.2 x off e).2.2,h.2.1,h.2.2.1,fun x off e=>let⟨a,b,d⟩:=h.2.2.2 x off e;⟨a,Nat.lt_of_lt_of_le b hE.size,zz d b hG⟩⟩
theorem yj6 {q:Option Addr} {l m sz x off:Nat} (h:u5 q l m sz=some ⟨x,off,none⟩) (hq:∀x off sp,q=some ⟨x,off,sp⟩→sp=none):∃off',q=some ⟨x,off',none⟩:=by
 unfold u5 at h
 split at h
 ·exact⟨off,h⟩
 cases q with
 |none=>cases h
 |some a=>
  obtain⟨b,off',sp⟩:=a
  obtain rfl:=hq _ _ _ rfl
  simp only[Option.map_some,Option.some.injEq] at h
  unfold Addr.add at h
  split at h
  ·simp at h;exact⟨off',by rw[h.1]⟩
  simp at h;exact⟨off',by rw[h.1]⟩
theorem slB_spot {w:World} {q:Option Addr} {l:Bytes} (h:vt w q l) (hl:l≠[]):∀x off sp,q=some ⟨x,off,sp⟩→sp=none:=fun x off sp e=>by
 rcases h.2 with h0|⟨b,o,h1,_⟩
 ·exact absurd (List.eq_nil_of_length_eq_zero h0) hl
 rw[h1] at e;simp at e;exact e.2.2.symm
theorem xx5.tail {w u:World} {G:Nat→Prop} {q:Option Addr} {m c:Nat} {l:Bytes} (h:xx5 w u G q m c l) (hl:l≠[]) {k:Nat} (hk:k≤m):xx5 w u G (u5 q k c 1) (m-k) (c-k) (l.drop k):=by
 obtain⟨d,g,i,j⟩:=h
 have b:=slB_spot d hl
 have f:=d.slice k m c hk i zo
 rw[Nat.mul_one,Nat.mul_one,ug,ul,List.take_of_length_le za] at f
 refine⟨?_,by rw[List.length_drop];omega,by omega,fun x n e=> ?_⟩
 ·rw[vt,List.length_drop,←g];exact f
 obtain⟨a,o⟩:=yj6 e b
 exact j x a o
theorem xx5.head {w u:World} {G:Nat→Prop} {q:Option Addr} {m c:Nat} {l:Bytes} (h:xx5 w u G q m c l) {k:Nat} (hk:k≤m):vt u q (l.take k):=by
 obtain⟨b,d,e,f⟩:=h
 have a:=b.slice 0 k k (Nat.zero_le _) (Nat.le_refl _) zo
 rw[ka,Nat.sub_zero,Nat.zero_mul,List.drop_zero,Nat.mul_one,ul] at a
 rw[vt,List.length_take,Nat.min_eq_left zo]
 exact a
theorem wrap16 (n:Nat) (h:n<65536):IntKind.u16.wrap (n:Int)=(n:Int):=by rw[IntKind.wrap_u16];omega
theorem piece1_walk (w:World) {l bb bt bn t n c:Nat} {p:Option Addr} {b:Bytes} {F:Nat→Prop} {J Jx:Nat→(Nat→Prop)→World→Prop} (hCo:Cons prog l w.heap.size (kl b.length) (argB (uw t n b)) J Jx)
  (hbb:j0 w bb 41 [.slice p b.length c]) (hbt:j0 w bt 35 [.int .u32 (t:Int)]) (hbn:j0 w bn 35 [.int .u32 (n:Int)]) (hs:vt w p b) (ht:t<4294967296) (hn:n<4294967296) (hb4:b.length≤40000) (hr:Rt w)
  (hF:¬F 0) (h0:J 0 F w):
  gn prog 178 [.func (.yield l) #[] #[],.pointer (some ⟨bb,0,none⟩),.pointer (some ⟨bt,0,none⟩),.pointer (some ⟨bn,0,none⟩)] w fun _ w'=>ItQ w F (kl b.length) J Jx w':=by
 have cb:=D6 b.length
 refine gx func178 ?_
 have f:=Ext.refl F w
 have g:=h0
 have Y:=hCo.lt h0
 have cc:=hr.lt
 have cd:=hbb.lt
 have ce:=hbt.lt
 have cf:=hbn.lt
 refine gk (js rfl 7 [qP 0,qP 1,qP 2,qP 4,(3,false),(5,false),qP 6] [] (No) zk fun w1 D cg=> ?_)
 have ao:=g
 have R:=hbb
 have Z:=hbt
 have a0:=hbn
 have ap:=hs
 have aq:=hr
 have ar:=f
 have g:=hCo.st g D fun _ e=>e.elim
 have hbb:=hbb.ga D
 have hbt:=hbt.ga D
 have hbn:=hbn.ga D
 have hs:=hs.ga D
 have hr:=Rt.ext hr D id
 have f:=f.gb D
 have r:Ext (No) _ w1:=D.no
 refine j6 gc rfl rfl (fun w' K=>((R.ga K).cell rfl)) ?_
 refine gv gc 2 rfl ?_
 rw[wrap32 b.length zo]
 refine j6 gc rfl rfl (fun w' K=>((R.ga K).cell rfl)) ?_
 have au:=f
 refine jg rfl (j3 call179 rfl (yk w1 (l:=[]) (Sl.nil _ _ _) zd b.length zo) fun v2 w2 av=>⟨(by obtain⟨L,rfl,a9,aa,v⟩:=av;exact r.gb v),?_⟩)
 obtain⟨L,rfl,a9,aa,v⟩:=av
 have g:=hCo.st g v fun _ e=>e.elim
 have hbb:=hbb.ga v
 have hbt:=hbt.ga v
 have hbn:=hbn.ga v
 have hs:=hs.ga v
 have hr:=Rt.ext hr v id
 have f:=f.gb v
 have r:=r.gb v
 have c7:=Nat.le_trans au.size a9
 have aw:=Own.blk aa 1 (n:=4) (c:=4) (T:=5) (by rw[gl,List.nil_append,jp]) zd zd
 refine jg rfl (uh gc rfl 1 1 rfl rfl rfl zd aw (Src.slice hs OneC.h) (by dsimp only[maxLen];simp only[jp,List.nil_append];omega) (by dsimp only;simp only[jp,List.nil_append];omega) fun pr cr w3 M N bg=>⟨r.trans N fun x X e=>by have:=own1 e;omega,?_⟩)
 have bh:bb≠L:=by omega
 have bi:bt≠L:=by omega
 have bj:bn≠L:=by omega
 have O:∀x,jd (some (⟨L,0,none⟩:Addr)) x→x=L:=fun x e=>by have e:some (⟨L,0,none⟩:Addr)=some ⟨x,0,none⟩:=e;simp at e;exact e.symm
 have f:=f.trans N fun x X e=>by have:=O x e;omega
 have g:=hCo.st g N fun x e=>by have:=O x e;exact⟨by omega,fun e=>by have:=Y _ e;omega⟩
 have hbb:=hbb.ext N fun e=>bh (O _ e)
 have hbt:=hbt.ext N fun e=>bi (O _ e)
 have hbn:=hbn.ext N fun e=>bj (O _ e)
 have hr:=Rt.ext hr N fun e=>by have:=O _ e;omega
 have a:xx5 w w3 F pr (4+b.length) cr (Dl b):=by
  have M:Own w3 pr (4+b.length) cr 5 1 ((ge ([]++be 4 b.length)).take (4*1)++ge b):=M
  rw[List.nil_append,Nat.mul_one,ul,List.take_of_length_le (by rw[jp];omega),←k8] at M
  have e1:4+b.length=(Dl b).length:=by rw[bodyB_len];omega
  refine⟨by have:=M.sl;rw[e1] at this;exact this,e1,M.cap,fun x a4 e=> ?_⟩
  have X:jd pr x:=by
   rcases M with⟨h1,_⟩|⟨b',l',h1,_⟩
   ·rw[h1] at e;cases e
   rw[h1] at e;simp at e;obtain⟨rfl,rfl⟩:=e;exact h1
  have hw:w.heap.size≤x:=(bg x X).elim (fun h=>by have:=O x h;omega) fun h=>by have:=au.size;have:=v.size;omega
  exact⟨hw,M.lt X,fun e=>by have:=Y _ e;omega⟩
 have hs:=0
 dsimp only
 rw[show Value.slice pr (([]++be 4 b.length:List UInt8).length+b.length) cr= .slice pr (4+b.length) cr from by rw[List.nil_append,jp]]
 refine gv gc 1 rfl (jj (ja (j1 (qa (gy rfl (hbb.cell rfl) (j9 gc rfl (gi call65 rfl (vo w3 (b.length:Int)) fun v4 w4 bk=> ?_)))))))
 obtain⟨rfl,P⟩:=bk
 have g:=hCo.st g P fun _ e=>e.elim
 have hbb:=hbb.ga P
 have hbt:=hbt.ga P
 have hbn:=hbn.ga P
 have hr:=Rt.ext hr P id
 have a:=a.ga P
 have f:=f.gb P
 rw[Aj]
 refine j9 gc rfl ?_
 rw[wrap16 _ zo]
 refine jz rfl (gk (js rfl 5 [qP 0,qP 2,(1,false),(3,false),qP 4] [] (No) zk fun w5 E ch=> ?_))
 have ao:=g
 have R:=hbb
 have Z:=hbt
 have a0:=hbn
 have ap:=hs
 have aq:=hr
 have ai:=a
 have ar:=f
 have g:=hCo.st g E fun _ e=>e.elim
 have hbb:=hbb.ga E
 have hbt:=hbt.ga E
 have hbn:=hbn.ga E
 have hr:=Rt.ext hr E id
 have a:=a.ga E
 have f:=f.gb E
 have r:Ext (No) _ w5:=E.no
 refine j6 gc rfl rfl (fun w' K=>((Z.ga K).cell rfl)) ?_
 refine j6 gc rfl rfl (fun w' K=>((a0.ga K).cell rfl)) ?_
 refine jg rfl (j3 call179 rfl (yk w5 (l:=[]) (Sl.nil _ _ _) zd t ht) fun v6 w6 ax=>⟨(by obtain⟨bm,rfl,ay,ab,B⟩:=ax;exact r.gb B),?_⟩)
 obtain⟨bm,rfl,ay,ab,B⟩:=ax
 have g:=hCo.st g B fun _ e=>e.elim
 have hbb:=hbb.ga B
 have hbt:=hbt.ga B
 have hbn:=hbn.ga B
 have hr:=Rt.ext hr B id
 have a:=a.ga B
 have f:=f.gb B
 have r:=r.gb B
 have bo:=f
 refine jg rfl (j3 call179 rfl (yk w6 ab.slB (by simp[jp]) n hn) fun v7 w7 az=>⟨(by obtain⟨a5,rfl,ac,a1,C⟩:=az;exact r.gb C),?_⟩)
 obtain⟨a5,rfl,ac,a1,C⟩:=az
 have g:=hCo.st g C fun _ e=>e.elim
 have hbb:=hbb.ga C
 have hbt:=hbt.ga C
 have hbn:=hbn.ga C
 have hr:=Rt.ext hr C id
 have a:=a.ga C
 have f:=f.gb C
 have r:=r.gb C
 have c8:=Nat.le_trans bo.size ac
 have d:j0 w7 a5 5 (ge (be 4 t++be 4 n)):=by rw[List.nil_append] at a1;exact a1
 refine gv gc 1 rfl (jj (ja (j1 (je rfl (gr ?_)))))
 refine jm (α:=Nat×(Option Addr×Nat×Nat)×(Nat→Prop)) [0,6,7,24] rfl (fun z=>[(5,.slice z.2.1.1 z.2.1.2.1 z.2.1.2.2),(25,.int .u16 (z.1:Int))]) (fun z u=>(z.1≤kl b.length∧J z.1 z.2.2 u∧(∀x,z.2.2 x→F x∨w.heap.size≤x)∧xx5 w u z.2.2 z.2.1.1 z.2.1.2.1 z.2.1.2.2 ((Dl b).drop (48*z.1))∧j0 u a5 5 (ge (be 4 t++be 4 n))∧¬z.2.2 a5∧¬z.2.2 0∧Rt u)∧Ext F w u) (fun z u=>kl b.length-z.1) (0,(pr,4+b.length,cr),F) rfl ⟨⟨Nat.zero_le _,g,fun x X=> .inl X,by rw[Nat.mul_zero,List.drop_zero];exact a,d,fun e=>by have:=Y _ e;omega,hF,hr⟩,f⟩ ?_
 rintro⟨k,⟨q,m,c⟩,G⟩ w8 ⟨⟨hk,g,hG,a,d,aj,ak,hr⟩,f⟩
 try dsimp only
 dsimp only at hk g hG a d aj ak
 have hm:=a.2.1
 have bp:=a.2.2.1
 have bq:=d.lt
 refine je rfl (gk (jl rfl (fun hc=> ?_) (fun hc=> ?_)))
 ·have Q:k<kl b.length:=by omega
  have ci:=sect_le b hb4 Q
  rw[List.length_drop] at hm
  have cj:=bodyB_len b
  obtain⟨s,ck⟩:∃s,s=min m 48:=⟨_,rfl⟩
  have br:(Dl b).drop (48*k)≠[]:=fun e=>by have:=congrArg List.length e;rw[List.length_drop] at this;simp at this;omega
  refine xz (gr (je rfl (qc rfl ?_)))
  rw[show(if 48<(m:Int) then(48:Int) else(m:Int))=(s:Int) from by split<;>omega]
  refine jz rfl (gk (gk ?_))
  refine c_drawY 12 rfl 12 [qP 0,qP 1,qP 2,qP 4,qP 6,qP 7,qP 8,qP 9,(3,false),(5,false),(10,false),(11,false)] [] (No) zk zk [12,13] rfl fun w9 U cl=> ?_
  have ao:=g
  have R:=hbb
  have Z:=hbt
  have a0:=hbn
  have ap:=hs
  have aq:=hr
  have ai:=a
  have bs:=d
  have ar:=f
  have g:=hCo.st g U fun _ e=>e.elim
  have hr:=Rt.ext hr U id
  have a:=a.ga U
  have d:=d.ga U
  have f:=f.gb U
  have r:Ext (No) _ w9:=U.no
  refine gv gc 7 rfl (zx1 gc rfl rfl 0 s s 1 rfl (.inl ⟨rfl,rfl⟩) (.inl rfl) (.inr ⟨rfl,rfl⟩) (Nat.zero_le _) (Nat.le_refl _) zn ?_)
  dsimp only
  rw[ka,Nat.sub_zero]
  refine jg rfl (j3 call91 rfl (C6 w9 d.slB (by simp[jp]) k zo) fun cm bu ad=>⟨(by obtain⟨bv,rfl,b0,ae,i⟩:=ad;exact r.gb i),?_⟩)
  obtain⟨bv,rfl,b0,ae,i⟩:=ad
  have g:=hCo.st g i fun _ e=>e.elim
  have hr:=Rt.ext hr i id
  have a:=a.ga i
  have d:=d.ga i
  have f:=f.gb i
  have r:=r.gb i
  have bw:=f
  have cn:=r.size
  have b1:=hCo.lt g
  have al:=a
  have bf:=d.lt
  have c9:=hr.lt
  refine jg rfl (j3 call91 rfl (C6 bu ae.slB (by simp[jp]) (kl b.length) zo) fun co bx af=>⟨(by obtain⟨V,rfl,ag,a2,j⟩:=af;exact r.gb j),?_⟩)
  obtain⟨V,rfl,ag,a2,j⟩:=af
  have g:=hCo.st g j fun _ e=>e.elim
  have hr:=Rt.ext hr j id
  have a:=a.ga j
  have d:=d.ga j
  have f:=f.gb j
  have r:=r.gb j
  have b2:=Nat.le_trans bw.size ag
  obtain⟨H,hH⟩:∃H,H=be 4 t++be 4 n++be 2 k++be 2 (kl b.length):=⟨_,rfl⟩
  rw[←hH] at a2⊢
  have bz:H.length=12:=by rw[hH];simp[jp]
  have b3:=Own.blk a2 1 (n:=H.length) (c:=H.length) (T:=5) (by rw[gl,Nat.mul_one]) (Nat.le_refl _) (by rw[bz];decide)
  have b4:(((Dl b).drop (48*k)).take s).length=s:=by rw[List.length_take,List.length_drop];omega
  have b5:Sl bx q s 1 (ge (((Dl b).drop (48*k)).take s)):=by have e:=a.head (k:=s) zo;rw[vt,b4] at e;exact e
  have b6:¬G V:=fun e=>by have:=b1 V e;omega
  refine jg rfl (uh gc rfl 1 1 rfl rfl rfl zd b3 (Src.slice b5 OneC.h) zm zn fun pa ca a6 a3 I cp=>⟨r.trans I fun x X e=>by have:=own1 e;omega,?_⟩)
  have W:∀x,jd (some (⟨V,0,none⟩:Addr)) x→x=V:=fun x e=>by have e:some (⟨V,0,none⟩:Addr)=some ⟨x,0,none⟩:=e;simp at e;exact e.symm
  have r:=r.trans I (S:=No) fun x X e=>by have:=W x e;omega
  have f:=f.trans I fun x X e=>by have:=W x e;omega
  have g:=hCo.st g I fun x e=>by have:=W x e;subst this;exact⟨b2,b6⟩
  have hr:=Rt.ext hr I fun e=>by have:=W _ e;omega
  have a:xx5 w a6 G q m c ((Dl b).drop (48*k)):=by
   refine⟨a.1.ext I fun x a4 e h=> ?_,a.2.1,a.2.2.1,fun x a4 e=> ?_⟩
   ·have:=W x h
    have:=(al.2.2.2 x a4 e).2.1
    omega
   have h3:=a.2.2.2 x a4 e
   exact⟨h3.1,Nat.lt_of_lt_of_le h3.2.1 I.size,h3.2.2⟩
  have d:=d.ext I fun e=>by have:=W _ e;omega
  have a3:Own a6 pa (H.length+s) ca 5 1 ((ge H).take (H.length*1)++ge (((Dl b).drop (48*k)).take s)):=a3
  rw[Nat.mul_one,ul,List.take_of_length_le (Nat.le_refl _),←k8] at a3
  obtain⟨A,hA⟩:∃A,A=H++((Dl b).drop (48*k)).take s:=⟨_,rfl⟩
  rw[←hA] at a3
  have b7:A.length=H.length+s:=by rw[hA,List.length_append,b4]
  have c0:vt a6 pa A:=by have e:=a3.sl;rw[←b7] at e;exact e
  dsimp only
  rw[←b7]
  refine jg rfl (j3 call180 rfl (xv0 a6 c0 zo hr) fun cq cs ah=>⟨(by obtain⟨rfl,o⟩:=ah;exact r.gb o),?_⟩)
  obtain⟨rfl,o⟩:=ah
  have g:=hCo.st g o fun _ e=>e.elim
  have hr:=Rt.ext hr o id
  have a:=a.ga o
  have d:=d.ga o
  have f:=f.gb o
  have r:=r.gb o
  have hP:xv9 A=Bm t n b k:=by
   rw[hA,hH,Bm]
   congr 2
   rcases Nat.le_total m 48 with h|h
   ·rw[List.take_of_length_le za,List.take_of_length_le za]
   rw[show s=48 from by omega]
  obtain⟨Pk,b8⟩:∃Pk,Pk=Bm t n b k:=⟨_,rfl⟩
  rw[hP,←b8]
  have am:argB (uw t n b) k= #[numB Pk]:=by rw[argB,yv7 t n b Q,b8]
  have b9:=hCo.round g Q
  rw[am] at b9
  refine jj (ja (f_tail zk (wbi_yield rfl rfl rfl rfl rfl rfl rfl b9 fun y c1 hy=> ?_)))
  obtain⟨G2,a7,a8,c2,c3⟩:=hy
  have ct:=f.size
  have f:=f.trans a7 fun x X e=>(hG x e).resolve_right zo
  have ba:∀x,G2 x→F x∨w.heap.size≤x:=fun x X=>(a8 x X).elim (hG x) fun h=> .inr zo
  have a:=a.round a7 a8
  have c4:=d.lt
  have c5:=hr.lt
  have d:=d.ext a7 aj
  have hr:=Rt.ext hr a7 ak
  have bc:=zz aj c4 a8
  have bd:=zz ak c5 a8
  refine wbi (hF:= .none) rfl rfl (Dg gc rfl rfl rfl (wbi_nil (j1 (vj rfl (fun hc=> ?_) (fun hc=> ?_)))))
  ·have c6:=c3 (by simpa using hc)
   refine gq (gp (ji (gp (gp (ji (f_ret0 rfl ?_))))))
   exact⟨G2,f,ba,.inr ⟨k,Q,c6⟩⟩
  have g:=c2 (by simpa using hc)
  refine j7 (j1 (yv rfl (wl (A5 gc rfl s m c 1 rfl (.inr ⟨rfl,rfl⟩) (.inr ⟨rfl,rfl⟩) (.inl rfl) zo bp (Nat.le_refl _) ?_))))
  dsimp only
  refine j9 gc rfl (gm (Bo rfl ?_))
  rw[show IntKind.u16.wrap ((k:Int)+1)=((k+1:Nat):Int) from wrap16 (k+1) zo]
  refine j9 gc rfl (gm ?_)
  have an:xx5 w c1 G2 (u5 q s c 1) (m-s) (c-s) ((Dl b).drop (48*(k+1))):=by
   have e:=a.tail br (k:=s) zo
   rw[List.drop_drop] at e
   rcases Nat.le_total m 48 with h|h
   ·rw[List.drop_eq_nil_of_le zo] at e
    rw[List.drop_eq_nil_of_le zo]
    exact e
   rw[show 48*k+s=48*(k+1) from by omega] at e
   exact e
  exact jn (k+1,(u5 q s c 1,m-s,c-s),G2) rfl ⟨⟨Q,g,ba,an,d,bc,bd,hr⟩,f⟩ zf
 have Q:k=kl b.length:=by omega
 subst Q
 refine yo (qy (qy (vf (y9 rfl ?_))))
 exact⟨G,f,hG,.inl g⟩
theorem xx6 (w:World) {bb bt bn t n c:Nat} {p:Option Addr} {b:Bytes} (hbb:j0 w bb 41 [.slice p b.length c]) (hbt:j0 w bt 35 [.int .u32 (t:Int)]) (hbn:j0 w bn 35 [.int .u32 (n:Int)]) (hs:vt w p b) (ht:t<4294967296) (hn:n<4294967296) (hb4:b.length≤40000) (hr:Rt w):
  Iter prog 178 [.pointer (some ⟨bb,0,none⟩),.pointer (some ⟨bt,0,none⟩),.pointer (some ⟨bn,0,none⟩)] (kl b.length) (argB (uw t n b)) (fun x=>x=0) w:=
 fun _ _ _ _ hC h0 hown=>piece1_walk w hC hbb hbt hbn hs ht hn hb4 hr (hown 0 rfl) h0
abbrev DkQ (w:World) (d:Nat) (F:Nat→Prop) (D:kj) (w':World):Prop:=∃F':Nat→Prop,At w' d F' D∧Ext F w w'∧∀x,F' x→F x∨w.heap.size≤x
theorem dkWrite (w:World) {d m:Nat} {F:Nat→Prop} {D:kj} (h:At w d F D) (hok:D.Ok m) (hm:m+1<1000000000) (i:Int) {b:Bytes} (hb:b.length=64):
  gn prog 143 [.pointer (some ⟨d,0,none⟩),.int .i64 i,numB b] w fun v w'=>v= .int .i64 (D.write i b).2∧DkQ w d F (D.write i b).1 w':=
 (dk_write w h hok hm i hb).mono fun _ w' ⟨h1,h2,h3⟩=>⟨h1,_,h2,h3,fun _ hx=>hx.imp id fun h=>h.1⟩
theorem dkSync (w:World) {d m:Nat} {F:Nat→Prop} {D:kj} (h:At w d F D) (hok:D.Ok m) (hm:m+1<1000000000):
  gn prog 144 [.pointer (some ⟨d,0,none⟩)] w fun v w'=>v= .int .i64 D.sync.2∧DkQ w d F D.sync.1 w':=
 (dk_sync w h hok hm).mono fun _ _ ⟨h1,h2,h3⟩=>⟨h1,F,h2,h3,fun _=> .inl⟩
theorem dkRead (w:World) {d m:Nat} {F:Nat→Prop} {D:kj} (h:At w d F D) (hok:D.Ok m) (hm:m<1000000000) (i:Int):
  gn prog 78 [.pointer (some ⟨d,0,none⟩),.int .i64 i] w fun v w'=>v= .tuple #[numB (D.read i).2.1,.int .i64 (D.read i).2.2]∧At w' d F (D.read i).1∧Ext F w w':=by
 obtain⟨f,g,j,h⟩:=h
 exact(dk_read w h hok hm i).mono fun _ _ ⟨a,b,c⟩=>⟨a,⟨_,_,_,b⟩,c.mono fun x _ e=>by have e:x=d:=e;rw[e];exact h.own.1⟩
def PutJ (_w0:World) (d n m b3 b4 b6:Nat) (at_:Int) (D0:kj) (L:List Bytes) (k:Nat) (z:(Nat→Prop)×kj) (u:World):Prop:=
  At u d z.1 z.2∧z.2.Ok (m+2*k)∧Bd D0 at_ L=Bd z.2 (at_+k) (L.drop k)∧(¬z.1 b3∧¬z.1 b4∧¬z.1 b6)∧j0 u b3 155 [.pointer (some ⟨d,0,none⟩),.int .i64 n]∧j0 u b4 3 [.int .i64 (at_+k)]∧∃e,j0 u b6 38 [.int .i64 e]
def PutX (b3 b4 b6 d:Nat) (at_:Int) (D0:kj) (L:List Bytes) (c:Code) (z:(Nat→Prop)×kj) (u:World):Prop:=
  c= .ret∧At u d z.1 z.2∧(¬z.1 b3∧¬z.1 b4∧¬z.1 b6)∧(Bd D0 at_ L).1=z.2∧(b4<u.heap.size∧b6<u.heap.size)∧j0 u b6 38 [.int .i64 (Bd D0 at_ L).2]
abbrev PutF (b4 b6:Nat) (z:(Nat→Prop)×kj):Nat→Prop:=fun x=>z.1 x∨x=b4∨x=b6
def putC (w w0:World) (d n m b3 b4 b6:Nat) (at_:Int) (D0:kj) (L:List Bytes) (h3:b3<w.heap.size):CoS ((Nat→Prop)×kj) w where
  Fp:=PutF b4 b6
  J:=PutJ w0 d n m b3 b4 b6 at_ D0 L
  Jx:=fun _ c z u=>PutX b3 b4 b6 d at_ D0 L c z u
  st:=by
    rintro k z S u u' ⟨h1,h2,h3',h4,h5,h6,e,h7⟩ hE hS
    exact⟨h1.ext hE fun x hx hs=>(hS x hs).2 (.inl hx),h2,h3',h4,h5.ext hE fun hs=>by have:=(hS _ hs).1;omega,h6.ext hE fun hs=>(hS _ hs).2 (.inr (.inl rfl)),e,h7.ext hE fun hs=>(hS _ hs).2 (.inr (.inr rfl))⟩
  stx:=by
    rintro k c z S u u' ⟨h1,h2,h3',h4,h5,h6⟩ hE hS
    exact⟨h1,h2.ext hE fun x hx hs=>(hS x hs).2 (.inl hx),h3',h4,⟨Nat.lt_of_lt_of_le h5.1 hE.size,Nat.lt_of_lt_of_le h5.2 hE.size⟩,h6.ext hE fun hs=>(hS _ hs).2 (.inr (.inr rfl))⟩
  lt:=by
    rintro k z u ⟨h1,h2,h3',h4,h5,h6,e,h7⟩ x hx
    rcases hx with hx|rfl|rfl
    ·exact h1.lt x hx
    ·exact h6.lt
    ·exact h7.lt
  ltx:=by
    rintro k c z u ⟨h1,h2,h3',h4,h5,h6⟩ x hx
    rcases hx with hx|rfl|rfl
    ·exact h2.lt x hx
    ·exact h5.1
    ·exact h5.2
theorem yw {F F' G:Nat→Prop} {u w:World} (h:∀x,G x→F x∨w.heap.size≤x) (hs:w.heap.size≤u.heap.size) (h':∀x,F' x→G x∨u.heap.size≤x):∀x,F' x→F x∨w.heap.size≤x:=fun x hx=>(h' x hx).elim (h x) fun e=> .inr (Nat.le_trans hs e)
theorem yw5 (w:World) {d m gf n:Nat} {F own:Nat→Prop} {D:kj} {cap:Array Value} {L:List Bytes} (h:At w d F D) (hok:D.Ok m) (hm:m+2*L.length+3<1000000000) (at_:Int) (hat: -1000000000≤at_∧at_≤1000000000) (hL64:∀b∈L,b.length=64)
  (hcf:∀args w,(callFunc gf args).run prog w= .ok (.enter gf args) w) (hit:∀w1,Ext No w w1→Iter prog gf cap.toList L.length (argB L) own w1) (hown:∀x,own x→x<w.heap.size∧¬F x):
  gn prog 71 [.agg #[.pointer (some ⟨d,0,none⟩),.int .i64 (n:Int)],.int .i64 at_,.func (.func gf) #[] cap] w fun v w'=>v= .int .i64 (Bd D at_ L).2∧DkQ w d F (Bd D at_ L).1 w':=by
 refine Ci func71 rfl rfl rfl rfl ?_
 have hX:=Ext.refl F w
 have hFlt:=h.lt
 have hN0:=Ext.refl No w
 refine qa (gw rfl fun b3 w1 hn3 hb3 hE1=> ?_)
 have fr3:=Nat.le_trans hX.size hn3
 have h:=h.ga hE1
 have hN0:=hN0.gb hE1
 have hX:=hX.gb hE1
 have hb3:j0 w1 b3 155 ([.pointer (some ⟨d,0,none⟩),.int .i64 (n:Int)]):=hb3
 refine gw rfl fun b4 w2 hn4 hb4 hE2=> ?_
 have ne3_4:=j5 hb3.lt hn4
 have fr4:=Nat.le_trans hX.size hn4
 have hb3:=hb3.ga hE2
 have h:=h.ga hE2
 have hN0:=hN0.gb hE2
 have hX:=hX.gb hE2
 have hb4:j0 w2 b4 3 ([.int .i64 at_]):=hb4
 refine gw rfl fun b6 w3 hn6 hb6 hE3=> ?_
 have ne3_6:=j5 hb3.lt hn6
 have ne4_6:=j5 hb4.lt hn6
 have fr6:=Nat.le_trans hX.size hn6
 have hb3:=hb3.ga hE3
 have hb4:=hb4.ga hE3
 have h:=h.ga hE3
 have hN0:=hN0.gb hE3
 have hX:=hX.gb hE3
 have hb6:j0 w3 b6 38 ([.int .i64 0]):=hb6
 refine qr (gk (je rfl (gr ?_)))
 have hF3:¬F b3:=fun e=>by have:=hFlt _ e;omega
 have hF4:¬F b4:=fun e=>by have:=hFlt _ e;omega
 have hF6:¬F b6:=fun e=>by have:=hFlt _ e;omega
 have hwX:=hX
 have hwXs:=hX.size
 have l3:=hb3.lt
 have l4:=hb4.lt
 have l6:=hb6.lt
 refine c_iter (putC w3 w d n m b3 b4 b6 at_ D L hb3.lt) (F,D) rfl hcf rfl (fun _=>rfl) (fun w1 hE1=>hit w1 (hN0.gb hE1)) (fun x hx=>by have:=hown x hx;exact⟨by omega,fun e=>by rcases e with e|e|e;exact this.2 e;omega;omega⟩) ⟨h,hok,by simp,⟨hF3,hF4,hF6⟩,hb3,by simpa using hb4,0,hb6⟩ (fun l DD r k z W hRd hJ hk=> ?_) (fun DD z W hJ hE hsub hDn hmk hnd=> ?_) (fun DD k c z W hk hJ hE hsub hDn hmk hnd=> ?_)
 ·have hLr:=hRd.l
  obtain⟨G,D2⟩:=z
  obtain⟨hA,hok2,hlay,⟨hG3,hG4,hG6⟩,hb3,hb4,e0,hb6⟩:=hJ
  dsimp only at hA hok2 hlay hG3 hG4 hG6
  have hGl:¬G l:=fun e=>(hRd.fp _ (.inl e)).1 rfl
  have hGlt:=hA.lt
  obtain⟨Bk,hBk⟩:∃Bk,Bk=L.getD k []:=⟨_,rfl⟩
  have hB64:Bk.length=64:=by rw[hBk];have:=hL64 (L[k]) (List.getElem_mem hk);simpa [hk] using this
  rw[show argB L k= #[numB Bk] from by rw[argB,hBk]]
  have hW3:=hb3.lt
  have hW4:=hb4.lt
  have hW6:=hb6.lt
  have ne4_3:=ne3_4.symm
  have nl3:=hb3.neL hLr
  have nl4:=hb4.neL hLr
  have nl6:=hb6.neL hLr
  have hX:Ext (fun x=>PutF b4 b6 (G,D2) x∨x=l) W W:=Ext.refl _ _
  refine yi (wli (.round _) rfl (Ak gc rfl fun b7 w4 hn7 hb7 hE4=> ?_))
  have ne3_7:=j5 hb3.lt hn7
  have ne4_7:=j5 hb4.lt hn7
  have ne6_7:=j5 hb6.lt hn7
  have fr7:=Nat.le_trans hX.size hn7
  have hb3:=hb3.ga hE4
  have hb4:=hb4.ga hE4
  have hb6:=hb6.ga hE4
  have hA:=hA.ga hE4
  have hLr:=ym hLr hE4 id
  have hX:=hX.gb hE4
  have nl7:=hb7.neL hLr
  have hG7:¬G b7:=fun e=>by have:=hGlt _ e;omega
  refine wli (.round _) rfl (j8 (l':=ge Bk) gc hb7 rfl rfl (by rw[gl,hB64]) (by rw[gl,hB64];rfl) OneC.h fun w5 hb7 hE5 hs5=> ?_)
  have hb3:=hb3.gj hE5 ne3_7
  have hb4:=hb4.gj hE5 ne4_7
  have hb6:=hb6.gj hE5 ne6_7
  have hA:=hA.ext hE5 fun x hx e=>by have e:x=b7:=e;subst e;exact hG7 hx
  have hLr:=ym hLr hE5 nl7.symm
  have hX:=hX.gh hE5 fr7
  refine zx (fin_begin hRd hLr fun w6 hE6 hL6=> ?_)
  have hb3:=hb3.extL hLr hE6
  have hb4:=hb4.extL hLr hE6
  have hb6:=hb6.extL hLr hE6
  have hb7:=hb7.extL hLr hE6
  have hA:=hA.ext hE6 fun x hx e=>by have e:x=l:=e;subst e;exact hGl hx
  have hLr:=hL6
  have hX:=hX.then (hE6.mono fun x _ e=> .inr e)
  refine ci_block (yx9 (yx9 (yi (zw1 gc rfl (wli (.round _) rfl (st_ldb gc hb3 rfl rfl (wli (.round _) rfl (st_ldb gc hb4 rfl rfl (wli (.round _) rfl (st_ldB gc hb7 rfl (by rw[gl,hB64]) ?_))))))))))
  have hX4:=hX.size
  have l3:=hb3.lt
  have l4:=hb4.lt
  have l6:=hb6.lt
  have l7:=hb7.lt
  have hstep:=layD_step hk D2 at_
  rw[←hlay,←hBk] at hstep
  refine wli (.round _) rfl (j3 call143 rfl (dkWrite w6 hA hok2 zo (at_+k) hB64) fun v7 w7 hr7=> ?_)
  obtain⟨rfl,G2,hA2,hE7,hGs⟩:=hr7
  have hb3:=hb3.ext hE7 hG3
  have hb4:=hb4.ext hE7 hG4
  have hb6:=hb6.ext hE7 hG6
  have hb7:=hb7.ext hE7 hG7
  have hLr:=ym hLr hE7 hGl
  have hX:=hX.then (hE7.mono fun x _ e=> .inl (.inl e))
  have hG3:=zz hG3 l3 hGs
  have hG4:=zz hG4 l4 hGs
  have hG6:=zz hG6 l6 hGs
  have hG7:=zz hG7 l7 hGs
  have hA:=hA2
  have hok3:=hok2.write (at_+k) hB64
  have hFs:∀(D':kj) x,PutF b4 b6 (G2,D') x→PutF b4 b6 (G,D2) x∨W.heap.size≤x:=fun D' x hx=>by
   rcases hx with hx|hx
   ·exact(hGs x hx).elim (fun h=> .inl (.inl h)) fun h=> .inr (Nat.le_trans hX4 h)
   exact .inl (.inr hx)
  refine zw1 gc rfl (zx (zq2 (yx9 (yi (zw1 gc rfl (zx (zq2 (ci_if rfl (fun hc=> ?_) (fun hc=> ?_)))))))))
  ·rw[if_pos hc] at hstep
   refine yx9 (yi (zw1 gc rfl (wli (.round _) rfl (xv gc hb6 rfl rfl rfl fun w8 hb6 hE8 hs8=> ?_))))
   have hb3:=hb3.gj hE8 ne3_6
   have hb4:=hb4.gj hE8 ne4_6
   have hb7:=hb7.gj hE8 ne6_7.symm
   have hA:=hA.ext hE8 fun x hx e=>by have e:x=b6:=e;subst e;exact hG6 hx
   have hLr:=ym hLr hE8 nl6.symm
   have hX:=hX.then (hE8.mono fun x _ e=>by have e:x=b6:=e;subst e;exact(.inl (.inr (.inr rfl))))
   refine zx (zq2 (ci_ret ?_))
   exact gp (ji (fin_stop (.inl ⟨rfl,rfl⟩) (G2,(D2.write (at_+k) Bk).1) hRd hLr hX (hFs _) (⟨rfl,hA,⟨hG3,hG4,hG6⟩,by rw[hstep],⟨hb4.lt,hb6.lt⟩,by rw[hstep];exact hb6⟩)))
  rw[if_neg hc] at hstep
  refine ci_skip (zq2 (yi (wli (.round _) rfl (st_ldb gc hb4 rfl rfl (zw1 gc rfl ?_)))))
  rw[kg _ zo]
  refine wli (.round _) rfl (xv gc hb4 rfl rfl rfl fun w9 hb4 hE9 hs9=> ?_)
  have hb3:=hb3.gj hE9 ne3_4
  have hb6:=hb6.gj hE9 ne4_6.symm
  have hb7:=hb7.gj hE9 ne4_7.symm
  have hA:=hA.ext hE9 fun x hx e=>by have e:x=b4:=e;subst e;exact hG4 hx
  have hLr:=ym hLr hE9 nl4.symm
  have hX:=hX.then (hE9.mono fun x _ e=>by have e:x=b4:=e;subst e;exact(.inl (.inr (.inl rfl))))
  refine zx ?_
  exact jy (fin_next (G2,(D2.write (at_+k) Bk).1) hRd hLr hX (hFs _) (⟨hA,by rw[show m+2*(k+1)=m+2*k+2 from by omega];exact hok3,hstep,⟨hG3,hG4,hG6⟩,hb3,by rw[show(at_+((k+1:Nat):Int))=at_+k+1 from by omega];exact hb4,_,hb6⟩))
 ·obtain⟨G,D2⟩:=z
  obtain⟨hA,hok2,hlay,⟨hG3,hG4,hG6⟩,hb3,hb4,e0,hb6⟩:=hJ
  dsimp only at hA hok2 hlay hG3 hG4 hG6
  rw[List.drop_length] at hlay
  have hX:Ext F w W:=hX.trans hE fun x hx e=>by rcases e with e|rfl|rfl;exact e;omega;omega
  have nd3:b3≠DD:=by omega
  have nd6:b6≠DD:=hnd _ (.inr (.inr rfl))
  have hGD:¬G DD:=fun e=>hnd _ (.inl e) rfl
  have hGF:∀x,G x→F x∨w.heap.size≤x:=fun x hx=>(hsub x (.inl hx)).elim (fun e=>by rcases e with e|rfl|rfl;exact .inl e;omega;omega) fun e=> .inr zo
  have hDl:=uk hmk
  refine jy (j1 (qc rfl (jb hb3 rfl rfl ?_)))
  have hX4:=hX.size
  have l6:=hb6.lt
  refine gi call144 rfl (dkSync W hA hok2 zo) fun v10 w10 hr10=> ?_
  obtain⟨rfl,G2,hA2,hE10,hGs⟩:=hr10
  have hb3:=hb3.ext hE10 hG3
  have hb6:=hb6.ext hE10 hG6
  have hmk:=ym hmk hE10 hGD
  have hX:=hX.trans hE10 fun x hx e=>(hGF x e).resolve_right zo
  have hG6:=zz hG6 l6 hGs
  have hA:=hA2
  have hG3:=yw hGF hX4 hGs
  refine ky hb6 rfl rfl rfl fun w11 hb6 hE11 hs11=> ?_
  have hb3:=hb3.gj hE11 ne3_6
  have hmk:=ym hmk hE11 nd6.symm
  have hA:=hA.ext hE11 fun x hx e=>by have e:x=b6:=e;subst e;exact hG6 hx
  have hX:=hX.gh hE11 fr6
  refine qr (gq (Cj [DD] zp (fun x hx=>by rw[List.mem_singleton.1 hx];exact hmk) [.int .i64 D2.sync.2] (fun w20 hE20=> ?_) (.inl rfl)))
  refine⟨⟨⟨b6,0,rfl,D8 gc rfl rfl ((hb6.ext hE20 (fun e=>nd6 (List.mem_singleton.1 e))).cell rfl)⟩,trivial⟩,?_⟩
  rw[hlay]
  exact⟨rfl,G2,hA.ext hE20 fun x hx e=>by rw[List.mem_singleton.1 e] at hx;exact(hGs DD hx).elim hGD fun h=>by omega,hX.trans hE20 fun x hx e=>by rw[List.mem_singleton.1 e] at hx;omega,hG3⟩
 obtain⟨G,D2⟩:=z
 obtain⟨rfl,hA,⟨hG3,hG4,hG6⟩,hlay,⟨hl4,hl6⟩,hb6⟩:=hJ
 dsimp only at hA hlay hG3 hG4 hG6
 have hX:Ext F w W:=hX.trans hE fun x hx e=>by rcases e with e|rfl|rfl;exact e;omega;omega
 have nd6:b6≠DD:=hnd _ (.inr (.inr rfl))
 have hGD:¬G DD:=fun e=>hnd _ (.inl e) rfl
 have hGF:∀x,G x→F x∨w.heap.size≤x:=fun x hx=>(hsub x (.inl hx)).elim (fun e=>by rcases e with e|rfl|rfl;exact .inl e;omega;omega) fun e=> .inr zo
 refine gq (ji (gp (Cj [DD] zp (fun x hx=>by rw[List.mem_singleton.1 hx];exact hmk) [.int .i64 (Bd D at_ L).2] (fun w20 hE20=> ?_) (.inl rfl))))
 refine⟨⟨⟨b6,0,rfl,D8 gc rfl rfl ((hb6.ext hE20 (fun e=>nd6 (List.mem_singleton.1 e))).cell rfl)⟩,trivial⟩,?_⟩
 exact⟨rfl,G,by rw[hlay];exact hA.ext hE20 fun x hx e=>by rw[List.mem_singleton.1 e] at hx;exact hGD hx,hX.trans hE20 fun x hx e=>by rw[List.mem_singleton.1 e] at hx;omega,hGF⟩
theorem begin_calls (w:World) {d m n t c:Nat} {F:Nat→Prop} {D:kj} {p:Option Addr} {b:Bytes} (h:At w d F D) (hok:D.Ok m) (hm:m+2000<1000000000) (hn:n<1000000) (ht:t<4294967296) (hs:vt w p b) (hbl:b.length≤40000) (hr:Rt w) (hF0:¬F 0):
  gn prog 73 [.agg #[.pointer (some ⟨d,0,none⟩),.int .i64 (n:Int)],.int .u32 (t:Int),.slice p b.length c] w fun v w'=>v= .int .i64 (Aa D t n b).2∧DkQ w d F (Aa D t n b).1 w':=by
 refine gx func73 ?_
 have hX:=Ext.refl F w
 have hFlt:=h.lt
 have hsl:=D6 b.length
 have hr0:=hr.lt
 refine qa (gw rfl fun b3 w1 hn3 hb3 hE1=> ?_)
 have fr3:=Nat.le_trans hX.size hn3
 have h:=h.ga hE1
 have hs:=hs.ga hE1
 have hr:=Rt.ext hr hE1 id
 have hX:=hX.gb hE1
 have hb3:j0 w1 b3 155 ([.pointer (some ⟨d,0,none⟩),.int .i64 (n:Int)]):=hb3
 refine gw rfl fun b4 w2 hn4 hb4 hE2=> ?_
 have ne3_4:=j5 hb3.lt hn4
 have fr4:=Nat.le_trans hX.size hn4
 have hb3:=hb3.ga hE2
 have h:=h.ga hE2
 have hs:=hs.ga hE2
 have hr:=Rt.ext hr hE2 id
 have hX:=hX.gb hE2
 have hb4:j0 w2 b4 35 ([.int .u32 (t:Int)]):=hb4
 have hF3:¬F b3:=fun e=>by have:=hFlt _ e;omega
 have hF4:¬F b4:=fun e=>by have:=hFlt _ e;omega
 refine jz rfl (gk (gk (js rfl 9 [qP 0,qP 1,qP 2,qP 4,qP 5,(3,false),(6,false),(7,false),qP 8] [] (F) zk fun w3 hE3 hs3=> ?_)))
 have hd3:=hb3
 have hd4:=hb4
 have hd:=h
 have hsd:=hs
 have hrd:=hr
 have hXd:=hX
 have hb3:=hb3.ga hE3
 have hb4:=hb4.ga hE3
 have h:=h.ga hE3
 have hs:=hs.ga hE3
 have hr:=Rt.ext hr hE3 id
 have hX:=hX.gb hE3
 have hC:Ext (F) _ w3:=hE3.no
 refine qf gc rfl rfl (fun w' hw'=>((hd3.ext hw' hF3).ko)) rfl ?_
 refine qf gc rfl rfl (fun w' hw'=>((hd3.ext hw' hF3).ko)) rfl ?_
 refine j6 gc rfl rfl (fun w' hw'=>((hd4.ext hw' hF4).cell rfl)) ?_
 refine j6 gc rfl rfl (fun w' hw'=>((hd4.ext hw' hF4).cell rfl)) ?_
 refine gv gc 1 rfl (jg rfl (j3 call120 rfl (zw3 w3 (.pointer (some ⟨d,0,none⟩)) n t zo ht rfl) fun v4 w4 hr4=>⟨(by obtain⟨rfl,hE4⟩:=hr4;exact hC.gb hE4),?_⟩))
 obtain⟨rfl,hE4⟩:=hr4
 have hb3:=hb3.ga hE4
 have hb4:=hb4.ga hE4
 have h:=h.ga hE4
 have hs:=hs.ga hE4
 have hr:=Rt.ext hr hE4 id
 have hX:=hX.gb hE4
 have hC:=hC.gb hE4
 refine jg rfl (j3 call121 rfl (yj1 w4 t 0 (p:=p) (m:=b.length) (c:=c)) fun v5 w5 hr5=>⟨(by obtain⟨bb,bt,bn,rfl,hnn,hbb,hbt,hbn,hE5⟩:=hr5;exact hC.gb hE5),?_⟩)
 obtain⟨bb,bt,bn,rfl,hnn,hbb,hbt,hbn,hE5⟩:=hr5
 have hb3:=hb3.ga hE5
 have hb4:=hb4.ga hE5
 have h:=h.ga hE5
 have hs:=hs.ga hE5
 have hr:=Rt.ext hr hE5 id
 have hX:=hX.gb hE5
 have hC:=hC.gb hE5
 have hX1:=hX.size
 have l3:=hb3.lt
 have l4:=hb4.lt
 refine jg rfl (j3 call71 rfl (yw5 w5 (n:=n) (L:=uw t 0 b) (own:=fun x=>x=0) h hok (by rw[vq];omega) (ua t n:Int) (by unfold ua;split<;>omega) (Dc t 0 b) call178 (fun w1 hE1=>by rw[vq];exact xx6 w1 (hbb.ga hE1) (hbt.ga hE1) (hbn.ga hE1) (hs.ga hE1) ht zd hbl (hr.ext hE1 id)) (fun x e=>by subst e;exact⟨Nat.lt_of_lt_of_le hr0 (by have:=hX.size;omega),hF0⟩)) fun v6 w6 hr6=>⟨(by obtain⟨rfl,F2,h2,hE6,hF2⟩:=hr6;exact hC.then hE6),?_⟩)
 obtain⟨rfl,F2,h2,hE6,hF2⟩:=hr6
 have hb3:=hb3.ext hE6 hF3
 have hb4:=hb4.ext hE6 hF4
 have hX:=hX.then hE6
 have hC:=hC.then hE6
 have hF3:=zz hF3 l3 hF2
 have hF4:=zz hF4 l4 hF2
 have hr:=Rt.ext hr hE6 hF0
 have hF0:=zz hF0 zo hF2
 obtain⟨y,hy⟩:∃y,y=Bd D (ua t n) (uw t 0 b):=⟨_,rfl⟩
 have hyo:=zv0 (uw t 0 b) (ua t n:Int) hok (Dc t 0 b)
 rw[vq] at hyo
 have hbe:Aa D t n b=if y.2≠0 then y else Bd y.1 ((t%2:Nat):Int) [yq9 t n]:=by rw[hy];rfl
 rw[←hy] at h2 hyo⊢
 rw[hbe]
 have hF2:=yw (fun x=> .inl) hX1 hF2
 refine gv gc 1 rfl (jj (ja (j1 (je rfl (jl rfl (fun hc=> ?_) (fun hc=> ?_))))))
 ·rw[if_pos hc]
  refine je rfl (gq (gp (gu rfl rfl ?_)))
  exact⟨rfl,F2,h2,hX,hF2⟩
 rw[if_neg hc]
 refine j7 (j1 (qa (jh hb3 rfl rfl (jb hb4 rfl rfl (j9 gc rfl ?_)))))
 rw[and1 t ht]
 refine j9 gc rfl ?_
 rw[kg ((t%2:Nat):Int) zo]
 refine j9 gc rfl ?_
 have hX2:=hX.size
 have hHl:=Co t n
 have hbi:=fun w1 (hE1:Ext No w6 w1)=>begin1_iter w1 (hb3.ga hE1) (hb4.ga hE1) rfl zo ht (hr.ext hE1 id)
 generalize yq9 t n=Hd at hHl hbi⊢
 refine gi call71 rfl (yw5 w6 (n:=n) (L:=[Hd]) (own:=fun x=>x=b3∨x=b4∨x=0) h2 hyo zc ((t%2:Nat):Int) zo (fun x hx=>by rw[List.mem_singleton.1 hx];exact hHl) call146 hbi (fun x e=>by rcases e with rfl|rfl|rfl;exact⟨hb3.lt,hF3⟩;exact⟨hb4.lt,hF4⟩;exact⟨hr.lt,hF0⟩)) fun v7 w7 hr7=> ?_
 obtain⟨rfl,F4,h4,hE7,hF4s⟩:=hr7
 have hX:=hX.trans hE7 fun x hx e=>(hF2 x e).resolve_right zo
 refine jz rfl (gq (gu rfl rfl ?_))
 exact⟨rfl,F4,h4,hX,yw hF2 hX2 hF4s⟩
def y6 (u:World) (H:Nat→Prop) (v:Value) (b:Bytes):Prop:=∃p c,v= .slice p b.length c∧b.length≤c∧vt u p b∧∀y off,p=some ⟨y,off,none⟩→H y∧TyB u y 5
theorem y6.ext {S H:Nat→Prop} {u u':World} {v:Value} {b:Bytes} (h:y6 u H v b) (hE:Ext S u u') (hS:∀y,H y→TyB u y 5→¬S y):y6 u' H v b:=by
 obtain⟨p,c,f,g,i,d⟩:=h
 exact⟨p,c,f,g,i.ext hE fun y a e=>hS y (d y a e).1 (d y a e).2,fun y a e=>⟨(d y a e).1,(d y a e).2.ext hE (hS y (d y a e).1 (d y a e).2)⟩⟩
theorem y6.mono {H H':Nat→Prop} {u:World} {v:Value} {b:Bytes} (h:y6 u H v b) (hH:∀y,H y→H' y):y6 u H' v b:=by
 obtain⟨p,c,h1,h2,h3,h4⟩:=h
 exact⟨p,c,h1,h2,h3,fun y off e=>⟨hH y (h4 y off e).1,(h4 y off e).2⟩⟩
def qj (u:World) (H:Nat→Prop) (ps:List Bytes) (rows:List Value):Prop:=rows.length=ps.length∧∀(i:Nat) (b:Bytes) (v:Value),ps[i]? =some b→rows[i]? =some v→y6 u H v b
theorem qj.ext {S H:Nat→Prop} {u u':World} {ps:List Bytes} {rows:List Value} (h:qj u H ps rows) (hE:Ext S u u') (hS:∀y,H y→TyB u y 5→¬S y):qj u' H ps rows:=⟨h.1,fun i b v h1 h2=>(h.2 i b v h1 h2).ext hE hS⟩
theorem qj.mono {H H':Nat→Prop} {u:World} {ps:List Bytes} {rows:List Value} (h:qj u H ps rows) (hH:∀y,H y→H' y):qj u H' ps rows:=⟨h.1,fun i b v h1 h2=>(h.2 i b v h1 h2).mono hH⟩
theorem qj.one {u:World} {H:Nat→Prop} {ps:List Bytes} {rows:List Value} (h:qj u H ps rows):∀v∈rows,v.oneCell'=true:=fun v hv=>by
 obtain⟨i,hi,rfl⟩:=List.mem_iff_getElem.1 hv
 obtain⟨p,c,e,_⟩:=h.2 i (ps[i]'(by rw[←h.1];exact hi)) rows[i] zp zp
 rw[e];rfl
theorem qj.snoc {u:World} {H:Nat→Prop} {ps:List Bytes} {rows:List Value} (h:qj u H ps rows) {b:Bytes} {v:Value} (hv:y6 u H v b):qj u H (ps++[b]) (rows++[v]):=by
 refine⟨by simp[h.1],fun i e f a c=> ?_⟩
 rcases Nat.lt_or_ge i ps.length with d|d
 ·rw[List.getElem?_append_left d] at a
  rw[List.getElem?_append_left (by rw[h.1];exact d)] at c
  exact h.2 i e f a c
 rw[List.getElem?_append_right d] at a
 rw[List.getElem?_append_right (by rw[h.1];exact d),h.1] at c
 have g:i-ps.length=0:=by
  have:=(List.getElem?_eq_some_iff.1 a).1
  simp at this;omega
 rw[g] at a c
 simp at a c
 subst a c
 exact hv
theorem qj.drop {u:World} {H:Nat→Prop} {ps:List Bytes} {rows:List Value} (h:qj u H ps rows) (k:Nat):qj u H (ps.drop k) (rows.drop k):=
 ⟨by simp[h.1],fun i b v h1 h2=>h.2 (k+i) b v (by rw[List.getElem?_drop] at h1;exact h1) (by rw[List.getElem?_drop] at h2;exact h2)⟩
theorem qj.get {u:World} {H:Nat→Prop} {ps:List Bytes} {rows:List Value} (h:qj u H ps rows) {i:Nat} (hi:i<ps.length):∃p c,rows[i]? =some (.slice p (ps[i]).length c)∧(ps[i]).length≤c∧vt u p ps[i]∧∀y off,p=some ⟨y,off,none⟩→H y∧TyB u y 5:=by
 obtain⟨p,c,e,a⟩:=h.2 i ps[i] (rows[i]'(by rw[h.1];exact hi)) zp zp
 exact⟨p,c,by rw[←e];simp,a⟩
structure xi (u:World) (x d:Nat) (H:Nat→Prop) (W:Wl):Prop where
  box:∃q c rows,j0 u x 162 [.pointer (some ⟨d,0,none⟩),.int .i64 (W.size:Int),.int .u32 (W.turn:Int),.slice q W.pieces.length c,.int .i64 (W.used:Int),.bool W.broken]∧Own u q W.pieces.length c 41 1 rows∧qj u H W.pieces rows∧∀y,jd q y→H y
  own:H x
  lt:∀y,H y→y<u.heap.size
theorem xi.ext {S H:Nat→Prop} {u u':World} {x d:Nat} {W:Wl} (h:xi u x d H W) (hE:Ext S u u') (hS:∀y,H y→¬S y):xi u' x d H W:=by
 obtain⟨⟨q,c,a,g,i,j,e⟩,f,k⟩:=h
 exact⟨⟨q,c,a,g.ext hE (hS x f),i.ext hE fun y b=>hS y (e y b),j.ext hE fun y b _=>hS y b,e⟩,f,fun y b=>Nat.lt_of_lt_of_le (k y b) hE.size⟩
theorem xi.ga {H:Nat→Prop} {u u':World} {x d:Nat} {W:Wl} (h:xi u x d H W) (hE:Ext No u u'):xi u' x d H W:=h.ext hE fun _ _=>id
theorem xi.data {H:Nat→Prop} {u:World} {x d:Nat} {W W':Wl} (h:xi u x d H W) (h1:W'.size=W.size) (h2:W'.turn=W.turn) (h3:W'.pieces=W.pieces) (h4:W'.used=W.used) (h5:W'.broken=W.broken):xi u x d H W':=by
 obtain⟨a,b,c⟩:=h
 exact⟨by rw[h1,h2,h3,h4,h5];exact a,b,c⟩
structure Wl.Ok (W:Wl):Prop where
  size:4≤W.size∧W.size≤1000
  secs:2+2*W.size≤W.D.secs.length
  turn:W.turn<4294967296
  some:W.pieces≠[]
  short:∀b∈W.pieces,b.length≤40000
  few:W.pieces.length≤W.size
  used:W.used=u7 W.pieces
  room:W.used≤W.size
theorem cloneB_nil (w:World) {c:Nat}:
  gn prog 35 [.slice none 0 c] w fun v w'=>∃q k,v= .slice q 0 k∧Own w' q 0 k 5 1 []∧(∀y,jd q y→w.heap.size≤y)∧Ext No w w':=by
 refine gx func35 ?_
 have a:=Ext.refl No w
 refine je rfl (gk (je rfl (C3 rfl (je rfl (gq (gp (gu rfl rfl ?_)))))))
 exact⟨none,0,rfl,Own.nil _ _ _,fun y b=>(by cases b),a⟩
theorem cloneB_some (w:World) {a:Addr} {c:Nat} {l:Bytes} (h:vt w (some a) l) (hl:l.length<1000000000):
  gn prog 35 [.slice (some a) l.length c] w fun v w'=>∃q k,v= .slice q l.length k∧Own w' q l.length k 5 1 (ge l)∧(∀y,jd q y→w.heap.size≤y)∧Ext No w w':=by
 refine gx func35 ?_
 have b:=Ext.refl No w
 refine je rfl (gk (je rfl (ur rfl (j7 (j1 (qa ?_))))))
 refine wl (qd gc rfl 1 rfl rfl rfl zd zd trivial (l':=[]) rfl fun A B r f d s=> ?_)
 have b:=b.gb d
 refine j9 gc rfl ?_
 refine wl (uh gc rfl 1 1 rfl rfl rfl zd (Own.blk (n:=0) (c:=0) f 1 rfl (Nat.le_refl _) zd) (Src.slice (h.ga b) OneC.h) zm zn fun p t u g i j=> ?_)
 have b:=b.trans i fun y C m=>by have:=own1 m;omega
 have o:∀x,jd p x→w.heap.size≤x:=fun x z=>(j x z).elim (fun m=>by have:=own1 m;omega) fun h=>by have:=d.size;omega
 have e:Own u p (0+l.length) t 5 1 (ge l):=g
 rw[Nat.zero_add] at e
 dsimp only
 rw[Nat.zero_add]
 refine jz rfl (gq (gu rfl rfl ?_))
 exact⟨_,_,rfl,e,o,b⟩
theorem xc (w:World) {p:Option Addr} {c:Nat} {l:Bytes} (h:vt w p l) (hl:l.length<1000000000):
  gn prog 35 [.slice p l.length c] w fun v w'=>∃q k,v= .slice q l.length k∧Own w' q l.length k 5 1 (ge l)∧(∀y,jd q y→w.heap.size≤y)∧Ext No w w':=by
 cases p with
 |none=>
  have d:l=[]:=by
   rcases h.2 with e|⟨b,f,g,_⟩
   ·exact List.eq_nil_of_length_eq_zero e
   cases g
  subst d
  exact cloneB_nil w
 |some a=>exact cloneB_some w h hl
theorem cloneP_nil (w:World) {c:Nat}:
  gn prog 138 [.slice none 0 c] w fun v w'=>∃q k,v= .slice q 0 k∧Own w' q 0 k 41 1 []∧(∀y,jd q y→w.heap.size≤y)∧Ext No w w':=by
 refine gx func138 ?_
 have a:=Ext.refl No w
 refine je rfl (gk (je rfl (C3 rfl (je rfl (gq (gp (gu rfl rfl ?_)))))))
 exact⟨none,0,rfl,Own.nil _ _ _,fun y b=>(by cases b),a⟩
theorem cloneP_some (w:World) {a:Addr} {c:Nat} {n:Nat} {rows:List Value} (h:Sl w (some a) n 1 rows) (hl:n<1000000000) (h1:∀v∈rows,v.oneCell'=true):
  gn prog 138 [.slice (some a) n c] w fun v w'=>∃q k,v= .slice q n k∧Own w' q n k 41 1 rows∧(∀y,jd q y→w.heap.size≤y)∧Ext No w w':=by
 refine gx func138 ?_
 have b:=Ext.refl No w
 refine je rfl (gk (je rfl (ur rfl (j7 (j1 (qa ?_))))))
 refine wl (qd gc rfl 1 rfl rfl rfl zd zd trivial (l':=[]) rfl fun z A p f d r=> ?_)
 have b:=b.gb d
 refine j9 gc rfl ?_
 refine wl (uh gc rfl 1 24 rfl rfl rfl zd (Own.blk (n:=0) (c:=0) f 1 rfl (Nat.le_refl _) zd) (Src.slice (h.ga b) h1) zm zn fun o s t g i j=> ?_)
 have b:=b.trans i fun y B l=>by have:=own1 l;omega
 have m:∀x,jd o x→w.heap.size≤x:=fun x u=>(j x u).elim (fun l=>by have:=own1 l;omega) fun h=>by have:=d.size;omega
 have e:Own t o (0+n) s 41 1 rows:=g
 rw[Nat.zero_add] at e
 dsimp only
 rw[Nat.zero_add]
 refine jz rfl (gq (gu rfl rfl ?_))
 exact⟨_,_,rfl,e,m,b⟩
theorem cloneP_calls (w:World) {p:Option Addr} {n c:Nat} {rows:List Value} (h:Sl w p n 1 rows) (hl:n<1000000000) (h1:∀v∈rows,v.oneCell'=true):
  gn prog 138 [.slice p n c] w fun v w'=>∃q k,v= .slice q n k∧Own w' q n k 41 1 rows∧(∀y,jd q y→w.heap.size≤y)∧Ext No w w':=by
 cases p with
 |none=>
  have d:n=0:=by
   rcases h.2 with f|⟨b,g,h1,_⟩
   ·exact f
   cases h1
  subst d
  have e:rows=[]:=List.eq_nil_of_length_eq_zero (by simpa using h.1)
  subst e
  exact cloneP_nil w
 |some a=>exact cloneP_some w h hl h1
theorem left_calls (w:World) {x d:Nat} {H:Nat→Prop} {W:Wl} (h:xi w x d H W) (h1:W.size<1000000000) (h2:W.used<1000000000):
  gn prog 66 [.pointer (some ⟨x,0,none⟩)] w fun v w'=>v= .int .i64 ((W.size:Int)-W.used)∧Ext No w w':=by
 obtain⟨⟨q,c,i,b,j,k,l⟩,m,n⟩:=h
 refine gx func66 ?_
 have f:=Ext.refl No w
 refine je rfl (gk (je rfl (ur rfl (xz ?_))))
 refine js rfl 11 [qP 0,qP 1,qP 2,qP 3,qP 4,qP 5,qP 6,qP 7,qP 8,qP 9,qP 10] [] (No) zk fun p g o=> ?_
 have e:=f
 have f:=f.gb g
 refine gv gc 4 rfl (j6 gc rfl rfl (fun w' a=>((b.ga (e.gb a)).cell rfl)) ?_)
 refine gv gc 3 rfl (j6 gc rfl rfl (fun w' a=>((b.ga (e.gb a)).cell rfl)) ?_)
 refine gv gc 2 rfl ?_
 rw[kg _ zo]
 refine jj (ja (j1 (gq (gu rfl rfl ?_))))
 exact⟨rfl,f⟩
theorem broken_calls (w:World) {x d:Nat} {H:Nat→Prop} {W:Wl} (h:xi w x d H W):
  gn prog 69 [.pointer (some ⟨x,0,none⟩)] w fun v w'=>v= .bool W.broken∧Ext No w w':=by
 obtain⟨⟨q,c,e,a,g,i,j⟩,k,l⟩:=h
 refine gx func69 ?_
 have m:=Ext.refl No w
 refine je rfl (jv (α:=Bool) [] rfl (fun z=>[(2,.bool z)]) (fun z u=>u=w∧z=W.broken) ?_ ?_)
 ·refine j4 ?_
  refine j9 gc rfl (vb 5 rfl (fun f=> ?_) (fun f=> ?_))
  ·refine j2 gc 3 rfl ?_
   refine gy rfl (a.cell rfl) (j9 gc rfl (gm ?_))
   exact gz (_) rfl ⟨rfl,rfl⟩
  cases f
 rintro z n ⟨b,rfl⟩
 have b:=b.symm
 subst b
 refine gq (gu rfl rfl ?_)
 exact⟨rfl,m⟩
theorem ready_calls (w:World) {x d:Nat} {H:Nat→Prop} {W:Wl} (h:xi w x d H W) {p:Option Addr} {n k:Nat}:
  gn prog 116 [.pointer (some ⟨x,0,none⟩),.slice p n k] w fun v w'=>v= .int .i64 (if 40000<n then 3 else if W.broken=true then 8 else 0)∧Ext No w w':=by
 obtain⟨⟨q,c,f,b,g,i,j⟩,l,m⟩:=h
 refine gx func116 ?_
 have e:=Ext.refl No w
 refine je rfl (gk (gr (je rfl (ur rfl (je rfl (jl rfl (fun a=> ?_) (fun a=> ?_)))))))
 ·rw[if_pos zo]
  refine je rfl (gq (ji (gp (gu rfl rfl ?_))))
  exact⟨rfl,e⟩
 rw[if_neg zo]
 refine qc rfl (gy rfl (b.cell rfl) (jz rfl (vj rfl (fun a=> ?_) (fun a=> ?_))))
 ·rw[if_pos a]
  refine je rfl (gq (ji (gp (gu rfl rfl ?_))))
  exact⟨rfl,e⟩
 rw[if_neg (by rw[a];decide)]
 refine j7 (jy (j1 (je rfl (gq (gu rfl rfl ?_)))))
 exact⟨rfl,e⟩
theorem snapshot_calls (w:World) {x d:Nat} {H:Nat→Prop} {W:Wl} (h:xi w x d H W) (hne:0<W.pieces.length) (hsh:(W.pieces[0]).length<1000000000):
  gn prog 59 [.pointer (some ⟨x,0,none⟩)] w fun v w'=>∃q k,v= .slice q (W.pieces[0]).length k∧Own w' q (W.pieces[0]).length k 5 1 (ge W.pieces[0])∧(∀y,jd q y→w.heap.size≤y)∧Ext No w w':=by
 obtain⟨⟨q,c,a,e,f,g,u⟩,z,A⟩:=h
 obtain⟨I,J,i,B,j,_⟩:=g.get hne
 obtain⟨m,rfl,n⟩:∃m,q=some ⟨m,0,none⟩∧Seg w m 0 a:=by
  rcases f with⟨_,K,_⟩|⟨b,l,C,D,_,_,_,E⟩
  ·omega
  exact⟨b,C,by rw[←E];exact D.ko.take _⟩
 refine gx func59 ?_
 have o:=Ext.refl No w
 refine je rfl (gk (je rfl (ur rfl (j7 (j1 (qc rfl (gy rfl (e.cell rfl) ?_)))))))
 refine ki rfl 1 rfl 0 rfl hne (0+0*1) rfl (gy rfl (n 0 _ i) (gi call35 rfl (xc w j hsh) fun L M p=> ?_))
 obtain⟨F,G,rfl,r,s,t⟩:=p
 have o:=o.gb t
 refine jz rfl (gq (gu rfl rfl ?_))
 exact⟨F,G,rfl,r,s,o⟩
end Go.Proofs.YtpdiphfjmepijaaGreatDoor
