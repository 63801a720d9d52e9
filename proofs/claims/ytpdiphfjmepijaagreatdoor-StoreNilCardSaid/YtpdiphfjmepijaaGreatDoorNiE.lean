/-
  Walks and laws towards: without a disk there is no store (StoreNil)
-/
import Derived.ChangeSame
import Derived.ReadAgain
import Derived.RowKit
import Derived.ChangeBears
import Derived.OpenShut
import Derived.Test.YtpdiphfjmepijaaGreatDoorNiD
namespace Go.Proofs.YtpdiphfjmepijaaGreatDoor
open Tryz
open Go.Vc
theorem idK:IdKey prog 30:=by
 refine⟨deep_law (m:=10) zo kId zk (by simp only[uId]),fun x a=> ?_,fun _ _ h=>idV_inj h⟩
 have b:Nat.blt 0 prog.types.size=true:=by kernel_rfl
 obtain⟨d,c⟩:∃d,prog.types.size+1=d+2:=by
  generalize prog.types.size=n at b⊢
  cases n with
  |zero=>cases b
  |succ n=>exact⟨n,rfl⟩
 have e:prog.keyType 30=true:=by kernel_rfl
 have f:prog.keyLits (prog.types.size+1) 30 (ge x)=some (Cw x):=by rw[c];exact lits_bytes uId cId uByte cByte a
 refine⟨.string (keyBytes (Cw x)),?_⟩
 unfold keyOf
 rw[uId]
 have g:(prog.keyType 30&&(idV x).formed prog 30)=true:=by rw[e,vy a];rfl
 simp only[g,if_true]
 show(prog.keyLits (prog.types.size+1) 30 (ge x)).map _=_
 rw[f]
 rfl
theorem heldZ_c:cellsOf ti126.zero=ge Ce++jq ut noP:=by kernel_rfl
theorem held_build {i:List UInt8} {o:jk} {a:vb} (hi:i.length=32) (ho:u5 o):xh (ge Ce++jq ut noP) [(0,32,.agg (ge i).toArray),(32,73,.agg (jq o a).toArray)]=Az ⟨i,o,a⟩:=by
 simp only[xh,jf,Az]
 rw[put_eq _ 0 _ (by rw[List.length_append,gm,gm,hi,gt qd];decide),gm,hi]
 have c:(ge Ce++jq ut noP).drop (0+32)=jq ut noP:=List.drop_left' zj
 rw[c,List.take_zero,List.nil_append]
 have b:(ge i).length=32:=by rw[gm,hi]
 rw[put_eq _ 32 _ (by rw[List.length_append,b,gt qd,gt ho];exact Nat.le_refl _),gt ho,List.take_left' b,List.drop_of_length_le (by rw[List.length_append,b,gt qd];exact Nat.le_refl _),List.append_nil]
section
variable {n1 N0 l:Nat} {J:List qw→World→Prop} {hs:List qw} {w w':World}
end
end Go.Proofs.YtpdiphfjmepijaaGreatDoor
namespace Go.Vc
structure Sec where
  safe:List UInt8
  waits:List (List UInt8)
structure kg where
  secs:List Sec
  order:List Nat
  dead:Bool
  fuse:Int
  fault:Int
  done:Int
def zeros:List UInt8:=List.replicate 64 0
def Sec.now (s:Sec):List UInt8:=s.waits.getLast?.getD s.safe
def kg.fresh (n:Nat):kg:=⟨List.replicate n ⟨zeros,[]⟩,[],false,-1,-1,0⟩
def kg.now (D:kg) (i:Nat):List UInt8:=((D.secs[i]?).map Sec.now).getD zeros
def yj (burns:Bool) (fu:Int):Int:=if burns=true∧fu≠-1 then fu-1 else fu
def uo (fa:Int):Int:=if fa= -1 then-1 else fa-1
def kg.begin (D:kg) (i:Int) (burns:Bool):kg×Int:=
  if D.dead=true then(D,9)
  else if¬(0≤i∧i<D.secs.length) then(D,2)
  else if D.fault=0 then({D with fault:= -1},8)
  else if burns=true∧D.fuse=0 then({D with fault:=uo D.fault,fuse:= -1,dead:=true},9)
  else({D with fault:=uo D.fault,fuse:=yj burns D.fuse,done:=D.done+1},0)
def B7 (b:List UInt8) (s:Sec):Sec:=⟨s.safe,s.waits++[b]⟩
def kg.put (D:kg) (i:Nat) (b:List UInt8):kg:={D with secs:=D.secs.modify i (B7 b),order:=D.order++[i]}
def ug (b:Bool) (s:Sec):Sec:=⟨if b then s.waits.headD s.safe else s.safe,s.waits.tail⟩
def A5 (lives:Nat→Bool):List Nat→Nat→List Sec→List Sec
  | [],_,secs=>secs
  |k::r,i,secs=>A5 lives r (i+1) (secs.modify k (ug (lives i)))
def kg.settle (D:kg) (lives:Nat→Bool):kg:={D with secs:=A5 lives D.order 0 D.secs,order:=[]}
def kg.read (D:kg) (i:Int):kg×List UInt8×Int:=
  let x:=D.begin i false
  (x.1,if x.2=0 then x.1.now i.toNat else zeros,x.2)
def kg.write (D:kg) (i:Int) (b:List UInt8):kg×Int:=
  let x:=D.begin i true
  (if x.2=0 then x.1.put i.toNat b else x.1,x.2)
def kg.sync (D:kg):kg×Int:=
  let x:=D.begin 0 true
  (if x.2=0 then x.1.settle fun _=>true else x.1,x.2)
def setTo (n:Int):Int:=if n< -1 then-1 else n
def zj8 (keep:List Bool) (i:Nat):Bool:=(keep[i]?).getD false
def kg.D3 (D:kg) (keep:List Bool):kg:={D.settle (zj8 keep) with dead:=false,fuse:= -1,fault:= -1}
structure kg.Ok (D:kg) (m:Nat):Prop where
  size:1≤D.secs.length∧D.secs.length≤2048
  safe:∀s∈D.secs,s.safe.length=64∧∀b∈s.waits,b.length=64
  inside:∀k∈D.order,k<D.secs.length
  count:∀i s,D.secs[i]? =some s→s.waits.length=D.order.count i
  few:D.order.length≤m
  fuse: -1≤D.fuse∧D.fuse<9223372036854775808
  fault: -1≤D.fault∧D.fault<9223372036854775808
  done:0≤D.done∧D.done≤m
theorem setTo_ge (n:Int) (h:n<9223372036854775808): -1≤setTo n∧setTo n<9223372036854775808:=by unfold setTo;split<;>omega
theorem fuseTo_ge (b:Bool) (n:Int) (h: -1≤n∧n<9223372036854775808): -1≤yj b n∧yj b n<9223372036854775808:=by unfold yj;split<;>omega
theorem faultTo_ge (n:Int) (h: -1≤n∧n<9223372036854775808): -1≤uo n∧uo n<9223372036854775808:=by unfold uo;split<;>omega
theorem kg.Ok.mono {D:kg} {m m':Nat} (h:D.Ok m) (hm:m≤m'):D.Ok m':=
 ⟨h.size,h.safe,h.inside,h.count,Nat.le_trans h.few hm,h.fuse,h.fault,by have:=h.done;omega⟩
theorem kg.A0 (D:kg) (i:Int) (b:Bool):(D.begin i b).1.secs=D.secs∧(D.begin i b).1.order=D.order:=by
 unfold kg.begin
 repeat' split
 all_goals exact⟨rfl,rfl⟩
theorem kg.Ok.begin {D:kg} {m:Nat} (h:D.Ok m) (i:Int) (b:Bool):(D.begin i b).1.Ok (m+1):=by
 have a:=fuseTo_ge b _ h.fuse
 have c:=faultTo_ge _ h.fault
 have d:=h.done
 have e:=h.fuse
 have f:=h.fault
 have g:=h.few
 unfold kg.begin
 repeat' split
 all_goals exact⟨h.size,h.safe,h.inside,h.count,by simp only;omega,by simp only;omega,by simp only;omega,by simp only;omega⟩
theorem kg.begin0 {D:kg} (i:Int) (b:Bool) (h0:(D.begin i b).2=0):0≤i∧i<D.secs.length:=by
 unfold kg.begin at h0
 repeat' split at h0
 all_goals first|(simp at h0;done)|(rename_i hh _ _;exact Decidable.not_not.1 hh)
theorem kg.Ok.put {D:kg} {m:Nat} (h:D.Ok m) {i:Nat} (hi:i<D.secs.length) {b:List UInt8} (hb:b.length=64):(D.put i b).Ok (m+1):=by
 refine⟨by simpa [kg.put] using h.size,?_,?_,?_,?_,h.fuse,h.fault,by have:=h.done;simp only[kg.put];omega⟩
 ·intro s a
  simp only[kg.put] at a
  obtain⟨j,f,rfl⟩:=List.mem_iff_getElem.1 a
  rw[List.getElem_modify]
  simp only[List.length_modify] at f
  have:=h.safe D.secs[j] (List.getElem_mem f)
  split
  ·refine⟨this.1,fun c d=> ?_⟩
   simp only[B7,List.mem_append,List.mem_singleton] at d
   rcases d with d|rfl
   ·exact this.2 c d
   exact hb
  exact this
 ·intro k e
  simp only[kg.put,List.mem_append,List.mem_singleton,List.length_modify] at*
  rcases e with e|rfl
  ·exact h.inside k e
  exact hi
 ·intro j s a
  simp only[kg.put] at*
  rw[List.getElem?_modify] at a
  rw[List.count_append,List.count_singleton]
  cases hsj:D.secs[j]? with
  |none=>rw[hsj] at a;simp at a
  |some t=>
   rw[hsj] at a
   have:=h.count j t hsj
   by_cases hij:i=j
   ·subst hij
    simp at a
    subst a
    simp[B7,this]
   simp[hij] at a
   subst a
   have:(i==j)=false:=by simpa using hij
   simp[*]
 have:=h.few
 simp only[kg.put,List.length_append,List.length_singleton]
 omega
theorem A6 (lives:Nat→Bool):∀(l:List Nat) (i:Nat) (secs:List Sec),(A5 lives l i secs).length=secs.length
 | [],_,_=>rfl
 |k::r,i,secs=>by rw[A5,A6 lives r];simp
theorem yz4 (lives:Nat→Bool):∀(l:List Nat) (i:Nat) (secs:List Sec),(∀s∈secs,s.safe.length=64∧∀b∈s.waits,b.length=64)→∀s∈A5 lives l i secs,s.safe.length=64∧∀b∈s.waits,b.length=64
 | [],_,_,h=>h
 |k::r,i,secs,h=>by
  refine yz4 lives r (i+1) _ fun s hs=> ?_
  obtain⟨j,hj,rfl⟩:=List.mem_iff_getElem.1 hs
  rw[List.getElem_modify]
  simp only[List.length_modify] at hj
  have:=h secs[j] (List.getElem_mem hj)
  split
  ·refine⟨?_,fun b hb=>this.2 b (List.mem_of_mem_tail hb)⟩
   simp only[ug]
   split
   ·cases hw:secs[j].waits with
    |nil=>exact this.1
    |cons b r=>exact this.2 b (by rw[hw];simp)
   exact this.1
  exact this
theorem yq1 (lives:Nat→Bool):∀(l:List Nat) (i:Nat) (secs:List Sec) (j:Nat) (s:Sec),(A5 lives l i secs)[j]? =some s→∃t,secs[j]? =some t∧s.waits=t.waits.drop (l.count j)
 | [],_,secs,j,s,h=>⟨s,h,by simp⟩
 |k::r,i,secs,j,s,h=>by
  obtain⟨t,ht,hw⟩:=yq1 lives r (i+1) _ j s h
  rw[List.getElem?_modify] at ht
  cases hs:secs[j]? with
  |none=>rw[hs] at ht;simp at ht
  |some u=>
   rw[hs] at ht
   refine⟨u,rfl,?_⟩
   by_cases hk:k=j
   ·subst hk
    simp at ht
    subst ht
    rw[hw]
    simp only[ug,List.count_cons_self]
    rw[List.drop_tail]
   simp[hk] at ht
   subst ht
   have:(k==j)=false:=by simpa using hk
   rw[hw,List.count_cons,this]
   simp
theorem kg.Ok.settle {D:kg} {m:Nat} (h:D.Ok m) (lives:Nat→Bool):(D.settle lives).Ok m:=by
 refine⟨by simpa [kg.settle,A6] using h.size,yz4 lives _ _ _ h.safe,?_,?_,by simp[kg.settle],h.fuse,h.fault,h.done⟩
 ·intro k hk;simp[kg.settle] at hk
 intro i s hs
 obtain⟨t,ht,hw⟩:=yq1 lives _ _ _ i s hs
 rw[hw,List.length_drop,h.count i t ht]
 simp[kg.settle]
theorem kg.Ok.D3 {D:kg} {m:Nat} (h:D.Ok m) (keep:List Bool):(D.D3 keep).Ok m:=by
 have:=h.settle (zj8 keep)
 exact⟨this.size,this.safe,this.inside,this.count,this.few,by simp[kg.D3],by simp[kg.D3],this.done⟩
theorem zeros_length:zeros.length=64:=by simp[zeros]
theorem kg.Ok.fresh {n:Nat} (h:1≤n∧n≤2048):(kg.fresh n).Ok 0:=by
 refine⟨by simpa [kg.fresh] using h,?_,?_,?_,by simp[kg.fresh],by simp[kg.fresh],by simp[kg.fresh],by simp[kg.fresh]⟩
 ·intro s hs
  simp only[kg.fresh,List.mem_replicate] at hs
  rw[hs.2]
  exact⟨zeros_length,fun b hb=>by cases hb⟩
 ·intro k hk;simp[kg.fresh] at hk
 intro i s hs
 simp only[kg.fresh,List.getElem?_replicate] at hs
 split at hs
 ·cases hs;simp[kg.fresh]
 cases hs
abbrev Bytes:=List UInt8
abbrev xz8 (b:Bytes):Value:= .agg (ge b).toArray
theorem yz {b:Bytes}:∀u∈ge b,u.oneCell'=true:=fun u hu=>by
 obtain⟨x,_,rfl⟩:=List.mem_map.1 hu;rfl
theorem ko {b:Bytes} (h:b.length=64):(ge b).length=64:=by rw[gm,h]
def Dj (b:Bytes):List Int:=b.map fun x=>(x.toNat:Int)
theorem B0 (b:Bytes):(Dj b).length=b.length:=by simp[Dj]
theorem zq5 (b:Bytes):xz8 b=Bq .u8 (Dj b):=by simp[xz8,Bq,Dj,ge,Function.comp_def]
theorem zj2 {a b:Bytes}:Dj a=Dj b↔a=b:=by
 refine List.map_inj_right (f:=fun x:UInt8=>(x.toNat:Int)) fun x y e=> ?_
 exact UInt8.toNat_inj.1 (by have e:(x.toNat:Int)=y.toNat:=e;omega)
def kj (n:Nat):Nat:=if 40000<n then 0 else(n+3)/48+1
def sectZ (n:Int):Int:=if n<0∨40000<n then 0 else((n.toNat+3)/48+1:Nat)
theorem A8 (n:Nat):sectZ (n:Int)=(kj n:Int):=by
 unfold sectZ kj
 by_cases h:40000<n
 ·rw[if_pos zo,if_pos h];rfl
 rw[if_neg zo,if_neg h,Int.toNat_natCast]
theorem Cl {n:Nat} (h:n≤40000):0<kj n:=by rw[kj,if_neg zo];omega
theorem Cx (n:Nat):kj n≤834:=by unfold kj;split<;>omega
theorem xx7 {n:Nat} (h:n≤40000):n+4≤48*kj n:=by rw[kj,if_neg zo];omega
theorem sectN_tight {n:Nat} (h:n≤40000):48*(kj n-1)<n+4:=by rw[kj,if_neg zo];omega
def xj2 (b:Bytes):Bytes:=(sumW (b++List.replicate (60-b.length) 0)).take 4++(b++List.replicate (60-b.length) 0)
theorem zz2 {b:Bytes} (h:b.length≤60):(xj2 b).length=64:=by
 simp only[xj2,List.length_append,List.length_take,B9,List.length_replicate]
 omega
def Cr:Bytes:=[114,105,118,101,114,108,111,103]
def zw8 (turn n:Nat):Bytes:=xj2 (Cr++be 4 turn++be 4 n)
theorem Ck (turn n:Nat):(zw8 turn n).length=64:=zz2 (by simp[Cr,jw])
def zq1 (b:Bytes):Bytes:=be 4 b.length++b
def Bh (turn number:Nat) (b:Bytes) (k:Nat):Bytes:=xj2 (be 4 turn++be 4 number++be 2 k++be 2 (kj b.length)++((zq1 b).drop (48*k)).take 48)
theorem pieceAt_len (turn number:Nat) (b:Bytes) (k:Nat):(Bh turn number b k).length=64:=zz2 (by
 simp only[List.length_append,jw,List.length_take];omega)
def uw (turn number:Nat) (b:Bytes):List Bytes:=(List.range (kj b.length)).map (Bh turn number b)
theorem vn (turn number:Nat) (b:Bytes):(uw turn number b).length=kj b.length:=by simp[uw]
theorem D9 (turn number:Nat) (b:Bytes):∀s∈uw turn number b,s.length=64:=fun s hs=>by
 obtain⟨k,_,rfl⟩:=List.mem_map.1 hs
 exact pieceAt_len _ _ _ _
def B1 (n sectors:Nat):Prop:=4≤n∧n≤1000∧2+2*n≤sectors
instance (n s:Nat):Decidable (B1 n s):=inferInstanceAs (Decidable (_∧_∧_))
def u9 (turn n:Nat):Nat:=if turn%2=1 then 2+n else 2
def D8 (b:Bytes):Nat:=num ((b.drop 12).take 4)
def zq3 (b:Bytes):Nat:=num ((b.drop 16).take 4)
def xq8 (i sectors:Nat) (b:Bytes):Prop:=D8 b%2=i∧B1 (zq3 b) sectors∧zw8 (D8 b) (zq3 b)=b
instance (i s:Nat) (b:Bytes):Decidable (xq8 i s b):=inferInstanceAs (Decidable (_∧_∧_))
def newer (i sectors:Nat) (b:Bytes) (o:Option (Nat×Nat)):Option (Nat×Nat):=
  if xq8 i sectors b then match o with
    |none=>some (D8 b,zq3 b)
    |some (t,n)=>if t<D8 b then some (D8 b,zq3 b) else some (t,n)
  else o
def zv4 (l:List Bytes):Bytes:=l.flatMap (·.drop 16)
def xq (s:Bytes):Nat:=num ((s.drop 16).take 4)
def D7 (l:List Bytes) (turn number:Nat):Option Bytes:=
  match l with
  | []=>none
  |s::_=>
    if 40000<xq s∨l.length<kj (xq s) then none
    else if uw turn number (((zv4 (l.take (kj (xq s)))).drop 4).take (xq s))=l.take (kj (xq s)) then some (((zv4 (l.take (kj (xq s)))).drop 4).take (xq s)) else none
def lyGo (turn:Nat):Nat→List Bytes→Nat→List Bytes
  |0,_,_=>[]
  |f+1,area,n=>match D7 area turn n with
    |none=>[]
    |some b=>b::lyGo turn f (area.drop (kj b.length)) (n+1)
def lyingB (area:List Bytes) (turn:Nat):List Bytes:=lyGo turn area.length area 0
def u6 (l:List Bytes):Nat:=(l.map fun b=>kj b.length).sum
def Au:kg→Int→List Bytes→kg×Int
  |D,_,[]=>D.sync
  |D,at_,b::r=>if(D.write at_ b).2≠0 then D.write at_ b else Au (D.write at_ b).1 (at_+1) r
def zz (D:kg) (turn n:Nat) (x:Bytes):kg×Int:=
  let y:=Au D (u9 turn n) (uw turn 0 x)
  if y.2≠0 then y else Au y.1 ((turn%2:Nat):Int) [zw8 turn n]
structure Wl where
  D:kg
  size:Nat
  turn:Nat
  pieces:List Bytes
  used:Nat
  broken:Bool
def uz (D:kg) (area:Int):kg×Int:=
  if¬(0≤area∧B1 area.toNat D.secs.length) then(D,2)
  else
    let y:=Au D 0 (List.replicate (2+2*area.toNat) zeros)
    if y.2≠0 then y else zz y.1 0 area.toNat []
def xl:kg→Int→Nat→kg×List Bytes×Int
  |D,_,0=>(D,[],0)
  |D,at_,k+1=>
    let x:=D.read at_
    if x.2.2≠0 then(x.1,[],x.2.2) else
      let y:=xl x.1 (at_+1) k
      (y.1,x.2.1::y.2.1,y.2.2)
def C5:kg→Int→List Bytes→kg×Int
  |D,_,[]=>(D,0)
  |D,at_,b::r=>if b=zeros then C5 D (at_+1) r else if(D.write at_ zeros).2≠0 then D.write at_ zeros else C5 (D.write at_ zeros).1 (at_+1) r
def Cd (D:kg) (at_:Int) (rest:List Bytes):kg×Int:=
  let y:=C5 D at_ rest
  if y.2≠0 then y else if D.order=[]∧(∀b∈rest,b=zeros) then y else y.1.sync
def nwE (o:Option (Nat×Nat)):Int:=match o with|none=>140|some _=>0
def nwT (o:Option (Nat×Nat)):Nat:=match o with|none=>0|some (t,_)=>t
def xb (S:Nat):Nat→Nat→kg→Option (Nat×Nat)→kg×Int×Option (Nat×Nat)
  |0,_,D,o=>(D,nwE o,o)
  |k+1,i,D,o=>if(D.read i).2.2≠0 then((D.read i).1,(D.read i).2.2,none) else xb S k (i+1) (D.read i).1 (newer i S (D.read i).2.1 o)
def qy (D:kg):kg×Int×Option (Nat×Nat):=xb D.secs.length 2 0 D none
def vk (D:kg) (turn n:Nat):kg×Int×Nat×Nat×List Bytes:=
  let z:=xl D (u9 turn n) n
  if z.2.2≠0 then(z.1,z.2.2,0,0,[]) else
  let ps:=lyingB z.2.1 turn
  if ps=[] then(z.1,140,0,0,[]) else
  let c:=Cd z.1 ((u9 turn n+u6 ps:Nat):Int) (z.2.1.drop (u6 ps))
  (c.1,c.2,turn,n,ps)
def uf (D:kg):kg×Int×Nat×Nat×List Bytes:=
  match qy D with
  |(D',_,some (turn,n))=>vk D' turn n
  |(D',e,none)=>(D',e,0,0,[])
def Wl.opened (x:kg×Int×Nat×Nat×List Bytes):Wl:=⟨x.1,x.2.2.2.1,x.2.2.1,x.2.2.2.2,u6 x.2.2.2.2,false⟩
def Wl.refuses (W:Wl) (x:Bytes) (room:Int):Int:=
  if 40000<x.length then 3 else if W.broken=true then 8 else if room<kj x.length then 6 else 0
def Wl.append (W:Wl) (x:Bytes):Wl×Int:=
  let e:=W.refuses x ((W.size:Int)-W.used)
  if e≠0 then(W,e) else
  let y:=Au W.D ((u9 W.turn W.size+W.used:Nat):Int) (uw W.turn W.pieces.length x)
  if y.2≠0 then({W with D:=y.1,broken:=true},y.2) else({W with D:=y.1,broken:=false,pieces:=W.pieces++[x],used:=W.used+kj x.length},0)
def Wl.x1 (W:Wl) (x:Bytes):Wl×Int:=
  let e:=W.refuses x (if W.turn=4294967295 then 0 else W.size)
  if e≠0 then(W,e) else
  let y:=zz W.D (W.turn+1) W.size x
  if y.2≠0 then({W with D:=y.1,broken:=true},y.2) else({W with D:=y.1,broken:=false,turn:=W.turn+1,pieces:=[x],used:=kj x.length},0)
/-! ### What holds of disks on the way -/
theorem kg.Ok.write {D:kg} {m:Nat} (h:D.Ok m) (i:Int) {b:Bytes} (hb:b.length=64):(D.write i b).1.Ok (m+2):=by
 unfold kg.write
 dsimp only
 have a:=h.begin i true
 split
 ·rename_i c
  have d:=kg.begin0 i true c
  refine a.put ?_ hb
  rw[(kg.A0 D i true).1]
  omega
 exact a.mono zo
theorem kg.Ok.sync {D:kg} {m:Nat} (h:D.Ok m):D.sync.1.Ok (m+1):=by
 unfold kg.sync
 dsimp only
 have h1:=h.begin 0 true
 split
 ·exact h1.settle _
 exact h1
theorem kg.Ok.read {D:kg} {m:Nat} (h:D.Ok m) (i:Int):(D.read i).1.Ok (m+1):=h.begin i false
theorem kg.zv3 (D:kg) (i:Int) (b:Bytes):(D.write i b).1.secs.length=D.secs.length:=by
 unfold kg.write
 dsimp only
 split
 ·simp[kg.put,(kg.A0 D i true).1]
 rw[(kg.A0 D i true).1]
theorem kg.sync_secs (D:kg):D.sync.1.secs.length=D.secs.length:=by
 unfold kg.sync
 dsimp only
 split
 ·simp[kg.settle,A6,(kg.A0 D 0 true).1]
 rw[(kg.A0 D 0 true).1]
theorem kg.read_secs (D:kg) (i:Int):(D.read i).1.secs=D.secs:=(kg.A0 D i false).1
theorem zv1:∀(l:List Bytes) {D:kg} {m:Nat} (at_:Int),D.Ok m→(∀b∈l,b.length=64)→(Au D at_ l).1.Ok (m+2*l.length+1)
 | [],D,m,at_,h,_=>h.sync
 |b::r,D,m,at_,h,hl=>by
  have h1:=h.write at_ (hl b zp)
  unfold Au
  split
  ·exact h1.mono ze
  exact(zv1 r (at_+1) h1 fun x hx=>hl x (by simp[hx])).mono zc
theorem Bp:∀(l:List Bytes) (D:kg) (at_:Int),(Au D at_ l).1.secs.length=D.secs.length
 | [],D,at_=>D.sync_secs
 |b::r,D,at_=>by
  unfold Au
  split
  ·exact D.zv3 at_ b
  rw[Bp r,D.zv3]
theorem beginD_ok {D:kg} {m:Nat} (h:D.Ok m) (turn n:Nat) (x:Bytes):(zz D turn n x).1.Ok (m+2*kj x.length+4):=by
 unfold zz
 dsimp only
 have a:=zv1 (uw turn 0 x) (u9 turn n:Int) h (D9 turn 0 x)
 rw[vn] at a
 split
 ·exact a.mono zo
 exact(zv1 [zw8 turn n] _ a fun b c=>by rw[List.mem_singleton.1 c];exact Ck _ _).mono zp
theorem beginD_secs (D:kg) (turn n:Nat) (x:Bytes):(zz D turn n x).1.secs.length=D.secs.length:=by
 unfold zz
 dsimp only
 split
 ·rw[Bp]
 rw[Bp,Bp]
theorem layD_step {L:List Bytes} {k:Nat} (hk:k<L.length) (D:kg) (at_:Int):Au D (at_+k) (L.drop k)=if(D.write (at_+k) (L.getD k [])).2≠0 then D.write (at_+k) (L.getD k []) else Au (D.write (at_+k) (L.getD k [])).1 (at_+(k+1:Nat)) (L.drop (k+1)):=by
 have e:L.getD k []=L[k]:=by simp[hk]
 rw[List.drop_eq_getElem_cons hk,Au,e,Int.natCast_add,←Int.add_assoc]
 rfl
theorem xq7 {D:kg} {area:Int} (h:¬(0≤area∧B1 area.toNat D.secs.length)):uz D area=(D,2):=if_pos h
theorem formatW_yes {D:kg} {a:Nat} (h:B1 a D.secs.length):uz D (a:Int)=if(Au D 0 (List.replicate (2+2*a) zeros)).2≠0 then Au D 0 (List.replicate (2+2*a) zeros) else zz (Au D 0 (List.replicate (2+2*a) zeros)).1 0 a []:=by
 unfold uz
 rw[if_neg (fun b=>b ⟨Int.natCast_nonneg a,by rw[Int.toNat_natCast];exact h⟩),Int.toNat_natCast]
theorem xw7 (n:Nat):∀b∈List.replicate n zeros,b.length=64:=fun b hb=>by rw[(List.mem_replicate.1 hb).2];exact zeros_length
theorem wipeD_zero {R:List Bytes} {i:Nat} (hi:i<R.length) (h:R[i]=zeros) (D:kg) (at_:Int):C5 D (at_+i) (R.drop i)=C5 D (at_+(i+1:Nat)) (R.drop (i+1)):=by
 rw[List.drop_eq_getElem_cons hi,C5,if_pos h,Int.natCast_add,←Int.add_assoc]
 rfl
theorem wipeD_step {R:List Bytes} {i:Nat} (hi:i<R.length) (h:R[i]≠zeros) (D:kg) (at_:Int):C5 D (at_+i) (R.drop i)=if(D.write (at_+i) zeros).2≠0 then D.write (at_+i) zeros else C5 (D.write (at_+i) zeros).1 (at_+(i+1:Nat)) (R.drop (i+1)):=by
 rw[List.drop_eq_getElem_cons hi,C5,if_neg h,Int.natCast_add,←Int.add_assoc]
 rfl
theorem wipeD_ok:∀(l:List Bytes) {D:kg} {m:Nat} (at_:Int),D.Ok m→(C5 D at_ l).1.Ok (m+2*l.length)
 | [],D,m,at_,h=>h
 |b::r,D,m,at_,h=>by
  unfold C5
  split
  ·exact(wipeD_ok r (at_+1) h).mono ze
  have h1:=h.write at_ zeros_length
  split
  ·exact h1.mono ze
  exact(wipeD_ok r (at_+1) h1).mono ze
theorem Cu:∀(l:List Bytes) (D:kg) (at_:Int),(C5 D at_ l).1.secs.length=D.secs.length
 | [],D,at_=>rfl
 |b::r,D,at_=>by
  unfold C5
  split
  ·exact Cu r D _
  split
  ·exact D.zv3 _ _
  rw[Cu r,D.zv3]
theorem cleanD_ok {D:kg} {m:Nat} (h:D.Ok m) (at_:Int) (l:List Bytes):(Cd D at_ l).1.Ok (m+2*l.length+1):=by
 unfold Cd
 dsimp only
 have h1:=wipeD_ok l at_ h
 split
 ·exact h1.mono zo
 split
 ·exact h1.mono zo
 exact h1.sync
theorem cleanD_secs (D:kg) (at_:Int) (l:List Bytes):(Cd D at_ l).1.secs.length=D.secs.length:=by
 unfold Cd
 dsimp only
 split
 ·exact Cu _ _ _
 split
 ·exact Cu _ _ _
 rw[kg.sync_secs,Cu]
theorem yz1:∀(k:Nat) (L:List Bytes),(∀b∈L,b.length=64)→(L.flatMap ge).drop (k*64)=(L.drop k).flatMap ge
 |0,L,_=>by simp
 |k+1,[],_=>by simp
 |k+1,b::L,h=>by
  rw[List.flatMap_cons,List.drop_succ_cons,←yz1 k L fun x hx=>h x (by simp[hx]),List.drop_append,ko (h b zp),List.drop_eq_nil_of_le (by rw[ko (h b zp)];omega),List.nil_append,show(k+1)*64-64=k*64 from by omega]
/-! ### Opening -/
def NwOk (S:Nat) (o:Option (Nat×Nat)):Prop:=∀t n,o=some (t,n)→B1 n S∧t<4294967296
theorem turnOf_lt {b:Bytes}:D8 b<4294967296:=by
 have h:=vl ((b.drop 12).take 4)
 have hl:((b.drop 12).take 4).length≤4:=by rw[List.length_take];omega
 have h2:256^((b.drop 12).take 4).length≤256^4:=Nat.pow_le_pow_right zd hl
 exact Nat.lt_of_lt_of_le h h2
theorem newer_ok {i S:Nat} {b:Bytes} {o:Option (Nat×Nat)} (h:NwOk S o):NwOk S (newer i S b o):=by
 intro t n e
 unfold newer at e
 split at e
 ·rename_i a
  cases o with
  |none=>simp at e;obtain⟨rfl,rfl⟩:=e;exact⟨a.2.1,turnOf_lt⟩
  |some x=>
   simp only at e
   split at e
   ·simp at e;obtain⟨rfl,rfl⟩:=e;exact⟨a.2.1,turnOf_lt⟩
   exact h t n e
 exact h t n e
theorem yw9 (S:Nat):∀(k i:Nat) (D:kg) (o:Option (Nat×Nat)) (m:Nat),NwOk S o→D.Ok m→
  ((xb S k i D o).1.Ok (m+k)∧(xb S k i D o).1.secs=D.secs∧(xb S k i D o).1.order=D.order)∧(((xb S k i D o).2.2=none∧(xb S k i D o).2.1≠0)∨∃t n,(xb S k i D o).2.2=some (t,n)∧(xb S k i D o).2.1=0∧B1 n S∧t<4294967296)
 |0,i,D,o,m,ho,hok=>by
  refine⟨⟨hok,rfl,rfl⟩,?_⟩
  cases o with
  |none=>exact .inl ⟨rfl,by simp[xb,nwE]⟩
  |some x=>exact .inr ⟨x.1,x.2,rfl,rfl,ho x.1 x.2 rfl⟩
 |k+1,i,D,o,m,ho,hok=>by
  have h1:=hok.read (i:Int)
  have h2:=kg.A0 D (i:Int) false
  unfold xb
  split
  ·rename_i he
   exact⟨⟨h1.mono zo,h2.1,h2.2⟩,.inl ⟨rfl,he⟩⟩
  obtain⟨⟨a1,a2,a3⟩,b⟩:=yw9 S k (i+1) (D.read i).1 (newer i S (D.read i).2.1 o) (m+1) (newer_ok ho) h1
  exact⟨⟨a1.mono zo,a2.trans h2.1,a3.trans h2.2⟩,b⟩
theorem xz9 {D:kg} {m:Nat} (hok:D.Ok m):((qy D).1.Ok (m+2)∧(qy D).1.secs=D.secs∧(qy D).1.order=D.order)∧(((qy D).2.2=none∧(qy D).2.1≠0)∨∃t n,(qy D).2.2=some (t,n)∧(qy D).2.1=0∧B1 n D.secs.length∧t<4294967296):=
 yw9 D.secs.length 2 0 D none m (fun _ _ e=>by cases e) hok
theorem openW_no {D:kg} (h:(qy D).2.2=none):uf D=((qy D).1,(qy D).2.1,0,0,[]):=by
 unfold uf
 generalize qy D=x at h
 obtain⟨D',e,o⟩:=x
 dsimp only at h
 subst h
 rfl
theorem openW_yes {D:kg} {t n:Nat} (h:(qy D).2.2=some (t,n)):uf D=vk (qy D).1 t n:=by
 unfold uf
 generalize qy D=x at h
 obtain⟨D',e,o⟩:=x
 dsimp only at h
 subst h
 rfl
theorem readsD_step (D:kg) (at_:Int) (k:Nat):xl D at_ (k+1)=if(D.read at_).2.2≠0 then((D.read at_).1,[],(D.read at_).2.2) else((xl (D.read at_).1 (at_+1) k).1,(D.read at_).2.1::(xl (D.read at_).1 (at_+1) k).2.1,(xl (D.read at_).1 (at_+1) k).2.2):=by
 rfl
theorem Bo (l:List Bytes) (b:Bytes):u6 (l++[b])=u6 l+kj b.length:=by simp[u6]
theorem liesB_some {L:List Bytes} {t n:Nat} {b:Bytes} (hL:∀s∈L,s.length=64) (h:D7 L t n=some b):b.length≤40000∧kj b.length≤L.length∧uw t n b=L.take (kj b.length):=by
 cases L with
 |nil=>cases h
 |cons s r=>
  have h:(if 40000<xq s∨(s::r).length<kj (xq s) then none
   else if uw t n (((zv4 ((s::r).take (kj (xq s)))).drop 4).take (xq s))=(s::r).take (kj (xq s)) then some (((zv4 ((s::r).take (kj (xq s)))).drop 4).take (xq s)) else none)=some b:=h
  split at h
  ·cases h
  rename_i l
  split at h
  ·rename_i g
   simp only[Option.some.injEq] at h
   have i:xq s≤40000:=by omega
   have j:kj (xq s)≤(s::r).length:=by omega
   have c:(zv4 ((s::r).take (kj (xq s)))).length=48*kj (xq s):=by
    have:∀(L:List Bytes),(∀b∈L,b.length=64)→(zv4 L).length=48*L.length:=by
     intro L
     induction L with
     |nil=>intro _;rfl
     |cons a L ih=>
      intro h
      have e:zv4 (a::L)=a.drop 16++zv4 L:=rfl
      rw[e,List.length_append,List.length_drop,h a zp,ih fun x k=>h x (by simp[k]),List.length_cons]
      omega
    rw[this _ fun b d=>hL b (List.mem_of_mem_take d),List.length_take,Nat.min_eq_left j]
   have f:=xx7 i
   have d:b.length=xq s:=by rw[←h,List.length_take,List.length_drop,c];omega
   rw[h] at g
   rw[d]
   exact⟨i,j,g⟩
  cases h
theorem lyGo_step (t:Nat):∀(f:Nat) (area:List Bytes) (n:Nat),(∀s∈area,s.length=64)→area.length≤f→lyGo t f area n=match D7 area t n with
  |none=>[]
  |some b=>b::lyGo t (f-1) (area.drop (kj b.length)) (n+1)
 |0,area,n,_,h=>by
  have:area=[]:=List.eq_nil_of_length_eq_zero zo
  subst this
  rfl
 |f+1,area,n,_,_=>rfl
theorem zeros_64 {n:Nat}:∀s∈List.replicate n zeros,s.length=64:=fun s hs=>by rw[(List.mem_replicate.1 hs).2];exact zeros_length
open Go.WideShapes Go.ChangeShapes Go.RowKit
section
variable {H:Type} {enc:TypeId×Value→H} {P:Program} {w w':World}
theorem Ext.sameAt (hE:Ext No w w') {p:MemPlace} (hp:p.block<w.heap.size):w.sameAt w' p:=by
 cases p with
 |cell b off=>
  have:=hE.same b hp id
  show w'.cell? ⟨b,off,none⟩=w.cell? ⟨b,off,none⟩
  unfold World.cell?
  rw[this]
 |map b=>exact hE.same b hp id
theorem xq0 {base:Nat} {sp:Nat→Bool} {held:Bool}:∀{ts:List TypeId} {vs:List Value} {ds:List (DataW H)} {ps:List MemPlace},DataW.TrodAll enc P w base sp held ts vs ds ps→(∀p∈ps,w.sameAt w' p)→DataW.TrodAll enc P w' base sp held ts vs ds ps
 | [],[],[],_,h,_=>h
 |_::_,_::_,_::_,_,⟨p,q,⟨n,h1⟩,h2,e⟩,hs=>⟨p,q,⟨n,DataW.trod_carry n _ _ _ h1 fun x hx=>hs x (by rw[e];exact List.mem_append_left _ hx)⟩,xq0 h2 fun x hx=>hs x (by rw[e];exact List.mem_append_right _ hx),e⟩
theorem post_of_old {f:Func} {s:ChangeSpec} {apart fresh handsOn again:Bool} {W W':World} {args:Array Value} {v:Value} {ds gs:List (DataW H)} {before pa pv:List MemPlace}
  (hW:DataW.Whole enc P f.params.toList s.vars apart W args.toList ds gs before)
  (hres:∀(b:Nat) (sp:Nat→Bool) (hd:Bool),DataW.TrodAll enc P W' b sp hd f.resultTypes.toList (v.resultList f.resultTypes.size) (s.fn H (ds++gs)).results [])
  (hargs:∀sp:Nat→Bool,(∀p∈before,sp p.block=true)→DataW.TrodAll enc P W' 0 sp true f.params.toList args.toList (s.fn H (ds++gs)).args pa)
  (hvars:∀sp:Nat→Bool,(∀p∈before,sp p.block=true)→DataW.TrodVars enc P W' sp s.vars (s.fn H (ds++gs)).vars pv)
  (hps:before=pa++pv) (hk:W.keptBut W' (·∈before)) (hfz:∀a:Addr,a.block<W.heap.size→W'.frozen? a=W.frozen? a)
  (hok:∀(j:Nat) (t:TypeId) (r:Value),f.resultTypes[j]? =some t→(v.resultList f.resultTypes.size)[j]? =some r→Value.okWide P W' .any 0 t r):
  s.post enc P f apart fresh handsOn again W args v W':=by
 have e:∀p∈before,p.block<W.heap.size:=fun p c=>hW.lt p c
 have d:∀p∈before,(fun b=>decide (b<W.heap.size)) p.block=true:=fun p c=>by simpa using e p c
 have h:∀p,p∈[]++pa++pv↔p∈before:=fun p=>by rw[hps,List.nil_append]
 refine⟨ds,gs,before,[],pa,pv,hW,hres _ _ _,hargs _ d,hvars _ d,World.keptBut_mono (fun p c=>⟨c,.inr (List.mem_append.1 (hps▸c))⟩) hk,fun _=> ?_⟩
 obtain⟨_,_,_,_,_,k,l⟩:=hW
 refine⟨hok,_,_,([]++pa)++pv,⟨[]++pa,pv,trodAll_append (hargs _ (fun _ _=>rfl)) (hres _ _ _),hvars _ (fun _ _=>rfl),rfl,fun b g c=> ?_,fun m=> ?_⟩,fun p c _=>(h p).1 c⟩
 ·have i:=(h _).1 c
  rw[hfz _ (e _ i)]
  exact k b g i
 have:=l m
 rw[hps] at this
 exact this
theorem post_true {f:Func} {s:ChangeSpec} {fresh handsOn again:Bool} {W W':World} {args:Array Value} {ds gs:List (DataW H)} {before:List MemPlace} (hl:laidOutB P=true) (hm:mapsRowed P=true) (hz:((List.range P.types.size).all fun t=>match P.underlying t with|some (.slice e)=>decide (0<P.cellsOf e)|_=>true)=true)
  (hW:DataW.Whole enc P f.params.toList s.vars false W args.toList ds gs before) (hv:s.vars=[]) (hts:f.params.toList.all (fun t=>decide (t<P.types.size))=true)
  {tb:TypeId} (hrt:f.resultTypes= #[tb]) (htb:P.underlying tb=some .bool) (hr:(s.fn H (ds++gs)).results=[.lit (.bool true)]) (ha:(s.fn H (ds++gs)).args=ds) (hvr:(s.fn H (ds++gs)).vars=[]) (hE:Ext No W W'):
  s.post enc P f false fresh handsOn again W args (.bool true) W':=by
 have b:=hW
 obtain⟨p,q,g,h,rfl,_,_⟩:=hW
 rw[hv] at h
 obtain⟨rfl,rfl⟩:=trodVars_none h
 refine post_of_old (pa:=p) (pv:=[]) b (fun _ _ _=> ?_) (fun j c=> ?_) (fun _ _=> ?_) zp (World.keptBut_mono (fun _ f=>f.elim) (hE.kept fun _ _=>id)) (fun a ha=>hE.froz ha id) ?_
 ·rw[hrt,hr]
  exact trodAll_cons_mk (RowKit.shut_bool htb true) trodAll_mk0
 ·rw[ha]
  refine xq0 (g.respare (kids_rows hl hm) (slices_full_of P hz) (fun t i=>by simpa using List.all_eq_true.1 hts t i) fun x d=>c x (by simpa using d)) fun x d=> ?_
  exact hE.sameAt (g.lt x d)
 ·rw[hv,hvr];rfl
 exact ok_one hrt rfl (RowKit.okWide_bool_mk htb true)
theorem cells?_seg {a:Addr} {m:Nat} {r:List Value} (h:w.cells? 0 a m=some r) (hm:0<m):a=⟨a.block,a.off,none⟩∧r.length=m∧Seg w a.block a.off r∧a.block<w.heap.size:=by
 have hlt:=World.cells?_block h hm
 unfold World.cells? at h
 rw[if_pos (Nat.zero_le _)] at h
 have hlen:=mapM_some_length h
 have hget:∀i,i<m→w.cell? (a.add i)=r[i]? :=fun i hi=>mapM_some_get h i i (by simp[hi])
 simp only[List.length_range] at hlen
 have hspot:a.spot=none:=by
  have h0:=hget 0 hm
  have hr0:r[0]? =some r[0]:=by simp
  rw[hr0] at h0
  have e:a.add 0=a:=by simp[Addr.add]
  rw[e] at h0
  unfold World.cell? at h0
  split at h0
  ·split at h0
   ·cases h0
   rename_i hs;simpa using hs
  cases h0
 have ha:a=⟨a.block,a.off,none⟩:=by rw[←hspot]
 refine⟨ha,hlen,fun i v hv=> ?_,hlt⟩
 have hi:i<m:=by
  have:=(List.getElem?_eq_some_iff.1 hv).1
  omega
 have hi':=hget i hi
 rw[hv] at hi'
 have e:a.add i=⟨a.block,a.off+i,none⟩:=by rw[ha];exact addr_add _ _ _
 rw[e] at hi'
 exact hi'
theorem rows_seg {b m:Nat}:∀{L:List (List Value)} {off:Nat},Uni m L→(∀(i:Nat) (r:List Value),L[i]? =some r→Seg w b (off+i*m) r)→Seg w b off L.flatten
 | [],_,_,_=>fun i v hv=>by simp at hv
 |r::L,off,hu,h=>by
  rw[List.flatten_cons,Seg.append]
  have hr:=hu r zp
  refine⟨by simpa using h 0 r rfl,?_⟩
  rw[hr]
  refine rows_seg (fun x hx=>hu x (by simp[hx])) fun i x hx=> ?_
  have:=h (i+1) x (by simpa using hx)
  rwa [show off+(i+1)*m=off+m+i*m from by rw[Nat.succ_mul];omega] at this
theorem open_rows {sp:Nat→Bool} {held:Bool} {fuel:Nat} {t e m:Nat} {cs:List Value} {x:DataW H×List MemPlace} (ht:P.underlying t=some (.slice e)) (hm:P.cellsOf e=m) (hm0:0<m) (h:DataW.trod enc P w 0 sp held fuel t cs=some x):
  ∃(p:Option Addr) (n c:Nat) (L:List (List Value)),cs=[.slice p n c]∧n≤c∧c≤maxLen∧L.length=n∧Uni m L∧Sl w p n m L.flatten∧(n≠0→∀b off,p=some ⟨b,off,none⟩→b<w.heap.size)∧
   ∀r∈L,∃k y,DataW.trod enc P w 0 sp held k e r=some y:=by
 subst hm
 rcases DataW.trod_slice ht h with⟨q,_⟩|⟨a,d,v,z,F,n,_,q,_,_,M,N,G,A,_⟩
 ·exact⟨none,0,0,[],q,Nat.le_refl _,by unfold maxLen;omega,rfl,Uni.nil _,Sl.nil _ _ _,fun h=>absurd rfl h,fun r g=>by cases g⟩
 have s:∀i,i<d→∃r y,w.cells? 0 (a.add (i*P.cellsOf e)) (P.cellsOf e)=some r∧DataW.trod enc P w 0 sp held n e r=some y:=by
  intro i o
  have:=A i o
  rw[List.getElem?_eq_getElem zo,Option.bind_eq_some_iff] at this
  obtain⟨r,B,C⟩:=this
  exact⟨r,_,B,C⟩
 have f:∀i:_root_.Fin d,∃r y,w.cells? 0 (a.add (i.1*P.cellsOf e)) (P.cellsOf e)=some r∧DataW.trod enc P w 0 sp held n e r=some y:=fun i=>s i.1 i.2
 let L:List (List Value):=List.ofFn fun i:_root_.Fin d=>Classical.choose (f i)
 have u:∀(i:Nat) (r:List Value),L[i]? =some r→i<d∧w.cells? 0 (a.add (i*P.cellsOf e)) (P.cellsOf e)=some r∧∃y,DataW.trod enc P w 0 sp held n e r=some y:=by
  intro i r g
  have o:i<d:=by
   have:=(List.getElem?_eq_some_iff.1 g).1
   simpa [L] using this
  have:r=Classical.choose (f ⟨i,o⟩):=by
   simp only[L,List.getElem?_ofFn,o,dif_pos,Option.some.injEq] at g
   exact g.symm
  subst this
  obtain⟨y,B,C⟩:=Classical.choose_spec (f ⟨i,o⟩)
  exact⟨o,B,y,C⟩
 have j:L.length=d:=by simp[L]
 have D:Uni (P.cellsOf e) L:=fun r g=>by
  obtain⟨i,o,rfl⟩:=List.mem_iff_getElem.1 g
  have:=u i L[i] zp
  exact(cells?_seg this.2.1 hm0).2.1
 refine⟨some a,d,v,L,q,M,N,j,D,⟨by rw[x8 D,j],?_⟩,?_,fun r g=> ?_⟩
 ·rcases Nat.eq_zero_or_pos d with I|I
  ·exact .inl I
  right
  have l:=u 0 L[0] zp
  have E:a.add (0*P.cellsOf e)=a:=by simp[Addr.add]
  rw[E] at l
  have J:=(cells?_seg l.2.1 hm0).1
  refine⟨a.block,a.off,congrArg some J,rows_seg D fun i r g=> ?_⟩
  have o:=u i r g
  have:=(cells?_seg o.2.1 hm0).2.2.1
  have O:a.add (i*P.cellsOf e)=⟨a.block,a.off+i*P.cellsOf e,none⟩:=by
   conv=>lhs;rw[J]
   exact addr_add _ _ _
  rw[O] at this
  exact this
 ·intro R b off K
  have l:=u 0 (L[0]'zo) zp
  have E:a.add (0*P.cellsOf e)=a:=by simp[Addr.add]
  rw[E] at l
  have:=(cells?_seg l.2.1 hm0).2.2.2
  simp only[Option.some.injEq] at K
  rw[K] at this
  exact this
 obtain⟨i,o,rfl⟩:=List.mem_iff_getElem.1 g
 obtain⟨_,_,y,Q⟩:=u i L[i] zp
 exact⟨n,y,Q⟩
end
end Go.Vc
namespace Go.Proofs.YtpdiphfjmepijaaGreatDoor
open Tryz
open Go.Vc
abbrev dskL (sb n:Nat) (op:Option Addr) (on oc:Nat) (dead:Bool) (fu fa dn:Int):List Value:=
  [.slice (some ⟨sb,0,none⟩) n n,.slice op on oc,.bool dead,.int .i64 fu,.int .i64 fa,.int .i64 dn]
theorem alive_live (w:World) {d sb n:Nat} {op:Option Addr} {on oc:Nat} {dead:Bool} {fu fa dn:Int} (hb:gz w d 153 (dskL sb n op on oc dead fu fa dn)):
  gp prog 148 [.pointer (some ⟨d,0,none⟩)] w fun v w'=>v= .int .i64 (if dead then 9 else 0)∧w'=w:=by
 refine gh func148 rfl rfl rfl rfl ?_
 refine jc rfl (gl (jc rfl (u3 rfl ?_)))
 refine xy (km rfl (jb hb rfl rfl (ql (vh rfl (fun h=> ?_) (fun h=> ?_)))))
 ·refine jc rfl (gr (gq (gv rfl rfl ⟨by simp[h],rfl⟩)))
 refine j6 (gy (jc rfl (gr (gv rfl rfl ⟨by simp[h],rfl⟩))))
theorem zq8 (w:World) {d sb n:Nat} {op:Option Addr} {on oc:Nat} {dead:Bool} {fu fa dn:Int} (i:Int) (burns:Bool) {g:Nat} {caps:Array Value}
  (hcf:∀args w,(callFunc g args).run prog w= .ok (.enter g args) w)
  (hb:gz w d 153 (dskL sb n op on oc dead fu fa dn)) (hfu: -1≤fu∧fu<9223372036854775808) (hfa: -1≤fa∧fa<9223372036854775808) (hdn:0≤dn∧dn<9223372036854775807) (R:Value→World→Prop)
  (hdead:dead=true→R (.int .i64 9) w)
  (harg:dead=false→¬(0≤i∧i<n)→R (.int .i64 2) w)
  (hio:dead=false→0≤i∧i<n→fa=0→∀w',gz w' d 153 (dskL sb n op on oc false fu (-1) dn)→Ext (One d) w w'→R (.int .i64 8) w')
  (hfuse:dead=false→0≤i∧i<n→fa≠0→burns=true→fu=0→∀w',gz w' d 153 (dskL sb n op on oc true (-1) (uo fa) dn)→Ext (One d) w w'→R (.int .i64 9) w')
  (hgo:dead=false→0≤i∧i<n→fa≠0→¬(burns=true∧fu=0)→∀w',gz w' d 153 (dskL sb n op on oc false (yj burns fu) (uo fa) (dn+1))→Ext (One d) w w'→
   gp prog g ([.pointer (some ⟨sb,i.toNat*65,none⟩)]++caps.toList) w' fun _ w2=>R (.int .i64 0) w2):
  gp prog 149 [.pointer (some ⟨d,0,none⟩),.int .i64 i,.bool burns,.func (.func g) #[] caps] w R:=by
 refine gh func149 rfl rfl rfl rfl ?_
 refine jc rfl (gl (km rfl (gi call148 rfl (alive_live w hb) fun B x o=> ?_)))
 obtain⟨rfl,rfl⟩:=o
 cases dead
 case true=>
  refine ju rfl (jc rfl (vi rfl ?_))
  exact jc rfl (gr (gq (gv rfl rfl (hdead rfl))))
 refine ju rfl (jc rfl (u3 rfl ?_))
 refine xy (jv (α:=Bool) [0,1,2,3] rfl (fun z=>[(25,.bool z)]) (fun z u=>u=x∧z=decide (¬(0≤i∧i<n))) ?_ ?_)
 ·refine yu rfl (jl 17 rfl (fun j=> ?_) (fun j=> ?_))
  ·refine yx9 gc rfl (gn (j4 true rfl ⟨rfl,?_⟩))
   simp;omega
  refine yx9 gc rfl (jb hb rfl rfl (yx9 gc rfl (gn (j4 _ rfl ⟨rfl,?_⟩))))
  simp only[decide_eq_decide];omega
 rintro z w ⟨rfl,rfl⟩
 refine jp rfl (fun b=> ?_) (fun b=> ?_)
 ·exact jc rfl (gr (gq (gv rfl rfl (harg rfl b))))
 have p:0≤i∧i<n:=Decidable.not_not.1 b
 refine j6 (gy (jv (α:=Unit) [0,1,2,3] rfl (fun z=>[]) (fun z u=>fa≠0∧gz u d 153 (dskL sb n op on oc false fu (uo fa) dn)∧Ext (One d) w u) ?_ ?_))
 ·refine gl ?_
  refine yu rfl (jb hb rfl rfl (ju rfl (jp rfl (fun b=> ?_) (fun b=> ?_))))
  ·refine gl ?_
   refine yu rfl (jb hb rfl rfl (j7 gc rfl ?_))
   rw[IntWalk.i64_in _ zo]
   refine ky hb rfl rfl rfl fun w2 c a k=> ?_
   refine ql (km rfl (jb c rfl rfl (ju rfl (jp rfl (fun b=> ?_) (fun b=> ?_)))))
   ·refine jc rfl (gr (gq (gv rfl rfl ?_)))
    rw[b] at c
    exact hio rfl p zo w2 c a
   refine j6 (j4 () rfl ⟨by omega,?_,a⟩)
   rw[show uo fa=fa-1 from if_neg zo]
   exact c
  refine j6 (j4 () rfl ⟨by omega,?_,Ext.refl _ _⟩)
  rw[show uo fa=fa from by unfold uo;split<;>omega]
  exact hb
 rintro⟨⟩ w2 ⟨f,hb,l⟩
 refine jv (α:=Unit) [0,1,3] rfl (fun z=>[]) (fun z u=>¬(burns=true∧fu=0)∧gz u d 153 (dskL sb n op on oc false (yj burns fu) (uo fa) dn)∧Ext (One d) w u) ?_ ?_
 ·refine jv (α:=Bool) [0,1,3] rfl (fun z=>[(50,.bool z)]) (fun z u=>u=w2∧z=decide (burns=true∧fu≠-1)) ?_ ?_
  ·refine yu rfl (ua 44 rfl (fun j=> ?_) (fun j=> ?_))
   ·refine yx9 gc rfl (jb hb rfl rfl (yx9 gc rfl (gn (j4 _ rfl ⟨rfl,?_⟩))))
    simp[j]
   refine yx9 gc rfl (gn (j4 false rfl ⟨rfl,?_⟩))
   simp[j]
  rintro z s ⟨rfl,rfl⟩
  refine jp rfl (fun b=> ?_) (fun b=> ?_)
  ·refine km rfl (jb hb rfl rfl (j7 gc rfl ?_))
   rw[IntWalk.i64_in _ zo]
   refine ky hb rfl rfl rfl fun t hb a k=> ?_
   refine ql (km rfl (jb hb rfl rfl (j7 gc rfl (ky hb rfl rfl rfl fun y hb m A=> ?_))))
   refine ql (km rfl (jb hb rfl rfl (ql (jp rfl (fun v=> ?_) (fun v=> ?_)))))
   ·refine jc rfl (gr (gq (gv rfl rfl ?_)))
    have e:fu=0:=by omega
    subst e
    exact hfuse rfl p f b.1 rfl y (by simpa using hb) (l.then (a.then m))
   refine j6 (j4 () rfl ⟨by omega,?_,l.then (a.then m)⟩)
   rw[show yj burns fu=fu-1 from if_pos b]
   simpa [v] using hb
  refine j6 (j4 () rfl ⟨fun h=>b ⟨h.1,by omega⟩,?_,l⟩)
  rw[show yj burns fu=fu from if_neg b]
  exact hb
 rintro⟨⟩ s ⟨q,hb,l⟩
 refine km rfl (jb hb rfl rfl (j7 gc rfl ?_))
 rw[IntWalk.i64_in _ zo]
 refine ky hb rfl rfl rfl fun t hb a k=> ?_
 refine ql (km rfl (jb hb rfl rfl (j7 gc rfl (ka rfl 65 rfl i.toNat zo zo (i.toNat*65) zo ?_))))
 refine gi hcf rfl (hgo rfl p f q t hb (l.then a)) fun C s r=> ?_
 exact ql (jc rfl (gr (gv rfl rfl r)))
def TyB (w:World) (b T:Nat):Prop:=∃l,gz w b T l
theorem TyB.ext {S:Nat→Prop} {w w':World} {b T:Nat} (h:TyB w b T) (hE:Ext S w w') (hS:¬S b):TyB w' b T:=let⟨l,hl⟩:=h;⟨l,hl.ext hE hS⟩
theorem TyB.ne {w:World} {b c T U:Nat} {l:List Value} (h:TyB w b T) (k:gz w c U l) (hT:T≠U):b≠c:=let⟨_,hl⟩:=h;hl.ne k hT
def bl (ws:List Bytes):List (List Value):=ws.map ge
def qm (s:Bytes) (p:Option Addr) (n c:Nat):List Value:=ge s++[.slice p n c]
def zw7 (w:World) (F:Nat→Prop) (p:Option Addr) (ws:List Bytes):Prop:=
  Sl w p ws.length 64 (bl ws).flatten∧∀b off,p=some ⟨b,off,none⟩→F b∧TyB w b 165
def yq0 (w:World) (F:Nat→Prop) (s:Sec) (r:List Value):Prop:=
  ∃p c,r=qm s.safe p s.waits.length c∧s.waits.length≤c∧s.safe.length=64∧(∀b∈s.waits,b.length=64)∧zw7 w F p s.waits
theorem zw7.ext {S F:Nat→Prop} {w w':World} {p:Option Addr} {ws:List Bytes} (h:zw7 w F p ws) (hE:Ext S w w') (hS:∀b,F b→TyB w b 165→¬S b):zw7 w' F p ws:=
 ⟨h.1.ext hE fun b off hp=>hS b (h.2 b off hp).1 (h.2 b off hp).2,fun b off hp=>⟨(h.2 b off hp).1,(h.2 b off hp).2.ext hE (hS b (h.2 b off hp).1 (h.2 b off hp).2)⟩⟩
theorem zw7.mono {F F':Nat→Prop} {w:World} {p:Option Addr} {ws:List Bytes} (h:zw7 w F p ws) (hF:∀b,F b→F' b):zw7 w F' p ws:=⟨h.1,fun b off hp=>⟨hF b (h.2 b off hp).1,(h.2 b off hp).2⟩⟩
theorem yq0.ext {S F:Nat→Prop} {w w':World} {s:Sec} {r:List Value} (h:yq0 w F s r) (hE:Ext S w w') (hS:∀b,F b→TyB w b 165→¬S b):yq0 w' F s r:=by
 obtain⟨p,c,h1,h2,h3,h4,h5⟩:=h
 exact⟨p,c,h1,h2,h3,h4,h5.ext hE hS⟩
theorem yq0.mono {F F':Nat→Prop} {w:World} {s:Sec} {r:List Value} (h:yq0 w F s r) (hF:∀b,F b→F' b):yq0 w F' s r:=by
 obtain⟨p,c,h1,h2,h3,h4,h5⟩:=h
 exact⟨p,c,h1,h2,h3,h4,h5.mono hF⟩
theorem yq0.len {w:World} {F:Nat→Prop} {s:Sec} {r:List Value} (h:yq0 w F s r):r.length=65:=by
 obtain⟨p,c,rfl,_,h3,_⟩:=h
 simp[qm,ge,h3]
def y6 (w:World) (F:Nat→Prop) (secs:List Sec) (L:List (List Value)):Prop:=
  L.length=secs.length∧∀(i:Nat) (s:Sec) (r:List Value),secs[i]? =some s→L[i]? =some r→yq0 w F s r
theorem y6.uni {w:World} {F:Nat→Prop} {secs:List Sec} {L:List (List Value)} (h:y6 w F secs L):Uni 65 L:=fun r hr=>by
 obtain⟨i,hi,rfl⟩:=List.mem_iff_getElem.1 hr
 exact(h.2 i (secs[i]'(by rw[←h.1];exact hi)) L[i] zp zp).len
theorem y6.ext {S F:Nat→Prop} {w w':World} {secs:List Sec} {L:List (List Value)} (h:y6 w F secs L) (hE:Ext S w w') (hS:∀b,F b→TyB w b 165→¬S b):y6 w' F secs L:=
 ⟨h.1,fun i s r hs hr=>(h.2 i s r hs hr).ext hE hS⟩
theorem y6.mono {F F':Nat→Prop} {w:World} {secs:List Sec} {L:List (List Value)} (h:y6 w F secs L) (hF:∀b,F b→F' b):y6 w F' secs L:=
 ⟨h.1,fun i s r hs hr=>(h.2 i s r hs hr).mono hF⟩
abbrev Bm (l:List Nat):List Value:=l.map fun i:Nat=>Value.int .i64 (i:Int)
structure vq (w:World) (d sb:Nat) (op:Option Addr) (oc:Nat) (F:Nat→Prop) (D:kg):Prop where
  head:gz w d 153 (dskL sb D.secs.length op D.order.length oc D.dead D.fuse D.fault D.done)
  secs:∃L,gz w sb 218 (List.flatten L)∧y6 w F D.secs L
  order:Own w op D.order.length oc 3 1 (Bm D.order)
  own:F d∧F sb∧∀x,jd op x→F x
  lt:∀x,F x→x<w.heap.size
theorem vq.ext {S F:Nat→Prop} {w w':World} {d sb oc:Nat} {op:Option Addr} {D:kg} (h:vq w d sb op oc F D) (hE:Ext S w w') (hS:∀x,F x→¬S x):vq w' d sb op oc F D:=by
 obtain⟨L,c,e⟩:=h.secs
 exact⟨h.head.ext hE (hS d h.own.1),⟨L,c.ext hE (hS sb h.own.2.1),e.ext hE fun b f _=>hS b f⟩,h.order.ext hE fun x a=>hS x (h.own.2.2 x a),h.own,fun x a=>Nat.lt_of_lt_of_le (h.lt x a) hE.size⟩
theorem vq.ga {F:Nat→Prop} {w w':World} {d sb oc:Nat} {op:Option Addr} {D:kg} (h:vq w d sb op oc F D) (hE:Ext No w w'):vq w' d sb op oc F D:=h.ext hE fun _ _=>id
theorem vq.extNew {F:Nat→Prop} {w w':World} {d sb oc b:Nat} {op:Option Addr} {D:kg} (h:vq w d sb op oc F D) (hE:Ext (One b) w w') (hb:¬F b):vq w' d sb op oc F D:=h.ext hE fun _x hx e=>hb (e▸hx)
theorem Own.ty {w:World} {p:Option Addr} {n c T sz:Nat} {xs:List Value} (h:Own w p n c T sz xs) {x:Nat} (hx:jd p x):TyB w x T:=by
 rcases h with⟨hp,_⟩|⟨b,l,hp,hb,_⟩
 ·rw[hp] at hx;cases hx
 rw[hp] at hx
 obtain rfl:b=x:=by simpa using hx
 exact⟨l,hb⟩
theorem vq.zw2 {F:Nat→Prop} {w w':World} {d sb oc:Nat} {op:Option Addr} {D D':kg} (h:vq w d sb op oc F D) (hs:D'.secs=D.secs) (ho:D'.order=D.order) (hb:gz w' d 153 (dskL sb D.secs.length op D.order.length oc D'.dead D'.fuse D'.fault D'.done)) (hE:Ext (One d) w w'):vq w' d sb op oc F D':=by
 obtain⟨L,c,f⟩:=h.secs
 have g:y6 w' F D.secs L:=f.ext hE fun b _ hb e=>hb.ne h.head zd e
 have i:=h.order.ext hE fun _ a e=>(Own.ty h.order a).ne h.head zd e
 exact⟨by rw[hs,ho];exact hb,⟨L,c.gk hE (c.ne h.head zd),by rw[hs];exact g⟩,by rw[ho];exact i,h.own,fun x a=>Nat.lt_of_lt_of_le (h.lt x a) hE.size⟩
theorem dk_now (w:World) {sb i:Nat} {L:List (List Value)} (hb:gz w sb 218 L.flatten) (hu:Uni 65 L) {s:Sec} {r:List Value} (hr:L[i]? =some r) {F:Nat→Prop} (hs:yq0 w F s r) (hfew:s.waits.length<4611686018427387904):
  gp prog 151 [.pointer (some ⟨sb,i*65,none⟩)] w fun v w'=>v=xz8 s.now∧Ext No w w':=by
 obtain⟨p,c,l,G,o,z,H,_⟩:=hs
 have q:w.cell? ⟨sb,i*65+64,none⟩=some (.slice p s.waits.length c):=by
  refine hb.cell ?_
  rw[yx8 hu hr zd,l]
  simp[qm,ge,o]
 have t:Seg w sb (i*65) (ge s.safe):=by
  have:=(hb.ki.drop (i*65)).take 64
  rw[Nat.zero_add] at this
  have e:=rows_part hu hr (j:=0) (n:=64) zd
  rw[Nat.add_zero] at e
  rw[e,l] at this
  simpa [qm,ge,o] using this
 refine gh func151 rfl rfl rfl rfl ?_
 have h:=Ext.refl No w
 refine kz (gw rfl fun K M I d f=> ?_)
 have A:=Nat.le_trans h.size I
 have h:=h.gb f
 have N:=f
 have b:=Bb q f id
 have k:=t.ga f
 have B:=H.ga f
 refine ql (gl (km rfl (j0 rfl b (ju rfl (jc rfl (jp rfl (fun G=> ?_) (fun G=> ?_)))))))
 ·have O:s.waits≠[]:=fun e=>by rw[e] at G;simp at G
  obtain⟨P,m,rfl,C⟩:=B.2.resolve_left zo
  have D:Uni 64 (bl s.waits):=Uni.map fun x Q=>by simp[ge,z x Q]
  have g:(bl s.waits)[s.waits.length-1]? =some (ge s.now):=by
   unfold bl Sec.now
   rw[List.getElem?_map,List.getLast?_eq_getElem?]
   have:s.waits.length-1<s.waits.length:=by omega
   simp[this]
  have u:Seg M P (m+(s.waits.length-1)*64) (ge s.now):=by
   have:=(C.drop ((s.waits.length-1)*64)).take 64
   rw[rows_row D g] at this
   exact this
  have a:(ge s.now).length=64:=D.get g
  refine km rfl (j0 rfl b (j7 gc rfl ?_))
  rw[IntWalk.i64_in _ zo]
  refine ka rfl 64 rfl (s.waits.length-1) zo zo (m+(s.waits.length-1)*64) rfl (jo rfl u a ?_)
  refine wl (j8 gc d rfl rfl a (by rw[jf,a];rfl) yz fun R d y J=> ?_)
  have h:=h.gj y A
  refine ql (gr (gq (qk [_] ⟨⟨K,0,rfl,qu gc rfl rfl d.ki a⟩,trivial⟩ ?_)))
  exact⟨rfl,h⟩
 have S:s.waits=[]:=List.eq_nil_of_length_eq_zero zo
 have E:s.now=s.safe:=by simp[Sec.now,S]
 have a:(ge s.safe).length=64:=by simp[ge,o]
 refine j6 ?_
 refine gy (km rfl (jo rfl k a (wl (j8 gc d rfl rfl a (by rw[jf,a];rfl) yz fun R d y J=> ?_))))
 have h:=h.gj y A
 refine ql (gr (qk [_] ⟨⟨K,0,rfl,qu gc rfl rfl d.ki a⟩,trivial⟩ ?_))
 exact⟨by rw[E];rfl,h⟩
theorem dk_readIn (w:World) {sb i x:Nat} {L:List (List Value)} (hb:gz w sb 218 L.flatten) (hu:Uni 65 L) {s:Sec} {r:List Value} (hr:L[i]? =some r) {F:Nat→Prop} (hs:yq0 w F s r) (hfew:s.waits.length<4611686018427387904) {l:List Value} (hx:gz w x 165 l) (hl:l.length=64) (hnow:s.now.length=64):
  gp prog 150 ([.pointer (some ⟨sb,i*65,none⟩)]++ #[Value.pointer (some ⟨x,0,none⟩)].toList) w fun _ w'=>gz w' x 165 (ge s.now)∧Ext (One x) w w':=by
 refine gh func150 rfl rfl rfl rfl ?_
 refine yu rfl (gi call151 rfl (dk_now w hb hu hr hs hfew) fun g h c=> ?_)
 obtain⟨rfl,a⟩:=c
 have b:(ge s.now).length=64:=by simp[ge,hnow]
 refine wl (j8 gc (hx.ga a) rfl rfl b (by rw[hl];exact b) yz fun j d e f=> ?_)
 refine gn (ye rfl ?_)
 exact⟨d,a.no.then e⟩
theorem Cv {D:kg} {m:Nat} (hok:D.Ok m) (i:Nat):(D.now i).length=64:=by
 rw[kg.now]
 cases hs:D.secs[i]? with
 |none=>exact zeros_length
 |some s=>
  have a:=hok.safe s (List.mem_of_getElem? hs)
  simp only[Option.map_some,Option.getD_some,Sec.now]
  cases hl:s.waits.getLast? with
  |none=>exact a.1
  |some b=>exact a.2 b (List.mem_of_getLast? hl)
theorem waits_few {D:kg} {m:Nat} (hok:D.Ok m) {i:Nat} {s:Sec} (hs:D.secs[i]? =some s):s.waits.length≤m:=by
 rw[hok.count i s hs]
 exact Nat.le_trans List.count_le_length hok.few
theorem dk_read (w:World) {d sb oc m:Nat} {F:Nat→Prop} {op:Option Addr} {D:kg} (h:vq w d sb op oc F D) (hok:D.Ok m) (hm:m<1000000000) (i:Int):
  gp prog 78 [.pointer (some ⟨d,0,none⟩),.int .i64 i] w fun v w'=>v= .tuple #[xz8 (D.read i).2.1,.int .i64 (D.read i).2.2]∧vq w' d sb op oc F (D.read i).1∧Ext (One d) w w':=by
 refine gh func78 rfl rfl rfl rfl ?_
 have hX:=Ext.refl (One d) w
 refine kz (gw rfl fun b4 w1 hn4 hb4 hE1=> ?_)
 have fr4:=Nat.le_trans hX.size hn4
 have hX:=hX.gb hE1
 have hF4:¬F b4:=fun e=>by have:=h.lt b4 e;omega
 have hd4:d≠b4:=fun e=>hF4 (e▸h.own.1)
 have h:=h.ga hE1
 have hb4:gz w1 b4 165 (ge zeros):=by
  have e:cellsOf ti165.zero=ge zeros:=by simp[ti165,zeros,ge]
  rw[←e];exact hb4
 have hop:=zq8 w1 i false call150 h.head hok.fuse hok.fault ⟨hok.done.1,by have:=hok.done.2;omega⟩
  (fun v w'=>v= .int .i64 (D.read i).2.2∧vq w' d sb op oc F (D.read i).1∧gz w' b4 165 (ge (D.read i).2.1)∧Ext (fun x=>x=d∨x=b4) w1 w') (caps:= #[.pointer (some ⟨b4,0,none⟩)])
  (fun hd=> ?_) (fun hd hi=> ?_) (fun hd hi hf w' hb' hE=> ?_) (fun hd hi hf hbu hfu w' hb' hE=> ?_) (fun hd hi hf hbu w' hb' hE=> ?_)
 ·refine ju rfl (km rfl (gi call149 rfl hop fun v2 w2 hr2=> ?_))
  obtain⟨rfl,h,hb4,hE2⟩:=hr2
  have hl:(ge (D.read i).2.1).length=64:=by
   unfold ge
   rw[List.length_map]
   unfold kg.read
   dsimp only
   split
   ·exact Cv (hok.begin i false) _
   exact zeros_length
  have hX:Ext (One d) w w2:=hX.trans hE2 fun x hx e=>e.resolve_right zo
  refine ju rfl (kz (jh hb4 rfl hl (j7 gc rfl (wl (j8 gc hb4 rfl rfl hl (by rw[jf]) yz fun w3 hb4 hE3 hs3=> ?_)))))
  refine ju rfl (gr (qk [_,_] ⟨⟨b4,0,rfl,qu gc rfl rfl hb4.ki hl⟩,rfl,trivial⟩ ?_))
  exact⟨rfl,h.extNew hE3 hF4,hX.gj hE3 fr4⟩
 ·have e:D.read i=(D,zeros,9):=by simp[kg.read,kg.begin,hd]
  rw[e]
  exact⟨rfl,h,hb4,Ext.refl _ _⟩
 ·have e:D.read i=(D,zeros,2):=by simp[kg.read,kg.begin,hd,hi]
  rw[e]
  exact⟨rfl,h,hb4,Ext.refl _ _⟩
 ·have e:D.read i=({D with fault:= -1},zeros,8):=by simp[kg.read,kg.begin,hd,hi,hf]
  rw[e]
  have h':=h.zw2 (D':={D with fault:= -1}) rfl rfl (by rw[hd];exact hb') hE
  exact⟨rfl,h',hb4.gk hE hd4.symm,hE.mono fun x _ e=> .inl e⟩
 ·cases hbu
 have e0:D.begin i false=({D with fault:=uo D.fault,fuse:=yj false D.fuse,done:=D.done+1},0):=by simp[kg.begin,hd,hi,hf]
 have e:D.read i=({D with fault:=uo D.fault,fuse:=yj false D.fuse,done:=D.done+1},D.now i.toNat,0):=by
  simp only[kg.read,e0,if_true,kg.now]
 rw[e]
 have h':=h.zw2 (D':={D with fault:=uo D.fault,fuse:=yj false D.fuse,done:=D.done+1}) rfl rfl (by rw[hd];exact hb') hE
 obtain⟨L,hL1,hL2⟩:=h'.secs
 have hi':i.toNat<D.secs.length:=by omega
 have hs:D.secs[i.toNat]? =some D.secs[i.toNat]:=by simp[hi']
 have hiL:i.toNat<L.length:=by rw[hL2.1];exact hi'
 have hr:L[i.toNat]? =some L[i.toNat]:=by simp
 have hnow:D.now i.toNat=D.secs[i.toNat].now:=by simp[kg.now,hs]
 have hn64:=Cv hok i.toNat
 rw[hnow] at hn64⊢
 refine(dk_readIn w' hL1 hL2.uni hr (hL2.2 _ _ _ hs hr) (by have:=waits_few hok hs;omega) (hb4.gk hE hd4.symm) (by simp[ge,zeros]) hn64).mono fun v w2 ⟨hb2,hE2⟩=> ?_
 exact⟨rfl,h'.extNew hE2 hF4,hb2,(hE.mono fun x _ e=> .inl e).then (hE2.mono fun x _ e=> .inr e)⟩
def Grow (F:Nat→Prop) (w w':World):Nat→Prop:=fun x=>F x∨(w.heap.size≤x∧x<w'.heap.size)
theorem z29:cellsOf ti165.zero=ge zeros:=by simp[ti165,zeros,ge]
theorem dk_writeIn (w:World) {d sb oc m b1 b2 b3:Nat} {F:Nat→Prop} {op:Option Addr} {D:kg} (h:vq w d sb op oc F D) (hok:D.Ok m) (hm:m<1000000000) {i:Nat} (hi:i<D.secs.length) {b:Bytes} (hb64:b.length=64)
  (hb1:gz w b1 165 (ge b)) (hb2:gz w b2 61 [.pointer (some ⟨d,0,none⟩)]) (hb3:gz w b3 3 [.int .i64 (i:Int)]) (hF3:¬F b1∧¬F b2∧¬F b3):
  gp prog 188 ([.pointer (some ⟨sb,i*65,none⟩)]++ #[Value.pointer (some ⟨b1,0,none⟩),.pointer (some ⟨b2,0,none⟩),.pointer (some ⟨b3,0,none⟩)].toList) w
   fun _ w'=>∃op' oc',vq w' d sb op' oc' (Grow F w w') (D.put i b)∧Ext F w w':=by
 obtain⟨L,a6,E⟩:=h.secs
 have hu:=E.uni
 have hs:D.secs[i]? =some D.secs[i]:=by simp[hi]
 have a7:i<L.length:=by rw[E.1];exact hi
 have hr:L[i]? =some L[i]:=by simp
 obtain⟨p,c,T,hc,C,a8,aq,az⟩:=E.2 _ _ _ hs hr
 generalize hsd:D.secs[i]=s at*
 generalize hrd:L[i]=r at*
 have aw:=waits_few hok hs
 have y:w.cell? ⟨sb,i*65+64,none⟩=some (.slice p s.waits.length c):=by
  refine a6.cell ?_
  rw[yx8 hu hr zd,T]
  simp[qm,ge,C]
 refine gh func188 rfl rfl rfl rfl ?_
 have o:=Ext.refl F w
 refine gl ?_
 refine jt rfl 19 [(0,true),(1,true),(2,true),(3,true),(4,true),(5,true),(6,true),(7,true),(8,true),(9,true),(10,true),(11,true),(12,true),(13,true),(14,true),(15,true),(16,true),(17,false),(18,false)] [19,20,21] No zk fun w1 X b0=> ?_
 have o:=o.gb X
 refine wd_p gc rfl (j5 gc rfl rfl (fun w' f=>Bb y f id) ?_)
 refine wd_p gc rfl (j5 gc rfl rfl (fun w' f=>Bb y f id) ?_)
 refine wd_p gc rfl (j5 gc rfl rfl (fun w' f=>Bb y f id) ?_)
 refine wd_p gc rfl (zq4 gc rfl rfl 0 s.waits.length s.waits.length 64 rfl (.inl ⟨rfl,rfl⟩) (.inl rfl) (.inr ⟨rfl,rfl⟩) zo zo (by simpa using hc) ?_)
 refine qi gc rfl rfl (fun w' f=>(hb1.ga f).ki) (by simp[ge,hb64]) ?_
 refine jg rfl (qc gc rfl 64 rfl z29 (ko zeros_length) zd zd ⟨⟨ko hb64,by decide⟩,trivial⟩ (l':=ge b) ?_ fun a9 w2 ax aa Y b4=>⟨X.gb Y,?_⟩)
 ·simp only[xh,jf]
  rw[Nat.zero_mul,A7]
  rw[ub,ko hb64,ko zeros_length]
 have o:=o.gb Y
 have G:=X.gb Y
 have ab:Sl w2 (u1 p 0 s.waits.length 64) (s.waits.length-0) 64 (bl s.waits).flatten:=by rw[kc];exact aq.ga G
 have ac:Src prog w2 64 (.slice (some ⟨a9,0,none⟩) 1 1) 1 (ge b):=Src.slice ⟨by rw[ko hb64],.inr ⟨a9,0,rfl,aa.ki⟩⟩ yz
 refine jg rfl (st_appG gc rfl 64 64 rfl rfl (by rw[z29];exact ko zeros_length) zd ab ac zm zn zn fun z c3 Z ad H a0=>⟨G.gb a0,?_⟩)
 have H:Own Z (some ⟨z,0,none⟩) (s.waits.length+1) c3 165 64 ((bl s.waits).flatten++ge b):=H
 have ae:=Nat.le_trans o.size ad
 have o:=o.gb a0
 have k:=G.gb a0
 have q:=a6.ga k
 have O:=h.ga k
 have af:y6 Z F D.secs L:=E.ext k fun _ _ _=>id
 have ag:=x8 hu
 refine jj (wb rfl (D5 gc rfl rfl rfl (wb rfl (D5 gc rfl rfl rfl (wb rfl (qz gc q rfl rfl (by show i*65+64<_;rw[ag];have:=Nat.mul_le_mul_right 65 a7;omega) fun w4 P A b5=> ?_))))))
 have P:gz w4 sb 218 (Vc.put L.flatten (i*65+64) [Value.slice (some ⟨z,0,none⟩) (s.waits.length+1) c3]):=P
 rw[zx7 hu hr _ zp] at P
 have o:Ext F w w4:=o.trans A fun x a e=>by rw[e];exact h.own.2.1
 have ah:d≠sb:=(O.head.ne q zd)
 have g:=O.head.gk A ah
 have I:Own w4 op D.order.length oc 3 1 (Bm D.order):=O.order.ext A fun x a e=>(Own.ty O.order a).ne q zd e
 have U:=(hb2.ga k).gk A fun e=>hF3.2.1 (e▸h.own.2.1)
 have ai:=(hb3.ga k).gk A fun e=>hF3.2.2 (e▸h.own.2.1)
 have V:∀x,jd op x→b2≠x:=fun x a e=>hF3.2.1 (e▸h.own.2.2 x a)
 have aj:∀x,jd op x→b3≠x:=fun x a e=>hF3.2.2 (e▸h.own.2.2 x a)
 have W:∀x,jd op x→d≠x:=fun x a e=>(Own.ty O.order a).ne O.head zd e.symm
 refine j9 (gy (jt rfl 8 [(0,true),(1,true),(2,true),(3,true),(4,true),(5,true),(6,false),(7,false)] [8,9,10] (jd op) zk fun w5 a1 b6=> ?_))
 have o:=o.gb a1
 refine j5 gc rfl rfl (fun w' f=>(U.ext f fun e=>V _ e rfl).cell rfl) ?_
 refine j5 gc rfl rfl (fun w' f=>(U.ext f fun e=>V _ e rfl).cell rfl) ?_
 refine wd_p gc rfl (j5 gc rfl rfl (fun w' f=>(g.ext f fun e=>W _ e rfl).cell rfl) ?_)
 refine j5 gc rfl rfl (fun w' f=>(ai.ext f fun e=>aj _ e rfl).cell rfl) ?_
 refine jg rfl (qc gc rfl 1 rfl rfl rfl zd zd ⟨⟨rfl,by decide⟩,trivial⟩ (l':=[.int .i64 (i:Int)]) rfl fun ak w6 ay al a2 b7=>⟨(a1.gb a2).no,?_⟩)
 have o:=o.gb a2
 have n:=a1.gb a2
 have I:=I.ext n fun _ _=>id
 have a3:Src prog w6 1 (.slice (some ⟨ak,0,none⟩) 1 1) 1 [.int .i64 (i:Int)]:=Src.slice ⟨rfl,.inr ⟨ak,0,rfl,al.ki⟩⟩ (fun v hv=>by simp at hv;subst hv;rfl)
 have b8:=hok.few
 refine jg rfl (uc gc rfl 1 8 rfl rfl rfl zd I a3 zm zn fun p7 c7 w7 Q J ar=>⟨n.no.then J,?_⟩)
 have Q:Own w7 p7 (D.order.length+1) c7 3 1 (Bm D.order++[.int .i64 (i:Int)]):=Q
 have o:Ext F w w7:=o.trans J fun x a e=>h.own.2.2 x e
 have g:=(g.ga n).ext J fun e=>W _ e rfl
 have R:=g
 refine jj (wb rfl (D5 gc rfl rfl rfl (wb rfl (D5 gc rfl rfl rfl (wb rfl (xr gc g rfl rfl rfl fun w8 g S b9=> ?_))))))
 have o:Ext F w w8:=o.trans S fun x a e=>by rw[e];exact h.own.1
 refine j9 (ye rfl ?_)
 refine⟨p7,c7,?_,o⟩
 have am:sb≠d:=ah.symm
 have an:∀x,jd op x→sb≠x:=fun x a e=>(Own.ty O.order a).ne q zd e.symm
 -- what has turned since Z
 have K:Ext (fun x=>x=sb∨jd op x∨x=d) Z w8:=
  ((A.mono fun _ _ e=> .inl e).gb n).then ((J.mono fun _ _ e=> .inr (.inl e)).then (S.mono fun _ _ e=> .inr (.inr e)))
 have M:∀x,TyB Z x 165→¬(x=sb∨jd op x∨x=d):=fun x a e=>by
  rcases e with e|e|e
  ·exact a.ne q zd e
  ·obtain⟨l,hl⟩:=Own.ty O.order e
   exact a.ne hl zd rfl
  exact a.ne O.head zd e
 have au:gz w8 sb 218 (L.set i (Vc.put r 64 [Value.slice (some ⟨z,0,none⟩) (s.waits.length+1) c3])).flatten:=
  ((P.ga n).ext J fun e=>an _ e rfl).gk S am
 have N:=Q.ext S fun x a e=>(Own.ty Q a).ne R zd e
 have a4:TyB Z z 165:=Own.ty H rfl
 have a5:Vc.put r 64 [Value.slice (some ⟨z,0,none⟩) (s.waits.length+1) c3]=qm s.safe (some ⟨z,0,none⟩) (s.waits.length+1) c3:=by
  rw[T,put_eq _ _ _ (by simp[qm,ge,C])]
  have e1:(qm s.safe p s.waits.length c).take 64=ge s.safe:=by
   unfold qm;rw[List.take_append_of_le_length (by simp[ge,C]),List.take_of_length_le (by simp[ge,C])]
  rw[e1,List.drop_eq_nil_of_le (by simp[qm,ge,C])]
  simp[qm]
 refine⟨?_,⟨_,au,?_,?_⟩,?_,⟨.inl h.own.1,.inl h.own.2.1,fun x a=> ?_⟩,fun x a=> ?_⟩
 ·have e:(D.put i b).secs.length=D.secs.length:=by simp[kg.put]
  have e2:(D.put i b).order.length=D.order.length+1:=by simp[kg.put]
  rw[e,e2]
  exact g
 ·simp[kg.put,E.1]
 ·intro j s' r' u B
  simp only[kg.put,List.getElem?_modify] at u
  rw[List.getElem?_set] at B
  by_cases hij:i=j
  ·subst hij
   rw[if_pos rfl,if_pos a7] at B
   rw[hs] at u
   simp at u B
   subst u
   rw[a5] at B
   subst B
   refine⟨some ⟨z,0,none⟩,c3,?_,?_,C,?_,?_,?_⟩
   ·simp[B7]
   ·have:=H.cap
    simp only[B7,List.length_append,List.length_singleton]
    omega
   ·intro x a
    simp only[B7,List.mem_append,List.mem_singleton] at a
    rcases a with a|rfl
    ·exact a8 x a
    exact hb64
   ·have e3:=H.sl.ext K fun x av hp=>by
     simp only[Option.some.injEq,Addr.mk.injEq] at hp
     rw[←hp.1]
     exact M _ a4
    have e4:(bl (B7 b s).waits).flatten=(bl s.waits).flatten++ge b:=by simp[bl,B7]
    rw[e4]
    simpa [B7] using e3
   intro x av hp
   simp only[Option.some.injEq,Addr.mk.injEq] at hp
   rw[←hp.1]
   have h8:=a4.ext K (M _ a4)
   obtain⟨l,hl⟩:=h8
   exact⟨.inr ⟨ae,hl.lt⟩,l,hl⟩
  rw[if_neg hij] at B
  have ao:D.secs[j]? =some s':=by
   cases hj:D.secs[j]? with
   |none=>rw[hj] at u;simp at u
   |some t=>rw[hj] at u;simpa [hij] using u
  exact((af.2 j s' r' ao B).ext K fun x _ a=>M x a).mono fun x a=> .inl a
 ·have e2:(D.put i b).order.length=D.order.length+1:=by simp[kg.put]
  rw[e2]
  simpa [kg.put,Bm] using N
 ·rcases ar x a with ap|ap
  ·exact .inl (h.own.2.2 x ap)
  refine .inr ⟨?_,N.lt a⟩
  have:=(k.gb (Ext.refl No Z)).size
  have:=A.size
  have:=n.size
  omega
 rcases a with a|a
 ·exact Nat.lt_of_lt_of_le (h.lt x a) o.size
 exact a.2
def At (w:World) (d:Nat) (F:Nat→Prop) (D:kg):Prop:=∃sb op oc,vq w d sb op oc F D
theorem vq.mono {F F':Nat→Prop} {w:World} {d sb oc:Nat} {op:Option Addr} {D:kg} (h:vq w d sb op oc F D) (hF:∀x,F x→F' x) (hlt:∀x,F' x→x<w.heap.size):vq w d sb op oc F' D:=by
 obtain⟨L,a,b⟩:=h.secs
 exact⟨h.head,⟨L,a,b.mono hF⟩,h.order,⟨hF _ h.own.1,hF _ h.own.2.1,fun x c=>hF _ (h.own.2.2 x c)⟩,hlt⟩
theorem vq.grow {F:Nat→Prop} {w w':World} {d sb oc:Nat} {op:Option Addr} {D:kg} (h:vq w' d sb op oc F D):vq w' d sb op oc (Grow F w w') D:=
 h.mono (fun _=> .inl) fun x hx=>hx.elim (h.lt x) fun hx=>hx.2
theorem At.ext {S F:Nat→Prop} {w w':World} {d:Nat} {D:kg} (h:At w d F D) (hE:Ext S w w') (hS:∀x,F x→¬S x):At w' d F D:=let⟨sb,op,oc,h⟩:=h;⟨sb,op,oc,h.ext hE hS⟩
theorem At.ga {F:Nat→Prop} {w w':World} {d:Nat} {D:kg} (h:At w d F D) (hE:Ext No w w'):At w' d F D:=let⟨sb,op,oc,h⟩:=h;⟨sb,op,oc,h.ga hE⟩
theorem At.lt {F:Nat→Prop} {w:World} {d:Nat} {D:kg} (h:At w d F D):∀x,F x→x<w.heap.size:=let⟨_,_,_,h⟩:=h;h.lt
theorem At.own {F:Nat→Prop} {w:World} {d:Nat} {D:kg} (h:At w d F D):F d:=let⟨_,_,_,h⟩:=h;h.own.1
theorem Grow.wide {F:Nat→Prop} {w0 w w' w1:World} (h0:w0.heap.size≤w.heap.size) (h1:w'.heap.size≤w1.heap.size) {x:Nat} (h:Grow F w w' x):Grow F w0 w1 x:=
 h.imp id fun h=>⟨Nat.le_trans h0 h.1,Nat.lt_of_lt_of_le h.2 h1⟩
theorem cells_num (b:Bytes):cellsOf (xz8 b)=ge b:=by simp[ge,jf]
theorem dk_write (w:World) {d m:Nat} {F:Nat→Prop} {D:kg} (h:At w d F D) (hok:D.Ok m) (hm:m+1<1000000000) (i:Int) {b:Bytes} (hb:b.length=64):
  gp prog 143 [.pointer (some ⟨d,0,none⟩),.int .i64 i,xz8 b] w fun v w'=>v= .int .i64 (D.write i b).2∧At w' d (Grow F w w') (D.write i b).1∧Ext F w w':=by
 obtain⟨sb,op,oc,h⟩:=h
 refine gh func143 rfl rfl rfl rfl ?_
 have hX:=Ext.refl F w
 refine kz (gw rfl fun b3 w1 hn3 hb3 hE1=> ?_)
 have fr3:=Nat.le_trans hX.size hn3
 have hX:=hX.gb hE1
 refine gw rfl fun b4 w2 hn4 hb4 hE2=> ?_
 have ne3_4:b3≠b4:=Nat.ne_of_lt (Nat.lt_of_lt_of_le hb3.lt hn4)
 have fr4:=Nat.le_trans hX.size hn4
 have hb3:=hb3.ga hE2
 have hX:=hX.gb hE2
 refine gw rfl fun b5 w3 hn5 hb5 hE3=> ?_
 have fr5:=Nat.le_trans hX.size hn5
 have hb3:=hb3.ga hE3
 have hb4:=hb4.ga hE3
 have hX:=hX.gb hE3
 have hF:∀x,w.heap.size≤x→¬F x:=fun x hx e=>by have:=h.lt x e;omega
 have h:=((h.ga hE1).ga hE2).ga hE3
 have hb5:gz w3 b5 165 (ge b):=by rw[←cells_num];exact hb5
 have hop:=zq8 w3 i true call188 h.head hok.fuse hok.fault ⟨hok.done.1,by have:=hok.done.2;omega⟩
  (fun v w'=>v= .int .i64 (D.write i b).2∧At w' d (Grow F w w') (D.write i b).1∧Ext F w w') (caps:= #[.pointer (some ⟨b5,0,none⟩),.pointer (some ⟨b3,0,none⟩),.pointer (some ⟨b4,0,none⟩)])
  (fun hd=> ?_) (fun hd hi=> ?_) (fun hd hi hf w' hb' hE=> ?_) (fun hd hi hf hbu hfu w' hb' hE=> ?_) (fun hd hi hf hbu w' hb' hE=> ?_)
 ·refine ju rfl (kz (jb hb3 rfl rfl (jb hb4 rfl rfl (j7 gc rfl (gi call149 rfl hop fun v4 w4 hr4=> ?_)))))
  obtain⟨rfl,hr4⟩:=hr4
  refine ju rfl (gr (gv rfl rfl ?_))
  exact⟨rfl,hr4⟩
 ·have e:D.write i b=(D,9):=by simp[kg.write,kg.begin,hd]
  rw[e]
  exact⟨rfl,⟨_,_,_,h.grow⟩,hX⟩
 ·have e:D.write i b=(D,2):=by simp[kg.write,kg.begin,hd,hi]
  rw[e]
  exact⟨rfl,⟨_,_,_,h.grow⟩,hX⟩
 ·have e:D.write i b=({D with fault:= -1},8):=by simp[kg.write,kg.begin,hd,hi,hf]
  rw[e]
  have h':=h.zw2 (D':={D with fault:= -1}) rfl rfl (by rw[hd];exact hb') hE
  exact⟨rfl,⟨_,_,_,h'.grow⟩,hX.trans hE fun x _ e=>e▸h.own.1⟩
 ·have e:D.write i b=({D with fault:=uo D.fault,fuse:= -1,dead:=true},9):=by simp[kg.write,kg.begin,hd,hi,hf,hfu]
  rw[e]
  have h':=h.zw2 (D':={D with fault:=uo D.fault,fuse:= -1,dead:=true}) rfl rfl hb' hE
  exact⟨rfl,⟨_,_,_,h'.grow⟩,hX.trans hE fun x _ e=>e▸h.own.1⟩
 have hbu':¬(D.fuse=0):=fun e=>hbu ⟨rfl,e⟩
 have e0:D.begin i true=({D with fault:=uo D.fault,fuse:=yj true D.fuse,done:=D.done+1},0):=by simp[kg.begin,hd,hi,hf,hbu']
 have e:D.write i b=(({D with fault:=uo D.fault,fuse:=yj true D.fuse,done:=D.done+1}:kg).put i.toNat b,0):=by
  simp only[kg.write,e0,if_true]
 rw[e]
 have h':=h.zw2 (D':={D with fault:=uo D.fault,fuse:=yj true D.fuse,done:=D.done+1}) rfl rfl (by rw[hd];exact hb') hE
 have hok':=hok.begin i true
 rw[e0] at hok'
 have nd:∀x,w.heap.size≤x→x≠d:=fun x hx e=>hF x hx (e▸h.own.1)
 have hi':(i.toNat:Int)=i:=by omega
 refine(dk_writeIn w' h' hok' zo (i:=i.toNat) (by simp only;omega) hb (hb5.gk hE (nd _ fr5)) (hb3.gk hE (nd _ fr3)) (by rw[hi'];exact hb4.gk hE (nd _ fr4)) ⟨hF _ fr5,hF _ fr3,hF _ fr4⟩).mono fun v w2 ⟨op',oc',h2,hE2⟩=> ?_
 have hXw:Ext F w w':=hX.trans hE fun x _ e=>e▸h.own.1
 refine⟨rfl,⟨_,_,_,h2.mono (fun x hx=>hx.wide hXw.size (Nat.le_refl _)) fun x hx=> ?_⟩,hXw.trans hE2 fun x _=>id⟩
 exact hx.elim (fun hx=>h2.lt x (.inl hx)) fun hx=>hx.2
theorem y6.modify {w:World} {F:Nat→Prop} {secs:List Sec} {L:List (List Value)} (h:y6 w F secs L) {k:Nat} {f:Sec→Sec} {r:List Value} (hr:∀s,secs[k]? =some s→yq0 w F (f s) r):y6 w F (secs.modify k f) (L.set k r):=by
 refine⟨by simp[h.1],fun j s x a b=> ?_⟩
 rw[List.getElem?_modify] at a
 rw[List.getElem?_set] at b
 by_cases hkj:k=j
 ·subst hkj
  rw[if_pos rfl] at b
  split at b
  ·simp at b
   subst b
   cases hk:secs[k]? with
   |none=>rw[hk] at a;simp at a
   |some t=>
    rw[hk] at a
    simp at a
    subst a
    exact hr t hk
  cases b
 rw[if_neg hkj] at b
 cases hk:secs[j]? with
 |none=>rw[hk] at a;simp at a
 |some t=>
  rw[hk] at a
  simp[hkj] at a
  subst a
  exact h.2 j t x hk b
theorem dk_settle (w:World) {d m:Nat} {F:Nat→Prop} {D:kg} (h:At w d F D) (hok:D.Ok m) (hm:m<1000000000) (lives:Nat→Bool) {g:Nat} {caps:Array Value}
  (hcf:∀args w,(callFunc g args).run prog w= .ok (.enter g args) w)
  (hl:∀w1 (i:Nat),i<D.order.length→Ext F w w1→gp prog g ([.int .i64 (i:Int)]++caps.toList) w1 fun v w2=>v= .bool (lives i)∧Ext No w1 w2):
  gp prog 126 [.pointer (some ⟨d,0,none⟩),.func (.func g) #[] caps] w fun _ w'=>At w' d F (D.settle lives)∧Ext F w w':=by
 obtain⟨V,op,oc,h⟩:=h
 have ax:=hok.size
 have b6:=hok.few
 refine gh func126 rfl rfl rfl rfl ?_
 refine c_scopeJ (α:=Nat×List Sec) 0 rfl
  (fun z u=>z.1≤D.order.length∧z.2.length=D.secs.length∧(∀k s,z.2[k]? =some s→s.waits.length=(D.order.drop z.1).count k)∧A5 lives (D.order.drop z.1) z.1 z.2=A5 lives D.order 0 D.secs∧
   (∃L,gz u V 218 (List.flatten L)∧y6 u F z.2 L)∧gz u d 153 (dskL V D.secs.length op D.order.length oc D.dead D.fuse D.fault D.done)∧Own u op D.order.length oc 3 1 (Bm D.order)∧Ext F w u)
  (fun z=>[(0,.pointer (some ⟨d,0,none⟩)),(1,.func (.func g) #[] caps),(4,.int .i64 (z.1:Int))]) (fun z _=>D.order.length-z.1) ?_ ?_
 ·refine yu rfl (gn ?_)
  refine f_first (0,D.secs) rfl ⟨Nat.zero_le _,rfl,fun k s hs=>hok.count k s hs,rfl,h.secs,h.head,h.order,Ext.refl F w⟩
 rintro⟨i,K⟩ u ⟨hi,aj,H,O,⟨L,q,S⟩,j,P,hX⟩
 dsimp only at hi aj H O S⊢
 have ad:∀x,TyB u x 165→x≠V:=fun x T=>T.ne q zd
 refine gl (km rfl (jb j rfl rfl (ju rfl (jp rfl (fun hc=> ?_) (fun hc=> ?_)))))
 ·have a5:i<D.order.length:=by omega
  have hk:D.order[i]? =some D.order[i]:=by simp[a5]
  generalize hkk:D.order[i]=k at hk
  have ak:k<D.secs.length:=hok.inside k (List.mem_of_getElem? hk)
  obtain⟨b0,aa,X,al⟩:=P.sl.2.resolve_left zo
  have a6:u.cell? ⟨b0,aa+i,none⟩=some (.int .i64 (k:Int)):=al i _ (by simp[Bm,hk])
  have ay:op=some ⟨b0,0,none⟩∧aa=0:=by
   rcases P with⟨hp,_⟩|⟨b,l,hp,_⟩
   ·rw[hp] at X;cases X
   rw[hp] at X;simp at X;obtain⟨rfl,rfl⟩:=X;exact⟨hp,rfl⟩
  obtain⟨am,rfl⟩:=ay
  subst am
  have Y:K[k]? =some (K[k]'zo):=by simp[show k<K.length by omega]
  generalize hss:K[k]'zo=s at Y
  have M:D.order.drop i=k::D.order.drop (i+1):=by
   rw[List.drop_eq_getElem_cons a5,hkk]
  have Q:=H k s Y
  rw[M,List.count_cons_self] at Q
  have an:k<L.length:=by rw[S.1];omega
  have hr:L[k]? =some L[k]:=by simp
  generalize hrd:L[k]=r at hr
  have ao:=S.2 k s r Y hr
  obtain⟨p,c,Z,ab,a7,a0,ap,aq⟩:=ao
  have hu:=S.uni
  have y:u.cell? ⟨V,k*65+64,none⟩=some (.slice p s.waits.length c):=by
   refine q.cell ?_
   rw[yx8 hu hr zd,Z]
   simp[qm,ge,a7]
  obtain⟨o,f,hp,ae⟩:=ap.2.resolve_left zo
  subst hp
  obtain⟨f0,I,a⟩:∃f0 I,s.waits=f0::I:=by
   cases hww:s.waits with
   |nil=>rw[hww] at Q;simp at Q
   |cons f0 I=>exact⟨f0,I,rfl⟩
  have A:f0.length=64:=a0 f0 (by rw[a];simp)
  have B:Seg u o f (ge f0):=by
   have:=ae.take 64
   rw[a] at this
   simpa [bl,ge,A] using this
  have af:=x8 hu
  have b7:=Nat.mul_le_mul_right 65 (Nat.succ_le_of_lt an)
  refine gl ?_
  refine jt rfl 13 [(0,true),(1,true),(2,true),(3,true),(4,true),(5,true),(6,true),(7,true),(8,true),(9,true),(10,true),(11,true),(12,true)] [] No zk fun w1 C az=> ?_
  refine wd_p gc rfl (j5 gc rfl rfl (fun w' a1=>(j.ga a1).cell rfl) ?_)
  refine wd_p gc rfl (j5 gc rfl rfl (fun w' a1=>(j.ga a1).cell rfl) ?_)
  refine wd_p gc rfl (qs gc rfl rfl 1 rfl i rfl a5 (0+i) zo (j5 gc rfl rfl (fun w' a1=>Bb a6 a1 id) ?_))
  refine qs gc rfl rfl 65 rfl k rfl ak (0+k*65) zo (wd_p gc rfl (jj (j9 (gy ?_))))
  rw[Nat.zero_add]
  have ac:=q
  have b1:=hX
  have q:=q.ga C
  have y:=Bb y C id
  have B:=B.ga C
  have hX:=hX.gb C
  have a2:TyB u o 165:=(aq o f rfl).2
  have ar:F V:=h.own.2.1
  refine jv (α:=Unit) [0,1,4,5] rfl (fun z=>[]) (fun z u'=>gz u' V 218 (L.set k (qm (ug (lives i) s).safe (some ⟨o,f,none⟩) s.waits.length c)).flatten∧Ext (Vc.One V) u u') ?_ ?_
  ·refine gl ?_
   refine yu rfl (gi hcf rfl (hl w1 i a5 hX) fun v2 w2 a8=> ?_)
   obtain⟨rfl,N⟩:=a8
   have q:=q.ga N
   have y:=Bb y N id
   have B:=B.ga N
   refine ql (vh rfl (fun hc=> ?_) (fun hc=> ?_))
   ·refine j1 ?_
    refine j7 gc rfl (j0 rfl y (ka rfl 64 rfl 0 rfl zo f zo (jo rfl B (by simp[ge,A]) ?_)))
    refine j7 gc rfl (wl (zx5 gc q rfl (by rw[jf];simp[ge,A]) (by rw[af];show k*65+64≤_;omega) (by rw[jf];exact yz) fun w3 J ag b2=> ?_))
    refine gn (j4 () rfl ⟨?_,C.no.then (N.no.then ag)⟩)
    have J:gz w3 V 218 (Vc.put L.flatten (k*65+0) (ge f0)):=by simpa using J
    rw[zx7 hu hr _ (by simp[ge,A])] at J
    have:Vc.put r 0 (ge f0)=qm (ug (lives i) s).safe (some ⟨o,f,none⟩) s.waits.length c:=by
     rw[Z,put_eq _ _ _ (by simp[qm,ge,a7,A]),hc]
     simp[qm,ge,a7,A,ug,a]
    rwa [this] at J
   refine j6 (j4 () rfl ⟨?_,C.no.then N.no⟩)
   rw[hc]
   have e:(ug false s).safe=s.safe:=rfl
   rw[e,←Z,←hrd,List.set_getElem_self]
   exact q
  rintro⟨⟩ u2 ⟨a3,N⟩
  generalize hrow2:qm (ug (lives i) s).safe (some ⟨o,f,none⟩) s.waits.length c=r2 at a3
  have E:(ug (lives i) s).safe.length=64:=by
   simp only[ug,a,List.headD_cons]
   split
   ·exact A
   exact a7
  have ah:Uni 65 (L.set k r2):=hu.set k (by rw[←hrow2];simp[qm,ge,E])
  have a8:(L.set k r2)[k]? =some r2:=by simp[an]
  have a9:u2.cell? ⟨V,k*65+64,none⟩=some (.slice (some ⟨o,f,none⟩) s.waits.length c):=by
   refine a3.cell ?_
   rw[yx8 ah a8 zd,←hrow2]
   simp[qm,ge,E]
  have R:=x8 ah
  rw[List.length_set] at R
  refine km rfl (j0 rfl a9 (wl (Ah gc rfl 1 s.waits.length c 64 rfl (.inr ⟨rfl,rfl⟩) (.inr ⟨rfl,rfl⟩) (.inl rfl) zo ab (Nat.le_refl c) (j7 gc rfl (wl (qz gc a3 rfl rfl (by show k*65+64<_;rw[R];omega) fun w3 J ag b2=> ?_))))))
  have J:gz w3 V 218 (Vc.put (L.set k r2).flatten (k*65+64) [Value.slice (u1 (some ⟨o,f,none⟩) 1 c 64) (s.waits.length-1) (c-1)]):=J
  rw[zx7 ah a8 _ zp] at J
  have G:Ext (Vc.One V) u w3:=N.then ag
  refine ql (km rfl ?_)
  rw[IntWalk.i64_in _ zo]
  refine ql (c_goto (f_thenG (f_back (i+1,K.modify k (ug (lives i))) rfl ⟨by simp only;omega,by simp only[List.length_modify];omega,?_,?_,⟨_,J,?_⟩,?_,?_,?_⟩ ?_)))
  ·intro k' s' n
   simp only[List.getElem?_modify] at n
   by_cases hkk':k=k'
   ·subst hkk'
    rw[Y] at n
    simp at n
    subst n
    simp only[ug,a,List.tail_cons]
    rw[a,List.length_cons] at Q
    omega
   cases hck:K[k']? with
   |none=>rw[hck] at n;simp at n
   |some t=>
    rw[hck] at n
    simp[hkk'] at n
    subst n
    have:=H k' t hck
    rw[M,List.count_cons_of_ne hkk'] at this
    exact this
  ·rw[←O,M];rfl
  ·have au:y6 w3 F K L:=S.ext G fun x _ T=>ad x T
   dsimp only
   rw[List.set_set]
   refine y6.modify au fun s' n=> ?_
   rw[Y] at n
   simp at n
   subst n
   have a4:∀b U,u1 (some ⟨o,f,none⟩) 1 c 64=some ⟨b,U,none⟩→b=o:=by
    intro b U W
    unfold u1 at W
    split at W
    ·simp at W;exact W.1.symm
    simp[addr_add] at W;exact W.1.symm
   have av:=(ap.slice 1 s.waits.length c zo ab (Nat.le_refl _)).ext G fun b U W=>by
    rw[a4 b U W]
    exact ad _ a2
   refine⟨u1 (some ⟨o,f,none⟩) 1 c 64,c-1,?_,?_,E,?_,?_,?_⟩
   ·rw[←hrow2,put_eq _ _ _ (by simp[qm,ge,E])]
    have e1:(qm (ug (lives i) s).safe (some ⟨o,f,none⟩) s.waits.length c).take 64=ge (ug (lives i) s).safe:=by
     unfold qm;rw[List.take_append_of_le_length (by simp[ge,E]),List.take_of_length_le (by simp[ge,E])]
    rw[e1,List.drop_eq_nil_of_le (by simp[qm,ge,E])]
    simp[qm,ug]
   ·simp[ug];omega
   ·intro b W
    exact a0 b (List.mem_of_mem_tail W)
   ·have e1:(ug (lives i) s).waits.length=s.waits.length-1:=by simp[ug]
    have e2:(bl (ug (lives i) s).waits).flatten=((bl s.waits).flatten.drop (1*64)).take ((s.waits.length-1)*64):=by
     have b3:Uni 64 (bl s.waits):=Uni.map fun x T=>by simp[ge,a0 x T]
     rw[rows_sub b3]
     congr 1
     rw[List.take_of_length_le (by simp[bl])]
     simp[ug,bl,a]
    rw[e1,e2]
    exact av
   intro b U W
   have:=a4 b U W
   subst this
   exact⟨(aq b f rfl).1,a2.ext G (ad _ a2)⟩
  ·exact j.gk G (j.ne ac zd)
  ·exact P.ext G fun x T e=>(Own.ty P T).ne ac zd e
  ·exact b1.trans G fun x _ e=>e▸ar
  simp only;omega
 have b4:i=D.order.length:=by omega
 subst b4
 rw[List.drop_length] at O
 refine j6 (gy (yu rfl (ky j rfl rfl rfl fun w1 b5 C az=> ?_)))
 refine gn (f_jumpN (ye rfl ?_))
 have aw:F d:=h.own.1
 have ai:K=A5 lives D.order 0 D.secs:=O
 refine⟨⟨V,none,0,?_,⟨L,q.gk C (q.ne j zd),?_⟩,.inl ⟨rfl,rfl,rfl,rfl⟩,⟨aw,h.own.2.1,fun x T=>by cases T⟩,?_⟩,hX.trans C fun x _ e=>e▸aw⟩
 ·simp only[kg.settle,A6]
  exact b5
 ·simp only[kg.settle]
  rw[←ai]
  exact S.ext C fun x _ T e=>T.ne j zd e
 intro x T
 have:=hX.size
 have:=C.size
 have:=h.lt x T
 omega
theorem dk_yes (w:World) (i:Nat):gp prog 190 ([.int .i64 (i:Int)]++(#[]:Array Value).toList) w fun v w'=>v= .bool true∧Ext No w w':=by
 refine gh func190 rfl rfl rfl rfl ?_
 refine jc rfl (jc rfl (gr (gv rfl rfl ?_)))
 exact⟨rfl,Ext.refl _ _⟩
theorem dk_sync (w:World) {d m:Nat} {F:Nat→Prop} {D:kg} (h:At w d F D) (hok:D.Ok m) (hm:m+1<1000000000):
  gp prog 144 [.pointer (some ⟨d,0,none⟩)] w fun v w'=>v= .int .i64 D.sync.2∧At w' d F D.sync.1∧Ext F w w':=by
 obtain⟨sb,op,oc,h⟩:=h
 refine gh func144 rfl rfl rfl rfl ?_
 have hX:=Ext.refl F w
 refine kz (gw rfl fun b1 w1 hn1 hb1 hE1=> ?_)
 have fr1:=Nat.le_trans hX.size hn1
 have hX:=hX.gb hE1
 have hF1:¬F b1:=fun e=>by have:=h.lt b1 e;omega
 have h:=h.ga hE1
 have hsz:=hok.size
 have hop:=zq8 w1 0 true call189 h.head hok.fuse hok.fault ⟨hok.done.1,by have:=hok.done.2;omega⟩
  (fun v w'=>v= .int .i64 D.sync.2∧At w' d F D.sync.1∧Ext F w w') (caps:= #[.pointer (some ⟨b1,0,none⟩)])
  (fun hd=> ?_) (fun hd hi=> ?_) (fun hd hi hf w' hb' hE=> ?_) (fun hd hi hf hbu hfu w' hb' hE=> ?_) (fun hd hi hf hbu w' hb' hE=> ?_)
 ·refine ju rfl (kz (jb hb1 rfl rfl (j7 gc rfl (gi call149 rfl hop fun v2 w2 hr2=> ?_))))
  obtain⟨rfl,hr2⟩:=hr2
  refine ju rfl (gr (gv rfl rfl ?_))
  exact⟨rfl,hr2⟩
 ·have e:D.sync=(D,9):=by simp[kg.sync,kg.begin,hd]
  rw[e]
  exact⟨rfl,⟨_,_,_,h⟩,hX⟩
 ·exact absurd zo hi
 ·have hi':(0:Int)≤0∧(0:Int)<D.secs.length:=hi
  have e:D.sync=({D with fault:= -1},8):=by simp[kg.sync,kg.begin,hd,hf,show 0<D.secs.length by omega]
  rw[e]
  have h':=h.zw2 (D':={D with fault:= -1}) rfl rfl (by rw[hd];exact hb') hE
  exact⟨rfl,⟨_,_,_,h'⟩,hX.trans hE fun x _ e=>e▸h.own.1⟩
 ·have e:D.sync=({D with fault:=uo D.fault,fuse:= -1,dead:=true},9):=by simp[kg.sync,kg.begin,hd,hf,hfu,show 0<D.secs.length by omega]
  rw[e]
  have h':=h.zw2 (D':={D with fault:=uo D.fault,fuse:= -1,dead:=true}) rfl rfl hb' hE
  exact⟨rfl,⟨_,_,_,h'⟩,hX.trans hE fun x _ e=>e▸h.own.1⟩
 have hbu':¬(D.fuse=0):=fun e=>hbu ⟨rfl,e⟩
 have e0:D.begin 0 true=({D with fault:=uo D.fault,fuse:=yj true D.fuse,done:=D.done+1},0):=by simp[kg.begin,hd,hf,hbu',show 0<D.secs.length by omega]
 have e:D.sync=(({D with fault:=uo D.fault,fuse:=yj true D.fuse,done:=D.done+1}:kg).settle fun _=>true,0):=by
  simp only[kg.sync,e0,if_true]
 rw[e]
 have h':=h.zw2 (D':={D with fault:=uo D.fault,fuse:=yj true D.fuse,done:=D.done+1}) rfl rfl (by rw[hd];exact hb') hE
 have hok':=hok.begin 0 true
 rw[e0] at hok'
 have hXw:Ext F w w':=hX.trans hE fun x _ e=>e▸h.own.1
 have hb1:=hb1.gk hE fun e=>hF1 (e▸h.own.1)
 refine gh func189 rfl rfl rfl rfl ?_
 refine j1 (jb hb1 rfl rfl (gi call126 rfl (dk_settle w' ⟨_,_,_,h'⟩ hok' zo (fun _=>true) (caps:= #[]) call190 fun w1 i _ _=>dk_yes w1 i) fun v1 w2 hr1=> ?_))
 refine gn (ye rfl ?_)
 exact⟨rfl,hr1.1,hXw.trans hr1.2 fun x _=>id⟩
theorem dk_keep (w:World) {b3 n c:Nat} {kp:Option Addr} {keep:List Bool} (hb3:gz w b3 74 [.slice kp n c]) (hn:keep.length=n) (hk:Sl w kp n 1 (keep.map Value.bool)) (i:Nat):
  gp prog 127 ([.int .i64 (i:Int)]++(#[.pointer (some ⟨b3,0,none⟩)]:Array Value).toList) w fun v w'=>v= .bool (zj8 keep i)∧Ext No w w':=by
 refine gh func127 rfl rfl rfl rfl ?_
 refine jc rfl (jv (α:=Bool) [] rfl (fun z=>[(3,.bool z)]) (fun z u=>u=w∧z=zj8 keep i) ?_ ?_)
 ·refine j1 ?_
  refine j7 gc rfl (jb hb3 rfl rfl (j7 gc rfl (jl 8 rfl (fun f=> ?_) (fun f=> ?_))))
  ·refine jb hb3 rfl rfl ?_
   obtain⟨g,a,rfl,d⟩:=hk.2.resolve_left zo
   have e:i<keep.length:=by omega
   have b:w.cell? ⟨g,a+i,none⟩=some (.bool keep[i]):=d i _ (by simp[e])
   refine yx9 gc rfl (ka rfl 1 rfl i rfl zo (a+i) zo (j0 rfl b (yx9 gc rfl (gn ?_))))
   exact j4 _ rfl ⟨rfl,by simp[zj8,e]⟩
  refine yx9 gc rfl ?_
  refine gn ?_
  have e:keep.length≤i:=by omega
  exact j4 _ rfl ⟨rfl,by simp[zj8,e]⟩
 rintro z w ⟨rfl,rfl⟩
 exact gr (gv rfl rfl ⟨rfl,Ext.refl _ _⟩)
theorem dk_crash (w:World) {d m:Nat} {F:Nat→Prop} {D:kg} (h:At w d F D) (hok:D.Ok m) (hm:m<1000000000) {n c:Nat} {kp:Option Addr} {keep:List Bool} (hn:keep.length=n) (hk:Sl w kp n 1 (keep.map Value.bool)) (hkF:∀b off,kp=some ⟨b,off,none⟩→¬F b):
  gp prog 46 [.pointer (some ⟨d,0,none⟩),.slice kp n c] w fun v w'=>v= .int .i64 0∧At w' d F (D.D3 keep)∧Ext F w w':=by
 refine gh func46 rfl rfl rfl rfl ?_
 have g:=Ext.refl F w
 refine kz (gw rfl fun k A B l f=> ?_)
 have g:=g.gb f
 have o:¬F k:=fun e=>by have:=h.lt k e;omega
 have p:=h.own
 have h:=h.ga f
 have hk:=hk.ga f
 refine ju rfl (gl (jc rfl (u3 rfl ?_)))
 refine j6 ?_
 refine gy (km rfl (gi call126 rfl (dk_settle A h hok hm (zj8 keep) (caps:= #[.pointer (some ⟨k,0,none⟩)]) call127 fun y i _ j=>dk_keep y (c:=c) (l.ext j o) hn (hk.ext j hkF) i) fun K y q=> ?_))
 obtain⟨⟨C,E,G,z⟩,r⟩:=q
 have g:=g.trans r fun x _=>id
 have a:=z.head
 refine ql (km rfl (ky a rfl rfl rfl fun L a s H=> ?_))
 refine j7 gc rfl (ky a rfl rfl rfl fun M a t I=> ?_)
 refine j7 gc rfl (ky a rfl rfl rfl fun N a u J=> ?_)
 have j:=s.then (t.then u)
 refine ql (jc rfl (gr (gv rfl rfl ?_)))
 exact⟨rfl,⟨C,E,G,z.zw2 (D':=D.D3 keep) rfl rfl a j⟩,g.trans j fun x _ e=>e▸p⟩
theorem dk_dead (w:World) {d:Nat} {F:Nat→Prop} {D:kg} (h:At w d F D):
  gp prog 76 [.pointer (some ⟨d,0,none⟩)] w fun v w'=>v= .bool D.dead∧w'=w:=by
 obtain⟨b,c,e,h⟩:=h
 refine gh func76 rfl rfl rfl rfl ?_
 refine jc rfl (km rfl (gi call148 rfl (alive_live w h.head) fun f g a=> ?_))
 obtain⟨rfl,rfl⟩:=a
 refine ju rfl (gr (gv rfl rfl ?_))
 refine⟨?_,rfl⟩
 cases D.dead<;>rfl
theorem dk_ops (w:World) {d:Nat} {F:Nat→Prop} {D:kg} (h:At w d F D):
  gp prog 75 [.pointer (some ⟨d,0,none⟩)] w fun v w'=>v= .int .i64 D.done∧w'=w:=by
 obtain⟨a,b,c,h⟩:=h
 refine gh func75 rfl rfl rfl rfl ?_
 refine jc rfl (gl (jc rfl (u3 rfl ?_)))
 refine j6 (gy (km rfl (jb h.head rfl rfl (ju rfl (gr (gv rfl rfl ?_))))))
 exact⟨rfl,rfl⟩
theorem dk_len (w:World) {d:Nat} {F:Nat→Prop} {D:kg} (h:At w d F D):
  gp prog 77 [.pointer (some ⟨d,0,none⟩)] w fun v w'=>v= .int .i64 (D.secs.length:Int)∧w'=w:=by
 obtain⟨a,b,c,h⟩:=h
 refine gh func77 rfl rfl rfl rfl ?_
 refine jc rfl (gl (jc rfl (u3 rfl ?_)))
 refine j6 (gy (km rfl (jb h.head rfl rfl (ju rfl (gr (gv rfl rfl ?_))))))
 exact⟨rfl,rfl⟩
theorem vq.order_src {w:World} {d sb oc:Nat} {F:Nat→Prop} {op:Option Addr} {D:kg} (h:vq w d sb op oc F D) {w':World} (hE:Ext No w w'):Src prog w' 1 (.slice op D.order.length oc) D.order.length (Bm D.order):=
 Src.slice (h.order.sl.ga hE) fun v hv=>by
  obtain⟨x,_,rfl⟩:=List.mem_map.1 hv
  rfl
theorem zw6 (w:World) {d m:Nat} {F:Nat→Prop} {D:kg} (h:At w d F D) (hok:D.Ok m) (hm:m<1000000000):
  gp prog 74 [.pointer (some ⟨d,0,none⟩)] w fun v w'=>∃b,v= .slice (some ⟨b,0,none⟩) D.order.length D.order.length∧w.heap.size≤b∧gz w' b 3 (Bm D.order)∧Ext No w w':=by
 obtain⟨q,r,s,h⟩:=h
 have k:=hok.few
 refine gh func74 rfl rfl rfl rfl ?_
 have e:=Ext.refl No w
 refine jc rfl (gl (jc rfl (u3 rfl ?_)))
 refine j6 ?_
 refine gy (km rfl (jb h.head rfl rfl (j7 gc rfl (wl (Cg gc rfl D.order.length D.order.length 8 rfl (zs:=[.int .i64 0]) rfl rfl zd rfl rfl (Nat.le_refl _) zo zr fun f t a g i n=> ?_)))))
 have l:=h.ga i
 have e:=e.gb i
 refine ju rfl (km rfl (jb l.head rfl rfl (wl (zz7 gc rfl 1 rfl g (l.order_src (Ext.refl _ _)) (Nat.le_refl _) (by rw[ub];simp) fun o c j p=> ?_))))
 have e:=e.gj j a
 refine ql (jc rfl (gr (gv rfl rfl ?_)))
 refine⟨f,rfl,a,?_,e⟩
 have c:gz o f 3 (put (Bw D.order.length [.int .i64 0]) 0 (Bm D.order)):=c
 rwa [A7 (by rw[ub];simp[Bm])] at c
theorem fresh_rows (w:World) (F:Nat→Prop) (n:Nat):y6 w F (kg.fresh n).secs (List.replicate n (qm zeros none 0 0)):=by
 refine⟨by simp[kg.fresh],fun i s r c d=> ?_⟩
 simp only[kg.fresh] at c
 have e:=List.mem_of_getElem? c
 have f:=List.mem_of_getElem? d
 rw[List.eq_of_mem_replicate e,List.eq_of_mem_replicate f]
 refine⟨none,0,rfl,Nat.le_refl _,zeros_length,fun b a=>(by cases a),⟨rfl,.inl rfl⟩,fun b g a=>(by cases a)⟩
theorem dk_new (w:World) (n:Int):gp prog 22 [.int .i64 n] w fun v w'=>
  if 1≤n∧n≤2048 then∃d,v= .tuple #[.pointer (some ⟨d,0,none⟩),.int .i64 0]∧w.heap.size≤d∧At w' d (Grow No w w') (kg.fresh n.toNat)∧Ext No w w'
  else v= .tuple #[.pointer none,.int .i64 2]∧Ext No w w':=by
 refine gh func22 rfl rfl rfl rfl ?_
 have f:=Ext.refl No w
 refine jc rfl (gl (jv (α:=Bool) [0] rfl (fun z=>[(9,.bool z)]) (fun z u=>u=w∧z=decide (¬(1≤n∧n≤2048))) ?_ ?_))
 ·refine j1 ?_
  refine j7 gc rfl (jl 6 rfl (fun r=> ?_) (fun r=> ?_))
  ·refine yx9 gc rfl (gn (j4 _ rfl ⟨rfl,?_⟩))
   simp;omega
  refine yx9 gc rfl (gn (j4 _ rfl ⟨rfl,?_⟩))
  simp only[decide_eq_decide];omega
 rintro z w ⟨rfl,rfl⟩
 refine jp rfl (fun l=> ?_) (fun l=> ?_)
 ·refine gl ?_
  refine j1 (ju rfl (gr (gq (f_ret2 rfl rfl rfl ?_))))
  rw[if_neg l]
  exact⟨rfl,f⟩
 have s:=Decidable.not_not.1 l
 refine j6 ?_
 refine gy (km rfl (wl (Cg gc rfl n.toNat n.toNat 88 rfl (zs:=qm zeros none 0 0) (by simp[ti218,qm,zeros,ge]) rfl zd zo zo (Nat.le_refl _) zo zr fun m y g i o t=> ?_)))
 have f:=f.gb o
 refine qa rfl (by simp[C1,ti153]) rfl (gw rfl fun p A j b k=> ?_)
 have c:=Nat.le_trans f.size j
 have a:=i.ga k
 have f:=f.gb k
 refine ju rfl (gr (f_ret2 rfl rfl rfl ?_))
 rw[if_pos s]
 have e:(kg.fresh n.toNat).secs.length=n.toNat:=by simp[kg.fresh]
 refine⟨p,rfl,c,⟨m,none,0,?_,⟨_,a,fresh_rows _ _ _⟩,.inl ⟨rfl,rfl,rfl,rfl⟩,⟨.inr ⟨c,b.lt⟩,.inr ⟨g,a.lt⟩,fun x q=>(by cases q)⟩,fun x q=>q.elim False.elim fun h=>h.2⟩,f⟩
 rw[e]
 exact b
theorem flat_sec (s:Bytes) (p:Option Addr) (n c:Nat):∀u∈qm s p n c,u.oneCell'=true:=fun u hu=>by
 simp only[qm,List.mem_append,List.mem_singleton] at hu
 rcases hu with hu|rfl
 ·exact yz u hu
 rfl
theorem dk_copy (w:World) {d m:Nat} {F:Nat→Prop} {D:kg} (h:At w d F D) (hok:D.Ok m) (hm:m<1000000000):
  gp prog 41 [.pointer (some ⟨d,0,none⟩)] w fun v w'=>∃c,v= .pointer (some ⟨c,0,none⟩)∧w.heap.size≤c∧At w' c (Grow No w w') D∧Ext No w w':=by
 obtain⟨sb,op,oc,h⟩:=h
 have ca:=hok.few
 have bt:=hok.size
 refine gh func41 rfl rfl rfl rfl ?_
 have g:=Ext.refl No w
 refine jc rfl (gl (jc rfl (u3 rfl ?_)))
 refine j6 ?_
 refine gy (km rfl (jh h.head rfl rfl (gw rfl fun b3 w1 bu a bv=> ?_)))
 have a4:=Nat.le_trans g.size bu
 have g:=g.gb bv
 refine wl (j8 gc a rfl rfl rfl rfl (by simp;exact⟨rfl,rfl,rfl,rfl,rfl,rfl⟩) fun w2 a bw cg=> ?_)
 have g:=g.gj bw a4
 have h2:=h.ga g
 refine ql (km rfl (gi call74 rfl (zw6 w2 ⟨_,_,_,h2⟩ hok hm) fun v3 w3 bx=> ?_))
 obtain⟨bo,rfl,ba,f,bb⟩:=bx
 have a5:b3≠bo:=Nat.ne_of_lt (Nat.lt_of_lt_of_le a.lt ba)
 have bz:=Nat.le_trans g.size ba
 have a:=a.ga bb
 have g:=g.gb bb
 refine j7 gc rfl (ky a rfl rfl rfl fun w4 a bc ch=> ?_)
 have f:=f.gk bc a5.symm
 have g:=g.gj bc a4
 have h4:=h.ga g
 refine ql (km rfl (jb h4.head rfl rfl (j7 gc rfl (wl (Cg gc rfl D.secs.length D.secs.length 88 rfl (zs:=qm zeros none 0 0) (by simp[ti218,qm,zeros,ge]) rfl zd rfl rfl (Nat.le_refl _) zo zr fun o w5 a6 a7 ap ci=> ?_)))))
 have C:b3≠o:=Nat.ne_of_lt (Nat.lt_of_lt_of_le a.lt a6)
 have V:bo≠o:=Nat.ne_of_lt (Nat.lt_of_lt_of_le f.lt a6)
 have a8:=Nat.le_trans g.size a6
 have a:=a.ga ap
 have f:=f.ga ap
 have g:=g.gb ap
 refine j7 gc rfl (ky a rfl rfl rfl fun w6 a aq cj=> ?_)
 have a7:=a7.gk aq C.symm
 have f:=f.gk aq a5.symm
 have g:=g.gj aq a4
 have a:gz w6 b3 153 (dskL o D.secs.length (some ⟨bo,0,none⟩) D.order.length D.order.length D.dead D.fuse D.fault D.done):=a
 have h6:=h.ga g
 obtain⟨L,c1,ar⟩:=h.secs
 have hu:=ar.uni
 have c2:=x8 hu
 refine ql (gl (km rfl (jb h6.head rfl rfl (ju rfl (gu ?_)))))
 refine c_loop (α:=Nat×List Sec) (fun z u=>z.1≤D.secs.length∧z.2.length=D.secs.length∧(∀j,j<z.1→z.2[j]? =D.secs[j]?)∧Ext No w u∧
   gz u b3 153 (dskL o D.secs.length (some ⟨bo,0,none⟩) D.order.length D.order.length D.dead D.fuse D.fault D.done)∧gz u bo 3 (Bm D.order)∧∃M,gz u o 218 (List.flatten M)∧y6 u (Grow No w u) z.2 M)
  (fun z=>[(26,.int .i64 (z.1:Int)),(3,.pointer (some ⟨b3,0,none⟩)),(24,.slice (some ⟨sb,0,none⟩) D.secs.length D.secs.length),(25,.int .i64 (D.secs.length:Int))]) (fun z u=>D.secs.length-z.1) (0,(kg.fresh D.secs.length).secs) rfl ?_ ?_
 ·exact⟨Nat.zero_le _,by simp[kg.fresh],fun j hj=>absurd hj zp,g,a,f,_,a7,fresh_rows _ _ _⟩
 rintro⟨i,O⟩ u ⟨hi,aj,P,a9,a,f,M,E,Q⟩
 dsimp only at hi aj P Q⊢
 refine gl ?_
 refine j1 (ju rfl (gl (jp rfl (fun hc=> ?_) (fun hc=> ?_))))
 ·have au:i<D.secs.length:=by omega
  have hs:D.secs[i]? =some D.secs[i]:=by simp[au]
  generalize hss:D.secs[i]=s at hs
  have ck:i<L.length:=by rw[ar.1];exact au
  have hr:L[i]? =some L[i]:=by simp
  generalize hrd:L[i]=r at hr
  obtain⟨p,c,ak,cb,t,bd,c3,c4⟩:=(ar.2 i s r hs hr).ext a9 fun _ _ _=>id
  have c5:=waits_few hok hs
  have R:r.length=65:=by rw[ak];simp[qm,ge,t]
  have av:Seg u sb (0+i*65) r:=by
   have:=((c1.ga a9).ki.drop (i*65)).take 65
   rwa [rows_row hu hr] at this
  refine j6 ?_
  refine gy (gl (gu (km rfl (ka rfl 65 rfl i rfl au (0+i*65) rfl (jo rfl av R (gw rfl fun b5 w7 aa a0 ab=> ?_))))))
  have aw:b3≠b5:=Nat.ne_of_lt (Nat.lt_of_lt_of_le a.lt aa)
  have ax:bo≠b5:=Nat.ne_of_lt (Nat.lt_of_lt_of_le f.lt aa)
  have W:o≠b5:=Nat.ne_of_lt (Nat.lt_of_lt_of_le E.lt aa)
  have c6:=Nat.le_trans a9.size aa
  have a:=a.ga ab
  have f:=f.ga ab
  have bf:=E
  have E:=E.ga ab
  have g:=a9.gb ab
  have k:Ext No u w7:=ab
  subst ak
  refine j7 gc rfl (wl (j8 gc a0 rfl rfl (by rw[jf];exact R) (by rw[jf,R];rfl) (by rw[jf];exact flat_sec _ _ _ _) fun w8 a0 ac cl=> ?_))
  have a0:gz w8 b5 218 (qm s.safe p s.waits.length c):=a0
  have a:=a.gk ac aw
  have f:=f.gk ac ax
  have E:=E.gk ac W
  have k:=k.gj ac aa
  have g:=g.gj ac c6
  have c7:M.length=D.secs.length:=Q.1.trans aj
  have bg:i<M.length:=by omega
  have S:M[i]? =some M[i]:=by simp
  generalize hxd:M[i]=x at S
  have ay:O[i]? =some (O[i]'zo):=by simp[show i<O.length by omega]
  generalize hcd:O[i]'zo=s0 at ay
  obtain⟨p0,c0,az,_,al,_,_,_⟩:=Q.2 i s0 x ay S
  have b0:=Q.uni
  have b1:=x8 b0
  have cc:=Nat.mul_le_mul_right 65 (Nat.succ_le_of_lt bg)
  have G:w8.cell? ⟨b5,64,none⟩=some (.slice p s.waits.length c):=a0.cell (by simp[qm,ge,t])
  have b2:Seg w8 b5 0 (ge s.safe):=by
   have:=a0.ki.take 64
   simpa [qm,ge,t] using this
  refine ql (km rfl (jb a rfl rfl (j7 gc rfl (jo rfl b2 (by simp[ge,t]) (ka rfl 65 rfl i rfl zo (0+i*65) rfl (j7 gc rfl ?_))))))
  refine wl (zx5 gc E rfl (by rw[jf];simp[ge,t]) (by rw[b1];show 0+i*65+64≤_;omega) (by rw[jf];exact yz) fun w9 a1 ad cm=> ?_)
  have a1:gz w9 o 218 (Vc.put M.flatten (i*65+0) (ge s.safe)):=by simpa using a1
  rw[zx7 b0 S _ (by simp[ge,t])] at a1
  have b4:Vc.put x 0 (ge s.safe)=qm s.safe p0 s0.waits.length c0:=by
   rw[az,put_eq _ _ _ (by simp[qm,ge,t,al])]
   simp[qm,ge,t,al]
  rw[b4] at a1
  have a:=a.gk ad C
  have f:=f.gk ad V
  have G:=Bb G ad (Ne.symm W)
  have g:=g.gj ad a8
  have k:Ext (Vc.One o) u w9:=k.no.then ad
  refine ql (jt rfl 7 [(0,true),(1,true),(2,true),(4,true),(5,true),(3,false),(6,false)] [7,8,9] No zk fun cn A cd=> ?_)
  have k:=k.gb A
  have g:=g.gb A
  refine wd_p gc rfl (j5 gc rfl rfl (fun w' b6=>(a.ga b6).cell rfl) ?_)
  refine wd_p gc rfl (j5 gc rfl rfl (fun w' b6=>Bb G b6 id) ?_)
  refine jg rfl (qc gc rfl 64 rfl z29 (ko zeros_length) zd zd trivial (l':=[]) rfl fun a2 b7 J am X ce=>⟨A.gb X,?_⟩)
  have bh:=Nat.le_trans g.size J
  have b8:=Nat.le_trans k.size J
  have k:=k.gb X
  have g:=g.gb X
  have T:=A.gb X
  have bi:Own b7 (some ⟨a2,0,none⟩) 0 0 165 64 []:= .inr ⟨a2,[],rfl,am,rfl,Nat.le_refl _,by unfold maxLen;omega,rfl⟩
  have bj:∀x,TyB u x 165→x≠o:=fun x S=>S.ne bf zd
  have b9:=c3.ext k fun b y U=>bj b (c4 b y U).2
  have bk:Src prog b7 64 (.slice p s.waits.length c) s.waits.length (bl s.waits).flatten:=Src.slice b9 fun v hv=>by
   simp only[bl,ge,List.mem_flatten,List.mem_map] at hv
   obtain⟨l,⟨b,_,rfl⟩,hv⟩:=hv
   exact yz v hv
  refine jg rfl (uc gc rfl 64 64 rfl rfl (by rw[z29];exact ko zeros_length) zd bi bk zm zn fun K a3 ah B an bm=>⟨T.trans an fun x S e=> ?_,?_⟩)
  ·simp at e
  have B:Own ah K (0+s.waits.length) a3 165 64 (bl s.waits).flatten:=B
  rw[Nat.zero_add] at B
  have H:Ext (Vc.One a2) b7 ah:=an.mono fun x _ e=>by simp at e;exact e.symm
  have k:=k.gj H b8
  have g:=g.gj H bh
  have ao:=(a1.ga T).gk H (Nat.ne_of_lt (Nat.lt_of_lt_of_le a1.lt (Nat.le_trans A.size J)))
  have bn:Uni 65 (M.set i (qm s.safe p0 s0.waits.length c0)):=b0.set i (by simp[qm,ge,t])
  have c8:(M.set i (qm s.safe p0 s0.waits.length c0))[i]? =some (qm s.safe p0 s0.waits.length c0):=by simp[bg]
  have ae:=x8 bn
  rw[List.length_set] at ae
  refine jj (wb rfl (st_ix gc rfl 65 rfl i rfl zo (0+i*65) rfl (wb rfl (D5 gc rfl rfl rfl (wb rfl (qz gc ao rfl rfl (by rw[ae];show 0+i*65+64<_;omega) fun af q N cf=> ?_))))))
  have q:gz af o 218 ((M.set i (qm s.safe p0 s0.waits.length c0)).flatten.set (0+i*65+64) (.slice K (0+s.waits.length) a3)):=q
  rw[Nat.zero_add,Nat.zero_add] at q
  have q:gz af o 218 (Vc.put (M.set i (qm s.safe p0 s0.waits.length c0)).flatten (i*65+64) [.slice K s.waits.length a3]):=q
  rw[zx7 bn c8 _ zp,List.set_set] at q
  have k:=k.then N
  have g:=g.gj N a8
  have ai:Vc.put (qm s.safe p0 s0.waits.length c0) 64 [.slice K s.waits.length a3]=qm s.safe K s.waits.length a3:=by
   rw[put_eq _ _ _ (by simp[qm,ge,t])]
   simp[qm,ge,t]
  rw[ai] at q
  have ag:Ext (fun x=>x=a2∨x=o) w9 af:=((T.no.then (H.mono fun _ _ e=> .inl e))).then (N.mono fun _ _ e=> .inr e)
  have bp:=a.ext ag fun e=>e.elim (fun e=>Nat.ne_of_lt (Nat.lt_of_lt_of_le a.lt (Nat.le_trans A.size J)) e) C
  have bq:=f.ext ag fun e=>e.elim (fun e=>Nat.ne_of_lt (Nat.lt_of_lt_of_le f.lt (Nat.le_trans A.size J)) e) V
  refine j9 (B4 rfl ?_)
  rw[IntWalk.i64_in _ zo]
  refine gn (jm (i+1,O.modify i fun _=>s) rfl ⟨by simp only;omega,by simp only[List.length_modify];omega,?_,g,bp,bq,_,q,?_⟩ (by simp only;omega))
  ·intro j hj
   simp only at hj⊢
   rw[List.getElem?_modify]
   by_cases hij:i=j
   ·subst hij
    rw[ay,hs]
    simp
   rw[P j zo]
   simp[hij]
  have br:y6 af (Grow No w af) O M:=(Q.ext k fun x _ S=>bj x S).mono fun x S=>S.wide (Nat.le_refl _) k.size
  refine br.modify fun _ _=> ?_
  have Y:∀b y,K=some ⟨b,y,none⟩→w.heap.size≤b∧TyB ah b 165∧y=0:=by
   intro b y U
   have I:jd K b∧y=0:=by
    rcases B with⟨hp,_⟩|⟨b',l,hp,_⟩
    ·rw[hp] at U;cases U
    rw[hp] at U;simp at U;obtain⟨rfl,rfl⟩:=U;exact⟨hp,rfl⟩
   refine⟨?_,Own.ty B I.1,I.2⟩
   rcases bm b I.1 with h'|h'
   ·have h':some (⟨a2,0,none⟩:Addr)=some ⟨b,0,none⟩:=h'
    have h':a2=b:=by simp at h';exact h'
    omega
   have:=am.lt
   omega
  have Z:∀b,TyB ah b 165→b≠o:=fun b U=>U.ne ao zd
  refine⟨K,a3,rfl,B.cap,t,bd,?_,fun b y U=> ?_⟩
  ·exact B.sl.ext N fun b y U=>Z b (Y b y U).2.1
  have c9:=(Y b y U).2.1.ext N (Z b (Y b y U).2.1)
  obtain⟨l,hl⟩:=c9
  exact⟨.inr ⟨(Y b y U).1,hl.lt⟩,l,hl⟩
 have co:i=D.secs.length:=by omega
 refine xw ?_
 refine qj (qj (uv (gy (jc rfl (gr (gv rfl rfl ?_))))))
 have bs:O=D.secs:=by
  apply List.ext_getElem?
  intro j
  by_cases hj:j<i
  ·exact P j hj
  rw[List.getElem?_eq_none zo,List.getElem?_eq_none zo]
 rw[bs] at Q
 refine⟨b3,rfl,a4,⟨o,some ⟨bo,0,none⟩,D.order.length,a,⟨M,E,Q⟩,?_,⟨.inr ⟨a4,a.lt⟩,.inr ⟨a8,E.lt⟩,fun x S=> ?_⟩,fun x S=>S.elim False.elim fun h=>h.2⟩,a9⟩
 ·have:=Own.blk f 1 (n:=D.order.length) (c:=D.order.length) (by simp[Bm]) (Nat.le_refl _) zr
  rwa [List.take_of_length_le (by simp[Bm])] at this
 simp at S
 subst S
 exact .inr ⟨bz,f.lt⟩
abbrev Rt (w:World):Prop:=Seg w 0 0 (jr qg)
theorem Rt.ext {S:Nat→Prop} {w w':World} (h:Rt w) (hE:Ext S w w') (hS:¬S 0):Rt w':=Seg.ext h hE hS
theorem Rt.lt {w:World} (h:Rt w):0<w.heap.size:=Seg.lt h zd
theorem zeros_b:ge zeros=cellsOf ti165.zero:=z29.symm
theorem vo (w:World) (n:Int):
  gp prog 65 [.int .i64 n] w fun v w'=>v= .int .i64 (sectZ n)∧Ext No w w':=by
 refine gh func65 rfl rfl rfl rfl ?_
 have e:=Ext.refl No w
 refine jc rfl (gl (jv (α:=Bool) [0] rfl (fun z=>[(8,.bool z)]) (fun z u=>u=w∧z=decide (n<0∨40000<n)) ?_ ?_))
 ·refine j1 ?_
  refine j7 gc rfl (jl 5 rfl (fun a=> ?_) (fun a=> ?_))
  ·refine j3 gc 3 rfl ?_
   refine gn ?_
   exact j4 (true) rfl ⟨rfl,by simp[a]⟩
  refine j3 gc 3 rfl ?_
  refine gn ?_
  exact j4 (_) rfl ⟨rfl,by simp[a]⟩
 rintro z g ⟨b,rfl⟩
 have b:=b.symm
 subst b
 refine jp rfl (fun c=> ?_) (fun c=> ?_)
 ·have d:sectZ n=0:=if_pos c
  rw[d]
  refine jc rfl (gr (gq (gv rfl rfl ?_)))
  exact⟨rfl,e⟩
 have d:sectZ n=((n.toNat+3)/48+1:Nat):=if_neg c
 rw[d]
 have f:IntKind.i64.wrap (IntKind.i64.wrap ((IntKind.i64.wrap (n+3)).tdiv 48)+1)=(((n.toNat+3)/48+1:Nat):Int):=by
  rw[IntWalk.i64_in (n+3) zo,IntWalk.i64_quo _ _ zo,IntWalk.i64_in _ zo]
  omega
 refine j6 (gy (km rfl ?_))
 rw[f]
 refine ju rfl (gr (gv rfl rfl ?_))
 exact⟨rfl,e⟩
theorem slb4 (b:Nat):u1 (some ⟨b,0,none⟩) 4 64 1=some ⟨b,4,none⟩:=rfl
theorem seal_put (l:Bytes) (hl:l.length≤60):Vc.put (ge (List.replicate 64 0)) 4 (ge l)=ge (List.replicate 4 0++(l++List.replicate (60-l.length) 0)):=by
 rw[put_eq _ _ _ (by simp[gm];omega),gm,ui,ue]
 have a:(List.replicate 64 (0:UInt8)).take 4=List.replicate 4 0:=rfl
 have b:(List.replicate 64 (0:UInt8)).drop (4+l.length)=List.replicate (60-l.length) 0:=by rw[List.drop_replicate];congr 1;omega
 rw[a,b,jy,jy,List.append_assoc]
theorem sum_put (R:Bytes) (d:Bytes) (hd:d.length=4):Vc.put (ge (List.replicate 4 0++R)) 0 (ge d)=ge (d++R):=by
 rw[put_eq _ _ _ (by simp[gm];omega),gm,ui,ue,hd]
 simp[ge]
theorem xv1 (w:World) {p:Option Addr} {c:Nat} {l:Bytes} (h:x3 w p l) (hl:l.length≤60) (hr:Rt w):
  gp prog 180 [.slice p l.length c] w fun v w'=>v=xz8 (xj2 l)∧Ext No w w':=by
 obtain⟨R,y⟩:∃R,R=l++List.replicate (60-l.length) 0:=⟨_,rfl⟩
 have k:R.length=60:=by rw[y];simp;omega
 have J:xj2 l=(sumW R).take 4++R:=by rw[y];rfl
 have H:=hr.lt
 refine gh func180 rfl rfl rfl rfl ?_
 have b:=Ext.refl No w
 refine kz (gw rfl fun d K z a m=> ?_)
 have i:=Nat.le_trans b.size z
 have b:=b.gb m
 have a:gz K d 165 (ge (List.replicate 64 0)):=by(rw[show ge (List.replicate 64 0)=cellsOf ti165.zero from zeros_b];exact a)
 refine ql (kz (wl (st_sa gc rfl 4 64 64 1 rfl ⟨.inr ⟨rfl,rfl⟩,.inr ⟨rfl,rfl⟩,.inl rfl,by decide,by decide,by decide⟩ ?_)))
 rw[slb4]
 refine j7 gc rfl (wl (zz7 gc rfl 1 rfl a (Src.slice (h.ga b) OneC.h) zn (by rw[gm];simp;omega) fun x A n L=> ?_))
 have b:=b.gj n i
 have a:gz x d 165 (ge (List.replicate 4 0++R)):=by
  rw[y,←seal_put l hl];exact A
 have hr:Rt x:=(hr.ext m id).ext n fun e=>by have e:0=d:=e;omega
 refine ql (kz (wl (st_sa gc rfl 4 64 64 1 rfl ⟨.inr ⟨rfl,rfl⟩,.inr ⟨rfl,rfl⟩,.inl rfl,by decide,by decide,by decide⟩ ?_)))
 rw[slb4]
 have B:x3 x (some ⟨d,4,none⟩) R:=⟨by rw[gm,Nat.mul_one],.inr ⟨d,4,rfl,by have e:=a.ki.drop 4;rw[ue] at e;simpa using e⟩⟩
 rw[show Value.slice (some ⟨d,4,none⟩) (64-4) (64-4)= .slice (some ⟨d,4,none⟩) R.length 60 from by rw[k]]
 refine gi call181 rfl (sum_calls x B zo hr) fun U V C=> ?_
 obtain⟨rfl,o⟩:=C
 have a:=a.ga o
 have b:=b.gb o
 refine gw rfl fun D W q f r=> ?_
 have j:d≠D:=Nat.ne_of_lt (Nat.lt_of_lt_of_le a.lt q)
 have E:=Nat.le_trans b.size q
 have a:=a.ga r
 have b:=b.gb r
 refine wl (j8 (l':=ge (sumW R)) gc f rfl rfl (by rw[gm,B9]) (by rw[gm,B9];rfl) OneC.h fun X f s M=> ?_)
 have a:=a.gk s j
 have b:=b.gj s E
 refine ql (gl (jt rfl 3 [(0,true),(1,true),(2,false)] [] (One d) zk fun I g N=> ?_))
 have a:=a.ga g
 have f:=f.ga g
 have b:=b.gb g
 have O:Ext (One d) _ I:=g.no
 refine xj3 gc rfl rfl 0 4 64 1 rfl ⟨.inr ⟨rfl,rfl⟩,.inl rfl,.inr ⟨rfl,rfl⟩,by decide,by decide,by decide⟩ ?_
 rw[kc,Nat.sub_zero]
 refine xj3 gc rfl rfl 0 32 32 1 rfl ⟨.inr ⟨rfl,rfl⟩,.inr ⟨rfl,rfl⟩,.inr ⟨rfl,rfl⟩,by decide,by decide,by decide⟩ ?_
 rw[kc,Nat.sub_zero]
 have F:Sl I (some ⟨D,0,none⟩) 4 1 (ge ((sumW R).take 4)):=⟨by rw[gm,List.length_take,B9];rfl,.inr ⟨D,0,rfl,by have e:=f.ki.take 4;rwa [ui] at e⟩⟩
 have P:((sumW R).take 4).length=4:=by rw[List.length_take,B9];rfl
 refine jg rfl (st_cpK gc rfl 1 rfl a rfl (by show 4≤32;decide) F OneC.h (by simp[gm,k]) fun Q t u S=>⟨O.then (u.mono fun _ _ e=>e),?_⟩)
 have b:=b.gj u i
 have a:gz Q d 165 (ge (xj2 l)):=by
  rw[J,←sum_put R _ P];exact t
 refine jj (j9 (gy (kz (jh a rfl (by rw[gm,zz2 hl]) ?_))))
 refine wl (j8 (l':=ge (xj2 l)) gc a rfl rfl (by rw[gm,zz2 hl]) (by rw[gm]) OneC.h fun Y a G T=> ?_)
 have b:=b.gj G i
 refine ql (gr (qk [_] ⟨⟨d,0,rfl,qu gc rfl rfl a.ki (by rw[gm,zz2 hl];rfl)⟩,trivial⟩ ?_))
 exact⟨rfl,b⟩
theorem and1 (t:Nat) (ht:t<4294967296):bitI .and .u32 (t:Int) 1=((t%2:Nat):Int):=by
 have a:(BitVec.ofInt IntKind.u32.bits (t:Int)&&&BitVec.ofInt IntKind.u32.bits 1).toNat=t%2:=by
  rw[BitVec.toNat_and]
  have b:(BitVec.ofInt IntKind.u32.bits (t:Int)).toNat=t:=by
   show(BitVec.ofInt 32 (t:Int)).toNat=t
   rw[BitVec.toNat_ofInt]
   omega
  have c:(BitVec.ofInt IntKind.u32.bits 1).toNat=1:=rfl
  rw[b,c,Nat.and_one_is_mod]
 show IntKind.u32.wrap _=_
 rw[a,IntKind.wrap_u32]
 omega
theorem zv9 (w:World) (x:Value) (n t:Nat) (hn:n<5000000000) (ht:t<4294967296) (_hx:x.oneCell'=true):
  gp prog 120 [.agg #[x,.int .i64 (n:Int)],.int .u32 (t:Int)] w fun v w'=>v= .int .i64 (u9 t n:Int)∧Ext No w w':=by
 refine gh func120 rfl rfl rfl rfl ?_
 have b:=Ext.refl No w
 refine kz (gw rfl fun f g h a c=> ?_)
 have b:=b.gb c
 have a:gz g f 155 ([x,.int .i64 (n:Int)]):=a
 refine ju rfl (gl (jc rfl (jp rfl (fun d=> ?_) (fun d=> ?_))))
 ·have e:u9 t n=2+n:=if_pos (by rw[and1 t ht] at d;omega)
  rw[e]
  refine km rfl (jb a rfl rfl (j7 gc rfl ?_))
  rw[IntWalk.i64_in _ zo]
  refine ql (gr (gq (gv rfl rfl ?_)))
  exact⟨by congr 1,b⟩
 have e:u9 t n=2:=if_neg (by rw[and1 t ht] at d;omega)
 rw[e]
 refine j6 (gy (jc rfl (gr (gv rfl rfl ?_))))
 exact⟨rfl,b⟩
theorem _root_.Go.Vc.gz.slB {w:World} {b T:Nat} {l:Bytes} (h:gz w b T (ge l)):x3 w (some ⟨b,0,none⟩) l:=⟨by rw[gm,Nat.mul_one],.inr ⟨b,0,rfl,h.ki⟩⟩
theorem wrap32 (n:Nat) (h:n<4294967296):IntKind.u32.wrap (n:Int)=(n:Int):=by rw[IntKind.wrap_u32];omega
theorem fits_calls (w:World) {d:Nat} {F:Nat→Prop} {D:kg} (h:At w d F D) (n:Int) (hn: -9223372036854775808≤n∧n<9223372036854775808):
  gp prog 70 [.agg #[.pointer (some ⟨d,0,none⟩),.int .i64 n]] w fun v w'=>v= .bool (decide (0≤n∧B1 n.toNat D.secs.length))∧Ext No w w':=by
 refine gh func70 rfl rfl rfl rfl ?_
 have c:=Ext.refl No w
 refine kz (gw rfl fun l o p a k=> ?_)
 have c:=c.gb k
 have a:gz o l 155 ([.pointer (some ⟨d,0,none⟩),.int .i64 n]):=a
 refine ju rfl (jv (α:=Bool) [] rfl (fun z=>[(2,.bool z)]) (fun z u=>(z=decide (0≤n∧B1 n.toNat D.secs.length))∧gz u l 155 ([.pointer (some ⟨d,0,none⟩),.int .i64 n])∧Ext No w u) ?_ ?_)
 ·refine jt rfl 19 [(0,true),(1,true),(2,true),(3,true),(4,true),(5,true),(6,true),(7,true),(8,true),(9,true),(10,true),(12,true),(13,true),(14,true),(15,true),(11,false),(16,true),(17,true),(18,true)] [] (No) zk fun m g q=> ?_
  have e:=a
  have a:=a.ga g
  have c:=c.gb g
  have r:Ext (No) _ m:=g.no
  refine gx gc 1 rfl (j5 gc rfl rfl (fun w' b=>(e.ga b).cell rfl) ?_)
  refine gx gc 2 rfl (Af 6 rfl (fun j=> ?_) (fun j=> ?_))
  ·refine gx gc 1 rfl ?_
   refine j5 gc rfl rfl (fun w' b=>(e.ga b).cell rfl) ?_
   refine gx gc 3 rfl (Af 11 rfl (fun j=> ?_) (fun j=> ?_))
   ·have s:=j
    refine gx gc 1 rfl (j5 gc rfl rfl (fun w' b=>(e.ga b).cell rfl) ?_)
    refine gx gc 1 rfl (j5 gc rfl rfl (fun w' b=>(e.ga b).cell rfl) ?_)
    refine gx gc 2 rfl ?_
    rw[IntWalk.i64_in (2*n) zo,IntWalk.i64_in _ zo]
    refine jg rfl (j2 call77 rfl ((dk_len m (h.ga c)).same) fun t x i=>⟨(by obtain⟨rfl,f⟩:=i;exact r.gb f),?_⟩)
    obtain⟨rfl,f⟩:=i
    have a:=a.ga f
    have c:=c.gb f
    refine gx gc 3 rfl (jj (j9 ?_))
    exact j4 (_) rfl ⟨by rw[decide_eq_decide];unfold B1;omega,a,c⟩
   refine gx gc 10 rfl ?_
   refine jj (j9 ?_)
   exact j4 (false) rfl ⟨by symm;rw[decide_eq_false_iff_not];unfold B1;omega,a,c⟩
  refine gx gc 15 rfl ?_
  refine jj (j9 ?_)
  exact j4 (false) rfl ⟨by symm;rw[decide_eq_false_iff_not];unfold B1;omega,a,c⟩
 rintro z y ⟨rfl,a,c⟩
 refine gr (gv rfl rfl ?_)
 exact⟨rfl,c⟩
theorem head_calls (w:World) (x:Value) (n t:Nat) (hn:n<4294967296) (ht:t<4294967296) (_hx:x.oneCell'=true) (hr:Rt w):
  gp prog 147 [.agg #[x,.int .i64 (n:Int)],.int .u32 (t:Int)] w fun v w'=>v=xz8 (zw8 t n)∧Ext No w w':=by
 refine gh func147 rfl rfl rfl rfl ?_
 have b:=Ext.refl No w
 refine kz (gw rfl fun R T U d E=> ?_)
 have b:=b.gb E
 have d:gz T R 155 ([x,.int .i64 (n:Int)]):=d
 refine gw rfl fun P w2 F a q=> ?_
 have G:=Nat.le_trans b.size F
 have d:=d.ga q
 have b:=b.gb q
 refine ql (gl (jt rfl 9 [(2,true),(4,true),(5,true),(6,true),(0,false),(1,false),(3,false),(7,false),(8,false)] [9] (No) zk fun V o W=> ?_))
 have H:=d
 have a:=a.ga o
 have b:=b.gb o
 have c:Ext (No) _ V:=o.no
 refine gx gc 2 rfl (j5 gc rfl rfl (fun w' I=>(H.ga I).cell rfl) ?_)
 refine gx gc 1 rfl ?_
 rw[wrap32 n hn]
 have r:=c
 refine jg rfl (qc gc rfl 1 rfl rfl rfl zd zd zt (l':=ge Cr) rfl fun s w4 u J i X=>⟨c.gb i,?_⟩)
 have p:P≠s:=Nat.ne_of_lt (Nat.lt_of_lt_of_le a.lt u)
 have K:=Nat.le_trans b.size u
 have a:=a.ga i
 have b:=b.gb i
 have c:=c.gb i
 refine jg rfl (st_cv gc rfl J fun Q j y Y=>⟨c.trans j fun x hx e=>by have e:x=s:=e;have:=r.size;omega,?_⟩)
 have c:=c.trans j (S:=No) fun x hx e=>by have e:x=s:=e;have:=r.size;omega
 have b:=b.gj j K
 have a:=a.gk j p
 have L:x3 Q (some ⟨s,0,none⟩) Cr:=⟨rfl,.inr ⟨s,0,rfl,y⟩⟩
 refine jg rfl (j2 call179 rfl (yh Q (l:=Cr) L zd t ht) fun v6 Z z=>⟨(by obtain⟨b8,rfl,M,A,f⟩:=z;exact c.gb f),?_⟩)
 obtain⟨b8,rfl,M,A,f⟩:=z
 have a:=a.ga f
 have b:=b.gb f
 have c:=c.gb f
 refine jg rfl (j2 call179 rfl (yh Z A.slB (by simp[Cr,jw]) n hn) fun v7 w7 B=>⟨(by obtain⟨N,rfl,C,m,g⟩:=B;exact c.gb g),?_⟩)
 obtain⟨N,rfl,C,m,g⟩:=B
 have a:=a.ga g
 have b:=b.gb g
 have c:=c.gb g
 refine jg rfl (j2 call180 rfl (xv1 w7 m.slB (by simp[Cr,jw]) (hr.ext b id)) fun v8 w8 D=>⟨(by obtain⟨rfl,k⟩:=D;exact c.gb k),?_⟩)
 obtain⟨rfl,k⟩:=D
 have a:=a.ga k
 have b:=b.gb k
 refine jj (wb rfl (j8 (l':=ge (zw8 t n)) gc a rfl rfl (by rw[gm,Ck]) (by rw[gm,Ck];rfl) OneC.h fun w9 a O a0=> ?_))
 have b:=b.gj O G
 refine j9 (gy (gr (qk [_] ⟨⟨P,0,rfl,qu gc rfl rfl a.ki (by rw[gm,Ck];rfl)⟩,trivial⟩ ?_)))
 exact⟨rfl,b⟩
abbrev ItQ (w:World) (F:Nat→Prop) (N:Nat) (J Jx:Nat→(Nat→Prop)→World→Prop) (w':World):Prop:=
  ∃F':Nat→Prop,Ext F w w'∧(∀x,F' x→F x∨w.heap.size≤x)∧(J N F' w'∨∃k,k<N∧Jx k F' w')
abbrev xw5 (l:List Bytes) (k:Nat):Array Value:= #[xz8 (l.getD k [])]
theorem getD_rep {n k:Nat} {b:Bytes} (h:k<n):(List.replicate n b).getD k []=b:=by simp[h]
theorem blank1_walk (w:World) {l b n:Nat} {F:Nat→Prop} {J Jx:Nat→(Nat→Prop)→World→Prop} (hC:Cons prog l w.heap.size n (xw5 (List.replicate n zeros)) J Jx) (hb:gz w b 3 [.int .i64 (n:Int)]) (hn:n<1000000000) (h0:J 0 F w):
  gp prog 145 [.func (.yield l) #[] #[],.pointer (some ⟨b,0,none⟩)] w fun _ w'=>ItQ w F n J Jx w':=by
 refine gh func145 rfl rfl rfl rfl ?_
 have c:=Ext.refl F w
 refine kz (j0 rfl (hb.cell rfl) (ju rfl (gu ?_)))
 refine jn (α:=Nat×(Nat→Prop)) [0,3] rfl (fun z=>[(4,.int .i64 (z.1:Int))]) (fun z u=>(z.1≤n∧J z.1 z.2 u∧(∀x,z.2 x→F x∨w.heap.size≤x))∧Ext F w u) (fun z u=>n-z.1) (0,F) rfl ⟨⟨Nat.zero_le _,h0,fun x i=> .inl i⟩,c⟩ ?_
 rintro⟨k,G⟩ B ⟨⟨t,d,j⟩,c⟩
 try dsimp only
 dsimp only at t d j
 refine jc rfl (gl (jp rfl (fun f=> ?_) (fun f=> ?_)))
 ·have a:k<n:=by omega
  refine xy (gu (gl (xw9 (wlw_p rfl gc rfl (wlw rfl (st_bd gc rfl trivial (l':=ge zeros) (by rw[zeros_b];rfl) ?_))))))
  rw[show ge zeros=ge ((List.replicate n zeros).getD k []) from by rw[getD_rep a]]
  refine xw4 rfl rfl rfl rfl rfl rfl (hC.round d a) fun y C v=> ?_
  obtain⟨m,o,p,q,r⟩:=v
  have A:=c.size
  have c:=c.trans o fun x i e=>(j x e).resolve_right zo
  have g:∀x,m x→F x∨w.heap.size≤x:=fun x i=>(p x i).elim (j x) fun h=> .inr zo
  refine wlw_p rfl gc rfl (zv (gy (vh rfl (fun f=> ?_) (fun f=> ?_))))
  ·have s:=r (by simpa using f)
   refine gr (ji (gq (gq (ji (f_ret0 rfl ?_)))))
   exact⟨m,c,g,.inr ⟨k,a,s⟩⟩
  have d:=q (by simpa using f)
  refine j6 (B4 rfl ?_)
  rw[IntWalk.i64_in _ zo]
  refine gn ?_
  exact jm (k+1,m) rfl ⟨⟨a,d,g⟩,c⟩ zf
 have a:k=n:=by omega
 subst a
 refine xw (qj (qj (uv (ye rfl ?_))))
 exact⟨G,c,j,.inl d⟩
theorem blank1_iter (w:World) {b n:Nat} (hb:gz w b 3 [.int .i64 (n:Int)]) (hn:n<1000000000):Iter prog 145 [.pointer (some ⟨b,0,none⟩)] n (xw5 (List.replicate n zeros)) (One b) w:=fun _ _ _ _ hC h0 _=>blank1_walk w hC hb hn h0
theorem blank_calls (w:World) (n:Nat):
  gp prog 72 [.int .i64 (n:Int)] w fun v w'=>∃b,v= .func (.func 145) #[] #[.pointer (some ⟨b,0,none⟩)]∧w.heap.size≤b∧gz w' b 3 [.int .i64 (n:Int)]∧Ext No w w':=by
 refine gh func72 rfl rfl rfl rfl ?_
 have c:=Ext.refl No w
 refine kz (gw rfl fun g h d a e=> ?_)
 have f:=Nat.le_trans c.size d
 have c:=c.gb e
 have a:gz h g 3 ([.int .i64 (n:Int)]):=a
 refine ju rfl (jc rfl (gr (gv rfl rfl ?_)))
 exact⟨g,rfl,f,a,c⟩
theorem begin1_walk (w:World) {l bl bt n t:Nat} {x:Value} {F:Nat→Prop} {J Jx:Nat→(Nat→Prop)→World→Prop} (hC:Cons prog l w.heap.size 1 (xw5 [zw8 t n]) J Jx) (hbl:gz w bl 155 [x,.int .i64 (n:Int)]) (hbt:gz w bt 35 [.int .u32 (t:Int)]) (hx:x.oneCell'=true) (hn:n<4294967296) (ht:t<4294967296) (hr:Rt w) (h0:J 0 F w):
  gp prog 146 [.func (.yield l) #[] #[],.pointer (some ⟨bl,0,none⟩),.pointer (some ⟨bt,0,none⟩)] w fun _ w'=>ItQ w F 1 J Jx w':=by
 obtain⟨H,m⟩:∃H,H=zw8 t n:=⟨_,rfl⟩
 rw[←m] at hC
 refine gh func146 rfl rfl rfl rfl ?_
 have a:=Ext.refl F w
 have c:=h0
 refine xw9 (wlw_p rfl gc rfl (wlw rfl (st_ldN gc rfl hbl.ki rfl (wlw rfl (st_ld gc rfl (hbt.cell rfl) (wlw rfl (j2 call147 rfl (head_calls w x n t hn ht hx hr) fun r s d=> ?_)))))))
 obtain⟨rfl,b⟩:=d
 have c:=hC.st c b fun _ e=>e.elim
 have a:=a.gb b
 rw[←m]
 refine xw4 rfl rfl rfl rfl rfl rfl (hC.round c zd) fun y u p=> ?_
 obtain⟨o,f,g,i,j⟩:=p
 have q:=a.size
 have a:=a.then f
 have k:∀x,o x→F x∨w.heap.size≤x:=fun x hx=>(g x hx).elim .inl fun h=> .inr zo
 refine zv (ye rfl (⟨o,a,k,?_⟩))
 cases y with
 |true=>exact .inl (i rfl)
 |false=>exact .inr ⟨0,by decide,j rfl⟩
theorem begin1_iter (w:World) {bl bt n t:Nat} {x:Value} (hbl:gz w bl 155 [x,.int .i64 (n:Int)]) (hbt:gz w bt 35 [.int .u32 (t:Int)]) (hx:x.oneCell'=true) (hn:n<4294967296) (ht:t<4294967296) (hr:Rt w):Iter prog 146 [.pointer (some ⟨bl,0,none⟩),.pointer (some ⟨bt,0,none⟩)] 1 (xw5 [zw8 t n]) (fun x=>x=bl∨x=bt∨x=0) w:=fun _ _ _ _ hC h0 _=>begin1_walk w hC hbl hbt hx hn ht hr h0
theorem bodyB_len (b:Bytes):(zq1 b).length=b.length+4:=by simp[zq1,jw];omega
theorem sect_le (b:Bytes) (hb:b.length≤40000) {k:Nat} (hk:k<kj b.length):48*k<(zq1 b).length:=by
 have:=sectN_tight hb
 rw[bodyB_len]
 omega
theorem yv1 (t n:Nat) (b:Bytes) {k:Nat} (hk:k<kj b.length):(uw t n b).getD k []=Bh t n b k:=by simp[uw,hk]
theorem own1 {b x:Nat} (h:jd (some ⟨b,0,none⟩) x):x=b:=by
 have h:some (⟨b,0,none⟩:Addr)=some ⟨x,0,none⟩:=h
 simp at h
 exact h.symm
theorem zx {G G2:Nat→Prop} {b:Nat} {w:World} (h:¬G b) (hb:b<w.heap.size) (hG:∀x,G2 x→G x∨w.heap.size≤x):¬G2 b:=fun e=>(hG b e).elim h fun h=>by omega
theorem yq7 (w:World) (t n:Nat) {p:Option Addr} {m c:Nat}:
  gp prog 121 [.int .u32 (t:Int),.int .u32 (n:Int),.slice p m c] w fun v w'=>∃bb bt bn,v= .func (.func 178) #[] #[.pointer (some ⟨bb,0,none⟩),.pointer (some ⟨bt,0,none⟩),.pointer (some ⟨bn,0,none⟩)]∧(w.heap.size≤bb∧w.heap.size≤bt∧w.heap.size≤bn)∧gz w' bb 41 [.slice p m c]∧gz w' bt 35 [.int .u32 (t:Int)]∧gz w' bn 35 [.int .u32 (n:Int)]∧Ext No w w':=by
 refine gh func121 rfl rfl rfl rfl ?_
 have d:=Ext.refl No w
 refine kz (gw rfl fun r x h a i=> ?_)
 have j:=Nat.le_trans d.size h
 have d:=d.gb i
 have a:gz x r 35 ([.int .u32 (t:Int)]):=a
 refine gw rfl fun s y k b g=> ?_
 have l:=Nat.le_trans d.size k
 have a:=a.ga g
 have d:=d.gb g
 have b:gz y s 35 ([.int .u32 (n:Int)]):=b
 refine gw rfl fun u z o e f=> ?_
 have q:=Nat.le_trans d.size o
 have a:=a.ga f
 have b:=b.ga f
 have d:=d.gb f
 have e:gz z u 41 ([.slice p m c]):=e
 refine ju rfl (jc rfl (gr (gv rfl rfl ?_)))
 exact⟨u,r,s,rfl,⟨q,j,l⟩,e,a,b,d⟩
def xq5 (w u:World) (G:Nat→Prop) (q:Option Addr) (m c:Nat) (l:Bytes):Prop:=
  x3 u q l∧m=l.length∧m≤c∧∀x off,q=some ⟨x,off,none⟩→w.heap.size≤x∧x<u.heap.size∧¬G x
theorem xq5.ga {w u u':World} {G:Nat→Prop} {q:Option Addr} {m c:Nat} {l:Bytes} (h:xq5 w u G q m c l) (hE:Ext No u u'):xq5 w u' G q m c l:=
 ⟨h.1.ga hE,h.2.1,h.2.2.1,fun x off e=>let⟨a,b,d⟩:=h.2.2.2 x off e;⟨a,Nat.lt_of_lt_of_le b hE.size,d⟩⟩
theorem xq5.round {w u u':World} {G G2:Nat→Prop} {q:Option Addr} {m c:Nat} {l:Bytes} (h:xq5 w u G q m c l) (hE:Ext G u u') (hG:∀x,G2 x→G x∨u.heap.size≤x):xq5 w u' G2 q m c l:=
 ⟨h.1.ext hE fun x off e=>(h.2.2.2 x off e).2.2,h.2.1,h.2.2.1,fun x off e=>let⟨a,b,d⟩:=h.2.2.2 x off e;⟨a,Nat.lt_of_lt_of_le b hE.size,zx d b hG⟩⟩
theorem yz2 {q:Option Addr} {l m sz x off:Nat} (h:u1 q l m sz=some ⟨x,off,none⟩) (hq:∀x off sp,q=some ⟨x,off,sp⟩→sp=none):∃off',q=some ⟨x,off',none⟩:=by
 unfold u1 at h
 split at h
 ·exact⟨off,h⟩
 cases q with
 |none=>cases h
 |some a=>
  obtain⟨b,off',sp⟩:=a
  obtain rfl:=hq _ _ _ rfl
  simp only[Option.map_some,Option.some.injEq] at h
  unfold Addr.add at h
  split at h
  ·simp at h;exact⟨off',by rw[h.1]⟩
  simp at h;exact⟨off',by rw[h.1]⟩
theorem slB_spot {w:World} {q:Option Addr} {l:Bytes} (h:x3 w q l) (hl:l≠[]):∀x off sp,q=some ⟨x,off,sp⟩→sp=none:=fun x off sp e=>by
 rcases h.2 with h0|⟨b,o,h1,_⟩
 ·exact absurd (List.eq_nil_of_length_eq_zero h0) hl
 rw[h1] at e;simp at e;exact e.2.2.symm
theorem xq5.tail {w u:World} {G:Nat→Prop} {q:Option Addr} {m c:Nat} {l:Bytes} (h:xq5 w u G q m c l) (hl:l≠[]) {k:Nat} (hk:k≤m):xq5 w u G (u1 q k c 1) (m-k) (c-k) (l.drop k):=by
 obtain⟨d,g,i,j⟩:=h
 have b:=slB_spot d hl
 have f:=d.slice k m c hk i zo
 rw[Nat.mul_one,Nat.mul_one,ue,ui,List.take_of_length_le za] at f
 refine⟨?_,by rw[List.length_drop];omega,by omega,fun x n e=> ?_⟩
 ·rw[x3,List.length_drop,←g];exact f
 obtain⟨a,o⟩:=yz2 e b
 exact j x a o
theorem xq5.head {w u:World} {G:Nat→Prop} {q:Option Addr} {m c:Nat} {l:Bytes} (h:xq5 w u G q m c l) {k:Nat} (hk:k≤m):x3 u q (l.take k):=by
 obtain⟨b,d,e,f⟩:=h
 have a:=b.slice 0 k k (Nat.zero_le _) (Nat.le_refl _) zo
 rw[kc,Nat.sub_zero,Nat.zero_mul,List.drop_zero,Nat.mul_one,ui] at a
 rw[x3,List.length_take,Nat.min_eq_left zo]
 exact a
theorem wrap16 (n:Nat) (h:n<65536):IntKind.u16.wrap (n:Int)=(n:Int):=by rw[IntKind.wrap_u16];omega
theorem piece1_walk (w:World) {l bb bt bn t n c:Nat} {p:Option Addr} {b:Bytes} {F:Nat→Prop} {J Jx:Nat→(Nat→Prop)→World→Prop} (hCo:Cons prog l w.heap.size (kj b.length) (xw5 (uw t n b)) J Jx)
  (hbb:gz w bb 41 [.slice p b.length c]) (hbt:gz w bt 35 [.int .u32 (t:Int)]) (hbn:gz w bn 35 [.int .u32 (n:Int)]) (hs:x3 w p b) (ht:t<4294967296) (hn:n<4294967296) (hb4:b.length≤40000) (hr:Rt w)
  (hF:¬F 0) (h0:J 0 F w):
  gp prog 178 [.func (.yield l) #[] #[],.pointer (some ⟨bb,0,none⟩),.pointer (some ⟨bt,0,none⟩),.pointer (some ⟨bn,0,none⟩)] w fun _ w'=>ItQ w F (kj b.length) J Jx w':=by
 have cb:=Cx b.length
 refine gh func178 rfl rfl rfl rfl ?_
 have f:=Ext.refl F w
 have g:=h0
 have Y:=hCo.lt h0
 have cc:=hr.lt
 have cd:=hbb.lt
 have ce:=hbt.lt
 have cf:=hbn.lt
 refine gl (jt rfl 7 [(0,true),(1,true),(2,true),(4,true),(3,false),(5,false),(6,true)] [] (No) zk fun w1 D cg=> ?_)
 have ao:=g
 have R:=hbb
 have Z:=hbt
 have a0:=hbn
 have ap:=hs
 have aq:=hr
 have ar:=f
 have g:=hCo.st g D fun _ e=>e.elim
 have hbb:=hbb.ga D
 have hbt:=hbt.ga D
 have hbn:=hbn.ga D
 have hs:=hs.ga D
 have hr:=Rt.ext hr D id
 have f:=f.gb D
 have r:Ext (No) _ w1:=D.no
 refine j5 gc rfl rfl (fun w' K=>((R.ga K).cell rfl)) ?_
 refine gx gc 2 rfl ?_
 rw[wrap32 b.length zo]
 refine j5 gc rfl rfl (fun w' K=>((R.ga K).cell rfl)) ?_
 have au:=f
 refine jg rfl (j2 call179 rfl (yh w1 (l:=[]) (Sl.nil _ _ _) zd b.length zo) fun v2 w2 av=>⟨(by obtain⟨L,rfl,a9,aa,v⟩:=av;exact r.gb v),?_⟩)
 obtain⟨L,rfl,a9,aa,v⟩:=av
 have g:=hCo.st g v fun _ e=>e.elim
 have hbb:=hbb.ga v
 have hbt:=hbt.ga v
 have hbn:=hbn.ga v
 have hs:=hs.ga v
 have hr:=Rt.ext hr v id
 have f:=f.gb v
 have r:=r.gb v
 have c7:=Nat.le_trans au.size a9
 have aw:=Own.blk aa 1 (n:=4) (c:=4) (T:=5) (by rw[gm,List.nil_append,jw]) zd zd
 refine jg rfl (uc gc rfl 1 1 rfl rfl rfl zd aw (Src.slice hs OneC.h) (by dsimp only[maxLen];simp only[jw,List.nil_append];omega) (by dsimp only;simp only[jw,List.nil_append];omega) fun pr cr w3 M N bg=>⟨r.trans N fun x X e=>by have:=own1 e;omega,?_⟩)
 have bh:bb≠L:=by omega
 have bi:bt≠L:=by omega
 have bj:bn≠L:=by omega
 have O:∀x,jd (some (⟨L,0,none⟩:Addr)) x→x=L:=fun x e=>by have e:some (⟨L,0,none⟩:Addr)=some ⟨x,0,none⟩:=e;simp at e;exact e.symm
 have f:=f.trans N fun x X e=>by have:=O x e;omega
 have g:=hCo.st g N fun x e=>by have:=O x e;exact⟨by omega,fun e=>by have:=Y _ e;omega⟩
 have hbb:=hbb.ext N fun e=>bh (O _ e)
 have hbt:=hbt.ext N fun e=>bi (O _ e)
 have hbn:=hbn.ext N fun e=>bj (O _ e)
 have hr:=Rt.ext hr N fun e=>by have:=O _ e;omega
 have a:xq5 w w3 F pr (4+b.length) cr (zq1 b):=by
  have M:Own w3 pr (4+b.length) cr 5 1 ((ge ([]++be 4 b.length)).take (4*1)++ge b):=M
  rw[List.nil_append,Nat.mul_one,ui,List.take_of_length_le (by rw[jw];omega),←jy] at M
  have e1:4+b.length=(zq1 b).length:=by rw[bodyB_len];omega
  refine⟨by have:=M.sl;rw[e1] at this;exact this,e1,M.cap,fun x a4 e=> ?_⟩
  have X:jd pr x:=by
   rcases M with⟨h1,_⟩|⟨b',l',h1,_⟩
   ·rw[h1] at e;cases e
   rw[h1] at e;simp at e;obtain⟨rfl,rfl⟩:=e;exact h1
  have hw:w.heap.size≤x:=(bg x X).elim (fun h=>by have:=O x h;omega) fun h=>by have:=au.size;have:=v.size;omega
  exact⟨hw,M.lt X,fun e=>by have:=Y _ e;omega⟩
 have hs:=0
 dsimp only
 rw[show Value.slice pr (([]++be 4 b.length:List UInt8).length+b.length) cr= .slice pr (4+b.length) cr from by rw[List.nil_append,jw]]
 refine gx gc 1 rfl (jj (j9 (gy (kz (j0 rfl (hbb.cell rfl) (j7 gc rfl (gi call65 rfl (vo w3 (b.length:Int)) fun v4 w4 bk=> ?_)))))))
 obtain⟨rfl,P⟩:=bk
 have g:=hCo.st g P fun _ e=>e.elim
 have hbb:=hbb.ga P
 have hbt:=hbt.ga P
 have hbn:=hbn.ga P
 have hr:=Rt.ext hr P id
 have a:=a.ga P
 have f:=f.gb P
 rw[A8]
 refine j7 gc rfl ?_
 rw[wrap16 _ zo]
 refine ju rfl (gl (jt rfl 5 [(0,true),(2,true),(1,false),(3,false),(4,true)] [] (No) zk fun w5 E ch=> ?_))
 have ao:=g
 have R:=hbb
 have Z:=hbt
 have a0:=hbn
 have ap:=hs
 have aq:=hr
 have ai:=a
 have ar:=f
 have g:=hCo.st g E fun _ e=>e.elim
 have hbb:=hbb.ga E
 have hbt:=hbt.ga E
 have hbn:=hbn.ga E
 have hr:=Rt.ext hr E id
 have a:=a.ga E
 have f:=f.gb E
 have r:Ext (No) _ w5:=E.no
 refine j5 gc rfl rfl (fun w' K=>((Z.ga K).cell rfl)) ?_
 refine j5 gc rfl rfl (fun w' K=>((a0.ga K).cell rfl)) ?_
 refine jg rfl (j2 call179 rfl (yh w5 (l:=[]) (Sl.nil _ _ _) zd t ht) fun v6 w6 ax=>⟨(by obtain⟨bm,rfl,ay,ab,B⟩:=ax;exact r.gb B),?_⟩)
 obtain⟨bm,rfl,ay,ab,B⟩:=ax
 have g:=hCo.st g B fun _ e=>e.elim
 have hbb:=hbb.ga B
 have hbt:=hbt.ga B
 have hbn:=hbn.ga B
 have hr:=Rt.ext hr B id
 have a:=a.ga B
 have f:=f.gb B
 have r:=r.gb B
 have bo:=f
 refine jg rfl (j2 call179 rfl (yh w6 ab.slB (by simp[jw]) n hn) fun v7 w7 az=>⟨(by obtain⟨a5,rfl,ac,a1,C⟩:=az;exact r.gb C),?_⟩)
 obtain⟨a5,rfl,ac,a1,C⟩:=az
 have g:=hCo.st g C fun _ e=>e.elim
 have hbb:=hbb.ga C
 have hbt:=hbt.ga C
 have hbn:=hbn.ga C
 have hr:=Rt.ext hr C id
 have a:=a.ga C
 have f:=f.gb C
 have r:=r.gb C
 have c8:=Nat.le_trans bo.size ac
 have d:gz w7 a5 5 (ge (be 4 t++be 4 n)):=by rw[List.nil_append] at a1;exact a1
 refine gx gc 1 rfl (jj (j9 (gy (jc rfl (gu ?_)))))
 refine jn (α:=Nat×(Option Addr×Nat×Nat)×(Nat→Prop)) [0,6,7,24] rfl (fun z=>[(5,.slice z.2.1.1 z.2.1.2.1 z.2.1.2.2),(25,.int .u16 (z.1:Int))]) (fun z u=>(z.1≤kj b.length∧J z.1 z.2.2 u∧(∀x,z.2.2 x→F x∨w.heap.size≤x)∧xq5 w u z.2.2 z.2.1.1 z.2.1.2.1 z.2.1.2.2 ((zq1 b).drop (48*z.1))∧gz u a5 5 (ge (be 4 t++be 4 n))∧¬z.2.2 a5∧¬z.2.2 0∧Rt u)∧Ext F w u) (fun z u=>kj b.length-z.1) (0,(pr,4+b.length,cr),F) rfl ⟨⟨Nat.zero_le _,g,fun x X=> .inl X,by rw[Nat.mul_zero,List.drop_zero];exact a,d,fun e=>by have:=Y _ e;omega,hF,hr⟩,f⟩ ?_
 rintro⟨k,⟨q,m,c⟩,G⟩ w8 ⟨⟨hk,g,hG,a,d,aj,ak,hr⟩,f⟩
 try dsimp only
 dsimp only at hk g hG a d aj ak
 have hm:=a.2.1
 have bp:=a.2.2.1
 have bq:=d.lt
 refine jc rfl (gl (jp rfl (fun hc=> ?_) (fun hc=> ?_)))
 ·have Q:k<kj b.length:=by omega
  have ci:=sect_le b hb4 Q
  rw[List.length_drop] at hm
  have cj:=bodyB_len b
  obtain⟨s,ck⟩:∃s,s=min m 48:=⟨_,rfl⟩
  have br:(zq1 b).drop (48*k)≠[]:=fun e=>by have:=congrArg List.length e;rw[List.length_drop] at this;simp at this;omega
  refine xy (gu (jc rfl (km rfl ?_)))
  rw[show(if 48<(m:Int) then(48:Int) else(m:Int))=(s:Int) from by split<;>omega]
  refine ju rfl (gl (gl ?_))
  refine c_drawY 12 rfl 12 [(0,true),(1,true),(2,true),(4,true),(6,true),(7,true),(8,true),(9,true),(3,false),(5,false),(10,false),(11,false)] [] (No) zk zk [12,13] rfl fun w9 U cl=> ?_
  have ao:=g
  have R:=hbb
  have Z:=hbt
  have a0:=hbn
  have ap:=hs
  have aq:=hr
  have ai:=a
  have bs:=d
  have ar:=f
  have g:=hCo.st g U fun _ e=>e.elim
  have hr:=Rt.ext hr U id
  have a:=a.ga U
  have d:=d.ga U
  have f:=f.gb U
  have r:Ext (No) _ w9:=U.no
  refine gx gc 7 rfl (zq4 gc rfl rfl 0 s s 1 rfl (.inl ⟨rfl,rfl⟩) (.inl rfl) (.inr ⟨rfl,rfl⟩) (Nat.zero_le _) (Nat.le_refl _) zn ?_)
  dsimp only
  rw[kc,Nat.sub_zero]
  refine jg rfl (j2 call91 rfl (C3 w9 d.slB (by simp[jw]) k zo) fun cm bu ad=>⟨(by obtain⟨bv,rfl,b0,ae,i⟩:=ad;exact r.gb i),?_⟩)
  obtain⟨bv,rfl,b0,ae,i⟩:=ad
  have g:=hCo.st g i fun _ e=>e.elim
  have hr:=Rt.ext hr i id
  have a:=a.ga i
  have d:=d.ga i
  have f:=f.gb i
  have r:=r.gb i
  have bw:=f
  have cn:=r.size
  have b1:=hCo.lt g
  have al:=a
  have bf:=d.lt
  have c9:=hr.lt
  refine jg rfl (j2 call91 rfl (C3 bu ae.slB (by simp[jw]) (kj b.length) zo) fun co bx af=>⟨(by obtain⟨V,rfl,ag,a2,j⟩:=af;exact r.gb j),?_⟩)
  obtain⟨V,rfl,ag,a2,j⟩:=af
  have g:=hCo.st g j fun _ e=>e.elim
  have hr:=Rt.ext hr j id
  have a:=a.ga j
  have d:=d.ga j
  have f:=f.gb j
  have r:=r.gb j
  have b2:=Nat.le_trans bw.size ag
  obtain⟨H,hH⟩:∃H,H=be 4 t++be 4 n++be 2 k++be 2 (kj b.length):=⟨_,rfl⟩
  rw[←hH] at a2⊢
  have bz:H.length=12:=by rw[hH];simp[jw]
  have b3:=Own.blk a2 1 (n:=H.length) (c:=H.length) (T:=5) (by rw[gm,Nat.mul_one]) (Nat.le_refl _) (by rw[bz];decide)
  have b4:(((zq1 b).drop (48*k)).take s).length=s:=by rw[List.length_take,List.length_drop];omega
  have b5:Sl bx q s 1 (ge (((zq1 b).drop (48*k)).take s)):=by have e:=a.head (k:=s) zo;rw[x3,b4] at e;exact e
  have b6:¬G V:=fun e=>by have:=b1 V e;omega
  refine jg rfl (uc gc rfl 1 1 rfl rfl rfl zd b3 (Src.slice b5 OneC.h) zm zn fun pa ca a6 a3 I cp=>⟨r.trans I fun x X e=>by have:=own1 e;omega,?_⟩)
  have W:∀x,jd (some (⟨V,0,none⟩:Addr)) x→x=V:=fun x e=>by have e:some (⟨V,0,none⟩:Addr)=some ⟨x,0,none⟩:=e;simp at e;exact e.symm
  have r:=r.trans I (S:=No) fun x X e=>by have:=W x e;omega
  have f:=f.trans I fun x X e=>by have:=W x e;omega
  have g:=hCo.st g I fun x e=>by have:=W x e;subst this;exact⟨b2,b6⟩
  have hr:=Rt.ext hr I fun e=>by have:=W _ e;omega
  have a:xq5 w a6 G q m c ((zq1 b).drop (48*k)):=by
   refine⟨a.1.ext I fun x a4 e h=> ?_,a.2.1,a.2.2.1,fun x a4 e=> ?_⟩
   ·have:=W x h
    have:=(al.2.2.2 x a4 e).2.1
    omega
   have h3:=a.2.2.2 x a4 e
   exact⟨h3.1,Nat.lt_of_lt_of_le h3.2.1 I.size,h3.2.2⟩
  have d:=d.ext I fun e=>by have:=W _ e;omega
  have a3:Own a6 pa (H.length+s) ca 5 1 ((ge H).take (H.length*1)++ge (((zq1 b).drop (48*k)).take s)):=a3
  rw[Nat.mul_one,ui,List.take_of_length_le (Nat.le_refl _),←jy] at a3
  obtain⟨A,hA⟩:∃A,A=H++((zq1 b).drop (48*k)).take s:=⟨_,rfl⟩
  rw[←hA] at a3
  have b7:A.length=H.length+s:=by rw[hA,List.length_append,b4]
  have c0:x3 a6 pa A:=by have e:=a3.sl;rw[←b7] at e;exact e
  dsimp only
  rw[←b7]
  refine jg rfl (j2 call180 rfl (xv1 a6 c0 zo hr) fun cq cs ah=>⟨(by obtain⟨rfl,o⟩:=ah;exact r.gb o),?_⟩)
  obtain⟨rfl,o⟩:=ah
  have g:=hCo.st g o fun _ e=>e.elim
  have hr:=Rt.ext hr o id
  have a:=a.ga o
  have d:=d.ga o
  have f:=f.gb o
  have r:=r.gb o
  have hP:xj2 A=Bh t n b k:=by
   rw[hA,hH,Bh]
   congr 2
   rcases Nat.le_total m 48 with h|h
   ·rw[List.take_of_length_le za,List.take_of_length_le za]
   rw[show s=48 from by omega]
  obtain⟨Pk,b8⟩:∃Pk,Pk=Bh t n b k:=⟨_,rfl⟩
  rw[hP,←b8]
  have am:xw5 (uw t n b) k= #[xz8 Pk]:=by rw[xw5,yv1 t n b Q,b8]
  have b9:=hCo.round g Q
  rw[am] at b9
  refine jj (j9 (f_tail zk (wbi_yield rfl rfl rfl rfl rfl rfl rfl b9 fun y c1 hy=> ?_)))
  obtain⟨G2,a7,a8,c2,c3⟩:=hy
  have ct:=f.size
  have f:=f.trans a7 fun x X e=>(hG x e).resolve_right zo
  have ba:∀x,G2 x→F x∨w.heap.size≤x:=fun x X=>(a8 x X).elim (hG x) fun h=> .inr zo
  have a:=a.round a7 a8
  have c4:=d.lt
  have c5:=hr.lt
  have d:=d.ext a7 aj
  have hr:=Rt.ext hr a7 ak
  have bc:=zx aj c4 a8
  have bd:=zx ak c5 a8
  refine wbi (hF:= .none) rfl rfl (D5 gc rfl rfl rfl (wbi_nil (gy (vh rfl (fun hc=> ?_) (fun hc=> ?_)))))
  ·have c6:=c3 (by simpa using hc)
   refine gr (gq (ji (gq (gq (ji (f_ret0 rfl ?_))))))
   exact⟨G2,f,ba,.inr ⟨k,Q,c6⟩⟩
  have g:=c2 (by simpa using hc)
  refine j6 (gy (yu rfl (wl (Ah gc rfl s m c 1 rfl (.inr ⟨rfl,rfl⟩) (.inr ⟨rfl,rfl⟩) (.inl rfl) zo bp (Nat.le_refl _) ?_))))
  dsimp only
  refine j7 gc rfl (gn (B4 rfl ?_))
  rw[show IntKind.u16.wrap ((k:Int)+1)=((k+1:Nat):Int) from wrap16 (k+1) zo]
  refine j7 gc rfl (gn ?_)
  have an:xq5 w c1 G2 (u1 q s c 1) (m-s) (c-s) ((zq1 b).drop (48*(k+1))):=by
   have e:=a.tail br (k:=s) zo
   rw[List.drop_drop] at e
   rcases Nat.le_total m 48 with h|h
   ·rw[List.drop_eq_nil_of_le zo] at e
    rw[List.drop_eq_nil_of_le zo]
    exact e
   rw[show 48*k+s=48*(k+1) from by omega] at e
   exact e
  exact jm (k+1,(u1 q s c 1,m-s,c-s),G2) rfl ⟨⟨Q,g,ba,an,d,bc,bd,hr⟩,f⟩ zf
 have Q:k=kj b.length:=by omega
 subst Q
 refine xw (qj (qj (uv (ye rfl ?_))))
 exact⟨G,f,hG,.inl g⟩
theorem xx9 (w:World) {bb bt bn t n c:Nat} {p:Option Addr} {b:Bytes} (hbb:gz w bb 41 [.slice p b.length c]) (hbt:gz w bt 35 [.int .u32 (t:Int)]) (hbn:gz w bn 35 [.int .u32 (n:Int)]) (hs:x3 w p b) (ht:t<4294967296) (hn:n<4294967296) (hb4:b.length≤40000) (hr:Rt w):
  Iter prog 178 [.pointer (some ⟨bb,0,none⟩),.pointer (some ⟨bt,0,none⟩),.pointer (some ⟨bn,0,none⟩)] (kj b.length) (xw5 (uw t n b)) (fun x=>x=0) w:=
 fun _ _ _ _ hC h0 hown=>piece1_walk w hC hbb hbt hbn hs ht hn hb4 hr (hown 0 rfl) h0
abbrev DkQ (w:World) (d:Nat) (F:Nat→Prop) (D:kg) (w':World):Prop:=∃F':Nat→Prop,At w' d F' D∧Ext F w w'∧∀x,F' x→F x∨w.heap.size≤x
theorem dkWrite (w:World) {d m:Nat} {F:Nat→Prop} {D:kg} (h:At w d F D) (hok:D.Ok m) (hm:m+1<1000000000) (i:Int) {b:Bytes} (hb:b.length=64):
  gp prog 143 [.pointer (some ⟨d,0,none⟩),.int .i64 i,xz8 b] w fun v w'=>v= .int .i64 (D.write i b).2∧DkQ w d F (D.write i b).1 w':=
 (dk_write w h hok hm i hb).mono fun _ w' ⟨h1,h2,h3⟩=>⟨h1,_,h2,h3,fun _ hx=>hx.imp id fun h=>h.1⟩
theorem dkSync (w:World) {d m:Nat} {F:Nat→Prop} {D:kg} (h:At w d F D) (hok:D.Ok m) (hm:m+1<1000000000):
  gp prog 144 [.pointer (some ⟨d,0,none⟩)] w fun v w'=>v= .int .i64 D.sync.2∧DkQ w d F D.sync.1 w':=
 (dk_sync w h hok hm).mono fun _ _ ⟨h1,h2,h3⟩=>⟨h1,F,h2,h3,fun _=> .inl⟩
theorem dkRead (w:World) {d m:Nat} {F:Nat→Prop} {D:kg} (h:At w d F D) (hok:D.Ok m) (hm:m<1000000000) (i:Int):
  gp prog 78 [.pointer (some ⟨d,0,none⟩),.int .i64 i] w fun v w'=>v= .tuple #[xz8 (D.read i).2.1,.int .i64 (D.read i).2.2]∧At w' d F (D.read i).1∧Ext F w w':=by
 obtain⟨f,g,j,h⟩:=h
 exact(dk_read w h hok hm i).mono fun _ _ ⟨a,b,c⟩=>⟨a,⟨_,_,_,b⟩,c.mono fun x _ e=>by have e:x=d:=e;rw[e];exact h.own.1⟩
def PutJ (_w0:World) (d n m b3 b4 b6:Nat) (at_:Int) (D0:kg) (L:List Bytes) (k:Nat) (z:(Nat→Prop)×kg) (u:World):Prop:=
  At u d z.1 z.2∧z.2.Ok (m+2*k)∧Au D0 at_ L=Au z.2 (at_+k) (L.drop k)∧(¬z.1 b3∧¬z.1 b4∧¬z.1 b6)∧gz u b3 155 [.pointer (some ⟨d,0,none⟩),.int .i64 n]∧gz u b4 3 [.int .i64 (at_+k)]∧∃e,gz u b6 38 [.int .i64 e]
def PutX (b3 b4 b6 d:Nat) (at_:Int) (D0:kg) (L:List Bytes) (c:Code) (z:(Nat→Prop)×kg) (u:World):Prop:=
  c= .ret∧At u d z.1 z.2∧(¬z.1 b3∧¬z.1 b4∧¬z.1 b6)∧(Au D0 at_ L).1=z.2∧(b4<u.heap.size∧b6<u.heap.size)∧gz u b6 38 [.int .i64 (Au D0 at_ L).2]
abbrev PutF (b4 b6:Nat) (z:(Nat→Prop)×kg):Nat→Prop:=fun x=>z.1 x∨x=b4∨x=b6
def putC (w w0:World) (d n m b3 b4 b6:Nat) (at_:Int) (D0:kg) (L:List Bytes) (h3:b3<w.heap.size):CoS ((Nat→Prop)×kg) w where
  Fp:=PutF b4 b6
  J:=PutJ w0 d n m b3 b4 b6 at_ D0 L
  Jx:=fun _ c z u=>PutX b3 b4 b6 d at_ D0 L c z u
  st:=by
    rintro k z S u u' ⟨h1,h2,h3',h4,h5,h6,e,h7⟩ hE hS
    exact⟨h1.ext hE fun x hx hs=>(hS x hs).2 (.inl hx),h2,h3',h4,h5.ext hE fun hs=>by have:=(hS _ hs).1;omega,h6.ext hE fun hs=>(hS _ hs).2 (.inr (.inl rfl)),e,h7.ext hE fun hs=>(hS _ hs).2 (.inr (.inr rfl))⟩
  stx:=by
    rintro k c z S u u' ⟨h1,h2,h3',h4,h5,h6⟩ hE hS
    exact⟨h1,h2.ext hE fun x hx hs=>(hS x hs).2 (.inl hx),h3',h4,⟨Nat.lt_of_lt_of_le h5.1 hE.size,Nat.lt_of_lt_of_le h5.2 hE.size⟩,h6.ext hE fun hs=>(hS _ hs).2 (.inr (.inr rfl))⟩
  lt:=by
    rintro k z u ⟨h1,h2,h3',h4,h5,h6,e,h7⟩ x hx
    rcases hx with hx|rfl|rfl
    ·exact h1.lt x hx
    ·exact h6.lt
    ·exact h7.lt
  ltx:=by
    rintro k c z u ⟨h1,h2,h3',h4,h5,h6⟩ x hx
    rcases hx with hx|rfl|rfl
    ·exact h2.lt x hx
    ·exact h5.1
    ·exact h5.2
theorem yt {F F' G:Nat→Prop} {u w:World} (h:∀x,G x→F x∨w.heap.size≤x) (hs:w.heap.size≤u.heap.size) (h':∀x,F' x→G x∨u.heap.size≤x):∀x,F' x→F x∨w.heap.size≤x:=fun x hx=>(h' x hx).elim (h x) fun e=> .inr (Nat.le_trans hs e)
theorem yj7 (w:World) {d m gf n:Nat} {F own:Nat→Prop} {D:kg} {cap:Array Value} {L:List Bytes} (h:At w d F D) (hok:D.Ok m) (hm:m+2*L.length+3<1000000000) (at_:Int) (hat: -1000000000≤at_∧at_≤1000000000) (hL64:∀b∈L,b.length=64)
  (hcf:∀args w,(callFunc gf args).run prog w= .ok (.enter gf args) w) (hit:∀w1,Ext No w w1→Iter prog gf cap.toList L.length (xw5 L) own w1) (hown:∀x,own x→x<w.heap.size∧¬F x):
  gp prog 71 [.agg #[.pointer (some ⟨d,0,none⟩),.int .i64 (n:Int)],.int .i64 at_,.func (.func gf) #[] cap] w fun v w'=>v= .int .i64 (Au D at_ L).2∧DkQ w d F (Au D at_ L).1 w':=by
 refine B8 func71 rfl rfl rfl rfl ?_
 have hX:=Ext.refl F w
 have hFlt:=h.lt
 have hN0:=Ext.refl No w
 refine kz (gw rfl fun b3 w1 hn3 hb3 hE1=> ?_)
 have fr3:=Nat.le_trans hX.size hn3
 have h:=h.ga hE1
 have hN0:=hN0.gb hE1
 have hX:=hX.gb hE1
 have hb3:gz w1 b3 155 ([.pointer (some ⟨d,0,none⟩),.int .i64 (n:Int)]):=hb3
 refine gw rfl fun b4 w2 hn4 hb4 hE2=> ?_
 have ne3_4:b3≠b4:=Nat.ne_of_lt (Nat.lt_of_lt_of_le hb3.lt hn4)
 have fr4:=Nat.le_trans hX.size hn4
 have hb3:=hb3.ga hE2
 have h:=h.ga hE2
 have hN0:=hN0.gb hE2
 have hX:=hX.gb hE2
 have hb4:gz w2 b4 3 ([.int .i64 at_]):=hb4
 refine gw rfl fun b6 w3 hn6 hb6 hE3=> ?_
 have ne3_6:b3≠b6:=Nat.ne_of_lt (Nat.lt_of_lt_of_le hb3.lt hn6)
 have ne4_6:b4≠b6:=Nat.ne_of_lt (Nat.lt_of_lt_of_le hb4.lt hn6)
 have fr6:=Nat.le_trans hX.size hn6
 have hb3:=hb3.ga hE3
 have hb4:=hb4.ga hE3
 have h:=h.ga hE3
 have hN0:=hN0.gb hE3
 have hX:=hX.gb hE3
 have hb6:gz w3 b6 38 ([.int .i64 0]):=hb6
 refine ql (gl (jc rfl (gu ?_)))
 have hF3:¬F b3:=fun e=>by have:=hFlt _ e;omega
 have hF4:¬F b4:=fun e=>by have:=hFlt _ e;omega
 have hF6:¬F b6:=fun e=>by have:=hFlt _ e;omega
 have hwX:=hX
 have hwXs:=hX.size
 have l3:=hb3.lt
 have l4:=hb4.lt
 have l6:=hb6.lt
 refine c_iter (putC w3 w d n m b3 b4 b6 at_ D L hb3.lt) (F,D) rfl hcf rfl (fun _=>rfl) (fun w1 hE1=>hit w1 (hN0.gb hE1)) (fun x hx=>by have:=hown x hx;exact⟨by omega,fun e=>by rcases e with e|e|e;exact this.2 e;omega;omega⟩) ⟨h,hok,by simp,⟨hF3,hF4,hF6⟩,hb3,by simpa using hb4,0,hb6⟩ (fun l DD r k z W hRd hJ hk=> ?_) (fun DD z W hJ hE hsub hDn hmk hnd=> ?_) (fun DD k c z W hk hJ hE hsub hDn hmk hnd=> ?_)
 ·have hLr:=hRd.l
  obtain⟨G,D2⟩:=z
  obtain⟨hA,hok2,hlay,⟨hG3,hG4,hG6⟩,hb3,hb4,e0,hb6⟩:=hJ
  dsimp only at hA hok2 hlay hG3 hG4 hG6
  have hGl:¬G l:=fun e=>(hRd.fp _ (.inl e)).1 rfl
  have hGlt:=hA.lt
  obtain⟨Bk,hBk⟩:∃Bk,Bk=L.getD k []:=⟨_,rfl⟩
  have hB64:Bk.length=64:=by rw[hBk];have:=hL64 (L[k]) (List.getElem_mem hk);simpa [hk] using this
  rw[show xw5 L k= #[xz8 Bk] from by rw[xw5,hBk]]
  have hW3:=hb3.lt
  have hW4:=hb4.lt
  have hW6:=hb6.lt
  have ne4_3:=ne3_4.symm
  have nl3:=hb3.neL hLr
  have nl4:=hb4.neL hLr
  have nl6:=hb6.neL hLr
  have hX:Ext (fun x=>PutF b4 b6 (G,D2) x∨x=l) W W:=Ext.refl _ _
  refine yd (wli (.round _) rfl (Bj gc rfl fun b7 w4 hn7 hb7 hE4=> ?_))
  have ne3_7:b3≠b7:=Nat.ne_of_lt (Nat.lt_of_lt_of_le hb3.lt hn7)
  have ne4_7:b4≠b7:=Nat.ne_of_lt (Nat.lt_of_lt_of_le hb4.lt hn7)
  have ne6_7:b6≠b7:=Nat.ne_of_lt (Nat.lt_of_lt_of_le hb6.lt hn7)
  have fr7:=Nat.le_trans hX.size hn7
  have hb3:=hb3.ga hE4
  have hb4:=hb4.ga hE4
  have hb6:=hb6.ga hE4
  have hA:=hA.ga hE4
  have hLr:=yn hLr hE4 id
  have hX:=hX.gb hE4
  have nl7:=hb7.neL hLr
  have hG7:¬G b7:=fun e=>by have:=hGlt _ e;omega
  refine wli (.round _) rfl (j8 (l':=ge Bk) gc hb7 rfl rfl (by rw[gm,hB64]) (by rw[gm,hB64];rfl) OneC.h fun w5 hb7 hE5 hs5=> ?_)
  have hb3:=hb3.gk hE5 ne3_7
  have hb4:=hb4.gk hE5 ne4_7
  have hb6:=hb6.gk hE5 ne6_7
  have hA:=hA.ext hE5 fun x hx e=>by have e:x=b7:=e;subst e;exact hG7 hx
  have hLr:=yn hLr hE5 nl7.symm
  have hX:=hX.gj hE5 fr7
  refine zv (xw8 hRd hLr fun w6 hE6 hL6=> ?_)
  have hb3:=hb3.extL hLr hE6
  have hb4:=hb4.extL hLr hE6
  have hb6:=hb6.extL hLr hE6
  have hb7:=hb7.extL hLr hE6
  have hA:=hA.ext hE6 fun x hx e=>by have e:x=l:=e;subst e;exact hGl hx
  have hLr:=hL6
  have hX:=hX.then (hE6.mono fun x _ e=> .inr e)
  refine ci_block (yx1 (yx1 (yd (zw1 gc rfl (wli (.round _) rfl (st_ldb gc hb3 rfl rfl (wli (.round _) rfl (st_ldb gc hb4 rfl rfl (wli (.round _) rfl (st_ldB gc hb7 rfl (by rw[gm,hB64]) ?_))))))))))
  have hX4:=hX.size
  have l3:=hb3.lt
  have l4:=hb4.lt
  have l6:=hb6.lt
  have l7:=hb7.lt
  have hstep:=layD_step hk D2 at_
  rw[←hlay,←hBk] at hstep
  refine wli (.round _) rfl (j2 call143 rfl (dkWrite w6 hA hok2 zo (at_+k) hB64) fun v7 w7 hr7=> ?_)
  obtain⟨rfl,G2,hA2,hE7,hGs⟩:=hr7
  have hb3:=hb3.ext hE7 hG3
  have hb4:=hb4.ext hE7 hG4
  have hb6:=hb6.ext hE7 hG6
  have hb7:=hb7.ext hE7 hG7
  have hLr:=yn hLr hE7 hGl
  have hX:=hX.then (hE7.mono fun x _ e=> .inl (.inl e))
  have hG3:=zx hG3 l3 hGs
  have hG4:=zx hG4 l4 hGs
  have hG6:=zx hG6 l6 hGs
  have hG7:=zx hG7 l7 hGs
  have hA:=hA2
  have hok3:=hok2.write (at_+k) hB64
  have hFs:∀(D':kg) x,PutF b4 b6 (G2,D') x→PutF b4 b6 (G,D2) x∨W.heap.size≤x:=fun D' x hx=>by
   rcases hx with hx|hx
   ·exact(hGs x hx).elim (fun h=> .inl (.inl h)) fun h=> .inr (Nat.le_trans hX4 h)
   exact .inl (.inr hx)
  refine zw1 gc rfl (zv (Df (yx1 (yd (zw1 gc rfl (zv (Df (ci_if rfl (fun hc=> ?_) (fun hc=> ?_)))))))))
  ·rw[if_pos hc] at hstep
   refine yx1 (yd (zw1 gc rfl (wli (.round _) rfl (xr gc hb6 rfl rfl rfl fun w8 hb6 hE8 hs8=> ?_))))
   have hb3:=hb3.gk hE8 ne3_6
   have hb4:=hb4.gk hE8 ne4_6
   have hb7:=hb7.gk hE8 ne6_7.symm
   have hA:=hA.ext hE8 fun x hx e=>by have e:x=b6:=e;subst e;exact hG6 hx
   have hLr:=yn hLr hE8 nl6.symm
   have hX:=hX.then (hE8.mono fun x _ e=>by have e:x=b6:=e;subst e;exact(.inl (.inr (.inr rfl))))
   refine zv (Df (ci_ret ?_))
   exact gq (ji (fin_stop (.inl ⟨rfl,rfl⟩) (G2,(D2.write (at_+k) Bk).1) hRd hLr hX (hFs _) (⟨rfl,hA,⟨hG3,hG4,hG6⟩,by rw[hstep],⟨hb4.lt,hb6.lt⟩,by rw[hstep];exact hb6⟩)))
  rw[if_neg hc] at hstep
  refine ci_skip (Df (yd (wli (.round _) rfl (st_ldb gc hb4 rfl rfl (zw1 gc rfl ?_)))))
  rw[IntWalk.i64_in _ zo]
  refine wli (.round _) rfl (xr gc hb4 rfl rfl rfl fun w9 hb4 hE9 hs9=> ?_)
  have hb3:=hb3.gk hE9 ne3_4
  have hb6:=hb6.gk hE9 ne4_6.symm
  have hb7:=hb7.gk hE9 ne4_7.symm
  have hA:=hA.ext hE9 fun x hx e=>by have e:x=b4:=e;subst e;exact hG4 hx
  have hLr:=yn hLr hE9 nl4.symm
  have hX:=hX.then (hE9.mono fun x _ e=>by have e:x=b4:=e;subst e;exact(.inl (.inr (.inl rfl))))
  refine zv ?_
  exact jz (fin_next (G2,(D2.write (at_+k) Bk).1) hRd hLr hX (hFs _) (⟨hA,by rw[show m+2*(k+1)=m+2*k+2 from by omega];exact hok3,hstep,⟨hG3,hG4,hG6⟩,hb3,by rw[show(at_+((k+1:Nat):Int))=at_+k+1 from by omega];exact hb4,_,hb6⟩))
 ·obtain⟨G,D2⟩:=z
  obtain⟨hA,hok2,hlay,⟨hG3,hG4,hG6⟩,hb3,hb4,e0,hb6⟩:=hJ
  dsimp only at hA hok2 hlay hG3 hG4 hG6
  rw[List.drop_length] at hlay
  have hX:Ext F w W:=hX.trans hE fun x hx e=>by rcases e with e|rfl|rfl;exact e;omega;omega
  have nd3:b3≠DD:=by omega
  have nd6:b6≠DD:=hnd _ (.inr (.inr rfl))
  have hGD:¬G DD:=fun e=>hnd _ (.inl e) rfl
  have hGF:∀x,G x→F x∨w.heap.size≤x:=fun x hx=>(hsub x (.inl hx)).elim (fun e=>by rcases e with e|rfl|rfl;exact .inl e;omega;omega) fun e=> .inr zo
  have hDl:=uh hmk
  refine jz (gy (km rfl (jb hb3 rfl rfl ?_)))
  have hX4:=hX.size
  have l6:=hb6.lt
  refine gi call144 rfl (dkSync W hA hok2 zo) fun v10 w10 hr10=> ?_
  obtain⟨rfl,G2,hA2,hE10,hGs⟩:=hr10
  have hb3:=hb3.ext hE10 hG3
  have hb6:=hb6.ext hE10 hG6
  have hmk:=yn hmk hE10 hGD
  have hX:=hX.trans hE10 fun x hx e=>(hGF x e).resolve_right zo
  have hG6:=zx hG6 l6 hGs
  have hA:=hA2
  have hG3:=yt hGF hX4 hGs
  refine ky hb6 rfl rfl rfl fun w11 hb6 hE11 hs11=> ?_
  have hb3:=hb3.gk hE11 ne3_6
  have hmk:=yn hmk hE11 nd6.symm
  have hA:=hA.ext hE11 fun x hx e=>by have e:x=b6:=e;subst e;exact hG6 hx
  have hX:=hX.gj hE11 fr6
  refine ql (gr (Bz [DD] zp (fun x hx=>by rw[List.mem_singleton.1 hx];exact hmk) [.int .i64 D2.sync.2] (fun w20 hE20=> ?_) (.inl rfl)))
  refine⟨⟨⟨b6,0,rfl,Dd gc rfl rfl ((hb6.ext hE20 (fun e=>nd6 (List.mem_singleton.1 e))).cell rfl)⟩,trivial⟩,?_⟩
  rw[hlay]
  exact⟨rfl,G2,hA.ext hE20 fun x hx e=>by rw[List.mem_singleton.1 e] at hx;exact(hGs DD hx).elim hGD fun h=>by omega,hX.trans hE20 fun x hx e=>by rw[List.mem_singleton.1 e] at hx;omega,hG3⟩
 obtain⟨G,D2⟩:=z
 obtain⟨rfl,hA,⟨hG3,hG4,hG6⟩,hlay,⟨hl4,hl6⟩,hb6⟩:=hJ
 dsimp only at hA hlay hG3 hG4 hG6
 have hX:Ext F w W:=hX.trans hE fun x hx e=>by rcases e with e|rfl|rfl;exact e;omega;omega
 have nd6:b6≠DD:=hnd _ (.inr (.inr rfl))
 have hGD:¬G DD:=fun e=>hnd _ (.inl e) rfl
 have hGF:∀x,G x→F x∨w.heap.size≤x:=fun x hx=>(hsub x (.inl hx)).elim (fun e=>by rcases e with e|rfl|rfl;exact .inl e;omega;omega) fun e=> .inr zo
 refine gr (ji (gq (Bz [DD] zp (fun x hx=>by rw[List.mem_singleton.1 hx];exact hmk) [.int .i64 (Au D at_ L).2] (fun w20 hE20=> ?_) (.inl rfl))))
 refine⟨⟨⟨b6,0,rfl,Dd gc rfl rfl ((hb6.ext hE20 (fun e=>nd6 (List.mem_singleton.1 e))).cell rfl)⟩,trivial⟩,?_⟩
 exact⟨rfl,G,by rw[hlay];exact hA.ext hE20 fun x hx e=>by rw[List.mem_singleton.1 e] at hx;exact hGD hx,hX.trans hE20 fun x hx e=>by rw[List.mem_singleton.1 e] at hx;omega,hGF⟩
theorem begin_calls (w:World) {d m n t c:Nat} {F:Nat→Prop} {D:kg} {p:Option Addr} {b:Bytes} (h:At w d F D) (hok:D.Ok m) (hm:m+2000<1000000000) (hn:n<1000000) (ht:t<4294967296) (hs:x3 w p b) (hbl:b.length≤40000) (hr:Rt w) (hF0:¬F 0):
  gp prog 73 [.agg #[.pointer (some ⟨d,0,none⟩),.int .i64 (n:Int)],.int .u32 (t:Int),.slice p b.length c] w fun v w'=>v= .int .i64 (zz D t n b).2∧DkQ w d F (zz D t n b).1 w':=by
 refine gh func73 rfl rfl rfl rfl ?_
 have hX:=Ext.refl F w
 have hFlt:=h.lt
 have hsl:=Cx b.length
 have hr0:=hr.lt
 refine kz (gw rfl fun b3 w1 hn3 hb3 hE1=> ?_)
 have fr3:=Nat.le_trans hX.size hn3
 have h:=h.ga hE1
 have hs:=hs.ga hE1
 have hr:=Rt.ext hr hE1 id
 have hX:=hX.gb hE1
 have hb3:gz w1 b3 155 ([.pointer (some ⟨d,0,none⟩),.int .i64 (n:Int)]):=hb3
 refine gw rfl fun b4 w2 hn4 hb4 hE2=> ?_
 have ne3_4:b3≠b4:=Nat.ne_of_lt (Nat.lt_of_lt_of_le hb3.lt hn4)
 have fr4:=Nat.le_trans hX.size hn4
 have hb3:=hb3.ga hE2
 have h:=h.ga hE2
 have hs:=hs.ga hE2
 have hr:=Rt.ext hr hE2 id
 have hX:=hX.gb hE2
 have hb4:gz w2 b4 35 ([.int .u32 (t:Int)]):=hb4
 have hF3:¬F b3:=fun e=>by have:=hFlt _ e;omega
 have hF4:¬F b4:=fun e=>by have:=hFlt _ e;omega
 refine ju rfl (gl (gl (jt rfl 9 [(0,true),(1,true),(2,true),(4,true),(5,true),(3,false),(6,false),(7,false),(8,true)] [] (F) zk fun w3 hE3 hs3=> ?_)))
 have hd3:=hb3
 have hd4:=hb4
 have hd:=h
 have hsd:=hs
 have hrd:=hr
 have hXd:=hX
 have hb3:=hb3.ga hE3
 have hb4:=hb4.ga hE3
 have h:=h.ga hE3
 have hs:=hs.ga hE3
 have hr:=Rt.ext hr hE3 id
 have hX:=hX.gb hE3
 have hC:Ext (F) _ w3:=hE3.no
 refine qi gc rfl rfl (fun w' hw'=>((hd3.ext hw' hF3).ki)) rfl ?_
 refine qi gc rfl rfl (fun w' hw'=>((hd3.ext hw' hF3).ki)) rfl ?_
 refine j5 gc rfl rfl (fun w' hw'=>((hd4.ext hw' hF4).cell rfl)) ?_
 refine j5 gc rfl rfl (fun w' hw'=>((hd4.ext hw' hF4).cell rfl)) ?_
 refine gx gc 1 rfl (jg rfl (j2 call120 rfl (zv9 w3 (.pointer (some ⟨d,0,none⟩)) n t zo ht rfl) fun v4 w4 hr4=>⟨(by obtain⟨rfl,hE4⟩:=hr4;exact hC.gb hE4),?_⟩))
 obtain⟨rfl,hE4⟩:=hr4
 have hb3:=hb3.ga hE4
 have hb4:=hb4.ga hE4
 have h:=h.ga hE4
 have hs:=hs.ga hE4
 have hr:=Rt.ext hr hE4 id
 have hX:=hX.gb hE4
 have hC:=hC.gb hE4
 refine jg rfl (j2 call121 rfl (yq7 w4 t 0 (p:=p) (m:=b.length) (c:=c)) fun v5 w5 hr5=>⟨(by obtain⟨bb,bt,bn,rfl,hnn,hbb,hbt,hbn,hE5⟩:=hr5;exact hC.gb hE5),?_⟩)
 obtain⟨bb,bt,bn,rfl,hnn,hbb,hbt,hbn,hE5⟩:=hr5
 have hb3:=hb3.ga hE5
 have hb4:=hb4.ga hE5
 have h:=h.ga hE5
 have hs:=hs.ga hE5
 have hr:=Rt.ext hr hE5 id
 have hX:=hX.gb hE5
 have hC:=hC.gb hE5
 have hX1:=hX.size
 have l3:=hb3.lt
 have l4:=hb4.lt
 refine jg rfl (j2 call71 rfl (yj7 w5 (n:=n) (L:=uw t 0 b) (own:=fun x=>x=0) h hok (by rw[vn];omega) (u9 t n:Int) (by unfold u9;split<;>omega) (D9 t 0 b) call178 (fun w1 hE1=>by rw[vn];exact xx9 w1 (hbb.ga hE1) (hbt.ga hE1) (hbn.ga hE1) (hs.ga hE1) ht zd hbl (hr.ext hE1 id)) (fun x e=>by subst e;exact⟨Nat.lt_of_lt_of_le hr0 (by have:=hX.size;omega),hF0⟩)) fun v6 w6 hr6=>⟨(by obtain⟨rfl,F2,h2,hE6,hF2⟩:=hr6;exact hC.then hE6),?_⟩)
 obtain⟨rfl,F2,h2,hE6,hF2⟩:=hr6
 have hb3:=hb3.ext hE6 hF3
 have hb4:=hb4.ext hE6 hF4
 have hX:=hX.then hE6
 have hC:=hC.then hE6
 have hF3:=zx hF3 l3 hF2
 have hF4:=zx hF4 l4 hF2
 have hr:=Rt.ext hr hE6 hF0
 have hF0:=zx hF0 zo hF2
 obtain⟨y,hy⟩:∃y,y=Au D (u9 t n) (uw t 0 b):=⟨_,rfl⟩
 have hyo:=zv1 (uw t 0 b) (u9 t n:Int) hok (D9 t 0 b)
 rw[vn] at hyo
 have hbe:zz D t n b=if y.2≠0 then y else Au y.1 ((t%2:Nat):Int) [zw8 t n]:=by rw[hy];rfl
 rw[←hy] at h2 hyo⊢
 rw[hbe]
 have hF2:=yt (fun x=> .inl) hX1 hF2
 refine gx gc 1 rfl (jj (j9 (gy (jc rfl (jp rfl (fun hc=> ?_) (fun hc=> ?_))))))
 ·rw[if_pos hc]
  refine jc rfl (gr (gq (gv rfl rfl ?_)))
  exact⟨rfl,F2,h2,hX,hF2⟩
 rw[if_neg hc]
 refine j6 (gy (kz (jh hb3 rfl rfl (jb hb4 rfl rfl (j7 gc rfl ?_)))))
 rw[and1 t ht]
 refine j7 gc rfl ?_
 rw[IntWalk.i64_in ((t%2:Nat):Int) zo]
 refine j7 gc rfl ?_
 have hX2:=hX.size
 have hHl:=Ck t n
 have hbi:=fun w1 (hE1:Ext No w6 w1)=>begin1_iter w1 (hb3.ga hE1) (hb4.ga hE1) rfl zo ht (hr.ext hE1 id)
 generalize zw8 t n=Hd at hHl hbi⊢
 refine gi call71 rfl (yj7 w6 (n:=n) (L:=[Hd]) (own:=fun x=>x=b3∨x=b4∨x=0) h2 hyo zc ((t%2:Nat):Int) zo (fun x hx=>by rw[List.mem_singleton.1 hx];exact hHl) call146 hbi (fun x e=>by rcases e with rfl|rfl|rfl;exact⟨hb3.lt,hF3⟩;exact⟨hb4.lt,hF4⟩;exact⟨hr.lt,hF0⟩)) fun v7 w7 hr7=> ?_
 obtain⟨rfl,F4,h4,hE7,hF4s⟩:=hr7
 have hX:=hX.trans hE7 fun x hx e=>(hF2 x e).resolve_right zo
 refine ju rfl (gr (gv rfl rfl ?_))
 exact⟨rfl,F4,h4,hX,yt hF2 hX2 hF4s⟩
def xz (u:World) (H:Nat→Prop) (v:Value) (b:Bytes):Prop:=∃p c,v= .slice p b.length c∧b.length≤c∧x3 u p b∧∀y off,p=some ⟨y,off,none⟩→H y∧TyB u y 5
theorem xz.ext {S H:Nat→Prop} {u u':World} {v:Value} {b:Bytes} (h:xz u H v b) (hE:Ext S u u') (hS:∀y,H y→TyB u y 5→¬S y):xz u' H v b:=by
 obtain⟨p,c,f,g,i,d⟩:=h
 exact⟨p,c,f,g,i.ext hE fun y a e=>hS y (d y a e).1 (d y a e).2,fun y a e=>⟨(d y a e).1,(d y a e).2.ext hE (hS y (d y a e).1 (d y a e).2)⟩⟩
theorem xz.mono {H H':Nat→Prop} {u:World} {v:Value} {b:Bytes} (h:xz u H v b) (hH:∀y,H y→H' y):xz u H' v b:=by
 obtain⟨p,c,h1,h2,h3,h4⟩:=h
 exact⟨p,c,h1,h2,h3,fun y off e=>⟨hH y (h4 y off e).1,(h4 y off e).2⟩⟩
def qe (u:World) (H:Nat→Prop) (ps:List Bytes) (rows:List Value):Prop:=rows.length=ps.length∧∀(i:Nat) (b:Bytes) (v:Value),ps[i]? =some b→rows[i]? =some v→xz u H v b
theorem qe.ext {S H:Nat→Prop} {u u':World} {ps:List Bytes} {rows:List Value} (h:qe u H ps rows) (hE:Ext S u u') (hS:∀y,H y→TyB u y 5→¬S y):qe u' H ps rows:=⟨h.1,fun i b v h1 h2=>(h.2 i b v h1 h2).ext hE hS⟩
theorem qe.mono {H H':Nat→Prop} {u:World} {ps:List Bytes} {rows:List Value} (h:qe u H ps rows) (hH:∀y,H y→H' y):qe u H' ps rows:=⟨h.1,fun i b v h1 h2=>(h.2 i b v h1 h2).mono hH⟩
theorem qe.one {u:World} {H:Nat→Prop} {ps:List Bytes} {rows:List Value} (h:qe u H ps rows):∀v∈rows,v.oneCell'=true:=fun v hv=>by
 obtain⟨i,hi,rfl⟩:=List.mem_iff_getElem.1 hv
 obtain⟨p,c,e,_⟩:=h.2 i (ps[i]'(by rw[←h.1];exact hi)) rows[i] zp zp
 rw[e];rfl
theorem qe.snoc {u:World} {H:Nat→Prop} {ps:List Bytes} {rows:List Value} (h:qe u H ps rows) {b:Bytes} {v:Value} (hv:xz u H v b):qe u H (ps++[b]) (rows++[v]):=by
 refine⟨by simp[h.1],fun i e f a c=> ?_⟩
 rcases Nat.lt_or_ge i ps.length with d|d
 ·rw[List.getElem?_append_left d] at a
  rw[List.getElem?_append_left (by rw[h.1];exact d)] at c
  exact h.2 i e f a c
 rw[List.getElem?_append_right d] at a
 rw[List.getElem?_append_right (by rw[h.1];exact d),h.1] at c
 have g:i-ps.length=0:=by
  have:=(List.getElem?_eq_some_iff.1 a).1
  simp at this;omega
 rw[g] at a c
 simp at a c
 subst a c
 exact hv
theorem qe.drop {u:World} {H:Nat→Prop} {ps:List Bytes} {rows:List Value} (h:qe u H ps rows) (k:Nat):qe u H (ps.drop k) (rows.drop k):=
 ⟨by simp[h.1],fun i b v h1 h2=>h.2 (k+i) b v (by rw[List.getElem?_drop] at h1;exact h1) (by rw[List.getElem?_drop] at h2;exact h2)⟩
theorem qe.get {u:World} {H:Nat→Prop} {ps:List Bytes} {rows:List Value} (h:qe u H ps rows) {i:Nat} (hi:i<ps.length):∃p c,rows[i]? =some (.slice p (ps[i]).length c)∧(ps[i]).length≤c∧x3 u p ps[i]∧∀y off,p=some ⟨y,off,none⟩→H y∧TyB u y 5:=by
 obtain⟨p,c,e,a⟩:=h.2 i ps[i] (rows[i]'(by rw[h.1];exact hi)) zp zp
 exact⟨p,c,by rw[←e];simp,a⟩
structure xg (u:World) (x d:Nat) (H:Nat→Prop) (W:Wl):Prop where
  box:∃q c rows,gz u x 162 [.pointer (some ⟨d,0,none⟩),.int .i64 (W.size:Int),.int .u32 (W.turn:Int),.slice q W.pieces.length c,.int .i64 (W.used:Int),.bool W.broken]∧Own u q W.pieces.length c 41 1 rows∧qe u H W.pieces rows∧∀y,jd q y→H y
  own:H x
  lt:∀y,H y→y<u.heap.size
theorem xg.ext {S H:Nat→Prop} {u u':World} {x d:Nat} {W:Wl} (h:xg u x d H W) (hE:Ext S u u') (hS:∀y,H y→¬S y):xg u' x d H W:=by
 obtain⟨⟨q,c,a,g,i,j,e⟩,f,k⟩:=h
 exact⟨⟨q,c,a,g.ext hE (hS x f),i.ext hE fun y b=>hS y (e y b),j.ext hE fun y b _=>hS y b,e⟩,f,fun y b=>Nat.lt_of_lt_of_le (k y b) hE.size⟩
theorem xg.ga {H:Nat→Prop} {u u':World} {x d:Nat} {W:Wl} (h:xg u x d H W) (hE:Ext No u u'):xg u' x d H W:=h.ext hE fun _ _=>id
theorem xg.data {H:Nat→Prop} {u:World} {x d:Nat} {W W':Wl} (h:xg u x d H W) (h1:W'.size=W.size) (h2:W'.turn=W.turn) (h3:W'.pieces=W.pieces) (h4:W'.used=W.used) (h5:W'.broken=W.broken):xg u x d H W':=by
 obtain⟨a,b,c⟩:=h
 exact⟨by rw[h1,h2,h3,h4,h5];exact a,b,c⟩
structure Wl.Ok (W:Wl):Prop where
  size:4≤W.size∧W.size≤1000
  secs:2+2*W.size≤W.D.secs.length
  turn:W.turn<4294967296
  some:W.pieces≠[]
  short:∀b∈W.pieces,b.length≤40000
  few:W.pieces.length≤W.size
  used:W.used=u6 W.pieces
  room:W.used≤W.size
theorem cloneB_nil (w:World) {c:Nat}:
  gp prog 35 [.slice none 0 c] w fun v w'=>∃q k,v= .slice q 0 k∧Own w' q 0 k 5 1 []∧(∀y,jd q y→w.heap.size≤y)∧Ext No w w':=by
 refine gh func35 rfl rfl rfl rfl ?_
 have a:=Ext.refl No w
 refine jc rfl (gl (jc rfl (vi rfl (jc rfl (gr (gq (gv rfl rfl ?_)))))))
 exact⟨none,0,rfl,Own.nil _ _ _,fun y b=>(by cases b),a⟩
theorem cloneB_some (w:World) {a:Addr} {c:Nat} {l:Bytes} (h:x3 w (some a) l) (hl:l.length<1000000000):
  gp prog 35 [.slice (some a) l.length c] w fun v w'=>∃q k,v= .slice q l.length k∧Own w' q l.length k 5 1 (ge l)∧(∀y,jd q y→w.heap.size≤y)∧Ext No w w':=by
 refine gh func35 rfl rfl rfl rfl ?_
 have b:=Ext.refl No w
 refine jc rfl (gl (jc rfl (u3 rfl (j6 (gy (kz ?_))))))
 refine wl (qc gc rfl 1 rfl rfl rfl zd zd trivial (l':=[]) rfl fun A B r f d s=> ?_)
 have b:=b.gb d
 refine j7 gc rfl ?_
 refine wl (uc gc rfl 1 1 rfl rfl rfl zd (Own.blk (n:=0) (c:=0) f 1 rfl (Nat.le_refl _) zd) (Src.slice (h.ga b) OneC.h) zm zn fun p t u g i j=> ?_)
 have b:=b.trans i fun y C m=>by have:=own1 m;omega
 have o:∀x,jd p x→w.heap.size≤x:=fun x z=>(j x z).elim (fun m=>by have:=own1 m;omega) fun h=>by have:=d.size;omega
 have e:Own u p (0+l.length) t 5 1 (ge l):=g
 rw[Nat.zero_add] at e
 dsimp only
 rw[Nat.zero_add]
 refine ju rfl (gr (gv rfl rfl ?_))
 exact⟨_,_,rfl,e,o,b⟩
theorem xp (w:World) {p:Option Addr} {c:Nat} {l:Bytes} (h:x3 w p l) (hl:l.length<1000000000):
  gp prog 35 [.slice p l.length c] w fun v w'=>∃q k,v= .slice q l.length k∧Own w' q l.length k 5 1 (ge l)∧(∀y,jd q y→w.heap.size≤y)∧Ext No w w':=by
 cases p with
 |none=>
  have d:l=[]:=by
   rcases h.2 with e|⟨b,f,g,_⟩
   ·exact List.eq_nil_of_length_eq_zero e
   cases g
  subst d
  exact cloneB_nil w
 |some a=>exact cloneB_some w h hl
theorem cloneP_nil (w:World) {c:Nat}:
  gp prog 138 [.slice none 0 c] w fun v w'=>∃q k,v= .slice q 0 k∧Own w' q 0 k 41 1 []∧(∀y,jd q y→w.heap.size≤y)∧Ext No w w':=by
 refine gh func138 rfl rfl rfl rfl ?_
 have a:=Ext.refl No w
 refine jc rfl (gl (jc rfl (vi rfl (jc rfl (gr (gq (gv rfl rfl ?_)))))))
 exact⟨none,0,rfl,Own.nil _ _ _,fun y b=>(by cases b),a⟩
theorem cloneP_some (w:World) {a:Addr} {c:Nat} {n:Nat} {rows:List Value} (h:Sl w (some a) n 1 rows) (hl:n<1000000000) (h1:∀v∈rows,v.oneCell'=true):
  gp prog 138 [.slice (some a) n c] w fun v w'=>∃q k,v= .slice q n k∧Own w' q n k 41 1 rows∧(∀y,jd q y→w.heap.size≤y)∧Ext No w w':=by
 refine gh func138 rfl rfl rfl rfl ?_
 have b:=Ext.refl No w
 refine jc rfl (gl (jc rfl (u3 rfl (j6 (gy (kz ?_))))))
 refine wl (qc gc rfl 1 rfl rfl rfl zd zd trivial (l':=[]) rfl fun z A p f d r=> ?_)
 have b:=b.gb d
 refine j7 gc rfl ?_
 refine wl (uc gc rfl 1 24 rfl rfl rfl zd (Own.blk (n:=0) (c:=0) f 1 rfl (Nat.le_refl _) zd) (Src.slice (h.ga b) h1) zm zn fun o s t g i j=> ?_)
 have b:=b.trans i fun y B l=>by have:=own1 l;omega
 have m:∀x,jd o x→w.heap.size≤x:=fun x u=>(j x u).elim (fun l=>by have:=own1 l;omega) fun h=>by have:=d.size;omega
 have e:Own t o (0+n) s 41 1 rows:=g
 rw[Nat.zero_add] at e
 dsimp only
 rw[Nat.zero_add]
 refine ju rfl (gr (gv rfl rfl ?_))
 exact⟨_,_,rfl,e,m,b⟩
theorem cloneP_calls (w:World) {p:Option Addr} {n c:Nat} {rows:List Value} (h:Sl w p n 1 rows) (hl:n<1000000000) (h1:∀v∈rows,v.oneCell'=true):
  gp prog 138 [.slice p n c] w fun v w'=>∃q k,v= .slice q n k∧Own w' q n k 41 1 rows∧(∀y,jd q y→w.heap.size≤y)∧Ext No w w':=by
 cases p with
 |none=>
  have d:n=0:=by
   rcases h.2 with f|⟨b,g,h1,_⟩
   ·exact f
   cases h1
  subst d
  have e:rows=[]:=List.eq_nil_of_length_eq_zero (by simpa using h.1)
  subst e
  exact cloneP_nil w
 |some a=>exact cloneP_some w h hl h1
theorem left_calls (w:World) {x d:Nat} {H:Nat→Prop} {W:Wl} (h:xg w x d H W) (h1:W.size<1000000000) (h2:W.used<1000000000):
  gp prog 66 [.pointer (some ⟨x,0,none⟩)] w fun v w'=>v= .int .i64 ((W.size:Int)-W.used)∧Ext No w w':=by
 obtain⟨⟨q,c,i,b,j,k,l⟩,m,n⟩:=h
 refine gh func66 rfl rfl rfl rfl ?_
 have f:=Ext.refl No w
 refine jc rfl (gl (jc rfl (u3 rfl (xy ?_))))
 refine jt rfl 11 [(0,true),(1,true),(2,true),(3,true),(4,true),(5,true),(6,true),(7,true),(8,true),(9,true),(10,true)] [] (No) zk fun p g o=> ?_
 have e:=f
 have f:=f.gb g
 refine gx gc 4 rfl (j5 gc rfl rfl (fun w' a=>((b.ga (e.gb a)).cell rfl)) ?_)
 refine gx gc 3 rfl (j5 gc rfl rfl (fun w' a=>((b.ga (e.gb a)).cell rfl)) ?_)
 refine gx gc 2 rfl ?_
 rw[IntWalk.i64_in _ zo]
 refine jj (j9 (gy (gr (gv rfl rfl ?_))))
 exact⟨rfl,f⟩
theorem broken_calls (w:World) {x d:Nat} {H:Nat→Prop} {W:Wl} (h:xg w x d H W):
  gp prog 69 [.pointer (some ⟨x,0,none⟩)] w fun v w'=>v= .bool W.broken∧Ext No w w':=by
 obtain⟨⟨q,c,e,a,g,i,j⟩,k,l⟩:=h
 refine gh func69 rfl rfl rfl rfl ?_
 have m:=Ext.refl No w
 refine jc rfl (jv (α:=Bool) [] rfl (fun z=>[(2,.bool z)]) (fun z u=>u=w∧z=W.broken) ?_ ?_)
 ·refine j1 ?_
  refine j7 gc rfl (ua 5 rfl (fun f=> ?_) (fun f=> ?_))
  ·refine j3 gc 3 rfl ?_
   refine j0 rfl (a.cell rfl) (j7 gc rfl (gn ?_))
   exact j4 (_) rfl ⟨rfl,rfl⟩
  cases f
 rintro z n ⟨b,rfl⟩
 have b:=b.symm
 subst b
 refine gr (gv rfl rfl ?_)
 exact⟨rfl,m⟩
theorem ready_calls (w:World) {x d:Nat} {H:Nat→Prop} {W:Wl} (h:xg w x d H W) {p:Option Addr} {n k:Nat}:
  gp prog 116 [.pointer (some ⟨x,0,none⟩),.slice p n k] w fun v w'=>v= .int .i64 (if 40000<n then 3 else if W.broken=true then 8 else 0)∧Ext No w w':=by
 obtain⟨⟨q,c,f,b,g,i,j⟩,l,m⟩:=h
 refine gh func116 rfl rfl rfl rfl ?_
 have e:=Ext.refl No w
 refine jc rfl (gl (gu (jc rfl (u3 rfl (jc rfl (jp rfl (fun a=> ?_) (fun a=> ?_)))))))
 ·rw[if_pos zo]
  refine jc rfl (gr (ji (gq (gv rfl rfl ?_))))
  exact⟨rfl,e⟩
 rw[if_neg zo]
 refine km rfl (j0 rfl (b.cell rfl) (ju rfl (vh rfl (fun a=> ?_) (fun a=> ?_))))
 ·rw[if_pos a]
  refine jc rfl (gr (ji (gq (gv rfl rfl ?_))))
  exact⟨rfl,e⟩
 rw[if_neg (by rw[a];decide)]
 refine j6 (jz (gy (jc rfl (gr (gv rfl rfl ?_)))))
 exact⟨rfl,e⟩
theorem snapshot_calls (w:World) {x d:Nat} {H:Nat→Prop} {W:Wl} (h:xg w x d H W) (hne:0<W.pieces.length) (hsh:(W.pieces[0]).length<1000000000):
  gp prog 59 [.pointer (some ⟨x,0,none⟩)] w fun v w'=>∃q k,v= .slice q (W.pieces[0]).length k∧Own w' q (W.pieces[0]).length k 5 1 (ge W.pieces[0])∧(∀y,jd q y→w.heap.size≤y)∧Ext No w w':=by
 obtain⟨⟨q,c,a,e,f,g,u⟩,z,A⟩:=h
 obtain⟨I,J,i,B,j,_⟩:=g.get hne
 obtain⟨m,rfl,n⟩:∃m,q=some ⟨m,0,none⟩∧Seg w m 0 a:=by
  rcases f with⟨_,K,_⟩|⟨b,l,C,D,_,_,_,E⟩
  ·omega
  exact⟨b,C,by rw[←E];exact D.ki.take _⟩
 refine gh func59 rfl rfl rfl rfl ?_
 have o:=Ext.refl No w
 refine jc rfl (gl (jc rfl (u3 rfl (j6 (gy (km rfl (j0 rfl (e.cell rfl) ?_)))))))
 refine ka rfl 1 rfl 0 rfl hne (0+0*1) rfl (j0 rfl (n 0 _ i) (gi call35 rfl (xp w j hsh) fun L M p=> ?_))
 obtain⟨F,G,rfl,r,s,t⟩:=p
 have o:=o.gb t
 refine ju rfl (gr (gv rfl rfl ?_))
 exact⟨F,G,rfl,r,s,o⟩
end Go.Proofs.YtpdiphfjmepijaaGreatDoor
