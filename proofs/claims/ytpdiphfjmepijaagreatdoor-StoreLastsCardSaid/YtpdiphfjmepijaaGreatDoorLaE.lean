/-
  Walks and laws towards: StoreLasts: wherever the power goes, what is opened again has what was there, or what the batch was to bring, and all that its objects link to; for whatever deeds.
-/
import Derived.ChangeSame
import Derived.ReadAgain
import Derived.RowKit
import Derived.ChangeBears
import Derived.OpenShut
import Derived.Test.YtpdiphfjmepijaaGreatDoorLaD
open List renaming mem_iff_getElem→bG,getElem?_append_right→cD,length_set→cK,getElem?_append_left→cO,flatMap_cons→cX,getElem?_eq_some_iff→dB,take_left'→dC,all_eq_true→dE,flatten_cons→dG,getElem?_modify→dH
open Int renaming toNat_natCast→bV,natCast_nonneg→cF
namespace Go.Proofs.YtpdiphfjmepijaaGreatDoor
open Go.Proofs.Tryz
open Go.Vc
theorem idK:IdKey prog 30:=by
 refine⟨deep_law (m:=10) zk kId zf (by simp only[uId]),λx a=>?_,λ_ _ h=>idV_inj h⟩;have b:Nat.blt 0 prog.types.size=true:=by kernel_rfl
 obtain⟨d,c⟩:∃d,prog.types.size+1=d+2:=by
  generalize prog.types.size=n at b|-;cases n with
  |zero=>cases b
  |succ n=>exact⟨n,Z⟩
 have e:prog.keyType 30=true:=by kernel_rfl
 have f:prog.keyLits (prog.types.size+1) 30 (gh x)=some (zj4 x):=by rw[c];exact lits_bytes uId cId uByte cByte a
 refine⟨.string (keyBytes (zj4 x)),?_⟩;unfold keyOf;rw[uId];have g:(prog.keyType 30&&(idV x).formed prog 30)=true:=by rw[e,x8 a];rfl
 simp only[g,cT];show(prog.keyLits (prog.types.size+1) 30 (gh x)).map _=_;rw[f];rfl
theorem heldZ_c : cellsOf ti126.zero = gh idZ ++ km x1 noP := by kernel_rfl
theorem held_build {i:List UInt8} {o:jm} {a:x9} (hi:i.length=32) (ho:ub o):ym (gh idZ++km x1 noP) [(0,32,.agg (gh i).toArray),(32,73,.agg (km o a).toArray)]=uv ⟨i,o,a⟩:=by
 simp only[ym,jc,uv];rw[put_eq _ 0 _ (by rw[ao,gm,gm,hi,gr u6];decide),gm,hi];have c:(gh idZ++km x1 noP).drop (0+32)=km x1 noP:=List.drop_left' zj;rw[c,List.take_zero,bI];have b:(gh i).length=32:=by rw[gm,hi]
 rw[put_eq _ 32 _ (by rw[ao,b,gr u6,gr ho];exact aB _),gr ho,dC b,List.drop_of_length_le (by rw[ao,b,gr u6];exact aB _),bE]
section
variable {n1 N0 l : Nat} {J : List je -> World -> Prop} {hs : List je} {w w' : World}
end
end Go.Proofs.YtpdiphfjmepijaaGreatDoor
namespace Go.Vc
structure Sec where
  safe : List UInt8
  waits : List (List UInt8)
structure kj where
  secs : List Sec
  order : List Nat
  dead : Bool
  fuse : Int
  fault : Int
  done : Int
def zeros : List UInt8 := List.replicate 64 0
def Sec.now (s : Sec) : List UInt8 := s.waits.getLast?.getD s.safe
def kj.fresh (n : Nat) : kj := ⟨List.replicate n ⟨zeros, []⟩, [], false, -1, -1, 0⟩
def kj.now (D : kj) (i : Nat) : List UInt8 := ((D.secs[i]?).map Sec.now).getD zeros
def A0 (burns : Bool) (fu : Int) : Int := if burns = true /\ fu ≠ -1 then fu - 1 else fu
def vg (fa : Int) : Int := if fa = -1 then -1 else fa - 1
def kj.begin (D : kj) (i : Int) (burns : Bool) : kj × Int :=
  if D.dead = true then (D, 9)
  else if ¬ (0 <= i /\ i < D.secs.length) then (D, 2)
  else if D.fault = 0 then ({ D with fault := -1 }, 8)
  else if burns = true /\ D.fuse = 0 then ({ D with fault := vg D.fault, fuse := -1, dead := true }, 9)
  else ({ D with fault := vg D.fault, fuse := A0 burns D.fuse, done := D.done + 1 }, 0)
def Bq (b : List UInt8) (s : Sec) : Sec := ⟨s.safe, s.waits ++ [b]⟩
def kj.put (D : kj) (i : Nat) (b : List UInt8) : kj := { D with secs := D.secs.modify i (Bq b), order := D.order ++ [i] }
def uw (b : Bool) (s : Sec) : Sec := ⟨if b then s.waits.headD s.safe else s.safe, s.waits.tail⟩
def z1 (lives : Nat -> Bool) : List Nat -> Nat -> List Sec -> List Sec
  | [], _, secs => secs
  | k :: r, i, secs => z1 lives r (i + 1) (secs.modify k (uw (lives i)))
def kj.settle (D : kj) (lives : Nat -> Bool) : kj := { D with secs := z1 lives D.order 0 D.secs, order := [] }
def kj.read (D : kj) (i : Int) : kj × List UInt8 × Int :=
  let x := D.begin i false
  (x.1, if x.2 = 0 then x.1.now i.toNat else zeros, x.2)
def kj.write (D : kj) (i : Int) (b : List UInt8) : kj × Int :=
  let x := D.begin i true
  (if x.2 = 0 then x.1.put i.toNat b else x.1, x.2)
def kj.sync (D : kj) : kj × Int :=
  let x := D.begin 0 true
  (if x.2 = 0 then x.1.settle λ_ => true else x.1, x.2)
def yz1 (n : Int) : Int := if n < -1 then -1 else n
def kj.arm (D : kj) (n : Int) : kj × Int := if D.dead = true then (D, 9) else ({ D with fuse := yz1 n }, 0)
def zw7 (keep : List Bool) (i : Nat) : Bool := (keep[i]?).getD false
def kj.vm (D : kj) (keep : List Bool) : kj := { D.settle (zw7 keep) with dead := false, fuse := -1, fault := -1 }
structure kj.Ok (D : kj) (m : Nat) : Prop where
  size : 1 <= D.secs.length /\ D.secs.length <= 2048
  safe : ∀ s ∈ D.secs, s.safe.length = 64 /\ ∀ b ∈ s.waits, b.length = 64
  inside : ∀ k ∈ D.order, k < D.secs.length
  count : ∀ i s, D.secs[i]? = some s -> s.waits.length = D.order.count i
  few : D.order.length <= m
  fuse : -1 <= D.fuse /\ D.fuse < 9223372036854775808
  fault : -1 <= D.fault /\ D.fault < 9223372036854775808
  done : 0 <= D.done /\ D.done <= m
theorem setTo_ge (n : Int) (h : n < 9223372036854775808) : -1 <= yz1 n /\ yz1 n < 9223372036854775808 := by unfold yz1; split <;> omega
theorem fuseTo_ge (b:Bool) (n:Int) (h: -1<=n/\n<9223372036854775808): -1<=A0 b n/\A0 b n<9223372036854775808:=by unfold A0;split<;>omega
theorem faultTo_ge (n : Int) (h : -1 <= n /\ n < 9223372036854775808) : -1 <= vg n /\ vg n < 9223372036854775808 := by unfold vg; split <;> omega
theorem kj.Ok.mono {D:kj} {m m':Nat} (h:D.Ok m) (hm:m<=m'):D.Ok m':=
 ⟨h.size,h.safe,h.inside,h.count,al h.few hm,h.fuse,h.fault,by have:=h.done;omega⟩
theorem kj.zy (D:kj) (i:Int) (b:Bool):(D.begin i b).1.secs=D.secs/\(D.begin i b).1.order=D.order:=by
 unfold kj.begin;repeat' split
 all_goals exact⟨Z,Z⟩
theorem kj.Ok.begin {D:kj} {m:Nat} (h:D.Ok m) (i:Int) (b:Bool):(D.begin i b).1.Ok (m+1):=by
 have a:=fuseTo_ge b _ h.fuse;have c:=faultTo_ge _ h.fault;have d:=h.done;have e:=h.fuse;have f:=h.fault;have g:=h.few;unfold kj.begin;repeat' split
 all_goals exact⟨h.size,h.safe,h.inside,h.count,by simp only;omega,by simp only;omega,by simp only;omega,by simp only;omega⟩
theorem kj.begin0 {D:kj} (i:Int) (b:Bool) (h0:(D.begin i b).2=0):0<=i/\i<D.secs.length:=by
 unfold kj.begin at h0;repeat' split at h0
 all_goals first|(simp at h0;done)|(rename_i c _ _;exact aT.1 c)
theorem kj.Ok.put {D:kj} {m:Nat} (h:D.Ok m) {i:Nat} (hi:i<D.secs.length) {b:List UInt8} (hb:b.length=64):(D.put i b).Ok (m+1):=by
 refine⟨by simpa [kj.put] using h.size,?_,?_,?_,?_,h.fuse,h.fault,by have:=h.done;simp only[kj.put];omega⟩;intro s a;simp only[kj.put] at a;obtain⟨j,f,rfl⟩:=bG.1 a;rw[List.getElem_modify];simp only[List.length_modify] at f;have:=h.safe D.secs[j] (aC f);split;refine⟨this.1,λc d=>?_⟩;simp only[Bq,aS,aF] at d;rcases d with d|rfl;exact this.2 c d;exact hb;exact this;intro k e;simp only[kj.put,aS,aF,List.length_modify] at*;rcases e with e|rfl;exact h.inside k e;exact hi;intro j s a;simp only[kj.put] at*;rw[dH] at a;rw[List.count_append,List.count_singleton];cases hsj:D.secs[j]? with
 |none=>rw[hsj] at a;simp at a
 |some t=>
  rw[hsj] at a;have:=h.count j t hsj;by_cases hij:i=j;subst hij;simp at a;subst a;simp[Bq,this];simp[hij] at a;subst a;have:(i==j)=false:=by simpa using hij
  simp[*]
 have:=h.few;simp only[kj.put,ao,cU];omega
theorem yh (lives:Nat->Bool):∀(l:List Nat) (i:Nat) (secs:List Sec),(z1 lives l i secs).length=secs.length
 | [],_,_=>rfl
 |k::r,i,secs=>by rw[z1,yh lives r];simp
theorem xx9 (lives:Nat->Bool):∀(l:List Nat) (i:Nat) (secs:List Sec),(∀s∈secs,s.safe.length=64/\∀b∈s.waits,b.length=64)->∀s∈z1 lives l i secs,s.safe.length=64/\∀b∈s.waits,b.length=64
 | [],_,_,h=>h
 |k::r,i,secs,h=>by
  refine xx9 lives r (i+1) _ λs hs=>?_
  obtain⟨j,hj,rfl⟩:=bG.1 hs
  rw[List.getElem_modify]
  simp only[List.length_modify] at hj
  have:=h secs[j] (aC hj)
  split
  ·refine⟨?_,λb a=>this.2 b (List.mem_of_mem_tail a)⟩
   simp only[uw]
   split
   ·cases hw:secs[j].waits with
    |nil=>exact this.1
    |cons b r=>exact this.2 b (by rw[hw];simp)
   exact this.1
  exact this
theorem xx0 (lives:Nat->Bool):∀(l:List Nat) (i:Nat) (secs:List Sec) (j:Nat) (s:Sec),(z1 lives l i secs)[j]? =some s->∃t,secs[j]? =some t/\s.waits=t.waits.drop (l.count j)
 | [],_,secs,j,s,h=>⟨s,h,by simp⟩
 |k::r,i,secs,j,s,h=>by
  obtain⟨t,ht,hw⟩:=xx0 lives r (i+1) _ j s h
  rw[dH] at ht
  cases hs:secs[j]? with
  |none=>rw[hs] at ht;simp at ht
  |some u=>
   rw[hs] at ht
   refine⟨u,Z,?_⟩
   by_cases hk:k=j
   ·subst hk
    simp at ht
    subst ht
    rw[hw]
    simp only[uw,List.count_cons_self]
    rw[List.drop_tail]
   simp[hk] at ht
   subst ht
   have:(k==j)=false:=by simpa using hk
   rw[hw,List.count_cons,this]
   simp
theorem kj.Ok.settle {D:kj} {m:Nat} (h:D.Ok m) (lives:Nat->Bool):(D.settle lives).Ok m:=by
 refine⟨by simpa [kj.settle,yh] using h.size,xx9 lives _ _ _ h.safe,?_,?_,by simp[kj.settle],h.fuse,h.fault,h.done⟩;intro k a;simp[kj.settle] at a;intro i s b;obtain⟨t,c,d⟩:=xx0 lives _ _ _ i s b;rw[d,aX,h.count i t c];simp[kj.settle]
theorem kj.Ok.vm {D:kj} {m:Nat} (h:D.Ok m) (keep:List Bool):(D.vm keep).Ok m:=by
 have:=h.settle (zw7 keep);exact⟨this.size,this.safe,this.inside,this.count,this.few,by simp[kj.vm],by simp[kj.vm],this.done⟩
theorem zeros_length : zeros.length = 64 := by simp [zeros]
theorem kj.Ok.fresh {n:Nat} (h:1<=n/\n<=2048):(kj.fresh n).Ok 0:=by
 refine⟨by simpa [kj.fresh] using h,?_,?_,?_,by simp[kj.fresh],by simp[kj.fresh],by simp[kj.fresh],by simp[kj.fresh]⟩;intro s a;simp only[kj.fresh,List.mem_replicate] at a;rw[a.2];exact⟨zeros_length,λb c=>by cases c⟩
 intro k d;simp[kj.fresh] at d;intro i s a;simp only[kj.fresh,List.getElem?_replicate] at a;split at a;cases a;simp[kj.fresh];cases a
abbrev Bytes := List UInt8
abbrev numB (b : Bytes) : Value := .agg (gh b).toArray
theorem Av {b : Bytes} : ∀ u ∈ gh b, u.oneCell' = true := λu hu => by
  obtain ⟨x, _, rfl⟩ := aZ.1 hu; rfl
theorem qz {b : Bytes} (h : b.length = 64) : (gh b).length = 64 := by rw [gm, h]
def xx1 (b : Bytes) : List Int := b.map λx => (x.toNat : Int)
theorem zz9 (b : Bytes) : (xx1 b).length = b.length := by simp [xx1]
theorem numB_eq (b : Bytes) : numB b = Dm .u8 (xx1 b) := by simp [numB, Dm, xx1, gh, yk, Function.comp_def]
theorem yz6 {a b:Bytes}:xx1 a=xx1 b↔a=b:=by
 exact List.map_inj_right (f:=λx:UInt8=>(x.toNat:Int)) λx y e=> UInt8.toNat_inj.1 (by have e:(x.toNat:Int)=y.toNat:=e;omega)
def jo (n : Nat) : Nat := if 40000 < n then 0 else (n + 3) / 48 + 1
def sectZ (n : Int) : Int := if n < 0 \/ 40000 < n then 0 else ((n.toNat + 3) / 48 + 1 : Nat)
theorem Bt (n:Nat):sectZ (n:Int)=(jo n:Int):=by
 unfold sectZ jo;by_cases h:40000<n;rw[aL zk,aL h];rfl;rw[aI zk,aI h,bV]
theorem xq {n : Nat} (h : n <= 40000) : 0 < jo n := by rw [jo, aI zk]; omega
theorem Cx (n : Nat) : jo n <= 834 := by unfold jo; split <;> omega
theorem zw4 {n : Nat} (h : n <= 40000) : n + 4 <= 48 * jo n := by rw [jo, aI zk]; omega
theorem sectN_tight {n : Nat} (h : n <= 40000) : 48 * (jo n - 1) < n + 4 := by rw [jo, aI zk]; omega
def xz5 (b : Bytes) : Bytes := (sumW (b ++ List.replicate (60 - b.length) 0)).take 4 ++ (b ++ List.replicate (60 - b.length) 0)
theorem yj1 {b:Bytes} (h:b.length<=60):(xz5 b).length=64:=by
 simp only[xz5,ao,aH,C8,bN];omega
def z9 : Bytes := [114, 105, 118, 101, 114, 108, 111, 103]
def xw (turn n : Nat) : Bytes := xz5 (z9 ++ be 4 turn ++ be 4 n)
theorem Du (turn n : Nat) : (xw turn n).length = 64 := yj1 (by simp [z9, ka])
def A1 (b : Bytes) : Bytes := be 4 b.length ++ b
def qv (turn number : Nat) (b : Bytes) (k : Nat) : Bytes := xz5 (be 4 turn ++ be 4 number ++ be 2 k ++ be 2 (jo b.length) ++ ((A1 b).drop (48 * k)).take 48)
theorem pieceAt_len (turn number:Nat) (b:Bytes) (k:Nat):(qv turn number b k).length=64:=yj1 (by
 simp only[ao,ka,aH];omega)
def qq (turn number : Nat) (b : Bytes) : List Bytes := (List.range (jo b.length)).map (qv turn number b)
theorem kz (turn number : Nat) (b : Bytes) : (qq turn number b).length = jo b.length := by simp [qq]
theorem Cj (turn number:Nat) (b:Bytes):∀s∈qq turn number b,s.length=64:=λs a=>by
 obtain⟨k,_,rfl⟩:=aZ.1 a
 exact pieceAt_len _ _ _ _
def B9 (n sectors : Nat) : Prop := 4 <= n /\ n <= 1000 /\ 2 + 2 * n <= sectors
instance (n s : Nat) : Decidable (B9 n s) := inferInstanceAs (Decidable (_ /\ _ /\ _))
def jj (turn n : Nat) : Nat := if turn % 2 = 1 then 2 + n else 2
def Cp (b : Bytes) : Nat := num ((b.drop 12).take 4)
def zq1 (b : Bytes) : Nat := num ((b.drop 16).take 4)
def zx3 (i sectors : Nat) (b : Bytes) : Prop := Cp b % 2 = i /\ B9 (zq1 b) sectors /\ xw (Cp b) (zq1 b) = b
instance (i s : Nat) (b : Bytes) : Decidable (zx3 i s b) := inferInstanceAs (Decidable (_ /\ _ /\ _))
def newer (i sectors : Nat) (b : Bytes) (o : Option (Nat × Nat)) : Option (Nat × Nat) :=
  if zx3 i sectors b then match o with
    | none => some (Cp b, zq1 b)
    | some (t, n) => if t < Cp b then some (Cp b, zq1 b) else some (t, n)
  else o
def newestB (first second : Bytes) (sectors : Nat) : Option (Nat × Nat) := newer 1 sectors second (newer 0 sectors first none)
def zv7 (l : List Bytes) : Bytes := l.flatMap (·.drop 16)
def xl (s : Bytes) : Nat := num ((s.drop 16).take 4)
def Ca (l : List Bytes) (turn number : Nat) : Option Bytes :=
  match l with
  | [] => none
  | s :: _ =>
    if 40000 < xl s \/ l.length < jo (xl s) then none
    else if qq turn number (((zv7 (l.take (jo (xl s)))).drop 4).take (xl s)) = l.take (jo (xl s)) then some (((zv7 (l.take (jo (xl s)))).drop 4).take (xl s)) else none
def lyGo (turn : Nat) : Nat -> List Bytes -> Nat -> List Bytes
  | 0, _, _ => []
  | f + 1, area, n => match Ca area turn n with
    | none => []
    | some b => b :: lyGo turn f (area.drop (jo b.length)) (n + 1)
def lyingB (area : List Bytes) (turn : Nat) : List Bytes := lyGo turn area.length area 0
def jz (l : List Bytes) : Nat := (l.map λb => jo b.length).sum
def xh : kj -> Int -> List Bytes -> kj × Int
  | D, _, [] => D.sync
  | D, at_, b :: r => if (D.write at_ b).2 ≠ 0 then D.write at_ b else xh (D.write at_ b).1 (at_ + 1) r
def y8 (D : kj) (turn n : Nat) (x : Bytes) : kj × Int :=
  let y := xh D (jj turn n) (qq turn 0 x)
  if y.2 ≠ 0 then y else xh y.1 ((turn % 2 : Nat) : Int) [xw turn n]
structure Wl where
  D : kj
  size : Nat
  turn : Nat
  pieces : List Bytes
  used : Nat
  broken : Bool
def uj (D : kj) (area : Int) : kj × Int :=
  if ¬ (0 <= area /\ B9 area.toNat D.secs.length) then (D, 2)
  else
    let y := xh D 0 (List.replicate (2 + 2 * area.toNat) zeros)
    if y.2 ≠ 0 then y else y8 y.1 0 area.toNat []
def yq : kj -> Int -> Nat -> kj × List Bytes × Int
  | D, _, 0 => (D, [], 0)
  | D, at_, k + 1 =>
    let x := D.read at_
    if x.2.2 ≠ 0 then (x.1, [], x.2.2) else
      let y := yq x.1 (at_ + 1) k
      (y.1, x.2.1 :: y.2.1, y.2.2)
def z8 : kj -> Int -> List Bytes -> kj × Int
  | D, _, [] => (D, 0)
  | D, at_, b :: r => if b = zeros then z8 D (at_ + 1) r else if (D.write at_ zeros).2 ≠ 0 then D.write at_ zeros else z8 (D.write at_ zeros).1 (at_ + 1) r
def xf (D : kj) (at_ : Int) (rest : List Bytes) : kj × Int :=
  let y := z8 D at_ rest
  if y.2 ≠ 0 then y else if D.order = [] /\ (∀ b ∈ rest, b = zeros) then y else y.1.sync
def nwE (o : Option (Nat × Nat)) : Int := match o with | none => 140 | some _ => 0
def nwT (o : Option (Nat × Nat)) : Nat := match o with | none => 0 | some (t, _) => t
def xp (S : Nat) : Nat -> Nat -> kj -> Option (Nat × Nat) -> kj × Int × Option (Nat × Nat)
  | 0, _, D, o => (D, nwE o, o)
  | k + 1, i, D, o => if (D.read i).2.2 ≠ 0 then ((D.read i).1, (D.read i).2.2, none) else xp S k (i + 1) (D.read i).1 (newer i S (D.read i).2.1 o)
def ui (D : kj) : kj × Int × Option (Nat × Nat) := xp D.secs.length 2 0 D none
def xn (D : kj) (turn n : Nat) : kj × Int × Nat × Nat × List Bytes :=
  let z := yq D (jj turn n) n
  if z.2.2 ≠ 0 then (z.1, z.2.2, 0, 0, []) else
  let ps := lyingB z.2.1 turn
  if ps = [] then (z.1, 140, 0, 0, []) else
  let c := xf z.1 ((jj turn n + jz ps : Nat) : Int) (z.2.1.drop (jz ps))
  (c.1, c.2, turn, n, ps)
def u4 (D : kj) : kj × Int × Nat × Nat × List Bytes :=
  match ui D with
  | (D', _, some (turn, n)) => xn D' turn n
  | (D', e, none) => (D', e, 0, 0, [])
def Wl.opened (x : kj × Int × Nat × Nat × List Bytes) : Wl := ⟨x.1, x.2.2.2.1, x.2.2.1, x.2.2.2.2, jz x.2.2.2.2, false⟩
def Wl.refuses (W : Wl) (x : Bytes) (room : Int) : Int :=
  if 40000 < x.length then 3 else if W.broken = true then 8 else if room < jo x.length then 6 else 0
def Wl.append (W : Wl) (x : Bytes) : Wl × Int :=
  let e := W.refuses x ((W.size : Int) - W.used)
  if e ≠ 0 then (W, e) else
  let y := xh W.D ((jj W.turn W.size + W.used : Nat) : Int) (qq W.turn W.pieces.length x)
  if y.2 ≠ 0 then ({ W with D := y.1, broken := true }, y.2) else ({ W with D := y.1, broken := false, pieces := W.pieces ++ [x], used := W.used + jo x.length }, 0)
def Wl.ji (W : Wl) (x : Bytes) : Wl × Int :=
  let e := W.refuses x (if W.turn = 4294967295 then 0 else W.size)
  if e ≠ 0 then (W, e) else
  let y := y8 W.D (W.turn + 1) W.size x
  if y.2 ≠ 0 then ({ W with D := y.1, broken := true }, y.2) else ({ W with D := y.1, broken := false, turn := W.turn + 1, pieces := [x], used := jo x.length }, 0)
theorem kj.Ok.write {D:kj} {m:Nat} (h:D.Ok m) (i:Int) {b:Bytes} (hb:b.length=64):(D.write i b).1.Ok (m+2):=by
 unfold kj.write;dsimp only;have a:=h.begin i true;split;rename_i c;have d:=kj.begin0 i true c;refine a.put ?_ hb;rw[(kj.zy D i true).1];omega;exact a.mono zk
theorem kj.Ok.sync {D:kj} {m:Nat} (h:D.Ok m):D.sync.1.Ok (m+1):=by
 unfold kj.sync;dsimp only;have a:=h.begin 0 true;split;exact a.settle _;exact a
theorem kj.Ok.read {D : kj} {m : Nat} (h : D.Ok m) (i : Int) : (D.read i).1.Ok (m + 1) := h.begin i false
theorem kj.zx (D:kj) (i:Int) (b:Bytes):(D.write i b).1.secs.length=D.secs.length:=by
 unfold kj.write;dsimp only;split;simp[kj.put,(kj.zy D i true).1];rw[(kj.zy D i true).1]
theorem kj.sync_secs (D:kj):D.sync.1.secs.length=D.secs.length:=by
 unfold kj.sync;dsimp only;split;simp[kj.settle,yh,(kj.zy D 0 true).1];rw[(kj.zy D 0 true).1]
theorem kj.read_secs (D : kj) (i : Int) : (D.read i).1.secs = D.secs := (kj.zy D i false).1
theorem zq2:∀(l:List Bytes) {D:kj} {m:Nat} (at_:Int),D.Ok m->(∀b∈l,b.length=64)->(xh D at_ l).1.Ok (m+2*l.length+1)
 | [],D,m,at_,h,_=>h.sync
 |b::r,D,m,at_,h,hl=>by
  have h1:=h.write at_ (hl b zq)
  unfold xh
  split
  ·exact h1.mono zg
  exact(zq2 r (at_+1) h1 λx a=>hl x (by simp[a])).mono ze
theorem vu:∀(l:List Bytes) (D:kj) (at_:Int),(xh D at_ l).1.secs.length=D.secs.length
 | [],D,at_=>D.sync_secs
 |b::r,D,at_=>by
  unfold xh
  split
  ·exact D.zx at_ b
  rw[vu r,D.zx]
theorem beginD_ok {D:kj} {m:Nat} (h:D.Ok m) (turn n:Nat) (x:Bytes):(y8 D turn n x).1.Ok (m+2*jo x.length+4):=by
 unfold y8;dsimp only;have a:=zq2 (qq turn 0 x) (jj turn n:Int) h (Cj turn 0 x);rw[kz] at a;split;exact a.mono zk;exact(zq2 [xw turn n] _ a λb c=>by rw[aF.1 c];exact Du _ _).mono zq
theorem yx0 (D:kj) (turn n:Nat) (x:Bytes):(y8 D turn n x).1.secs.length=D.secs.length:=by
 unfold y8;dsimp only;split;rw[vu];rw[vu,vu]
theorem layD_step {L:List Bytes} {k:Nat} (hk:k<L.length) (D:kj) (at_:Int):xh D (at_+k) (L.drop k)=if(D.write (at_+k) (L.getD k [])).2≠0 then D.write (at_+k) (L.getD k []) else xh (D.write (at_+k) (L.getD k [])).1 (at_+(k+1:Nat)) (L.drop (k+1)):=by
 have e:L.getD k []=L[k]:=by simp[hk]
 rw[cB hk,xh,e,Int.natCast_add,<-Int.add_assoc];rfl
theorem formatW_no {D : kj} {area : Int} (h : ¬ (0 <= area /\ B9 area.toNat D.secs.length)) : uj D area = (D, 2) := aL h
theorem yq9 {D:kj} {a:Nat} (h:B9 a D.secs.length):uj D (a:Int)=if(xh D 0 (List.replicate (2+2*a) zeros)).2≠0 then xh D 0 (List.replicate (2+2*a) zeros) else y8 (xh D 0 (List.replicate (2+2*a) zeros)).1 0 a []:=by
 unfold uj;rw[aI (λb=>b ⟨cF a,by rw[bV];exact h⟩),bV]
theorem zeros_rep (n : Nat) : ∀ b ∈ List.replicate n zeros, b.length = 64 := λb hb => by rw [(List.mem_replicate.1 hb).2]; exact zeros_length
theorem wipeD_zero {R:List Bytes} {i:Nat} (hi:i<R.length) (h:R[i]=zeros) (D:kj) (at_:Int):z8 D (at_+i) (R.drop i)=z8 D (at_+(i+1:Nat)) (R.drop (i+1)):=by
 rw[cB hi,z8,aL h,Int.natCast_add,<-Int.add_assoc];rfl
theorem wipeD_step {R:List Bytes} {i:Nat} (hi:i<R.length) (h:R[i]≠zeros) (D:kj) (at_:Int):z8 D (at_+i) (R.drop i)=if(D.write (at_+i) zeros).2≠0 then D.write (at_+i) zeros else z8 (D.write (at_+i) zeros).1 (at_+(i+1:Nat)) (R.drop (i+1)):=by
 rw[cB hi,z8,aI h,Int.natCast_add,<-Int.add_assoc];rfl
theorem wipeD_ok:∀(l:List Bytes) {D:kj} {m:Nat} (at_:Int),D.Ok m->(z8 D at_ l).1.Ok (m+2*l.length)
 | [],D,m,at_,h=>h
 |b::r,D,m,at_,h=>by
  unfold z8
  split
  ·exact(wipeD_ok r (at_+1) h).mono zg
  have h1:=h.write at_ zeros_length
  split
  ·exact h1.mono zg
  exact(wipeD_ok r (at_+1) h1).mono zg
theorem Cn:∀(l:List Bytes) (D:kj) (at_:Int),(z8 D at_ l).1.secs.length=D.secs.length
 | [],D,at_=>rfl
 |b::r,D,at_=>by
  unfold z8
  split
  ·exact Cn r D _
  split
  ·exact D.zx _ _
  rw[Cn r,D.zx]
theorem cleanD_ok {D:kj} {m:Nat} (h:D.Ok m) (at_:Int) (l:List Bytes):(xf D at_ l).1.Ok (m+2*l.length+1):=by
 unfold xf;dsimp only;have a:=wipeD_ok l at_ h;split;exact a.mono zk;split;exact a.mono zk;exact a.sync
theorem cleanD_secs (D:kj) (at_:Int) (l:List Bytes):(xf D at_ l).1.secs.length=D.secs.length:=by
 unfold xf;dsimp only;split;exact Cn _ _ _;split;exact Cn _ _ _;rw[kj.sync_secs,Cn]
theorem xj8:∀(k:Nat) (L:List Bytes),(∀b∈L,b.length=64)->(L.flatMap gh).drop (k*64)=(L.drop k).flatMap gh
 |0,L,_=>by simp
 |k+1,[],_=>by simp
 |k+1,b::L,h=>by
  rw[cX,List.drop_succ_cons,<-xj8 k L λx hx=>h x (by simp[hx]),List.drop_append,qz (h b zq),aW (by rw[qz (h b zq)];omega),bI,show(k+1)*64-64=k*64 from by omega]
def NwOk (S : Nat) (o : Option (Nat × Nat)) : Prop := ∀ t n, o = some (t, n) -> B9 n S /\ t < 4294967296
theorem turnOf_lt {b:Bytes}:Cp b<4294967296:=by
 have h:=xu ((b.drop 12).take 4);have a:((b.drop 12).take 4).length<=4:=by rw[aH];omega
 have c:256^((b.drop 12).take 4).length<=256^4:=Nat.pow_le_pow_right zd a;exact aK h c
theorem newer_ok {i S:Nat} {b:Bytes} {o:Option (Nat×Nat)} (h:NwOk S o):NwOk S (newer i S b o):=by
 intro t n e;unfold newer at e;split at e;rename_i a;cases o with
 |none=>simp at e;obtain⟨rfl,rfl⟩:=e;exact⟨a.2.1,turnOf_lt⟩
 |some x=>
  simp only at e;split at e;simp at e;obtain⟨rfl,rfl⟩:=e;exact⟨a.2.1,turnOf_lt⟩
  exact h t n e
 exact h t n e
theorem newestGo_spec (S:Nat):∀(k i:Nat) (D:kj) (o:Option (Nat×Nat)) (m:Nat),NwOk S o->D.Ok m->
  ((xp S k i D o).1.Ok (m+k)/\(xp S k i D o).1.secs=D.secs/\(xp S k i D o).1.order=D.order)/\(((xp S k i D o).2.2=none/\(xp S k i D o).2.1≠0)\/∃t n,(xp S k i D o).2.2=some (t,n)/\(xp S k i D o).2.1=0/\B9 n S/\t<4294967296)
 |0,i,D,o,m,ho,hok=>by
  refine⟨⟨hok,Z,Z⟩,?_⟩
  cases o with
  |none=>exact .inl ⟨Z,by simp[xp,nwE]⟩
  |some x=>exact .inr ⟨x.1,x.2,Z,Z,ho x.1 x.2 Z⟩
 |k+1,i,D,o,m,ho,hok=>by
  have h1:=hok.read (i:Int)
  have a:=kj.zy D (i:Int) false
  unfold xp
  split
  ·rename_i c
   exact⟨⟨h1.mono zk,a.1,a.2⟩,.inl ⟨Z,c⟩⟩
  obtain⟨⟨d,e,f⟩,b⟩:=newestGo_spec S k (i+1) (D.read i).1 (newer i S (D.read i).2.1 o) (m+1) (newer_ok ho) h1
  exact⟨⟨d.mono zk,e.trans a.1,f.trans a.2⟩,b⟩
theorem newestD_spec {D:kj} {m:Nat} (hok:D.Ok m):((ui D).1.Ok (m+2)/\(ui D).1.secs=D.secs/\(ui D).1.order=D.order)/\(((ui D).2.2=none/\(ui D).2.1≠0)\/∃t n,(ui D).2.2=some (t,n)/\(ui D).2.1=0/\B9 n D.secs.length/\t<4294967296):=
 newestGo_spec D.secs.length 2 0 D none m (λ_ _ e=>by cases e) hok
theorem openW_no {D:kj} (h:(ui D).2.2=none):u4 D=((ui D).1,(ui D).2.1,0,0,[]):=by
 unfold u4;generalize ui D=x at h;obtain⟨a,e,o⟩:=x;subst h;rfl
theorem openW_yes {D:kj} {t n:Nat} (h:(ui D).2.2=some (t,n)):u4 D=xn (ui D).1 t n:=by
 unfold u4;generalize ui D=x at h;obtain⟨a,e,o⟩:=x;subst h;rfl
theorem xj0 (D:kj) (at_:Int) (k:Nat):yq D at_ (k+1)=if(D.read at_).2.2≠0 then((D.read at_).1,[],(D.read at_).2.2) else((yq (D.read at_).1 (at_+1) k).1,(D.read at_).2.1::(yq (D.read at_).1 (at_+1) k).2.1,(yq (D.read at_).1 (at_+1) k).2.2):=by
 rfl
theorem zw (l : List Bytes) (b : Bytes) : jz (l ++ [b]) = jz l + jo b.length := by simp [jz]
theorem liesB_some {L:List Bytes} {t n:Nat} {b:Bytes} (hL:∀s∈L,s.length=64) (h:Ca L t n=some b):b.length<=40000/\jo b.length<=L.length/\qq t n b=L.take (jo b.length):=by
 cases L with
 |nil=>cases h
 |cons s r=>
  have h:(if 40000<xl s\/(s::r).length<jo (xl s) then none
   else if qq t n (((zv7 ((s::r).take (jo (xl s)))).drop 4).take (xl s))=(s::r).take (jo (xl s)) then some (((zv7 ((s::r).take (jo (xl s)))).drop 4).take (xl s)) else none)=some b:=h
  split at h;cases h;rename_i l;split at h;rename_i g;simp only[bJ] at h;have i:xl s<=40000:=by omega
  have j:jo (xl s)<=(s::r).length:=by omega
  have c:(zv7 ((s::r).take (jo (xl s)))).length=48*jo (xl s):=by
   have:∀(L:List Bytes),(∀b∈L,b.length=64)->(zv7 L).length=48*L.length:=by
    intro L;induction L with
    |nil=>intro _;rfl
    |cons a L ih=>
     intro h;have e:zv7 (a::L)=a.drop 16++zv7 L:=rfl;rw[e,ao,aX,h a zq,ih λx k=>h x (by simp[k]),aQ];omega
   rw[this _ λb d=>hL b (bK d),aH,bP j]
  have f:=zw4 i;have d:b.length=xl s:=by rw[<-h,aH,aX,c];omega
  rw[h] at g;rw[d];exact⟨i,j,g⟩
  cases h
theorem lyGo_step (t:Nat):∀(f:Nat) (area:List Bytes) (n:Nat),(∀s∈area,s.length=64)->area.length<=f->lyGo t f area n=match Ca area t n with
  |none=>[]
  |some b=>b::lyGo t (f-1) (area.drop (jo b.length)) (n+1)
 |0,area,n,_,h=>by
  have:area=[]:=aU zk
  subst this
  rfl
 |f+1,area,n,_,_=>rfl
theorem zeros_64 {n : Nat} : ∀ s ∈ List.replicate n zeros, s.length = 64 := λs hs => by rw [(List.mem_replicate.1 hs).2]; exact zeros_length
open Go.WideShapes Go.ChangeShapes Go.RowKit
section
variable {H : Type} {enc : TypeId × Value -> H} {P : Program} {w w' : World}
theorem Ext.sameAt (hE:Ext No w w') {p:MemPlace} (hp:p.block<w.heap.size):w.sameAt w' p:=by
 cases p with
 |cell b off=>
  have:=hE.same b hp id;show w'.cell? ⟨b,off,none⟩=w.cell? ⟨b,off,none⟩;unfold World.cell?;rw[this]
 |map b=>exact hE.same b hp id
theorem trodAll_carry {base:Nat} {sp:Nat->Bool} {held:Bool}:∀{ts:List TypeId} {vs:List Value} {ds:List (DataW H)} {ps:List MemPlace},DataW.TrodAll enc P w base sp held ts vs ds ps->(∀p∈ps,w.sameAt w' p)->DataW.TrodAll enc P w' base sp held ts vs ds ps
 | [],[],[],_,h,_=>h
 |_::_,_::_,_::_,_,⟨p,q,⟨n,h1⟩,h2,e⟩,hs=>⟨p,q,⟨n,DataW.trod_carry n _ _ _ h1 λx hx=>hs x (by rw[e];exact List.mem_append_left _ hx)⟩,trodAll_carry h2 λx hx=>hs x (by rw[e];exact List.mem_append_right _ hx),e⟩
theorem post_of_old {f:Func} {s:ChangeSpec} {apart fresh handsOn again:Bool} {W W':World} {args:Array Value} {v:Value} {ds gs:List (DataW H)} {before pa pv:List MemPlace}
  (hW:DataW.Whole enc P f.params.toList s.vars apart W args.toList ds gs before)
  (hres:∀(b:Nat) (sp:Nat->Bool) (hd:Bool),DataW.TrodAll enc P W' b sp hd f.resultTypes.toList (v.resultList f.resultTypes.size) (s.fn H (ds++gs)).results [])
  (hargs:∀sp:Nat->Bool,(∀p∈before,sp p.block=true)->DataW.TrodAll enc P W' 0 sp true f.params.toList args.toList (s.fn H (ds++gs)).args pa)
  (hvars:∀sp:Nat->Bool,(∀p∈before,sp p.block=true)->DataW.TrodVars enc P W' sp s.vars (s.fn H (ds++gs)).vars pv)
  (hps:before=pa++pv) (hk:W.keptBut W' (·∈before)) (hfz:∀a:Addr,a.block<W.heap.size->W'.frozen? a=W.frozen? a)
  (hok:∀(j:Nat) (t:TypeId) (r:Value),f.resultTypes[j]? =some t->(v.resultList f.resultTypes.size)[j]? =some r->Value.okWide P W' .any 0 t r):
  s.post enc P f apart fresh handsOn again W args v W':=by
 have e:∀p∈before,p.block<W.heap.size:=λp c=>hW.lt p c;have d:∀p∈before,(λb=>decide (b<W.heap.size)) p.block=true:=λp c=>by simpa using e p c
 have h:∀p,p∈[]++pa++pv↔p∈before:=λp=>by rw[hps,bI]
 refine⟨ds,gs,before,[],pa,pv,hW,hres _ _ _,hargs _ d,hvars _ d,World.keptBut_mono (λp c=>⟨c,.inr (aS.1 (hps▸c))⟩) hk,λ_=>?_⟩;obtain⟨_,_,_,_,_,k,l⟩:=hW;refine⟨hok,_,_,([]++pa)++pv,⟨[]++pa,pv,trodAll_append (hargs _ (λ_ _=>rfl)) (hres _ _ _),hvars _ (λ_ _=>rfl),Z,λb g c=>?_,λm=>?_⟩,λp c _=>(h p).1 c⟩;have i:=(h _).1 c;rw[hfz _ (e _ i)];exact k b g i;have:=l m;rw[hps] at this;exact this
theorem post_true {f:Func} {s:ChangeSpec} {fresh handsOn again:Bool} {W W':World} {args:Array Value} {ds gs:List (DataW H)} {before:List MemPlace} (hl:laidOutB P=true) (hm:mapsRowed P=true) (hz:((List.range P.types.size).all λt=>match P.underlying t with|some (.slice e)=>decide (0<P.cellsOf e)|_=>true)=true)
  (hW:DataW.Whole enc P f.params.toList s.vars false W args.toList ds gs before) (hv:s.vars=[]) (hts:f.params.toList.all (λt=>decide (t<P.types.size))=true)
  {tb:TypeId} (hrt:f.resultTypes= #[tb]) (htb:P.underlying tb=some .bool) (hr:(s.fn H (ds++gs)).results=[.lit (.bool true)]) (ha:(s.fn H (ds++gs)).args=ds) (hvr:(s.fn H (ds++gs)).vars=[]) (hE:Ext No W W'):
  s.post enc P f false fresh handsOn again W args (.bool true) W':=by
 have b:=hW;obtain⟨p,q,g,h,rfl,_,_⟩:=hW;rw[hv] at h;obtain⟨rfl,rfl⟩:=trodVars_none h;refine post_of_old (pa:=p) (pv:=[]) b (λ_ _ _=>?_) (λj c=>?_) (λ_ _=>?_) zq (World.keptBut_mono (λ_ f=>f.elim) (hE.kept λ_ _=>id)) (λa ha=>hE.froz ha id) ?_;rw[hrt,hr];exact trodAll_cons_mk (RowKit.shut_bool htb true) trodAll_mk0;rw[ha];exact trodAll_carry (g.respare (kids_rows hl hm) (slices_full_of P hz) (λt i=>by simpa using dE.1 hts t i) λx d=>c x (by simpa using d)) λx d=> hE.sameAt (g.lt x d);rw[hv,hvr];rfl;exact ok_one hrt Z (RowKit.okWide_bool_mk htb true)
theorem cells?_seg {a:Addr} {m:Nat} {r:List Value} (h:w.cells? 0 a m=some r) (hm:0<m):a=⟨a.block,a.off,none⟩/\r.length=m/\Seg w a.block a.off r/\a.block<w.heap.size:=by
 have j:=World.cells?_block h hm;unfold World.cells? at h;rw[aL (aJ _)] at h;have b:=mapM_some_length h;have c:∀i,i<m->w.cell? (a.add i)=r[i]? :=λi k=>mapM_some_get h i i (by simp[k]);simp only[List.length_range] at b
 have d:a.spot=none:=by
  have f:=c 0 hm;have l:r[0]? =some r[0]:=by simp
  rw[l] at f;have e:a.add 0=a:=by simp[Addr.add]
  rw[e] at f;unfold World.cell? at f;split at f;split at f;cases f;rename_i p;simpa using p;cases f
 have n:a=⟨a.block,a.off,none⟩:=by rw[<-d]
 refine⟨n,b,λi v o=>?_,j⟩;have k:i<m:=by have:=(dB.1 o).1;omega
 have g:=c i k;rw[o] at g;have e:a.add i=⟨a.block,a.off+i,none⟩:=by rw[n];exact addr_add _ _ _
 rw[e] at g;exact g
theorem rows_seg {b m:Nat}:∀{L:List (List Value)} {off:Nat},Uni m L->(∀(i:Nat) (r:List Value),L[i]? =some r->Seg w b (off+i*m) r)->Seg w b off L.flatten
 | [],_,_,_=>λi v hv=>by simp at hv
 |r::L,off,hu,h=>by
  rw[dG,Seg.append]
  have hr:=hu r zq
  refine⟨by simpa using h 0 r Z,?_⟩
  rw[hr]
  refine rows_seg (λx a=>hu x (by simp[a])) λi x a=>?_
  have:=h (i+1) x (by simpa using a)
  rwa [show off+(i+1)*m=off+m+i*m from by rw[Nat.succ_mul];omega] at this
theorem open_rows {sp:Nat->Bool} {held:Bool} {fuel:Nat} {t e m:Nat} {cs:List Value} {x:DataW H×List MemPlace} (ht:P.underlying t=some (.slice e)) (hm:P.cellsOf e=m) (hm0:0<m) (h:DataW.trod enc P w 0 sp held fuel t cs=some x):
  ∃(p:Option Addr) (n c:Nat) (L:List (List Value)),cs=[.slice p n c]/\n<=c/\c<=maxLen/\L.length=n/\Uni m L/\Sl w p n m L.flatten/\(n≠0->∀b off,p=some ⟨b,off,none⟩->b<w.heap.size)/\
   ∀r∈L,∃k y,DataW.trod enc P w 0 sp held k e r=some y:=by
 subst hm
 rcases DataW.trod_slice ht h with⟨q,_⟩|⟨a,d,v,z,F,n,_,q,_,_,N,O,G,A,_⟩
 exact⟨none,0,0,[],q,aB _,by unfold maxLen;omega,Z,Uni.nil _,Sl.nil _ _ _,λh=>absurd Z h,λr g=>by cases g⟩
 have s:∀i,i<d->∃r y,w.cells? 0 (a.add (i*P.cellsOf e)) (P.cellsOf e)=some r/\DataW.trod enc P w 0 sp held n e r=some y:=by
  intro i o
  have:=A i o
  rw[aG zk,Option.bind_eq_some_iff] at this
  obtain⟨r,B,C⟩:=this
  exact⟨r,_,B,C⟩
 have f:∀i:_root_.Fin d,∃r y,w.cells? 0 (a.add (i.1*P.cellsOf e)) (P.cellsOf e)=some r/\DataW.trod enc P w 0 sp held n e r=some y:=λi=>s i.1 i.2
 let L:List (List Value):=List.ofFn λi:_root_.Fin d=>Classical.choose (f i)
 have u:∀(i:Nat) (r:List Value),L[i]? =some r->i<d/\w.cells? 0 (a.add (i*P.cellsOf e)) (P.cellsOf e)=some r/\∃y,DataW.trod enc P w 0 sp held n e r=some y:=by
  intro i r g
  have o:i<d:=by
   have:=(dB.1 g).1
   simpa [L] using this
  have:r=Classical.choose (f ⟨i,o⟩):=by
   simp only[L,List.getElem?_ofFn,o,dif_pos,bJ] at g
   exact g.symm
  subst this
  obtain⟨y,B,C⟩:=Classical.choose_spec (f ⟨i,o⟩)
  exact⟨o,B,y,C⟩
 have j:L.length=d:=by simp[L]
 have D:Uni (P.cellsOf e) L:=λr g=>by
  obtain⟨i,o,rfl⟩:=bG.1 g
  have:=u i L[i] zq
  exact(cells?_seg this.2.1 hm0).2.1
 refine⟨some a,d,v,L,q,N,O,j,D,⟨by rw[yg D,j],?_⟩,?_,λr g=>?_⟩
 rcases Nat.eq_zero_or_pos d with J|J
 exact .inl J
 right
 have l:=u 0 L[0] zq
 have E:a.add (0*P.cellsOf e)=a:=by simp[Addr.add]
 rw[E] at l
 have K:=(cells?_seg l.2.1 hm0).1
 refine⟨a.block,a.off,congrArg some K,rows_seg D λi r g=>?_⟩
 have o:=u i r g
 have:=(cells?_seg o.2.1 hm0).2.2.1
 have Q:a.add (i*P.cellsOf e)=⟨a.block,a.off+i*P.cellsOf e,none⟩:=by
  conv=>lhs;rw[K]
  exact addr_add _ _ _
 rw[Q] at this
 exact this
 intro S b off M
 have l:=u 0 (L[0]'zk) zq
 have E:a.add (0*P.cellsOf e)=a:=by simp[Addr.add]
 rw[E] at l
 have:=(cells?_seg l.2.1 hm0).2.2.2
 simp only[bJ] at M
 rw[M] at this
 exact this
 obtain⟨i,o,rfl⟩:=bG.1 g
 obtain⟨_,_,y,R⟩:=u i L[i] zq
 exact⟨n,y,R⟩
end
end Go.Vc
namespace Go.Proofs.YtpdiphfjmepijaaGreatDoor
open Go.Proofs.Tryz
open Go.Vc
abbrev dskL (sb n : Nat) (op : Option Addr) (on oc : Nat) (dead : Bool) (fu fa dn : Int) : List Value :=
  [.slice (some ⟨sb, 0, none⟩) n n, .slice op on oc, .bool dead, .int .i64 fu, .int .i64 fa, .int .i64 dn]
theorem alive_live (w:World) {d sb n:Nat} {op:Option Addr} {on oc:Nat} {dead:Bool} {fu fa dn:Int} (hb:j0 w d 153 (dskL sb n op on oc dead fu fa dn)):
  gn prog 148 [.pointer (some ⟨d,0,none⟩)] w λv w'=>v= .int .i64 (if dead then 9 else 0)/\w'=w:=by
 refine gz func148 (vo Z (kw Z (uc Z (xg (gp (qj Z (jd hb Z Z (u3 (vk Z (λh=>?_) (λh=>?_))))))))));refine kw Z (gv (gu (gy Z Z ⟨by simp[h],Z⟩)));refine xg (kw Z (gv (gy Z Z ⟨by simp[h],Z⟩)))
theorem yx5 (w:World) {d sb n:Nat} {op:Option Addr} {on oc:Nat} {dead:Bool} {fu fa dn:Int} (i:Int) (burns:Bool) {g:Nat} {caps:Array Value}
  (hcf:∀args w,(callFunc g args).run prog w= .ok (.enter g args) w)
  (hb:j0 w d 153 (dskL sb n op on oc dead fu fa dn)) (hfu: -1<=fu/\fu<9223372036854775808) (hfa: -1<=fa/\fa<9223372036854775808) (hdn:0<=dn/\dn<9223372036854775807) (R:Value->World->Prop)
  (hdead:dead=true->R (.int .i64 9) w)
  (harg:dead=false->¬(0<=i/\i<n)->R (.int .i64 2) w)
  (hio:dead=false->0<=i/\i<n->fa=0->∀w',j0 w' d 153 (dskL sb n op on oc false fu (-1) dn)->Ext (One d) w w'->R (.int .i64 8) w')
  (hfuse:dead=false->0<=i/\i<n->fa≠0->burns=true->fu=0->∀w',j0 w' d 153 (dskL sb n op on oc true (-1) (vg fa) dn)->Ext (One d) w w'->R (.int .i64 9) w')
  (hgo:dead=false->0<=i/\i<n->fa≠0->¬(burns=true/\fu=0)->∀w',j0 w' d 153 (dskL sb n op on oc false (A0 burns fu) (vg fa) (dn+1))->Ext (One d) w w'->
   gn prog g ([.pointer (some ⟨sb,i.toNat*65,none⟩)]++caps.toList) w' λ_ w2=>R (.int .i64 0) w2):
  gn prog 149 [.pointer (some ⟨d,0,none⟩),.int .i64 i,.bool burns,.func (.func g) #[] caps] w R:=by
 refine gz func149 (vo Z (qj Z (gj call148 Z (alive_live w hb) ?_)));rintro B x⟨rfl,rfl⟩;cases dead
 case true=>
  refine kg Z (kw Z (Cd Z ?_));exact kw Z (gv (gu (gy Z Z (hdead Z))))
 refine kg Z (kw Z (uc Z (xg (gp (ju (α:=Bool) [0,1,2,3] Z (λz=>[(25,.bool z)]) (λz u=>u=x/\z=decide (¬(0<=i/\i<n))) ?_ ?_)))));refine yy Z (jw 17 Z (λj=>?_) (λj=>?_));refine xj1 ge Z (gl (j2 true Z ⟨Z,?_⟩));simp;omega;refine xj1 ge Z (jd hb Z Z (xj1 ge Z (gl (j2 _ Z ⟨Z,?_⟩))));simp only[aP];omega;rintro z w ⟨rfl,rfl⟩;refine jy Z (λb=>?_) (λb=>?_);exact kw Z (gv (gu (gy Z Z (harg Z b))));have p:0<=i/\i<n:=aT.1 b;refine xg (ju (α:=Unit) [0,1,2,3] Z (λz=>[]) (λz u=>fa≠0/\j0 u d 153 (dskL sb n op on oc false fu (vg fa) dn)/\Ext (One d) w u) ?_ ?_);refine gp (yy Z (jd hb Z Z (kg Z (jy Z (λb=>?_) (λb=>?_)))));refine gp (yy Z (jd hb Z Z (j6 ge Z ?_)));rw[qc _ zk];refine qk hb Z Z Z λw2 c a k=> u3 (qj Z (jd c Z Z (kg Z (jy Z (λb=>?_) (λb=>?_)))));refine kw Z (gv (gu (gy Z Z ?_)));rw[b] at c;exact hio Z p zk w2 c a;refine qf (j2 () Z ⟨by omega,?_,a⟩);rw[show vg fa=fa-1 from aI zk];exact c;refine qf (j2 () Z ⟨by omega,?_,Ext.refl _ _⟩);rw[show vg fa=fa from by unfold vg;split<;>omega];exact hb;rintro⟨⟩ w2 ⟨f,hb,l⟩;refine ju (α:=Unit) [0,1,3] Z (λz=>[]) (λz u=>¬(burns=true/\fu=0)/\j0 u d 153 (dskL sb n op on oc false (A0 burns fu) (vg fa) dn)/\Ext (One d) w u) ?_ ?_;refine ju (α:=Bool) [0,1,3] Z (λz=>[(50,.bool z)]) (λz u=>u=w2/\z=decide (burns=true/\fu≠-1)) ?_ ?_;refine yy Z (ut 44 Z (λj=>?_) (λj=>?_));refine xj1 ge Z (jd hb Z Z (xj1 ge Z (gl (j2 _ Z ⟨Z,?_⟩))));simp[j];refine xj1 ge Z (gl (j2 false Z ⟨Z,?_⟩));simp[j];rintro z s ⟨rfl,rfl⟩;refine jy Z (λb=>?_) (λb=>?_);refine qj Z (jd hb Z Z (j6 ge Z ?_));rw[qc _ zk];refine qk hb Z Z Z λt hb a k=> u3 (qj Z (jd hb Z Z (j6 ge Z (qk hb Z Z Z λy hb m A=> u3 (qj Z (jd hb Z Z (u3 (jy Z (λv=>?_) (λv=>?_)))))))));refine kw Z (gv (gu (gy Z Z ?_)));have e:fu=0:=by omega
 subst e;exact hfuse Z p f b.1 Z y (by simpa using hb) (l.then (a.then m));refine qf (j2 () Z ⟨by omega,?_,l.then (a.then m)⟩);rw[show A0 burns fu=fu-1 from aL b];simpa [v] using hb;refine qf (j2 () Z ⟨λh=>b ⟨h.1,by omega⟩,?_,l⟩);rw[show A0 burns fu=fu from aI b];exact hb;rintro⟨⟩ s ⟨q,hb,l⟩;refine qj Z (jd hb Z Z (j6 ge Z ?_));rw[qc _ zk];exact qk hb Z Z Z λt hb a k=> u3 (qj Z (jd hb Z Z (j6 ge Z (ki Z 65 Z i.toNat zk zk (i.toNat*65) zk (gj hcf Z (hgo Z p f q t hb (l.then a)) λC s r=> u3 (kw Z (gv (gy Z Z r))))))))
def TyB (w : World) (b T : Nat) : Prop := ∃ l, j0 w b T l
theorem TyB.ext {S:Nat->Prop} {w w':World} {b T:Nat} (h:TyB w b T) (hE:Ext S w w') (hS:¬S b):TyB w' b T:=let⟨l,hl⟩:=h;⟨l,hl.ext hE hS⟩
theorem TyB.ne {w : World} {b c T U : Nat} {l : List Value} (h : TyB w b T) (k : j0 w c U l) (hT : T ≠ U) : b ≠ c := let ⟨_, hl⟩ := h; hl.ne k hT
def bl (ws : List Bytes) : List (List Value) := ws.map gh
def uf (s : Bytes) (p : Option Addr) (n c : Nat) : List Value := gh s ++ [.slice p n c]
def yw6 (w : World) (F : Nat -> Prop) (p : Option Addr) (ws : List Bytes) : Prop :=
  Sl w p ws.length 64 (bl ws).flatten /\ ∀ b off, p = some ⟨b, off, none⟩ -> F b /\ TyB w b 165
def xq9 (w : World) (F : Nat -> Prop) (s : Sec) (r : List Value) : Prop :=
  ∃ p c, r = uf s.safe p s.waits.length c /\ s.waits.length <= c /\ s.safe.length = 64 /\ (∀ b ∈ s.waits, b.length = 64) /\ yw6 w F p s.waits
theorem yw6.ext {S F:Nat->Prop} {w w':World} {p:Option Addr} {ws:List Bytes} (h:yw6 w F p ws) (hE:Ext S w w') (hS:∀b,F b->TyB w b 165->¬S b):yw6 w' F p ws:=
 ⟨h.1.ext hE λb a c=>hS b (h.2 b a c).1 (h.2 b a c).2,λb a c=>⟨(h.2 b a c).1,(h.2 b a c).2.ext hE (hS b (h.2 b a c).1 (h.2 b a c).2)⟩⟩
theorem yw6.mono {F F':Nat->Prop} {w:World} {p:Option Addr} {ws:List Bytes} (h:yw6 w F p ws) (hF:∀b,F b->F' b):yw6 w F' p ws:=⟨h.1,λb a c=>⟨hF b (h.2 b a c).1,(h.2 b a c).2⟩⟩
theorem xq9.ext {S F:Nat->Prop} {w w':World} {s:Sec} {r:List Value} (h:xq9 w F s r) (hE:Ext S w w') (hS:∀b,F b->TyB w b 165->¬S b):xq9 w' F s r:=by
 obtain⟨p,c,a,d,e,f,g⟩:=h;exact⟨p,c,a,d,e,f,g.ext hE hS⟩
theorem xq9.mono {F F':Nat->Prop} {w:World} {s:Sec} {r:List Value} (h:xq9 w F s r) (hF:∀b,F b->F' b):xq9 w F' s r:=by
 obtain⟨p,c,a,d,e,f,g⟩:=h;exact⟨p,c,a,d,e,f,g.mono hF⟩
theorem xq9.len {w:World} {F:Nat->Prop} {s:Sec} {r:List Value} (h:xq9 w F s r):r.length=65:=by
 obtain⟨p,c,rfl,_,h3,_⟩:=h;simp[uf,gh,h3]
def A8 (w : World) (F : Nat -> Prop) (secs : List Sec) (L : List (List Value)) : Prop :=
  L.length = secs.length /\ ∀ (i : Nat) (s : Sec) (r : List Value), secs[i]? = some s -> L[i]? = some r -> xq9 w F s r
theorem A8.uni {w:World} {F:Nat->Prop} {secs:List Sec} {L:List (List Value)} (h:A8 w F secs L):Uni 65 L:=λr a=>by
 obtain⟨i,b,rfl⟩:=bG.1 a
 exact(h.2 i (secs[i]'(by rw[<-h.1];exact b)) L[i] zq zq).len
theorem A8.ext {S F:Nat->Prop} {w w':World} {secs:List Sec} {L:List (List Value)} (h:A8 w F secs L) (hE:Ext S w w') (hS:∀b,F b->TyB w b 165->¬S b):A8 w' F secs L:=
 ⟨h.1,λi s r hs hr=>(h.2 i s r hs hr).ext hE hS⟩
theorem A8.mono {F F':Nat->Prop} {w:World} {secs:List Sec} {L:List (List Value)} (h:A8 w F secs L) (hF:∀b,F b->F' b):A8 w F' secs L:=
 ⟨h.1,λi s r hs hr=>(h.2 i s r hs hr).mono hF⟩
abbrev zq0 (l : List Nat) : List Value := l.map λi : Nat => Value.int .i64 (i : Int)
structure xr (w : World) (d sb : Nat) (op : Option Addr) (oc : Nat) (F : Nat -> Prop) (D : kj) : Prop where
  head : j0 w d 153 (dskL sb D.secs.length op D.order.length oc D.dead D.fuse D.fault D.done)
  secs : ∃ L, j0 w sb 218 (List.flatten L) /\ A8 w F D.secs L
  order : Own w op D.order.length oc 3 1 (zq0 D.order)
  own : F d /\ F sb /\ ∀ x, jb op x -> F x
  lt : ∀ x, F x -> x < w.heap.size
theorem xr.ext {S F:Nat->Prop} {w w':World} {d sb oc:Nat} {op:Option Addr} {D:kj} (h:xr w d sb op oc F D) (hE:Ext S w w') (hS:∀x,F x->¬S x):xr w' d sb op oc F D:=by
 obtain⟨L,c,e⟩:=h.secs;exact⟨h.head.ext hE (hS d h.own.1),⟨L,c.ext hE (hS sb h.own.2.1),e.ext hE λb f _=>hS b f⟩,h.order.ext hE λx a=>hS x (h.own.2.2 x a),h.own,λx a=>aK (h.lt x a) hE.size⟩
theorem xr.ga {F:Nat->Prop} {w w':World} {d sb oc:Nat} {op:Option Addr} {D:kj} (h:xr w d sb op oc F D) (hE:Ext No w w'):xr w' d sb op oc F D:=h.ext hE λ_ _=>id
theorem xr.extNew {F:Nat->Prop} {w w':World} {d sb oc b:Nat} {op:Option Addr} {D:kj} (h:xr w d sb op oc F D) (hE:Ext (One b) w w') (hb:¬F b):xr w' d sb op oc F D:=h.ext hE λx hx e=>hb (e▸hx)
theorem Own.ty {w:World} {p:Option Addr} {n c T sz:Nat} {xs:List Value} (h:Own w p n c T sz xs) {x:Nat} (hx:jb p x):TyB w x T:=by
 rcases h with⟨a,_⟩|⟨b,l,a,d,_⟩;rw[a] at hx;cases hx;rw[a] at hx;obtain rfl:b=x:=by simpa using hx
 exact⟨l,d⟩
theorem xr.zw6 {F:Nat->Prop} {w w':World} {d sb oc:Nat} {op:Option Addr} {D D':kj} (h:xr w d sb op oc F D) (hs:D'.secs=D.secs) (ho:D'.order=D.order) (hb:j0 w' d 153 (dskL sb D.secs.length op D.order.length oc D'.dead D'.fuse D'.fault D'.done)) (hE:Ext (One d) w w'):xr w' d sb op oc F D':=by
 obtain⟨L,c,f⟩:=h.secs;have g:A8 w' F D.secs L:=f.ext hE λb _ hb e=>hb.ne h.head zd e;have i:=h.order.ext hE λ_ a e=>(Own.ty h.order a).ne h.head zd e;exact⟨by rw[hs,ho];exact hb,⟨L,c.gk hE (c.ne h.head zd),by rw[hs];exact g⟩,by rw[ho];exact i,h.own,λx a=>aK (h.lt x a) hE.size⟩
theorem dk_now (w:World) {sb i:Nat} {L:List (List Value)} (hb:j0 w sb 218 L.flatten) (hu:Uni 65 L) {s:Sec} {r:List Value} (hr:L[i]? =some r) {F:Nat->Prop} (hs:xq9 w F s r) (hfew:s.waits.length<4611686018427387904):
  gn prog 151 [.pointer (some ⟨sb,i*65,none⟩)] w λv w'=>v=numB s.now/\Ext No w w':=by
 obtain⟨p,c,l,G,o,z,H,_⟩:=hs;have q:w.cell? ⟨sb,i*65+64,none⟩=some (.slice p s.waits.length c):=by refine hb.cell ?_;rw[xv9 hu hr zd,l];simp[uf,gh,o]
 have t:Seg w sb (i*65) (gh s.safe):=by have:=(hb.ql.drop (i*65)).take 64;rw[aV] at this;have e:=rows_part hu hr (j:=0) (n:=64) zd;rw[Nat.add_zero] at e;rw[e,l] at this;simpa [uf,gh,o] using this
 refine gz func151 (have g:=Ext.refl No w;qr (gt Z λM N J d h=> have A:=al g.size J;have g:=g.gb h;have b:=D4 q h id;have k:=t.ga h;have B:=H.ga h;u3 (gp (qj Z (gx Z b (kg Z (kw Z (jy Z (λG=>?_) (λG=>?_)))))))));have O:s.waits≠[]:=λe=>by rw[e] at G;simp at G
 obtain⟨P,m,rfl,C⟩:=B.2.resolve_left zk;have D:Uni 64 (bl s.waits):=Uni.map λx Q=>by simp[gh,z x Q]
 have f:(bl s.waits)[s.waits.length-1]? =some (gh s.now):=by
  unfold bl Sec.now;rw[bS,List.getLast?_eq_getElem?];have:s.waits.length-1<s.waits.length:=by omega
  simp[this]
 have u:Seg N P (m+(s.waits.length-1)*64) (gh s.now):=by have:=(C.drop ((s.waits.length-1)*64)).take 64;rw[rows_row D f] at this;exact this
 have a:(gh s.now).length=64:=D.get f;refine qj Z (gx Z b (j6 ge Z ?_));rw[qc _ zk];exact ki Z 64 Z (s.waits.length-1) zk zk (m+(s.waits.length-1)*64) Z (jk Z u a (wl (j9 ge d Z Z a (by rw[jc,a];rfl) Av λR d y K=> have g:=g.gi y A;u3 (gv (gu (u7 [_] ⟨⟨M,0,Z,ud ge Z Z d.ql a⟩,trivial⟩ ⟨Z,g⟩))))));have S:s.waits=[]:=aU zk;have E:s.now=s.safe:=by simp[Sec.now,S]
 have a:(gh s.safe).length=64:=by simp[gh,o]
 exact qf (jq (qj Z (jk Z k a (wl (j9 ge d Z Z a (by rw[jc,a];rfl) Av λR d y K=> have g:=g.gi y A;u3 (gv (u7 [_] ⟨⟨M,0,Z,ud ge Z Z d.ql a⟩,trivial⟩ ⟨by rw[E];rfl,g⟩)))))))
theorem dk_readIn (w:World) {sb i x:Nat} {L:List (List Value)} (hb:j0 w sb 218 L.flatten) (hu:Uni 65 L) {s:Sec} {r:List Value} (hr:L[i]? =some r) {F:Nat->Prop} (hs:xq9 w F s r) (hfew:s.waits.length<4611686018427387904) {l:List Value} (hx:j0 w x 165 l) (hl:l.length=64) (hnow:s.now.length=64):
  gn prog 150 ([.pointer (some ⟨sb,i*65,none⟩)]++ #[Value.pointer (some ⟨x,0,none⟩)].toList) w λ_ w'=>j0 w' x 165 (gh s.now)/\Ext (One x) w w':=by
 refine gz func150 (yy Z (gj call151 Z (dk_now w hb hu hr hs hfew) ?_));rintro g h⟨rfl,a⟩;have b:(gh s.now).length=64:=by simp[gh,hnow]
 refine wl (j9 ge (hx.ga a) Z Z b (by rw[hl];exact b) Av λj d e f=> (gl (zz Z ?_)));exact⟨d,a.no.then e⟩
theorem zj6 {D:kj} {m:Nat} (hok:D.Ok m) (i:Nat):(D.now i).length=64:=by
 rw[kj.now];cases hs:D.secs[i]? with
 |none=>exact zeros_length
 |some s=>
  have a:=hok.safe s (List.mem_of_getElem? hs);simp only[Option.map_some,Option.getD_some,Sec.now];cases hl:s.waits.getLast? with
  |none=>exact a.1
  |some b=>exact a.2 b (List.mem_of_getLast? hl)
theorem waits_few {D:kj} {m:Nat} (hok:D.Ok m) {i:Nat} {s:Sec} (hs:D.secs[i]? =some s):s.waits.length<=m:=by
 rw[hok.count i s hs];exact al List.count_le_length hok.few
theorem dk_read (w:World) {d sb oc m:Nat} {F:Nat->Prop} {op:Option Addr} {D:kj} (h:xr w d sb op oc F D) (hok:D.Ok m) (hm:m<1000000000) (i:Int):
  gn prog 78 [.pointer (some ⟨d,0,none⟩),.int .i64 i] w λv w'=>v= .tuple #[numB (D.read i).2.1,.int .i64 (D.read i).2.2]/\xr w' d sb op oc F (D.read i).1/\Ext (One d) w w':=by
 refine gz func78 (have p:=Ext.refl (One d) w;qr (gt Z λj C E a r=>?_))
 have G:=al p.size E
 have p:=p.gb r
 have n:¬F j:=λe=>by have:=h.lt j e;omega
 have s:d≠j:=λe=>n (e▸h.own.1)
 have h:=h.ga r
 have a:j0 C j 165 (gh zeros):=by
  have e:cellsOf ti165.zero=gh zeros:=by simp[ti165,zeros,gh]
  rw[<-e];exact a
 have H:=yx5 C i false call150 h.head hok.fuse hok.fault ⟨hok.done.1,by have:=hok.done.2;omega⟩
  (λv w'=>v= .int .i64 (D.read i).2.2/\xr w' d sb op oc F (D.read i).1/\j0 w' j 165 (gh (D.read i).2.1)/\Ext (λx=>x=d\/x=j) C w') (caps:= #[.pointer (some ⟨j,0,none⟩)])
  (λc=>?_) (λc q=>?_) (λc q A w' f k=>?_) (λc q A t R w' f k=>?_) (λc q A t w' f k=>?_)
 refine kg Z (qj Z (gj call149 Z H λV P⟨rfl,h,a,g⟩=>?_))
 have K:(gh (D.read i).2.1).length=64:=by
  unfold gh
  rw[aA]
  unfold kj.read
  dsimp only
  split
  exact zj6 (hok.begin i false) _
  exact zeros_length
 have p:Ext (One d) w P:=p.trans g λx W e=>e.resolve_right zk
 exact kg Z (qr (jf a Z K (j6 ge Z (wl (j9 ge a Z Z K (by rw[jc]) Av λX a u S=> kg Z (gv (u7 [_,_] ⟨⟨j,0,Z,ud ge Z Z a.ql K⟩,Z,trivial⟩ ⟨Z,h.extNew u n,p.gi u G⟩)))))))
 have e:D.read i=(D,zeros,9):=by simp[kj.read,kj.begin,c]
 rw[e]
 exact⟨Z,h,a,Ext.refl _ _⟩
 have e:D.read i=(D,zeros,2):=by simp[kj.read,kj.begin,c,q]
 rw[e]
 exact⟨Z,h,a,Ext.refl _ _⟩
 have e:D.read i=({D with fault:= -1},zeros,8):=by simp[kj.read,kj.begin,c,q,A]
 rw[e]
 have B:=h.zw6 (D':={D with fault:= -1}) Z Z (by rw[c];exact f) k
 exact⟨Z,B,a.gk k s.symm,k.mono λx _ e=> .inl e⟩
 cases t
 have T:D.begin i false=({D with fault:=vg D.fault,fuse:=A0 false D.fuse,done:=D.done+1},0):=by simp[kj.begin,c,q,A]
 have e:D.read i=({D with fault:=vg D.fault,fuse:=A0 false D.fuse,done:=D.done+1},D.now i.toNat,0):=by
  simp only[kj.read,T,cT,kj.now]
 rw[e]
 have B:=h.zw6 (D':={D with fault:=vg D.fault,fuse:=A0 false D.fuse,done:=D.done+1}) Z Z (by rw[c];exact f) k
 obtain⟨L,M,o⟩:=B.secs
 have y:i.toNat<D.secs.length:=by omega
 have N:D.secs[i.toNat]? =some D.secs[i.toNat]:=by simp[y]
 have U:i.toNat<L.length:=by rw[o.1];exact y
 have Q:L[i.toNat]? =some L[i.toNat]:=by simp
 have z:D.now i.toNat=D.secs[i.toNat].now:=by simp[kj.now,N]
 have l:=zj6 hok i.toNat
 rw[z] at l|-
 exact (dk_readIn w' M o.uni Q (o.2 _ _ _ N Q) (by have:=waits_few hok N;omega) (a.gk k s.symm) (by simp[gh,zeros]) l).mono λv P ⟨O,g⟩=> ⟨Z,B.extNew g n,O,(k.mono λx _ e=> .inl e).then (g.mono λx _ e=> .inr e)⟩
def Grow (F : Nat -> Prop) (w w' : World) : Nat -> Prop := λx => F x \/ (w.heap.size <= x /\ x < w'.heap.size)
theorem z29 : cellsOf ti165.zero = gh zeros := by simp [ti165, zeros, gh]
theorem dk_writeIn (w:World) {d sb oc m b1 b2 b3:Nat} {F:Nat->Prop} {op:Option Addr} {D:kj} (h:xr w d sb op oc F D) (hok:D.Ok m) (hm:m<1000000000) {i:Nat} (hi:i<D.secs.length) {b:Bytes} (hb64:b.length=64)
  (hb1:j0 w b1 165 (gh b)) (hb2:j0 w b2 61 [.pointer (some ⟨d,0,none⟩)]) (hb3:j0 w b3 3 [.int .i64 (i:Int)]) (hF3:¬F b1/\¬F b2/\¬F b3):
  gn prog 188 ([.pointer (some ⟨sb,i*65,none⟩)]++ #[Value.pointer (some ⟨b1,0,none⟩),.pointer (some ⟨b2,0,none⟩),.pointer (some ⟨b3,0,none⟩)].toList) w
   λ_ w'=>∃op' oc',xr w' d sb op' oc' (Grow F w w') (D.put i b)/\Ext F w w':=by
 obtain⟨L,ag,E⟩:=h.secs
 have hu:=E.uni
 have hs:D.secs[i]? =some D.secs[i]:=by simp[hi]
 have ah:i<L.length:=by rw[E.1];exact hi
 have hr:L[i]? =some L[i]:=by simp
 obtain⟨p,c,U,hc,C,ai,a4,bb⟩:=E.2 _ _ _ hs hr
 generalize hsd:D.secs[i]=s at*
 generalize hrd:L[i]=r at*
 have a8:=waits_few hok hs
 have y:w.cell? ⟨sb,i*65+64,none⟩=some (.slice p s.waits.length c):=by
  refine ag.cell ?_
  rw[xv9 hu hr zd,U]
  simp[uf,gh,C]
 refine gz func188 ?_
 have o:=Ext.refl F w
 refine gp (ke Z 19 [qP 0,qP 1,qP 2,qP 3,qP 4,qP 5,qP 6,qP 7,qP 8,qP 9,qP 10,qP 11,qP 12,qP 13,qP 14,qP 15,qP 16,(17,false),(18,false)] [19,20,21] No zf λw1 Y bc=>?_)
 have o:=o.gb Y
 refine wd_p ge Z (j5 ge Z Z (λw' f=>D4 y f id) (wd_p ge Z (j5 ge Z Z (λw' f=>D4 y f id) (wd_p ge Z (j5 ge Z Z (λw' f=>D4 y f id) (wd_p ge Z (yq1 ge Z Z 0 s.waits.length s.waits.length 64 Z (.inl ⟨Z,Z⟩) (.inl Z) (.inr ⟨Z,Z⟩) zk zk (by simpa using hc) (qu ge Z Z (λw' f=>(hb1.ga f).ql) (by simp[gh,hb64]) (jv Z (qw ge Z 64 Z z29 (qz zeros_length) zd zd ⟨⟨qz hb64,by decide⟩,trivial⟩ (l':=gh b) ?_ λaj w2 a9 ak I bd=>⟨Y.gb I,?_⟩))))))))))
 ·simp only[ym,jc]
  rw[dA,Bv]
  rw[va,qz hb64,qz zeros_length]
 have o:=o.gb I
 have G:=Y.gb I
 have am:Sl w2 (ur p 0 s.waits.length 64) (s.waits.length-0) 64 (bl s.waits).flatten:=by rw[qe];exact a4.ga G
 have an:Src prog w2 64 (.slice (some ⟨aj,0,none⟩) 1 1) 1 (gh b):=Src.slice ⟨by rw[qz hb64],.inr ⟨aj,0,Z,ak.ql⟩⟩ Av
 refine jv Z (st_appG ge Z 64 64 Z Z (by rw[z29];exact qz zeros_length) zd am an zn zt zt λz c3 w3 ap H aa=>⟨G.gb aa,?_⟩)
 have H:Own w3 (some ⟨z,0,none⟩) (s.waits.length+1) c3 165 64 ((bl s.waits).flatten++gh b):=H
 have aq:=al o.size ap
 have o:=o.gb aa
 have k:=G.gb aa
 have q:=ag.ga k
 have P:=h.ga k
 have ar:A8 w3 F D.secs L:=E.ext k λ_ _ _=>id
 have au:=yg hu
 refine js (wb Z (zz3 ge Z Z Z (wb Z (zz3 ge Z Z Z (wb Z (un ge q Z Z (by show i*65+64<_;rw[au];have:=cC 65 ah;omega) λw4 Q A bf=>?_))))))
 have Q:j0 w4 sb 218 (Vc.put L.flatten (i*65+64) [Value.slice (some ⟨z,0,none⟩) (s.waits.length+1) c3]):=Q
 rw[zw1 hu hr _ zq] at Q
 have o:Ext F w w4:=o.trans A λx a e=>by rw[e];exact h.own.2.1
 have av:d≠sb:=(P.head.ne q zd)
 have g:=P.head.gk A av
 have J:Own w4 op D.order.length oc 3 1 (zq0 D.order):=P.order.ext A λx a e=>(Own.ty P.order a).ne q zd e
 have V:=(hb2.ga k).gk A λe=>hF3.2.1 (e▸h.own.2.1)
 have aw:=(hb3.ga k).gk A λe=>hF3.2.2 (e▸h.own.2.1)
 have W:∀x,jb op x->b2≠x:=λx a e=>hF3.2.1 (e▸h.own.2.2 x a)
 have ax:∀x,jb op x->b3≠x:=λx a e=>hF3.2.2 (e▸h.own.2.2 x a)
 have X:∀x,jb op x->d≠x:=λx a e=>(Own.ty P.order a).ne P.head zd e.symm
 refine ja (jq (ke Z 8 [qP 0,qP 1,qP 2,qP 3,qP 4,qP 5,(6,false),(7,false)] [8,9,10] (jb op) zf λw5 ab bg=> have o:=o.gb ab;j5 ge Z Z (λw' f=>(V.ext f λe=>W _ e Z).cell Z) (j5 ge Z Z (λw' f=>(V.ext f λe=>W _ e Z).cell Z) (wd_p ge Z (j5 ge Z Z (λw' f=>(g.ext f λe=>X _ e Z).cell Z) (j5 ge Z Z (λw' f=>(aw.ext f λe=>ax _ e Z).cell Z) (jv Z (qw ge Z 1 Z Z Z zd zd ⟨⟨Z,by decide⟩,trivial⟩ (l':=[.int .i64 (i:Int)]) Z λay w6 ba az ac bh=>⟨(ab.gb ac).no,?_⟩))))))))
 have o:=o.gb ac
 have n:=ab.gb ac
 have J:=J.ext n λ_ _=>id
 have ad:Src prog w6 1 (.slice (some ⟨ay,0,none⟩) 1 1) 1 [.int .i64 (i:Int)]:=Src.slice ⟨Z,.inr ⟨ay,0,Z,az.ql⟩⟩ (λv hv=>by simp at hv;subst hv;rfl)
 have bi:=hok.few
 refine jv Z (vt ge Z 1 8 Z Z Z zd J ad zn zt λp7 c7 w7 R K a5=>⟨n.no.then K,?_⟩)
 have R:Own w7 p7 (D.order.length+1) c7 3 1 (zq0 D.order++[.int .i64 (i:Int)]):=R
 have o:Ext F w w7:=o.trans K λx a e=>h.own.2.2 x e
 have g:=(g.ga n).ext K λe=>X _ e Z
 have S:=g
 refine js (wb Z (zz3 ge Z Z Z (wb Z (zz3 ge Z Z Z (wb Z (yo ge g Z Z Z λw8 g T bj=>?_))))))
 have o:Ext F w w8:=o.trans T λx a e=>by rw[e];exact h.own.1
 refine ja (zz Z ⟨p7,c7,?_,o⟩)
 have a0:sb≠d:=av.symm
 have a1:∀x,jb op x->sb≠x:=λx a e=>(Own.ty P.order a).ne q zd e.symm
 -- what has turned since w3
 have M:Ext (λx=>x=sb\/jb op x\/x=d) w3 w8:=
  ((A.mono λ_ _ e=> .inl e).gb n).then ((K.mono λ_ _ e=> .inr (.inl e)).then (T.mono λ_ _ e=> .inr (.inr e)))
 have N:∀x,TyB w3 x 165->¬(x=sb\/jb op x\/x=d):=λx a e=>by
  rcases e with e|e|e
  ·exact a.ne q zd e
  ·obtain⟨l,hl⟩:=Own.ty P.order e
   exact a.ne hl zd Z
  exact a.ne P.head zd e
 have a6:j0 w8 sb 218 (L.set i (Vc.put r 64 [Value.slice (some ⟨z,0,none⟩) (s.waits.length+1) c3])).flatten:=
  ((Q.ga n).ext K λe=>a1 _ e Z).gk T a0
 have O:=R.ext T λx a e=>(Own.ty R a).ne S zd e
 have ae:TyB w3 z 165:=Own.ty H Z
 have af:Vc.put r 64 [Value.slice (some ⟨z,0,none⟩) (s.waits.length+1) c3]=uf s.safe (some ⟨z,0,none⟩) (s.waits.length+1) c3:=by
  rw[U,put_eq _ _ _ (by simp[uf,gh,C])]
  have e1:(uf s.safe p s.waits.length c).take 64=gh s.safe:=by
   unfold uf;rw[bW (by simp[gh,C]),aN (by simp[gh,C])]
  rw[e1,aW (by simp[uf,gh,C])]
  simp[uf]
 refine⟨?_,⟨_,a6,?_,?_⟩,?_,⟨.inl h.own.1,.inl h.own.2.1,λx a=>?_⟩,λx a=>?_⟩
 ·have e:(D.put i b).secs.length=D.secs.length:=by simp[kj.put]
  have e2:(D.put i b).order.length=D.order.length+1:=by simp[kj.put]
  rw[e,e2]
  exact g
 ·simp[kj.put,E.1]
 ·intro j s' r' u B
  simp only[kj.put,dH] at u
  rw[List.getElem?_set] at B
  by_cases hij:i=j
  ·subst hij
   rw[aL Z,aL ah] at B
   rw[hs] at u
   simp at u B
   subst u
   rw[af] at B
   subst B
   refine⟨some ⟨z,0,none⟩,c3,?_,?_,C,?_,?_,?_⟩
   ·simp[Bq]
   ·have:=H.cap
    simp only[Bq,ao,cU]
    omega
   ·intro x a
    simp only[Bq,aS,aF] at a
    rcases a with a|rfl
    ·exact ai x a
    exact hb64
   ·have e3:=H.sl.ext M λx a7 hp=>by
     simp only[bJ,Addr.mk.injEq] at hp
     rw[<-hp.1]
     exact N _ ae
    have e4:(bl (Bq b s).waits).flatten=(bl s.waits).flatten++gh b:=by simp[bl,Bq]
    rw[e4]
    simpa [Bq] using e3
   intro x a7 hp
   simp only[bJ,Addr.mk.injEq] at hp
   rw[<-hp.1]
   have h8:=ae.ext M (N _ ae)
   obtain⟨l,hl⟩:=h8
   exact⟨.inr ⟨aq,hl.lt⟩,l,hl⟩
  rw[aI hij] at B
  have a2:D.secs[j]? =some s':=by
   cases hj:D.secs[j]? with
   |none=>rw[hj] at u;simp at u
   |some t=>rw[hj] at u;simpa [hij] using u
  exact((ar.2 j s' r' a2 B).ext M λx _ a=>N x a).mono λx a=> .inl a
 ·have e2:(D.put i b).order.length=D.order.length+1:=by simp[kj.put]
  rw[e2]
  simpa [kj.put,zq0] using O
 ·rcases a5 x a with a3|a3
  ·exact .inl (h.own.2.2 x a3)
  refine .inr ⟨?_,O.lt a⟩
  have:=(k.gb (Ext.refl No w3)).size
  have:=A.size
  have:=n.size
  omega
 rcases a with a|a
 ·exact aK (h.lt x a) o.size
 exact a.2
def At (w : World) (d : Nat) (F : Nat -> Prop) (D : kj) : Prop := ∃ sb op oc, xr w d sb op oc F D
theorem xr.mono {F F':Nat->Prop} {w:World} {d sb oc:Nat} {op:Option Addr} {D:kj} (h:xr w d sb op oc F D) (hF:∀x,F x->F' x) (hlt:∀x,F' x->x<w.heap.size):xr w d sb op oc F' D:=by
 obtain⟨L,a,b⟩:=h.secs;exact⟨h.head,⟨L,a,b.mono hF⟩,h.order,⟨hF _ h.own.1,hF _ h.own.2.1,λx c=>hF _ (h.own.2.2 x c)⟩,hlt⟩
theorem xr.grow {F:Nat->Prop} {w w':World} {d sb oc:Nat} {op:Option Addr} {D:kj} (h:xr w' d sb op oc F D):xr w' d sb op oc (Grow F w w') D:=
 h.mono (λ_=> .inl) λx a=>a.elim (h.lt x) λa=>a.2
theorem At.ext {S F:Nat->Prop} {w w':World} {d:Nat} {D:kj} (h:At w d F D) (hE:Ext S w w') (hS:∀x,F x->¬S x):At w' d F D:=let⟨sb,op,oc,h⟩:=h;⟨sb,op,oc,h.ext hE hS⟩
theorem At.ga {F:Nat->Prop} {w w':World} {d:Nat} {D:kj} (h:At w d F D) (hE:Ext No w w'):At w' d F D:=let⟨sb,op,oc,h⟩:=h;⟨sb,op,oc,h.ga hE⟩
theorem At.lt {F : Nat -> Prop} {w : World} {d : Nat} {D : kj} (h : At w d F D) : ∀ x, F x -> x < w.heap.size := let ⟨_, _, _, h⟩ := h; h.lt
theorem At.own {F : Nat -> Prop} {w : World} {d : Nat} {D : kj} (h : At w d F D) : F d := let ⟨_, _, _, h⟩ := h; h.own.1
theorem Grow.wide {F:Nat->Prop} {w0 w w' w1:World} (h0:w0.heap.size<=w.heap.size) (h1:w'.heap.size<=w1.heap.size) {x:Nat} (h:Grow F w w' x):Grow F w0 w1 x:=
 h.imp id λh=>⟨al h0 h.1,aK h.2 h1⟩
theorem cells_num (b : Bytes) : cellsOf (numB b) = gh b := by simp [Dm, gh, jc]
theorem dk_write (w:World) {d m:Nat} {F:Nat->Prop} {D:kj} (h:At w d F D) (hok:D.Ok m) (hm:m+1<1000000000) (i:Int) {b:Bytes} (hb:b.length=64):
  gn prog 143 [.pointer (some ⟨d,0,none⟩),.int .i64 i,numB b] w λv w'=>v= .int .i64 (D.write i b).2/\At w' d (Grow F w w') (D.write i b).1/\Ext F w w':=by
 obtain⟨a,op,oc,h⟩:=h
 refine gz func143 (have c:=Ext.refl F w;qr (gt Z λU w1 K f u=> have y:=al c.size K;have c:=c.gb u;gt Z λV W L o g=> have z:=al c.size L;have f:=f.ga g;have c:=c.gb g;gt Z λQ R M r p=>?_))
 have A:=al c.size M
 have f:=f.ga p
 have o:=o.ga p
 have c:=c.gb p
 have J:∀x,w.heap.size<=x->¬F x:=λx n e=>by have:=h.lt x e;omega
 have h:=((h.ga u).ga g).ga p
 have r:j0 R Q 165 (gh b):=by rw[<-cells_num];exact r
 have N:=yx5 R i true call188 h.head hok.fuse hok.fault ⟨hok.done.1,by have:=hok.done.2;omega⟩
  (λv w'=>v= .int .i64 (D.write i b).2/\At w' d (Grow F w w') (D.write i b).1/\Ext F w w') (caps:= #[.pointer (some ⟨Q,0,none⟩),.pointer (some ⟨U,0,none⟩),.pointer (some ⟨V,0,none⟩)])
  (λj=>?_) (λj s=>?_) (λj s B w' k l=>?_) (λj s B C O w' k l=>?_) (λj s B C w' k l=>?_)
 refine kg Z (qr (jd f Z Z (jd o Z Z (j6 ge Z (gj call149 Z N λv4 w4 t=>?_)))))
 obtain⟨rfl,t⟩:=t
 exact kg Z (gv (gy Z Z ⟨Z,t⟩))
 have e:D.write i b=(D,9):=by simp[kj.write,kj.begin,j]
 rw[e]
 exact⟨Z,⟨_,_,_,h.grow⟩,c⟩
 have e:D.write i b=(D,2):=by simp[kj.write,kj.begin,j,s]
 rw[e]
 exact⟨Z,⟨_,_,_,h.grow⟩,c⟩
 have e:D.write i b=({D with fault:= -1},8):=by simp[kj.write,kj.begin,j,s,B]
 rw[e]
 have E:=h.zw6 (D':={D with fault:= -1}) Z Z (by rw[j];exact k) l
 exact⟨Z,⟨_,_,_,E.grow⟩,c.trans l λx _ e=>e▸h.own.1⟩
 have e:D.write i b=({D with fault:=vg D.fault,fuse:= -1,dead:=true},9):=by simp[kj.write,kj.begin,j,s,B,O]
 rw[e]
 have E:=h.zw6 (D':={D with fault:=vg D.fault,fuse:= -1,dead:=true}) Z Z k l
 exact⟨Z,⟨_,_,_,E.grow⟩,c.trans l λx _ e=>e▸h.own.1⟩
 have G:¬(D.fuse=0):=λe=>C ⟨Z,e⟩
 have S:D.begin i true=({D with fault:=vg D.fault,fuse:=A0 true D.fuse,done:=D.done+1},0):=by simp[kj.begin,j,s,B,G]
 have e:D.write i b=(({D with fault:=vg D.fault,fuse:=A0 true D.fuse,done:=D.done+1}:kj).put i.toNat b,0):=by
  simp only[kj.write,S,cT]
 rw[e]
 have E:=h.zw6 (D':={D with fault:=vg D.fault,fuse:=A0 true D.fuse,done:=D.done+1}) Z Z (by rw[j];exact k) l
 have q:=hok.begin i true
 rw[S] at q
 have nd:∀x,w.heap.size<=x->x≠d:=λx n e=>J x n (e▸h.own.1)
 have P:(i.toNat:Int)=i:=by omega
 refine(dk_writeIn w' E q zk (i:=i.toNat) (by simp only;omega) hb (r.gk l (nd _ A)) (f.gk l (nd _ y)) (by rw[P];exact o.gk l (nd _ z)) ⟨J _ A,J _ y,J _ z⟩).mono λv W ⟨X,Y,T,g⟩=>?_
 have H:Ext F w w':=c.trans l λx _ e=>e▸h.own.1
 exact⟨Z,⟨_,_,_,T.mono (λx n=>n.wide H.size (aB _)) λx n=> n.elim (λn=>T.lt x (.inl n)) λn=>n.2⟩,H.trans g λx _=>id⟩
theorem A8.modify {w:World} {F:Nat->Prop} {secs:List Sec} {L:List (List Value)} (h:A8 w F secs L) {k:Nat} {f:Sec->Sec} {r:List Value} (hr:∀s,secs[k]? =some s->xq9 w F (f s) r):A8 w F (secs.modify k f) (L.set k r):=by
 refine⟨by simp[h.1],λj s x a b=>?_⟩;rw[dH] at a;rw[List.getElem?_set] at b;by_cases hkj:k=j;subst hkj;rw[aL Z] at b;split at b;simp at b;subst b;cases hk:secs[k]? with
 |none=>rw[hk] at a;simp at a
 |some t=>
  rw[hk] at a;simp at a;subst a;exact hr t hk
 cases b;rw[aI hkj] at b;cases hk:secs[j]? with
 |none=>rw[hk] at a;simp at a
 |some t=>
  rw[hk] at a;simp[hkj] at a;subst a;exact h.2 j t x hk b
theorem dk_settle (w:World) {d m:Nat} {F:Nat->Prop} {D:kj} (h:At w d F D) (hok:D.Ok m) (hm:m<1000000000) (lives:Nat->Bool) {g:Nat} {caps:Array Value}
  (hcf:∀args w,(callFunc g args).run prog w= .ok (.enter g args) w)
  (hl:∀w1 (i:Nat),i<D.order.length->Ext F w w1->gn prog g ([.int .i64 (i:Int)]++caps.toList) w1 λv w2=>v= .bool (lives i)/\Ext No w1 w2):
  gn prog 126 [.pointer (some ⟨d,0,none⟩),.func (.func g) #[] caps] w λ_ w'=>At w' d F (D.settle lives)/\Ext F w w':=by
 obtain⟨W,op,oc,h⟩:=h;have bi:=hok.few;refine gz func126 ?_
 refine c_scopeJ (α:=Nat×List Sec) 0 Z
  (λz u=>z.1<=D.order.length/\z.2.length=D.secs.length/\(∀k s,z.2[k]? =some s->s.waits.length=(D.order.drop z.1).count k)/\z1 lives (D.order.drop z.1) z.1 z.2=z1 lives D.order 0 D.secs/\
   (∃L,j0 u W 218 (List.flatten L)/\A8 u F z.2 L)/\j0 u d 153 (dskL W D.secs.length op D.order.length oc D.dead D.fuse D.fault D.done)/\Own u op D.order.length oc 3 1 (zq0 D.order)/\Ext F w u)
  (λz=>[(0,.pointer (some ⟨d,0,none⟩)),(1,.func (.func g) #[] caps),(4,.int .i64 (z.1:Int))]) (λz _=>D.order.length-z.1) ?_ ?_
 refine yy Z (gl (f_first (0,D.secs) Z ⟨aJ _,Z,λk s hs=>hok.count k s hs,Z,h.secs,h.head,h.order,Ext.refl F w⟩));rintro⟨i,M⟩ u ⟨hi,ay,H,P,⟨L,q,T⟩,j,Q,hX⟩;dsimp only at hi ay H P T|-;have aq:∀x,TyB u x 165->x≠W:=λx U=>U.ne q zd;refine gp (qj Z (jd j Z Z (kg Z (jy Z (λhc=>?_) (λhc=>?_)))));have ag:i<D.order.length:=by omega
 have hk:D.order[i]? =some D.order[i]:=by simp[ag]
 generalize hkk:D.order[i]=k at hk;have az:k<D.secs.length:=hok.inside k (List.mem_of_getElem? hk);obtain⟨b0,am,Y,a0⟩:=Q.sl.2.resolve_left zk;have ah:u.cell? ⟨b0,am+i,none⟩=some (.int .i64 (k:Int)):=a0 i _ (by simp[zq0,hk]);have a9:op=some ⟨b0,0,none⟩/\am=0:=by rcases Q with⟨hp,_⟩|⟨b,l,hp,_⟩;rw[hp] at Y;cases Y;rw[hp] at Y;simp at Y;obtain⟨rfl,rfl⟩:=Y;exact⟨hp,Z⟩
 obtain⟨a1,rfl⟩:=a9;subst a1;have I:M[k]? =some (M[k]'zk):=by simp[show k<M.length by omega]
 generalize hss:M[k]'zk=s at I;have N:D.order.drop i=k::D.order.drop (i+1):=by rw[cB ag,hkk]
 have R:=H k s I;rw[N,List.count_cons_self] at R;have ba:k<L.length:=by rw[T.1];omega
 have hr:L[k]? =some L[k]:=by simp
 generalize hrd:L[k]=r at hr;have a2:=T.2 k s r I hr;obtain⟨p,c,aa,an,ai,ab,a3,a4⟩:=a2;have hu:=T.uni;have y:u.cell? ⟨W,k*65+64,none⟩=some (.slice p s.waits.length c):=by refine q.cell ?_;rw[xv9 hu hr zd,aa];simp[uf,gh,ai]
 obtain⟨o,f,hp,ar⟩:=a3.2.resolve_left zk;subst hp
 obtain⟨f0,J,a⟩:∃f0 J,s.waits=f0::J:=by
  cases hww:s.waits with
  |nil=>rw[hww] at R;simp at R
  |cons f0 J=>exact⟨f0,J,Z⟩
 have A:f0.length=64:=ab f0 (by rw[a];simp);have B:Seg u o f (gh f0):=by have:=ar.take 64;rw[a] at this;simpa [bl,gh,A] using this
 have au:=yg hu;refine gp (ke Z 13 [qP 0,qP 1,qP 2,qP 3,qP 4,qP 5,qP 6,qP 7,qP 8,qP 9,qP 10,qP 11,qP 12] [] No zf λw1 C bb=> wd_p ge Z (j5 ge Z Z (λw' ac=>(j.ga ac).cell Z) (wd_p ge Z (j5 ge Z Z (λw' ac=>(j.ga ac).cell Z) (wd_p ge Z (u0 ge Z Z 1 Z i Z ag (0+i) zk (j5 ge Z Z (λw' ac=>D4 ah ac id) (u0 ge Z Z 65 Z k Z az (0+k*65) zk (wd_p ge Z (js (ja (jq ?_))))))))))));rw[aV];have ap:=q;have bc:=hX;have q:=q.ga C;have y:=D4 y C id;have B:=B.ga C;have hX:=hX.gb C;have ad:TyB u o 165:=(a4 o f Z).2;have a5:F W:=h.own.2.1;refine ju (α:=Unit) [0,1,4,5] Z (λz=>[]) (λz u'=>j0 u' W 218 (L.set k (uf (uw (lives i) s).safe (some ⟨o,f,none⟩) s.waits.length c)).flatten/\Ext (Vc.One W) u u') ?_ ?_;refine gp (yy Z (gj hcf Z (hl w1 i ag hX) λv2 w2 aj=>?_));obtain⟨rfl,O⟩:=aj;have q:=q.ga O;have y:=D4 y O id;have B:=B.ga O;refine u3 (vk Z (λhc=>?_) (λhc=>?_));refine j1 (j6 ge Z (gx Z y (ki Z 64 Z 0 Z zk f zk (jk Z B (by simp[gh,A]) (j6 ge Z (wl (Ci ge q Z (by rw[jc];simp[gh,A]) (by rw[au];show k*65+64<=_;omega) (by rw[jc];exact Av) λw3 K av bd=> gl (j2 () Z ⟨?_,C.no.then (O.no.then av)⟩))))))));have K:j0 w3 W 218 (Vc.put L.flatten (k*65+0) (gh f0)):=by simpa using K
 rw[zw1 hu hr _ (by simp[gh,A])] at K;have:Vc.put r 0 (gh f0)=uf (uw (lives i) s).safe (some ⟨o,f,none⟩) s.waits.length c:=by rw[aa,put_eq _ _ _ (by simp[uf,gh,ai,A]),hc];simp[uf,gh,ai,A,uw,a]
 rwa [this] at K;refine qf (j2 () Z ⟨?_,C.no.then O.no⟩);rw[hc];have e:(uw false s).safe=s.safe:=rfl;rw[e,<-aa,<-hrd,List.set_getElem_self];exact q;rintro⟨⟩ u2 ⟨ae,O⟩;generalize hrow2:uf (uw (lives i) s).safe (some ⟨o,f,none⟩) s.waits.length c=r2 at ae;have E:(uw (lives i) s).safe.length=64:=by simp only[uw,a,List.headD_cons];split;exact A;exact ai
 have aw:Uni 65 (L.set k r2):=hu.set k (by rw[<-hrow2];simp[uf,gh,E]);have aj:(L.set k r2)[k]? =some r2:=by simp[ba]
 have ak:u2.cell? ⟨W,k*65+64,none⟩=some (.slice (some ⟨o,f,none⟩) s.waits.length c):=by refine ae.cell ?_;rw[xv9 aw aj zd,<-hrow2];simp[uf,gh,E]
 have S:=yg aw;rw[cK] at S;refine qj Z (gx Z ak (wl (Ba ge Z 1 s.waits.length c 64 Z (.inr ⟨Z,Z⟩) (.inr ⟨Z,Z⟩) (.inl Z) zk an (aB c) (j6 ge Z (wl (un ge ae Z Z (by show k*65+64<_;rw[S];omega) λw3 K av bd=>?_))))));have K:j0 w3 W 218 (Vc.put (L.set k r2).flatten (k*65+64) [Value.slice (ur (some ⟨o,f,none⟩) 1 c 64) (s.waits.length-1) (c-1)]):=K;rw[zw1 aw aj _ zq] at K;have G:Ext (Vc.One W) u w3:=O.then av;refine u3 (qj Z ?_);rw[qc _ zk];refine u3 (c_goto (f_thenG (f_back (i+1,M.modify k (uw (lives i))) Z ⟨by simp only;omega,by simp only[List.length_modify];omega,?_,?_,⟨_,K,?_⟩,?_,?_,?_⟩ ?_)));intro k' s' n;simp only[dH] at n;by_cases hkk':k=k';subst hkk';rw[I] at n;simp at n;subst n;simp only[uw,a,List.tail_cons];rw[a,aQ] at R;omega;cases hck:M[k']? with
 |none=>rw[hck] at n;simp at n
 |some t=>
  rw[hck] at n;simp[hkk'] at n;subst n;have:=H k' t hck;rw[N,List.count_cons_of_ne hkk'] at this;exact this
 rw[<-P,N];rfl;have a6:A8 w3 F M L:=T.ext G λx _ U=>aq x U;rw[List.set_set];refine A8.modify a6 λs' n=>?_;rw[I] at n;simp at n;subst n;have af:∀b V,ur (some ⟨o,f,none⟩) 1 c 64=some ⟨b,V,none⟩->b=o:=by intro b V X;unfold ur at X;split at X;simp at X;exact X.1.symm;simp[addr_add] at X;exact X.1.symm
 have a7:=(a3.slice 1 s.waits.length c zk an (aB _)).ext G λb V X=>by rw[af b V X];exact aq _ ad
 refine⟨ur (some ⟨o,f,none⟩) 1 c 64,c-1,?_,?_,E,?_,?_,?_⟩;rw[<-hrow2,put_eq _ _ _ (by simp[uf,gh,E])];have e1:(uf (uw (lives i) s).safe (some ⟨o,f,none⟩) s.waits.length c).take 64=gh (uw (lives i) s).safe:=by unfold uf;rw[bW (by simp[gh,E]),aN (by simp[gh,E])]
 rw[e1,aW (by simp[uf,gh,E])];simp[uf,uw];simp[uw];omega;intro b X;exact ab b (List.mem_of_mem_tail X);have e1:(uw (lives i) s).waits.length=s.waits.length-1:=by simp[uw]
 have e2:(bl (uw (lives i) s).waits).flatten=((bl s.waits).flatten.drop (1*64)).take ((s.waits.length-1)*64):=by
  have bf:Uni 64 (bl s.waits):=Uni.map λx U=>by simp[gh,ab x U]
  rw[rows_sub bf];congr 1;rw[aN (by simp[bl])];simp[uw,bl,a]
 rw[e1,e2];exact a7;intro b V X;have:=af b V X;subst this;exact⟨(a4 b f Z).1,ad.ext G (aq _ ad)⟩
 exact j.gk G (j.ne ap zd);exact Q.ext G λx U e=>(Own.ty Q U).ne ap zd e;exact bc.trans G λx _ e=>e▸a5;simp only;omega;have bg:i=D.order.length:=by omega
 subst bg;rw[List.drop_length] at P;refine xg (yy Z (qk j Z Z Z λw1 bh C bb=> gl (f_jumpN (zz Z (have a8:F d:=h.own.1;have ax:M=z1 lives D.order 0 D.secs:=P;⟨⟨W,none,0,?_,⟨L,q.gk C (q.ne j zd),?_⟩,.inl ⟨Z,Z,Z,Z⟩,⟨a8,h.own.2.1,λx U=>by cases U⟩,?_⟩,hX.trans C λx _ e=>e▸a8⟩)))));simp only[kj.settle,yh];exact bh;simp only[kj.settle];rw[<-ax];exact T.ext C λx _ U e=>U.ne j zd e;intro x U;have:=hX.size;have:=C.size;have:=h.lt x U;omega
theorem dk_yes (w:World) (i:Nat):gn prog 190 ([.int .i64 (i:Int)]++(#[]:Array Value).toList) w λv w'=>v= .bool true/\Ext No w w':=by
 exact gz func190 (kw Z (kw Z (gv (gy Z Z ⟨Z,Ext.refl _ _⟩))))
theorem dk_sync (w:World) {d m:Nat} {F:Nat->Prop} {D:kj} (h:At w d F D) (hok:D.Ok m) (hm:m+1<1000000000):
  gn prog 144 [.pointer (some ⟨d,0,none⟩)] w λv w'=>v= .int .i64 D.sync.2/\At w' d F D.sync.1/\Ext F w w':=by
 obtain⟨L,M,N,h⟩:=h
 refine gz func144 (have l:=Ext.refl F w;qr (gt Z λu y G f n=>?_))
 have l:=l.gb n
 have z:¬F u:=λe=>by have:=h.lt u e;omega
 have h:=h.ga n
 have H:=hok.size
 have A:=yx5 y 0 true call189 h.head hok.fuse hok.fault ⟨hok.done.1,by have:=hok.done.2;omega⟩
  (λv w'=>v= .int .i64 D.sync.2/\At w' d F D.sync.1/\Ext F w w') (caps:= #[.pointer (some ⟨u,0,none⟩)])
  (λc=>?_) (λc o=>?_) (λc o p w' b g=>?_) (λc o p q B w' b g=>?_) (λc o p q w' b g=>?_)
 refine kg Z (qr (jd f Z Z (j6 ge Z (gj call149 Z A λO J k=>?_))))
 obtain⟨rfl,k⟩:=k
 exact kg Z (gv (gy Z Z ⟨Z,k⟩))
 have e:D.sync=(D,9):=by simp[kj.sync,kj.begin,c]
 rw[e]
 exact⟨Z,⟨_,_,_,h⟩,l⟩
 exact absurd zk o
 have K:(0:Int)<=0/\(0:Int)<D.secs.length:=o
 have e:D.sync=({D with fault:= -1},8):=by simp[kj.sync,kj.begin,c,p,show 0<D.secs.length by omega]
 rw[e]
 have r:=h.zw6 (D':={D with fault:= -1}) Z Z (by rw[c];exact b) g
 exact⟨Z,⟨_,_,_,r⟩,l.trans g λx _ e=>e▸h.own.1⟩
 have e:D.sync=({D with fault:=vg D.fault,fuse:= -1,dead:=true},9):=by simp[kj.sync,kj.begin,c,p,B,show 0<D.secs.length by omega]
 rw[e]
 have r:=h.zw6 (D':={D with fault:=vg D.fault,fuse:= -1,dead:=true}) Z Z b g
 exact⟨Z,⟨_,_,_,r⟩,l.trans g λx _ e=>e▸h.own.1⟩
 have s:¬(D.fuse=0):=λe=>q ⟨Z,e⟩
 have E:D.begin 0 true=({D with fault:=vg D.fault,fuse:=A0 true D.fuse,done:=D.done+1},0):=by simp[kj.begin,c,p,s,show 0<D.secs.length by omega]
 have e:D.sync=(({D with fault:=vg D.fault,fuse:=A0 true D.fuse,done:=D.done+1}:kj).settle λ_=>true,0):=by
  simp only[kj.sync,E,cT]
 rw[e]
 have r:=h.zw6 (D':={D with fault:=vg D.fault,fuse:=A0 true D.fuse,done:=D.done+1}) Z Z (by rw[c];exact b) g
 have j:=hok.begin 0 true
 rw[E] at j
 have C:Ext F w w':=l.trans g λx _ e=>e▸h.own.1
 have f:=f.gk g λe=>z (e▸h.own.1)
 exact gz func189 (j1 (jd f Z Z (gj call126 Z (dk_settle w' ⟨_,_,_,r⟩ j zk (λ_=>true) (caps:= #[]) call190 λy i _ _=>dk_yes y i) λP J t=> gl (zz Z ⟨Z,t.1,C.trans t.2 λx _=>id⟩))))
theorem dk_keep (w:World) {b3 n c:Nat} {kp:Option Addr} {keep:List Bool} (hb3:j0 w b3 74 [.slice kp n c]) (hn:keep.length=n) (hk:Sl w kp n 1 (keep.map Value.bool)) (i:Nat):
  gn prog 127 ([.int .i64 (i:Int)]++(#[.pointer (some ⟨b3,0,none⟩)]:Array Value).toList) w λv w'=>v= .bool (zw7 keep i)/\Ext No w w':=by
 refine gz func127 (kw Z (ju (α:=Bool) [] Z (λz=>[(3,.bool z)]) (λz u=>u=w/\z=zw7 keep i) ?_ ?_));refine j1 (j6 ge Z (jd hb3 Z Z (j6 ge Z (jw 8 Z (λf=>?_) (λf=>?_)))));refine jd hb3 Z Z ?_;obtain⟨g,a,rfl,d⟩:=hk.2.resolve_left zk;have e:i<keep.length:=by omega
 have b:w.cell? ⟨g,a+i,none⟩=some (.bool keep[i]):=d i _ (by simp[e]);exact xj1 ge Z (ki Z 1 Z i Z zk (a+i) zk (gx Z b (xj1 ge Z (gl (j2 _ Z ⟨Z,by simp[zw7,e]⟩)))));refine xj1 ge Z (gl ?_);have e:keep.length<=i:=by omega
 exact j2 _ Z ⟨Z,by simp[zw7,e]⟩;rintro z w ⟨rfl,rfl⟩;exact gv (gy Z Z ⟨Z,Ext.refl _ _⟩)
theorem xw4 (w:World) {d m:Nat} {F:Nat->Prop} {D:kj} (h:At w d F D) (hok:D.Ok m) (hm:m<1000000000) {n c:Nat} {kp:Option Addr} {keep:List Bool} (hn:keep.length=n) (hk:Sl w kp n 1 (keep.map Value.bool)) (hkF:∀b off,kp=some ⟨b,off,none⟩->¬F b):
  gn prog 46 [.pointer (some ⟨d,0,none⟩),.slice kp n c] w λv w'=>v= .int .i64 0/\At w' d F (D.vm keep)/\Ext F w w':=by
 refine gz func46 (have g:=Ext.refl F w;qr (gt Z λk A B l f=>?_));have g:=g.gb f;have o:¬F k:=λe=>by have:=h.lt k e;omega
 have p:=h.own;have h:=h.ga f;have hk:=hk.ga f;refine kg Z (gp (kw Z (uc Z (qf (jq (qj Z (gj call126 Z (dk_settle A h hok hm (zw7 keep) (caps:= #[.pointer (some ⟨k,0,none⟩)]) call127 λy i _ j=>dk_keep y (c:=c) (l.ext j o) hn (hk.ext j hkF) i) λL y⟨⟨C,E,G,z⟩,r⟩=>?_)))))));have g:=g.trans r λx _=>id;have a:=z.head;exact u3 (qj Z (qk a Z Z Z λM a s H=> j6 ge Z (qk a Z Z Z λN a t J=> j6 ge Z (qk a Z Z Z λO a u K=> have j:=s.then (t.then u);u3 (kw Z (gv (gy Z Z ⟨Z,⟨C,E,G,z.zw6 (D':=D.vm keep) Z Z a j⟩,g.trans j λx _ e=>e▸p⟩)))))))
theorem set_any (w:World) {d sb oc:Nat} {F:Nat->Prop} {op:Option Addr} {D:kj} (h:xr w d sb op oc F D) (n:Int) {g:Nat} {caps:Array Value} (hcf:∀args w,(callFunc g args).run prog w= .ok (.enter g args) w) {k:Nat} (hk:k=3\/k=4)
  (hg:gn prog g caps.toList w λv w'=>v= .pointer (some ⟨d,k,none⟩)/\Ext No w w'):
  gn prog 124 [.pointer (some ⟨d,0,none⟩),.func (.func g) #[] caps,.int .i64 n] w λv w'=>∃D',v= .int .i64 (if D.dead=true then 9 else 0)/\D'=(if D.dead=true then D else if k=3 then{D with fuse:=yz1 n} else{D with fault:=yz1 n})/\At w' d F D'/\Ext F w w':=by
 refine gz func124 (kw Z (qj Z (gj call148 Z (alive_live w h.head) ?_)));rintro q m⟨rfl,rfl⟩;cases hd:D.dead
 ·refine kg Z (ju (α:=Unit) [7] Z (λz=>[]) (λz u=>At u d F (if k=3 then{D with fuse:=yz1 n} else{D with fault:=yz1 n})/\Ext F m u) ?_ ?_)
  ·refine gp (j1 (kg Z (Cd Z (j1 (j6 ge Z (gj hcf Z hg ?_))))))
   rintro r s⟨rfl,c⟩;have h:=h.ga c;refine j6 ge Z ?_;rcases hk with rfl|rfl
   ·exact qk h.head Z Z Z λj a b l=> have a:j0 j d 153 (dskL sb D.secs.length op D.order.length oc D.dead (yz1 n) D.fault D.done):=a;gl (j2 () Z ⟨⟨sb,op,oc,h.zw6 (D':={D with fuse:=yz1 n}) Z Z a b⟩,c.no.then (b.mono λx _ e=>e▸h.own.1)⟩)
   exact qk h.head Z Z Z λj a b l=> have a:j0 j d 153 (dskL sb D.secs.length op D.order.length oc D.dead D.fuse (yz1 n) D.done):=a;gl (j2 () Z ⟨⟨sb,op,oc,h.zw6 (D':={D with fault:=yz1 n}) Z Z a b⟩,c.no.then (b.mono λx _ e=>e▸h.own.1)⟩)
  rintro⟨⟩ w ⟨o,p⟩;refine kw Z (gv (gy Z Z ?_));exact⟨_,Z,by rw[aI (show¬(false=true) by decide),hd],o,p⟩
 refine kg Z (ju (α:=Unit) [7] Z (λz=>[]) (λz u=>u=m) ?_ ?_);refine gp (j1 (kg Z (uc Z ?_)));exact qf (j2 () Z Z);rintro⟨⟩ w rfl;refine kw Z (gv (gy Z Z ?_));exact⟨_,Z,Z,⟨_,_,_,h⟩,Ext.refl _ _⟩
theorem dk_arm (w : World) {d : Nat} {F : Nat -> Prop} {D : kj} (h : At w d F D) (n : Int) :
  gn prog 45 [.pointer (some ⟨d, 0, none⟩), .int .i64 n] w λv w' => v = .int .i64 (D.arm n).2 /\ At w' d F (D.arm n).1 /\ Ext F w w' := by
 obtain ⟨l, m, o, h⟩ := h;refine gz func45 (qr (gt Z λi e j a b =>?_));have h := h.ga b;have k : gn prog 125 (#[.pointer (some ⟨i, 0, none⟩)] : Array Value).toList e λv w' => v = .pointer (some ⟨d, 3, none⟩) /\ Ext No e w' := by exact gz func125 (kw Z (qr (jd a Z Z (kg Z (gv (gy Z Z ⟨Z, Ext.refl _ _⟩))))))
 refine kg Z (qr (jd a Z Z (j6 ge Z (gj call124 Z (set_any e h n call125 (.inl Z) k) ?_))));rintro p q⟨r, rfl, rfl, c, g⟩;refine kg Z (gv (gy Z Z ?_));rw [aL Z] at c;unfold kj.arm;refine ⟨?_, ?_, b.no.then g⟩;split <;> rfl;split;rw [aL ‹_›] at c; exact c;rw [aI ‹_›] at c; exact c
theorem dk_len (w:World) {d:Nat} {F:Nat->Prop} {D:kj} (h:At w d F D):
  gn prog 77 [.pointer (some ⟨d,0,none⟩)] w λv w'=>v= .int .i64 (D.secs.length:Int)/\w'=w:=by
 obtain⟨a,b,c,h⟩:=h;exact gz func77 (vo Z (kw Z (uc Z (xg (qj Z (jd h.head Z Z (kg Z (gv (gy Z Z ⟨Z,Z⟩)))))))))
theorem xr.order_src {w:World} {d sb oc:Nat} {F:Nat->Prop} {op:Option Addr} {D:kj} (h:xr w d sb op oc F D) {w':World} (hE:Ext No w w'):Src prog w' 1 (.slice op D.order.length oc) D.order.length (zq0 D.order):=
 Src.slice (h.order.sl.ga hE) λv a=>by
  obtain⟨x,_,rfl⟩:=aZ.1 a
  rfl
theorem dk_pending (w:World) {d m:Nat} {F:Nat->Prop} {D:kj} (h:At w d F D) (hok:D.Ok m) (hm:m<1000000000):
  gn prog 74 [.pointer (some ⟨d,0,none⟩)] w λv w'=>∃b,v= .slice (some ⟨b,0,none⟩) D.order.length D.order.length/\w.heap.size<=b/\j0 w' b 3 (zq0 D.order)/\Ext No w w':=by
 obtain⟨q,r,s,h⟩:=h;have k:=hok.few;refine gz func74 ?_;have e:=Ext.refl No w;refine vo Z (kw Z (uc Z (qf (jq (qj Z (jd h.head Z Z (j6 ge Z (wl (zx8 ge Z D.order.length D.order.length 8 Z (zs:=[.int .i64 0]) Z Z zd Z Z (aB _) zk zb λf t a g i n=>?_)))))))));have l:=h.ga i;have e:=e.gb i;refine kg Z (qj Z (jd l.head Z Z (wl (yj2 ge Z 1 Z g (l.order_src (Ext.refl _ _)) (aB _) (by rw[va];simp) λo c j p=>?_))));have e:=e.gi j a;refine u3 (kw Z (gv (gy Z Z ?_)));refine⟨f,Z,a,?_,e⟩;have c:j0 o f 3 (put (Df D.order.length [.int .i64 0]) 0 (zq0 D.order)):=c;rwa [Bv (by rw[va];simp[zq0])] at c
theorem fresh_rows (w:World) (F:Nat->Prop) (n:Nat):A8 w F (kj.fresh n).secs (List.replicate n (uf zeros none 0 0)):=by
 refine⟨by simp[kj.fresh],λi s r c d=>?_⟩;simp only[kj.fresh] at c;have e:=List.mem_of_getElem? c;have f:=List.mem_of_getElem? d;rw[List.eq_of_mem_replicate e,List.eq_of_mem_replicate f];refine⟨none,0,Z,aB _,zeros_length,λb a=>(by cases a),⟨Z,.inl Z⟩,λb g a=>(by cases a)⟩
theorem dk_new (w:World) (n:Int):gn prog 22 [.int .i64 n] w λv w'=>
  if 1<=n/\n<=2048 then∃d,v= .tuple #[.pointer (some ⟨d,0,none⟩),.int .i64 0]/\w.heap.size<=d/\At w' d (Grow No w w') (kj.fresh n.toNat)/\Ext No w w'
  else v= .tuple #[.pointer none,.int .i64 2]/\Ext No w w':=by
 refine gz func22 (have f:=Ext.refl No w;vo Z (ju (α:=Bool) [0] Z (λz=>[(9,.bool z)]) (λz u=>u=w/\z=decide (¬(1<=n/\n<=2048))) ?_ ?_));refine j1 (j6 ge Z (jw 6 Z (λr=>?_) (λr=>?_)));refine xj1 ge Z (gl (j2 _ Z ⟨Z,?_⟩));simp;omega;refine xj1 ge Z (gl (j2 _ Z ⟨Z,?_⟩));simp only[aP];omega;rintro z w ⟨rfl,rfl⟩;refine jy Z (λl=>?_) (λl=>?_);refine gp (j1 (kg Z (gv (gu (f_ret2 Z Z Z ?_)))));rw[aI l];exact⟨Z,f⟩
 have s:=aT.1 l;refine qf (jq (qj Z (wl (zx8 ge Z n.toNat n.toNat 88 Z (zs:=uf zeros none 0 0) (by simp[ti218,uf,zeros,gh]) Z zd zk zk (aB _) zk zb λm y g i o t=> have f:=f.gb o;u1 Z (by simp[zq4,ti153]) Z (gt Z λp A j b k=> have c:=al f.size j;have a:=i.ga k;have f:=f.gb k;kg Z (gv (f_ret2 Z Z Z ?_)))))));rw[aL s];have e:(kj.fresh n.toNat).secs.length=n.toNat:=by simp[kj.fresh]
 refine⟨p,Z,c,⟨m,none,0,?_,⟨_,a,fresh_rows _ _ _⟩,.inl ⟨Z,Z,Z,Z⟩,⟨.inr ⟨c,b.lt⟩,.inr ⟨g,a.lt⟩,λx q=>(by cases q)⟩,λx q=>q.elim False.elim λh=>h.2⟩,f⟩;rw[e];exact b
theorem flat_sec (s:Bytes) (p:Option Addr) (n c:Nat):∀u∈uf s p n c,u.oneCell'=true:=λu a=>by
 simp only[uf,aS,aF] at a
 rcases a with a|rfl
 ·exact Av u a
 rfl
theorem dk_copy (w:World) {d m:Nat} {F:Nat->Prop} {D:kj} (h:At w d F D) (hok:D.Ok m) (hm:m<1000000000):
  gn prog 41 [.pointer (some ⟨d,0,none⟩)] w λv w'=>∃c,v= .pointer (some ⟨c,0,none⟩)/\w.heap.size<=c/\At w' c (Grow No w w') D/\Ext No w w':=by
 obtain⟨sb,op,oc,h⟩:=h;have cm:=hok.few;have b6:=hok.size;refine gz func41 ?_;have g:=Ext.refl No w;refine vo Z (kw Z (uc Z (qf (jq (qj Z (jf h.head Z Z (gt Z λb3 w1 b7 a b8=>?_)))))));have af:=al g.size b7;have g:=g.gb b8;refine wl (j9 ge a Z Z Z Z (by simp;exact⟨Z,Z,Z,Z,Z,Z⟩) λw2 a b9 cs=>?_);have g:=g.gi b9 af;have h2:=h.ga g;refine u3 (qj Z (gj call74 Z (dk_pending w2 ⟨_,_,_,h2⟩ hok hm) ?_));rintro v3 w3⟨bo,rfl,bn,f,bp⟩;have ag:=j3 a.lt bn;have cb:=al g.size bn;have a:=a.ga bp;have g:=g.gb bp;refine j6 ge Z (qk a Z Z Z λw4 a bq ct=>?_);have f:=f.gk bq ag.symm;have g:=g.gi bq af;have h4:=h.ga g;refine u3 (qj Z (jd h4.head Z Z (j6 ge Z (wl (zx8 ge Z D.secs.length D.secs.length 88 Z (zs:=uf zeros none 0 0) (by simp[ti218,uf,zeros,gh]) Z zd Z Z (aB _) zk zb λy w5 ah ai a4 cu=>?_)))));have C:=j3 a.lt ah;have W:=j3 f.lt ah;have aj:=al g.size ah;have a:=a.ga a4;have f:=f.ga a4;have g:=g.gb a4;refine j6 ge Z (qk a Z Z Z λw6 a a5 cv=>?_);have ai:=ai.gk a5 C.symm;have f:=f.gk a5 ag.symm;have g:=g.gi a5 af;have a:j0 w6 b3 153 (dskL y D.secs.length (some ⟨bo,0,none⟩) D.order.length D.order.length D.dead D.fuse D.fault D.done):=a;have h6:=h.ga g;obtain⟨L,cc,a6⟩:=h.secs;have hu:=a6.uni;refine u3 (gp (qj Z (jd h6.head Z Z (kg Z (j8 ?_)))))
 refine c_loop (α:=Nat×List Sec) (λz u=>z.1<=D.secs.length/\z.2.length=D.secs.length/\(∀j,j<z.1->z.2[j]? =D.secs[j]?)/\Ext No w u/\
   j0 u b3 153 (dskL y D.secs.length (some ⟨bo,0,none⟩) D.order.length D.order.length D.dead D.fuse D.fault D.done)/\j0 u bo 3 (zq0 D.order)/\∃M,j0 u y 218 (List.flatten M)/\A8 u (Grow No w u) z.2 M)
  (λz=>[(26,.int .i64 (z.1:Int)),(3,.pointer (some ⟨b3,0,none⟩)),(24,.slice (some ⟨sb,0,none⟩) D.secs.length D.secs.length),(25,.int .i64 (D.secs.length:Int))]) (λz u=>D.secs.length-z.1) (0,(kj.fresh D.secs.length).secs) Z ?_ ?_
 exact⟨aJ _,by simp[kj.fresh],λj hj=>absurd hj zq,g,a,f,_,ai,fresh_rows _ _ _⟩
 rintro⟨i,P⟩ u ⟨hi,ay,Q,ak,a,f,M,E,R⟩;dsimp only at hi ay Q R|-;refine gp (j1 (kg Z (gp (jy Z (λhc=>?_) (λhc=>?_)))));have a7:i<D.secs.length:=by omega
 have hs:D.secs[i]? =some D.secs[i]:=by simp[a7]
 generalize hss:D.secs[i]=s at hs;have cw:i<L.length:=by rw[a6.1];exact a7
 have hr:L[i]? =some L[i]:=by simp
 generalize hrd:L[i]=r at hr;obtain⟨p,c,az,cn,q,br,cd,ce⟩:=(a6.2 i s r hs hr).ext ak λ_ _ _=>id;have cf:=waits_few hok hs;have S:r.length=65:=by rw[az];simp[uf,gh,q]
 have a8:Seg u sb (0+i*65) r:=by have:=((cc.ga ak).ql.drop (i*65)).take 65;rwa [rows_row hu hr] at this
 refine qf (jq (gp (j8 (qj Z (ki Z 65 Z i Z a7 (0+i*65) Z (jk Z a8 S (gt Z λb5 w7 am ab an=>?_)))))));have a9:=j3 a.lt am;have ba:=j3 f.lt am;have X:=j3 E.lt am;have cg:=al ak.size am;have a:=a.ga an;have f:=f.ga an;have bs:=E;have E:=E.ga an;have g:=ak.gb an;have k:Ext No u w7:=an;subst az;refine j6 ge Z (wl (j9 ge ab Z Z (by rw[jc];exact S) (by rw[jc,S];rfl) (by rw[jc];exact flat_sec _ _ _ _) λw8 ab ap cx=>?_));have ab:j0 w8 b5 218 (uf s.safe p s.waits.length c):=ab;have a:=a.gk ap a9;have f:=f.gk ap ba;have E:=E.gk ap X;have k:=k.gi ap am;have g:=g.gi ap cg;have ch:M.length=D.secs.length:=R.1.trans ay;have ci:i<M.length:=by omega
 have T:M[i]? =some M[i]:=by simp
 generalize hxd:M[i]=x at T;have bb:P[i]? =some (P[i]'zk):=by simp[show i<P.length by omega]
 generalize hcd:P[i]'zk=s0 at bb;obtain⟨p0,c0,bc,_,a0,_,_,_⟩:=R.2 i s0 x bb T;have bd:=R.uni;have bf:=yg bd;have G:w8.cell? ⟨b5,64,none⟩=some (.slice p s.waits.length c):=ab.cell (by simp[uf,gh,q]);have bg:Seg w8 b5 0 (gh s.safe):=by have:=ab.ql.take 64;simpa [uf,gh,q] using this
 refine u3 (qj Z (jd a Z Z (j6 ge Z (jk Z bg (by simp[gh,q]) (ki Z 65 Z i Z zk (0+i*65) Z (j6 ge Z (wl (Ci ge E Z (by rw[jc];simp[gh,q]) (by rw[bf];show 0+i*65+64<=_;omega) (by rw[jc];exact Av) λw9 ac aq cy=>?_))))))));have ac:j0 w9 y 218 (Vc.put M.flatten (i*65+0) (gh s.safe)):=by simpa using ac
 rw[zw1 bd T _ (by simp[gh,q])] at ac;have bh:Vc.put x 0 (gh s.safe)=uf s.safe p0 s0.waits.length c0:=by rw[bc,put_eq _ _ _ (by simp[uf,gh,q,a0])];simp[uf,gh,q,a0]
 rw[bh] at ac;have a:=a.gk aq C;have f:=f.gk aq W;have G:=D4 G aq (Ne.symm X);have g:=g.gi aq aj;have k:Ext (Vc.One y) u w9:=k.no.then aq;refine u3 (ke Z 7 [qP 0,qP 1,qP 2,qP 4,qP 5,(3,false),(6,false)] [7,8,9] No zf λcz A cp=> have k:=k.gb A;have g:=g.gb A;wd_p ge Z (j5 ge Z Z (λw' bi=>(a.ga bi).cell Z) (wd_p ge Z (j5 ge Z Z (λw' bi=>D4 G bi id) (jv Z (qw ge Z 64 Z z29 (qz zeros_length) zd zd trivial (l':=[]) Z λad bj K a1 Y cq=>⟨A.gb Y,?_⟩))))));have bt:=al g.size K;have bk:=al k.size K;have k:=k.gb Y;have g:=g.gb Y;have U:=A.gb Y;have bu:Own bj (some ⟨ad,0,none⟩) 0 0 165 64 []:= .inr ⟨ad,[],Z,a1,Z,aB _,by unfold maxLen;omega,Z⟩;have bv:∀x,TyB u x 165->x≠y:=λx T=>T.ne bs zd;have bm:=cd.ext k λb t V=>bv b (ce b t V).2;have bw:Src prog bj 64 (.slice p s.waits.length c) s.waits.length (bl s.waits).flatten:=Src.slice bm λv hv=>by simp only[bl,gh,List.mem_flatten,aZ] at hv;obtain⟨l,⟨b,_,rfl⟩,hv⟩:=hv;exact Av v hv
 refine jv Z (vt ge Z 64 64 Z Z (by rw[z29];exact qz zeros_length) zd bu bw zn zt λN ae aw B a2 bx=>⟨U.trans a2 λx T e=>?_,?_⟩);simp at e;have B:Own aw N (0+s.waits.length) ae 165 64 (bl s.waits).flatten:=B;rw[aV] at B;have H:Ext (Vc.One ad) bj aw:=a2.mono λx _ e=>by simp at e;exact e.symm
 have k:=k.gi H bk;have g:=g.gi H bt;have a3:=(ac.ga U).gk H (j3 ac.lt (al A.size K));have bz:Uni 65 (M.set i (uf s.safe p0 s0.waits.length c0)):=bd.set i (by simp[uf,gh,q]);have cj:(M.set i (uf s.safe p0 s0.waits.length c0))[i]? =some (uf s.safe p0 s0.waits.length c0):=by simp[ci]
 have ar:=yg bz;rw[cK] at ar;refine js (wb Z (st_ix ge Z 65 Z i Z zk (0+i*65) Z (wb Z (zz3 ge Z Z Z (wb Z (un ge a3 Z Z (by rw[ar];show 0+i*65+64<_;omega) λau o O cr=>?_))))));have o:j0 au y 218 ((M.set i (uf s.safe p0 s0.waits.length c0)).flatten.set (0+i*65+64) (.slice N (0+s.waits.length) ae)):=o;rw[aV,aV] at o;have o:j0 au y 218 (Vc.put (M.set i (uf s.safe p0 s0.waits.length c0)).flatten (i*65+64) [.slice N s.waits.length ae]):=o;rw[zw1 bz cj _ zq,List.set_set] at o;have k:=k.then O;have g:=g.gi O aj;have ax:Vc.put (uf s.safe p0 s0.waits.length c0) 64 [.slice N s.waits.length ae]=uf s.safe N s.waits.length ae:=by rw[put_eq _ _ _ (by simp[uf,gh,q])];simp[uf,gh,q]
 rw[ax] at o;have av:Ext (λx=>x=ad\/x=y) w9 au:=((U.no.then (H.mono λ_ _ e=> .inl e))).then (O.mono λ_ _ e=> .inr e);have b0:=a.ext av λe=>e.elim (λe=>j3 a.lt (al A.size K) e) C;have b1:=f.ext av λe=>e.elim (λe=>j3 f.lt (al A.size K) e) W;refine ja (Bi Z ?_);rw[qc _ zk];refine gl (jh (i+1,P.modify i λ_=>s) Z ⟨by simp only;omega,by simp only[List.length_modify];omega,?_,g,b0,b1,_,o,?_⟩ (by simp only;omega));intro j hj;simp only at hj|-;rw[dH];by_cases hij:i=j;subst hij;rw[bb,hs];simp;rw[Q j zk];simp[hij];have b2:A8 au (Grow No w au) P M:=(R.ext k λx _ T=>bv x T).mono λx T=>T.wide (aB _) k.size;refine b2.modify λ_ _=>?_
 have I:∀b t,N=some ⟨b,t,none⟩->w.heap.size<=b/\TyB aw b 165/\t=0:=by
  intro b t V;have J:jb N b/\t=0:=by rcases B with⟨hp,_⟩|⟨b',l,hp,_⟩;rw[hp] at V;cases V;rw[hp] at V;simp at V;obtain⟨rfl,rfl⟩:=V;exact⟨hp,Z⟩
  refine⟨?_,Own.ty B J.1,J.2⟩;rcases bx b J.1 with h'|h';have h':some (⟨ad,0,none⟩:Addr)=some ⟨b,0,none⟩:=h';have h':ad=b:=by simp at h';exact h'
  omega;have:=a1.lt;omega
 have aa:∀b,TyB aw b 165->b≠y:=λb V=>V.ne a3 zd;refine⟨N,ae,Z,B.cap,q,br,?_,λb t V=>?_⟩;exact B.sl.ext O λb t V=>aa b (I b t V).2.1;have ck:=(I b t V).2.1.ext O (aa b (I b t V).2.1);obtain⟨l,hl⟩:=ck;exact⟨.inr ⟨(I b t V).1,hl.lt⟩,l,hl⟩
 refine xt (qs (qs (ux (jq (kw Z (gv (gy Z Z ?_)))))));have b4:P=D.secs:=by apply List.ext_getElem?;intro j;by_cases hj:j<i;exact Q j hj;rw[bR zk,bR zk]
 rw[b4] at R;refine⟨b3,Z,af,⟨y,some ⟨bo,0,none⟩,D.order.length,a,⟨M,E,R⟩,?_,⟨.inr ⟨af,a.lt⟩,.inr ⟨aj,E.lt⟩,λx T=>?_⟩,λx T=>T.elim False.elim λh=>h.2⟩,ak⟩;have:=Own.blk f 1 (n:=D.order.length) (c:=D.order.length) (by simp[zq0]) (aB _) zb;rwa [aN (by simp[zq0])] at this;simp at T;subst T;exact .inr ⟨cb,f.lt⟩
abbrev Rt (w : World) : Prop := Seg w 0 0 (ku ua)
theorem Rt.ext {S : Nat -> Prop} {w w' : World} (h : Rt w) (hE : Ext S w w') (hS : ¬ S 0) : Rt w' := Seg.ext h hE hS
theorem Rt.lt {w : World} (h : Rt w) : 0 < w.heap.size := Seg.lt h zd
theorem zeros_b : gh zeros = cellsOf ti165.zero := z29.symm
theorem xv (w:World) (n:Int):
  gn prog 65 [.int .i64 n] w λv w'=>v= .int .i64 (sectZ n)/\Ext No w w':=by
 refine gz func65 (have e:=Ext.refl No w;vo Z (ju (α:=Bool) [0] Z (λz=>[(8,.bool z)]) (λz u=>u=w/\z=decide (n<0\/40000<n)) ?_ ?_));refine j1 (j6 ge Z (jw 5 Z (λa=>?_) (λa=>?_)));exact j4 ge 3 Z (gl (j2 (true) Z ⟨Z,by simp[a]⟩));exact j4 ge 3 Z (gl (j2 (_) Z ⟨Z,by simp[a]⟩));rintro z g ⟨b,rfl⟩;have b:=b.symm;subst b;refine jy Z (λc=>?_) (λc=>?_);have d:sectZ n=0:=aL c;rw[d];exact kw Z (gv (gu (gy Z Z ⟨Z,e⟩)));have d:sectZ n=((n.toNat+3)/48+1:Nat):=aI c;rw[d];have f:IntKind.i64.wrap (IntKind.i64.wrap ((IntKind.i64.wrap (n+3)).tdiv 48)+1)=(((n.toNat+3)/48+1:Nat):Int):=by rw[qc (n+3) zk,IntWalk.i64_quo _ _ zk,qc _ zk];omega
 refine xg (qj Z ?_);rw[f];exact kg Z (gv (gy Z Z ⟨Z,e⟩))
theorem slb4 (b : Nat) : ur (some ⟨b, 0, none⟩) 4 64 1 = some ⟨b, 4, none⟩ := rfl
theorem seal_put (l:Bytes) (hl:l.length<=60):Vc.put (gh (List.replicate 64 0)) 4 (gh l)=gh (List.replicate 4 0++(l++List.replicate (60-l.length) 0)):=by
 rw[put_eq _ _ _ (by simp[gm];omega),gm,vl,ve];have a:(List.replicate 64 (0:UInt8)).take 4=List.replicate 4 0:=rfl;have b:(List.replicate 64 (0:UInt8)).drop (4+l.length)=List.replicate (60-l.length) 0:=by rw[List.drop_replicate];congr 1;omega
 rw[a,b,qy,qy,aM]
theorem sum_put (R:Bytes) (d:Bytes) (hd:d.length=4):Vc.put (gh (List.replicate 4 0++R)) 0 (gh d)=gh (d++R):=by
 rw[put_eq _ _ _ (by simp[gm];omega),gm,vl,ve,hd];simp[qy,gh]
theorem sealed_calls (w:World) {p:Option Addr} {c:Nat} {l:Bytes} (h:xy w p l) (hl:l.length<=60) (hr:Rt w):
  gn prog 180 [.slice p l.length c] w λv w'=>v=numB (xz5 l)/\Ext No w w':=by
 obtain⟨R,y⟩:∃R,R=l++List.replicate (60-l.length) 0:=⟨_,Z⟩
 have k:R.length=60:=by rw[y];simp;omega
 have K:xz5 l=(sumW R).take 4++R:=by rw[y];rfl
 have G:=hr.lt;refine gz func180 (have b:=Ext.refl No w;qr (gt Z λd L z a m=>?_));have i:=al b.size z;have b:=b.gb m;have a:j0 L d 165 (gh (List.replicate 64 0)):=by(rw[show gh (List.replicate 64 0)=cellsOf ti165.zero from zeros_b];exact a)
 refine u3 (qr (wl (st_sa ge Z 4 64 64 1 Z ⟨.inr ⟨Z,Z⟩,.inr ⟨Z,Z⟩,.inl Z,by decide,by decide,by decide⟩ ?_)));rw[slb4];refine j6 ge Z (wl (yj2 ge Z 1 Z a (Src.slice (h.ga b) OneC.h) zt (by rw[gm];simp;omega) λx A n M=>?_));have b:=b.gi n i;have a:j0 x d 165 (gh (List.replicate 4 0++R)):=by rw[y,<-seal_put l hl];exact A
 have hr:Rt x:=(hr.ext m id).ext n λe=>by have e:0=d:=e;omega
 refine u3 (qr (wl (st_sa ge Z 4 64 64 1 Z ⟨.inr ⟨Z,Z⟩,.inr ⟨Z,Z⟩,.inl Z,by decide,by decide,by decide⟩ ?_)));rw[slb4];have B:xy x (some ⟨d,4,none⟩) R:=⟨by rw[gm,bF],.inr ⟨d,4,Z,by have e:=a.ql.drop 4;rw[ve] at e;simpa using e⟩⟩
 rw[show Value.slice (some ⟨d,4,none⟩) (64-4) (64-4)= .slice (some ⟨d,4,none⟩) R.length 60 from by rw[k]];refine gj call181 Z (sum_calls x B zk hr) ?_;rintro V W⟨rfl,o⟩;have a:=a.ga o;have b:=b.gb o;refine gt Z λH X q f r=>?_;have j:=j3 a.lt q;have D:=al b.size q;have a:=a.ga r;have b:=b.gb r;refine wl (j9 (l':=gh (sumW R)) ge f Z Z (by rw[gm,C8]) (by rw[gm,C8];rfl) OneC.h λY f s N=>?_);have a:=a.gk s j;have b:=b.gi s D;refine u3 (gp (ke Z 3 [qP 0,qP 1,(2,false)] [] (One d) zf λJ g O=>?_));have a:=a.ga g;have f:=f.ga g;have b:=b.gb g;have P:Ext (One d) _ J:=g.no;refine wd_sa ge Z Z 0 4 64 1 Z ⟨.inr ⟨Z,Z⟩,.inl Z,.inr ⟨Z,Z⟩,by decide,by decide,by decide⟩ ?_;rw[qe,bB];refine wd_sa ge Z Z 0 32 32 1 Z ⟨.inr ⟨Z,Z⟩,.inr ⟨Z,Z⟩,.inr ⟨Z,Z⟩,by decide,by decide,by decide⟩ ?_;rw[qe,bB];have E:Sl J (some ⟨H,0,none⟩) 4 1 (gh ((sumW R).take 4)):=⟨by rw[gm,aH,C8];rfl,.inr ⟨H,0,Z,by have e:=f.ql.take 4;rwa [vl] at e⟩⟩
 have Q:((sumW R).take 4).length=4:=by rw[aH,C8];rfl
 refine jv Z (st_cpK ge Z 1 Z a Z (by show 4<=32;decide) E OneC.h (by simp[gm,k]) λS t u T=>⟨P.then (u.mono λ_ _ e=>e),?_⟩);have b:=b.gi u i;have a:j0 S d 165 (gh (xz5 l)):=by rw[K,<-sum_put R _ Q];exact t
 exact js (ja (jq (qr (jf a Z (by rw[gm,yj1 hl]) (wl (j9 (l':=gh (xz5 l)) ge a Z Z (by rw[gm,yj1 hl]) (by rw[gm]) OneC.h λC a F U=> have b:=b.gi F i;u3 (gv (u7 [_] ⟨⟨d,0,Z,ud ge Z Z a.ql (by rw[gm,yj1 hl];rfl)⟩,trivial⟩ ⟨Z,b⟩))))))))
theorem and1 (t:Nat) (ht:t<4294967296):bitI .and .u32 (t:Int) 1=((t%2:Nat):Int):=by
 have a:(BitVec.ofInt IntKind.u32.bits (t:Int)&&&BitVec.ofInt IntKind.u32.bits 1).toNat=t%2:=by
  rw[BitVec.toNat_and];have b:(BitVec.ofInt IntKind.u32.bits (t:Int)).toNat=t:=by show(BitVec.ofInt 32 (t:Int)).toNat=t;rw[BitVec.toNat_ofInt];omega
  have c:(BitVec.ofInt IntKind.u32.bits 1).toNat=1:=rfl;rw[b,c,Nat.and_one_is_mod]
 show IntKind.u32.wrap _=_;rw[a,IntKind.wrap_u32];omega
theorem yv4 (w:World) (x:Value) (n t:Nat) (hn:n<5000000000) (ht:t<4294967296) (hx:x.oneCell'=true):
  gn prog 120 [.agg #[x,.int .i64 (n:Int)],.int .u32 (t:Int)] w λv w'=>v= .int .i64 (jj t n:Int)/\Ext No w w':=by
 refine gz func120 (have b:=Ext.refl No w;qr (gt Z λf g h a c=> have b:=b.gb c;have a:j0 g f 155 ([x,.int .i64 (n:Int)]):=a;kg Z (gp (kw Z (jy Z (λd=>?_) (λd=>?_))))));have e:jj t n=2+n:=aL (by rw[and1 t ht] at d;omega);rw[e];refine qj Z (jd a Z Z (j6 ge Z ?_));rw[qc _ zk];exact u3 (gv (gu (gy Z Z ⟨by congr 1,b⟩)));have e:jj t n=2:=aI (by rw[and1 t ht] at d;omega);rw[e];exact xg (kw Z (gv (gy Z Z ⟨Z,b⟩)))
theorem _root_.Go.Vc.j0.slB {w:World} {b T:Nat} {l:Bytes} (h:j0 w b T (gh l)):xy w (some ⟨b,0,none⟩) l:=⟨by rw[gm,bF],.inr ⟨b,0,Z,h.ql⟩⟩
theorem wrap32 (n : Nat) (h : n < 4294967296) : IntKind.u32.wrap (n : Int) = (n : Int) := by rw [IntKind.wrap_u32]; omega
theorem fits_calls (w:World) {d:Nat} {F:Nat->Prop} {D:kj} (h:At w d F D) (n:Int) (hn: -9223372036854775808<=n/\n<9223372036854775808):
  gn prog 70 [.agg #[.pointer (some ⟨d,0,none⟩),.int .i64 n]] w λv w'=>v= .bool (decide (0<=n/\B9 n.toNat D.secs.length))/\Ext No w w':=by
 refine gz func70 (have c:=Ext.refl No w;qr (gt Z λl o p a k=> have c:=c.gb k;have a:j0 o l 155 ([.pointer (some ⟨d,0,none⟩),.int .i64 n]):=a;kg Z (ju (α:=Bool) [] Z (λz=>[(2,.bool z)]) (λz u=>(z=decide (0<=n/\B9 n.toNat D.secs.length))/\j0 u l 155 ([.pointer (some ⟨d,0,none⟩),.int .i64 n])/\Ext No w u) ?_ ?_)));refine ke Z 19 [qP 0,qP 1,qP 2,qP 3,qP 4,qP 5,qP 6,qP 7,qP 8,qP 9,qP 10,qP 12,qP 13,qP 14,qP 15,(11,false),qP 16,qP 17,qP 18] [] (No) zf λm g q=> have e:=a;have a:=a.ga g;have c:=c.gb g;have r:Ext (No) _ m:=g.no;gw ge 1 Z (j5 ge Z Z (λw' b=>(e.ga b).cell Z) (gw ge 2 Z (Ao 6 Z (λj=>?_) (λj=>?_))));refine gw ge 1 Z (j5 ge Z Z (λw' b=>(e.ga b).cell Z) (gw ge 3 Z (Ao 11 Z (λj=>?_) (λj=>?_))));have s:=j;refine gw ge 1 Z (j5 ge Z Z (λw' b=>(e.ga b).cell Z) (gw ge 1 Z (j5 ge Z Z (λw' b=>(e.ga b).cell Z) (gw ge 2 Z ?_))));rw[qc (2*n) zk,qc _ zk];refine jv Z (j7 call77 Z ((dk_len m (h.ga c)).same) λt x i=>⟨(by obtain⟨rfl,f⟩:=i;exact r.gb f),?_⟩);obtain⟨rfl,f⟩:=i;have a:=a.ga f;have c:=c.gb f;exact gw ge 3 Z (js (ja (j2 (_) Z ⟨by rw[aP];unfold B9;omega,a,c⟩)));exact gw ge 10 Z (js (ja (j2 (false) Z ⟨by symm;rw[aE];unfold B9;omega,a,c⟩)));exact gw ge 15 Z (js (ja (j2 (false) Z ⟨by symm;rw[aE];unfold B9;omega,a,c⟩)));rintro z y ⟨rfl,a,c⟩;exact gv (gy Z Z ⟨Z,c⟩)
theorem head_calls (w:World) (x:Value) (n t:Nat) (hn:n<4294967296) (ht:t<4294967296) (hx:x.oneCell'=true) (hr:Rt w):
  gn prog 147 [.agg #[x,.int .i64 (n:Int)],.int .u32 (t:Int)] w λv w'=>v=numB (xw t n)/\Ext No w w':=by
 refine gz func147 (have b:=Ext.refl No w;qr (gt Z λU V W c F=> have b:=b.gb F;have c:j0 V U 155 ([x,.int .i64 (n:Int)]):=c;gt Z λX w2 r a s=> have G:=j3 c.lt r;have H:=al b.size r;have c:=c.ga s;have b:=b.gb s;u3 (gp (ke Z 9 [qP 2,qP 4,qP 5,qP 6,(0,false),(1,false),(3,false),(7,false),(8,false)] [9] (No) zf λY i I=> have J:=c;have c:=c.ga i;have a:=a.ga i;have b:=b.gb i;have d:Ext (No) _ Y:=i.no;gw ge 2 Z (j5 ge Z Z (λw' K=>(J.ga K).cell Z) (gw ge 1 Z ?_))))));rw[wrap32 n hn];have u:=d;refine jv Z (qw ge Z 1 Z Z Z zd zd zp (l':=gh z9) Z λE w4 p L j aa=>⟨d.gb j,have M:=j3 c.lt p;have q:=j3 a.lt p;have N:=al b.size p;have a:=a.ga j;have b:=b.gb j;have d:=d.gb j;jv Z (st_cv ge Z L λT k y ab=>⟨d.trans k λx hx e=>by have e:x=E:=e;have:=u.size;omega,?_⟩)⟩);have d:=d.trans k (S:=No) λx hx e=>by have e:x=E:=e;have:=u.size;omega
 have b:=b.gi k N;have a:=a.gk k q;have O:xy T (some ⟨E,0,none⟩) z9:=⟨Z,.inr ⟨E,0,Z,y⟩⟩
 refine jv Z (j7 call179 Z (Ad T (l:=z9) O zd t ht) λv6 w6 z=>⟨(by obtain⟨b8,rfl,P,A,f⟩:=z;exact d.gb f),?_⟩);obtain⟨b8,rfl,P,A,f⟩:=z;have a:=a.ga f;have b:=b.gb f;have d:=d.gb f;refine jv Z (j7 call179 Z (Ad w6 A.slB (by simp[z9,ka]) n hn) λv7 w7 B=>⟨(by obtain⟨Q,rfl,C,o,g⟩:=B;exact d.gb g),?_⟩);obtain⟨Q,rfl,C,o,g⟩:=B;have a:=a.ga g;have b:=b.gb g;have d:=d.gb g;refine jv Z (j7 call180 Z (sealed_calls w7 o.slB (by simp[z9,ka]) (hr.ext b id)) λv8 w8 D=>⟨(by obtain⟨rfl,m⟩:=D;exact d.gb m),?_⟩);obtain⟨rfl,m⟩:=D;have a:=a.ga m;have b:=b.gb m;exact js (wb Z (j9 (l':=gh (xw t n)) ge a Z Z (by rw[gm,Du]) (by rw[gm,Du];rfl) OneC.h λw9 a R ac=> have b:=b.gi R H;ja (jq (gv (u7 [_] ⟨⟨X,0,Z,ud ge Z Z a.ql (by rw[gm,Du];rfl)⟩,trivial⟩ ⟨Z,b⟩)))))
abbrev ItQ (w : World) (F : Nat -> Prop) (N : Nat) (J Jx : Nat -> (Nat -> Prop) -> World -> Prop) (w' : World) : Prop :=
  ∃ F' : Nat -> Prop, Ext F w w' /\ (∀ x, F' x -> F x \/ w.heap.size <= x) /\ (J N F' w' \/ ∃ k, k < N /\ Jx k F' w')
abbrev argB (l : List Bytes) (k : Nat) : Array Value := #[numB (l.getD k [])]
theorem getD_rep {n k : Nat} {b : Bytes} (h : k < n) : (List.replicate n b).getD k [] = b := by simp [h]
theorem blank1_walk (w:World) {l b n:Nat} {F:Nat->Prop} {J Jx:Nat->(Nat->Prop)->World->Prop} (hC:Cons prog l w.heap.size n (argB (List.replicate n zeros)) J Jx) (hb:j0 w b 3 [.int .i64 (n:Int)]) (hn:n<1000000000) (h0:J 0 F w):
  gn prog 145 [.func (.yield l) #[] #[],.pointer (some ⟨b,0,none⟩)] w λ_ w'=>ItQ w F n J Jx w':=by
 refine gz func145 ?_;have c:=Ext.refl F w;refine qr (gx Z (hb.cell Z) (kg Z (j8 (jl (α:=Nat×(Nat->Prop)) [0,3] Z (λz=>[(4,.int .i64 (z.1:Int))]) (λz u=>(z.1<=n/\J z.1 z.2 u/\(∀x,z.2 x->F x\/w.heap.size<=x))/\Ext F w u) (λz u=>n-z.1) (0,F) Z ⟨⟨aJ _,h0,λx g=> .inl g⟩,c⟩ ?_))));rintro⟨k,G⟩ A ⟨⟨B,i,j⟩,c⟩;refine vo Z (jy Z (λd=>?_) (λd=>?_));have a:k<n:=by omega
 refine Bn (gp (c_regionI (wlw_p Z ge Z (wlw Z (st_bd ge Z trivial (l':=gh zeros) (by rw[zeros_b];rfl) ?_)))));rw[show gh zeros=gh ((List.replicate n zeros).getD k []) from by rw[getD_rep a]];refine wli_yield Z Z Z Z Z Z (hC.round i a) λy C⟨m,o,p,q,r⟩=>?_;have v:=c.size;have c:=c.trans o λx g e=>(j x e).resolve_right zk;have f:∀x,m x->F x\/w.heap.size<=x:=λx g=>(p x g).elim (j x) λh=> .inr zk;refine wlw_p Z ge Z (Bf (jq (vk Z (λd=>?_) (λd=>?_))));have s:=r (by simpa using d);exact gv (jt (gu (gu (jt (f_ret0 Z ⟨m,c,f,.inr ⟨k,a,s⟩⟩)))));have i:=q (by simpa using d);refine qf (Bi Z ?_);rw[qc _ zk];exact gl (jh (k+1,m) Z ⟨⟨a,i,f⟩,c⟩ zm);have a:k=n:=by omega
 subst a;exact xt (qs (qs (ux (zz Z ⟨G,c,j,.inl i⟩))))
theorem blank1_iter (w:World) {b n:Nat} (hb:j0 w b 3 [.int .i64 (n:Int)]) (hn:n<1000000000):Iter prog 145 [.pointer (some ⟨b,0,none⟩)] n (argB (List.replicate n zeros)) (One b) w:=λ_ _ _ _ hC h0 _=>blank1_walk w hC hb hn h0
theorem blank_calls (w:World) (n:Nat):
  gn prog 72 [.int .i64 (n:Int)] w λv w'=>∃b,v= .func (.func 145) #[] #[.pointer (some ⟨b,0,none⟩)]/\w.heap.size<=b/\j0 w' b 3 [.int .i64 (n:Int)]/\Ext No w w':=by
 exact gz func72 (have c:=Ext.refl No w;qr (gt Z λg h d a e=> have f:=al c.size d;have c:=c.gb e;have a:j0 h g 3 ([.int .i64 (n:Int)]):=a;kg Z (kw Z (gv (gy Z Z ⟨g,Z,f,a,c⟩)))))
theorem begin1_walk (w:World) {l bl bt n t:Nat} {x:Value} {F:Nat->Prop} {J Jx:Nat->(Nat->Prop)->World->Prop} (hC:Cons prog l w.heap.size 1 (argB [xw t n]) J Jx) (hbl:j0 w bl 155 [x,.int .i64 (n:Int)]) (hbt:j0 w bt 35 [.int .u32 (t:Int)]) (hx:x.oneCell'=true) (hn:n<4294967296) (ht:t<4294967296) (hr:Rt w) (h0:J 0 F w):
  gn prog 146 [.func (.yield l) #[] #[],.pointer (some ⟨bl,0,none⟩),.pointer (some ⟨bt,0,none⟩)] w λ_ w'=>ItQ w F 1 J Jx w':=by
 obtain⟨H,m⟩:∃H,H=xw t n:=⟨_,Z⟩
 rw[<-m] at hC;refine gz func146 ?_;have a:=Ext.refl F w;have c:=h0;refine c_regionI (wlw_p Z ge Z (wlw Z (st_ldN ge Z hbl.ql Z (wlw Z (st_ld ge Z (hbt.cell Z) (wlw Z (j7 call147 Z (head_calls w x n t hn ht hx hr) ?_)))))));rintro r s⟨rfl,b⟩;have c:=hC.st c b λ_ e=>e.elim;have a:=a.gb b;rw[<-m];refine wli_yield Z Z Z Z Z Z (hC.round c zd) λy u⟨o,f,g,i,j⟩=>?_;have q:=a.size;have a:=a.then f;have k:∀x,o x->F x\/w.heap.size<=x:=λx hx=>(g x hx).elim .inl λh=> .inr zk;refine Bf (zz Z (⟨o,a,k,?_⟩));cases y with
 |true=>exact .inl (i Z)
 |false=>exact .inr ⟨0,by decide,j Z⟩
theorem begin1_iter (w:World) {bl bt n t:Nat} {x:Value} (hbl:j0 w bl 155 [x,.int .i64 (n:Int)]) (hbt:j0 w bt 35 [.int .u32 (t:Int)]) (hx:x.oneCell'=true) (hn:n<4294967296) (ht:t<4294967296) (hr:Rt w):Iter prog 146 [.pointer (some ⟨bl,0,none⟩),.pointer (some ⟨bt,0,none⟩)] 1 (argB [xw t n]) (λx=>x=bl\/x=bt\/x=0) w:=λ_ _ _ _ a b _=>begin1_walk w a hbl hbt hx hn ht hr b
theorem bodyB_len (b : Bytes) : (A1 b).length = b.length + 4 := by simp [A1, ka]; omega
theorem sect_le (b:Bytes) (hb:b.length<=40000) {k:Nat} (hk:k<jo b.length):48*k<(A1 b).length:=by
 have:=sectN_tight hb;rw[bodyB_len];omega
theorem piece_get (t n : Nat) (b : Bytes) {k : Nat} (hk : k < jo b.length) : (qq t n b).getD k [] = qv t n b k := by simp [qq, hk]
theorem own1 {b x:Nat} (h:jb (some ⟨b,0,none⟩) x):x=b:=by
 have h:some (⟨b,0,none⟩:Addr)=some ⟨x,0,none⟩:=h;simp at h;exact h.symm
theorem Bb {G G2:Nat->Prop} {b:Nat} {w:World} (h:¬G b) (hb:b<w.heap.size) (hG:∀x,G2 x->G x\/w.heap.size<=x):¬G2 b:=λe=>(hG b e).elim h λh=>by omega
theorem xj5 (w:World) (t n:Nat) {p:Option Addr} {m c:Nat}:
  gn prog 121 [.int .u32 (t:Int),.int .u32 (n:Int),.slice p m c] w λv w'=>∃bb bt bn,v= .func (.func 178) #[] #[.pointer (some ⟨bb,0,none⟩),.pointer (some ⟨bt,0,none⟩),.pointer (some ⟨bn,0,none⟩)]/\(w.heap.size<=bb/\w.heap.size<=bt/\w.heap.size<=bn)/\j0 w' bb 41 [.slice p m c]/\j0 w' bt 35 [.int .u32 (t:Int)]/\j0 w' bn 35 [.int .u32 (n:Int)]/\Ext No w w':=by
 exact gz func121 (have d:=Ext.refl No w;qr (gt Z λr x h a i=> have j:=al d.size h;have d:=d.gb i;have a:j0 x r 35 ([.int .u32 (t:Int)]):=a;gt Z λs y k b g=> have l:=al d.size k;have a:=a.ga g;have d:=d.gb g;have b:j0 y s 35 ([.int .u32 (n:Int)]):=b;gt Z λu z o e f=> have q:=al d.size o;have a:=a.ga f;have b:=b.ga f;have d:=d.gb f;have e:j0 z u 41 ([.slice p m c]):=e;kg Z (kw Z (gv (gy Z Z ⟨u,r,s,Z,⟨q,j,l⟩,e,a,b,d⟩)))))
def RowN (w u : World) (G : Nat -> Prop) (q : Option Addr) (m c : Nat) (l : Bytes) : Prop :=
  xy u q l /\ m = l.length /\ m <= c /\ ∀ x off, q = some ⟨x, off, none⟩ -> w.heap.size <= x /\ x < u.heap.size /\ ¬ G x
theorem RowN.ga {w u u':World} {G:Nat->Prop} {q:Option Addr} {m c:Nat} {l:Bytes} (h:RowN w u G q m c l) (hE:Ext No u u'):RowN w u' G q m c l:=
 ⟨h.1.ga hE,h.2.1,h.2.2.1,λx f e=>let⟨a,b,d⟩:=h.2.2.2 x f e;⟨a,aK b hE.size,d⟩⟩
theorem RowN.round {w u u':World} {G G2:Nat->Prop} {q:Option Addr} {m c:Nat} {l:Bytes} (h:RowN w u G q m c l) (hE:Ext G u u') (hG:∀x,G2 x->G x\/u.heap.size<=x):RowN w u' G2 q m c l:=
 ⟨h.1.ext hE λx f e=>(h.2.2.2 x f e).2.2,h.2.1,h.2.2.1,λx f e=>let⟨a,b,d⟩:=h.2.2.2 x f e;⟨a,aK b hE.size,Bb d b hG⟩⟩
theorem xz7 {q:Option Addr} {l m sz x off:Nat} (h:ur q l m sz=some ⟨x,off,none⟩) (hq:∀x off sp,q=some ⟨x,off,sp⟩->sp=none):∃off',q=some ⟨x,off',none⟩:=by
 unfold ur at h;split at h;exact⟨off,h⟩
 cases q with
 |none=>cases h
 |some a=>
  obtain⟨b,off',sp⟩:=a;obtain rfl:=hq _ _ _ Z;simp only[Option.map_some,bJ] at h;unfold Addr.add at h;split at h;simp at h;exact⟨off',by rw[h.1]⟩
  simp at h;exact⟨off',by rw[h.1]⟩
theorem slB_spot {w:World} {q:Option Addr} {l:Bytes} (h:xy w q l) (hl:l≠[]):∀x off sp,q=some ⟨x,off,sp⟩->sp=none:=λx off sp e=>by
 rcases h.2 with a|⟨b,o,c,_⟩
 ·exact absurd (aU a) hl
 rw[c] at e;simp at e;exact e.2.2.symm
theorem RowN.tail {w u:World} {G:Nat->Prop} {q:Option Addr} {m c:Nat} {l:Bytes} (h:RowN w u G q m c l) (hl:l≠[]) {k:Nat} (hk:k<=m):RowN w u G (ur q k c 1) (m-k) (c-k) (l.drop k):=by
 obtain⟨d,g,i,j⟩:=h;have b:=slB_spot d hl;have f:=d.slice k m c hk i zk;rw[bF,bF,ve,vl,aN za] at f;refine⟨?_,by rw[aX];omega,by omega,λx n e=>?_⟩;rw[xy,aX,<-g];exact f;obtain⟨a,o⟩:=xz7 e b;exact j x a o
theorem RowN.head {w u:World} {G:Nat->Prop} {q:Option Addr} {m c:Nat} {l:Bytes} (h:RowN w u G q m c l) {k:Nat} (hk:k<=m):xy u q (l.take k):=by
 obtain⟨b,d,e,f⟩:=h;have a:=b.slice 0 k k (aJ _) (aB _) zk;rw[qe,bB,dA,List.drop_zero,bF,vl] at a;rw[xy,aH,bP zk];exact a
theorem wrap16 (n : Nat) (h : n < 65536) : IntKind.u16.wrap (n : Int) = (n : Int) := by rw [IntKind.wrap_u16]; omega
theorem piece1_walk (w:World) {l bb bt bn t n c:Nat} {p:Option Addr} {b:Bytes} {F:Nat->Prop} {J Jx:Nat->(Nat->Prop)->World->Prop} (hCo:Cons prog l w.heap.size (jo b.length) (argB (qq t n b)) J Jx)
  (hbb:j0 w bb 41 [.slice p b.length c]) (hbt:j0 w bt 35 [.int .u32 (t:Int)]) (hbn:j0 w bn 35 [.int .u32 (n:Int)]) (hs:xy w p b) (ht:t<4294967296) (hn:n<4294967296) (hb4:b.length<=40000) (hr:Rt w)
  (hF:¬F 0) (h0:J 0 F w):
  gn prog 178 [.func (.yield l) #[] #[],.pointer (some ⟨bb,0,none⟩),.pointer (some ⟨bt,0,none⟩),.pointer (some ⟨bn,0,none⟩)] w λ_ w'=>ItQ w F (jo b.length) J Jx w':=by
 have cm:=Cx b.length;refine gz func178 (have f:=Ext.refl F w;have g:=h0;have Y:=hCo.lt h0;have cn:=hr.lt;have cp:=hbb.lt;have cq:=hbt.lt;have cs:=hbn.lt;gp (ke Z 7 [qP 0,qP 1,qP 2,qP 4,(3,false),(5,false),qP 6] [] (No) zf λw1 D ct=>?_));have I:=hbb;have g:=hCo.st g D λ_ e=>e.elim;have hbb:=hbb.ga D;have hbt:=hbt.ga D;have hbn:=hbn.ga D;have hs:=hs.ga D;have hr:=Rt.ext hr D id;have f:=f.gb D;have r:Ext (No) _ w1:=D.no;refine j5 ge Z Z (λw' L=>((I.ga L).cell Z)) (gw ge 2 Z ?_);rw[wrap32 b.length zk];refine j5 ge Z Z (λw' L=>((I.ga L).cell Z)) (have bq:=f;jv Z (j7 call179 Z (Ad w1 (l:=[]) (Sl.nil _ _ _) zd b.length zk) λv2 w2 a1=>⟨(by obtain⟨M,rfl,a2,ai,v⟩:=a1;exact r.gb v),?_⟩));obtain⟨M,rfl,a2,ai,v⟩:=a1;have g:=hCo.st g v λ_ e=>e.elim;have hbb:=hbb.ga v;have hbt:=hbt.ga v;have hbn:=hbn.ga v;have hs:=hs.ga v;have hr:=Rt.ext hr v id;have f:=f.gb v;have r:=r.gb v;have a3:=Own.blk ai 1 (n:=4) (c:=4) (T:=5) (by rw[gm,bI,ka]) zd zd;refine jv Z (vt ge Z 1 1 Z Z Z zd a3 (Src.slice hs OneC.h) (by dsimp only[maxLen];simp only[ka,bI];omega) (by dsimp only;simp only[ka,bI];omega) λpr cr w3 N O br=>⟨r.trans O λx X e=>by have:=own1 e;omega,?_⟩);have bs:bb≠M:=by omega
 have bu:bt≠M:=by omega
 have bv:bn≠M:=by omega
 have P:∀x,jb (some (⟨M,0,none⟩:Addr)) x->x=M:=λx e=>by have e:some (⟨M,0,none⟩:Addr)=some ⟨x,0,none⟩:=e;simp at e;exact e.symm
 have f:=f.trans O λx X e=>by have:=P x e;omega
 have g:=hCo.st g O λx e=>by have:=P x e;exact⟨by omega,λe=>by have:=Y _ e;omega⟩
 have hbb:=hbb.ext O λe=>bs (P _ e);have hbt:=hbt.ext O λe=>bu (P _ e);have hbn:=hbn.ext O λe=>bv (P _ e);have hr:=Rt.ext hr O λe=>by have:=P _ e;omega
 have a:RowN w w3 F pr (4+b.length) cr (A1 b):=by
  have N:Own w3 pr (4+b.length) cr 5 1 ((gh ([]++be 4 b.length)).take (4*1)++gh b):=N;rw[bI,bF,vl,aN (by rw[ka];omega),<-qy] at N;have e1:4+b.length=(A1 b).length:=by rw[bodyB_len];omega
  refine⟨by have:=N.sl;rw[e1] at this;exact this,e1,N.cap,λx ad e=>?_⟩;have X:jb pr x:=by rcases N with⟨h1,_⟩|⟨b',l',h1,_⟩;rw[h1] at e;cases e;rw[h1] at e;simp at e;obtain⟨rfl,rfl⟩:=e;exact h1
  have hw:w.heap.size<=x:=(br x X).elim (λh=>by have:=P x h;omega) λh=>by have:=bq.size;have:=v.size;omega
  exact⟨hw,N.lt X,λe=>by have:=Y _ e;omega⟩
 have hs:=0;rw[show Value.slice pr (([]++be 4 b.length:List UInt8).length+b.length) cr= .slice pr (4+b.length) cr from by rw[bI,ka]];refine gw ge 1 Z (js (ja (jq (qr (gx Z (hbb.cell Z) (j6 ge Z (gj call65 Z (xv w3 (b.length:Int)) ?_)))))));rintro v4 w4⟨rfl,Q⟩;have g:=hCo.st g Q λ_ e=>e.elim;have hbb:=hbb.ga Q;have hbt:=hbt.ga Q;have hbn:=hbn.ga Q;have hr:=Rt.ext hr Q id;have a:=a.ga Q;have f:=f.gb Q;rw[Bt];refine j6 ge Z ?_;rw[wrap16 _ zk];refine kg Z (gp (ke Z 5 [qP 0,qP 2,(1,false),(3,false),qP 4] [] (No) zf λw5 E cu=>?_));have aj:=hbt;have ak:=hbn;have bx:=hs;have g:=hCo.st g E λ_ e=>e.elim;have hbb:=hbb.ga E;have hbt:=hbt.ga E;have hbn:=hbn.ga E;have hr:=Rt.ext hr E id;have a:=a.ga E;have f:=f.gb E;have r:Ext (No) _ w5:=E.no;refine j5 ge Z Z (λw' L=>((aj.ga L).cell Z)) (j5 ge Z Z (λw' L=>((ak.ga L).cell Z)) (jv Z (j7 call179 Z (Ad w5 (l:=[]) (Sl.nil _ _ _) zd t ht) λv6 w6 a4=>⟨(by obtain⟨bz,rfl,a5,am,B⟩:=a4;exact r.gb B),?_⟩)));obtain⟨bz,rfl,a5,am,B⟩:=a4;have g:=hCo.st g B λ_ e=>e.elim;have hbb:=hbb.ga B;have hbt:=hbt.ga B;have hbn:=hbn.ga B;have hr:=Rt.ext hr B id;have a:=a.ga B;have f:=f.gb B;have r:=r.gb B;have b0:=f;refine jv Z (j7 call179 Z (Ad w6 am.slB (by simp[ka]) n hn) λv7 w7 a6=>⟨(by obtain⟨ae,rfl,an,aa,C⟩:=a6;exact r.gb C),?_⟩);obtain⟨ae,rfl,an,aa,C⟩:=a6;have g:=hCo.st g C λ_ e=>e.elim;have hbb:=hbb.ga C;have hbt:=hbt.ga C;have hbn:=hbn.ga C;have hr:=Rt.ext hr C id;have a:=a.ga C;have f:=f.gb C;have r:=r.gb C;have cj:=al b0.size an;have d:j0 w7 ae 5 (gh (be 4 t++be 4 n)):=by rw[bI] at aa;exact aa
 refine gw ge 1 Z (js (ja (jq (kw Z (j8 (jl (α:=Nat×(Option Addr×Nat×Nat)×(Nat->Prop)) [0,6,7,24] Z (λz=>[(5,.slice z.2.1.1 z.2.1.2.1 z.2.1.2.2),(25,.int .u16 (z.1:Int))]) (λz u=>(z.1<=jo b.length/\J z.1 z.2.2 u/\(∀x,z.2.2 x->F x\/w.heap.size<=x)/\RowN w u z.2.2 z.2.1.1 z.2.1.2.1 z.2.1.2.2 ((A1 b).drop (48*z.1))/\j0 u ae 5 (gh (be 4 t++be 4 n))/\¬z.2.2 ae/\¬z.2.2 0/\Rt u)/\Ext F w u) (λz u=>jo b.length-z.1) (0,(pr,4+b.length,cr),F) Z ⟨⟨aJ _,g,λx X=> .inl X,by rw[Nat.mul_zero,List.drop_zero];exact a,d,λe=>by have:=Y _ e;omega,hF,hr⟩,f⟩ ?_))))));rintro⟨k,⟨q,m,c⟩,G⟩ w8 ⟨⟨hk,g,hG,a,d,aw,ax,hr⟩,f⟩;dsimp only at hk g hG a d aw ax;have hm:=a.2.1;have b1:=a.2.2.1;have b2:=d.lt;refine vo Z (jy Z (λhc=>?_) (λhc=>?_));have R:k<jo b.length:=by omega
 have cv:=sect_le b hb4 R;rw[aX] at hm;have cw:=bodyB_len b;obtain⟨s,cx⟩:∃s,s=min m 48:=⟨_,Z⟩
 have b3:(A1 b).drop (48*k)≠[]:=λe=>by have:=congrArg List.length e;rw[aX] at this;simp at this;omega
 refine Bn (kw Z (qj Z ?_));rw[show(if 48<(m:Int) then(48:Int) else(m:Int))=(s:Int) from by split<;>omega];refine kg Z (gp (gp (c_drawY 12 Z 12 [qP 0,qP 1,qP 2,qP 4,qP 6,qP 7,qP 8,qP 9,(3,false),(5,false),(10,false),(11,false)] [] (No) zf zf [12,13] Z λw9 U cy=>?_)));have cz:=g;have I:=hbb;have aj:=hbt;have ak:=hbn;have bx:=hs;have c0:=hr;have b4:=a;have b5:=d;have c1:=f;have g:=hCo.st g U λ_ e=>e.elim;have hr:=Rt.ext hr U id;have a:=a.ga U;have d:=d.ga U;have f:=f.gb U;have r:Ext (No) _ w9:=U.no;refine gw ge 7 Z (yq1 ge Z Z 0 s s 1 Z (.inl ⟨Z,Z⟩) (.inl Z) (.inr ⟨Z,Z⟩) (aJ _) (aB _) zt ?_);dsimp only;rw[qe,bB];refine jv Z (j7 call91 Z (zx0 w9 d.slB (by simp[ka]) k zk) λc2 b6 ap=>⟨(by obtain⟨b7,rfl,a7,aq,i⟩:=ap;exact r.gb i),?_⟩);obtain⟨b7,rfl,a7,aq,i⟩:=ap;have g:=hCo.st g i λ_ e=>e.elim;have hr:=Rt.ext hr i id;have a:=a.ga i;have d:=d.ga i;have f:=f.gb i;have r:=r.gb i;have b8:=f;have c3:=r.size;have a8:=hCo.lt g;have ay:=a;have bp:=d.lt;have ck:=hr.lt;refine jv Z (j7 call91 Z (zx0 b6 aq.slB (by simp[ka]) (jo b.length) zk) λc4 b9 ar=>⟨(by obtain⟨V,rfl,au,ab,j⟩:=ar;exact r.gb j),?_⟩);obtain⟨V,rfl,au,ab,j⟩:=ar;have g:=hCo.st g j λ_ e=>e.elim;have hr:=Rt.ext hr j id;have a:=a.ga j;have d:=d.ga j;have f:=f.gb j;have r:=r.gb j;have a9:=al b8.size au;obtain⟨H,hH⟩:∃H,H=be 4 t++be 4 n++be 2 k++be 2 (jo b.length):=⟨_,Z⟩
 rw[<-hH] at ab|-;have cb:H.length=12:=by rw[hH];simp[ka]
 have ba:=Own.blk ab 1 (n:=H.length) (c:=H.length) (T:=5) (by rw[gm,bF]) (aB _) (by rw[cb];decide);have bc:(((A1 b).drop (48*k)).take s).length=s:=by rw[aH,aX];omega
 have bd:Sl b9 q s 1 (gh (((A1 b).drop (48*k)).take s)):=by have e:=a.head (k:=s) zk;rw[xy,bc] at e;exact e
 have bf:¬G V:=λe=>by have:=a8 V e;omega
 refine jv Z (vt ge Z 1 1 Z Z Z zd ba (Src.slice bd OneC.h) zn zt λpa ca af ac K c5=>⟨r.trans K λx X e=>by have:=own1 e;omega,?_⟩);have W:∀x,jb (some (⟨V,0,none⟩:Addr)) x->x=V:=λx e=>by have e:some (⟨V,0,none⟩:Addr)=some ⟨x,0,none⟩:=e;simp at e;exact e.symm
 have r:=r.trans K (S:=No) λx X e=>by have:=W x e;omega
 have f:=f.trans K λx X e=>by have:=W x e;omega
 have g:=hCo.st g K λx e=>by have:=W x e;subst this;exact⟨a9,bf⟩
 have hr:=Rt.ext hr K λe=>by have:=W _ e;omega
 have a:RowN w af G q m c ((A1 b).drop (48*k)):=by refine⟨a.1.ext K λx ad e h=>?_,a.2.1,a.2.2.1,λx ad e=>?_⟩;have:=W x h;have:=(ay.2.2.2 x ad e).2.1;omega;have h3:=a.2.2.2 x ad e;exact⟨h3.1,aK h3.2.1 K.size,h3.2.2⟩
 have d:=d.ext K λe=>by have:=W _ e;omega
 have ac:Own af pa (H.length+s) ca 5 1 ((gh H).take (H.length*1)++gh (((A1 b).drop (48*k)).take s)):=ac;rw[bF,vl,aN (aB _),<-qy] at ac;obtain⟨A,hA⟩:∃A,A=H++((A1 b).drop (48*k)).take s:=⟨_,Z⟩
 rw[<-hA] at ac;have bg:A.length=H.length+s:=by rw[hA,ao,bc]
 have cc:xy af pa A:=by have e:=ac.sl;rw[<-bg] at e;exact e
 dsimp only;rw[<-bg];refine jv Z (j7 call180 Z (sealed_calls af cc zk hr) λc6 c7 av=>⟨(by obtain⟨rfl,o⟩:=av;exact r.gb o),?_⟩);obtain⟨rfl,o⟩:=av;have g:=hCo.st g o λ_ e=>e.elim;have hr:=Rt.ext hr o id;have a:=a.ga o;have d:=d.ga o;have f:=f.gb o;have r:=r.gb o;have hP:xz5 A=qv t n b k:=by rw[hA,hH,qv];congr 2;rcases Nat.le_total m 48 with h|h;rw[aN za,aN za];rw[show s=48 from by omega]
 obtain⟨Pk,bh⟩:∃Pk,Pk=qv t n b k:=⟨_,Z⟩
 rw[hP,<-bh];have az:argB (qq t n b) k= #[numB Pk]:=by rw[argB,piece_get t n b R,bh]
 have bi:=hCo.round g R;rw[az] at bi;refine js (ja (f_tail zf (wbi_yield Z Z Z Z Z Z Z bi λy cd⟨G2,ag,ah,ce,cf⟩=>?_)));have c8:=f.size;have f:=f.trans ag λx X e=>(hG x e).resolve_right zk;have bj:∀x,G2 x->F x\/w.heap.size<=x:=λx X=>(ah x X).elim (hG x) λh=> .inr zk;have a:=a.round ag ah;have cg:=d.lt;have ch:=hr.lt;have d:=d.ext ag aw;have hr:=Rt.ext hr ag ax;have bk:=Bb aw cg ah;have bm:=Bb ax ch ah;refine wbi (hF:= .none) Z Z (zz3 ge Z Z Z (wbi_nil (jq (vk Z (λhc=>?_) (λhc=>?_)))));have ci:=cf (by simpa using hc);exact gv (gu (jt (gu (gu (jt (f_ret0 Z ⟨G2,f,bj,.inr ⟨k,R,ci⟩⟩))))));have g:=ce (by simpa using hc);refine xg (yy Z (wl (Ba ge Z s m c 1 Z (.inr ⟨Z,Z⟩) (.inr ⟨Z,Z⟩) (.inl Z) zk b1 (aB _) ?_)));dsimp only;refine j6 ge Z (gl (Bi Z ?_));rw[show IntKind.u16.wrap ((k:Int)+1)=((k+1:Nat):Int) from wrap16 (k+1) zk];refine j6 ge Z (gl ?_);have a0:RowN w cd G2 (ur q s c 1) (m-s) (c-s) ((A1 b).drop (48*(k+1))):=by have e:=a.tail b3 (k:=s) zk;rw[cY] at e;rcases Nat.le_total m 48 with h|h;rw[aW zk] at e;rw[aW zk];exact e;rw[show 48*k+s=48*(k+1) from by omega] at e;exact e
 exact jh (k+1,(ur q s c 1,m-s,c-s),G2) Z ⟨⟨R,g,bj,a0,d,bk,bm,hr⟩,f⟩ zm;have R:k=jo b.length:=by omega
 subst R;exact xt (qs (qs (ux (zz Z ⟨G,f,hG,.inl g⟩))))
theorem piece_iter (w:World) {bb bt bn t n c:Nat} {p:Option Addr} {b:Bytes} (hbb:j0 w bb 41 [.slice p b.length c]) (hbt:j0 w bt 35 [.int .u32 (t:Int)]) (hbn:j0 w bn 35 [.int .u32 (n:Int)]) (hs:xy w p b) (ht:t<4294967296) (hn:n<4294967296) (hb4:b.length<=40000) (hr:Rt w):
  Iter prog 178 [.pointer (some ⟨bb,0,none⟩),.pointer (some ⟨bt,0,none⟩),.pointer (some ⟨bn,0,none⟩)] (jo b.length) (argB (qq t n b)) (λx=>x=0) w:=
 λ_ _ _ _ d e a=>piece1_walk w d hbb hbt hbn hs ht hn hb4 hr (a 0 Z) e
abbrev DkQ (w : World) (d : Nat) (F : Nat -> Prop) (D : kj) (w' : World) : Prop := ∃ F' : Nat -> Prop, At w' d F' D /\ Ext F w w' /\ ∀ x, F' x -> F x \/ w.heap.size <= x
theorem dkWrite (w:World) {d m:Nat} {F:Nat->Prop} {D:kj} (h:At w d F D) (hok:D.Ok m) (hm:m+1<1000000000) (i:Int) {b:Bytes} (hb:b.length=64):
  gn prog 143 [.pointer (some ⟨d,0,none⟩),.int .i64 i,numB b] w λv w'=>v= .int .i64 (D.write i b).2/\DkQ w d F (D.write i b).1 w':=
 (dk_write w h hok hm i hb).mono λ_ w' ⟨a,c,e⟩=>⟨a,_,c,e,λ_ f=>f.imp id λh=>h.1⟩
theorem dkSync (w:World) {d m:Nat} {F:Nat->Prop} {D:kj} (h:At w d F D) (hok:D.Ok m) (hm:m+1<1000000000):
  gn prog 144 [.pointer (some ⟨d,0,none⟩)] w λv w'=>v= .int .i64 D.sync.2/\DkQ w d F D.sync.1 w':=
 (dk_sync w h hok hm).mono λ_ _ ⟨a,b,c⟩=>⟨a,F,b,c,λ_=> .inl⟩
theorem dkRead (w:World) {d m:Nat} {F:Nat->Prop} {D:kj} (h:At w d F D) (hok:D.Ok m) (hm:m<1000000000) (i:Int):
  gn prog 78 [.pointer (some ⟨d,0,none⟩),.int .i64 i] w λv w'=>v= .tuple #[numB (D.read i).2.1,.int .i64 (D.read i).2.2]/\At w' d F (D.read i).1/\Ext F w w':=by
 obtain⟨f,g,j,h⟩:=h;exact(dk_read w h hok hm i).mono λ_ _ ⟨a,b,c⟩=>⟨a,⟨_,_,_,b⟩,c.mono λx _ e=>by have e:x=d:=e;rw[e];exact h.own.1⟩
def PutJ (w0 : World) (d n m b3 b4 b6 : Nat) (at_ : Int) (D0 : kj) (L : List Bytes) (k : Nat) (z : (Nat -> Prop) × kj) (u : World) : Prop :=
  At u d z.1 z.2 /\ z.2.Ok (m + 2 * k) /\ xh D0 at_ L = xh z.2 (at_ + k) (L.drop k) /\ (¬ z.1 b3 /\ ¬ z.1 b4 /\ ¬ z.1 b6) /\ j0 u b3 155 [.pointer (some ⟨d, 0, none⟩), .int .i64 n] /\ j0 u b4 3 [.int .i64 (at_ + k)] /\ ∃ e, j0 u b6 38 [.int .i64 e]
def PutX (b3 b4 b6 d : Nat) (at_ : Int) (D0 : kj) (L : List Bytes) (c : Code) (z : (Nat -> Prop) × kj) (u : World) : Prop :=
  c = .ret /\ At u d z.1 z.2 /\ (¬ z.1 b3 /\ ¬ z.1 b4 /\ ¬ z.1 b6) /\ (xh D0 at_ L).1 = z.2 /\ (b4 < u.heap.size /\ b6 < u.heap.size) /\ j0 u b6 38 [.int .i64 (xh D0 at_ L).2]
abbrev PutF (b4 b6 : Nat) (z : (Nat -> Prop) × kj) : Nat -> Prop := λx => z.1 x \/ x = b4 \/ x = b6
def putC (w w0 : World) (d n m b3 b4 b6 : Nat) (at_ : Int) (D0 : kj) (L : List Bytes) (h3 : b3 < w.heap.size) : CoS ((Nat -> Prop) × kj) w where
  Fp := PutF b4 b6
  J := PutJ w0 d n m b3 b4 b6 at_ D0 L
  Jx := λ_ c z u => PutX b3 b4 b6 d at_ D0 L c z u
  st := by
    rintro k z S u u' ⟨h1, h2, h3', h4, h5, h6, e, h7⟩ hE hS
    exact ⟨h1.ext hE λx hx hs => (hS x hs).2 (.inl hx), h2, h3', h4, h5.ext hE λhs => by have := (hS _ hs).1; omega, h6.ext hE λhs => (hS _ hs).2 (.inr (.inl Z)), e, h7.ext hE λhs => (hS _ hs).2 (.inr (.inr Z))⟩
  stx := by
    rintro k c z S u u' ⟨h1, h2, h3', h4, h5, h6⟩ hE hS
    exact ⟨h1, h2.ext hE λx hx hs => (hS x hs).2 (.inl hx), h3', h4, ⟨aK h5.1 hE.size, aK h5.2 hE.size⟩, h6.ext hE λhs => (hS _ hs).2 (.inr (.inr Z))⟩
  lt := by
    rintro k z u ⟨h1, h2, h3', h4, h5, h6, e, h7⟩ x hx
    rcases hx with hx | rfl | rfl
    · exact h1.lt x hx
    · exact h6.lt
    · exact h7.lt
  ltx := by
    rintro k c z u ⟨h1, h2, h3', h4, h5, h6⟩ x hx
    rcases hx with hx | rfl | rfl
    · exact h2.lt x hx
    · exact h5.1
    · exact h5.2
theorem Au {F F' G:Nat->Prop} {u w:World} (h:∀x,G x->F x\/w.heap.size<=x) (hs:w.heap.size<=u.heap.size) (h':∀x,F' x->G x\/u.heap.size<=x):∀x,F' x->F x\/w.heap.size<=x:=λx a=>(h' x a).elim (h x) λe=> .inr (al hs e)
theorem put_calls (w:World) {d m gf n:Nat} {F own:Nat->Prop} {D:kj} {cap:Array Value} {L:List Bytes} (h:At w d F D) (hok:D.Ok m) (hm:m+2*L.length+3<1000000000) (at_:Int) (hat: -1000000000<=at_/\at_<=1000000000) (hL64:∀b∈L,b.length=64)
  (hcf:∀args w,(callFunc gf args).run prog w= .ok (.enter gf args) w) (hit:∀w1,Ext No w w1->Iter prog gf cap.toList L.length (argB L) own w1) (hown:∀x,own x->x<w.heap.size/\¬F x):
  gn prog 71 [.agg #[.pointer (some ⟨d,0,none⟩),.int .i64 (n:Int)],.int .i64 at_,.func (.func gf) #[] cap] w λv w'=>v= .int .i64 (xh D at_ L).2/\DkQ w d F (xh D at_ L).1 w':=by
 refine zz1 func71 Z Z Z Z (have o:=Ext.refl F w;have Q:=h.lt;have H:=Ext.refl No w;qr (gt Z λb3 w1 bh f R=> have h:=h.ga R;have H:=H.gb R;have o:=o.gb R;have f:j0 w1 b3 155 ([.pointer (some ⟨d,0,none⟩),.int .i64 (n:Int)]):=f;gt Z λb4 w2 au g ad=> have S:=j3 f.lt au;have bi:=al o.size au;have f:=f.ga ad;have h:=h.ga ad;have H:=H.gb ad;have o:=o.gb ad;have g:j0 w2 b4 3 ([.int .i64 at_]):=g;gt Z λK w3 aj a T=> have a0:=j3 f.lt aj;have U:=j3 g.lt aj;have a1:=al o.size aj;have f:=f.ga T;have g:=g.ga T;have h:=h.ga T;have H:=H.gb T;have o:=o.gb T;have a:j0 w3 K 38 ([.int .i64 0]):=a;u3 (gp (kw Z (j8 ?_)))));have a2:¬F b3:=λe=>by have:=Q _ e;omega
 have a3:¬F b4:=λe=>by have:=Q _ e;omega
 have a4:¬F K:=λe=>by have:=Q _ e;omega
 have l3:=f.lt;have l4:=g.lt;have l6:=a.lt;refine c_iter (putC w3 w d n m b3 b4 K at_ D L f.lt) (F,D) Z hcf Z (λ_=>rfl) (λw1 R=>hit w1 (H.gb R)) (λx j=>by have:=hown x j;exact⟨by omega,λe=>by rcases e with e|e|e;exact this.2 e;omega;omega⟩) ⟨h,hok,by simp,⟨a2,a3,a4⟩,f,by simpa using g,0,a⟩ (λl DD r k z W V hJ hk=>?_) (λDD z W hJ hE X a5 A Y=>?_) (λDD k c z W hk hJ hE X a5 A Y=>?_);have i:=V.l;obtain⟨G,D2⟩:=z;obtain⟨s,J,u,⟨y,B,q⟩,f,g,e0,a⟩:=hJ;have av:¬G l:=λe=>(V.fp _ (.inl e)).1 Z;have aw:=s.lt;obtain⟨Bk,ak⟩:∃Bk,Bk=L.getD k []:=⟨_,Z⟩
 have C:Bk.length=64:=by rw[ak];have:=hL64 (L[k]) (aC hk);simpa [hk] using this
 rw[show argB L k= #[numB Bk] from by rw[argB,ak]];have bj:=g.lt;have bk:=a.lt;have a6:=S.symm;have bm:=f.neL i;have a7:=g.neL i;have a8:=a.neL i;have o:Ext (λx=>PutF b4 K (G,D2) x\/x=l) W W:=Ext.refl _ _;refine A5 (wli (.round _) Z (Dg ge Z λb7 w4 ae M N=>?_));have am:=j3 f.lt ae;have an:=j3 g.lt ae;have ap:=j3 a.lt ae;have a9:=al o.size ae;have f:=f.ga N;have g:=g.ga N;have a:=a.ga N;have s:=s.ga N;have i:=Ah i N id;have o:=o.gb N;have ba:=M.neL i;have bb:¬G b7:=λe=>by have:=aw _ e;omega
 refine wli (.round _) Z (j9 (l':=gh Bk) ge M Z Z (by rw[gm,C]) (by rw[gm,C];rfl) OneC.h λw5 M O bn=>?_);have f:=f.gk O am;have g:=g.gk O an;have a:=a.gk O ap;have s:=s.ext O λx j e=>by have e:x=b7:=e;subst e;exact bb j
 have i:=Ah i O ba.symm;have o:=o.gi O a9;refine Bf (fin_begin V i λw6 P bc=>?_);have f:=f.extL i P;have g:=g.extL i P;have a:=a.extL i P;have M:=M.extL i P;have s:=s.ext P λx j e=>by have e:x=l:=e;subst e;exact av j
 have i:=bc;have o:=o.then (P.mono λx _ e=> .inr e);refine ci_block (xv5 (xv5 (A5 (yw2 ge Z (wli (.round _) Z (st_ldb ge f Z Z (wli (.round _) Z (st_ldb ge g Z Z (wli (.round _) Z (st_ldB ge M Z (by rw[gm,C]) ?_))))))))));have aq:=o.size;have l3:=f.lt;have l4:=g.lt;have l6:=a.lt;have p:=layD_step hk D2 at_;rw[<-u,<-ak] at p;refine wli (.round _) Z (j7 call143 Z (dkWrite w6 s J zk (at_+k) C) ?_);rintro v7 w7⟨rfl,G2,ar,I,E⟩;have f:=f.ext I y;have g:=g.ext I B;have a:=a.ext I q;have i:=Ah i I av;have o:=o.then (I.mono λx _ e=> .inl (.inl e));have y:=Bb y l3 E;have B:=Bb B l4 E;have q:=Bb q l6 E;have s:=ar;have ax:=J.write (at_+k) C;have ay:∀(D':kj) x,PutF b4 K (G2,D') x->PutF b4 K (G,D2) x\/W.heap.size<=x:=λD' x j=>by rcases j with j|j;exact(E x j).elim (λh=> .inl (.inl h)) λh=> .inr (al aq h);exact .inl (.inr j)
 refine yw2 ge Z (Bf (yq5 (xv5 (A5 (yw2 ge Z (Bf (yq5 (ci_if Z (λhc=>?_) (λhc=>?_)))))))));rw[aL hc] at p;refine xv5 (A5 (yw2 ge Z (wli (.round _) Z (yo ge a Z Z Z λw8 a af bp=>?_))));have g:=g.gk af U;have s:=s.ext af λx j e=>by have e:x=K:=e;subst e;exact q j
 have i:=Ah i af a8.symm;have o:=o.then (af.mono λx _ e=>by have e:x=K:=e;subst e;exact(.inl (.inr (.inr Z))));refine Bf (yq5 (ci_ret ?_));exact gu (jt (fin_stop (.inl ⟨Z,Z⟩) (G2,(D2.write (at_+k) Bk).1) V i o (ay _) (⟨Z,s,⟨y,B,q⟩,by rw[p],⟨g.lt,a.lt⟩,by rw[p];exact a⟩)));rw[aI hc] at p;refine ci_skip (yq5 (A5 (wli (.round _) Z (st_ldb ge g Z Z (yw2 ge Z ?_)))));rw[qc _ zk];refine wli (.round _) Z (yo ge g Z Z Z λw9 g aa bq=>?_);have f:=f.gk aa S;have a:=a.gk aa U.symm;have s:=s.ext aa λx j e=>by have e:x=b4:=e;subst e;exact B j
 have i:=Ah i aa a7.symm;have o:=o.then (aa.mono λx _ e=>by have e:x=b4:=e;subst e;exact(.inl (.inr (.inl Z))));refine Bf ?_;exact jr (fin_next (G2,(D2.write (at_+k) Bk).1) V i o (ay _) (⟨s,by rw[show m+2*(k+1)=m+2*k+2 from by omega];exact ax,p,⟨y,B,q⟩,f,by rw[show(at_+((k+1:Nat):Int))=at_+k+1 from by omega];exact g,_,a⟩));obtain⟨G,D2⟩:=z;obtain⟨s,J,u,⟨y,B,q⟩,f,g,e0,a⟩:=hJ;rw[List.drop_length] at u;have o:Ext F w W:=o.trans hE λx j e=>by rcases e with e|rfl|rfl;exact e;omega;omega
 have ag:K≠DD:=Y _ (.inr (.inr Z));have ah:¬G DD:=λe=>Y _ (.inl e) Z;have ai:∀x,G x->F x\/w.heap.size<=x:=λx j=>(X x (.inl j)).elim (λe=>by rcases e with e|rfl|rfl;exact .inl e;omega;omega) λe=> .inr zk;have br:=vh A;refine jr (jq (qj Z (jd f Z Z ?_)));have aq:=o.size;have l6:=a.lt;refine gj call144 Z (dkSync W s J zk) ?_;rintro bs bt⟨rfl,G2,ar,ab,E⟩;have a:=a.ext ab q;have A:=Ah A ab ah;have o:=o.trans ab λx j e=>(ai x e).resolve_right zk;have q:=Bb q l6 E;have s:=ar;have y:=Au ai aq E;refine qk a Z Z Z λbu a ac bg=>?_;have A:=Ah A ac ag.symm;have s:=s.ext ac λx j e=>by have e:x=K:=e;subst e;exact q j
 have o:=o.gi ac a1;refine u3 (gv (zz2 [DD] zq (λx j=>by rw[aF.1 j];exact A) [.int .i64 D2.sync.2] (λbf t=>?_) (.inl Z)));refine⟨⟨⟨K,0,Z,zv0 ge Z Z ((a.ext t (λe=>ag (aF.1 e))).cell Z)⟩,trivial⟩,?_⟩;rw[u];exact⟨Z,G2,s.ext t λx j e=>by rw[aF.1 e] at j;exact(E DD j).elim ah λh=>by omega,o.trans t λx j e=>by rw[aF.1 e] at j;omega,y⟩
 obtain⟨G,D2⟩:=z;obtain⟨rfl,s,⟨y,B,q⟩,u,⟨bv,bw⟩,a⟩:=hJ;have o:Ext F w W:=o.trans hE λx j e=>by rcases e with e|rfl|rfl;exact e;omega;omega
 have ag:K≠DD:=Y _ (.inr (.inr Z));have ah:¬G DD:=λe=>Y _ (.inl e) Z;have ai:∀x,G x->F x\/w.heap.size<=x:=λx j=>(X x (.inl j)).elim (λe=>by rcases e with e|rfl|rfl;exact .inl e;omega;omega) λe=> .inr zk;refine gv (jt (gu (zz2 [DD] zq (λx j=>by rw[aF.1 j];exact A) [.int .i64 (xh D at_ L).2] (λbf t=>?_) (.inl Z))));refine⟨⟨⟨K,0,Z,zv0 ge Z Z ((a.ext t (λe=>ag (aF.1 e))).cell Z)⟩,trivial⟩,?_⟩;exact⟨Z,G,by rw[u];exact s.ext t λx j e=>by rw[aF.1 e] at j;exact ah j,o.trans t λx j e=>by rw[aF.1 e] at j;omega,ai⟩
theorem begin_calls (w:World) {d m n t c:Nat} {F:Nat->Prop} {D:kj} {p:Option Addr} {b:Bytes} (h:At w d F D) (hok:D.Ok m) (hm:m+2000<1000000000) (hn:n<1000000) (ht:t<4294967296) (hs:xy w p b) (hbl:b.length<=40000) (hr:Rt w) (hF0:¬F 0):
  gn prog 73 [.agg #[.pointer (some ⟨d,0,none⟩),.int .i64 (n:Int)],.int .u32 (t:Int),.slice p b.length c] w λv w'=>v= .int .i64 (y8 D t n b).2/\DkQ w d F (y8 D t n b).1 w':=by
 refine gz func73 (have i:=Ext.refl F w;have A:=h.lt;have ag:=Cx b.length;have V:=hr.lt;qr (gt Z λW E X a g=> have ah:=al i.size X;have h:=h.ga g;have hs:=hs.ga g;have hr:=Rt.ext hr g id;have i:=i.gb g;have a:j0 E W 155 ([.pointer (some ⟨d,0,none⟩),.int .i64 (n:Int)]):=a;gt Z λY w2 G f z=>?_));have I:=j3 a.lt G;have ai:=al i.size G;have a:=a.ga z;have h:=h.ga z;have hs:=hs.ga z;have hr:=Rt.ext hr z id;have i:=i.gb z;have f:j0 w2 Y 35 ([.int .u32 (t:Int)]):=f;have r:¬F W:=λe=>by have:=A _ e;omega
 have s:¬F Y:=λe=>by have:=A _ e;omega
 refine kg Z (gp (gp (ke Z 9 [qP 0,qP 1,qP 2,qP 4,qP 5,(3,false),(6,false),(7,false),qP 8] [] (F) zf λw3 o aj=> have H:=a;have J:=f;have a:=a.ga o;have f:=f.ga o;have h:=h.ga o;have hs:=hs.ga o;have hr:=Rt.ext hr o id;have i:=i.gb o;have B:Ext (F) _ w3:=o.no;qu ge Z Z (λw' q=>((H.ext q r).ql)) Z (qu ge Z Z (λw' q=>((H.ext q r).ql)) Z (j5 ge Z Z (λw' q=>((J.ext q s).cell Z)) (j5 ge Z Z (λw' q=>((J.ext q s).cell Z)) (gw ge 1 Z (jv Z (j7 call120 Z (yv4 w3 (.pointer (some ⟨d,0,none⟩)) n t zk ht Z) λv4 w4 K=>⟨(by obtain⟨rfl,j⟩:=K;exact B.gb j),?_⟩)))))))));obtain⟨rfl,j⟩:=K;have a:=a.ga j;have f:=f.ga j;have h:=h.ga j;have hs:=hs.ga j;have hr:=Rt.ext hr j id;have i:=i.gb j;have B:=B.gb j;refine jv Z (j7 call121 Z (xj5 w4 t 0 (p:=p) (m:=b.length) (c:=c)) λv5 w5 M=>⟨(by obtain⟨bb,bt,bn,rfl,aa,N,O,P,k⟩:=M;exact B.gb k),?_⟩);obtain⟨bb,bt,bn,rfl,aa,N,O,P,k⟩:=M;have a:=a.ga k;have f:=f.ga k;have h:=h.ga k;have hs:=hs.ga k;have hr:=Rt.ext hr k id;have i:=i.gb k;have B:=B.gb k;have ab:=i.size;have l3:=a.lt;have l4:=f.lt;refine jv Z (j7 call71 Z (put_calls w5 (n:=n) (L:=qq t 0 b) (own:=λx=>x=0) h hok (by rw[kz];omega) (jj t n:Int) (by unfold jj;split<;>omega) (Cj t 0 b) call178 (λE g=>by rw[kz];exact piece_iter E (N.ga g) (O.ga g) (P.ga g) (hs.ga g) ht zd hbl (hr.ext g id)) (λx e=>by subst e;exact⟨aK V (by have:=i.size;omega),hF0⟩)) λv6 w6 Q=>⟨(by obtain⟨rfl,F2,U,u,l⟩:=Q;exact B.then u),?_⟩);obtain⟨rfl,F2,U,u,l⟩:=Q;have a:=a.ext u r;have f:=f.ext u s;have i:=i.then u;have r:=Bb r l3 l;have s:=Bb s l4 l;have hr:=Rt.ext hr u hF0;have hF0:=Bb hF0 zk l;obtain⟨y,hy⟩:∃y,y=xh D (jj t n) (qq t 0 b):=⟨_,Z⟩
 have C:=zq2 (qq t 0 b) (jj t n:Int) hok (Cj t 0 b);rw[kz] at C;have ac:y8 D t n b=if y.2≠0 then y else xh y.1 ((t%2:Nat):Int) [xw t n]:=by rw[hy];rfl
 rw[<-hy] at U C|-;rw[ac];have l:=Au (λx=> .inl) ab l;refine gw ge 1 Z (js (ja (jq (kw Z (jy Z (λhc=>?_) (λhc=>?_))))));rw[aL hc];exact kw Z (gv (gu (gy Z Z ⟨Z,F2,U,i,l⟩)));rw[aI hc];refine xg (qr (jf a Z Z (jd f Z Z (j6 ge Z ?_))));rw[and1 t ht];refine j6 ge Z ?_;rw[qc ((t%2:Nat):Int) zk];refine j6 ge Z ?_;have ad:=i.size;have R:=Du t n;have S:=λE (g:Ext No w6 E)=>begin1_iter E (a.ga g) (f.ga g) Z zk ht (hr.ext g id);generalize xw t n=Hd at R S|-;exact gj call71 Z (put_calls w6 (n:=n) (L:=[Hd]) (own:=λx=>x=W\/x=Y\/x=0) U C ze ((t%2:Nat):Int) zk (λx hx=>by rw[aF.1 hx];exact R) call146 S (λx e=>by rcases e with rfl|rfl|rfl;exact⟨a.lt,r⟩;exact⟨f.lt,s⟩;exact⟨hr.lt,hF0⟩)) λv7 w7⟨rfl,F4,h4,af,T⟩=> have i:=i.trans af λx hx e=>(l x e).resolve_right zk;kg Z (gv (gy Z Z ⟨Z,F4,h4,i,Au l ad T⟩))
def A3 (u : World) (H : Nat -> Prop) (v : Value) (b : Bytes) : Prop := ∃ p c, v = .slice p b.length c /\ b.length <= c /\ xy u p b /\ ∀ y off, p = some ⟨y, off, none⟩ -> H y /\ TyB u y 5
theorem A3.ext {S H:Nat->Prop} {u u':World} {v:Value} {b:Bytes} (h:A3 u H v b) (hE:Ext S u u') (hS:∀y,H y->TyB u y 5->¬S y):A3 u' H v b:=by
 obtain⟨p,c,f,g,i,d⟩:=h;exact⟨p,c,f,g,i.ext hE λy a e=>hS y (d y a e).1 (d y a e).2,λy a e=>⟨(d y a e).1,(d y a e).2.ext hE (hS y (d y a e).1 (d y a e).2)⟩⟩
theorem A3.mono {H H':Nat->Prop} {u:World} {v:Value} {b:Bytes} (h:A3 u H v b) (hH:∀y,H y->H' y):A3 u H' v b:=by
 obtain⟨p,c,f,g,i,d⟩:=h;exact⟨p,c,f,g,i,λy a e=>⟨hH y (d y a e).1,(d y a e).2⟩⟩
def u5 (u : World) (H : Nat -> Prop) (ps : List Bytes) (rows : List Value) : Prop := rows.length = ps.length /\ ∀ (i : Nat) (b : Bytes) (v : Value), ps[i]? = some b -> rows[i]? = some v -> A3 u H v b
theorem u5.ext {S H:Nat->Prop} {u u':World} {ps:List Bytes} {rows:List Value} (h:u5 u H ps rows) (hE:Ext S u u') (hS:∀y,H y->TyB u y 5->¬S y):u5 u' H ps rows:=⟨h.1,λi b v h1 h2=>(h.2 i b v h1 h2).ext hE hS⟩
theorem u5.mono {H H':Nat->Prop} {u:World} {ps:List Bytes} {rows:List Value} (h:u5 u H ps rows) (hH:∀y,H y->H' y):u5 u H' ps rows:=⟨h.1,λi b v h1 h2=>(h.2 i b v h1 h2).mono hH⟩
theorem u5.one {u:World} {H:Nat->Prop} {ps:List Bytes} {rows:List Value} (h:u5 u H ps rows):∀v∈rows,v.oneCell'=true:=λv a=>by
 obtain⟨i,b,rfl⟩:=bG.1 a
 obtain⟨p,c,e,_⟩:=h.2 i (ps[i]'(by rw[<-h.1];exact b)) rows[i] zq zq
 rw[e];rfl
theorem u5.snoc {u:World} {H:Nat->Prop} {ps:List Bytes} {rows:List Value} (h:u5 u H ps rows) {b:Bytes} {v:Value} (hv:A3 u H v b):u5 u H (ps++[b]) (rows++[v]):=by
 refine⟨by simp[h.1],λi e f a c=>?_⟩;rcases bC i ps.length with d|d;rw[cO d] at a;rw[cO (by rw[h.1];exact d)] at c;exact h.2 i e f a c;rw[cD d] at a;rw[cD (by rw[h.1];exact d),h.1] at c;have g:i-ps.length=0:=by have:=(dB.1 a).1;simp at this;omega
 rw[g] at a c;simp at a c;subst a c;exact hv
theorem u5.drop {u:World} {H:Nat->Prop} {ps:List Bytes} {rows:List Value} (h:u5 u H ps rows) (k:Nat):u5 u H (ps.drop k) (rows.drop k):=
 ⟨by simp[h.1],λi b v a c=>h.2 (k+i) b v (by rw[List.getElem?_drop] at a;exact a) (by rw[List.getElem?_drop] at c;exact c)⟩
theorem u5.get {u:World} {H:Nat->Prop} {ps:List Bytes} {rows:List Value} (h:u5 u H ps rows) {i:Nat} (hi:i<ps.length):∃p c,rows[i]? =some (.slice p (ps[i]).length c)/\(ps[i]).length<=c/\xy u p ps[i]/\∀y off,p=some ⟨y,off,none⟩->H y/\TyB u y 5:=by
 obtain⟨p,c,e,a⟩:=h.2 i ps[i] (rows[i]'(by rw[h.1];exact hi)) zq zq;exact⟨p,c,by rw[<-e];simp,a⟩
structure yw (u : World) (x d : Nat) (H : Nat -> Prop) (W : Wl) : Prop where
  box : ∃ q c rows, j0 u x 162 [.pointer (some ⟨d, 0, none⟩), .int .i64 (W.size : Int), .int .u32 (W.turn : Int), .slice q W.pieces.length c, .int .i64 (W.used : Int), .bool W.broken] /\ Own u q W.pieces.length c 41 1 rows /\ u5 u H W.pieces rows /\ ∀ y, jb q y -> H y
  own : H x
  lt : ∀ y, H y -> y < u.heap.size
theorem yw.ext {S H:Nat->Prop} {u u':World} {x d:Nat} {W:Wl} (h:yw u x d H W) (hE:Ext S u u') (hS:∀y,H y->¬S y):yw u' x d H W:=by
 obtain⟨⟨q,c,a,g,i,j,e⟩,f,k⟩:=h;exact⟨⟨q,c,a,g.ext hE (hS x f),i.ext hE λy b=>hS y (e y b),j.ext hE λy b _=>hS y b,e⟩,f,λy b=>aK (k y b) hE.size⟩
theorem yw.ga {H : Nat -> Prop} {u u' : World} {x d : Nat} {W : Wl} (h : yw u x d H W) (hE : Ext No u u') : yw u' x d H W := h.ext hE λ_ _ => id
theorem yw.data {H:Nat->Prop} {u:World} {x d:Nat} {W W':Wl} (h:yw u x d H W) (h1:W'.size=W.size) (h2:W'.turn=W.turn) (h3:W'.pieces=W.pieces) (h4:W'.used=W.used) (h5:W'.broken=W.broken):yw u x d H W':=by
 obtain⟨a,b,c⟩:=h;exact⟨by rw[h1,h2,h3,h4,h5];exact a,b,c⟩
structure Wl.Ok (W : Wl) : Prop where
  size : 4 <= W.size /\ W.size <= 1000
  secs : 2 + 2 * W.size <= W.D.secs.length
  turn : W.turn < 4294967296
  some : W.pieces ≠ []
  short : ∀ b ∈ W.pieces, b.length <= 40000
  few : W.pieces.length <= W.size
  used : W.used = jz W.pieces
  room : W.used <= W.size
theorem cloneB_nil (w:World) {c:Nat}:
  gn prog 35 [.slice none 0 c] w λv w'=>∃q k,v= .slice q 0 k/\Own w' q 0 k 5 1 []/\(∀y,jb q y->w.heap.size<=y)/\Ext No w w':=by
 exact gz func35 (have a:=Ext.refl No w;vo Z (kw Z (Cd Z (kw Z (gv (gu (gy Z Z ⟨none,0,Z,Own.nil _ _ _,λy b=>(by cases b),a⟩)))))))
theorem cloneB_some (w:World) {a:Addr} {c:Nat} {l:Bytes} (h:xy w (some a) l) (hl:l.length<1000000000):
  gn prog 35 [.slice (some a) l.length c] w λv w'=>∃q k,v= .slice q l.length k/\Own w' q l.length k 5 1 (gh l)/\(∀y,jb q y->w.heap.size<=y)/\Ext No w w':=by
 refine gz func35 ?_;have b:=Ext.refl No w;refine vo Z (kw Z (uc Z (xg (qr (wl (qw ge Z 1 Z Z Z zd zd trivial (l':=[]) Z λA B r f d s=>?_))))));have b:=b.gb d;refine j6 ge Z (wl (vt ge Z 1 1 Z Z Z zd (Own.blk (n:=0) (c:=0) f 1 Z (aB _) zd) (Src.slice (h.ga b) OneC.h) zn zt λp t u g i j=>?_));have b:=b.trans i λy C m=>by have:=own1 m;omega
 have o:∀x,jb p x->w.heap.size<=x:=λx z=>(j x z).elim (λm=>by have:=own1 m;omega) λh=>by have:=d.size;omega
 have e:Own u p (0+l.length) t 5 1 (gh l):=g;rw[aV] at e;rw[aV];exact kg Z (gv (gy Z Z ⟨_,_,Z,e,o,b⟩))
theorem zv (w:World) {p:Option Addr} {c:Nat} {l:Bytes} (h:xy w p l) (hl:l.length<1000000000):
  gn prog 35 [.slice p l.length c] w λv w'=>∃q k,v= .slice q l.length k/\Own w' q l.length k 5 1 (gh l)/\(∀y,jb q y->w.heap.size<=y)/\Ext No w w':=by
 cases p with
 |none=>
  have d:l=[]:=by rcases h.2 with e|⟨b,f,g,_⟩;exact aU e;cases g
  subst d;exact cloneB_nil w
 |some a=>exact cloneB_some w h hl
theorem cloneP_nil (w:World) {c:Nat}:
  gn prog 138 [.slice none 0 c] w λv w'=>∃q k,v= .slice q 0 k/\Own w' q 0 k 41 1 []/\(∀y,jb q y->w.heap.size<=y)/\Ext No w w':=by
 exact gz func138 (have a:=Ext.refl No w;vo Z (kw Z (Cd Z (kw Z (gv (gu (gy Z Z ⟨none,0,Z,Own.nil _ _ _,λy b=>(by cases b),a⟩)))))))
theorem cloneP_some (w:World) {a:Addr} {c:Nat} {n:Nat} {rows:List Value} (h:Sl w (some a) n 1 rows) (hl:n<1000000000) (h1:∀v∈rows,v.oneCell'=true):
  gn prog 138 [.slice (some a) n c] w λv w'=>∃q k,v= .slice q n k/\Own w' q n k 41 1 rows/\(∀y,jb q y->w.heap.size<=y)/\Ext No w w':=by
 refine gz func138 ?_;have b:=Ext.refl No w;refine vo Z (kw Z (uc Z (xg (qr (wl (qw ge Z 1 Z Z Z zd zd trivial (l':=[]) Z λz A p f d r=>?_))))));have b:=b.gb d;refine j6 ge Z (wl (vt ge Z 1 24 Z Z Z zd (Own.blk (n:=0) (c:=0) f 1 Z (aB _) zd) (Src.slice (h.ga b) h1) zn zt λo s t g i j=>?_));have b:=b.trans i λy B l=>by have:=own1 l;omega
 have m:∀x,jb o x->w.heap.size<=x:=λx u=>(j x u).elim (λl=>by have:=own1 l;omega) λh=>by have:=d.size;omega
 have e:Own t o (0+n) s 41 1 rows:=g;rw[aV] at e;rw[aV];exact kg Z (gv (gy Z Z ⟨_,_,Z,e,m,b⟩))
theorem cloneP_calls (w:World) {p:Option Addr} {n c:Nat} {rows:List Value} (h:Sl w p n 1 rows) (hl:n<1000000000) (h1:∀v∈rows,v.oneCell'=true):
  gn prog 138 [.slice p n c] w λv w'=>∃q k,v= .slice q n k/\Own w' q n k 41 1 rows/\(∀y,jb q y->w.heap.size<=y)/\Ext No w w':=by
 cases p with
 |none=>
  have d:n=0:=by rcases h.2 with f|⟨b,g,h1,_⟩;exact f;cases h1
  subst d;have e:rows=[]:=aU (by simpa using h.1);subst e;exact cloneP_nil w
 |some a=>exact cloneP_some w h hl h1
theorem left_calls (w:World) {x d:Nat} {H:Nat->Prop} {W:Wl} (h:yw w x d H W) (h1:W.size<1000000000) (h2:W.used<1000000000):
  gn prog 66 [.pointer (some ⟨x,0,none⟩)] w λv w'=>v= .int .i64 ((W.size:Int)-W.used)/\Ext No w w':=by
 obtain⟨⟨q,c,i,b,j,k,l⟩,m,n⟩:=h;refine gz func66 (have f:=Ext.refl No w;vo Z (kw Z (uc Z (xg (gp (ke Z 11 [qP 0,qP 1,qP 2,qP 3,qP 4,qP 5,qP 6,qP 7,qP 8,qP 9,qP 10] [] (No) zf λp g o=> have e:=f;have f:=f.gb g;gw ge 4 Z (j5 ge Z Z (λw' a=>((b.ga (e.gb a)).cell Z)) (gw ge 3 Z (j5 ge Z Z (λw' a=>((b.ga (e.gb a)).cell Z)) (gw ge 2 Z ?_))))))))));rw[qc _ zk];exact js (ja (jq (gv (gy Z Z ⟨Z,f⟩))))
theorem broken_calls (w:World) {x d:Nat} {H:Nat->Prop} {W:Wl} (h:yw w x d H W):
  gn prog 69 [.pointer (some ⟨x,0,none⟩)] w λv w'=>v= .bool W.broken/\Ext No w w':=by
 obtain⟨⟨q,c,e,a,g,i,j⟩,k,l⟩:=h;refine gz func69 (have m:=Ext.refl No w;kw Z (ju (α:=Bool) [] Z (λz=>[(2,.bool z)]) (λz u=>u=w/\z=W.broken) ?_ ?_));refine j1 (j6 ge Z (ut 5 Z (λf=>?_) (λf=>?_)));exact j4 ge 3 Z (gx Z (a.cell Z) (j6 ge Z (gl (j2 (_) Z ⟨Z,Z⟩))));cases f;rintro z n ⟨b,rfl⟩;have b:=b.symm;subst b;exact gv (gy Z Z ⟨Z,m⟩)
theorem ready_calls (w:World) {x d:Nat} {H:Nat->Prop} {W:Wl} (h:yw w x d H W) {p:Option Addr} {n k:Nat}:
  gn prog 116 [.pointer (some ⟨x,0,none⟩),.slice p n k] w λv w'=>v= .int .i64 (if 40000<n then 3 else if W.broken=true then 8 else 0)/\Ext No w w':=by
 obtain⟨⟨q,c,f,b,g,i,j⟩,l,m⟩:=h;refine gz func116 (have e:=Ext.refl No w;vo Z (j8 (kw Z (uc Z (kw Z (jy Z (λa=>?_) (λa=>?_)))))));rw[aL zk];exact kw Z (gv (jt (gu (gy Z Z ⟨Z,e⟩))));rw[aI zk];refine qj Z (gx Z (b.cell Z) (kg Z (vk Z (λa=>?_) (λa=>?_))));rw[aL a];exact kw Z (gv (jt (gu (gy Z Z ⟨Z,e⟩))));rw[aI (by rw[a];decide)];exact qf (jr (jq (kw Z (gv (gy Z Z ⟨Z,e⟩)))))
theorem snapshot_calls (w:World) {x d:Nat} {H:Nat->Prop} {W:Wl} (h:yw w x d H W) (hne:0<W.pieces.length) (hsh:(W.pieces[0]).length<1000000000):
  gn prog 59 [.pointer (some ⟨x,0,none⟩)] w λv w'=>∃q k,v= .slice q (W.pieces[0]).length k/\Own w' q (W.pieces[0]).length k 5 1 (gh W.pieces[0])/\(∀y,jb q y->w.heap.size<=y)/\Ext No w w':=by
 obtain⟨⟨q,c,a,e,f,g,u⟩,z,A⟩:=h;obtain⟨J,K,i,B,j,_⟩:=g.get hne;obtain⟨m,rfl,n⟩:∃m,q=some ⟨m,0,none⟩/\Seg w m 0 a:=by rcases f with⟨_,L,_⟩|⟨b,l,C,D,_,_,_,E⟩;omega;exact⟨b,C,by rw[<-E];exact D.ql.take _⟩
 refine gz func59 ?_;have o:=Ext.refl No w;refine vo Z (kw Z (uc Z (xg (qj Z (gx Z (e.cell Z) (ki Z 1 Z 0 Z hne (0+0*1) Z (gx Z (n 0 _ i) (gj call35 Z (zv w j hsh) ?_))))))));rintro M N⟨F,G,rfl,r,s,t⟩;have o:=o.gb t;refine kg Z (gv (gy Z Z ?_));exact⟨F,G,Z,r,s,o⟩
def AllA (ps : List Bytes) (k : Nat) (vs : Array Value) (X : Nat -> Prop) (W : World) : Prop := ∃ q c, vs = #[.int .i64 ((k : Int) + 1), .slice q (ps.getD k []).length c] /\ Own W q (ps.getD k []).length c 5 1 (gh (ps.getD k [])) /\ X = jb q
theorem AllA.size {ps:List Bytes} (k:Nat) (vs:Array Value) (X:Nat->Prop) (W:World) (h:AllA ps k vs X W):vs.size=2:=by
 obtain⟨q,c,rfl,_⟩:=h;rfl
theorem all1_walk (w:World) {l b c:Nat} {q:Option Addr} {ps:List Bytes} {rows:List Value} {H F:Nat->Prop} {J Jx:Nat->(Nat->Prop)->World->Prop} (hCo:ConsV prog l w.heap.size ps.length (AllA ps) J Jx) (hb:j0 w b 80 [.slice q ps.length c]) (hs:Sl w q ps.length 1 rows) (hps:u5 w H ps rows)
  (hq:∀y off,q=some ⟨y,off,none⟩->ps.length≠0->y<w.heap.size/\¬F y) (hH:∀y,H y->y<w.heap.size/\¬F y) (hl:ps.length<1000000000) (hsh:∀x∈ps,x.length<1000000000) (h0:J 0 F w):
  gn prog 139 [.func (.yield l) #[] #[],.pointer (some ⟨b,0,none⟩)] w λ_ w'=>ItQ w F ps.length J Jx w':=by
 refine gz func139 ?_;have f:=Ext.refl F w;refine qr (gx Z (hb.cell Z) (kg Z (j8 (jl (α:=Nat×(Nat->Prop)) [0,5,6] Z (λz=>[(7,.int .i64 (z.1:Int))]) (λz u=>(z.1<=ps.length/\J z.1 z.2 u/\(∀x,z.2 x->F x\/w.heap.size<=x)/\Sl u q ps.length 1 rows/\u5 u H ps rows)/\Ext F w u) (λz u=>ps.length-z.1) (0,F) Z ⟨⟨aJ _,h0,λx i=> .inl i,hs,hps⟩,f⟩ ?_))));rintro⟨k,G⟩ T ⟨⟨hk,j,n,hs,hps⟩,f⟩;refine vo Z (jy Z (λo=>?_) (λo=>?_));have a:k<ps.length:=by omega
 obtain⟨pk,ck,p,C,r,V⟩:=hps.get a;have s:ps.getD k []=ps[k]:=by simp[a]
 rw[<-s] at p C r;have D:(ps.getD k []).length<1000000000:=by rw[s];exact hsh _ (aC a)
 obtain⟨B,t,rfl,E⟩:∃B t,q=some ⟨B,t,none⟩/\Seg T B t rows:=by rcases hs.2 with h0|⟨W,off,X,Y⟩;omega;exact⟨W,off,X,Y⟩
 obtain⟨I,K⟩:=hq B t Z zk;refine Bn (qj Z (ki Z 1 Z k Z a (t+k*1) Z (gx Z (by rw[bF];exact E k _ p) (kg Z (gp (c_regionI (wlw_p Z ge Z ?_)))))));rw[qc _ zk];have v:=hCo.lt j;have aa:=f.size;refine wlw Z (j7 call35 Z (zv T r D) ?_);rintro v2 w2⟨U,k2,rfl,M,d,g⟩;have j:=hCo.st j g λ_ e=>e.elim;have hs:=hs.ga g;have hps:=hps.ext g λ_ _ _=>id;have f:=f.gb g;refine wli_yield Z Z Z Z Z Z (hCo.round j a _ (jb U) ⟨U,k2,Z,M,Z⟩ (λx i=>⟨by have:=d x i;omega,λe=>by have:=d x i;have:=v x e;omega⟩)) λy w3 N=>?_;obtain⟨O,m,P,Q,R⟩:=N;have ab:=f.size;have f:=f.trans m λx i e=>by rcases e with e|e;exact(n x e).resolve_right zk;have:=d x e;omega
 have A:∀x,O x->F x\/w.heap.size<=x:=λx i=>by rcases P x i with h|h|h;exact n x h;exact .inr (by have:=d x h;omega);exact .inr zk
 have hs:=hs.ext m λb off e h=>by cases e;rcases h with h|h;exact(n _ h).elim K zk;have:=d _ h;omega
 have hps:=hps.ext m λy N _ h=>by have h3:=hH y N;rcases h with h|h;exact(n _ h).elim h3.2 zk;have:=d _ h;omega
 refine wlw_p Z ge Z (Bf (jq (vk Z (λo=>?_) (λo=>?_))));have S:=R (by simpa using o);exact gv (jt (gu (gu (jt (f_ret0 Z ⟨O,f,A,.inr ⟨k,a,S⟩⟩)))));have j:=Q (by simpa using o);refine qf (Bi Z ?_);rw[qc _ zk];exact gl (jh (k+1,O) Z ⟨⟨a,j,A,hs,hps⟩,f⟩ zm);have a:k=ps.length:=by omega
 subst a;exact xt (qs (qs (ux (zz Z ⟨G,f,n,.inl j⟩))))
theorem all1_iter (w:World) {b c:Nat} {q:Option Addr} {ps:List Bytes} {rows:List Value} {H:Nat->Prop} (hb:j0 w b 80 [.slice q ps.length c]) (hs:Sl w q ps.length 1 rows) (hps:u5 w H ps rows)
  (hq:∀y off,q=some ⟨y,off,none⟩->ps.length≠0->y<w.heap.size) (hH:∀y,H y->y<w.heap.size) (hl:ps.length<1000000000) (hsh:∀x∈ps,x.length<1000000000):
  IterV prog 139 [.pointer (some ⟨b,0,none⟩)] ps.length (AllA ps) (λy=>(∃off,q=some ⟨y,off,none⟩/\ps.length≠0)\/H y) w:=
 λ_ _ _ _ f g a=>all1_walk w f hb hs hps (λy off e h=>⟨hq y off e h,a y (.inl ⟨off,e,h⟩)⟩) (λy d=>⟨hH y d,a y (.inr d)⟩) hl hsh g
theorem all_calls (w:World) {x d:Nat} {H:Nat->Prop} {W:Wl} (h:yw w x d H W) (hne:0<W.pieces.length) (hn:W.pieces.length<1000000000):
  gn prog 62 [.pointer (some ⟨x,0,none⟩)] w λv w'=>∃b q c rows,v= .func (.func 139) #[] #[.pointer (some ⟨b,0,none⟩)]/\j0 w' b 80 [.slice q (W.pieces.drop 1).length c]/\Sl w' q (W.pieces.drop 1).length 1 rows/\u5 w' H (W.pieces.drop 1) rows/\w.heap.size<=b/\(∀y off,q=some ⟨y,off,none⟩->(W.pieces.drop 1).length≠0->w.heap.size<=y/\y<w'.heap.size)/\Ext No w w':=by
 obtain⟨⟨q,c,rows,E,m,i,P⟩,Q,R⟩:=h;have g:=m.cap;have n:=i.one;refine gz func62 (have f:=Ext.refl No w;kw Z (qr (gt Z λC O F a o=> have p:=al f.size F;have f:=f.gb o;have a:j0 O C 80 ([.slice none 0 0]):=a;u3 (ju (α:=Option Addr×Nat×List Value) [3] Z (λz=>[]) (λz u=>(Sl u z.1 (W.pieces.drop 1).length 1 z.2.2/\u5 u H (W.pieces.drop 1) z.2.2/\∀y off,z.1=some ⟨y,off,none⟩->(W.pieces.drop 1).length≠0->w.heap.size<=y/\y<u.heap.size)/\j0 u C 80 ([.slice z.1 (W.pieces.drop 1).length z.2.1])/\Ext No w u) ?_ ?_))));refine gp (j1 (kg Z (Cd Z (yy Z (gx Z ((E.ga f).cell Z) (wl (Ba ge Z 1 W.pieces.length c 1 Z (.inr ⟨Z,Z⟩) (.inr ⟨Z,Z⟩) (.inl Z) hne g (aB _) ?_)))))));have r:=(m.sl.ga f).slice 1 W.pieces.length c hne g (aB _);rw[Nat.one_mul,bF,aN (by rw[aX,i.1];exact aB _)] at r;have X:=a.lt;refine gj call138 Z (cloneP_calls O r zk (λv S=>n v (List.mem_of_mem_drop S))) ?_;rintro Y G⟨J,K,rfl,s,t,A⟩;have a:=a.ga A;have f:=f.gb A;refine qk a Z Z Z λw3 a j T=>?_;have f:=f.gi j p;refine gl ?_;have L:W.pieces.length-1=(W.pieces.drop 1).length:=by simp
 rw[L] at a;exact j2 (J,K,rows.drop 1) Z ⟨⟨by rw[aX];exact(s.ext j (λy U e=>by have e:y=C:=e;have:=t y U;omega)).sl,((i.ext f λ_ _ _=>id).drop 1),λy off e _=>by rcases s with⟨D,_⟩|⟨b',l,D,V,_⟩;rw[D] at e;cases e;rw[D] at e;cases e;exact⟨by have:=t _ D;have:=o.size;omega,aK V.lt j.size⟩⟩,a,f⟩;rintro⟨J,K,k⟩ w4 ⟨⟨M,B,N⟩,a,f⟩;exact kw Z (gv (gy Z Z ⟨C,J,K,k,Z,a,M,B,p,N,f⟩))
end Go.Proofs.YtpdiphfjmepijaaGreatDoor
