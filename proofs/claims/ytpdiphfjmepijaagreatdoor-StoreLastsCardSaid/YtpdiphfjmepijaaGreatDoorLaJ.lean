/-
  Walks and laws towards: StoreLasts: wherever the power goes, what is opened again has what was there, or what the batch was to bring, and all that its objects link to; for whatever deeds.
-/
import Derived.Test.YtpdiphfjmepijaaGreatDoorLaI
open List renaming mem_iff_getElem→bG,flatMap_singleton→bL,getElem_map→bQ,map_append→bU,getElem?_append_right→cD,length_nil→cL,getElem?_append_left→cO,mem_map_of_mem→cW,flatMap_cons→cX,flatMap_def→dD,getElem?_modify→dH,map_cons→dI
open Int renaming toNat_natCast→bV,natCast_nonneg→cF
namespace Go.Proofs.YtpdiphfjmepijaaGreatDoor
open Go.Proofs.Tryz
open Go.Vc
def Calm (D : kj) : Prop := D.dead = false /\ D.fuse = -1 /\ D.fault = -1
theorem begin_calm {D:kj} (h:Calm D) {i:Int} (hi:0<=i/\i<D.secs.length) (b:Bool):(D.begin i b).2=0/\Calm (D.begin i b).1:=by
 obtain⟨a,c,d⟩:=h;unfold kj.begin;rw[aI (by rw[a];decide),aI (by simpa using hi),aI (by rw[d];decide),aI (by rw[c];simp)];refine⟨Z,a,?_,?_⟩;simp[A0,c];simp[vg,d]
theorem write_calm {D:kj} (h:Calm D) {i:Int} (hi:0<=i/\i<D.secs.length) (b:Bytes):(D.write i b).2=0/\Calm (D.write i b).1:=by
 obtain⟨a,c⟩:=begin_calm h hi true;unfold kj.write;dsimp only;rw[aL a];exact⟨a,c⟩
theorem sync_calm {D:kj} (h:Calm D) (hs:0<D.secs.length):D.sync.2=0/\Calm D.sync.1:=by
 obtain⟨a,b⟩:=begin_calm h (i:=0) zk true;unfold kj.sync;dsimp only;rw[aL a];exact⟨a,b⟩
theorem zj2:∀(l:List Bytes) {D:kj} {at_:Int},Calm D->0<=at_->at_+l.length<=D.secs.length->0<D.secs.length->(xh D at_ l).2=0/\Calm (xh D at_ l).1
 | [],D,at_,h,_,_,hs=>sync_calm h hs
 |b::r,D,at_,h,h0,h1,hs=>by
  rw[aQ] at h1
  obtain⟨a1,a2⟩:=write_calm h (i:=at_) zk b
  unfold xh
  rw[aI (by rw[a1];decide)]
  exact zj2 r a2 zk (by rw[D.zx];omega) (by rw[D.zx];exact hs)
theorem beginD_calm {D:kj} (h:Calm D) {t n:Nat} {x:Bytes} (hx:jo x.length<=n) (hs:2+2*n<=D.secs.length):(y8 D t n x).2=0/\Calm (y8 D t n x).1:=by
 have c:jj t n<=2+n:=by unfold jj;split<;>omega
 obtain⟨a,b⟩:=zj2 (qq t 0 x) h (cF (jj t n)) (by rw[kz];omega) zk;unfold y8;rw[aI (by rw[a];decide)];exact zj2 _ b (cF _) (by rw[vu];simp;omega) (by rw[vu];omega)
theorem formatW_calm {D:kj} (h:Calm D) {a:Nat} (ha:4<=a/\a<=1000) (hs:2+2*a<=D.secs.length):(uj D (a:Int)).2=0/\Calm (uj D (a:Int)).1:=by
 rw[yq9 ⟨ha.1,ha.2,hs⟩];obtain⟨b,c⟩:=zj2 (List.replicate (2+2*a) zeros) h (at_:=0) zk (by rw[bN];omega) zk;rw[aI (by rw[b];decide)];exact beginD_calm c (by show 1<=a;omega) (by rw[vu];exact hs)
theorem xj3 {W:Wl} (h:Calm W.D) (hW:Wl.Ok W) (b:Bytes):(W.append b).2=W.refuses b ((W.size:Int)-W.used)/\Calm (W.append b).1.D/\(W.append b).1.size=W.size/\(W.append b).1.turn=W.turn/\(W.refuses b ((W.size:Int)-W.used)=0->(W.append b).1={W with D:=(W.append b).1.D,broken:=false,pieces:=W.pieces++[b],used:=W.used+jo b.length})/\(W.refuses b ((W.size:Int)-W.used)≠0->(W.append b).1=W):=by
 by_cases hr:W.refuses b ((W.size:Int)-W.used)=0;obtain⟨y,c⟩:∃y,y=xh W.D ((jj W.turn W.size+W.used:Nat):Int) (qq W.turn W.pieces.length b):=⟨_,Z⟩
 have g:W.used+jo b.length<=W.size:=by have a:=hr;unfold Wl.refuses at a;split at a;cases a;split at a;cases a;split at a;cases a;omega
 have j:jj W.turn W.size<=2+W.size:=by unfold jj;split<;>omega
 have i:=hW.secs;obtain⟨d,f⟩:=zj2 (qq W.turn W.pieces.length b) h (cF (jj W.turn W.size+W.used)) (by rw[kz];omega) zk;rw[<-c] at d f;rw[yz5 hr c d,hr];exact⟨Z,f,Z,Z,λ_=>rfl,λe=>absurd Z e⟩
 rw[zz7 hr];exact⟨Z,h,Z,Z,λe=>absurd e hr,λ_=>rfl⟩
theorem ckp_calm {W:Wl} (h:Calm W.D) (hW:Wl.Ok W) (b:Bytes) (r:Int) (hr0:r=W.refuses b (if W.turn=4294967295 then 0 else(W.size:Int))):(W.ji b).2=r/\Calm (W.ji b).1.D/\(W.ji b).1.size=W.size/\(r=0->(W.ji b).1={W with D:=(W.ji b).1.D,broken:=false,turn:=W.turn+1,pieces:=[b],used:=jo b.length})/\(r≠0->(W.ji b).1=W):=by
 subst hr0;by_cases hr:W.refuses b (if W.turn=4294967295 then 0 else(W.size:Int))=0;obtain⟨y,d⟩:∃y,y=y8 W.D (W.turn+1) W.size b:=⟨_,Z⟩
 have c:jo b.length<=W.size:=by have a:=hr;unfold Wl.refuses at a;split at a;cases a;split at a;cases a;by_cases ht:W.turn=4294967295;rw[aL ht] at a;by_cases h6:(0:Int)<jo b.length;rw[aL h6] at a;cases a;omega;rw[aI ht] at a;by_cases h6:(W.size:Int)<jo b.length;rw[aL h6] at a;cases a;omega
 obtain⟨f,g⟩:=beginD_calm h (t:=W.turn+1) c hW.secs;rw[<-d] at f g;rw[ckp_ok hr d f,hr];exact⟨Z,g,Z,λ_=>rfl,λe=>absurd Z e⟩
 rw[ckp_no hr];exact⟨Z,h,Z,λe=>absurd e hr,λ_=>rfl⟩
theorem fresh_calm0 (n : Nat) : Calm (kj.fresh n) := ⟨Z, rfl, rfl⟩
theorem be_inj {n x y : Nat} (hx : x < 256 ^ n) (hy : y < 256 ^ n) (h : be n x = be n y) : x = y := by
  rw [<- Da n x hx, h, Da n y hy]
theorem seal_drop (b:Bytes):(xz5 b).drop 4=b++List.replicate (60-b.length) 0:=by
 unfold xz5;rw[List.drop_append,aW zl,aH,C8,bI];rfl
theorem xj2 (t n:Nat) (b:Bytes) (k:Nat):∃z:Bytes,(qv t n b k).drop 4=be 4 t++(be 4 n++(be 2 k++(be 2 (jo b.length)++z)))/\z=((A1 b).drop (48*k)).take 48++List.replicate (48-(((A1 b).drop (48*k)).take 48).length) 0:=by
 refine⟨_,?_,Z⟩;unfold qv;rw[seal_drop];rw[show 60-(be 4 t++be 4 n++be 2 k++be 2 (jo b.length)++((A1 b).drop (48*k)).take 48).length=48-(((A1 b).drop (48*k)).take 48).length from by simp only[ao,ka];omega];simp only[aM]
theorem piece_turn (t n:Nat) (b:Bytes) (k:Nat):((qv t n b k).drop 4).take 4=be 4 t:=by
 obtain⟨z,e,_⟩:=xj2 t n b k;rw[e,bW (by rw[ka];omega),aN (by rw[ka];omega)]
theorem xw3 (t n:Nat) (b:Bytes) (k:Nat):((qv t n b k).drop 14).take 2=be 2 (jo b.length):=by
 obtain⟨z,e,_⟩:=xj2 t n b k;have a:(qv t n b k).drop 14=((qv t n b k).drop 4).drop 10:=by rw[cY]
 rw[a,e,<-aM,<-aM,List.drop_append_of_le_length (by simp[ka]),aW (by simp[ka]),bI,bW (by rw[ka];omega),aN (by rw[ka];omega)]
theorem piece_rest (t n:Nat) (b:Bytes) (k:Nat):(qv t n b k).drop 16=((A1 b).drop (48*k)).take 48++List.replicate (48-(((A1 b).drop (48*k)).take 48).length) 0:=by
 obtain⟨z,e,a⟩:=xj2 t n b k;have c:(qv t n b k).drop 16=((qv t n b k).drop 4).drop 12:=by rw[cY]
 rw[c,e,<-a,<-aM,<-aM,<-aM,List.drop_append,aW (by simp[ka]),bI];simp[ka]
theorem xz6 (n : Nat) : jo n < 256 ^ 2 := by have := Cx n; omega
def Old (t : Nat) (s : Bytes) : Prop := ∀ (t' n : Nat) (b : Bytes) (k : Nat), t <= t' -> t' < 4294967296 -> b.length <= 40000 -> s ≠ qv t' n b k
theorem Old.mono {t t' : Nat} {s : Bytes} (h : Old t s) (ht : t <= t') : Old t' s := λu n b k h1 h2 h3 => h u n b k (al ht h1) h2 h3
theorem xw9 (t:Nat):Old t zeros:=λu n b k _ _ a e=>by
 have h:be 2 (jo b.length)=be 2 0:=by rw[<-xw3 u n b k,<-e];rfl
 have:=be_inj (xz6 _) zd h
 have:=xq a
 omega
theorem old_piece {t u:Nat} (n:Nat) (b:Bytes) (k:Nat) (h:t<u):Old u (qv t n b k):=λa c d f g i _ e=>by
 have h:be 4 t=be 4 a:=by rw[<-piece_turn t n b k,e,piece_turn]
 have:=be_inj (show t<256^4 by omega) (show a<256^4 by omega) h
 omega
theorem piece_sect {t n:Nat} {b:Bytes} {k t' n':Nat} {b':Bytes} {k':Nat} (h:qv t n b k=qv t' n' b' k'):jo b.length=jo b'.length:=
 be_inj (xz6 _) (xz6 _) (by rw[<-xw3 t n b k,h,xw3])
theorem head_drop (t n:Nat):(xw t n).drop 4=z9++(be 4 t++(be 4 n++List.replicate 44 0)):=by
 unfold xw;rw[seal_drop,show 60-(z9++be 4 t++be 4 n).length=44 from by simp[z9,ka]];simp only[aM]
theorem head_turn {t:Nat} (n:Nat) (h:t<4294967296):Cp (xw t n)=t:=by
 unfold Cp;have a:(xw t n).drop 12=((xw t n).drop 4).drop 8:=by rw[cY]
 rw[a,head_drop,List.drop_append_of_le_length (by simp[z9]),aW (by simp[z9]),bI,bW (by rw[ka];omega),aN (by rw[ka];omega)];exact Da 4 t h
theorem head_size (t:Nat) {n:Nat} (h:n<4294967296):zq1 (xw t n)=n:=by
 unfold zq1;have a:(xw t n).drop 16=((xw t n).drop 4).drop 12:=by rw[cY]
 rw[a,head_drop,<-aM,List.drop_append_of_le_length (by simp[z9,ka]),aW (by simp[z9,ka]),bI,bW (by rw[ka];omega),aN (by rw[ka];omega)];exact Da 4 n h
theorem head_ok {t n S:Nat} (ht:t<4294967296) (hf:B9 n S):zx3 (t%2) S (xw t n):=by
 have a:=head_turn n ht;have b:=head_size t (n:=n) (by have:=hf.2.1;omega);exact⟨by rw[a],by rw[b];exact hf,by rw[a,b]⟩
theorem head_zeros {S : Nat} : ¬ zx3 1 S zeros := λh => by
  have : Cp zeros = 0 := by decide
  have := h.1
  omega
def NewOk (f : Nat -> Bytes) (S t n : Nat) : Prop := f (t % 2) = xw t n /\ (zx3 ((t + 1) % 2) S (f ((t + 1) % 2)) -> Cp (f ((t + 1) % 2)) < t)
theorem NewOk.newest {f:Nat->Bytes} {S t n:Nat} (h:NewOk f S t n) (ht:t<4294967296) (hf:B9 n S):newestB (f 0) (f 1) S=some (t,n):=by
 obtain⟨l,g⟩:=h
 have b:=head_ok ht hf
 have c:=head_turn n ht
 have d:=head_size t (n:=n) (by have:=hf.2.1;omega)
 rw[<-l] at b c d
 unfold newestB
 rcases Nat.mod_two_eq_zero_or_one t with h|h
 ·have i:(t+1)%2=1:=by omega
  rw[h] at b c d
  rw[i] at g
  have a:newer 0 S (f 0) none=some (t,n):=by unfold newer;rw[aL b,c,d]
  rw[a]
  unfold newer
  split
  ·rename_i j
   have:=g j
   dsimp only
   rw[aI zk]
  rfl
 have i:(t+1)%2=0:=by omega
 rw[h] at b c d
 rw[i] at g
 obtain⟨o,k⟩:∃o,o=newer 0 S (f 0) none:=⟨_,Z⟩
 have m:∀x,o=some x->x.1<t:=λx e=>by
  rw[k] at e
  unfold newer at e
  split at e
  ·rename_i j
   cases e
   exact g j
  cases e
 rw[<-k]
 unfold newer
 rw[aL b,c,d]
 cases o with
 |none=>rfl
 |some x=>
  have:=m x Z
  dsimp only
  rw[aL this]
theorem chunks_all:∀(K:Nat) (Y:Bytes),Y.length=48*K->(List.range K).flatMap (λk=>(Y.drop (48*k)).take 48)=Y
 |0,Y,h=>by rw[aU (show Y.length=0 by omega)];rfl
 |K+1,Y,h=>by
  rw[List.range_succ_eq_map,cX,List.flatMap_map]
  have e:∀k,(Y.drop (48*(k+1))).take 48=((Y.drop 48).drop (48*k)).take 48:=λk=>by rw[cY,Nat.mul_add,Nat.add_comm]
  have:(List.range K).flatMap (λk=>(Y.drop (48*(k+1))).take 48)=Y.drop 48:=by
   simp only[e];exact chunks_all K (Y.drop 48) za
  rw[this,Nat.mul_zero,List.drop_zero,cP]
theorem body_len (b : Bytes) : (A1 b).length = b.length + 4 := by rw [A1, ao, ka]; omega
theorem piece_chunk {t n:Nat} {b:Bytes} {k:Nat} (hb:b.length<=40000) (hk:k<jo b.length):(qv t n b k).drop 16=((A1 b++List.replicate (48*jo b.length-(b.length+4)) 0).drop (48*k)).take 48:=by
 have a:=zw4 hb;rw[piece_rest,List.drop_append,List.take_append,aH,aX,body_len,List.drop_replicate,List.take_replicate];congr 2;omega
theorem all_piece {t n:Nat} {b:Bytes} (hb:b.length<=40000):zv7 (qq t n b)=A1 b++List.replicate (48*jo b.length-(b.length+4)) 0:=by
 have c:=zw4 hb;unfold zv7 qq;rw[List.flatMap_map]
 have e:(List.range (jo b.length)).map (λk=>(qv t n b k).drop 16)=(List.range (jo b.length)).map λk=>((A1 b++List.replicate (48*jo b.length-(b.length+4)) 0).drop (48*k)).take 48:=
  List.map_congr_left λk a=>piece_chunk hb (List.mem_range.1 a)
 rw[dD,e,<-dD];exact chunks_all _ _ (by rw[ao,body_len,bN];omega)
theorem many_piece {t n:Nat} {b:Bytes} (hb:b.length<=40000):xl (qv t n b 0)=b.length:=by
 unfold xl;rw[piece_rest,Nat.mul_zero,List.drop_zero,List.take_append,List.take_take,show min 4 48=4 from Z,aH,body_len,show 4-min 48 (b.length+4)=0 from by omega,List.take_zero,bE,A1,bW (by rw[ka];omega),aN (by rw[ka];omega)];exact Da 4 _ zk
theorem lies_piece {t n:Nat} {b:Bytes} (hb:b.length<=40000) (R:List Bytes):Ca (qq t n b++R) t n=some b:=by
 have g:=xq hb;obtain⟨K,d⟩:∃K,jo b.length=K+1:=⟨jo b.length-1,by omega⟩
 obtain⟨r,c⟩:∃r,qq t n b=qv t n b 0::r:=by unfold qq;rw[d,List.range_succ_eq_map];exact⟨_,Z⟩
 have e:(qv t n b 0::(r++R)).take (jo b.length)=qq t n b:=by rw[<-List.cons_append,<-c,bW (by rw[kz];omega),aN (by rw[kz];omega)]
 rw[c,List.cons_append]
 show(if 40000<xl (qv t n b 0)\/(qv t n b 0::(r++R)).length<jo (xl (qv t n b 0)) then none
   else if qq t n (((zv7 ((qv t n b 0::(r++R)).take (jo (xl (qv t n b 0))))).drop 4).take (xl (qv t n b 0)))=(qv t n b 0::(r++R)).take (jo (xl (qv t n b 0))) then some (((zv7 ((qv t n b 0::(r++R)).take (jo (xl (qv t n b 0))))).drop 4).take (xl (qv t n b 0))) else none)=some b
 have f:((A1 b++List.replicate (48*jo b.length-(b.length+4)) 0).drop 4).take b.length=b:=by rw[A1,aM,List.drop_append,aW (by rw[ka];omega),ka,bI,Nat.sub_self,List.drop_zero,bW (aB _),bM]
 have a:¬(qv t n b 0::(r++R)).length<jo b.length:=by rw[<-List.cons_append,<-c,ao,kz];omega
 rw[many_piece hb,e,all_piece hb,f,aI (λh=>h.elim (λh=>by omega) a),aL Z]
theorem lies_none {L:List Bytes} {t n:Nat} (hL:∀s∈L,s.length=64) (h:∀b:Bytes,b.length<=40000->jo b.length<=L.length->qq t n b≠L.take (jo b.length)):Ca L t n=none:=by
 cases hx:Ca L t n with
 |none=>rfl
 |some b=>
  obtain⟨a,c,d⟩:=liesB_some hL hx;exact absurd d (h b a c)
def yd (t : Nat) : Nat -> List Bytes -> List Bytes
  | _, [] => []
  | i, b :: r => qq t i b ++ yd t (i + 1) r
theorem used_cons (b : Bytes) (r : List Bytes) : jz (b :: r) = jo b.length + jz r := by simp [jz]
theorem Bu (t:Nat):∀(ps:List Bytes) (i:Nat),(yd t i ps).length=jz ps
 | [],i=>rfl
 |b::r,i=>by rw[yd,ao,kz,Bu t r,used_cons]
theorem flatP_snoc (t:Nat) (b:Bytes):∀(ps:List Bytes) (i:Nat),yd t i (ps++[b])=yd t i ps++qq t (i+ps.length) b
 | [],i=>by simp[yd]
 |a::r,i=>by
  rw[List.cons_append,yd,yd,flatP_snoc t b r (i+1),aM,aQ,show i+1+r.length=i+(r.length+1) from by omega]
theorem flatP_mem (t:Nat):∀(ps:List Bytes) (i:Nat) (s:Bytes),s∈yd t i ps->∃n b k,s=qv t n b k
 | [],i,s,h=>by cases h
 |b::r,i,s,h=>by
  rcases aS.1 h with h|h
  ·obtain⟨k,_,rfl⟩:=aZ.1 h
   exact⟨_,_,_,Z⟩
  exact flatP_mem t r (i+1) s h
theorem lyGo_flat (t:Nat):∀(ps:List Bytes) (i f:Nat) (R:List Bytes),(∀p∈ps,p.length<=40000)->(∀s∈yd t i ps++R,s.length=64)->(yd t i ps++R).length<=f->Ca R t (i+ps.length)=none->lyGo t f (yd t i ps++R) i=ps
 | [],i,f,R,_,h64,hf,hn=>by
  have hn:Ca (yd t i []++R) t i=none:=hn
  rw[lyGo_step t f _ i h64 hf,hn]
 |b::r,i,f,R,hs,h64,hf,hn=>by
  have a:=hs b zq
  have g:=xq a
  have e:Ca (yd t i (b::r)++R) t i=some b:=by rw[yd,aM];exact lies_piece a _
  have c:(yd t i (b::r)++R).drop (jo b.length)=yd t (i+1) r++R:=by
   rw[yd,aM,List.drop_append,aW (by rw[kz];omega),bI,kz,Nat.sub_self,List.drop_zero]
  rw[lyGo_step t f _ i h64 hf,e];dsimp only;rw[c];congr 1;refine lyGo_flat t r (i+1) (f-1) R (λp d=>hs p (by simp[d])) (λs h=>h64 s (by rw[yd,aM];exact List.mem_append_right _ h)) ?_ (by rw[<-hn,aQ,show i+1+r.length=i+(r.length+1) from by omega]);rw[yd,aM,ao,kz] at hf;omega
theorem now_some {D : kj} {i : Nat} {s : Sec} (h : D.secs[i]? = some s) : D.now i = s.now := by unfold kj.now; rw [h]; rfl
theorem xz4 {D : kj} {i : Nat} (h : D.secs.length <= i) : D.now i = zeros := by unfold kj.now; rw [bR h]; rfl
theorem now_of_secs {D D' : kj} (h : D'.secs = D.secs) (i : Nat) : D'.now i = D.now i := by unfold kj.now; rw [h]
theorem now_put (D:kj) (i:Nat) (b:Bytes) (j:Nat) (hi:i<D.secs.length):(D.put i b).now j=if j=i then b else D.now j:=by
 unfold kj.now kj.put;simp only[dH];by_cases h:i=j;subst h;rw[aL Z,aG hi];simp[Bq,Sec.now];rw[aI (λe=>h e.symm)];simp[h]
theorem settle_sec_true (s:Sec):(uw true s).now=s.now:=by
 unfold uw Sec.now;cases hw:s.waits with
 |nil=>rfl
 |cons b r=>
  cases r with
  |nil=>rfl
  |cons c r=>
   obtain⟨z,a⟩:∃z,(c::r).getLast? =some z:=⟨_,List.getLast?_cons⟩
   simp[List.getLast?_cons_cons,a]
theorem settleAll_now:∀(l:List Nat) (i:Nat) (secs:List Sec) (j:Nat),(z1 (λ_=>true) l i secs)[j]?.map Sec.now=secs[j]?.map Sec.now
 | [],_,_,_=>rfl
 |k::r,i,secs,j=>by
  rw[z1,settleAll_now r (i+1),dH]
  by_cases h:k=j
  ·subst h
   cases secs[k]? with
   |none=>rfl
   |some s=>simp[settle_sec_true]
  cases secs[j]? <;>simp[h]
theorem settle_now (D : kj) (j : Nat) : (D.settle λ_ => true).now j = D.now j := by
  unfold kj.now kj.settle
  rw [settleAll_now]
theorem rest_waits {D:kj} {m:Nat} (h:D.Ok m) (ho:D.order=[]) {i:Nat} {s:Sec} (hs:D.secs[i]? =some s):s.waits=[]:=by
 have:=h.count i s hs;rw[ho] at this;exact aU this
theorem rest_now {D:kj} {m:Nat} (h:D.Ok m) (ho:D.order=[]) {i:Nat} {s:Sec} (hs:D.secs[i]? =some s):D.now i=s.safe:=by
 rw[now_some hs];unfold Sec.now;rw[rest_waits h ho hs];rfl
def Within (D : kj) (P : Nat -> Bytes -> Prop) : Prop := ∀ i s, D.secs[i]? = some s -> P i s.safe /\ ∀ b ∈ s.waits, P i b
theorem Within.secs {D D':kj} {P:Nat->Bytes->Prop} (h:Within D P) (he:D'.secs=D.secs):Within D' P:=by
 unfold Within;rw[he];exact h
theorem Within.mono {D:kj} {P Q:Nat->Bytes->Prop} (h:Within D P) (hq:∀i b,P i b->Q i b):Within D Q:=λi s a=>⟨hq _ _ (h i s a).1,λb c=>hq _ _ ((h i s a).2 b c)⟩
theorem zq7 {D:kj} {m:Nat} (h:D.Ok m) (ho:D.order=[]):Within D λi b=>b=D.now i:=λi s a=>⟨(rest_now h ho a).symm,λb c=>by rw[rest_waits h ho a] at c;cases c⟩
theorem Within.put {D:kj} {P:Nat->Bytes->Prop} (h:Within D P) {i:Nat} {b:Bytes} (hb:P i b):Within (D.put i b) P:=by
 intro j s a;unfold kj.put at a;simp only[dH] at a;cases hj:D.secs[j]? with
 |none=>rw[hj] at a;simp at a
 |some t=>
  rw[hj] at a;have f:=h j t hj;by_cases e:i=j;subst e;simp at a;subst a;refine⟨f.1,λc d=>?_⟩;simp only[Bq,aS,aF] at d;rcases d with d|rfl;exact f.2 c d;exact hb;simp[e] at a;subst a;exact f
theorem yx9 (lives:Nat->Bool) {P:Nat->Bytes->Prop}:∀(l:List Nat) (i:Nat) (secs:List Sec),(∀j s,secs[j]? =some s->P j s.safe/\∀b∈s.waits,P j b)->∀j s,(z1 lives l i secs)[j]? =some s->P j s.safe/\∀b∈s.waits,P j b
 | [],_,_,h=>h
 |k::r,i,secs,h=>by
  refine yx9 lives r (i+1) _ λj s hs=>?_
  rw[dH] at hs
  cases hj:secs[j]? with
  |none=>rw[hj] at hs;simp at hs
  |some t=>
   rw[hj] at hs
   have ht:=h j t hj
   by_cases e:k=j
   ·subst e
    simp at hs
    subst hs
    refine⟨?_,λb a=>ht.2 b (List.mem_of_mem_tail a)⟩
    simp only[uw]
    split
    ·cases hw:t.waits with
     |nil=>exact ht.1
     |cons b r=>exact ht.2 b (by rw[hw];simp)
    exact ht.1
   simp[e] at hs
   subst hs
   exact ht
theorem Within.settle {D:kj} {P:Nat->Bytes->Prop} (h:Within D P) (lives:Nat->Bool):Within (D.settle lives) P:=yx9 lives D.order 0 D.secs h
theorem Within.write {D:kj} {P:Nat->Bytes->Prop} (h:Within D P) {i:Nat} {b:Bytes} (hb:P i b):Within (D.write (i:Int) b).1 P:=by
 unfold kj.write;dsimp only;have a:=h.secs (kj.zy D (i:Int) true).1;split;rw[bV];exact a.put hb;exact a
theorem Within.sync {D:kj} {P:Nat->Bytes->Prop} (h:Within D P):Within D.sync.1 P:=by
 unfold kj.sync;dsimp only;have a:=h.secs (kj.zy D 0 true).1;split;exact a.settle _;exact a
theorem Within.lay {P:Nat->Bytes->Prop}:∀(l:List Bytes) {D:kj} (a:Nat),Within D P->(∀j,j<l.length->P (a+j) (l.getD j []))->Within (xh D (a:Int) l).1 P
 | [],D,a,h,_=>h.sync
 |b::r,D,a,h,hl=>by
  have hb:P a b:=hl 0 zq
  have c:=h.write hb
  unfold xh
  split
  ·exact c
  exact Within.lay r (a+1) c λj d=>by
   have:=hl (j+1) (by simpa using d)
   rw[show a+(j+1)=a+1+j from by omega] at this
   exact this
theorem Within.wipe {P:Nat->Bytes->Prop}:∀(l:List Bytes) {D:kj} (a:Nat),Within D P->(∀j,j<l.length->P (a+j) zeros)->Within (z8 D (a:Int) l).1 P
 | [],D,a,h,_=>h
 |b::r,D,a,h,hl=>by
  have hr:∀j,j<r.length->P (a+1+j) zeros:=λj d=>by
   have:=hl (j+1) (by simpa using d)
   rwa [show a+(j+1)=a+1+j from by omega] at this
  have c:=h.write (hl 0 zq)
  rw[Nat.add_zero] at c
  unfold z8
  split
  ·exact Within.wipe r (a+1) h hr
  split
  ·exact c
  exact Within.wipe r (a+1) c hr
theorem Within.clean {P:Nat->Bytes->Prop} {l:List Bytes} {D:kj} {a:Nat} (h:Within D P) (hl:∀j,j<l.length->P (a+j) zeros):Within (xf D (a:Int) l).1 P:=by
 have b:=Within.wipe l a h hl;unfold xf;dsimp only;split;exact b;split;exact b;exact b.sync
theorem zw2 {D:kj} {m:Nat} (h:D.Ok m) {P:Nat->Bytes->Prop} (hw:Within D P) (keep:List Bool):Calm (D.vm keep)/\(D.vm keep).order=[]/\(D.vm keep).secs.length=D.secs.length/\∀i,i<D.secs.length->P i ((D.vm keep).now i):=by
 have b:=h.vm keep;have c:(D.vm keep).secs.length=D.secs.length:=yh _ _ _ _;refine⟨⟨Z,Z,Z⟩,Z,c,λi d=>?_⟩;have a:(D.vm keep).secs[i]? =some (D.vm keep).secs[i]:=aG zk;rw[rest_now b Z a];exact((hw.settle (zw7 keep)) i _ a).1
theorem crash_same {D:kj} {m:Nat} (h:D.Ok m) (ho:D.order=[]) (keep:List Bool) (i:Nat):(D.vm keep).now i=D.now i:=by
 obtain⟨_,_,c,b⟩:=zw2 h (zq7 h ho) keep
 rcases bC i D.secs.length with a|a
 ·exact b i a
 rw[xz4 zk,xz4 a]
def yl (D : kj) : Prop := D.dead = false /\ D.fault = -1
theorem Calm.alive {D : kj} (h : Calm D) : yl D := ⟨h.1, h.2.2⟩
theorem begin_read {D:kj} (h:yl D) {i:Int} (hi:0<=i/\i<D.secs.length):D.begin i false=({D with done:=D.done+1},0):=by
 obtain⟨b,a⟩:=h;unfold kj.begin;rw[aI (by rw[b];decide),aI (by simpa using hi),aI (by rw[a];decide),aI zq];have c:vg D.fault=D.fault:=by rw[a];rfl
 have d:A0 false D.fuse=D.fuse:=by simp[A0]
 rw[c,d]
theorem begin_burn {D:kj} (h:yl D) {i:Int} (hi:0<=i/\i<D.secs.length):D.begin i true=if D.fuse=0 then({D with fuse:= -1,dead:=true},9) else({D with fuse:=A0 true D.fuse,done:=D.done+1},0):=by
 obtain⟨b,a⟩:=h;unfold kj.begin;rw[aI (by rw[b];decide),aI (by simpa using hi),aI (by rw[a];decide)];have c:vg D.fault=D.fault:=by rw[a];rfl
 rw[c];by_cases h0:D.fuse=0;rw[aL ⟨Z,h0⟩,aL h0];rw[aI (λe=>h0 e.2),aI h0]
theorem read_alive {D:kj} (h:yl D) {i:Nat} (hi:i<D.secs.length):D.read (i:Int)=({D with done:=D.done+1},D.now i,0):=by
 unfold kj.read;rw[begin_read h ⟨cF i,by omega⟩,bV];rfl
theorem reads_alive:∀(k:Nat) {D:kj} (a:Nat),yl D->a+k<=D.secs.length->yq D (a:Int) k=({D with done:=D.done+k},(List.range k).map λj=>D.now (a+j),0)
 |0,D,a,h,hk=>by
  show(D,([]:List Bytes),(0:Int))=_
  simp
 |k+1,D,a,h,hk=>by
  have h1:yl {D with done:=D.done+1}:=h
  rw[xj0,read_alive h zk,aI zq]
  have:=reads_alive k (D:={D with done:=D.done+1}) (a+1) h1 (by show a+1+k<=D.secs.length;omega)
  rw[show((a:Int)+1)=((a+1:Nat):Int) from by omega,this,List.range_succ_eq_map,dI,List.map_map]
  have e:(List.range k).map (λj=>({D with done:=D.done+1}:kj).now (a+1+j))=(List.range k).map ((λj=>D.now (a+j))∘Nat.succ):=by
   refine List.map_congr_left λj _=>?_;show D.now (a+1+j)=D.now (a+(j+1));rw[show a+1+j=a+(j+1) from by omega]
  rw[e,show D.done+1+(k:Int)=D.done+((k+1:Nat):Int) from by omega];rfl
theorem newest_alive {D:kj} (h:yl D) (hs:2<=D.secs.length) {x:Nat×Nat} (hx:newestB (D.now 0) (D.now 1) D.secs.length=some x):ui D=({D with done:=D.done+2},0,some x):=by
 have a:yl {D with done:=D.done+1}:=h;have b:=read_alive h (i:=0) zk;have c:=read_alive a (i:=1) (by show 1<D.secs.length;omega);unfold ui xp;rw[b,aI zq];unfold xp;rw[show(0+1:Nat)=1 from Z,c,aI zq];unfold xp;unfold newestB at hx;have e:({D with done:=D.done+1}:kj).now 1=D.now 1:=rfl;dsimp only at*;rw[e,hx];rw[show D.done+1+1=D.done+2 from by omega];rfl
theorem write_alive {D:kj} (h:yl D) {i:Nat} (hi:i<D.secs.length) (b:Bytes):((D.write (i:Int) b).2=0/\yl (D.write (i:Int) b).1/\∀j,(D.write (i:Int) b).1.now j=if j=i then b else D.now j)\/(D.write (i:Int) b).2=9:=by
 unfold kj.write;dsimp only;rw[begin_burn h ⟨cF i,by omega⟩];by_cases h0:D.fuse=0;rw[aL h0];exact .inr Z;rw[aI h0,aL Z,bV];exact .inl ⟨Z,h,λj=>now_put _ i b j hi⟩
theorem sync_alive {D:kj} (h:yl D) (hs:0<D.secs.length):(D.sync.2=0/\yl D.sync.1/\D.sync.1.order=[]/\∀j,D.sync.1.now j=D.now j)\/D.sync.2=9:=by
 unfold kj.sync;dsimp only;rw[begin_burn h ⟨Int.le_refl _,by omega⟩];by_cases h0:D.fuse=0;rw[aL h0];exact .inr Z;rw[aI h0,aL Z];exact .inl ⟨Z,h,Z,λj=>settle_now _ j⟩
theorem Cr:∀(l:List Bytes) {D:kj} (a:Nat),yl D->a+l.length<=D.secs.length->0<D.secs.length->
  ((xh D (a:Int) l).2=0/\yl (xh D (a:Int) l).1/\(xh D (a:Int) l).1.order=[]/\∀j,(xh D (a:Int) l).1.now j=if a<=j/\j<a+l.length then l.getD (j-a) [] else D.now j)\/(xh D (a:Int) l).2=9
 | [],D,a,h,hk,hs=>by
  unfold xh
  rcases sync_alive h hs with⟨h1,h2,h3,h4⟩|h1
  ·exact .inl ⟨h1,h2,h3,λj=>by rw[h4,aI (by rw[cL];omega)]⟩
  exact .inr h1
 |b::r,D,a,h,hk,hs=>by
  rw[aQ] at hk
  unfold xh
  rcases write_alive h (i:=a) zk b with⟨h1,h2,h3⟩|h1
  ·rw[aI (by rw[h1];decide)]
   rcases Cr r (a+1) h2 (by rw[D.zx];omega) (by rw[D.zx];exact hs) with⟨i1,i2,i3,i4⟩|i1
   ·refine .inl ⟨i1,i2,i3,λj=> have i4:=i4 j;i4.trans ?_⟩
    rw[h3,aQ]
    by_cases c1:a+1<=j/\j<a+1+r.length
    ·rw[aL c1,aL zk,show j-a=(j-(a+1))+1 from by omega]
     rfl
    rw[aI c1]
    by_cases c2:j=a
    ·rw[aL c2,aL zk,c2,Nat.sub_self]
     rfl
    rw[aI c2,aI zk]
   exact .inr i1
  rw[aL (by rw[h1];decide)]
  exact .inr h1
theorem wipe_alive:∀(l:List Bytes) {D:kj} (a:Nat),yl D->a+l.length<=D.secs.length->(∀j,j<l.length->l.getD j []=D.now (a+j))->
  ((z8 D (a:Int) l).2=0/\yl (z8 D (a:Int) l).1/\∀j,(z8 D (a:Int) l).1.now j=if a<=j/\j<a+l.length then zeros else D.now j)\/(z8 D (a:Int) l).2=9
 | [],D,a,h,hk,hl=> .inl ⟨Z,h,λj=>by rw[aI (by rw[cL];omega)];rfl⟩
 |b::r,D,a,h,hk,hl=>by
  rw[aQ] at hk
  have h0:b=D.now a:=hl 0 zq
  have g:∀j,j<r.length->r.getD j []=D.now (a+1+j):=λj d=>by
   have:=hl (j+1) (by simpa using d)
   rw[show a+(j+1)=a+1+j from by omega] at this
   exact this
  unfold z8
  by_cases hz:b=zeros
  ·rw[aL hz]
   rcases wipe_alive r (a+1) h zk g with⟨c,e,f⟩|c
   ·refine .inl ⟨c,e,λj=>(f j).trans ?_⟩
    rw[aQ]
    by_cases c1:a+1<=j/\j<a+1+r.length
    ·rw[aL c1,aL zk]
    rw[aI c1]
    by_cases c2:j=a
    ·rw[aL zk,c2,<-h0,hz]
    rw[aI zk]
   exact .inr c
  rw[aI hz]
  rcases write_alive h (i:=a) zk zeros with⟨h1,k,h3⟩|h1
  ·rw[aI (by rw[h1];decide)]
   rcases wipe_alive r (a+1) k (by rw[D.zx];omega) (λj d=>by rw[g j d,h3,aI zk]) with⟨c,e,f⟩|c
   ·refine .inl ⟨c,e,λj=>(f j).trans ?_⟩
    rw[aQ,h3]
    by_cases c1:a+1<=j/\j<a+1+r.length
    ·rw[aL c1,aL zk]
    rw[aI c1]
    by_cases c2:j=a
    ·rw[aL c2,aL zk]
    rw[aI c2,aI zk]
   exact .inr c
  rw[aL (by rw[h1];decide)]
  exact .inr h1
theorem wipe_calm:∀(l:List Bytes) {D:kj} (a:Nat),Calm D->a+l.length<=D.secs.length->(z8 D (a:Int) l).2=0/\Calm (z8 D (a:Int) l).1
 | [],D,a,h,hk=>⟨Z,h⟩
 |b::r,D,a,h,hk=>by
  rw[aQ] at hk
  unfold z8
  split
  ·exact wipe_calm r (a+1) h zk
  obtain⟨h1,h2⟩:=write_calm h (i:=(a:Int)) zk zeros
  rw[aI (by rw[h1];decide)]
  exact wipe_calm r (a+1) h2 (by rw[D.zx];omega)
theorem clean_calm {l:List Bytes} {D:kj} {a:Nat} (h:Calm D) (hk:a+l.length<=D.secs.length) (hs:0<D.secs.length):(xf D (a:Int) l).2=0/\Calm (xf D (a:Int) l).1:=by
 obtain⟨b,c⟩:=wipe_calm l a h hk;unfold xf;rw[aI (by rw[b];decide)];split;exact⟨b,c⟩
 exact sync_calm c (by rw[Cn];exact hs)
theorem wipe_none:∀(l:List Bytes) (D:kj) (a:Int),(∀b∈l,b=zeros)->z8 D a l=(D,0)
 | [],D,a,_=>rfl
 |b::r,D,a,h=>by
  unfold z8
  rw[aL (h b zq)]
  exact wipe_none r D (a+1) λx hx=>h x (by simp[hx])
theorem clean_none {l:List Bytes} {D:kj} {a:Int} (ho:D.order=[]) (h:∀b∈l,b=zeros):xf D a l=(D,0):=by
 unfold xf;rw[wipe_none l D a h,aI zq,aL ⟨ho,h⟩]
theorem clean_alive {l:List Bytes} {D:kj} {a:Nat} (h:yl D) (ho:D.order=[]) (hk:a+l.length<=D.secs.length) (hs:0<D.secs.length) (hl:∀j,j<l.length->l.getD j []=D.now (a+j)):
  ((xf D (a:Int) l).2=0/\yl (xf D (a:Int) l).1/\(xf D (a:Int) l).1.order=[]/\∀j,(xf D (a:Int) l).1.now j=if a<=j/\j<a+l.length then zeros else D.now j)\/(xf D (a:Int) l).2=9:=by
 by_cases hz:∀b∈l,b=zeros;rw[clean_none ho hz];refine .inl ⟨Z,h,ho,λj=>?_⟩;split;rename_i o;have c:j-a<l.length:=by omega
 have d:=hl (j-a) c;rw[show a+(j-a)=j from by omega,show l.getD (j-a) []=l[j-a] from by simp[c],hz _ (aC c)] at d;exact d.symm;rfl;unfold xf;rcases wipe_alive l a h hk hl with⟨d,g,i⟩|d;rw[aI (by rw[d];decide),aI (λe=>hz e.2)];rcases sync_alive g (by rw[Cn];exact hs) with⟨f,k,m,n⟩|f;exact .inl ⟨f,k,m,λj=>(n j).trans (i j)⟩;exact .inr f;rw[aL (by rw[d];decide)];exact .inr d
theorem getD_left {α:Type} {l r:List α} {i:Nat} {d:α} (h:i<l.length):(l++r).getD i d=l.getD i d:=by
 rw[bH,cO h,<-bH]
theorem getD_right {α:Type} {l r:List α} {i:Nat} {d:α} (h:l.length<=i):(l++r).getD i d=r.getD (i-l.length) d:=by
 rw[bH,cD h,<-bH]
structure Told (f : Nat -> Bytes) (S t n : Nat) (ps : List Bytes) : Prop where
  lt : t < 4294967296
  fit : B9 n S
  new : NewOk f S t n
  few : jz ps <= n
  ne : ps ≠ []
  short : ∀ p ∈ ps, p.length <= 40000
  lies : ∀ i, i < jz ps -> f (jj t n + i) = (yd t 0 ps).getD i []
def Co (f : Nat -> Bytes) (t n : Nat) (ps : List Bytes) : Prop := ∀ b : Bytes, b.length <= 40000 -> jz ps + jo b.length <= n -> ∃ j, j < jo b.length /\ f (jj t n + jz ps + j) ≠ qv t ps.length b j
def Cy (f : Nat -> Bytes) (t n : Nat) (ps : List Bytes) : Prop := ∀ i, jz ps <= i -> i < n -> Old t (f (jj t n + i))
theorem areas (t n:Nat):(t%2=0/\(t+1)%2=1/\jj t n=2/\jj (t+1) n=2+n/\jj (t+2) n=2)\/(t%2=1/\(t+1)%2=0/\jj t n=2+n/\jj (t+1) n=2/\jj (t+2) n=2+n):=by
 unfold jj;rcases Nat.mod_two_eq_zero_or_one t with h|h;exact .inl ⟨h,by omega,aI zk,aL zk,aI zk⟩;exact .inr ⟨h,by omega,aL zk,aI zk,aL zk⟩
theorem Told.same {f g:Nat->Bytes} {S t n:Nat} {ps:List Bytes} (h:Told f S t n ps) (hg:∀i,i<2\/(jj t n<=i/\i<jj t n+jz ps)->g i=f i):Told g S t n ps:=by
 refine⟨h.lt,h.fit,⟨?_,?_⟩,h.few,h.ne,h.short,λi a=>?_⟩;rw[hg _ (.inl zk)];exact h.new.1;rw[hg _ (.inl zk)];exact h.new.2;rw[hg _ (.inr zk)];exact h.lies i a
theorem Co.wiped {f g:Nat->Bytes} {t n:Nat} {ps:List Bytes} (h:Co f t n ps) (hg:∀i,jj t n+jz ps<=i->i<jj t n+n->g i=f i\/g i=zeros) (ht:t<4294967296):Co g t n ps:=by
 intro b c d;obtain⟨j,k,a⟩:=h b c d;refine⟨j,k,?_⟩;rcases hg (jj t n+jz ps+j) zk zk with e|e;rw[e];exact a;rw[e];exact xw9 t t _ b j (aB _) ht c
theorem Cy.no {f:Nat->Bytes} {t n:Nat} {ps:List Bytes} (h:Cy f t n ps) (ht:t<4294967296):Co f t n ps:=by
 intro b a d
 have c:=xq a
 exact⟨0,c,h (jz ps) (aB _) zk t _ b 0 (aB _) ht a⟩
theorem range_split {α:Type} (g:Nat->α) {u n:Nat} (h:u<=n):(List.range n).map g=(List.range u).map g++(List.range (n-u)).map λj=>g (u+j):=by
 have e:n=u+(n-u):=by omega
 rw[show List.range n=List.range (u+(n-u)) from congrArg List.range e,List.range_add,bU,List.map_map];rfl
theorem open_told {D:kj} {m S t n:Nat} {ps:List Bytes} (hok:D.Ok m) (ha:yl D) (hS:D.secs.length=S) (h:Told D.now S t n ps) (hn:Co D.now t n ps):
  u4 D=((xf {D with done:=D.done+2+n} ((jj t n+jz ps:Nat):Int) ((List.range (n-jz ps)).map λj=>D.now (jj t n+jz ps+j))).1,(xf {D with done:=D.done+2+n} ((jj t n+jz ps:Nat):Int) ((List.range (n-jz ps)).map λj=>D.now (jj t n+jz ps+j))).2,t,n,ps):=by
 have c:=h.fit;have z:=c.2.2;have a:=newest_alive ha zk (x:=(t,n)) (by rw[hS];exact h.new.newest h.lt c);have A:=areas t n;have g:=reads_alive n (D:={D with done:=D.done+2}) (jj t n) ha (by show jj t n+n<=D.secs.length;omega);have k:(List.range n).map (λj=>D.now (jj t n+j))=yd t 0 ps++(List.range (n-jz ps)).map λj=>D.now (jj t n+jz ps+j):=by rw[range_split _ h.few];congr 1;refine List.ext_getElem (by rw[aA,List.length_range,Bu]) λi l o=>?_;rw[bQ,List.getElem_range,h.lies i (by rw[Bu] at o;exact o)];simp[o];refine List.map_congr_left λj _=>?_;rw[Nat.add_assoc]
 obtain⟨R,f⟩:∃R,R=(List.range (n-jz ps)).map λj=>D.now (jj t n+jz ps+j):=⟨_,Z⟩
 have p:R.length=n-jz ps:=by rw[f,aA,List.length_range]
 have d:∀s∈yd t 0 ps++R,s.length=64:=by rw[f,<-k];intro s q;obtain⟨j,_,rfl⟩:=aZ.1 q;exact zj6 hok _
 rw[<-f] at k|-
 have r:lyingB (yd t 0 ps++R) t=ps:=by
  unfold lyingB;refine lyGo_flat t ps 0 _ R h.short d (aB _) (lies_none (λs q=>d s (List.mem_append_right _ q)) λb B C e=>?_);rw[p] at C;have w:=h.few;obtain⟨j,y,a⟩:=hn b B zk;have l:(qq t (0+ps.length) b)[j]? =(R.take (jo b.length))[j]? :=by rw[e]
  rw[List.getElem?_take_of_lt y,f,bS,List.getElem?_range zk,aV,qq,bS,List.getElem?_range y] at l;exact a (cl l).symm
 rw[openW_yes (by rw[a]),a];unfold xn;rw[g];have u:(List.range n).map (λj=>({D with done:=D.done+2}:kj).now (jj t n+j))=yd t 0 ps++R:=k;have v:(yd t 0 ps++R).drop (jz ps)=R:=by rw[List.drop_append_of_le_length (by rw[Bu];exact aB _),aW (by rw[Bu];exact aB _),bI]
 rw[u,aI zq,r,aI h.ne,v]
theorem open_fate {D:kj} {m S t n:Nat} {ps:List Bytes} (hok:D.Ok m) (ha:yl D) (ho:D.order=[]) (hS:D.secs.length=S) (h:Told D.now S t n ps) (hn:Co D.now t n ps):
  (u4 D).2.2=(t,n,ps)/\(((u4 D).2.1=0/\yl (u4 D).1/\(u4 D).1.order=[]/\Told (u4 D).1.now S t n ps/\∀i,jz ps<=i->i<n->(u4 D).1.now (jj t n+i)=zeros)\/(u4 D).2.1=9)/\
  (∀keep,Told ((u4 D).1.vm keep).now S t n ps/\Co ((u4 D).1.vm keep).now t n ps)/\(Calm D->(u4 D).2.1=0/\Calm (u4 D).1)/\
  ((∀i,jz ps<=i->i<n->D.now (jj t n+i)=zeros)->u4 D=({D with done:=D.done+2+n},0,t,n,ps)):=by
 have s:=yv6 hok
 have e:=open_told hok ha hS h hn
 have u:=h.fit
 have K:=u.2.2
 have J:=h.few
 have L:=areas t n
 obtain⟨g,d⟩:∃g:kj,g={D with done:=D.done+2+n}:=⟨_,Z⟩
 have c:g.secs=D.secs:=by rw[d]
 have k:g.order=[]:=by rw[d];exact ho
 have v:yl g:=by rw[d];exact ha
 have o:∀i,g.now i=D.now i:=now_of_secs c
 obtain⟨R,z⟩:∃R,R=(List.range (n-jz ps)).map λj=>D.now (jj t n+jz ps+j):=⟨_,Z⟩
 have f:R.length=n-jz ps:=by rw[z,aA,List.length_range]
 have E:∀j,j<R.length->R.getD j []=g.now (jj t n+jz ps+j):=λj A=>by
  rw[f] at A
  rw[z,o]
  simp[A]
 rw[<-z,<-d] at e
 obtain⟨x,M⟩:∃x,x=u4 D:=⟨_,Z⟩
 rw[<-M] at e s|-
 have q:x.1=(xf g ((jj t n+jz ps:Nat):Int) R).1:=by rw[e]
 have r:x.2.1=(xf g ((jj t n+jz ps:Nat):Int) R).2:=by rw[e]
 have F:x.2.2=(t,n,ps):=by rw[e]
 refine⟨F,?_,λkeep=>?_,λG=>?_,λN=>?_⟩
 ·rcases clean_alive (l:=R) (a:=jj t n+jz ps) v k (by rw[f,c];omega) (by rw[c];omega) E with⟨p,w,h3,h4⟩|p
  ·rw[<-q] at w h3 h4
   rw[<-r] at p
   refine .inl ⟨p,w,h3,h.same λi B=>?_,λi O P=>?_⟩
   ·rw[h4,aI (by rw[f];omega),o]
   rw[h4,aL (by rw[f];omega)]
  rw[<-r] at p
  exact .inr p
 ·have Q:Within x.1 λi b=>b=D.now i\/(jj t n+jz ps<=i/\b=zeros):=by
   rw[q]
   refine Within.clean (((zq7 hok ho).secs c).mono λi b C=> .inl C) λj _=> .inr ⟨by omega,Z⟩
  obtain⟨_,_,T,G⟩:=zw2 s.1 Q keep
  have y:∀i,(x.1.vm keep).now i=D.now i\/(jj t n+jz ps<=i/\(x.1.vm keep).now i=zeros):=λi=>by
   rcases bC i x.1.secs.length with B|B
   ·exact G i B
   rw[xz4 zk,xz4 zk];exact .inl Z
  exact⟨h.same λi B=>(y i).elim id λe=>by omega,hn.wiped (λi _ _=>(y i).imp id And.right) h.lt⟩
 ·have H:Calm g:=by rw[d];exact G
  obtain⟨p,w⟩:=clean_calm (l:=R) (a:=jj t n+jz ps) H (by rw[f,c];omega) (by rw[c];omega)
  rw[<-q] at w
  rw[<-r] at p
  exact⟨p,w⟩
 rw[e,<-d,clean_none k λb C=>?_]
 rw[z] at C
 obtain⟨j,A,rfl⟩:=aZ.1 C
 have:=N (jz ps+j) zk (by have:=List.mem_range.1 A;omega)
 rwa [<-Nat.add_assoc] at this
theorem zv9 {t k : Nat} {b : Bytes} {j : Nat} (h : j < jo b.length) : (qq t k b).getD j [] = qv t k b j := by
  unfold qq
  simp [h]
theorem told_snoc {f g:Nat->Bytes} {S t n:Nat} {ps:List Bytes} {b:Bytes} (h:Told f S t n ps) (ho:Cy f t n ps) (hb:b.length<=40000) (hk:jz ps+jo b.length<=n)
  (hs:∀i,i<2\/(jj t n<=i/\i<jj t n+n)->¬(jj t n+jz ps<=i/\i<jj t n+jz ps+jo b.length)->g i=f i) (hl:∀j,j<jo b.length->g (jj t n+jz ps+j)=qv t ps.length b j):
  Told g S t n (ps++[b])/\Cy g t n (ps++[b]):=by
 have d:=areas t n;refine⟨⟨h.lt,h.fit,⟨?_,?_⟩,by rw[zw];exact hk,by simp,λp a=>?_,λi e=>?_⟩,λi k l=>?_⟩;rw[hs _ (.inl zk) zk];exact h.new.1;rw[hs _ (.inl zk) zk];exact h.new.2;rcases aS.1 a with a|a;exact h.short p a;rw[aF.1 a];exact hb;rw[zw] at e;rw[flatP_snoc,aV];by_cases c:i<jz ps;rw[hs _ (.inr zk) zk,h.lies i c,getD_left (by rw[Bu];exact c)];have:=hl (i-jz ps) zk;rw[show jj t n+jz ps+(i-jz ps)=jj t n+i from by omega] at this;rw[this,getD_right (by rw[Bu];omega),Bu,zv9 zk];rw[zw] at k;rw[hs _ (.inr zk) zk];exact ho i zk l
theorem told_some {f g:Nat->Bytes} {S t n:Nat} {ps:List Bytes} {b:Bytes} (h:Told f S t n ps) (ho:Cy f t n ps) (hb:b.length<=40000) (hk:jz ps+jo b.length<=n)
  (hg:∀i,i<S->g i=f i\/(jj t n+jz ps<=i/\i<jj t n+jz ps+jo b.length/\g i=qv t ps.length b (i-(jj t n+jz ps)))):
  (Told g S t n ps/\Co g t n ps)\/(Told g S t n (ps++[b])/\Co g t n (ps++[b])):=by
 have v:=areas t n;have w:=h.fit.2.2;have r:=h.few;by_cases c:∀j,j<jo b.length->g (jj t n+jz ps+j)=qv t ps.length b j;have s:=told_snoc (g:=g) h ho hb hk (λi x y=>(hg i zk).elim id λe=>absurd ⟨e.1,e.2.1⟩ y) c;exact .inr ⟨s.1,s.2.no h.lt⟩;refine .inl ⟨h.same λi x=>(hg i zk).elim id λe=>by omega,λl k z=> Decidable.byContradiction λm=>?_⟩;have a:∀j,j<jo l.length->g (jj t n+jz ps+j)=qv t ps.length l j:=λj o=>Decidable.byContradiction λe=>m ⟨j,o,e⟩;have A:=xq k;have p:=a 0 A;have d:∀j,j<n-jz ps->Old t (f (jj t n+jz ps+j)):=λj o=>by have:=ho (jz ps+j) zk zk;rwa [<-Nat.add_assoc] at this
 rcases hg (jj t n+jz ps+0) zk with e|⟨_,_,e⟩;rw[e] at p;exact d 0 zk t _ l 0 (aB _) h.lt k p;rw[p,show jj t n+jz ps+0-(jj t n+jz ps)=0 from by omega] at e;have B:=piece_sect e;refine c λj o=>?_;rcases hg (jj t n+jz ps+j) zk with q|⟨_,_,q⟩;have u:=a j zk;rw[q] at u;exact absurd u (d j zk t _ l j (aB _) h.lt k);rw[q,show jj t n+jz ps+j-(jj t n+jz ps)=j from by omega]
def NextOld (f : Nat -> Bytes) (t n : Nat) : Prop := ∀ i, i < n -> Old (t + 1) (f (jj (t + 1) n + i))
theorem told_next {f g:Nat->Bytes} {S t n:Nat} {ps:List Bytes} {b:Bytes} (h:Told f S t n ps) (ho:Cy f t n ps) (hx:NextOld f t n) (ht:t+1<4294967296) (hb:b.length<=40000) (hk:jo b.length<=n)
  (hh:g ((t+1)%2)=xw (t+1) n) (hl:∀j,j<jo b.length->g (jj (t+1) n+j)=qv (t+1) 0 b j)
  (hs:∀i,i<S->i≠(t+1)%2->¬(jj (t+1) n<=i/\i<jj (t+1) n+jo b.length)->g i=f i):Told g S (t+1) n [b]/\Cy g (t+1) n [b]/\NextOld g (t+1) n:=by
 have o:=areas t n;have q:=h.fit.2.2;have l:=h.few;have k:jz [b]=jo b.length:=by simp[jz]
 have m:=xq hb;refine⟨⟨ht,h.fit,⟨hh,λy=>?_⟩,by rw[k];exact hk,by simp,λp m=>by rw[aF.1 m];exact hb,λi a=>?_⟩,λi r s=>?_,λi a=>?_⟩;have e:(t+1+1)%2=t%2:=by omega
 rw[e,hs _ zk zk zk,h.new.1,head_turn n h.lt];omega;rw[k] at a;rw[hl i a,yd,yd,bE,zv9 a];rw[k] at r;rw[hs _ zk zk zk];exact hx i s;have e:jj (t+1+1) n=jj t n:=by rw[show t+1+1=t+2 from Z];omega
 rw[e,hs _ zk zk zk];by_cases c:i<jz ps;rw[h.lies i c]
 have u:(yd t 0 ps).getD i []∈yd t 0 ps:=by
  have d:i<(yd t 0 ps).length:=by rw[Bu];exact c
  rw[show(yd t 0 ps).getD i []=(yd t 0 ps)[i] from by simp[d]];exact aC d
 obtain⟨v,w,x,e⟩:=flatP_mem t ps 0 _ u;rw[e];exact old_piece v w x zk;exact(ho i zk a).mono zk
theorem Dn (W:Wl) (b:Bytes) (r:Int):(W.refuses b r=0/\b.length<=40000/\W.broken=false/\(jo b.length:Int)<=r)\/(W.refuses b r≠0/\W.refuses b r≠9):=by
 unfold Wl.refuses;split;exact .inr ⟨by decide,by decide⟩;split;exact .inr ⟨by decide,by decide⟩;split;exact .inr ⟨by decide,by decide⟩;rename_i c a d;refine .inl ⟨Z,by omega,?_,by omega⟩;cases hb:W.broken with
 |true=>exact absurd hb a
 |false=>rfl
structure Firm (W : Wl) (S : Nat) : Prop where
  told : Told W.D.now S W.turn W.size W.pieces
  tail : Cy W.D.now W.turn W.size W.pieces
  rest : W.D.order = []
  secs : W.D.secs.length = S
  used : W.used = jz W.pieces
abbrev Nexts (W : Wl) : Prop := NextOld W.D.now W.turn W.size
theorem append_fate {W:Wl} {m S:Nat} (hok:W.D.Ok m) (ha:yl W.D) (h:Firm W S) (b:Bytes):
  ((W.append b).2=0/\yl (W.append b).1.D/\Firm (W.append b).1 S/\(W.append b).1.pieces=W.pieces++[b]/\(W.append b).1.size=W.size/\(Nexts W->Nexts (W.append b).1))\/
  ((W.append b).2≠0/\(W.append b).2≠9/\(W.append b).1=W)\/
  ((W.append b).2=9/\∀keep,∃ps,(ps=W.pieces\/ps=W.pieces++[b])/\Told ((W.append b).1.D.vm keep).now S W.turn W.size ps/\Co ((W.append b).1.D.vm keep).now W.turn W.size ps):=by
 obtain⟨p,t,z,A,B⟩:=h;have u:=p.fit.2.2;have C:=areas W.turn W.size;rcases Dn W b ((W.size:Int)-W.used) with⟨a,v,K,L⟩|⟨a,E⟩;have w:jz W.pieces+jo b.length<=W.size:=by omega
 obtain⟨y,l⟩:∃y,y=xh W.D ((jj W.turn W.size+W.used:Nat):Int) (qq W.turn W.pieces.length b):=⟨_,Z⟩
 have q:=Cr (qq W.turn W.pieces.length b) (jj W.turn W.size+W.used) ha (by rw[kz];omega) zk;have d:=zq2 (qq W.turn W.pieces.length b) ((jj W.turn W.size+W.used:Nat):Int) hok (Cj _ _ _);have f:=vu (qq W.turn W.pieces.length b) W.D ((jj W.turn W.size+W.used:Nat):Int);have r:Within y.1 λi c=>c=W.D.now i\/(jj W.turn W.size+jz W.pieces<=i/\i<jj W.turn W.size+jz W.pieces+jo b.length/\c=qv W.turn W.pieces.length b (i-(jj W.turn W.size+jz W.pieces))):=by rw[l];refine Within.lay _ _ ((zq7 hok z).mono λi c e=> .inl e) λj n=> .inr ?_;rw[kz] at n;exact⟨by omega,by omega,by rw[zv9 n,show jj W.turn W.size+W.used+j-(jj W.turn W.size+jz W.pieces)=j from by omega]⟩
 rw[<-l] at q d f;rw[kz] at q;rcases q with⟨o,F,G,s⟩|o;left;rw[yz5 a l o];have x:=told_snoc (g:=y.1.now) p t v w (λi k M=>by rw[s,aI zk]) λj n=>by rw[s,aL zk,show jj W.turn W.size+jz W.pieces+j-(jj W.turn W.size+W.used)=j from by omega,zv9 n]
 refine⟨Z,F,⟨x.1,x.2,G,f.trans A,by show W.used+jo b.length=_;rw[zw,B]⟩,Z,Z,λH i k=>?_⟩;show Old (W.turn+1) (y.1.now (jj (W.turn+1) W.size+i));rw[s,aI (by have k:i<W.size:=k;omega)];exact H i k;right;right;rw[yw4 a l (by rw[o];decide)];refine⟨o,λkeep=>?_⟩;obtain⟨_,_,N,J⟩:=zw2 d r keep;rcases told_some (g:=(y.1.vm keep).now) p t v w (λi k=>J i zk) with c|c;exact⟨_,.inl Z,c⟩
 exact⟨_,.inr Z,c⟩
 right;left;rw[zz7 a];exact⟨a,E,Z⟩
theorem ckp_fate {W:Wl} {m S:Nat} (hok:W.D.Ok m) (ha:yl W.D) (h:Firm W S) (hx:Nexts W) (b:Bytes):
  ((W.ji b).2=0/\yl (W.ji b).1.D/\Firm (W.ji b).1 S/\(W.ji b).1.pieces=[b]/\(W.ji b).1.size=W.size/\Nexts (W.ji b).1)\/
  ((W.ji b).2≠0/\(W.ji b).2≠9/\(W.ji b).1=W)\/
  ((W.ji b).2=9/\∀keep,∃t ps,(ps=W.pieces\/ps=[b])/\Told ((W.ji b).1.D.vm keep).now S t W.size ps/\Co ((W.ji b).1.D.vm keep).now t W.size ps):=by
 obtain⟨o,T,hr,hs,hu⟩:=h;have U:=o.fit.2.2;have aa:=areas W.turn W.size;have V:=o.few;have ab:=o.lt;rcases Dn W b (if W.turn=4294967295 then 0 else(W.size:Int)) with⟨p,X,h2,Y⟩|⟨p,h9⟩;have hp:=xq X;have F:W.turn≠4294967295:=λe=>by rw[aL e] at Y;omega
 rw[aI F] at Y;have hk:jo b.length<=W.size:=by omega
 have s:W.turn+1<4294967296:=by omega
 obtain⟨y,B⟩:∃y,y=y8 W.D (W.turn+1) W.size b:=⟨_,Z⟩
 obtain⟨z,G⟩:∃z,z=xh W.D ((jj (W.turn+1) W.size:Nat):Int) (qq (W.turn+1) 0 b):=⟨_,Z⟩
 have H:=Cr (qq (W.turn+1) 0 b) (jj (W.turn+1) W.size) ha (by rw[kz];omega) zk;have f:=zq2 (qq (W.turn+1) 0 b) ((jj (W.turn+1) W.size:Nat):Int) hok (Cj _ _ _);have l:=vu (qq (W.turn+1) 0 b) W.D ((jj (W.turn+1) W.size:Nat):Int);have J:Within z.1 λi c=>c=W.D.now i\/(jj (W.turn+1) W.size<=i/\i<jj (W.turn+1) W.size+jo b.length):=by rw[G];refine Within.lay _ _ ((zq7 hok hr).mono λi c e=> .inl e) λj u=> .inr ?_;rw[kz] at u;exact⟨by omega,by omega⟩
 rw[<-G] at H f l;rw[kz] at H;have a:y=if z.2≠0 then z else xh z.1 (((W.turn+1)%2:Nat):Int) [xw (W.turn+1) W.size]:=by rw[B,G];rfl
 have d:∀g:Nat->Bytes,(∀i,i<S->g i=W.D.now i\/(jj (W.turn+1) W.size<=i/\i<jj (W.turn+1) W.size+jo b.length))->Told g S W.turn W.size W.pieces/\Co g W.turn W.size W.pieces:=λg q=>by refine⟨o.same λi v=>(q i zk).elim id λe=>by omega,Cy.no (λi K n=>?_) o.lt⟩;rcases q (jj W.turn W.size+i) zk with e|e;rw[e];exact T i K n;omega
 rcases H with⟨w,f2,f3,L⟩|w;rw[aI (by rw[w];decide)] at a;have q:=Cr [xw (W.turn+1) W.size] ((W.turn+1)%2) f2 (by rw[l,cU];omega) zk;have x:=zq2 [xw (W.turn+1) W.size] (((W.turn+1)%2:Nat):Int) f λc hc=>by rw[aF.1 hc];exact Du _ _
 have A:=vu [xw (W.turn+1) W.size] z.1 (((W.turn+1)%2:Nat):Int)
 have M:Within y.1 λi c=>c=z.1.now i\/(i=(W.turn+1)%2/\c=xw (W.turn+1) W.size):=by
  rw[a];refine Within.lay _ _ ((zq7 f f3).mono λi c e=> .inl e) λj u=> .inr ?_;have N:j=0:=by simpa using u
  subst N;exact⟨Z,Z⟩
 rw[<-a] at q x A;rw[cU] at q;have k:∀g:Nat->Bytes,g ((W.turn+1)%2)=xw (W.turn+1) W.size->(∀i,i<S->i≠(W.turn+1)%2->g i=z.1.now i)->Told g S (W.turn+1) W.size [b]/\Cy g (W.turn+1) W.size [b]/\NextOld g (W.turn+1) W.size:=λg e1 r=>by refine told_next (g:=g) o T hx s X hk e1 (λj u=>?_) λi v C O=>?_;rw[r _ zk zk,L,aL zk,Nat.add_sub_cancel_left,zv9 u];rw[r i v C,L,aI O]
 rcases q with⟨E,g2,g3,I⟩|E;left;rw[ckp_ok p B E];obtain⟨P,Q,n3⟩:=k y.1.now (by rw[I,aL zk,Nat.sub_self];rfl) λi _ C=>by rw[I,aI zk]
 exact⟨Z,g2,⟨P,Q,g3,(A.trans l).trans hs,by show jo b.length=jz [b];simp[jz]⟩,Z,Z,n3⟩
 right;right;rw[ckp_bad p B (by rw[E];decide)];refine⟨E,λkeep=>?_⟩;obtain⟨_,_,c3,R⟩:=zw2 x M keep;rcases R ((W.turn+1)%2) zk with e|⟨_,e⟩;refine⟨W.turn,_,.inl rfl,d _ λi v=>?_⟩;have n:(y.1.vm keep).now i=z.1.now i:=by rcases R i zk with r|⟨r,_⟩;exact r;rw[r];exact e
 rw[show({W with D:=y.1,broken:=true}:Wl).D=y.1 from Z,n,L];by_cases c:jj (W.turn+1) W.size<=i/\i<jj (W.turn+1) W.size+jo b.length;exact .inr c;rw[aI c];exact .inl Z;obtain⟨P,Q,_⟩:=k (y.1.vm keep).now e λi v C=>(R i zk).elim id λe=>absurd e.1 C;exact⟨W.turn+1,_,.inr Z,P,Q.no s⟩
 right;right;rw[aL (by rw[w];decide)] at a;rw[ckp_bad p B (by rw[a,w];decide)];refine⟨by rw[a];exact w,λkeep=>⟨W.turn,_,.inl Z,d _ λi v=>?_⟩⟩;show(y.1.vm keep).now i=_\/_;rw[a];exact(zw2 f J keep).2.2.2 i zk;right;left;rw[ckp_no p];exact⟨p,h9,Z⟩
theorem fresh_now (n i:Nat):(kj.fresh n).now i=zeros:=by
 rcases bC i n with h|h;refine(now_some (s:=⟨zeros,[]⟩) ?_).trans Z;simp[kj.fresh,h];exact xz4 (by simp[kj.fresh,h])
theorem calm_lay {l:List Bytes} {D:kj} {a:Nat} (h:Calm D) (hk:a+l.length<=D.secs.length) (hs:0<D.secs.length):(xh D (a:Int) l).2=0/\Calm (xh D (a:Int) l).1/\(xh D (a:Int) l).1.order=[]/\∀j,(xh D (a:Int) l).1.now j=if a<=j/\j<a+l.length then l.getD (j-a) [] else D.now j:=by
 obtain⟨b,c⟩:=zj2 l h (cF a) zk hs;rcases Cr l a h.alive hk hs with⟨_,_,d,e⟩|f;exact⟨b,c,d,e⟩
 rw[f] at b;exact absurd b zd
theorem start_firm {a:Nat} (ha:4<=a/\a<=1000):Firm (Wl.fresh (uj (kj.fresh (2+2*a)) (a:Int)).1 a) (2+2*a)/\Nexts (Wl.fresh (uj (kj.fresh (2+2*a)) (a:Int)).1 a):=by
 have m:(kj.fresh (2+2*a)).secs.length=2+2*a:=by simp[kj.fresh]
 have f:B9 a (2+2*a):=⟨ha.1,ha.2,aB _⟩
 obtain⟨z,A,J,B⟩:=calm_lay (l:=List.replicate (2+2*a) zeros) (a:=0) (fresh_calm0 (2+2*a)) (by rw[bN,m];omega) zk;have c:=vu (List.replicate (2+2*a) zeros) (kj.fresh (2+2*a)) ((0:Nat):Int);obtain⟨g,n⟩:∃g,g=xh (kj.fresh (2+2*a)) ((0:Nat):Int) (List.replicate (2+2*a) zeros):=⟨_,Z⟩
 rw[<-n] at z A J B c;have K:∀j,g.1.now j=zeros:=λj=>by rw[B];split;rename_i h;rw[bN] at h;rw[bH,List.getElem?_replicate,aL zk];rfl;exact fresh_now _ _
 have C:jo ([]:Bytes).length=1:=rfl;obtain⟨D,E,L,q⟩:=calm_lay (l:=qq 0 0 []) (a:=2) A (by rw[kz,c,m,C];omega) zk;have t:=vu (qq 0 0 []) g.1 ((2:Nat):Int);obtain⟨r,o⟩:∃r,r=xh g.1 ((2:Nat):Int) (qq 0 0 []):=⟨_,Z⟩
 rw[<-o] at D E L q t;obtain⟨F,G,u,k⟩:=calm_lay (l:=[xw 0 a]) (a:=0) E (by rw[cU,t,c,m];omega) zk;have v:=vu [xw 0 a] r.1 ((0:Nat):Int);have M:uj (kj.fresh (2+2*a)) (a:Int)=xh r.1 ((0:Nat):Int) [xw 0 a]:=by rw[yq9 (by rw[m];exact f)];rw[<-show g=xh (kj.fresh (2+2*a)) 0 (List.replicate (2+2*a) zeros) from n,aI (by rw[z];decide)];unfold y8;rw[show(jj 0 a:Int)=((2:Nat):Int) from Z,<-o,aI (by rw[D];decide)]
 rw[<-M] at F G u k v;obtain⟨d,w⟩:∃d,d=uj (kj.fresh (2+2*a)) (a:Int):=⟨_,Z⟩
 rw[<-w] at F G u k v|-;rw[kz,C] at q;rw[cU] at k;have N:jj 0 a=2:=rfl;have O:jj 1 a=2+a:=rfl;have P:jz [([]:Bytes)]=1:=rfl;have b:∀i,i≠0->i≠2->d.1.now i=zeros:=λi S Q=>by rw[k,aI zk,q,aI zk,K]
 refine⟨⟨⟨show 0<4294967296 by decide,f,⟨?_,λs=>?_⟩,?_,by simp[Wl.fresh],λp R=>?_,λi x=>?_⟩,λi H Q=>?_,u,((v.trans t).trans c).trans m,Z⟩,λi x=>?_⟩;show d.1.now (0%2)=xw 0 a;rw[k,aL zk];rfl;have e:d.1.now ((0+1)%2)=zeros:=b _ zd zd;exact absurd (show zx3 1 (2+2*a) zeros by have s:zx3 ((0+1)%2) (2+2*a) (d.1.now ((0+1)%2)):=s;rw[e] at s;exact s) head_zeros;show jz [([]:Bytes)]<=a;omega;have:p=[]:=by simpa [Wl.fresh] using R
 rw[this];exact aJ _;have y:i=0:=by have x:i<jz [([]:Bytes)]:=x;omega
 subst y;show d.1.now (2+0)=_;rw[k,aI zk,q,aL zk];rfl;show Old 0 (d.1.now (jj 0 a+i));rw[b _ zk (by have H:jz [([]:Bytes)]<=i:=H;omega)];exact xw9 _;show Old 1 (d.1.now (jj 1 a+i));rw[b _ zk zk];exact xw9 _
def B8 (W : Wl) (n : Nat) : Wl := { W with D := { W.D with fuse := (n : Int) } }
theorem arm_calm {D:kj} (h:Calm D) (n:Nat):D.arm (n:Int)=({D with fuse:=(n:Int)},0):=by
 unfold kj.arm;rw[aI (by rw[h.1];decide),show yz1 (n:Int)=n from aI zk]
theorem zj1 {D:kj} {m:Nat} (h:D.Ok m) {n:Nat} (hn:n<1000000):({D with fuse:=(n:Int)}:kj).Ok m:=⟨h.size,h.safe,h.inside,h.count,h.few,by show(-1:Int)<=n/\(n:Int)<_;omega,h.fault,h.done⟩
theorem Wl.Ok.armed {W : Wl} (h : Wl.Ok W) (n : Nat) : Wl.Ok (B8 W n) := ⟨h.size, h.secs, h.turn, h.some, h.short, h.few, h.used, h.room⟩
theorem Firm.armed {W : Wl} {S : Nat} (h : Firm W S) (n : Nat) : Firm (B8 W n) S := ⟨h.told, h.tail, h.rest, h.secs, h.used⟩
structure Down (D : kj) (m S t n : Nat) (ps : List Bytes) : Prop where
  ok : D.Ok m
  calm : Calm D
  rest : D.order = []
  secs : D.secs.length = S
  told : Told D.now S t n ps
  no : Co D.now t n ps
theorem Down.mono {D:kj} {m m' S t n:Nat} {ps:List Bytes} (h:Down D m S t n ps) (hm:m<=m'):Down D m' S t n ps:=⟨h.ok.mono hm,h.calm,h.rest,h.secs,h.told,h.no⟩
def Zeroed (D : kj) (t n : Nat) (ps : List Bytes) : Prop := ∀ i, jz ps <= i -> i < n -> D.now (jj t n + i) = zeros
theorem zeroed_old {D : kj} {t n : Nat} {ps : List Bytes} (h : Zeroed D t n ps) : Cy D.now t n ps := λi h1 h2 => by rw [h i h1 h2]; exact xw9 t
abbrev upW (D : kj) (t n : Nat) (ps : List Bytes) : Wl := ⟨D, n, t, ps, jz ps, false⟩
theorem crash_secs (D : kj) (keep : List Bool) : (D.vm keep).secs.length = D.secs.length := yh _ _ _ _
theorem zj5 {D:kj} {m S t n:Nat} {ps:List Bytes} (hok:D.Ok m) (hs:D.secs.length=S) (keep:List Bool) (h:Told (D.vm keep).now S t n ps/\Co (D.vm keep).now t n ps):Down (D.vm keep) m S t n ps:=
 ⟨hok.vm keep,⟨Z,Z,Z⟩,Z,(crash_secs D keep).trans hs,h.1,h.2⟩
theorem Down.opens {D:kj} {m S t n:Nat} {ps:List Bytes} (h:Down D m S t n ps):∃D',u4 D=(D',0,t,n,ps)/\Down D' (m+5000) S t n ps/\Zeroed D' t n ps/\Wl.Ok (upW D' t n ps)/\Wl.opened (u4 D)=upW D' t n ps:=by
 obtain⟨b,c,s,p,u⟩:=open_fate h.ok h.calm.alive h.rest h.secs h.told h.no;obtain⟨d,f,g⟩:=yv6 h.ok;obtain⟨a,i⟩:=p h.calm;obtain⟨x,q⟩:∃x,x=u4 D:=⟨_,Z⟩
 rw[<-q] at b c d f g a i|-;have e:x=(x.1,0,t,n,ps):=by rw[<-a,<-b]
 have j:Wl.opened x=upW x.1 t n ps:=by rw[e];rfl
 rcases c with⟨_,_,r,k,l⟩|o;exact⟨x.1,e,⟨d,i,r,f.trans h.secs,k,(zeroed_old l).no k.lt⟩,l,by have:=g a;rwa [j] at this,j⟩
 rw[a] at o;exact absurd o zd
theorem Down.armed {D:kj} {m S t n:Nat} {ps:List Bytes} (h:Down D m S t n ps) {k:Nat} (hk:k<1000000):
  (u4 {D with fuse:=(k:Int)}).1.Ok (m+5000)/\((u4 {D with fuse:=(k:Int)}).2.1=0\/(u4 {D with fuse:=(k:Int)}).2.1=9)/\∀keep,Down ((u4 {D with fuse:=(k:Int)}).1.vm keep) (m+5000) S t n ps:=by
 obtain⟨e,b,c,f,g⟩:=open_fate (D:={D with fuse:=(k:Int)}) (zj1 h.ok hk) h.calm.alive h.rest h.secs h.told h.no;obtain⟨a,d,i⟩:=yv6 (zj1 h.ok hk);exact⟨a,b.imp And.left id,λkeep=>zj5 a (d.trans h.secs) keep (c keep)⟩
theorem app_secs (W:Wl) (b:Bytes):(W.append b).1.D.secs.length=W.D.secs.length:=by
 unfold Wl.append;dsimp only;split;rfl;split;exact vu _ _ _;exact vu _ _ _
theorem ckp_secs (W:Wl) (b:Bytes):(W.ji b).1.D.secs.length=W.D.secs.length:=by
 unfold Wl.ji;dsimp only;generalize(if W.turn=4294967295 then 0 else(W.size:Int))=r;split;rfl;split;exact yx0 _ _ _ _;exact yx0 _ _ _ _
def Fate (W : Wl) (S : Nat) (ps' : List Bytes) (r : Wl × Int) : Prop :=
  (r.2 = 0 /\ yl r.1.D /\ Firm r.1 S /\ r.1.pieces = ps' /\ r.1.size = W.size /\ Nexts r.1) \/ (r.2 ≠ 0 /\ r.2 ≠ 9 /\ r.1 = W) \/
  (r.2 = 9 /\ ∀ keep, ∃ t ps, (ps = W.pieces \/ ps = ps') /\ Told (r.1.D.vm keep).now S t W.size ps /\ Co (r.1.D.vm keep).now t W.size ps)
theorem app_fate {W:Wl} {m S:Nat} (hok:W.D.Ok m) (ha:yl W.D) (h:Firm W S) (hx:Nexts W) (b:Bytes):Fate W S (W.pieces++[b]) (W.append b):=by
 rcases append_fate hok ha h b with⟨a,d,e,f,g,i⟩|a|⟨a,d⟩;exact .inl ⟨a,d,e,f,g,i hx⟩;exact .inr (.inl a);exact .inr (.inr ⟨a,λc=>by obtain⟨j,e⟩:=d c;exact⟨_,j,e⟩⟩)
theorem Fate.down {W:Wl} {m S:Nat} {ps':List Bytes} {r:Wl×Int} (h:Fate W S ps' r) (hf:Firm W S) (hok:r.1.D.Ok m) (hs:r.1.D.secs.length=S) (keep:List Bool):
  ∃t ps,Down (r.1.D.vm keep) m S t W.size ps/\(r.2=0->ps=ps')/\(r.2≠0->r.2≠9->ps=W.pieces)/\(ps=W.pieces\/ps=ps'):=by
 rcases h with⟨c,j,d,l,n,s⟩|⟨c,j,d⟩|⟨c,j⟩;have a:=d.told;rw[l,n] at a;have g:=d.tail;rw[l,n] at g;have k:=g.no a.lt;have f:=crash_same hok d.rest keep;exact⟨r.1.turn,ps',zj5 hok hs keep ⟨a.same λi _=>f i,k.wiped (λi _ _=> .inl (f i)) a.lt⟩,λ_=>rfl,λe=>absurd c e,.inr Z⟩
 have a:=hf.told;have g:=hf.tail;have b:r.1.D.order=[]:=by rw[d];exact hf.rest
 have f:=crash_same hok b keep;have o:∀i,r.1.D.now i=W.D.now i:=λi=>by rw[d]
 exact⟨W.turn,W.pieces,zj5 hok hs keep ⟨a.same λi _=>(f i).trans (o i),(g.no a.lt).wiped (λi _ _=> .inl ((f i).trans (o i))) a.lt⟩,λe=>absurd e c,λ_ _=>rfl,.inl Z⟩
 obtain⟨t,ps,p,q⟩:=j keep;exact⟨t,ps,zj5 hok hs keep q,λe=>by rw[c] at e;exact absurd e zd,λ_ e=>absurd c e,p⟩
theorem app_err {W:Wl} (ha:yl W.D) (hW:Wl.Ok W) (b:Bytes):((W.append b).2=W.refuses b ((W.size:Int)-W.used))\/((W.append b).2=9/\W.refuses b ((W.size:Int)-W.used)=0):=by
 rcases Dn W b ((W.size:Int)-W.used) with⟨a,h,i,j⟩|⟨a,k⟩;obtain⟨y,d⟩:∃y,y=xh W.D ((jj W.turn W.size+W.used:Nat):Int) (qq W.turn W.pieces.length b):=⟨_,Z⟩
 have f:jj W.turn W.size<=2+W.size:=by unfold jj;split<;>omega
 have g:=hW.secs;have e:=Cr (qq W.turn W.pieces.length b) (jj W.turn W.size+W.used) ha (by rw[kz];omega) zk;rw[<-d] at e;rcases e with⟨c,_⟩|c;exact .inl (by rw[yz5 a d c,a]);exact .inr ⟨by rw[yw4 a d (by rw[c];decide)];exact c,a⟩;exact .inl (by rw[zz7 a])
theorem ckp_err {W:Wl} (ha:yl W.D) (hW:Wl.Ok W) (b:Bytes) (r:Int) (hr:r=W.refuses b (if W.turn=4294967295 then 0 else(W.size:Int))):((W.ji b).2=r)\/((W.ji b).2=9/\r=0):=by
 subst hr;rcases Dn W b (if W.turn=4294967295 then 0 else(W.size:Int)) with⟨c,m,q,i⟩|⟨c,s⟩;have t:jo b.length<=W.size:=by by_cases ht:W.turn=4294967295;rw[aL ht] at i;have:=xq m;omega;rw[aI ht] at i;omega
 have n:=areas (W.turn+1) W.size;have o:=hW.secs;obtain⟨y,f⟩:∃y,y=y8 W.D (W.turn+1) W.size b:=⟨_,Z⟩
 obtain⟨z,j⟩:∃z,z=xh W.D ((jj (W.turn+1) W.size:Nat):Int) (qq (W.turn+1) 0 b):=⟨_,Z⟩
 have k:=Cr (qq (W.turn+1) 0 b) (jj (W.turn+1) W.size) ha (by rw[kz];omega) zk;have d:=vu (qq (W.turn+1) 0 b) W.D ((jj (W.turn+1) W.size:Nat):Int);rw[<-j] at k d;have a:y=if z.2≠0 then z else xh z.1 (((W.turn+1)%2:Nat):Int) [xw (W.turn+1) W.size]:=by rw[f,j];rfl
 have h:y.2=0\/y.2=9:=by rcases k with⟨e,p,_⟩|e;rw[aI (by rw[e];decide)] at a;have l:=Cr [xw (W.turn+1) W.size] ((W.turn+1)%2) p (by rw[d,cU];omega) zk;rw[<-a] at l;exact l.imp And.left id;rw[aL (by rw[e];decide)] at a;exact .inr (by rw[a];exact e)
 rcases h with g|g;exact .inl (by rw[ckp_ok c f g,c]);exact .inr ⟨by rw[ckp_bad c f (by rw[g];decide)];exact g,c⟩;exact .inl (by rw[ckp_no c])
theorem side_app {q:Bool} {b r:Bytes} (hb:b.length<65536):(dS (sideB q b++r)).side=((q,b),dS r):=by
 unfold Ds.side;rw[sideB,aM,Cb (l:=[isB q]) (n:=1) Z];rw[zw8 (n:=2) zk,is_app];cases q<;>rfl
theorem set_app {s:A4} {r:Bytes} (hn:s.name.length<256) (h1:s.old.length<65536) (h2:s.new.length<65536):(dS (xx7 s++r)).set=(s,dS r):=by
 unfold Ds.set;rw[xx7,aM,aM,zw8 (n:=1) zk];dsimp only;rw[side_app h1];rw[side_app h2]
theorem laid_small {o : jm} (h : yv o) : (laidB o).length < 65536 := by have := h.2; omega
theorem objsB_map (l : List jm) : zv2 l = (l.map laidB).flatMap (vj 2) := by rw [zv2, List.flatMap_map]
theorem raw_app {b:Ap} (h:Bx b) (r:Bytes):rawB (uo b++r)=((b.objs.map laidB,b.sets),dS r):=by
 have c:=h.1;have j:=h.2.1;have d:uo b++r=be 2 b.objs.length++((b.objs.map laidB).flatMap (vj 2)++(be 1 b.sets.length++(b.sets.flatMap xx7++r))):=by rw[uo,objsB_map];simp only[aM]
 have g:Ds.each (λs:Ds=>s.str 2) b.objs.length (dS ((b.objs.map laidB).flatMap (vj 2)++(be 1 b.sets.length++(b.sets.flatMap xx7++r))))=(b.objs.map laidB,dS (be 1 b.sets.length++(b.sets.flatMap xx7++r))):=by
  have e:=each_app (f:=λs:Ds=>s.str 2) (e:=vj 2) (l:=b.objs.map laidB) (r:=be 1 b.sets.length++(b.sets.flatMap xx7++r)) (λx a r=>by
   obtain⟨o,c,rfl⟩:=aZ.1 a
   exact zw8 (by have:=laid_small (h.2.2.1 o c);omega))
  rwa [aA] at e
 have i:Ds.each Ds.set b.sets.length (dS (b.sets.flatMap xx7++r))=(b.sets,dS r):=each_app (λx a r=>by
  have k:=h.2.2.2.1 x a
  have m:=k.2.1
  have n:=k.2.2.1.1
  have p:=k.2.2.2.1
  exact set_app zk zk zk)
 unfold rawB;rw[d,show(⟨be 2 b.objs.length++((b.objs.map laidB).flatMap (vj 2)++(be 1 b.sets.length++(b.sets.flatMap xx7++r))),false⟩:Ds).off 2=_ from Cb (ka 2 _)];dsimp only;rw[Da 2 _ zk,g];rw[Cb (ka 1 _)];rw[Da 1 _ zk,i]
theorem bat_of {b:Ap} (hi:∀o∈b.objs,ub o) (h:Bx b):batOf (b.objs.map laidB,b.sets)=b/\∀y∈b.objs.map laidB,(ye y).2=0:=by
 refine⟨?_,λy c=>?_⟩;show Ap.mk ((b.objs.map laidB).map λy=>(ye y).1) b.sets=b;rw[List.map_map,List.map_congr_left (g:=id) (λo a=>by show(ye (laidB o)).1=o;rw[dec_laid (hi o a) (h.2.2.1 o a)]),List.map_id];obtain⟨o,a,rfl⟩:=aZ.1 c;rw[dec_laid (hi o a) (h.2.2.1 o a)]
theorem read_code {b:Ap} (hi:∀o∈b.objs,ub o) (h:Bx b):xd (uo b)=(b,0):=by
 have e:=raw_app h [];rw[bE] at e;obtain⟨a,c⟩:=bat_of hi h;rw[xd,e,aI (λk=>by cases k),a,aL ⟨c,h,rfl⟩]
theorem yq7:∀(l:List jm) {row fr row' fr':List jm},l.foldl brO (some (row,fr))=some (row',fr')->∃m,row'=row++m/\fr'=fr++m/\m.Sublist l/\∀fr0,m.foldl brO (some (row,fr0))=some (row',fr0++m)
 | [],row,fr,row',fr',h=>by cases h;exact⟨[],by simp,by simp,.slnil,λfr0=>by simp⟩
 |o::l,row,fr,row',fr',h=>by
  rw[List.foldl_cons] at h
  by_cases h1:vv o∈qi row
  ·rw[show brO (some (row,fr)) o=some (row,fr) from by simp[brO,h1]] at h
   obtain⟨m,e1,e2,e3,e4⟩:=yq7 l h
   exact⟨m,e1,e2,e3.cons _,e4⟩
  by_cases h2:∀x∈qd o,x∈qi row
  ·have e:∀f,brO (some (row,f)) o=some (row++[o],f++[o]):=λf=>by simp only[brO,Option.bind_some,aI h1,aL h2]
   rw[e] at h
   obtain⟨m,e1,e2,e3,e4⟩:=yq7 l h
   exact⟨o::m,by rw[e1,aM];rfl,by rw[e2,aM];rfl,e3.cons_cons _,λfr0=>by rw[List.foldl_cons,e,e4,aM];rfl⟩
  rw[show brO (some (row,fr)) o=none from by simp only[brO,Option.bind_some,aI h1,aI h2],Bj brO_none] at h
  cases h
theorem bring_row:∀(l:List jm) {pre fr:List jm},Ahead pre l->l.foldl brO (some (pre,fr))=some (pre++l,fr++l)
 | [],pre,fr,_=>by simp
 |o::l,pre,fr,h=>by
  rw[List.foldl_cons,show brO (some (pre,fr)) o=some (pre++[o],fr++[o]) from by simp only[brO,Option.bind_some,aI h.1.1,aL h.1.2],bring_row l h.2,aM,aM]
  rfl
abbrev toSet (v : Am) : A4 := ⟨v.1, false, true, [], v.2⟩
theorem bring_vals:∀(l pre:List Am),Ai (pre++l)->(l.map toSet).foldl seS (some pre)=some (pre++l)
 | [],pre,_=>by simp
 |v::l,pre,h=>by
  have hp:=(List.pairwise_append.1 h).2.2
  have a:∀x∈pre,nLt x.1 v.1:=λx b=>hp x b v zq
  have c:zx2 pre v.1=none:=by
   unfold zx2;rw[List.find?_eq_none.2 λx b=>by simpa using nLt_ne (a x b)];rfl
  have e:seS (some pre) (toSet v)=some (pre++[v]):=by
   have d:FitD pre (toSet v):=by unfold FitD;rw[show(toSet v).name=v.1 from Z,c];rfl
   simp only[seS,Option.bind_some,aL d];have f:(pre.filter λx=>decide (nLt x.1 v.1))=pre:=List.filter_eq_self.2 λx b=>by simpa using a x b
   have g:(pre.filter λx=>decide (nLt v.1 x.1))=[]:=List.filter_eq_nil_iff.2 λx b=>by simpa using zz8 (a x b)
   unfold xx8;rw[show(toSet v).name=v.1 from Z,f,g,bE];rfl
  rw[dI,List.foldl_cons,e,bring_vals l (pre++[v]) (by rw[aM];exact h),aM];rfl
abbrev AllIn (s : Ax) : Prop := ∀ o ∈ s.row, ub o
theorem code_ne (b:Ap):uo b≠[]:=λe=>by
 have:=congrArg List.length e
 simp only[uo,ao,ka,cL] at this
 omega
theorem said_fresh {s:Ax} {b:Ap} (hb:Bx b) (hi:∀o∈b.objs,ub o) (h:(jp s b).2.2=0):uy s (uo (jp s b).2.1)=some (jp s b).1:=by
 obtain⟨p,v,i,j,r,e⟩:=xq1 h;have c:=fresh_may (s:=s) hb;obtain⟨m,_,d,a,k⟩:=yq7 b.objs i;rw[bI] at d;rw[e] at c|-;dsimp only at c|-;have f:∀o∈p.2,ub o:=λo l=>hi o (a.subset (d▸l));have n:=read_code (b:=⟨p.2,b.sets⟩) f c
 have q:jp s ⟨p.2,b.sets⟩=(⟨p.1,v⟩,⟨p.2,b.sets⟩,0):=by
  have g:yx s.row p.2=some (p.1,p.2):=by have:=k [];rw[bI,<-d] at this;exact this
  unfold jp;rw[g];rw[j];dsimp only;rw[aI zk]
 unfold uy;rw[n];rw[q];exact aL ⟨Z,Z,Z⟩
theorem said_all {A:Ax} (h:A.Ok) (hi:AllIn A) (hl:A.row.length<=4096):xe (uo (A7 A))=some A:=by
 have a:=(all_may h).2 hl;have c:=read_code (b:=A7 A) hi a;have d:Bs [] (A7 A).sets=some A.vals:=by have:=bring_vals A.vals [] (by rw[bI];exact h.rise);rw[bI] at this;exact this
 have e:yx [] (A7 A).objs=some (A.row,A.row):=by have:=bring_row A.row (pre:=[]) (fr:=[]) h.ahead;rw[bI] at this;exact this
 have f:jp zz4 (A7 A)=(A,A7 A,0):=by have i:=h.few;unfold jp;rw[e];rw[d];dsimp only;rw[aI zk];rfl
 have g:uy zz4 (uo (A7 A))=some A:=by unfold uy;rw[c];rw[f];exact aL ⟨Z,Z,Z⟩
 unfold xe;rw[aI (code_ne _),g];exact aL Z
theorem said_snoc {ps:List Bytes} (h:ps≠[]) {s:Ax} (hs:Dh ps=some s) (c:Bytes):Dh (ps++[c])=uy s c:=by
 cases ps with
 |nil=>exact absurd Z h
 |cons b l=>
  have hs:l.foldl (λs x=>s.bind λs=>uy s x) (xe b)=some s:=hs
  show(l++[c]).foldl _ (xe b)=_
  rw[List.foldl_append,hs]
  rfl
inductive Pl where
  | stay (e : Int)
  | app (c : Bytes) (A : Ax)
  | ckp (c : Bytes) (A : Ax)
def Pl.run (W : Wl) (s : Ax) : Pl -> Sd × Int
  | .stay e => (⟨W, s⟩, e)
  | .app c A => (⟨(W.append c).1, if (W.append c).2 = 0 then A else s⟩, (W.append c).2)
  | .ckp c A => (⟨(W.ji c).1, if (W.ji c).2 = 0 then A else s⟩, (W.ji c).2)
structure xx4 (A : Ax) (n : Nat) : Prop where
  ok : A.Ok
  ins : AllIn A
  few : A.row.length <= n
def Pl.Good (s : Ax) (n : Nat) : Pl -> Prop
  | .stay e => e ≠ 9
  | .app c A => uy s c = some A /\ xx4 A n
  | .ckp c A => xe c = some A /\ xx4 A n
theorem anew_pl {s A:Ax} {n:Nat} (hA:xx4 A n):∃p:Pl,p.Good s n/\∀W:Wl,C0 ⟨W,s⟩ A=p.run W s:=by
 by_cases h:4096<A.row.length\/40000<(uo (A7 A)).length;exact⟨.stay 6,(by decide:(6:Int)≠9),λW=>aL h⟩
 exact⟨.ckp (uo (A7 A)) A,⟨said_all hA.ok hA.ins zk,hA⟩,λW=>aI h⟩
theorem after_in {s:Ax} {b:Ap} (hs:AllIn s) (hi:∀o∈b.objs,ub o):AllIn (jp s b).1:=by
 by_cases h0:(jp s b).2.2=0;obtain⟨p,v,c,g,h,e⟩:=xq1 h0;rw[e];obtain⟨m,d,_,f,_⟩:=yq7 b.objs c;intro o a;rw[d] at a;rcases aS.1 a with a|a;exact hs o a;exact hi o (f.subset a);rw[(yv5 h0).1];exact hs
theorem after_num (s:Ax) (b:Ap):(jp s b).2.2≠9:=by
 unfold jp;split;exact(by decide:(4:Int)≠9)
 split;exact(by decide:(200:Int)≠9)
 split;exact(by decide:(6:Int)≠9)
 exact(by decide:(0:Int)≠9)
theorem commit_pl {s:Ax} {n:Nat} (hs:xx4 s n) {b:Ap} (hi:∀o∈b.objs,ub o) (size used:Nat):∃p:Pl,p.Good s (n+b.objs.length)/\∀W:Wl,W.broken=false->W.size=size->W.used=used->vi ⟨W,s⟩ b=p.run W s:=by
 by_cases hm:Bx b;by_cases h0:(jp s b).2.2≠0\/((jp s b).2.1.objs=[]/\(jp s b).2.1.sets=[])
 exact⟨.stay (jp s b).2.2,after_num s b,λW a _ _=>by
  unfold vi
  rw[aI (by dsimp only;rw[a];decide),aI (λe=>e hm)]
  exact aL h0⟩
 have c:(jp s b).2.2=0:=Decidable.byContradiction λe=>h0 (.inl e);have g:xx4 (jp s b).1 (n+b.objs.length):=⟨(xv4 hs.ok hm).1,after_in hs.ins hi,by have:=(xv4 hs.ok hm).2;have:=hs.few;omega⟩
 have h:∀W:Wl,W.broken=false->vi ⟨W,s⟩ b=zz0 ⟨W,s⟩ (jp s b).1 (uo (jp s b).2.1):=λW a=>by unfold vi;rw[aI (by dsimp only;rw[a];decide),aI (λe=>e hm)];exact aI h0
 by_cases hl:(uo (jp s b).2.1).length<=40000/\(jo (uo (jp s b).2.1).length:Int)<=(size:Int)-used;exact⟨.app (uo (jp s b).2.1) (jp s b).1,⟨said_fresh hm hi c,g⟩,λW a d f=>(h W a).trans (aL (by dsimp only;rw[d,f];exact hl))⟩
 obtain⟨p,i,j⟩:=anew_pl (s:=s) g;exact⟨p,i,λW a d f=>((h W a).trans (aI (by dsimp only;rw[d,f];exact hl))).trans (j W)⟩
 exact⟨.stay 2,(by decide:(2:Int)≠9),λW a _ _=>by
  unfold vi
  rw[aI (by dsimp only;rw[a];decide)]
  exact aL hm⟩
theorem kept_in {s : Ax} (h : AllIn s) (roots : List B7) : AllIn (Dj s roots) := λo ho => h o (List.mem_filter.1 ho).1
theorem sweep_pl {s:Ax} {n:Nat} (hs:xx4 s n) (roots:List B7):∃p:Pl,p.Good s n/\∀W:Wl,W.broken=false->(B4 ⟨W,s⟩ roots).1=(p.run W s).1/\(B4 ⟨W,s⟩ roots).2.2=(p.run W s).2:=by
 by_cases hr:∀r∈roots,r∈qi s.row
 ·have b:xx4 (Dj s roots) n:=⟨kept_ok hs.ok roots,kept_in hs.ins roots,al (List.length_filter_le ..) hs.few⟩
  obtain⟨p,c,d⟩:=anew_pl (s:=s) b
  exact⟨p,c,λW a=>by
   unfold B4
   rw[aI (by dsimp only;rw[a];decide),aI (λe=>e hr),<-d W]
   exact⟨Z,Z⟩⟩
 exact⟨.stay 4,(by decide:(4:Int)≠9),λW a=>by
  unfold B4
  rw[aI (by dsimp only;rw[a];decide),aL hr]
  exact⟨Z,Z⟩⟩
structure Liv (a S m n : Nat) (X : Sd) : Prop where
  wl : Wl.Ok X.W
  dk : X.W.D.Ok m
  calm : Calm X.W.D
  size : X.W.size = a
  well : X.W.broken = false
  firm : Firm X.W S
  next : Nexts X.W
  sto : xx4 X.s n
  said : Dh X.W.pieces = some X.s
theorem Liv.mono {a S m m' n n':Nat} {X:Sd} (h:Liv a S m n X) (hm:m<=m') (hn:n<=n'):Liv a S m' n' X:=⟨h.wl,h.dk.mono hm,h.calm,h.size,h.well,h.firm,h.next,⟨h.sto.ok,h.sto.ins,al h.sto.few hn⟩,h.said⟩
theorem liv_start {a:Nat} (ha:4<=a/\a<=1000):(uj (kj.fresh (2+2*a)) (a:Int)).2=0/\Liv a (2+2*a) 6000 0 ⟨Wl.fresh (uj (kj.fresh (2+2*a)) (a:Int)).1 a,zz4⟩:=by
 have b:(kj.fresh (2+2*a)).Ok 0:=kj.Ok.fresh zk;obtain⟨c,d⟩:=formatW_calm (fresh_calm0 (2+2*a)) ha (by simp[kj.fresh]);have e:=(formatW_ok b (a:Int)).1;obtain⟨f,g⟩:=start_firm ha;exact⟨c,(format_fine c b).1,e.mono zk,d,Z,Z,f,g,⟨yv1,λo h=>(by cases h),aJ _⟩,Z⟩
theorem calm_not9 {W:Wl} (h:Calm W.D) (hW:Wl.Ok W) (c:Bytes):(W.append c).2≠9/\(W.ji c).2≠9:=by
 refine⟨?_,?_⟩;rw[(xj3 h hW c).1];rcases Dn W c ((W.size:Int)-W.used) with e|e;rw[e.1];decide;exact e.2;rw[(ckp_calm h hW c _ Z).1];rcases Dn W c (if W.turn=4294967295 then 0 else(W.size:Int)) with e|e;rw[e.1];decide;exact e.2
theorem Liv.run {a S m n n':Nat} {X:Sd} (h:Liv a S m n X) (hn:n<=n') {p:Pl} (hp:p.Good X.s n'):Liv a S (m+2000) n' (p.run X.W X.s).1/\(p.run X.W X.s).2≠9/\((p.run X.W X.s).2≠0->(p.run X.W X.s).1.s=X.s):=by
 cases p with
 |stay e=>exact⟨h.mono zk hn,hp,λ_=>rfl⟩
 |app c A=>
  have g:=(calm_not9 h.calm h.wl c).1;have b:=xw2 h.dk h.wl c;obtain⟨i,j,k,v,l,t⟩:=xj3 h.calm h.wl c;refine⟨?_,g,λe=>aI e⟩;rcases app_fate h.dk h.calm.alive h.firm h.next c with⟨d,o,f,q,u,r⟩|⟨d,o,f⟩|⟨d,_⟩;have e:Pl.run X.W X.s (.app c A)=(⟨(X.W.append c).1,A⟩,(X.W.append c).2):=by show(Sd.mk _ _,_)=_;rw[aL d]
  rw[e];refine⟨b.2,b.1,j,k.trans h.size,?_,f,r,hp.2,?_⟩;show(X.W.append c).1.broken=false;rw[i] at d;rw[l d];show Dh (X.W.append c).1.pieces=some A;rw[q,said_snoc h.wl.some h.said];exact hp.1;have e:Pl.run X.W X.s (.app c A)=(X,(X.W.append c).2):=by show(Sd.mk _ _,_)=_;rw[aI d,f]
  rw[e];exact h.mono zk hn;exact absurd d g
 |ckp c A=>
  have g:=(calm_not9 h.calm h.wl c).2;have b:=ckp_fine h.dk h.wl c;obtain⟨i,j,k,l,t⟩:=ckp_calm h.calm h.wl c _ Z;refine⟨?_,g,λe=>aI e⟩;rcases ckp_fate h.dk h.calm.alive h.firm h.next c with⟨d,o,f,q,u,r⟩|⟨d,o,f⟩|⟨d,_⟩;have e:Pl.run X.W X.s (.ckp c A)=(⟨(X.W.ji c).1,A⟩,(X.W.ji c).2):=by show(Sd.mk _ _,_)=_;rw[aL d]
  rw[e];refine⟨b.2,b.1,j,k.trans h.size,?_,f,r,hp.2,?_⟩;show(X.W.ji c).1.broken=false;rw[i] at d;rw[l d];show Dh (X.W.ji c).1.pieces=some A;rw[q];exact hp.1;have e:Pl.run X.W X.s (.ckp c A)=(X,(X.W.ji c).2):=by show(Sd.mk _ _,_)=_;rw[aI d,f]
  rw[e];exact h.mono zk hn;exact absurd d g
theorem Liv.commit {a S m n:Nat} {X:Sd} (h:Liv a S m n X) {b:Ap} (hi:∀o∈b.objs,ub o):Liv a S (m+2000) (n+b.objs.length) (vi X b).1/\((vi X b).2≠0->(vi X b).1.s=X.s):=by
 obtain⟨p,c,d⟩:=commit_pl h.sto hi X.W.size X.W.used;have e:vi X b=p.run X.W X.s:=d X.W h.well Z Z;rw[e];have k:=h.run (Nat.le_add_right _ _) c;exact⟨k.1,k.2.2⟩
theorem Liv.sweep {a S m n:Nat} {X:Sd} (h:Liv a S m n X) (roots:List B7):Liv a S (m+2000) n (B4 X roots).1/\((B4 X roots).2.2≠0->(B4 X roots).1.s=X.s):=by
 obtain⟨p,d,e⟩:=sweep_pl h.sto roots
 obtain⟨b,c⟩:=e X.W h.well
 have k:=h.run (aB _) d
 have b:(B4 X roots).1=(p.run X.W X.s).1:=b
 have c:(B4 X roots).2.2=(p.run X.W X.s).2:=c
 rw[b,c]
 exact⟨k.1,k.2.2⟩
theorem Liv.down {a S m n:Nat} {X:Sd} (h:Liv a S m n X):Down X.W.D m S X.W.turn a X.W.pieces:=
 ⟨h.dk,h.calm,h.firm.rest,h.firm.secs,by have:=h.firm.told;rw[h.size] at this;exact this,by have:=h.firm.tail.no h.firm.told.lt;rw[h.size] at this;exact this⟩
theorem open_down {D:kj} {m S t n:Nat} {ps:List Bytes} (h:Down D m S t n ps) {s:Ax} (hs:Dh ps=some s):∃D',Cs D=(D',0,some ⟨upW D' t n ps,s⟩)/\Down D' (m+5000) S t n ps/\Wl.Ok (upW D' t n ps):=by
 obtain⟨D',e,a,d,b,c⟩:=h.opens;refine⟨D',?_,a,b⟩;unfold Cs;rw[aI (by rw[e];exact λk=>k Z),c];show(match Dh ps with|none=>_|some s=>_)=_;rw[hs,e]
theorem open_armed {D:kj} {m S t n:Nat} {ps:List Bytes} (h:Down D m S t n ps) {s:Ax} (hs:Dh ps=some s) {k:Nat} (hk:k<1000000):
  (Cs {D with fuse:=(k:Int)}).1.Ok (m+5000)/\((Cs {D with fuse:=(k:Int)}).2.1=0\/(Cs {D with fuse:=(k:Int)}).2.1=9)/\∀keep,Down ((Cs {D with fuse:=(k:Int)}).1.vm keep) (m+5000) S t n ps:=by
 obtain⟨b,c,d⟩:=h.armed hk;have f:=(open_fate (D:={D with fuse:=(k:Int)}) (zj1 h.ok hk) h.calm.alive h.rest h.secs h.told h.no).1
 have e:(Cs {D with fuse:=(k:Int)}).1=(u4 {D with fuse:=(k:Int)}).1/\(Cs {D with fuse:=(k:Int)}).2.1=(u4 {D with fuse:=(k:Int)}).2.1:=by
  unfold Cs;split;exact⟨Z,Z⟩
  rename_i a;have a:=aT.1 a;have g:(Wl.opened (u4 {D with fuse:=(k:Int)})).pieces=ps:=by show(u4 {D with fuse:=(k:Int)}).2.2.2.2=ps;rw[f]
  rw[g,hs];exact⟨Z,a.symm⟩
 rw[e.1,e.2];exact⟨b,c,d⟩
theorem Liv.ends {a S m n n':Nat} {X:Sd} (h:Liv a S m n X) (hn:n<=n') {p:Pl} (hp:p.Good X.s n') {W2:Wl} (c2:Calm W2.D) (k2:Wl.Ok W2) (e1:W2.size=X.W.size) (e2:W2.used=X.W.used) (e3:W2.broken=X.W.broken) (e4:W2.turn=X.W.turn) {k:Nat} (hk:k<1000000) (keep:List Bool):
  let r:=p.run (B8 X.W k) X.s
  let r2:=p.run W2 X.s
  r.1.W.D.Ok (m+2000)/\(r.2=r2.2\/r.2=9)/\∃t d got,Down (r.1.W.D.vm keep) (m+2000) S t a d/\Dh d=some got/\xx4 got n'/\((r.2≠0/\got=X.s)\/(r2.2=0/\got=r2.1.s)):=by
 have z:=h.size;have f:=zj1 h.dk hk;have v:yl (B8 X.W k).D:=h.calm.alive;have w:=h.firm.armed k;have j:=h.wl.armed k;have B:xx4 X.s n':=⟨h.sto.ok,h.sto.ins,al h.sto.few hn⟩
 cases p with
 |stay e=>
  refine⟨f.mono zk,.inl Z,X.W.turn,X.W.pieces,X.s,?_,h.said,B,?_⟩;have G:=h.down;have M:=crash_same (D:=(B8 X.W k).D) f h.firm.rest keep;exact(zj5 (D:=(B8 X.W k).D) f h.firm.secs keep ⟨G.told.same λi _=>M i,G.no.wiped (λi _ _=> .inl (M i)) G.told.lt⟩).mono zk;by_cases l:e=0;exact .inr ⟨l,Z⟩;exact .inl ⟨l,Z⟩
 |app c A=>
  have H:=app_fate f v w h.next c;obtain⟨C,N⟩:=xw2 f j c;have x:((B8 X.W k).append c).1.D.secs.length=S:=(app_secs _ _).trans h.firm.secs;obtain⟨t,d,q,J,K,L⟩:=H.down w C x keep;have y:W2.refuses c ((W2.size:Int)-W2.used)=(B8 X.W k).refuses c (((B8 X.W k).size:Int)-(B8 X.W k).used):=by unfold Wl.refuses;rw[e1,e2,e3];rfl
  have o:(W2.append c).2=(B8 X.W k).refuses c (((B8 X.W k).size:Int)-(B8 X.W k).used):=((xj3 c2 k2 c).1).trans y;have b:=app_err v j c;rw[show(B8 X.W k).size=a from z] at q;have u:Dh ((B8 X.W k).pieces++[c])=some A:=(said_snoc h.wl.some h.said c).trans hp.1;refine⟨C,?_,?_⟩;show((B8 X.W k).append c).2=(W2.append c).2\/_=_;rw[o];exact b.imp id And.left;show∃t d got,Down (((B8 X.W k).append c).1.D.vm keep) (m+2000) S t a d/\Dh d=some got/\xx4 got n'/\((((B8 X.W k).append c).2≠0/\got=X.s)\/((W2.append c).2=0/\got=if(W2.append c).2=0 then A else X.s));by_cases hr0:((B8 X.W k).append c).2=0;have l:(W2.append c).2=0:=by rw[o];rcases b with e|e;rw[<-e];exact hr0;exact e.2
  exact⟨t,d,A,q,by rw[J hr0];exact u,hp.2,.inr ⟨l,(aL l).symm⟩⟩
  by_cases hr9:((B8 X.W k).append c).2=9;have l:(W2.append c).2=0:=by rw[o];rcases b with e|e;rw[<-e] at o;rw[hr9] at o;exact absurd o (calm_not9 c2 k2 c).1;exact e.2
  rcases L with g|g;exact⟨t,d,X.s,q,by rw[g];exact h.said,B,.inl ⟨hr0,Z⟩⟩
  exact⟨t,d,A,q,by rw[g];exact u,hp.2,.inr ⟨l,(aL l).symm⟩⟩
  exact⟨t,d,X.s,q,by rw[K hr0 hr9];exact h.said,B,.inl ⟨hr0,Z⟩⟩
 |ckp c A=>
  have H:=ckp_fate f v w h.next c;obtain⟨C,N⟩:=ckp_fine f j c;have x:((B8 X.W k).ji c).1.D.secs.length=S:=(ckp_secs _ _).trans h.firm.secs;obtain⟨t,d,q,J,K,L⟩:=Fate.down (ps':=[c]) H w C x keep;obtain⟨F,E⟩:∃r,r=(B8 X.W k).refuses c (if(B8 X.W k).turn=4294967295 then 0 else((B8 X.W k).size:Int)):=⟨_,Z⟩
  have y:F=W2.refuses c (if W2.turn=4294967295 then 0 else(W2.size:Int)):=by rw[E];unfold Wl.refuses;rw[e1,e3,e4];rfl
  have o:(W2.ji c).2=F:=(ckp_calm c2 k2 c F y).1;have b:=ckp_err v j c F E;rw[show(B8 X.W k).size=a from z] at q;refine⟨C,?_,?_⟩;show((B8 X.W k).ji c).2=(W2.ji c).2\/_=_;rw[o];exact b.imp id And.left;show∃t d got,Down (((B8 X.W k).ji c).1.D.vm keep) (m+2000) S t a d/\Dh d=some got/\xx4 got n'/\((((B8 X.W k).ji c).2≠0/\got=X.s)\/((W2.ji c).2=0/\got=if(W2.ji c).2=0 then A else X.s));by_cases hr0:((B8 X.W k).ji c).2=0;have l:(W2.ji c).2=0:=by rw[o];rcases b with e|e;rw[<-e];exact hr0;exact e.2
  exact⟨t,d,A,q,by rw[J hr0];exact hp.1,hp.2,.inr ⟨l,(aL l).symm⟩⟩
  by_cases hr9:((B8 X.W k).ji c).2=9;have l:(W2.ji c).2=0:=by rw[o];rcases b with e|e;rw[<-e] at o;rw[hr9] at o;exact absurd o (calm_not9 c2 k2 c).2;exact e.2
  rcases L with g|g;exact⟨t,d,X.s,q,by rw[g];exact h.said,B,.inl ⟨hr0,Z⟩⟩
  exact⟨t,d,A,q,by rw[g];exact hp.1,hp.2,.inr ⟨l,(aL l).symm⟩⟩
  exact⟨t,d,X.s,q,by rw[K hr0 hr9];exact h.said,B,.inl ⟨hr0,Z⟩⟩
def Shp (w w' : World) : Prop := ∀ b T L, j0 w b T L -> ∃ L', j0 w' b T L' /\ L'.length = L.length /\ (T = 5 -> ∀ (i : Nat) (x : UInt8), L[i]? = some (yk x) -> ∃ y : UInt8, L'[i]? = some (yk y))
theorem Shp.refl (w : World) : Shp w w := λ_ _ L h => ⟨L, h, rfl, λ_ _ x h => ⟨x, h⟩⟩
theorem Shp.trans {w u u':World} (h:Shp w u) (k:Shp u u'):Shp w u':=λb T L a=>by
 obtain⟨c,d,f,g⟩:=h b T L a
 obtain⟨j,l,m,n⟩:=k b T c d
 exact⟨j,l,m.trans f,λe i x o=>by obtain⟨y,p⟩:=g e i x o;exact n e i y p⟩
theorem Shp.no {w u u' : World} (h : Shp w u) (hE : Ext No u u') : Shp w u' := h.trans λ_ _ L hb => ⟨L, hb.ga hE, rfl, λ_ _ x h => ⟨x, h⟩⟩
theorem Shp.one {w u u':World} {b T:Nat} {L L':List Value} (h:Shp w u) (hE:Ext (One b) u u') (hb:j0 u b T L) (hb':j0 u' b T L') (hl:L'.length=L.length) (hv:T=5->∀(i:Nat) (x:UInt8),L[i]? =some (yk x)->∃y:UInt8,L'[i]? =some (yk y)):Shp w u':=h.trans λc U M a=>by
 by_cases e:c=b
 ·subst e
  obtain⟨rfl,rfl⟩:=a.uniq hb
  exact⟨L',hb',hl,hv⟩
 exact⟨M,a.gk hE e,Z,λ_ _ x h=>⟨x,h⟩⟩
def OwnX (w : World) (p : Option Addr) (n c T sz : Nat) : Prop := ∃ xs, Own w p n c T sz xs
theorem OwnX.shp {w u:World} {p:Option Addr} {n c T sz:Nat} (h:OwnX w p n c T sz) (k:Shp w u):OwnX u p n c T sz:=by
 obtain⟨a,h|⟨b,l,d,e,m,f,g,o⟩⟩:=h;exact⟨a,.inl h⟩
 obtain⟨i,j,q,_⟩:=k b T l e;exact⟨_,.inr ⟨b,i,d,j,by omega,f,g,Z⟩⟩
abbrev ObjF (a : x9) : Nat -> Prop := λy => jb a.lp y \/ jb a.pp y \/ jb a.rp y
theorem st_clX {P:Program} {I:uh} {f:Fs} {ops:Array Oper} {o:Oper} {env:Env} {w:World} {K:Env->World->Prop} (hI:I.Ok P) {s:ClArgs} (h:clE I f.n ops env o=some s) {zs:List Value} (hz:cellsOf s.g.zero=zs) (hzl:0<zs.length) (h1:∀v∈zs,v.oneCell'=true) {c T:Nat} (hT:T≠5) (ho:OwnX w s.p s.n c T zs.length)
  (k:∀w',Ext (jb s.p) w w'->Shp w w'->K env w'):St P f ops o env w K:=by
 obtain⟨r,ho⟩:=ho;refine st_cl hI h hz hzl h1 (λ_=>k w (Ext.refl _ _) (Shp.refl _)) λt=>?_;rcases ho with⟨_,u,_⟩|⟨b,l,i,j,q,a,x,z⟩;omega;refine⟨b,0,T,l,i,j,?_,λw' d m A=>k w' (m.mono λy _ e=>?_) ((Shp.refl w).one m j d (vz _ _ _) λe=>absurd e hT)⟩;rw[q,aV];exact cC _ a;have e:y=b:=e;rw[i,e]
abbrev overS : Str := [111, 118, 101, 114]
theorem scratch_calls (w:World) {x:jm} {a:x9} (hx:ub x) (hl:OwnX w a.lp x.leaves.length a.lc 148 33) (hp:OwnX w a.pp x.parents.length a.pc 30 32) (hr:OwnX w a.rp x.rows.length a.rc 150 3) (h1:x.leaves.length<1000000000) (h2:x.parents.length<1000000000) (h3:x.rows.length<1000000000):
  gn prog 81 [.agg (km x a).toArray] w λv w'=>v= .tuple #[]/\Ext (ObjF a) w w'/\Shp w w':=by
 obtain⟨lp,lc,pp,pc,rp,rc⟩:=a;refine gz func81 ?_;have g:=Ext.refl (ObjF ⟨lp,lc,pp,pc,rp,rc⟩) w;have c:=Shp.refl w;refine qr (gt Z λt J K b p=>?_);have c:=c.no p;have g:=g.gb p;have b:j0 J t 37 (km x ⟨lp,lc,pp,pc,rp,rc⟩):=b;refine u3 (gp (qj Z (gx Z (b.ql.obj hx).leaves (kg Z (j8 (jl (α:=Nat) [1,6] Z (λz=>[(7,.int .i64 (z:Int))]) (λz u=>(z<=x.leaves.length/\Shp w u)/\j0 u t 37 (km x ⟨lp,lc,pp,pc,rp,rc⟩)/\Ext (ObjF ⟨lp,lc,pp,pc,rp,rc⟩) w u) (λz u=>x.leaves.length-z) (0) Z ⟨⟨aJ _,c⟩,b,g⟩ ?_))))));rintro i Q ⟨⟨A,c⟩,b,g⟩;refine vo Z (jy Z (λB=>?_) (λB=>?_));have A:i<x.leaves.length:=by omega
 obtain⟨M,l⟩:=hl.shp c;obtain⟨bl,L,e,d,C,m,D,E⟩:=l.opened zk;subst e;refine Bn (kw Z (yy Z (gx Z (b.ql.obj hx).leaves (j6 ge Z (u1 Z ⟨⟨Z,by decide⟩,trivial⟩ (l':=jn.cells ⟨overS,idZ⟩) zf (ki Z 33 Z i Z A (0+i*33) Z ?_))))));rw[aV];have f:=d;have j:=g;refine wl (Ci ge d Z (by rw[jc];rfl) (by show i*33+33<=_;rw[C];have:=cC 33 m;omega) (by rw[jc];exact OneC.h) λR d n N=>?_);have b:=b.gk n (b.ne f zd);have g:=j.trans n λy H q=> .inl (by rw[show y=bl from q]);have c:=c.one n f d (vz _ _ _) (λe=>absurd e zd);refine gl (Bi Z ?_);rw[qc _ zk];exact gl (jh (i+1) Z ⟨⟨A,c⟩,b,g⟩ zm);refine xt (qs (qs (ux (jq (qj Z (gx Z (b.ql.obj hx).parents ?_))))));have j:=g;obtain⟨O,r⟩:=hp.shp c;refine wl (st_clX ge Z Dd.symm zd OneC.h zd ⟨O,r⟩ λS s F=> have b:=b.qg r s zd;have c:=c.trans F;have g:=j.trans s λy H q=> .inr (.inl q);u3 (qj Z (gx Z (b.ql.obj hx).rows (kg Z (j8 (jl (α:=Nat) [1,21] Z (λz=>[(22,.int .i64 (z:Int))]) (λz u=>(z<=x.rows.length/\Shp w u)/\j0 u t 37 (km x ⟨lp,lc,pp,pc,rp,rc⟩)/\Ext (ObjF ⟨lp,lc,pp,pc,rp,rc⟩) w u) (λz u=>x.rows.length-z) (0) Z ⟨⟨aJ _,c⟩,b,g⟩ ?_))))));rintro k T ⟨⟨G,c⟩,b,g⟩;refine vo Z (jy Z (λB=>?_) (λB=>?_));have G:k<x.rows.length:=by omega
 obtain⟨M,l⟩:=hr.shp c;obtain⟨bl,L,e,d,C,m,D,E⟩:=l.opened zk;subst e;refine Bn (kw Z (yy Z (gx Z (b.ql.obj hx).rows (j6 ge Z (u1 Z ⟨⟨Z,by decide⟩,trivial⟩ (l':=vb.cells ⟨overS,false,[]⟩) zf (ki Z 3 Z k Z G (0+k*3) Z ?_))))));rw[aV];have f:=d;have j:=g;refine wl (Ci ge d Z (by rw[jc];rfl) (by show k*3+3<=_;rw[C];have:=cC 3 m;omega) (by rw[jc];exact OneC.h) λU d o P=>?_);have b:=b.gk o (b.ne f zd);have g:=j.trans o λy H q=> .inr<| .inr (by rw[show y=bl from q]);have c:=c.one o f d (vz _ _ _) (λe=>absurd e zd);refine gl (Bi Z ?_);rw[qc _ zk];exact gl (jh (k+1) Z ⟨⟨G,c⟩,b,g⟩ zm);exact xt (qs (qs (ux (zz Z ⟨Z,g,c⟩))))
structure StoNew (W u : World) (s : Cu) : Prop where
  row : ky W u s.rp s.hs.length s.rc 126 105 (s.hs.flatMap uv)
  vals : ky W u s.vp s.vs.length s.vc 221 2 (s.vs.flatMap xb)
  o : ∀ x ∈ s.hs, yr W u x
  v : ∀ x ∈ s.vs, ky W u x.2.1 x.1.2.length x.2.2 5 1 (gh x.1.2) /\ x.1.1.length < 1000000000 /\ x.1.2.length < 1000000000
  few : s.hs.length < 1000000
  fev : s.vs.length < 1000000
theorem StoNew.at {W u:World} {s:Cu} (h:StoNew W u s):StoAt u s:=⟨h.row.sl,h.vals.sl,λx a=>⟨(h.o x a).id,(h.o x a).ok,(h.o x a).new.l⟩,λx a=>⟨(h.v x a).1.sl,(h.v x a).2.1,(h.v x a).2.2⟩,h.few,h.fev⟩
theorem wrap_byte1 (x:UInt8):IntKind.u8.wrap ((x.toNat:Int)+1)=((UInt8.ofNat (x.toNat+1)).toNat:Int):=zv4 (x:=(x.toNat:Int)+1) zk
def De (k : Nat) : B7 := [UInt8.ofNat (k % 256), UInt8.ofNat (k / 256)] ++ List.replicate 30 0
theorem freeI_len (k : Nat) : vd (De k) := rfl
theorem u8_inj {a b:Nat} (ha:a<256) (hb:b<256) (h:UInt8.ofNat a=UInt8.ofNat b):a=b:=by
 have:=congrArg UInt8.toNat h;rwa [UInt8.toNat_ofNat',UInt8.toNat_ofNat',Nat.mod_eq_of_lt ha,Nat.mod_eq_of_lt hb] at this
theorem freeI_inj {i j:Nat} (hi:i<65536) (hj:j<65536) (h:De i=De j):i=j:=by
 have h:=List.append_inj_left h Z;have a:=u8_inj (Nat.mod_lt _ zd) (Nat.mod_lt _ zd) (List.cons.inj h).1;have b:=u8_inj zk zk (List.cons.inj (List.cons.inj h).2).1;omega
theorem len_of_sub {α:Type} [DecidableEq α]:∀{l m:List α},l.Nodup->(∀x∈l,x∈m)->l.length<=m.length
 | [],_,_,_=>aJ _
 |a::l,m,hd,hs=>by
  have hd:=List.nodup_cons.1 hd
  have b:=hs a (dl ..)
  have d:=len_of_sub (l:=l) (m:=m.erase a) hd.2 λx c=>(List.mem_erase_of_ne (λe:x=a=>hd.1 (by rw[<-e];exact c))).2 (hs x (cM _ c))
  have e:=List.length_erase_of_mem b
  have:0<m.length:=List.length_pos_of_mem b
  rw[aQ]
  omega
theorem free_le {ids:List B7} {k:Nat} (hk:k<65536) (h:∀j,j<k->De j∈ids):k<=ids.length:=by
 have e:=len_of_sub (l:=(List.range k).map De) (m:=ids) (List.Pairwise.map _ (R:=λa b=>a≠b/\a<65536/\b<65536) (λa b e c=>e.1 (freeI_inj e.2.1 e.2.2 c)) (List.Pairwise.imp_of_mem (λ{a b} d f e=>⟨e,by have:=List.mem_range.1 d;omega,by have:=List.mem_range.1 f;omega⟩) List.nodup_range)) λx g=>by obtain⟨j,i,rfl⟩:=aZ.1 g;exact h j (List.mem_range.1 i)
 simpa using e
theorem free_get0 (k : Nat) : (gh (De k))[0]? = some (yk (UInt8.ofNat (k % 256))) := rfl
def freeJ (k : Nat) : B7 := [UInt8.ofNat (k % 256 + 1), UInt8.ofNat (k / 256)] ++ List.replicate 30 0
theorem free_same {k:Nat} (h:UInt8.ofNat (k%256+1)≠0):freeJ k=De (k+1):=by
 have b:k%256+1<256:=by
  rcases bC (k%256+1) 256 with a|a;exact a;have:k%256+1=256:=by have:=Nat.mod_lt k (by decide:0<256);omega
  rw[this] at h;exact absurd Z h
 unfold freeJ De;rw[show(k+1)%256=k%256+1 from by omega,show(k+1)/256=k/256 from by omega]
theorem free_next {k:Nat} (h:UInt8.ofNat (k%256+1)=0):[UInt8.ofNat (k%256+1),UInt8.ofNat (k/256+1)]++List.replicate 30 0=De (k+1):=by
 have c:k%256+1=256:=by have d:=Nat.mod_lt k (by decide:0<256);rcases bC (k%256+1) 256 with a|a;have:=u8_inj (b:=0) a zd h;omega;omega
 unfold De;rw[show(k+1)%256=0 from by omega,show(k+1)/256=k/256+1 from by omega,c];rfl
theorem u8_succ (a:Nat):UInt8.ofNat ((UInt8.ofNat a).toNat+1)=UInt8.ofNat (a+1):=by
 apply UInt8.toNat_inj.1;rw[UInt8.toNat_ofNat',UInt8.toNat_ofNat',UInt8.toNat_ofNat'];omega
theorem ids_nodup:∀{l b:List jm},Ahead b l->(∀o∈l,vv o∉qi b)/\(qi l).Nodup
 | [],_,_=>⟨λ_ h=>(by cases h),List.nodup_nil⟩
 |o::r,b,h=>by
  obtain⟨h1,h2⟩:=h
  obtain⟨c,d⟩:=ids_nodup h2
  have e:qi (b++[o])=qi b++[vv o]:=by simp[qi]
  refine⟨λx a=>(List.mem_cons.1 a).elim (λe=>e▸h1.1) λa f=>c x a (by rw[e];exact List.mem_append_left _ f),List.nodup_cons.2 ⟨λg=>?_,d⟩⟩
  obtain⟨x,a,i⟩:=aZ.1 g
  exact c x a (by rw[e,i];exact List.mem_append_right _ (aF.2 Z))
theorem ids_inj {l:List jm} (h:(qi l).Nodup) {x y:jm} (hx:x∈l) (hy:y∈l) (e:vv x=vv y):x=y:=by
 induction l with
 |nil=>cases hx
 |cons a r ih=>
  have h:=List.nodup_cons.1 (show(vv a::qi r).Nodup from h);rcases List.mem_cons.1 hx with rfl|b<;>rcases List.mem_cons.1 hy with rfl|c;rfl;exact(h.1 (by rw[e];exact cW c)).elim;exact(h.1 (by rw[<-e];exact cW b)).elim;exact ih h.2 b c
theorem val_at {l:List Am} (h:Ai l) {i:Nat} (hi:i<l.length):zx2 l l[i].1=some l[i].2:=by
 unfold zx2
 obtain⟨v,b⟩:∃v,l.find? (λv=>decide (v.1=l[i].1))=some v:=by
  cases e:l.find? (λv=>decide (v.1=l[i].1)) with
  |some v=>exact⟨v,Z⟩
  |none=>
   have:=List.find?_eq_none.1 e _ (aC hi);simp at this
 have a:=List.find?_some b;have g:=List.mem_of_find?_eq_some b;obtain⟨j,d,rfl⟩:=bG.1 g;have a:l[j].1=l[i].1:=cQ a;have f:=List.pairwise_iff_getElem.1 h;have c:j=i:=by rcases Nat.lt_trichotomy j i with k|k|k;have:=f j i d hi k;rw[a] at this;exact absurd this (xq2 _);exact k;have:=f i j hi d k;rw[a] at this;exact absurd this (xq2 _)
 subst c;rw[b];rfl
theorem row_at {row:List jm} {gs:List je} (hm:gs.map je.o=row) {i:Nat} (hi:i<gs.length):gs[i].o∈row:=by
 rw[<-hm];exact cW (aC hi)
theorem namedZc : cellsOf ti221.zero = [yj [], .slice none 0 0] := by kernel_rfl
theorem named_put (x : Bm) : ym (Df 1 [yj [], .slice none 0 0]) [(0 * (0 + 2), 0 + 2, .agg (xb x).toArray)] = xb x := rfl
theorem free_getJ (k : Nat) : (gh (freeJ k))[0]? = some (yk (UInt8.ofNat (k % 256 + 1))) := rfl
theorem free_getK (k : Nat) : (gh (freeJ k))[1]? = some (yk (UInt8.ofNat (k / 256))) := rfl
abbrev longS : Str := [97, 32, 110, 97, 109, 101, 32, 116, 104, 97, 116, 32, 105, 115, 32, 108, 111, 110, 103, 101, 114, 32, 116, 104, 97, 110, 32, 97, 110, 121, 32, 116, 104, 97, 116, 32, 116, 104, 101, 114, 101, 32, 105, 115]
theorem val_long {s:Ax} (h:s.Ok):zx2 s.vals longS=none:=by
 unfold zx2
 rw[List.find?_eq_none.2 λv a e=>by
  have e:v.1=longS:=cQ e
  have k:=(h.vals v a).2.1
  rw[e] at k
  exact absurd k zd]
 rfl
theorem xj7 (w:World) {sp x d:Nat} {F H K:Nat->Prop} {X:Sd} {h:uk} (k:StA w sp x d F H K X h) (hS:Ax.Ok X.s) (hfew:X.s.row.length<60000):
  gn prog 44 [.pointer (some ⟨sp,0,none⟩)] w λv w'=>∃S:Cu,v= .tuple #[S.v,.bool true]/\S.s.row=X.s.row/\S.s.vals=X.s.vals/\StoNew w w' S/\Ext No w w':=by
 have cb:=(ids_nodup hS.ahead).2;refine gz func44 ?_;have g:=Ext.refl No w;refine qr (gt Z λb2 w1 c7 b c8=>?_);have bz:=al g.size c7;have g:=g.gb c8;have b:j0 w1 b2 102 ([.slice none 0 0,.slice none 0 0]):=b;refine kg Z (vo Z (qj Z ?_));have c9:=g;refine gj call19 Z (sheap_calls w1 (k.ga g)) ?_;rintro v2 w2⟨gq,gc,C,rfl,cc,az,P,cd⟩;have b:=b.ga cd;have g:=g.gb cd;have eg:C.length=X.s.row.length:=by rw[<-az,aA]
 obtain⟨wL,bg⟩:∃wL:World,wL=w2:=⟨_,Z⟩
 have E:Ext (One b2) wL w2:=by rw[bg];exact Ext.refl _ _
 have ak:=b;rw[<-bg] at ak;rw[<-bg] at cc P;have ce:w.heap.size<=wL.heap.size:=by rw[bg];exact g.size
 refine wl (st_fd ge Z Z (kg Z (j8 (jl (α:=Nat×Option Addr×Nat) [0,2,19,20] Z (λz=>[(3,.bool true),(21,.int .i64 (z.1:Int))]) (λz u=>(z.1<=C.length/\ky wL u z.2.1 (C.take z.1).length z.2.2 126 105 ((C.take z.1).flatMap uv)/\Ext (One b2) wL u)/\j0 u b2 102 ([.slice z.2.1 (C.take z.1).length z.2.2,.slice none 0 0])/\Ext No w u) (λz u=>C.length-z.1) (0,none,0) Z ⟨⟨aJ _,ky.nil _ _ _ _,E⟩,b,g⟩ ?_))));rintro⟨i,q,c⟩ w3 ⟨⟨hi,B,E⟩,b,g⟩;refine vo Z (jy Z (λhc=>?_) (λhc=>?_));have ag:i<C.length:=by omega
 obtain⟨qb,qo,hp,db⟩:=(cc.gk E ak zd).sl.qm (λx A=>(P x A).len) zk;rw[hp];have Q:=P _ (aC ag);have b1:vd C[i].id:=by rw[Q.id];exact ul _
 have eh:(C.take i).length=i:=by rw[aH];omega
 refine Bn (qr (ki Z 105 Z i Z ag (qo+i*105) Z (jk Z (db i ag) Q.len (have dc:=B;have cf:=E;gt Z λb5 w4 bh G bi=> have b4:=j3 b.lt bh;have dd:=al g.size bh;have b:=b.ga bi;have B:=B.ga bi;have E:=E.gb bi;have g:=g.gb bi;have de:∀y,jb q y->y≠b5:=λy hy=>j3 (dc.own.lt hy) bh;have cg:=al cf.size bh;wl (j9 (l':=uv C[i]) ge G Z Z Q.len (by rw[Q.len];rfl) OneC.h λw5 G bj ei=> have b:=b.gk bj b4;have B:=ky.mk (B.own.ext bj λy hy e=>de y hy e) B.new;have E:=E.gi bj cg;have g:=g.gi bj dd;u3 (qj Z (jk Z (Seg.append.1 G.ql).1 b1.len ?_)))))));obtain⟨wk,b7⟩:∃wk:World,wk=w5:=⟨_,Z⟩
 have M:Ext No wk w5:=by rw[b7];exact Ext.refl _ _
 have ch:=B;have bq:=b;have br:=G;have a0:=E;have bs:=g;rw[<-b7] at ch bq br a0 bs;refine gj call10 Z (sget_calls w5 (k.ga g) (id:=C[i].id) b1) ?_;rintro v6 w6⟨o,a,rfl,ci,cj,bk⟩;have b:=b.ga bk;have G:=G.ga bk;have M:=M.gb bk;have g:=g.gb bk;have bt:C[i].id∈qi X.s.row:=by rw[Q.id];exact cW (row_at az ag)
 obtain⟨dg,dh,R,hN⟩:=ci bt;have di:o=C[i].o:=ids_inj cb dg (row_at az ag) (by rw[dh,Q.id]);subst di;rw[aL bt];rw[<-b7] at hN;refine j6 ge Z (have ck:=M;gt Z λb6 w7 bm ad a1=> have b8:=j3 b.lt bm;have b9:=j3 G.lt bm;have dj:=al g.size bm;have b:=b.ga a1;have G:=G.ga a1;have M:=M.gb a1;have hN:=hN.ga a1;have g:=g.gb a1;have cm:=al ck.size bm;have cp:=ad;wl (j9 (l':=km C[i].o a) ge ad Z Z (gr R.1) (by rw[gr R.1];rfl) OneC.h λw8 ad a2 ej=> have b:=b.gk a2 b8;have G:=G.gk a2 b9;have M:=M.gi a2 cm;have hN:=hN.gk a2 cp zd zd zd;have g:=g.gi a2 dj;kg Z (ju (α:=Unit) [0,2,5,6,19,20,21] Z (λz=>[(3,.bool true)]) (λz u=>(um wk u C[i].o a/\Ext No wk u)/\j0 u b2 102 ([.slice q (C.take i).length c,.slice none 0 0])/\j0 u b5 126 (uv C[i])/\j0 u b6 37 (km C[i].o a)/\Ext No w u) ?_ ?_)));refine j1 (j6 ge Z (ut 33 Z (λhg=>?_) (λhg=>?_)));refine j4 ge 4 Z (jw 37 Z (λhg=>?_) (λhg=>?_));refine jf ad Z (gr R.1) (j4 ge 1 Z (jk Z (by have e:=(Seg.append.1 G.ql).2;rw[gm,b1] at e;exact e) (gr R.1) (gj call17 Z (xz8 w8 R.1 Q.ok.1 hN.l (((P _ (aC ag)).gk (a0.gb M) ak zd zd zd).new.l) R.2) ?_)));rintro v9 w9⟨rfl,av⟩;have b:=b.ga av;have G:=G.ga av;have ad:=ad.ga av;have M:=M.gb av;have hN:=hN.ga av;have g:=g.gb av;rw[bZ Z];refine j6 ge Z (gl ?_);exact j2 (()) Z ⟨⟨hN,M⟩,b,G,ad,g⟩;exact absurd Z hg;cases hg;rintro _ dm ⟨⟨hN,M⟩,b,G,ad,g⟩;refine qr (jf ad Z (gr R.1) (gj call81 Z (scratch_calls dm R.1 ⟨_,hN.ol⟩ ⟨_,hN.op⟩ ⟨_,hN.or⟩ (by have:=R.2.leaves;omega) (by have:=R.2.parents;omega) (by have:=R.2.rows;omega)) λek dn⟨rfl,cr,_⟩=> have a3:Ext No wk dn:=M.newer cr λy e=>e.elim (hN.nl y) λe=>e.elim (hN.np y) (hN.nr y);have B:=ch.ga a3;have b:=bq.ga a3;have G:=br.ga a3;have E:=a0.gb a3;have g:=bs.gb a3;u3 (yy Z (jd b Z Z (jf G Z Q.len (wl (qw ge Z 105 Z heldZ_c (by rw[ao,gm,gr u6];rfl) zd zd ⟨⟨by rw[jc];exact Q.len,by decide⟩,trivial⟩ (l':=uv C[i]) (one_held (h:=C[i]) Q.len) λdp em d6 cs am d7=> have b:=b.ga am;have B:=B.ga am;have E:=E.gb am;have g:=g.gb am;have dq:=g;have dr:=B.new;have ds:=B.own;wl (x3 ge Z 105 224 Z Z Z zd B (Src.slice (m:=1) ⟨Q.len,.inr ⟨dp,0,Z,cs.ql⟩⟩ OneC.h) zn zt (n':=(C.take (i+1)).length) (ys:=(C.take (i+1)).flatMap uv) (by dsimp only;rw[aH,aH];omega) (by rw[aO ag,aY,bL]) E λq c en B a4 ct=>?_))))))));dsimp only at B a4;have b:=b.qg ds a4 (show(126:Nat)≠102 from by decide);have E:=ct;have g:=dq.newer a4 λy hy=>al ce (dr y hy);refine j6 ge Z (have D:=b;have cu:=E;qk b Z Z Z λdt b a5 d8=> have B:=B.gk a5 D zd;have g:=g.gi a5 bz;have b:j0 dt b2 102 ([.slice q (C.take (i+1)).length c,.slice none 0 0]):=b;have E:=cu.then a5;gl (Bi Z ?_));rw[qc _ zk];exact gl (jh (i+1,q,c) Z ⟨⟨ag,B,E⟩,b,g⟩ zm);have h0:i=C.length:=by omega
 subst h0;rw[bM] at B b;have f:∀x∈C,yr w w3 x:=λx A=>by have e:=(P x A).gk E ak zd zd zd;exact⟨e.id,e.ok,e.new.older c9.size⟩
 have B:=B.older ce;refine Bh (gp (qj Z ?_));have cv:=g;refine gj call18 Z (snames_calls w3 (k.ga g)) ?_;rintro ep eq⟨qn,cn,rfl,hn,an⟩;have b:=b.ga an;have B:=B.ga an;have f:=λx A=>(f x A).ga an;have g:=g.gb an;have hn:=hn.older (V:=w) cv.size;have er:=hS.few;refine kg Z (j8 (jl (α:=Nat×Option Addr×Nat×List Bm) [0,2,53,54] Z (λz=>[(3,.bool true),(55,.int .i64 (z.1:Int))]) (λz u=>((z.1<=X.s.vals.length/\z.2.2.2.map Prod.fst=X.s.vals.take z.1)/\ky w u z.2.1 z.2.2.2.length z.2.2.1 221 2 (z.2.2.2.flatMap xb)/\(∀x∈z.2.2.2,ky w u x.2.1 x.1.2.length x.2.2 5 1 (gh x.1.2)/\x.1.1.length<1000000000/\x.1.2.length<1000000000)/\ky w u q C.length c 126 105 (C.flatMap uv)/\(∀x∈C,yr w u x)/\ky w u qn X.s.vals.length cn 9 1 (X.s.vals.map nmV))/\j0 u b2 102 ([.slice q C.length c,.slice z.2.1 z.2.2.2.length z.2.2.1])/\Ext No w u) (λz u=>X.s.vals.length-z.1) (0,none,0,[]) Z ⟨⟨⟨aJ _,Z⟩,ky.nil _ _ _ _,λ_ h=>(by cases h),B,f,hn⟩,b,g⟩ ?_));rintro⟨j,r,e,vs⟩ cx ⟨⟨⟨hj,aw⟩,N,t,B,f,hn⟩,b,g⟩;dsimp only at hj aw N t b;refine vo Z (jy Z (λhc=>?_) (λhc=>?_));have ax:j<X.s.vals.length:=by omega
 rcases hn.sl.2 with h0|⟨qb,qo,hp,du⟩;omega;have es:vs.length=j:=by have e:=congrArg List.length aw;rw[aA,aH] at e;omega
 have cy:=hS.vals _ (aC ax);rw[hp];refine Bn (qr (ki Z 1 Z j Z ax (qo+j) (by rw[bF]) (gx Z (du j _ (by rw[bS,aG ax];rfl)) ?_)));refine kg Z (qj Z ?_);have cz:=g;refine gj call11 Z (yw1 cx (k.ga g) hS.rise (n:=X.s.vals[j].1)) ?_;rintro et ai⟨r2,e2,b0,rfl,bn,ae,T⟩;have b:=b.ga T;have B:=B.ga T;have f:=λx A=>(f x A).ga T;have hn:=hn.ga T;have N:=N.ga T;have t:=λx A=>And.intro ((t x A).1.ga T) (t x A).2;have g:=g.gb T;have ae:=ae.older (V:=w) cz.size;have dv:=val_at hS.rise ax;rw[dv] at bn|-;have bn:b0=X.s.vals[j].2:=bn;subst bn;refine kg Z (ju (α:=Unit) [0,2,9,10,53,54,55] Z (λz=>[(3,.bool true)]) (λz u=>u=ai) ?_ ?_);refine j1 (j6 ge Z (ut 66 Z (λhg=>?_) (λhg=>?_)));exact j4 ge 3 Z (gl (j2 (()) Z Z));cases hg;rintro⟨⟩ eu hu;have hu:=hu.symm;subst hu;refine yy Z (jd b Z Z (j6 ge Z (u1 Z ⟨⟨Z,by decide⟩,⟨Z,by decide⟩,trivial⟩ (l':=xb (X.s.vals[j],r2,e2)) Z (wl (qw ge Z 2 Z namedZc Z zd zd ⟨⟨Z,by decide⟩,trivial⟩ (l':=xb (X.s.vals[j],r2,e2)) (named_put _) λdw ev d9 c1 O ea=> have b:=b.ga O;have B:=B.ga O;have f:=λx A=>(f x A).ga O;have hn:=hn.ga O;have N:=N.ga O;have t:=λx A=>And.intro ((t x A).1.ga O) (t x A).2;have ae:=ae.ga O;have g:=g.gb O;have ay:=N.own;wl (x3 ge Z 2 40 Z Z Z zd N (Src.slice (m:=1) ⟨Z,.inr ⟨dw,0,Z,c1.ql⟩⟩ OneC.h) zn zt (n':=(vs++[(X.s.vals[j],r2,e2)]).length) (ys:=(vs++[(X.s.vals[j],r2,e2)]).flatMap xb) zi (by rw[aY,bL]) g λr e ew N U g=>?_))))));dsimp only at N U;have b:=b.qg ay U (show(221:Nat)≠102 from by decide);have B:=B.Ct ay U zd;have f:=λx A=>(f x A).Ct ay U zd zd zd;have hn:=hn.Ct ay U zd;have t:=λx A=>And.intro ((t x A).1.Ct ay U zd) (t x A).2;have ae:=ae.Ct ay U zd;refine j6 ge Z (have D:=b;qk b Z Z Z λdx b W eb=> have B:=B.gk W D zd;have f:=λx A=>(f x A).gk W D zd zd zd;have hn:=hn.gk W D zd;have N:=N.gk W D zd;have t:=λx A=>And.intro ((t x A).1.gk W D zd) (t x A).2;have ae:=ae.gk W D zd;have g:=g.gi W bz;have b:j0 dx b2 102 ([.slice q C.length c,.slice r (vs++[(X.s.vals[j],r2,e2)]).length e]):=b;gl (Bi Z ?_));rw[qc _ zk];exact gl (jh (j+1,r,e,vs++[(X.s.vals[j],r2,e2)]) Z ⟨⟨⟨ax,by dsimp only;rw[bU,aw,aO ax];rfl⟩,N,λx A=>(aS.1 A).elim (t x) (λe=>by rw[aF.1 e];exact⟨ae,(by have:=cy.2.1;show X.s.vals[j].1.length<_;omega),(by have:=cy.2.2;show X.s.vals[j].2.length<_;omega)⟩),B,f,hp▸hn⟩,b,g⟩ zm);have h0:j=X.s.vals.length:=by omega
 subst h0;rw[bM] at aw;refine Bh (qr ?_);have a6:=B;have bu:=N;have aj:=t;have L:=f;obtain⟨ai,a7⟩:∃ai:World,ai=cx:=⟨_,Z⟩
 rw[<-a7] at a6 bu aj L;refine gt Z λa8 c2 a9 p ba=>?_;have ap:=j3 b.lt a9;have bv:=al g.size a9;have b:=b.ga ba;have g:=g.gb ba;have p:j0 c2 a8 30 (gh (De 0)):=p;have bw:ai.heap.size<=a8:=by rw[a7];exact a9
 have J:Ext No ai c2:=by rw[a7];exact ba
 refine u3 (gp (j8 (jl (α:=Nat) [0,2,3,12] Z (λz=>[]) (λz u=>((z<=C.length/\∀j,j<z->De j∈C.map je.id)/\Ext No ai u)/\j0 u b2 102 ([.slice q C.length c,.slice r vs.length e])/\j0 u a8 30 (gh (De z))/\Ext No w u) (λz u=>C.length+1-z) (0) Z ⟨⟨⟨aJ _,λ_ h=>absurd h (cE _)⟩,J⟩,b,p,g⟩ ?_)));rintro Y dy ⟨⟨⟨hk,dz⟩,J⟩,b,p,g⟩;refine gp (qj Z (jd b Z Z (jf p Z Z (gj call123 Z (at10_calls dy (a6.ga J).sl (λx A=>⟨by rw[(L x A).id];exact ul _,(L x A).len⟩) zk (freeI_len Y)) ?_))));rintro ex d0⟨rfl,aq⟩;have b:=b.ga aq;have p:=p.ga aq;have J:=J.gb aq;have g:=g.gb aq;refine kg Z (jy Z (λhc=>?_) (λhc=>?_));have d1:De Y∈C.map je.id:=by unfold atI at hc;split at hc;assumption;omega
 have bb:∀j,j<Y+1->De j∈C.map je.id:=λj hj=>(bC j Y).elim (dz j) λh1=>by obtain rfl:j=Y:=zk;exact d1
 have d2:=free_le (ids:=C.map je.id) (k:=Y+1) zk bb;rw[aA] at d2;refine xg (j8 (qr (ki Z 1 Z 0 Z zd 0 Z (gx Z (p.cell (free_get0 Y)) (j6 ge Z ?_)))));rw[wrap_byte1,u8_succ];refine ki Z 1 Z 0 Z zd 0 Z (qk p Z Z Z λd3 p bc ec=> have b:=b.gk bc ap;have J:=J.gi bc bw;have g:=g.gi bc bv;have p:j0 d3 a8 30 (gh (freeJ Y)):=p;u3 (qr (ki Z 1 Z 0 Z zd 0 Z (gx Z (p.cell (free_getJ Y)) (kg Z (jy Z (λhc=>?_) (λhc=>?_)))))));have hz:UInt8.ofNat (Y%256+1)=0:=UInt8.toNat_inj.1 (by have:((UInt8.ofNat (Y%256+1)).toNat:Int)=0:=hc;show _=0;omega);refine j1 (ki Z 1 Z 1 Z zd 1 Z (gx Z (p.cell (free_getK Y)) (j6 ge Z ?_)));rw[wrap_byte1,u8_succ];refine ki Z 1 Z 1 Z zd 1 Z (qk p Z Z Z λd4 p bd ed=> have b:=b.gk bd ap;have J:=J.gi bd bw;have g:=g.gi bd bv;have p:j0 d4 a8 30 (gh ([UInt8.ofNat (Y%256+1),UInt8.ofNat (Y/256+1)]++List.replicate 30 0)):=p;gl ?_);rw[free_next hz] at p;exact jr (jh (Y+1) Z ⟨⟨⟨by omega,bb⟩,J⟩,b,p,g⟩ zm);have hz:UInt8.ofNat (Y%256+1)≠0:=λe=>hc (by rw[e];rfl);refine qf ?_;rw[free_same hz] at p;exact jr (jh (Y+1) Z ⟨⟨⟨by omega,bb⟩,J⟩,b,p,g⟩ zm);have ar:De Y∉C.map je.id:=λe=>hc (by unfold atI;rw[aL e];omega);have ca:C.map je.id=qi X.s.row:=by rw[<-az,qi,List.map_map];exact List.map_congr_left λx A=>(L x A).id
 have ar:De Y∉qi X.s.row:=ca▸ar;have B:=a6.ga J;have N:=bu.ga J;have t:=λx A=>And.intro ((aj x A).1.ga J) (aj x A).2;have f:=λx A=>(L x A).ga J;refine Bh (qj Z (jf p Z Z (gj call10 Z (sget_calls d0 (k.ga g) (id:=De Y) (freeI_len Y)) ?_)));rintro ey ez⟨o,a,rfl,_,cj,I⟩;have b:=b.ga I;have B:=B.ga I;have f:=λx A=>(f x A).ga I;have N:=N.ga I;have t:=λx A=>And.intro ((t x A).1.ga I) (t x A).2;have g:=g.gb I;obtain⟨rfl,rfl⟩:=cj ar;rw[aI ar];refine j6 ge Z (gt Z λe0 e1 bx bf aa=>?_);have bp:=j3 b.lt bx;have c5:=al g.size bx;have b:=b.ga aa;have B:=B.ga aa;have f:=λx A=>(f x A).ga aa;have N:=N.ga aa;have t:=λx A=>And.intro ((t x A).1.ga aa) (t x A).2;have g:=g.gb aa;have af:=bf;refine wl (j9 (l':=km x1 noP) ge bf Z Z (gr u6) (by rw[gr u6];rfl) OneC.h λd5 bf ab ee=>?_);have b:=b.gk ab bp;have B:=B.gk ab af zd;have f:=λx A=>(f x A).gk ab af zd zd zd;have N:=N.gk ab af zd;have t:=λx A=>And.intro ((t x A).1.gk ab af zd) (t x A).2;have g:=g.gi ab c5;refine kg Z (qj Z (gj call11 Z (yw1 d5 (k.ga g) hS.rise (n:=longS)) ?_));rintro e4 e5⟨r3,e3,b3,rfl,au,_,ac⟩;have b:=b.ga ac;have B:=B.ga ac;have f:=λx A=>(f x A).ga ac;have N:=N.ga ac;have t:=λx A=>And.intro ((t x A).1.ga ac) (t x A).2;have g:=g.gb ac;rw[val_long hS] at au|-;have au:b3=[]:=au;subst au;refine kg Z (ju (α:=Unit) [2] Z (λz=>[(3,.bool true)]) (λz u=>(ky w u r vs.length e 221 2 (vs.flatMap xb)/\(∀x∈vs,ky w u x.2.1 x.1.2.length x.2.2 5 1 (gh x.1.2)/\x.1.1.length<1000000000/\x.1.2.length<1000000000)/\ky w u q C.length c 126 105 (C.flatMap uv)/\(∀x∈C,yr w u x))/\j0 u b2 102 ([.slice q C.length c,.slice r vs.length e])/\Ext No w u) ?_ ?_);refine j1 (jf b Z Z (j6 ge Z (ut 107 Z (λhg=>?_) (λhg=>?_))));refine j4 ge 4 Z (ut 111 Z (λhg=>?_) (λhg=>?_));refine j4 ge 4 Z (ut 115 Z (λhg=>?_) (λhg=>?_));exact j4 ge 4 Z (have D:=b;wl (j9 (l':=[.slice q C.length c,.slice r vs.length e]) ge b Z Z Z Z OneC.h λe6 b ah ef=> have B:=B.gk ah D zd;have f:=λx A=>(f x A).gk ah D zd zd zd;have N:=N.gk ah D zd;have t:=λx A=>And.intro ((t x A).1.gk ah D zd) (t x A).2;have g:=g.gi ah bz;j6 ge Z (gl (j2 (()) Z ⟨⟨N,t,B,f⟩,b,g⟩))));cases hg;cases hg;cases hg;rintro⟨⟩ e7 ⟨⟨N,t,B,f⟩,b,g⟩;exact gv (u7 [_,_] ⟨⟨b2,0,Z,ud ge Z Z b.ql Z⟩,Z,trivial⟩ ⟨⟨q,c,C,r,e,vs⟩,Z,az,aw,⟨B,N,f,t,by show C.length<_;omega,by show vs.length<_;have e:=congrArg List.length aw;rw[aA] at e;omega⟩,g⟩)
structure Aq (u : World) (G : Nat -> Prop) (S : Cu) : Prop where
  at_ : StoAt u S
  r : InH S.rp G
  v : InH S.vp G
  o : ∀ x ∈ S.hs, InH x.a.lp G /\ InH x.a.pp G /\ InH x.a.rp G
  b : ∀ x ∈ S.vs, InH x.2.1 G
  lt : ∀ y, G y -> y < u.heap.size
theorem Aq.ext {T G:Nat->Prop} {u u':World} {S:Cu} (h:Aq u G S) (hE:Ext T u u') (hT:∀y,G y->¬T y):Aq u' G S:=
 ⟨⟨Sl.inH h.at_.row hE h.r hT,Sl.inH h.at_.vals hE h.v hT,λx a=>⟨(h.at_.o x a).id,(h.at_.o x a).ok,⟨Sl.inH (h.at_.o x a).l.leaves hE (h.o x a).1 hT,Sl.inH (h.at_.o x a).l.parents hE (h.o x a).2.1 hT,Sl.inH (h.at_.o x a).l.rows hE (h.o x a).2.2 hT⟩⟩,
  λx a=>⟨Sl.inH (h.at_.v x a).s hE (h.b x a) hT,(h.at_.v x a).ln,(h.at_.v x a).lo⟩,h.at_.few,h.at_.fev⟩,h.r,h.v,h.o,h.b,λy c=>aK (h.lt y c) hE.size⟩
theorem Aq.ga {G : Nat -> Prop} {u u' : World} {S : Cu} (h : Aq u G S) (hE : Ext No u u') : Aq u' G S := h.ext hE λ_ _ => id
theorem xw8 {W w:World} {p:Option Addr} {n c T sz:Nat} {xs:List Value} (h:Own w p n c T sz xs) (hn:∀y,jb p y->W.heap.size<=y):InH p λy=>W.heap.size<=y/\y<w.heap.size:=λb off e=>⟨hn b (jb.of h e),h.lt (jb.of h e)⟩
theorem StoNew.say {W u:World} {S:Cu} (h:StoNew W u S):Aq u (λy=>W.heap.size<=y/\y<u.heap.size) S:=
 ⟨h.at,xw8 h.row.own h.row.new,xw8 h.vals.own h.vals.new,λx a=>⟨xw8 (h.o x a).new.ol (h.o x a).new.nl,xw8 (h.o x a).new.op (h.o x a).new.np,xw8 (h.o x a).new.or (h.o x a).new.nr⟩,λx a=>xw8 (h.v x a).1.own (h.v x a).1.new,λy b=>b.2⟩
theorem Aq.held {u:World} {G:Nat->Prop} {S:Cu} (h:Aq u G S):∀x∈S.hs,vd x.id/\(uv x).length=105:=λx a=>⟨by rw[(h.at_.o x a).id];exact ul _,(h.at_.o x a).len⟩
abbrev zw9 : Cu := ⟨none, 0, [], none, 0, []⟩
theorem no_say (u:World):Aq u (λ_=>False) zw9:=
 ⟨⟨Sl.nil _ _ _,Sl.nil _ _ _,λ_ h=>(by cases h),λ_ h=>(by cases h),by decide,by decide⟩,λb a e=>(by cases e),λb a e=>(by cases e),λ_ h=>(by cases h),λ_ h=>(by cases h),λ_ h=>h.elim⟩
structure LsZ where
  F : Nat -> Prop
  H : Nat -> Prop
  K : Nat -> Prop
  X : Sd
  h : uk
  S : Cu
  G : Nat -> Prop
def LsZ.Bl (z : LsZ) (sp : Nat) : Nat -> Prop := λy => StB z.F z.H z.K sp y \/ z.G y
structure Dq (w u : World) (d sp x : Nat) (z : LsZ) : Prop where
  st : StA u sp x d z.F z.H z.K z.X z.h
  say : Aq u z.G z.S
  lo : ∀ y, z.Bl sp y -> w.heap.size <= y
  gf : ∀ y, z.G y -> ¬ StB z.F z.H z.K sp y
  rt : Rt u
theorem Dq.lt {w u:World} {d sp x:Nat} {z:LsZ} (h:Dq w u d sp x z):∀y,z.Bl sp y->y<u.heap.size:=λy hy=>hy.elim (h.st.lt y) (h.say.lt y)
theorem Dq.ext {T:Nat->Prop} {w u u':World} {d sp x:Nat} {z:LsZ} (h:Dq w u d sp x z) (hE:Ext T u u') (hT:∀y,z.Bl sp y->¬T y) (h0:¬T 0):Dq w u' d sp x z:=
 ⟨h.st.ext hE λy a=>hT y (.inl a),h.say.ext hE λy a=>hT y (.inr a),h.lo,h.gf,Rt.ext h.rt hE h0⟩
theorem Dq.ga {w u u' : World} {d sp x : Nat} {z : LsZ} (h : Dq w u d sp x z) (hE : Ext No u u') : Dq w u' d sp x z := h.ext hE (λ_ _ => id) id
theorem Dq.older {v w u:World} {d sp x:Nat} {z:LsZ} (h:Dq w u d sp x z) (hv:v.heap.size<=w.heap.size):Dq v u d sp x z:=⟨h.st,h.say,λy a=>al hv (h.lo y a),h.gf,h.rt⟩
theorem vr {F H K : Nat -> Prop} {sp : Nat} : ∀ y, StS F H sp y -> StB F H K sp y := λy e => e.imp id λe => e.imp id .inr
theorem Dq.com {w u u':World} {d sp x:Nat} {z:LsZ} {X':Sd} (h:Dq w u d sp x z) (hw:0<w.heap.size) (hwu:w.heap.size<=u.heap.size) (hq:ComQ u u' sp x d z.F z.H z.K X') (hE:Ext (StS z.F z.H sp) u u'):
  ∃z':LsZ,Dq w u' d sp x z'/\z'.X=X'/\z'.S=z.S/\z'.G=z.G/\∀y,z'.Bl sp y->z.Bl sp y\/u.heap.size<=y:=by
 obtain⟨c,f,g,i,k,j,l,m⟩:=hq;have b:∀y,StB c f g sp y->StB z.F z.H z.K sp y\/u.heap.size<=y:=λy a=>by rcases a with a|a|a|a;exact(j y a).imp .inl id;exact(l y a).imp (λe=> .inr (.inl e)) id;exact(m y a).imp (λe=> .inr (.inr (.inl e))) id;exact .inl (.inr (.inr (.inr a)))
 refine⟨⟨c,f,g,X',i,z.S,z.G⟩,⟨k,h.say.ext hE λy a e=>h.gf y a (vr y e),λy a=>?_,λy a e=>?_,Rt.ext h.rt hE λe=>?_⟩,Z,Z,Z,λy a=>a.elim (λe=>(b y e).imp .inl id) λe=> .inl (.inr e)⟩;rcases a with a|a;exact(b y a).elim (λe=>h.lo y (.inl e)) λe=>by omega
 exact h.lo y (.inr a);rcases b y e with e|e;exact h.gf y a e;have:=h.say.lt y a;omega;have:=h.lo 0 (.inl (vr 0 e));omega
theorem Dq.tell {w u u':World} {d sp x:Nat} {z:LsZ} {T:Cu} (h:Dq w u d sp x z) (hwu:w.heap.size<=u.heap.size) (hE:Ext No u u') (hT:StoNew u u' T):
  Dq w u' d sp x ⟨z.F,z.H,z.K,z.X,z.h,T,λy=>u.heap.size<=y/\y<u'.heap.size⟩:=
 ⟨h.st.ga hE,hT.say,λy a=>a.elim (λe=>h.lo y (.inl e)) λe=>al hwu e.1,λy a e=>by have:=h.st.lt y e;omega,Rt.ext h.rt hE id⟩
theorem sto_dec (a b:Cu) (h:a.s=b.s):decide (a.hs.map je.o=b.hs.map je.o/\a.vs.map Prod.fst=b.vs.map Prod.fst)=true:=bZ ⟨congrArg Ax.row h,congrArg Ax.vals h⟩
theorem sto_eq {a b : Ax} (h1 : a.row = b.row) (h2 : a.vals = b.vals) : a = b := by cases a; cases b; cases h1; cases h2; rfl
theorem Cc (o : Cf) : o.cells.length = 6 := rfl
theorem lived_calls (w:World) (hr:Rt w) {p:Option Addr} {c:Nat} {l:List Cf} (hs:Sl w p l.length 6 (l.flatMap Cf.cells)) (hc:l.length<=c) (hd:∀o∈l,Db w o):
  gn prog 40 [.int .i64 30,.slice p l.length c] w λv w'=>∃(d sp x:Nat) (z:LsZ),v= .tuple #[.pointer (some ⟨d,0,none⟩),.pointer (some ⟨sp,0,none⟩),z.S.v,.bool true]/\Dq w w' d sp x z/\z.S.s=z.X.s/\Liv 30 62 42000 216 z.X/\Ext No w w':=by
 refine gz func40 ?_;have t:=Ext.refl No w;have d4:=hr.lt;have N:=hr;obtain⟨bb,aj⟩:=liv_start (a:=30) zd;have bb:(uj (kj.fresh 62) 30).2=0:=bb;have aj:Liv 30 62 6000 0 ⟨Wl.fresh (uj (kj.fresh 62) 30).1 30,zz4⟩:=aj;refine qj Z (gt Z λb6 w1 c7 g b7=> have c8:=al t.size c7;have N:=Rt.ext N b7 id;have t:=t.gb b7;have g:j0 w1 b6 102 (zw9.c):=g;kg Z (qr (u1 Z trivial (l':=zw9.c) Z (gt Z λb8 w2 b9 j bp=> have bq:=j3 g.lt b9;have c9:=al t.size b9;have g:=g.ga bp;have N:=Rt.ext N bp id;have t:=t.gb bp;wl (j9 (l':=zw9.c) ge j Z Z Z Z OneC.h λw3 j br d5=> have g:=g.gk br bq;have N:=Rt.ext N br (λe=>by have e:0=b8:=e;omega);have t:=t.gi br c9;u3 (qj Z ?_))))));obtain⟨V,hV⟩:∃V:World,V=w3:=⟨_,Z⟩
 have l6:=g.lt;have l8:=j.lt;have ca:=t.size;rw[<-hV] at l6 l8 ca;refine gj call22 Z (new_calls w3 (n:=62) zd) ?_;rintro v4 w4⟨d,F1,rfl,hA,ar,ay⟩;have g:=g.ga ay;have j:=j.ga ay;have N:=Rt.ext N ay id;have t:=t.gb ay;rw[<-hV] at ar;have m:=ay.size;rw[<-hV] at m;refine kg Z (gp (kw Z (uc Z (xg (qj Z ?_)))));have aa:=m;refine gj call13 Z (sformat_calls w4 hA (kj.Ok.fresh zd) zd 30 zd N (λe=>by have:=ar 0 e;omega)) ?_;rintro v5 w5⟨so,F2,rfl,d6,az,cb,d7,dc⟩;have g:=g.ext az (λe=>by have:=ar b6 e;omega);have j:=j.ext az (λe=>by have:=ar b8 e;omega);have t:=t.trans az λy J e=>by have:=ar y e;omega
 have m:=al aa az.size;have N:=Rt.ext N az λe=>by have:=ar 0 e;omega
 obtain⟨sp,x,H,K,h,rfl,k,dd⟩:=dc bb;have k:StA w5 sp x d F2 H K ⟨Wl.fresh (uj (kj.fresh 62) 30).1 30,zz4⟩ h:=k;obtain⟨z0,bs⟩:∃z:LsZ,z=⟨F2,H,K,⟨Wl.fresh (uj (kj.fresh 62) 30).1 30,zz4⟩,h,zw9,λ_=>False⟩:=⟨_,Z⟩
 have C:Dq V w5 d sp x z0:=by
  rw[bs]
  exact⟨k,no_say _,λy J=>by
   rcases J with(J|J)|J
   exact(cb y J).elim (ar y) λe=>by omega
   have:=dd y J;omega
   exact J.elim,λy J=>J.elim,N⟩
 have cc:z0.X=⟨Wl.fresh (uj (kj.fresh 62) 30).1 30,zz4⟩:=by rw[bs]
 have cd:z0.S=zw9:=by rw[bs]
 rw[show(uj (kj.fresh 62) 30).2=0 from bb];refine kg Z (gp (kw Z (uc Z (xg (qr (jf j Z Z (have bt:=C.lt;gt Z λE w6 av f a0=>?_)))))));have aw:=j3 g.lt av;have ax:=j3 j.lt av;have bi:=al t.size av;have g:=g.ga a0;have j:=j.ga a0;have C:=C.ga a0;have m:=al m a0.size;have t:=t.gb a0;have bj:∀y,z0.Bl sp y->¬One E y:=xi bt av;have a1:¬One E 0:=λe=>by have e:0=E:=e;omega
 refine wl (j9 (l':=zw9.c) ge f Z Z Z Z OneC.h λw7 f a2 d8=>?_);have g:=g.gk a2 aw;have j:=j.gk a2 ax;have C:=C.ext a2 bj a1;have m:=al m a2.size;have t:=t.gi a2 bi;refine u3 (gp (qj Z (gj call26 Z (some10_calls w7 hc) ?_)));rintro v8 w8⟨rfl,rfl⟩;rw[<-cd] at f;refine kg Z (j8 (jl (α:=Nat×LsZ) [6,8,9,11,12,40,41] Z (λz=>[(42,.int .i64 (z.1:Int))]) (λz u=>(z.1<=min l.length 18/\Dq V u d sp x z.2/\Liv 30 62 (6000+2000*z.1) (12*z.1) z.2.X/\z.2.S.s=z.2.X.s/\(∀y,z.2.Bl sp y->y≠E)/\V.heap.size<=u.heap.size)/\j0 u b6 102 (zw9.c)/\j0 u b8 102 (zw9.c)/\j0 u E 102 (z.2.S.c)/\Ext No w u) (λz u=>min l.length 18-z.1) (0,z0) Z ⟨⟨aJ _,C,by dsimp only;rw[cc];exact aj,by dsimp only;rw[cc,cd];rfl,λy J e=>bj y J e,m⟩,g,j,f,t⟩ ?_));rintro⟨i,G⟩ w9 ⟨⟨hi,C,O,ak,L,m⟩,g,j,f,t⟩;dsimp only at hi C O ak L f;have a1:¬One E 0:=λe=>by have e:0=E:=e;omega
 refine vo Z (jy Z (λhc=>?_) (λhc=>?_));have ce:i<l.length:=by omega
 have dx:i<18:=by omega
 obtain⟨pb,po,df,dg⟩:=(hs.ga t).qm (λr _=>Cc r) zk;rw[df];obtain⟨o,ho⟩:∃o,o=l[i]:=⟨_,Z⟩
 have cf:Db w o:=by rw[ho];exact hd _ (aC ce)
 have d9:=O.sto.few;obtain⟨zS,am⟩:∃S:Cu,S=G.S:=⟨_,Z⟩
 have ea:G.h.hs.length=G.X.s.row.length:=by rw[<-C.st.eq,uk.s,aA]
 have eb:G.S.hs.length=G.X.s.row.length:=by rw[<-ak,Cu.s,aA]
 refine Bn (qr (ki Z 6 Z i Z zk (po+i*6) Z (jk Z (dg i ce) (Cc _) ?_)));rw[<-ho];have bt:=C.lt;refine gt Z λbu ec an Q ab=>?_;have bc:=j3 g.lt an;have bd:=j3 j.lt an;have a3:=j3 f.lt an;have cg:=al t.size an;have g:=g.ga ab;have j:=j.ga ab;have f:=f.ga ab;have C:=C.ga ab;have m:=al m ab.size;have t:=t.gb ab;have ch:∀y,G.Bl sp y->¬One bu y:=xi bt an;have ci:¬One bu 0:=λe=>by have e:0=bu:=e;omega
 refine wl (j9 (l':=o.cells) ge Q Z Z Z Z OneC.h λdh Q ac dy=> have g:=g.gk ac bc;have j:=j.gk ac bd;have f:=f.gk ac a3;have C:=C.ext ac ch ci;have m:=al m ac.size;have t:=t.gi ac cg;u3 (kw Z (ju (α:=Int×LsZ) [6,8,9,11,12,40,41,42] Z (λz=>[(15,.int .i64 z.1)]) (λz u=>(Dq V u d sp x z.2/\Liv 30 62 (6000+2000*(i+1)) (12*(i+1)) z.2.X/\(z.1≠0->z.2.X.s=z.2.S.s)/\z.2.S=zS/\(∀y,z.2.Bl sp y->y≠E)/\V.heap.size<=u.heap.size)/\j0 u b6 102 (zw9.c)/\j0 u b8 102 (zw9.c)/\j0 u E 102 (G.S.c)/\Ext No w u) ?_ ?_)));refine gp (j1 (jf Q Z (Cc _) (gj call79 Z (which10_calls dh o) ?_)));rintro ed cj⟨rfl,R⟩;have g:=g.ga R;have j:=j.ga R;have f:=f.ga R;have Q:=Q.ga R;have C:=C.ga R;have m:=al m R.size;have t:=t.gb R;refine u3 (j8 (kw Z (jy Z (λhc=>?_) (λhc=>?_))));refine j1 (j6 ge Z (jf Q Z (Cc _) (j6 ge Z (gx Z (f.cell Z) (gj call42 Z (linked_calls cj (cf.ga t) C.say.at_.row C.say.held C.say.at_.few) ?_)))));rintro ee di⟨B2,rfl,dz,cn,ad⟩;have g:=g.ga ad;have j:=j.ga ad;have f:=f.ga ad;have C:=C.ga ad;have m:=al m ad.size;have t:=t.gb ad;have bv:¬StS G.F G.H sp b6:=λe=>by have:=C.lo b6 (.inl (vr _ e));omega
 have bw:¬StS G.F G.H sp b8:=λe=>by have:=C.lo b8 (.inl (vr _ e));omega
 have a4:¬StS G.F G.H sp E:=λe=>L E (.inl (vr _ e)) Z;have aa:=m;have bx:=f.lt;refine gj call15 Z (C9 di (B:=B2) C.st O.dk zk O.wl C.rt (λe=>by have:=C.lo 0 (.inl (.inl e));omega) cn.at O.sto.ok zk) ?_;rintro ef eg⟨rfl,bz,ae⟩;have g:=g.ext ae (bv);have j:=j.ext ae (bw);have f:=f.ext ae (a4);have t:=t.trans ae λy J e=>by have:=C.lo y (.inl (vr y e));omega
 have m:=al aa ae.size;obtain⟨z3,A,b0,a5,dj,b1⟩:=C.com zk aa bz ae;have dm:∀o∈B2.d.objs,ub o:=λo ho=>by obtain⟨x,hx,rfl⟩:=aZ.1 ho;exact(cn.o x hx).1.1
 have au:=O.commit dm;have eh:B2.d.objs.length=B2.os.length:=aA ..;rw[<-b0] at au;have a6:Liv 30 62 (6000+2000*(i+1)) (12*(i+1)) z3.X:=au.1.mono zk zk;have b2:∀y,z3.Bl sp y->y≠E:=λy J=>(b1 y J).elim (L y) λe=>by omega
 refine j6 ge Z (gl ?_);exact jr (j2 (((vi G.X B2.d).2,z3)) Z ⟨⟨A,a6,λe=>by dsimp only;rw[au.2 e,a5,ak],by dsimp only;rw[a5,am],b2,m⟩,g,j,f,t⟩);refine gp (j1 (kg Z (jy Z (λhc=>?_) (λhc=>?_))));refine j1 (j6 ge Z (jf Q Z (Cc _) (j6 ge Z (gx Z (f.cell Z) (gj call82 Z (roots10_calls cj (cf.ga t) C.say.at_.row C.say.held C.say.at_.few) ?_)))));rintro ei dn⟨q,kq,rfl,hq,af⟩;have g:=g.ga af;have j:=j.ga af;have f:=f.ga af;have C:=C.ga af;have m:=al m af.size;have t:=t.gb af;have bv:¬StS G.F G.H sp b6:=λe=>by have:=C.lo b6 (.inl (vr _ e));omega
 have bw:¬StS G.F G.H sp b8:=λe=>by have:=C.lo b8 (.inl (vr _ e));omega
 have a4:¬StS G.F G.H sp E:=λe=>L E (.inl (vr _ e)) Z;have aa:=m;have bx:=f.lt;refine gj call12 Z (ssweep_calls dn C.st O.dk zk O.wl C.rt (λe=>by have:=C.lo 0 (.inl (.inl e));omega) hq.sl (roots_in (λx hx=>by obtain⟨y,J,rfl⟩:=aZ.1 hx;exact(C.say.held y J).1) o) (by have:=roots_len (G.S.hs.map je.id) o;rw[aA] at this;omega) O.sto.ok) ?_;rintro ej ek⟨rfl,bz,ag⟩;have g:=g.ext ag (bv);have j:=j.ext ag (bw);have f:=f.ext ag (a4);have t:=t.trans ag λy J e=>by have:=C.lo y (.inl (vr y e));omega
 have m:=al aa ag.size;obtain⟨z3,A,b0,a5,dj,b1⟩:=C.com zk aa bz ag;have au:=O.sweep (Br (G.S.hs.map je.id) o);rw[<-b0] at au;have a6:Liv 30 62 (6000+2000*(i+1)) (12*(i+1)) z3.X:=au.1.mono zk zk;have b2:∀y,z3.Bl sp y->y≠E:=λy J=>(b1 y J).elim (L y) λe=>by omega
 refine j6 ge Z (gl ?_);exact jr (j2 (((B4 G.X (Br (G.S.hs.map je.id) o)).2.2,z3)) Z ⟨⟨A,a6,λe=>by dsimp only;rw[au.2 e,a5,ak],by dsimp only;rw[a5,am],b2,m⟩,g,j,f,t⟩);exact qf (jr (j2 ((0,G)) Z ⟨⟨C,O.mono zk zk,λe=>absurd Z e,am.symm,L,m⟩,g,j,f,t⟩));rintro⟨e,z2⟩ cs ⟨⟨P,ap,b3,ct,b4,m⟩,g,j,f,t⟩;have em:=ap.sto.few;refine qj Z ?_;have cu:=P;have aa:=m;have bx:=f.lt;obtain⟨wt,cv⟩:∃wt:World,wt=cs:=⟨_,Z⟩
 rw[<-cv] at bx;refine gj call44 Z (xj7 cs P.st ap.sto.ok zk) ?_;rintro en dp⟨T,rfl,b5,dq,dr,U⟩;have g:=g.ga U;have j:=j.ga U;have f:=f.ga U;have P:=P.ga U;have t:=t.gb U;have m:=al aa U.size;have A:=cu.tell aa U dr;rw[<-cv] at A;have cx:T.s=z2.X.s:=sto_eq b5 dq;obtain⟨z3,bf⟩:∃z:LsZ,z=⟨z2.F,z2.H,z2.K,z2.X,z2.h,T,λy=>wt.heap.size<=y/\y<dp.heap.size⟩:=⟨_,Z⟩
 rw[<-bf] at A;have bk:z3.X=z2.X:=by rw[bf]
 have ah:z3.S=T:=by rw[bf]
 have a7:∀y,z3.Bl sp y->y≠E:=λy J=>by rw[bf] at J;rcases J with J|J;exact b4 y (.inl J);omega
 have cy:∀y,z3.Bl sp y->¬One E y:=λy J e=>a7 y J e;refine j6 ge Z (have cz:=P.lt;have c0:=A.lt;gt Z λa8 ep ai D W=>?_);have bg:=j3 g.lt ai;have bh:=j3 j.lt ai;have a9:=j3 f.lt ai;have c1:=al t.size ai;have g:=g.ga W;have j:=j.ga W;have f:=f.ga W;have m:=al m W.size;have P:=P.ga W;have A:=A.ga W;have t:=t.gb W;have c2:∀y,z2.Bl sp y->¬One a8 y:=xi cz ai;have c3:∀y,z3.Bl sp y->¬One a8 y:=xi c0 ai;have bm:¬One a8 0:=λe=>by have e:0=a8:=e;omega
 refine wl (j9 (l':=T.c) ge D Z Z Z Z OneC.h λds D Y d0=> have g:=g.gk Y bg;have j:=j.gk Y bh;have f:=f.gk Y a9;have m:=al m Y.size;have P:=P.ext Y c2 bm;have A:=A.ext Y c3 bm;have t:=t.gi Y c1;kg Z (gp (ju (α:=Bool) [6,8,9,11,12,16,40,41,42] Z (λz=>[(89,.bool z)]) (λz u=>(z=false/\Dq V u d sp x z3/\V.heap.size<=u.heap.size)/\j0 u b6 102 (zw9.c)/\j0 u b8 102 (zw9.c)/\j0 u E 102 (G.S.c)/\j0 u a8 102 (T.c)/\Ext No w u) ?_ ?_)));refine j1 (j6 ge Z (ut 74 Z (λhg=>?_) (λhg=>?_)));cases hg;refine j4 ge 1 Z (gx Z (D.cell Z) (gj call49 Z (whole_calls ds A.rt (by have e:=A.say.at_.row;rw[ah] at e;exact e) (by have e:=A.say.at_.o;rw[ah] at e;exact e) (by have e:=A.say.at_.few;rw[ah] at e;exact e) (λx hx=>ap.sto.ok.objs _ (by rw[<-b5];exact cW hx)) (by have e:=ap.sto.ok.ahead;rw[<-b5] at e;exact e)) ?_));rintro er dt⟨rfl,M⟩;have g:=g.ga M;have j:=j.ga M;have f:=f.ga M;have D:=D.ga M;have m:=al m M.size;have P:=P.ga M;have A:=A.ga M;have t:=t.gb M;refine j4 ge 3 Z (ut 80 Z (λhg=>?_) (λhg=>?_));cases hg;refine j4 ge 3 Z (jw 83 Z (λhg=>?_) (λhg=>?_));refine jf f Z Z (jf D Z Z (gj call48 Z (yv0 dt (a:=G.S) (b:=T) (by have e:=P.say.at_;rw[ct,am] at e;exact e) (by have e:=A.say.at_;rw[ah] at e;exact e)) ?_));rintro es et⟨rfl,I⟩;have g:=g.ga I;have j:=j.ga I;have f:=f.ga I;have D:=D.ga I;have m:=al m I.size;have A:=A.ga I;have t:=t.gb I;rw[sto_dec G.S T (by rw[cx,b3 hg,ct,am])];exact j4 ge 3 Z (gl (j2 (false) Z ⟨⟨Z,A,m⟩,g,j,f,D,t⟩));exact j4 ge 6 Z (gl (j2 (false) Z ⟨⟨Z,A,m⟩,g,j,f,D,t⟩));rintro z eu ⟨⟨rfl,A,m⟩,g,j,f,D,t⟩;refine uc Z (xg (j1 (jf D Z Z (wl (j9 (l':=T.c) ge f Z Z Z Z OneC.h λev f aq d1=> have g:=g.gk aq aw;have j:=j.gk aq ax;have m:=al m aq.size;have A:=A.ext aq cy a1;have t:=t.gi aq bi;gl (Bi Z ?_))))));rw[qc _ zk];refine gl ?_;rw[<-ah] at f;exact jh (i+1,z3) Z ⟨⟨by dsimp only;omega,A,by dsimp only;rw[bk];exact ap,by dsimp only;rw[bk,ah];exact cx,a7,m⟩,g,j,f,t⟩ zm;have du:∀y,G.Bl sp y->¬One b6 y:=λy J e=>by have e:y=b6:=e;have:=C.lo y J;omega
 have dv:¬One b6 0:=λe=>by have e:0=b6:=e;omega
 exact Bh (gp (ke Z 5 [qP 0,qP 1,qP 2,qP 3,qP 4] [5,6] (No) zf λew ba d2=> have c6:=f;have g:=g.ga ba;have C:=C.ga ba;have t:=t.gb ba;gw ge 2 Z (qu ge Z Z (λw' dw=>(c6.ga dw).ql) Z (gw ge 2 Z (js (wb Z (j9 (l':=G.S.c) ge g Z Z Z Z OneC.h λex g bn d3=> have C:=C.ext bn du dv;have t:=t.gi bn c8;wb Z (zz3 ge Z Z Z (ja (jq (gv (u7 [_,_,_,_] ⟨Z,Z,⟨b6,0,Z,ud ge Z Z g.ql Z⟩,Z,trivial⟩ ⟨d,sp,x,G,Z,C.older ca,ak,O.mono zk zk,t⟩))))))))))))
theorem take_map_snoc {α β:Type} (f:α->β) {l:List α} {i:Nat} (hi:i<l.length):(l.take (i+1)).map f=(l.take i).map f++[f l[i]]:=by
 rw[aO hi,bU];rfl
theorem copy10_calls (w:World) {B:uz} (hB:zv6 w B):
  gn prog 43 [B.v] w λv w'=>∃B':uz,v=B'.v/\B'.d=B.d/\vf w w' B'/\Ext No w w':=by
 obtain⟨op,oc,V,sp,sc,S⟩:=B;have bb:=hB.lo;have bc:=hB.ls;dsimp only at bb bc;refine gz func43 ?_;have r:=Ext.refl No w;refine qr (gt Z λb1 w1 cj c bd=>?_);have r:=r.gb bd;have c:j0 w1 b1 25 ([.slice op V.length oc,.slice sp S.length sc]):=c;refine gt Z λb2 w2 bf g a3=>?_;have bg:=al r.size bf;have c:=c.ga a3;have r:=r.gb a3;have g:j0 w2 b2 25 ([.slice none 0 0,.slice none 0 0]):=g;refine u3 (qr (gt Z λb3 w3 ai f au=>?_));have aj:=j3 c.lt ai;have ak:=j3 g.lt ai;have a4:=al r.size ai;have c:=c.ga au;have g:=g.ga au;have r:=r.gb au;have f:j0 w3 b3 25 ([.slice none 0 0,.slice none 0 0]):=f;refine u3 (gp (kw Z (j8 (jl (α:=Nat×Option Addr×Nat×List Cv) [1,2,3] Z (λz=>[(4,.int .i64 (z.1:Int))]) (λz u=>(z.1<=V.length/\ky w u z.2.1 z.2.2.2.length z.2.2.1 37 73 (z.2.2.2.flatMap yu)/\z.2.2.2.map Prod.fst=(V.take z.1).map Prod.fst/\(∀x∈z.2.2.2,D7 x.1/\um w u x.1 x.2))/\j0 u b1 25 ([.slice op V.length oc,.slice sp S.length sc])/\j0 u b2 25 ([.slice none 0 0,.slice none 0 0])/\j0 u b3 25 ([.slice z.2.1 z.2.2.2.length z.2.2.1,.slice none 0 0])/\Ext No w u) (λz u=>V.length-z.1) (0,none,0,[]) Z ⟨⟨aJ _,ky.nil _ _ _ _,Z,λ_ e=>(by cases e)⟩,c,g,f,r⟩ ?_))));rintro⟨i,q,k,gs⟩ w4 ⟨⟨av,A,ae,b⟩,c,g,f,r⟩;try dsimp only
 dsimp only at av A ae b f;refine gp (qj Z (jd c Z Z (kg Z (jy Z (λhc=>?_) (λhc=>?_)))));have Q:i<V.length:=by omega
 have aw:gs.length=i:=by have e:=congrArg List.length ae;rw[aA,aA,aH] at e;omega
 have ax:=hB.o _ (aC Q);have X:=ax.i;have ar:=ax.s;have bh:=ax.l;have ay:=take_map_snoc Prod.fst Q;obtain⟨qb,qo,hp,af⟩:=hB.os.qm (λx n=>gr (hB.o x n).i) zt;dsimp only at hp af;have ca:qb<w.heap.size:=(af i Q).lt (λe=>by have e2:=gr (a:=V[i].2) X;rw[show km V[i].1 V[i].2=[] from e] at e2;cases e2);have bi:¬jb q qb:=λe=>by have:=A.new qb e;omega
 have bj:=A.not c zd;have bk:=A.not f zd;have az:([.slice op V.length oc,.slice sp S.length sc]:List Value)[0]? =some (.slice (some ⟨qb,qo,none⟩) V.length oc):=by rw[<-hp];rfl
 refine Bn (ke Z 11 [qP 0,qP 1,qP 2,qP 3,qP 4,qP 5,qP 6,(7,false),(8,false),(9,false),qP 10] [11] (jb q) zf λw5 Y ck=> have bm:=c;have bn:=f;have bp:=r;have c:=c.ga Y;have g:=g.ga Y;have f:=f.ga Y;have A:=A.ga Y;have b:=λx n=>And.intro (b x n).1 ((b x n).2.ga Y);have r:=r.gb Y;have hC:Ext (jb q) _ w5:=Y.no;gw ge 1 Z (j5 ge Z Z (λw' am=>((bn.ext (show Ext (jb q) _ w' from am) bk).cell Z)) (gw ge 1 Z (j5 ge Z Z (λw' am=>((bm.ext (show Ext (jb q) _ w' from am) bj).cell az)) (gw ge 1 Z (u0 ge Z Z 73 Z i Z Q (qo+i*73) Z (qu ge Z Z (λw' am=>(((af i Q).ga bp).ext (show Ext (jb q) _ w' from am) bi)) (gr X) (have bq:=r;jv Z (j7 call122 Z (copy6_calls w5 X (bh.ga r) ar.leaves ar.parents ar.rows) λv6 w6 a5=>⟨(by obtain⟨a2,rfl,hN,T⟩:=a5;exact hC.gb T),?_⟩)))))))));obtain⟨a2,rfl,hN,T⟩:=a5;have c:=c.ga T;have g:=g.ga T;have f:=f.ga T;have A:=A.ga T;have b:=λx n=>And.intro (b x n).1 ((b x n).2.ga T);have r:=r.gb T;have hC:=hC.gb T;have hN:=hN.older (W0:=w) bq.size;refine jv Z (qw ge Z 73 Z objZc (gr u6) zd zd ⟨⟨by rw[jc];exact gr X,by decide⟩,trivial⟩ (l':=yu (V[i].1,a2)) (xw6 X) λbr w7 cb a6 U cm=>⟨hC.gb U,have c:=c.ga U;have g:=g.ga U;have f:=f.ga U;have A:=A.ga U;have b:=λx n=>And.intro (b x n).1 ((b x n).2.ga U);have hN:=hN.ga U;have r:=r.gb U;have hC:=hC.gb U;have an:=A.own;jv Z (x3 ge Z 73 192 Z Z Z zd A (Src.slice (m:=1) ⟨gr X,.inr ⟨br,0,Z,a6.ql⟩⟩ OneC.h) zn zt (n':=(gs++[((V[i].1,a2):Cv)]).length) (ys:=(gs++[((V[i].1,a2):Cv)]).flatMap yu) zi (by rw[aY,bL];rfl) r λq4 k4 w8 A I r=>⟨hC.then I,?_⟩)⟩);dsimp only at A I;have c:=c.qg an I (show(37:Nat)≠25 from by decide);have g:=g.qg an I (show(37:Nat)≠25 from by decide);have f:=f.qg an I (show(37:Nat)≠25 from by decide);have b:=λx n=>And.intro (b x n).1 ((b x n).2.extT an I zd zd zd);have hN:=hN.extT an I zd zd zd;refine gw ge 1 Z (js (have E:=f;wb Z (yo ge f Z Z Z λw9 f ag cn=> have c:=c.gk ag aj;have g:=g.gk ag ak;have A:=A.gk ag E zd;have b:=λx n=>And.intro (b x n).1 ((b x n).2.gk ag E zd zd zd);have hN:=hN.gk ag E zd zd zd;have r:=r.gi ag a4;ja (Bi Z ?_))));rw[qc _ zk];exact gl (jh (i+1,q4,k4,gs++[((V[i].1,a2):Cv)]) Z ⟨⟨Q,A,by rw[bU,ae,ay];rfl,λy hy=>(aS.1 hy).elim (b y) λe=>by rw[aF.1 e];exact⟨⟨X,ar⟩,hN⟩⟩,c,g,f,r⟩ zm);have h0:i=V.length:=by omega
 subst h0;rw[bM] at ae;refine Bh (gp (kw Z (j8 (jl (α:=Nat×Option Addr×Nat×List Ce) [1,2,3] Z (λz=>[(5,.int .i64 (z.1:Int))]) (λz u=>(z.1<=S.length/\ky w u q gs.length k 37 73 (gs.flatMap yu)/\(∀x∈gs,D7 x.1/\um w u x.1 x.2)/\ky w u z.2.1 z.2.2.2.length z.2.2.1 91 5 (z.2.2.2.flatMap yc)/\z.2.2.2.map Prod.fst=(S.take z.1).map Prod.fst/\∀x∈z.2.2.2,yp w u x)/\j0 u b1 25 ([.slice op V.length oc,.slice sp S.length sc])/\j0 u b2 25 ([.slice none 0 0,.slice none 0 0])/\j0 u b3 25 ([.slice q gs.length k,.slice z.2.1 z.2.2.2.length z.2.2.1])/\Ext No w u) (λz u=>S.length-z.1) (0,none,0,[]) Z ⟨⟨aJ _,A,b,ky.nil _ _ _ _,Z,λ_ e=>(by cases e)⟩,c,g,f,r⟩ ?_))));rintro⟨i,q2,k2,ts⟩ cp ⟨⟨av,A,b,p,ah,j⟩,c,g,f,r⟩;try dsimp only
 dsimp only at av p ah j f;refine gp (qj Z (jd c Z Z (kg Z (jy Z (λhc=>?_) (λhc=>?_)))));have Q:i<S.length:=by omega
 have aw:ts.length=i:=by have e:=congrArg List.length ah;rw[aA,aA,aH] at e;omega
 have ap:=hB.s _ (aC Q);have bs:=ap.ln;have bt:=ap.lo;have bu:=ap.lw;have ay:=take_map_snoc Prod.fst Q;obtain⟨qb,qo,hp,af⟩:=hB.ss.qm (λx n=>yz9 x) zt;dsimp only at hp af;have az:([.slice op V.length oc,.slice sp S.length sc]:List Value)[1]? =some (.slice (some ⟨qb,qo,none⟩) S.length sc):=by rw[<-hp];rfl
 refine Bn (qj Z (gx Z (c.cell az) (j6 ge Z (ki Z 5 Z i Z Q (qo+i*5) Z (jk Z ((af i Q).ga r) Z ?_)))));have bv:=p;refine gt Z λb6 cq aq C N=>?_;have aa:=j3 c.lt aq;have ab:=j3 g.lt aq;have ac:=j3 f.lt aq;have a0:=al r.size aq;have c:=c.ga N;have g:=g.ga N;have f:=f.ga N;have A:=A.ga N;have b:=λx n=>And.intro (b x n).1 ((b x n).2.ga N);have p:=p.ga N;have j:=λx n=>(j x n).ga N;have r:=r.gb N;have a1:∀y,jb q2 y->y≠b6:=λy hy=>j3 (bv.own.lt hy) aq;have t:=C;refine wl (j9 (l':=yc S[i]) ge C Z Z Z Z OneC.h λbw C O cc=>?_);have c:=c.gk O aa;have g:=g.gk O ab;have f:=f.gk O ac;have A:=A.gk O t zd;have b:=λx n=>And.intro (b x n).1 ((b x n).2.gk O t zd zd zd);have p:=ky.mk (p.own.ext O λy hy e=>a1 y hy e) p.new;have j:=λx n=>(j x n).gk O t zd;have r:=r.gi O a0;refine u3 (qj Z (jd C Z Z ?_));have bx:=r;refine gj call97 Z (xq0 bw (l:=S[i].1.old) (m:=[]) (ap.old.ga r) (Sl.nil _ _ _) zk zd) ?_;rintro cr bz⟨q3,k3,rfl,D,ai,J⟩;have c:=c.ga J;have g:=g.ga J;have f:=f.ga J;have C:=C.ga J;have A:=A.ga J;have b:=λx n=>And.intro (b x n).1 ((b x n).2.ga J);have p:=p.ga J;have j:=λx n=>(j x n).ga J;have r:=r.gb J;rw[bE] at D|-;have D:ky w bz q3 _ k3 5 1 _:=⟨D,λy hy=>al bx.size (ai y hy)⟩
 refine j6 ge Z ?_;have t:=C;refine qk C Z Z Z λa8 C K cd=>?_;have c:=c.gk K aa;have g:=g.gk K ab;have f:=f.gk K ac;have A:=A.gk K t zd;have b:=λx n=>And.intro (b x n).1 ((b x n).2.gk K t zd zd zd);have p:=ky.mk (p.own.ext K λy hy e=>a1 y hy e) p.new;have j:=λx n=>(j x n).gk K t zd;have D:=D.gk K t zd;have r:=r.gi K a0;have C:j0 a8 b6 91 (yc (S[i].1,⟨q3,k3,S[i].2.np,S[i].2.nc⟩)):=C;refine u3 (qj Z (jd C Z Z ?_));have b0:=r;refine gj call97 Z (xq0 a8 (l:=S[i].1.new) (m:=[]) (ap.new.ga r) (Sl.nil _ _ _) zk zd) ?_;rintro cs b4⟨q5,k5,rfl,R,b5,F⟩;have c:=c.ga F;have g:=g.ga F;have f:=f.ga F;have C:=C.ga F;have A:=A.ga F;have b:=λx n=>And.intro (b x n).1 ((b x n).2.ga F);have p:=p.ga F;have j:=λx n=>(j x n).ga F;have D:=D.ga F;have r:=r.gb F;rw[bE] at R|-;have R:ky w b4 q5 _ k5 5 1 _:=⟨R,λy hy=>al b0.size (b5 y hy)⟩
 refine j6 ge Z (have t:=C;qk C Z Z Z λb7 C G ce=> have c:=c.gk G aa;have g:=g.gk G ab;have f:=f.gk G ac;have A:=A.gk G t zd;have b:=λx n=>And.intro (b x n).1 ((b x n).2.gk G t zd zd zd);have p:=ky.mk (p.own.ext G λy hy e=>a1 y hy e) p.new;have j:=λx n=>(j x n).gk G t zd;have D:=D.gk G t zd;have R:=R.gk G t zd;have r:=r.gi G a0;have C:j0 b7 b6 91 (yc (S[i].1,⟨q3,k3,q5,k5⟩)):=C;u3 (yy Z (jd f Z Z (jf C Z Z (wl (qw ge Z 5 Z setZc Z zd zd ⟨⟨Z,by decide⟩,trivial⟩ (l':=yc (S[i].1,⟨q3,k3,q5,k5⟩)) (set_put _) λb8 ct cf ba H cg=> have c:=c.ga H;have g:=g.ga H;have f:=f.ga H;have A:=A.ga H;have b:=λx n=>And.intro (b x n).1 ((b x n).2.ga H);have p:=p.ga H;have j:=λx n=>(j x n).ga H;have D:=D.ga H;have R:=R.ga H;have r:=r.gb H;have P:=p.own;wl (x3 ge Z 5 72 Z Z Z zd p (Src.slice (m:=1) ⟨Z,.inr ⟨b8,0,Z,ba.ql⟩⟩ OneC.h) zn zt (n':=(ts++[((S[i].1,⟨q3,k3,q5,k5⟩):Ce)]).length) (ys:=(ts++[((S[i].1,⟨q3,k3,q5,k5⟩):Ce)]).flatMap yc) zi (by rw[aY,bL]) r λq4 k4 cu p L r=>?_)))))));dsimp only at p L;have c:=c.qg P L (show(91:Nat)≠25 from by decide);have g:=g.qg P L (show(91:Nat)≠25 from by decide);have f:=f.qg P L (show(91:Nat)≠25 from by decide);have A:=A.Ct P L zd;have b:=λx n=>And.intro (b x n).1 ((b x n).2.extT P L zd zd zd);have j:=λx n=>(j x n).Ct P L zd;have D:=D.Ct P L zd;have R:=R.Ct P L zd;refine j6 ge Z (have E:=f;qk f Z Z Z λcv f M ch=> have c:=c.gk M aj;have g:=g.gk M ak;have A:=A.gk M E zd;have b:=λx n=>And.intro (b x n).1 ((b x n).2.gk M E zd zd zd);have p:=p.gk M E zd;have j:=λx n=>(j x n).gk M E zd;have D:=D.gk M E zd;have R:=R.gk M E zd;have r:=r.gi M a4;gl (Bi Z ?_));rw[qc _ zk];exact gl (jh (i+1,q4,k4,ts++[((S[i].1,⟨q3,k3,q5,k5⟩):Ce)]) Z ⟨⟨Q,A,b,p,by rw[bU,ah,ay];rfl,λy hy=>(aS.1 hy).elim (j y) λe=>by rw[aF.1 e];exact⟨D,R,bs,bt,bu⟩⟩,c,g,f,r⟩ zm);have h0:i=S.length:=by omega
 subst h0;rw[bM] at ah;refine Bh (qr (jf f Z Z (have ad:=g;wl (j9 (l':=[.slice q gs.length k,.slice q2 ts.length k2]) ge g Z Z Z Z OneC.h λcw g W ci=> have A:=A.gk W ad zd;have b:=λx n=>And.intro (b x n).1 ((b x n).2.gk W ad zd zd zd);have p:=p.gk W ad zd;have j:=λx n=>(j x n).gk W ad zd;have r:=r.gi W bg;u3 (gv (u7 [_] ⟨⟨b2,0,Z,ud ge Z Z g.ql Z⟩,trivial⟩ ?_))))));have aw:=congrArg List.length ae;have b9:=congrArg List.length ah;rw[aA,aA] at aw b9;exact⟨⟨q,k,gs,q2,k2,ts⟩,Z,by rw[uz.d,uz.d,ae,ah],⟨A,p,b,j,(by show gs.length<1000000;omega),(by show ts.length<1000000;omega)⟩,r⟩
theorem vf.ext {T:Nat->Prop} {W w w':World} {B:uz} (h:vf W w B) (hE:Ext T w w') (hT:∀y,W.heap.size<=y->¬T y):vf W w' B:=
 ⟨h.os.ext hE λy a _=>hT y a,h.ss.ext hE λy a _=>hT y a,λx b=>⟨(h.o x b).1,⟨(h.o x b).2.ol.ext hE λy c=>hT y ((h.o x b).2.nl y c),(h.o x b).2.op.ext hE λy c=>hT y ((h.o x b).2.np y c),(h.o x b).2.or.ext hE λy c=>hT y ((h.o x b).2.nr y c),(h.o x b).2.nl,(h.o x b).2.np,(h.o x b).2.nr⟩⟩,
  λx b=>⟨(h.s x b).old.ext hE λy a _=>hT y a,(h.s x b).new.ext hE λy a _=>hT y a,(h.s x b).ln,(h.s x b).lo,(h.s x b).lw⟩,h.lo,h.ls⟩
theorem vf.gk {W w w':World} {B:uz} (h:vf W w B) {b T:Nat} {L:List Value} (hE:Ext (One b) w w') (hb:j0 w b T L) (hT:37≠T/\91≠T/\148≠T/\30≠T/\150≠T/\5≠T):vf W w' B:=
 ⟨h.os.gk hE hb hT.1,h.ss.gk hE hb hT.2.1,λx a=>⟨(h.o x a).1,(h.o x a).2.gk hE hb hT.2.2.1 hT.2.2.2.1 hT.2.2.2.2.1⟩,λx a=>(h.s x a).gk hE hb hT.2.2.2.2.2,h.lo,h.ls⟩
theorem Dq.arm {w u u':World} {d sp x:Nat} {z:LsZ} (h:Dq w u d sp x z) (hw:0<w.heap.size) (k:Nat) (hA:At u' d z.F {z.X.W.D with fuse:=(k:Int)}) (hE:Ext z.F u u'):
  Dq w u' d sp x ⟨z.F,z.H,z.K,⟨B8 z.X.W k,z.X.s⟩,z.h,z.S,z.G⟩:=
 ⟨⟨h.st.box.ext hE h.st.sf.1,hA,(h.st.log.ext hE λy a e=>h.st.hf y a e).data Z Z Z Z Z,h.st.has.ext hE λy a e=>(h.st.kf y a).1 e,h.st.eq,h.st.mp,h.st.hf,h.st.kf,h.st.sf,λy a=>aK (h.st.klt y a) hE.size⟩,
  h.say.ext hE λy a e=>h.gf y a (.inl e),h.lo,h.gf,Rt.ext h.rt hE λe=>by have:=h.lo 0 (.inl (.inl e));omega⟩
theorem Pl.run_sto {s:Ax} {n n':Nat} (hs:xx4 s n) (hn:n<=n') {p:Pl} (hp:p.Good s n') (W:Wl):xx4 (p.run W s).1.s n':=by
 have a:xx4 s n':=⟨hs.ok,hs.ins,al hs.few hn⟩
 cases p with
 |stay e=>exact a
 |app c A=>
  show xx4 (if(W.append c).2=0 then A else s) n';split;exact hp.2;exact a
 |ckp c A=>
  show xx4 (if(W.ji c).2=0 then A else s) n';split;exact hp.2;exact a
abbrev SameD (a b : Cu) : Prop := a.hs.map je.o = b.hs.map je.o /\ a.vs.map Prod.fst = b.vs.map Prod.fst
theorem sameD {a b : Cu} (h : a.s = b.s) : SameD a b := ⟨congrArg Ax.row h, congrArg Ax.vals h⟩
theorem storelasts_calls (w:World) (hr:Rt w) {p:Option Addr} {c:Nat} {l:List Cf} (hL1:Sl w p l.length 6 (l.flatMap Cf.cells)) (hc:l.length<=c) (hdL1:∀o∈l,Db w o) {o:Cf} (ho:Db w o)
  {p2:Option Addr} {c2:Nat} {l2:List Cf} (hL2:Sl w p2 l2.length 6 (l2.flatMap Cf.cells)) (hc2:l2.length<=c2) (hdL2:∀o∈l2,Db w o):
  gn prog 8 [.slice p l.length c,o.v,.slice p2 l2.length c2] w λv w'=>v= .bool true/\Ext No w w':=by
 refine gz func8 ?_;have m:=Ext.refl No w;have i2:=hr.lt;have j:=hr;have ok:=ho;refine qr (gt Z λb4 w1 i3 a er=>?_);have j:=Rt.ext j er id;have m:=m.gb er;have a:j0 w1 b4 76 (o.cells):=a;refine kg Z (gp (qr (gj call9 Z (lwakes_calls w1 j) λv2 w2 cm=>?_)));obtain⟨rfl,ea⟩:=cm;have a:=a.ga ea;have j:=Rt.ext j ea id;have m:=m.gb ea;refine kg Z (uc Z (xg (qj Z ?_)));obtain⟨V,hV⟩:∃V:World,V=w2:=⟨_,Z⟩
 have l4:=a.lt;have f6:=m.size;rw[<-hV] at l4 f6;refine gj call40 Z (lived_calls w2 j (hL1.ga m) hc (λo ho=>(hdL1 o ho).ga m)) λv3 w3 f7=>?_;obtain⟨d,sp,x,C,rfl,hl,es,ab,eb⟩:=f7;have a:=a.ga eb;have m:=m.gb eb;rw[<-hV] at hl;have L:=eb.size;rw[<-hV] at L;have i4:=ab.sto.few;have i5:C.h.hs.length=C.X.s.row.length:=by rw[<-hl.st.eq,uk.s,aA]
 refine j6 ge Z ?_;have cn:=hl.lt;refine gt Z λb9 w4 ec g da=>?_;have ed:=j3 a.lt ec;have f8:=al m.size ec;have a:=a.ga da;have hl:=hl.ga da;have L:=al L da.size;have m:=m.gb da;have ee:∀y,C.Bl sp y->¬One b9 y:=xi cn ec;have f9:¬One b9 0:=λe=>by have e:0=b9:=e;omega
 refine j6 ge Z ?_;refine wl (j9 (l':=C.S.c) ge g Z Z Z Z OneC.h λw5 g db i6=>?_);have a:=a.gk db ed;have hl:=hl.ext db ee f9;have L:=al L db.size;have m:=m.gi db f8;refine kg Z (gp (kw Z (uc Z (xg (qj Z ?_)))));obtain⟨U,hU⟩:∃U:World,U=w5:=⟨_,Z⟩
 have bz:=hl.lt;have m4:=a.lt;have m9:=g.lt;rw[<-hU] at bz m4 m9;refine gj call41 Z (dk_copy w5 hl.st.disk ab.dk zd) λv6 w6 gc=>?_;obtain⟨d2,rfl,i7,dc,cg⟩:=gc;have a:=a.ga cg;have g:=g.ga cg;have hl:=hl.ga cg;have L:=al L cg.size;have m:=m.gb cg;rw[<-hU] at dc;have ah:=cg.size;rw[<-hU] at ah;obtain⟨F2,b0,dc⟩:∃F2:Nat->Prop,(∀y,F2 y->U.heap.size<=y)/\At w6 d2 F2 C.X.W.D:=⟨_,λy q=>q.elim (λe=>e.elim) And.left,dc⟩
 have ef:=hl;have cp:=L;have dd:=ah;refine gj call14 Z (yq2 w6 dc ab.dk zd hl.rt (λe=>by have:=b0 0 e;omega)) λv7 w7 gd=>?_;obtain⟨so,F3,rfl,gg,ch,gq,iq,cq⟩:=gd;have a:=a.ext ch (λe=>by have:=b0 b4 e;omega);have g:=g.ext ch (λe=>by have:=b0 b9 e;omega);have m:=m.trans ch λy q e=>by have:=b0 y e;omega
 have L:=al cp ch.size;have ah:=al dd ch.size;obtain⟨D2,gs,ds,cr⟩:=open_down ab.down ab.said;rw[gs] at gg cq|-;obtain⟨cs,x2,H2,K2,h2,rfl,k2,g0⟩:=cq _ Z;have hl:=ef.ext ch (λy q e=>by have:=bz y q;have:=b0 y e;omega) (λe=>by have:=b0 0 e;omega);obtain⟨W2,b1⟩:∃W:Wl,W=upW D2 C.X.W.turn 30 C.X.W.pieces:=⟨_,Z⟩
 rw[<-b1] at cr k2;have eg:W2.D.Ok (42000+5000):=by rw[b1];exact ds.ok
 have de:Calm W2.D:=by rw[b1];exact ds.calm
 obtain⟨z2,bh⟩:∃z:LsZ,z=⟨F3,H2,K2,⟨W2,C.X.s⟩,h2,zw9,λ_=>False⟩:=⟨_,Z⟩
 have bt:z2.X=⟨W2,C.X.s⟩:=by rw[bh]
 have R:Dq U w7 d2 cs x2 z2:=by
  rw[bh]
  exact⟨k2,no_say _,λy q=>by
   rcases q with(q|q)|q
   exact(gq y q).elim (b0 y) λe=>by omega
   have:=g0 y q;omega
   exact q.elim,λy q=>q.elim,hl.rt⟩
 refine kg Z (gp (kw Z (uc Z (xg (qr (jf a Z (Cc _) (j6 ge Z (gx Z (g.cell Z) ?_))))))));obtain⟨W3,et⟩:∃W:World,W=w7:=⟨_,Z⟩
 have dt:=R.lt;have g1:=ah;rw[<-et] at dt g1;refine gj call42 Z (linked_calls w7 (ho.ga m) hl.say.at_.row hl.say.held hl.say.at_.few) λv8 w8 g2=>?_;obtain⟨B,rfl,ir,P,b2⟩:=g2;have a:=a.ga b2;have g:=g.ga b2;have hl:=hl.ga b2;have L:=al L b2.size;have ah:=al ah b2.size;have R:=R.ga b2;have m:=m.gb b2;rw[<-et] at P;have cn:=hl.lt;have eu:=R.lt;refine gt Z λbp w9 bu E bv=>?_;have df:=j3 a.lt bu;have dg:=j3 g.lt bu;have ev:=al m.size bu;have a:=a.ga bv;have g:=g.ga bv;have hl:=hl.ga bv;have L:=al L bv.size;have ah:=al ah bv.size;have R:=R.ga bv;have P:=P.ga bv;have m:=m.gb bv;have du:∀y,C.Bl sp y->¬One bp y:=xi cn bu;have dv:∀y,z2.Bl cs y->¬One bp y:=xi eu bu;have dw:¬One bp 0:=λe=>by have e:0=bp:=e;omega
 have eh:=E;refine wl (j9 (l':=B.c) ge E Z Z Z Z OneC.h λg3 E a3 it=>?_);have a:=a.gk a3 df;have g:=g.gk a3 dg;have hl:=hl.ext a3 du dw;have L:=al L a3.size;have ah:=al ah a3.size;have R:=R.ext a3 dv dw;have P:=P.gk a3 eh zd;have m:=m.gi a3 ev;refine u3 (qj Z (jf E Z Z (gj call43 Z (copy10_calls g3 P.at) λi8 g4 ew=>?_)));obtain⟨B3,rfl,ex,g5,ai⟩:=ew;have a:=a.ga ai;have g:=g.ga ai;have E:=E.ga ai;have hl:=hl.ga ai;have L:=al L ai.size;have ah:=al ah ai.size;have R:=R.ga ai;have P:=P.ga ai;have m:=m.gb ai;have ci:¬StS z2.F z2.H cs b4:=λe=>by have:=R.lo b4 (.inl (vr _ e));omega
 have cj:¬StS z2.F z2.H cs b9:=λe=>by have:=R.lo b9 (.inl (vr _ e));omega
 have ct:¬StS z2.F z2.H cs bp:=λe=>dv bp (.inl (vr _ e)) Z;have iu:z2.h.hs.length=C.X.s.row.length:=by have e:=R.st.eq;rw[bt] at e;rw[<-(show z2.h.s=C.X.s from e),uk.s,aA]
 have ef:=hl;have cu:=P;have cp:=L;have dd:=ah;refine gj call15 Z (C9 g4 (B:=B3) R.st (by rw[bt];exact eg) zd (by rw[bt];exact cr) R.rt (λe=>by have:=R.lo 0 (.inl (.inl e));omega) g5.at (by rw[bt];exact ab.sto.ok) zk) λi9 g6 ey=>?_;obtain⟨rfl,ei,aj⟩:=ey;have a:=a.ext aj ci;have g:=g.ext aj cj;have E:=E.ext aj ct;have m:=m.trans aj λy q e=>by have:=R.lo y (.inl (vr y e));omega
 have L:=al cp aj.size;have ah:=al dd aj.size;obtain⟨z3,g7,dh,_,_,_⟩:=R.com zk dd ei aj;have hl:=ef.ext aj (λy q e=>by have:=bz y q;have:=R.lo y (.inl (vr y e));omega) (λe=>by have:=R.lo 0 (.inl (vr 0 e));omega);have P:=cu.ext aj λy q e=>by have:=dt y (.inl (vr y e));omega
 have g8:∀o∈B.d.objs,ub o:=λo ho=>by obtain⟨x,hx,rfl⟩:=aZ.1 ho;exact(P.o x hx).1.1
 obtain⟨p,hp,dx⟩:=commit_pl ab.sto g8 C.X.W.size C.X.W.used;have ji:B.d.objs.length=B.os.length:=aA ..;have ez:W2.size=C.X.W.size:=by rw[b1,ab.size]
 have e0:W2.used=C.X.W.used:=by rw[b1,ab.firm.used]
 have e1:W2.broken=C.X.W.broken:=by rw[b1,ab.well]
 have g9:W2.turn=C.X.W.turn:=by rw[b1]
 obtain⟨r2,cm⟩:∃r,r=p.run W2 C.X.s:=⟨_,Z⟩
 have hc2:vi ⟨W2,C.X.s⟩ B.d=r2:=(dx W2 (e1.trans ab.well) ez e0).trans cm.symm;rw[bt,ex,hc2] at dh|-;have cv:xx4 r2.1.s (216+B.d.objs.length):=by rw[cm];exact Pl.run_sto ab.sto zk hp W2
 refine kg Z (qj Z ?_);have ha:=ah;refine gj call44 Z (xj7 g6 g7.st (by rw[dh];exact cv.ok) (by rw[dh];have:=cv.few;omega)) λjx hb e2=>?_;obtain⟨T,rfl,hd,he,hf,bf⟩:=e2;have a:=a.ga bf;have g:=g.ga bf;have E:=E.ga bf;have hl:=hl.ga bf;have L:=al L bf.size;have P:=P.ga bf;have m:=m.gb bf;have hh:T.s=r2.1.s:=by rw[<-dh];exact sto_eq hd he
 obtain⟨G2,cw,M⟩:∃G2:Nat->Prop,(∀y,G2 y->U.heap.size<=y)/\Aq hb G2 T:=⟨_,λy q=>al ha q.1,hf.say⟩
 refine j6 ge Z ?_;have cn:=hl.lt;have hj:=M.lt;refine gt Z λQ kb bk f a4=>?_;have di:=j3 a.lt bk;have dj:=j3 g.lt bk;have cx:=j3 E.lt bk;have e3:=al m.size bk;have a:=a.ga a4;have g:=g.ga a4;have E:=E.ga a4;have hl:=hl.ga a4;have L:=al L a4.size;have P:=P.ga a4;have M:=M.ga a4;have m:=m.gb a4;have cy:∀y,C.Bl sp y->¬One Q y:=xi cn bk;have e4:∀y,G2 y->¬One Q y:=xi hj bk;have e5:¬One Q 0:=λe=>by have e:0=Q:=e;omega
 have ej:=f;refine wl (j9 (l':=T.c) ge f Z Z Z Z OneC.h λhk f a5 iv=>?_);have a:=a.gk a5 di;have g:=g.gk a5 dj;have E:=E.gk a5 cx;have hl:=hl.ext a5 cy e5;have L:=al L a5.size;have P:=P.gk a5 ej zd;have M:=M.ext a5 e4;have m:=m.gi a5 e3;obtain⟨k9,hm⟩:∃k9,k9=u64N o.num%60:=⟨_,Z⟩
 obtain⟨z4,cz⟩:∃z:LsZ,z=⟨C.F,C.H,C.K,⟨B8 C.X.W k9,C.X.s⟩,C.h,C.S,C.G⟩:=⟨_,Z⟩
 refine kg Z (gp ?_);refine ju (α:=Bool) [2,4,7,8,9,13,14,15] Z (λz=>[(68,.bool z)]) (λz u=>(z=false/\Dq V u d sp x z4/\vf W3 u B/\Aq u G2 T/\V.heap.size<=u.heap.size)/\j0 u b4 76 (o.cells)/\j0 u b9 102 (C.S.c)/\j0 u bp 25 (B.c)/\j0 u Q 102 (T.c)/\Ext No w u) ?_ ?_;refine j1 ?_;refine j6 ge Z (ut 59 Z (λhg=>?_) (λhg=>?_));cases hg;refine j4 ge 2 Z ?_;refine gx Z (a.cell Z) (j4 ge 3 Z ?_);have ci:¬C.F b4:=λe=>by have:=hl.lo b4 (.inl (.inl e));omega
 have cj:¬C.F b9:=λe=>ee b9 (.inl (.inl e)) Z;have ct:¬C.F bp:=λe=>du bp (.inl (.inl e)) Z;have cd:¬C.F Q:=λe=>cy Q (.inl (.inl e)) Z;have cp:=L;have cu:=P;have ad:=M;refine gj call45 Z (dk_arm hk hl.st.disk (IntKind.i64.wrap ((IntKind.u64.wrap o.num).tmod 60))) λkd kf e6=>?_;obtain⟨rfl,e7,ak⟩:=e6;have a:=a.ext ak ci;have g:=g.ext ak cj;have E:=E.ext ak ct;have f:=f.ext ak cd;have m:=m.trans ak λy q e=>by have:=hl.lo y (.inl (.inl e));omega
 have L:=al cp ak.size;have e8:C.X.W.D.arm (IntKind.i64.wrap ((IntKind.u64.wrap o.num).tmod 60))=({C.X.W.D with fuse:=(k9:Int)},0):=by rw[show(IntKind.i64.wrap ((IntKind.u64.wrap o.num).tmod 60))=(k9:Int) from by rw[hm];exact u64_mod o.num 60 zd zd,arm_calm ab.calm]
 rw[e8] at e7|-;have bq:=hl.arm zk k9 e7 ak;rw[<-cz] at bq;have P:=cu.ext ak λy q e=>by have:=bz y (.inl (.inl e));omega
 have M:=ad.ext ak λy q e=>by have:=bz y (.inl (.inl e));have:=cw y q;omega
 refine j4 ge 2 Z (gl ?_);exact j2 (_) Z ⟨⟨by simp,bq,P,M,L⟩,a,g,E,f,m⟩;rintro z ek ⟨⟨rfl,bq,P,M,L⟩,a,g,E,f,m⟩;refine uc Z (xg (qj Z (jf E Z Z ?_)));have ce:∀y,StB C.F C.H C.K sp y->V.heap.size<=y:=λy q=>by have e:=bq.lo y (.inl (by rw[cz];exact q));exact e
 have ae:∀y,C.F y->V.heap.size<=y:=λy q=>ce y (.inl q);have ci:¬StS C.F C.H sp b4:=λe=>by have:=ce b4 (vr _ e);omega
 have cj:¬StS C.F C.H sp b9:=λe=>ee b9 (.inl (vr _ e)) Z;have cd:¬StS C.F C.H sp Q:=λe=>cy Q (.inl (vr _ e)) Z;obtain⟨N0,em⟩:∃n,n=ek.heap.size:=⟨_,Z⟩
 have p4:=a.lt;have p9:=g.lt;have hn:=E.lt;have hq:=f.lt;have N:Aq ek C.G C.S:=by have e:=bq.say;rw[cz] at e;exact e
 have bi:=N.lt;have bj:=M.lt;have ad:=M;have e9:=bq;rw[<-em] at p4 p9 hn hq bi bj;have fa:∀y,C.G y->¬StB C.F C.H C.K sp y:=by have e:=bq.gf;rw[cz] at e;exact e
 have b3:∀y,C.G y->¬C.F y:=λy q e=>fa y q (.inl e);have bh:∀y,G2 y->¬C.F y:=λy q e=>by have:=bz y (.inl (.inl e));have:=cw y q;omega
 have c0:¬C.F b4:=λe=>ci (.inl e);have c1:¬C.F b9:=λe=>cj (.inl e);have b5:¬C.F Q:=λe=>cd (.inl e);refine gj call15 Z (C9 ek (B:=B) (X:=⟨B8 C.X.W k9,C.X.s⟩) (h:=C.h) (F:=C.F) (H:=C.H) (K:=C.K) (by have e:=bq.st;rw[cz] at e;exact e) (zj1 ab.dk zk) zd (ab.wl.armed _) bq.rt (λe=>by have:=ae 0 e;omega) P.at ab.sto.ok zk) λkh fb fc=>?_;obtain⟨rfl,ei,a6⟩:=fc;have a:=a.ext a6 ci;have g:=g.ext a6 cj;have f:=f.ext a6 cd;have m:=m.trans a6 λy q e=>by have:=ce y (vr y e);omega
 obtain⟨F5,H5,K5,h5,k5,a0,_,_⟩:=ei;rw[<-em] at a0;have hD:=k5.disk;have A:=N.ext a6 λy q e=>fa y q (vr y e);have M:=ad.ext a6 λy q e=>by have:=bz y (.inl (vr y e));have:=cw y q;omega
 have j:=Rt.ext e9.rt a6 λe=>by have:=ce 0 (vr 0 e);omega
 have O:=a6.size;rw[<-em] at O;have c3:=ab.ends (n':=216+B.d.objs.length) zk hp de cr ez e0 e1 g9 (k:=k9) zk (zw3 o);have ht:vi ⟨B8 C.X.W k9,C.X.s⟩ B.d=p.run (B8 C.X.W k9) C.X.s:=dx (B8 C.X.W k9) ab.well Z Z;rw[ht] at hD|-;obtain⟨r1,hu⟩:∃r,r=p.run (B8 C.X.W k9) C.X.s:=⟨_,Z⟩
 rw[<-hu] at c3 hD|-;rw[<-cm] at c3;obtain⟨dz,hv,t,ps,hw,aa,c4,cf,fd⟩:=c3;have br:¬F5 b4:=λe=>(a0 b4 e).elim c0 λe=>by omega
 have bs:¬F5 b9:=λe=>(a0 b9 e).elim c1 λe=>by omega
 have am:¬F5 Q:=λe=>(a0 Q e).elim b5 λe=>by omega
 refine kg Z (gp ?_);refine ju (α:=Bool) [2,7,9,12,14,15] Z (λz=>[(85,.bool z)]) (λz u=>(z=false/\At u d F5 (r1.1.W.D.vm (zw3 o))/\Aq u C.G C.S/\Aq u G2 T/\Rt u/\N0<=u.heap.size)/\j0 u b4 76 (o.cells)/\j0 u b9 102 (C.S.c)/\j0 u Q 102 (T.c)/\Ext No w u) ?_ ?_;refine j1 ?_;refine j6 ge Z (jw 75 Z (λhg=>?_) (λhg=>?_));have en:=hg;refine j4 ge 4 Z (jw 79 Z (λhg=>?_) (λhg=>?_));exact absurd (hv.resolve_left en) hg;refine j4 ge 1 Z ?_;refine jf a Z (Cc _) ?_;have b6:=hD.lt;refine gj call47 Z (zz5 fb o (ok.k.ga m) ok.kc) λkk hz fe=>?_;obtain⟨kq,kc,rfl,b7,b8,an⟩:=fe;have a:=a.ga an;have g:=g.ga an;have f:=f.ga an;have j:=Rt.ext j an id;have M:=M.ga an;have A:=A.ga an;have O:=al O an.size;have hD:=hD.ga an;have m:=m.gb an;have N:=A;have ad:=M;have Y:=j;have ac:=O;refine gj call46 Z (xw4 hz hD dz zd Z b7 (λb ca e hF=>by have:=b6 b hF;have:=b8 b ca e;omega)) λkn kp ff=>?_;obtain⟨rfl,hA,a7⟩:=ff;have a:=a.ext a7 br;have g:=g.ext a7 bs;have f:=f.ext a7 am;have m:=m.trans a7 λy q e=>(a0 y e).elim (λe=>by have:=ae y e;omega) λe=>by omega
 have A:=N.ext a7 λy q e=>(a0 y e).elim (b3 y q) λe=>by have:=bi y q;omega
 have M:=ad.ext a7 λy q e=>(a0 y e).elim (bh y q) λe=>by have:=bj y q;omega
 have j:=Rt.ext Y a7 λe=>(a0 0 e).elim (λe=>by have:=ae 0 e;omega) λe=>by omega
 have O:=al ac a7.size;refine j4 ge 2 Z (gl ?_);exact j2 (_) Z ⟨⟨by simp,hA,A,M,j,O⟩,a,g,f,m⟩;refine j4 ge 5 Z ?_;refine jf a Z (Cc _) ?_;have b6:=hD.lt;refine gj call47 Z (zz5 fb o (ok.k.ga m) ok.kc) λkr h0 fg=>?_;obtain⟨kq,kc,rfl,b7,b8,ap⟩:=fg;have a:=a.ga ap;have g:=g.ga ap;have f:=f.ga ap;have j:=Rt.ext j ap id;have M:=M.ga ap;have A:=A.ga ap;have O:=al O ap.size;have hD:=hD.ga ap;have m:=m.gb ap;have N:=A;have ad:=M;have Y:=j;have ac:=O;refine gj call46 Z (xw4 h0 hD dz zd Z b7 (λb ca e hF=>by have:=b6 b hF;have:=b8 b ca e;omega)) λks kt fh=>?_;obtain⟨rfl,hA,a8⟩:=fh;have a:=a.ext a8 br;have g:=g.ext a8 bs;have f:=f.ext a8 am;have m:=m.trans a8 λy q e=>(a0 y e).elim (λe=>by have:=ae y e;omega) λe=>by omega
 have A:=N.ext a8 λy q e=>(a0 y e).elim (b3 y q) λe=>by have:=bi y q;omega
 have M:=ad.ext a8 λy q e=>(a0 y e).elim (bh y q) λe=>by have:=bj y q;omega
 have j:=Rt.ext Y a8 λe=>(a0 0 e).elim (λe=>by have:=ae 0 e;omega) λe=>by omega
 have O:=al ac a8.size;refine j4 ge 2 Z (gl ?_);exact j2 (_) Z ⟨⟨by simp,hA,A,M,j,O⟩,a,g,f,m⟩;rintro z kv ⟨⟨rfl,hD,A,M,j,O⟩,a,g,f,m⟩;refine uc Z (xg (gp (qj Z (wl (Ba ge Z 0 (min l2.length 4) c2 6 Z (.inr ⟨Z,Z⟩) (.inl (congrArg some (minI _ _))) (.inr ⟨Z,Z⟩) (aJ _) zk (aB _) ?_)))));rw[qe,bB,bB];obtain⟨D5,h1⟩:∃D,D=r1.1.W.D.vm (zw3 o):=⟨_,Z⟩
 rw[<-h1] at hD aa;refine kg Z (j8 ?_);refine jl (α:=Nat×(Nat->Prop)×kj) [7,9,12,14,15,90,91] Z (λz=>[(92,.int .i64 (z.1:Int))]) (λz u=>(z.1<=min l2.length 4/\At u d z.2.1 z.2.2/\Down z.2.2 (100000+5000*z.1) 62 t 30 ps/\(∀y,z.2.1 y->C.F y\/N0<=y)/\Aq u C.G C.S/\Aq u G2 T/\Rt u/\N0<=u.heap.size)/\j0 u b4 76 (o.cells)/\j0 u b9 102 (C.S.c)/\j0 u Q 102 (T.c)/\Ext No w u) (λz u=>min l2.length 4-z.1) (0,F5,D5) Z ⟨⟨aJ _,hD,aa.mono zk,a0,A,M,j,O⟩,a,g,f,m⟩ ?_;rintro⟨i,F,D⟩ h3 ⟨⟨hi,hD,aa,hF,A,M,j,O⟩,a,g,f,m⟩;try dsimp only
 dsimp only at hi hD aa hF;have br:¬F b4:=λe=>(hF b4 e).elim c0 λe=>by omega
 have bs:¬F b9:=λe=>(hF b9 e).elim c1 λe=>by omega
 have am:¬F Q:=λe=>(hF Q e).elim b5 λe=>by omega
 refine vo Z (jy Z (λhc=>?_) (λhc=>?_));have fi:i<l2.length:=by omega
 obtain⟨pb,po,h4,h7⟩:=(hL2.ga m).qm (λr _=>Cc r) zk;rw[h4];obtain⟨o8,fj⟩:∃o,o=l2[i]:=⟨_,Z⟩
 have dm:Db w o8:=by rw[fj];exact hdL2 _ (aC fi)
 refine Bn (qr (ki Z 6 Z i Z zk (po+i*6) Z (jk Z (h7 i fi) (Cc _) ?_)));rw[<-fj];have h8:=hD.lt;have ac:=O;refine gt Z λc5 kx bm af aq=>?_;have dn:=j3 a.lt bm;have dp:=j3 g.lt bm;have c6:=j3 f.lt bm;have fk:=al m.size bm;have a:=a.ga aq;have g:=g.ga aq;have f:=f.ga aq;have j:=Rt.ext j aq id;have M:=M.ga aq;have A:=A.ga aq;have O:=al O aq.size;have hD:=hD.ga aq;have m:=m.gb aq;have iw:=al ac bm;have d0:∀y,F y->¬One c5 y:=xi h8 bm;have d1:¬F c5:=λe=>d0 _ e Z;refine wl (j9 (l':=o8.cells) ge af Z Z Z Z OneC.h λh9 af ar ix=>?_);have a:=a.gk ar dn;have g:=g.gk ar dp;have f:=f.gk ar c6;have j:=Rt.ext j ar (λe=>by have e:0=c5:=e;omega);have M:=M.ext ar (λy q e=>by have e:y=c5:=e;have:=bj y q;omega);have A:=A.ext ar (λy q e=>by have e:y=c5:=e;have:=bi y q;omega);have O:=al O ar.size;have hD:=hD.ext ar d0;have m:=m.gi ar fk;refine u3 (qj Z (gx Z (af.cell Z) (j6 ge Z ?_)));have N:=A;have ad:=M;have Y:=j;have ac:=O;refine gj call45 Z (dk_arm h9 hD (IntKind.i64.wrap ((IntKind.u64.wrap o8.num).tmod 14))) λk0 fm fn=>?_;obtain⟨rfl,d3,au⟩:=fn;have a:=a.ext au br;have g:=g.ext au bs;have f:=f.ext au am;have af:=af.ext au d1;have m:=m.trans au λy q e=>(hF y e).elim (λe=>by have:=ae y e;omega) λe=>by omega
 have A:=N.ext au λy q e=>(hF y e).elim (b3 y q) λe=>by have:=bi y q;omega
 have M:=ad.ext au λy q e=>(hF y e).elim (bh y q) λe=>by have:=bj y q;omega
 have j:=Rt.ext Y au λe=>(hF 0 e).elim (λe=>by have:=ae 0 e;omega) λe=>by omega
 have O:=al ac au.size;obtain⟨k8,ia⟩:∃k,k=u64N o8.num%14:=⟨_,Z⟩
 have c7:D.arm (IntKind.i64.wrap ((IntKind.u64.wrap o8.num).tmod 14))=({D with fuse:=(k8:Int)},0):=by rw[show(IntKind.i64.wrap ((IntKind.u64.wrap o8.num).tmod 14))=(k8:Int) from by rw[ia];exact u64_mod o8.num 14 zd zd,arm_calm aa.calm]
 rw[c7] at d3;rw[c7];have hD:=d3;refine u3 (qj Z ?_);have N:=A;have ad:=M;have Y:=j;have ac:=O;obtain⟨k1,d4⟩:∃n,n=fm.heap.size:=⟨_,Z⟩
 have ib:=af.lt;rw[<-d4] at ib;refine gj call14 Z (yq2 fm hD (zj1 aa.ok (n:=k8) zk) zk j (λe=>(hF 0 e).elim (λe=>by have:=ae 0 e;omega) λe=>by omega)) λk3 fp fq=>?_;obtain⟨so,ck,rfl,d5,av,d6,_,_⟩:=fq;have a:=a.ext av br;have g:=g.ext av bs;have f:=f.ext av am;have af:=af.ext av d1;have m:=m.trans av λy q e=>(hF y e).elim (λe=>by have:=ae y e;omega) λe=>by omega
 have A:=N.ext av λy q e=>(hF y e).elim (b3 y q) λe=>by have:=bi y q;omega
 have M:=ad.ext av λy q e=>(hF y e).elim (bh y q) λe=>by have:=bj y q;omega
 have j:=Rt.ext Y av λe=>(hF 0 e).elim (λe=>by have:=ae 0 e;omega) λe=>by omega
 have O:=al ac av.size;rw[<-d4] at d6 ac;have bd:∀y,ck y->C.F y\/N0<=y:=λy q=>(d6 y q).elim (hF y) λe=> .inr zk;obtain⟨cb,d7,d8⟩:=open_armed aa c4 (k:=k8) zk;obtain⟨X,fr⟩:∃X,X=Cs {D with fuse:=(k8:Int)}:=⟨_,Z⟩
 rw[<-fr] at cb d7 d8 d5|-;have hD:=d5;have br:¬ck b4:=λe=>(bd b4 e).elim c0 λe=>by omega
 have bs:¬ck b9:=λe=>(bd b9 e).elim c1 λe=>by omega
 have am:¬ck Q:=λe=>(bd Q e).elim b5 λe=>by omega
 refine kg Z ?_;refine ju (α:=Bool) [7,9,12,14,15,90,91,92] Z (λz=>[(120,.bool z)]) (λz u=>(z=false/\At u d ck (X.1.vm (zw3 o8))/\Aq u C.G C.S/\Aq u G2 T/\Rt u/\N0<=u.heap.size)/\j0 u b4 76 (o.cells)/\j0 u b9 102 (C.S.c)/\j0 u Q 102 (T.c)/\Ext No w u) ?_ ?_;refine j1 ?_;refine j6 ge Z (jw 110 Z (λhg=>?_) (λhg=>?_));have en:=hg;refine j4 ge 4 Z (jw 114 Z (λhg=>?_) (λhg=>?_));exact absurd (d7.resolve_left en) hg;refine j4 ge 1 Z ?_;refine jf af Z (Cc _) ?_;have b6:=hD.lt;refine gj call47 Z (zz5 fp o8 (dm.k.ga m) dm.kc) λk4 ic fs=>?_;obtain⟨kq,kc,rfl,b7,b8,aw⟩:=fs;have a:=a.ga aw;have g:=g.ga aw;have f:=f.ga aw;have j:=Rt.ext j aw id;have M:=M.ga aw;have A:=A.ga aw;have O:=al O aw.size;have hD:=hD.ga aw;have m:=m.gb aw;have N:=A;have ad:=M;have Y:=j;have ac:=O;refine gj call46 Z (xw4 ic hD cb zk Z b7 (λb ca e hF=>by have:=b6 b hF;have:=b8 b ca e;omega)) λk7 ma ft=>?_;obtain⟨rfl,hA,a9⟩:=ft;have a:=a.ext a9 br;have g:=g.ext a9 bs;have f:=f.ext a9 am;have m:=m.trans a9 λy q e=>(bd y e).elim (λe=>by have:=ae y e;omega) λe=>by omega
 have A:=N.ext a9 λy q e=>(bd y e).elim (b3 y q) λe=>by have:=bi y q;omega
 have M:=ad.ext a9 λy q e=>(bd y e).elim (bh y q) λe=>by have:=bj y q;omega
 have j:=Rt.ext Y a9 λe=>(bd 0 e).elim (λe=>by have:=ae 0 e;omega) λe=>by omega
 have O:=al ac a9.size;refine j4 ge 2 Z (gl ?_);exact j2 (_) Z ⟨⟨by simp,hA,A,M,j,O⟩,a,g,f,m⟩;refine j4 ge 5 Z ?_;refine jf af Z (Cc _) ?_;have b6:=hD.lt;refine gj call47 Z (zz5 fp o8 (dm.k.ga m) dm.kc) λmb ie fu=>?_;obtain⟨kq,kc,rfl,b7,b8,ax⟩:=fu;have a:=a.ga ax;have g:=g.ga ax;have f:=f.ga ax;have j:=Rt.ext j ax id;have M:=M.ga ax;have A:=A.ga ax;have O:=al O ax.size;have hD:=hD.ga ax;have m:=m.gb ax;have N:=A;have ad:=M;have Y:=j;have ac:=O;refine gj call46 Z (xw4 ie hD cb zk Z b7 (λb ca e hF=>by have:=b6 b hF;have:=b8 b ca e;omega)) λmc md fv=>?_;obtain⟨rfl,hA,ba⟩:=fv;have a:=a.ext ba br;have g:=g.ext ba bs;have f:=f.ext ba am;have m:=m.trans ba λy q e=>(bd y e).elim (λe=>by have:=ae y e;omega) λe=>by omega
 have A:=N.ext ba λy q e=>(bd y e).elim (b3 y q) λe=>by have:=bi y q;omega
 have M:=ad.ext ba λy q e=>(bd y e).elim (bh y q) λe=>by have:=bj y q;omega
 have j:=Rt.ext Y ba λe=>(bd 0 e).elim (λe=>by have:=ae 0 e;omega) λe=>by omega
 have O:=al ac ba.size;refine j4 ge 2 Z (gl ?_);exact j2 (_) Z ⟨⟨by simp,hA,A,M,j,O⟩,a,g,f,m⟩;rintro z me ⟨⟨rfl,hD,A,M,j,O⟩,a,g,f,m⟩;refine uc Z (qf (Bi Z ?_));rw[qc _ zk];refine gl ?_;exact jh (i+1,ck,X.1.vm (zw3 o8)) Z ⟨⟨by dsimp only;omega,hD,(d8 (zw3 o8)).mono zt,bd,A,M,j,O⟩,a,g,f,m⟩ zm;refine xt ?_;refine qs (qs (ux (jq (qj Z ?_))));have N:=A;have ad:=M;have Y:=j;have ac:=O;refine gj call14 Z (yq2 h3 hD aa.ok zk j (λe=>(hF 0 e).elim (λe=>by have:=ae 0 e;omega) λe=>by omega)) λmf ig fw=>?_;obtain⟨so,mg,rfl,iy,bb,iz,_,cq⟩:=fw;have a:=a.ext bb br;have g:=g.ext bb bs;have f:=f.ext bb am;have m:=m.trans bb λy q e=>(hF y e).elim (λe=>by have:=ae y e;omega) λe=>by omega
 have A:=N.ext bb λy q e=>(hF y e).elim (b3 y q) λe=>by have:=bi y q;omega
 have M:=ad.ext bb λy q e=>(hF y e).elim (bh y q) λe=>by have:=bj y q;omega
 have j:=Rt.ext Y bb λe=>(hF 0 e).elim (λe=>by have:=ae 0 e;omega) λe=>by omega
 have O:=al ac bb.size;obtain⟨mh,ep,_,_⟩:=open_down aa c4;rw[ep] at cq|-;obtain⟨mi,x6,H6,K6,h6,rfl,k6,_⟩:=cq _ Z;refine kg Z (gp (kw Z (uc Z (xg (qj Z ?_)))));refine gj call44 Z (xj7 ig k6 cf.ok (by dsimp only;have:=cf.few;omega)) λmj ih fx=>?_;obtain⟨T3,rfl,c8,fy,fz,bc⟩:=fx;have a:=a.ga bc;have g:=g.ga bc;have f:=f.ga bc;have j:=Rt.ext j bc id;have M:=M.ga bc;have A:=A.ga bc;have O:=al O bc.size;have m:=m.gb bc;have d9:T3.s=hw:=sto_eq c8 fy;obtain⟨G3,I⟩:∃G3:Nat->Prop,Aq ih G3 T3:=⟨_,fz.say⟩
 refine j6 ge Z ?_;have f0:=I.lt;have ac:=O;refine gt Z λcc mm bn J ay=>?_;have dq:=j3 a.lt bn;have dr:=j3 g.lt bn;have c9:=j3 f.lt bn;have f1:=al m.size bn;have a:=a.ga ay;have g:=g.ga ay;have f:=f.ga ay;have j:=Rt.ext j ay id;have M:=M.ga ay;have A:=A.ga ay;have O:=al O ay.size;have I:=I.ga ay;have m:=m.gb ay;have i0:=al ac bn;have f2:∀y,G3 y->¬One cc y:=xi f0 bn;refine wl (j9 (l':=T3.c) ge J Z Z Z Z OneC.h λii J az i1=>?_);have a:=a.gk az dq;have g:=g.gk az dr;have f:=f.gk az c9;have j:=Rt.ext j az (λe=>by have e:0=cc:=e;omega);have M:=M.ext az (λy q e=>by have e:y=cc:=e;have:=bj y q;omega);have A:=A.ext az (λy q e=>by have e:y=cc:=e;have:=bi y q;omega);have O:=al O az.size;have I:=I.ext az f2;have m:=m.gi az f1;refine kg Z ?_;refine ju (α:=Bool) [10,14,15,22] Z (λz=>[(23,.bool z)]) (λz u=>(z=decide (r1.2≠0/\SameD T3 C.S)/\Aq u G3 T3/\Aq u C.G C.S/\Aq u G2 T/\Rt u/\N0<=u.heap.size)/\j0 u b4 76 (o.cells)/\j0 u b9 102 (C.S.c)/\j0 u Q 102 (T.c)/\j0 u cc 102 (T3.c)/\Ext No w u) ?_ ?_;refine j1 ?_;refine j6 ge Z (jw 136 Z (λhg=>?_) (λhg=>?_));refine jf J Z Z ?_;refine jf g Z Z (gj call48 Z (yv0 ii I.at_ A.at_) λmn mp f3=>?_);obtain⟨rfl,ag⟩:=f3;have a:=a.ga ag;have g:=g.ga ag;have f:=f.ga ag;have J:=J.ga ag;have j:=Rt.ext j ag id;have M:=M.ga ag;have A:=A.ga ag;have O:=al O ag.size;have I:=I.ga ag;have m:=m.gb ag;refine j6 ge Z (gl ?_);exact j2 (_) Z ⟨⟨by rw[aP];exact⟨λe=>⟨hg,e⟩,And.right⟩,I,A,M,j,O⟩,a,g,f,J,m⟩;refine j4 ge 5 Z ?_;refine gl ?_;exact j2 (false) Z ⟨⟨by symm;rw[aE];exact λe=>hg e.1,I,A,M,j,O⟩,a,g,f,J,m⟩;rintro z5 ij ⟨⟨ik,I,A,M,j,O⟩,a,g,f,J,m⟩;refine ju (α:=Bool) [10,22,23] Z (λz=>[(24,.bool z)]) (λz u=>(z=decide (r2.2=0/\SameD T3 T)/\Aq u G3 T3/\Rt u)/\j0 u b4 76 (o.cells)/\j0 u b9 102 (C.S.c)/\j0 u Q 102 (T.c)/\j0 u cc 102 (T3.c)/\Ext No w u) ?_ ?_;refine j1 ?_;refine j6 ge Z (jw 143 Z (λhg=>?_) (λhg=>?_));refine jf J Z Z ?_;refine jf f Z Z (gj call48 Z (yv0 ij I.at_ M.at_) λmq mr f4=>?_);obtain⟨rfl,bg⟩:=f4;have a:=a.ga bg;have g:=g.ga bg;have f:=f.ga bg;have J:=J.ga bg;have j:=Rt.ext j bg id;have I:=I.ga bg;have m:=m.gb bg;refine j6 ge Z (gl ?_);exact j2 (_) Z ⟨⟨by rw[aP];exact⟨λe=>⟨hg,e⟩,And.right⟩,I,j⟩,a,g,f,J,m⟩;refine j4 ge 5 Z ?_;refine gl ?_;exact j2 (false) Z ⟨⟨by symm;rw[aE];exact λe=>hg e.1,I,j⟩,a,g,f,J,m⟩;rintro z6 im ⟨⟨ip,I,j⟩,a,g,f,J,m⟩;refine ju (α:=Bool) [] Z (λz=>[(6,.bool z)]) (λz u=>(z=true)/\j0 u b4 76 (o.cells)/\j0 u b9 102 (C.S.c)/\j0 u Q 102 (T.c)/\j0 u cc 102 (T3.c)/\Ext No w u) ?_ ?_;refine j1 ?_;refine j6 ge Z (ut 149 Z (λhg=>?_) (λhg=>?_));refine j4 ge 1 Z ?_;refine gx Z (J.cell Z) ?_;refine gj call49 Z (whole_calls im j I.at_.row I.at_.o I.at_.few (λx hx=>cf.ok.objs _ (by rw[<-c8];exact cW hx)) (by have e:=cf.ok.ahead;rw[<-c8] at e;exact e)) λms mt f5=>?_;obtain⟨rfl,bw⟩:=f5;have a:=a.ga bw;have g:=g.ga bw;have f:=f.ga bw;have J:=J.ga bw;have m:=m.gb bw;refine j6 ge Z (ut 154 Z (λhg=>?_) (λhg=>?_));refine j4 ge 2 Z ?_;refine ut 156 Z (λhg=>?_) (λhg=>?_);refine j4 ge 4 Z ?_;refine gl ?_;exact j2 (true) Z ⟨Z,a,g,f,J,m⟩;refine j4 ge 4 Z ?_;refine gl ?_;exact j2 (_) Z ⟨(by rw[ip];rw[ik] at hg;refine bZ ?_;rcases fd with⟨a1,a2⟩|⟨a1,a2⟩;exact absurd ⟨a1,sameD (by rw[d9,a2,es])⟩ (of_decide_eq_false hg);exact⟨a1,sameD (by rw[d9,a2,hh])⟩),a,g,f,J,m⟩;cases hg;cases hg;rintro z mu ⟨rfl,a,g,f,J,m⟩;refine gv (gy Z Z ?_);exact⟨Z,m⟩
end Go.Proofs.YtpdiphfjmepijaaGreatDoor
