/- Proved: laws of a machine of values; no conditions but each theorem's own. -/
import Derived.Test.YtidjknjilnopnaaGreatDoorChecked
import Derived.Test.YtidjknjilnopnaaGreatDoorRows
import Derived.Test.YtidjknjilnopnaaGreatDoorTypesToVmH1
import Derived.Test.YtidjknjilnopnaaGreatDoorVmZ2ToVmZ3
set_option linter.unusedVariables false
set_option linter.unusedSimpArgs false
set_option maxRecDepth 20000
set_option maxHeartbeats 8000000
section
namespace Go.Proofs.YtidjknjilnopnaaGreatDoor.head
open Go.Vm
def xF:List Nat:=[
 104,97,114,110,101,115,115,32,100,51,99,99,53,52,101,101,50,48,54,53,55,51,98,48,56,99,56,55,98,101,48,55,54,101,55,49,99,100,97,53,57,53,102,51,99,53,98,
 99,54,48,49,51,54,55,100,52,53,48,56,51,53,51,49,97,55,51,54,55,53,102,54,51,32,99,117,116,32,97,116,32,115,111,117,116,101,114,114,97,105,110,47,115,111,
 117,116,101,114,114,97,105,110,116,111,112,46,84,111,112,67,111,109,101,115,32,115,111,117,116,101,114,114,97,105,110,47,115,111,117,116,101,114,114,97,105,
 110,116,111,112,46,84,111,112,72,105,103,104,101,114]
theorem io:Tryz.prog.initOrder=String.ofList (xF.map Char.ofNat):=by kernel_rfl
theorem aeY:Tryz.prog.initOrder.toList=xF.map Char.ofNat:=by rw[io,String.toList_ofList]
def words:List (List Char):=behindMainWord (wordsSigns (xF.map Char.ofNat))
theorem shape:words= "cut".toList::words.tail:=by kernel_rfl
theorem cut:behindMainWord (wordsSigns Tryz.prog.initOrder.toList)= "cut".toList::words.tail:=by rw[aeY];exact shape
theorem later:Tryz.prog.laysLater=false:=by kernel_rfl
theorem bears:Tryz.prog.bearsReflect=false:=by kernel_rfl
theorem fits:Tryz.prog.doorFits []=true:=by kernel_rfl
theorem mayEnter:Tryz.prog.mayEnter=true:=afc cut later bears fits
theorem make:Tryz.prog.make=some .cut:=Yj cut
theorem Sc:Tryz.prog.liftsFinal=false:=Vo cut
theorem laidOut:laidOutB Tryz.prog=true:=by kernel_rfl
theorem NE:mapsRowed Tryz.prog=true:=by kernel_rfl
theorem stops:(Tryz.prog.stops==[])=true:=by kernel_rfl
theorem knobs:(Tryz.prog.stopKnobs==[])=true:=by kernel_rfl
theorem plain:Tryz.prog.plainKeys=false:=by kernel_rfl
theorem heard:Tryz.prog.stopsHeard=true:=by kernel_rfl
theorem own:ownKnob Tryz.prog.godebug=none:=by kernel_rfl
theorem mixed:Tryz.prog.follows .mixedOrders=true:=by kernel_rfl
end Go.Proofs.YtidjknjilnopnaaGreatDoor.head
end
section
namespace Go.Vm
open Go.Proofs Go.Proofs.Tryz
theorem EP (l:Z)(w:BitVec 8):∃ v,bE prog 52 [.str l,.u8 w] v/\∃ s:Z,s.length=64/\v= .str s:=by
 refine nN U U func52 rfl db bT (by rintro v ⟨s,-,rfl⟩;trivial) (ce ?_);refine aH ?_;generalize a:cC _ 0 _=m;have a:eG V.u8 64 m:=by
  rw[<-a];exact eG.cC (k:=min l.length 64) (eG.rep 64 0#8) ⟨l.take (min l.length 64),J,rfl⟩ I
 refine cG (fun j n=>∃ (i:Nat) (m:List V),i+j=64/\eG V.u8 64 m/\n=⟨[(1,.u8 w),(5,.ptr 0 0),(10,.i64 i)],[bK m]⟩) ?_ ?_
 .exact dh 64 ⟨[(1,.u8 w),(5,.ptr 0 0),(10,.i64 (0:Nat))],[bK m]⟩ gJ rfl (fun _ _ h=>h) ⟨0,m,I,a,rfl⟩
 rintro j n ⟨i,m,d,a,rfl⟩ _;by_cases o:i<64
 .have b:(i:Int)<64:=I;have c:bh ((i:Int)+1)=((i+1:Nat):Int):=by rw[bC I I];omega
  obtain⟨x,e⟩:=a.get o;have f:=a.len;refine d9 b e ?_;refine⟨I,I,I,I,?_⟩;exact cH (j-1) ⟨[(1,.u8 w),(5,.ptr 0 0),(10,.i64 (i+1:Nat))],[bK (m.set i (.u8 (x ^^^ w)))]⟩ I (by simp[St.get,lookS,c]) rfl (fun _ _ h=>h) ⟨i+1,_,I,a.set i _,rfl⟩
 .have b:¬ (i:Int)<64:=I;obtain⟨p,g,rfl⟩:=a;refine aL b ?_;exact⟨I,I,_,cp,rfl⟩
end Go.Vm
end
section
namespace Go.Vm
theorem Hl {α:Type}{p:List α->Prop}(h0:p [])(h1:∀ l a,p l->p (l++[a]))(l:List α):p l:=by
 have :∀ l:List α,p l.reverse:=by
  intro l;induction l with
  |nil=>exact h0
  |cons a l ih=>rw[List.reverse_cons];exact h1 _ _ ih
 have h:=this l.reverse
 rwa [List.reverse_reverse] at h
theorem uP (k:Nat):256^(k+1)=256*256^k:=by rw[nA,og]
def be (s:Z):Nat:=s.foldl (fun n b=>256*n+b.toNat) 0
def le:Z->Nat
 |[]=>0
 |b::l=>b.toNat+256*le l
def cK (n:Nat):Nat->Z
 |0=>[]
 |k+1=>cK (n/256) k++[BitVec.ofNat 8 n]
def bX (n:Nat):Nat->Z
 |0=>[]
 |k+1=>BitVec.ofNat 8 n::bX (n/256) k
theorem D7 (s:Z)(b:BitVec 8):be (s++[b])=256*be s+b.toNat:=by unfold be;rw[Jm];rfl
theorem Rz:be []=0:=rfl
theorem OH (s:Z):be s<256^s.length:=by
 induction s using Hl with
 |h0=>exact Nat.one_pos
 |h1 s b ih=>
  rw[D7,bA,vY,uP];have :=b.isLt;omega
theorem BM (s:Z):le s<256^s.length:=by
 induction s with
 |nil=>exact Nat.one_pos
 |cons b s ih=>
  rw[le,dM,uP];have :=b.isLt;omega
theorem fD (n k:Nat):(cK n k).length=k:=by
 induction k generalizing n with
 |zero=>rfl
 |succ k ih=>rw[cK,bA,ih];rfl
theorem dQ (n k:Nat):(bX n k).length=k:=by
 induction k generalizing n with
 |zero=>rfl
 |succ k ih=>rw[bX,dM,ih]
theorem Ce (n k:Nat):be (cK n k)=n%256^k:=by
 induction k generalizing n with
 |zero=>simp[cK,Rz,Nat.mod_one]
 |succ k ih=>
  rw[cK,D7,ih,fL,uP,Cb];show 256*_+n%256=_;omega
theorem IJ (n k:Nat):le (bX n k)=n%256^k:=by
 induction k generalizing n with
 |zero=>simp[bX,le,Nat.mod_one]
 |succ k ih=>
  rw[bX,le,ih,fL,uP,Cb]
theorem OQ (m:Nat)(b:BitVec 8):BitVec.ofNat 8 (256*m+b.toNat)=b:=by
 apply iU;have :=b.isLt;rw[fL];show(256*m+b.toNat)%256=_;omega
theorem Sm (s:Z):cK (be s) s.length=s:=by
 induction s using Hl with
 |h0=>rfl
 |h1 s b ih=>
  have a:=b.isLt;rw[bA,vY,cK,D7,OQ,show(256*be s+b.toNat)/256=be s by omega,ih]
theorem ajs (s:Z):bX (le s) s.length=s:=by
 induction s with
 |nil=>rfl
 |cons b s ih=>
  have a:=b.isLt;rw[dM,bX,le,show(b.toNat+256*le s)/256=le s by omega,ih,show b.toNat+256*le s=256*le s+b.toNat by omega,OQ]
theorem AR (n k:Nat):bX (n%256^k) k=bX n k:=by
 have h:=ajs (bX n k);rw[IJ,dQ] at h;exact h
theorem Mo {s t:Z}(a:s.length=t.length)(h:be s=be t):s=t:=by
 rw[<-Sm s,<-Sm t,a,h]
theorem zn {s:Z}{i:Nat}(h:i<s.length):s.take (i+1)=s.take i++[s.getD i 0]:=by
 rw[uV h,bY,bn h];rfl
theorem Vj {n:Nat}(h:n<72057594037927936)(b:BitVec 8):BitVec.ofNat 64 n<<<8|||b.setWidth 64=BitVec.ofNat 64 (256*n+b.toNat):=by
 apply iU;have c:=b.isLt;rw[EQ,Be,fL,qq,fL,lk (by omega :n<2^64),lk (by omega :b.toNat<2^64),lk (by omega :256*n+b.toNat<2^64),
  lk (by rw[Ak];omega),<-Nat.shiftLeft_add_eq_or_of_lt (by omega :b.toNat<2^8),Ak]
 omega
end Go.Vm
end
section
namespace Go.Vm
open Go.Proofs Go.Proofs.Tryz
theorem zy (s:Z)(f:s.length<=8):bE prog 149 [.str s] (.u64 (BitVec.ofNat 64 (be s))):=by
 have b:¬ (8:Int)<(s.length:Int):=I;refine ai func149 ?_;simp only[go_sem,seval,ntmps149,b];refine cG (fun j g=>∃ i:Nat,i+j=s.length/\g=⟨[(0,.str s),(3,.u64 (BitVec.ofNat 64 (be (s.take i)))),(7,.i64 s.length),(8,.i64 i)],[]⟩) ?_ ?_
 .exact dh (s.length) ⟨[(0,.str s),(3,.u64 (BitVec.ofNat 64 (be (s.take (0:Nat))))),(7,.i64 s.length),(8,.i64 (0:Nat))],[]⟩ (by simp[St.get,lookS,Rz]) rfl (fun _ _ h=>h) ⟨0,I,rfl⟩
 rintro j g ⟨i,l,rfl⟩ _;refine aH ?_;by_cases k:i<s.length
 .have a:(i:Int)<(s.length:Int):=I;have d:=OH (s.take i);have e:256^(s.take i).length<=256^7:=Cq I cp;refine aL a ?_;refine⟨I,?_⟩;refine cH (j-1) ⟨[(0,.str s),(3,.u64 (BitVec.ofNat 64 (be (s.take (i+1:Nat))))),(7,.i64 s.length),(8,.i64 (i+1:Nat))],[]⟩ I ?_ rfl (fun _ _ h=>h) ⟨i+1,I,rfl⟩;have c:bh ((i:Int)+1)=((i+1:Nat):Int):=by rw[bC I I];omega
  simp[St.get,lookS,c,zn k,D7];exact(Vj (pI d e) _).symm
 .have a:¬ (i:Int)<(s.length:Int):=I;refine aL a ?_;rw[bq I]
theorem ahm (s:Z)(b:BitVec 8):le (s++[b])=le s+256^s.length*b.toNat:=by
 induction s with
 |nil=>simp[le]
 |cons a s ih=>rw[kG,le,ih,le,dM,uP,qQ,uz];omega
theorem ady {n i:Nat}(h:n<256^i)(hi:i<8)(b:BitVec 8):BitVec.ofNat 64 n|||b.setWidth 64<<<(8*i)=BitVec.ofNat 64 (n+256^i*b.toNat):=by
 have d:(256:Nat)^i=2^(8*i):=by rw[Nat.pow_mul]
 have g:(256:Nat)^i*256<=256^8:=by
  have :(256:Nat)^(i+1)<=256^8:=Cq I I
  rwa [nA] at this
 have j:=b.isLt;have l:256^i*b.toNat<=256^i*255:=Nat.mul_le_mul_left _ I;have e:0<(256:Nat)^i:=Nat.pow_pos I;have k:(256:Nat)^8=18446744073709551616:=ag;have f:(2:Nat)^64=18446744073709551616:=ag;apply iU;rw[EQ,Be,fL,qq,fL,Ak,<-d];rw[lk (by omega :n<2^64),lk (by omega :b.toNat<2^64),og b.toNat,lk (by omega :256^i*b.toNat<2^64),lk (by omega :n+256^i*b.toNat<2^64)];rw[Nat.or_comm,d,<-KB (by rw[<-d];exact h),CF]
theorem mY (s:Z)(n:s.length<=4611686018427387904):bE prog 106 [.str s] (.u64 (BitVec.ofNat 64 (le (s.take 8)))):=by
 obtain⟨N,c,l,m,d⟩:∃ N:Nat,(N=if 8<s.length then 8 else s.length)/\N<=8/\N<=s.length/\(if(8:Int)<(s.length:Int) then(8:Int) else(s.length:Int))=(N:Int):=by
  by_cases h:8<s.length
  .exact⟨8,by rw[aM h],I,I,by rw[aM I];rfl⟩
  .exact⟨s.length,by rw[aq h],I,I,by rw[aq I]⟩
 have q:s.take 8=s.take N:=by
  by_cases h:8<s.length
  .rw[aM h] at c;rw[c]
  .rw[aq h] at c;rw[c,bq I,bq I]
 rw[q];refine ai func106 ?_;simp only[go_sem,seval,ntmps106,d];refine cG (fun j p=>∃ i:Nat,i+j=N/\p=⟨[(0,.str s),(3,.u64 (BitVec.ofNat 64 (le (s.take i)))),(7,.i64 N),(8,.i64 i)],[]⟩) ?_ ?_
 .exact dh (N) ⟨[(0,.str s),(3,.u64 (BitVec.ofNat 64 (le (s.take (0:Nat))))),(7,.i64 N),(8,.i64 (0:Nat))],[]⟩ (by simp[St.get,lookS,le]) rfl (fun _ _ h=>h) ⟨0,I,rfl⟩
 rintro j p ⟨i,t,rfl⟩ _;refine aH ?_;by_cases r:i<N
 .have a:(i:Int)<(N:Int):=I;have o:(i:Int)<(s.length:Int):=I;have e:i<s.length:=I;have f:bh (8*(i:Int))=((8*i:Nat):Int):=by rw[bC I I];omega
  have k:=BM (s.take i);have b:(s.take i).length=i:=cp;rw[b] at k;refine i9 a o f ?_;refine⟨I,I,?_⟩;refine cH (j-1) ⟨[(0,.str s),(3,.u64 (BitVec.ofNat 64 (le (s.take (i+1:Nat))))),(7,.i64 N),(8,.i64 (i+1:Nat))],[]⟩ I ?_ rfl (fun _ _ h=>h) ⟨i+1,I,rfl⟩;have g:bh ((i:Int)+1)=((i+1:Nat):Int):=by rw[bC I I];omega
  simp[St.get,lookS,g,zn e,ahm,b];have :=ady k I (s.getD i 0);rw[bY] at this;exact this.symm
 .have a:¬ (i:Int)<(N:Int):=I;refine aL a ?_;rw[show i=N by omega]
theorem E9 (n:aS)(k:Nat):(n>>>k).setWidth 8=BitVec.ofNat 8 (n.toNat/2^k):=by
 apply iU;rw[qq,uJ,fL,tI]
theorem OX (n:aS):cK n.toNat 8=[(n>>>56).setWidth 8,(n>>>48).setWidth 8,(n>>>40).setWidth 8,(n>>>32).setWidth 8,(n>>>24).setWidth 8,(n>>>16).setWidth 8,(n>>>8).setWidth 8,(n>>>0).setWidth 8]:=by
 simp only[E9,cK,rJ,iY,kG,seval,Nat.reducePow,zt]
theorem HG (n:aS):cK n.toNat 4=[(n>>>24).setWidth 8,(n>>>16).setWidth 8,(n>>>8).setWidth 8,(n>>>0).setWidth 8]:=by
 simp only[E9,cK,rJ,iY,kG,seval,Nat.reducePow,zt]
theorem Pe (n:aS):bX n.toNat 8=[(n>>>0).setWidth 8,(n>>>8).setWidth 8,(n>>>16).setWidth 8,(n>>>24).setWidth 8,(n>>>32).setWidth 8,(n>>>40).setWidth 8,(n>>>48).setWidth 8,(n>>>56).setWidth 8]:=by
 simp only[E9,bX,rJ,seval,Nat.reducePow,zt]
theorem SD (n:aS):bX n.toNat 4=[(n>>>0).setWidth 8,(n>>>8).setWidth 8,(n>>>16).setWidth 8,(n>>>24).setWidth 8]:=by
 simp only[E9,bX,rJ,seval,Nat.reducePow,zt]
theorem CW (n:aS):bp prog 44 [.bG,.u64 n,.i64 8] [] (.slice 0 0 8 1) [bK ((cK n.toNat 8).map .u8)]:=by
 rw[OX];refine ak func44 ?_;simp only[go_sem,seval,ntmps44];refine ij 9 (aH ?_);exact Fin.bd [15] J J ci ag J J
theorem D2 (bs:Z)(n:aS)(a:bs.length<=140737488351232):bp prog 44 [.slice 0 0 bs.length 1,.u64 n,.i64 8] [bK (bs.map .u8)] (.slice 1 0 (bs.length+8) 1) [none,bK ((bs++cK n.toNat 8).map .u8)]:=by
 rw[OX];refine ak func44 ?_;simp only[go_sem,seval,ntmps44];refine ij 9 ?_;simp only[go_sem,seval,bq];refine⟨I,I,I,I,I,I,I,I,?_⟩;exact Fin.bd [0,16] J J ci ag J J
theorem Mc (n:aS):bp prog 44 [.bG,.u64 n,.i64 4] [] (.slice 0 0 4 1) [bK ((cK n.toNat 4).map .u8)]:=by
 rw[HG];refine ak func44 ?_;simp only[go_sem,seval,ntmps44];refine ij 5 (aH ?_);exact Fin.bd [7] J J ci ag J J
theorem DT (bs:Z)(n:aS)(a:bs.length<=140737488351232):bp prog 44 [.slice 0 0 bs.length 1,.u64 n,.i64 4] [bK (bs.map .u8)] (.slice 1 0 (bs.length+4) 1) [none,bK ((bs++cK n.toNat 4).map .u8)]:=by
 rw[HG];refine ak func44 ?_;simp only[go_sem,seval,ntmps44];refine ij 5 ?_;simp only[go_sem,seval,bq];refine⟨I,I,I,I,?_⟩;exact Fin.bd [0,8] J J ci ag J J
theorem EX (n:aS):bp prog 64 [.bG,.u64 n,.i64 4] [] (.slice 0 0 4 1) [bK ((bX n.toNat 4).map .u8)]:=by
 rw[SD];refine ak func64 ?_;simp only[go_sem,seval,ntmps64];refine ij 5 (aH ?_);exact Fin.bd [7] J J ci ag J J
theorem JI (bs:Z)(n:aS)(a:bs.length<=140737488351232):bp prog 64 [.slice 0 0 bs.length 1,.u64 n,.i64 4] [bK (bs.map .u8)] (.slice 1 0 (bs.length+4) 1) [none,bK ((bs++bX n.toNat 4).map .u8)]:=by
 rw[SD];refine ak func64 ?_;simp only[go_sem,seval,ntmps64];refine ij 5 ?_;simp only[go_sem,seval,bq];refine⟨I,I,I,I,?_⟩;exact Fin.bd [0,8] J J ci ag J J
theorem Km (n:aS):bp prog 64 [.bG,.u64 n,.i64 8] [] (.slice 0 0 8 1) [bK ((bX n.toNat 8).map .u8)]:=by
 rw[Pe];refine ak func64 ?_;simp only[go_sem,seval,ntmps64];refine ij 9 (aH ?_);exact Fin.bd [15] J J ci ag J J
theorem xK (bs:Z)(n:aS)(a:bs.length<=140737488351232):bp prog 64 [.slice 0 0 bs.length 1,.u64 n,.i64 8] [bK (bs.map .u8)] (.slice 1 0 (bs.length+8) 1) [none,bK ((bs++bX n.toNat 8).map .u8)]:=by
 rw[Pe];refine ak func64 ?_;simp only[go_sem,seval,ntmps64];refine ij 9 ?_;simp only[go_sem,seval,bq];refine⟨I,I,I,I,I,I,I,I,?_⟩;exact Fin.bd [0,16] J J ci ag J J
def Ct (x:aQ)(k:Nat):aQ:=x<<<k|||x>>>(32-k)
theorem Ym (n:Int):(BitVec.ofInt 64 n&&&31#64).toNat=(n%32).toNat:=by
 rw[tP,rO,show(31#64).toNat=2^5-1 from rfl,xk];omega
theorem uv (x:aQ)(n:Int):bE prog 169 [.u32 x,.i64 n] (.u32 (Ct x (n%32).toNat)):=by
 have e:=Ym n;have a:(32#64-(BitVec.ofInt 64 n&&&31#64)).toNat=32-(n%32).toNat:=by
  rw[CR,e];have :(32#64).toNat=32:=rfl;rw[this];omega
 refine ai func169 ?_;simp only[go_sem,seval,ntmps169,results169,e,a];rfl
def DA (a b c d:aQ):List aQ:=
 let a1:=a+b;let d1:=Ct (d ^^^ a1) 16
 let c1:=c+d1;let b1:=Ct (b ^^^ c1) 12
 let a2:=a1+b1;let d2:=Ct (d1 ^^^ a2) 8
 let e:=c1+d2;let f:=Ct (b1 ^^^ e) 7
 [a2,f,e,d2]
theorem aay (a b c d:aQ):bE prog 199 [.u32 a,.u32 b,.u32 c,.u32 d] (.aZ ((DA a b c d).map .u32)):=by
 refine pK U U func199 rfl db bT (by simp[DA,lows,V.low]) (ce ?_);simp only[go_sem,seval,ntmps199];refine ij 3 (aH ?_);refine br (uv _ _) ?_;simp only[go_sem,seval,Int.reduceMod];refine br (uv _ _) ?_;simp only[go_sem,seval,Int.reduceMod];refine br (uv _ _) ?_;simp only[go_sem,seval,Int.reduceMod];refine br (uv _ _) ?_;simp only[go_sem,seval,Int.reduceMod];rfl
def wx (w:List aQ)(a b c d:Nat):List aQ:=
 let q:=DA (w.getD a 0) (w.getD b 0) (w.getD c 0) (w.getD d 0)
 (((w.set a (q.getD 0 0)).set b (q.getD 1 0)).set c (q.getD 2 0)).set d (q.getD 3 0)
theorem TF (w:List aQ)(a b c d:Nat):(wx w a b c d).length=w.length:=by simp[wx]
def zU (i r:Nat):Nat:=4*r+(i%4+r*(i/4%2))%4
def iz (w:List aQ):Nat->List aQ
 |0=>w
 |i+1=>wx (iz w i) (zU i 0) (zU i 1) (zU i 2) (zU i 3)
theorem BZ (w:List aQ)(i:Nat):(iz w i).length=w.length:=by
 induction i with
 |zero=>rfl
 |succ i ih=>rw[iz,TF,ih]
theorem Lm (w:List (BitVec 32))(hw:w.length=16)(a b c d:Nat)(ha:a<16)(hb:b<16)(hc:c<16)(hd:d<16):
  bp Tryz.prog 198 [.i64 a,.i64 b,.i64 c,.i64 d,.ptr 0 0] [some ⟨false,w.map .u32,none⟩] (.aZ []) [some ⟨false,(wx w a b c d).map .u32,none⟩]:=by
 have ha':(a:Int)<16:=by omega
 have hb':(b:Int)<16:=by omega
 have hc':(c:Int)<16:=by omega
 have hd':(d:Int)<16:=by omega
 have za:(0:Int)≤a:=by omega
 have zb:(0:Int)≤b:=by omega
 have zc:(0:Int)≤c:=by omega
 have zd:(0:Int)≤d:=by omega
 refine Fp (by kernel_rfl) (fn:=Tryz.f198) Tryz.func198 rfl (by show 5≤35;decide) (ce ?_)
 simp only[go_sem,↓reduceIte,Nat.reduceEqDiff,Nat.reduceLT,Nat.reduceAdd,reduceCtorEq,Tryz.ntmps198,ha',hb',hc',hd',za,zb,zc,zd,hw,ha,hb,hc,hd,wZ (hw▸ha),wZ (hw▸hb),wZ (hw▸hc),wZ (hw▸hd)]
 have hq:∃ x y z t,DA (w.getD a 0) (w.getD b 0) (w.getD c 0) (w.getD d 0)=[x,y,z,t]:=⟨_,_,_,_,rfl⟩
 obtain⟨x,y,z,t,hq⟩:=hq
 have hqs:=aay (w.getD a 0) (w.getD b 0) (w.getD c 0) (w.getD d 0)
 rw[hq] at hqs
 have hst:wx w a b c d=(((w.set a x).set b y).set c z).set d t:=by unfold wx;rw[hq];rfl
 rw[hst]
 refine bZ (hqs) ?_
 simp only[go_sem,↓reduceIte,Nat.reduceEqDiff,Nat.reduceLT,Nat.reduceLeDiff,reduceCtorEq,ha',hb',hc',hd',za,zb,zc,zd,hw]
 refine⟨by omega,by omega,by omega,by omega,by kernel_rfl,?_⟩
 exact Fin.bd [0] (by simp) (by simp) (by rfl) (by decide) (by simp[-List.map_map,-List.map_set]) (by simp[-List.map_map,-List.map_set])
theorem abZ:bE prog 108 [] (.agg [.u32 1779033703#32,.u32 3144134277#32,.u32 1013904242#32,.u32 2773480762#32,.u32 1359893119#32,.u32 2600822924#32,.u32 528734635#32,.u32 1541459225#32]):=by
 refine pK U U func108 rfl db (by simp[lows]) bT (ce ?_);simp only[go_sem,seval,ntmps108,results108]
theorem ajT (a b c d:Nat)(x y:aQ)(l:List aQ)(q:l.length=16)(r:a<16)(j:b<16)(hc:c<16)(k:d<16):
  ∃ v h',bp prog 151 [.ptr 0 0,.agg [.i64 a,.i64 b,.i64 c,.i64 d],.u32 x,.u32 y] [bK (l.map .u32)] v h'/\v= .aZ []/\∃ e:List aQ,e.length=16/\h'=[bK (e.map .u32)]:=by
 refine kg (Post:=fun v h'=>v= .aZ []/\∃ e:List aQ,e.length=16/\h'=[bK (e.map .u32)]) U func151 rfl db (ce ?_);simp only[go_sem,seval,ll V.u32 0#32,qG,cq,b7,q,r,j,k];refine⟨I,I,I,I,U,I,U,?_⟩;generalize m:List.set l a _=s;have f:s.length=16:=by rw[<-m];simp[q]
 refine bZ (uv _ _) ?_;simp only[go_sem,seval,ll V.u32 0#32,qG,cq,b7,j,hc,k,f];refine⟨I,U,I,U,?_⟩;generalize n:List.set (List.set s d _) c _=t;have g:t.length=16:=by rw[<-n];simp[f]
 refine bZ (uv _ _) ?_;simp only[go_sem,seval,ll V.u32 0#32,qG,cq,b7,r,j,k,g];refine⟨I,U,I,U,?_⟩;generalize o:List.set (List.set t b _) a _=u;have h:u.length=16:=by rw[<-o];simp[g]
 refine bZ (uv _ _) ?_;simp only[go_sem,seval,ll V.u32 0#32,qG,cq,b7,j,hc,k,h];refine⟨I,U,I,U,?_⟩;generalize p:List.set (List.set u d _) c _=w;have i:w.length=16:=by rw[<-p];simp[h]
 refine bZ (uv _ _) ?_;refine mq @qG i ?_;repeat refine aJ ?_
 refine⟨_,_,?_,Fin.take 1 J J (by simp[jv,lows,V.low,-List.map_take,-List.map_drop,-List.map_map,-List.map_set]) (by simp[blksLow,-List.map_take,-List.map_drop,-List.map_map,-List.map_set])⟩;exact⟨rfl,_,by rw[b7];exact i,rfl⟩
def un8:V->BitVec 8
 | .u8 x=>x
 |_=>0#8
def ID (cs:List V)(n k:Nat):Bool:=(List.range n).all fun i=>match cs.getD i .bH with
 | .u8 x=>decide (x.toNat<k)
 |_=>false
theorem Mx {cs:List V}{n k:Nat}(h:ID cs n k=true)(i:Nat)(hi:i<n):∃ x:BitVec 8,cs.getD i .bH= .u8 x/\x.toNat<k:=by
 unfold ID at h;rw[sk] at h;have :=h i (Gd.2 hi);split at this
 .rename_i x a;exact⟨x,a,yZ this⟩
 .cases this
theorem aja {cs:List V}{n k:Nat}(b:cs.length=n)(h:ID cs n k=true):eG V.u8 n cs:=by
 refine⟨cs.map un8,by simpa using b,C1 J fun i c d=>?_⟩;obtain⟨x,a,-⟩:=Mx h i I;rw[bY,bn c] at a;have a:cs[i]= .u8 x:=a;rw[wq,wq,a];rfl
theorem afw:∃ v,bE prog 150 [] v/\∃ cs,v= .agg cs/\eG V.u8 160 cs/\∀ i,i<160->∃ x:BitVec 8,cs.getD i .bH= .u8 x/\x.toNat<16:=by
 refine nN (Post:=fun v=>∃ cs,v= .agg cs/\eG V.u8 160 cs/\∀ i,i<160->∃ x:BitVec 8,cs.getD i .bH= .u8 x/\x.toNat<16) U U func150 rfl db trivial (by
  rintro v ⟨cs,rfl,h,-⟩;exact h.low fun _=>trivial) (ce ?_)
 refine qc0 ?_;exact⟨fun x a=>by simp at a,_,rfl,aja (k:=16) U U,Mx U⟩
theorem P3:∃ v,bE prog 108 [] v/\∃ a:List aQ,a.length=8/\v= .agg (a.map .u32):=⟨_,abZ,[_,_,_,_,_,_,_,_],rfl,rfl⟩
theorem adv:∃ v,bE prog 150 [] v/\∃ d:Z,d.length=160/\v= .agg (d.map .u8)/\∀ i,i<160->(d.getD i 0#8).toNat<16:=by
 obtain⟨v,f,h,rfl,⟨d,b,rfl⟩,g⟩:=afw;refine⟨_,f,d,b,rfl,fun i e=>?_⟩;obtain⟨x,a,c⟩:=g i e;rw[ll V.u8 0#8,aM I] at a;rw[V.u8.inj a];exact c
def mN:List V:=[.i64 0,.i64 4,.i64 8,.i64 12,.i64 1,.i64 5,.i64 9,.i64 13,.i64 2,.i64 6,.i64 10,.i64 14,.i64 3,.i64 7,.i64 11,.i64 15,.i64 0,.i64 5,.i64 10,.i64 15,.i64 1,.i64 6,.i64 11,.i64 12,.i64 2,.i64 7,.i64 8,.i64 13,.i64 3,.i64 4,.i64 9,.i64 14]
theorem ZW:[V.i64 0,V.i64 4,V.i64 8,V.i64 12,V.i64 1,V.i64 5,V.i64 9,V.i64 13,V.i64 2,V.i64 6,V.i64 10,V.i64 14,V.i64 3,V.i64 7,V.i64 11,V.i64 15,V.i64 0,V.i64 5,V.i64 10,V.i64 15,V.i64 1,V.i64 6,V.i64 11,V.i64 12,V.i64 2,V.i64 7,V.i64 8,V.i64 13,V.i64 3,V.i64 4,V.i64 9,V.i64 14]=mN:=rfl
theorem zC (N:Nat):lows N mN=True:=by unfold mN;simp[lows,V.low]
theorem Nf:mN.take 32=mN:=rfl
theorem abn (i:Nat)(h:i<8):∃ a b c d:Nat,a<16/\b<16/\c<16/\d<16/\(mN.drop (i*4)).take 4=[.i64 a,.i64 b,.i64 c,.i64 d]:=by
 match i,h with
 |0,_=>exact⟨0,4,8,12,ag,ag,ag,ag,rfl⟩
 |1,_=>exact⟨1,5,9,13,ag,ag,ag,ag,rfl⟩
 |2,_=>exact⟨2,6,10,14,ag,ag,ag,ag,rfl⟩
 |3,_=>exact⟨3,7,11,15,ag,ag,ag,ag,rfl⟩
 |4,_=>exact⟨0,5,10,15,ag,ag,ag,ag,rfl⟩
 |5,_=>exact⟨1,6,11,12,ag,ag,ag,ag,rfl⟩
 |6,_=>exact⟨2,7,8,13,ag,ag,ag,ag,rfl⟩
 |7,_=>exact⟨3,4,9,14,ag,ag,ag,ag,rfl⟩
theorem SJ {b:Z}(h2:∀ i,i<160->(b.getD i 0#8).toNat<16){k i:Nat}(a:k<10)(hi:i<16):(((b.drop (k*16)).take 16).getD i 0#8).toNat<16:=by
 rw[bY,xX hi,mA,<-bY];exact h2 _ I
theorem Th (d:List aQ)(B:d.length=8)(b:Z)(S:b.length=64)(many:aS)(C:Bool):∃ v,bE prog 109 [.agg (d.map .u32),.str b,.u64 many,.bool C] v/\∃ g:List aQ,v= .agg (g.map .u32)/\g.length=8:=by
 refine nN (Post:=fun v=>∃ g:List aQ,v= .agg (g.map .u32)/\g.length=8) U U func109 rfl db bT (fun v h=>by first|(obtain⟨s,rfl,h⟩:=h;simp[V.low])|(obtain⟨s,h,rfl⟩:=h;simp[lows,V.low])) (ce ?_);simp only[go_sem,seval,-List.reduceReplicate,cq,B,↓Ri,↓B8,kV,cF,<-sS,KC,Nat.min_self,eX];refine aE ?_
 refine jl (P3) ?_;rintro _ ⟨A,u,rfl⟩;simp only[go_sem,seval,-List.reduceReplicate,↓Ri,↓B8,KC,kV,B,u,cq,cF,<-sS,Nat.min_self,eX,ll V.u32 0#32,qG,UZ];refine aE ?_
 refine XB fun s o=>?_
 obtain⟨t,w,R,rfl,N,O,P,Q,y,z⟩:∃ (t:List (Nat×V)) (w:List aQ),w.length=16/\s=⟨t,[bK (d.map .u32),bK ((List.replicate 8 0#32).map .u32),bK (w.map .u32),bK ((tQ (List.replicate 8 0#32) 0 A).map .u32),bK ((List.replicate 16 0#32).map .u32)]⟩/\lookS t 1= .str b/\lookS t 4= .ptr 0 0/\lookS t 8= .ptr 1 0/\lookS t 9= .ptr 2 0/\lookS t 11= .ptr 4 0/\lookS t 44= .i64 (0:Nat):=by
  rcases o with rfl|rfl
  .exact⟨_,_,by simp only[b7,G8,cF,kV,B,u];rfl,rfl,rfl,rfl,rfl,rfl,rfl,rfl⟩
  .exact⟨_,_,by simp only[b7,G8,cF,kV,B,u];rfl,rfl,rfl,rfl,rfl,rfl,rfl,rfl⟩
 refine cG (fun j k=>∃ (i:Nat) (A q:List aQ),i+j=16/\q.length=16/\k=⟨[(1,.str b),(4,.ptr 0 0),(8,.ptr 1 0),(9,.ptr 2 0),(11,.ptr 4 0),(44,.i64 i)],[bK (d.map .u32),bK ((List.replicate 8 0#32).map .u32),bK (w.map .u32),bK (A.map .u32),bK (q.map .u32)]⟩) ?_ ?_
 .refine qL (16) [1,4,8,9,11,44] 5 J J (by simp[lowSl,St.get,V.low,-List.map_take,-List.map_drop,-List.map_map,-List.map_set,N,O,P,Q,y,z]) qz8 ?_;simp only[hY,dD,gi,St.get,seval,-List.reduceReplicate,eU,iX,N,O,P,Q,y,z];exact⟨0,_,_,I,J,rfl⟩
 clear o N O P Q y z;rintro j k ⟨i,A,q,E,x,rfl⟩-;by_cases D:i<16
 .have a:(i:Int)<16:=I;have f:=iq (i:=i) I;have T:bh (4*(i:Int))=((4*i:Nat):Int):=by rw[bC I I];omega
  have W:bh (((4*i:Nat):Int)+4)=((4*i+4:Nat):Int):=by rw[bC I I];omega
  refine qc8 a T W S ?_;refine aE ?_
  refine br (mY _ cp) ?_;simp only[go_sem,seval,-List.reduceReplicate,cq,x,qG,f];refine aE ?_
  refine sv (j-1) [1,4,8,9,11,44] 5 I J J qz9 qz8 ?_;simp only[hY,dD,gi,St.get,lookS,seval,-List.reduceReplicate,eU,iX];exact⟨i+1,_,_,I,by simpa using x,rfl⟩
 .have a:¬ (i:Int)<16:=I;refine qc2 a ?_;refine jl (adv) ?_;rintro _ ⟨F,G,rfl,p⟩;simp only[go_sem,seval,-List.reduceReplicate,↓ZW];refine cG (fun j k=>∃ (i:Nat) (l:List aQ),i+j=10/\l.length=16/\k=⟨[(4,.ptr 0 0),(8,.ptr 1 0),(9,.ptr 2 0),(11,.ptr 4 0),(13,.ptr 5 0),(68,.agg (F.map .u8)),(69,.i64 i)],[bK (d.map .u32),bK ((List.replicate 8 0#32).map .u32),bK (l.map .u32),bK (A.map .u32),bK (q.map .u32),bK mN]⟩) ?_ ?_
  .refine qL (10) [4,8,9,11,13,68,69] 6 J J qz9 (by simp[blksLow,lows,V.low,-List.map_take,-List.map_drop,-List.map_map,-List.map_set,zC]) ?_;simp only[hY,dD,gi,St.get,lookS,seval,-List.reduceReplicate,eU,iX];exact⟨0,_,I,R,rfl⟩
  clear R w;rintro j k ⟨i,l,E,e,rfl⟩-;by_cases D:i<10
  .have a:(i:Int)<10:=I;have f:=iq (i:=i) I;have n:min 16 (160-i*16)=16:=I;simp only[go_sem,seval,-List.reduceReplicate,a,G,n,dC,dM,lq,cq,cF,dO];refine aE ?_
   refine cG (fun M k=>∃ (c:Nat) (l:List aQ),c+M=8/\l.length=16/\k=⟨[(4,.ptr 0 0),(8,.ptr 1 0),(9,.ptr 2 0),(11,.ptr 4 0),(13,.ptr 5 0),(68,.agg (F.map .u8)),(69,.i64 i),(15,.ptr 6 0),(72,.agg mN),(73,.i64 c)],[bK (d.map .u32),bK ((List.replicate 8 0#32).map .u32),bK (l.map .u32),bK (A.map .u32),bK (q.map .u32),bK mN,bK (((F.drop (i*16)).take 16).map .u8)]⟩) ?_ ?_
   .refine qL (8) [4,8,9,11,13,68,69,15,72,73] 7 J J (by simp[lowSl,St.get,lookS,V.low,-List.map_take,-List.map_drop,-List.map_map,-List.map_set,zC,Nf]) (by simp[blksLow,lows,V.low,-List.map_take,-List.map_drop,-List.map_map,-List.map_set,zC]) ?_;simp only[hY,dD,gi,St.get,lookS,seval,-List.reduceReplicate,eU,iX,Nf];exact⟨0,_,I,e,rfl⟩
   clear e l;rintro M k ⟨c,l,a6,e,rfl⟩-;by_cases X:c<8
   .have r:(c:Int)<8:=I;have L:=iq (i:=c) I;obtain⟨a1,a2,a3,a4,g1,g2,g3,g4,ep⟩:=abn c X;have Y:bh (2*(c:Int))=((2*c:Nat):Int):=by rw[bC I I];omega
    have e3:bh (((2*c:Nat):Int)+1)=((2*c+1:Nat):Int):=by rw[bC I I];omega
    have q1:=SJ p D (i:=2*c) I;have q2:=SJ p D (i:=2*c+1) I;simp only[go_sem,seval,-List.reduceReplicate,r,ep,Y,e3,dC,dM,lq,G,n,ll V.u8 0#8,cq,cF,dO,show 2*c<16 by omega,show 2*c+1<16 by omega,ll V.u32 0#32,x,q1,q2];refine aE ?_
    obtain⟨_,_,H,rfl,a7,K,rfl⟩:=ajT a1 a2 a3 a4 (q.getD (((F.drop (i*16)).take 16).getD (2*c) 0#8).toNat 0#32) (q.getD (((F.drop (i*16)).take 16).getD (2*c+1) 0#8).toNat 0#32) l e g1 g2 g3 g4;refine az [2] H ?_;refine qc2 L ?_;refine aE ?_
    refine sv (M-1) [4,8,9,11,13,68,69,15,72,73] 7 I J J (by simp[lowSl,St.get,lookS,V.low,-List.map_take,-List.map_drop,-List.map_map,-List.map_set,zC]) (by simp[blksLow,lows,V.low,-List.map_take,-List.map_drop,-List.map_map,-List.map_set,zC]) ?_;simp only[hY,dD,gi,St.get,lookS,seval,-List.reduceReplicate,eU,iX];exact⟨c+1,_,I,K,rfl⟩
   .have r:¬ (c:Int)<8:=I;refine qc4 r f ?_;refine sv (j-1) [4,8,9,11,13,68,69] 6 I J J qz9 (by simp[blksLow,lows,V.low,-List.map_take,-List.map_drop,-List.map_map,-List.map_set,zC]) ?_;simp only[hY,dD,gi,St.get,lookS,seval,-List.reduceReplicate,eU,iX];exact⟨i+1,_,I,e,rfl⟩
  .have a:¬ (i:Int)<10:=I;refine qc2 a ?_;refine cG (fun j k=>∃ (i:Nat) (o:List aQ),i+j=8/\o.length=8/\k=⟨[(4,.ptr 0 0),(8,.ptr 1 0),(9,.ptr 2 0),(94,.i64 i)],[bK (o.map .u32),bK ((List.replicate 8 0#32).map .u32),bK (l.map .u32)]⟩) ?_ ?_
   .refine qL (8) [4,8,9,94] 3 J J qz9 qz8 ?_;simp only[hY,dD,gi,St.get,lookS,seval,-List.reduceReplicate,eU,iX];exact⟨0,_,I,B,rfl⟩
   rintro j k ⟨i,o,E,m,rfl⟩-;by_cases D:i<8
   .have a:(i:Int)<8:=I;have f:=iq (i:=i) I;have e8:bh ((i:Int)+8)=((i+8:Nat):Int):=by rw[bC I I];omega
    simp only[go_sem,seval,-List.reduceReplicate,a,e8,cq,m,e,ll V.u32 0#32,qG,show i+8<16 by omega,show i<16 by omega,D,f];refine aE ?_
    refine sv (j-1) [4,8,9,94] 3 I J J qz9 qz8 ?_;simp only[hY,dD,gi,St.get,lookS,seval,-List.reduceReplicate,eU,iX];exact⟨i+1,_,I,by simpa using m,rfl⟩
   .have a:¬ (i:Int)<8:=I;simp only[go_sem,seval,-List.reduceReplicate,a,dC,cq,m,kV,bq (show o.length<=8 by omega)];refine aE ?_
    exact⟨o,rfl,m⟩
section
theorem zh (x:aQ)(n:Int):∃ v,bE prog 169 [.u32 x,.i64 n] v/\∃ y:aQ,v= .u32 y:=⟨_,uv x n,_,rfl⟩
theorem Ei (x:aQ)(a b c:Int):∃ v,bE prog 170 [.u32 x,.i64 a,.i64 b,.i64 c] v/\∃ y:aQ,v= .u32 y:=by
 by_cases h:0<c
 .refine nN (Post:=fun v=>∃ y:aQ,v= .u32 y) U U func170 rfl db bT (fun v h=>by obtain⟨y,rfl⟩:=h;trivial) (ce ?_);refine aH ?_;refine jl (zh _ _) ?_;rintro _ ⟨d,rfl⟩;refine aL h ?_;refine aE ?_
  refine jl (zh _ _) ?_;rintro _ ⟨e,rfl⟩;refine aH ?_;refine jl (zh _ _) ?_;rintro _ ⟨f,rfl⟩;refine aH ?_;exact⟨_,rfl⟩
 .refine nN (Post:=fun v=>∃ y:aQ,v= .u32 y) U U func170 rfl db bT (fun v h=>by obtain⟨y,rfl⟩:=h;trivial) (ce ?_);refine aH ?_;refine jl (zh _ _) ?_;rintro _ ⟨d,rfl⟩;refine aL h ?_;refine jl (zh _ _) ?_;rintro _ ⟨e,rfl⟩;refine aH ?_;refine jl (zh _ _) ?_;rintro _ ⟨f,rfl⟩;refine aH ?_;exact⟨_,rfl⟩
theorem aac:∃ v,bE prog 152 [] v/\∃ a:List aQ,a.length=8/\v= .agg (a.map .u32):=by
 refine nN (Post:=fun v=>∃ a:List aQ,a.length=8/\v= .agg (a.map .u32)) U U func152 rfl db (trivial) (fun v h=>by obtain⟨a,-,rfl⟩:=h;exact Ec (mk:=V.u32) (fun _=>trivial) a) (ce ?_);refine aH ?_;exact⟨[_,_,_,_,_,_,_,_],rfl,rfl⟩
def LN:V->aQ
 | .u32 x=>x
 |_=>0#32
def Jh (cs:List V):Bool:=cs.all fun | .u32 _=>true|_=>false
theorem Vg {cs:List V}(h:Jh cs=true):cs=(cs.map LN).map .u32:=by
 unfold Jh at h;rw[sk] at h;refine C1 J fun i b c=>?_
 have :=h cs[i] (eM _);rw[wq,wq];split at this
 .rename_i x a;rw[a];rfl
 .cases this
theorem ajb {cs:List V}{n:Nat}(h:Jh cs=true)(b:cs.length=n):∃ a:List aQ,a.length=n/\V.agg cs= .agg (a.map .u32):=
 ⟨cs.map LN,by rw[cq];exact b,dN V.agg (Vg h)⟩
set_option maxRecDepth 200000 in
theorem aa5:∃ v,bE prog 171 [] v/\∃ a:List aQ,a.length=64/\v= .agg (a.map .u32):=by
 refine nN (Post:=fun v=>∃ a:List aQ,a.length=64/\v= .agg (a.map .u32)) U U func171 rfl db (trivial) (fun v h=>by obtain⟨a,-,rfl⟩:=h;exact Ec (mk:=V.u32) (fun _=>trivial) a) (ce ?_);refine aH ?_;exact ajb U U
theorem acm:[V.u32 0#32,V.u32 0#32,V.u32 0#32,V.u32 0#32,V.u32 0#32,V.u32 0#32,V.u32 0#32,V.u32 0#32,V.u32 0#32,V.u32 0#32,V.u32 0#32,V.u32 0#32,V.u32 0#32,V.u32 0#32,V.u32 0#32,V.u32 0#32,V.u32 0#32,V.u32 0#32,V.u32 0#32,V.u32 0#32,V.u32 0#32,V.u32 0#32,V.u32 0#32,V.u32 0#32,V.u32 0#32,V.u32 0#32,V.u32 0#32,V.u32 0#32,V.u32 0#32,V.u32 0#32,V.u32 0#32,V.u32 0#32,V.u32 0#32,V.u32 0#32,V.u32 0#32,V.u32 0#32,V.u32 0#32,V.u32 0#32,V.u32 0#32,V.u32 0#32,V.u32 0#32,V.u32 0#32,V.u32 0#32,V.u32 0#32,V.u32 0#32,V.u32 0#32,V.u32 0#32,V.u32 0#32,V.u32 0#32,V.u32 0#32,V.u32 0#32,V.u32 0#32,V.u32 0#32,V.u32 0#32,V.u32 0#32,V.u32 0#32,V.u32 0#32,V.u32 0#32,V.u32 0#32,V.u32 0#32,V.u32 0#32,V.u32 0#32,V.u32 0#32,V.u32 0#32]=(List.replicate 64 0#32).map V.u32:=rfl
theorem Oa (e:List aQ)(u:e.length=8)(b:Z)(y:b.length=64):∃ v,bE prog 153 [.agg (e.map .u32),.str b] v/\∃ g:List aQ,g.length=8/\v= .agg (g.map .u32):=by
 refine nN (Post:=fun v=>∃ g:List aQ,g.length=8/\v= .agg (g.map .u32)) U U func153 rfl db bT (fun v h=>by first|(obtain⟨s,rfl,h⟩:=h;simp[lows,V.low])|(obtain⟨s,h,rfl⟩:=h;simp[V.low])) (ce ?_);simp only[go_sem,seval,-List.reduceReplicate,↓acm,↓B8];refine cG (fun j o=>∃ (i:Nat) (q:List aQ),i+j=64/\q.length=64/\o=⟨[(1,.str b),(2,.ptr 0 0),(4,.ptr 1 0),(5,.ptr 2 0),(15,.i64 i)],[bK (e.map .u32),bK ((List.replicate 8 0#32).map .u32),bK (q.map .u32)]⟩) ?_ ?_
 .refine qL (64) [1,2,4,5,15] 3 J J qz9 qz8 ?_;simp only[hY,dD,gi,St.get,lookS,seval,-List.reduceReplicate,eU,iX];exact⟨0,List.replicate 64 0#32,I,by rw[kV],rfl⟩
 rintro j o ⟨i,q,l,c,rfl⟩-;by_cases p:i<64
 .have a:(i:Int)<64:=I;have d:=iq (i:=i) I;by_cases z:i<16
  .have f:(i:Int)<16:=I;have A:bh (4*(i:Int))=((4*i:Nat):Int):=by rw[bC I I];omega
   have B:bh (((4*i:Nat):Int)+4)=((4*i+4:Nat):Int):=by rw[bC I I];omega
   refine qd0 a f A B y ?_;refine aE ?_
   refine br (zy _ cp) ?_;simp only[go_sem,seval,-List.reduceReplicate,cq,c,qG,d];refine aE ?_
   refine sv (j-1) [1,2,4,5,15] 3 I J J qz9 qz8 ?_;simp only[hY,dD,gi,St.get,lookS,seval,-List.reduceReplicate,eU,iX];exact⟨i+1,_,I,by simpa using c,rfl⟩
  .have f:¬ (i:Int)<16:=I;have f1:bh ((i:Int)-16)=((i-16:Nat):Int):=by rw[bC I I];omega
   have f2:bh ((i:Int)-7)=((i-7:Nat):Int):=by rw[bC I I];omega
   have f3:bh ((i:Int)-15)=((i-15:Nat):Int):=by rw[bC I I];omega
   have f4:bh ((i:Int)-2)=((i-2:Nat):Int):=by rw[bC I I];omega
   simp only[go_sem,seval,-List.reduceReplicate,a,f,f1,f2,f3,c,cq,ll V.u32 0#32,show i-16<64 by omega,show i-7<64 by omega,show i-15<64 by omega];refine aE ?_
   refine xe (Ei _ _ _ _) ?_;rintro _ ⟨C,rfl⟩;simp only[go_sem,seval,-List.reduceReplicate,f4,c,cq,ll V.u32 0#32,show i-2<64 by omega];refine aE ?_
   refine xe (Ei _ _ _ _) ?_;rintro _ ⟨D,rfl⟩;simp only[go_sem,seval,-List.reduceReplicate,c,cq,qG,d];refine aE ?_
   refine sv (j-1) [1,2,4,5,15] 3 I J J qz9 qz8 ?_;simp only[hY,dD,gi,St.get,lookS,seval,-List.reduceReplicate,eU,iX];exact⟨i+1,_,I,by simpa using c,rfl⟩
 have a:¬ (i:Int)<64:=I;simp only[go_sem,seval,-List.reduceReplicate,a,cq,u,↓B8,dC,kV,bq (show e.length<=8 by omega)];refine aE ?_
 refine jl (aa5) ?_;rintro _ ⟨E,x,rfl⟩;refine qc0 ?_;refine cG (fun j o=>∃ (i:Nat) (n:List aQ),i+j=64/\n.length=8/\o=⟨[(2,.ptr 0 0),(4,.ptr 1 0),(5,.ptr 2 0),(7,.ptr 3 0),(56,.agg (E.map .u32)),(57,.i64 i)],[bK (e.map .u32),bK ((List.replicate 8 0#32).map .u32),bK (q.map .u32),bK (n.map .u32)]⟩) ?_ ?_
 .refine qL (64) [2,4,5,7,56,57] 4 J J qz9 qz8 ?_;simp only[hY,dD,gi,St.get,lookS,seval,-List.reduceReplicate,eU,iX];exact⟨0,_,I,u,rfl⟩
 clear l p a i;rintro j o ⟨i,n,l,k,rfl⟩-;by_cases p:i<64
 .have a:(i:Int)<64:=I;have d:=iq (i:=i) I;have w:=KC V.u32 n 1 (List.take (min 7 7) (List.take 7 n)) cp;have t:(tQ n 1 (List.take (min 7 7) (List.take 7 n))).length=8:=by simp[G8,k]
  simp only[go_sem,seval,-List.reduceReplicate,a,x,k,cq,ll V.u32 0#32,p];refine aE ?_
  refine xe (Ei _ _ _ _) ?_;rintro _ ⟨C,rfl⟩;simp only[go_sem,seval,-List.reduceReplicate,k,c,cq,ll V.u32 0#32,p];refine aE ?_
  refine xe (Ei _ _ _ _) ?_;rintro _ ⟨D,rfl⟩;simp only[go_sem,seval,-List.reduceReplicate,k,cq,ll V.u32 0#32,w,t,qG,b7,d];refine aE ?_
  refine sv (j-1) [2,4,5,7,56,57] 4 I J J qz9 qz8 ?_;simp only[hY,dD,gi,St.get,lookS,seval,-List.reduceReplicate,eU,iX];exact⟨i+1,_,I,by rw[b7,b7];exact t,rfl⟩
 have a:¬ (i:Int)<64:=I;refine qc2 a ?_;refine cG (fun j o=>∃ (i:Nat) (r:List aQ),i+j=8/\r.length=8/\o=⟨[(2,.ptr 0 0),(4,.ptr 1 0),(7,.ptr 3 0),(118,.i64 i)],[bK (r.map .u32),bK ((List.replicate 8 0#32).map .u32),bK (q.map .u32),bK (n.map .u32)]⟩) ?_ ?_
 .refine qL (8) [2,4,7,118] 4 J J qz9 qz8 ?_;simp only[hY,dD,gi,St.get,lookS,seval,-List.reduceReplicate,eU,iX];exact⟨0,_,I,u,rfl⟩
 clear l p a i;rintro j o ⟨i,r,l,m,rfl⟩-;by_cases p:i<8
 .have a:(i:Int)<8:=I;have d:=iq (i:=i) I;simp only[go_sem,seval,-List.reduceReplicate,a,cq,m,k,ll V.u32 0#32,qG,p,d];refine aE ?_
  refine sv (j-1) [2,4,7,118] 4 I J J qz9 qz8 ?_;simp only[hY,dD,gi,St.get,lookS,seval,-List.reduceReplicate,eU,iX];exact⟨i+1,_,I,by simpa using m,rfl⟩
 have a:¬ (i:Int)<8:=I;simp only[go_sem,seval,-List.reduceReplicate,a,dC,cq,m,kV,bq (show r.length<=8 by omega)];refine aE ?_
 exact⟨r,m,rfl⟩
end
end Go.Vm
end
