/- Proved: laws of a machine of values; no conditions but each theorem's own. -/
import Derived.Test.YtidjknjilnopnaaGreatDoorChecked
import Derived.Test.YtidjknjilnopnaaGreatDoorRows
import Derived.Test.YtidjknjilnopnaaGreatDoorTypesToVmH1
import Derived.Test.YtidjknjilnopnaaGreatDoorVmZ2ToVmZ3
set_option linter.unusedVariables false
set_option linter.unusedSimpArgs false
set_option maxRecDepth 20000
set_option maxHeartbeats 8000000
section
namespace Go.Proofs.YtidjknjilnopnaaGreatDoor.head
open Go.Vm
def codes:List Nat:=[
 104,97,114,110,101,115,115,32,100,51,99,99,53,52,101,101,50,48,54,53,55,51,98,48,56,99,56,55,98,101,48,55,54,101,55,49,99,100,97,53,57,53,102,51,99,53,98,
 99,54,48,49,51,54,55,100,52,53,48,56,51,53,51,49,97,55,51,54,55,53,102,54,51,32,99,117,116,32,97,116,32,115,111,117,116,101,114,114,97,105,110,47,115,111,
 117,116,101,114,114,97,105,110,116,111,112,46,84,111,112,67,111,109,101,115,32,115,111,117,116,101,114,114,97,105,110,47,115,111,117,116,101,114,114,97,105,
 110,116,111,112,46,84,111,112,72,105,103,104,101,114]
theorem io:Tryz.prog.initOrder=String.ofList (codes.map Char.ofNat):=by kernel_rfl
theorem VL:Tryz.prog.initOrder.toList=codes.map Char.ofNat:=by rw[io,String.toList_ofList]
def words:List (List Char):=behindMainWord (wordsSigns (codes.map Char.ofNat))
theorem shape:words= "cut".toList::words.tail:=by kernel_rfl
theorem cut:behindMainWord (wordsSigns Tryz.prog.initOrder.toList)= "cut".toList::words.tail:=by rw[VL];exact shape
theorem later:Tryz.prog.laysLater=false:=by kernel_rfl
theorem bears:Tryz.prog.bearsReflect=false:=by kernel_rfl
theorem fits:Tryz.prog.doorFits []=true:=by kernel_rfl
theorem mayEnter:Tryz.prog.mayEnter=true:=aaJ cut later bears fits
theorem make:Tryz.prog.make=some .cut:=YM cut
theorem lifts:Tryz.prog.liftsFinal=false:=aeH cut
theorem laidOut:laidOutB Tryz.prog=true:=by kernel_rfl
theorem rowed:mapsRowed Tryz.prog=true:=by kernel_rfl
theorem stops:(Tryz.prog.stops==[])=true:=by kernel_rfl
theorem knobs:(Tryz.prog.stopKnobs==[])=true:=by kernel_rfl
theorem plain:Tryz.prog.plainKeys=false:=by kernel_rfl
theorem heard:Tryz.prog.stopsHeard=true:=by kernel_rfl
theorem own:ownKnob Tryz.prog.godebug=none:=by kernel_rfl
theorem mixed:Tryz.prog.follows .mixedOrders=true:=by kernel_rfl
end Go.Proofs.YtidjknjilnopnaaGreatDoor.head
end
section
namespace Go.Vm
open Go.Proofs Go.Proofs.Tryz
theorem Ak (key:List ai)(w:BitVec 8):∃ v,aG prog 52 [.str key,.u8 w] v/\∃ s:List ai,s.length=64/\v= .str s:=by
 refine jm ac ac (fn:=f52) func52 rfl am (by simp[af,V.low]) (by rintro v ⟨s,-,rfl⟩;trivial) (ak ?_);simp -implicitDefEqProofs only[go_sem,seval];generalize a:splice _ 0 _=cs;have a:Alls V.u8 64 cs:=by
  rw[<-a];exact Alls.splice (k:=min key.length 64) (Alls.rep 64 0#8) ⟨key.take (min key.length 64),ae,rfl⟩ aa
 refine bq (fun j st=>∃ (i:Nat) (cs:List V),i+j=64/\Alls V.u8 64 cs/\st=⟨[(1,.u8 w),(5,.ptr 0 0),(10,.i64 i)],[bK cs]⟩) ?_ ?_
 ·exact bJ 64 ⟨[(1,.u8 w),(5,.ptr 0 0),(10,.i64 (0:Nat))],[bK cs]⟩ (by simp[St.get,aj]) rfl (fun _ _ h=>h) ⟨0,cs,aa,a,rfl⟩
 rintro j st ⟨i,cs,d,a,rfl⟩ _;by_cases e:i<64
 ·have b:(i:Int)<64:=aa;have c:ao ((i:Int)+1)=((i+1:Nat):Int):=by rw[az aa aa];omega
  obtain⟨x,f⟩:=a.get e;have g:=a.len;simp -implicitDefEqProofs only[go_sem,seval,b,f];refine⟨aa,aa,aa,aa,?_⟩;exact bx (j-1) ⟨[(1,.u8 w),(5,.ptr 0 0),(10,.i64 (i+1:Nat))],[bK (cs.set i (.u8 (x ^^^ w)))]⟩ aa (by simp[St.get,aj,c]) rfl (fun _ _ h=>h) ⟨i+1,_,aa,a.set i _,rfl⟩
 ·have b:¬ (i:Int)<64:=aa;obtain⟨bs,l,rfl⟩:=a;simp -implicitDefEqProofs only[go_sem,seval,b];exact⟨aa,aa,_,by simp;omega,rfl⟩
end Go.Vm
end
section
namespace Go.Vm
theorem Bt {α:Type}{p:List α->Prop}(h0:p [])(h1:∀ l a,p l->p (l++[a]))(l:List α):p l:=by
 have :∀ l:List α,p l.reverse:=by
  intro l;induction l with
  |nil=>exact h0
  |cons a l ih=>rw[List.reverse_cons];exact h1 _ _ ih
 have h:=this l.reverse
 rwa [List.reverse_reverse] at h
theorem oU (k:Nat):256^(k+1)=256*256^k:=by rw[iT,jv]
def be (s:List (BitVec 8)):Nat:=s.foldl (fun n b=>256*n+b.toNat) 0
def le:List (BitVec 8)->Nat
 |[]=>0
 |b::l=>b.toNat+256*le l
def bu (n:Nat):Nat->List (BitVec 8)
 |0=>[]
 |k+1=>bu (n/256) k++[BitVec.ofNat 8 n]
def aV (n:Nat):Nat->List (BitVec 8)
 |0=>[]
 |k+1=>BitVec.ofNat 8 n::aV (n/256) k
theorem yh (s:List (BitVec 8))(b:BitVec 8):be (s++[b])=256*be s+b.toNat:=by unfold be;rw[Ch];rfl
theorem Fi:be []=0:=rfl
theorem Ka (s:List (BitVec 8)):be s<256^s.length:=by
 induction s using Bt with
 |h0=>exact Nat.one_pos
 |h1 s b ih=>
  rw[yh,aE,qv,oU];have :=b.isLt;omega
theorem xK (s:List (BitVec 8)):le s<256^s.length:=by
 induction s with
 |nil=>exact Nat.one_pos
 |cons b s ih=>
  rw[le,ce,oU];have :=b.isLt;omega
theorem cF (n k:Nat):(bu n k).length=k:=by
 induction k generalizing n with
 |zero=>rfl
 |succ k ih=>rw[bu,aE,ih];rfl
theorem bT (n k:Nat):(aV n k).length=k:=by
 induction k generalizing n with
 |zero=>rfl
 |succ k ih=>rw[aV,ce,ih]
theorem Au (n k:Nat):be (bu n k)=n%256^k:=by
 induction k generalizing n with
 |zero=>simp[bu,Fi,Nat.mod_one]
 |succ k ih=>
  rw[bu,yh,ih,cx,oU,wq];show 256*_+n%256=_;omega
theorem EA (n k:Nat):le (aV n k)=n%256^k:=by
 induction k generalizing n with
 |zero=>simp[aV,le,Nat.mod_one]
 |succ k ih=>
  rw[aV,le,ih,cx,oU,wq]
theorem Hy (m:Nat)(b:BitVec 8):BitVec.ofNat 8 (256*m+b.toNat)=b:=by
 apply eE;have :=b.isLt;rw[cx];show(256*m+b.toNat)%256=_;omega
theorem E5 (s:List (BitVec 8)):bu (be s) s.length=s:=by
 induction s using Bt with
 |h0=>rfl
 |h1 s b ih=>
  have a:=b.isLt;rw[aE,qv,bu,yh,Hy,show(256*be s+b.toNat)/256=be s by omega,ih]
theorem V9 (s:List (BitVec 8)):aV (le s) s.length=s:=by
 induction s with
 |nil=>rfl
 |cons b s ih=>
  have a:=b.isLt;rw[ce,aV,le,show(b.toNat+256*le s)/256=le s by omega,ih,show b.toNat+256*le s=256*le s+b.toNat by omega,Hy]
theorem uz (n k:Nat):aV (n%256^k) k=aV n k:=by
 have h:=V9 (aV n k);rw[EA,bT] at h;exact h
theorem JT {s t:List (BitVec 8)}(a:s.length=t.length)(h:be s=be t):s=t:=by
 rw[<-E5 s,<-E5 t,a,h]
theorem u9 {s:List (BitVec 8)}{i:Nat}(h:i<s.length):s.take (i+1)=s.take i++[s.getD i 0]:=by
 rw[o7 h,aW,aF h];rfl
theorem Ub {n:Nat}(h:n<72057594037927936)(b:BitVec 8):BitVec.ofNat 64 n<<<8|||b.setWidth 64=BitVec.ofNat 64 (256*n+b.toNat):=by
 apply eE;have c:=b.isLt;rw[ye,wY,cx,mL,cx,gn (by omega :n<2^64),gn (by omega :b.toNat<2^64),gn (by omega :256*n+b.toNat<2^64),
  gn (by rw[uo];omega),<-Nat.shiftLeft_add_eq_or_of_lt (by omega :b.toNat<2^8),uo]
 omega
end Go.Vm
end
section
namespace Go.Vm
open Go.Proofs Go.Proofs.Tryz
theorem ug (s:List (BitVec 8))(f:s.length<=8):aG prog 149 [.str s] (.u64 (BitVec.ofNat 64 (be s))):=by
 have b:¬ (8:Int)<(s.length:Int):=aa;refine aQ ac (fn:=f149) ac func149 rfl am (by simp[af,V.low]) (by simp[V.low]) (ak ?_);simp only[go_sem,seval,ntmps149,b];refine bq (fun j st=>∃ i:Nat,i+j=s.length/\st=⟨[(0,.str s),(3,.u64 (BitVec.ofNat 64 (be (s.take i)))),(7,.i64 s.length),(8,.i64 i)],[]⟩) ?_ ?_
 ·exact bJ (s.length) ⟨[(0,.str s),(3,.u64 (BitVec.ofNat 64 (be (s.take (0:Nat))))),(7,.i64 s.length),(8,.i64 (0:Nat))],[]⟩ (by simp[St.get,aj,Fi]) rfl (fun _ _ h=>h) ⟨0,aa,rfl⟩
 rintro j st ⟨i,g,rfl⟩ _;simp only[go_sem,seval];by_cases h0:i<s.length
 ·have a:(i:Int)<(s.length:Int):=aa;have d:=Ka (s.take i);have e:256^(s.take i).length<=256^7:=xB aa (by simp;omega);simp only[go_sem,seval,a];refine⟨aa,?_⟩;refine bx (j-1) ⟨[(0,.str s),(3,.u64 (BitVec.ofNat 64 (be (s.take (i+1:Nat))))),(7,.i64 s.length),(8,.i64 (i+1:Nat))],[]⟩ aa ?_ rfl (fun _ _ h=>h) ⟨i+1,aa,rfl⟩;have c:ao ((i:Int)+1)=((i+1:Nat):Int):=by rw[az aa aa];omega
  simp[St.get,aj,c,u9 h0,yh];exact(Ub (mw d e) _).symm
 ·have a:¬ (i:Int)<(s.length:Int):=aa;simp only[go_sem,seval,a];rw[ar aa]
theorem ab9 (s:List (BitVec 8))(b:BitVec 8):le (s++[b])=le s+256^s.length*b.toNat:=by
 induction s with
 |nil=>simp[le]
 |cons a s ih=>rw[fO,le,ih,le,ce,oU,km,oM];omega
theorem Z4 {n i:Nat}(h:n<256^i)(g:i<8)(b:BitVec 8):BitVec.ofNat 64 n|||b.setWidth 64<<<(8*i)=BitVec.ofNat 64 (n+256^i*b.toNat):=by
 have d:(256:Nat)^i=2^(8*i):=by rw[Nat.pow_mul]
 have j:(256:Nat)^i*256<=256^8:=by
  have :(256:Nat)^(i+1)<=256^8:=xB aa aa
  rwa [iT] at this
 have k:=b.isLt;have l:256^i*b.toNat<=256^i*255:=Nat.mul_le_mul_left _ aa;have e:0<(256:Nat)^i:=Nat.pow_pos aa;have m:(256:Nat)^8=18446744073709551616:=ah;have f:(2:Nat)^64=18446744073709551616:=ah;apply eE;rw[ye,wY,cx,mL,cx,uo,<-d];rw[gn (by omega :n<2^64),gn (by omega :b.toNat<2^64),jv b.toNat,gn (by omega :256^i*b.toNat<2^64),gn (by omega :n+256^i*b.toNat<2^64)];rw[Nat.or_comm,d,<-BJ (by rw[<-d];exact h),wN]
theorem iJ (s:List (BitVec 8))(o:s.length<=4611686018427387904):aG prog 106 [.str s] (.u64 (BitVec.ofNat 64 (le (s.take 8)))):=by
 obtain⟨N,c,l,m,d⟩:∃ N:Nat,(N=if 8<s.length then 8 else s.length)/\N<=8/\N<=s.length/\(if(8:Int)<(s.length:Int) then(8:Int) else(s.length:Int))=(N:Int):=by
  by_cases h:8<s.length
  ·exact⟨8,by rw[if_pos h],aa,aa,by rw[if_pos aa];rfl⟩
  ·exact⟨s.length,by rw[if_neg h],aa,aa,by rw[if_neg aa]⟩
 have n:s.take 8=s.take N:=by
  by_cases h:8<s.length
  ·rw[if_pos h] at c;rw[c]
  ·rw[if_neg h] at c;rw[c,ar aa,ar aa]
 rw[n];refine aQ ac (fn:=f106) ac func106 rfl am (by simp[af,V.low]) (by simp[V.low]) (ak ?_);simp only[go_sem,seval,ntmps106,d];refine bq (fun j st=>∃ i:Nat,i+j=N/\st=⟨[(0,.str s),(3,.u64 (BitVec.ofNat 64 (le (s.take i)))),(7,.i64 N),(8,.i64 i)],[]⟩) ?_ ?_
 ·exact bJ (N) ⟨[(0,.str s),(3,.u64 (BitVec.ofNat 64 (le (s.take (0:Nat))))),(7,.i64 N),(8,.i64 (0:Nat))],[]⟩ (by simp[St.get,aj,le]) rfl (fun _ _ h=>h) ⟨0,aa,rfl⟩
 rintro j st ⟨i,p,rfl⟩ _;simp only[go_sem,seval];by_cases h0:i<N
 ·have a:(i:Int)<(N:Int):=aa;have h1':(i:Int)<(s.length:Int):=aa;have e:i<s.length:=aa;have f:ao (8*(i:Int))=((8*i:Nat):Int):=by rw[az aa aa];omega
  have k:=xK (s.take i);have b:(s.take i).length=i:=by simp;omega
  rw[b] at k;simp only[go_sem,seval,a,h1',f];refine⟨aa,aa,?_⟩;refine bx (j-1) ⟨[(0,.str s),(3,.u64 (BitVec.ofNat 64 (le (s.take (i+1:Nat))))),(7,.i64 N),(8,.i64 (i+1:Nat))],[]⟩ aa ?_ rfl (fun _ _ h=>h) ⟨i+1,aa,rfl⟩;have g:ao ((i:Int)+1)=((i+1:Nat):Int):=by rw[az aa aa];omega
  simp[St.get,aj,g,u9 e,ab9,b];have :=Z4 k aa (s.getD i 0);rw[aW] at this;exact this.symm
 ·have a:¬ (i:Int)<(N:Int):=aa;simp only[go_sem,seval,a];rw[show i=N by omega]
theorem Ai (n:BitVec 64)(k:Nat):(n>>>k).setWidth 8=BitVec.ofNat 8 (n.toNat/2^k):=by
 apply eE;rw[mL,oq,cx,nT]
theorem JF (n:BitVec 64):bu n.toNat 8=[(n>>>56).setWidth 8,(n>>>48).setWidth 8,(n>>>40).setWidth 8,(n>>>32).setWidth 8,(n>>>24).setWidth 8,(n>>>16).setWidth 8,(n>>>8).setWidth 8,(n>>>0).setWidth 8]:=by
 simp only[Ai,bu,mi,ff,fO,seval,Nat.reducePow,ur]
theorem B6 (n:BitVec 64):bu n.toNat 4=[(n>>>24).setWidth 8,(n>>>16).setWidth 8,(n>>>8).setWidth 8,(n>>>0).setWidth 8]:=by
 simp only[Ai,bu,mi,ff,fO,seval,Nat.reducePow,ur]
theorem F1 (n:BitVec 64):aV n.toNat 8=[(n>>>0).setWidth 8,(n>>>8).setWidth 8,(n>>>16).setWidth 8,(n>>>24).setWidth 8,(n>>>32).setWidth 8,(n>>>40).setWidth 8,(n>>>48).setWidth 8,(n>>>56).setWidth 8]:=by
 simp only[Ai,aV,mi,seval,Nat.reducePow,ur]
theorem JK (n:BitVec 64):aV n.toNat 4=[(n>>>0).setWidth 8,(n>>>8).setWidth 8,(n>>>16).setWidth 8,(n>>>24).setWidth 8]:=by
 simp only[Ai,aV,mi,seval,Nat.reducePow,ur]
theorem wZ (n:BitVec 64):aq prog 44 [.nilSlice,.u64 n,.i64 8] [] (.slice 0 0 8 1) [bK ((bu n.toNat 8).map .u8)]:=by
 rw[JF];refine bf ac (fn:=f44) func44 rfl am (ak ?_);simp only[go_sem,seval,ntmps44];refine dz 9 ?_;simp only[go_sem,seval];exact Fin.ren [15] ae ae aZ ah ae ae
theorem yX (bs:List (BitVec 8))(n:BitVec 64)(a:bs.length<=140737488351232):aq prog 44 [.slice 0 0 bs.length 1,.u64 n,.i64 8] [bK (bs.map .u8)] (.slice 1 0 (bs.length+8) 1) [none,bK ((bs++bu n.toNat 8).map .u8)]:=by
 rw[JF];refine bf ac (fn:=f44) func44 rfl am (ak ?_);simp only[go_sem,seval,ntmps44];refine dz 9 ?_;simp only[go_sem,seval,ar];refine⟨aa,aa,aa,aa,aa,aa,aa,aa,?_⟩;exact Fin.ren [0,16] ae ae aZ ah ae ae
theorem La (n:BitVec 64):aq prog 44 [.nilSlice,.u64 n,.i64 4] [] (.slice 0 0 4 1) [bK ((bu n.toNat 4).map .u8)]:=by
 rw[B6];refine bf ac (fn:=f44) func44 rfl am (ak ?_);simp only[go_sem,seval,ntmps44];refine dz 5 ?_;simp only[go_sem,seval];exact Fin.ren [7] ae ae aZ ah ae ae
theorem ym (bs:List (BitVec 8))(n:BitVec 64)(a:bs.length<=140737488351232):aq prog 44 [.slice 0 0 bs.length 1,.u64 n,.i64 4] [bK (bs.map .u8)] (.slice 1 0 (bs.length+4) 1) [none,bK ((bs++bu n.toNat 4).map .u8)]:=by
 rw[B6];refine bf ac (fn:=f44) func44 rfl am (ak ?_);simp only[go_sem,seval,ntmps44];refine dz 5 ?_;simp only[go_sem,seval,ar];refine⟨aa,aa,aa,aa,?_⟩;exact Fin.ren [0,8] ae ae aZ ah ae ae
theorem zt (n:BitVec 64):aq prog 64 [.nilSlice,.u64 n,.i64 4] [] (.slice 0 0 4 1) [bK ((aV n.toNat 4).map .u8)]:=by
 rw[JK];refine bf ac (fn:=f64) func64 rfl am (ak ?_);simp only[go_sem,seval,ntmps64];refine dz 5 ?_;simp only[go_sem,seval];exact Fin.ren [7] ae ae aZ ah ae ae
theorem Ew (bs:List (BitVec 8))(n:BitVec 64)(a:bs.length<=140737488351232):aq prog 64 [.slice 0 0 bs.length 1,.u64 n,.i64 4] [bK (bs.map .u8)] (.slice 1 0 (bs.length+4) 1) [none,bK ((bs++aV n.toNat 4).map .u8)]:=by
 rw[JK];refine bf ac (fn:=f64) func64 rfl am (ak ?_);simp only[go_sem,seval,ntmps64];refine dz 5 ?_;simp only[go_sem,seval,ar];refine⟨aa,aa,aa,aa,?_⟩;exact Fin.ren [0,8] ae ae aZ ah ae ae
theorem Ej (n:BitVec 64):aq prog 64 [.nilSlice,.u64 n,.i64 8] [] (.slice 0 0 8 1) [bK ((aV n.toNat 8).map .u8)]:=by
 rw[F1];refine bf ac (fn:=f64) func64 rfl am (ak ?_);simp only[go_sem,seval,ntmps64];refine dz 9 ?_;simp only[go_sem,seval];exact Fin.ren [15] ae ae aZ ah ae ae
theorem rj (bs:List (BitVec 8))(n:BitVec 64)(a:bs.length<=140737488351232):aq prog 64 [.slice 0 0 bs.length 1,.u64 n,.i64 8] [bK (bs.map .u8)] (.slice 1 0 (bs.length+8) 1) [none,bK ((bs++aV n.toNat 8).map .u8)]:=by
 rw[F1];refine bf ac (fn:=f64) func64 rfl am (ak ?_);simp only[go_sem,seval,ntmps64];refine dz 9 ?_;simp only[go_sem,seval,ar];refine⟨aa,aa,aa,aa,aa,aa,aa,aa,?_⟩;exact Fin.ren [0,16] ae ae aZ ah ae ae
def vI (x:BitVec 32)(k:Nat):BitVec 32:=x<<<k|||x>>>(32-k)
theorem acw (n:Int):(BitVec.ofInt 64 n&&&31#64).toNat=(n%32).toNat:=by
 rw[nM,l9,show(31#64).toNat=2^5-1 from rfl,rb];omega
theorem oY (x:BitVec 32)(n:Int):aG prog 169 [.u32 x,.i64 n] (.u32 (vI x (n%32).toNat)):=by
 have e:=acw n;have a:(32#64-(BitVec.ofInt 64 n&&&31#64)).toNat=32-(n%32).toNat:=by
  rw[uv,e];have :(32#64).toNat=32:=rfl;rw[this];omega
 refine aQ ac (fn:=f169) ac func169 rfl am (by simp[af,V.low]) (by simp[V.low]) (ak ?_);simp only[go_sem,seval,ntmps169,results169,e,a];rfl
def zN (a b c d:BitVec 32):List (BitVec 32):=
 let e:=a+b;let d1:=vI (d ^^^ e) 16
 let f:=c+d1;let g:=vI (b ^^^ f) 12
 let a2:=e+g;let d2:=vI (d1 ^^^ a2) 8
 let h:=f+d2;let i:=vI (g ^^^ h) 7
 [a2,i,h,d2]
theorem aad (a b c d:BitVec 32):aG prog 199 [.u32 a,.u32 b,.u32 c,.u32 d] (.tup ((zN a b c d).map .u32)):=by
 refine aQ ac (fn:=f199) ac func199 rfl am (by simp[af,V.low]) (by simp[zN,af,V.low]) (ak ?_);simp only[go_sem,seval,ntmps199];refine dz 3 ?_;simp only[go_sem,seval];refine au (oY _ _) ?_;simp only[go_sem,seval,Int.reduceMod];refine au (oY _ _) ?_;simp only[go_sem,seval,Int.reduceMod];refine au (oY _ _) ?_;simp only[go_sem,seval,Int.reduceMod];refine au (oY _ _) ?_;simp only[go_sem,seval,Int.reduceMod];rfl
def qE (w:List (BitVec 32))(a b c d:Nat):List (BitVec 32):=
 let q:=zN (w.getD a 0) (w.getD b 0) (w.getD c 0) (w.getD d 0)
 (((w.set a (q.getD 0 0)).set b (q.getD 1 0)).set c (q.getD 2 0)).set d (q.getD 3 0)
theorem abv (w:List (BitVec 32))(a b c d:Nat):(qE w a b c d).length=w.length:=by simp[qE]
def ue (i r:Nat):Nat:=4*r+(i%4+r*(i/4%2))%4
def dH (w:List (BitVec 32)):Nat->List (BitVec 32)
 |0=>w
 |i+1=>qE (dH w i) (ue i 0) (ue i 1) (ue i 2) (ue i 3)
theorem xG (w:List (BitVec 32))(i:Nat):(dH w i).length=w.length:=by
 induction i with
 |zero=>rfl
 |succ i ih=>rw[dH,abv,ih]
theorem KV (w:List (BitVec 32))(hw:w.length=16)(a b c d:Nat)(ha:a<16)(hb:b<16)(hc:c<16)(hd:d<16):
  aq Tryz.prog 198 [.i64 a,.i64 b,.i64 c,.i64 d,.ptr 0 0] [some ⟨false,w.map .u32,none⟩] (.tup []) [some ⟨false,(qE w a b c d).map .u32,none⟩]:=by
 have ha':(a:Int)<16:=by omega
 have hb':(b:Int)<16:=by omega
 have hc':(c:Int)<16:=by omega
 have hd':(d:Int)<16:=by omega
 have za:(0:Int)≤a:=by omega
 have zb:(0:Int)≤b:=by omega
 have zc:(0:Int)≤c:=by omega
 have zd:(0:Int)≤d:=by omega
 refine bf (by kernel_rfl) (fn:=Tryz.f198) Tryz.func198 rfl (by show 5≤35;decide) (ak ?_)
 simp only[go_sem,↓reduceIte,Nat.reduceEqDiff,Nat.reduceLT,Nat.reduceAdd,reduceCtorEq,Tryz.ntmps198,ha',hb',hc',hd',za,zb,zc,zd,hw,ha,hb,hc,hd,pF (hw▸ha),pF (hw▸hb),pF (hw▸hc),pF (hw▸hd)]
 have hq:∃ x y z t,zN (w.getD a 0) (w.getD b 0) (w.getD c 0) (w.getD d 0)=[x,y,z,t]:=⟨_,_,_,_,rfl⟩
 obtain⟨x,y,z,t,hq⟩:=hq
 have hqs:=aad (w.getD a 0) (w.getD b 0) (w.getD c 0) (w.getD d 0)
 rw[hq] at hqs
 have hst:qE w a b c d=(((w.set a x).set b y).set c z).set d t:=by unfold qE;rw[hq];rfl
 rw[hst]
 refine aX (hqs) ?_
 simp only[go_sem,↓reduceIte,Nat.reduceEqDiff,Nat.reduceLT,Nat.reduceLeDiff,reduceCtorEq,ha',hb',hc',hd',za,zb,zc,zd,hw]
 refine⟨by omega,by omega,by omega,by omega,by kernel_rfl,?_⟩
 exact Fin.ren [0] (by simp) (by simp) (by rfl) (by decide) (by simp[-List.map_map,-List.map_set]) (by simp[-List.map_map,-List.map_set])
theorem af0:aG prog 108 [] (.agg [.u32 1779033703#32,.u32 3144134277#32,.u32 1013904242#32,.u32 2773480762#32,.u32 1359893119#32,.u32 2600822924#32,.u32 528734635#32,.u32 1541459225#32]):=by
 refine aQ ac (fn:=f108) ac func108 rfl am (by simp[af]) (by simp[af,V.low]) (ak ?_);simp -implicitDefEqProofs only[go_sem,seval,ntmps108,results108]
theorem aev (a b c d:Nat)(x y:BitVec 32)(ws:List (BitVec 32))(hl:ws.length=16)(ha:a<16)(hb:b<16)(hc:c<16)(hd:d<16):
  ∃ v h',aq prog 151 [.ptr 0 0,.agg [.i64 a,.i64 b,.i64 c,.i64 d],.u32 x,.u32 y] [bK (ws.map .u32)] v h'/\v= .tup []/\∃ ws':List (BitVec 32),ws'.length=16/\h'=[bK (ws'.map .u32)]:=by
 refine fP (Post:=fun v h'=>v= .tup []/\∃ ws':List (BitVec 32),ws'.length=16/\h'=[bK (ws'.map .u32)]) ac (fn:=f151) func151 rfl am (ak ?_);simp -implicitDefEqProofs only[go_sem,seval,fJ V.u32 0#32,lM,ba,aY,hl,ha,hb,hd];refine⟨aa,aa,aa,aa,ac,aa,ac,?_⟩;generalize hw1:List.set ws a _=w1;have hl1:w1.length=16:=by rw[<-hw1];simp[hl]
 refine aX (oY _ _) ?_;simp -implicitDefEqProofs only[go_sem,seval,fJ V.u32 0#32,lM,ba,aY,hb,hc,hd,hl1];refine⟨aa,ac,aa,ac,?_⟩;generalize hw2:List.set (List.set w1 d _) c _=w2;have hl2:w2.length=16:=by rw[<-hw2];simp[hl1]
 refine aX (oY _ _) ?_;simp -implicitDefEqProofs only[go_sem,seval,fJ V.u32 0#32,lM,ba,aY,ha,hb,hd,hl2];refine⟨aa,ac,aa,ac,?_⟩;generalize hw3:List.set (List.set w2 b _) a _=w3;have hl3:w3.length=16:=by rw[<-hw3];simp[hl2]
 refine aX (oY _ _) ?_;simp -implicitDefEqProofs only[go_sem,seval,fJ V.u32 0#32,lM,ba,aY,hb,hc,hd,hl3];refine⟨aa,ac,aa,ac,?_⟩;generalize hw4:List.set (List.set w3 d _) c _=w4;have hl4:w4.length=16:=by rw[<-hw4];simp[hl3]
 refine aX (oY _ _) ?_;simp -implicitDefEqProofs only[go_sem,seval,lM,ba,hl4];repeat refine aJ ?_
 refine⟨_,_,?_,Fin.take 1 ae ae (by simp[eL,af,V.low,-List.map_take,-List.map_drop,-List.map_map,-List.map_set]) (by simp[bD,-List.map_take,-List.map_drop,-List.map_map,-List.map_set])⟩;exact⟨rfl,_,by rw[aY];exact hl4,rfl⟩
def Mz:V->BitVec 8
 | .u8 x=>x
 |_=>0#8
def AO (cs:List V)(n k:Nat):Bool:=(List.range n).all fun i=>match cs.getD i .junk with
 | .u8 x=>decide (x.toNat<k)
 |_=>false
theorem HT {cs:List V}{n k:Nat}(h:AO cs n k=true)(i:Nat)(a:i<n):∃ x:BitVec 8,cs.getD i .junk= .u8 x/\x.toNat<k:=by
 unfold AO at h;rw[mW] at h;have :=h i (zM.2 a);split at this
 ·rename_i x b;exact⟨x,b,of_decide_eq_true this⟩
 ·cases this
theorem QV {cs:List V}{n k:Nat}(b:cs.length=n)(h:AO cs n k=true):Alls V.u8 n cs:=by
 refine⟨cs.map Mz,by simpa using b,yu ae fun i h1 h2=>?_⟩;obtain⟨x,a,-⟩:=HT h i aa;rw[aW,aF h1] at a;have a:cs[i]= .u8 x:=a;rw[rS,rS,a];rfl
theorem VO:∃ v,aG prog 150 [] v/\∃ cs,v= .agg cs/\Alls V.u8 160 cs/\∀ i,i<160->∃ x:BitVec 8,cs.getD i .junk= .u8 x/\x.toNat<16:=by
 refine jm (Post:=fun v=>∃ cs,v= .agg cs/\Alls V.u8 160 cs/\∀ i,i<160->∃ x:BitVec 8,cs.getD i .junk= .u8 x/\x.toNat<16) ac ac (fn:=f150) func150 rfl am trivial (by
  rintro v ⟨cs,rfl,h,-⟩;exact h.low fun _=>trivial) (ak ?_)
 simp -implicitDefEqProofs only[go_sem,↓reduceIte,Nat.reduceEqDiff,Nat.reduceLT,Nat.reduceLeDiff,Nat.reduceAdd,Nat.reduceSub,Nat.reduceMul,Int.reduceLE,Int.reduceLT,BitVec.reduceOfInt,reduceCtorEq];exact⟨fun x a=>by simp at a,_,rfl,QV (k:=16) ac ac,HT ac⟩
theorem GA:∃ v,aG prog 108 [] v/\∃ a:List (BitVec 32),a.length=8/\v= .agg (a.map .u32):=⟨_,af0,[_,_,_,_,_,_,_,_],rfl,rfl⟩
theorem LK:∃ v,aG prog 150 [] v/\∃ ls:List (BitVec 8),ls.length=160/\v= .agg (ls.map .u8)/\∀ i,i<160->(ls.getD i 0#8).toNat<16:=by
 obtain⟨v,b,cs,rfl,⟨ls,c,rfl⟩,h2⟩:=VO;refine⟨_,b,ls,c,rfl,fun i d=>?_⟩;obtain⟨x,a,e⟩:=h2 i d;rw[fJ V.u8 0#8,if_pos aa] at a;rw[V.u8.inj a];exact e
def plc:List V:=[.i64 0,.i64 4,.i64 8,.i64 12,.i64 1,.i64 5,.i64 9,.i64 13,.i64 2,.i64 6,.i64 10,.i64 14,.i64 3,.i64 7,.i64 11,.i64 15,.i64 0,.i64 5,.i64 10,.i64 15,.i64 1,.i64 6,.i64 11,.i64 12,.i64 2,.i64 7,.i64 8,.i64 13,.i64 3,.i64 4,.i64 9,.i64 14]
theorem ahr:[V.i64 0,V.i64 4,V.i64 8,V.i64 12,V.i64 1,V.i64 5,V.i64 9,V.i64 13,V.i64 2,V.i64 6,V.i64 10,V.i64 14,V.i64 3,V.i64 7,V.i64 11,V.i64 15,V.i64 0,V.i64 5,V.i64 10,V.i64 15,V.i64 1,V.i64 6,V.i64 11,V.i64 12,V.i64 2,V.i64 7,V.i64 8,V.i64 13,V.i64 3,V.i64 4,V.i64 9,V.i64 14]=plc:=rfl
theorem tI (N:Nat):af N plc=True:=by unfold plc;simp[af,V.low]
theorem Jp:plc.take 32=plc:=rfl
theorem Q7 (i:Nat)(h:i<8):∃ a b c d:Nat,a<16/\b<16/\c<16/\d<16/\(plc.drop (i*4)).take 4=[.i64 a,.i64 b,.i64 c,.i64 d]:=by
 match i,h with
 |0,_=>exact⟨0,4,8,12,ah,ah,ah,ah,rfl⟩
 |1,_=>exact⟨1,5,9,13,ah,ah,ah,ah,rfl⟩
 |2,_=>exact⟨2,6,10,14,ah,ah,ah,ah,rfl⟩
 |3,_=>exact⟨3,7,11,15,ah,ah,ah,ah,rfl⟩
 |4,_=>exact⟨0,5,10,15,ah,ah,ah,ah,rfl⟩
 |5,_=>exact⟨1,6,11,12,ah,ah,ah,ah,rfl⟩
 |6,_=>exact⟨2,7,8,13,ah,ah,ah,ah,rfl⟩
 |7,_=>exact⟨3,4,9,14,ah,ah,ah,ah,rfl⟩
theorem JP {ls:List (BitVec 8)}(h2:∀ i,i<160->(ls.getD i 0#8).toNat<16){k i:Nat}(b:k<10)(a:i<16):(((ls.drop (k*16)).take 16).getD i 0#8).toNat<16:=by
 rw[aW,sP a,il,<-aW];exact h2 _ aa
theorem F8 (hs0:List (BitVec 32))(hl:hs0.length=8)(b:List ai)(hb:b.length=64)(many:BitVec 64)(last:Bool):∃ v,aG prog 109 [.agg (hs0.map .u32),.str b,.u64 many,.bool last] v/\∃ hs':List (BitVec 32),v= .agg (hs'.map .u32)/\hs'.length=8:=by
 refine jm (Post:=fun v=>∃ hs':List (BitVec 32),v= .agg (hs'.map .u32)/\hs'.length=8) ac ac (fn:=f109) func109 rfl am (by simp[af,V.low]) (fun v h=>by first|(obtain⟨s,rfl,h⟩:=h;simp[V.low])|(obtain⟨s,h,rfl⟩:=h;simp[af,V.low])) (ak ?_);simp -implicitDefEqProofs only[go_sem,↓reduceIte,Nat.reduceEqDiff,Nat.reduceLT,Nat.reduceLeDiff,Nat.reduceAdd,Int.reduceLE,Int.reduceToNat,Int.reduceSub,ba,hl,↓IP,↓xz,gv,br,<-nc,Dp,Nat.min_self,cw];repeat refine aJ ?_
 refine dZ (GA) ?_;rintro _ ⟨vs,hvs,rfl⟩;simp -implicitDefEqProofs only[go_sem,↓reduceIte,Nat.reduceEqDiff,Nat.reduceLT,Nat.reduceLeDiff,Nat.reduceAdd,Int.reduceLE,Int.reduceLT,Int.reduceToNat,Int.reduceSub,BitVec.reduceOfInt,BitVec.reduceToNat,reduceCtorEq,↓IP,↓xz,Dp,gv,hl,hvs,ba,br,<-nc,Nat.min_self,cw,fJ V.u32 0#32,lM,aaa];repeat refine aJ ?_
 refine PI fun s hs=>?_
 obtain⟨t,w,hw,rfl,h1,h4,h8,h9,h11,h44⟩:∃ (t:List (Nat×V)) (w:List (BitVec 32)),w.length=16/\s=⟨t,[bK (hs0.map .u32),bK ((List.replicate 8 0#32).map .u32),bK (w.map .u32),bK ((nQ (List.replicate 8 0#32) 0 vs).map .u32),bK ((List.replicate 16 0#32).map .u32)]⟩/\aj t 1= .str b/\aj t 4= .ptr 0 0/\aj t 8= .ptr 1 0/\aj t 9= .ptr 2 0/\aj t 11= .ptr 4 0/\aj t 44= .i64 (0:Nat):=by
  rcases hs with rfl|rfl
  ·exact⟨_,_,by simp only[aY,Ei,br,gv,hl,hvs];rfl,rfl,rfl,rfl,rfl,rfl,rfl,rfl⟩
  ·exact⟨_,_,by simp only[aY,Ei,br,gv,hl,hvs];rfl,rfl,rfl,rfl,rfl,rfl,rfl,rfl⟩
 refine bq (fun j st=>∃ (i:Nat) (vs ms:List (BitVec 32)),i+j=16/\ms.length=16/\st=⟨[(1,.str b),(4,.ptr 0 0),(8,.ptr 1 0),(9,.ptr 2 0),(11,.ptr 4 0),(44,.i64 i)],[bK (hs0.map .u32),bK ((List.replicate 8 0#32).map .u32),bK (w.map .u32),bK (vs.map .u32),bK (ms.map .u32)]⟩) ?_ ?_
 ·refine k7 (16) [1,4,8,9,11,44] 5 ae ae (by simp[dG,St.get,V.low,-List.map_take,-List.map_drop,-List.map_map,-List.map_set,h1,h4,h8,h9,h11,h44]) (by simp[bD,af,V.low,-List.map_take,-List.map_drop,-List.map_map,-List.map_set]) ?_;simp only[dt,bN,cO,St.get,Nat.reduceEqDiff,cj,ez,h1,h4,h8,h9,h11,h44];exact⟨0,_,_,aa,ae,rfl⟩
 clear hs h1 h4 h8 h9 h11 h44;rintro j st ⟨i,vs,ms,hij,hms,rfl⟩-;by_cases hi:i<16
 ·have hi':(i:Int)<16:=aa;have hw1:=dw (i:=i) aa;have e4:ao (4*(i:Int))=((4*i:Nat):Int):=by rw[az aa aa];omega
  have e5:ao (((4*i:Nat):Int)+4)=((4*i+4:Nat):Int):=by rw[az aa aa];omega
  simp -implicitDefEqProofs only[go_sem,↓reduceIte,Nat.reduceEqDiff,Nat.reduceLT,hi',e4,e5,hb];repeat refine aJ ?_
  refine au (iJ _ (by simp;omega)) ?_;simp -implicitDefEqProofs only[go_sem,↓reduceIte,Nat.reduceEqDiff,Nat.reduceLT,Nat.reduceLeDiff,ba,hms,lM,hw1];repeat refine aJ ?_
  refine nh (j-1) [1,4,8,9,11,44] 5 aa ae ae (by simp[dG,St.get,aj,V.low,-List.map_take,-List.map_drop,-List.map_map,-List.map_set]) (by simp[bD,af,V.low,-List.map_take,-List.map_drop,-List.map_map,-List.map_set]) ?_;simp only[dt,bN,cO,St.get,aj,↓reduceIte,Nat.reduceEqDiff,cj,ez];exact⟨i+1,_,_,aa,by simpa using hms,rfl⟩
 ·have hi':¬ (i:Int)<16:=aa;simp -implicitDefEqProofs only[go_sem,↓reduceIte,Nat.reduceEqDiff,Nat.reduceLT,Nat.reduceLeDiff,Nat.reduceAdd,Nat.reduceMul,hi'];refine dZ (LK) ?_;rintro _ ⟨ls,hls,rfl,hls2⟩;simp -implicitDefEqProofs only[go_sem,Nat.reduceLT,↓ahr];refine bq (fun j st=>∃ (i:Nat) (ws:List (BitVec 32)),i+j=10/\ws.length=16/\st=⟨[(4,.ptr 0 0),(8,.ptr 1 0),(9,.ptr 2 0),(11,.ptr 4 0),(13,.ptr 5 0),(68,.agg (ls.map .u8)),(69,.i64 i)],[bK (hs0.map .u32),bK ((List.replicate 8 0#32).map .u32),bK (ws.map .u32),bK (vs.map .u32),bK (ms.map .u32),bK plc]⟩) ?_ ?_
  ·refine k7 (10) [4,8,9,11,13,68,69] 6 ae ae (by simp[dG,St.get,aj,V.low,-List.map_take,-List.map_drop,-List.map_map,-List.map_set]) (by simp[bD,af,V.low,-List.map_take,-List.map_drop,-List.map_map,-List.map_set,tI]) ?_;simp only[dt,bN,cO,St.get,aj,↓reduceIte,Nat.reduceEqDiff,cj,ez];exact⟨0,_,aa,hw,rfl⟩
  clear hw w;rintro j st ⟨i,ws,hij,hws,rfl⟩-;by_cases hi:i<10
  ·have hi':(i:Int)<10:=aa;have hw1:=dw (i:=i) aa;have hm16:min 16 (160-i*16)=16:=aa;simp -implicitDefEqProofs only[go_sem,↓reduceIte,Nat.reduceEqDiff,Nat.reduceLT,Nat.reduceAdd,hi',hls,hm16,bL,ce,ig,ba,br,bU];repeat refine aJ ?_
   refine bq (fun j2 st=>∃ (c:Nat) (ws:List (BitVec 32)),c+j2=8/\ws.length=16/\st=⟨[(4,.ptr 0 0),(8,.ptr 1 0),(9,.ptr 2 0),(11,.ptr 4 0),(13,.ptr 5 0),(68,.agg (ls.map .u8)),(69,.i64 i),(15,.ptr 6 0),(72,.agg plc),(73,.i64 c)],[bK (hs0.map .u32),bK ((List.replicate 8 0#32).map .u32),bK (ws.map .u32),bK (vs.map .u32),bK (ms.map .u32),bK plc,bK (((ls.drop (i*16)).take 16).map .u8)]⟩) ?_ ?_
   ·refine k7 (8) [4,8,9,11,13,68,69,15,72,73] 7 ae ae (by simp[dG,St.get,aj,V.low,-List.map_take,-List.map_drop,-List.map_map,-List.map_set,tI,Jp]) (by simp[bD,af,V.low,-List.map_take,-List.map_drop,-List.map_map,-List.map_set,tI]) ?_;simp only[dt,bN,cO,St.get,aj,↓reduceIte,Nat.reduceEqDiff,cj,ez,Jp];exact⟨0,_,aa,hws,rfl⟩
   clear hws ws;rintro j2 st ⟨c,ws,hcj,hws,rfl⟩-;by_cases hc:c<8
   ·have hc':(c:Int)<8:=aa;have hw2:=dw (i:=c) aa;obtain⟨a1,a2,a3,a4,g1,g2,g3,g4,ep⟩:=Q7 c hc;have e2:ao (2*(c:Int))=((2*c:Nat):Int):=by rw[az aa aa];omega
    have e3:ao (((2*c:Nat):Int)+1)=((2*c+1:Nat):Int):=by rw[az aa aa];omega
    have q1:=JP hls2 hi (i:=2*c) aa;have q2:=JP hls2 hi (i:=2*c+1) aa;simp -implicitDefEqProofs only[go_sem,↓reduceIte,Nat.reduceEqDiff,Nat.reduceLT,Nat.reduceAdd,hc',ep,e2,e3,bL,ce,ig,hls,hm16,fJ V.u8 0#8,ba,br,bU,show 2*c<16 by omega,show 2*c+1<16 by omega,fJ V.u32 0#32,hms,q1,q2];repeat refine aJ ?_
    obtain⟨_,_,hmix,rfl,ws',hws',rfl⟩:=aev a1 a2 a3 a4 (ms.getD (((ls.drop (i*16)).take 16).getD (2*c) 0#8).toNat 0#32) (ms.getD (((ls.drop (i*16)).take 16).getD (2*c+1) 0#8).toNat 0#32) ws hws g1 g2 g3 g4;refine iq [2] (hmix) ac ae rfl ae aM ae ae ae ae ae ?_;simp -implicitDefEqProofs only[go_sem,↓reduceIte,Nat.reduceEqDiff,Nat.reduceLT,Nat.reduceAdd,Nat.reduceSub,hw2];repeat refine aJ ?_
    refine nh (j2-1) [4,8,9,11,13,68,69,15,72,73] 7 aa ae ae (by simp[dG,St.get,aj,V.low,-List.map_take,-List.map_drop,-List.map_map,-List.map_set,tI]) (by simp[bD,af,V.low,-List.map_take,-List.map_drop,-List.map_map,-List.map_set,tI]) ?_;simp only[dt,bN,cO,St.get,aj,↓reduceIte,Nat.reduceEqDiff,cj,ez];exact⟨c+1,_,aa,hws',rfl⟩
   ·have hc':¬ (c:Int)<8:=aa;simp -implicitDefEqProofs only[go_sem,↓reduceIte,Nat.reduceEqDiff,Nat.reduceLT,hc',hw1];refine nh (j-1) [4,8,9,11,13,68,69] 6 aa ae ae (by simp[dG,St.get,aj,V.low,-List.map_take,-List.map_drop,-List.map_map,-List.map_set]) (by simp[bD,af,V.low,-List.map_take,-List.map_drop,-List.map_map,-List.map_set,tI]) ?_;simp only[dt,bN,cO,St.get,aj,↓reduceIte,Nat.reduceEqDiff,cj,ez];exact⟨i+1,_,aa,hws,rfl⟩
  ·have hi':¬ (i:Int)<10:=aa;simp -implicitDefEqProofs only[go_sem,↓reduceIte,Nat.reduceEqDiff,Nat.reduceLT,hi'];refine bq (fun j st=>∃ (i:Nat) (hs:List (BitVec 32)),i+j=8/\hs.length=8/\st=⟨[(4,.ptr 0 0),(8,.ptr 1 0),(9,.ptr 2 0),(94,.i64 i)],[bK (hs.map .u32),bK ((List.replicate 8 0#32).map .u32),bK (ws.map .u32)]⟩) ?_ ?_
   ·refine k7 (8) [4,8,9,94] 3 ae ae (by simp[dG,St.get,aj,V.low,-List.map_take,-List.map_drop,-List.map_map,-List.map_set]) (by simp[bD,af,V.low,-List.map_take,-List.map_drop,-List.map_map,-List.map_set]) ?_;simp only[dt,bN,cO,St.get,aj,↓reduceIte,Nat.reduceEqDiff,cj,ez];exact⟨0,_,aa,hl,rfl⟩
   rintro j st ⟨i,hs,hij,hhs,rfl⟩-;by_cases hi:i<8
   ·have hi':(i:Int)<8:=aa;have hw1:=dw (i:=i) aa;have e8:ao ((i:Int)+8)=((i+8:Nat):Int):=by rw[az aa aa];omega
    simp -implicitDefEqProofs only[go_sem,↓reduceIte,Nat.reduceEqDiff,Nat.reduceLT,Nat.reduceLeDiff,Nat.reduceAdd,hi',e8,ba,hhs,hws,fJ V.u32 0#32,lM,show i+8<16 by omega,show i<16 by omega,hi,hw1];repeat refine aJ ?_
    refine nh (j-1) [4,8,9,94] 3 aa ae ae (by simp[dG,St.get,aj,V.low,-List.map_take,-List.map_drop,-List.map_map,-List.map_set]) (by simp[bD,af,V.low,-List.map_take,-List.map_drop,-List.map_map,-List.map_set]) ?_;simp only[dt,bN,cO,St.get,aj,↓reduceIte,Nat.reduceEqDiff,cj,ez];exact⟨i+1,_,aa,by simpa using hhs,rfl⟩
   ·have hi':¬ (i:Int)<8:=aa;simp -implicitDefEqProofs only[go_sem,↓reduceIte,Nat.reduceEqDiff,Nat.reduceLT,hi',bL,ba,hhs,gv,ar (show hs.length<=8 by omega)];repeat refine aJ ?_
    exact⟨hs,rfl,hhs⟩
section
theorem tV (x:BitVec 32)(n:Int):∃ v,aG prog 169 [.u32 x,.i64 n] v/\∃ y:BitVec 32,v= .u32 y:=⟨_,oY x n,_,rfl⟩
theorem zk (x:BitVec 32)(a b c:Int):∃ v,aG prog 170 [.u32 x,.i64 a,.i64 b,.i64 c] v/\∃ y:BitVec 32,v= .u32 y:=by
 by_cases h:0<c
 ·refine jm (Post:=fun v=>∃ y:BitVec 32,v= .u32 y) ac ac (fn:=f170) func170 rfl am (by simp[af,V.low]) (fun v h=>by obtain⟨y,rfl⟩:=h;trivial) (ak ?_);simp -implicitDefEqProofs only[go_sem,seval];refine dZ (tV _ _) ?_;rintro _ ⟨d,rfl⟩;simp -implicitDefEqProofs only[go_sem,seval,h];repeat refine aJ ?_
  refine dZ (tV _ _) ?_;rintro _ ⟨e,rfl⟩;simp -implicitDefEqProofs only[go_sem,seval];refine dZ (tV _ _) ?_;rintro _ ⟨f,rfl⟩;simp -implicitDefEqProofs only[go_sem,seval];exact⟨_,rfl⟩
 ·refine jm (Post:=fun v=>∃ y:BitVec 32,v= .u32 y) ac ac (fn:=f170) func170 rfl am (by simp[af,V.low]) (fun v h=>by obtain⟨y,rfl⟩:=h;trivial) (ak ?_);simp -implicitDefEqProofs only[go_sem,seval];refine dZ (tV _ _) ?_;rintro _ ⟨d,rfl⟩;simp -implicitDefEqProofs only[go_sem,seval,h];refine dZ (tV _ _) ?_;rintro _ ⟨e,rfl⟩;simp -implicitDefEqProofs only[go_sem,seval];refine dZ (tV _ _) ?_;rintro _ ⟨f,rfl⟩;simp -implicitDefEqProofs only[go_sem,seval];exact⟨_,rfl⟩
theorem YJ:∃ v,aG prog 152 [] v/\∃ a:List (BitVec 32),a.length=8/\v= .agg (a.map .u32):=by
 refine jm (Post:=fun v=>∃ a:List (BitVec 32),a.length=8/\v= .agg (a.map .u32)) ac ac (fn:=f152) func152 rfl am (trivial) (fun v h=>by obtain⟨a,-,rfl⟩:=h;exact yD (mk:=V.u32) (fun _=>trivial) a) (ak ?_);simp -implicitDefEqProofs only[go_sem,seval];exact⟨[_,_,_,_,_,_,_,_],rfl,rfl⟩
def IC:V->BitVec 32
 | .u32 x=>x
 |_=>0#32
def BG (cs:List V):Bool:=cs.all fun | .u32 _=>true|_=>false
theorem agJ {cs:List V}(h:BG cs=true):cs=(cs.map IC).map .u32:=by
 unfold BG at h;rw[mW] at h;refine yu ae fun i h1 h2=>?_
 have :=h cs[i] (dd _);rw[rS,rS];split at this
 ·rename_i x a;rw[a];rfl
 ·cases this
theorem PS {cs:List V}{n:Nat}(h:BG cs=true)(b:cs.length=n):∃ a:List (BitVec 32),a.length=n/\V.agg cs= .agg (a.map .u32):=
 ⟨cs.map IC,by rw[ba];exact b,congrArg V.agg (agJ h)⟩
set_option maxRecDepth 200000 in
theorem Rh:∃ v,aG prog 171 [] v/\∃ hs:List (BitVec 32),hs.length=64/\v= .agg (hs.map .u32):=by
 refine jm (Post:=fun v=>∃ hs:List (BitVec 32),hs.length=64/\v= .agg (hs.map .u32)) ac ac (fn:=f171) func171 rfl am (trivial) (fun v h=>by obtain⟨hs,-,rfl⟩:=h;exact yD (mk:=V.u32) (fun _=>trivial) hs) (ak ?_);simp -implicitDefEqProofs only[go_sem,seval];exact PS ac ac
theorem adG:[V.u32 0#32,V.u32 0#32,V.u32 0#32,V.u32 0#32,V.u32 0#32,V.u32 0#32,V.u32 0#32,V.u32 0#32,V.u32 0#32,V.u32 0#32,V.u32 0#32,V.u32 0#32,V.u32 0#32,V.u32 0#32,V.u32 0#32,V.u32 0#32,V.u32 0#32,V.u32 0#32,V.u32 0#32,V.u32 0#32,V.u32 0#32,V.u32 0#32,V.u32 0#32,V.u32 0#32,V.u32 0#32,V.u32 0#32,V.u32 0#32,V.u32 0#32,V.u32 0#32,V.u32 0#32,V.u32 0#32,V.u32 0#32,V.u32 0#32,V.u32 0#32,V.u32 0#32,V.u32 0#32,V.u32 0#32,V.u32 0#32,V.u32 0#32,V.u32 0#32,V.u32 0#32,V.u32 0#32,V.u32 0#32,V.u32 0#32,V.u32 0#32,V.u32 0#32,V.u32 0#32,V.u32 0#32,V.u32 0#32,V.u32 0#32,V.u32 0#32,V.u32 0#32,V.u32 0#32,V.u32 0#32,V.u32 0#32,V.u32 0#32,V.u32 0#32,V.u32 0#32,V.u32 0#32,V.u32 0#32,V.u32 0#32,V.u32 0#32,V.u32 0#32,V.u32 0#32]=(List.replicate 64 0#32).map V.u32:=rfl
theorem HN (hs0:List (BitVec 32))(hl:hs0.length=8)(b:List ai)(hb:b.length=64):∃ v,aG prog 153 [.agg (hs0.map .u32),.str b] v/\∃ hs':List (BitVec 32),hs'.length=8/\v= .agg (hs'.map .u32):=by
 refine jm (Post:=fun v=>∃ hs':List (BitVec 32),hs'.length=8/\v= .agg (hs'.map .u32)) ac ac (fn:=f153) func153 rfl am (by simp[af,V.low]) (fun v h=>by first|(obtain⟨s,rfl,h⟩:=h;simp[af,V.low])|(obtain⟨s,h,rfl⟩:=h;simp[V.low])) (ak ?_);simp -implicitDefEqProofs only[go_sem,↓reduceIte,Nat.reduceLT,Nat.reduceAdd,Int.reduceNeg,↓adG,↓xz];refine bq (fun j st=>∃ (i:Nat) (ws:List (BitVec 32)),i+j=64/\ws.length=64/\st=⟨[(1,.str b),(2,.ptr 0 0),(4,.ptr 1 0),(5,.ptr 2 0),(15,.i64 i)],[bK (hs0.map .u32),bK ((List.replicate 8 0#32).map .u32),bK (ws.map .u32)]⟩) ?_ ?_
 ·refine k7 (64) [1,2,4,5,15] 3 ae ae (by simp[dG,St.get,aj,V.low,-List.map_take,-List.map_drop,-List.map_map,-List.map_set]) (by simp[bD,af,V.low,-List.map_take,-List.map_drop,-List.map_map,-List.map_set]) ?_;simp only[dt,bN,cO,St.get,aj,↓reduceIte,Nat.reduceEqDiff,cj,ez];exact⟨0,List.replicate 64 0#32,aa,by rw[gv],rfl⟩
 rintro j st ⟨i,ws,hij,hws,rfl⟩-;by_cases hi:i<64
 ·have hi':(i:Int)<64:=aa;have hw1:=dw (i:=i) aa;by_cases h16:i<16
  ·have h16':(i:Int)<16:=aa;have e4:ao (4*(i:Int))=((4*i:Nat):Int):=by rw[az aa aa];omega
   have e5:ao (((4*i:Nat):Int)+4)=((4*i+4:Nat):Int):=by rw[az aa aa];omega
   simp -implicitDefEqProofs only[go_sem,↓reduceIte,Nat.reduceEqDiff,Nat.reduceLT,Int.reduceNeg,hi',h16',e4,e5,hb];repeat refine aJ ?_
   refine au (ug _ (by simp;omega)) ?_;simp -implicitDefEqProofs only[go_sem,↓reduceIte,Nat.reduceEqDiff,Nat.reduceLT,Nat.reduceLeDiff,Int.reduceNeg,ba,hws,lM,hw1];repeat refine aJ ?_
   refine nh (j-1) [1,2,4,5,15] 3 aa ae ae (by simp[dG,St.get,aj,V.low,-List.map_take,-List.map_drop,-List.map_map,-List.map_set]) (by simp[bD,af,V.low,-List.map_take,-List.map_drop,-List.map_map,-List.map_set]) ?_;simp only[dt,bN,cO,St.get,aj,↓reduceIte,Nat.reduceEqDiff,cj,ez];exact⟨i+1,_,aa,by simpa using hws,rfl⟩
  ·have h16':¬ (i:Int)<16:=aa;have f1:ao ((i:Int)-16)=((i-16:Nat):Int):=by rw[az aa aa];omega
   have f2:ao ((i:Int)-7)=((i-7:Nat):Int):=by rw[az aa aa];omega
   have f3:ao ((i:Int)-15)=((i-15:Nat):Int):=by rw[az aa aa];omega
   have f4:ao ((i:Int)-2)=((i-2:Nat):Int):=by rw[az aa aa];omega
   simp -implicitDefEqProofs only[go_sem,↓reduceIte,Nat.reduceEqDiff,Nat.reduceLT,Nat.reduceAdd,Int.reduceNeg,hi',h16',f1,f2,f3,hws,ba,fJ V.u32 0#32,show i-16<64 by omega,show i-7<64 by omega,show i-15<64 by omega];repeat refine aJ ?_
   refine pQ (zk _ _ _ _) ?_;rintro _ ⟨y1,rfl⟩;simp -implicitDefEqProofs only[go_sem,↓reduceIte,Nat.reduceEqDiff,Nat.reduceLT,Nat.reduceAdd,Int.reduceNeg,f4,hws,ba,fJ V.u32 0#32,show i-2<64 by omega];repeat refine aJ ?_
   refine pQ (zk _ _ _ _) ?_;rintro _ ⟨y2,rfl⟩;simp -implicitDefEqProofs only[go_sem,↓reduceIte,Nat.reduceEqDiff,Nat.reduceLT,Nat.reduceLeDiff,Nat.reduceAdd,Int.reduceNeg,hws,ba,lM,hw1];repeat refine aJ ?_
   refine nh (j-1) [1,2,4,5,15] 3 aa ae ae (by simp[dG,St.get,aj,V.low,-List.map_take,-List.map_drop,-List.map_map,-List.map_set]) (by simp[bD,af,V.low,-List.map_take,-List.map_drop,-List.map_map,-List.map_set]) ?_;simp only[dt,bN,cO,St.get,aj,↓reduceIte,Nat.reduceEqDiff,cj,ez];exact⟨i+1,_,aa,by simpa using hws,rfl⟩
 have hi':¬ (i:Int)<64:=aa;simp -implicitDefEqProofs only[go_sem,↓reduceIte,Nat.reduceEqDiff,Nat.reduceLT,Nat.reduceAdd,Int.reduceNeg,hi',ba,hl,↓xz,bL,gv,ar (show hs0.length<=8 by omega)];repeat refine aJ ?_
 refine dZ (Rh) ?_;rintro _ ⟨ks,hks,rfl⟩;simp -implicitDefEqProofs only[go_sem,Nat.reduceLT,Int.reduceNeg];refine bq (fun j st=>∃ (i:Nat) (vs:List (BitVec 32)),i+j=64/\vs.length=8/\st=⟨[(2,.ptr 0 0),(4,.ptr 1 0),(5,.ptr 2 0),(7,.ptr 3 0),(56,.agg (ks.map .u32)),(57,.i64 i)],[bK (hs0.map .u32),bK ((List.replicate 8 0#32).map .u32),bK (ws.map .u32),bK (vs.map .u32)]⟩) ?_ ?_
 ·refine k7 (64) [2,4,5,7,56,57] 4 ae ae (by simp[dG,St.get,aj,V.low,-List.map_take,-List.map_drop,-List.map_map,-List.map_set]) (by simp[bD,af,V.low,-List.map_take,-List.map_drop,-List.map_map,-List.map_set]) ?_;simp only[dt,bN,cO,St.get,aj,↓reduceIte,Nat.reduceEqDiff,cj,ez];exact⟨0,_,aa,hl,rfl⟩
 clear hij hi hi' i;rintro j st ⟨i,vs,hij,hvs,rfl⟩-;by_cases hi:i<64
 ·have hi':(i:Int)<64:=aa;have hw1:=dw (i:=i) aa;have hsp:=Dp V.u32 vs 1 (List.take (min 7 7) (List.take 7 vs)) (by simp;omega);have hsl:(nQ vs 1 (List.take (min 7 7) (List.take 7 vs))).length=8:=by simp[Ei,hvs]
  simp -implicitDefEqProofs only[go_sem,↓reduceIte,Nat.reduceEqDiff,Nat.reduceLT,Nat.reduceAdd,Int.reduceLE,Int.reduceLT,Int.reduceToNat,Int.reduceNeg,hi',hks,hvs,ba,fJ V.u32 0#32,hi];repeat refine aJ ?_
  refine pQ (zk _ _ _ _) ?_;rintro _ ⟨y1,rfl⟩;simp -implicitDefEqProofs only[go_sem,↓reduceIte,Nat.reduceEqDiff,Nat.reduceLT,Nat.reduceAdd,Int.reduceLE,Int.reduceLT,Int.reduceToNat,Int.reduceNeg,hvs,hws,ba,fJ V.u32 0#32,hi];repeat refine aJ ?_
  refine pQ (zk _ _ _ _) ?_;rintro _ ⟨y2,rfl⟩;simp -implicitDefEqProofs only[go_sem,↓reduceIte,Nat.reduceEqDiff,Nat.reduceLT,Nat.reduceLeDiff,Nat.reduceAdd,Int.reduceLE,Int.reduceLT,Int.reduceToNat,Int.reduceSub,Int.reduceNeg,hvs,ba,fJ V.u32 0#32,hsp,hsl,lM,aY,hw1];repeat refine aJ ?_
  refine nh (j-1) [2,4,5,7,56,57] 4 aa ae ae (by simp[dG,St.get,aj,V.low,-List.map_take,-List.map_drop,-List.map_map,-List.map_set]) (by simp[bD,af,V.low,-List.map_take,-List.map_drop,-List.map_map,-List.map_set]) ?_;simp only[dt,bN,cO,St.get,aj,↓reduceIte,Nat.reduceEqDiff,cj,ez];exact⟨i+1,_,aa,by rw[aY,aY];exact hsl,rfl⟩
 have hi':¬ (i:Int)<64:=aa;simp -implicitDefEqProofs only[go_sem,↓reduceIte,Nat.reduceEqDiff,Nat.reduceLT,Int.reduceNeg,hi'];refine bq (fun j st=>∃ (i:Nat) (hs:List (BitVec 32)),i+j=8/\hs.length=8/\st=⟨[(2,.ptr 0 0),(4,.ptr 1 0),(7,.ptr 3 0),(118,.i64 i)],[bK (hs.map .u32),bK ((List.replicate 8 0#32).map .u32),bK (ws.map .u32),bK (vs.map .u32)]⟩) ?_ ?_
 ·refine k7 (8) [2,4,7,118] 4 ae ae (by simp[dG,St.get,aj,V.low,-List.map_take,-List.map_drop,-List.map_map,-List.map_set]) (by simp[bD,af,V.low,-List.map_take,-List.map_drop,-List.map_map,-List.map_set]) ?_;simp only[dt,bN,cO,St.get,aj,↓reduceIte,Nat.reduceEqDiff,cj,ez];exact⟨0,_,aa,hl,rfl⟩
 clear hij hi hi' i;rintro j st ⟨i,hs,hij,hhs,rfl⟩-;by_cases hi:i<8
 ·have hi':(i:Int)<8:=aa;have hw1:=dw (i:=i) aa;simp -implicitDefEqProofs only[go_sem,↓reduceIte,Nat.reduceEqDiff,Nat.reduceLT,Nat.reduceLeDiff,Nat.reduceAdd,hi',ba,hhs,hvs,fJ V.u32 0#32,lM,hi,hw1];repeat refine aJ ?_
  refine nh (j-1) [2,4,7,118] 4 aa ae ae (by simp[dG,St.get,aj,V.low,-List.map_take,-List.map_drop,-List.map_map,-List.map_set]) (by simp[bD,af,V.low,-List.map_take,-List.map_drop,-List.map_map,-List.map_set]) ?_;simp only[dt,bN,cO,St.get,aj,↓reduceIte,Nat.reduceEqDiff,cj,ez];exact⟨i+1,_,aa,by simpa using hhs,rfl⟩
 have hi':¬ (i:Int)<8:=aa;simp -implicitDefEqProofs only[go_sem,↓reduceIte,Nat.reduceEqDiff,Nat.reduceLT,hi',bL,ba,hhs,gv,ar (show hs.length<=8 by omega)];repeat refine aJ ?_
 exact⟨hs,hhs,rfl⟩
end
end Go.Vm
end
