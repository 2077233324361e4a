/- Proved: laws of a machine of values; no conditions but each theorem's own. -/
import Derived.Shelf.Bits.Mul64
import Derived.Test.YtidjknjilnopnaaGreatDoorPoNToPoP
import Derived.Test.YtidjknjilnopnaaGreatDoorShelfRepToPoY
set_option linter.unusedVariables false
set_option linter.unusedSimpArgs false
set_option maxRecDepth 20000
set_option maxHeartbeats 8000000
section
namespace Go.Vm
open Go.Proofs Go.Shelf
section
def ag0:Go.Shelf.Ren:=⟨fun |264=>84|n=>n,fun |53=>81|46=>38|n=>n,fun |n=>n⟩
theorem Ou:Go.Proofs.Lays.n264 Tryz.prog ag0:={
 mixed:=ac
 f264:=Tryz.func84.trans (congrArg some ac)
 t46:=Tryz.underlying38
 a46:=Tryz.isAgg38
 z46:=Tryz.sizeOf38
 v46:=Tryz.zeroValue38
 t53:=Tryz.underlying81
 a53:=Tryz.isAgg81
 z53:=Tryz.sizeOf81
 v53:=Tryz.zeroValue81}
open Go.RowKit Go.Lib in
theorem abi (x y:Nat)(a:x<18446744073709551616)(b:y<18446744073709551616)(w:World):
  Calls Tryz.prog 84 #[.int .u64 x,.int .u64 y] w fun e w'=>e= .returned (.tuple #[.int .u64 ((x*y/18446744073709551616:Nat):Int),.int .u64 ((x*y%18446744073709551616:Nat):Int)])/\w'=w:=Any.bits_Mul64 Ou x y a b w
end
end Go.Vm
end
section
namespace Go.Vm
open Go.Proofs Go.Proofs.Tryz
def cL (x y:BitVec 64):BitVec 64:=BitVec.ofNat 64 (x.toNat*y.toNat/18446744073709551616)
theorem E7 (x y:BitVec 64):aG prog 84 [.u64 x,.u64 y] (.tup [.u64 (cL x y),.u64 (x*y)]):=by
 refine EZ ac (by simp[af,V.low]) (by simp[af,V.low]) fun w a b=>?_
 unfold VRs at b;obtain⟨r1,rs,h,h1,b⟩:=b;unfold VRs at b;obtain⟨r2,c,d,h2,b⟩:=b;unfold VRs at b;unfold VR at h1 h2;subst h1 h2 b d;have f:a=#[.int .u64 x.toNat,.int .u64 y.toNat]:=by cases a;simp_all
 subst f;have i:=x.isLt;have j:=y.isLt;refine(abi x.toNat y.toNat aa aa w).mono ?_;rintro e w' ⟨rfl,rfl⟩;refine⟨_,rfl,?_,⟨rfl,rfl,rfl,aH _,fun _ _=>rfl⟩⟩;have g:x.toNat*y.toNat<18446744073709551616*18446744073709551616:=CG aa aa;have k1:(cL x y).toNat=x.toNat*y.toNat/18446744073709551616:=by
  unfold cL;rw[cx];exact gn (zW aa)
 have k2:(x*y).toNat=x.toNat*y.toNat%18446744073709551616:=by rw[nH]
 unfold VR;refine⟨_,rfl,?_⟩;unfold VRs;refine⟨_,_,rfl,by unfold VR;rw[k1],?_⟩;unfold VRs;refine⟨_,_,rfl,by unfold VR;rw[k2],?_⟩;unfold VRs;rfl
abbrev N3:=BitVec 64×BitVec 64×BitVec 64
def bl (a b:N3):N3:=(a.1+b.1+0#64,a.2.1+b.2.1+bO a.1 b.1 0#64,a.2.2+b.2.2+bO a.2.1 b.2.1 (bO a.1 b.1 0#64))
def gd (a:N3):N3:=bl (a.1,a.2.1,a.2.2&&&3#64) (5#64*(a.2.2>>>2),0#64,0#64)
def mB (a:N3):N3:=if 0#64<(bl (gd a) (5#64,0#64,0#64)).2.2>>>2 then((bl (gd a) (5#64,0#64,0#64)).1,(bl (gd a) (5#64,0#64,0#64)).2.1,(bl (gd a) (5#64,0#64,0#64)).2.2&&&3#64) else gd a
theorem qq (a b:N3):aG prog 200 [.agg [.u64 a.1,.u64 a.2.1,.u64 a.2.2],.agg [.u64 b.1,.u64 b.2.1,.u64 b.2.2]] (.agg [.u64 (bl a b).1,.u64 (bl a b).2.1,.u64 (bl a b).2.2]):=Lx _ _ _ _ _ _
theorem Gz (a:N3):aG prog 206 [.agg [.u64 a.1,.u64 a.2.1,.u64 a.2.2]] (.agg [.u64 (gd a).1,.u64 (gd a).2.1,.u64 (gd a).2.2]):=ZL _ _ _
theorem ach (a:N3):aG prog 202 [.agg [.u64 a.1,.u64 a.2.1,.u64 a.2.2]] (.agg [.u64 (mB a).1,.u64 (mB a).2.1,.u64 (mB a).2.2]):=by
 have c:=Gz a;have b:=qq (gd a) (5#64,0#64,0#64);unfold mB;generalize gd a=f at c b |-
 generalize bl f (5#64,0#64,0#64)=g at b |-
 by_cases h:0#64<g.2.2>>>2
 ·rw[if_pos h];refine aQ ac (fn:=f202) ac func202 rfl am (by simp[af,V.low]) (by simp[af,V.low]) (ak ?_);simp only[go_sem,seval,ntmps202];refine au (c) ?_;simp only[go_sem,seval];refine au (b) ?_;simp only[go_sem,seval,h]
 ·rw[if_neg h];refine aQ ac (fn:=f202) ac func202 rfl am (by simp[af,V.low]) (by simp[af,V.low]) (ak ?_);simp only[go_sem,seval,ntmps202];refine au (c) ?_;simp only[go_sem,seval];refine au (b) ?_;simp only[go_sem,seval,h]
def b8 (a:N3):Nat:=a.1.toNat+18446744073709551616*a.2.1.toNat+340282366920938463463374607431768211456*a.2.2.toNat
theorem sF (x y c:BitVec 64)(h:c.toNat<=1):(x+y+c).toNat+18446744073709551616*(bO x y c).toNat=x.toNat+y.toNat+c.toNat:=by
 have :=x.isLt;have :=y.isLt;unfold bO;rw[fk,fk,cx];omega
theorem oC (a b:N3)(h:a.2.2.toNat+b.2.2.toNat<18446744073709551615):b8 (bl a b)=b8 a+b8 b:=by
 have c0:=sF a.1 b.1 0#64 ah;have c:=kM a.1 b.1 0#64 ah;have d:=sF a.2.1 b.2.1 (bO a.1 b.1 0#64) c;have l1:=kM a.2.1 b.2.1 (bO a.1 b.1 0#64) c;have z:(0#64).toNat=0:=rfl;unfold b8 bl;simp only;generalize bO a.1 b.1 0#64=k0 at*;generalize bO a.2.1 b.2.1 k0=k1 at*;have e:(a.2.2+b.2.2+k1).toNat=a.2.2.toNat+b.2.2.toNat+k1.toNat:=by
  rw[fk,fk];omega
 omega
theorem A8 (w:BitVec 64):(w&&&3#64).toNat=w.toNat%4:=by
 rw[nM,show(3#64).toNat=2^2-1 from rfl,rb]
theorem JW (a:N3)(h:a.2.2.toNat<1152921504606846976):b8 (gd a)=b8 a%1361129467683753853853498429727072845824+5*(b8 a/1361129467683753853853498429727072845824):=by
 have h1:=a.1.isLt;have h2:=a.2.1.isLt;have b:=A8 a.2.2;have c:(5#64*(a.2.2>>>2)).toNat=5*(a.2.2.toNat/4):=by
  rw[nH,oq,nT,show(5#64).toNat=5 from rfl];omega
 have z:(0#64).toNat=0:=rfl;unfold gd;rw[oC _ _ (by show(a.2.2&&&3#64).toNat+(0#64).toNat<_;omega)];unfold b8;simp only;rw[b,c,z];omega
theorem lK (a:N3):a.2.2.toNat=b8 a/340282366920938463463374607431768211456:=by
 have h1:=a.1.isLt;have h2:=a.2.1.isLt;unfold b8;omega
theorem Yh (a:N3)(h:a.2.2.toNat<1152921504606846976):b8 (mB a)=b8 a%1361129467683753853853498429727072845819:=by
 have c:=JW a h;have m:=lK a;have n:=lK (gd a);have h1:=a.1.isLt;have h2:=a.2.1.isLt;have d:b8 a<340282366920938463463374607431768211456*1152921504606846976:=by unfold b8;omega
 have j:b8 a%1361129467683753853853498429727072845819=b8 (gd a)%1361129467683753853853498429727072845819:=by
  have e:b8 a=1361129467683753853853498429727072845819*(b8 a/1361129467683753853853498429727072845824)+b8 (gd a):=by rw[c];omega
  rw[e,Nat.mul_add_mod]
 have p:b8 (gd a)<1361129467683753853853498429727072845824+5*1152921504606846976:=by rw[c];omega
 rw[j];clear j c m d;have v5:b8 (5#64,0#64,0#64)=5:=ah;have k:=oC (gd a) (5#64,0#64,0#64) (by show(gd a).2.2.toNat+(0#64).toNat<_;have z:(0#64).toNat=0:=rfl;omega);rw[v5] at k;have f:=lK (bl (gd a) (5#64,0#64,0#64));unfold mB;generalize bl (gd a) (5#64,0#64,0#64)=g at k f |-
 have l:(g.2.2>>>2).toNat=g.2.2.toNat/4:=by rw[oq,nT]
 have o:=A8 g.2.2;by_cases b:0#64<g.2.2>>>2
 ·have i:0<g.2.2.toNat/4:=by rw[<-l];exact b
  rw[if_pos b];have e:b8 (g.1,g.2.1,g.2.2&&&3#64)=b8 g-340282366920938463463374607431768211456*(g.2.2.toNat-g.2.2.toNat%4):=by
   unfold b8;simp only;rw[o];omega
  rw[e];omega
 ·have i:¬ 0<g.2.2.toNat/4:=by rw[<-l];exact b
  rw[if_neg b];omega
end Go.Vm
end
section
namespace Go.Vm
open Go.Proofs
def o6 (w:List (BitVec 64))(j:Nat)(x y:BitVec 64):List (BitVec 64):=
 let b:=bO (w.getD j 0) (x*y) 0#64
 let w1:=w.set j (w.getD j 0+x*y+0#64)
 let d:=bO (w1.getD (j+1) 0) (cL x y) b
 let a:=w1.set (j+1) (w1.getD (j+1) 0+cL x y+b)
 if j+2<5 then a.set (j+2) (a.getD (j+2) 0+d) else a
theorem abt (w:List (BitVec 64))(j:Nat)(x y:BitVec 64):(o6 w j x y).length=w.length:=by
 unfold o6;simp only;split <;>simp
def W5 (a b c d e:BitVec 64):Nat:=a.toNat+18446744073709551616*b.toNat+340282366920938463463374607431768211456*c.toNat+6277101735386680763835789423207666416102355444464034512896*d.toNat+115792089237316195423570985008687907853269984665640564039457584007913129639936*e.toNat
theorem yj (x y:BitVec 64):(x*y).toNat+18446744073709551616*(cL x y).toNat=x.toNat*y.toNat:=by
 have b:=x.isLt;have c:=y.isLt;have a:x.toNat*y.toNat<18446744073709551616*18446744073709551616:=CG aa aa;have k1:(cL x y).toNat=x.toNat*y.toNat/18446744073709551616:=by
  unfold cL;rw[cx];exact gn (zW aa)
 rw[nH,k1];generalize x.toNat*y.toNat=p;omega
theorem y7 (x y:BitVec 64):(x+y+0#64).toNat+18446744073709551616*(bO x y 0#64).toNat=x.toNat+y.toNat:=sF x y 0#64 ah
theorem AZ (x c:BitVec 64)(h:x.toNat+c.toNat<18446744073709551616):(x+c).toNat=x.toNat+c.toNat:=by rw[fk];omega
theorem afJ (a b c d e x y:BitVec 64)(h:c.toNat<100):∃ a' g f:BitVec 64,o6 [a,b,c,d,e] 0 x y=[a',g,f,d,e]/\f.toNat<=c.toNat+1/\W5 a' g f d e=W5 a b c d e+x.toNat*y.toNat:=by
 have p:=yj x y;have i:=y7 a (x*y);have l1:=kM a (x*y) 0#64 ah;have j:=sF b (cL x y) _ l1;have l2:=kM b (cL x y) _ l1;have k:=AZ c (bO b (cL x y) (bO a (x*y) 0#64)) aa;refine⟨a+x*y+0#64,b+cL x y+bO a (x*y) 0#64,c+bO b (cL x y) (bO a (x*y) 0#64),rfl,aa,?_⟩;unfold W5;omega
theorem EF (a b c d e x y:BitVec 64)(h:d.toNat<100):∃ a' g f:BitVec 64,o6 [e,a,b,d,c] 1 x y=[e,a',g,f,c]/\f.toNat<=d.toNat+1/\W5 e a' g f c=W5 e a b d c+18446744073709551616*(x.toNat*y.toNat):=by
 have p:=yj x y;have i:=y7 a (x*y);have l1:=kM a (x*y) 0#64 ah;have j:=sF b (cL x y) _ l1;have l2:=kM b (cL x y) _ l1;have k:=AZ d (bO b (cL x y) (bO a (x*y) 0#64)) aa;refine⟨a+x*y+0#64,b+cL x y+bO a (x*y) 0#64,d+bO b (cL x y) (bO a (x*y) 0#64),rfl,aa,?_⟩;unfold W5;omega
theorem EQ (a b c d e x y:BitVec 64)(h:e.toNat<100):∃ a' g f:BitVec 64,o6 [a,b,c,d,e] 2 x y=[a,b,a',g,f]/\f.toNat<=e.toNat+1/\W5 a b a' g f=W5 a b c d e+340282366920938463463374607431768211456*(x.toNat*y.toNat):=by
 have p:=yj x y;have i:=y7 c (x*y);have l1:=kM c (x*y) 0#64 ah;have j:=sF d (cL x y) _ l1;have l2:=kM d (cL x y) _ l1;have k:=AZ e (bO d (cL x y) (bO c (x*y) 0#64)) aa;refine⟨c+x*y+0#64,d+cL x y+bO c (x*y) 0#64,e+bO d (cL x y) (bO c (x*y) 0#64),rfl,aa,?_⟩;unfold W5;omega
theorem Ws (a b c d e x y:BitVec 64)(h:W5 a b c d e+6277101735386680763835789423207666416102355444464034512896*(x.toNat*y.toNat)<2135987035920910082395021706169552114602704522356652769947041607822219725780640550022962086936576):∃ a' f:BitVec 64,o6 [a,b,c,d,e] 3 x y=[a,b,c,a',f]/\W5 a b c a' f=W5 a b c d e+6277101735386680763835789423207666416102355444464034512896*(x.toNat*y.toNat):=by
 have p:=yj x y;have g:=y7 d (x*y);have l1:=kM d (x*y) 0#64 ah;have i:=sF e (cL x y) _ l1;refine⟨d+x*y+0#64,e+cL x y+bO d (x*y) 0#64,rfl,?_⟩;unfold W5 at*;omega
def j9 (n:N3)(r:BitVec 64×BitVec 64)(w:List (BitVec 64))(i:Nat):Nat->List (BitVec 64)
 |0=>w
 |k+1=>o6 (j9 n r w i k) (i+k) ([n.1,n.2.1,n.2.2].getD i 0) ([r.1,r.2].getD k 0)
def jQ (n:N3)(r:BitVec 64×BitVec 64):Nat->List (BitVec 64)
 |0=>[0#64,0#64,0#64,0#64,0#64]
 |i+1=>j9 n r (jQ n r i) i 2
theorem Gs (n:N3)(r:BitVec 64×BitVec 64)(w:List (BitVec 64))(i k:Nat):(j9 n r w i k).length=w.length:=by
 induction k with
 |zero=>rfl
 |succ k ih=>rw[j9,abt,ih]
theorem HY (n:N3)(r:BitVec 64×BitVec 64)(i:Nat):(jQ n r i).length=5:=by
 induction i with
 |zero=>rfl
 |succ i ih=>rw[jQ,Gs,ih]
def th (r:BitVec 64×BitVec 64):Nat:=r.1.toNat+18446744073709551616*r.2.toNat
theorem six (n0 b n2 a r1:Nat):n0*a+18446744073709551616*(n0*r1)+18446744073709551616*(b*a)+340282366920938463463374607431768211456*(b*r1)+340282366920938463463374607431768211456*(n2*a)+6277101735386680763835789423207666416102355444464034512896*(n2*r1)=(n0+18446744073709551616*b+340282366920938463463374607431768211456*n2)*(a+18446744073709551616*r1):=by
 grind
theorem Zy (n:N3)(r:BitVec 64×BitVec 64)(h0:r.1.toNat<1152921504606846976)(h1:r.2.toNat<1152921504606846976)(h2:n.2.2.toNat<1125899906842624):
  ∃ a b c d e:BitVec 64,jQ n r 3=[a,b,c,d,e]/\W5 a b c d e=b8 n*th r:=by
 obtain⟨n0,g,n2⟩:=n;obtain⟨f,r1⟩:=r;have i:=n0.isLt;have j:=g.isLt;simp only at h0 h1 h2;have k:n0.toNat*f.toNat<=18446744073709551616*1152921504606846976:=nJ aa aa;have l:n0.toNat*r1.toNat<=18446744073709551616*1152921504606846976:=nJ aa aa;have m:g.toNat*f.toNat<=18446744073709551616*1152921504606846976:=nJ aa aa;have p11:g.toNat*r1.toNat<=18446744073709551616*1152921504606846976:=nJ aa aa;have o:n2.toNat*f.toNat<=1125899906842624*1152921504606846976:=nJ aa aa;have p:n2.toNat*r1.toNat<=1125899906842624*1152921504606846976:=nJ aa aa;have z:(0#64).toNat=0:=rfl;obtain⟨h,q,s,t,l1,K⟩:=afJ 0#64 0#64 0#64 0#64 0#64 n0 f ah;obtain⟨a2,u,v,w,l2,v2⟩:=EF q s 0#64 0#64 h n0 r1 ah;obtain⟨a3,x,y,A,l3,v3⟩:=EF a2 u 0#64 v h g f aa;obtain⟨a4,B,C,D,L,v4⟩:=EQ h a3 x y 0#64 g r1 ah;obtain⟨a5,E,F,G,M,v5⟩:=EQ h a3 a4 B C n2 f aa;have N:W5 0#64 0#64 0#64 0#64 0#64=0:=ah;have O:=six n0.toNat g.toNat n2.toNat f.toNat r1.toNat;obtain⟨H,I,J,P⟩:=Ws h a3 a5 E F n2 r1 aa;refine⟨h,a3,a5,H,I,?_,?_⟩
 ·simp only[jQ,j9,seval,ov,o8,t,w,A,D,G,J]
 ·show _=(n0.toNat+18446744073709551616*g.toNat+340282366920938463463374607431768211456*n2.toNat)*(f.toNat+18446744073709551616*r1.toNat);omega
def nN (a b:BitVec 64):BitVec 64:=a>>>2|||b<<<62
theorem Le (a b:BitVec 64):(nN a b).toNat=a.toNat/4+4611686018427387904*(b.toNat%4):=by
 have c:=a.isLt;have d:=b.isLt;unfold nN;rw[ye,oq,wY,nT,uo,Nat.or_comm,
  show b.toNat*2^62%2^64=2^62*(b.toNat%4) by omega,<-BJ aa]
 omega
def oN (w:List (BitVec 64)):N3:=(w.getD 0 0,w.getD 1 0,w.getD 2 0&&&3#64)
def dO (w:List (BitVec 64)):N3:=(nN (w.getD 2 0) (w.getD 3 0),nN (w.getD 3 0) (w.getD 4 0),w.getD 4 0>>>2)
def xV (h:N3):N3:=bl (bl (bl (bl h h) h) h) h
def og (n:N3)(r:BitVec 64×BitVec 64):N3:=gd (bl (oN (jQ n r 3)) (xV (dO (jQ n r 3))))
theorem agX (n:N3)(r:BitVec 64×BitVec 64)(h0:r.1.toNat<1152921504606846976)(h1:r.2.toNat<1152921504606846976)(h2:n.2.2.toNat<1125899906842624):
  (∃ q,b8 n*th r=b8 (og n r)+1361129467683753853853498429727072845819*q)/\(og n r).2.2.toNat<8:=by
 obtain⟨a,b,c,d,e,hw,h⟩:=Zy n r h0 h1 h2;have i:b8 n<=340282366920938463463374607431768211456*1125899906842624:=by
  have :=n.1.isLt;have :=n.2.1.isLt;unfold b8;omega
 have j:th r<=18446744073709551616*1152921504606846976:=by unfold th;omega
 have f:=nJ i j;rw[<-h] at f |-
 unfold og;rw[hw];have k:oN [a,b,c,d,e]=(a,b,c&&&3#64):=rfl;have l:dO [a,b,c,d,e]=(nN c d,nN d e,e>>>2):=rfl;rw[k,l];have m:=a.isLt;have o:=b.isLt;have p:=c.isLt;have s:=d.isLt;have t:=e.isLt;have u:b8 (a,b,c&&&3#64)=W5 a b c d e%1361129467683753853853498429727072845824:=by
  have :=A8 c;unfold b8 W5;simp only;omega
 have v:b8 (nN c d,nN d e,e>>>2)=W5 a b c d e/1361129467683753853853498429727072845824:=by
  have t1:=Le c d;have t2:=Le d e;have t3:(e>>>2).toNat=e.toNat/4:=by rw[oq,nT]
  unfold b8 W5;simp only;omega
 generalize W5 a b c d e=X at*;generalize (a,b,c&&&3#64)=L at*;generalize (nN c d,nN d e,e>>>2)=H at*;have w:=lK H;have tL:=lK L;unfold xV;have s1:=oC H H aa;have t1:=lK (bl H H);have s2:=oC (bl H H) H aa;have t2:=lK (bl (bl H H) H);have x:=oC (bl (bl H H) H) H aa;have t3:=lK (bl (bl (bl H H) H) H);have y:=oC (bl (bl (bl H H) H) H) H aa;have t4:=lK (bl (bl (bl (bl H H) H) H) H);have z:=oC L (bl (bl (bl (bl H H) H) H) H) aa;have t5:=lK (bl L (bl (bl (bl (bl H H) H) H) H));have g:=JW (bl L (bl (bl (bl (bl H H) H) H) H)) aa;have t6:=lK (gd (bl L (bl (bl (bl (bl H H) H) H) H)));refine⟨⟨X/1361129467683753853853498429727072845824+b8 (bl L (bl (bl (bl (bl H H) H) H) H))/1361129467683753853853498429727072845824,?_⟩,?_⟩
 ·rw[g];omega
 ·rw[t6,g];omega
def small (l:List (BitVec 64)):Prop:=l.length=10/\∀ x∈l,x.toNat<8192
theorem Ea:∀ s t:List (BitVec 8),s.length=t.length->le (List.zipWith (· &&&·) s t)=le s&&&le t
 |[],[],_=>by simp[le]
 |[],y::t,h=>by simp at h
 |x::s,[],h=>by simp at h
 |x::s,y::t,h=>by
  have ih:=Ea s t (by simpa using h);have a:=x.isLt;have b:=y.isLt;have c:((x.toNat+256*le s)&&&(y.toNat+256*le t))%2^8=x.toNat&&&y.toNat:=by
   rw[Nat.and_mod_two_pow,show(x.toNat+256*le s)%2^8=x.toNat by omega,show(y.toNat+256*le t)%2^8=y.toNat by omega]
  have d:((x.toNat+256*le s)&&&(y.toNat+256*le t))/2^8=le s&&&le t:=by
   rw[Nat.and_div_two_pow,show(x.toNat+256*le s)/2^8=le s by omega,show(y.toNat+256*le t)/2^8=le t by omega]
  rw[List.zipWith_cons_cons,le,ih,nM,le,le];omega
def mask16:List (BitVec 8):=[255#8,255#8,255#8,15#8,252#8,255#8,255#8,15#8,252#8,255#8,255#8,15#8,252#8,255#8,255#8,15#8]
def E4 (key:List (BitVec 8)):List (BitVec 8):=List.zipWith (· &&&·) (key.take 16) mask16
theorem I6 (s t:List (BitVec 8)):le (s++t)=le s+256^s.length*le t:=by
 induction s with
 |nil=>simp[le]
 |cons a s ih=>rw[fO,le,ih,le,ce,oU,km,oM];omega
def rC (key:List (BitVec 8)):BitVec 64×BitVec 64:=(BitVec.ofNat 64 (le (key.take 8))&&&1152921487695413247#64,BitVec.ofNat 64 (le ((key.drop 8).take 8))&&&1152921487695413244#64)
theorem NB (key:List (BitVec 8))(h:key.length=32):th (rC key)=le (E4 key)/\(rC key).1.toNat<1152921504606846976/\(rC key).2.toNat<1152921504606846976:=by
 have t1:(key.take 8).length=8:=by rw[br];omega
 have t2:((key.drop 8).take 8).length=8:=by rw[br,bU];omega
 have l1:=xK (key.take 8);have l2:=xK ((key.drop 8).take 8);rw[t1] at l1;rw[t2] at l2;have d:key.take 16=key.take 8++(key.drop 8).take 8:=by rw[<-List.take_add]
 have e:mask16=mask16.take 8++mask16.drop 8:=rfl;have a:=Ea (key.take 8) (mask16.take 8) (by rw[t1];rfl);have a2:=Ea ((key.drop 8).take 8) (mask16.drop 8) (by rw[t2];rfl);have k1:le (mask16.take 8)=1152921487695413247:=ah;have k2:le (mask16.drop 8)=1152921487695413244:=ah;have b:(rC key).1.toNat=le (key.take 8)&&&1152921487695413247:=by
  unfold rC;rw[nM,cx,gn (by omega :le (key.take 8)<2^64)];rfl
 have c:(rC key).2.toNat=le ((key.drop 8).take 8)&&&1152921487695413244:=by
  unfold rC;rw[nM,cx,gn (by omega :le ((key.drop 8).take 8)<2^64)];rfl
 rw[k1] at a;rw[k2] at a2;refine⟨?_,?_,?_⟩
 ·unfold th E4;rw[d,e,List.zipWith_append (by rw[t1];rfl),I6,b,c,<-a,<-a2,CZ,t1];rfl
 ·rw[b];exact sK Nat.and_le_right ah
 ·rw[c];exact sK Nat.and_le_right ah
abbrev Pp:Nat:=1361129467683753853853498429727072845819
def fy (t:List (BitVec 8))(i:Nat):List (BitVec 8):=(t.drop (16*i)).take 16++[1#8]
theorem QR (t:List (BitVec 8))(i:Nat):(fy t i).length<=17:=by unfold fy;rw[aE,br];show _+1<=17;omega
def ml (p:List (BitVec 8)):N3:=(BitVec.ofNat 64 (le (p.take 8)),BitVec.ofNat 64 (le ((p.drop 8).take 8)),BitVec.ofNat 64 (le (p.drop 16)))
theorem wr (p:List (BitVec 8))(k:Nat)(h:p.length<=k):le p<256^k:=mw (xK p) (xB aa h)
theorem W0 (p:List (BitVec 8))(k:Nat)(h:k<=p.length):le p=le (p.take k)+256^k*le (p.drop k):=by
 calc le p=le (p.take k++p.drop k):=by rw[wC]
  _=_:=by rw[I6,br,iM h]
theorem Dg (p:List (BitVec 8))(k:Nat):le p=le (p.take k)+256^k*le (p.drop k):=by
 by_cases h:k<=p.length
 ·exact W0 p k h
 ·rw[ar aa,gP aa];simp[le]
theorem abo (p:List (BitVec 8))(h:p.length<=17):b8 (ml p)=le p/\(ml p).2.2.toNat<256:=by
 have h1:=wr (p.take 8) 8 (by rw[br];omega);have h2:=wr ((p.drop 8).take 8) 8 (by rw[br];omega);have a:=wr (p.drop 16) 1 (by rw[bU];omega);have s1:=Dg p 8;have s2:=Dg (p.drop 8) 8;rw[hO,show 8+8=16 from rfl] at s2;have b:(256:Nat)^8=18446744073709551616:=ah;rw[b] at h1 h2 s1 s2;rw[show(256:Nat)^1=256 from rfl] at a;unfold b8 ml;simp only[cx];omega
def aN (r:BitVec 64×BitVec 64)(t:List (BitVec 8)):Nat->N3
 |0=>(0#64,0#64,0#64)
 |i+1=>og (bl (aN r t i) (ml (fy t i))) r
theorem YN (r:BitVec 64×BitVec 64)(t:List (BitVec 8))(h0:r.1.toNat<1152921504606846976)(h1:r.2.toNat<1152921504606846976)(i:Nat):(aN r t i).2.2.toNat<8:=by
 induction i with
 |zero=>exact(by decide:(0#64).toNat<8)
 |succ i ih=>
  have c:=abo (fy t i) (QR t i);have a:=oC (aN r t i) (ml (fy t i)) aa;have b:=lK (bl (aN r t i) (ml (fy t i)));have d:=(aN r t i).1.isLt;have e:=(aN r t i).2.1.isLt;have f:=(ml (fy t i)).1.isLt;have g:=(ml (fy t i)).2.1.isLt;refine(agX (bl (aN r t i) (ml (fy t i))) r h0 h1 ?_).2;rw[b,a];unfold b8;omega
theorem ac4 (n:Nat)(j:Nat):∀ k,aV n (k+j)=aV n k++aV (n/256^k) j:=by
 intro k;induction k generalizing n with
 |zero=>simp[aV]
 |succ k ih=>rw[show k+1+j=(k+j)+1 by omega,aV,ih,aV,fO,mi,<-oU]
theorem afu (a:N3):aV a.1.toNat 8++aV a.2.1.toNat 8=aV (b8 a) 16:=by
 have h1:=a.1.isLt;have h2:=a.2.1.isLt;have b:(256:Nat)^8=18446744073709551616:=ah;rw[show(16:Nat)=8+8 from rfl,ac4,<-uz (b8 a) 8,<-uz (b8 a/256^8) 8,b];have k1:b8 a%18446744073709551616=a.1.toNat:=by unfold b8;omega
 have k2:b8 a/18446744073709551616%18446744073709551616=a.2.1.toNat:=by unfold b8;omega
 rw[k1,k2]
def qG (key:List (BitVec 8)):N3:=(BitVec.ofNat 64 (le ((key.drop 16).take 8)),BitVec.ofNat 64 (le ((key.drop 24).take 8)),0#64)
theorem NC (key:List (BitVec 8))(h:key.length=32):b8 (qG key)=le (key.drop 16):=by
 have h1:=wr ((key.drop 16).take 8) 8 (by rw[br];omega);have h2:=wr ((key.drop 24).take 8) 8 (by rw[br];omega);have s1:=Dg (key.drop 16) 8;rw[hO,show 16+8=24 from rfl] at s1;have b:(256:Nat)^8=18446744073709551616:=ah;have a:(key.drop 24).take 8=key.drop 24:=ar (by rw[bU];omega);rw[b] at h1 h2 s1;rw[a] at h2;unfold b8 qG;simp only[cx];rw[a];rw[show 0%2^64=0 from rfl];omega
def uu (key t:List (BitVec 8)):List (BitVec 8):=aV (b8 (aN (rC key) t ((t.length+15)/16))%Pp+le (key.drop 16)) 16
theorem vJ (key t:List (BitVec 8)):(uu key t).length=16:=by unfold uu;rw[bT]
theorem Zj (key t:List (BitVec 8))(h:key.length=32):aV (bl (mB (aN (rC key) t ((t.length+15)/16))) (qG key)).1.toNat 8++aV (bl (mB (aN (rC key) t ((t.length+15)/16))) (qG key)).2.1.toNat 8=uu key t:=by
 obtain⟨_,h0,h1⟩:=NB key h;have e:=YN (rC key) t h0 h1 ((t.length+15)/16);have a:=Yh _ (show(aN (rC key) t ((t.length+15)/16)).2.2.toNat<1152921504606846976 by omega);have b:=lK (mB (aN (rC key) t ((t.length+15)/16)));have c:(qG key).2.2.toNat=0:=rfl;have d:=oC (mB (aN (rC key) t ((t.length+15)/16))) (qG key) (by
  rw[c,b,a];have :=vr (b8 (aN (rC key) t ((t.length+15)/16))) (show 0<Pp by decide);omega)
 rw[afu,d,a,NC key h];rfl
end Go.Vm
end
section
namespace Go.Vm
open Go.Proofs Go.Proofs.Tryz
theorem afL (n:N3)(i:Nat)(h:i<3):[V.u64 n.1,V.u64 n.2.1,V.u64 n.2.2].getD i .junk= .u64 ([n.1,n.2.1,n.2.2].getD i 0):=by
 match i,h with
 |0,_=>rfl
 |1,_=>rfl
 |2,_=>rfl
theorem abM (r:BitVec 64×BitVec 64)(i:Nat)(h:i<2):[V.u64 r.1,V.u64 r.2].getD i .junk= .u64 ([r.1,r.2].getD i 0):=by
 match i,h with
 |0,_=>rfl
 |1,_=>rfl
theorem YX (n:N3)(r:BitVec 64×BitVec 64):aG prog 201 [.agg [.u64 n.1,.u64 n.2.1,.u64 n.2.2],.agg [.u64 r.1,.u64 r.2]] (.agg [.u64 (og n r).1,.u64 (og n r).2.1,.u64 (og n r).2.2]):=by
 have j:=HY n r 3;have T:=oN (jQ n r 3);unfold og;refine aQ ac (fn:=f201) ac func201 rfl am (by simp[af,V.low]) (by simp[af,V.low]) (ak ?_);simp only[go_sem,↓reduceIte,Nat.reduceEqDiff,Nat.reduceLT,Nat.reduceAdd,ntmps201];refine bq (fun z st=>∃ i:Nat,i+z=3/\st=⟨[(2,.ptr 0 0),(3,.ptr 1 0),(4,.ptr 2 0),(5,.ptr 3 0),(16,.agg [.u64 n.1,.u64 n.2.1,.u64 n.2.2]),(17,.i64 i)],[bK [.u64 n.1,.u64 n.2.1,.u64 n.2.2],bK [.u64 r.1,.u64 r.2],bK [.u64 0#64,.u64 0#64,.u64 0#64],bK ((jQ n r i).map .u64)]⟩) ?_ ?_
 ·exact bJ (3) ⟨[(2,.ptr 0 0),(3,.ptr 1 0),(4,.ptr 2 0),(5,.ptr 3 0),(16,.agg [.u64 n.1,.u64 n.2.1,.u64 n.2.2]),(17,.i64 (0:Nat))],[bK [.u64 n.1,.u64 n.2.1,.u64 n.2.2],bK [.u64 r.1,.u64 r.2],bK [.u64 0#64,.u64 0#64,.u64 0#64],bK ((jQ n r (0:Nat)).map .u64)]⟩ (by simp[St.get,aj,-List.map_set,-List.map_map]) rfl (fun _ _ h=>h) ⟨0,aa,rfl⟩
 rintro z st ⟨i,U,rfl⟩ _;simp only[go_sem,↓reduceIte,Nat.reduceEqDiff,Nat.reduceLT,Nat.reduceAdd,Int.reduceLE,Int.reduceLT,Int.reduceToNat,BitVec.reduceOfInt,reduceCtorEq];by_cases h0:i<3
 ·have l:(i:Int)<3:=aa;have m:=HY n r i;have o:j9 n r (jQ n r i) i 2=jQ n r (i+1):=rfl;simp only[go_sem,↓reduceIte,l,h0,afL n i h0];generalize jQ n r i=w at m o |-
  refine⟨aa,?_⟩;refine bq (fun t st=>∃ k:Nat,k+t=2/\st=⟨[(2,.ptr 0 0),(3,.ptr 1 0),(4,.ptr 2 0),(5,.ptr 3 0),(6,.i64 i),(7,.u64 ([n.1,n.2.1,n.2.2].getD i 0)),(16,.agg [.u64 n.1,.u64 n.2.1,.u64 n.2.2]),(17,.i64 i),(21,.agg [.u64 r.1,.u64 r.2]),(22,.i64 k)],[bK [.u64 n.1,.u64 n.2.1,.u64 n.2.2],bK [.u64 r.1,.u64 r.2],bK [.u64 0#64,.u64 0#64,.u64 0#64],bK ((j9 n r w i k).map .u64)]⟩) ?_ ?_
  ·exact bJ (2) ⟨[(2,.ptr 0 0),(3,.ptr 1 0),(4,.ptr 2 0),(5,.ptr 3 0),(6,.i64 i),(7,.u64 ([n.1,n.2.1,n.2.2].getD i 0)),(16,.agg [.u64 n.1,.u64 n.2.1,.u64 n.2.2]),(17,.i64 i),(21,.agg [.u64 r.1,.u64 r.2]),(22,.i64 (0:Nat))],[bK [.u64 n.1,.u64 n.2.1,.u64 n.2.2],bK [.u64 r.1,.u64 r.2],bK [.u64 0#64,.u64 0#64,.u64 0#64],bK ((j9 n r w i (0:Nat)).map .u64)]⟩ (by simp[St.get,aj,-List.map_set,-List.map_map]) rfl (fun _ _ h=>h) ⟨0,aa,rfl⟩
  rintro t st ⟨k,W,rfl⟩ _;simp only[go_sem,↓reduceIte,Nat.reduceEqDiff,Nat.reduceLT,Nat.reduceAdd];have b:=Gs n r w i k;rw[m] at b;by_cases p:k<2
  ·have d:(k:Int)<2:=aa;generalize M:[n.1,n.2.1,n.2.2].getD i 0=x;generalize J:[r.1,r.2].getD k 0=y;have a:o6 (j9 n r w i k) (i+k) x y=j9 n r w i (k+1):=by rw[j9,M,J]
   generalize j9 n r w i k=u at b a |-
   have A:ao ((i:Int)+(k:Int))=((i+k:Nat):Int):=by rw[az aa aa];omega
   have N:ao (((i+k:Nat):Int)+1)=((i+k+1:Nat):Int):=by rw[az aa aa];omega
   have O:ao (((i+k:Nat):Int)+2)=((i+k+2:Nat):Int):=by rw[az aa aa];omega
   have g1:((i+k:Nat):Int)<5:=aa;have g2:i+k<5:=aa;have g3:((i+k+1:Nat):Int)<5:=aa;have g4:i+k+1<5:=aa;have g5:i+k<u.length:=aa;simp only[go_sem,↓reduceIte,d,p,abM r k p,J];refine⟨aa,?_⟩;refine au (E7 x y) ?_;simp only[go_sem,↓reduceIte,Nat.reduceEqDiff,Nat.reduceLT,Int.reduceLT,BitVec.reduceOfInt,A,g1,g2,b,gu g5];refine⟨aa,?_⟩;have q:=kM (u.getD (i+k) 0) (x*y) 0#64 ah;refine vU (wo (u.getD (i+k) 0) (x*y) 0#64 ah) ?_;simp only[go_sem,↓reduceIte,Nat.reduceEqDiff,Nat.reduceLT,Nat.reduceLeDiff,A,N,g1,g3,g4,b];refine⟨aa,aa,aa,?_⟩;unfold o6 at a;simp only at a;have e:(u.set (i+k) (u.getD (i+k) 0+x*y+0#64)).length=5:=by rw[aY];exact b
   generalize u.set (i+k) (u.getD (i+k) 0+x*y+0#64)=f at e a |-
   generalize bO (u.getD (i+k) 0) (x*y) 0#64=v at q a |-
   have g6:i+k+1<f.length:=aa;simp only[go_sem,gu g6];refine vU (wo (f.getD (i+k+1) 0) (cL x y) v q) ?_;simp only[go_sem,↓reduceIte,Nat.reduceEqDiff,Nat.reduceLT,Nat.reduceLeDiff,reduceCtorEq,A,O,g3,e];refine⟨aa,aa,?_⟩;have s:(f.set (i+k+1) (f.getD (i+k+1) 0+cL x y+v)).length=5:=by rw[aY];exact e
   generalize f.set (i+k+1) (f.getD (i+k+1) 0+cL x y+v)=P at s a |-
   generalize bO (f.getD (i+k+1) 0) (cL x y) v=X at a |-
   by_cases g7:i+k+2<5
   ·have g:((i+k+2:Nat):Int)<5:=aa;have g8:i+k+2<P.length:=aa;rw[if_pos g7] at a;simp only[go_sem,↓reduceIte,Nat.reduceEqDiff,Nat.reduceLT,Nat.reduceLeDiff,g,g7,s,gu g8,a];refine⟨aa,aa,aa,?_⟩;refine bx (t-1) ⟨[(2,.ptr 0 0),(3,.ptr 1 0),(4,.ptr 2 0),(5,.ptr 3 0),(6,.i64 i),(7,.u64 x),(16,.agg [.u64 n.1,.u64 n.2.1,.u64 n.2.2]),(17,.i64 i),(21,.agg [.u64 r.1,.u64 r.2]),(22,.i64 (k+1:Nat))],[bK [.u64 n.1,.u64 n.2.1,.u64 n.2.2],bK [.u64 r.1,.u64 r.2],bK [.u64 0#64,.u64 0#64,.u64 0#64],bK ((j9 n r w i (k+1:Nat)).map .u64)]⟩ aa ?_ rfl (fun _ _ h=>h) ⟨k+1,aa,rfl⟩;have c:ao ((k:Int)+1)=((k+1:Nat):Int):=by rw[az aa aa];omega
    simp[St.get,aj,c,-List.map_set,-List.map_map]
   ·have g:¬ ((i+k+2:Nat):Int)<5:=aa;rw[if_neg g7] at a;simp only[go_sem,↓reduceIte,g,a];refine bx (t-1) ⟨[(2,.ptr 0 0),(3,.ptr 1 0),(4,.ptr 2 0),(5,.ptr 3 0),(6,.i64 i),(7,.u64 x),(16,.agg [.u64 n.1,.u64 n.2.1,.u64 n.2.2]),(17,.i64 i),(21,.agg [.u64 r.1,.u64 r.2]),(22,.i64 (k+1:Nat))],[bK [.u64 n.1,.u64 n.2.1,.u64 n.2.2],bK [.u64 r.1,.u64 r.2],bK [.u64 0#64,.u64 0#64,.u64 0#64],bK ((j9 n r w i (k+1:Nat)).map .u64)]⟩ aa ?_ rfl (fun _ _ h=>h) ⟨k+1,aa,rfl⟩;have c:ao ((k:Int)+1)=((k+1:Nat):Int):=by rw[az aa aa];omega
    simp[St.get,aj,c,-List.map_set,-List.map_map]
  ·obtain rfl:k=2:=aa;have d:¬ ((2:Nat):Int)<2:=aa;simp only[go_sem,↓reduceIte,Int.reduceLT,o];refine bx (z-1) ⟨[(2,.ptr 0 0),(3,.ptr 1 0),(4,.ptr 2 0),(5,.ptr 3 0),(16,.agg [.u64 n.1,.u64 n.2.1,.u64 n.2.2]),(17,.i64 (i+1:Nat))],[bK [.u64 n.1,.u64 n.2.1,.u64 n.2.2],bK [.u64 r.1,.u64 r.2],bK [.u64 0#64,.u64 0#64,.u64 0#64],bK ((jQ n r (i+1:Nat)).map .u64)]⟩ aa ?_ rfl (fun _ _ h=>h) ⟨i+1,aa,rfl⟩;have c:ao ((i:Int)+1)=((i+1:Nat):Int):=by rw[az aa aa];omega
   simp[St.get,aj,c,-List.map_set,-List.map_map]
 ·obtain rfl:i=3:=aa;have l:¬ ((3:Nat):Int)<3:=aa;generalize jQ n r 3=w at j |-
  have a0:0<w.length:=aa;have Q:1<w.length:=aa;have a2:2<w.length:=aa;have a3:3<w.length:=aa;have a4:4<w.length:=aa;have R:=qq (dO w) (dO w);have p2:=qq (bl (dO w) (dO w)) (dO w);have p3:=qq (bl (bl (dO w) (dO w)) (dO w)) (dO w);have K:=qq (bl (bl (bl (dO w) (dO w)) (dO w)) (dO w)) (dO w);have p5:=qq (oN w) (xV (dO w));have S:=Gz (bl (oN w) (xV (dO w)));have B:bl (bl (bl (bl (dO w) (dO w)) (dO w)) (dO w)) (dO w)=xV (dO w):=rfl;have C:w.getD 2 0>>>2|||w.getD 3 0<<<62=(dO w).1:=rfl
  have D:w.getD 3 0>>>2|||w.getD 4 0<<<62=(dO w).2.1:=rfl
  have E:w.getD 4 0>>>2=(dO w).2.2:=rfl;have F:w.getD 0 0=(oN w).1:=rfl;have G:w.getD 1 0=(oN w).2.1:=rfl;have I:w.getD 2 0&&&3#64=(oN w).2.2:=rfl;simp only[go_sem,↓reduceIte,Nat.reduceEqDiff,Nat.reduceLT,Nat.reduceLeDiff,Nat.reduceAdd,Int.reduceLE,Int.reduceLT,Int.reduceToNat,BitVec.reduceOfInt,BitVec.reduceToNat,j,gu a0,gu Q,gu a2,gu a3,gu a4,C,D];simp only[E,F,G,I];rw[B] at K;generalize dO w=H at*;generalize oN w=L at*;refine aX (R) ?_;simp only[go_sem,↓reduceIte,Nat.reduceEqDiff,Nat.reduceLT,Nat.reduceAdd];refine aX (p2) ?_;simp only[go_sem,↓reduceIte,Nat.reduceEqDiff,Nat.reduceLT,Nat.reduceAdd];refine aX (p3) ?_;simp only[go_sem,↓reduceIte,Nat.reduceEqDiff,Nat.reduceLT,Nat.reduceAdd];refine aX (K) ?_;simp only[go_sem,↓reduceIte,Nat.reduceEqDiff,Nat.reduceLT,Nat.reduceAdd];refine⟨ac,?_⟩;refine au (p5) ?_;simp only[go_sem,↓reduceIte,Nat.reduceLT];refine au (S) ?_;simp only[go_sem,↓reduceIte,Nat.reduceEqDiff,Nat.reduceAdd]
theorem TQ (p:List (BitVec 8)):(p.take (min p.length 8)).take 8=p.take 8:=by
 by_cases h:8<=p.length
 ·rw[nY h,sN];rfl
 ·rw[iM aa,o0]
theorem ZG (p:List (BitVec 8)):((p.take (min p.length 16)).drop 8).take 8=(p.drop 8).take 8:=by
 by_cases h:16<=p.length
 ·rw[nY h,uB,sN];rfl
 ·rw[iM aa,o0]
theorem Tl (key t:List (BitVec 8))(h:key.length=32)(S:t.length<=140737488351232):aG prog 192 [.str key,.str t] (.tup [.str (uu key t),.i64 0]):=by
 have h':(key.length:Int)=32:=aa;have k1:=iJ (key.take 8) (by rw[br];omega);have k2:=iJ ((key.drop 8).take 8) (by rw[br];omega);rw[sN,show min 8 8=8 from rfl] at k1 k2;have m:(key.take 16).drop 8=(key.drop 8).take 8:=by rw[uB]
 have r1:BitVec.ofNat 64 (le (key.take 8))&&&1152921487695413247#64=(rC key).1:=rfl;have r2:BitVec.ofNat 64 (le ((key.drop 8).take 8))&&&1152921487695413244#64=(rC key).2:=rfl;refine aQ ac (fn:=f192) ac func192 rfl am (by simp[af,V.low]) (by simp[af,V.low]) (ak ?_);simp only[go_sem,seval,ntmps192,h'];refine aX (k1) ?_;simp only[go_sem,seval,h',m];refine aX (k2) ?_;simp only[go_sem,seval,r1,r2];refine⟨ac,?_⟩;refine bq (fun n st=>∃ i:Nat,i+n=(t.length+15)/16/\st=⟨[(0,.str key),(1,.str (t.drop (16*i))),(6,.ptr 0 0),(7,.ptr 1 0)],[bK [.u64 (rC key).1,.u64 (rC key).2],bK [.u64 (aN (rC key) t i).1,.u64 (aN (rC key) t i).2.1,.u64 (aN (rC key) t i).2.2]]⟩) ?_ ?_
 ·exact bJ ((t.length+15)/16) ⟨[(0,.str key),(1,.str (t.drop (16*(0:Nat)))),(6,.ptr 0 0),(7,.ptr 1 0)],[bK [.u64 (rC key).1,.u64 (rC key).2],bK [.u64 (aN (rC key) t (0:Nat)).1,.u64 (aN (rC key) t (0:Nat)).2.1,.u64 (aN (rC key) t (0:Nat)).2.2]]⟩ (by simp[St.get,aj,-List.map_set,-List.map_map]) rfl (fun _ _ h=>h) ⟨0,aa,rfl⟩
 rintro n st ⟨i,T,rfl⟩ _;simp only[go_sem,seval];have g:(t.drop (16*i)).length=t.length-16*i:=bU;by_cases h0:16*i<t.length
 ·have w:¬ t.drop (16*i)=[]:=fun e=>by rw[e] at g;simp at g;omega
  have d:(if((t.length-16*i:Nat):Int)<16 then((t.length-16*i:Nat):Int) else 16)=((min (t.length-16*i) 16:Nat):Int):=by split <;>omega
  have x:(fy t i).length=min (t.length-16*i) 16+1:=by unfold fy;rw[aE,br,g,Nat.min_comm];rfl
  have o:(t.drop (16*i)).take (min (t.length-16*i) 16)++[1#8]=fy t i:=by
   unfold fy;by_cases hc:16<=t.length-16*i
   ·rw[nY hc]
   ·rw[iM aa,ar aa,ar aa]
  have y:bytesOf ⟨#[1]⟩=[1#8]:=rfl;have f:og (bl (aN (rC key) t i) (ml (fy t i))) (rC key)=aN (rC key) t (i+1):=rfl;have a:ml (fy t i)=(BitVec.ofNat 64 (le ((fy t i).take 8)),BitVec.ofNat 64 (le (((fy t i).drop 8).take 8)),BitVec.ofNat 64 (le ((fy t i).drop 16))):=rfl;have c:16<(fy t i).length->(fy t i).drop 16=[1#8]:=fun I=>by
   unfold fy;rw[List.drop_append,gP (by rw[br];omega),br,g,iM aa];rfl
  have j:(t.drop (16*i)).drop (min (t.length-16*i) 16)=t.drop (16*(i+1)):=by
   rw[hO];by_cases I:16<=t.length-16*i
   ·rw[nY I,km]
   ·rw[iM aa,gP aa,gP aa]
  have k:(t.drop (16*i)).take (t.length-16*i)=t.drop (16*i):=ar aa;generalize v:(fy t i).length=L at x c;generalize K:ml (fy t i)=z at f a;have pl:=qq (aN (rC key) t i) z;have q:=YX (bl (aN (rC key) t i) z) (rC key);rw[f] at q;generalize M:bl (aN (rC key) t i) z=pn at pl q;generalize fy t i=p at o v c a;have N:(if(L:Int)<8 then(L:Int) else 8)=((min L 8:Nat):Int):=by split <;>omega
  have A:(if(L:Int)<16 then(L:Int) else 16)=((min L 16:Nat):Int):=by split <;>omega
  have r:=iJ (p.take (min L 8)) (by rw[br];omega);have s:=iJ ((p.take (min L 16)).drop 8) (by rw[bU,br];omega);have t8:=TQ p;have t16:=ZG p;rw[v] at t8 t16;rw[t8] at r;rw[t16] at s;have B:min (min (t.length-16*i) 16) (t.length-16*i)+1=L:=aa;simp only[go_sem,seval,w,d,y,o,N,B];refine⟨aa,aa,⟨aa,aa⟩,?_⟩;refine au (r) ?_;simp only[go_sem,seval,v,A];by_cases U:8<L
  ·have l:(8:Int)<(L:Int):=aa;simp only[go_sem,seval,l];refine⟨aa,?_⟩;refine au (s) ?_;simp only[go_sem,seval,v];by_cases C:16<L
   ·have b:(16:Int)<(L:Int):=aa;rw[c C,show BitVec.ofNat 64 (le [1#8])=1#64 from rfl] at a;rw[a] at pl;simp only[go_sem,seval,b];refine aX (pl) ?_;simp only[go_sem,seval];refine aX (q) ?_;simp only[go_sem,seval,d,g,j,k];refine⟨ac,⟨aa,aa⟩,?_⟩;have u:ao ((i:Int)+1)=((i+1:Nat):Int):=by rw[az aa aa];omega
    refine fZ (n-1) ⟨[(0,.str key),(1,.str (t.drop (16*(i+1:Nat)))),(6,.ptr 0 0),(7,.ptr 1 0)],[bK [.u64 (rC key).1,.u64 (rC key).2],bK [.u64 (aN (rC key) t (i+1:Nat)).1,.u64 (aN (rC key) t (i+1:Nat)).2.1,.u64 (aN (rC key) t (i+1:Nat)).2.2]]⟩ [0,1] aa rfl ae rfl ah (by simp[dJ,St.get,aj,-List.map_map,-List.map_set,ig]) (by simp[ig]) ⟨i+1,aa,rfl⟩
   ·have b:¬ (16:Int)<(L:Int):=aa;rw[gP (by omega :p.length<=16),show BitVec.ofNat 64 (le [])=0#64 from rfl] at a;rw[a] at pl;simp only[go_sem,seval,b];refine aX (pl) ?_;simp only[go_sem,seval];refine aX (q) ?_;simp only[go_sem,seval,d,g,j,k];refine⟨ac,⟨aa,aa⟩,?_⟩;have u:ao ((i:Int)+1)=((i+1:Nat):Int):=by rw[az aa aa];omega
    refine fZ (n-1) ⟨[(0,.str key),(1,.str (t.drop (16*(i+1:Nat)))),(6,.ptr 0 0),(7,.ptr 1 0)],[bK [.u64 (rC key).1,.u64 (rC key).2],bK [.u64 (aN (rC key) t (i+1:Nat)).1,.u64 (aN (rC key) t (i+1:Nat)).2.1,.u64 (aN (rC key) t (i+1:Nat)).2.2]]⟩ [0,1] aa rfl ae rfl ah (by simp[dJ,St.get,aj,-List.map_map,-List.map_set,ig]) (by simp[ig]) ⟨i+1,aa,rfl⟩
  ·have l:¬ (8:Int)<(L:Int):=aa;have b:¬ (16:Int)<(L:Int):=aa;rw[gP (by omega :p.length<=16),gP (by omega :p.length<=8),List.take_nil,show BitVec.ofNat 64 (le [])=0#64 from rfl] at a;rw[a] at pl;simp only[go_sem,seval,l,b];refine aX (pl) ?_;simp only[go_sem,seval];refine aX (q) ?_;simp only[go_sem,seval,d,g,j,k];refine⟨ac,⟨aa,aa⟩,?_⟩;have u:ao ((i:Int)+1)=((i+1:Nat):Int):=by rw[az aa aa];omega
   refine fZ (n-1) ⟨[(0,.str key),(1,.str (t.drop (16*(i+1:Nat)))),(6,.ptr 0 0),(7,.ptr 1 0)],[bK [.u64 (rC key).1,.u64 (rC key).2],bK [.u64 (aN (rC key) t (i+1:Nat)).1,.u64 (aN (rC key) t (i+1:Nat)).2.1,.u64 (aN (rC key) t (i+1:Nat)).2.2]]⟩ [0,1] aa rfl ae rfl ah (by simp[dJ,St.get,aj,-List.map_map,-List.map_set,ig]) (by simp[ig]) ⟨i+1,aa,rfl⟩
 ·have O:t.drop (16*i)=[]:=gP aa;obtain rfl:i=(t.length+15)/16:=aa;have D:=Zj key t h;have J:=ach (aN (rC key) t ((t.length+15)/16));have E:=qq (mB (aN (rC key) t ((t.length+15)/16))) (qG key);generalize mB (aN (rC key) t ((t.length+15)/16))=P at D J E;generalize bl P (qG key)=fin at D E;have w1:=iJ ((key.drop 16).take 8) (by rw[br];omega);have Q:=iJ (key.drop 24) (by rw[bU];omega);rw[sN,show min 8 8=8 from rfl] at w1;have F:(key.take 24).drop 16=(key.drop 16).take 8:=by rw[uB]
  have G:(key.take 32).drop 24=key.drop 24:=by rw[ar aa]
  have R:=Ej fin.1;have a2:=rj (aV fin.1.toNat 8) fin.2.1 (by rw[bT];omega);rw[bT,D] at a2;have H:=vJ key t;simp only[go_sem,seval,O];refine aX (J) ?_;simp only[go_sem,seval,F,h'];refine aX (w1) ?_;simp only[go_sem,seval,G,h'];refine aX (Q) ?_;simp only[go_sem,seval];refine aX (E) ?_;simp only[go_sem,seval];refine⟨ac,?_⟩;refine iq [] (R) ac ae rfl ae aM ae ae ae ae ae ?_;simp only[go_sem,seval];refine iq [2] (a2) ac ae rfl ae aM ae ae ae ae ae ?_;simp only[go_sem,seval,H,ar];kernel_rfl
end Go.Vm
end
section
namespace Go.Vm
open Go.Proofs
end Go.Vm
end
section
namespace Go.Vm
open Go.Proofs Go.Proofs.Tryz
def jR (k c m t:List (BitVec 8))(b:Nat):Int:=if k.length=32 then(if c.length=12 then(if 2000<m.length then 2 else if b<t.length then 2 else 0) else 1) else 1
theorem J0 (k c m t:List (BitVec 8))(a:Nat):aG prog 176 [.str k,.str c,.str m,.str t,.i64 a] (.i64 (jR k c m t a)):=by
 unfold jR;by_cases h1:k.length=32
 ·by_cases h2:c.length=12
  ·by_cases e:2000<m.length
   ·have b:(2000:Int)<(m.length:Int):=aa;refine aQ ac (fn:=f176) ac func176 rfl am (by simp[af,V.low]) (by simp[V.low]) (ak ?_);simp only[go_sem,seval,ntmps176,results176,h1,h2,e,b]
   ·have b:¬ (2000:Int)<(m.length:Int):=aa;by_cases g:a<t.length
    ·have d:(a:Int)<(t.length:Int):=aa;refine aQ ac (fn:=f176) ac func176 rfl am (by simp[af,V.low]) (by simp[V.low]) (ak ?_);simp only[go_sem,seval,ntmps176,results176,h1,h2,e,b,g,d]
    ·have d:¬ (a:Int)<(t.length:Int):=aa;refine aQ ac (fn:=f176) ac func176 rfl am (by simp[af,V.low]) (by simp[V.low]) (ak ?_);simp only[go_sem,seval,ntmps176,results176,h1,h2,e,b,g,d]
  ·have f:¬ (c.length:Int)=12:=aa;refine aQ ac (fn:=f176) ac func176 rfl am (by simp[af,V.low]) (by simp[V.low]) (ak ?_);simp only[go_sem,seval,ntmps176,results176,h1,h2,f]
 ·have h1':¬ (k.length:Int)=32:=aa;refine aQ ac (fn:=f176) ac func176 rfl am (by simp[af,V.low]) (by simp[V.low]) (ak ?_);simp only[go_sem,seval,ntmps176,results176,h1,h1']
theorem Ep (k c m t:List (BitVec 8))(a:Nat)(h:jR k c m t a=0):k.length=32/\c.length=12/\m.length<=2000/\t.length<=a:=by
 unfold jR at h;split at h
 ·split at h
  ·split at h
   ·simp at h
   ·split at h
    ·simp at h
    ·omega
  ·simp at h
 ·simp at h
theorem KN (s:List (BitVec 8))(e:s.length<=140737488351232):aG prog 193 [.str s] (.str (sH s)):=by
 have a:(s.length:Int).tmod 16=((s.length%16:Nat):Int):=rfl;have b:ao (16-((s.length%16:Nat):Int))=((16-s.length%16:Nat):Int):=by rw[az aa aa];omega
 have c:((16-s.length%16:Nat):Int).tmod 16=(((16-s.length%16)%16:Nat):Int):=rfl;have d:=vD ((16-s.length%16)%16) aa;refine aQ ac (fn:=f193) ac func193 rfl am (by simp[af,V.low]) (by simp[V.low]) (ak ?_);simp only[go_sem,seval,ntmps193,a,b,c];refine au (d) ?_;simp only[go_sem,seval];exact⟨aa,rfl⟩
def pW (m s:List (BitVec 8)):List (BitVec 8):=aV (BitVec.ofInt 64 (m.length:Int)).toNat 8++aV (BitVec.ofInt 64 (s.length:Int)).toNat 8
def uY (m s:List (BitVec 8)):List (BitVec 8):=sH m++(sH s++pW m s)
def gA (k c m s:List (BitVec 8)):List (BitVec 8):=uu ((fh k c 0#32).take 32) (uY m s)
theorem P5 (m s:List (BitVec 8))(a:m.length<=2000)(b:s.length<=2016):(uY m s).length<=10000:=by
 unfold uY pW;rw[aE,aE,aE,bT,bT,yJ,yJ];omega
theorem Jc (k c m s:List (BitVec 8))(h1:k.length=32)(h2:c.length=12)(n:m.length<=2000)(o:s.length<=2016):aG prog 178 [.str k,.str c,.str m,.str s] (.str (gA k c m s)):=by
 have p:=CJ k c 0#32 h1 h2;have b:=we k c 0#32 h1 h2;have q:=Ej (BitVec.ofInt 64 (m.length:Int));have a:=bT (BitVec.ofInt 64 (m.length:Int)).toNat 8;have d:=bT (BitVec.ofInt 64 (s.length:Int)).toNat 8;have a2:=rj (aV (BitVec.ofInt 64 (m.length:Int)).toNat 8) (BitVec.ofInt 64 (s.length:Int)) (by rw[a];omega);rw[a,show aV (BitVec.ofInt 64 (m.length:Int)).toNat 8++aV (BitVec.ofInt 64 (s.length:Int)).toNat 8=pW m s from rfl] at a2;have f:(pW m s).length=16:=by unfold pW;rw[aE,a,d]
 have g:=yJ m;have h:=yJ s;have j:=P5 m s n o;have l:=Tl ((fh k c 0#32).take 32) (uY m s) (by rw[br,b];rfl) aa;have e:sH m++(sH s++pW m s)=uY m s:=rfl;have r:uu ((fh k c 0#32).take 32) (uY m s)=gA k c m s:=rfl;rw[r] at l;refine aQ ac (fn:=f178) ac func178 rfl am (by simp[af,V.low]) (by simp[V.low]) (ak ?_);simp only[go_sem,seval,ntmps178];refine au (p) ?_;simp only[go_sem,seval];refine aS [] (q) ac ae rfl ae aM ae ae ae ae ae ?_;simp only[go_sem,seval];refine aS [0] (a2) ac ae rfl ae aM ae ae ae ae ae ?_;simp only[go_sem,seval,b];refine aX (KN m aa) ?_;simp only[go_sem,seval];refine aX (KN s aa) ?_;simp only[go_sem,seval,f,g,h];have i:(pW m s).take 16=pW m s:=ar aa;rw[i,dV,e];refine⟨aa,aa,?_⟩;refine aX (l) ?_;simp only[go_sem,seval];kernel_rfl
theorem AE (B:BitVec 32->List (BitVec 8))(a:∀ m,(B m).length=64)(n:BitVec 32)(t:List (BitVec 8)):(xored B n t).length=t.length:=by
 unfold xored;rw[jU,AS B a];omega
def dP (k c m t:List (BitVec 8)):List (BitVec 8)×Int:=if jR k c m t 2000=0 then(xored (fh k c) 1#32 t++gA k c m (xored (fh k c) 1#32 t),0) else([],jR k c m t 2000)
def lQ (k c m z:List (BitVec 8)):List (BitVec 8)×Int:=if jR k c m z 2016=0 then(if z.length<16 then([],4) else if z.take (z.length-16)++gA k c m (z.take (z.length-16))=z then(xored (fh k c) 1#32 (z.take (z.length-16)),0) else([],6)) else([],jR k c m z 2016)
theorem Hl (k c m t:List (BitVec 8)):aG prog 161 [.str k,.str c,.str m,.str t] (.tup [.str (dP k c m t).1,.i64 (dP k c m t).2]):=by
 have hc:=J0 k c m t 2000;unfold dP;by_cases h:jR k c m t 2000=0
 ·obtain⟨h1,h2,f,g⟩:=Ep _ _ _ _ _ h;rw[h] at hc;rw[if_pos h];have d:∀ n,(fh k c n).length=64:=fun n=>we k c n h1 h2
  have e:=Ff k c 1#32 t (fh k c) d (fun n=>CJ k c n h1 h2) h1 h2 g;have a:=AE (fh k c) d 1#32 t;generalize xored (fh k c) 1#32 t=x at e a |-
  have i:=Jc k c m x h1 h2 f aa;have b:(gA k c m x).length=16:=vJ _ _;refine aQ ac (fn:=f161) ac func161 rfl am (by simp[af,V.low]) (by simp[af,V.low]) (ak ?_);simp only[go_sem,seval,ntmps161];refine au (hc) ?_;simp only[go_sem,seval];refine au (e) ?_;simp only[go_sem,seval];refine au (i) ?_;simp only[go_sem,seval,b];omega
 ·rw[if_neg h];refine aQ ac (fn:=f161) ac func161 rfl am (by simp[af,V.low]) (by simp[af,V.low]) (ak ?_);simp only[go_sem,seval,ntmps161];refine au (hc) ?_;simp only[go_sem,seval,h]
theorem Jj (k c m z:List (BitVec 8)):aG prog 165 [.str k,.str c,.str m,.str z] (.tup [.str (lQ k c m z).1,.i64 (lQ k c m z).2]):=by
 have hc:=J0 k c m z 2016;unfold lQ;by_cases h:jR k c m z 2016=0
 ·obtain⟨h1,h2,p,r⟩:=Ep _ _ _ _ _ h;rw[h] at hc;rw[if_pos h];by_cases l:z.length<16
  ·have a:(z.length:Int)<16:=aa;rw[if_pos l];refine aQ ac (fn:=f165) ac func165 rfl am (by simp[af,V.low]) (by simp[af,V.low]) (ak ?_);simp only[go_sem,seval,ntmps165];refine au (hc) ?_;simp only[go_sem,seval,a]
  ·have a:¬ (z.length:Int)<16:=aa;rw[if_neg l];have e:ao ((z.length:Int)-16)=((z.length-16:Nat):Int):=by rw[az aa aa];omega
   have f:((z.length-16:Nat):Int)<=(z.length:Int):=aa;have z0:(0:Int)<=((z.length-16:Nat):Int):=aa;have b:(z.take (z.length-16)).length=z.length-16:=by rw[br];omega
   have q:∀ n,(fh k c n).length=64:=fun n=>we k c n h1 h2
   have i:=Ff k c 1#32 (z.take (z.length-16)) (fh k c) q (fun n=>CJ k c n h1 h2) h1 h2 aa;have j:=Jc k c m (z.take (z.length-16)) h1 h2 p aa;have d:(gA k c m (z.take (z.length-16))).length=16:=vJ _ _;generalize o:z.take (z.length-16)=s at b i j d |-
   generalize xored (fh k c) 1#32 s=x at i |-
   by_cases g:s++gA k c m s=z
   ·rw[if_pos g];refine aQ ac (fn:=f165) ac func165 rfl am (by simp[af,V.low]) (by simp[af,V.low]) (ak ?_);simp only[go_sem,seval,ntmps165];refine au (hc) ?_;simp only[go_sem,seval,a,e,f,z0,o];refine au (j) ?_;simp only[go_sem,seval,g,b,d];refine⟨aa,?_⟩;refine au (i) ?_;simp only[go_sem,seval]
   ·rw[if_neg g];refine aQ ac (fn:=f165) ac func165 rfl am (by simp[af,V.low]) (by simp[af,V.low]) (ak ?_);simp only[go_sem,seval,ntmps165];refine au (hc) ?_;simp only[go_sem,seval,a,e,f,z0,o];refine au (j) ?_;simp only[go_sem,seval,g,b,d];omega
 ·rw[if_neg h];refine aQ ac (fn:=f165) ac func165 rfl am (by simp[af,V.low]) (by simp[af,V.low]) (ak ?_);simp only[go_sem,seval,ntmps165];refine au (hc) ?_;simp only[go_sem,seval,h]
def gY (f:List (BitVec 8)->List (BitVec 8)->List (BitVec 8)->List (BitVec 8)->List (BitVec 8)×Int)(k c m t:List (BitVec 8)):List (BitVec 8)×Int:=if k.length=32/\c.length=24 then f (u0 k (c.take 16)) (List.replicate 4 0#8++c.drop 16) m t else([],1)
theorem J5 (g:Nat)(f:List (BitVec 8)->List (BitVec 8)->List (BitVec 8)->List (BitVec 8)->List (BitVec 8)×Int)(a:eu prog g=true)(e:∀ k c m t,aG prog g [.str k,.str c,.str m,.str t] (.tup [.str (f k c m t).1,.i64 (f k c m t).2]))(k c m t:List (BitVec 8)):
  aG prog 160 [.str k,.str c,.str m,.str t,.fn g [] []] (.tup [.str (gY f k c m t).1,.i64 (gY f k c m t).2]):=by
 unfold gY;by_cases h:k.length=32/\c.length=24
 ·obtain⟨h1,h2⟩:=h;have b:(c.length:Int)=24:=aa;have i:=ZJ k (c.take 16) h1 (by rw[br];omega);have j:=e (u0 k (c.take 16)) (List.replicate 4 0#8++c.drop 16) m t;rw[if_pos ⟨h1,h2⟩];have l:bytesOf ⟨#[0,0,0,0]⟩=List.replicate 4 0#8:=rfl;have d:c.take 24=c:=ar aa;refine aQ ac (fn:=f160) ac func160 rfl am (by simp[af,V.low]) (by simp[af,V.low]) (ak ?_);simp only[go_sem,seval,ntmps160,h1,h2];refine au (i) ?_;simp only[go_sem,seval,l,d,b];refine⟨aa,?_⟩;refine au (j) ?_;simp only[go_sem,seval]
 ·rw[if_neg h];by_cases h1:k.length=32
  ·have h2:¬ (c.length:Int)=24:=aa;refine aQ ac (fn:=f160) ac func160 rfl am (by simp[af,V.low]) (by simp[af,V.low]) (ak ?_);simp only[go_sem,seval,ntmps160,results160,h1,h2]
  ·have h1':¬ (k.length:Int)=32:=aa;refine aQ ac (fn:=f160) ac func160 rfl am (by simp[af,V.low]) (by simp[af,V.low]) (ak ?_);simp only[go_sem,seval,ntmps160,results160,h1']
theorem ael (k c m t:List (BitVec 8)):aG prog 132 [.str k,.str c,.str m,.str t] (.tup [.str (gY dP k c m t).1,.i64 (gY dP k c m t).2]):=by
 have h:=J5 161 dP ac Hl k c m t;refine aQ ac (fn:=f132) ac func132 rfl am (by simp[af,V.low]) (by simp[af,V.low]) (ak ?_);simp only[go_sem,seval,ntmps132];refine au (h) ?_;simp only[go_sem,seval]
theorem OT (k c m t:List (BitVec 8)):aG prog 147 [.str k,.str c,.str m,.str t] (.tup [.str (gY lQ k c m t).1,.i64 (gY lQ k c m t).2]):=by
 have h:=J5 165 lQ ac Jj k c m t;refine aQ ac (fn:=f147) ac func147 rfl am (by simp[af,V.low]) (by simp[af,V.low]) (ak ?_);simp only[go_sem,seval,ntmps147];refine au (h) ?_;simp only[go_sem,seval]
def zero4:List (BitVec 8):=[0#8,0#8,0#8,0#8]
def cA (s:Int)(n:BitVec 64):List (BitVec 8):=if s=1 then zero4++aV n.toNat 8 else zero4++bu n.toNat 8
theorem ac1 (n:BitVec 64):aG prog 236 [.agg [],.u64 n] (.str (zero4++aV n.toNat 8)):=by
 have a:=rj zero4 n ah;have b:=bT n.toNat 8;rw[show zero4.length=4 from rfl] at a;unfold zero4 at a |-
 generalize aV n.toNat 8=z at*;have c:z.take 8=z:=ar aa;refine aQ ac (fn:=f236) ac func236 rfl am (by simp[af,V.low]) (by simp[V.low]) (ak ?_);simp only[go_sem,seval,ntmps236];refine aS [1] (a) ac ae rfl ae aM ae ae ae ae ae ?_;simp only[go_sem,seval,b,c]
theorem V6 (n:BitVec 64):aG prog 240 [.agg [],.u64 n] (.str (zero4++bu n.toNat 8)):=by
 have a:=yX zero4 n ah;have b:=cF n.toNat 8;rw[show zero4.length=4 from rfl] at a;unfold zero4 at a |-
 generalize bu n.toNat 8=z at*;have c:z.take 8=z:=ar aa;refine aQ ac (fn:=f240) ac func240 rfl am (by simp[af,V.low]) (by simp[V.low]) (ak ?_);simp only[go_sem,seval,ntmps240];refine aS [1] (a) ac ae rfl ae aM ae ae ae ae ae ?_;simp only[go_sem,seval,b,c]
theorem TZ (k c m t:List (BitVec 8)):aG prog 238 [.agg [],.str k,.str c,.str m,.str t] (.tup [.str (dP k c m t).1,.i64 (dP k c m t).2]):=by
 have h:=Hl k c m t;generalize dP k c m t=g at*;refine aQ ac (fn:=f238) ac func238 rfl am (by simp[af,V.low]) (by simp[af,V.low]) (ak ?_);simp only[go_sem,seval,ntmps238];refine au (h) ?_;simp only[go_sem,seval]
theorem X1 (k c m t:List (BitVec 8)):aG prog 237 [.agg [],.str k,.str c,.str m,.str t] (.tup [.str (lQ k c m t).1,.i64 (lQ k c m t).2]):=by
 have h:=Jj k c m t;generalize lQ k c m t=g at*;refine aQ ac (fn:=f237) ac func237 rfl am (by simp[af,V.low]) (by simp[af,V.low]) (ak ?_);simp only[go_sem,seval,ntmps237];refine au (h) ?_;simp only[go_sem,seval]
theorem adY:fU prog 261 "souterrain/noise.nonce"=some 236:=ac
theorem agw:fU prog 261 "souterrain/noise.seal"=some 238:=ac
theorem abO:fU prog 261 "souterrain/noise.open"=some 237:=ac
theorem Mh:fU prog 262 "souterrain/noise.nonce"=some 240:=ac
theorem UH:fU prog 262 "souterrain/noise.seal"=some 242:=ac
theorem adC:fU prog 262 "souterrain/noise.open"=some 241:=ac
theorem ya:(#[]:Array Operand).isEmpty=true:=rfl
def JI (a b:Nat):Prop:=a=b+16
def wV:Nat->BitVec 8->BitVec 8->BitVec 8->BitVec 8
 |0,_,_,n=>n
 |k+1,a,b,n=>if 0#8<b then wV k (a<<<1 ^^^ a>>>7*27) (b>>>1) (n ^^^ a*(b&&&1)) else n
def jZ (a b:BitVec 8):BitVec 8:=wV 8 a b 0
theorem rF (a b:BitVec 8):aG prog 256 [.u8 a,.u8 b] (.u8 (jZ a b)):=by
 refine aQ ac (fn:=f256) ac func256 rfl am (by simp[af,V.low]) (by simp[V.low]) (ak ?_);simp only[go_sem,seval,ntmps256];refine bq (fun j s=>∃ a' c n',s=⟨[(0,.u8 a'),(1,.u8 c),(5,.u8 n')],[]⟩/\c.toNat<2^j/\jZ a b=wV j a' c n') ?_ ?_
 ·exact bJ 8 ⟨[(0,.u8 a),(1,.u8 b),(5,.u8 0)],[]⟩ (by simp[St.get,aj]) rfl (fun _ _ h=>h) ⟨a,b,0,rfl,b.isLt,rfl⟩
 ·rintro j s ⟨a',c,n',rfl,e,d⟩ _;simp only[go_sem,seval];split
  ·rename_i h0;cases j with
   |zero=>exact absurd h0 (by rw[wE];simp;omega)
   |succ j=>
    refine bx j ⟨[(0,.u8 (a'<<<1 ^^^ a'>>>7*27)),(1,.u8 (c>>>1)),(5,.u8 (n' ^^^ a'*(c&&&1)))],[]⟩ aa (by simp[St.get,aj]) rfl (fun _ _ h=>h) ⟨_,_,_,rfl,?_,?_⟩
    ·simp[nT];omega
    ·rw[d,wV,if_pos h0]
  ·rename_i h0;rw[d];cases j with
   |zero=>rfl
   |succ j=>rw[wV,if_neg h0]
def nx (a:Nat):Nat:=(a*2%256) ^^^ (a/128*27)
def B9:Nat->BitVec 8->BitVec 8->BitVec 8
 |0,n,_=>n
 |k+1,n,s=>B9 k (jZ n (jZ s s)) (jZ s s)
def o9 (a:BitVec 8):BitVec 8:=B9 7 1 a
theorem agH (a:BitVec 8):aG prog 266 [.u8 a] (.u8 (o9 a)):=by
 refine aQ ac (fn:=f266) ac func266 rfl am (by simp[af,V.low]) (by simp[V.low]) (ak ?_);simp only[go_sem,seval,ntmps266];refine bq (fun j s=>∃ (i:Nat) (n q:BitVec 8),i+j=7/\s=⟨[(3,.u8 n),(4,.u8 q),(6,.i64 i)],[]⟩/\o9 a=B9 j n q) ?_ ?_
 ·exact bJ 7 ⟨[(3,.u8 1),(4,.u8 a),(6,.i64 (0:Nat))],[]⟩ (by simp[St.get,aj]) rfl (fun _ _ h=>h) ⟨0,1,a,aa,rfl,rfl⟩
 ·rintro j s ⟨i,n,q,c,rfl,b⟩ _;simp only[go_sem,seval];split
  ·refine au (rF _ _) ?_;simp only[go_sem,seval];refine au (rF _ _) ?_;simp only[go_sem,seval];obtain⟨j,rfl⟩:∃ k,j=k+1:=⟨j-1,aa⟩;refine bx j ⟨[(3,.u8 (jZ n (jZ q q))),(4,.u8 (jZ q q)),(6,.i64 (i+1:Nat))],[]⟩ aa ?_ rfl (fun _ _ h=>h) ⟨i+1,_,_,aa,rfl,b⟩;have :ao ((i:Int)+1)=((i+1:Nat):Int):=by rw[az aa aa];omega
   simp[St.get,aj,this]
  ·obtain rfl:j=0:=aa;rw[b];rfl
theorem G6 (i:Nat):BitVec.ofInt 8 (i:Int)=BitVec.ofNat 8 i:=DZ 8 i
def I5 (x:BitVec 8)(k:Nat):BitVec 8:=x<<<k|||x>>>(8-k)
theorem NE (n:Int):(BitVec.ofInt 64 n&&&7#64).toNat=(n%8).toNat:=by
 rw[nM,l9,show(7#64).toNat=2^3-1 from rfl,rb];omega
theorem afH (x:BitVec 8)(n:Int):aG prog 267 [.u8 x,.i64 n] (.u8 (I5 x (n%8).toNat)):=by
 have e:=NE n;have a:(8#64-(BitVec.ofInt 64 n&&&7#64)).toNat=8-(n%8).toNat:=by
  rw[uv,e];have :(8#64).toNat=8:=rfl;rw[this];omega
 refine aQ ac (fn:=f267) ac func267 rfl am (by simp[af,V.low]) (by simp[V.low]) (ak ?_);simp only[go_sem,seval,ntmps267,results267,e,a];rfl
def rf (b:BitVec 8):Nat->BitVec 8
 |0=>b ^^^ 99#8
 |i+1=>rf b i ^^^ I5 b (((i+1:Nat):Int)%8).toNat
def dc (a:BitVec 8):BitVec 8:=rf (o9 a) 4
theorem RX (a:BitVec 8):aG prog 255 [.u8 a] (.u8 (dc a)):=by
 refine aQ ac (fn:=f255) ac func255 rfl am (by simp[af,V.low]) (by simp[V.low]) (ak ?_);simp only[go_sem,seval,ntmps255];refine au (agH _) ?_;simp only[go_sem,seval];refine bq (fun j st=>∃ i:Nat,i+j=4/\st=⟨[(3,.u8 (o9 a)),(4,.u8 (rf (o9 a) i)),(10,.i64 i)],[]⟩) ?_ ?_
 ·exact bJ (4) ⟨[(3,.u8 (o9 a)),(4,.u8 (rf (o9 a) (0:Nat))),(10,.i64 (0:Nat))],[]⟩ (by simp[St.get,aj,rf]) rfl (fun _ _ h=>h) ⟨0,aa,rfl⟩
 rintro j st ⟨i,d,rfl⟩ _;simp only[go_sem,seval];by_cases h0:i<4
 ·have b:(i:Int)<4:=aa;have hw:ao ((i:Int)+1)=((i+1:Nat):Int):=by rw[az aa aa];omega
  simp only[go_sem,seval,b,hw];refine au (afH _ _) ?_;simp only[go_sem,seval];refine bx (j-1) ⟨[(3,.u8 (o9 a)),(4,.u8 (rf (o9 a) (i+1:Nat))),(10,.i64 (i+1:Nat))],[]⟩ aa ?_ rfl (fun _ _ h=>h) ⟨i+1,aa,rfl⟩;have c:ao ((i:Int)+1)=((i+1:Nat):Int):=by rw[az aa aa];omega
  simp[St.get,aj,c,rf]
 ·have b:¬ (i:Int)<4:=aa;simp only[go_sem,seval,b];obtain rfl:i=4:=aa;rfl
def fe:Nat->List (BitVec 8)
 |0=>List.replicate 512 0#8
 |i+1=>((fe i).set i (dc (BitVec.ofNat 8 i))).set (256+(dc (BitVec.ofNat 8 i)).toNat) (BitVec.ofNat 8 i)
theorem xw (i:Nat):(fe i).length=512:=by
 induction i with
 |zero=>rw[fe,gv]
 |succ i ih=>rw[fe,aY,aY,ih]
theorem Kr {l:List (BitVec 8)}{i j:Nat}{x:BitVec 8}(h:i≠j):(l.set i x).getD j 0=l.getD j 0:=by
 rw[aW,mF h,<-aW]
theorem UF {l:List (BitVec 8)}{i:Nat}{x:BitVec 8}(h:i<l.length):(l.set i x).getD i 0=x:=by
 rw[aW,kL h];rfl
theorem Uf (i:Nat)(c:i<=256):∀ b:BitVec 8,b.toNat<i->(fe i).getD b.toNat 0=dc b:=by
 induction i with
 |zero=>intro b h;omega
 |succ i ih=>
  intro b h;have d:=xw i;rw[fe,Kr (by have :=b.isLt;omega)];by_cases e:b.toNat=i
  ·have a:BitVec.ofNat 8 i=b:=by rw[<-e];simp
   rw[e,UF aa,a]
  ·rw[Kr aa,ih aa b aa]
theorem Bx (b:BitVec 8):(fe 256).getD b.toNat 0=dc b:=Uf 256 (aH _) b b.isLt
theorem UM:aq prog 250 [] [] (.ptr 0 0) [bK ((fe 256).map .u8)]:=by
 refine bf ac (fn:=f250) func250 rfl am (ak ?_);simp only[go_sem,seval,ntmps250];refine bq (fun c st=>∃ i:Nat,i+c=256/\st=⟨[(1,.ptr 0 0),(6,.i64 i)],[bK ((fe i).map .u8)]⟩) ?_ ?_
 ·exact bJ (256) ⟨[(1,.ptr 0 0),(6,.i64 (0:Nat))],[bK ((fe (0:Nat)).map .u8)]⟩ (by simp[St.get,aj,-List.map_set,-List.map_map]) rfl (fun _ _ h=>h) ⟨0,aa,rfl⟩
 rintro c st ⟨i,l,rfl⟩ _;simp only[go_sem,seval];have g:=xw i;by_cases h0:i<256
 ·have a:(i:Int)<256:=aa;have j:=(dc (BitVec.ofNat 8 i)).isLt;have b:((dc (BitVec.ofNat 8 i)).toNat:Int)<256:=aa;have k:(0:Int)<=((dc (BitVec.ofNat 8 i)).toNat:Int):=aa;have d:((fe i).set i (dc (BitVec.ofNat 8 i))).set (256+(dc (BitVec.ofNat 8 i)).toNat) (BitVec.ofNat 8 i)=fe (i+1):=rfl;have g1:i<512:=aa;have g2:256+(dc (BitVec.ofNat 8 i)).toNat<512:=aa;have e:∀ x,((fe i).set i x).length=512:=fun x=>by rw[aY,g]
  simp only[go_sem,seval,a,G6];refine au (RX _) ?_;simp only[go_sem,seval,G6,a,b,k,g,e,d];refine⟨aa,aa,aa,ac,?_⟩;refine bx (c-1) ⟨[(1,.ptr 0 0),(6,.i64 (i+1:Nat))],[bK ((fe (i+1:Nat)).map .u8)]⟩ aa ?_ rfl (fun _ _ h=>h) ⟨i+1,aa,rfl⟩;have f:ao ((i:Int)+1)=((i+1:Nat):Int):=by rw[az aa aa];omega
  simp[St.get,aj,f,-List.map_set,-List.map_map]
 ·obtain rfl:i=256:=aa;have a:¬ ((256:Nat):Int)<256:=aa;simp only[go_sem,seval];exact Fin.ren [0] ae ae aZ ah ae ae
end Go.Vm
end
section
namespace Go.Vm
open Go.Proofs
def tS (s:List (BitVec 8)):List (BitVec 8):=s.map dc
def p2:Nat->BitVec 8
 |0=>1#8
 |k+1=>jZ (p2 k) 2#8
def gW (n i:Nat)(w:List (BitVec 8)):List (BitVec 8):=if i%n=0 then bj (tS (w.drop 1++w.take 1)) (p2 (i/n-1)::List.replicate 3 0#8) else if n=8/\i%8=4 then tS w else w
def wl (key:List (BitVec 8))(n:Nat):Nat->List (List (BitVec 8))
 |0=>[]
 |i+1=>if i<n then wl key n i++[(key.drop (4*i)).take 4] else wl key n i++[bj ((wl key n i).getD (i-n) []) (gW n i ((wl key n i).getD (i-1) []))]
theorem De (key:List (BitVec 8))(n i:Nat):(wl key n i).length=i:=by
 induction i with
 |zero=>rfl
 |succ i ih=>rw[wl];split <;>(rw[aE,ih];rfl)
theorem Jv (s:List (BitVec 8)):(tS s).length=s.length:=by unfold tS;rw[ba]
theorem VN (n i:Nat)(w:List (BitVec 8))(h:w.length=4):(gW n i w).length=4:=by
 unfold gW;split
 ·rw[jU,Jv,aE,bU,br,h];rfl
 ·split
  ·rw[Jv,h]
  ·exact h
theorem yz {l:List (List (BitVec 8))}{i:Nat}(h:i<l.length):l.getD i []∈l:=by
 rw[aW,aF h];exact dd h
theorem Lg (key:List (BitVec 8))(n:Nat)(a:0<n)(b:key.length=4*n)(i:Nat):∀ w∈wl key n i,w.length=4:=by
 induction i with
 |zero=>intro w h;simp[wl] at h
 |succ i ih=>
  intro w hw;have c:=De key n i;rw[wl] at hw;split at hw
  ·rcases eB.1 hw with h|h
   ·exact ih w h
   ·rw[lh.1 h,br,bU];omega
  ·rcases eB.1 hw with h|h
   ·exact ih w h
   ·rw[lh.1 h,jU,VN _ _ _ (ih _ (yz aa)),ih _ (yz aa)];rfl
end Go.Vm
end
section
namespace Go.Vm
open Go.Proofs Go.Proofs.Tryz
theorem Jb (key:List (BitVec 8))(n:Nat)(b:0<n)(c:key.length=4*n)(i:Nat):(wl key n i).flatten.length=4*i:=by
 have a:=Lg key n b c i;have d:=De key n i;generalize wl key n i=l at*;subst d;induction l with
 |nil=>rfl
 |cons x l ih=>rw[qo,aE,a x ae,ih (fun w hw=>a w (by simp[hw])),ce];omega
theorem PO (key:List (BitVec 8))(n:Nat)(a:key.length=4*n)(i:Nat)(b:i<=n):(wl key n i).flatten=key.take (4*i):=by
 induction i with
 |zero=>rfl
 |succ i ih=>
  rw[wl,if_pos aa,BD,ih aa];rw[show 4*(i+1)=4*i+4 by omega,List.take_add];simp
theorem aa3 (l:List (List (BitVec 8)))(b:∀ w∈l,w.length=4)(i k:Nat)(c:i<l.length)(e:k<4):l.flatten.getD (4*i+k) 0=(l.getD i []).getD k 0:=by
 induction l generalizing i with
 |nil=>simp at c
 |cons x l ih=>
  have d:=b x ae;cases i with
  |zero=>rw[qo,aW,gh aa];simp[aW]
  |succ i=>
   have a:i<l.length:=by rw[ce] at c;omega
   rw[qo,aW,dL aa,d,show 4*(i+1)+k-4=4*i+k by omega,<-aW,ih (fun w hw=>b w (by simp[hw])) i a];simp
theorem Wf (l:List (List (BitVec 8)))(c:∀ w∈l,w.length=4)(i:Nat)(d:i<l.length):(l.flatten.drop (4*i)).take 4=l.getD i []:=by
 induction l generalizing i with
 |nil=>simp at d
 |cons x l ih=>
  have a:=c x ae;cases i with
  |zero=>rw[qo,Nat.mul_zero,jC,<-a,List.take_left];rfl
  |succ i=>
   have b:i<l.length:=by rw[ce] at d;omega
   rw[qo,show 4*(i+1)=4+4*i by omega,<-hO,<-a,List.drop_left,a,ih (fun w hw=>c w (by simp[hw])) i b];simp
theorem Fb (l:List (BitVec 8))(h:l.length=4):∃ a b c d,l=[a,b,c,d]:=by
 match l,h with
 |[a,b,c,d],_=>exact⟨a,b,c,d,rfl⟩
theorem yl (w x y z a b c d:V):splice [w,x,y,z] 0 [a,b,c,d]=[a,b,c,d]:=rfl
theorem WR (key:List (BitVec 8))(n:Nat)(hn:n=4\/n=8)(hk:key.length=4*n):aq prog 251 [.ptr 0 0,.str key] [bK ((fe 256).map .u8)] (.str (wl key n (4*(n+7))).flatten) [bK ((fe 256).map .u8)]:=by
 have e0:ao ((key.length:Int).tdiv 4)=(n:Int):=by rw[show(4:Int)=((4:Nat):Int) from rfl,Iv,az aa aa];omega
 have e1:ao ((n:Int)+7)=((n+7:Nat):Int):=by rw[az aa aa];omega
 have e2:ao (4*((n+7:Nat):Int))=((4*(n+7):Nat):Int):=by rw[az aa aa];omega
 have hw0:(wl key n n).flatten=key:=by rw[PO key n hk n (aH n),<-hk,o0]
 generalize hN:4*(n+7)=N at*;have hT:=Bx;have hTl:=xw 256;generalize fe 256=T at*;have hks:key.length<=1000:=aa;have hnn:(n-1)/n=0:=by rcases hn with rfl|rfl<;>rfl
 refine bf ac (fn:=f251) func251 rfl am (ak ?_);simp only[go_sem,↓reduceIte,Nat.reduceEqDiff,Nat.reduceLT,Int.reduceLE,Int.reduceLT,Int.reduceEq,BitVec.reduceOfInt,ntmps251,e0];refine⟨aa,?_⟩;refine bq (fun j st=>∃ i:Nat,i+j=N/\n<=i/\st=⟨[(0,.ptr 0 0),(5,.i64 n),(6,.slice 1 0 (4*i) 1),(7,.u8 (p2 ((i-1)/n))),(8,.i64 i)],[bK (T.map .u8),bK ((wl key n i).flatten.map .u8)]⟩) ?_ ?_
 ·exact bJ (N-n) ⟨[(0,.ptr 0 0),(5,.i64 n),(6,.slice 1 0 (4*n) 1),(7,.u8 (p2 ((n-1)/n))),(8,.i64 n)],[bK (T.map .u8),bK ((wl key n n).flatten.map .u8)]⟩ (by simp[St.get,aj,hnn,p2,hk]) rfl (by rw[hw0];exact fun _ _ h=>h) ⟨n,aa,aa,rfl⟩
 rintro j st ⟨i,hi,hni,rfl⟩ _;have hwl:=De key n i;have hw4:=Lg key n aa hk i;have hfl:=Jb key n aa hk i;have hw1:ao ((i:Int)+1)=((i+1:Nat):Int):=by rw[az aa aa];omega
 by_cases hiN:i<N
 ·have hiN':(i:Int)<(N:Int):=aa;have z1:ao (((4*i:Nat):Int)-4)=((4*(i-1):Nat):Int):=by rw[az aa aa];omega
  have z2:((4*(i-1):Nat):Int)<=((4*i:Nat):Int):=aa;have z4:(0:Int)<=((4*(i-1):Nat):Int):=aa;have z5:4*i-4*(i-1)=4:=aa;have z6:(((4*i:Nat):Int)-((4*(i-1):Nat):Int)).toNat=4:=aa;have z7:4*(i-1)+4<=4*i:=aa;have n0:¬ (n:Int)=0:=aa;have tm:(i:Int).tmod (n:Int)=((i%n:Nat):Int):=rfl;have hi1:i-1<(wl key n i).length:=aa;have hi2:i-n<(wl key n i).length:=aa;have hd:=Wf (wl key n i) hw4 (i-1) hi1;have w1:=hw4 _ (yz hi1);have w2:=hw4 _ (yz hi2);have hfa:=fun k hk=>aa3 (wl key n i) hw4 (i-n) k hi2 hk
  obtain⟨l,hle⟩:∃ l,l=(wl key n i).getD (i-1) []:=⟨_,rfl⟩;obtain⟨r,hre⟩:∃ r,r=(wl key n i).getD (i-n) []:=⟨_,rfl⟩;rw[<-hle] at w1 hd;rw[<-hre] at w2 hfa;have hs0:wl key n (i+1)=wl key n i++[bj r (gW n i l)]:=by rw[wl,if_neg aa,<-hle,<-hre]
  have hs1:(wl key n (i+1)).flatten=(wl key n i).flatten++bj r (gW n i l):=by rw[hs0,BD];simp
  obtain⟨a,b,c,d,rfl⟩:=Fb l w1;obtain⟨x0,x1,x2,x3,rfl⟩:=Fb r w2;have hT':∀ b:BitVec 8,(T.map V.u8).getD b.toNat .junk= .u8 (dc b):=fun b=>by rw[iV (by have :=b.isLt;omega),hT]
  have hb1:∀ b:BitVec 8,(b.toNat:Int)<256:=fun b=>by have :=b.isLt;omega
  have hb2:∀ b:BitVec 8,(0:Int)<=(b.toNat:Int):=fun b=>by omega
  have hb3:∀ b:BitVec 8,b.toNat<512:=fun b=>by have :=b.isLt;omega
  have hb4:∀ b:BitVec 8,b.toNat<256:=fun b=>by have :=b.isLt;omega
  generalize hfg:(wl key n i).flatten=w at*;have y0:ao ((i:Int)-(n:Int))=((i-n:Nat):Int):=by rw[az aa aa];omega
  have y1:ao (4*((i-n:Nat):Int))=((4*(i-n):Nat):Int):=by rw[az aa aa];omega
  have y2:ao (((4*(i-n):Nat):Int)+0)=((4*(i-n):Nat):Int):=by rw[az aa aa];omega
  have y3:ao (((4*(i-n):Nat):Int)+1)=((4*(i-n)+1:Nat):Int):=by rw[az aa aa];omega
  have y4:ao (((4*(i-n):Nat):Int)+2)=((4*(i-n)+2:Nat):Int):=by rw[az aa aa];omega
  have y5:ao (((4*(i-n):Nat):Int)+3)=((4*(i-n)+3:Nat):Int):=by rw[az aa aa];omega
  have k0:4*(i-n)<w.length:=aa;have k1:4*(i-n)<4*i:=aa;have k2:((4*(i-n):Nat):Int)<((4*i:Nat):Int):=aa;have k3:(0:Int)<=((4*(i-n):Nat):Int):=aa;have g0:w.getD (4*(i-n)) 0=x0:=hfa 0 ah;have hG:∀ k,k<4->∀ ys:List (BitVec 8),(List.map V.u8 (w++ys)).getD (4*(i-n)+k) .junk= .u8 ([x0,x1,x2,x3].getD k 0):=by
   intro k hk ys;have hlt:4*(i-n)+k<w.length:=aa;rw[iV (by rw[aE];omega),aW,gh hlt,<-aW,hfa k hk]
  have g1:=hG 1 ah;have g2:=hG 2 ah;have g3:=hG 3 ah;have htk:w.take (4*i)=w:=ar aa;have k4:4*(i-n)+1<4*i:=aa;have k5:4*(i-n)+2<4*i:=aa;have k6:4*(i-n)+3<4*i:=aa;by_cases hm0:i%n=0
  ·have hm0':((i%n:Nat):Int)=0:=aa;have hq:(i-1)/n=i/n-1:=by rcases hn with rfl|rfl<;>omega
   have hq1:i/n=(i/n-1)+1:=by rcases hn with rfl|rfl<;>omega
   have hp:p2 (i/n)=jZ (p2 (i/n-1)) 2#8:=by rw[hq1];rfl
   have hg:gW n i [a,b,c,d]=[dc b ^^^ p2 (i/n-1),dc c,dc d,dc a]:=by unfold gW;rw[if_pos hm0];simp[tS,bj]
   rw[hq];simp only[go_sem,↓reduceIte,Nat.reduceEqDiff,Nat.reduceLT,Nat.reduceAdd,Int.reduceLT,Int.reduceToNat,reduceCtorEq,e1,e2,hiN',hfl,z1,z2,z4,z6,z7,n0,tm,hm0',hd,yl];refine dz 4 ?_;simp only[go_sem,↓reduceIte,Nat.reduceEqDiff,Nat.reduceLT,Nat.reduceLeDiff,Nat.reduceAdd,Nat.reduceSub,Int.reduceLE,Int.reduceLT,Int.reduceToNat,Int.reduceAdd,Int.reduceNeg,BitVec.reduceOfInt,reduceCtorEq,hT',hb1,hb2,hb3,hTl];refine⟨ac,ac,ac,?_⟩;refine au (rF _ _) ?_;simp only[go_sem,↓reduceIte,Nat.reduceEqDiff,Nat.reduceLT,Nat.reduceAdd,<-hp];refine dz 5 ?_;simp only[go_sem,↓reduceIte,Nat.reduceEqDiff,Nat.reduceLT,Nat.reduceLeDiff,Nat.reduceAdd,Nat.reduceSub,Int.reduceLE,Int.reduceLT,Int.reduceToNat,Int.reduceAdd,Int.reduceNeg,reduceCtorEq,y0,y1,y2,y3,y4,y5,k1,k2,k3,iV k0,g0,hfl,dV,g1,g2,g3,ar];refine⟨⟨aa,aa⟩,⟨aa,aa⟩,aa,⟨aa,aa⟩,⟨aa,aa⟩,aa,⟨aa,aa⟩,⟨aa,aa⟩,aa,⟨aa,aa⟩,?_⟩;refine fZ (j-1) ⟨[(0,.ptr 0 0),(5,.i64 n),(6,.slice 1 0 (4*(i+1:Nat)) 1),(7,.u8 (p2 (((i+1:Nat)-1)/n))),(8,.i64 (i+1:Nat))],[bK (T.map .u8),bK ((wl key n (i+1:Nat)).flatten.map .u8)]⟩ [0,10] aa rfl ae rfl ah ?_ ?_ ⟨i+1,aa,aa,rfl⟩
   ·rw[show(i+1-1)/n=i/n by rw[yY]];simp[dJ,St.get,aj,hw1,hp,km,-List.map_map,-List.map_set]
   ·rw[hs1,hg];simp[bj,-List.map_map,-List.map_set]
  ·have hm0':¬ ((i%n:Nat):Int)=0:=aa;have hq:(i-1)/n=i/n:=by rcases hn with rfl|rfl<;>omega
   rw[hq];by_cases hn8:n=8
   ·have hn8':((n:Int)=8)=True:=eq_true aa;by_cases h4:i%n=4
    ·have h4':((i%n:Nat):Int)=4:=aa;have hg:gW n i [a,b,c,d]=[dc a,dc b,dc c,dc d]:=by unfold gW;rw[if_neg hm0,if_pos ⟨hn8,hn8▸h4⟩];simp[tS]
     simp only[go_sem,↓reduceIte,Nat.reduceEqDiff,Nat.reduceLT,Nat.reduceAdd,Int.reduceEq,reduceCtorEq,e1,e2,hiN',hfl,z1,z2,z4,z6,z7,n0,tm,hd,yl,hn8',h4'];refine dz 5 ?_;simp only[go_sem,↓reduceIte,Nat.reduceEqDiff,Nat.reduceLT,Nat.reduceLeDiff,Nat.reduceAdd,Nat.reduceSub,Int.reduceLE,Int.reduceLT,Int.reduceToNat,Int.reduceAdd,Int.reduceNeg,reduceCtorEq,hT',hb1,hb2,hb3,hTl];refine dz 5 ?_;simp only[go_sem,↓reduceIte,Nat.reduceEqDiff,Nat.reduceLT,Nat.reduceLeDiff,Nat.reduceAdd,Nat.reduceSub,Int.reduceLE,Int.reduceLT,Int.reduceToNat,Int.reduceAdd,Int.reduceNeg,reduceCtorEq,y0,y1,y2,y3,y4,y5,k1,k2,k3,iV k0,g0,hfl,dV,g1,g2,g3,ar];refine⟨⟨aa,aa⟩,⟨aa,aa⟩,aa,⟨aa,aa⟩,⟨aa,aa⟩,aa,⟨aa,aa⟩,⟨aa,aa⟩,aa,⟨aa,aa⟩,?_⟩;refine fZ (j-1) ⟨[(0,.ptr 0 0),(5,.i64 n),(6,.slice 1 0 (4*(i+1:Nat)) 1),(7,.u8 (p2 (((i+1:Nat)-1)/n))),(8,.i64 (i+1:Nat))],[bK (T.map .u8),bK ((wl key n (i+1:Nat)).flatten.map .u8)]⟩ [0,10] aa rfl ae rfl ah ?_ ?_ ⟨i+1,aa,aa,rfl⟩
     ·rw[show(i+1-1)/n=i/n by rw[yY]];simp[dJ,St.get,aj,hw1,ig,km,-List.map_map,-List.map_set]
     ·rw[hs1,hg];simp[bj,-List.map_map,-List.map_set]
    ·have h4':¬ ((i%n:Nat):Int)=4:=aa;have hg:gW n i [a,b,c,d]=[a,b,c,d]:=by unfold gW;rw[if_neg hm0,if_neg (fun h=>h4 (by rw[hn8];exact h.2))]
     simp only[go_sem,↓reduceIte,Nat.reduceEqDiff,Nat.reduceLT,Nat.reduceAdd,reduceCtorEq,e1,e2,hiN',hfl,z1,z2,z4,z6,z7,n0,tm,hm0',hd,yl,hn8',h4'];refine dz 5 ?_;simp only[go_sem,↓reduceIte,Nat.reduceEqDiff,Nat.reduceLT,Nat.reduceLeDiff,Nat.reduceAdd,Nat.reduceSub,Int.reduceLE,Int.reduceLT,Int.reduceToNat,Int.reduceAdd,Int.reduceNeg,reduceCtorEq,y0,y1,y2,y3,y4,y5,k1,k2,k3,iV k0,g0,hfl,dV,g1,g2,g3,ar];refine⟨⟨aa,aa⟩,⟨aa,aa⟩,aa,⟨aa,aa⟩,⟨aa,aa⟩,aa,⟨aa,aa⟩,⟨aa,aa⟩,aa,⟨aa,aa⟩,?_⟩;refine fZ (j-1) ⟨[(0,.ptr 0 0),(5,.i64 n),(6,.slice 1 0 (4*(i+1:Nat)) 1),(7,.u8 (p2 (((i+1:Nat)-1)/n))),(8,.i64 (i+1:Nat))],[bK (T.map .u8),bK ((wl key n (i+1:Nat)).flatten.map .u8)]⟩ [0,10] aa rfl ae rfl ah ?_ ?_ ⟨i+1,aa,aa,rfl⟩
     ·rw[show(i+1-1)/n=i/n by rw[yY]];simp[dJ,St.get,aj,hw1,ig,km,-List.map_map,-List.map_set]
     ·rw[hs1,hg];simp[bj,-List.map_map,-List.map_set]
   ·have hn8':¬ (n:Int)=8:=aa;have hg:gW n i [a,b,c,d]=[a,b,c,d]:=by unfold gW;rw[if_neg hm0,if_neg (fun h=>hn8 h.1)]
    simp only[go_sem,↓reduceIte,Nat.reduceEqDiff,Nat.reduceLT,Nat.reduceAdd,reduceCtorEq,e1,e2,hiN',hfl,z1,z2,z4,z6,z7,n0,tm,hm0',hd,yl,hn8'];refine dz 5 ?_;simp only[go_sem,↓reduceIte,Nat.reduceEqDiff,Nat.reduceLT,Nat.reduceLeDiff,Nat.reduceAdd,Nat.reduceSub,Int.reduceLE,Int.reduceLT,Int.reduceToNat,Int.reduceAdd,Int.reduceNeg,reduceCtorEq,y0,y1,y2,y3,y4,y5,k1,k2,k3,iV k0,g0,hfl,dV,g1,g2,g3,ar];refine⟨⟨aa,aa⟩,⟨aa,aa⟩,aa,⟨aa,aa⟩,⟨aa,aa⟩,aa,⟨aa,aa⟩,⟨aa,aa⟩,aa,⟨aa,aa⟩,?_⟩;refine fZ (j-1) ⟨[(0,.ptr 0 0),(5,.i64 n),(6,.slice 1 0 (4*(i+1:Nat)) 1),(7,.u8 (p2 (((i+1:Nat)-1)/n))),(8,.i64 (i+1:Nat))],[bK (T.map .u8),bK ((wl key n (i+1:Nat)).flatten.map .u8)]⟩ [0,10] aa rfl ae rfl ah ?_ ?_ ⟨i+1,aa,aa,rfl⟩
    ·rw[show(i+1-1)/n=i/n by rw[yY]];simp[dJ,St.get,aj,hw1,ig,km,-List.map_map,-List.map_set]
    ·rw[hs1,hg];simp[bj,-List.map_map,-List.map_set]
 ·obtain rfl:i=N:=aa;have hiN':¬ (i:Int)<(i:Int):=aa;simp only[go_sem,↓reduceIte,Nat.reduceEqDiff,Nat.reduceLT,reduceCtorEq,e1,e2,hiN',hfl,ar];exact Fin.ren [0] ae ae aZ ah ae ae
theorem ac3 (key:List (BitVec 8)):aG prog 249 [.str key] (.bool (decide (key.length=16\/key.length=32))):=by
 by_cases a:key.length=16
 ·have h1:(key.length:Int)=16:=aa;have b:decide (key.length=16\/key.length=32)=true:=by simp[a]
  rw[b];refine aQ ac (fn:=f249) ac func249 rfl am (by simp[af,V.low]) (by simp[V.low]) (ak ?_);simp only[go_sem,seval,ntmps249,results249,h1]
 ·have h1:¬ (key.length:Int)=16:=aa;by_cases c:key.length=32
  ·have h2:(key.length:Int)=32:=aa;have d:¬ (32:Int)=16:=ah;have b:decide (key.length=16\/key.length=32)=true:=by simp[c]
   rw[b];refine aQ ac (fn:=f249) ac func249 rfl am (by simp[af,V.low]) (by simp[V.low]) (ak ?_);simp only[go_sem,seval,ntmps249,results249,h2,d]
  ·have h2:¬ (key.length:Int)=32:=aa;have b:decide (key.length=16\/key.length=32)=false:=by simp[a,c]
   rw[b];refine aQ ac (fn:=f249) ac func249 rfl am (by simp[af,V.low]) (by simp[V.low]) (ak ?_);simp only[go_sem,seval,ntmps249,results249,h1,h2]
end Go.Vm
end
section
namespace Go.Vm
open Go.Proofs Go.RowKit
theorem DV (s k:List (BitVec 8))(a:s.length=16)(f:16<=k.length)(d:k.length<=1000):aq Tryz.prog 262 [.ptr 0 0,.str k] [bK (s.map .u8)] (.tup []) [bK ((bj s k).map .u8)]:=by
 have e:=Ap s k aa aa;have b:(bj s k).length=16:=by rw[jU];omega
 have c:splice (s.map V.u8) 0 (List.take 16 (List.map V.u8 (bj s k)))=(bj s k).map V.u8:=by rw[ar (by rw[ba,b];exact aH _),bL _ _ (by rw[ba,ba,b,a])]
 refine bf ac (fn:=Tryz.f262) Tryz.func262 rfl am (ak ?_);simp only[go_sem,seval,Tryz.ntmps262,a,ar];refine aX (e) ?_;simp only[go_sem,seval,b,a];refine⟨ac,?_⟩;exact Fin.ren [0] ae ae aZ ah ae (by simp[c])
def hY (a b:List (BitVec 8))(i:Nat):List (BitVec 8):=a.take i++b.drop i
theorem CQ (a b:List (BitVec 8))(i:Nat)(h:a.length=b.length):(hY a b i).length=b.length:=by
 unfold hY;rw[aE,br,bU];omega
theorem Dm (a b:List (BitVec 8))(i:Nat)(h:a.length=b.length)(hi:i<b.length):(hY a b i).set i (a.getD i 0)=hY a b (i+1):=by
 unfold hY;rw[ou _ _ (by rw[br];omega),br,show i-min i a.length=0 by omega,sO hi,iI,u9 aa,dV];rfl
theorem afQ (a b:List (BitVec 8))(i k:Nat)(h:a.length=b.length)(d:i<=k)(c:k<b.length):(hY a b i).getD k 0=b.getD k 0:=by
 unfold hY;rw[aW,dL (by rw[br];omega),br,il,show i+(k-min i a.length)=k by omega,<-aW]
theorem Da (a b:List (BitVec 8))(h:a.length=b.length):hY a b b.length=a:=by
 unfold hY;rw[List.drop_length,iw,<-h,o0]
theorem aah (f:BitVec 8->BitVec 8)(s:List (BitVec 8))(i:Nat)(h:i<s.length):(s.map f).getD i 0=f (s.getD i 0):=by
 rw[aW,aW,ci,aF h];rfl
theorem V7 (s T:List (BitVec 8))(o:Nat)(f:BitVec 8→BitVec 8)(hs:s.length=16)(hT:T.length=512)(ho:o≤256)(hf:∀ b:BitVec 8,T.getD (o+b.toNat) 0=f b):aq Tryz.prog 263 [.ptr 0 0,.ptr 1 o] [some ⟨false,s.map .u8,none⟩,some ⟨false,T.map .u8,none⟩] (.tup []) [some ⟨false,(s.map f).map .u8,none⟩,some ⟨false,T.map .u8,none⟩]:=by
 have hf':∀ b:BitVec 8,(T.map V.u8).getD (o+b.toNat) .junk= .u8 (f b):=fun b=>by rw[iV (by have :=b.isLt;omega),hf]
 have hb1:∀ b:BitVec 8,(b.toNat:Int)<256:=fun b=>by have :=b.isLt;omega
 have hb2:∀ b:BitVec 8,(0:Int)≤(b.toNat:Int):=fun b=>by omega
 have hb3:∀ b:BitVec 8,o+b.toNat<512:=fun b=>by have :=b.isLt;omega
 have hml:(s.map f).length=s.length:=List.length_map ..
 refine bf (by kernel_rfl) (fn:=Tryz.f263) Tryz.func263 rfl (by show 2≤23;decide) (ak ?_)
 simp only[go_sem,↓reduceIte,Nat.reduceLT,Nat.reduceAdd,Tryz.ntmps263]
 refine bq (fun ji st=>∃ i:Nat,i+ji=16∧st=⟨[(0,.ptr 0 0),(1,.ptr 1 o),(6,.ptr 0 0),(7,.i64 i)],[some ⟨false,(hY (s.map f) s i).map .u8,none⟩,some ⟨false,T.map .u8,none⟩]⟩) ?_ ?_
 ·exact bJ (16) ⟨[(0,.ptr 0 0),(1,.ptr 1 o),(6,.ptr 0 0),(7,.i64 (0:Nat))],[some ⟨false,(hY (s.map f) s (0:Nat)).map .u8,none⟩,some ⟨false,T.map .u8,none⟩]⟩ (by simp[St.get,aj,-List.map_set,-List.map_map]) rfl (fun _ _ h=>h) ⟨0,by omega,rfl⟩
 rintro ji st ⟨i,hi,rfl⟩ _
 simp only[go_sem,↓reduceIte,Nat.reduceEqDiff,Nat.reduceLT,Nat.reduceAdd,reduceCtorEq]
 have hl:=CQ (s.map f) s i hml
 rw[hs] at hl
 by_cases h0:i<16
 ·have h0':(i:Int)<16:=by omega
  have zi:(0:Int)≤(i:Int):=by omega
  have ki:i<(hY (s.map f) s i).length:=by omega
  have ha:=afQ (s.map f) s i i hml (Nat.le_refl _) (by omega)
  have hn:=Dm (s.map f) s i hml (by omega)
  rw[aah f s i (by omega)] at hn
  simp only[go_sem,↓reduceIte,Nat.reduceEqDiff,Nat.reduceLT,Nat.reduceLeDiff,Nat.reduceAdd,reduceCtorEq,h0',h0,zi,hl,hT,iV ki,ha,hf',hb1,hb2,hb3,hn]
  refine⟨by kernel_rfl,by omega,by kernel_rfl,?_⟩
  refine bx (ji-1) ⟨[(0,.ptr 0 0),(1,.ptr 1 o),(6,.ptr 0 0),(7,.i64 (i+1:Nat))],[some ⟨false,(hY (s.map f) s (i+1:Nat)).map .u8,none⟩,some ⟨false,T.map .u8,none⟩]⟩ (by omega) ?_ rfl (fun _ _ h=>h) ⟨i+1,by omega,rfl⟩
  have hw1:ao ((i:Int)+1)=((i+1:Nat):Int):=by rw[az (by omega) (by omega)];omega
  simp[St.get,aj,hw1,-List.map_set,-List.map_map]
 ·obtain rfl:i=16:=by omega
  have h0':¬ ((16:Nat):Int)<16:=by omega
  have he:=Da (s.map f) s hml
  rw[hs] at he
  simp only[go_sem,↓reduceIte,Int.reduceLT,he]
  exact Fin.ren [0,1] (by simp) (by simp) (by rfl) (by decide) (by simp[-List.map_map,-List.map_set]) (by simp[-List.map_map,-List.map_set])
def uV (f:Nat->BitVec 8):List (BitVec 8):=(List.range 16).map f
theorem yv (f:Nat->BitVec 8):(uV f).length=16:=by unfold uV;rw[ba,xx]
theorem HF (f:Nat->BitVec 8)(i:Nat)(h:i<16):(uV f).getD i 0=f i:=by
 unfold uV;rw[aW,ci,nB h];rfl
def gH (k:Nat)(s:List (BitVec 8)):List (BitVec 8):=uV fun i=>s.getD (i%4+4*((i/4+k*(i%4))%4)) 0
theorem abm (s:List (BitVec 8))(k:Nat)(a:s.length=16)(p:k<=3):aq Tryz.prog 264 [.ptr 0 0,.i64 k] [bK (s.map .u8)] (.tup []) [bK ((gH k s).map .u8)]:=by
 have b:(gH k s).length=s.length:=by rw[a];exact yv _
 have e:∀ z:List V,z.length=16->splice z 0 (s.map V.u8)=s.map V.u8:=fun z r=>bL _ _ (by rw[ba,a,r])
 have c:=e [.u8 0#8,.u8 0#8,.u8 0#8,.u8 0#8,.u8 0#8,.u8 0#8,.u8 0#8,.u8 0#8,.u8 0#8,.u8 0#8,.u8 0#8,.u8 0#8,.u8 0#8,.u8 0#8,.u8 0#8,.u8 0#8] rfl;have f:List.take 16 (s.map V.u8)=s.map V.u8:=ar (by rw[ba,a];exact aH _);refine bf ac (fn:=Tryz.f264) Tryz.func264 rfl am (ak ?_);simp only[go_sem,↓reduceIte,Nat.reduceEqDiff,Nat.reduceLT,Nat.reduceAdd,Tryz.ntmps264,a,f,c];refine bq (fun g st=>∃ i:Nat,i+g=16/\st=⟨[(0,.ptr 0 0),(1,.i64 k),(4,.ptr 1 0),(11,.i64 i)],[bK ((hY (gH k s) s i).map .u8),bK (s.map .u8)]⟩) ?_ ?_
 ·exact bJ (16) ⟨[(0,.ptr 0 0),(1,.i64 k),(4,.ptr 1 0),(11,.i64 (0:Nat))],[bK ((hY (gH k s) s (0:Nat)).map .u8),bK (s.map .u8)]⟩ (by simp[St.get,aj,-List.map_set,-List.map_map]) rfl (fun _ _ h=>h) ⟨0,aa,rfl⟩
 rintro g st ⟨i,hi,rfl⟩ _;simp only[go_sem,↓reduceIte,Nat.reduceEqDiff,Nat.reduceLT,Nat.reduceAdd,Int.reduceEq,reduceCtorEq];have m:=CQ (gH k s) s i b;rw[a] at m;by_cases h0:i<16
 ·have d:(i:Int)<16:=aa;have t:(0:Int)<=(i:Int):=aa;have u:k*(i%4)<=3*3:=nJ p aa;have n:=Dm (gH k s) s i b aa;have t1:(i:Int).tmod 4=((i%4:Nat):Int):=rfl;have t2:(i:Int).tdiv 4=((i/4:Nat):Int):=rfl;have j:ao ((i/4:Nat):Int)=((i/4:Nat):Int):=by rw[az aa aa]
  have t3:ao ((k:Int)*((i%4:Nat):Int))=((k*(i%4):Nat):Int):=by rw[show(k:Int)*((i%4:Nat):Int)=((k*(i%4):Nat):Int) from rfl,az aa aa]
  have t4:ao (((i/4:Nat):Int)+((k*(i%4):Nat):Int))=((i/4+k*(i%4):Nat):Int):=by rw[az aa aa];omega
  have t5:((i/4+k*(i%4):Nat):Int).tmod 4=(((i/4+k*(i%4))%4:Nat):Int):=rfl;generalize v:(i/4+k*(i%4))%4=q at*;have t6:ao (4*(q:Int))=((4*q:Nat):Int):=by rw[az aa aa];omega
  have t7:ao (((i%4:Nat):Int)+((4*q:Nat):Int))=((i%4+4*q:Nat):Int):=by rw[az aa aa];omega
  have w:(0:Int)<=((i%4+4*q:Nat):Int):=aa;have z2:((i%4+4*q:Nat):Int)<16:=aa;have z3:i%4+4*q<16:=aa;have z4:i%4+4*q<s.length:=aa;have x:(gH k s).getD i 0=s.getD (i%4+4*q) 0:=by unfold gH;rw[HF _ i h0,v]
  rw[x] at n;simp only[go_sem,↓reduceIte,Nat.reduceEqDiff,Nat.reduceLT,Nat.reduceLeDiff,Nat.reduceAdd,reduceCtorEq,d,t,m,a,t1,t2,j,t3,t4,t5,t6,t7,w,z2,z3,iV z4,n];refine⟨aa,ac,?_⟩;refine bx (g-1) ⟨[(0,.ptr 0 0),(1,.i64 k),(4,.ptr 1 0),(11,.i64 (i+1:Nat))],[bK ((hY (gH k s) s (i+1:Nat)).map .u8),bK (s.map .u8)]⟩ aa ?_ rfl (fun _ _ h=>h) ⟨i+1,aa,rfl⟩;have l:ao ((i:Int)+1)=((i+1:Nat):Int):=by rw[az aa aa];omega
  simp[St.get,aj,l,-List.map_set,-List.map_map]
 ·obtain rfl:i=16:=aa;have d:¬ ((16:Nat):Int)<16:=aa;have o:=Da (gH k s) s b;rw[a] at o;simp only[go_sem,↓reduceIte,Int.reduceLT,o];exact Fin.ren [0] ae ae aZ ah ae ae
def mp (m s:List (BitVec 8))(i k:Nat):BitVec 8:=jZ (m.getD ((k+4-i%4)%4) 0) (s.getD (4*(i/4)+k) 0)
def jd (m s:List (BitVec 8)):List (BitVec 8):=uV fun i=>0#8 ^^^ mp m s i 0 ^^^ mp m s i 1 ^^^ mp m s i 2 ^^^ mp m s i 3
theorem aca (l:List (BitVec 8))(i:Nat)(x:BitVec 8)(h:i<l.length):(l.set i x).getD i 0=x:=by
 rw[aW,kL h];rfl
theorem ago (s:List (BitVec 8))(m:List (BitVec 8))(b:s.length=16)(g:m.length=4):aq Tryz.prog 265 [.ptr 0 0,.agg (m.map .u8)] [bK (s.map .u8)] (.tup []) [bK ((jd m s).map .u8)]:=by
 have c:(jd m s).length=s.length:=by rw[b];exact yv _
 have e:splice [.u8 0#8,.u8 0#8,.u8 0#8,.u8 0#8,.u8 0#8,.u8 0#8,.u8 0#8,.u8 0#8,.u8 0#8,.u8 0#8,.u8 0#8,.u8 0#8,.u8 0#8,.u8 0#8,.u8 0#8,.u8 0#8] 0 (s.map V.u8)=s.map V.u8:=bL _ _ (by rw[ba,b];rfl);have q:List.take 16 (s.map V.u8)=s.map V.u8:=ar (by rw[ba,b];exact aH _);refine bf ac (fn:=Tryz.f265) Tryz.func265 rfl am (ak ?_);simp only[go_sem,↓reduceIte,Nat.reduceEqDiff,Nat.reduceLT,Nat.reduceAdd,reduceCtorEq,Tryz.ntmps265,b,q,e];refine bq (fun r st=>∃ i:Nat,i+r=16/\st=⟨[(0,.ptr 0 0),(3,.ptr 1 0),(4,.ptr 2 0),(12,.i64 i)],[bK ((hY (jd m s) s i).map .u8),bK (m.map .u8),bK (s.map .u8)]⟩) ?_ ?_
 ·exact bJ (16) ⟨[(0,.ptr 0 0),(3,.ptr 1 0),(4,.ptr 2 0),(12,.i64 (0:Nat))],[bK ((hY (jd m s) s (0:Nat)).map .u8),bK (m.map .u8),bK (s.map .u8)]⟩ (by simp[St.get,aj,-List.map_set,-List.map_map]) rfl (fun _ _ h=>h) ⟨0,aa,rfl⟩
 rintro r st ⟨i,hi,rfl⟩ _;simp only[go_sem,↓reduceIte,Nat.reduceEqDiff,Nat.reduceLT,Int.reduceLT,Int.reduceEq,BitVec.reduceOfInt,reduceCtorEq];have d:=CQ (jd m s) s i c;rw[b] at d;by_cases h0:i<16
 ·have a:(i:Int)<16:=aa;have y:(0:Int)<=(i:Int):=aa;have v:=Dm (jd m s) s i c aa;have t1:(i:Int).tmod 4=((i%4:Nat):Int):=rfl;have t2:(i:Int).tdiv 4=((i/4:Nat):Int):=rfl;have t:ao ((i/4:Nat):Int)=((i/4:Nat):Int):=by rw[az aa aa]
  have z:(jd m s).getD i 0=0#8 ^^^ mp m s i 0 ^^^ mp m s i 1 ^^^ mp m s i 2 ^^^ mp m s i 3:=by unfold jd;rw[HF _ i h0]
  rw[z] at v;have a0:ao ((0:Int)-((i%4:Nat):Int))=(0:Int)-((i%4:Nat):Int):=az aa aa;have A:ao ((0:Int)-((i%4:Nat):Int)+4)=((4-i%4:Nat):Int):=by rw[az aa aa];omega
  have c0:ao (((4*(i/4):Nat):Int)+0)=((4*(i/4):Nat):Int):=by rw[az aa aa];omega
  have w0:(((4*(i/4):Nat):Int)<16)=True:=eq_true aa;have x0:(4*(i/4)<16)=True:=eq_true aa;have B:(s.map V.u8).getD (4*(i/4)) .junk= .u8 (s.getD (4*(i/4)) 0):=iV aa;have C:jZ (m.getD ((4-i%4)%4) 0) (s.getD (4*(i/4)) 0)=mp m s i 0:=rfl;have D:ao ((1:Int)-((i%4:Nat):Int))=(1:Int)-((i%4:Nat):Int):=az aa aa;have E:ao ((1:Int)-((i%4:Nat):Int)+4)=((5-i%4:Nat):Int):=by rw[az aa aa];omega
  have F:ao (((4*(i/4):Nat):Int)+1)=((4*(i/4)+1:Nat):Int):=by rw[az aa aa];omega
  have w1:(((4*(i/4)+1:Nat):Int)<16)=True:=eq_true aa;have G:(4*(i/4)+1<16)=True:=eq_true aa;have H:(s.map V.u8).getD (4*(i/4)+1) .junk= .u8 (s.getD (4*(i/4)+1) 0):=iV aa;have I:jZ (m.getD ((5-i%4)%4) 0) (s.getD (4*(i/4)+1) 0)=mp m s i 1:=rfl;have a2:ao ((2:Int)-((i%4:Nat):Int))=(2:Int)-((i%4:Nat):Int):=az aa aa;have J:ao ((2:Int)-((i%4:Nat):Int)+4)=((6-i%4:Nat):Int):=by rw[az aa aa];omega
  have K:ao (((4*(i/4):Nat):Int)+2)=((4*(i/4)+2:Nat):Int):=by rw[az aa aa];omega
  have L:(((4*(i/4)+2:Nat):Int)<16)=True:=eq_true aa;have x2:(4*(i/4)+2<16)=True:=eq_true aa;have M:(s.map V.u8).getD (4*(i/4)+2) .junk= .u8 (s.getD (4*(i/4)+2) 0):=iV aa;have p2:jZ (m.getD ((6-i%4)%4) 0) (s.getD (4*(i/4)+2) 0)=mp m s i 2:=rfl;have a3:ao ((3:Int)-((i%4:Nat):Int))=(3:Int)-((i%4:Nat):Int):=az aa aa;have N:ao ((3:Int)-((i%4:Nat):Int)+4)=((7-i%4:Nat):Int):=by rw[az aa aa];omega
  have O:ao (((4*(i/4):Nat):Int)+3)=((4*(i/4)+3:Nat):Int):=by rw[az aa aa];omega
  have P:(((4*(i/4)+3:Nat):Int)<16)=True:=eq_true aa;have x3:(4*(i/4)+3<16)=True:=eq_true aa;have Q:(s.map V.u8).getD (4*(i/4)+3) .junk= .u8 (s.getD (4*(i/4)+3) 0):=iV aa;have p3:jZ (m.getD ((7-i%4)%4) 0) (s.getD (4*(i/4)+3) 0)=mp m s i 3:=rfl;have r3:∀ k:Nat,((k:Nat):Int).tmod 4=((k%4:Nat):Int):=fun k=>rfl
  have j:ao (4*((i/4:Nat):Int))=((4*(i/4):Nat):Int):=by rw[az aa aa];omega
  have l:∀ k:Nat,(((k%4:Nat):Int)<4)=True:=fun k=>eq_true aa
  have f:∀ k:Nat,((0:Int)<=(k:Int))=True:=fun k=>eq_true aa
  have n:∀ k:Nat,(k%4<4)=True:=fun k=>eq_true aa
  have o:∀ k:Nat,(m.map V.u8).getD (k%4) .junk= .u8 (m.getD (k%4) 0):=fun k=>iV aa
  have p:∀ x:BitVec 8,(((hY (jd m s) s i).set i x).map V.u8).getD i .junk= .u8 x:=fun x=>by rw[iV (by rw[aY];omega),aca _ _ _ aa]
  simp only[go_sem,↓reduceIte,Nat.reduceLeDiff,a,y,d,t1,t2,t];refine⟨aa,dz 5 ?_⟩;simp only[go_sem,↓reduceIte,Nat.reduceEqDiff,Nat.reduceLT,Nat.reduceAdd,Nat.reduceSub,Int.reduceLT,Int.reduceEq,reduceCtorEq,a0,A,c0,w0,x0,B,r3,j,l,f,n,o,p,d,a,h0,b,g];refine aX (rF _ _) ?_;simp only[go_sem,↓reduceIte,Nat.reduceEqDiff,Nat.reduceLT,Nat.reduceLeDiff,Nat.reduceAdd,Nat.reduceSub,Int.reduceLE,Int.reduceLT,Int.reduceAdd,Int.reduceEq,Int.reduceNeg,reduceCtorEq,C,D,E,F,w1,G,H,r3,j,l,f,n,o,p,iX,d,a,h0,b,g];refine⟨aa,ac,?_⟩;refine aX (rF _ _) ?_;simp only[go_sem,↓reduceIte,Nat.reduceEqDiff,Nat.reduceLT,Nat.reduceLeDiff,Nat.reduceAdd,Nat.reduceSub,Int.reduceLE,Int.reduceLT,Int.reduceAdd,Int.reduceEq,Int.reduceNeg,reduceCtorEq,I,a2,J,K,L,x2,M,r3,j,l,f,n,o,p,iX,d,a,h0,b,g];refine⟨aa,ac,?_⟩;refine aX (rF _ _) ?_;simp only[go_sem,↓reduceIte,Nat.reduceEqDiff,Nat.reduceLT,Nat.reduceLeDiff,Nat.reduceAdd,Nat.reduceSub,Int.reduceLE,Int.reduceLT,Int.reduceAdd,Int.reduceEq,Int.reduceNeg,reduceCtorEq,p2,a3,N,O,P,x3,Q,r3,j,l,f,n,o,p,iX,d,a,h0,b,g];refine⟨aa,ac,?_⟩;refine aX (rF _ _) ?_;simp only[go_sem,↓reduceIte,Nat.reduceEqDiff,Nat.reduceLT,Nat.reduceLeDiff,Nat.reduceAdd,Nat.reduceSub,Int.reduceLE,Int.reduceLT,Int.reduceAdd,Int.reduceNeg,reduceCtorEq,p3,f,v,iX,d,a];refine⟨aa,ac,?_⟩;refine bx (r-1) ⟨[(0,.ptr 0 0),(3,.ptr 1 0),(4,.ptr 2 0),(12,.i64 (i+1:Nat))],[bK ((hY (jd m s) s (i+1:Nat)).map .u8),bK (m.map .u8),bK (s.map .u8)]⟩ aa ?_ rfl (fun _ _ h=>h) ⟨i+1,aa,rfl⟩;have u:ao ((i:Int)+1)=((i+1:Nat):Int):=by rw[az aa aa];omega
  simp[St.get,aj,u,-List.map_set,-List.map_map]
 ·obtain rfl:i=16:=aa;have a:¬ ((16:Nat):Int)<16:=aa;have w:=Da (jd m s) s c;rw[b] at w;simp only[go_sem,↓reduceIte,Int.reduceLT,w];exact Fin.ren [0] ae ae aZ ah ae ae
end Go.Vm
end
section
namespace Go.Vm
open Go.Proofs Go.Proofs.Tryz
def dK (t K:List (BitVec 8))(R:Nat):Nat->List (BitVec 8)
 |0=>bj t K
 |i+1=>
  let s:=gH 1 ((dK t K R i).map dc)
  bj (if i+2<R then jd [2#8,3#8,1#8,1#8] s else s) (K.drop (16*(i+1)))
theorem C7 (k:Nat)(s:List (BitVec 8)):(gH k s).length=16:=yv _
theorem GJ (m s:List (BitVec 8)):(jd m s).length=16:=yv _
theorem A7 (t K:List (BitVec 8))(R:Nat)(a:t.length=16)(b:K.length=16*R)(i:Nat)(c:i<R):(dK t K R i).length=16:=by
 cases i with
 |zero=>rw[dK,jU];omega
 |succ i=>
  rw[dK];have h1:(if i+2<R then jd [2#8,3#8,1#8,1#8] (gH 1 ((dK t K R i).map dc)) else gH 1 ((dK t K R i).map dc)).length=16:=by
   split
   ·exact GJ _ _
   ·exact C7 _ _
  rw[jU,h1,bU];omega
theorem FX (t K T:List (BitVec 8))(R:Nat)(ht:t.length=16)(hR:2<=R)(hR2:R<=20)(hK:K.length=16*R)(hT:T.length=512)(hf:∀ b:BitVec 8,T.getD (0+b.toNat) 0=dc b):aq prog 253 [.ptr 0 0,.str t] [bK [.ptr 1 0,.str K],bK (T.map .u8)] (.str (dK t K R (R-1))) [bK [.ptr 1 0,.str K],bK (T.map .u8)]:=by
 have h0:=DV t K ht aa aa;have hsp:splice [.u8 0#8,.u8 0#8,.u8 0#8,.u8 0#8,.u8 0#8,.u8 0#8,.u8 0#8,.u8 0#8,.u8 0#8,.u8 0#8,.u8 0#8,.u8 0#8,.u8 0#8,.u8 0#8,.u8 0#8,.u8 0#8] 0 (t.map V.u8)=t.map V.u8:=bL _ _ (by rw[ba,ht];rfl);have htk:List.take 16 (t.map V.u8)=t.map V.u8:=ar (by rw[ba,ht];exact aH _);have h16:(16:Int)<=(K.length:Int):=aa;refine bf ac (fn:=f253) func253 rfl am (ak ?_);simp only[go_sem,seval,ntmps253,ht,hsp,htk];refine aS [3] (h0) ac ae rfl ae aM ae ae ae ae ae ?_;simp only[go_sem,seval];refine⟨h16,?_⟩;refine bq (fun j st=>∃ i:Nat,i+j=R-1/\st=⟨[(0,.ptr 0 0),(5,.str (K.drop (16*(i+1)))),(6,.ptr 2 0)],[bK [.ptr 1 0,.str K],bK (T.map .u8),bK ((dK t K R i).map .u8)]⟩) ?_ ?_
 ·exact Gc (R-1) ⟨[(0,.ptr 0 0),(5,.str (K.drop (16*(0+1)))),(6,.ptr 2 0)],[bK [.ptr 1 0,.str K],bK (T.map .u8),bK ((dK t K R 0).map .u8)]⟩ [0,1,3] rfl ae rfl ah (by simp[dJ,St.get,aj,-List.map_map,-List.map_set]) (by simp[dK,-List.map_map,-List.map_set]) ⟨0,aa,rfl⟩
 rintro j st ⟨i,hi,rfl⟩ _;have hel:=A7 t K R ht hK i aa;have hdl:(K.drop (16*(i+1))).length=16*(R-(i+1)):=by rw[bU];omega
 have hdd:(K.drop (16*(i+1))).drop 16=K.drop (16*(i+1+1)):=by rw[hO];rfl
 by_cases hl:i<R-1
 ·obtain⟨D,hD⟩:∃ D,D=K.drop (16*(i+1)):=⟨_,rfl⟩;have hes:dK t K R (i+1)=bj (if i+2<R then jd [2#8,3#8,1#8,1#8] (gH 1 ((dK t K R i).map dc)) else gH 1 ((dK t K R i).map dc)) D:=by rw[hD];rfl
  rw[<-hD] at hdl hdd;have hne:(D=[])=False:=eq_false (fun h=>by rw[h] at hdl;simp at hdl;omega);have hth:=V7 (dK t K R i) T 0 dc hel hT aa hf;have hro:=abm ((dK t K R i).map dc) 1 (by rw[ba,hel]) ah;generalize hs1:(dK t K R i).map dc=s1 at*;have hco:=ago (gH 1 s1) [2#8,3#8,1#8,1#8] (C7 _ _) rfl;have g1:16*(R-(i+1))<=1000:=aa;have g2:(16:Int)<=(D.length:Int):=aa;by_cases hlast:i+2<R
  ·have hl':(16:Int)<(D.length:Int):=aa;have had:=DV (jd [2#8,3#8,1#8,1#8] (gH 1 s1)) D (GJ _ _) aa aa;have hn:dK t K R (i+1)=bj (jd [2#8,3#8,1#8,1#8] (gH 1 s1)) D:=by rw[hes,if_pos hlast]
   rw[<-hn] at had;simp only[go_sem,seval,<-hD,hne];refine aS [2,1] (hth) ac ae rfl ae aM ae ae ae ae ae ?_;simp only[go_sem,seval];refine aS [2] (hro) ac ae rfl ae aM ae ae ae ae ae ?_;simp only[go_sem,seval,hl'];refine aS [2] (hco) ac ae rfl ae aM ae ae ae ae ae ?_;simp only[go_sem,seval];refine aS [2] (had) ac ae rfl ae aM ae ae ae ae ae ?_;simp only[go_sem,seval,g2,o0,hdd];exact fZ (j-1) ⟨[(0,.ptr 0 0),(5,.str (K.drop (16*(i+1+1)))),(6,.ptr 2 0)],[bK [.ptr 1 0,.str K],bK (T.map .u8),bK ((dK t K R (i+1)).map .u8)]⟩ [0,1,2] aa rfl ae rfl ah (by simp[dJ,St.get,aj,-List.map_map,-List.map_set]) ae ⟨i+1,aa,rfl⟩
  ·have hl':¬ (16:Int)<(D.length:Int):=aa;have had:=DV (gH 1 s1) D (C7 _ _) aa aa;have hn:dK t K R (i+1)=bj (gH 1 s1) D:=by rw[hes,if_neg hlast]
   rw[<-hn] at had;simp only[go_sem,seval,<-hD,hne];refine aS [2,1] (hth) ac ae rfl ae aM ae ae ae ae ae ?_;simp only[go_sem,seval];refine aS [2] (hro) ac ae rfl ae aM ae ae ae ae ae ?_;simp only[go_sem,seval,hl'];refine aS [2] (had) ac ae rfl ae aM ae ae ae ae ae ?_;simp only[go_sem,seval,g2,o0,hdd];exact fZ (j-1) ⟨[(0,.ptr 0 0),(5,.str (K.drop (16*(i+1+1)))),(6,.ptr 2 0)],[bK [.ptr 1 0,.str K],bK (T.map .u8),bK ((dK t K R (i+1)).map .u8)]⟩ [0,1,2] aa rfl ae rfl ah (by simp[dJ,St.get,aj,-List.map_map,-List.map_set]) ae ⟨i+1,aa,rfl⟩
 ·obtain rfl:i=R-1:=aa;have hD:K.drop (16*(R-1+1))=[]:=gP aa;simp only[go_sem,seval,hD,hel,ar];exact Fin.ren [0,1] ae ae aZ ah ae ae
end Go.Vm
end
section
namespace Go.Vm
open Go.Proofs
end Go.Vm
end
section
namespace Go.Vm
open Go.Proofs Go.Proofs.Tryz
theorem J2 (key:List (BitVec 8))(n:Nat)(b:n=4\/n=8)(c:key.length=4*n):aq prog 246 [.str key] [] (.ptr 0 0) [bK [.ptr 1 0,.str (wl key n (4*(n+7))).flatten],bK ((fe 256).map .u8)]:=by
 have a:=ac3 key;rw[decide_eq_true aa] at a;have d:=WR key n b c;have e:=UM;generalize fe 256=T at*;refine bf ac (fn:=f246) func246 rfl am (ak ?_);simp only[go_sem,seval,ntmps246];refine au (a) ?_;simp only[go_sem,seval];refine aS [] (e) ac ae rfl ae aM ae ae ae ae ae ?_;simp only[go_sem,seval];refine aS [0] (d) ac ae rfl ae aM ae ae ae ae ae ?_;simp only[go_sem,seval];exact Fin.ren [1,0] ae ae aZ ah ae ae
def cX (k n l t:List (BitVec 8))(m:Int):Int:=if k.length≠32\/n.length≠12 then 1 else if 2000<l.length\/m<t.length then 2 else 0
theorem wS (k n l t:List (BitVec 8))(m:Int):aG prog 245 [.str k,.str n,.str l,.str t,.i64 m] (.i64 (cX k n l t m)):=by
 by_cases h1:k.length=32
 ·have h1':(k.length:Int)=32:=aa;by_cases h2:n.length=12
  ·have a:(n.length:Int)=12:=aa;by_cases d:2000<l.length
   ·have b:(2000:Int)<(l.length:Int):=aa;have e:cX k n l t m=2:=by simp[cX,h1,h2,d]
    rw[e];refine aQ ac (fn:=f245) ac func245 rfl am (by simp[af,V.low]) (by simp[V.low]) (ak ?_);simp only[go_sem,seval,ntmps245,results245,h1',a,b]
   ·have b:¬ (2000:Int)<(l.length:Int):=aa;by_cases c:m<(t.length:Int)
    ·have e:cX k n l t m=2:=by simp[cX,h1,h2,d,c]
     rw[e];refine aQ ac (fn:=f245) ac func245 rfl am (by simp[af,V.low]) (by simp[V.low]) (ak ?_);simp only[go_sem,seval,ntmps245,results245,h1',a,b,c]
    ·have e:cX k n l t m=0:=by simp[cX,h1,h2,d,c]
     rw[e];refine aQ ac (fn:=f245) ac func245 rfl am (by simp[af,V.low]) (by simp[V.low]) (ak ?_);simp only[go_sem,seval,ntmps245,results245,h1',a,b,c]
  ·have a:¬ (n.length:Int)=12:=aa;have e:cX k n l t m=1:=by simp[cX,h1,h2]
   rw[e];refine aQ ac (fn:=f245) ac func245 rfl am (by simp[af,V.low]) (by simp[V.low]) (ak ?_);simp only[go_sem,seval,ntmps245,results245,h1',a]
 ·have h1':¬ (k.length:Int)=32:=aa;have e:cX k n l t m=1:=by simp[cX,h1]
  rw[e];refine aQ ac (fn:=f245) ac func245 rfl am (by simp[af,V.low]) (by simp[V.low]) (ak ?_);simp only[go_sem,seval,ntmps245,results245,h1']
theorem Gk (n K T:List (BitVec 8))(R:Nat)(c:Nat)(m:n.length=12)(hc:c<=100000)(g:2<=R)(d:R<=20)(h:K.length=16*R)(i:T.length=512)(j:∀ b:BitVec 8,T.getD (0+b.toNat) 0=dc b):aq prog 254 [.agg [.ptr 0 0,.str n],.i64 c] [bK [.ptr 1 0,.str K],bK (T.map .u8)] (.str (dK (n++bu c 4) K R (R-1))) [bK [.ptr 1 0,.str K],bK (T.map .u8)]:=by
 have f:=ym n (BitVec.ofNat 64 c) aa;have a:(BitVec.ofNat 64 c).toNat=c:=by rw[cx];omega
 have k:(bu c 4).length=4:=by rw[<-a,B6];rfl
 rw[a] at f;have l:=FX (n++bu c 4) K T R (by rw[aE];omega) g d h i j;refine bf ac (fn:=f254) func254 rfl am (ak ?_);simp only[go_sem,seval,ntmps254];refine⟨aa,?_⟩;have e:(n++bu c 4).take (n.length+4)=n++bu c 4:=ar (by rw[aE];omega);refine iq [3] (f) ac ae rfl ae aM ae ae ae ae ae ?_;simp only[go_sem,seval,k,e];refine vv [0,1] l ac ae rfl ae ah ae ae ae ae ae (by simp[gJ,cR,bd,dx,Blk.ren,gD,-List.map_map,-List.map_set]) ?_;simp only[go_sem,seval];refine⟨ac,?_⟩;exact Fin.ren [0,1] ae ae aZ ah ae ae
end Go.Vm
end
