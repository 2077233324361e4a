/- Proved: laws of a machine of values; no conditions but each theorem's own. -/
import Derived.Shelf.Bits.Mul64
import Derived.Test.YtidjknjilnopnaaGreatDoorPoNToPoP
import Derived.Test.YtidjknjilnopnaaGreatDoorShelfRepToPoY
set_option linter.unusedVariables false
set_option linter.unusedSimpArgs false
set_option maxRecDepth 20000
set_option maxHeartbeats 8000000
section
namespace Go.Vm
open Go.Proofs Go.Shelf
section
def ado:Go.Shelf.Ren:=⟨fun |264=>84|n=>n,fun |53=>81|46=>38|n=>n,fun |n=>n⟩
theorem ahU:Go.Proofs.Lays.n264 Tryz.prog ado:={
 mixed:=U
 f264:=Tryz.func84.trans (dN some U)
 t46:=Tryz.underlying38
 a46:=Tryz.isAgg38
 z46:=Tryz.sizeOf38
 v46:=Tryz.zeroValue38
 t53:=Tryz.underlying81
 a53:=Tryz.isAgg81
 z53:=Tryz.sizeOf81
 v53:=Tryz.zeroValue81}
open Go.RowKit Go.Lib in
theorem aiC (x y:Nat)(a:x<18446744073709551616)(b:y<18446744073709551616)(w:World):
  Calls Tryz.prog 84 #[.int .u64 x,.int .u64 y] w fun e w'=>e= .returned (.tuple #[.int .u64 ((x*y/18446744073709551616:Nat):Int),.int .u64 ((x*y%18446744073709551616:Nat):Int)])/\w'=w:=Any.bits_Mul64 ahU x y a b w
end
end Go.Vm
end
section
namespace Go.Vm
open Go.Proofs Go.Proofs.Tryz
def gf (x y:aS):aS:=BitVec.ofNat 64 (x.toNat*y.toNat/18446744073709551616)
theorem Ry (x y:aS):bE prog 84 [.u64 x,.u64 y] (.aZ [.u64 (gf x y),.u64 (x*y)]):=by
 refine QT U bT bT fun w a b=>?_
 unfold ao at b;obtain⟨p,q,h,k,b⟩:=b;unfold ao at b;obtain⟨r,c,d,l,b⟩:=b;unfold ao at b;unfold VR at k l;subst k l b d;have f:a=#[.int .u64 x.toNat,.int .u64 y.toNat]:=by cases a;simp_all
 subst f;have i:=x.isLt;have j:=y.isLt;refine(aiC x.toNat y.toNat I I w).mono ?_;rintro e o ⟨rfl,rfl⟩;refine⟨_,rfl,?_,⟨rfl,rfl,rfl,bz _,fun _ _=>rfl⟩⟩;have g:x.toNat*y.toNat<18446744073709551616*18446744073709551616:=Hy I I;have m:(gf x y).toNat=x.toNat*y.toNat/18446744073709551616:=by
  unfold gf;rw[fL];exact lk (Dg I)
 have n:(x*y).toNat=x.toNat*y.toNat%18446744073709551616:=by rw[um]
 unfold VR;refine⟨_,rfl,?_⟩;unfold ao;refine⟨_,_,rfl,by unfold VR;rw[m],?_⟩;unfold ao;refine⟨_,_,rfl,by unfold VR;rw[n],?_⟩;unfold ao;rfl
abbrev N3:=aS×aS×aS
def cy (a b:N3):N3:=(a.1+b.1+0#64,a.2.1+b.2.1+dG a.1 b.1 0#64,a.2.2+b.2.2+dG a.2.1 b.2.1 (dG a.1 b.1 0#64))
def kN (a:N3):N3:=cy (a.1,a.2.1,a.2.2&&&3#64) (5#64*(a.2.2>>>2),0#64,0#64)
def rB (a:N3):N3:=if 0#64<(cy (kN a) (5#64,0#64,0#64)).2.2>>>2 then((cy (kN a) (5#64,0#64,0#64)).1,(cy (kN a) (5#64,0#64,0#64)).2.1,(cy (kN a) (5#64,0#64,0#64)).2.2&&&3#64) else kN a
theorem wr (a b:N3):bE prog 200 [.agg [.u64 a.1,.u64 a.2.1,.u64 a.2.2],.agg [.u64 b.1,.u64 b.2.1,.u64 b.2.2]] (.agg [.u64 (cy a b).1,.u64 (cy a b).2.1,.u64 (cy a b).2.2]):=QV _ _ _ _ _ _
theorem Sg (a:N3):bE prog 206 [.agg [.u64 a.1,.u64 a.2.1,.u64 a.2.2]] (.agg [.u64 (kN a).1,.u64 (kN a).2.1,.u64 (kN a).2.2]):=Uf _ _ _
theorem UQ (a:N3):bE prog 202 [.agg [.u64 a.1,.u64 a.2.1,.u64 a.2.2]] (.agg [.u64 (rB a).1,.u64 (rB a).2.1,.u64 (rB a).2.2]):=by
 have c:=Sg a;have b:=wr (kN a) (5#64,0#64,0#64);unfold rB;generalize kN a=f at c b |-
 generalize cy f (5#64,0#64,0#64)=g at b |-
 by_cases h:0#64<g.2.2>>>2
 .rw[aM h];refine ai func202 ?_;simp only[go_sem,seval,ntmps202];refine br (c) (aH ?_);refine br (b) ?_;simp only[go_sem,seval,h]
 .rw[aq h];refine ai func202 ?_;simp only[go_sem,seval,ntmps202];refine br (c) (aH ?_);refine br (b) ?_;simp only[go_sem,seval,h]
def dZ (a:N3):Nat:=a.1.toNat+18446744073709551616*a.2.1.toNat+340282366920938463463374607431768211456*a.2.2.toNat
theorem xm (x y c:aS)(h:c.toNat<=1):(x+y+c).toNat+18446744073709551616*(dG x y c).toNat=x.toNat+y.toNat+c.toNat:=by
 have :=x.isLt;have :=y.isLt;unfold dG;rw[jL,jL,fL];omega
theorem u4 (a b:N3)(h:a.2.2.toNat+b.2.2.toNat<18446744073709551615):dZ (cy a b)=dZ a+dZ b:=by
 have g:=xm a.1 b.1 0#64 ag;have c:=qa a.1 b.1 0#64 ag;have i:=xm a.2.1 b.2.1 (dG a.1 b.1 0#64) c;have j:=qa a.2.1 b.2.1 (dG a.1 b.1 0#64) c;have z:(0#64).toNat=0:=rfl;unfold dZ cy;simp only;generalize dG a.1 b.1 0#64=f at*;generalize dG a.2.1 b.2.1 f=e at*;have d:(a.2.2+b.2.2+e).toNat=a.2.2.toNat+b.2.2.toNat+e.toNat:=by
  rw[jL,jL];omega
 omega
theorem Jj (w:aS):(w&&&3#64).toNat=w.toNat%4:=by
 rw[tP,show(3#64).toNat=2^2-1 from rfl,xk]
theorem OJ (a:N3)(h:a.2.2.toNat<1152921504606846976):dZ (kN a)=dZ a%1361129467683753853853498429727072845824+5*(dZ a/1361129467683753853853498429727072845824):=by
 have d:=a.1.isLt;have e:=a.2.1.isLt;have b:=Jj a.2.2;have c:(5#64*(a.2.2>>>2)).toNat=5*(a.2.2.toNat/4):=by
  rw[um,uJ,tI,show(5#64).toNat=5 from rfl];omega
 have z:(0#64).toNat=0:=rfl;unfold kN;rw[u4 _ _ (by show(a.2.2&&&3#64).toNat+(0#64).toNat<_;omega)];unfold dZ;simp only;rw[b,c,z];omega
theorem qW (a:N3):a.2.2.toNat=dZ a/340282366920938463463374607431768211456:=by
 have b:=a.1.isLt;have c:=a.2.1.isLt;unfold dZ;omega
theorem ajD (a:N3)(h:a.2.2.toNat<1152921504606846976):dZ (rB a)=dZ a%1361129467683753853853498429727072845819:=by
 have p:=OJ a h;have k:=qW a;have l:=qW (kN a);have r:=a.1.isLt;have s:=a.2.1.isLt;have b:dZ a<340282366920938463463374607431768211456*1152921504606846976:=by unfold dZ;omega
 have f:dZ a%1361129467683753853853498429727072845819=dZ (kN a)%1361129467683753853853498429727072845819:=by
  have e:dZ a=1361129467683753853853498429727072845819*(dZ a/1361129467683753853853498429727072845824)+dZ (kN a):=by rw[p];omega
  rw[e,Nat.mul_add_mod]
 have n:dZ (kN a)<1361129467683753853853498429727072845824+5*1152921504606846976:=by rw[p];omega
 rw[f];clear f p k b;have q:dZ (5#64,0#64,0#64)=5:=ag;have i:=u4 (kN a) (5#64,0#64,0#64) (by show(kN a).2.2.toNat+(0#64).toNat<_;have z:(0#64).toNat=0:=rfl;omega);rw[q] at i;have c:=qW (cy (kN a) (5#64,0#64,0#64));unfold rB;generalize cy (kN a) (5#64,0#64,0#64)=g at i c |-
 have j:(g.2.2>>>2).toNat=g.2.2.toNat/4:=by rw[uJ,tI]
 have m:=Jj g.2.2;by_cases o:0#64<g.2.2>>>2
 .have d:0<g.2.2.toNat/4:=by rw[<-j];exact o
  rw[aM o];have e:dZ (g.1,g.2.1,g.2.2&&&3#64)=dZ g-340282366920938463463374607431768211456*(g.2.2.toNat-g.2.2.toNat%4):=by
   unfold dZ;simp only;rw[m];omega
  rw[e];omega
 .have d:¬ 0<g.2.2.toNat/4:=by rw[<-j];exact o
  rw[aq o];omega
end Go.Vm
end
section
namespace Go.Vm
open Go.Proofs
def uT (w:List aS)(j:Nat)(x y:aS):List aS:=
 let c1:=dG (w.getD j 0) (x*y) 0#64
 let w1:=w.set j (w.getD j 0+x*y+0#64)
 let b:=dG (w1.getD (j+1) 0) (gf x y) c1
 let a:=w1.set (j+1) (w1.getD (j+1) 0+gf x y+c1)
 if j+2<5 then a.set (j+2) (a.getD (j+2) 0+b) else a
theorem Uu (w:List aS)(j:Nat)(x y:aS):(uT w j x y).length=w.length:=by
 unfold uT;simp only;split <;>simp
def W5 (a b c d e:aS):Nat:=a.toNat+18446744073709551616*b.toNat+340282366920938463463374607431768211456*c.toNat+6277101735386680763835789423207666416102355444464034512896*d.toNat+115792089237316195423570985008687907853269984665640564039457584007913129639936*e.toNat
theorem E8 (x y:aS):(x*y).toNat+18446744073709551616*(gf x y).toNat=x.toNat*y.toNat:=by
 have b:=x.isLt;have c:=y.isLt;have a:x.toNat*y.toNat<18446744073709551616*18446744073709551616:=Hy I I;have d:(gf x y).toNat=x.toNat*y.toNat/18446744073709551616:=by
  unfold gf;rw[fL];exact lk (Dg I)
 rw[um,d];generalize x.toNat*y.toNat=p;omega
theorem DP (x y:aS):(x+y+0#64).toNat+18446744073709551616*(dG x y 0#64).toNat=x.toNat+y.toNat:=xm x y 0#64 ag
theorem Kq (x c:aS)(h:x.toNat+c.toNat<18446744073709551616):(x+c).toNat=x.toNat+c.toNat:=by rw[jL];omega
theorem adz (a b c d e x y:aS)(h:c.toNat<100):∃ a' g f:aS,uT [a,b,c,d,e] 0 x y=[a',g,f,d,e]/\f.toNat<=c.toNat+1/\W5 a' g f d e=W5 a b c d e+x.toNat*y.toNat:=by
 have p:=E8 x y;have l:=DP a (x*y);have k:=qa a (x*y) 0#64 ag;have i:=xm b (gf x y) _ k;have m:=qa b (gf x y) _ k;have j:=Kq c (dG b (gf x y) (dG a (x*y) 0#64)) I;refine⟨a+x*y+0#64,b+gf x y+dG a (x*y) 0#64,c+dG b (gf x y) (dG a (x*y) 0#64),rfl,I,?_⟩;unfold W5;omega
theorem Nq (a b c d e x y:aS)(h:d.toNat<100):∃ a' g f:aS,uT [e,a,b,d,c] 1 x y=[e,a',g,f,c]/\f.toNat<=d.toNat+1/\W5 e a' g f c=W5 e a b d c+18446744073709551616*(x.toNat*y.toNat):=by
 have p:=E8 x y;have l:=DP a (x*y);have k:=qa a (x*y) 0#64 ag;have i:=xm b (gf x y) _ k;have m:=qa b (gf x y) _ k;have j:=Kq d (dG b (gf x y) (dG a (x*y) 0#64)) I;refine⟨a+x*y+0#64,b+gf x y+dG a (x*y) 0#64,d+dG b (gf x y) (dG a (x*y) 0#64),rfl,I,?_⟩;unfold W5;omega
theorem SO (a b c d e x y:aS)(h:e.toNat<100):∃ a' g f:aS,uT [a,b,c,d,e] 2 x y=[a,b,a',g,f]/\f.toNat<=e.toNat+1/\W5 a b a' g f=W5 a b c d e+340282366920938463463374607431768211456*(x.toNat*y.toNat):=by
 have p:=E8 x y;have l:=DP c (x*y);have k:=qa c (x*y) 0#64 ag;have i:=xm d (gf x y) _ k;have m:=qa d (gf x y) _ k;have j:=Kq e (dG d (gf x y) (dG c (x*y) 0#64)) I;refine⟨c+x*y+0#64,d+gf x y+dG c (x*y) 0#64,e+dG d (gf x y) (dG c (x*y) 0#64),rfl,I,?_⟩;unfold W5;omega
theorem Tt (a b c d e x y:aS)(h:W5 a b c d e+6277101735386680763835789423207666416102355444464034512896*(x.toNat*y.toNat)<2135987035920910082395021706169552114602704522356652769947041607822219725780640550022962086936576):∃ a' f:aS,uT [a,b,c,d,e] 3 x y=[a,b,c,a',f]/\W5 a b c a' f=W5 a b c d e+6277101735386680763835789423207666416102355444464034512896*(x.toNat*y.toNat):=by
 have p:=E8 x y;have j:=DP d (x*y);have i:=qa d (x*y) 0#64 ag;have g:=xm e (gf x y) _ i;refine⟨d+x*y+0#64,e+gf x y+dG d (x*y) 0#64,rfl,?_⟩;unfold W5 at*;omega
def pF (n:N3)(r:aS×aS)(w:List aS)(i:Nat):Nat->List aS
 |0=>w
 |k+1=>uT (pF n r w i k) (i+k) ([n.1,n.2.1,n.2.2].getD i 0) ([r.1,r.2].getD k 0)
def oW (n:N3)(r:aS×aS):Nat->List aS
 |0=>[0#64,0#64,0#64,0#64,0#64]
 |i+1=>pF n r (oW n r i) i 2
theorem Mt (n:N3)(r:aS×aS)(w:List aS)(i k:Nat):(pF n r w i k).length=w.length:=by
 induction k with
 |zero=>rfl
 |succ k ih=>rw[pF,Uu,ih]
theorem LH (n:N3)(r:aS×aS)(i:Nat):(oW n r i).length=5:=by
 induction i with
 |zero=>rfl
 |succ i ih=>rw[oW,Mt,ih]
def zZ (r:aS×aS):Nat:=r.1.toNat+18446744073709551616*r.2.toNat
theorem Xh (n0 b d a c:Nat):n0*a+18446744073709551616*(n0*c)+18446744073709551616*(b*a)+340282366920938463463374607431768211456*(b*c)+340282366920938463463374607431768211456*(d*a)+6277101735386680763835789423207666416102355444464034512896*(d*c)=(n0+18446744073709551616*b+340282366920938463463374607431768211456*d)*(a+18446744073709551616*c):=by
 grind
theorem afL (n:N3)(r:aS×aS)(h0:r.1.toNat<1152921504606846976)(h1:r.2.toNat<1152921504606846976)(h2:n.2.2.toNat<1125899906842624):
  ∃ a b c d e:aS,oW n r 3=[a,b,c,d,e]/\W5 a b c d e=dZ n*zZ r:=by
 obtain⟨O,g,P⟩:=n;obtain⟨f,N⟩:=r;have h:=O.isLt;have i:=g.isLt;simp only at h0 h1 h2;have j:O.toNat*f.toNat<=18446744073709551616*1152921504606846976:=uK I I;have k:O.toNat*N.toNat<=18446744073709551616*1152921504606846976:=uK I I;have l:g.toNat*f.toNat<=18446744073709551616*1152921504606846976:=uK I I;have T:g.toNat*N.toNat<=18446744073709551616*1152921504606846976:=uK I I;have m:P.toNat*f.toNat<=1125899906842624*1152921504606846976:=uK I I;have o:P.toNat*N.toNat<=1125899906842624*1152921504606846976:=uK I I;have z:(0#64).toNat=0:=rfl;obtain⟨Q,V,W,p,l1,v1⟩:=adz 0#64 0#64 0#64 0#64 0#64 O f ag;obtain⟨X,q,s,t,l2,v2⟩:=Nq V W 0#64 0#64 Q O N ag;obtain⟨R,u,v,w,l3,v3⟩:=Nq X q 0#64 s Q g f I;obtain⟨Y,x,y,A,H,v4⟩:=SO Q R u v 0#64 g N ag;obtain⟨S,B,C,D,K,v5⟩:=SO Q R Y x y P f I;have L:W5 0#64 0#64 0#64 0#64 0#64=0:=ag;have M:=Xh O.toNat g.toNat P.toNat f.toNat N.toNat;obtain⟨E,F,G,v6⟩:=Tt Q R S B C P N I;refine⟨Q,R,S,E,F,?_,?_⟩
 .simp only[oW,pF,seval,vr,vi,p,t,w,A,D,G]
 .show _=(O.toNat+18446744073709551616*g.toNat+340282366920938463463374607431768211456*P.toNat)*(f.toNat+18446744073709551616*N.toNat);omega
def tR (a b:aS):aS:=a>>>2|||b<<<62
theorem NP (a b:aS):(tR a b).toNat=a.toNat/4+4611686018427387904*(b.toNat%4):=by
 have c:=a.isLt;have d:=b.isLt;unfold tR;rw[EQ,uJ,Be,tI,Ak,Nat.or_comm,
  show b.toNat*2^62%2^64=2^62*(b.toNat%4) by omega,<-KB I]
 omega
def vJ (w:List aS):N3:=(w.getD 0 0,w.getD 1 0,w.getD 2 0&&&3#64)
def iH (w:List aS):N3:=(tR (w.getD 2 0) (w.getD 3 0),tR (w.getD 3 0) (w.getD 4 0),w.getD 4 0>>>2)
def BJ (h:N3):N3:=cy (cy (cy (cy h h) h) h) h
def u0 (n:N3)(r:aS×aS):N3:=kN (cy (vJ (oW n r 3)) (BJ (iH (oW n r 3))))
theorem aaY (n:N3)(r:aS×aS)(h0:r.1.toNat<1152921504606846976)(h1:r.2.toNat<1152921504606846976)(h2:n.2.2.toNat<1125899906842624):
  (∃ q,dZ n*zZ r=dZ (u0 n r)+1361129467683753853853498429727072845819*q)/\(u0 n r).2.2.toNat<8:=by
 obtain⟨a,b,c,d,e,E,h⟩:=afL n r h0 h1 h2;have i:dZ n<=340282366920938463463374607431768211456*1125899906842624:=by
  have :=n.1.isLt;have :=n.2.1.isLt;unfold dZ;omega
 have j:zZ r<=18446744073709551616*1152921504606846976:=by unfold zZ;omega
 have f:=uK i j;rw[<-h] at f |-
 unfold u0;rw[E];have k:vJ [a,b,c,d,e]=(a,b,c&&&3#64):=rfl;have l:iH [a,b,c,d,e]=(tR c d,tR d e,e>>>2):=rfl;rw[k,l];have m:=a.isLt;have o:=b.isLt;have p:=c.isLt;have s:=d.isLt;have t:=e.isLt;have u:dZ (a,b,c&&&3#64)=W5 a b c d e%1361129467683753853853498429727072845824:=by
  have :=Jj c;unfold dZ W5;simp only;omega
 have v:dZ (tR c d,tR d e,e>>>2)=W5 a b c d e/1361129467683753853853498429727072845824:=by
  have A:=NP c d;have B:=NP d e;have C:(e>>>2).toNat=e.toNat/4:=by rw[uJ,tI]
  unfold dZ W5;simp only;omega
 generalize W5 a b c d e=X at*;generalize (a,b,c&&&3#64)=L at*;generalize (tR c d,tR d e,e>>>2)=H at*;have w:=qW H;have F:=qW L;unfold BJ;have G:=u4 H H I;have A:=qW (cy H H);have K:=u4 (cy H H) H I;have B:=qW (cy (cy H H) H);have x:=u4 (cy (cy H H) H) H I;have C:=qW (cy (cy (cy H H) H) H);have y:=u4 (cy (cy (cy H H) H) H) H I;have M:=qW (cy (cy (cy (cy H H) H) H) H);have z:=u4 L (cy (cy (cy (cy H H) H) H) H) I;have N:=qW (cy L (cy (cy (cy (cy H H) H) H) H));have g:=OJ (cy L (cy (cy (cy (cy H H) H) H) H)) I;have D:=qW (kN (cy L (cy (cy (cy (cy H H) H) H) H)));refine⟨⟨X/1361129467683753853853498429727072845824+dZ (cy L (cy (cy (cy (cy H H) H) H) H))/1361129467683753853853498429727072845824,?_⟩,?_⟩
 .rw[g];omega
 .rw[D,g];omega
def small (l:List aS):Prop:=l.length=10/\∀ x∈l,x.toNat<8192
theorem GO:∀ s t:Z,s.length=t.length->le (List.zipWith (· &&&·) s t)=le s&&&le t
 |[],[],_=>by simp[le]
 |[],y::t,h=>by simp at h
 |x::s,[],h=>by simp at h
 |x::s,y::t,h=>by
  have ih:=GO s t (by simpa using h);have a:=x.isLt;have b:=y.isLt;have c:((x.toNat+256*le s)&&&(y.toNat+256*le t))%2^8=x.toNat&&&y.toNat:=by
   rw[Nat.and_mod_two_pow,show(x.toNat+256*le s)%2^8=x.toNat by omega,show(y.toNat+256*le t)%2^8=y.toNat by omega]
  have d:((x.toNat+256*le s)&&&(y.toNat+256*le t))/2^8=le s&&&le t:=by
   rw[Nat.and_div_two_pow,show(x.toNat+256*le s)/2^8=le s by omega,show(y.toNat+256*le t)/2^8=le t by omega]
  rw[List.zipWith_cons_cons,le,ih,tP,le,le];omega
def nH:Z:=[255#8,255#8,255#8,15#8,252#8,255#8,255#8,15#8,252#8,255#8,255#8,15#8,252#8,255#8,255#8,15#8]
def PZ (a:Z):Z:=List.zipWith (· &&&·) (a.take 16) nH
theorem S0 (s t:Z):le (s++t)=le s+256^s.length*le t:=by
 induction s with
 |nil=>simp[le]
 |cons a s ih=>rw[kG,le,ih,le,dM,uP,qQ,uz];omega
def rC (a:Z):aS×aS:=(BitVec.ofNat 64 (le (a.take 8))&&&1152921487695413247#64,BitVec.ofNat 64 (le ((a.drop 8).take 8))&&&1152921487695413244#64)
theorem YA (d:Z)(h:d.length=32):zZ (rC d)=le (PZ d)/\(rC d).1.toNat<1152921504606846976/\(rC d).2.toNat<1152921504606846976:=by
 have e:(d.take 8).length=8:=by rw[cF];omega
 have f:((d.drop 8).take 8).length=8:=by rw[cF,dO];omega
 have j:=BM (d.take 8);have k:=BM ((d.drop 8).take 8);rw[e] at j;rw[f] at k;have c:d.take 16=d.take 8++(d.drop 8).take 8:=by rw[<-List.take_add]
 have l:nH=nH.take 8++nH.drop 8:=rfl;have g:=GO (d.take 8) (nH.take 8) (by rw[e];rfl);have i:=GO ((d.drop 8).take 8) (nH.drop 8) (by rw[f];rfl);have m:le (nH.take 8)=1152921487695413247:=ag;have n:le (nH.drop 8)=1152921487695413244:=ag;have a:(rC d).1.toNat=le (d.take 8)&&&1152921487695413247:=by
  unfold rC;rw[tP,fL,lk (by omega :le (d.take 8)<2^64)];rfl
 have b:(rC d).2.toNat=le ((d.drop 8).take 8)&&&1152921487695413244:=by
  unfold rC;rw[tP,fL,lk (by omega :le ((d.drop 8).take 8)<2^64)];rfl
 rw[m] at g;rw[n] at i;refine⟨?_,?_,?_⟩
 .unfold zZ PZ;rw[c,l,List.zipWith_append (by rw[e];rfl),S0,a,b,<-g,<-i,GH,e];rfl
 .rw[a];exact xr Nat.and_le_right ag
 .rw[b];exact xr Nat.and_le_right ag
abbrev Pp:Nat:=1361129467683753853853498429727072845819
def j9 (t:Z)(i:Nat):Z:=(t.drop (16*i)).take 16++[1#8]
theorem aiS (t:Z)(i:Nat):(j9 t i).length<=17:=by unfold j9;rw[bA,cF];show _+1<=17;omega
def rQ (p:Z):N3:=(BitVec.ofNat 64 (le (p.take 8)),BitVec.ofNat 64 (le ((p.drop 8).take 8)),BitVec.ofNat 64 (le (p.drop 16)))
theorem A6 (p:Z)(k:Nat)(h:p.length<=k):le p<256^k:=pI (BM p) (Cq I h)
theorem afE (p:Z)(k:Nat)(h:k<=p.length):le p=le (p.take k)+256^k*le (p.drop k):=by
 calc le p=le (p.take k++p.drop k):=by rw[yr]
  _=_:=by rw[S0,cF,lH h]
theorem Hc (p:Z)(k:Nat):le p=le (p.take k)+256^k*le (p.drop k):=by
 by_cases h:k<=p.length
 .exact afE p k h
 .rw[bq I,lP I];simp[le]
theorem ag3 (p:Z)(h:p.length<=17):dZ (rQ p)=le p/\(rQ p).2.2.toNat<256:=by
 have d:=A6 (p.take 8) 8 (by rw[cF];omega);have e:=A6 ((p.drop 8).take 8) 8 (by rw[cF];omega);have a:=A6 (p.drop 16) 1 (by rw[dO];omega);have f:=Hc p 8;have c:=Hc (p.drop 8) 8;rw[l9,show 8+8=16 from rfl] at c;have b:(256:Nat)^8=18446744073709551616:=ag;rw[b] at d e f c;rw[show(256:Nat)^1=256 from rfl] at a;unfold dZ rQ;simp only[fL];omega
def aN (r:aS×aS)(t:Z):Nat->N3
 |0=>(0#64,0#64,0#64)
 |i+1=>u0 (cy (aN r t i) (rQ (j9 t i))) r
theorem UR (r:aS×aS)(t:Z)(h0:r.1.toNat<1152921504606846976)(h1:r.2.toNat<1152921504606846976)(i:Nat):(aN r t i).2.2.toNat<8:=by
 induction i with
 |zero=>exact(by decide:(0#64).toNat<8)
 |succ i ih=>
  have c:=ag3 (j9 t i) (aiS t i);have a:=u4 (aN r t i) (rQ (j9 t i)) I;have b:=qW (cy (aN r t i) (rQ (j9 t i)));have g:=(aN r t i).1.isLt;have d:=(aN r t i).2.1.isLt;have e:=(rQ (j9 t i)).1.isLt;have f:=(rQ (j9 t i)).2.1.isLt;refine(aaY (cy (aN r t i) (rQ (j9 t i))) r h0 h1 ?_).2;rw[b,a];unfold dZ;omega
theorem ah4 (n:Nat)(j:Nat):∀ k,bX n (k+j)=bX n k++bX (n/256^k) j:=by
 intro k;induction k generalizing n with
 |zero=>simp[bX]
 |succ k ih=>rw[show k+1+j=(k+j)+1 by omega,bX,ih,bX,kG,rJ,<-uP]
theorem acZ (a:N3):bX a.1.toNat 8++bX a.2.1.toNat 8=bX (dZ a) 16:=by
 have e:=a.1.isLt;have f:=a.2.1.isLt;have b:(256:Nat)^8=18446744073709551616:=ag;rw[show(16:Nat)=8+8 from rfl,ah4,<-AR (dZ a) 8,<-AR (dZ a/256^8) 8,b];have c:dZ a%18446744073709551616=a.1.toNat:=by unfold dZ;omega
 have d:dZ a/18446744073709551616%18446744073709551616=a.2.1.toNat:=by unfold dZ;omega
 rw[c,d]
def ww (a:Z):N3:=(BitVec.ofNat 64 (le ((a.drop 16).take 8)),BitVec.ofNat 64 (le ((a.drop 24).take 8)),0#64)
theorem ae4 (b:Z)(h:b.length=32):dZ (ww b)=le (b.drop 16):=by
 have f:=A6 ((b.drop 16).take 8) 8 (by rw[cF];omega);have c:=A6 ((b.drop 24).take 8) 8 (by rw[cF];omega);have d:=Hc (b.drop 16) 8;rw[l9,show 16+8=24 from rfl] at d;have a:(256:Nat)^8=18446744073709551616:=ag;have e:(b.drop 24).take 8=b.drop 24:=bq (by rw[dO];omega);rw[a] at f c d;rw[e] at c;unfold dZ ww;simp only[fL];rw[e];rw[show 0%2^64=0 from rfl];omega
def Aa (c t:Z):Z:=bX (dZ (aN (rC c) t ((t.length+15)/16))%Pp+le (c.drop 16)) 16
theorem CY (a t:Z):(Aa a t).length=16:=by unfold Aa;rw[dQ]
theorem aig (f t:Z)(h:f.length=32):bX (cy (rB (aN (rC f) t ((t.length+15)/16))) (ww f)).1.toNat 8++bX (cy (rB (aN (rC f) t ((t.length+15)/16))) (ww f)).2.1.toNat 8=Aa f t:=by
 obtain⟨_,g,i⟩:=YA f h;have e:=UR (rC f) t g i ((t.length+15)/16);have a:=ajD _ (show(aN (rC f) t ((t.length+15)/16)).2.2.toNat<1152921504606846976 by omega);have b:=qW (rB (aN (rC f) t ((t.length+15)/16)));have c:(ww f).2.2.toNat=0:=rfl;have d:=u4 (rB (aN (rC f) t ((t.length+15)/16))) (ww f) (by
  rw[c,b,a];have :=AH (dZ (aN (rC f) t ((t.length+15)/16))) (show 0<Pp by decide);omega)
 rw[acZ,d,a,ae4 f h];rfl
end Go.Vm
end
section
namespace Go.Vm
open Go.Proofs Go.Proofs.Tryz
theorem ai8 (n:N3)(i:Nat)(h:i<3):[V.u64 n.1,V.u64 n.2.1,V.u64 n.2.2].getD i .bH= .u64 ([n.1,n.2.1,n.2.2].getD i 0):=by
 match i,h with
 |0,_=>rfl
 |1,_=>rfl
 |2,_=>rfl
theorem aft (r:aS×aS)(i:Nat)(h:i<2):[V.u64 r.1,V.u64 r.2].getD i .bH= .u64 ([r.1,r.2].getD i 0):=by
 match i,h with
 |0,_=>rfl
 |1,_=>rfl
theorem aaJ (n:N3)(r:aS×aS):bE prog 201 [.agg [.u64 n.1,.u64 n.2.1,.u64 n.2.2],.agg [.u64 r.1,.u64 r.2]] (.agg [.u64 (u0 n r).1,.u64 (u0 n r).2.1,.u64 (u0 n r).2.2]):=by
 have j:=LH n r 3;have T:=vJ (oW n r 3);unfold u0;refine ai func201 ?_;simp only[go_sem,seval,-BitVec.isValue,-List.reduceReplicate,-Nat.reduceSubDiff,ntmps201];refine cG (fun v X=>∃ i:Nat,i+v=3/\X=⟨[(2,.ptr 0 0),(3,.ptr 1 0),(4,.ptr 2 0),(5,.ptr 3 0),(16,.agg [.u64 n.1,.u64 n.2.1,.u64 n.2.2]),(17,.i64 i)],[bK [.u64 n.1,.u64 n.2.1,.u64 n.2.2],bK [.u64 r.1,.u64 r.2],bK [.u64 0#64,.u64 0#64,.u64 0#64],bK ((oW n r i).map .u64)]⟩) ?_ ?_
 .exact dh (3) ⟨[(2,.ptr 0 0),(3,.ptr 1 0),(4,.ptr 2 0),(5,.ptr 3 0),(16,.agg [.u64 n.1,.u64 n.2.1,.u64 n.2.2]),(17,.i64 (0:Nat))],[bK [.u64 n.1,.u64 n.2.1,.u64 n.2.2],bK [.u64 r.1,.u64 r.2],bK [.u64 0#64,.u64 0#64,.u64 0#64],bK ((oW n r (0:Nat)).map .u64)]⟩ gJ rfl (fun _ _ h=>h) ⟨0,I,rfl⟩
 rintro v X ⟨i,hi,rfl⟩ _;refine qc0 ?_;by_cases h0:i<3
 .have l:(i:Int)<3:=I;have m:=LH n r i;have o:pF n r (oW n r i) i 2=oW n r (i+1):=rfl;refine qc6 l h0 (ai8 n i h0) ?_;generalize oW n r i=w at m o |-
  refine⟨I,?_⟩;refine cG (fun t X=>∃ k:Nat,k+t=2/\X=⟨[(2,.ptr 0 0),(3,.ptr 1 0),(4,.ptr 2 0),(5,.ptr 3 0),(6,.i64 i),(7,.u64 ([n.1,n.2.1,n.2.2].getD i 0)),(16,.agg [.u64 n.1,.u64 n.2.1,.u64 n.2.2]),(17,.i64 i),(21,.agg [.u64 r.1,.u64 r.2]),(22,.i64 k)],[bK [.u64 n.1,.u64 n.2.1,.u64 n.2.2],bK [.u64 r.1,.u64 r.2],bK [.u64 0#64,.u64 0#64,.u64 0#64],bK ((pF n r w i k).map .u64)]⟩) ?_ ?_
  .exact dh (2) ⟨[(2,.ptr 0 0),(3,.ptr 1 0),(4,.ptr 2 0),(5,.ptr 3 0),(6,.i64 i),(7,.u64 ([n.1,n.2.1,n.2.2].getD i 0)),(16,.agg [.u64 n.1,.u64 n.2.1,.u64 n.2.2]),(17,.i64 i),(21,.agg [.u64 r.1,.u64 r.2]),(22,.i64 (0:Nat))],[bK [.u64 n.1,.u64 n.2.1,.u64 n.2.2],bK [.u64 r.1,.u64 r.2],bK [.u64 0#64,.u64 0#64,.u64 0#64],bK ((pF n r w i (0:Nat)).map .u64)]⟩ gJ rfl (fun _ _ h=>h) ⟨0,I,rfl⟩
  rintro t X ⟨k,V,rfl⟩ _;refine qc0 ?_;have b:=Mt n r w i k;rw[m] at b;by_cases p:k<2
  .have d:(k:Int)<2:=I;generalize N:[n.1,n.2.1,n.2.2].getD i 0=x;generalize K:[r.1,r.2].getD k 0=y;have a:uT (pF n r w i k) (i+k) x y=pF n r w i (k+1):=by rw[pF,N,K]
   generalize pF n r w i k=u at b a |-
   have z:bh ((i:Int)+(k:Int))=((i+k:Nat):Int):=by rw[bC I I];omega
   have O:bh (((i+k:Nat):Int)+1)=((i+k+1:Nat):Int):=by rw[bC I I];omega
   have P:bh (((i+k:Nat):Int)+2)=((i+k+2:Nat):Int):=by rw[bC I I];omega
   have g1:((i+k:Nat):Int)<5:=I;have g2:i+k<5:=I;have g3:((i+k+1:Nat):Int)<5:=I;have g4:i+k+1<5:=I;have g5:i+k<u.length:=I;refine qc8 d p (aft r k p) K ?_;refine⟨I,?_⟩;refine br (Ry x y) ?_;refine qd0 z g1 g2 b (k9 g5) ?_;refine⟨I,?_⟩;have q:=qa (u.getD (i+k) 0) (x*y) 0#64 ag;refine Ba (B9 (u.getD (i+k) 0) (x*y) 0#64 ag) ?_;refine qd2 z O g1 g3 g4 b ?_;refine⟨I,I,I,?_⟩;unfold uT at a;simp only at a;have e:(u.set (i+k) (u.getD (i+k) 0+x*y+0#64)).length=5:=by rw[b7];exact b
   generalize u.set (i+k) (u.getD (i+k) 0+x*y+0#64)=f at e a |-
   generalize dG (u.getD (i+k) 0) (x*y) 0#64=Y at q a |-
   have g6:i+k+1<f.length:=I;simp only[go_sem,k9 g6];refine Ba (B9 (f.getD (i+k+1) 0) (gf x y) Y q) ?_;refine qc8 z P g3 e ?_;refine⟨I,I,?_⟩;have s:(f.set (i+k+1) (f.getD (i+k+1) 0+gf x y+Y)).length=5:=by rw[b7];exact e
   generalize f.set (i+k+1) (f.getD (i+k+1) 0+gf x y+Y)=Q at s a |-
   generalize dG (f.getD (i+k+1) 0) (gf x y) Y=W at a |-
   by_cases g7:i+k+2<5
   .have g:((i+k+2:Nat):Int)<5:=I;have g8:i+k+2<Q.length:=I;rw[aM g7] at a;refine qd0 g g7 s (k9 g8) a ?_;refine⟨I,I,I,?_⟩;refine cH (t-1) ⟨[(2,.ptr 0 0),(3,.ptr 1 0),(4,.ptr 2 0),(5,.ptr 3 0),(6,.i64 i),(7,.u64 x),(16,.agg [.u64 n.1,.u64 n.2.1,.u64 n.2.2]),(17,.i64 i),(21,.agg [.u64 r.1,.u64 r.2]),(22,.i64 (k+1:Nat))],[bK [.u64 n.1,.u64 n.2.1,.u64 n.2.2],bK [.u64 r.1,.u64 r.2],bK [.u64 0#64,.u64 0#64,.u64 0#64],bK ((pF n r w i (k+1:Nat)).map .u64)]⟩ I ?_ rfl (fun _ _ h=>h) ⟨k+1,I,rfl⟩;have c:bh ((k:Int)+1)=((k+1:Nat):Int):=by rw[bC I I];omega
    simp[St.get,lookS,c]
   .have g:¬ ((i+k+2:Nat):Int)<5:=I;rw[aq g7] at a;refine qc4 g a ?_;refine cH (t-1) ⟨[(2,.ptr 0 0),(3,.ptr 1 0),(4,.ptr 2 0),(5,.ptr 3 0),(6,.i64 i),(7,.u64 x),(16,.agg [.u64 n.1,.u64 n.2.1,.u64 n.2.2]),(17,.i64 i),(21,.agg [.u64 r.1,.u64 r.2]),(22,.i64 (k+1:Nat))],[bK [.u64 n.1,.u64 n.2.1,.u64 n.2.2],bK [.u64 r.1,.u64 r.2],bK [.u64 0#64,.u64 0#64,.u64 0#64],bK ((pF n r w i (k+1:Nat)).map .u64)]⟩ I ?_ rfl (fun _ _ h=>h) ⟨k+1,I,rfl⟩;have c:bh ((k:Int)+1)=((k+1:Nat):Int):=by rw[bC I I];omega
    simp[St.get,lookS,c]
  .obtain rfl:k=2:=I;have d:¬ ((2:Nat):Int)<2:=I;refine qc2 o ?_;refine cH (v-1) ⟨[(2,.ptr 0 0),(3,.ptr 1 0),(4,.ptr 2 0),(5,.ptr 3 0),(16,.agg [.u64 n.1,.u64 n.2.1,.u64 n.2.2]),(17,.i64 (i+1:Nat))],[bK [.u64 n.1,.u64 n.2.1,.u64 n.2.2],bK [.u64 r.1,.u64 r.2],bK [.u64 0#64,.u64 0#64,.u64 0#64],bK ((oW n r (i+1:Nat)).map .u64)]⟩ I ?_ rfl (fun _ _ h=>h) ⟨i+1,I,rfl⟩;have c:bh ((i:Int)+1)=((i+1:Nat):Int):=by rw[bC I I];omega
   simp[St.get,lookS,c]
 .obtain rfl:i=3:=I;have l:¬ ((3:Nat):Int)<3:=I;generalize oW n r 3=w at j |-
  have a0:0<w.length:=I;have a1:1<w.length:=I;have a2:2<w.length:=I;have a3:3<w.length:=I;have a4:4<w.length:=I;have R:=wr (iH w) (iH w);have p2:=wr (cy (iH w) (iH w)) (iH w);have p3:=wr (cy (cy (iH w) (iH w)) (iH w)) (iH w);have M:=wr (cy (cy (cy (iH w) (iH w)) (iH w)) (iH w)) (iH w);have p5:=wr (vJ w) (BJ (iH w));have S:=Sg (cy (vJ w) (BJ (iH w)));have A:cy (cy (cy (cy (iH w) (iH w)) (iH w)) (iH w)) (iH w)=BJ (iH w):=rfl;have B:w.getD 2 0>>>2|||w.getD 3 0<<<62=(iH w).1:=rfl
  have C:w.getD 3 0>>>2|||w.getD 4 0<<<62=(iH w).2.1:=rfl
  have D:w.getD 4 0>>>2=(iH w).2.2:=rfl;have E:w.getD 0 0=(vJ w).1:=rfl;have F:w.getD 1 0=(vJ w).2.1:=rfl;have G:w.getD 2 0&&&3#64=(vJ w).2.2:=rfl;refine qd6 j (k9 a0) (k9 a1) (k9 a2) (k9 a3) (k9 a4) B C ?_;simp only[D,E,F,G];rw[A] at M;generalize iH w=H at*;generalize vJ w=L at*;refine bZ (R) ?_;refine qc0 ?_;refine bZ (p2) ?_;refine qc0 ?_;refine bZ (p3) ?_;refine qc0 ?_;refine bZ (M) ?_;refine qc0 ?_;refine⟨U,?_⟩;refine br (p5) ?_;refine qc0 ?_;refine br (S) ?_;simp only[go_sem,seval,-BitVec.isValue,-List.reduceReplicate,-Nat.reduceSubDiff]
theorem TL (p:Z):(p.take (min p.length 8)).take 8=p.take 8:=by
 by_cases h:8<=p.length
 .rw[uj h,wO];rfl
 .rw[lH I,oR]
theorem Ze (p:Z):((p.take (min p.length 16)).drop 8).take 8=(p.drop 8).take 8:=by
 by_cases h:16<=p.length
 .rw[uj h,AV,wO];rfl
 .rw[lH I,oR]
theorem aia (S t:Z)(h:S.length=32)(ht:t.length<=140737488351232):bE prog 192 [.str S,.str t] (.aZ [.str (Aa S t),.i64 0]):=by
 have X:(S.length:Int)=32:=I;have Y:=mY (S.take 8) (by rw[cF];omega);have k2:=mY ((S.drop 8).take 8) (by rw[cF];omega);rw[wO,show min 8 8=8 from rfl] at Y k2;have m:(S.take 16).drop 8=(S.drop 8).take 8:=by rw[AV]
 have r1:BitVec.ofNat 64 (le (S.take 8))&&&1152921487695413247#64=(rC S).1:=rfl;have r2:BitVec.ofNat 64 (le ((S.drop 8).take 8))&&&1152921487695413244#64=(rC S).2:=rfl;refine ai func192 ?_;simp only[go_sem,seval,ntmps192,X];refine bZ (Y) ?_;refine d9 X m ?_;refine bZ (k2) ?_;refine d9 r1 r2 ?_;refine⟨U,?_⟩;refine cG (fun n st=>∃ i:Nat,i+n=(t.length+15)/16/\st=⟨[(0,.str S),(1,.str (t.drop (16*i))),(6,.ptr 0 0),(7,.ptr 1 0)],[bK [.u64 (rC S).1,.u64 (rC S).2],bK [.u64 (aN (rC S) t i).1,.u64 (aN (rC S) t i).2.1,.u64 (aN (rC S) t i).2.2]]⟩) ?_ ?_
 .exact dh ((t.length+15)/16) ⟨[(0,.str S),(1,.str (t.drop (16*(0:Nat)))),(6,.ptr 0 0),(7,.ptr 1 0)],[bK [.u64 (rC S).1,.u64 (rC S).2],bK [.u64 (aN (rC S) t (0:Nat)).1,.u64 (aN (rC S) t (0:Nat)).2.1,.u64 (aN (rC S) t (0:Nat)).2.2]]⟩ gJ rfl (fun _ _ h=>h) ⟨0,I,rfl⟩
 rintro n st ⟨i,hi,rfl⟩ _;refine aH ?_;have g:(t.drop (16*i)).length=t.length-16*i:=dO;by_cases h0:16*i<t.length
 .have w:¬ t.drop (16*i)=[]:=fun e=>by rw[e] at g;simp at g;omega
  have d:(if((t.length-16*i:Nat):Int)<16 then((t.length-16*i:Nat):Int) else 16)=((min (t.length-16*i) 16:Nat):Int):=by split <;>omega
  have x:(j9 t i).length=min (t.length-16*i) 16+1:=by unfold j9;rw[bA,cF,g,Nat.min_comm];rfl
  have o:(t.drop (16*i)).take (min (t.length-16*i) 16)++[1#8]=j9 t i:=by
   unfold j9;by_cases hc:16<=t.length-16*i
   .rw[uj hc]
   .rw[lH I,bq I,bq I]
  have y:bytesOf ⟨#[1]⟩=[1#8]:=rfl;have f:u0 (cy (aN (rC S) t i) (rQ (j9 t i))) (rC S)=aN (rC S) t (i+1):=rfl;have a:rQ (j9 t i)=(BitVec.ofNat 64 (le ((j9 t i).take 8)),BitVec.ofNat 64 (le (((j9 t i).drop 8).take 8)),BitVec.ofNat 64 (le ((j9 t i).drop 16))):=rfl;have c:16<(j9 t i).length->(j9 t i).drop 16=[1#8]:=fun K=>by
   unfold j9;rw[JL,lP (by rw[cF];omega),cF,g,lH I];rfl
  have j:(t.drop (16*i)).drop (min (t.length-16*i) 16)=t.drop (16*(i+1)):=by
   rw[l9];by_cases K:16<=t.length-16*i
   .rw[uj K,qQ]
   .rw[lH I,lP I,lP I]
  have k:(t.drop (16*i)).take (t.length-16*i)=t.drop (16*i):=bq I;generalize v:(j9 t i).length=L at x c;generalize M:rQ (j9 t i)=z at f a;have T:=wr (aN (rC S) t i) z;have q:=aaJ (cy (aN (rC S) t i) z) (rC S);rw[f] at q;generalize N:cy (aN (rC S) t i) z=pn at T q;generalize j9 t i=p at o v c a;have O:(if(L:Int)<8 then(L:Int) else 8)=((min L 8:Nat):Int):=by split <;>omega
  have A:(if(L:Int)<16 then(L:Int) else 16)=((min L 16:Nat):Int):=by split <;>omega
  have r:=mY (p.take (min L 8)) (by rw[cF];omega);have s:=mY ((p.take (min L 16)).drop 8) (by rw[dO,cF];omega);have t8:=TL p;have W:=Ze p;rw[v] at t8 W;rw[t8] at r;rw[W] at s;have B:min (min (t.length-16*i) 16) (t.length-16*i)+1=L:=I;refine qa5 w d y o O B ?_;refine⟨I,I,⟨I,I⟩,?_⟩;refine br (r) ?_;refine d9 v A ?_;by_cases R:8<L
  .have l:(8:Int)<(L:Int):=I;refine aL l ?_;refine⟨I,?_⟩;refine br (s) ?_;refine aL v ?_;by_cases C:16<L
   .have b:(16:Int)<(L:Int):=I;rw[c C,show BitVec.ofNat 64 (le [1#8])=1#64 from rfl] at a;rw[a] at T;refine aL b ?_;refine bZ (T) (aH ?_);refine bZ (q) ?_;refine sh d g j k ?_;refine⟨U,⟨I,I⟩,?_⟩;have u:bh ((i:Int)+1)=((i+1:Nat):Int):=by rw[bC I I];omega
    refine lc (n-1) ⟨[(0,.str S),(1,.str (t.drop (16*(i+1:Nat)))),(6,.ptr 0 0),(7,.ptr 1 0)],[bK [.u64 (rC S).1,.u64 (rC S).2],bK [.u64 (aN (rC S) t (i+1:Nat)).1,.u64 (aN (rC S) t (i+1:Nat)).2.1,.u64 (aN (rC S) t (i+1:Nat)).2.2]]⟩ [0,1] I rfl J rfl ag (by simp[iC,St.get,lookS,lq]) (by simp[lq]) ⟨i+1,I,rfl⟩
   .have b:¬ (16:Int)<(L:Int):=I;rw[lP (by omega :p.length<=16),show BitVec.ofNat 64 (le [])=0#64 from rfl] at a;rw[a] at T;refine aL b ?_;refine bZ (T) (aH ?_);refine bZ (q) ?_;refine sh d g j k ?_;refine⟨U,⟨I,I⟩,?_⟩;have u:bh ((i:Int)+1)=((i+1:Nat):Int):=by rw[bC I I];omega
    refine lc (n-1) ⟨[(0,.str S),(1,.str (t.drop (16*(i+1:Nat)))),(6,.ptr 0 0),(7,.ptr 1 0)],[bK [.u64 (rC S).1,.u64 (rC S).2],bK [.u64 (aN (rC S) t (i+1:Nat)).1,.u64 (aN (rC S) t (i+1:Nat)).2.1,.u64 (aN (rC S) t (i+1:Nat)).2.2]]⟩ [0,1] I rfl J rfl ag (by simp[iC,St.get,lookS,lq]) (by simp[lq]) ⟨i+1,I,rfl⟩
  .have l:¬ (8:Int)<(L:Int):=I;have b:¬ (16:Int)<(L:Int):=I;rw[lP (by omega :p.length<=16),lP (by omega :p.length<=8),List.take_nil,show BitVec.ofNat 64 (le [])=0#64 from rfl] at a;rw[a] at T;refine d9 l b ?_;refine bZ (T) (aH ?_);refine bZ (q) ?_;refine sh d g j k ?_;refine⟨U,⟨I,I⟩,?_⟩;have u:bh ((i:Int)+1)=((i+1:Nat):Int):=by rw[bC I I];omega
   refine lc (n-1) ⟨[(0,.str S),(1,.str (t.drop (16*(i+1:Nat)))),(6,.ptr 0 0),(7,.ptr 1 0)],[bK [.u64 (rC S).1,.u64 (rC S).2],bK [.u64 (aN (rC S) t (i+1:Nat)).1,.u64 (aN (rC S) t (i+1:Nat)).2.1,.u64 (aN (rC S) t (i+1:Nat)).2.2]]⟩ [0,1] I rfl J rfl ag (by simp[iC,St.get,lookS,lq]) (by simp[lq]) ⟨i+1,I,rfl⟩
 .have he:t.drop (16*i)=[]:=lP I;obtain rfl:i=(t.length+15)/16:=I;have D:=aig S t h;have q1:=UQ (aN (rC S) t ((t.length+15)/16));have E:=wr (rB (aN (rC S) t ((t.length+15)/16))) (ww S);generalize rB (aN (rC S) t ((t.length+15)/16))=P at D q1 E;generalize cy P (ww S)=V at D E;have w1:=mY ((S.drop 16).take 8) (by rw[cF];omega);have Q:=mY (S.drop 24) (by rw[dO];omega);rw[wO,show min 8 8=8 from rfl] at w1;have F:(S.take 24).drop 16=(S.drop 16).take 8:=by rw[AV]
  have G:(S.take 32).drop 24=S.drop 24:=by rw[bq I]
  have a1:=Km V.1;have a2:=xK (bX V.1.toNat 8) V.2.1 (by rw[dQ];omega);rw[dQ,D] at a2;have H:=CY S t;refine aL he ?_;refine bZ (q1) ?_;refine d9 F X ?_;refine bZ (w1) ?_;refine d9 G X ?_;refine bZ (Q) (aH ?_);refine bZ (E) (aH ?_);refine⟨U,?_⟩;refine az [] a1 (aH ?_);refine az [2] a2 ?_;simp only[go_sem,seval,H,bq];kernel_rfl
end Go.Vm
end
section
namespace Go.Vm
open Go.Proofs
end Go.Vm
end
section
namespace Go.Vm
open Go.Proofs Go.Proofs.Tryz
def oY (k c m t:Z)(b:Nat):Int:=if k.length=32 then(if c.length=12 then(if 2000<m.length then 2 else if b<t.length then 2 else 0) else 1) else 1
theorem Qu (k c m t:Z)(a:Nat):bE prog 176 [.str k,.str c,.str m,.str t,.i64 a] (.i64 (oY k c m t a)):=by
 unfold oY;by_cases h:k.length=32
 .by_cases i:c.length=12
  .by_cases e:2000<m.length
   .have b:(2000:Int)<(m.length:Int):=I;refine ai func176 ?_;simp only[go_sem,seval,ntmps176,results176,h,i,e,b]
   .have b:¬ (2000:Int)<(m.length:Int):=I;by_cases g:a<t.length
    .have d:(a:Int)<(t.length:Int):=I;refine ai func176 ?_;simp only[go_sem,seval,ntmps176,results176,h,i,e,b,g,d]
    .have d:¬ (a:Int)<(t.length:Int):=I;refine ai func176 ?_;simp only[go_sem,seval,ntmps176,results176,h,i,e,b,g,d]
  .have f:¬ (c.length:Int)=12:=I;refine ai func176 ?_;simp only[go_sem,seval,ntmps176,results176,h,i,f]
 .have j:¬ (k.length:Int)=32:=I;refine ai func176 ?_;simp only[go_sem,seval,ntmps176,results176,h,j]
theorem HW (k c m t:Z)(a:Nat)(h:oY k c m t a=0):k.length=32/\c.length=12/\m.length<=2000/\t.length<=a:=by
 unfold oY at h;split at h
 .split at h
  .split at h
   .simp at h
   .split at h
    .simp at h
    .omega
  .simp at h
 .simp at h
theorem Sj (s:Z)(e:s.length<=140737488351232):bE prog 193 [.str s] (.str (xw s)):=by
 have a:(s.length:Int).tmod 16=((s.length%16:Nat):Int):=rfl;have b:bh (16-((s.length%16:Nat):Int))=((16-s.length%16:Nat):Int):=by rw[bC I I];omega
 have c:((16-s.length%16:Nat):Int).tmod 16=(((16-s.length%16)%16:Nat):Int):=rfl;have d:=yF ((16-s.length%16)%16) I;refine ai func193 ?_;simp only[go_sem,seval,ntmps193,a,b,c];refine br (d) (aH ?_);exact⟨I,rfl⟩
def vU (m s:Z):Z:=bX (BitVec.ofInt 64 (m.length:Int)).toNat 8++bX (BitVec.ofInt 64 (s.length:Int)).toNat 8
def zl (m s:Z):Z:=xw m++(xw s++vU m s)
def lN (k c m s:Z):Z:=Aa ((jZ k c 0#32).take 32) (zl m s)
theorem acV (m s:Z)(b:m.length<=2000)(a:s.length<=2016):(zl m s).length<=10000:=by
 unfold zl vU;rw[bA,bA,bA,dQ,dQ,DY,DY];omega
theorem ML (k c m s:Z)(h1:k.length=32)(h2:c.length=12)(r:m.length<=2000)(l:s.length<=2016):bE prog 178 [.str k,.str c,.str m,.str s] (.str (lN k c m s)):=by
 have n:=IC k c 0#32 h1 h2;have b:=A9 k c 0#32 h1 h2;have t:=Km (BitVec.ofInt 64 (m.length:Int));have a:=dQ (BitVec.ofInt 64 (m.length:Int)).toNat 8;have d:=dQ (BitVec.ofInt 64 (s.length:Int)).toNat 8;have p:=xK (bX (BitVec.ofInt 64 (m.length:Int)).toNat 8) (BitVec.ofInt 64 (s.length:Int)) (by rw[a];omega);rw[a,show bX (BitVec.ofInt 64 (m.length:Int)).toNat 8++bX (BitVec.ofInt 64 (s.length:Int)).toNat 8=vU m s from rfl] at p;have f:(vU m s).length=16:=by unfold vU;rw[bA,a,d]
 have g:=DY m;have h:=DY s;have j:=acV m s r l;have q:=aia ((jZ k c 0#32).take 32) (zl m s) (by rw[cF,b];rfl) I;have e:xw m++(xw s++vU m s)=zl m s:=rfl;have o:Aa ((jZ k c 0#32).take 32) (zl m s)=lN k c m s:=rfl;rw[o] at q;refine ai func178 ?_;simp only[go_sem,seval,ntmps178];refine br (n) (aH ?_);refine am [] t (aH ?_);refine am [0] p ?_;refine aL b ?_;refine bZ (Sj m I) (aH ?_);refine bZ (Sj s I) ?_;refine i9 f g h ?_;have i:(vU m s).take 16=vU m s:=bq I;rw[i,hZ,e];refine⟨I,I,?_⟩;refine bZ (q) (aH ?_);kernel_rfl
theorem F8 (B:aQ->Z)(a:∀ m,(B m).length=64)(n:aQ)(t:Z):(xored B n t).length=t.length:=by
 unfold xored;rw[oV,JE B a];omega
def iP (k c m t:Z):Z×Int:=if oY k c m t 2000=0 then(xored (jZ k c) 1#32 t++lN k c m (xored (jZ k c) 1#32 t),0) else([],oY k c m t 2000)
def pV (k c m z:Z):Z×Int:=if oY k c m z 2016=0 then(if z.length<16 then([],4) else if z.take (z.length-16)++lN k c m (z.take (z.length-16))=z then(xored (jZ k c) 1#32 (z.take (z.length-16)),0) else([],6)) else([],oY k c m z 2016)
theorem Rc (k c m t:Z):bE prog 161 [.str k,.str c,.str m,.str t] (.aZ [.str (iP k c m t).1,.i64 (iP k c m t).2]):=by
 have l:=Qu k c m t 2000;unfold iP;by_cases h:oY k c m t 2000=0
 .obtain⟨i,j,f,g⟩:=HW _ _ _ _ _ h;rw[h] at l;rw[aM h];have d:∀ n,(jZ k c n).length=64:=fun n=>A9 k c n i j
  have e:=RZ k c 1#32 t (jZ k c) d (fun n=>IC k c n i j) i j g;have a:=F8 (jZ k c) d 1#32 t;generalize xored (jZ k c) 1#32 t=x at e a |-
  have o:=ML k c m x i j f I;have b:(lN k c m x).length=16:=CY _ _;refine ai func161 ?_;simp only[go_sem,seval,ntmps161];refine br (l) (aH ?_);refine br (e) (aH ?_);refine br (o) ?_;refine aL b ?_;omega
 .rw[aq h];refine ai func161 ?_;simp only[go_sem,seval,ntmps161];refine br (l) ?_;simp only[go_sem,seval,h]
theorem LR (k c m z:Z):bE prog 165 [.str k,.str c,.str m,.str z] (.aZ [.str (pV k c m z).1,.i64 (pV k c m z).2]):=by
 have q:=Qu k c m z 2016;unfold pV;by_cases h:oY k c m z 2016=0
 .obtain⟨t,u,l,p⟩:=HW _ _ _ _ _ h;rw[h] at q;rw[aM h];by_cases i:z.length<16
  .have a:(z.length:Int)<16:=I;rw[aM i];refine ai func165 ?_;simp only[go_sem,seval,ntmps165];refine br (q) ?_;simp only[go_sem,seval,a]
  .have a:¬ (z.length:Int)<16:=I;rw[aq i];have e:bh ((z.length:Int)-16)=((z.length-16:Nat):Int):=by rw[bC I I];omega
   have r:((z.length-16:Nat):Int)<=(z.length:Int):=I;have w:(0:Int)<=((z.length-16:Nat):Int):=I;have b:(z.take (z.length-16)).length=z.length-16:=by rw[cF];omega
   have o:∀ n,(jZ k c n).length=64:=fun n=>A9 k c n t u
   have g:=RZ k c 1#32 (z.take (z.length-16)) (jZ k c) o (fun n=>IC k c n t u) t u I;have v:=ML k c m (z.take (z.length-16)) t u l I;have d:(lN k c m (z.take (z.length-16))).length=16:=CY _ _;generalize j:z.take (z.length-16)=s at b g v d |-
   generalize xored (jZ k c) 1#32 s=x at g |-
   by_cases f:s++lN k c m s=z
   .rw[aM f];refine ai func165 ?_;simp only[go_sem,seval,ntmps165];refine br (q) ?_;refine Nm a e r w j ?_;refine br (v) ?_;refine i9 f b d ?_;refine⟨I,?_⟩;refine br (g) ?_;simp only[go_sem,seval]
   .rw[aq f];refine ai func165 ?_;simp only[go_sem,seval,ntmps165];refine br (q) ?_;refine Nm a e r w j ?_;refine br (v) ?_;refine i9 f b d ?_;omega
 .rw[aq h];refine ai func165 ?_;simp only[go_sem,seval,ntmps165];refine br (q) ?_;simp only[go_sem,seval,h]
def mg (f:Z->Z->Z->Z->Z×Int)(k c m t:Z):Z×Int:=if k.length=32/\c.length=24 then f (AL k (c.take 16)) (List.replicate 4 0#8++c.drop 16) m t else([],1)
theorem PQ (g:Nat)(f:Z->Z->Z->Z->Z×Int)(a:iu prog g=true)(p:∀ k c m t,bE prog g [.str k,.str c,.str m,.str t] (.aZ [.str (f k c m t).1,.i64 (f k c m t).2]))(k c m t:Z):
  bE prog 160 [.str k,.str c,.str m,.str t,.fn g [] []] (.aZ [.str (mg f k c m t).1,.i64 (mg f k c m t).2]):=by
 unfold mg;by_cases h:k.length=32/\c.length=24
 .obtain⟨l,n⟩:=h;have b:(c.length:Int)=24:=I;have e:=ajV k (c.take 16) l (by rw[cF];omega);have i:=p (AL k (c.take 16)) (List.replicate 4 0#8++c.drop 16) m t;rw[aM ⟨l,n⟩];have j:bytesOf ⟨#[0,0,0,0]⟩=List.replicate 4 0#8:=rfl;have d:c.take 24=c:=bq I;refine ai func160 ?_;simp only[go_sem,seval,ntmps160,l,n];refine br (e) ?_;refine i9 j d b ?_;refine⟨I,?_⟩;refine br (i) ?_;simp only[go_sem,seval]
 .rw[aq h];by_cases l:k.length=32
  .have n:¬ (c.length:Int)=24:=I;refine ai func160 ?_;simp only[go_sem,seval,ntmps160,results160,l,n]
  .have o:¬ (k.length:Int)=32:=I;refine ai func160 ?_;simp only[go_sem,seval,ntmps160,results160,o]
theorem ajQ (k c m t:Z):bE prog 132 [.str k,.str c,.str m,.str t] (.aZ [.str (mg iP k c m t).1,.i64 (mg iP k c m t).2]):=by
 have h:=PQ 161 iP U Rc k c m t;refine ai func132 ?_;simp only[go_sem,seval,ntmps132];refine br (h) ?_;simp only[go_sem,seval]
theorem acU (k c m t:Z):bE prog 147 [.str k,.str c,.str m,.str t] (.aZ [.str (mg pV k c m t).1,.i64 (mg pV k c m t).2]):=by
 have h:=PQ 165 pV U LR k c m t;refine ai func147 ?_;simp only[go_sem,seval,ntmps147];refine br (h) ?_;simp only[go_sem,seval]
def jR:Z:=[0#8,0#8,0#8,0#8]
def eV (s:Int)(n:aS):Z:=if s=1 then jR++bX n.toNat 8 else jR++cK n.toNat 8
theorem Tu (n:aS):bE prog 236 [.agg [],.u64 n] (.str (jR++bX n.toNat 8)):=by
 have a:=xK jR n ag;have b:=dQ n.toNat 8;rw[show jR.length=4 from rfl] at a;unfold jR at a |-
 generalize bX n.toNat 8=z at*;have c:z.take 8=z:=bq I;refine ai func236 ?_;simp only[go_sem,seval,ntmps236];refine am [1] a ?_;simp only[go_sem,seval,b,c]
theorem TJ (n:aS):bE prog 240 [.agg [],.u64 n] (.str (jR++cK n.toNat 8)):=by
 have a:=D2 jR n ag;have b:=fD n.toNat 8;rw[show jR.length=4 from rfl] at a;unfold jR at a |-
 generalize cK n.toNat 8=z at*;have c:z.take 8=z:=bq I;refine ai func240 ?_;simp only[go_sem,seval,ntmps240];refine am [1] a ?_;simp only[go_sem,seval,b,c]
theorem afD (k c m t:Z):bE prog 238 [.agg [],.str k,.str c,.str m,.str t] (.aZ [.str (iP k c m t).1,.i64 (iP k c m t).2]):=by
 have h:=Rc k c m t;generalize iP k c m t=g at*;refine ai func238 ?_;simp only[go_sem,seval,ntmps238];refine br (h) ?_;simp only[go_sem,seval]
theorem adx (k c m t:Z):bE prog 237 [.agg [],.str k,.str c,.str m,.str t] (.aZ [.str (pV k c m t).1,.i64 (pV k c m t).2]):=by
 have h:=LR k c m t;generalize pV k c m t=g at*;refine ai func237 ?_;simp only[go_sem,seval,ntmps237];refine br (h) ?_;simp only[go_sem,seval]
theorem acY:kr prog 261 "souterrain/noise.nonce"=some 236:=U
theorem aeM:kr prog 261 "souterrain/noise.seal"=some 238:=U
theorem Vr:kr prog 261 "souterrain/noise.open"=some 237:=U
theorem adU:kr prog 262 "souterrain/noise.nonce"=some 240:=U
theorem ajh:kr prog 262 "souterrain/noise.seal"=some 242:=U
theorem Uy:kr prog 262 "souterrain/noise.open"=some 241:=U
theorem Ga:(#[]:Array Operand).isEmpty=true:=rfl
def Ru (a b:Nat):Prop:=a=b+16
def CE:Nat->BitVec 8->BitVec 8->BitVec 8->BitVec 8
 |0,_,_,n=>n
 |k+1,a,b,n=>if 0#8<b then CE k (a<<<1 ^^^ a>>>7*27) (b>>>1) (n ^^^ a*(b&&&1)) else n
def pg (a b:BitVec 8):BitVec 8:=CE 8 a b 0
theorem yB (a b:BitVec 8):bE prog 256 [.u8 a,.u8 b] (.u8 (pg a b)):=by
 refine ai func256 ?_;simp only[go_sem,seval,ntmps256];refine cG (fun j s=>∃ e c f,s=⟨[(0,.u8 e),(1,.u8 c),(5,.u8 f)],[]⟩/\c.toNat<2^j/\pg a b=CE j e c f) ?_ ?_
 .exact dh 8 ⟨[(0,.u8 a),(1,.u8 b),(5,.u8 0)],[]⟩ gJ rfl (fun _ _ h=>h) ⟨a,b,0,rfl,b.isLt,rfl⟩
 .rintro j s ⟨e,c,f,rfl,d,i⟩ _;refine aH ?_;split
  .rename_i g;cases j with
   |zero=>exact absurd g (by rw[Bz];simp;omega)
   |succ j=>
    refine cH j ⟨[(0,.u8 (e<<<1 ^^^ e>>>7*27)),(1,.u8 (c>>>1)),(5,.u8 (f ^^^ e*(c&&&1)))],[]⟩ I gJ rfl (fun _ _ h=>h) ⟨_,_,_,rfl,?_,?_⟩
    .simp[tI];omega
    .rw[i,CE,aM g]
  .rename_i g;rw[i];cases j with
   |zero=>rfl
   |succ j=>rw[CE,aq g]
def nx (a:Nat):Nat:=(a*2%256) ^^^ (a/128*27)
def JY:Nat->BitVec 8->BitVec 8->BitVec 8
 |0,n,_=>n
 |k+1,n,s=>JY k (pg n (pg s s)) (pg s s)
def vI (a:BitVec 8):BitVec 8:=JY 7 1 a
theorem aj3 (a:BitVec 8):bE prog 266 [.u8 a] (.u8 (vI a)):=by
 refine ai func266 ?_;simp only[go_sem,seval,ntmps266];refine cG (fun j s=>∃ (i:Nat) (n q:BitVec 8),i+j=7/\s=⟨[(3,.u8 n),(4,.u8 q),(6,.i64 i)],[]⟩/\vI a=JY j n q) ?_ ?_
 .exact dh 7 ⟨[(3,.u8 1),(4,.u8 a),(6,.i64 (0:Nat))],[]⟩ gJ rfl (fun _ _ h=>h) ⟨0,1,a,I,rfl,rfl⟩
 .rintro j s ⟨i,n,q,c,rfl,b⟩ _;refine aH ?_;split
  .refine br (yB _ _) (aH ?_);refine br (yB _ _) (aH ?_);obtain⟨j,rfl⟩:∃ k,j=k+1:=⟨j-1,I⟩;refine cH j ⟨[(3,.u8 (pg n (pg q q))),(4,.u8 (pg q q)),(6,.i64 (i+1:Nat))],[]⟩ I ?_ rfl (fun _ _ h=>h) ⟨i+1,_,_,I,rfl,b⟩;have :bh ((i:Int)+1)=((i+1:Nat):Int):=by rw[bC I I];omega
   simp[St.get,lookS,this]
  .obtain rfl:j=0:=I;rw[b];rfl
theorem LV (i:Nat):BitVec.ofInt 8 (i:Int)=BitVec.ofNat 8 i:=G9 8 i
def MN (x:BitVec 8)(k:Nat):BitVec 8:=x<<<k|||x>>>(8-k)
theorem XI (n:Int):(BitVec.ofInt 64 n&&&7#64).toNat=(n%8).toNat:=by
 rw[tP,rO,show(7#64).toNat=2^3-1 from rfl,xk];omega
theorem abE (x:BitVec 8)(n:Int):bE prog 267 [.u8 x,.i64 n] (.u8 (MN x (n%8).toNat)):=by
 have e:=XI n;have a:(8#64-(BitVec.ofInt 64 n&&&7#64)).toNat=8-(n%8).toNat:=by
  rw[CR,e];have :(8#64).toNat=8:=rfl;rw[this];omega
 refine ai func267 ?_;simp only[go_sem,seval,ntmps267,results267,e,a];rfl
def ya (b:BitVec 8):Nat->BitVec 8
 |0=>b ^^^ 99#8
 |i+1=>ya b i ^^^ MN b (((i+1:Nat):Int)%8).toNat
def gO (a:BitVec 8):BitVec 8:=ya (vI a) 4
theorem Uv (a:BitVec 8):bE prog 255 [.u8 a] (.u8 (gO a)):=by
 refine ai func255 ?_;simp only[go_sem,seval,ntmps255];refine br (aj3 _) (aH ?_);refine cG (fun j d=>∃ i:Nat,i+j=4/\d=⟨[(3,.u8 (vI a)),(4,.u8 (ya (vI a) i)),(10,.i64 i)],[]⟩) ?_ ?_
 .exact dh (4) ⟨[(3,.u8 (vI a)),(4,.u8 (ya (vI a) (0:Nat))),(10,.i64 (0:Nat))],[]⟩ (by simp[St.get,lookS,ya]) rfl (fun _ _ h=>h) ⟨0,I,rfl⟩
 rintro j d ⟨i,g,rfl⟩ _;refine aH ?_;by_cases f:i<4
 .have b:(i:Int)<4:=I;have e:bh ((i:Int)+1)=((i+1:Nat):Int):=by rw[bC I I];omega
  refine d9 b e ?_;refine br (abE _ _) (aH ?_);refine cH (j-1) ⟨[(3,.u8 (vI a)),(4,.u8 (ya (vI a) (i+1:Nat))),(10,.i64 (i+1:Nat))],[]⟩ I ?_ rfl (fun _ _ h=>h) ⟨i+1,I,rfl⟩;have c:bh ((i:Int)+1)=((i+1:Nat):Int):=by rw[bC I I];omega
  simp[St.get,lookS,c,ya]
 .have b:¬ (i:Int)<4:=I;refine aL b ?_;obtain rfl:i=4:=I;rfl
def jH:Nat->Z
 |0=>List.replicate 512 0#8
 |i+1=>((jH i).set i (gO (BitVec.ofNat 8 i))).set (256+(gO (BitVec.ofNat 8 i)).toNat) (BitVec.ofNat 8 i)
theorem Bl (i:Nat):(jH i).length=512:=by
 induction i with
 |zero=>rw[jH,kV]
 |succ i ih=>rw[jH,b7,b7,ih]
theorem Ok {l:Z}{i j:Nat}{x:BitVec 8}(h:i≠j):(l.set i x).getD j 0=l.getD j 0:=by
 rw[bY,mV h,<-bY]
theorem VL {l:Z}{i:Nat}{x:BitVec 8}(h:i<l.length):(l.set i x).getD i 0=x:=by
 rw[bY,kF h];rfl
theorem ajF (i:Nat)(hi:i<=256):∀ b:BitVec 8,b.toNat<i->(jH i).getD b.toNat 0=gO b:=by
 induction i with
 |zero=>intro b h;omega
 |succ i ih=>
  intro b h;have c:=Bl i;rw[jH,Ok (by have :=b.isLt;omega)];by_cases e:b.toNat=i
  .have a:BitVec.ofNat 8 i=b:=by rw[<-e];simp
   rw[e,VL I,a]
  .rw[Ok I,ih I b I]
theorem GM (b:BitVec 8):(jH 256).getD b.toNat 0=gO b:=ajF 256 (bz _) b b.isLt
theorem Xc:bp prog 250 [] [] (.ptr 0 0) [bK ((jH 256).map .u8)]:=by
 refine ak func250 ?_;simp only[go_sem,seval,ntmps250];refine cG (fun c l=>∃ i:Nat,i+c=256/\l=⟨[(1,.ptr 0 0),(6,.i64 i)],[bK ((jH i).map .u8)]⟩) ?_ ?_
 .exact dh (256) ⟨[(1,.ptr 0 0),(6,.i64 (0:Nat))],[bK ((jH (0:Nat)).map .u8)]⟩ gJ rfl (fun _ _ h=>h) ⟨0,I,rfl⟩
 rintro c l ⟨i,p,rfl⟩ _;refine aH ?_;have g:=Bl i;by_cases m:i<256
 .have a:(i:Int)<256:=I;have j:=(gO (BitVec.ofNat 8 i)).isLt;have b:((gO (BitVec.ofNat 8 i)).toNat:Int)<256:=I;have k:(0:Int)<=((gO (BitVec.ofNat 8 i)).toNat:Int):=I;have d:((jH i).set i (gO (BitVec.ofNat 8 i))).set (256+(gO (BitVec.ofNat 8 i)).toNat) (BitVec.ofNat 8 i)=jH (i+1):=rfl;have n:i<512:=I;have o:256+(gO (BitVec.ofNat 8 i)).toNat<512:=I;have e:∀ x,((jH i).set i x).length=512:=fun x=>by rw[b7,g]
  refine d9 a @LV ?_;refine br (Uv _) ?_;refine qa9 @LV a b k g e d ?_;refine⟨I,I,I,U,?_⟩;refine cH (c-1) ⟨[(1,.ptr 0 0),(6,.i64 (i+1:Nat))],[bK ((jH (i+1:Nat)).map .u8)]⟩ I ?_ rfl (fun _ _ h=>h) ⟨i+1,I,rfl⟩;have f:bh ((i:Int)+1)=((i+1:Nat):Int):=by rw[bC I I];omega
  simp[St.get,lookS,f]
 .obtain rfl:i=256:=I;have a:¬ ((256:Nat):Int)<256:=I;refine aH ?_;exact Fin.bd [0] J J ci ag J J
end Go.Vm
end
section
namespace Go.Vm
open Go.Proofs
def AD (s:Z):Z:=s.map gO
def p2:Nat->BitVec 8
 |0=>1#8
 |k+1=>pg (p2 k) 2#8
def gW (n i:Nat)(w:Z):Z:=if i%n=0 then cx (AD (w.drop 1++w.take 1)) (p2 (i/n-1)::List.replicate 3 0#8) else if n=8/\i%8=4 then AD w else w
def wl (a:Z)(n:Nat):Nat->List Z
 |0=>[]
 |i+1=>if i<n then wl a n i++[(a.drop (4*i)).take 4] else wl a n i++[cx ((wl a n i).getD (i-n) []) (gW n i ((wl a n i).getD (i-1) []))]
theorem Hn (a:Z)(n i:Nat):(wl a n i).length=i:=by
 induction i with
 |zero=>rfl
 |succ i ih=>rw[wl];split <;>(rw[bA,ih];rfl)
theorem OK (s:Z):(AD s).length=s.length:=by unfold AD;rw[cq]
theorem Vl (n i:Nat)(w:Z)(h:w.length=4):(gW n i w).length=4:=by
 unfold gW;split
 .rw[oV,OK,bA,dO,cF,h];rfl
 .split
  .rw[OK,h]
  .exact h
theorem El {l:List Z}{i:Nat}(h:i<l.length):l.getD i []∈l:=by
 rw[bY,bn h];exact eM h
theorem Mi (d:Z)(n:Nat)(a:0<n)(b:d.length=4*n)(i:Nat):∀ w∈wl d n i,w.length=4:=by
 induction i with
 |zero=>intro w h;simp[wl] at h
 |succ i ih=>
  intro w e;have c:=Hn d n i;rw[wl] at e;split at e
  .rcases gZ.1 e with h|h
   .exact ih w h
   .rw[oQ.1 h,cF,dO];omega
  .rcases gZ.1 e with h|h
   .exact ih w h
   .rw[oQ.1 h,oV,Vl _ _ _ (ih _ (El I)),ih _ (El I)];rfl
end Go.Vm
end
section
namespace Go.Vm
open Go.Proofs Go.Proofs.Tryz
theorem Lj (e:Z)(n:Nat)(b:0<n)(c:e.length=4*n)(i:Nat):(wl e n i).flatten.length=4*i:=by
 have a:=Mi e n b c i;have d:=Hn e n i;generalize wl e n i=l at*;subst d;induction l with
 |nil=>rfl
 |cons x l ih=>rw[wT,bA,a x J,ih (fun w f=>a w (by simp[f])),dM];omega
theorem aav (b:Z)(n:Nat)(a:b.length=4*n)(i:Nat)(hi:i<=n):(wl b n i).flatten=b.take (4*i):=by
 induction i with
 |zero=>rfl
 |succ i ih=>
  rw[wl,aM I,Ia,ih I];rw[show 4*(i+1)=4*i+4 by omega,List.take_add];simp
theorem YM (l:List Z)(b:∀ w∈l,w.length=4)(i k:Nat)(hi:i<l.length)(d:k<4):l.flatten.getD (4*i+k) 0=(l.getD i []).getD k 0:=by
 induction l generalizing i with
 |nil=>simp at hi
 |cons x l ih=>
  have c:=b x J;cases i with
  |zero=>rw[wT,bY,kY I];simp[bY]
  |succ i=>
   have a:i<l.length:=by rw[dM] at hi;omega
   rw[wT,bY,iy I,c,show 4*(i+1)+k-4=4*i+k by omega,<-bY,ih (fun w e=>b w (by simp[e])) i a];simp
theorem U6 (l:List Z)(c:∀ w∈l,w.length=4)(i:Nat)(hi:i<l.length):(l.flatten.drop (4*i)).take 4=l.getD i []:=by
 induction l generalizing i with
 |nil=>simp at hi
 |cons x l ih=>
  have a:=c x J;cases i with
  |zero=>rw[wT,Nat.mul_zero,nW,<-a,List.take_left];rfl
  |succ i=>
   have b:i<l.length:=by rw[dM] at hi;omega
   rw[wT,show 4*(i+1)=4+4*i by omega,<-l9,<-a,List.drop_left,a,ih (fun w d=>c w (by simp[d])) i b];simp
theorem Ti (l:Z)(h:l.length=4):∃ a b c d,l=[a,b,c,d]:=by
 match l,h with
 |[a,b,c,d],_=>exact⟨a,b,c,d,rfl⟩
theorem FN (w x y z a b c d:V):cC [w,x,y,z] 0 [a,b,c,d]=[a,b,c,d]:=rfl
theorem VT (e:Z)(n:Nat)(P:n=4\/n=8)(p:e.length=4*n):bp prog 251 [.ptr 0 0,.str e] [bK ((jH 256).map .u8)] (.str (wl e n (4*(n+7))).flatten) [bK ((jH 256).map .u8)]:=by
 have e0:bh ((e.length:Int).tdiv 4)=(n:Int):=by rw[show(4:Int)=((4:Nat):Int) from rfl,Mk,bC I I];omega
 have A:bh ((n:Int)+7)=((n+7:Nat):Int):=by rw[bC I I];omega
 have B:bh (4*((n+7:Nat):Int))=((4*(n+7):Nat):Int):=by rw[bC I I];omega
 have a6:(wl e n n).flatten=e:=by rw[aav e n p n (bz n),<-p,oR]
 generalize hN:4*(n+7)=N at*;have hT:=GM;have C:=Bl 256;generalize jH 256=T at*;have b3:e.length<=1000:=I;have a7:(n-1)/n=0:=by rcases P with rfl|rfl<;>rfl
 refine ak func251 ?_;simp only[go_sem,seval,-BitVec.isValue,ntmps251,e0];refine⟨I,?_⟩;refine cG (fun j st=>∃ i:Nat,i+j=N/\n<=i/\st=⟨[(0,.ptr 0 0),(5,.i64 n),(6,.slice 1 0 (4*i) 1),(7,.u8 (p2 ((i-1)/n))),(8,.i64 i)],[bK (T.map .u8),bK ((wl e n i).flatten.map .u8)]⟩) ?_ ?_
 .exact dh (N-n) ⟨[(0,.ptr 0 0),(5,.i64 n),(6,.slice 1 0 (4*n) 1),(7,.u8 (p2 ((n-1)/n))),(8,.i64 n)],[bK (T.map .u8),bK ((wl e n n).flatten.map .u8)]⟩ (by simp[St.get,lookS,a7,p2,p]) rfl (by rw[a6];exact fun _ _ h=>h) ⟨n,I,I,rfl⟩
 rintro j st ⟨i,hi,c2,rfl⟩ _;have b4:=Hn e n i;have q:=Mi e n I p i;have g:=Lj e n I p i;have s:bh ((i:Int)+1)=((i+1:Nat):Int):=by rw[bC I I];omega
 by_cases b5:i<N
 .have f:(i:Int)<(N:Int):=I;have Q:bh (((4*i:Nat):Int)-4)=((4*(i-1):Nat):Int):=by rw[bC I I];omega
  have R:((4*(i-1):Nat):Int)<=((4*i:Nat):Int):=I;have S:(0:Int)<=((4*(i-1):Nat):Int):=I;have z5:4*i-4*(i-1)=4:=I;have W:(((4*i:Nat):Int)-((4*(i-1):Nat):Int)).toNat=4:=I;have X:4*(i-1)+4<=4*i:=I;have Y:¬ (n:Int)=0:=I;have tm:(i:Int).tmod (n:Int)=((i%n:Nat):Int):=rfl;have D:i-1<(wl e n i).length:=I;have E:i-n<(wl e n i).length:=I;have F:=U6 (wl e n i) q (i-1) D;have w1:=q _ (El D);have w2:=q _ (El E);have x:=fun k p=>YM (wl e n i) q (i-n) k E p
  obtain⟨l,M⟩:∃ l,l=(wl e n i).getD (i-1) []:=⟨_,rfl⟩;obtain⟨r,O⟩:∃ r,r=(wl e n i).getD (i-n) []:=⟨_,rfl⟩;rw[<-M] at w1 F;rw[<-O] at w2 x;have a8:wl e n (i+1)=wl e n i++[cx r (gW n i l)]:=by rw[wl,aq I,<-M,<-O]
  have t:(wl e n (i+1)).flatten=(wl e n i).flatten++cx r (gW n i l):=by rw[a8,Ia];simp
  obtain⟨a,b,c,d,rfl⟩:=Ti l w1;obtain⟨x0,x1,x2,x3,rfl⟩:=Ti r w2;have G:∀ b:BitVec 8,(T.map V.u8).getD b.toNat .bH= .u8 (gO b):=fun b=>by rw[nB (by have :=b.isLt;omega),hT]
  have H:∀ b:BitVec 8,(b.toNat:Int)<256:=fun b=>by have :=b.isLt;omega
  have K:∀ b:BitVec 8,(0:Int)<=(b.toNat:Int):=fun b=>by omega
  have L:∀ b:BitVec 8,b.toNat<512:=fun b=>by have :=b.isLt;omega
  have b6:∀ b:BitVec 8,b.toNat<256:=fun b=>by have :=b.isLt;omega
  generalize c0:(wl e n i).flatten=w at*;have y0:bh ((i:Int)-(n:Int))=((i-n:Nat):Int):=by rw[bC I I];omega
  have y1:bh (4*((i-n:Nat):Int))=((4*(i-n):Nat):Int):=by rw[bC I I];omega
  have y2:bh (((4*(i-n):Nat):Int)+0)=((4*(i-n):Nat):Int):=by rw[bC I I];omega
  have y3:bh (((4*(i-n):Nat):Int)+1)=((4*(i-n)+1:Nat):Int):=by rw[bC I I];omega
  have y4:bh (((4*(i-n):Nat):Int)+2)=((4*(i-n)+2:Nat):Int):=by rw[bC I I];omega
  have y5:bh (((4*(i-n):Nat):Int)+3)=((4*(i-n)+3:Nat):Int):=by rw[bC I I];omega
  have k0:4*(i-n)<w.length:=I;have k1:4*(i-n)<4*i:=I;have k2:((4*(i-n):Nat):Int)<((4*i:Nat):Int):=I;have k3:(0:Int)<=((4*(i-n):Nat):Int):=I;have g0:w.getD (4*(i-n)) 0=x0:=x 0 ag;have hG:∀ k,k<4->∀ ys:Z,(List.map V.u8 (w++ys)).getD (4*(i-n)+k) .bH= .u8 ([x0,x1,x2,x3].getD k 0):=by
   intro k p ys;have b0:4*(i-n)+k<w.length:=I;rw[nB (by rw[bA];omega),bY,kY b0,<-bY,x k p]
  have g1:=hG 1 ag;have g2:=hG 2 ag;have g3:=hG 3 ag;have c1:w.take (4*i)=w:=bq I;have k4:4*(i-n)+1<4*i:=I;have k5:4*(i-n)+2<4*i:=I;have k6:4*(i-n)+3<4*i:=I;by_cases u:i%n=0
  .have m:((i%n:Nat):Int)=0:=I;have hq:(i-1)/n=i/n-1:=by rcases P with rfl|rfl<;>omega
   have b2:i/n=(i/n-1)+1:=by rcases P with rfl|rfl<;>omega
   have hp:p2 (i/n)=pg (p2 (i/n-1)) 2#8:=by rw[b2];rfl
   have y:gW n i [a,b,c,d]=[gO b ^^^ p2 (i/n-1),gO c,gO d,gO a]:=by unfold gW;rw[aM u];simp[AD,cx]
   rw[hq];simp only[go_sem,seval,-BitVec.isValue,A,B,f,g,Q,R,S,W,X,Y,tm,m,F,FN];refine ij 4 ?_;refine qd0 G H K L C ?_;refine⟨U,U,U,?_⟩;refine br (yB _ _) ?_;simp only[go_sem,seval,-BitVec.isValue,<-hp];refine ij 5 ?_;simp only[go_sem,seval,-BitVec.isValue,y0,y1,y2,y3,y4,y5,k1,k2,k3,nB k0,g0,g,hZ,g1,g2,g3,bq];refine⟨⟨I,I⟩,⟨I,I⟩,I,⟨I,I⟩,⟨I,I⟩,I,⟨I,I⟩,⟨I,I⟩,I,⟨I,I⟩,?_⟩;refine lc (j-1) ⟨[(0,.ptr 0 0),(5,.i64 n),(6,.slice 1 0 (4*(i+1:Nat)) 1),(7,.u8 (p2 (((i+1:Nat)-1)/n))),(8,.i64 (i+1:Nat))],[bK (T.map .u8),bK ((wl e n (i+1:Nat)).flatten.map .u8)]⟩ [0,10] I rfl J rfl ag ?_ ?_ ⟨i+1,I,I,rfl⟩
   .rw[show(i+1-1)/n=i/n by rw[D5]];simp[iC,St.get,lookS,s,hp,qQ]
   .rw[t,y];simp[cx]
  .have m:¬ ((i%n:Nat):Int)=0:=I;have hq:(i-1)/n=i/n:=by rcases P with rfl|rfl<;>omega
   rw[hq];by_cases v:n=8
   .have o:((n:Int)=8)=True:=gg I;by_cases h4:i%n=4
    .have z:((i%n:Nat):Int)=4:=I;have y:gW n i [a,b,c,d]=[gO a,gO b,gO c,gO d]:=by unfold gW;rw[aq u,aM ⟨v,v▸h4⟩];simp[AD]
     simp only[go_sem,seval,-BitVec.isValue,A,B,f,g,Q,R,S,W,X,Y,tm,F,FN,o,z];refine ij 5 ?_;refine qd0 G H K L C ?_;refine ij 5 ?_;simp only[go_sem,seval,-BitVec.isValue,y0,y1,y2,y3,y4,y5,k1,k2,k3,nB k0,g0,g,hZ,g1,g2,g3,bq];refine⟨⟨I,I⟩,⟨I,I⟩,I,⟨I,I⟩,⟨I,I⟩,I,⟨I,I⟩,⟨I,I⟩,I,⟨I,I⟩,?_⟩;refine lc (j-1) ⟨[(0,.ptr 0 0),(5,.i64 n),(6,.slice 1 0 (4*(i+1:Nat)) 1),(7,.u8 (p2 (((i+1:Nat)-1)/n))),(8,.i64 (i+1:Nat))],[bK (T.map .u8),bK ((wl e n (i+1:Nat)).flatten.map .u8)]⟩ [0,10] I rfl J rfl ag ?_ ?_ ⟨i+1,I,I,rfl⟩
     .rw[show(i+1-1)/n=i/n by rw[D5]];simp[iC,St.get,lookS,s,lq,qQ]
     .rw[t,y];simp[cx]
    .have z:¬ ((i%n:Nat):Int)=4:=I;have y:gW n i [a,b,c,d]=[a,b,c,d]:=by unfold gW;rw[aq u,aq (fun h=>h4 (by rw[v];exact h.2))]
     simp only[go_sem,seval,-BitVec.isValue,A,B,f,g,Q,R,S,W,X,Y,tm,m,F,FN,o,z];refine ij 5 ?_;simp only[go_sem,seval,-BitVec.isValue,y0,y1,y2,y3,y4,y5,k1,k2,k3,nB k0,g0,g,hZ,g1,g2,g3,bq];refine⟨⟨I,I⟩,⟨I,I⟩,I,⟨I,I⟩,⟨I,I⟩,I,⟨I,I⟩,⟨I,I⟩,I,⟨I,I⟩,?_⟩;refine lc (j-1) ⟨[(0,.ptr 0 0),(5,.i64 n),(6,.slice 1 0 (4*(i+1:Nat)) 1),(7,.u8 (p2 (((i+1:Nat)-1)/n))),(8,.i64 (i+1:Nat))],[bK (T.map .u8),bK ((wl e n (i+1:Nat)).flatten.map .u8)]⟩ [0,10] I rfl J rfl ag ?_ ?_ ⟨i+1,I,I,rfl⟩
     .rw[show(i+1-1)/n=i/n by rw[D5]];simp[iC,St.get,lookS,s,lq,qQ]
     .rw[t,y];simp[cx]
   .have o:¬ (n:Int)=8:=I;have y:gW n i [a,b,c,d]=[a,b,c,d]:=by unfold gW;rw[aq u,aq (fun h=>v h.1)]
    simp only[go_sem,seval,-BitVec.isValue,A,B,f,g,Q,R,S,W,X,Y,tm,m,F,FN,o];refine ij 5 ?_;simp only[go_sem,seval,-BitVec.isValue,y0,y1,y2,y3,y4,y5,k1,k2,k3,nB k0,g0,g,hZ,g1,g2,g3,bq];refine⟨⟨I,I⟩,⟨I,I⟩,I,⟨I,I⟩,⟨I,I⟩,I,⟨I,I⟩,⟨I,I⟩,I,⟨I,I⟩,?_⟩;refine lc (j-1) ⟨[(0,.ptr 0 0),(5,.i64 n),(6,.slice 1 0 (4*(i+1:Nat)) 1),(7,.u8 (p2 (((i+1:Nat)-1)/n))),(8,.i64 (i+1:Nat))],[bK (T.map .u8),bK ((wl e n (i+1:Nat)).flatten.map .u8)]⟩ [0,10] I rfl J rfl ag ?_ ?_ ⟨i+1,I,I,rfl⟩
    .rw[show(i+1-1)/n=i/n by rw[D5]];simp[iC,St.get,lookS,s,lq,qQ]
    .rw[t,y];simp[cx]
 .obtain rfl:i=N:=I;have f:¬ (i:Int)<(i:Int):=I;refine qc8 A B f g ?_;exact Fin.bd [0] J J ci ag J J
theorem abo (e:Z):bE prog 249 [.str e] (.bool (decide (e.length=16\/e.length=32))):=by
 by_cases a:e.length=16
 .have f:(e.length:Int)=16:=I;have b:decide (e.length=16\/e.length=32)=true:=by simp[a]
  rw[b];refine ai func249 ?_;simp only[go_sem,seval,ntmps249,results249,f]
 .have f:¬ (e.length:Int)=16:=I;by_cases c:e.length=32
  .have g:(e.length:Int)=32:=I;have d:¬ (32:Int)=16:=ag;have b:decide (e.length=16\/e.length=32)=true:=by simp[c]
   rw[b];refine ai func249 ?_;simp only[go_sem,seval,ntmps249,results249,g,d]
  .have g:¬ (e.length:Int)=32:=I;have b:decide (e.length=16\/e.length=32)=false:=by simp[a,c]
   rw[b];refine ai func249 ?_;simp only[go_sem,seval,ntmps249,results249,f,g]
end Go.Vm
end
section
namespace Go.Vm
open Go.Proofs Go.RowKit
theorem Jy (s k:Z)(a:s.length=16)(f:16<=k.length)(d:k.length<=1000):bp Tryz.prog 262 [.ptr 0 0,.str k] [bK (s.map .u8)] (.aZ []) [bK ((cx s k).map .u8)]:=by
 have e:=Ds s k I I;have b:(cx s k).length=16:=by rw[oV];omega
 have c:cC (s.map V.u8) 0 (List.take 16 (List.map V.u8 (cx s k)))=(cx s k).map V.u8:=by rw[bq (by rw[cq,b];exact bz _),dC _ _ (by rw[cq,cq,b,a])]
 refine ak Tryz.func262 ?_;simp only[go_sem,seval,Tryz.ntmps262,a,bq];refine bZ (e) ?_;refine d9 b a ?_;refine⟨U,?_⟩;exact Fin.bd [0] J J ci ag J (by simp[c])
def mw (a b:Z)(i:Nat):Z:=a.take i++b.drop i
theorem HZ (a b:Z)(i:Nat)(h:a.length=b.length):(mw a b i).length=b.length:=by
 unfold mw;rw[bA,cF,dO];omega
theorem GC (a b:Z)(i:Nat)(h:a.length=b.length)(hi:i<b.length):(mw a b i).set i (a.getD i 0)=mw a b (i+1):=by
 unfold mw;rw[uD _ _ (by rw[cF];omega),cF,show i-min i a.length=0 by omega,wA hi,lF,zn I,hZ];rfl
theorem WK (a b:Z)(i k:Nat)(h:a.length=b.length)(d:i<=k)(c:k<b.length):(mw a b i).getD k 0=b.getD k 0:=by
 unfold mw;rw[bY,iy (by rw[cF];omega),cF,mA,show i+(k-min i a.length)=k by omega,<-bY]
theorem J7 (a b:Z)(h:a.length=b.length):mw a b b.length=a:=by
 unfold mw;rw[IK,jn,<-h,oR]
theorem acQ (f:BitVec 8->BitVec 8)(s:Z)(i:Nat)(h:i<s.length):(s.map f).getD i 0=f (s.getD i 0):=by
 rw[bY,bY,dU,bn h];rfl
theorem VO (s T:List (BitVec 8))(o:Nat)(f:BitVec 8→BitVec 8)(hs:s.length=16)(hT:T.length=512)(ho:o≤256)(hf:∀ b:BitVec 8,T.getD (o+b.toNat) 0=f b):bp Tryz.prog 263 [.ptr 0 0,.ptr 1 o] [some ⟨false,s.map .u8,none⟩,some ⟨false,T.map .u8,none⟩] (.aZ []) [some ⟨false,(s.map f).map .u8,none⟩,some ⟨false,T.map .u8,none⟩]:=by
 have hf':∀ b:BitVec 8,(T.map V.u8).getD (o+b.toNat) .bH= .u8 (f b):=fun b=>by rw[nB (by have :=b.isLt;omega),hf]
 have hb1:∀ b:BitVec 8,(b.toNat:Int)<256:=fun b=>by have :=b.isLt;omega
 have hb2:∀ b:BitVec 8,(0:Int)≤(b.toNat:Int):=fun b=>by omega
 have hb3:∀ b:BitVec 8,o+b.toNat<512:=fun b=>by have :=b.isLt;omega
 have hml:(s.map f).length=s.length:=List.length_map ..
 refine Fp (by kernel_rfl) (fn:=Tryz.f263) Tryz.func263 rfl (by show 2≤23;decide) (ce ?_)
 simp only[go_sem,↓reduceIte,Nat.reduceLT,Nat.reduceAdd,Tryz.ntmps263]
 refine cG (fun ji st=>∃ i:Nat,i+ji=16∧st=⟨[(0,.ptr 0 0),(1,.ptr 1 o),(6,.ptr 0 0),(7,.i64 i)],[some ⟨false,(mw (s.map f) s i).map .u8,none⟩,some ⟨false,T.map .u8,none⟩]⟩) ?_ ?_
 ·exact dh (16) ⟨[(0,.ptr 0 0),(1,.ptr 1 o),(6,.ptr 0 0),(7,.i64 (0:Nat))],[some ⟨false,(mw (s.map f) s (0:Nat)).map .u8,none⟩,some ⟨false,T.map .u8,none⟩]⟩ (by simp[St.get,lookS,-List.map_set,-List.map_map]) rfl (fun _ _ h=>h) ⟨0,by omega,rfl⟩
 rintro ji st ⟨i,hi,rfl⟩ _
 simp only[go_sem,↓reduceIte,Nat.reduceEqDiff,Nat.reduceLT,Nat.reduceAdd,reduceCtorEq]
 have hl:=HZ (s.map f) s i hml
 rw[hs] at hl
 by_cases h0:i<16
 ·have h0':(i:Int)<16:=by omega
  have zi:(0:Int)≤(i:Int):=by omega
  have ki:i<(mw (s.map f) s i).length:=by omega
  have ha:=WK (s.map f) s i i hml (Nat.le_refl _) (by omega)
  have hn:=GC (s.map f) s i hml (by omega)
  rw[acQ f s i (by omega)] at hn
  simp only[go_sem,↓reduceIte,Nat.reduceEqDiff,Nat.reduceLT,Nat.reduceLeDiff,Nat.reduceAdd,reduceCtorEq,h0',h0,zi,hl,hT,nB ki,ha,hf',hb1,hb2,hb3,hn]
  refine⟨by kernel_rfl,by omega,by kernel_rfl,?_⟩
  refine cH (ji-1) ⟨[(0,.ptr 0 0),(1,.ptr 1 o),(6,.ptr 0 0),(7,.i64 (i+1:Nat))],[some ⟨false,(mw (s.map f) s (i+1:Nat)).map .u8,none⟩,some ⟨false,T.map .u8,none⟩]⟩ (by omega) ?_ rfl (fun _ _ h=>h) ⟨i+1,by omega,rfl⟩
  have hw1:bh ((i:Int)+1)=((i+1:Nat):Int):=by rw[bC (by omega) (by omega)];omega
  simp[St.get,lookS,hw1,-List.map_set,-List.map_map]
 ·obtain rfl:i=16:=by omega
  have h0':¬ ((16:Nat):Int)<16:=by omega
  have he:=J7 (s.map f) s hml
  rw[hs] at he
  simp only[go_sem,↓reduceIte,Int.reduceLT,he]
  exact Fin.bd [0,1] (by simp) (by simp) (by rfl) (by decide) (by simp[-List.map_map,-List.map_set]) (by simp[-List.map_map,-List.map_set])
def Ao (f:Nat->BitVec 8):Z:=(List.range 16).map f
theorem Gc (f:Nat->BitVec 8):(Ao f).length=16:=by unfold Ao;rw[cq,CO]
theorem LS (f:Nat->BitVec 8)(i:Nat)(h:i<16):(Ao f).getD i 0=f i:=by
 unfold Ao;rw[bY,dU,tS h];rfl
def lV (k:Nat)(s:Z):Z:=Ao fun i=>s.getD (i%4+4*((i/4+k*(i%4))%4)) 0
theorem ahF (s:Z)(k:Nat)(a:s.length=16)(o:k<=3):bp Tryz.prog 264 [.ptr 0 0,.i64 k] [bK (s.map .u8)] (.aZ []) [bK ((lV k s).map .u8)]:=by
 have b:(lV k s).length=s.length:=by rw[a];exact Gc _
 have e:∀ z:List V,z.length=16->cC z 0 (s.map V.u8)=s.map V.u8:=fun z p=>dC _ _ (by rw[cq,a,p])
 have c:=e [.u8 0#8,.u8 0#8,.u8 0#8,.u8 0#8,.u8 0#8,.u8 0#8,.u8 0#8,.u8 0#8,.u8 0#8,.u8 0#8,.u8 0#8,.u8 0#8,.u8 0#8,.u8 0#8,.u8 0#8,.u8 0#8] rfl;have f:List.take 16 (s.map V.u8)=s.map V.u8:=bq (by rw[cq,a];exact bz _);refine ak Tryz.func264 ?_;simp only[go_sem,seval,-BitVec.isValue,Tryz.ntmps264,a,f,c];refine cG (fun g y=>∃ i:Nat,i+g=16/\y=⟨[(0,.ptr 0 0),(1,.i64 k),(4,.ptr 1 0),(11,.i64 i)],[bK ((mw (lV k s) s i).map .u8),bK (s.map .u8)]⟩) ?_ ?_
 .exact dh (16) ⟨[(0,.ptr 0 0),(1,.i64 k),(4,.ptr 1 0),(11,.i64 (0:Nat))],[bK ((mw (lV k s) s (0:Nat)).map .u8),bK (s.map .u8)]⟩ gJ rfl (fun _ _ h=>h) ⟨0,I,rfl⟩
 rintro g y ⟨i,N,rfl⟩ _;refine qc0 ?_;have m:=HZ (lV k s) s i b;rw[a] at m;by_cases A:i<16
 .have d:(i:Int)<16:=I;have r:(0:Int)<=(i:Int):=I;have t:k*(i%4)<=3*3:=uK o I;have n:=GC (lV k s) s i b I;have B:(i:Int).tmod 4=((i%4:Nat):Int):=rfl;have C:(i:Int).tdiv 4=((i/4:Nat):Int):=rfl;have j:bh ((i/4:Nat):Int)=((i/4:Nat):Int):=by rw[bC I I]
  have D:bh ((k:Int)*((i%4:Nat):Int))=((k*(i%4):Nat):Int):=by rw[show(k:Int)*((i%4:Nat):Int)=((k*(i%4):Nat):Int) from rfl,bC I I]
  have E:bh (((i/4:Nat):Int)+((k*(i%4):Nat):Int))=((i/4+k*(i%4):Nat):Int):=by rw[bC I I];omega
  have F:((i/4+k*(i%4):Nat):Int).tmod 4=(((i/4+k*(i%4))%4:Nat):Int):=rfl;generalize u:(i/4+k*(i%4))%4=q at*;have G:bh (4*(q:Int))=((4*q:Nat):Int):=by rw[bC I I];omega
  have H:bh (((i%4:Nat):Int)+((4*q:Nat):Int))=((i%4+4*q:Nat):Int):=by rw[bC I I];omega
  have v:(0:Int)<=((i%4+4*q:Nat):Int):=I;have K:((i%4+4*q:Nat):Int)<16:=I;have L:i%4+4*q<16:=I;have M:i%4+4*q<s.length:=I;have w:(lV k s).getD i 0=s.getD (i%4+4*q) 0:=by unfold lV;rw[LS _ i A,u]
  rw[w] at n;simp only[go_sem,seval,-BitVec.isValue,d,r,m,a,B,C,j,D,E,F,G,H,v,K,L,nB M,n];refine⟨I,U,?_⟩;refine cH (g-1) ⟨[(0,.ptr 0 0),(1,.i64 k),(4,.ptr 1 0),(11,.i64 (i+1:Nat))],[bK ((mw (lV k s) s (i+1:Nat)).map .u8),bK (s.map .u8)]⟩ I ?_ rfl (fun _ _ h=>h) ⟨i+1,I,rfl⟩;have l:bh ((i:Int)+1)=((i+1:Nat):Int):=by rw[bC I I];omega
  simp[St.get,lookS,l]
 .obtain rfl:i=16:=I;have d:¬ ((16:Nat):Int)<16:=I;have x:=J7 (lV k s) s b;rw[a] at x;refine qc2 x ?_;exact Fin.bd [0] J J ci ag J J
def mp (m s:Z)(i k:Nat):BitVec 8:=pg (m.getD ((k+4-i%4)%4) 0) (s.getD (4*(i/4)+k) 0)
def nT (m s:Z):Z:=Ao fun i=>0#8 ^^^ mp m s i 0 ^^^ mp m s i 1 ^^^ mp m s i 2 ^^^ mp m s i 3
theorem aeP (l:Z)(i:Nat)(x:BitVec 8)(h:i<l.length):(l.set i x).getD i 0=x:=by
 rw[bY,kF h];rfl
theorem W8 (s:Z)(m:Z)(b:s.length=16)(O:m.length=4):bp Tryz.prog 265 [.ptr 0 0,.agg (m.map .u8)] [bK (s.map .u8)] (.aZ []) [bK ((nT m s).map .u8)]:=by
 have c:(nT m s).length=s.length:=by rw[b];exact Gc _
 have e:cC [.u8 0#8,.u8 0#8,.u8 0#8,.u8 0#8,.u8 0#8,.u8 0#8,.u8 0#8,.u8 0#8,.u8 0#8,.u8 0#8,.u8 0#8,.u8 0#8,.u8 0#8,.u8 0#8,.u8 0#8,.u8 0#8] 0 (s.map V.u8)=s.map V.u8:=dC _ _ (by rw[cq,b];rfl);have o:List.take 16 (s.map V.u8)=s.map V.u8:=bq (by rw[cq,b];exact bz _);refine ak Tryz.func265 ?_;simp only[go_sem,seval,-BitVec.isValue,Tryz.ntmps265,b,o,e];refine cG (fun p S=>∃ i:Nat,i+p=16/\S=⟨[(0,.ptr 0 0),(3,.ptr 1 0),(4,.ptr 2 0),(12,.i64 i)],[bK ((mw (nT m s) s i).map .u8),bK (m.map .u8),bK (s.map .u8)]⟩) ?_ ?_
 .exact dh (16) ⟨[(0,.ptr 0 0),(3,.ptr 1 0),(4,.ptr 2 0),(12,.i64 (0:Nat))],[bK ((mw (nT m s) s (0:Nat)).map .u8),bK (m.map .u8),bK (s.map .u8)]⟩ gJ rfl (fun _ _ h=>h) ⟨0,I,rfl⟩
 rintro p S ⟨i,hi,rfl⟩ _;refine qc0 ?_;have d:=HZ (nT m s) s i c;rw[b] at d;by_cases N:i<16
 .have a:(i:Int)<16:=I;have u:(0:Int)<=(i:Int):=I;have t:=GC (nT m s) s i c I;have T:(i:Int).tmod 4=((i%4:Nat):Int):=rfl;have W:(i:Int).tdiv 4=((i/4:Nat):Int):=rfl;have q:bh ((i/4:Nat):Int)=((i/4:Nat):Int):=by rw[bC I I]
  have v:(nT m s).getD i 0=0#8 ^^^ mp m s i 0 ^^^ mp m s i 1 ^^^ mp m s i 2 ^^^ mp m s i 3:=by unfold nT;rw[LS _ i N]
  rw[v] at t;have X:bh ((0:Int)-((i%4:Nat):Int))=(0:Int)-((i%4:Nat):Int):=bC I I;have w:bh ((0:Int)-((i%4:Nat):Int)+4)=((4-i%4:Nat):Int):=by rw[bC I I];omega
  have Y:bh (((4*(i/4):Nat):Int)+0)=((4*(i/4):Nat):Int):=by rw[bC I I];omega
  have w0:(((4*(i/4):Nat):Int)<16)=True:=gg I;have x0:(4*(i/4)<16)=True:=gg I;have y:(s.map V.u8).getD (4*(i/4)) .bH= .u8 (s.getD (4*(i/4)) 0):=nB I;have z:pg (m.getD ((4-i%4)%4) 0) (s.getD (4*(i/4)) 0)=mp m s i 0:=rfl;have a1:bh ((1:Int)-((i%4:Nat):Int))=(1:Int)-((i%4:Nat):Int):=bC I I;have b1:bh ((1:Int)-((i%4:Nat):Int)+4)=((5-i%4:Nat):Int):=by rw[bC I I];omega
  have c1:bh (((4*(i/4):Nat):Int)+1)=((4*(i/4)+1:Nat):Int):=by rw[bC I I];omega
  have w1:(((4*(i/4)+1:Nat):Int)<16)=True:=gg I;have A:(4*(i/4)+1<16)=True:=gg I;have B:(s.map V.u8).getD (4*(i/4)+1) .bH= .u8 (s.getD (4*(i/4)+1) 0):=nB I;have C:pg (m.getD ((5-i%4)%4) 0) (s.getD (4*(i/4)+1) 0)=mp m s i 1:=rfl;have a2:bh ((2:Int)-((i%4:Nat):Int))=(2:Int)-((i%4:Nat):Int):=bC I I;have D:bh ((2:Int)-((i%4:Nat):Int)+4)=((6-i%4:Nat):Int):=by rw[bC I I];omega
  have E:bh (((4*(i/4):Nat):Int)+2)=((4*(i/4)+2:Nat):Int):=by rw[bC I I];omega
  have F:(((4*(i/4)+2:Nat):Int)<16)=True:=gg I;have x2:(4*(i/4)+2<16)=True:=gg I;have G:(s.map V.u8).getD (4*(i/4)+2) .bH= .u8 (s.getD (4*(i/4)+2) 0):=nB I;have p2:pg (m.getD ((6-i%4)%4) 0) (s.getD (4*(i/4)+2) 0)=mp m s i 2:=rfl;have a3:bh ((3:Int)-((i%4:Nat):Int))=(3:Int)-((i%4:Nat):Int):=bC I I;have H:bh ((3:Int)-((i%4:Nat):Int)+4)=((7-i%4:Nat):Int):=by rw[bC I I];omega
  have K:bh (((4*(i/4):Nat):Int)+3)=((4*(i/4)+3:Nat):Int):=by rw[bC I I];omega
  have L:(((4*(i/4)+3:Nat):Int)<16)=True:=gg I;have x3:(4*(i/4)+3<16)=True:=gg I;have M:(s.map V.u8).getD (4*(i/4)+3) .bH= .u8 (s.getD (4*(i/4)+3) 0):=nB I;have p3:pg (m.getD ((7-i%4)%4) 0) (s.getD (4*(i/4)+3) 0)=mp m s i 3:=rfl;have P:∀ k:Nat,((k:Nat):Int).tmod 4=((k%4:Nat):Int):=fun k=>rfl
  have g:bh (4*((i/4:Nat):Int))=((4*(i/4):Nat):Int):=by rw[bC I I];omega
  have j:∀ k:Nat,(((k%4:Nat):Int)<4)=True:=fun k=>gg I
  have f:∀ k:Nat,((0:Int)<=(k:Int))=True:=fun k=>gg I
  have l:∀ k:Nat,(k%4<4)=True:=fun k=>gg I
  have Q:∀ k:Nat,(m.map V.u8).getD (k%4) .bH= .u8 (m.getD (k%4) 0):=fun k=>nB I
  have n:∀ x:BitVec 8,(((mw (nT m s) s i).set i x).map V.u8).getD i .bH= .u8 x:=fun x=>by rw[nB (by rw[b7];omega),aeP _ _ _ I]
  refine qd2 a u d T W q ?_;refine⟨I,ij 5 ?_⟩;simp only[go_sem,seval,-BitVec.isValue,X,w,Y,w0,x0,y,P,g,j,f,l,Q,n,d,a,N,b,O];refine bZ (yB _ _) ?_;simp only[go_sem,seval,-BitVec.isValue,z,a1,b1,c1,w1,A,B,P,g,j,f,l,Q,n,nC,d,a,N,b,O];refine⟨I,U,?_⟩;refine bZ (yB _ _) ?_;simp only[go_sem,seval,-BitVec.isValue,C,a2,D,E,F,x2,G,P,g,j,f,l,Q,n,nC,d,a,N,b,O];refine⟨I,U,?_⟩;refine bZ (yB _ _) ?_;simp only[go_sem,seval,-BitVec.isValue,p2,a3,H,K,L,x3,M,P,g,j,f,l,Q,n,nC,d,a,N,b,O];refine⟨I,U,?_⟩;refine bZ (yB _ _) ?_;simp only[go_sem,seval,-BitVec.isValue,p3,f,t,nC,d,a];refine⟨I,U,?_⟩;refine cH (p-1) ⟨[(0,.ptr 0 0),(3,.ptr 1 0),(4,.ptr 2 0),(12,.i64 (i+1:Nat))],[bK ((mw (nT m s) s (i+1:Nat)).map .u8),bK (m.map .u8),bK (s.map .u8)]⟩ I ?_ rfl (fun _ _ h=>h) ⟨i+1,I,rfl⟩;have r:bh ((i:Int)+1)=((i+1:Nat):Int):=by rw[bC I I];omega
  simp[St.get,lookS,r]
 .obtain rfl:i=16:=I;have a:¬ ((16:Nat):Int)<16:=I;have R:=J7 (nT m s) s c;rw[b] at R;refine qc2 R ?_;exact Fin.bd [0] J J ci ag J J
end Go.Vm
end
section
namespace Go.Vm
open Go.Proofs Go.Proofs.Tryz
def iA (t K:Z)(R:Nat):Nat->Z
 |0=>cx t K
 |i+1=>
  let s:=lV 1 ((iA t K R i).map gO)
  cx (if i+2<R then nT [2#8,3#8,1#8,1#8] s else s) (K.drop (16*(i+1)))
theorem J2 (k:Nat)(s:Z):(lV k s).length=16:=Gc _
theorem LJ (m s:Z):(nT m s).length=16:=Gc _
theorem HY (t K:Z)(R:Nat)(ht:t.length=16)(a:K.length=16*R)(i:Nat)(hi:i<R):(iA t K R i).length=16:=by
 cases i with
 |zero=>rw[iA,oV];omega
 |succ i=>
  rw[iA];have b:(if i+2<R then nT [2#8,3#8,1#8,1#8] (lV 1 ((iA t K R i).map gO)) else lV 1 ((iA t K R i).map gO)).length=16:=by
   split
   .exact LJ _ _
   .exact J2 _ _
  rw[oV,b,dO];omega
theorem Sp (t K T:Z)(R:Nat)(ht:t.length=16)(F:2<=R)(y:R<=20)(z:K.length=16*R)(A:T.length=512)(B:∀ b:BitVec 8,T.getD (0+b.toNat) 0=gO b):bp prog 253 [.ptr 0 0,.str t] [bK [.ptr 1 0,.str K],bK (T.map .u8)] (.str (iA t K R (R-1))) [bK [.ptr 1 0,.str K],bK (T.map .u8)]:=by
 have C:=Jy t K ht I I;have q:cC [.u8 0#8,.u8 0#8,.u8 0#8,.u8 0#8,.u8 0#8,.u8 0#8,.u8 0#8,.u8 0#8,.u8 0#8,.u8 0#8,.u8 0#8,.u8 0#8,.u8 0#8,.u8 0#8,.u8 0#8,.u8 0#8] 0 (t.map V.u8)=t.map V.u8:=dC _ _ (by rw[cq,ht];rfl);have r:List.take 16 (t.map V.u8)=t.map V.u8:=bq (by rw[cq,ht];exact bz _);have s:(16:Int)<=(K.length:Int):=I;refine ak func253 ?_;simp only[go_sem,seval,ntmps253,ht,q,r];refine am [3] C (aH ?_);refine⟨s,?_⟩;refine cG (fun j x=>∃ i:Nat,i+j=R-1/\x=⟨[(0,.ptr 0 0),(5,.str (K.drop (16*(i+1)))),(6,.ptr 2 0)],[bK [.ptr 1 0,.str K],bK (T.map .u8),bK ((iA t K R i).map .u8)]⟩) ?_ ?_
 .exact QO (R-1) ⟨[(0,.ptr 0 0),(5,.str (K.drop (16*(0+1)))),(6,.ptr 2 0)],[bK [.ptr 1 0,.str K],bK (T.map .u8),bK ((iA t K R 0).map .u8)]⟩ [0,1,3] rfl J rfl ag (by simp[iC,St.get,lookS]) (by simp[iA]) ⟨0,I,rfl⟩
 rintro j x ⟨i,L,rfl⟩ _;have d:=HY t K R ht z i I;have e:(K.drop (16*(i+1))).length=16*(R-(i+1)):=by rw[dO];omega
 have f:(K.drop (16*(i+1))).drop 16=K.drop (16*(i+1+1)):=by rw[l9];rfl
 by_cases G:i<R-1
 .obtain⟨D,k⟩:∃ D,D=K.drop (16*(i+1)):=⟨_,rfl⟩;have l:iA t K R (i+1)=cx (if i+2<R then nT [2#8,3#8,1#8,1#8] (lV 1 ((iA t K R i).map gO)) else lV 1 ((iA t K R i).map gO)) D:=by rw[k];rfl
  rw[<-k] at e f;have m:(D=[])=False:=nY (fun h=>by rw[h] at e;simp at e;omega);have n:=VO (iA t K R i) T 0 gO d A I B;have o:=ahF ((iA t K R i).map gO) 1 (by rw[cq,d]) ag;generalize E:(iA t K R i).map gO=p at*;have u:=W8 (lV 1 p) [2#8,3#8,1#8,1#8] (J2 _ _) rfl;have H:16*(R-(i+1))<=1000:=I;have w:(16:Int)<=(D.length:Int):=I;by_cases a:i+2<R
  .have g:(16:Int)<(D.length:Int):=I;have c:=Jy (nT [2#8,3#8,1#8,1#8] (lV 1 p)) D (LJ _ _) I I;have v:iA t K R (i+1)=cx (nT [2#8,3#8,1#8,1#8] (lV 1 p)) D:=by rw[l,aM a]
   rw[<-v] at c;simp only[go_sem,seval,<-k,m];refine am [2,1] n (aH ?_);refine am [2] o ?_;refine aL g ?_;refine am [2] u (aH ?_);refine am [2] c ?_;simp only[go_sem,seval,w,oR,f];exact lc (j-1) ⟨[(0,.ptr 0 0),(5,.str (K.drop (16*(i+1+1)))),(6,.ptr 2 0)],[bK [.ptr 1 0,.str K],bK (T.map .u8),bK ((iA t K R (i+1)).map .u8)]⟩ [0,1,2] I rfl J rfl ag (by simp[iC,St.get,lookS]) J ⟨i+1,I,rfl⟩
  .have g:¬ (16:Int)<(D.length:Int):=I;have c:=Jy (lV 1 p) D (J2 _ _) I I;have v:iA t K R (i+1)=cx (lV 1 p) D:=by rw[l,aq a]
   rw[<-v] at c;simp only[go_sem,seval,<-k,m];refine am [2,1] n (aH ?_);refine am [2] o ?_;refine aL g ?_;refine am [2] c ?_;simp only[go_sem,seval,w,oR,f];exact lc (j-1) ⟨[(0,.ptr 0 0),(5,.str (K.drop (16*(i+1+1)))),(6,.ptr 2 0)],[bK [.ptr 1 0,.str K],bK (T.map .u8),bK ((iA t K R (i+1)).map .u8)]⟩ [0,1,2] I rfl J rfl ag (by simp[iC,St.get,lookS]) J ⟨i+1,I,rfl⟩
 .obtain rfl:i=R-1:=I;have k:K.drop (16*(R-1+1))=[]:=lP I;simp only[go_sem,seval,k,d,bq];exact Fin.bd [0,1] J J ci ag J J
end Go.Vm
end
section
namespace Go.Vm
open Go.Proofs
end Go.Vm
end
section
namespace Go.Vm
open Go.Proofs Go.Proofs.Tryz
theorem Ny (d:Z)(n:Nat)(b:n=4\/n=8)(c:d.length=4*n):bp prog 246 [.str d] [] (.ptr 0 0) [bK [.ptr 1 0,.str (wl d n (4*(n+7))).flatten],bK ((jH 256).map .u8)]:=by
 have a:=abo d;rw[nX I] at a;have e:=VT d n b c;have f:=Xc;generalize jH 256=T at*;refine ak func246 ?_;simp only[go_sem,seval,ntmps246];refine br (a) (aH ?_);refine am [] f (aH ?_);refine am [0] e (aH ?_);exact Fin.bd [1,0] J J ci ag J J
def gv (k n l t:Z)(m:Int):Int:=if k.length≠32\/n.length≠12 then 1 else if 2000<l.length\/m<t.length then 2 else 0
theorem BA (k n l t:Z)(m:Int):bE prog 245 [.str k,.str n,.str l,.str t,.i64 m] (.i64 (gv k n l t m)):=by
 by_cases g:k.length=32
 .have f:(k.length:Int)=32:=I;by_cases h:n.length=12
  .have a:(n.length:Int)=12:=I;by_cases d:2000<l.length
   .have b:(2000:Int)<(l.length:Int):=I;have e:gv k n l t m=2:=by simp[gv,g,h,d]
    rw[e];refine ai func245 ?_;simp only[go_sem,seval,ntmps245,results245,f,a,b]
   .have b:¬ (2000:Int)<(l.length:Int):=I;by_cases c:m<(t.length:Int)
    .have e:gv k n l t m=2:=by simp[gv,g,h,d,c]
     rw[e];refine ai func245 ?_;simp only[go_sem,seval,ntmps245,results245,f,a,b,c]
    .have e:gv k n l t m=0:=by simp[gv,g,h,d,c]
     rw[e];refine ai func245 ?_;simp only[go_sem,seval,ntmps245,results245,f,a,b,c]
  .have a:¬ (n.length:Int)=12:=I;have e:gv k n l t m=1:=by simp[gv,g,h]
   rw[e];refine ai func245 ?_;simp only[go_sem,seval,ntmps245,results245,f,a]
 .have f:¬ (k.length:Int)=32:=I;have e:gv k n l t m=1:=by simp[gv,g]
  rw[e];refine ai func245 ?_;simp only[go_sem,seval,ntmps245,results245,f]
theorem Og (n K T:Z)(R:Nat)(c:Nat)(k:n.length=12)(hc:c<=100000)(g:2<=R)(d:R<=20)(h:K.length=16*R)(i:T.length=512)(l:∀ b:BitVec 8,T.getD (0+b.toNat) 0=gO b):bp prog 254 [.agg [.ptr 0 0,.str n],.i64 c] [bK [.ptr 1 0,.str K],bK (T.map .u8)] (.str (iA (n++cK c 4) K R (R-1))) [bK [.ptr 1 0,.str K],bK (T.map .u8)]:=by
 have f:=DT n (BitVec.ofNat 64 c) I;have a:(BitVec.ofNat 64 c).toNat=c:=by rw[fL];omega
 have j:(cK c 4).length=4:=by rw[<-a,HG];rfl
 rw[a] at f;have m:=Sp (n++cK c 4) K T R (by rw[bA];omega) g d h i l;refine ak func254 ?_;simp only[go_sem,seval,ntmps254];refine⟨I,?_⟩;have e:(n++cK c 4).take (n.length+4)=n++cK c 4:=bq (by rw[bA];omega);refine az [3] f ?_;refine d9 j e ?_;refine AN [0,1] m U J rfl J ag J J J J J (by simp[jJ,gn,cu,ik,aa.bd,lw]) (aH ?_);refine⟨U,?_⟩;exact Fin.bd [0,1] J J ci ag J J
end Go.Vm
end
