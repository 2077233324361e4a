/- Proved: laws of a machine of values, or what a function answers; no conditions but each theorem's own. -/
import Derived.Shelf.Bits.Mul64
import Derived.Test.YtgnnehmeciepaaaGreatDoorTypesToLsE
import Derived.Test.YtgnnehmeciepaaaGreatDoorPoNToPoP
import Derived.Test.YtgnnehmeciepaaaGreatDoorShelfRepToPoY
import Derived.Test.YtgnnehmeciepaaaGreatDoorHeadToShA
import Derived.Test.YtgnnehmeciepaaaGreatDoorVmZToVmS
import Derived.Test.YtgnnehmeciepaaaGreatDoorVmTToTot2
set_option linter.unusedVariables false
set_option linter.unusedSimpArgs false
set_option linter.unusedSectionVars false
set_option maxRecDepth 20000
set_option maxHeartbeats 8000000
section
namespace Go.Vm
section
open Go.Proofs Go.Shelf
def Ea:Go.Shelf.Ren:=⟨fun |264=>82|n=>n,fun |53=>78|46=>32|n=>n,fun |n=>n⟩
theorem Fc:Go.Proofs.Lays.n264 Tryz.prog Ea:={
 mixed:=by kernel_rfl
 f264:=Tryz.func82.trans (congrArg some (by kernel_rfl))
 t46:=Tryz.underlying32
 a46:=Tryz.isAgg32
 z46:=Tryz.sizeOf32
 v46:=Tryz.zeroValue32
 t53:=Tryz.underlying78
 a53:=Tryz.isAgg78
 z53:=Tryz.sizeOf78
 v53:=Tryz.zeroValue78}
open Go.RowKit Go.Lib in
theorem Eh (x y:Nat)(hx:x<18446744073709551616)(hy:y<18446744073709551616)(w:World):
  Calls Tryz.prog 82 #[.int .u64 x,.int .u64 y] w fun e w'=>e= .returned (.tuple #[.int .u64 ((x*y/18446744073709551616:Nat):Int),.int .u64 ((x*y%18446744073709551616:Nat):Int)])∧w'=w:=Any.bits_Mul64 Fc x y hx hy w
end
end Go.Vm
end
section
namespace Go.Vm
open Go.Proofs
def b7 (x y:BitVec 64):BitVec 64:=BitVec.ofNat 64 (x.toNat*y.toNat/18446744073709551616)
theorem zr (x y:BitVec 64):ao Tryz.prog 82 [.u64 x,.u64 y] (.tup [.u64 (b7 x y),.u64 (x*y)]):=by
 refine xY (by kernel_rfl) (by simp[aa,V.low]) (by simp[aa,V.low]) fun w rargs hr=>?_
 unfold VRs at hr
 obtain⟨r1,rs,e1,h1,hr⟩:=hr
 unfold VRs at hr
 obtain⟨r2,rs2,e2,h2,hr⟩:=hr
 unfold VRs at hr
 unfold VR at h1 h2
 subst h1 h2 hr e2
 have ha:rargs=#[.int .u64 x.toNat,.int .u64 y.toNat]:=by cases rargs;simp_all
 subst ha
 have hx:=x.isLt
 have hy:=y.isLt
 refine(Eh x.toNat y.toNat (by omega) (by omega) w).mono ?_
 rintro e w' ⟨rfl,rfl⟩
 refine⟨_,rfl,?_,⟨rfl,rfl,rfl,Nat.le_refl _,fun _ _=>rfl⟩⟩
 have hlt:x.toNat*y.toNat<18446744073709551616*18446744073709551616:=Nat.mul_lt_mul'' (by omega) (by omega)
 have k1:(b7 x y).toNat=x.toNat*y.toNat/18446744073709551616:=by
  unfold b7
  rw[BitVec.toNat_ofNat]
  exact Nat.mod_eq_of_lt (Nat.div_lt_of_lt_mul (by omega))
 have k2:(x*y).toNat=x.toNat*y.toNat%18446744073709551616:=by rw[BitVec.toNat_mul]
 unfold VR
 refine⟨_,rfl,?_⟩
 unfold VRs
 refine⟨_,_,rfl,by unfold VR;rw[k1],?_⟩
 unfold VRs
 refine⟨_,_,rfl,by unfold VR;rw[k2],?_⟩
 unfold VRs;rfl
abbrev N3:=BitVec 64×BitVec 64×BitVec 64
def aP (a b:N3):N3:=(a.1+b.1+0#64,a.2.1+b.2.1+bn a.1 b.1 0#64,a.2.2+b.2.2+bn a.2.1 b.2.1 (bn a.1 b.1 0#64))
def dZ (a:N3):N3:=aP (a.1,a.2.1,a.2.2&&&3#64) (5#64*(a.2.2>>>2),0#64,0#64)
def iT (a:N3):N3:=if 0#64<(aP (dZ a) (5#64,0#64,0#64)).2.2>>>2 then((aP (dZ a) (5#64,0#64,0#64)).1,(aP (dZ a) (5#64,0#64,0#64)).2.1,(aP (dZ a) (5#64,0#64,0#64)).2.2&&&3#64) else dZ a
theorem lj (a b:N3):ao Tryz.prog 198 [.agg [.u64 a.1,.u64 a.2.1,.u64 a.2.2],.agg [.u64 b.1,.u64 b.2.1,.u64 b.2.2]] (.agg [.u64 (aP a b).1,.u64 (aP a b).2.1,.u64 (aP a b).2.2]):=yi _ _ _ _ _ _
theorem zt (a:N3):ao Tryz.prog 204 [.agg [.u64 a.1,.u64 a.2.1,.u64 a.2.2]] (.agg [.u64 (dZ a).1,.u64 (dZ a).2.1,.u64 (dZ a).2.2]):=GR _ _ _
theorem GT (a:N3):ao Tryz.prog 200 [.agg [.u64 a.1,.u64 a.2.1,.u64 a.2.2]] (.agg [.u64 (iT a).1,.u64 (iT a).2.1,.u64 (iT a).2.2]):=by
 have hf:=zt a
 have hp:=lj (dZ a) (5#64,0#64,0#64)
 unfold iT
 generalize dZ a=f at hf hp ⊢
 generalize aP f (5#64,0#64,0#64)=g at hp ⊢
 by_cases h:0#64<g.2.2>>>2
 ·rw[if_pos h]
  refine aB (by kernel_rfl) (fn:=Tryz.f200) (by kernel_rfl) Tryz.func200 rfl (by show 1≤19;decide) (by simp[aa,V.low]) (by simp[aa,V.low]) (ae ?_)
  simp only[go_sem,seval,Tryz.ntmps200]
  refine ak (hf) ?_
  simp only[go_sem,seval]
  refine ak (hp) ?_
  simp only[go_sem,seval,h]
 ·rw[if_neg h]
  refine aB (by kernel_rfl) (fn:=Tryz.f200) (by kernel_rfl) Tryz.func200 rfl (by show 1≤19;decide) (by simp[aa,V.low]) (by simp[aa,V.low]) (ae ?_)
  simp only[go_sem,seval,Tryz.ntmps200]
  refine ak (hf) ?_
  simp only[go_sem,seval]
  refine ak (hp) ?_
  simp only[go_sem,seval,h]
def bA (a:N3):Nat:=a.1.toNat+18446744073709551616*a.2.1.toNat+340282366920938463463374607431768211456*a.2.2.toNat
theorem mV (x y c:BitVec 64)(h:c.toNat≤1):(x+y+c).toNat+18446744073709551616*(bn x y c).toNat=x.toNat+y.toNat+c.toNat:=by
 have :=x.isLt
 have :=y.isLt
 unfold bn
 rw[BitVec.toNat_add,BitVec.toNat_add,BitVec.toNat_ofNat];omega
theorem kg (a b:N3)(h:a.2.2.toNat+b.2.2.toNat<18446744073709551615):bA (aP a b)=bA a+bA b:=by
 have c0:=mV a.1 b.1 0#64 (by decide)
 have l0:=gQ a.1 b.1 0#64 (by decide)
 have c1:=mV a.2.1 b.2.1 (bn a.1 b.1 0#64) l0
 have l1:=gQ a.2.1 b.2.1 (bn a.1 b.1 0#64) l0
 have z:(0#64).toNat=0:=rfl
 unfold bA aP
 simp only
 generalize bn a.1 b.1 0#64=k0 at*
 generalize bn a.2.1 b.2.1 k0=k1 at*
 have e2:(a.2.2+b.2.2+k1).toNat=a.2.2.toNat+b.2.2.toNat+k1.toNat:=by
  rw[BitVec.toNat_add,BitVec.toNat_add];omega
 omega
theorem xy (w:BitVec 64):(w&&&3#64).toNat=w.toNat%4:=by
 rw[BitVec.toNat_and,show(3#64).toNat=2^2-1 from rfl,Nat.and_two_pow_sub_one_eq_mod]
theorem Ar (a:N3)(h:a.2.2.toNat<1152921504606846976):bA (dZ a)=bA a%1361129467683753853853498429727072845824+5*(bA a/1361129467683753853853498429727072845824):=by
 have h1:=a.1.isLt
 have h2:=a.2.1.isLt
 have e3:=xy a.2.2
 have e5:(5#64*(a.2.2>>>2)).toNat=5*(a.2.2.toNat/4):=by
  rw[BitVec.toNat_mul,BitVec.toNat_ushiftRight,Nat.shiftRight_eq_div_pow,show(5#64).toNat=5 from rfl]
  omega
 have z:(0#64).toNat=0:=rfl
 unfold dZ
 rw[kg _ _ (by show(a.2.2&&&3#64).toNat+(0#64).toNat<_;omega)]
 unfold bA
 simp only
 rw[e3,e5,z]
 omega
theorem il (a:N3):a.2.2.toNat=bA a/340282366920938463463374607431768211456:=by
 have h1:=a.1.isLt
 have h2:=a.2.1.isLt
 unfold bA;omega
theorem Ik (a:N3)(h:a.2.2.toNat<1152921504606846976):bA (iT a)=bA a%1361129467683753853853498429727072845819:=by
 have hf:=Ar a h
 have ha:=il a
 have hfh:=il (dZ a)
 have h1:=a.1.isLt
 have h2:=a.2.1.isLt
 have hva:bA a<340282366920938463463374607431768211456*1152921504606846976:=by unfold bA;omega
 have hA:bA a%1361129467683753853853498429727072845819=bA (dZ a)%1361129467683753853853498429727072845819:=by
  have e:bA a=1361129467683753853853498429727072845819*(bA a/1361129467683753853853498429727072845824)+bA (dZ a):=by rw[hf];omega
  rw[e,Nat.mul_add_mod]
 have hF:bA (dZ a)<1361129467683753853853498429727072845824+5*1152921504606846976:=by rw[hf];omega
 rw[hA]
 clear hA hf ha hva
 have v5:bA (5#64,0#64,0#64)=5:=by decide
 have hp:=kg (dZ a) (5#64,0#64,0#64) (by show(dZ a).2.2.toNat+(0#64).toNat<_;have z:(0#64).toNat=0:=rfl;omega)
 rw[v5] at hp
 have hph:=il (aP (dZ a) (5#64,0#64,0#64))
 unfold iT
 generalize aP (dZ a) (5#64,0#64,0#64)=g at hp hph ⊢
 have hs:(g.2.2>>>2).toNat=g.2.2.toNat/4:=by rw[BitVec.toNat_ushiftRight,Nat.shiftRight_eq_div_pow]
 have h3:=xy g.2.2
 by_cases hg:0#64<g.2.2>>>2
 ·have hg':0<g.2.2.toNat/4:=by rw[←hs];exact hg
  rw[if_pos hg]
  have e:bA (g.1,g.2.1,g.2.2&&&3#64)=bA g-340282366920938463463374607431768211456*(g.2.2.toNat-g.2.2.toNat%4):=by
   unfold bA;simp only;rw[h3];omega
  rw[e];omega
 ·have hg':¬ 0<g.2.2.toNat/4:=by rw[←hs];exact hg
  rw[if_neg hg];omega
def kL (w:List (BitVec 64))(j:Nat)(x y:BitVec 64):List (BitVec 64):=
 let c1:=bn (w.getD j 0) (x*y) 0#64
 let w1:=w.set j (w.getD j 0+x*y+0#64)
 let c2:=bn (w1.getD (j+1) 0) (b7 x y) c1
 let w2:=w1.set (j+1) (w1.getD (j+1) 0+b7 x y+c1)
 if j+2<5 then w2.set (j+2) (w2.getD (j+2) 0+c2) else w2
theorem GU (w:List (BitVec 64))(j:Nat)(x y:BitVec 64):(kL w j x y).length=w.length:=by
 unfold kL
 simp only
 split <;>simp
def W5 (a b c d e:BitVec 64):Nat:=a.toNat+18446744073709551616*b.toNat+340282366920938463463374607431768211456*c.toNat+6277101735386680763835789423207666416102355444464034512896*d.toNat+115792089237316195423570985008687907853269984665640564039457584007913129639936*e.toNat
theorem rZ (x y:BitVec 64):(x*y).toNat+18446744073709551616*(b7 x y).toNat=x.toNat*y.toNat:=by
 have hx:=x.isLt
 have hy:=y.isLt
 have hlt:x.toNat*y.toNat<18446744073709551616*18446744073709551616:=Nat.mul_lt_mul'' (by omega) (by omega)
 have k1:(b7 x y).toNat=x.toNat*y.toNat/18446744073709551616:=by
  unfold b7
  rw[BitVec.toNat_ofNat]
  exact Nat.mod_eq_of_lt (Nat.div_lt_of_lt_mul (by omega))
 rw[BitVec.toNat_mul,k1]
 generalize x.toNat*y.toNat=p
 omega
theorem sa (x y:BitVec 64):(x+y+0#64).toNat+18446744073709551616*(bn x y 0#64).toNat=x.toNat+y.toNat:=mV x y 0#64 (by decide)
theorem vC (x c:BitVec 64)(h:x.toNat+c.toNat<18446744073709551616):(x+c).toNat=x.toNat+c.toNat:=by rw[BitVec.toNat_add];omega
theorem Vg (a b c d e x y:BitVec 64)(h:c.toNat<100):∃ a' b' c':BitVec 64,kL [a,b,c,d,e] 0 x y=[a',b',c',d,e]∧c'.toNat≤c.toNat+1∧W5 a' b' c' d e=W5 a b c d e+x.toNat*y.toNat:=by
 have p:=rZ x y
 have q1:=sa a (x*y)
 have l1:=gQ a (x*y) 0#64 (by decide)
 have q2:=mV b (b7 x y) _ l1
 have l2:=gQ b (b7 x y) _ l1
 have q3:=vC c (bn b (b7 x y) (bn a (x*y) 0#64)) (by omega)
 refine⟨a+x*y+0#64,b+b7 x y+bn a (x*y) 0#64,c+bn b (b7 x y) (bn a (x*y) 0#64),rfl,by omega,?_⟩
 unfold W5;omega
theorem DE (a b c d e x y:BitVec 64)(h:d.toNat<100):∃ a' b' c':BitVec 64,kL [e,a,b,d,c] 1 x y=[e,a',b',c',c]∧c'.toNat≤d.toNat+1∧W5 e a' b' c' c=W5 e a b d c+18446744073709551616*(x.toNat*y.toNat):=by
 have p:=rZ x y
 have q1:=sa a (x*y)
 have l1:=gQ a (x*y) 0#64 (by decide)
 have q2:=mV b (b7 x y) _ l1
 have l2:=gQ b (b7 x y) _ l1
 have q3:=vC d (bn b (b7 x y) (bn a (x*y) 0#64)) (by omega)
 refine⟨a+x*y+0#64,b+b7 x y+bn a (x*y) 0#64,d+bn b (b7 x y) (bn a (x*y) 0#64),rfl,by omega,?_⟩
 unfold W5;omega
theorem DF (a b c d e x y:BitVec 64)(h:e.toNat<100):∃ a' b' c':BitVec 64,kL [a,b,c,d,e] 2 x y=[a,b,a',b',c']∧c'.toNat≤e.toNat+1∧W5 a b a' b' c'=W5 a b c d e+340282366920938463463374607431768211456*(x.toNat*y.toNat):=by
 have p:=rZ x y
 have q1:=sa c (x*y)
 have l1:=gQ c (x*y) 0#64 (by decide)
 have q2:=mV d (b7 x y) _ l1
 have l2:=gQ d (b7 x y) _ l1
 have q3:=vC e (bn d (b7 x y) (bn c (x*y) 0#64)) (by omega)
 refine⟨c+x*y+0#64,d+b7 x y+bn c (x*y) 0#64,e+bn d (b7 x y) (bn c (x*y) 0#64),rfl,by omega,?_⟩
 unfold W5;omega
theorem Vh (a b c d e x y:BitVec 64)(h:W5 a b c d e+6277101735386680763835789423207666416102355444464034512896*(x.toNat*y.toNat)<2135987035920910082395021706169552114602704522356652769947041607822219725780640550022962086936576):∃ a' b':BitVec 64,kL [a,b,c,d,e] 3 x y=[a,b,c,a',b']∧W5 a b c a' b'=W5 a b c d e+6277101735386680763835789423207666416102355444464034512896*(x.toNat*y.toNat):=by
 have p:=rZ x y
 have q1:=sa d (x*y)
 have l1:=gQ d (x*y) 0#64 (by decide)
 have q2:=mV e (b7 x y) _ l1
 refine⟨d+x*y+0#64,e+b7 x y+bn d (x*y) 0#64,rfl,?_⟩
 unfold W5 at*;omega
def gX (n:N3)(r:BitVec 64×BitVec 64)(w:List (BitVec 64))(i:Nat):Nat→List (BitVec 64)
 |0=>w
 |k+1=>kL (gX n r w i k) (i+k) ([n.1,n.2.1,n.2.2].getD i 0) ([r.1,r.2].getD k 0)
def gt (n:N3)(r:BitVec 64×BitVec 64):Nat→List (BitVec 64)
 |0=>[0#64,0#64,0#64,0#64,0#64]
 |i+1=>gX n r (gt n r i) i 2
theorem yR (n:N3)(r:BitVec 64×BitVec 64)(w:List (BitVec 64))(i k:Nat):(gX n r w i k).length=w.length:=by
 induction k with
 |zero=>rfl
 |succ k ih=>rw[gX,GU,ih]
theorem yS (n:N3)(r:BitVec 64×BitVec 64)(i:Nat):(gt n r i).length=5:=by
 induction i with
 |zero=>rfl
 |succ i ih=>rw[gt,yR,ih]
def oP (r:BitVec 64×BitVec 64):Nat:=r.1.toNat+18446744073709551616*r.2.toNat
theorem Xj (n0 n1 n2 r0 r1:Nat):n0*r0+18446744073709551616*(n0*r1)+18446744073709551616*(n1*r0)+340282366920938463463374607431768211456*(n1*r1)+340282366920938463463374607431768211456*(n2*r0)+6277101735386680763835789423207666416102355444464034512896*(n2*r1)=(n0+18446744073709551616*n1+340282366920938463463374607431768211456*n2)*(r0+18446744073709551616*r1):=by
 grind
theorem Np (n:N3)(r:BitVec 64×BitVec 64)(h0:r.1.toNat<1152921504606846976)(h1:r.2.toNat<1152921504606846976)(h2:n.2.2.toNat<1125899906842624):
  ∃ a b c d e:BitVec 64,gt n r 3=[a,b,c,d,e]∧W5 a b c d e=bA n*oP r:=by
 obtain⟨n0,n1,n2⟩:=n
 obtain⟨r0,r1⟩:=r
 have hn0:=n0.isLt
 have hn1:=n1.isLt
 simp only at h0 h1 h2
 have p00:n0.toNat*r0.toNat≤18446744073709551616*1152921504606846976:=Nat.mul_le_mul (by omega) (by omega)
 have p01:n0.toNat*r1.toNat≤18446744073709551616*1152921504606846976:=Nat.mul_le_mul (by omega) (by omega)
 have p10:n1.toNat*r0.toNat≤18446744073709551616*1152921504606846976:=Nat.mul_le_mul (by omega) (by omega)
 have p11:n1.toNat*r1.toNat≤18446744073709551616*1152921504606846976:=Nat.mul_le_mul (by omega) (by omega)
 have p20:n2.toNat*r0.toNat≤1125899906842624*1152921504606846976:=Nat.mul_le_mul (by omega) (by omega)
 have p21:n2.toNat*r1.toNat≤1125899906842624*1152921504606846976:=Nat.mul_le_mul (by omega) (by omega)
 have z:(0#64).toNat=0:=rfl
 obtain⟨a1,b1,c1,e1,l1,v1⟩:=Vg 0#64 0#64 0#64 0#64 0#64 n0 r0 (by decide)
 obtain⟨a2,b2,c2,e2,l2,v2⟩:=DE b1 c1 0#64 0#64 a1 n0 r1 (by decide)
 obtain⟨a3,b3,c3,e3,l3,v3⟩:=DE a2 b2 0#64 c2 a1 n1 r0 (by omega)
 obtain⟨a4,b4,c4,e4,l4,v4⟩:=DF a1 a3 b3 c3 0#64 n1 r1 (by decide)
 obtain⟨a5,b5,c5,e5,l5,v5⟩:=DF a1 a3 a4 b4 c4 n2 r0 (by omega)
 have vz:W5 0#64 0#64 0#64 0#64 0#64=0:=by decide
 have hs:=Xj n0.toNat n1.toNat n2.toNat r0.toNat r1.toNat
 obtain⟨a6,b6,e6,v6⟩:=Vh a1 a3 a5 b5 c5 n2 r1 (by omega)
 refine⟨a1,a3,a5,a6,b6,?_,?_⟩
 ·simp only[gt,gX,seval,List.getD_cons_zero,List.getD_cons_succ,e1,e2,e3,e4,e5,e6]
 ·show _=(n0.toNat+18446744073709551616*n1.toNat+340282366920938463463374607431768211456*n2.toNat)*(r0.toNat+18446744073709551616*r1.toNat)
  omega
def jU (a b:BitVec 64):BitVec 64:=a>>>2|||b<<<62
theorem By (a b:BitVec 64):(jU a b).toNat=a.toNat/4+4611686018427387904*(b.toNat%4):=by
 have ha:=a.isLt
 have hb:=b.isLt
 unfold jU
 rw[BitVec.toNat_or,BitVec.toNat_ushiftRight,BitVec.toNat_shiftLeft,Nat.shiftRight_eq_div_pow,Nat.shiftLeft_eq,Nat.or_comm,
  show b.toNat*2^62%2^64=2^62*(b.toNat%4) by omega,←Nat.two_pow_add_eq_or_of_lt (by omega)]
 omega
def kM (w:List (BitVec 64)):N3:=(w.getD 0 0,w.getD 1 0,w.getD 2 0&&&3#64)
def cI (w:List (BitVec 64)):N3:=(jU (w.getD 2 0) (w.getD 3 0),jU (w.getD 3 0) (w.getD 4 0),w.getD 4 0>>>2)
def qq (h:N3):N3:=aP (aP (aP (aP h h) h) h) h
def kv (n:N3)(r:BitVec 64×BitVec 64):N3:=dZ (aP (kM (gt n r 3)) (qq (cI (gt n r 3))))
theorem Il (n:N3)(r:BitVec 64×BitVec 64)(h0:r.1.toNat<1152921504606846976)(h1:r.2.toNat<1152921504606846976)(h2:n.2.2.toNat<1125899906842624):
  (∃ q,bA n*oP r=bA (kv n r)+1361129467683753853853498429727072845819*q)∧(kv n r).2.2.toNat<8:=by
 obtain⟨a,b,c,d,e,hw,hv⟩:=Np n r h0 h1 h2
 have hN:bA n≤340282366920938463463374607431768211456*1125899906842624:=by
  have :=n.1.isLt
  have :=n.2.1.isLt
  unfold bA;omega
 have hR:oP r≤18446744073709551616*1152921504606846976:=by unfold oP;omega
 have hNR:=Nat.mul_le_mul hN hR
 rw[←hv] at hNR ⊢
 unfold kv
 rw[hw]
 have la:kM [a,b,c,d,e]=(a,b,c&&&3#64):=rfl
 have lb:cI [a,b,c,d,e]=(jU c d,jU d e,e>>>2):=rfl
 rw[la,lb]
 have ea:=a.isLt
 have eb:=b.isLt
 have ec:=c.isLt
 have ed:=d.isLt
 have ee:=e.isLt
 have vl:bA (a,b,c&&&3#64)=W5 a b c d e%1361129467683753853853498429727072845824:=by
  have :=xy c
  unfold bA W5;simp only;omega
 have vh:bA (jU c d,jU d e,e>>>2)=W5 a b c d e/1361129467683753853853498429727072845824:=by
  have t1:=By c d
  have t2:=By d e
  have t3:(e>>>2).toNat=e.toNat/4:=by rw[BitVec.toNat_ushiftRight,Nat.shiftRight_eq_div_pow]
  unfold bA W5;simp only;omega
 generalize W5 a b c d e=X at*
 generalize (a,b,c&&&3#64)=L at*
 generalize (jU c d,jU d e,e>>>2)=H at*
 have tH:=il H
 have tL:=il L
 unfold qq
 have s1:=kg H H (by omega)
 have t1:=il (aP H H)
 have s2:=kg (aP H H) H (by omega)
 have t2:=il (aP (aP H H) H)
 have s3:=kg (aP (aP H H) H) H (by omega)
 have t3:=il (aP (aP (aP H H) H) H)
 have s4:=kg (aP (aP (aP H H) H) H) H (by omega)
 have t4:=il (aP (aP (aP (aP H H) H) H) H)
 have s5:=kg L (aP (aP (aP (aP H H) H) H) H) (by omega)
 have t5:=il (aP L (aP (aP (aP (aP H H) H) H) H))
 have s6:=Ar (aP L (aP (aP (aP (aP H H) H) H) H)) (by omega)
 have t6:=il (dZ (aP L (aP (aP (aP (aP H H) H) H) H)))
 refine⟨⟨X/1361129467683753853853498429727072845824+bA (aP L (aP (aP (aP (aP H H) H) H) H))/1361129467683753853853498429727072845824,?_⟩,?_⟩
 ·rw[s6];omega
 ·rw[t6,s6];omega
def small (l:List (BitVec 64)):Prop:=l.length=10∧∀ x∈l,x.toNat<8192
theorem wY:∀ s t:List (BitVec 8),s.length=t.length→le (List.zipWith (· &&&·) s t)=le s&&&le t
 |[],[],_=>by simp[le]
 |[],y::t,h=>by simp at h
 |x::s,[],h=>by simp at h
 |x::s,y::t,h=>by
  have ih:=wY s t (by simpa using h)
  have hx:=x.isLt
  have hy:=y.isLt
  have e1:((x.toNat+256*le s)&&&(y.toNat+256*le t))%2^8=x.toNat&&&y.toNat:=by
   rw[Nat.and_mod_two_pow,show(x.toNat+256*le s)%2^8=x.toNat by omega,show(y.toNat+256*le t)%2^8=y.toNat by omega]
  have e2:((x.toNat+256*le s)&&&(y.toNat+256*le t))/2^8=le s&&&le t:=by
   rw[Nat.and_div_two_pow,show(x.toNat+256*le s)/2^8=le s by omega,show(y.toNat+256*le t)/2^8=le t by omega]
  rw[List.zipWith_cons_cons,le,ih,BitVec.toNat_and,le,le]
  omega
def mask16:List (BitVec 8):=[255#8,255#8,255#8,15#8,252#8,255#8,255#8,15#8,252#8,255#8,255#8,15#8,252#8,255#8,255#8,15#8]
def DG (key:List (BitVec 8)):List (BitVec 8):=List.zipWith (· &&&·) (key.take 16) mask16
theorem As (s t:List (BitVec 8)):le (s++t)=le s+256^s.length*le t:=by
 induction s with
 |nil=>simp[le]
 |cons a s ih=>rw[List.cons_append,le,ih,le,List.length_cons,lM,Nat.mul_add,Nat.mul_assoc];omega
def rC (key:List (BitVec 8)):BitVec 64×BitVec 64:=(BitVec.ofNat 64 (le (key.take 8))&&&1152921487695413247#64,BitVec.ofNat 64 (le ((key.drop 8).take 8))&&&1152921487695413244#64)
theorem S7 (key:List (BitVec 8))(h:key.length=32):oP (rC key)=le (DG key)∧(rC key).1.toNat<1152921504606846976∧(rC key).2.toNat<1152921504606846976:=by
 have t1:(key.take 8).length=8:=by rw[List.length_take];omega
 have t2:((key.drop 8).take 8).length=8:=by rw[List.length_take,List.length_drop];omega
 have l1:=oG (key.take 8)
 have l2:=oG ((key.drop 8).take 8)
 rw[t1] at l1
 rw[t2] at l2
 have hk:key.take 16=key.take 8++(key.drop 8).take 8:=by rw[←List.take_add]
 have hm:mask16=mask16.take 8++mask16.drop 8:=rfl
 have a1:=wY (key.take 8) (mask16.take 8) (by rw[t1];rfl)
 have a2:=wY ((key.drop 8).take 8) (mask16.drop 8) (by rw[t2];rfl)
 have k1:le (mask16.take 8)=1152921487695413247:=by decide
 have k2:le (mask16.drop 8)=1152921487695413244:=by decide
 have e1:(rC key).1.toNat=le (key.take 8)&&&1152921487695413247:=by
  unfold rC
  rw[BitVec.toNat_and,BitVec.toNat_ofNat,Nat.mod_eq_of_lt (by omega :le (key.take 8)<2^64)];rfl
 have e2:(rC key).2.toNat=le ((key.drop 8).take 8)&&&1152921487695413244:=by
  unfold rC
  rw[BitVec.toNat_and,BitVec.toNat_ofNat,Nat.mod_eq_of_lt (by omega :le ((key.drop 8).take 8)<2^64)];rfl
 rw[k1] at a1
 rw[k2] at a2
 refine⟨?_,?_,?_⟩
 ·unfold oP DG
  rw[hk,hm,List.zipWith_append (by rw[t1];rfl),As,e1,e2,←a1,←a2,List.length_zipWith,t1]
  rfl
 ·rw[e1];exact Nat.lt_of_le_of_lt Nat.and_le_right (by decide)
 ·rw[e2];exact Nat.lt_of_le_of_lt Nat.and_le_right (by decide)
abbrev Pp:Nat:=1361129467683753853853498429727072845819
def dD (t:List (BitVec 8))(i:Nat):List (BitVec 8):=(t.drop (16*i)).take 16++[1#8]
theorem FS (t:List (BitVec 8))(i:Nat):(dD t i).length≤17:=by unfold dD;rw[List.length_append,List.length_take];show _+1≤17;omega
def iZ (p:List (BitVec 8)):N3:=(BitVec.ofNat 64 (le (p.take 8)),BitVec.ofNat 64 (le ((p.drop 8).take 8)),BitVec.ofNat 64 (le (p.drop 16)))
theorem p9 (p:List (BitVec 8))(k:Nat)(h:p.length≤k):le p<256^k:=Nat.lt_of_lt_of_le (oG p) (Nat.pow_le_pow_right (by omega) h)
theorem Nq (p:List (BitVec 8))(k:Nat)(h:k≤p.length):le p=le (p.take k)+256^k*le (p.drop k):=by
 calc le p=le (p.take k++p.drop k):=by rw[List.take_append_drop]
  _=_:=by rw[As,List.length_take,Nat.min_eq_left h]
theorem vD (p:List (BitVec 8))(k:Nat):le p=le (p.take k)+256^k*le (p.drop k):=by
 by_cases h:k≤p.length
 ·exact Nq p k h
 ·rw[List.take_of_length_le (by omega),List.drop_of_length_le (by omega)];simp[le]
theorem Nr (p:List (BitVec 8))(h:p.length≤17):bA (iZ p)=le p∧(iZ p).2.2.toNat<256:=by
 have h1:=p9 (p.take 8) 8 (by rw[List.length_take];omega)
 have h2:=p9 ((p.drop 8).take 8) 8 (by rw[List.length_take];omega)
 have h3:=p9 (p.drop 16) 1 (by rw[List.length_drop];omega)
 have s1:=vD p 8
 have s2:=vD (p.drop 8) 8
 rw[List.drop_drop,show 8+8=16 from rfl] at s2
 have e8:(256:Nat)^8=18446744073709551616:=by decide
 rw[e8] at h1 h2 s1 s2
 rw[show(256:Nat)^1=256 from rfl] at h3
 unfold bA iZ
 simp only[BitVec.toNat_ofNat]
 omega
def aN (r:BitVec 64×BitVec 64)(t:List (BitVec 8)):Nat→N3
 |0=>(0#64,0#64,0#64)
 |i+1=>kv (aP (aN r t i) (iZ (dD t i))) r
theorem Ns (r:BitVec 64×BitVec 64)(t:List (BitVec 8))(h0:r.1.toNat<1152921504606846976)(h1:r.2.toNat<1152921504606846976)(i:Nat):(aN r t i).2.2.toNat<8:=by
 induction i with
 |zero=>exact(by decide:(0#64).toNat<8)
 |succ i ih=>
  have hn:=Nr (dD t i) (FS t i)
  have hp:=kg (aN r t i) (iZ (dD t i)) (by omega)
  have hh:=il (aP (aN r t i) (iZ (dD t i)))
  have b1:=(aN r t i).1.isLt
  have b2:=(aN r t i).2.1.isLt
  have b3:=(iZ (dD t i)).1.isLt
  have b4:=(iZ (dD t i)).2.1.isLt
  refine(Il (aP (aN r t i) (iZ (dD t i))) r h0 h1 ?_).2
  rw[hh,hp]
  unfold bA
  omega
theorem Qn (n:Nat)(j:Nat):∀ k,aE n (k+j)=aE n k++aE (n/256^k) j:=by
 intro k
 induction k generalizing n with
 |zero=>simp[aE]
 |succ k ih=>rw[show k+1+j=(k+j)+1 by omega,aE,ih,aE,List.cons_append,Nat.div_div_eq_div_mul,←lM]
theorem Nt (a:N3):aE a.1.toNat 8++aE a.2.1.toNat 8=aE (bA a) 16:=by
 have h1:=a.1.isLt
 have h2:=a.2.1.isLt
 have e8:(256:Nat)^8=18446744073709551616:=by decide
 rw[show(16:Nat)=8+8 from rfl,Qn,←oa (bA a) 8,←oa (bA a/256^8) 8,e8]
 have k1:bA a%18446744073709551616=a.1.toNat:=by unfold bA;omega
 have k2:bA a/18446744073709551616%18446744073709551616=a.2.1.toNat:=by unfold bA;omega
 rw[k1,k2]
def l8 (key:List (BitVec 8)):N3:=(BitVec.ofNat 64 (le ((key.drop 16).take 8)),BitVec.ofNat 64 (le ((key.drop 24).take 8)),0#64)
theorem Nu (key:List (BitVec 8))(h:key.length=32):bA (l8 key)=le (key.drop 16):=by
 have h1:=p9 ((key.drop 16).take 8) 8 (by rw[List.length_take];omega)
 have h2:=p9 ((key.drop 24).take 8) 8 (by rw[List.length_take];omega)
 have s1:=vD (key.drop 16) 8
 rw[List.drop_drop,show 16+8=24 from rfl] at s1
 have e8:(256:Nat)^8=18446744073709551616:=by decide
 have ht:(key.drop 24).take 8=key.drop 24:=List.take_of_length_le (by rw[List.length_drop];omega)
 rw[e8] at h1 h2 s1
 rw[ht] at h2
 unfold bA l8
 simp only[BitVec.toNat_ofNat]
 rw[ht]
 rw[show 0%2^64=0 from rfl]
 omega
def oQ (key t:List (BitVec 8)):List (BitVec 8):=aE (bA (aN (rC key) t ((t.length+15)/16))%Pp+le (key.drop 16)) 16
theorem re (key t:List (BitVec 8)):(oQ key t).length=16:=by unfold oQ;rw[br]
theorem Nv (key t:List (BitVec 8))(h:key.length=32):aE (aP (iT (aN (rC key) t ((t.length+15)/16))) (l8 key)).1.toNat 8++aE (aP (iT (aN (rC key) t ((t.length+15)/16))) (l8 key)).2.1.toNat 8=oQ key t:=by
 obtain⟨_,h0,h1⟩:=S7 key h
 have hs:=Ns (rC key) t h0 h1 ((t.length+15)/16)
 have hl:=Ik _ (show(aN (rC key) t ((t.length+15)/16)).2.2.toNat<1152921504606846976 by omega)
 have hh:=il (iT (aN (rC key) t ((t.length+15)/16)))
 have hz:(l8 key).2.2.toNat=0:=rfl
 have hp:=kg (iT (aN (rC key) t ((t.length+15)/16))) (l8 key) (by
  rw[hz,hh,hl]
  have :=Nat.mod_lt (bA (aN (rC key) t ((t.length+15)/16))) (show 0<Pp by decide)
  omega)
 rw[Nt,hp,hl,Nu key h]
 rfl
theorem J0 (n:N3)(i:Nat)(h:i<3):[V.u64 n.1,V.u64 n.2.1,V.u64 n.2.2].getD i .junk= .u64 ([n.1,n.2.1,n.2.2].getD i 0):=by
 match i,h with
 |0,_=>rfl
 |1,_=>rfl
 |2,_=>rfl
theorem Nw (r:BitVec 64×BitVec 64)(i:Nat)(h:i<2):[V.u64 r.1,V.u64 r.2].getD i .junk= .u64 ([r.1,r.2].getD i 0):=by
 match i,h with
 |0,_=>rfl
 |1,_=>rfl
theorem GV (n:N3)(r:BitVec 64×BitVec 64):ao Tryz.prog 199 [.agg [.u64 n.1,.u64 n.2.1,.u64 n.2.2],.agg [.u64 r.1,.u64 r.2]] (.agg [.u64 (kv n r).1,.u64 (kv n r).2.1,.u64 (kv n r).2.2]):=by
 have hal:=yS n r 3
 have l0:=kM (gt n r 3)
 unfold kv
 refine aB (by kernel_rfl) (fn:=Tryz.f199) (by kernel_rfl) Tryz.func199 rfl (by show 2≤118;decide) (by simp[aa,V.low]) (by simp[aa,V.low]) (ae ?_)
 simp only[go_sem,↓reduceIte,Nat.reduceEqDiff,Nat.reduceLT,Nat.reduceAdd,Tryz.ntmps199]
 refine bf (fun ji st=>∃ i:Nat,i+ji=3∧st=⟨[(2,.ptr 0 0),(3,.ptr 1 0),(4,.ptr 2 0),(5,.ptr 3 0),(16,.agg [.u64 n.1,.u64 n.2.1,.u64 n.2.2]),(17,.i64 i)],[bK [.u64 n.1,.u64 n.2.1,.u64 n.2.2],bK [.u64 r.1,.u64 r.2],bK [.u64 0#64,.u64 0#64,.u64 0#64],bK ((gt n r i).map .u64)]⟩) ?_ ?_
 ·exact bP (3) ⟨[(2,.ptr 0 0),(3,.ptr 1 0),(4,.ptr 2 0),(5,.ptr 3 0),(16,.agg [.u64 n.1,.u64 n.2.1,.u64 n.2.2]),(17,.i64 (0:Nat))],[bK [.u64 n.1,.u64 n.2.1,.u64 n.2.2],bK [.u64 r.1,.u64 r.2],bK [.u64 0#64,.u64 0#64,.u64 0#64],bK ((gt n r (0:Nat)).map .u64)]⟩ (by simp[St.get,af,-List.map_set,-List.map_map]) rfl (fun _ _ h=>h) ⟨0,by omega,rfl⟩
 rintro ji st ⟨i,hi,rfl⟩ _
 simp only[go_sem,↓reduceIte,Nat.reduceEqDiff,Nat.reduceLT,Nat.reduceAdd,Int.reduceLE,Int.reduceLT,Int.reduceToNat,BitVec.reduceOfInt,reduceCtorEq]
 by_cases h0:i<3
 ·have h0':(i:Int)<3:=by omega
  have hml:=yS n r i
  have hi1:gX n r (gt n r i) i 2=gt n r (i+1):=rfl
  simp only[go_sem,↓reduceIte,h0',h0,J0 n i h0]
  generalize gt n r i=w at hml hi1 ⊢
  refine⟨by omega,?_⟩
  refine bf (fun jk st=>∃ k:Nat,k+jk=2∧st=⟨[(2,.ptr 0 0),(3,.ptr 1 0),(4,.ptr 2 0),(5,.ptr 3 0),(6,.i64 i),(7,.u64 ([n.1,n.2.1,n.2.2].getD i 0)),(16,.agg [.u64 n.1,.u64 n.2.1,.u64 n.2.2]),(17,.i64 i),(21,.agg [.u64 r.1,.u64 r.2]),(22,.i64 k)],[bK [.u64 n.1,.u64 n.2.1,.u64 n.2.2],bK [.u64 r.1,.u64 r.2],bK [.u64 0#64,.u64 0#64,.u64 0#64],bK ((gX n r w i k).map .u64)]⟩) ?_ ?_
  ·exact bP (2) ⟨[(2,.ptr 0 0),(3,.ptr 1 0),(4,.ptr 2 0),(5,.ptr 3 0),(6,.i64 i),(7,.u64 ([n.1,n.2.1,n.2.2].getD i 0)),(16,.agg [.u64 n.1,.u64 n.2.1,.u64 n.2.2]),(17,.i64 i),(21,.agg [.u64 r.1,.u64 r.2]),(22,.i64 (0:Nat))],[bK [.u64 n.1,.u64 n.2.1,.u64 n.2.2],bK [.u64 r.1,.u64 r.2],bK [.u64 0#64,.u64 0#64,.u64 0#64],bK ((gX n r w i (0:Nat)).map .u64)]⟩ (by simp[St.get,af,-List.map_set,-List.map_map]) rfl (fun _ _ h=>h) ⟨0,by omega,rfl⟩
  rintro jk st ⟨k,hk,rfl⟩ _
  simp only[go_sem,↓reduceIte,Nat.reduceEqDiff,Nat.reduceLT,Nat.reduceAdd]
  have hrl:=yR n r w i k
  rw[hml] at hrl
  by_cases hk0:k<2
  ·have hk0':(k:Int)<2:=by omega
   generalize hx:[n.1,n.2.1,n.2.2].getD i 0=x
   generalize hy:[r.1,r.2].getD k 0=y
   have hk1:kL (gX n r w i k) (i+k) x y=gX n r w i (k+1):=by rw[gX,hx,hy]
   generalize gX n r w i k=u at hrl hk1 ⊢
   have e1:aj ((i:Int)+(k:Int))=((i+k:Nat):Int):=by rw[am (by omega) (by omega)];omega
   have e2:aj (((i+k:Nat):Int)+1)=((i+k+1:Nat):Int):=by rw[am (by omega) (by omega)];omega
   have e3:aj (((i+k:Nat):Int)+2)=((i+k+2:Nat):Int):=by rw[am (by omega) (by omega)];omega
   have g1:((i+k:Nat):Int)<5:=by omega
   have g2:i+k<5:=by omega
   have g3:((i+k+1:Nat):Int)<5:=by omega
   have g4:i+k+1<5:=by omega
   have g5:i+k<u.length:=by omega
   simp only[go_sem,↓reduceIte,hk0',hk0,Nw r k hk0,hy]
   refine⟨by omega,?_⟩
   refine ak (zr x y) ?_
   simp only[go_sem,↓reduceIte,Nat.reduceEqDiff,Nat.reduceLT,Int.reduceLT,BitVec.reduceOfInt,e1,g1,g2,hrl,dQ g5]
   refine⟨by omega,?_⟩
   have hc1:=gQ (u.getD (i+k) 0) (x*y) 0#64 (by decide)
   refine pB (pE (u.getD (i+k) 0) (x*y) 0#64 (by decide)) ?_
   simp only[go_sem,↓reduceIte,Nat.reduceEqDiff,Nat.reduceLT,Nat.reduceLeDiff,e1,e2,g1,g3,g4,hrl]
   refine⟨by omega,by omega,by omega,?_⟩
   unfold kL at hk1
   simp only at hk1
   have hl1:(u.set (i+k) (u.getD (i+k) 0+x*y+0#64)).length=5:=by rw[List.length_set];exact hrl
   generalize u.set (i+k) (u.getD (i+k) 0+x*y+0#64)=u1 at hl1 hk1 ⊢
   generalize bn (u.getD (i+k) 0) (x*y) 0#64=c1 at hc1 hk1 ⊢
   have g6:i+k+1<u1.length:=by omega
   simp only[go_sem,dQ g6]
   refine pB (pE (u1.getD (i+k+1) 0) (b7 x y) c1 hc1) ?_
   simp only[go_sem,↓reduceIte,Nat.reduceEqDiff,Nat.reduceLT,Nat.reduceLeDiff,reduceCtorEq,e1,e3,g3,hl1]
   refine⟨by omega,by omega,?_⟩
   have hl2:(u1.set (i+k+1) (u1.getD (i+k+1) 0+b7 x y+c1)).length=5:=by rw[List.length_set];exact hl1
   generalize u1.set (i+k+1) (u1.getD (i+k+1) 0+b7 x y+c1)=u2 at hl2 hk1 ⊢
   generalize bn (u1.getD (i+k+1) 0) (b7 x y) c1=c2 at hk1 ⊢
   by_cases g7:i+k+2<5
   ·have g7':((i+k+2:Nat):Int)<5:=by omega
    have g8:i+k+2<u2.length:=by omega
    rw[if_pos g7] at hk1
    simp only[go_sem,↓reduceIte,Nat.reduceEqDiff,Nat.reduceLT,Nat.reduceLeDiff,g7',g7,hl2,dQ g8,hk1]
    refine⟨by omega,by omega,by omega,?_⟩
    refine bL (jk-1) ⟨[(2,.ptr 0 0),(3,.ptr 1 0),(4,.ptr 2 0),(5,.ptr 3 0),(6,.i64 i),(7,.u64 x),(16,.agg [.u64 n.1,.u64 n.2.1,.u64 n.2.2]),(17,.i64 i),(21,.agg [.u64 r.1,.u64 r.2]),(22,.i64 (k+1:Nat))],[bK [.u64 n.1,.u64 n.2.1,.u64 n.2.2],bK [.u64 r.1,.u64 r.2],bK [.u64 0#64,.u64 0#64,.u64 0#64],bK ((gX n r w i (k+1:Nat)).map .u64)]⟩ (by omega) ?_ rfl (fun _ _ h=>h) ⟨k+1,by omega,rfl⟩
    have hw1:aj ((k:Int)+1)=((k+1:Nat):Int):=by rw[am (by omega) (by omega)];omega
    simp[St.get,af,hw1,-List.map_set,-List.map_map]
   ·have g7':¬ ((i+k+2:Nat):Int)<5:=by omega
    rw[if_neg g7] at hk1
    simp only[go_sem,↓reduceIte,g7',hk1]
    refine bL (jk-1) ⟨[(2,.ptr 0 0),(3,.ptr 1 0),(4,.ptr 2 0),(5,.ptr 3 0),(6,.i64 i),(7,.u64 x),(16,.agg [.u64 n.1,.u64 n.2.1,.u64 n.2.2]),(17,.i64 i),(21,.agg [.u64 r.1,.u64 r.2]),(22,.i64 (k+1:Nat))],[bK [.u64 n.1,.u64 n.2.1,.u64 n.2.2],bK [.u64 r.1,.u64 r.2],bK [.u64 0#64,.u64 0#64,.u64 0#64],bK ((gX n r w i (k+1:Nat)).map .u64)]⟩ (by omega) ?_ rfl (fun _ _ h=>h) ⟨k+1,by omega,rfl⟩
    have hw1:aj ((k:Int)+1)=((k+1:Nat):Int):=by rw[am (by omega) (by omega)];omega
    simp[St.get,af,hw1,-List.map_set,-List.map_map]
  ·obtain rfl:k=2:=by omega
   have hk0':¬ ((2:Nat):Int)<2:=by omega
   simp only[go_sem,↓reduceIte,Int.reduceLT,hi1]
   refine bL (ji-1) ⟨[(2,.ptr 0 0),(3,.ptr 1 0),(4,.ptr 2 0),(5,.ptr 3 0),(16,.agg [.u64 n.1,.u64 n.2.1,.u64 n.2.2]),(17,.i64 (i+1:Nat))],[bK [.u64 n.1,.u64 n.2.1,.u64 n.2.2],bK [.u64 r.1,.u64 r.2],bK [.u64 0#64,.u64 0#64,.u64 0#64],bK ((gt n r (i+1:Nat)).map .u64)]⟩ (by omega) ?_ rfl (fun _ _ h=>h) ⟨i+1,by omega,rfl⟩
   have hw1:aj ((i:Int)+1)=((i+1:Nat):Int):=by rw[am (by omega) (by omega)];omega
   simp[St.get,af,hw1,-List.map_set,-List.map_map]
 ·obtain rfl:i=3:=by omega
  have h0':¬ ((3:Nat):Int)<3:=by omega
  generalize gt n r 3=w at hal ⊢
  have a0:0<w.length:=by omega
  have a1:1<w.length:=by omega
  have a2:2<w.length:=by omega
  have a3:3<w.length:=by omega
  have a4:4<w.length:=by omega
  have p1:=lj (cI w) (cI w)
  have p2:=lj (aP (cI w) (cI w)) (cI w)
  have p3:=lj (aP (aP (cI w) (cI w)) (cI w)) (cI w)
  have p4:=lj (aP (aP (aP (cI w) (cI w)) (cI w)) (cI w)) (cI w)
  have p5:=lj (kM w) (qq (cI w))
  have p6:=zt (aP (kM w) (qq (cI w)))
  have p4':aP (aP (aP (aP (cI w) (cI w)) (cI w)) (cI w)) (cI w)=qq (cI w):=rfl
  have eh1:w.getD 2 0>>>2|||w.getD 3 0<<<62=(cI w).1:=rfl
  have eh2:w.getD 3 0>>>2|||w.getD 4 0<<<62=(cI w).2.1:=rfl
  have eh3:w.getD 4 0>>>2=(cI w).2.2:=rfl
  have el1:w.getD 0 0=(kM w).1:=rfl
  have el2:w.getD 1 0=(kM w).2.1:=rfl
  have el3:w.getD 2 0&&&3#64=(kM w).2.2:=rfl
  simp only[go_sem,↓reduceIte,Nat.reduceEqDiff,Nat.reduceLT,Nat.reduceLeDiff,Nat.reduceAdd,Int.reduceLE,Int.reduceLT,Int.reduceToNat,BitVec.reduceOfInt,BitVec.reduceToNat,hal,dQ a0,dQ a1,dQ a2,dQ a3,dQ a4,eh1,eh2]
  simp only[eh3,el1,el2,el3]
  rw[p4'] at p4
  generalize cI w=H at*
  generalize kM w=L at*
  refine aH (p1) ?_
  simp only[go_sem,↓reduceIte,Nat.reduceEqDiff,Nat.reduceLT,Nat.reduceAdd]
  refine aH (p2) ?_
  simp only[go_sem,↓reduceIte,Nat.reduceEqDiff,Nat.reduceLT,Nat.reduceAdd]
  refine aH (p3) ?_
  simp only[go_sem,↓reduceIte,Nat.reduceEqDiff,Nat.reduceLT,Nat.reduceAdd]
  refine aH (p4) ?_
  simp only[go_sem,↓reduceIte,Nat.reduceEqDiff,Nat.reduceLT,Nat.reduceAdd]
  refine⟨by kernel_rfl,?_⟩
  refine ak (p5) ?_
  simp only[go_sem,↓reduceIte,Nat.reduceLT]
  refine ak (p6) ?_
  simp only[go_sem,↓reduceIte,Nat.reduceEqDiff,Nat.reduceAdd]
theorem Xk (p:List (BitVec 8)):(p.take (min p.length 8)).take 8=p.take 8:=by
 by_cases h:8≤p.length
 ·rw[Nat.min_eq_right h,List.take_take];rfl
 ·rw[Nat.min_eq_left (by omega),List.take_length]
theorem WA (p:List (BitVec 8)):((p.take (min p.length 16)).drop 8).take 8=(p.drop 8).take 8:=by
 by_cases h:16≤p.length
 ·rw[Nat.min_eq_right h,List.drop_take,List.take_take];rfl
 ·rw[Nat.min_eq_left (by omega),List.take_length]
theorem Nx (key t:List (BitVec 8))(h:key.length=32)(ht:t.length≤140737488351232):ao Tryz.prog 190 [.str key,.str t] (.tup [.str (oQ key t),.i64 0]):=by
 have h':(key.length:Int)=32:=by omega
 have k1:=eT (key.take 8) (by rw[List.length_take];omega)
 have k2:=eT ((key.drop 8).take 8) (by rw[List.length_take];omega)
 rw[List.take_take,show min 8 8=8 from rfl] at k1 k2
 have hd16:(key.take 16).drop 8=(key.drop 8).take 8:=by rw[List.drop_take]
 have r1:BitVec.ofNat 64 (le (key.take 8))&&&1152921487695413247#64=(rC key).1:=rfl
 have r2:BitVec.ofNat 64 (le ((key.drop 8).take 8))&&&1152921487695413244#64=(rC key).2:=rfl
 refine aB (by kernel_rfl) (fn:=Tryz.f190) (by kernel_rfl) Tryz.func190 rfl (by show 2≤78;decide) (by simp[aa,V.low]) (by simp[aa,V.low]) (ae ?_)
 simp only[go_sem,seval,Tryz.ntmps190,h']
 refine aH (k1) ?_
 simp only[go_sem,seval,h',hd16]
 refine aH (k2) ?_
 simp only[go_sem,seval,r1,r2]
 refine⟨by kernel_rfl,?_⟩
 refine bf (fun ji st=>∃ i:Nat,i+ji=(t.length+15)/16∧st=⟨[(0,.str key),(1,.str (t.drop (16*i))),(6,.ptr 0 0),(7,.ptr 1 0)],[bK [.u64 (rC key).1,.u64 (rC key).2],bK [.u64 (aN (rC key) t i).1,.u64 (aN (rC key) t i).2.1,.u64 (aN (rC key) t i).2.2]]⟩) ?_ ?_
 ·exact bP ((t.length+15)/16) ⟨[(0,.str key),(1,.str (t.drop (16*(0:Nat)))),(6,.ptr 0 0),(7,.ptr 1 0)],[bK [.u64 (rC key).1,.u64 (rC key).2],bK [.u64 (aN (rC key) t (0:Nat)).1,.u64 (aN (rC key) t (0:Nat)).2.1,.u64 (aN (rC key) t (0:Nat)).2.2]]⟩ (by simp[St.get,af,-List.map_set,-List.map_map]) rfl (fun _ _ h=>h) ⟨0,by omega,rfl⟩
 rintro ji st ⟨i,hi,rfl⟩ _
 simp only[go_sem,seval]
 have hd:(t.drop (16*i)).length=t.length-16*i:=List.length_drop
 by_cases h0:16*i<t.length
 ·have hne:¬ t.drop (16*i)=[]:=fun e=>by rw[e] at hd;simp at hd;omega
  have hmn:(if((t.length-16*i:Nat):Int)<16 then((t.length-16*i:Nat):Int) else 16)=((min (t.length-16*i) 16:Nat):Int):=by split <;>omega
  have hpl:(dD t i).length=min (t.length-16*i) 16+1:=by unfold dD;rw[List.length_append,List.length_take,hd,Nat.min_comm];rfl
  have htk:(t.drop (16*i)).take (min (t.length-16*i) 16)++[1#8]=dD t i:=by
   unfold dD
   by_cases hc:16≤t.length-16*i
   ·rw[Nat.min_eq_right hc]
   ·rw[Nat.min_eq_left (by omega),List.take_of_length_le (by omega),List.take_of_length_le (by omega)]
  have hb1:bytesOf ⟨#[1]⟩=[1#8]:=rfl
  have hacc:kv (aP (aN (rC key) t i) (iZ (dD t i))) (rC key)=aN (rC key) t (i+1):=rfl
  have hnb:iZ (dD t i)=(BitVec.ofNat 64 (le ((dD t i).take 8)),BitVec.ofNat 64 (le (((dD t i).drop 8).take 8)),BitVec.ofNat 64 (le ((dD t i).drop 16))):=rfl
  have hlast:16<(dD t i).length→(dD t i).drop 16=[1#8]:=fun hh=>by
   unfold dD
   rw[List.drop_append,List.drop_of_length_le (by rw[List.length_take];omega),List.length_take,hd,Nat.min_eq_left (by omega)];rfl
  have hdr:(t.drop (16*i)).drop (min (t.length-16*i) 16)=t.drop (16*(i+1)):=by
   rw[List.drop_drop]
   by_cases hh:16≤t.length-16*i
   ·rw[Nat.min_eq_right hh,Nat.mul_add]
   ·rw[Nat.min_eq_left (by omega),List.drop_of_length_le (by omega),List.drop_of_length_le (by omega)]
  have htt:(t.drop (16*i)).take (t.length-16*i)=t.drop (16*i):=List.take_of_length_le (by omega)
  generalize hL:(dD t i).length=L at hpl hlast
  generalize hnm:iZ (dD t i)=nm at hacc hnb
  have pl:=lj (aN (rC key) t i) nm
  have ti:=GV (aP (aN (rC key) t i) nm) (rC key)
  rw[hacc] at ti
  generalize hpn:aP (aN (rC key) t i) nm=pn at pl ti
  generalize dD t i=p at htk hL hlast hnb
  have m8:(if(L:Int)<8 then(L:Int) else 8)=((min L 8:Nat):Int):=by split <;>omega
  have m16:(if(L:Int)<16 then(L:Int) else 16)=((min L 16:Nat):Int):=by split <;>omega
  have kk1:=eT (p.take (min L 8)) (by rw[List.length_take];omega)
  have kk2:=eT ((p.take (min L 16)).drop 8) (by rw[List.length_drop,List.length_take];omega)
  have t8:=Xk p
  have t16:=WA p
  rw[hL] at t8 t16
  rw[t8] at kk1
  rw[t16] at kk2
  have hmL:min (min (t.length-16*i) 16) (t.length-16*i)+1=L:=by omega
  simp only[go_sem,seval,hne,hmn,hb1,htk,m8,hmL]
  refine⟨by omega,by omega,⟨by omega,by omega⟩,?_⟩
  refine ak (kk1) ?_
  simp only[go_sem,seval,hL,m16]
  by_cases c8:8<L
  ·have c8':(8:Int)<(L:Int):=by omega
   simp only[go_sem,seval,c8']
   refine⟨by omega,?_⟩
   refine ak (kk2) ?_
   simp only[go_sem,seval,hL]
   by_cases c16:16<L
   ·have c16':(16:Int)<(L:Int):=by omega
    rw[hlast c16,show BitVec.ofNat 64 (le [1#8])=1#64 from rfl] at hnb
    rw[hnb] at pl
    simp only[go_sem,seval,c16']
    refine aH (pl) ?_
    simp only[go_sem,seval]
    refine aH (ti) ?_
    simp only[go_sem,seval,hmn,hd,hdr,htt]
    refine⟨by kernel_rfl,⟨by omega,by omega⟩,?_⟩
    have hw1:aj ((i:Int)+1)=((i+1:Nat):Int):=by rw[am (by omega) (by omega)];omega
    refine dP (ji-1) ⟨[(0,.str key),(1,.str (t.drop (16*(i+1:Nat)))),(6,.ptr 0 0),(7,.ptr 1 0)],[bK [.u64 (rC key).1,.u64 (rC key).2],bK [.u64 (aN (rC key) t (i+1:Nat)).1,.u64 (aN (rC key) t (i+1:Nat)).2.1,.u64 (aN (rC key) t (i+1:Nat)).2.2]]⟩ [0,1] (by omega) rfl (by simp) rfl (by decide) (by simp[cz,St.get,af,-List.map_map,-List.map_set,List.length_nil]) (by simp[List.length_nil]) ⟨i+1,by omega,rfl⟩
   ·have c16':¬ (16:Int)<(L:Int):=by omega
    rw[List.drop_of_length_le (by omega :p.length≤16),show BitVec.ofNat 64 (le [])=0#64 from rfl] at hnb
    rw[hnb] at pl
    simp only[go_sem,seval,c16']
    refine aH (pl) ?_
    simp only[go_sem,seval]
    refine aH (ti) ?_
    simp only[go_sem,seval,hmn,hd,hdr,htt]
    refine⟨by kernel_rfl,⟨by omega,by omega⟩,?_⟩
    have hw1:aj ((i:Int)+1)=((i+1:Nat):Int):=by rw[am (by omega) (by omega)];omega
    refine dP (ji-1) ⟨[(0,.str key),(1,.str (t.drop (16*(i+1:Nat)))),(6,.ptr 0 0),(7,.ptr 1 0)],[bK [.u64 (rC key).1,.u64 (rC key).2],bK [.u64 (aN (rC key) t (i+1:Nat)).1,.u64 (aN (rC key) t (i+1:Nat)).2.1,.u64 (aN (rC key) t (i+1:Nat)).2.2]]⟩ [0,1] (by omega) rfl (by simp) rfl (by decide) (by simp[cz,St.get,af,-List.map_map,-List.map_set,List.length_nil]) (by simp[List.length_nil]) ⟨i+1,by omega,rfl⟩
  ·have c8':¬ (8:Int)<(L:Int):=by omega
   have c16':¬ (16:Int)<(L:Int):=by omega
   rw[List.drop_of_length_le (by omega :p.length≤16),List.drop_of_length_le (by omega :p.length≤8),List.take_nil,show BitVec.ofNat 64 (le [])=0#64 from rfl] at hnb
   rw[hnb] at pl
   simp only[go_sem,seval,c8',c16']
   refine aH (pl) ?_
   simp only[go_sem,seval]
   refine aH (ti) ?_
   simp only[go_sem,seval,hmn,hd,hdr,htt]
   refine⟨by kernel_rfl,⟨by omega,by omega⟩,?_⟩
   have hw1:aj ((i:Int)+1)=((i+1:Nat):Int):=by rw[am (by omega) (by omega)];omega
   refine dP (ji-1) ⟨[(0,.str key),(1,.str (t.drop (16*(i+1:Nat)))),(6,.ptr 0 0),(7,.ptr 1 0)],[bK [.u64 (rC key).1,.u64 (rC key).2],bK [.u64 (aN (rC key) t (i+1:Nat)).1,.u64 (aN (rC key) t (i+1:Nat)).2.1,.u64 (aN (rC key) t (i+1:Nat)).2.2]]⟩ [0,1] (by omega) rfl (by simp) rfl (by decide) (by simp[cz,St.get,af,-List.map_map,-List.map_set,List.length_nil]) (by simp[List.length_nil]) ⟨i+1,by omega,rfl⟩
 ·have he:t.drop (16*i)=[]:=List.drop_of_length_le (by omega)
  obtain rfl:i=(t.length+15)/16:=by omega
  have hq:=Nv key t h
  have q1:=GT (aN (rC key) t ((t.length+15)/16))
  have q2:=lj (iT (aN (rC key) t ((t.length+15)/16))) (l8 key)
  generalize iT (aN (rC key) t ((t.length+15)/16))=ln at hq q1 q2
  generalize aP ln (l8 key)=fin at hq q2
  have w1:=eT ((key.drop 16).take 8) (by rw[List.length_take];omega)
  have w2:=eT (key.drop 24) (by rw[List.length_drop];omega)
  rw[List.take_take,show min 8 8=8 from rfl] at w1
  have hk1:(key.take 24).drop 16=(key.drop 16).take 8:=by rw[List.drop_take]
  have hkl:(key.take 32).drop 24=key.drop 24:=by rw[List.take_of_length_le (by omega)]
  have a1:=ue fin.1
  have a2:=k8 (aE fin.1.toNat 8) fin.2.1 (by rw[br];omega)
  rw[br,hq] at a2
  have htl:=re key t
  simp only[go_sem,seval,he]
  refine aH (q1) ?_
  simp only[go_sem,seval,hk1,h']
  refine aH (w1) ?_
  simp only[go_sem,seval,hkl,h']
  refine aH (w2) ?_
  simp only[go_sem,seval]
  refine aH (q2) ?_
  simp only[go_sem,seval]
  refine⟨by kernel_rfl,?_⟩
  refine bh [] (a1) (by kernel_rfl) (by simp) rfl (by simp) (by first|decide|simp) (by simp) (by simp) (by simp) (by simp) (by simp) ?_
  simp only[go_sem,seval]
  refine bh [2] (a2) (by kernel_rfl) (by simp) rfl (by simp) (by first|decide|simp) (by simp) (by simp) (by simp) (by simp) (by simp) ?_
  simp only[go_sem,seval,htl,List.take_of_length_le]
  kernel_rfl
def gY (k c m t:List (BitVec 8))(most:Nat):Int:=if k.length=32 then(if c.length=12 then(if 2000<m.length then 2 else if most<t.length then 2 else 0) else 1) else 1
theorem yT (k c m t:List (BitVec 8))(most:Nat):ao Tryz.prog 174 [.str k,.str c,.str m,.str t,.i64 most] (.i64 (gY k c m t most)):=by
 unfold gY
 by_cases h1:k.length=32
 ·by_cases h2:c.length=12
  ·by_cases h3:2000<m.length
   ·have h3':(2000:Int)<(m.length:Int):=by omega
    refine aB (by kernel_rfl) (fn:=Tryz.f174) (by kernel_rfl) Tryz.func174 rfl (by show 5≤30;decide) (by simp[aa,V.low]) (by simp[V.low]) (ae ?_)
    simp only[go_sem,seval,Tryz.ntmps174,Tryz.results174,h1,h2,h3,h3']
   ·have h3':¬ (2000:Int)<(m.length:Int):=by omega
    by_cases h4:most<t.length
    ·have h4':(most:Int)<(t.length:Int):=by omega
     refine aB (by kernel_rfl) (fn:=Tryz.f174) (by kernel_rfl) Tryz.func174 rfl (by show 5≤30;decide) (by simp[aa,V.low]) (by simp[V.low]) (ae ?_)
     simp only[go_sem,seval,Tryz.ntmps174,Tryz.results174,h1,h2,h3,h3',h4,h4']
    ·have h4':¬ (most:Int)<(t.length:Int):=by omega
     refine aB (by kernel_rfl) (fn:=Tryz.f174) (by kernel_rfl) Tryz.func174 rfl (by show 5≤30;decide) (by simp[aa,V.low]) (by simp[V.low]) (ae ?_)
     simp only[go_sem,seval,Tryz.ntmps174,Tryz.results174,h1,h2,h3,h3',h4,h4']
  ·have h2':¬ (c.length:Int)=12:=by omega
   refine aB (by kernel_rfl) (fn:=Tryz.f174) (by kernel_rfl) Tryz.func174 rfl (by show 5≤30;decide) (by simp[aa,V.low]) (by simp[V.low]) (ae ?_)
   simp only[go_sem,seval,Tryz.ntmps174,Tryz.results174,h1,h2,h2']
 ·have h1':¬ (k.length:Int)=32:=by omega
  refine aB (by kernel_rfl) (fn:=Tryz.f174) (by kernel_rfl) Tryz.func174 rfl (by show 5≤30;decide) (by simp[aa,V.low]) (by simp[V.low]) (ae ?_)
  simp only[go_sem,seval,Tryz.ntmps174,Tryz.results174,h1,h1']
theorem Au (k c m t:List (BitVec 8))(most:Nat)(h:gY k c m t most=0):k.length=32∧c.length=12∧m.length≤2000∧t.length≤most:=by
 unfold gY at h
 split at h
 ·split at h
  ·split at h
   ·simp at h
   ·split at h
    ·simp at h
    ·omega
  ·simp at h
 ·simp at h
theorem yj (s:List (BitVec 8))(hs:s.length≤140737488351232):ao Tryz.prog 191 [.str s] (.str (mY s)):=by
 have e1:(s.length:Int).tmod 16=((s.length%16:Nat):Int):=rfl
 have e2:aj (16-((s.length%16:Nat):Int))=((16-s.length%16:Nat):Int):=by rw[am (by omega) (by omega)];omega
 have e3:((16-s.length%16:Nat):Int).tmod 16=(((16-s.length%16)%16:Nat):Int):=rfl
 have hr:=nz ((16-s.length%16)%16) (by omega)
 refine aB (by kernel_rfl) (fn:=Tryz.f191) (by kernel_rfl) Tryz.func191 rfl (by show 1≤11;decide) (by simp[aa,V.low]) (by simp[V.low]) (ae ?_)
 simp only[go_sem,seval,Tryz.ntmps191,e1,e2,e3]
 refine ak (hr) ?_
 simp only[go_sem,seval]
 exact⟨by omega,rfl⟩
def lQ (m s:List (BitVec 8)):List (BitVec 8):=aE (BitVec.ofInt 64 (m.length:Int)).toNat 8++aE (BitVec.ofInt 64 (s.length:Int)).toNat 8
def oR (m s:List (BitVec 8)):List (BitVec 8):=mY m++(mY s++lQ m s)
def eO (k c m s:List (BitVec 8)):List (BitVec 8):=oQ ((dS k c 0#32).take 32) (oR m s)
theorem GW (m s:List (BitVec 8))(hm:m.length≤2000)(hs:s.length≤2016):(oR m s).length≤10000:=by
 unfold oR lQ
 rw[List.length_append,List.length_append,List.length_append,br,br,qQ,qQ];omega
theorem Bz (k c m s:List (BitVec 8))(h1:k.length=32)(h2:c.length=12)(hm:m.length≤2000)(hs:s.length≤2016):ao Tryz.prog 176 [.str k,.str c,.str m,.str s] (.str (eO k c m s)):=by
 have hb:=u5 k c 0#32 h1 h2
 have hbl:=qJ k c 0#32 h1 h2
 have a1:=ue (BitVec.ofInt 64 (m.length:Int))
 have hl8:=br (BitVec.ofInt 64 (m.length:Int)).toNat 8
 have hl8s:=br (BitVec.ofInt 64 (s.length:Int)).toNat 8
 have a2:=k8 (aE (BitVec.ofInt 64 (m.length:Int)).toNat 8) (BitVec.ofInt 64 (s.length:Int)) (by rw[hl8];omega)
 rw[hl8,show aE (BitVec.ofInt 64 (m.length:Int)).toNat 8++aE (BitVec.ofInt 64 (s.length:Int)).toNat 8=lQ m s from rfl] at a2
 have hll:(lQ m s).length=16:=by unfold lQ;rw[List.length_append,hl8,hl8s]
 have hfm:=qQ m
 have hfs:=qQ s
 have hmsg:=GW m s hm hs
 have ht:=Nx ((dS k c 0#32).take 32) (oR m s) (by rw[List.length_take,hbl];rfl) (by omega)
 have e:mY m++(mY s++lQ m s)=oR m s:=rfl
 have e':oQ ((dS k c 0#32).take 32) (oR m s)=eO k c m s:=rfl
 rw[e'] at ht
 refine aB (by kernel_rfl) (fn:=Tryz.f176) (by kernel_rfl) Tryz.func176 rfl (by show 4≤43;decide) (by simp[aa,V.low]) (by simp[V.low]) (ae ?_)
 simp only[go_sem,seval,Tryz.ntmps176]
 refine ak (hb) ?_
 simp only[go_sem,seval]
 refine aq [] (a1) (by kernel_rfl) (by simp) rfl (by simp) (by first|decide|simp) (by simp) (by simp) (by simp) (by simp) (by simp) ?_
 simp only[go_sem,seval]
 refine aq [0] (a2) (by kernel_rfl) (by simp) rfl (by simp) (by first|decide|simp) (by simp) (by simp) (by simp) (by simp) (by simp) ?_
 simp only[go_sem,seval,hbl]
 refine aH (yj m (by omega)) ?_
 simp only[go_sem,seval]
 refine aH (yj s (by omega)) ?_
 simp only[go_sem,seval,hll,hfm,hfs]
 have hlt:(lQ m s).take 16=lQ m s:=List.take_of_length_le (by omega)
 rw[hlt,List.append_assoc,e]
 refine⟨by omega,by omega,?_⟩
 refine aH (ht) ?_
 simp only[go_sem,seval]
 kernel_rfl
theorem uo (B:BitVec 32→List (BitVec 8))(hB:∀ m,(B m).length=64)(n:BitVec 32)(t:List (BitVec 8)):(xored B n t).length=t.length:=by
 unfold xored;rw[fV,uj B hB];omega
def jv (k c m t:List (BitVec 8)):List (BitVec 8)×Int:=if gY k c m t 2000=0 then(xored (dS k c) 1#32 t++eO k c m (xored (dS k c) 1#32 t),0) else([],gY k c m t 2000)
def kF (k c m z:List (BitVec 8)):List (BitVec 8)×Int:=if gY k c m z 2016=0 then(if z.length<16 then([],4) else if z.take (z.length-16)++eO k c m (z.take (z.length-16))=z then(xored (dS k c) 1#32 (z.take (z.length-16)),0) else([],6)) else([],gY k c m z 2016)
theorem J1 (k c m t:List (BitVec 8)):ao Tryz.prog 159 [.str k,.str c,.str m,.str t] (.tup [.str (jv k c m t).1,.i64 (jv k c m t).2]):=by
 have hc:=yT k c m t 2000
 unfold jv
 by_cases h:gY k c m t 2000=0
 ·obtain⟨h1,h2,h3,h4⟩:=Au _ _ _ _ _ h
  rw[h] at hc
  rw[if_pos h]
  have hB:∀ n,(dS k c n).length=64:=fun n=>qJ k c n h1 h2
  have hx:=yQ k c 1#32 t (dS k c) hB (fun n=>u5 k c n h1 h2) h1 h2 h4
  have hxl:=uo (dS k c) hB 1#32 t
  generalize xored (dS k c) 1#32 t=x at hx hxl ⊢
  have ht:=Bz k c m x h1 h2 h3 (by omega)
  have htl:(eO k c m x).length=16:=re _ _
  refine aB (by kernel_rfl) (fn:=Tryz.f159) (by kernel_rfl) Tryz.func159 rfl (by show 4≤35;decide) (by simp[aa,V.low]) (by simp[aa,V.low]) (ae ?_)
  simp only[go_sem,seval,Tryz.ntmps159]
  refine ak (hc) ?_
  simp only[go_sem,seval]
  refine ak (hx) ?_
  simp only[go_sem,seval]
  refine ak (ht) ?_
  simp only[go_sem,seval,htl]
  omega
 ·rw[if_neg h]
  refine aB (by kernel_rfl) (fn:=Tryz.f159) (by kernel_rfl) Tryz.func159 rfl (by show 4≤35;decide) (by simp[aa,V.low]) (by simp[aa,V.low]) (ae ?_)
  simp only[go_sem,seval,Tryz.ntmps159]
  refine ak (hc) ?_
  simp only[go_sem,seval,h]
theorem J2 (k c m z:List (BitVec 8)):ao Tryz.prog 163 [.str k,.str c,.str m,.str z] (.tup [.str (kF k c m z).1,.i64 (kF k c m z).2]):=by
 have hc:=yT k c m z 2016
 unfold kF
 by_cases h:gY k c m z 2016=0
 ·obtain⟨h1,h2,h3,h4⟩:=Au _ _ _ _ _ h
  rw[h] at hc
  rw[if_pos h]
  by_cases hs:z.length<16
  ·have hs':(z.length:Int)<16:=by omega
   rw[if_pos hs]
   refine aB (by kernel_rfl) (fn:=Tryz.f163) (by kernel_rfl) Tryz.func163 rfl (by show 4≤45;decide) (by simp[aa,V.low]) (by simp[aa,V.low]) (ae ?_)
   simp only[go_sem,seval,Tryz.ntmps163]
   refine ak (hc) ?_
   simp only[go_sem,seval,hs']
  ·have hs':¬ (z.length:Int)<16:=by omega
   rw[if_neg hs]
   have e16:aj ((z.length:Int)-16)=((z.length-16:Nat):Int):=by rw[am (by omega) (by omega)];omega
   have hle:((z.length-16:Nat):Int)≤(z.length:Int):=by omega
   have z0:(0:Int)≤((z.length-16:Nat):Int):=by omega
   have hxl:(z.take (z.length-16)).length=z.length-16:=by rw[List.length_take];omega
   have hB:∀ n,(dS k c n).length=64:=fun n=>qJ k c n h1 h2
   have hx:=yQ k c 1#32 (z.take (z.length-16)) (dS k c) hB (fun n=>u5 k c n h1 h2) h1 h2 (by omega)
   have ht:=Bz k c m (z.take (z.length-16)) h1 h2 h3 (by omega)
   have htl:(eO k c m (z.take (z.length-16))).length=16:=re _ _
   generalize hS:z.take (z.length-16)=s at hxl hx ht htl ⊢
   generalize xored (dS k c) 1#32 s=x at hx ⊢
   by_cases hq:s++eO k c m s=z
   ·rw[if_pos hq]
    refine aB (by kernel_rfl) (fn:=Tryz.f163) (by kernel_rfl) Tryz.func163 rfl (by show 4≤45;decide) (by simp[aa,V.low]) (by simp[aa,V.low]) (ae ?_)
    simp only[go_sem,seval,Tryz.ntmps163]
    refine ak (hc) ?_
    simp only[go_sem,seval,hs',e16,hle,z0,hS]
    refine ak (ht) ?_
    simp only[go_sem,seval,hq,hxl,htl]
    refine⟨by omega,?_⟩
    refine ak (hx) ?_
    simp only[go_sem,seval]
   ·rw[if_neg hq]
    refine aB (by kernel_rfl) (fn:=Tryz.f163) (by kernel_rfl) Tryz.func163 rfl (by show 4≤45;decide) (by simp[aa,V.low]) (by simp[aa,V.low]) (ae ?_)
    simp only[go_sem,seval,Tryz.ntmps163]
    refine ak (hc) ?_
    simp only[go_sem,seval,hs',e16,hle,z0,hS]
    refine ak (ht) ?_
    simp only[go_sem,seval,hq,hxl,htl]
    omega
 ·rw[if_neg h]
  refine aB (by kernel_rfl) (fn:=Tryz.f163) (by kernel_rfl) Tryz.func163 rfl (by show 4≤45;decide) (by simp[aa,V.low]) (by simp[aa,V.low]) (ae ?_)
  simp only[go_sem,seval,Tryz.ntmps163]
  refine ak (hc) ?_
  simp only[go_sem,seval,h]
def zero4:List (BitVec 8):=[0#8,0#8,0#8,0#8]
def bS (s:Int)(n:BitVec 64):List (BitVec 8):=if s=1 then zero4++aE n.toNat 8 else zero4++ar n.toNat 8
theorem J3 (n:BitVec 64):ao Tryz.prog 234 [.agg [],.u64 n] (.str (zero4++aE n.toNat 8)):=by
 have ha:=k8 zero4 n (by decide)
 have hl:=br n.toNat 8
 rw[show zero4.length=4 from rfl] at ha
 unfold zero4 at ha ⊢
 generalize aE n.toNat 8=z at*
 have hz:z.take 8=z:=List.take_of_length_le (by omega)
 refine aB (by kernel_rfl) (fn:=Tryz.f234) (by kernel_rfl) Tryz.func234 rfl (by show 2≤9;decide) (by simp[aa,V.low]) (by simp[V.low]) (ae ?_)
 simp only[go_sem,seval,Tryz.ntmps234]
 refine aq [1] (ha) (by kernel_rfl) (by simp) rfl (by simp) (by first|decide|simp) (by simp) (by simp) (by simp) (by simp) (by simp) ?_
 simp only[go_sem,seval,hl,hz]
theorem J4 (n:BitVec 64):ao Tryz.prog 238 [.agg [],.u64 n] (.str (zero4++ar n.toNat 8)):=by
 have ha:=qO zero4 n (by decide)
 have hl:=aW n.toNat 8
 rw[show zero4.length=4 from rfl] at ha
 unfold zero4 at ha ⊢
 generalize ar n.toNat 8=z at*
 have hz:z.take 8=z:=List.take_of_length_le (by omega)
 refine aB (by kernel_rfl) (fn:=Tryz.f238) (by kernel_rfl) Tryz.func238 rfl (by show 2≤9;decide) (by simp[aa,V.low]) (by simp[V.low]) (ae ?_)
 simp only[go_sem,seval,Tryz.ntmps238]
 refine aq [1] (ha) (by kernel_rfl) (by simp) rfl (by simp) (by first|decide|simp) (by simp) (by simp) (by simp) (by simp) (by simp) ?_
 simp only[go_sem,seval,hl,hz]
theorem Im (k c m t:List (BitVec 8)):ao Tryz.prog 236 [.agg [],.str k,.str c,.str m,.str t] (.tup [.str (jv k c m t).1,.i64 (jv k c m t).2]):=by
 have h:=J1 k c m t
 generalize jv k c m t=g at*
 refine aB (by kernel_rfl) (fn:=Tryz.f236) (by kernel_rfl) Tryz.func236 rfl (by show 5≤19;decide) (by simp[aa,V.low]) (by simp[aa,V.low]) (ae ?_)
 simp only[go_sem,seval,Tryz.ntmps236]
 refine ak (h) ?_
 simp only[go_sem,seval]
theorem In (k c m t:List (BitVec 8)):ao Tryz.prog 235 [.agg [],.str k,.str c,.str m,.str t] (.tup [.str (kF k c m t).1,.i64 (kF k c m t).2]):=by
 have h:=J2 k c m t
 generalize kF k c m t=g at*
 refine aB (by kernel_rfl) (fn:=Tryz.f235) (by kernel_rfl) Tryz.func235 rfl (by show 5≤19;decide) (by simp[aa,V.low]) (by simp[aa,V.low]) (ae ?_)
 simp only[go_sem,seval,Tryz.ntmps235]
 refine ak (h) ?_
 simp only[go_sem,seval]
theorem Vi:dK Tryz.prog 257 "souterrain/noise.nonce"=some 234:=by kernel_rfl
theorem Vj:dK Tryz.prog 257 "souterrain/noise.seal"=some 236:=by kernel_rfl
theorem Vk:dK Tryz.prog 257 "souterrain/noise.open"=some 235:=by kernel_rfl
theorem Vl:dK Tryz.prog 258 "souterrain/noise.nonce"=some 238:=by kernel_rfl
theorem Vn:dK Tryz.prog 258 "souterrain/noise.seal"=some 240:=by kernel_rfl
theorem Vo:dK Tryz.prog 258 "souterrain/noise.open"=some 239:=by kernel_rfl
theorem rM:(#[]:Array Operand).isEmpty=true:=rfl
def qr:Nat→BitVec 8→BitVec 8→BitVec 8→BitVec 8
 |0,_,_,n=>n
 |k+1,a,b,n=>if 0#8<b then qr k (a<<<1 ^^^ a>>>7*27) (b>>>1) (n ^^^ a*(b&&&1)) else n
def gu (a b:BitVec 8):BitVec 8:=qr 8 a b 0
theorem mM (a b:BitVec 8):ao Tryz.prog 254 [.u8 a,.u8 b] (.u8 (gu a b)):=by
 refine aB (by kernel_rfl) (fn:=Tryz.f254) (by kernel_rfl) Tryz.func254 rfl (by show 2≤23;decide) (by simp[aa,V.low]) (by simp[V.low]) (ae ?_)
 simp only[go_sem,seval,Tryz.ntmps254]
 refine bf (fun j s=>∃ a' b' n',s=⟨[(0,.u8 a'),(1,.u8 b'),(5,.u8 n')],[]⟩∧b'.toNat<2^j∧gu a b=qr j a' b' n') ?_ ?_
 ·exact bP 8 ⟨[(0,.u8 a),(1,.u8 b),(5,.u8 0)],[]⟩ (by simp[St.get,af]) rfl (fun _ _ h=>h) ⟨a,b,0,rfl,b.isLt,rfl⟩
 ·rintro j s ⟨a',b',n',rfl,hb,he⟩ _
  simp only[go_sem,seval]
  split
  ·rename_i h0
   cases j with
   |zero=>exact absurd h0 (by rw[BitVec.lt_def];simp;omega)
   |succ j=>
    refine bL j ⟨[(0,.u8 (a'<<<1 ^^^ a'>>>7*27)),(1,.u8 (b'>>>1)),(5,.u8 (n' ^^^ a'*(b'&&&1)))],[]⟩ (by omega) (by simp[St.get,af]) rfl (fun _ _ h=>h) ⟨_,_,_,rfl,?_,?_⟩
    ·simp[Nat.shiftRight_eq_div_pow];omega
    ·rw[he,qr,if_pos h0]
  ·rename_i h0
   rw[he]
   cases j with
   |zero=>rfl
   |succ j=>rw[qr,if_neg h0]
def nx (a:Nat):Nat:=(a*2%256) ^^^ (a/128*27)
def xt:Nat→BitVec 8→BitVec 8→BitVec 8
 |0,n,_=>n
 |k+1,n,s=>xt k (gu n (gu s s)) (gu s s)
def kO (a:BitVec 8):BitVec 8:=xt 7 1 a
theorem Ny (a:BitVec 8):ao Tryz.prog 264 [.u8 a] (.u8 (kO a)):=by
 refine aB (by kernel_rfl) (fn:=Tryz.f264) (by kernel_rfl) Tryz.func264 rfl (by show 1≤16;decide) (by simp[aa,V.low]) (by simp[V.low]) (ae ?_)
 simp only[go_sem,seval,Tryz.ntmps264]
 refine bf (fun j s=>∃ (i:Nat) (n q:BitVec 8),i+j=7∧s=⟨[(3,.u8 n),(4,.u8 q),(6,.i64 i)],[]⟩∧kO a=xt j n q) ?_ ?_
 ·exact bP 7 ⟨[(3,.u8 1),(4,.u8 a),(6,.i64 (0:Nat))],[]⟩ (by simp[St.get,af]) rfl (fun _ _ h=>h) ⟨0,1,a,by omega,rfl,rfl⟩
 ·rintro j s ⟨i,n,q,hi,rfl,he⟩ _
  simp only[go_sem,seval]
  split
  ·refine ak (mM _ _) ?_
   simp only[go_sem,seval]
   refine ak (mM _ _) ?_
   simp only[go_sem,seval]
   obtain⟨j,rfl⟩:∃ k,j=k+1:=⟨j-1,by omega⟩
   refine bL j ⟨[(3,.u8 (gu n (gu q q))),(4,.u8 (gu q q)),(6,.i64 (i+1:Nat))],[]⟩ (by omega) ?_ rfl (fun _ _ h=>h) ⟨i+1,_,_,by omega,rfl,he⟩
   have :aj ((i:Int)+1)=((i+1:Nat):Int):=by rw[am (by omega) (by omega)];omega
   simp[St.get,af,this]
  ·obtain rfl:j=0:=by omega
   rw[he];rfl
theorem zu (i:Nat):BitVec.ofInt 8 (i:Int)=BitVec.ofNat 8 i:=BitVec.ofInt_natCast 8 i
def DR (x:BitVec 8)(k:Nat):BitVec 8:=x<<<k|||x>>>(8-k)
theorem Nz (n:Int):(BitVec.ofInt 64 n&&&7#64).toNat=(n%8).toNat:=by
 rw[BitVec.toNat_and,BitVec.toNat_ofInt,show(7#64).toNat=2^3-1 from rfl,Nat.and_two_pow_sub_one_eq_mod]
 omega
theorem J5 (x:BitVec 8)(n:Int):ao Tryz.prog 265 [.u8 x,.i64 n] (.u8 (DR x (n%8).toNat)):=by
 have e:=Nz n
 have e2:(8#64-(BitVec.ofInt 64 n&&&7#64)).toNat=8-(n%8).toNat:=by
  rw[BitVec.toNat_sub,e]
  have :(8#64).toNat=8:=rfl
  rw[this];omega
 refine aB (by kernel_rfl) (fn:=Tryz.f265) (by kernel_rfl) Tryz.func265 rfl (by show 2≤17;decide) (by simp[aa,V.low]) (by simp[V.low]) (ae ?_)
 simp only[go_sem,seval,Tryz.ntmps265,Tryz.results265,e,e2]
 rfl
def ni (b:BitVec 8):Nat→BitVec 8
 |0=>b ^^^ 99#8
 |i+1=>ni b i ^^^ DR b (((i+1:Nat):Int)%8).toNat
def cg (a:BitVec 8):BitVec 8:=ni (kO a) 4
theorem NA (a:BitVec 8):ao Tryz.prog 253 [.u8 a] (.u8 (cg a)):=by
 refine aB (by kernel_rfl) (fn:=Tryz.f253) (by kernel_rfl) Tryz.func253 rfl (by show 1≤21;decide) (by simp[aa,V.low]) (by simp[V.low]) (ae ?_)
 simp only[go_sem,seval,Tryz.ntmps253]
 refine ak (Ny _) ?_
 simp only[go_sem,seval]
 refine bf (fun j st=>∃ i:Nat,i+j=4∧st=⟨[(3,.u8 (kO a)),(4,.u8 (ni (kO a) i)),(10,.i64 i)],[]⟩) ?_ ?_
 ·exact bP (4) ⟨[(3,.u8 (kO a)),(4,.u8 (ni (kO a) (0:Nat))),(10,.i64 (0:Nat))],[]⟩ (by simp[St.get,af,ni]) rfl (fun _ _ h=>h) ⟨0,by omega,rfl⟩
 rintro j st ⟨i,hi,rfl⟩ _
 simp only[go_sem,seval]
 by_cases h0:i<4
 ·have h0':(i:Int)<4:=by omega
  have hw:aj ((i:Int)+1)=((i+1:Nat):Int):=by rw[am (by omega) (by omega)];omega
  simp only[go_sem,seval,h0',hw]
  refine ak (J5 _ _) ?_
  simp only[go_sem,seval]
  refine bL (j-1) ⟨[(3,.u8 (kO a)),(4,.u8 (ni (kO a) (i+1:Nat))),(10,.i64 (i+1:Nat))],[]⟩ (by omega) ?_ rfl (fun _ _ h=>h) ⟨i+1,by omega,rfl⟩
  have hw1:aj ((i:Int)+1)=((i+1:Nat):Int):=by rw[am (by omega) (by omega)];omega
  simp[St.get,af,hw1,ni]
 ·have h0':¬ (i:Int)<4:=by omega
  simp only[go_sem,seval,h0']
  obtain rfl:i=4:=by omega
  rfl
def du:Nat→List (BitVec 8)
 |0=>List.replicate 512 0#8
 |i+1=>((du i).set i (cg (BitVec.ofNat 8 i))).set (256+(cg (BitVec.ofNat 8 i)).toNat) (BitVec.ofNat 8 i)
theorem pF (i:Nat):(du i).length=512:=by
 induction i with
 |zero=>rw[du,List.length_replicate]
 |succ i ih=>rw[du,List.length_set,List.length_set,ih]
theorem yl {l:List (BitVec 8)}{i j:Nat}{x:BitVec 8}(h:i≠j):(l.set i x).getD j 0=l.getD j 0:=by
 rw[List.getD_eq_getElem?_getD,List.getElem?_set_ne h,←List.getD_eq_getElem?_getD]
theorem FT {l:List (BitVec 8)}{i:Nat}{x:BitVec 8}(h:i<l.length):(l.set i x).getD i 0=x:=by
 rw[List.getD_eq_getElem?_getD,List.getElem?_set_self h];rfl
theorem Qo (i:Nat)(hi:i≤256):∀ b:BitVec 8,b.toNat<i→(du i).getD b.toNat 0=cg b:=by
 induction i with
 |zero=>intro b h;omega
 |succ i ih=>
  intro b h
  have hl:=pF i
  rw[du,yl (by have :=b.isLt;omega)]
  by_cases e:b.toNat=i
  ·have hb:BitVec.ofNat 8 i=b:=by rw[←e];simp
   rw[e,FT (by omega),hb]
  ·rw[yl (by omega),ih (by omega) b (by omega)]
theorem xu (b:BitVec 8):(du 256).getD b.toNat 0=cg b:=Qo 256 (Nat.le_refl _) b b.isLt
theorem J6:ag Tryz.prog 248 [] [] (.ptr 0 0) [bK ((du 256).map .u8)]:=by
 refine ap (by kernel_rfl) (fn:=Tryz.f248) Tryz.func248 rfl (by show 0≤27;decide) (ae ?_)
 simp only[go_sem,seval,Tryz.ntmps248]
 refine bf (fun ji st=>∃ i:Nat,i+ji=256∧st=⟨[(1,.ptr 0 0),(6,.i64 i)],[bK ((du i).map .u8)]⟩) ?_ ?_
 ·exact bP (256) ⟨[(1,.ptr 0 0),(6,.i64 (0:Nat))],[bK ((du (0:Nat)).map .u8)]⟩ (by simp[St.get,af,-List.map_set,-List.map_map]) rfl (fun _ _ h=>h) ⟨0,by omega,rfl⟩
 rintro ji st ⟨i,hi,rfl⟩ _
 simp only[go_sem,seval]
 have hl:=pF i
 by_cases h0:i<256
 ·have h0':(i:Int)<256:=by omega
  have hlt:=(cg (BitVec.ofNat 8 i)).isLt
  have hlt':((cg (BitVec.ofNat 8 i)).toNat:Int)<256:=by omega
  have hz:(0:Int)≤((cg (BitVec.ofNat 8 i)).toNat:Int):=by omega
  have hst:((du i).set i (cg (BitVec.ofNat 8 i))).set (256+(cg (BitVec.ofNat 8 i)).toNat) (BitVec.ofNat 8 i)=du (i+1):=rfl
  have g1:i<512:=by omega
  have g2:256+(cg (BitVec.ofNat 8 i)).toNat<512:=by omega
  have hls:∀ x,((du i).set i x).length=512:=fun x=>by rw[List.length_set,hl]
  simp only[go_sem,seval,h0',zu]
  refine ak (NA _) ?_
  simp only[go_sem,seval,zu,h0',hlt',hz,hl,hls,hst]
  refine⟨by omega,by omega,by omega,by kernel_rfl,?_⟩
  refine bL (ji-1) ⟨[(1,.ptr 0 0),(6,.i64 (i+1:Nat))],[bK ((du (i+1:Nat)).map .u8)]⟩ (by omega) ?_ rfl (fun _ _ h=>h) ⟨i+1,by omega,rfl⟩
  have hw1:aj ((i:Int)+1)=((i+1:Nat):Int):=by rw[am (by omega) (by omega)];omega
  simp[St.get,af,hw1,-List.map_set,-List.map_map]
 ·obtain rfl:i=256:=by omega
  have h0':¬ ((256:Nat):Int)<256:=by omega
  simp only[go_sem,seval]
  exact Fin.ren [0] (by simp) (by simp) (by rfl) (by decide) (by simp) (by simp)
def oq (s:List (BitVec 8)):List (BitVec 8):=s.map cg
def p2:Nat→BitVec 8
 |0=>1#8
 |k+1=>gu (p2 k) 2#8
def gW (n i:Nat)(w:List (BitVec 8)):List (BitVec 8):=if i%n=0 then aQ (oq (w.drop 1++w.take 1)) (p2 (i/n-1)::List.replicate 3 0#8) else if n=8∧i%8=4 then oq w else w
def wl (key:List (BitVec 8))(n:Nat):Nat→List (List (BitVec 8))
 |0=>[]
 |i+1=>if i<n then wl key n i++[(key.drop (4*i)).take 4] else wl key n i++[aQ ((wl key n i).getD (i-n) []) (gW n i ((wl key n i).getD (i-1) []))]
theorem vE (key:List (BitVec 8))(n i:Nat):(wl key n i).length=i:=by
 induction i with
 |zero=>rfl
 |succ i ih=>rw[wl];split <;>(rw[List.length_append,ih];rfl)
theorem x9 (s:List (BitVec 8)):(oq s).length=s.length:=by unfold oq;rw[List.length_map]
theorem J7 (n i:Nat)(w:List (BitVec 8))(h:w.length=4):(gW n i w).length=4:=by
 unfold gW
 split
 ·rw[fV,x9,List.length_append,List.length_drop,List.length_take,h];rfl
 ·split
  ·rw[x9,h]
  ·exact h
theorem rN {l:List (List (BitVec 8))}{i:Nat}(h:i<l.length):l.getD i []∈l:=by
 rw[List.getD_eq_getElem?_getD,List.getElem?_eq_getElem h];exact List.getElem_mem h
theorem Cq (key:List (BitVec 8))(n:Nat)(hn:0<n)(hk:key.length=4*n)(i:Nat):∀ w∈wl key n i,w.length=4:=by
 induction i with
 |zero=>intro w h;simp[wl] at h
 |succ i ih=>
  intro w hw
  have hl:=vE key n i
  rw[wl] at hw
  split at hw
  ·rcases List.mem_append.1 hw with h|h
   ·exact ih w h
   ·rw[List.mem_singleton.1 h,List.length_take,List.length_drop];omega
  ·rcases List.mem_append.1 hw with h|h
   ·exact ih w h
   ·rw[List.mem_singleton.1 h,fV,J7 _ _ _ (ih _ (rN (by omega))),ih _ (rN (by omega))];rfl
theorem Cr (key:List (BitVec 8))(n:Nat)(hn:0<n)(hk:key.length=4*n)(i:Nat):(wl key n i).flatten.length=4*i:=by
 have h4:=Cq key n hn hk i
 have hl:=vE key n i
 generalize wl key n i=l at*
 subst hl
 induction l with
 |nil=>rfl
 |cons x l ih=>rw[List.flatten_cons,List.length_append,h4 x (by simp),ih (fun w hw=>h4 w (by simp[hw])),List.length_cons];omega
theorem S8 (key:List (BitVec 8))(n:Nat)(hk:key.length=4*n)(i:Nat)(hi:i≤n):(wl key n i).flatten=key.take (4*i):=by
 induction i with
 |zero=>rfl
 |succ i ih=>
  rw[wl,if_pos (by omega),List.flatten_append,ih (by omega)]
  rw[show 4*(i+1)=4*i+4 by omega,List.take_add]
  simp
theorem Qp (l:List (List (BitVec 8)))(h4:∀ w∈l,w.length=4)(i k:Nat)(hi:i<l.length)(hk:k<4):l.flatten.getD (4*i+k) 0=(l.getD i []).getD k 0:=by
 induction l generalizing i with
 |nil=>simp at hi
 |cons x l ih=>
  have hx:=h4 x (by simp)
  cases i with
  |zero=>rw[List.flatten_cons,List.getD_eq_getElem?_getD,List.getElem?_append_left (by omega)];simp[List.getD_eq_getElem?_getD]
  |succ i=>
   have hi':i<l.length:=by rw[List.length_cons] at hi;omega
   rw[List.flatten_cons,List.getD_eq_getElem?_getD,List.getElem?_append_right (by omega),hx,show 4*(i+1)+k-4=4*i+k by omega,←List.getD_eq_getElem?_getD,ih (fun w hw=>h4 w (by simp[hw])) i hi']
   simp
theorem J8 (l:List (List (BitVec 8)))(h4:∀ w∈l,w.length=4)(i:Nat)(hi:i<l.length):(l.flatten.drop (4*i)).take 4=l.getD i []:=by
 induction l generalizing i with
 |nil=>simp at hi
 |cons x l ih=>
  have hx:=h4 x (by simp)
  cases i with
  |zero=>rw[List.flatten_cons,Nat.mul_zero,List.drop_zero,←hx,List.take_left];rfl
  |succ i=>
   have hi':i<l.length:=by rw[List.length_cons] at hi;omega
   rw[List.flatten_cons,show 4*(i+1)=4+4*i by omega,←List.drop_drop,←hx,List.drop_left,hx,ih (fun w hw=>h4 w (by simp[hw])) i hi']
   simp
theorem Cs (l:List (BitVec 8))(h:l.length=4):∃ a b c d,l=[a,b,c,d]:=by
 match l,h with
 |[a,b,c,d],_=>exact⟨a,b,c,d,rfl⟩
theorem rf (w x y z a b c d:V):splice [w,x,y,z] 0 [a,b,c,d]=[a,b,c,d]:=rfl
theorem GX (key:List (BitVec 8))(n:Nat)(hn:n=4∨n=8)(hk:key.length=4*n):ag Tryz.prog 249 [.ptr 0 0,.str key] [bK ((du 256).map .u8)] (.str (wl key n (4*(n+7))).flatten) [bK ((du 256).map .u8)]:=by
 have e0:aj ((key.length:Int).tdiv 4)=(n:Int):=by rw[show(4:Int)=((4:Nat):Int) from rfl,Bg,am (by omega) (by omega)];omega
 have e1:aj ((n:Int)+7)=((n+7:Nat):Int):=by rw[am (by omega) (by omega)];omega
 have e2:aj (4*((n+7:Nat):Int))=((4*(n+7):Nat):Int):=by rw[am (by omega) (by omega)];omega
 have hw0:(wl key n n).flatten=key:=by rw[S8 key n hk n (Nat.le_refl n),←hk,List.take_length]
 generalize hN:4*(n+7)=N at*
 have hT:=xu
 have hTl:=pF 256
 generalize du 256=T at*
 have hks:key.length≤1000:=by omega
 have hnn:(n-1)/n=0:=by rcases hn with rfl|rfl<;>rfl
 refine ap (by kernel_rfl) (fn:=Tryz.f249) Tryz.func249 rfl (by show 2≤117;decide) (ae ?_)
 simp only[go_sem,↓reduceIte,Nat.reduceEqDiff,Nat.reduceLT,Int.reduceLE,Int.reduceLT,Int.reduceEq,BitVec.reduceOfInt,Tryz.ntmps249,e0]
 refine⟨by omega,?_⟩
 refine bf (fun j st=>∃ i:Nat,i+j=N∧n≤i∧st=⟨[(0,.ptr 0 0),(5,.i64 n),(6,.slice 1 0 (4*i) 1),(7,.u8 (p2 ((i-1)/n))),(8,.i64 i)],[bK (T.map .u8),bK ((wl key n i).flatten.map .u8)]⟩) ?_ ?_
 ·exact bP (N-n) ⟨[(0,.ptr 0 0),(5,.i64 n),(6,.slice 1 0 (4*n) 1),(7,.u8 (p2 ((n-1)/n))),(8,.i64 n)],[bK (T.map .u8),bK ((wl key n n).flatten.map .u8)]⟩ (by simp[St.get,af,hnn,p2,hk]) rfl (by rw[hw0];exact fun _ _ h=>h) ⟨n,by omega,by omega,rfl⟩
 rintro j st ⟨i,hi,hni,rfl⟩ _
 have hwl:=vE key n i
 have hw4:=Cq key n (by omega) hk i
 have hfl:=Cr key n (by omega) hk i
 have hw1:aj ((i:Int)+1)=((i+1:Nat):Int):=by rw[am (by omega) (by omega)];omega
 by_cases hiN:i<N
 ·have hiN':(i:Int)<(N:Int):=by omega
  have z1:aj (((4*i:Nat):Int)-4)=((4*(i-1):Nat):Int):=by rw[am (by omega) (by omega)];omega
  have z2:((4*(i-1):Nat):Int)≤((4*i:Nat):Int):=by omega
  have z4:(0:Int)≤((4*(i-1):Nat):Int):=by omega
  have z5:4*i-4*(i-1)=4:=by omega
  have z6:(((4*i:Nat):Int)-((4*(i-1):Nat):Int)).toNat=4:=by omega
  have z7:4*(i-1)+4≤4*i:=by omega
  have n0:¬ (n:Int)=0:=by omega
  have tm:(i:Int).tmod (n:Int)=((i%n:Nat):Int):=rfl
  have hi1:i-1<(wl key n i).length:=by omega
  have hi2:i-n<(wl key n i).length:=by omega
  have hd:=J8 (wl key n i) hw4 (i-1) hi1
  have w1:=hw4 _ (rN hi1)
  have w2:=hw4 _ (rN hi2)
  have hfa:=fun k hk=>Qp (wl key n i) hw4 (i-n) k hi2 hk
  obtain⟨l,hle⟩:∃ l,l=(wl key n i).getD (i-1) []:=⟨_,rfl⟩
  obtain⟨r,hre⟩:∃ r,r=(wl key n i).getD (i-n) []:=⟨_,rfl⟩
  rw[←hle] at w1 hd
  rw[←hre] at w2 hfa
  have hs0:wl key n (i+1)=wl key n i++[aQ r (gW n i l)]:=by rw[wl,if_neg (by omega),←hle,←hre]
  have hs1:(wl key n (i+1)).flatten=(wl key n i).flatten++aQ r (gW n i l):=by rw[hs0,List.flatten_append];simp
  obtain⟨a,b,c,d,rfl⟩:=Cs l w1
  obtain⟨x0,x1,x2,x3,rfl⟩:=Cs r w2
  have hT':∀ b:BitVec 8,(T.map V.u8).getD b.toNat .junk= .u8 (cg b):=fun b=>by rw[fd (by have :=b.isLt;omega),hT]
  have hb1:∀ b:BitVec 8,(b.toNat:Int)<256:=fun b=>by have :=b.isLt;omega
  have hb2:∀ b:BitVec 8,(0:Int)≤(b.toNat:Int):=fun b=>by omega
  have hb3:∀ b:BitVec 8,b.toNat<512:=fun b=>by have :=b.isLt;omega
  have hb4:∀ b:BitVec 8,b.toNat<256:=fun b=>by have :=b.isLt;omega
  generalize hfg:(wl key n i).flatten=w at*
  have y0:aj ((i:Int)-(n:Int))=((i-n:Nat):Int):=by rw[am (by omega) (by omega)];omega
  have y1:aj (4*((i-n:Nat):Int))=((4*(i-n):Nat):Int):=by rw[am (by omega) (by omega)];omega
  have y2:aj (((4*(i-n):Nat):Int)+0)=((4*(i-n):Nat):Int):=by rw[am (by omega) (by omega)];omega
  have y3:aj (((4*(i-n):Nat):Int)+1)=((4*(i-n)+1:Nat):Int):=by rw[am (by omega) (by omega)];omega
  have y4:aj (((4*(i-n):Nat):Int)+2)=((4*(i-n)+2:Nat):Int):=by rw[am (by omega) (by omega)];omega
  have y5:aj (((4*(i-n):Nat):Int)+3)=((4*(i-n)+3:Nat):Int):=by rw[am (by omega) (by omega)];omega
  have k0:4*(i-n)<w.length:=by omega
  have k1:4*(i-n)<4*i:=by omega
  have k2:((4*(i-n):Nat):Int)<((4*i:Nat):Int):=by omega
  have k3:(0:Int)≤((4*(i-n):Nat):Int):=by omega
  have g0:w.getD (4*(i-n)) 0=x0:=hfa 0 (by decide)
  have hG:∀ k,k<4→∀ ys:List (BitVec 8),(List.map V.u8 (w++ys)).getD (4*(i-n)+k) .junk= .u8 ([x0,x1,x2,x3].getD k 0):=by
   intro k hk ys
   have hlt:4*(i-n)+k<w.length:=by omega
   rw[fd (by rw[List.length_append];omega),List.getD_eq_getElem?_getD,List.getElem?_append_left hlt,←List.getD_eq_getElem?_getD,hfa k hk]
  have g1:=hG 1 (by decide)
  have g2:=hG 2 (by decide)
  have g3:=hG 3 (by decide)
  have htk:w.take (4*i)=w:=List.take_of_length_le (by omega)
  have k4:4*(i-n)+1<4*i:=by omega
  have k5:4*(i-n)+2<4*i:=by omega
  have k6:4*(i-n)+3<4*i:=by omega
  by_cases hm0:i%n=0
  ·have hm0':((i%n:Nat):Int)=0:=by omega
   have hq:(i-1)/n=i/n-1:=by rcases hn with rfl|rfl<;>omega
   have hq1:i/n=(i/n-1)+1:=by rcases hn with rfl|rfl<;>omega
   have hp:p2 (i/n)=gu (p2 (i/n-1)) 2#8:=by rw[hq1];rfl
   have hg:gW n i [a,b,c,d]=[cg b ^^^ p2 (i/n-1),cg c,cg d,cg a]:=by unfold gW;rw[if_pos hm0];simp[oq,aQ]
   rw[hq]
   simp only[go_sem,↓reduceIte,Nat.reduceEqDiff,Nat.reduceLT,Nat.reduceAdd,Int.reduceLT,Int.reduceToNat,reduceCtorEq,e1,e2,hiN',hfl,z1,z2,z4,z6,z7,n0,tm,hm0',hd,rf]
   refine aY 4 ?_
   simp only[go_sem,↓reduceIte,Nat.reduceEqDiff,Nat.reduceLT,Nat.reduceLeDiff,Nat.reduceAdd,Nat.reduceSub,Int.reduceLE,Int.reduceLT,Int.reduceToNat,Int.reduceAdd,Int.reduceNeg,BitVec.reduceOfInt,reduceCtorEq,hT',hb1,hb2,hb3,hTl]
   refine⟨by kernel_rfl,by kernel_rfl,by kernel_rfl,?_⟩
   refine ak (mM _ _) ?_
   simp only[go_sem,↓reduceIte,Nat.reduceEqDiff,Nat.reduceLT,Nat.reduceAdd,←hp]
   refine aY 5 ?_
   simp only[go_sem,↓reduceIte,Nat.reduceEqDiff,Nat.reduceLT,Nat.reduceLeDiff,Nat.reduceAdd,Nat.reduceSub,Int.reduceLE,Int.reduceLT,Int.reduceToNat,Int.reduceAdd,Int.reduceNeg,reduceCtorEq,y0,y1,y2,y3,y4,y5,k1,k2,k3,fd k0,g0,hfl,List.append_assoc,g1,g2,g3,List.take_of_length_le]
   refine⟨⟨by omega,by omega⟩,⟨by omega,by omega⟩,by omega,⟨by omega,by omega⟩,⟨by omega,by omega⟩,by omega,⟨by omega,by omega⟩,⟨by omega,by omega⟩,by omega,⟨by omega,by omega⟩,?_⟩
   refine dP (j-1) ⟨[(0,.ptr 0 0),(5,.i64 n),(6,.slice 1 0 (4*(i+1:Nat)) 1),(7,.u8 (p2 (((i+1:Nat)-1)/n))),(8,.i64 (i+1:Nat))],[bK (T.map .u8),bK ((wl key n (i+1:Nat)).flatten.map .u8)]⟩ [0,10] (by omega) rfl (by simp) rfl (by decide) ?_ ?_ ⟨i+1,by omega,by omega,rfl⟩
   ·rw[show(i+1-1)/n=i/n by rw[Nat.add_sub_cancel]]
    simp[cz,St.get,af,hw1,hp,Nat.mul_add,-List.map_map,-List.map_set]
   ·rw[hs1,hg]
    simp[aQ,-List.map_map,-List.map_set]
  ·have hm0':¬ ((i%n:Nat):Int)=0:=by omega
   have hq:(i-1)/n=i/n:=by rcases hn with rfl|rfl<;>omega
   rw[hq]
   by_cases hn8:n=8
   ·have hn8':((n:Int)=8)=True:=eq_true (by omega)
    by_cases h4:i%n=4
    ·have h4':((i%n:Nat):Int)=4:=by omega
     have hg:gW n i [a,b,c,d]=[cg a,cg b,cg c,cg d]:=by unfold gW;rw[if_neg hm0,if_pos ⟨hn8,hn8▸h4⟩];simp[oq]
     simp only[go_sem,↓reduceIte,Nat.reduceEqDiff,Nat.reduceLT,Nat.reduceAdd,Int.reduceEq,reduceCtorEq,e1,e2,hiN',hfl,z1,z2,z4,z6,z7,n0,tm,hd,rf,hn8',h4']
     refine aY 5 ?_
     simp only[go_sem,↓reduceIte,Nat.reduceEqDiff,Nat.reduceLT,Nat.reduceLeDiff,Nat.reduceAdd,Nat.reduceSub,Int.reduceLE,Int.reduceLT,Int.reduceToNat,Int.reduceAdd,Int.reduceNeg,reduceCtorEq,hT',hb1,hb2,hb3,hTl]
     refine aY 5 ?_
     simp only[go_sem,↓reduceIte,Nat.reduceEqDiff,Nat.reduceLT,Nat.reduceLeDiff,Nat.reduceAdd,Nat.reduceSub,Int.reduceLE,Int.reduceLT,Int.reduceToNat,Int.reduceAdd,Int.reduceNeg,reduceCtorEq,y0,y1,y2,y3,y4,y5,k1,k2,k3,fd k0,g0,hfl,List.append_assoc,g1,g2,g3,List.take_of_length_le]
     refine⟨⟨by omega,by omega⟩,⟨by omega,by omega⟩,by omega,⟨by omega,by omega⟩,⟨by omega,by omega⟩,by omega,⟨by omega,by omega⟩,⟨by omega,by omega⟩,by omega,⟨by omega,by omega⟩,?_⟩
     refine dP (j-1) ⟨[(0,.ptr 0 0),(5,.i64 n),(6,.slice 1 0 (4*(i+1:Nat)) 1),(7,.u8 (p2 (((i+1:Nat)-1)/n))),(8,.i64 (i+1:Nat))],[bK (T.map .u8),bK ((wl key n (i+1:Nat)).flatten.map .u8)]⟩ [0,10] (by omega) rfl (by simp) rfl (by decide) ?_ ?_ ⟨i+1,by omega,by omega,rfl⟩
     ·rw[show(i+1-1)/n=i/n by rw[Nat.add_sub_cancel]]
      simp[cz,St.get,af,hw1,List.length_nil,Nat.mul_add,-List.map_map,-List.map_set]
     ·rw[hs1,hg]
      simp[aQ,-List.map_map,-List.map_set]
    ·have h4':¬ ((i%n:Nat):Int)=4:=by omega
     have hg:gW n i [a,b,c,d]=[a,b,c,d]:=by unfold gW;rw[if_neg hm0,if_neg (fun h=>h4 (by rw[hn8];exact h.2))]
     simp only[go_sem,↓reduceIte,Nat.reduceEqDiff,Nat.reduceLT,Nat.reduceAdd,reduceCtorEq,e1,e2,hiN',hfl,z1,z2,z4,z6,z7,n0,tm,hm0',hd,rf,hn8',h4']
     refine aY 5 ?_
     simp only[go_sem,↓reduceIte,Nat.reduceEqDiff,Nat.reduceLT,Nat.reduceLeDiff,Nat.reduceAdd,Nat.reduceSub,Int.reduceLE,Int.reduceLT,Int.reduceToNat,Int.reduceAdd,Int.reduceNeg,reduceCtorEq,y0,y1,y2,y3,y4,y5,k1,k2,k3,fd k0,g0,hfl,List.append_assoc,g1,g2,g3,List.take_of_length_le]
     refine⟨⟨by omega,by omega⟩,⟨by omega,by omega⟩,by omega,⟨by omega,by omega⟩,⟨by omega,by omega⟩,by omega,⟨by omega,by omega⟩,⟨by omega,by omega⟩,by omega,⟨by omega,by omega⟩,?_⟩
     refine dP (j-1) ⟨[(0,.ptr 0 0),(5,.i64 n),(6,.slice 1 0 (4*(i+1:Nat)) 1),(7,.u8 (p2 (((i+1:Nat)-1)/n))),(8,.i64 (i+1:Nat))],[bK (T.map .u8),bK ((wl key n (i+1:Nat)).flatten.map .u8)]⟩ [0,10] (by omega) rfl (by simp) rfl (by decide) ?_ ?_ ⟨i+1,by omega,by omega,rfl⟩
     ·rw[show(i+1-1)/n=i/n by rw[Nat.add_sub_cancel]]
      simp[cz,St.get,af,hw1,List.length_nil,Nat.mul_add,-List.map_map,-List.map_set]
     ·rw[hs1,hg]
      simp[aQ,-List.map_map,-List.map_set]
   ·have hn8':¬ (n:Int)=8:=by omega
    have hg:gW n i [a,b,c,d]=[a,b,c,d]:=by unfold gW;rw[if_neg hm0,if_neg (fun h=>hn8 h.1)]
    simp only[go_sem,↓reduceIte,Nat.reduceEqDiff,Nat.reduceLT,Nat.reduceAdd,reduceCtorEq,e1,e2,hiN',hfl,z1,z2,z4,z6,z7,n0,tm,hm0',hd,rf,hn8']
    refine aY 5 ?_
    simp only[go_sem,↓reduceIte,Nat.reduceEqDiff,Nat.reduceLT,Nat.reduceLeDiff,Nat.reduceAdd,Nat.reduceSub,Int.reduceLE,Int.reduceLT,Int.reduceToNat,Int.reduceAdd,Int.reduceNeg,reduceCtorEq,y0,y1,y2,y3,y4,y5,k1,k2,k3,fd k0,g0,hfl,List.append_assoc,g1,g2,g3,List.take_of_length_le]
    refine⟨⟨by omega,by omega⟩,⟨by omega,by omega⟩,by omega,⟨by omega,by omega⟩,⟨by omega,by omega⟩,by omega,⟨by omega,by omega⟩,⟨by omega,by omega⟩,by omega,⟨by omega,by omega⟩,?_⟩
    refine dP (j-1) ⟨[(0,.ptr 0 0),(5,.i64 n),(6,.slice 1 0 (4*(i+1:Nat)) 1),(7,.u8 (p2 (((i+1:Nat)-1)/n))),(8,.i64 (i+1:Nat))],[bK (T.map .u8),bK ((wl key n (i+1:Nat)).flatten.map .u8)]⟩ [0,10] (by omega) rfl (by simp) rfl (by decide) ?_ ?_ ⟨i+1,by omega,by omega,rfl⟩
    ·rw[show(i+1-1)/n=i/n by rw[Nat.add_sub_cancel]]
     simp[cz,St.get,af,hw1,List.length_nil,Nat.mul_add,-List.map_map,-List.map_set]
    ·rw[hs1,hg]
     simp[aQ,-List.map_map,-List.map_set]
 ·obtain rfl:i=N:=by omega
  have hiN':¬ (i:Int)<(i:Int):=by omega
  simp only[go_sem,↓reduceIte,Nat.reduceEqDiff,Nat.reduceLT,reduceCtorEq,e1,e2,hiN',hfl,List.take_of_length_le]
  exact Fin.ren [0] (by simp) (by simp) (by rfl) (by decide) (by simp) (by simp)
theorem Io (key:List (BitVec 8)):ao Tryz.prog 247 [.str key] (.bool (decide (key.length=16∨key.length=32))):=by
 by_cases h16:key.length=16
 ·have h1:(key.length:Int)=16:=by omega
  have hd:decide (key.length=16∨key.length=32)=true:=by simp[h16]
  rw[hd]
  refine aB (by kernel_rfl) (fn:=Tryz.f247) (by kernel_rfl) Tryz.func247 rfl (by show 1≤11;decide) (by simp[aa,V.low]) (by simp[V.low]) (ae ?_)
  simp only[go_sem,seval,Tryz.ntmps247,Tryz.results247,h1]
 ·have h1:¬ (key.length:Int)=16:=by omega
  by_cases h32:key.length=32
  ·have h2:(key.length:Int)=32:=by omega
   have h3:¬ (32:Int)=16:=by decide
   have hd:decide (key.length=16∨key.length=32)=true:=by simp[h32]
   rw[hd]
   refine aB (by kernel_rfl) (fn:=Tryz.f247) (by kernel_rfl) Tryz.func247 rfl (by show 1≤11;decide) (by simp[aa,V.low]) (by simp[V.low]) (ae ?_)
   simp only[go_sem,seval,Tryz.ntmps247,Tryz.results247,h2,h3]
  ·have h2:¬ (key.length:Int)=32:=by omega
   have hd:decide (key.length=16∨key.length=32)=false:=by simp[h16,h32]
   rw[hd]
   refine aB (by kernel_rfl) (fn:=Tryz.f247) (by kernel_rfl) Tryz.func247 rfl (by show 1≤11;decide) (by simp[aa,V.low]) (by simp[V.low]) (ae ?_)
   simp only[go_sem,seval,Tryz.ntmps247,Tryz.results247,h1,h2]
end Go.Vm
end
section
namespace Go.Vm
section
open Go.Proofs Go.RowKit
theorem wb (s k:List (BitVec 8))(hs:s.length=16)(hk:16≤k.length)(hk2:k.length≤1000):ag Tryz.prog 260 [.ptr 0 0,.str k] [bK (s.map .u8)] (.tup []) [bK ((aQ s k).map .u8)]:=by
 have hx:=rT s k (by omega) (by omega)
 have hl:(aQ s k).length=16:=by rw[fV];omega
 have hsp:splice (s.map V.u8) 0 (List.take 16 (List.map V.u8 (aQ s k)))=(aQ s k).map V.u8:=by rw[List.take_of_length_le (by rw[List.length_map,hl];exact Nat.le_refl _),bi _ _ (by rw[List.length_map,List.length_map,hl,hs])]
 refine ap (by kernel_rfl) (fn:=Tryz.f260) Tryz.func260 rfl (by show 2≤14;decide) (ae ?_)
 simp only[go_sem,seval,Tryz.ntmps260,hs,List.take_of_length_le]
 refine aH (hx) ?_
 simp only[go_sem,seval,hl,hs]
 refine⟨by kernel_rfl,?_⟩
 exact Fin.ren [0] (by simp) (by simp) (by rfl) (by decide) (by simp) (by simp[hsp])
def eJ (a b:List (BitVec 8))(i:Nat):List (BitVec 8):=a.take i++b.drop i
theorem uL (a b:List (BitVec 8))(i:Nat)(h:a.length=b.length):(eJ a b i).length=b.length:=by
 unfold eJ;rw[List.length_append,List.length_take,List.length_drop];omega
theorem vF (a b:List (BitVec 8))(i:Nat)(h:a.length=b.length)(hi:i<b.length):(eJ a b i).set i (a.getD i 0)=eJ a b (i+1):=by
 unfold eJ
 rw[List.set_append_right _ _ (by rw[List.length_take];omega),List.length_take,show i-min i a.length=0 by omega,List.drop_eq_getElem_cons hi,List.set_cons_zero,nT (by omega),List.append_assoc];rfl
theorem Qq (a b:List (BitVec 8))(i k:Nat)(h:a.length=b.length)(hk:i≤k)(hkb:k<b.length):(eJ a b i).getD k 0=b.getD k 0:=by
 unfold eJ
 rw[List.getD_eq_getElem?_getD,List.getElem?_append_right (by rw[List.length_take];omega),List.length_take,List.getElem?_drop,show i+(k-min i a.length)=k by omega,←List.getD_eq_getElem?_getD]
theorem wc (a b:List (BitVec 8))(h:a.length=b.length):eJ a b b.length=a:=by
 unfold eJ;rw[List.drop_length,List.append_nil,←h,List.take_length]
theorem J9 (f:BitVec 8→BitVec 8)(s:List (BitVec 8))(i:Nat)(h:i<s.length):(s.map f).getD i 0=f (s.getD i 0):=by
 rw[List.getD_eq_getElem?_getD,List.getD_eq_getElem?_getD,List.getElem?_map,List.getElem?_eq_getElem h];rfl
theorem FU (s T:List (BitVec 8))(o:Nat)(f:BitVec 8→BitVec 8)(hs:s.length=16)(hT:T.length=512)(ho:o≤256)(hf:∀ b:BitVec 8,T.getD (o+b.toNat) 0=f b):ag Tryz.prog 261 [.ptr 0 0,.ptr 1 o] [some ⟨false,s.map .u8,none⟩,some ⟨false,T.map .u8,none⟩] (.tup []) [some ⟨false,(s.map f).map .u8,none⟩,some ⟨false,T.map .u8,none⟩]:=by
 have hf':∀ b:BitVec 8,(T.map V.u8).getD (o+b.toNat) .junk= .u8 (f b):=fun b=>by rw[fd (by have :=b.isLt;omega),hf]
 have hb1:∀ b:BitVec 8,(b.toNat:Int)<256:=fun b=>by have :=b.isLt;omega
 have hb2:∀ b:BitVec 8,(0:Int)≤(b.toNat:Int):=fun b=>by omega
 have hb3:∀ b:BitVec 8,o+b.toNat<512:=fun b=>by have :=b.isLt;omega
 have hml:(s.map f).length=s.length:=List.length_map ..
 refine ap (by kernel_rfl) (fn:=Tryz.f261) Tryz.func261 rfl (by show 2≤23;decide) (ae ?_)
 simp only[go_sem,↓reduceIte,Nat.reduceLT,Nat.reduceAdd,Tryz.ntmps261]
 refine bf (fun ji st=>∃ i:Nat,i+ji=16∧st=⟨[(0,.ptr 0 0),(1,.ptr 1 o),(6,.ptr 0 0),(7,.i64 i)],[some ⟨false,(eJ (s.map f) s i).map .u8,none⟩,some ⟨false,T.map .u8,none⟩]⟩) ?_ ?_
 ·exact bP (16) ⟨[(0,.ptr 0 0),(1,.ptr 1 o),(6,.ptr 0 0),(7,.i64 (0:Nat))],[some ⟨false,(eJ (s.map f) s (0:Nat)).map .u8,none⟩,some ⟨false,T.map .u8,none⟩]⟩ (by simp[St.get,af,-List.map_set,-List.map_map]) rfl (fun _ _ h=>h) ⟨0,by omega,rfl⟩
 rintro ji st ⟨i,hi,rfl⟩ _
 simp only[go_sem,↓reduceIte,Nat.reduceEqDiff,Nat.reduceLT,Nat.reduceAdd,reduceCtorEq]
 have hl:=uL (s.map f) s i hml
 rw[hs] at hl
 by_cases h0:i<16
 ·have h0':(i:Int)<16:=by omega
  have zi:(0:Int)≤(i:Int):=by omega
  have ki:i<(eJ (s.map f) s i).length:=by omega
  have ha:=Qq (s.map f) s i i hml (Nat.le_refl _) (by omega)
  have hn:=vF (s.map f) s i hml (by omega)
  rw[J9 f s i (by omega)] at hn
  simp only[go_sem,↓reduceIte,Nat.reduceEqDiff,Nat.reduceLT,Nat.reduceLeDiff,Nat.reduceAdd,reduceCtorEq,h0',h0,zi,hl,hT,fd ki,ha,hf',hb1,hb2,hb3,hn]
  refine⟨by kernel_rfl,by omega,by kernel_rfl,?_⟩
  refine bL (ji-1) ⟨[(0,.ptr 0 0),(1,.ptr 1 o),(6,.ptr 0 0),(7,.i64 (i+1:Nat))],[some ⟨false,(eJ (s.map f) s (i+1:Nat)).map .u8,none⟩,some ⟨false,T.map .u8,none⟩]⟩ (by omega) ?_ rfl (fun _ _ h=>h) ⟨i+1,by omega,rfl⟩
  have hw1:aj ((i:Int)+1)=((i+1:Nat):Int):=by rw[am (by omega) (by omega)];omega
  simp[St.get,af,hw1,-List.map_set,-List.map_map]
 ·obtain rfl:i=16:=by omega
  have h0':¬ ((16:Nat):Int)<16:=by omega
  have he:=wc (s.map f) s hml
  rw[hs] at he
  simp only[go_sem,↓reduceIte,Int.reduceLT,he]
  exact Fin.ren [0,1] (by simp) (by simp) (by rfl) (by decide) (by simp[-List.map_map,-List.map_set]) (by simp[-List.map_map,-List.map_set])
def oS (f:Nat→BitVec 8):List (BitVec 8):=(List.range 16).map f
theorem rg (f:Nat→BitVec 8):(oS f).length=16:=by unfold oS;rw[List.length_map,List.length_range]
theorem Av (f:Nat→BitVec 8)(i:Nat)(h:i<16):(oS f).getD i 0=f i:=by
 unfold oS
 rw[List.getD_eq_getElem?_getD,List.getElem?_map,List.getElem?_range h];rfl
def ez (k:Nat)(s:List (BitVec 8)):List (BitVec 8):=oS fun i=>s.getD (i%4+4*((i/4+k*(i%4))%4)) 0
theorem Ka (s:List (BitVec 8))(k:Nat)(hs:s.length=16)(hk:k≤3):ag Tryz.prog 262 [.ptr 0 0,.i64 k] [bK (s.map .u8)] (.tup []) [bK ((ez k s).map .u8)]:=by
 have hml:(ez k s).length=s.length:=by rw[hs];exact rg _
 have hsp:∀ z:List V,z.length=16→splice z 0 (s.map V.u8)=s.map V.u8:=fun z hz=>bi _ _ (by rw[List.length_map,hs,hz])
 have hsp':=hsp [.u8 0#8,.u8 0#8,.u8 0#8,.u8 0#8,.u8 0#8,.u8 0#8,.u8 0#8,.u8 0#8,.u8 0#8,.u8 0#8,.u8 0#8,.u8 0#8,.u8 0#8,.u8 0#8,.u8 0#8,.u8 0#8] rfl
 have htk:List.take 16 (s.map V.u8)=s.map V.u8:=List.take_of_length_le (by rw[List.length_map,hs];exact Nat.le_refl _)
 refine ap (by kernel_rfl) (fn:=Tryz.f262) Tryz.func262 rfl (by show 2≤34;decide) (ae ?_)
 simp only[go_sem,↓reduceIte,Nat.reduceEqDiff,Nat.reduceLT,Nat.reduceAdd,Tryz.ntmps262,hs,htk,hsp']
 refine bf (fun ji st=>∃ i:Nat,i+ji=16∧st=⟨[(0,.ptr 0 0),(1,.i64 k),(4,.ptr 1 0),(11,.i64 i)],[bK ((eJ (ez k s) s i).map .u8),bK (s.map .u8)]⟩) ?_ ?_
 ·exact bP (16) ⟨[(0,.ptr 0 0),(1,.i64 k),(4,.ptr 1 0),(11,.i64 (0:Nat))],[bK ((eJ (ez k s) s (0:Nat)).map .u8),bK (s.map .u8)]⟩ (by simp[St.get,af,-List.map_set,-List.map_map]) rfl (fun _ _ h=>h) ⟨0,by omega,rfl⟩
 rintro ji st ⟨i,hi,rfl⟩ _
 simp only[go_sem,↓reduceIte,Nat.reduceEqDiff,Nat.reduceLT,Nat.reduceAdd,Int.reduceEq,reduceCtorEq]
 have hl:=uL (ez k s) s i hml
 rw[hs] at hl
 by_cases h0:i<16
 ·have h0':(i:Int)<16:=by omega
  have zi:(0:Int)≤(i:Int):=by omega
  have hkr:k*(i%4)≤3*3:=Nat.mul_le_mul hk (by omega)
  have hn:=vF (ez k s) s i hml (by omega)
  have t1:(i:Int).tmod 4=((i%4:Nat):Int):=rfl
  have t2:(i:Int).tdiv 4=((i/4:Nat):Int):=rfl
  have t2':aj ((i/4:Nat):Int)=((i/4:Nat):Int):=by rw[am (by omega) (by omega)]
  have t3:aj ((k:Int)*((i%4:Nat):Int))=((k*(i%4):Nat):Int):=by rw[show(k:Int)*((i%4:Nat):Int)=((k*(i%4):Nat):Int) from rfl,am (by omega) (by omega)]
  have t4:aj (((i/4:Nat):Int)+((k*(i%4):Nat):Int))=((i/4+k*(i%4):Nat):Int):=by rw[am (by omega) (by omega)];omega
  have t5:((i/4+k*(i%4):Nat):Int).tmod 4=(((i/4+k*(i%4))%4:Nat):Int):=rfl
  generalize hq:(i/4+k*(i%4))%4=q at*
  have t6:aj (4*(q:Int))=((4*q:Nat):Int):=by rw[am (by omega) (by omega)];omega
  have t7:aj (((i%4:Nat):Int)+((4*q:Nat):Int))=((i%4+4*q:Nat):Int):=by rw[am (by omega) (by omega)];omega
  have z1:(0:Int)≤((i%4+4*q:Nat):Int):=by omega
  have z2:((i%4+4*q:Nat):Int)<16:=by omega
  have z3:i%4+4*q<16:=by omega
  have z4:i%4+4*q<s.length:=by omega
  have hv:(ez k s).getD i 0=s.getD (i%4+4*q) 0:=by unfold ez;rw[Av _ i h0,hq]
  rw[hv] at hn
  simp only[go_sem,↓reduceIte,Nat.reduceEqDiff,Nat.reduceLT,Nat.reduceLeDiff,Nat.reduceAdd,reduceCtorEq,h0',zi,hl,hs,t1,t2,t2',t3,t4,t5,t6,t7,z1,z2,z3,fd z4,hn]
  refine⟨by omega,by kernel_rfl,?_⟩
  refine bL (ji-1) ⟨[(0,.ptr 0 0),(1,.i64 k),(4,.ptr 1 0),(11,.i64 (i+1:Nat))],[bK ((eJ (ez k s) s (i+1:Nat)).map .u8),bK (s.map .u8)]⟩ (by omega) ?_ rfl (fun _ _ h=>h) ⟨i+1,by omega,rfl⟩
  have hw1:aj ((i:Int)+1)=((i+1:Nat):Int):=by rw[am (by omega) (by omega)];omega
  simp[St.get,af,hw1,-List.map_set,-List.map_map]
 ·obtain rfl:i=16:=by omega
  have h0':¬ ((16:Nat):Int)<16:=by omega
  have he:=wc (ez k s) s hml
  rw[hs] at he
  simp only[go_sem,↓reduceIte,Int.reduceLT,he]
  exact Fin.ren [0] (by simp) (by simp) (by rfl) (by decide) (by simp) (by simp)
def mp (m s:List (BitVec 8))(i k:Nat):BitVec 8:=gu (m.getD ((k+4-i%4)%4) 0) (s.getD (4*(i/4)+k) 0)
def fq (m s:List (BitVec 8)):List (BitVec 8):=oS fun i=>0#8 ^^^ mp m s i 0 ^^^ mp m s i 1 ^^^ mp m s i 2 ^^^ mp m s i 3
theorem Fd (l:List (BitVec 8))(i:Nat)(x:BitVec 8)(h:i<l.length):(l.set i x).getD i 0=x:=by
 rw[List.getD_eq_getElem?_getD,List.getElem?_set_self h];rfl
theorem FV (s:List (BitVec 8))(m:List (BitVec 8))(hs:s.length=16)(hm:m.length=4):ag Tryz.prog 263 [.ptr 0 0,.agg (m.map .u8)] [bK (s.map .u8)] (.tup []) [bK ((fq m s).map .u8)]:=by
 have hml:(fq m s).length=s.length:=by rw[hs];exact rg _
 have hsp':splice [.u8 0#8,.u8 0#8,.u8 0#8,.u8 0#8,.u8 0#8,.u8 0#8,.u8 0#8,.u8 0#8,.u8 0#8,.u8 0#8,.u8 0#8,.u8 0#8,.u8 0#8,.u8 0#8,.u8 0#8,.u8 0#8] 0 (s.map V.u8)=s.map V.u8:=bi _ _ (by rw[List.length_map,hs];rfl)
 have htk:List.take 16 (s.map V.u8)=s.map V.u8:=List.take_of_length_le (by rw[List.length_map,hs];exact Nat.le_refl _)
 refine ap (by kernel_rfl) (fn:=Tryz.f263) Tryz.func263 rfl (by show 2≤50;decide) (ae ?_)
 simp only[go_sem,↓reduceIte,Nat.reduceEqDiff,Nat.reduceLT,Nat.reduceAdd,reduceCtorEq,Tryz.ntmps263,hs,htk,hsp']
 refine bf (fun ji st=>∃ i:Nat,i+ji=16∧st=⟨[(0,.ptr 0 0),(3,.ptr 1 0),(4,.ptr 2 0),(12,.i64 i)],[bK ((eJ (fq m s) s i).map .u8),bK (m.map .u8),bK (s.map .u8)]⟩) ?_ ?_
 ·exact bP (16) ⟨[(0,.ptr 0 0),(3,.ptr 1 0),(4,.ptr 2 0),(12,.i64 (0:Nat))],[bK ((eJ (fq m s) s (0:Nat)).map .u8),bK (m.map .u8),bK (s.map .u8)]⟩ (by simp[St.get,af,-List.map_set,-List.map_map]) rfl (fun _ _ h=>h) ⟨0,by omega,rfl⟩
 rintro ji st ⟨i,hi,rfl⟩ _
 simp only[go_sem,↓reduceIte,Nat.reduceEqDiff,Nat.reduceLT,Int.reduceLT,Int.reduceEq,BitVec.reduceOfInt,reduceCtorEq]
 have hl:=uL (fq m s) s i hml
 rw[hs] at hl
 by_cases h0:i<16
 ·have h0':(i:Int)<16:=by omega
  have zi:(0:Int)≤(i:Int):=by omega
  have hn:=vF (fq m s) s i hml (by omega)
  have t1:(i:Int).tmod 4=((i%4:Nat):Int):=rfl
  have t2:(i:Int).tdiv 4=((i/4:Nat):Int):=rfl
  have t2':aj ((i/4:Nat):Int)=((i/4:Nat):Int):=by rw[am (by omega) (by omega)]
  have hv:(fq m s).getD i 0=0#8 ^^^ mp m s i 0 ^^^ mp m s i 1 ^^^ mp m s i 2 ^^^ mp m s i 3:=by unfold fq;rw[Av _ i h0]
  rw[hv] at hn
  have a0:aj ((0:Int)-((i%4:Nat):Int))=(0:Int)-((i%4:Nat):Int):=am (by omega) (by omega)
  have b0:aj ((0:Int)-((i%4:Nat):Int)+4)=((4-i%4:Nat):Int):=by rw[am (by omega) (by omega)];omega
  have c0:aj (((4*(i/4):Nat):Int)+0)=((4*(i/4):Nat):Int):=by rw[am (by omega) (by omega)];omega
  have w0:(((4*(i/4):Nat):Int)<16)=True:=eq_true (by omega)
  have x0:(4*(i/4)<16)=True:=eq_true (by omega)
  have e0:(s.map V.u8).getD (4*(i/4)) .junk= .u8 (s.getD (4*(i/4)) 0):=fd (by omega)
  have p0:gu (m.getD ((4-i%4)%4) 0) (s.getD (4*(i/4)) 0)=mp m s i 0:=rfl
  have a1:aj ((1:Int)-((i%4:Nat):Int))=(1:Int)-((i%4:Nat):Int):=am (by omega) (by omega)
  have b1:aj ((1:Int)-((i%4:Nat):Int)+4)=((5-i%4:Nat):Int):=by rw[am (by omega) (by omega)];omega
  have c1:aj (((4*(i/4):Nat):Int)+1)=((4*(i/4)+1:Nat):Int):=by rw[am (by omega) (by omega)];omega
  have w1:(((4*(i/4)+1:Nat):Int)<16)=True:=eq_true (by omega)
  have x1:(4*(i/4)+1<16)=True:=eq_true (by omega)
  have e1:(s.map V.u8).getD (4*(i/4)+1) .junk= .u8 (s.getD (4*(i/4)+1) 0):=fd (by omega)
  have p1:gu (m.getD ((5-i%4)%4) 0) (s.getD (4*(i/4)+1) 0)=mp m s i 1:=rfl
  have a2:aj ((2:Int)-((i%4:Nat):Int))=(2:Int)-((i%4:Nat):Int):=am (by omega) (by omega)
  have b2:aj ((2:Int)-((i%4:Nat):Int)+4)=((6-i%4:Nat):Int):=by rw[am (by omega) (by omega)];omega
  have c2:aj (((4*(i/4):Nat):Int)+2)=((4*(i/4)+2:Nat):Int):=by rw[am (by omega) (by omega)];omega
  have w2:(((4*(i/4)+2:Nat):Int)<16)=True:=eq_true (by omega)
  have x2:(4*(i/4)+2<16)=True:=eq_true (by omega)
  have e2:(s.map V.u8).getD (4*(i/4)+2) .junk= .u8 (s.getD (4*(i/4)+2) 0):=fd (by omega)
  have p2:gu (m.getD ((6-i%4)%4) 0) (s.getD (4*(i/4)+2) 0)=mp m s i 2:=rfl
  have a3:aj ((3:Int)-((i%4:Nat):Int))=(3:Int)-((i%4:Nat):Int):=am (by omega) (by omega)
  have b3:aj ((3:Int)-((i%4:Nat):Int)+4)=((7-i%4:Nat):Int):=by rw[am (by omega) (by omega)];omega
  have c3:aj (((4*(i/4):Nat):Int)+3)=((4*(i/4)+3:Nat):Int):=by rw[am (by omega) (by omega)];omega
  have w3:(((4*(i/4)+3:Nat):Int)<16)=True:=eq_true (by omega)
  have x3:(4*(i/4)+3<16)=True:=eq_true (by omega)
  have e3:(s.map V.u8).getD (4*(i/4)+3) .junk= .u8 (s.getD (4*(i/4)+3) 0):=fd (by omega)
  have p3:gu (m.getD ((7-i%4)%4) 0) (s.getD (4*(i/4)+3) 0)=mp m s i 3:=rfl
  have r3:∀ k:Nat,((k:Nat):Int).tmod 4=((k%4:Nat):Int):=fun k=>rfl
  have r4:aj (4*((i/4:Nat):Int))=((4*(i/4):Nat):Int):=by rw[am (by omega) (by omega)];omega
  have u1:∀ k:Nat,(((k%4:Nat):Int)<4)=True:=fun k=>eq_true (by omega)
  have u2:∀ k:Nat,((0:Int)≤(k:Int))=True:=fun k=>eq_true (by omega)
  have u3:∀ k:Nat,(k%4<4)=True:=fun k=>eq_true (by omega)
  have v1:∀ k:Nat,(m.map V.u8).getD (k%4) .junk= .u8 (m.getD (k%4) 0):=fun k=>fd (by omega)
  have y1:∀ x:BitVec 8,(((eJ (fq m s) s i).set i x).map V.u8).getD i .junk= .u8 x:=fun x=>by rw[fd (by rw[List.length_set];omega),Fd _ _ _ (by omega)]
  simp only[go_sem,↓reduceIte,Nat.reduceLeDiff,h0',zi,hl,t1,t2,t2']
  refine⟨by omega,aY 5 ?_⟩
  simp only[go_sem,↓reduceIte,Nat.reduceEqDiff,Nat.reduceLT,Nat.reduceAdd,Nat.reduceSub,Int.reduceLT,Int.reduceEq,reduceCtorEq,a0,b0,c0,w0,x0,e0,r3,r4,u1,u2,u3,v1,y1,hl,h0',h0,hs,hm]
  refine aH (mM _ _) ?_
  simp only[go_sem,↓reduceIte,Nat.reduceEqDiff,Nat.reduceLT,Nat.reduceLeDiff,Nat.reduceAdd,Nat.reduceSub,Int.reduceLE,Int.reduceLT,Int.reduceAdd,Int.reduceEq,Int.reduceNeg,reduceCtorEq,p0,a1,b1,c1,w1,x1,e1,r3,r4,u1,u2,u3,v1,y1,List.set_set,hl,h0',h0,hs,hm]
  refine⟨by omega,by kernel_rfl,?_⟩
  refine aH (mM _ _) ?_
  simp only[go_sem,↓reduceIte,Nat.reduceEqDiff,Nat.reduceLT,Nat.reduceLeDiff,Nat.reduceAdd,Nat.reduceSub,Int.reduceLE,Int.reduceLT,Int.reduceAdd,Int.reduceEq,Int.reduceNeg,reduceCtorEq,p1,a2,b2,c2,w2,x2,e2,r3,r4,u1,u2,u3,v1,y1,List.set_set,hl,h0',h0,hs,hm]
  refine⟨by omega,by kernel_rfl,?_⟩
  refine aH (mM _ _) ?_
  simp only[go_sem,↓reduceIte,Nat.reduceEqDiff,Nat.reduceLT,Nat.reduceLeDiff,Nat.reduceAdd,Nat.reduceSub,Int.reduceLE,Int.reduceLT,Int.reduceAdd,Int.reduceEq,Int.reduceNeg,reduceCtorEq,p2,a3,b3,c3,w3,x3,e3,r3,r4,u1,u2,u3,v1,y1,List.set_set,hl,h0',h0,hs,hm]
  refine⟨by omega,by kernel_rfl,?_⟩
  refine aH (mM _ _) ?_
  simp only[go_sem,↓reduceIte,Nat.reduceEqDiff,Nat.reduceLT,Nat.reduceLeDiff,Nat.reduceAdd,Nat.reduceSub,Int.reduceLE,Int.reduceLT,Int.reduceAdd,Int.reduceNeg,reduceCtorEq,p3,u2,hn,List.set_set,hl,h0']
  refine⟨by omega,by kernel_rfl,?_⟩
  refine bL (ji-1) ⟨[(0,.ptr 0 0),(3,.ptr 1 0),(4,.ptr 2 0),(12,.i64 (i+1:Nat))],[bK ((eJ (fq m s) s (i+1:Nat)).map .u8),bK (m.map .u8),bK (s.map .u8)]⟩ (by omega) ?_ rfl (fun _ _ h=>h) ⟨i+1,by omega,rfl⟩
  have hw1:aj ((i:Int)+1)=((i+1:Nat):Int):=by rw[am (by omega) (by omega)];omega
  simp[St.get,af,hw1,-List.map_set,-List.map_map]
 ·obtain rfl:i=16:=by omega
  have h0':¬ ((16:Nat):Int)<16:=by omega
  have he:=wc (fq m s) s hml
  rw[hs] at he
  simp only[go_sem,↓reduceIte,Int.reduceLT,he]
  exact Fin.ren [0] (by simp) (by simp) (by rfl) (by decide) (by simp) (by simp)
end
end Go.Vm
end
section
namespace Go.Vm
open Go.Proofs
def cC (t K:List (BitVec 8))(R:Nat):Nat→List (BitVec 8)
 |0=>aQ t K
 |i+1=>
  let s:=ez 1 ((cC t K R i).map cg)
  aQ (if i+2<R then fq [2#8,3#8,1#8,1#8] s else s) (K.drop (16*(i+1)))
theorem uq (k:Nat)(s:List (BitVec 8)):(ez k s).length=16:=rg _
theorem yU (m s:List (BitVec 8)):(fq m s).length=16:=rg _
theorem uM (t K:List (BitVec 8))(R:Nat)(ht:t.length=16)(hK:K.length=16*R)(i:Nat)(hi:i<R):(cC t K R i).length=16:=by
 cases i with
 |zero=>rw[cC,fV];omega
 |succ i=>
  rw[cC]
  have h1:(if i+2<R then fq [2#8,3#8,1#8,1#8] (ez 1 ((cC t K R i).map cg)) else ez 1 ((cC t K R i).map cg)).length=16:=by
   split
   ·exact yU _ _
   ·exact uq _ _
  rw[fV,h1,List.length_drop];omega
theorem ym (t K T:List (BitVec 8))(R:Nat)(ht:t.length=16)(hR:2≤R)(hR2:R≤20)(hK:K.length=16*R)(hT:T.length=512)(hf:∀ b:BitVec 8,T.getD (0+b.toNat) 0=cg b):ag Tryz.prog 251 [.ptr 0 0,.str t] [bK [.ptr 1 0,.str K],bK (T.map .u8)] (.str (cC t K R (R-1))) [bK [.ptr 1 0,.str K],bK (T.map .u8)]:=by
 have h0:=wb t K ht (by omega) (by omega)
 have hsp:splice [.u8 0#8,.u8 0#8,.u8 0#8,.u8 0#8,.u8 0#8,.u8 0#8,.u8 0#8,.u8 0#8,.u8 0#8,.u8 0#8,.u8 0#8,.u8 0#8,.u8 0#8,.u8 0#8,.u8 0#8,.u8 0#8] 0 (t.map V.u8)=t.map V.u8:=bi _ _ (by rw[List.length_map,ht];rfl)
 have htk:List.take 16 (t.map V.u8)=t.map V.u8:=List.take_of_length_le (by rw[List.length_map,ht];exact Nat.le_refl _)
 have h16:(16:Int)≤(K.length:Int):=by omega
 refine ap (by kernel_rfl) (fn:=Tryz.f251) Tryz.func251 rfl (by show 2≤40;decide) (ae ?_)
 simp only[go_sem,seval,Tryz.ntmps251,ht,hsp,htk]
 refine aq [3] (h0) (by kernel_rfl) (by simp) rfl (by simp) (by first|decide|simp) (by simp) (by simp) (by simp) (by simp) (by simp) ?_
 simp only[go_sem,seval]
 refine⟨h16,?_⟩
 refine bf (fun j st=>∃ i:Nat,i+j=R-1∧st=⟨[(0,.ptr 0 0),(5,.str (K.drop (16*(i+1)))),(6,.ptr 2 0)],[bK [.ptr 1 0,.str K],bK (T.map .u8),bK ((cC t K R i).map .u8)]⟩) ?_ ?_
 ·exact Aa (R-1) ⟨[(0,.ptr 0 0),(5,.str (K.drop (16*(0+1)))),(6,.ptr 2 0)],[bK [.ptr 1 0,.str K],bK (T.map .u8),bK ((cC t K R 0).map .u8)]⟩ [0,1,3] rfl (by simp) rfl (by decide) (by simp[cz,St.get,af,-List.map_map,-List.map_set]) (by simp[cC,-List.map_map,-List.map_set]) ⟨0,by omega,rfl⟩
 rintro j st ⟨i,hi,rfl⟩ _
 have hel:=uM t K R ht hK i (by omega)
 have hdl:(K.drop (16*(i+1))).length=16*(R-(i+1)):=by rw[List.length_drop];omega
 have hdd:(K.drop (16*(i+1))).drop 16=K.drop (16*(i+1+1)):=by rw[List.drop_drop];rfl
 by_cases hl:i<R-1
 ·obtain⟨D,hD⟩:∃ D,D=K.drop (16*(i+1)):=⟨_,rfl⟩
  have hes:cC t K R (i+1)=aQ (if i+2<R then fq [2#8,3#8,1#8,1#8] (ez 1 ((cC t K R i).map cg)) else ez 1 ((cC t K R i).map cg)) D:=by rw[hD];rfl
  rw[←hD] at hdl hdd
  have hne:(D=[])=False:=eq_false (fun h=>by rw[h] at hdl;simp at hdl;omega)
  have hth:=FU (cC t K R i) T 0 cg hel hT (by omega) hf
  have hro:=Ka ((cC t K R i).map cg) 1 (by rw[List.length_map,hel]) (by decide)
  generalize hs1:(cC t K R i).map cg=s1 at*
  have hco:=FV (ez 1 s1) [2#8,3#8,1#8,1#8] (uq _ _) rfl
  have g1:16*(R-(i+1))≤1000:=by omega
  have g2:(16:Int)≤(D.length:Int):=by omega
  by_cases hlast:i+2<R
  ·have hl':(16:Int)<(D.length:Int):=by omega
   have had:=wb (fq [2#8,3#8,1#8,1#8] (ez 1 s1)) D (yU _ _) (by omega) (by omega)
   have hn:cC t K R (i+1)=aQ (fq [2#8,3#8,1#8,1#8] (ez 1 s1)) D:=by rw[hes,if_pos hlast]
   rw[←hn] at had
   simp only[go_sem,seval,←hD,hne]
   refine aq [2,1] (hth) (by kernel_rfl) (by simp) rfl (by simp) (by first|decide|simp) (by simp) (by simp) (by simp) (by simp) (by simp) ?_
   simp only[go_sem,seval]
   refine aq [2] (hro) (by kernel_rfl) (by simp) rfl (by simp) (by first|decide|simp) (by simp) (by simp) (by simp) (by simp) (by simp) ?_
   simp only[go_sem,seval,hl']
   refine aq [2] (hco) (by kernel_rfl) (by simp) rfl (by simp) (by first|decide|simp) (by simp) (by simp) (by simp) (by simp) (by simp) ?_
   simp only[go_sem,seval]
   refine aq [2] (had) (by kernel_rfl) (by simp) rfl (by simp) (by first|decide|simp) (by simp) (by simp) (by simp) (by simp) (by simp) ?_
   simp only[go_sem,seval,g2,List.take_length,hdd]
   exact dP (j-1) ⟨[(0,.ptr 0 0),(5,.str (K.drop (16*(i+1+1)))),(6,.ptr 2 0)],[bK [.ptr 1 0,.str K],bK (T.map .u8),bK ((cC t K R (i+1)).map .u8)]⟩ [0,1,2] (by omega) rfl (by simp) rfl (by decide) (by simp[cz,St.get,af,-List.map_map,-List.map_set]) (by simp) ⟨i+1,by omega,rfl⟩
  ·have hl':¬ (16:Int)<(D.length:Int):=by omega
   have had:=wb (ez 1 s1) D (uq _ _) (by omega) (by omega)
   have hn:cC t K R (i+1)=aQ (ez 1 s1) D:=by rw[hes,if_neg hlast]
   rw[←hn] at had
   simp only[go_sem,seval,←hD,hne]
   refine aq [2,1] (hth) (by kernel_rfl) (by simp) rfl (by simp) (by first|decide|simp) (by simp) (by simp) (by simp) (by simp) (by simp) ?_
   simp only[go_sem,seval]
   refine aq [2] (hro) (by kernel_rfl) (by simp) rfl (by simp) (by first|decide|simp) (by simp) (by simp) (by simp) (by simp) (by simp) ?_
   simp only[go_sem,seval,hl']
   refine aq [2] (had) (by kernel_rfl) (by simp) rfl (by simp) (by first|decide|simp) (by simp) (by simp) (by simp) (by simp) (by simp) ?_
   simp only[go_sem,seval,g2,List.take_length,hdd]
   exact dP (j-1) ⟨[(0,.ptr 0 0),(5,.str (K.drop (16*(i+1+1)))),(6,.ptr 2 0)],[bK [.ptr 1 0,.str K],bK (T.map .u8),bK ((cC t K R (i+1)).map .u8)]⟩ [0,1,2] (by omega) rfl (by simp) rfl (by decide) (by simp[cz,St.get,af,-List.map_map,-List.map_set]) (by simp) ⟨i+1,by omega,rfl⟩
 ·obtain rfl:i=R-1:=by omega
  have hD:K.drop (16*(R-1+1))=[]:=List.drop_of_length_le (by omega)
  simp only[go_sem,seval,hD,hel,List.take_of_length_le]
  exact Fin.ren [0,1] (by simp) (by simp) (by rfl) (by decide) (by simp) (by simp)
theorem BA (key:List (BitVec 8))(n:Nat)(hn:n=4∨n=8)(hl:key.length=4*n):ag Tryz.prog 244 [.str key] [] (.ptr 0 0) [bK [.ptr 1 0,.str (wl key n (4*(n+7))).flatten],bK ((du 256).map .u8)]:=by
 have hk:=Io key
 rw[decide_eq_true (by omega)] at hk
 have he:=GX key n hn hl
 have hm:=J6
 generalize du 256=T at*
 refine ap (by kernel_rfl) (fn:=Tryz.f244) Tryz.func244 rfl (by show 1≤14;decide) (ae ?_)
 simp only[go_sem,seval,Tryz.ntmps244]
 refine ak (hk) ?_
 simp only[go_sem,seval]
 refine aq [] (hm) (by kernel_rfl) (by simp) rfl (by simp) (by first|decide|simp) (by simp) (by simp) (by simp) (by simp) (by simp) ?_
 simp only[go_sem,seval]
 refine aq [0] (he) (by kernel_rfl) (by simp) rfl (by simp) (by first|decide|simp) (by simp) (by simp) (by simp) (by simp) (by simp) ?_
 simp only[go_sem,seval]
 exact Fin.ren [1,0] (by simp) (by simp) (by rfl) (by decide) (by simp) (by simp)
def cb (k n l t:List (BitVec 8))(m:Int):Int:=if k.length≠32∨n.length≠12 then 1 else if 2000<l.length∨m<t.length then 2 else 0
theorem pj (k n l t:List (BitVec 8))(m:Int):ao Tryz.prog 243 [.str k,.str n,.str l,.str t,.i64 m] (.i64 (cb k n l t m)):=by
 by_cases h1:k.length=32
 ·have h1':(k.length:Int)=32:=by omega
  by_cases h2:n.length=12
  ·have h2':(n.length:Int)=12:=by omega
   by_cases h3:2000<l.length
   ·have h3':(2000:Int)<(l.length:Int):=by omega
    have e:cb k n l t m=2:=by simp[cb,h1,h2,h3]
    rw[e]
    refine aB (by kernel_rfl) (fn:=Tryz.f243) (by kernel_rfl) Tryz.func243 rfl (by show 5≤30;decide) (by simp[aa,V.low]) (by simp[V.low]) (ae ?_)
    simp only[go_sem,seval,Tryz.ntmps243,Tryz.results243,h1',h2',h3']
   ·have h3':¬ (2000:Int)<(l.length:Int):=by omega
    by_cases h4:m<(t.length:Int)
    ·have e:cb k n l t m=2:=by simp[cb,h1,h2,h3,h4]
     rw[e]
     refine aB (by kernel_rfl) (fn:=Tryz.f243) (by kernel_rfl) Tryz.func243 rfl (by show 5≤30;decide) (by simp[aa,V.low]) (by simp[V.low]) (ae ?_)
     simp only[go_sem,seval,Tryz.ntmps243,Tryz.results243,h1',h2',h3',h4]
    ·have e:cb k n l t m=0:=by simp[cb,h1,h2,h3,h4]
     rw[e]
     refine aB (by kernel_rfl) (fn:=Tryz.f243) (by kernel_rfl) Tryz.func243 rfl (by show 5≤30;decide) (by simp[aa,V.low]) (by simp[V.low]) (ae ?_)
     simp only[go_sem,seval,Tryz.ntmps243,Tryz.results243,h1',h2',h3',h4]
  ·have h2':¬ (n.length:Int)=12:=by omega
   have e:cb k n l t m=1:=by simp[cb,h1,h2]
   rw[e]
   refine aB (by kernel_rfl) (fn:=Tryz.f243) (by kernel_rfl) Tryz.func243 rfl (by show 5≤30;decide) (by simp[aa,V.low]) (by simp[V.low]) (ae ?_)
   simp only[go_sem,seval,Tryz.ntmps243,Tryz.results243,h1',h2']
 ·have h1':¬ (k.length:Int)=32:=by omega
  have e:cb k n l t m=1:=by simp[cb,h1]
  rw[e]
  refine aB (by kernel_rfl) (fn:=Tryz.f243) (by kernel_rfl) Tryz.func243 rfl (by show 5≤30;decide) (by simp[aa,V.low]) (by simp[V.low]) (ae ?_)
  simp only[go_sem,seval,Tryz.ntmps243,Tryz.results243,h1']
theorem yV (n K T:List (BitVec 8))(R:Nat)(c:Nat)(hn:n.length=12)(hc:c≤100000)(hR:2≤R)(hR2:R≤20)(hK:K.length=16*R)(hT:T.length=512)(hf:∀ b:BitVec 8,T.getD (0+b.toNat) 0=cg b):ag Tryz.prog 252 [.agg [.ptr 0 0,.str n],.i64 c] [bK [.ptr 1 0,.str K],bK (T.map .u8)] (.str (cC (n++ar c 4) K R (R-1))) [bK [.ptr 1 0,.str K],bK (T.map .u8)]:=by
 have ha:=qP n (BitVec.ofNat 64 c) (by omega)
 have hto:(BitVec.ofNat 64 c).toNat=c:=by rw[BitVec.toNat_ofNat];omega
 have hb:(ar c 4).length=4:=by rw[←hto,xx];rfl
 rw[hto] at ha
 have he:=ym (n++ar c 4) K T R (by rw[List.length_append];omega) hR hR2 hK hT hf
 refine ap (by kernel_rfl) (fn:=Tryz.f252) Tryz.func252 rfl (by show 2≤15;decide) (ae ?_)
 simp only[go_sem,seval,Tryz.ntmps252]
 refine⟨by omega,?_⟩
 have htk:(n++ar c 4).take (n.length+4)=n++ar c 4:=List.take_of_length_le (by rw[List.length_append];omega)
 refine bh [3] (ha) (by kernel_rfl) (by simp) rfl (by simp) (by first|decide|simp) (by simp) (by simp) (by simp) (by simp) (by simp) ?_
 simp only[go_sem,seval,hb,htk]
 refine qM [0,1] he (by kernel_rfl) (by simp) rfl (by simp) (by decide) (by simp) (by simp) (by simp) (by simp) (by simp) (by simp[dR,cZ,az,db,Blk.ren,List.map_append,-List.map_map,-List.map_set]) ?_
 simp only[go_sem,seval]
 refine⟨by kernel_rfl,?_⟩
 exact Fin.ren [0,1] (by simp) (by simp) (by rfl) (by decide) (by simp) (by simp)
end Go.Vm
end
