/- A part of the proof: laws of a small machine of values, or what one function answers, proved against the model; no conditions beyond those in each theorem. -/
import Derived.Shelf.Bits.Mul64
import Derived.Test.YtgffdnniifmglaaGreatDoorHeadToShA
import Derived.Test.YtgffdnniifmglaaGreatDoorPoNToPoP
import Derived.Test.YtgffdnniifmglaaGreatDoorShelfRepToPoY
import Derived.Test.YtgffdnniifmglaaGreatDoorVmZToVmS
import Derived.Test.YtgffdnniifmglaaGreatDoorTypesToVmH1
import Derived.Test.YtgffdnniifmglaaGreatDoorVmTToTot2
set_option linter.unusedVariables false
set_option linter.unusedSimpArgs false
set_option linter.unusedSectionVars false
set_option maxRecDepth 20000
set_option maxHeartbeats 8000000
section
namespace Go.Vm
section
open Go.Proofs Go.Shelf
def Ag:Go.Shelf.Ren:=⟨fun |264=>77|n=>n,fun |53=>78|46=>67|n=>n,fun |n=>n⟩
theorem Bh:Go.Proofs.Lays.n264 Tryz.prog Ag:={
 mixed:=by kernel_rfl
 f264:=Tryz.func77.trans (congrArg some (by kernel_rfl))
 t46:=Tryz.underlying67
 a46:=Tryz.isAgg67
 z46:=Tryz.sizeOf67
 v46:=Tryz.zeroValue67
 t53:=Tryz.underlying78
 a53:=Tryz.isAgg78
 z53:=Tryz.sizeOf78
 v53:=Tryz.zeroValue78}
open Go.RowKit Go.Lib in
theorem Am (x y:Nat)(hx:x<18446744073709551616)(hy:y<18446744073709551616)(w:World):
  Calls Tryz.prog 77 #[.int .u64 x,.int .u64 y] w fun e w'=>e= .returned (.tuple #[.int .u64 ((x*y/18446744073709551616:Nat):Int),.int .u64 ((x*y%18446744073709551616:Nat):Int)])∧w'=w:=Any.bits_Mul64 Bh x y hx hy w
end
end Go.Vm
end
section
namespace Go.Vm
open Go.Proofs
def bV (x y:BitVec 64):BitVec 64:=BitVec.ofNat 64 (x.toNat*y.toNat/18446744073709551616)
theorem vS (x y:BitVec 64):am Tryz.prog 77 [.u64 x,.u64 y] (.tup [.u64 (bV x y),.u64 (x*y)]):=by
 refine uA (by kernel_rfl) (by simp[ac,V.low]) (by simp[ac,V.low]) fun w rargs hr=>?_
 unfold VRs at hr
 obtain⟨r1,rs,e1,h1,hr⟩:=hr
 unfold VRs at hr
 obtain⟨r2,rs2,e2,h2,hr⟩:=hr
 unfold VRs at hr
 unfold VR at h1 h2
 subst h1 h2 hr e2
 have ha:rargs=#[.int .u64 x.toNat,.int .u64 y.toNat]:=by cases rargs;simp_all
 subst ha
 have hx:=x.isLt
 have hy:=y.isLt
 refine(Am x.toNat y.toNat (by omega) (by omega) w).mono ?_
 rintro e w' ⟨rfl,rfl⟩
 refine⟨_,rfl,?_,⟨rfl,rfl,rfl,Nat.le_refl _,fun _ _=>rfl⟩⟩
 have hlt:x.toNat*y.toNat<18446744073709551616*18446744073709551616:=Nat.mul_lt_mul'' (by omega) (by omega)
 have k1:(bV x y).toNat=x.toNat*y.toNat/18446744073709551616:=by
  unfold bV
  rw[BitVec.toNat_ofNat]
  exact Nat.mod_eq_of_lt (Nat.div_lt_of_lt_mul (by omega))
 have k2:(x*y).toNat=x.toNat*y.toNat%18446744073709551616:=by rw[BitVec.toNat_mul]
 unfold VR
 refine⟨_,rfl,?_⟩
 unfold VRs
 refine⟨_,_,rfl,by unfold VR;rw[k1],?_⟩
 unfold VRs
 refine⟨_,_,rfl,by unfold VR;rw[k2],?_⟩
 unfold VRs;rfl
abbrev N3:=BitVec 64×BitVec 64×BitVec 64
def aG (a b:N3):N3:=(a.1+b.1+0#64,a.2.1+b.2.1+bj a.1 b.1 0#64,a.2.2+b.2.2+bj a.2.1 b.2.1 (bj a.1 b.1 0#64))
def dq (a:N3):N3:=aG (a.1,a.2.1,a.2.2&&&3#64) (5#64*(a.2.2>>>2),0#64,0#64)
def fQ (a:N3):N3:=if 0#64<(aG (dq a) (5#64,0#64,0#64)).2.2>>>2 then((aG (dq a) (5#64,0#64,0#64)).1,(aG (dq a) (5#64,0#64,0#64)).2.1,(aG (dq a) (5#64,0#64,0#64)).2.2&&&3#64) else dq a
theorem iG (a b:N3):am Tryz.prog 193 [.agg [.u64 a.1,.u64 a.2.1,.u64 a.2.2],.agg [.u64 b.1,.u64 b.2.1,.u64 b.2.2]] (.agg [.u64 (aG a b).1,.u64 (aG a b).2.1,.u64 (aG a b).2.2]):=uO _ _ _ _ _ _
theorem vU (a:N3):am Tryz.prog 199 [.agg [.u64 a.1,.u64 a.2.1,.u64 a.2.2]] (.agg [.u64 (dq a).1,.u64 (dq a).2.1,.u64 (dq a).2.2]):=CP _ _ _
theorem CQ (a:N3):am Tryz.prog 195 [.agg [.u64 a.1,.u64 a.2.1,.u64 a.2.2]] (.agg [.u64 (fQ a).1,.u64 (fQ a).2.1,.u64 (fQ a).2.2]):=by
 have hf:=vU a
 have hp:=iG (dq a) (5#64,0#64,0#64)
 unfold fQ
 generalize dq a=f at hf hp ⊢
 generalize aG f (5#64,0#64,0#64)=g at hp ⊢
 by_cases h:0#64<g.2.2>>>2
 ·rw[if_pos h]
  refine aw (by kernel_rfl) (fn:=Tryz.f195) (by kernel_rfl) Tryz.func195 rfl (by show 1≤19;decide) (by simp[ac,V.low]) (by simp[ac,V.low]) (ag ?_)
  simp only[go_sem,seval,Tryz.ntmps195]
  refine ak (hf) ?_
  simp only[go_sem,seval]
  refine ak (hp) ?_
  simp only[go_sem,seval,h]
 ·rw[if_neg h]
  refine aw (by kernel_rfl) (fn:=Tryz.f195) (by kernel_rfl) Tryz.func195 rfl (by show 1≤19;decide) (by simp[ac,V.low]) (by simp[ac,V.low]) (ag ?_)
  simp only[go_sem,seval,Tryz.ntmps195]
  refine ak (hf) ?_
  simp only[go_sem,seval]
  refine ak (hp) ?_
  simp only[go_sem,seval,h]
-- the value
def bw (a:N3):Nat:=a.1.toNat+18446744073709551616*a.2.1.toNat+340282366920938463463374607431768211456*a.2.2.toNat
theorem jU (x y c:BitVec 64)(h:c.toNat≤1):(x+y+c).toNat+18446744073709551616*(bj x y c).toNat=x.toNat+y.toNat+c.toNat:=by
 have :=x.isLt
 have :=y.isLt
 unfold bj
 rw[BitVec.toNat_add,BitVec.toNat_add,BitVec.toNat_ofNat];omega
theorem hM (a b:N3)(h:a.2.2.toNat+b.2.2.toNat<18446744073709551615):bw (aG a b)=bw a+bw b:=by
 have c0:=jU a.1 b.1 0#64 (by decide)
 have l0:=eV a.1 b.1 0#64 (by decide)
 have c1:=jU a.2.1 b.2.1 (bj a.1 b.1 0#64) l0
 have l1:=eV a.2.1 b.2.1 (bj a.1 b.1 0#64) l0
 have z:(0#64).toNat=0:=rfl
 unfold bw aG
 simp only
 generalize bj a.1 b.1 0#64=k0 at*
 generalize bj a.2.1 b.2.1 k0=k1 at*
 have e2:(a.2.2+b.2.2+k1).toNat=a.2.2.toNat+b.2.2.toNat+k1.toNat:=by
  rw[BitVec.toNat_add,BitVec.toNat_add];omega
 omega
theorem tY (w:BitVec 64):(w&&&3#64).toNat=w.toNat%4:=by
 rw[BitVec.toNat_and,show(3#64).toNat=2^2-1 from rfl,Nat.and_two_pow_sub_one_eq_mod]
theorem w8 (a:N3)(h:a.2.2.toNat<1152921504606846976):bw (dq a)=bw a%1361129467683753853853498429727072845824+5*(bw a/1361129467683753853853498429727072845824):=by
 have h1:=a.1.isLt
 have h2:=a.2.1.isLt
 have e3:=tY a.2.2
 have e5:(5#64*(a.2.2>>>2)).toNat=5*(a.2.2.toNat/4):=by
  rw[BitVec.toNat_mul,BitVec.toNat_ushiftRight,Nat.shiftRight_eq_div_pow,show(5#64).toNat=5 from rfl]
  omega
 have z:(0#64).toNat=0:=rfl
 unfold dq
 rw[hM _ _ (by show(a.2.2&&&3#64).toNat+(0#64).toNat<_;omega)]
 unfold bw
 simp only
 rw[e3,e5,z]
 omega
theorem fm (a:N3):a.2.2.toNat=bw a/340282366920938463463374607431768211456:=by
 have h1:=a.1.isLt
 have h2:=a.2.1.isLt
 unfold bw;omega
theorem DW (a:N3)(h:a.2.2.toNat<1152921504606846976):bw (fQ a)=bw a%1361129467683753853853498429727072845819:=by
 have hf:=w8 a h
 have ha:=fm a
 have hfh:=fm (dq a)
 have h1:=a.1.isLt
 have h2:=a.2.1.isLt
 have hva:bw a<340282366920938463463374607431768211456*1152921504606846976:=by unfold bw;omega
 have hA:bw a%1361129467683753853853498429727072845819=bw (dq a)%1361129467683753853853498429727072845819:=by
  have e:bw a=1361129467683753853853498429727072845819*(bw a/1361129467683753853853498429727072845824)+bw (dq a):=by rw[hf];omega
  rw[e,Nat.mul_add_mod]
 have hF:bw (dq a)<1361129467683753853853498429727072845824+5*1152921504606846976:=by rw[hf];omega
 rw[hA]
 clear hA hf ha hva
 have v5:bw (5#64,0#64,0#64)=5:=by decide
 have hp:=hM (dq a) (5#64,0#64,0#64) (by show(dq a).2.2.toNat+(0#64).toNat<_;have z:(0#64).toNat=0:=rfl;omega)
 rw[v5] at hp
 have hph:=fm (aG (dq a) (5#64,0#64,0#64))
 unfold fQ
 generalize aG (dq a) (5#64,0#64,0#64)=g at hp hph ⊢
 have hs:(g.2.2>>>2).toNat=g.2.2.toNat/4:=by rw[BitVec.toNat_ushiftRight,Nat.shiftRight_eq_div_pow]
 have h3:=tY g.2.2
 by_cases hg:0#64<g.2.2>>>2
 ·have hg':0<g.2.2.toNat/4:=by rw[←hs];exact hg
  rw[if_pos hg]
  have e:bw (g.1,g.2.1,g.2.2&&&3#64)=bw g-340282366920938463463374607431768211456*(g.2.2.toNat-g.2.2.toNat%4):=by
   unfold bw;simp only;rw[h3];omega
  rw[e];omega
 ·have hg':¬ 0<g.2.2.toNat/4:=by rw[←hs];exact hg
  rw[if_neg hg];omega
def iu (w:List (BitVec 64))(j:Nat)(x y:BitVec 64):List (BitVec 64):=
 let c1:=bj (w.getD j 0) (x*y) 0#64
 let w1:=w.set j (w.getD j 0+x*y+0#64)
 let c2:=bj (w1.getD (j+1) 0) (bV x y) c1
 let w2:=w1.set (j+1) (w1.getD (j+1) 0+bV x y+c1)
 if j+2<5 then w2.set (j+2) (w2.getD (j+2) 0+c2) else w2
theorem CR (w:List (BitVec 64))(j:Nat)(x y:BitVec 64):(iu w j x y).length=w.length:=by
 unfold iu
 simp only
 split <;>simp
def W5 (a b c d e:BitVec 64):Nat:=a.toNat+18446744073709551616*b.toNat+340282366920938463463374607431768211456*c.toNat+6277101735386680763835789423207666416102355444464034512896*d.toNat+115792089237316195423570985008687907853269984665640564039457584007913129639936*e.toNat
theorem o9 (x y:BitVec 64):(x*y).toNat+18446744073709551616*(bV x y).toNat=x.toNat*y.toNat:=by
 have hx:=x.isLt
 have hy:=y.isLt
 have hlt:x.toNat*y.toNat<18446744073709551616*18446744073709551616:=Nat.mul_lt_mul'' (by omega) (by omega)
 have k1:(bV x y).toNat=x.toNat*y.toNat/18446744073709551616:=by
  unfold bV
  rw[BitVec.toNat_ofNat]
  exact Nat.mod_eq_of_lt (Nat.div_lt_of_lt_mul (by omega))
 rw[BitVec.toNat_mul,k1]
 generalize x.toNat*y.toNat=p
 omega
theorem pd (x y:BitVec 64):(x+y+0#64).toNat+18446744073709551616*(bj x y 0#64).toNat=x.toNat+y.toNat:=jU x y 0#64 (by decide)
theorem rE (x c:BitVec 64)(h:x.toNat+c.toNat<18446744073709551616):(x+c).toNat=x.toNat+c.toNat:=by rw[BitVec.toNat_add];omega
theorem Rb (a b c d e x y:BitVec 64)(h:c.toNat<100):∃ a' b' c':BitVec 64,iu [a,b,c,d,e] 0 x y=[a',b',c',d,e]∧c'.toNat≤c.toNat+1∧W5 a' b' c' d e=W5 a b c d e+x.toNat*y.toNat:=by
 have p:=o9 x y
 have q1:=pd a (x*y)
 have l1:=eV a (x*y) 0#64 (by decide)
 have q2:=jU b (bV x y) _ l1
 have l2:=eV b (bV x y) _ l1
 have q3:=rE c (bj b (bV x y) (bj a (x*y) 0#64)) (by omega)
 refine⟨a+x*y+0#64,b+bV x y+bj a (x*y) 0#64,c+bj b (bV x y) (bj a (x*y) 0#64),rfl,by omega,?_⟩
 unfold W5;omega
theorem zA (a b c d e x y:BitVec 64)(h:d.toNat<100):∃ a' b' c':BitVec 64,iu [e,a,b,d,c] 1 x y=[e,a',b',c',c]∧c'.toNat≤d.toNat+1∧W5 e a' b' c' c=W5 e a b d c+18446744073709551616*(x.toNat*y.toNat):=by
 have p:=o9 x y
 have q1:=pd a (x*y)
 have l1:=eV a (x*y) 0#64 (by decide)
 have q2:=jU b (bV x y) _ l1
 have l2:=eV b (bV x y) _ l1
 have q3:=rE d (bj b (bV x y) (bj a (x*y) 0#64)) (by omega)
 refine⟨a+x*y+0#64,b+bV x y+bj a (x*y) 0#64,d+bj b (bV x y) (bj a (x*y) 0#64),rfl,by omega,?_⟩
 unfold W5;omega
theorem zB (a b c d e x y:BitVec 64)(h:e.toNat<100):∃ a' b' c':BitVec 64,iu [a,b,c,d,e] 2 x y=[a,b,a',b',c']∧c'.toNat≤e.toNat+1∧W5 a b a' b' c'=W5 a b c d e+340282366920938463463374607431768211456*(x.toNat*y.toNat):=by
 have p:=o9 x y
 have q1:=pd c (x*y)
 have l1:=eV c (x*y) 0#64 (by decide)
 have q2:=jU d (bV x y) _ l1
 have l2:=eV d (bV x y) _ l1
 have q3:=rE e (bj d (bV x y) (bj c (x*y) 0#64)) (by omega)
 refine⟨c+x*y+0#64,d+bV x y+bj c (x*y) 0#64,e+bj d (bV x y) (bj c (x*y) 0#64),rfl,by omega,?_⟩
 unfold W5;omega
theorem Rc (a b c d e x y:BitVec 64)(h:W5 a b c d e+6277101735386680763835789423207666416102355444464034512896*(x.toNat*y.toNat)<2135987035920910082395021706169552114602704522356652769947041607822219725780640550022962086936576):∃ a' b':BitVec 64,iu [a,b,c,d,e] 3 x y=[a,b,c,a',b']∧W5 a b c a' b'=W5 a b c d e+6277101735386680763835789423207666416102355444464034512896*(x.toNat*y.toNat):=by
 have p:=o9 x y
 have q1:=pd d (x*y)
 have l1:=eV d (x*y) 0#64 (by decide)
 have q2:=jU e (bV x y) _ l1
 refine⟨d+x*y+0#64,e+bV x y+bj d (x*y) 0#64,rfl,?_⟩
 unfold W5 at*;omega
def fd (n:N3)(r:BitVec 64×BitVec 64)(w:List (BitVec 64))(i:Nat):Nat→List (BitVec 64)
 |0=>w
 |k+1=>iu (fd n r w i k) (i+k) ([n.1,n.2.1,n.2.2].getD i 0) ([r.1,r.2].getD k 0)
def eO (n:N3)(r:BitVec 64×BitVec 64):Nat→List (BitVec 64)
 |0=>[0#64,0#64,0#64,0#64,0#64]
 |i+1=>fd n r (eO n r i) i 2
theorem vv (n:N3)(r:BitVec 64×BitVec 64)(w:List (BitVec 64))(i k:Nat):(fd n r w i k).length=w.length:=by
 induction k with
 |zero=>rfl
 |succ k ih=>rw[fd,CR,ih]
theorem vw (n:N3)(r:BitVec 64×BitVec 64)(i:Nat):(eO n r i).length=5:=by
 induction i with
 |zero=>rfl
 |succ i ih=>rw[eO,vv,ih]
def lQ (r:BitVec 64×BitVec 64):Nat:=r.1.toNat+18446744073709551616*r.2.toNat
theorem Sr (n0 n1 n2 r0 r1:Nat):n0*r0+18446744073709551616*(n0*r1)+18446744073709551616*(n1*r0)+340282366920938463463374607431768211456*(n1*r1)+340282366920938463463374607431768211456*(n2*r0)+6277101735386680763835789423207666416102355444464034512896*(n2*r1)=(n0+18446744073709551616*n1+340282366920938463463374607431768211456*n2)*(r0+18446744073709551616*r1):=by
 grind
theorem I3 (n:N3)(r:BitVec 64×BitVec 64)(h0:r.1.toNat<1152921504606846976)(h1:r.2.toNat<1152921504606846976)(h2:n.2.2.toNat<1125899906842624):
  ∃ a b c d e:BitVec 64,eO n r 3=[a,b,c,d,e]∧W5 a b c d e=bw n*lQ r:=by
 obtain⟨n0,n1,n2⟩:=n
 obtain⟨r0,r1⟩:=r
 have hn0:=n0.isLt
 have hn1:=n1.isLt
 simp only at h0 h1 h2
 have p00:n0.toNat*r0.toNat≤18446744073709551616*1152921504606846976:=Nat.mul_le_mul (by omega) (by omega)
 have p01:n0.toNat*r1.toNat≤18446744073709551616*1152921504606846976:=Nat.mul_le_mul (by omega) (by omega)
 have p10:n1.toNat*r0.toNat≤18446744073709551616*1152921504606846976:=Nat.mul_le_mul (by omega) (by omega)
 have p11:n1.toNat*r1.toNat≤18446744073709551616*1152921504606846976:=Nat.mul_le_mul (by omega) (by omega)
 have p20:n2.toNat*r0.toNat≤1125899906842624*1152921504606846976:=Nat.mul_le_mul (by omega) (by omega)
 have p21:n2.toNat*r1.toNat≤1125899906842624*1152921504606846976:=Nat.mul_le_mul (by omega) (by omega)
 have z:(0#64).toNat=0:=rfl
 obtain⟨a1,b1,c1,e1,l1,v1⟩:=Rb 0#64 0#64 0#64 0#64 0#64 n0 r0 (by decide)
 obtain⟨a2,b2,c2,e2,l2,v2⟩:=zA b1 c1 0#64 0#64 a1 n0 r1 (by decide)
 obtain⟨a3,b3,c3,e3,l3,v3⟩:=zA a2 b2 0#64 c2 a1 n1 r0 (by omega)
 obtain⟨a4,b4,c4,e4,l4,v4⟩:=zB a1 a3 b3 c3 0#64 n1 r1 (by decide)
 obtain⟨a5,b5,c5,e5,l5,v5⟩:=zB a1 a3 a4 b4 c4 n2 r0 (by omega)
 have vz:W5 0#64 0#64 0#64 0#64 0#64=0:=by decide
 have hs:=Sr n0.toNat n1.toNat n2.toNat r0.toNat r1.toNat
 obtain⟨a6,b6,e6,v6⟩:=Rc a1 a3 a5 b5 c5 n2 r1 (by omega)
 refine⟨a1,a3,a5,a6,b6,?_,?_⟩
 ·simp only[eO,fd,seval,List.getD_cons_zero,List.getD_cons_succ,e1,e2,e3,e4,e5,e6]
 ·show _=(n0.toNat+18446744073709551616*n1.toNat+340282366920938463463374607431768211456*n2.toNat)*(r0.toNat+18446744073709551616*r1.toNat)
  omega
def gP (a b:BitVec 64):BitVec 64:=a>>>2|||b<<<62
theorem xX (a b:BitVec 64):(gP a b).toNat=a.toNat/4+4611686018427387904*(b.toNat%4):=by
 have ha:=a.isLt
 have hb:=b.isLt
 unfold gP
 rw[BitVec.toNat_or,BitVec.toNat_ushiftRight,BitVec.toNat_shiftLeft,Nat.shiftRight_eq_div_pow,Nat.shiftLeft_eq,Nat.or_comm,
  show b.toNat*2^62%2^64=2^62*(b.toNat%4) by omega,←Nat.two_pow_add_eq_or_of_lt (by omega)]
 omega
def iv (w:List (BitVec 64)):N3:=(w.getD 0 0,w.getD 1 0,w.getD 2 0&&&3#64)
def cG (w:List (BitVec 64)):N3:=(gP (w.getD 2 0) (w.getD 3 0),gP (w.getD 3 0) (w.getD 4 0),w.getD 4 0>>>2)
def nr (h:N3):N3:=aG (aG (aG (aG h h) h) h) h
def ig (n:N3)(r:BitVec 64×BitVec 64):N3:=dq (aG (iv (eO n r 3)) (nr (cG (eO n r 3))))
theorem DX (n:N3)(r:BitVec 64×BitVec 64)(h0:r.1.toNat<1152921504606846976)(h1:r.2.toNat<1152921504606846976)(h2:n.2.2.toNat<1125899906842624):
  (∃ q,bw n*lQ r=bw (ig n r)+1361129467683753853853498429727072845819*q)∧(ig n r).2.2.toNat<8:=by
 obtain⟨a,b,c,d,e,hw,hv⟩:=I3 n r h0 h1 h2
 have hN:bw n≤340282366920938463463374607431768211456*1125899906842624:=by
  have :=n.1.isLt
  have :=n.2.1.isLt
  unfold bw;omega
 have hR:lQ r≤18446744073709551616*1152921504606846976:=by unfold lQ;omega
 have hNR:=Nat.mul_le_mul hN hR
 rw[←hv] at hNR ⊢
 unfold ig
 rw[hw]
 have la:iv [a,b,c,d,e]=(a,b,c&&&3#64):=rfl
 have lb:cG [a,b,c,d,e]=(gP c d,gP d e,e>>>2):=rfl
 rw[la,lb]
 have ea:=a.isLt
 have eb:=b.isLt
 have ec:=c.isLt
 have ed:=d.isLt
 have ee:=e.isLt
 have vl:bw (a,b,c&&&3#64)=W5 a b c d e%1361129467683753853853498429727072845824:=by
  have :=tY c
  unfold bw W5;simp only;omega
 have vh:bw (gP c d,gP d e,e>>>2)=W5 a b c d e/1361129467683753853853498429727072845824:=by
  have t1:=xX c d
  have t2:=xX d e
  have t3:(e>>>2).toNat=e.toNat/4:=by rw[BitVec.toNat_ushiftRight,Nat.shiftRight_eq_div_pow]
  unfold bw W5;simp only;omega
 generalize W5 a b c d e=X at*
 generalize (a,b,c&&&3#64)=L at*
 generalize (gP c d,gP d e,e>>>2)=H at*
 have tH:=fm H
 have tL:=fm L
 unfold nr
 have s1:=hM H H (by omega)
 have t1:=fm (aG H H)
 have s2:=hM (aG H H) H (by omega)
 have t2:=fm (aG (aG H H) H)
 have s3:=hM (aG (aG H H) H) H (by omega)
 have t3:=fm (aG (aG (aG H H) H) H)
 have s4:=hM (aG (aG (aG H H) H) H) H (by omega)
 have t4:=fm (aG (aG (aG (aG H H) H) H) H)
 have s5:=hM L (aG (aG (aG (aG H H) H) H) H) (by omega)
 have t5:=fm (aG L (aG (aG (aG (aG H H) H) H) H))
 have s6:=w8 (aG L (aG (aG (aG (aG H H) H) H) H)) (by omega)
 have t6:=fm (dq (aG L (aG (aG (aG (aG H H) H) H) H)))
 refine⟨⟨X/1361129467683753853853498429727072845824+bw (aG L (aG (aG (aG (aG H H) H) H) H))/1361129467683753853853498429727072845824,?_⟩,?_⟩
 ·rw[s6];omega
 ·rw[t6,s6];omega
def small (l:List (BitVec 64)):Prop:=l.length=10∧∀ x∈l,x.toNat<8192
theorem tc:∀ s t:List (BitVec 8),s.length=t.length→le (List.zipWith (· &&&·) s t)=le s&&&le t
 |[],[],_=>by simp[le]
 |[],y::t,h=>by simp at h
 |x::s,[],h=>by simp at h
 |x::s,y::t,h=>by
  have ih:=tc s t (by simpa using h)
  have hx:=x.isLt
  have hy:=y.isLt
  have e1:((x.toNat+256*le s)&&&(y.toNat+256*le t))%2^8=x.toNat&&&y.toNat:=by
   rw[Nat.and_mod_two_pow,show(x.toNat+256*le s)%2^8=x.toNat by omega,show(y.toNat+256*le t)%2^8=y.toNat by omega]
  have e2:((x.toNat+256*le s)&&&(y.toNat+256*le t))/2^8=le s&&&le t:=by
   rw[Nat.and_div_two_pow,show(x.toNat+256*le s)/2^8=le s by omega,show(y.toNat+256*le t)/2^8=le t by omega]
  rw[List.zipWith_cons_cons,le,ih,BitVec.toNat_and,le,le]
  omega
def mask16:List (BitVec 8):=[255#8,255#8,255#8,15#8,252#8,255#8,255#8,15#8,252#8,255#8,255#8,15#8,252#8,255#8,255#8,15#8]
def zC (key:List (BitVec 8)):List (BitVec 8):=List.zipWith (· &&&·) (key.take 16) mask16
theorem w9 (s t:List (BitVec 8)):le (s++t)=le s+256^s.length*le t:=by
 induction s with
 |nil=>simp[le]
 |cons a s ih=>rw[List.cons_append,le,ih,le,List.length_cons,i6,Nat.mul_add,Nat.mul_assoc];omega
def rC (key:List (BitVec 8)):BitVec 64×BitVec 64:=(BitVec.ofNat 64 (le (key.take 8))&&&1152921487695413247#64,BitVec.ofNat 64 (le ((key.drop 8).take 8))&&&1152921487695413244#64)
theorem Pk (key:List (BitVec 8))(h:key.length=32):lQ (rC key)=le (zC key)∧(rC key).1.toNat<1152921504606846976∧(rC key).2.toNat<1152921504606846976:=by
 have t1:(key.take 8).length=8:=by rw[List.length_take];omega
 have t2:((key.drop 8).take 8).length=8:=by rw[List.length_take,List.length_drop];omega
 have l1:=nq (key.take 8)
 have l2:=nq ((key.drop 8).take 8)
 rw[t1] at l1
 rw[t2] at l2
 have hk:key.take 16=key.take 8++(key.drop 8).take 8:=by rw[←List.take_add]
 have hm:mask16=mask16.take 8++mask16.drop 8:=rfl
 have a1:=tc (key.take 8) (mask16.take 8) (by rw[t1];rfl)
 have a2:=tc ((key.drop 8).take 8) (mask16.drop 8) (by rw[t2];rfl)
 have k1:le (mask16.take 8)=1152921487695413247:=by decide
 have k2:le (mask16.drop 8)=1152921487695413244:=by decide
 have e1:(rC key).1.toNat=le (key.take 8)&&&1152921487695413247:=by
  unfold rC
  rw[BitVec.toNat_and,BitVec.toNat_ofNat,Nat.mod_eq_of_lt (by omega :le (key.take 8)<2^64)];rfl
 have e2:(rC key).2.toNat=le ((key.drop 8).take 8)&&&1152921487695413244:=by
  unfold rC
  rw[BitVec.toNat_and,BitVec.toNat_ofNat,Nat.mod_eq_of_lt (by omega :le ((key.drop 8).take 8)<2^64)];rfl
 rw[k1] at a1
 rw[k2] at a2
 refine⟨?_,?_,?_⟩
 ·unfold lQ zC
  rw[hk,hm,List.zipWith_append (by rw[t1];rfl),w9,e1,e2,←a1,←a2,List.length_zipWith,t1]
  rfl
 ·rw[e1];exact Nat.lt_of_le_of_lt Nat.and_le_right (by decide)
 ·rw[e2];exact Nat.lt_of_le_of_lt Nat.and_le_right (by decide)
abbrev Pp:Nat:=1361129467683753853853498429727072845819
def dd (t:List (BitVec 8))(i:Nat):List (BitVec 8):=(t.drop (16*i)).take 16++[1#8]
theorem BT (t:List (BitVec 8))(i:Nat):(dd t i).length≤17:=by unfold dd;rw[List.length_append,List.length_take];show _+1≤17;omega
def fV (p:List (BitVec 8)):N3:=(BitVec.ofNat 64 (le (p.take 8)),BitVec.ofNat 64 (le ((p.drop 8).take 8)),BitVec.ofNat 64 (le (p.drop 16)))
theorem mX (p:List (BitVec 8))(k:Nat)(h:p.length≤k):le p<256^k:=Nat.lt_of_lt_of_le (nq p) (Nat.pow_le_pow_right (by omega) h)
theorem I4 (p:List (BitVec 8))(k:Nat)(h:k≤p.length):le p=le (p.take k)+256^k*le (p.drop k):=by
 calc le p=le (p.take k++p.drop k):=by rw[List.take_append_drop]
  _=_:=by rw[w9,List.length_take,Nat.min_eq_left h]
theorem rF (p:List (BitVec 8))(k:Nat):le p=le (p.take k)+256^k*le (p.drop k):=by
 by_cases h:k≤p.length
 ·exact I4 p k h
 ·rw[List.take_of_length_le (by omega),List.drop_of_length_le (by omega)];simp[le]
theorem I5 (p:List (BitVec 8))(h:p.length≤17):bw (fV p)=le p∧(fV p).2.2.toNat<256:=by
 have h1:=mX (p.take 8) 8 (by rw[List.length_take];omega)
 have h2:=mX ((p.drop 8).take 8) 8 (by rw[List.length_take];omega)
 have h3:=mX (p.drop 16) 1 (by rw[List.length_drop];omega)
 have s1:=rF p 8
 have s2:=rF (p.drop 8) 8
 rw[List.drop_drop,show 8+8=16 from rfl] at s2
 have e8:(256:Nat)^8=18446744073709551616:=by decide
 rw[e8] at h1 h2 s1 s2
 rw[show(256:Nat)^1=256 from rfl] at h3
 unfold bw fV
 simp only[BitVec.toNat_ofNat]
 omega
def aN (r:BitVec 64×BitVec 64)(t:List (BitVec 8)):Nat→N3
 |0=>(0#64,0#64,0#64)
 |i+1=>ig (aG (aN r t i) (fV (dd t i))) r
theorem I6 (r:BitVec 64×BitVec 64)(t:List (BitVec 8))(h0:r.1.toNat<1152921504606846976)(h1:r.2.toNat<1152921504606846976)(i:Nat):(aN r t i).2.2.toNat<8:=by
 induction i with
 |zero=>exact(by decide:(0#64).toNat<8)
 |succ i ih=>
  have hn:=I5 (dd t i) (BT t i)
  have hp:=hM (aN r t i) (fV (dd t i)) (by omega)
  have hh:=fm (aG (aN r t i) (fV (dd t i)))
  have b1:=(aN r t i).1.isLt
  have b2:=(aN r t i).2.1.isLt
  have b3:=(fV (dd t i)).1.isLt
  have b4:=(fV (dd t i)).2.1.isLt
  refine(DX (aG (aN r t i) (fV (dd t i))) r h0 h1 ?_).2
  rw[hh,hp]
  unfold bw
  omega
theorem Mx (n:Nat)(j:Nat):∀ k,aE n (k+j)=aE n k++aE (n/256^k) j:=by
 intro k
 induction k generalizing n with
 |zero=>simp[aE]
 |succ k ih=>rw[show k+1+j=(k+j)+1 by omega,aE,ih,aE,List.cons_append,Nat.div_div_eq_div_mul,←i6]
theorem I7 (a:N3):aE a.1.toNat 8++aE a.2.1.toNat 8=aE (bw a) 16:=by
 have h1:=a.1.isLt
 have h2:=a.2.1.isLt
 have e8:(256:Nat)^8=18446744073709551616:=by decide
 rw[show(16:Nat)=8+8 from rfl,Mx,←li (bw a) 8,←li (bw a/256^8) 8,e8]
 have k1:bw a%18446744073709551616=a.1.toNat:=by unfold bw;omega
 have k2:bw a/18446744073709551616%18446744073709551616=a.2.1.toNat:=by unfold bw;omega
 rw[k1,k2]
def jl (key:List (BitVec 8)):N3:=(BitVec.ofNat 64 (le ((key.drop 16).take 8)),BitVec.ofNat 64 (le ((key.drop 24).take 8)),0#64)
theorem I8 (key:List (BitVec 8))(h:key.length=32):bw (jl key)=le (key.drop 16):=by
 have h1:=mX ((key.drop 16).take 8) 8 (by rw[List.length_take];omega)
 have h2:=mX ((key.drop 24).take 8) 8 (by rw[List.length_take];omega)
 have s1:=rF (key.drop 16) 8
 rw[List.drop_drop,show 16+8=24 from rfl] at s1
 have e8:(256:Nat)^8=18446744073709551616:=by decide
 have ht:(key.drop 24).take 8=key.drop 24:=List.take_of_length_le (by rw[List.length_drop];omega)
 rw[e8] at h1 h2 s1
 rw[ht] at h2
 unfold bw jl
 simp only[BitVec.toNat_ofNat]
 rw[ht]
 rw[show 0%2^64=0 from rfl]
 omega
def lR (key t:List (BitVec 8)):List (BitVec 8):=aE (bw (aN (rC key) t ((t.length+15)/16))%Pp+le (key.drop 16)) 16
theorem oa (key t:List (BitVec 8)):(lR key t).length=16:=by unfold lR;rw[bL]
theorem I9 (key t:List (BitVec 8))(h:key.length=32):aE (aG (fQ (aN (rC key) t ((t.length+15)/16))) (jl key)).1.toNat 8++aE (aG (fQ (aN (rC key) t ((t.length+15)/16))) (jl key)).2.1.toNat 8=lR key t:=by
 obtain⟨_,h0,h1⟩:=Pk key h
 have hs:=I6 (rC key) t h0 h1 ((t.length+15)/16)
 have hl:=DW _ (show(aN (rC key) t ((t.length+15)/16)).2.2.toNat<1152921504606846976 by omega)
 have hh:=fm (fQ (aN (rC key) t ((t.length+15)/16)))
 have hz:(jl key).2.2.toNat=0:=rfl
 have hp:=hM (fQ (aN (rC key) t ((t.length+15)/16))) (jl key) (by
  rw[hz,hh,hl]
  have :=Nat.mod_lt (bw (aN (rC key) t ((t.length+15)/16))) (show 0<Pp by decide)
  omega)
 rw[I7,hp,hl,I8 key h]
 rfl
theorem FB (n:N3)(i:Nat)(h:i<3):[V.u64 n.1,V.u64 n.2.1,V.u64 n.2.2].getD i .junk= .u64 ([n.1,n.2.1,n.2.2].getD i 0):=by
 match i,h with
 |0,_=>rfl
 |1,_=>rfl
 |2,_=>rfl
theorem Ja (r:BitVec 64×BitVec 64)(i:Nat)(h:i<2):[V.u64 r.1,V.u64 r.2].getD i .junk= .u64 ([r.1,r.2].getD i 0):=by
 match i,h with
 |0,_=>rfl
 |1,_=>rfl
theorem CS (n:N3)(r:BitVec 64×BitVec 64):am Tryz.prog 194 [.agg [.u64 n.1,.u64 n.2.1,.u64 n.2.2],.agg [.u64 r.1,.u64 r.2]] (.agg [.u64 (ig n r).1,.u64 (ig n r).2.1,.u64 (ig n r).2.2]):=by
 have hal:=vw n r 3
 have l0:=iv (eO n r 3)
 unfold ig
 refine aw (by kernel_rfl) (fn:=Tryz.f194) (by kernel_rfl) Tryz.func194 rfl (by show 2≤118;decide) (by simp[ac,V.low]) (by simp[ac,V.low]) (ag ?_)
 simp only[go_sem,↓reduceIte,Nat.reduceEqDiff,Nat.reduceLT,Nat.reduceAdd,Tryz.ntmps194]
 refine aH (fun ji st=>∃ i:Nat,i+ji=3∧st=⟨[(2,.ptr 0 0),(3,.ptr 1 0),(4,.ptr 2 0),(5,.ptr 3 0),(16,.agg [.u64 n.1,.u64 n.2.1,.u64 n.2.2]),(17,.i64 i)],[some ⟨false,[.u64 n.1,.u64 n.2.1,.u64 n.2.2],none⟩,some ⟨false,[.u64 r.1,.u64 r.2],none⟩,some ⟨false,[.u64 0#64,.u64 0#64,.u64 0#64],none⟩,some ⟨false,(eO n r i).map .u64,none⟩]⟩) ?_ ?_
 ·exact aX (3) ⟨[(2,.ptr 0 0),(3,.ptr 1 0),(4,.ptr 2 0),(5,.ptr 3 0),(16,.agg [.u64 n.1,.u64 n.2.1,.u64 n.2.2]),(17,.i64 (0:Nat))],[some ⟨false,[.u64 n.1,.u64 n.2.1,.u64 n.2.2],none⟩,some ⟨false,[.u64 r.1,.u64 r.2],none⟩,some ⟨false,[.u64 0#64,.u64 0#64,.u64 0#64],none⟩,some ⟨false,(eO n r (0:Nat)).map .u64,none⟩]⟩ (by simp[St.get,ae,-List.map_set,-List.map_map]) rfl (fun _ _ h=>h) ⟨0,by omega,rfl⟩
 rintro ji st ⟨i,hi,rfl⟩ _
 simp only[go_sem,↓reduceIte,Nat.reduceEqDiff,Nat.reduceLT,Nat.reduceAdd,Int.reduceLE,Int.reduceLT,Int.reduceToNat,BitVec.reduceOfInt,reduceCtorEq]
 by_cases h0:i<3
 ·have h0':(i:Int)<3:=by omega
  have hml:=vw n r i
  have hi1:fd n r (eO n r i) i 2=eO n r (i+1):=rfl
  simp only[go_sem,↓reduceIte,h0',h0,FB n i h0]
  generalize eO n r i=w at hml hi1 ⊢
  refine⟨by omega,?_⟩
  refine aH (fun jk st=>∃ k:Nat,k+jk=2∧st=⟨[(2,.ptr 0 0),(3,.ptr 1 0),(4,.ptr 2 0),(5,.ptr 3 0),(6,.i64 i),(7,.u64 ([n.1,n.2.1,n.2.2].getD i 0)),(16,.agg [.u64 n.1,.u64 n.2.1,.u64 n.2.2]),(17,.i64 i),(21,.agg [.u64 r.1,.u64 r.2]),(22,.i64 k)],[some ⟨false,[.u64 n.1,.u64 n.2.1,.u64 n.2.2],none⟩,some ⟨false,[.u64 r.1,.u64 r.2],none⟩,some ⟨false,[.u64 0#64,.u64 0#64,.u64 0#64],none⟩,some ⟨false,(fd n r w i k).map .u64,none⟩]⟩) ?_ ?_
  ·exact aX (2) ⟨[(2,.ptr 0 0),(3,.ptr 1 0),(4,.ptr 2 0),(5,.ptr 3 0),(6,.i64 i),(7,.u64 ([n.1,n.2.1,n.2.2].getD i 0)),(16,.agg [.u64 n.1,.u64 n.2.1,.u64 n.2.2]),(17,.i64 i),(21,.agg [.u64 r.1,.u64 r.2]),(22,.i64 (0:Nat))],[some ⟨false,[.u64 n.1,.u64 n.2.1,.u64 n.2.2],none⟩,some ⟨false,[.u64 r.1,.u64 r.2],none⟩,some ⟨false,[.u64 0#64,.u64 0#64,.u64 0#64],none⟩,some ⟨false,(fd n r w i (0:Nat)).map .u64,none⟩]⟩ (by simp[St.get,ae,-List.map_set,-List.map_map]) rfl (fun _ _ h=>h) ⟨0,by omega,rfl⟩
  rintro jk st ⟨k,hk,rfl⟩ _
  simp only[go_sem,↓reduceIte,Nat.reduceEqDiff,Nat.reduceLT,Nat.reduceAdd]
  have hrl:=vv n r w i k
  rw[hml] at hrl
  by_cases hk0:k<2
  ·have hk0':(k:Int)<2:=by omega
   generalize hx:[n.1,n.2.1,n.2.2].getD i 0=x
   generalize hy:[r.1,r.2].getD k 0=y
   have hk1:iu (fd n r w i k) (i+k) x y=fd n r w i (k+1):=by rw[fd,hx,hy]
   generalize fd n r w i k=u at hrl hk1 ⊢
   have e1:ai ((i:Int)+(k:Int))=((i+k:Nat):Int):=by rw[al (by omega) (by omega)];omega
   have e2:ai (((i+k:Nat):Int)+1)=((i+k+1:Nat):Int):=by rw[al (by omega) (by omega)];omega
   have e3:ai (((i+k:Nat):Int)+2)=((i+k+2:Nat):Int):=by rw[al (by omega) (by omega)];omega
   have g1:((i+k:Nat):Int)<5:=by omega
   have g2:i+k<5:=by omega
   have g3:((i+k+1:Nat):Int)<5:=by omega
   have g4:i+k+1<5:=by omega
   have g5:i+k<u.length:=by omega
   simp only[go_sem,↓reduceIte,hk0',hk0,Ja r k hk0,hy]
   refine⟨by omega,?_⟩
   refine ak (vS x y) ?_
   simp only[go_sem,↓reduceIte,Nat.reduceEqDiff,Nat.reduceLT,Int.reduceLT,BitVec.reduceOfInt,e1,g1,g2,hrl,dl g5]
   refine⟨by omega,?_⟩
   have hc1:=eV (u.getD (i+k) 0) (x*y) 0#64 (by decide)
   refine mA (mD (u.getD (i+k) 0) (x*y) 0#64 (by decide)) ?_
   simp only[go_sem,↓reduceIte,Nat.reduceEqDiff,Nat.reduceLT,Nat.reduceLeDiff,e1,e2,g1,g3,g4,hrl]
   refine⟨by omega,by omega,by omega,?_⟩
   unfold iu at hk1
   simp only at hk1
   have hl1:(u.set (i+k) (u.getD (i+k) 0+x*y+0#64)).length=5:=by rw[List.length_set];exact hrl
   generalize u.set (i+k) (u.getD (i+k) 0+x*y+0#64)=u1 at hl1 hk1 ⊢
   generalize bj (u.getD (i+k) 0) (x*y) 0#64=c1 at hc1 hk1 ⊢
   have g6:i+k+1<u1.length:=by omega
   simp only[go_sem,dl g6]
   refine mA (mD (u1.getD (i+k+1) 0) (bV x y) c1 hc1) ?_
   simp only[go_sem,↓reduceIte,Nat.reduceEqDiff,Nat.reduceLT,Nat.reduceLeDiff,reduceCtorEq,e1,e3,g3,hl1]
   refine⟨by omega,by omega,?_⟩
   have hl2:(u1.set (i+k+1) (u1.getD (i+k+1) 0+bV x y+c1)).length=5:=by rw[List.length_set];exact hl1
   generalize u1.set (i+k+1) (u1.getD (i+k+1) 0+bV x y+c1)=u2 at hl2 hk1 ⊢
   generalize bj (u1.getD (i+k+1) 0) (bV x y) c1=c2 at hk1 ⊢
   by_cases g7:i+k+2<5
   ·have g7':((i+k+2:Nat):Int)<5:=by omega
    have g8:i+k+2<u2.length:=by omega
    rw[if_pos g7] at hk1
    simp only[go_sem,↓reduceIte,Nat.reduceEqDiff,Nat.reduceLT,Nat.reduceLeDiff,g7',g7,hl2,dl g8,hk1]
    refine⟨by omega,by omega,by omega,?_⟩
    refine aS (jk-1) ⟨[(2,.ptr 0 0),(3,.ptr 1 0),(4,.ptr 2 0),(5,.ptr 3 0),(6,.i64 i),(7,.u64 x),(16,.agg [.u64 n.1,.u64 n.2.1,.u64 n.2.2]),(17,.i64 i),(21,.agg [.u64 r.1,.u64 r.2]),(22,.i64 (k+1:Nat))],[some ⟨false,[.u64 n.1,.u64 n.2.1,.u64 n.2.2],none⟩,some ⟨false,[.u64 r.1,.u64 r.2],none⟩,some ⟨false,[.u64 0#64,.u64 0#64,.u64 0#64],none⟩,some ⟨false,(fd n r w i (k+1:Nat)).map .u64,none⟩]⟩ (by omega) ?_ rfl (fun _ _ h=>h) ⟨k+1,by omega,rfl⟩
    have hw1:ai ((k:Int)+1)=((k+1:Nat):Int):=by rw[al (by omega) (by omega)];omega
    simp[St.get,ae,hw1,-List.map_set,-List.map_map]
   ·have g7':¬ ((i+k+2:Nat):Int)<5:=by omega
    rw[if_neg g7] at hk1
    simp only[go_sem,↓reduceIte,g7',hk1]
    refine aS (jk-1) ⟨[(2,.ptr 0 0),(3,.ptr 1 0),(4,.ptr 2 0),(5,.ptr 3 0),(6,.i64 i),(7,.u64 x),(16,.agg [.u64 n.1,.u64 n.2.1,.u64 n.2.2]),(17,.i64 i),(21,.agg [.u64 r.1,.u64 r.2]),(22,.i64 (k+1:Nat))],[some ⟨false,[.u64 n.1,.u64 n.2.1,.u64 n.2.2],none⟩,some ⟨false,[.u64 r.1,.u64 r.2],none⟩,some ⟨false,[.u64 0#64,.u64 0#64,.u64 0#64],none⟩,some ⟨false,(fd n r w i (k+1:Nat)).map .u64,none⟩]⟩ (by omega) ?_ rfl (fun _ _ h=>h) ⟨k+1,by omega,rfl⟩
    have hw1:ai ((k:Int)+1)=((k+1:Nat):Int):=by rw[al (by omega) (by omega)];omega
    simp[St.get,ae,hw1,-List.map_set,-List.map_map]
  ·obtain rfl:k=2:=by omega
   have hk0':¬ ((2:Nat):Int)<2:=by omega
   simp only[go_sem,↓reduceIte,Int.reduceLT,hi1]
   refine aS (ji-1) ⟨[(2,.ptr 0 0),(3,.ptr 1 0),(4,.ptr 2 0),(5,.ptr 3 0),(16,.agg [.u64 n.1,.u64 n.2.1,.u64 n.2.2]),(17,.i64 (i+1:Nat))],[some ⟨false,[.u64 n.1,.u64 n.2.1,.u64 n.2.2],none⟩,some ⟨false,[.u64 r.1,.u64 r.2],none⟩,some ⟨false,[.u64 0#64,.u64 0#64,.u64 0#64],none⟩,some ⟨false,(eO n r (i+1:Nat)).map .u64,none⟩]⟩ (by omega) ?_ rfl (fun _ _ h=>h) ⟨i+1,by omega,rfl⟩
   have hw1:ai ((i:Int)+1)=((i+1:Nat):Int):=by rw[al (by omega) (by omega)];omega
   simp[St.get,ae,hw1,-List.map_set,-List.map_map]
 ·obtain rfl:i=3:=by omega
  have h0':¬ ((3:Nat):Int)<3:=by omega
  generalize eO n r 3=w at hal ⊢
  have a0:0<w.length:=by omega
  have a1:1<w.length:=by omega
  have a2:2<w.length:=by omega
  have a3:3<w.length:=by omega
  have a4:4<w.length:=by omega
  have p1:=iG (cG w) (cG w)
  have p2:=iG (aG (cG w) (cG w)) (cG w)
  have p3:=iG (aG (aG (cG w) (cG w)) (cG w)) (cG w)
  have p4:=iG (aG (aG (aG (cG w) (cG w)) (cG w)) (cG w)) (cG w)
  have p5:=iG (iv w) (nr (cG w))
  have p6:=vU (aG (iv w) (nr (cG w)))
  have p4':aG (aG (aG (aG (cG w) (cG w)) (cG w)) (cG w)) (cG w)=nr (cG w):=rfl
  have eh1:w.getD 2 0>>>2|||w.getD 3 0<<<62=(cG w).1:=rfl
  have eh2:w.getD 3 0>>>2|||w.getD 4 0<<<62=(cG w).2.1:=rfl
  have eh3:w.getD 4 0>>>2=(cG w).2.2:=rfl
  have el1:w.getD 0 0=(iv w).1:=rfl
  have el2:w.getD 1 0=(iv w).2.1:=rfl
  have el3:w.getD 2 0&&&3#64=(iv w).2.2:=rfl
  simp only[go_sem,↓reduceIte,Nat.reduceEqDiff,Nat.reduceLT,Nat.reduceLeDiff,Nat.reduceAdd,Int.reduceLE,Int.reduceLT,Int.reduceToNat,BitVec.reduceOfInt,BitVec.reduceToNat,hal,dl a0,dl a1,dl a2,dl a3,dl a4,eh1,eh2]
  simp only[eh3,el1,el2,el3]
  rw[p4'] at p4
  generalize cG w=H at*
  generalize iv w=L at*
  refine aC (p1) ?_
  simp only[go_sem,↓reduceIte,Nat.reduceEqDiff,Nat.reduceLT,Nat.reduceAdd]
  refine aC (p2) ?_
  simp only[go_sem,↓reduceIte,Nat.reduceEqDiff,Nat.reduceLT,Nat.reduceAdd]
  refine aC (p3) ?_
  simp only[go_sem,↓reduceIte,Nat.reduceEqDiff,Nat.reduceLT,Nat.reduceAdd]
  refine aC (p4) ?_
  simp only[go_sem,↓reduceIte,Nat.reduceEqDiff,Nat.reduceLT,Nat.reduceAdd]
  refine⟨by kernel_rfl,?_⟩
  refine ak (p5) ?_
  simp only[go_sem,↓reduceIte,Nat.reduceLT]
  refine ak (p6) ?_
  simp only[go_sem,↓reduceIte,Nat.reduceEqDiff,Nat.reduceAdd]
theorem Ss (p:List (BitVec 8)):(p.take (min p.length 8)).take 8=p.take 8:=by
 by_cases h:8≤p.length
 ·rw[Nat.min_eq_right h,List.take_take];rfl
 ·rw[Nat.min_eq_left (by omega),List.take_length]
theorem Sf (p:List (BitVec 8)):((p.take (min p.length 16)).drop 8).take 8=(p.drop 8).take 8:=by
 by_cases h:16≤p.length
 ·rw[Nat.min_eq_right h,List.drop_take,List.take_take];rfl
 ·rw[Nat.min_eq_left (by omega),List.take_length]
theorem Jb (key t:List (BitVec 8))(h:key.length=32)(ht:t.length≤140737488351232):am Tryz.prog 185 [.str key,.str t] (.tup [.str (lR key t),.i64 0]):=by
 have h':(key.length:Int)=32:=by omega
 have k1:=dF (key.take 8) (by rw[List.length_take];omega)
 have k2:=dF ((key.drop 8).take 8) (by rw[List.length_take];omega)
 rw[List.take_take,show min 8 8=8 from rfl] at k1 k2
 have hd16:(key.take 16).drop 8=(key.drop 8).take 8:=by rw[List.drop_take]
 have r1:BitVec.ofNat 64 (le (key.take 8))&&&1152921487695413247#64=(rC key).1:=rfl
 have r2:BitVec.ofNat 64 (le ((key.drop 8).take 8))&&&1152921487695413244#64=(rC key).2:=rfl
 refine aw (by kernel_rfl) (fn:=Tryz.f185) (by kernel_rfl) Tryz.func185 rfl (by show 2≤78;decide) (by simp[ac,V.low]) (by simp[ac,V.low]) (ag ?_)
 simp only[go_sem,seval,Tryz.ntmps185,h']
 refine aC (k1) ?_
 simp only[go_sem,seval,h',hd16]
 refine aC (k2) ?_
 simp only[go_sem,seval,r1,r2]
 refine⟨by kernel_rfl,?_⟩
 refine aH (fun ji st=>∃ i:Nat,i+ji=(t.length+15)/16∧st=⟨[(0,.str key),(1,.str (t.drop (16*i))),(6,.ptr 0 0),(7,.ptr 1 0)],[some ⟨false,[.u64 (rC key).1,.u64 (rC key).2],none⟩,some ⟨false,[.u64 (aN (rC key) t i).1,.u64 (aN (rC key) t i).2.1,.u64 (aN (rC key) t i).2.2],none⟩]⟩) ?_ ?_
 ·exact aX ((t.length+15)/16) ⟨[(0,.str key),(1,.str (t.drop (16*(0:Nat)))),(6,.ptr 0 0),(7,.ptr 1 0)],[some ⟨false,[.u64 (rC key).1,.u64 (rC key).2],none⟩,some ⟨false,[.u64 (aN (rC key) t (0:Nat)).1,.u64 (aN (rC key) t (0:Nat)).2.1,.u64 (aN (rC key) t (0:Nat)).2.2],none⟩]⟩ (by simp[St.get,ae,-List.map_set,-List.map_map]) rfl (fun _ _ h=>h) ⟨0,by omega,rfl⟩
 rintro ji st ⟨i,hi,rfl⟩ _
 simp only[go_sem,seval]
 have hd:(t.drop (16*i)).length=t.length-16*i:=List.length_drop
 by_cases h0:16*i<t.length
 ·have hne:¬ t.drop (16*i)=[]:=fun e=>by rw[e] at hd;simp at hd;omega
  have hmn:(if((t.length-16*i:Nat):Int)<16 then((t.length-16*i:Nat):Int) else 16)=((min (t.length-16*i) 16:Nat):Int):=by split <;>omega
  have hpl:(dd t i).length=min (t.length-16*i) 16+1:=by unfold dd;rw[List.length_append,List.length_take,hd,Nat.min_comm];rfl
  have htk:(t.drop (16*i)).take (min (t.length-16*i) 16)++[1#8]=dd t i:=by
   unfold dd
   by_cases hc:16≤t.length-16*i
   ·rw[Nat.min_eq_right hc]
   ·rw[Nat.min_eq_left (by omega),List.take_of_length_le (by omega),List.take_of_length_le (by omega)]
  have hb1:bytesOf ⟨#[1]⟩=[1#8]:=rfl
  have hacc:ig (aG (aN (rC key) t i) (fV (dd t i))) (rC key)=aN (rC key) t (i+1):=rfl
  have hnb:fV (dd t i)=(BitVec.ofNat 64 (le ((dd t i).take 8)),BitVec.ofNat 64 (le (((dd t i).drop 8).take 8)),BitVec.ofNat 64 (le ((dd t i).drop 16))):=rfl
  have hlast:16<(dd t i).length→(dd t i).drop 16=[1#8]:=fun hh=>by
   unfold dd
   rw[List.drop_append,List.drop_of_length_le (by rw[List.length_take];omega),List.length_take,hd,Nat.min_eq_left (by omega)];rfl
  have hdr:(t.drop (16*i)).drop (min (t.length-16*i) 16)=t.drop (16*(i+1)):=by
   rw[List.drop_drop]
   by_cases hh:16≤t.length-16*i
   ·rw[Nat.min_eq_right hh,Nat.mul_add]
   ·rw[Nat.min_eq_left (by omega),List.drop_of_length_le (by omega),List.drop_of_length_le (by omega)]
  have htt:(t.drop (16*i)).take (t.length-16*i)=t.drop (16*i):=List.take_of_length_le (by omega)
  generalize hL:(dd t i).length=L at hpl hlast
  generalize hnm:fV (dd t i)=nm at hacc hnb
  have pl:=iG (aN (rC key) t i) nm
  have ti:=CS (aG (aN (rC key) t i) nm) (rC key)
  rw[hacc] at ti
  generalize hpn:aG (aN (rC key) t i) nm=pn at pl ti
  generalize dd t i=p at htk hL hlast hnb
  have m8:(if(L:Int)<8 then(L:Int) else 8)=((min L 8:Nat):Int):=by split <;>omega
  have m16:(if(L:Int)<16 then(L:Int) else 16)=((min L 16:Nat):Int):=by split <;>omega
  have kk1:=dF (p.take (min L 8)) (by rw[List.length_take];omega)
  have kk2:=dF ((p.take (min L 16)).drop 8) (by rw[List.length_drop,List.length_take];omega)
  have t8:=Ss p
  have t16:=Sf p
  rw[hL] at t8 t16
  rw[t8] at kk1
  rw[t16] at kk2
  have hmL:min (min (t.length-16*i) 16) (t.length-16*i)+1=L:=by omega
  simp only[go_sem,seval,hne,hmn,hb1,htk,m8,hmL]
  refine⟨by omega,by omega,⟨by omega,by omega⟩,?_⟩
  refine ak (kk1) ?_
  simp only[go_sem,seval,hL,m16]
  by_cases c8:8<L
  ·have c8':(8:Int)<(L:Int):=by omega
   simp only[go_sem,seval,c8']
   refine⟨by omega,?_⟩
   refine ak (kk2) ?_
   simp only[go_sem,seval,hL]
   by_cases c16:16<L
   ·have c16':(16:Int)<(L:Int):=by omega
    rw[hlast c16,show BitVec.ofNat 64 (le [1#8])=1#64 from rfl] at hnb
    rw[hnb] at pl
    simp only[go_sem,seval,c16']
    refine aC (pl) ?_
    simp only[go_sem,seval]
    refine aC (ti) ?_
    simp only[go_sem,seval,hmn,hd,hdr,htt]
    refine⟨by kernel_rfl,⟨by omega,by omega⟩,?_⟩
    have hw1:ai ((i:Int)+1)=((i+1:Nat):Int):=by rw[al (by omega) (by omega)];omega
    refine db (ji-1) ⟨[(0,.str key),(1,.str (t.drop (16*(i+1:Nat)))),(6,.ptr 0 0),(7,.ptr 1 0)],[some ⟨false,[.u64 (rC key).1,.u64 (rC key).2],none⟩,some ⟨false,[.u64 (aN (rC key) t (i+1:Nat)).1,.u64 (aN (rC key) t (i+1:Nat)).2.1,.u64 (aN (rC key) t (i+1:Nat)).2.2],none⟩]⟩ [0,1] (by omega) rfl (by simp) rfl (by decide) (by simp[cp,St.get,ae,-List.map_map,-List.map_set,List.length_nil]) (by simp[List.length_nil]) ⟨i+1,by omega,rfl⟩
   ·have c16':¬ (16:Int)<(L:Int):=by omega
    rw[List.drop_of_length_le (by omega :p.length≤16),show BitVec.ofNat 64 (le [])=0#64 from rfl] at hnb
    rw[hnb] at pl
    simp only[go_sem,seval,c16']
    refine aC (pl) ?_
    simp only[go_sem,seval]
    refine aC (ti) ?_
    simp only[go_sem,seval,hmn,hd,hdr,htt]
    refine⟨by kernel_rfl,⟨by omega,by omega⟩,?_⟩
    have hw1:ai ((i:Int)+1)=((i+1:Nat):Int):=by rw[al (by omega) (by omega)];omega
    refine db (ji-1) ⟨[(0,.str key),(1,.str (t.drop (16*(i+1:Nat)))),(6,.ptr 0 0),(7,.ptr 1 0)],[some ⟨false,[.u64 (rC key).1,.u64 (rC key).2],none⟩,some ⟨false,[.u64 (aN (rC key) t (i+1:Nat)).1,.u64 (aN (rC key) t (i+1:Nat)).2.1,.u64 (aN (rC key) t (i+1:Nat)).2.2],none⟩]⟩ [0,1] (by omega) rfl (by simp) rfl (by decide) (by simp[cp,St.get,ae,-List.map_map,-List.map_set,List.length_nil]) (by simp[List.length_nil]) ⟨i+1,by omega,rfl⟩
  ·have c8':¬ (8:Int)<(L:Int):=by omega
   have c16':¬ (16:Int)<(L:Int):=by omega
   rw[List.drop_of_length_le (by omega :p.length≤16),List.drop_of_length_le (by omega :p.length≤8),List.take_nil,show BitVec.ofNat 64 (le [])=0#64 from rfl] at hnb
   rw[hnb] at pl
   simp only[go_sem,seval,c8',c16']
   refine aC (pl) ?_
   simp only[go_sem,seval]
   refine aC (ti) ?_
   simp only[go_sem,seval,hmn,hd,hdr,htt]
   refine⟨by kernel_rfl,⟨by omega,by omega⟩,?_⟩
   have hw1:ai ((i:Int)+1)=((i+1:Nat):Int):=by rw[al (by omega) (by omega)];omega
   refine db (ji-1) ⟨[(0,.str key),(1,.str (t.drop (16*(i+1:Nat)))),(6,.ptr 0 0),(7,.ptr 1 0)],[some ⟨false,[.u64 (rC key).1,.u64 (rC key).2],none⟩,some ⟨false,[.u64 (aN (rC key) t (i+1:Nat)).1,.u64 (aN (rC key) t (i+1:Nat)).2.1,.u64 (aN (rC key) t (i+1:Nat)).2.2],none⟩]⟩ [0,1] (by omega) rfl (by simp) rfl (by decide) (by simp[cp,St.get,ae,-List.map_map,-List.map_set,List.length_nil]) (by simp[List.length_nil]) ⟨i+1,by omega,rfl⟩
 ·have he:t.drop (16*i)=[]:=List.drop_of_length_le (by omega)
  obtain rfl:i=(t.length+15)/16:=by omega
  have hq:=I9 key t h
  have q1:=CQ (aN (rC key) t ((t.length+15)/16))
  have q2:=iG (fQ (aN (rC key) t ((t.length+15)/16))) (jl key)
  generalize fQ (aN (rC key) t ((t.length+15)/16))=ln at hq q1 q2
  generalize aG ln (jl key)=fin at hq q2
  have w1:=dF ((key.drop 16).take 8) (by rw[List.length_take];omega)
  have w2:=dF (key.drop 24) (by rw[List.length_drop];omega)
  rw[List.take_take,show min 8 8=8 from rfl] at w1
  have hk1:(key.take 24).drop 16=(key.drop 16).take 8:=by rw[List.drop_take]
  have hkl:(key.take 32).drop 24=key.drop 24:=by rw[List.take_of_length_le (by omega)]
  have a1:=pY fin.1
  have a2:=js (aE fin.1.toNat 8) fin.2.1 (by rw[bL];omega)
  rw[bL,hq] at a2
  have htl:=oa key t
  simp only[go_sem,seval,he]
  refine aC (q1) ?_
  simp only[go_sem,seval,hk1,h']
  refine aC (w1) ?_
  simp only[go_sem,seval,hkl,h']
  refine aC (w2) ?_
  simp only[go_sem,seval]
  refine aC (q2) ?_
  simp only[go_sem,seval]
  refine⟨by kernel_rfl,?_⟩
  refine dj [] (a1) (by kernel_rfl) (by simp) rfl (by simp) (by first|decide|simp) (by simp) (by simp) (by simp) (by simp) (by simp) ?_
  simp only[go_sem,seval]
  refine dj [2] (a2) (by kernel_rfl) (by simp) rfl (by simp) (by first|decide|simp) (by simp) (by simp) (by simp) (by simp) (by simp) ?_
  simp only[go_sem,seval,htl,List.take_of_length_le]
  kernel_rfl
def fW (k c m t:List (BitVec 8))(most:Nat):Int:=if k.length=32 then(if c.length=12 then(if 2000<m.length then 2 else if most<t.length then 2 else 0) else 1) else 1
theorem vA (k c m t:List (BitVec 8))(most:Nat):am Tryz.prog 169 [.str k,.str c,.str m,.str t,.i64 most] (.i64 (fW k c m t most)):=by
 unfold fW
 by_cases h1:k.length=32
 ·by_cases h2:c.length=12
  ·by_cases h3:2000<m.length
   ·have h3':(2000:Int)<(m.length:Int):=by omega
    refine aw (by kernel_rfl) (fn:=Tryz.f169) (by kernel_rfl) Tryz.func169 rfl (by show 5≤30;decide) (by simp[ac,V.low]) (by simp[V.low]) (ag ?_)
    simp only[go_sem,seval,Tryz.ntmps169,Tryz.results169,h1,h2,h3,h3']
   ·have h3':¬ (2000:Int)<(m.length:Int):=by omega
    by_cases h4:most<t.length
    ·have h4':(most:Int)<(t.length:Int):=by omega
     refine aw (by kernel_rfl) (fn:=Tryz.f169) (by kernel_rfl) Tryz.func169 rfl (by show 5≤30;decide) (by simp[ac,V.low]) (by simp[V.low]) (ag ?_)
     simp only[go_sem,seval,Tryz.ntmps169,Tryz.results169,h1,h2,h3,h3',h4,h4']
    ·have h4':¬ (most:Int)<(t.length:Int):=by omega
     refine aw (by kernel_rfl) (fn:=Tryz.f169) (by kernel_rfl) Tryz.func169 rfl (by show 5≤30;decide) (by simp[ac,V.low]) (by simp[V.low]) (ag ?_)
     simp only[go_sem,seval,Tryz.ntmps169,Tryz.results169,h1,h2,h3,h3',h4,h4']
  ·have h2':¬ (c.length:Int)=12:=by omega
   refine aw (by kernel_rfl) (fn:=Tryz.f169) (by kernel_rfl) Tryz.func169 rfl (by show 5≤30;decide) (by simp[ac,V.low]) (by simp[V.low]) (ag ?_)
   simp only[go_sem,seval,Tryz.ntmps169,Tryz.results169,h1,h2,h2']
 ·have h1':¬ (k.length:Int)=32:=by omega
  refine aw (by kernel_rfl) (fn:=Tryz.f169) (by kernel_rfl) Tryz.func169 rfl (by show 5≤30;decide) (by simp[ac,V.low]) (by simp[V.low]) (ag ?_)
  simp only[go_sem,seval,Tryz.ntmps169,Tryz.results169,h1,h1']
theorem oL (k c m t:List (BitVec 8))(most:Nat)(h:fW k c m t most=0):k.length=32∧c.length=12∧m.length≤2000∧t.length≤most:=by
 unfold fW at h
 split at h
 ·split at h
  ·split at h
   ·simp at h
   ·split at h
    ·simp at h
    ·omega
  ·simp at h
 ·simp at h
theorem uP (s:List (BitVec 8))(hs:s.length≤140737488351232):am Tryz.prog 186 [.str s] (.str (j0 s)):=by
 have e1:(s.length:Int).tmod 16=((s.length%16:Nat):Int):=rfl
 have e2:ai (16-((s.length%16:Nat):Int))=((16-s.length%16:Nat):Int):=by rw[al (by omega) (by omega)];omega
 have e3:((16-s.length%16:Nat):Int).tmod 16=(((16-s.length%16)%16:Nat):Int):=rfl
 have hr:=jA ((16-s.length%16)%16) (by omega)
 refine aw (by kernel_rfl) (fn:=Tryz.f186) (by kernel_rfl) Tryz.func186 rfl (by show 1≤11;decide) (by simp[ac,V.low]) (by simp[V.low]) (ag ?_)
 simp only[go_sem,seval,Tryz.ntmps186,e1,e2,e3]
 refine ak (hr) ?_
 simp only[go_sem,seval]
 exact⟨by omega,rfl⟩
def ja (m s:List (BitVec 8)):List (BitVec 8):=aE (BitVec.ofInt 64 (m.length:Int)).toNat 8++aE (BitVec.ofInt 64 (s.length:Int)).toNat 8
def lS (m s:List (BitVec 8)):List (BitVec 8):=j0 m++(j0 s++ja m s)
def im (k c m s:List (BitVec 8)):List (BitVec 8):=lR ((dC k c 0#32).take 32) (lS m s)
theorem CT (m s:List (BitVec 8))(hm:m.length≤2000)(hs:s.length≤2016):(lS m s).length≤10000:=by
 unfold lS ja
 rw[List.length_append,List.length_append,List.length_append,bL,bL,nR,nR];omega
theorem xY (k c m s:List (BitVec 8))(h1:k.length=32)(h2:c.length=12)(hm:m.length≤2000)(hs:s.length≤2016):am Tryz.prog 171 [.str k,.str c,.str m,.str s] (.str (im k c m s)):=by
 have hb:=qX k c 0#32 h1 h2
 have hbl:=mf k c 0#32 h1 h2
 have a1:=pY (BitVec.ofInt 64 (m.length:Int))
 have hl8:=bL (BitVec.ofInt 64 (m.length:Int)).toNat 8
 have hl8s:=bL (BitVec.ofInt 64 (s.length:Int)).toNat 8
 have a2:=js (aE (BitVec.ofInt 64 (m.length:Int)).toNat 8) (BitVec.ofInt 64 (s.length:Int)) (by rw[hl8];omega)
 rw[hl8,show aE (BitVec.ofInt 64 (m.length:Int)).toNat 8++aE (BitVec.ofInt 64 (s.length:Int)).toNat 8=ja m s from rfl] at a2
 have hll:(ja m s).length=16:=by unfold ja;rw[List.length_append,hl8,hl8s]
 have hfm:=nR m
 have hfs:=nR s
 have hmsg:=CT m s hm hs
 have ht:=Jb ((dC k c 0#32).take 32) (lS m s) (by rw[List.length_take,hbl];rfl) (by omega)
 have e:j0 m++(j0 s++ja m s)=lS m s:=rfl
 have e':lR ((dC k c 0#32).take 32) (lS m s)=im k c m s:=rfl
 rw[e'] at ht
 refine aw (by kernel_rfl) (fn:=Tryz.f171) (by kernel_rfl) Tryz.func171 rfl (by show 4≤43;decide) (by simp[ac,V.low]) (by simp[V.low]) (ag ?_)
 simp only[go_sem,seval,Tryz.ntmps171]
 refine ak (hb) ?_
 simp only[go_sem,seval]
 refine aA [] (a1) (by kernel_rfl) (by simp) rfl (by simp) (by first|decide|simp) (by simp) (by simp) (by simp) (by simp) (by simp) ?_
 simp only[go_sem,seval]
 refine aA [0] (a2) (by kernel_rfl) (by simp) rfl (by simp) (by first|decide|simp) (by simp) (by simp) (by simp) (by simp) (by simp) ?_
 simp only[go_sem,seval,hbl]
 refine aC (uP m (by omega)) ?_
 simp only[go_sem,seval]
 refine aC (uP s (by omega)) ?_
 simp only[go_sem,seval,hll,hfm,hfs]
 have hlt:(ja m s).take 16=ja m s:=List.take_of_length_le (by omega)
 rw[hlt,List.append_assoc,e]
 refine⟨by omega,by omega,?_⟩
 refine aC (ht) ?_
 simp only[go_sem,seval]
 kernel_rfl
theorem qc (B:BitVec 32→List (BitVec 8))(hB:∀ m,(B m).length=64)(n:BitVec 32)(t:List (BitVec 8)):(xored B n t).length=t.length:=by
 unfold xored;rw[eC,uE B hB];omega
def eK (k c m t:List (BitVec 8)):List (BitVec 8)×Int:=if fW k c m t 2000=0 then(xored (dC k c) 1#32 t++im k c m (xored (dC k c) 1#32 t),0) else([],fW k c m t 2000)
def dW (k c m z:List (BitVec 8)):List (BitVec 8)×Int:=if fW k c m z 2016=0 then(if z.length<16 then([],4) else if z.take (z.length-16)++im k c m (z.take (z.length-16))=z then(xored (dC k c) 1#32 (z.take (z.length-16)),0) else([],6)) else([],fW k c m z 2016)
theorem xa (k c m t:List (BitVec 8)):am Tryz.prog 154 [.str k,.str c,.str m,.str t] (.tup [.str (eK k c m t).1,.i64 (eK k c m t).2]):=by
 have hc:=vA k c m t 2000
 unfold eK
 by_cases h:fW k c m t 2000=0
 ·obtain⟨h1,h2,h3,h4⟩:=oL _ _ _ _ _ h
  rw[h] at hc
  rw[if_pos h]
  have hB:∀ n,(dC k c n).length=64:=fun n=>mf k c n h1 h2
  have hx:=vu k c 1#32 t (dC k c) hB (fun n=>qX k c n h1 h2) h1 h2 h4
  have hxl:=qc (dC k c) hB 1#32 t
  generalize xored (dC k c) 1#32 t=x at hx hxl ⊢
  have ht:=xY k c m x h1 h2 h3 (by omega)
  have htl:(im k c m x).length=16:=oa _ _
  refine aw (by kernel_rfl) (fn:=Tryz.f154) (by kernel_rfl) Tryz.func154 rfl (by show 4≤35;decide) (by simp[ac,V.low]) (by simp[ac,V.low]) (ag ?_)
  simp only[go_sem,seval,Tryz.ntmps154]
  refine ak (hc) ?_
  simp only[go_sem,seval]
  refine ak (hx) ?_
  simp only[go_sem,seval]
  refine ak (ht) ?_
  simp only[go_sem,seval,htl]
  omega
 ·rw[if_neg h]
  refine aw (by kernel_rfl) (fn:=Tryz.f154) (by kernel_rfl) Tryz.func154 rfl (by show 4≤35;decide) (by simp[ac,V.low]) (by simp[ac,V.low]) (ag ?_)
  simp only[go_sem,seval,Tryz.ntmps154]
  refine ak (hc) ?_
  simp only[go_sem,seval,h]
theorem xb (k c m z:List (BitVec 8)):am Tryz.prog 158 [.str k,.str c,.str m,.str z] (.tup [.str (dW k c m z).1,.i64 (dW k c m z).2]):=by
 have hc:=vA k c m z 2016
 unfold dW
 by_cases h:fW k c m z 2016=0
 ·obtain⟨h1,h2,h3,h4⟩:=oL _ _ _ _ _ h
  rw[h] at hc
  rw[if_pos h]
  by_cases hs:z.length<16
  ·have hs':(z.length:Int)<16:=by omega
   rw[if_pos hs]
   refine aw (by kernel_rfl) (fn:=Tryz.f158) (by kernel_rfl) Tryz.func158 rfl (by show 4≤45;decide) (by simp[ac,V.low]) (by simp[ac,V.low]) (ag ?_)
   simp only[go_sem,seval,Tryz.ntmps158]
   refine ak (hc) ?_
   simp only[go_sem,seval,hs']
  ·have hs':¬ (z.length:Int)<16:=by omega
   rw[if_neg hs]
   have e16:ai ((z.length:Int)-16)=((z.length-16:Nat):Int):=by rw[al (by omega) (by omega)];omega
   have hle:((z.length-16:Nat):Int)≤(z.length:Int):=by omega
   have z0:(0:Int)≤((z.length-16:Nat):Int):=by omega
   have hxl:(z.take (z.length-16)).length=z.length-16:=by rw[List.length_take];omega
   have hB:∀ n,(dC k c n).length=64:=fun n=>mf k c n h1 h2
   have hx:=vu k c 1#32 (z.take (z.length-16)) (dC k c) hB (fun n=>qX k c n h1 h2) h1 h2 (by omega)
   have ht:=xY k c m (z.take (z.length-16)) h1 h2 h3 (by omega)
   have htl:(im k c m (z.take (z.length-16))).length=16:=oa _ _
   generalize hS:z.take (z.length-16)=s at hxl hx ht htl ⊢
   generalize xored (dC k c) 1#32 s=x at hx ⊢
   by_cases hq:s++im k c m s=z
   ·rw[if_pos hq]
    refine aw (by kernel_rfl) (fn:=Tryz.f158) (by kernel_rfl) Tryz.func158 rfl (by show 4≤45;decide) (by simp[ac,V.low]) (by simp[ac,V.low]) (ag ?_)
    simp only[go_sem,seval,Tryz.ntmps158]
    refine ak (hc) ?_
    simp only[go_sem,seval,hs',e16,hle,z0,hS]
    refine ak (ht) ?_
    simp only[go_sem,seval,hq,hxl,htl]
    refine⟨by omega,?_⟩
    refine ak (hx) ?_
    simp only[go_sem,seval]
   ·rw[if_neg hq]
    refine aw (by kernel_rfl) (fn:=Tryz.f158) (by kernel_rfl) Tryz.func158 rfl (by show 4≤45;decide) (by simp[ac,V.low]) (by simp[ac,V.low]) (ag ?_)
    simp only[go_sem,seval,Tryz.ntmps158]
    refine ak (hc) ?_
    simp only[go_sem,seval,hs',e16,hle,z0,hS]
    refine ak (ht) ?_
    simp only[go_sem,seval,hq,hxl,htl]
    omega
 ·rw[if_neg h]
  refine aw (by kernel_rfl) (fn:=Tryz.f158) (by kernel_rfl) Tryz.func158 rfl (by show 4≤45;decide) (by simp[ac,V.low]) (by simp[ac,V.low]) (ag ?_)
  simp only[go_sem,seval,Tryz.ntmps158]
  refine ak (hc) ?_
  simp only[go_sem,seval,h]
def er (f:List (BitVec 8)→List (BitVec 8)→List (BitVec 8)→List (BitVec 8)→List (BitVec 8)×Int)(k c m t:List (BitVec 8)):List (BitVec 8)×Int:=if k.length=32∧c.length=24 then f (pO k (c.take 16)) (List.replicate 4 0#8++c.drop 16) m t else([],1)
theorem xc (g:Nat)(f:List (BitVec 8)→List (BitVec 8)→List (BitVec 8)→List (BitVec 8)→List (BitVec 8)×Int)(hcall:cw Tryz.prog g=true)(hf:∀ k c m t,am Tryz.prog g [.str k,.str c,.str m,.str t] (.tup [.str (f k c m t).1,.i64 (f k c m t).2]))(k c m t:List (BitVec 8)):
  am Tryz.prog 153 [.str k,.str c,.str m,.str t,.fn g [] []] (.tup [.str (er f k c m t).1,.i64 (er f k c m t).2]):=by
 unfold er
 by_cases h:k.length=32∧c.length=24
 ·obtain⟨h1,h2⟩:=h
  have h2':(c.length:Int)=24:=by omega
  have hs:=Fx k (c.take 16) h1 (by rw[List.length_take];omega)
  have hl:=hf (pO k (c.take 16)) (List.replicate 4 0#8++c.drop 16) m t
  rw[if_pos ⟨h1,h2⟩]
  have hz:bytesOf ⟨#[0,0,0,0]⟩=List.replicate 4 0#8:=rfl
  have hct:c.take 24=c:=List.take_of_length_le (by omega)
  refine aw (by kernel_rfl) (fn:=Tryz.f153) (by kernel_rfl) Tryz.func153 rfl (by show 5≤39;decide) (by simp[ac,V.low]) (by simp[ac,V.low]) (ag ?_)
  simp only[go_sem,seval,Tryz.ntmps153,h1,h2]
  refine ak (hs) ?_
  simp only[go_sem,seval,hz,hct,h2']
  refine⟨by omega,?_⟩
  refine ak (hl) ?_
  simp only[go_sem,seval]
 ·rw[if_neg h]
  by_cases h1:k.length=32
  ·have h2:¬ (c.length:Int)=24:=by omega
   refine aw (by kernel_rfl) (fn:=Tryz.f153) (by kernel_rfl) Tryz.func153 rfl (by show 5≤39;decide) (by simp[ac,V.low]) (by simp[ac,V.low]) (ag ?_)
   simp only[go_sem,seval,Tryz.ntmps153,Tryz.results153,h1,h2]
  ·have h1':¬ (k.length:Int)=32:=by omega
   refine aw (by kernel_rfl) (fn:=Tryz.f153) (by kernel_rfl) Tryz.func153 rfl (by show 5≤39;decide) (by simp[ac,V.low]) (by simp[ac,V.low]) (ag ?_)
   simp only[go_sem,seval,Tryz.ntmps153,Tryz.results153,h1']
theorem FC (k c m t:List (BitVec 8)):am Tryz.prog 125 [.str k,.str c,.str m,.str t] (.tup [.str (er eK k c m t).1,.i64 (er eK k c m t).2]):=by
 have h:=xc 154 eK (by kernel_rfl) xa k c m t
 refine aw (by kernel_rfl) (fn:=Tryz.f125) (by kernel_rfl) Tryz.func125 rfl (by show 4≤17;decide) (by simp[ac,V.low]) (by simp[ac,V.low]) (ag ?_)
 simp only[go_sem,seval,Tryz.ntmps125]
 refine ak (h) ?_
 simp only[go_sem,seval]
theorem CU (k c m t:List (BitVec 8)):am Tryz.prog 140 [.str k,.str c,.str m,.str t] (.tup [.str (er dW k c m t).1,.i64 (er dW k c m t).2]):=by
 have h:=xc 158 dW (by kernel_rfl) xb k c m t
 refine aw (by kernel_rfl) (fn:=Tryz.f140) (by kernel_rfl) Tryz.func140 rfl (by show 4≤17;decide) (by simp[ac,V.low]) (by simp[ac,V.low]) (ag ?_)
 simp only[go_sem,seval,Tryz.ntmps140]
 refine ak (h) ?_
 simp only[go_sem,seval]
def zero4:List (BitVec 8):=[0#8,0#8,0#8,0#8]
theorem FD (n:BitVec 64):am Tryz.prog 230 [.agg [],.u64 n] (.str (zero4++aE n.toNat 8)):=by
 have ha:=js zero4 n (by decide)
 have hl:=bL n.toNat 8
 rw[show zero4.length=4 from rfl] at ha
 unfold zero4 at ha ⊢
 generalize aE n.toNat 8=z at*
 have hz:z.take 8=z:=List.take_of_length_le (by omega)
 refine aw (by kernel_rfl) (fn:=Tryz.f230) (by kernel_rfl) Tryz.func230 rfl (by show 2≤9;decide) (by simp[ac,V.low]) (by simp[V.low]) (ag ?_)
 simp only[go_sem,seval,Tryz.ntmps230]
 refine aA [1] (ha) (by kernel_rfl) (by simp) rfl (by simp) (by first|decide|simp) (by simp) (by simp) (by simp) (by simp) (by simp) ?_
 simp only[go_sem,seval,hl,hz]
theorem FE (n:BitVec 64):am Tryz.prog 234 [.agg [],.u64 n] (.str (zero4++bz n.toNat 8)):=by
 have ha:=nP zero4 n (by decide)
 have hl:=cn n.toNat 8
 rw[show zero4.length=4 from rfl] at ha
 unfold zero4 at ha ⊢
 generalize bz n.toNat 8=z at*
 have hz:z.take 8=z:=List.take_of_length_le (by omega)
 refine aw (by kernel_rfl) (fn:=Tryz.f234) (by kernel_rfl) Tryz.func234 rfl (by show 2≤9;decide) (by simp[ac,V.low]) (by simp[V.low]) (ag ?_)
 simp only[go_sem,seval,Tryz.ntmps234]
 refine aA [1] (ha) (by kernel_rfl) (by simp) rfl (by simp) (by first|decide|simp) (by simp) (by simp) (by simp) (by simp) (by simp) ?_
 simp only[go_sem,seval,hl,hz]
theorem DY (k c m t:List (BitVec 8)):am Tryz.prog 232 [.agg [],.str k,.str c,.str m,.str t] (.tup [.str (eK k c m t).1,.i64 (eK k c m t).2]):=by
 have h:=xa k c m t
 generalize eK k c m t=g at*
 refine aw (by kernel_rfl) (fn:=Tryz.f232) (by kernel_rfl) Tryz.func232 rfl (by show 5≤19;decide) (by simp[ac,V.low]) (by simp[ac,V.low]) (ag ?_)
 simp only[go_sem,seval,Tryz.ntmps232]
 refine ak (h) ?_
 simp only[go_sem,seval]
theorem DZ (k c m t:List (BitVec 8)):am Tryz.prog 231 [.agg [],.str k,.str c,.str m,.str t] (.tup [.str (dW k c m t).1,.i64 (dW k c m t).2]):=by
 have h:=xb k c m t
 generalize dW k c m t=g at*
 refine aw (by kernel_rfl) (fn:=Tryz.f231) (by kernel_rfl) Tryz.func231 rfl (by show 5≤19;decide) (by simp[ac,V.low]) (by simp[ac,V.low]) (ag ?_)
 simp only[go_sem,seval,Tryz.ntmps231]
 refine ak (h) ?_
 simp only[go_sem,seval]
structure BoxFn (t:TypeId) (nm:String) (fit:Nat→Nat→Prop):Prop where
 has:∃ f,cV Tryz.prog t nm=some f∧∀ (k c m x:List af),x.length≤549755813888→∃ v,am Tryz.prog f [.agg [],.str k,.str c,.str m,.str x] v∧∃ (o:List af) (e:Int),v= .tup [.str o,.i64 e]∧(e=0→fit o.length x.length)∧o.length≤x.length+16
theorem Rd:cV Tryz.prog 258 "souterrain/noise.nonce"=some 230:=by kernel_rfl
theorem Re:cV Tryz.prog 258 "souterrain/noise.seal"=some 232:=by kernel_rfl
theorem Rf:cV Tryz.prog 258 "souterrain/noise.open"=some 231:=by kernel_rfl
theorem Rg:cV Tryz.prog 259 "souterrain/noise.nonce"=some 234:=by kernel_rfl
theorem Rh:cV Tryz.prog 259 "souterrain/noise.seal"=some 236:=by kernel_rfl
theorem Ri:cV Tryz.prog 259 "souterrain/noise.open"=some 235:=by kernel_rfl
theorem rY {s:V}(hs:ib s):∃ t f,s= .iface t (.agg [])∧cV Tryz.prog t "souterrain/noise.nonce"=some f∧∀ n,∃ v,am Tryz.prog f [.agg [],.u64 n] v∧∃ o:List af,o.length=12∧v= .str o:=by
 rcases hs with rfl|rfl
 ·exact⟨258,_,rfl,Rd,fun n=>⟨_,FD n,_,by rw[List.length_append,bL];rfl,rfl⟩⟩
 ·exact⟨259,_,rfl,Rg,fun n=>⟨_,FE n,_,by rw[List.length_append,cn];rfl,rfl⟩⟩
theorem vB (cs:List V)(hst:IsSt cs)(x:List af)(ht:x.length≤549755813888)(ty:TypeId)(nm:String)(fit:Nat→Nat→Prop)(hb:BoxFn ty nm fit):∃ v h',ao Tryz.prog 167 [.ptr 0 0,.str x,.aFn nm ty (.agg [])] [some ⟨false,cs,none⟩] v h'∧((∃ (o:List af) (e:Int),v= .tup [.str o,.i64 e]∧(e=0→fit o.length x.length)∧o.length≤x.length+16)∧∃ cs',IsSt cs'∧h'=[some ⟨false,cs',none⟩]):=by
 obtain⟨s,h,c,k,n,⟨hs,h1,h2,h3⟩,rfl⟩:=hst
 obtain⟨ty2,f,rfl,hm,hk⟩:=rY hs
 obtain⟨f2,hm2,hf2⟩:=hb.has
 have hsr:=fun σ=>d8 hs σ
 have hsl:=fun n=>eR hs n
 by_cases hk0:k=[]
 ·subst hk0
  refine cb (Post:=fun v h'=>(∃ (o:List af) (e:Int),v= .tup [.str o,.i64 e]∧(e=0→fit o.length x.length)∧o.length≤x.length+16)∧∃ cs',IsSt cs'∧h'=[some ⟨false,cs',none⟩]) (by kernel_rfl) (fn:=Tryz.f167) Tryz.func167 rfl (by show 3≤51;decide) (ag ?_)
  simp only[go_sem,seval,bD]
  repeat refine aJ ?_
  refine⟨_,_,?_,Fin.take 1 (by simp) (by simp) (by simp[ac,V.low,-List.map_take,-List.map_drop,-List.map_map,-List.map_set]) (by simp[aF,ac,V.low,-List.map_take,-List.map_drop,-List.map_map,-List.map_set])⟩
  exact⟨⟨[],10,rfl,by simp,by simp⟩,_,⟨_,h,c,[],n,⟨hs,h1,h2,h3⟩,rfl⟩,rfl⟩
 refine cb (Post:=fun v h'=>(∃ (o:List af) (e:Int),v= .tup [.str o,.i64 e]∧(e=0→fit o.length x.length)∧o.length≤x.length+16)∧∃ cs',IsSt cs'∧h'=[some ⟨false,cs',none⟩]) (by kernel_rfl) (fn:=Tryz.f167) Tryz.func167 rfl (by show 3≤51;decide) (ag ?_)
 simp only[go_sem,seval,bD,hk0,fY hm]
 repeat refine aJ ?_
 obtain⟨_,hn,nn,hnn,rfl⟩:=hk n
 refine aC (hn) ?_
 simp only[go_sem,seval]
 repeat refine aJ ?_
 obtain⟨_,hx,o,e,rfl,he,ho⟩:=hf2 k nn h x ht
 refine BC hm2 hx ?_
 simp only[go_sem,seval]
 repeat refine aJ ?_
 split
 ·refine⟨_,_,?_,Fin.take 1 (by simp) (by simp) (by simp[ac,V.low,-List.map_take,-List.map_drop,-List.map_map,-List.map_set]) (by simp[aF,ac,V.low,-List.map_take,-List.map_drop,-List.map_map,-List.map_set])⟩
  exact⟨⟨o,e,rfl,he,ho⟩,_,⟨_,h,c,k,_,⟨hs,h1,h2,h3⟩,rfl⟩,rfl⟩
 ·refine⟨_,_,?_,Fin.take 1 (by simp) (by simp) (by simp[ac,V.low,-List.map_take,-List.map_drop,-List.map_map,-List.map_set]) (by simp[aF,ac,V.low,-List.map_take,-List.map_drop,-List.map_map,-List.map_set])⟩
  exact⟨⟨o,e,rfl,he,ho⟩,_,⟨_,h,c,k,n,⟨hs,h1,h2,h3⟩,rfl⟩,rfl⟩
theorem oM:(#[]:Array Operand).isEmpty=true:=rfl
def eL (a b:Nat):Prop:=a=b+16
def eG (a b:Nat):Prop:=b=a+16
theorem D0 (hb1:BoxFn 258 "souterrain/noise.seal" eL)(hb2:BoxFn 259 "souterrain/noise.seal" eL)(cs:List V)(hst:IsSt cs)(x:List af)(ht:x.length≤274877906944):∃ v h',ao Tryz.prog 152 [.ptr 0 0,.str x] [some ⟨false,cs,none⟩] v h'∧((∃ (o:List af) (e:Int),v= .tup [.str o,.i64 e]∧(e=0→eL o.length x.length)∧o.length≤x.length+16)∧∃ cs',IsSt cs'∧h'=[some ⟨false,cs',none⟩]):=by
 have hst0:=hst
 obtain⟨s,h,c,k,n,⟨hs,h1,h2,h3⟩,rfl⟩:=hst
 obtain⟨ty,rfl,hb⟩:∃ ty,s= .iface ty (.agg [])∧BoxFn ty "souterrain/noise.seal" eL:=by
  rcases hs with rfl|rfl
  ·exact⟨_,rfl,hb1⟩
  ·exact⟨_,rfl,hb2⟩
 have hsr:=fun σ=>d8 hs σ
 have hsl:=fun n=>eR hs n
 obtain⟨_,_,hth,⟨o,e,rfl,he,ho⟩,c2,hst2,rfl⟩:=vB _ hst0 x (by omega) ty _ eL hb
 obtain⟨_,_,hmix,rfl,c3,hst3,rfl⟩:=kv c2 hst2 o (by omega)
 have r2:=hst2.rens
 have l2:=hst2.low
 have r3:=hst3.rens
 have l3:=hst3.low
 refine cb (Post:=fun v h'=>(∃ (o:List af) (e:Int),v= .tup [.str o,.i64 e]∧(e=0→eL o.length x.length)∧o.length≤x.length+16)∧∃ cs',IsSt cs'∧h'=[some ⟨false,cs',none⟩]) (by kernel_rfl) (fn:=Tryz.f152) Tryz.func152 rfl (by show 2≤27;decide) (ag ?_)
 simp only[go_sem,seval,bD,oM]
 repeat refine aJ ?_
 refine aA [0] (hth) (by kernel_rfl) (by simp) rfl (by simp[bD]) (by first|decide|simp) (by simp) (by simp) (by simp[bD]) (by simp[bD]) (by simp) ?_
 simp only[go_sem,seval,r2]
 repeat refine aJ ?_
 split
 ·refine aA [0] (hmix) (by kernel_rfl) (by simp) rfl (by simp) (by first|decide|simp) (by simp) (by simp) (by simp[r2,l2]) (by simp) (by simp) ?_
  simp only[go_sem,seval,r3]
  refine⟨_,_,?_,Fin.take 1 (by simp) (by simp) (by simp[ac,V.low,-List.map_take,-List.map_drop,-List.map_map,-List.map_set]) (by simp[aF,-List.map_take,-List.map_drop,-List.map_map,-List.map_set,l3])⟩
  exact⟨⟨o,e,rfl,he,ho⟩,_,hst3,rfl⟩
 ·refine⟨_,_,?_,Fin.take 1 (by simp) (by simp) (by simp[ac,V.low,-List.map_take,-List.map_drop,-List.map_map,-List.map_set]) (by simp[aF,-List.map_take,-List.map_drop,-List.map_map,-List.map_set,l2])⟩
  exact⟨⟨o,e,rfl,he,ho⟩,_,hst2,rfl⟩
theorem D1 (hb1:BoxFn 258 "souterrain/noise.open" eG)(hb2:BoxFn 259 "souterrain/noise.open" eG)(cs:List V)(hst:IsSt cs)(x:List af)(ht:x.length≤274877906944):∃ v h',ao Tryz.prog 155 [.ptr 0 0,.str x] [some ⟨false,cs,none⟩] v h'∧((∃ (o:List af) (e:Int),v= .tup [.str o,.i64 e]∧(e=0→eG o.length x.length)∧o.length≤x.length+16)∧∃ cs',IsSt cs'∧h'=[some ⟨false,cs',none⟩]):=by
 have hst0:=hst
 obtain⟨s,h,c,k,n,⟨hs,h1,h2,h3⟩,rfl⟩:=hst
 obtain⟨ty,rfl,hb⟩:∃ ty,s= .iface ty (.agg [])∧BoxFn ty "souterrain/noise.open" eG:=by
  rcases hs with rfl|rfl
  ·exact⟨_,rfl,hb1⟩
  ·exact⟨_,rfl,hb2⟩
 have hsr:=fun σ=>d8 hs σ
 have hsl:=fun n=>eR hs n
 obtain⟨_,_,hth,⟨o,e,rfl,he,ho⟩,c2,hst2,rfl⟩:=vB _ hst0 x (by omega) ty _ eG hb
 obtain⟨_,_,hmix,rfl,c3,hst3,rfl⟩:=kv c2 hst2 x (by omega)
 have r2:=hst2.rens
 have l2:=hst2.low
 have r3:=hst3.rens
 have l3:=hst3.low
 refine cb (Post:=fun v h'=>(∃ (o:List af) (e:Int),v= .tup [.str o,.i64 e]∧(e=0→eG o.length x.length)∧o.length≤x.length+16)∧∃ cs',IsSt cs'∧h'=[some ⟨false,cs',none⟩]) (by kernel_rfl) (fn:=Tryz.f155) Tryz.func155 rfl (by show 2≤27;decide) (ag ?_)
 simp only[go_sem,seval,bD,oM]
 repeat refine aJ ?_
 refine aA [0] (hth) (by kernel_rfl) (by simp) rfl (by simp[bD]) (by first|decide|simp) (by simp) (by simp) (by simp[bD]) (by simp[bD]) (by simp) ?_
 simp only[go_sem,seval,r2]
 repeat refine aJ ?_
 split
 ·refine aA [0] (hmix) (by kernel_rfl) (by simp) rfl (by simp) (by first|decide|simp) (by simp) (by simp) (by simp[r2,l2]) (by simp) (by simp) ?_
  simp only[go_sem,seval,r3]
  refine⟨_,_,?_,Fin.take 1 (by simp) (by simp) (by simp[ac,V.low,-List.map_take,-List.map_drop,-List.map_map,-List.map_set]) (by simp[aF,-List.map_take,-List.map_drop,-List.map_map,-List.map_set,l3])⟩
  exact⟨⟨o,e,rfl,he,ho⟩,_,hst3,rfl⟩
 ·refine⟨_,_,?_,Fin.take 1 (by simp) (by simp) (by simp[ac,V.low,-List.map_take,-List.map_drop,-List.map_map,-List.map_set]) (by simp[aF,-List.map_take,-List.map_drop,-List.map_map,-List.map_set,l2])⟩
  exact⟨⟨o,e,rfl,he,ho⟩,_,hst2,rfl⟩
def ns:Nat→BitVec 8→BitVec 8→BitVec 8→BitVec 8
 |0,_,_,n=>n
 |k+1,a,b,n=>if 0#8<b then ns k (a<<<1 ^^^ a>>>7*27) (b>>>1) (n ^^^ a*(b&&&1)) else n
def eP (a b:BitVec 8):BitVec 8:=ns 8 a b 0
theorem jL (a b:BitVec 8):am Tryz.prog 250 [.u8 a,.u8 b] (.u8 (eP a b)):=by
 refine aw (by kernel_rfl) (fn:=Tryz.f250) (by kernel_rfl) Tryz.func250 rfl (by show 2≤23;decide) (by simp[ac,V.low]) (by simp[V.low]) (ag ?_)
 simp only[go_sem,seval,Tryz.ntmps250]
 refine aH (fun j s=>∃ a' b' n',s=⟨[(0,.u8 a'),(1,.u8 b'),(5,.u8 n')],[]⟩∧b'.toNat<2^j∧eP a b=ns j a' b' n') ?_ ?_
 ·exact aX 8 ⟨[(0,.u8 a),(1,.u8 b),(5,.u8 0)],[]⟩ (by simp[St.get,ae]) rfl (fun _ _ h=>h) ⟨a,b,0,rfl,b.isLt,rfl⟩
 ·rintro j s ⟨a',b',n',rfl,hb,he⟩ _
  simp only[go_sem,seval]
  split
  ·rename_i h0
   cases j with
   |zero=>exact absurd h0 (by rw[BitVec.lt_def];simp;omega)
   |succ j=>
    refine aS j ⟨[(0,.u8 (a'<<<1 ^^^ a'>>>7*27)),(1,.u8 (b'>>>1)),(5,.u8 (n' ^^^ a'*(b'&&&1)))],[]⟩ (by omega) (by simp[St.get,ae]) rfl (fun _ _ h=>h) ⟨_,_,_,rfl,?_,?_⟩
    ·simp[Nat.shiftRight_eq_div_pow];omega
    ·rw[he,ns,if_pos h0]
  ·rename_i h0
   rw[he]
   cases j with
   |zero=>rfl
   |succ j=>rw[ns,if_neg h0]
def nx (a:Nat):Nat:=(a*2%256) ^^^ (a/128*27)
def tI:Nat→BitVec 8→BitVec 8→BitVec 8
 |0,n,_=>n
 |k+1,n,s=>tI k (eP n (eP s s)) (eP s s)
def iw (a:BitVec 8):BitVec 8:=tI 7 1 a
theorem Jc (a:BitVec 8):am Tryz.prog 260 [.u8 a] (.u8 (iw a)):=by
 refine aw (by kernel_rfl) (fn:=Tryz.f260) (by kernel_rfl) Tryz.func260 rfl (by show 1≤16;decide) (by simp[ac,V.low]) (by simp[V.low]) (ag ?_)
 simp only[go_sem,seval,Tryz.ntmps260]
 refine aH (fun j s=>∃ (i:Nat) (n q:BitVec 8),i+j=7∧s=⟨[(3,.u8 n),(4,.u8 q),(6,.i64 i)],[]⟩∧iw a=tI j n q) ?_ ?_
 ·exact aX 7 ⟨[(3,.u8 1),(4,.u8 a),(6,.i64 (0:Nat))],[]⟩ (by simp[St.get,ae]) rfl (fun _ _ h=>h) ⟨0,1,a,by omega,rfl,rfl⟩
 ·rintro j s ⟨i,n,q,hi,rfl,he⟩ _
  simp only[go_sem,seval]
  split
  ·refine ak (jL _ _) ?_
   simp only[go_sem,seval]
   refine ak (jL _ _) ?_
   simp only[go_sem,seval]
   obtain⟨j,rfl⟩:∃ k,j=k+1:=⟨j-1,by omega⟩
   refine aS j ⟨[(3,.u8 (eP n (eP q q))),(4,.u8 (eP q q)),(6,.i64 (i+1:Nat))],[]⟩ (by omega) ?_ rfl (fun _ _ h=>h) ⟨i+1,_,_,by omega,rfl,he⟩
   have :ai ((i:Int)+1)=((i+1:Nat):Int):=by rw[al (by omega) (by omega)];omega
   simp[St.get,ae,this]
  ·obtain rfl:j=0:=by omega
   rw[he];rfl
theorem vV (i:Nat):BitVec.ofInt 8 (i:Int)=BitVec.ofNat 8 i:=BitVec.ofInt_natCast 8 i
def zS (x:BitVec 8)(k:Nat):BitVec 8:=x<<<k|||x>>>(8-k)
theorem Jd (n:Int):(BitVec.ofInt 64 n&&&7#64).toNat=(n%8).toNat:=by
 rw[BitVec.toNat_and,BitVec.toNat_ofInt,show(7#64).toNat=2^3-1 from rfl,Nat.and_two_pow_sub_one_eq_mod]
 omega
theorem FF (x:BitVec 8)(n:Int):am Tryz.prog 261 [.u8 x,.i64 n] (.u8 (zS x (n%8).toNat)):=by
 have e:=Jd n
 have e2:(8#64-(BitVec.ofInt 64 n&&&7#64)).toNat=8-(n%8).toNat:=by
  rw[BitVec.toNat_sub,e]
  have :(8#64).toNat=8:=rfl
  rw[this];omega
 refine aw (by kernel_rfl) (fn:=Tryz.f261) (by kernel_rfl) Tryz.func261 rfl (by show 2≤17;decide) (by simp[ac,V.low]) (by simp[V.low]) (ag ?_)
 simp only[go_sem,seval,Tryz.ntmps261,Tryz.results261,e,e2]
 rfl
def j9 (b:BitVec 8):Nat→BitVec 8
 |0=>b ^^^ 99#8
 |i+1=>j9 b i ^^^ zS b (((i+1:Nat):Int)%8).toNat
def b9 (a:BitVec 8):BitVec 8:=j9 (iw a) 4
theorem Je (a:BitVec 8):am Tryz.prog 249 [.u8 a] (.u8 (b9 a)):=by
 refine aw (by kernel_rfl) (fn:=Tryz.f249) (by kernel_rfl) Tryz.func249 rfl (by show 1≤21;decide) (by simp[ac,V.low]) (by simp[V.low]) (ag ?_)
 simp only[go_sem,seval,Tryz.ntmps249]
 refine ak (Jc _) ?_
 simp only[go_sem,seval]
 refine aH (fun j st=>∃ i:Nat,i+j=4∧st=⟨[(3,.u8 (iw a)),(4,.u8 (j9 (iw a) i)),(10,.i64 i)],[]⟩) ?_ ?_
 ·exact aX (4) ⟨[(3,.u8 (iw a)),(4,.u8 (j9 (iw a) (0:Nat))),(10,.i64 (0:Nat))],[]⟩ (by simp[St.get,ae,j9]) rfl (fun _ _ h=>h) ⟨0,by omega,rfl⟩
 rintro j st ⟨i,hi,rfl⟩ _
 simp only[go_sem,seval]
 by_cases h0:i<4
 ·have h0':(i:Int)<4:=by omega
  have hw:ai ((i:Int)+1)=((i+1:Nat):Int):=by rw[al (by omega) (by omega)];omega
  simp only[go_sem,seval,h0',hw]
  refine ak (FF _ _) ?_
  simp only[go_sem,seval]
  refine aS (j-1) ⟨[(3,.u8 (iw a)),(4,.u8 (j9 (iw a) (i+1:Nat))),(10,.i64 (i+1:Nat))],[]⟩ (by omega) ?_ rfl (fun _ _ h=>h) ⟨i+1,by omega,rfl⟩
  have hw1:ai ((i:Int)+1)=((i+1:Nat):Int):=by rw[al (by omega) (by omega)];omega
  simp[St.get,ae,hw1,j9]
 ·have h0':¬ (i:Int)<4:=by omega
  simp only[go_sem,seval,h0']
  obtain rfl:i=4:=by omega
  rfl
def cZ:Nat→List (BitVec 8)
 |0=>List.replicate 512 0#8
 |i+1=>((cZ i).set i (b9 (BitVec.ofNat 8 i))).set (256+(b9 (BitVec.ofNat 8 i)).toNat) (BitVec.ofNat 8 i)
theorem mE (i:Nat):(cZ i).length=512:=by
 induction i with
 |zero=>rw[cZ,List.length_replicate]
 |succ i ih=>rw[cZ,List.length_set,List.length_set,ih]
theorem uQ {l:List (BitVec 8)}{i j:Nat}{x:BitVec 8}(h:i≠j):(l.set i x).getD j 0=l.getD j 0:=by
 rw[List.getD_eq_getElem?_getD,List.getElem?_set_ne h,←List.getD_eq_getElem?_getD]
theorem BU {l:List (BitVec 8)}{i:Nat}{x:BitVec 8}(h:i<l.length):(l.set i x).getD i 0=x:=by
 rw[List.getD_eq_getElem?_getD,List.getElem?_set_self h];rfl
theorem My (i:Nat)(hi:i≤256):∀ b:BitVec 8,b.toNat<i→(cZ i).getD b.toNat 0=b9 b:=by
 induction i with
 |zero=>intro b h;omega
 |succ i ih=>
  intro b h
  have hl:=mE i
  rw[cZ,uQ (by have :=b.isLt;omega)]
  by_cases e:b.toNat=i
  ·have hb:BitVec.ofNat 8 i=b:=by rw[←e];simp
   rw[e,BU (by omega),hb]
  ·rw[uQ (by omega),ih (by omega) b (by omega)]
theorem tJ (b:BitVec 8):(cZ 256).getD b.toNat 0=b9 b:=My 256 (Nat.le_refl _) b b.isLt
theorem FG:ao Tryz.prog 244 [] [] (.ptr 0 0) [some ⟨false,(cZ 256).map .u8,none⟩]:=by
 refine aR (by kernel_rfl) (fn:=Tryz.f244) Tryz.func244 rfl (by show 0≤27;decide) (ag ?_)
 simp only[go_sem,seval,Tryz.ntmps244]
 refine aH (fun ji st=>∃ i:Nat,i+ji=256∧st=⟨[(1,.ptr 0 0),(6,.i64 i)],[some ⟨false,(cZ i).map .u8,none⟩]⟩) ?_ ?_
 ·exact aX (256) ⟨[(1,.ptr 0 0),(6,.i64 (0:Nat))],[some ⟨false,(cZ (0:Nat)).map .u8,none⟩]⟩ (by simp[St.get,ae,-List.map_set,-List.map_map]) rfl (fun _ _ h=>h) ⟨0,by omega,rfl⟩
 rintro ji st ⟨i,hi,rfl⟩ _
 simp only[go_sem,seval]
 have hl:=mE i
 by_cases h0:i<256
 ·have h0':(i:Int)<256:=by omega
  have hlt:=(b9 (BitVec.ofNat 8 i)).isLt
  have hlt':((b9 (BitVec.ofNat 8 i)).toNat:Int)<256:=by omega
  have hz:(0:Int)≤((b9 (BitVec.ofNat 8 i)).toNat:Int):=by omega
  have hst:((cZ i).set i (b9 (BitVec.ofNat 8 i))).set (256+(b9 (BitVec.ofNat 8 i)).toNat) (BitVec.ofNat 8 i)=cZ (i+1):=rfl
  have g1:i<512:=by omega
  have g2:256+(b9 (BitVec.ofNat 8 i)).toNat<512:=by omega
  have hls:∀ x,((cZ i).set i x).length=512:=fun x=>by rw[List.length_set,hl]
  simp only[go_sem,seval,h0',vV]
  refine ak (Je _) ?_
  simp only[go_sem,seval,vV,h0',hlt',hz,hl,hls,hst]
  refine⟨by omega,by omega,by omega,by kernel_rfl,?_⟩
  refine aS (ji-1) ⟨[(1,.ptr 0 0),(6,.i64 (i+1:Nat))],[some ⟨false,(cZ (i+1:Nat)).map .u8,none⟩]⟩ (by omega) ?_ rfl (fun _ _ h=>h) ⟨i+1,by omega,rfl⟩
  have hw1:ai ((i:Int)+1)=((i+1:Nat):Int):=by rw[al (by omega) (by omega)];omega
  simp[St.get,ae,hw1,-List.map_set,-List.map_map]
 ·obtain rfl:i=256:=by omega
  have h0':¬ ((256:Nat):Int)<256:=by omega
  simp only[go_sem,seval]
  exact Fin.ren [0] (by simp) (by simp) (by rfl) (by decide) (by simp) (by simp)
def lu (s:List (BitVec 8)):List (BitVec 8):=s.map b9
def p2:Nat→BitVec 8
 |0=>1#8
 |k+1=>eP (p2 k) 2#8
def gW (n i:Nat)(w:List (BitVec 8)):List (BitVec 8):=if i%n=0 then aO (lu (w.drop 1++w.take 1)) (p2 (i/n-1)::List.replicate 3 0#8) else if n=8∧i%8=4 then lu w else w
def wl (key:List (BitVec 8))(n:Nat):Nat→List (List (BitVec 8))
 |0=>[]
 |i+1=>if i<n then wl key n i++[(key.drop (4*i)).take 4] else wl key n i++[aO ((wl key n i).getD (i-n) []) (gW n i ((wl key n i).getD (i-1) []))]
theorem rG (key:List (BitVec 8))(n i:Nat):(wl key n i).length=i:=by
 induction i with
 |zero=>rfl
 |succ i ih=>rw[wl];split <;>(rw[List.length_append,ih];rfl)
theorem uF (s:List (BitVec 8)):(lu s).length=s.length:=by unfold lu;rw[List.length_map]
theorem FH (n i:Nat)(w:List (BitVec 8))(h:w.length=4):(gW n i w).length=4:=by
 unfold gW
 split
 ·rw[eC,uF,List.length_append,List.length_drop,List.length_take,h];rfl
 ·split
  ·rw[uF,h]
  ·exact h
theorem oN {l:List (List (BitVec 8))}{i:Nat}(h:i<l.length):l.getD i []∈l:=by
 rw[List.getD_eq_getElem?_getD,List.getElem?_eq_getElem h];exact List.getElem_mem h
theorem yG (key:List (BitVec 8))(n:Nat)(hn:0<n)(hk:key.length=4*n)(i:Nat):∀ w∈wl key n i,w.length=4:=by
 induction i with
 |zero=>intro w h;simp[wl] at h
 |succ i ih=>
  intro w hw
  have hl:=rG key n i
  rw[wl] at hw
  split at hw
  ·rcases List.mem_append.1 hw with h|h
   ·exact ih w h
   ·rw[List.mem_singleton.1 h,List.length_take,List.length_drop];omega
  ·rcases List.mem_append.1 hw with h|h
   ·exact ih w h
   ·rw[List.mem_singleton.1 h,eC,FH _ _ _ (ih _ (oN (by omega))),ih _ (oN (by omega))];rfl
theorem yH (key:List (BitVec 8))(n:Nat)(hn:0<n)(hk:key.length=4*n)(i:Nat):(wl key n i).flatten.length=4*i:=by
 have h4:=yG key n hn hk i
 have hl:=rG key n i
 generalize wl key n i=l at*
 subst hl
 induction l with
 |nil=>rfl
 |cons x l ih=>rw[List.flatten_cons,List.length_append,h4 x (by simp),ih (fun w hw=>h4 w (by simp[hw])),List.length_cons];omega
theorem Pm (key:List (BitVec 8))(n:Nat)(hk:key.length=4*n)(i:Nat)(hi:i≤n):(wl key n i).flatten=key.take (4*i):=by
 induction i with
 |zero=>rfl
 |succ i ih=>
  rw[wl,if_pos (by omega),List.flatten_append,ih (by omega)]
  rw[show 4*(i+1)=4*i+4 by omega,List.take_add]
  simp
theorem Mz (l:List (List (BitVec 8)))(h4:∀ w∈l,w.length=4)(i k:Nat)(hi:i<l.length)(hk:k<4):l.flatten.getD (4*i+k) 0=(l.getD i []).getD k 0:=by
 induction l generalizing i with
 |nil=>simp at hi
 |cons x l ih=>
  have hx:=h4 x (by simp)
  cases i with
  |zero=>rw[List.flatten_cons,List.getD_eq_getElem?_getD,List.getElem?_append_left (by omega)];simp[List.getD_eq_getElem?_getD]
  |succ i=>
   have hi':i<l.length:=by rw[List.length_cons] at hi;omega
   rw[List.flatten_cons,List.getD_eq_getElem?_getD,List.getElem?_append_right (by omega),hx,show 4*(i+1)+k-4=4*i+k by omega,←List.getD_eq_getElem?_getD,ih (fun w hw=>h4 w (by simp[hw])) i hi']
   simp
theorem FI (l:List (List (BitVec 8)))(h4:∀ w∈l,w.length=4)(i:Nat)(hi:i<l.length):(l.flatten.drop (4*i)).take 4=l.getD i []:=by
 induction l generalizing i with
 |nil=>simp at hi
 |cons x l ih=>
  have hx:=h4 x (by simp)
  cases i with
  |zero=>rw[List.flatten_cons,Nat.mul_zero,List.drop_zero,←hx,List.take_left];rfl
  |succ i=>
   have hi':i<l.length:=by rw[List.length_cons] at hi;omega
   rw[List.flatten_cons,show 4*(i+1)=4+4*i by omega,←List.drop_drop,←hx,List.drop_left,hx,ih (fun w hw=>h4 w (by simp[hw])) i hi']
   simp
theorem yI (l:List (BitVec 8))(h:l.length=4):∃ a b c d,l=[a,b,c,d]:=by
 match l,h with
 |[a,b,c,d],_=>exact⟨a,b,c,d,rfl⟩
theorem od (w x y z a b c d:V):splice [w,x,y,z] 0 [a,b,c,d]=[a,b,c,d]:=rfl
theorem CV (key:List (BitVec 8))(n:Nat)(hn:n=4∨n=8)(hk:key.length=4*n):ao Tryz.prog 245 [.ptr 0 0,.str key] [some ⟨false,(cZ 256).map .u8,none⟩] (.str (wl key n (4*(n+7))).flatten) [some ⟨false,(cZ 256).map .u8,none⟩]:=by
 have e0:ai ((key.length:Int).tdiv 4)=(n:Int):=by rw[show(4:Int)=((4:Nat):Int) from rfl,xJ,al (by omega) (by omega)];omega
 have e1:ai ((n:Int)+7)=((n+7:Nat):Int):=by rw[al (by omega) (by omega)];omega
 have e2:ai (4*((n+7:Nat):Int))=((4*(n+7):Nat):Int):=by rw[al (by omega) (by omega)];omega
 have hw0:(wl key n n).flatten=key:=by rw[Pm key n hk n (Nat.le_refl n),←hk,List.take_length]
 generalize hN:4*(n+7)=N at*
 have hT:=tJ
 have hTl:=mE 256
 generalize cZ 256=T at*
 have hks:key.length≤1000:=by omega
 have hnn:(n-1)/n=0:=by rcases hn with rfl|rfl<;>rfl
 refine aR (by kernel_rfl) (fn:=Tryz.f245) Tryz.func245 rfl (by show 2≤117;decide) (ag ?_)
 simp only[go_sem,↓reduceIte,Nat.reduceEqDiff,Nat.reduceLT,Int.reduceLE,Int.reduceLT,Int.reduceEq,BitVec.reduceOfInt,Tryz.ntmps245,e0]
 refine⟨by omega,?_⟩
 refine aH (fun j st=>∃ i:Nat,i+j=N∧n≤i∧st=⟨[(0,.ptr 0 0),(5,.i64 n),(6,.slice 1 0 (4*i) 1),(7,.u8 (p2 ((i-1)/n))),(8,.i64 i)],[some ⟨false,T.map .u8,none⟩,some ⟨false,(wl key n i).flatten.map .u8,none⟩]⟩) ?_ ?_
 ·exact aX (N-n) ⟨[(0,.ptr 0 0),(5,.i64 n),(6,.slice 1 0 (4*n) 1),(7,.u8 (p2 ((n-1)/n))),(8,.i64 n)],[some ⟨false,T.map .u8,none⟩,some ⟨false,(wl key n n).flatten.map .u8,none⟩]⟩ (by simp[St.get,ae,hnn,p2,hk]) rfl (by rw[hw0];exact fun _ _ h=>h) ⟨n,by omega,by omega,rfl⟩
 rintro j st ⟨i,hi,hni,rfl⟩ _
 have hwl:=rG key n i
 have hw4:=yG key n (by omega) hk i
 have hfl:=yH key n (by omega) hk i
 have hw1:ai ((i:Int)+1)=((i+1:Nat):Int):=by rw[al (by omega) (by omega)];omega
 by_cases hiN:i<N
 ·have hiN':(i:Int)<(N:Int):=by omega
  have z1:ai (((4*i:Nat):Int)-4)=((4*(i-1):Nat):Int):=by rw[al (by omega) (by omega)];omega
  have z2:((4*(i-1):Nat):Int)≤((4*i:Nat):Int):=by omega
  have z4:(0:Int)≤((4*(i-1):Nat):Int):=by omega
  have z5:4*i-4*(i-1)=4:=by omega
  have z6:(((4*i:Nat):Int)-((4*(i-1):Nat):Int)).toNat=4:=by omega
  have z7:4*(i-1)+4≤4*i:=by omega
  have n0:¬ (n:Int)=0:=by omega
  have tm:(i:Int).tmod (n:Int)=((i%n:Nat):Int):=rfl
  have hi1:i-1<(wl key n i).length:=by omega
  have hi2:i-n<(wl key n i).length:=by omega
  have hd:=FI (wl key n i) hw4 (i-1) hi1
  have w1:=hw4 _ (oN hi1)
  have w2:=hw4 _ (oN hi2)
  have hfa:=fun k hk=>Mz (wl key n i) hw4 (i-n) k hi2 hk
  obtain⟨l,hle⟩:∃ l,l=(wl key n i).getD (i-1) []:=⟨_,rfl⟩
  obtain⟨r,hre⟩:∃ r,r=(wl key n i).getD (i-n) []:=⟨_,rfl⟩
  rw[←hle] at w1 hd
  rw[←hre] at w2 hfa
  have hs0:wl key n (i+1)=wl key n i++[aO r (gW n i l)]:=by rw[wl,if_neg (by omega),←hle,←hre]
  have hs1:(wl key n (i+1)).flatten=(wl key n i).flatten++aO r (gW n i l):=by rw[hs0,List.flatten_append];simp
  obtain⟨a,b,c,d,rfl⟩:=yI l w1
  obtain⟨x0,x1,x2,x3,rfl⟩:=yI r w2
  have hT':∀ b:BitVec 8,(T.map V.u8).getD b.toNat .junk= .u8 (b9 b):=fun b=>by rw[dT (by have :=b.isLt;omega),hT]
  have hb1:∀ b:BitVec 8,(b.toNat:Int)<256:=fun b=>by have :=b.isLt;omega
  have hb2:∀ b:BitVec 8,(0:Int)≤(b.toNat:Int):=fun b=>by omega
  have hb3:∀ b:BitVec 8,b.toNat<512:=fun b=>by have :=b.isLt;omega
  have hb4:∀ b:BitVec 8,b.toNat<256:=fun b=>by have :=b.isLt;omega
  generalize hfg:(wl key n i).flatten=w at*
  have y0:ai ((i:Int)-(n:Int))=((i-n:Nat):Int):=by rw[al (by omega) (by omega)];omega
  have y1:ai (4*((i-n:Nat):Int))=((4*(i-n):Nat):Int):=by rw[al (by omega) (by omega)];omega
  have y2:ai (((4*(i-n):Nat):Int)+0)=((4*(i-n):Nat):Int):=by rw[al (by omega) (by omega)];omega
  have y3:ai (((4*(i-n):Nat):Int)+1)=((4*(i-n)+1:Nat):Int):=by rw[al (by omega) (by omega)];omega
  have y4:ai (((4*(i-n):Nat):Int)+2)=((4*(i-n)+2:Nat):Int):=by rw[al (by omega) (by omega)];omega
  have y5:ai (((4*(i-n):Nat):Int)+3)=((4*(i-n)+3:Nat):Int):=by rw[al (by omega) (by omega)];omega
  have k0:4*(i-n)<w.length:=by omega
  have k1:4*(i-n)<4*i:=by omega
  have k2:((4*(i-n):Nat):Int)<((4*i:Nat):Int):=by omega
  have k3:(0:Int)≤((4*(i-n):Nat):Int):=by omega
  have g0:w.getD (4*(i-n)) 0=x0:=hfa 0 (by decide)
  have hG:∀ k,k<4→∀ ys:List (BitVec 8),(List.map V.u8 (w++ys)).getD (4*(i-n)+k) .junk= .u8 ([x0,x1,x2,x3].getD k 0):=by
   intro k hk ys
   have hlt:4*(i-n)+k<w.length:=by omega
   rw[dT (by rw[List.length_append];omega),List.getD_eq_getElem?_getD,List.getElem?_append_left hlt,←List.getD_eq_getElem?_getD,hfa k hk]
  have g1:=hG 1 (by decide)
  have g2:=hG 2 (by decide)
  have g3:=hG 3 (by decide)
  have htk:w.take (4*i)=w:=List.take_of_length_le (by omega)
  have k4:4*(i-n)+1<4*i:=by omega
  have k5:4*(i-n)+2<4*i:=by omega
  have k6:4*(i-n)+3<4*i:=by omega
  by_cases hm0:i%n=0
  ·have hm0':((i%n:Nat):Int)=0:=by omega
   have hq:(i-1)/n=i/n-1:=by rcases hn with rfl|rfl<;>omega
   have hq1:i/n=(i/n-1)+1:=by rcases hn with rfl|rfl<;>omega
   have hp:p2 (i/n)=eP (p2 (i/n-1)) 2#8:=by rw[hq1];rfl
   have hg:gW n i [a,b,c,d]=[b9 b ^^^ p2 (i/n-1),b9 c,b9 d,b9 a]:=by unfold gW;rw[if_pos hm0];simp[lu,aO]
   rw[hq]
   simp only[go_sem,↓reduceIte,Nat.reduceEqDiff,Nat.reduceLT,Nat.reduceAdd,Int.reduceLT,Int.reduceToNat,reduceCtorEq,e1,e2,hiN',hfl,z1,z2,z4,z6,z7,n0,tm,hm0',hd,od]
   refine bI 4 ?_
   simp only[go_sem,↓reduceIte,Nat.reduceEqDiff,Nat.reduceLT,Nat.reduceLeDiff,Nat.reduceAdd,Nat.reduceSub,Int.reduceLE,Int.reduceLT,Int.reduceToNat,Int.reduceAdd,Int.reduceNeg,BitVec.reduceOfInt,reduceCtorEq,hT',hb1,hb2,hb3,hTl]
   refine⟨by kernel_rfl,by kernel_rfl,by kernel_rfl,?_⟩
   refine ak (jL _ _) ?_
   simp only[go_sem,↓reduceIte,Nat.reduceEqDiff,Nat.reduceLT,Nat.reduceAdd,←hp]
   refine bI 5 ?_
   simp only[go_sem,↓reduceIte,Nat.reduceEqDiff,Nat.reduceLT,Nat.reduceLeDiff,Nat.reduceAdd,Nat.reduceSub,Int.reduceLE,Int.reduceLT,Int.reduceToNat,Int.reduceAdd,Int.reduceNeg,reduceCtorEq,y0,y1,y2,y3,y4,y5,k1,k2,k3,dT k0,g0,hfl,List.append_assoc,g1,g2,g3,List.take_of_length_le]
   refine⟨⟨by omega,by omega⟩,⟨by omega,by omega⟩,by omega,⟨by omega,by omega⟩,⟨by omega,by omega⟩,by omega,⟨by omega,by omega⟩,⟨by omega,by omega⟩,by omega,⟨by omega,by omega⟩,?_⟩
   refine db (j-1) ⟨[(0,.ptr 0 0),(5,.i64 n),(6,.slice 1 0 (4*(i+1:Nat)) 1),(7,.u8 (p2 (((i+1:Nat)-1)/n))),(8,.i64 (i+1:Nat))],[some ⟨false,T.map .u8,none⟩,some ⟨false,(wl key n (i+1:Nat)).flatten.map .u8,none⟩]⟩ [0,10] (by omega) rfl (by simp) rfl (by decide) ?_ ?_ ⟨i+1,by omega,by omega,rfl⟩
   ·rw[show(i+1-1)/n=i/n by rw[Nat.add_sub_cancel]]
    simp[cp,St.get,ae,hw1,hp,Nat.mul_add,-List.map_map,-List.map_set]
   ·rw[hs1,hg]
    simp[aO,-List.map_map,-List.map_set]
  ·have hm0':¬ ((i%n:Nat):Int)=0:=by omega
   have hq:(i-1)/n=i/n:=by rcases hn with rfl|rfl<;>omega
   rw[hq]
   by_cases hn8:n=8
   ·have hn8':((n:Int)=8)=True:=eq_true (by omega)
    by_cases h4:i%n=4
    ·have h4':((i%n:Nat):Int)=4:=by omega
     have hg:gW n i [a,b,c,d]=[b9 a,b9 b,b9 c,b9 d]:=by unfold gW;rw[if_neg hm0,if_pos ⟨hn8,hn8▸h4⟩];simp[lu]
     simp only[go_sem,↓reduceIte,Nat.reduceEqDiff,Nat.reduceLT,Nat.reduceAdd,Int.reduceEq,reduceCtorEq,e1,e2,hiN',hfl,z1,z2,z4,z6,z7,n0,tm,hd,od,hn8',h4']
     refine bI 5 ?_
     simp only[go_sem,↓reduceIte,Nat.reduceEqDiff,Nat.reduceLT,Nat.reduceLeDiff,Nat.reduceAdd,Nat.reduceSub,Int.reduceLE,Int.reduceLT,Int.reduceToNat,Int.reduceAdd,Int.reduceNeg,reduceCtorEq,hT',hb1,hb2,hb3,hTl]
     refine bI 5 ?_
     simp only[go_sem,↓reduceIte,Nat.reduceEqDiff,Nat.reduceLT,Nat.reduceLeDiff,Nat.reduceAdd,Nat.reduceSub,Int.reduceLE,Int.reduceLT,Int.reduceToNat,Int.reduceAdd,Int.reduceNeg,reduceCtorEq,y0,y1,y2,y3,y4,y5,k1,k2,k3,dT k0,g0,hfl,List.append_assoc,g1,g2,g3,List.take_of_length_le]
     refine⟨⟨by omega,by omega⟩,⟨by omega,by omega⟩,by omega,⟨by omega,by omega⟩,⟨by omega,by omega⟩,by omega,⟨by omega,by omega⟩,⟨by omega,by omega⟩,by omega,⟨by omega,by omega⟩,?_⟩
     refine db (j-1) ⟨[(0,.ptr 0 0),(5,.i64 n),(6,.slice 1 0 (4*(i+1:Nat)) 1),(7,.u8 (p2 (((i+1:Nat)-1)/n))),(8,.i64 (i+1:Nat))],[some ⟨false,T.map .u8,none⟩,some ⟨false,(wl key n (i+1:Nat)).flatten.map .u8,none⟩]⟩ [0,10] (by omega) rfl (by simp) rfl (by decide) ?_ ?_ ⟨i+1,by omega,by omega,rfl⟩
     ·rw[show(i+1-1)/n=i/n by rw[Nat.add_sub_cancel]]
      simp[cp,St.get,ae,hw1,List.length_nil,Nat.mul_add,-List.map_map,-List.map_set]
     ·rw[hs1,hg]
      simp[aO,-List.map_map,-List.map_set]
    ·have h4':¬ ((i%n:Nat):Int)=4:=by omega
     have hg:gW n i [a,b,c,d]=[a,b,c,d]:=by unfold gW;rw[if_neg hm0,if_neg (fun h=>h4 (by rw[hn8];exact h.2))]
     simp only[go_sem,↓reduceIte,Nat.reduceEqDiff,Nat.reduceLT,Nat.reduceAdd,reduceCtorEq,e1,e2,hiN',hfl,z1,z2,z4,z6,z7,n0,tm,hm0',hd,od,hn8',h4']
     refine bI 5 ?_
     simp only[go_sem,↓reduceIte,Nat.reduceEqDiff,Nat.reduceLT,Nat.reduceLeDiff,Nat.reduceAdd,Nat.reduceSub,Int.reduceLE,Int.reduceLT,Int.reduceToNat,Int.reduceAdd,Int.reduceNeg,reduceCtorEq,y0,y1,y2,y3,y4,y5,k1,k2,k3,dT k0,g0,hfl,List.append_assoc,g1,g2,g3,List.take_of_length_le]
     refine⟨⟨by omega,by omega⟩,⟨by omega,by omega⟩,by omega,⟨by omega,by omega⟩,⟨by omega,by omega⟩,by omega,⟨by omega,by omega⟩,⟨by omega,by omega⟩,by omega,⟨by omega,by omega⟩,?_⟩
     refine db (j-1) ⟨[(0,.ptr 0 0),(5,.i64 n),(6,.slice 1 0 (4*(i+1:Nat)) 1),(7,.u8 (p2 (((i+1:Nat)-1)/n))),(8,.i64 (i+1:Nat))],[some ⟨false,T.map .u8,none⟩,some ⟨false,(wl key n (i+1:Nat)).flatten.map .u8,none⟩]⟩ [0,10] (by omega) rfl (by simp) rfl (by decide) ?_ ?_ ⟨i+1,by omega,by omega,rfl⟩
     ·rw[show(i+1-1)/n=i/n by rw[Nat.add_sub_cancel]]
      simp[cp,St.get,ae,hw1,List.length_nil,Nat.mul_add,-List.map_map,-List.map_set]
     ·rw[hs1,hg]
      simp[aO,-List.map_map,-List.map_set]
   ·have hn8':¬ (n:Int)=8:=by omega
    have hg:gW n i [a,b,c,d]=[a,b,c,d]:=by unfold gW;rw[if_neg hm0,if_neg (fun h=>hn8 h.1)]
    simp only[go_sem,↓reduceIte,Nat.reduceEqDiff,Nat.reduceLT,Nat.reduceAdd,reduceCtorEq,e1,e2,hiN',hfl,z1,z2,z4,z6,z7,n0,tm,hm0',hd,od,hn8']
    refine bI 5 ?_
    simp only[go_sem,↓reduceIte,Nat.reduceEqDiff,Nat.reduceLT,Nat.reduceLeDiff,Nat.reduceAdd,Nat.reduceSub,Int.reduceLE,Int.reduceLT,Int.reduceToNat,Int.reduceAdd,Int.reduceNeg,reduceCtorEq,y0,y1,y2,y3,y4,y5,k1,k2,k3,dT k0,g0,hfl,List.append_assoc,g1,g2,g3,List.take_of_length_le]
    refine⟨⟨by omega,by omega⟩,⟨by omega,by omega⟩,by omega,⟨by omega,by omega⟩,⟨by omega,by omega⟩,by omega,⟨by omega,by omega⟩,⟨by omega,by omega⟩,by omega,⟨by omega,by omega⟩,?_⟩
    refine db (j-1) ⟨[(0,.ptr 0 0),(5,.i64 n),(6,.slice 1 0 (4*(i+1:Nat)) 1),(7,.u8 (p2 (((i+1:Nat)-1)/n))),(8,.i64 (i+1:Nat))],[some ⟨false,T.map .u8,none⟩,some ⟨false,(wl key n (i+1:Nat)).flatten.map .u8,none⟩]⟩ [0,10] (by omega) rfl (by simp) rfl (by decide) ?_ ?_ ⟨i+1,by omega,by omega,rfl⟩
    ·rw[show(i+1-1)/n=i/n by rw[Nat.add_sub_cancel]]
     simp[cp,St.get,ae,hw1,List.length_nil,Nat.mul_add,-List.map_map,-List.map_set]
    ·rw[hs1,hg]
     simp[aO,-List.map_map,-List.map_set]
 ·obtain rfl:i=N:=by omega
  have hiN':¬ (i:Int)<(i:Int):=by omega
  simp only[go_sem,↓reduceIte,Nat.reduceEqDiff,Nat.reduceLT,reduceCtorEq,e1,e2,hiN',hfl,List.take_of_length_le]
  exact Fin.ren [0] (by simp) (by simp) (by rfl) (by decide) (by simp[-List.map_map,-List.map_set]) (by simp[-List.map_map,-List.map_set])
theorem D2 (key:List (BitVec 8)):am Tryz.prog 243 [.str key] (.bool (decide (key.length=16∨key.length=32))):=by
 by_cases h16:key.length=16
 ·have h1:(key.length:Int)=16:=by omega
  have hd:decide (key.length=16∨key.length=32)=true:=by simp[h16]
  rw[hd]
  refine aw (by kernel_rfl) (fn:=Tryz.f243) (by kernel_rfl) Tryz.func243 rfl (by show 1≤11;decide) (by simp[ac,V.low]) (by simp[V.low]) (ag ?_)
  simp only[go_sem,seval,Tryz.ntmps243,Tryz.results243,h1]
 ·have h1:¬ (key.length:Int)=16:=by omega
  by_cases h32:key.length=32
  ·have h2:(key.length:Int)=32:=by omega
   have h3:¬ (32:Int)=16:=by decide
   have hd:decide (key.length=16∨key.length=32)=true:=by simp[h32]
   rw[hd]
   refine aw (by kernel_rfl) (fn:=Tryz.f243) (by kernel_rfl) Tryz.func243 rfl (by show 1≤11;decide) (by simp[ac,V.low]) (by simp[V.low]) (ag ?_)
   simp only[go_sem,seval,Tryz.ntmps243,Tryz.results243,h2,h3]
  ·have h2:¬ (key.length:Int)=32:=by omega
   have hd:decide (key.length=16∨key.length=32)=false:=by simp[h16,h32]
   rw[hd]
   refine aw (by kernel_rfl) (fn:=Tryz.f243) (by kernel_rfl) Tryz.func243 rfl (by show 1≤11;decide) (by simp[ac,V.low]) (by simp[V.low]) (ag ?_)
   simp only[go_sem,seval,Tryz.ntmps243,Tryz.results243,h1,h2]
end Go.Vm
end
section
namespace Go.Vm
section
open Go.Proofs Go.RowKit
theorem rZ (s k:List (BitVec 8))(hs:s.length=16)(hk:16≤k.length)(hk2:k.length≤1000):ao Tryz.prog 256 [.ptr 0 0,.str k] [some ⟨false,s.map .u8,none⟩] (.tup []) [some ⟨false,(aO s k).map .u8,none⟩]:=by
 have hx:=oU s k (by omega) (by omega)
 have hl:(aO s k).length=16:=by rw[eC];omega
 have hsp:splice (s.map V.u8) 0 (List.take 16 (List.map V.u8 (aO s k)))=(aO s k).map V.u8:=by rw[List.take_of_length_le (by rw[List.length_map,hl];exact Nat.le_refl _),bd _ _ (by rw[List.length_map,List.length_map,hl,hs])]
 refine aR (by kernel_rfl) (fn:=Tryz.f256) Tryz.func256 rfl (by show 2≤14;decide) (ag ?_)
 simp only[go_sem,↓reduceIte,Nat.reduceEqDiff,Nat.reduceLT,Int.reduceLE,Int.reduceToNat,Int.reduceSub,reduceCtorEq,Tryz.ntmps256,hs,List.take_of_length_le]
 refine aC (hx) ?_
 simp only[go_sem,↓reduceIte,Nat.reduceEqDiff,Nat.reduceLT,hl,hs]
 refine⟨by kernel_rfl,?_⟩
 exact Fin.ren [0] (by simp) (by simp) (by rfl) (by decide) (by simp[-List.map_map,-List.map_set]) (by simp[-List.map_map,-List.map_set,hsp])
def dE (a b:List (BitVec 8))(i:Nat):List (BitVec 8):=a.take i++b.drop i
theorem qv (a b:List (BitVec 8))(i:Nat)(h:a.length=b.length):(dE a b i).length=b.length:=by
 unfold dE;rw[List.length_append,List.length_take,List.length_drop];omega
theorem rH (a b:List (BitVec 8))(i:Nat)(h:a.length=b.length)(hi:i<b.length):(dE a b i).set i (a.getD i 0)=dE a b (i+1):=by
 unfold dE
 rw[List.set_append_right _ _ (by rw[List.length_take];omega),List.length_take,show i-min i a.length=0 by omega,List.drop_eq_getElem_cons hi,List.set_cons_zero,oJ (by omega),List.append_assoc];rfl
theorem MA (a b:List (BitVec 8))(i k:Nat)(h:a.length=b.length)(hk:i≤k)(hkb:k<b.length):(dE a b i).getD k 0=b.getD k 0:=by
 unfold dE
 rw[List.getD_eq_getElem?_getD,List.getElem?_append_right (by rw[List.length_take];omega),List.length_take,List.getElem?_drop,show i+(k-min i a.length)=k by omega,←List.getD_eq_getElem?_getD]
theorem sa (a b:List (BitVec 8))(h:a.length=b.length):dE a b b.length=a:=by
 unfold dE;rw[List.drop_length,List.append_nil,←h,List.take_length]
theorem FJ (f:BitVec 8→BitVec 8)(s:List (BitVec 8))(i:Nat)(h:i<s.length):(s.map f).getD i 0=f (s.getD i 0):=by
 rw[List.getD_eq_getElem?_getD,List.getD_eq_getElem?_getD,List.getElem?_map,List.getElem?_eq_getElem h];rfl
theorem BV (s T:List (BitVec 8))(o:Nat)(f:BitVec 8→BitVec 8)(hs:s.length=16)(hT:T.length=512)(ho:o≤256)(hf:∀ b:BitVec 8,T.getD (o+b.toNat) 0=f b):ao Tryz.prog 257 [.ptr 0 0,.ptr 1 o] [some ⟨false,s.map .u8,none⟩,some ⟨false,T.map .u8,none⟩] (.tup []) [some ⟨false,(s.map f).map .u8,none⟩,some ⟨false,T.map .u8,none⟩]:=by
 have hf':∀ b:BitVec 8,(T.map V.u8).getD (o+b.toNat) .junk= .u8 (f b):=fun b=>by rw[dT (by have :=b.isLt;omega),hf]
 have hb1:∀ b:BitVec 8,(b.toNat:Int)<256:=fun b=>by have :=b.isLt;omega
 have hb2:∀ b:BitVec 8,(0:Int)≤(b.toNat:Int):=fun b=>by omega
 have hb3:∀ b:BitVec 8,o+b.toNat<512:=fun b=>by have :=b.isLt;omega
 have hml:(s.map f).length=s.length:=List.length_map ..
 refine aR (by kernel_rfl) (fn:=Tryz.f257) Tryz.func257 rfl (by show 2≤23;decide) (ag ?_)
 simp only[go_sem,↓reduceIte,Nat.reduceLT,Nat.reduceAdd,Tryz.ntmps257]
 refine aH (fun ji st=>∃ i:Nat,i+ji=16∧st=⟨[(0,.ptr 0 0),(1,.ptr 1 o),(6,.ptr 0 0),(7,.i64 i)],[some ⟨false,(dE (s.map f) s i).map .u8,none⟩,some ⟨false,T.map .u8,none⟩]⟩) ?_ ?_
 ·exact aX (16) ⟨[(0,.ptr 0 0),(1,.ptr 1 o),(6,.ptr 0 0),(7,.i64 (0:Nat))],[some ⟨false,(dE (s.map f) s (0:Nat)).map .u8,none⟩,some ⟨false,T.map .u8,none⟩]⟩ (by simp[St.get,ae,-List.map_set,-List.map_map]) rfl (fun _ _ h=>h) ⟨0,by omega,rfl⟩
 rintro ji st ⟨i,hi,rfl⟩ _
 simp only[go_sem,↓reduceIte,Nat.reduceEqDiff,Nat.reduceLT,Nat.reduceAdd,reduceCtorEq]
 have hl:=qv (s.map f) s i hml
 rw[hs] at hl
 by_cases h0:i<16
 ·have h0':(i:Int)<16:=by omega
  have zi:(0:Int)≤(i:Int):=by omega
  have ki:i<(dE (s.map f) s i).length:=by omega
  have ha:=MA (s.map f) s i i hml (Nat.le_refl _) (by omega)
  have hn:=rH (s.map f) s i hml (by omega)
  rw[FJ f s i (by omega)] at hn
  simp only[go_sem,↓reduceIte,Nat.reduceEqDiff,Nat.reduceLT,Nat.reduceLeDiff,Nat.reduceAdd,reduceCtorEq,h0',h0,zi,hl,hT,dT ki,ha,hf',hb1,hb2,hb3,hn]
  refine⟨by kernel_rfl,by omega,by kernel_rfl,?_⟩
  refine aS (ji-1) ⟨[(0,.ptr 0 0),(1,.ptr 1 o),(6,.ptr 0 0),(7,.i64 (i+1:Nat))],[some ⟨false,(dE (s.map f) s (i+1:Nat)).map .u8,none⟩,some ⟨false,T.map .u8,none⟩]⟩ (by omega) ?_ rfl (fun _ _ h=>h) ⟨i+1,by omega,rfl⟩
  have hw1:ai ((i:Int)+1)=((i+1:Nat):Int):=by rw[al (by omega) (by omega)];omega
  simp[St.get,ae,hw1,-List.map_set,-List.map_map]
 ·obtain rfl:i=16:=by omega
  have h0':¬ ((16:Nat):Int)<16:=by omega
  have he:=sa (s.map f) s hml
  rw[hs] at he
  simp only[go_sem,↓reduceIte,Int.reduceLT,he]
  exact Fin.ren [0,1] (by simp) (by simp) (by rfl) (by decide) (by simp[-List.map_map,-List.map_set]) (by simp[-List.map_map,-List.map_set])
def lV (f:Nat→BitVec 8):List (BitVec 8):=(List.range 16).map f
theorem oe (f:Nat→BitVec 8):(lV f).length=16:=by unfold lV;rw[List.length_map,List.length_range]
theorem xd (f:Nat→BitVec 8)(i:Nat)(h:i<16):(lV f).getD i 0=f i:=by
 unfold lV
 rw[List.getD_eq_getElem?_getD,List.getElem?_map,List.getElem?_range h];rfl
def dx (k:Nat)(s:List (BitVec 8)):List (BitVec 8):=lV fun i=>s.getD (i%4+4*((i/4+k*(i%4))%4)) 0
theorem FK (s:List (BitVec 8))(k:Nat)(hs:s.length=16)(hk:k≤3):ao Tryz.prog 258 [.ptr 0 0,.i64 k] [some ⟨false,s.map .u8,none⟩] (.tup []) [some ⟨false,(dx k s).map .u8,none⟩]:=by
 have hml:(dx k s).length=s.length:=by rw[hs];exact oe _
 have hsp:∀ z:List V,z.length=16→splice z 0 (s.map V.u8)=s.map V.u8:=fun z hz=>bd _ _ (by rw[List.length_map,hs,hz])
 have hsp':=hsp [.u8 0#8,.u8 0#8,.u8 0#8,.u8 0#8,.u8 0#8,.u8 0#8,.u8 0#8,.u8 0#8,.u8 0#8,.u8 0#8,.u8 0#8,.u8 0#8,.u8 0#8,.u8 0#8,.u8 0#8,.u8 0#8] rfl
 have htk:List.take 16 (s.map V.u8)=s.map V.u8:=List.take_of_length_le (by rw[List.length_map,hs];exact Nat.le_refl _)
 refine aR (by kernel_rfl) (fn:=Tryz.f258) Tryz.func258 rfl (by show 2≤34;decide) (ag ?_)
 simp only[go_sem,↓reduceIte,Nat.reduceEqDiff,Nat.reduceLT,Nat.reduceAdd,Tryz.ntmps258,hs,htk,hsp']
 refine aH (fun ji st=>∃ i:Nat,i+ji=16∧st=⟨[(0,.ptr 0 0),(1,.i64 k),(4,.ptr 1 0),(11,.i64 i)],[some ⟨false,(dE (dx k s) s i).map .u8,none⟩,some ⟨false,s.map .u8,none⟩]⟩) ?_ ?_
 ·exact aX (16) ⟨[(0,.ptr 0 0),(1,.i64 k),(4,.ptr 1 0),(11,.i64 (0:Nat))],[some ⟨false,(dE (dx k s) s (0:Nat)).map .u8,none⟩,some ⟨false,s.map .u8,none⟩]⟩ (by simp[St.get,ae,-List.map_set,-List.map_map]) rfl (fun _ _ h=>h) ⟨0,by omega,rfl⟩
 rintro ji st ⟨i,hi,rfl⟩ _
 simp only[go_sem,↓reduceIte,Nat.reduceEqDiff,Nat.reduceLT,Nat.reduceAdd,Int.reduceEq,reduceCtorEq]
 have hl:=qv (dx k s) s i hml
 rw[hs] at hl
 by_cases h0:i<16
 ·have h0':(i:Int)<16:=by omega
  have zi:(0:Int)≤(i:Int):=by omega
  have hkr:k*(i%4)≤3*3:=Nat.mul_le_mul hk (by omega)
  have hn:=rH (dx k s) s i hml (by omega)
  have t1:(i:Int).tmod 4=((i%4:Nat):Int):=rfl
  have t2:(i:Int).tdiv 4=((i/4:Nat):Int):=rfl
  have t2':ai ((i/4:Nat):Int)=((i/4:Nat):Int):=by rw[al (by omega) (by omega)]
  have t3:ai ((k:Int)*((i%4:Nat):Int))=((k*(i%4):Nat):Int):=by rw[show(k:Int)*((i%4:Nat):Int)=((k*(i%4):Nat):Int) from rfl,al (by omega) (by omega)]
  have t4:ai (((i/4:Nat):Int)+((k*(i%4):Nat):Int))=((i/4+k*(i%4):Nat):Int):=by rw[al (by omega) (by omega)];omega
  have t5:((i/4+k*(i%4):Nat):Int).tmod 4=(((i/4+k*(i%4))%4:Nat):Int):=rfl
  generalize hq:(i/4+k*(i%4))%4=q at*
  have t6:ai (4*(q:Int))=((4*q:Nat):Int):=by rw[al (by omega) (by omega)];omega
  have t7:ai (((i%4:Nat):Int)+((4*q:Nat):Int))=((i%4+4*q:Nat):Int):=by rw[al (by omega) (by omega)];omega
  have z1:(0:Int)≤((i%4+4*q:Nat):Int):=by omega
  have z2:((i%4+4*q:Nat):Int)<16:=by omega
  have z3:i%4+4*q<16:=by omega
  have z4:i%4+4*q<s.length:=by omega
  have hv:(dx k s).getD i 0=s.getD (i%4+4*q) 0:=by unfold dx;rw[xd _ i h0,hq]
  rw[hv] at hn
  simp only[go_sem,↓reduceIte,Nat.reduceEqDiff,Nat.reduceLT,Nat.reduceLeDiff,Nat.reduceAdd,reduceCtorEq,h0',zi,hl,hs,t1,t2,t2',t3,t4,t5,t6,t7,z1,z2,z3,dT z4,hn]
  refine⟨by omega,by kernel_rfl,?_⟩
  refine aS (ji-1) ⟨[(0,.ptr 0 0),(1,.i64 k),(4,.ptr 1 0),(11,.i64 (i+1:Nat))],[some ⟨false,(dE (dx k s) s (i+1:Nat)).map .u8,none⟩,some ⟨false,s.map .u8,none⟩]⟩ (by omega) ?_ rfl (fun _ _ h=>h) ⟨i+1,by omega,rfl⟩
  have hw1:ai ((i:Int)+1)=((i+1:Nat):Int):=by rw[al (by omega) (by omega)];omega
  simp[St.get,ae,hw1,-List.map_set,-List.map_map]
 ·obtain rfl:i=16:=by omega
  have h0':¬ ((16:Nat):Int)<16:=by omega
  have he:=sa (dx k s) s hml
  rw[hs] at he
  simp only[go_sem,↓reduceIte,Int.reduceLT,he]
  exact Fin.ren [0] (by simp) (by simp) (by rfl) (by decide) (by simp[-List.map_map,-List.map_set]) (by simp[-List.map_map,-List.map_set])
def mp (m s:List (BitVec 8))(i k:Nat):BitVec 8:=eP (m.getD ((k+4-i%4)%4) 0) (s.getD (4*(i/4)+k) 0)
def dZ (m s:List (BitVec 8)):List (BitVec 8):=lV fun i=>0#8 ^^^ mp m s i 0 ^^^ mp m s i 1 ^^^ mp m s i 2 ^^^ mp m s i 3
theorem Bi (l:List (BitVec 8))(i:Nat)(x:BitVec 8)(h:i<l.length):(l.set i x).getD i 0=x:=by
 rw[List.getD_eq_getElem?_getD,List.getElem?_set_self h];rfl
theorem BW (s:List (BitVec 8))(m:List (BitVec 8))(hs:s.length=16)(hm:m.length=4):ao Tryz.prog 259 [.ptr 0 0,.agg (m.map .u8)] [some ⟨false,s.map .u8,none⟩] (.tup []) [some ⟨false,(dZ m s).map .u8,none⟩]:=by
 have hml:(dZ m s).length=s.length:=by rw[hs];exact oe _
 have hsp':splice [.u8 0#8,.u8 0#8,.u8 0#8,.u8 0#8,.u8 0#8,.u8 0#8,.u8 0#8,.u8 0#8,.u8 0#8,.u8 0#8,.u8 0#8,.u8 0#8,.u8 0#8,.u8 0#8,.u8 0#8,.u8 0#8] 0 (s.map V.u8)=s.map V.u8:=bd _ _ (by rw[List.length_map,hs];rfl)
 have htk:List.take 16 (s.map V.u8)=s.map V.u8:=List.take_of_length_le (by rw[List.length_map,hs];exact Nat.le_refl _)
 refine aR (by kernel_rfl) (fn:=Tryz.f259) Tryz.func259 rfl (by show 2≤50;decide) (ag ?_)
 simp only[go_sem,↓reduceIte,Nat.reduceEqDiff,Nat.reduceLT,Nat.reduceAdd,reduceCtorEq,Tryz.ntmps259,hs,htk,hsp']
 refine aH (fun ji st=>∃ i:Nat,i+ji=16∧st=⟨[(0,.ptr 0 0),(3,.ptr 1 0),(4,.ptr 2 0),(12,.i64 i)],[some ⟨false,(dE (dZ m s) s i).map .u8,none⟩,some ⟨false,m.map .u8,none⟩,some ⟨false,s.map .u8,none⟩]⟩) ?_ ?_
 ·exact aX (16) ⟨[(0,.ptr 0 0),(3,.ptr 1 0),(4,.ptr 2 0),(12,.i64 (0:Nat))],[some ⟨false,(dE (dZ m s) s (0:Nat)).map .u8,none⟩,some ⟨false,m.map .u8,none⟩,some ⟨false,s.map .u8,none⟩]⟩ (by simp[St.get,ae,-List.map_set,-List.map_map]) rfl (fun _ _ h=>h) ⟨0,by omega,rfl⟩
 rintro ji st ⟨i,hi,rfl⟩ _
 simp only[go_sem,↓reduceIte,Nat.reduceEqDiff,Nat.reduceLT,Int.reduceLT,Int.reduceEq,BitVec.reduceOfInt,reduceCtorEq]
 have hl:=qv (dZ m s) s i hml
 rw[hs] at hl
 by_cases h0:i<16
 ·have h0':(i:Int)<16:=by omega
  have zi:(0:Int)≤(i:Int):=by omega
  have hn:=rH (dZ m s) s i hml (by omega)
  have t1:(i:Int).tmod 4=((i%4:Nat):Int):=rfl
  have t2:(i:Int).tdiv 4=((i/4:Nat):Int):=rfl
  have t2':ai ((i/4:Nat):Int)=((i/4:Nat):Int):=by rw[al (by omega) (by omega)]
  have hv:(dZ m s).getD i 0=0#8 ^^^ mp m s i 0 ^^^ mp m s i 1 ^^^ mp m s i 2 ^^^ mp m s i 3:=by unfold dZ;rw[xd _ i h0]
  rw[hv] at hn
  have a0:ai ((0:Int)-((i%4:Nat):Int))=(0:Int)-((i%4:Nat):Int):=al (by omega) (by omega)
  have b0:ai ((0:Int)-((i%4:Nat):Int)+4)=((4-i%4:Nat):Int):=by rw[al (by omega) (by omega)];omega
  have c0:ai (((4*(i/4):Nat):Int)+0)=((4*(i/4):Nat):Int):=by rw[al (by omega) (by omega)];omega
  have w0:(((4*(i/4):Nat):Int)<16)=True:=eq_true (by omega)
  have x0:(4*(i/4)<16)=True:=eq_true (by omega)
  have e0:(s.map V.u8).getD (4*(i/4)) .junk= .u8 (s.getD (4*(i/4)) 0):=dT (by omega)
  have p0:eP (m.getD ((4-i%4)%4) 0) (s.getD (4*(i/4)) 0)=mp m s i 0:=rfl
  have a1:ai ((1:Int)-((i%4:Nat):Int))=(1:Int)-((i%4:Nat):Int):=al (by omega) (by omega)
  have b1:ai ((1:Int)-((i%4:Nat):Int)+4)=((5-i%4:Nat):Int):=by rw[al (by omega) (by omega)];omega
  have c1:ai (((4*(i/4):Nat):Int)+1)=((4*(i/4)+1:Nat):Int):=by rw[al (by omega) (by omega)];omega
  have w1:(((4*(i/4)+1:Nat):Int)<16)=True:=eq_true (by omega)
  have x1:(4*(i/4)+1<16)=True:=eq_true (by omega)
  have e1:(s.map V.u8).getD (4*(i/4)+1) .junk= .u8 (s.getD (4*(i/4)+1) 0):=dT (by omega)
  have p1:eP (m.getD ((5-i%4)%4) 0) (s.getD (4*(i/4)+1) 0)=mp m s i 1:=rfl
  have a2:ai ((2:Int)-((i%4:Nat):Int))=(2:Int)-((i%4:Nat):Int):=al (by omega) (by omega)
  have b2:ai ((2:Int)-((i%4:Nat):Int)+4)=((6-i%4:Nat):Int):=by rw[al (by omega) (by omega)];omega
  have c2:ai (((4*(i/4):Nat):Int)+2)=((4*(i/4)+2:Nat):Int):=by rw[al (by omega) (by omega)];omega
  have w2:(((4*(i/4)+2:Nat):Int)<16)=True:=eq_true (by omega)
  have x2:(4*(i/4)+2<16)=True:=eq_true (by omega)
  have e2:(s.map V.u8).getD (4*(i/4)+2) .junk= .u8 (s.getD (4*(i/4)+2) 0):=dT (by omega)
  have p2:eP (m.getD ((6-i%4)%4) 0) (s.getD (4*(i/4)+2) 0)=mp m s i 2:=rfl
  have a3:ai ((3:Int)-((i%4:Nat):Int))=(3:Int)-((i%4:Nat):Int):=al (by omega) (by omega)
  have b3:ai ((3:Int)-((i%4:Nat):Int)+4)=((7-i%4:Nat):Int):=by rw[al (by omega) (by omega)];omega
  have c3:ai (((4*(i/4):Nat):Int)+3)=((4*(i/4)+3:Nat):Int):=by rw[al (by omega) (by omega)];omega
  have w3:(((4*(i/4)+3:Nat):Int)<16)=True:=eq_true (by omega)
  have x3:(4*(i/4)+3<16)=True:=eq_true (by omega)
  have e3:(s.map V.u8).getD (4*(i/4)+3) .junk= .u8 (s.getD (4*(i/4)+3) 0):=dT (by omega)
  have p3:eP (m.getD ((7-i%4)%4) 0) (s.getD (4*(i/4)+3) 0)=mp m s i 3:=rfl
  have r3:∀ k:Nat,((k:Nat):Int).tmod 4=((k%4:Nat):Int):=fun k=>rfl
  have r4:ai (4*((i/4:Nat):Int))=((4*(i/4):Nat):Int):=by rw[al (by omega) (by omega)];omega
  have u1:∀ k:Nat,(((k%4:Nat):Int)<4)=True:=fun k=>eq_true (by omega)
  have u2:∀ k:Nat,((0:Int)≤(k:Int))=True:=fun k=>eq_true (by omega)
  have u3:∀ k:Nat,(k%4<4)=True:=fun k=>eq_true (by omega)
  have v1:∀ k:Nat,(m.map V.u8).getD (k%4) .junk= .u8 (m.getD (k%4) 0):=fun k=>dT (by omega)
  have y1:∀ x:BitVec 8,(((dE (dZ m s) s i).set i x).map V.u8).getD i .junk= .u8 x:=fun x=>by rw[dT (by rw[List.length_set];omega),Bi _ _ _ (by omega)]
  simp only[go_sem,↓reduceIte,Nat.reduceLeDiff,h0',zi,hl,t1,t2,t2']
  refine⟨by omega,bI 5 ?_⟩
  simp only[go_sem,↓reduceIte,Nat.reduceEqDiff,Nat.reduceLT,Nat.reduceAdd,Nat.reduceSub,Int.reduceLT,Int.reduceEq,reduceCtorEq,a0,b0,c0,w0,x0,e0,r3,r4,u1,u2,u3,v1,y1,hl,h0',h0,hs,hm]
  refine aC (jL _ _) ?_
  simp only[go_sem,↓reduceIte,Nat.reduceEqDiff,Nat.reduceLT,Nat.reduceLeDiff,Nat.reduceAdd,Nat.reduceSub,Int.reduceLE,Int.reduceLT,Int.reduceAdd,Int.reduceEq,Int.reduceNeg,reduceCtorEq,p0,a1,b1,c1,w1,x1,e1,r3,r4,u1,u2,u3,v1,y1,List.set_set,hl,h0',h0,hs,hm]
  refine⟨by omega,by kernel_rfl,?_⟩
  refine aC (jL _ _) ?_
  simp only[go_sem,↓reduceIte,Nat.reduceEqDiff,Nat.reduceLT,Nat.reduceLeDiff,Nat.reduceAdd,Nat.reduceSub,Int.reduceLE,Int.reduceLT,Int.reduceAdd,Int.reduceEq,Int.reduceNeg,reduceCtorEq,p1,a2,b2,c2,w2,x2,e2,r3,r4,u1,u2,u3,v1,y1,List.set_set,hl,h0',h0,hs,hm]
  refine⟨by omega,by kernel_rfl,?_⟩
  refine aC (jL _ _) ?_
  simp only[go_sem,↓reduceIte,Nat.reduceEqDiff,Nat.reduceLT,Nat.reduceLeDiff,Nat.reduceAdd,Nat.reduceSub,Int.reduceLE,Int.reduceLT,Int.reduceAdd,Int.reduceEq,Int.reduceNeg,reduceCtorEq,p2,a3,b3,c3,w3,x3,e3,r3,r4,u1,u2,u3,v1,y1,List.set_set,hl,h0',h0,hs,hm]
  refine⟨by omega,by kernel_rfl,?_⟩
  refine aC (jL _ _) ?_
  simp only[go_sem,↓reduceIte,Nat.reduceEqDiff,Nat.reduceLT,Nat.reduceLeDiff,Nat.reduceAdd,Nat.reduceSub,Int.reduceLE,Int.reduceLT,Int.reduceAdd,Int.reduceNeg,reduceCtorEq,p3,u2,hn,List.set_set,hl,h0']
  refine⟨by omega,by kernel_rfl,?_⟩
  refine aS (ji-1) ⟨[(0,.ptr 0 0),(3,.ptr 1 0),(4,.ptr 2 0),(12,.i64 (i+1:Nat))],[some ⟨false,(dE (dZ m s) s (i+1:Nat)).map .u8,none⟩,some ⟨false,m.map .u8,none⟩,some ⟨false,s.map .u8,none⟩]⟩ (by omega) ?_ rfl (fun _ _ h=>h) ⟨i+1,by omega,rfl⟩
  have hw1:ai ((i:Int)+1)=((i+1:Nat):Int):=by rw[al (by omega) (by omega)];omega
  simp[St.get,ae,hw1,-List.map_set,-List.map_map]
 ·obtain rfl:i=16:=by omega
  have h0':¬ ((16:Nat):Int)<16:=by omega
  have he:=sa (dZ m s) s hml
  rw[hs] at he
  simp only[go_sem,↓reduceIte,Int.reduceLT,he]
  exact Fin.ren [0] (by simp) (by simp) (by rfl) (by decide) (by simp[-List.map_map,-List.map_set]) (by simp[-List.map_map,-List.map_set])
end
end Go.Vm
end
section
namespace Go.Vm
open Go.Proofs
def cA (t K:List (BitVec 8))(R:Nat):Nat→List (BitVec 8)
 |0=>aO t K
 |i+1=>
  let s:=dx 1 ((cA t K R i).map b9)
  aO (if i+2<R then dZ [2#8,3#8,1#8,1#8] s else s) (K.drop (16*(i+1)))
theorem qd (k:Nat)(s:List (BitVec 8)):(dx k s).length=16:=oe _
theorem vC (m s:List (BitVec 8)):(dZ m s).length=16:=oe _
theorem qw (t K:List (BitVec 8))(R:Nat)(ht:t.length=16)(hK:K.length=16*R)(i:Nat)(hi:i<R):(cA t K R i).length=16:=by
 cases i with
 |zero=>rw[cA,eC];omega
 |succ i=>
  rw[cA]
  have h1:(if i+2<R then dZ [2#8,3#8,1#8,1#8] (dx 1 ((cA t K R i).map b9)) else dx 1 ((cA t K R i).map b9)).length=16:=by
   split
   ·exact vC _ _
   ·exact qd _ _
  rw[eC,h1,List.length_drop];omega
theorem uR (t K T:List (BitVec 8))(R:Nat)(ht:t.length=16)(hR:2≤R)(hR2:R≤20)(hK:K.length=16*R)(hT:T.length=512)(hf:∀ b:BitVec 8,T.getD (0+b.toNat) 0=b9 b):ao Tryz.prog 247 [.ptr 0 0,.str t] [some ⟨false,[.ptr 1 0,.str K],none⟩,some ⟨false,T.map .u8,none⟩] (.str (cA t K R (R-1))) [some ⟨false,[.ptr 1 0,.str K],none⟩,some ⟨false,T.map .u8,none⟩]:=by
 have h0:=rZ t K ht (by omega) (by omega)
 have hsp:splice [.u8 0#8,.u8 0#8,.u8 0#8,.u8 0#8,.u8 0#8,.u8 0#8,.u8 0#8,.u8 0#8,.u8 0#8,.u8 0#8,.u8 0#8,.u8 0#8,.u8 0#8,.u8 0#8,.u8 0#8,.u8 0#8] 0 (t.map V.u8)=t.map V.u8:=bd _ _ (by rw[List.length_map,ht];rfl)
 have htk:List.take 16 (t.map V.u8)=t.map V.u8:=List.take_of_length_le (by rw[List.length_map,ht];exact Nat.le_refl _)
 have h16:(16:Int)≤(K.length:Int):=by omega
 refine aR (by kernel_rfl) (fn:=Tryz.f247) Tryz.func247 rfl (by show 2≤40;decide) (ag ?_)
 simp only[go_sem,seval,Tryz.ntmps247,ht,hsp,htk]
 refine aA [3] (h0) (by kernel_rfl) (by simp) rfl (by simp) (by first|decide|simp) (by simp) (by simp) (by simp) (by simp) (by simp) ?_
 simp only[go_sem,seval]
 refine⟨h16,?_⟩
 refine aH (fun j st=>∃ i:Nat,i+j=R-1∧st=⟨[(0,.ptr 0 0),(5,.str (K.drop (16*(i+1)))),(6,.ptr 2 0)],[some ⟨false,[.ptr 1 0,.str K],none⟩,some ⟨false,T.map .u8,none⟩,some ⟨false,(cA t K R i).map .u8,none⟩]⟩) ?_ ?_
 ·exact wM (R-1) ⟨[(0,.ptr 0 0),(5,.str (K.drop (16*(0+1)))),(6,.ptr 2 0)],[some ⟨false,[.ptr 1 0,.str K],none⟩,some ⟨false,T.map .u8,none⟩,some ⟨false,(cA t K R 0).map .u8,none⟩]⟩ [0,1,3] rfl (by simp) rfl (by decide) (by simp[cp,St.get,ae,-List.map_map,-List.map_set]) (by simp[cA,-List.map_map,-List.map_set]) ⟨0,by omega,rfl⟩
 rintro j st ⟨i,hi,rfl⟩ _
 have hel:=qw t K R ht hK i (by omega)
 have hdl:(K.drop (16*(i+1))).length=16*(R-(i+1)):=by rw[List.length_drop];omega
 have hdd:(K.drop (16*(i+1))).drop 16=K.drop (16*(i+1+1)):=by rw[List.drop_drop];rfl
 by_cases hl:i<R-1
 ·obtain⟨D,hD⟩:∃ D,D=K.drop (16*(i+1)):=⟨_,rfl⟩
  have hes:cA t K R (i+1)=aO (if i+2<R then dZ [2#8,3#8,1#8,1#8] (dx 1 ((cA t K R i).map b9)) else dx 1 ((cA t K R i).map b9)) D:=by rw[hD];rfl
  rw[←hD] at hdl hdd
  have hne:(D=[])=False:=eq_false (fun h=>by rw[h] at hdl;simp at hdl;omega)
  have hth:=BV (cA t K R i) T 0 b9 hel hT (by omega) hf
  have hro:=FK ((cA t K R i).map b9) 1 (by rw[List.length_map,hel]) (by decide)
  generalize hs1:(cA t K R i).map b9=s1 at*
  have hco:=BW (dx 1 s1) [2#8,3#8,1#8,1#8] (qd _ _) rfl
  have g1:16*(R-(i+1))≤1000:=by omega
  have g2:(16:Int)≤(D.length:Int):=by omega
  by_cases hlast:i+2<R
  ·have hl':(16:Int)<(D.length:Int):=by omega
   have had:=rZ (dZ [2#8,3#8,1#8,1#8] (dx 1 s1)) D (vC _ _) (by omega) (by omega)
   have hn:cA t K R (i+1)=aO (dZ [2#8,3#8,1#8,1#8] (dx 1 s1)) D:=by rw[hes,if_pos hlast]
   rw[←hn] at had
   simp only[go_sem,seval,←hD,hne]
   refine aA [2,1] (hth) (by kernel_rfl) (by simp) rfl (by simp) (by first|decide|simp) (by simp) (by simp) (by simp) (by simp) (by simp) ?_
   simp only[go_sem,seval]
   refine aA [2] (hro) (by kernel_rfl) (by simp) rfl (by simp) (by first|decide|simp) (by simp) (by simp) (by simp) (by simp) (by simp) ?_
   simp only[go_sem,seval,hl']
   refine aA [2] (hco) (by kernel_rfl) (by simp) rfl (by simp) (by first|decide|simp) (by simp) (by simp) (by simp) (by simp) (by simp) ?_
   simp only[go_sem,seval]
   refine aA [2] (had) (by kernel_rfl) (by simp) rfl (by simp) (by first|decide|simp) (by simp) (by simp) (by simp) (by simp) (by simp) ?_
   simp only[go_sem,seval,g2,List.take_length,hdd]
   exact db (j-1) ⟨[(0,.ptr 0 0),(5,.str (K.drop (16*(i+1+1)))),(6,.ptr 2 0)],[some ⟨false,[.ptr 1 0,.str K],none⟩,some ⟨false,T.map .u8,none⟩,some ⟨false,(cA t K R (i+1)).map .u8,none⟩]⟩ [0,1,2] (by omega) rfl (by simp) rfl (by decide) (by simp[cp,St.get,ae,-List.map_map,-List.map_set]) (by simp) ⟨i+1,by omega,rfl⟩
  ·have hl':¬ (16:Int)<(D.length:Int):=by omega
   have had:=rZ (dx 1 s1) D (qd _ _) (by omega) (by omega)
   have hn:cA t K R (i+1)=aO (dx 1 s1) D:=by rw[hes,if_neg hlast]
   rw[←hn] at had
   simp only[go_sem,seval,←hD,hne]
   refine aA [2,1] (hth) (by kernel_rfl) (by simp) rfl (by simp) (by first|decide|simp) (by simp) (by simp) (by simp) (by simp) (by simp) ?_
   simp only[go_sem,seval]
   refine aA [2] (hro) (by kernel_rfl) (by simp) rfl (by simp) (by first|decide|simp) (by simp) (by simp) (by simp) (by simp) (by simp) ?_
   simp only[go_sem,seval,hl']
   refine aA [2] (had) (by kernel_rfl) (by simp) rfl (by simp) (by first|decide|simp) (by simp) (by simp) (by simp) (by simp) (by simp) ?_
   simp only[go_sem,seval,g2,List.take_length,hdd]
   exact db (j-1) ⟨[(0,.ptr 0 0),(5,.str (K.drop (16*(i+1+1)))),(6,.ptr 2 0)],[some ⟨false,[.ptr 1 0,.str K],none⟩,some ⟨false,T.map .u8,none⟩,some ⟨false,(cA t K R (i+1)).map .u8,none⟩]⟩ [0,1,2] (by omega) rfl (by simp) rfl (by decide) (by simp[cp,St.get,ae,-List.map_map,-List.map_set]) (by simp) ⟨i+1,by omega,rfl⟩
 ·obtain rfl:i=R-1:=by omega
  have hD:K.drop (16*(R-1+1))=[]:=List.drop_of_length_le (by omega)
  simp only[go_sem,seval,hD,hel,List.take_of_length_le]
  exact Fin.ren [0,1] (by simp) (by simp) (by rfl) (by decide) (by simp) (by simp)
theorem xZ (key:List (BitVec 8))(n:Nat)(hn:n=4∨n=8)(hl:key.length=4*n):ao Tryz.prog 240 [.str key] [] (.ptr 0 0) [some ⟨false,[.ptr 1 0,.str (wl key n (4*(n+7))).flatten],none⟩,some ⟨false,(cZ 256).map .u8,none⟩]:=by
 have hk:=D2 key
 rw[decide_eq_true (by omega)] at hk
 have he:=CV key n hn hl
 have hm:=FG
 generalize cZ 256=T at*
 refine aR (by kernel_rfl) (fn:=Tryz.f240) Tryz.func240 rfl (by show 1≤14;decide) (ag ?_)
 simp only[go_sem,seval,Tryz.ntmps240]
 refine ak (hk) ?_
 simp only[go_sem,seval]
 refine aA [] (hm) (by kernel_rfl) (by simp) rfl (by simp) (by first|decide|simp) (by simp) (by simp) (by simp) (by simp) (by simp) ?_
 simp only[go_sem,seval]
 refine aA [0] (he) (by kernel_rfl) (by simp) rfl (by simp) (by first|decide|simp) (by simp) (by simp) (by simp) (by simp) (by simp) ?_
 simp only[go_sem,seval]
 exact Fin.ren [1,0] (by simp) (by simp) (by rfl) (by decide) (by simp) (by simp)
def cj (k n l t:List (BitVec 8))(m:Int):Int:=if k.length≠32∨n.length≠12 then 1 else if 2000<l.length∨m<t.length then 2 else 0
theorem mr (k n l t:List (BitVec 8))(m:Int):am Tryz.prog 239 [.str k,.str n,.str l,.str t,.i64 m] (.i64 (cj k n l t m)):=by
 by_cases h1:k.length=32
 ·have h1':(k.length:Int)=32:=by omega
  by_cases h2:n.length=12
  ·have h2':(n.length:Int)=12:=by omega
   by_cases h3:2000<l.length
   ·have h3':(2000:Int)<(l.length:Int):=by omega
    have e:cj k n l t m=2:=by simp[cj,h1,h2,h3]
    rw[e]
    refine aw (by kernel_rfl) (fn:=Tryz.f239) (by kernel_rfl) Tryz.func239 rfl (by show 5≤30;decide) (by simp[ac,V.low]) (by simp[V.low]) (ag ?_)
    simp only[go_sem,seval,Tryz.ntmps239,Tryz.results239,h1',h2',h3']
   ·have h3':¬ (2000:Int)<(l.length:Int):=by omega
    by_cases h4:m<(t.length:Int)
    ·have e:cj k n l t m=2:=by simp[cj,h1,h2,h3,h4]
     rw[e]
     refine aw (by kernel_rfl) (fn:=Tryz.f239) (by kernel_rfl) Tryz.func239 rfl (by show 5≤30;decide) (by simp[ac,V.low]) (by simp[V.low]) (ag ?_)
     simp only[go_sem,seval,Tryz.ntmps239,Tryz.results239,h1',h2',h3',h4]
    ·have e:cj k n l t m=0:=by simp[cj,h1,h2,h3,h4]
     rw[e]
     refine aw (by kernel_rfl) (fn:=Tryz.f239) (by kernel_rfl) Tryz.func239 rfl (by show 5≤30;decide) (by simp[ac,V.low]) (by simp[V.low]) (ag ?_)
     simp only[go_sem,seval,Tryz.ntmps239,Tryz.results239,h1',h2',h3',h4]
  ·have h2':¬ (n.length:Int)=12:=by omega
   have e:cj k n l t m=1:=by simp[cj,h1,h2]
   rw[e]
   refine aw (by kernel_rfl) (fn:=Tryz.f239) (by kernel_rfl) Tryz.func239 rfl (by show 5≤30;decide) (by simp[ac,V.low]) (by simp[V.low]) (ag ?_)
   simp only[go_sem,seval,Tryz.ntmps239,Tryz.results239,h1',h2']
 ·have h1':¬ (k.length:Int)=32:=by omega
  have e:cj k n l t m=1:=by simp[cj,h1]
  rw[e]
  refine aw (by kernel_rfl) (fn:=Tryz.f239) (by kernel_rfl) Tryz.func239 rfl (by show 5≤30;decide) (by simp[ac,V.low]) (by simp[V.low]) (ag ?_)
  simp only[go_sem,seval,Tryz.ntmps239,Tryz.results239,h1']
theorem vD (n K T:List (BitVec 8))(R:Nat)(c:Nat)(hn:n.length=12)(hc:c≤100000)(hR:2≤R)(hR2:R≤20)(hK:K.length=16*R)(hT:T.length=512)(hf:∀ b:BitVec 8,T.getD (0+b.toNat) 0=b9 b):ao Tryz.prog 248 [.agg [.ptr 0 0,.str n],.i64 c] [some ⟨false,[.ptr 1 0,.str K],none⟩,some ⟨false,T.map .u8,none⟩] (.str (cA (n++bz c 4) K R (R-1))) [some ⟨false,[.ptr 1 0,.str K],none⟩,some ⟨false,T.map .u8,none⟩]:=by
 have ha:=nQ n (BitVec.ofNat 64 c) (by omega)
 have hto:(BitVec.ofNat 64 c).toNat=c:=by rw[BitVec.toNat_ofNat];omega
 have hb:(bz c 4).length=4:=by rw[←hto,tV];rfl
 rw[hto] at ha
 have he:=uR (n++bz c 4) K T R (by rw[List.length_append];omega) hR hR2 hK hT hf
 refine aR (by kernel_rfl) (fn:=Tryz.f248) Tryz.func248 rfl (by show 2≤15;decide) (ag ?_)
 simp only[go_sem,seval,Tryz.ntmps248]
 refine⟨by omega,?_⟩
 have htk:(n++bz c 4).take (n.length+4)=n++bz c 4:=List.take_of_length_le (by rw[List.length_append];omega)
 refine dj [3] (ha) (by kernel_rfl) (by simp) rfl (by simp) (by first|decide|simp) (by simp) (by simp) (by simp) (by simp) (by simp) ?_
 simp only[go_sem,seval,hb,htk]
 refine kl [0,1] he (by kernel_rfl) (by simp) rfl (by simp) (by decide) (by simp) (by simp) (by simp) (by simp) (by simp) (by simp[cO,bR,au,cY,Blk.ren,List.map_append,-List.map_map,-List.map_set]) ?_
 simp only[go_sem,seval]
 refine⟨by kernel_rfl,?_⟩
 exact Fin.ren [0,1] (by simp) (by simp) (by rfl) (by decide) (by simp) (by simp)
end Go.Vm
end
