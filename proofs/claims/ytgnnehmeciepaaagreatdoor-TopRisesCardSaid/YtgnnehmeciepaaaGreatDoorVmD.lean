/- Binary and unary operations and conversions between integers: the machine's answer reads as the virtual one. -/
import Derived.Laws.StructEq
import Derived.Laws.Entries
import Derived.WideLaws
import Derived.Test.YtgnnehmeciepaaaGreatDoorVmAToVmC
set_option linter.unusedVariables false
set_option linter.unusedSimpArgs false
set_option linter.unusedSectionVars false
set_option maxRecDepth 20000
set_option maxHeartbeats 8000000
namespace Go.Vm
theorem pM (k:IntKind)(h:k.signed=false)(n:Int):k.wrap n=((BitVec.ofInt k.bits n).toNat:Int):=by
 unfold IntKind.wrap
 simp only[h,Bool.false_and,Bool.false_eq_true,if_false,BitVec.toNat_ofInt]
 have :(0:Int)≤n%((2^k.bits:Nat):Int):=Int.emod_nonneg _ (by have :=Nat.two_pow_pos k.bits;omega)
 rw[Int.toNat_of_nonneg this]
 simp
theorem ib {n:Nat}(x:BitVec n):BitVec.ofInt n (x.toNat:Int)=x:=by
 apply BitVec.eq_of_toNat_eq
 have :=x.isLt
 rw[BitVec.toNat_ofInt]
 have :((x.toNat:Int)%((2^n:Nat):Int))=(x.toNat:Int):=Int.emod_eq_of_lt (by omega) (by omega)
 rw[this];rfl
theorem ze (k:IntKind)(h:k.signed=false)(x:BitVec k.bits):k.wrap (x.toNat:Int)=x.toNat:=by rw[pM k h,ib]
section
variable {P:Program}(w:World)(t:TypeId)(k:IntKind)
theorem uz (hk:k.signed=false)(mk:BitVec k.bits→V)(op:BinOp)(x y:BitVec k.bits)(res:Res)(h:lW mk op x y=some res)(hp:res.pre)(hs:op≠ .shl∧op≠ .shr):
  ∃ r,(binOp op t (.int k x.toNat) (.int k y.toNat)).run P w= .ok r w∧((∃ z,res.v=mk z∧r= .int k z.toNat)∨(∃ b,res.v= .bool b∧r= .bool b)):=by
 have hxy:∀ (z:Int) (u:BitVec k.bits),BitVec.ofInt k.bits z=u→k.wrap z=u.toNat:=fun z u hz=>by rw[pM k hk,hz]
 have hbit:∀ u:BitVec k.bits,k.wrap (u.toNat:Int)=u.toNat:=ze k hk
 cases op<;>simp only[lW,Option.some.injEq,seval] at h<;>(try subst h)<;>simp only[binOp,ne_eq,not_true_eq_false,if_false,Op.intArith,Op.intDiv,Op.intBits,Op.intCmp,Sem.run_pure,Sem.run_ite,ib]<;>
  (try exact absurd rfl hs.1)<;>(try exact absurd rfl hs.2)
 case add=>exact⟨_,rfl,.inl ⟨_,rfl,by rw[hxy _ (x+y) (by rw[BitVec.ofInt_add,ib,ib])]⟩⟩
 case sub=>exact⟨_,rfl,.inl ⟨_,rfl,by rw[hxy _ (x-y) (by rw[Int.sub_eq_add_neg,BitVec.ofInt_add,BitVec.ofInt_neg,ib,ib,BitVec.sub_eq_add_neg])]⟩⟩
 case mul=>exact⟨_,rfl,.inl ⟨_,rfl,by rw[hxy _ (x*y) (by rw[BitVec.ofInt_mul,ib,ib])]⟩⟩
 case quo=>
  have hy:¬ ((y.toNat:Int)=0):=fun e=>hp (BitVec.eq_of_toNat_eq (by simpa using e))
  rw[if_neg hy]
  exact⟨_,rfl,.inl ⟨_,rfl,by
   rw[show((x.toNat:Int).tdiv y.toNat)=(((x/y).toNat:Nat):Int) by rw[BitVec.toNat_udiv];rfl,hbit]⟩⟩
 case rem=>
  have hy:¬ ((y.toNat:Int)=0):=fun e=>hp (BitVec.eq_of_toNat_eq (by simpa using e))
  rw[if_neg hy]
  exact⟨_,rfl,.inl ⟨_,rfl,by
   rw[show((x.toNat:Int).tmod y.toNat)=(((x%y).toNat:Nat):Int) by rw[BitVec.toNat_umod];rfl]⟩⟩
 case and=>exact⟨_,rfl,.inl ⟨_,rfl,by rw[hbit]⟩⟩
 case or=>exact⟨_,rfl,.inl ⟨_,rfl,by rw[hbit]⟩⟩
 case xor=>exact⟨_,rfl,.inl ⟨_,rfl,by rw[hbit]⟩⟩
 case andNot=>exact⟨_,rfl,.inl ⟨_,rfl,by rw[hbit]⟩⟩
 case eql=>exact⟨_,rfl,.inr ⟨_,rfl,by congr 1;rw[Bool.eq_iff_iff];simp[BitVec.toNat_eq,Int.ofNat_inj]⟩⟩
 case neq=>exact⟨_,rfl,.inr ⟨_,rfl,by congr 1;rw[Bool.eq_iff_iff];simp[BitVec.toNat_eq,Int.ofNat_inj]⟩⟩
 case lss=>exact⟨_,rfl,.inr ⟨_,rfl,by congr 1;rw[Bool.eq_iff_iff];simp[BitVec.lt_def]⟩⟩
 case leq=>exact⟨_,rfl,.inr ⟨_,rfl,by congr 1;rw[Bool.eq_iff_iff];simp[BitVec.le_def]⟩⟩
 case gtr=>exact⟨_,rfl,.inr ⟨_,rfl,by congr 1;rw[Bool.eq_iff_iff];simp[BitVec.lt_def]⟩⟩
 case geq=>exact⟨_,rfl,.inr ⟨_,rfl,by congr 1;rw[Bool.eq_iff_iff];simp[BitVec.le_def]⟩⟩
theorem Ga (op:BinOp)(x y:Int)(res:Res)(h:om op x y=some res)(hp:res.pre)(hs:op≠ .shl∧op≠ .shr):
  ∃ r,(binOp op t (.int .i64 x) (.int .i64 y)).run P w= .ok r w∧((∃ z,res.v= .i64 z∧r= .int .i64 z)∨(∃ b,res.v= .bool b∧r= .bool b)):=by
 cases op<;>simp only[om,tu,Option.some.injEq,seval] at h<;>(try subst h)<;>simp only[binOp,ne_eq,not_true_eq_false,if_false,Op.intArith,Op.intDiv,Op.intBits,Op.intCmp,Sem.run_pure,Sem.run_ite]<;>
  (try exact absurd rfl hs.1)<;>(try exact absurd rfl hs.2)
 case quo=>rw[if_neg hp];exact⟨_,rfl,.inl ⟨_,rfl,rfl⟩⟩
 case rem=>rw[if_neg hp];exact⟨_,rfl,.inl ⟨_,rfl,rfl⟩⟩
 case eql=>exact⟨_,rfl,.inr ⟨_,rfl,by congr 1⟩⟩
 case neq=>exact⟨_,rfl,.inr ⟨_,rfl,by congr 1;rw[Bool.eq_iff_iff];simp⟩⟩
 all_goals first
  |exact⟨_,rfl,.inl ⟨_,rfl,rfl⟩⟩
  |exact⟨_,rfl,.inr ⟨_,rfl,rfl⟩⟩
theorem ON {n:Nat}(x:BitVec n)(m:Nat):BitVec.ofInt n ((x.toNat:Int)*2^(min m n))=x<<<m:=by
 apply BitVec.eq_of_toNat_eq
 rw[BitVec.toNat_ofInt,BitVec.toNat_shiftLeft,Nat.shiftLeft_eq]
 have e:((x.toNat:Int)*2^(min m n))=((x.toNat*2^(min m n):Nat):Int):=by simp
 rw[e,←Int.natCast_emod,Int.toNat_natCast]
 by_cases h:m≤n
 ·rw[Nat.min_eq_left h]
 ·rw[Nat.min_eq_right (by omega),Nat.mul_mod_left]
  have :2^n∣x.toNat*2^m:=⟨x.toNat*2^(m-n),by
   rw[show m=n+(m-n) by omega,Nat.pow_add]
   rw[show n+(m-n)-n=m-n by omega,Nat.mul_left_comm]⟩
  rw[Nat.mod_eq_zero_of_dvd this]
theorem OO {n:Nat}(x:BitVec n)(m:Nat):((x.toNat:Int).fdiv (2^(min m n)))=((x>>>m).toNat:Int):=by
 rw[BitVec.toNat_ushiftRight,Nat.shiftRight_eq_div_pow]
 have e:(2:Int)^(min m n)=((2^(min m n):Nat):Int):=by simp
 rw[e,Int.fdiv_eq_ediv_of_nonneg _ (Int.natCast_nonneg _),←Int.natCast_ediv]
 congr 1
 by_cases h:m≤n
 ·rw[Nat.min_eq_left h]
 ·rw[Nat.min_eq_right (by omega)]
  have h1:=x.isLt
  have h2:x.toNat<2^m:=Nat.lt_of_lt_of_le h1 (Nat.pow_le_pow_right (by omega) (by omega))
  rw[Nat.div_eq_of_lt h1,Nat.div_eq_of_lt h2]
theorem nO (hk:k.signed=false)(op:BinOp)(x:BitVec k.bits)(yk:IntKind)(y:Int)(hy:0≤y)(hs:op= .shl∨op= .shr):
  (binOp op t (.int k x.toNat) (.int yk y)).run P w= .ok (.int k (match op with| .shl=>(x<<<y.toNat).toNat|_=>(x>>>y.toNat).toNat)) w:=by
 have h0:¬ y<0:=by omega
 rcases hs with rfl|rfl
 ·simp only[binOp,Op.shift,if_neg h0,Sem.run_pure]
  rw[pM k hk,ON]
 ·simp only[binOp,Op.shift,if_neg h0,Sem.run_pure]
  rw[OO]
theorem zP (op:BinOp)(x:Int)(yk:IntKind)(y:Int)(hy:0≤y)(hs:op= .shl∨op= .shr):
  (binOp op t (.int .i64 x) (.int yk y)).run P w= .ok (.int .i64 (match op with| .shl=>Dq x y.toNat|_=>Ds x y.toNat)) w:=by
 have h0:¬ y<0:=by omega
 rcases hs with rfl|rfl
 ·simp only[binOp,Op.shift,if_neg h0,Sem.run_pure];rfl
 ·simp only[binOp,Op.shift,if_neg h0,Sem.run_pure];rfl
end
section
variable {ρ:Nat→Nat×Nat}{dom:Nat→Prop}{P:Program}{w:World}{t:TypeId}
theorem Jb {y:V}{ry:Value}{n:Nat}{pre:Prop}(h:qv y=some (n,pre))(hp:pre)(hy:VR ρ dom w y ry):∃ yk z,ry= .int yk z∧0≤z∧z.toNat=n:=by
 cases y<;>simp only[qv,Option.some.injEq,Prod.mk.injEq,seval] at h<;>obtain⟨rfl,rfl⟩:=h<;>unfold VR at hy<;>subst hy
 ·exact⟨_,_,rfl,by omega,by omega⟩
 ·exact⟨_,_,rfl,by omega,by omega⟩
 ·exact⟨_,_,rfl,by omega,by omega⟩
 ·exact⟨_,_,rfl,hp,rfl⟩
theorem yv {op:BinOp}(hs:op= .shl∨op= .shr){x y:V}{rx ry:Value}{n:Nat}{pre:Prop}{res:Res}(h:qv y=some (n,pre))(h2:mT op x n pre=some res)(hp:res.pre)
  (hx:VR ρ dom w x rx) (hy:VR ρ dom w y ry):∃ r,(binOp op t rx ry).run P w= .ok r w∧VR ρ dom w res.v r:=by
 have hpre:pre:=by
  rcases hs with rfl|rfl<;>cases x<;>simp only[mT,Option.some.injEq,seval] at h2<;>subst h2<;>exact hp
 obtain⟨yk,z,rfl,hz,rfl⟩:=Jb h hpre hy
 rcases hs with rfl|rfl<;>cases x<;>simp only[mT,Option.some.injEq,seval] at h2<;>subst h2<;>unfold VR at hx<;>subst hx
 ·exact⟨_,nO w t .u8 rfl .shl _ yk z hz (.inl rfl),by unfold VR;rfl⟩
 ·exact⟨_,nO w t .u32 rfl .shl _ yk z hz (.inl rfl),by unfold VR;rfl⟩
 ·exact⟨_,nO w t .u64 rfl .shl _ yk z hz (.inl rfl),by unfold VR;rfl⟩
 ·exact⟨_,zP w t .shl _ yk z hz (.inl rfl),by unfold VR;rfl⟩
 ·exact⟨_,nO w t .u8 rfl .shr _ yk z hz (.inr rfl),by unfold VR;rfl⟩
 ·exact⟨_,nO w t .u32 rfl .shr _ yk z hz (.inr rfl),by unfold VR;rfl⟩
 ·exact⟨_,nO w t .u64 rfl .shr _ yk z hz (.inr rfl),by unfold VR;rfl⟩
 ·exact⟨_,zP w t .shr _ yk z hz (.inr rfl),by unfold VR;rfl⟩
theorem Ey (a b:ByteArray):bytesOf (a++b)=bytesOf a++bytesOf b:=by
 unfold bytesOf
 rw[ByteArray.data_append,Array.toList_append,List.map_append]
theorem uf (a b:ByteArray):(a.toList==b.toList)=decide (bytesOf a=bytesOf b):=by
 rw[Bool.eq_iff_iff]
 simp only[beq_iff_eq,decide_eq_true_eq,ByteArray.toList_eq]
 exact⟨fun h=>by unfold bytesOf;rw[h],fun h=>by rw[F9 h]⟩
theorem Jc {op:BinOp}{x y:List ac}{rx ry:Value}{res:Res}(h:oL op x y=some res)(hp:res.pre)(hx:VR ρ dom w (.str x) rx)(hy:VR ρ dom w (.str y) ry):
  ∃ r,(binOp op t rx ry).run P w= .ok r w∧VR ρ dom w res.v r:=by
 unfold VR at hx hy
 obtain⟨a,rfl,rfl⟩:=hx
 obtain⟨b,rfl,rfl⟩:=hy
 cases op<;>simp only[oL,Option.some.injEq,seval] at h<;>subst h
 ·have hl:¬ (((a.size+b.size:Nat):Int)>IntKind.i64.max):=by
   have :(bytesOf a).length+(bytesOf b).length≤4611686018427387904:=hp
   rw[iI,iI] at this
   have e:IntKind.i64.max=9223372036854775807:=by decide
   rw[e];omega
  refine⟨.string (a++b),?_,by unfold VR;exact⟨_,rfl,Ey a b⟩⟩
  simp only[binOp,Op.stringOp,if_neg hl,Sem.run_pure]
 ·exact⟨_,by simp only[binOp,Op.stringOp,Sem.run_pure];rfl,by unfold VR;rw[uf]⟩
 ·exact⟨_,by simp only[binOp,Op.stringOp,Sem.run_pure];rfl,by unfold VR;rw[uf];simp⟩
end
end Go.Vm
