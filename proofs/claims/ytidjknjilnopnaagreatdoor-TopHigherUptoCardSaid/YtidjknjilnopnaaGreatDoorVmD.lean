/- Binary and unary operations and conversions between integers: the machine's answer reads as the virtual one. -/
import Derived.Laws.StructEq
import Derived.Laws.Entries
import Derived.WideLaws
import Derived.Test.YtidjknjilnopnaaGreatDoorVmAToVmC
set_option linter.unusedVariables false
set_option linter.unusedSimpArgs false
set_option maxRecDepth 20000
set_option maxHeartbeats 8000000
namespace Go.Vm
theorem wk (k:IntKind)(h:k.signed=false)(n:Int):k.wrap n=((BitVec.ofInt k.bits n).toNat:Int):=by
 unfold IntKind.wrap;simp only[h,Bool.false_and,ct,if_false,l9];have :(0:Int)<=n%((2^k.bits:Nat):Int):=Int.emod_nonneg _ (by have :=Nat.two_pow_pos k.bits;omega);rw[Int.toNat_of_nonneg this];simp
theorem lP {n:Nat}(x:BitVec n):BitVec.ofInt n (x.toNat:Int)=x:=by
 apply eE;have :=x.isLt;rw[l9];have :((x.toNat:Int)%((2^n:Nat):Int))=(x.toNat:Int):=y8 aa aa;rw[this];rfl
theorem Hs (k:IntKind)(h:k.signed=false)(x:BitVec k.bits):k.wrap (x.toNat:Int)=x.toNat:=by rw[wk k h,lP]
section
variable {P:Program}(w:World)(t:TypeId)(k:IntKind)
theorem Dl (f:k.signed=false)(mk:BitVec k.bits->V)(op:BinOp)(x y:BitVec k.bits)(res:Res)(h:p8 mk op x y=some res)(g:res.pre)(i:op≠ .shl/\op≠ .shr):
  ∃ r,(binOp op t (.int k x.toNat) (.int k y.toNat)).run P w= .ok r w/\((∃ z,res.v=mk z/\r= .int k z.toNat)\/(∃ b,res.v= .bool b/\r= .bool b)):=by
 have c:∀ (z:Int) (u:BitVec k.bits),BitVec.ofInt k.bits z=u->k.wrap z=u.toNat:=fun z u j=>by rw[wk k f,j]
 have a:∀ u:BitVec k.bits,k.wrap (u.toNat:Int)=u.toNat:=Hs k f;cases op<;>simp only[p8,cf,seval] at h<;>(try subst h)<;>simp only[binOp,ne_eq,not_true_eq_false,if_false,Op.intArith,Op.intDiv,Op.intBits,Op.intCmp,Sem.run_pure,Sem.run_ite,lP]<;>
  (try exact absurd rfl i.1)<;>(try exact absurd rfl i.2)
 case add=>exact⟨_,rfl,.inl ⟨_,rfl,by rw[c _ (x+y) (by rw[Cj,lP,lP])]⟩⟩
 case sub=>exact⟨_,rfl,.inl ⟨_,rfl,by rw[c _ (x-y) (by rw[Int.sub_eq_add_neg,Cj,BitVec.ofInt_neg,lP,lP,BitVec.sub_eq_add_neg])]⟩⟩
 case mul=>exact⟨_,rfl,.inl ⟨_,rfl,by rw[c _ (x*y) (by rw[BitVec.ofInt_mul,lP,lP])]⟩⟩
 case quo=>
  have d:¬ ((y.toNat:Int)=0):=fun e=>g (eE (by simpa using e))
  rw[if_neg d];exact⟨_,rfl,.inl ⟨_,rfl,by
   rw[show((x.toNat:Int).tdiv y.toNat)=(((x/y).toNat:Nat):Int) by rw[BitVec.toNat_udiv];rfl,a]⟩⟩
 case rem=>
  have d:¬ ((y.toNat:Int)=0):=fun e=>g (eE (by simpa using e))
  rw[if_neg d];exact⟨_,rfl,.inl ⟨_,rfl,by
   rw[show((x.toNat:Int).tmod y.toNat)=(((x%y).toNat:Nat):Int) by rw[BitVec.toNat_umod];rfl]⟩⟩
 case and=>exact⟨_,rfl,.inl ⟨_,rfl,by rw[a]⟩⟩
 case or=>exact⟨_,rfl,.inl ⟨_,rfl,by rw[a]⟩⟩
 case xor=>exact⟨_,rfl,.inl ⟨_,rfl,by rw[a]⟩⟩
 case andNot=>exact⟨_,rfl,.inl ⟨_,rfl,by rw[a]⟩⟩
 case eql=>exact⟨_,rfl,.inr ⟨_,rfl,by congr 1;rw[lN];simp[Dn,Int.ofNat_inj]⟩⟩
 case neq=>exact⟨_,rfl,.inr ⟨_,rfl,by congr 1;rw[lN];simp[Dn,Int.ofNat_inj]⟩⟩
 case lss=>exact⟨_,rfl,.inr ⟨_,rfl,by congr 1;rw[lN];simp[wE]⟩⟩
 case leq=>exact⟨_,rfl,.inr ⟨_,rfl,by congr 1;rw[lN];simp[BitVec.le_def]⟩⟩
 case gtr=>exact⟨_,rfl,.inr ⟨_,rfl,by congr 1;rw[lN];simp[wE]⟩⟩
 case geq=>exact⟨_,rfl,.inr ⟨_,rfl,by congr 1;rw[lN];simp[BitVec.le_def]⟩⟩
theorem abd (op:BinOp)(x y:Int)(res:Res)(h:uK op x y=some res)(a:res.pre)(c:op≠ .shl/\op≠ .shr):
  ∃ r,(binOp op t (.int .i64 x) (.int .i64 y)).run P w= .ok r w/\((∃ z,res.v= .i64 z/\r= .int .i64 z)\/(∃ b,res.v= .bool b/\r= .bool b)):=by
 cases op<;>simp only[uK,yQ,cf,seval] at h<;>(try subst h)<;>simp only[binOp,ne_eq,not_true_eq_false,if_false,Op.intArith,Op.intDiv,Op.intBits,Op.intCmp,Sem.run_pure,Sem.run_ite]<;>
  (try exact absurd rfl c.1)<;>(try exact absurd rfl c.2)
 case quo=>rw[if_neg a];exact⟨_,rfl,.inl ⟨_,rfl,rfl⟩⟩
 case rem=>rw[if_neg a];exact⟨_,rfl,.inl ⟨_,rfl,rfl⟩⟩
 case eql=>exact⟨_,rfl,.inr ⟨_,rfl,by congr 1⟩⟩
 case neq=>exact⟨_,rfl,.inr ⟨_,rfl,by congr 1;rw[lN];simp⟩⟩
 all_goals first
  |exact⟨_,rfl,.inl ⟨_,rfl,rfl⟩⟩
  |exact⟨_,rfl,.inr ⟨_,rfl,rfl⟩⟩
theorem VE {n:Nat}(x:BitVec n)(m:Nat):BitVec.ofInt n ((x.toNat:Int)*2^(min m n))=x<<<m:=by
 apply eE;rw[l9,wY,uo];have e:((x.toNat:Int)*2^(min m n))=((x.toNat*2^(min m n):Nat):Int):=ae;rw[e,<-yy,cT];by_cases h:m<=n
 ·rw[iM h]
 ·rw[nY aa,Nat.mul_mod_left];have :2^n∣x.toNat*2^m:=⟨x.toNat*2^(m-n),by
   rw[show m=n+(m-n) by omega,qm];rw[show n+(m-n)-n=m-n by omega,Eo]⟩
  rw[Nat.mod_eq_zero_of_dvd this]
theorem LW {n:Nat}(x:BitVec n)(m:Nat):((x.toNat:Int).fdiv (2^(min m n)))=((x>>>m).toNat:Int):=by
 rw[oq,nT];have e:(2:Int)^(min m n)=((2^(min m n):Nat):Int):=ae;rw[e,Int.fdiv_eq_ediv_of_nonneg _ (Int.natCast_nonneg _),<-Int.natCast_ediv];congr 1;by_cases h:m<=n
 ·rw[iM h]
 ·rw[nY aa];have h1:=x.isLt;have h2:x.toNat<2^m:=mw h1 (xB aa aa);rw[zR h1,zR h2]
theorem uP (a:k.signed=false)(op:BinOp)(x:BitVec k.bits)(b:IntKind)(y:Int)(d:0<=y)(c:op= .shl\/op= .shr):
  (binOp op t (.int k x.toNat) (.int b y)).run P w= .ok (.int k (match op with| .shl=>(x<<<y.toNat).toNat|_=>(x>>>y.toNat).toNat)) w:=by
 have h0:¬ y<0:=aa;rcases c with rfl|rfl
 ·simp only[binOp,Op.shift,if_neg h0,Sem.run_pure];rw[wk k a,VE]
 ·simp only[binOp,Op.shift,if_neg h0,Sem.run_pure];rw[LW]
theorem Fo (op:BinOp)(x:Int)(a:IntKind)(y:Int)(c:0<=y)(b:op= .shl\/op= .shr):
  (binOp op t (.int .i64 x) (.int a y)).run P w= .ok (.int .i64 (match op with| .shl=>F2 x y.toNat|_=>HX x y.toNat)) w:=by
 have h0:¬ y<0:=aa;rcases b with rfl|rfl
 ·simp only[binOp,Op.shift,if_neg h0,Sem.run_pure];rfl
 ·simp only[binOp,Op.shift,if_neg h0,Sem.run_pure];rfl
end
section
variable {ρ:Nat->Nat×Nat}{dom:Nat->Prop}{P:Program}{w:World}{t:TypeId}
theorem OC {y:V}{a:Value}{n:Nat}{pre:Prop}(h:wX y=some (n,pre))(c:pre)(b:VR ρ dom w y a):∃ d z,a= .int d z/\0<=z/\z.toNat=n:=by
 cases y<;>simp only[wX,cf,gI,seval] at h<;>obtain⟨rfl,rfl⟩:=h<;>unfold VR at b<;>subst b
 ·exact⟨_,_,rfl,aa,aa⟩
 ·exact⟨_,_,rfl,aa,aa⟩
 ·exact⟨_,_,rfl,aa,aa⟩
 ·exact⟨_,_,rfl,c,rfl⟩
theorem HJ {op:BinOp}(d:op= .shl\/op= .shr){x y:V}{rx e:Value}{n:Nat}{pre:Prop}{res:Res}(h:wX y=some (n,pre))(h2:sG op x n pre=some res)(g:res.pre)
  (f:VR ρ dom w x rx) (i:VR ρ dom w y e):∃ r,(binOp op t rx e).run P w= .ok r w/\VR ρ dom w res.v r:=by
 have c:pre:=by
  rcases d with rfl|rfl<;>cases x<;>simp only[sG,cf,seval] at h2<;>subst h2<;>exact g
 obtain⟨a,z,rfl,b,rfl⟩:=OC h c i;rcases d with rfl|rfl<;>cases x<;>simp only[sG,cf,seval] at h2<;>subst h2<;>unfold VR at f<;>subst f
 ·exact⟨_,uP w t .u8 rfl .shl _ a z b (.inl rfl),by unfold VR;rfl⟩
 ·exact⟨_,uP w t .u32 rfl .shl _ a z b (.inl rfl),by unfold VR;rfl⟩
 ·exact⟨_,uP w t .u64 rfl .shl _ a z b (.inl rfl),by unfold VR;rfl⟩
 ·exact⟨_,Fo w t .shl _ a z b (.inl rfl),by unfold VR;rfl⟩
 ·exact⟨_,uP w t .u8 rfl .shr _ a z b (.inr rfl),by unfold VR;rfl⟩
 ·exact⟨_,uP w t .u32 rfl .shr _ a z b (.inr rfl),by unfold VR;rfl⟩
 ·exact⟨_,uP w t .u64 rfl .shr _ a z b (.inr rfl),by unfold VR;rfl⟩
 ·exact⟨_,Fo w t .shr _ a z b (.inr rfl),by unfold VR;rfl⟩
theorem Vi (a b:ByteArray):bytesOf (a++b)=bytesOf a++bytesOf b:=by
 unfold bytesOf;rw[ByteArray.data_append,Dy,gD]
theorem Cr (a b:ByteArray):(a.toList==b.toList)=decide (bytesOf a=bytesOf b):=by
 rw[lN];simp only[beq_iff_eq,decide_eq_true_eq,ByteArray.toList_eq];exact⟨fun h=>by unfold bytesOf;rw[h],fun h=>by rw[Qj h]⟩
theorem aat {op:BinOp}{x y:List ai}{rx c:Value}{res:Res}(h:s8 op x y=some res)(g:res.pre)(d:VR ρ dom w (.str x) rx)(f:VR ρ dom w (.str y) c):
  ∃ r,(binOp op t rx c).run P w= .ok r w/\VR ρ dom w res.v r:=by
 unfold VR at d f;obtain⟨a,rfl,rfl⟩:=d;obtain⟨b,rfl,rfl⟩:=f;cases op<;>simp only[s8,cf,seval] at h<;>subst h
 ·have i:¬ (((a.size+b.size:Nat):Int)>IntKind.i64.max):=by
   have :(bytesOf a).length+(bytesOf b).length<=4611686018427387904:=g;rw[kF,kF] at this;have e:IntKind.i64.max=9223372036854775807:=ah;rw[e];omega
  refine⟨.string (a++b),?_,by unfold VR;exact⟨_,rfl,Vi a b⟩⟩;simp only[binOp,Op.stringOp,if_neg i,Sem.run_pure]
 ·exact⟨_,by simp only[binOp,Op.stringOp,Sem.run_pure];rfl,by unfold VR;rw[Cr]⟩
 ·exact⟨_,by simp only[binOp,Op.stringOp,Sem.run_pure];rfl,by unfold VR;rw[Cr];simp⟩
end
end Go.Vm
