/- Binary and unary operations and conversions between integers: the machine's answer reads as the virtual one. -/
import Derived.Laws.StructEq
import Derived.Laws.Entries
import Derived.WideLaws
import Derived.Test.YtidjknjilnopnaaGreatDoorVmAToVmC
set_option linter.unusedVariables false
set_option linter.unusedSimpArgs false
set_option maxRecDepth 20000
set_option maxHeartbeats 8000000
namespace Go.Vm
theorem CG (k:IntKind)(h:k.signed=false)(n:Int):k.wrap n=((BitVec.ofInt k.bits n).toNat:Int):=by
 unfold IntKind.wrap;simp only[h,Bool.false_and,fh,fH,rO];have :(0:Int)<=n%((2^k.bits:Nat):Int):=Int.emod_nonneg _ (by have :=Nat.two_pow_pos k.bits;omega);rw[Int.toNat_of_nonneg this];simp
theorem qF {n:Nat}(x:BitVec n):BitVec.ofInt n (x.toNat:Int)=x:=by
 apply iU;have :=x.isLt;rw[rO];have :((x.toNat:Int)%((2^n:Nat):Int))=(x.toNat:Int):=C7 I I;rw[this];rfl
theorem MC (k:IntKind)(h:k.signed=false)(x:BitVec k.bits):k.wrap (x.toNat:Int)=x.toNat:=by rw[CG k h,qF]
section
variable {P:Program}(w:World)(t:TypeId)(k:IntKind)
theorem JW (f:k.signed=false)(mk:BitVec k.bits->V)(op:BinOp)(x y:BitVec k.bits)(res:bu)(h:wH mk op x y=some res)(g:res.pre)(i:op≠ .shl/\op≠ .shr):
  ∃ r,(binOp op t (.int k x.toNat) (.int k y.toNat)).run P w= .ok r w/\((∃ z,res.v=mk z/\r= .int k z.toNat)\/(∃ b,res.v= .bool b/\r= .bool b)):=by
 have c:∀ (z:Int) (u:BitVec k.bits),BitVec.ofInt k.bits z=u->k.wrap z=u.toNat:=fun z u j=>by rw[CG k f,j]
 have a:∀ u:BitVec k.bits,k.wrap (u.toNat:Int)=u.toNat:=MC k f;cases op<;>simp only[wH,eg,seval] at h<;>(try subst h)<;>simp only[binOp,ic,yH,fH,Op.intArith,Op.intDiv,Op.intBits,Op.intCmp,dI,Sem.run_ite,qF]<;>
  (try exact absurd rfl i.1)<;>(try exact absurd rfl i.2)
 case add=>exact⟨_,rfl,.inl ⟨_,rfl,by rw[c _ (x+y) (by rw[JV,qF,qF])]⟩⟩
 case sub=>exact⟨_,rfl,.inl ⟨_,rfl,by rw[c _ (x-y) (by rw[Int.sub_eq_add_neg,JV,BitVec.ofInt_neg,qF,qF,BitVec.sub_eq_add_neg])]⟩⟩
 case mul=>exact⟨_,rfl,.inl ⟨_,rfl,by rw[c _ (x*y) (by rw[BitVec.ofInt_mul,qF,qF])]⟩⟩
 case quo=>
  have d:¬ ((y.toNat:Int)=0):=fun e=>g (iU (by simpa using e))
  rw[aq d];exact⟨_,rfl,.inl ⟨_,rfl,by
   rw[show((x.toNat:Int).tdiv y.toNat)=(((x/y).toNat:Nat):Int) by rw[BitVec.toNat_udiv];rfl,a]⟩⟩
 case rem=>
  have d:¬ ((y.toNat:Int)=0):=fun e=>g (iU (by simpa using e))
  rw[aq d];exact⟨_,rfl,.inl ⟨_,rfl,by
   rw[show((x.toNat:Int).tmod y.toNat)=(((x%y).toNat:Nat):Int) by rw[BitVec.toNat_umod];rfl]⟩⟩
 case and=>exact⟨_,rfl,.inl ⟨_,rfl,by rw[a]⟩⟩
 case or=>exact⟨_,rfl,.inl ⟨_,rfl,by rw[a]⟩⟩
 case xor=>exact⟨_,rfl,.inl ⟨_,rfl,by rw[a]⟩⟩
 case andNot=>exact⟨_,rfl,.inl ⟨_,rfl,by rw[a]⟩⟩
 case eql=>exact⟨_,rfl,.inr ⟨_,rfl,by congr 1;rw[qw];simp[Jr,Int.ofNat_inj]⟩⟩
 case neq=>exact⟨_,rfl,.inr ⟨_,rfl,by congr 1;rw[qw];simp[Jr,Int.ofNat_inj]⟩⟩
 case lss=>exact⟨_,rfl,.inr ⟨_,rfl,by congr 1;rw[qw];simp[Bz]⟩⟩
 case leq=>exact⟨_,rfl,.inr ⟨_,rfl,by congr 1;rw[qw];simp[BitVec.le_def]⟩⟩
 case gtr=>exact⟨_,rfl,.inr ⟨_,rfl,by congr 1;rw[qw];simp[Bz]⟩⟩
 case geq=>exact⟨_,rfl,.inr ⟨_,rfl,by congr 1;rw[qw];simp[BitVec.le_def]⟩⟩
theorem UB (op:BinOp)(x y:Int)(res:bu)(h:zF op x y=some res)(a:res.pre)(c:op≠ .shl/\op≠ .shr):
  ∃ r,(binOp op t (.int .i64 x) (.int .i64 y)).run P w= .ok r w/\((∃ z,res.v= .i64 z/\r= .int .i64 z)\/(∃ b,res.v= .bool b/\r= .bool b)):=by
 cases op<;>simp only[zF,FD,eg,seval] at h<;>(try subst h)<;>simp only[binOp,ic,yH,fH,Op.intArith,Op.intDiv,Op.intBits,Op.intCmp,dI,Sem.run_ite]<;>
  (try exact absurd rfl c.1)<;>(try exact absurd rfl c.2)
 case quo=>rw[aq a];exact⟨_,rfl,.inl ⟨_,rfl,rfl⟩⟩
 case rem=>rw[aq a];exact⟨_,rfl,.inl ⟨_,rfl,rfl⟩⟩
 case eql=>exact⟨_,rfl,.inr ⟨_,rfl,by congr 1⟩⟩
 case neq=>exact⟨_,rfl,.inr ⟨_,rfl,by congr 1;rw[qw];simp⟩⟩
 all_goals first
  |exact⟨_,rfl,.inl ⟨_,rfl,rfl⟩⟩
  |exact⟨_,rfl,.inr ⟨_,rfl,rfl⟩⟩
theorem ah0 {n:Nat}(x:BitVec n)(m:Nat):BitVec.ofInt n ((x.toNat:Int)*2^(min m n))=x<<<m:=by
 apply iU;rw[rO,Be,Ak];have e:((x.toNat:Int)*2^(min m n))=((x.toNat*2^(min m n):Nat):Int):=J;rw[e,<-F1,iG];by_cases h:m<=n
 .rw[lH h]
 .rw[uj I,Nat.mul_mod_left];have :2^n∣x.toNat*2^m:=⟨x.toNat*2^(m-n),by
   rw[show m=n+(m-n) by omega,vP];rw[show n+(m-n)-n=m-n by omega,KR]⟩
  rw[Nat.mod_eq_zero_of_dvd this]
theorem Xp {n:Nat}(x:BitVec n)(m:Nat):((x.toNat:Int).fdiv (2^(min m n)))=((x>>>m).toNat:Int):=by
 rw[uJ,tI];have e:(2:Int)^(min m n)=((2^(min m n):Nat):Int):=J;rw[e,Int.fdiv_eq_ediv_of_nonneg _ (Int.natCast_nonneg _),<-Int.natCast_ediv];congr 1;by_cases h:m<=n
 .rw[lH h]
 .rw[uj I];have a:=x.isLt;have b:x.toNat<2^m:=pI a (Cq I I);rw[Fj a,Fj b]
theorem zQ (a:k.signed=false)(op:BinOp)(x:BitVec k.bits)(b:IntKind)(y:Int)(d:0<=y)(c:op= .shl\/op= .shr):
  (binOp op t (.int k x.toNat) (.int b y)).run P w= .ok (.int k (match op with| .shl=>(x<<<y.toNat).toNat|_=>(x>>>y.toNat).toNat)) w:=by
 have e:¬ y<0:=I;rcases c with rfl|rfl
 .simp only[binOp,Op.shift,aq e,dI];rw[CG k a,ah0]
 .simp only[binOp,Op.shift,aq e,dI];rw[Xp]
theorem O3 (op:BinOp)(x:Int)(a:IntKind)(y:Int)(c:0<=y)(b:op= .shl\/op= .shr):
  (binOp op t (.int .i64 x) (.int a y)).run P w= .ok (.int .i64 (match op with| .shl=>vk x y.toNat|_=>Pz x y.toNat)) w:=by
 have d:¬ y<0:=I;rcases b with rfl|rfl
 .simp only[binOp,Op.shift,aq d,dI];rfl
 .simp only[binOp,Op.shift,aq d,dI];rfl
end
section
variable {ρ:Nat->Nat×Nat}{dom:Nat->Prop}{P:Program}{w:World}{t:TypeId}
theorem UY {y:V}{a:Value}{n:Nat}{pre:Prop}(h:Cn y=some (n,pre))(c:pre)(b:VR ρ dom w y a):∃ d z,a= .int d z/\0<=z/\z.toNat=n:=by
 cases y<;>simp only[Cn,eg,lW,seval] at h<;>obtain⟨rfl,rfl⟩:=h<;>unfold VR at b<;>subst b
 .exact⟨_,_,rfl,I,I⟩
 .exact⟨_,_,rfl,I,I⟩
 .exact⟨_,_,rfl,I,I⟩
 .exact⟨_,_,rfl,c,rfl⟩
theorem MZ {op:BinOp}(d:op= .shl\/op= .shr){x y:V}{j e:Value}{n:Nat}{pre:Prop}{res:bu}(h:Cn y=some (n,pre))(h2:yw op x n pre=some res)(g:res.pre)
  (f:VR ρ dom w x j) (i:VR ρ dom w y e):∃ r,(binOp op t j e).run P w= .ok r w/\VR ρ dom w res.v r:=by
 have c:pre:=by
  rcases d with rfl|rfl<;>cases x<;>simp only[yw,eg,seval] at h2<;>subst h2<;>exact g
 obtain⟨a,z,rfl,b,rfl⟩:=UY h c i;rcases d with rfl|rfl<;>cases x<;>simp only[yw,eg,seval] at h2<;>subst h2<;>unfold VR at f<;>subst f
 .exact⟨_,zQ w t .u8 rfl .shl _ a z b (.inl rfl),by unfold VR;rfl⟩
 .exact⟨_,zQ w t .u32 rfl .shl _ a z b (.inl rfl),by unfold VR;rfl⟩
 .exact⟨_,zQ w t .u64 rfl .shl _ a z b (.inl rfl),by unfold VR;rfl⟩
 .exact⟨_,O3 w t .shl _ a z b (.inl rfl),by unfold VR;rfl⟩
 .exact⟨_,zQ w t .u8 rfl .shr _ a z b (.inr rfl),by unfold VR;rfl⟩
 .exact⟨_,zQ w t .u32 rfl .shr _ a z b (.inr rfl),by unfold VR;rfl⟩
 .exact⟨_,zQ w t .u64 rfl .shr _ a z b (.inr rfl),by unfold VR;rfl⟩
 .exact⟨_,O3 w t .shr _ a z b (.inr rfl),by unfold VR;rfl⟩
theorem ac1 (a b:ByteArray):bytesOf (a++b)=bytesOf a++bytesOf b:=by
 unfold bytesOf;rw[ByteArray.data_append,J5,lw]
theorem GQ (a b:ByteArray):(a.toList==b.toList)=decide (bytesOf a=bytesOf b):=by
 rw[qw];simp only[Br,AG,ByteArray.toList_eq];exact⟨fun h=>by unfold bytesOf;rw[h],fun h=>by rw[aap h]⟩
theorem YW {op:BinOp}{x y:Z}{j c:Value}{res:bu}(h:yI op x y=some res)(g:res.pre)(d:VR ρ dom w (.str x) j)(f:VR ρ dom w (.str y) c):
  ∃ r,(binOp op t j c).run P w= .ok r w/\VR ρ dom w res.v r:=by
 unfold VR at d f;obtain⟨a,rfl,rfl⟩:=d;obtain⟨b,rfl,rfl⟩:=f;cases op<;>simp only[yI,eg,seval] at h<;>subst h
 .have i:¬ (((a.size+b.size:Nat):Int)>IntKind.i64.max):=by
   have :(bytesOf a).length+(bytesOf b).length<=4611686018427387904:=g;rw[pR,pR] at this;have e:IntKind.i64.max=9223372036854775807:=ag;rw[e];omega
  refine⟨.string (a++b),?_,by unfold VR;exact⟨_,rfl,ac1 a b⟩⟩;simp only[binOp,Op.stringOp,aq i,dI]
 .exact⟨_,by simp only[binOp,Op.stringOp,dI];rfl,by unfold VR;rw[GQ]⟩
 .exact⟨_,by simp only[binOp,Op.stringOp,dI];rfl,by unfold VR;rw[GQ];simp⟩
end
end Go.Vm
