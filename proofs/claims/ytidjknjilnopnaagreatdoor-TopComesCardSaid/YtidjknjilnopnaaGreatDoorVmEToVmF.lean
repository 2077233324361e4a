/- Proved: laws of a machine of values; no conditions but each theorem's own. -/
import Derived.ChangeKeysEq
import Derived.Laws.IdiomStrings
import Derived.Test.YtidjknjilnopnaaGreatDoorVmD
set_option linter.unusedVariables false
set_option linter.unusedSimpArgs false
set_option maxRecDepth 20000
set_option maxHeartbeats 8000000
section
namespace Go.Vm
section
section
variable {ρ:Nat->Nat×Nat}{dom:Nat->Prop}{P:Program}{w:World}{t:TypeId}
theorem Di (d:Nat){x y:V}{j g:Value}{b:Bool}(ht:v8 P t x=true)(h:x.Fx y=some b)(e:VR ρ dom w x j)(f:VR ρ dom w y g):
  (Op.equalIn (d+1) t j g).run P w= .ok b w:=by
 unfold v8 at ht;split at ht<;>rename_i i<;>(try cases ht)<;>cases y<;>simp only[V.Fx,eg,seval] at h<;>unfold VR at e f<;>(try subst e)<;>(try subst f)<;>(try subst h)
 case h_6.refl.bool=>rw[run_equalIn_bool' w d t _ _ i];congr 1
 case h_7.refl.str=>
  obtain⟨a,rfl,rfl⟩:=e;obtain⟨c,rfl,rfl⟩:=f;rw[run_equalIn_string w d t _ _ i,GQ]
 all_goals(rw[run_equalIn_int w d t _ _ _ _ i];congr 1)
 all_goals(rw[qw];simp[Jr,Int.ofNat_inj])
theorem aco {x:V}(ht:v8 P t x=true):(isAgg t).run P w= .ok false w:=by
 unfold v8 at ht;unfold isAgg;split at ht<;>rename_i a<;>(try cases ht)<;>simp[dS a]
theorem zW {x:V}(ht:v8 P t x=true){xs:Array Value}{i:Nat}{r:Value}(h:xs.toList[i]?=some r):(part t xs i).run P w= .ok r w:=by
 unfold part;rw[dx,aco ht];have :xs[i]?=some r:=by rw[<-h];simp
 simp[this]
theorem Tn (d:Nat){xs ys:Array Value}:∀ (fs:List Field) (i:Nat) (c e:List V) (b:Bool),FU fs i=true->gF P (fs.map (·.type)) c e=some b->
  ao ρ dom w c (xs.toList.drop i)->ao ρ dom w e (ys.toList.drop i)->(Op.eqFields (d+1) xs ys fs).run P w= .ok b w
 |[],i,c,e,b,_,h,g,j=>by
  cases c<;>cases e<;>simp[gF] at h;subst h;rfl
 |f::fs,i,[],e,b,_,h,_,_=>by simp[gF] at h
 |f::fs,i,x::c,[],b,_,h,_,_=>by simp[gF] at h
 |f::fs,i,x::c,y::e,b,A,h,g,j=>by
  simp only[FU,lY,Br,bne_iff_ne] at A;obtain⟨⟨H,r⟩,A⟩:=A;simp only[dD,gF] at h;split at h
  case isFalse=>cases h
  rename_i a;split at h
  case h_2=>cases h
  rename_i E s F G;injection h with h
  subst h;unfold ao at g j;obtain⟨K,k,B,l,m⟩:=g;obtain⟨u,n,q,o,p⟩:=j;have v:xs.toList[i]?=some K:=by have :=dN (·[0]?) B;simpa using this
  have z:ys.toList[i]?=some u:=by have :=dN (·[0]?) q;simpa using this
  have C:k=xs.toList.drop (i+1):=by have :=dN (List.drop 1) B;rw[l9] at this;simpa using this.symm
  have D:n=ys.toList.drop (i+1):=by have :=dN (List.drop 1) q;rw[l9] at this;simpa using this.symm
  have ih:=Tn d fs (i+1) c e s A G (C▸m) (D▸p);simp only[Op.eqFields,H,aM r,dx,zW a v,zW a z,Di d a F l o,eQ];cases E
  .simp
  .simp[ih]
theorem PU (d:Nat){xs ys:Array Value}{e:TypeId}(A:P.cellsOf e=1):∀ (n i:Nat) (c f:List V) (b:Bool),gF P (List.replicate n e) c f=some b->
  ao ρ dom w c (xs.toList.drop i)->ao ρ dom w f (ys.toList.drop i)->(Op.eqItems (d+1) e (P.cellsOf e) xs ys (List.range' i n)).run P w= .ok b w
 |0,i,c,f,b,h,g,j=>by
  cases c<;>cases f<;>simp[gF] at h;subst h;rfl
 |n+1,i,[],f,b,h,_,_=>by simp[gF,vZ] at h
 |n+1,i,x::c,[],b,h,_,_=>by simp[gF,vZ] at h
 |n+1,i,x::c,y::f,b,h,g,j=>by
  simp only[vZ,gF] at h;split at h
  case isFalse=>cases h
  rename_i a;split at h
  case h_2=>cases h
  rename_i E s F G;injection h with h
  subst h;unfold ao at g j;obtain⟨H,k,B,l,m⟩:=g;obtain⟨u,o,r,p,q⟩:=j;have v:xs.toList[i]?=some H:=by have :=dN (·[0]?) B;simpa using this
  have z:ys.toList[i]?=some u:=by have :=dN (·[0]?) r;simpa using this
  have C:k=xs.toList.drop (i+1):=by have :=dN (List.drop 1) B;rw[l9] at this;simpa using this.symm
  have D:o=ys.toList.drop (i+1):=by have :=dN (List.drop 1) r;rw[l9] at this;simpa using this.symm
  have ih:=PU d A n (i+1) c f s G (C▸m) (D▸q);rw[A] at ih;simp only[List.range'_succ,Op.eqItems,A,Nat.mul_one,dx,zW a v,zW a z,Di d a F l p,eQ];cases E
  .simp
  .simp[ih]
theorem R6:∀ {g l2:List TypeId} {d e:List V} {b:Bool},gF P (g++l2) d e=some b->∃ i f,gF P g (d.take g.length) (e.take g.length)=some i/\gF P l2 (d.drop g.length) (e.drop g.length)=some f/\b=(i&&f)/\g.length<=d.length/\g.length<=e.length
 |[],l2,d,e,b,h=>⟨true,b,by simp[gF],by simpa using h,J,J,J⟩
 |t::g,l2,[],e,b,h=>by simp[gF] at h
 |t::g,l2,x::d,[],b,h=>by simp[gF] at h
 |t::g,l2,x::d,y::e,b,h=>by
  simp only[kG,gF] at h;split at h
  case isFalse=>cases h
  rename_i j;split at h
  case h_2=>cases h
  rename_i a c k l;injection h with h
  obtain⟨i,f,m,n,rfl,o,p⟩:=R6 l;refine⟨a&&i,f,?_,by simpa using n,?_,by simpa using o,by simpa using p⟩
  .simp[gF,j,k,m]
  .rw[<-h,Bool.and_assoc]
theorem NZ {t:TypeId}{fs:Array Field}(b:P.underlying t=some (.struct fs)){n:Nat}(a:bU P t=some n)(xs:Array Value)(i:Nat):(part t xs i).run P w= .ok (.agg (xs.extract i (i+n))) w:=by
 have c:(isAgg t).run P w= .ok true w:=by unfold isAgg;simp[dS b]
 unfold bU at a;cases hi:P.info? t with
 |none=>rw[hi] at a;cases a
 |some i=>
  have d:P.cellsOf t=n:=by unfold Program.cellsOf;rw[a];rfl
  unfold part;simp only[dx,c,eQ,eJ,run_sizeOf w hi,d,dI]
theorem Qq:∀ (d:Nat) (t:TypeId) (l:List TypeId) (D:Nat) (m n:List V) (b:Bool) (xs ys:Array Value) (i:Nat),BL P d t=some l->gF P l m n=some b->
  ao ρ dom w m ((xs.toList.drop i).take l.length)->ao ρ dom w n ((ys.toList.drop i).take l.length)->bU P t=some l.length->
  ((part t xs i).run P w).andThen (fun x w1=>((part t ys i).run P w1).andThen fun y A=>(Op.equalIn (D+d) t x y).run P A)= .ok b w
 |0,_,_,_,_,_,_,_,_,_,h,_,_,_,_=>by cases h
 |d+1,t,l,D,m,n,b,xs,ys,i,h,g,B,C,E=>by
  unfold BL at h;split at h
  .rename_i fs hu;split at h
   .cases h
   rename_i F;have u:P.stoodInHeld t=false:=by simpa using F
   have v:P.fieldsOf t=fs:=by unfold Program.fieldsOf;rw[hu]
   simp only[NZ hu E,eQ];rw[show D+(d+1)=(D+d)+1 from rfl,run_equalIn_struct w _ t _ _ (by rw[v];exact hu) u,v];have b2:∀ (z:List Field) (j:Nat) (o:List TypeId) (p q:List V) (c:Bool),EZ P (BL P d) z j=some o->gF P o p q=some c->j+o.length=l.length->
     ao ρ dom w p ((xs.toList.drop (i+j)).take o.length)->ao ρ dom w q ((ys.toList.drop (i+j)).take o.length)->
     (Op.eqFields (D+d) (xs.extract i (i+l.length)) (ys.extract i (i+l.length)) z).run P w= .ok c w:=by
    intro z;induction z with
    |nil=>
     intro j o p q c h1 h2 _ _ _;cases h1;cases p<;>cases q<;>simp[gF] at h2;subst h2;rfl
    |cons f z ih=>
     intro j o p q c h1 h2 S r s;unfold EZ at h1;split at h1
     case isFalse=>cases h1
     rename_i hf;simp only[lY,Br,bne_iff_ne] at hf;obtain⟨ho,T⟩:=hf;split at h1
     case h_2=>cases h1
     rename_i l1 G;split at h1
     case isFalse=>cases h1
     rename_i H;obtain⟨l2,K,rfl⟩:=yy.1 h1;obtain⟨b1,O,g1,g2,rfl,g4,g5⟩:=R6 h2;rw[bA] at S r s;have ex:∀ (zs:Array Value),(((zs.extract i (i+l.length)).toList.drop j).take l1.length)=((zs.toList.drop (i+j)).take l1.length):=fun zs=>by
      rw[Array.toList_extract];simp only[List.extract_eq_take_drop,Nat.add_sub_cancel_left];rw[AV,wO,lH I,l9]
     have t1:∀ (us:List V) (zs:Array Value),ao ρ dom w us ((zs.toList.drop (i+j)).take (l1.length+l2.length))->ao ρ dom w (us.take l1.length) (((zs.extract i (i+l.length)).toList.drop j).take l1.length):=fun us zs L=>by
      have :=L.take l1.length;rw[wO,lH I] at this;rw[ex];exact this
     have t2:∀ (us:List V) (zs:Array Value),ao ρ dom w us ((zs.toList.drop (i+j)).take (l1.length+l2.length))->ao ρ dom w (us.drop l1.length) ((zs.toList.drop (i+(j+l1.length))).take l2.length):=fun us zs L=>by
      have :=L.drop l1.length;rw[AV,l9,Nat.add_sub_cancel_left] at this;rw[<-qe];exact this
     have k:=Qq d f.type l1 D _ _ b1 (xs.extract i (i+l.length)) (ys.extract i (i+l.length)) j G g1 (t1 p xs r) (t1 q ys s) H;have W:=ih (j+l1.length) l2 _ _ O K g2 I (t2 p xs r) (t2 q ys s);simp only[Op.eqFields,ho,aM T,dx];cases Q:(part f.type (xs.extract i (i+l.length)) j).run P w with
     |ok x w1=>
      rw[Q] at k;simp only[eQ] at k |-
      cases R:(part f.type (ys.extract i (i+l.length)) j).run P w1 with
      |ok y A=>
       rw[R] at k;simp only[eQ] at k |-
       rw[k];simp only[eQ];cases b1
       .simp
       .simp[W]
      |halt e A=>rw[R] at k;cases k
     |halt e w1=>rw[Q] at k;cases k
   exact b2 fs.toList 0 l m n b h g I B C
  .cases h
  .rename_i X Y;split at h
   case isFalse=>cases h
   cases h;cases m with
   |nil=>simp[gF] at g
   |cons x m=>
    cases n with
    |nil=>simp[gF] at g
    |cons y n=>
     simp only[gF] at g;split at g
     case isFalse=>cases g
     rename_i a;split at g
     case h_2=>cases g
     rename_i b1 O h1 h2;cases m<;>cases n<;>simp[gF] at h2;subst h2;simp only[Bool.and_true,eg] at g;subst g;unfold ao at B C;obtain⟨rx,a6,ex,M,a7⟩:=B;obtain⟨ry,a8,ey,N,b0⟩:=C;have gx:xs.toList[i]?=some rx:=by have :=dN (·[0]?) ex;simpa [uE] using this
     have gy:ys.toList[i]?=some ry:=by have :=dN (·[0]?) ey;simpa [uE] using this
     simp only[zW a gx,zW a gy,eQ];exact Di (D+d) a h1 M N
theorem ait {xs ys:List V}{G q:Value}{r:List TypeId}{b:Bool}(h:HC P t=some r)(k:gF P r xs ys=some b)(a:VR ρ dom w (.agg xs) G)(c:VR ρ dom w (.agg ys) q):
  (Op.equal t G q).run P w= .ok b w/\P.eqGuardType P.depth t=false:=by
 unfold VR at a c;obtain⟨m,rfl,a⟩:=a;obtain⟨o,rfl,c⟩:=c;unfold HC at h;split at h
 .rename_i K D;split at h
  case isFalse=>
   split at h
   .cases h
   rename_i L;refine⟨?_,by simpa using L⟩;split at h
   case h_2=>cases h
   rename_i l u;split at h
   case isFalse=>cases h
   rename_i g;injection h with h
   subst h;have C:∀ (l:List TypeId) (d f:List V) (b:Bool),gF P l d f=some b->d.length=l.length/\f.length=l.length:=by
    intro l;induction l with
    |nil=>intro d f b h;cases d<;>cases f<;>simp[gF] at h |-
    |cons t l ih=>
     intro d f b h;cases d with
     |nil=>simp[gF] at h
     |cons x d=>
      cases f with
      |nil=>simp[gF] at h
      |cons y f=>
       simp only[gF] at h;split at h
       case isFalse=>cases h
       split at h
       case h_2=>cases h
       rename_i M;have :=ih _ _ _ M;simp[this.1,this.2]
   obtain⟨N,O⟩:=C _ _ _ _ k;have v:=a.length;have z:=c.length;have s:=Qq 4 t l 9996 xs ys b m o 0 u k (by rw[nW,bq I];exact a) (by rw[nW,bq I];exact c) g;have H:∀ (E:Array Value),E.toList.length=l.length->E.extract 0 (0+l.length)=E:=fun E A=>by
    apply Az;rw[Array.toList_extract];simp only[List.extract_eq_take_drop,nW];exact bq I
   simp only[NZ D g,eQ,H m I,H o I] at s;exact s
  rename_i B;simp only[lY,vm] at B;injection h with h
  subst h;refine⟨?_,B.2⟩;have j:P.fieldsOf t=K:=by unfold Program.fieldsOf;rw[D]
  unfold Op.equal;rw[show Op.maxDepth=9998+1+1 from rfl,run_equalIn_struct w _ t m o (by rw[j];exact D) B.1.2,j];exact Tn 9998 K.toList 0 xs ys b B.1.1 k (by simpa using a) (by simpa using c)
 .rename_i n e D;split at h
  case isFalse=>cases h
  rename_i B;simp only[lY,vm,Br] at B;injection h with h
  subst h;refine⟨?_,B.2⟩;have F:=B.1;unfold bU at F;cases hi:P.info? e with
  |none=>rw[hi] at F;cases F
  |some i=>
   have p:P.cellsOf e=1:=by unfold Program.cellsOf;rw[F];rfl
   unfold Op.equal;rw[show Op.maxDepth=9998+1+1 from rfl,run_equalIn_array w _ m o D hi,List.range_eq_range'];exact PU 9998 p n 0 xs ys b k (by simpa using a) (by simpa using c)
 .cases h
def PC (r:Value):V->Prop
  | .ptr _ _=>∃ a,r= .pointer (some a)
  | .nilPtr=>r= .pointer none
  | .slice _ _ _ _=>∃ a n c,r= .slice (some a) n c
  | .bG=>r= .slice none 0 0
  | .fn _ _ _=>∃ f a b,r= .func f a b
  | .ff=>r= .nilFunc
  | .iface _ _=>∃ t v,r= .iface t v
  | .nilIface=>r= .nilIface
  |_=>True
theorem SY {x:V}{r:Value}(h:VR ρ dom w x r):PC r x:=by
 cases x<;>unfold VR at h
 case ptr=>exact⟨_,h.2⟩
 case slice=>obtain⟨_,a,c,h,_⟩:=h;exact⟨a,_,c,h⟩
 case fn=>obtain⟨a,c,h,_⟩:=h;exact⟨_,a,c,h⟩
 case iface=>obtain⟨a,h,_⟩:=h;exact⟨_,a,h⟩
 all_goals first|exact h|exact trivial
theorem ai1 {x y:V}{o g:Value}(h:DM P t x y=true)(i:VR ρ dom w x o)(j:VR ρ dom w y g):
  (Op.equal t o g).run P w= .ok (wE x==wE y) w/\¬ (o= .nilIface/\g= .nilIface)/\(∀ k n,o≠ .int k n)/\(∀ k n,g≠ .int k n)/\(∀ s,o≠ .string s)/\(∀ c,o≠ .agg c)/\(∀ k n,o≠ .float k n)/\(∀ k a b,o≠ .complex k a b):=by
 have e:=SY i;have f:=SY j;clear i j;unfold DM at h;unfold Op.equal;rw[show Op.maxDepth=9999+1 from rfl];generalize 9999=d;split at h<;>rename_i r<;>(try cases h)<;>unfold PC at e f;all_goals(first|obtain⟨p,u,v,rfl⟩:=e|obtain⟨p,u,rfl⟩:=e|obtain⟨p,rfl⟩:=e|subst e)
 all_goals(first|obtain⟨q,l,m,rfl⟩:=f|obtain⟨q,l,rfl⟩:=f|obtain⟨q,rfl⟩:=f|subst f)
 all_goals refine⟨?_,J,J,J,J,J,J,J⟩
 all_goals simp[Op.equalIn,dS r,wE]
theorem oC (op:BinOp)(x y:Operand)(a b:Value)(h1:¬ (a= .nilIface/\b= .nilIface))(h2:(∀ c,a≠ .agg c)\/P.eqGuardType P.depth t=false):(eqGuard op t x y a b).run P w= .ok () w:=by
 cases op<;>(try rfl);all_goals
  unfold eqGuard;simp only[oH,fh,fH];split
  .exact absurd ⟨rfl,rfl⟩ h1
  .rcases h2 with h2|h2
   .exact absurd rfl (h2 _)
   .simp[h2]
  .rfl
theorem xV {op:BinOp}{f d:Value}{b:Bool}(e:(Op.equal t f d).run P w= .ok b w)(c:op= .eql\/op= .neq)
  (h:(∀ k n,f≠ .int k n)/\(∀ s,f≠ .string s)/\(∀ k n,f≠ .float k n)/\(∀ k a b,f≠ .complex k a b)):
  (binOp op t f d).run P w= .ok (.bool (if op= .eql then b else ! b)) w:=by
 rcases c with rfl|rfl<;>cases f<;>simp_all [binOp]
theorem age {op:BinOp}{x y:V}{L f:Value}{m o:Operand}{res:bu}(h:zm P op t x y=some res)(g:res.pre)(c:VR ρ dom w x L)(d:VR ρ dom w y f):
  (∃ r,(do eqGuard op t m o L f;binOp op t L f:Sem Value).run P w= .ok r w/\VR ρ dom w res.v r):=by
 have G:∀ r,(eqGuard op t m o L f).run P w= .ok () w->(binOp op t L f).run P w= .ok r w->VR ρ dom w res.v r->(∃ r,(do eqGuard op t m o L f;binOp op t L f:Sem Value).run P w= .ok r w/\VR ρ dom w res.v r):=fun r K H k=>
  ⟨r,by rw[dx,K];exact H,k⟩
 unfold zm at h;split at h
 case h_1=>
  split at h
  case h_2=>cases h
  rename_i n pre N;obtain⟨r,K,H⟩:=MZ (t:=t) (.inl rfl) N h g c d;refine G r ?_ K H;unfold eqGuard;rfl
 case h_2=>
  split at h
  case h_2=>cases h
  rename_i n pre N;obtain⟨r,K,H⟩:=MZ (t:=t) (.inr rfl) N h g c d;refine G r ?_ K H;unfold eqGuard;rfl
 case h_3=>
  rename_i p q;have l:op≠ .shl/\op≠ .shr:=⟨fun e=>p e,fun e=>q e⟩;split at h
  case h_1=>
   unfold VR at c d;subst c;subst d;obtain⟨r,K,H⟩:=JW w t .u8 rfl .u8 op _ _ res h g l;refine G r (oC _ _ _ _ _ J (.inl J)) K ?_;rcases H with⟨z,H,rfl⟩|⟨b,H,rfl⟩<;>rw[H]<;>unfold VR<;>rfl
  case h_2=>
   unfold VR at c d;subst c;subst d;obtain⟨r,K,H⟩:=JW w t .u32 rfl .u32 op _ _ res h g l;refine G r (oC _ _ _ _ _ J (.inl J)) K ?_;rcases H with⟨z,H,rfl⟩|⟨b,H,rfl⟩<;>rw[H]<;>unfold VR<;>rfl
  case h_3=>
   unfold VR at c d;subst c;subst d;obtain⟨r,K,H⟩:=JW w t .u64 rfl .u64 op _ _ res h g l;refine G r (oC _ _ _ _ _ J (.inl J)) K ?_;rcases H with⟨z,H,rfl⟩|⟨b,H,rfl⟩<;>rw[H]<;>unfold VR<;>rfl
  case h_4=>
   unfold VR at c d;subst c;subst d;obtain⟨r,K,H⟩:=UB w t op _ _ res h g l;refine G r (oC _ _ _ _ _ J (.inl J)) K ?_;rcases H with⟨z,H,rfl⟩|⟨b,H,rfl⟩<;>rw[H]<;>unfold VR<;>rfl
  case h_5=>
   obtain⟨r,K,H⟩:=YW (P:=P) (t:=t) h g c d;unfold VR at c d;obtain⟨a,rfl,_⟩:=c;exact G r (oC _ _ _ _ _ J (.inl J)) K H
  case h_6=>
   unfold VR at c d;subst c;subst d;split at h<;>simp only[eg,seval] at h<;>subst h
   .exact G _ (oC _ _ _ _ _ J (.inl J)) (by simp only[binOp,ic,yH,fH,Op.intCmp,dI];rfl) (by unfold VR;congr 1)
   .exact G _ (oC _ _ _ _ _ J (.inl J)) (by simp only[binOp,ic,yH,fH,Op.intCmp,dI];rfl) (by unfold VR;congr 1;rw[qw];simp)
   .exact G _ (oC _ _ _ _ _ J (.inl J)) (by simp only[binOp,ic,yH,fH,Op.intArith,dI];rfl) (by unfold VR;rfl)
  case h_7=>
   split at h
   case isFalse=>cases h
   rename_i i;have K:=Di (w:=w) 9999 i (b:=decide _) rfl c d;have M:(Op.equal t L f).run P w= .ok _ w:=K;unfold VR at c d;subst c;subst d;split at h<;>simp only[eg,seval] at h<;>subst h
   .exact G _ (oC _ _ _ _ _ J (.inl J)) (xV M (.inl rfl) J) (by unfold VR;rfl)
   .exact G _ (oC _ _ _ _ _ J (.inl J)) (xV M (.inr rfl) J) (by unfold VR;rfl)
  case h_8=>
   obtain⟨O,Q,j⟩:True/\True/\True:=⟨trivial,trivial,trivial⟩;split at h
   case h_2=>cases h
   rename_i E j;split at h
   case h_2=>cases h
   rename_i b C;obtain⟨K,H⟩:=ait j C c d;unfold VR at c;obtain⟨a,rfl,_⟩:=c;split at h<;>simp only[eg,seval] at h<;>subst h
   .exact G _ (oC _ _ _ _ _ J (.inr H)) (xV K (.inl rfl) J) (by unfold VR;rfl)
   .exact G _ (oC _ _ _ _ _ J (.inr H)) (xV K (.inr rfl) J) (by unfold VR;rfl)
  case h_9=>
   split at h
   case isFalse=>cases h
   rename_i D;obtain⟨K,H,k,F,s,u,A,B⟩:=ai1 D c d;split at h<;>simp only[eg,seval] at h<;>subst h
   .exact G _ (oC _ _ _ _ _ H (.inl u)) (xV K (.inl rfl) ⟨k,s,A,B⟩) (by unfold VR;rfl)
   .exact G _ (oC _ _ _ _ _ H (.inl u)) (xV K (.inr rfl) ⟨k,s,A,B⟩) (by unfold VR;rfl)
theorem XE {t e:TypeId}{n:Nat}{b o a j:Nat}{c D:V}{cs q:List V}{m u:aV}{get:Nat->Option aa}{W v:Value}(Y:P.underlying t=some (.pointer e))(f:bU P e=some (n+1))(R:bS ρ dom get w)(k:get b=some ⟨false,c::cs,some m⟩)(g:get a=some ⟨false,D::q,some u⟩)(x:VR ρ dom w (.ptr b o) W)(y:VR ρ dom w (.ptr a j) v):
  (Op.equal t W v).run P w= .ok (decide (b=a/\o=j)) w:=by
 unfold VR at x y;obtain⟨-,rfl⟩:=x;obtain⟨-,rfl⟩:=y;obtain⟨O,S,E⟩:∃ O,P.info? e=some O/\O.size=n+1:=by
  unfold bU at f;cases S:P.info? e with
  |none=>rw[S] at f;cases f
  |some i=>rw[S] at f;injection f with f;exact⟨i,rfl,f⟩
 have h1:(Op.equal t (.pointer (some ⟨(ρ b).1,(ρ b).2+o,none⟩)) (.pointer (some ⟨(ρ a).1,(ρ a).2+j,none⟩))).run P w=(sameAddr ⟨(ρ b).1,(ρ b).2+o,none⟩ ⟨(ρ a).1,(ρ a).2+j,none⟩).run P w:=by
  unfold Op.equal;rw[show Op.maxDepth=9999+1 from rfl];generalize 9999=d;simp[Op.equalIn,dS Y,sizeOf,typeInfo,S,E]
 rw[h1];have l:∀ {b:Nat} {B:aa} {c:V},get b=some B->B.cs[0]?=some c->∃ A t z,w.heap[(ρ b).1]?=some (.cells A t z):=fun {b B c} k hc=>by
  obtain⟨r,Q,-⟩:=R.cell b B k 0 c hc;unfold World.cell? at Q;cases C:w.heap[(ρ b).1]? with
  |none=>simp[C] at Q
  |some F=>cases F<;>first|exact⟨_,_,_,rfl⟩|(simp[C] at Q)
 by_cases h:b=a
 .subst h;by_cases T:o=j
  .subst T;simp[sameAddr]
  .have h2:(⟨(ρ b).1,(ρ b).2+o,none⟩:Addr)≠⟨(ρ b).1,(ρ b).2+j,none⟩:=fun G=>by injection G with L M;exact T I
   simp[sameAddr,T,h2]
 .have s:=R.inj b a _ _ k g rfl h;have X:=R.gY b _ m k rfl;have p:=R.gY a _ u g rfl;change ∀ o,w.frozen? ⟨(ρ b).1,o,none⟩=false at X;change ∀ o,w.frozen? ⟨(ρ a).1,o,none⟩=false at p;obtain⟨A,N,z,Q⟩:=l k rfl;obtain⟨H,K,z',g2⟩:=l g rfl;simp[sameAddr,s,h,X,p,noView,viewAt,World.shape?,Q,g2,mayBeOne,stringish]
theorem UL {op:BinOp}{t:TypeId}{x y:V}{F d:Value}{k l:Operand}{res:bu}{get get0:Nat->Option aa}(H:bS ρ dom get w)(a:∀ b∈res.fp,get b=get0 b)(h:wj P op t x y get0=some res)(B:res.pre)(p:VR ρ dom w x F)(u:VR ρ dom w y d):
  (∃ r,(do eqGuard op t k l F d;binOp op t F d:Sem Value).run P w= .ok r w/\VR ρ dom w res.v r):=by
 unfold wj at h;split at h
 .rename_i b o f z;unfold Du at h;split at h
  .rename_i e c M m C q D N A g;split at h
   .rename_i n E;have i:=p;unfold VR at i;obtain⟨-,s⟩:=i;have G:∀ (op:BinOp) (j:op= .eql\/op= .neq),get b=some ⟨false,c::M,some m⟩->get f=some ⟨false,C::q,some D⟩->(do eqGuard op t k l F d;binOp op t F d:Sem Value).run P w= .ok (.bool (if op= .eql then decide (b=f/\o=z) else ! decide (b=f/\o=z))) w:=fun op j K L=>by
     rw[dx,oC op k l F d (by rw[s];simp) (.inl (by rw[s];simp))];exact xV (XE N E H K L p u) j (by rw[s];simp)
    split at h
    .injection h with h;subst h
     refine⟨_,G .eql (.inl rfl) ((a b J).trans A) ((a f J).trans g),?_⟩;unfold VR;rfl
    .injection h with h;subst h
     refine⟨_,G .neq (.inr rfl) ((a b J).trans A) ((a f J).trans g),?_⟩;unfold VR;rfl
    .cases h
   .cases h
  .cases h
 .exact age h B p u
end
end
section
section
variable {ρ:Nat->Nat×Nat}{dom:Nat->Prop}{P:Program}{w:World}
theorem TD {op:UnOp}{x:V}{e:Value}{res:bu}(h:xN op x=some res)(d:VR ρ dom w x e):∃ r,(Op.unary op e).run P w= .ok r w/\VR ρ dom w res.v r:=by
 have a:∀ (k:IntKind) (c:k.signed=false) (z:BitVec k.bits),(Op.unary .neg (.int k z.toNat)).run P w= .ok (.int k (-z).toNat) w:=fun k c z=>by
  simp only[Op.unary,Op.intArith,dI];rw[CG k c,Int.sub_eq_add_neg,JV,BitVec.ofInt_neg,qF];congr 4;rw[show BitVec.ofInt k.bits 0=0 by simp];simp
 have b:∀ (k:IntKind) (c:k.signed=false) (z:BitVec k.bits),(Op.unary .xor (.int k z.toNat)).run P w= .ok (.int k (~~~z).toNat) w:=fun k c z=>by
  simp only[Op.unary,Op.intBits,dI,c,fh,fH,qF];have :BitVec.ofInt k.bits k.max=BitVec.allOnes k.bits:=by
   apply iU;rw[rO,BitVec.toNat_allOnes];unfold IntKind.max;rw[c];cases k<;>simp_all [IntKind.bits,IntKind.signed]
  rw[this,MC k c,BitVec.allOnes_xor]
 unfold xN at h;split at h<;>simp only[eg,seval] at h<;>subst h<;>unfold VR at d<;>subst d
 .exact⟨_,by simp only[Op.unary,dI];rfl,by unfold VR;rfl⟩
 .exact⟨_,a .u8 rfl _,by unfold VR;rfl⟩
 .exact⟨_,a .u32 rfl _,by unfold VR;rfl⟩
 .exact⟨_,a .u64 rfl _,by unfold VR;rfl⟩
 .exact⟨_,by simp only[Op.unary,Op.intArith,dI];rfl,by unfold VR;rfl⟩
 .exact⟨_,b .u8 rfl _,by unfold VR;rfl⟩
 .exact⟨_,b .u32 rfl _,by unfold VR;rfl⟩
 .exact⟨_,b .u64 rfl _,by unfold VR;rfl⟩
theorem zw {n m:Nat}(x:BitVec n):BitVec.ofInt m (x.toNat:Int)=x.setWidth m:=by
 apply iU;rw[rO,qq,<-F1];rfl
theorem Yr {k:IntKind}{x v:V}{f:Value}(h:DO k x=some v)(a:VR ρ dom w x f):∃ c n,f= .int c n/\VR ρ dom w v (.int k (k.wrap n)):=by
 have e:∀ (k:IntKind) (b:k.signed=false) (n:Int) (z:BitVec k.bits),BitVec.ofInt k.bits n=z->Value.int k (k.wrap n)= .int k z.toNat:=fun k b n z d=>by rw[CG k b,d]
 unfold DO at h;split at h<;>simp only[eg,seval] at h<;>subst h<;>unfold VR at a<;>subst a
 .exact⟨_,_,rfl,by unfold VR;exact e .u8 rfl _ _ (qF _)⟩
 .exact⟨_,_,rfl,by unfold VR;exact e .u8 rfl _ _ (zw _)⟩
 .exact⟨_,_,rfl,by unfold VR;exact e .u8 rfl _ _ (zw _)⟩
 .exact⟨_,_,rfl,by unfold VR;exact e .u8 rfl _ _ rfl⟩
 .exact⟨_,_,rfl,by unfold VR;exact e .u32 rfl _ _ (zw _)⟩
 .exact⟨_,_,rfl,by unfold VR;exact e .u32 rfl _ _ (qF _)⟩
 .exact⟨_,_,rfl,by unfold VR;exact e .u32 rfl _ _ (zw _)⟩
 .exact⟨_,_,rfl,by unfold VR;exact e .u32 rfl _ _ rfl⟩
 .exact⟨_,_,rfl,by unfold VR;exact e .u64 rfl _ _ (zw _)⟩
 .exact⟨_,_,rfl,by unfold VR;exact e .u64 rfl _ _ (zw _)⟩
 .exact⟨_,_,rfl,by unfold VR;exact e .u64 rfl _ _ (qF _)⟩
 .exact⟨_,_,rfl,by unfold VR;exact e .u64 rfl _ _ rfl⟩
 .rename_i x;have :=x.isLt;exact⟨_,_,rfl,by unfold VR;rw[show IntKind.i64.wrap (x.toNat:Int)=bh x.toNat from rfl,bC I I]⟩
 .rename_i x;have :=x.isLt;exact⟨_,_,rfl,by unfold VR;rw[show IntKind.i64.wrap (x.toNat:Int)=bh x.toNat from rfl,bC I I]⟩
 .exact⟨_,_,rfl,by unfold VR;rfl⟩
 .exact⟨_,_,rfl,by unfold VR;rfl⟩
 .exact⟨_,_,rfl,by unfold VR;rfl⟩
theorem DR {v:V}{r:Value}(h:v.one=true)(d:VR ρ dom w v r):r.oneCell'=true:=by
 cases v<;>simp[V.one] at h<;>unfold VR at d
 case str=>obtain⟨b,rfl,_⟩:=d;rfl
 case ptr=>obtain⟨_,rfl⟩:=d;rfl
 case slice=>obtain⟨_,a,c,rfl,_⟩:=d;rfl
 case fn=>obtain⟨a,c,rfl,_⟩:=d;rfl
 case iface=>obtain⟨a,rfl,_⟩:=d;rfl
 case map=>obtain⟨_,rfl⟩:=d;rfl
 all_goals(subst d;rfl)
theorem GW {v:V}{r:Value}(h:v≠ .bH)(h2:∀ l,v≠ .aZ l)(d:VR ρ dom w v r):ao ρ dom w v.cells r.cells.toList:=by
 cases v
 case bH=>exact absurd rfl h
 case aZ l=>exact absurd rfl (h2 l)
 case agg cs=>unfold VR at d;obtain⟨a,rfl,d⟩:=d;exact d
 case str=>unfold VR at d;obtain⟨b,rfl,j⟩:=d;exact ao.cons (by unfold VR;exact⟨b,rfl,j⟩) ao.nil
 case ptr=>unfold VR at d;obtain⟨e,rfl⟩:=d;exact ao.cons (by unfold VR;exact⟨e,rfl⟩) ao.nil
 case slice=>unfold VR at d;obtain⟨e,a,c,rfl,g⟩:=d;exact ao.cons (by unfold VR;exact⟨e,a,c,rfl,g⟩) ao.nil
 case fn=>unfold VR at d;obtain⟨a,c,rfl,g⟩:=d;exact ao.cons (by unfold VR;exact⟨a,c,rfl,g⟩) ao.nil
 case iface=>unfold VR at d;obtain⟨a,rfl,g⟩:=d;exact ao.cons (by unfold VR;exact⟨a,rfl,g⟩) ao.nil
 case iV=>unfold VR at d;obtain⟨f,rfl,k⟩:=d;exact ao.cons (by unfold VR;exact⟨f,rfl,k⟩) ao.nil
 case map=>unfold VR at d;obtain⟨e,rfl⟩:=d;exact ao.cons (by unfold VR;exact⟨e,rfl⟩) ao.nil
 all_goals(unfold VR at d;subst d;exact ao.cons (by unfold VR;rfl) ao.nil)
theorem IH (r:Value):VR ρ dom w (ofValue r) r:=by
 unfold ofValue;split
 case h_7=>unfold VR;exact⟨_,rfl,rfl⟩
 case h_2=>
  split
  .unfold VR;rw[rO];congr 1;simp;omega
  .unfold VR;trivial
 case h_3=>
  split
  .unfold VR;rw[rO];congr 1;simp;omega
  .unfold VR;trivial
 case h_4=>
  split
  .unfold VR;rw[rO];congr 1;simp;omega
  .unfold VR;trivial
 all_goals(unfold VR;first|trivial|rfl)
end
end
end Go.Vm
end
