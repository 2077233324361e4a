/- Proved: laws of a machine of values; no conditions but each theorem's own. -/
import Derived.ChangeKeysEq
import Derived.Laws.IdiomStrings
import Derived.Test.YtidjknjilnopnaaGreatDoorVmD
set_option linter.unusedVariables false
set_option linter.unusedSimpArgs false
set_option maxRecDepth 20000
set_option maxHeartbeats 8000000
section
namespace Go.Vm
section
section
variable {ρ:Nat->Nat×Nat}{dom:Nat->Prop}{P:Program}{w:World}{t:TypeId}
theorem yA (d:Nat){x y:V}{rx g:Value}{b:Bool}(ht:pC P t x=true)(h:x.beq1 y=some b)(e:VR ρ dom w x rx)(f:VR ρ dom w y g):
  (Op.equalIn (d+1) t rx g).run P w= .ok b w:=by
 unfold pC at ht;split at ht<;>rename_i hu<;>(try cases ht)<;>cases y<;>simp only[V.beq1,cf,seval] at h<;>unfold VR at e f<;>(try subst e)<;>(try subst f)<;>(try subst h)
 case h_6.refl.bool=>rw[run_equalIn_bool' w d t _ _ hu];congr 1
 case h_7.refl.str=>
  obtain⟨a,rfl,rfl⟩:=e;obtain⟨c,rfl,rfl⟩:=f;rw[run_equalIn_string w d t _ _ hu,Cr]
 all_goals(rw[run_equalIn_int w d t _ _ _ _ hu];congr 1)
 all_goals(rw[lN];simp[Dn,Int.ofNat_inj])
theorem Y9 {x:V}(ht:pC P t x=true):(isAgg t).run P w= .ok false w:=by
 unfold pC at ht;unfold isAgg;split at ht<;>rename_i hu<;>(try cases ht)<;>simp[run_underlying hu]
theorem s9 {x:V}(ht:pC P t x=true){xs:Array Value}{i:Nat}{r:Value}(h:xs.toList[i]?=some r):(part t xs i).run P w= .ok r w:=by
 unfold part;rw[Sem.run_bind,Y9 ht];have :xs[i]?=some r:=by rw[<-h];simp
 simp[this]
theorem HW (d:Nat){xs ys:Array Value}:∀ (fs:List Field) (i:Nat) (c e:List V) (b:Bool),yt fs i=true->da P (fs.map (·.type)) c e=some b->
  VRs ρ dom w c (xs.toList.drop i)->VRs ρ dom w e (ys.toList.drop i)->(Op.eqFields (d+1) xs ys fs).run P w= .ok b w
 |[],i,c,e,b,_,h,j,k=>by
  cases c<;>cases e<;>simp[da] at h;subst h;rfl
 |f::fs,i,[],e,b,_,h,_,_=>by simp[da] at h
 |f::fs,i,x::c,[],b,_,h,_,_=>by simp[da] at h
 |f::fs,i,x::c,y::e,b,g,h,j,k=>by
  simp only[yt,ic,beq_iff_eq,bne_iff_ne] at g;obtain⟨⟨s,u⟩,g⟩:=g;simp only[bN,da] at h;split at h
  case isFalse=>cases h
  rename_i a;split at h
  case h_2=>cases h
  rename_i v z h1 h2;injection h with h
  subst h;unfold VRs at j k;obtain⟨rx,l,ex,m,n⟩:=j;obtain⟨A,o,r,p,q⟩:=k;have B:xs.toList[i]?=some rx:=by have :=congrArg (·[0]?) ex;simpa using this
  have C:ys.toList[i]?=some A:=by have :=congrArg (·[0]?) r;simpa using this
  have D:l=xs.toList.drop (i+1):=by have :=congrArg (List.drop 1) ex;rw[hO] at this;simpa using this.symm
  have ty:o=ys.toList.drop (i+1):=by have :=congrArg (List.drop 1) r;rw[hO] at this;simpa using this.symm
  have ih:=HW d fs (i+1) c e z g h2 (D▸n) (ty▸q);simp only[Op.eqFields,s,if_pos u,Sem.run_bind,s9 a B,s9 a C,yA d a h1 m p,Result.andThen_ok];cases v
  ·simp
  ·simp[ih]
theorem Hw (d:Nat){xs ys:Array Value}{e:TypeId}(g:P.cellsOf e=1):∀ (n i:Nat) (c f:List V) (b:Bool),da P (List.replicate n e) c f=some b->
  VRs ρ dom w c (xs.toList.drop i)->VRs ρ dom w f (ys.toList.drop i)->(Op.eqItems (d+1) e (P.cellsOf e) xs ys (List.range' i n)).run P w= .ok b w
 |0,i,c,f,b,h,j,k=>by
  cases c<;>cases f<;>simp[da] at h;subst h;rfl
 |n+1,i,[],f,b,h,_,_=>by simp[da,pz] at h
 |n+1,i,x::c,[],b,h,_,_=>by simp[da,pz] at h
 |n+1,i,x::c,y::f,b,h,j,k=>by
  simp only[pz,da] at h;split at h
  case isFalse=>cases h
  rename_i a;split at h
  case h_2=>cases h
  rename_i u v h1 h2;injection h with h
  subst h;unfold VRs at j k;obtain⟨rx,l,ex,m,o⟩:=j;obtain⟨z,p,s,q,r⟩:=k;have A:xs.toList[i]?=some rx:=by have :=congrArg (·[0]?) ex;simpa using this
  have B:ys.toList[i]?=some z:=by have :=congrArg (·[0]?) s;simpa using this
  have C:l=xs.toList.drop (i+1):=by have :=congrArg (List.drop 1) ex;rw[hO] at this;simpa using this.symm
  have ty:p=ys.toList.drop (i+1):=by have :=congrArg (List.drop 1) s;rw[hO] at this;simpa using this.symm
  have ih:=Hw d g n (i+1) c f v h2 (C▸o) (ty▸r);rw[g] at ih;simp only[List.range'_succ,Op.eqItems,g,Nat.mul_one,Sem.run_bind,s9 a A,s9 a B,yA d a h1 m q,Result.andThen_ok];cases u
  ·simp
  ·simp[ih]
theorem LB:∀ {l1 l2:List TypeId} {d e:List V} {b:Bool},da P (l1++l2) d e=some b->∃ f g,da P l1 (d.take l1.length) (e.take l1.length)=some f/\da P l2 (d.drop l1.length) (e.drop l1.length)=some g/\b=(f&&g)/\l1.length<=d.length/\l1.length<=e.length
 |[],l2,d,e,b,h=>⟨true,b,by simp[da],by simpa using h,ae,ae,ae⟩
 |t::l1,l2,[],e,b,h=>by simp[da] at h
 |t::l1,l2,x::d,[],b,h=>by simp[da] at h
 |t::l1,l2,x::d,y::e,b,h=>by
  simp only[fO,da] at h;split at h
  case isFalse=>cases h
  rename_i ht;split at h
  case h_2=>cases h
  rename_i a c h1 h2;injection h with h
  obtain⟨f,g,g1,g2,rfl,g4,g5⟩:=LB h2;refine⟨a&&f,g,?_,by simpa using g2,?_,by simpa using g4,by simpa using g5⟩
  ·simp[da,ht,h1,g1]
  ·rw[<-h,Bool.and_assoc]
theorem E6 {t:TypeId}{fs:Array Field}(hu:P.underlying t=some (.struct fs)){n:Nat}(a:aR P t=some n)(xs:Array Value)(i:Nat):(part t xs i).run P w= .ok (.agg (xs.extract i (i+n))) w:=by
 have h1:(isAgg t).run P w= .ok true w:=by unfold isAgg;simp[run_underlying hu]
 unfold aR at a;cases hi:P.info? t with
 |none=>rw[hi] at a;cases a
 |some i=>
  have hc:P.cellsOf t=n:=by unfold Program.cellsOf;rw[a];rfl
  unfold part;simp only[Sem.run_bind,h1,Result.andThen_ok,if_true,run_sizeOf w hi,hc,Sem.run_pure]
theorem J4:∀ (d:Nat) (t:TypeId) (l:List TypeId) (D:Nat) (m n:List V) (b:Bool) (xs ys:Array Value) (i:Nat),xJ P d t=some l->da P l m n=some b->
  VRs ρ dom w m ((xs.toList.drop i).take l.length)->VRs ρ dom w n ((ys.toList.drop i).take l.length)->aR P t=some l.length->
  ((part t xs i).run P w).andThen (fun x w1=>((part t ys i).run P w1).andThen fun y A=>(Op.equalIn (D+d) t x y).run P A)= .ok b w
 |0,_,_,_,_,_,_,_,_,_,h,_,_,_,_=>by cases h
 |d+1,t,l,D,m,n,b,xs,ys,i,h,g,B,C,E=>by
  unfold xJ at h;split at h
  ·rename_i fs hu;split at h
   ·cases h
   rename_i F;have u:P.stoodInHeld t=false:=by simpa using F
   have v:P.fieldsOf t=fs:=by unfold Program.fieldsOf;rw[hu]
   simp only[E6 hu E,Result.andThen_ok];rw[show D+(d+1)=(D+d)+1 from rfl,run_equalIn_struct w _ t _ _ (by rw[v];exact hu) u,v];have key:∀ (z:List Field) (j:Nat) (o:List TypeId) (p q:List V) (c:Bool),zX P (xJ P d) z j=some o->da P o p q=some c->j+o.length=l.length->
     VRs ρ dom w p ((xs.toList.drop (i+j)).take o.length)->VRs ρ dom w q ((ys.toList.drop (i+j)).take o.length)->
     (Op.eqFields (D+d) (xs.extract i (i+l.length)) (ys.extract i (i+l.length)) z).run P w= .ok c w:=by
    intro z;induction z with
    |nil=>
     intro j o p q c h1 h2 _ _ _;cases h1;cases p<;>cases q<;>simp[da] at h2;subst h2;rfl
    |cons f z ih=>
     intro j o p q c h1 h2 S r s;unfold zX at h1;split at h1
     case isFalse=>cases h1
     rename_i N;simp only[ic,beq_iff_eq,bne_iff_ne] at N;obtain⟨T,U⟩:=N;split at h1
     case h_2=>cases h1
     rename_i l1 G;split at h1
     case isFalse=>cases h1
     rename_i H;obtain⟨l2,I,rfl⟩:=rO.1 h1;obtain⟨J,O,g1,g2,rfl,g4,g5⟩:=LB h2;rw[aE] at S r s;have ex:∀ (zs:Array Value),(((zs.extract i (i+l.length)).toList.drop j).take l1.length)=((zs.toList.drop (i+j)).take l1.length):=fun zs=>by
      rw[Array.toList_extract];simp only[List.extract_eq_take_drop,Nat.add_sub_cancel_left];rw[uB,sN,iM aa,hO]
     have t1:∀ (us:List V) (zs:Array Value),VRs ρ dom w us ((zs.toList.drop (i+j)).take (l1.length+l2.length))->VRs ρ dom w (us.take l1.length) (((zs.extract i (i+l.length)).toList.drop j).take l1.length):=fun us zs K=>by
      have :=K.take l1.length;rw[sN,iM aa] at this;rw[ex];exact this
     have t2:∀ (us:List V) (zs:Array Value),VRs ρ dom w us ((zs.toList.drop (i+j)).take (l1.length+l2.length))->VRs ρ dom w (us.drop l1.length) ((zs.toList.drop (i+(j+l1.length))).take l2.length):=fun us zs K=>by
      have :=K.drop l1.length;rw[uB,hO,Nat.add_sub_cancel_left] at this;rw[<-kh];exact this
     have k:=J4 d f.type l1 D _ _ J (xs.extract i (i+l.length)) (ys.extract i (i+l.length)) j G g1 (t1 p xs r) (t1 q ys s) H;have W:=ih (j+l1.length) l2 _ _ O I g2 aa (t2 p xs r) (t2 q ys s);simp only[Op.eqFields,T,if_pos U,Sem.run_bind];cases Q:(part f.type (xs.extract i (i+l.length)) j).run P w with
     |ok x w1=>
      rw[Q] at k;simp only[Result.andThen_ok] at k |-
      cases R:(part f.type (ys.extract i (i+l.length)) j).run P w1 with
      |ok y A=>
       rw[R] at k;simp only[Result.andThen_ok] at k |-
       rw[k];simp only[Result.andThen_ok];cases J
       ·simp
       ·simp[W]
      |halt e A=>rw[R] at k;cases k
     |halt e w1=>rw[Q] at k;cases k
   exact key fs.toList 0 l m n b h g aa B C
  ·cases h
  ·rename_i X Y;split at h
   case isFalse=>cases h
   cases h;cases m with
   |nil=>simp[da] at g
   |cons x m=>
    cases n with
    |nil=>simp[da] at g
    |cons y n=>
     simp only[da] at g;split at g
     case isFalse=>cases g
     rename_i a;split at g
     case h_2=>cases g
     rename_i J O h1 h2;cases m<;>cases n<;>simp[da] at h2;subst h2;simp only[Bool.and_true,cf] at g;subst g;unfold VRs at B C;obtain⟨rx,Z,ex,L,a1⟩:=B;obtain⟨ry,a6,ey,M,a7⟩:=C;have gx:xs.toList[i]?=some rx:=by have :=congrArg (·[0]?) ex;simpa [oK] using this
     have gy:ys.toList[i]?=some ry:=by have :=congrArg (·[0]?) ey;simpa [oK] using this
     simp only[s9 a gx,s9 a gy,Result.andThen_ok];exact yA (D+d) a h1 L M
theorem adT {xs ys:List V}{rx r:Value}{s:List TypeId}{b:Bool}(h:Es P t=some s)(m:da P s xs ys=some b)(a:VR ρ dom w (.agg xs) rx)(c:VR ρ dom w (.agg ys) r):
  (Op.equal t rx r).run P w= .ok b w/\P.eqGuardType P.depth t=false:=by
 unfold VR at a c;obtain⟨o,rfl,a⟩:=a;obtain⟨p,rfl,c⟩:=c;unfold Es at h;split at h
 ·rename_i fs hu;split at h
  case isFalse=>
   split at h
   ·cases h
   rename_i v;refine⟨?_,by simpa using v⟩;split at h
   case h_2=>cases h
   rename_i l z;split at h
   case isFalse=>cases h
   rename_i g;injection h with h
   subst h;have j:∀ (l:List TypeId) (d f:List V) (b:Bool),da P l d f=some b->d.length=l.length/\f.length=l.length:=by
    intro l;induction l with
    |nil=>intro d f b h;cases d<;>cases f<;>simp[da] at h |-
    |cons t l ih=>
     intro d f b h;cases d with
     |nil=>simp[da] at h
     |cons x d=>
      cases f with
      |nil=>simp[da] at h
      |cons y f=>
       simp only[da] at h;split at h
       case isFalse=>cases h
       split at h
       case h_2=>cases h
       rename_i h2;have :=ih _ _ _ h2;simp[this.1,this.2]
   obtain⟨l1,l2⟩:=j _ _ _ _ m;have A:=a.length;have B:=c.length;have u:=J4 4 t l 9996 xs ys b o p 0 z m (by rw[jC,ar aa];exact a) (by rw[jC,ar aa];exact c) g;have ex:∀ (zs:Array Value),zs.toList.length=l.length->zs.extract 0 (0+l.length)=zs:=fun zs C=>by
    apply sW;rw[Array.toList_extract];simp only[List.extract_eq_take_drop,jC];exact ar aa
   simp only[E6 hu g,Result.andThen_ok,ex o aa,ex p aa] at u;exact u
  rename_i hc;simp only[ic,oA] at hc;injection h with h
  subst h;refine⟨?_,hc.2⟩;have k:P.fieldsOf t=fs:=by unfold Program.fieldsOf;rw[hu]
  unfold Op.equal;rw[show Op.maxDepth=9998+1+1 from rfl,run_equalIn_struct w _ t o p (by rw[k];exact hu) hc.1.2,k];exact HW 9998 fs.toList 0 xs ys b hc.1.1 m (by simpa using a) (by simpa using c)
 ·rename_i n e hu;split at h
  case isFalse=>cases h
  rename_i hc;simp only[ic,oA,beq_iff_eq] at hc;injection h with h
  subst h;refine⟨?_,hc.2⟩;have h1:=hc.1;unfold aR at h1;cases hi:P.info? e with
  |none=>rw[hi] at h1;cases h1
  |some i=>
   have q:P.cellsOf e=1:=by unfold Program.cellsOf;rw[h1];rfl
   unfold Op.equal;rw[show Op.maxDepth=9998+1+1 from rfl,run_equalIn_array w _ o p hu hi,List.range_eq_range'];exact Hw 9998 q n 0 xs ys b m (by simpa using a) (by simpa using c)
 ·cases h
def IJ (r:Value):V->Prop
  | .ptr _ _=>∃ a,r= .pointer (some a)
  | .nilPtr=>r= .pointer none
  | .slice _ _ _ _=>∃ a n c,r= .slice (some a) n c
  | .nilSlice=>r= .slice none 0 0
  | .fn _ _ _=>∃ f a b,r= .func f a b
  | .nilFn=>r= .nilFunc
  | .iface _ _=>∃ t v,r= .iface t v
  | .nilIface=>r= .nilIface
  |_=>True
theorem JR {x:V}{r:Value}(h:VR ρ dom w x r):IJ r x:=by
 cases x<;>unfold VR at h
 case ptr=>exact⟨_,h.2⟩
 case slice=>obtain⟨_,a,c,h,_⟩:=h;exact⟨a,_,c,h⟩
 case fn=>obtain⟨a,c,h,_⟩:=h;exact⟨_,a,c,h⟩
 case iface=>obtain⟨a,h,_⟩:=h;exact⟨_,a,h⟩
 all_goals first|exact h|exact trivial
theorem acq {x y:V}{rx g:Value}(h:zu P t x y=true)(i:VR ρ dom w x rx)(j:VR ρ dom w y g):
  (Op.equal t rx g).run P w= .ok (qg x==qg y) w/\¬ (rx= .nilIface/\g= .nilIface)/\(∀ k n,rx≠ .int k n)/\(∀ k n,g≠ .int k n)/\(∀ s,rx≠ .string s)/\(∀ c,rx≠ .agg c)/\(∀ k n,rx≠ .float k n)/\(∀ k a b,rx≠ .complex k a b):=by
 have e:=JR i;have f:=JR j;clear i j;unfold zu at h;unfold Op.equal;rw[show Op.maxDepth=9999+1 from rfl];generalize 9999=d;split at h<;>rename_i hu<;>(try cases h)<;>unfold IJ at e f;all_goals(first|obtain⟨l,a2,a3,rfl⟩:=e|obtain⟨l,a2,rfl⟩:=e|obtain⟨l,rfl⟩:=e|subst e)
 all_goals(first|obtain⟨m,o,p,rfl⟩:=f|obtain⟨m,o,rfl⟩:=f|obtain⟨m,rfl⟩:=f|subst f)
 all_goals refine⟨?_,ae,ae,ae,ae,ae,ae,ae⟩
 all_goals simp[Op.equalIn,run_underlying hu,qg]
theorem jK (op:BinOp)(x y:Operand)(a b:Value)(h1:¬ (a= .nilIface/\b= .nilIface))(h2:(∀ c,a≠ .agg c)\/P.eqGuardType P.depth t=false):(eqGuard op t x y a b).run P w= .ok () w:=by
 cases op<;>(try rfl);all_goals
  unfold eqGuard;simp only[jI,ct,if_false];split
  ·exact absurd ⟨rfl,rfl⟩ h1
  ·rcases h2 with h2|h2
   ·exact absurd rfl (h2 _)
   ·simp[h2]
  ·rfl
theorem sn {op:BinOp}{rx d:Value}{b:Bool}(e:(Op.equal t rx d).run P w= .ok b w)(c:op= .eql\/op= .neq)
  (h:(∀ k n,rx≠ .int k n)/\(∀ s,rx≠ .string s)/\(∀ k n,rx≠ .float k n)/\(∀ k a b,rx≠ .complex k a b)):
  (binOp op t rx d).run P w= .ok (.bool (if op= .eql then b else ! b)) w:=by
 rcases c with rfl|rfl<;>cases rx<;>simp_all [binOp]
theorem Tu {op:BinOp}{x y:V}{rx f:Value}{m o:Operand}{res:Res}(h:tk P op t x y=some res)(g:res.pre)(c:VR ρ dom w x rx)(d:VR ρ dom w y f):
  (∃ r,(do eqGuard op t m o rx f;binOp op t rx f:Sem Value).run P w= .ok r w/\VR ρ dom w res.v r):=by
 have key:∀ r,(eqGuard op t m o rx f).run P w= .ok () w->(binOp op t rx f).run P w= .ok r w->VR ρ dom w res.v r->(∃ r,(do eqGuard op t m o rx f;binOp op t rx f:Sem Value).run P w= .ok r w/\VR ρ dom w res.v r):=fun r h1 h2 k=>
  ⟨r,by rw[Sem.run_bind,h1];exact h2,k⟩
 unfold tk at h;split at h
 case h_1=>
  split at h
  case h_2=>cases h
  rename_i n pre hc;obtain⟨r,h1,h2⟩:=HJ (t:=t) (.inl rfl) hc h g c d;refine key r ?_ h1 h2;unfold eqGuard;rfl
 case h_2=>
  split at h
  case h_2=>cases h
  rename_i n pre hc;obtain⟨r,h1,h2⟩:=HJ (t:=t) (.inr rfl) hc h g c d;refine key r ?_ h1 h2;unfold eqGuard;rfl
 case h_3=>
  rename_i p q;have l:op≠ .shl/\op≠ .shr:=⟨fun e=>p e,fun e=>q e⟩;split at h
  case h_1=>
   unfold VR at c d;subst c;subst d;obtain⟨r,h1,h2⟩:=Dl w t .u8 rfl .u8 op _ _ res h g l;refine key r (jK _ _ _ _ _ ae (.inl ae)) h1 ?_;rcases h2 with⟨z,h2,rfl⟩|⟨b,h2,rfl⟩<;>rw[h2]<;>unfold VR<;>rfl
  case h_2=>
   unfold VR at c d;subst c;subst d;obtain⟨r,h1,h2⟩:=Dl w t .u32 rfl .u32 op _ _ res h g l;refine key r (jK _ _ _ _ _ ae (.inl ae)) h1 ?_;rcases h2 with⟨z,h2,rfl⟩|⟨b,h2,rfl⟩<;>rw[h2]<;>unfold VR<;>rfl
  case h_3=>
   unfold VR at c d;subst c;subst d;obtain⟨r,h1,h2⟩:=Dl w t .u64 rfl .u64 op _ _ res h g l;refine key r (jK _ _ _ _ _ ae (.inl ae)) h1 ?_;rcases h2 with⟨z,h2,rfl⟩|⟨b,h2,rfl⟩<;>rw[h2]<;>unfold VR<;>rfl
  case h_4=>
   unfold VR at c d;subst c;subst d;obtain⟨r,h1,h2⟩:=abd w t op _ _ res h g l;refine key r (jK _ _ _ _ _ ae (.inl ae)) h1 ?_;rcases h2 with⟨z,h2,rfl⟩|⟨b,h2,rfl⟩<;>rw[h2]<;>unfold VR<;>rfl
  case h_5=>
   obtain⟨r,h1,h2⟩:=aat (P:=P) (t:=t) h g c d;unfold VR at c d;obtain⟨a,rfl,_⟩:=c;exact key r (jK _ _ _ _ _ ae (.inl ae)) h1 h2
  case h_6=>
   unfold VR at c d;subst c;subst d;split at h<;>simp only[cf,seval] at h<;>subst h
   ·exact key _ (jK _ _ _ _ _ ae (.inl ae)) (by simp only[binOp,ne_eq,not_true_eq_false,if_false,Op.intCmp,Sem.run_pure];rfl) (by unfold VR;congr 1)
   ·exact key _ (jK _ _ _ _ _ ae (.inl ae)) (by simp only[binOp,ne_eq,not_true_eq_false,if_false,Op.intCmp,Sem.run_pure];rfl) (by unfold VR;congr 1;rw[lN];simp)
   ·exact key _ (jK _ _ _ _ _ ae (.inl ae)) (by simp only[binOp,ne_eq,not_true_eq_false,if_false,Op.intArith,Sem.run_pure];rfl) (by unfold VR;rfl)
  case h_7=>
   split at h
   case isFalse=>cases h
   rename_i i;have h1:=yA (w:=w) 9999 i (b:=decide _) rfl c d;have h1':(Op.equal t rx f).run P w= .ok _ w:=h1;unfold VR at c d;subst c;subst d;split at h<;>simp only[cf,seval] at h<;>subst h
   ·exact key _ (jK _ _ _ _ _ ae (.inl ae)) (sn h1' (.inl rfl) ae) (by unfold VR;rfl)
   ·exact key _ (jK _ _ _ _ _ ae (.inl ae)) (sn h1' (.inr rfl) ae) (by unfold VR;rfl)
  case h_8=>
   obtain⟨xs,ys,j⟩:True/\True/\True:=⟨trivial,trivial,trivial⟩;split at h
   case h_2=>cases h
   rename_i E j;split at h
   case h_2=>cases h
   rename_i b C;obtain⟨h1,h2⟩:=adT j C c d;unfold VR at c;obtain⟨a,rfl,_⟩:=c;split at h<;>simp only[cf,seval] at h<;>subst h
   ·exact key _ (jK _ _ _ _ _ ae (.inr h2)) (sn h1 (.inl rfl) ae) (by unfold VR;rfl)
   ·exact key _ (jK _ _ _ _ _ ae (.inr h2)) (sn h1 (.inr rfl) ae) (by unfold VR;rfl)
  case h_9=>
   split at h
   case isFalse=>cases h
   rename_i D;obtain⟨h1,h2,k,F,s,u,A,B⟩:=acq D c d;split at h<;>simp only[cf,seval] at h<;>subst h
   ·exact key _ (jK _ _ _ _ _ h2 (.inl u)) (sn h1 (.inl rfl) ⟨k,s,A,B⟩) (by unfold VR;rfl)
   ·exact key _ (jK _ _ _ _ _ h2 (.inl u)) (sn h1 (.inr rfl) ⟨k,s,A,B⟩) (by unfold VR;rfl)
theorem agi {t e:TypeId}{n:Nat}{b o a j:Nat}{c G:V}{cs s:List V}{m x:MapC}{get:Nat->Option Blk}{rx y:Value}(hu:P.underlying t=some (.pointer e))(f:aR P e=some (n+1))(q:MemRel ρ dom get w)(k:get b=some ⟨false,c::cs,some m⟩)(g:get a=some ⟨false,G::s,some x⟩)(A:VR ρ dom w (.ptr b o) rx)(C:VR ρ dom w (.ptr a j) y):
  (Op.equal t rx y).run P w= .ok (decide (b=a/\o=j)) w:=by
 unfold VR at A C;obtain⟨-,rfl⟩:=A;obtain⟨-,rfl⟩:=C;obtain⟨inf,hi,H⟩:∃ inf,P.info? e=some inf/\inf.size=n+1:=by
  unfold aR at f;cases hi:P.info? e with
  |none=>rw[hi] at f;cases f
  |some i=>rw[hi] at f;injection f with f;exact⟨i,rfl,f⟩
 have h1:(Op.equal t (.pointer (some ⟨(ρ b).1,(ρ b).2+o,none⟩)) (.pointer (some ⟨(ρ a).1,(ρ a).2+j,none⟩))).run P w=(sameAddr ⟨(ρ b).1,(ρ b).2+o,none⟩ ⟨(ρ a).1,(ρ a).2+j,none⟩).run P w:=by
  unfold Op.equal;rw[show Op.maxDepth=9999+1 from rfl];generalize 9999=d;simp[Op.equalIn,run_underlying hu,sizeOf,typeInfo,hi,H]
 rw[h1];have l:∀ {b:Nat} {B:Blk} {c:V},get b=some B->B.cs[0]?=some c->∃ D t z,w.heap[(ρ b).1]?=some (.cells D t z):=fun {b B c} k hc=>by
  obtain⟨r,g1,-⟩:=q.cell b B k 0 c hc;unfold World.cell? at g1;cases E:w.heap[(ρ b).1]? with
  |none=>simp[E] at g1
  |some I=>cases I<;>first|exact⟨_,_,_,rfl⟩|(simp[E] at g1)
 by_cases h:b=a
 ·subst h;by_cases u:o=j
  ·subst u;simp[sameAddr]
  ·have h2:(⟨(ρ b).1,(ρ b).2+o,none⟩:Addr)≠⟨(ρ b).1,(ρ b).2+j,none⟩:=fun J=>by injection J with M N;exact u aa
   simp[sameAddr,u,h2]
 ·have v:=q.inj b a _ _ k g rfl h;have F:=q.mapc b _ m k rfl;have p:=q.mapc a _ x g rfl;change ∀ o,w.frozen? ⟨(ρ b).1,o,none⟩=false at F;change ∀ o,w.frozen? ⟨(ρ a).1,o,none⟩=false at p;obtain⟨D,O,z,g1⟩:=l k rfl;obtain⟨K,L,Q,g2⟩:=l g rfl;simp[sameAddr,v,h,F,p,noView,viewAt,World.shape?,g1,g2,mayBeOne,stringish]
theorem Z5 {op:BinOp}{t:TypeId}{x y:V}{rx d:Value}{k l:Operand}{res:Res}{get get0:Nat->Option Blk}(B:MemRel ρ dom get w)(a:∀ b∈res.fp,get b=get0 b)(h:pV P op t x y get0=some res)(C:res.pre)(p:VR ρ dom w x rx)(u:VR ρ dom w y d):
  (∃ r,(do eqGuard op t k l rx d;binOp op t rx d:Sem Value).run P w= .ok r w/\VR ρ dom w res.v r):=by
 unfold pV at h;split at h
 ·rename_i b o f z;unfold yc at h;split at h
  ·rename_i e c cs m D q E hu A g;split at h
   ·rename_i n F;have i:=p;unfold VR at i;obtain⟨-,s⟩:=i;have fin:∀ (op:BinOp) (j:op= .eql\/op= .neq),get b=some ⟨false,c::cs,some m⟩->get f=some ⟨false,D::q,some E⟩->(do eqGuard op t k l rx d;binOp op t rx d:Sem Value).run P w= .ok (.bool (if op= .eql then decide (b=f/\o=z) else ! decide (b=f/\o=z))) w:=fun op j g1 g2=>by
     rw[Sem.run_bind,jK op k l rx d (by rw[s];simp) (.inl (by rw[s];simp))];exact sn (agi hu F B g1 g2 p u) j (by rw[s];simp)
    split at h
    ·injection h with h;subst h
     refine⟨_,fin .eql (.inl rfl) ((a b ae).trans A) ((a f ae).trans g),?_⟩;unfold VR;rfl
    ·injection h with h;subst h
     refine⟨_,fin .neq (.inr rfl) ((a b ae).trans A) ((a f ae).trans g),?_⟩;unfold VR;rfl
    ·cases h
   ·cases h
  ·cases h
 ·exact Tu h C p u
end
end
section
section
variable {ρ:Nat->Nat×Nat}{dom:Nat->Prop}{P:Program}{w:World}
theorem Oo {op:UnOp}{x:V}{rx:Value}{res:Res}(h:rL op x=some res)(d:VR ρ dom w x rx):∃ r,(Op.unary op rx).run P w= .ok r w/\VR ρ dom w res.v r:=by
 have a:∀ (k:IntKind) (c:k.signed=false) (z:BitVec k.bits),(Op.unary .neg (.int k z.toNat)).run P w= .ok (.int k (-z).toNat) w:=fun k c z=>by
  simp only[Op.unary,Op.intArith,Sem.run_pure];rw[wk k c,Int.sub_eq_add_neg,Cj,BitVec.ofInt_neg,lP];congr 4;rw[show BitVec.ofInt k.bits 0=0 by simp];simp
 have b:∀ (k:IntKind) (c:k.signed=false) (z:BitVec k.bits),(Op.unary .xor (.int k z.toNat)).run P w= .ok (.int k (~~~z).toNat) w:=fun k c z=>by
  simp only[Op.unary,Op.intBits,Sem.run_pure,c,ct,if_false,lP];have :BitVec.ofInt k.bits k.max=BitVec.allOnes k.bits:=by
   apply eE;rw[l9,BitVec.toNat_allOnes];unfold IntKind.max;rw[c];cases k<;>simp_all [IntKind.bits,IntKind.signed]
  rw[this,Hs k c,BitVec.allOnes_xor]
 unfold rL at h;split at h<;>simp only[cf,seval] at h<;>subst h<;>unfold VR at d<;>subst d
 ·exact⟨_,by simp only[Op.unary,Sem.run_pure];rfl,by unfold VR;rfl⟩
 ·exact⟨_,a .u8 rfl _,by unfold VR;rfl⟩
 ·exact⟨_,a .u32 rfl _,by unfold VR;rfl⟩
 ·exact⟨_,a .u64 rfl _,by unfold VR;rfl⟩
 ·exact⟨_,by simp only[Op.unary,Op.intArith,Sem.run_pure];rfl,by unfold VR;rfl⟩
 ·exact⟨_,b .u8 rfl _,by unfold VR;rfl⟩
 ·exact⟨_,b .u32 rfl _,by unfold VR;rfl⟩
 ·exact⟨_,b .u64 rfl _,by unfold VR;rfl⟩
theorem uQ {n m:Nat}(x:BitVec n):BitVec.ofInt m (x.toNat:Int)=x.setWidth m:=by
 apply eE;rw[l9,mL,<-yy];rfl
theorem Mi {k:IntKind}{x v:V}{rx:Value}(h:AB k x=some v)(a:VR ρ dom w x rx):∃ c n,rx= .int c n/\VR ρ dom w v (.int k (k.wrap n)):=by
 have hw:∀ (k:IntKind) (b:k.signed=false) (n:Int) (z:BitVec k.bits),BitVec.ofInt k.bits n=z->Value.int k (k.wrap n)= .int k z.toNat:=fun k b n z d=>by rw[wk k b,d]
 unfold AB at h;split at h<;>simp only[cf,seval] at h<;>subst h<;>unfold VR at a<;>subst a
 ·exact⟨_,_,rfl,by unfold VR;exact hw .u8 rfl _ _ (lP _)⟩
 ·exact⟨_,_,rfl,by unfold VR;exact hw .u8 rfl _ _ (uQ _)⟩
 ·exact⟨_,_,rfl,by unfold VR;exact hw .u8 rfl _ _ (uQ _)⟩
 ·exact⟨_,_,rfl,by unfold VR;exact hw .u8 rfl _ _ rfl⟩
 ·exact⟨_,_,rfl,by unfold VR;exact hw .u32 rfl _ _ (uQ _)⟩
 ·exact⟨_,_,rfl,by unfold VR;exact hw .u32 rfl _ _ (lP _)⟩
 ·exact⟨_,_,rfl,by unfold VR;exact hw .u32 rfl _ _ (uQ _)⟩
 ·exact⟨_,_,rfl,by unfold VR;exact hw .u32 rfl _ _ rfl⟩
 ·exact⟨_,_,rfl,by unfold VR;exact hw .u64 rfl _ _ (uQ _)⟩
 ·exact⟨_,_,rfl,by unfold VR;exact hw .u64 rfl _ _ (uQ _)⟩
 ·exact⟨_,_,rfl,by unfold VR;exact hw .u64 rfl _ _ (lP _)⟩
 ·exact⟨_,_,rfl,by unfold VR;exact hw .u64 rfl _ _ rfl⟩
 ·rename_i x;have :=x.isLt;exact⟨_,_,rfl,by unfold VR;rw[show IntKind.i64.wrap (x.toNat:Int)=ao x.toNat from rfl,az aa aa]⟩
 ·rename_i x;have :=x.isLt;exact⟨_,_,rfl,by unfold VR;rw[show IntKind.i64.wrap (x.toNat:Int)=ao x.toNat from rfl,az aa aa]⟩
 ·exact⟨_,_,rfl,by unfold VR;rfl⟩
 ·exact⟨_,_,rfl,by unfold VR;rfl⟩
 ·exact⟨_,_,rfl,by unfold VR;rfl⟩
theorem zC {v:V}{r:Value}(h:v.one=true)(d:VR ρ dom w v r):r.oneCell'=true:=by
 cases v<;>simp[V.one] at h<;>unfold VR at d
 case str=>obtain⟨b,rfl,_⟩:=d;rfl
 case ptr=>obtain⟨_,rfl⟩:=d;rfl
 case slice=>obtain⟨_,a,c,rfl,_⟩:=d;rfl
 case fn=>obtain⟨a,c,rfl,_⟩:=d;rfl
 case iface=>obtain⟨a,rfl,_⟩:=d;rfl
 case map=>obtain⟨_,rfl⟩:=d;rfl
 all_goals(subst d;rfl)
theorem Ba {v:V}{r:Value}(h:v≠ .junk)(h2:∀ l,v≠ .tup l)(d:VR ρ dom w v r):VRs ρ dom w v.cells r.cells.toList:=by
 cases v
 case junk=>exact absurd rfl h
 case tup l=>exact absurd rfl (h2 l)
 case agg cs=>unfold VR at d;obtain⟨a,rfl,d⟩:=d;exact d
 case str=>unfold VR at d;obtain⟨b,rfl,j⟩:=d;exact VRs.cons (by unfold VR;exact⟨b,rfl,j⟩) VRs.nil
 case ptr=>unfold VR at d;obtain⟨e,rfl⟩:=d;exact VRs.cons (by unfold VR;exact⟨e,rfl⟩) VRs.nil
 case slice=>unfold VR at d;obtain⟨e,a,c,rfl,g⟩:=d;exact VRs.cons (by unfold VR;exact⟨e,a,c,rfl,g⟩) VRs.nil
 case fn=>unfold VR at d;obtain⟨a,c,rfl,g⟩:=d;exact VRs.cons (by unfold VR;exact⟨a,c,rfl,g⟩) VRs.nil
 case iface=>unfold VR at d;obtain⟨a,rfl,g⟩:=d;exact VRs.cons (by unfold VR;exact⟨a,rfl,g⟩) VRs.nil
 case aFn=>unfold VR at d;obtain⟨f,rfl,k⟩:=d;exact VRs.cons (by unfold VR;exact⟨f,rfl,k⟩) VRs.nil
 case map=>unfold VR at d;obtain⟨e,rfl⟩:=d;exact VRs.cons (by unfold VR;exact⟨e,rfl⟩) VRs.nil
 all_goals(unfold VR at d;subst d;exact VRs.cons (by unfold VR;rfl) VRs.nil)
theorem AV (r:Value):VR ρ dom w (ofValue r) r:=by
 unfold ofValue;split
 case h_7=>unfold VR;exact⟨_,rfl,rfl⟩
 case h_2=>
  split
  ·unfold VR;rw[l9];congr 1;simp;omega
  ·unfold VR;trivial
 case h_3=>
  split
  ·unfold VR;rw[l9];congr 1;simp;omega
  ·unfold VR;trivial
 case h_4=>
  split
  ·unfold VR;rw[l9];congr 1;simp;omega
  ·unfold VR;trivial
 all_goals(unfold VR;first|trivial|rfl)
end
end
end Go.Vm
end
