/- Proved: laws of a machine of values, or what a function answers; no conditions but each theorem's own. -/
import Derived.ChangeKeysEq
import Derived.Laws.IdiomStrings
import Derived.Test.YtgnnehmeciepaaaGreatDoorVmD
set_option linter.unusedVariables false
set_option linter.unusedSimpArgs false
set_option linter.unusedSectionVars false
set_option maxRecDepth 20000
set_option maxHeartbeats 8000000
section
namespace Go.Vm
section
section
variable {ρ:Nat→Nat×Nat}{dom:Nat→Prop}{P:Program}{w:World}{t:TypeId}
theorem qK (d:Nat){x y:V}{rx ry:Value}{b:Bool}(ht:l6 P t x=true)(h:x.beq1 y=some b)(hx:VR ρ dom w x rx)(hy:VR ρ dom w y ry):
  (Op.equalIn (d+1) t rx ry).run P w= .ok b w:=by
 unfold l6 at ht
 split at ht<;>rename_i hu<;>(try cases ht)<;>cases y<;>simp only[V.beq1,Option.some.injEq,seval] at h<;>unfold VR at hx hy<;>(try subst hx)<;>(try subst hy)<;>(try subst h)
 case h_6.refl.bool=>rw[run_equalIn_bool' w d t _ _ hu];congr 1
 case h_7.refl.str=>
  obtain⟨a,rfl,rfl⟩:=hx
  obtain⟨c,rfl,rfl⟩:=hy
  rw[run_equalIn_string w d t _ _ hu,uf]
 all_goals(rw[run_equalIn_int w d t _ _ _ _ hu];congr 1)
 all_goals(rw[Bool.eq_iff_iff];simp[BitVec.toNat_eq,Int.ofNat_inj])
theorem Gb {x:V}(ht:l6 P t x=true):(isAgg t).run P w= .ok false w:=by
 unfold l6 at ht
 unfold isAgg
 split at ht<;>rename_i hu<;>(try cases ht)<;>simp[run_underlying hu]
theorem nv {x:V}(ht:l6 P t x=true){xs:Array Value}{i:Nat}{r:Value}(h:xs.toList[i]?=some r):(part t xs i).run P w= .ok r w:=by
 unfold part
 rw[Sem.run_bind,Gb ht]
 have :xs[i]?=some r:=by rw[←h];simp
 simp[this]
theorem xN (d:Nat){xs ys:Array Value}:∀ (fs:List Field) (i:Nat) (vx vy:List V) (b:Bool),sF fs i=true→ca P (fs.map (·.type)) vx vy=some b→
  VRs ρ dom w vx (xs.toList.drop i)→VRs ρ dom w vy (ys.toList.drop i)→(Op.eqFields (d+1) xs ys fs).run P w= .ok b w
 |[],i,vx,vy,b,_,h,hx,hy=>by
  cases vx<;>cases vy<;>simp[ca] at h
  subst h
  rfl
 |f::fs,i,[],vy,b,_,h,_,_=>by simp[ca] at h
 |f::fs,i,x::vx,[],b,_,h,_,_=>by simp[ca] at h
 |f::fs,i,x::vx,y::vy,b,hf,h,hx,hy=>by
  simp only[sF,Bool.and_eq_true,beq_iff_eq,bne_iff_ne] at hf
  obtain⟨⟨ho,hn⟩,hf⟩:=hf
  simp only[List.map_cons,ca] at h
  split at h
  case isFalse=>cases h
  rename_i htok
  split at h
  case h_2=>cases h
  rename_i b1 b2 h1 h2
  injection h with h
  subst h
  unfold VRs at hx hy
  obtain⟨rx,rxs,ex,hx1,hx2⟩:=hx
  obtain⟨ry,rys,ey,hy1,hy2⟩:=hy
  have gx:xs.toList[i]?=some rx:=by have :=congrArg (·[0]?) ex;simpa using this
  have gy:ys.toList[i]?=some ry:=by have :=congrArg (·[0]?) ey;simpa using this
  have tx:rxs=xs.toList.drop (i+1):=by have :=congrArg (List.drop 1) ex;rw[List.drop_drop] at this;simpa using this.symm
  have ty:rys=ys.toList.drop (i+1):=by have :=congrArg (List.drop 1) ey;rw[List.drop_drop] at this;simpa using this.symm
  have ih:=xN d fs (i+1) vx vy b2 hf h2 (tx▸hx2) (ty▸hy2)
  simp only[Op.eqFields,ho,if_pos hn,Sem.run_bind,nv htok gx,nv htok gy,qK d htok h1 hx1 hy1,Result.andThen_ok]
  cases b1
  ·simp
  ·simp[ih]
theorem xT (d:Nat){xs ys:Array Value}{e:TypeId}(he:P.cellsOf e=1):∀ (n i:Nat) (vx vy:List V) (b:Bool),ca P (List.replicate n e) vx vy=some b→
  VRs ρ dom w vx (xs.toList.drop i)→VRs ρ dom w vy (ys.toList.drop i)→(Op.eqItems (d+1) e (P.cellsOf e) xs ys (List.range' i n)).run P w= .ok b w
 |0,i,vx,vy,b,h,hx,hy=>by
  cases vx<;>cases vy<;>simp[ca] at h
  subst h
  rfl
 |n+1,i,[],vy,b,h,_,_=>by simp[ca,List.replicate_succ] at h
 |n+1,i,x::vx,[],b,h,_,_=>by simp[ca,List.replicate_succ] at h
 |n+1,i,x::vx,y::vy,b,h,hx,hy=>by
  simp only[List.replicate_succ,ca] at h
  split at h
  case isFalse=>cases h
  rename_i htok
  split at h
  case h_2=>cases h
  rename_i b1 b2 h1 h2
  injection h with h
  subst h
  unfold VRs at hx hy
  obtain⟨rx,rxs,ex,hx1,hx2⟩:=hx
  obtain⟨ry,rys,ey,hy1,hy2⟩:=hy
  have gx:xs.toList[i]?=some rx:=by have :=congrArg (·[0]?) ex;simpa using this
  have gy:ys.toList[i]?=some ry:=by have :=congrArg (·[0]?) ey;simpa using this
  have tx:rxs=xs.toList.drop (i+1):=by have :=congrArg (List.drop 1) ex;rw[List.drop_drop] at this;simpa using this.symm
  have ty:rys=ys.toList.drop (i+1):=by have :=congrArg (List.drop 1) ey;rw[List.drop_drop] at this;simpa using this.symm
  have ih:=xT d he n (i+1) vx vy b2 h2 (tx▸hx2) (ty▸hy2)
  rw[he] at ih
  simp only[List.range'_succ,Op.eqItems,he,Nat.mul_one,Sem.run_bind,nv htok gx,nv htok gy,qK d htok h1 hx1 hy1,Result.andThen_ok]
  cases b1
  ·simp
  ·simp[ih]
theorem zf:∀ {l1 l2:List TypeId} {vx vy:List V} {b:Bool},ca P (l1++l2) vx vy=some b→∃ b1 b2,ca P l1 (vx.take l1.length) (vy.take l1.length)=some b1∧ca P l2 (vx.drop l1.length) (vy.drop l1.length)=some b2∧b=(b1&&b2)∧l1.length≤vx.length∧l1.length≤vy.length
 |[],l2,vx,vy,b,h=>⟨true,b,by simp[ca],by simpa using h,by simp,by simp,by simp⟩
 |t::l1,l2,[],vy,b,h=>by simp[ca] at h
 |t::l1,l2,x::vx,[],b,h=>by simp[ca] at h
 |t::l1,l2,x::vx,y::vy,b,h=>by
  simp only[List.cons_append,ca] at h
  split at h
  case isFalse=>cases h
  rename_i ht
  split at h
  case h_2=>cases h
  rename_i a c h1 h2
  injection h with h
  obtain⟨b1,b2,g1,g2,rfl,g4,g5⟩:=zf h2
  refine⟨a&&b1,b2,?_,by simpa using g2,?_,by simpa using g4,by simpa using g5⟩
  ·simp[ca,ht,h1,g1]
  ·rw[←h,Bool.and_assoc]
theorem A9 {t:TypeId}{fs:Array Field}(hu:P.underlying t=some (.struct fs)){n:Nat}(hs:al P t=some n)(xs:Array Value)(i:Nat):(part t xs i).run P w= .ok (.agg (xs.extract i (i+n))) w:=by
 have h1:(isAgg t).run P w= .ok true w:=by unfold isAgg;simp[run_underlying hu]
 unfold al at hs
 cases hi:P.info? t with
 |none=>rw[hi] at hs;cases hs
 |some i=>
  have hc:P.cellsOf t=n:=by unfold Program.cellsOf;rw[hs];rfl
  unfold part
  simp only[Sem.run_bind,h1,Result.andThen_ok,if_true,run_sizeOf w hi,hc,Sem.run_pure]
theorem zg:∀ (d:Nat) (t:TypeId) (l:List TypeId) (D:Nat) (vx vy:List V) (b:Bool) (xs ys:Array Value) (i:Nat),ql P d t=some l→ca P l vx vy=some b→
  VRs ρ dom w vx ((xs.toList.drop i).take l.length)→VRs ρ dom w vy ((ys.toList.drop i).take l.length)→al P t=some l.length→
  ((part t xs i).run P w).andThen (fun x w1=>((part t ys i).run P w1).andThen fun y w2=>(Op.equalIn (D+d) t x y).run P w2)= .ok b w
 |0,_,_,_,_,_,_,_,_,_,h,_,_,_,_=>by cases h
 |d+1,t,l,D,vx,vy,b,xs,ys,i,h,hb,hx,hy,hsz=>by
  unfold ql at h
  split at h
  ·rename_i fs hu
   split at h
   ·cases h
   rename_i hst
   have hst':P.stoodInHeld t=false:=by simpa using hst
   have hfo:P.fieldsOf t=fs:=by unfold Program.fieldsOf;rw[hu]
   simp only[A9 hu hsz,Result.andThen_ok]
   rw[show D+(d+1)=(D+d)+1 from rfl,run_equalIn_struct w _ t _ _ (by rw[hfo];exact hu) hst',hfo]
   have key:∀ (fl:List Field) (j:Nat) (lf:List TypeId) (ux uy:List V) (c:Bool),sG P (ql P d) fl j=some lf→ca P lf ux uy=some c→j+lf.length=l.length→
     VRs ρ dom w ux ((xs.toList.drop (i+j)).take lf.length)→VRs ρ dom w uy ((ys.toList.drop (i+j)).take lf.length)→
     (Op.eqFields (D+d) (xs.extract i (i+l.length)) (ys.extract i (i+l.length)) fl).run P w= .ok c w:=by
    intro fl
    induction fl with
    |nil=>
     intro j lf ux uy c h1 h2 _ _ _
     cases h1
     cases ux<;>cases uy<;>simp[ca] at h2
     subst h2
     rfl
    |cons f fl ih=>
     intro j lf ux uy c h1 h2 hj hux huy
     unfold sG at h1
     split at h1
     case isFalse=>cases h1
     rename_i hf
     simp only[Bool.and_eq_true,beq_iff_eq,bne_iff_ne] at hf
     obtain⟨ho,hn⟩:=hf
     split at h1
     case h_2=>cases h1
     rename_i l1 hl1
     split at h1
     case isFalse=>cases h1
     rename_i hs1
     obtain⟨l2,hl2,rfl⟩:=Option.map_eq_some_iff.1 h1
     obtain⟨b1,b2,g1,g2,rfl,g4,g5⟩:=zf h2
     rw[List.length_append] at hj hux huy
     have ex:∀ (zs:Array Value),(((zs.extract i (i+l.length)).toList.drop j).take l1.length)=((zs.toList.drop (i+j)).take l1.length):=fun zs=>by
      rw[Array.toList_extract]
      simp only[List.extract_eq_take_drop,Nat.add_sub_cancel_left]
      rw[List.drop_take,List.take_take,Nat.min_eq_left (by omega),List.drop_drop]
     have t1:∀ (us:List V) (zs:Array Value),VRs ρ dom w us ((zs.toList.drop (i+j)).take (l1.length+l2.length))→VRs ρ dom w (us.take l1.length) (((zs.extract i (i+l.length)).toList.drop j).take l1.length):=fun us zs hz=>by
      have :=hz.take l1.length
      rw[List.take_take,Nat.min_eq_left (by omega)] at this
      rw[ex];exact this
     have t2:∀ (us:List V) (zs:Array Value),VRs ρ dom w us ((zs.toList.drop (i+j)).take (l1.length+l2.length))→VRs ρ dom w (us.drop l1.length) ((zs.toList.drop (i+(j+l1.length))).take l2.length):=fun us zs hz=>by
      have :=hz.drop l1.length
      rw[List.drop_take,List.drop_drop,Nat.add_sub_cancel_left] at this
      rw[←Nat.add_assoc];exact this
     have h3:=zg d f.type l1 D _ _ b1 (xs.extract i (i+l.length)) (ys.extract i (i+l.length)) j hl1 g1 (t1 ux xs hux) (t1 uy ys huy) hs1
     have h4:=ih (j+l1.length) l2 _ _ b2 hl2 g2 (by omega) (t2 ux xs hux) (t2 uy ys huy)
     simp only[Op.eqFields,ho,if_pos hn,Sem.run_bind]
     cases hp:(part f.type (xs.extract i (i+l.length)) j).run P w with
     |ok x w1=>
      rw[hp] at h3
      simp only[Result.andThen_ok] at h3 ⊢
      cases hq:(part f.type (ys.extract i (i+l.length)) j).run P w1 with
      |ok y w2=>
       rw[hq] at h3
       simp only[Result.andThen_ok] at h3 ⊢
       rw[h3]
       simp only[Result.andThen_ok]
       cases b1
       ·simp
       ·simp[h4]
      |halt e w2=>rw[hq] at h3;cases h3
     |halt e w1=>rw[hp] at h3;cases h3
   exact key fs.toList 0 l vx vy b h hb (by omega) hx hy
  ·cases h
  ·rename_i hns hna
   split at h
   case isFalse=>cases h
   cases h
   cases vx with
   |nil=>simp[ca] at hb
   |cons x vx=>
    cases vy with
    |nil=>simp[ca] at hb
    |cons y vy=>
     simp only[ca] at hb
     split at hb
     case isFalse=>cases hb
     rename_i htok
     split at hb
     case h_2=>cases hb
     rename_i b1 b2 h1 h2
     cases vx<;>cases vy<;>simp[ca] at h2
     subst h2
     simp only[Bool.and_true,Option.some.injEq] at hb
     subst hb
     unfold VRs at hx hy
     obtain⟨rx,rxs,ex,hx1,hx2⟩:=hx
     obtain⟨ry,rys,ey,hy1,hy2⟩:=hy
     have gx:xs.toList[i]?=some rx:=by have :=congrArg (·[0]?) ex;simpa [List.getElem?_take] using this
     have gy:ys.toList[i]?=some ry:=by have :=congrArg (·[0]?) ey;simpa [List.getElem?_take] using this
     simp only[nv htok gx,nv htok gy,Result.andThen_ok]
     exact qK (D+d) htok h1 hx1 hy1
theorem Jd {xs ys:List V}{rx ry:Value}{ts:List TypeId}{b:Bool}(h:cq P t=some ts)(hb:ca P ts xs ys=some b)(hx:VR ρ dom w (.agg xs) rx)(hy:VR ρ dom w (.agg ys) ry):
  (Op.equal t rx ry).run P w= .ok b w∧P.eqGuardType P.depth t=false:=by
 unfold VR at hx hy
 obtain⟨ax,rfl,hx⟩:=hx
 obtain⟨ay,rfl,hy⟩:=hy
 unfold cq at h
 split at h
 ·rename_i fs hu
  split at h
  case isFalse=>
   split at h
   ·cases h
   rename_i hg
   refine⟨?_,by simpa using hg⟩
   split at h
   case h_2=>cases h
   rename_i l hl
   split at h
   case isFalse=>cases h
   rename_i hsz
   injection h with h
   subst h
   have hlen:∀ (l:List TypeId) (vx vy:List V) (b:Bool),ca P l vx vy=some b→vx.length=l.length∧vy.length=l.length:=by
    intro l
    induction l with
    |nil=>intro vx vy b h;cases vx<;>cases vy<;>simp[ca] at h ⊢
    |cons t l ih=>
     intro vx vy b h
     cases vx with
     |nil=>simp[ca] at h
     |cons x vx=>
      cases vy with
      |nil=>simp[ca] at h
      |cons y vy=>
       simp only[ca] at h
       split at h
       case isFalse=>cases h
       split at h
       case h_2=>cases h
       rename_i h2
       have :=ih _ _ _ h2
       simp[this.1,this.2]
   obtain⟨l1,l2⟩:=hlen _ _ _ _ hb
   have lx:=hx.length
   have ly:=hy.length
   have hs:=zg 4 t l 9996 xs ys b ax ay 0 hl hb (by rw[List.drop_zero,List.take_of_length_le (by omega)];exact hx) (by rw[List.drop_zero,List.take_of_length_le (by omega)];exact hy) hsz
   have ex:∀ (zs:Array Value),zs.toList.length=l.length→zs.extract 0 (0+l.length)=zs:=fun zs hz=>by
    apply Array.ext'
    rw[Array.toList_extract]
    simp only[List.extract_eq_take_drop,List.drop_zero]
    exact List.take_of_length_le (by omega)
   simp only[A9 hu hsz,Result.andThen_ok,ex ax (by omega),ex ay (by omega)] at hs
   exact hs
  rename_i hc
  simp only[Bool.and_eq_true,Bool.not_eq_true'] at hc
  injection h with h
  subst h
  refine⟨?_,hc.2⟩
  have hfo:P.fieldsOf t=fs:=by unfold Program.fieldsOf;rw[hu]
  unfold Op.equal
  rw[show Op.maxDepth=9998+1+1 from rfl,run_equalIn_struct w _ t ax ay (by rw[hfo];exact hu) hc.1.2,hfo]
  exact xN 9998 fs.toList 0 xs ys b hc.1.1 hb (by simpa using hx) (by simpa using hy)
 ·rename_i n e hu
  split at h
  case isFalse=>cases h
  rename_i hc
  simp only[Bool.and_eq_true,Bool.not_eq_true',beq_iff_eq] at hc
  injection h with h
  subst h
  refine⟨?_,hc.2⟩
  have h1:=hc.1
  unfold al at h1
  cases hi:P.info? e with
  |none=>rw[hi] at h1;cases h1
  |some i=>
   have hce:P.cellsOf e=1:=by unfold Program.cellsOf;rw[h1];rfl
   unfold Op.equal
   rw[show Op.maxDepth=9998+1+1 from rfl,run_equalIn_array w _ ax ay hu hi,List.range_eq_range']
   exact xT 9998 hce n 0 xs ys b hb (by simpa using hx) (by simpa using hy)
 ·cases h
def Dt (r:Value):V→Prop
  | .ptr _ _=>∃ a,r= .pointer (some a)
  | .nilPtr=>r= .pointer none
  | .slice _ _ _ _=>∃ a n c,r= .slice (some a) n c
  | .nilSlice=>r= .slice none 0 0
  | .fn _ _ _=>∃ f a b,r= .func f a b
  | .nilFn=>r= .nilFunc
  | .iface _ _=>∃ t v,r= .iface t v
  | .nilIface=>r= .nilIface
  |_=>True
theorem Ba {x:V}{r:Value}(h:VR ρ dom w x r):Dt r x:=by
 cases x<;>unfold VR at h
 case ptr=>exact⟨_,h.2⟩
 case slice=>obtain⟨_,a,c,h,_⟩:=h;exact⟨a,_,c,h⟩
 case fn=>obtain⟨a,c,h,_⟩:=h;exact⟨_,a,c,h⟩
 case iface=>obtain⟨a,h,_⟩:=h;exact⟨_,a,h⟩
 all_goals first|exact h|exact trivial
theorem Je {x y:V}{rx ry:Value}(h:sv P t x y=true)(hx:VR ρ dom w x rx)(hy:VR ρ dom w y ry):
  (Op.equal t rx ry).run P w= .ok (lY x==lY y) w∧¬ (rx= .nilIface∧ry= .nilIface)∧(∀ k n,rx≠ .int k n)∧(∀ k n,ry≠ .int k n)∧(∀ s,rx≠ .string s)∧(∀ c,rx≠ .agg c)∧(∀ k n,rx≠ .float k n)∧(∀ k a b,rx≠ .complex k a b):=by
 have sx:=Ba hx
 have sy:=Ba hy
 clear hx hy
 unfold sv at h
 unfold Op.equal
 rw[show Op.maxDepth=9999+1 from rfl]
 generalize 9999=d
 split at h<;>rename_i hu<;>(try cases h)<;>unfold Dt at sx sy
 all_goals(first|obtain⟨a1,a2,a3,rfl⟩:=sx|obtain⟨a1,a2,rfl⟩:=sx|obtain⟨a1,rfl⟩:=sx|subst sx)
 all_goals(first|obtain⟨b1,b2,b3,rfl⟩:=sy|obtain⟨b1,b2,rfl⟩:=sy|obtain⟨b1,rfl⟩:=sy|subst sy)
 all_goals refine⟨?_,by simp,by simp,by simp,by simp,by simp,by simp,by simp⟩
 all_goals simp[Op.equalIn,run_underlying hu,lY]
theorem fW (op:BinOp)(x y:Operand)(a b:Value)(h1:¬ (a= .nilIface∧b= .nilIface))(h2:(∀ c,a≠ .agg c)∨P.eqGuardType P.depth t=false):(eqGuard op t x y a b).run P w= .ok () w:=by
 cases op<;>(try rfl)
 all_goals
  unfold eqGuard
  simp only[Bool.not_true,Bool.false_eq_true,if_false]
  split
  ·exact absurd ⟨rfl,rfl⟩ h1
  ·rcases h2 with h2|h2
   ·exact absurd rfl (h2 _)
   ·simp[h2]
  ·rfl
theorem mA {op:BinOp}{rx ry:Value}{b:Bool}(hb:(Op.equal t rx ry).run P w= .ok b w)(hop:op= .eql∨op= .neq)
  (h:(∀ k n,rx≠ .int k n)∧(∀ s,rx≠ .string s)∧(∀ k n,rx≠ .float k n)∧(∀ k a b,rx≠ .complex k a b)):
  (binOp op t rx ry).run P w= .ok (.bool (if op= .eql then b else !b)) w:=by
 rcases hop with rfl|rfl<;>cases rx<;>simp_all [binOp]
theorem Jf {op:BinOp}{x y:V}{rx ry:Value}{ox oy:Operand}{res:Res}(h:oM P op t x y=some res)(hp:res.pre)(hx:VR ρ dom w x rx)(hy:VR ρ dom w y ry):
  (∃ r,(do eqGuard op t ox oy rx ry;binOp op t rx ry:Sem Value).run P w= .ok r w∧VR ρ dom w res.v r):=by
 have key:∀ r,(eqGuard op t ox oy rx ry).run P w= .ok () w→(binOp op t rx ry).run P w= .ok r w→VR ρ dom w res.v r→(∃ r,(do eqGuard op t ox oy rx ry;binOp op t rx ry:Sem Value).run P w= .ok r w∧VR ρ dom w res.v r):=fun r h1 h2 h3=>
  ⟨r,by rw[Sem.run_bind,h1];exact h2,h3⟩
 unfold oM at h
 split at h
 case h_1=>
  split at h
  case h_2=>cases h
  rename_i n pre hc
  obtain⟨r,h1,h2⟩:=yv (t:=t) (.inl rfl) hc h hp hx hy
  refine key r ?_ h1 h2
  unfold eqGuard;rfl
 case h_2=>
  split at h
  case h_2=>cases h
  rename_i n pre hc
  obtain⟨r,h1,h2⟩:=yv (t:=t) (.inr rfl) hc h hp hx hy
  refine key r ?_ h1 h2
  unfold eqGuard;rfl
 case h_3=>
  rename_i hs1 hs2
  have hs:op≠ .shl∧op≠ .shr:=⟨fun e=>hs1 e,fun e=>hs2 e⟩
  split at h
  case h_1=>
   unfold VR at hx hy;subst hx;subst hy
   obtain⟨r,h1,h2⟩:=uz w t .u8 rfl .u8 op _ _ res h hp hs
   refine key r (fW _ _ _ _ _ (by simp) (.inl (by simp))) h1 ?_
   rcases h2 with⟨z,h2,rfl⟩|⟨b,h2,rfl⟩<;>rw[h2]<;>unfold VR<;>rfl
  case h_2=>
   unfold VR at hx hy;subst hx;subst hy
   obtain⟨r,h1,h2⟩:=uz w t .u32 rfl .u32 op _ _ res h hp hs
   refine key r (fW _ _ _ _ _ (by simp) (.inl (by simp))) h1 ?_
   rcases h2 with⟨z,h2,rfl⟩|⟨b,h2,rfl⟩<;>rw[h2]<;>unfold VR<;>rfl
  case h_3=>
   unfold VR at hx hy;subst hx;subst hy
   obtain⟨r,h1,h2⟩:=uz w t .u64 rfl .u64 op _ _ res h hp hs
   refine key r (fW _ _ _ _ _ (by simp) (.inl (by simp))) h1 ?_
   rcases h2 with⟨z,h2,rfl⟩|⟨b,h2,rfl⟩<;>rw[h2]<;>unfold VR<;>rfl
  case h_4=>
   unfold VR at hx hy;subst hx;subst hy
   obtain⟨r,h1,h2⟩:=Ga w t op _ _ res h hp hs
   refine key r (fW _ _ _ _ _ (by simp) (.inl (by simp))) h1 ?_
   rcases h2 with⟨z,h2,rfl⟩|⟨b,h2,rfl⟩<;>rw[h2]<;>unfold VR<;>rfl
  case h_5=>
   obtain⟨r,h1,h2⟩:=Jc (P:=P) (t:=t) h hp hx hy
   unfold VR at hx hy
   obtain⟨a,rfl,_⟩:=hx
   exact key r (fW _ _ _ _ _ (by simp) (.inl (by simp))) h1 h2
  case h_6=>
   unfold VR at hx hy;subst hx;subst hy
   split at h<;>simp only[Option.some.injEq,seval] at h<;>subst h
   ·exact key _ (fW _ _ _ _ _ (by simp) (.inl (by simp))) (by simp only[binOp,ne_eq,not_true_eq_false,if_false,Op.intCmp,Sem.run_pure];rfl) (by unfold VR;congr 1)
   ·exact key _ (fW _ _ _ _ _ (by simp) (.inl (by simp))) (by simp only[binOp,ne_eq,not_true_eq_false,if_false,Op.intCmp,Sem.run_pure];rfl) (by unfold VR;congr 1;rw[Bool.eq_iff_iff];simp)
   ·exact key _ (fW _ _ _ _ _ (by simp) (.inl (by simp))) (by simp only[binOp,ne_eq,not_true_eq_false,if_false,Op.intArith,Sem.run_pure];rfl) (by unfold VR;rfl)
  case h_7=>
   split at h
   case isFalse=>cases h
   rename_i htok
   have h1:=qK (w:=w) 9999 htok (b:=decide _) rfl hx hy
   have h1':(Op.equal t rx ry).run P w= .ok _ w:=h1
   unfold VR at hx hy;subst hx;subst hy
   split at h<;>simp only[Option.some.injEq,seval] at h<;>subst h
   ·exact key _ (fW _ _ _ _ _ (by simp) (.inl (by simp))) (mA h1' (.inl rfl) (by simp)) (by unfold VR;rfl)
   ·exact key _ (fW _ _ _ _ _ (by simp) (.inl (by simp))) (mA h1' (.inr rfl) (by simp)) (by unfold VR;rfl)
  case h_8=>
   obtain⟨xs,ys,hts⟩:True∧True∧True:=⟨trivial,trivial,trivial⟩
   split at h
   case h_2=>cases h
   rename_i ts hts
   split at h
   case h_2=>cases h
   rename_i b hb
   obtain⟨h1,h2⟩:=Jd hts hb hx hy
   unfold VR at hx
   obtain⟨a,rfl,_⟩:=hx
   split at h<;>simp only[Option.some.injEq,seval] at h<;>subst h
   ·exact key _ (fW _ _ _ _ _ (by simp) (.inr h2)) (mA h1 (.inl rfl) (by simp)) (by unfold VR;rfl)
   ·exact key _ (fW _ _ _ _ _ (by simp) (.inr h2)) (mA h1 (.inr rfl) (by simp)) (by unfold VR;rfl)
  case h_9=>
   split at h
   case isFalse=>cases h
   rename_i hn
   obtain⟨h1,h2,h3,h4,h5,h6,h7,h8⟩:=Je hn hx hy
   split at h<;>simp only[Option.some.injEq,seval] at h<;>subst h
   ·exact key _ (fW _ _ _ _ _ h2 (.inl h6)) (mA h1 (.inl rfl) ⟨h3,h5,h7,h8⟩) (by unfold VR;rfl)
   ·exact key _ (fW _ _ _ _ _ h2 (.inl h6)) (mA h1 (.inr rfl) ⟨h3,h5,h7,h8⟩) (by unfold VR;rfl)
theorem Jg {t e:TypeId}{n:Nat}{b o b' o':Nat}{c c':V}{cs cs':List V}{m m':MapC}{get:Nat→Option Blk}{rx ry:Value}(hu:P.underlying t=some (.pointer e))(hz:al P e=some (n+1))(hm:MemRel ρ dom get w)(hb:get b=some ⟨false,c::cs,some m⟩)(hb':get b'=some ⟨false,c'::cs',some m'⟩)(hx:VR ρ dom w (.ptr b o) rx)(hy:VR ρ dom w (.ptr b' o') ry):
  (Op.equal t rx ry).run P w= .ok (decide (b=b'∧o=o')) w:=by
 unfold VR at hx hy
 obtain⟨-,rfl⟩:=hx
 obtain⟨-,rfl⟩:=hy
 obtain⟨inf,hi,hs⟩:∃ inf,P.info? e=some inf∧inf.size=n+1:=by
  unfold al at hz
  cases hi:P.info? e with
  |none=>rw[hi] at hz;cases hz
  |some i=>rw[hi] at hz;injection hz with hz;exact⟨i,rfl,hz⟩
 have h1:(Op.equal t (.pointer (some ⟨(ρ b).1,(ρ b).2+o,none⟩)) (.pointer (some ⟨(ρ b').1,(ρ b').2+o',none⟩))).run P w=(sameAddr ⟨(ρ b).1,(ρ b).2+o,none⟩ ⟨(ρ b').1,(ρ b').2+o',none⟩).run P w:=by
  unfold Op.equal
  rw[show Op.maxDepth=9999+1 from rfl]
  generalize 9999=d
  simp[Op.equalIn,run_underlying hu,sizeOf,typeInfo,hi,hs]
 rw[h1]
 have isc:∀ {b:Nat} {B:Blk} {c:V},get b=some B→B.cs[0]?=some c→∃ cc t z,w.heap[(ρ b).1]?=some (.cells cc t z):=fun {b B c} hb hc=>by
  obtain⟨r,g1,-⟩:=hm.cell b B hb 0 c hc
  unfold World.cell? at g1
  cases hh:w.heap[(ρ b).1]? with
  |none=>simp[hh] at g1
  |some ob=>cases ob<;>first|exact⟨_,_,_,rfl⟩|(simp[hh] at g1)
 by_cases h:b=b'
 ·subst h
  by_cases ho:o=o'
  ·subst ho;simp[sameAddr]
  ·have h2:(⟨(ρ b).1,(ρ b).2+o,none⟩:Addr)≠⟨(ρ b).1,(ρ b).2+o',none⟩:=fun e2=>by injection e2 with e3 e4;exact ho (by omega)
   simp[sameAddr,ho,h2]
 ·have hne:=hm.inj b b' _ _ hb hb' rfl h
  have hf:=hm.mapc b _ m hb rfl
  have hf':=hm.mapc b' _ m' hb' rfl
  change ∀ o,w.frozen? ⟨(ρ b).1,o,none⟩=false at hf
  change ∀ o,w.frozen? ⟨(ρ b').1,o,none⟩=false at hf'
  obtain⟨cc,tt,z,g1⟩:=isc hb rfl
  obtain⟨cc',tt',z',g2⟩:=isc hb' rfl
  simp[sameAddr,hne,h,hf,hf',noView,viewAt,World.shape?,g1,g2,mayBeOne,stringish]
theorem Hk {op:BinOp}{t:TypeId}{x y:V}{rx ry:Value}{ox oy:Operand}{res:Res}{get get0:Nat→Option Blk}(hm:MemRel ρ dom get w)(hfp:∀ b∈res.fp,get b=get0 b)(h:lO P op t x y get0=some res)(hp:res.pre)(hx:VR ρ dom w x rx)(hy:VR ρ dom w y ry):
  (∃ r,(do eqGuard op t ox oy rx ry;binOp op t rx ry:Sem Value).run P w= .ok r w∧VR ρ dom w res.v r):=by
 unfold lO at h
 split at h
 ·rename_i b o b' o'
  unfold sH at h
  split at h
  ·rename_i e c cs m c' cs' m' hu hb hb'
   split at h
   ·rename_i n hz
    have hx':=hx
    unfold VR at hx'
    obtain⟨-,e1⟩:=hx'
    have fin:∀ (op:BinOp) (hop:op= .eql∨op= .neq),get b=some ⟨false,c::cs,some m⟩→get b'=some ⟨false,c'::cs',some m'⟩→(do eqGuard op t ox oy rx ry;binOp op t rx ry:Sem Value).run P w= .ok (.bool (if op= .eql then decide (b=b'∧o=o') else !decide (b=b'∧o=o'))) w:=fun op hop g1 g2=>by
     rw[Sem.run_bind,fW op ox oy rx ry (by rw[e1];simp) (.inl (by rw[e1];simp))]
     exact mA (Jg hu hz hm g1 g2 hx hy) hop (by rw[e1];simp)
    split at h
    ·injection h with h;subst h
     refine⟨_,fin .eql (.inl rfl) ((hfp b (by simp)).trans hb) ((hfp b' (by simp)).trans hb'),?_⟩
     unfold VR;rfl
    ·injection h with h;subst h
     refine⟨_,fin .neq (.inr rfl) ((hfp b (by simp)).trans hb) ((hfp b' (by simp)).trans hb'),?_⟩
     unfold VR;rfl
    ·cases h
   ·cases h
  ·cases h
 ·exact Jf h hp hx hy
end
end
section
section
variable {ρ:Nat→Nat×Nat}{dom:Nat→Prop}{P:Program}{w:World}
theorem Lb {op:UnOp}{x:V}{rx:Value}{res:Res}(h:nl op x=some res)(hx:VR ρ dom w x rx):∃ r,(Op.unary op rx).run P w= .ok r w∧VR ρ dom w res.v r:=by
 have hneg:∀ (k:IntKind) (hk:k.signed=false) (z:BitVec k.bits),(Op.unary .neg (.int k z.toNat)).run P w= .ok (.int k (-z).toNat) w:=fun k hk z=>by
  simp only[Op.unary,Op.intArith,Sem.run_pure]
  rw[pM k hk,Int.sub_eq_add_neg,BitVec.ofInt_add,BitVec.ofInt_neg,ib]
  congr 4
  rw[show BitVec.ofInt k.bits 0=0 by simp];simp
 have hnot:∀ (k:IntKind) (hk:k.signed=false) (z:BitVec k.bits),(Op.unary .xor (.int k z.toNat)).run P w= .ok (.int k (~~~z).toNat) w:=fun k hk z=>by
  simp only[Op.unary,Op.intBits,Sem.run_pure,hk,Bool.false_eq_true,if_false,ib]
  have :BitVec.ofInt k.bits k.max=BitVec.allOnes k.bits:=by
   apply BitVec.eq_of_toNat_eq
   rw[BitVec.toNat_ofInt,BitVec.toNat_allOnes]
   unfold IntKind.max
   rw[hk]
   cases k<;>simp_all [IntKind.bits,IntKind.signed]
  rw[this,ze k hk,BitVec.allOnes_xor]
 unfold nl at h
 split at h<;>simp only[Option.some.injEq,seval] at h<;>subst h<;>unfold VR at hx<;>subst hx
 ·exact⟨_,by simp only[Op.unary,Sem.run_pure];rfl,by unfold VR;rfl⟩
 ·exact⟨_,hneg .u8 rfl _,by unfold VR;rfl⟩
 ·exact⟨_,hneg .u32 rfl _,by unfold VR;rfl⟩
 ·exact⟨_,hneg .u64 rfl _,by unfold VR;rfl⟩
 ·exact⟨_,by simp only[Op.unary,Op.intArith,Sem.run_pure];rfl,by unfold VR;rfl⟩
 ·exact⟨_,hnot .u8 rfl _,by unfold VR;rfl⟩
 ·exact⟨_,hnot .u32 rfl _,by unfold VR;rfl⟩
 ·exact⟨_,hnot .u64 rfl _,by unfold VR;rfl⟩
theorem ns {n m:Nat}(x:BitVec n):BitVec.ofInt m (x.toNat:Int)=x.setWidth m:=by
 apply BitVec.eq_of_toNat_eq
 rw[BitVec.toNat_ofInt,BitVec.toNat_setWidth,←Int.natCast_emod]
 rfl
theorem ER {k:IntKind}{x v:V}{rx:Value}(h:rQ k x=some v)(hx:VR ρ dom w x rx):∃ kk n,rx= .int kk n∧VR ρ dom w v (.int k (k.wrap n)):=by
 have hw:∀ (k:IntKind) (hk:k.signed=false) (n:Int) (z:BitVec k.bits),BitVec.ofInt k.bits n=z→Value.int k (k.wrap n)= .int k z.toNat:=fun k hk n z hz=>by rw[pM k hk,hz]
 unfold rQ at h
 split at h<;>simp only[Option.some.injEq,seval] at h<;>subst h<;>unfold VR at hx<;>subst hx
 ·exact⟨_,_,rfl,by unfold VR;exact hw .u8 rfl _ _ (ib _)⟩
 ·exact⟨_,_,rfl,by unfold VR;exact hw .u8 rfl _ _ (ns _)⟩
 ·exact⟨_,_,rfl,by unfold VR;exact hw .u8 rfl _ _ (ns _)⟩
 ·exact⟨_,_,rfl,by unfold VR;exact hw .u8 rfl _ _ rfl⟩
 ·exact⟨_,_,rfl,by unfold VR;exact hw .u32 rfl _ _ (ns _)⟩
 ·exact⟨_,_,rfl,by unfold VR;exact hw .u32 rfl _ _ (ib _)⟩
 ·exact⟨_,_,rfl,by unfold VR;exact hw .u32 rfl _ _ (ns _)⟩
 ·exact⟨_,_,rfl,by unfold VR;exact hw .u32 rfl _ _ rfl⟩
 ·exact⟨_,_,rfl,by unfold VR;exact hw .u64 rfl _ _ (ns _)⟩
 ·exact⟨_,_,rfl,by unfold VR;exact hw .u64 rfl _ _ (ns _)⟩
 ·exact⟨_,_,rfl,by unfold VR;exact hw .u64 rfl _ _ (ib _)⟩
 ·exact⟨_,_,rfl,by unfold VR;exact hw .u64 rfl _ _ rfl⟩
 ·rename_i x
  have :=x.isLt
  exact⟨_,_,rfl,by unfold VR;rw[show IntKind.i64.wrap (x.toNat:Int)=aj x.toNat from rfl,am (by omega) (by omega)]⟩
 ·rename_i x
  have :=x.isLt
  exact⟨_,_,rfl,by unfold VR;rw[show IntKind.i64.wrap (x.toNat:Int)=aj x.toNat from rfl,am (by omega) (by omega)]⟩
 ·exact⟨_,_,rfl,by unfold VR;rfl⟩
 ·exact⟨_,_,rfl,by unfold VR;rfl⟩
 ·exact⟨_,_,rfl,by unfold VR;rfl⟩
theorem qU {v:V}{r:Value}(h:v.one=true)(hv:VR ρ dom w v r):r.oneCell'=true:=by
 cases v<;>simp[V.one] at h<;>unfold VR at hv
 case str=>obtain⟨b,rfl,_⟩:=hv;rfl
 case ptr=>obtain⟨_,rfl⟩:=hv;rfl
 case slice=>obtain⟨_,a,c,rfl,_⟩:=hv;rfl
 case fn=>obtain⟨a,c,rfl,_⟩:=hv;rfl
 case iface=>obtain⟨a,rfl,_⟩:=hv;rfl
 case map=>obtain⟨_,rfl⟩:=hv;rfl
 all_goals(subst hv;rfl)
theorem uA {v:V}{r:Value}(h:v≠ .junk)(h2:∀ l,v≠ .tup l)(hv:VR ρ dom w v r):VRs ρ dom w v.cells r.cells.toList:=by
 cases v
 case junk=>exact absurd rfl h
 case tup l=>exact absurd rfl (h2 l)
 case agg cs=>unfold VR at hv;obtain⟨a,rfl,hv⟩:=hv;exact hv
 case str=>unfold VR at hv;obtain⟨b,rfl,hb⟩:=hv;exact VRs.cons (by unfold VR;exact⟨b,rfl,hb⟩) VRs.nil
 case ptr=>unfold VR at hv;obtain⟨hd,rfl⟩:=hv;exact VRs.cons (by unfold VR;exact⟨hd,rfl⟩) VRs.nil
 case slice=>unfold VR at hv;obtain⟨hd,a,c,rfl,h3⟩:=hv;exact VRs.cons (by unfold VR;exact⟨hd,a,c,rfl,h3⟩) VRs.nil
 case fn=>unfold VR at hv;obtain⟨a,c,rfl,h3⟩:=hv;exact VRs.cons (by unfold VR;exact⟨a,c,rfl,h3⟩) VRs.nil
 case iface=>unfold VR at hv;obtain⟨a,rfl,h3⟩:=hv;exact VRs.cons (by unfold VR;exact⟨a,rfl,h3⟩) VRs.nil
 case aFn=>unfold VR at hv;obtain⟨f,rfl,hx⟩:=hv;exact VRs.cons (by unfold VR;exact⟨f,rfl,hx⟩) VRs.nil
 case map=>unfold VR at hv;obtain⟨hd,rfl⟩:=hv;exact VRs.cons (by unfold VR;exact⟨hd,rfl⟩) VRs.nil
 all_goals(unfold VR at hv;subst hv;exact VRs.cons (by unfold VR;rfl) VRs.nil)
theorem ug (r:Value):VR ρ dom w (ofValue r) r:=by
 unfold ofValue
 split
 case h_7=>unfold VR;exact⟨_,rfl,rfl⟩
 case h_2=>
  split
  ·unfold VR;rw[BitVec.toNat_ofInt];congr 1;simp;omega
  ·unfold VR;trivial
 case h_3=>
  split
  ·unfold VR;rw[BitVec.toNat_ofInt];congr 1;simp;omega
  ·unfold VR;trivial
 case h_4=>
  split
  ·unfold VR;rw[BitVec.toNat_ofInt];congr 1;simp;omega
  ·unfold VR;trivial
 all_goals(unfold VR;first|trivial|rfl)
end
end
end Go.Vm
end
