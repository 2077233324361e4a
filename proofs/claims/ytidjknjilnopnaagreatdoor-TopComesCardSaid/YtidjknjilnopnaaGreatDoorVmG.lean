/- Memory: one operation, run by the machine ('RunsTo'). -/
import Derived.Laws.MakeOwn
import Derived.Test.YtidjknjilnopnaaGreatDoorVmEToVmF
set_option linter.unusedVariables false
set_option linter.unusedSimpArgs false
set_option maxRecDepth 20000
set_option maxHeartbeats 8000000
namespace Go.Vm
def bF (P:Program)(s:Sem Next)(w:World)(ρ:Nat->Nat×Nat)(dom:Nat->Prop)(get:Nat->Option aa)(nid:Nat)(res:bu):Prop:=
 ∃ e f r,(s.run P w= .ok (.value r) f\/(s.run P w= .ok .skip f/\r=undef))/\(∀ b,dom b->e b=ρ b)/\
  bS e (gr dom nid res.news.length) (eu get res.old nid res.news) f/\VR e (gr dom nid res.news.length) f res.v r/\Frame ρ get w e (eu get res.old nid res.news) f
section
variable {ρ:Nat->Nat×Nat}{dom:Nat->Prop}{P:Program}{w:World}{get:Nat->Option aa}{nid:Nat}
theorem Al {k:Nat}:∀ b,dom b->gr dom nid k b:=fun _ h=> .inl h
theorem bF.same {s:Sem Next}{res:bu}{r:Value}(e:bS ρ dom get w)(b:s.run P w= .ok (.value r) w)(c:VR ρ dom w res.v r)(d:res.old=[])(a:res.news=[]):bF P s w ρ dom get nid res:=by
 refine⟨ρ,w,r,.inl b,fun _ _=>rfl,?_,?_,?_⟩
 .rw[d,a,vQ];exact e.sn Al
 .exact c.mono (fun _ _=>rfl) Al (cN.refl w)
 .rw[d,a,vQ];exact Frame.refl ρ get w
theorem bF.fresh {s:Sem Next}{res:bu}{r:Value}{w1:World}{c:Array Value}{e:TypeId}{fz:Nat×Nat}{cs:List V}(p:bS ρ dom get w)(a:Alike w w1)(k:¬ dom nid)
  (l:s.run P w= .ok (.value r) (w1.alloc (.cells c e fz))) (b:∀ (i:Nat) v,cs[i]?=some v->∃ r,c[i]?=some r/\VR ρ dom w v r) (d:∀ i,i<cs.length->¬ (fz.1<=i/\i<fz.2))
  (n:VR (nU ρ nid (w.heap.size,0)) (gr dom nid 1) (w1.alloc (.cells c e fz)) res.v r) (o:res.old=[]) {mp:Option aV} (f:res.news=[some ⟨false,cs,mp⟩]) (g:∀ m,mp=some m->cs≠[]/\fz=(0,0):=by intro _ h;cases h):bF P s w ρ dom get nid res:=by
 have j:w1.heap.size=w.heap.size:=by rw[a.heap]
 have h:=ah7 (p.alike a) k c e fz cs (fun i v q=>by
  obtain⟨r,t,u⟩:=b i v q;exact⟨r,t,u.mono (fun _ _=>rfl) (fun _ h=>h) a.kL⟩) d mp g
 rw[j] at h;refine⟨nU ρ nid (w.heap.size,0),_,r,.inl l,xC k,?_,?_,?_⟩
 .rw[o,f];exact h.1
 .rw[f];exact n
 .rw[o,f];exact(Frame.alike a).trans h.2
theorem RB {B D:Nat}:∀ (vs:List V) (o:Nat),(∀ (i:Nat) v,vs[i]?=some v->∃ r,w.cell? ⟨B,D+(o+i),none⟩=some r/\VR ρ dom w v r)->
  ∃ k,ao ρ dom w vs k/\w.rangeAt B (D+o) k
 |[],_,_=>⟨[],ao.nil,fun j v h=>by simp at h⟩
 |v::vs,o,h=>by
  obtain⟨r,l,m⟩:=h 0 v rfl;obtain⟨k,f,g⟩:=RB vs (o+1) (fun i v n=>by
   obtain⟨r,l,m⟩:=h (i+1) v (by simpa using n);exact⟨r,by rw[show o+1+i=o+(i+1) by omega];exact l,m⟩)
  refine⟨r::k,ao.cons m f,fun j u c=>?_⟩;cases j with
  |zero=>simp at c;subst c;simpa using l
  |succ j=>
   have :=g j u (by simpa using c);rw[show D+o+(j+1)=D+(o+1)+j by omega];exact this
theorem bS.range (e:bS ρ dom get w){b:Nat}{B:aa}(a:get b=some B)(o n:Nat):∃ d,ao ρ dom w ((B.cs.drop o).take n) d/\w.rangeAt (ρ b).1 ((ρ b).2+o) d:=
 RB _ o fun i v c=>by
  rw[uE] at c;split at c
  .rw[mA] at c;exact e.cell b B a (o+i) v c
  .cases c
theorem Yh {t:TypeId}{n:Nat}(h:bU P t=some n):(P.info? t).map (·.size)=some n:=h
theorem RT {t:TypeId}{b:Bool}(h:cL P t=some b):∃ d,P.underlying t=some d/\d.isRow=b:=by
 unfold cL at h;cases hu:P.underlying t with
 |none=>rw[hu] at h;cases h
 |some d=>
  rw[hu] at h;refine⟨d,rfl,?_⟩;cases d<;>simp at h<;>subst h<;>rfl
theorem E3 {t:TypeId}{b o s:Nat}{c:Value}{B:aa}{bb:Bool}(k:bS ρ dom get w)(e:VR ρ dom w (.ptr b o) c)(f:get b=some B)(ht:cL P t=some bb)(g:bU P t=some s):
  if bb then(o+s<=B.cs.length->∃ r,(Instr.loadAt t c).run P w= .ok r w/\VR ρ dom w (.agg ((B.cs.drop o).take s)) r)
  else(o<B.cs.length->∃ r,(Instr.loadAt t c).run P w= .ok r w/\VR ρ dom w (B.cs.getD o .bH) r):=by
 unfold VR at e;obtain⟨_,rfl⟩:=e;obtain⟨d,m,h⟩:=RT ht;cases bb
 .simp only[fh,fH];intro l;obtain⟨r,i,j⟩:=k.cell b B f o (B.cs.getD o .bH) (by rw[bY];simp[l]);refine⟨r,?_,j⟩;have a:(isAgg t).run P w= .ok false w:=by
   unfold isAgg;rw[dx,dS m w];cases d<;>simp_all
  simp[Instr.loadAt,Instr.sureAddr,loadVar,a,i]
 .simp only[eJ];intro l;obtain⟨n,i,j⟩:=k.range f o s;refine⟨.agg n.toArray,run_loadAt_mid w _ _ t n d j m h (by rw[Yh g,i.length];simp;omega),?_⟩;unfold VR;exact⟨_,rfl,by simpa using i⟩
theorem M3 {o:Oper}{t:TypeId}{b p:Nat}{q C:Value}{x:V}{cs:List V}{mp:Option aV}(E:bS ρ dom get w)(s:VR ρ dom w (.ptr b p) q)(y:VR ρ dom w x C)(f:∀ m,mp=some m->cs≠[])(g:get b=some ⟨false,cs,mp⟩)
  (a:bU P t=some x.cells.length) (K:p+x.cells.length<=cs.length) (h1:∀ u∈x.cells,u.one=true):
  bF P (do Instr.storeAt t q C;pure .skip:Sem Next) w ρ dom get nid {v:= .bH,old:=[(b,some ⟨false,cC cs p x.cells,mp⟩)]}:=by
 unfold VR at s;obtain⟨_,rfl⟩:=s;have h:x≠ .bH:=fun e=>by subst e;have :=h1 .bH (by simp[V.cells]);simp[V.one] at this
 have k:∀ l,x≠ .aZ l:=fun l e=>by subst e;have :=h1 (.aZ l) (by simp[V.cells]);simp[V.one] at this
 have F:=GW h k y;have z:=F.length;have c:∀ u∈C.cells.toList,u.oneCell'=true:=fun u G=>by
  obtain⟨i,D,rfl⟩:=Cj.1 G;obtain⟨r,B,H⟩:=F.get (i:=i) (v:=x.cells[i]'(I)) J;rw[bn D] at B;injection B with B
  rw[B];exact DR (h1 _ (eM _)) H
 have d:=HE (P:=P) (ρ b).1 ((ρ b).2+p) C.cells.toList 0 w (fun j h=>by
   obtain⟨u,G,_⟩:=E.cell b _ g (p+j) (cs[p+j]'(I)) J;rw[show(ρ b).2+p+0+j=(ρ b).2+(p+j) by omega,G];rfl) (fun j h=>by
   have :=E.free b _ g rfl (p+j) (by show p+j<cs.length;omega);rw[show(ρ b).2+p+0+j=(ρ b).2+(p+j) by omega];exact this) c
 simp only[nJ] at d;obtain⟨B,H⟩:=DH (nid:=nid) E f g F I;refine⟨ρ,_,undef,.inr ⟨?_,rfl⟩,fun _ _=>rfl,B,by unfold VR;trivial,H⟩;have A:(sizeOf t).run P w= .ok x.cells.length w:=by
  unfold bU at a;cases D:P.info? t with
  |none=>rw[D] at a;cases a
  |some i=>rw[D] at a;injection a with a;simp[sizeOf,typeInfo,D,a]
 have n:C.cells.size=x.cells.length:=by rw[<-z];simp
 simp[Instr.storeAt,Instr.sureAddr,storeVar,A,n,d]
theorem BT {e:TypeId}{z:List V}(h:dz P e=some z):∃ i a,P.info? e=some i/\i.zero=some a/\z=a.cells.toList.map ofValue:=by
 unfold dz at h;cases hi:P.info? e with
 |none=>rw[hi] at h;cases h
 |some i=>
  rw[hi] at h;simp only[Option.bind_some] at h;cases b:i.zero with
  |none=>rw[b] at h;cases h
  |some a=>rw[b] at h;injection h with h;exact⟨i,a,rfl,b,h.symm⟩
theorem C3 (b:Value):ao ρ dom w (b.cells.toList.map ofValue) b.cells.toList:=
 ao.yz J fun i v r a c=>by
  rw[dU,c] at a;injection a with a
  subst a;exact IH r
theorem R7 {s:Sem Next}{e:TypeId}{c:Array Value}{cs:List V}(f:bS ρ dom get w)(b:¬ dom nid)(hc:ao ρ dom w cs c.toList)
  (d:s.run P w= .ok (.value (.pointer (some ⟨w.heap.size,0,none⟩))) (w.alloc (.cells c e))) {mp:Option aV} (a:∀ m,mp=some m->cs≠[]:=by intro _ h;cases h):bF P s w ρ dom get nid {v:= .ptr nid 0,news:=[some ⟨false,cs,mp⟩]}:=
 bF.fresh f (Alike.refl w) b d (fun i v g=>by
  obtain⟨r,j,k⟩:=hc.get g;exact⟨r,by simpa using j,k⟩) (fun i _ h=>by have :=h.2;simp at this) (by
  unfold VR;exact⟨.inr ⟨I,I⟩,by rw[ku]⟩) rfl rfl fun m h=>⟨a m h,rfl⟩
theorem acz {e:TypeId}{z:List V}(h:dz P e=some z)(j:bS ρ dom get w)(d:¬ dom nid):
  bF P (do pure (.value (<-Instr.alloc e true (.tuple #[]))):Sem Next) w ρ dom get nid {v:= .ptr nid 0,news:=[some ⟨false,z,dg P e⟩]}:=by
 have f:=h;obtain⟨i,b,k,l,rfl⟩:=BT h;refine R7 (e:=e) (c:=b.cells) j d (C3 b) ?_ fun m a g=>?_
 rotate_left
 .unfold dg at a;rw[f,g] at a;cases a
 simp[Instr.alloc,zeroValue,typeInfo,k,l,newVar,newRow]
theorem Lv {e:TypeId}{x:V}{i:Value}(d:VR ρ dom w x i)(f:x≠ .bH)(a:∀ l,x≠ .aZ l)(j:bS ρ dom get w)(g:¬ dom nid){mp:Option aV}(b:∀ m,mp=some m->x.cells≠[]:=by intro _ h;cases h):
  bF P (do pure (.value (<-Instr.box e i)):Sem Next) w ρ dom get nid {v:= .ptr nid 0,news:=[some ⟨false,x.cells,mp⟩]}:=by
 refine R7 (e:=e) (c:=i.cells) j g (GW f a d) ?_ b;simp[Instr.box,newVar,newRow]
theorem Lw:∀ (vs:List Value) (k off:Nat) (cs:Array Value) (i:Nat),off+k+vs.length<=cs.size->
  ((vs.zipIdx k).foldl (fun cs (x:Value×Nat)=>cs.setIfInBounds (off+x.2) x.1) cs)[i]?=if off+k<=i/\i<off+k+vs.length then vs[i-(off+k)]? else cs[i]?
 |[],k,off,cs,i,_=>by
  simp only[List.zipIdx_nil,List.foldl_nil,lq,nJ];rw[aq I]
 |v::vs,k,off,cs,i,h=>by
  simp only[dM] at h;rw[List.zipIdx_cons,J1,Lw vs (k+1) off _ i cp];simp only[dM];by_cases a:off+(k+1)<=i/\i<off+(k+1)+vs.length
  .rw[aM a,aM I,show i-(off+k)=(i-(off+(k+1)))+1 by omega];simp
  .rw[aq a];by_cases b:i=off+k
   .subst b;rw[aM I,Array.getElem?_setIfInBounds_self_of_lt I];simp
   .rw[aq I,Array.getElem?_setIfInBounds_ne I]
theorem Tl:∀ (vs:List (Value×Nat)) (off:Nat) (cs:Array Value),(vs.foldl (fun cs (x:Value×Nat)=>cs.setIfInBounds (off+x.2) x.1) cs).size=cs.size
 |[],_,_=>rfl
 |v::vs,off,cs=>by rw[J1,Tl vs];simp
theorem Ew {D:Nat->Option (Nat×Nat)}:∀ (parts:List (Nat×V)) (a:List (Nat×Value)) (H cs:List V) (E:Array Value),
  a.length=parts.length->(∀ (i:Nat) x y,parts[i]?=some x->a[i]?=some y->x.1=y.1/\VR ρ dom w x.2 y.2)->qx D H parts=some cs->ao ρ dom w H E.toList->
  ∃ d,Instr.fill D E a=some d/\ao ρ dom w cs d.toList
 |[],[],H,cs,E,_,_,h,n=>by
  simp only[qx,eg] at h;subst h;exact⟨E,rfl,n⟩
 |[],_::_,_,_,_,f,_,_,_=>by simp at f
 |_::_,[],_,_,_,f,_,_,_=>by simp at f
 |(i,v)::parts,(C,r)::a,H,cs,E,f,u,h,n=>by
  obtain⟨e,o⟩:=u 0 _ _ rfl rfl;simp only at e;subst e;simp only[qx] at h;simp only[Instr.fill];cases g:D i with
  |none=>rw[g] at h;cases h
  |some M=>
   obtain⟨F,size⟩:=M;rw[g] at h;simp only at h |-
   split at h
   case isFalse=>cases h
   rename_i N;obtain⟨k,z,O⟩:=N;have A:v≠ .bH:=fun e=>by subst e;simp[V.tN] at k
   have p:∀ l,v≠ .aZ l:=fun l e=>by subst e;simp[V.tN] at k
   have m:=GW A p o;have q:r.cells.size=size:=by have :=m.length;simp at this;omega
   have s:E.size=H.length:=by have :=n.length;simpa using this
   rw[aq (by simp only[DW,AG,ic,not_or];exact⟨by simpa using q,I⟩)];refine Ew parts a _ cs _ (by simpa using f) (fun j x y c t=>u (j+1) x y (by simpa using c) (by simpa using t)) h ?_;refine ao.yz ?_ fun j x y c t=>?_
   .simp only[CI];rw[<-Array.foldl_toList,Array.toList_zipIdx,Tl,s,xT I]
   .rw[FX I] at c;have b:(Array.foldl (fun cs (x:Value×Nat)=>cs.setIfInBounds (F+x.2) x.1) E r.cells.zipIdx)[j]?=some y:=by rw[<-t];simp
    rw[<-Array.foldl_toList,Array.toList_zipIdx,Lw _ 0 F E j cp] at b;simp only[nJ,CI] at b;by_cases L:F<=j/\j<F+v.cells.length
    .rw[aM L] at c;rw[aM I] at b;obtain⟨B,G,K⟩:=m.get c;rw[b] at G;injection G with G;subst G;exact K
    .rw[aq L] at c;rw[aq I] at b;obtain⟨B,G,K⟩:=n.get c;have :E.toList[j]?=some y:=by rw[<-b];simp
     rw[this] at G;injection G with G;subst G;exact K
theorem QJ {t:TypeId}{z cs:List V}{k:List (Nat×Nat) ⊕ Nat}{parts:List (Nat×V)}{a:Array (Nat×Value)}(h:dL P t=some (z,k))(m:a.size=parts.length)
  (o:∀ (i:Nat) x y,parts[i]?=some x->a.toList[i]?=some y->x.1=y.1/\VR ρ dom w x.2 y.2)
  (B:qx (match k with| .inl C=>fun i=>C[i]?| .inr s=>fun i=>some (i*s,s)) z parts=some cs):∃ r,(Instr.build t a).run P w= .ok r w/\VR ρ dom w (.agg cs) r:=by
 unfold dL at h;cases g:dz P t with
 |none=>rw[g] at h;simp at h
 |some E=>
  obtain⟨i,j,D,f,rfl⟩:=BT g;cases hu:P.underlying t with
  |none=>rw[g,hu] at h;simp at h
  |some d=>
   rw[g,hu] at h;have u:∀ q,P.built t a.toList=some q->ao ρ dom w cs q.toList->∃ r,(Instr.build t a).run P w= .ok r w/\VR ρ dom w (.agg cs) r:=fun q v A=>
    ⟨.agg q,run_build w t a q v,by unfold VR;exact⟨_,rfl,A⟩⟩
   cases d<;>simp only[yy,seval,lW] at h
   case struct fs=>
    obtain⟨C,l,rfl,rfl⟩:=h;obtain⟨q,v,A⟩:=Ew parts a.toList _ cs j.cells (by simpa using m) o B (C3 j);refine u q ?_ A;unfold Program.built;simp only[D,hu,f,l];simpa using v
   case array n e=>
    obtain⟨s,b,rfl,rfl⟩:=h;obtain⟨q,v,A⟩:=Ew parts a.toList _ cs j.cells (by simpa using m) o B (C3 j);refine u q ?_ A;unfold bU at b;cases c:P.info? e with
    |none=>rw[c] at b;cases b
    |some p=>
     rw[c] at b;injection b with b
     unfold Program.built;simp only[D,hu,f,c,b];exact v
end
end Go.Vm
