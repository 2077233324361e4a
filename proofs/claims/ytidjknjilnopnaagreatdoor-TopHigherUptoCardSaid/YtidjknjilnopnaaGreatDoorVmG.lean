/- Memory: one operation, run by the machine ('RunsTo'). -/
import Derived.Laws.MakeOwn
import Derived.Test.YtidjknjilnopnaaGreatDoorVmEToVmF
set_option linter.unusedVariables false
set_option linter.unusedSimpArgs false
set_option maxRecDepth 20000
set_option maxHeartbeats 8000000
namespace Go.Vm
def RunsTo (P:Program)(s:Sem Next)(w:World)(ρ:Nat->Nat×Nat)(dom:Nat->Prop)(get:Nat->Option Blk)(nid:Nat)(res:Res):Prop:=
 ∃ ρ' w' r,(s.run P w= .ok (.value r) w'\/(s.run P w= .ok .skip w'/\r=undef))/\(∀ b,dom b->ρ' b=ρ b)/\
  MemRel ρ' (cU dom nid res.news.length) (bZ get res.old nid res.news) w'/\VR ρ' (cU dom nid res.news.length) w' res.v r/\Frame ρ get w ρ' (bZ get res.old nid res.news) w'
section
variable {ρ:Nat->Nat×Nat}{dom:Nat->Prop}{P:Program}{w:World}{get:Nat->Option Blk}{nid:Nat}
theorem tf {k:Nat}:∀ b,dom b->cU dom nid k b:=fun _ h=> .inl h
theorem RunsTo.same {s:Sem Next}{res:Res}{r:Value}(c:MemRel ρ dom get w)(d:s.run P w= .ok (.value r) w)(e:VR ρ dom w res.v r)(a:res.old=[])(b:res.news=[]):RunsTo P s w ρ dom get nid res:=by
 refine⟨ρ,w,r,.inl d,fun _ _=>rfl,?_,?_,?_⟩
 ·rw[a,b,p9];exact c.monoDom tf
 ·exact e.mono (fun _ _=>rfl) tf (Lasts.refl w)
 ·rw[a,b,p9];exact Frame.refl ρ get w
theorem RunsTo.fresh {s:Sem Next}{res:Res}{r:Value}{w1:World}{c:Array Value}{e:TypeId}{fz:Nat×Nat}{cs:List V}(n:MemRel ρ dom get w)(a:Alike w w1)(k:¬ dom nid)
  (o:s.run P w= .ok (.value r) (w1.alloc (.cells c e fz))) (b:∀ (i:Nat) v,cs[i]?=some v->∃ r,c[i]?=some r/\VR ρ dom w v r) (d:∀ i,i<cs.length->¬ (fz.1<=i/\i<fz.2))
  (p:VR (jt ρ nid (w.heap.size,0)) (cU dom nid 1) (w1.alloc (.cells c e fz)) res.v r) (l:res.old=[]) {mp:Option MapC} (f:res.news=[some ⟨false,cs,mp⟩]) (g:∀ m,mp=some m->cs≠[]/\fz=(0,0):=by intro _ h;cases h):RunsTo P s w ρ dom get nid res:=by
 have j:w1.heap.size=w.heap.size:=by rw[a.heap]
 have h:=aaW (n.alike a) k c e fz cs (fun i v q=>by
  obtain⟨r,h1,h2⟩:=b i v q;exact⟨r,h1,h2.mono (fun _ _=>rfl) (fun _ h=>h) a.lasts⟩) d mp g
 rw[j] at h;refine⟨jt ρ nid (w.heap.size,0),_,r,.inl o,rD k,?_,?_,?_⟩
 ·rw[l,f];exact h.1
 ·rw[f];exact p
 ·rw[l,f];exact(Frame.alike a).trans h.2
theorem Kb {B D:Nat}:∀ (vs:List V) (o:Nat),(∀ (i:Nat) v,vs[i]?=some v->∃ r,w.cell? ⟨B,D+(o+i),none⟩=some r/\VR ρ dom w v r)->
  ∃ rs,VRs ρ dom w vs rs/\w.rangeAt B (D+o) rs
 |[],_,_=>⟨[],VRs.nil,fun j v h=>by simp at h⟩
 |v::vs,o,h=>by
  obtain⟨r,h1,h2⟩:=h 0 v rfl;obtain⟨rs,f,g⟩:=Kb vs (o+1) (fun i v k=>by
   obtain⟨r,h1,h2⟩:=h (i+1) v (by simpa using k);exact⟨r,by rw[show o+1+i=o+(i+1) by omega];exact h1,h2⟩)
  refine⟨r::rs,VRs.cons h2 f,fun j u c=>?_⟩;cases j with
  |zero=>simp at c;subst c;simpa using h1
  |succ j=>
   have :=g j u (by simpa using c);rw[show D+o+(j+1)=D+(o+1)+j by omega];exact this
theorem MemRel.range (c:MemRel ρ dom get w){b:Nat}{B:Blk}(d:get b=some B)(o n:Nat):∃ rs,VRs ρ dom w ((B.cs.drop o).take n) rs/\w.rangeAt (ρ b).1 ((ρ b).2+o) rs:=
 Kb _ o fun i v a=>by
  rw[oK] at a;split at a
  ·rw[il] at a;exact c.cell b B d (o+i) v a
  ·cases a
theorem ZI {t:TypeId}{n:Nat}(h:aR P t=some n):(P.info? t).map (·.size)=some n:=h
theorem HG {t:TypeId}{b:Bool}(h:bp P t=some b):∃ d,P.underlying t=some d/\d.isRow=b:=by
 unfold bp at h;cases hu:P.underlying t with
 |none=>rw[hu] at h;cases h
 |some d=>
  rw[hu] at h;refine⟨d,rfl,?_⟩;cases d<;>simp at h<;>subst h<;>rfl
theorem zV {t:TypeId}{b o s:Nat}{c:Value}{B:Blk}{e:Bool}(f:MemRel ρ dom get w)(g:VR ρ dom w (.ptr b o) c)(h:get b=some B)(j:bp P t=some e)(k:aR P t=some s):
  if e then(o+s<=B.cs.length->∃ r,(Instr.loadAt t c).run P w= .ok r w/\VR ρ dom w (.agg ((B.cs.drop o).take s)) r)
  else(o<B.cs.length->∃ r,(Instr.loadAt t c).run P w= .ok r w/\VR ρ dom w (B.cs.getD o .junk) r):=by
 unfold VR at g;obtain⟨_,rfl⟩:=g;obtain⟨d,hu,l⟩:=HG j;cases e
 ·simp only[ct,if_false];intro i;obtain⟨r,h1,h2⟩:=f.cell b B h o (B.cs.getD o .junk) (by rw[aW];simp[i]);refine⟨r,?_,h2⟩;have a:(isAgg t).run P w= .ok false w:=by
   unfold isAgg;rw[Sem.run_bind,run_underlying hu w];cases d<;>simp_all
  simp[Instr.loadAt,Instr.sureAddr,loadVar,a,h1]
 ·simp only[if_true];intro i;obtain⟨rs,h1,h2⟩:=f.range h o s;refine⟨.agg rs.toArray,run_loadAt_mid w _ _ t rs d h2 hu l (by rw[ZI k,h1.length];simp;omega),?_⟩;unfold VR;exact⟨_,rfl,by simpa using h1⟩
theorem FO {o:Oper}{t:TypeId}{b p:Nat}{y rx:Value}{x:V}{cs:List V}{mp:Option MapC}(g:MemRel ρ dom get w)(z:VR ρ dom w (.ptr b p) y)(A:VR ρ dom w x rx)(h:∀ m,mp=some m->cs≠[])(k:get b=some ⟨false,cs,mp⟩)
  (a:aR P t=some x.cells.length) (B:p+x.cells.length<=cs.length) (h1:∀ u∈x.cells,u.one=true):
  RunsTo P (do Instr.storeAt t y rx;pure .skip:Sem Next) w ρ dom get nid {v:= .junk,old:=[(b,some ⟨false,splice cs p x.cells,mp⟩)]}:=by
 unfold VR at z;obtain⟨_,rfl⟩:=z;have n:x≠ .junk:=fun e=>by subst e;have :=h1 .junk (by simp[V.cells]);simp[V.one] at this
 have q:∀ l,x≠ .tup l:=fun l e=>by subst e;have :=h1 (.tup l) (by simp[V.cells]);simp[V.one] at this
 have hc:=Ba n q A;have C:=hc.length;have c:∀ u∈rx.cells.toList,u.oneCell'=true:=fun u hu=>by
  obtain⟨i,d,rfl⟩:=xE.1 hu;obtain⟨r,g1,g2⟩:=hc.get (i:=i) (v:=x.cells[i]'(aa)) ae;rw[aF d] at g1;injection g1 with g1
  rw[g1];exact zC (h1 _ (dd _)) g2
 have f:=run_storeCells_cells (P:=P) (ρ b).1 ((ρ b).2+p) rx.cells.toList 0 w (fun j n=>by
   obtain⟨u,hu,_⟩:=g.cell b _ k (p+j) (cs[p+j]'(aa)) ae;rw[show(ρ b).2+p+0+j=(ρ b).2+(p+j) by omega,hu];rfl) (fun j n=>by
   have :=g.free b _ k rfl (p+j) (by show p+j<cs.length;omega);rw[show(ρ b).2+p+0+j=(ρ b).2+(p+j) by omega];exact this) c
 simp only[iQ] at f;obtain⟨g1,g2⟩:=yM (nid:=nid) g h k hc aa;refine⟨ρ,_,undef,.inr ⟨?_,rfl⟩,fun _ _=>rfl,g1,by unfold VR;trivial,g2⟩;have D:(sizeOf t).run P w= .ok x.cells.length w:=by
  unfold aR at a;cases d:P.info? t with
  |none=>rw[d] at a;cases a
  |some i=>rw[d] at a;injection a with a;simp[sizeOf,typeInfo,d,a]
 have s:rx.cells.size=x.cells.length:=by rw[<-C];simp
 simp[Instr.storeAt,Instr.sureAddr,storeVar,D,s,f]
theorem xn {e:TypeId}{z:List V}(h:bM P e=some z):∃ i a,P.info? e=some i/\i.zero=some a/\z=a.cells.toList.map ofValue:=by
 unfold bM at h;cases c:P.info? e with
 |none=>rw[c] at h;cases h
 |some i=>
  rw[c] at h;simp only[Option.bind_some] at h;cases b:i.zero with
  |none=>rw[b] at h;cases h
  |some a=>rw[b] at h;injection h with h;exact⟨i,a,rfl,b,h.symm⟩
theorem xl (b:Value):VRs ρ dom w (b.cells.toList.map ofValue) b.cells.toList:=
 VRs.of_get ae fun i v r a c=>by
  rw[ci,c] at a;injection a with a
  subst a;exact AV r
theorem JV {s:Sem Next}{e:TypeId}{c:Array Value}{cs:List V}(b:MemRel ρ dom get w)(d:¬ dom nid)(hc:VRs ρ dom w cs c.toList)
  (f:s.run P w= .ok (.value (.pointer (some ⟨w.heap.size,0,none⟩))) (w.alloc (.cells c e))) {mp:Option MapC} (a:∀ m,mp=some m->cs≠[]:=by intro _ h;cases h):RunsTo P s w ρ dom get nid {v:= .ptr nid 0,news:=[some ⟨false,cs,mp⟩]}:=
 RunsTo.fresh b (Alike.refl w) d f (fun i v g=>by
  obtain⟨r,h1,h2⟩:=hc.get g;exact⟨r,by simpa using h1,h2⟩) (fun i _ h=>by have :=h.2;simp at this) (by
  unfold VR;exact⟨.inr ⟨aa,aa⟩,by rw[fX]⟩) rfl rfl fun m h=>⟨a m h,rfl⟩
theorem Mw {e:TypeId}{z:List V}(h:bM P e=some z)(d:MemRel ρ dom get w)(f:¬ dom nid):
  RunsTo P (do pure (.value (<-Instr.alloc e true (.tuple #[]))):Sem Next) w ρ dom get nid {v:= .ptr nid 0,news:=[some ⟨false,z,bC P e⟩]}:=by
 have g:=h;obtain⟨i,b,h1,h2,rfl⟩:=xn h;refine JV (e:=e) (c:=b.cells) d f (xl b) ?_ fun m a j=>?_
 rotate_left
 ·unfold bC at a;rw[g,j] at a;cases a
 simp[Instr.alloc,zeroValue,typeInfo,h1,h2,newVar,newRow]
theorem Lz {e:TypeId}{x:V}{rx:Value}(d:VR ρ dom w x rx)(f:x≠ .junk)(a:∀ l,x≠ .tup l)(g:MemRel ρ dom get w)(i:¬ dom nid){mp:Option MapC}(b:∀ m,mp=some m->x.cells≠[]:=by intro _ h;cases h):
  RunsTo P (do pure (.value (<-Instr.box e rx)):Sem Next) w ρ dom get nid {v:= .ptr nid 0,news:=[some ⟨false,x.cells,mp⟩]}:=by
 refine JV (e:=e) (c:=rx.cells) g i (Ba f a d) ?_ b;simp[Instr.box,newVar,newRow]
theorem EU:∀ (vs:List Value) (k off:Nat) (cs:Array Value) (i:Nat),off+k+vs.length<=cs.size->
  ((vs.zipIdx k).foldl (fun cs (x:Value×Nat)=>cs.setIfInBounds (off+x.2) x.1) cs)[i]?=if off+k<=i/\i<off+k+vs.length then vs[i-(off+k)]? else cs[i]?
 |[],k,off,cs,i,_=>by
  simp only[List.zipIdx_nil,List.foldl_nil,ig,iQ];rw[if_neg aa]
 |v::vs,k,off,cs,i,h=>by
  simp only[ce] at h;rw[List.zipIdx_cons,A9,EU vs (k+1) off _ i (by simp;omega)];simp only[ce];by_cases h1:off+(k+1)<=i/\i<off+(k+1)+vs.length
  ·rw[if_pos h1,if_pos aa,show i-(off+k)=(i-(off+(k+1)))+1 by omega];simp
  ·rw[if_neg h1];by_cases h2:i=off+k
   ·subst h2;rw[if_pos aa,Array.getElem?_setIfInBounds_self_of_lt aa];simp
   ·rw[if_neg aa,Array.getElem?_setIfInBounds_ne aa]
theorem G1:∀ (vs:List (Value×Nat)) (off:Nat) (cs:Array Value),(vs.foldl (fun cs (x:Value×Nat)=>cs.setIfInBounds (off+x.2) x.1) cs).size=cs.size
 |[],_,_=>rfl
 |v::vs,off,cs=>by rw[A9,G1 vs];simp
theorem zh {place:Nat->Option (Nat×Nat)}:∀ (parts:List (Nat×V)) (a:List (Nat×Value)) (vc cs:List V) (rc:Array Value),
  a.length=parts.length->(∀ (i:Nat) x y,parts[i]?=some x->a[i]?=some y->x.1=y.1/\VR ρ dom w x.2 y.2)->lw place vc parts=some cs->VRs ρ dom w vc rc.toList->
  ∃ d,Instr.fill place rc a=some d/\VRs ρ dom w cs d.toList
 |[],[],vc,cs,rc,_,_,h,n=>by
  simp only[lw,cf] at h;subst h;exact⟨rc,rfl,n⟩
 |[],_::_,_,_,_,f,_,_,_=>by simp at f
 |_::_,[],_,_,_,f,_,_,_=>by simp at f
 |(i,v)::parts,(E,r)::a,vc,cs,rc,f,u,h,n=>by
  obtain⟨e,o⟩:=u 0 _ _ rfl rfl;simp only at e;subst e;simp only[lw] at h;simp only[Instr.fill];cases g:place i with
  |none=>rw[g] at h;cases h
  |some os=>
   obtain⟨off,size⟩:=os;rw[g] at h;simp only at h |-
   split at h
   case isFalse=>cases h
   rename_i hc;obtain⟨k,A,B⟩:=hc;have C:v≠ .junk:=fun e=>by subst e;simp[V.solid] at k
   have p:∀ l,v≠ .tup l:=fun l e=>by subst e;simp[V.solid] at k
   have m:=Ba C p o;have q:r.cells.size=size:=by have :=m.length;simp at this;omega
   have s:rc.size=vc.length:=by have :=n.length;simpa using this
   rw[if_neg (by simp only[zF,decide_eq_true_eq,ne_eq,not_or];exact⟨by simpa using q,aa⟩)];refine zh parts a _ cs _ (by simpa using f) (fun j x y c t=>u (j+1) x y (by simpa using c) (by simpa using t)) h ?_;refine VRs.of_get ?_ fun j x y c t=>?_
   ·simp only[xv];rw[<-Array.foldl_toList,Array.toList_zipIdx,G1,s,rq aa]
   ·rw[Ax aa] at c;have b:(Array.foldl (fun cs (x:Value×Nat)=>cs.setIfInBounds (off+x.2) x.1) rc r.cells.zipIdx)[j]?=some y:=by rw[<-t];simp
    rw[<-Array.foldl_toList,Array.toList_zipIdx,EU _ 0 off rc j (by simp;omega)] at b;simp only[iQ,xv] at b;by_cases z:off<=j/\j<off+v.cells.length
    ·rw[if_pos z] at c;rw[if_pos aa] at b;obtain⟨D,g1,g2⟩:=m.get c;rw[b] at g1;injection g1 with g1;subst g1;exact g2
    ·rw[if_neg z] at c;rw[if_neg aa] at b;obtain⟨D,g1,g2⟩:=n.get c;have :rc.toList[j]?=some y:=by rw[<-b];simp
     rw[this] at g1;injection g1 with g1;subst g1;exact g2
theorem Ls {t:TypeId}{z cs:List V}{k:List (Nat×Nat) ⊕ Nat}{parts:List (Nat×V)}{a:Array (Nat×Value)}(h:bR P t=some (z,k))(m:a.size=parts.length)
  (o:∀ (i:Nat) x y,parts[i]?=some x->a.toList[i]?=some y->x.1=y.1/\VR ρ dom w x.2 y.2)
  (p:lw (match k with| .inl pl=>fun i=>pl[i]?| .inr s=>fun i=>some (i*s,s)) z parts=some cs):∃ r,(Instr.build t a).run P w= .ok r w/\VR ρ dom w (.agg cs) r:=by
 unfold bR at h;cases g:bM P t with
 |none=>rw[g] at h;simp at h
 |some u=>
  obtain⟨i,j,q,f,rfl⟩:=xn g;cases hu:P.underlying t with
  |none=>rw[g,hu] at h;simp at h
  |some d=>
   rw[g,hu] at h;have fin:∀ rc,P.built t a.toList=some rc->VRs ρ dom w cs rc.toList->∃ r,(Instr.build t a).run P w= .ok r w/\VR ρ dom w (.agg cs) r:=fun rc h1 h2=>
    ⟨.agg rc,run_build w t a rc h1,by unfold VR;exact⟨_,rfl,h2⟩⟩
   cases d<;>simp only[rO,seval,gI] at h
   case struct fs=>
    obtain⟨pl,l,rfl,rfl⟩:=h;obtain⟨rc,h1,h2⟩:=zh parts a.toList _ cs j.cells (by simpa using m) o p (xl j);refine fin rc ?_ h2;unfold Program.built;simp only[q,hu,f,l];simpa using h1
   case array n e=>
    obtain⟨s,b,rfl,rfl⟩:=h;obtain⟨rc,h1,h2⟩:=zh parts a.toList _ cs j.cells (by simpa using m) o p (xl j);refine fin rc ?_ h2;unfold aR at b;cases c:P.info? e with
    |none=>rw[c] at b;cases b
    |some v=>
     rw[c] at b;injection b with b
     unfold Program.built;simp only[q,hu,f,c,b];exact h1
end
end Go.Vm
