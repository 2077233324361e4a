/- Proved: laws of a machine of values; no conditions but each theorem's own. -/
import Derived.Lib.OthersKept
import Derived.Test.YtidjknjilnopnaaGreatDoorShelfMulToAeO
set_option linter.unusedVariables false
set_option linter.unusedSimpArgs false
set_option maxRecDepth 20000
set_option maxHeartbeats 8000000
section
namespace Go.Vm
section
open Go Go.RowKit
section
variable {P:Program}{n:Nat}{S:ByteArray}{b:Nat}{w0 w:World}{ρ:Nat->Nat×Nat}{s:St}{a:Act}{pos:Nat}
end
end
section
open Go Go.RowKit
section
variable {P:Program}{m n:Nat}
end
end
section
open Go Go.RowKit
mutual
def V.flat:V->Bool
 | .slice _ _ _ _=>false
 | .fn _ fs cs=>ow fs&&ow cs
 | .agg cs=>ow cs
 | .aZ cs=>ow cs
 | .iface _ v=>v.flat
 | .iV _ _ v=>v.flat
 |_=>true
def ow:List V->Bool
 |[]=>true
 |v::l=>v.flat&&ow l
end
theorem Le:∀ {l:List V} {i:Nat} {v:V},ow l=true->l[i]?=some v->v.flat=true
 |[],i,v,_,h=>by simp at h
 |x::l,0,v,a,h=>by
  unfold ow at a;simp at h;subst h;exact(xg.1 a).1
 |x::l,i+1,v,a,h=>by
  unfold ow at a;exact Le (xg.1 a).2 (by simpa using h)
theorem Sh:∀ (l:Z),ow (l.map .u8)=true
 |[]=>rfl
 |x::l=>by rw[dD];unfold ow;rw[Sh l];rfl
section
variable {ρ:Nat->Nat×Nat}{dom:Nat->Prop}{w w':World}
mutual
theorem VR.flat:∀ {v:V} {r:Value},VR ρ dom w v r->v.flat=true->VR ρ dom w' v r
 | .bH,_,_,_=>by unfold VR;trivial
 | .bool _,_,h,_=>by unfold VR at*;exact h
 | .u8 _,_,h,_=>by unfold VR at*;exact h
 | .u32 _,_,h,_=>by unfold VR at*;exact h
 | .u64 _,_,h,_=>by unfold VR at*;exact h
 | .i64 _,_,h,_=>by unfold VR at*;exact h
 | .i32 _,_,h,_=>by unfold VR at*;exact h
 | .str _,_,h,_=>by unfold VR at*;exact h
 | .ptr b _,_,h,_=>by unfold VR at*;exact h
 | .nilPtr,_,h,_=>by unfold VR at*;exact h
 | .slice _ _ _ _,_,_,hf=>by unfold V.flat at hf;cases hf
 | .bG,_,h,_=>by unfold VR at*;exact h
 | .fn _ fs cs,_,h,hf=>by
  unfold V.flat at hf;unfold VR at*;obtain⟨f',c',h1,h2,h3⟩:=h;exact⟨f',c',h1,ao.flat h2 (xg.1 hf).1,ao.flat h3 (xg.1 hf).2⟩
 | .ff,_,h,_=>by unfold VR at*;exact h
 | .iV _ _ v,_,h,hf=>by
  unfold V.flat at hf;unfold VR at*;obtain⟨x,h1,h2⟩:=h;exact⟨x,h1,VR.flat h2 hf⟩
 | .agg cs,_,h,hf=>by
  unfold V.flat at hf;unfold VR at*;obtain⟨a,h1,h2⟩:=h;exact⟨a,h1,ao.flat h2 hf⟩
 | .aZ cs,_,h,hf=>by
  unfold V.flat at hf;unfold VR at*;obtain⟨a,h1,h2⟩:=h;exact⟨a,h1,ao.flat h2 hf⟩
 | .iface _ v,_,h,hf=>by
  unfold V.flat at hf;unfold VR at*;obtain⟨r',h1,h2⟩:=h;exact⟨r',h1,VR.flat h2 hf⟩
 | .nilIface,_,h,_=>by unfold VR at*;exact h
 | .map _,_,h,_=>by unfold VR at*;exact h
theorem ao.flat:∀ {vs:List V} {rs:List Value},ao ρ dom w vs rs->ow vs=true->ao ρ dom w' vs rs
 |[],_,h,_=>by unfold ao at*;exact h
 |v::vs,_,h,hf=>by
  unfold ow at hf;unfold ao at*;obtain⟨r,rs,h1,h2,h3⟩:=h;exact⟨r,rs,h1,VR.flat h2 (xg.1 hf).1,ao.flat h3 (xg.1 hf).2⟩
end
end
def vf (l:List (Nat×V)):Bool:=l.all fun p=>p.2.flat
def sV:aU->Bool
 |[]=>true
 |none::l=>sV l
 |some B::l=>ow B.cs&&sV l
theorem Rh:∀ {l:List (Nat×V)},vf l=true->∀ t,(lookS l t).flat=true
 |[],_,_=>rfl
 |p::l,h,t=>by
  unfold vf at h;simp only[List.all_cons,lY] at h;unfold lookS;split
  .exact h.1
  .exact Rh (l:=l) h.2 t
theorem I1:∀ {l:aU} {b:Nat} {B:aa},sV l=true->ah l b=some B->ow B.cs=true
 |[],_,_,_,h=>by simp[ah] at h
 |none::l,0,B,a,h=>by simp[ah] at h
 |some C::l,0,B,a,h=>by
  unfold sV at a;simp[ah] at h;subst h;exact(xg.1 a).1
 |none::l,b+1,B,a,h=>by
  unfold sV at a;exact I1 a (by simpa [ah] using h)
 |some C::l,b+1,B,a,h=>by
  unfold sV at a;exact I1 (xg.1 a).2 (by simpa [ah] using h)
def im (L:List Nat):aU->Nat->Prop
 |[],_=>True
 |none::l,i=>im L l (i+1)
 |some _::l,i=>i∈L/\im L l (i+1)
theorem FW {L:List Nat}:∀ {l:aU} {i b:Nat} {B:aa},im L l i->ah l b=some B->i+b∈L
 |[],_,_,_,_,h=>by simp[ah] at h
 |none::l,i,0,B,_,h=>by simp[ah] at h
 |some C::l,i,0,B,a,h=>a.1
 |none::l,i,b+1,B,a,h=>by
  have :=FW (l:=l) (i:=i+1) (b:=b) a (by simpa [ah] using h);rw[show i+(b+1)=i+1+b by omega];exact this
 |some C::l,i,b+1,B,a,h=>by
  have :=FW (l:=l) (i:=i+1) (b:=b) a.2 (by simpa [ah] using h);rw[show i+(b+1)=i+1+b by omega];exact this
def cellsOf (l:Z):List Value:=Lib.byteCells (l.map UInt8.ofBitVec)
theorem WY (l:Z)(s:ByteArray):cellsOf l++Lib.strCells s=cellsOf (l++bytesOf s):=by
 unfold cellsOf;rw[Lib.strCells_eq,<-Lib.byteCells_append,lw];congr 2;unfold bytesOf;simp only[pQ]
 conv=>lhs;rw[<-zM s.data.toList]
 exact sJ fun _ _=>rfl
theorem TZ (l:Z):(cellsOf l).length=l.length:=by unfold cellsOf;rw[Lib.byteCells_length,cq]
structure nu (T e:TypeId) (base b:Nat) (L:List Nat) (l:Z) (ρ:Nat->Nat×Nat) (s:St) (w:World):Prop where
 lt:b<s.H.length
 zero:(ρ b).2=0
 here:Lib.IsBuilder T e base (ρ b).1 (cellsOf l) w
 size:base<=w.heap.size
 low:∀ x∈L,(ρ x).1<base
theorem Us {T e:TypeId}{base b:Nat}{bs:List Value}{w w':World}(h:Lib.IsBuilder T e base b bs w)(f:∀ r,base<=r->r<w.heap.size->w'.heap[r]?=w.heap[r]?):Lib.IsBuilder T e base b bs w':=by
 have k:∀ p,Lib.BuilderAt T e base b p bs w->Lib.BuilderAt T e base b p bs w':=by
  rintro p ⟨i,v,j,a,d⟩;have c:∀ r o,w.heap[r]?=some o->r<w.heap.size:=fun r o h=>(IP.1 h).1
  refine⟨i,v,by rw[f b i (c _ _ j)];exact j,?_,d⟩;obtain⟨A,s⟩:=a;refine⟨A,?_⟩;rcases s with s|⟨g,l,q,y,t,u,z⟩
  .exact .inl s
  .exact .inr ⟨g,l,q,y,t,by rw[f g t (c _ _ u)];exact u,z⟩
 exact h.elim (fun x=> .inl (k _ x)) (fun x=> .inr (k _ x))
section
variable {P:Program}{m n:Nat}{T e:TypeId}{base b:Nat}{L:List Nat}{m0:Nat}{ρ0:Nat->Nat×Nat}{s0:St}{w0:World}
theorem nu.step {ρ g:Nat->Nat×Nat}{s s':St}{w w':World}{l:Z}(h:nu T e base b L l ρ s w)(k:Step m ρ s w g s' w')(c:b<m)(d:∀ x∈L,x<m)(f:im L s.H 0):nu T e base b L l g s' w':=by
 obtain⟨q,i,j⟩:=k;have e:=i b c;refine⟨I,by rw[e];exact h.zero,?_,j7 h.size j.size,fun x a=>by rw[i x (d x a)];exact h.low x a⟩;rw[e];refine Us h.here fun r p o=>j.de r o fun x B a _=>?_
 have :=FW f a;rw[eX] at this;have :=h.low x this;omega
theorem Sz {ρ:Nat->Nat×Nat}{s:St}{a:Act}{w w':World}(f:cn ρ n s a w)(ht:vf s.t=true)(k:sV s.H=true)(c:∀ x B,ah s.H x=some B->(ρ x).1<base)(l:base<=w.heap.size)(g:Below base w w'):cn ρ n s a w':=by
 refine⟨⟨f.tmps.size,f.tmps.defers,fun t=>(f.tmps.slot t).flat (Rh ht t)⟩,f.mem.has,fun x B d=>pI (f.mem.lt x B d) g.size,f.mem.inj,fun x B d i v j=>?_,fun x B d o i p=>?_,fun x B q d h=>?_⟩
 .obtain⟨r,u,y⟩:=f.mem.cell x B d i v j;exact⟨r,by rw[g.cell (c x B d)];exact u,y.flat (Le (I1 k d) j)⟩
 .rw[g.frozen (c x B d)];exact f.mem.free x B d o i p
 .exact tj (f.mem.gY x B q d h) (g.block _ (c x B d))
theorem Nu {ρ:Nat->Nat×Nat}{s:St}{w w':World}(h:Step m0 ρ0 s0 w0 ρ s w)(g:w0.heap.size<=base)(c:Below base w w'):Step m0 ρ0 s0 w0 ρ s w':=by
 obtain⟨l,q,d⟩:=h;refine⟨l,q,c.os.trans d.os,c.output.trans d.output,c.tape.trans d.tape,j7 d.size c.size,fun r i j=>?_,fun p o f=>?_,d.own⟩
 .rw[c.block r I];exact d.de r i j
 .have k:p<w0.heap.size:=by
   obtain⟨u,t⟩:=wn.1 f;exact Ek (a:=⟨p,o,none⟩) w0 t
  have :=d.kL p o f;rw[c.cell (p:=⟨p,o,none⟩) (by show p<base;omega),c.frozen (p:=⟨p,o,none⟩) (by show p<base;omega)];exact this
def BQ (n m:Nat)(T e:TypeId)(base b:Nat)(L:List Nat)(m0:Nat)(ρ0:Nat->Nat×Nat)(s0:St)(w0:World)(Q:Exit->St->Z->Prop)(x:Exit)(a':Act)(w':World):Prop:=
 ∃ f d g,Q x f g/\cn d n f a' w'/\m<=f.H.length/\Step m0 ρ0 s0 w0 d f w'/\nu T e base b L g d f w'
def GB (P:Program)(m n:Nat)(T e:TypeId)(base b:Nat)(L:List Nat)(m0:Nat)(ρ0:Nat->Nat×Nat)(s0:St)(w0:World)(c:Code)(Q:Exit->St->Z->Prop)(s:St)(l:Z):Prop:=
 ∀ (f:Nat->Nat×Nat) (a:Act) (w:World),cn f n s a w->m<=s.H.length->Step m0 ρ0 s0 w0 f s w->nu T e base b L l f s w->c.wp P (BQ n m T e base b L m0 ρ0 s0 w0 Q) a w
def GF (P:Program)(m n:Nat)(T e:TypeId)(base b:Nat)(L:List Nat)(m0:Nat)(ρ0:Nat->Nat×Nat)(s0:St)(w0:World)(c:Code)(Q:Exit->St->Prop)(s:St)(l:Z):Prop:=
 ∀ (g:Nat->Nat×Nat) (a:Act) (w:World),cn g n s a w->m<=s.H.length->Step m0 ρ0 s0 w0 g s w->nu T e base b L l g s w->c.wp P (E6 m0 n ρ0 s0 w0 Q) a w
def Dz (K:St->Z->Prop)(Q:Exit->St->Z->Prop):Exit->St->Z->Prop
 | .normal,s,l=>K s l
 |e,s,l=>Q e s l
def Jx (id:Nat)(Q:Exit->St->Z->Prop):Exit->St->Z->Prop
 | .exit i,s,l=>if i=id then Q .normal s l else Q (.exit i) s l
 |e,s,l=>Q e s l
def afR (K:St->Z->Prop):Exit->St->Z->Prop
 | .normal,s,l=>K s l
 |_,_,_=>False
theorem Step.cut {ρ c:Nat->Nat×Nat}{s s':St}{w w':World}(h:Step m ρ s w c s' w')(d:m0<=m):Step m0 ρ s w c s' w':=⟨j7 d h.1,fun x a=>h.2.1 x I,h.2.2⟩
theorem B6 (d:P.follows .mixedOrders=true)(i:b<m)(j:∀ x∈L,x<m)(f:m0<=m){c:Code}{Q:Exit->St->Z->Prop}{s:St}{l:Z}(k:im L s.H 0)
  (h:vc P m n c (fun x s'=>Q x s' l) s):GB P m n T e base b L m0 ρ0 s0 w0 c Q s l:=fun u a w o v p q=>by
 refine ni (tJ d c _ s h u a w o v) ?_;rintro x z w' ⟨s',t,y,r,g⟩;exact⟨s',t,l,y,r,g.1,p.trans (g.cut f),q.step g i j k⟩
theorem A8 (f:b<m)(g:∀ x∈L,x<m)(d:m0<=m){c:Code}{Q:Exit->St->Z->Prop}{s s1:St}{l:Z}(i:im L s.H 0)
  (h:GB P m n T e base b L m0 ρ0 s0 w0 c Q s1 l) (r:bJ m n s s1):GB P m n T e base b L m0 ρ0 s0 w0 c Q s l:=fun t a w j u k o=>by
 obtain⟨p,v,q⟩:=r.go t a w j u;exact h p a w v q.1 (k.trans (q.cut d)) (o.step q f g i)
theorem Vk (f:b<m)(g:∀ x∈L,x<m)(d:m0<=m){c:Code}{Q:Exit->St->Prop}{s s1:St}{l:Z}(i:im L s.H 0)
  (h:GF P m n T e base b L m0 ρ0 s0 w0 c Q s1 l) (r:bJ m n s s1):GF P m n T e base b L m0 ρ0 s0 w0 c Q s l:=fun t a w j u k o=>by
 obtain⟨p,v,q⟩:=r.go t a w j u;exact h p a w v q.1 (k.trans (q.cut d)) (o.step q f g i)
theorem CN {x y:Code}{K:St->Z->Prop}{Q:Exit->St->Z->Prop}{s:St}{l:Z}(h:GB P m n T e base b L m0 ρ0 s0 w0 x (Dz K Q) s l)(i:∀ s' l',K s' l'->GB P m n T e base b L m0 ρ0 s0 w0 y Q s' l'):GB P m n T e base b L m0 ρ0 s0 w0 (.seq x y) Q s l:=fun r a w j t k o=>by
 refine rm (ni (h r a w j t k o) ?_);rintro z u w' ⟨s',p,l',q,c,d,f,g⟩;cases z
 case normal=>exact i s' l' q p u w' c d f g
 all_goals exact⟨s',p,l',q,c,d,f,g⟩
theorem YX {x y:Code}{K:St->Z->Prop}{Q:Exit->St->Prop}{s:St}{l:Z}(c:GB P m n T e base b L m0 ρ0 s0 w0 x (afR K) s l)(d:∀ s' l',K s' l'->GF P m n T e base b L m0 ρ0 s0 w0 y Q s' l'):GF P m n T e base b L m0 ρ0 s0 w0 (.seq x y) Q s l:=fun r a w f t g h=>by
 refine rm (ni (c r a w f t g h) ?_);rintro z u w' ⟨s',p,l',q,i,j,k,o⟩;cases z
 case normal=>exact d s' l' q p u w' i j k o
 all_goals exact q.elim
theorem Qb {id:Nat}{c:Code}{Q:Exit->St->Z->Prop}{s:St}{l:Z}(h:GB P m n T e base b L m0 ρ0 s0 w0 c (Jx id Q) s l):GB P m n T e base b L m0 ρ0 s0 w0 (.block id c) Q s l:=fun r a w d t f g=>by
 refine wp_block (ni (h r a w d t f g) ?_);rintro z u w' ⟨o,j,p,k,q⟩;cases z
 case exit i=>
  simp only[Jx] at k;simp only[Exit.inBlock];split at k
  .rename_i h;rw[aM h];exact⟨o,j,p,k,q⟩
  .rename_i h;rw[aq h];exact⟨o,j,p,k,q⟩
 all_goals exact⟨o,j,p,k,q⟩
theorem ajE {c:Code}{Q:Exit->St->Z->Prop}{s:St}{l:Z}(Z99:Nat->St->Z->Prop){k0:Nat}(h0:Z99 k0 s l)
  (o:∀ k s l,Z99 k s l->GB P m n T e base b L m0 ρ0 s0 w0 c (Dz (fun s' l'=>∃ d,d<k/\Z99 d s' l') Q) s l):GB P m n T e base b L m0 ρ0 s0 w0 (.loop c) Q s l:=fun C a w f D p q=>by
 refine IY (fun k A v=>∃ u t y,Z99 k u y/\cn t n u A v/\m<=u.H.length/\Step m0 ρ0 s0 w0 t u v/\nu T e base b L y t u v) (k0:=k0) ⟨s,C,l,h0,f,D,p,q⟩ ?_;rintro k A v ⟨u,t,y,E,F,G,K,M⟩;refine ni (o k u y E t A v F G K M) ?_;rintro z O w' ⟨s',x,l',B,g,h,i,j⟩;cases z
 case normal=>
  obtain⟨d,r,N⟩:=B;exact⟨d,r,s',x,l',N,g,h,i,j⟩
 all_goals exact⟨s',x,l',B,g,h,i,j⟩
end
end
section
open Go Go.RowKit
section
variable {P:Program}{m n:Nat}{T e:TypeId}{base b:Nat}{L:List Nat}{m0:Nat}{ρ0:Nat->Nat×Nat}{s0:St}{w0:World}
def Lk (P:Program)(f:FuncId)(T e:TypeId):Prop:=∀ (B b:Nat) (a:List Value) (s:ByteArray) (w:World),Lib.IsBuilder T e B b a w->a.length+s.size<=140737488355328->B<=w.heap.size->
 Calls P f #[.pointer (some ⟨b,0,none⟩),.string s] w fun x c=>x= .returned (.tuple #[.int .i64 s.size,.nilIface])/\(Lib.BuilderAt T e B b (.pointer (some ⟨b,0,none⟩)) (a++Lib.strCells s) c/\Below B w c)
def Strings (P:Program)(f:FuncId)(T e:TypeId):Prop:=∀ (B b:Nat) (l:List UInt8) (w:World),Lib.IsBuilder T e B b (Lib.byteCells l) w->B<=w.heap.size->
 Calls P f #[.pointer (some ⟨b,0,none⟩)] w fun x a=>x= .returned (.string ⟨l.toArray⟩)/\Below B w a
theorem RD {s:St}{ρ:Nat->Nat×Nat}{w:World}{l:Z}(h:nu T e base b L l ρ s w)(a:im L s.H 0):∀ x B,ah s.H x=some B->(ρ x).1<base:=fun x B c=>by
 have :=FW a c;rw[eX] at this;exact h.low x this
theorem WE {s:St}{d:Tmp}{v:V}(h:vf s.t=true)(a:v.flat=true):vf (s.put (some d) v).t=true:=by
 show vf ((d,v)::s.t)=true;unfold vf at*;rw[List.all_cons,a,h];rfl
theorem ajZ {f:FuncId}(hf:iu P f=true)(hw:Lk P f T e)(A:w0.heap.size<=base){id:Nat}{h i:Oper}{x:Operand}{tb c p:Tmp}{C:Array TypeId}{s:St}{l y:Z}{Q:Exit->St->Z->Prop}
  (h1:h.op= .move x) (g1:h.guard=none) (d1:h.dst=some c) (F:c<n)
  (h2:i.op= .call ⟨.value (.func f),#[.tmp tb,.tmp c],C⟩) (g2:i.guard=none) (d2:i.dst=some p) (z2:p<n)
  (D:s.ev x= .str y) (G:(s.put (some c) (.str y)).get tb= .ptr b 0) (Y:l.length+y.length<=140737488355328)
  (ht:vf s.t=true) (K:sV s.H=true) (M:im L s.H 0)
  (N:Q .normal ((s.put (some c) (.str y)).put (some p) (.aZ [.i64 y.length,.nilIface])) (l++y)):GB P m n T e base b L m0 ρ0 s0 w0 (.region id #[h,i] false) Q s l:=by
 intro X a w v hm O j;have k:=v.tmps.eval x;rw[D] at k;unfold VR at k;obtain⟨S,R,o⟩:=k;refine zI ?_;have k1:(execOp a.eval h).run P w= .ok (.value (.string S)) w:=by
  unfold execOp;rw[h1];simp only[R,dI]
 have w1:Region.wanted h (yielded #[h,i] a.tmps)=true:=by unfold Region.wanted;rw[g1]
 show wpOps P #[h,i] _ [0,1] a w;simp only[wpOps,yv,p9,w1,eJ];refine .inl ?_;unfold Oper.wp;rw[k1,wQ,d1];have q:cn X n (s.put (some c) (.str y)) (a.put (some c) (.string S)) w:=⟨eT.put v.tmps (show kh n (some c) from F) (by unfold VR;exact⟨S,rfl,o⟩),v.mem⟩;have V:Region.wanted i (yielded #[h,i] (a.put (some c) (.string S)).tmps)=true:=by unfold Region.wanted;rw[g2]
 have W:(a.put (some c) (.string S)).tmps.getD c undef= .string S:=by
  rw[Cl a c _ c (by rw[v.tmps.size];exact F),aM rfl]
 have d:=q.tmps.slot tb;rw[G] at d;unfold VR at d;obtain⟨_,d⟩:=d;rw[j.zero,eX] at d;have k2:(execOp (a.put (some c) (.string S)).eval i).run P w= .ok (.enter f #[.pointer (some ⟨(X b).1,0,none⟩),.string S]) w:=by
  unfold execOp;rw[h2];simp only[resolve,Act.eval,Deferred.ofValue,dx,dI,eQ,invoke,List.map_toArray,dD,gi,W,d];rw[show(#[]++#[Value.pointer (some ⟨(X b).1,0,none⟩),Value.string S]++#[]:Array Value)=#[.pointer (some ⟨(X b).1,0,none⟩),.string S] from rfl,Bf hf]
 simp only[nF,p9,V,eJ];refine .inl ?_;rw[k2,BO];have r:S.size=y.length:=by rw[<-o,pR]
 refine(hw base (X b).1 (cellsOf l) S w j.here (by rw[TZ,r];exact Y) j.size).mono ?_;rintro z w' ⟨rfl,E,g⟩;rw[d2];show BQ n m T e base b L m0 ρ0 s0 w0 Q .normal ((a.put (some c) (.string S)).put (some p) _) w';have u:cn X n (s.put (some c) (.str y)) (a.put (some c) (.string S)) w':=Sz q (WE ht rfl) K (fun x B D=>RD j M x B D) j.size g;refine⟨_,X,l++y,N,⟨eT.put u.tmps (show kh n (some p) from z2) ?_,u.mem⟩,hm,Nu O A g,j.lt,j.zero,.inr ?_,j7 j.size g.size,j.low⟩
 .unfold VR;refine⟨_,rfl,ao.cons (by unfold VR;rw[r]) (ao.cons (by unfold VR;rfl) ao.nil)⟩
 .rw[<-o,<-WY];exact E
theorem acJ {f:FuncId}(Y:iu P f=true)(hw:Strings P f T e)(r:w0.heap.size<=base){id:Nat}{g h:Oper}{tb c j:Tmp}{u:Array TypeId}{s:St}{l:Z}{A:Code}{Q:Exit->St->Prop}
  (h1:g.op= .call ⟨.value (.func f),#[.tmp tb],u⟩) (g1:g.guard=none) (d1:g.dst=some c) (B:c<n)
  (h2:h.op= .assign (.tmp c)) (g2:h.guard=none) (d2:h.dst=some j) (z2:j<n)
  (C:s.get tb= .ptr b 0)
  (ht:vf s.t=true) (D:sV s.H=true) (E:im L s.H 0) (F:m0<=m)
  (G:GS P m0 n A Q ((s.put (some c) (.str l)).put (some j) (.str l))):GF P m n T e base b L m0 ρ0 s0 w0 (.seq (.region id #[g,h] false) A) Q s l:=by
 intro V a w v hm K k;refine rm (zI ?_);have w1:Region.wanted g (yielded #[g,h] a.tmps)=true:=by unfold Region.wanted;rw[g1]
 have d:=v.tmps.slot tb;rw[C] at d;unfold VR at d;obtain⟨_,d⟩:=d;rw[k.zero,eX] at d;have k1:(execOp a.eval g).run P w= .ok (.enter f #[.pointer (some ⟨(V b).1,0,none⟩)]) w:=by
  unfold execOp;rw[h1];simp only[resolve,Act.eval,Deferred.ofValue,dx,dI,eQ,invoke,List.map_toArray,dD,gi,d];rw[show(#[]++#[Value.pointer (some ⟨(V b).1,0,none⟩)]++#[]:Array Value)=#[.pointer (some ⟨(V b).1,0,none⟩)] from rfl,Bf Y]
 show wpOps P #[g,h] _ [0,1] a w;simp only[wpOps,yv,p9,w1,eJ];refine .inl ?_;unfold Oper.wp;rw[k1,BO];refine(hw base (V b).1 (l.map UInt8.ofBitVec) w k.here k.size).mono ?_;rintro z W ⟨rfl,i⟩;rw[d1];have o:cn V n s a W:=Sz v ht D (RD k E) k.size i;have p:VR V (· <s.H.length) W (.str l) (.string ⟨(l.map UInt8.ofBitVec).toArray⟩):=by
  unfold VR;exact⟨_,rfl,Ro l⟩
 have q:cn V n (s.put (some c) (.str l)) (a.put (some c) (.string ⟨(l.map UInt8.ofBitVec).toArray⟩)) W:=⟨eT.put o.tmps (show kh n (some c) from B) p,o.mem⟩;have M:Region.wanted h (yielded #[g,h] (a.put (some c) (.string ⟨(l.map UInt8.ofBitVec).toArray⟩)).tmps)=true:=by unfold Region.wanted;rw[g2]
 have N:(a.put (some c) (.string ⟨(l.map UInt8.ofBitVec).toArray⟩)).tmps.getD c undef= .string ⟨(l.map UInt8.ofBitVec).toArray⟩:=by
  rw[Cl a c _ c (by rw[v.tmps.size];exact B),aM rfl]
 have k2:(execOp (a.put (some c) (.string ⟨(l.map UInt8.ofBitVec).toArray⟩)).eval h).run P W= .ok (.value (.string ⟨(l.map UInt8.ofBitVec).toArray⟩)) W:=by
  unfold execOp;rw[h2];simp only[Act.eval,N,dI]
 simp only[nF,p9,M,eJ];refine .inl ?_;rw[k2,wQ,d2];have x:cn V n ((s.put (some c) (.str l)).put (some j) (.str l)) ((a.put (some c) (.string ⟨(l.map UInt8.ofBitVec).toArray⟩)).put (some j) (.string ⟨(l.map UInt8.ofBitVec).toArray⟩)) W:=⟨eT.put q.tmps (show kh n (some j) from z2) p,q.mem⟩;have y:Step m0 ρ0 s0 w0 V ((s.put (some c) (.str l)).put (some j) (.str l)) W:=Nu K r i;refine ni (G V _ W x (by show m0<=s.H.length;omega)) ?_;rintro z a' O ⟨s',X,q1,R,S⟩;exact⟨s',X,q1,R,y.trans S⟩
theorem ahb (j:∀ w,(zeroValue T).run P w= .ok (.agg #[.pointer none,.slice none 0 0]) w){id:Nat}{o:Oper}{c:Tmp}{f:Code}{s:St}{Q:Exit->St->Prop}
  (h1:o.op= .alloc T) (v:o.guard=none) (y:o.dst=some c) (l:c<n) (p:∀ x∈L,(ah s.H x).isSome=true)
  (h:∀ (ρ0:Nat->Nat×Nat) (w0:World),GF P (s.H.length+1) n T e w0.heap.size s.H.length L m0 ρ0 s w0 f Q ⟨di s.t (some c) (.ptr s.H.length 0),s.H++[none]⟩ []):GS P m0 n (.seq (.region id #[o] false) f) Q s:=by
 intro u a w g C;refine rm (zI ?_);have z:Region.wanted o (yielded #[o] a.tmps)=true:=by unfold Region.wanted;rw[v]
 show wpOps P #[o] _ [0] a w;simp only[wpOps,yv,p9,z,eJ];refine .inl ?_;have A:(execOp a.eval o).run P w= .ok (.value (.pointer (some ⟨w.heap.size,0,none⟩))) (w.alloc (.cells #[.pointer none,.slice none 0 0] T)):=by
  unfold execOp;rw[h1];simp[Instr.alloc,j,newVar,newRow,Value.cells]
 unfold Oper.wp;rw[A,wQ,y];obtain⟨D,E⟩:=Lu (m0:=m0) g C l (.cells #[.pointer none,.slice none 0 0] T);have r:(fun k=>if k=s.H.length then(w.heap.size,0) else u k) s.H.length=(w.heap.size,0):=aM rfl;refine h u w _ _ _ D J E ⟨J,by rw[aM rfl],?_,?_,fun x q=>?_⟩
 .rw[aM rfl];exact Lib.fresh_isBuilder T e w
 .show w.heap.size<=(w.heap.push _).size;rw[Array.size_push];omega
 .obtain⟨B,i⟩:=wn.1 (p x q);have d:x≠s.H.length:=by have :=b8 i;omega
  show((if x=s.H.length then(w.heap.size,0) else u x):Nat×Nat).1<_;rw[aq d];exact g.mem.lt x B i
end
end
end Go.Vm
end
section
namespace Go.Vm
open Go.Proofs Go.Proofs.Tryz
def mF (E:Nat->Z):Nat->Z
 |0=>[]
 |i+1=>mF E i++E (2+i)
theorem FM (E:Nat->Z)(a:∀ c,(E c).length=16)(i:Nat):(mF E i).length=16*i:=by
 induction i with
 |zero=>rfl
 |succ i ih=>rw[mF,bA,ih,a];omega
theorem abc:Lk prog 58 (lG.t 72) (lG.t 5):=fun B b d s w h a c=>Any.Builder_WriteString {vD with} Gl B b d s w h a c
theorem XJ:Strings prog 60 (lG.t 72) (lG.t 5):=fun B b l w h a=>Any.Builder_String_any {vD with} Gl B b l w h a
theorem ajx:∀ w,(zeroValue (lG.t 72)).run prog w= .ok (.agg #[.pointer none,.slice none 0 0]) w:=vD.v72
theorem Ug (E:Nat->Z)(b:∀ c,(E c).length=16)(t:Z)(i:Nat)(h:16*i<=t.length):cx t (mF E i)++cx (t.drop (16*i)) (E (2+i))=cx t (mF E (i+1)):=by
 have d:=FM E b i;rw[mF,SZ t (mF E i) (E (2+i)) I,d]
theorem agK (E:Nat->Z)(a:∀ c,(E c).length=16)(t:Z)(i:Nat):(t.drop (16*i)).drop (cx (t.drop (16*i)) (E (2+i))).length=t.drop (16*(i+1)):=by
 rw[oV,a,l9,dO];by_cases h:t.length-16*i<=16
 .rw[FE I,FE I]
 .rw[uj I];congr 1
theorem Qm (E:Nat->Z)(m:∀ c,(E c).length=16)(n K T t:Z)(R:Nat)(q:∀ c,E c=iA (n++cK c 4) K R (R-1))(A:n.length=12)(ht:t.length<=2016)(B:2<=R)(r:R<=20)(C:K.length=16*R)(D:T.length=512)(hf:∀ b:BitVec 8,T.getD (0+b.toNat) 0=gO b):
  bp prog 248 [.agg [.ptr 0 0,.str n],.str t] [bK [.ptr 1 0,.str K],bK (T.map .u8)] (.str (cx t (mF E ((t.length+15)/16)))) [bK [.ptr 1 0,.str K],bK (T.map .u8)]:=by
 have o:∀ c:Nat,c<=100000->bp prog 254 [.agg [.ptr 0 0,.str n],.i64 c] [bK [.ptr 1 0,.str K],bK (T.map .u8)] (.str (E c)) [bK [.ptr 1 0,.str K],bK (T.map .u8)]:=fun c hc=>by
  rw[q];exact Og n K T R c A hc B r C D hf
 generalize F:(t.length+15)/16=S;have y:t.length<=16*S:=I;have z:16*S<=t.length+15:=I;have f:=Sh T;refine DB func248 rfl db ?_;refine wI (K:=fun O=>bJ 2 24 O ⟨[(1,.str t),(2,.ptr 2 0)],[bK [.ptr 1 0,.str K],bK (T.map .u8),bK [.ptr 0 0,.str n]]⟩) (w8 U (ce ?_)) (fun O a=>yK ?_ a)
 .refine aH ?_;refine bJ.drop ?_ rfl (fun _ _ h=>h);simp[St.get,lookS]
 refine ahb (L:=[0,1,2]) (e:=lG.t 5) ajx rfl rfl rfl ag (by simp[ah]) (fun W Y=>?_);show GF prog 4 24 (lG.t 72) (lG.t 5) Y.heap.size 3 [0,1,2] 2 W _ Y _ _ _ _
 let Z98:Nat->St:=fun i=>⟨[(1,.str (t.drop (16*i))),(2,.ptr 2 0),(5,.ptr 3 0),(6,.i64 (2+i:Nat))],[bK [.ptr 1 0,.str K],bK (T.map .u8),bK [.ptr 0 0,.str n],none]⟩
 refine YX (K:=fun O l=>im [0,1,2] O.H 0/\l=cx t (mF E S)/\bJ 4 24 O ⟨[(5,.ptr 3 0)],[bK [.ptr 1 0,.str K],bK (T.map .u8),bK [.ptr 0 0,.str n],none]⟩) ?_ (fun O l a=>?_)
 rotate_left
 .obtain⟨P,rfl,Q⟩:=a;refine Vk ag ag ag P ?_ Q;refine acJ U XJ (bz _) rfl rfl rfl ag rfl rfl rfl ag rfl rfl (by simp[sV,ow,V.flat,f]) (by simp[im]) ag ?_;refine w8 U (ce (aH ?_));exact Fin.bd [0,1] J J ci ag J J
 refine CN (K:=fun O l=>im [0,1,2] O.H 0/\l=[]/\bJ 4 24 O (Z98 0)) (B6 U ag ag ag (by simp[im]) (ce ?_)) (fun O l a=>?_)
 .refine aH ?_;refine⟨by simp[im],rfl,bJ.drop ?_ rfl (fun _ _ h=>h)⟩;simp[St.get,lookS,di,Z98]
 obtain⟨P,rfl,Q⟩:=a;refine A8 ag ag ag P ?_ Q;refine Qb (ajE (Z99:=fun k O l=>∃ i,i+k=S/\im [0,1,2] O.H 0/\bJ 4 24 O (Z98 i)/\l=cx t (mF E i)) (k0:=S) ⟨0,I,by simp[im,Z98],bJ.refl _ _ _,by simp[mF,cx]⟩ ?_);rintro k O l ⟨i,G,P,Q,rfl⟩;refine A8 ag ag ag P ?_ Q;clear P Q;refine CN (K:=fun O l=>im [0,1,2] O.H 0/\l=cx t (mF E i)/\16*i<t.length/\bJ 4 24 O (Z98 i)) (B6 U ag ag ag (by simp[im,Z98]) (ce ?_)) (fun O l a=>?_)
 .by_cases X:16*i<t.length
  .have g:(t.drop (16*i)=[])=False:=nY (fun h=>by have :=dN List.length h;rw[dO] at this;simp at this;omega);simp only[go_sem,seval,Z98,g];refine⟨by simp[im],rfl,X,bJ.drop ?_ rfl (fun _ _ h=>h)⟩;simp[St.get,lookS]
  .have s:i=S:=I;have g:(t.drop (16*i)=[])=True:=gg (FE I);simp only[go_sem,seval,Z98,g];refine⟨by simp[im],by rw[s],bJ.drop ?_ rfl (fun _ _ h=>h)⟩;simp[St.get,lookS]
 obtain⟨P,rfl,X,Q⟩:=a;refine A8 ag ag ag P ?_ Q;clear P Q;have p:(t.drop (16*i)).length=t.length-16*i:=dO;have M:=Ds (t.drop (16*i)) (E (2+i)) I (by rw[m];omega);have N:=o (2+i) I;have j:(cx (t.drop (16*i)) (E (2+i))).length=min (t.length-16*i) 16:=by rw[oV,m,p]
 have d:=agK E m t i;refine CN (K:=fun O l=>im [0,1,2] O.H 0/\l=cx t (mF E (i+1))/\bJ 4 24 O ⟨[(1,.str (t.drop (16*(i+1)))),(2,.ptr 2 0),(5,.ptr 3 0),(6,.i64 (2+i:Nat))],[bK [.ptr 1 0,.str K],bK (T.map .u8),bK [.ptr 0 0,.str n],none]⟩) (Qb ?_) (fun O l a=>?_)
 .refine CN (K:=fun O l=>im [0,1,2] O.H 0/\l=cx t (mF E i)/\bJ 4 24 O ⟨[(7,.str (cx (t.drop (16*i)) (E (2+i)))),(1,.str (t.drop (16*i))),(2,.ptr 2 0),(5,.ptr 3 0),(6,.i64 (2+i:Nat))],[bK [.ptr 1 0,.str K],bK (T.map .u8),bK [.ptr 0 0,.str n],none]⟩) (B6 U ag ag ag (by simp[im,Z98]) (ce ?_)) (fun O l a=>?_)
  .simp only[go_sem,seval,Z98];refine am [0,1] N (aH ?_);refine br (M) (aH ?_);refine⟨by simp[im],rfl,bJ.drop ?_ rfl (fun _ _ h=>h)⟩;simp[St.get,lookS]
  obtain⟨P,rfl,Q⟩:=a;refine A8 ag ag ag P ?_ Q;refine CN (K:=fun O l=>O=⟨[(18,.aZ [.i64 (cx (t.drop (16*i)) (E (2+i))).length,.nilIface]),(17,.str (cx (t.drop (16*i)) (E (2+i)))),(7,.str (cx (t.drop (16*i)) (E (2+i)))),(1,.str (t.drop (16*i))),(2,.ptr 2 0),(5,.ptr 3 0),(6,.i64 (2+i:Nat))],[bK [.ptr 1 0,.str K],bK (T.map .u8),bK [.ptr 0 0,.str n],none]⟩/\l=cx t (mF E (i+1))) (ajZ (x:= .tmp 7) U abc (bz _) rfl rfl rfl ag rfl rfl rfl ag rfl rfl ?_ rfl (by simp[sV,ow,V.flat,f]) (by simp[im]) ⟨rfl,Ug E m t i I⟩) (fun O l a=>?_)
  .have u:=FM E m i;rw[oV,j,u];omega
  obtain⟨rfl,rfl⟩:=a;refine B6 U ag ag ag (by simp[im]) (ce ?_);rw[j] at d;have v:(t.drop (16*i)).take (t.length-16*i)=t.drop (16*i):=bq I;refine sh p j v d ?_;refine⟨I,?_⟩;simp only[Jx,Dz];refine⟨by simp[im],trivial,bJ.drop ?_ rfl (fun _ _ h=>h)⟩;simp[St.get,lookS]
 obtain⟨P,rfl,Q⟩:=a;refine A8 ag ag ag P ?_ Q;refine B6 U ag ag ag (by simp[im]) (ce ?_);have hw:((2+i:Nat):Int)+1=((2+(i+1):Nat):Int):=I;have w:bh ((2+(i+1):Nat):Int)=((2+(i+1):Nat):Int):=bC I I;refine d9 hw w ?_;simp only[Dz];refine⟨k-1,I,i+1,I,by simp[im],bJ.drop ?_ rfl (fun _ _ h=>h),rfl⟩;simp[St.get,lookS,Z98]
end Go.Vm
end
section
namespace Go.Vm
open Go.Proofs
end Go.Vm
end
section
namespace Go.Vm
open Go.Proofs Go.Proofs.Tryz
def acx (p:aS×aS):aS×aS:=(p.1>>>1 ^^^ ((p.2&&&1#64)*225#64)<<<56,p.2>>>1|||p.1<<<63)
def vT (y:aS×aS):Nat->aS×aS
 |0=>y
 |i+1=>acx (vT y i)
def vn (x:aS×aS)(i:Nat):Bool:=decide ((if 64<=i then x.2 else x.1)>>>(63-i%64)&&&1#64=1#64)
def zT (x y:aS×aS):Nat->aS×aS
 |0=>(0#64,0#64)
 |i+1=>if vn x i then((zT x y i).1 ^^^ (vT y i).1,(zT x y i).2 ^^^ (vT y i).2) else zT x y i
theorem QB (s:Z)(h:s.length=16):bE prog 259 [.str s] (.agg [.u64 (BitVec.ofNat 64 (be (s.take 8))),.u64 (BitVec.ofNat 64 (be (s.drop 8)))]):=by
 have a:(s.take 8).length=8:=by rw[cF];omega
 have b:(s.drop 8).length=8:=by rw[dO];omega
 refine ai func259 ?_;simp only[go_sem,seval,ntmps259,h];refine bZ (zy _ I) ?_;simp only[go_sem,seval,bq,h];refine bZ (zy _ I) (aH ?_);kernel_rfl
theorem IB (a b c d:aS):bE prog 258 [.agg [.u64 a,.u64 b],.agg [.u64 c,.u64 d]] (.agg [.u64 (a ^^^ c),.u64 (b ^^^ d)]):=by
 refine ai func258 ?_;simp only[go_sem,seval,ntmps258,results258]
theorem Xy (a b:aS):bE prog 261 [.agg [.u64 a,.u64 b]] (.str (cK a.toNat 8++cK b.toNat 8)):=by
 have c:=fD a.toNat 8;have d:=D2 (cK a.toNat 8) b I;rw[c] at d;refine ai func261 ?_;simp only[go_sem,seval,ntmps261];refine az [] (CW a) (aH ?_);refine az [1] d ?_;refine d9 c @fD ?_;refine⟨U,?_⟩;rw[bq (by rw[bA,fD,fD];decide)]
theorem afS (x y:aS×aS):bE prog 260 [.agg [.u64 x.1,.u64 x.2],.agg [.u64 y.1,.u64 y.2]] (.agg [.u64 (zT x y 128).1,.u64 (zT x y 128).2]):=by
 refine ai func260 ?_;simp only[go_sem,seval,ntmps260];refine cG (fun j n=>∃ i:Nat,i+j=128/\n=⟨[(2,.ptr 0 0),(3,.ptr 1 0),(4,.ptr 2 0),(5,.ptr 3 0),(9,.i64 i)],[bK [.u64 x.1,.u64 x.2],bK [.u64 (vT y i).1,.u64 (vT y i).2],bK [.u64 0#64,.u64 0#64],bK [.u64 (zT x y i).1,.u64 (zT x y i).2]]⟩) ?_ ?_
 .exact dh (128) ⟨[(2,.ptr 0 0),(3,.ptr 1 0),(4,.ptr 2 0),(5,.ptr 3 0),(9,.i64 (0:Nat))],[bK [.u64 x.1,.u64 x.2],bK [.u64 (vT y (0:Nat)).1,.u64 (vT y (0:Nat)).2],bK [.u64 0#64,.u64 0#64],bK [.u64 (zT x y (0:Nat)).1,.u64 (zT x y (0:Nat)).2]]⟩ gJ rfl (fun _ _ h=>h) ⟨0,I,rfl⟩
 rintro j n ⟨i,p,rfl⟩ _;refine aH ?_;by_cases o:i<128
 .have d:(i:Int)<128:=I;have m:(i:Int).tmod 64=((i%64:Nat):Int):=by rw[show(64:Int)=((64:Nat):Int) from rfl,L9]
  have k:bh (63-((i%64:Nat):Int))=((63-i%64:Nat):Int):=by rw[bC I I];omega
  by_cases l:64<=i
  .have e:(64:Int)<=(i:Int):=I;by_cases f:x.2>>>(63-i%64)&&&1#64=1#64
   .have a:vn x i=true:=by unfold vn;rw[aM l];exact nX f
    have b:(zT x y i).1 ^^^ (vT y i).1=(zT x y (i+1)).1:=by rw[zT,aM a]
    have g:(zT x y i).2 ^^^ (vT y i).2=(zT x y (i+1)).2:=by rw[zT,aM a]
    refine Nm d e m k f ?_;refine⟨I,?_⟩;refine br (IB _ _ _ _) ?_;refine d9 b g ?_;refine cH (j-1) ⟨[(2,.ptr 0 0),(3,.ptr 1 0),(4,.ptr 2 0),(5,.ptr 3 0),(9,.i64 (i+1:Nat))],[bK [.u64 x.1,.u64 x.2],bK [.u64 (vT y (i+1:Nat)).1,.u64 (vT y (i+1:Nat)).2],bK [.u64 0#64,.u64 0#64],bK [.u64 (zT x y (i+1:Nat)).1,.u64 (zT x y (i+1:Nat)).2]]⟩ I ?_ rfl (fun _ _ h=>h) ⟨i+1,I,rfl⟩;have c:bh ((i:Int)+1)=((i+1:Nat):Int):=by rw[bC I I];omega
    simp[St.get,lookS,c]
   .have a:vn x i=false:=by unfold vn;rw[aM l];exact oZ f
    have b:zT x y i=zT x y (i+1):=by rw[zT,a];rfl
    refine Nm d e m k f ?_;refine⟨I,?_⟩;rw[b];refine cH (j-1) ⟨[(2,.ptr 0 0),(3,.ptr 1 0),(4,.ptr 2 0),(5,.ptr 3 0),(9,.i64 (i+1:Nat))],[bK [.u64 x.1,.u64 x.2],bK [.u64 (vT y (i+1:Nat)).1,.u64 (vT y (i+1:Nat)).2],bK [.u64 0#64,.u64 0#64],bK [.u64 (zT x y (i+1:Nat)).1,.u64 (zT x y (i+1:Nat)).2]]⟩ I ?_ rfl (fun _ _ h=>h) ⟨i+1,I,rfl⟩;have c:bh ((i:Int)+1)=((i+1:Nat):Int):=by rw[bC I I];omega
    simp[St.get,lookS,c]
  .have e:¬ (64:Int)<=(i:Int):=I;by_cases f:x.1>>>(63-i%64)&&&1#64=1#64
   .have a:vn x i=true:=by unfold vn;rw[aq l];exact nX f
    have b:(zT x y i).1 ^^^ (vT y i).1=(zT x y (i+1)).1:=by rw[zT,aM a]
    have g:(zT x y i).2 ^^^ (vT y i).2=(zT x y (i+1)).2:=by rw[zT,aM a]
    refine Nm d e m k f ?_;refine⟨I,?_⟩;refine br (IB _ _ _ _) ?_;refine d9 b g ?_;refine cH (j-1) ⟨[(2,.ptr 0 0),(3,.ptr 1 0),(4,.ptr 2 0),(5,.ptr 3 0),(9,.i64 (i+1:Nat))],[bK [.u64 x.1,.u64 x.2],bK [.u64 (vT y (i+1:Nat)).1,.u64 (vT y (i+1:Nat)).2],bK [.u64 0#64,.u64 0#64],bK [.u64 (zT x y (i+1:Nat)).1,.u64 (zT x y (i+1:Nat)).2]]⟩ I ?_ rfl (fun _ _ h=>h) ⟨i+1,I,rfl⟩;have c:bh ((i:Int)+1)=((i+1:Nat):Int):=by rw[bC I I];omega
    simp[St.get,lookS,c]
   .have a:vn x i=false:=by unfold vn;rw[aq l];exact oZ f
    have b:zT x y i=zT x y (i+1):=by rw[zT,a];rfl
    refine Nm d e m k f ?_;refine⟨I,?_⟩;rw[b];refine cH (j-1) ⟨[(2,.ptr 0 0),(3,.ptr 1 0),(4,.ptr 2 0),(5,.ptr 3 0),(9,.i64 (i+1:Nat))],[bK [.u64 x.1,.u64 x.2],bK [.u64 (vT y (i+1:Nat)).1,.u64 (vT y (i+1:Nat)).2],bK [.u64 0#64,.u64 0#64],bK [.u64 (zT x y (i+1:Nat)).1,.u64 (zT x y (i+1:Nat)).2]]⟩ I ?_ rfl (fun _ _ h=>h) ⟨i+1,I,rfl⟩;have c:bh ((i:Int)+1)=((i+1:Nat):Int):=by rw[bC I I];omega
    simp[St.get,lookS,c]
 .obtain rfl:i=128:=I;have d:¬ ((128:Nat):Int)<128:=I;simp only[go_sem,seval]
end Go.Vm
end
section
namespace Go.Vm
def fN (s:Z):aS×aS:=(BitVec.ofNat 64 (be (s.take 8)),BitVec.ofNat 64 (be (s.drop 8)))
abbrev Pr:=aS×aS
def vB (p:Pr):Z:=cK p.1.toNat 8++cK p.2.toNat 8
theorem Q5 (p:Pr):(vB p).length=16:=by unfold vB;rw[bA,fD,fD]
def ZS (h p:Pr)(c:Z):Pr:=zT (p.1 ^^^ (fN c).1,p.2 ^^^ (fN c).2) h 128
def AO (s:Z):Z:=s++List.replicate (16-s.length) 0
theorem Wz (s:Z)(h:s.length<=16):(AO s).length=16:=by unfold AO;rw[bA,kV];omega
def qf (t:Z)(i:Nat):Z:=AO ((t.drop (16*i)).take 16)
def jd (h p:Pr)(t:Z):Nat->Pr
 |0=>p
 |i+1=>ZS h (jd h p t i) (qf t i)
end Go.Vm
end
section
namespace Go.Vm
open Go.Proofs Go.Proofs.Tryz
theorem ad3 (x:Z)(h:x.length<=16):cC [V.u8 0#8,V.u8 0#8,V.u8 0#8,V.u8 0#8,V.u8 0#8,V.u8 0#8,V.u8 0#8,V.u8 0#8,V.u8 0#8,V.u8 0#8,V.u8 0#8,V.u8 0#8,V.u8 0#8,V.u8 0#8,V.u8 0#8,V.u8 0#8] 0 (x.map V.u8)=(AO x).map V.u8:=by
 rcases x with _|⟨a,_|⟨b,l⟩⟩
 .rfl
 .rfl
 .have c:[V.u8 0#8,V.u8 0#8,V.u8 0#8,V.u8 0#8,V.u8 0#8,V.u8 0#8,V.u8 0#8,V.u8 0#8,V.u8 0#8,V.u8 0#8,V.u8 0#8,V.u8 0#8,V.u8 0#8,V.u8 0#8,V.u8 0#8,V.u8 0#8]=List.replicate 16 (V.u8 0#8):=rfl;rw[c];generalize d:a::b::l=y at h;have e:cC (List.replicate 16 (V.u8 0#8)) 0 (y.map V.u8)=(List.replicate 16 (V.u8 0#8)).take 0++y.map V.u8++(List.replicate 16 (V.u8 0#8)).drop (0+(y.map V.u8).length):=by subst d;rfl
  rw[e];unfold AO;simp only[iX,iY,eX,cq,List.drop_replicate,lw,List.map_replicate];rfl
theorem GY (h t:Z)(p:Pr)(g:h.length=16)(ht:t.length<=140737488351232):bp prog 257 [.str t,.ptr 0 0,.ptr 1 0] [bK [.u64 p.1,.u64 p.2],bK [.str h]] (.aZ []) [bK [.u64 (jd (fN h) p t ((t.length+15)/16)).1,.u64 (jd (fN h) p t ((t.length+15)/16)).2],bK [.str h]]:=by
 refine ak func257 ?_;simp only[go_sem,seval,ntmps257];refine cG (fun j u=>∃ i:Nat,i+j=(t.length+15)/16/\u=⟨[(0,.str (t.drop (16*i))),(1,.ptr 0 0),(2,.ptr 1 0)],[bK [.u64 (jd (fN h) p t i).1,.u64 (jd (fN h) p t i).2],bK [.str h]]⟩) ?_ ?_
 .exact dh ((t.length+15)/16) ⟨[(0,.str (t.drop (16*(0:Nat)))),(1,.ptr 0 0),(2,.ptr 1 0)],[bK [.u64 (jd (fN h) p t (0:Nat)).1,.u64 (jd (fN h) p t (0:Nat)).2],bK [.str h]]⟩ gJ rfl (fun _ _ h=>h) ⟨0,I,rfl⟩
 rintro j u ⟨i,y,rfl⟩ _;refine aH ?_;have q:(t.drop (16*i)).length=t.length-16*i:=dO;by_cases x:16*i<t.length
 .have k:¬ t.drop (16*i)=[]:=fun e=>by rw[e] at q;simp at q;omega
  have r:(t.drop (16*i)).take (min (t.length-16*i) 16)=(t.drop (16*i)).take 16:=by
   by_cases v:16<=t.length-16*i
   .rw[uj v]
   .rw[lH I,bq I,bq I]
  have a:=ad3 ((t.drop (16*i)).take 16) (by rw[cF];omega);rw[show AO ((t.drop (16*i)).take 16)=qf t i from rfl] at a;have b:(qf t i).length=16:=Wz _ (by rw[cF];omega);have c:=QB (qf t i) b;have d:=QB h g;have l:=IB (jd (fN h) p t i).1 (jd (fN h) p t i).2 (fN (qf t i)).1 (fN (qf t i)).2;have f:=afS ((jd (fN h) p t i).1 ^^^ (fN (qf t i)).1,(jd (fN h) p t i).2 ^^^ (fN (qf t i)).2) (fN h);have m:zT ((jd (fN h) p t i).1 ^^^ (fN (qf t i)).1,(jd (fN h) p t i).2 ^^^ (fN (qf t i)).2) (fN h) 128=jd (fN h) p t (i+1):=rfl;rw[m] at f;rw[show(BitVec.ofNat 64 (be (List.take 8 (qf t i))))=(fN (qf t i)).1 from rfl,show(BitVec.ofNat 64 (be (List.drop 8 (qf t i))))=(fN (qf t i)).2 from rfl] at c;rw[show(BitVec.ofNat 64 (be (List.take 8 h)))=(fN h).1 from rfl,show(BitVec.ofNat 64 (be (List.drop 8 h)))=(fN h).2 from rfl] at d;simp only[go_sem,seval,k,r,a,b,bq];refine bZ (c) (aH ?_);refine bZ (l) (aH ?_);refine bZ (d) (aH ?_);refine bZ (f) (aH ?_);refine⟨U,?_⟩;have n:(if((t.length-16*i:Nat):Int)<16 then((t.length-16*i:Nat):Int) else 16)=((min (t.length-16*i) 16:Nat):Int):=by split <;>omega
  have o:((t.drop (16*i)).take (t.length-16*i)).drop (min (t.length-16*i) 16)=t.drop (16*(i+1)):=by
   rw[bq I,l9];by_cases g:16<=t.length-16*i
   .rw[uj g,qQ]
   .rw[lH I,lP I,lP I]
  simp only[n,iG,o];refine⟨⟨I,I⟩,?_⟩;have s:bh ((i:Int)+1)=((i+1:Nat):Int):=by rw[bC I I];omega
  refine lc (j-1) ⟨[(0,.str (t.drop (16*(i+1:Nat)))),(1,.ptr 0 0),(2,.ptr 1 0)],[bK [.u64 (jd (fN h) p t (i+1:Nat)).1,.u64 (jd (fN h) p t (i+1:Nat)).2],bK [.str h]]⟩ [0,1] I rfl J rfl ag (by simp[iC,St.get,lookS,jd]) (by simp[jd]) ⟨i+1,I,rfl⟩
 .have w:t.drop (16*i)=[]:=lP I;obtain rfl:i=(t.length+15)/16:=I;refine aL w ?_;exact Fin.bd [0,1] J J ci ag J J
def zq (l s:Z):Z:=cK (BitVec.ofInt 64 (l.length:Int)*8#64).toNat 8++cK (BitVec.ofInt 64 (s.length:Int)*8#64).toNat 8
theorem Kp (l s:Z):(zq l s).length=16:=by unfold zq;rw[bA,fD,fD]
def qH (h l s:Z):Pr:=jd (fN h) (jd (fN h) (jd (fN h) (0#64,0#64) l ((l.length+15)/16)) s ((s.length+15)/16)) (zq l s) 1
theorem af5 (h l s:Z)(a:h.length=16)(e:l.length<=140737488351232)(f:s.length<=140737488351232):bE prog 252 [.str h,.str l,.str s] (.aZ [.str (vB (qH h l s)),.i64 0]):=by
 have i:(h.length:Int)=16:=I;have j:=GY h l (0#64,0#64) a e;have k:=GY h s (jd (fN h) (0#64,0#64) l ((l.length+15)/16)) a f;have g:=GY h (zq l s) (jd (fN h) (jd (fN h) (0#64,0#64) l ((l.length+15)/16)) s ((s.length+15)/16)) a (by rw[Kp];omega);rw[Kp,show jd (fN h) (jd (fN h) (jd (fN h) (0#64,0#64) l ((l.length+15)/16)) s ((s.length+15)/16)) (zq l s) ((16+15)/16)=qH h l s from rfl] at g;have m:=CW (BitVec.ofInt 64 (l.length:Int)*8#64);have b:=fD (BitVec.ofInt 64 (l.length:Int)*8#64).toNat 8;have c:=D2 (cK (BitVec.ofInt 64 (l.length:Int)*8#64).toNat 8) (BitVec.ofInt 64 (s.length:Int)*8#64) I;rw[b,show cK (BitVec.ofInt 64 (l.length:Int)*8#64).toNat 8++cK (BitVec.ofInt 64 (s.length:Int)*8#64).toNat 8=zq l s from rfl] at c;have d:=Xy (qH h l s).1 (qH h l s).2;rw[show cK (qH h l s).1.toNat 8++cK (qH h l s).2.toNat 8=vB (qH h l s) from rfl] at d;refine ai func252 ?_;simp only[go_sem,seval,ntmps252,i];refine am [1,0] j (aH ?_);refine am [1,0] k (aH ?_);refine am [] m (aH ?_);refine am [2] c ?_;simp only[go_sem,seval,Kp,bq];refine am [1,0] g (aH ?_);refine br (d) ?_;simp only[go_sem,seval]
end Go.Vm
end
section
namespace Go.Vm
open Go.Proofs
end Go.Vm
end
section
namespace Go.Vm
open Go.Proofs Go.Proofs.Tryz
theorem QL (E:Nat->Z)(n K T l s:Z)(R:Nat)(f:∀ c,E c=iA (n++cK c 4) K R (R-1))(m:∀ c,(E c).length=16)(o:n.length=12)(t:l.length<=2000)(u:s.length<=2016)(i:2<=R)(a:R<=20)(g:K.length=16*R)(j:T.length=512)(v:∀ b:BitVec 8,T.getD (0+b.toNat) 0=gO b):
  bp prog 247 [.agg [.ptr 0 0,.str n],.str l,.str s] [bK [.ptr 1 0,.str K],bK (T.map .u8)] (.str (cx (vB (qH (iA (List.replicate 16 0#8) K R (R-1)) l s)) (E 1))) [bK [.ptr 1 0,.str K],bK (T.map .u8)]:=by
 have k:=Og n K T R 1 o I i a g j v;rw[<-f] at k;have w:=Sp (List.replicate 16 0#8) K T R J i a g j v;have h:=HY (List.replicate 16 0#8) K R J g (R-1) I;have d:=yF 16 ag;generalize p:iA (List.replicate 16 0#8) K R (R-1)=z at*;have e:=af5 z l s h I I;have q:=Q5 (qH z l s);have r:=Ds (vB (qH z l s)) (E 1) I (by rw[m];omega);refine ak func247 ?_;simp only[go_sem,seval,ntmps247];refine bZ (d) (aH ?_);refine AN [0,1] (w) U J rfl J ag J J J J J (by first|(simp[jJ,gn,cu,ik,aa.bd];done)|simp[go_sem,jJ]) ?_;refine aH ?_;refine bZ (e) (aH ?_);refine⟨U,?_⟩;refine am [0,1] k (aH ?_);refine br (r) (aH ?_);exact Fin.bd [0,1] J J ci ag J J
def qv (k:Z):Z:=(wl k 8 60).flatten
def gE (k n:Z)(c:Nat):Z:=iA (n++cK c 4) (qv k) 15 14
def gS (k n t:Z):Z:=cx t (mF (gE k n) ((t.length+15)/16))
def gT (k n l s:Z):Z:=cx (vB (qH (iA (List.replicate 16 0#8) (qv k) 15 14) l s)) (gE k n 1)
theorem BG (k:Z)(a:k.length=32):(qv k).length=240:=Lj k 8 I I 60
theorem yt (k n:Z)(a:k.length=32)(b:n.length=12)(c:Nat):(gE k n c).length=16:=by
 unfold gE;exact HY _ _ 15 (by rw[bA,fD];omega) (by rw[BG k a]) 14 I
theorem KI (k n t:Z)(a:k.length=32)(b:n.length=12):(gS k n t).length=t.length:=by
 unfold gS;rw[oV,FM _ (yt k n a b)];omega
theorem Ip (k n l s:Z)(a:k.length=32)(b:n.length=12):(gT k n l s).length=16:=by
 unfold gT;rw[oV,Q5,yt k n a b];rfl
theorem aiG (k n l t:Z)(h:gv k n l t 2000≠0):bp prog 244 [.str k,.str n,.str l,.str t] [] (.aZ [.str [],.i64 (gv k n l t 2000)]) []:=by
 have a:=BA k n l t 2000;generalize gv k n l t 2000=e at*;have b:(e=0)=False:=nY h;refine ak func244 ?_;simp only[go_sem,seval,ntmps244];refine br (a) ?_;refine aL b ?_;exact Fin.bd [] J J ci ag J J
theorem aaS (k n l t:Z)(d:k.length=32)(e:n.length=12)(o:l.length<=2000)(ht:t.length<=2000):bp prog 244 [.str k,.str n,.str l,.str t] [] (.aZ [.str (gS k n t++gT k n l (gS k n t)),.i64 0]) []:=by
 have s:=BA k n l t 2000;have i:gv k n l t 2000=0:=by
  unfold gv;rw[aq I,aq I]
 rw[i] at s;have a:=Ny k 8 (.inr rfl) I;have f:=Bl 256;have j:=GM;have p:=KI k n t d e;have m:=Ip k n l (gS k n t) d e;rw[show 4*(8+7)=60 from rfl,show(wl k 8 60).flatten=qv k from rfl] at a;have g:=Qm (gE k n) (yt k n d e) n (qv k) (jH 256) t 15 (fun c=>rfl) e I I I (by rw[BG k d]) f (fun b=>by rw[eX,j]);have h:=QL (gE k n) n (qv k) (jH 256) l (gS k n t) 15 (fun c=>rfl) (yt k n d e) e o I I I (by rw[BG k d]) f (fun b=>by rw[eX,j]);rw[show cx t (mF (gE k n) ((t.length+15)/16))=gS k n t from rfl] at g;rw[show cx (vB (qH (iA (List.replicate 16 0#8) (qv k) 15 (15-1)) l (gS k n t))) (gE k n 1)=gT k n l (gS k n t) from rfl] at h;generalize jH 256=T at*;generalize qv k=K at*;generalize gT k n l (gS k n t)=q at*;generalize gS k n t=r at*;refine ak func244 ?_;simp only[go_sem,seval,ntmps244];refine br (s) (aH ?_);refine am [] a (aH ?_);refine am [0,1] g (aH ?_);refine am [0,1] h (aH ?_);refine⟨I,?_⟩;exact Fin.bd [] J J ci ag J J
theorem aiz (k n l t:Z)(h:gv k n l t 2016≠0):bp prog 243 [.str k,.str n,.str l,.str t] [] (.aZ [.str [],.i64 (gv k n l t 2016)]) []:=by
 have a:=BA k n l t 2016;generalize gv k n l t 2016=e at*;have b:(e=0)=False:=nY h;refine ak func243 ?_;simp only[go_sem,seval,ntmps243];refine br (a) ?_;refine aL b ?_;exact Fin.bd [] J J ci ag J J
theorem aeU (k n l t:Z)(h:gv k n l t 2016=0)(ht:t.length<16):bp prog 243 [.str k,.str n,.str l,.str t] [] (.aZ [.str [],.i64 4]) []:=by
 have b:=BA k n l t 2016;rw[h] at b;have a:(t.length:Int)<16:=I;refine ak func243 ?_;simp only[go_sem,seval,ntmps243];refine br (b) ?_;refine aL a ?_;exact Fin.bd [] J J ci ag J J
theorem TN (k n l t:Z)(h:k.length=32)(i:n.length=12)(u:l.length<=2000)(ht:t.length<=2016)(v:16<=t.length):bp prog 243 [.str k,.str n,.str l,.str t] []
  (if gT k n l (t.take (t.length-16))=t.drop (t.length-16) then .aZ [.str (gS k n (t.take (t.length-16))),.i64 0] else .aZ [.str [],.i64 6]) []:=by
 have A:=BA k n l t 2016;have o:gv k n l t 2016=0:=by
  unfold gv;rw[aq I,aq I]
 rw[o] at A;have a:=Ny k 8 (.inr rfl) I;have j:=Bl 256;have p:=GM;have w:(t.take (t.length-16)).length=t.length-16:=by rw[cF];omega
 generalize q:t.take (t.length-16)=s at*;have r:=Ip k n l s h i;rw[show 4*(8+7)=60 from rfl,show(wl k 8 60).flatten=qv k from rfl] at a;have m:=Qm (gE k n) (yt k n h i) n (qv k) (jH 256) s 15 (fun c=>rfl) i I I I (by rw[BG k h]) j (fun b=>by rw[eX,p]);have f:=QL (gE k n) n (qv k) (jH 256) l s 15 (fun c=>rfl) (yt k n h i) i u I I I (by rw[BG k h]) j (fun b=>by rw[eX,p]);rw[show cx s (mF (gE k n) ((s.length+15)/16))=gS k n s from rfl] at m;rw[show cx (vB (qH (iA (List.replicate 16 0#8) (qv k) 15 (15-1)) l s)) (gE k n 1)=gT k n l s from rfl] at f;generalize jH 256=T at*;generalize qv k=K at*;generalize gT k n l s=x at*;generalize gS k n s=y at*;have d:¬ (t.length:Int)<16:=I;have e:(t.length:Int)-16=((t.length-16:Nat):Int):=I;have B:bh ((t.length-16:Nat):Int)=((t.length-16:Nat):Int):=bC I I;by_cases z:x=t.drop (t.length-16)
 .rw[aM z];have g:=gg z;refine ak func243 ?_;simp only[go_sem,seval,ntmps243];refine br (A) ?_;refine aL d ?_;refine am [] a ?_;refine i9 e B q ?_;refine⟨I,I,U,?_⟩;refine am [0,1] f ?_;refine aL g ?_;refine am [0,1] m (aH ?_);exact Fin.bd [] J J ci ag J J
 .rw[aq z];have g:=nY z;refine ak func243 ?_;simp only[go_sem,seval,ntmps243];refine br (A) ?_;refine aL d ?_;refine am [] a ?_;refine i9 e B q ?_;refine⟨I,I,U,?_⟩;refine am [0,1] f ?_;refine aL g ?_;exact Fin.bd [] J J ci ag J J
end Go.Vm
end
section
namespace Go.Vm
open Go.Proofs
theorem O1 (k n l t:Z)(m:Nat)(h:gv k n l t m=0):k.length=32/\n.length=12/\l.length<=2000/\t.length<=m:=by
 unfold gv at h;split at h
 .cases h
 .split at h
  .cases h
  .omega
end Go.Vm
end
section
namespace Go.Vm
open Go.Proofs Go.Proofs.Tryz
def rV (k n l t:Z):Z×Int:=if gv k n l t 2000=0 then(gS k n t++gT k n l (gS k n t),0) else([],gv k n l t 2000)
def uk (k n l t:Z):Z×Int:=if gv k n l t 2016=0 then(if t.length<16 then([],4) else if gT k n l (t.take (t.length-16))=t.drop (t.length-16) then(gS k n (t.take (t.length-16)),0) else([],6)) else([],gv k n l t 2016)
theorem acP (k n l t:Z):bp prog 244 [.str k,.str n,.str l,.str t] [] (.aZ [.str (rV k n l t).1,.i64 (rV k n l t).2]) []:=by
 unfold rV;by_cases h:gv k n l t 2000=0
 .obtain⟨a,b,c,d⟩:=O1 k n l t 2000 h;rw[aM h];exact aaS k n l t a b c d
 .rw[aq h];exact aiG k n l t h
theorem U7 (k n l t:Z):bp prog 243 [.str k,.str n,.str l,.str t] [] (.aZ [.str (uk k n l t).1,.i64 (uk k n l t).2]) []:=by
 unfold uk;by_cases h:gv k n l t 2016=0
 .obtain⟨c,d,e,f⟩:=O1 k n l t 2016 h;rw[aM h];by_cases a:t.length<16
  .rw[aM a];exact aeU k n l t h a
  .rw[aq a];have :=TN k n l t c d e f I;by_cases b:gT k n l (t.take (t.length-16))=t.drop (t.length-16)
   .rw[aM b] at this |-;exact this
   .rw[aq b] at this |-;exact this
 .rw[aq h];exact aiz k n l t h
theorem abJ (k c m t:Z):bE prog 242 [.agg [],.str k,.str c,.str m,.str t] (.aZ [.str (rV k c m t).1,.i64 (rV k c m t).2]):=by
 have h:=Es U bT (acP k c m t);generalize rV k c m t=g at*;refine ai func242 ?_;simp only[go_sem,seval,ntmps242];refine br (h) ?_;simp only[go_sem,seval]
theorem afs (k c m t:Z):bE prog 241 [.agg [],.str k,.str c,.str m,.str t] (.aZ [.str (uk k c m t).1,.i64 (uk k c m t).2]):=by
 have h:=Es U bT (U7 k c m t);generalize uk k c m t=g at*;refine ai func241 ?_;simp only[go_sem,seval,ntmps241];refine br (h) ?_;simp only[go_sem,seval]
end Go.Vm
end
section
namespace Go.Vm
open Go.Proofs
theorem Wh (k c m t:Z):((iP k c m t).2=0->Ru (iP k c m t).1.length t.length)/\(iP k c m t).1.length<=t.length+16:=by
 unfold iP Ru;by_cases h:oY k c m t 2000=0
 .obtain⟨g,i,d,f⟩:=HW _ _ _ _ _ h;rw[aM h];have a:(xored (jZ k c) 1#32 t).length=t.length:=F8 _ (fun m=>A9 k c m g i) _ _;have b:(lN k c m (xored (jZ k c) 1#32 t)).length=16:=by unfold lN;exact CY _ _
  simp only[bA,a,b];exact⟨fun _=>trivial,bz _⟩
 .rw[aq h];exact⟨fun e=>absurd e h,J⟩
theorem QG (t z:Z)(h:t.length<=z.length):cx (cx t z) z=t:=by
 unfold cx;apply wG;intro i;by_cases b:i<t.length
 .have a:i<z.length:=I;rw[v7,v7,bn b,bn a];show some ((t[i] ^^^ z[i]) ^^^ z[i])=some t[i];rw[BitVec.xor_assoc,BitVec.xor_self,BitVec.xor_zero]
 .rw[v7,v7,iW (l:=t) I]
theorem acI (B:aQ->Z)(a:∀ m,(B m).length=64)(n:aQ)(t:Z):xored B n (xored B n t)=t:=by
 have b:=F8 B a n t;have e:xored B n (xored B n t)=cx (xored B n t) (pi B n ((t.length+63)/64)):=by
  rw[<-b];rfl
 rw[e];show cx (cx t (pi B n ((t.length+63)/64))) (pi B n ((t.length+63)/64))=t;refine QG t _ ?_;rw[JE B a];omega
theorem WM (k n t:Z)(a:k.length=32)(b:n.length=12):gS k n (gS k n t)=t:=by
 have c:=KI k n t a b;have d:=FM _ (yt k n a b) ((t.length+15)/16);have e:gS k n (gS k n t)=cx (gS k n t) (mF (gE k n) ((t.length+15)/16)):=by
  rw[<-c];rfl
 rw[e];exact QG t _ I
theorem OP {a b:Z}(h:b.length=16):(a++b).take ((a++b).length-16)=a:=by
 rw[bA,show a.length+b.length-16=a.length by omega];exact mW rfl
theorem aiP {a b:Z}(h:b.length=16):(a++b).drop ((a++b).length-16)=b:=by
 rw[bA,show a.length+b.length-16=a.length by omega];exact oI rfl
theorem L5 {k c m t:Z}(a:k.length=32)(hc:c.length=12)(j:m.length<=2000)(ht:t.length<=2000):(iP k c m t).2=0/\(iP k c m t).1.length=t.length+16/\pV k c m (iP k c m t).1=(t,0):=by
 have h:oY k c m t 2000=0:=by
  unfold oY;rw[aM a,aM hc,aq I,aq I]
 have b:∀ m,(jZ k c m).length=64:=fun m=>A9 k c m a hc
 have e:=F8 (jZ k c) b 1#32 t;have f:=acI (jZ k c) b 1#32 t;unfold iP;rw[aM h];generalize xored (jZ k c) 1#32 t=x at*;have d:(lN k c m x).length=16:=CY _ _;have g:(x++lN k c m x).length=t.length+16:=by rw[bA,e,d]
 refine⟨rfl,g,?_⟩;have i:oY k c m (x++lN k c m x) 2016=0:=by
  unfold oY;rw[aM a,aM hc,aq I,aq (by rw[g];omega)]
 unfold pV;rw[aM i,aq (by show ¬ (x++lN k c m x).length<16;rw[g];omega)];show(if(x++lN k c m x).take ((x++lN k c m x).length-16)++lN k c m ((x++lN k c m x).take ((x++lN k c m x).length-16))=x++lN k c m x then(xored (jZ k c) 1#32 ((x++lN k c m x).take ((x++lN k c m x).length-16)),(0:Int)) else([],6))=_;rw[OP d,aM rfl,f]
theorem ajk {k n l t:Z}(a:k.length=32)(b:n.length=12)(f:l.length<=2000)(ht:t.length<=2000):(rV k n l t).2=0/\(rV k n l t).1.length=t.length+16/\uk k n l (rV k n l t).1=(t,0):=by
 have h:gv k n l t 2000=0:=by
  unfold gv;rw[aq I,aq I]
 have c:=KI k n t a b;have e:=WM k n t a b;unfold rV;rw[aM h];generalize gS k n t=x at*;have d:(gT k n l x).length=16:=Ip k n l x a b;have g:(x++gT k n l x).length=t.length+16:=by rw[bA,c,d]
 refine⟨rfl,g,?_⟩;have i:gv k n l (x++gT k n l x) 2016=0:=by
  unfold gv;rw[aq I,aq (by rw[g];omega)]
 unfold uk;rw[aM i,aq (by show ¬ (x++gT k n l x).length<16;rw[g];omega)];show(if gT k n l ((x++gT k n l x).take ((x++gT k n l x).length-16))=(x++gT k n l x).drop ((x++gT k n l x).length-16) then(gS k n ((x++gT k n l x).take ((x++gT k n l x).length-16)),(0:Int)) else([],6))=_;rw[OP d,aiP d,aM rfl,e]
end Go.Vm
end
section
namespace Go.Vm
open Go.Proofs Go.Proofs.Tryz
section
open Classical in
noncomputable def j8 (x:Int) (s:Z):Z:=if h:∃ o:Z,bE prog 172 [.i64 x,.str s] (.aZ [.str o,.i64 0])/\o.length=32 then h.choose else[]
theorem xZ {x:Int}(a:x=1\/x=2)(s:Z)(b:s.length<=1099511627776):bE prog 172 [.i64 x,.str s] (.aZ [.str (j8 x s),.i64 0])/\(j8 x s).length=32:=by
 obtain⟨_,c,o,d,rfl⟩:=aeV x a s b;have h:∃ o:Z,bE prog 172 [.i64 x,.str s] (.aZ [.str o,.i64 0])/\o.length=32:=⟨o,c,d⟩;unfold j8;rw[dif_pos h];exact h.choose_spec
def GD (x:Int)(a s:Z)(n:Nat)(os:List Z):Prop:=bp prog 25 [.i64 x,.str a,.str s,.i64 n] [] (.aZ [.slice 0 0 n 1,.i64 0]) [bK (os.map .str)]/\os.length=n/\∀ o∈os,o.length=32
open Classical in
noncomputable def Ae (x:Int) (b s:Z) (n:Nat):List Z:=if h:∃ c,GD x b s n c then h.choose else[]
theorem EI {x:Int}(e:x=1\/x=2)(j s:Z)(a:j.length<=1099511627776)(f:s.length<=549755813888){n:Nat}(g:0<n)(b:n<=3):GD x j s n (Ae x j s n):=by
 obtain⟨_,_,i,rfl,k,c,d,rfl⟩:=Xe x e j s a f n g b;have h:∃ k,GD x j s n k:=⟨k,i,c,d⟩;unfold Ae;rw[dif_pos h];exact h.choose_spec
noncomputable def d2 (x:Int) (c t:Z) (i:Nat):Z:=(Ae x c t 2).getD i []
noncomputable def d3 (x:Int) (c t:Z) (i:Nat):Z:=(Ae x c t 3).getD i []
theorem DD {x:Int}(d:x=1\/x=2)(c t:Z)(hc:c.length<=1099511627776)(ht:t.length<=549755813888):bp prog 25 [.i64 x,.str c,.str t,.i64 2] [] (.aZ [.slice 0 0 2 1,.i64 0]) [bK [.str (d2 x c t 0),.str (d2 x c t 1)]]/\(d2 x c t 0).length=32/\(d2 x c t 1).length=32:=by
 obtain⟨i,j,f⟩:=EI d c t hc ht (n:=2) ag ag;unfold d2;obtain⟨a,b,e,g,h⟩:=two j f;rw[e] at i |-
 exact⟨i,g,h⟩
theorem LW {x:Int}(f:x=1\/x=2)(c t:Z)(hc:c.length<=1099511627776)(ht:t.length<=549755813888):bp prog 25 [.i64 x,.str c,.str t,.i64 3] [] (.aZ [.slice 0 0 3 1,.i64 0]) [bK [.str (d3 x c t 0),.str (d3 x c t 1),.str (d3 x c t 2)]]/\(d3 x c t 0).length=32/\(d3 x c t 1).length=32/\(d3 x c t 2).length=32:=by
 obtain⟨k,l,g⟩:=EI f c t hc ht (n:=3) ag ag;unfold d3;obtain⟨a,b,d,e,h,i,j⟩:=three l g;rw[e] at k |-
 exact⟨k,h,i,j⟩
def sY (x:Int):V:= .iface (if x=1 then 261 else 262) (.agg [])
def fw (x:Int)(h c k:Z)(n:aS):List V:=fm (sY x) h c k n
theorem C8 {x:Int}(a:x=1∨x=2):∃ t f,sY x= .iface t (.agg [])∧kr prog t "souterrain/noise.kind"=some f∧bE prog f [.agg []] (.i64 x):=by
 rcases a with rfl|rfl
 .exact⟨261,_,rfl,Ws,WC⟩
 .exact⟨262,_,rfl,adD,UJ⟩
theorem KT {x:Int}(a:x=1∨x=2):∃ t f,sY x= .iface t (.agg [])∧kr prog t "souterrain/noise.nonce"=some f∧∀ n,bE prog f [.agg [],.u64 n] (.str (eV x n)):=by
 rcases a with rfl|rfl
 .exact⟨261,_,rfl,acY,Tu⟩
 .exact⟨262,_,rfl,adU,TJ⟩
theorem zj (x:Int)(n:aS):(eV x n).length=12:=by
 unfold eV;split
 .rw[bA,dQ];rfl
 .rw[bA,fD];rfl
theorem abr (x:Int)(n:Nat):(sY x).low n=True:=by simp[sY,V.low,lows]
theorem ajM (x:Int)(m:Nat)(h c k:Z)(n:aS):lows m (fw x h c k n)=True:=by simp[fw,fm,lows,V.low,abr]
theorem A3 {x:Int}(a:x=1\/x=2)(h c k:Z)(n:aS)(i:h.length=32)(t:Z)(ht:t.length<=549755813888):bp prog 156 [.ptr 0 0,.str t] [bK (fw x h c k n)] (.aZ []) [bK (fw x (j8 x (h++t)) c k n)]:=by
 obtain⟨l,f,e,m,b⟩:=C8 a;have d:=(xZ a (h++t) cp).1;generalize j8 x (h++t)=z at*;have :∃ v j,bp prog 156 [.ptr 0 0,.str t] [bK (fw x h c k n)] v j/\(v= .aZ []/\j=[bK (fw x z c k n)]):=by
  unfold fw;rw[e];refine kg (Post:=fun v j=>v= .aZ []/\j=[bK (fm (.iface l (.agg [])) z c k n)]) U func156 rfl db (ce ?_);simp only[go_sem,seval,fm,uM m];refine aE ?_
  refine bZ (b) (aG ?_)
  refine bZ (d) (aG ?_)
  refine⟨_,_,?_,Fin.take 1 J J (by simp[jv,lows,V.low]) akw⟩;exact⟨rfl,rfl⟩
 obtain⟨_,_,g,rfl,rfl⟩:=this;exact g
theorem Wb {x:Int}(d:x=1\/x=2)(h c k:Z)(n:aS)(hc:c.length=32)(t:Z)(ht:t.length<=549755813888):bp prog 157 [.ptr 0 0,.str t] [bK (fw x h c k n)] (.aZ []) [bK (fw x h (d2 x c t 0) (d2 x c t 1) 0#64)]:=by
 obtain⟨m,f,e,o,g⟩:=C8 d;have i:=(DD d c t I ht).1;generalize d2 x c t 0=a at*;generalize d2 x c t 1=b at*;have :∃ v l,bp prog 157 [.ptr 0 0,.str t] [bK (fw x h c k n)] v l/\(v= .aZ []/\l=[bK (fw x h a b 0#64)]):=by
  unfold fw;rw[e];refine kg (Post:=fun v l=>v= .aZ []/\l=[bK (fm (.iface m (.agg [])) h a b 0#64)]) U func157 rfl db (ce ?_);simp only[go_sem,seval,fm,uM o];refine aE ?_
  refine bZ (g) (aH ?_);refine az [] i (aG ?_)
  refine⟨_,_,?_,Fin.take 1 J J (by simp[jv,lows,V.low]) akw⟩;exact⟨rfl,rfl⟩
 obtain⟨_,_,j,rfl,rfl⟩:=this;exact j
theorem ade {x:Int}(j:x=1\/x=2)(h c k:Z)(n:aS)(l:h.length=32)(hc:c.length=32)(t:Z)(ht:t.length<=549755813888):bp prog 144 [.ptr 0 0,.str t] [bK (fw x h c k n)] (.aZ []) [bK (fw x (j8 x (h++d3 x c t 1)) (d3 x c t 0) (d3 x c t 2) 0#64)]:=by
 obtain⟨m,f,e,o,p⟩:=C8 j;obtain⟨q,-,s,-⟩:=LW j c t I ht;have g:=A3 j h c k n l (d3 x c t 1) I;generalize d3 x c t 0=a at*;generalize d3 x c t 1=b at*;generalize d3 x c t 2=d at*;generalize j8 x (h++b)=z at*;have :∃ v i,bp prog 144 [.ptr 0 0,.str t] [bK (fw x h c k n)] v i/\(v= .aZ []/\i=[bK (fw x z a d 0#64)]):=by
  unfold fw at*;rw[e] at*;refine kg (Post:=fun v i=>v= .aZ []/\i=[bK (fm (.iface m (.agg [])) z a d 0#64)]) U func144 rfl db (ce ?_);simp only[go_sem,seval,fm,uM o];refine aE ?_
  refine bZ (p) (aH ?_);refine az [] q (aG ?_)
  refine fY [0] (g) U J rfl (by simp[fm]) fO J J (by simp[fm]) (by simp[fm]) J ?_;simp only[go_sem,seval,fm];refine aE ?_
  refine⟨_,_,?_,Fin.take 1 J J (by simp[jv,lows,V.low]) akw⟩;exact⟨rfl,rfl⟩
 obtain⟨_,_,r,rfl,rfl⟩:=this;exact r
theorem VS {x:Int}(d:x=1\/x=2)(h c k:Z)(n:aS)(hc:c.length=32):bp prog 145 [.ptr 0 0] [bK (fw x h c k n)] (.aZ [.str (d2 x c [] 0),.str (d2 x c [] 1)]) [bK (fw x h c k n)]:=by
 obtain⟨m,f,e,o,g⟩:=C8 d;have i:=(DD d c [] I J).1;generalize d2 x c [] 0=a at*;generalize d2 x c [] 1=b at*;have :∃ v l,bp prog 145 [.ptr 0 0] [bK (fw x h c k n)] v l/\(v= .aZ [.str a,.str b]/\l=[bK (fw x h c k n)]):=by
  unfold fw;rw[e];refine kg (Post:=fun v l=>v= .aZ [.str a,.str b]/\l=[bK (fm (.iface m (.agg [])) h c k n)]) U func145 rfl db (ce ?_);simp only[go_sem,seval,fm,uM o];refine aE ?_
  refine bZ (g) (aH ?_);refine az [] i (aG ?_)
  refine⟨_,_,?_,Fin.take 1 J J bT akw⟩;exact⟨rfl,rfl⟩
 obtain⟨_,_,j,rfl,rfl⟩:=this;exact j
end
def mP (x:Int)(k c m t:Z):Z×Int:=if x=1 then iP k c m t else rV k c m t
def lh (x:Int)(k c m t:Z):Z×Int:=if x=1 then pV k c m t else uk k c m t
theorem yJ {x:Int}{k c m t:Z}(a:k.length=32)(hc:c.length=12)(b:m.length<=2000)(ht:t.length<=2000):(mP x k c m t).2=0/\(mP x k c m t).1.length=t.length+16/\lh x k c m (mP x k c m t).1=(t,0):=by
 unfold mP lh;by_cases h:x=1
 .rw[aM h,aM h];exact L5 a hc b ht
 .rw[aq h,aq h];exact ajk a hc b ht
def Gv (e:String)(B:Int->Z->Z->Z->Z->Z×Int):Prop:=∀ x,x=1\/x=2->∃ t f,sY x= .iface t (.agg [])/\kr prog t e=some f/\∀ k c m y,bE prog f [.agg [],.str k,.str c,.str m,.str y] (.aZ [.str (B x k c m y).1,.i64 (B x k c m y).2])
theorem Sk:Gv "souterrain/noise.seal" mP:=fun x a=>by
 rcases a with rfl|rfl
 .exact⟨261,_,rfl,aeM,afD⟩
 .exact⟨262,_,rfl,ajh,abJ⟩
theorem Te:Gv "souterrain/noise.open" lh:=fun x a=>by
 rcases a with rfl|rfl
 .exact⟨261,_,rfl,Vr,adx⟩
 .exact⟨262,_,rfl,Uy,afs⟩
theorem Ta {d:String}{B:Int->Z->Z->Z->Z->Z×Int}(m:Gv d B){x:Int}(l:x=1\/x=2)(h c k:Z)(n:aS)(g:k≠[])(t o:Z)(z:B x k (eV x n) h t=(o,0)):
  bp prog 174 [.ptr 0 0,.str t,.iV d (if x=1 then 261 else 262) (.agg [])] [bK (fw x h c k n)] (.aZ [.str o,.i64 0]) [bK (fw x h c k (n+1#64))]:=by
 obtain⟨y,f,e,A,p⟩:=KT l;obtain⟨ty2,f2,a,i,j⟩:=m x l;have b:=j k (eV x n) h t;rw[z] at b;have q:=p n;have r:(if x=1 then 261 else 262)=ty2:=by have :=a;unfold sY at this;injection this
 rw[e] at a;injection a with a _
 rw[r];subst a;generalize eV x n=u at*;have :∃ v w,bp prog 174 [.ptr 0 0,.str t,.iV d y (.agg [])] [bK (fw x h c k n)] v w/\(v= .aZ [.str o,.i64 0]/\w=[bK (fw x h c k (n+1#64))]):=by
  unfold fw;rw[e];refine kg (Post:=fun v w=>v= .aZ [.str o,.i64 0]/\w=[bK (fm (.iface y (.agg [])) h c k (n+1#64))]) U func174 rfl db (ce ?_);simp only[go_sem,seval,fm,g,uM A];refine aE ?_
  refine bZ (q) (aG ?_)
  refine aeb i b (aG ?_)
  refine⟨_,_,?_,Fin.take 1 J J bT akw⟩;exact⟨rfl,rfl⟩
 obtain⟨_,_,s,rfl,rfl⟩:=this;exact s
theorem af9 {x:Int}(g:x=1\/x=2)(h c k:Z)(n:aS)(i:h.length=32)(f:k.length=32)(t:Z)(ht:t.length<=2000):
  bp prog 159 [.ptr 0 0,.str t] [bK (fw x h c k n)] (.aZ [.str (mP x k (eV x n) h t).1,.i64 0]) [bK (fw x (j8 x (h++(mP x k (eV x n) h t).1)) c k (n+1#64))]:=by
 obtain⟨l,q,-⟩:=yJ (x:=x) (k:=k) (c:=eV x n) (m:=h) (t:=t) f (zj x n) I ht;have b:=Ta Sk g h c k n (fun e=>by rw[e] at f;cases f) t (mP x k (eV x n) h t).1 (by rw[<-l]);generalize (mP x k (eV x n) h t).1=o at*;have a:=A3 g h c k (n+1#64) i o I;generalize j8 x (h++o)=z at*;have e:sY x= .iface (if x=1 then 261 else 262) (.agg []):=rfl;have :∃ v d,bp prog 159 [.ptr 0 0,.str t] [bK (fw x h c k n)] v d/\(v= .aZ [.str o,.i64 0]/\d=[bK (fw x z c k (n+1#64))]):=by
  unfold fw at*;rw[e] at b a |-
  clear e;generalize (if x=1 then 261 else 262)=j at*;refine kg (Post:=fun v d=>v= .aZ [.str o,.i64 0]/\d=[bK (fm (.iface j (.agg [])) z c k (n+1#64))]) U func159 rfl db (ce ?_);simp only[go_sem,seval,fm,Ga];refine aE ?_
  refine fY [0] (b) U J rfl (by simp[fm]) fO J J (by simp[fm]) (by simp[fm]) J ?_;simp only[go_sem,seval,fm];refine aE ?_
  refine fY [0] (a) U J rfl (by simp[fm]) fO J J (by simp[fm]) (by simp[fm]) J ?_;simp only[go_sem,seval,fm];refine⟨_,_,?_,Fin.take 1 J J bT akw⟩;exact⟨rfl,rfl⟩
 obtain⟨_,_,p,rfl,rfl⟩:=this;exact p
theorem UD {x:Int}(f:x=1\/x=2)(h c k:Z)(n:aS)(i:h.length=32)(g:k.length=32)(t o:Z)(j:lh x k (eV x n) h t=(o,0))(ht:t.length<=10000):
  bp prog 162 [.ptr 0 0,.str t] [bK (fw x h c k n)] (.aZ [.str o,.i64 0]) [bK (fw x (j8 x (h++t)) c k (n+1#64))]:=by
 have b:=Ta Te f h c k n (fun e=>by rw[e] at g;cases g) t o j;have a:=A3 f h c k (n+1#64) i t I;generalize j8 x (h++t)=z at*;have e:sY x= .iface (if x=1 then 261 else 262) (.agg []):=rfl;have :∃ v d,bp prog 162 [.ptr 0 0,.str t] [bK (fw x h c k n)] v d/\(v= .aZ [.str o,.i64 0]/\d=[bK (fw x z c k (n+1#64))]):=by
  unfold fw at*;rw[e] at b a |-
  clear e;generalize (if x=1 then 261 else 262)=l at*;refine kg (Post:=fun v d=>v= .aZ [.str o,.i64 0]/\d=[bK (fm (.iface l (.agg [])) z c k (n+1#64))]) U func162 rfl db (ce ?_);simp only[go_sem,seval,fm,Ga];refine aE ?_
  refine fY [0] (b) U J rfl (by simp[fm]) fO J J (by simp[fm]) (by simp[fm]) J ?_;simp only[go_sem,seval,fm];refine aE ?_
  refine fY [0] (a) U J rfl (by simp[fm]) fO J J (by simp[fm]) (by simp[fm]) J ?_;simp only[go_sem,seval,fm];refine⟨_,_,?_,Fin.take 1 J J bT akw⟩;exact⟨rfl,rfl⟩
 obtain⟨_,_,m,rfl,rfl⟩:=this;exact m
theorem Io {x:Int}(a:x=1\/x=2):bE prog 118 [.i64 x] (sY x):=by
 rcases a with rfl|rfl
 .exact ZH
 .exact ac6
section
def Ji (x:Int)(h0:Z):Prop:=h0.length=32/\∀ t:Z,t.length<=549755813888->bp prog 155 [.i64 x,.str t] [] (.aZ [.ptr 0 0,.i64 0]) [bK (fw x (j8 x (h0++t)) h0 [] 0#64)]
theorem afp {x:Int}(f:x=1\/x=2):∃ h0,Ji x h0:=by
 have b:=Io f;obtain⟨s,d⟩:∃ s:Z,s=bytesOf ⟨#[115,111,117,116,101,114,114,97,105,110,32]⟩++[BitVec.ofInt 8 (bh (48+x))]:=⟨_,rfl⟩;have g:s.length=12:=by rw[d];rfl
 obtain⟨h,c⟩:=xZ f s I;refine⟨j8 x s,c,fun t k=>?_⟩;generalize j8 x s=o at*;have a:=A3 f o o [] 0#64 c t k;generalize j8 x (o++t)=z at*;have e:sY x= .iface (if x=1 then 261 else 262) (.agg []):=rfl;have :∃ v i,bp prog 155 [.i64 x,.str t] [] v i/\(v= .aZ [.ptr 0 0,.i64 0]/\i=[bK (fw x z o [] 0#64)]):=by
  unfold fw at*;rw[e] at a b |-
  clear e;generalize (if x=1 then 261 else 262)=j at*;refine kg (Post:=fun v i=>v= .aZ [.ptr 0 0,.i64 0]/\i=[bK (fm (.iface j (.agg [])) z o [] 0#64)]) U func155 rfl db (ce (aH ?_));refine br (b) ?_;refine aL @Ci ?_;refine aE ?_
  rw[<-d];refine br (h) (aG ?_)
  refine fY [1] (a) U J rfl (by simp[fm]) fO J J (by simp[fm]) (by simp[fm]) J ?_;simp only[go_sem,seval,fm];refine⟨_,_,⟨rfl,rfl⟩,?_⟩;exact Fin.bd [1] J J ci ag J J
 obtain⟨_,_,d,rfl,rfl⟩:=this;exact d
open Classical in
noncomputable def pC (x:Int):Z:=if h:∃ b,Ji x b then h.choose else[]
theorem Q3 {x:Int}(a:x=1\/x=2):Ji x (pC x):=by
 have h:=afp a;unfold pC;rw[dif_pos h];exact h.choose_spec
theorem acd {x:Int}(d:x=1\/x=2)(k m t:Z)(n:aS):bE prog 89 [.i64 x,.str k,.u64 n,.str m,.str t] (.aZ [.str (mP x k (eV x n) m t).1,.i64 (mP x k (eV x n) m t).2]):=by
 have a:=Io d;obtain⟨r,f,e,q,i⟩:=KT d;obtain⟨ty2,f2,c,b,g⟩:=Sk x d;rw[e] at c;injection c with c _
 subst c;have j:=i n;have l:=g k (eV x n) m t;rw[e] at a;generalize eV x n=h at*;generalize (mP x k h m t).1=o at*;generalize (mP x k h m t).2=p at*;refine ai func89 ?_;simp only[go_sem,seval,ntmps89];refine br a ?_;simp only[go_sem,seval,Ci,uM q];refine aE ?_
 refine bZ (j) ?_;simp only[go_sem,seval,Ga,b,yM,uM b];refine aE ?_
 refine bZ (l) (aH ?_);first|kernel_rfl|exact⟨U,rfl⟩|exact⟨U,U⟩
theorem PA {x:Int}(d:x=1\/x=2)(k m t:Z)(n:aS):bE prog 167 [.i64 x,.str k,.u64 n,.str m,.str t] (.aZ [.str (lh x k (eV x n) m t).1,.i64 (lh x k (eV x n) m t).2]):=by
 have a:=Io d;obtain⟨r,f,e,q,i⟩:=KT d;obtain⟨ty2,f2,c,b,g⟩:=Te x d;rw[e] at c;injection c with c _
 subst c;have j:=i n;have l:=g k (eV x n) m t;rw[e] at a;generalize eV x n=h at*;generalize (lh x k h m t).1=o at*;generalize (lh x k h m t).2=p at*;refine ai func167 ?_;simp only[go_sem,seval,ntmps167];refine br a ?_;simp only[go_sem,seval,Ci,uM q];refine aE ?_
 refine bZ (j) ?_;simp only[go_sem,seval,Ga,b,yM,uM b];refine aE ?_
 refine bZ (l) (aH ?_);first|kernel_rfl|exact⟨U,rfl⟩|exact⟨U,U⟩
end
def qJ (c:BitVec 8)(s:Z):Z:=s.dropWhile (· ==c)
def qB (c:BitVec 8)(s:Z):Z:=(s.reverse.dropWhile (· ==c)).reverse
theorem adG (c y:BitVec 8)(r:Z):qB c (r++[y])=if y=c then qB c r else r++[y]:=by
 unfold qB;rw[List.reverse_append,List.reverse_singleton,List.singleton_append,Ck];by_cases h:y=c
 .rw[aM h,aM (by simp[h])]
 .rw[aq h,aq (by simp[h]),List.reverse_cons,List.reverse_reverse]
theorem abz (s:Z)(c:BitVec 8):bE prog 179 [.str s,.u8 c] (.str (qJ c s)):=by
 refine ai func179 ?_;simp only[go_sem,seval,ntmps179];refine cG (fun j i=>∃ x:Z,x.length=j/\qJ c x=qJ c s/\i=⟨[(0,.str x),(1,.u8 c)],[]⟩) ?_ ?_
 .exact dh s.length ⟨[(0,.str s),(1,.u8 c)],[]⟩ gJ rfl (fun _ _ h=>h) ⟨s,rfl,rfl,rfl⟩
 rintro j i ⟨x,d,f,rfl⟩ _;cases x with
 |nil=>
  rw[<-f,show qJ c []=[] from rfl];simp only[go_sem,seval]
 |cons y r=>
  have g:((0:Int)<((r.length+1:Nat):Int))=True:=gg I;have k:(1:Int)<=((r.length+1:Nat):Int):=I;by_cases b:y=c
  .have e:qJ c (y::r)=qJ c r:=by unfold qJ;rw[Ck,aM (by simp[b])]
   have a:(y=c)=True:=gg b;refine i9 g a k ?_;rw[dM] at d;exact cH (j-1) ⟨[(0,.str r),(1,.u8 c)],[]⟩ I gJ rfl (fun _ _ h=>h) ⟨r,I,e▸f,rfl⟩
  .have e:qJ c (y::r)=y::r:=by unfold qJ;rw[Ck,aq (by simp[b])]
   rw[<-f,e];have a:(y=c)=False:=nY b;simp only[go_sem,seval,g,a]
theorem aeh (s:Z)(c:BitVec 8)(l:s.length<=140737488355328):bE prog 180 [.str s,.u8 c] (.str (qB c s)):=by
 refine ai func180 ?_;simp only[go_sem,seval,-BitVec.isValue,-List.reduceReplicate,-Nat.reduceSubDiff,ntmps180];refine cG (fun j u=>∃ x:Z,x.length=j/\x.length<=s.length/\qB c x=qB c s/\u=⟨[(0,.str x),(1,.u8 c)],[]⟩) ?_ ?_
 .exact dh s.length ⟨[(0,.str s),(1,.u8 c)],[]⟩ gJ rfl (fun _ _ h=>h) ⟨s,rfl,bz _,rfl,rfl⟩
 rintro j u ⟨x,m,k,n,rfl⟩ _;rcases List.eq_nil_or_concat x with rfl|⟨r,y,rfl⟩
 .rw[<-n,show qB c []=[] from rfl];simp only[go_sem,seval,-BitVec.isValue,-List.reduceReplicate,-Nat.reduceSubDiff]
 .rw[List.concat_eq_append] at*;have g:(r++[y]).length=r.length+1:=J;have p:((0:Int)<((r.length+1:Nat):Int))=True:=gg I;have q:bh (((r.length+1:Nat):Int)-1)=(r.length:Int):=by rw[bC I I];omega
  have i:(0:Int)<=(r.length:Int):=I;have b:(r.length:Int)<((r.length+1:Nat):Int):=I;have o:(r.length:Int)<=((r.length+1:Nat):Int):=I;have t:(r++[y]).getD r.length 0=y:=by
   rw[bY,iy (bz _),k8];rfl
  have e:(r++[y]).take r.length=r:=List.take_left;rw[adG] at n;by_cases d:y=c
  .rw[aM d] at n;have a:(y=c)=True:=gg d;generalize f:r++[y]=x at*;refine qe4 p a g q i b o t e ?_;exact cH (j-1) ⟨[(0,.str r),(1,.u8 c)],[]⟩ I gJ rfl (fun _ _ h=>h) ⟨r,I,I,n,rfl⟩
  .rw[aq d] at n;rw[<-n];have a:(y=c)=False:=nY d;generalize f:r++[y]=x at*;simp only[go_sem,seval,-BitVec.isValue,-List.reduceReplicate,-Nat.reduceSubDiff,p,a,g,q,i,b,t]
theorem Zq (s:Z)(a:s.length<=140737488355328):bE prog 173 [.str s,.str [0#8]] (.str (qJ 0#8 (qB 0#8 s))):=by
 by_cases h:s=[]
 .subst h;rw[show qJ 0#8 (qB 0#8 [])=[] from rfl];refine ai func173 ?_;simp only[go_sem,seval,ntmps173,results173]
 .have b:=nY h;refine ai func173 ?_;simp only[go_sem,seval,ntmps173,b];refine bZ (aeh s 0#8 a) (aH ?_);refine bZ (abz (qB 0#8 s) 0#8) (aH ?_);kernel_rfl
theorem TE (c:BitVec 8)(s:Z):s.dropWhile (· ==c)=[]↔∀ x∈s,x=c:=by
 induction s with
 |nil=>simp
 |cons y r ih=>
  rw[Ck];by_cases h:y=c
  .rw[aM (by simp[h]),ih];simp[h]
  .rw[aq (by simp[h])];simp[h]
theorem aiN (c:BitVec 8)(s:Z):(∀ x∈s.dropWhile (· ==c),x=c)↔∀ x∈s,x=c:=by
 induction s with
 |nil=>simp
 |cons y r ih=>
  rw[Ck];by_cases h:y=c
  .rw[aM (by simp[h]),ih];simp[h]
  .rw[aq (by simp[h])]
theorem abS (c:BitVec 8)(s:Z):qJ c (qB c s)=[]↔s=List.replicate s.length c:=by
 unfold qJ;rw[TE];have a:(∀ x∈qB c s,x=c)↔∀ x∈s,x=c:=by
  unfold qB;simp only[List.mem_reverse];rw[aiN];simp only[List.mem_reverse]
 rw[a,List.eq_replicate_iff];simp
end Go.Vm
end
section
namespace Go.Vm
abbrev Pq:Nat:=57896044618658097711785492504343953926634992332820282019728792003956564819949
theorem wo (x:aS):(x&&&2251799813685247#64).toNat=x.toNat%2251799813685248:=by
 rw[tP,show(2251799813685247#64).toNat=2^51-1 from rfl,xk]
theorem Hk (x:aS):(x>>>51).toNat=x.toNat/2251799813685248:=by rw[uJ,tI]
def bV:List aS->Nat
 |[]=>0
 |x::l=>x.toNat+2251799813685248*bV l
def gQ (c:aS):List aS->List aS×aS
 |[]=>([],c)
 |x::l=>(((x+c)&&&2251799813685247#64)::(gQ ((x+c)>>>51) l).1,(gQ ((x+c)>>>51) l).2)
theorem Bc (l:List aS):∀ c,(gQ c l).1.length=l.length:=by
 induction l with
 |nil=>intro c;rfl
 |cons x l ih=>intro c;rw[gQ,dM,dM,ih]
theorem afI (l:List aS)(x:aS):∀ c,gQ c (l++[x])=((gQ c l).1++[(x+(gQ c l).2)&&&2251799813685247#64],(x+(gQ c l).2)>>>51):=by
 induction l with
 |nil=>intro c;rfl
 |cons y l ih=>intro c;rw[kG,gQ,ih,gQ];rfl
def gP (c:aS)(w:List aS):Nat->List aS×aS
 |0=>(w,c)
 |k+1=>((gP c w k).1.set k (((gP c w k).1.getD k 0+(gP c w k).2)&&&2251799813685247#64),((gP c w k).1.getD k 0+(gP c w k).2)>>>51)
theorem Tf (c:aS)(w:List aS)(k:Nat):(gP c w k).1.length=w.length:=by
 induction k with
 |zero=>rfl
 |succ k ih=>rw[gP,b7,ih]
theorem afn (c:aS)(w:List aS)(k:Nat)(d:k<=w.length):gP c w k=((gQ c (w.take k)).1++w.drop k,(gQ c (w.take k)).2):=by
 induction k with
 |zero=>rfl
 |succ k ih=>
  have a:k<w.length:=I;have b:(gQ c (w.take k)).1.length=k:=by rw[Bc,cF];omega
  have e:((gQ c (w.take k)).1++w.drop k).getD k 0=w.getD k 0:=by
   rw[bY,iy I,b,k8,mA,nJ,<-bY]
  have f:w.take (k+1)=w.take k++[w.getD k 0]:=by
   rw[uV a,bY,bn a];rfl
  rw[gP,ih I];simp only;rw[e,f,afI,uD _ _ I,b,k8,wA a,lF];simp
theorem Hb (l:List aS):∀ c:aS,c.toNat<4611686018427387904->(∀ x∈l,x.toNat<9223372036854775808)->
  bV (gQ c l).1+2251799813685248^l.length*(gQ c l).2.toNat=bV l+c.toNat/\(∀ x∈(gQ c l).1,x.toNat<2251799813685248)/\(l≠[]->(gQ c l).2.toNat<8192):=by
 induction l with
 |nil=>intro c _ _;exact⟨by simp[gQ,bV],by simp[gQ],fun h=>absurd rfl h⟩
 |cons x l ih=>
  intro c m b;have k:=b x pA;have e:(x+c).toNat=x.toNat+c.toNat:=by rw[jL];omega
  have d:((x+c)>>>51).toNat=(x.toNat+c.toNat)/2251799813685248:=by rw[Hk,e]
  have f:((x+c)&&&2251799813685247#64).toNat=(x.toNat+c.toNat)%2251799813685248:=by rw[wo,e]
  obtain⟨g,i,j⟩:=ih ((x+c)>>>51) (by rw[d];omega) (fun y a=>b y (mr _ a));rw[d] at g;refine⟨?_,?_,?_⟩
  .rw[gQ];show((x+c)&&&2251799813685247#64).toNat+2251799813685248*bV (gQ ((x+c)>>>51) l).1+2251799813685248^(l.length+1)*(gQ ((x+c)>>>51) l).2.toNat=x.toNat+2251799813685248*bV l+c.toNat;rw[f,nA,og (2251799813685248^l.length) 2251799813685248,uz];omega
  .rw[gQ];intro y a;rcases gz.1 a with rfl|a
   .rw[f];omega
   .exact i y a
  .intro _;rw[gQ];cases l with
   |nil=>show((x+c)>>>51).toNat<8192;rw[d];omega
   |cons y l=>exact j J
theorem B7:∀ (l:List aS),(∀ x∈l,x.toNat<2251799813685248)->bV l<2251799813685248^l.length
 |[],_=>Nat.one_pos
 |x::l,h=>by
  have b:=h x pA;have ih:=B7 l fun y a=>h y (mr _ a)
  rw[dM,nA];show x.toNat+2251799813685248*bV l<_;omega
theorem five {α:Type}(l:List α)(h:l.length=5):∃ a b c d e:α,l=[a,b,c,d,e]:=by
 match l,h with
 |[a,b,c,d,e],_=>exact⟨a,b,c,d,e,rfl⟩
theorem yf:(2251799813685248:Nat)^5=57896044618658097711785492504343953926634992332820282019728792003956564819968:=ag
def fE (w:List aS):List aS:=(gP 0#64 w 5).1.set 0 ((gP 0#64 w 5).1.getD 0 0+19#64*(gP 0#64 w 5).2)
theorem O6 (w:List aS):(fE w).length=w.length:=by unfold fE;rw[b7,Tf]
def fZ (w:List aS):Nat->List aS
 |0=>w
 |i+1=>fE (fZ w i)
theorem sK (w:List aS)(i:Nat):(fZ w i).length=w.length:=by
 induction i with
 |zero=>rfl
 |succ i ih=>rw[fZ,O6,ih]
def sm (l:List aS):Prop:=l.length=5/\∀ x∈l,x.toNat<2251799813947392
theorem Af (w:List aS)(p:w.length=5)(i:∀ x∈w,x.toNat<9223372036854775808):
  bV (fE w)=bV w%57896044618658097711785492504343953926634992332820282019728792003956564819968+19*(bV w/57896044618658097711785492504343953926634992332820282019728792003956564819968)/\sm (fE w)/\
  (bV w<57896044618658097711785492504343953926634992332820282019728792003956564819968->∀ x∈fE w,x.toNat<2251799813685248):=by
 have h:=afn 0#64 w 5 I;rw[bq I,lP I,jn] at h;obtain⟨n,o,f⟩:=Hb w 0#64 ag i;have f:=f (fun e=>by rw[e] at p;simp at p);have d:=Bc w 0#64;have m:=O6 w;rw[p] at n d m;have b:=B7 _ o;rw[d] at b;rw[yf] at b n;rw[show(0#64).toNat=0 from rfl] at n;unfold sm;rw[m];unfold fE;rw[h];simp only;generalize (gQ 0#64 w).1=r at n o d b |-
 generalize (gQ 0#64 w).2=c at n f |-
 cases r with
 |nil=>simp at d
 |cons y r=>
  have l:=o y pA;have g:(y+19#64*c).toNat=y.toNat+19*c.toNat:=by
   rw[jL,um,show(19#64).toNat=19 from rfl];omega
  have j:bV ((y::r).set 0 (y+19#64*c))=bV (y::r)+19*c.toNat:=by
   rw[lF];show(y+19#64*c).toNat+2251799813685248*bV r=y.toNat+2251799813685248*bV r+19*c.toNat;rw[g];omega
  refine⟨?_,⟨trivial,?_⟩,fun k=>?_⟩
  .show bV ((y::r).set 0 (y+19#64*c))=_;rw[j];omega
  .intro x a;rw[lF] at a;rcases gz.1 a with rfl|a
   .show(y+19#64*c).toNat<_;omega
   .have :=o x (mr _ a);omega
  .intro x a;rw[lF] at a;rcases gz.1 a with rfl|a
   .show(y+19#64*c).toNat<_;omega
   .exact o x (mr _ a)
theorem F7 (w:List aS)(e:w.length=5)(a:∀ x∈w,x.toNat<9223372036854775808):(∃ q,bV w=bV (fZ w 2)+Pq*q)/\sm (fZ w 2):=by
 have b:=Af w e a;have d:fZ w 1=fE w:=rfl;have f:=Af (fE w) b.2.1.1 (fun x a=>by have :=b.2.1.2 x a;omega);have c:fZ w 2=fE (fE w):=rfl;rw[c];refine⟨⟨bV w/57896044618658097711785492504343953926634992332820282019728792003956564819968+bV (fE w)/57896044618658097711785492504343953926634992332820282019728792003956564819968,?_⟩,f.2.1⟩;unfold Pq;omega
theorem XG (l:List aS)(h:sm l):bV l<2*57896044618658097711785492504343953926634992332820282019728792003956564819968:=by
 obtain⟨k,j⟩:=h;obtain⟨a,b,c,d,e,rfl⟩:=five l k;simp only[vO] at j;obtain⟨f,g,m,n,i,_⟩:=j;simp only[bV];omega
theorem D8 (l:List aS)(h:sm l):∀ x∈l,x.toNat<9223372036854775808:=fun x a=>by have :=h.2 x a;omega
def uu (n:List aS):List aS:=(gQ 0#64 (n.set 0 (n.getD 0 0+19#64*(gQ 19#64 n).2))).1
theorem ZO (n:List aS)(h:sm n):bV (uu (fZ (fZ n 2) 2))=bV n%Pq/\(uu (fZ (fZ n 2) 2)).length=5/\∀ x∈uu (fZ (fZ n 2) 2),x.toNat<2251799813685248:=by
 have C:=XG n h;have m:=Af n h.1 (D8 n h);have G:=Af (fE n) m.2.1.1 (D8 _ m.2.1);have H:=Af (fE (fE n)) G.2.1.1 (D8 _ G.2.1);have o:=Af (fE (fE (fE n))) H.2.1.1 (D8 _ H.2.1);have e:fZ (fZ n 2) 2=fE (fE (fE (fE n))):=rfl;rw[e];have f:bV (fE (fE (fE n)))<57896044618658097711785492504343953926634992332820282019728792003956564819968:=I;have L:∃ q,bV n=bV (fE (fE (fE (fE n))))+Pq*q:=⟨bV n/57896044618658097711785492504343953926634992332820282019728792003956564819968+bV (fE n)/57896044618658097711785492504343953926634992332820282019728792003956564819968+bV (fE (fE n))/57896044618658097711785492504343953926634992332820282019728792003956564819968+bV (fE (fE (fE n)))/57896044618658097711785492504343953926634992332820282019728792003956564819968,by unfold Pq;omega⟩;have j:=o.2.2 f;have i:=o.2.1.1;generalize fE (fE (fE (fE n)))=w at L j i;obtain⟨q,B⟩:=L;have p:=B7 w j;rw[i,yf] at p;have g:bV n%Pq=bV w%Pq:=by rw[B,xY]
 rw[g];clear g B m G H o C f e;obtain⟨M,D,r⟩:=Hb w 19#64 ag (fun x E=>by have :=j x E;omega);have s:=B7 _ D;rw[Bc,i,yf] at s;rw[i,yf,show(19#64).toNat=19 from rfl] at M;have r:=r (fun e=>by rw[e] at i;simp at i);unfold uu;generalize (gQ 19#64 w).2=c at M r |-
 obtain⟨a,b,x,d,y,rfl⟩:=five w i;have F:=j a pA;rw[lF,vr];have t:(a+19#64*c).toNat=a.toNat+19*c.toNat:=by
  rw[jL,um,show(19#64).toNat=19 from rfl];omega
 have k:∀ z∈(a+19#64*c)::[b,x,d,y],z.toNat<9223372036854775808:=by
  intro z u;rcases gz.1 u with rfl|u
  .omega
  .have :=j z (mr _ u);omega
 obtain⟨K,N,O⟩:=Hb ((a+19#64*c)::[b,x,d,y]) 0#64 ag k;have l:=B7 _ N;rw[Bc] at l;rw[show((a+19#64*c)::[b,x,d,y]).length=5 from rfl,yf] at K l;rw[show(0#64).toNat=0 from rfl] at K;have v:bV ((a+19#64*c)::[b,x,d,y])=bV [a,b,x,d,y]+19*c.toNat:=by
  show(a+19#64*c).toNat+2251799813685248*bV [b,x,d,y]=a.toNat+2251799813685248*bV [b,x,d,y]+19*c.toNat;rw[t];omega
 refine⟨?_,by rw[Bc];rfl,N⟩;rw[v] at K;generalize bV [a,b,x,d,y]=V at*;generalize bV (gQ 0#64 ((a+19#64*c)::[b,x,d,y])).1=W at*;unfold Pq;by_cases A:V<57896044618658097711785492504343953926634992332820282019728792003956564819949
 .rw[lk A];omega
 .rw[Nat.mod_eq_sub_mod I,lk I];omega
theorem Qs (s t:Z):le (s++t)=le s+256^s.length*le t:=by
 induction s with
 |nil=>simp[le]
 |cons a s ih=>rw[kG,le,ih,le,dM,uP,qQ,uz];omega
theorem KE (p:Z)(k:Nat)(h:k<=p.length):le p=le (p.take k)+256^k*le (p.drop k):=by
 calc le p=le (p.take k++p.drop k):=by rw[yr]
  _=_:=by rw[Qs,cF,lH h]
theorem wD (x y:aS)(k:Nat)(b:k<64)(h:x.toNat<2^k):(x|||y<<<k).toNat=x.toNat+2^k*(y.toNat%2^(64-k)):=by
 have e:y.toNat*2^k%2^64=2^k*(y.toNat%2^(64-k)):=by
  rw[show(2:Nat)^64=2^k*2^(64-k) by rw[<-vP];congr 1;omega,og,Nat.mul_mod_mul_left]
 rw[EQ,Be,Ak,e,Nat.or_comm,<-KB h,CF]
theorem xh (x:aS)(k:Nat):(x>>>k).toNat=x.toNat/2^k:=by rw[uJ,tI]
def vw (a b c d:aS):List aS:=[(a&&&2251799813685247#64)+19#64*(d>>>63),(a>>>51|||b<<<13)&&&2251799813685247#64,(b>>>38|||c<<<26)&&&2251799813685247#64,(c>>>25|||d<<<39)&&&2251799813685247#64,d>>>12&&&2251799813685247#64]
theorem agR (a b c d:aS):(∃ q,a.toNat+18446744073709551616*b.toNat+340282366920938463463374607431768211456*c.toNat+6277101735386680763835789423207666416102355444464034512896*d.toNat=bV (vw a b c d)+Pq*q)/\(∀ x∈vw a b c d,x.toNat<9223372036854775808):=by
 have j:=a.isLt;have k:=b.isLt;have o:=c.isLt;have l:=d.isLt;have i:((a&&&2251799813685247#64)+19#64*(d>>>63)).toNat=a.toNat%2251799813685248+19*(d.toNat/9223372036854775808):=by
  have n:=wo a;have m:=xh d 63;rw[jL,um,n,m,show(19#64).toNat=19 from rfl];omega
 have e:((a>>>51|||b<<<13)&&&2251799813685247#64).toNat=(a.toNat/2251799813685248+8192*(b.toNat%2251799813685248))%2251799813685248:=by
  have m:=xh a 51;rw[wo,wD _ _ 13 ag (by rw[m];omega),m]
 have f:((b>>>38|||c<<<26)&&&2251799813685247#64).toNat=(b.toNat/274877906944+67108864*(c.toNat%274877906944))%2251799813685248:=by
  have m:=xh b 38;rw[wo,wD _ _ 26 ag (by rw[m];omega),m]
 have g:((c>>>25|||d<<<39)&&&2251799813685247#64).toNat=(c.toNat/33554432+549755813888*(d.toNat%33554432))%2251799813685248:=by
  have m:=xh c 25;rw[wo,wD _ _ 39 ag (by rw[m];omega),m]
 have h:(d>>>12&&&2251799813685247#64).toNat=d.toNat/4096%2251799813685248:=by
  rw[wo,xh d 12]
 have f1:(a.toNat/2251799813685248+8192*(b.toNat%2251799813685248))%2251799813685248=a.toNat/2251799813685248+8192*(b.toNat%274877906944):=I;have f2:(b.toNat/274877906944+67108864*(c.toNat%274877906944))%2251799813685248=b.toNat/274877906944+67108864*(c.toNat%33554432):=I;have f3:(c.toNat/33554432+549755813888*(d.toNat%33554432))%2251799813685248=c.toNat/33554432+549755813888*(d.toNat%4096):=I;have f4:d.toNat/4096%2251799813685248=d.toNat/4096-2251799813685248*(d.toNat/9223372036854775808):=I;have f5:2251799813685248*(d.toNat/9223372036854775808)<=d.toNat/4096:=I;rw[f1] at e;rw[f2] at f;rw[f3] at g;rw[f4] at h;unfold vw;refine⟨⟨d.toNat/9223372036854775808,?_⟩,?_⟩
 .simp only[bV];rw[i,e,f,g,h];unfold Pq;omega
 .simp only[vO,xA,Ep,ED,gG];rw[i,e,f,g,h];omega
def fP (s:Z)(i:Nat):aS:=BitVec.ofNat 64 (le ((s.drop (8*i)).take 8))
theorem Y5 (s:Z)(h:s.length=32):(fP s 0).toNat+18446744073709551616*(fP s 1).toNat+340282366920938463463374607431768211456*(fP s 2).toNat+6277101735386680763835789423207666416102355444464034512896*(fP s 3).toNat=le s:=by
 have b:∀ i,(fP s i).toNat=le ((s.drop (8*i)).take 8):=fun i=>by
  have :=BM ((s.drop (8*i)).take 8);have f:256^((s.drop (8*i)).take 8).length<=256^8:=Cq ag (by rw[cF];omega);unfold fP;rw[fL,lk (pI this f)]
 have c:(256:Nat)^8=18446744073709551616:=ag;have g:=KE s 8 I;have e:=KE (s.drop 8) 8 (by rw[dO];omega);have a:=KE (s.drop 16) 8 (by rw[dO];omega);rw[l9,show 8+8=16 from rfl] at e;rw[l9,show 16+8=24 from rfl] at a;have d:(s.drop 24).take 8=s.drop 24:=bq (by rw[dO];omega);rw[c] at g e a;rw[b 0,b 1,b 2,b 3,show 8*0=0 from rfl,show 8*1=8 from rfl,show 8*2=16 from rfl,show 8*3=24 from rfl,nW,d];omega
def vG (r:List aS):List aS:=[r.getD 0 0|||r.getD 1 0<<<51,r.getD 1 0>>>13|||r.getD 2 0<<<38,r.getD 2 0>>>26|||r.getD 3 0<<<25,r.getD 3 0>>>39|||r.getD 4 0<<<12]
theorem HB (n:Nat)(j:Nat):∀ k,bX n (k+j)=bX n k++bX (n/256^k) j:=by
 intro k;induction k generalizing n with
 |zero=>simp[bX]
 |succ k ih=>rw[show k+1+j=(k+j)+1 by omega,bX,ih,bX,kG,rJ,<-uP]
theorem adk (r:List aS)(h:r.length=5)(f:∀ x∈r,x.toNat<2251799813685248):
  bX ((vG r).getD 0 0).toNat 8++(bX ((vG r).getD 1 0).toNat 8++(bX ((vG r).getD 2 0).toNat 8++bX ((vG r).getD 3 0).toNat 8))=bX (bV r) 32:=by
 obtain⟨a,b,c,d,e,rfl⟩:=five r h;simp only[vO] at f;obtain⟨i,n,q,o,s,_⟩:=f;have j:(a|||b<<<51).toNat=a.toNat+2251799813685248*(b.toNat%8192):=wD a b 51 ag i;have k:(b>>>13|||c<<<38).toNat=b.toNat/8192+274877906944*(c.toNat%67108864):=by
  have p:=xh b 13;rw[wD _ _ 38 ag (by rw[p];omega),p]
 have l:(c>>>26|||d<<<25).toNat=c.toNat/67108864+33554432*(d.toNat%549755813888):=by
  have p:=xh c 26;rw[wD _ _ 25 ag (by rw[p];omega),p]
 have m:(d>>>39|||e<<<12).toNat=d.toNat/549755813888+4096*(e.toNat%4503599627370496):=by
  have p:=xh d 39;rw[wD _ _ 12 ag (by rw[p];omega),p]
 show bX (a|||b<<<51).toNat 8++(bX (b>>>13|||c<<<38).toNat 8++(bX (c>>>26|||d<<<25).toNat 8++bX (d>>>39|||e<<<12).toNat 8))=_;have g:(256:Nat)^8=18446744073709551616:=ag;rw[show(32:Nat)=8+(8+(8+8)) from rfl,HB,HB,HB,g,rJ,rJ,
  <-AR (bV [a,b,c,d,e]) 8,<-AR (bV [a,b,c,d,e]/18446744073709551616) 8,<-AR (bV [a,b,c,d,e]/(18446744073709551616*18446744073709551616)) 8,<-AR (bV [a,b,c,d,e]/(18446744073709551616*(18446744073709551616*18446744073709551616))) 8,g,j,k,l,m]
 simp only[bV];congr 1
 .congr 1;omega
 .congr 1
  .congr 1;omega
  .congr 1
   .congr 1;omega
   .congr 1;omega
theorem Qv:∀ (a b:List aS),a.length=b.length->(∀ x∈a,x.toNat<2251799813947392)->(∀ x∈b,x.toNat<2251799813947392)->bV (List.zipWith (· +·) a b)=bV a+bV b/\∀ x∈List.zipWith (· +·) a b,x.toNat<9223372036854775808
 |[],[],_,_,_=>⟨rfl,J⟩
 |[],y::b,h,_,_=>by simp at h
 |x::a,[],h,_,_=>by simp at h
 |x::a,y::b,h,d,f=>by
  obtain⟨g,i⟩:=Qv a b (by simpa using h) (fun z c=>d z (mr _ c)) (fun z c=>f z (mr _ c));have p:=d x pA;have q:=f y pA;have e:(x+y).toNat=x.toNat+y.toNat:=by rw[jL];omega
  rw[List.zipWith_cons_cons];refine⟨?_,?_⟩
  .show(x+y).toNat+2251799813685248*bV (List.zipWith (· +·) a b)=(x.toNat+2251799813685248*bV a)+(y.toNat+2251799813685248*bV b);rw[g,e];omega
  .intro z c;rcases gz.1 c with rfl|c
   .omega
   .exact i z c
def oP (a b:List aS):Nat->List aS
 |0=>a
 |i+1=>(oP a b i).set i ((oP a b i).getD i 0+b.getD i 0)
theorem DE (a b:List aS)(i:Nat):(oP a b i).length=a.length:=by
 induction i with
 |zero=>rfl
 |succ i ih=>rw[oP,b7,ih]
theorem acb (a b:List aS)(c:sm a)(d:sm b):bV (oP a b 5)=bV a+bV b/\∀ x∈oP a b 5,x.toNat<9223372036854775808:=by
 have e:oP a b 5=List.zipWith (· +·) a b:=by
  obtain⟨j,k,l,m,n,rfl⟩:=five a c.1;obtain⟨f,o,g,h,i,rfl⟩:=five b d.1;rfl
 rw[e];exact Qv a b (by rw[c.1,d.1]) c.2 d.2
def iD (a b:List aS):Nat->List aS
 |0=>a
 |i+1=>if i=0 then(iD a b i).set i ((iD a b i).getD i 0+(9007199254740988#64-b.getD i 0)-72#64) else(iD a b i).set i ((iD a b i).getD i 0+(9007199254740988#64-b.getD i 0))
theorem DC (a b:List aS)(i:Nat):(iD a b i).length=a.length:=by
 induction i with
 |zero=>rfl
 |succ i ih=>rw[iD];split <;>rw[b7,ih]
theorem ah2 (a b:List aS)(d:sm a)(f:sm b):bV (iD a b 5)+bV b=bV a+4*Pq/\∀ x∈iD a b 5,x.toNat<9223372036854775808:=by
 obtain⟨p,d⟩:=d;obtain⟨q,f⟩:=f;obtain⟨t,u,v,w,z,rfl⟩:=five a p;obtain⟨c,A,g,h,i,rfl⟩:=five b q;simp only[vO] at d f;obtain⟨r,j,C,D,l,_⟩:=d;obtain⟨s,E,m,n,o,_⟩:=f;have e:iD [t,u,v,w,z] [c,A,g,h,i] 5=[t+(9007199254740988#64-c)-72#64,u+(9007199254740988#64-A),v+(9007199254740988#64-g),w+(9007199254740988#64-h),z+(9007199254740988#64-i)]:=rfl;have k:∀ x y:aS,x.toNat<2251799813947392->y.toNat<2251799813947392->(x+(9007199254740988#64-y)).toNat=x.toNat+9007199254740988-y.toNat:=fun x y F G=>by
  rw[jL,CR,show(9007199254740988#64).toNat=9007199254740988 from rfl];omega
 have B:(t+(9007199254740988#64-c)-72#64).toNat=t.toNat+9007199254740988-c.toNat-72:=by
  rw[CR,k t c r s,show(72#64).toNat=72 from rfl];omega
 rw[e];refine⟨?_,?_⟩
 .simp only[bV];rw[B,k u A j E,k v g C m,k w h D n,k z i l o];unfold Pq;omega
 .simp only[vO,xA,Ep,ED,gG];rw[B,k u A j E,k v g C m,k w h D n,k z i l o];omega
def bQ:List Int->Int
 |[]=>0
 |x::l=>x+65536*bQ l
abbrev jB:Int:=115792089237316195423570985008687907853269984665640564039457584007913129639936
abbrev fQ:Int:=57896044618658097711785492504343953926634992332820282019728792003956564819949
theorem Er:(65536:Int)^16=jB:=ag
def iJ (c:Int):List Int->List Int×Int
 |[]=>([],c)
 |x::l=>(((x+c)%65536)::(iJ ((x+c)/65536) l).1,(iJ ((x+c)/65536) l).2)
theorem P5 (l:List Int):∀ c,(iJ c l).1.length=l.length:=by
 induction l with
 |nil=>intro c;rfl
 |cons x l ih=>intro c;rw[iJ,dM,dM,ih]
theorem TT (l:List Int)(x:Int):∀ c,iJ c (l++[x])=((iJ c l).1++[(x+(iJ c l).2)%65536],(x+(iJ c l).2)/65536):=by
 induction l with
 |nil=>intro c;rfl
 |cons y l ih=>intro c;rw[kG,iJ,ih,iJ];rfl
def rP (c:Int)(w:List Int):Nat->List Int×Int
 |0=>(w,c)
 |k+1=>((rP c w k).1.set k (((rP c w k).1.getD k 0+(rP c w k).2)%65536),((rP c w k).1.getD k 0+(rP c w k).2)/65536)
theorem ajy (c:Int)(w:List Int)(k:Nat):(rP c w k).1.length=w.length:=by
 induction k with
 |zero=>rfl
 |succ k ih=>rw[rP,b7,ih]
theorem afd (c:Int)(w:List Int)(k:Nat)(d:k<=w.length):rP c w k=((iJ c (w.take k)).1++w.drop k,(iJ c (w.take k)).2):=by
 induction k with
 |zero=>rfl
 |succ k ih=>
  have a:k<w.length:=I;have b:(iJ c (w.take k)).1.length=k:=by rw[P5,cF];omega
  have e:((iJ c (w.take k)).1++w.drop k).getD k 0=w.getD k 0:=by
   rw[bY,iy I,b,k8,mA,nJ,<-bY]
  have f:w.take (k+1)=w.take k++[w.getD k 0]:=by
   rw[uV a,bY,bn a];rfl
  rw[rP,ih I];simp only;rw[e,f,TT,uD _ _ I,b,k8,wA a,lF];simp
theorem afY (l:List Int):∀ c:Int,bQ (iJ c l).1+65536^l.length*(iJ c l).2=bQ l+c/\(∀ x∈(iJ c l).1,0<=x/\x<65536):=by
 induction l with
 |nil=>intro c;exact⟨by simp[iJ,bQ],by simp[iJ]⟩
 |cons x l ih=>
  intro c;obtain⟨d,b⟩:=ih ((x+c)/65536);refine⟨?_,?_⟩
  .rw[iJ];show((x+c)%65536)+65536*bQ (iJ ((x+c)/65536) l).1+65536^(l.length+1)*(iJ ((x+c)/65536) l).2=x+65536*bQ l+c;rw[sR,yg (65536^l.length) 65536,AE];omega
  .rw[iJ];intro y a;rcases gz.1 a with rfl|a
   .omega
   .exact b y a
theorem aiV (l:List Int)(N:Int)(d:1<=N):∀ c:Int,-N<=c/\c<=N->(∀ x∈l,-N<=x/\x<=N)->-N<=(iJ c l).2/\(iJ c l).2<=N:=by
 induction l with
 |nil=>intro c e _;exact e
 |cons x l ih=>
  intro c e a;have f:=a x pA;rw[iJ];exact ih _ I (fun y b=>a y (mr _ b))
def dw (l:List Int):Prop:=l.length=16/\∀ x∈l,0<=x/\x<65536
theorem Jb:∀ (l:List Int),(∀ x∈l,0<=x/\x<65536)->0<=bQ l/\bQ l<65536^l.length
 |[],_=>⟨ag,ag⟩
 |x::l,h=>by
  have b:=h x pA;have ih:=Jb l fun y a=>h y (mr _ a)
  rw[dM,sR];show 0<=x+65536*bQ l/\x+65536*bQ l<_;omega
theorem Pc (l:List Int)(h:dw l):0<=bQ l/\bQ l<jB:=by
 have :=Jb l h.2
 rwa [h.1,Er] at this
def nD (w:List Int):List Int:=(rP 0 w 16).1.set 0 ((rP 0 w 16).1.getD 0 0+38*(rP 0 w 16).2)
theorem aab (w:List Int):(nD w).length=w.length:=by unfold nD;rw[b7,ajy]
def xn (w:List Int):Nat->List Int
 |0=>w
 |i+1=>nD (xn w i)
def zp (w:List Int):Prop:=w.length=16/\∀ x∈w,-1125899906842624<=x/\x<=1125899906842624
theorem Kc (w:List Int)(l:zp w):bQ (nD w)=bQ w%jB+38*(bQ w/jB)/\(0<=bQ w->bQ w<jB->dw (nD w))/\(∀ x∈nD w,-50000000000000000<=x/\x<=50000000000000000)/\(-2*jB<=bQ w->bQ w<=1000000000000*jB->zp (nD w)):=by
 obtain⟨l,f⟩:=l;have e:=afd 0 w 16 I;rw[bq I,lP I,jn] at e;obtain⟨k,j⟩:=afY w 0;have m:=aiV w 1125899906842624 ag 0 ag f;have d:=P5 w 0;have i:=aab w;rw[l] at k d i;have b:=Jb _ j;rw[d] at b;rw[Er] at b k;unfold dw zp;rw[i];unfold nD;rw[e];simp only;generalize (iJ 0 w).1=r at k j d b |-
 generalize (iJ 0 w).2=c at k m |-
 cases r with
 |nil=>simp at d
 |cons y r=>
  have h:=j y pA;rw[lF,vr];have g:bQ ((y+38*c)::r)=bQ (y::r)+38*c:=by
   show y+38*c+65536*bQ r=y+65536*bQ r+38*c;omega
  unfold jB at*;refine⟨by rw[g];omega,fun n o=>⟨trivial,?_⟩,?_,fun n o=>⟨trivial,?_⟩⟩
  .intro x a;rcases gz.1 a with rfl|a
   .omega
   .exact j x (mr _ a)
  .intro x a;rcases gz.1 a with rfl|a
   .omega
   .have :=j x (mr _ a);omega
  .intro x a;rcases gz.1 a with rfl|a
   .omega
   .have :=j x (mr _ a);omega
theorem Sq (w:List Int)(f:zp w)(h1:-jB<bQ w)(h2:bQ w<=1000000000000*jB):dw (xn w 3)/\bQ (xn w 3)%fQ=bQ w%fQ:=by
 have c:=Kc w f;have f1:=c.2.2.2 (by unfold jB at*;omega) h2;have g:=Kc _ f1;have f2:=g.2.2.2 (by unfold jB at*;omega) (by unfold jB at*;omega);have h:=Kc _ f2;have e:xn w 3=nD (nD (nD w)):=rfl;rw[e];refine⟨h.2.1 (by unfold jB at*;omega) (by unfold jB at*;omega),?_⟩;have d:bQ w=bQ (nD (nD (nD w)))+fQ*(2*(bQ w/jB+bQ (nD w)/jB+bQ (nD (nD w))/jB)):=by
  unfold jB fQ at*;omega
 rw[d,JQ]
theorem Ks (l:List Int)(i:Nat)(y:Int)(h:i<l.length):bQ (l.set i y)=bQ l+65536^i*(y-l.getD i 0):=by
 induction l generalizing i with
 |nil=>simp at h
 |cons x l ih=>
  cases i with
  |zero=>simp only[lF,bQ,vr,BP,Int.one_mul];omega
  |succ i=>
   have :=ih i (by simpa using h);simp only[xo,bQ,vi];rw[this,sR,yg (65536^i) 65536,AE];omega
theorem Cr (l:List Int)(k:Nat)(h:k<l.length):bQ (l.take (k+1))=bQ (l.take k)+65536^k*l.getD k 0:=by
 induction l generalizing k with
 |nil=>simp at h
 |cons x l ih=>
  cases k with
  |zero=>simp[bQ]
  |succ k=>
   have :=ih k (by simpa using h);rw[eU,eU,vi];show x+65536*bQ (l.take (k+1))=x+65536*bQ (l.take k)+_;rw[this,sR,yg (65536^k) 65536,AE];omega
theorem TY (l:List Int):∀ k,k<=l.length->bQ l=bQ (l.take k)+65536^k*bQ (l.drop k):=by
 induction l with
 |nil=>intro k a;simp at a;subst a;simp[bQ]
 |cons x l ih=>
  intro k a;cases k with
  |zero=>simp[bQ]
  |succ k=>
   rw[eU,nj];show x+65536*bQ l=x+65536*bQ (l.take k)+_;rw[ih k (by simpa using a),sR,yg (65536^k) 65536,AE];omega
def qd (a b:List Int)(t:Int):Nat->List Int
 |0=>a
 |i+1=>(qd a b t i).set i ((qd a b t i).getD i 0+t*b.getD i 0)
theorem PV (a b:List Int)(t:Int)(i:Nat):(qd a b t i).length=a.length:=by
 induction i with
 |zero=>rfl
 |succ i ih=>rw[qd,b7,ih]
theorem xW {l:List Int}{i:Nat}(h:i<l.length):l.getD i 0∈l:=by
 rw[bY,bn h];exact eM h
theorem V4 {l:List Int}{i:Nat}{N y:Int}(h:∀ x∈l,-N<=x/\x<=N)(a:-N<=y/\y<=N):∀ x∈l.set i y,-N<=x/\x<=N:=by
 intro x b;rcases Fz b with h1|h1
 .exact h x h1
 .rw[h1];exact a
theorem agd (a b:List Int)(t:Int):∀ i,(qd a b t i).drop i=a.drop i:=by
 intro i;induction i with
 |zero=>rfl
 |succ i ih=>
  rw[qd,List.drop_set_of_lt I,<-l9,ih,l9]
theorem Gg (l:List Int)(i:Nat):l.getD i 0=(l.drop i).getD 0 0:=by
 rw[bY,bY,mA,nJ]
theorem YK (a b:List Int)(t:Int)(i:Nat):(qd a b t i).getD i 0=a.getD i 0:=by
 rw[Gg,agd,<-Gg]
theorem afJ {t y:Int}(ht:-200000<=t/\t<=200000)(a:0<=y/\y<65536):-13200000000<=t*y/\t*y<=13200000000:=by
 have b:t*y<=200000*y:=Cz ht.2 a.1;have c:-200000*y<=t*y:=Cz ht.1 a.1;omega
theorem UA (a b:List Int)(t:Int)(c:dw a)(d:dw b)(ht:-200000<=t/\t<=200000):bQ (qd a b t 16)=bQ a+t*bQ b/\zp (qd a b t 16):=by
 have m:∀ i,i<=16->bQ (qd a b t i)=bQ a+t*bQ (b.take i)/\∀ x∈qd a b t i,-13200065536<=x/\x<=13200065536:=by
  intro i;induction i with
  |zero=>intro _;exact⟨by simp[qd,bQ],fun x e=>by have :=c.2 x e;omega⟩
  |succ i ih=>
   intro o;obtain⟨k,n⟩:=ih I;have f:=PV a b t i;rw[c.1] at f;have h:=c.2 _ (xW (l:=a) (i:=i) (by rw[c.1];omega));have g:=d.2 _ (xW (l:=b) (i:=i) (by rw[d.1];omega));have j:=afJ ht g;rw[qd,Cr b i (by rw[d.1];omega),Ks _ _ _ I,k,YK];refine⟨?_,V4 n I⟩;have :a.getD i 0+t*b.getD i 0-a.getD i 0=t*b.getD i 0:=I;rw[this,Int.mul_add,Int.mul_left_comm t];omega
 obtain⟨k,n⟩:=m 16 I;rw[bq (by rw[d.1];omega)] at k;exact⟨k,by rw[PV,c.1],fun x e=>by have :=n x e;omega⟩
def JF (a b w:List Int)(i k:Nat):List Int:=w.set (i+k) (w.getD (i+k) 0+a.getD i 0*b.getD k 0)
def ta (a b w:List Int)(i:Nat):Nat->List Int
 |0=>w
 |k+1=>JF a b (ta a b w i k) i k
def mE (a b:List Int):Nat->List Int
 |0=>List.replicate 32 0
 |i+1=>ta a b (mE a b i) i 16
theorem Sa (a b w:List Int)(i k:Nat):(ta a b w i k).length=w.length:=by
 induction k with
 |zero=>rfl
 |succ k ih=>rw[ta];unfold JF;rw[b7,ih]
theorem KP (a b:List Int)(i:Nat):(mE a b i).length=32:=by
 induction i with
 |zero=>rfl
 |succ i ih=>rw[mE,Sa,ih]
theorem aaG {x y:Int}(b:0<=x/\x<65536)(a:0<=y/\y<65536):0<=x*y/\x*y<=4294836225:=by
 have c:x*y<=65535*y:=Cz I a.1;have d:0<=x*y:=Int.mul_nonneg b.1 a.1;omega
theorem PL {l:List Int}{i:Nat}{N y:Int}(h:∀ x∈l,0<=x/\x<=N)(a:0<=y/\y<=N):∀ x∈l.set i y,0<=x/\x<=N:=by
 intro x b;rcases Fz b with h1|h1
 .exact h x h1
 .rw[h1];exact a
theorem ajl (a b w:List Int)(i:Nat)(N:Int)(e:dw a)(d:dw b)(n:w.length=32)(f:∀ x∈w,0<=x/\x<=N)(hi:i<16):∀ k,k<=16->
  bQ (ta a b w i k)=bQ w+65536^i*a.getD i 0*bQ (b.take k)/\∀ x∈ta a b w i k,0<=x/\x<=N+4294836225*k:=by
 intro k;induction k with
 |zero=>intro _;exact⟨by simp[bQ,ta],fun x c=>by have :=f x c;omega⟩
 |succ k ih=>
  intro j;obtain⟨p,m⟩:=ih I;have g:=Sa a b w i k;rw[n] at g;have o:=e.2 _ (xW (l:=a) (i:=i) (by rw[e.1];exact hi));have h:=d.2 _ (xW (l:=b) (i:=k) (by rw[d.1];omega));have q:=aaG o h;have r:=m _ (xW (l:=ta a b w i k) (i:=i+k) I);rw[ta];unfold JF;rw[Ks _ _ _ I,p,Cr b k (by rw[d.1];omega),Int.pow_add];refine⟨?_,fun x c=>?_⟩
  .have :(ta a b w i k).getD (i+k) 0+a.getD i 0*b.getD k 0-(ta a b w i k).getD (i+k) 0=a.getD i 0*b.getD k 0:=I;rw[this];grind
  .have :=PL (N:=N+4294836225*k+4294836225) (fun x c=>by have :=m x c;omega) I x c;omega
theorem Wt (a b:List Int)(c:dw a)(e:dw b):bQ (mE a b 16)=bQ a*bQ b/\∀ x∈mE a b 16,0<=x/\x<=1099478073600:=by
 have j:∀ i,i<=16->bQ (mE a b i)=bQ (a.take i)*bQ b/\∀ x∈mE a b i,0<=x/\x<=68717379600*i:=by
  intro i;induction i with
  |zero=>intro _;exact⟨by simp[bQ,mE],by simp[mE]⟩
  |succ i ih=>
   intro l;obtain⟨h,k⟩:=ih I;obtain⟨f,g⟩:=ajl a b (mE a b i) i (68717379600*i) c e (KP a b i) k I 16 I;rw[bq (by rw[e.1];omega)] at f;rw[mE,f,h,Cr a i (by rw[c.1];omega)];exact⟨by grind,fun x d=>by have :=g x d;omega⟩
 obtain⟨h,k⟩:=j 16 I;rw[bq (by rw[c.1];omega)] at h;exact⟨h,fun x d=>by have :=k x d;omega⟩
def np (w:List Int):Nat->List Int
 |0=>List.replicate 16 0
 |i+1=>(np w i).set i (w.getD i 0+38*w.getD (i+16) 0)
theorem JA (w:List Int)(i:Nat):(np w i).length=16:=by
 induction i with
 |zero=>rfl
 |succ i ih=>rw[np,b7,ih]
theorem ajS (w:List Int):∀ i,i<=16->(np w i).drop i=List.replicate (16-i) 0:=by
 intro i;induction i with
 |zero=>intro _;rfl
 |succ i ih=>
  intro a;rw[np,List.drop_set_of_lt I,<-l9,ih I,List.drop_replicate];congr 1
theorem aih (w:List Int)(o:w.length=32)(a:∀ x∈w,0<=x/\x<=1099478073600):bQ (np w 16)=bQ (w.take 16)+38*bQ (w.drop 16)/\zp (np w 16)/\0<=bQ (np w 16)/\bQ (np w 16)<=1000000000000*jB:=by
 have g:(w.drop 16).length=16:=by rw[dO];omega
 have n:∀ i,i<=16->bQ (np w i)=bQ (w.take i)+38*bQ ((w.drop 16).take i)/\∀ x∈np w i,0<=x/\x<=42879644870400:=by
  intro i;induction i with
  |zero=>intro _;exact⟨by simp[bQ,np],by simp[np]⟩
  |succ i ih=>
   intro s;obtain⟨k,m⟩:=ih I;have j:=JA w i;have p:=a _ (xW (l:=w) (i:=i) I);have q:=a _ (xW (l:=w) (i:=i+16) I);have c:(np w i).getD i 0=0:=by
    rw[Gg,ajS w i I,show 16-i=(15-i)+1 by omega,vZ,vr]
   have b:(w.drop 16).getD i 0=w.getD (i+16) 0:=by
    rw[bY,bY,mA,CF]
   rw[np,Ks _ _ _ I,k,Cr w i I,Cr (w.drop 16) i I,c,b];refine⟨by grind,PL m I⟩
 obtain⟨k,m⟩:=n 16 I;rw[bq (by omega :(w.drop 16).length<=16)] at k;refine⟨k,⟨JA w 16,fun x a=>by have :=m x a;omega⟩,?_⟩;have d:∀ (l:List Int),(∀ x∈l,0<=x/\x<=42879644870400)->0<=bQ l/\65535*bQ l<=42879644870400*(65536^l.length-1):=by
  intro l;induction l with
  |nil=>intro _;exact⟨ag,ag⟩
  |cons x l ih=>
   intro h;have r:=h x pA;have k:=ih (fun y e=>h y (mr _ e));rw[dM,sR];show 0<=x+65536*bQ l/\65535*(x+65536*bQ l)<=_;omega
 have f:=d _ m;rw[JA,Er] at f;unfold jB at*;omega
def jb (a b:List Int):List Int:=xn (np (mE a b 16) 16) 3
theorem uc (a b:List Int)(d:dw a)(e:dw b):dw (jb a b)/\bQ (jb a b)%fQ=(bQ a*bQ b)%fQ:=by
 obtain⟨j,f⟩:=Wt a b d e;obtain⟨k,l,i,g⟩:=aih _ (KP a b 16) f;obtain⟨m,h⟩:=Sq _ l (by unfold jB;omega) g;refine⟨m,?_⟩;show bQ (xn (np (mE a b 16) 16) 3)%fQ=_;have c:=TY (mE a b 16) 16 (by rw[KP];omega);rw[Er] at c;rw[h,k,<-j,c];have :bQ ((mE a b 16).take 16)+jB*bQ ((mE a b 16).drop 16)=bQ ((mE a b 16).take 16)+38*bQ ((mE a b 16).drop 16)+fQ*(2*bQ ((mE a b 16).drop 16)):=by
  unfold jB fQ;omega
 rw[this,JQ]
def nI (a b:List Int)(t:Int):List Int:=xn (qd a b t 16) 3
theorem uY (a b:List Int)(t:Int)(c:dw a)(d:dw b)(ht:-1<=t/\t<=200000):dw (nI a b t)/\bQ (nI a b t)%fQ=(bQ a+t*bQ b)%fQ:=by
 obtain⟨h,i⟩:=UA a b t c d I;have g:=Pc a c;have e:=Pc b d;have k:t*bQ b<=200000*bQ b:=Cz ht.2 e.1;have l:-1*bQ b<=t*bQ b:=Cz ht.1 e.1;obtain⟨j,f⟩:=Sq _ i (by rw[h];unfold jB at*;omega) (by rw[h];unfold jB at*;omega);exact⟨j,by rw[<-h,<-f];rfl⟩
def lJ (s:Z):Nat->List Int
 |0=>[]
 |i+1=>lJ s i++[((s.getD (2*i) 0).toNat:Int)+256*((s.getD (2*i+1) 0).toNat:Int)]
theorem Nx (s:Z)(i:Nat):(lJ s i).length=i:=by
 induction i with
 |zero=>rfl
 |succ i ih=>rw[lJ,bA,ih];rfl
theorem ai6 (l:List Int)(x:Int):bQ (l++[x])=bQ l+65536^l.length*x:=by
 induction l with
 |nil=>simp[bQ]
 |cons y l ih=>
  show y+65536*bQ (l++[x])=y+65536*bQ l+_;rw[ih,dM,sR,yg (65536^l.length) 65536,AE];omega
theorem PH (s:Z)(b:BitVec 8):le (s++[b])=le s+256^s.length*b.toNat:=by
 rw[Qs];simp[le]
theorem Pg (s:Z)(h:s.length=32):dw (lJ s 16)/\bQ (lJ s 16)=(le s:Int):=by
 have key:∀ i,i<=16->bQ (lJ s i)=(le (s.take (2*i)):Int)/\∀ x∈lJ s i,0<=x/\x<65536:=by
  intro i;induction i with
  |zero=>intro _;exact⟨by simp[lJ,bQ,le],by simp[lJ]⟩
  |succ i ih=>
   intro hi;obtain⟨h1,h2⟩:=ih I;have b1:=(s.getD (2*i) 0).isLt;have d:=(s.getD (2*i+1) 0).isLt;refine⟨?_,?_⟩
   ·rw[lJ,ai6,h1,Nx,show 2*(i+1)=2*i+1+1 by omega,zn (by omega :2*i+1<s.length),zn (by omega :2*i<s.length),PH,PH,bA,cF,lH (by omega :2*i<=s.length)];have e:(256:Nat)^(2*i)=65536^i:=by rw[Nat.pow_mul]
    have b:(256:Nat)^(2*i+1)=65536^i*256:=by rw[nA,e]
    show _+_=((le (s.take (2*i))+256^(2*i)*(s.getD (2*i) 0).toNat+256^(2*i+1)*(s.getD (2*i+1) 0).toNat:Nat):Int);rw[e,b];have c:((65536^i:Nat):Int)=(65536:Int)^i:=by rw[Int.natCast_pow];rfl
    simp only[yY,zL,c];rw[show((256:Nat):Int)=256 from rfl,Int.mul_add,AE];omega
   ·rw[lJ];intro x a;rcases gZ.1 a with a|a
    ·exact h2 x a
    ·rw[oQ.1 a];omega
 obtain⟨h1,h2⟩:=key 16 I;rw[bq I] at h1;exact⟨⟨Nx s 16,h2⟩,h1⟩
abbrev Wd:=aS×aS
def j5 (w:Wd):Nat:=18446744073709551616*w.1.toNat+w.2.toNat
def re (w:Wd)(x y:aS):Wd:=(w.1+gf x y+dG w.2 (x*y) 0#64,w.2+x*y+0#64)
theorem Z6 (x y:aS):(x*y).toNat+18446744073709551616*(gf x y).toNat=x.toNat*y.toNat:=by
 have b:=x.isLt;have c:=y.isLt;have a:x.toNat*y.toNat<18446744073709551616*18446744073709551616:=Hy I I;have d:(gf x y).toNat=x.toNat*y.toNat/18446744073709551616:=by
  unfold gf;rw[fL];exact lk (Dg I)
 rw[um,d];generalize x.toNat*y.toNat=p;omega
theorem LK (x y:aS):(x+y+0#64).toNat+18446744073709551616*(dG x y 0#64).toNat=x.toNat+y.toNat:=by
 have :=x.isLt;have :=y.isLt;unfold dG;have z:(0#64).toNat=0:=rfl;rw[jL,jL,z,fL];omega
theorem MS (w:Wd)(x y:aS)(h:j5 w+x.toNat*y.toNat<340282366920938463463374607431768211456):j5 (re w x y)=j5 w+x.toNat*y.toNat:=by
 have p:=Z6 x y;have q:=LK w.2 (x*y);unfold j5 at*;unfold re;simp only;have e:(w.1+gf x y+dG w.2 (x*y) 0#64).toNat=w.1.toNat+(gf x y).toNat+(dG w.2 (x*y) 0#64).toNat:=by
  rw[jL,jL];omega
 omega
def oo:List Wd->Nat
 |[]=>0
 |x::l=>j5 x+2251799813685248*oo l
def wz:Wd:=(0#64,0#64)
theorem LO (l:List Wd)(i:Nat)(y:Wd)(h:i<l.length):oo (l.set i y)+2251799813685248^i*j5 (l.getD i wz)=oo l+2251799813685248^i*j5 y:=by
 induction l generalizing i with
 |nil=>simp at h
 |cons x l ih=>
  cases i with
  |zero=>simp only[lF,oo,vr,Ea,Nat.one_mul];omega
  |succ i=>
   have :=ih i (by simpa using h);simp only[xo,oo,vi];rw[nA,og (2251799813685248^i) 2251799813685248,uz,uz];omega
theorem N9 (l:List aS)(k:Nat)(h:k<l.length):bV (l.take (k+1))=bV (l.take k)+2251799813685248^k*(l.getD k 0).toNat:=by
 induction l generalizing k with
 |nil=>simp at h
 |cons x l ih=>
  cases k with
  |zero=>simp[bV]
  |succ k=>
   have :=ih k (by simpa using h);rw[eU,eU,vi];show x.toNat+2251799813685248*bV (l.take (k+1))=x.toNat+2251799813685248*bV (l.take k)+_;rw[this,nA,og (2251799813685248^k) 2251799813685248,uz];omega
def yq (a b:List aS)(w:List Wd)(i k:Nat):List Wd:=if i+k<5 then w.set (i+k) (re (w.getD (i+k) wz) (a.getD i 0) (b.getD k 0)) else w.set (i+k-5) (re (w.getD (i+k-5) wz) (a.getD i 0) (19#64*b.getD k 0))
def gM (a b:List aS)(w:List Wd)(i:Nat):Nat->List Wd
 |0=>w
 |k+1=>yq a b (gM a b w i k) i k
def jt (a b:List aS):Nat->List Wd
 |0=>List.replicate 5 wz
 |i+1=>gM a b (jt a b i) i 5
theorem Hw (a b:List aS)(w:List Wd)(i k:Nat):(gM a b w i k).length=w.length:=by
 induction k with
 |zero=>rfl
 |succ k ih=>rw[gM];unfold yq;split <;>rw[b7,ih]
theorem AS (a b:List aS)(i:Nat):(jt a b i).length=5:=by
 induction i with
 |zero=>rfl
 |succ i ih=>rw[jt,Hw,ih]
theorem OW {l:List aS}{i:Nat}(h:i<l.length):l.getD i 0∈l:=by
 rw[bY,bn h];exact eM h
theorem O0 {l:List Wd}{i:Nat}(h:i<l.length):l.getD i wz∈l:=by
 rw[bY,bn h];exact eM h
theorem OE {l:List Wd}{i N:Nat}{y:Wd}(h:∀ x∈l,j5 x<=N)(a:j5 y<=N):∀ x∈l.set i y,j5 x<=N:=by
 intro x b;rcases Fz b with h1|h1
 .exact h x h1
 .rw[h1];exact a
theorem US (x y:aS)(a:x.toNat<2251799813947392)(b:y.toNat<2251799813947392):(19#64*y).toNat=19*y.toNat/\x.toNat*y.toNat<=5070602410000000000000000000000:=by
 have h:x.toNat*y.toNat<=2251799813947391*2251799813947391:=uK I I;refine⟨?_,I⟩;rw[um,show(19#64).toNat=19 from rfl];omega
theorem ac4 (a b:List aS)(w:List Wd)(i k N:Nat)(m:sm a)(n:sm b)(y:w.length=5)(d:∀ x∈w,j5 x<=N)(o:N<20769187434139310514121985316880384)(hi:i<5)(p:k<5):
  (∃ q,oo w+2251799813685248^(i+k)*((a.getD i 0).toNat*(b.getD k 0).toNat)=oo (yq a b w i k)+Pq*q)/\∀ x∈yq a b w i k,j5 x<=N+96341445790000000000000000000000:=by
 have u:=m.2 _ (OW (l:=a) (i:=i) (by rw[m.1];exact hi));have r:=n.2 _ (OW (l:=b) (i:=k) (by rw[n.1];exact p));obtain⟨t,s⟩:=US _ _ u r;unfold yq;split
 .rename_i h;have v:=d _ (O0 (l:=w) (i:=i+k) I);have f:=LO w (i+k) (re (w.getD (i+k) wz) (a.getD i 0) (b.getD k 0)) I;have g:=MS (w.getD (i+k) wz) (a.getD i 0) (b.getD k 0) I;refine⟨⟨0,?_⟩,OE (fun x j=>by have :=d x j;omega) I⟩;rw[g,qQ] at f;omega
 .rename_i h;have v:=d _ (O0 (l:=w) (i:=i+k-5) I);have f:=LO w (i+k-5) (re (w.getD (i+k-5) wz) (a.getD i 0) (19#64*b.getD k 0)) I;have c:(a.getD i 0).toNat*(19*(b.getD k 0).toNat)=19*((a.getD i 0).toNat*(b.getD k 0).toNat):=KR _ _ _;have g:=MS (w.getD (i+k-5) wz) (a.getD i 0) (19#64*b.getD k 0) (by rw[t,c];omega);rw[t,c] at g;refine⟨⟨2251799813685248^(i+k-5)*((a.getD i 0).toNat*(b.getD k 0).toNat),?_⟩,OE (fun x j=>by have :=d x j;omega) I⟩;rw[g,qQ] at f;have e:(2251799813685248:Nat)^(i+k)=57896044618658097711785492504343953926634992332820282019728792003956564819968*2251799813685248^(i+k-5):=by
   rw[<-yf,<-vP];congr 1;omega
  rw[e,uz];rw[KR (2251799813685248^(i+k-5)) 19] at f;generalize 2251799813685248^(i+k-5)*((a.getD i 0).toNat*(b.getD k 0).toNat)=z at*;unfold Pq;omega
theorem aer (a b:List aS)(w:List Wd)(i N:Nat)(g:sm a)(f:sm b)(p:w.length=5)(h:∀ x∈w,j5 x<=N)(j:N<10384593717069655257060992658440192)(hi:i<5):∀ k,k<=5->
  (∃ q,oo w+2251799813685248^i*(a.getD i 0).toNat*bV (b.take k)=oo (gM a b w i k)+Pq*q)/\∀ x∈gM a b w i k,j5 x<=N+96341445790000000000000000000000*k:=by
 intro k;induction k with
 |zero=>intro _;exact⟨⟨0,by simp[bV,gM]⟩,by simpa [gM] using h⟩
 |succ k ih=>
  intro n;obtain⟨⟨q,o⟩,c⟩:=ih I;obtain⟨⟨l,d⟩,e⟩:=ac4 a b (gM a b w i k) i k (N+96341445790000000000000000000000*k) g f (by rw[Hw,p]) c I hi I;rw[gM];refine⟨⟨q+l,?_⟩,fun x m=>j7 (e x m) (by rw[Nat.mul_succ];omega)⟩;rw[N9 b k (by rw[f.1];omega)];rw[vP] at d;generalize Pq=r at*
  grind
theorem aa3 (a b:List aS)(c:sm a)(f:sm b):(∃ q,bV a*bV b=oo (jt a b 5)+Pq*q)/\∀ x∈jt a b 5,j5 x<=2408536144750000000000000000000000:=by
 have k:∀ i,i<=5->(∃ q,bV (a.take i)*bV b=oo (jt a b i)+Pq*q)/\∀ x∈jt a b i,j5 x<=481707228950000000000000000000000*i:=by
  intro i;induction i with
  |zero=>intro _;exact⟨⟨0,by simp[bV,jt,oo,j5,wz]⟩,by simp[jt,j5,wz]⟩
  |succ i ih=>
   intro o;obtain⟨⟨q,j⟩,l⟩:=ih I;obtain⟨⟨g,d⟩,h⟩:=aer a b (jt a b i) i (481707228950000000000000000000000*i) c f (AS a b i) l I I 5 I;rw[bq (by rw[f.1];omega)] at d;rw[jt];refine⟨⟨q+g,?_⟩,fun x e=>j7 (h x e) (by rw[Nat.mul_succ];omega)⟩;rw[N9 a i (by rw[c.1];omega)];generalize Pq=n at*
   grind
 obtain⟨m,l⟩:=k 5 I;rw[bq (by rw[c.1];omega)] at m;exact⟨m,fun x e=>by have :=l x e;omega⟩
def uW (c:aS)(x:Wd):aS:=(x.1+dG x.2 c 0#64)<<<13|||(x.2+c+0#64)>>>51
def dW (c:aS):List Wd->List aS×aS
 |[]=>([],c)
 |x::l=>(((x.2+c+0#64)&&&2251799813685247#64)::(dW (uW c x) l).1,(dW (uW c x) l).2)
theorem Bv (l:List Wd):∀ c,(dW c l).1.length=l.length:=by
 induction l with
 |nil=>intro c;rfl
 |cons x l ih=>intro c;rw[dW,dM,dM,ih]
theorem aie (l:List Wd)(x:Wd):∀ c,dW c (l++[x])=((dW c l).1++[(x.2+(dW c l).2+0#64)&&&2251799813685247#64],uW (dW c l).2 x):=by
 induction l with
 |nil=>intro c;rfl
 |cons y l ih=>intro c;rw[kG,dW,ih,dW];rfl
theorem ZP (c:aS)(x:Wd)(h:j5 x<=2408536144750000000000000000000000):((x.2+c+0#64)&&&2251799813685247#64).toNat=(j5 x+c.toNat)%2251799813685248/\(uW c x).toNat=(j5 x+c.toNat)/2251799813685248:=by
 have q:=LK x.2 c;have b:=c.isLt;have d:=x.2.isLt;unfold j5 at*;have a:=(x.2+c+0#64).isLt;have e:(x.1+dG x.2 c 0#64).toNat=x.1.toNat+(dG x.2 c 0#64).toNat:=by rw[jL];omega
 have s:=Hk (x.2+c+0#64);refine⟨by rw[wo];omega,?_⟩;unfold uW;rw[BitVec.or_comm,wD _ _ 13 ag (by rw[s];omega),s,e];omega
theorem Zj (l:List Wd):∀ c:aS,(∀ x∈l,j5 x<=2408536144750000000000000000000000)->bV (dW c l).1+2251799813685248^l.length*(dW c l).2.toNat=oo l+c.toNat/\(∀ x∈(dW c l).1,x.toNat<2251799813685248):=by
 induction l with
 |nil=>intro c _;exact⟨by simp[dW,bV,oo],by simp[dW]⟩
 |cons x l ih=>
  intro c b;obtain⟨d,e⟩:=ZP c x (b x pA);obtain⟨f,g⟩:=ih (uW c x) (fun y a=>b y (mr _ a));rw[e] at f;refine⟨?_,?_⟩
  .rw[dW];show((x.2+c+0#64)&&&2251799813685247#64).toNat+2251799813685248*bV (dW (uW c x) l).1+2251799813685248^(l.length+1)*(dW (uW c x) l).2.toNat=j5 x+2251799813685248*oo l+c.toNat;rw[d,nA,og (2251799813685248^l.length) 2251799813685248,uz];omega
  .rw[dW];intro y a;rcases gz.1 a with rfl|a
   .rw[d];omega
   .exact g y a
def ui (r:List aS)(c:aS):List aS:=(r.set 0 (r.getD 0 0+19#64*(c&&&2251799813685247#64))).set 1 ((r.set 0 (r.getD 0 0+19#64*(c&&&2251799813685247#64))).getD 1 0+19#64*(c>>>51))
def du (a b:List aS):List aS:=fZ (ui (dW 0#64 (jt a b 5)).1 (dW 0#64 (jt a b 5)).2) 2
theorem kK (a b:List aS)(j:sm a)(k:sm b):sm (du a b)/\bV (du a b)%Pq=(bV a*bV b)%Pq:=by
 obtain⟨⟨q,l⟩,g⟩:=aa3 a b j k;obtain⟨h,i⟩:=Zj (jt a b 5) 0#64 g;have x:=Bv (jt a b 5) 0#64;rw[AS] at x h;rw[yf,show(0#64).toNat=0 from rfl] at h;unfold du;rw[l,xY];generalize (dW 0#64 (jt a b 5)).1=r at*;generalize (dW 0#64 (jt a b 5)).2=c at*;obtain⟨d,u,v,w,f,rfl⟩:=five r x;simp only[vO] at i;obtain⟨o,p,E,F,s,_⟩:=i;have D:=c.isLt;have y:=wo c;have m:=Hk c;have z:(d+19#64*(c&&&2251799813685247#64)).toNat=d.toNat+19*(c.toNat%2251799813685248):=by
  rw[jL,um,y,show(19#64).toNat=19 from rfl];omega
 have A:(u+19#64*(c>>>51)).toNat=u.toNat+19*(c.toNat/2251799813685248):=by
  rw[jL,um,m,show(19#64).toNat=19 from rfl];omega
 have e:ui [d,u,v,w,f] c=[d+19#64*(c&&&2251799813685247#64),u+19#64*(c>>>51),v,w,f]:=rfl;rw[e];obtain⟨⟨t,B⟩,C⟩:=F7 [d+19#64*(c&&&2251799813685247#64),u+19#64*(c>>>51),v,w,f] rfl (by
  simp only[vO,xA,Ep,ED,gG];omega)
 refine⟨C,?_⟩;have n:oo (jt a b 5)=bV [d+19#64*(c&&&2251799813685247#64),u+19#64*(c>>>51),v,w,f]+Pq*c.toNat:=by
  simp only[bV] at*;rw[z,A];unfold Pq;omega
 rw[n,xY,B,xY]
def mh (a b:List aS):List aS:=fZ (oP a b 5) 2
def mc (a b:List aS):List aS:=fZ (iD a b 5) 2
theorem xJ (a b:List aS)(c:sm a)(d:sm b):sm (mh a b)/\bV (mh a b)%Pq=(bV a+bV b)%Pq:=by
 obtain⟨g,h⟩:=acb a b c d;obtain⟨⟨q,e⟩,f⟩:=F7 _ (by rw[DE,c.1]) h;exact⟨f,by rw[<-g,e,xY];rfl⟩
theorem AX (a b:List aS)(c:sm a)(d:sm b):sm (mc a b)/\((bV (mc a b):Nat):Int)%fQ=((bV a:Int)-(bV b:Int))%fQ:=by
 obtain⟨h,g⟩:=ah2 a b c d;obtain⟨⟨q,f⟩,e⟩:=F7 _ (by rw[DC,c.1]) g;refine⟨e,?_⟩;have :(bV a:Int)-(bV b:Int)=(bV (mc a b):Int)+fQ*((q:Int)-4):=by
  show _=((bV (fZ (iD a b 5) 2):Nat):Int)+_;unfold Pq fQ at*;omega
 rw[this,JQ]
end Go.Vm
end
section
namespace Go.Vm
open Go.Proofs Go.Proofs.Tryz
theorem Mh (l:List aS)(i:Nat)(x y:aS):(l.set i x).set i y=l.set i y:=nC ..
theorem LI (l:List aS)(i:Nat)(x:aS)(h:i<l.length):(l.set i x).getD i 0=x:=by
 rw[bY,kF h];rfl
theorem AM (w:List aS)(u:w.length=5):bE prog 113 [.agg (w.map .u64)] (.agg ((fZ w 2).map .u64)):=by
 refine pK U U func113 rfl db (by simp[rG,lows,V.low]) (by simp[rG,V.low]) (ce ?_);simp only[go_sem,seval,-BitVec.isValue,-List.reduceReplicate,-Nat.reduceSubDiff,ntmps113];refine cG (fun m t=>∃ i:Nat,i+m=2/\t=⟨[(1,.ptr 0 0),(2,.ptr 1 0),(5,.i64 i)],[bK ((fZ w i).map .u64),bK [.u64 0#64,.u64 0#64,.u64 0#64,.u64 0#64,.u64 0#64]]⟩) ?_ ?_
 .exact dh (2) ⟨[(1,.ptr 0 0),(2,.ptr 1 0),(5,.i64 (0:Nat))],[bK ((fZ w (0:Nat)).map .u64),bK [.u64 0#64,.u64 0#64,.u64 0#64,.u64 0#64,.u64 0#64]]⟩ gJ rfl (fun _ _ h=>h) ⟨0,I,rfl⟩
 rintro m t ⟨i,A,rfl⟩ _;refine qc0 ?_;by_cases z:i<2
 .have f:(i:Int)<2:=I;have a:=sK w i;rw[u] at a;have g:fE (fZ w i)=fZ w (i+1):=rfl;refine qc2 f ?_;generalize fZ w i=v at a g |-
  refine cG (fun n t=>∃ k:Nat,k+n=5/\t=⟨[(1,.ptr 0 0),(2,.ptr 1 0),(3,.u64 (gP 0#64 v k).2),(5,.i64 i),(7,.i64 k)],[bK ((gP 0#64 v k).1.map .u64),bK [.u64 0#64,.u64 0#64,.u64 0#64,.u64 0#64,.u64 0#64]]⟩) ?_ ?_
  .exact dh (5) ⟨[(1,.ptr 0 0),(2,.ptr 1 0),(3,.u64 (gP 0#64 v (0:Nat)).2),(5,.i64 i),(7,.i64 (0:Nat))],[bK ((gP 0#64 v (0:Nat)).1.map .u64),bK [.u64 0#64,.u64 0#64,.u64 0#64,.u64 0#64,.u64 0#64]]⟩ (by simp[St.get,lookS,gP]) rfl (fun _ _ h=>h) ⟨0,I,rfl⟩
  rintro n t ⟨k,s,rfl⟩ _;refine qc0 ?_;have d:=Tf 0#64 v k;rw[a] at d;by_cases o:k<5
  .have c:(k:Int)<5:=I;have b:k<(gP 0#64 v k).1.length:=I;have j:(gP 0#64 v k).1.set k (((gP 0#64 v k).1.getD k 0+(gP 0#64 v k).2)&&&2251799813685247#64)=(gP 0#64 v (k+1)).1:=rfl;have l:((gP 0#64 v k).1.getD k 0+(gP 0#64 v k).2)>>>51=(gP 0#64 v (k+1)).2:=rfl;have p:∀ x:aS,k<((gP 0#64 v k).1.set k x).length:=fun x=>by rw[b7];exact b
   have q:∀ x:aS,((gP 0#64 v k).1.set k x).getD k 0=x:=fun x=>LI _ _ _ b
   simp only[go_sem,seval,-BitVec.isValue,-List.reduceReplicate,-Nat.reduceSubDiff,c,o,d,k9 b,k9 (p _),q,Mh,j,l];iterate 7 refine⟨I,?_⟩
   refine cH (n-1) ⟨[(1,.ptr 0 0),(2,.ptr 1 0),(3,.u64 (gP 0#64 v (k+1:Nat)).2),(5,.i64 i),(7,.i64 (k+1:Nat))],[bK ((gP 0#64 v (k+1:Nat)).1.map .u64),bK [.u64 0#64,.u64 0#64,.u64 0#64,.u64 0#64,.u64 0#64]]⟩ I ?_ rfl (fun _ _ h=>h) ⟨k+1,I,rfl⟩;have e:bh ((k:Int)+1)=((k+1:Nat):Int):=by rw[bC I I];omega
   simp[St.get,lookS,e]
  .obtain rfl:k=5:=I;have c:¬ ((5:Nat):Int)<5:=I;have b:0<(gP 0#64 v 5).1.length:=I;have r:(gP 0#64 v 5).1.set 0 ((gP 0#64 v 5).1.getD 0 0+19#64*(gP 0#64 v 5).2)=fZ w (i+1):=g;refine qc4 d (k9 b) ?_;simp only[r];refine cH (m-1) ⟨[(1,.ptr 0 0),(2,.ptr 1 0),(5,.i64 (i+1:Nat))],[bK ((fZ w (i+1:Nat)).map .u64),bK [.u64 0#64,.u64 0#64,.u64 0#64,.u64 0#64,.u64 0#64]]⟩ I ?_ rfl (fun _ _ h=>h) ⟨i+1,I,rfl⟩;have e:bh ((i:Int)+1)=((i+1:Nat):Int):=by rw[bC I I];omega
   simp[St.get,lookS,e]
 .obtain rfl:i=2:=I;have f:¬ ((2:Nat):Int)<2:=I;have a:=sK w 2;rw[u] at a;have y:min 5 5=5:=rfl;simp only[go_sem,seval,-BitVec.isValue,-List.reduceReplicate,-Nat.reduceSubDiff,a,y,dC,bq]
theorem xa (a b:List aS)(k:a.length=5)(m:b.length=5):bE prog 78 [.agg (a.map .u64),.agg (b.map .u64)] (.agg ((mh a b).map .u64)):=by
 have f:=DE a b 5;rw[k] at f;have d:=AM (oP a b 5) f;have c:=sK (oP a b 5) 2;rw[f] at c;unfold mh;generalize fZ (oP a b 5) 2=r at d c |-
 refine pK U U func78 rfl db (by simp[rG,lows,V.low]) (by simp[rG,V.low]) (ce ?_);simp only[go_sem,seval,ntmps78];refine cG (fun g n=>∃ i:Nat,i+g=5/\n=⟨[(2,.ptr 0 0),(3,.ptr 1 0),(4,.ptr 2 0),(6,.i64 i)],[bK ((oP a b i).map .u64),bK (b.map .u64),bK [.u64 0#64,.u64 0#64,.u64 0#64,.u64 0#64,.u64 0#64]]⟩) ?_ ?_
 .exact dh (5) ⟨[(2,.ptr 0 0),(3,.ptr 1 0),(4,.ptr 2 0),(6,.i64 (0:Nat))],[bK ((oP a b (0:Nat)).map .u64),bK (b.map .u64),bK [.u64 0#64,.u64 0#64,.u64 0#64,.u64 0#64,.u64 0#64]]⟩ gJ rfl (fun _ _ h=>h) ⟨0,I,rfl⟩
 rintro g n ⟨i,t,rfl⟩ _;refine aH ?_;by_cases o:i<5
 .have e:(i:Int)<5:=I;have l:=DE a b i;rw[k] at l;have p:i<(oP a b i).length:=I;have q:i<b.length:=I;simp only[go_sem,seval,e,o,l,m,k9 p,k9 q];refine⟨I,I,I,I,U,?_⟩;refine cH (g-1) ⟨[(2,.ptr 0 0),(3,.ptr 1 0),(4,.ptr 2 0),(6,.i64 (i+1:Nat))],[bK ((oP a b (i+1:Nat)).map .u64),bK (b.map .u64),bK [.u64 0#64,.u64 0#64,.u64 0#64,.u64 0#64,.u64 0#64]]⟩ I ?_ rfl (fun _ _ h=>h) ⟨i+1,I,rfl⟩;have j:bh ((i:Int)+1)=((i+1:Nat):Int):=by rw[bC I I];omega
  simp[St.get,lookS,j]
 .obtain rfl:i=5:=I;have e:¬ ((5:Nat):Int)<5:=I;have s:min 5 5=5:=rfl;simp only[go_sem,seval,f,bq];refine br (d) ?_;simp only[go_sem,seval,c,dC,bq]
theorem wP (a b:List aS)(p:a.length=5)(q:b.length=5):bE prog 79 [.agg (a.map .u64),.agg (b.map .u64)] (.agg ((mc a b).map .u64)):=by
 have k:=DC a b 5;rw[p] at k;have j:=AM (iD a b 5) k;have c:=sK (iD a b 5) 2;rw[k] at c;unfold mc;generalize fZ (iD a b 5) 2=r at j c |-
 refine pK U U func79 rfl db (by simp[rG,lows,V.low]) (by simp[rG,V.low]) (ce ?_);simp only[go_sem,seval,-BitVec.isValue,-List.reduceReplicate,-Nat.reduceSubDiff,ntmps79];refine cG (fun l w=>∃ i:Nat,i+l=5/\w=⟨[(2,.ptr 0 0),(3,.ptr 1 0),(4,.ptr 2 0),(6,.i64 i)],[bK ((iD a b i).map .u64),bK (b.map .u64),bK [.u64 0#64,.u64 0#64,.u64 0#64,.u64 0#64,.u64 0#64]]⟩) ?_ ?_
 .exact dh (5) ⟨[(2,.ptr 0 0),(3,.ptr 1 0),(4,.ptr 2 0),(6,.i64 (0:Nat))],[bK ((iD a b (0:Nat)).map .u64),bK (b.map .u64),bK [.u64 0#64,.u64 0#64,.u64 0#64,.u64 0#64,.u64 0#64]]⟩ gJ rfl (fun _ _ h=>h) ⟨0,I,rfl⟩
 rintro l w ⟨i,z,rfl⟩ _;refine qc0 ?_;by_cases u:i<5
 .have d:(i:Int)<5:=I;have m:=DC a b i;rw[p] at m;have t:i<(iD a b i).length:=I;have v:i<b.length:=I;by_cases s:i=0
  .have e:=gg (show(i:Int)=0 by omega);have n:∀ x:aS,i<((iD a b i).set i x).length:=fun x=>by rw[b7];exact t
   have o:∀ x:aS,((iD a b i).set i x).getD i 0=x:=fun x=>LI _ _ _ t
   have f:(iD a b i).set i ((iD a b i).getD i 0+(9007199254740988#64-b.getD i 0)-72#64)=iD a b (i+1):=by rw[iD,aM s]
   simp only[go_sem,seval,-BitVec.isValue,-List.reduceReplicate,-Nat.reduceSubDiff,d,u,m,q,e,k9 t,k9 v,k9 (n _),o,Mh,f];refine⟨I,I,I,I,U,?_⟩;refine⟨I,I,I,?_⟩;refine cH (l-1) ⟨[(2,.ptr 0 0),(3,.ptr 1 0),(4,.ptr 2 0),(6,.i64 (i+1:Nat))],[bK ((iD a b (i+1:Nat)).map .u64),bK (b.map .u64),bK [.u64 0#64,.u64 0#64,.u64 0#64,.u64 0#64,.u64 0#64]]⟩ I ?_ rfl (fun _ _ h=>h) ⟨i+1,I,rfl⟩;have g:bh ((i:Int)+1)=((i+1:Nat):Int):=by rw[bC I I];omega
   simp[St.get,lookS,g]
  .have e:¬ (i:Int)=0:=I;have f:(iD a b i).set i ((iD a b i).getD i 0+(9007199254740988#64-b.getD i 0))=iD a b (i+1):=by rw[iD,aq s]
   refine qd6 d u m q e (k9 t) (k9 v) f ?_;refine⟨I,I,I,I,U,?_⟩;refine cH (l-1) ⟨[(2,.ptr 0 0),(3,.ptr 1 0),(4,.ptr 2 0),(6,.i64 (i+1:Nat))],[bK ((iD a b (i+1:Nat)).map .u64),bK (b.map .u64),bK [.u64 0#64,.u64 0#64,.u64 0#64,.u64 0#64,.u64 0#64]]⟩ I ?_ rfl (fun _ _ h=>h) ⟨i+1,I,rfl⟩;have g:bh ((i:Int)+1)=((i+1:Nat):Int):=by rw[bC I I];omega
   simp[St.get,lookS,g]
 .obtain rfl:i=5:=I;have d:¬ ((5:Nat):Int)<5:=I;have y:min 5 5=5:=rfl;refine qc2 k ?_;refine br (j) ?_;simp only[go_sem,seval,-BitVec.isValue,-List.reduceReplicate,-Nat.reduceSubDiff,c,dC,bq]
theorem Jk (x y c:aS)(hc:c.toNat<=1):zK prog 115 [.u64 x,.u64 y,.u64 c] (.aZ [.u64 (x+y+c),.u64 (dG x y c)]):=Qh x y c hc
theorem Po (w:Wd)(x y:aS):bE prog 114 [.agg [.u64 w.1,.u64 w.2],.u64 x,.u64 y] (.agg [.u64 (re w x y).1,.u64 (re w x y).2]):=by
 have a:=qa w.2 (x*y) 0#64 ag;unfold re;refine ai func114 ?_;simp only[go_sem,seval,ntmps114];refine br (Ry x y) (aH ?_);refine Ba (Jk w.2 (x*y) 0#64 ag) (aH ?_);refine Ba (Jk w.1 (gf x y) (dG w.2 (x*y) 0#64) a) ?_;simp only[go_sem,seval]
def jo (s:Z):List aS:=fZ (vw (fP s 0) (fP s 1) (fP s 2) (fP s 3)) 2
theorem M1 (s:Z)(h:s.length=32):sm (jo s)/\bV (jo s)%Pq=le s%Pq:=by
 obtain⟨⟨q,b⟩,c⟩:=agR (fP s 0) (fP s 1) (fP s 2) (fP s 3);obtain⟨⟨e,a⟩,d⟩:=F7 _ rfl c;rw[Y5 s h] at b;exact⟨d,by rw[b,a,xY,xY];rfl⟩
theorem V8 (s:Z)(h:s.length=32):bE prog 76 [.str s] (.aZ [.agg ((jo s).map .u64),.bool true]):=by
 have j:(s.length:Int)=32:=I;have k:=mY (s.drop (8*0)) (by rw[dO];omega);have l:=mY (s.drop (8*1)) (by rw[dO];omega);have m:=mY (s.drop (8*2)) (by rw[dO];omega);have n:=mY (s.drop (8*3)) (by rw[dO];omega);rw[show BitVec.ofNat 64 (le ((s.drop (8*0)).take 8))=fP s 0 from rfl,show s.drop (8*0)=s from rfl] at k;rw[show BitVec.ofNat 64 (le ((s.drop (8*1)).take 8))=fP s 1 from rfl,show s.drop (8*1)=s.drop 8 from rfl] at l;rw[show BitVec.ofNat 64 (le ((s.drop (8*2)).take 8))=fP s 2 from rfl,show s.drop (8*2)=s.drop 16 from rfl] at m;rw[show BitVec.ofNat 64 (le ((s.drop (8*3)).take 8))=fP s 3 from rfl,show s.drop (8*3)=s.drop 24 from rfl] at n;have e:s.take 32=s:=bq I;have i:=sK (vw (fP s 0) (fP s 1) (fP s 2) (fP s 3)) 2;have f:=AM (vw (fP s 0) (fP s 1) (fP s 2) (fP s 3)) rfl;rw[show(vw (fP s 0) (fP s 1) (fP s 2) (fP s 3)).length=5 from rfl] at i;unfold jo;generalize g:fZ (vw (fP s 0) (fP s 1) (fP s 2) (fP s 3)) 2=r at i f |-
 unfold vw at f;generalize fP s 0=a at*;generalize fP s 1=b at*;generalize fP s 2=c at*;generalize fP s 3=d at*;refine pK U U func76 rfl db bT (by simp[rG,lows,V.low]) (ce ?_);simp only[go_sem,seval,ntmps76,h];refine ij 5 ?_;refine d9 j e ?_;refine br (k) ?_;refine d9 j e ?_;refine br (l) ?_;refine d9 j e ?_;refine br (m) ?_;refine d9 j e ?_;refine br (n) (aH ?_);refine br (f) ?_;simp only[go_sem,seval,i,dC,bq]
 done
theorem M6 (n:List aS)(f:sm n):bE prog 82 [.agg (n.map .u64)] (.str (bX (bV n%Pq) 32)):=by
 obtain⟨k,l,o⟩:=ZO n f;rw[<-k,<-adk _ l o];have z:=AM n f.1;have u:=sK n 2;have w:=AM (fZ n 2) (by rw[u,f.1]);have x:=sK (fZ n 2) 2;rw[u,f.1] at x;rw[f.1] at u;clear k l o;generalize fZ (fZ n 2) 2=r at w x |-
 generalize fZ n 2=m at z w u;obtain⟨a,b,c,d,e,rfl⟩:=five r x;generalize g:((vG (uu [a,b,c,d,e])).getD 0 0)=v;generalize h:((vG (uu [a,b,c,d,e])).getD 1 0)=y;generalize i:((vG (uu [a,b,c,d,e])).getD 2 0)=p;generalize j:((vG (uu [a,b,c,d,e])).getD 3 0)=q;have D:=Km v;have A:=xK (bX v.toNat 8) y (by rw[dQ];omega);have B:=xK (bX v.toNat 8++bX y.toNat 8) p (by rw[bA,dQ,dQ];omega);have C:=xK (bX v.toNat 8++bX y.toNat 8++bX p.toNat 8) q (by rw[bA,bA,dQ,dQ,dQ];omega);rw[dQ] at A;rw[bA,dQ,dQ] at B;rw[bA,bA,dQ,dQ,dQ] at C;have s:min 5 5=5:=rfl;refine pK U U func82 rfl db (by simp[rG,lows,V.low]) uQ (ce ?_);simp only[go_sem,seval,ntmps82,f.1,bq];refine br (z) (aH ?_);refine br (w) ?_;simp only[go_sem,seval,f.1,dC];refine ij 5 (aH ?_);generalize E:((e+(d+(c+(b+(a+19#64)>>>51)>>>51)>>>51)>>>51)>>>51)=t;refine ij 6 (aH ?_);simp only[uu,gQ,vG,lF,vr,vi,E] at g h i j;simp only[g,h,i,j];refine ij 5 (aH ?_);refine am [] D (aH ?_);refine am [1] A (aH ?_);refine am [2] B (aH ?_);refine am [3] C ?_;simp only[go_sem,seval,dQ,bA];rw[bq (by simp only[bA,dQ];omega)];simp only[hZ]
def gL:List Wd->List V
 |[]=>[]
 |x::l=> .u64 x.1:: .u64 x.2::gL l
theorem Eb (l:List Wd):(gL l).length=2*l.length:=by
 induction l with
 |nil=>rfl
 |cons x l ih=>rw[gL,dM,dM,ih,dM];omega
theorem MG (a:Nat->Nat)(l:List Wd):aW a (gL l)=gL l:=by
 induction l with
 |nil=>rfl
 |cons x l ih=>rw[gL,aW,aW,ih];rfl
theorem RG (k:Nat)(l:List Wd):lows k (gL l):=by
 induction l with
 |nil=>trivial
 |cons x l ih=>exact⟨trivial,trivial,ih⟩
theorem Hz (l:List Wd):∀ i,i<l.length->((gL l).drop (2*i)).take 2=[.u64 (l.getD i wz).1,.u64 (l.getD i wz).2]:=by
 induction l with
 |nil=>intro i h;simp at h
 |cons x l ih=>
  intro i h;cases i with
  |zero=>rfl
  |succ i=>
   rw[gL,show 2*(i+1)=2*i+1+1 by omega,nj,nj,ih i (by simpa using h),vi]
theorem Qr (l:List Wd)(y:Wd):∀ i,i<l.length->(gL l).take (2*i)++[.u64 y.1,.u64 y.2]++(gL l).drop (2*i+2)=gL (l.set i y):=by
 induction l with
 |nil=>intro i h;simp at h
 |cons x l ih=>
  intro i h;cases i with
  |zero=>rfl
  |succ i=>
   have :=ih i (by simpa using h);rw[xo,gL,gL,<-this,show 2*(i+1)=2*i+1+1 by omega,eU,eU,show 2*i+1+1+2=(2*i+2)+1+1 by omega,nj,nj];rfl
def sQ (w:List Wd)(i:Nat):List aS:=(dW 0#64 (w.take i)).1++List.replicate (5-i) 0#64
theorem agA (w:List Wd)(i:Nat)(h:i<=w.length)(a:w.length=5):(sQ w i).length=5:=by
 unfold sQ;rw[bA,Bv,cF,kV];omega
theorem adj (w:List Wd)(i:Nat)(h:i<w.length)(b:w.length=5):(sQ w i).set i (((w.getD i wz).2+(dW 0#64 (w.take i)).2+0#64)&&&2251799813685247#64)=sQ w (i+1)/\uW (dW 0#64 (w.take i)).2 (w.getD i wz)=(dW 0#64 (w.take (i+1))).2:=by
 have c:w.take (i+1)=w.take i++[w.getD i wz]:=by
  rw[uV h,bY,bn h];rfl
 have a:(dW 0#64 (w.take i)).1.length=i:=by rw[Bv,cF];omega
 unfold sQ;rw[c,aie];refine⟨?_,rfl⟩;rw[uD _ _ I,a,k8,show 5-i=(5-(i+1))+1 by omega,vZ,lF];simp
theorem j0 (a b:List aS)(O:a.length=5)(C:b.length=5):bE prog 80 [.agg (a.map .u64),.agg (b.map .u64)] (.agg ((du a b).map .u64)):=by
 have hm:min 5 5=5:=rfl;have Q:(2:Nat)*5=10:=rfl;have D:∀ i,(gL (jt a b i)).length=10:=fun i=>by rw[Eb,AS]
 refine pK U U func80 rfl db (by simp[rG,lows,V.low]) (by simp[rG,V.low]) (ce ?_);simp only[go_sem,seval,-List.reduceReplicate,ntmps80,O,bq];refine cG (fun E st=>∃ i:Nat,i+E=5/\st=⟨[(2,.ptr 0 0),(3,.ptr 1 0),(4,.ptr 2 0),(5,.ptr 3 0),(18,.agg (a.map .u64)),(19,.i64 i)],[bK (a.map .u64),bK (b.map .u64),bK [.u64 0#64,.u64 0#64,.u64 0#64,.u64 0#64,.u64 0#64],bK (gL (jt a b i))]⟩) ?_ ?_
 .exact dh (5) ⟨[(2,.ptr 0 0),(3,.ptr 1 0),(4,.ptr 2 0),(5,.ptr 3 0),(18,.agg (a.map .u64)),(19,.i64 (0:Nat))],[bK (a.map .u64),bK (b.map .u64),bK [.u64 0#64,.u64 0#64,.u64 0#64,.u64 0#64,.u64 0#64],bK (gL (jt a b (0:Nat)))]⟩ (by simp[St.get,lookS,-List.map_set,-List.map_map]) rfl (fun _ _ h=>h) ⟨0,I,rfl⟩
 rintro E st ⟨i,hi,rfl⟩ _;refine qc0 ?_;by_cases h0:i<5
 .have u:(i:Int)<5:=I;have d:=AS a b i;have F:i<a.length:=I;have v:gM a b (jt a b i) i 5=jt a b (i+1):=rfl;refine qd0 u h0 O C (k9 F) ?_;generalize jt a b i=w at d v |-
  refine⟨I,?_⟩;refine cG (fun B st=>∃ k:Nat,k+B=5/\st=⟨[(2,.ptr 0 0),(3,.ptr 1 0),(4,.ptr 2 0),(5,.ptr 3 0),(6,.i64 i),(7,.u64 (a.getD i 0)),(18,.agg (a.map .u64)),(19,.i64 i),(23,.agg (b.map .u64)),(24,.i64 k)],[bK (a.map .u64),bK (b.map .u64),bK [.u64 0#64,.u64 0#64,.u64 0#64,.u64 0#64,.u64 0#64],bK (gL (gM a b w i k))]⟩) ?_ ?_
  .exact dh (5) ⟨[(2,.ptr 0 0),(3,.ptr 1 0),(4,.ptr 2 0),(5,.ptr 3 0),(6,.i64 i),(7,.u64 (a.getD i 0)),(18,.agg (a.map .u64)),(19,.i64 i),(23,.agg (b.map .u64)),(24,.i64 (0:Nat))],[bK (a.map .u64),bK (b.map .u64),bK [.u64 0#64,.u64 0#64,.u64 0#64,.u64 0#64,.u64 0#64],bK (gL (gM a b w i (0:Nat)))]⟩ (by simp[St.get,lookS,-List.map_set,-List.map_map]) rfl (fun _ _ h=>h) ⟨0,I,rfl⟩
  rintro B st ⟨k,hk,rfl⟩ _;refine qc0 ?_;have m:=Hw a b w i k;rw[d] at m;by_cases x:k<5
  .have g:(k:Int)<5:=I;have y:k<b.length:=I;have P:bh ((i:Int)+(k:Int))=((i+k:Nat):Int):=by rw[bC I I];omega
   by_cases z:i+k<5
   .have g1:¬ (5:Int)<=((i+k:Nat):Int):=I;have g3:((i+k:Nat):Int)<5:=I;have t:=Hz (gM a b w i k) (i+k) I;have fs:=Qr (gM a b w i k) (re ((gM a b w i k).getD (i+k) wz) (a.getD i 0) (b.getD k 0)) (i+k) I;have n:(gM a b w i k).set (i+k) (re ((gM a b w i k).getD (i+k) wz) (a.getD i 0) (b.getD k 0))=gM a b w i (k+1):=by rw[gM];unfold yq;rw[aM z]
    rw[n] at fs;have o:=Po ((gM a b w i k).getD (i+k) wz) (a.getD i 0) (b.getD k 0);have c:(gL (gM a b w i k)).length=10:=by rw[Eb,m]
    have e:(i+k)*2=2*(i+k):=I;refine qd8 g x C (k9 y) P g1 g3 e t c ?_;refine⟨I,I,I,?_⟩;refine br (o) ?_;refine qc6 g3 e c ?_;refine⟨I,I,?_⟩;rw[fs];refine cH (B-1) ⟨[(2,.ptr 0 0),(3,.ptr 1 0),(4,.ptr 2 0),(5,.ptr 3 0),(6,.i64 i),(7,.u64 (a.getD i 0)),(18,.agg (a.map .u64)),(19,.i64 i),(23,.agg (b.map .u64)),(24,.i64 (k+1:Nat))],[bK (a.map .u64),bK (b.map .u64),bK [.u64 0#64,.u64 0#64,.u64 0#64,.u64 0#64,.u64 0#64],bK (gL (gM a b w i (k+1:Nat)))]⟩ I ?_ rfl (fun _ _ h=>h) ⟨k+1,I,rfl⟩;have f:bh ((k:Int)+1)=((k+1:Nat):Int):=by rw[bC I I];omega
    simp[St.get,lookS,f,-List.map_set,-List.map_map]
   .have g1:(5:Int)<=((i+k:Nat):Int):=I;have R:bh (((i+k:Nat):Int)-5)=((i+k-5:Nat):Int):=by rw[bC I I];omega
    have g3:((i+k-5:Nat):Int)<5:=I;have g4:i+k-5<5:=I;have t:=Hz (gM a b w i k) (i+k-5) I;have fs:=Qr (gM a b w i k) (re ((gM a b w i k).getD (i+k-5) wz) (a.getD i 0) (19#64*b.getD k 0)) (i+k-5) I;have n:(gM a b w i k).set (i+k-5) (re ((gM a b w i k).getD (i+k-5) wz) (a.getD i 0) (19#64*b.getD k 0))=gM a b w i (k+1):=by rw[gM];unfold yq;rw[aq z]
    rw[n] at fs;have o:=Po ((gM a b w i k).getD (i+k-5) wz) (a.getD i 0) (19#64*b.getD k 0);have c:(gL (gM a b w i k)).length=10:=by rw[Eb,m]
    have e:(i+k-5)*2=2*(i+k-5):=I;refine qd9 g x C (k9 y) P R g1 g3 e t c ?_;refine⟨I,I,I,?_⟩;refine br (o) ?_;refine qc6 g3 e c ?_;refine⟨I,I,?_⟩;rw[fs];refine cH (B-1) ⟨[(2,.ptr 0 0),(3,.ptr 1 0),(4,.ptr 2 0),(5,.ptr 3 0),(6,.i64 i),(7,.u64 (a.getD i 0)),(18,.agg (a.map .u64)),(19,.i64 i),(23,.agg (b.map .u64)),(24,.i64 (k+1:Nat))],[bK (a.map .u64),bK (b.map .u64),bK [.u64 0#64,.u64 0#64,.u64 0#64,.u64 0#64,.u64 0#64],bK (gL (gM a b w i (k+1:Nat)))]⟩ I ?_ rfl (fun _ _ h=>h) ⟨k+1,I,rfl⟩;have f:bh ((k:Int)+1)=((k+1:Nat):Int):=by rw[bC I I];omega
    simp[St.get,lookS,f,-List.map_set,-List.map_map]
  .obtain rfl:k=5:=I;have g:¬ ((5:Nat):Int)<5:=I;refine qc2 v ?_;refine cH (E-1) ⟨[(2,.ptr 0 0),(3,.ptr 1 0),(4,.ptr 2 0),(5,.ptr 3 0),(18,.agg (a.map .u64)),(19,.i64 (i+1:Nat))],[bK (a.map .u64),bK (b.map .u64),bK [.u64 0#64,.u64 0#64,.u64 0#64,.u64 0#64,.u64 0#64],bK (gL (jt a b (i+1:Nat)))]⟩ I ?_ rfl (fun _ _ h=>h) ⟨i+1,I,rfl⟩;have f:bh ((i:Int)+1)=((i+1:Nat):Int):=by rw[bC I I];omega
   simp[St.get,lookS,f,-List.map_set,-List.map_map]
 .obtain rfl:i=5:=I;have u:¬ ((5:Nat):Int)<5:=I;have d:=AS a b 5;unfold du;refine qc2 D ?_;generalize jt a b 5=w at d |-
  have c:(gL w).length=10:=by rw[Eb,d]
  have S:min 10 10=10:=rfl;try simp only[go_sem,c,bq]
  refine cG (fun G st=>∃ q:Nat,q+G=5/\st=⟨[(4,.ptr 2 0),(11,.ptr 4 0),(12,.u64 (dW 0#64 (w.take q)).2),(47,.agg (gL w)),(48,.i64 q)],[bK (a.map .u64),bK (b.map .u64),bK [.u64 0#64,.u64 0#64,.u64 0#64,.u64 0#64,.u64 0#64],bK (gL w),bK ((sQ w q).map .u64)]⟩) ?_ ?_
  .exact dh (5) ⟨[(4,.ptr 2 0),(11,.ptr 4 0),(12,.u64 (dW 0#64 (w.take (0:Nat))).2),(47,.agg (gL w)),(48,.i64 (0:Nat))],[bK (a.map .u64),bK (b.map .u64),bK [.u64 0#64,.u64 0#64,.u64 0#64,.u64 0#64,.u64 0#64],bK (gL w),bK ((sQ w (0:Nat)).map .u64)]⟩ (by simp[St.get,lookS,-List.map_set,-List.map_map,dW]) rfl (fun _ _ h=>h) ⟨0,I,rfl⟩
  rintro G st ⟨q,hq,rfl⟩ _;refine qc0 ?_;have H:=agA w q I d;by_cases T:q<5
  .have l:(q:Int)<5:=I;have t:=Hz w q I;obtain⟨W,X⟩:=adj w q I d;have e:q*2=2*q:=I;have Y:q<(sQ w q).length:=I;have a6:=qa (w.getD q wz).2 (dW 0#64 (w.take q)).2 0#64 ag;have K:=Jk (w.getD q wz).2 (dW 0#64 (w.take q)).2 0#64 ag;have oc:((w.getD q wz).1+dG (w.getD q wz).2 (dW 0#64 (w.take q)).2 0#64)<<<13|||((w.getD q wz).2+(dW 0#64 (w.take q)).2+0#64)>>>51=(dW 0#64 (w.take (q+1))).2:=X
   have a7:((gL w).drop (2*q)).take 2=[.u64 (w.getD q wz).1,.u64 (w.getD q wz).2]:=t;have L:min 2 (10-2*q)=2:=I;have a8:((gL w).drop (2*q)).length=10-2*q:=by rw[dO,c]
   refine qd0 l e t c L ?_;refine⟨I,?_⟩;refine Ba (K) ?_;refine qc6 oc W H ?_;refine⟨I,I,?_⟩;have f:bh ((q:Int)+1)=((q+1:Nat):Int):=by rw[bC I I];omega
   refine lc (G-1) ⟨[(4,.ptr 2 0),(11,.ptr 4 0),(12,.u64 (dW 0#64 (w.take (q+1:Nat))).2),(47,.agg (gL w)),(48,.i64 (q+1:Nat))],[bK (a.map .u64),bK (b.map .u64),bK [.u64 0#64,.u64 0#64,.u64 0#64,.u64 0#64,.u64 0#64],bK (gL w),bK ((sQ w (q+1:Nat)).map .u64)]⟩ [0,1,2,3,4] I rfl J rfl ag (by simp[iC,St.get,lookS,f,-List.map_map,-List.map_set,MG,RG]) (by simp[MG,RG]) ⟨q+1,I,rfl⟩
  .obtain rfl:q=5:=I;have l:¬ ((5:Nat):Int)<5:=I;have M:sQ w 5=(dW 0#64 w).1:=by unfold sQ;rw[bq I];simp
   have N:w.take 5=w:=bq I;have j:=Bv w 0#64;rw[d] at j;have p:=AM (ui (dW 0#64 w).1 (dW 0#64 w).2) (by unfold ui;rw[b7,b7,j]);have s:=sK (ui (dW 0#64 w).1 (dW 0#64 w).2) 2;rw[show(ui (dW 0#64 w).1 (dW 0#64 w).2).length=5 by unfold ui;rw[b7,b7,j]] at s;generalize fZ (ui (dW 0#64 w).1 (dW 0#64 w).2) 2=b0 at p s |-
   unfold ui at p;generalize (dW 0#64 w).1=r at*;obtain⟨r0,r1,r2,r3,r4,rfl⟩:=five r j;have A:bE prog 113 [.agg [.u64 (r0+19#64*((dW 0#64 w).2&&&2251799813685247#64)),.u64 (r1+19#64*((dW 0#64 w).2>>>51)),.u64 r2,.u64 r3,.u64 r4]] (.agg (b0.map .u64)):=p;refine qc4 M N ?_;refine br (A) ?_;simp only[go_sem,seval,-List.reduceReplicate,s,dC,bq]
end Go.Vm
end
section
namespace Go.Vm
open Go.Proofs
def dH (r:List aS)(m:List Int):Prop:=sm r/\dw m/\((bV r:Nat):Int)%fQ=bQ m%fQ
theorem Il (n:Nat):((n%Pq:Nat):Int)=(n:Int)%fQ:=by unfold Pq fQ;omega
theorem vp {a b:Nat}(h:a%Pq=b%Pq):(a:Int)%fQ=(b:Int)%fQ:=by rw[<-Il,<-Il,h]
theorem ahC (s:Z)(h:s.length=32):dH (jo s) (lJ s 16):=by
 obtain⟨c,d⟩:=M1 s h;obtain⟨a,b⟩:=Pg s h;exact⟨c,a,by rw[b];exact vp d⟩
theorem MP {r s:List aS}{m n:List Int}(h:dH r m)(k:dH s n):dH (mh r s) (nI m n 1):=by
 obtain⟨c,d⟩:=xJ r s h.1 k.1;obtain⟨a,b⟩:=uY m n 1 h.2.1 k.2.1 ag;refine⟨c,a,?_⟩;rw[b,vp d,yY,xS,h.2.2,k.2.2,<-xS,Int.one_mul]
theorem IV {r s:List aS}{m n:List Int}(h:dH r m)(k:dH s n):dH (mc r s) (nI m n (-1)):=by
 obtain⟨f,g⟩:=AX r s h.1 k.1;obtain⟨a,b⟩:=uY m n (-1) h.2.1 k.2.1 ag;refine⟨f,a,?_⟩;have e:bQ m+-1*bQ n=bQ m-bQ n:=I;rw[b,g,e];have c:=h.2.2;have d:=k.2.2;generalize fQ=p at*;rw[AZ,c,d,<-AZ]
theorem qy {r s:List aS}{m n:List Int}(h:dH r m)(k:dH s n):dH (du r s) (jb m n):=by
 obtain⟨c,d⟩:=kK r s h.1 k.1;obtain⟨a,b⟩:=uc m n h.2.1 k.2.1;refine⟨c,a,?_⟩;rw[b,vp d,zL,oD,h.2.2,k.2.2,<-oD]
def DQ (m:List Int):Z:=bX (bQ m%fQ).toNat 32
theorem PY {r:List aS}{m:List Int}(h:dH r m):bX (bV r%Pq) 32=DQ m:=by
 unfold DQ;rw[<-h.2.2,<-Il];rfl
end Go.Vm
end
section
namespace Go.Vm
open Go.Proofs Go.Proofs.Tryz
def nh:List aS->Nat
 |[]=>0
 |x::l=>x.toNat+18446744073709551616*nh l
theorem ahd (l:List aS):∀ j,(l.getD j 0).toNat=nh l/18446744073709551616^j%18446744073709551616:=by
 induction l with
 |nil=>intro j;simp[nh]
 |cons b l ih=>
  intro j;have a:=b.isLt;cases j with
  |zero=>simp only[vr,nh,Ea,zt];omega
  |succ j=>
   rw[vi,ih,nh,nA,og (18446744073709551616^j),<-rJ,show(b.toNat+18446744073709551616*nh l)/18446744073709551616=nh l by omega]
def uf (a:List aS)(j:Nat):Prop:=(a.getD (j/64) 0)>>>(j%64)&&&1#64=1#64
instance (ws:List aS) (j:Nat):Decidable (uf ws j):=by unfold uf;infer_instance
theorem T7 (d:List aS)(j:Nat):uf d j↔nh d/2^j%2=1:=by
 have a:=ahd d (j/64);have b:(2:Nat)^j=18446744073709551616^(j/64)*2^(j%64):=by
  rw[show(18446744073709551616:Nat)=2^64 from rfl,<-Nat.pow_mul,<-vP];congr 1;omega
 have c:(18446744073709551616:Nat)=2^(j%64)*(2*2^(63-j%64)):=by
  rw[<-Nat.pow_succ',<-vP,show j%64+(63-j%64).succ=64 by omega]
 unfold uf;rw[<-BitVec.toNat_inj,tP,show(1#64).toNat=2^1-1 from rfl,xk,uJ,tI,a,b,<-rJ];generalize nh d/18446744073709551616^(j/64)=X;have :X%18446744073709551616/2^(j%64)%2=X/2^(j%64)%2:=by
  rw[c,Nat.mod_mul_right_div_self,Nat.mod_mul_right_mod]
 show X%18446744073709551616/2^(j%64)%2^1=1↔_;rw[show(2:Nat)^1=2 from rfl,this]
def iv:List aS:=[1#64,0#64,0#64,0#64,0#64]
theorem FL:sm iv:=⟨rfl,fun x a=>by
 simp only[iv,gz,xA,or_false,or_self] at a;rcases a with rfl|rfl
 .exact xr (bz 1) I
 .exact xr (bz 0) I⟩
def fe (x d:List aS):Nat->List aS
 |0=>iv
 |c+1=>if uf d (64*d.length-1-c) then du (du (fe x d c) (fe x d c)) x else du (fe x d c) (fe x d c)
theorem yS (x b:List aS)(a:sm x)(c:Nat):sm (fe x b c):=by
 induction c with
 |zero=>exact FL
 |succ c ih=>
  rw[fe];split
  .exact(kK _ _ (kK _ _ ih ih).1 a).1
  .exact(kK _ _ ih ih).1
theorem aaj (x o:List aS)(g:sm x):∀ c,c<=64*o.length->bV (fe x o c)%Pq=bV x^(nh o/2^(64*o.length-c))%Pq:=by
 have f:nh o<2^(64*o.length):=by
  have :∀ l:List aS,nh l<2^(64*l.length):=by
   intro l;induction l with
   |nil=>exact Nat.one_pos
   |cons y l ih=>
    have :=y.isLt;rw[dM,show 64*(l.length+1)=64*l.length+64 by omega,vP];show y.toNat+18446744073709551616*nh l<_;omega
  exact this o
 intro c;induction c with
 |zero=>
  intro _;rw[Nat.sub_zero,Fj f,Ea];rfl
 |succ c ih=>
  intro w;have ih:=ih I;have h:=yS x o g c;have s:=kK _ _ h h;have m:64*o.length-c=(64*o.length-1-c)+1:=I;have n:64*o.length-(c+1)=64*o.length-1-c:=I;rw[m] at ih;rw[n];have i:=T7 o (64*o.length-1-c);have k:fe x o (c+1)=if uf o (64*o.length-1-c) then du (du (fe x o c) (fe x o c)) x else du (fe x o c) (fe x o c):=rfl
  rw[k];clear k;generalize 64*o.length-1-c=j at*;generalize fe x o c=r at*;have t:=kK (du r r) x s.1 g;generalize du r r=v at*;have p:nh o/2^(j+1)=nh o/2^j/2:=by rw[nA,rJ]
  rw[p] at ih;generalize nh o/2^j=E at*;have d:bV v%Pq=bV x^(2*(E/2))%Pq:=by
   rw[s.2,EU,ih,<-EU,<-vP,Nat.two_mul]
  by_cases a:uf o j
  .rw[aM a];have u:=i.1 a;have q:E=2*(E/2)+1:=I;have b:bV x^E=bV x^(2*(E/2))*bV x:=by rw[<-nA];exact dN (bV x^·) q
   rw[t.2,EU,d,<-EU,b]
  .rw[aq a];have u:¬ E%2=1:=fun e=>a (i.2 e)
   have q:E=2*(E/2):=I;have b:bV x^E=bV x^(2*(E/2)):=dN (bV x^·) q;rw[d,b]
theorem OO:bE prog 77 [] (.agg (iv.map .u64)):=by
 rw[show iv.map V.u64=[V.u64 1#64,V.u64 0#64,V.u64 0#64,V.u64 0#64,V.u64 0#64] from rfl];refine pK U U func77 rfl db (by simp[lows]) bT (ce ?_);simp only[go_sem,seval,ntmps77,results77]
theorem Pv (x P:List aS)(i:sm x)(E:P.length<=100):bp prog 81 [.agg (x.map .u64),.slice 0 0 P.length 1] [bK (P.map .u64)] (.agg ((fe x P (64*P.length)).map .u64)) [bK (P.map .u64)]:=by
 have S:min 5 5=5:=rfl;have t:(iv.map V.u64).length=5:=rfl;have F:iv.length=5:=rfl;have j:∀ c,(fe x P c).length=5:=fun c=>(yS x P i c).1
 have G:fe x P 0=iv:=rfl;refine ak func81 ?_;simp only[go_sem,seval,-BitVec.isValue,-List.reduceReplicate,-Nat.reduceSubDiff,ntmps81];refine br (OO) ?_;refine qc4 t @dC ?_;generalize C:P.length=N at E |-
 have H:bh ((N:Int)-1)=(N:Int)-1:=bC I I;simp only[go_sem,H];have k:iv=fe x P (64*0):=rfl;rw[k];refine cG (fun v Q=>∃ u:Nat,u+v=N/\Q=⟨[(1,.slice 0 0 N 1),(2,.ptr 1 0),(4,.ptr 2 0),(5,.ptr 3 0),(6,.i64 ((N:Int)-1-u))],[bK (P.map .u64),bK (x.map .u64),bK [.u64 0#64,.u64 0#64,.u64 0#64,.u64 0#64,.u64 0#64],bK ((fe x P (64*u)).map .u64)]⟩) ?_ ?_
 .exact dh (N) ⟨[(1,.slice 0 0 N 1),(2,.ptr 1 0),(4,.ptr 2 0),(5,.ptr 3 0),(6,.i64 ((N:Int)-1-(0:Nat)))],[bK (P.map .u64),bK (x.map .u64),bK [.u64 0#64,.u64 0#64,.u64 0#64,.u64 0#64,.u64 0#64],bK ((fe x P (64*(0:Nat))).map .u64)]⟩ gJ rfl (fun _ _ h=>h) ⟨0,I,rfl⟩
 rintro v Q ⟨u,X,rfl⟩ _;refine qc0 ?_;by_cases W:u<N
 .have g:(0:Int)<=(N:Int)-1-(u:Int):=I;refine qc2 g ?_;have w:fe x P (64*u)=fe x P (64*u+0):=rfl;rw[w];refine cG (fun s Q=>∃ q:Nat,q+s=64/\Q=⟨[(1,.slice 0 0 N 1),(2,.ptr 1 0),(4,.ptr 2 0),(5,.ptr 3 0),(6,.i64 ((N:Int)-1-((u:Nat):Int))),(7,.i64 (63-q))],[bK (P.map .u64),bK (x.map .u64),bK [.u64 0#64,.u64 0#64,.u64 0#64,.u64 0#64,.u64 0#64],bK ((fe x P (64*u+q)).map .u64)]⟩) ?_ ?_
  .exact dh (64) ⟨[(1,.slice 0 0 N 1),(2,.ptr 1 0),(4,.ptr 2 0),(5,.ptr 3 0),(6,.i64 ((N:Int)-1-((u:Nat):Int))),(7,.i64 (63-(0:Nat)))],[bK (P.map .u64),bK (x.map .u64),bK [.u64 0#64,.u64 0#64,.u64 0#64,.u64 0#64,.u64 0#64],bK ((fe x P (64*u+(0:Nat))).map .u64)]⟩ gJ rfl (fun _ _ h=>h) ⟨0,I,rfl⟩
  rintro s Q ⟨q,O,rfl⟩ _;refine qc0 ?_;by_cases K:q<64
  .have l:(0:Int)<=63-(q:Int):=I;have L:(N:Int)-1-(u:Int)=((N-1-u:Nat):Int):=I;have M:63-(q:Int)=((63-q:Nat):Int):=I;have d:=j (64*u+q);have R:=yS x P i (64*u+q);have y:=j0 (fe x P (64*u+q)) (fe x P (64*u+q)) d d;have f:=(kK _ _ R R).1;have m:64*P.length-1-(64*u+q)=64*(N-1-u)+(63-q):=by rw[C];omega
   have b:fe x P (64*u+(q+1))=if uf P (64*P.length-1-(64*u+q)) then du (du (fe x P (64*u+q)) (fe x P (64*u+q))) x else du (fe x P (64*u+q)) (fe x P (64*u+q)):=rfl
   rw[m] at b;have D:uf P (64*(N-1-u)+(63-q))↔(P.getD (N-1-u) 0)>>>(63-q)&&&1#64=1#64:=by
    unfold uf;rw[show(64*(N-1-u)+(63-q))/64=N-1-u by omega,show(64*(N-1-u)+(63-q))%64=63-q by omega]
   have n:=j0 (du (fe x P (64*u+q)) (fe x P (64*u+q))) x f.1 i.1;have o:=(kK _ _ f i).1.1;have T:((N-1-u:Nat):Int)<(N:Int):=I;have z:N-1-u<N:=I;have A:N-1-u<P.length:=I;have p:bh (((63-q:Nat):Int)-1)=63-((q+1:Nat):Int):=by rw[bC I I];omega
   simp only[go_sem,M,L,d,bq];refine br (y) ?_;refine qd6 d f.1 @dC T z C (k9 A) p ?_;refine⟨I,I,?_⟩;by_cases a:(P.getD (N-1-u) 0)>>>(63-q)&&&1#64=1#64
   .rw[aM (D.2 a)] at b;rw[<-b] at n o;refine qc4 a i.1 ?_;refine br (n) ?_;refine qc8 o f.1 @dC p ?_;refine cH (s-1) ⟨[(1,.slice 0 0 N 1),(2,.ptr 1 0),(4,.ptr 2 0),(5,.ptr 3 0),(6,.i64 ((N-1-u:Nat):Int)),(7,.i64 (63-(((q+1:Nat):Nat):Int)))],[bK (P.map .u64),bK (x.map .u64),bK [.u64 0#64,.u64 0#64,.u64 0#64,.u64 0#64,.u64 0#64],bK ((fe x P (64*u+(q+1:Nat))).map .u64)]⟩ I ?_ rfl (fun _ _ h=>h) ⟨q+1,I,rfl⟩;have r:bh ((q:Int)+1)=((q+1:Nat):Int):=by rw[bC I I];omega
    simp[St.get,lookS]
   .rw[aq (fun e=>a (D.1 e))] at b;simp only[go_sem,seval,-BitVec.isValue,-List.reduceReplicate,-Nat.reduceSubDiff,a,<-b];refine cH (s-1) ⟨[(1,.slice 0 0 N 1),(2,.ptr 1 0),(4,.ptr 2 0),(5,.ptr 3 0),(6,.i64 ((N-1-u:Nat):Int)),(7,.i64 (63-(((q+1:Nat):Nat):Int)))],[bK (P.map .u64),bK (x.map .u64),bK [.u64 0#64,.u64 0#64,.u64 0#64,.u64 0#64,.u64 0#64],bK ((fe x P (64*u+(q+1:Nat))).map .u64)]⟩ I ?_ rfl (fun _ _ h=>h) ⟨q+1,I,rfl⟩;have r:bh ((q:Int)+1)=((q+1:Nat):Int):=by rw[bC I I];omega
    simp[St.get,lookS]
  .obtain rfl:q=64:=I;have l:¬ (0:Int)<=63-((64:Nat):Int):=I;have B:bh ((N:Int)-1-(u:Int)-1)=(N:Int)-1-((u+1:Nat):Int):=by rw[bC I I];omega
   refine qc2 B ?_;rw[show 64*u+64=64*(u+1) by omega];refine cH (v-1) ⟨[(1,.slice 0 0 N 1),(2,.ptr 1 0),(4,.ptr 2 0),(5,.ptr 3 0),(6,.i64 ((N:Int)-1-(((u+1:Nat):Nat):Int)))],[bK (P.map .u64),bK (x.map .u64),bK [.u64 0#64,.u64 0#64,.u64 0#64,.u64 0#64,.u64 0#64],bK ((fe x P (64*(u+1:Nat))).map .u64)]⟩ I ?_ rfl (fun _ _ h=>h) ⟨u+1,I,rfl⟩;have r:bh ((u:Int)+1)=((u+1:Nat):Int):=by rw[bC I I];omega
   simp[St.get,lookS]
 .obtain rfl:u=N:=I;have g:¬ (0:Int)<=(u:Int)-1-(u:Int):=I;refine qc8 g j S @dC ?_;exact Fin.bd [0] J J ci ag J J
end Go.Vm
end
section
namespace Go.Vm
open Go.Proofs
def ur:List Int:=[1,0,0,0,0,0,0,0,0,0,0,0,0,0,0,0]
theorem ok_one:dw ur:=⟨rfl,ag⟩
def qz (m:List Int)(s:Z):Nat->List Int
 |0=>ur
 |c+1=>if s.getD c 0=49#8 then jb (jb (qz m s c) (qz m s c)) m else jb (qz m s c) (qz m s c)
theorem I5 (m:List Int)(s:Z)(a:dw m)(c:Nat):dw (qz m s c):=by
 induction c with
 |zero=>exact ok_one
 |succ c ih=>
  rw[qz];split
  .exact(uc _ _ (uc _ _ ih ih).1 a).1
  .exact(uc _ _ ih ih).1
def wV (s:Z):Nat->Nat
 |0=>0
 |c+1=>if s.getD c 0=49#8 then 2*wV s c+1 else 2*wV s c
theorem Sn (m:List Int)(s:Z)(d:dw m)(c:Nat):bQ (qz m s c)%fQ=bQ m^wV s c%fQ:=by
 induction c with
 |zero=>
  show bQ ur%fQ=bQ m^0%fQ;rw[BP];decide
 |succ c ih=>
  have b:=I5 m s d c;have e:=uc _ _ b b;have f:=uc _ _ e.1 d;have a:bQ (jb (qz m s c) (qz m s c))%fQ=bQ m^(2*wV s c)%fQ:=by
   rw[e.2,oD,ih,<-oD,<-Int.pow_add,Nat.two_mul]
  rw[qz,wV];by_cases h:s.getD c 0=49#8
  .rw[aM h,aM h,f.2,oD,a,<-oD,sR]
  .rw[aq h,aq h,a]
theorem adg {a b p:Int}(h:a%p=b%p)(k:Nat):a^k%p=b^k%p:=by
 induction k with
 |zero=>rw[BP,BP]
 |succ k ih=>rw[sR,sR,oD,ih,h,<-oD]
theorem SU {x a:List aS}{m:List Int}{s:Z}(h:dH x m)(c:nh a=wV s s.length):dH (fe x a (64*a.length)) (qz m s s.length):=by
 refine⟨yS x a h.1 _,I5 m s h.2.1 _,?_⟩;have b:=aaj x a h.1 (64*a.length) (bz _);rw[k8,Ea,zt,c] at b;have d:=vp b;rw[d,Sn m s h.2.1,Int.natCast_pow];exact adg h.2.2 _
def qU (n:aS):List aS:=[n-20#64,n,n,n>>>1]
def jI:Z:=List.replicate 250 49#8++[48#8,49#8,48#8,49#8,49#8]
theorem Rd:nh (qU 18446744073709551615#64)=wV jI jI.length:=U
def Dw (m:List Int):List Int:=qz m jI jI.length
end Go.Vm
end
section
namespace Go.Vm
open Go.Proofs Go.Proofs.Tryz
def il (s:Z):Z:=(s.set 0 (s.getD 0 0&&&248#8)).set 31 ((s.getD 31 0&&&127#8)|||64#8)
theorem KZ (s:Z):bE prog 53 [.str s] (.aZ (if s.length=32 then[.str (il s),.i64 0] else[.str [],.i64 1])):=by
 by_cases h:s.length=32
 .rw[aM h];refine ai func53 ?_;simp only[go_sem,seval,-BitVec.isValue,-List.reduceReplicate,-Nat.reduceSubDiff,ntmps53,results53,h,nB];rw[bq (by simp[h])];have e:(s.set 0 (s.getD 0 0&&&248#8)).getD 31 0=s.getD 31 0:=by simp[bY]
  rw[e];rfl
 .rw[aq h];have a:¬ (s.length:Int)=32:=I;refine ai func53 ?_;simp only[go_sem,seval,-BitVec.isValue,-List.reduceReplicate,-Nat.reduceSubDiff,ntmps53,results53,a]
abbrev Pt:=List Int×List Int
def iF (p:Pt):Prop:=dw p.1/\dw p.2
theorem yD {a b:List Int}{t:Int}(c:dw a)(d:dw b)(ht:-1<=t/\t<=200000):dw (nI a b t):=(uY a b t c d ht).1
theorem vq {a b:List Int}(c:dw a)(d:dw b):dw (jb a b):=(uc a b c d).1
def pS (p:Pt):List Int:=nI p.1 p.2 1
def pD (p:Pt):List Int:=nI p.1 p.2 (-1)
def dA (p:Pt):List Int:=jb (pS p) (pS p)
def dB (p:Pt):List Int:=jb (pD p) (pD p)
def dE (p:Pt):List Int:=nI (dA p) (dB p) (-1)
def dF (p:Pt):List Int:=nI (dA p) (dE p) 121665
def uG (p:Pt):Pt:=(jb (dA p) (dB p),jb (dE p) (dF p))
def zO (p q:Pt):List Int:=jb (pD p) (pS q)
def AI (p q:Pt):List Int:=jb (pS p) (pD q)
def aC (p q:Pt):List Int:=nI (zO p q) (AI p q) 1
def aD (p q:Pt):List Int:=nI (zO p q) (AI p q) (-1)
def x8 (p q:Pt):List Int:=jb (aD p q) (aD p q)
def sa (p q:Pt)(x:List Int):Pt:=(jb (aC p q) (aC p q),jb x (x8 p q))
theorem wL {p:Pt}(h:iF p):dw (pS p):=yD h.1 h.2 ag
theorem wk {p:Pt}(h:iF p):dw (pD p):=yD h.1 h.2 ag
theorem zJ {p:Pt}(h:iF p):dw (dA p):=vq (wL h) (wL h)
theorem Ez {p:Pt}(h:iF p):dw (dB p):=vq (wk h) (wk h)
theorem Eh {p:Pt}(h:iF p):dw (dE p):=yD (zJ h) (Ez h) ag
theorem OL {p:Pt}(h:iF p):dw (dF p):=yD (zJ h) (Eh h) ag
theorem Rs {p:Pt}(h:iF p):iF (uG p):=by
 dsimp only[iF,uG];exact⟨vq (zJ h) (Ez h),vq (Eh h) (OL h)⟩
theorem Ey {p q:Pt}(a:iF p)(b:iF q):dw (zO p q):=vq (wk a) (wL b)
theorem Em {p q:Pt}(a:iF p)(b:iF q):dw (AI p q):=vq (wL a) (wk b)
theorem De {p q:Pt}(a:iF p)(b:iF q):dw (aC p q):=yD (Ey a b) (Em a b) ag
theorem Fk {p q:Pt}(a:iF p)(b:iF q):dw (aD p q):=yD (Ey a b) (Em a b) ag
theorem Tj {p q:Pt}(a:iF p)(b:iF q):dw (x8 p q):=vq (Fk a b) (Fk a b)
theorem Ml {p q:Pt}{x:List Int}(a:iF p)(b:iF q)(c:dw x):iF (sa p q x):=by
 dsimp only[iF,sa];exact⟨vq (De a b) (De a b),vq c (Tj a b)⟩
end Go.Vm
end
section
namespace Go.Vm
open Go.Proofs
def kO (x:List Int)(bits:Z):Nat->Pt×Pt
 |0=>((ur,List.replicate 16 0),(x,ur))
 |c+1=>if bits.getD c 0=48#8 then(uG (kO x bits c).1,sa (kO x bits c).1 (kO x bits c).2 x) else(sa (kO x bits c).1 (kO x bits c).2 x,uG (kO x bits c).2)
theorem NU:dw (List.replicate 16 0):=⟨rfl,ag⟩
theorem QR (x:List Int)(b:Z)(a:dw x)(c:Nat):iF (kO x b c).1/\iF (kO x b c).2:=by
 induction c with
 |zero=>exact⟨⟨ok_one,NU⟩,⟨a,ok_one⟩⟩
 |succ c ih=>
  rw[kO];split
  .exact⟨Rs ih.1,Ml ih.1 ih.2 a⟩
  .exact⟨Ml ih.1 ih.2 a,Rs ih.2⟩
section
theorem NB {r s:List aS}{m n:List Int}(h:dH r m)(k:dH s n):dH (du r s) (jb n m):=by
 obtain⟨c,d⟩:=kK r s h.1 k.1;obtain⟨a,b⟩:=uc n m k.2.1 h.2.1;refine⟨c,a,?_⟩;rw[b,vp d,zL,yg,oD,h.2.2,k.2.2,<-oD]
theorem agb {r s:List aS}{m n:List Int}(h:dH r m)(k:dH s n):dH (mh r s) (nI n m 1):=by
 obtain⟨c,d⟩:=xJ r s h.1 k.1;obtain⟨a,b⟩:=uY n m 1 k.2.1 h.2.1 ag;refine⟨c,a,?_⟩;rw[b,vp d,yY,Int.add_comm,xS,h.2.2,k.2.2,<-xS,Int.one_mul]
def JX (r:List aS)(m:List Int):Prop:=sm r/\dw m/\((bV r:Nat):Int)%fQ=(-bQ m)%fQ
theorem UC {a b p:Int}(h:a%p=b%p):(-a)%p=(-b)%p:=by rw[<-Int.zero_sub a,<-Int.zero_sub b,AZ,h,<-AZ]
theorem TI {a b c d p:Int}(h:a%p=b%p)(k:c%p=d%p):(a-c)%p=(b-d)%p:=by rw[AZ,h,k,<-AZ]
theorem Ui {r s:List aS}{m n:List Int}(h:dH r m)(k:dH s n):JX (mc r s) (nI n m (-1)):=by
 obtain⟨f,g⟩:=AX r s h.1 k.1;obtain⟨b,c⟩:=uY n m (-1) k.2.1 h.2.1 ag;refine⟨f,b,?_⟩;have d:=TI h.2.2 k.2.2;have a:=UC c;have e:-(bQ n+-1*bQ m)=bQ m-bQ n:=I;rw[e] at a;exact(g.trans d).trans a.symm
theorem U5 {r:List aS}{m:List Int}(h:JX r m):dH (du r r) (jb m m):=by
 obtain⟨c,d⟩:=kK r r h.1 h.1;obtain⟨a,b⟩:=uc m m h.2.1 h.2.1;refine⟨c,a,?_⟩;rw[b,vp d,zL,oD,h.2.2,<-oD,Int.neg_mul_neg]
def a24:List aS:=[121665#64,0#64,0#64,0#64,0#64]
theorem OG:sm a24:=⟨rfl,fun x a=>by
 simp only[a24,gz,xA,or_false,or_self] at a;rcases a with rfl|rfl
 .exact xr (bz 121665) I
 .exact xr (bz 0) I⟩
theorem acW {r s:List aS}{m n:List Int}(h:dH r m)(k:dH s n):dH (mh r (du a24 s)) (nI m n 121665):=by
 obtain⟨d,c⟩:=kK a24 s OG k.1;obtain⟨f,g⟩:=xJ r (du a24 s) h.1 d;obtain⟨a,b⟩:=uY m n 121665 h.2.1 k.2.1 ag;refine⟨f,a,?_⟩;have e:bV a24=121665:=rfl;rw[e] at c;rw[b,vp g,yY,xS,h.2.2,vp c,zL,oD ((121665:Nat):Int),k.2.2,<-oD,<-xS];rfl
def kA (x z:List aS):=mh x z
def kB (x z:List aS):=mc x z
def nw (x z:List aS):=du (kA x z) (kA x z)
def pZ (x z:List aS):=du (kB x z) (kB x z)
def kE (x z:List aS):=mc (nw x z) (pZ x z)
def kT (x z:List aS):=du a24 (kE x z)
def kU (x z:List aS):=mh (nw x z) (kT x z)
def px (x z:List aS):=du (nw x z) (pZ x z)
def oz (x z:List aS):=du (kE x z) (kU x z)
def oS (x2 z2 x3 z3:List aS):=du (kB x3 z3) (kA x2 z2)
def oJ (x2 z2 x3 z3:List aS):=du (kA x3 z3) (kB x2 z2)
def kX (x2 z2 x3 z3:List aS):=mh (oS x2 z2 x3 z3) (oJ x2 z2 x3 z3)
def nQ (x2 z2 x3 z3:List aS):=du (kX x2 z2 x3 z3) (kX x2 z2 x3 z3)
def kZ (x2 z2 x3 z3:List aS):=mc (oS x2 z2 x3 z3) (oJ x2 z2 x3 z3)
def rF (x2 z2 x3 z3:List aS):=du (kZ x2 z2 x3 z3) (kZ x2 z2 x3 z3)
def nz (x x2 z2 x3 z3:List aS):=du x (rF x2 z2 x3 z3)
def eO (x z:List aS)(p:Pt):Prop:=dH x p.1/\dH z p.2
theorem y9 {x z:List aS}{p:Pt}(h:eO x z p):dH (kA x z) (pS p):=MP h.1 h.2
theorem Au {x z:List aS}{p:Pt}(h:eO x z p):dH (kB x z) (pD p):=IV h.1 h.2
theorem Hu {x z:List aS}{p:Pt}(h:eO x z p):dH (nw x z) (dA p):=qy (y9 h) (y9 h)
theorem Qx {x z:List aS}{p:Pt}(h:eO x z p):dH (pZ x z) (dB p):=qy (Au h) (Au h)
theorem O2 {x z:List aS}{p:Pt}(h:eO x z p):dH (kE x z) (dE p):=IV (Hu h) (Qx h)
theorem ajC {x z:List aS}{p:Pt}(h:eO x z p):dH (kU x z) (dF p):=acW (Hu h) (O2 h)
theorem aj4 {x z:List aS}{p:Pt}(h:eO x z p):dH (px x z) (jb (dA p) (dB p)):=qy (Hu h) (Qx h)
theorem af6 {x z:List aS}{p:Pt}(h:eO x z p):dH (oz x z) (jb (dE p) (dF p)):=qy (O2 h) (ajC h)
theorem FF {x z:List aS}{p:Pt}(h:eO x z p):eO (px x z) (oz x z) (uG p):=by
 dsimp only[eO,uG];exact⟨aj4 h,af6 h⟩
section
variable {x2 z2 x3 z3 x:List aS}{p q:Pt}{m:List Int}
theorem OF (h:eO x2 z2 p)(k:eO x3 z3 q):dH (oS x2 z2 x3 z3) (AI p q):=NB (Au k) (y9 h)
theorem R0 (h:eO x2 z2 p)(k:eO x3 z3 q):dH (oJ x2 z2 x3 z3) (zO p q):=NB (y9 k) (Au h)
theorem Oj (h:eO x2 z2 p)(k:eO x3 z3 q):dH (oS x2 z2 x3 z3) (zO q p):=qy (Au k) (y9 h)
theorem Mb (h:eO x2 z2 p)(k:eO x3 z3 q):dH (oJ x2 z2 x3 z3) (AI q p):=qy (y9 k) (Au h)
theorem PR (h:eO x2 z2 p)(k:eO x3 z3 q):dH (kX x2 z2 x3 z3) (aC p q):=agb (OF h k) (R0 h k)
theorem QE (h:eO x2 z2 p)(k:eO x3 z3 q):dH (kX x2 z2 x3 z3) (aC q p):=MP (Oj h k) (Mb h k)
theorem ag5 (h:eO x2 z2 p)(k:eO x3 z3 q):JX (kZ x2 z2 x3 z3) (aD p q):=Ui (OF h k) (R0 h k)
theorem Lz (h:eO x2 z2 p)(k:eO x3 z3 q):dH (kZ x2 z2 x3 z3) (aD q p):=IV (Oj h k) (Mb h k)
theorem OA (h:eO x2 z2 p)(k:eO x3 z3 q)(a:dH x m):eO (nQ x2 z2 x3 z3) (nz x x2 z2 x3 z3) (sa p q m):=by
 have b:dH (nQ x2 z2 x3 z3) (jb (aC p q) (aC p q)):=qy (PR h k) (PR h k);have c:dH (rF x2 z2 x3 z3) (x8 p q):=U5 (ag5 h k);have d:dH (nz x x2 z2 x3 z3) (jb m (x8 p q)):=qy a c;dsimp only[eO,sa];exact⟨b,d⟩
theorem RO (h:eO x2 z2 p)(k:eO x3 z3 q)(a:dH x m):eO (nQ x2 z2 x3 z3) (nz x x2 z2 x3 z3) (sa q p m):=by
 have b:dH (nQ x2 z2 x3 z3) (jb (aC q p) (aC q p)):=qy (QE h k) (QE h k);have c:dH (rF x2 z2 x3 z3) (x8 q p):=qy (Lz h k) (Lz h k);have d:dH (nz x x2 z2 x3 z3) (jb m (x8 q p)):=qy a c;dsimp only[eO,sa];exact⟨b,d⟩
end
structure L4 where
 x2:List aS
 z2:List aS
 x3:List aS
 z3:List aS
 sw:BitVec 8
def jM (x x2 z2 x3 z3:List aS)(a:BitVec 8):L4:=⟨px x2 z2,oz x2 z2,nQ x2 z2 x3 z3,nz x x2 z2 x3 z3,a⟩
def uL (x:List aS)(L:L4)(a:BitVec 8):L4:=if a=L.sw then jM x L.x2 L.z2 L.x3 L.z3 a else jM x L.x3 L.z3 L.x2 L.z2 a
def nr (Q:Z)(t:Nat):BitVec 8:=(Q.getD (t/8) 0)>>>(t%8)&&&1#8
theorem WI (Q:Z)(t:Nat):nr Q t=0#8\/nr Q t=1#8:=by
 have h:(nr Q t).toNat<2:=by
  unfold nr;rw[tP,show(1#8).toNat=2^1-1 from rfl,xk];omega
 have :(nr Q t).toNat=0\/(nr Q t).toNat=1:=I;rcases this with e|e
 .exact .inl (iU e)
 .exact .inr (iU e)
def cU (x:List aS)(Q:Z):Nat->L4
 |0=>⟨iv,List.replicate 5 0#64,x,iv,0#8⟩
 |c+1=>uL x (cU x Q c) (nr Q (254-c))
def yo (Q:Z)(t:Nat):BitVec 8:=if nr Q t=0#8 then 48#8 else 49#8
def lj (Q:Z):Nat->Z
 |0=>[]
 |c+1=>lj Q c++[yo Q (254-c)]
theorem abN (Q:Z)(c:Nat):(lj Q c).length=c:=by
 induction c with
 |zero=>rfl
 |succ c ih=>rw[lj,bA,ih];rfl
theorem Nv (Q:Z)(n:Nat):∀ c,c<n->(lj Q n).getD c 0=yo Q (254-c):=by
 induction n with
 |zero=>intro c h;omega
 |succ n ih=>
  intro c h;have a:=abN Q n;rw[lj];by_cases b:c<n
  .rw[bY,kY I,<-bY,ih c b]
  .obtain rfl:c=n:=I;rw[bY,iy I,a,k8];rfl
def RL (L:L4)(a:Pt×Pt):Prop:=(L.sw=0#8/\eO L.x2 L.z2 a.1/\eO L.x3 L.z3 a.2)\/(L.sw=1#8/\eO L.x3 L.z3 a.1/\eO L.x2 L.z2 a.2)
theorem Mu {x a b c d:List aS}{p q:Pt}(h:eO (px a b) (oz a b) p)(k:eO (nQ a b c d) (nz x a b c d) q):RL (jM x a b c d 0#8) (p,q):=by
 dsimp only[RL,jM];exact .inl ⟨Eq.refl (0#8:BitVec 8),h,k⟩
theorem Nw {x a b c d:List aS}{p q:Pt}(h:eO (px a b) (oz a b) q)(k:eO (nQ a b c d) (nz x a b c d) p):RL (jM x a b c d 1#8) (p,q):=by
 dsimp only[RL,jM];exact .inr ⟨Eq.refl (1#8:BitVec 8),k,h⟩
theorem Mn:dH iv ur:=⟨FL,ok_one,ag⟩
theorem S6:dH (List.replicate 5 0#64) (List.replicate 16 0):=⟨⟨rfl,fun x a=>by rw[List.eq_of_mem_replicate a];exact xr (bz 0) I⟩,NU,ag⟩
theorem aeE (x:List aS)(m:List Int)(Q:Z)(e:dH x m)(n:Nat):∀ c,c<=n->RL (cU x Q c) (kO m (lj Q n) c):=by
 intro c;induction c with
 |zero=>intro _;exact .inl ⟨rfl,⟨Mn,S6⟩,⟨e,Mn⟩⟩
 |succ c ih=>
  intro u;have ih:=ih I;have t:=Nv Q n c I;have k:=WI Q (254-c);rw[cU,kO,t];generalize cU x Q c=L at*;generalize (kO m (lj Q n) c)=l at*;obtain⟨p,q⟩:=l;dsimp only at ih |-
  have j:yo Q (254-c)=if nr Q (254-c)=0#8 then 48#8 else 49#8:=rfl
  rw[j];clear j t;have f:∀ b,b=L.sw->uL x L b=jM x L.x2 L.z2 L.x3 L.z3 b:=fun b d=>by unfold uL;rw[aM d]
  have g:∀ b,¬ b=L.sw->uL x L b=jM x L.x3 L.z3 L.x2 L.z2 b:=fun b d=>by unfold uL;rw[aq d]
  generalize nr Q (254-c)=s at*;have h:s=0#8\/s=1#8:=by assumption
  rcases h with d|d
  .subst d;have i:(if(0#8:BitVec 8)=0#8 then(48#8:BitVec 8) else 49#8)=48#8:=ag;rw[i,aM (Eq.refl (48#8:BitVec 8))];rcases ih with⟨r,o,a⟩|⟨r,o,a⟩
   .rw[f _ r.symm];exact Mu (FF o) (OA o a e)
   .rw[g _ (by rw[r];decide)];exact Mu (FF o) (OA o a e)
  .subst d;have i:(if(1#8:BitVec 8)=0#8 then(48#8:BitVec 8) else 49#8)=49#8:=ag;rw[i,aq (by decide:¬ (49#8:BitVec 8)=48#8)];rcases ih with⟨r,o,a⟩|⟨r,o,a⟩
   .rw[g _ (by rw[r];decide)];exact Nw (FF a) (RO a o e)
   .rw[f _ r.symm];exact Nw (FF a) (RO a o e)
end
end Go.Vm
end
section
namespace Go.Vm
open Go.Proofs Go.Proofs.Tryz
theorem aiW (x:List aS)(Q:Z)(p:sm x)(c:Nat):sm (cU x Q c).x2/\sm (cU x Q c).z2/\sm (cU x Q c).x3/\sm (cU x Q c).z3:=by
 have E:∀ a b c d D,sm a->sm b->sm c->sm d->sm (jM x a b c d D).x2/\sm (jM x a b c d D).z2/\sm (jM x a b c d D).x3/\sm (jM x a b c d D).z3:=by
  intro a b c d D q r F s;have i:sm (kA a b):=(xJ a b q r).1;have j:sm (kB a b):=(AX a b q r).1;have z:sm (kA c d):=(xJ c d F s).1;have A:sm (kB c d):=(AX c d F s).1;have e:sm (nw a b):=(kK _ _ i i).1;have f:sm (pZ a b):=(kK _ _ j j).1;have t:sm (kE a b):=(AX _ _ e f).1;have B:sm (kT a b):=(kK _ _ OG t).1;have C:sm (kU a b):=(xJ _ _ e B).1;have k:sm (px a b):=(kK _ _ e f).1;have l:sm (oz a b):=(kK _ _ t C).1;have g:sm (oS a b c d):=(kK _ _ A i).1;have h:sm (oJ a b c d):=(kK _ _ z j).1;have u:sm (kX a b c d):=(xJ _ _ g h).1;have m:sm (nQ a b c d):=(kK _ _ u u).1;have v:sm (kZ a b c d):=(AX _ _ g h).1;have n:sm (rF a b c d):=(kK _ _ v v).1;have o:sm (nz x a b c d):=(kK _ _ p n).1;dsimp only[jM];exact⟨k,l,m,o⟩
 induction c with
 |zero=>exact⟨FL,S6.1,p,FL⟩
 |succ c ih=>
  obtain⟨G,H,w,y⟩:=ih;rw[cU];unfold uL;split
  .exact E _ _ _ _ _ G H w y
  .exact E _ _ _ _ _ w y G H
theorem Ox (x a b c d:List aS)(e:BitVec 8):(jM x a b c d e).x2=px a b:=by dsimp only[jM]
theorem LF (x a b c d:List aS)(e:BitVec 8):(jM x a b c d e).z2=oz a b:=by dsimp only[jM]
theorem MB (x a b c d:List aS)(e:BitVec 8):(jM x a b c d e).x3=nQ a b c d:=by dsimp only[jM]
theorem P6 (x a b c d:List aS)(e:BitVec 8):(jM x a b c d e).z3=nz x a b c d:=by dsimp only[jM]
theorem PS (x a b c d:List aS)(e:BitVec 8):(jM x a b c d e).sw=e:=by dsimp only[jM]
theorem vR (a b:List aS)(h:a.length=5):(mh a b).length=5:=by unfold mh;rw[sK,DE,h]
theorem wi (a b:List aS)(h:a.length=5):(mc a b).length=5:=by unfold mc;rw[sK,DC,h]
theorem mv (a b:List aS):(du a b).length=5:=by
 unfold du ui;rw[sK,b7,b7,Bv,AS]
theorem ae9 (Q Z97:Z)(hQ:Q.length=32)(hU:Z97.length=32):bE prog 54 [.str Q,.str Z97] (.str (bX (bV (du (if(cU (jo Z97) Q 255).sw=1#8 then(cU (jo Z97) Q 255).x3 else(cU (jo Z97) Q 255).x2) (fe (if(cU (jo Z97) Q 255).sw=1#8 then(cU (jo Z97) Q 255).z3 else(cU (jo Z97) Q 255).z2) (qU 18446744073709551615#64) (64*4)))%Pq) 32)):=by
 have a7:(Q.length:Int)=32:=I;have hr:=V8 Z97 hU;have N:=(M1 Z97 hU).1;generalize jo Z97=x at hr N |-
 have O:=N.1;have hm:min 5 5=5:=rfl;have n:a24.length=5:=rfl;have c3:iv.length=5:=rfl;have K:=OO;have e6:[V.u64 121665#64,V.u64 0#64,V.u64 0#64,V.u64 0#64,V.u64 0#64]=a24.map .u64:=rfl;have e7:[V.u64 0#64,V.u64 0#64,V.u64 0#64,V.u64 0#64,V.u64 0#64]=(List.replicate 5 0#64).map .u64:=rfl;refine ai func54 ?_;simp only[go_sem,seval,-BitVec.isValue,ntmps54];refine br (hr) ?_;refine qc4 O @dC ?_;refine bZ (K) ?_;refine qc2 O ?_;refine bZ (K) ?_;refine qc6 O c3 @dC ?_;refine⟨U,?_⟩;refine cG (fun jc st=>∃ c:Nat,c+jc=255/\st=⟨[(0,.str Q),(5,.ptr 0 0),(7,.ptr 1 0),(8,.ptr 2 0),(9,.ptr 3 0),(10,.ptr 4 0),(11,.ptr 5 0),(12,.u8 (cU x Q c).sw),(13,.i64 (254-((c:Nat):Int)))],[bK ((x).map .u64),bK ((a24).map .u64),bK (((cU x Q c).x2).map .u64),bK (((cU x Q c).z2).map .u64),bK (((cU x Q c).x3).map .u64),bK (((cU x Q c).z3).map .u64)]⟩) ?_ ?_
 .exact dh (255) ⟨[(0,.str Q),(5,.ptr 0 0),(7,.ptr 1 0),(8,.ptr 2 0),(9,.ptr 3 0),(10,.ptr 4 0),(11,.ptr 5 0),(12,.u8 (cU x Q (0:Nat)).sw),(13,.i64 (254-(((0:Nat):Nat):Int)))],[bK ((x).map .u64),bK ((a24).map .u64),bK (((cU x Q (0:Nat)).x2).map .u64),bK (((cU x Q (0:Nat)).z2).map .u64),bK (((cU x Q (0:Nat)).x3).map .u64),bK (((cU x Q (0:Nat)).z3).map .u64)]⟩ (by simp[St.get,lookS,cU,iv,List.replicate]) rfl (fun _ _ h=>h) ⟨0,I,rfl⟩
 rintro jc st ⟨c,hc,rfl⟩ _;refine qc0 ?_;obtain⟨s1,s2,s3,s4⟩:=aiW x Q N c;by_cases h0:c<255
 .have c4:(0:Int)<=254-(c:Int):=I;have ec:254-(c:Int)=((254-c:Nat):Int):=I;have e1:bh (((254-c:Nat):Int)-1)=254-((c+1:Nat):Int):=by rw[bC I I];omega
  have E:uL x (cU x Q c) (nr Q (254-c))=cU x Q (c+1):=rfl;have m1:bh (((254-c:Nat):Int).tdiv 8)=(((254-c)/8:Nat):Int):=by rw[show(8:Int)=((8:Nat):Int) from rfl,Mk,bC I I]
  have m2:((254-c:Nat):Int).tmod 8=(((254-c)%8:Nat):Int):=rfl;have g1:(((254-c)/8:Nat):Int)<32:=I;have z1:(0:Int)<=(((254-c)/8:Nat):Int):=I;have z2:(0:Int)<=(((254-c)%8:Nat):Int):=I;have M:(Q.getD ((254-c)/8) 0)>>>((254-c)%8)&&&1#8=nr Q (254-c):=rfl;generalize nr Q (254-c)=D at*;generalize hL:cU x Q c=L at*;obtain⟨d,a,e,b,sw⟩:=L;have j:=s1.1;have o:=s2.1;have m:=s3.1;have p:=s4.1;dsimp only at*;by_cases r:D=sw
  .have f:cU x Q (c+1)=jM x d a e b D:=by rw[<-E];unfold uL;rw[aM r]
   have n1:(cU x Q (c+1)).x2=px d a:=by rw[f,Ox]
   have n2:(cU x Q (c+1)).z2=oz d a:=by rw[f,LF]
   have n3:(cU x Q (c+1)).x3=nQ d a e b:=by rw[f,MB]
   have n4:(cU x Q (c+1)).z3=nz x d a e b:=by rw[f,P6]
   have n5:(cU x Q (c+1)).sw=D:=by rw[f,PS]
   clear E f;have tA:=xa d a j o;rw[show mh d a=kA d a from rfl] at tA;have s:(kA d a).length=5:=vR _ _ j;have tB:=wP d a j o;rw[show mc d a=kB d a from rfl] at tB;have q:(kB d a).length=5:=wi _ _ j;have t:=j0 _ _ s s;rw[show du (kA d a) (kA d a)=nw d a from rfl] at t;have g:(nw d a).length=5:=mv _ _;have u:=j0 _ _ q q;rw[show du (kB d a) (kB d a)=pZ d a from rfl] at u;have k:(pZ d a).length=5:=mv _ _;have tE:=wP _ _ g k;rw[show mc (nw d a) (pZ d a)=kE d a from rfl] at tE;have F:(kE d a).length=5:=wi _ _ g;have tC:=xa e b m p;rw[show mh e b=kA e b from rfl] at tC;have R:(kA e b).length=5:=vR _ _ m;have tD:=wP e b m p;rw[show mc e b=kB e b from rfl] at tD;have lD:(kB e b).length=5:=wi _ _ m;have v:=j0 _ _ lD s;rw[show du (kB e b) (kA d a)=oS d a e b from rfl] at v;have i:(oS d a e b).length=5:=mv _ _;have w:=j0 _ _ R q;rw[show du (kA e b) (kB d a)=oJ d a e b from rfl] at w;have l:(oJ d a e b).length=5:=mv _ _;have tX:=xa _ _ i l;rw[show mh (oS d a e b) (oJ d a e b)=kX d a e b from rfl] at tX;have G:(kX d a e b).length=5:=vR _ _ i;have y:=j0 _ _ G G;rw[show du (kX d a e b) (kX d a e b)=nQ d a e b from rfl] at y;have S:(nQ d a e b).length=5:=mv _ _;have tZ:=wP _ _ i l;rw[show mc (oS d a e b) (oJ d a e b)=kZ d a e b from rfl] at tZ;have H:(kZ d a e b).length=5:=wi _ _ i;have z:=j0 _ _ H H;rw[show du (kZ d a e b) (kZ d a e b)=rF d a e b from rfl] at z;have T:(rF d a e b).length=5:=mv _ _;have A:=j0 _ _ O T;rw[show du x (rF d a e b)=nz x d a e b from rfl] at A;have W:(nz x d a e b).length=5:=mv _ _;have B:=j0 _ _ g k;rw[show du (nw d a) (pZ d a)=px d a from rfl] at B;have X:(px d a).length=5:=mv _ _;have tT:=j0 _ _ n F;rw[show du a24 (kE d a)=kT d a from rfl] at tT;have lT:(kT d a).length=5:=mv _ _;have tU:=xa _ _ g lT;rw[show mh (nw d a) (kT d a)=kU d a from rfl] at tU;have lU:(kU d a).length=5:=vR _ _ g;have C:=j0 _ _ F lU;rw[show du (kE d a) (kU d a)=oz d a from rfl] at C;have Y:(oz d a).length=5:=mv _ _;generalize oz d a=b0 at*;generalize kU d a=c6 at*;generalize kT d a=c7 at*;generalize px d a=b2 at*;generalize nz x d a e b=b3 at*;generalize rF d a e b=b4 at*;generalize kZ d a e b=c8 at*;generalize nQ d a e b=b5 at*;generalize kX d a e b=c9 at*;generalize oJ d a e b=b6 at*;generalize oS d a e b=c0 at*;generalize kB e b=e0 at*;generalize kA e b=e2 at*;generalize kE d a=e3 at*;generalize pZ d a=c1 at*;generalize nw d a=c2 at*;generalize kB d a=e4 at*;generalize kA d a=e5 at*;simp only[go_sem,seval,-BitVec.isValue,ec,m1,m2,g1,z1,z2,a7,M,r,j,o,m,p,hm,dC,bq];refine bZ (tA) ?_;refine qc4 j o ?_;refine bZ (tB) ?_;refine qc6 s q @dC ?_;refine⟨U,?_⟩;refine bZ (t) ?_;refine qc2 q ?_;refine bZ (u) ?_;refine qc6 g k @dC ?_;refine⟨U,?_⟩;refine br (tE) ?_;refine qc8 m p F @dC ?_;refine bZ (tC) ?_;refine qc4 m p ?_;refine bZ (tD) ?_;refine qc8 s R lD @dC ?_;refine⟨U,?_⟩;refine bZ (v) ?_;refine qc4 q R ?_;refine bZ (w) ?_;refine qc6 i l @dC ?_;refine⟨U,?_⟩;refine br (tX) ?_;refine qc6 m G @dC ?_;refine br (y) ?_;refine qd0 i l G S @dC ?_;refine br (tZ) ?_;refine qc8 O p H @dC ?_;refine bZ (z) ?_;refine qc0 ?_;refine bZ (A) ?_;refine qd0 g k H W @dC ?_;refine⟨U,?_⟩;refine br (B) ?_;refine qd2 n j g F X @dC ?_;refine bZ (tT) ?_;refine qc0 ?_;refine bZ (tU) ?_;refine qc0 ?_;refine bZ (C) ?_;refine qc8 o Y @dC e1 ?_;refine⟨U,?_⟩;have c5:bh ((c:Int)+1)=((c+1:Nat):Int):=by rw[bC I I];omega
   refine lc (jc-1) ⟨[(0,.str Q),(5,.ptr 0 0),(7,.ptr 1 0),(8,.ptr 2 0),(9,.ptr 3 0),(10,.ptr 4 0),(11,.ptr 5 0),(12,.u8 (cU x Q (c+1:Nat)).sw),(13,.i64 (254-(((c+1:Nat):Nat):Int)))],[bK ((x).map .u64),bK ((a24).map .u64),bK (((cU x Q (c+1:Nat)).x2).map .u64),bK (((cU x Q (c+1:Nat)).z2).map .u64),bK (((cU x Q (c+1:Nat)).x3).map .u64),bK (((cU x Q (c+1:Nat)).z3).map .u64)]⟩ [0,1,2,3,4,5] I rfl J rfl ag (by simp[iC,St.get,lookS,n1,n2,n3,n4,n5,r]) (by simp[n1,n2,n3,n4]) ⟨c+1,I,rfl⟩
  .have f:cU x Q (c+1)=jM x e b d a D:=by rw[<-E];unfold uL;rw[aq r]
   have n1:(cU x Q (c+1)).x2=px e b:=by rw[f,Ox]
   have n2:(cU x Q (c+1)).z2=oz e b:=by rw[f,LF]
   have n3:(cU x Q (c+1)).x3=nQ e b d a:=by rw[f,MB]
   have n4:(cU x Q (c+1)).z3=nz x e b d a:=by rw[f,P6]
   have n5:(cU x Q (c+1)).sw=D:=by rw[f,PS]
   clear E f;have tA:=xa e b m p;rw[show mh e b=kA e b from rfl] at tA;have s:(kA e b).length=5:=vR _ _ m;have tB:=wP e b m p;rw[show mc e b=kB e b from rfl] at tB;have q:(kB e b).length=5:=wi _ _ m;have t:=j0 _ _ s s;rw[show du (kA e b) (kA e b)=nw e b from rfl] at t;have g:(nw e b).length=5:=mv _ _;have u:=j0 _ _ q q;rw[show du (kB e b) (kB e b)=pZ e b from rfl] at u;have k:(pZ e b).length=5:=mv _ _;have tE:=wP _ _ g k;rw[show mc (nw e b) (pZ e b)=kE e b from rfl] at tE;have F:(kE e b).length=5:=wi _ _ g;have tC:=xa d a j o;rw[show mh d a=kA d a from rfl] at tC;have R:(kA d a).length=5:=vR _ _ j;have tD:=wP d a j o;rw[show mc d a=kB d a from rfl] at tD;have lD:(kB d a).length=5:=wi _ _ j;have v:=j0 _ _ lD s;rw[show du (kB d a) (kA e b)=oS e b d a from rfl] at v;have i:(oS e b d a).length=5:=mv _ _;have w:=j0 _ _ R q;rw[show du (kA d a) (kB e b)=oJ e b d a from rfl] at w;have l:(oJ e b d a).length=5:=mv _ _;have tX:=xa _ _ i l;rw[show mh (oS e b d a) (oJ e b d a)=kX e b d a from rfl] at tX;have G:(kX e b d a).length=5:=vR _ _ i;have y:=j0 _ _ G G;rw[show du (kX e b d a) (kX e b d a)=nQ e b d a from rfl] at y;have S:(nQ e b d a).length=5:=mv _ _;have tZ:=wP _ _ i l;rw[show mc (oS e b d a) (oJ e b d a)=kZ e b d a from rfl] at tZ;have H:(kZ e b d a).length=5:=wi _ _ i;have z:=j0 _ _ H H;rw[show du (kZ e b d a) (kZ e b d a)=rF e b d a from rfl] at z;have T:(rF e b d a).length=5:=mv _ _;have A:=j0 _ _ O T;rw[show du x (rF e b d a)=nz x e b d a from rfl] at A;have W:(nz x e b d a).length=5:=mv _ _;have B:=j0 _ _ g k;rw[show du (nw e b) (pZ e b)=px e b from rfl] at B;have X:(px e b).length=5:=mv _ _;have tT:=j0 _ _ n F;rw[show du a24 (kE e b)=kT e b from rfl] at tT;have lT:(kT e b).length=5:=mv _ _;have tU:=xa _ _ g lT;rw[show mh (nw e b) (kT e b)=kU e b from rfl] at tU;have lU:(kU e b).length=5:=vR _ _ g;have C:=j0 _ _ F lU;rw[show du (kE e b) (kU e b)=oz e b from rfl] at C;have Y:(oz e b).length=5:=mv _ _;generalize oz e b=b0 at*;generalize kU e b=c6 at*;generalize kT e b=c7 at*;generalize px e b=b2 at*;generalize nz x e b d a=b3 at*;generalize rF e b d a=b4 at*;generalize kZ e b d a=c8 at*;generalize nQ e b d a=b5 at*;generalize kX e b d a=c9 at*;generalize oJ e b d a=b6 at*;generalize oS e b d a=c0 at*;generalize kB d a=e0 at*;generalize kA d a=e2 at*;generalize kE e b=e3 at*;generalize pZ e b=c1 at*;generalize nw e b=c2 at*;generalize kB e b=e4 at*;generalize kA e b=e5 at*;simp only[go_sem,seval,-BitVec.isValue,ec,m1,m2,g1,z1,z2,a7,M,r,j,o,m,p,hm,dC,bq];refine⟨U,?_⟩;refine bZ (tA) ?_;refine qc4 m p ?_;refine bZ (tB) ?_;refine qc6 s q @dC ?_;refine⟨U,?_⟩;refine bZ (t) ?_;refine qc2 q ?_;refine bZ (u) ?_;refine qc6 g k @dC ?_;refine⟨U,?_⟩;refine br (tE) ?_;refine qc8 j o F @dC ?_;refine bZ (tC) ?_;refine qc4 j o ?_;refine bZ (tD) ?_;refine qc8 s R lD @dC ?_;refine⟨U,?_⟩;refine bZ (v) ?_;refine qc4 q R ?_;refine bZ (w) ?_;refine qc6 i l @dC ?_;refine⟨U,?_⟩;refine br (tX) ?_;refine qc6 j G @dC ?_;refine br (y) ?_;refine qd0 i l G S @dC ?_;refine br (tZ) ?_;refine qc8 O o H @dC ?_;refine bZ (z) ?_;refine qc0 ?_;refine bZ (A) ?_;refine qd0 g k H W @dC ?_;refine⟨U,?_⟩;refine br (B) ?_;refine qd2 n m g F X @dC ?_;refine bZ (tT) ?_;refine qc0 ?_;refine bZ (tU) ?_;refine qc0 ?_;refine bZ (C) ?_;refine qc8 p Y @dC e1 ?_;refine⟨U,?_⟩;have c5:bh ((c:Int)+1)=((c+1:Nat):Int):=by rw[bC I I];omega
   refine lc (jc-1) ⟨[(0,.str Q),(5,.ptr 0 0),(7,.ptr 1 0),(8,.ptr 2 0),(9,.ptr 3 0),(10,.ptr 4 0),(11,.ptr 5 0),(12,.u8 (cU x Q (c+1:Nat)).sw),(13,.i64 (254-(((c+1:Nat):Nat):Int)))],[bK ((x).map .u64),bK ((a24).map .u64),bK (((cU x Q (c+1:Nat)).x2).map .u64),bK (((cU x Q (c+1:Nat)).z2).map .u64),bK (((cU x Q (c+1:Nat)).x3).map .u64),bK (((cU x Q (c+1:Nat)).z3).map .u64)]⟩ [0,1,2,3,4,5] I rfl J rfl ag (by simp[iC,St.get,lookS,n1,n2,n3,n4,n5]) (by simp[n1,n2,n3,n4]) ⟨c+1,I,rfl⟩
 .obtain rfl:c=255:=I;have c4:¬ (0:Int)<=254-((255:Nat):Int):=I;have e8:(255:Int)=((255:Nat):Int):=rfl;generalize hL:cU x Q 255=L at*;obtain⟨d,a,e,b,sw⟩:=L;have j:=s1.1;have o:=s2.1;have m:=s3.1;have p:=s4.1;dsimp only at*;have a8:[V.u64 18446744073709551595#64,V.u64 18446744073709551615#64,V.u64 18446744073709551615#64,V.u64 9223372036854775807#64]=(qU 18446744073709551615#64).map .u64:=rfl;have w4:(qU 18446744073709551615#64).length=4:=rfl;by_cases r:sw=1#8
  .rw[aM r,aM r];have hp:=Pv b (qU 18446744073709551615#64) s4 (by show 4<=100;omega);have sp:=yS b (qU 18446744073709551615#64) s4 (64*4);rw[w4,<-a8] at hp;generalize fe b (qU 18446744073709551615#64) (64*4)=P at*;have ht:=j0 e P m sp.1;have st:=(kK e P s3 sp).1;have a6:=M6 _ st;refine qd4 r j o m p hm @dC ?_;refine⟨U,?_⟩;refine AN [6] (hp) U J rfl J ag J J J J J (by first|(simp[jJ,gn,cu,ik,aa.bd];done)|simp[go_sem,jJ]) ?_;refine qc0 ?_;refine bZ (ht) ?_;refine qc0 ?_;refine bZ (a6) ?_;refine qc0 ?_;kernel_rfl
  .rw[aq r,aq r];have hp:=Pv a (qU 18446744073709551615#64) s2 (by show 4<=100;omega);have sp:=yS a (qU 18446744073709551615#64) s2 (64*4);rw[w4,<-a8] at hp;generalize fe a (qU 18446744073709551615#64) (64*4)=P at*;have ht:=j0 d P j sp.1;have st:=(kK d P s1 sp).1;have a6:=M6 _ st;refine qc6 r j o ?_;refine AN [6] (hp) U J rfl J ag J J J J J (by first|(simp[jJ,gn,cu,ik,aa.bd];done)|simp[go_sem,jJ]) ?_;refine qc0 ?_;refine bZ (ht) ?_;refine qc0 ?_;refine bZ (a6) ?_;refine qc0 ?_;kernel_rfl
def ru (u:Z):Z:=u.set 31 (u.getD 31 0&&&127#8)
theorem Q8 (u:Z):(ru u).length=u.length:=by unfold ru;rw[b7]
def eS (k u:Z):Z:=bX (bV (du (if(cU (jo (ru u)) (il k) 255).sw=1#8 then(cU (jo (ru u)) (il k) 255).x3 else(cU (jo (ru u)) (il k) 255).x2) (fe (if(cU (jo (ru u)) (il k) 255).sw=1#8 then(cU (jo (ru u)) (il k) 255).z3 else(cU (jo (ru u)) (il k) 255).z2) (qU 18446744073709551615#64) (64*4)))%Pq) 32
theorem afo (k:Z):(il k).length=k.length:=by unfold il;rw[b7,b7]
theorem V0 (k u:Z)(h:¬ (k.length=32/\u.length=32)):bE prog 35 [.str k,.str u] (.aZ [.str [],.i64 1]):=by
 have b:=KZ k;by_cases a:k.length=32
 .have c:¬ (u.length:Int)=32:=I;rw[aM a] at b;refine ai func35 ?_;simp only[go_sem,seval,ntmps35];refine br (b) ?_;simp only[go_sem,seval,c]
 .rw[aq a] at b;refine ai func35 ?_;simp only[go_sem,seval,ntmps35];refine br (b) ?_;simp only[go_sem,seval]
theorem Md (k u:Z)(c:k.length=32)(g:u.length=32):bE prog 35 [.str k,.str u] (.aZ [.str (eS k u),.i64 0]):=by
 have e:(u.length:Int)=32:=I;have h:=KZ k;rw[aM c] at h;have f:=ae9 (il k) (ru u) (by rw[afo,c]) (by rw[Q8,g]);have i:u.set 31 (u.getD 31 0&&&127#8)=ru u:=rfl;have a:=Q8 u;rw[g] at a;have b:31<u.length:=I;have d:min 32 32=32:=rfl;unfold eS;refine ai func35 ?_;simp only[go_sem,seval,ntmps35];refine br (h) ?_;simp only[go_sem,seval,g,nB b,i,a,bq];refine br (f) ?_;simp only[go_sem,seval]
theorem vV (k u:Z):(eS k u).length=32:=by
 unfold eS;exact dQ _ _
def je:Z:=[9#8]++List.replicate 31 0#8
theorem aje:bytesOf (⟨#[9]⟩:ByteArray)=[9#8]:=rfl
theorem adq:je.length=32:=rfl
theorem yG (k:Z)(b:k.length=32):bE prog 26 [.str k] (.aZ [.str (eS k je),.i64 0]):=by
 have c:=yF 31 ag;have f:=Md k je b adq;generalize eS k je=z at*;unfold je at f;generalize a:List.replicate 31 0#8=d at*;have e:d.length=31:=by rw[<-a];rfl
 refine ai func26 ?_;simp only[go_sem,seval,ntmps26];refine br (c) ?_;refine aL @aje ?_;refine⟨I,?_⟩;refine br (f) ?_;simp only[go_sem,seval]
def BD (k u:Z):Z×Int:=if k.length=32/\u.length=32 then(if eS k u=List.replicate 32 0#8 then([],12) else(eS k u,0)) else([],1)
theorem ahL (k u:Z):bE prog 158 [.str k,.str u] (.aZ [.str (BD k u).1,.i64 (BD k u).2]):=by
 unfold BD;by_cases h:k.length=32/\u.length=32
 .have e:=Md k u h.1 h.2;have d:=vV k u;rw[aM h];generalize eS k u=z at*;have f:=Zq z I;have c:=abS 0#8 z;rw[d] at c;by_cases b:z=List.replicate 32 0#8
  .rw[aM b];have a:=gg (c.2 b);clear c b;refine ai func158 ?_;simp only[go_sem,seval,ntmps158];refine br (e) (aH ?_);refine br (f) ?_;simp only[go_sem,seval,a]
  .rw[aq b];have a:=nY (fun h=>b (c.1 h));clear c b;refine ai func158 ?_;simp only[go_sem,seval,ntmps158];refine br (e) (aH ?_);refine br (f) ?_;simp only[go_sem,seval,a]
 .have e:=V0 k u h;rw[aq h];refine ai func158 ?_;simp only[go_sem,seval,ntmps158];refine br (e) ?_;simp only[go_sem,seval]
def rq (a b:Int):Prop:=0<=a/\a<=1099511627776/\0<=b/\b<=999999999
instance (a b:Int):Decidable (rq a b):=by unfold rq;infer_instance
theorem Iz (a b:Int):bE prog 154 [.agg [.i64 a,.i64 b]] (.bool (decide (rq a b))):=by
 unfold rq;by_cases d:0<=a
 .by_cases e:a<=1099511627776
  .by_cases c:0<=b
   .refine ai func154 ?_;simp only[go_sem,seval,ntmps154,results154,d,e,c]
   .refine ai func154 ?_;simp only[go_sem,seval,ntmps154,results154,d,e,c,tv,vo]
  .refine ai func154 ?_;simp only[go_sem,seval,ntmps154,results154,d,e,tv,vo]
 .refine ai func154 ?_;simp only[go_sem,seval,ntmps154,results154,d,tv]
def Ac (s:Z):Int:=bh (BitVec.ofNat 64 (be (s.take 8))-4611686018427387904#64).toNat
def Aq (s:Z):Int:=be ((s.take 12).drop 8)
theorem ah9 (s:Z)(h:12<=s.length):bh ((BitVec.ofNat 64 (be ((s.take 12).drop 8))).toNat:Int)=Aq s:=by
 have a:=OH ((s.take 12).drop 8);have :((s.take 12).drop 8).length=4:=cp;rw[this] at a;rw[fL,lk I,bC I I];rfl
theorem ael (s:Z)(h:12<=s.length):bE prog 141 [.str s] (.aZ (if s.length=12/\rq (Ac s) (Aq s) then[.agg [.i64 (Ac s),.i64 (Aq s)],.i64 0] else[.agg [.i64 0,.i64 0],.i64 5])):=by
 have g:¬ (s.length:Int)<12:=I;have i:(8:Int)<=s.length:=I;have d:(12:Int)<=s.length:=I;have e:=ah9 s h;have a:bh ((BitVec.ofNat 64 (be (s.take 8))-4611686018427387904#64).toNat:Int)=Ac s:=rfl;refine pK U U func141 rfl db bT (by simp[lows,V.low,afq]) (ce ?_);simp only[go_sem,seval,ntmps141,g,i];refine bZ (zy _ cp) ?_;refine aL d ?_;refine bZ (zy _ cp) ?_;refine d9 e a ?_;refine⟨U,?_⟩;by_cases f:(12:Int)<s.length
 .have b:¬ s.length=12:=I;simp only[go_sem,seval,f,b,tv]
 .have b:s.length=12:=I;refine aL b ?_;refine br (Iz _ _) ?_;by_cases c:rq (Ac s) (Aq s)
  .simp only[go_sem,seval,c]
  .simp only[go_sem,seval,c]
theorem Yp (s:Z)(h:12<=s.length)(n m:Nat):(cK n 8++cK m 4=s)↔(s.length=12/\n%18446744073709551616=be (s.take 8)/\m%4294967296=be ((s.take 12).drop 8)):=by
 constructor
 .intro e;have d:s.length=12:=by rw[<-e,bA,fD,fD]
  have b:s.take 8=cK n 8:=by rw[<-e,mW (fD n 8)]
  have c:(s.take 12).drop 8=cK m 4:=by rw[bq I,<-e,oI (fD n 8)]
  rw[b,c,Ce,Ce];exact⟨d,rfl,rfl⟩
 .rintro⟨d,b,c⟩;have g:cK n 8=s.take 8:=Mo (by rw[fD];simp;omega) (by rw[Ce,<-b]);have i:cK m 4=(s.take 12).drop 8:=Mo (by rw[fD];simp;omega) (by rw[Ce,<-c]);rw[g,i,bq (by omega :s.length<=12),yr]
def wg (a b:Int):Int:=if a<b then -1 else if b<a then 1 else 0
theorem zk (a:Int):bE prog 163 [.i64 a] (.bool false):=by
 refine ai func163 ?_;simp only[go_sem,seval,ntmps163,results163]
theorem RS (a b:Int):bE prog 143 [.i64 a,.i64 b] (.i64 (wg a b)):=by
 unfold wg;by_cases c:a<b
 .refine ai func143 ?_;simp only[go_sem,seval,ntmps143];refine br (zk _) (aH ?_);refine br (zk _) ?_;simp only[go_sem,seval,c]
 .by_cases d:b<a
  .refine ai func143 ?_;simp only[go_sem,seval,ntmps143];refine br (zk _) (aH ?_);refine br (zk _) ?_;simp only[go_sem,seval,c,d]
  .refine ai func143 ?_;simp only[go_sem,seval,ntmps143];refine br (zk _) (aH ?_);refine br (zk _) ?_;simp only[go_sem,seval,c,d]
theorem ahj (x y:Int):bp prog 142 [.slice 0 0 2 1] [bK [.i64 x,.i64 y]] (.i64 (if x=0 then y else x)) [bK [.i64 x,.i64 y]]:=by
 by_cases a:x=0
 .by_cases b:y=0
  .refine ak func142 ?_;simp only[go_sem,seval,ntmps142];refine ij 3 ?_;refine d9 a b ?_;exact Fin.bd [0] J J ci ag J J
  .refine ak func142 ?_;simp only[go_sem,seval,ntmps142];refine ij 3 ?_;refine d9 a b ?_;exact Fin.bd [0] J J ci ag J J
 .refine ak func142 ?_;simp only[go_sem,seval,ntmps142];refine ij 3 ?_;refine aL a ?_;exact Fin.bd [0] J J ci ag J J
def later (a b c d:Int):Prop:=c<a\/(a=c/\d<b)
instance (a b c d:Int):Decidable (later a b c d):=by unfold later;infer_instance
theorem aix (a b c d:Int):decide (0<if wg a c=0 then wg b d else wg a c)=decide (later a b c d):=by
 unfold later wg;refine decide_eq_decide.2 ?_;by_cases g:a<c
 .rw[aM g,aq ag];omega
 .rw[aq g];by_cases h:c<a
  .rw[aM h,aq ag];omega
  .rw[aq h,aM rfl];by_cases e:b<d
   .rw[aM e];omega
   .rw[aq e];by_cases f:d<b
    .rw[aM f];omega
    .rw[aq f];omega
theorem ZM (a b c d:Int):bE prog 98 [.agg [.i64 a,.i64 b],.agg [.i64 c,.i64 d]] (.bool (decide (later a b c d))):=by
 refine ai func98 ?_;simp only[go_sem,seval,ntmps98];refine bZ (RS _ _) (aH ?_);refine bZ (RS _ _) (aH ?_);refine az [2] (ahj (wg a c) (wg b d)) ?_;refine aL @aix ?_;kernel_rfl
theorem TV (a b:Int):bE prog 119 [.agg [.i64 a,.i64 b]] (.aZ (if rq a b then[.str (cK (4611686018427387904+a.toNat) 8++cK b.toNat 4),.i64 0] else[.str [],.i64 1])):=by
 by_cases h:rq a b
 .rw[aM h];have c:=h;obtain⟨j,k,e,i⟩:=h;have f:(4611686018427387904#64+BitVec.ofInt 64 a).toNat=4611686018427387904+a.toNat:=by
   obtain⟨n,rfl⟩:=Int.eq_ofNat_of_zero_le j;rw[G9,jL,fL,fL];simp;omega
  have g:(BitVec.ofInt 64 b).toNat=b.toNat:=by
   obtain⟨n,rfl⟩:=Int.eq_ofNat_of_zero_le e;rw[G9,fL];simp;omega
  have d:(cK (4611686018427387904+a.toNat) 8).length=8:=fD _ _;refine ai func119 ?_;simp only[go_sem,seval,ntmps119];refine br (Iz _ _) ?_;refine aL c ?_;refine az [] (CW (4611686018427387904#64+BitVec.ofInt 64 a)) ?_;refine aL f ?_;refine Bs [1] (DT (cK (4611686018427387904+a.toNat) 8) (BitVec.ofInt 64 b) (by rw[d];decide)) U (by simp[d]) rfl J fO J J J J J ?_;simp only[go_sem,seval,g,fD,bq];kernel_rfl
 .rw[aq h];refine ai func119 ?_;simp only[go_sem,seval,ntmps119];refine br (Iz _ _) ?_;simp only[go_sem,seval,h]
theorem Ag (n:Int):bE prog 120 [.i64 n] (.bool (decide (n=1\/n=2))):=by
 refine ai func120 ?_;simp only[go_sem,seval,ntmps120,results120];by_cases a:n=1
 .subst a;refine aH ?_;kernel_rfl
 .by_cases b:n=2
  .subst b;refine aH ?_;kernel_rfl
  .simp[a,b]
end Go.Vm
end
section
namespace Go.Vm
open Go.Proofs
def cP (e:Int)(cs:List V):aU:=[bK [.ptr 1 0,.i64 e],bK cs]
attribute [simp, go_sem] cP
end Go.Vm
end
section
namespace Go.Vm
open Go.Proofs Go.Proofs.Tryz
section
structure HS where
 h:Z
 c:Z
 k:Z
 n:aS
def HS.ok (s:HS):Prop:=s.h.length=32/\s.c.length=32
def HS.cs (x:Int)(s:HS):List V:=fw x s.h s.c s.k s.n
noncomputable def HS.mix (x:Int) (s:HS) (t:Z):HS:=⟨j8 x (s.h++t),s.c,s.k,s.n⟩
noncomputable def HS.key (x:Int) (s:HS) (t:Z):HS:=⟨s.h,d2 x s.c t 0,d2 x s.c t 1,0#64⟩
noncomputable def HS.aR (x:Int) (s:HS) (t:Z):HS:=⟨j8 x (s.h++d3 x s.c t 1),d3 x s.c t 0,d3 x s.c t 2,0#64⟩
noncomputable def HS.out (x:Int) (s:HS) (t:Z):Z:=(mP x s.k (eV x s.n) s.h t).1
noncomputable def HS.next (x:Int) (s:HS) (z:Z):HS:=⟨j8 x (s.h++z),s.c,s.k,s.n+1#64⟩
noncomputable def HS.both (x:Int) (s:HS) (t:Z):HS:=(s.mix x t).key x t
theorem HS.aW (x:Int)(s:HS)(a:Nat->Nat):Go.Vm.aW a (s.cs x)=s.cs x:=rfl
theorem HS.low (x:Int)(s:HS)(m:Nat):lows m (s.cs x)=True:=ajM ..
theorem HS.len (x:Int)(s:HS):(s.cs x).length=5:=rfl
section
variable {x:Int}{s:HS}{t z:Z}
theorem HS.Jo (a:x=1\/x=2)(h:s.ok)(ht:t.length<=549755813888):(s.mix x t).ok:=⟨(xZ a _ (by have :=h.1;simp;omega)).2,h.2⟩
theorem HS.Cu (a:x=1\/x=2)(h:s.ok)(ht:t.length<=549755813888):(s.key x t).ok/\(s.key x t).k.length=32:=by
 obtain⟨-,b,d⟩:=DD a s.c t (by have :=h.2;omega) ht;exact⟨⟨h.1,b⟩,d⟩
theorem HS.acM (a:x=1\/x=2)(h:s.ok)(ht:t.length<=549755813888):(s.aR x t).ok/\(s.aR x t).k.length=32:=by
 obtain⟨-,d,e,b⟩:=LW a s.c t (by have :=h.2;omega) ht;exact⟨⟨(xZ a _ (by have :=h.1;simp;omega)).2,d⟩,b⟩
theorem HS.Ij (a:x=1\/x=2)(h:s.ok)(ht:t.length<=549755813888):(s.next x t).ok:=⟨(xZ a _ (by have :=h.1;simp;omega)).2,h.2⟩
theorem HS.QS (a:x=1\/x=2)(h:s.ok)(ht:t.length<=549755813888):(s.both x t).ok/\(s.both x t).k.length=32:=HS.Cu a (HS.Jo a h ht) ht
theorem Tm (a:x=1\/x=2)(h:s.ok)(ht:t.length<=549755813888):bp prog 156 [.ptr 0 0,.str t] [bK (s.cs x)] (.aZ []) [bK ((s.mix x t).cs x)]:=A3 a s.h s.c s.k s.n h.1 t ht
theorem La (a:x=1\/x=2)(h:s.ok)(ht:t.length<=549755813888):bp prog 157 [.ptr 0 0,.str t] [bK (s.cs x)] (.aZ []) [bK ((s.key x t).cs x)]:=Wb a s.h s.c s.k s.n h.2 t ht
theorem SQ (a:x=1\/x=2)(h:s.ok)(ht:t.length<=549755813888):bp prog 144 [.ptr 0 0,.str t] [bK (s.cs x)] (.aZ []) [bK ((s.aR x t).cs x)]:=ade a s.h s.c s.k s.n h.1 h.2 t ht
theorem Y0 (a:x=1\/x=2)(h:s.ok)(b:s.k.length=32)(ht:t.length<=2000):bp prog 159 [.ptr 0 0,.str t] [bK (s.cs x)] (.aZ [.str (s.out x t),.i64 0]) [bK ((s.next x (s.out x t)).cs x)]:=af9 a s.h s.c s.k s.n h.1 b t ht
theorem ab1 (b:x=1\/x=2)(h:s.ok)(a:s.k.length=32)(ht:t.length<=2000):bp prog 162 [.ptr 0 0,.str (s.out x t)] [bK (s.cs x)] (.aZ [.str t,.i64 0]) [bK ((s.next x (s.out x t)).cs x)]:=by
 obtain⟨e,f,d⟩:=yJ (x:=x) (k:=s.k) (c:=eV x s.n) (m:=s.h) (t:=t) a (zj x s.n) (by have :=h.1;omega) ht;exact UD b s.h s.c s.k s.n h.1 a (s.out x t) t d (by show(mP x s.k (eV x s.n) s.h t).1.length<=_;omega)
theorem HS.Kw (h:s.ok)(a:s.k.length=32)(ht:t.length<=2000):(s.out x t).length=t.length+16:=
 (yJ (x:=x) (k:=s.k) (c:=eV x s.n) (m:=s.h) (t:=t) a (zj x s.n) (by have :=h.1;omega) ht).2.1
theorem E0 (a:x=1\/x=2)(h:s.ok)(ht:t.length<=549755813888)(e:Int):bp prog 123 [.ptr 0 0,.str t] (cP e (s.cs x)) (.aZ []) (cP e ((s.both x t).cs x)):=by
 have j:=Tm a h ht;have g:=La a (HS.Jo a h ht) ht;have k:=s.aW x;have l:=s.low x;have i:=(s.mix x t).aW x;have m:=(s.mix x t).low x;have n:=(s.both x t).aW x;have o:=(s.both x t).low x;change bp prog 157 _ _ _ [bK ((s.both x t).cs x)] at g;generalize (s.both x t).cs x=b at*;generalize (s.mix x t).cs x=d at*;generalize s.cs x=p at*;have :∃ v f,bp prog 123 [.ptr 0 0,.str t] (cP e p) v f/\(v= .aZ []/\f=cP e b):=by
  unfold cP;refine kg (Post:=fun v f=>v= .aZ []/\f=[bK [.ptr 1 0,.i64 e],bK b]) U func123 rfl db (ce (aG ?_))
  refine fY [1] (j) U J rfl J fO J J (by simp[k,l]) J J ?_;refine aL i ?_;refine aE ?_
  refine fY [1] (g) U J rfl J fO J J (by simp[i,m]) J J ?_;refine aL n ?_;refine aE ?_
  refine⟨_,_,?_,Fin.take 2 J J (by simp[jv,lows,V.low]) (by simp[blksLow,lows,V.low,o])⟩;exact⟨rfl,rfl⟩
 obtain⟨_,_,c,rfl,rfl⟩:=this;exact c
theorem wy (e:x=1\/x=2)(h:s.ok){k u:Z}(f:k.length=32)(j:u.length=32)(b:eS k u≠List.replicate 32 0#8):bp prog 124 [.ptr 0 0,.str k,.str u] (cP 0 (s.cs x)) (.aZ []) (cP 0 ((s.key x (eS k u)).cs x)):=by
 have a:=ahL k u;have c:BD k u=(eS k u,0):=by unfold BD;rw[aM ⟨f,j⟩,aq b]
 rw[c] at a;have l:=La e h (t:=eS k u) (by rw[vV];decide);have m:=s.aW x;have n:=s.low x;have o:=(s.key x (eS k u)).aW x;have p:=(s.key x (eS k u)).low x;generalize (s.key x (eS k u)).cs x=d at*;generalize s.cs x=q at*;clear c b;generalize eS k u=z at*;have :∃ v i,bp prog 124 [.ptr 0 0,.str k,.str u] (cP 0 q) v i/\(v= .aZ []/\i=cP 0 d):=by
  unfold cP;refine kg (Post:=fun v i=>v= .aZ []/\i=[bK [.ptr 1 0,.i64 0],bK d]) U func124 rfl db (ce (aG ?_))
  refine br (a) (aG ?_)
  refine fY [1] (l) U J rfl J fO J J (by simp[m,n]) J J ?_;refine aL o ?_;refine aE ?_
  refine⟨_,_,?_,Fin.take 2 J J (by simp[jv,lows,V.low]) (by simp[blksLow,lows,V.low,p])⟩;exact⟨rfl,rfl⟩
 obtain⟨_,_,g,rfl,rfl⟩:=this;exact g
theorem IS (b:x=1\/x=2)(h:s.ok)(c:s.k.length=32)(ht:t.length<=2000):bp prog 125 [.ptr 0 0,.str t] (cP 0 (s.cs x)) (.str (s.out x t)) (cP 0 ((s.next x (s.out x t)).cs x)):=by
 have f:=Y0 b h c ht;have g:=s.aW x;have i:=s.low x;have j:=(s.next x (s.out x t)).aW x;have l:=(s.next x (s.out x t)).low x;generalize (s.next x (s.out x t)).cs x=a at*;generalize s.out x t=o at*;generalize s.cs x=m at*;have :∃ v e,bp prog 125 [.ptr 0 0,.str t] (cP 0 m) v e/\(v= .str o/\e=cP 0 a):=by
  unfold cP;refine kg (Post:=fun v e=>v= .str o/\e=[bK [.ptr 1 0,.i64 0],bK a]) U func125 rfl db (ce (aG ?_))
  refine fY [1] (f) U J rfl J fO J J (by simp[g,i]) J J ?_;refine aL j ?_;refine aE ?_
  refine⟨_,_,?_,Fin.take 2 J J uQ (by simp[blksLow,lows,V.low,l])⟩;exact⟨rfl,rfl⟩
 obtain⟨_,_,d,rfl,rfl⟩:=this;exact d
theorem JD (b:x=1\/x=2)(h:s.ok)(c:s.k.length=32)(ht:t.length<=2000):bp prog 140 [.ptr 0 0,.str (s.out x t)] (cP 0 (s.cs x)) (.str t) (cP 0 ((s.next x (s.out x t)).cs x)):=by
 have f:=ab1 b h c ht;have g:=s.aW x;have i:=s.low x;have j:=(s.next x (s.out x t)).aW x;have l:=(s.next x (s.out x t)).low x;generalize (s.next x (s.out x t)).cs x=a at*;generalize s.out x t=o at*;generalize s.cs x=m at*;have :∃ v e,bp prog 140 [.ptr 0 0,.str o] (cP 0 m) v e/\(v= .str t/\e=cP 0 a):=by
  unfold cP;refine kg (Post:=fun v e=>v= .str t/\e=[bK [.ptr 1 0,.i64 0],bK a]) U func140 rfl db (ce (aG ?_))
  refine fY [1] (f) U J rfl J fO J J (by simp[g,i]) J J ?_;refine aL j ?_;refine aE ?_
  refine⟨_,_,?_,Fin.take 2 J J uQ (by simp[blksLow,lows,V.low,l])⟩;exact⟨rfl,rfl⟩
 obtain⟨_,_,d,rfl,rfl⟩:=this;exact d
end
def tG (x:Int):Z:=bytesOf ⟨#[115,111,117,116,101,114,114,97,105,110]⟩++[BitVec.ofInt 8 x]
theorem KH (x:Int):(tG x).length=11:=rfl
noncomputable def HS.start (x:Int) (u:Z):HS:=HS.mix x ⟨j8 x (pC x++tG x),pC x,[],0#64⟩ u
theorem HS.HO {x:Int}(a:x=1\/x=2){u:Z}(c:u.length<=549755813888):(HS.start x u).ok:=by
 obtain⟨b,-⟩:=Q3 a;refine HS.Jo a ⟨(xZ a _ ?_).2,b⟩ c;rw[bA,b,KH];decide
theorem Rp {x:Int}(a:x=1\/x=2){u:Z}(l:u.length<=549755813888):bp prog 122 [.i64 x,.str u] [] (.ptr 0 0) (cP 0 ((HS.start x u).cs x)):=by
 obtain⟨k,p⟩:=Q3 a;have g:=p (tG x) (by rw[KH];decide);have m:(⟨j8 x (pC x++tG x),pC x,[],0#64⟩:HS).ok:=⟨(xZ a _ (by rw[bA,k,KH];decide)).2,k⟩;have h:=Tm a m (t:=u) l;change bp prog 156 _ _ _ [bK ((HS.start x u).cs x)] at h;change bp prog 155 _ _ _ [bK (HS.cs x ⟨j8 x (pC x++tG x),pC x,[],0#64⟩)] at g;have i:=HS.aW x ⟨j8 x (pC x++tG x),pC x,[],0#64⟩;have n:=HS.low x ⟨j8 x (pC x++tG x),pC x,[],0#64⟩;have j:=(HS.start x u).aW x;have o:=(HS.start x u).low x;generalize (HS.start x u).cs x=b at*;generalize HS.cs x ⟨j8 x (pC x++tG x),pC x,[],0#64⟩=q at*;have c:tG x=bytesOf ⟨#[115,111,117,116,101,114,114,97,105,110]⟩++[BitVec.ofInt 8 x]:=rfl;generalize tG x=e at*;have :∃ v f,bp prog 122 [.i64 x,.str u] [] v f/\(v= .ptr 0 0/\f=cP 0 b):=by
  unfold cP;refine kg (Post:=fun v f=>v= .ptr 0 0/\f=[bK [.ptr 1 0,.i64 0],bK b]) U func122 rfl db (ce ?_);simp only[go_sem,seval,<-c];refine aE ?_
  refine am [] g ?_;refine aL i ?_;refine aE ?_
  refine fY [1] (h) U J rfl J fO J J (by simp[i,n]) J J ?_;refine aL j ?_;refine aE ?_
  refine⟨_,_,⟨rfl,rfl⟩,?_⟩;exact Fin.bd [2,1] J J ci ag J (by simp[j,o])
 obtain⟨_,_,d,rfl,rfl⟩:=this;exact d
end
end Go.Vm
end
section
namespace Go.Vm
open Go.Proofs
end Go.Vm
end
section
/- Prime numbers by Lucas' a: plain arithmetic, no program in b. -/
namespace Go.Cv
def bj (n:Nat):Prop:=2<=n/\∀ d,d∣n->d=1\/d=n
theorem Tc:∀ n:Nat,2<=n->∃ r,bj r/\r∣n:=by
 intro n;induction n using Nat.strongRecOn with
 |ind n ih=>
  intro c;by_cases h:∀ d,d∣n->d=1\/d=n
  .exact⟨n,⟨c,h⟩,Nat.dvd_refl n⟩
  .obtain⟨d,h⟩:=Classical.not_forall.1 h;obtain⟨a,h⟩:=Classical.not_imp.1 h;have i:d≠1:=fun e=>h (.inl e)
   have j:d≠n:=fun e=>h (.inr e)
   have g:=Nat.le_of_dvd (by omega) a;have k:d≠0:=fun e=>by subst e;have :=Nat.eq_zero_of_zero_dvd a;omega
   obtain⟨r,f,b⟩:=ih d (by omega) (by omega);exact⟨r,f,Nat.dvd_trans b a⟩
theorem bj.dvd_mul {p a b:Nat}(c:bj p)(h:p∣a*b):p∣a\/p∣b:=by
 rcases c.2 (Nat.gcd p a) (Nat.gcd_dvd_left p a) with e|e
 .exact .inr (Nat.Coprime.dvd_of_dvd_mul_left e h)
 .exact .inl (by rw[<-e];exact Nat.gcd_dvd_right p a)
theorem bj.eq_of_dvd {p q:Nat}(a:bj p)(b:bj q)(h:p∣q):p=q:=by
 rcases b.2 p h with e|e
 .have :=a.1;omega
 .exact e
def u7:List Nat->Nat
 |[]=>1
 |a::l=>a*u7 l
theorem bj.SF {p:Nat}(a:bj p):∀ {l:List Nat},(∀ q∈l,bj q)->p∣u7 l->p∈l
 |[],_,h=>by
  have :=Nat.le_of_dvd (by decide) h;have :=a.1;simp[u7] at*;omega
 |q::l,b,h=>by
  rcases a.dvd_mul h with h|h
  .rw[a.eq_of_dvd (b q (by simp)) h];simp
  .exact List.mem_cons_of_mem _ (a.SF (fun q c=>b q (by simp[c])) h)
theorem Fh:∀ (m n:Nat) (f:Nat->Nat),(∀ i,i<n->f i<m)->(∀ i j,i<n->j<n->f i=f j->i=j)->n<=m
 |0,n,f,h,_=>by
  cases n with
  |zero=>exact Nat.le_refl _
  |succ n=>exact absurd (h 0 (by omega)) (by omega)
 |m+1,n,f,h,p=>by
  by_cases s:∃ i,i<n/\f i=m
  .obtain⟨q,c,l⟩:=s;have :=Fh m (n-1) (fun i=>if i=q then f (n-1) else f i) (fun i r=>by
    show(if i=q then f (n-1) else f i)<m;by_cases e:i=q
    .rw[if_pos e];have :=h (n-1) (by omega);have :f (n-1)≠m:=fun a=>by have :=p (n-1) q (by omega) c (by rw[a,l]);omega
     omega
    .rw[if_neg e];have :=h i (by omega);have :f i≠m:=fun a=>e (p i q (by omega) c (by rw[a,l]))
     omega) (fun i j r o e=>by
    have e:(if i=q then f (n-1) else f i)=(if j=q then f (n-1) else f j):=e;by_cases g:i=q
    .by_cases a:j=q
     .omega
     .rw[if_pos g,if_neg a] at e;have :=p (n-1) j (by omega) (by omega) e;omega
    .by_cases a:j=q
     .rw[if_neg g,if_pos a] at e;have :=p i (n-1) (by omega) (by omega) e;omega
     .rw[if_neg g,if_neg a] at e;exact p i j (by omega) (by omega) e)
   omega
  .have :=Fh m n f (fun i r=>by
    have :=h i r;have :f i≠m:=fun e=>s ⟨i,r,e⟩
    omega) p
   omega
def pw (m:Nat):Nat->Nat->Nat->Nat->Nat
 |0,_,_,c=>c
 |k+1,b,e,c=>pw m k (b*b%m) (e/2) (match e%2 with|0=>c|_=>c*b%m)
theorem MF (m:Nat):∀ (k b e c:Nat),e<2^k->pw m k b e c%m=c*b^e%m
 |0,b,e,c,h=>by
  have :e=0:=by simpa using h
  subst this;simp[pw]
 |k+1,b,e,c,h=>by
  have a:e/2<2^k:=by rw[Nat.pow_succ] at h;omega
  rw[pw,MF m k _ _ _ a];have f:(b*b%m)^(e/2)%m=(b*b)^(e/2)%m:=(Nat.pow_mod (b*b) (e/2) m).symm;have d:(b*b)^(e/2)=b^(2*(e/2)):=by rw[Nat.pow_mul,Nat.pow_two]
  rw[Nat.mul_mod,f,<-Nat.mul_mod,d];rcases Nat.mod_two_eq_zero_or_one e with h0|h0
  .rw[h0];show c*b^(2*(e/2))%m=_;rw[show 2*(e/2)=e by omega]
  .rw[h0];show c*b%m*b^(2*(e/2))%m=_;rw[Nat.mod_mul_mod,Nat.mul_assoc,<-Nat.pow_succ'];rw[show Nat.succ (2*(e/2))=e by omega]
theorem GL {m k b e r:Nat}(h:e<2^k)(a:pw m k b e 1%m=r):b^e%m=r:=by
 rw[<-a,MF m k b e 1 h,Nat.one_mul]
theorem YR {g r:Nat}(l:2<=r):∀ (a b:Nat),g^a%r=1->g^b%r=1->g^Nat.gcd a b%r=1:=by
 intro a b;induction a,b using Nat.gcd.induction with
 |H0 n=>intro _ h;simpa using h
 |H1 m n o ih=>
  intro j k;rw[Nat.gcd_rec];refine ih ?_ j;have e:=Nat.div_add_mod n m;rw[<-e,Nat.pow_add,Nat.pow_mul,Nat.mul_mod,Nat.pow_mod,j,Nat.one_pow,Nat.mod_eq_of_lt (show 1<r by omega),Nat.one_mul,Nat.mod_mod] at k;exact k
theorem ahT {g r n i j:Nat}(h1:g^n%r=1)(d:2<=r)(a:i<=j)(e:j<=n)(h:g^i%r=g^j%r):g^(j-i)%r=1:=by
 have b:g^i*g^(n-i)%r=1:=by rw[<-Nat.pow_add,show i+(n-i)=n by omega];exact h1
 have c:g^j*g^(n-i)%r=g^(j-i)%r:=by
  rw[<-Nat.pow_add,show j+(n-i)=n+(j-i) by omega,Nat.pow_add,Nat.mul_mod,h1,Nat.one_mul,Nat.mod_mod]
 rw[<-c,Nat.mul_mod,<-h,<-Nat.mul_mod,b]
theorem ND {n g r:Nat}{qs:List Nat}(N:2<=n)(E:∀ q∈qs,bj q)(l:u7 qs=n-1)(h1:g^(n-1)%n=1)(F:∀ q∈qs,Nat.gcd (g^((n-1)/q)%n+n-1) n=1)(G:bj r)(b:r∣n):
  ∀ i j,i<n-1->j<n-1->g^i%r=g^j%r->i=j:=by
 have p:=G.1;have d:g^(n-1)%r=1:=by
  have :=Nat.mod_mod_of_dvd (g^(n-1)) b;rw[<-this,h1,Nat.mod_eq_of_lt (by omega)]
 have Q:∀ e,0<e->e<n-1->g^e%r≠1:=fun e S H X=>by
  have T:=YR p e (n-1) X d;have K:=Nat.gcd_dvd_right e (n-1);have V:=Nat.le_of_dvd S (Nat.gcd_dvd_left e (n-1));generalize Nat.gcd e (n-1)=m at*;obtain⟨k,s⟩:=K;have L:m≠0:=fun e=>by subst e;simp at s;omega
  have z:2<=k:=by
   match k with
   |0=>simp at s;omega
   |1=>simp at s;omega
   |k+2=>omega
  obtain⟨q,t,x,rfl⟩:=Tc k z;have A:q∈qs:=t.SF E (by rw[l,s];exact⟨m*x,by rw[Nat.mul_left_comm]⟩);have P:(n-1)/q=m*x:=by
   rw[s,show m*(q*x)=q*(m*x) by rw[Nat.mul_left_comm]];exact Nat.mul_div_cancel_left _ (by have :=t.1;omega)
  have o:g^((n-1)/q)%r=1:=by rw[P,Nat.pow_mul,Nat.pow_mod,T,Nat.one_pow,Nat.mod_eq_of_lt (by omega)]
  have W:=F q A;have u:r∣Nat.gcd (g^((n-1)/q)%n+n-1) n:=by
   refine Nat.dvd_gcd ?_ b;have C:=Nat.mod_mod_of_dvd (g^((n-1)/q)) b;rw[o] at C;have M:=Nat.div_add_mod (g^((n-1)/q)%n) r;rw[C] at M;obtain⟨c,Y⟩:=b;refine⟨g^((n-1)/q)%n/r+c,?_⟩;rw[Nat.mul_add];omega
  rw[W] at u;have :=Nat.le_of_dvd (by decide) u;omega
 have O:∀ i j,i<n-1->j<n-1->i<=j->g^i%r=g^j%r->i=j:=fun i j R B a h=>by
  have :=ahT d p a (by omega) h;by_cases S:j-i=0
  .omega
  .exact absurd this (Q (j-i) (by omega) (by omega))
 intro i j R B h;rcases Nat.le_total i j with a|a
 .exact O i j R B a h
 .exact(O j i B R a h.symm).symm
theorem yb {n g r i:Nat}(a:2<=r)(h1:g^n%r=1)(hi:i<=n):g^i%r≠0:=fun h=>by
 have :g^i*g^(n-i)%r=1:=by rw[<-Nat.pow_add,show i+(n-i)=n by omega];exact h1
 rw[Nat.mul_mod,h,Nat.zero_mul] at this;simp at this
theorem abg {n g:Nat}(qs:List Nat)(f:2<=n)(k:∀ q∈qs,bj q)(b:u7 qs=n-1)(h1:g^(n-1)%n=1)(l:∀ q∈qs,Nat.gcd (g^((n-1)/q)%n+n-1) n=1):bj n:=by
 obtain⟨r,h,c⟩:=Tc n f;have d:=h.1;have o:=ND f k b h1 l h c;have a:g^(n-1)%r=1:=by
  have :=Nat.mod_mod_of_dvd (g^(n-1)) c;rw[<-this,h1,Nat.mod_eq_of_lt (by omega)]
 have :=Fh (r-1) (n-1) (fun i=>g^i%r-1) (fun i p=>by
  have :=yb d a (show i<=n-1 by omega);have :=Nat.mod_lt (g^i) (show r>0 by omega);show g^i%r-1<r-1;omega) (fun i j p m e=>by
  have :=yb d a (show i<=n-1 by omega);have :=yb d a (show j<=n-1 by omega);have e:g^i%r-1=g^j%r-1:=e;exact o i j p m (by omega))
 have :=Nat.le_of_dvd (by omega) c
 rwa [show n=r by omega]
theorem WR {n g:Nat}(qs:List Nat)(p:bj n)(r:∀ q∈qs,bj q)(c:u7 qs=n-1)(h1:g^(n-1)%n=1)(s:∀ q∈qs,Nat.gcd (g^((n-1)/q)%n+n-1) n=1){a:Nat}(u:a%n≠0):∃ i,g^i%n=a%n:=by
 have b:=p.1;have w:=ND b r c h1 s p (Nat.dvd_refl n);refine Classical.byContradiction fun m=>?_
 have d:∀ i,g^i%n≠a%n:=fun i e=>m ⟨i,e⟩
 have t:=Nat.mod_lt a (show n>0 by omega);have :=Fh (n-1) n (fun i=>if i<n-1 then g^i%n-1 else a%n-1) (fun i x=>by
  show(if i<n-1 then g^i%n-1 else a%n-1)<n-1;split
  .have :=yb b h1 (show i<=n-1 by omega);have :=Nat.mod_lt (g^i) (show n>0 by omega);omega
  .omega) (fun i j x v e=>by
  have e:(if i<n-1 then g^i%n-1 else a%n-1)=(if j<n-1 then g^j%n-1 else a%n-1):=e;by_cases h:i<n-1
  .have :=yb b h1 (show i<=n-1 by omega);by_cases f:j<n-1
   .have :=yb b h1 (show j<=n-1 by omega);rw[if_pos h,if_pos f] at e;exact w i j h f (by omega)
   .rw[if_pos h,if_neg f] at e;exact absurd (show g^i%n=a%n by omega) (d i)
  .by_cases f:j<n-1
   .have :=yb b h1 (show j<=n-1 by omega);rw[if_neg h,if_pos f] at e;exact absurd (show g^j%n=a%n by omega) (d j)
   .omega)
 omega
theorem Ya {n g:Nat}(qs:List Nat)(c:bj n)(d:∀ q∈qs,bj q)(b:u7 qs=n-1)(h1:g^(n-1)%n=1)(e:∀ q∈qs,Nat.gcd (g^((n-1)/q)%n+n-1) n=1){a:Nat}(f:a%n≠0):a^(n-1)%n=1:=by
 have h:=c.1;obtain⟨i,j⟩:=WR qs c d b h1 e f;rw[Nat.pow_mod,<-j,<-Nat.pow_mod,<-Nat.pow_mul,Nat.mul_comm,Nat.pow_mul,Nat.pow_mod,h1,Nat.one_pow,Nat.mod_eq_of_lt (by omega)]
def Fu (n:Nat):Nat->Bool
 |0=>true
 |1=>true
 |k+2=>Nat.blt 0 (n%(k+2))&&Fu n (k+1)
theorem N6 {n:Nat}:∀ {k:Nat},Fu n k=true->∀ d,2<=d->d<=k->¬ d∣n
 |0,_,d,c,f=>by omega
 |1,_,d,c,f=>by omega
 |k+2,h,d,c,f=>by
  rw[Fu,Bool.and_eq_true] at h;by_cases e:d=k+2
  .subst e;intro b;have a:=h.1;rw[Nat.mod_eq_zero_of_dvd b] at a;cases a
  .exact N6 h.2 d c (by omega)
theorem gu {n:Nat}(b:2<=n)(h:Fu n (n-1)=true):bj n:=⟨b,fun d a=>by
 have f:=Nat.le_of_dvd (by omega) a;have g:d≠0:=fun e=>by subst e;have :=Nat.eq_zero_of_zero_dvd a;omega
 by_cases e:d=1
 .exact .inl e
 .by_cases c:d=n
  .exact .inr c
  .exact absurd a (N6 h d (by omega) (by omega))⟩
def Dq (n g:Nat)(k:Nat)(qs:List Nat):Bool:=
 Nat.beq (u7 qs) (n-1)&&Nat.blt 1 n&&Nat.blt (n-1) (2^k)&&Nat.beq (pw n k g (n-1) 1%n) 1&&qs.all fun q=>Nat.beq (Nat.gcd (pw n k g ((n-1)/q) 1%n+n-1) n) 1
theorem Ly {n g k:Nat}{qs:List Nat}(h:Dq n g k qs=true):2<=n/\u7 qs=n-1/\g^(n-1)%n=1/\∀ q∈qs,Nat.gcd (g^((n-1)/q)%n+n-1) n=1:=by
 unfold Dq at h;simp only[Bool.and_eq_true,Nat.blt_eq,List.all_eq_true] at h;obtain⟨⟨⟨⟨f,i⟩,a⟩,b⟩,c⟩:=h;refine⟨i,Nat.eq_of_beq_eq_true f,GL a (Nat.eq_of_beq_eq_true b),fun q d=>?_⟩;have e:=Nat.eq_of_beq_eq_true (c q d);rw[GL (Nat.lt_of_le_of_lt (Nat.div_le_self _ _) a) rfl];exact e
theorem dJ {n g k:Nat}{qs:List Nat}(h:Dq n g k qs=true)(a:∀ q∈qs,bj q):bj n:=by
 obtain⟨d,e,b,c⟩:=Ly h;exact abg qs d a e b c
theorem all_cons {P:Nat->Prop}{a:Nat}{l:List Nat}(h:P a)(c:∀ q∈l,P q):∀ q∈a::l,P q:=fun q b=>by
 rcases List.mem_cons.1 b with rfl|b
 .exact h
 .exact c q b
theorem cv {P:Nat->Prop}:∀ q∈([]:List Nat),P q:=fun _ h=>by cases h
end Go.Cv
end
section
namespace Go.Cv
theorem p2:bj 2:=gu (by decide) (by decide+kernel)
theorem p3:bj 3:=gu (by decide) (by decide+kernel)
theorem p5:bj 5:=gu (by decide) (by decide+kernel)
theorem p7:bj 7:=gu (by decide) (by decide+kernel)
theorem p11:bj 11:=gu (by decide) (by decide+kernel)
theorem Dr:bj 13:=gu (by decide) (by decide+kernel)
theorem En:bj 17:=gu (by decide) (by decide+kernel)
theorem Ii:bj 19:=gu (by decide) (by decide+kernel)
theorem Jc:bj 23:=gu (by decide) (by decide+kernel)
theorem Wa:bj 29:=gu (by decide) (by decide+kernel)
theorem Wo:bj 31:=gu (by decide) (by decide+kernel)
theorem M9:bj 41:=gu (by decide) (by decide+kernel)
theorem KK:bj 43:=gu (by decide) (by decide+kernel)
theorem Ke:bj 47:=gu (by decide) (by decide+kernel)
theorem p59:bj 59:=gu (by decide) (by decide+kernel)
theorem p67:bj 67:=gu (by decide) (by decide+kernel)
theorem Rm:bj 73:=gu (by decide) (by decide+kernel)
theorem p79:bj 79:=gu (by decide) (by decide+kernel)
theorem p83:bj 83:=gu (by decide) (by decide+kernel)
theorem WJ:bj 97:=gu (by decide) (by decide+kernel)
theorem ajv:bj 103:=gu (by decide) (by decide+kernel)
theorem adM:bj 107:=gu (by decide) (by decide+kernel)
theorem ail:bj 113:=gu (by decide) (by decide+kernel)
theorem T3:bj 127:=gu (by decide) (by decide+kernel)
theorem TP:bj 131:=gu (by decide) (by decide+kernel)
theorem TM:bj 173:=gu (by decide) (by decide+kernel)
theorem aax:bj 223:=gu (by decide) (by decide+kernel)
theorem UO:bj 269:=gu (by decide) (by decide+kernel)
theorem acR:bj 307:=gu (by decide) (by decide+kernel)
theorem Xv:bj 353:=gu (by decide) (by decide+kernel)
theorem Yd:bj 419:=gu (by decide) (by decide+kernel)
theorem aiy:bj 479:=gu (by decide) (by decide+kernel)
theorem ahv:bj 487:=gu (by decide) (by decide+kernel)
theorem ahi:bj 991:=gu (by decide) (by decide+kernel)
theorem ad8:bj 1361:=dJ (g:=3) (k:=12) (qs:=[2,2,2,2,5,17]) (by decide+kernel) (all_cons p2 (all_cons p2 (all_cons p2 (all_cons p2 (all_cons p5 (all_cons En cv))))))
theorem Lr:bj 1723:=dJ (g:=3) (k:=12) (qs:=[2,3,7,41]) (by decide+kernel) (all_cons p2 (all_cons p3 (all_cons p7 (all_cons M9 cv))))
theorem agI:bj 2437:=dJ (g:=2) (k:=13) (qs:=[2,2,3,7,29]) (by decide+kernel) (all_cons p2 (all_cons p2 (all_cons p3 (all_cons p7 (all_cons Wa cv)))))
theorem ajX:bj 2551:=dJ (g:=6) (k:=13) (qs:=[2,3,5,5,17]) (by decide+kernel) (all_cons p2 (all_cons p3 (all_cons p5 (all_cons p5 (all_cons En cv)))))
theorem ae6:bj 2851:=dJ (g:=2) (k:=13) (qs:=[2,3,5,5,19]) (by decide+kernel) (all_cons p2 (all_cons p3 (all_cons p5 (all_cons p5 (all_cons Ii cv)))))
theorem ahG:bj 2939:=dJ (g:=2) (k:=13) (qs:=[2,13,113]) (by decide+kernel) (all_cons p2 (all_cons Dr (all_cons ail cv)))
theorem Zb:bj 3727:=dJ (g:=3) (k:=13) (qs:=[2,3,3,3,3,23]) (by decide+kernel) (all_cons p2 (all_cons p3 (all_cons p3 (all_cons p3 (all_cons p3 (all_cons Jc cv))))))
theorem agM:bj 3797:=dJ (g:=2) (k:=13) (qs:=[2,2,13,73]) (by decide+kernel) (all_cons p2 (all_cons p2 (all_cons Dr (all_cons Rm cv))))
theorem Xa:bj 4153:=dJ (g:=5) (k:=14) (qs:=[2,2,2,3,173]) (by decide+kernel) (all_cons p2 (all_cons p2 (all_cons p2 (all_cons p3 (all_cons TM cv)))))
theorem W4:bj 5879:=dJ (g:=11) (k:=14) (qs:=[2,2939]) (by decide+kernel) (all_cons p2 (all_cons ahG cv))
theorem ahO:bj 9463:=dJ (g:=3) (k:=15) (qs:=[2,3,19,83]) (by decide+kernel) (all_cons p2 (all_cons p3 (all_cons Ii (all_cons p83 cv))))
theorem ahW:bj 17231:=dJ (g:=13) (k:=16) (qs:=[2,5,1723]) (by decide+kernel) (all_cons p2 (all_cons p5 (all_cons Lr cv)))
theorem agO:bj 22111:=dJ (g:=6) (k:=16) (qs:=[2,3,5,11,67]) (by decide+kernel) (all_cons p2 (all_cons p3 (all_cons p5 (all_cons p11 (all_cons p67 cv)))))
theorem ahV:bj 30703:=dJ (g:=3) (k:=16) (qs:=[2,3,7,17,43]) (by decide+kernel) (all_cons p2 (all_cons p3 (all_cons p7 (all_cons En (all_cons KK cv)))))
theorem Vi:bj 32573:=dJ (g:=2) (k:=16) (qs:=[2,2,17,479]) (by decide+kernel) (all_cons p2 (all_cons p2 (all_cons En (all_cons aiy cv))))
theorem Up:bj 34123:=dJ (g:=2) (k:=17) (qs:=[2,3,11,11,47]) (by decide+kernel) (all_cons p2 (all_cons p3 (all_cons p11 (all_cons p11 (all_cons Ke cv)))))
theorem Yt:bj 37853:=dJ (g:=2) (k:=17) (qs:=[2,2,9463]) (by decide+kernel) (all_cons p2 (all_cons p2 (all_cons ahO cv)))
theorem Ww:bj 41081:=dJ (g:=3) (k:=17) (qs:=[2,2,2,5,13,79]) (by decide+kernel) (all_cons p2 (all_cons p2 (all_cons p2 (all_cons p5 (all_cons Dr (all_cons p79 cv))))))
theorem TA:bj 57467:=dJ (g:=2) (k:=17) (qs:=[2,59,487]) (by decide+kernel) (all_cons p2 (all_cons p59 (all_cons ahv cv)))
theorem Rk:bj 65147:=dJ (g:=2) (k:=17) (qs:=[2,32573]) (by decide+kernel) (all_cons p2 (all_cons Vi cv))
theorem ZY:bj 75707:=dJ (g:=2) (k:=18) (qs:=[2,37853]) (by decide+kernel) (all_cons p2 (all_cons Yt cv))
theorem Xi:bj 82163:=dJ (g:=2) (k:=18) (qs:=[2,41081]) (by decide+kernel) (all_cons p2 (all_cons Ww cv))
theorem adC:bj 132049:=dJ (g:=26) (k:=19) (qs:=[2,2,2,2,3,3,7,131]) (by decide+kernel) (all_cons p2 (all_cons p2 (all_cons p2 (all_cons p2 (all_cons p3 (all_cons p3 (all_cons p7 (all_cons TP cv))))))))
theorem Yz:bj 132667:=dJ (g:=5) (k:=19) (qs:=[2,3,22111]) (by decide+kernel) (all_cons p2 (all_cons p3 (all_cons agO cv)))
theorem adK:bj 137849:=dJ (g:=3) (k:=19) (qs:=[2,2,2,17231]) (by decide+kernel) (all_cons p2 (all_cons p2 (all_cons p2 (all_cons ahW cv))))
theorem XN:bj 409477:=dJ (g:=2) (k:=20) (qs:=[2,2,3,34123]) (by decide+kernel) (all_cons p2 (all_cons p2 (all_cons p3 (all_cons Up cv))))
theorem VX:bj 430751:=dJ (g:=17) (k:=20) (qs:=[2,5,5,5,1723]) (by decide+kernel) (all_cons p2 (all_cons p5 (all_cons p5 (all_cons p5 (all_cons Lr cv)))))
theorem ac3:bj 531581:=dJ (g:=2) (k:=21) (qs:=[2,2,5,7,3797]) (by decide+kernel) (all_cons p2 (all_cons p2 (all_cons p5 (all_cons p7 (all_cons agM cv)))))
theorem XK:bj 569003:=dJ (g:=2) (k:=21) (qs:=[2,7,97,419]) (by decide+kernel) (all_cons p2 (all_cons p7 (all_cons WJ (all_cons Yd cv))))
theorem aiM:bj 1224481:=dJ (g:=13) (k:=22) (qs:=[2,2,2,2,2,3,5,2551]) (by decide+kernel) (all_cons p2 (all_cons p2 (all_cons p2 (all_cons p2 (all_cons p2 (all_cons p3 (all_cons p5 (all_cons ajX cv))))))))
theorem Zk:bj 1923133:=dJ (g:=2) (k:=22) (qs:=[2,2,3,43,3727]) (by decide+kernel) (all_cons p2 (all_cons p2 (all_cons p3 (all_cons KK (all_cons Zb cv)))))
theorem ad4:bj 8574133:=dJ (g:=2) (k:=25) (qs:=[2,2,3,7,103,991]) (by decide+kernel) (all_cons p2 (all_cons p2 (all_cons p3 (all_cons p7 (all_cons ajv (all_cons ahi cv))))))
theorem afZ:bj 14741173:=dJ (g:=2) (k:=25) (qs:=[2,2,3,3,409477]) (by decide+kernel) (all_cons p2 (all_cons p2 (all_cons p3 (all_cons p3 (all_cons XN cv)))))
theorem Zy:bj 58964693:=dJ (g:=2) (k:=27) (qs:=[2,2,14741173]) (by decide+kernel) (all_cons p2 (all_cons p2 (all_cons afZ cv)))
theorem adp:bj 292386187:=dJ (g:=2) (k:=30) (qs:=[2,3,3,3,3,307,5879]) (by decide+kernel) (all_cons p2 (all_cons p3 (all_cons p3 (all_cons p3 (all_cons p3 (all_cons acR (all_cons W4 cv)))))))
theorem acp:bj 2773320623:=dJ (g:=5) (k:=33) (qs:=[2,2437,569003]) (by decide+kernel) (all_cons p2 (all_cons agI (all_cons XK cv)))
theorem Zd:bj 72106336199:=dJ (g:=7) (k:=38) (qs:=[2,13,2773320623]) (by decide+kernel) (all_cons p2 (all_cons Dr (all_cons acp cv)))
theorem YQ:bj 213441916511:=dJ (g:=13) (k:=39) (qs:=[2,5,73,292386187]) (by decide+kernel) (all_cons p2 (all_cons p5 (all_cons Rm (all_cons adp cv))))
theorem afj:bj 1257559732178653:=dJ (g:=2) (k:=52) (qs:=[2,2,3,7,23,531581,1224481]) (by decide+kernel) (all_cons p2 (all_cons p2 (all_cons p3 (all_cons p7 (all_cons Jc (all_cons ac3 (all_cons aiM cv)))))))
theorem aiX:bj 1919519569386763:=dJ (g:=2) (k:=52) (qs:=[2,3,7,19,47,47,127,8574133]) (by decide+kernel) (all_cons p2 (all_cons p3 (all_cons p7 (all_cons Ii (all_cons Ke (all_cons Ke (all_cons T3 (all_cons ad4 cv))))))))
theorem aga:bj 31757755568855353:=dJ (g:=10) (k:=56) (qs:=[2,2,2,3,31,107,223,4153,430751]) (by decide+kernel) (all_cons p2 (all_cons p2 (all_cons p2 (all_cons p3 (all_cons Wo (all_cons adM (all_cons aax (all_cons Xa (all_cons VX cv)))))))))
theorem aeX:bj 4434155615661930479:=dJ (g:=17) (k:=63) (qs:=[2,41,43,1257559732178653]) (by decide+kernel) (all_cons p2 (all_cons M9 (all_cons KK (all_cons afj cv))))
theorem adJ:bj 3044861653679985063343:=dJ (g:=5) (k:=73) (qs:=[2,3,11,30703,82163,132667,137849]) (by decide+kernel) (all_cons p2 (all_cons p3 (all_cons p11 (all_cons ahV (all_cons Xi (all_cons Yz (all_cons adK cv)))))))
theorem ahP:bj 172054593956031949258510691:=dJ (g:=2) (k:=89) (qs:=[2,5,1361,2851,4434155615661930479]) (by decide+kernel) (all_cons p2 (all_cons p5 (all_cons ad8 (all_cons ae6 (all_cons aeX cv)))))
theorem aaA:bj 198211423230930754013084525763697:=dJ (g:=5) (k:=109) (qs:=[2,2,2,2,3,23,58964693,3044861653679985063343]) (by decide+kernel) (all_cons p2 (all_cons p2 (all_cons p2 (all_cons p2 (all_cons p3 (all_cons Jc (all_cons Zy (all_cons adJ cv))))))))
theorem Xd:bj 75445702479781427272750846543864801:=dJ (g:=7) (k:=117) (qs:=[2,2,2,2,2,3,3,5,5,75707,72106336199,1919519569386763]) (by decide+kernel) (all_cons p2 (all_cons p2 (all_cons p2 (all_cons p2 (all_cons p2 (all_cons p3 (all_cons p3 (all_cons p5 (all_cons p5 (all_cons ZY (all_cons Zd (all_cons aiX cv))))))))))))
theorem aho:bj 19757330305831588566944191468367130476339:=dJ (g:=2) (k:=135) (qs:=[2,269,213441916511,172054593956031949258510691]) (by decide+kernel) (all_cons p2 (all_cons UO (all_cons YQ (all_cons ahP cv))))
theorem V1:bj 276602624281642239937218680557139826668747:=dJ (g:=2) (k:=139) (qs:=[2,7,19757330305831588566944191468367130476339]) (by decide+kernel) (all_cons p2 (all_cons p7 (all_cons aho cv)))
theorem S9:bj 74058212732561358302231226437062788676166966415465897661863160754340907:=dJ (g:=2) (k:=237) (qs:=[2,3,353,57467,132049,1923133,31757755568855353,75445702479781427272750846543864801]) (by decide+kernel) (all_cons p2 (all_cons p3 (all_cons Xv (all_cons TA (all_cons adC (all_cons Zk (all_cons aga (all_cons Xd cv))))))))
theorem VQ:bj 7237005577332262213973186563042994240857116359379907606001950938285454250989:=dJ (g:=2) (k:=254) (qs:=[2,2,3,11,198211423230930754013084525763697,276602624281642239937218680557139826668747]) (by decide+kernel) (all_cons p2 (all_cons p2 (all_cons p3 (all_cons p11 (all_cons aaA (all_cons V1 cv))))))
theorem aeK:bj 57896044618658097711785492504343953926634992332820282019728792003956564819949:=dJ (g:=2) (k:=256) (qs:=[2,2,3,65147,74058212732561358302231226437062788676166966415465897661863160754340907]) (by decide+kernel) (all_cons p2 (all_cons p2 (all_cons p3 (all_cons Rk (all_cons S9 cv)))))
end Go.Cv
end
section
namespace Go.Cv
abbrev Q:Nat:=57896044618658097711785492504343953926634992332820282019728792003956564819949
abbrev F:=Fin Q
theorem Bt:bj Q:=aeK
theorem ng {a b:F}(h:a*b=0):a=0\/b=0:=by
 have c:a.val*b.val%Q=0:=by
  have :=congrArg Fin.val h
  rwa [Fin.val_mul] at this
 rcases Bt.dvd_mul (Nat.dvd_of_mod_eq_zero c) with h2|h2
 .exact .inl (Fin.ext (Nat.eq_zero_of_dvd_of_lt h2 a.isLt))
 .exact .inr (Fin.ext (Nat.eq_zero_of_dvd_of_lt h2 b.isLt))
theorem jW {a b:F}(c:a≠0)(d:b≠0):a*b≠0:=fun h=>by
 rcases ng h with h|h
 .exact c h
 .exact d h
theorem F5 {a b c:F}(d:a≠0)(h:a*b=a*c):b=c:=by
 have :a*(b-c)=0:=by grind
 rcases ng this with h|h
 .exact absurd h d
 .grind
theorem Ix (a:F):∀ n:Nat,(a^n).val=a.val^n%Q
 |0=>rfl
 |n+1=>by
  rw[show a^(n+1)=a^n*a by grind,Fin.val_mul,Ix a n,Nat.pow_succ,Nat.mod_mul_mod]
theorem abP:Dq Q 2 256 [2,2,3,65147,74058212732561358302231226437062788676166966415465897661863160754340907]=true:=by decide+kernel
theorem Qp {a:F}(b:a≠0):a^(Q-1)=1:=by
 obtain⟨g,f,c,d⟩:=Ly abP;have e:=Ya _ Bt (all_cons p2 (all_cons p2 (all_cons p3 (all_cons Rk (all_cons S9 cv))))) f c d (a:=a.val) (by
  rw[Nat.mod_eq_of_lt a.isLt];exact fun h=>b (Fin.ext h))
 apply Fin.ext;rw[Ix,e];rfl
def fU (a:F):F:=a^(Q-2)
theorem pG {a:F}(b:a≠0):a*fU a=1:=by
 rw[<-Qp b,show Q-1=(Q-2)+1 from rfl];unfold fU;generalize Q-2=n
 grind
end Go.Cv
end
section
namespace Go.Cv
def D:F:=20800338683988658368647408995589388737092878452977063003340006470870624536394
theorem XT:D*121666=121665:=by decide+kernel
theorem D3:(2:F)≠0:=by decide+kernel
theorem aiw:D≠0:=by decide+kernel
theorem aaO:D^((Q-1)/2)≠1:=by
 intro h;have a:=congrArg Fin.val h;rw[Ix] at a;have c:=GL (m:=Q) (k:=256) (b:=D.val) (e:=(Q-1)/2) (r:=Q-1) (by decide+kernel) (by decide+kernel);rw[c] at a;exact absurd a (by decide+kernel)
theorem Qc (a:F)(m:Nat):∀ n:Nat,a^(m*n)=(a^m)^n
 |0=>by simp
 |n+1=>by
  rw[Nat.mul_succ,show(a^m)^(n+1)=(a^m)^n*a^m by grobner,<-Qc a m n];generalize m*n=k;grobner
theorem Y4 (s:F):s*s≠D:=fun h=>by
 by_cases a:s=0
 .subst a;exact aiw (by rw[<-h];grobner)
 .refine aaO ?_;rw[<-h,show s*s=s^2 by grobner,<-Qc,show 2*((Q-1)/2)=Q-1 from by decide+kernel];exact Qp a
theorem ME {u v:F}(a:v≠0)(h:u*u=D*(v*v)):False:=by
 refine Y4 (u*fU v) ?_;have :=pG a;generalize fU v=w at*;grobner
theorem Rg {c d x2 f:F}(h1:c^2+d^2=1+D*c^2*d^2)(h2:x2^2+f^2=1+D*x2^2*f^2){e:F}(l:D*c*x2*d*f=e)(k:e*e=1):False:=by
 have g:e≠0:=fun h=>by subst h;exact absurd k (by decide+kernel)
 have a:c≠0:=fun h=>g (by rw[<-l,h];grobner)
 have b:d≠0:=fun h=>g (by rw[<-l,h];grobner)
 by_cases i:x2+f=0
 .by_cases j:x2-f=0
  .have :(2:F)*x2=0:=by grobner
   rcases ng this with h|h
   .exact D3 h
   .exact g (by rw[<-l,h];grobner)
  .exact ME (u:=c-e*d) (v:=c*d*(x2-f)) (jW (jW a b) j) (by clear i j a b g;grobner)
 .exact ME (u:=c+e*d) (v:=c*d*(x2+f)) (jW (jW a b) i) (by clear i a b g;grobner)
structure Ed where
 x:F
 y:F
 on:x^2+y^2=1+D*x^2*y^2
theorem Ed.ext' {p q:Ed}(a:p.x=q.x)(b:p.y=q.y):p=q:=by
 cases p;cases q;simp only at a b;subst a b;rfl
def dp (p q:Ed):F:=1+D*p.x*q.x*p.y*q.y
def dm (p q:Ed):F:=1-D*p.x*q.x*p.y*q.y
theorem xL (p q:Ed):dp p q≠0:=fun h=>Rg p.on q.on rfl (by unfold dp at h;generalize D*p.x*q.x*p.y*q.y=t at*;grobner)
theorem uq (p q:Ed):dm p q≠0:=fun h=>Rg p.on q.on rfl (by unfold dm at h;generalize D*p.x*q.x*p.y*q.y=t at*;grobner)
def nx (p q:Ed):F:=p.x*q.y+p.y*q.x
def ny (p q:Ed):F:=p.y*q.y-p.x*q.x
theorem Vc (a b x2 c D:F)(h1:a^2+b^2=1+D*a^2*b^2)(h2:x2^2+c^2=1+D*x2^2*c^2):
 (a*c+b*x2)^2*(1-D*a*x2*b*c)^2+(b*c-a*x2)^2*(1+D*a*x2*b*c)^2=(1+D*a*x2*b*c)^2*(1-D*a*x2*b*c)^2+D*(a*c+b*x2)^2*(b*c-a*x2)^2:=by grobner
theorem Za (p q:Ed):(nx p q*fU (dp p q))^2+(ny p q*fU (dm p q))^2=1+D*(nx p q*fU (dp p q))^2*(ny p q*fU (dm p q))^2:=by
 have h:=Vc p.x p.y q.x q.y D p.on q.on;have f:=pG (xL p q);have g:=pG (uq p q);change (nx p q)^2*(dm p q)^2+(ny p q)^2*(dp p q)^2=(dp p q)^2*(dm p q)^2+D*(nx p q)^2*(ny p q)^2 at h;generalize fU (dp p q)=u at*;generalize fU (dm p q)=v at*;generalize dp p q=a at*;generalize dm p q=b at*;generalize nx p q=m at*;generalize ny p q=n at*;have c:(a*u)^2=1:=by rw[f];grobner
 have d:(b*v)^2=1:=by rw[g];grobner
 have e:(m^2*b^2+n^2*a^2)*(u^2*v^2)=(a^2*b^2+D*m^2*n^2)*(u^2*v^2):=by rw[h]
 grobner
def Ed.add (p q:Ed):Ed:=⟨nx p q*fU (dp p q),ny p q*fU (dm p q),Za p q⟩
theorem CT (p q:Ed):(p.add q).x*dp p q=nx p q:=by
 show nx p q*fU (dp p q)*dp p q=nx p q;have :=pG (xL p q);generalize fU (dp p q)=u at*;grobner
theorem uF (p q:Ed):(p.add q).y*dm p q=ny p q:=by
 show ny p q*fU (dm p q)*dm p q=ny p q;have :=pG (uq p q);generalize fU (dm p q)=u at*;grobner
theorem abl (p q:Ed):p.add q=q.add p:=by
 have a:dp p q=dp q p:=by unfold dp;grobner
 have b:dm p q=dm q p:=by unfold dm;grobner
 have c:nx p q=nx q p:=by unfold nx;grobner
 have d:ny p q=ny q p:=by unfold ny;grobner
 refine Ed.ext' ?_ ?_
 .show nx p q*fU (dp p q)=nx q p*fU (dp q p);rw[a,c]
 .show ny p q*fU (dm p q)=ny q p*fU (dm q p);rw[b,d]
theorem Z4 (b c x2 a x3 d D:F)(h1:b^2+c^2=1+D*b^2*c^2)(h2:x2^2+a^2=1+D*x2^2*a^2)(e:x3^2+d^2=1+D*x3^2*d^2):
 ((b*a+c*x2)*(1-D*b*x2*c*a)*d+(c*a-b*x2)*(1+D*b*x2*c*a)*x3)*((1+D*x2*x3*a*d)*(1-D*x2*x3*a*d)+D*(x2*d+a*x3)*(a*d-x2*x3)*b*c)
 =(b*(a*d-x2*x3)*(1+D*x2*x3*a*d)+c*(x2*d+a*x3)*(1-D*x2*x3*a*d))*((1+D*b*x2*c*a)*(1-D*b*x2*c*a)+D*(b*a+c*x2)*(c*a-b*x2)*x3*d):=by grobner
theorem adL (b c x2 a x3 d D:F)(h1:b^2+c^2=1+D*b^2*c^2)(h2:x2^2+a^2=1+D*x2^2*a^2)(e:x3^2+d^2=1+D*x3^2*d^2):
 ((c*a-b*x2)*(1+D*b*x2*c*a)*d-(b*a+c*x2)*(1-D*b*x2*c*a)*x3)*((1+D*x2*x3*a*d)*(1-D*x2*x3*a*d)-D*(x2*d+a*x3)*(a*d-x2*x3)*b*c)
 =(c*(a*d-x2*x3)*(1+D*x2*x3*a*d)-b*(x2*d+a*x3)*(1-D*x2*x3*a*d))*((1+D*b*x2*c*a)*(1-D*b*x2*c*a)-D*(b*a+c*x2)*(c*a-b*x2)*x3*d):=by grobner
theorem Rv {X A m n s A' g n' a b a' h c:F}(j:a≠0)(d:a'≠0)(k:A≠0)(e:A'≠0)(h1:X*A=m)(h2:s*A'=g)(l:m*a=n)(o:A*a=b)(p:g*a'=n')(q:A'*a'=h)(r:n*h=n'*b)(_hc:c=0):X=s:=by
 have t:=jW (jW j d) (jW k e);refine F5 t ?_;subst h1 h2 l o p q;grobner
theorem Lh (p q r:Ed):(p.add q).add r=p.add (q.add r):=by
 have f:=CT p q;have g:=uF p q;have s:=CT q r;have h:=uF q r;have b:=xL p q;have o:=uq p q;have d:=xL q r;have e:=uq q r;have t:=CT (p.add q) r;have u:=uF (p.add q) r;have v:=CT p (q.add r);have i:=uF p (q.add r);have w:=xL (p.add q) r;have j:=uq (p.add q) r;have k:=xL p (q.add r);have l:=uq p (q.add r);have m:=Z4 p.x p.y q.x q.y r.x r.y D p.on q.on r.on;have n:=adL p.x p.y q.x q.y r.x r.y D p.on q.on r.on;change (nx p q*dm p q*r.y+ny p q*dp p q*r.x)*(dp q r*dm q r+D*nx q r*ny q r*p.x*p.y)=(p.x*ny q r*dp q r+p.y*nx q r*dm q r)*(dp p q*dm p q+D*nx p q*ny p q*r.x*r.y) at m;change (ny p q*dp p q*r.y-nx p q*dm p q*r.x)*(dp q r*dm q r-D*nx q r*ny q r*p.x*p.y)=(p.y*ny q r*dp q r-p.x*nx q r*dm q r)*(dp p q*dm p q-D*nx p q*ny p q*r.x*r.y) at n;rw[<-f,<-g,<-s,<-h] at m n;refine Ed.ext' ?_ ?_
 .refine Rv (a:=dp p q*dm p q) (a':=dp q r*dm q r) (jW b o) (jW d e) w k t v rfl rfl rfl rfl ?_ (c:=0) rfl;unfold nx at*;rw[show dp (p.add q) r=1+D*(p.add q).x*r.x*(p.add q).y*r.y from rfl,show dp p (q.add r)=1+D*p.x*(q.add r).x*p.y*(q.add r).y from rfl];generalize dp p q=z at*;generalize dm p q=A at*;generalize dp q r=B at*;generalize dm q r=C at*;generalize (p.add q).x=X at*;generalize (p.add q).y=Y at*;generalize (q.add r).x=E at*;generalize (q.add r).y=F at*;clear f g s h b o d e t u v i w j k l n;grobner
 .refine Rv (a:=dp p q*dm p q) (a':=dp q r*dm q r) (jW b o) (jW d e) j l u i rfl rfl rfl rfl ?_ (c:=0) rfl;unfold ny at*;rw[show dm (p.add q) r=1-D*(p.add q).x*r.x*(p.add q).y*r.y from rfl,show dm p (q.add r)=1-D*p.x*(q.add r).x*p.y*(q.add r).y from rfl];generalize dp p q=z at*;generalize dm p q=A at*;generalize dp q r=B at*;generalize dm q r=C at*;generalize (p.add q).x=X at*;generalize (p.add q).y=Y at*;generalize (q.add r).x=E at*;generalize (q.add r).y=F at*;clear f g s h b o d e t u v i w j k l m;grobner
def Ed.zero:Ed:=⟨0,1,by decide+kernel⟩
theorem Nt:fU (1:F)=1:=by
 have :=pG (a:=(1:F)) (by decide+kernel);grobner
theorem yu (p:Ed):Ed.zero.add p=p:=by
 have a:dp Ed.zero p=1:=by show 1+D*0*p.x*1*p.y=1;grobner
 have b:dm Ed.zero p=1:=by show 1-D*0*p.x*1*p.y=1;grobner
 refine Ed.ext' ?_ ?_
 .show nx Ed.zero p*fU (dp Ed.zero p)=p.x;rw[a,Nt];show(0*p.y+1*p.x)*1=p.x;grobner
 .show ny Ed.zero p*fU (dm Ed.zero p)=p.y;rw[b,Nt];show(1*p.y-0*p.x)*1=p.y;grobner
def eE:Nat->Ed->Ed
 |0,_=>Ed.zero
 |n+1,p=>(eE n p).add p
theorem x6 (p:Ed)(m:Nat):∀ n,eE (m+n) p=(eE m p).add (eE n p)
 |0=>by show eE m p=(eE m p).add Ed.zero;rw[abl,yu]
 |n+1=>by
  show(eE (m+n) p).add p=(eE m p).add ((eE n p).add p);rw[x6 p m n,Lh]
theorem Gy (p:Ed)(m:Nat):∀ n,eE (m*n) p=eE n (eE m p)
 |0=>rfl
 |n+1=>by
  rw[Nat.mul_succ,x6,Gy p m n];rfl
def base:Ed:=⟨9771384041963202563870679428059935816164187996444183106833894008023910952347,46316835694926478169428394003475163141307993866256225615783033603165251855960,by decide+kernel⟩
end Go.Cv
end
section
namespace Go.Cv
def Ed.neg (p:Ed):Ed:=⟨0-p.x,p.y,by have :=p.on;grobner⟩
theorem agJ (p:Ed):p.neg.add p=Ed.zero:=by
 have b:=CT p.neg p;have c:=uF p.neg p;have d:nx p.neg p=0:=by show(0-p.x)*p.y+p.y*p.x=0;grobner
 have e:ny p.neg p=dm p.neg p:=by
  show p.y*p.y-(0-p.x)*p.x=1-D*(0-p.x)*p.x*p.y*p.y;have :=p.on;grobner
 rw[d] at b;rw[e] at c;refine Ed.ext' ?_ ?_
 .rcases ng b with h|h
  .exact h
  .exact absurd h (xL _ _)
 .refine F5 (uq p.neg p) ?_;show _=dm p.neg p*1;generalize dm p.neg p=a at*;grobner
def vE (X Z96:F)(p:Ed):Prop:=∃ l:F,l≠0/\X=l*(1+p.y)/\Z96=l*(1-p.y)
def vX (X Z96:F):F×F:=((X+Z96)*(X+Z96)*((X-Z96)*(X-Z96)),((X+Z96)*(X+Z96)-(X-Z96)*(X-Z96))*((X+Z96)*(X+Z96)+121665*((X+Z96)*(X+Z96)-(X-Z96)*(X-Z96))))
def ue (X Z96 a b u:F):F×F:=(((X-Z96)*(a+b)+(X+Z96)*(a-b))*((X-Z96)*(a+b)+(X+Z96)*(a-b)),u*(((X-Z96)*(a+b)-(X+Z96)*(a-b))*((X-Z96)*(a+b)-(X+Z96)*(a-b))))
theorem ahH:(8:F)≠0:=by decide+kernel
theorem Yq:(121666:F)≠0:=by decide+kernel
theorem XP {x y:F}(h:x^2+y^2=1+D*x^2*y^2):(121666-121665*y^2)*(1-x^2)=y^2:=by
 have :=XT;generalize D=d at*;grobner
theorem SM {X Z96:F}{p:Ed}(h:vE X Z96 p):vE (vX X Z96).1 (vX X Z96).2 (p.add p):=by
 obtain⟨l,j,rfl,rfl⟩:=h;have d:=uF p p;have g:=uq p p;have on:=p.on;have k:=XP on;have a:121666-121665*p.y^2≠0:=fun e=>by
  rw[e] at k;have m:p.y^2=0:=by grobner
  rw[m] at e;exact Yq (by grobner)
 have b:dm p p=2-p.x^2-p.y^2:=by
  show 1-D*p.x*p.x*p.y*p.y=_;grobner
 have f:ny p p=p.y^2-p.x^2:=by show p.y*p.y-p.x*p.x=_;grobner
 refine⟨8*(l*l)*(l*l)*(121666-121665*p.y^2)*dm p p,jW (jW (jW (jW ahH (jW j j)) (jW j j)) a) g,?_,?_⟩
 .unfold vX;simp only;rw[b,f] at d;rw[b];generalize (p.add p).y=s at*;generalize p.y=y at*;generalize p.x=x at*;have c:(2-x^2-y^2)*(1+s)=2-2*x^2:=by grobner
  have i:8*(l*l)*(l*l)*(121666-121665*y^2)*(2-x^2-y^2)*(1+s)=8*(l*l)*(l*l)*(121666-121665*y^2)*(2-2*x^2):=by rw[<-c];clear c d on k a g b f;grobner
  rw[i];clear c i d on a g b f;grobner
 .unfold vX;simp only;rw[b,f] at d;rw[b];generalize (p.add p).y=s at*;generalize p.y=y at*;generalize p.x=x at*;have c:(2-x^2-y^2)*(1-s)=2-2*y^2:=by grobner
  have i:8*(l*l)*(l*l)*(121666-121665*y^2)*(2-x^2-y^2)*(1-s)=8*(l*l)*(l*l)*(121666-121665*y^2)*(2-2*y^2):=by rw[<-c];clear c d on k a g b f;grobner
  rw[i];clear c i d on a g b f k;grobner
theorem Uo (x2 a x3 b D:F)(h1:x2^2+a^2=1+D*x2^2*a^2)(h2:x3^2+b^2=1+D*x3^2*b^2):
 (a+b)^2*((1+D*x2*x3*a*b)-(a*b+x2*x3))*((1-D*x2*x3*a*b)-(a*b-x2*x3))=((1+D*x2*x3*a*b)+(a*b+x2*x3))*(b-a)^2*((1-D*x2*x3*a*b)+(a*b-x2*x3)):=by grobner
def half:F:=28948022309329048855892746252171976963317496166410141009864396001978282409975
theorem MI:half*2=1:=by decide+kernel
theorem Nc:half≠0:=by decide+kernel
theorem ahf {a:F}(h:a*a=1):(a-1)*(a+1)=0:=by grobner
theorem zB {a b:F}(h:a-b=0):a=b:=by grobner
theorem Hg {a:F}(h:a+1=0):a=0-1:=by grobner
theorem Nz {a:F}(h:a^2=0):a=0:=by
 have h:a*a=0:=by grobner
 rcases ng h with h|h<;>exact h
theorem adc {u x2 b x3 e f g a c d:F}(p:a=1+d)(hc:c=1-d)(q:d=D*x2*x3*b*e)(i:x2^2+b^2=1+D*x2^2*b^2)(j:x3^2+e^2=1+D*x3^2*e^2)(k:f*a=b*e+x2*x3)(l:a≠0)(m:g*c=b*e-x2*x3)(n:c≠0)(r:u*(1-f)=1+f)(o:1-f≠0):
  (b+e)^2*(1-g)=u*(e-b)^2*(1+g):=by
 have h:=Uo x2 b x3 e D i j;rw[<-q,<-p,<-hc,<-k,<-m] at h;refine F5 (a:=(1-f)*(a*c)) (jW o (jW l n)) ?_;clear i j k m l n o p hc q;have s:(b+e)^2*(a*(1-f))*(c*(1-g))=a*(1+f)*(e-b)^2*(c*(1+g)):=by
  have :(b+e)^2*(a*(1-f))*(c*(1-g))=(b+e)^2*(a-f*a)*(c-g*c):=by clear h r;grobner
  rw[this,h];clear h r this;grobner
 have t:(1-f)*(a*c)*((b+e)^2*(1-g))=(b+e)^2*(a*(1-f))*(c*(1-g)):=by clear h r s;grobner
 rw[t,s,<-r];clear h r s t;grobner
theorem agG {u x2 e x3 d f:F}(a:x2^2+e^2=1+D*x2^2*e^2)(b:x3^2+d^2=1+D*x3^2*d^2)(c:f*(1+D*x2*x3*e*d)=e*d+x2*x3)(g:f*f≠1)(i:u≠0)(h1:e+d=0)(h2:u*(d-e)^2=0):False:=by
 have k:d-e=0:=by
  rcases ng h2 with h|h
  .exact absurd h i
  .exact Nz h
 have j:(2:F)*d=0:=by clear a b c h2;grobner
 have j:d=0:=by
  rcases ng j with h|h
  .exact absurd h D3
  .exact h
 subst j;have m:e=0:=by clear a b c h2 k;grobner
 subst m;refine g ?_;clear h1 h2 k;have n:x2*x2=1:=by clear b c;grobner
 have o:x3*x3=1:=by clear a c;grobner
 have l:f=x2*x3:=by clear a b n o;grobner
 rw[l];clear a b c l;grobner
theorem W0 {l m u a b c:F}(e:(a+b)^2*(1-c)=u*(b-a)^2*(1+c)):
  (ue (l*(1+a)) (l*(1-a)) (m*(1+b)) (m*(1-b)) u).1=half*(16*(l*m)*(l*m)*((a+b)^2+u*(b-a)^2))*(1+c)/\
  (ue (l*(1+a)) (l*(1-a)) (m*(1+b)) (m*(1-b)) u).2=half*(16*(l*m)*(l*m)*((a+b)^2+u*(b-a)^2))*(1-c):=by
 have d:=MI;generalize half=w at*;constructor
 .have f:(a+b)^2*2=((a+b)^2+u*(b-a)^2)*(1+c):=by grobner
  have g:w*(16*(l*m)*(l*m)*((a+b)^2+u*(b-a)^2))*(1+c)=16*(l*m)*(l*m)*(a+b)^2*(w*2):=by
   have :w*(16*(l*m)*(l*m)*((a+b)^2+u*(b-a)^2))*(1+c)=w*(16*(l*m)*(l*m))*(((a+b)^2+u*(b-a)^2)*(1+c)):=by clear f e d;grobner
   rw[this,<-f];clear f e d this;grobner
  rw[g,d];clear f g d e;unfold ue;simp only;grobner
 .have f:u*(b-a)^2*2=((a+b)^2+u*(b-a)^2)*(1-c):=by grobner
  have g:w*(16*(l*m)*(l*m)*((a+b)^2+u*(b-a)^2))*(1-c)=16*(l*m)*(l*m)*(u*(b-a)^2)*(w*2):=by
   have :w*(16*(l*m)*(l*m)*((a+b)^2+u*(b-a)^2))*(1-c)=w*(16*(l*m)*(l*m))*(((a+b)^2+u*(b-a)^2)*(1-c)):=by clear f e d;grobner
   rw[this,<-f];clear f e d this;grobner
  rw[g,d];clear f g d e;unfold ue;simp only;grobner
theorem aj2 {a b c d e:F}(k:a*(1-e)=b*(1+e))(h:a+b=0)(h2:c*2=d):2*a=0:=by
 clear h2;grobner
theorem V6 {X Z96 K L u:F}{p q b:Ed}(h:vE X Z96 p)(h':vE K L q)(C:q=p.add b)(M:u*(1-b.y)=1+b.y)(v:b.y≠1)(g:u≠0):vE (ue X Z96 K L u).1 (ue X Z96 K L u).2 (p.add q):=by
 obtain⟨l,w,rfl,rfl⟩:=h;obtain⟨m,N,rfl,rfl⟩:=h';have E:b=p.neg.add q:=by rw[C,<-Lh,agJ,yu]
 have a:=uF p.neg q;rw[<-E] at a;have i:=uq p.neg q;have k:1-D*p.x*q.x*p.y*q.y≠0:=uq p q;have f:(p.add q).y*(1-D*p.x*q.x*p.y*q.y)=p.y*q.y-p.x*q.x:=uF p q;have j:dm p.neg q=1+D*p.x*q.x*p.y*q.y:=by show 1-D*(0-p.x)*q.x*p.y*q.y=_;grobner
 have n:ny p.neg q=p.y*q.y+p.x*q.x:=by show p.y*q.y-(0-p.x)*q.x=_;grobner
 rw[j,n] at a;rw[j] at i;have o:1-b.y≠0:=fun e=>v (zB e).symm
 have r:b.y≠0-1:=fun e=>by
  rw[e] at M;have :u*2=0:=by clear a f;grobner
  rcases ng this with h|h
  .exact g h
  .exact D3 h
 have s:b.y*b.y≠1:=fun e=>by
  rcases ng (ahf e) with h|h
  .exact v (zB h)
  .exact r (Hg h)
 have H:=adc rfl rfl rfl p.on q.on a i f k M o;obtain⟨f1,f2⟩:=W0 (l:=l) (m:=m) H;refine⟨_,fun e=>?_,f1,f2⟩;have A:(p.y+q.y)^2+u*(q.y-p.y)^2=0:=by
  rcases ng e with h|h
  .exact absurd h Nc
  .have t:(16:F)*(l*m)*(l*m)≠0:=jW (jW (by decide+kernel) (jW w N)) (jW w N);rcases ng h with h|h
   .exact absurd h t
   .exact h
 have G:=aj2 (c:=0) (d:=0*2) H A rfl;have B:p.y+q.y=0:=by
  rcases ng G with h|h
  .exact absurd h D3
  .exact Nz h
 refine agG p.on q.on a s g B ?_;rw[B] at A;generalize u*(q.y-p.y)^2=z at*;clear a f H f1 f2 M;grobner
def ld (u:F):List Bool->(F×F)×(F×F)
 |[]=>((1,0),(u,1))
 |b::l=>match b with
  |false=>(vX (ld u l).1.1 (ld u l).1.2,ue (ld u l).1.1 (ld u l).1.2 (ld u l).2.1 (ld u l).2.2 u)
  |true=>(ue (ld u l).1.1 (ld u l).1.2 (ld u l).2.1 (ld u l).2.2 u,vX (ld u l).2.1 (ld u l).2.2)
def jG:List Bool->Nat
 |[]=>0
 |b::l=>2*jG l+b.toNat
theorem KS {u:F}{b:Ed}(j:u*(1-b.y)=1+b.y)(f:b.y≠1)(d:u≠0):∀ l,vE (ld u l).1.1 (ld u l).1.2 (eE (jG l) b)/\vE (ld u l).2.1 (ld u l).2.2 (eE (jG l+1) b)
 |[]=>by
  have a:1-b.y≠0:=fun e=>f (by grobner)
  refine⟨⟨half,Nc,?_,?_⟩,⟨fU (1-b.y),fun e=>?_,?_,?_⟩⟩
  .show(1:F)=half*(1+1);have :=MI;grobner
  .show(0:F)=half*(1-1);grobner
  .have :=pG a;rw[e] at this;exact absurd this (by rw[show(1-b.y)*0=0 by grobner];decide+kernel)
  .have e:eE (jG []+1) b=b:=by show Ed.zero.add b=b;exact yu b
   rw[e];show u=_;have :=pG a;generalize fU (1-b.y)=w at*;grobner
  .have e:eE (jG []+1) b=b:=by show Ed.zero.add b=b;exact yu b
   rw[e];show(1:F)=_;have :=pG a;generalize fU (1-b.y)=w at*;grobner
 |c::l=>by
  obtain⟨k,m⟩:=KS j f d l;have g:=V6 k m rfl j f d;have i:(eE (jG l) b).add (eE (jG l+1) b)=eE (2*jG l+1) b:=by rw[<-x6];congr 1;omega
  rw[i] at g
  match c with
  |false=>
   have h:eE (jG (false::l)) b=(eE (jG l) b).add (eE (jG l) b):=by rw[<-x6];show eE (2*jG l+0) b=_;congr 1;omega
   refine⟨?_,?_⟩
   .rw[h];exact SM k
   .exact g
  |true=>
   have h:eE (jG (true::l)+1) b=(eE (jG l+1) b).add (eE (jG l+1) b):=by rw[<-x6];show eE (2*jG l+1+1) b=_;congr 1;omega
   refine⟨?_,?_⟩
   .exact g
   .rw[h];exact SM m
def oF (p:Ed):F:=(1+p.y)*fU (1-p.y)
theorem abx:fU 0=0:=by
 unfold fU;have :(0:F)^(Q-2)=0:=by
  rw[show Q-2=(Q-3)+1 from rfl];generalize Q-3=n;grobner
 exact this
theorem adH {X Z96:F}{p:Ed}(h:vE X Z96 p):X*fU Z96=oF p:=by
 obtain⟨l,b,rfl,rfl⟩:=h;unfold oF;by_cases d:1-p.y=0
 .rw[d,show l*(0:F)=0 by grobner,abx];grobner
 .have e:=pG d;have f:=pG (jW b d);generalize 1-p.y=a at*;generalize fU a=v at*;generalize fU (l*a)=w at*;generalize 1+p.y=c at*;have :l*w=v:=by
   refine F5 d ?_;grobner
  rw[<-this];clear this e f;grobner
end Go.Cv
end
section
namespace Go.Vm
open Go.Proofs Go.Cv
theorem acl (Q Z97:Z)(c:Z97.length=32):bX (bV (du (if(cU (jo Z97) Q 255).sw=1#8 then(cU (jo Z97) Q 255).x3 else(cU (jo Z97) Q 255).x2) (fe (if(cU (jo Z97) Q 255).sw=1#8 then(cU (jo Z97) Q 255).z3 else(cU (jo Z97) Q 255).z2) (qU 18446744073709551615#64) (64*4)))%Pq) 32=
  DQ (jb (kO (lJ Z97 16) (lj Q 255) 255).1.1 (Dw (kO (lJ Z97 16) (lj Q 255) 255).1.2)):=by
 have d:=aeE (jo Z97) (lJ Z97 16) Q (ahC Z97 c) 255 255 (bz _);have i:64*4=64*(qU 18446744073709551615#64).length:=rfl;generalize cU (jo Z97) Q 255=L at*;generalize kO (lJ Z97 16) (lj Q 255) 255=f at*;rcases d with⟨h,g,e⟩|⟨h,g,e⟩
 .have b:¬ L.sw=1#8:=by rw[h];decide
  rw[aq b,aq b];have a:=SU g.2 Rd;rw[<-i] at a;exact PY (qy g.1 a)
 .rw[aM h,aM h];have a:=SU g.2 Rd;rw[<-i] at a;exact PY (qy g.1 a)
theorem ae1 (z:Int):(z%57896044618658097711785492504343953926634992332820282019728792003956564819949).toNat<57896044618658097711785492504343953926634992332820282019728792003956564819949:=I
def lR (z:Int):F:=⟨(z%fQ).toNat,ae1 z⟩
theorem vF (z:Int):((lR z).val:Int)=z%fQ:=by
 show(((z%fQ).toNat:Nat):Int)=_;have :=Int.emod_nonneg z (show fQ≠0 by decide);omega
theorem A0 {z w:Int}(h:z%fQ=w%fQ):lR z=lR w:=by
 apply Fin.ext;have a:=vF z;have b:=vF w;rw[h,<-b] at a;omega
theorem HA {a b:F}(h:(a.val:Int)=b.val):a=b:=Fin.ext I
theorem C5 (z w:Int):lR (z*w)=lR z*lR w:=by
 apply HA;rw[Fin.val_mul,vF,F1,zL,vF,vF,oD];rfl
theorem IL (z w:Int):lR (z+w)=lR z+lR w:=by
 apply HA;rw[Fin.val_add,vF,F1,yY,vF,vF,xS];rfl
theorem Ir:lR 1=1:=yR
theorem Zr:lR (-1)=0-1:=yR
theorem VU:lR 121665=121665:=yR
theorem Z7:lR 0=0:=yR
def fI (m:List Int):F:=lR (bQ m)
theorem ud {a b:List Int}(c:dw a)(d:dw b):fI (jb a b)=fI a*fI b:=by
 unfold fI;rw[A0 (uc a b c d).2,C5]
theorem Ff {a b:List Int}(c:dw a)(d:dw b):fI (nI a b 1)=fI a+fI b:=by
 unfold fI;rw[A0 (uY a b 1 c d ag).2,IL,C5,Ir];generalize lR (bQ a)=x;generalize lR (bQ b)=y;grobner
theorem CM {a b:List Int}(c:dw a)(d:dw b):fI (nI a b (-1))=fI a-fI b:=by
 unfold fI;rw[A0 (uY a b (-1) c d ag).2,IL,C5,Zr];generalize lR (bQ a)=x;generalize lR (bQ b)=y;grobner
theorem ajd {a b:List Int}(c:dw a)(d:dw b):fI (nI a b 121665)=fI a+121665*fI b:=by
 unfold fI;rw[A0 (uY a b 121665 c d ag).2,IL,C5,VU]
theorem Ms {p:Pt}(h:iF p):(fI (uG p).1,fI (uG p).2)=vX (fI p.1) (fI p.2):=by
 unfold uG vX;dsimp only;rw[ud (zJ h) (Ez h),ud (Eh h) (OL h)];unfold dF;rw[ajd (zJ h) (Eh h)];unfold dE;rw[CM (zJ h) (Ez h)];unfold dA dB;rw[ud (wL h) (wL h),ud (wk h) (wk h)];unfold pS pD;rw[Ff h.1 h.2,CM h.1 h.2]
theorem OD {p q:Pt}{x:List Int}(a:iF p)(b:iF q)(c:dw x):(fI (sa p q x).1,fI (sa p q x).2)=ue (fI p.1) (fI p.2) (fI q.1) (fI q.2) (fI x):=by
 unfold sa ue;dsimp only;rw[ud (De a b) (De a b),ud c (Tj a b)];unfold x8;rw[ud (Fk a b) (Fk a b)];unfold aC aD;rw[Ff (Ey a b) (Em a b),CM (Ey a b) (Em a b)];unfold zO AI;rw[ud (wk a) (wL b),ud (wL a) (wk b)];unfold pS pD;rw[Ff a.1 a.2,CM a.1 a.2,Ff b.1 b.2,CM b.1 b.2]
def rv (bits:Z):Nat->List Bool
 |0=>[]
 |c+1=>(if bits.getD c 0=48#8 then false else true)::rv bits c
theorem ahr:fI ur=1:=by
 unfold fI;rw[show bQ ur=1 from rfl,Ir]
theorem VV:fI (List.replicate 16 0)=0:=by
 unfold fI;rw[show bQ (List.replicate 16 0)=0 from rfl,Z7]
theorem Se (x:List Int)(j:Z)(a:dw x):∀ c,((fI (kO x j c).1.1,fI (kO x j c).1.2),(fI (kO x j c).2.1,fI (kO x j c).2.2))=ld (fI x) (rv j c)
 |0=>by
  show((fI ur,fI (List.replicate 16 0)),(fI x,fI ur))=((1,0),(fI x,1));rw[ahr,VV]
 |c+1=>by
  obtain⟨d,e⟩:=QR x j a c;have ih:=Se x j a c;have f:=dN (fun t=>t.1.1) ih;have g:=dN (fun t=>t.1.2) ih;have h:=dN (fun t=>t.2.1) ih;have i:=dN (fun t=>t.2.2) ih;dsimp only at f g h i;unfold kO rv;by_cases b:j.getD c 0=48#8
  .rw[aM b,aM b];unfold ld;dsimp only;rw[Ms d,OD d e a,f,g,h,i]
  .rw[aq b,aq b];unfold ld;dsimp only;rw[Ms e,OD d e a,f,g,h,i]
theorem RV (z:Int):∀ n:Nat,lR (z^n)=lR z^n
 |0=>by rw[BP,Ir];grobner
 |n+1=>by
  rw[sR,C5,RV z n];generalize lR z=a;grobner
theorem abu:wV jI jI.length=Q-2:=U
theorem aiT {m:List Int}(a:dw m):fI (Dw m)=fU (fI m):=by
 unfold fI Dw fU;rw[A0 (Sn m jI a jI.length),RV,abu]
theorem adw (m:List Int):DQ m=bX (fI m).val 32:=rfl
def enc (a:F):Z:=bX a.val 32
theorem I7 (a:F):(enc a).length=32:=dQ _ _
theorem Hx (a:F):le (enc a)=a.val:=by
 have h:=a.isLt;have e:∀ n k:Nat,le (bX n k)=n%256^k:=fun n k=>by
  induction k generalizing n with
  |zero=>show 0=n%1;omega
  |succ k ih=>
   show(BitVec.ofNat 8 n).toNat+256*le (bX (n/256) k)=_;rw[ih,nA,og (256^k) 256,Cb,fL]
 unfold enc;rw[e];exact lk (Nat.lt_trans h ag)
theorem Um (s:Z):∀ j,(s.getD j 0).toNat=le s/256^j%256:=by
 induction s with
 |nil=>intro j;simp[le]
 |cons b s ih=>
  intro j;have a:=b.isLt;cases j with
  |zero=>show b.toNat=(b.toNat+256*le s)/1%256;omega
  |succ j=>
   show(s.getD j 0).toNat=(b.toNat+256*le s)/256^(j+1)%256;rw[ih j,nA,og (256^j) 256,<-rJ,show(b.toNat+256*le s)/256=le s by omega]
theorem ab8 (a:F):ru (enc a)=enc a:=by
 have h:=Um (enc a) 31;rw[Hx] at h;have c:a.val<57896044618658097711785492504343953926634992332820282019728792003956564819949:=a.isLt;have f:((enc a).getD 31 0).toNat<128:=by rw[h];omega
 have e:(enc a).getD 31 0&&&127#8=(enc a).getD 31 0:=by
  apply iU;rw[tP,show(127#8).toNat=2^7-1 from rfl,xk];omega
 unfold ru;rw[e];have d:=I7 a;refine wG fun j=>?_
 by_cases b:31=j
 .subst b;rw[kF I,bY,bn I];rfl
 .rw[mV b]
def sN (k:Z):Nat:=jG (rv (lj (il k) 255) 255)
theorem ahM (k:Z)(a:F):eS k (enc a)=enc ((ld a (rv (lj (il k) 255) 255)).1.1*fU (ld a (rv (lj (il k) 255) 255)).1.2):=by
 unfold eS;rw[ab8,acl _ _ (I7 a)];obtain⟨g,d⟩:=Pg (enc a) (I7 a);rw[Hx] at d;have i:fI (lJ (enc a) 16)=a:=by
  unfold fI;rw[d];apply HA;rw[vF,C7 I (by have h:a.val<57896044618658097711785492504343953926634992332820282019728792003956564819949:=a.isLt;unfold fQ;omega)]
 have f:=Se (lJ (enc a) 16) (lj (il k) 255) g 255;rw[i] at f;obtain⟨c,e⟩:=QR (lJ (enc a) 16) (lj (il k) 255) g 255;have b:=I5 _ jI c.2 jI.length;rw[show qz (kO (lJ (enc a) 16) (lj (il k) 255) 255).1.2 jI jI.length=Dw (kO (lJ (enc a) 16) (lj (il k) 255) 255).1.2 from rfl] at b;rw[adw,ud c.1 b,aiT c.2,<-f];rfl
theorem RY (k:Z){p:Ed}(h1:p.y≠1)(h2:p.y≠0-1):eS k (enc (oF p))=enc (oF (eE (sN k) p)):=by
 have d:1-p.y≠0:=fun e=>h1 (zB e).symm
 have h:=pG d;have g:oF p*(1-p.y)=1+p.y:=by
  unfold oF;generalize fU (1-p.y)=w at*;generalize p.y=y at*;clear h1 h2 d;grobner
 have f:oF p≠0:=fun e=>by
  rw[e] at g;exact h2 (Hg (by clear h;grobner))
 rw[ahM,adH (KS g h1 f _).1];rfl
end Go.Vm
end
section
namespace Go.Cv
abbrev Lo:Nat:=7237005577332262213973186563042994240857116359379907606001950938285454250989
theorem uR:bj Lo:=VQ
def Iq:List Bool:=[true,false,true,true,false,true,true,true,true,true,false,false,true,false,true,true,true,false,true,false,true,true,true,true,false,false,true,true,true,false,true,false,false,true,false,true,true,false,false,false,true,true,false,false,false,true,true,false,false,true,false,false,true,false,false,false,false,false,false,true,true,false,true,false,false,true,true,false,true,false,true,true,false,false,true,true,true,false,false,true,true,true,true,false,true,true,true,true,false,true,false,false,false,true,false,true,false,true,true,true,true,false,true,true,true,false,false,true,true,true,true,true,false,true,true,true,true,false,true,true,false,false,true,false,true,false,false,false,false,false,false,false,false,false,false,false,false,false,false,false,false,false,false,false,false,false,false,false,false,false,false,false,false,false,false,false,false,false,false,false,false,false,false,false,false,false,false,false,false,false,false,false,false,false,false,false,false,false,false,false,false,false,false,false,false,false,false,false,false,false,false,false,false,false,false,false,false,false,false,false,false,false,false,false,false,false,false,false,false,false,false,false,false,false,false,false,false,false,false,false,false,false,false,false,false,false,false,false,false,false,false,false,false,false,false,false,false,false,false,false,false,false,false,false,false,false,false,false,false,false,false,false,true]
theorem afe:jG Iq=Lo:=by decide+kernel
theorem RU:(9:F)*(1-base.y)=1+base.y:=by decide+kernel
theorem DJ:base.y≠1:=by decide+kernel
theorem aiv:base.y≠0-1:=by decide+kernel
theorem ahq:(9:F)≠0:=by decide+kernel
theorem ajf:(ld 9 Iq).1.2=0:=by decide+kernel
theorem Jp {p:Ed}(h:p.y=1):p=Ed.zero:=by
 have on:=p.on;rw[h] at on;have a:(1:F)-D≠0:=by decide+kernel
 have e:(1-D)*(p.x*p.x)=0:=by
  generalize p.x=x at*;generalize D=d at*;clear a h;grobner
 refine Ed.ext' ?_ h;rcases ng e with h|h
 .exact absurd h a
 .rcases ng h with h|h<;>exact h
theorem Uc {X Z96:F}{p:Ed}(h:vE X Z96 p)(a:Z96=0):p=Ed.zero:=by
 obtain⟨l,b,-,c⟩:=h;rw[a] at c;rcases ng c.symm with h|h
 .exact absurd h b
 .exact Jp (zB h).symm
theorem Zv:eE Lo base=Ed.zero:=by
 have h:=(KS RU DJ ahq Iq).1;rw[afe] at h;exact Uc h ajf
theorem QU:∀ n,eE n Ed.zero=Ed.zero
 |0=>rfl
 |n+1=>by show(eE n Ed.zero).add Ed.zero=_;rw[QU n,yu]
theorem agC {p:Ed}:∀ a b:Nat,eE a p=Ed.zero->eE b p=Ed.zero->eE (Nat.gcd a b) p=Ed.zero:=by
 intro a b;induction a,b using Nat.gcd.induction with
 |H0 n=>intro _ h;simpa using h
 |H1 m n f ih=>
  intro c d;rw[Nat.gcd_rec];refine ih ?_ c;have e:=Nat.div_add_mod n m;rw[<-e,x6,Gy,c,QU,yu] at d;exact d
theorem OV {n:Nat}(h:eE n base=Ed.zero):Lo∣n:=by
 have a:=agC n Lo h Zv;rcases uR.2 _ (Nat.gcd_dvd_right n Lo) with e|e
 .rw[e] at a;have b:base=Ed.zero:=by rw[<-a];exact(yu base).symm
  exact absurd (congrArg Ed.y b) DJ
 .rw[<-e];exact Nat.gcd_dvd_left n Lo
theorem Sr {n:Nat}(h:¬ Lo∣n):(eE n base).y≠1/\(eE n base).y≠0-1:=by
 refine⟨fun e=>h (OV (Jp e)),fun e=>?_⟩;have i:((eE n base).add (eE n base)).y=1:=by
  have b:=uF (eE n base) (eE n base);have on:=(eE n base).on;generalize eE n base=p at*;rw[e] at on;have c:(1:F)-D≠0:=by decide+kernel
  have l:(1-D)*(p.x*p.x)=0:=by
   generalize p.x=x at*;generalize D=d at*;clear c b;grobner
  have f:p.x=0:=by
   rcases ng l with h|h
   .exact absurd h c
   .rcases ng h with h|h<;>exact h
  have j:dm p p=1:=by
   show 1-D*p.x*p.x*p.y*p.y=1;rw[f];generalize p.y=y;generalize D=d;grobner
  have k:ny p p=1:=by
   show p.y*p.y-p.x*p.x=1;rw[f,e];decide+kernel
  rw[j,k] at b;generalize (p.add p).y=y at*;clear on l;grobner
 have m:=Jp i;rw[<-x6] at m;have g:=OV m;rw[<-Nat.two_mul] at g;rcases uR.dvd_mul g with a|a
 .exact absurd (Nat.le_of_dvd (by decide) a) (by decide)
 .exact h a
theorem abT:oF base=9:=by
 have h:=pG (a:=1-base.y) (fun e=>DJ (zB e).symm);unfold oF;rw[<-RU];generalize fU (1-base.y)=w at*;generalize 1-base.y=a at*;grobner
theorem Ua {p:Ed}(h1:p.y≠1)(h2:p.y≠0-1):oF p≠0:=by
 have b:=pG (a:=1-p.y) (fun e=>h1 (zB e).symm);intro e;unfold oF at e;rcases ng e with h|h
 .exact h2 (Hg (by clear b h1 h2 e;grobner))
 .rw[h] at b;exact absurd b (by rw[show(1-p.y)*(0:F)=0 by clear b h1 h2 e h;grobner];decide+kernel)
end Go.Cv
end
