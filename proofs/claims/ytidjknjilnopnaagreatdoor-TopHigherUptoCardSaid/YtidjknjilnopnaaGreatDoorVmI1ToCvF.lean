/- Proved: laws of a machine of values; no conditions but each theorem's own. -/
import Derived.Lib.OthersKept
import Derived.Test.YtidjknjilnopnaaGreatDoorShelfMulToAeO
set_option linter.unusedVariables false
set_option linter.unusedSimpArgs false
set_option maxRecDepth 20000
set_option maxHeartbeats 8000000
section
namespace Go.Vm
section
open Go Go.RowKit
section
variable {P:Program}{n:Nat}{S:ByteArray}{b:Nat}{w0 w:World}{ρ:Nat->Nat×Nat}{s:St}{a:Act}{pos:Nat}
end
end
section
open Go Go.RowKit
section
variable {P:Program}{m n:Nat}
end
end
section
open Go Go.RowKit
mutual
def V.flat:V->Bool
 | .slice _ _ _ _=>false
 | .fn _ fs cs=>jz fs&&jz cs
 | .agg cs=>jz cs
 | .tup cs=>jz cs
 | .iface _ v=>v.flat
 | .aFn _ _ v=>v.flat
 |_=>true
def jz:List V->Bool
 |[]=>true
 |v::l=>v.flat&&jz l
end
theorem Jk:∀ {l:List V} {i:Nat} {v:V},jz l=true->l[i]?=some v->v.flat=true
 |[],i,v,_,h=>by simp at h
 |x::l,0,v,a,h=>by
  unfold jz at a;simp at h;subst h;exact(qd.1 a).1
 |x::l,i+1,v,a,h=>by
  unfold jz at a;exact Jk (qd.1 a).2 (by simpa using h)
theorem JQ:∀ (l:List (BitVec 8)),jz (l.map .u8)=true
 |[]=>rfl
 |x::l=>by rw[bN];unfold jz;rw[JQ l];rfl
section
variable {ρ:Nat->Nat×Nat}{dom:Nat->Prop}{w w':World}
mutual
theorem VR.flat:∀ {v:V} {r:Value},VR ρ dom w v r->v.flat=true->VR ρ dom w' v r
 | .junk,_,_,_=>by unfold VR;trivial
 | .bool _,_,h,_=>by unfold VR at*;exact h
 | .u8 _,_,h,_=>by unfold VR at*;exact h
 | .u32 _,_,h,_=>by unfold VR at*;exact h
 | .u64 _,_,h,_=>by unfold VR at*;exact h
 | .i64 _,_,h,_=>by unfold VR at*;exact h
 | .i32 _,_,h,_=>by unfold VR at*;exact h
 | .str _,_,h,_=>by unfold VR at*;exact h
 | .ptr b _,_,h,_=>by unfold VR at*;exact h
 | .nilPtr,_,h,_=>by unfold VR at*;exact h
 | .slice _ _ _ _,_,_,hf=>by unfold V.flat at hf;cases hf
 | .nilSlice,_,h,_=>by unfold VR at*;exact h
 | .fn _ fs cs,_,h,hf=>by
  unfold V.flat at hf;unfold VR at*;obtain⟨f',c',h1,h2,h3⟩:=h;exact⟨f',c',h1,VRs.flat h2 (qd.1 hf).1,VRs.flat h3 (qd.1 hf).2⟩
 | .nilFn,_,h,_=>by unfold VR at*;exact h
 | .aFn _ _ v,_,h,hf=>by
  unfold V.flat at hf;unfold VR at*;obtain⟨x,h1,h2⟩:=h;exact⟨x,h1,VR.flat h2 hf⟩
 | .agg cs,_,h,hf=>by
  unfold V.flat at hf;unfold VR at*;obtain⟨a,h1,h2⟩:=h;exact⟨a,h1,VRs.flat h2 hf⟩
 | .tup cs,_,h,hf=>by
  unfold V.flat at hf;unfold VR at*;obtain⟨a,h1,h2⟩:=h;exact⟨a,h1,VRs.flat h2 hf⟩
 | .iface _ v,_,h,hf=>by
  unfold V.flat at hf;unfold VR at*;obtain⟨r',h1,h2⟩:=h;exact⟨r',h1,VR.flat h2 hf⟩
 | .nilIface,_,h,_=>by unfold VR at*;exact h
 | .map _,_,h,_=>by unfold VR at*;exact h
theorem VRs.flat:∀ {vs:List V} {rs:List Value},VRs ρ dom w vs rs->jz vs=true->VRs ρ dom w' vs rs
 |[],_,h,_=>by unfold VRs at*;exact h
 |v::vs,_,h,hf=>by
  unfold jz at hf;unfold VRs at*;obtain⟨r,rs,h1,h2,h3⟩:=h;exact⟨r,rs,h1,VR.flat h2 (qd.1 hf).1,VRs.flat h3 (qd.1 hf).2⟩
end
end
def pm (l:List (Nat×V)):Bool:=l.all fun p=>p.2.flat
def mG:List (Option Blk)->Bool
 |[]=>true
 |none::l=>mG l
 |some B::l=>jz B.cs&&mG l
theorem Jf:∀ {l:List (Nat×V)},pm l=true->∀ t,(aj l t).flat=true
 |[],_,_=>rfl
 |p::l,h,t=>by
  unfold pm at h;simp only[List.all_cons,ic] at h;unfold aj;split
  ·exact h.1
  ·exact Jf (l:=l) h.2 t
theorem CW:∀ {l:List (Option Blk)} {b:Nat} {B:Blk},mG l=true->ag l b=some B->jz B.cs=true
 |[],_,_,_,h=>by simp[ag] at h
 |none::l,0,B,a,h=>by simp[ag] at h
 |some C::l,0,B,a,h=>by
  unfold mG at a;simp[ag] at h;subst h;exact(qd.1 a).1
 |none::l,b+1,B,a,h=>by
  unfold mG at a;exact CW a (by simpa [ag] using h)
 |some C::l,b+1,B,a,h=>by
  unfold mG at a;exact CW (qd.1 a).2 (by simpa [ag] using h)
def dC (L:List Nat):List (Option Blk)->Nat->Prop
 |[],_=>True
 |none::l,i=>dC L l (i+1)
 |some _::l,i=>i∈L/\dC L l (i+1)
theorem yR {L:List Nat}:∀ {l:List (Option Blk)} {i b:Nat} {B:Blk},dC L l i->ag l b=some B->i+b∈L
 |[],_,_,_,_,h=>by simp[ag] at h
 |none::l,i,0,B,_,h=>by simp[ag] at h
 |some C::l,i,0,B,a,h=>a.1
 |none::l,i,b+1,B,a,h=>by
  have :=yR (l:=l) (i:=i+1) (b:=b) a (by simpa [ag] using h);rw[show i+(b+1)=i+1+b by omega];exact this
 |some C::l,i,b+1,B,a,h=>by
  have :=yR (l:=l) (i:=i+1) (b:=b) a.2 (by simpa [ag] using h);rw[show i+(b+1)=i+1+b by omega];exact this
def cellsOf (l:List ai):List Value:=Lib.byteCells (l.map UInt8.ofBitVec)
theorem Xs (l:List ai)(s:ByteArray):cellsOf l++Lib.strCells s=cellsOf (l++bytesOf s):=by
 unfold cellsOf;rw[Lib.strCells_eq,<-Lib.byteCells_append,gD];congr 2;unfold bytesOf;simp only[kH]
 conv=>lhs;rw[<-tK s.data.toList]
 exact mX fun _ _=>rfl
theorem XU (l:List ai):(cellsOf l).length=l.length:=by unfold cellsOf;rw[Lib.byteCells_length,ba]
structure Bld (T e:TypeId) (base b:Nat) (L:List Nat) (l:List ai) (ρ:Nat->Nat×Nat) (s:St) (w:World):Prop where
 lt:b<s.H.length
 zero:(ρ b).2=0
 here:Lib.IsBuilder T e base (ρ b).1 (cellsOf l) w
 size:base<=w.heap.size
 low:∀ x∈L,(ρ x).1<base
theorem Un {T e:TypeId}{base b:Nat}{bs:List Value}{w w':World}(h:Lib.IsBuilder T e base b bs w)(f:∀ r,base<=r->r<w.heap.size->w'.heap[r]?=w.heap[r]?):Lib.IsBuilder T e base b bs w':=by
 have key:∀ p,Lib.BuilderAt T e base b p bs w->Lib.BuilderAt T e base b p bs w':=by
  rintro p ⟨i,v,j,a,d⟩;have c:∀ r o,w.heap[r]?=some o->r<w.heap.size:=fun r o h=>(Em.1 h).1
  refine⟨i,v,by rw[f b i (c _ _ j)];exact j,?_,d⟩;obtain⟨h1,h2⟩:=a;refine⟨h1,?_⟩;rcases h2 with h2|⟨g,cap,cur,g1,g2,g3,g4⟩
  ·exact .inl h2
  ·exact .inr ⟨g,cap,cur,g1,g2,by rw[f g g2 (c _ _ g3)];exact g3,g4⟩
 exact h.elim (fun x=> .inl (key _ x)) (fun x=> .inr (key _ x))
section
variable {P:Program}{m n:Nat}{T e:TypeId}{base b:Nat}{L:List Nat}{m0:Nat}{ρ0:Nat->Nat×Nat}{s0:St}{w0:World}
theorem Bld.step {ρ ρ':Nat->Nat×Nat}{s s':St}{w w':World}{l:List ai}(h:Bld T e base b L l ρ s w)(k:Step m ρ s w ρ' s' w')(d:b<m)(f:∀ x∈L,x<m)(g:dC L s.H 0):Bld T e base b L l ρ' s' w':=by
 obtain⟨k1,k2,c⟩:=k;have e:=k2 b d;refine⟨aa,by rw[e];exact h.zero,?_,fF h.size c.size,fun x a=>by rw[k2 x (f x a)];exact h.low x a⟩;rw[e];refine Un h.here fun r h1 h2=>c.keep r h2 fun x B a _=>?_
 have :=yR g a;rw[cw] at this;have :=h.low x this;omega
theorem GU {ρ:Nat->Nat×Nat}{s:St}{a:Act}{w w':World}(f:RelSt ρ n s a w)(k:pm s.t=true)(l:mG s.H=true)(c:∀ x B,ag s.H x=some B->(ρ x).1<base)(o:base<=w.heap.size)(g:Below base w w'):RelSt ρ n s a w':=by
 refine⟨⟨f.tmps.size,f.tmps.defers,fun t=>(f.tmps.slot t).flat (Jf k t)⟩,f.mem.has,fun x B d=>mw (f.mem.lt x B d) g.size,f.mem.inj,fun x B d i v j=>?_,fun x B d p i q=>?_,fun x B mm d h=>?_⟩
 ·obtain⟨r,g1,g2⟩:=f.mem.cell x B d i v j;exact⟨r,by rw[g.cell (c x B d)];exact g1,g2.flat (Jk (CW l d) j)⟩
 ·rw[g.frozen (c x B d)];exact f.mem.free x B d p i q
 ·exact nf (f.mem.mapc x B mm d h) (g.block _ (c x B d))
theorem HV {ρ:Nat->Nat×Nat}{s:St}{w w':World}(h:Step m0 ρ0 s0 w0 ρ s w)(g:w0.heap.size<=base)(c:Below base w w'):Step m0 ρ0 s0 w0 ρ s w':=by
 obtain⟨h1,h2,d⟩:=h;refine⟨h1,h2,c.os.trans d.os,c.output.trans d.output,c.tape.trans d.tape,fF d.size c.size,fun r i j=>?_,fun p o f=>?_,d.own⟩
 ·rw[c.block r aa];exact d.keep r i j
 ·have k:p<w0.heap.size:=by
   obtain⟨u,hu⟩:=rV.1 f;exact World.block_lt_of_cell? (a:=⟨p,o,none⟩) w0 hu
  have :=d.lasts p o f;rw[c.cell (p:=⟨p,o,none⟩) (by show p<base;omega),c.frozen (p:=⟨p,o,none⟩) (by show p<base;omega)];exact this
def BQ (n m:Nat)(T e:TypeId)(base b:Nat)(L:List Nat)(m0:Nat)(ρ0:Nat->Nat×Nat)(s0:St)(w0:World)(Q:Exit->St->List ai->Prop)(x:Exit)(a':Act)(w':World):Prop:=
 ∃ s' ρ' l',Q x s' l'/\RelSt ρ' n s' a' w'/\m<=s'.H.length/\Step m0 ρ0 s0 w0 ρ' s' w'/\Bld T e base b L l' ρ' s' w'
def GB (P:Program)(m n:Nat)(T e:TypeId)(base b:Nat)(L:List Nat)(m0:Nat)(ρ0:Nat->Nat×Nat)(s0:St)(w0:World)(c:Code)(Q:Exit->St->List ai->Prop)(s:St)(l:List ai):Prop:=
 ∀ (ρ:Nat->Nat×Nat) (a:Act) (w:World),RelSt ρ n s a w->m<=s.H.length->Step m0 ρ0 s0 w0 ρ s w->Bld T e base b L l ρ s w->c.wp P (BQ n m T e base b L m0 ρ0 s0 w0 Q) a w
def GF (P:Program)(m n:Nat)(T e:TypeId)(base b:Nat)(L:List Nat)(m0:Nat)(ρ0:Nat->Nat×Nat)(s0:St)(w0:World)(c:Code)(Q:Exit->St->Prop)(s:St)(l:List ai):Prop:=
 ∀ (ρ:Nat->Nat×Nat) (a:Act) (w:World),RelSt ρ n s a w->m<=s.H.length->Step m0 ρ0 s0 w0 ρ s w->Bld T e base b L l ρ s w->c.wp P (yE m0 n ρ0 s0 w0 Q) a w
def x8 (K:St->List ai->Prop)(Q:Exit->St->List ai->Prop):Exit->St->List ai->Prop
 | .normal,s,l=>K s l
 |e,s,l=>Q e s l
def Cf (id:Nat)(Q:Exit->St->List ai->Prop):Exit->St->List ai->Prop
 | .exit i,s,l=>if i=id then Q .normal s l else Q (.exit i) s l
 |e,s,l=>Q e s l
def abU (K:St->List ai->Prop):Exit->St->List ai->Prop
 | .normal,s,l=>K s l
 |_,_,_=>False
theorem Step.cut {ρ ρ':Nat->Nat×Nat}{s s':St}{w w':World}(h:Step m ρ s w ρ' s' w')(a:m0<=m):Step m0 ρ s w ρ' s' w':=⟨fF a h.1,fun x c=>h.2.1 x aa,h.2.2⟩
theorem wF (d:P.follows .mixedOrders=true)(i:b<m)(j:∀ x∈L,x<m)(f:m0<=m){c:Code}{Q:Exit->St->List ai->Prop}{s:St}{l:List ai}(k:dC L s.H 0)
  (h:vc P m n c (fun x s'=>Q x s' l) s):GB P m n T e base b L m0 ρ0 s0 w0 c Q s l:=fun ρ a w o p q r=>by
 refine wp_mono (nz d c _ s h ρ a w o p) ?_;rintro x a' w' ⟨s',ρ',t,u,g⟩;exact⟨s',ρ',l,t,u,g.1,q.trans (g.cut f),r.step g i j k⟩
theorem xd (f:b<m)(g:∀ x∈L,x<m)(d:m0<=m){c:Code}{Q:Exit->St->List ai->Prop}{s s1:St}{l:List ai}(i:dC L s.H 0)
  (h:GB P m n T e base b L m0 ρ0 s0 w0 c Q s1 l) (hw:Weak m n s s1):GB P m n T e base b L m0 ρ0 s0 w0 c Q s l:=fun ρ a w j k o p=>by
 obtain⟨ρ',h1,h2⟩:=hw.go ρ a w j k;exact h ρ' a w h1 h2.1 (o.trans (h2.cut d)) (p.step h2 f g i)
theorem Sn (f:b<m)(g:∀ x∈L,x<m)(d:m0<=m){c:Code}{Q:Exit->St->Prop}{s s1:St}{l:List ai}(i:dC L s.H 0)
  (h:GF P m n T e base b L m0 ρ0 s0 w0 c Q s1 l) (hw:Weak m n s s1):GF P m n T e base b L m0 ρ0 s0 w0 c Q s l:=fun ρ a w j k o p=>by
 obtain⟨ρ',h1,h2⟩:=hw.go ρ a w j k;exact h ρ' a w h1 h2.1 (o.trans (h2.cut d)) (p.step h2 f g i)
theorem vF {x y:Code}{K:St->List ai->Prop}{Q:Exit->St->List ai->Prop}{s:St}{l:List ai}(i:GB P m n T e base b L m0 ρ0 s0 w0 x (x8 K Q) s l)(j:∀ s' l',K s' l'->GB P m n T e base b L m0 ρ0 s0 w0 y Q s' l'):GB P m n T e base b L m0 ρ0 s0 w0 (.seq x y) Q s l:=fun ρ a w k o p q=>by
 refine wp_seq (wp_mono (i ρ a w k o p q) ?_);rintro z a' w' ⟨s',ρ',l',c,d,f,g,h⟩;cases z
 case normal=>exact j s' l' c ρ' a' w' d f g h
 all_goals exact⟨s',ρ',l',c,d,f,g,h⟩
theorem Tq {x y:Code}{K:St->List ai->Prop}{Q:Exit->St->Prop}{s:St}{l:List ai}(d:GB P m n T e base b L m0 ρ0 s0 w0 x (abU K) s l)(f:∀ s' l',K s' l'->GF P m n T e base b L m0 ρ0 s0 w0 y Q s' l'):GF P m n T e base b L m0 ρ0 s0 w0 (.seq x y) Q s l:=fun ρ a w g h i j=>by
 refine wp_seq (wp_mono (d ρ a w g h i j) ?_);rintro z a' w' ⟨s',ρ',l',c,k,o,p,q⟩;cases z
 case normal=>exact f s' l' c ρ' a' w' k o p q
 all_goals exact c.elim
theorem FM {id:Nat}{c:Code}{Q:Exit->St->List ai->Prop}{s:St}{l:List ai}(h:GB P m n T e base b L m0 ρ0 s0 w0 c (Cf id Q) s l):GB P m n T e base b L m0 ρ0 s0 w0 (.block id c) Q s l:=fun ρ a w f g j k=>by
 refine wp_block (wp_mono (h ρ a w f g j k) ?_);rintro z a' w' ⟨s',ρ',l',d,q⟩;cases z
 case exit i=>
  simp only[Cf] at d;simp only[Exit.inBlock];split at d
  ·rename_i h;rw[if_pos h];exact⟨s',ρ',l',d,q⟩
  ·rename_i h;rw[if_neg h];exact⟨s',ρ',l',d,q⟩
 all_goals exact⟨s',ρ',l',d,q⟩
theorem WJ {c:Code}{Q:Exit->St->List ai->Prop}{s:St}{l:List ai}(I:Nat->St->List ai->Prop){k0:Nat}(h0:I k0 s l)
  (q:∀ k s l,I k s l->GB P m n T e base b L m0 ρ0 s0 w0 c (x8 (fun s' l'=>∃ d,d<k/\I d s' l') Q) s l):GB P m n T e base b L m0 ρ0 s0 w0 (.loop c) Q s l:=fun ρ a w f r t u=>by
 refine DW (fun k g w1=>∃ s1 ρ1 l1,I k s1 l1/\RelSt ρ1 n s1 g w1/\m<=s1.H.length/\Step m0 ρ0 s0 w0 ρ1 s1 w1/\Bld T e base b L l1 ρ1 s1 w1) (k0:=k0) ⟨s,ρ,l,h0,f,r,t,u⟩ ?_;rintro k g w1 ⟨s1,ρ1,l1,i1,i2,i3,i4,i5⟩;refine wp_mono (q k s1 l1 i1 ρ1 g w1 i2 i3 i4 i5) ?_;rintro z a' w' ⟨s',ρ',l',h,i,j,o,p⟩;cases z
 case normal=>
  obtain⟨d,v,x⟩:=h;exact⟨d,v,s',ρ',l',x,i,j,o,p⟩
 all_goals exact⟨s',ρ',l',h,i,j,o,p⟩
end
end
section
open Go Go.RowKit
section
variable {P:Program}{m n:Nat}{T e:TypeId}{base b:Nat}{L:List Nat}{m0:Nat}{ρ0:Nat->Nat×Nat}{s0:St}{w0:World}
def Fw (P:Program)(f:FuncId)(T e:TypeId):Prop:=∀ (B b:Nat) (bs:List Value) (s:ByteArray) (w:World),Lib.IsBuilder T e B b bs w->bs.length+s.size<=140737488355328->B<=w.heap.size->
 Calls P f #[.pointer (some ⟨b,0,none⟩),.string s] w fun x w'=>x= .returned (.tuple #[.int .i64 s.size,.nilIface])/\(Lib.BuilderAt T e B b (.pointer (some ⟨b,0,none⟩)) (bs++Lib.strCells s) w'/\Below B w w')
def Strings (P:Program)(f:FuncId)(T e:TypeId):Prop:=∀ (B b:Nat) (l:List UInt8) (w:World),Lib.IsBuilder T e B b (Lib.byteCells l) w->B<=w.heap.size->
 Calls P f #[.pointer (some ⟨b,0,none⟩)] w fun x w'=>x= .returned (.string ⟨l.toArray⟩)/\Below B w w'
theorem GD {s:St}{ρ:Nat->Nat×Nat}{w:World}{l:List ai}(h:Bld T e base b L l ρ s w)(a:dC L s.H 0):∀ x B,ag s.H x=some B->(ρ x).1<base:=fun x B c=>by
 have :=yR a c;rw[cw] at this;exact h.low x this
theorem Zg {s:St}{d:Tmp}{v:V}(h:pm s.t=true)(a:v.flat=true):pm (s.put (some d) v).t=true:=by
 show pm ((d,v)::s.t)=true;unfold pm at*;rw[List.all_cons,a,h];rfl
theorem aau {f:FuncId}(I:eu P f=true)(hw:Fw P f T e)(C:w0.heap.size<=base){id:Nat}{h i:Oper}{x:Operand}{tb c p:Tmp}{D:Array TypeId}{s:St}{l y:List ai}{Q:Exit->St->List ai->Prop}
  (h1:h.op= .move x) (g1:h.guard=none) (d1:h.dst=some c) (G:c<n)
  (h2:i.op= .call ⟨.value (.func f),#[.tmp tb,.tmp c],D⟩) (g2:i.guard=none) (d2:i.dst=some p) (z2:p<n)
  (E:s.ev x= .str y) (J:(s.put (some c) (.str y)).get tb= .ptr b 0) (q:l.length+y.length<=140737488355328)
  (K:pm s.t=true) (M:mG s.H=true) (N:dC L s.H 0)
  (O:Q .normal ((s.put (some c) (.str y)).put (some p) (.tup [.i64 y.length,.nilIface])) (l++y)):GB P m n T e base b L m0 ρ0 s0 w0 (.region id #[h,i] false) Q s l:=by
 intro ρ a w A R U j;have k:=A.tmps.eval x;rw[E] at k;unfold VR at k;obtain⟨S,V,o⟩:=k;refine wp_region ?_;have k1:(execOp a.eval h).run P w= .ok (.value (.string S)) w:=by
  unfold execOp;rw[h1];simp only[V,Sem.run_pure]
 have w1:Region.wanted h (yielded #[h,i] a.tmps)=true:=by unfold Region.wanted;rw[g1]
 show wpOps P #[h,i] _ [0,1] a w;simp only[wpOps,rX,rv,w1,if_true];refine .inl ?_;unfold Oper.wp;rw[k1,Oper.upon_value,d1];have r:RelSt ρ n (s.put (some c) (.str y)) (a.put (some c) (.string S)) w:=⟨RelT.put A.tmps (show fV n (some c) from G) (by unfold VR;exact⟨S,rfl,o⟩),A.mem⟩;have W:Region.wanted i (yielded #[h,i] (a.put (some c) (.string S)).tmps)=true:=by unfold Region.wanted;rw[g2]
 have X:(a.put (some c) (.string S)).tmps.getD c undef= .string S:=by
  rw[wI a c _ c (by rw[A.tmps.size];exact G),if_pos rfl]
 have d:=r.tmps.slot tb;rw[J] at d;unfold VR at d;obtain⟨_,d⟩:=d;rw[j.zero,cw] at d;have k2:(execOp (a.put (some c) (.string S)).eval i).run P w= .ok (.enter f #[.pointer (some ⟨(ρ b).1,0,none⟩),.string S]) w:=by
  unfold execOp;rw[h2];simp only[resolve,Act.eval,Deferred.ofValue,Sem.run_bind,Sem.run_pure,Result.andThen_ok,invoke,List.map_toArray,bN,cO,X,d];rw[show(#[]++#[Value.pointer (some ⟨(ρ b).1,0,none⟩),Value.string S]++#[]:Array Value)=#[.pointer (some ⟨(ρ b).1,0,none⟩),.string S] from rfl,xh I]
 simp only[yT,rv,W,if_true];refine .inl ?_;rw[k2,Oper.upon_enter];have u:S.size=y.length:=by rw[<-o,kF]
 refine(hw base (ρ b).1 (cellsOf l) S w j.here (by rw[XU,u];exact q) j.size).mono ?_;rintro z w' ⟨rfl,F,g⟩;rw[d2];show BQ n m T e base b L m0 ρ0 s0 w0 Q .normal ((a.put (some c) (.string S)).put (some p) _) w';have v:RelSt ρ n (s.put (some c) (.str y)) (a.put (some c) (.string S)) w':=GU r (Zg K rfl) M (fun x B E=>GD j N x B E) j.size g;refine⟨_,ρ,l++y,O,⟨RelT.put v.tmps (show fV n (some p) from z2) ?_,v.mem⟩,R,HV U C g,j.lt,j.zero,.inr ?_,fF j.size g.size,j.low⟩
 ·unfold VR;refine⟨_,rfl,VRs.cons (by unfold VR;rw[u]) (VRs.cons (by unfold VR;rfl) VRs.nil)⟩
 ·rw[<-o,<-Xs];exact F
theorem adM {f:FuncId}(C:eu P f=true)(hw:Strings P f T e)(r:w0.heap.size<=base){id:Nat}{g h:Oper}{tb c j:Tmp}{u:Array TypeId}{s:St}{l:List ai}{A:Code}{Q:Exit->St->Prop}
  (h1:g.op= .call ⟨.value (.func f),#[.tmp tb],u⟩) (g1:g.guard=none) (d1:g.dst=some c) (B:c<n)
  (h2:h.op= .assign (.tmp c)) (g2:h.guard=none) (d2:h.dst=some j) (z2:j<n)
  (D:s.get tb= .ptr b 0)
  (E:pm s.t=true) (F:mG s.H=true) (G:dC L s.H 0) (I:m0<=m)
  (J:GS P m0 n A Q ((s.put (some c) (.str l)).put (some j) (.str l))):GF P m n T e base b L m0 ρ0 s0 w0 (.seq (.region id #[g,h] false) A) Q s l:=by
 intro ρ a w v V K k;refine wp_seq (wp_region ?_);have w1:Region.wanted g (yielded #[g,h] a.tmps)=true:=by unfold Region.wanted;rw[g1]
 have d:=v.tmps.slot tb;rw[D] at d;unfold VR at d;obtain⟨_,d⟩:=d;rw[k.zero,cw] at d;have k1:(execOp a.eval g).run P w= .ok (.enter f #[.pointer (some ⟨(ρ b).1,0,none⟩)]) w:=by
  unfold execOp;rw[h1];simp only[resolve,Act.eval,Deferred.ofValue,Sem.run_bind,Sem.run_pure,Result.andThen_ok,invoke,List.map_toArray,bN,cO,d];rw[show(#[]++#[Value.pointer (some ⟨(ρ b).1,0,none⟩)]++#[]:Array Value)=#[.pointer (some ⟨(ρ b).1,0,none⟩)] from rfl,xh C]
 show wpOps P #[g,h] _ [0,1] a w;simp only[wpOps,rX,rv,w1,if_true];refine .inl ?_;unfold Oper.wp;rw[k1,Oper.upon_enter];refine(hw base (ρ b).1 (l.map UInt8.ofBitVec) w k.here k.size).mono ?_;rintro z w' ⟨rfl,i⟩;rw[d1];have o:RelSt ρ n s a w':=GU v E F (GD k G) k.size i;have p:VR ρ (· <s.H.length) w' (.str l) (.string ⟨(l.map UInt8.ofBitVec).toArray⟩):=by
  unfold VR;exact⟨_,rfl,Hf l⟩
 have q:RelSt ρ n (s.put (some c) (.str l)) (a.put (some c) (.string ⟨(l.map UInt8.ofBitVec).toArray⟩)) w':=⟨RelT.put o.tmps (show fV n (some c) from B) p,o.mem⟩;have M:Region.wanted h (yielded #[g,h] (a.put (some c) (.string ⟨(l.map UInt8.ofBitVec).toArray⟩)).tmps)=true:=by unfold Region.wanted;rw[g2]
 have N:(a.put (some c) (.string ⟨(l.map UInt8.ofBitVec).toArray⟩)).tmps.getD c undef= .string ⟨(l.map UInt8.ofBitVec).toArray⟩:=by
  rw[wI a c _ c (by rw[v.tmps.size];exact B),if_pos rfl]
 have k2:(execOp (a.put (some c) (.string ⟨(l.map UInt8.ofBitVec).toArray⟩)).eval h).run P w'= .ok (.value (.string ⟨(l.map UInt8.ofBitVec).toArray⟩)) w':=by
  unfold execOp;rw[h2];simp only[Act.eval,N,Sem.run_pure]
 simp only[yT,rv,M,if_true];refine .inl ?_;rw[k2,Oper.upon_value,d2];have x:RelSt ρ n ((s.put (some c) (.str l)).put (some j) (.str l)) ((a.put (some c) (.string ⟨(l.map UInt8.ofBitVec).toArray⟩)).put (some j) (.string ⟨(l.map UInt8.ofBitVec).toArray⟩)) w':=⟨RelT.put q.tmps (show fV n (some j) from z2) p,q.mem⟩;have y:Step m0 ρ0 s0 w0 ρ ((s.put (some c) (.str l)).put (some j) (.str l)) w':=HV K r i;refine wp_mono (J ρ _ w' x (by show m0<=s.H.length;omega)) ?_;rintro z a' O ⟨s',ρ',R,S,U⟩;exact⟨s',ρ',R,S,y.trans U⟩
theorem Rg (j:∀ w,(zeroValue T).run P w= .ok (.agg #[.pointer none,.slice none 0 0]) w){id:Nat}{o:Oper}{c:Tmp}{f:Code}{s:St}{Q:Exit->St->Prop}
  (h1:o.op= .alloc T) (g1:o.guard=none) (d1:o.dst=some c) (l:c<n) (p:∀ x∈L,(ag s.H x).isSome=true)
  (h:∀ (ρ0:Nat->Nat×Nat) (w0:World),GF P (s.H.length+1) n T e w0.heap.size s.H.length L m0 ρ0 s w0 f Q ⟨putS s.t (some c) (.ptr s.H.length 0),s.H++[none]⟩ []):GS P m0 n (.seq (.region id #[o] false) f) Q s:=by
 intro ρ a w g q;refine wp_seq (wp_region ?_);have w1:Region.wanted o (yielded #[o] a.tmps)=true:=by unfold Region.wanted;rw[g1]
 show wpOps P #[o] _ [0] a w;simp only[wpOps,rX,rv,w1,if_true];refine .inl ?_;have k1:(execOp a.eval o).run P w= .ok (.value (.pointer (some ⟨w.heap.size,0,none⟩))) (w.alloc (.cells #[.pointer none,.slice none 0 0] T)):=by
  unfold execOp;rw[h1];simp[Instr.alloc,j,newVar,newRow,Value.cells]
 unfold Oper.wp;rw[k1,Oper.upon_value,d1];obtain⟨i1,i2⟩:=Il (m0:=m0) g q l (.cells #[.pointer none,.slice none 0 0] T);have u:(fun k=>if k=s.H.length then(w.heap.size,0) else ρ k) s.H.length=(w.heap.size,0):=if_pos rfl;refine h ρ w _ _ _ i1 ae i2 ⟨ae,by rw[if_pos rfl],?_,?_,fun x r=>?_⟩
 ·rw[if_pos rfl];exact Lib.fresh_isBuilder T e w
 ·show w.heap.size<=(w.heap.push _).size;rw[Array.size_push];omega
 ·obtain⟨B,i⟩:=rV.1 (p x r);have d:x≠s.H.length:=by have :=aU i;omega
  show((if x=s.H.length then(w.heap.size,0) else ρ x):Nat×Nat).1<_;rw[if_neg d];exact g.mem.lt x B i
end
end
end Go.Vm
end
section
namespace Go.Vm
open Go.Proofs Go.Proofs.Tryz
def iv (E:Nat->List (BitVec 8)):Nat->List (BitVec 8)
 |0=>[]
 |i+1=>iv E i++E (2+i)
theorem yf (E:Nat->List (BitVec 8))(a:∀ c,(E c).length=16)(i:Nat):(iv E i).length=16*i:=by
 induction i with
 |zero=>rfl
 |succ i ih=>rw[iv,aE,ih,a];omega
theorem XA:Fw prog 58 (shelf_lays105_ren.t 72) (shelf_lays105_ren.t 5):=fun B b bs s w h a c=>Any.Builder_WriteString {shelf_lays105 with} CA B b bs s w h a c
theorem YF:Strings prog 60 (shelf_lays105_ren.t 72) (shelf_lays105_ren.t 5):=fun B b l w h a=>Any.Builder_String_any {shelf_lays105 with} CA B b l w h a
theorem ZW:∀ w,(zeroValue (shelf_lays105_ren.t 72)).run prog w= .ok (.agg #[.pointer none,.slice none 0 0]) w:=shelf_lays105.v72
theorem ady (E:Nat->List (BitVec 8))(b:∀ c,(E c).length=16)(t:List (BitVec 8))(i:Nat)(h:16*i<=t.length):bj t (iv E i)++bj (t.drop (16*i)) (E (2+i))=bj t (iv E (i+1)):=by
 have d:=yf E b i;rw[iv,E2 t (iv E i) (E (2+i)) aa,d]
theorem MW (E:Nat->List (BitVec 8))(a:∀ c,(E c).length=16)(t:List (BitVec 8))(i:Nat):(t.drop (16*i)).drop (bj (t.drop (16*i)) (E (2+i))).length=t.drop (16*(i+1)):=by
 rw[jU,a,hO,bU];by_cases h:t.length-16*i<=16
 ·rw[AD aa,AD aa]
 ·rw[nY aa];congr 1
theorem F9 (E:Nat->List (BitVec 8))(m:∀ c,(E c).length=16)(n K T t:List (BitVec 8))(R:Nat)(q:∀ c,E c=dK (n++bu c 4) K R (R-1))(A:n.length=12)(P:t.length<=2016)(B:2<=R)(r:R<=20)(C:K.length=16*R)(D:T.length=512)(F:∀ b:BitVec 8,T.getD (0+b.toNat) 0=dc b):
  aq prog 248 [.agg [.ptr 0 0,.str n],.str t] [bK [.ptr 1 0,.str K],bK (T.map .u8)] (.str (bj t (iv E ((t.length+15)/16)))) [bK [.ptr 1 0,.str K],bK (T.map .u8)]:=by
 have o:∀ c:Nat,c<=100000->aq prog 254 [.agg [.ptr 0 0,.str n],.i64 c] [bK [.ptr 1 0,.str K],bK (T.map .u8)] (.str (E c)) [bK [.ptr 1 0,.str K],bK (T.map .u8)]:=fun c hc=>by
  rw[q];exact Gk n K T R c A hc B r C D F
 generalize G:(t.length+15)/16=rd;have y:t.length<=16*rd:=aa;have z:16*rd<=t.length+15:=aa;have f:=JQ T;refine yn (fn:=f248) func248 rfl am ?_;refine qc (K:=fun st=>Weak 2 24 st ⟨[(1,.str t),(2,.ptr 2 0)],[bK [.ptr 1 0,.str K],bK (T.map .u8),bK [.ptr 0 0,.str n]]⟩) (qw ac (ak ?_)) (fun st a=>uq ?_ a)
 ·simp only[go_sem,seval];refine Weak.drop ?_ rfl (fun _ _ h=>h);simp[St.get,aj]
 refine Rg (L:=[0,1,2]) (e:=shelf_lays105_ren.t 5) ZW rfl rfl rfl ah (by simp[ag]) (fun ρ0 w0=>?_);show GF prog 4 24 (shelf_lays105_ren.t 72) (shelf_lays105_ren.t 5) w0.heap.size 3 [0,1,2] 2 ρ0 _ w0 _ _ _ _
 let J:Nat->St:=fun i=>⟨[(1,.str (t.drop (16*i))),(2,.ptr 2 0),(5,.ptr 3 0),(6,.i64 (2+i:Nat))],[bK [.ptr 1 0,.str K],bK (T.map .u8),bK [.ptr 0 0,.str n],none]⟩
 refine Tq (K:=fun st l=>dC [0,1,2] st.H 0/\l=bj t (iv E rd)/\Weak 4 24 st ⟨[(5,.ptr 3 0)],[bK [.ptr 1 0,.str K],bK (T.map .u8),bK [.ptr 0 0,.str n],none]⟩) ?_ (fun st l a=>?_)
 rotate_left
 ·obtain⟨k1,rfl,k2⟩:=a;refine Sn ah ah ah k1 ?_ k2;refine adM ac YF (aH _) rfl rfl rfl ah rfl rfl rfl ah rfl rfl (by simp[mG,jz,V.flat,f]) (by simp[dC]) ah ?_;refine qw ac (ak ?_);simp only[go_sem,seval];exact Fin.ren [0,1] ae ae aZ ah ae ae
 refine vF (K:=fun st l=>dC [0,1,2] st.H 0/\l=[]/\Weak 4 24 st (J 0)) (wF ac ah ah ah (by simp[dC]) (ak ?_)) (fun st l a=>?_)
 ·simp only[go_sem,seval];refine⟨by simp[dC],rfl,Weak.drop ?_ rfl (fun _ _ h=>h)⟩;simp[St.get,aj,putS,J]
 obtain⟨k1,rfl,k2⟩:=a;refine xd ah ah ah k1 ?_ k2;refine FM (WJ (I:=fun k st l=>∃ i,i+k=rd/\dC [0,1,2] st.H 0/\Weak 4 24 st (J i)/\l=bj t (iv E i)) (k0:=rd) ⟨0,aa,by simp[dC,J],Weak.refl _ _ _,by simp[iv,bj]⟩ ?_);rintro k st l ⟨i,M,k1,k2,rfl⟩;refine xd ah ah ah k1 ?_ k2;clear k1 k2;refine vF (K:=fun st l=>dC [0,1,2] st.H 0/\l=bj t (iv E i)/\16*i<t.length/\Weak 4 24 st (J i)) (wF ac ah ah ah (by simp[dC,J]) (ak ?_)) (fun st l a=>?_)
 ·by_cases h0:16*i<t.length
  ·have g:(t.drop (16*i)=[])=False:=eq_false (fun h=>by have :=congrArg List.length h;rw[bU] at this;simp at this;omega);simp only[go_sem,seval,J,g];refine⟨by simp[dC],rfl,h0,Weak.drop ?_ rfl (fun _ _ h=>h)⟩;simp[St.get,aj]
  ·have s:i=rd:=aa;have g:(t.drop (16*i)=[])=True:=eq_true (AD aa);simp only[go_sem,seval,J,g];refine⟨by simp[dC],by rw[s],Weak.drop ?_ rfl (fun _ _ h=>h)⟩;simp[St.get,aj]
 obtain⟨k1,rfl,h0,k2⟩:=a;refine xd ah ah ah k1 ?_ k2;clear k1 k2;have p:(t.drop (16*i)).length=t.length-16*i:=bU;have N:=Ap (t.drop (16*i)) (E (2+i)) aa (by rw[m];omega);have O:=o (2+i) aa;have j:(bj (t.drop (16*i)) (E (2+i))).length=min (t.length-16*i) 16:=by rw[jU,m,p]
 have d:=MW E m t i;refine vF (K:=fun st l=>dC [0,1,2] st.H 0/\l=bj t (iv E (i+1))/\Weak 4 24 st ⟨[(1,.str (t.drop (16*(i+1)))),(2,.ptr 2 0),(5,.ptr 3 0),(6,.i64 (2+i:Nat))],[bK [.ptr 1 0,.str K],bK (T.map .u8),bK [.ptr 0 0,.str n],none]⟩) (FM ?_) (fun st l a=>?_)
 ·refine vF (K:=fun st l=>dC [0,1,2] st.H 0/\l=bj t (iv E i)/\Weak 4 24 st ⟨[(7,.str (bj (t.drop (16*i)) (E (2+i)))),(1,.str (t.drop (16*i))),(2,.ptr 2 0),(5,.ptr 3 0),(6,.i64 (2+i:Nat))],[bK [.ptr 1 0,.str K],bK (T.map .u8),bK [.ptr 0 0,.str n],none]⟩) (wF ac ah ah ah (by simp[dC,J]) (ak ?_)) (fun st l a=>?_)
  ·simp only[go_sem,seval,J];refine aS [0,1] (O) ac ae rfl ae aM ae ae ae ae ae ?_;simp only[go_sem,seval];refine au (N) ?_;simp only[go_sem,seval];refine⟨by simp[dC],rfl,Weak.drop ?_ rfl (fun _ _ h=>h)⟩;simp[St.get,aj]
  obtain⟨k1,rfl,k2⟩:=a;refine xd ah ah ah k1 ?_ k2;refine vF (K:=fun st l=>st=⟨[(18,.tup [.i64 (bj (t.drop (16*i)) (E (2+i))).length,.nilIface]),(17,.str (bj (t.drop (16*i)) (E (2+i)))),(7,.str (bj (t.drop (16*i)) (E (2+i)))),(1,.str (t.drop (16*i))),(2,.ptr 2 0),(5,.ptr 3 0),(6,.i64 (2+i:Nat))],[bK [.ptr 1 0,.str K],bK (T.map .u8),bK [.ptr 0 0,.str n],none]⟩/\l=bj t (iv E (i+1))) (aau (x:= .tmp 7) ac XA (aH _) rfl rfl rfl ah rfl rfl rfl ah rfl rfl ?_ rfl (by simp[mG,jz,V.flat,f]) (by simp[dC]) ⟨rfl,ady E m t i aa⟩) (fun st l a=>?_)
  ·have u:=yf E m i;rw[jU,j,u];omega
  obtain⟨rfl,rfl⟩:=a;refine wF ac ah ah ah (by simp[dC]) (ak ?_);rw[j] at d;have v:(t.drop (16*i)).take (t.length-16*i)=t.drop (16*i):=ar aa;simp only[go_sem,seval,p,j,v,d];refine⟨aa,?_⟩;simp only[Cf,x8];refine⟨by simp[dC],trivial,Weak.drop ?_ rfl (fun _ _ h=>h)⟩;simp[St.get,aj]
 obtain⟨k1,rfl,k2⟩:=a;refine xd ah ah ah k1 ?_ k2;refine wF ac ah ah ah (by simp[dC]) (ak ?_);have hw:((2+i:Nat):Int)+1=((2+(i+1):Nat):Int):=aa;have w:ao ((2+(i+1):Nat):Int)=((2+(i+1):Nat):Int):=az aa aa;simp only[go_sem,seval,hw,w];simp only[x8];refine⟨k-1,aa,i+1,aa,by simp[dC],Weak.drop ?_ rfl (fun _ _ h=>h),rfl⟩;simp[St.get,aj,J]
end Go.Vm
end
section
namespace Go.Vm
open Go.Proofs
end Go.Vm
end
section
namespace Go.Vm
open Go.Proofs Go.Proofs.Tryz
def Ug (p:BitVec 64×BitVec 64):BitVec 64×BitVec 64:=(p.1>>>1 ^^^ ((p.2&&&1#64)*225#64)<<<56,p.2>>>1|||p.1<<<63)
def vT (y:BitVec 64×BitVec 64):Nat->BitVec 64×BitVec 64
 |0=>y
 |i+1=>Ug (vT y i)
def oW (x:BitVec 64×BitVec 64)(i:Nat):Bool:=decide ((if 64<=i then x.2 else x.1)>>>(63-i%64)&&&1#64=1#64)
def zT (x y:BitVec 64×BitVec 64):Nat->BitVec 64×BitVec 64
 |0=>(0#64,0#64)
 |i+1=>if oW x i then((zT x y i).1 ^^^ (vT y i).1,(zT x y i).2 ^^^ (vT y i).2) else zT x y i
theorem FI (s:List (BitVec 8))(h:s.length=16):aG prog 259 [.str s] (.agg [.u64 (BitVec.ofNat 64 (be (s.take 8))),.u64 (BitVec.ofNat 64 (be (s.drop 8)))]):=by
 have h1:(s.take 8).length=8:=by rw[br];omega
 have h2:(s.drop 8).length=8:=by rw[bU];omega
 refine aQ ac (fn:=f259) ac func259 rfl am (by simp[af,V.low]) (by simp[af,V.low]) (ak ?_);simp only[go_sem,seval,ntmps259,h];refine aX (ug _ aa) ?_;simp only[go_sem,seval,ar,h];refine aX (ug _ aa) ?_;simp only[go_sem,seval];kernel_rfl
theorem Bd (a b c d:BitVec 64):aG prog 258 [.agg [.u64 a,.u64 b],.agg [.u64 c,.u64 d]] (.agg [.u64 (a ^^^ c),.u64 (b ^^^ d)]):=by
 refine aQ ac (fn:=f258) ac func258 rfl am (by simp[af,V.low]) (by simp[af,V.low]) (ak ?_);simp only[go_sem,seval,ntmps258,results258]
theorem Rv (a b:BitVec 64):aG prog 261 [.agg [.u64 a,.u64 b]] (.str (bu a.toNat 8++bu b.toNat 8)):=by
 have c:=cF a.toNat 8;have d:=yX (bu a.toNat 8) b aa;rw[c] at d;refine aQ ac (fn:=f261) ac func261 rfl am (by simp[af,V.low]) (by simp[V.low]) (ak ?_);simp only[go_sem,seval,ntmps261];refine iq [] (wZ a) ac ae rfl ae aM ae ae ae ae ae ?_;simp only[go_sem,seval];refine iq [1] (d) ac ae rfl ae aM ae ae ae ae ae ?_;simp only[go_sem,seval,c,cF];refine⟨ac,?_⟩;rw[ar (by rw[aE,cF,cF];decide)]
theorem OK (x y:BitVec 64×BitVec 64):aG prog 260 [.agg [.u64 x.1,.u64 x.2],.agg [.u64 y.1,.u64 y.2]] (.agg [.u64 (zT x y 128).1,.u64 (zT x y 128).2]):=by
 refine aQ ac (fn:=f260) ac func260 rfl am (by simp[af,V.low]) (by simp[af,V.low]) (ak ?_);simp only[go_sem,seval,ntmps260];refine bq (fun j st=>∃ i:Nat,i+j=128/\st=⟨[(2,.ptr 0 0),(3,.ptr 1 0),(4,.ptr 2 0),(5,.ptr 3 0),(9,.i64 i)],[bK [.u64 x.1,.u64 x.2],bK [.u64 (vT y i).1,.u64 (vT y i).2],bK [.u64 0#64,.u64 0#64],bK [.u64 (zT x y i).1,.u64 (zT x y i).2]]⟩) ?_ ?_
 ·exact bJ (128) ⟨[(2,.ptr 0 0),(3,.ptr 1 0),(4,.ptr 2 0),(5,.ptr 3 0),(9,.i64 (0:Nat))],[bK [.u64 x.1,.u64 x.2],bK [.u64 (vT y (0:Nat)).1,.u64 (vT y (0:Nat)).2],bK [.u64 0#64,.u64 0#64],bK [.u64 (zT x y (0:Nat)).1,.u64 (zT x y (0:Nat)).2]]⟩ (by simp[St.get,aj,-List.map_set,-List.map_map]) rfl (fun _ _ h=>h) ⟨0,aa,rfl⟩
 rintro j st ⟨i,m,rfl⟩ _;simp only[go_sem,seval];by_cases h0:i<128
 ·have d:(i:Int)<128:=aa;have m1:(i:Int).tmod 64=((i%64:Nat):Int):=by rw[show(64:Int)=((64:Nat):Int) from rfl,I7]
  have k:ao (63-((i%64:Nat):Int))=((63-i%64:Nat):Int):=by rw[az aa aa];omega
  by_cases l:64<=i
  ·have e:(64:Int)<=(i:Int):=aa;by_cases f:x.2>>>(63-i%64)&&&1#64=1#64
   ·have a:oW x i=true:=by unfold oW;rw[if_pos l];exact decide_eq_true f
    have b:(zT x y i).1 ^^^ (vT y i).1=(zT x y (i+1)).1:=by rw[zT,if_pos a]
    have g:(zT x y i).2 ^^^ (vT y i).2=(zT x y (i+1)).2:=by rw[zT,if_pos a]
    simp only[go_sem,seval,d,e,m1,k,f];refine⟨aa,?_⟩;refine au (Bd _ _ _ _) ?_;simp only[go_sem,seval,b,g];refine bx (j-1) ⟨[(2,.ptr 0 0),(3,.ptr 1 0),(4,.ptr 2 0),(5,.ptr 3 0),(9,.i64 (i+1:Nat))],[bK [.u64 x.1,.u64 x.2],bK [.u64 (vT y (i+1:Nat)).1,.u64 (vT y (i+1:Nat)).2],bK [.u64 0#64,.u64 0#64],bK [.u64 (zT x y (i+1:Nat)).1,.u64 (zT x y (i+1:Nat)).2]]⟩ aa ?_ rfl (fun _ _ h=>h) ⟨i+1,aa,rfl⟩;have c:ao ((i:Int)+1)=((i+1:Nat):Int):=by rw[az aa aa];omega
    simp[St.get,aj,c,-List.map_set,-List.map_map]
   ·have a:oW x i=false:=by unfold oW;rw[if_pos l];exact decide_eq_false f
    have b:zT x y i=zT x y (i+1):=by rw[zT,a];rfl
    simp only[go_sem,seval,d,e,m1,k,f];refine⟨aa,?_⟩;rw[b];refine bx (j-1) ⟨[(2,.ptr 0 0),(3,.ptr 1 0),(4,.ptr 2 0),(5,.ptr 3 0),(9,.i64 (i+1:Nat))],[bK [.u64 x.1,.u64 x.2],bK [.u64 (vT y (i+1:Nat)).1,.u64 (vT y (i+1:Nat)).2],bK [.u64 0#64,.u64 0#64],bK [.u64 (zT x y (i+1:Nat)).1,.u64 (zT x y (i+1:Nat)).2]]⟩ aa ?_ rfl (fun _ _ h=>h) ⟨i+1,aa,rfl⟩;have c:ao ((i:Int)+1)=((i+1:Nat):Int):=by rw[az aa aa];omega
    simp[St.get,aj,c,-List.map_set,-List.map_map]
  ·have e:¬ (64:Int)<=(i:Int):=aa;by_cases f:x.1>>>(63-i%64)&&&1#64=1#64
   ·have a:oW x i=true:=by unfold oW;rw[if_neg l];exact decide_eq_true f
    have b:(zT x y i).1 ^^^ (vT y i).1=(zT x y (i+1)).1:=by rw[zT,if_pos a]
    have g:(zT x y i).2 ^^^ (vT y i).2=(zT x y (i+1)).2:=by rw[zT,if_pos a]
    simp only[go_sem,seval,d,e,m1,k,f];refine⟨aa,?_⟩;refine au (Bd _ _ _ _) ?_;simp only[go_sem,seval,b,g];refine bx (j-1) ⟨[(2,.ptr 0 0),(3,.ptr 1 0),(4,.ptr 2 0),(5,.ptr 3 0),(9,.i64 (i+1:Nat))],[bK [.u64 x.1,.u64 x.2],bK [.u64 (vT y (i+1:Nat)).1,.u64 (vT y (i+1:Nat)).2],bK [.u64 0#64,.u64 0#64],bK [.u64 (zT x y (i+1:Nat)).1,.u64 (zT x y (i+1:Nat)).2]]⟩ aa ?_ rfl (fun _ _ h=>h) ⟨i+1,aa,rfl⟩;have c:ao ((i:Int)+1)=((i+1:Nat):Int):=by rw[az aa aa];omega
    simp[St.get,aj,c,-List.map_set,-List.map_map]
   ·have a:oW x i=false:=by unfold oW;rw[if_neg l];exact decide_eq_false f
    have b:zT x y i=zT x y (i+1):=by rw[zT,a];rfl
    simp only[go_sem,seval,d,e,m1,k,f];refine⟨aa,?_⟩;rw[b];refine bx (j-1) ⟨[(2,.ptr 0 0),(3,.ptr 1 0),(4,.ptr 2 0),(5,.ptr 3 0),(9,.i64 (i+1:Nat))],[bK [.u64 x.1,.u64 x.2],bK [.u64 (vT y (i+1:Nat)).1,.u64 (vT y (i+1:Nat)).2],bK [.u64 0#64,.u64 0#64],bK [.u64 (zT x y (i+1:Nat)).1,.u64 (zT x y (i+1:Nat)).2]]⟩ aa ?_ rfl (fun _ _ h=>h) ⟨i+1,aa,rfl⟩;have c:ao ((i:Int)+1)=((i+1:Nat):Int):=by rw[az aa aa];omega
    simp[St.get,aj,c,-List.map_set,-List.map_map]
 ·obtain rfl:i=128:=aa;have d:¬ ((128:Nat):Int)<128:=aa;simp only[go_sem,seval]
end Go.Vm
end
section
namespace Go.Vm
def cG (s:List (BitVec 8)):BitVec 64×BitVec 64:=(BitVec.ofNat 64 (be (s.take 8)),BitVec.ofNat 64 (be (s.drop 8)))
abbrev Pr:=BitVec 64×BitVec 64
def ot (p:Pr):List (BitVec 8):=bu p.1.toNat 8++bu p.2.toNat 8
theorem Ga (p:Pr):(ot p).length=16:=by unfold ot;rw[aE,cF,cF]
def Rn (h p:Pr)(c:List (BitVec 8)):Pr:=zT (p.1 ^^^ (cG c).1,p.2 ^^^ (cG c).2) h 128
def uw (s:List (BitVec 8)):List (BitVec 8):=s++List.replicate (16-s.length) 0
theorem Py (s:List (BitVec 8))(h:s.length<=16):(uw s).length=16:=by unfold uw;rw[aE,gv];omega
def kO (t:List (BitVec 8))(i:Nat):List (BitVec 8):=uw ((t.drop (16*i)).take 16)
def eA (h p:Pr)(t:List (BitVec 8)):Nat->Pr
 |0=>p
 |i+1=>Rn h (eA h p t i) (kO t i)
end Go.Vm
end
section
namespace Go.Vm
open Go.Proofs Go.Proofs.Tryz
theorem Wu (x:List (BitVec 8))(h:x.length<=16):splice [V.u8 0#8,V.u8 0#8,V.u8 0#8,V.u8 0#8,V.u8 0#8,V.u8 0#8,V.u8 0#8,V.u8 0#8,V.u8 0#8,V.u8 0#8,V.u8 0#8,V.u8 0#8,V.u8 0#8,V.u8 0#8,V.u8 0#8,V.u8 0#8] 0 (x.map V.u8)=(uw x).map V.u8:=by
 rcases x with _|⟨a,_|⟨b,l⟩⟩
 ·rfl
 ·rfl
 ·have c:[V.u8 0#8,V.u8 0#8,V.u8 0#8,V.u8 0#8,V.u8 0#8,V.u8 0#8,V.u8 0#8,V.u8 0#8,V.u8 0#8,V.u8 0#8,V.u8 0#8,V.u8 0#8,V.u8 0#8,V.u8 0#8,V.u8 0#8,V.u8 0#8]=List.replicate 16 (V.u8 0#8):=rfl;rw[c];generalize d:a::b::l=y at h;have e:splice (List.replicate 16 (V.u8 0#8)) 0 (y.map V.u8)=(List.replicate 16 (V.u8 0#8)).take 0++y.map V.u8++(List.replicate 16 (V.u8 0#8)).drop (0+(y.map V.u8).length):=by subst d;rfl
  rw[e];unfold uw;simp only[ez,ff,cw,ba,List.drop_replicate,gD,List.map_replicate];rfl
theorem CM (h t:List (BitVec 8))(p:Pr)(g:h.length=16)(v:t.length<=140737488351232):aq prog 257 [.str t,.ptr 0 0,.ptr 1 0] [bK [.u64 p.1,.u64 p.2],bK [.str h]] (.tup []) [bK [.u64 (eA (cG h) p t ((t.length+15)/16)).1,.u64 (eA (cG h) p t ((t.length+15)/16)).2],bK [.str h]]:=by
 refine bf ac (fn:=f257) func257 rfl am (ak ?_);simp only[go_sem,seval,ntmps257];refine bq (fun j st=>∃ i:Nat,i+j=(t.length+15)/16/\st=⟨[(0,.str (t.drop (16*i))),(1,.ptr 0 0),(2,.ptr 1 0)],[bK [.u64 (eA (cG h) p t i).1,.u64 (eA (cG h) p t i).2],bK [.str h]]⟩) ?_ ?_
 ·exact bJ ((t.length+15)/16) ⟨[(0,.str (t.drop (16*(0:Nat)))),(1,.ptr 0 0),(2,.ptr 1 0)],[bK [.u64 (eA (cG h) p t (0:Nat)).1,.u64 (eA (cG h) p t (0:Nat)).2],bK [.str h]]⟩ (by simp[St.get,aj,-List.map_set,-List.map_map]) rfl (fun _ _ h=>h) ⟨0,aa,rfl⟩
 rintro j st ⟨i,w,rfl⟩ _;simp only[go_sem,seval];have q:(t.drop (16*i)).length=t.length-16*i:=bU;by_cases h0:16*i<t.length
 ·have k:¬ t.drop (16*i)=[]:=fun e=>by rw[e] at q;simp at q;omega
  have r:(t.drop (16*i)).take (min (t.length-16*i) 16)=(t.drop (16*i)).take 16:=by
   by_cases hc:16<=t.length-16*i
   ·rw[nY hc]
   ·rw[iM aa,ar aa,ar aa]
  have a:=Wu ((t.drop (16*i)).take 16) (by rw[br];omega);rw[show uw ((t.drop (16*i)).take 16)=kO t i from rfl] at a;have b:(kO t i).length=16:=Py _ (by rw[br];omega);have c:=FI (kO t i) b;have d:=FI h g;have l:=Bd (eA (cG h) p t i).1 (eA (cG h) p t i).2 (cG (kO t i)).1 (cG (kO t i)).2;have f:=OK ((eA (cG h) p t i).1 ^^^ (cG (kO t i)).1,(eA (cG h) p t i).2 ^^^ (cG (kO t i)).2) (cG h);have m:zT ((eA (cG h) p t i).1 ^^^ (cG (kO t i)).1,(eA (cG h) p t i).2 ^^^ (cG (kO t i)).2) (cG h) 128=eA (cG h) p t (i+1):=rfl;rw[m] at f;rw[show(BitVec.ofNat 64 (be (List.take 8 (kO t i))))=(cG (kO t i)).1 from rfl,show(BitVec.ofNat 64 (be (List.drop 8 (kO t i))))=(cG (kO t i)).2 from rfl] at c;rw[show(BitVec.ofNat 64 (be (List.take 8 h)))=(cG h).1 from rfl,show(BitVec.ofNat 64 (be (List.drop 8 h)))=(cG h).2 from rfl] at d;simp only[go_sem,seval,k,r,a,b,ar];refine aX (c) ?_;simp only[go_sem,seval];refine aX (l) ?_;simp only[go_sem,seval];refine aX (d) ?_;simp only[go_sem,seval];refine aX (f) ?_;simp only[go_sem,seval];refine⟨ac,?_⟩;have n:(if((t.length-16*i:Nat):Int)<16 then((t.length-16*i:Nat):Int) else 16)=((min (t.length-16*i) 16:Nat):Int):=by split <;>omega
  have o:((t.drop (16*i)).take (t.length-16*i)).drop (min (t.length-16*i) 16)=t.drop (16*(i+1)):=by
   rw[ar aa,hO];by_cases g:16<=t.length-16*i
   ·rw[nY g,km]
   ·rw[iM aa,gP aa,gP aa]
  simp only[n,cT,o];refine⟨⟨aa,aa⟩,?_⟩;have s:ao ((i:Int)+1)=((i+1:Nat):Int):=by rw[az aa aa];omega
  refine fZ (j-1) ⟨[(0,.str (t.drop (16*(i+1:Nat)))),(1,.ptr 0 0),(2,.ptr 1 0)],[bK [.u64 (eA (cG h) p t (i+1:Nat)).1,.u64 (eA (cG h) p t (i+1:Nat)).2],bK [.str h]]⟩ [0,1] aa rfl ae rfl ah (by simp[dJ,St.get,aj,-List.map_map,-List.map_set,eA]) (by simp[eA]) ⟨i+1,aa,rfl⟩
 ·have u:t.drop (16*i)=[]:=gP aa;obtain rfl:i=(t.length+15)/16:=aa;simp only[go_sem,seval,u];exact Fin.ren [0,1] ae ae aZ ah ae ae
def uE (l s:List (BitVec 8)):List (BitVec 8):=bu (BitVec.ofInt 64 (l.length:Int)*8#64).toNat 8++bu (BitVec.ofInt 64 (s.length:Int)*8#64).toNat 8
theorem DB (l s:List (BitVec 8)):(uE l s).length=16:=by unfold uE;rw[aE,cF,cF]
def lu (h l s:List (BitVec 8)):Pr:=eA (cG h) (eA (cG h) (eA (cG h) (0#64,0#64) l ((l.length+15)/16)) s ((s.length+15)/16)) (uE l s) 1
theorem MF (h l s:List (BitVec 8))(a:h.length=16)(e:l.length<=140737488351232)(f:s.length<=140737488351232):aG prog 252 [.str h,.str l,.str s] (.tup [.str (ot (lu h l s)),.i64 0]):=by
 have h':(h.length:Int)=16:=aa;have t1:=CM h l (0#64,0#64) a e;have t2:=CM h s (eA (cG h) (0#64,0#64) l ((l.length+15)/16)) a f;have t3:=CM h (uE l s) (eA (cG h) (eA (cG h) (0#64,0#64) l ((l.length+15)/16)) s ((s.length+15)/16)) a (by rw[DB];omega);rw[DB,show eA (cG h) (eA (cG h) (eA (cG h) (0#64,0#64) l ((l.length+15)/16)) s ((s.length+15)/16)) (uE l s) ((16+15)/16)=lu h l s from rfl] at t3;have g:=wZ (BitVec.ofInt 64 (l.length:Int)*8#64);have b:=cF (BitVec.ofInt 64 (l.length:Int)*8#64).toNat 8;have c:=yX (bu (BitVec.ofInt 64 (l.length:Int)*8#64).toNat 8) (BitVec.ofInt 64 (s.length:Int)*8#64) aa;rw[b,show bu (BitVec.ofInt 64 (l.length:Int)*8#64).toNat 8++bu (BitVec.ofInt 64 (s.length:Int)*8#64).toNat 8=uE l s from rfl] at c;have d:=Rv (lu h l s).1 (lu h l s).2;rw[show bu (lu h l s).1.toNat 8++bu (lu h l s).2.toNat 8=ot (lu h l s) from rfl] at d;refine aQ ac (fn:=f252) ac func252 rfl am (by simp[af,V.low]) (by simp[af,V.low]) (ak ?_);simp only[go_sem,seval,ntmps252,h'];refine aS [1,0] (t1) ac ae rfl ae aM ae ae ae ae ae ?_;simp only[go_sem,seval];refine aS [1,0] (t2) ac ae rfl ae aM ae ae ae ae ae ?_;simp only[go_sem,seval];refine aS [] (g) ac ae rfl ae aM ae ae ae ae ae ?_;simp only[go_sem,seval];refine aS [2] (c) ac ae rfl ae aM ae ae ae ae ae ?_;simp only[go_sem,seval,DB,ar];refine aS [1,0] (t3) ac ae rfl ae aM ae ae ae ae ae ?_;simp only[go_sem,seval];refine au (d) ?_;simp only[go_sem,seval]
end Go.Vm
end
section
namespace Go.Vm
open Go.Proofs
end Go.Vm
end
section
namespace Go.Vm
open Go.Proofs Go.Proofs.Tryz
theorem F5 (E:Nat->List (BitVec 8))(n K T l s:List (BitVec 8))(R:Nat)(f:∀ c,E c=dK (n++bu c 4) K R (R-1))(o:∀ c,(E c).length=16)(p:n.length=12)(v:l.length<=2000)(w:s.length<=2016)(i:2<=R)(a:R<=20)(g:K.length=16*R)(j:T.length=512)(k:∀ b:BitVec 8,T.getD (0+b.toNat) 0=dc b):
  aq prog 247 [.agg [.ptr 0 0,.str n],.str l,.str s] [bK [.ptr 1 0,.str K],bK (T.map .u8)] (.str (bj (ot (lu (dK (List.replicate 16 0#8) K R (R-1)) l s)) (E 1))) [bK [.ptr 1 0,.str K],bK (T.map .u8)]:=by
 have m:=Gk n K T R 1 p aa i a g j k;rw[<-f] at m;have q:=FX (List.replicate 16 0#8) K T R ae i a g j k;have h:=A7 (List.replicate 16 0#8) K R ae g (R-1) aa;have d:=vD 16 ah;generalize r:dK (List.replicate 16 0#8) K R (R-1)=z at*;have e:=MF z l s h aa aa;have t:=Ga (lu z l s);have u:=Ap (ot (lu z l s)) (E 1) aa (by rw[o];omega);refine bf ac (fn:=f247) func247 rfl am (ak ?_);simp only[go_sem,seval,ntmps247];refine aX (d) ?_;simp only[go_sem,seval];refine vv [0,1] (q) ac ae rfl ae ah ae ae ae ae ae (by first|(simp[gJ,cR,bd,dx,Blk.ren,-List.map_map,-List.map_set];done)|simp[go_sem,gJ]) ?_;simp only[go_sem,seval];refine aX (e) ?_;simp only[go_sem,seval];refine⟨ac,?_⟩;refine aS [0,1] (m) ac ae rfl ae aM ae ae ae ae ae ?_;simp only[go_sem,seval];refine au (u) ?_;simp only[go_sem,seval];exact Fin.ren [0,1] ae ae aZ ah ae ae
def lO (k:List (BitVec 8)):List (BitVec 8):=(wl k 8 60).flatten
def gE (k n:List (BitVec 8))(c:Nat):List (BitVec 8):=dK (n++bu c 4) (lO k) 15 14
def gS (k n t:List (BitVec 8)):List (BitVec 8):=bj t (iv (gE k n) ((t.length+15)/16))
def gT (k n l s:List (BitVec 8)):List (BitVec 8):=bj (ot (lu (dK (List.replicate 16 0#8) (lO k) 15 14) l s)) (gE k n 1)
theorem wW (k:List (BitVec 8))(a:k.length=32):(lO k).length=240:=Jb k 8 aa aa 60
theorem qU (k n:List (BitVec 8))(a:k.length=32)(b:n.length=12)(c:Nat):(gE k n c).length=16:=by
 unfold gE;exact A7 _ _ 15 (by rw[aE,cF];omega) (by rw[wW k a]) 14 aa
theorem BK (k n t:List (BitVec 8))(a:k.length=32)(b:n.length=12):(gS k n t).length=t.length:=by
 unfold gS;rw[jU,yf _ (qU k n a b)];omega
theorem Cd (k n l s:List (BitVec 8))(a:k.length=32)(b:n.length=12):(gT k n l s).length=16:=by
 unfold gT;rw[jU,Ga,qU k n a b];rfl
theorem PR (k n l t:List (BitVec 8))(h:cX k n l t 2000≠0):aq prog 244 [.str k,.str n,.str l,.str t] [] (.tup [.str [],.i64 (cX k n l t 2000)]) []:=by
 have hc:=wS k n l t 2000;generalize cX k n l t 2000=e at*;have a:(e=0)=False:=eq_false h;refine bf ac (fn:=f244) func244 rfl am (ak ?_);simp only[go_sem,seval,ntmps244];refine au (hc) ?_;simp only[go_sem,seval,a];exact Fin.ren [] ae ae aZ ah ae ae
theorem SO (k n l t:List (BitVec 8))(d:k.length=32)(e:n.length=12)(o:l.length<=2000)(q:t.length<=2000):aq prog 244 [.str k,.str n,.str l,.str t] [] (.tup [.str (gS k n t++gT k n l (gS k n t)),.i64 0]) []:=by
 have hc:=wS k n l t 2000;have i:cX k n l t 2000=0:=by
  unfold cX;rw[if_neg aa,if_neg aa]
 rw[i] at hc;have a:=J2 k 8 (.inr rfl) aa;have f:=xw 256;have j:=Bx;have p:=BK k n t d e;have m:=Cd k n l (gS k n t) d e;rw[show 4*(8+7)=60 from rfl,show(wl k 8 60).flatten=lO k from rfl] at a;have g:=F9 (gE k n) (qU k n d e) n (lO k) (fe 256) t 15 (fun c=>rfl) e aa aa aa (by rw[wW k d]) f (fun b=>by rw[cw,j]);have h:=F5 (gE k n) n (lO k) (fe 256) l (gS k n t) 15 (fun c=>rfl) (qU k n d e) e o aa aa aa (by rw[wW k d]) f (fun b=>by rw[cw,j]);rw[show bj t (iv (gE k n) ((t.length+15)/16))=gS k n t from rfl] at g;rw[show bj (ot (lu (dK (List.replicate 16 0#8) (lO k) 15 (15-1)) l (gS k n t))) (gE k n 1)=gT k n l (gS k n t) from rfl] at h;generalize fe 256=T at*;generalize lO k=K at*;generalize gT k n l (gS k n t)=r at*;generalize gS k n t=sl at*;refine bf ac (fn:=f244) func244 rfl am (ak ?_);simp only[go_sem,seval,ntmps244];refine au (hc) ?_;simp only[go_sem,seval];refine aS [] (a) ac ae rfl ae aM ae ae ae ae ae ?_;simp only[go_sem,seval];refine aS [0,1] (g) ac ae rfl ae aM ae ae ae ae ae ?_;simp only[go_sem,seval];refine aS [0,1] (h) ac ae rfl ae aM ae ae ae ae ae ?_;simp only[go_sem,seval];refine⟨aa,?_⟩;exact Fin.ren [] ae ae aZ ah ae ae
theorem OW (k n l t:List (BitVec 8))(h:cX k n l t 2016≠0):aq prog 243 [.str k,.str n,.str l,.str t] [] (.tup [.str [],.i64 (cX k n l t 2016)]) []:=by
 have hc:=wS k n l t 2016;generalize cX k n l t 2016=e at*;have a:(e=0)=False:=eq_false h;refine bf ac (fn:=f243) func243 rfl am (ak ?_);simp only[go_sem,seval,ntmps243];refine au (hc) ?_;simp only[go_sem,seval,a];exact Fin.ren [] ae ae aZ ah ae ae
theorem Pb (k n l t:List (BitVec 8))(h:cX k n l t 2016=0)(b:t.length<16):aq prog 243 [.str k,.str n,.str l,.str t] [] (.tup [.str [],.i64 4]) []:=by
 have hc:=wS k n l t 2016;rw[h] at hc;have a:(t.length:Int)<16:=aa;refine bf ac (fn:=f243) func243 rfl am (ak ?_);simp only[go_sem,seval,ntmps243];refine au (hc) ?_;simp only[go_sem,seval,a];exact Fin.ren [] ae ae aZ ah ae ae
theorem aam (k n l t:List (BitVec 8))(h:k.length=32)(i:n.length=12)(v:l.length<=2000)(z:t.length<=2016)(w:16<=t.length):aq prog 243 [.str k,.str n,.str l,.str t] []
  (if gT k n l (t.take (t.length-16))=t.drop (t.length-16) then .tup [.str (gS k n (t.take (t.length-16))),.i64 0] else .tup [.str [],.i64 6]) []:=by
 have hc:=wS k n l t 2016;have p:cX k n l t 2016=0:=by
  unfold cX;rw[if_neg aa,if_neg aa]
 rw[p] at hc;have a:=J2 k 8 (.inr rfl) aa;have j:=xw 256;have q:=Bx;have x:(t.take (t.length-16)).length=t.length-16:=by rw[br];omega
 generalize r:t.take (t.length-16)=s at*;have u:=Cd k n l s h i;rw[show 4*(8+7)=60 from rfl,show(wl k 8 60).flatten=lO k from rfl] at a;have m:=F9 (gE k n) (qU k n h i) n (lO k) (fe 256) s 15 (fun c=>rfl) i aa aa aa (by rw[wW k h]) j (fun b=>by rw[cw,q]);have f:=F5 (gE k n) n (lO k) (fe 256) l s 15 (fun c=>rfl) (qU k n h i) i v aa aa aa (by rw[wW k h]) j (fun b=>by rw[cw,q]);rw[show bj s (iv (gE k n) ((s.length+15)/16))=gS k n s from rfl] at m;rw[show bj (ot (lu (dK (List.replicate 16 0#8) (lO k) 15 (15-1)) l s)) (gE k n 1)=gT k n l s from rfl] at f;generalize fe 256=T at*;generalize lO k=K at*;generalize gT k n l s=y at*;generalize gS k n s=sl at*;have d:¬ (t.length:Int)<16:=aa;have e:(t.length:Int)-16=((t.length-16:Nat):Int):=aa;have hw:ao ((t.length-16:Nat):Int)=((t.length-16:Nat):Int):=az aa aa;by_cases o:y=t.drop (t.length-16)
 ·rw[if_pos o];have g:=eq_true o;refine bf ac (fn:=f243) func243 rfl am (ak ?_);simp only[go_sem,seval,ntmps243];refine au (hc) ?_;simp only[go_sem,seval,d];refine aS [] (a) ac ae rfl ae aM ae ae ae ae ae ?_;simp only[go_sem,seval,e,hw,r];refine⟨aa,aa,ac,?_⟩;refine aS [0,1] (f) ac ae rfl ae aM ae ae ae ae ae ?_;simp only[go_sem,seval,g];refine aS [0,1] (m) ac ae rfl ae aM ae ae ae ae ae ?_;simp only[go_sem,seval];exact Fin.ren [] ae ae aZ ah ae ae
 ·rw[if_neg o];have g:=eq_false o;refine bf ac (fn:=f243) func243 rfl am (ak ?_);simp only[go_sem,seval,ntmps243];refine au (hc) ?_;simp only[go_sem,seval,d];refine aS [] (a) ac ae rfl ae aM ae ae ae ae ae ?_;simp only[go_sem,seval,e,hw,r];refine⟨aa,aa,ac,?_⟩;refine aS [0,1] (f) ac ae rfl ae aM ae ae ae ae ae ?_;simp only[go_sem,seval,g];exact Fin.ren [] ae ae aZ ah ae ae
end Go.Vm
end
section
namespace Go.Vm
open Go.Proofs
theorem Je (k n l t:List (BitVec 8))(m:Nat)(h:cX k n l t m=0):k.length=32/\n.length=12/\l.length<=2000/\t.length<=m:=by
 unfold cX at h;split at h
 ·cases h
 ·split at h
  ·cases h
  ·omega
end Go.Vm
end
section
namespace Go.Vm
open Go.Proofs Go.Proofs.Tryz
def mT (k n l t:List (BitVec 8)):List (BitVec 8)×Int:=if cX k n l t 2000=0 then(gS k n t++gT k n l (gS k n t),0) else([],cX k n l t 2000)
def oa (k n l t:List (BitVec 8)):List (BitVec 8)×Int:=if cX k n l t 2016=0 then(if t.length<16 then([],4) else if gT k n l (t.take (t.length-16))=t.drop (t.length-16) then(gS k n (t.take (t.length-16)),0) else([],6)) else([],cX k n l t 2016)
theorem Xy (k n l t:List (BitVec 8)):aq prog 244 [.str k,.str n,.str l,.str t] [] (.tup [.str (mT k n l t).1,.i64 (mT k n l t).2]) []:=by
 unfold mT;by_cases h:cX k n l t 2000=0
 ·obtain⟨a,b,c,d⟩:=Je k n l t 2000 h;rw[if_pos h];exact SO k n l t a b c d
 ·rw[if_neg h];exact PR k n l t h
theorem ae9 (k n l t:List (BitVec 8)):aq prog 243 [.str k,.str n,.str l,.str t] [] (.tup [.str (oa k n l t).1,.i64 (oa k n l t).2]) []:=by
 unfold oa;by_cases h:cX k n l t 2016=0
 ·obtain⟨c,d,e,f⟩:=Je k n l t 2016 h;rw[if_pos h];by_cases a:t.length<16
  ·rw[if_pos a];exact Pb k n l t h a
  ·rw[if_neg a];have :=aam k n l t c d e f aa;by_cases b:gT k n l (t.take (t.length-16))=t.drop (t.length-16)
   ·rw[if_pos b] at this |-;exact this
   ·rw[if_neg b] at this |-;exact this
 ·rw[if_neg h];exact OW k n l t h
theorem acu (k c m t:List (BitVec 8)):aG prog 242 [.agg [],.str k,.str c,.str m,.str t] (.tup [.str (mT k c m t).1,.i64 (mT k c m t).2]):=by
 have h:=zw ac (by simp[af,V.low]) (Xy k c m t);generalize mT k c m t=g at*;refine aQ ac (fn:=f242) ac func242 rfl am (by simp[af,V.low]) (by simp[af,V.low]) (ak ?_);simp only[go_sem,seval,ntmps242];refine au (h) ?_;simp only[go_sem,seval]
theorem aho (k c m t:List (BitVec 8)):aG prog 241 [.agg [],.str k,.str c,.str m,.str t] (.tup [.str (oa k c m t).1,.i64 (oa k c m t).2]):=by
 have h:=zw ac (by simp[af,V.low]) (ae9 k c m t);generalize oa k c m t=g at*;refine aQ ac (fn:=f241) ac func241 rfl am (by simp[af,V.low]) (by simp[af,V.low]) (ak ?_);simp only[go_sem,seval,ntmps241];refine au (h) ?_;simp only[go_sem,seval]
end Go.Vm
end
section
namespace Go.Vm
open Go.Proofs
theorem QK (k c m t:List (BitVec 8)):((dP k c m t).2=0->JI (dP k c m t).1.length t.length)/\(dP k c m t).1.length<=t.length+16:=by
 unfold dP JI;by_cases h:jR k c m t 2000=0
 ·obtain⟨h1,h2,d,f⟩:=Ep _ _ _ _ _ h;rw[if_pos h];have a:(xored (fh k c) 1#32 t).length=t.length:=AE _ (fun m=>we k c m h1 h2) _ _;have b:(gA k c m (xored (fh k c) 1#32 t)).length=16:=by unfold gA;exact vJ _ _
  simp only[aE,a,b];exact⟨fun _=>trivial,aH _⟩
 ·rw[if_neg h];exact⟨fun e=>absurd e h,ae⟩
theorem KZ (t z:List (BitVec 8))(h:t.length<=z.length):bj (bj t z) z=t:=by
 unfold bj;apply qM;intro i;by_cases a:i<t.length
 ·have b:i<z.length:=aa;rw[pK,pK,aF a,aF b];show some ((t[i] ^^^ z[i]) ^^^ z[i])=some t[i];rw[BitVec.xor_assoc,BitVec.xor_self,BitVec.xor_zero]
 ·rw[pK,pK,gi (l:=t) aa]
theorem aaj (B:BitVec 32->List (BitVec 8))(a:∀ m,(B m).length=64)(n:BitVec 32)(t:List (BitVec 8)):xored B n (xored B n t)=t:=by
 have b:=AE B a n t;have e:xored B n (xored B n t)=bj (xored B n t) (jL B n ((t.length+63)/64)):=by
  rw[<-b];rfl
 rw[e];show bj (bj t (jL B n ((t.length+63)/64))) (jL B n ((t.length+63)/64))=t;refine KZ t _ ?_;rw[AS B a];omega
theorem Y3 (k n t:List (BitVec 8))(a:k.length=32)(b:n.length=12):gS k n (gS k n t)=t:=by
 have c:=BK k n t a b;have d:=yf _ (qU k n a b) ((t.length+15)/16);have e:gS k n (gS k n t)=bj (gS k n t) (iv (gE k n) ((t.length+15)/16)):=by
  rw[<-c];rfl
 rw[e];exact KZ t _ aa
theorem JU {a b:List (BitVec 8)}(h:b.length=16):(a++b).take ((a++b).length-16)=a:=by
 rw[aE,show a.length+b.length-16=a.length by omega];exact ja rfl
theorem ae6 {a b:List (BitVec 8)}(h:b.length=16):(a++b).drop ((a++b).length-16)=b:=by
 rw[aE,show a.length+b.length-16=a.length by omega];exact kg rfl
theorem Lc {k c m t:List (BitVec 8)}(b:k.length=32)(hc:c.length=12)(h:m.length<=2000)(i:t.length<=2000):(dP k c m t).2=0/\(dP k c m t).1.length=t.length+16/\lQ k c m (dP k c m t).1=(t,0):=by
 have h0:jR k c m t 2000=0:=by
  unfold jR;rw[if_pos b,if_pos hc,if_neg aa,if_neg aa]
 have d:∀ m,(fh k c m).length=64:=fun m=>we k c m b hc
 have f:=AE (fh k c) d 1#32 t;have g:=aaj (fh k c) d 1#32 t;unfold dP;rw[if_pos h0];generalize xored (fh k c) 1#32 t=x at*;have e:(gA k c m x).length=16:=vJ _ _;have a:(x++gA k c m x).length=t.length+16:=by rw[aE,f,e]
 refine⟨rfl,a,?_⟩;have h1:jR k c m (x++gA k c m x) 2016=0:=by
  unfold jR;rw[if_pos b,if_pos hc,if_neg aa,if_neg (by rw[a];omega)]
 unfold lQ;rw[if_pos h1,if_neg (by show ¬ (x++gA k c m x).length<16;rw[a];omega)];show(if(x++gA k c m x).take ((x++gA k c m x).length-16)++gA k c m ((x++gA k c m x).take ((x++gA k c m x).length-16))=x++gA k c m x then(xored (fh k c) 1#32 ((x++gA k c m x).take ((x++gA k c m x).length-16)),(0:Int)) else([],6))=_;rw[JU e,if_pos rfl,g]
theorem Y7 {k n l t:List (BitVec 8)}(b:k.length=32)(c:n.length=12)(g:l.length<=2000)(h:t.length<=2000):(mT k n l t).2=0/\(mT k n l t).1.length=t.length+16/\oa k n l (mT k n l t).1=(t,0):=by
 have h0:cX k n l t 2000=0:=by
  unfold cX;rw[if_neg aa,if_neg aa]
 have d:=BK k n t b c;have f:=Y3 k n t b c;unfold mT;rw[if_pos h0];generalize gS k n t=x at*;have e:(gT k n l x).length=16:=Cd k n l x b c;have a:(x++gT k n l x).length=t.length+16:=by rw[aE,d,e]
 refine⟨rfl,a,?_⟩;have h1:cX k n l (x++gT k n l x) 2016=0:=by
  unfold cX;rw[if_neg aa,if_neg (by rw[a];omega)]
 unfold oa;rw[if_pos h1,if_neg (by show ¬ (x++gT k n l x).length<16;rw[a];omega)];show(if gT k n l ((x++gT k n l x).take ((x++gT k n l x).length-16))=(x++gT k n l x).drop ((x++gT k n l x).length-16) then(gS k n ((x++gT k n l x).take ((x++gT k n l x).length-16)),(0:Int)) else([],6))=_;rw[JU e,ae6 e,if_pos rfl,f]
end Go.Vm
end
section
namespace Go.Vm
open Go.Proofs Go.Proofs.Tryz
section
open Classical in
noncomputable def fD (x:Int) (s:List ai):List ai:=if h:∃ o:List ai,aG prog 172 [.i64 x,.str s] (.tup [.str o,.i64 0])/\o.length=32 then h.choose else[]
theorem qI {x:Int}(a:x=1\/x=2)(s:List ai)(b:s.length<=1099511627776):aG prog 172 [.i64 x,.str s] (.tup [.str (fD x s),.i64 0])/\(fD x s).length=32:=by
 obtain⟨_,h1,o,c,rfl⟩:=P6 x a s b;have h:∃ o:List ai,aG prog 172 [.i64 x,.str s] (.tup [.str o,.i64 0])/\o.length=32:=⟨o,h1,c⟩;unfold fD;rw[dif_pos h];exact h.choose_spec
def Dr (x:Int)(key s:List ai)(n:Nat)(os:List (List ai)):Prop:=aq prog 25 [.i64 x,.str key,.str s,.i64 n] [] (.tup [.slice 0 0 n 1,.i64 0]) [bK (os.map .str)]/\os.length=n/\∀ o∈os,o.length=32
open Classical in
noncomputable def tP (x:Int) (key s:List ai) (n:Nat):List (List ai):=if h:∃ os,Dr x key s n os then h.choose else[]
theorem yw {x:Int}(e:x=1\/x=2)(key s:List ai)(a:key.length<=1099511627776)(f:s.length<=549755813888){n:Nat}(g:0<n)(b:n<=3):Dr x key s n (tP x key s n):=by
 obtain⟨_,_,i,rfl,os,c,d,rfl⟩:=Mf x e key s a f n g b;have h:∃ os,Dr x key s n os:=⟨os,i,c,d⟩;unfold tP;rw[dif_pos h];exact h.choose_spec
noncomputable def d2 (x:Int) (c t:List ai) (i:Nat):List ai:=(tP x c t 2).getD i []
noncomputable def d3 (x:Int) (c t:List ai) (i:Nat):List ai:=(tP x c t 3).getD i []
theorem z8 {x:Int}(d:x=1\/x=2)(c t:List ai)(hc:c.length<=1099511627776)(f:t.length<=549755813888):aq prog 25 [.i64 x,.str c,.str t,.i64 2] [] (.tup [.slice 0 0 2 1,.i64 0]) [bK [.str (d2 x c t 0),.str (d2 x c t 1)]]/\(d2 x c t 0).length=32/\(d2 x c t 1).length=32:=by
 obtain⟨h1,h2,g⟩:=yw d c t hc f (n:=2) ah ah;unfold d2;obtain⟨a,b,e,h,i⟩:=two h2 g;rw[e] at h1 |-
 exact⟨h1,h,i⟩
theorem FN {x:Int}(f:x=1\/x=2)(c t:List ai)(hc:c.length<=1099511627776)(g:t.length<=549755813888):aq prog 25 [.i64 x,.str c,.str t,.i64 3] [] (.tup [.slice 0 0 3 1,.i64 0]) [bK [.str (d3 x c t 0),.str (d3 x c t 1),.str (d3 x c t 2)]]/\(d3 x c t 0).length=32/\(d3 x c t 1).length=32/\(d3 x c t 2).length=32:=by
 obtain⟨h1,h2,h⟩:=yw f c t hc g (n:=3) ah ah;unfold d3;obtain⟨a,b,d,e,i,j,k⟩:=three h2 h;rw[e] at h1 |-
 exact⟨h1,i,j,k⟩
def mY (x:Int):V:= .iface (if x=1 then 261 else 262) (.agg [])
def cq (x:Int)(h c k:List ai)(n:BitVec 64):List V:=cr (mY x) h c k n
theorem zf {x:Int}(a:x=1∨x=2):∃ t f,mY x= .iface t (.agg [])∧fU prog t "souterrain/noise.kind"=some f∧aG prog f [.agg []] (.i64 x):=by
 rcases a with rfl|rfl
 ·exact⟨261,_,rfl,RT,afp⟩
 ·exact⟨262,_,rfl,Ti,aal⟩
theorem CS {x:Int}(a:x=1∨x=2):∃ t f,mY x= .iface t (.agg [])∧fU prog t "souterrain/noise.nonce"=some f∧∀ n,aG prog f [.agg [],.u64 n] (.str (cA x n)):=by
 rcases a with rfl|rfl
 ·exact⟨261,_,rfl,adY,ac1⟩
 ·exact⟨262,_,rfl,Mh,V6⟩
theorem xN (x:Int)(n:BitVec 64):(cA x n).length=12:=by
 unfold cA;split
 ·rw[aE,bT];rfl
 ·rw[aE,cF];rfl
theorem aaE (x:Int)(n:Nat):(mY x).low n=True:=by simp[mY,V.low,af]
theorem Ok (x:Int)(m:Nat)(h c k:List ai)(n:BitVec 64):af m (cq x h c k n)=True:=by simp[cq,cr,af,V.low,aaE]
theorem xT {x:Int}(a:x=1\/x=2)(h c k:List ai)(n:BitVec 64)(j:h.length=32)(t:List ai)(l:t.length<=549755813888):aq prog 156 [.ptr 0 0,.str t] [bK (cq x h c k n)] (.tup []) [bK (cq x (fD x (h++t)) c k n)]:=by
 obtain⟨ty,f,e,b,d⟩:=zf a;have g:=(qI a (h++t) (by simp;omega)).1;generalize fD x (h++t)=z at*;have :∃ v h',aq prog 156 [.ptr 0 0,.str t] [bK (cq x h c k n)] v h'/\(v= .tup []/\h'=[bK (cq x z c k n)]):=by
  unfold cq;rw[e];refine fP (Post:=fun v h'=>v= .tup []/\h'=[bK (cr (.iface ty (.agg [])) z c k n)]) ac (fn:=f156) func156 rfl am (ak ?_);simp -implicitDefEqProofs only[go_sem,seval,cr,oP b];repeat refine aJ ?_
  refine aX (d) ?_;simp -implicitDefEqProofs only[go_sem,seval];repeat refine aJ ?_
  refine aX (g) ?_;simp -implicitDefEqProofs only[go_sem,seval];repeat refine aJ ?_
  refine⟨_,_,?_,Fin.take 1 ae ae (by simp[eL,af,V.low,-List.map_take,-List.map_drop,-List.map_map,-List.map_set]) (by simp[bD,af,V.low,-List.map_take,-List.map_drop,-List.map_map,-List.map_set])⟩;exact⟨rfl,rfl⟩
 obtain⟨_,_,i,rfl,rfl⟩:=this;exact i
theorem Ua {x:Int}(d:x=1\/x=2)(h c k:List ai)(n:BitVec 64)(hc:c.length=32)(t:List ai)(g:t.length<=549755813888):aq prog 157 [.ptr 0 0,.str t] [bK (cq x h c k n)] (.tup []) [bK (cq x h (d2 x c t 0) (d2 x c t 1) 0#64)]:=by
 obtain⟨ty,f,e,i,j⟩:=zf d;have l:=(z8 d c t aa g).1;generalize d2 x c t 0=a at*;generalize d2 x c t 1=b at*;have :∃ v h',aq prog 157 [.ptr 0 0,.str t] [bK (cq x h c k n)] v h'/\(v= .tup []/\h'=[bK (cq x h a b 0#64)]):=by
  unfold cq;rw[e];refine fP (Post:=fun v h'=>v= .tup []/\h'=[bK (cr (.iface ty (.agg [])) h a b 0#64)]) ac (fn:=f157) func157 rfl am (ak ?_);simp -implicitDefEqProofs only[go_sem,seval,cr,oP i];repeat refine aJ ?_
  refine aX (j) ?_;simp -implicitDefEqProofs only[go_sem,seval];refine iq [] (l) ac ae rfl ae aM ae ae ae ae ae ?_;simp -implicitDefEqProofs only[go_sem,seval];repeat refine aJ ?_
  refine⟨_,_,?_,Fin.take 1 ae ae (by simp[eL,af,V.low,-List.map_take,-List.map_drop,-List.map_map,-List.map_set]) (by simp[bD,af,V.low,-List.map_take,-List.map_drop,-List.map_map,-List.map_set])⟩;exact⟨rfl,rfl⟩
 obtain⟨_,_,m,rfl,rfl⟩:=this;exact m
theorem YB {x:Int}(hx:x=1\/x=2)(h c k:List ai)(n:BitVec 64)(hh:h.length=32)(hc:c.length=32)(t:List ai)(ht:t.length<=549755813888):aq prog 144 [.ptr 0 0,.str t] [bK (cq x h c k n)] (.tup []) [bK (cq x (fD x (h++d3 x c t 1)) (d3 x c t 0) (d3 x c t 2) 0#64)]:=by
 obtain⟨ty,f,e,hm,hk⟩:=zf hx;obtain⟨hd,-,hb,-⟩:=FN hx c t aa ht;have hmix:=xT hx h c k n hh (d3 x c t 1) aa;generalize d3 x c t 0=a at*;generalize d3 x c t 1=b at*;generalize d3 x c t 2=d at*;generalize fD x (h++b)=z at*;have :∃ v h',aq prog 144 [.ptr 0 0,.str t] [bK (cq x h c k n)] v h'/\(v= .tup []/\h'=[bK (cq x z a d 0#64)]):=by
  unfold cq at*;rw[e] at*;refine fP (Post:=fun v h'=>v= .tup []/\h'=[bK (cr (.iface ty (.agg [])) z a d 0#64)]) ac (fn:=f144) func144 rfl am (ak ?_);simp -implicitDefEqProofs only[go_sem,seval,cr,oP hm];repeat refine aJ ?_
  refine aX (hk) ?_;simp -implicitDefEqProofs only[go_sem,seval];refine iq [] (hd) ac ae rfl ae aM ae ae ae ae ae ?_;simp -implicitDefEqProofs only[go_sem,seval];repeat refine aJ ?_
  refine aS [0] (hmix) ac ae rfl (by simp[cr]) aM ae ae (by simp[cr]) (by simp[cr]) ae ?_;simp -implicitDefEqProofs only[go_sem,seval,cr];repeat refine aJ ?_
  refine⟨_,_,?_,Fin.take 1 ae ae (by simp[eL,af,V.low,-List.map_take,-List.map_drop,-List.map_map,-List.map_set]) (by simp[bD,af,V.low,-List.map_take,-List.map_drop,-List.map_map,-List.map_set])⟩;exact⟨rfl,rfl⟩
 obtain⟨_,_,hs,rfl,rfl⟩:=this;exact hs
theorem acb {x:Int}(d:x=1\/x=2)(h c k:List ai)(n:BitVec 64)(hc:c.length=32):aq prog 145 [.ptr 0 0] [bK (cq x h c k n)] (.tup [.str (d2 x c [] 0),.str (d2 x c [] 1)]) [bK (cq x h c k n)]:=by
 obtain⟨ty,f,e,g,i⟩:=zf d;have j:=(z8 d c [] aa ae).1;generalize d2 x c [] 0=a at*;generalize d2 x c [] 1=b at*;have :∃ v h',aq prog 145 [.ptr 0 0] [bK (cq x h c k n)] v h'/\(v= .tup [.str a,.str b]/\h'=[bK (cq x h c k n)]):=by
  unfold cq;rw[e];refine fP (Post:=fun v h'=>v= .tup [.str a,.str b]/\h'=[bK (cr (.iface ty (.agg [])) h c k n)]) ac (fn:=f145) func145 rfl am (ak ?_);simp -implicitDefEqProofs only[go_sem,seval,cr,oP g];repeat refine aJ ?_
  refine aX (i) ?_;simp -implicitDefEqProofs only[go_sem,seval];refine iq [] (j) ac ae rfl ae aM ae ae ae ae ae ?_;simp -implicitDefEqProofs only[go_sem,seval];repeat refine aJ ?_
  refine⟨_,_,?_,Fin.take 1 ae ae (by simp[af,V.low,-List.map_take,-List.map_drop,-List.map_map,-List.map_set]) (by simp[bD,af,V.low,-List.map_take,-List.map_drop,-List.map_map,-List.map_set])⟩;exact⟨rfl,rfl⟩
 obtain⟨_,_,l,rfl,rfl⟩:=this;exact l
end
def ij (x:Int)(k c m t:List ai):List ai×Int:=if x=1 then dP k c m t else mT k c m t
def iG (x:Int)(k c m t:List ai):List ai×Int:=if x=1 then lQ k c m t else oa k c m t
theorem vX {x:Int}{k c m t:List ai}(a:k.length=32)(hc:c.length=12)(b:m.length<=2000)(d:t.length<=2000):(ij x k c m t).2=0/\(ij x k c m t).1.length=t.length+16/\iG x k c m (ij x k c m t).1=(t,0):=by
 unfold ij iG;by_cases h:x=1
 ·rw[if_pos h,if_pos h];exact Lc a hc b d
 ·rw[if_neg h,if_neg h];exact Y7 a hc b d
def BH (e:String)(B:Int->List ai->List ai->List ai->List ai->List ai×Int):Prop:=∀ x,x=1\/x=2->∃ t f,mY x= .iface t (.agg [])/\fU prog t e=some f/\∀ k c m y,aG prog f [.agg [],.str k,.str c,.str m,.str y] (.tup [.str (B x k c m y).1,.i64 (B x k c m y).2])
theorem Fz:BH "souterrain/noise.seal" ij:=fun x a=>by
 rcases a with rfl|rfl
 ·exact⟨261,_,rfl,agw,TZ⟩
 ·exact⟨262,_,rfl,UH,acu⟩
theorem Kt:BH "souterrain/noise.open" iG:=fun x a=>by
 rcases a with rfl|rfl
 ·exact⟨261,_,rfl,abO,X1⟩
 ·exact⟨262,_,rfl,adC,aho⟩
theorem Gt {d:String}{B:Int->List ai->List ai->List ai->List ai->List ai×Int}(p:BH d B){x:Int}(m:x=1\/x=2)(h c k:List ai)(n:BitVec 64)(g:k≠[])(t o:List ai)(q:B x k (cA x n) h t=(o,0)):
  aq prog 174 [.ptr 0 0,.str t,.aFn d (if x=1 then 261 else 262) (.agg [])] [bK (cq x h c k n)] (.tup [.str o,.i64 0]) [bK (cq x h c k (n+1#64))]:=by
 obtain⟨ty,f,e,r,s⟩:=CS m;obtain⟨i,f2,a,j,l⟩:=p x m;have b:=l k (cA x n) h t;rw[q] at b;have u:=s n;have w:(if x=1 then 261 else 262)=i:=by have :=a;unfold mY at this;injection this
 rw[e] at a;injection a with a _
 rw[w];subst a;generalize cA x n=z at*;have :∃ v h',aq prog 174 [.ptr 0 0,.str t,.aFn d ty (.agg [])] [bK (cq x h c k n)] v h'/\(v= .tup [.str o,.i64 0]/\h'=[bK (cq x h c k (n+1#64))]):=by
  unfold cq;rw[e];refine fP (Post:=fun v h'=>v= .tup [.str o,.i64 0]/\h'=[bK (cr (.iface ty (.agg [])) h c k (n+1#64))]) ac (fn:=f174) func174 rfl am (ak ?_);simp -implicitDefEqProofs only[go_sem,seval,cr,g,oP r];repeat refine aJ ?_
  refine aX (u) ?_;simp -implicitDefEqProofs only[go_sem,seval];repeat refine aJ ?_
  refine RJ j b ?_;simp -implicitDefEqProofs only[go_sem,seval];repeat refine aJ ?_
  refine⟨_,_,?_,Fin.take 1 ae ae (by simp[af,V.low,-List.map_take,-List.map_drop,-List.map_map,-List.map_set]) (by simp[bD,af,V.low,-List.map_take,-List.map_drop,-List.map_map,-List.map_set])⟩;exact⟨rfl,rfl⟩
 obtain⟨_,_,y,rfl,rfl⟩:=this;exact y
theorem acM {x:Int}(hx:x=1\/x=2)(h c k:List ai)(n:BitVec 64)(hh:h.length=32)(hk:k.length=32)(t:List ai)(ht:t.length<=2000):
  aq prog 159 [.ptr 0 0,.str t] [bK (cq x h c k n)] (.tup [.str (ij x k (cA x n) h t).1,.i64 0]) [bK (cq x (fD x (h++(ij x k (cA x n) h t).1)) c k (n+1#64))]:=by
 obtain⟨b1,b2,-⟩:=vX (x:=x) (k:=k) (c:=cA x n) (m:=h) (t:=t) hk (xN x n) aa ht;have hth:=Gt Fz hx h c k n (fun e=>by rw[e] at hk;cases hk) t (ij x k (cA x n) h t).1 (by rw[<-b1]);generalize (ij x k (cA x n) h t).1=o at*;have hmix:=xT hx h c k (n+1#64) hh o aa;generalize fD x (h++o)=z at*;have e:mY x= .iface (if x=1 then 261 else 262) (.agg []):=rfl;have :∃ v h',aq prog 159 [.ptr 0 0,.str t] [bK (cq x h c k n)] v h'/\(v= .tup [.str o,.i64 0]/\h'=[bK (cq x z c k (n+1#64))]):=by
  unfold cq at*;rw[e] at hth hmix |-
  clear e;generalize (if x=1 then 261 else 262)=ty at*;refine fP (Post:=fun v h'=>v= .tup [.str o,.i64 0]/\h'=[bK (cr (.iface ty (.agg [])) z c k (n+1#64))]) ac (fn:=f159) func159 rfl am (ak ?_);simp -implicitDefEqProofs only[go_sem,seval,cr,ya];repeat refine aJ ?_
  refine aS [0] (hth) ac ae rfl (by simp[cr]) aM ae ae (by simp[cr]) (by simp[cr]) ae ?_;simp -implicitDefEqProofs only[go_sem,seval,cr];repeat refine aJ ?_
  refine aS [0] (hmix) ac ae rfl (by simp[cr]) aM ae ae (by simp[cr]) (by simp[cr]) ae ?_;simp -implicitDefEqProofs only[go_sem,seval,cr];refine⟨_,_,?_,Fin.take 1 ae ae (by simp[af,V.low,-List.map_take,-List.map_drop,-List.map_map,-List.map_set]) (by simp[bD,af,V.low,-List.map_take,-List.map_drop,-List.map_map,-List.map_set])⟩;exact⟨rfl,rfl⟩
 obtain⟨_,_,hs,rfl,rfl⟩:=this;exact hs
theorem Xm {x:Int}(hx:x=1\/x=2)(h c k:List ai)(n:BitVec 64)(hh:h.length=32)(hk:k.length=32)(t o:List ai)(ho:iG x k (cA x n) h t=(o,0))(ht:t.length<=10000):
  aq prog 162 [.ptr 0 0,.str t] [bK (cq x h c k n)] (.tup [.str o,.i64 0]) [bK (cq x (fD x (h++t)) c k (n+1#64))]:=by
 have hth:=Gt Kt hx h c k n (fun e=>by rw[e] at hk;cases hk) t o ho;have hmix:=xT hx h c k (n+1#64) hh t aa;generalize fD x (h++t)=z at*;have e:mY x= .iface (if x=1 then 261 else 262) (.agg []):=rfl;have :∃ v h',aq prog 162 [.ptr 0 0,.str t] [bK (cq x h c k n)] v h'/\(v= .tup [.str o,.i64 0]/\h'=[bK (cq x z c k (n+1#64))]):=by
  unfold cq at*;rw[e] at hth hmix |-
  clear e;generalize (if x=1 then 261 else 262)=ty at*;refine fP (Post:=fun v h'=>v= .tup [.str o,.i64 0]/\h'=[bK (cr (.iface ty (.agg [])) z c k (n+1#64))]) ac (fn:=f162) func162 rfl am (ak ?_);simp -implicitDefEqProofs only[go_sem,seval,cr,ya];repeat refine aJ ?_
  refine aS [0] (hth) ac ae rfl (by simp[cr]) aM ae ae (by simp[cr]) (by simp[cr]) ae ?_;simp -implicitDefEqProofs only[go_sem,seval,cr];repeat refine aJ ?_
  refine aS [0] (hmix) ac ae rfl (by simp[cr]) aM ae ae (by simp[cr]) (by simp[cr]) ae ?_;simp -implicitDefEqProofs only[go_sem,seval,cr];refine⟨_,_,?_,Fin.take 1 ae ae (by simp[af,V.low,-List.map_take,-List.map_drop,-List.map_map,-List.map_set]) (by simp[bD,af,V.low,-List.map_take,-List.map_drop,-List.map_map,-List.map_set])⟩;exact⟨rfl,rfl⟩
 obtain⟨_,_,hs,rfl,rfl⟩:=this;exact hs
theorem D7 {x:Int}(a:x=1\/x=2):aG prog 118 [.i64 x] (mY x):=by
 rcases a with rfl|rfl
 ·exact aaf
 ·exact R4
section
def D0 (x:Int)(h0:List ai):Prop:=h0.length=32/\∀ t:List ai,t.length<=549755813888->aq prog 155 [.i64 x,.str t] [] (.tup [.ptr 0 0,.i64 0]) [bK (cq x (fD x (h0++t)) h0 [] 0#64)]
theorem YR {x:Int}(f:x=1\/x=2):∃ h0,D0 x h0:=by
 have b:=D7 f;obtain⟨s,d⟩:∃ s:List ai,s=bytesOf ⟨#[115,111,117,116,101,114,114,97,105,110,32]⟩++[BitVec.ofInt 8 (ao (48+x))]:=⟨_,rfl⟩;have g:s.length=12:=by rw[d];rfl
 obtain⟨h,c⟩:=qI f s aa;refine⟨fD x s,c,fun t i=>?_⟩;generalize fD x s=o at*;have a:=xT f o o [] 0#64 c t i;generalize fD x (o++t)=z at*;have e:mY x= .iface (if x=1 then 261 else 262) (.agg []):=rfl;have :∃ v h',aq prog 155 [.i64 x,.str t] [] v h'/\(v= .tup [.ptr 0 0,.i64 0]/\h'=[bK (cq x z o [] 0#64)]):=by
  unfold cq at*;rw[e] at a b |-
  clear e;generalize (if x=1 then 261 else 262)=ty at*;refine fP (Post:=fun v h'=>v= .tup [.ptr 0 0,.i64 0]/\h'=[bK (cr (.iface ty (.agg [])) z o [] 0#64)]) ac (fn:=f155) func155 rfl am (ak ?_);simp -implicitDefEqProofs only[go_sem,seval];refine au (b) ?_;simp -implicitDefEqProofs only[go_sem,seval,vM];repeat refine aJ ?_
  rw[<-d];refine au (h) ?_;simp -implicitDefEqProofs only[go_sem,seval];repeat refine aJ ?_
  refine aS [1] (a) ac ae rfl (by simp[cr]) aM ae ae (by simp[cr]) (by simp[cr]) ae ?_;simp -implicitDefEqProofs only[go_sem,seval,cr];refine⟨_,_,⟨rfl,rfl⟩,?_⟩;exact Fin.ren [1] ae ae aZ ah ae ae
 obtain⟨_,_,d,rfl,rfl⟩:=this;exact d
open Classical in
noncomputable def ke (x:Int):List ai:=if h:∃ h0,D0 x h0 then h.choose else[]
theorem GG {x:Int}(a:x=1\/x=2):D0 x (ke x):=by
 have h:=YR a;unfold ke;rw[dif_pos h];exact h.choose_spec
theorem Yj {x:Int}(d:x=1\/x=2)(k m t:List ai)(n:BitVec 64):aG prog 89 [.i64 x,.str k,.u64 n,.str m,.str t] (.tup [.str (ij x k (cA x n) m t).1,.i64 (ij x k (cA x n) m t).2]):=by
 have a:=D7 d;obtain⟨ty,f,e,i,j⟩:=CS d;obtain⟨l,f2,c,b,g⟩:=Fz x d;rw[e] at c;injection c with c _
 subst c;have p:=j n;have q:=g k (cA x n) m t;rw[e] at a;generalize cA x n=h at*;generalize (ij x k h m t).1=o at*;generalize (ij x k h m t).2=r at*;refine aQ ac (fn:=f89) ac func89 rfl am (by simp[af,V.low]) (by simp[af,V.low]) (ak ?_);simp -implicitDefEqProofs only[go_sem,seval,ntmps89];refine au a ?_;simp -implicitDefEqProofs only[go_sem,seval,vM,oP i];repeat refine aJ ?_
 refine aX (p) ?_;simp -implicitDefEqProofs only[go_sem,seval,ya,b,vw,oP b];repeat refine aJ ?_
 refine aX (q) ?_;simp -implicitDefEqProofs only[go_sem,seval];first|kernel_rfl|exact⟨ac,rfl⟩|exact⟨ac,ac⟩
theorem Jx {x:Int}(d:x=1\/x=2)(k m t:List ai)(n:BitVec 64):aG prog 167 [.i64 x,.str k,.u64 n,.str m,.str t] (.tup [.str (iG x k (cA x n) m t).1,.i64 (iG x k (cA x n) m t).2]):=by
 have a:=D7 d;obtain⟨ty,f,e,i,j⟩:=CS d;obtain⟨l,f2,c,b,g⟩:=Kt x d;rw[e] at c;injection c with c _
 subst c;have p:=j n;have q:=g k (cA x n) m t;rw[e] at a;generalize cA x n=h at*;generalize (iG x k h m t).1=o at*;generalize (iG x k h m t).2=r at*;refine aQ ac (fn:=f167) ac func167 rfl am (by simp[af,V.low]) (by simp[af,V.low]) (ak ?_);simp -implicitDefEqProofs only[go_sem,seval,ntmps167];refine au a ?_;simp -implicitDefEqProofs only[go_sem,seval,vM,oP i];repeat refine aJ ?_
 refine aX (p) ?_;simp -implicitDefEqProofs only[go_sem,seval,ya,b,vw,oP b];repeat refine aJ ?_
 refine aX (q) ?_;simp -implicitDefEqProofs only[go_sem,seval];first|kernel_rfl|exact⟨ac,rfl⟩|exact⟨ac,ac⟩
end
def lj (c:BitVec 8)(s:List (BitVec 8)):List (BitVec 8):=s.dropWhile (· ==c)
def lJ (c:BitVec 8)(s:List (BitVec 8)):List (BitVec 8):=(s.reverse.dropWhile (· ==c)).reverse
theorem R5 (c y:BitVec 8)(r:List (BitVec 8)):lJ c (r++[y])=if y=c then lJ c r else r++[y]:=by
 unfold lJ;rw[List.reverse_append,List.reverse_singleton,List.singleton_append,xC];by_cases h:y=c
 ·rw[if_pos h,if_pos (by simp[h])]
 ·rw[if_neg h,if_neg (by simp[h]),List.reverse_cons,List.reverse_reverse]
theorem Xb (s:List (BitVec 8))(c:BitVec 8):aG prog 179 [.str s,.u8 c] (.str (lj c s)):=by
 refine aQ ac (fn:=f179) ac func179 rfl am (by simp[af,V.low]) (by simp[V.low]) (ak ?_);simp only[go_sem,seval,ntmps179];refine bq (fun j st=>∃ x:List (BitVec 8),x.length=j/\lj c x=lj c s/\st=⟨[(0,.str x),(1,.u8 c)],[]⟩) ?_ ?_
 ·exact bJ s.length ⟨[(0,.str s),(1,.u8 c)],[]⟩ (by simp[St.get,aj]) rfl (fun _ _ h=>h) ⟨s,rfl,rfl,rfl⟩
 rintro j st ⟨x,e,d,rfl⟩ _;cases x with
 |nil=>
  rw[<-d,show lj c []=[] from rfl];simp only[go_sem,seval]
 |cons y r=>
  have h0:((0:Int)<((r.length+1:Nat):Int))=True:=eq_true aa;have h1:(1:Int)<=((r.length+1:Nat):Int):=aa;by_cases b:y=c
  ·have hc:lj c (y::r)=lj c r:=by unfold lj;rw[xC,if_pos (by simp[b])]
   have a:(y=c)=True:=eq_true b;simp only[go_sem,seval,h0,a,h1];rw[ce] at e;exact bx (j-1) ⟨[(0,.str r),(1,.u8 c)],[]⟩ aa (by simp[St.get,aj]) rfl (fun _ _ h=>h) ⟨r,aa,hc▸d,rfl⟩
  ·have hc:lj c (y::r)=y::r:=by unfold lj;rw[xC,if_neg (by simp[b])]
   rw[<-d,hc];have a:(y=c)=False:=eq_false b;simp only[go_sem,seval,h0,a]
theorem aeb (s:List (BitVec 8))(c:BitVec 8)(o:s.length<=140737488355328):aG prog 180 [.str s,.u8 c] (.str (lJ c s)):=by
 refine aQ ac (fn:=f180) ac func180 rfl am (by simp[af,V.low]) (by simp[V.low]) (ak ?_);simp only[go_sem,Nat.reduceLT,ntmps180];refine bq (fun j st=>∃ x:List (BitVec 8),x.length=j/\x.length<=s.length/\lJ c x=lJ c s/\st=⟨[(0,.str x),(1,.u8 c)],[]⟩) ?_ ?_
 ·exact bJ s.length ⟨[(0,.str s),(1,.u8 c)],[]⟩ (by simp[St.get,aj]) rfl (fun _ _ h=>h) ⟨s,rfl,aH _,rfl,rfl⟩
 rintro j st ⟨x,p,n,b,rfl⟩ _;rcases List.eq_nil_or_concat x with rfl|⟨r,y,rfl⟩
 ·rw[<-b,show lJ c []=[] from rfl];simp only[go_sem,↓reduceIte,Nat.reduceEqDiff,Nat.reduceLT,Int.reduceLT,reduceCtorEq]
 ·rw[List.concat_eq_append] at*;have k:(r++[y]).length=r.length+1:=ae;have h0:((0:Int)<((r.length+1:Nat):Int))=True:=eq_true aa;have hw:ao (((r.length+1:Nat):Int)-1)=(r.length:Int):=by rw[az aa aa];omega
  have l:(0:Int)<=(r.length:Int):=aa;have d:(r.length:Int)<((r.length+1:Nat):Int):=aa;have f:(r.length:Int)<=((r.length+1:Nat):Int):=aa;have m:(r++[y]).getD r.length 0=y:=by
   rw[aW,dL (aH _),gf];rfl
  have g:(r++[y]).take r.length=r:=List.take_left;rw[R5] at b;by_cases e:y=c
  ·rw[if_pos e] at b;have a:(y=c)=True:=eq_true e;generalize i:r++[y]=x at*;simp only[go_sem,↓reduceIte,Nat.reduceEqDiff,Nat.reduceLT,Int.reduceToNat,reduceCtorEq,h0,a,k,hw,l,d,f,m,g];exact bx (j-1) ⟨[(0,.str r),(1,.u8 c)],[]⟩ aa (by simp[St.get,aj]) rfl (fun _ _ h=>h) ⟨r,aa,aa,b,rfl⟩
  ·rw[if_neg e] at b;rw[<-b];have a:(y=c)=False:=eq_false e;generalize i:r++[y]=x at*;simp only[go_sem,↓reduceIte,Nat.reduceEqDiff,Nat.reduceLT,reduceCtorEq,h0,a,k,hw,l,d,m]
theorem abb (s:List (BitVec 8))(a:s.length<=140737488355328):aG prog 173 [.str s,.str [0#8]] (.str (lj 0#8 (lJ 0#8 s))):=by
 by_cases h:s=[]
 ·subst h;rw[show lj 0#8 (lJ 0#8 [])=[] from rfl];refine aQ ac (fn:=f173) ac func173 rfl am (by simp[af,V.low]) (by simp[V.low]) (ak ?_);simp only[go_sem,seval,ntmps173,results173]
 ·have h':=eq_false h;refine aQ ac (fn:=f173) ac func173 rfl am (by simp[af,V.low]) (by simp[V.low]) (ak ?_);simp only[go_sem,seval,ntmps173,h'];refine aX (aeb s 0#8 a) ?_;simp only[go_sem,seval];refine aX (Xb (lJ 0#8 s) 0#8) ?_;simp only[go_sem,seval];kernel_rfl
theorem Sc (c:BitVec 8)(s:List (BitVec 8)):s.dropWhile (· ==c)=[]↔∀ x∈s,x=c:=by
 induction s with
 |nil=>simp
 |cons y r ih=>
  rw[xC];by_cases h:y=c
  ·rw[if_pos (by simp[h]),ih];simp[h]
  ·rw[if_neg (by simp[h])];simp[h]
theorem O4 (c:BitVec 8)(s:List (BitVec 8)):(∀ x∈s.dropWhile (· ==c),x=c)↔∀ x∈s,x=c:=by
 induction s with
 |nil=>simp
 |cons y r ih=>
  rw[xC];by_cases h:y=c
  ·rw[if_pos (by simp[h]),ih];simp[h]
  ·rw[if_neg (by simp[h])]
theorem Mk (c:BitVec 8)(s:List (BitVec 8)):lj c (lJ c s)=[]↔s=List.replicate s.length c:=by
 unfold lj;rw[Sc];have h1:(∀ x∈lJ c s,x=c)↔∀ x∈s,x=c:=by
  unfold lJ;simp only[List.mem_reverse];rw[O4];simp only[List.mem_reverse]
 rw[h1,List.eq_replicate_iff];simp
end Go.Vm
end
section
namespace Go.Vm
abbrev Pq:Nat:=57896044618658097711785492504343953926634992332820282019728792003956564819949
theorem pN (x:BitVec 64):(x&&&2251799813685247#64).toNat=x.toNat%2251799813685248:=by
 rw[nM,show(2251799813685247#64).toNat=2^51-1 from rfl,rb]
theorem Bg (x:BitVec 64):(x>>>51).toNat=x.toNat/2251799813685248:=by rw[oq,nT]
def aT:List (BitVec 64)->Nat
 |[]=>0
 |x::l=>x.toNat+2251799813685248*aT l
def dh (c:BitVec 64):List (BitVec 64)->List (BitVec 64)×BitVec 64
 |[]=>([],c)
 |x::l=>(((x+c)&&&2251799813685247#64)::(dh ((x+c)>>>51) l).1,(dh ((x+c)>>>51) l).2)
theorem xO (l:List (BitVec 64)):∀ c,(dh c l).1.length=l.length:=by
 induction l with
 |nil=>intro c;rfl
 |cons x l ih=>intro c;rw[dh,ce,ce,ih]
theorem VV (l:List (BitVec 64))(x:BitVec 64):∀ c,dh c (l++[x])=((dh c l).1++[(x+(dh c l).2)&&&2251799813685247#64],(x+(dh c l).2)>>>51):=by
 induction l with
 |nil=>intro c;rfl
 |cons y l ih=>intro c;rw[fO,dh,ih,dh];rfl
def dg (c:BitVec 64)(w:List (BitVec 64)):Nat->List (BitVec 64)×BitVec 64
 |0=>(w,c)
 |k+1=>((dg c w k).1.set k (((dg c w k).1.getD k 0+(dg c w k).2)&&&2251799813685247#64),((dg c w k).1.getD k 0+(dg c w k).2)>>>51)
theorem Jq (c:BitVec 64)(w:List (BitVec 64))(k:Nat):(dg c w k).1.length=w.length:=by
 induction k with
 |zero=>rfl
 |succ k ih=>rw[dg,aY,ih]
theorem afy (c:BitVec 64)(w:List (BitVec 64))(k:Nat)(f:k<=w.length):dg c w k=((dh c (w.take k)).1++w.drop k,(dh c (w.take k)).2):=by
 induction k with
 |zero=>rfl
 |succ k ih=>
  have a:k<w.length:=aa;have b:(dh c (w.take k)).1.length=k:=by rw[xO,br];omega
  have d:((dh c (w.take k)).1++w.drop k).getD k 0=w.getD k 0:=by
   rw[aW,dL aa,b,gf,il,iQ,<-aW]
  have e:w.take (k+1)=w.take k++[w.getD k 0]:=by
   rw[o7 a,aW,aF a];rfl
  rw[dg,ih aa];simp only;rw[d,e,VV,ou _ _ aa,b,gf,sO a,iI];simp
theorem Du (l:List (BitVec 64)):∀ c:BitVec 64,c.toNat<4611686018427387904->(∀ x∈l,x.toNat<9223372036854775808)->
  aT (dh c l).1+2251799813685248^l.length*(dh c l).2.toNat=aT l+c.toNat/\(∀ x∈(dh c l).1,x.toNat<2251799813685248)/\(l≠[]->(dh c l).2.toNat<8192):=by
 induction l with
 |nil=>intro c _ _;exact⟨by simp[dh,aT],by simp[dh],fun h=>absurd rfl h⟩
 |cons x l ih=>
  intro c hc b;have h0:=b x j8;have es:(x+c).toNat=x.toNat+c.toNat:=by rw[fk];omega
  have eq:((x+c)>>>51).toNat=(x.toNat+c.toNat)/2251799813685248:=by rw[Bg,es]
  have em:((x+c)&&&2251799813685247#64).toNat=(x.toNat+c.toNat)%2251799813685248:=by rw[pN,es]
  obtain⟨i1,i2,i3⟩:=ih ((x+c)>>>51) (by rw[eq];omega) (fun y a=>b y (gF _ a));rw[eq] at i1;refine⟨?_,?_,?_⟩
  ·rw[dh];show((x+c)&&&2251799813685247#64).toNat+2251799813685248*aT (dh ((x+c)>>>51) l).1+2251799813685248^(l.length+1)*(dh ((x+c)>>>51) l).2.toNat=x.toNat+2251799813685248*aT l+c.toNat;rw[em,iT,jv (2251799813685248^l.length) 2251799813685248,oM];omega
  ·rw[dh];intro y a;rcases cQ.1 a with rfl|a
   ·rw[em];omega
   ·exact i2 y a
  ·intro _;rw[dh];cases l with
   |nil=>show((x+c)>>>51).toNat<8192;rw[eq];omega
   |cons y l=>exact i3 ae
theorem vS:∀ (l:List (BitVec 64)),(∀ x∈l,x.toNat<2251799813685248)->aT l<2251799813685248^l.length
 |[],_=>Nat.one_pos
 |x::l,h=>by
  have h0:=h x j8;have ih:=vS l fun y a=>h y (gF _ a)
  rw[ce,iT];show x.toNat+2251799813685248*aT l<_;omega
theorem five {α:Type}(l:List α)(h:l.length=5):∃ a b c d e:α,l=[a,b,c,d,e]:=by
 match l,h with
 |[a,b,c,d,e],_=>exact⟨a,b,c,d,e,rfl⟩
theorem qV:(2251799813685248:Nat)^5=57896044618658097711785492504343953926634992332820282019728792003956564819968:=ah
def cy (w:List (BitVec 64)):List (BitVec 64):=(dg 0#64 w 5).1.set 0 ((dg 0#64 w 5).1.getD 0 0+19#64*(dg 0#64 w 5).2)
theorem GZ (w:List (BitVec 64)):(cy w).length=w.length:=by unfold cy;rw[aY,Jq]
def cJ (w:List (BitVec 64)):Nat->List (BitVec 64)
 |0=>w
 |i+1=>cy (cJ w i)
theorem mN (w:List (BitVec 64))(i:Nat):(cJ w i).length=w.length:=by
 induction i with
 |zero=>rfl
 |succ i ih=>rw[cJ,GZ,ih]
def sm (l:List (BitVec 64)):Prop:=l.length=5/\∀ x∈l,x.toNat<2251799813947392
theorem uk (w:List (BitVec 64))(hw:w.length=5)(j:∀ x∈w,x.toNat<9223372036854775808):
  aT (cy w)=aT w%57896044618658097711785492504343953926634992332820282019728792003956564819968+19*(aT w/57896044618658097711785492504343953926634992332820282019728792003956564819968)/\sm (cy w)/\
  (aT w<57896044618658097711785492504343953926634992332820282019728792003956564819968->∀ x∈cy w,x.toNat<2251799813685248):=by
 have i:=afy 0#64 w 5 aa;rw[ar aa,gP aa,iw] at i;obtain⟨h1,h2,g⟩:=Du w 0#64 ah j;have g:=g (fun e=>by rw[e] at hw;simp at hw);have f:=xO w 0#64;have b:=GZ w;rw[hw] at h1 f b;have d:=vS _ h2;rw[f] at d;rw[qV] at d h1;rw[show(0#64).toNat=0 from rfl] at h1;unfold sm;rw[b];unfold cy;rw[i];simp only;generalize (dh 0#64 w).1=r at h1 h2 f d |-
 generalize (dh 0#64 w).2=c at h1 g |-
 cases r with
 |nil=>simp at f
 |cons y r=>
  have m:=h2 y j8;have h:(y+19#64*c).toNat=y.toNat+19*c.toNat:=by
   rw[fk,nH,show(19#64).toNat=19 from rfl];omega
  have k:aT ((y::r).set 0 (y+19#64*c))=aT (y::r)+19*c.toNat:=by
   rw[iI];show(y+19#64*c).toNat+2251799813685248*aT r=y.toNat+2251799813685248*aT r+19*c.toNat;rw[h];omega
  refine⟨?_,⟨trivial,?_⟩,fun l=>?_⟩
  ·show aT ((y::r).set 0 (y+19#64*c))=_;rw[k];omega
  ·intro x a;rw[iI] at a;rcases cQ.1 a with rfl|a
   ·show(y+19#64*c).toNat<_;omega
   ·have :=h2 x (gF _ a);omega
  ·intro x a;rw[iI] at a;rcases cQ.1 a with rfl|a
   ·show(y+19#64*c).toNat<_;omega
   ·exact h2 x (gF _ a)
theorem zY (w:List (BitVec 64))(hw:w.length=5)(a:∀ x∈w,x.toNat<9223372036854775808):(∃ q,aT w=aT (cJ w 2)+Pq*q)/\sm (cJ w 2):=by
 have b:=uk w hw a;have d:cJ w 1=cy w:=rfl;have p2:=uk (cy w) b.2.1.1 (fun x a=>by have :=b.2.1.2 x a;omega);have c:cJ w 2=cy (cy w):=rfl;rw[c];refine⟨⟨aT w/57896044618658097711785492504343953926634992332820282019728792003956564819968+aT (cy w)/57896044618658097711785492504343953926634992332820282019728792003956564819968,?_⟩,p2.2.1⟩;unfold Pq;omega
theorem WN (l:List (BitVec 64))(h:sm l):aT l<2*57896044618658097711785492504343953926634992332820282019728792003956564819968:=by
 obtain⟨h1,h2⟩:=h;obtain⟨a,b,c,d,e,rfl⟩:=five l h1;simp only[qj] at h2;obtain⟨f,g,p2,p3,i,_⟩:=h2;simp only[aT];omega
theorem Ah (l:List (BitVec 64))(h:sm l):∀ x∈l,x.toNat<9223372036854775808:=fun x a=>by have :=h.2 x a;omega
def oH (n:List (BitVec 64)):List (BitVec 64):=(dh 0#64 (n.set 0 (n.getD 0 0+19#64*(dh 19#64 n).2))).1
theorem Sp (n:List (BitVec 64))(h:sm n):aT (oH (cJ (cJ n 2) 2))=aT n%Pq/\(oH (cJ (cJ n 2) 2)).length=5/\∀ x∈oH (cJ (cJ n 2) 2),x.toNat<2251799813685248:=by
 have E:=WN n h;have m:=uk n h.1 (Ah n h);have p2:=uk (cy n) m.2.1.1 (Ah _ m.2.1);have p3:=uk (cy (cy n)) p2.2.1.1 (Ah _ p2.2.1);have o:=uk (cy (cy (cy n))) p3.2.1.1 (Ah _ p3.2.1);have e:cJ (cJ n 2) 2=cy (cy (cy (cy n))):=rfl;rw[e];have f:aT (cy (cy (cy n)))<57896044618658097711785492504343953926634992332820282019728792003956564819968:=aa;have B:∃ q,aT n=aT (cy (cy (cy (cy n))))+Pq*q:=⟨aT n/57896044618658097711785492504343953926634992332820282019728792003956564819968+aT (cy n)/57896044618658097711785492504343953926634992332820282019728792003956564819968+aT (cy (cy n))/57896044618658097711785492504343953926634992332820282019728792003956564819968+aT (cy (cy (cy n)))/57896044618658097711785492504343953926634992332820282019728792003956564819968,by unfold Pq;omega⟩;have j:=o.2.2 f;have i:=o.2.1.1;generalize cy (cy (cy (cy n)))=w at B j i;obtain⟨q,C⟩:=B;have p:=vS w j;rw[i,qV] at p;have g:aT n%Pq=aT w%Pq:=by rw[C,qQ]
 rw[g];clear g C m p2 p3 o E f e;obtain⟨D,F,r⟩:=Du w 19#64 ah (fun x G=>by have :=j x G;omega);have s:=vS _ F;rw[xO,i,qV] at s;rw[i,qV,show(19#64).toNat=19 from rfl] at D;have r:=r (fun e=>by rw[e] at i;simp at i);unfold oH;generalize (dh 19#64 w).2=c at D r |-
 obtain⟨a,b,x,d,y,rfl⟩:=five w i;have H:=j a j8;rw[iI,ov];have t:(a+19#64*c).toNat=a.toNat+19*c.toNat:=by
  rw[fk,nH,show(19#64).toNat=19 from rfl];omega
 have k:∀ z∈(a+19#64*c)::[b,x,d,y],z.toNat<9223372036854775808:=by
  intro z u;rcases cQ.1 u with rfl|u
  ·omega
  ·have :=j z (gF _ u);omega
 obtain⟨d1,d2,d3⟩:=Du ((a+19#64*c)::[b,x,d,y]) 0#64 ah k;have l:=vS _ d2;rw[xO] at l;rw[show((a+19#64*c)::[b,x,d,y]).length=5 from rfl,qV] at d1 l;rw[show(0#64).toNat=0 from rfl] at d1;have v:aT ((a+19#64*c)::[b,x,d,y])=aT [a,b,x,d,y]+19*c.toNat:=by
  show(a+19#64*c).toNat+2251799813685248*aT [b,x,d,y]=a.toNat+2251799813685248*aT [b,x,d,y]+19*c.toNat;rw[t];omega
 refine⟨?_,by rw[xO];rfl,d2⟩;rw[v] at d1;generalize aT [a,b,x,d,y]=V at*;generalize aT (dh 0#64 ((a+19#64*c)::[b,x,d,y])).1=W at*;unfold Pq;by_cases A:V<57896044618658097711785492504343953926634992332820282019728792003956564819949
 ·rw[gn A];omega
 ·rw[Nat.mod_eq_sub_mod aa,gn aa];omega
theorem Kp (s t:List (BitVec 8)):le (s++t)=le s+256^s.length*le t:=by
 induction s with
 |nil=>simp[le]
 |cons a s ih=>rw[fO,le,ih,le,ce,oU,km,oM];omega
theorem AT (p:List (BitVec 8))(k:Nat)(h:k<=p.length):le p=le (p.take k)+256^k*le (p.drop k):=by
 calc le p=le (p.take k++p.drop k):=by rw[wC]
  _=_:=by rw[Kp,br,iM h]
theorem qe (x y:BitVec 64)(k:Nat)(c:k<64)(h:x.toNat<2^k):(x|||y<<<k).toNat=x.toNat+2^k*(y.toNat%2^(64-k)):=by
 have e:y.toNat*2^k%2^64=2^k*(y.toNat%2^(64-k)):=by
  rw[show(2:Nat)^64=2^k*2^(64-k) by rw[<-qm];congr 1;omega,jv,Nat.mul_mod_mul_left]
 rw[ye,wY,uo,e,Nat.or_comm,<-BJ h,wN]
theorem qB (x:BitVec 64)(k:Nat):(x>>>k).toNat=x.toNat/2^k:=by rw[oq,nT]
def pi (a b c d:BitVec 64):List (BitVec 64):=[(a&&&2251799813685247#64)+19#64*(d>>>63),(a>>>51|||b<<<13)&&&2251799813685247#64,(b>>>38|||c<<<26)&&&2251799813685247#64,(c>>>25|||d<<<39)&&&2251799813685247#64,d>>>12&&&2251799813685247#64]
theorem adZ (a b c d:BitVec 64):(∃ q,a.toNat+18446744073709551616*b.toNat+340282366920938463463374607431768211456*c.toNat+6277101735386680763835789423207666416102355444464034512896*d.toNat=aT (pi a b c d)+Pq*q)/\(∀ x∈pi a b c d,x.toNat<9223372036854775808):=by
 have j:=a.isLt;have k:=b.isLt;have hc:=c.isLt;have l:=d.isLt;have i:((a&&&2251799813685247#64)+19#64*(d>>>63)).toNat=a.toNat%2251799813685248+19*(d.toNat/9223372036854775808):=by
  have h1:=pN a;have h2:=qB d 63;rw[fk,nH,h1,h2,show(19#64).toNat=19 from rfl];omega
 have e:((a>>>51|||b<<<13)&&&2251799813685247#64).toNat=(a.toNat/2251799813685248+8192*(b.toNat%2251799813685248))%2251799813685248:=by
  have h2:=qB a 51;rw[pN,qe _ _ 13 ah (by rw[h2];omega),h2]
 have f:((b>>>38|||c<<<26)&&&2251799813685247#64).toNat=(b.toNat/274877906944+67108864*(c.toNat%274877906944))%2251799813685248:=by
  have h2:=qB b 38;rw[pN,qe _ _ 26 ah (by rw[h2];omega),h2]
 have g:((c>>>25|||d<<<39)&&&2251799813685247#64).toNat=(c.toNat/33554432+549755813888*(d.toNat%33554432))%2251799813685248:=by
  have h2:=qB c 25;rw[pN,qe _ _ 39 ah (by rw[h2];omega),h2]
 have h:(d>>>12&&&2251799813685247#64).toNat=d.toNat/4096%2251799813685248:=by
  rw[pN,qB d 12]
 have f1:(a.toNat/2251799813685248+8192*(b.toNat%2251799813685248))%2251799813685248=a.toNat/2251799813685248+8192*(b.toNat%274877906944):=aa;have f2:(b.toNat/274877906944+67108864*(c.toNat%274877906944))%2251799813685248=b.toNat/274877906944+67108864*(c.toNat%33554432):=aa;have f3:(c.toNat/33554432+549755813888*(d.toNat%33554432))%2251799813685248=c.toNat/33554432+549755813888*(d.toNat%4096):=aa;have f4:d.toNat/4096%2251799813685248=d.toNat/4096-2251799813685248*(d.toNat/9223372036854775808):=aa;have f5:2251799813685248*(d.toNat/9223372036854775808)<=d.toNat/4096:=aa;rw[f1] at e;rw[f2] at f;rw[f3] at g;rw[f4] at h;unfold pi;refine⟨⟨d.toNat/9223372036854775808,?_⟩,?_⟩
 ·simp only[aT];rw[i,e,f,g,h];unfold Pq;omega
 ·simp only[qj,qJ,false_implies,implies_true,and_true];rw[i,e,f,g,h];omega
def cE (s:List (BitVec 8))(i:Nat):BitVec 64:=BitVec.ofNat 64 (le ((s.drop (8*i)).take 8))
theorem ZR (s:List (BitVec 8))(h:s.length=32):(cE s 0).toNat+18446744073709551616*(cE s 1).toNat+340282366920938463463374607431768211456*(cE s 2).toNat+6277101735386680763835789423207666416102355444464034512896*(cE s 3).toNat=le s:=by
 have b:∀ i,(cE s i).toNat=le ((s.drop (8*i)).take 8):=fun i=>by
  have :=xK ((s.drop (8*i)).take 8);have h2:256^((s.drop (8*i)).take 8).length<=256^8:=xB ah (by rw[br];omega);unfold cE;rw[cx,gn (mw this h2)]
 have c:(256:Nat)^8=18446744073709551616:=ah;have s1:=AT s 8 aa;have s2:=AT (s.drop 8) 8 (by rw[bU];omega);have a:=AT (s.drop 16) 8 (by rw[bU];omega);rw[hO,show 8+8=16 from rfl] at s2;rw[hO,show 16+8=24 from rfl] at a;have d:(s.drop 24).take 8=s.drop 24:=ar (by rw[bU];omega);rw[c] at s1 s2 a;rw[b 0,b 1,b 2,b 3,show 8*0=0 from rfl,show 8*1=8 from rfl,show 8*2=16 from rfl,show 8*3=24 from rfl,jC,d];omega
def oh (r:List (BitVec 64)):List (BitVec 64):=[r.getD 0 0|||r.getD 1 0<<<51,r.getD 1 0>>>13|||r.getD 2 0<<<38,r.getD 2 0>>>26|||r.getD 3 0<<<25,r.getD 3 0>>>39|||r.getD 4 0<<<12]
theorem A4 (n:Nat)(j:Nat):∀ k,aV n (k+j)=aV n k++aV (n/256^k) j:=by
 intro k;induction k generalizing n with
 |zero=>simp[aV]
 |succ k ih=>rw[show k+1+j=(k+j)+1 by omega,aV,ih,aV,fO,mi,<-oU]
theorem acD (r:List (BitVec 64))(h:r.length=5)(f:∀ x∈r,x.toNat<2251799813685248):
  aV ((oh r).getD 0 0).toNat 8++(aV ((oh r).getD 1 0).toNat 8++(aV ((oh r).getD 2 0).toNat 8++aV ((oh r).getD 3 0).toNat 8))=aV (aT r) 32:=by
 obtain⟨a,b,c,d,e,rfl⟩:=five r h;simp only[qj] at f;obtain⟨i,n,hc,o,p,_⟩:=f;have j:(a|||b<<<51).toNat=a.toNat+2251799813685248*(b.toNat%8192):=qe a b 51 ah i;have k:(b>>>13|||c<<<38).toNat=b.toNat/8192+274877906944*(c.toNat%67108864):=by
  have h2:=qB b 13;rw[qe _ _ 38 ah (by rw[h2];omega),h2]
 have l:(c>>>26|||d<<<25).toNat=c.toNat/67108864+33554432*(d.toNat%549755813888):=by
  have h2:=qB c 26;rw[qe _ _ 25 ah (by rw[h2];omega),h2]
 have m:(d>>>39|||e<<<12).toNat=d.toNat/549755813888+4096*(e.toNat%4503599627370496):=by
  have h2:=qB d 39;rw[qe _ _ 12 ah (by rw[h2];omega),h2]
 show aV (a|||b<<<51).toNat 8++(aV (b>>>13|||c<<<38).toNat 8++(aV (c>>>26|||d<<<25).toNat 8++aV (d>>>39|||e<<<12).toNat 8))=_;have g:(256:Nat)^8=18446744073709551616:=ah;rw[show(32:Nat)=8+(8+(8+8)) from rfl,A4,A4,A4,g,mi,mi,
  <-uz (aT [a,b,c,d,e]) 8,<-uz (aT [a,b,c,d,e]/18446744073709551616) 8,<-uz (aT [a,b,c,d,e]/(18446744073709551616*18446744073709551616)) 8,<-uz (aT [a,b,c,d,e]/(18446744073709551616*(18446744073709551616*18446744073709551616))) 8,g,j,k,l,m]
 simp only[aT];congr 1
 ·congr 1;omega
 ·congr 1
  ·congr 1;omega
  ·congr 1
   ·congr 1;omega
   ·congr 1;omega
theorem Ig:∀ (a b:List (BitVec 64)),a.length=b.length->(∀ x∈a,x.toNat<2251799813947392)->(∀ x∈b,x.toNat<2251799813947392)->aT (List.zipWith (· +·) a b)=aT a+aT b/\∀ x∈List.zipWith (· +·) a b,x.toNat<9223372036854775808
 |[],[],_,_,_=>⟨rfl,ae⟩
 |[],y::b,h,_,_=>by simp at h
 |x::a,[],h,_,_=>by simp at h
 |x::a,y::b,h,d,f=>by
  obtain⟨h1,h2⟩:=Ig a b (by simpa using h) (fun z c=>d z (gF _ c)) (fun z c=>f z (gF _ c));have p:=d x j8;have q:=f y j8;have e:(x+y).toNat=x.toNat+y.toNat:=by rw[fk];omega
  rw[List.zipWith_cons_cons];refine⟨?_,?_⟩
  ·show(x+y).toNat+2251799813685248*aT (List.zipWith (· +·) a b)=(x.toNat+2251799813685248*aT a)+(y.toNat+2251799813685248*aT b);rw[h1,e];omega
  ·intro z c;rcases cQ.1 c with rfl|c
   ·omega
   ·exact h2 z c
def jV (a b:List (BitVec 64)):Nat->List (BitVec 64)
 |0=>a
 |i+1=>(jV a b i).set i ((jV a b i).getD i 0+b.getD i 0)
theorem Am (a b:List (BitVec 64))(i:Nat):(jV a b i).length=a.length:=by
 induction i with
 |zero=>rfl
 |succ i ih=>rw[jV,aY,ih]
theorem acf (a b:List (BitVec 64))(c:sm a)(d:sm b):aT (jV a b 5)=aT a+aT b/\∀ x∈jV a b 5,x.toNat<9223372036854775808:=by
 have e:jV a b 5=List.zipWith (· +·) a b:=by
  obtain⟨a0,f,a2,a3,a4,rfl⟩:=five a c.1;obtain⟨g,h,i,j,k,rfl⟩:=five b d.1;rfl
 rw[e];exact Ig a b (by rw[c.1,d.1]) c.2 d.2
def dD (a b:List (BitVec 64)):Nat->List (BitVec 64)
 |0=>a
 |i+1=>if i=0 then(dD a b i).set i ((dD a b i).getD i 0+(9007199254740988#64-b.getD i 0)-72#64) else(dD a b i).set i ((dD a b i).getD i 0+(9007199254740988#64-b.getD i 0))
theorem x9 (a b:List (BitVec 64))(i:Nat):(dD a b i).length=a.length:=by
 induction i with
 |zero=>rfl
 |succ i ih=>rw[dD];split <;>rw[aY,ih]
theorem adX (a b:List (BitVec 64))(d:sm a)(f:sm b):aT (dD a b 5)+aT b=aT a+4*Pq/\∀ x∈dD a b 5,x.toNat<9223372036854775808:=by
 obtain⟨s,d⟩:=d;obtain⟨t,f⟩:=f;obtain⟨a0,g,a2,a3,a4,rfl⟩:=five a s;obtain⟨c,h,i,j,l,rfl⟩:=five b t;simp only[qj] at d f;obtain⟨u,m,p2,p3,n,_⟩:=d;obtain⟨v,o,p,q,r,_⟩:=f;have e:dD [a0,g,a2,a3,a4] [c,h,i,j,l] 5=[a0+(9007199254740988#64-c)-72#64,g+(9007199254740988#64-h),a2+(9007199254740988#64-i),a3+(9007199254740988#64-j),a4+(9007199254740988#64-l)]:=rfl;have k:∀ x y:BitVec 64,x.toNat<2251799813947392->y.toNat<2251799813947392->(x+(9007199254740988#64-y)).toNat=x.toNat+9007199254740988-y.toNat:=fun x y h1 h2=>by
  rw[fk,uv,show(9007199254740988#64).toNat=9007199254740988 from rfl];omega
 have k0:(a0+(9007199254740988#64-c)-72#64).toNat=a0.toNat+9007199254740988-c.toNat-72:=by
  rw[uv,k a0 c u v,show(72#64).toNat=72 from rfl];omega
 rw[e];refine⟨?_,?_⟩
 ·simp only[aT];rw[k0,k g h m o,k a2 i p2 p,k a3 j p3 q,k a4 l n r];unfold Pq;omega
 ·simp only[qj,qJ,false_implies,implies_true,and_true];rw[k0,k g h m o,k a2 i p2 p,k a3 j p3 q,k a4 l n r];omega
def aO:List Int->Int
 |[]=>0
 |x::l=>x+65536*aO l
abbrev eI:Int:=115792089237316195423570985008687907853269984665640564039457584007913129639936
abbrev cH:Int:=57896044618658097711785492504343953926634992332820282019728792003956564819949
theorem x7:(65536:Int)^16=eI:=ah
def dS (c:Int):List Int->List Int×Int
 |[]=>([],c)
 |x::l=>(((x+c)%65536)::(dS ((x+c)/65536) l).1,(dS ((x+c)/65536) l).2)
theorem FW (l:List Int):∀ c,(dS c l).1.length=l.length:=by
 induction l with
 |nil=>intro c;rfl
 |cons x l ih=>intro c;rw[dS,ce,ce,ih]
theorem abE (l:List Int)(x:Int):∀ c,dS c (l++[x])=((dS c l).1++[(x+(dS c l).2)%65536],(x+(dS c l).2)/65536):=by
 induction l with
 |nil=>intro c;rfl
 |cons y l ih=>intro c;rw[fO,dS,ih,dS];rfl
def mr (c:Int)(w:List Int):Nat->List Int×Int
 |0=>(w,c)
 |k+1=>((mr c w k).1.set k (((mr c w k).1.getD k 0+(mr c w k).2)%65536),((mr c w k).1.getD k 0+(mr c w k).2)/65536)
theorem ab1 (c:Int)(w:List Int)(k:Nat):(mr c w k).1.length=w.length:=by
 induction k with
 |zero=>rfl
 |succ k ih=>rw[mr,aY,ih]
theorem VZ (c:Int)(w:List Int)(k:Nat)(f:k<=w.length):mr c w k=((dS c (w.take k)).1++w.drop k,(dS c (w.take k)).2):=by
 induction k with
 |zero=>rfl
 |succ k ih=>
  have a:k<w.length:=aa;have b:(dS c (w.take k)).1.length=k:=by rw[FW,br];omega
  have d:((dS c (w.take k)).1++w.drop k).getD k 0=w.getD k 0:=by
   rw[aW,dL aa,b,gf,il,iQ,<-aW]
  have e:w.take (k+1)=w.take k++[w.getD k 0]:=by
   rw[o7 a,aW,aF a];rfl
  rw[mr,ih aa];simp only;rw[d,e,abE,ou _ _ aa,b,gf,sO a,iI];simp
theorem Ym (l:List Int):∀ c:Int,aO (dS c l).1+65536^l.length*(dS c l).2=aO l+c/\(∀ x∈(dS c l).1,0<=x/\x<65536):=by
 induction l with
 |nil=>intro c;exact⟨by simp[dS,aO],by simp[dS]⟩
 |cons x l ih=>
  intro c;obtain⟨i1,i2⟩:=ih ((x+c)/65536);refine⟨?_,?_⟩
  ·rw[dS];show((x+c)%65536)+65536*aO (dS ((x+c)/65536) l).1+65536^(l.length+1)*(dS ((x+c)/65536) l).2=x+65536*aO l+c;rw[mV,sQ (65536^l.length) 65536,vm];omega
  ·rw[dS];intro y a;rcases cQ.1 a with rfl|a
   ·omega
   ·exact i2 y a
theorem Nf (l:List Int)(N:Int)(d:1<=N):∀ c:Int,-N<=c/\c<=N->(∀ x∈l,-N<=x/\x<=N)->-N<=(dS c l).2/\(dS c l).2<=N:=by
 induction l with
 |nil=>intro c hc _;exact hc
 |cons x l ih=>
  intro c hc a;have h0:=a x j8;rw[dS];exact ih _ aa (fun y b=>a y (gF _ b))
def bH (l:List Int):Prop:=l.length=16/\∀ x∈l,0<=x/\x<65536
theorem Bk:∀ (l:List Int),(∀ x∈l,0<=x/\x<65536)->0<=aO l/\aO l<65536^l.length
 |[],_=>⟨ah,ah⟩
 |x::l,h=>by
  have h0:=h x j8;have ih:=Bk l fun y a=>h y (gF _ a)
  rw[ce,mV];show 0<=x+65536*aO l/\x+65536*aO l<_;omega
theorem Ih (l:List Int)(h:bH l):0<=aO l/\aO l<eI:=by
 have :=Bk l h.2
 rwa [h.1,x7] at this
def jb (w:List Int):List Int:=(mr 0 w 16).1.set 0 ((mr 0 w 16).1.getD 0 0+38*(mr 0 w 16).2)
theorem QD (w:List Int):(jb w).length=w.length:=by unfold jb;rw[aY,ab1]
def sr (w:List Int):Nat->List Int
 |0=>w
 |i+1=>jb (sr w i)
def tJ (w:List Int):Prop:=w.length=16/\∀ x∈w,-1125899906842624<=x/\x<=1125899906842624
theorem Bp (w:List Int)(hw:tJ w):aO (jb w)=aO w%eI+38*(aO w/eI)/\(0<=aO w->aO w<eI->bH (jb w))/\(∀ x∈jb w,-50000000000000000<=x/\x<=50000000000000000)/\(-2*eI<=aO w->aO w<=1000000000000*eI->tJ (jb w)):=by
 obtain⟨hw,g⟩:=hw;have f:=VZ 0 w 16 aa;rw[ar aa,gP aa,iw] at f;obtain⟨h1,h2⟩:=Ym w 0;have hc:=Nf w 1125899906842624 ah 0 ah g;have e:=FW w 0;have b:=QD w;rw[hw] at h1 e b;have d:=Bk _ h2;rw[e] at d;rw[x7] at d h1;unfold bH tJ;rw[b];unfold jb;rw[f];simp only;generalize (dS 0 w).1=r at h1 h2 e d |-
 generalize (dS 0 w).2=c at h1 hc |-
 cases r with
 |nil=>simp at e
 |cons y r=>
  have i:=h2 y j8;rw[iI,ov];have h:aO ((y+38*c)::r)=aO (y::r)+38*c:=by
   show y+38*c+65536*aO r=y+65536*aO r+38*c;omega
  unfold eI at*;refine⟨by rw[h];omega,fun g1 g2=>⟨trivial,?_⟩,?_,fun g1 g2=>⟨trivial,?_⟩⟩
  ·intro x a;rcases cQ.1 a with rfl|a
   ·omega
   ·exact h2 x (gF _ a)
  ·intro x a;rcases cQ.1 a with rfl|a
   ·omega
   ·have :=h2 x (gF _ a);omega
  ·intro x a;rcases cQ.1 a with rfl|a
   ·omega
   ·have :=h2 x (gF _ a);omega
theorem Ju (w:List Int)(hw:tJ w)(h1:-eI<aO w)(h2:aO w<=1000000000000*eI):bH (sr w 3)/\aO (sr w 3)%cH=aO w%cH:=by
 have d:=Bp w hw;have f1:=d.2.2.2 (by unfold eI at*;omega) h2;have p2:=Bp _ f1;have f2:=p2.2.2.2 (by unfold eI at*;omega) (by unfold eI at*;omega);have p3:=Bp _ f2;have e:sr w 3=jb (jb (jb w)):=rfl;rw[e];refine⟨p3.2.1 (by unfold eI at*;omega) (by unfold eI at*;omega),?_⟩;have f:aO w=aO (jb (jb (jb w)))+cH*(2*(aO w/eI+aO (jb w)/eI+aO (jb (jb w))/eI)):=by
  unfold eI cH at*;omega
 rw[f,Cp]
theorem BI (l:List Int)(i:Nat)(y:Int)(h:i<l.length):aO (l.set i y)=aO l+65536^i*(y-l.getD i 0):=by
 induction l generalizing i with
 |nil=>simp at h
 |cons x l ih=>
  cases i with
  |zero=>simp only[iI,aO,ov,xQ,Int.one_mul];omega
  |succ i=>
   have :=ih i (by simpa using h);simp only[yo,aO,o8];rw[this,mV,sQ (65536^i) 65536,vm];omega
theorem vH (l:List Int)(k:Nat)(h:k<l.length):aO (l.take (k+1))=aO (l.take k)+65536^k*l.getD k 0:=by
 induction l generalizing k with
 |nil=>simp at h
 |cons x l ih=>
  cases k with
  |zero=>simp[aO]
  |succ k=>
   have :=ih k (by simpa using h);rw[cj,cj,o8];show x+65536*aO (l.take (k+1))=x+65536*aO (l.take k)+_;rw[this,mV,sQ (65536^k) 65536,vm];omega
theorem agV (l:List Int):∀ k,k<=l.length->aO l=aO (l.take k)+65536^k*aO (l.drop k):=by
 induction l with
 |nil=>intro k a;simp at a;subst a;simp[aO]
 |cons x l ih=>
  intro k a;cases k with
  |zero=>simp[aO]
  |succ k=>
   rw[cj,iK];show x+65536*aO l=x+65536*aO (l.take k)+_;rw[ih k (by simpa using a),mV,sQ (65536^k) 65536,vm];omega
def kK (a b:List Int)(t:Int):Nat->List Int
 |0=>a
 |i+1=>(kK a b t i).set i ((kK a b t i).getD i 0+t*b.getD i 0)
theorem JX (a b:List Int)(t:Int)(i:Nat):(kK a b t i).length=a.length:=by
 induction i with
 |zero=>rfl
 |succ i ih=>rw[kK,aY,ih]
theorem rk {l:List Int}{i:Nat}(h:i<l.length):l.getD i 0∈l:=by
 rw[aW,aF h];exact dd h
theorem SY {l:List Int}{i:Nat}{N y:Int}(h:∀ x∈l,-N<=x/\x<=N)(a:-N<=y/\y<=N):∀ x∈l.set i y,-N<=x/\x<=N:=by
 intro x b;rcases Ae b with h1|h1
 ·exact h x h1
 ·rw[h1];exact a
theorem VX (a b:List Int)(t:Int):∀ i,(kK a b t i).drop i=a.drop i:=by
 intro i;induction i with
 |zero=>rfl
 |succ i ih=>
  rw[kK,List.drop_set_of_lt aa,<-hO,ih,hO]
theorem Cy (l:List Int)(i:Nat):l.getD i 0=(l.drop i).getD 0 0:=by
 rw[aW,aW,il,iQ]
theorem US (a b:List Int)(t:Int)(i:Nat):(kK a b t i).getD i 0=a.getD i 0:=by
 rw[Cy,VX,<-Cy]
theorem RN {t y:Int}(a:-200000<=t/\t<=200000)(b:0<=y/\y<65536):-13200000000<=t*y/\t*y<=13200000000:=by
 have h1:t*y<=200000*y:=wO a.2 b.1;have h2:-200000*y<=t*y:=wO a.1 b.1;omega
theorem U8 (a b:List Int)(t:Int)(c:bH a)(d:bH b)(h:-200000<=t/\t<=200000):aO (kK a b t 16)=aO a+t*aO b/\tJ (kK a b t 16):=by
 have key:∀ i,i<=16->aO (kK a b t i)=aO a+t*aO (b.take i)/\∀ x∈kK a b t i,-13200065536<=x/\x<=13200065536:=by
  intro i;induction i with
  |zero=>intro _;exact⟨by simp[kK,aO],fun x e=>by have :=c.2 x e;omega⟩
  |succ i ih=>
   intro m;obtain⟨h1,h2⟩:=ih aa;have f:=JX a b t i;rw[c.1] at f;have j:=c.2 _ (rk (l:=a) (i:=i) (by rw[c.1];omega));have g:=d.2 _ (rk (l:=b) (i:=i) (by rw[d.1];omega));have k:=RN h g;rw[kK,vH b i (by rw[d.1];omega),BI _ _ _ aa,h1,US];refine⟨?_,SY h2 aa⟩;have :a.getD i 0+t*b.getD i 0-a.getD i 0=t*b.getD i 0:=aa;rw[this,Int.mul_add,Int.mul_left_comm t];omega
 obtain⟨h1,h2⟩:=key 16 aa;rw[ar (by rw[d.1];omega)] at h1;exact⟨h1,by rw[JX,c.1],fun x e=>by have :=h2 x e;omega⟩
def D2 (a b w:List Int)(i k:Nat):List Int:=w.set (i+k) (w.getD (i+k) 0+a.getD i 0*b.getD k 0)
def mO (a b w:List Int)(i:Nat):Nat->List Int
 |0=>w
 |k+1=>D2 a b (mO a b w i k) i k
def iz (a b:List Int):Nat->List Int
 |0=>List.replicate 32 0
 |i+1=>mO a b (iz a b i) i 16
theorem IW (a b w:List Int)(i k:Nat):(mO a b w i k).length=w.length:=by
 induction k with
 |zero=>rfl
 |succ k ih=>rw[mO];unfold D2;rw[aY,ih]
theorem CR (a b:List Int)(i:Nat):(iz a b i).length=32:=by
 induction i with
 |zero=>rfl
 |succ i ih=>rw[iz,IW,ih]
theorem O0 {x y:Int}(b:0<=x/\x<65536)(a:0<=y/\y<65536):0<=x*y/\x*y<=4294836225:=by
 have h1:x*y<=65535*y:=wO aa a.1;have h2:0<=x*y:=Int.mul_nonneg b.1 a.1;omega
theorem G2 {l:List Int}{i:Nat}{N y:Int}(h:∀ x∈l,0<=x/\x<=N)(a:0<=y/\y<=N):∀ x∈l.set i y,0<=x/\x<=N:=by
 intro x b;rcases Ae b with h1|h1
 ·exact h x h1
 ·rw[h1];exact a
theorem Nq (a b w:List Int)(i:Nat)(N:Int)(e:bH a)(d:bH b)(hw:w.length=32)(f:∀ x∈w,0<=x/\x<=N)(g:i<16):∀ k,k<=16->
  aO (mO a b w i k)=aO w+65536^i*a.getD i 0*aO (b.take k)/\∀ x∈mO a b w i k,0<=x/\x<=N+4294836225*k:=by
 intro k;induction k with
 |zero=>intro _;exact⟨by simp[aO,mO],fun x c=>by have :=f x c;omega⟩
 |succ k ih=>
  intro m;obtain⟨h1,h2⟩:=ih aa;have h:=IW a b w i k;rw[hw] at h;have ga:=e.2 _ (rk (l:=a) (i:=i) (by rw[e.1];exact g));have j:=d.2 _ (rk (l:=b) (i:=k) (by rw[d.1];omega));have gp:=O0 ga j;have gw:=h2 _ (rk (l:=mO a b w i k) (i:=i+k) aa);rw[mO];unfold D2;rw[BI _ _ _ aa,h1,vH b k (by rw[d.1];omega),Int.pow_add];refine⟨?_,fun x c=>?_⟩
  ·have :(mO a b w i k).getD (i+k) 0+a.getD i 0*b.getD k 0-(mO a b w i k).getD (i+k) 0=a.getD i 0*b.getD k 0:=aa;rw[this];grind
  ·have :=G2 (N:=N+4294836225*k+4294836225) (fun x c=>by have :=h2 x c;omega) aa x c;omega
theorem adh (a b:List Int)(c:bH a)(e:bH b):aO (iz a b 16)=aO a*aO b/\∀ x∈iz a b 16,0<=x/\x<=1099478073600:=by
 have key:∀ i,i<=16->aO (iz a b i)=aO (a.take i)*aO b/\∀ x∈iz a b i,0<=x/\x<=68717379600*i:=by
  intro i;induction i with
  |zero=>intro _;exact⟨by simp[aO,iz],by simp[iz]⟩
  |succ i ih=>
   intro h;obtain⟨h1,h2⟩:=ih aa;obtain⟨f,g⟩:=Nq a b (iz a b i) i (68717379600*i) c e (CR a b i) h2 aa 16 aa;rw[ar (by rw[e.1];omega)] at f;rw[iz,f,h1,vH a i (by rw[c.1];omega)];exact⟨by grind,fun x d=>by have :=g x d;omega⟩
 obtain⟨h1,h2⟩:=key 16 aa;rw[ar (by rw[c.1];omega)] at h1;exact⟨h1,fun x d=>by have :=h2 x d;omega⟩
def jg (w:List Int):Nat->List Int
 |0=>List.replicate 16 0
 |i+1=>(jg w i).set i (w.getD i 0+38*w.getD (i+16) 0)
theorem AW (w:List Int)(i:Nat):(jg w i).length=16:=by
 induction i with
 |zero=>rfl
 |succ i ih=>rw[jg,aY,ih]
theorem acV (w:List Int):∀ i,i<=16->(jg w i).drop i=List.replicate (16-i) 0:=by
 intro i;induction i with
 |zero=>intro _;rfl
 |succ i ih=>
  intro a;rw[jg,List.drop_set_of_lt aa,<-hO,ih aa,List.drop_replicate];congr 1
theorem QO (w:List Int)(hw:w.length=32)(a:∀ x∈w,0<=x/\x<=1099478073600):aO (jg w 16)=aO (w.take 16)+38*aO (w.drop 16)/\tJ (jg w 16)/\0<=aO (jg w 16)/\aO (jg w 16)<=1000000000000*eI:=by
 have g:(w.drop 16).length=16:=by rw[bU];omega
 have key:∀ i,i<=16->aO (jg w i)=aO (w.take i)+38*aO ((w.drop 16).take i)/\∀ x∈jg w i,0<=x/\x<=42879644870400:=by
  intro i;induction i with
  |zero=>intro _;exact⟨by simp[aO,jg],by simp[jg]⟩
  |succ i ih=>
   intro j;obtain⟨h1,h2⟩:=ih aa;have k:=AW w i;have g1:=a _ (rk (l:=w) (i:=i) aa);have g2:=a _ (rk (l:=w) (i:=i+16) aa);have c:(jg w i).getD i 0=0:=by
    rw[Cy,acV w i aa,show 16-i=(15-i)+1 by omega,pz,ov]
   have b:(w.drop 16).getD i 0=w.getD (i+16) 0:=by
    rw[aW,aW,il,wN]
   rw[jg,BI _ _ _ aa,h1,vH w i aa,vH (w.drop 16) i aa,c,b];refine⟨by grind,G2 h2 aa⟩
 obtain⟨h1,h2⟩:=key 16 aa;rw[ar (by omega :(w.drop 16).length<=16)] at h1;refine⟨h1,⟨AW w 16,fun x a=>by have :=h2 x a;omega⟩,?_⟩;have d:∀ (l:List Int),(∀ x∈l,0<=x/\x<=42879644870400)->0<=aO l/\65535*aO l<=42879644870400*(65536^l.length-1):=by
  intro l;induction l with
  |nil=>intro _;exact⟨ah,ah⟩
  |cons x l ih=>
   intro h;have h0:=h x j8;have h1:=ih (fun y e=>h y (gF _ e));rw[ce,mV];show 0<=x+65536*aO l/\65535*(x+65536*aO l)<=_;omega
 have f:=d _ h2;rw[AW,x7] at f;unfold eI at*;omega
def dY (a b:List Int):List Int:=sr (jg (iz a b 16) 16) 3
theorem nu (a b:List Int)(d:bH a)(e:bH b):bH (dY a b)/\aO (dY a b)%cH=(aO a*aO b)%cH:=by
 obtain⟨m1,f⟩:=adh a b d e;obtain⟨h1,h2,j,g⟩:=QO _ (CR a b 16) f;obtain⟨h,i⟩:=Ju _ h2 (by unfold eI;omega) g;refine⟨h,?_⟩;show aO (sr (jg (iz a b 16) 16) 3)%cH=_;have c:=agV (iz a b 16) 16 (by rw[CR];omega);rw[x7] at c;rw[i,h1,<-m1,c];have :aO ((iz a b 16).take 16)+eI*aO ((iz a b 16).drop 16)=aO ((iz a b 16).take 16)+38*aO ((iz a b 16).drop 16)+cH*(2*aO ((iz a b 16).drop 16)):=by
  unfold eI cH;omega
 rw[this,Cp]
def je (a b:List Int)(t:Int):List Int:=sr (kK a b t 16) 3
theorem oe (a b:List Int)(t:Int)(c:bH a)(d:bH b)(e:-1<=t/\t<=200000):bH (je a b t)/\aO (je a b t)%cH=(aO a+t*aO b)%cH:=by
 obtain⟨h1,h2⟩:=U8 a b t c d aa;have i:=Ih a c;have f:=Ih b d;have l1:t*aO b<=200000*aO b:=wO e.2 f.1;have l2:-1*aO b<=t*aO b:=wO e.1 f.1;obtain⟨g,h⟩:=Ju _ h2 (by rw[h1];unfold eI at*;omega) (by rw[h1];unfold eI at*;omega);exact⟨g,by rw[<-h1,<-h];rfl⟩
def gG (s:List (BitVec 8)):Nat->List Int
 |0=>[]
 |i+1=>gG s i++[((s.getD (2*i) 0).toNat:Int)+256*((s.getD (2*i+1) 0).toNat:Int)]
theorem Fy (s:List (BitVec 8))(i:Nat):(gG s i).length=i:=by
 induction i with
 |zero=>rfl
 |succ i ih=>rw[gG,aE,ih];rfl
theorem PW (l:List Int)(x:Int):aO (l++[x])=aO l+65536^l.length*x:=by
 induction l with
 |nil=>simp[aO]
 |cons y l ih=>
  show y+65536*aO (l++[x])=y+65536*aO l+_;rw[ih,ce,mV,sQ (65536^l.length) 65536,vm];omega
theorem G3 (s:List (BitVec 8))(b:BitVec 8):le (s++[b])=le s+256^s.length*b.toNat:=by
 rw[Kp];simp[le]
theorem JJ (s:List (BitVec 8))(h:s.length=32):bH (gG s 16)/\aO (gG s 16)=(le s:Int):=by
 have key:∀ i,i<=16->aO (gG s i)=(le (s.take (2*i)):Int)/\∀ x∈gG s i,0<=x/\x<65536:=by
  intro i;induction i with
  |zero=>intro _;exact⟨by simp[gG,aO,le],by simp[gG]⟩
  |succ i ih=>
   intro d;obtain⟨h1,h2⟩:=ih aa;have f:=(s.getD (2*i) 0).isLt;have g:=(s.getD (2*i+1) 0).isLt;refine⟨?_,?_⟩
   ·rw[gG,PW,h1,Fy,show 2*(i+1)=2*i+1+1 by omega,u9 (by omega :2*i+1<s.length),u9 (by omega :2*i<s.length),G3,G3,aE,br,iM (by omega :2*i<=s.length)];have e:(256:Nat)^(2*i)=65536^i:=by rw[Nat.pow_mul]
    have b:(256:Nat)^(2*i+1)=65536^i*256:=by rw[iT,e]
    show _+_=((le (s.take (2*i))+256^(2*i)*(s.getD (2*i) 0).toNat+256^(2*i+1)*(s.getD (2*i+1) 0).toNat:Nat):Int);rw[e,b];have c:((65536^i:Nat):Int)=(65536:Int)^i:=by rw[Int.natCast_pow];rfl
    simp only[sV,uO,c];rw[show((256:Nat):Int)=256 from rfl,Int.mul_add,vm];omega
   ·rw[gG];intro x a;rcases eB.1 a with a|a
    ·exact h2 x a
    ·rw[lh.1 a];omega
 obtain⟨h1,h2⟩:=key 16 aa;rw[ar aa] at h1;exact⟨⟨Fy s 16,h2⟩,h1⟩
abbrev Wd:=BitVec 64×BitVec 64
def fH (w:Wd):Nat:=18446744073709551616*w.1.toNat+w.2.toNat
def k9 (w:Wd)(x y:BitVec 64):Wd:=(w.1+cL x y+bO w.2 (x*y) 0#64,w.2+x*y+0#64)
theorem UZ (x y:BitVec 64):(x*y).toNat+18446744073709551616*(cL x y).toNat=x.toNat*y.toNat:=by
 have b:=x.isLt;have c:=y.isLt;have a:x.toNat*y.toNat<18446744073709551616*18446744073709551616:=CG aa aa;have k1:(cL x y).toNat=x.toNat*y.toNat/18446744073709551616:=by
  unfold cL;rw[cx];exact gn (zW aa)
 rw[nH,k1];generalize x.toNat*y.toNat=p;omega
theorem G4 (x y:BitVec 64):(x+y+0#64).toNat+18446744073709551616*(bO x y 0#64).toNat=x.toNat+y.toNat:=by
 have :=x.isLt;have :=y.isLt;unfold bO;have z:(0#64).toNat=0:=rfl;rw[fk,fk,z,cx];omega
theorem Gb (w:Wd)(x y:BitVec 64)(h:fH w+x.toNat*y.toNat<340282366920938463463374607431768211456):fH (k9 w x y)=fH w+x.toNat*y.toNat:=by
 have p:=UZ x y;have q:=G4 w.2 (x*y);unfold fH at*;unfold k9;simp only;have e:(w.1+cL x y+bO w.2 (x*y) 0#64).toNat=w.1.toNat+(cL x y).toNat+(bO w.2 (x*y) 0#64).toNat:=by
  rw[fk,fk];omega
 omega
def js:List Wd->Nat
 |[]=>0
 |x::l=>fH x+2251799813685248*js l
def wz:Wd:=(0#64,0#64)
theorem Hm (l:List Wd)(i:Nat)(y:Wd)(h:i<l.length):js (l.set i y)+2251799813685248^i*fH (l.getD i wz)=js l+2251799813685248^i*fH y:=by
 induction l generalizing i with
 |nil=>simp at h
 |cons x l ih=>
  cases i with
  |zero=>simp only[iI,js,ov,Ao,Nat.one_mul];omega
  |succ i=>
   have :=ih i (by simpa using h);simp only[yo,js,o8];rw[iT,jv (2251799813685248^i) 2251799813685248,oM,oM];omega
theorem F6 (l:List (BitVec 64))(k:Nat)(h:k<l.length):aT (l.take (k+1))=aT (l.take k)+2251799813685248^k*(l.getD k 0).toNat:=by
 induction l generalizing k with
 |nil=>simp at h
 |cons x l ih=>
  cases k with
  |zero=>simp[aT]
  |succ k=>
   have :=ih k (by simpa using h);rw[cj,cj,o8];show x.toNat+2251799813685248*aT (l.take (k+1))=x.toNat+2251799813685248*aT (l.take k)+_;rw[this,iT,jv (2251799813685248^k) 2251799813685248,oM];omega
def rU (a b:List (BitVec 64))(w:List Wd)(i k:Nat):List Wd:=if i+k<5 then w.set (i+k) (k9 (w.getD (i+k) wz) (a.getD i 0) (b.getD k 0)) else w.set (i+k-5) (k9 (w.getD (i+k-5) wz) (a.getD i 0) (19#64*b.getD k 0))
def db (a b:List (BitVec 64))(w:List Wd)(i:Nat):Nat->List Wd
 |0=>w
 |k+1=>rU a b (db a b w i k) i k
def eM (a b:List (BitVec 64)):Nat->List Wd
 |0=>List.replicate 5 wz
 |i+1=>db a b (eM a b i) i 5
theorem CB (a b:List (BitVec 64))(w:List Wd)(i k:Nat):(db a b w i k).length=w.length:=by
 induction k with
 |zero=>rfl
 |succ k ih=>rw[db];unfold rU;split <;>rw[aY,ih]
theorem tQ (a b:List (BitVec 64))(i:Nat):(eM a b i).length=5:=by
 induction i with
 |zero=>rfl
 |succ i ih=>rw[eM,CB,ih]
theorem FG {l:List (BitVec 64)}{i:Nat}(h:i<l.length):l.getD i 0∈l:=by
 rw[aW,aF h];exact dd h
theorem FC {l:List Wd}{i:Nat}(h:i<l.length):l.getD i wz∈l:=by
 rw[aW,aF h];exact dd h
theorem Fa {l:List Wd}{i N:Nat}{y:Wd}(h:∀ x∈l,fH x<=N)(a:fH y<=N):∀ x∈l.set i y,fH x<=N:=by
 intro x b;rcases Ae b with h1|h1
 ·exact h x h1
 ·rw[h1];exact a
theorem agk (x y:BitVec 64)(a:x.toNat<2251799813947392)(b:y.toNat<2251799813947392):(19#64*y).toNat=19*y.toNat/\x.toNat*y.toNat<=5070602410000000000000000000000:=by
 have h:x.toNat*y.toNat<=2251799813947391*2251799813947391:=nJ aa aa;refine⟨?_,aa⟩;rw[nH,show(19#64).toNat=19 from rfl];omega
theorem ac2 (a b:List (BitVec 64))(w:List Wd)(i k N:Nat)(m:sm a)(n:sm b)(hw:w.length=5)(d:∀ x∈w,fH x<=N)(o:N<20769187434139310514121985316880384)(p:i<5)(r:k<5):
  (∃ q,js w+2251799813685248^(i+k)*((a.getD i 0).toNat*(b.getD k 0).toNat)=js (rU a b w i k)+Pq*q)/\∀ x∈rU a b w i k,fH x<=N+96341445790000000000000000000000:=by
 have ga:=m.2 _ (FG (l:=a) (i:=i) (by rw[m.1];exact p));have s:=n.2 _ (FG (l:=b) (i:=k) (by rw[n.1];exact r));obtain⟨m1,u⟩:=agk _ _ ga s;unfold rU;split
 ·rename_i h;have t:=d _ (FC (l:=w) (i:=i+k) aa);have f:=Hm w (i+k) (k9 (w.getD (i+k) wz) (a.getD i 0) (b.getD k 0)) aa;have g:=Gb (w.getD (i+k) wz) (a.getD i 0) (b.getD k 0) aa;refine⟨⟨0,?_⟩,Fa (fun x j=>by have :=d x j;omega) aa⟩;rw[g,km] at f;omega
 ·rename_i h;have t:=d _ (FC (l:=w) (i:=i+k-5) aa);have f:=Hm w (i+k-5) (k9 (w.getD (i+k-5) wz) (a.getD i 0) (19#64*b.getD k 0)) aa;have c:(a.getD i 0).toNat*(19*(b.getD k 0).toNat)=19*((a.getD i 0).toNat*(b.getD k 0).toNat):=Eo _ _ _;have g:=Gb (w.getD (i+k-5) wz) (a.getD i 0) (19#64*b.getD k 0) (by rw[m1,c];omega);rw[m1,c] at g;refine⟨⟨2251799813685248^(i+k-5)*((a.getD i 0).toNat*(b.getD k 0).toNat),?_⟩,Fa (fun x j=>by have :=d x j;omega) aa⟩;rw[g,km] at f;have e:(2251799813685248:Nat)^(i+k)=57896044618658097711785492504343953926634992332820282019728792003956564819968*2251799813685248^(i+k-5):=by
   rw[<-qV,<-qm];congr 1;omega
  rw[e,oM];rw[Eo (2251799813685248^(i+k-5)) 19] at f;generalize 2251799813685248^(i+k-5)*((a.getD i 0).toNat*(b.getD k 0).toNat)=z at*;unfold Pq;omega
theorem Xn (a b:List (BitVec 64))(w:List Wd)(i N:Nat)(g:sm a)(f:sm b)(hw:w.length=5)(h:∀ x∈w,fH x<=N)(j:N<10384593717069655257060992658440192)(l:i<5):∀ k,k<=5->
  (∃ q,js w+2251799813685248^i*(a.getD i 0).toNat*aT (b.take k)=js (db a b w i k)+Pq*q)/\∀ x∈db a b w i k,fH x<=N+96341445790000000000000000000000*k:=by
 intro k;induction k with
 |zero=>intro _;exact⟨⟨0,by simp[aT,db]⟩,by simpa [db] using h⟩
 |succ k ih=>
  intro o;obtain⟨⟨q,p⟩,c⟩:=ih aa;obtain⟨⟨m,d⟩,e⟩:=ac2 a b (db a b w i k) i k (N+96341445790000000000000000000000*k) g f (by rw[CB,hw]) c aa l aa;rw[db];refine⟨⟨q+m,?_⟩,fun x n=>fF (e x n) (by rw[Nat.mul_succ];omega)⟩;rw[F6 b k (by rw[f.1];omega)];rw[qm] at d;generalize Pq=pp at*
  grind
theorem aef (a b:List (BitVec 64))(c:sm a)(f:sm b):(∃ q,aT a*aT b=js (eM a b 5)+Pq*q)/\∀ x∈eM a b 5,fH x<=2408536144750000000000000000000000:=by
 have key:∀ i,i<=5->(∃ q,aT (a.take i)*aT b=js (eM a b i)+Pq*q)/\∀ x∈eM a b i,fH x<=481707228950000000000000000000000*i:=by
  intro i;induction i with
  |zero=>intro _;exact⟨⟨0,by simp[aT,eM,js,fH,wz]⟩,by simp[eM,fH,wz]⟩
  |succ i ih=>
   intro j;obtain⟨⟨q,k⟩,h2⟩:=ih aa;obtain⟨⟨g,d⟩,h⟩:=Xn a b (eM a b i) i (481707228950000000000000000000000*i) c f (tQ a b i) h2 aa aa 5 aa;rw[ar (by rw[f.1];omega)] at d;rw[eM];refine⟨⟨q+g,?_⟩,fun x e=>fF (h x e) (by rw[Nat.mul_succ];omega)⟩;rw[F6 a i (by rw[c.1];omega)];generalize Pq=pp at*
   grind
 obtain⟨h1,h2⟩:=key 5 aa;rw[ar (by rw[c.1];omega)] at h1;exact⟨h1,fun x e=>by have :=h2 x e;omega⟩
def pj (c:BitVec 64)(x:Wd):BitVec 64:=(x.1+bO x.2 c 0#64)<<<13|||(x.2+c+0#64)>>>51
def bY (c:BitVec 64):List Wd->List (BitVec 64)×BitVec 64
 |[]=>([],c)
 |x::l=>(((x.2+c+0#64)&&&2251799813685247#64)::(bY (pj c x) l).1,(bY (pj c x) l).2)
theorem wP (l:List Wd):∀ c,(bY c l).1.length=l.length:=by
 induction l with
 |nil=>intro c;rfl
 |cons x l ih=>intro c;rw[bY,ce,ce,ih]
theorem Ue (l:List Wd)(x:Wd):∀ c,bY c (l++[x])=((bY c l).1++[(x.2+(bY c l).2+0#64)&&&2251799813685247#64],pj (bY c l).2 x):=by
 induction l with
 |nil=>intro c;rfl
 |cons y l ih=>intro c;rw[fO,bY,ih,bY];rfl
theorem ad9 (c:BitVec 64)(x:Wd)(h:fH x<=2408536144750000000000000000000000):((x.2+c+0#64)&&&2251799813685247#64).toNat=(fH x+c.toNat)%2251799813685248/\(pj c x).toNat=(fH x+c.toNat)/2251799813685248:=by
 have q:=G4 x.2 c;have hc:=c.isLt;have h2:=x.2.isLt;unfold fH at*;have a:=(x.2+c+0#64).isLt;have e:(x.1+bO x.2 c 0#64).toNat=x.1.toNat+(bO x.2 c 0#64).toNat:=by rw[fk];omega
 have s:=Bg (x.2+c+0#64);refine⟨by rw[pN];omega,?_⟩;unfold pj;rw[BitVec.or_comm,qe _ _ 13 ah (by rw[s];omega),s,e];omega
theorem OA (l:List Wd):∀ c:BitVec 64,(∀ x∈l,fH x<=2408536144750000000000000000000000)->aT (bY c l).1+2251799813685248^l.length*(bY c l).2.toNat=js l+c.toNat/\(∀ x∈(bY c l).1,x.toNat<2251799813685248):=by
 induction l with
 |nil=>intro c _;exact⟨by simp[bY,aT,js],by simp[bY]⟩
 |cons x l ih=>
  intro c b;obtain⟨d,e⟩:=ad9 c x (b x j8);obtain⟨i1,i2⟩:=ih (pj c x) (fun y a=>b y (gF _ a));rw[e] at i1;refine⟨?_,?_⟩
  ·rw[bY];show((x.2+c+0#64)&&&2251799813685247#64).toNat+2251799813685248*aT (bY (pj c x) l).1+2251799813685248^(l.length+1)*(bY (pj c x) l).2.toNat=fH x+2251799813685248*js l+c.toNat;rw[d,iT,jv (2251799813685248^l.length) 2251799813685248,oM];omega
  ·rw[bY];intro y a;rcases cQ.1 a with rfl|a
   ·rw[d];omega
   ·exact i2 y a
def nw (r:List (BitVec 64))(c:BitVec 64):List (BitVec 64):=(r.set 0 (r.getD 0 0+19#64*(c&&&2251799813685247#64))).set 1 ((r.set 0 (r.getD 0 0+19#64*(c&&&2251799813685247#64))).getD 1 0+19#64*(c>>>51))
def bE (a b:List (BitVec 64)):List (BitVec 64):=cJ (nw (bY 0#64 (eM a b 5)).1 (bY 0#64 (eM a b 5)).2) 2
theorem fM (a b:List (BitVec 64))(j:sm a)(k:sm b):sm (bE a b)/\aT (bE a b)%Pq=(aT a*aT b)%Pq:=by
 obtain⟨⟨q,l⟩,g⟩:=aef a b j k;obtain⟨h,i⟩:=OA (eM a b 5) 0#64 g;have ol:=wP (eM a b 5) 0#64;rw[tQ] at ol h;rw[qV,show(0#64).toNat=0 from rfl] at h;unfold bE;rw[l,qQ];generalize (bY 0#64 (eM a b 5)).1=r at*;generalize (bY 0#64 (eM a b 5)).2=c at*;obtain⟨d,r1,r2,r3,f,rfl⟩:=five r ol;simp only[qj] at i;obtain⟨p,s,p2,p3,t,_⟩:=i;have hc:=c.isLt;have m:=pN c;have n:=Bg c;have k0:(d+19#64*(c&&&2251799813685247#64)).toNat=d.toNat+19*(c.toNat%2251799813685248):=by
  rw[fk,nH,m,show(19#64).toNat=19 from rfl];omega
 have k1:(r1+19#64*(c>>>51)).toNat=r1.toNat+19*(c.toNat/2251799813685248):=by
  rw[fk,nH,n,show(19#64).toNat=19 from rfl];omega
 have e:nw [d,r1,r2,r3,f] c=[d+19#64*(c&&&2251799813685247#64),r1+19#64*(c>>>51),r2,r3,f]:=rfl;rw[e];obtain⟨⟨u,g1⟩,g2⟩:=zY [d+19#64*(c&&&2251799813685247#64),r1+19#64*(c>>>51),r2,r3,f] rfl (by
  simp only[qj,qJ,false_implies,implies_true,and_true];omega)
 refine⟨g2,?_⟩;have o:js (eM a b 5)=aT [d+19#64*(c&&&2251799813685247#64),r1+19#64*(c>>>51),r2,r3,f]+Pq*c.toNat:=by
  simp only[aT] at*;rw[k0,k1];unfold Pq;omega
 rw[o,qQ,g1,qQ]
def gR (a b:List (BitVec 64)):List (BitVec 64):=cJ (jV a b 5) 2
def ib (a b:List (BitVec 64)):List (BitVec 64):=cJ (dD a b 5) 2
theorem rW (a b:List (BitVec 64))(c:sm a)(d:sm b):sm (gR a b)/\aT (gR a b)%Pq=(aT a+aT b)%Pq:=by
 obtain⟨h1,h2⟩:=acf a b c d;obtain⟨⟨q,e⟩,f⟩:=zY _ (by rw[Am,c.1]) h2;exact⟨f,by rw[<-h1,e,qQ];rfl⟩
theorem uX (a b:List (BitVec 64))(c:sm a)(d:sm b):sm (ib a b)/\((aT (ib a b):Nat):Int)%cH=((aT a:Int)-(aT b:Int))%cH:=by
 obtain⟨h1,h2⟩:=adX a b c d;obtain⟨⟨q,f⟩,e⟩:=zY _ (by rw[x9,c.1]) h2;refine⟨e,?_⟩;have :(aT a:Int)-(aT b:Int)=(aT (ib a b):Int)+cH*((q:Int)-4):=by
  show _=((aT (cJ (dD a b 5) 2):Nat):Int)+_;unfold Pq cH at*;omega
 rw[this,Cp]
end Go.Vm
end
section
namespace Go.Vm
open Go.Proofs Go.Proofs.Tryz
theorem EG (l:List (BitVec 64))(i:Nat)(x y:BitVec 64):(l.set i x).set i y=l.set i y:=iX ..
theorem Gf (l:List (BitVec 64))(i:Nat)(x:BitVec 64)(h:i<l.length):(l.set i x).getD i 0=x:=by
 rw[aW,kL h];rfl
theorem vn (w:List (BitVec 64))(hw:w.length=5):aG prog 113 [.agg (w.map .u64)] (.agg ((cJ w 2).map .u64)):=by
 refine aQ ac (fn:=f113) ac func113 rfl am (by simp[lR,af,V.low]) (by simp[lR,V.low]) (ak ?_);simp only[go_sem,↓reduceIte,Nat.reduceLT,ntmps113];refine bq (fun m st=>∃ i:Nat,i+m=2/\st=⟨[(1,.ptr 0 0),(2,.ptr 1 0),(5,.i64 i)],[bK ((cJ w i).map .u64),bK [.u64 0#64,.u64 0#64,.u64 0#64,.u64 0#64,.u64 0#64]]⟩) ?_ ?_
 ·exact bJ (2) ⟨[(1,.ptr 0 0),(2,.ptr 1 0),(5,.i64 (0:Nat))],[bK ((cJ w (0:Nat)).map .u64),bK [.u64 0#64,.u64 0#64,.u64 0#64,.u64 0#64,.u64 0#64]]⟩ (by simp[St.get,aj,-List.map_set,-List.map_map]) rfl (fun _ _ h=>h) ⟨0,aa,rfl⟩
 rintro m st ⟨i,t,rfl⟩ _;simp only[go_sem,↓reduceIte,Nat.reduceEqDiff,Nat.reduceLT,Nat.reduceAdd,Int.reduceLT,BitVec.reduceOfInt];by_cases h0:i<2
 ·have f:(i:Int)<2:=aa;have a:=mN w i;rw[hw] at a;have g:cy (cJ w i)=cJ w (i+1):=rfl;simp only[go_sem,↓reduceIte,f];generalize cJ w i=v at a g |-
  refine bq (fun n st=>∃ k:Nat,k+n=5/\st=⟨[(1,.ptr 0 0),(2,.ptr 1 0),(3,.u64 (dg 0#64 v k).2),(5,.i64 i),(7,.i64 k)],[bK ((dg 0#64 v k).1.map .u64),bK [.u64 0#64,.u64 0#64,.u64 0#64,.u64 0#64,.u64 0#64]]⟩) ?_ ?_
  ·exact bJ (5) ⟨[(1,.ptr 0 0),(2,.ptr 1 0),(3,.u64 (dg 0#64 v (0:Nat)).2),(5,.i64 i),(7,.i64 (0:Nat))],[bK ((dg 0#64 v (0:Nat)).1.map .u64),bK [.u64 0#64,.u64 0#64,.u64 0#64,.u64 0#64,.u64 0#64]]⟩ (by simp[St.get,aj,-List.map_set,-List.map_map,dg]) rfl (fun _ _ h=>h) ⟨0,aa,rfl⟩
  rintro n st ⟨k,u,rfl⟩ _;simp only[go_sem,↓reduceIte,Nat.reduceEqDiff,Nat.reduceLT,Int.reduceLE,Int.reduceLT,Int.reduceToNat,BitVec.reduceOfInt,reduceCtorEq];have d:=Jq 0#64 v k;rw[a] at d;by_cases o:k<5
  ·have c:(k:Int)<5:=aa;have b:k<(dg 0#64 v k).1.length:=aa;have j:(dg 0#64 v k).1.set k (((dg 0#64 v k).1.getD k 0+(dg 0#64 v k).2)&&&2251799813685247#64)=(dg 0#64 v (k+1)).1:=rfl;have l:((dg 0#64 v k).1.getD k 0+(dg 0#64 v k).2)>>>51=(dg 0#64 v (k+1)).2:=rfl;have p:∀ x:BitVec 64,k<((dg 0#64 v k).1.set k x).length:=fun x=>by rw[aY];exact b
   have q:∀ x:BitVec 64,((dg 0#64 v k).1.set k x).getD k 0=x:=fun x=>Gf _ _ _ b
   simp only[go_sem,↓reduceIte,Nat.reduceEqDiff,Nat.reduceLT,Nat.reduceLeDiff,Int.reduceLE,Int.reduceLT,BitVec.reduceOfInt,BitVec.reduceToNat,c,o,d,gu b,gu (p _),q,EG,j,l];iterate 7 refine⟨aa,?_⟩
   refine bx (n-1) ⟨[(1,.ptr 0 0),(2,.ptr 1 0),(3,.u64 (dg 0#64 v (k+1:Nat)).2),(5,.i64 i),(7,.i64 (k+1:Nat))],[bK ((dg 0#64 v (k+1:Nat)).1.map .u64),bK [.u64 0#64,.u64 0#64,.u64 0#64,.u64 0#64,.u64 0#64]]⟩ aa ?_ rfl (fun _ _ h=>h) ⟨k+1,aa,rfl⟩;have e:ao ((k:Int)+1)=((k+1:Nat):Int):=by rw[az aa aa];omega
   simp[St.get,aj,e,-List.map_set,-List.map_map]
  ·obtain rfl:k=5:=aa;have c:¬ ((5:Nat):Int)<5:=aa;have b:0<(dg 0#64 v 5).1.length:=aa;have r:(dg 0#64 v 5).1.set 0 ((dg 0#64 v 5).1.getD 0 0+19#64*(dg 0#64 v 5).2)=cJ w (i+1):=g;simp only[go_sem,↓reduceIte,Nat.reduceEqDiff,Nat.reduceLT,Nat.reduceLeDiff,Int.reduceLT,Int.reduceToNat,d,gu b];simp only[r];refine bx (m-1) ⟨[(1,.ptr 0 0),(2,.ptr 1 0),(5,.i64 (i+1:Nat))],[bK ((cJ w (i+1:Nat)).map .u64),bK [.u64 0#64,.u64 0#64,.u64 0#64,.u64 0#64,.u64 0#64]]⟩ aa ?_ rfl (fun _ _ h=>h) ⟨i+1,aa,rfl⟩;have e:ao ((i:Int)+1)=((i+1:Nat):Int):=by rw[az aa aa];omega
   simp[St.get,aj,e,-List.map_set,-List.map_map]
 ·obtain rfl:i=2:=aa;have f:¬ ((2:Nat):Int)<2:=aa;have a:=mN w 2;rw[hw] at a;have s:min 5 5=5:=rfl;simp only[go_sem,↓reduceIte,Nat.reduceEqDiff,Nat.reduceAdd,Int.reduceLT,a,s,bL,ar]
theorem pA (a b:List (BitVec 64))(k:a.length=5)(m:b.length=5):aG prog 78 [.agg (a.map .u64),.agg (b.map .u64)] (.agg ((gR a b).map .u64)):=by
 have f:=Am a b 5;rw[k] at f;have d:=vn (jV a b 5) f;have c:=mN (jV a b 5) 2;rw[f] at c;unfold gR;generalize cJ (jV a b 5) 2=r at d c |-
 refine aQ ac (fn:=f78) ac func78 rfl am (by simp[lR,af,V.low]) (by simp[lR,V.low]) (ak ?_);simp only[go_sem,seval,ntmps78];refine bq (fun g st=>∃ i:Nat,i+g=5/\st=⟨[(2,.ptr 0 0),(3,.ptr 1 0),(4,.ptr 2 0),(6,.i64 i)],[bK ((jV a b i).map .u64),bK (b.map .u64),bK [.u64 0#64,.u64 0#64,.u64 0#64,.u64 0#64,.u64 0#64]]⟩) ?_ ?_
 ·exact bJ (5) ⟨[(2,.ptr 0 0),(3,.ptr 1 0),(4,.ptr 2 0),(6,.i64 (0:Nat))],[bK ((jV a b (0:Nat)).map .u64),bK (b.map .u64),bK [.u64 0#64,.u64 0#64,.u64 0#64,.u64 0#64,.u64 0#64]]⟩ (by simp[St.get,aj,-List.map_set,-List.map_map]) rfl (fun _ _ h=>h) ⟨0,aa,rfl⟩
 rintro g st ⟨i,n,rfl⟩ _;simp only[go_sem,seval];by_cases h0:i<5
 ·have e:(i:Int)<5:=aa;have l:=Am a b i;rw[k] at l;have h1:i<(jV a b i).length:=aa;have h2:i<b.length:=aa;simp only[go_sem,seval,e,h0,l,m,gu h1,gu h2];refine⟨aa,aa,aa,aa,ac,?_⟩;refine bx (g-1) ⟨[(2,.ptr 0 0),(3,.ptr 1 0),(4,.ptr 2 0),(6,.i64 (i+1:Nat))],[bK ((jV a b (i+1:Nat)).map .u64),bK (b.map .u64),bK [.u64 0#64,.u64 0#64,.u64 0#64,.u64 0#64,.u64 0#64]]⟩ aa ?_ rfl (fun _ _ h=>h) ⟨i+1,aa,rfl⟩;have j:ao ((i:Int)+1)=((i+1:Nat):Int):=by rw[az aa aa];omega
  simp[St.get,aj,j,-List.map_set,-List.map_map]
 ·obtain rfl:i=5:=aa;have e:¬ ((5:Nat):Int)<5:=aa;have o:min 5 5=5:=rfl;simp only[go_sem,seval,f,ar];refine au (d) ?_;simp only[go_sem,seval,c,bL,ar]
theorem qC (a b:List (BitVec 64))(p:a.length=5)(q:b.length=5):aG prog 79 [.agg (a.map .u64),.agg (b.map .u64)] (.agg ((ib a b).map .u64)):=by
 have k:=x9 a b 5;rw[p] at k;have j:=vn (dD a b 5) k;have c:=mN (dD a b 5) 2;rw[k] at c;unfold ib;generalize cJ (dD a b 5) 2=r at j c |-
 refine aQ ac (fn:=f79) ac func79 rfl am (by simp[lR,af,V.low]) (by simp[lR,V.low]) (ak ?_);simp only[go_sem,↓reduceIte,Nat.reduceLT,Nat.reduceAdd,ntmps79];refine bq (fun l st=>∃ i:Nat,i+l=5/\st=⟨[(2,.ptr 0 0),(3,.ptr 1 0),(4,.ptr 2 0),(6,.i64 i)],[bK ((dD a b i).map .u64),bK (b.map .u64),bK [.u64 0#64,.u64 0#64,.u64 0#64,.u64 0#64,.u64 0#64]]⟩) ?_ ?_
 ·exact bJ (5) ⟨[(2,.ptr 0 0),(3,.ptr 1 0),(4,.ptr 2 0),(6,.i64 (0:Nat))],[bK ((dD a b (0:Nat)).map .u64),bK (b.map .u64),bK [.u64 0#64,.u64 0#64,.u64 0#64,.u64 0#64,.u64 0#64]]⟩ (by simp[St.get,aj,-List.map_set,-List.map_map]) rfl (fun _ _ h=>h) ⟨0,aa,rfl⟩
 rintro l st ⟨i,t,rfl⟩ _;simp only[go_sem,↓reduceIte,Nat.reduceEqDiff,Nat.reduceLT,Nat.reduceAdd,Int.reduceLE,Int.reduceLT,BitVec.reduceOfInt];by_cases h0:i<5
 ·have d:(i:Int)<5:=aa;have m:=x9 a b i;rw[p] at m;have h1:i<(dD a b i).length:=aa;have h2:i<b.length:=aa;by_cases s:i=0
  ·have e:=eq_true (show(i:Int)=0 by omega);have n:∀ x:BitVec 64,i<((dD a b i).set i x).length:=fun x=>by rw[aY];exact h1
   have o:∀ x:BitVec 64,((dD a b i).set i x).getD i 0=x:=fun x=>Gf _ _ _ h1
   have f:(dD a b i).set i ((dD a b i).getD i 0+(9007199254740988#64-b.getD i 0)-72#64)=dD a b (i+1):=by rw[dD,if_pos s]
   simp only[go_sem,↓reduceIte,Nat.reduceEqDiff,Nat.reduceLT,Nat.reduceLeDiff,Nat.reduceAdd,Int.reduceLE,Int.reduceLT,BitVec.reduceOfInt,d,h0,m,q,e,gu h1,gu h2,gu (n _),o,EG,f];refine⟨aa,aa,aa,aa,ac,?_⟩;refine⟨aa,aa,aa,?_⟩;refine bx (l-1) ⟨[(2,.ptr 0 0),(3,.ptr 1 0),(4,.ptr 2 0),(6,.i64 (i+1:Nat))],[bK ((dD a b (i+1:Nat)).map .u64),bK (b.map .u64),bK [.u64 0#64,.u64 0#64,.u64 0#64,.u64 0#64,.u64 0#64]]⟩ aa ?_ rfl (fun _ _ h=>h) ⟨i+1,aa,rfl⟩;have g:ao ((i:Int)+1)=((i+1:Nat):Int):=by rw[az aa aa];omega
   simp[St.get,aj,g,-List.map_set,-List.map_map]
  ·have e:¬ (i:Int)=0:=aa;have f:(dD a b i).set i ((dD a b i).getD i 0+(9007199254740988#64-b.getD i 0))=dD a b (i+1):=by rw[dD,if_neg s]
   simp only[go_sem,↓reduceIte,Nat.reduceEqDiff,Nat.reduceLT,Nat.reduceLeDiff,Nat.reduceAdd,d,h0,m,q,e,gu h1,gu h2,f];refine⟨aa,aa,aa,aa,ac,?_⟩;refine bx (l-1) ⟨[(2,.ptr 0 0),(3,.ptr 1 0),(4,.ptr 2 0),(6,.i64 (i+1:Nat))],[bK ((dD a b (i+1:Nat)).map .u64),bK (b.map .u64),bK [.u64 0#64,.u64 0#64,.u64 0#64,.u64 0#64,.u64 0#64]]⟩ aa ?_ rfl (fun _ _ h=>h) ⟨i+1,aa,rfl⟩;have g:ao ((i:Int)+1)=((i+1:Nat):Int):=by rw[az aa aa];omega
   simp[St.get,aj,g,-List.map_set,-List.map_map]
 ·obtain rfl:i=5:=aa;have d:¬ ((5:Nat):Int)<5:=aa;have u:min 5 5=5:=rfl;simp only[go_sem,↓reduceIte,Int.reduceLT,k,ar];refine au (j) ?_;simp only[go_sem,↓reduceIte,Nat.reduceEqDiff,Nat.reduceAdd,c,bL,ar]
theorem BC (x y c:BitVec 64)(hc:c.toNat<=1):ta prog 115 [.u64 x,.u64 y,.u64 c] (.tup [.u64 (x+y+c),.u64 (bO x y c)]):=GI x y c hc
theorem G0 (w:Wd)(x y:BitVec 64):aG prog 114 [.agg [.u64 w.1,.u64 w.2],.u64 x,.u64 y] (.agg [.u64 (k9 w x y).1,.u64 (k9 w x y).2]):=by
 have hc:=kM w.2 (x*y) 0#64 ah;unfold k9;refine aQ ac (fn:=f114) ac func114 rfl am (by simp[af,V.low]) (by simp[af,V.low]) (ak ?_);simp only[go_sem,seval,ntmps114];refine au (E7 x y) ?_;simp only[go_sem,seval];refine vU (BC w.2 (x*y) 0#64 ah) ?_;simp only[go_sem,seval];refine vU (BC w.1 (cL x y) (bO w.2 (x*y) 0#64) hc) ?_;simp only[go_sem,seval]
def eJ (s:List (BitVec 8)):List (BitVec 64):=cJ (pi (cE s 0) (cE s 1) (cE s 2) (cE s 3)) 2
theorem Hv (s:List (BitVec 8))(h:s.length=32):sm (eJ s)/\aT (eJ s)%Pq=le s%Pq:=by
 obtain⟨⟨q,b⟩,c⟩:=adZ (cE s 0) (cE s 1) (cE s 2) (cE s 3);obtain⟨⟨e,a⟩,d⟩:=zY _ rfl c;rw[ZR s h] at b;exact⟨d,by rw[b,a,qQ,qQ];rfl⟩
theorem agx (s:List (BitVec 8))(h:s.length=32):aG prog 76 [.str s] (.tup [.agg ((eJ s).map .u64),.bool true]):=by
 have h':(s.length:Int)=32:=aa;have k0:=iJ (s.drop (8*0)) (by rw[bU];omega);have k1:=iJ (s.drop (8*1)) (by rw[bU];omega);have k2:=iJ (s.drop (8*2)) (by rw[bU];omega);have i:=iJ (s.drop (8*3)) (by rw[bU];omega);rw[show BitVec.ofNat 64 (le ((s.drop (8*0)).take 8))=cE s 0 from rfl,show s.drop (8*0)=s from rfl] at k0;rw[show BitVec.ofNat 64 (le ((s.drop (8*1)).take 8))=cE s 1 from rfl,show s.drop (8*1)=s.drop 8 from rfl] at k1;rw[show BitVec.ofNat 64 (le ((s.drop (8*2)).take 8))=cE s 2 from rfl,show s.drop (8*2)=s.drop 16 from rfl] at k2;rw[show BitVec.ofNat 64 (le ((s.drop (8*3)).take 8))=cE s 3 from rfl,show s.drop (8*3)=s.drop 24 from rfl] at i;have f:s.take 32=s:=ar aa;have e:=mN (pi (cE s 0) (cE s 1) (cE s 2) (cE s 3)) 2;have g:=vn (pi (cE s 0) (cE s 1) (cE s 2) (cE s 3)) rfl;rw[show(pi (cE s 0) (cE s 1) (cE s 2) (cE s 3)).length=5 from rfl] at e;unfold eJ;generalize j:cJ (pi (cE s 0) (cE s 1) (cE s 2) (cE s 3)) 2=r at e g |-
 unfold pi at g;generalize cE s 0=a at*;generalize cE s 1=b at*;generalize cE s 2=c at*;generalize cE s 3=d at*;refine aQ ac (fn:=f76) ac func76 rfl am (by simp[af,V.low]) (by simp[lR,af,V.low]) (ak ?_);simp only[go_sem,seval,ntmps76,h];refine dz 5 ?_;simp only[go_sem,seval,h',f];refine au (k0) ?_;simp only[go_sem,seval,h',f];refine au (k1) ?_;simp only[go_sem,seval,h',f];refine au (k2) ?_;simp only[go_sem,seval,h',f];refine au (i) ?_;simp only[go_sem,seval];refine au (g) ?_;simp only[go_sem,seval,e,bL,ar]
 done
theorem GX (n:List (BitVec 64))(f:sm n):aG prog 82 [.agg (n.map .u64)] (.str (aV (aT n%Pq) 32)):=by
 obtain⟨k,l,o⟩:=Sp n f;rw[<-k,<-acD _ l o];have h1:=vn n f.1;have l1:=mN n 2;have h2:=vn (cJ n 2) (by rw[l1,f.1]);have l2:=mN (cJ n 2) 2;rw[l1,f.1] at l2;rw[f.1] at l1;clear k l o;generalize cJ (cJ n 2) 2=r at h2 l2 |-
 generalize cJ n 2=m at h1 h2 l1;obtain⟨a,b,c,d,e,rfl⟩:=five r l2;generalize g:((oh (oH [a,b,c,d,e])).getD 0 0)=w0;generalize h:((oh (oH [a,b,c,d,e])).getD 1 0)=w1;generalize i:((oh (oH [a,b,c,d,e])).getD 2 0)=p;generalize j:((oh (oH [a,b,c,d,e])).getD 3 0)=s;have a0:=Ej w0;have q:=rj (aV w0.toNat 8) w1 (by rw[bT];omega);have a2:=rj (aV w0.toNat 8++aV w1.toNat 8) p (by rw[aE,bT,bT];omega);have a3:=rj (aV w0.toNat 8++aV w1.toNat 8++aV p.toNat 8) s (by rw[aE,aE,bT,bT,bT];omega);rw[bT] at q;rw[aE,bT,bT] at a2;rw[aE,aE,bT,bT,bT] at a3;have t:min 5 5=5:=rfl;refine aQ ac (fn:=f82) ac func82 rfl am (by simp[lR,af,V.low]) (by simp[V.low]) (ak ?_);simp only[go_sem,seval,ntmps82,f.1,ar];refine au (h1) ?_;simp only[go_sem,seval];refine au (h2) ?_;simp only[go_sem,seval,f.1,bL];refine dz 5 ?_;simp only[go_sem,seval];generalize hc:((e+(d+(c+(b+(a+19#64)>>>51)>>>51)>>>51)>>>51)>>>51)=u;refine dz 6 ?_;simp only[go_sem,seval];simp only[oH,dh,oh,iI,ov,o8,hc] at g h i j;simp only[g,h,i,j];refine dz 5 ?_;simp only[go_sem,seval];refine aS [] (a0) ac ae rfl ae aM ae ae ae ae ae ?_;simp only[go_sem,seval];refine aS [1] (q) ac ae rfl ae aM ae ae ae ae ae ?_;simp only[go_sem,seval];refine aS [2] (a2) ac ae rfl ae aM ae ae ae ae ae ?_;simp only[go_sem,seval];refine aS [3] (a3) ac ae rfl ae aM ae ae ae ae ae ?_;simp only[go_sem,seval,bT,aE];rw[ar (by simp only[aE,bT];omega)];simp only[dV]
def de:List Wd->List V
 |[]=>[]
 |x::l=> .u64 x.1:: .u64 x.2::de l
theorem yB (l:List Wd):(de l).length=2*l.length:=by
 induction l with
 |nil=>rfl
 |cons x l ih=>rw[de,ce,ce,ih,ce];omega
theorem Hc (σ:Nat->Nat)(l:List Wd):rens σ (de l)=de l:=by
 induction l with
 |nil=>rfl
 |cons x l ih=>rw[de,rens,rens,ih];rfl
theorem HA (k:Nat)(l:List Wd):af k (de l):=by
 induction l with
 |nil=>trivial
 |cons x l ih=>exact⟨trivial,trivial,ih⟩
theorem D8 (l:List Wd):∀ i,i<l.length->((de l).drop (2*i)).take 2=[.u64 (l.getD i wz).1,.u64 (l.getD i wz).2]:=by
 induction l with
 |nil=>intro i h;simp at h
 |cons x l ih=>
  intro i h;cases i with
  |zero=>rfl
  |succ i=>
   rw[de,show 2*(i+1)=2*i+1+1 by omega,iK,iK,ih i (by simpa using h),o8]
theorem FB (l:List Wd)(y:Wd):∀ i,i<l.length->(de l).take (2*i)++[.u64 y.1,.u64 y.2]++(de l).drop (2*i+2)=de (l.set i y):=by
 induction l with
 |nil=>intro i h;simp at h
 |cons x l ih=>
  intro i h;cases i with
  |zero=>rfl
  |succ i=>
   have :=ih i (by simpa using h);rw[yo,de,de,<-this,show 2*(i+1)=2*i+1+1 by omega,cj,cj,show 2*i+1+1+2=(2*i+2)+1+1 by omega,iK,iK];rfl
def mI (w:List Wd)(i:Nat):List (BitVec 64):=(bY 0#64 (w.take i)).1++List.replicate (5-i) 0#64
theorem ahm (w:List Wd)(i:Nat)(h:i<=w.length)(a:w.length=5):(mI w i).length=5:=by
 unfold mI;rw[aE,wP,br,gv];omega
theorem SI (w:List Wd)(i:Nat)(h:i<w.length)(c:w.length=5):(mI w i).set i (((w.getD i wz).2+(bY 0#64 (w.take i)).2+0#64)&&&2251799813685247#64)=mI w (i+1)/\pj (bY 0#64 (w.take i)).2 (w.getD i wz)=(bY 0#64 (w.take (i+1))).2:=by
 have a:w.take (i+1)=w.take i++[w.getD i wz]:=by
  rw[o7 h,aW,aF h];rfl
 have b:(bY 0#64 (w.take i)).1.length=i:=by rw[wP,br];omega
 unfold mI;rw[a,Ue];refine⟨?_,rfl⟩;rw[ou _ _ aa,b,gf,show 5-i=(5-(i+1))+1 by omega,pz,iI];simp
theorem fq (a b:List (BitVec 64))(M:a.length=5)(C:b.length=5):aG prog 80 [.agg (a.map .u64),.agg (b.map .u64)] (.agg ((bE a b).map .u64)):=by
 have hm:min 5 5=5:=rfl;have O:(2:Nat)*5=10:=rfl;have D:∀ i,(de (eM a b i)).length=10:=fun i=>by rw[yB,tQ]
 refine aQ ac (fn:=f80) ac func80 rfl am (by simp[lR,af,V.low]) (by simp[lR,V.low]) (ak ?_);simp only[go_sem,↓reduceIte,Nat.reduceEqDiff,Nat.reduceLT,Nat.reduceAdd,ntmps80,M,ar];refine bq (fun E st=>∃ i:Nat,i+E=5/\st=⟨[(2,.ptr 0 0),(3,.ptr 1 0),(4,.ptr 2 0),(5,.ptr 3 0),(18,.agg (a.map .u64)),(19,.i64 i)],[bK (a.map .u64),bK (b.map .u64),bK [.u64 0#64,.u64 0#64,.u64 0#64,.u64 0#64,.u64 0#64],bK (de (eM a b i))]⟩) ?_ ?_
 ·exact bJ (5) ⟨[(2,.ptr 0 0),(3,.ptr 1 0),(4,.ptr 2 0),(5,.ptr 3 0),(18,.agg (a.map .u64)),(19,.i64 (0:Nat))],[bK (a.map .u64),bK (b.map .u64),bK [.u64 0#64,.u64 0#64,.u64 0#64,.u64 0#64,.u64 0#64],bK (de (eM a b (0:Nat)))]⟩ (by simp[St.get,aj,-List.map_set,-List.map_map]) rfl (fun _ _ h=>h) ⟨0,aa,rfl⟩
 rintro E st ⟨i,hi,rfl⟩ _;simp only[go_sem,↓reduceIte,Nat.reduceEqDiff,Nat.reduceLT,Nat.reduceAdd,Int.reduceLT,BitVec.reduceOfInt];by_cases h0:i<5
 ·have u:(i:Int)<5:=aa;have d:=tQ a b i;have F:i<a.length:=aa;have v:db a b (eM a b i) i 5=eM a b (i+1):=rfl;simp only[go_sem,↓reduceIte,u,h0,M,C,gu F,ar];generalize eM a b i=w at d v |-
  refine⟨aa,?_⟩;refine bq (fun B st=>∃ k:Nat,k+B=5/\st=⟨[(2,.ptr 0 0),(3,.ptr 1 0),(4,.ptr 2 0),(5,.ptr 3 0),(6,.i64 i),(7,.u64 (a.getD i 0)),(18,.agg (a.map .u64)),(19,.i64 i),(23,.agg (b.map .u64)),(24,.i64 k)],[bK (a.map .u64),bK (b.map .u64),bK [.u64 0#64,.u64 0#64,.u64 0#64,.u64 0#64,.u64 0#64],bK (de (db a b w i k))]⟩) ?_ ?_
  ·exact bJ (5) ⟨[(2,.ptr 0 0),(3,.ptr 1 0),(4,.ptr 2 0),(5,.ptr 3 0),(6,.i64 i),(7,.u64 (a.getD i 0)),(18,.agg (a.map .u64)),(19,.i64 i),(23,.agg (b.map .u64)),(24,.i64 (0:Nat))],[bK (a.map .u64),bK (b.map .u64),bK [.u64 0#64,.u64 0#64,.u64 0#64,.u64 0#64,.u64 0#64],bK (de (db a b w i (0:Nat)))]⟩ (by simp[St.get,aj,-List.map_set,-List.map_map]) rfl (fun _ _ h=>h) ⟨0,aa,rfl⟩
  rintro B st ⟨k,hk,rfl⟩ _;simp only[go_sem,↓reduceIte,Nat.reduceEqDiff,Nat.reduceLT,Int.reduceLE,Int.reduceLT,BitVec.reduceOfInt];have m:=CB a b w i k;rw[d] at m;by_cases x:k<5
  ·have g:(k:Int)<5:=aa;have y:k<b.length:=aa;have N:ao ((i:Int)+(k:Int))=((i+k:Nat):Int):=by rw[az aa aa];omega
   by_cases z:i+k<5
   ·have g1:¬ (5:Int)<=((i+k:Nat):Int):=aa;have g3:((i+k:Nat):Int)<5:=aa;have t:=D8 (db a b w i k) (i+k) aa;have fs:=FB (db a b w i k) (k9 ((db a b w i k).getD (i+k) wz) (a.getD i 0) (b.getD k 0)) (i+k) aa;have n:(db a b w i k).set (i+k) (k9 ((db a b w i k).getD (i+k) wz) (a.getD i 0) (b.getD k 0))=db a b w i (k+1):=by rw[db];unfold rU;rw[if_pos z]
    rw[n] at fs;have o:=G0 ((db a b w i k).getD (i+k) wz) (a.getD i 0) (b.getD k 0);have c:(de (db a b w i k)).length=10:=by rw[yB,m]
    have e:(i+k)*2=2*(i+k):=aa;simp only[go_sem,↓reduceIte,Nat.reduceLeDiff,g,x,C,gu y,N,g1,g3,e,t,c];refine⟨aa,aa,aa,?_⟩;refine au (o) ?_;simp only[go_sem,↓reduceIte,Nat.reduceEqDiff,Nat.reduceLT,Nat.reduceLeDiff,Nat.reduceAdd,g3,e,c];refine⟨aa,aa,?_⟩;rw[fs];refine bx (B-1) ⟨[(2,.ptr 0 0),(3,.ptr 1 0),(4,.ptr 2 0),(5,.ptr 3 0),(6,.i64 i),(7,.u64 (a.getD i 0)),(18,.agg (a.map .u64)),(19,.i64 i),(23,.agg (b.map .u64)),(24,.i64 (k+1:Nat))],[bK (a.map .u64),bK (b.map .u64),bK [.u64 0#64,.u64 0#64,.u64 0#64,.u64 0#64,.u64 0#64],bK (de (db a b w i (k+1:Nat)))]⟩ aa ?_ rfl (fun _ _ h=>h) ⟨k+1,aa,rfl⟩;have f:ao ((k:Int)+1)=((k+1:Nat):Int):=by rw[az aa aa];omega
    simp[St.get,aj,f,-List.map_set,-List.map_map]
   ·have g1:(5:Int)<=((i+k:Nat):Int):=aa;have P:ao (((i+k:Nat):Int)-5)=((i+k-5:Nat):Int):=by rw[az aa aa];omega
    have g3:((i+k-5:Nat):Int)<5:=aa;have g4:i+k-5<5:=aa;have t:=D8 (db a b w i k) (i+k-5) aa;have fs:=FB (db a b w i k) (k9 ((db a b w i k).getD (i+k-5) wz) (a.getD i 0) (19#64*b.getD k 0)) (i+k-5) aa;have n:(db a b w i k).set (i+k-5) (k9 ((db a b w i k).getD (i+k-5) wz) (a.getD i 0) (19#64*b.getD k 0))=db a b w i (k+1):=by rw[db];unfold rU;rw[if_neg z]
    rw[n] at fs;have o:=G0 ((db a b w i k).getD (i+k-5) wz) (a.getD i 0) (19#64*b.getD k 0);have c:(de (db a b w i k)).length=10:=by rw[yB,m]
    have e:(i+k-5)*2=2*(i+k-5):=aa;simp only[go_sem,↓reduceIte,Nat.reduceEqDiff,Nat.reduceLT,Nat.reduceLeDiff,g,x,C,gu y,N,P,g1,g3,e,t,c];refine⟨aa,aa,aa,?_⟩;refine au (o) ?_;simp only[go_sem,↓reduceIte,Nat.reduceEqDiff,Nat.reduceLT,Nat.reduceLeDiff,Nat.reduceAdd,g3,e,c];refine⟨aa,aa,?_⟩;rw[fs];refine bx (B-1) ⟨[(2,.ptr 0 0),(3,.ptr 1 0),(4,.ptr 2 0),(5,.ptr 3 0),(6,.i64 i),(7,.u64 (a.getD i 0)),(18,.agg (a.map .u64)),(19,.i64 i),(23,.agg (b.map .u64)),(24,.i64 (k+1:Nat))],[bK (a.map .u64),bK (b.map .u64),bK [.u64 0#64,.u64 0#64,.u64 0#64,.u64 0#64,.u64 0#64],bK (de (db a b w i (k+1:Nat)))]⟩ aa ?_ rfl (fun _ _ h=>h) ⟨k+1,aa,rfl⟩;have f:ao ((k:Int)+1)=((k+1:Nat):Int):=by rw[az aa aa];omega
    simp[St.get,aj,f,-List.map_set,-List.map_map]
  ·obtain rfl:k=5:=aa;have g:¬ ((5:Nat):Int)<5:=aa;simp only[go_sem,↓reduceIte,Int.reduceLT,v];refine bx (E-1) ⟨[(2,.ptr 0 0),(3,.ptr 1 0),(4,.ptr 2 0),(5,.ptr 3 0),(18,.agg (a.map .u64)),(19,.i64 (i+1:Nat))],[bK (a.map .u64),bK (b.map .u64),bK [.u64 0#64,.u64 0#64,.u64 0#64,.u64 0#64,.u64 0#64],bK (de (eM a b (i+1:Nat)))]⟩ aa ?_ rfl (fun _ _ h=>h) ⟨i+1,aa,rfl⟩;have f:ao ((i:Int)+1)=((i+1:Nat):Int):=by rw[az aa aa];omega
   simp[St.get,aj,f,-List.map_set,-List.map_map]
 ·obtain rfl:i=5:=aa;have u:¬ ((5:Nat):Int)<5:=aa;have d:=tQ a b 5;unfold bE;simp only[go_sem,↓reduceIte,Int.reduceLT,D];generalize eM a b 5=w at d |-
  have c:(de w).length=10:=by rw[yB,d]
  have Q:min 10 10=10:=rfl;simp only[go_sem,c,ar];refine bq (fun G st=>∃ q:Nat,q+G=5/\st=⟨[(4,.ptr 2 0),(11,.ptr 4 0),(12,.u64 (bY 0#64 (w.take q)).2),(47,.agg (de w)),(48,.i64 q)],[bK (a.map .u64),bK (b.map .u64),bK [.u64 0#64,.u64 0#64,.u64 0#64,.u64 0#64,.u64 0#64],bK (de w),bK ((mI w q).map .u64)]⟩) ?_ ?_
  ·exact bJ (5) ⟨[(4,.ptr 2 0),(11,.ptr 4 0),(12,.u64 (bY 0#64 (w.take (0:Nat))).2),(47,.agg (de w)),(48,.i64 (0:Nat))],[bK (a.map .u64),bK (b.map .u64),bK [.u64 0#64,.u64 0#64,.u64 0#64,.u64 0#64,.u64 0#64],bK (de w),bK ((mI w (0:Nat)).map .u64)]⟩ (by simp[St.get,aj,-List.map_set,-List.map_map,bY]) rfl (fun _ _ h=>h) ⟨0,aa,rfl⟩
  rintro G st ⟨q,hq,rfl⟩ _;simp only[go_sem,↓reduceIte,Nat.reduceEqDiff,Nat.reduceLT,Nat.reduceAdd,Int.reduceLE,Int.reduceLT,Int.reduceToNat,BitVec.reduceOfInt,reduceCtorEq];have H:=ahm w q aa d;by_cases R:q<5
  ·have l:(q:Int)<5:=aa;have t:=D8 w q aa;obtain⟨S,T⟩:=SI w q aa d;have e:q*2=2*q:=aa;have U:q<(mI w q).length:=aa;have W:=kM (w.getD q wz).2 (bY 0#64 (w.take q)).2 0#64 ah;have I:=BC (w.getD q wz).2 (bY 0#64 (w.take q)).2 0#64 ah;have X:((w.getD q wz).1+bO (w.getD q wz).2 (bY 0#64 (w.take q)).2 0#64)<<<13|||((w.getD q wz).2+(bY 0#64 (w.take q)).2+0#64)>>>51=(bY 0#64 (w.take (q+1))).2:=T
   have Y:((de w).drop (2*q)).take 2=[.u64 (w.getD q wz).1,.u64 (w.getD q wz).2]:=t;have J:min 2 (10-2*q)=2:=aa;have Z:((de w).drop (2*q)).length=10-2*q:=by rw[bU,c]
   simp only[go_sem,↓reduceIte,Nat.reduceEqDiff,Nat.reduceLT,Nat.reduceAdd,Int.reduceLT,BitVec.reduceOfInt,l,e,t,c,J];refine⟨aa,?_⟩;refine vU (I) ?_;simp only[go_sem,↓reduceIte,Nat.reduceEqDiff,Nat.reduceLT,Nat.reduceLeDiff,Nat.reduceAdd,Int.reduceLE,Int.reduceLT,BitVec.reduceOfInt,BitVec.reduceToNat,X,S,H];refine⟨aa,aa,?_⟩;have f:ao ((q:Int)+1)=((q+1:Nat):Int):=by rw[az aa aa];omega
   refine fZ (G-1) ⟨[(4,.ptr 2 0),(11,.ptr 4 0),(12,.u64 (bY 0#64 (w.take (q+1:Nat))).2),(47,.agg (de w)),(48,.i64 (q+1:Nat))],[bK (a.map .u64),bK (b.map .u64),bK [.u64 0#64,.u64 0#64,.u64 0#64,.u64 0#64,.u64 0#64],bK (de w),bK ((mI w (q+1:Nat)).map .u64)]⟩ [0,1,2,3,4] aa rfl ae rfl ah (by simp[dJ,St.get,aj,f,-List.map_map,-List.map_set,Hc,HA]) (by simp[Hc,HA]) ⟨q+1,aa,rfl⟩
  ·obtain rfl:q=5:=aa;have l:¬ ((5:Nat):Int)<5:=aa;have K:mI w 5=(bY 0#64 w).1:=by unfold mI;rw[ar aa];simp
   have L:w.take 5=w:=ar aa;have j:=wP w 0#64;rw[d] at j;have p:=vn (nw (bY 0#64 w).1 (bY 0#64 w).2) (by unfold nw;rw[aY,aY,j]);have s:=mN (nw (bY 0#64 w).1 (bY 0#64 w).2) 2;rw[show(nw (bY 0#64 w).1 (bY 0#64 w).2).length=5 by unfold nw;rw[aY,aY,j]] at s;generalize cJ (nw (bY 0#64 w).1 (bY 0#64 w).2) 2=res at p s |-
   unfold nw at p;generalize (bY 0#64 w).1=r at*;obtain⟨r0,r1,r2,r3,r4,rfl⟩:=five r j;have A:aG prog 113 [.agg [.u64 (r0+19#64*((bY 0#64 w).2&&&2251799813685247#64)),.u64 (r1+19#64*((bY 0#64 w).2>>>51)),.u64 r2,.u64 r3,.u64 r4]] (.agg (res.map .u64)):=p;simp only[go_sem,↓reduceIte,Nat.reduceEqDiff,Nat.reduceLT,Nat.reduceLeDiff,Nat.reduceAdd,Int.reduceLE,Int.reduceLT,Int.reduceToNat,BitVec.reduceOfInt,BitVec.reduceToNat,K,L];refine au (A) ?_;simp only[go_sem,↓reduceIte,Nat.reduceEqDiff,Nat.reduceAdd,s,bL,ar]
   done
end Go.Vm
end
section
namespace Go.Vm
open Go.Proofs
def bQ (r:List (BitVec 64))(m:List Int):Prop:=sm r/\bH m/\((aT r:Nat):Int)%cH=aO m%cH
theorem Ck (n:Nat):((n%Pq:Nat):Int)=(n:Int)%cH:=by unfold Pq cH;omega
theorem oE {a b:Nat}(h:a%Pq=b%Pq):(a:Int)%cH=(b:Int)%cH:=by rw[<-Ck,<-Ck,h]
theorem QE (s:List (BitVec 8))(h:s.length=32):bQ (eJ s) (gG s 16):=by
 obtain⟨h1,h2⟩:=Hv s h;obtain⟨a,b⟩:=JJ s h;exact⟨h1,a,by rw[b];exact oE h2⟩
theorem GY {r s:List (BitVec 64)}{m n:List Int}(h:bQ r m)(k:bQ s n):bQ (gR r s) (je m n 1):=by
 obtain⟨h1,h2⟩:=rW r s h.1 k.1;obtain⟨a,b⟩:=oe m n 1 h.2.1 k.2.1 ah;refine⟨h1,a,?_⟩;rw[b,oE h2,sV,sb,h.2.2,k.2.2,<-sb,Int.one_mul]
theorem DM {r s:List (BitVec 64)}{m n:List Int}(h:bQ r m)(k:bQ s n):bQ (ib r s) (je m n (-1)):=by
 obtain⟨h1,h2⟩:=uX r s h.1 k.1;obtain⟨a,b⟩:=oe m n (-1) h.2.1 k.2.1 ah;refine⟨h1,a,?_⟩;have e:aO m+-1*aO n=aO m-aO n:=aa;rw[b,h2,e];have c:=h.2.2;have d:=k.2.2;generalize cH=p at*;rw[uM,c,d,<-uM]
theorem kY {r s:List (BitVec 64)}{m n:List Int}(h:bQ r m)(k:bQ s n):bQ (bE r s) (dY m n):=by
 obtain⟨h1,h2⟩:=fM r s h.1 k.1;obtain⟨a,b⟩:=nu m n h.2.1 k.2.1;refine⟨h1,a,?_⟩;rw[b,oE h2,uO,j5,h.2.2,k.2.2,<-j5]
def zK (m:List Int):List (BitVec 8):=aV (aO m%cH).toNat 32
theorem JM {r:List (BitVec 64)}{m:List Int}(h:bQ r m):aV (aT r%Pq) 32=zK m:=by
 unfold zK;rw[<-h.2.2,<-Ck];rfl
end Go.Vm
end
section
namespace Go.Vm
open Go.Proofs Go.Proofs.Tryz
def iF:List (BitVec 64)->Nat
 |[]=>0
 |x::l=>x.toNat+18446744073709551616*iF l
theorem aee (l:List (BitVec 64)):∀ j,(l.getD j 0).toNat=iF l/18446744073709551616^j%18446744073709551616:=by
 induction l with
 |nil=>intro j;simp[iF]
 |cons b l ih=>
  intro j;have a:=b.isLt;cases j with
  |zero=>simp only[ov,iF,Ao,ur];omega
  |succ j=>
   rw[o8,ih,iF,iT,jv (18446744073709551616^j),<-mi,show(b.toNat+18446744073709551616*iF l)/18446744073709551616=iF l by omega]
def nI (ws:List (BitVec 64))(j:Nat):Prop:=(ws.getD (j/64) 0)>>>(j%64)&&&1#64=1#64
instance (ws:List (BitVec 64)) (j:Nat):Decidable (nI ws j):=by unfold nI;infer_instance
theorem Sh (ws:List (BitVec 64))(j:Nat):nI ws j↔iF ws/2^j%2=1:=by
 have a:=aee ws (j/64);have b:(2:Nat)^j=18446744073709551616^(j/64)*2^(j%64):=by
  rw[show(18446744073709551616:Nat)=2^64 from rfl,<-Nat.pow_mul,<-qm];congr 1;omega
 have c:(18446744073709551616:Nat)=2^(j%64)*(2*2^(63-j%64)):=by
  rw[<-Nat.pow_succ',<-qm,show j%64+(63-j%64).succ=64 by omega]
 unfold nI;rw[<-BitVec.toNat_inj,nM,show(1#64).toNat=2^1-1 from rfl,rb,oq,nT,a,b,<-mi];generalize iF ws/18446744073709551616^(j/64)=X;have :X%18446744073709551616/2^(j%64)%2=X/2^(j%64)%2:=by
  rw[c,Nat.mod_mul_right_div_self,Nat.mod_mul_right_mod]
 show X%18446744073709551616/2^(j%64)%2^1=1↔_;rw[show(2:Nat)^1=2 from rfl,this]
def oneE:List (BitVec 64):=[1#64,0#64,0#64,0#64,0#64]
theorem zx:sm oneE:=⟨rfl,fun x a=>by
 simp only[oneE,cQ,qJ,or_false,or_self] at a;rcases a with rfl|rfl
 ·exact sK (aH 1) aa
 ·exact sK (aH 0) aa⟩
def cv (x ws:List (BitVec 64)):Nat->List (BitVec 64)
 |0=>oneE
 |c+1=>if nI ws (64*ws.length-1-c) then bE (bE (cv x ws c) (cv x ws c)) x else bE (cv x ws c) (cv x ws c)
theorem vf (x ws:List (BitVec 64))(a:sm x)(c:Nat):sm (cv x ws c):=by
 induction c with
 |zero=>exact zx
 |succ c ih=>
  rw[cv];split
  ·exact(fM _ _ (fM _ _ ih ih).1 a).1
  ·exact(fM _ _ ih ih).1
theorem OE (x ws:List (BitVec 64))(i:sm x):∀ c,c<=64*ws.length->aT (cv x ws c)%Pq=aT x^(iF ws/2^(64*ws.length-c))%Pq:=by
 have g:iF ws<2^(64*ws.length):=by
  have :∀ l:List (BitVec 64),iF l<2^(64*l.length):=by
   intro l;induction l with
   |nil=>exact Nat.one_pos
   |cons y l ih=>
    have :=y.isLt;rw[ce,show 64*(l.length+1)=64*l.length+64 by omega,qm];show y.toNat+18446744073709551616*iF l<_;omega
  exact this ws
 intro c;induction c with
 |zero=>
  intro _;rw[Nat.sub_zero,zR g,Ao];rfl
 |succ c ih=>
  intro hc;have ih:=ih aa;have k:=vf x ws i c;have t1:=fM _ _ k k;have o:64*ws.length-c=(64*ws.length-1-c)+1:=aa;have p:64*ws.length-(c+1)=64*ws.length-1-c:=aa;rw[o] at ih;rw[p];have m:=Sh ws (64*ws.length-1-c);have n:cv x ws (c+1)=if nI ws (64*ws.length-1-c) then bE (bE (cv x ws c) (cv x ws c)) x else bE (cv x ws c) (cv x ws c):=rfl
  rw[n];clear n;generalize 64*ws.length-1-c=j at*;generalize cv x ws c=r at*;have t2:=fM (bE r r) x t1.1 i;generalize bE r r=r2 at*;have d:iF ws/2^(j+1)=iF ws/2^j/2:=by rw[iT,mi]
  rw[d] at ih;generalize iF ws/2^j=E at*;have f:aT r2%Pq=aT x^(2*(E/2))%Pq:=by
   rw[t1.2,yd,ih,<-yd,<-qm,Nat.two_mul]
  by_cases a:nI ws j
  ·rw[if_pos a];have h1:=m.1 a;have h:E=2*(E/2)+1:=aa;have b:aT x^E=aT x^(2*(E/2))*aT x:=by rw[<-iT];exact congrArg (aT x^·) h
   rw[t2.2,yd,f,<-yd,b]
  ·rw[if_neg a];have h1:¬ E%2=1:=fun e=>a (m.2 e)
   have h:E=2*(E/2):=aa;have b:aT x^E=aT x^(2*(E/2)):=congrArg (aT x^·) h;rw[f,b]
theorem Fu:aG prog 77 [] (.agg (oneE.map .u64)):=by
 rw[show oneE.map V.u64=[V.u64 1#64,V.u64 0#64,V.u64 0#64,V.u64 0#64,V.u64 0#64] from rfl];refine aQ ac (fn:=f77) ac func77 rfl am (by simp[af]) (by simp[af,V.low]) (ak ?_);simp only[go_sem,seval,ntmps77,results77]
theorem FH (x ws:List (BitVec 64))(i:sm x)(E:ws.length<=100):aq prog 81 [.agg (x.map .u64),.slice 0 0 ws.length 1] [bK (ws.map .u64)] (.agg ((cv x ws (64*ws.length)).map .u64)) [bK (ws.map .u64)]:=by
 have F:min 5 5=5:=rfl;have t:(oneE.map V.u64).length=5:=rfl;have G:oneE.length=5:=rfl;have j:∀ c,(cv x ws c).length=5:=fun c=>(vf x ws i c).1
 have H:cv x ws 0=oneE:=rfl;refine bf ac (fn:=f81) func81 rfl am (ak ?_);simp only[go_sem,↓reduceIte,Nat.reduceLT,Nat.reduceAdd,ntmps81];refine au (Fu) ?_;simp only[go_sem,↓reduceIte,Nat.reduceEqDiff,Nat.reduceLT,Nat.reduceAdd,t,bL];generalize C:ws.length=N at E |-
 have I:ao ((N:Int)-1)=(N:Int)-1:=az aa aa;simp only[go_sem,I];have k:oneE=cv x ws (64*0):=rfl;rw[k];refine bq (fun v st=>∃ u:Nat,u+v=N/\st=⟨[(1,.slice 0 0 N 1),(2,.ptr 1 0),(4,.ptr 2 0),(5,.ptr 3 0),(6,.i64 ((N:Int)-1-u))],[bK (ws.map .u64),bK (x.map .u64),bK [.u64 0#64,.u64 0#64,.u64 0#64,.u64 0#64,.u64 0#64],bK ((cv x ws (64*u)).map .u64)]⟩) ?_ ?_
 ·exact bJ (N) ⟨[(1,.slice 0 0 N 1),(2,.ptr 1 0),(4,.ptr 2 0),(5,.ptr 3 0),(6,.i64 ((N:Int)-1-(0:Nat)))],[bK (ws.map .u64),bK (x.map .u64),bK [.u64 0#64,.u64 0#64,.u64 0#64,.u64 0#64,.u64 0#64],bK ((cv x ws (64*(0:Nat))).map .u64)]⟩ (by simp[St.get,aj,-List.map_set,-List.map_map]) rfl (fun _ _ h=>h) ⟨0,aa,rfl⟩
 rintro v st ⟨u,hu,rfl⟩ _;simp only[go_sem,↓reduceIte,Nat.reduceEqDiff,Nat.reduceLT,Nat.reduceAdd];by_cases h0:u<N
 ·have g:(0:Int)<=(N:Int)-1-(u:Int):=aa;simp only[go_sem,↓reduceIte,g];have w:cv x ws (64*u)=cv x ws (64*u+0):=rfl;rw[w];refine bq (fun s st=>∃ q:Nat,q+s=64/\st=⟨[(1,.slice 0 0 N 1),(2,.ptr 1 0),(4,.ptr 2 0),(5,.ptr 3 0),(6,.i64 ((N:Int)-1-((u:Nat):Int))),(7,.i64 (63-q))],[bK (ws.map .u64),bK (x.map .u64),bK [.u64 0#64,.u64 0#64,.u64 0#64,.u64 0#64,.u64 0#64],bK ((cv x ws (64*u+q)).map .u64)]⟩) ?_ ?_
  ·exact bJ (64) ⟨[(1,.slice 0 0 N 1),(2,.ptr 1 0),(4,.ptr 2 0),(5,.ptr 3 0),(6,.i64 ((N:Int)-1-((u:Nat):Int))),(7,.i64 (63-(0:Nat)))],[bK (ws.map .u64),bK (x.map .u64),bK [.u64 0#64,.u64 0#64,.u64 0#64,.u64 0#64,.u64 0#64],bK ((cv x ws (64*u+(0:Nat))).map .u64)]⟩ (by simp[St.get,aj,-List.map_set,-List.map_map]) rfl (fun _ _ h=>h) ⟨0,aa,rfl⟩
  rintro s st ⟨q,O,rfl⟩ _;simp only[go_sem,↓reduceIte,Nat.reduceEqDiff,Nat.reduceLT];by_cases J:q<64
  ·have l:(0:Int)<=63-(q:Int):=aa;have K:(N:Int)-1-(u:Int)=((N-1-u:Nat):Int):=aa;have L:63-(q:Int)=((63-q:Nat):Int):=aa;have d:=j (64*u+q);have s1:=vf x ws i (64*u+q);have y:=fq (cv x ws (64*u+q)) (cv x ws (64*u+q)) d d;have f:=(fM _ _ s1 s1).1;have m:64*ws.length-1-(64*u+q)=64*(N-1-u)+(63-q):=by rw[C];omega
   have b:cv x ws (64*u+(q+1))=if nI ws (64*ws.length-1-(64*u+q)) then bE (bE (cv x ws (64*u+q)) (cv x ws (64*u+q))) x else bE (cv x ws (64*u+q)) (cv x ws (64*u+q)):=rfl
   rw[m] at b;have D:nI ws (64*(N-1-u)+(63-q))↔(ws.getD (N-1-u) 0)>>>(63-q)&&&1#64=1#64:=by
    unfold nI;rw[show(64*(N-1-u)+(63-q))/64=N-1-u by omega,show(64*(N-1-u)+(63-q))%64=63-q by omega]
   have n:=fq (bE (cv x ws (64*u+q)) (cv x ws (64*u+q))) x f.1 i.1;have o:=(fM _ _ f i).1.1;have M:((N-1-u:Nat):Int)<(N:Int):=aa;have z:N-1-u<N:=aa;have A:N-1-u<ws.length:=aa;have p:ao (((63-q:Nat):Int)-1)=63-((q+1:Nat):Int):=by rw[az aa aa];omega
   simp only[go_sem,L,K,d,ar];refine au (y) ?_;simp only[go_sem,↓reduceIte,Nat.reduceEqDiff,Nat.reduceLT,Int.reduceLE,Int.reduceLT,BitVec.reduceOfInt,d,f.1,bL,ar,M,z,C,gu A,p];refine⟨aa,aa,?_⟩;by_cases a:(ws.getD (N-1-u) 0)>>>(63-q)&&&1#64=1#64
   ·rw[if_pos (D.2 a)] at b;rw[<-b] at n o;simp only[go_sem,↓reduceIte,a,i.1,ar];refine au (n) ?_;simp only[go_sem,↓reduceIte,Nat.reduceEqDiff,Nat.reduceLT,o,f.1,bL,p];refine bx (s-1) ⟨[(1,.slice 0 0 N 1),(2,.ptr 1 0),(4,.ptr 2 0),(5,.ptr 3 0),(6,.i64 ((N-1-u:Nat):Int)),(7,.i64 (63-(((q+1:Nat):Nat):Int)))],[bK (ws.map .u64),bK (x.map .u64),bK [.u64 0#64,.u64 0#64,.u64 0#64,.u64 0#64,.u64 0#64],bK ((cv x ws (64*u+(q+1:Nat))).map .u64)]⟩ aa ?_ rfl (fun _ _ h=>h) ⟨q+1,aa,rfl⟩;have r:ao ((q:Int)+1)=((q+1:Nat):Int):=by rw[az aa aa];omega
    simp[St.get,aj,-List.map_set,-List.map_map]
   ·rw[if_neg (fun e=>a (D.1 e))] at b;simp only[go_sem,↓reduceIte,a,<-b];refine bx (s-1) ⟨[(1,.slice 0 0 N 1),(2,.ptr 1 0),(4,.ptr 2 0),(5,.ptr 3 0),(6,.i64 ((N-1-u:Nat):Int)),(7,.i64 (63-(((q+1:Nat):Nat):Int)))],[bK (ws.map .u64),bK (x.map .u64),bK [.u64 0#64,.u64 0#64,.u64 0#64,.u64 0#64,.u64 0#64],bK ((cv x ws (64*u+(q+1:Nat))).map .u64)]⟩ aa ?_ rfl (fun _ _ h=>h) ⟨q+1,aa,rfl⟩;have r:ao ((q:Int)+1)=((q+1:Nat):Int):=by rw[az aa aa];omega
    simp[St.get,aj,-List.map_set,-List.map_map]
  ·obtain rfl:q=64:=aa;have l:¬ (0:Int)<=63-((64:Nat):Int):=aa;have B:ao ((N:Int)-1-(u:Int)-1)=(N:Int)-1-((u+1:Nat):Int):=by rw[az aa aa];omega
   simp only[go_sem,↓reduceIte,Int.reduceLE,Int.reduceSub,Int.reduceNeg,B];rw[show 64*u+64=64*(u+1) by omega];refine bx (v-1) ⟨[(1,.slice 0 0 N 1),(2,.ptr 1 0),(4,.ptr 2 0),(5,.ptr 3 0),(6,.i64 ((N:Int)-1-(((u+1:Nat):Nat):Int)))],[bK (ws.map .u64),bK (x.map .u64),bK [.u64 0#64,.u64 0#64,.u64 0#64,.u64 0#64,.u64 0#64],bK ((cv x ws (64*(u+1:Nat))).map .u64)]⟩ aa ?_ rfl (fun _ _ h=>h) ⟨u+1,aa,rfl⟩;have r:ao ((u:Int)+1)=((u+1:Nat):Int):=by rw[az aa aa];omega
   simp[St.get,aj,-List.map_set,-List.map_map]
 ·obtain rfl:u=N:=aa;have g:¬ (0:Int)<=(u:Int)-1-(u:Int):=aa;simp only[go_sem,↓reduceIte,Nat.reduceEqDiff,Nat.reduceAdd,g,j,F,bL,ar];exact Fin.ren [0] ae ae aZ ah ae ae
end Go.Vm
end
section
namespace Go.Vm
open Go.Proofs
def nC:List Int:=[1,0,0,0,0,0,0,0,0,0,0,0,0,0,0,0]
theorem ok_one:bH nC:=⟨rfl,ah⟩
def k8 (m:List Int)(s:List (BitVec 8)):Nat->List Int
 |0=>nC
 |c+1=>if s.getD c 0=49#8 then dY (dY (k8 m s c) (k8 m s c)) m else dY (k8 m s c) (k8 m s c)
theorem Df (m:List Int)(s:List (BitVec 8))(a:bH m)(c:Nat):bH (k8 m s c):=by
 induction c with
 |zero=>exact ok_one
 |succ c ih=>
  rw[k8];split
  ·exact(nu _ _ (nu _ _ ih ih).1 a).1
  ·exact(nu _ _ ih ih).1
def qy (s:List (BitVec 8)):Nat->Nat
 |0=>0
 |c+1=>if s.getD c 0=49#8 then 2*qy s c+1 else 2*qy s c
theorem Kz (m:List Int)(s:List (BitVec 8))(b:bH m)(c:Nat):aO (k8 m s c)%cH=aO m^qy s c%cH:=by
 induction c with
 |zero=>
  show aO nC%cH=aO m^0%cH;rw[xQ];decide
 |succ c ih=>
  have d:=Df m s b c;have t1:=nu _ _ d d;have t2:=nu _ _ t1.1 b;have a:aO (dY (k8 m s c) (k8 m s c))%cH=aO m^(2*qy s c)%cH:=by
   rw[t1.2,j5,ih,<-j5,<-Int.pow_add,Nat.two_mul]
  rw[k8,qy];by_cases h:s.getD c 0=49#8
  ·rw[if_pos h,if_pos h,t2.2,j5,a,<-j5,mV]
  ·rw[if_neg h,if_neg h,a]
theorem aeF {a b p:Int}(h:a%p=b%p)(k:Nat):a^k%p=b^k%p:=by
 induction k with
 |zero=>rw[xQ,xQ]
 |succ k ih=>rw[mV,mV,j5,ih,h,<-j5]
theorem GQ {x ws:List (BitVec 64)}{m:List Int}{s:List (BitVec 8)}(h:bQ x m)(a:iF ws=qy s s.length):bQ (cv x ws (64*ws.length)) (k8 m s s.length):=by
 refine⟨vf x ws h.1 _,Df m s h.2.1 _,?_⟩;have h1:=OE x ws h.1 (64*ws.length) (aH _);rw[gf,Ao,ur,a] at h1;have h2:=oE h1;rw[h2,Kz m s h.2.1,Int.natCast_pow];exact aeF h.2.2 _
def lz (n:BitVec 64):List (BitVec 64):=[n-20#64,n,n,n>>>1]
def bitsP:List (BitVec 8):=List.replicate 250 49#8++[48#8,49#8,48#8,49#8,49#8]
theorem IE:iF (lz 18446744073709551615#64)=qy bitsP bitsP.length:=ac
def yH (m:List Int):List Int:=k8 m bitsP bitsP.length
end Go.Vm
end
section
namespace Go.Vm
open Go.Proofs Go.Proofs.Tryz
def dy (s:List (BitVec 8)):List (BitVec 8):=(s.set 0 (s.getD 0 0&&&248#8)).set 31 ((s.getD 31 0&&&127#8)|||64#8)
theorem FA (s:List (BitVec 8)):aG prog 53 [.str s] (.tup (if s.length=32 then[.str (dy s),.i64 0] else[.str [],.i64 1])):=by
 by_cases h:s.length=32
 ·rw[if_pos h];refine aQ ac (fn:=f53) ac func53 rfl am (by simp[af,V.low]) (by simp[af,V.low]) (ak ?_);simp only[go_sem,↓reduceIte,Nat.reduceEqDiff,Nat.reduceLT,Nat.reduceLeDiff,Nat.reduceAdd,Int.reduceLE,Int.reduceLT,Int.reduceToNat,BitVec.reduceOfInt,reduceCtorEq,ntmps53,results53,h,iV];rw[ar (by simp[h])];have e:(s.set 0 (s.getD 0 0&&&248#8)).getD 31 0=s.getD 31 0:=by simp[aW]
  rw[e];rfl
 ·rw[if_neg h];have h':¬ (s.length:Int)=32:=aa;refine aQ ac (fn:=f53) ac func53 rfl am (by simp[af,V.low]) (by simp[af,V.low]) (ak ?_);simp only[go_sem,↓reduceIte,Nat.reduceLT,reduceCtorEq,ntmps53,results53,h']
abbrev Pt:=List Int×List Int
def dX (p:Pt):Prop:=bH p.1/\bH p.2
theorem vd {a b:List Int}{t:Int}(c:bH a)(d:bH b)(e:-1<=t/\t<=200000):bH (je a b t):=(oe a b t c d e).1
theorem oV {a b:List Int}(c:bH a)(d:bH b):bH (dY a b):=(nu a b c d).1
def pS (p:Pt):List Int:=je p.1 p.2 1
def pD (p:Pt):List Int:=je p.1 p.2 (-1)
def dA (p:Pt):List Int:=dY (pS p) (pS p)
def dB (p:Pt):List Int:=dY (pD p) (pD p)
def dE (p:Pt):List Int:=je (dA p) (dB p) (-1)
def dF (p:Pt):List Int:=je (dA p) (dE p) 121665
def oO (p:Pt):Pt:=(dY (dA p) (dB p),dY (dE p) (dF p))
def uC (p q:Pt):List Int:=dY (pD p) (pS q)
def uI (p q:Pt):List Int:=dY (pS p) (pD q)
def aC (p q:Pt):List Int:=je (uC p q) (uI p q) 1
def aD (p q:Pt):List Int:=je (uC p q) (uI p q) (-1)
def rm (p q:Pt):List Int:=dY (aD p q) (aD p q)
def np (p q:Pt)(x:List Int):Pt:=(dY (aC p q) (aC p q),dY x (rm p q))
theorem pG {p:Pt}(h:dX p):bH (pS p):=vd h.1 h.2 ah
theorem pM {p:Pt}(h:dX p):bH (pD p):=vd h.1 h.2 ah
theorem tF {p:Pt}(h:dX p):bH (dA p):=oV (pG h) (pG h)
theorem As {p:Pt}(h:dX p):bH (dB p):=oV (pM h) (pM h)
theorem xW {p:Pt}(h:dX p):bH (dE p):=vd (tF h) (As h) ah
theorem Lq {p:Pt}(h:dX p):bH (dF p):=vd (tF h) (xW h) ah
theorem E3 {p:Pt}(h:dX p):dX (oO p):=by
 dsimp only[dX,oO];exact⟨oV (tF h) (As h),oV (xW h) (Lq h)⟩
theorem yi {p q:Pt}(a:dX p)(b:dX q):bH (uC p q):=oV (pM a) (pG b)
theorem zl {p q:Pt}(a:dX p)(b:dX q):bH (uI p q):=oV (pG a) (pM b)
theorem Ad {p q:Pt}(a:dX p)(b:dX q):bH (aC p q):=vd (yi a b) (zl a b) ah
theorem y9 {p q:Pt}(a:dX p)(b:dX q):bH (aD p q):=vd (yi a b) (zl a b) ah
theorem KU {p q:Pt}(a:dX p)(b:dX q):bH (rm p q):=oV (y9 a b) (y9 a b)
theorem Ln {p q:Pt}{x:List Int}(a:dX p)(b:dX q)(c:bH x):dX (np p q x):=by
 dsimp only[dX,np];exact⟨oV (Ad a b) (Ad a b),oV c (KU a b)⟩
end Go.Vm
end
section
namespace Go.Vm
open Go.Proofs
def gg (x:List Int)(bits:List (BitVec 8)):Nat->Pt×Pt
 |0=>((nC,List.replicate 16 0),(x,nC))
 |c+1=>if bits.getD c 0=48#8 then(oO (gg x bits c).1,np (gg x bits c).1 (gg x bits c).2 x) else(np (gg x bits c).1 (gg x bits c).2 x,oO (gg x bits c).2)
theorem J1:bH (List.replicate 16 0):=⟨rfl,ah⟩
theorem F7 (x:List Int)(bits:List (BitVec 8))(a:bH x)(c:Nat):dX (gg x bits c).1/\dX (gg x bits c).2:=by
 induction c with
 |zero=>exact⟨⟨ok_one,J1⟩,⟨a,ok_one⟩⟩
 |succ c ih=>
  rw[gg];split
  ·exact⟨E3 ih.1,Ln ih.1 ih.2 a⟩
  ·exact⟨Ln ih.1 ih.2 a,E3 ih.2⟩
section
theorem Hn {r s:List (BitVec 64)}{m n:List Int}(h:bQ r m)(k:bQ s n):bQ (bE r s) (dY n m):=by
 obtain⟨h1,h2⟩:=fM r s h.1 k.1;obtain⟨a,b⟩:=nu n m k.2.1 h.2.1;refine⟨h1,a,?_⟩;rw[b,oE h2,uO,sQ,j5,h.2.2,k.2.2,<-j5]
theorem QQ {r s:List (BitVec 64)}{m n:List Int}(h:bQ r m)(k:bQ s n):bQ (gR r s) (je n m 1):=by
 obtain⟨h1,h2⟩:=rW r s h.1 k.1;obtain⟨a,b⟩:=oe n m 1 k.2.1 h.2.1 ah;refine⟨h1,a,?_⟩;rw[b,oE h2,sV,Int.add_comm,sb,h.2.2,k.2.2,<-sb,Int.one_mul]
def Cz (r:List (BitVec 64))(m:List Int):Prop:=sm r/\bH m/\((aT r:Nat):Int)%cH=(-aO m)%cH
theorem Q9 {a b p:Int}(h:a%p=b%p):(-a)%p=(-b)%p:=by rw[<-Int.zero_sub a,<-Int.zero_sub b,uM,h,<-uM]
theorem aan {a b c d p:Int}(h:a%p=b%p)(k:c%p=d%p):(a-c)%p=(b-d)%p:=by rw[uM,h,k,<-uM]
theorem aem {r s:List (BitVec 64)}{m n:List Int}(h:bQ r m)(k:bQ s n):Cz (ib r s) (je n m (-1)):=by
 obtain⟨h1,h2⟩:=uX r s h.1 k.1;obtain⟨b,c⟩:=oe n m (-1) k.2.1 h.2.1 ah;refine⟨h1,b,?_⟩;have d:=aan h.2.2 k.2.2;have a:=Q9 c;have e:-(aO n+-1*aO m)=aO m-aO n:=aa;rw[e] at a;exact(h2.trans d).trans a.symm
theorem SC {r:List (BitVec 64)}{m:List Int}(h:Cz r m):bQ (bE r r) (dY m m):=by
 obtain⟨h1,h2⟩:=fM r r h.1 h.1;obtain⟨a,b⟩:=nu m m h.2.1 h.2.1;refine⟨h1,a,?_⟩;rw[b,oE h2,uO,j5,h.2.2,<-j5,Int.neg_mul_neg]
def a24:List (BitVec 64):=[121665#64,0#64,0#64,0#64,0#64]
theorem Fl:sm a24:=⟨rfl,fun x a=>by
 simp only[a24,cQ,qJ,or_false,or_self] at a;rcases a with rfl|rfl
 ·exact sK (aH 121665) aa
 ·exact sK (aH 0) aa⟩
theorem adk {r s:List (BitVec 64)}{m n:List Int}(h:bQ r m)(k:bQ s n):bQ (gR r (bE a24 s)) (je m n 121665):=by
 obtain⟨t1,t2⟩:=fM a24 s Fl k.1;obtain⟨h1,h2⟩:=rW r (bE a24 s) h.1 t1;obtain⟨a,b⟩:=oe m n 121665 h.2.1 k.2.1 ah;refine⟨h1,a,?_⟩;have e:aT a24=121665:=rfl;rw[e] at t2;rw[b,oE h2,sV,sb,h.2.2,oE t2,uO,j5 ((121665:Nat):Int),k.2.2,<-j5,<-sb];rfl
def kA (x z:List (BitVec 64)):=gR x z
def kB (x z:List (BitVec 64)):=ib x z
def iY (x z:List (BitVec 64)):=bE (kA x z) (kA x z)
def kC (x z:List (BitVec 64)):=bE (kB x z) (kB x z)
def kE (x z:List (BitVec 64)):=ib (iY x z) (kC x z)
def kT (x z:List (BitVec 64)):=bE a24 (kE x z)
def kU (x z:List (BitVec 64)):=gR (iY x z) (kT x z)
def j0 (x z:List (BitVec 64)):=bE (iY x z) (kC x z)
def jM (x z:List (BitVec 64)):=bE (kE x z) (kU x z)
def jX (x2 z2 x3 z3:List (BitVec 64)):=bE (kB x3 z3) (kA x2 z2)
def jW (x2 z2 x3 z3:List (BitVec 64)):=bE (kA x3 z3) (kB x2 z2)
def kX (x2 z2 x3 z3:List (BitVec 64)):=gR (jX x2 z2 x3 z3) (jW x2 z2 x3 z3)
def iO (x2 z2 x3 z3:List (BitVec 64)):=bE (kX x2 z2 x3 z3) (kX x2 z2 x3 z3)
def kZ (x2 z2 x3 z3:List (BitVec 64)):=ib (jX x2 z2 x3 z3) (jW x2 z2 x3 z3)
def me (x2 z2 x3 z3:List (BitVec 64)):=bE (kZ x2 z2 x3 z3) (kZ x2 z2 x3 z3)
def iS (x x2 z2 x3 z3:List (BitVec 64)):=bE x (me x2 z2 x3 z3)
def cn (x z:List (BitVec 64))(p:Pt):Prop:=bQ x p.1/\bQ z p.2
theorem tc {x z:List (BitVec 64)}{p:Pt}(h:cn x z p):bQ (kA x z) (pS p):=GY h.1 h.2
theorem uj {x z:List (BitVec 64)}{p:Pt}(h:cn x z p):bQ (kB x z) (pD p):=DM h.1 h.2
theorem Bb {x z:List (BitVec 64)}{p:Pt}(h:cn x z p):bQ (iY x z) (dA p):=kY (tc h) (tc h)
theorem Hd {x z:List (BitVec 64)}{p:Pt}(h:cn x z p):bQ (kC x z) (dB p):=kY (uj h) (uj h)
theorem Kx {x z:List (BitVec 64)}{p:Pt}(h:cn x z p):bQ (kE x z) (dE p):=DM (Bb h) (Hd h)
theorem ag3 {x z:List (BitVec 64)}{p:Pt}(h:cn x z p):bQ (kU x z) (dF p):=adk (Bb h) (Kx h)
theorem Ni {x z:List (BitVec 64)}{p:Pt}(h:cn x z p):bQ (j0 x z) (dY (dA p) (dB p)):=kY (Bb h) (Hd h)
theorem NL {x z:List (BitVec 64)}{p:Pt}(h:cn x z p):bQ (jM x z) (dY (dE p) (dF p)):=kY (Kx h) (ag3 h)
theorem Af {x z:List (BitVec 64)}{p:Pt}(h:cn x z p):cn (j0 x z) (jM x z) (oO p):=by
 dsimp only[cn,oO];exact⟨Ni h,NL h⟩
section
variable {x2 z2 x3 z3 x:List (BitVec 64)}{p q:Pt}{m:List Int}
theorem IH (h:cn x2 z2 p)(k:cn x3 z3 q):bQ (jX x2 z2 x3 z3) (uI p q):=Hn (uj k) (tc h)
theorem Fh (h:cn x2 z2 p)(k:cn x3 z3 q):bQ (jW x2 z2 x3 z3) (uC p q):=Hn (tc k) (uj h)
theorem Gl (h:cn x2 z2 p)(k:cn x3 z3 q):bQ (jX x2 z2 x3 z3) (uC q p):=kY (uj k) (tc h)
theorem Fv (h:cn x2 z2 p)(k:cn x3 z3 q):bQ (jW x2 z2 x3 z3) (uI q p):=kY (tc k) (uj h)
theorem KF (h:cn x2 z2 p)(k:cn x3 z3 q):bQ (kX x2 z2 x3 z3) (aC p q):=QQ (IH h k) (Fh h k)
theorem KC (h:cn x2 z2 p)(k:cn x3 z3 q):bQ (kX x2 z2 x3 z3) (aC q p):=GY (Gl h k) (Fv h k)
theorem VY (h:cn x2 z2 p)(k:cn x3 z3 q):Cz (kZ x2 z2 x3 z3) (aD p q):=aem (IH h k) (Fh h k)
theorem HU (h:cn x2 z2 p)(k:cn x3 z3 q):bQ (kZ x2 z2 x3 z3) (aD q p):=DM (Gl h k) (Fv h k)
theorem Gd (h:cn x2 z2 p)(k:cn x3 z3 q)(a:bQ x m):cn (iO x2 z2 x3 z3) (iS x x2 z2 x3 z3) (np p q m):=by
 have b:bQ (iO x2 z2 x3 z3) (dY (aC p q) (aC p q)):=kY (KF h k) (KF h k);have c:bQ (me x2 z2 x3 z3) (rm p q):=SC (VY h k);have d:bQ (iS x x2 z2 x3 z3) (dY m (rm p q)):=kY a c;dsimp only[cn,np];exact⟨b,d⟩
theorem G7 (h:cn x2 z2 p)(k:cn x3 z3 q)(a:bQ x m):cn (iO x2 z2 x3 z3) (iS x x2 z2 x3 z3) (np q p m):=by
 have b:bQ (iO x2 z2 x3 z3) (dY (aC q p) (aC q p)):=kY (KC h k) (KC h k);have c:bQ (me x2 z2 x3 z3) (rm q p):=kY (HU h k) (HU h k);have d:bQ (iS x x2 z2 x3 z3) (dY m (rm q p)):=kY a c;dsimp only[cn,np];exact⟨b,d⟩
end
structure L4 where
 x2:List (BitVec 64)
 z2:List (BitVec 64)
 x3:List (BitVec 64)
 z3:List (BitVec 64)
 sw:BitVec 8
def eU (x x2 z2 x3 z3:List (BitVec 64))(bit:BitVec 8):L4:=⟨j0 x2 z2,jM x2 z2,iO x2 z2 x3 z3,iS x x2 z2 x3 z3,bit⟩
def pt (x:List (BitVec 64))(L:L4)(bit:BitVec 8):L4:=if bit=L.sw then eU x L.x2 L.z2 L.x3 L.z3 bit else eU x L.x3 L.z3 L.x2 L.z2 bit
def iW (Q:List (BitVec 8))(t:Nat):BitVec 8:=(Q.getD (t/8) 0)>>>(t%8)&&&1#8
theorem ZS (Q:List (BitVec 8))(t:Nat):iW Q t=0#8\/iW Q t=1#8:=by
 have h:(iW Q t).toNat<2:=by
  unfold iW;rw[nM,show(1#8).toNat=2^1-1 from rfl,rb];omega
 have :(iW Q t).toNat=0\/(iW Q t).toNat=1:=aa;rcases this with e|e
 ·exact .inl (eE e)
 ·exact .inr (eE e)
def bz (x:List (BitVec 64))(Q:List (BitVec 8)):Nat->L4
 |0=>⟨oneE,List.replicate 5 0#64,x,oneE,0#8⟩
 |c+1=>pt x (bz x Q c) (iW Q (254-c))
def rR (Q:List (BitVec 8))(t:Nat):BitVec 8:=if iW Q t=0#8 then 48#8 else 49#8
def gm (Q:List (BitVec 8)):Nat->List (BitVec 8)
 |0=>[]
 |c+1=>gm Q c++[rR Q (254-c)]
theorem Yi (Q:List (BitVec 8))(c:Nat):(gm Q c).length=c:=by
 induction c with
 |zero=>rfl
 |succ c ih=>rw[gm,aE,ih];rfl
theorem Gy (Q:List (BitVec 8))(n:Nat):∀ c,c<n->(gm Q n).getD c 0=rR Q (254-c):=by
 induction n with
 |zero=>intro c h;omega
 |succ n ih=>
  intro c h;have a:=Yi Q n;rw[gm];by_cases h0:c<n
  ·rw[aW,gh aa,<-aW,ih c h0]
  ·obtain rfl:c=n:=aa;rw[aW,dL aa,a,gf];rfl
def RL (L:L4)(a:Pt×Pt):Prop:=(L.sw=0#8/\cn L.x2 L.z2 a.1/\cn L.x3 L.z3 a.2)\/(L.sw=1#8/\cn L.x3 L.z3 a.1/\cn L.x2 L.z2 a.2)
theorem EX {x a b c d:List (BitVec 64)}{p q:Pt}(h:cn (j0 a b) (jM a b) p)(k:cn (iO a b c d) (iS x a b c d) q):RL (eU x a b c d 0#8) (p,q):=by
 dsimp only[RL,eU];exact .inl ⟨Eq.refl (0#8:BitVec 8),h,k⟩
theorem HH {x a b c d:List (BitVec 64)}{p q:Pt}(h:cn (j0 a b) (jM a b) q)(k:cn (iO a b c d) (iS x a b c d) p):RL (eU x a b c d 1#8) (p,q):=by
 dsimp only[RL,eU];exact .inr ⟨Eq.refl (1#8:BitVec 8),k,h⟩
theorem FR:bQ oneE nC:=⟨zx,ok_one,ah⟩
theorem Hx:bQ (List.replicate 5 0#64) (List.replicate 16 0):=⟨⟨rfl,fun x a=>by rw[List.eq_of_mem_replicate a];exact sK (aH 0) aa⟩,J1,ah⟩
theorem ahf (x:List (BitVec 64))(m:List Int)(Q:List (BitVec 8))(e:bQ x m)(n:Nat):∀ c,c<=n->RL (bz x Q c) (gg m (gm Q n) c):=by
 intro c;induction c with
 |zero=>intro _;exact .inl ⟨rfl,⟨FR,Hx⟩,⟨e,FR⟩⟩
 |succ c ih=>
  intro hc;have ih:=ih aa;have j:=Gy Q n c aa;have l:=ZS Q (254-c);rw[bz,gg,j];generalize bz x Q c=L at*;generalize (gg m (gm Q n) c)=o at*;obtain⟨p,q⟩:=o;dsimp only at ih |-
  have k:rR Q (254-c)=if iW Q (254-c)=0#8 then 48#8 else 49#8:=rfl
  rw[k];clear k j;have f:∀ b,b=L.sw->pt x L b=eU x L.x2 L.z2 L.x3 L.z3 b:=fun b d=>by unfold pt;rw[if_pos d]
  have g:∀ b,¬ b=L.sw->pt x L b=eU x L.x3 L.z3 L.x2 L.z2 b:=fun b d=>by unfold pt;rw[if_neg d]
  generalize iW Q (254-c)=bit at*;have h:bit=0#8\/bit=1#8:=by assumption
  rcases h with d|d
  ·subst d;have i:(if(0#8:BitVec 8)=0#8 then(48#8:BitVec 8) else 49#8)=48#8:=ah;rw[i,if_pos (Eq.refl (48#8:BitVec 8))];rcases ih with⟨h1,h2,a⟩|⟨h1,h2,a⟩
   ·rw[f _ h1.symm];exact EX (Af h2) (Gd h2 a e)
   ·rw[g _ (by rw[h1];decide)];exact EX (Af h2) (Gd h2 a e)
  ·subst d;have i:(if(1#8:BitVec 8)=0#8 then(48#8:BitVec 8) else 49#8)=49#8:=ah;rw[i,if_neg (by decide:¬ (49#8:BitVec 8)=48#8)];rcases ih with⟨h1,h2,a⟩|⟨h1,h2,a⟩
   ·rw[g _ (by rw[h1];decide)];exact HH (Af a) (G7 a h2 e)
   ·rw[f _ h1.symm];exact HH (Af a) (G7 a h2 e)
end
end Go.Vm
end
section
namespace Go.Vm
open Go.Proofs Go.Proofs.Tryz
theorem af4 (x:List (BitVec 64))(Q:List (BitVec 8))(p:sm x)(c:Nat):sm (bz x Q c).x2/\sm (bz x Q c).z2/\sm (bz x Q c).x3/\sm (bz x Q c).z3:=by
 have core:∀ a b c d bit,sm a->sm b->sm c->sm d->sm (eU x a b c d bit).x2/\sm (eU x a b c d bit).z2/\sm (eU x a b c d bit).x3/\sm (eU x a b c d bit).z3:=by
  intro a b c d bit q r hc s;have i:sm (kA a b):=(rW a b q r).1;have j:sm (kB a b):=(uX a b q r).1;have z:sm (kA c d):=(rW c d hc s).1;have A:sm (kB c d):=(uX c d hc s).1;have e:sm (iY a b):=(fM _ _ i i).1;have f:sm (kC a b):=(fM _ _ j j).1;have t:sm (kE a b):=(uX _ _ e f).1;have B:sm (kT a b):=(fM _ _ Fl t).1;have C:sm (kU a b):=(rW _ _ e B).1;have k:sm (j0 a b):=(fM _ _ e f).1;have l:sm (jM a b):=(fM _ _ t C).1;have g:sm (jX a b c d):=(fM _ _ A i).1;have h:sm (jW a b c d):=(fM _ _ z j).1;have u:sm (kX a b c d):=(rW _ _ g h).1;have m:sm (iO a b c d):=(fM _ _ u u).1;have v:sm (kZ a b c d):=(uX _ _ g h).1;have n:sm (me a b c d):=(fM _ _ v v).1;have o:sm (iS x a b c d):=(fM _ _ p n).1;dsimp only[eU];exact⟨k,l,m,o⟩
 induction c with
 |zero=>exact⟨zx,Hx.1,p,zx⟩
 |succ c ih=>
  obtain⟨h1,h2,w,y⟩:=ih;rw[bz];unfold pt;split
  ·exact core _ _ _ _ _ h1 h2 w y
  ·exact core _ _ _ _ _ w y h1 h2
theorem G5 (x a b c d:List (BitVec 64))(bit:BitVec 8):(eU x a b c d bit).x2=j0 a b:=by dsimp only[eU]
theorem IY (x a b c d:List (BitVec 64))(bit:BitVec 8):(eU x a b c d bit).z2=jM a b:=by dsimp only[eU]
theorem FZ (x a b c d:List (BitVec 64))(bit:BitVec 8):(eU x a b c d bit).x3=iO a b c d:=by dsimp only[eU]
theorem Fs (x a b c d:List (BitVec 64))(bit:BitVec 8):(eU x a b c d bit).z3=iS x a b c d:=by dsimp only[eU]
theorem HR (x a b c d:List (BitVec 64))(bit:BitVec 8):(eU x a b c d bit).sw=bit:=by dsimp only[eU]
theorem ql (a b:List (BitVec 64))(h:a.length=5):(gR a b).length=5:=by unfold gR;rw[mN,Am,h]
theorem qi (a b:List (BitVec 64))(h:a.length=5):(ib a b).length=5:=by unfold ib;rw[mN,x9,h]
theorem hZ (a b:List (BitVec 64)):(bE a b).length=5:=by
 unfold bE nw;rw[mN,aY,aY,wP,tQ]
theorem VC (Q U:List (BitVec 8))(hQ:Q.length=32)(hU:U.length=32):aG prog 54 [.str Q,.str U] (.str (aV (aT (bE (if(bz (eJ U) Q 255).sw=1#8 then(bz (eJ U) Q 255).x3 else(bz (eJ U) Q 255).x2) (cv (if(bz (eJ U) Q 255).sw=1#8 then(bz (eJ U) Q 255).z3 else(bz (eJ U) Q 255).z2) (lz 18446744073709551615#64) (64*4)))%Pq) 32)):=by
 have hQ':(Q.length:Int)=32:=aa;have hr:=agx U hU;have hxs:=(Hv U hU).1;generalize eJ U=x at hr hxs |-
 have hx:=hxs.1;have hm:min 5 5=5:=rfl;have h24l:a24.length=5:=rfl;have hol:oneE.length=5:=rfl;have hone:=Fu;have h24:[V.u64 121665#64,V.u64 0#64,V.u64 0#64,V.u64 0#64,V.u64 0#64]=a24.map .u64:=rfl;have h0z:[V.u64 0#64,V.u64 0#64,V.u64 0#64,V.u64 0#64,V.u64 0#64]=(List.replicate 5 0#64).map .u64:=rfl;refine aQ ac (fn:=f54) ac func54 rfl am (by simp[af,V.low]) (by simp[V.low]) (ak ?_);simp only[go_sem,↓reduceIte,Nat.reduceEqDiff,Nat.reduceLT,Nat.reduceMul,ntmps54];refine au (hr) ?_;simp only[go_sem,↓reduceIte,Nat.reduceEqDiff,Nat.reduceLT,Nat.reduceLeDiff,Nat.reduceAdd,Int.reduceLE,Int.reduceLT,BitVec.reduceOfInt,hx,bL];refine aX (hone) ?_;simp only[go_sem,↓reduceIte,Nat.reduceEqDiff,Nat.reduceLT,Nat.reduceAdd,hx,ar];refine aX (hone) ?_;simp only[go_sem,↓reduceIte,Nat.reduceEqDiff,Nat.reduceLT,Nat.reduceAdd,Int.reduceLT,BitVec.reduceOfInt,hx,hol,bL];refine⟨ac,?_⟩;refine bq (fun jc st=>∃ c:Nat,c+jc=255/\st=⟨[(0,.str Q),(5,.ptr 0 0),(7,.ptr 1 0),(8,.ptr 2 0),(9,.ptr 3 0),(10,.ptr 4 0),(11,.ptr 5 0),(12,.u8 (bz x Q c).sw),(13,.i64 (254-((c:Nat):Int)))],[bK ((x).map .u64),bK ((a24).map .u64),bK (((bz x Q c).x2).map .u64),bK (((bz x Q c).z2).map .u64),bK (((bz x Q c).x3).map .u64),bK (((bz x Q c).z3).map .u64)]⟩) ?_ ?_
 ·exact bJ (255) ⟨[(0,.str Q),(5,.ptr 0 0),(7,.ptr 1 0),(8,.ptr 2 0),(9,.ptr 3 0),(10,.ptr 4 0),(11,.ptr 5 0),(12,.u8 (bz x Q (0:Nat)).sw),(13,.i64 (254-(((0:Nat):Nat):Int)))],[bK ((x).map .u64),bK ((a24).map .u64),bK (((bz x Q (0:Nat)).x2).map .u64),bK (((bz x Q (0:Nat)).z2).map .u64),bK (((bz x Q (0:Nat)).x3).map .u64),bK (((bz x Q (0:Nat)).z3).map .u64)]⟩ (by simp[St.get,aj,-List.map_set,-List.map_map,bz,oneE,List.replicate]) rfl (fun _ _ h=>h) ⟨0,aa,rfl⟩
 rintro jc st ⟨c,hc,rfl⟩ _;simp only[go_sem,↓reduceIte,Nat.reduceEqDiff,Nat.reduceLT,Nat.reduceLeDiff,Nat.reduceAdd,Int.reduceLE,Int.reduceLT,Int.reduceEq,BitVec.reduceOfInt,BitVec.reduceToNat,reduceCtorEq];obtain⟨s1,s2,s3,s4⟩:=af4 x Q hxs c;by_cases h0:c<255
 ·have h0':(0:Int)<=254-(c:Int):=aa;have ec:254-(c:Int)=((254-c:Nat):Int):=aa;have e1:ao (((254-c:Nat):Int)-1)=254-((c+1:Nat):Int):=by rw[az aa aa];omega
  have hst:pt x (bz x Q c) (iW Q (254-c))=bz x Q (c+1):=rfl;have m1:ao (((254-c:Nat):Int).tdiv 8)=(((254-c)/8:Nat):Int):=by rw[show(8:Int)=((8:Nat):Int) from rfl,Iv,az aa aa]
  have m2:((254-c:Nat):Int).tmod 8=(((254-c)%8:Nat):Int):=rfl;have g1:(((254-c)/8:Nat):Int)<32:=aa;have z1:(0:Int)<=(((254-c)/8:Nat):Int):=aa;have z2:(0:Int)<=(((254-c)%8:Nat):Int):=aa;have hbit:(Q.getD ((254-c)/8) 0)>>>((254-c)%8)&&&1#8=iW Q (254-c):=rfl;generalize iW Q (254-c)=bit at*;generalize hL:bz x Q c=L at*;obtain⟨X2,Z2,X3,Z3,sw⟩:=L;have l1:=s1.1;have l2:=s2.1;have l3:=s3.1;have l4:=s4.1;dsimp only at*;by_cases hb:bit=sw
  ·have hst2:bz x Q (c+1)=eU x X2 Z2 X3 Z3 bit:=by rw[<-hst];unfold pt;rw[if_pos hb]
   have n1:(bz x Q (c+1)).x2=j0 X2 Z2:=by rw[hst2,G5]
   have n2:(bz x Q (c+1)).z2=jM X2 Z2:=by rw[hst2,IY]
   have n3:(bz x Q (c+1)).x3=iO X2 Z2 X3 Z3:=by rw[hst2,FZ]
   have n4:(bz x Q (c+1)).z3=iS x X2 Z2 X3 Z3:=by rw[hst2,Fs]
   have n5:(bz x Q (c+1)).sw=bit:=by rw[hst2,HR]
   clear hst hst2;have tA:=pA X2 Z2 l1 l2;rw[show gR X2 Z2=kA X2 Z2 from rfl] at tA;have lA:(kA X2 Z2).length=5:=ql _ _ l1;have tB:=qC X2 Z2 l1 l2;rw[show ib X2 Z2=kB X2 Z2 from rfl] at tB;have lB:(kB X2 Z2).length=5:=qi _ _ l1;have tAA:=fq _ _ lA lA;rw[show bE (kA X2 Z2) (kA X2 Z2)=iY X2 Z2 from rfl] at tAA;have lAA:(iY X2 Z2).length=5:=hZ _ _;have tBB:=fq _ _ lB lB;rw[show bE (kB X2 Z2) (kB X2 Z2)=kC X2 Z2 from rfl] at tBB;have lBB:(kC X2 Z2).length=5:=hZ _ _;have tE:=qC _ _ lAA lBB;rw[show ib (iY X2 Z2) (kC X2 Z2)=kE X2 Z2 from rfl] at tE;have lE:(kE X2 Z2).length=5:=qi _ _ lAA;have tC:=pA X3 Z3 l3 l4;rw[show gR X3 Z3=kA X3 Z3 from rfl] at tC;have lC:(kA X3 Z3).length=5:=ql _ _ l3;have tD:=qC X3 Z3 l3 l4;rw[show ib X3 Z3=kB X3 Z3 from rfl] at tD;have lD:(kB X3 Z3).length=5:=qi _ _ l3;have tDA:=fq _ _ lD lA;rw[show bE (kB X3 Z3) (kA X2 Z2)=jX X2 Z2 X3 Z3 from rfl] at tDA;have lDA:(jX X2 Z2 X3 Z3).length=5:=hZ _ _;have tCB:=fq _ _ lC lB;rw[show bE (kA X3 Z3) (kB X2 Z2)=jW X2 Z2 X3 Z3 from rfl] at tCB;have lCB:(jW X2 Z2 X3 Z3).length=5:=hZ _ _;have tX:=pA _ _ lDA lCB;rw[show gR (jX X2 Z2 X3 Z3) (jW X2 Z2 X3 Z3)=kX X2 Z2 X3 Z3 from rfl] at tX;have lX:(kX X2 Z2 X3 Z3).length=5:=ql _ _ lDA;have tXX:=fq _ _ lX lX;rw[show bE (kX X2 Z2 X3 Z3) (kX X2 Z2 X3 Z3)=iO X2 Z2 X3 Z3 from rfl] at tXX;have lXX:(iO X2 Z2 X3 Z3).length=5:=hZ _ _;have tZ:=qC _ _ lDA lCB;rw[show ib (jX X2 Z2 X3 Z3) (jW X2 Z2 X3 Z3)=kZ X2 Z2 X3 Z3 from rfl] at tZ;have lZ:(kZ X2 Z2 X3 Z3).length=5:=qi _ _ lDA;have tZZ:=fq _ _ lZ lZ;rw[show bE (kZ X2 Z2 X3 Z3) (kZ X2 Z2 X3 Z3)=me X2 Z2 X3 Z3 from rfl] at tZZ;have lZZ:(me X2 Z2 X3 Z3).length=5:=hZ _ _;have tZ3:=fq _ _ hx lZZ;rw[show bE x (me X2 Z2 X3 Z3)=iS x X2 Z2 X3 Z3 from rfl] at tZ3;have lZ3:(iS x X2 Z2 X3 Z3).length=5:=hZ _ _;have tX2:=fq _ _ lAA lBB;rw[show bE (iY X2 Z2) (kC X2 Z2)=j0 X2 Z2 from rfl] at tX2;have lX2:(j0 X2 Z2).length=5:=hZ _ _;have tT:=fq _ _ h24l lE;rw[show bE a24 (kE X2 Z2)=kT X2 Z2 from rfl] at tT;have lT:(kT X2 Z2).length=5:=hZ _ _;have tU:=pA _ _ lAA lT;rw[show gR (iY X2 Z2) (kT X2 Z2)=kU X2 Z2 from rfl] at tU;have lU:(kU X2 Z2).length=5:=ql _ _ lAA;have tZ2:=fq _ _ lE lU;rw[show bE (kE X2 Z2) (kU X2 Z2)=jM X2 Z2 from rfl] at tZ2;have lZ2:(jM X2 Z2).length=5:=hZ _ _;generalize jM X2 Z2=vlZ2 at*;generalize kU X2 Z2=vlU at*;generalize kT X2 Z2=vlT at*;generalize j0 X2 Z2=vlX2 at*;generalize iS x X2 Z2 X3 Z3=vlZ3 at*;generalize me X2 Z2 X3 Z3=vlZZ at*;generalize kZ X2 Z2 X3 Z3=vlZ at*;generalize iO X2 Z2 X3 Z3=vlXX at*;generalize kX X2 Z2 X3 Z3=vlX at*;generalize jW X2 Z2 X3 Z3=vlCB at*;generalize jX X2 Z2 X3 Z3=vlDA at*;generalize kB X3 Z3=vlD at*;generalize kA X3 Z3=vlC at*;generalize kE X2 Z2=vlE at*;generalize kC X2 Z2=vlBB at*;generalize iY X2 Z2=vlAA at*;generalize kB X2 Z2=vlB at*;generalize kA X2 Z2=vlA at*;simp only[go_sem,↓reduceIte,Nat.reduceEqDiff,Nat.reduceLT,Nat.reduceLeDiff,Nat.reduceAdd,Int.reduceLE,Int.reduceLT,BitVec.reduceOfInt,BitVec.reduceToNat,reduceCtorEq,ec,m1,m2,g1,z1,z2,hQ',hbit,hb,l1,l2,l3,l4,hm,bL,ar];refine aX (tA) ?_;simp only[go_sem,↓reduceIte,Nat.reduceEqDiff,Nat.reduceLT,Nat.reduceAdd,reduceCtorEq,l1,l2,ar];refine aX (tB) ?_;simp only[go_sem,↓reduceIte,Nat.reduceEqDiff,Nat.reduceLT,Nat.reduceAdd,lA,lB,bL,ar];refine⟨ac,?_⟩;refine aX (tAA) ?_;simp only[go_sem,↓reduceIte,Nat.reduceEqDiff,Nat.reduceLT,Nat.reduceAdd,lB,ar];refine aX (tBB) ?_;simp only[go_sem,↓reduceIte,Nat.reduceEqDiff,Nat.reduceLT,Nat.reduceAdd,lAA,lBB,bL,ar];refine⟨ac,?_⟩;refine au (tE) ?_;simp only[go_sem,↓reduceIte,Nat.reduceEqDiff,Nat.reduceLT,Nat.reduceAdd,reduceCtorEq,l3,l4,lE,bL,ar];refine aX (tC) ?_;simp only[go_sem,↓reduceIte,Nat.reduceEqDiff,Nat.reduceLT,Nat.reduceAdd,reduceCtorEq,l3,l4,ar];refine aX (tD) ?_;simp only[go_sem,↓reduceIte,Nat.reduceEqDiff,Nat.reduceLT,Nat.reduceAdd,lA,lC,lD,bL,ar];refine⟨ac,?_⟩;refine aX (tDA) ?_;simp only[go_sem,↓reduceIte,Nat.reduceEqDiff,Nat.reduceLT,Nat.reduceAdd,lB,lC,ar];refine aX (tCB) ?_;simp only[go_sem,↓reduceIte,Nat.reduceEqDiff,Nat.reduceLT,Nat.reduceAdd,lDA,lCB,bL,ar];refine⟨ac,?_⟩;refine au (tX) ?_;simp only[go_sem,↓reduceIte,Nat.reduceEqDiff,Nat.reduceLT,reduceCtorEq,l3,lX,bL,ar];refine au (tXX) ?_;simp only[go_sem,↓reduceIte,Nat.reduceEqDiff,Nat.reduceLT,reduceCtorEq,lDA,lCB,lX,lXX,bL,ar];refine au (tZ) ?_;simp only[go_sem,↓reduceIte,Nat.reduceEqDiff,Nat.reduceLT,Nat.reduceAdd,reduceCtorEq,hx,l4,lZ,bL,ar];refine aX (tZZ) ?_;simp only[go_sem,↓reduceIte,Nat.reduceEqDiff,Nat.reduceLT];refine aX (tZ3) ?_;simp only[go_sem,↓reduceIte,Nat.reduceEqDiff,Nat.reduceLT,Nat.reduceAdd,reduceCtorEq,lAA,lBB,lZ,lZ3,bL,ar];refine⟨ac,?_⟩;refine au (tX2) ?_;simp only[go_sem,↓reduceIte,Nat.reduceEqDiff,Nat.reduceLT,Nat.reduceAdd,reduceCtorEq,h24l,l1,lAA,lE,lX2,bL,ar];refine aX (tT) ?_;simp only[go_sem,↓reduceIte,Nat.reduceEqDiff,Nat.reduceLT];refine aX (tU) ?_;simp only[go_sem,↓reduceIte,Nat.reduceEqDiff,Nat.reduceLT];refine aX (tZ2) ?_;simp only[go_sem,↓reduceIte,Nat.reduceEqDiff,Nat.reduceLT,Nat.reduceAdd,reduceCtorEq,l2,lZ2,bL,e1];refine⟨ac,?_⟩;have hw1:ao ((c:Int)+1)=((c+1:Nat):Int):=by rw[az aa aa];omega
   refine fZ (jc-1) ⟨[(0,.str Q),(5,.ptr 0 0),(7,.ptr 1 0),(8,.ptr 2 0),(9,.ptr 3 0),(10,.ptr 4 0),(11,.ptr 5 0),(12,.u8 (bz x Q (c+1:Nat)).sw),(13,.i64 (254-(((c+1:Nat):Nat):Int)))],[bK ((x).map .u64),bK ((a24).map .u64),bK (((bz x Q (c+1:Nat)).x2).map .u64),bK (((bz x Q (c+1:Nat)).z2).map .u64),bK (((bz x Q (c+1:Nat)).x3).map .u64),bK (((bz x Q (c+1:Nat)).z3).map .u64)]⟩ [0,1,2,3,4,5] aa rfl ae rfl ah (by simp[dJ,St.get,aj,-List.map_map,-List.map_set,n1,n2,n3,n4,n5,hb]) (by simp[n1,n2,n3,n4]) ⟨c+1,aa,rfl⟩
  ·have hst2:bz x Q (c+1)=eU x X3 Z3 X2 Z2 bit:=by rw[<-hst];unfold pt;rw[if_neg hb]
   have n1:(bz x Q (c+1)).x2=j0 X3 Z3:=by rw[hst2,G5]
   have n2:(bz x Q (c+1)).z2=jM X3 Z3:=by rw[hst2,IY]
   have n3:(bz x Q (c+1)).x3=iO X3 Z3 X2 Z2:=by rw[hst2,FZ]
   have n4:(bz x Q (c+1)).z3=iS x X3 Z3 X2 Z2:=by rw[hst2,Fs]
   have n5:(bz x Q (c+1)).sw=bit:=by rw[hst2,HR]
   clear hst hst2;have tA:=pA X3 Z3 l3 l4;rw[show gR X3 Z3=kA X3 Z3 from rfl] at tA;have lA:(kA X3 Z3).length=5:=ql _ _ l3;have tB:=qC X3 Z3 l3 l4;rw[show ib X3 Z3=kB X3 Z3 from rfl] at tB;have lB:(kB X3 Z3).length=5:=qi _ _ l3;have tAA:=fq _ _ lA lA;rw[show bE (kA X3 Z3) (kA X3 Z3)=iY X3 Z3 from rfl] at tAA;have lAA:(iY X3 Z3).length=5:=hZ _ _;have tBB:=fq _ _ lB lB;rw[show bE (kB X3 Z3) (kB X3 Z3)=kC X3 Z3 from rfl] at tBB;have lBB:(kC X3 Z3).length=5:=hZ _ _;have tE:=qC _ _ lAA lBB;rw[show ib (iY X3 Z3) (kC X3 Z3)=kE X3 Z3 from rfl] at tE;have lE:(kE X3 Z3).length=5:=qi _ _ lAA;have tC:=pA X2 Z2 l1 l2;rw[show gR X2 Z2=kA X2 Z2 from rfl] at tC;have lC:(kA X2 Z2).length=5:=ql _ _ l1;have tD:=qC X2 Z2 l1 l2;rw[show ib X2 Z2=kB X2 Z2 from rfl] at tD;have lD:(kB X2 Z2).length=5:=qi _ _ l1;have tDA:=fq _ _ lD lA;rw[show bE (kB X2 Z2) (kA X3 Z3)=jX X3 Z3 X2 Z2 from rfl] at tDA;have lDA:(jX X3 Z3 X2 Z2).length=5:=hZ _ _;have tCB:=fq _ _ lC lB;rw[show bE (kA X2 Z2) (kB X3 Z3)=jW X3 Z3 X2 Z2 from rfl] at tCB;have lCB:(jW X3 Z3 X2 Z2).length=5:=hZ _ _;have tX:=pA _ _ lDA lCB;rw[show gR (jX X3 Z3 X2 Z2) (jW X3 Z3 X2 Z2)=kX X3 Z3 X2 Z2 from rfl] at tX;have lX:(kX X3 Z3 X2 Z2).length=5:=ql _ _ lDA;have tXX:=fq _ _ lX lX;rw[show bE (kX X3 Z3 X2 Z2) (kX X3 Z3 X2 Z2)=iO X3 Z3 X2 Z2 from rfl] at tXX;have lXX:(iO X3 Z3 X2 Z2).length=5:=hZ _ _;have tZ:=qC _ _ lDA lCB;rw[show ib (jX X3 Z3 X2 Z2) (jW X3 Z3 X2 Z2)=kZ X3 Z3 X2 Z2 from rfl] at tZ;have lZ:(kZ X3 Z3 X2 Z2).length=5:=qi _ _ lDA;have tZZ:=fq _ _ lZ lZ;rw[show bE (kZ X3 Z3 X2 Z2) (kZ X3 Z3 X2 Z2)=me X3 Z3 X2 Z2 from rfl] at tZZ;have lZZ:(me X3 Z3 X2 Z2).length=5:=hZ _ _;have tZ3:=fq _ _ hx lZZ;rw[show bE x (me X3 Z3 X2 Z2)=iS x X3 Z3 X2 Z2 from rfl] at tZ3;have lZ3:(iS x X3 Z3 X2 Z2).length=5:=hZ _ _;have tX2:=fq _ _ lAA lBB;rw[show bE (iY X3 Z3) (kC X3 Z3)=j0 X3 Z3 from rfl] at tX2;have lX2:(j0 X3 Z3).length=5:=hZ _ _;have tT:=fq _ _ h24l lE;rw[show bE a24 (kE X3 Z3)=kT X3 Z3 from rfl] at tT;have lT:(kT X3 Z3).length=5:=hZ _ _;have tU:=pA _ _ lAA lT;rw[show gR (iY X3 Z3) (kT X3 Z3)=kU X3 Z3 from rfl] at tU;have lU:(kU X3 Z3).length=5:=ql _ _ lAA;have tZ2:=fq _ _ lE lU;rw[show bE (kE X3 Z3) (kU X3 Z3)=jM X3 Z3 from rfl] at tZ2;have lZ2:(jM X3 Z3).length=5:=hZ _ _;generalize jM X3 Z3=vlZ2 at*;generalize kU X3 Z3=vlU at*;generalize kT X3 Z3=vlT at*;generalize j0 X3 Z3=vlX2 at*;generalize iS x X3 Z3 X2 Z2=vlZ3 at*;generalize me X3 Z3 X2 Z2=vlZZ at*;generalize kZ X3 Z3 X2 Z2=vlZ at*;generalize iO X3 Z3 X2 Z2=vlXX at*;generalize kX X3 Z3 X2 Z2=vlX at*;generalize jW X3 Z3 X2 Z2=vlCB at*;generalize jX X3 Z3 X2 Z2=vlDA at*;generalize kB X2 Z2=vlD at*;generalize kA X2 Z2=vlC at*;generalize kE X3 Z3=vlE at*;generalize kC X3 Z3=vlBB at*;generalize iY X3 Z3=vlAA at*;generalize kB X3 Z3=vlB at*;generalize kA X3 Z3=vlA at*;simp only[go_sem,↓reduceIte,Nat.reduceEqDiff,Nat.reduceLT,Nat.reduceLeDiff,Nat.reduceAdd,Int.reduceLE,Int.reduceLT,BitVec.reduceOfInt,BitVec.reduceToNat,reduceCtorEq,ec,m1,m2,g1,z1,z2,hQ',hbit,hb,l1,l2,l3,l4,hm,bL,ar];refine⟨ac,?_⟩;refine aX (tA) ?_;simp only[go_sem,↓reduceIte,Nat.reduceEqDiff,Nat.reduceLT,Nat.reduceAdd,reduceCtorEq,l3,l4,ar];refine aX (tB) ?_;simp only[go_sem,↓reduceIte,Nat.reduceEqDiff,Nat.reduceLT,Nat.reduceAdd,lA,lB,bL,ar];refine⟨ac,?_⟩;refine aX (tAA) ?_;simp only[go_sem,↓reduceIte,Nat.reduceEqDiff,Nat.reduceLT,Nat.reduceAdd,lB,ar];refine aX (tBB) ?_;simp only[go_sem,↓reduceIte,Nat.reduceEqDiff,Nat.reduceLT,Nat.reduceAdd,lAA,lBB,bL,ar];refine⟨ac,?_⟩;refine au (tE) ?_;simp only[go_sem,↓reduceIte,Nat.reduceEqDiff,Nat.reduceLT,Nat.reduceAdd,reduceCtorEq,l1,l2,lE,bL,ar];refine aX (tC) ?_;simp only[go_sem,↓reduceIte,Nat.reduceEqDiff,Nat.reduceLT,Nat.reduceAdd,reduceCtorEq,l1,l2,ar];refine aX (tD) ?_;simp only[go_sem,↓reduceIte,Nat.reduceEqDiff,Nat.reduceLT,Nat.reduceAdd,lA,lC,lD,bL,ar];refine⟨ac,?_⟩;refine aX (tDA) ?_;simp only[go_sem,↓reduceIte,Nat.reduceEqDiff,Nat.reduceLT,Nat.reduceAdd,lB,lC,ar];refine aX (tCB) ?_;simp only[go_sem,↓reduceIte,Nat.reduceEqDiff,Nat.reduceLT,Nat.reduceAdd,lDA,lCB,bL,ar];refine⟨ac,?_⟩;refine au (tX) ?_;simp only[go_sem,↓reduceIte,Nat.reduceEqDiff,Nat.reduceLT,reduceCtorEq,l1,lX,bL,ar];refine au (tXX) ?_;simp only[go_sem,↓reduceIte,Nat.reduceEqDiff,Nat.reduceLT,reduceCtorEq,lDA,lCB,lX,lXX,bL,ar];refine au (tZ) ?_;simp only[go_sem,↓reduceIte,Nat.reduceEqDiff,Nat.reduceLT,Nat.reduceAdd,reduceCtorEq,hx,l2,lZ,bL,ar];refine aX (tZZ) ?_;simp only[go_sem,↓reduceIte,Nat.reduceEqDiff,Nat.reduceLT];refine aX (tZ3) ?_;simp only[go_sem,↓reduceIte,Nat.reduceEqDiff,Nat.reduceLT,Nat.reduceAdd,reduceCtorEq,lAA,lBB,lZ,lZ3,bL,ar];refine⟨ac,?_⟩;refine au (tX2) ?_;simp only[go_sem,↓reduceIte,Nat.reduceEqDiff,Nat.reduceLT,Nat.reduceAdd,reduceCtorEq,h24l,l3,lAA,lE,lX2,bL,ar];refine aX (tT) ?_;simp only[go_sem,↓reduceIte,Nat.reduceEqDiff,Nat.reduceLT];refine aX (tU) ?_;simp only[go_sem,↓reduceIte,Nat.reduceEqDiff,Nat.reduceLT];refine aX (tZ2) ?_;simp only[go_sem,↓reduceIte,Nat.reduceEqDiff,Nat.reduceLT,Nat.reduceAdd,reduceCtorEq,l4,lZ2,bL,e1];refine⟨ac,?_⟩;have hw1:ao ((c:Int)+1)=((c+1:Nat):Int):=by rw[az aa aa];omega
   refine fZ (jc-1) ⟨[(0,.str Q),(5,.ptr 0 0),(7,.ptr 1 0),(8,.ptr 2 0),(9,.ptr 3 0),(10,.ptr 4 0),(11,.ptr 5 0),(12,.u8 (bz x Q (c+1:Nat)).sw),(13,.i64 (254-(((c+1:Nat):Nat):Int)))],[bK ((x).map .u64),bK ((a24).map .u64),bK (((bz x Q (c+1:Nat)).x2).map .u64),bK (((bz x Q (c+1:Nat)).z2).map .u64),bK (((bz x Q (c+1:Nat)).x3).map .u64),bK (((bz x Q (c+1:Nat)).z3).map .u64)]⟩ [0,1,2,3,4,5] aa rfl ae rfl ah (by simp[dJ,St.get,aj,-List.map_map,-List.map_set,n1,n2,n3,n4,n5]) (by simp[n1,n2,n3,n4]) ⟨c+1,aa,rfl⟩
 ·obtain rfl:c=255:=aa;have h0':¬ (0:Int)<=254-((255:Nat):Int):=aa;have hx0:(255:Int)=((255:Nat):Int):=rfl;generalize hL:bz x Q 255=L at*;obtain⟨X2,Z2,X3,Z3,sw⟩:=L;have l1:=s1.1;have l2:=s2.1;have l3:=s3.1;have l4:=s4.1;dsimp only at*;have hiw:[V.u64 18446744073709551595#64,V.u64 18446744073709551615#64,V.u64 18446744073709551615#64,V.u64 9223372036854775807#64]=(lz 18446744073709551615#64).map .u64:=rfl;have w4:(lz 18446744073709551615#64).length=4:=rfl;by_cases hb:sw=1#8
  ·rw[if_pos hb,if_pos hb];have hp:=FH Z3 (lz 18446744073709551615#64) s4 (by show 4<=100;omega);have sp:=vf Z3 (lz 18446744073709551615#64) s4 (64*4);rw[w4,<-hiw] at hp;generalize cv Z3 (lz 18446744073709551615#64) (64*4)=P at*;have ht:=fq X3 P l3 sp.1;have st:=(fM X3 P s3 sp).1;have hte:=GX _ st;simp only[go_sem,↓reduceIte,Nat.reduceEqDiff,Nat.reduceLT,Nat.reduceLeDiff,Nat.reduceAdd,Int.reduceLE,Int.reduceLT,Int.reduceSub,Int.reduceNeg,BitVec.reduceOfInt,BitVec.reduceToNat,reduceCtorEq,hb,l1,l2,l3,l4,hm,bL,ar];refine⟨ac,?_⟩;refine vv [6] (hp) ac ae rfl ae ah ae ae ae ae ae (by first|(simp[gJ,cR,bd,dx,Blk.ren,-List.map_map,-List.map_set];done)|simp[go_sem,gJ]) ?_;simp only[go_sem,↓reduceIte,Nat.reduceEqDiff,Nat.reduceLT,Nat.reduceAdd,Nat.reduceSub,Int.reduceNeg];refine aX (ht) ?_;simp only[go_sem,↓reduceIte,Nat.reduceLT,Int.reduceNeg];refine aX (hte) ?_;simp only[go_sem,↓reduceIte,Nat.reduceLT,Int.reduceNeg];kernel_rfl
  ·rw[if_neg hb,if_neg hb];have hp:=FH Z2 (lz 18446744073709551615#64) s2 (by show 4<=100;omega);have sp:=vf Z2 (lz 18446744073709551615#64) s2 (64*4);rw[w4,<-hiw] at hp;generalize cv Z2 (lz 18446744073709551615#64) (64*4)=P at*;have ht:=fq X2 P l1 sp.1;have st:=(fM X2 P s1 sp).1;have hte:=GX _ st;simp only[go_sem,↓reduceIte,Int.reduceLE,Int.reduceSub,Int.reduceNeg,hb,l1,l2,ar];refine vv [6] (hp) ac ae rfl ae ah ae ae ae ae ae (by first|(simp[gJ,cR,bd,dx,Blk.ren,-List.map_map,-List.map_set];done)|simp[go_sem,gJ]) ?_;simp only[go_sem,↓reduceIte,Nat.reduceEqDiff,Nat.reduceLT,Nat.reduceAdd,Nat.reduceSub,Int.reduceNeg];refine aX (ht) ?_;simp only[go_sem,↓reduceIte,Nat.reduceLT,Int.reduceNeg];refine aX (hte) ?_;simp only[go_sem,↓reduceIte,Nat.reduceLT,Int.reduceNeg];kernel_rfl
def mE (u:List (BitVec 8)):List (BitVec 8):=u.set 31 (u.getD 31 0&&&127#8)
theorem I4 (u:List (BitVec 8)):(mE u).length=u.length:=by unfold mE;rw[aY]
def cm (k u:List (BitVec 8)):List (BitVec 8):=aV (aT (bE (if(bz (eJ (mE u)) (dy k) 255).sw=1#8 then(bz (eJ (mE u)) (dy k) 255).x3 else(bz (eJ (mE u)) (dy k) 255).x2) (cv (if(bz (eJ (mE u)) (dy k) 255).sw=1#8 then(bz (eJ (mE u)) (dy k) 255).z3 else(bz (eJ (mE u)) (dy k) 255).z2) (lz 18446744073709551615#64) (64*4)))%Pq) 32
theorem M4 (k:List (BitVec 8)):(dy k).length=k.length:=by unfold dy;rw[aY,aY]
theorem S6 (k u:List (BitVec 8))(h:¬ (k.length=32/\u.length=32)):aG prog 35 [.str k,.str u] (.tup [.str [],.i64 1]):=by
 have hc:=FA k;by_cases a:k.length=32
 ·have hu:¬ (u.length:Int)=32:=aa;rw[if_pos a] at hc;refine aQ ac (fn:=f35) ac func35 rfl am (by simp[af,V.low]) (by simp[af,V.low]) (ak ?_);simp only[go_sem,seval,ntmps35];refine au (hc) ?_;simp only[go_sem,seval,hu]
 ·rw[if_neg a] at hc;refine aQ ac (fn:=f35) ac func35 rfl am (by simp[af,V.low]) (by simp[af,V.low]) (ak ?_);simp only[go_sem,seval,ntmps35];refine au (hc) ?_;simp only[go_sem,seval]
theorem Ge (k u:List (BitVec 8))(c:k.length=32)(hu:u.length=32):aG prog 35 [.str k,.str u] (.tup [.str (cm k u),.i64 0]):=by
 have e:(u.length:Int)=32:=aa;have hc:=FA k;rw[if_pos c] at hc;have f:=VC (dy k) (mE u) (by rw[M4,c]) (by rw[I4,hu]);have g:u.set 31 (u.getD 31 0&&&127#8)=mE u:=rfl;have a:=I4 u;rw[hu] at a;have b:31<u.length:=aa;have d:min 32 32=32:=rfl;unfold cm;refine aQ ac (fn:=f35) ac func35 rfl am (by simp[af,V.low]) (by simp[af,V.low]) (ak ?_);simp only[go_sem,seval,ntmps35];refine au (hc) ?_;simp only[go_sem,seval,hu,iV b,g,a,ar];refine au (f) ?_;simp only[go_sem,seval]
theorem qh (k u:List (BitVec 8)):(cm k u).length=32:=by
 unfold cm;exact bT _ _
def basePt:List (BitVec 8):=[9#8]++List.replicate 31 0#8
theorem MV:bytesOf (⟨#[9]⟩:ByteArray)=[9#8]:=rfl
theorem VT:basePt.length=32:=rfl
theorem vu (k:List (BitVec 8))(c:k.length=32):aG prog 26 [.str k] (.tup [.str (cm k basePt),.i64 0]):=by
 have d:=vD 31 ah;have b:=Ge k basePt c VT;generalize cm k basePt=z at*;unfold basePt at b;generalize a:List.replicate 31 0#8=e at*;have f:e.length=31:=by rw[<-a];rfl
 refine aQ ac (fn:=f26) ac func26 rfl am (by simp[af,V.low]) (by simp[af,V.low]) (ak ?_);simp only[go_sem,seval,ntmps26];refine au (d) ?_;simp only[go_sem,seval,MV];refine⟨aa,?_⟩;refine au (b) ?_;simp only[go_sem,seval]
def wj (k u:List (BitVec 8)):List (BitVec 8)×Int:=if k.length=32/\u.length=32 then(if cm k u=List.replicate 32 0#8 then([],12) else(cm k u,0)) else([],1)
theorem aba (k u:List (BitVec 8)):aG prog 158 [.str k,.str u] (.tup [.str (wj k u).1,.i64 (wj k u).2]):=by
 unfold wj;by_cases h:k.length=32/\u.length=32
 ·have d:=Ge k u h.1 h.2;have f:=qh k u;rw[if_pos h];generalize cm k u=z at*;have e:=abb z aa;have c:=Mk 0#8 z;rw[f] at c;by_cases b:z=List.replicate 32 0#8
  ·rw[if_pos b];have a:=eq_true (c.2 b);clear c b;refine aQ ac (fn:=f158) ac func158 rfl am (by simp[af,V.low]) (by simp[af,V.low]) (ak ?_);simp only[go_sem,seval,ntmps158];refine au (d) ?_;simp only[go_sem,seval];refine au (e) ?_;simp only[go_sem,seval,a]
  ·rw[if_neg b];have a:=eq_false (fun h=>b (c.1 h));clear c b;refine aQ ac (fn:=f158) ac func158 rfl am (by simp[af,V.low]) (by simp[af,V.low]) (ak ?_);simp only[go_sem,seval,ntmps158];refine au (d) ?_;simp only[go_sem,seval];refine au (e) ?_;simp only[go_sem,seval,a]
 ·have d:=S6 k u h;rw[if_neg h];refine aQ ac (fn:=f158) ac func158 rfl am (by simp[af,V.low]) (by simp[af,V.low]) (ak ?_);simp only[go_sem,seval,ntmps158];refine au (d) ?_;simp only[go_sem,seval]
def l8 (a b:Int):Prop:=0<=a/\a<=1099511627776/\0<=b/\b<=999999999
instance (a b:Int):Decidable (l8 a b):=by unfold l8;infer_instance
theorem Eg (a b:Int):aG prog 154 [.agg [.i64 a,.i64 b]] (.bool (decide (l8 a b))):=by
 unfold l8;by_cases h1:0<=a
 ·by_cases h2:a<=1099511627776
  ·by_cases c:0<=b
   ·refine aQ ac (fn:=f154) ac func154 rfl am (by simp[af,V.low]) (by simp[V.low]) (ak ?_);simp only[go_sem,seval,ntmps154,results154,h1,h2,c]
   ·refine aQ ac (fn:=f154) ac func154 rfl am (by simp[af,V.low]) (by simp[V.low]) (ak ?_);simp only[go_sem,seval,ntmps154,results154,h1,h2,c,false_and,and_false]
  ·refine aQ ac (fn:=f154) ac func154 rfl am (by simp[af,V.low]) (by simp[V.low]) (ak ?_);simp only[go_sem,seval,ntmps154,results154,h1,h2,false_and,and_false]
 ·refine aQ ac (fn:=f154) ac func154 rfl am (by simp[af,V.low]) (by simp[V.low]) (ak ?_);simp only[go_sem,seval,ntmps154,results154,h1,false_and]
def ua (s:List (BitVec 8)):Int:=ao (BitVec.ofNat 64 (be (s.take 8))-4611686018427387904#64).toNat
def vt (s:List (BitVec 8)):Int:=be ((s.take 12).drop 8)
theorem af6 (s:List (BitVec 8))(h:12<=s.length):ao ((BitVec.ofNat 64 (be ((s.take 12).drop 8))).toNat:Int)=vt s:=by
 have a:=Ka ((s.take 12).drop 8);have :((s.take 12).drop 8).length=4:=by simp;omega
 rw[this] at a;rw[cx,gn aa,az aa aa];rfl
theorem Vo (s:List (BitVec 8))(h:12<=s.length):aG prog 141 [.str s] (.tup (if s.length=12/\l8 (ua s) (vt s) then[.agg [.i64 (ua s),.i64 (vt s)],.i64 0] else[.agg [.i64 0,.i64 0],.i64 5])):=by
 have h':¬ (s.length:Int)<12:=aa;have h2:(8:Int)<=s.length:=aa;have d:(12:Int)<=s.length:=aa;have e:=af6 s h;have a:ao ((BitVec.ofNat 64 (be (s.take 8))-4611686018427387904#64).toNat:Int)=ua s:=rfl;refine aQ ac (fn:=f141) ac func141 rfl am (by simp[af,V.low]) (by simp[af,V.low,adF]) (ak ?_);simp only[go_sem,seval,ntmps141,h',h2];refine aX (ug _ (by simp;omega)) ?_;simp only[go_sem,seval,d];refine aX (ug _ (by simp;omega)) ?_;simp only[go_sem,seval,e,a];refine⟨ac,?_⟩;by_cases f:(12:Int)<s.length
 ·have b:¬ s.length=12:=aa;simp only[go_sem,seval,f,b,false_and]
 ·have b:s.length=12:=aa;simp only[go_sem,seval,b];refine au (Eg _ _) ?_;by_cases c:l8 (ua s) (vt s)
  ·simp only[go_sem,seval,c]
  ·simp only[go_sem,seval,c]
theorem adl (s:List (BitVec 8))(h:12<=s.length)(n m:Nat):(bu n 8++bu m 4=s)↔(s.length=12/\n%18446744073709551616=be (s.take 8)/\m%4294967296=be ((s.take 12).drop 8)):=by
 constructor
 ·intro e;have d:s.length=12:=by rw[<-e,aE,cF,cF]
  have b:s.take 8=bu n 8:=by rw[<-e,ja (cF n 8)]
  have c:(s.take 12).drop 8=bu m 4:=by rw[ar aa,<-e,kg (cF n 8)]
  rw[b,c,Au,Au];exact⟨d,rfl,rfl⟩
 ·rintro⟨d,b,c⟩;have g:bu n 8=s.take 8:=JT (by rw[cF];simp;omega) (by rw[Au,<-b]);have i:bu m 4=(s.take 12).drop 8:=JT (by rw[cF];simp;omega) (by rw[Au,<-c]);rw[g,i,ar (by omega :s.length<=12),wC]
def qk (a b:Int):Int:=if a<b then -1 else if b<a then 1 else 0
theorem uH (a:Int):aG prog 163 [.i64 a] (.bool false):=by
 refine aQ ac (fn:=f163) ac func163 rfl am (by simp[af,V.low]) (by simp[V.low]) (ak ?_);simp only[go_sem,seval,ntmps163,results163]
theorem Fx (a b:Int):aG prog 143 [.i64 a,.i64 b] (.i64 (qk a b)):=by
 unfold qk;by_cases h1:a<b
 ·refine aQ ac (fn:=f143) ac func143 rfl am (by simp[af,V.low]) (by simp[V.low]) (ak ?_);simp only[go_sem,seval,ntmps143];refine au (uH _) ?_;simp only[go_sem,seval];refine au (uH _) ?_;simp only[go_sem,seval,h1]
 ·by_cases h2:b<a
  ·refine aQ ac (fn:=f143) ac func143 rfl am (by simp[af,V.low]) (by simp[V.low]) (ak ?_);simp only[go_sem,seval,ntmps143];refine au (uH _) ?_;simp only[go_sem,seval];refine au (uH _) ?_;simp only[go_sem,seval,h1,h2]
  ·refine aQ ac (fn:=f143) ac func143 rfl am (by simp[af,V.low]) (by simp[V.low]) (ak ?_);simp only[go_sem,seval,ntmps143];refine au (uH _) ?_;simp only[go_sem,seval];refine au (uH _) ?_;simp only[go_sem,seval,h1,h2]
theorem ZQ (x y:Int):aq prog 142 [.slice 0 0 2 1] [bK [.i64 x,.i64 y]] (.i64 (if x=0 then y else x)) [bK [.i64 x,.i64 y]]:=by
 by_cases h1:x=0
 ·by_cases h2:y=0
  ·refine bf ac (fn:=f142) func142 rfl am (ak ?_);simp only[go_sem,seval,ntmps142];refine dz 3 ?_;simp only[go_sem,seval,h1,h2];exact Fin.ren [0] ae ae aZ ah ae ae
  ·refine bf ac (fn:=f142) func142 rfl am (ak ?_);simp only[go_sem,seval,ntmps142];refine dz 3 ?_;simp only[go_sem,seval,h1,h2];exact Fin.ren [0] ae ae aZ ah ae ae
 ·refine bf ac (fn:=f142) func142 rfl am (ak ?_);simp only[go_sem,seval,ntmps142];refine dz 3 ?_;simp only[go_sem,seval,h1];exact Fin.ren [0] ae ae aZ ah ae ae
def later (a b c d:Int):Prop:=c<a\/(a=c/\d<b)
instance (a b c d:Int):Decidable (later a b c d):=by unfold later;infer_instance
theorem L9 (a b c d:Int):decide (0<if qk a c=0 then qk b d else qk a c)=decide (later a b c d):=by
 unfold later qk;refine decide_eq_decide.2 ?_;by_cases h1:a<c
 ·rw[if_pos h1,if_neg ah];omega
 ·rw[if_neg h1];by_cases h2:c<a
  ·rw[if_pos h2,if_neg ah];omega
  ·rw[if_neg h2,if_pos rfl];by_cases e:b<d
   ·rw[if_pos e];omega
   ·rw[if_neg e];by_cases f:d<b
    ·rw[if_pos f];omega
    ·rw[if_neg f];omega
theorem R1 (a b c d:Int):aG prog 98 [.agg [.i64 a,.i64 b],.agg [.i64 c,.i64 d]] (.bool (decide (later a b c d))):=by
 refine aQ ac (fn:=f98) ac func98 rfl am (by simp[af,V.low]) (by simp[V.low]) (ak ?_);simp only[go_sem,seval,ntmps98];refine aX (Fx _ _) ?_;simp only[go_sem,seval];refine aX (Fx _ _) ?_;simp only[go_sem,seval];refine iq [2] (ZQ (qk a c) (qk b d)) ac ae rfl ae aM ae ae ae ae ae ?_;simp only[go_sem,seval,L9];kernel_rfl
theorem U3 (a b:Int):aG prog 119 [.agg [.i64 a,.i64 b]] (.tup (if l8 a b then[.str (bu (4611686018427387904+a.toNat) 8++bu b.toNat 4),.i64 0] else[.str [],.i64 1])):=by
 by_cases h:l8 a b
 ·rw[if_pos h];have c:=h;obtain⟨h1,h2,e,i⟩:=h;have f:(4611686018427387904#64+BitVec.ofInt 64 a).toNat=4611686018427387904+a.toNat:=by
   obtain⟨n,rfl⟩:=Int.eq_ofNat_of_zero_le h1;rw[DZ,fk,cx,cx];simp;omega
  have g:(BitVec.ofInt 64 b).toNat=b.toNat:=by
   obtain⟨n,rfl⟩:=Int.eq_ofNat_of_zero_le e;rw[DZ,cx];simp;omega
  have d:(bu (4611686018427387904+a.toNat) 8).length=8:=cF _ _;refine aQ ac (fn:=f119) ac func119 rfl am (by simp[af,V.low]) (by simp[af,V.low]) (ak ?_);simp only[go_sem,seval,ntmps119];refine au (Eg _ _) ?_;simp only[go_sem,seval,c];refine iq [] (wZ (4611686018427387904#64+BitVec.ofInt 64 a)) ac ae rfl ae aM ae ae ae ae ae ?_;simp only[go_sem,seval,f];refine iq [1] (ym (bu (4611686018427387904+a.toNat) 8) (BitVec.ofInt 64 b) (by rw[d];decide)) ac (by simp[d]) rfl ae aM ae ae ae ae ae ?_;simp only[go_sem,seval,g,cF,ar];kernel_rfl
 ·rw[if_neg h];refine aQ ac (fn:=f119) ac func119 rfl am (by simp[af,V.low]) (by simp[af,V.low]) (ak ?_);simp only[go_sem,seval,ntmps119];refine au (Eg _ _) ?_;simp only[go_sem,seval,h]
theorem vj (n:Int):aG prog 120 [.i64 n] (.bool (decide (n=1\/n=2))):=by
 refine aQ ac (fn:=f120) ac func120 rfl am (by simp[af,V.low]) (by simp[V.low]) (ak ?_);simp -implicitDefEqProofs only[go_sem,seval,ntmps120,results120];by_cases h1:n=1
 ·subst h1;simp -implicitDefEqProofs only[go_sem,seval];kernel_rfl
 ·by_cases h2:n=2
  ·subst h2;simp -implicitDefEqProofs only[go_sem,seval];kernel_rfl
  ·simp[h1,h2]
end Go.Vm
end
section
namespace Go.Vm
open Go.Proofs
def bw (e:Int)(cs:List V):List (Option Blk):=[bK [.ptr 1 0,.i64 e],bK cs]
attribute [simp, go_sem] bw
end Go.Vm
end
section
namespace Go.Vm
open Go.Proofs Go.Proofs.Tryz
section
structure HS where
 h:List ai
 c:List ai
 k:List ai
 n:BitVec 64
def HS.ok (s:HS):Prop:=s.h.length=32/\s.c.length=32
def HS.cs (x:Int)(s:HS):List V:=cq x s.h s.c s.k s.n
noncomputable def HS.mix (x:Int) (s:HS) (t:List ai):HS:=⟨fD x (s.h++t),s.c,s.k,s.n⟩
noncomputable def HS.key (x:Int) (s:HS) (t:List ai):HS:=⟨s.h,d2 x s.c t 0,d2 x s.c t 1,0#64⟩
noncomputable def HS.psk (x:Int) (s:HS) (t:List ai):HS:=⟨fD x (s.h++d3 x s.c t 1),d3 x s.c t 0,d3 x s.c t 2,0#64⟩
noncomputable def HS.out (x:Int) (s:HS) (t:List ai):List ai:=(ij x s.k (cA x s.n) s.h t).1
noncomputable def HS.next (x:Int) (s:HS) (z:List ai):HS:=⟨fD x (s.h++z),s.c,s.k,s.n+1#64⟩
noncomputable def HS.both (x:Int) (s:HS) (t:List ai):HS:=(s.mix x t).key x t
theorem HS.rens (x:Int)(s:HS)(σ:Nat->Nat):Go.Vm.rens σ (s.cs x)=s.cs x:=rfl
theorem HS.low (x:Int)(s:HS)(m:Nat):af m (s.cs x)=True:=Ok ..
theorem HS.len (x:Int)(s:HS):(s.cs x).length=5:=rfl
section
variable {x:Int}{s:HS}{t z:List ai}
theorem HS.ok_mix (a:x=1\/x=2)(h:s.ok)(b:t.length<=549755813888):(s.mix x t).ok:=⟨(qI a _ (by have :=h.1;simp;omega)).2,h.2⟩
theorem HS.ok_key (a:x=1\/x=2)(h:s.ok)(b:t.length<=549755813888):(s.key x t).ok/\(s.key x t).k.length=32:=by
 obtain⟨-,h1,h2⟩:=z8 a s.c t (by have :=h.2;omega) b;exact⟨⟨h.1,h1⟩,h2⟩
theorem HS.ok_psk (a:x=1\/x=2)(h:s.ok)(b:t.length<=549755813888):(s.psk x t).ok/\(s.psk x t).k.length=32:=by
 obtain⟨-,h1,h2,d⟩:=FN a s.c t (by have :=h.2;omega) b;exact⟨⟨(qI a _ (by have :=h.1;simp;omega)).2,h1⟩,d⟩
theorem HS.ok_next (a:x=1\/x=2)(h:s.ok)(b:t.length<=549755813888):(s.next x t).ok:=⟨(qI a _ (by have :=h.1;simp;omega)).2,h.2⟩
theorem HS.ok_both (a:x=1\/x=2)(h:s.ok)(b:t.length<=549755813888):(s.both x t).ok/\(s.both x t).k.length=32:=HS.ok_key a (HS.ok_mix a h b) b
theorem Lj (a:x=1\/x=2)(h:s.ok)(b:t.length<=549755813888):aq prog 156 [.ptr 0 0,.str t] [bK (s.cs x)] (.tup []) [bK ((s.mix x t).cs x)]:=xT a s.h s.c s.k s.n h.1 t b
theorem Ii (a:x=1\/x=2)(h:s.ok)(b:t.length<=549755813888):aq prog 157 [.ptr 0 0,.str t] [bK (s.cs x)] (.tup []) [bK ((s.key x t).cs x)]:=Ua a s.h s.c s.k s.n h.2 t b
theorem Kv (a:x=1\/x=2)(h:s.ok)(b:t.length<=549755813888):aq prog 144 [.ptr 0 0,.str t] [bK (s.cs x)] (.tup []) [bK ((s.psk x t).cs x)]:=YB a s.h s.c s.k s.n h.1 h.2 t b
theorem Qg (a:x=1\/x=2)(h:s.ok)(b:s.k.length=32)(d:t.length<=2000):aq prog 159 [.ptr 0 0,.str t] [bK (s.cs x)] (.tup [.str (s.out x t),.i64 0]) [bK ((s.next x (s.out x t)).cs x)]:=acM a s.h s.c s.k s.n h.1 b t d
theorem V3 (b:x=1\/x=2)(h:s.ok)(a:s.k.length=32)(d:t.length<=2000):aq prog 162 [.ptr 0 0,.str (s.out x t)] [bK (s.cs x)] (.tup [.str t,.i64 0]) [bK ((s.next x (s.out x t)).cs x)]:=by
 obtain⟨h1,h2,e⟩:=vX (x:=x) (k:=s.k) (c:=cA x s.n) (m:=s.h) (t:=t) a (xN x s.n) (by have :=h.1;omega) d;exact Xm b s.h s.c s.k s.n h.1 a (s.out x t) t e (by show(ij x s.k (cA x s.n) s.h t).1.length<=_;omega)
theorem HS.out_length (h:s.ok)(a:s.k.length=32)(b:t.length<=2000):(s.out x t).length=t.length+16:=
 (vX (x:=x) (k:=s.k) (c:=cA x s.n) (m:=s.h) (t:=t) a (xN x s.n) (by have :=h.1;omega) b).2.1
theorem Aw (a:x=1\/x=2)(h:s.ok)(b:t.length<=549755813888)(e:Int):aq prog 123 [.ptr 0 0,.str t] (bw e (s.cs x)) (.tup []) (bw e ((s.both x t).cs x)):=by
 have h1:=Lj a h b;have h2:=Ii a (HS.ok_mix a h b) b;have r1:=s.rens x;have l1:=s.low x;have r2:=(s.mix x t).rens x;have l2:=(s.mix x t).low x;have r3:=(s.both x t).rens x;have l3:=(s.both x t).low x;change aq prog 157 _ _ _ [bK ((s.both x t).cs x)] at h2;generalize (s.both x t).cs x=c at*;generalize (s.mix x t).cs x=g at*;generalize s.cs x=d at*;have :∃ v h',aq prog 123 [.ptr 0 0,.str t] (bw e d) v h'/\(v= .tup []/\h'=bw e c):=by
  unfold bw;refine fP (Post:=fun v h'=>v= .tup []/\h'=[bK [.ptr 1 0,.i64 e],bK c]) ac (fn:=f123) func123 rfl am (ak ?_);simp -implicitDefEqProofs only[go_sem,seval];repeat refine aJ ?_
  refine aS [1] (h1) ac ae rfl ae aM ae ae (by simp[r1,l1]) ae ae ?_;simp -implicitDefEqProofs only[go_sem,seval,r2];repeat refine aJ ?_
  refine aS [1] (h2) ac ae rfl ae aM ae ae (by simp[r2,l2]) ae ae ?_;simp -implicitDefEqProofs only[go_sem,seval,r3];repeat refine aJ ?_
  refine⟨_,_,?_,Fin.take 2 ae ae (by simp[eL,af,V.low,-List.map_take,-List.map_drop,-List.map_map,-List.map_set]) (by simp[bD,af,V.low,-List.map_take,-List.map_drop,-List.map_map,-List.map_set,l3])⟩;exact⟨rfl,rfl⟩
 obtain⟨_,_,f,rfl,rfl⟩:=this;exact f
theorem pI (e:x=1\/x=2)(h:s.ok){k u:List ai}(f:k.length=32)(hu:u.length=32)(b:cm k u≠List.replicate 32 0#8):aq prog 124 [.ptr 0 0,.str k,.str u] (bw 0 (s.cs x)) (.tup []) (bw 0 ((s.key x (cm k u)).cs x)):=by
 have a:=aba k u;have c:wj k u=(cm k u,0):=by unfold wj;rw[if_pos ⟨f,hu⟩,if_neg b]
 rw[c] at a;have h2:=Ii e h (t:=cm k u) (by rw[qh];decide);have r1:=s.rens x;have l1:=s.low x;have r3:=(s.key x (cm k u)).rens x;have l3:=(s.key x (cm k u)).low x;generalize (s.key x (cm k u)).cs x=d at*;generalize s.cs x=g at*;clear c b;generalize cm k u=z at*;have :∃ v h',aq prog 124 [.ptr 0 0,.str k,.str u] (bw 0 g) v h'/\(v= .tup []/\h'=bw 0 d):=by
  unfold bw;refine fP (Post:=fun v h'=>v= .tup []/\h'=[bK [.ptr 1 0,.i64 0],bK d]) ac (fn:=f124) func124 rfl am (ak ?_);simp -implicitDefEqProofs only[go_sem,seval];repeat refine aJ ?_
  refine au (a) ?_;simp -implicitDefEqProofs only[go_sem,seval];repeat refine aJ ?_
  refine aS [1] (h2) ac ae rfl ae aM ae ae (by simp[r1,l1]) ae ae ?_;simp -implicitDefEqProofs only[go_sem,seval,r3];repeat refine aJ ?_
  refine⟨_,_,?_,Fin.take 2 ae ae (by simp[eL,af,V.low,-List.map_take,-List.map_drop,-List.map_map,-List.map_set]) (by simp[bD,af,V.low,-List.map_take,-List.map_drop,-List.map_map,-List.map_set,l3])⟩;exact⟨rfl,rfl⟩
 obtain⟨_,_,i,rfl,rfl⟩:=this;exact i
theorem Dc (b:x=1\/x=2)(h:s.ok)(c:s.k.length=32)(d:t.length<=2000):aq prog 125 [.ptr 0 0,.str t] (bw 0 (s.cs x)) (.str (s.out x t)) (bw 0 ((s.next x (s.out x t)).cs x)):=by
 have h2:=Qg b h c d;have r1:=s.rens x;have l1:=s.low x;have r3:=(s.next x (s.out x t)).rens x;have l3:=(s.next x (s.out x t)).low x;generalize (s.next x (s.out x t)).cs x=a at*;generalize s.out x t=o at*;generalize s.cs x=e at*;have :∃ v h',aq prog 125 [.ptr 0 0,.str t] (bw 0 e) v h'/\(v= .str o/\h'=bw 0 a):=by
  unfold bw;refine fP (Post:=fun v h'=>v= .str o/\h'=[bK [.ptr 1 0,.i64 0],bK a]) ac (fn:=f125) func125 rfl am (ak ?_);simp -implicitDefEqProofs only[go_sem,seval];repeat refine aJ ?_
  refine aS [1] (h2) ac ae rfl ae aM ae ae (by simp[r1,l1]) ae ae ?_;simp -implicitDefEqProofs only[go_sem,seval,r3];repeat refine aJ ?_
  refine⟨_,_,?_,Fin.take 2 ae ae (by simp[V.low,-List.map_take,-List.map_drop,-List.map_map,-List.map_set]) (by simp[bD,af,V.low,-List.map_take,-List.map_drop,-List.map_map,-List.map_set,l3])⟩;exact⟨rfl,rfl⟩
 obtain⟨_,_,f,rfl,rfl⟩:=this;exact f
theorem CO (b:x=1\/x=2)(h:s.ok)(c:s.k.length=32)(d:t.length<=2000):aq prog 140 [.ptr 0 0,.str (s.out x t)] (bw 0 (s.cs x)) (.str t) (bw 0 ((s.next x (s.out x t)).cs x)):=by
 have h2:=V3 b h c d;have r1:=s.rens x;have l1:=s.low x;have r3:=(s.next x (s.out x t)).rens x;have l3:=(s.next x (s.out x t)).low x;generalize (s.next x (s.out x t)).cs x=a at*;generalize s.out x t=o at*;generalize s.cs x=e at*;have :∃ v h',aq prog 140 [.ptr 0 0,.str o] (bw 0 e) v h'/\(v= .str t/\h'=bw 0 a):=by
  unfold bw;refine fP (Post:=fun v h'=>v= .str t/\h'=[bK [.ptr 1 0,.i64 0],bK a]) ac (fn:=f140) func140 rfl am (ak ?_);simp -implicitDefEqProofs only[go_sem,seval];repeat refine aJ ?_
  refine aS [1] (h2) ac ae rfl ae aM ae ae (by simp[r1,l1]) ae ae ?_;simp -implicitDefEqProofs only[go_sem,seval,r3];repeat refine aJ ?_
  refine⟨_,_,?_,Fin.take 2 ae ae (by simp[V.low,-List.map_take,-List.map_drop,-List.map_map,-List.map_set]) (by simp[bD,af,V.low,-List.map_take,-List.map_drop,-List.map_map,-List.map_set,l3])⟩;exact⟨rfl,rfl⟩
 obtain⟨_,_,f,rfl,rfl⟩:=this;exact f
end
def nK (x:Int):List ai:=bytesOf ⟨#[115,111,117,116,101,114,114,97,105,110]⟩++[BitVec.ofInt 8 x]
theorem AP (x:Int):(nK x).length=11:=rfl
noncomputable def HS.start (x:Int) (u:List ai):HS:=HS.mix x ⟨fD x (ke x++nK x),ke x,[],0#64⟩ u
theorem HS.ok_start {x:Int}(a:x=1\/x=2){u:List ai}(hu:u.length<=549755813888):(HS.start x u).ok:=by
 obtain⟨h1,-⟩:=GG a;refine HS.ok_mix a ⟨(qI a _ ?_).2,h1⟩ hu;rw[aE,h1,AP];decide
theorem Iq {x:Int}(a:x=1\/x=2){u:List ai}(hu:u.length<=549755813888):aq prog 122 [.i64 x,.str u] [] (.ptr 0 0) (bw 0 ((HS.start x u).cs x)):=by
 obtain⟨g1,g2⟩:=GG a;have h1:=g2 (nK x) (by rw[AP];decide);have c:(⟨fD x (ke x++nK x),ke x,[],0#64⟩:HS).ok:=⟨(qI a _ (by rw[aE,g1,AP];decide)).2,g1⟩;have h2:=Lj a c (t:=u) hu;change aq prog 156 _ _ _ [bK ((HS.start x u).cs x)] at h2;change aq prog 155 _ _ _ [bK (HS.cs x ⟨fD x (ke x++nK x),ke x,[],0#64⟩)] at h1;have r1:=HS.rens x ⟨fD x (ke x++nK x),ke x,[],0#64⟩;have l1:=HS.low x ⟨fD x (ke x++nK x),ke x,[],0#64⟩;have r2:=(HS.start x u).rens x;have l2:=(HS.start x u).low x;generalize (HS.start x u).cs x=b at*;generalize HS.cs x ⟨fD x (ke x++nK x),ke x,[],0#64⟩=f at*;have d:nK x=bytesOf ⟨#[115,111,117,116,101,114,114,97,105,110]⟩++[BitVec.ofInt 8 x]:=rfl;generalize nK x=g at*;have :∃ v h',aq prog 122 [.i64 x,.str u] [] v h'/\(v= .ptr 0 0/\h'=bw 0 b):=by
  unfold bw;refine fP (Post:=fun v h'=>v= .ptr 0 0/\h'=[bK [.ptr 1 0,.i64 0],bK b]) ac (fn:=f122) func122 rfl am (ak ?_);simp -implicitDefEqProofs only[go_sem,seval,<-d];repeat refine aJ ?_
  refine aS [] (h1) ac ae rfl ae aM ae ae ae ae ae ?_;simp -implicitDefEqProofs only[go_sem,seval,r1];repeat refine aJ ?_
  refine aS [1] (h2) ac ae rfl ae aM ae ae (by simp[r1,l1]) ae ae ?_;simp -implicitDefEqProofs only[go_sem,seval,r2];repeat refine aJ ?_
  refine⟨_,_,⟨rfl,rfl⟩,?_⟩;exact Fin.ren [2,1] ae ae aZ ah ae (by simp[r2,l2])
 obtain⟨_,_,e,rfl,rfl⟩:=this;exact e
end
end Go.Vm
end
section
namespace Go.Vm
open Go.Proofs
end Go.Vm
end
section
/- Prime numbers by Lucas' a: plain arithmetic, no program in b. -/
namespace Go.Cv
def Prm (n:Nat):Prop:=2<=n/\∀ d,d∣n->d=1\/d=n
theorem KG:∀ n:Nat,2<=n->∃ r,Prm r/\r∣n:=by
 intro n;induction n using Nat.strongRecOn with
 |ind n ih=>
  intro c;by_cases h:∀ d,d∣n->d=1\/d=n
  ·exact⟨n,⟨c,h⟩,Nat.dvd_refl n⟩
  ·obtain⟨d,h⟩:=Classical.not_forall.1 h;obtain⟨a,h⟩:=Classical.not_imp.1 h;have h1:d≠1:=fun e=>h (.inl e)
   have h2:d≠n:=fun e=>h (.inr e)
   have f:=Nat.le_of_dvd (by omega) a;have h0:d≠0:=fun e=>by subst e;have :=Nat.eq_zero_of_zero_dvd a;omega
   obtain⟨r,g,b⟩:=ih d (by omega) (by omega);exact⟨r,g,Nat.dvd_trans b a⟩
theorem Prm.dvd_mul {p a b:Nat}(c:Prm p)(h:p∣a*b):p∣a\/p∣b:=by
 rcases c.2 (Nat.gcd p a) (Nat.gcd_dvd_left p a) with e|e
 ·exact .inr (Nat.Coprime.dvd_of_dvd_mul_left e h)
 ·exact .inl (by rw[<-e];exact Nat.gcd_dvd_right p a)
theorem Prm.eq_of_dvd {p q:Nat}(a:Prm p)(b:Prm q)(h:p∣q):p=q:=by
 rcases b.2 p h with e|e
 ·have :=a.1;omega
 ·exact e
def od:List Nat->Nat
 |[]=>1
 |a::l=>a*od l
theorem Prm.mem_prod {p:Nat}(a:Prm p):∀ {l:List Nat},(∀ q∈l,Prm q)->p∣od l->p∈l
 |[],_,h=>by
  have :=Nat.le_of_dvd (by decide) h;have :=a.1;simp[od] at*;omega
 |q::l,b,h=>by
  rcases a.dvd_mul h with h|h
  ·rw[a.eq_of_dvd (b q (by simp)) h];simp
  ·exact List.mem_cons_of_mem _ (a.mem_prod (fun q c=>b q (by simp[c])) h)
theorem Aa:∀ (m n:Nat) (f:Nat->Nat),(∀ i,i<n->f i<m)->(∀ i j,i<n->j<n->f i=f j->i=j)->n<=m
 |0,n,f,h,_=>by
  cases n with
  |zero=>exact Nat.le_refl _
  |succ n=>exact absurd (h 0 (by omega)) (by omega)
 |m+1,n,f,h,inj=>by
  by_cases o:∃ i,i<n/\f i=m
  ·obtain⟨i0,c,p⟩:=o;have :=Aa m (n-1) (fun i=>if i=i0 then f (n-1) else f i) (fun i d=>by
    show(if i=i0 then f (n-1) else f i)<m;by_cases e:i=i0
    ·rw[if_pos e];have :=h (n-1) (by omega);have :f (n-1)≠m:=fun a=>by have :=inj (n-1) i0 (by omega) c (by rw[a,p]);omega
     omega
    ·rw[if_neg e];have :=h i (by omega);have :f i≠m:=fun a=>e (inj i i0 (by omega) c (by rw[a,p]))
     omega) (fun i j d q e=>by
    have e:(if i=i0 then f (n-1) else f i)=(if j=i0 then f (n-1) else f j):=e;by_cases k:i=i0
    ·by_cases a:j=i0
     ·omega
     ·rw[if_pos k,if_neg a] at e;have :=inj (n-1) j (by omega) (by omega) e;omega
    ·by_cases a:j=i0
     ·rw[if_neg k,if_pos a] at e;have :=inj i (n-1) (by omega) (by omega) e;omega
     ·rw[if_neg k,if_neg a] at e;exact inj i j (by omega) (by omega) e)
   omega
  ·have :=Aa m n f (fun i d=>by
    have :=h i d;have :f i≠m:=fun e=>o ⟨i,d,e⟩
    omega) inj
   omega
def pw (m:Nat):Nat->Nat->Nat->Nat->Nat
 |0,_,_,c=>c
 |k+1,b,e,c=>pw m k (b*b%m) (e/2) (match e%2 with|0=>c|_=>c*b%m)
theorem Ly (m:Nat):∀ (k b e c:Nat),e<2^k->pw m k b e c%m=c*b^e%m
 |0,b,e,c,h=>by
  have :e=0:=by simpa using h
  subst this;simp[pw]
 |k+1,b,e,c,h=>by
  have a:e/2<2^k:=by rw[Nat.pow_succ] at h;omega
  rw[pw,Ly m k _ _ _ a];have h2:(b*b%m)^(e/2)%m=(b*b)^(e/2)%m:=(Nat.pow_mod (b*b) (e/2) m).symm;have d:(b*b)^(e/2)=b^(2*(e/2)):=by rw[Nat.pow_mul,Nat.pow_two]
  rw[Nat.mul_mod,h2,<-Nat.mul_mod,d];rcases Nat.mod_two_eq_zero_or_one e with h0|h0
  ·rw[h0];show c*b^(2*(e/2))%m=_;rw[show 2*(e/2)=e by omega]
  ·rw[h0];show c*b%m*b^(2*(e/2))%m=_;rw[Nat.mod_mul_mod,Nat.mul_assoc,<-Nat.pow_succ'];rw[show Nat.succ (2*(e/2))=e by omega]
theorem El {m k b e r:Nat}(h:e<2^k)(a:pw m k b e 1%m=r):b^e%m=r:=by
 rw[<-a,Ly m k b e 1 h,Nat.one_mul]
theorem PJ {g r:Nat}(l:2<=r):∀ (a b:Nat),g^a%r=1->g^b%r=1->g^Nat.gcd a b%r=1:=by
 intro a b;induction a,b using Nat.gcd.induction with
 |H0 n=>intro _ h;simpa using h
 |H1 m n o ih=>
  intro j k;rw[Nat.gcd_rec];refine ih ?_ j;have e:=Nat.div_add_mod n m;rw[<-e,Nat.pow_add,Nat.pow_mul,Nat.mul_mod,Nat.pow_mod,j,Nat.one_pow,Nat.mod_eq_of_lt (show 1<r by omega),Nat.one_mul,Nat.mod_mod] at k;exact k
theorem MI {g r n i j:Nat}(h1:g^n%r=1)(d:2<=r)(a:i<=j)(e:j<=n)(h:g^i%r=g^j%r):g^(j-i)%r=1:=by
 have b:g^i*g^(n-i)%r=1:=by rw[<-Nat.pow_add,show i+(n-i)=n by omega];exact h1
 have c:g^j*g^(n-i)%r=g^(j-i)%r:=by
  rw[<-Nat.pow_add,show j+(n-i)=n+(j-i) by omega,Nat.pow_add,Nat.mul_mod,h1,Nat.one_mul,Nat.mod_mod]
 rw[<-c,Nat.mul_mod,<-h,<-Nat.mul_mod,b]
theorem GC {n g r:Nat}{qs:List Nat}(R:2<=n)(G:∀ q∈qs,Prm q)(l:od qs=n-1)(h1:g^(n-1)%n=1)(H:∀ q∈qs,Nat.gcd (g^((n-1)/q)%n+n-1) n=1)(I:Prm r)(b:r∣n):
  ∀ i j,i<n-1->j<n-1->g^i%r=g^j%r->i=j:=by
 have p:=I.1;have d:g^(n-1)%r=1:=by
  have :=Nat.mod_mod_of_dvd (g^(n-1)) b;rw[<-this,h1,Nat.mod_eq_of_lt (by omega)]
 have key:∀ e,0<e->e<n-1->g^e%r≠1:=fun e h0 J K=>by
  have L:=PJ p e (n-1) K d;have M:=Nat.gcd_dvd_right e (n-1);have N:=Nat.le_of_dvd h0 (Nat.gcd_dvd_left e (n-1));generalize Nat.gcd e (n-1)=m at*;obtain⟨k,s⟩:=M;have O:m≠0:=fun e=>by subst e;simp at s;omega
  have A:2<=k:=by
   match k with
   |0=>simp at s;omega
   |1=>simp at s;omega
   |k+2=>omega
  obtain⟨q,t,y,rfl⟩:=KG k A;have B:q∈qs:=t.mem_prod G (by rw[l,s];exact⟨m*y,by rw[Nat.mul_left_comm]⟩);have u:(n-1)/q=m*y:=by
   rw[s,show m*(q*y)=q*(m*y) by rw[Nat.mul_left_comm]];exact Nat.mul_div_cancel_left _ (by have :=t.1;omega)
  have o:g^((n-1)/q)%r=1:=by rw[u,Nat.pow_mul,Nat.pow_mod,L,Nat.one_pow,Nat.mod_eq_of_lt (by omega)]
  have P:=H q B;have v:r∣Nat.gcd (g^((n-1)/q)%n+n-1) n:=by
   refine Nat.dvd_gcd ?_ b;have E:=Nat.mod_mod_of_dvd (g^((n-1)/q)) b;rw[o] at E;have Q:=Nat.div_add_mod (g^((n-1)/q)%n) r;rw[E] at Q;obtain⟨c,hc⟩:=b;refine⟨g^((n-1)/q)%n/r+c,?_⟩;rw[Nat.mul_add];omega
  rw[P] at v;have :=Nat.le_of_dvd (by decide) v;omega
 have half:∀ i j,i<n-1->j<n-1->i<=j->g^i%r=g^j%r->i=j:=fun i j C D a h=>by
  have :=MI d p a (by omega) h;by_cases h0:j-i=0
  ·omega
  ·exact absurd this (key (j-i) (by omega) (by omega))
 intro i j C D h;rcases Nat.le_total i j with a|a
 ·exact half i j C D a h
 ·exact(half j i D C a h.symm).symm
theorem si {n g r i:Nat}(a:2<=r)(h1:g^n%r=1)(b:i<=n):g^i%r≠0:=fun h=>by
 have :g^i*g^(n-i)%r=1:=by rw[<-Nat.pow_add,show i+(n-i)=n by omega];exact h1
 rw[Nat.mul_mod,h,Nat.zero_mul] at this;simp at this
theorem S8 {n g:Nat}(qs:List Nat)(f:2<=n)(l:∀ q∈qs,Prm q)(b:od qs=n-1)(h1:g^(n-1)%n=1)(m:∀ q∈qs,Nat.gcd (g^((n-1)/q)%n+n-1) n=1):Prm n:=by
 obtain⟨r,h,c⟩:=KG n f;have d:=h.1;have inj:=GC f l b h1 m h c;have a:g^(n-1)%r=1:=by
  have :=Nat.mod_mod_of_dvd (g^(n-1)) c;rw[<-this,h1,Nat.mod_eq_of_lt (by omega)]
 have :=Aa (r-1) (n-1) (fun i=>g^i%r-1) (fun i k=>by
  have :=si d a (show i<=n-1 by omega);have :=Nat.mod_lt (g^i) (show r>0 by omega);show g^i%r-1<r-1;omega) (fun i j k o e=>by
  have :=si d a (show i<=n-1 by omega);have :=si d a (show j<=n-1 by omega);have e:g^i%r-1=g^j%r-1:=e;exact inj i j k o (by omega))
 have :=Nat.le_of_dvd (by omega) c
 rwa [show n=r by omega]
theorem adJ {n g:Nat}(qs:List Nat)(p:Prm n)(r:∀ q∈qs,Prm q)(c:od qs=n-1)(h1:g^(n-1)%n=1)(s:∀ q∈qs,Nat.gcd (g^((n-1)/q)%n+n-1) n=1){a:Nat}(v:a%n≠0):∃ i,g^i%n=a%n:=by
 have b:=p.1;have inj:=GC b r c h1 s p (Nat.dvd_refl n);refine Classical.byContradiction fun m=>?_
 have d:∀ i,g^i%n≠a%n:=fun i e=>m ⟨i,e⟩
 have t:=Nat.mod_lt a (show n>0 by omega);have :=Aa (n-1) n (fun i=>if i<n-1 then g^i%n-1 else a%n-1) (fun i u=>by
  show(if i<n-1 then g^i%n-1 else a%n-1)<n-1;split
  ·have :=si b h1 (show i<=n-1 by omega);have :=Nat.mod_lt (g^i) (show n>0 by omega);omega
  ·omega) (fun i j u w e=>by
  have e:(if i<n-1 then g^i%n-1 else a%n-1)=(if j<n-1 then g^j%n-1 else a%n-1):=e;by_cases h:i<n-1
  ·have :=si b h1 (show i<=n-1 by omega);by_cases f:j<n-1
   ·have :=si b h1 (show j<=n-1 by omega);rw[if_pos h,if_pos f] at e;exact inj i j h f (by omega)
   ·rw[if_pos h,if_neg f] at e;exact absurd (show g^i%n=a%n by omega) (d i)
  ·by_cases f:j<n-1
   ·have :=si b h1 (show j<=n-1 by omega);rw[if_neg h,if_pos f] at e;exact absurd (show g^j%n=a%n by omega) (d j)
   ·omega)
 omega
theorem OX {n g:Nat}(qs:List Nat)(c:Prm n)(d:∀ q∈qs,Prm q)(b:od qs=n-1)(h1:g^(n-1)%n=1)(e:∀ q∈qs,Nat.gcd (g^((n-1)/q)%n+n-1) n=1){a:Nat}(f:a%n≠0):a^(n-1)%n=1:=by
 have h:=c.1;obtain⟨i,j⟩:=adJ qs c d b h1 e f;rw[Nat.pow_mod,<-j,<-Nat.pow_mod,<-Nat.pow_mul,Nat.mul_comm,Nat.pow_mul,Nat.pow_mod,h1,Nat.one_pow,Nat.mod_eq_of_lt (by omega)]
def zJ (n:Nat):Nat->Bool
 |0=>true
 |1=>true
 |k+2=>Nat.blt 0 (n%(k+2))&&zJ n (k+1)
theorem JH {n:Nat}:∀ {k:Nat},zJ n k=true->∀ d,2<=d->d<=k->¬ d∣n
 |0,_,d,h1,h2=>by omega
 |1,_,d,h1,h2=>by omega
 |k+2,h,d,h1,h2=>by
  rw[zJ,Bool.and_eq_true] at h;by_cases e:d=k+2
  ·subst e;intro b;have a:=h.1;rw[Nat.mod_eq_zero_of_dvd b] at a;cases a
  ·exact JH h.2 d h1 (by omega)
theorem cZ {n:Nat}(b:2<=n)(h:zJ n (n-1)=true):Prm n:=⟨b,fun d a=>by
 have h1:=Nat.le_of_dvd (by omega) a;have h0:d≠0:=fun e=>by subst e;have :=Nat.eq_zero_of_zero_dvd a;omega
 by_cases e:d=1
 ·exact .inl e
 ·by_cases c:d=n
  ·exact .inr c
  ·exact absurd a (JH h d (by omega) (by omega))⟩
def Az (n g:Nat)(k:Nat)(qs:List Nat):Bool:=
 Nat.beq (od qs) (n-1)&&Nat.blt 1 n&&Nat.blt (n-1) (2^k)&&Nat.beq (pw n k g (n-1) 1%n) 1&&qs.all fun q=>Nat.beq (Nat.gcd (pw n k g ((n-1)/q) 1%n+n-1) n) 1
theorem GR {n g k:Nat}{qs:List Nat}(h:Az n g k qs=true):2<=n/\od qs=n-1/\g^(n-1)%n=1/\∀ q∈qs,Nat.gcd (g^((n-1)/q)%n+n-1) n=1:=by
 unfold Az at h;simp only[Bool.and_eq_true,Nat.blt_eq,List.all_eq_true] at h;obtain⟨⟨⟨⟨h1,h2⟩,a⟩,b⟩,c⟩:=h;refine⟨h2,Nat.eq_of_beq_eq_true h1,El a (Nat.eq_of_beq_eq_true b),fun q d=>?_⟩;have e:=Nat.eq_of_beq_eq_true (c q d);rw[El (Nat.lt_of_le_of_lt (Nat.div_le_self _ _) a) rfl];exact e
theorem bS {n g k:Nat}{qs:List Nat}(h:Az n g k qs=true)(a:∀ q∈qs,Prm q):Prm n:=by
 obtain⟨h1,h2,b,c⟩:=GR h;exact S8 qs h1 a h2 b c
theorem all_cons {P:Nat->Prop}{a:Nat}{l:List Nat}(h:P a)(c:∀ q∈l,P q):∀ q∈a::l,P q:=fun q b=>by
 rcases List.mem_cons.1 b with rfl|b
 ·exact h
 ·exact c q b
theorem bh {P:Nat->Prop}:∀ q∈([]:List Nat),P q:=fun _ h=>by cases h
end Go.Cv
end
section
namespace Go.Cv
theorem p2:Prm 2:=cZ (by decide) (by decide+kernel)
theorem p3:Prm 3:=cZ (by decide) (by decide+kernel)
theorem p5:Prm 5:=cZ (by decide) (by decide+kernel)
theorem p7:Prm 7:=cZ (by decide) (by decide+kernel)
theorem p11:Prm 11:=cZ (by decide) (by decide+kernel)
theorem xX:Prm 13:=cZ (by decide) (by decide+kernel)
theorem zq:Prm 17:=cZ (by decide) (by decide+kernel)
theorem Bi:Prm 19:=cZ (by decide) (by decide+kernel)
theorem C9:Prm 23:=cZ (by decide) (by decide+kernel)
theorem Rz:Prm 29:=cZ (by decide) (by decide+kernel)
theorem RG:Prm 31:=cZ (by decide) (by decide+kernel)
theorem Lt:Prm 41:=cZ (by decide) (by decide+kernel)
theorem BV:Prm 43:=cZ (by decide) (by decide+kernel)
theorem Dq:Prm 47:=cZ (by decide) (by decide+kernel)
theorem Uk:Prm 59:=cZ (by decide) (by decide+kernel)
theorem p67:Prm 67:=cZ (by decide) (by decide+kernel)
theorem HK:Prm 73:=cZ (by decide) (by decide+kernel)
theorem Pn:Prm 79:=cZ (by decide) (by decide+kernel)
theorem VQ:Prm 83:=cZ (by decide) (by decide+kernel)
theorem p97:Prm 97:=cZ (by decide) (by decide+kernel)
theorem Zb:Prm 103:=cZ (by decide) (by decide+kernel)
theorem ab5:Prm 107:=cZ (by decide) (by decide+kernel)
theorem acp:Prm 113:=cZ (by decide) (by decide+kernel)
theorem YI:Prm 127:=cZ (by decide) (by decide+kernel)
theorem aeq:Prm 131:=cZ (by decide) (by decide+kernel)
theorem Np:Prm 173:=cZ (by decide) (by decide+kernel)
theorem NU:Prm 223:=cZ (by decide) (by decide+kernel)
theorem T9:Prm 269:=cZ (by decide) (by decide+kernel)
theorem afh:Prm 307:=cZ (by decide) (by decide+kernel)
theorem Qp:Prm 353:=cZ (by decide) (by decide+kernel)
theorem TF:Prm 419:=cZ (by decide) (by decide+kernel)
theorem Q8:Prm 479:=cZ (by decide) (by decide+kernel)
theorem Om:Prm 487:=cZ (by decide) (by decide+kernel)
theorem QH:Prm 991:=cZ (by decide) (by decide+kernel)
theorem SE:Prm 1361:=bS (g:=3) (k:=12) (qs:=[2,2,2,2,5,17]) (by decide+kernel) (all_cons p2 (all_cons p2 (all_cons p2 (all_cons p2 (all_cons p5 (all_cons zq bh))))))
theorem Kn:Prm 1723:=bS (g:=3) (k:=12) (qs:=[2,3,7,41]) (by decide+kernel) (all_cons p2 (all_cons p3 (all_cons p7 (all_cons Lt bh))))
theorem N4:Prm 2437:=bS (g:=2) (k:=13) (qs:=[2,2,3,7,29]) (by decide+kernel) (all_cons p2 (all_cons p2 (all_cons p3 (all_cons p7 (all_cons Rz bh)))))
theorem aaM:Prm 2551:=bS (g:=6) (k:=13) (qs:=[2,3,5,5,17]) (by decide+kernel) (all_cons p2 (all_cons p3 (all_cons p5 (all_cons p5 (all_cons zq bh)))))
theorem Vl:Prm 2851:=bS (g:=2) (k:=13) (qs:=[2,3,5,5,19]) (by decide+kernel) (all_cons p2 (all_cons p3 (all_cons p5 (all_cons p5 (all_cons Bi bh)))))
theorem Uq:Prm 2939:=bS (g:=2) (k:=13) (qs:=[2,13,113]) (by decide+kernel) (all_cons p2 (all_cons xX (all_cons acp bh)))
theorem aci:Prm 3727:=bS (g:=3) (k:=13) (qs:=[2,3,3,3,3,23]) (by decide+kernel) (all_cons p2 (all_cons p3 (all_cons p3 (all_cons p3 (all_cons p3 (all_cons C9 bh))))))
theorem Oq:Prm 3797:=bS (g:=2) (k:=13) (qs:=[2,2,13,73]) (by decide+kernel) (all_cons p2 (all_cons p2 (all_cons xX (all_cons HK bh))))
theorem QT:Prm 4153:=bS (g:=5) (k:=14) (qs:=[2,2,2,3,173]) (by decide+kernel) (all_cons p2 (all_cons p2 (all_cons p2 (all_cons p3 (all_cons Np bh)))))
theorem OU:Prm 5879:=bS (g:=11) (k:=14) (qs:=[2,2939]) (by decide+kernel) (all_cons p2 (all_cons Uq bh))
theorem Rf:Prm 9463:=bS (g:=3) (k:=15) (qs:=[2,3,19,83]) (by decide+kernel) (all_cons p2 (all_cons p3 (all_cons Bi (all_cons VQ bh))))
theorem XK:Prm 17231:=bS (g:=13) (k:=16) (qs:=[2,5,1723]) (by decide+kernel) (all_cons p2 (all_cons p5 (all_cons Kn bh)))
theorem RF:Prm 22111:=bS (g:=6) (k:=16) (qs:=[2,3,5,11,67]) (by decide+kernel) (all_cons p2 (all_cons p3 (all_cons p5 (all_cons p11 (all_cons p67 bh)))))
theorem Sj:Prm 30703:=bS (g:=3) (k:=16) (qs:=[2,3,7,17,43]) (by decide+kernel) (all_cons p2 (all_cons p3 (all_cons p7 (all_cons zq (all_cons BV bh)))))
theorem P0:Prm 32573:=bS (g:=2) (k:=16) (qs:=[2,2,17,479]) (by decide+kernel) (all_cons p2 (all_cons p2 (all_cons zq (all_cons Q8 bh))))
theorem ab7:Prm 34123:=bS (g:=2) (k:=17) (qs:=[2,3,11,11,47]) (by decide+kernel) (all_cons p2 (all_cons p3 (all_cons p11 (all_cons p11 (all_cons Dq bh)))))
theorem Sm:Prm 37853:=bS (g:=2) (k:=17) (qs:=[2,2,9463]) (by decide+kernel) (all_cons p2 (all_cons p2 (all_cons Rf bh)))
theorem aaX:Prm 41081:=bS (g:=3) (k:=17) (qs:=[2,2,2,5,13,79]) (by decide+kernel) (all_cons p2 (all_cons p2 (all_cons p2 (all_cons p5 (all_cons xX (all_cons Pn bh))))))
theorem Uo:Prm 57467:=bS (g:=2) (k:=17) (qs:=[2,59,487]) (by decide+kernel) (all_cons p2 (all_cons Uk (all_cons Om bh)))
theorem LF:Prm 65147:=bS (g:=2) (k:=17) (qs:=[2,32573]) (by decide+kernel) (all_cons p2 (all_cons P0 bh))
theorem af7:Prm 75707:=bS (g:=2) (k:=18) (qs:=[2,37853]) (by decide+kernel) (all_cons p2 (all_cons Sm bh))
theorem afn:Prm 82163:=bS (g:=2) (k:=18) (qs:=[2,41081]) (by decide+kernel) (all_cons p2 (all_cons aaX bh))
theorem aaP:Prm 132049:=bS (g:=26) (k:=19) (qs:=[2,2,2,2,3,3,7,131]) (by decide+kernel) (all_cons p2 (all_cons p2 (all_cons p2 (all_cons p2 (all_cons p3 (all_cons p3 (all_cons p7 (all_cons aeq bh))))))))
theorem N9:Prm 132667:=bS (g:=5) (k:=19) (qs:=[2,3,22111]) (by decide+kernel) (all_cons p2 (all_cons p3 (all_cons RF bh)))
theorem afM:Prm 137849:=bS (g:=3) (k:=19) (qs:=[2,2,2,17231]) (by decide+kernel) (all_cons p2 (all_cons p2 (all_cons p2 (all_cons XK bh))))
theorem SP:Prm 409477:=bS (g:=2) (k:=20) (qs:=[2,2,3,34123]) (by decide+kernel) (all_cons p2 (all_cons p2 (all_cons p3 (all_cons ab7 bh))))
theorem NO:Prm 430751:=bS (g:=17) (k:=20) (qs:=[2,5,5,5,1723]) (by decide+kernel) (all_cons p2 (all_cons p5 (all_cons p5 (all_cons p5 (all_cons Kn bh)))))
theorem ZP:Prm 531581:=bS (g:=2) (k:=21) (qs:=[2,2,5,7,3797]) (by decide+kernel) (all_cons p2 (all_cons p2 (all_cons p5 (all_cons p7 (all_cons Oq bh)))))
theorem Sq:Prm 569003:=bS (g:=2) (k:=21) (qs:=[2,7,97,419]) (by decide+kernel) (all_cons p2 (all_cons p7 (all_cons p97 (all_cons TF bh))))
theorem agb:Prm 1224481:=bS (g:=13) (k:=22) (qs:=[2,2,2,2,2,3,5,2551]) (by decide+kernel) (all_cons p2 (all_cons p2 (all_cons p2 (all_cons p2 (all_cons p2 (all_cons p3 (all_cons p5 (all_cons aaM bh))))))))
theorem MD:Prm 1923133:=bS (g:=2) (k:=22) (qs:=[2,2,3,43,3727]) (by decide+kernel) (all_cons p2 (all_cons p2 (all_cons p3 (all_cons BV (all_cons aci bh)))))
theorem PV:Prm 8574133:=bS (g:=2) (k:=25) (qs:=[2,2,3,7,103,991]) (by decide+kernel) (all_cons p2 (all_cons p2 (all_cons p3 (all_cons p7 (all_cons Zb (all_cons QH bh))))))
theorem N7:Prm 14741173:=bS (g:=2) (k:=25) (qs:=[2,2,3,3,409477]) (by decide+kernel) (all_cons p2 (all_cons p2 (all_cons p3 (all_cons p3 (all_cons SP bh)))))
theorem XQ:Prm 58964693:=bS (g:=2) (k:=27) (qs:=[2,2,14741173]) (by decide+kernel) (all_cons p2 (all_cons p2 (all_cons N7 bh)))
theorem aek:Prm 292386187:=bS (g:=2) (k:=30) (qs:=[2,3,3,3,3,307,5879]) (by decide+kernel) (all_cons p2 (all_cons p3 (all_cons p3 (all_cons p3 (all_cons p3 (all_cons afh (all_cons OU bh)))))))
theorem Tg:Prm 2773320623:=bS (g:=5) (k:=33) (qs:=[2,2437,569003]) (by decide+kernel) (all_cons p2 (all_cons N4 (all_cons Sq bh)))
theorem aeg:Prm 72106336199:=bS (g:=7) (k:=38) (qs:=[2,13,2773320623]) (by decide+kernel) (all_cons p2 (all_cons xX (all_cons Tg bh)))
theorem Re:Prm 213441916511:=bS (g:=13) (k:=39) (qs:=[2,5,73,292386187]) (by decide+kernel) (all_cons p2 (all_cons p5 (all_cons HK (all_cons aek bh))))
theorem QA:Prm 1257559732178653:=bS (g:=2) (k:=52) (qs:=[2,2,3,7,23,531581,1224481]) (by decide+kernel) (all_cons p2 (all_cons p2 (all_cons p3 (all_cons p7 (all_cons C9 (all_cons ZP (all_cons agb bh)))))))
theorem XS:Prm 1919519569386763:=bS (g:=2) (k:=52) (qs:=[2,3,7,19,47,47,127,8574133]) (by decide+kernel) (all_cons p2 (all_cons p3 (all_cons p7 (all_cons Bi (all_cons Dq (all_cons Dq (all_cons YI (all_cons PV bh))))))))
theorem Ra:Prm 31757755568855353:=bS (g:=10) (k:=56) (qs:=[2,2,2,3,31,107,223,4153,430751]) (by decide+kernel) (all_cons p2 (all_cons p2 (all_cons p2 (all_cons p3 (all_cons RG (all_cons ab5 (all_cons NU (all_cons QT (all_cons NO bh)))))))))
theorem MC:Prm 4434155615661930479:=bS (g:=17) (k:=63) (qs:=[2,41,43,1257559732178653]) (by decide+kernel) (all_cons p2 (all_cons Lt (all_cons BV (all_cons QA bh))))
theorem TG:Prm 3044861653679985063343:=bS (g:=5) (k:=73) (qs:=[2,3,11,30703,82163,132667,137849]) (by decide+kernel) (all_cons p2 (all_cons p3 (all_cons p11 (all_cons Sj (all_cons afn (all_cons N9 (all_cons afM bh)))))))
theorem ZC:Prm 172054593956031949258510691:=bS (g:=2) (k:=89) (qs:=[2,5,1361,2851,4434155615661930479]) (by decide+kernel) (all_cons p2 (all_cons p5 (all_cons SE (all_cons Vl (all_cons MC bh)))))
theorem Vs:Prm 198211423230930754013084525763697:=bS (g:=5) (k:=109) (qs:=[2,2,2,2,3,23,58964693,3044861653679985063343]) (by decide+kernel) (all_cons p2 (all_cons p2 (all_cons p2 (all_cons p2 (all_cons p3 (all_cons C9 (all_cons XQ (all_cons TG bh))))))))
theorem adQ:Prm 75445702479781427272750846543864801:=bS (g:=7) (k:=117) (qs:=[2,2,2,2,2,3,3,5,5,75707,72106336199,1919519569386763]) (by decide+kernel) (all_cons p2 (all_cons p2 (all_cons p2 (all_cons p2 (all_cons p2 (all_cons p3 (all_cons p3 (all_cons p5 (all_cons p5 (all_cons af7 (all_cons aeg (all_cons XS bh))))))))))))
theorem ahl:Prm 19757330305831588566944191468367130476339:=bS (g:=2) (k:=135) (qs:=[2,269,213441916511,172054593956031949258510691]) (by decide+kernel) (all_cons p2 (all_cons T9 (all_cons Re (all_cons ZC bh))))
theorem agl:Prm 276602624281642239937218680557139826668747:=bS (g:=2) (k:=139) (qs:=[2,7,19757330305831588566944191468367130476339]) (by decide+kernel) (all_cons p2 (all_cons p7 (all_cons ahl bh)))
theorem EK:Prm 74058212732561358302231226437062788676166966415465897661863160754340907:=bS (g:=2) (k:=237) (qs:=[2,3,353,57467,132049,1923133,31757755568855353,75445702479781427272750846543864801]) (by decide+kernel) (all_cons p2 (all_cons p3 (all_cons Qp (all_cons Uo (all_cons aaP (all_cons MD (all_cons Ra (all_cons adQ bh))))))))
theorem Wa:Prm 7237005577332262213973186563042994240857116359379907606001950938285454250989:=bS (g:=2) (k:=254) (qs:=[2,2,3,11,198211423230930754013084525763697,276602624281642239937218680557139826668747]) (by decide+kernel) (all_cons p2 (all_cons p2 (all_cons p3 (all_cons p11 (all_cons Vs (all_cons agl bh))))))
theorem MT:Prm 57896044618658097711785492504343953926634992332820282019728792003956564819949:=bS (g:=2) (k:=256) (qs:=[2,2,3,65147,74058212732561358302231226437062788676166966415465897661863160754340907]) (by decide+kernel) (all_cons p2 (all_cons p2 (all_cons p3 (all_cons LF (all_cons EK bh)))))
end Go.Cv
end
section
namespace Go.Cv
abbrev Q:Nat:=57896044618658097711785492504343953926634992332820282019728792003956564819949
abbrev F:=Fin Q
theorem prmQ:Prm Q:=MT
theorem iE {a b:F}(h:a*b=0):a=0\/b=0:=by
 have h1:a.val*b.val%Q=0:=by
  have :=congrArg Fin.val h
  rwa [Fin.val_mul] at this
 rcases prmQ.dvd_mul (Nat.dvd_of_mod_eq_zero h1) with h2|h2
 ·exact .inl (Fin.ext (Nat.eq_zero_of_dvd_of_lt h2 a.isLt))
 ·exact .inr (Fin.ext (Nat.eq_zero_of_dvd_of_lt h2 b.isLt))
theorem fG {a b:F}(c:a≠0)(d:b≠0):a*b≠0:=fun h=>by
 rcases iE h with h|h
 ·exact c h
 ·exact d h
theorem Al {a b c:F}(d:a≠0)(h:a*b=a*c):b=c:=by
 have :a*(b-c)=0:=by grind
 rcases iE this with h|h
 ·exact absurd h d
 ·grind
theorem Cm (a:F):∀ n:Nat,(a^n).val=a.val^n%Q
 |0=>rfl
 |n+1=>by
  rw[show a^(n+1)=a^n*a by grind,Fin.val_mul,Cm a n,Nat.pow_succ,Nat.mod_mul_mod]
theorem acg:Az Q 2 256 [2,2,3,65147,74058212732561358302231226437062788676166966415465897661863160754340907]=true:=by decide+kernel
theorem Ia {a:F}(b:a≠0):a^(Q-1)=1:=by
 obtain⟨h1,h2,c,d⟩:=GR acg;have e:=OX _ prmQ (all_cons p2 (all_cons p2 (all_cons p3 (all_cons LF (all_cons EK bh))))) h2 c d (a:=a.val) (by
  rw[Nat.mod_eq_of_lt a.isLt];exact fun h=>b (Fin.ext h))
 apply Fin.ext;rw[Cm,e];rfl
def cI (a:F):F:=a^(Q-2)
theorem kR {a:F}(b:a≠0):a*cI a=1:=by
 rw[<-Ia b,show Q-1=(Q-2)+1 from rfl];unfold cI;generalize Q-2=n
 grind
end Go.Cv
end
