/- Proved: laws of a machine of values, or what a function answers; no conditions but each theorem's own. -/
import Derived.Lib.OthersKept
import Derived.Test.YtgnnehmeciepaaaGreatDoorVmTToTot2
import Derived.Test.YtgnnehmeciepaaaGreatDoorVmYToNum
import Derived.Test.YtgnnehmeciepaaaGreatDoorShelfMulToAeO
import Derived.Test.YtgnnehmeciepaaaGreatDoorShelfRepToPoY
import Derived.Test.YtgnnehmeciepaaaGreatDoorHeadToShA
import Derived.Test.YtgnnehmeciepaaaGreatDoorTypesToLsE
set_option linter.unusedVariables false
set_option linter.unusedSimpArgs false
set_option linter.unusedSectionVars false
set_option maxRecDepth 20000
set_option maxHeartbeats 8000000
section
namespace Go.Vm
section
open Go Go.RowKit
section
variable {P:Program}{n:Nat}{S:ByteArray}{b:Nat}{w0 w:World}{ρ:Nat→Nat×Nat}{s:St}{a:Act}{pos:Nat}
end
end
section
open Go Go.RowKit
section
variable {P:Program}{m n:Nat}
end
end
section
open Go Go.RowKit
mutual
def V.flat:V→Bool
 | .slice _ _ _ _=>false
 | .fn _ fs cs=>fL fs&&fL cs
 | .agg cs=>fL cs
 | .tup cs=>fL cs
 | .iface _ v=>v.flat
 | .aFn _ _ v=>v.flat
 |_=>true
def fL:List V→Bool
 |[]=>true
 |v::l=>v.flat&&fL l
end
theorem Aw:∀ {l:List V} {i:Nat} {v:V},fL l=true→l[i]?=some v→v.flat=true
 |[],i,v,_,h=>by simp at h
 |x::l,0,v,hf,h=>by
  unfold fL at hf
  simp at h;subst h
  exact(Bool.and_eq_true_iff.1 hf).1
 |x::l,i+1,v,hf,h=>by
  unfold fL at hf
  exact Aw (Bool.and_eq_true_iff.1 hf).2 (by simpa using h)
theorem BB:∀ (l:List (BitVec 8)),fL (l.map .u8)=true
 |[]=>rfl
 |x::l=>by rw[List.map_cons];unfold fL;rw[BB l];rfl
section
variable {ρ:Nat→Nat×Nat}{dom:Nat→Prop}{w w':World}
mutual
theorem VR.flat:∀ {v:V} {r:Value},VR ρ dom w v r→v.flat=true→VR ρ dom w' v r
 | .junk,_,_,_=>by unfold VR;trivial
 | .bool _,_,h,_=>by unfold VR at*;exact h
 | .u8 _,_,h,_=>by unfold VR at*;exact h
 | .u32 _,_,h,_=>by unfold VR at*;exact h
 | .u64 _,_,h,_=>by unfold VR at*;exact h
 | .i64 _,_,h,_=>by unfold VR at*;exact h
 | .i32 _,_,h,_=>by unfold VR at*;exact h
 | .str _,_,h,_=>by unfold VR at*;exact h
 | .ptr b _,_,h,_=>by unfold VR at*;exact h
 | .nilPtr,_,h,_=>by unfold VR at*;exact h
 | .slice _ _ _ _,_,_,hf=>by unfold V.flat at hf;cases hf
 | .nilSlice,_,h,_=>by unfold VR at*;exact h
 | .fn _ fs cs,_,h,hf=>by
  unfold V.flat at hf;unfold VR at*
  obtain⟨f',c',h1,h2,h3⟩:=h
  exact⟨f',c',h1,VRs.flat h2 (Bool.and_eq_true_iff.1 hf).1,VRs.flat h3 (Bool.and_eq_true_iff.1 hf).2⟩
 | .nilFn,_,h,_=>by unfold VR at*;exact h
 | .aFn _ _ v,_,h,hf=>by
  unfold V.flat at hf;unfold VR at*
  obtain⟨x,h1,h2⟩:=h
  exact⟨x,h1,VR.flat h2 hf⟩
 | .agg cs,_,h,hf=>by
  unfold V.flat at hf;unfold VR at*
  obtain⟨a,h1,h2⟩:=h
  exact⟨a,h1,VRs.flat h2 hf⟩
 | .tup cs,_,h,hf=>by
  unfold V.flat at hf;unfold VR at*
  obtain⟨a,h1,h2⟩:=h
  exact⟨a,h1,VRs.flat h2 hf⟩
 | .iface _ v,_,h,hf=>by
  unfold V.flat at hf;unfold VR at*
  obtain⟨r',h1,h2⟩:=h
  exact⟨r',h1,VR.flat h2 hf⟩
 | .nilIface,_,h,_=>by unfold VR at*;exact h
 | .map _,_,h,_=>by unfold VR at*;exact h
theorem VRs.flat:∀ {vs:List V} {rs:List Value},VRs ρ dom w vs rs→fL vs=true→VRs ρ dom w' vs rs
 |[],_,h,_=>by unfold VRs at*;exact h
 |v::vs,_,h,hf=>by
  unfold fL at hf;unfold VRs at*
  obtain⟨r,rs,h1,h2,h3⟩:=h
  exact⟨r,rs,h1,VR.flat h2 (Bool.and_eq_true_iff.1 hf).1,VRs.flat h3 (Bool.and_eq_true_iff.1 hf).2⟩
end
end
def kh (l:List (Nat×V)):Bool:=l.all fun p=>p.2.flat
def jo:List (Option Blk)→Bool
 |[]=>true
 |none::l=>jo l
 |some B::l=>fL B.cs&&jo l
theorem xQ:∀ {l:List (Nat×V)},kh l=true→∀ t,(af l t).flat=true
 |[],_,_=>rfl
 |p::l,h,t=>by
  unfold kh at h
  simp only[List.all_cons,Bool.and_eq_true] at h
  unfold af
  split
  ·exact h.1
  ·exact xQ (l:=l) h.2 t
theorem ur:∀ {l:List (Option Blk)} {b:Nat} {B:Blk},jo l=true→ab l b=some B→fL B.cs=true
 |[],_,_,_,h=>by simp[ab] at h
 |none::l,0,B,hf,h=>by simp[ab] at h
 |some C::l,0,B,hf,h=>by
  unfold jo at hf
  simp[ab] at h;subst h
  exact(Bool.and_eq_true_iff.1 hf).1
 |none::l,b+1,B,hf,h=>by
  unfold jo at hf
  exact ur hf (by simpa [ab] using h)
 |some C::l,b+1,B,hf,h=>by
  unfold jo at hf
  exact ur (Bool.and_eq_true_iff.1 hf).2 (by simpa [ab] using h)
def cv (L:List Nat):List (Option Blk)→Nat→Prop
 |[],_=>True
 |none::l,i=>cv L l (i+1)
 |some _::l,i=>i∈L∧cv L l (i+1)
theorem rD {L:List Nat}:∀ {l:List (Option Blk)} {i b:Nat} {B:Blk},cv L l i→ab l b=some B→i+b∈L
 |[],_,_,_,_,h=>by simp[ab] at h
 |none::l,i,0,B,_,h=>by simp[ab] at h
 |some C::l,i,0,B,hk,h=>hk.1
 |none::l,i,b+1,B,hk,h=>by
  have :=rD (l:=l) (i:=i+1) (b:=b) hk (by simpa [ab] using h)
  rw[show i+(b+1)=i+1+b by omega];exact this
 |some C::l,i,b+1,B,hk,h=>by
  have :=rD (l:=l) (i:=i+1) (b:=b) hk.2 (by simpa [ab] using h)
  rw[show i+(b+1)=i+1+b by omega];exact this
def cellsOf (l:List ac):List Value:=Lib.byteCells (l.map UInt8.ofBitVec)
theorem GY (l:List ac)(s:ByteArray):cellsOf l++Lib.strCells s=cellsOf (l++bytesOf s):=by
 unfold cellsOf
 rw[Lib.strCells_eq,←Lib.byteCells_append,List.map_append]
 congr 2
 unfold bytesOf
 simp only[List.map_map]
 conv=>lhs;rw[←List.map_id s.data.toList]
 exact List.map_congr_left fun _ _=>rfl
theorem EO (l:List ac):(cellsOf l).length=l.length:=by unfold cellsOf;rw[Lib.byteCells_length,List.length_map]
structure Bld (T e:TypeId) (base b:Nat) (L:List Nat) (l:List ac) (ρ:Nat→Nat×Nat) (s:St) (w:World):Prop where
 lt:b<s.H.length
 zero:(ρ b).2=0
 here:Lib.IsBuilder T e base (ρ b).1 (cellsOf l) w
 size:base≤w.heap.size
 low:∀ x∈L,(ρ x).1<base
theorem FW {T e:TypeId}{base b:Nat}{bs:List Value}{w w':World}(h:Lib.IsBuilder T e base b bs w)(hk:∀ r,base≤r→r<w.heap.size→w'.heap[r]?=w.heap[r]?):Lib.IsBuilder T e base b bs w':=by
 have key:∀ p,Lib.BuilderAt T e base b p bs w→Lib.BuilderAt T e base b p bs w':=by
  rintro p ⟨hB,v,hb,hown,hne⟩
  have hlt:∀ r o,w.heap[r]?=some o→r<w.heap.size:=fun r o h=>(Array.getElem?_eq_some_iff.1 h).1
  refine⟨hB,v,by rw[hk b hB (hlt _ _ hb)];exact hb,?_,hne⟩
  obtain⟨h1,h2⟩:=hown
  refine⟨h1,?_⟩
  rcases h2 with h2|⟨g,cap,cur,g1,g2,g3,g4⟩
  ·exact .inl h2
  ·exact .inr ⟨g,cap,cur,g1,g2,by rw[hk g g2 (hlt _ _ g3)];exact g3,g4⟩
 exact h.elim (fun x=> .inl (key _ x)) (fun x=> .inr (key _ x))
section
variable {P:Program}{m n:Nat}{T e:TypeId}{base b:Nat}{L:List Nat}{m0:Nat}{ρ0:Nat→Nat×Nat}{s0:St}{w0:World}
theorem Bld.step {ρ ρ':Nat→Nat×Nat}{s s':St}{w w':World}{l:List ac}(h:Bld T e base b L l ρ s w)(k:Step m ρ s w ρ' s' w')(hb:b<m)(hL:∀ x∈L,x<m)(hk:cv L s.H 0):Bld T e base b L l ρ' s' w':=by
 obtain⟨k1,k2,k3⟩:=k
 have e:=k2 b hb
 refine⟨by omega,by rw[e];exact h.zero,?_,Nat.le_trans h.size k3.size,fun x hx=>by rw[k2 x (hL x hx)];exact h.low x hx⟩
 rw[e]
 refine FW h.here fun r h1 h2=>k3.keep r h2 fun x B hx _=>?_
 have :=rD hk hx
 rw[Nat.zero_add] at this
 have :=h.low x this
 omega
theorem Ax {ρ:Nat→Nat×Nat}{s:St}{a:Act}{w w':World}(hr:RelSt ρ n s a w)(ht:kh s.t=true)(hH:jo s.H=true)(hlow:∀ x B,ab s.H x=some B→(ρ x).1<base)(hsz:base≤w.heap.size)(hb:Below base w w'):RelSt ρ n s a w':=by
 refine⟨⟨hr.tmps.size,hr.tmps.defers,fun t=>(hr.tmps.slot t).flat (xQ ht t)⟩,hr.mem.has,fun x B hx=>Nat.lt_of_lt_of_le (hr.mem.lt x B hx) hb.size,hr.mem.inj,fun x B hx i v hv=>?_,fun x B hx ho i hi=>?_,fun x B mm hx hmp=>?_⟩
 ·obtain⟨r,g1,g2⟩:=hr.mem.cell x B hx i v hv
  exact⟨r,by rw[hb.cell (hlow x B hx)];exact g1,g2.flat (Aw (ur hH hx) hv)⟩
 ·rw[hb.frozen (hlow x B hx)]
  exact hr.mem.free x B hx ho i hi
 ·exact iK (hr.mem.mapc x B mm hx hmp) (hb.block _ (hlow x B hx))
theorem zw {ρ:Nat→Nat×Nat}{s:St}{w w':World}(h:Step m0 ρ0 s0 w0 ρ s w)(hsz:w0.heap.size≤base)(hb:Below base w w'):Step m0 ρ0 s0 w0 ρ s w':=by
 obtain⟨h1,h2,h3⟩:=h
 refine⟨h1,h2,hb.os.trans h3.os,hb.output.trans h3.output,hb.tape.trans h3.tape,Nat.le_trans h3.size hb.size,fun r hr hn=>?_,fun p o hp=>?_,h3.own⟩
 ·rw[hb.block r (by omega)];exact h3.keep r hr hn
 ·have hlt:p<w0.heap.size:=by
   obtain⟨u,hu⟩:=Option.isSome_iff_exists.1 hp
   exact World.block_lt_of_cell? (a:=⟨p,o,none⟩) w0 hu
  have :=h3.lasts p o hp
  rw[hb.cell (p:=⟨p,o,none⟩) (by show p<base;omega),hb.frozen (p:=⟨p,o,none⟩) (by show p<base;omega)]
  exact this
def BQ (n m:Nat)(T e:TypeId)(base b:Nat)(L:List Nat)(m0:Nat)(ρ0:Nat→Nat×Nat)(s0:St)(w0:World)(Q:Exit→St→List ac→Prop)(x:Exit)(a':Act)(w':World):Prop:=
 ∃ s' ρ' l',Q x s' l'∧RelSt ρ' n s' a' w'∧m≤s'.H.length∧Step m0 ρ0 s0 w0 ρ' s' w'∧Bld T e base b L l' ρ' s' w'
def GB (P:Program)(m n:Nat)(T e:TypeId)(base b:Nat)(L:List Nat)(m0:Nat)(ρ0:Nat→Nat×Nat)(s0:St)(w0:World)(c:Code)(Q:Exit→St→List ac→Prop)(s:St)(l:List ac):Prop:=
 ∀ (ρ:Nat→Nat×Nat) (a:Act) (w:World),RelSt ρ n s a w→m≤s.H.length→Step m0 ρ0 s0 w0 ρ s w→Bld T e base b L l ρ s w→c.wp P (BQ n m T e base b L m0 ρ0 s0 w0 Q) a w
def GF (P:Program)(m n:Nat)(T e:TypeId)(base b:Nat)(L:List Nat)(m0:Nat)(ρ0:Nat→Nat×Nat)(s0:St)(w0:World)(c:Code)(Q:Exit→St→Prop)(s:St)(l:List ac):Prop:=
 ∀ (ρ:Nat→Nat×Nat) (a:Act) (w:World),RelSt ρ n s a w→m≤s.H.length→Step m0 ρ0 s0 w0 ρ s w→Bld T e base b L l ρ s w→c.wp P (sS m0 n ρ0 s0 w0 Q) a w
def tG (K:St→List ac→Prop)(Q:Exit→St→List ac→Prop):Exit→St→List ac→Prop
 | .normal,s,l=>K s l
 |e,s,l=>Q e s l
def xz (id:Nat)(Q:Exit→St→List ac→Prop):Exit→St→List ac→Prop
 | .exit i,s,l=>if i=id then Q .normal s l else Q (.exit i) s l
 |e,s,l=>Q e s l
def Vp (K:St→List ac→Prop):Exit→St→List ac→Prop
 | .normal,s,l=>K s l
 |_,_,_=>False
theorem Step.cut {ρ ρ':Nat→Nat×Nat}{s s':St}{w w':World}(h:Step m ρ s w ρ' s' w')(hm:m0≤m):Step m0 ρ s w ρ' s' w':=⟨Nat.le_trans hm h.1,fun x hx=>h.2.1 x (by omega),h.2.2⟩
theorem qt (hmix:P.follows .mixedOrders=true)(hb:b<m)(hL:∀ x∈L,x<m)(hm0:m0≤m){c:Code}{Q:Exit→St→List ac→Prop}{s:St}{l:List ac}(hk:cv L s.H 0)
  (h:vc P m n c (fun x s'=>Q x s' l) s):GB P m n T e base b L m0 ρ0 s0 w0 c Q s l:=fun ρ a w hr hm hs hB=>by
 refine wp_mono (jK hmix c _ s h ρ a w hr hm) ?_
 rintro x a' w' ⟨s',ρ',q1,q2,q3⟩
 exact⟨s',ρ',l,q1,q2,q3.1,hs.trans (q3.cut hm0),hB.step q3 hb hL hk⟩
theorem qi (hb:b<m)(hL:∀ x∈L,x<m)(hm0:m0≤m){c:Code}{Q:Exit→St→List ac→Prop}{s s1:St}{l:List ac}(hk:cv L s.H 0)
  (h:GB P m n T e base b L m0 ρ0 s0 w0 c Q s1 l) (hw:Weak m n s s1):GB P m n T e base b L m0 ρ0 s0 w0 c Q s l:=fun ρ a w hr hm hs hB=>by
 obtain⟨ρ',h1,h2⟩:=hw.go ρ a w hr hm
 exact h ρ' a w h1 h2.1 (hs.trans (h2.cut hm0)) (hB.step h2 hb hL hk)
theorem Qr (hb:b<m)(hL:∀ x∈L,x<m)(hm0:m0≤m){c:Code}{Q:Exit→St→Prop}{s s1:St}{l:List ac}(hk:cv L s.H 0)
  (h:GF P m n T e base b L m0 ρ0 s0 w0 c Q s1 l) (hw:Weak m n s s1):GF P m n T e base b L m0 ρ0 s0 w0 c Q s l:=fun ρ a w hr hm hs hB=>by
 obtain⟨ρ',h1,h2⟩:=hw.go ρ a w hr hm
 exact h ρ' a w h1 h2.1 (hs.trans (h2.cut hm0)) (hB.step h2 hb hL hk)
theorem qn {x y:Code}{K:St→List ac→Prop}{Q:Exit→St→List ac→Prop}{s:St}{l:List ac}(hx:GB P m n T e base b L m0 ρ0 s0 w0 x (tG K Q) s l)(hy:∀ s' l',K s' l'→GB P m n T e base b L m0 ρ0 s0 w0 y Q s' l'):GB P m n T e base b L m0 ρ0 s0 w0 (.seq x y) Q s l:=fun ρ a w hr hm hs hB=>by
 refine wp_seq (wp_mono (hx ρ a w hr hm hs hB) ?_)
 rintro z a' w' ⟨s',ρ',l',q1,q2,q3,q4,q5⟩
 cases z
 case normal=>exact hy s' l' q1 ρ' a' w' q2 q3 q4 q5
 all_goals exact⟨s',ρ',l',q1,q2,q3,q4,q5⟩
theorem S9 {x y:Code}{K:St→List ac→Prop}{Q:Exit→St→Prop}{s:St}{l:List ac}(hx:GB P m n T e base b L m0 ρ0 s0 w0 x (Vp K) s l)(hy:∀ s' l',K s' l'→GF P m n T e base b L m0 ρ0 s0 w0 y Q s' l'):GF P m n T e base b L m0 ρ0 s0 w0 (.seq x y) Q s l:=fun ρ a w hr hm hs hB=>by
 refine wp_seq (wp_mono (hx ρ a w hr hm hs hB) ?_)
 rintro z a' w' ⟨s',ρ',l',q1,q2,q3,q4,q5⟩
 cases z
 case normal=>exact hy s' l' q1 ρ' a' w' q2 q3 q4 q5
 all_goals exact q1.elim
theorem BC {id:Nat}{c:Code}{Q:Exit→St→List ac→Prop}{s:St}{l:List ac}(h:GB P m n T e base b L m0 ρ0 s0 w0 c (xz id Q) s l):GB P m n T e base b L m0 ρ0 s0 w0 (.block id c) Q s l:=fun ρ a w hr hm hs hB=>by
 refine wp_block (wp_mono (h ρ a w hr hm hs hB) ?_)
 rintro z a' w' ⟨s',ρ',l',q1,q⟩
 cases z
 case exit i=>
  simp only[xz] at q1
  simp only[Exit.inBlock]
  split at q1
  ·rename_i h;rw[if_pos h];exact⟨s',ρ',l',q1,q⟩
  ·rename_i h;rw[if_neg h];exact⟨s',ρ',l',q1,q⟩
 all_goals exact⟨s',ρ',l',q1,q⟩
theorem Qs {c:Code}{Q:Exit→St→List ac→Prop}{s:St}{l:List ac}(I:Nat→St→List ac→Prop){k0:Nat}(h0:I k0 s l)
  (hr:∀ k s l,I k s l→GB P m n T e base b L m0 ρ0 s0 w0 c (tG (fun s' l'=>∃ k',k'<k∧I k' s' l') Q) s l):GB P m n T e base b L m0 ρ0 s0 w0 (.loop c) Q s l:=fun ρ a w hr0 hm hs hB=>by
 refine uU (fun k a1 w1=>∃ s1 ρ1 l1,I k s1 l1∧RelSt ρ1 n s1 a1 w1∧m≤s1.H.length∧Step m0 ρ0 s0 w0 ρ1 s1 w1∧Bld T e base b L l1 ρ1 s1 w1) (k0:=k0) ⟨s,ρ,l,h0,hr0,hm,hs,hB⟩ ?_
 rintro k a1 w1 ⟨s1,ρ1,l1,i1,i2,i3,i4,i5⟩
 refine wp_mono (hr k s1 l1 i1 ρ1 a1 w1 i2 i3 i4 i5) ?_
 rintro z a' w' ⟨s',ρ',l',q1,q2,q3,q4,q5⟩
 cases z
 case normal=>
  obtain⟨k',hk,hi⟩:=q1
  exact⟨k',hk,s',ρ',l',hi,q2,q3,q4,q5⟩
 all_goals exact⟨s',ρ',l',q1,q2,q3,q4,q5⟩
end
end
section
open Go Go.RowKit
section
variable {P:Program}{m n:Nat}{T e:TypeId}{base b:Nat}{L:List Nat}{m0:Nat}{ρ0:Nat→Nat×Nat}{s0:St}{w0:World}
def C4 (P:Program)(f:FuncId)(T e:TypeId):Prop:=∀ (B b:Nat) (bs:List Value) (s:ByteArray) (w:World),Lib.IsBuilder T e B b bs w→bs.length+s.size≤140737488355328→B≤w.heap.size→
 Calls P f #[.pointer (some ⟨b,0,none⟩),.string s] w fun x w'=>x= .returned (.tuple #[.int .i64 s.size,.nilIface])∧(Lib.BuilderAt T e B b (.pointer (some ⟨b,0,none⟩)) (bs++Lib.strCells s) w'∧Below B w w')
def Strings (P:Program)(f:FuncId)(T e:TypeId):Prop:=∀ (B b:Nat) (l:List UInt8) (w:World),Lib.IsBuilder T e B b (Lib.byteCells l) w→B≤w.heap.size→
 Calls P f #[.pointer (some ⟨b,0,none⟩)] w fun x w'=>x= .returned (.string ⟨l.toArray⟩)∧Below B w w'
theorem C5 {s:St}{ρ:Nat→Nat×Nat}{w:World}{l:List ac}(h:Bld T e base b L l ρ s w)(hk:cv L s.H 0):∀ x B,ab s.H x=some B→(ρ x).1<base:=fun x B hx=>by
 have :=rD hk hx
 rw[Nat.zero_add] at this
 exact h.low x this
theorem Fe {s:St}{d:Tmp}{v:V}(h:kh s.t=true)(hv:v.flat=true):kh (s.put (some d) v).t=true:=by
 show kh ((d,v)::s.t)=true
 unfold kh at*
 rw[List.all_cons,hv,h];rfl
theorem NB {f:FuncId}(hf:cW P f=true)(hw:C4 P f T e)(hsz:w0.heap.size≤base){id:Nat}{o1 o2:Oper}{x:Operand}{tb tz td:Tmp}{ats:Array TypeId}{s:St}{l y:List ac}{Q:Exit→St→List ac→Prop}
  (h1:o1.op= .move x) (g1:o1.guard=none) (d1:o1.dst=some tz) (z1:tz<n)
  (h2:o2.op= .call ⟨.value (.func f),#[.tmp tb,.tmp tz],ats⟩) (g2:o2.guard=none) (d2:o2.dst=some td) (z2:td<n)
  (hx:s.ev x= .str y) (hb:(s.put (some tz) (.str y)).get tb= .ptr b 0) (hlen:l.length+y.length≤140737488355328)
  (ht:kh s.t=true) (hH:jo s.H=true) (hk:cv L s.H 0)
  (hq:Q .normal ((s.put (some tz) (.str y)).put (some td) (.tup [.i64 y.length,.nilIface])) (l++y)):GB P m n T e base b L m0 ρ0 s0 w0 (.region id #[o1,o2] false) Q s l:=by
 intro ρ a w hr hm hs hB
 have hxv:=hr.tmps.eval x
 rw[hx] at hxv
 unfold VR at hxv
 obtain⟨S,hS,hbs⟩:=hxv
 refine wp_region ?_
 have k1:(execOp a.eval o1).run P w= .ok (.value (.string S)) w:=by
  unfold execOp
  rw[h1]
  simp only[hS,Sem.run_pure]
 have w1:Region.wanted o1 (yielded #[o1,o2] a.tmps)=true:=by unfold Region.wanted;rw[g1]
 show wpOps P #[o1,o2] _ [0,1] a w
 simp only[wpOps,List.getElem?_toArray,List.getElem?_cons_zero,w1,if_true]
 refine .inl ?_
 unfold Oper.wp
 rw[k1,Oper.upon_value,d1]
 have hr1:RelSt ρ n (s.put (some tz) (.str y)) (a.put (some tz) (.string S)) w:=⟨RelT.put hr.tmps (show dV n (some tz) from z1) (by unfold VR;exact⟨S,rfl,hbs⟩),hr.mem⟩
 have w2:Region.wanted o2 (yielded #[o1,o2] (a.put (some tz) (.string S)).tmps)=true:=by unfold Region.wanted;rw[g2]
 have hz:(a.put (some tz) (.string S)).tmps.getD tz undef= .string S:=by
  rw[pO a tz _ tz (by rw[hr.tmps.size];exact z1),if_pos rfl]
 have hbv:=hr1.tmps.slot tb
 rw[hb] at hbv
 unfold VR at hbv
 obtain⟨_,hbv⟩:=hbv
 rw[hB.zero,Nat.zero_add] at hbv
 have k2:(execOp (a.put (some tz) (.string S)).eval o2).run P w= .ok (.enter f #[.pointer (some ⟨(ρ b).1,0,none⟩),.string S]) w:=by
  unfold execOp
  rw[h2]
  simp only[resolve,Act.eval,Deferred.ofValue,Sem.run_bind,Sem.run_pure,Result.andThen_ok,invoke,List.map_toArray,List.map_cons,List.map_nil,hz,hbv]
  rw[show(#[]++#[Value.pointer (some ⟨(ρ b).1,0,none⟩),Value.string S]++#[]:Array Value)=#[.pointer (some ⟨(ρ b).1,0,none⟩),.string S] from rfl,pd hf]
 simp only[List.getElem?_cons_succ,List.getElem?_cons_zero,w2,if_true]
 refine .inl ?_
 rw[k2,Oper.upon_enter]
 have hS2:S.size=y.length:=by rw[←hbs,iI]
 refine(hw base (ρ b).1 (cellsOf l) S w hB.here (by rw[EO,hS2];exact hlen) hB.size).mono ?_
 rintro z w' ⟨rfl,hbl,hbel⟩
 rw[d2]
 show BQ n m T e base b L m0 ρ0 s0 w0 Q .normal ((a.put (some tz) (.string S)).put (some td) _) w'
 have hr2:RelSt ρ n (s.put (some tz) (.str y)) (a.put (some tz) (.string S)) w':=Ax hr1 (Fe ht rfl) hH (fun x B hx=>C5 hB hk x B hx) hB.size hbel
 refine⟨_,ρ,l++y,hq,⟨RelT.put hr2.tmps (show dV n (some td) from z2) ?_,hr2.mem⟩,hm,zw hs hsz hbel,hB.lt,hB.zero,.inr ?_,Nat.le_trans hB.size hbel.size,hB.low⟩
 ·unfold VR
  refine⟨_,rfl,VRs.cons (by unfold VR;rw[hS2]) (VRs.cons (by unfold VR;rfl) VRs.nil)⟩
 ·rw[←hbs,←GY];exact hbl
theorem Kb {f:FuncId}(hf:cW P f=true)(hw:Strings P f T e)(hsz:w0.heap.size≤base){id:Nat}{o1 o2:Oper}{tb td te:Tmp}{ats:Array TypeId}{s:St}{l:List ac}{c2:Code}{Q:Exit→St→Prop}
  (h1:o1.op= .call ⟨.value (.func f),#[.tmp tb],ats⟩) (g1:o1.guard=none) (d1:o1.dst=some td) (z1:td<n)
  (h2:o2.op= .assign (.tmp td)) (g2:o2.guard=none) (d2:o2.dst=some te) (z2:te<n)
  (hb:s.get tb= .ptr b 0)
  (ht:kh s.t=true) (hH:jo s.H=true) (hk:cv L s.H 0) (hm0:m0≤m)
  (hq:GS P m0 n c2 Q ((s.put (some td) (.str l)).put (some te) (.str l))):GF P m n T e base b L m0 ρ0 s0 w0 (.seq (.region id #[o1,o2] false) c2) Q s l:=by
 intro ρ a w hr hm hs hB
 refine wp_seq (wp_region ?_)
 have w1:Region.wanted o1 (yielded #[o1,o2] a.tmps)=true:=by unfold Region.wanted;rw[g1]
 have hbv:=hr.tmps.slot tb
 rw[hb] at hbv
 unfold VR at hbv
 obtain⟨_,hbv⟩:=hbv
 rw[hB.zero,Nat.zero_add] at hbv
 have k1:(execOp a.eval o1).run P w= .ok (.enter f #[.pointer (some ⟨(ρ b).1,0,none⟩)]) w:=by
  unfold execOp
  rw[h1]
  simp only[resolve,Act.eval,Deferred.ofValue,Sem.run_bind,Sem.run_pure,Result.andThen_ok,invoke,List.map_toArray,List.map_cons,List.map_nil,hbv]
  rw[show(#[]++#[Value.pointer (some ⟨(ρ b).1,0,none⟩)]++#[]:Array Value)=#[.pointer (some ⟨(ρ b).1,0,none⟩)] from rfl,pd hf]
 show wpOps P #[o1,o2] _ [0,1] a w
 simp only[wpOps,List.getElem?_toArray,List.getElem?_cons_zero,w1,if_true]
 refine .inl ?_
 unfold Oper.wp
 rw[k1,Oper.upon_enter]
 refine(hw base (ρ b).1 (l.map UInt8.ofBitVec) w hB.here hB.size).mono ?_
 rintro z w' ⟨rfl,hbel⟩
 rw[d1]
 have hr2:RelSt ρ n s a w':=Ax hr ht hH (C5 hB hk) hB.size hbel
 have hst:VR ρ (· <s.H.length) w' (.str l) (.string ⟨(l.map UInt8.ofBitVec).toArray⟩):=by
  unfold VR
  exact⟨_,rfl,xR l⟩
 have hr3:RelSt ρ n (s.put (some td) (.str l)) (a.put (some td) (.string ⟨(l.map UInt8.ofBitVec).toArray⟩)) w':=⟨RelT.put hr2.tmps (show dV n (some td) from z1) hst,hr2.mem⟩
 have w2:Region.wanted o2 (yielded #[o1,o2] (a.put (some td) (.string ⟨(l.map UInt8.ofBitVec).toArray⟩)).tmps)=true:=by unfold Region.wanted;rw[g2]
 have hz:(a.put (some td) (.string ⟨(l.map UInt8.ofBitVec).toArray⟩)).tmps.getD td undef= .string ⟨(l.map UInt8.ofBitVec).toArray⟩:=by
  rw[pO a td _ td (by rw[hr.tmps.size];exact z1),if_pos rfl]
 have k2:(execOp (a.put (some td) (.string ⟨(l.map UInt8.ofBitVec).toArray⟩)).eval o2).run P w'= .ok (.value (.string ⟨(l.map UInt8.ofBitVec).toArray⟩)) w':=by
  unfold execOp
  rw[h2]
  simp only[Act.eval,hz,Sem.run_pure]
 simp only[List.getElem?_cons_succ,List.getElem?_cons_zero,w2,if_true]
 refine .inl ?_
 rw[k2,Oper.upon_value,d2]
 have hr4:RelSt ρ n ((s.put (some td) (.str l)).put (some te) (.str l)) ((a.put (some td) (.string ⟨(l.map UInt8.ofBitVec).toArray⟩)).put (some te) (.string ⟨(l.map UInt8.ofBitVec).toArray⟩)) w':=⟨RelT.put hr3.tmps (show dV n (some te) from z2) hst,hr3.mem⟩
 have hs4:Step m0 ρ0 s0 w0 ρ ((s.put (some td) (.str l)).put (some te) (.str l)) w':=zw hs hsz hbel
 refine wp_mono (hq ρ _ w' hr4 (by show m0≤s.H.length;omega)) ?_
 rintro z a' w'' ⟨s',ρ',q1,q2,q3⟩
 exact⟨s',ρ',q1,q2,hs4.trans q3⟩
theorem Ip (hz:∀ w,(zeroValue T).run P w= .ok (.agg #[.pointer none,.slice none 0 0]) w){id:Nat}{o:Oper}{td:Tmp}{c2:Code}{s:St}{Q:Exit→St→Prop}
  (h1:o.op= .alloc T) (g1:o.guard=none) (d1:o.dst=some td) (z1:td<n) (hL:∀ x∈L,(ab s.H x).isSome=true)
  (h:∀ (ρ0:Nat→Nat×Nat) (w0:World),GF P (s.H.length+1) n T e w0.heap.size s.H.length L m0 ρ0 s w0 c2 Q ⟨eB s.t (some td) (.ptr s.H.length 0),s.H++[none]⟩ []):GS P m0 n (.seq (.region id #[o] false) c2) Q s:=by
 intro ρ a w hr hm
 refine wp_seq (wp_region ?_)
 have w1:Region.wanted o (yielded #[o] a.tmps)=true:=by unfold Region.wanted;rw[g1]
 show wpOps P #[o] _ [0] a w
 simp only[wpOps,List.getElem?_toArray,List.getElem?_cons_zero,w1,if_true]
 refine .inl ?_
 have k1:(execOp a.eval o).run P w= .ok (.value (.pointer (some ⟨w.heap.size,0,none⟩))) (w.alloc (.cells #[.pointer none,.slice none 0 0] T)):=by
  unfold execOp
  rw[h1]
  simp[Instr.alloc,hz,newVar,newRow,Value.cells]
 unfold Oper.wp
 rw[k1,Oper.upon_value,d1]
 obtain⟨i1,i2⟩:=yJ (m0:=m0) hr hm z1 (.cells #[.pointer none,.slice none 0 0] T)
 have e0:(fun k=>if k=s.H.length then(w.heap.size,0) else ρ k) s.H.length=(w.heap.size,0):=if_pos rfl
 refine h ρ w _ _ _ i1 (by simp) i2 ⟨by simp,by rw[if_pos rfl],?_,?_,fun x hx=>?_⟩
 ·rw[if_pos rfl]
  exact Lib.fresh_isBuilder T e w
 ·show w.heap.size≤(w.heap.push _).size
  rw[Array.size_push];omega
 ·obtain⟨B,hB⟩:=Option.isSome_iff_exists.1 (hL x hx)
  have hne:x≠s.H.length:=by have :=aM hB;omega
  show((if x=s.H.length then(w.heap.size,0) else ρ x):Nat×Nat).1<_
  rw[if_neg hne]
  exact hr.mem.lt x B hB
end
end
end Go.Vm
end
section
namespace Go.Vm
open Go.Proofs
def eS (E:Nat→List (BitVec 8)):Nat→List (BitVec 8)
 |0=>[]
 |i+1=>eS E i++E (2+i)
theorem rE (E:Nat→List (BitVec 8))(hE:∀ c,(E c).length=16)(i:Nat):(eS E i).length=16*i:=by
 induction i with
 |zero=>rfl
 |succ i ih=>rw[eS,List.length_append,ih,hE];omega
theorem EP:C4 Tryz.prog 56 (shelf_lays105_ren.t 72) (shelf_lays105_ren.t 5):=fun B b bs s w h hl hB=>Any.Builder_WriteString {shelf_lays105 with} ub B b bs s w h hl hB
theorem Ev:Strings Tryz.prog 58 (shelf_lays105_ren.t 72) (shelf_lays105_ren.t 5):=fun B b l w h hB=>Any.Builder_String_any {shelf_lays105 with} ub B b l w h hB
theorem FX:∀ w,(zeroValue (shelf_lays105_ren.t 72)).run Tryz.prog w= .ok (.agg #[.pointer none,.slice none 0 0]) w:=shelf_lays105.v72
theorem Iq (E:Nat→List (BitVec 8))(hE:∀ c,(E c).length=16)(t:List (BitVec 8))(i:Nat)(h:16*i≤t.length):aQ t (eS E i)++aQ (t.drop (16*i)) (E (2+i))=aQ t (eS E (i+1)):=by
 have hl:=rE E hE i
 rw[eS,Bx t (eS E i) (E (2+i)) (by omega),hl]
theorem Ir (E:Nat→List (BitVec 8))(hE:∀ c,(E c).length=16)(t:List (BitVec 8))(i:Nat):(t.drop (16*i)).drop (aQ (t.drop (16*i)) (E (2+i))).length=t.drop (16*(i+1)):=by
 rw[fV,hE,List.drop_drop,List.length_drop]
 by_cases h:t.length-16*i≤16
 ·rw[List.drop_eq_nil_of_le (by omega),List.drop_eq_nil_of_le (by omega)]
 ·rw[Nat.min_eq_right (by omega)];congr 1
theorem zx (E:Nat→List (BitVec 8))(hE:∀ c,(E c).length=16)(n K T t:List (BitVec 8))(R:Nat)(hEe:∀ c,E c=cC (n++ar c 4) K R (R-1))(hn:n.length=12)(ht:t.length≤2016)(hR:2≤R)(hR2:R≤20)(hK:K.length=16*R)(hT:T.length=512)(hf:∀ b:BitVec 8,T.getD (0+b.toNat) 0=cg b):
  ag Tryz.prog 246 [.agg [.ptr 0 0,.str n],.str t] [bK [.ptr 1 0,.str K],bK (T.map .u8)] (.str (aQ t (eS E ((t.length+15)/16)))) [bK [.ptr 1 0,.str K],bK (T.map .u8)]:=by
 have hblk:∀ c:Nat,c≤100000→ag Tryz.prog 252 [.agg [.ptr 0 0,.str n],.i64 c] [bK [.ptr 1 0,.str K],bK (T.map .u8)] (.str (E c)) [bK [.ptr 1 0,.str K],bK (T.map .u8)]:=fun c hc=>by
  rw[hEe]
  exact yV n K T R c hn hc hR hR2 hK hT hf
 generalize hrd:(t.length+15)/16=rd
 have hrd1:t.length≤16*rd:=by omega
 have hrd2:16*rd≤t.length+15:=by omega
 have hflT:=BB T
 refine qZ (fn:=Tryz.f246) Tryz.func246 rfl (by show 2≤24;decide) ?_
 refine lL (K:=fun st=>Weak 2 24 st ⟨[(1,.str t),(2,.ptr 2 0)],[bK [.ptr 1 0,.str K],bK (T.map .u8),bK [.ptr 0 0,.str n]]⟩) (lw (by kernel_rfl) (ae ?_)) (fun st hst=>n9 ?_ hst)
 ·simp only[go_sem,seval]
  refine Weak.drop ?_ rfl (fun _ _ h=>h)
  simp[St.get,af]
 refine Ip (L:=[0,1,2]) (e:=shelf_lays105_ren.t 5) FX rfl rfl rfl (by decide) (by simp[ab]) (fun ρ0 w0=>?_)
 show GF Tryz.prog 4 24 (shelf_lays105_ren.t 72) (shelf_lays105_ren.t 5) w0.heap.size 3 [0,1,2] 2 ρ0 _ w0 _ _ _ _
 let J:Nat→St:=fun i=>⟨[(1,.str (t.drop (16*i))),(2,.ptr 2 0),(5,.ptr 3 0),(6,.i64 (2+i:Nat))],[bK [.ptr 1 0,.str K],bK (T.map .u8),bK [.ptr 0 0,.str n],none]⟩
 refine S9 (K:=fun st l=>cv [0,1,2] st.H 0∧l=aQ t (eS E rd)∧Weak 4 24 st ⟨[(5,.ptr 3 0)],[bK [.ptr 1 0,.str K],bK (T.map .u8),bK [.ptr 0 0,.str n],none]⟩) ?_ (fun st l hst=>?_)
 rotate_left
 ·obtain⟨k1,rfl,k2⟩:=hst
  refine Qr (by decide) (by decide) (by decide) k1 ?_ k2
  refine Kb (by kernel_rfl) Ev (Nat.le_refl _) rfl rfl rfl (by decide) rfl rfl rfl (by decide) rfl rfl (by simp[jo,fL,V.flat,hflT]) (by simp[cv]) (by decide) ?_
  refine lw (by kernel_rfl) (ae ?_)
  simp only[go_sem,seval]
  exact Fin.ren [0,1] (by simp) (by simp) (by rfl) (by decide) (by simp) (by simp)
 refine qn (K:=fun st l=>cv [0,1,2] st.H 0∧l=[]∧Weak 4 24 st (J 0)) (qt (by kernel_rfl) (by decide) (by decide) (by decide) (by simp[cv]) (ae ?_)) (fun st l hst=>?_)
 ·simp only[go_sem,seval]
  refine⟨by simp[cv],rfl,Weak.drop ?_ rfl (fun _ _ h=>h)⟩
  simp[St.get,af,eB,J]
 obtain⟨k1,rfl,k2⟩:=hst
 refine qi (by decide) (by decide) (by decide) k1 ?_ k2
 refine BC (Qs (I:=fun k st l=>∃ i,i+k=rd∧cv [0,1,2] st.H 0∧Weak 4 24 st (J i)∧l=aQ t (eS E i)) (k0:=rd) ⟨0,by omega,by simp[cv,J],Weak.refl _ _ _,by simp[eS,aQ]⟩ ?_)
 rintro k st l ⟨i,hik,k1,k2,rfl⟩
 refine qi (by decide) (by decide) (by decide) k1 ?_ k2
 clear k1 k2
 refine qn (K:=fun st l=>cv [0,1,2] st.H 0∧l=aQ t (eS E i)∧16*i<t.length∧Weak 4 24 st (J i)) (qt (by kernel_rfl) (by decide) (by decide) (by decide) (by simp[cv,J]) (ae ?_)) (fun st l hst=>?_)
 ·by_cases h0:16*i<t.length
  ·have hne:(t.drop (16*i)=[])=False:=eq_false (fun h=>by have :=congrArg List.length h;rw[List.length_drop] at this;simp at this;omega)
   simp only[go_sem,seval,J,hne]
   refine⟨by simp[cv],rfl,h0,Weak.drop ?_ rfl (fun _ _ h=>h)⟩
   simp[St.get,af]
  ·have hie:i=rd:=by omega
   have hne:(t.drop (16*i)=[])=True:=eq_true (List.drop_eq_nil_of_le (by omega))
   simp only[go_sem,seval,J,hne]
   refine⟨by simp[cv],by rw[hie],Weak.drop ?_ rfl (fun _ _ h=>h)⟩
   simp[St.get,af]
 obtain⟨k1,rfl,h0,k2⟩:=hst
 refine qi (by decide) (by decide) (by decide) k1 ?_ k2
 clear k1 k2
 have hdl:(t.drop (16*i)).length=t.length-16*i:=List.length_drop
 have hX:=rT (t.drop (16*i)) (E (2+i)) (by omega) (by rw[hE];omega)
 have hB:=hblk (2+i) (by omega)
 have hpl:(aQ (t.drop (16*i)) (E (2+i))).length=min (t.length-16*i) 16:=by rw[fV,hE,hdl]
 have hleft:=Ir E hE t i
 refine qn (K:=fun st l=>cv [0,1,2] st.H 0∧l=aQ t (eS E (i+1))∧Weak 4 24 st ⟨[(1,.str (t.drop (16*(i+1)))),(2,.ptr 2 0),(5,.ptr 3 0),(6,.i64 (2+i:Nat))],[bK [.ptr 1 0,.str K],bK (T.map .u8),bK [.ptr 0 0,.str n],none]⟩) (BC ?_) (fun st l hst=>?_)
 ·refine qn (K:=fun st l=>cv [0,1,2] st.H 0∧l=aQ t (eS E i)∧Weak 4 24 st ⟨[(7,.str (aQ (t.drop (16*i)) (E (2+i)))),(1,.str (t.drop (16*i))),(2,.ptr 2 0),(5,.ptr 3 0),(6,.i64 (2+i:Nat))],[bK [.ptr 1 0,.str K],bK (T.map .u8),bK [.ptr 0 0,.str n],none]⟩) (qt (by kernel_rfl) (by decide) (by decide) (by decide) (by simp[cv,J]) (ae ?_)) (fun st l hst=>?_)
  ·simp only[go_sem,seval,J]
   refine aq [0,1] (hB) (by kernel_rfl) (by simp) rfl (by simp) (by first|decide|simp) (by simp) (by simp) (by simp) (by simp) (by simp) ?_
   simp only[go_sem,seval]
   refine ak (hX) ?_
   simp only[go_sem,seval]
   refine⟨by simp[cv],rfl,Weak.drop ?_ rfl (fun _ _ h=>h)⟩
   simp[St.get,af]
  obtain⟨k1,rfl,k2⟩:=hst
  refine qi (by decide) (by decide) (by decide) k1 ?_ k2
  refine qn (K:=fun st l=>st=⟨[(18,.tup [.i64 (aQ (t.drop (16*i)) (E (2+i))).length,.nilIface]),(17,.str (aQ (t.drop (16*i)) (E (2+i)))),(7,.str (aQ (t.drop (16*i)) (E (2+i)))),(1,.str (t.drop (16*i))),(2,.ptr 2 0),(5,.ptr 3 0),(6,.i64 (2+i:Nat))],[bK [.ptr 1 0,.str K],bK (T.map .u8),bK [.ptr 0 0,.str n],none]⟩∧l=aQ t (eS E (i+1))) (NB (x:= .tmp 7) (by kernel_rfl) EP (Nat.le_refl _) rfl rfl rfl (by decide) rfl rfl rfl (by decide) rfl rfl ?_ rfl (by simp[jo,fL,V.flat,hflT]) (by simp[cv]) ⟨rfl,Iq E hE t i (by omega)⟩) (fun st l hst=>?_)
  ·have hsl:=rE E hE i
   rw[fV,hpl,hsl];omega
  obtain⟨rfl,rfl⟩:=hst
  refine qt (by kernel_rfl) (by decide) (by decide) (by decide) (by simp[cv]) (ae ?_)
  rw[hpl] at hleft
  have htk:(t.drop (16*i)).take (t.length-16*i)=t.drop (16*i):=List.take_of_length_le (by omega)
  simp only[go_sem,seval,hdl,hpl,htk,hleft]
  refine⟨by omega,?_⟩
  simp only[xz,tG]
  refine⟨by simp[cv],trivial,Weak.drop ?_ rfl (fun _ _ h=>h)⟩
  simp[St.get,af]
 obtain⟨k1,rfl,k2⟩:=hst
 refine qi (by decide) (by decide) (by decide) k1 ?_ k2
 refine qt (by kernel_rfl) (by decide) (by decide) (by decide) (by simp[cv]) (ae ?_)
 have hw:((2+i:Nat):Int)+1=((2+(i+1):Nat):Int):=by omega
 have hw2:aj ((2+(i+1):Nat):Int)=((2+(i+1):Nat):Int):=am (by omega) (by omega)
 simp only[go_sem,seval,hw,hw2]
 simp only[tG]
 refine⟨k-1,by omega,i+1,by omega,by simp[cv],Weak.drop ?_ rfl (fun _ _ h=>h),rfl⟩
 simp[St.get,af,J]
def Vq (p:BitVec 64×BitVec 64):BitVec 64×BitVec 64:=(p.1>>>1 ^^^ ((p.2&&&1#64)*225#64)<<<56,p.2>>>1|||p.1<<<63)
def vT (y:BitVec 64×BitVec 64):Nat→BitVec 64×BitVec 64
 |0=>y
 |i+1=>Vq (vT y i)
def kP (x:BitVec 64×BitVec 64)(i:Nat):Bool:=decide ((if 64≤i then x.2 else x.1)>>>(63-i%64)&&&1#64=1#64)
def zT (x y:BitVec 64×BitVec 64):Nat→BitVec 64×BitVec 64
 |0=>(0#64,0#64)
 |i+1=>if kP x i then((zT x y i).1 ^^^ (vT y i).1,(zT x y i).2 ^^^ (vT y i).2) else zT x y i
theorem zy (s:List (BitVec 8))(h:s.length=16):ao Tryz.prog 257 [.str s] (.agg [.u64 (BitVec.ofNat 64 (be (s.take 8))),.u64 (BitVec.ofNat 64 (be (s.drop 8)))]):=by
 have h1:(s.take 8).length=8:=by rw[List.length_take];omega
 have h2:(s.drop 8).length=8:=by rw[List.length_drop];omega
 refine aB (by kernel_rfl) (fn:=Tryz.f257) (by kernel_rfl) Tryz.func257 rfl (by show 1≤10;decide) (by simp[aa,V.low]) (by simp[aa,V.low]) (ae ?_)
 simp only[go_sem,seval,Tryz.ntmps257,h]
 refine aH (jn _ (by omega)) ?_
 simp only[go_sem,seval,List.take_of_length_le,h]
 refine aH (jn _ (by omega)) ?_
 simp only[go_sem,seval]
 kernel_rfl
theorem vG (a b c d:BitVec 64):ao Tryz.prog 256 [.agg [.u64 a,.u64 b],.agg [.u64 c,.u64 d]] (.agg [.u64 (a ^^^ c),.u64 (b ^^^ d)]):=by
 refine aB (by kernel_rfl) (fn:=Tryz.f256) (by kernel_rfl) Tryz.func256 rfl (by show 2≤16;decide) (by simp[aa,V.low]) (by simp[aa,V.low]) (ae ?_)
 simp only[go_sem,seval,Tryz.ntmps256,Tryz.results256]
theorem Iu (a b:BitVec 64):ao Tryz.prog 259 [.agg [.u64 a,.u64 b]] (.str (ar a.toNat 8++ar b.toNat 8)):=by
 have hl:=aW a.toNat 8
 have h8:=qO (ar a.toNat 8) b (by omega)
 rw[hl] at h8
 refine aB (by kernel_rfl) (fn:=Tryz.f259) (by kernel_rfl) Tryz.func259 rfl (by show 1≤10;decide) (by simp[aa,V.low]) (by simp[V.low]) (ae ?_)
 simp only[go_sem,seval,Tryz.ntmps259]
 refine bh [] (pi a) (by kernel_rfl) (by simp) rfl (by simp) (by first|decide|simp) (by simp) (by simp) (by simp) (by simp) (by simp) ?_
 simp only[go_sem,seval]
 refine bh [1] (h8) (by kernel_rfl) (by simp) rfl (by simp) (by first|decide|simp) (by simp) (by simp) (by simp) (by simp) (by simp) ?_
 simp only[go_sem,seval,hl,aW]
 refine⟨by kernel_rfl,?_⟩
 rw[List.take_of_length_le (by rw[List.length_append,aW,aW];decide)]
theorem Iv (x y:BitVec 64×BitVec 64):ao Tryz.prog 258 [.agg [.u64 x.1,.u64 x.2],.agg [.u64 y.1,.u64 y.2]] (.agg [.u64 (zT x y 128).1,.u64 (zT x y 128).2]):=by
 refine aB (by kernel_rfl) (fn:=Tryz.f258) (by kernel_rfl) Tryz.func258 rfl (by show 2≤49;decide) (by simp[aa,V.low]) (by simp[aa,V.low]) (ae ?_)
 simp only[go_sem,seval,Tryz.ntmps258]
 refine bf (fun ji st=>∃ i:Nat,i+ji=128∧st=⟨[(2,.ptr 0 0),(3,.ptr 1 0),(4,.ptr 2 0),(5,.ptr 3 0),(9,.i64 i)],[bK [.u64 x.1,.u64 x.2],bK [.u64 (vT y i).1,.u64 (vT y i).2],bK [.u64 0#64,.u64 0#64],bK [.u64 (zT x y i).1,.u64 (zT x y i).2]]⟩) ?_ ?_
 ·exact bP (128) ⟨[(2,.ptr 0 0),(3,.ptr 1 0),(4,.ptr 2 0),(5,.ptr 3 0),(9,.i64 (0:Nat))],[bK [.u64 x.1,.u64 x.2],bK [.u64 (vT y (0:Nat)).1,.u64 (vT y (0:Nat)).2],bK [.u64 0#64,.u64 0#64],bK [.u64 (zT x y (0:Nat)).1,.u64 (zT x y (0:Nat)).2]]⟩ (by simp[St.get,af,-List.map_set,-List.map_map]) rfl (fun _ _ h=>h) ⟨0,by omega,rfl⟩
 rintro ji st ⟨i,hi,rfl⟩ _
 simp only[go_sem,seval]
 by_cases h0:i<128
 ·have h0':(i:Int)<128:=by omega
  have m1:(i:Int).tmod 64=((i%64:Nat):Int):=by rw[show(64:Int)=((64:Nat):Int) from rfl,Bf]
  have m2:aj (63-((i%64:Nat):Int))=((63-i%64:Nat):Int):=by rw[am (by omega) (by omega)];omega
  by_cases h6:64≤i
  ·have h6':(64:Int)≤(i:Int):=by omega
   by_cases hb:x.2>>>(63-i%64)&&&1#64=1#64
   ·have hbx:kP x i=true:=by unfold kP;rw[if_pos h6];exact decide_eq_true hb
    have hz1:(zT x y i).1 ^^^ (vT y i).1=(zT x y (i+1)).1:=by rw[zT,if_pos hbx]
    have hz2:(zT x y i).2 ^^^ (vT y i).2=(zT x y (i+1)).2:=by rw[zT,if_pos hbx]
    simp only[go_sem,seval,h0',h6',m1,m2,hb]
    refine⟨by omega,?_⟩
    refine ak (vG _ _ _ _) ?_
    simp only[go_sem,seval,hz1,hz2]
    refine bL (ji-1) ⟨[(2,.ptr 0 0),(3,.ptr 1 0),(4,.ptr 2 0),(5,.ptr 3 0),(9,.i64 (i+1:Nat))],[bK [.u64 x.1,.u64 x.2],bK [.u64 (vT y (i+1:Nat)).1,.u64 (vT y (i+1:Nat)).2],bK [.u64 0#64,.u64 0#64],bK [.u64 (zT x y (i+1:Nat)).1,.u64 (zT x y (i+1:Nat)).2]]⟩ (by omega) ?_ rfl (fun _ _ h=>h) ⟨i+1,by omega,rfl⟩
    have hw1:aj ((i:Int)+1)=((i+1:Nat):Int):=by rw[am (by omega) (by omega)];omega
    simp[St.get,af,hw1,-List.map_set,-List.map_map]
   ·have hbx:kP x i=false:=by unfold kP;rw[if_pos h6];exact decide_eq_false hb
    have hz1:zT x y i=zT x y (i+1):=by rw[zT,hbx];rfl
    simp only[go_sem,seval,h0',h6',m1,m2,hb]
    refine⟨by omega,?_⟩
    rw[hz1]
    refine bL (ji-1) ⟨[(2,.ptr 0 0),(3,.ptr 1 0),(4,.ptr 2 0),(5,.ptr 3 0),(9,.i64 (i+1:Nat))],[bK [.u64 x.1,.u64 x.2],bK [.u64 (vT y (i+1:Nat)).1,.u64 (vT y (i+1:Nat)).2],bK [.u64 0#64,.u64 0#64],bK [.u64 (zT x y (i+1:Nat)).1,.u64 (zT x y (i+1:Nat)).2]]⟩ (by omega) ?_ rfl (fun _ _ h=>h) ⟨i+1,by omega,rfl⟩
    have hw1:aj ((i:Int)+1)=((i+1:Nat):Int):=by rw[am (by omega) (by omega)];omega
    simp[St.get,af,hw1,-List.map_set,-List.map_map]
  ·have h6':¬ (64:Int)≤(i:Int):=by omega
   by_cases hb:x.1>>>(63-i%64)&&&1#64=1#64
   ·have hbx:kP x i=true:=by unfold kP;rw[if_neg h6];exact decide_eq_true hb
    have hz1:(zT x y i).1 ^^^ (vT y i).1=(zT x y (i+1)).1:=by rw[zT,if_pos hbx]
    have hz2:(zT x y i).2 ^^^ (vT y i).2=(zT x y (i+1)).2:=by rw[zT,if_pos hbx]
    simp only[go_sem,seval,h0',h6',m1,m2,hb]
    refine⟨by omega,?_⟩
    refine ak (vG _ _ _ _) ?_
    simp only[go_sem,seval,hz1,hz2]
    refine bL (ji-1) ⟨[(2,.ptr 0 0),(3,.ptr 1 0),(4,.ptr 2 0),(5,.ptr 3 0),(9,.i64 (i+1:Nat))],[bK [.u64 x.1,.u64 x.2],bK [.u64 (vT y (i+1:Nat)).1,.u64 (vT y (i+1:Nat)).2],bK [.u64 0#64,.u64 0#64],bK [.u64 (zT x y (i+1:Nat)).1,.u64 (zT x y (i+1:Nat)).2]]⟩ (by omega) ?_ rfl (fun _ _ h=>h) ⟨i+1,by omega,rfl⟩
    have hw1:aj ((i:Int)+1)=((i+1:Nat):Int):=by rw[am (by omega) (by omega)];omega
    simp[St.get,af,hw1,-List.map_set,-List.map_map]
   ·have hbx:kP x i=false:=by unfold kP;rw[if_neg h6];exact decide_eq_false hb
    have hz1:zT x y i=zT x y (i+1):=by rw[zT,hbx];rfl
    simp only[go_sem,seval,h0',h6',m1,m2,hb]
    refine⟨by omega,?_⟩
    rw[hz1]
    refine bL (ji-1) ⟨[(2,.ptr 0 0),(3,.ptr 1 0),(4,.ptr 2 0),(5,.ptr 3 0),(9,.i64 (i+1:Nat))],[bK [.u64 x.1,.u64 x.2],bK [.u64 (vT y (i+1:Nat)).1,.u64 (vT y (i+1:Nat)).2],bK [.u64 0#64,.u64 0#64],bK [.u64 (zT x y (i+1:Nat)).1,.u64 (zT x y (i+1:Nat)).2]]⟩ (by omega) ?_ rfl (fun _ _ h=>h) ⟨i+1,by omega,rfl⟩
    have hw1:aj ((i:Int)+1)=((i+1:Nat):Int):=by rw[am (by omega) (by omega)];omega
    simp[St.get,af,hw1,-List.map_set,-List.map_map]
 ·obtain rfl:i=128:=by omega
  have h0':¬ ((128:Nat):Int)<128:=by omega
  simp only[go_sem,seval]
end Go.Vm
end
section
namespace Go.Vm
def bU (s:List (BitVec 8)):BitVec 64×BitVec 64:=(BitVec.ofNat 64 (be (s.take 8)),BitVec.ofNat 64 (be (s.drop 8)))
abbrev Pr:=BitVec 64×BitVec 64
def kG (p:Pr):List (BitVec 8):=ar p.1.toNat 8++ar p.2.toNat 8
theorem yn (p:Pr):(kG p).length=16:=by unfold kG;rw[List.length_append,aW,aW]
def Vr (h p:Pr)(c:List (BitVec 8)):Pr:=zT (p.1 ^^^ (bU c).1,p.2 ^^^ (bU c).2) h 128
def oT (s:List (BitVec 8)):List (BitVec 8):=s++List.replicate (16-s.length) 0
theorem GZ (s:List (BitVec 8))(h:s.length≤16):(oT s).length=16:=by unfold oT;rw[List.length_append,List.length_replicate];omega
def gU (t:List (BitVec 8))(i:Nat):List (BitVec 8):=oT ((t.drop (16*i)).take 16)
def cU (h p:Pr)(t:List (BitVec 8)):Nat→Pr
 |0=>p
 |i+1=>Vr h (cU h p t i) (gU t i)
end Go.Vm
end
section
namespace Go.Vm
open Go.Proofs
theorem Iw (x:List (BitVec 8))(h:x.length≤16):splice [V.u8 0#8,V.u8 0#8,V.u8 0#8,V.u8 0#8,V.u8 0#8,V.u8 0#8,V.u8 0#8,V.u8 0#8,V.u8 0#8,V.u8 0#8,V.u8 0#8,V.u8 0#8,V.u8 0#8,V.u8 0#8,V.u8 0#8,V.u8 0#8] 0 (x.map V.u8)=(oT x).map V.u8:=by
 rcases x with _|⟨a,_|⟨b,l⟩⟩
 ·rfl
 ·rfl
 ·have hz:[V.u8 0#8,V.u8 0#8,V.u8 0#8,V.u8 0#8,V.u8 0#8,V.u8 0#8,V.u8 0#8,V.u8 0#8,V.u8 0#8,V.u8 0#8,V.u8 0#8,V.u8 0#8,V.u8 0#8,V.u8 0#8,V.u8 0#8,V.u8 0#8]=List.replicate 16 (V.u8 0#8):=rfl
  rw[hz]
  generalize hy:a::b::l=y at h
  have hs:splice (List.replicate 16 (V.u8 0#8)) 0 (y.map V.u8)=(List.replicate 16 (V.u8 0#8)).take 0++y.map V.u8++(List.replicate 16 (V.u8 0#8)).drop (0+(y.map V.u8).length):=by subst hy;rfl
  rw[hs]
  unfold oT
  simp only[List.take_zero,List.nil_append,Nat.zero_add,List.length_map,List.drop_replicate,List.map_append,List.map_replicate]
  rfl
theorem vH (h t:List (BitVec 8))(p:Pr)(hh:h.length=16)(ht:t.length≤140737488351232):ag Tryz.prog 255 [.str t,.ptr 0 0,.ptr 1 0] [bK [.u64 p.1,.u64 p.2],bK [.str h]] (.tup []) [bK [.u64 (cU (bU h) p t ((t.length+15)/16)).1,.u64 (cU (bU h) p t ((t.length+15)/16)).2],bK [.str h]]:=by
 refine ap (by kernel_rfl) (fn:=Tryz.f255) Tryz.func255 rfl (by show 3≤23;decide) (ae ?_)
 simp only[go_sem,seval,Tryz.ntmps255]
 refine bf (fun ji st=>∃ i:Nat,i+ji=(t.length+15)/16∧st=⟨[(0,.str (t.drop (16*i))),(1,.ptr 0 0),(2,.ptr 1 0)],[bK [.u64 (cU (bU h) p t i).1,.u64 (cU (bU h) p t i).2],bK [.str h]]⟩) ?_ ?_
 ·exact bP ((t.length+15)/16) ⟨[(0,.str (t.drop (16*(0:Nat)))),(1,.ptr 0 0),(2,.ptr 1 0)],[bK [.u64 (cU (bU h) p t (0:Nat)).1,.u64 (cU (bU h) p t (0:Nat)).2],bK [.str h]]⟩ (by simp[St.get,af,-List.map_set,-List.map_map]) rfl (fun _ _ h=>h) ⟨0,by omega,rfl⟩
 rintro ji st ⟨i,hi,rfl⟩ _
 simp only[go_sem,seval]
 have hd:(t.drop (16*i)).length=t.length-16*i:=List.length_drop
 by_cases h0:16*i<t.length
 ·have hne:¬ t.drop (16*i)=[]:=fun e=>by rw[e] at hd;simp at hd;omega
  have hX:(t.drop (16*i)).take (min (t.length-16*i) 16)=(t.drop (16*i)).take 16:=by
   by_cases hc:16≤t.length-16*i
   ·rw[Nat.min_eq_right hc]
   ·rw[Nat.min_eq_left (by omega),List.take_of_length_le (by omega),List.take_of_length_le (by omega)]
  have hsp:=Iw ((t.drop (16*i)).take 16) (by rw[List.length_take];omega)
  rw[show oT ((t.drop (16*i)).take 16)=gU t i from rfl] at hsp
  have hcl:(gU t i).length=16:=GZ _ (by rw[List.length_take];omega)
  have hrd:=zy (gU t i) hcl
  have hrh:=zy h hh
  have hpl:=vG (cU (bU h) p t i).1 (cU (bU h) p t i).2 (bU (gU t i)).1 (bU (gU t i)).2
  have htm:=Iv ((cU (bU h) p t i).1 ^^^ (bU (gU t i)).1,(cU (bU h) p t i).2 ^^^ (bU (gU t i)).2) (bU h)
  have hst:zT ((cU (bU h) p t i).1 ^^^ (bU (gU t i)).1,(cU (bU h) p t i).2 ^^^ (bU (gU t i)).2) (bU h) 128=cU (bU h) p t (i+1):=rfl
  rw[hst] at htm
  rw[show(BitVec.ofNat 64 (be (List.take 8 (gU t i))))=(bU (gU t i)).1 from rfl,show(BitVec.ofNat 64 (be (List.drop 8 (gU t i))))=(bU (gU t i)).2 from rfl] at hrd
  rw[show(BitVec.ofNat 64 (be (List.take 8 h)))=(bU h).1 from rfl,show(BitVec.ofNat 64 (be (List.drop 8 h)))=(bU h).2 from rfl] at hrh
  simp only[go_sem,seval,hne,hX,hsp,hcl,List.take_of_length_le]
  refine aH (hrd) ?_
  simp only[go_sem,seval]
  refine aH (hpl) ?_
  simp only[go_sem,seval]
  refine aH (hrh) ?_
  simp only[go_sem,seval]
  refine aH (htm) ?_
  simp only[go_sem,seval]
  refine⟨by kernel_rfl,?_⟩
  have hmn:(if((t.length-16*i:Nat):Int)<16 then((t.length-16*i:Nat):Int) else 16)=((min (t.length-16*i) 16:Nat):Int):=by split <;>omega
  have hdr:((t.drop (16*i)).take (t.length-16*i)).drop (min (t.length-16*i) 16)=t.drop (16*(i+1)):=by
   rw[List.take_of_length_le (by omega),List.drop_drop]
   by_cases hh:16≤t.length-16*i
   ·rw[Nat.min_eq_right hh,Nat.mul_add]
   ·rw[Nat.min_eq_left (by omega),List.drop_of_length_le (by omega),List.drop_of_length_le (by omega)]
  simp only[hmn,Int.toNat_natCast,hdr]
  refine⟨⟨by omega,by omega⟩,?_⟩
  have hw1:aj ((i:Int)+1)=((i+1:Nat):Int):=by rw[am (by omega) (by omega)];omega
  refine dP (ji-1) ⟨[(0,.str (t.drop (16*(i+1:Nat)))),(1,.ptr 0 0),(2,.ptr 1 0)],[bK [.u64 (cU (bU h) p t (i+1:Nat)).1,.u64 (cU (bU h) p t (i+1:Nat)).2],bK [.str h]]⟩ [0,1] (by omega) rfl (by simp) rfl (by decide) (by simp[cz,St.get,af,-List.map_map,-List.map_set,cU]) (by simp[cU]) ⟨i+1,by omega,rfl⟩
 ·have he:t.drop (16*i)=[]:=List.drop_of_length_le (by omega)
  obtain rfl:i=(t.length+15)/16:=by omega
  simp only[go_sem,seval,he]
  exact Fin.ren [0,1] (by simp) (by simp) (by rfl) (by decide) (by simp) (by simp)
def oI (l s:List (BitVec 8)):List (BitVec 8):=ar (BitVec.ofInt 64 (l.length:Int)*8#64).toNat 8++ar (BitVec.ofInt 64 (s.length:Int)*8#64).toNat 8
theorem ut (l s:List (BitVec 8)):(oI l s).length=16:=by unfold oI;rw[List.length_append,aW,aW]
def iA (h l s:List (BitVec 8)):Pr:=cU (bU h) (cU (bU h) (cU (bU h) (0#64,0#64) l ((l.length+15)/16)) s ((s.length+15)/16)) (oI l s) 1
theorem NC (h l s:List (BitVec 8))(hh:h.length=16)(hl:l.length≤140737488351232)(hs:s.length≤140737488351232):ao Tryz.prog 250 [.str h,.str l,.str s] (.tup [.str (kG (iA h l s)),.i64 0]):=by
 have h':(h.length:Int)=16:=by omega
 have t1:=vH h l (0#64,0#64) hh hl
 have t2:=vH h s (cU (bU h) (0#64,0#64) l ((l.length+15)/16)) hh hs
 have t3:=vH h (oI l s) (cU (bU h) (cU (bU h) (0#64,0#64) l ((l.length+15)/16)) s ((s.length+15)/16)) hh (by rw[ut];omega)
 rw[ut,show cU (bU h) (cU (bU h) (cU (bU h) (0#64,0#64) l ((l.length+15)/16)) s ((s.length+15)/16)) (oI l s) ((16+15)/16)=iA h l s from rfl] at t3
 have b1:=pi (BitVec.ofInt 64 (l.length:Int)*8#64)
 have hb8:=aW (BitVec.ofInt 64 (l.length:Int)*8#64).toNat 8
 have b2:=qO (ar (BitVec.ofInt 64 (l.length:Int)*8#64).toNat 8) (BitVec.ofInt 64 (s.length:Int)*8#64) (by omega)
 rw[hb8,show ar (BitVec.ofInt 64 (l.length:Int)*8#64).toNat 8++ar (BitVec.ofInt 64 (s.length:Int)*8#64).toNat 8=oI l s from rfl] at b2
 have hx:=Iu (iA h l s).1 (iA h l s).2
 rw[show ar (iA h l s).1.toNat 8++ar (iA h l s).2.toNat 8=kG (iA h l s) from rfl] at hx
 refine aB (by kernel_rfl) (fn:=Tryz.f250) (by kernel_rfl) Tryz.func250 rfl (by show 3≤35;decide) (by simp[aa,V.low]) (by simp[aa,V.low]) (ae ?_)
 simp only[go_sem,seval,Tryz.ntmps250,h']
 refine aq [1,0] (t1) (by kernel_rfl) (by simp) rfl (by simp) (by first|decide|simp) (by simp) (by simp) (by simp) (by simp) (by simp) ?_
 simp only[go_sem,seval]
 refine aq [1,0] (t2) (by kernel_rfl) (by simp) rfl (by simp) (by first|decide|simp) (by simp) (by simp) (by simp) (by simp) (by simp) ?_
 simp only[go_sem,seval]
 refine aq [] (b1) (by kernel_rfl) (by simp) rfl (by simp) (by first|decide|simp) (by simp) (by simp) (by simp) (by simp) (by simp) ?_
 simp only[go_sem,seval]
 refine aq [2] (b2) (by kernel_rfl) (by simp) rfl (by simp) (by first|decide|simp) (by simp) (by simp) (by simp) (by simp) (by simp) ?_
 simp only[go_sem,seval,ut,List.take_of_length_le]
 refine aq [1,0] (t3) (by kernel_rfl) (by simp) rfl (by simp) (by first|decide|simp) (by simp) (by simp) (by simp) (by simp) (by simp) ?_
 simp only[go_sem,seval]
 refine ak (hx) ?_
 simp only[go_sem,seval]
theorem Ay (E:Nat→List (BitVec 8))(n K T l s:List (BitVec 8))(R:Nat)(hEe:∀ c,E c=cC (n++ar c 4) K R (R-1))(hE:∀ c,(E c).length=16)(hn:n.length=12)(hl:l.length≤2000)(hs:s.length≤2016)(hR:2≤R)(hR2:R≤20)(hK:K.length=16*R)(hT:T.length=512)(hf:∀ b:BitVec 8,T.getD (0+b.toNat) 0=cg b):
  ag Tryz.prog 245 [.agg [.ptr 0 0,.str n],.str l,.str s] [bK [.ptr 1 0,.str K],bK (T.map .u8)] (.str (aQ (kG (iA (cC (List.replicate 16 0#8) K R (R-1)) l s)) (E 1))) [bK [.ptr 1 0,.str K],bK (T.map .u8)]:=by
 have hb:=yV n K T R 1 hn (by omega) hR hR2 hK hT hf
 rw[←hEe] at hb
 have he:=ym (List.replicate 16 0#8) K T R (by simp) hR hR2 hK hT hf
 have hel:=uM (List.replicate 16 0#8) K R (by simp) hK (R-1) (by omega)
 have hrep:=nz 16 (by decide)
 generalize hze:cC (List.replicate 16 0#8) K R (R-1)=z at*
 have hsum:=NC z l s hel (by omega) (by omega)
 have htl:=yn (iA z l s)
 have hx:=rT (kG (iA z l s)) (E 1) (by omega) (by rw[hE];omega)
 refine ap (by kernel_rfl) (fn:=Tryz.f245) Tryz.func245 rfl (by show 3≤23;decide) (ae ?_)
 simp only[go_sem,seval,Tryz.ntmps245]
 refine aH (hrep) ?_
 simp only[go_sem,seval]
 refine qM [0,1] (he) (by kernel_rfl) (by simp) rfl (by simp) (by decide) (by simp) (by simp) (by simp) (by simp) (by simp) (by first|(simp[dR,cZ,az,db,Blk.ren,-List.map_map,-List.map_set];done)|simp[go_sem,dR]) ?_
 simp only[go_sem,seval]
 refine aH (hsum) ?_
 simp only[go_sem,seval]
 refine⟨by kernel_rfl,?_⟩
 refine aq [0,1] (hb) (by kernel_rfl) (by simp) rfl (by simp) (by first|decide|simp) (by simp) (by simp) (by simp) (by simp) (by simp) ?_
 simp only[go_sem,seval]
 refine ak (hx) ?_
 simp only[go_sem,seval]
 exact Fin.ren [0,1] (by simp) (by simp) (by rfl) (by decide) (by simp) (by simp)
def iB (k:List (BitVec 8)):List (BitVec 8):=(wl k 8 60).flatten
def gE (k n:List (BitVec 8))(c:Nat):List (BitVec 8):=cC (n++ar c 4) (iB k) 15 14
def gS (k n t:List (BitVec 8)):List (BitVec 8):=aQ t (eS (gE k n) ((t.length+15)/16))
def gT (k n l s:List (BitVec 8)):List (BitVec 8):=aQ (kG (iA (cC (List.replicate 16 0#8) (iB k) 15 14) l s)) (gE k n 1)
theorem pm (k:List (BitVec 8))(hk:k.length=32):(iB k).length=240:=Cr k 8 (by omega) (by omega) 60
theorem mE (k n:List (BitVec 8))(hk:k.length=32)(hn:n.length=12)(c:Nat):(gE k n c).length=16:=by
 unfold gE
 exact uM _ _ 15 (by rw[List.length_append,aW];omega) (by rw[pm k hk]) 14 (by omega)
theorem vI (k n t:List (BitVec 8))(hk:k.length=32)(hn:n.length=12):(gS k n t).length=t.length:=by
 unfold gS
 rw[fV,rE _ (mE k n hk hn)];omega
theorem vJ (k n l s:List (BitVec 8))(hk:k.length=32)(hn:n.length=12):(gT k n l s).length=16:=by
 unfold gT
 rw[fV,yn,mE k n hk hn];rfl
theorem Ke (k n l t:List (BitVec 8))(h:cb k n l t 2000≠0):ag Tryz.prog 242 [.str k,.str n,.str l,.str t] [] (.tup [.str [],.i64 (cb k n l t 2000)]) []:=by
 have hc:=pj k n l t 2000
 generalize cb k n l t 2000=e at*
 have he:(e=0)=False:=eq_false h
 refine ap (by kernel_rfl) (fn:=Tryz.f242) Tryz.func242 rfl (by show 4≤34;decide) (ae ?_)
 simp only[go_sem,seval,Tryz.ntmps242]
 refine ak (hc) ?_
 simp only[go_sem,seval,he]
 exact Fin.ren [] (by simp) (by simp) (by rfl) (by decide) (by simp) (by simp)
theorem Ix (k n l t:List (BitVec 8))(hk:k.length=32)(hn:n.length=12)(hl:l.length≤2000)(ht:t.length≤2000):ag Tryz.prog 242 [.str k,.str n,.str l,.str t] [] (.tup [.str (gS k n t++gT k n l (gS k n t)),.i64 0]) []:=by
 have hc:=pj k n l t 2000
 have hc0:cb k n l t 2000=0:=by
  unfold cb;rw[if_neg (by omega),if_neg (by omega)]
 rw[hc0] at hc
 have hnew:=BA k 8 (.inr rfl) (by omega)
 have hTl:=pF 256
 have hT:=xu
 have hSl:=vI k n t hk hn
 have hTgl:=vJ k n l (gS k n t) hk hn
 rw[show 4*(8+7)=60 from rfl,show(wl k 8 60).flatten=iB k from rfl] at hnew
 have hxo:=zx (gE k n) (mE k n hk hn) n (iB k) (du 256) t 15 (fun c=>rfl) hn (by omega) (by omega) (by omega) (by rw[pm k hk]) hTl (fun b=>by rw[Nat.zero_add,hT])
 have htg:=Ay (gE k n) n (iB k) (du 256) l (gS k n t) 15 (fun c=>rfl) (mE k n hk hn) hn hl (by omega) (by omega) (by omega) (by rw[pm k hk]) hTl (fun b=>by rw[Nat.zero_add,hT])
 rw[show aQ t (eS (gE k n) ((t.length+15)/16))=gS k n t from rfl] at hxo
 rw[show aQ (kG (iA (cC (List.replicate 16 0#8) (iB k) 15 (15-1)) l (gS k n t))) (gE k n 1)=gT k n l (gS k n t) from rfl] at htg
 generalize du 256=T at*
 generalize iB k=K at*
 generalize gT k n l (gS k n t)=tg at*
 generalize gS k n t=sl at*
 refine ap (by kernel_rfl) (fn:=Tryz.f242) Tryz.func242 rfl (by show 4≤34;decide) (ae ?_)
 simp only[go_sem,seval,Tryz.ntmps242]
 refine ak (hc) ?_
 simp only[go_sem,seval]
 refine aq [] (hnew) (by kernel_rfl) (by simp) rfl (by simp) (by first|decide|simp) (by simp) (by simp) (by simp) (by simp) (by simp) ?_
 simp only[go_sem,seval]
 refine aq [0,1] (hxo) (by kernel_rfl) (by simp) rfl (by simp) (by first|decide|simp) (by simp) (by simp) (by simp) (by simp) (by simp) ?_
 simp only[go_sem,seval]
 refine aq [0,1] (htg) (by kernel_rfl) (by simp) rfl (by simp) (by first|decide|simp) (by simp) (by simp) (by simp) (by simp) (by simp) ?_
 simp only[go_sem,seval]
 refine⟨by omega,?_⟩
 exact Fin.ren [] (by simp) (by simp) (by rfl) (by decide) (by simp) (by simp)
theorem Kf (k n l t:List (BitVec 8))(h:cb k n l t 2016≠0):ag Tryz.prog 241 [.str k,.str n,.str l,.str t] [] (.tup [.str [],.i64 (cb k n l t 2016)]) []:=by
 have hc:=pj k n l t 2016
 generalize cb k n l t 2016=e at*
 have he:(e=0)=False:=eq_false h
 refine ap (by kernel_rfl) (fn:=Tryz.f241) Tryz.func241 rfl (by show 4≤50;decide) (ae ?_)
 simp only[go_sem,seval,Tryz.ntmps241]
 refine ak (hc) ?_
 simp only[go_sem,seval,he]
 exact Fin.ren [] (by simp) (by simp) (by rfl) (by decide) (by simp) (by simp)
theorem G0 (k n l t:List (BitVec 8))(h:cb k n l t 2016=0)(ht:t.length<16):ag Tryz.prog 241 [.str k,.str n,.str l,.str t] [] (.tup [.str [],.i64 4]) []:=by
 have hc:=pj k n l t 2016
 rw[h] at hc
 have ht':(t.length:Int)<16:=by omega
 refine ap (by kernel_rfl) (fn:=Tryz.f241) Tryz.func241 rfl (by show 4≤50;decide) (ae ?_)
 simp only[go_sem,seval,Tryz.ntmps241]
 refine ak (hc) ?_
 simp only[go_sem,seval,ht']
 exact Fin.ren [] (by simp) (by simp) (by rfl) (by decide) (by simp) (by simp)
theorem Iy (k n l t:List (BitVec 8))(hk:k.length=32)(hn:n.length=12)(hl:l.length≤2000)(ht:t.length≤2016)(h16:16≤t.length):ag Tryz.prog 241 [.str k,.str n,.str l,.str t] []
  (if gT k n l (t.take (t.length-16))=t.drop (t.length-16) then .tup [.str (gS k n (t.take (t.length-16))),.i64 0] else .tup [.str [],.i64 6]) []:=by
 have hc:=pj k n l t 2016
 have hc0:cb k n l t 2016=0:=by
  unfold cb;rw[if_neg (by omega),if_neg (by omega)]
 rw[hc0] at hc
 have hnew:=BA k 8 (.inr rfl) (by omega)
 have hTl:=pF 256
 have hT:=xu
 have hsl:(t.take (t.length-16)).length=t.length-16:=by rw[List.length_take];omega
 generalize hs:t.take (t.length-16)=s at*
 have hTgl:=vJ k n l s hk hn
 rw[show 4*(8+7)=60 from rfl,show(wl k 8 60).flatten=iB k from rfl] at hnew
 have hxo:=zx (gE k n) (mE k n hk hn) n (iB k) (du 256) s 15 (fun c=>rfl) hn (by omega) (by omega) (by omega) (by rw[pm k hk]) hTl (fun b=>by rw[Nat.zero_add,hT])
 have htg:=Ay (gE k n) n (iB k) (du 256) l s 15 (fun c=>rfl) (mE k n hk hn) hn hl (by omega) (by omega) (by omega) (by rw[pm k hk]) hTl (fun b=>by rw[Nat.zero_add,hT])
 rw[show aQ s (eS (gE k n) ((s.length+15)/16))=gS k n s from rfl] at hxo
 rw[show aQ (kG (iA (cC (List.replicate 16 0#8) (iB k) 15 (15-1)) l s)) (gE k n 1)=gT k n l s from rfl] at htg
 generalize du 256=T at*
 generalize iB k=K at*
 generalize gT k n l s=tg at*
 generalize gS k n s=sl at*
 have h16':¬ (t.length:Int)<16:=by omega
 have hsub:(t.length:Int)-16=((t.length-16:Nat):Int):=by omega
 have hw:aj ((t.length-16:Nat):Int)=((t.length-16:Nat):Int):=am (by omega) (by omega)
 by_cases he:tg=t.drop (t.length-16)
 ·rw[if_pos he]
  have he':=eq_true he
  refine ap (by kernel_rfl) (fn:=Tryz.f241) Tryz.func241 rfl (by show 4≤50;decide) (ae ?_)
  simp only[go_sem,seval,Tryz.ntmps241]
  refine ak (hc) ?_
  simp only[go_sem,seval,h16']
  refine aq [] (hnew) (by kernel_rfl) (by simp) rfl (by simp) (by first|decide|simp) (by simp) (by simp) (by simp) (by simp) (by simp) ?_
  simp only[go_sem,seval,hsub,hw,hs]
  refine⟨by omega,by omega,by kernel_rfl,?_⟩
  refine aq [0,1] (htg) (by kernel_rfl) (by simp) rfl (by simp) (by first|decide|simp) (by simp) (by simp) (by simp) (by simp) (by simp) ?_
  simp only[go_sem,seval,he']
  refine aq [0,1] (hxo) (by kernel_rfl) (by simp) rfl (by simp) (by first|decide|simp) (by simp) (by simp) (by simp) (by simp) (by simp) ?_
  simp only[go_sem,seval]
  exact Fin.ren [] (by simp) (by simp) (by rfl) (by decide) (by simp) (by simp)
 ·rw[if_neg he]
  have he':=eq_false he
  refine ap (by kernel_rfl) (fn:=Tryz.f241) Tryz.func241 rfl (by show 4≤50;decide) (ae ?_)
  simp only[go_sem,seval,Tryz.ntmps241]
  refine ak (hc) ?_
  simp only[go_sem,seval,h16']
  refine aq [] (hnew) (by kernel_rfl) (by simp) rfl (by simp) (by first|decide|simp) (by simp) (by simp) (by simp) (by simp) (by simp) ?_
  simp only[go_sem,seval,hsub,hw,hs]
  refine⟨by omega,by omega,by kernel_rfl,?_⟩
  refine aq [0,1] (htg) (by kernel_rfl) (by simp) rfl (by simp) (by first|decide|simp) (by simp) (by simp) (by simp) (by simp) (by simp) ?_
  simp only[go_sem,seval,he']
  exact Fin.ren [] (by simp) (by simp) (by rfl) (by decide) (by simp) (by simp)
theorem Az (k n l t:List (BitVec 8))(m:Nat)(h:cb k n l t m=0):k.length=32∧n.length=12∧l.length≤2000∧t.length≤m:=by
 unfold cb at h
 split at h
 ·cases h
 ·split at h
  ·cases h
  ·omega
def jp (k n l t:List (BitVec 8)):List (BitVec 8)×Int:=if cb k n l t 2000=0 then(gS k n t++gT k n l (gS k n t),0) else([],cb k n l t 2000)
def kw (k n l t:List (BitVec 8)):List (BitVec 8)×Int:=if cb k n l t 2016=0 then(if t.length<16 then([],4) else if gT k n l (t.take (t.length-16))=t.drop (t.length-16) then(gS k n (t.take (t.length-16)),0) else([],6)) else([],cb k n l t 2016)
theorem G1 (k n l t:List (BitVec 8)):ag Tryz.prog 242 [.str k,.str n,.str l,.str t] [] (.tup [.str (jp k n l t).1,.i64 (jp k n l t).2]) []:=by
 unfold jp
 by_cases h:cb k n l t 2000=0
 ·obtain⟨hk,hn,hl,ht⟩:=Az k n l t 2000 h
  rw[if_pos h]
  exact Ix k n l t hk hn hl ht
 ·rw[if_neg h]
  exact Ke k n l t h
theorem G2 (k n l t:List (BitVec 8)):ag Tryz.prog 241 [.str k,.str n,.str l,.str t] [] (.tup [.str (kw k n l t).1,.i64 (kw k n l t).2]) []:=by
 unfold kw
 by_cases h:cb k n l t 2016=0
 ·obtain⟨hk,hn,hl,ht⟩:=Az k n l t 2016 h
  rw[if_pos h]
  by_cases h16:t.length<16
  ·rw[if_pos h16]
   exact G0 k n l t h h16
  ·rw[if_neg h16]
   have :=Iy k n l t hk hn hl ht (by omega)
   by_cases hq:gT k n l (t.take (t.length-16))=t.drop (t.length-16)
   ·rw[if_pos hq] at this ⊢;exact this
   ·rw[if_neg hq] at this ⊢;exact this
 ·rw[if_neg h]
  exact Kf k n l t h
theorem Iz (k c m t:List (BitVec 8)):ao Tryz.prog 240 [.agg [],.str k,.str c,.str m,.str t] (.tup [.str (jp k c m t).1,.i64 (jp k c m t).2]):=by
 have h:=qH (by kernel_rfl) (by simp[aa,V.low]) (G1 k c m t)
 generalize jp k c m t=g at*
 refine aB (by kernel_rfl) (fn:=Tryz.f240) (by kernel_rfl) Tryz.func240 rfl (by show 5≤19;decide) (by simp[aa,V.low]) (by simp[aa,V.low]) (ae ?_)
 simp only[go_sem,seval,Tryz.ntmps240]
 refine ak (h) ?_
 simp only[go_sem,seval]
theorem IA (k c m t:List (BitVec 8)):ao Tryz.prog 239 [.agg [],.str k,.str c,.str m,.str t] (.tup [.str (kw k c m t).1,.i64 (kw k c m t).2]):=by
 have h:=qH (by kernel_rfl) (by simp[aa,V.low]) (G2 k c m t)
 generalize kw k c m t=g at*
 refine aB (by kernel_rfl) (fn:=Tryz.f239) (by kernel_rfl) Tryz.func239 rfl (by show 5≤19;decide) (by simp[aa,V.low]) (by simp[aa,V.low]) (ae ?_)
 simp only[go_sem,seval,Tryz.ntmps239]
 refine ak (h) ?_
 simp only[go_sem,seval]
theorem BD (t z:List (BitVec 8))(h:t.length≤z.length):aQ (aQ t z) z=t:=by
 unfold aQ
 apply List.ext_getElem?
 intro i
 by_cases hi:i<t.length
 ·have hz:i<z.length:=by omega
  rw[List.getElem?_zipWith,List.getElem?_zipWith,List.getElem?_eq_getElem hi,List.getElem?_eq_getElem hz]
  show some ((t[i] ^^^ z[i]) ^^^ z[i])=some t[i]
  rw[BitVec.xor_assoc,BitVec.xor_self,BitVec.xor_zero]
 ·rw[List.getElem?_zipWith,List.getElem?_zipWith,List.getElem?_eq_none (l:=t) (by omega)]
theorem IB (B:BitVec 32→List (BitVec 8))(hB:∀ m,(B m).length=64)(n:BitVec 32)(t:List (BitVec 8)):xored B n (xored B n t)=t:=by
 have hl:=uo B hB n t
 have e:xored B n (xored B n t)=aQ (xored B n t) (gg B n ((t.length+63)/64)):=by
  rw[←hl];rfl
 rw[e]
 show aQ (aQ t (gg B n ((t.length+63)/64))) (gg B n ((t.length+63)/64))=t
 refine BD t _ ?_
 rw[uj B hB]
 omega
theorem Qt (k n t:List (BitVec 8))(hk:k.length=32)(hn:n.length=12):gS k n (gS k n t)=t:=by
 have hl:=vI k n t hk hn
 have hsl:=rE _ (mE k n hk hn) ((t.length+15)/16)
 have e:gS k n (gS k n t)=aQ (gS k n t) (eS (gE k n) ((t.length+15)/16)):=by
  rw[←hl];rfl
 rw[e]
 exact BD t _ (by omega)
theorem BE {a b:List (BitVec 8)}(h:b.length=16):(a++b).take ((a++b).length-16)=a:=by
 rw[List.length_append,show a.length+b.length-16=a.length by omega]
 exact List.take_left' rfl
theorem ND {a b:List (BitVec 8)}(h:b.length=16):(a++b).drop ((a++b).length-16)=b:=by
 rw[List.length_append,show a.length+b.length-16=a.length by omega]
 exact List.drop_left' rfl
theorem G4 {k c m t:List (BitVec 8)}(hk:k.length=32)(hc:c.length=12)(hm:m.length≤2000)(ht:t.length≤2000):(jv k c m t).2=0∧(jv k c m t).1.length=t.length+16∧kF k c m (jv k c m t).1=(t,0):=by
 have h0:gY k c m t 2000=0:=by
  unfold gY
  rw[if_pos hk,if_pos hc,if_neg (by omega),if_neg (by omega)]
 have hB:∀ m,(dS k c m).length=64:=fun m=>qJ k c m hk hc
 have hl:=uo (dS k c) hB 1#32 t
 have hx:=IB (dS k c) hB 1#32 t
 unfold jv
 rw[if_pos h0]
 generalize xored (dS k c) 1#32 t=x at*
 have hT:(eO k c m x).length=16:=re _ _
 have hlen:(x++eO k c m x).length=t.length+16:=by rw[List.length_append,hl,hT]
 refine⟨rfl,hlen,?_⟩
 have h1:gY k c m (x++eO k c m x) 2016=0:=by
  unfold gY
  rw[if_pos hk,if_pos hc,if_neg (by omega),if_neg (by rw[hlen];omega)]
 unfold kF
 rw[if_pos h1,if_neg (by show ¬ (x++eO k c m x).length<16;rw[hlen];omega)]
 show(if(x++eO k c m x).take ((x++eO k c m x).length-16)++eO k c m ((x++eO k c m x).take ((x++eO k c m x).length-16))=x++eO k c m x then(xored (dS k c) 1#32 ((x++eO k c m x).take ((x++eO k c m x).length-16)),(0:Int)) else([],6))=_
 rw[BE hT,if_pos rfl,hx]
theorem Ff {k n l t:List (BitVec 8)}(hk:k.length=32)(hn:n.length=12)(hl:l.length≤2000)(ht:t.length≤2000):(jp k n l t).2=0∧(jp k n l t).1.length=t.length+16∧kw k n l (jp k n l t).1=(t,0):=by
 have h0:cb k n l t 2000=0:=by
  unfold cb
  rw[if_neg (by omega),if_neg (by omega)]
 have hsl:=vI k n t hk hn
 have hx:=Qt k n t hk hn
 unfold jp
 rw[if_pos h0]
 generalize gS k n t=x at*
 have hT:(gT k n l x).length=16:=vJ k n l x hk hn
 have hlen:(x++gT k n l x).length=t.length+16:=by rw[List.length_append,hsl,hT]
 refine⟨rfl,hlen,?_⟩
 have h1:cb k n l (x++gT k n l x) 2016=0:=by
  unfold cb
  rw[if_neg (by omega),if_neg (by rw[hlen];omega)]
 unfold kw
 rw[if_pos h1,if_neg (by show ¬ (x++gT k n l x).length<16;rw[hlen];omega)]
 show(if gT k n l ((x++gT k n l x).take ((x++gT k n l x).length-16))=(x++gT k n l x).drop ((x++gT k n l x).length-16) then(gS k n ((x++gT k n l x).take ((x++gT k n l x).length-16)),(0:Int)) else([],6))=_
 rw[BE hT,ND hT,if_pos rfl,hx]
section
open Classical in
noncomputable def dG (x:Int) (s:List ac):List ac:=if h:∃ o:List ac,ao Tryz.prog 170 [.i64 x,.str s] (.tup [.str o,.i64 0])∧o.length=32 then h.choose else[]
theorem mz {x:Int}(hx:x=1∨x=2)(s:List ac)(hs:s.length≤1099511627776):ao Tryz.prog 170 [.i64 x,.str s] (.tup [.str (dG x s),.i64 0])∧(dG x s).length=32:=by
 obtain⟨_,h1,o,ho,rfl⟩:=If x hx s hs
 have h:∃ o:List ac,ao Tryz.prog 170 [.i64 x,.str s] (.tup [.str o,.i64 0])∧o.length=32:=⟨o,h1,ho⟩
 unfold dG
 rw[dif_pos h]
 exact h.choose_spec
def xA (x:Int)(key s:List ac)(n:Nat)(os:List (List ac)):Prop:=ag Tryz.prog 23 [.i64 x,.str key,.str s,.i64 n] [] (.tup [.slice 0 0 n 1,.i64 0]) [bK (os.map .str)]∧os.length=n∧∀ o∈os,o.length=32
open Classical in
noncomputable def oU (x:Int) (key s:List ac) (n:Nat):List (List ac):=if h:∃ os,xA x key s n os then h.choose else[]
theorem rO {x:Int}(hx:x=1∨x=2)(key s:List ac)(hk2:key.length≤1099511627776)(hs:s.length≤549755813888){n:Nat}(hn:0<n)(hn3:n≤3):xA x key s n (oU x key s n):=by
 obtain⟨_,_,hd,rfl,os,ho1,ho2,rfl⟩:=Ig x hx key s hk2 hs n hn hn3
 have h:∃ os,xA x key s n os:=⟨os,hd,ho1,ho2⟩
 unfold oU
 rw[dif_pos h]
 exact h.choose_spec
noncomputable def d2 (x:Int) (c t:List ac) (i:Nat):List ac:=(oU x c t 2).getD i []
noncomputable def d3 (x:Int) (c t:List ac) (i:Nat):List ac:=(oU x c t 3).getD i []
theorem sc {x:Int}(hx:x=1∨x=2)(c t:List ac)(hc:c.length≤1099511627776)(ht:t.length≤549755813888):ag Tryz.prog 23 [.i64 x,.str c,.str t,.i64 2] [] (.tup [.slice 0 0 2 1,.i64 0]) [bK [.str (d2 x c t 0),.str (d2 x c t 1)]]∧(d2 x c t 0).length=32∧(d2 x c t 1).length=32:=by
 obtain⟨h1,h2,h3⟩:=rO hx c t hc ht (n:=2) (by decide) (by decide)
 unfold d2
 obtain⟨a,b,e,ha,hb⟩:=two h2 h3
 rw[e] at h1 ⊢
 exact⟨h1,ha,hb⟩
theorem Ct {x:Int}(hx:x=1∨x=2)(c t:List ac)(hc:c.length≤1099511627776)(ht:t.length≤549755813888):ag Tryz.prog 23 [.i64 x,.str c,.str t,.i64 3] [] (.tup [.slice 0 0 3 1,.i64 0]) [bK [.str (d3 x c t 0),.str (d3 x c t 1),.str (d3 x c t 2)]]∧(d3 x c t 0).length=32∧(d3 x c t 1).length=32∧(d3 x c t 2).length=32:=by
 obtain⟨h1,h2,h3⟩:=rO hx c t hc ht (n:=3) (by decide) (by decide)
 unfold d3
 obtain⟨a,b,d,e,ha,hb,hd⟩:=three h2 h3
 rw[e] at h1 ⊢
 exact⟨h1,ha,hb,hd⟩
def jE (x:Int):V:= .iface (if x=1 then 257 else 258) (.agg [])
def bO (x:Int)(h c k:List ac)(n:BitVec 64):List V:=bN (jE x) h c k n
theorem ta {x:Int}(hx:x=1∨x=2):∃ t f,jE x= .iface t (.agg [])∧dK Tryz.prog t "souterrain/noise.kind"=some f∧ao Tryz.prog f [.agg []] (.i64 x):=by
 rcases hx with rfl|rfl
 ·exact⟨257,_,rfl,Vb,Ih⟩
 ·exact⟨258,_,rfl,Vc,Ii⟩
theorem wZ {x:Int}(hx:x=1∨x=2):∃ t f,jE x= .iface t (.agg [])∧dK Tryz.prog t "souterrain/noise.nonce"=some f∧∀ n,ao Tryz.prog f [.agg [],.u64 n] (.str (bS x n)):=by
 rcases hx with rfl|rfl
 ·exact⟨257,_,rfl,Vi,J3⟩
 ·exact⟨258,_,rfl,Vl,J4⟩
theorem nB (x:Int)(n:BitVec 64):(bS x n).length=12:=by
 unfold bS
 split
 ·rw[List.length_append,br];rfl
 ·rw[List.length_append,aW];rfl
theorem Qu (x:Int)(n:Nat):(jE x).low n=True:=by simp[jE,V.low,aa]
theorem Qv (x:Int)(m:Nat)(h c k:List ac)(n:BitVec 64):aa m (bO x h c k n)=True:=by simp[bO,bN,aa,V.low,Qu]
theorem pG {x:Int}(hx:x=1∨x=2)(h c k:List ac)(n:BitVec 64)(hh:h.length=32)(t:List ac)(ht:t.length≤549755813888):ag Tryz.prog 154 [.ptr 0 0,.str t] [bK (bO x h c k n)] (.tup []) [bK (bO x (dG x (h++t)) c k n)]:=by
 obtain⟨ty,f,e,hm,hk⟩:=ta hx
 have hv:=(mz hx (h++t) (by simp;omega)).1
 generalize dG x (h++t)=z at*
 have :∃ v h',ag Tryz.prog 154 [.ptr 0 0,.str t] [bK (bO x h c k n)] v h'∧(v= .tup []∧h'=[bK (bO x z c k n)]):=by
  unfold bO
  rw[e]
  refine dI (Post:=fun v h'=>v= .tup []∧h'=[bK (bN (.iface ty (.agg [])) z c k n)]) (by kernel_rfl) (fn:=Tryz.f154) Tryz.func154 rfl (by show 2≤22;decide) (ae ?_)
  simp only[go_sem,seval,bN,j8 hm]
  repeat refine aJ ?_
  refine aH (hk) ?_
  simp only[go_sem,seval]
  repeat refine aJ ?_
  refine aH (hv) ?_
  simp only[go_sem,seval]
  repeat refine aJ ?_
  refine⟨_,_,?_,Fin.take 1 (by simp) (by simp) (by simp[eo,aa,V.low,-List.map_take,-List.map_drop,-List.map_map,-List.map_set]) (by simp[aO,aa,V.low,-List.map_take,-List.map_drop,-List.map_map,-List.map_set])⟩
  exact⟨rfl,rfl⟩
 obtain⟨_,_,hs,rfl,rfl⟩:=this
 exact hs
theorem Kg {x:Int}(hx:x=1∨x=2)(h c k:List ac)(n:BitVec 64)(hc:c.length=32)(t:List ac)(ht:t.length≤549755813888):ag Tryz.prog 155 [.ptr 0 0,.str t] [bK (bO x h c k n)] (.tup []) [bK (bO x h (d2 x c t 0) (d2 x c t 1) 0#64)]:=by
 obtain⟨ty,f,e,hm,hk⟩:=ta hx
 have hd:=(sc hx c t (by omega) ht).1
 generalize d2 x c t 0=a at*
 generalize d2 x c t 1=b at*
 have :∃ v h',ag Tryz.prog 155 [.ptr 0 0,.str t] [bK (bO x h c k n)] v h'∧(v= .tup []∧h'=[bK (bO x h a b 0#64)]):=by
  unfold bO
  rw[e]
  refine dI (Post:=fun v h'=>v= .tup []∧h'=[bK (bN (.iface ty (.agg [])) h a b 0#64)]) (by kernel_rfl) (fn:=Tryz.f155) Tryz.func155 rfl (by show 2≤35;decide) (ae ?_)
  simp only[go_sem,seval,bN,j8 hm]
  repeat refine aJ ?_
  refine aH (hk) ?_
  simp only[go_sem,seval]
  refine bh [] (hd) (by kernel_rfl) (by simp) rfl (by simp) (by first|decide|simp) (by simp) (by simp) (by simp) (by simp) (by simp) ?_
  simp only[go_sem,seval]
  repeat refine aJ ?_
  refine⟨_,_,?_,Fin.take 1 (by simp) (by simp) (by simp[eo,aa,V.low,-List.map_take,-List.map_drop,-List.map_map,-List.map_set]) (by simp[aO,aa,V.low,-List.map_take,-List.map_drop,-List.map_map,-List.map_set])⟩
  exact⟨rfl,rfl⟩
 obtain⟨_,_,hs,rfl,rfl⟩:=this
 exact hs
theorem IC {x:Int}(hx:x=1∨x=2)(h c k:List ac)(n:BitVec 64)(hh:h.length=32)(hc:c.length=32)(t:List ac)(ht:t.length≤549755813888):ag Tryz.prog 142 [.ptr 0 0,.str t] [bK (bO x h c k n)] (.tup []) [bK (bO x (dG x (h++d3 x c t 1)) (d3 x c t 0) (d3 x c t 2) 0#64)]:=by
 obtain⟨ty,f,e,hm,hk⟩:=ta hx
 obtain⟨hd,-,hb,-⟩:=Ct hx c t (by omega) ht
 have hmix:=pG hx h c k n hh (d3 x c t 1) (by omega)
 generalize d3 x c t 0=a at*
 generalize d3 x c t 1=b at*
 generalize d3 x c t 2=d at*
 generalize dG x (h++b)=z at*
 have :∃ v h',ag Tryz.prog 142 [.ptr 0 0,.str t] [bK (bO x h c k n)] v h'∧(v= .tup []∧h'=[bK (bO x z a d 0#64)]):=by
  unfold bO at*
  rw[e] at*
  refine dI (Post:=fun v h'=>v= .tup []∧h'=[bK (bN (.iface ty (.agg [])) z a d 0#64)]) (by kernel_rfl) (fn:=Tryz.f142) Tryz.func142 rfl (by show 2≤40;decide) (ae ?_)
  simp only[go_sem,seval,bN,j8 hm]
  repeat refine aJ ?_
  refine aH (hk) ?_
  simp only[go_sem,seval]
  refine bh [] (hd) (by kernel_rfl) (by simp) rfl (by simp) (by first|decide|simp) (by simp) (by simp) (by simp) (by simp) (by simp) ?_
  simp only[go_sem,seval]
  repeat refine aJ ?_
  refine aq [0] (hmix) (by kernel_rfl) (by simp) rfl (by simp[bN]) (by first|decide|simp) (by simp) (by simp) (by simp[bN]) (by simp[bN]) (by simp) ?_
  simp only[go_sem,seval,bN]
  repeat refine aJ ?_
  refine⟨_,_,?_,Fin.take 1 (by simp) (by simp) (by simp[eo,aa,V.low,-List.map_take,-List.map_drop,-List.map_map,-List.map_set]) (by simp[aO,aa,V.low,-List.map_take,-List.map_drop,-List.map_map,-List.map_set])⟩
  exact⟨rfl,rfl⟩
 obtain⟨_,_,hs,rfl,rfl⟩:=this
 exact hs
theorem NE {x:Int}(hx:x=1∨x=2)(h c k:List ac)(n:BitVec 64)(hc:c.length=32):ag Tryz.prog 143 [.ptr 0 0] [bK (bO x h c k n)] (.tup [.str (d2 x c [] 0),.str (d2 x c [] 1)]) [bK (bO x h c k n)]:=by
 obtain⟨ty,f,e,hm,hk⟩:=ta hx
 have hd:=(sc hx c [] (by omega) (by simp)).1
 generalize d2 x c [] 0=a at*
 generalize d2 x c [] 1=b at*
 have :∃ v h',ag Tryz.prog 143 [.ptr 0 0] [bK (bO x h c k n)] v h'∧(v= .tup [.str a,.str b]∧h'=[bK (bO x h c k n)]):=by
  unfold bO
  rw[e]
  refine dI (Post:=fun v h'=>v= .tup [.str a,.str b]∧h'=[bK (bN (.iface ty (.agg [])) h c k n)]) (by kernel_rfl) (fn:=Tryz.f143) Tryz.func143 rfl (by show 1≤25;decide) (ae ?_)
  simp only[go_sem,seval,bN,j8 hm]
  repeat refine aJ ?_
  refine aH (hk) ?_
  simp only[go_sem,seval]
  refine bh [] (hd) (by kernel_rfl) (by simp) rfl (by simp) (by first|decide|simp) (by simp) (by simp) (by simp) (by simp) (by simp) ?_
  simp only[go_sem,seval]
  repeat refine aJ ?_
  refine⟨_,_,?_,Fin.take 1 (by simp) (by simp) (by simp[aa,V.low,-List.map_take,-List.map_drop,-List.map_map,-List.map_set]) (by simp[aO,aa,V.low,-List.map_take,-List.map_drop,-List.map_map,-List.map_set])⟩
  exact⟨rfl,rfl⟩
 obtain⟨_,_,hs,rfl,rfl⟩:=this
 exact hs
end
def eA (x:Int)(k c m t:List ac):List ac×Int:=if x=1 then jv k c m t else jp k c m t
def gV (x:Int)(k c m t:List ac):List ac×Int:=if x=1 then kF k c m t else kw k c m t
theorem nV {x:Int}{k c m t:List ac}(hk:k.length=32)(hc:c.length=12)(hm:m.length≤2000)(ht:t.length≤2000):(eA x k c m t).2=0∧(eA x k c m t).1.length=t.length+16∧gV x k c m (eA x k c m t).1=(t,0):=by
 unfold eA gV
 by_cases h:x=1
 ·rw[if_pos h,if_pos h];exact G4 hk hc hm ht
 ·rw[if_neg h,if_neg h];exact Ff hk hc hm ht
def xB (nm:String)(B:Int→List ac→List ac→List ac→List ac→List ac×Int):Prop:=∀ x,x=1∨x=2→∃ t f,jE x= .iface t (.agg [])∧dK Tryz.prog t nm=some f∧∀ k c m y,ao Tryz.prog f [.agg [],.str k,.str c,.str m,.str y] (.tup [.str (B x k c m y).1,.i64 (B x k c m y).2])
theorem DT:xB "souterrain/noise.seal" eA:=fun x hx=>by
 rcases hx with rfl|rfl
 ·exact⟨257,_,rfl,Vj,Im⟩
 ·exact⟨258,_,rfl,Vn,Iz⟩
theorem DU:xB "souterrain/noise.open" gV:=fun x hx=>by
 rcases hx with rfl|rfl
 ·exact⟨257,_,rfl,Vk,In⟩
 ·exact⟨258,_,rfl,Vo,IA⟩
theorem zz {nm:String}{B:Int→List ac→List ac→List ac→List ac→List ac×Int}(hB:xB nm B){x:Int}(hx:x=1∨x=2)(h c k:List ac)(n:BitVec 64)(hk0:k≠[])(t o:List ac)(ho:B x k (bS x n) h t=(o,0)):
  ag Tryz.prog 172 [.ptr 0 0,.str t,.aFn nm (if x=1 then 257 else 258) (.agg [])] [bK (bO x h c k n)] (.tup [.str o,.i64 0]) [bK (bO x h c k (n+1#64))]:=by
 obtain⟨ty,f,e,hm,hk⟩:=wZ hx
 obtain⟨ty2,f2,e2,hm2,hf2⟩:=hB x hx
 have hx2:=hf2 k (bS x n) h t
 rw[ho] at hx2
 have hn:=hk n
 have e3:(if x=1 then 257 else 258)=ty2:=by have :=e2;unfold jE at this;injection this
 rw[e] at e2
 injection e2 with e2 _
 rw[e3]
 subst e2
 generalize bS x n=nn at*
 have :∃ v h',ag Tryz.prog 172 [.ptr 0 0,.str t,.aFn nm ty (.agg [])] [bK (bO x h c k n)] v h'∧(v= .tup [.str o,.i64 0]∧h'=[bK (bO x h c k (n+1#64))]):=by
  unfold bO
  rw[e]
  refine dI (Post:=fun v h'=>v= .tup [.str o,.i64 0]∧h'=[bK (bN (.iface ty (.agg [])) h c k (n+1#64))]) (by kernel_rfl) (fn:=Tryz.f172) Tryz.func172 rfl (by show 3≤51;decide) (ae ?_)
  simp only[go_sem,seval,bN,hk0,j8 hm]
  repeat refine aJ ?_
  refine aH (hn) ?_
  simp only[go_sem,seval]
  repeat refine aJ ?_
  refine FC hm2 hx2 ?_
  simp only[go_sem,seval]
  repeat refine aJ ?_
  refine⟨_,_,?_,Fin.take 1 (by simp) (by simp) (by simp[aa,V.low,-List.map_take,-List.map_drop,-List.map_map,-List.map_set]) (by simp[aO,aa,V.low,-List.map_take,-List.map_drop,-List.map_map,-List.map_set])⟩
  exact⟨rfl,rfl⟩
 obtain⟨_,_,hs,rfl,rfl⟩:=this
 exact hs
theorem Ki {x:Int}(hx:x=1∨x=2)(h c k:List ac)(n:BitVec 64)(hh:h.length=32)(hk:k.length=32)(t:List ac)(ht:t.length≤2000):
  ag Tryz.prog 157 [.ptr 0 0,.str t] [bK (bO x h c k n)] (.tup [.str (eA x k (bS x n) h t).1,.i64 0]) [bK (bO x (dG x (h++(eA x k (bS x n) h t).1)) c k (n+1#64))]:=by
 obtain⟨b1,b2,-⟩:=nV (x:=x) (k:=k) (c:=bS x n) (m:=h) (t:=t) hk (nB x n) (by omega) ht
 have hth:=zz DT hx h c k n (fun e=>by rw[e] at hk;cases hk) t (eA x k (bS x n) h t).1 (by rw[←b1])
 generalize (eA x k (bS x n) h t).1=o at*
 have hmix:=pG hx h c k (n+1#64) hh o (by omega)
 generalize dG x (h++o)=z at*
 have e:jE x= .iface (if x=1 then 257 else 258) (.agg []):=rfl
 have :∃ v h',ag Tryz.prog 157 [.ptr 0 0,.str t] [bK (bO x h c k n)] v h'∧(v= .tup [.str o,.i64 0]∧h'=[bK (bO x z c k (n+1#64))]):=by
  unfold bO at*
  rw[e] at hth hmix ⊢
  clear e
  generalize (if x=1 then 257 else 258)=ty at*
  refine dI (Post:=fun v h'=>v= .tup [.str o,.i64 0]∧h'=[bK (bN (.iface ty (.agg [])) z c k (n+1#64))]) (by kernel_rfl) (fn:=Tryz.f157) Tryz.func157 rfl (by show 2≤27;decide) (ae ?_)
  simp only[go_sem,seval,bN,rM]
  repeat refine aJ ?_
  refine aq [0] (hth) (by kernel_rfl) (by simp) rfl (by simp[bN]) (by first|decide|simp) (by simp) (by simp) (by simp[bN]) (by simp[bN]) (by simp) ?_
  simp only[go_sem,seval,bN]
  repeat refine aJ ?_
  refine aq [0] (hmix) (by kernel_rfl) (by simp) rfl (by simp[bN]) (by first|decide|simp) (by simp) (by simp) (by simp[bN]) (by simp[bN]) (by simp) ?_
  simp only[go_sem,seval,bN]
  refine⟨_,_,?_,Fin.take 1 (by simp) (by simp) (by simp[aa,V.low,-List.map_take,-List.map_drop,-List.map_map,-List.map_set]) (by simp[aO,aa,V.low,-List.map_take,-List.map_drop,-List.map_map,-List.map_set])⟩
  exact⟨rfl,rfl⟩
 obtain⟨_,_,hs,rfl,rfl⟩:=this
 exact hs
theorem Kj {x:Int}(hx:x=1∨x=2)(h c k:List ac)(n:BitVec 64)(hh:h.length=32)(hk:k.length=32)(t o:List ac)(ho:gV x k (bS x n) h t=(o,0))(ht:t.length≤10000):
  ag Tryz.prog 160 [.ptr 0 0,.str t] [bK (bO x h c k n)] (.tup [.str o,.i64 0]) [bK (bO x (dG x (h++t)) c k (n+1#64))]:=by
 have hth:=zz DU hx h c k n (fun e=>by rw[e] at hk;cases hk) t o ho
 have hmix:=pG hx h c k (n+1#64) hh t (by omega)
 generalize dG x (h++t)=z at*
 have e:jE x= .iface (if x=1 then 257 else 258) (.agg []):=rfl
 have :∃ v h',ag Tryz.prog 160 [.ptr 0 0,.str t] [bK (bO x h c k n)] v h'∧(v= .tup [.str o,.i64 0]∧h'=[bK (bO x z c k (n+1#64))]):=by
  unfold bO at*
  rw[e] at hth hmix ⊢
  clear e
  generalize (if x=1 then 257 else 258)=ty at*
  refine dI (Post:=fun v h'=>v= .tup [.str o,.i64 0]∧h'=[bK (bN (.iface ty (.agg [])) z c k (n+1#64))]) (by kernel_rfl) (fn:=Tryz.f160) Tryz.func160 rfl (by show 2≤27;decide) (ae ?_)
  simp only[go_sem,seval,bN,rM]
  repeat refine aJ ?_
  refine aq [0] (hth) (by kernel_rfl) (by simp) rfl (by simp[bN]) (by first|decide|simp) (by simp) (by simp) (by simp[bN]) (by simp[bN]) (by simp) ?_
  simp only[go_sem,seval,bN]
  repeat refine aJ ?_
  refine aq [0] (hmix) (by kernel_rfl) (by simp) rfl (by simp[bN]) (by first|decide|simp) (by simp) (by simp) (by simp[bN]) (by simp[bN]) (by simp) ?_
  simp only[go_sem,seval,bN]
  refine⟨_,_,?_,Fin.take 1 (by simp) (by simp) (by simp[aa,V.low,-List.map_take,-List.map_drop,-List.map_map,-List.map_set]) (by simp[aO,aa,V.low,-List.map_take,-List.map_drop,-List.map_map,-List.map_set])⟩
  exact⟨rfl,rfl⟩
 obtain⟨_,_,hs,rfl,rfl⟩:=this
 exact hs
theorem xD {x:Int}(hx:x=1∨x=2):ao Tryz.prog 116 [.i64 x] (jE x):=by
 rcases hx with rfl|rfl
 ·exact Wy
 ·exact Wz
section
def xC (x:Int)(h0:List ac):Prop:=h0.length=32∧∀ t:List ac,t.length≤549755813888→ag Tryz.prog 153 [.i64 x,.str t] [] (.tup [.ptr 0 0,.i64 0]) [bK (bO x (dG x (h0++t)) h0 [] 0#64)]
theorem NF {x:Int}(hx:x=1∨x=2):∃ h0,xC x h0:=by
 have hof:=xD hx
 obtain⟨s,hs⟩:∃ s:List ac,s=bytesOf ⟨#[115,111,117,116,101,114,114,97,105,110,32]⟩++[BitVec.ofInt 8 (aj (48+x))]:=⟨_,rfl⟩
 have hsl:s.length=12:=by rw[hs];rfl
 obtain⟨hv,hvl⟩:=mz hx s (by omega)
 refine⟨dG x s,hvl,fun t ht=>?_⟩
 generalize dG x s=o at*
 have hmix:=pG hx o o [] 0#64 hvl t ht
 generalize dG x (o++t)=z at*
 have e:jE x= .iface (if x=1 then 257 else 258) (.agg []):=rfl
 have :∃ v h',ag Tryz.prog 153 [.i64 x,.str t] [] v h'∧(v= .tup [.ptr 0 0,.i64 0]∧h'=[bK (bO x z o [] 0#64)]):=by
  unfold bO at*
  rw[e] at hmix hof ⊢
  clear e
  generalize (if x=1 then 257 else 258)=ty at*
  refine dI (Post:=fun v h'=>v= .tup [.ptr 0 0,.i64 0]∧h'=[bK (bN (.iface ty (.agg [])) z o [] 0#64)]) (by kernel_rfl) (fn:=Tryz.f153) Tryz.func153 rfl (by show 2≤34;decide) (ae ?_)
  simp only[go_sem,seval]
  refine ak (hof) ?_
  simp only[go_sem,seval,p8]
  repeat refine aJ ?_
  rw[←hs]
  refine ak (hv) ?_
  simp only[go_sem,seval]
  repeat refine aJ ?_
  refine aq [1] (hmix) (by kernel_rfl) (by simp) rfl (by simp[bN]) (by first|decide|simp) (by simp) (by simp) (by simp[bN]) (by simp[bN]) (by simp) ?_
  simp only[go_sem,seval,bN]
  refine⟨_,_,⟨rfl,rfl⟩,?_⟩
  exact Fin.ren [1] (by simp) (by simp) (by rfl) (by decide) (by simp) (by simp)
 obtain⟨_,_,hs,rfl,rfl⟩:=this
 exact hs
open Classical in
noncomputable def hZ (x:Int):List ac:=if h:∃ h0,xC x h0 then h.choose else[]
theorem BF {x:Int}(hx:x=1∨x=2):xC x (hZ x):=by
 have h:=NF hx
 unfold hZ
 rw[dif_pos h]
 exact h.choose_spec
theorem NG {x:Int}(hx:x=1∨x=2)(k m t:List ac)(n:BitVec 64):ao Tryz.prog 87 [.i64 x,.str k,.u64 n,.str m,.str t] (.tup [.str (eA x k (bS x n) m t).1,.i64 (eA x k (bS x n) m t).2]):=by
 have hof:=xD hx
 obtain⟨ty,f,e,hm,hk⟩:=wZ hx
 obtain⟨ty2,f2,e2,hm2,hf2⟩:=DT x hx
 rw[e] at e2
 injection e2 with e2 _
 subst e2
 have hn:=hk n
 have hb:=hf2 k (bS x n) m t
 rw[e] at hof
 generalize bS x n=nn at*
 generalize (eA x k nn m t).1=o at*
 generalize (eA x k nn m t).2=er at*
 refine aB (by kernel_rfl) (fn:=Tryz.f87) (by kernel_rfl) Tryz.func87 rfl (by show 5≤30;decide) (by simp[aa,V.low]) (by simp[aa,V.low]) (ae ?_)
 simp only[go_sem,seval,Tryz.ntmps87]
 refine ak hof ?_
 simp only[go_sem,seval,p8,j8 hm]
 repeat refine aJ ?_
 refine aH (hn) ?_
 simp only[go_sem,seval,rM,hm2,Option.isSome_some,j8 hm2]
 repeat refine aJ ?_
 refine aH (hb) ?_
 simp only[go_sem,seval]
 first|kernel_rfl|exact⟨by kernel_rfl,rfl⟩|exact⟨by kernel_rfl,by kernel_rfl⟩
theorem NH {x:Int}(hx:x=1∨x=2)(k m t:List ac)(n:BitVec 64):ao Tryz.prog 165 [.i64 x,.str k,.u64 n,.str m,.str t] (.tup [.str (gV x k (bS x n) m t).1,.i64 (gV x k (bS x n) m t).2]):=by
 have hof:=xD hx
 obtain⟨ty,f,e,hm,hk⟩:=wZ hx
 obtain⟨ty2,f2,e2,hm2,hf2⟩:=DU x hx
 rw[e] at e2
 injection e2 with e2 _
 subst e2
 have hn:=hk n
 have hb:=hf2 k (bS x n) m t
 rw[e] at hof
 generalize bS x n=nn at*
 generalize (gV x k nn m t).1=o at*
 generalize (gV x k nn m t).2=er at*
 refine aB (by kernel_rfl) (fn:=Tryz.f165) (by kernel_rfl) Tryz.func165 rfl (by show 5≤30;decide) (by simp[aa,V.low]) (by simp[aa,V.low]) (ae ?_)
 simp only[go_sem,seval,Tryz.ntmps165]
 refine ak hof ?_
 simp only[go_sem,seval,p8,j8 hm]
 repeat refine aJ ?_
 refine aH (hn) ?_
 simp only[go_sem,seval,rM,hm2,Option.isSome_some,j8 hm2]
 repeat refine aJ ?_
 refine aH (hb) ?_
 simp only[go_sem,seval]
 first|kernel_rfl|exact⟨by kernel_rfl,rfl⟩|exact⟨by kernel_rfl,by kernel_rfl⟩
end
def iv (c:BitVec 8)(s:List (BitVec 8)):List (BitVec 8):=s.dropWhile (· ==c)
def iw (c:BitVec 8)(s:List (BitVec 8)):List (BitVec 8):=(s.reverse.dropWhile (· ==c)).reverse
theorem ID (c y:BitVec 8)(r:List (BitVec 8)):iw c (r++[y])=if y=c then iw c r else r++[y]:=by
 unfold iw
 rw[List.reverse_append,List.reverse_singleton,List.singleton_append,List.dropWhile_cons]
 by_cases h:y=c
 ·rw[if_pos h,if_pos (by simp[h])]
 ·rw[if_neg h,if_neg (by simp[h]),List.reverse_cons,List.reverse_reverse]
theorem IE (s:List (BitVec 8))(c:BitVec 8):ao Tryz.prog 177 [.str s,.u8 c] (.str (iv c s)):=by
 refine aB (by kernel_rfl) (fn:=Tryz.f177) (by kernel_rfl) Tryz.func177 rfl (by show 2≤17;decide) (by simp[aa,V.low]) (by simp[V.low]) (ae ?_)
 simp only[go_sem,seval,Tryz.ntmps177]
 refine bf (fun j st=>∃ x:List (BitVec 8),x.length=j∧iv c x=iv c s∧st=⟨[(0,.str x),(1,.u8 c)],[]⟩) ?_ ?_
 ·exact bP s.length ⟨[(0,.str s),(1,.u8 c)],[]⟩ (by simp[St.get,af]) rfl (fun _ _ h=>h) ⟨s,rfl,rfl,rfl⟩
 rintro j st ⟨x,hx,he,rfl⟩ _
 cases x with
 |nil=>
  rw[←he,show iv c []=[] from rfl]
  simp only[go_sem,seval]
 |cons y r=>
  have h0:((0:Int)<((r.length+1:Nat):Int))=True:=eq_true (by omega)
  have h1:(1:Int)≤((r.length+1:Nat):Int):=by omega
  by_cases hy:y=c
  ·have hc:iv c (y::r)=iv c r:=by unfold iv;rw[List.dropWhile_cons,if_pos (by simp[hy])]
   have hy':(y=c)=True:=eq_true hy
   simp only[go_sem,seval,h0,hy',h1]
   rw[List.length_cons] at hx
   exact bL (j-1) ⟨[(0,.str r),(1,.u8 c)],[]⟩ (by omega) (by simp[St.get,af]) rfl (fun _ _ h=>h) ⟨r,by omega,hc▸he,rfl⟩
  ·have hc:iv c (y::r)=y::r:=by unfold iv;rw[List.dropWhile_cons,if_neg (by simp[hy])]
   rw[←he,hc]
   have hy':(y=c)=False:=eq_false hy
   simp only[go_sem,seval,h0,hy']
theorem IF (s:List (BitVec 8))(c:BitVec 8)(hs:s.length≤140737488355328):ao Tryz.prog 178 [.str s,.u8 c] (.str (iw c s)):=by
 refine aB (by kernel_rfl) (fn:=Tryz.f178) (by kernel_rfl) Tryz.func178 rfl (by show 2≤23;decide) (by simp[aa,V.low]) (by simp[V.low]) (ae ?_)
 simp only[go_sem,Nat.reduceLT,Tryz.ntmps178]
 refine bf (fun j st=>∃ x:List (BitVec 8),x.length=j∧x.length≤s.length∧iw c x=iw c s∧st=⟨[(0,.str x),(1,.u8 c)],[]⟩) ?_ ?_
 ·exact bP s.length ⟨[(0,.str s),(1,.u8 c)],[]⟩ (by simp[St.get,af]) rfl (fun _ _ h=>h) ⟨s,rfl,Nat.le_refl _,rfl,rfl⟩
 rintro j st ⟨x,hx,hxs,he,rfl⟩ _
 rcases List.eq_nil_or_concat x with rfl|⟨r,y,rfl⟩
 ·rw[←he,show iw c []=[] from rfl]
  simp only[go_sem,↓reduceIte,Nat.reduceEqDiff,Nat.reduceLT,Int.reduceLT,reduceCtorEq]
 ·rw[List.concat_eq_append] at*
  have hl:(r++[y]).length=r.length+1:=by simp
  have h0:((0:Int)<((r.length+1:Nat):Int))=True:=eq_true (by omega)
  have hw:aj (((r.length+1:Nat):Int)-1)=(r.length:Int):=by rw[am (by omega) (by omega)];omega
  have hz:(0:Int)≤(r.length:Int):=by omega
  have hlt:(r.length:Int)<((r.length+1:Nat):Int):=by omega
  have hle:(r.length:Int)≤((r.length+1:Nat):Int):=by omega
  have hg:(r++[y]).getD r.length 0=y:=by
   rw[List.getD_eq_getElem?_getD,List.getElem?_append_right (Nat.le_refl _),Nat.sub_self];rfl
  have htk:(r++[y]).take r.length=r:=List.take_left
  rw[ID] at he
  by_cases hy:y=c
  ·rw[if_pos hy] at he
   have hy':(y=c)=True:=eq_true hy
   generalize hx':r++[y]=x at*
   simp only[go_sem,↓reduceIte,Nat.reduceEqDiff,Nat.reduceLT,Int.reduceToNat,reduceCtorEq,h0,hy',hl,hw,hz,hlt,hle,hg,htk]
   exact bL (j-1) ⟨[(0,.str r),(1,.u8 c)],[]⟩ (by omega) (by simp[St.get,af]) rfl (fun _ _ h=>h) ⟨r,by omega,by omega,he,rfl⟩
  ·rw[if_neg hy] at he
   rw[←he]
   have hy':(y=c)=False:=eq_false hy
   generalize hx':r++[y]=x at*
   simp only[go_sem,↓reduceIte,Nat.reduceEqDiff,Nat.reduceLT,reduceCtorEq,h0,hy',hl,hw,hz,hlt,hg]
theorem Kk (s:List (BitVec 8))(hs:s.length≤140737488355328):ao Tryz.prog 171 [.str s,.str [0#8]] (.str (iv 0#8 (iw 0#8 s))):=by
 by_cases h:s=[]
 ·subst h
  rw[show iv 0#8 (iw 0#8 [])=[] from rfl]
  refine aB (by kernel_rfl) (fn:=Tryz.f171) (by kernel_rfl) Tryz.func171 rfl (by show 2≤43;decide) (by simp[aa,V.low]) (by simp[V.low]) (ae ?_)
  simp only[go_sem,seval,Tryz.ntmps171,Tryz.results171]
 ·have h':=eq_false h
  refine aB (by kernel_rfl) (fn:=Tryz.f171) (by kernel_rfl) Tryz.func171 rfl (by show 2≤43;decide) (by simp[aa,V.low]) (by simp[V.low]) (ae ?_)
  simp only[go_sem,seval,Tryz.ntmps171,h']
  refine aH (IF s 0#8 hs) ?_
  simp only[go_sem,seval]
  refine aH (IE (iw 0#8 s) 0#8) ?_
  simp only[go_sem,seval]
  kernel_rfl
theorem FY (c:BitVec 8)(s:List (BitVec 8)):s.dropWhile (· ==c)=[]↔∀ x∈s,x=c:=by
 induction s with
 |nil=>simp
 |cons y r ih=>
  rw[List.dropWhile_cons]
  by_cases h:y=c
  ·rw[if_pos (by simp[h]),ih]
   simp[h]
  ·rw[if_neg (by simp[h])]
   simp[h]
theorem Kl (c:BitVec 8)(s:List (BitVec 8)):(∀ x∈s.dropWhile (· ==c),x=c)↔∀ x∈s,x=c:=by
 induction s with
 |nil=>simp
 |cons y r ih=>
  rw[List.dropWhile_cons]
  by_cases h:y=c
  ·rw[if_pos (by simp[h]),ih]
   simp[h]
  ·rw[if_neg (by simp[h])]
theorem NI (c:BitVec 8)(s:List (BitVec 8)):iv c (iw c s)=[]↔s=List.replicate s.length c:=by
 unfold iv
 rw[FY]
 have h1:(∀ x∈iw c s,x=c)↔∀ x∈s,x=c:=by
  unfold iw
  simp only[List.mem_reverse]
  rw[Kl]
  simp only[List.mem_reverse]
 rw[h1,List.eq_replicate_iff]
 simp
end Go.Vm
end
section
namespace Go.Vm
abbrev Pq:Nat:=57896044618658097711785492504343953926634992332820282019728792003956564819949
theorem me (x:BitVec 64):(x&&&2251799813685247#64).toNat=x.toNat%2251799813685248:=by
 rw[BitVec.toNat_and,show(2251799813685247#64).toNat=2^51-1 from rfl,Nat.and_two_pow_sub_one_eq_mod]
theorem xE (x:BitVec 64):(x>>>51).toNat=x.toNat/2251799813685248:=by rw[BitVec.toNat_ushiftRight,Nat.shiftRight_eq_div_pow]
def aA:List (BitVec 64)→Nat
 |[]=>0
 |x::l=>x.toNat+2251799813685248*aA l
def cn (c:BitVec 64):List (BitVec 64)→List (BitVec 64)×BitVec 64
 |[]=>([],c)
 |x::l=>(((x+c)&&&2251799813685247#64)::(cn ((x+c)>>>51) l).1,(cn ((x+c)>>>51) l).2)
theorem pf (l:List (BitVec 64)):∀ c,(cn c l).1.length=l.length:=by
 induction l with
 |nil=>intro c;rfl
 |cons x l ih=>intro c;rw[cn,List.length_cons,List.length_cons,ih]
theorem IG (l:List (BitVec 64))(x:BitVec 64):∀ c,cn c (l++[x])=((cn c l).1++[(x+(cn c l).2)&&&2251799813685247#64],(x+(cn c l).2)>>>51):=by
 induction l with
 |nil=>intro c;rfl
 |cons y l ih=>intro c;rw[List.cons_append,cn,ih,cn];rfl
def ce (c:BitVec 64)(w:List (BitVec 64)):Nat→List (BitVec 64)×BitVec 64
 |0=>(w,c)
 |k+1=>((ce c w k).1.set k (((ce c w k).1.getD k 0+(ce c w k).2)&&&2251799813685247#64),((ce c w k).1.getD k 0+(ce c w k).2)>>>51)
theorem ya (c:BitVec 64)(w:List (BitVec 64))(k:Nat):(ce c w k).1.length=w.length:=by
 induction k with
 |zero=>rfl
 |succ k ih=>rw[ce,List.length_set,ih]
theorem Kn (c:BitVec 64)(w:List (BitVec 64))(k:Nat)(hk:k≤w.length):ce c w k=((cn c (w.take k)).1++w.drop k,(cn c (w.take k)).2):=by
 induction k with
 |zero=>rfl
 |succ k ih=>
  have hkl:k<w.length:=by omega
  have hl:(cn c (w.take k)).1.length=k:=by rw[pf,List.length_take];omega
  have hg:((cn c (w.take k)).1++w.drop k).getD k 0=w.getD k 0:=by
   rw[List.getD_eq_getElem?_getD,List.getElem?_append_right (by omega),hl,Nat.sub_self,List.getElem?_drop,Nat.add_zero,←List.getD_eq_getElem?_getD]
  have ht:w.take (k+1)=w.take k++[w.getD k 0]:=by
   rw[List.take_succ_eq_append_getElem hkl,List.getD_eq_getElem?_getD,List.getElem?_eq_getElem hkl];rfl
  rw[ce,ih (by omega)]
  simp only
  rw[hg,ht,IG,List.set_append_right _ _ (by omega),hl,Nat.sub_self,List.drop_eq_getElem_cons hkl,List.set_cons_zero]
  simp
theorem vK (l:List (BitVec 64)):∀ c:BitVec 64,c.toNat<4611686018427387904→(∀ x∈l,x.toNat<9223372036854775808)→
  aA (cn c l).1+2251799813685248^l.length*(cn c l).2.toNat=aA l+c.toNat∧(∀ x∈(cn c l).1,x.toNat<2251799813685248)∧(l≠[]→(cn c l).2.toNat<8192):=by
 induction l with
 |nil=>intro c _ _;exact⟨by simp[cn,aA],by simp[cn],fun h=>absurd rfl h⟩
 |cons x l ih=>
  intro c hc hx
  have h0:=hx x List.mem_cons_self
  have es:(x+c).toNat=x.toNat+c.toNat:=by rw[BitVec.toNat_add];omega
  have eq:((x+c)>>>51).toNat=(x.toNat+c.toNat)/2251799813685248:=by rw[xE,es]
  have em:((x+c)&&&2251799813685247#64).toNat=(x.toNat+c.toNat)%2251799813685248:=by rw[me,es]
  obtain⟨i1,i2,i3⟩:=ih ((x+c)>>>51) (by rw[eq];omega) (fun y hy=>hx y (List.mem_cons_of_mem _ hy))
  rw[eq] at i1
  refine⟨?_,?_,?_⟩
  ·rw[cn]
   show((x+c)&&&2251799813685247#64).toNat+2251799813685248*aA (cn ((x+c)>>>51) l).1+2251799813685248^(l.length+1)*(cn ((x+c)>>>51) l).2.toNat=x.toNat+2251799813685248*aA l+c.toNat
   rw[em,Nat.pow_succ,Nat.mul_comm (2251799813685248^l.length) 2251799813685248,Nat.mul_assoc]
   omega
  ·rw[cn]
   intro y hy
   rcases List.mem_cons.1 hy with rfl|hy
   ·rw[em];omega
   ·exact i2 y hy
  ·intro _
   rw[cn]
   cases l with
   |nil=>show((x+c)>>>51).toNat<8192;rw[eq];omega
   |cons y l=>exact i3 (by simp)
theorem qj:∀ (l:List (BitVec 64)),(∀ x∈l,x.toNat<2251799813685248)→aA l<2251799813685248^l.length
 |[],_=>Nat.one_pos
 |x::l,h=>by
  have h0:=h x List.mem_cons_self
  have ih:=qj l fun y hy=>h y (List.mem_cons_of_mem _ hy)
  rw[List.length_cons,Nat.pow_succ]
  show x.toNat+2251799813685248*aA l<_
  omega
theorem five {α:Type}(l:List α)(h:l.length=5):∃ a b c d e:α,l=[a,b,c,d,e]:=by
 match l,h with
 |[a,b,c,d,e],_=>exact⟨a,b,c,d,e,rfl⟩
theorem nj:(2251799813685248:Nat)^5=57896044618658097711785492504343953926634992332820282019728792003956564819968:=by decide
def bQ (w:List (BitVec 64)):List (BitVec 64):=(ce 0#64 w 5).1.set 0 ((ce 0#64 w 5).1.getD 0 0+19#64*(ce 0#64 w 5).2)
theorem yo (w:List (BitVec 64)):(bQ w).length=w.length:=by unfold bQ;rw[List.length_set,ya]
def bW (w:List (BitVec 64)):Nat→List (BitVec 64)
 |0=>w
 |i+1=>bQ (bW w i)
theorem ja (w:List (BitVec 64))(i:Nat):(bW w i).length=w.length:=by
 induction i with
 |zero=>rfl
 |succ i ih=>rw[bW,yo,ih]
def sm (l:List (BitVec 64)):Prop:=l.length=5∧∀ x∈l,x.toNat<2251799813947392
theorem nJ (w:List (BitVec 64))(hw:w.length=5)(hx:∀ x∈w,x.toNat<9223372036854775808):
  aA (bQ w)=aA w%57896044618658097711785492504343953926634992332820282019728792003956564819968+19*(aA w/57896044618658097711785492504343953926634992332820282019728792003956564819968)∧sm (bQ w)∧
  (aA w<57896044618658097711785492504343953926634992332820282019728792003956564819968→∀ x∈bQ w,x.toNat<2251799813685248):=by
 have hp:=Kn 0#64 w 5 (by omega)
 rw[List.take_of_length_le (by omega),List.drop_of_length_le (by omega),List.append_nil] at hp
 obtain⟨h1,h2,h3⟩:=vK w 0#64 (by decide) hx
 have h3:=h3 (fun e=>by rw[e] at hw;simp at hw)
 have hl:=pf w 0#64
 have hlen:=yo w
 rw[hw] at h1 hl hlen
 have hlt:=qj _ h2
 rw[hl] at hlt
 rw[nj] at hlt h1
 rw[show(0#64).toNat=0 from rfl] at h1
 unfold sm
 rw[hlen]
 unfold bQ
 rw[hp]
 simp only
 generalize (cn 0#64 w).1=r at h1 h2 hl hlt ⊢
 generalize (cn 0#64 w).2=c at h1 h3 ⊢
 cases r with
 |nil=>simp at hl
 |cons y r=>
  have hy:=h2 y List.mem_cons_self
  have hyc:(y+19#64*c).toNat=y.toNat+19*c.toNat:=by
   rw[BitVec.toNat_add,BitVec.toNat_mul,show(19#64).toNat=19 from rfl];omega
  have hv:aA ((y::r).set 0 (y+19#64*c))=aA (y::r)+19*c.toNat:=by
   rw[List.set_cons_zero]
   show(y+19#64*c).toNat+2251799813685248*aA r=y.toNat+2251799813685248*aA r+19*c.toNat
   rw[hyc];omega
  refine⟨?_,⟨trivial,?_⟩,fun hsm=>?_⟩
  ·show aA ((y::r).set 0 (y+19#64*c))=_
   rw[hv];omega
  ·intro x hx'
   rw[List.set_cons_zero] at hx'
   rcases List.mem_cons.1 hx' with rfl|hx'
   ·show(y+19#64*c).toNat<_
    omega
   ·have :=h2 x (List.mem_cons_of_mem _ hx');omega
  ·intro x hx'
   rw[List.set_cons_zero] at hx'
   rcases List.mem_cons.1 hx' with rfl|hx'
   ·show(y+19#64*c).toNat<_
    omega
   ·exact h2 x (List.mem_cons_of_mem _ hx')
theorem rP (w:List (BitVec 64))(hw:w.length=5)(hx:∀ x∈w,x.toNat<9223372036854775808):(∃ q,aA w=aA (bW w 2)+Pq*q)∧sm (bW w 2):=by
 have p1:=nJ w hw hx
 have e1:bW w 1=bQ w:=rfl
 have p2:=nJ (bQ w) p1.2.1.1 (fun x hx=>by have :=p1.2.1.2 x hx;omega)
 have e2:bW w 2=bQ (bQ w):=rfl
 rw[e2]
 refine⟨⟨aA w/57896044618658097711785492504343953926634992332820282019728792003956564819968+aA (bQ w)/57896044618658097711785492504343953926634992332820282019728792003956564819968,?_⟩,p2.2.1⟩
 unfold Pq
 omega
theorem Vs (l:List (BitVec 64))(h:sm l):aA l<2*57896044618658097711785492504343953926634992332820282019728792003956564819968:=by
 obtain⟨h1,h2⟩:=h
 obtain⟨a,b,c,d,e,rfl⟩:=five l h1
 simp only[List.forall_mem_cons] at h2
 obtain⟨p0,p1,p2,p3,p4,_⟩:=h2
 simp only[aA]
 omega
theorem tf (l:List (BitVec 64))(h:sm l):∀ x∈l,x.toNat<9223372036854775808:=fun x hx=>by have :=h.2 x hx;omega
def kz (n:List (BitVec 64)):List (BitVec 64):=(cn 0#64 (n.set 0 (n.getD 0 0+19#64*(cn 19#64 n).2))).1
theorem IH (n:List (BitVec 64))(h:sm n):aA (kz (bW (bW n 2) 2))=aA n%Pq∧(kz (bW (bW n 2) 2)).length=5∧∀ x∈kz (bW (bW n 2) 2),x.toNat<2251799813685248:=by
 have hv:=Vs n h
 have p1:=nJ n h.1 (tf n h)
 have p2:=nJ (bQ n) p1.2.1.1 (tf _ p1.2.1)
 have p3:=nJ (bQ (bQ n)) p2.2.1.1 (tf _ p2.2.1)
 have p4:=nJ (bQ (bQ (bQ n))) p3.2.1.1 (tf _ p3.2.1)
 have e:bW (bW n 2) 2=bQ (bQ (bQ (bQ n))):=rfl
 rw[e]
 have hlt3:aA (bQ (bQ (bQ n)))<57896044618658097711785492504343953926634992332820282019728792003956564819968:=by omega
 have hm:∃ q,aA n=aA (bQ (bQ (bQ (bQ n))))+Pq*q:=⟨aA n/57896044618658097711785492504343953926634992332820282019728792003956564819968+aA (bQ n)/57896044618658097711785492504343953926634992332820282019728792003956564819968+aA (bQ (bQ n))/57896044618658097711785492504343953926634992332820282019728792003956564819968+aA (bQ (bQ (bQ n)))/57896044618658097711785492504343953926634992332820282019728792003956564819968,by unfold Pq;omega⟩
 have hs:=p4.2.2 hlt3
 have hl:=p4.2.1.1
 generalize bQ (bQ (bQ (bQ n)))=w at hm hs hl
 obtain⟨q,hq⟩:=hm
 have hwl:=qj w hs
 rw[hl,nj] at hwl
 have hmod:aA n%Pq=aA w%Pq:=by rw[hq,Nat.add_mul_mod_self_left]
 rw[hmod]
 clear hmod hq p1 p2 p3 p4 hv hlt3 e
 obtain⟨c1,c2,c3⟩:=vK w 19#64 (by decide) (fun x hx=>by have :=hs x hx;omega)
 have hcl:=qj _ c2
 rw[pf,hl,nj] at hcl
 rw[hl,nj,show(19#64).toNat=19 from rfl] at c1
 have c3:=c3 (fun e=>by rw[e] at hl;simp at hl)
 unfold kz
 generalize (cn 19#64 w).2=c at c1 c3 ⊢
 obtain⟨a,b,x,d,y,rfl⟩:=five w hl
 have ha:=hs a List.mem_cons_self
 rw[List.set_cons_zero,List.getD_cons_zero]
 have hac:(a+19#64*c).toNat=a.toNat+19*c.toNat:=by
  rw[BitVec.toNat_add,BitVec.toNat_mul,show(19#64).toNat=19 from rfl];omega
 have hset:∀ z∈(a+19#64*c)::[b,x,d,y],z.toNat<9223372036854775808:=by
  intro z hz
  rcases List.mem_cons.1 hz with rfl|hz
  ·omega
  ·have :=hs z (List.mem_cons_of_mem _ hz);omega
 obtain⟨d1,d2,d3⟩:=vK ((a+19#64*c)::[b,x,d,y]) 0#64 (by decide) hset
 have hdl:=qj _ d2
 rw[pf] at hdl
 rw[show((a+19#64*c)::[b,x,d,y]).length=5 from rfl,nj] at d1 hdl
 rw[show(0#64).toNat=0 from rfl] at d1
 have hv2:aA ((a+19#64*c)::[b,x,d,y])=aA [a,b,x,d,y]+19*c.toNat:=by
  show(a+19#64*c).toNat+2251799813685248*aA [b,x,d,y]=a.toNat+2251799813685248*aA [b,x,d,y]+19*c.toNat
  rw[hac];omega
 refine⟨?_,by rw[pf];rfl,d2⟩
 rw[hv2] at d1
 generalize aA [a,b,x,d,y]=V at*
 generalize aA (cn 0#64 ((a+19#64*c)::[b,x,d,y])).1=W at*
 unfold Pq
 by_cases hge:V<57896044618658097711785492504343953926634992332820282019728792003956564819949
 ·rw[Nat.mod_eq_of_lt hge];omega
 ·rw[Nat.mod_eq_sub_mod (by omega),Nat.mod_eq_of_lt (by omega)];omega
theorem zA (s t:List (BitVec 8)):le (s++t)=le s+256^s.length*le t:=by
 induction s with
 |nil=>simp[le]
 |cons a s ih=>rw[List.cons_append,le,ih,le,List.length_cons,lM,Nat.mul_add,Nat.mul_assoc];omega
theorem w8 (p:List (BitVec 8))(k:Nat)(h:k≤p.length):le p=le (p.take k)+256^k*le (p.drop k):=by
 calc le p=le (p.take k++p.drop k):=by rw[List.take_append_drop]
  _=_:=by rw[zA,List.length_take,Nat.min_eq_left h]
theorem lR (x y:BitVec 64)(k:Nat)(hk:k<64)(h:x.toNat<2^k):(x|||y<<<k).toNat=x.toNat+2^k*(y.toNat%2^(64-k)):=by
 have e:y.toNat*2^k%2^64=2^k*(y.toNat%2^(64-k)):=by
  rw[show(2:Nat)^64=2^k*2^(64-k) by rw[←Nat.pow_add];congr 1;omega,Nat.mul_comm,Nat.mul_mod_mul_left]
 rw[BitVec.toNat_or,BitVec.toNat_shiftLeft,Nat.shiftLeft_eq,e,Nat.or_comm,←Nat.two_pow_add_eq_or_of_lt h,Nat.add_comm]
theorem l9 (x:BitVec 64)(k:Nat):(x>>>k).toNat=x.toNat/2^k:=by rw[BitVec.toNat_ushiftRight,Nat.shiftRight_eq_div_pow]
def kC (a b c d:BitVec 64):List (BitVec 64):=[(a&&&2251799813685247#64)+19#64*(d>>>63),(a>>>51|||b<<<13)&&&2251799813685247#64,(b>>>38|||c<<<26)&&&2251799813685247#64,(c>>>25|||d<<<39)&&&2251799813685247#64,d>>>12&&&2251799813685247#64]
theorem II (a b c d:BitVec 64):(∃ q,a.toNat+18446744073709551616*b.toNat+340282366920938463463374607431768211456*c.toNat+6277101735386680763835789423207666416102355444464034512896*d.toNat=aA (kC a b c d)+Pq*q)∧(∀ x∈kC a b c d,x.toNat<9223372036854775808):=by
 have ha:=a.isLt
 have hb:=b.isLt
 have hc:=c.isLt
 have hd:=d.isLt
 have e0:((a&&&2251799813685247#64)+19#64*(d>>>63)).toNat=a.toNat%2251799813685248+19*(d.toNat/9223372036854775808):=by
  have h1:=me a
  have h2:=l9 d 63
  rw[BitVec.toNat_add,BitVec.toNat_mul,h1,h2,show(19#64).toNat=19 from rfl];omega
 have e1:((a>>>51|||b<<<13)&&&2251799813685247#64).toNat=(a.toNat/2251799813685248+8192*(b.toNat%2251799813685248))%2251799813685248:=by
  have h2:=l9 a 51
  rw[me,lR _ _ 13 (by decide) (by rw[h2];omega),h2]
 have e2:((b>>>38|||c<<<26)&&&2251799813685247#64).toNat=(b.toNat/274877906944+67108864*(c.toNat%274877906944))%2251799813685248:=by
  have h2:=l9 b 38
  rw[me,lR _ _ 26 (by decide) (by rw[h2];omega),h2]
 have e3:((c>>>25|||d<<<39)&&&2251799813685247#64).toNat=(c.toNat/33554432+549755813888*(d.toNat%33554432))%2251799813685248:=by
  have h2:=l9 c 25
  rw[me,lR _ _ 39 (by decide) (by rw[h2];omega),h2]
 have e4:(d>>>12&&&2251799813685247#64).toNat=d.toNat/4096%2251799813685248:=by
  rw[me,l9 d 12]
 have f1:(a.toNat/2251799813685248+8192*(b.toNat%2251799813685248))%2251799813685248=a.toNat/2251799813685248+8192*(b.toNat%274877906944):=by omega
 have f2:(b.toNat/274877906944+67108864*(c.toNat%274877906944))%2251799813685248=b.toNat/274877906944+67108864*(c.toNat%33554432):=by omega
 have f3:(c.toNat/33554432+549755813888*(d.toNat%33554432))%2251799813685248=c.toNat/33554432+549755813888*(d.toNat%4096):=by omega
 have f4:d.toNat/4096%2251799813685248=d.toNat/4096-2251799813685248*(d.toNat/9223372036854775808):=by omega
 have f5:2251799813685248*(d.toNat/9223372036854775808)≤d.toNat/4096:=by omega
 rw[f1] at e1
 rw[f2] at e2
 rw[f3] at e3
 rw[f4] at e4
 unfold kC
 refine⟨⟨d.toNat/9223372036854775808,?_⟩,?_⟩
 ·simp only[aA]
  rw[e0,e1,e2,e3,e4]
  unfold Pq
  omega
 ·simp only[List.forall_mem_cons,List.not_mem_nil,false_implies,implies_true,and_true]
  rw[e0,e1,e2,e3,e4]
  omega
def bT (s:List (BitVec 8))(i:Nat):BitVec 64:=BitVec.ofNat 64 (le ((s.drop (8*i)).take 8))
theorem Ko (s:List (BitVec 8))(h:s.length=32):(bT s 0).toNat+18446744073709551616*(bT s 1).toNat+340282366920938463463374607431768211456*(bT s 2).toNat+6277101735386680763835789423207666416102355444464034512896*(bT s 3).toNat=le s:=by
 have b:∀ i,(bT s i).toNat=le ((s.drop (8*i)).take 8):=fun i=>by
  have :=oG ((s.drop (8*i)).take 8)
  have h2:256^((s.drop (8*i)).take 8).length≤256^8:=Nat.pow_le_pow_right (by decide) (by rw[List.length_take];omega)
  unfold bT
  rw[BitVec.toNat_ofNat,Nat.mod_eq_of_lt (Nat.lt_of_lt_of_le this h2)]
 have e8:(256:Nat)^8=18446744073709551616:=by decide
 have s1:=w8 s 8 (by omega)
 have s2:=w8 (s.drop 8) 8 (by rw[List.length_drop];omega)
 have s3:=w8 (s.drop 16) 8 (by rw[List.length_drop];omega)
 rw[List.drop_drop,show 8+8=16 from rfl] at s2
 rw[List.drop_drop,show 16+8=24 from rfl] at s3
 have h4:(s.drop 24).take 8=s.drop 24:=List.take_of_length_le (by rw[List.length_drop];omega)
 rw[e8] at s1 s2 s3
 rw[b 0,b 1,b 2,b 3,show 8*0=0 from rfl,show 8*1=8 from rfl,show 8*2=16 from rfl,show 8*3=24 from rfl,List.drop_zero,h4]
 omega
def kR (r:List (BitVec 64)):List (BitVec 64):=[r.getD 0 0|||r.getD 1 0<<<51,r.getD 1 0>>>13|||r.getD 2 0<<<38,r.getD 2 0>>>26|||r.getD 3 0<<<25,r.getD 3 0>>>39|||r.getD 4 0<<<12]
theorem wd (n:Nat)(j:Nat):∀ k,aE n (k+j)=aE n k++aE (n/256^k) j:=by
 intro k
 induction k generalizing n with
 |zero=>simp[aE]
 |succ k ih=>rw[show k+1+j=(k+j)+1 by omega,aE,ih,aE,List.cons_append,Nat.div_div_eq_div_mul,←lM]
theorem IJ (r:List (BitVec 64))(h:r.length=5)(hx:∀ x∈r,x.toNat<2251799813685248):
  aE ((kR r).getD 0 0).toNat 8++(aE ((kR r).getD 1 0).toNat 8++(aE ((kR r).getD 2 0).toNat 8++aE ((kR r).getD 3 0).toNat 8))=aE (aA r) 32:=by
 obtain⟨a,b,c,d,e,rfl⟩:=five r h
 simp only[List.forall_mem_cons] at hx
 obtain⟨ha,hb,hc,hd,he,_⟩:=hx
 have e0:(a|||b<<<51).toNat=a.toNat+2251799813685248*(b.toNat%8192):=lR a b 51 (by decide) ha
 have e1:(b>>>13|||c<<<38).toNat=b.toNat/8192+274877906944*(c.toNat%67108864):=by
  have h2:=l9 b 13
  rw[lR _ _ 38 (by decide) (by rw[h2];omega),h2]
 have e2:(c>>>26|||d<<<25).toNat=c.toNat/67108864+33554432*(d.toNat%549755813888):=by
  have h2:=l9 c 26
  rw[lR _ _ 25 (by decide) (by rw[h2];omega),h2]
 have e3:(d>>>39|||e<<<12).toNat=d.toNat/549755813888+4096*(e.toNat%4503599627370496):=by
  have h2:=l9 d 39
  rw[lR _ _ 12 (by decide) (by rw[h2];omega),h2]
 show aE (a|||b<<<51).toNat 8++(aE (b>>>13|||c<<<38).toNat 8++(aE (c>>>26|||d<<<25).toNat 8++aE (d>>>39|||e<<<12).toNat 8))=_
 have e8:(256:Nat)^8=18446744073709551616:=by decide
 rw[show(32:Nat)=8+(8+(8+8)) from rfl,wd,wd,wd,e8,Nat.div_div_eq_div_mul,Nat.div_div_eq_div_mul,
  ←oa (aA [a,b,c,d,e]) 8,←oa (aA [a,b,c,d,e]/18446744073709551616) 8,←oa (aA [a,b,c,d,e]/(18446744073709551616*18446744073709551616)) 8,←oa (aA [a,b,c,d,e]/(18446744073709551616*(18446744073709551616*18446744073709551616))) 8,e8,e0,e1,e2,e3]
 simp only[aA]
 congr 1
 ·congr 1;omega
 ·congr 1
  ·congr 1;omega
  ·congr 1
   ·congr 1;omega
   ·congr 1;omega
theorem BG:∀ (a b:List (BitVec 64)),a.length=b.length→(∀ x∈a,x.toNat<2251799813947392)→(∀ x∈b,x.toNat<2251799813947392)→aA (List.zipWith (· +·) a b)=aA a+aA b∧∀ x∈List.zipWith (· +·) a b,x.toNat<9223372036854775808
 |[],[],_,_,_=>⟨rfl,by simp⟩
 |[],y::b,h,_,_=>by simp at h
 |x::a,[],h,_,_=>by simp at h
 |x::a,y::b,h,ha,hb=>by
  obtain⟨h1,h2⟩:=BG a b (by simpa using h) (fun z hz=>ha z (List.mem_cons_of_mem _ hz)) (fun z hz=>hb z (List.mem_cons_of_mem _ hz))
  have p:=ha x List.mem_cons_self
  have q:=hb y List.mem_cons_self
  have e:(x+y).toNat=x.toNat+y.toNat:=by rw[BitVec.toNat_add];omega
  rw[List.zipWith_cons_cons]
  refine⟨?_,?_⟩
  ·show(x+y).toNat+2251799813685248*aA (List.zipWith (· +·) a b)=(x.toNat+2251799813685248*aA a)+(y.toNat+2251799813685248*aA b)
   rw[h1,e];omega
  ·intro z hz
   rcases List.mem_cons.1 hz with rfl|hz
   ·omega
   ·exact h2 z hz
def gv (a b:List (BitVec 64)):Nat→List (BitVec 64)
 |0=>a
 |i+1=>(gv a b i).set i ((gv a b i).getD i 0+b.getD i 0)
theorem rj (a b:List (BitVec 64))(i:Nat):(gv a b i).length=a.length:=by
 induction i with
 |zero=>rfl
 |succ i ih=>rw[gv,List.length_set,ih]
theorem NJ (a b:List (BitVec 64))(ha:sm a)(hb:sm b):aA (gv a b 5)=aA a+aA b∧∀ x∈gv a b 5,x.toNat<9223372036854775808:=by
 have e:gv a b 5=List.zipWith (· +·) a b:=by
  obtain⟨a0,a1,a2,a3,a4,rfl⟩:=five a ha.1
  obtain⟨b0,b1,b2,b3,b4,rfl⟩:=five b hb.1
  rfl
 rw[e]
 exact BG a b (by rw[ha.1,hb.1]) ha.2 hb.2
def cD (a b:List (BitVec 64)):Nat→List (BitVec 64)
 |0=>a
 |i+1=>if i=0 then(cD a b i).set i ((cD a b i).getD i 0+(9007199254740988#64-b.getD i 0)-72#64) else(cD a b i).set i ((cD a b i).getD i 0+(9007199254740988#64-b.getD i 0))
theorem rk (a b:List (BitVec 64))(i:Nat):(cD a b i).length=a.length:=by
 induction i with
 |zero=>rfl
 |succ i ih=>rw[cD];split <;>rw[List.length_set,ih]
theorem NK (a b:List (BitVec 64))(ha:sm a)(hb:sm b):aA (cD a b 5)+aA b=aA a+4*Pq∧∀ x∈cD a b 5,x.toNat<9223372036854775808:=by
 obtain⟨la,ha⟩:=ha
 obtain⟨lb,hb⟩:=hb
 obtain⟨a0,a1,a2,a3,a4,rfl⟩:=five a la
 obtain⟨b0,b1,b2,b3,b4,rfl⟩:=five b lb
 simp only[List.forall_mem_cons] at ha hb
 obtain⟨p0,p1,p2,p3,p4,_⟩:=ha
 obtain⟨q0,q1,q2,q3,q4,_⟩:=hb
 have e:cD [a0,a1,a2,a3,a4] [b0,b1,b2,b3,b4] 5=[a0+(9007199254740988#64-b0)-72#64,a1+(9007199254740988#64-b1),a2+(9007199254740988#64-b2),a3+(9007199254740988#64-b3),a4+(9007199254740988#64-b4)]:=rfl
 have k:∀ x y:BitVec 64,x.toNat<2251799813947392→y.toNat<2251799813947392→(x+(9007199254740988#64-y)).toNat=x.toNat+9007199254740988-y.toNat:=fun x y h1 h2=>by
  rw[BitVec.toNat_add,BitVec.toNat_sub,show(9007199254740988#64).toNat=9007199254740988 from rfl];omega
 have k0:(a0+(9007199254740988#64-b0)-72#64).toNat=a0.toNat+9007199254740988-b0.toNat-72:=by
  rw[BitVec.toNat_sub,k a0 b0 p0 q0,show(72#64).toNat=72 from rfl];omega
 rw[e]
 refine⟨?_,?_⟩
 ·simp only[aA]
  rw[k0,k a1 b1 p1 q1,k a2 b2 p2 q2,k a3 b3 p3 q3,k a4 b4 p4 q4]
  unfold Pq
  omega
 ·simp only[List.forall_mem_cons,List.not_mem_nil,false_implies,implies_true,and_true]
  rw[k0,k a1 b1 p1 q1,k a2 b2 p2 q2,k a3 b3 p3 q3,k a4 b4 p4 q4]
  omega
def au:List Int→Int
 |[]=>0
 |x::l=>x+65536*au l
abbrev dd:Int:=115792089237316195423570985008687907853269984665640564039457584007913129639936
abbrev bV:Int:=57896044618658097711785492504343953926634992332820282019728792003956564819949
theorem tI:(65536:Int)^16=dd:=by decide
def cJ (c:Int):List Int→List Int×Int
 |[]=>([],c)
 |x::l=>(((x+c)%65536)::(cJ ((x+c)/65536) l).1,(cJ ((x+c)/65536) l).2)
theorem yp (l:List Int):∀ c,(cJ c l).1.length=l.length:=by
 induction l with
 |nil=>intro c;rfl
 |cons x l ih=>intro c;rw[cJ,List.length_cons,List.length_cons,ih]
theorem IK (l:List Int)(x:Int):∀ c,cJ c (l++[x])=((cJ c l).1++[(x+(cJ c l).2)%65536],(x+(cJ c l).2)/65536):=by
 induction l with
 |nil=>intro c;rfl
 |cons y l ih=>intro c;rw[List.cons_append,cJ,ih,cJ];rfl
def iV (c:Int)(w:List Int):Nat→List Int×Int
 |0=>(w,c)
 |k+1=>((iV c w k).1.set k (((iV c w k).1.getD k 0+(iV c w k).2)%65536),((iV c w k).1.getD k 0+(iV c w k).2)/65536)
theorem FZ (c:Int)(w:List Int)(k:Nat):(iV c w k).1.length=w.length:=by
 induction k with
 |zero=>rfl
 |succ k ih=>rw[iV,List.length_set,ih]
theorem NL (c:Int)(w:List Int)(k:Nat)(hk:k≤w.length):iV c w k=((cJ c (w.take k)).1++w.drop k,(cJ c (w.take k)).2):=by
 induction k with
 |zero=>rfl
 |succ k ih=>
  have hkl:k<w.length:=by omega
  have hl:(cJ c (w.take k)).1.length=k:=by rw[yp,List.length_take];omega
  have hg:((cJ c (w.take k)).1++w.drop k).getD k 0=w.getD k 0:=by
   rw[List.getD_eq_getElem?_getD,List.getElem?_append_right (by omega),hl,Nat.sub_self,List.getElem?_drop,Nat.add_zero,←List.getD_eq_getElem?_getD]
  have ht:w.take (k+1)=w.take k++[w.getD k 0]:=by
   rw[List.take_succ_eq_append_getElem hkl,List.getD_eq_getElem?_getD,List.getElem?_eq_getElem hkl];rfl
  rw[iV,ih (by omega)]
  simp only
  rw[hg,ht,IK,List.set_append_right _ _ (by omega),hl,Nat.sub_self,List.drop_eq_getElem_cons hkl,List.set_cons_zero]
  simp
theorem Kq (l:List Int):∀ c:Int,au (cJ c l).1+65536^l.length*(cJ c l).2=au l+c∧(∀ x∈(cJ c l).1,0≤x∧x<65536):=by
 induction l with
 |nil=>intro c;exact⟨by simp[cJ,au],by simp[cJ]⟩
 |cons x l ih=>
  intro c
  obtain⟨i1,i2⟩:=ih ((x+c)/65536)
  refine⟨?_,?_⟩
  ·rw[cJ]
   show((x+c)%65536)+65536*au (cJ ((x+c)/65536) l).1+65536^(l.length+1)*(cJ ((x+c)/65536) l).2=x+65536*au l+c
   rw[Int.pow_succ,Int.mul_comm (65536^l.length) 65536,Int.mul_assoc]
   omega
  ·rw[cJ]
   intro y hy
   rcases List.mem_cons.1 hy with rfl|hy
   ·omega
   ·exact i2 y hy
theorem Kr (l:List Int)(N:Int)(hN:1≤N):∀ c:Int,-N≤c∧c≤N→(∀ x∈l,-N≤x∧x≤N)→-N≤(cJ c l).2∧(cJ c l).2≤N:=by
 induction l with
 |nil=>intro c hc _;exact hc
 |cons x l ih=>
  intro c hc hx
  have h0:=hx x List.mem_cons_self
  rw[cJ]
  exact ih _ (by omega) (fun y hy=>hx y (List.mem_cons_of_mem _ hy))
def bg (l:List Int):Prop:=l.length=16∧∀ x∈l,0≤x∧x<65536
theorem wH:∀ (l:List Int),(∀ x∈l,0≤x∧x<65536)→0≤au l∧au l<65536^l.length
 |[],_=>⟨by decide,by decide⟩
 |x::l,h=>by
  have h0:=h x List.mem_cons_self
  have ih:=wH l fun y hy=>h y (List.mem_cons_of_mem _ hy)
  rw[List.length_cons,Int.pow_succ]
  show 0≤x+65536*au l∧x+65536*au l<_
  omega
theorem C6 (l:List Int)(h:bg l):0≤au l∧au l<dd:=by
 have :=wH l h.2
 rwa [h.1,tI] at this
def fw (w:List Int):List Int:=(iV 0 w 16).1.set 0 ((iV 0 w 16).1.getD 0 0+38*(iV 0 w 16).2)
theorem G5 (w:List Int):(fw w).length=w.length:=by unfold fw;rw[List.length_set,FZ]
def mZ (w:List Int):Nat→List Int
 |0=>w
 |i+1=>fw (mZ w i)
def oV (w:List Int):Prop:=w.length=16∧∀ x∈w,-1125899906842624≤x∧x≤1125899906842624
theorem vL (w:List Int)(hw:oV w):au (fw w)=au w%dd+38*(au w/dd)∧(0≤au w→au w<dd→bg (fw w))∧(∀ x∈fw w,-50000000000000000≤x∧x≤50000000000000000)∧(-2*dd≤au w→au w≤1000000000000*dd→oV (fw w)):=by
 obtain⟨hw,hx⟩:=hw
 have hp:=NL 0 w 16 (by omega)
 rw[List.take_of_length_le (by omega),List.drop_of_length_le (by omega),List.append_nil] at hp
 obtain⟨h1,h2⟩:=Kq w 0
 have hc:=Kr w 1125899906842624 (by decide) 0 (by decide) hx
 have hl:=yp w 0
 have hlen:=G5 w
 rw[hw] at h1 hl hlen
 have hlt:=wH _ h2
 rw[hl] at hlt
 rw[tI] at hlt h1
 unfold bg oV
 rw[hlen]
 unfold fw
 rw[hp]
 simp only
 generalize (cJ 0 w).1=r at h1 h2 hl hlt ⊢
 generalize (cJ 0 w).2=c at h1 hc ⊢
 cases r with
 |nil=>simp at hl
 |cons y r=>
  have hy:=h2 y List.mem_cons_self
  rw[List.set_cons_zero,List.getD_cons_zero]
  have hv:au ((y+38*c)::r)=au (y::r)+38*c:=by
   show y+38*c+65536*au r=y+65536*au r+38*c
   omega
  unfold dd at*
  refine⟨by rw[hv];omega,fun g1 g2=>⟨trivial,?_⟩,?_,fun g1 g2=>⟨trivial,?_⟩⟩
  ·intro x hx'
   rcases List.mem_cons.1 hx' with rfl|hx'
   ·omega
   ·exact h2 x (List.mem_cons_of_mem _ hx')
  ·intro x hx'
   rcases List.mem_cons.1 hx' with rfl|hx'
   ·omega
   ·have :=h2 x (List.mem_cons_of_mem _ hx');omega
  ·intro x hx'
   rcases List.mem_cons.1 hx' with rfl|hx'
   ·omega
   ·have :=h2 x (List.mem_cons_of_mem _ hx');omega
theorem AA (w:List Int)(hw:oV w)(h1:-dd<au w)(h2:au w≤1000000000000*dd):bg (mZ w 3)∧au (mZ w 3)%bV=au w%bV:=by
 have p1:=vL w hw
 have f1:=p1.2.2.2 (by unfold dd at*;omega) h2
 have p2:=vL _ f1
 have f2:=p2.2.2.2 (by unfold dd at*;omega) (by unfold dd at*;omega)
 have p3:=vL _ f2
 have e:mZ w 3=fw (fw (fw w)):=rfl
 rw[e]
 refine⟨p3.2.1 (by unfold dd at*;omega) (by unfold dd at*;omega),?_⟩
 have hv:au w=au (fw (fw (fw w)))+bV*(2*(au w/dd+au (fw w)/dd+au (fw (fw w))/dd)):=by
  unfold dd bV at*;omega
 rw[hv,Int.add_mul_emod_self_left]
theorem we (l:List Int)(i:Nat)(y:Int)(h:i<l.length):au (l.set i y)=au l+65536^i*(y-l.getD i 0):=by
 induction l generalizing i with
 |nil=>simp at h
 |cons x l ih=>
  cases i with
  |zero=>simp only[List.set_cons_zero,au,List.getD_cons_zero,Int.pow_zero,Int.one_mul];omega
  |succ i=>
   have :=ih i (by simpa using h)
   simp only[List.set_cons_succ,au,List.getD_cons_succ]
   rw[this,Int.pow_succ,Int.mul_comm (65536^i) 65536,Int.mul_assoc]
   omega
theorem pJ (l:List Int)(k:Nat)(h:k<l.length):au (l.take (k+1))=au (l.take k)+65536^k*l.getD k 0:=by
 induction l generalizing k with
 |nil=>simp at h
 |cons x l ih=>
  cases k with
  |zero=>simp[au]
  |succ k=>
   have :=ih k (by simpa using h)
   rw[List.take_succ_cons,List.take_succ_cons,List.getD_cons_succ]
   show x+65536*au (l.take (k+1))=x+65536*au (l.take k)+_
   rw[this,Int.pow_succ,Int.mul_comm (65536^k) 65536,Int.mul_assoc]
   omega
theorem IL (l:List Int):∀ k,k≤l.length→au l=au (l.take k)+65536^k*au (l.drop k):=by
 induction l with
 |nil=>intro k hk;simp at hk;subst hk;simp[au]
 |cons x l ih=>
  intro k hk
  cases k with
  |zero=>simp[au]
  |succ k=>
   rw[List.take_succ_cons,List.drop_succ_cons]
   show x+65536*au l=x+65536*au (l.take k)+_
   rw[ih k (by simpa using hk),Int.pow_succ,Int.mul_comm (65536^k) 65536,Int.mul_assoc]
   omega
def gZ (a b:List Int)(t:Int):Nat→List Int
 |0=>a
 |i+1=>(gZ a b t i).set i ((gZ a b t i).getD i 0+t*b.getD i 0)
theorem yW (a b:List Int)(t:Int)(i:Nat):(gZ a b t i).length=a.length:=by
 induction i with
 |zero=>rfl
 |succ i ih=>rw[gZ,List.length_set,ih]
theorem nk {l:List Int}{i:Nat}(h:i<l.length):l.getD i 0∈l:=by
 rw[List.getD_eq_getElem?_getD,List.getElem?_eq_getElem h];exact List.getElem_mem h
theorem NM {l:List Int}{i:Nat}{N y:Int}(h:∀ x∈l,-N≤x∧x≤N)(hy:-N≤y∧y≤N):∀ x∈l.set i y,-N≤x∧x≤N:=by
 intro x hx
 rcases List.mem_or_eq_of_mem_set hx with h1|h1
 ·exact h x h1
 ·rw[h1];exact hy
theorem Ks (a b:List Int)(t:Int):∀ i,(gZ a b t i).drop i=a.drop i:=by
 intro i
 induction i with
 |zero=>rfl
 |succ i ih=>
  rw[gZ,List.drop_set_of_lt (by omega),←List.drop_drop,ih,List.drop_drop]
theorem u6 (l:List Int)(i:Nat):l.getD i 0=(l.drop i).getD 0 0:=by
 rw[List.getD_eq_getElem?_getD,List.getD_eq_getElem?_getD,List.getElem?_drop,Nat.add_zero]
theorem NN (a b:List Int)(t:Int)(i:Nat):(gZ a b t i).getD i 0=a.getD i 0:=by
 rw[u6,Ks,←u6]
theorem Ta {t y:Int}(ht:-200000≤t∧t≤200000)(hy:0≤y∧y<65536):-13200000000≤t*y∧t*y≤13200000000:=by
 have h1:t*y≤200000*y:=Int.mul_le_mul_of_nonneg_right ht.2 hy.1
 have h2:-200000*y≤t*y:=Int.mul_le_mul_of_nonneg_right ht.1 hy.1
 omega
theorem NO (a b:List Int)(t:Int)(ha:bg a)(hb:bg b)(ht:-200000≤t∧t≤200000):au (gZ a b t 16)=au a+t*au b∧oV (gZ a b t 16):=by
 have key:∀ i,i≤16→au (gZ a b t i)=au a+t*au (b.take i)∧∀ x∈gZ a b t i,-13200065536≤x∧x≤13200065536:=by
  intro i
  induction i with
  |zero=>intro _;exact⟨by simp[gZ,au],fun x hx=>by have :=ha.2 x hx;omega⟩
  |succ i ih=>
   intro hi
   obtain⟨h1,h2⟩:=ih (by omega)
   have hal:=yW a b t i
   rw[ha.1] at hal
   have hab:=ha.2 _ (nk (l:=a) (i:=i) (by rw[ha.1];omega))
   have hbb:=hb.2 _ (nk (l:=b) (i:=i) (by rw[hb.1];omega))
   have htb:=Ta ht hbb
   rw[gZ,pJ b i (by rw[hb.1];omega),we _ _ _ (by omega),h1,NN]
   refine⟨?_,NM h2 (by omega)⟩
   have :a.getD i 0+t*b.getD i 0-a.getD i 0=t*b.getD i 0:=by omega
   rw[this,Int.mul_add,Int.mul_left_comm t]
   omega
 obtain⟨h1,h2⟩:=key 16 (by omega)
 rw[List.take_of_length_le (by rw[hb.1];omega)] at h1
 exact⟨h1,by rw[yW,ha.1],fun x hx=>by have :=h2 x hx;omega⟩
def w9 (a b w:List Int)(i k:Nat):List Int:=w.set (i+k) (w.getD (i+k) 0+a.getD i 0*b.getD k 0)
def jA (a b w:List Int)(i:Nat):Nat→List Int
 |0=>w
 |k+1=>w9 a b (jA a b w i k) i k
def eQ (a b:List Int):Nat→List Int
 |0=>List.replicate 32 0
 |i+1=>jA a b (eQ a b i) i 16
theorem yX (a b w:List Int)(i k:Nat):(jA a b w i k).length=w.length:=by
 induction k with
 |zero=>rfl
 |succ k ih=>rw[jA];unfold w9;rw[List.length_set,ih]
theorem uN (a b:List Int)(i:Nat):(eQ a b i).length=32:=by
 induction i with
 |zero=>rfl
 |succ i ih=>rw[eQ,yX,ih]
theorem Vt {x y:Int}(hx:0≤x∧x<65536)(hy:0≤y∧y<65536):0≤x*y∧x*y≤4294836225:=by
 have h1:x*y≤65535*y:=Int.mul_le_mul_of_nonneg_right (by omega) hy.1
 have h2:0≤x*y:=Int.mul_nonneg hx.1 hy.1
 omega
theorem Cu {l:List Int}{i:Nat}{N y:Int}(h:∀ x∈l,0≤x∧x≤N)(hy:0≤y∧y≤N):∀ x∈l.set i y,0≤x∧x≤N:=by
 intro x hx
 rcases List.mem_or_eq_of_mem_set hx with h1|h1
 ·exact h x h1
 ·rw[h1];exact hy
theorem NP (a b w:List Int)(i:Nat)(N:Int)(ha:bg a)(hb:bg b)(hw:w.length=32)(hN:∀ x∈w,0≤x∧x≤N)(hi:i<16):∀ k,k≤16→
  au (jA a b w i k)=au w+65536^i*a.getD i 0*au (b.take k)∧∀ x∈jA a b w i k,0≤x∧x≤N+4294836225*k:=by
 intro k
 induction k with
 |zero=>intro _;exact⟨by simp[au,jA],fun x hx=>by have :=hN x hx;omega⟩
 |succ k ih=>
  intro hk
  obtain⟨h1,h2⟩:=ih (by omega)
  have hl:=yX a b w i k
  rw[hw] at hl
  have ga:=ha.2 _ (nk (l:=a) (i:=i) (by rw[ha.1];exact hi))
  have gb:=hb.2 _ (nk (l:=b) (i:=k) (by rw[hb.1];omega))
  have gp:=Vt ga gb
  have gw:=h2 _ (nk (l:=jA a b w i k) (i:=i+k) (by omega))
  rw[jA]
  unfold w9
  rw[we _ _ _ (by omega),h1,pJ b k (by rw[hb.1];omega),Int.pow_add]
  refine⟨?_,fun x hx=>?_⟩
  ·have :(jA a b w i k).getD (i+k) 0+a.getD i 0*b.getD k 0-(jA a b w i k).getD (i+k) 0=a.getD i 0*b.getD k 0:=by omega
   rw[this];grind
  ·have :=Cu (N:=N+4294836225*k+4294836225) (fun x hx=>by have :=h2 x hx;omega) (by omega) x hx
   omega
theorem NQ (a b:List Int)(ha:bg a)(hb:bg b):au (eQ a b 16)=au a*au b∧∀ x∈eQ a b 16,0≤x∧x≤1099478073600:=by
 have key:∀ i,i≤16→au (eQ a b i)=au (a.take i)*au b∧∀ x∈eQ a b i,0≤x∧x≤68717379600*i:=by
  intro i
  induction i with
  |zero=>intro _;exact⟨by simp[au,eQ],by simp[eQ]⟩
  |succ i ih=>
   intro hi
   obtain⟨h1,h2⟩:=ih (by omega)
   obtain⟨h3,h4⟩:=NP a b (eQ a b i) i (68717379600*i) ha hb (uN a b i) h2 (by omega) 16 (by omega)
   rw[List.take_of_length_le (by rw[hb.1];omega)] at h3
   rw[eQ,h3,h1,pJ a i (by rw[ha.1];omega)]
   exact⟨by grind,fun x hx=>by have :=h4 x hx;omega⟩
 obtain⟨h1,h2⟩:=key 16 (by omega)
 rw[List.take_of_length_le (by rw[ha.1];omega)] at h1
 exact⟨h1,fun x hx=>by have :=h2 x hx;omega⟩
def fk (w:List Int):Nat→List Int
 |0=>List.replicate 16 0
 |i+1=>(fk w i).set i (w.getD i 0+38*w.getD (i+16) 0)
theorem uu (w:List Int)(i:Nat):(fk w i).length=16:=by
 induction i with
 |zero=>rfl
 |succ i ih=>rw[fk,List.length_set,ih]
theorem IM (w:List Int):∀ i,i≤16→(fk w i).drop i=List.replicate (16-i) 0:=by
 intro i
 induction i with
 |zero=>intro _;rfl
 |succ i ih=>
  intro hi
  rw[fk,List.drop_set_of_lt (by omega),←List.drop_drop,ih (by omega),List.drop_replicate]
  congr 1
theorem Kt (w:List Int)(hw:w.length=32)(hx:∀ x∈w,0≤x∧x≤1099478073600):au (fk w 16)=au (w.take 16)+38*au (w.drop 16)∧oV (fk w 16)∧0≤au (fk w 16)∧au (fk w 16)≤1000000000000*dd:=by
 have hd:(w.drop 16).length=16:=by rw[List.length_drop];omega
 have key:∀ i,i≤16→au (fk w i)=au (w.take i)+38*au ((w.drop 16).take i)∧∀ x∈fk w i,0≤x∧x≤42879644870400:=by
  intro i
  induction i with
  |zero=>intro _;exact⟨by simp[au,fk],by simp[fk]⟩
  |succ i ih=>
   intro hi
   obtain⟨h1,h2⟩:=ih (by omega)
   have hl:=uu w i
   have g1:=hx _ (nk (l:=w) (i:=i) (by omega))
   have g2:=hx _ (nk (l:=w) (i:=i+16) (by omega))
   have hz:(fk w i).getD i 0=0:=by
    rw[u6,IM w i (by omega),show 16-i=(15-i)+1 by omega,List.replicate_succ,List.getD_cons_zero]
   have hdd:(w.drop 16).getD i 0=w.getD (i+16) 0:=by
    rw[List.getD_eq_getElem?_getD,List.getD_eq_getElem?_getD,List.getElem?_drop,Nat.add_comm]
   rw[fk,we _ _ _ (by omega),h1,pJ w i (by omega),pJ (w.drop 16) i (by omega),hz,hdd]
   refine⟨by grind,Cu h2 (by omega)⟩
 obtain⟨h1,h2⟩:=key 16 (by omega)
 rw[List.take_of_length_le (by omega :(w.drop 16).length≤16)] at h1
 refine⟨h1,⟨uu w 16,fun x hx=>by have :=h2 x hx;omega⟩,?_⟩
 have hb:∀ (l:List Int),(∀ x∈l,0≤x∧x≤42879644870400)→0≤au l∧65535*au l≤42879644870400*(65536^l.length-1):=by
  intro l
  induction l with
  |nil=>intro _;exact⟨by decide,by decide⟩
  |cons x l ih=>
   intro h
   have h0:=h x List.mem_cons_self
   have h1:=ih (fun y hy=>h y (List.mem_cons_of_mem _ hy))
   rw[List.length_cons,Int.pow_succ]
   show 0≤x+65536*au l∧65535*(x+65536*au l)≤_
   omega
 have h3:=hb _ h2
 rw[uu,tI] at h3
 unfold dd at*
 omega
def cQ (a b:List Int):List Int:=mZ (fk (eQ a b 16) 16) 3
theorem jJ (a b:List Int)(ha:bg a)(hb:bg b):bg (cQ a b)∧au (cQ a b)%bV=(au a*au b)%bV:=by
 obtain⟨m1,m2⟩:=NQ a b ha hb
 obtain⟨h1,h2,h3,h4⟩:=Kt _ (uN a b 16) m2
 obtain⟨c1,c2⟩:=AA _ h2 (by unfold dd;omega) h4
 refine⟨c1,?_⟩
 show au (mZ (fk (eQ a b 16) 16) 3)%bV=_
 have hs:=IL (eQ a b 16) 16 (by rw[uN];omega)
 rw[tI] at hs
 rw[c2,h1,←m1,hs]
 have :au ((eQ a b 16).take 16)+dd*au ((eQ a b 16).drop 16)=au ((eQ a b 16).take 16)+38*au ((eQ a b 16).drop 16)+bV*(2*au ((eQ a b 16).drop 16)):=by
  unfold dd bV;omega
 rw[this,Int.add_mul_emod_self_left]
def fm (a b:List Int)(t:Int):List Int:=mZ (gZ a b t 16) 3
theorem kj (a b:List Int)(t:Int)(ha:bg a)(hb:bg b)(ht:-1≤t∧t≤200000):bg (fm a b t)∧au (fm a b t)%bV=(au a+t*au b)%bV:=by
 obtain⟨h1,h2⟩:=NO a b t ha hb (by omega)
 have va:=C6 a ha
 have vb:=C6 b hb
 have l1:t*au b≤200000*au b:=Int.mul_le_mul_of_nonneg_right ht.2 vb.1
 have l2:-1*au b≤t*au b:=Int.mul_le_mul_of_nonneg_right ht.1 vb.1
 obtain⟨c1,c2⟩:=AA _ h2 (by rw[h1];unfold dd at*;omega) (by rw[h1];unfold dd at*;omega)
 exact⟨c1,by rw[←h1,←c2];rfl⟩
def eC (s:List (BitVec 8)):Nat→List Int
 |0=>[]
 |i+1=>eC s i++[((s.getD (2*i) 0).toNat:Int)+256*((s.getD (2*i+1) 0).toNat:Int)]
theorem yY (s:List (BitVec 8))(i:Nat):(eC s i).length=i:=by
 induction i with
 |zero=>rfl
 |succ i ih=>rw[eC,List.length_append,ih];rfl
theorem Ku (l:List Int)(x:Int):au (l++[x])=au l+65536^l.length*x:=by
 induction l with
 |nil=>simp[au]
 |cons y l ih=>
  show y+65536*au (l++[x])=y+65536*au l+_
  rw[ih,List.length_cons,Int.pow_succ,Int.mul_comm (65536^l.length) 65536,Int.mul_assoc];omega
theorem BH (s:List (BitVec 8))(b:BitVec 8):le (s++[b])=le s+256^s.length*b.toNat:=by
 rw[zA];simp[le]
theorem BI (s:List (BitVec 8))(h:s.length=32):bg (eC s 16)∧au (eC s 16)=(le s:Int):=by
 have key:∀ i,i≤16→au (eC s i)=(le (s.take (2*i)):Int)∧∀ x∈eC s i,0≤x∧x<65536:=by
  intro i
  induction i with
  |zero=>intro _;exact⟨by simp[eC,au,le],by simp[eC]⟩
  |succ i ih=>
   intro hi
   obtain⟨h1,h2⟩:=ih (by omega)
   have b1:=(s.getD (2*i) 0).isLt
   have b2:=(s.getD (2*i+1) 0).isLt
   refine⟨?_,?_⟩
   ·rw[eC,Ku,h1,yY,show 2*(i+1)=2*i+1+1 by omega,nT (by omega :2*i+1<s.length),nT (by omega :2*i<s.length),BH,BH,List.length_append,List.length_take,Nat.min_eq_left (by omega :2*i≤s.length)]
    have e:(256:Nat)^(2*i)=65536^i:=by rw[Nat.pow_mul]
    have e2:(256:Nat)^(2*i+1)=65536^i*256:=by rw[Nat.pow_succ,e]
    show _+_=((le (s.take (2*i))+256^(2*i)*(s.getD (2*i) 0).toNat+256^(2*i+1)*(s.getD (2*i+1) 0).toNat:Nat):Int)
    rw[e,e2]
    have hp:((65536^i:Nat):Int)=(65536:Int)^i:=by rw[Int.natCast_pow];rfl
    simp only[Int.natCast_add,Int.natCast_mul,hp]
    rw[show((256:Nat):Int)=256 from rfl,Int.mul_add,Int.mul_assoc]
    omega
   ·rw[eC]
    intro x hx
    rcases List.mem_append.1 hx with hx|hx
    ·exact h2 x hx
    ·rw[List.mem_singleton.1 hx];omega
 obtain⟨h1,h2⟩:=key 16 (by omega)
 rw[List.take_of_length_le (by omega)] at h1
 exact⟨⟨yY s 16,h2⟩,h1⟩
abbrev Wd:=BitVec 64×BitVec 64
def dH (w:Wd):Nat:=18446744073709551616*w.1.toNat+w.2.toNat
def iy (w:Wd)(x y:BitVec 64):Wd:=(w.1+b7 x y+bn w.2 (x*y) 0#64,w.2+x*y+0#64)
theorem NR (x y:BitVec 64):(x*y).toNat+18446744073709551616*(b7 x y).toNat=x.toNat*y.toNat:=by
 have hx:=x.isLt
 have hy:=y.isLt
 have hlt:x.toNat*y.toNat<18446744073709551616*18446744073709551616:=Nat.mul_lt_mul'' (by omega) (by omega)
 have k1:(b7 x y).toNat=x.toNat*y.toNat/18446744073709551616:=by
  unfold b7
  rw[BitVec.toNat_ofNat]
  exact Nat.mod_eq_of_lt (Nat.div_lt_of_lt_mul (by omega))
 rw[BitVec.toNat_mul,k1]
 generalize x.toNat*y.toNat=p
 omega
theorem Cw (x y:BitVec 64):(x+y+0#64).toNat+18446744073709551616*(bn x y 0#64).toNat=x.toNat+y.toNat:=by
 have :=x.isLt
 have :=y.isLt
 unfold bn
 have z:(0#64).toNat=0:=rfl
 rw[BitVec.toNat_add,BitVec.toNat_add,z,BitVec.toNat_ofNat];omega
theorem AB (w:Wd)(x y:BitVec 64)(h:dH w+x.toNat*y.toNat<340282366920938463463374607431768211456):dH (iy w x y)=dH w+x.toNat*y.toNat:=by
 have p:=NR x y
 have q:=Cw w.2 (x*y)
 unfold dH at*
 unfold iy
 simp only
 have e:(w.1+b7 x y+bn w.2 (x*y) 0#64).toNat=w.1.toNat+(b7 x y).toNat+(bn w.2 (x*y) 0#64).toNat:=by
  rw[BitVec.toNat_add,BitVec.toNat_add];omega
 omega
def fM:List Wd→Nat
 |[]=>0
 |x::l=>dH x+2251799813685248*fM l
def wz:Wd:=(0#64,0#64)
theorem AC (l:List Wd)(i:Nat)(y:Wd)(h:i<l.length):fM (l.set i y)+2251799813685248^i*dH (l.getD i wz)=fM l+2251799813685248^i*dH y:=by
 induction l generalizing i with
 |nil=>simp at h
 |cons x l ih=>
  cases i with
  |zero=>simp only[List.set_cons_zero,fM,List.getD_cons_zero,Nat.pow_zero,Nat.one_mul];omega
  |succ i=>
   have :=ih i (by simpa using h)
   simp only[List.set_cons_succ,fM,List.getD_cons_succ]
   rw[Nat.pow_succ,Nat.mul_comm (2251799813685248^i) 2251799813685248,Nat.mul_assoc,Nat.mul_assoc]
   omega
theorem AD (l:List (BitVec 64))(k:Nat)(h:k<l.length):aA (l.take (k+1))=aA (l.take k)+2251799813685248^k*(l.getD k 0).toNat:=by
 induction l generalizing k with
 |nil=>simp at h
 |cons x l ih=>
  cases k with
  |zero=>simp[aA]
  |succ k=>
   have :=ih k (by simpa using h)
   rw[List.take_succ_cons,List.take_succ_cons,List.getD_cons_succ]
   show x.toNat+2251799813685248*aA (l.take (k+1))=x.toNat+2251799813685248*aA (l.take k)+_
   rw[this,Nat.pow_succ,Nat.mul_comm (2251799813685248^k) 2251799813685248,Nat.mul_assoc]
   omega
def mW (a b:List (BitVec 64))(w:List Wd)(i k:Nat):List Wd:=if i+k<5 then w.set (i+k) (iy (w.getD (i+k) wz) (a.getD i 0) (b.getD k 0)) else w.set (i+k-5) (iy (w.getD (i+k-5) wz) (a.getD i 0) (19#64*b.getD k 0))
def ci (a b:List (BitVec 64))(w:List Wd)(i:Nat):Nat→List Wd
 |0=>w
 |k+1=>mW a b (ci a b w i k) i k
def de (a b:List (BitVec 64)):Nat→List Wd
 |0=>List.replicate 5 wz
 |i+1=>ci a b (de a b i) i 5
theorem uO (a b:List (BitVec 64))(w:List Wd)(i k:Nat):(ci a b w i k).length=w.length:=by
 induction k with
 |zero=>rfl
 |succ k ih=>rw[ci];unfold mW;split <;>rw[List.length_set,ih]
theorem nC (a b:List (BitVec 64))(i:Nat):(de a b i).length=5:=by
 induction i with
 |zero=>rfl
 |succ i ih=>rw[de,uO,ih]
theorem DH {l:List (BitVec 64)}{i:Nat}(h:i<l.length):l.getD i 0∈l:=by
 rw[List.getD_eq_getElem?_getD,List.getElem?_eq_getElem h];exact List.getElem_mem h
theorem DV {l:List Wd}{i:Nat}(h:i<l.length):l.getD i wz∈l:=by
 rw[List.getD_eq_getElem?_getD,List.getElem?_eq_getElem h];exact List.getElem_mem h
theorem BJ {l:List Wd}{i N:Nat}{y:Wd}(h:∀ x∈l,dH x≤N)(hy:dH y≤N):∀ x∈l.set i y,dH x≤N:=by
 intro x hx
 rcases List.mem_or_eq_of_mem_set hx with h1|h1
 ·exact h x h1
 ·rw[h1];exact hy
theorem Vu (x y:BitVec 64)(hx:x.toNat<2251799813947392)(hy:y.toNat<2251799813947392):(19#64*y).toNat=19*y.toNat∧x.toNat*y.toNat≤5070602410000000000000000000000:=by
 have h:x.toNat*y.toNat≤2251799813947391*2251799813947391:=Nat.mul_le_mul (by omega) (by omega)
 refine⟨?_,by omega⟩
 rw[BitVec.toNat_mul,show(19#64).toNat=19 from rfl];omega
theorem IN (a b:List (BitVec 64))(w:List Wd)(i k N:Nat)(ha:sm a)(hb:sm b)(hw:w.length=5)(hN:∀ x∈w,dH x≤N)(hN2:N<20769187434139310514121985316880384)(hi:i<5)(hk:k<5):
  (∃ q,fM w+2251799813685248^(i+k)*((a.getD i 0).toNat*(b.getD k 0).toNat)=fM (mW a b w i k)+Pq*q)∧∀ x∈mW a b w i k,dH x≤N+96341445790000000000000000000000:=by
 have ga:=ha.2 _ (DH (l:=a) (i:=i) (by rw[ha.1];exact hi))
 have gb:=hb.2 _ (DH (l:=b) (i:=k) (by rw[hb.1];exact hk))
 obtain⟨m1,m2⟩:=Vu _ _ ga gb
 unfold mW
 split
 ·rename_i h10
  have hg:=hN _ (DV (l:=w) (i:=i+k) (by omega))
  have hs:=AC w (i+k) (iy (w.getD (i+k) wz) (a.getD i 0) (b.getD k 0)) (by omega)
  have hy:=AB (w.getD (i+k) wz) (a.getD i 0) (b.getD k 0) (by omega)
  refine⟨⟨0,?_⟩,BJ (fun x hx=>by have :=hN x hx;omega) (by omega)⟩
  rw[hy,Nat.mul_add] at hs
  omega
 ·rename_i h10
  have hg:=hN _ (DV (l:=w) (i:=i+k-5) (by omega))
  have hs:=AC w (i+k-5) (iy (w.getD (i+k-5) wz) (a.getD i 0) (19#64*b.getD k 0)) (by omega)
  have e19:(a.getD i 0).toNat*(19*(b.getD k 0).toNat)=19*((a.getD i 0).toNat*(b.getD k 0).toNat):=Nat.mul_left_comm _ _ _
  have hy:=AB (w.getD (i+k-5) wz) (a.getD i 0) (19#64*b.getD k 0) (by rw[m1,e19];omega)
  rw[m1,e19] at hy
  refine⟨⟨2251799813685248^(i+k-5)*((a.getD i 0).toNat*(b.getD k 0).toNat),?_⟩,BJ (fun x hx=>by have :=hN x hx;omega) (by omega)⟩
  rw[hy,Nat.mul_add] at hs
  have e:(2251799813685248:Nat)^(i+k)=57896044618658097711785492504343953926634992332820282019728792003956564819968*2251799813685248^(i+k-5):=by
   rw[←nj,←Nat.pow_add];congr 1;omega
  rw[e,Nat.mul_assoc]
  rw[Nat.mul_left_comm (2251799813685248^(i+k-5)) 19] at hs
  generalize 2251799813685248^(i+k-5)*((a.getD i 0).toNat*(b.getD k 0).toNat)=z at*
  unfold Pq
  omega
theorem NS (a b:List (BitVec 64))(w:List Wd)(i N:Nat)(ha:sm a)(hb:sm b)(hw:w.length=5)(hN:∀ x∈w,dH x≤N)(hN2:N<10384593717069655257060992658440192)(hi:i<5):∀ k,k≤5→
  (∃ q,fM w+2251799813685248^i*(a.getD i 0).toNat*aA (b.take k)=fM (ci a b w i k)+Pq*q)∧∀ x∈ci a b w i k,dH x≤N+96341445790000000000000000000000*k:=by
 intro k
 induction k with
 |zero=>intro _;exact⟨⟨0,by simp[aA,ci]⟩,by simpa [ci] using hN⟩
 |succ k ih=>
  intro hk
  obtain⟨⟨q,hq⟩,hb2⟩:=ih (by omega)
  obtain⟨⟨q2,hq2⟩,hb3⟩:=IN a b (ci a b w i k) i k (N+96341445790000000000000000000000*k) ha hb (by rw[uO,hw]) hb2 (by omega) hi (by omega)
  rw[ci]
  refine⟨⟨q+q2,?_⟩,fun x hx=>Nat.le_trans (hb3 x hx) (by rw[Nat.mul_succ];omega)⟩
  rw[AD b k (by rw[hb.1];omega)]
  rw[Nat.pow_add] at hq2
  generalize Pq=pp at*
  grind
theorem NT (a b:List (BitVec 64))(ha:sm a)(hb:sm b):(∃ q,aA a*aA b=fM (de a b 5)+Pq*q)∧∀ x∈de a b 5,dH x≤2408536144750000000000000000000000:=by
 have key:∀ i,i≤5→(∃ q,aA (a.take i)*aA b=fM (de a b i)+Pq*q)∧∀ x∈de a b i,dH x≤481707228950000000000000000000000*i:=by
  intro i
  induction i with
  |zero=>intro _;exact⟨⟨0,by simp[aA,de,fM,dH,wz]⟩,by simp[de,dH,wz]⟩
  |succ i ih=>
   intro hi
   obtain⟨⟨q,hq⟩,h2⟩:=ih (by omega)
   obtain⟨⟨q2,hq2⟩,h3⟩:=NS a b (de a b i) i (481707228950000000000000000000000*i) ha hb (nC a b i) h2 (by omega) (by omega) 5 (by omega)
   rw[List.take_of_length_le (by rw[hb.1];omega)] at hq2
   rw[de]
   refine⟨⟨q+q2,?_⟩,fun x hx=>Nat.le_trans (h3 x hx) (by rw[Nat.mul_succ];omega)⟩
   rw[AD a i (by rw[ha.1];omega)]
   generalize Pq=pp at*
   grind
 obtain⟨h1,h2⟩:=key 5 (by omega)
 rw[List.take_of_length_le (by rw[ha.1];omega)] at h1
 exact⟨h1,fun x hx=>by have :=h2 x hx;omega⟩
def kS (c:BitVec 64)(x:Wd):BitVec 64:=(x.1+bn x.2 c 0#64)<<<13|||(x.2+c+0#64)>>>51
def bz (c:BitVec 64):List Wd→List (BitVec 64)×BitVec 64
 |[]=>([],c)
 |x::l=>(((x.2+c+0#64)&&&2251799813685247#64)::(bz (kS c x) l).1,(bz (kS c x) l).2)
theorem pt (l:List Wd):∀ c,(bz c l).1.length=l.length:=by
 induction l with
 |nil=>intro c;rfl
 |cons x l ih=>intro c;rw[bz,List.length_cons,List.length_cons,ih]
theorem Kv (l:List Wd)(x:Wd):∀ c,bz c (l++[x])=((bz c l).1++[(x.2+(bz c l).2+0#64)&&&2251799813685247#64],kS (bz c l).2 x):=by
 induction l with
 |nil=>intro c;rfl
 |cons y l ih=>intro c;rw[List.cons_append,bz,ih,bz];rfl
theorem Qw (c:BitVec 64)(x:Wd)(h:dH x≤2408536144750000000000000000000000):((x.2+c+0#64)&&&2251799813685247#64).toNat=(dH x+c.toNat)%2251799813685248∧(kS c x).toNat=(dH x+c.toNat)/2251799813685248:=by
 have q:=Cw x.2 c
 have hc:=c.isLt
 have h2:=x.2.isLt
 unfold dH at*
 have hl:=(x.2+c+0#64).isLt
 have e:(x.1+bn x.2 c 0#64).toNat=x.1.toNat+(bn x.2 c 0#64).toNat:=by rw[BitVec.toNat_add];omega
 have s:=xE (x.2+c+0#64)
 refine⟨by rw[me];omega,?_⟩
 unfold kS
 rw[BitVec.or_comm,lR _ _ 13 (by decide) (by rw[s];omega),s,e]
 omega
theorem NU (l:List Wd):∀ c:BitVec 64,(∀ x∈l,dH x≤2408536144750000000000000000000000)→aA (bz c l).1+2251799813685248^l.length*(bz c l).2.toNat=fM l+c.toNat∧(∀ x∈(bz c l).1,x.toNat<2251799813685248):=by
 induction l with
 |nil=>intro c _;exact⟨by simp[bz,aA,fM],by simp[bz]⟩
 |cons x l ih=>
  intro c hx
  obtain⟨o1,o2⟩:=Qw c x (hx x List.mem_cons_self)
  obtain⟨i1,i2⟩:=ih (kS c x) (fun y hy=>hx y (List.mem_cons_of_mem _ hy))
  rw[o2] at i1
  refine⟨?_,?_⟩
  ·rw[bz]
   show((x.2+c+0#64)&&&2251799813685247#64).toNat+2251799813685248*aA (bz (kS c x) l).1+2251799813685248^(l.length+1)*(bz (kS c x) l).2.toNat=dH x+2251799813685248*fM l+c.toNat
   rw[o1,Nat.pow_succ,Nat.mul_comm (2251799813685248^l.length) 2251799813685248,Nat.mul_assoc]
   omega
  ·rw[bz]
   intro y hy
   rcases List.mem_cons.1 hy with rfl|hy
   ·rw[o1];omega
   ·exact i2 y hy
def jQ (r:List (BitVec 64))(c:BitVec 64):List (BitVec 64):=(r.set 0 (r.getD 0 0+19#64*(c&&&2251799813685247#64))).set 1 ((r.set 0 (r.getD 0 0+19#64*(c&&&2251799813685247#64))).getD 1 0+19#64*(c>>>51))
def ba (a b:List (BitVec 64)):List (BitVec 64):=bW (jQ (bz 0#64 (de a b 5)).1 (bz 0#64 (de a b 5)).2) 2
theorem dJ (a b:List (BitVec 64))(ha:sm a)(hb:sm b):sm (ba a b)∧aA (ba a b)%Pq=(aA a*aA b)%Pq:=by
 obtain⟨⟨q,hq⟩,hbd⟩:=NT a b ha hb
 obtain⟨o1,o2⟩:=NU (de a b 5) 0#64 hbd
 have ol:=pt (de a b 5) 0#64
 rw[nC] at ol o1
 rw[nj,show(0#64).toNat=0 from rfl] at o1
 unfold ba
 rw[hq,Nat.add_mul_mod_self_left]
 generalize (bz 0#64 (de a b 5)).1=r at*
 generalize (bz 0#64 (de a b 5)).2=c at*
 obtain⟨r0,r1,r2,r3,r4,rfl⟩:=five r ol
 simp only[List.forall_mem_cons] at o2
 obtain⟨p0,p1,p2,p3,p4,_⟩:=o2
 have hc:=c.isLt
 have c1:=me c
 have c2:=xE c
 have k0:(r0+19#64*(c&&&2251799813685247#64)).toNat=r0.toNat+19*(c.toNat%2251799813685248):=by
  rw[BitVec.toNat_add,BitVec.toNat_mul,c1,show(19#64).toNat=19 from rfl];omega
 have k1:(r1+19#64*(c>>>51)).toNat=r1.toNat+19*(c.toNat/2251799813685248):=by
  rw[BitVec.toNat_add,BitVec.toNat_mul,c2,show(19#64).toNat=19 from rfl];omega
 have e:jQ [r0,r1,r2,r3,r4] c=[r0+19#64*(c&&&2251799813685247#64),r1+19#64*(c>>>51),r2,r3,r4]:=rfl
 rw[e]
 obtain⟨⟨q3,g1⟩,g2⟩:=rP [r0+19#64*(c&&&2251799813685247#64),r1+19#64*(c>>>51),r2,r3,r4] rfl (by
  simp only[List.forall_mem_cons,List.not_mem_nil,false_implies,implies_true,and_true]
  omega)
 refine⟨g2,?_⟩
 have hv:fM (de a b 5)=aA [r0+19#64*(c&&&2251799813685247#64),r1+19#64*(c>>>51),r2,r3,r4]+Pq*c.toNat:=by
  simp only[aA] at*
  rw[k0,k1]
  unfold Pq
  omega
 rw[hv,Nat.add_mul_mod_self_left,g1,Nat.add_mul_mod_self_left]
def eI (a b:List (BitVec 64)):List (BitVec 64):=bW (gv a b 5) 2
def eG (a b:List (BitVec 64)):List (BitVec 64):=bW (cD a b 5) 2
theorem mF (a b:List (BitVec 64))(ha:sm a)(hb:sm b):sm (eI a b)∧aA (eI a b)%Pq=(aA a+aA b)%Pq:=by
 obtain⟨h1,h2⟩:=NJ a b ha hb
 obtain⟨⟨q,hq⟩,hs⟩:=rP _ (by rw[rj,ha.1]) h2
 exact⟨hs,by rw[←h1,hq,Nat.add_mul_mod_self_left];rfl⟩
theorem nK (a b:List (BitVec 64))(ha:sm a)(hb:sm b):sm (eG a b)∧((aA (eG a b):Nat):Int)%bV=((aA a:Int)-(aA b:Int))%bV:=by
 obtain⟨h1,h2⟩:=NK a b ha hb
 obtain⟨⟨q,hq⟩,hs⟩:=rP _ (by rw[rk,ha.1]) h2
 refine⟨hs,?_⟩
 have :(aA a:Int)-(aA b:Int)=(aA (eG a b):Int)+bV*((q:Int)-4):=by
  show _=((aA (bW (cD a b 5) 2):Nat):Int)+_
  unfold Pq bV at*;omega
 rw[this,Int.add_mul_emod_self_left]
end Go.Vm
end
section
namespace Go.Vm
open Go.Proofs
theorem AE (l:List (BitVec 64))(i:Nat)(x y:BitVec 64):(l.set i x).set i y=l.set i y:=List.set_set ..
theorem zB (l:List (BitVec 64))(i:Nat)(x:BitVec 64)(h:i<l.length):(l.set i x).getD i 0=x:=by
 rw[List.getD_eq_getElem?_getD,List.getElem?_set_self h];rfl
theorem nt (w:List (BitVec 64))(hw:w.length=5):ao Tryz.prog 111 [.agg (w.map .u64)] (.agg ((bW w 2).map .u64)):=by
 refine aB (by kernel_rfl) (fn:=Tryz.f111) (by kernel_rfl) Tryz.func111 rfl (by show 1≤34;decide) (by simp[iM,aa,V.low]) (by simp[iM,V.low]) (ae ?_)
 simp only[go_sem,↓reduceIte,Nat.reduceLT,Tryz.ntmps111]
 refine bf (fun ji st=>∃ i:Nat,i+ji=2∧st=⟨[(1,.ptr 0 0),(2,.ptr 1 0),(5,.i64 i)],[bK ((bW w i).map .u64),bK [.u64 0#64,.u64 0#64,.u64 0#64,.u64 0#64,.u64 0#64]]⟩) ?_ ?_
 ·exact bP (2) ⟨[(1,.ptr 0 0),(2,.ptr 1 0),(5,.i64 (0:Nat))],[bK ((bW w (0:Nat)).map .u64),bK [.u64 0#64,.u64 0#64,.u64 0#64,.u64 0#64,.u64 0#64]]⟩ (by simp[St.get,af,-List.map_set,-List.map_map]) rfl (fun _ _ h=>h) ⟨0,by omega,rfl⟩
 rintro ji st ⟨i,hi,rfl⟩ _
 simp only[go_sem,↓reduceIte,Nat.reduceEqDiff,Nat.reduceLT,Nat.reduceAdd,Int.reduceLT,BitVec.reduceOfInt]
 by_cases h0:i<2
 ·have h0':(i:Int)<2:=by omega
  have hcl:=ja w i
  rw[hw] at hcl
  have hi1:bQ (bW w i)=bW w (i+1):=rfl
  simp only[go_sem,↓reduceIte,h0']
  generalize bW w i=v at hcl hi1 ⊢
  refine bf (fun jk st=>∃ k:Nat,k+jk=5∧st=⟨[(1,.ptr 0 0),(2,.ptr 1 0),(3,.u64 (ce 0#64 v k).2),(5,.i64 i),(7,.i64 k)],[bK ((ce 0#64 v k).1.map .u64),bK [.u64 0#64,.u64 0#64,.u64 0#64,.u64 0#64,.u64 0#64]]⟩) ?_ ?_
  ·exact bP (5) ⟨[(1,.ptr 0 0),(2,.ptr 1 0),(3,.u64 (ce 0#64 v (0:Nat)).2),(5,.i64 i),(7,.i64 (0:Nat))],[bK ((ce 0#64 v (0:Nat)).1.map .u64),bK [.u64 0#64,.u64 0#64,.u64 0#64,.u64 0#64,.u64 0#64]]⟩ (by simp[St.get,af,-List.map_set,-List.map_map,ce]) rfl (fun _ _ h=>h) ⟨0,by omega,rfl⟩
  rintro jk st ⟨k,hk,rfl⟩ _
  simp only[go_sem,↓reduceIte,Nat.reduceEqDiff,Nat.reduceLT,Int.reduceLE,Int.reduceLT,Int.reduceToNat,BitVec.reduceOfInt,reduceCtorEq]
  have hpl:=ya 0#64 v k
  rw[hcl] at hpl
  by_cases hk0:k<5
  ·have hk0':(k:Int)<5:=by omega
   have hkl:k<(ce 0#64 v k).1.length:=by omega
   have hst1:(ce 0#64 v k).1.set k (((ce 0#64 v k).1.getD k 0+(ce 0#64 v k).2)&&&2251799813685247#64)=(ce 0#64 v (k+1)).1:=rfl
   have hst2:((ce 0#64 v k).1.getD k 0+(ce 0#64 v k).2)>>>51=(ce 0#64 v (k+1)).2:=rfl
   have hsl:∀ x:BitVec 64,k<((ce 0#64 v k).1.set k x).length:=fun x=>by rw[List.length_set];exact hkl
   have hgs:∀ x:BitVec 64,((ce 0#64 v k).1.set k x).getD k 0=x:=fun x=>zB _ _ _ hkl
   simp only[go_sem,↓reduceIte,Nat.reduceEqDiff,Nat.reduceLT,Nat.reduceLeDiff,Int.reduceLE,Int.reduceLT,BitVec.reduceOfInt,BitVec.reduceToNat,hk0',hk0,hpl,dQ hkl,dQ (hsl _),hgs,AE,hst1,hst2]
   iterate 7 refine⟨by omega,?_⟩
   refine bL (jk-1) ⟨[(1,.ptr 0 0),(2,.ptr 1 0),(3,.u64 (ce 0#64 v (k+1:Nat)).2),(5,.i64 i),(7,.i64 (k+1:Nat))],[bK ((ce 0#64 v (k+1:Nat)).1.map .u64),bK [.u64 0#64,.u64 0#64,.u64 0#64,.u64 0#64,.u64 0#64]]⟩ (by omega) ?_ rfl (fun _ _ h=>h) ⟨k+1,by omega,rfl⟩
   have hw1:aj ((k:Int)+1)=((k+1:Nat):Int):=by rw[am (by omega) (by omega)];omega
   simp[St.get,af,hw1,-List.map_set,-List.map_map]
  ·obtain rfl:k=5:=by omega
   have hk0':¬ ((5:Nat):Int)<5:=by omega
   have hkl:0<(ce 0#64 v 5).1.length:=by omega
   have hp:(ce 0#64 v 5).1.set 0 ((ce 0#64 v 5).1.getD 0 0+19#64*(ce 0#64 v 5).2)=bW w (i+1):=hi1
   simp only[go_sem,↓reduceIte,Nat.reduceEqDiff,Nat.reduceLT,Nat.reduceLeDiff,Int.reduceLT,Int.reduceToNat,hpl,dQ hkl]
   simp only[hp]
   refine bL (ji-1) ⟨[(1,.ptr 0 0),(2,.ptr 1 0),(5,.i64 (i+1:Nat))],[bK ((bW w (i+1:Nat)).map .u64),bK [.u64 0#64,.u64 0#64,.u64 0#64,.u64 0#64,.u64 0#64]]⟩ (by omega) ?_ rfl (fun _ _ h=>h) ⟨i+1,by omega,rfl⟩
   have hw1:aj ((i:Int)+1)=((i+1:Nat):Int):=by rw[am (by omega) (by omega)];omega
   simp[St.get,af,hw1,-List.map_set,-List.map_map]
 ·obtain rfl:i=2:=by omega
  have h0':¬ ((2:Nat):Int)<2:=by omega
  have hcl:=ja w 2
  rw[hw] at hcl
  have hm:min 5 5=5:=rfl
  simp only[go_sem,↓reduceIte,Nat.reduceEqDiff,Nat.reduceAdd,Int.reduceLT,hcl,hm,bi,List.take_of_length_le]
theorem lk (a b:List (BitVec 64))(ha:a.length=5)(hb:b.length=5):ao Tryz.prog 76 [.agg (a.map .u64),.agg (b.map .u64)] (.agg ((eI a b).map .u64)):=by
 have hs:=rj a b 5
 rw[ha] at hs
 have hcs:=nt (gv a b 5) hs
 have hcl:=ja (gv a b 5) 2
 rw[hs] at hcl
 unfold eI
 generalize bW (gv a b 5) 2=r at hcs hcl ⊢
 refine aB (by kernel_rfl) (fn:=Tryz.f76) (by kernel_rfl) Tryz.func76 rfl (by show 2≤20;decide) (by simp[iM,aa,V.low]) (by simp[iM,V.low]) (ae ?_)
 simp only[go_sem,seval,Tryz.ntmps76]
 refine bf (fun ji st=>∃ i:Nat,i+ji=5∧st=⟨[(2,.ptr 0 0),(3,.ptr 1 0),(4,.ptr 2 0),(6,.i64 i)],[bK ((gv a b i).map .u64),bK (b.map .u64),bK [.u64 0#64,.u64 0#64,.u64 0#64,.u64 0#64,.u64 0#64]]⟩) ?_ ?_
 ·exact bP (5) ⟨[(2,.ptr 0 0),(3,.ptr 1 0),(4,.ptr 2 0),(6,.i64 (0:Nat))],[bK ((gv a b (0:Nat)).map .u64),bK (b.map .u64),bK [.u64 0#64,.u64 0#64,.u64 0#64,.u64 0#64,.u64 0#64]]⟩ (by simp[St.get,af,-List.map_set,-List.map_map]) rfl (fun _ _ h=>h) ⟨0,by omega,rfl⟩
 rintro ji st ⟨i,hi,rfl⟩ _
 simp only[go_sem,seval]
 by_cases h0:i<5
 ·have h0':(i:Int)<5:=by omega
  have hl:=rj a b i
  rw[ha] at hl
  have h1:i<(gv a b i).length:=by omega
  have h2:i<b.length:=by omega
  simp only[go_sem,seval,h0',h0,hl,hb,dQ h1,dQ h2]
  refine⟨by omega,by omega,by omega,by omega,by kernel_rfl,?_⟩
  refine bL (ji-1) ⟨[(2,.ptr 0 0),(3,.ptr 1 0),(4,.ptr 2 0),(6,.i64 (i+1:Nat))],[bK ((gv a b (i+1:Nat)).map .u64),bK (b.map .u64),bK [.u64 0#64,.u64 0#64,.u64 0#64,.u64 0#64,.u64 0#64]]⟩ (by omega) ?_ rfl (fun _ _ h=>h) ⟨i+1,by omega,rfl⟩
  have hw1:aj ((i:Int)+1)=((i+1:Nat):Int):=by rw[am (by omega) (by omega)];omega
  simp[St.get,af,hw1,-List.map_set,-List.map_map]
 ·obtain rfl:i=5:=by omega
  have h0':¬ ((5:Nat):Int)<5:=by omega
  have hm:min 5 5=5:=rfl
  simp only[go_sem,seval,hs,List.take_of_length_le]
  refine ak (hcs) ?_
  simp only[go_sem,seval,hcl,bi,List.take_of_length_le]
theorem lh (a b:List (BitVec 64))(ha:a.length=5)(hb:b.length=5):ao Tryz.prog 77 [.agg (a.map .u64),.agg (b.map .u64)] (.agg ((eG a b).map .u64)):=by
 have hs:=rk a b 5
 rw[ha] at hs
 have hcs:=nt (cD a b 5) hs
 have hcl:=ja (cD a b 5) 2
 rw[hs] at hcl
 unfold eG
 generalize bW (cD a b 5) 2=r at hcs hcl ⊢
 refine aB (by kernel_rfl) (fn:=Tryz.f77) (by kernel_rfl) Tryz.func77 rfl (by show 2≤28;decide) (by simp[iM,aa,V.low]) (by simp[iM,V.low]) (ae ?_)
 simp only[go_sem,↓reduceIte,Nat.reduceLT,Nat.reduceAdd,Tryz.ntmps77]
 refine bf (fun ji st=>∃ i:Nat,i+ji=5∧st=⟨[(2,.ptr 0 0),(3,.ptr 1 0),(4,.ptr 2 0),(6,.i64 i)],[bK ((cD a b i).map .u64),bK (b.map .u64),bK [.u64 0#64,.u64 0#64,.u64 0#64,.u64 0#64,.u64 0#64]]⟩) ?_ ?_
 ·exact bP (5) ⟨[(2,.ptr 0 0),(3,.ptr 1 0),(4,.ptr 2 0),(6,.i64 (0:Nat))],[bK ((cD a b (0:Nat)).map .u64),bK (b.map .u64),bK [.u64 0#64,.u64 0#64,.u64 0#64,.u64 0#64,.u64 0#64]]⟩ (by simp[St.get,af,-List.map_set,-List.map_map]) rfl (fun _ _ h=>h) ⟨0,by omega,rfl⟩
 rintro ji st ⟨i,hi,rfl⟩ _
 simp only[go_sem,↓reduceIte,Nat.reduceEqDiff,Nat.reduceLT,Nat.reduceAdd,Int.reduceLE,Int.reduceLT,BitVec.reduceOfInt]
 by_cases h0:i<5
 ·have h0':(i:Int)<5:=by omega
  have hl:=rk a b i
  rw[ha] at hl
  have h1:i<(cD a b i).length:=by omega
  have h2:i<b.length:=by omega
  by_cases hz:i=0
  ·have hz':=eq_true (show(i:Int)=0 by omega)
   have hsl:∀ x:BitVec 64,i<((cD a b i).set i x).length:=fun x=>by rw[List.length_set];exact h1
   have hgs:∀ x:BitVec 64,((cD a b i).set i x).getD i 0=x:=fun x=>zB _ _ _ h1
   have hst:(cD a b i).set i ((cD a b i).getD i 0+(9007199254740988#64-b.getD i 0)-72#64)=cD a b (i+1):=by rw[cD,if_pos hz]
   simp only[go_sem,↓reduceIte,Nat.reduceEqDiff,Nat.reduceLT,Nat.reduceLeDiff,Nat.reduceAdd,Int.reduceLE,Int.reduceLT,BitVec.reduceOfInt,h0',h0,hl,hb,hz',dQ h1,dQ h2,dQ (hsl _),hgs,AE,hst]
   refine⟨by omega,by omega,by omega,by omega,by kernel_rfl,?_⟩
   refine⟨by omega,by omega,by omega,?_⟩
   refine bL (ji-1) ⟨[(2,.ptr 0 0),(3,.ptr 1 0),(4,.ptr 2 0),(6,.i64 (i+1:Nat))],[bK ((cD a b (i+1:Nat)).map .u64),bK (b.map .u64),bK [.u64 0#64,.u64 0#64,.u64 0#64,.u64 0#64,.u64 0#64]]⟩ (by omega) ?_ rfl (fun _ _ h=>h) ⟨i+1,by omega,rfl⟩
   have hw1:aj ((i:Int)+1)=((i+1:Nat):Int):=by rw[am (by omega) (by omega)];omega
   simp[St.get,af,hw1,-List.map_set,-List.map_map]
  ·have hz':¬ (i:Int)=0:=by omega
   have hst:(cD a b i).set i ((cD a b i).getD i 0+(9007199254740988#64-b.getD i 0))=cD a b (i+1):=by rw[cD,if_neg hz]
   simp only[go_sem,↓reduceIte,Nat.reduceEqDiff,Nat.reduceLT,Nat.reduceLeDiff,Nat.reduceAdd,h0',h0,hl,hb,hz',dQ h1,dQ h2,hst]
   refine⟨by omega,by omega,by omega,by omega,by kernel_rfl,?_⟩
   refine bL (ji-1) ⟨[(2,.ptr 0 0),(3,.ptr 1 0),(4,.ptr 2 0),(6,.i64 (i+1:Nat))],[bK ((cD a b (i+1:Nat)).map .u64),bK (b.map .u64),bK [.u64 0#64,.u64 0#64,.u64 0#64,.u64 0#64,.u64 0#64]]⟩ (by omega) ?_ rfl (fun _ _ h=>h) ⟨i+1,by omega,rfl⟩
   have hw1:aj ((i:Int)+1)=((i+1:Nat):Int):=by rw[am (by omega) (by omega)];omega
   simp[St.get,af,hw1,-List.map_set,-List.map_map]
 ·obtain rfl:i=5:=by omega
  have h0':¬ ((5:Nat):Int)<5:=by omega
  have hm:min 5 5=5:=rfl
  simp only[go_sem,↓reduceIte,Int.reduceLT,hs,List.take_of_length_le]
  refine ak (hcs) ?_
  simp only[go_sem,↓reduceIte,Nat.reduceEqDiff,Nat.reduceAdd,hcl,bi,List.take_of_length_le]
theorem vM (x y c:BitVec 64)(hc:c.toNat≤1):oE Tryz.prog 113 [.u64 x,.u64 y,.u64 c] (.tup [.u64 (x+y+c),.u64 (bn x y c)]):=Aq x y c hc
theorem zC (w:Wd)(x y:BitVec 64):ao Tryz.prog 112 [.agg [.u64 w.1,.u64 w.2],.u64 x,.u64 y] (.agg [.u64 (iy w x y).1,.u64 (iy w x y).2]):=by
 have hc:=gQ w.2 (x*y) 0#64 (by decide)
 unfold iy
 refine aB (by kernel_rfl) (fn:=Tryz.f112) (by kernel_rfl) Tryz.func112 rfl (by show 3≤34;decide) (by simp[aa,V.low]) (by simp[aa,V.low]) (ae ?_)
 simp only[go_sem,seval,Tryz.ntmps112]
 refine ak (zr x y) ?_
 simp only[go_sem,seval]
 refine pB (vM w.2 (x*y) 0#64 (by decide)) ?_
 simp only[go_sem,seval]
 refine pB (vM w.1 (b7 x y) (bn w.2 (x*y) 0#64) hc) ?_
 simp only[go_sem,seval]
def da (s:List (BitVec 8)):List (BitVec 64):=bW (kC (bT s 0) (bT s 1) (bT s 2) (bT s 3)) 2
theorem AF (s:List (BitVec 8))(h:s.length=32):sm (da s)∧aA (da s)%Pq=le s%Pq:=by
 obtain⟨⟨q,hq⟩,hx⟩:=II (bT s 0) (bT s 1) (bT s 2) (bT s 3)
 obtain⟨⟨q2,hq2⟩,hs⟩:=rP _ rfl hx
 rw[Ko s h] at hq
 exact⟨hs,by rw[hq,hq2,Nat.add_mul_mod_self_left,Nat.add_mul_mod_self_left];rfl⟩
theorem Kw (s:List (BitVec 8))(h:s.length=32):ao Tryz.prog 74 [.str s] (.tup [.agg ((da s).map .u64),.bool true]):=by
 have h':(s.length:Int)=32:=by omega
 have k0:=eT (s.drop (8*0)) (by rw[List.length_drop];omega)
 have k1:=eT (s.drop (8*1)) (by rw[List.length_drop];omega)
 have k2:=eT (s.drop (8*2)) (by rw[List.length_drop];omega)
 have k3:=eT (s.drop (8*3)) (by rw[List.length_drop];omega)
 rw[show BitVec.ofNat 64 (le ((s.drop (8*0)).take 8))=bT s 0 from rfl,show s.drop (8*0)=s from rfl] at k0
 rw[show BitVec.ofNat 64 (le ((s.drop (8*1)).take 8))=bT s 1 from rfl,show s.drop (8*1)=s.drop 8 from rfl] at k1
 rw[show BitVec.ofNat 64 (le ((s.drop (8*2)).take 8))=bT s 2 from rfl,show s.drop (8*2)=s.drop 16 from rfl] at k2
 rw[show BitVec.ofNat 64 (le ((s.drop (8*3)).take 8))=bT s 3 from rfl,show s.drop (8*3)=s.drop 24 from rfl] at k3
 have hct:s.take 32=s:=List.take_of_length_le (by omega)
 have hlen:=ja (kC (bT s 0) (bT s 1) (bT s 2) (bT s 3)) 2
 have hcs:=nt (kC (bT s 0) (bT s 1) (bT s 2) (bT s 3)) rfl
 rw[show(kC (bT s 0) (bT s 1) (bT s 2) (bT s 3)).length=5 from rfl] at hlen
 unfold da
 generalize hr:bW (kC (bT s 0) (bT s 1) (bT s 2) (bT s 3)) 2=r at hlen hcs ⊢
 unfold kC at hcs
 generalize bT s 0=a at*
 generalize bT s 1=b at*
 generalize bT s 2=c at*
 generalize bT s 3=d at*
 refine aB (by kernel_rfl) (fn:=Tryz.f74) (by kernel_rfl) Tryz.func74 rfl (by show 1≤64;decide) (by simp[aa,V.low]) (by simp[iM,aa,V.low]) (ae ?_)
 simp only[go_sem,seval,Tryz.ntmps74,h]
 refine aY 5 ?_
 simp only[go_sem,seval,h',hct]
 refine ak (k0) ?_
 simp only[go_sem,seval,h',hct]
 refine ak (k1) ?_
 simp only[go_sem,seval,h',hct]
 refine ak (k2) ?_
 simp only[go_sem,seval,h',hct]
 refine ak (k3) ?_
 simp only[go_sem,seval]
 refine ak (hcs) ?_
 simp only[go_sem,seval,hlen,bi,List.take_of_length_le]
 done
theorem zD (n:List (BitVec 64))(hn:sm n):ao Tryz.prog 80 [.agg (n.map .u64)] (.str (aE (aA n%Pq) 32)):=by
 obtain⟨hv,hl,hx⟩:=IH n hn
 rw[←hv,←IJ _ hl hx]
 have h1:=nt n hn.1
 have l1:=ja n 2
 have h2:=nt (bW n 2) (by rw[l1,hn.1])
 have l2:=ja (bW n 2) 2
 rw[l1,hn.1] at l2
 rw[hn.1] at l1
 clear hv hl hx
 generalize bW (bW n 2) 2=r at h2 l2 ⊢
 generalize bW n 2=m at h1 h2 l1
 obtain⟨a,b,c,d,e,rfl⟩:=five r l2
 generalize hw0:((kR (kz [a,b,c,d,e])).getD 0 0)=w0
 generalize hw1:((kR (kz [a,b,c,d,e])).getD 1 0)=w1
 generalize hw2:((kR (kz [a,b,c,d,e])).getD 2 0)=w2
 generalize hw3:((kR (kz [a,b,c,d,e])).getD 3 0)=w3
 have a0:=ue w0
 have a1:=k8 (aE w0.toNat 8) w1 (by rw[br];omega)
 have a2:=k8 (aE w0.toNat 8++aE w1.toNat 8) w2 (by rw[List.length_append,br,br];omega)
 have a3:=k8 (aE w0.toNat 8++aE w1.toNat 8++aE w2.toNat 8) w3 (by rw[List.length_append,List.length_append,br,br,br];omega)
 rw[br] at a1
 rw[List.length_append,br,br] at a2
 rw[List.length_append,List.length_append,br,br,br] at a3
 have hm5:min 5 5=5:=rfl
 refine aB (by kernel_rfl) (fn:=Tryz.f80) (by kernel_rfl) Tryz.func80 rfl (by show 1≤90;decide) (by simp[iM,aa,V.low]) (by simp[V.low]) (ae ?_)
 simp only[go_sem,seval,Tryz.ntmps80,hn.1,List.take_of_length_le]
 refine ak (h1) ?_
 simp only[go_sem,seval]
 refine ak (h2) ?_
 simp only[go_sem,seval,hn.1,bi]
 refine aY 5 ?_
 simp only[go_sem,seval]
 generalize hc:((e+(d+(c+(b+(a+19#64)>>>51)>>>51)>>>51)>>>51)>>>51)=car
 refine aY 6 ?_
 simp only[go_sem,seval]
 simp only[kz,cn,kR,List.set_cons_zero,List.getD_cons_zero,List.getD_cons_succ,hc] at hw0 hw1 hw2 hw3
 simp only[hw0,hw1,hw2,hw3]
 refine aY 5 ?_
 simp only[go_sem,seval]
 refine aq [] (a0) (by kernel_rfl) (by simp) rfl (by simp) (by first|decide|simp) (by simp) (by simp) (by simp) (by simp) (by simp) ?_
 simp only[go_sem,seval]
 refine aq [1] (a1) (by kernel_rfl) (by simp) rfl (by simp) (by first|decide|simp) (by simp) (by simp) (by simp) (by simp) (by simp) ?_
 simp only[go_sem,seval]
 refine aq [2] (a2) (by kernel_rfl) (by simp) rfl (by simp) (by first|decide|simp) (by simp) (by simp) (by simp) (by simp) (by simp) ?_
 simp only[go_sem,seval]
 refine aq [3] (a3) (by kernel_rfl) (by simp) rfl (by simp) (by first|decide|simp) (by simp) (by simp) (by simp) (by simp) (by simp) ?_
 simp only[go_sem,seval,br,List.length_append]
 rw[List.take_of_length_le (by simp only[List.length_append,br];omega)]
 simp only[List.append_assoc]
def cf:List Wd→List V
 |[]=>[]
 |x::l=> .u64 x.1:: .u64 x.2::cf l
theorem qR (l:List Wd):(cf l).length=2*l.length:=by
 induction l with
 |nil=>rfl
 |cons x l ih=>rw[cf,List.length_cons,List.length_cons,ih,List.length_cons];omega
theorem zE (σ:Nat→Nat)(l:List Wd):rens σ (cf l)=cf l:=by
 induction l with
 |nil=>rfl
 |cons x l ih=>rw[cf,rens,rens,ih];rfl
theorem zF (k:Nat)(l:List Wd):aa k (cf l):=by
 induction l with
 |nil=>trivial
 |cons x l ih=>exact⟨trivial,trivial,ih⟩
theorem wg (l:List Wd):∀ i,i<l.length→((cf l).drop (2*i)).take 2=[.u64 (l.getD i wz).1,.u64 (l.getD i wz).2]:=by
 induction l with
 |nil=>intro i h;simp at h
 |cons x l ih=>
  intro i h
  cases i with
  |zero=>rfl
  |succ i=>
   rw[cf,show 2*(i+1)=2*i+1+1 by omega,List.drop_succ_cons,List.drop_succ_cons,ih i (by simpa using h),List.getD_cons_succ]
theorem AG (l:List Wd)(y:Wd):∀ i,i<l.length→(cf l).take (2*i)++[.u64 y.1,.u64 y.2]++(cf l).drop (2*i+2)=cf (l.set i y):=by
 induction l with
 |nil=>intro i h;simp at h
 |cons x l ih=>
  intro i h
  cases i with
  |zero=>rfl
  |succ i=>
   have :=ih i (by simpa using h)
   rw[List.set_cons_succ,cf,cf,←this,show 2*(i+1)=2*i+1+1 by omega,List.take_succ_cons,List.take_succ_cons,show 2*i+1+1+2=(2*i+2)+1+1 by omega,List.drop_succ_cons,List.drop_succ_cons]
   rfl
def jB (w:List Wd)(i:Nat):List (BitVec 64):=(bz 0#64 (w.take i)).1++List.replicate (5-i) 0#64
theorem G6 (w:List Wd)(i:Nat)(h:i≤w.length)(h5:w.length=5):(jB w i).length=5:=by
 unfold jB;rw[List.length_append,pt,List.length_take,List.length_replicate];omega
theorem NV (w:List Wd)(i:Nat)(h:i<w.length)(h5:w.length=5):(jB w i).set i (((w.getD i wz).2+(bz 0#64 (w.take i)).2+0#64)&&&2251799813685247#64)=jB w (i+1)∧kS (bz 0#64 (w.take i)).2 (w.getD i wz)=(bz 0#64 (w.take (i+1))).2:=by
 have ht:w.take (i+1)=w.take i++[w.getD i wz]:=by
  rw[List.take_succ_eq_append_getElem h,List.getD_eq_getElem?_getD,List.getElem?_eq_getElem h];rfl
 have hl:(bz 0#64 (w.take i)).1.length=i:=by rw[pt,List.length_take];omega
 unfold jB
 rw[ht,Kv]
 refine⟨?_,rfl⟩
 rw[List.set_append_right _ _ (by omega),hl,Nat.sub_self,show 5-i=(5-(i+1))+1 by omega,List.replicate_succ,List.set_cons_zero]
 simp
theorem dw (a b:List (BitVec 64))(ha:a.length=5)(hb:b.length=5):ao Tryz.prog 78 [.agg (a.map .u64),.agg (b.map .u64)] (.agg ((ba a b).map .u64)):=by
 have hm:min 5 5=5:=rfl
 have h25:(2:Nat)*5=10:=rfl
 have hwl:∀ i,(cf (de a b i)).length=10:=fun i=>by rw[qR,nC]
 refine aB (by kernel_rfl) (fn:=Tryz.f78) (by kernel_rfl) Tryz.func78 rfl (by show 2≤89;decide) (by simp[iM,aa,V.low]) (by simp[iM,V.low]) (ae ?_)
 simp only[go_sem,↓reduceIte,Nat.reduceEqDiff,Nat.reduceLT,Nat.reduceAdd,Tryz.ntmps78,ha,List.take_of_length_le]
 refine bf (fun ji st=>∃ i:Nat,i+ji=5∧st=⟨[(2,.ptr 0 0),(3,.ptr 1 0),(4,.ptr 2 0),(5,.ptr 3 0),(18,.agg (a.map .u64)),(19,.i64 i)],[bK (a.map .u64),bK (b.map .u64),bK [.u64 0#64,.u64 0#64,.u64 0#64,.u64 0#64,.u64 0#64],bK (cf (de a b i))]⟩) ?_ ?_
 ·exact bP (5) ⟨[(2,.ptr 0 0),(3,.ptr 1 0),(4,.ptr 2 0),(5,.ptr 3 0),(18,.agg (a.map .u64)),(19,.i64 (0:Nat))],[bK (a.map .u64),bK (b.map .u64),bK [.u64 0#64,.u64 0#64,.u64 0#64,.u64 0#64,.u64 0#64],bK (cf (de a b (0:Nat)))]⟩ (by simp[St.get,af,-List.map_set,-List.map_map]) rfl (fun _ _ h=>h) ⟨0,by omega,rfl⟩
 rintro ji st ⟨i,hi,rfl⟩ _
 simp only[go_sem,↓reduceIte,Nat.reduceEqDiff,Nat.reduceLT,Nat.reduceAdd,Int.reduceLT,BitVec.reduceOfInt]
 by_cases h0:i<5
 ·have h0':(i:Int)<5:=by omega
  have hml:=nC a b i
  have hia:i<a.length:=by omega
  have hi1:ci a b (de a b i) i 5=de a b (i+1):=rfl
  simp only[go_sem,↓reduceIte,h0',h0,ha,hb,dQ hia,List.take_of_length_le]
  generalize de a b i=w at hml hi1 ⊢
  refine⟨by omega,?_⟩
  refine bf (fun jk st=>∃ k:Nat,k+jk=5∧st=⟨[(2,.ptr 0 0),(3,.ptr 1 0),(4,.ptr 2 0),(5,.ptr 3 0),(6,.i64 i),(7,.u64 (a.getD i 0)),(18,.agg (a.map .u64)),(19,.i64 i),(23,.agg (b.map .u64)),(24,.i64 k)],[bK (a.map .u64),bK (b.map .u64),bK [.u64 0#64,.u64 0#64,.u64 0#64,.u64 0#64,.u64 0#64],bK (cf (ci a b w i k))]⟩) ?_ ?_
  ·exact bP (5) ⟨[(2,.ptr 0 0),(3,.ptr 1 0),(4,.ptr 2 0),(5,.ptr 3 0),(6,.i64 i),(7,.u64 (a.getD i 0)),(18,.agg (a.map .u64)),(19,.i64 i),(23,.agg (b.map .u64)),(24,.i64 (0:Nat))],[bK (a.map .u64),bK (b.map .u64),bK [.u64 0#64,.u64 0#64,.u64 0#64,.u64 0#64,.u64 0#64],bK (cf (ci a b w i (0:Nat)))]⟩ (by simp[St.get,af,-List.map_set,-List.map_map]) rfl (fun _ _ h=>h) ⟨0,by omega,rfl⟩
  rintro jk st ⟨k,hk,rfl⟩ _
  simp only[go_sem,↓reduceIte,Nat.reduceEqDiff,Nat.reduceLT,Int.reduceLE,Int.reduceLT,BitVec.reduceOfInt]
  have hrl:=uO a b w i k
  rw[hml] at hrl
  by_cases hk0:k<5
  ·have hk0':(k:Int)<5:=by omega
   have hkb:k<b.length:=by omega
   have e1:aj ((i:Int)+(k:Int))=((i+k:Nat):Int):=by rw[am (by omega) (by omega)];omega
   by_cases hs5:i+k<5
   ·have g1:¬ (5:Int)≤((i+k:Nat):Int):=by omega
    have g3:((i+k:Nat):Int)<5:=by omega
    have fl:=wg (ci a b w i k) (i+k) (by omega)
    have fs:=AG (ci a b w i k) (iy ((ci a b w i k).getD (i+k) wz) (a.getD i 0) (b.getD k 0)) (i+k) (by omega)
    have hat:(ci a b w i k).set (i+k) (iy ((ci a b w i k).getD (i+k) wz) (a.getD i 0) (b.getD k 0))=ci a b w i (k+1):=by rw[ci];unfold mW;rw[if_pos hs5]
    rw[hat] at fs
    have hws:=zC ((ci a b w i k).getD (i+k) wz) (a.getD i 0) (b.getD k 0)
    have hfl:(cf (ci a b w i k)).length=10:=by rw[qR,hrl]
    have hc2:(i+k)*2=2*(i+k):=by omega
    simp only[go_sem,↓reduceIte,Nat.reduceLeDiff,hk0',hk0,hb,dQ hkb,e1,g1,g3,hc2,fl,hfl]
    refine⟨by omega,by omega,by omega,?_⟩
    refine ak (hws) ?_
    simp only[go_sem,↓reduceIte,Nat.reduceEqDiff,Nat.reduceLT,Nat.reduceLeDiff,Nat.reduceAdd,g3,hc2,hfl]
    refine⟨by omega,by omega,?_⟩
    rw[fs]
    refine bL (jk-1) ⟨[(2,.ptr 0 0),(3,.ptr 1 0),(4,.ptr 2 0),(5,.ptr 3 0),(6,.i64 i),(7,.u64 (a.getD i 0)),(18,.agg (a.map .u64)),(19,.i64 i),(23,.agg (b.map .u64)),(24,.i64 (k+1:Nat))],[bK (a.map .u64),bK (b.map .u64),bK [.u64 0#64,.u64 0#64,.u64 0#64,.u64 0#64,.u64 0#64],bK (cf (ci a b w i (k+1:Nat)))]⟩ (by omega) ?_ rfl (fun _ _ h=>h) ⟨k+1,by omega,rfl⟩
    have hw1:aj ((k:Int)+1)=((k+1:Nat):Int):=by rw[am (by omega) (by omega)];omega
    simp[St.get,af,hw1,-List.map_set,-List.map_map]
   ·have g1:(5:Int)≤((i+k:Nat):Int):=by omega
    have e2:aj (((i+k:Nat):Int)-5)=((i+k-5:Nat):Int):=by rw[am (by omega) (by omega)];omega
    have g3:((i+k-5:Nat):Int)<5:=by omega
    have g4:i+k-5<5:=by omega
    have fl:=wg (ci a b w i k) (i+k-5) (by omega)
    have fs:=AG (ci a b w i k) (iy ((ci a b w i k).getD (i+k-5) wz) (a.getD i 0) (19#64*b.getD k 0)) (i+k-5) (by omega)
    have hat:(ci a b w i k).set (i+k-5) (iy ((ci a b w i k).getD (i+k-5) wz) (a.getD i 0) (19#64*b.getD k 0))=ci a b w i (k+1):=by rw[ci];unfold mW;rw[if_neg hs5]
    rw[hat] at fs
    have hws:=zC ((ci a b w i k).getD (i+k-5) wz) (a.getD i 0) (19#64*b.getD k 0)
    have hfl:(cf (ci a b w i k)).length=10:=by rw[qR,hrl]
    have hc2:(i+k-5)*2=2*(i+k-5):=by omega
    simp only[go_sem,↓reduceIte,Nat.reduceEqDiff,Nat.reduceLT,Nat.reduceLeDiff,hk0',hk0,hb,dQ hkb,e1,e2,g1,g3,hc2,fl,hfl]
    refine⟨by omega,by omega,by omega,?_⟩
    refine ak (hws) ?_
    simp only[go_sem,↓reduceIte,Nat.reduceEqDiff,Nat.reduceLT,Nat.reduceLeDiff,Nat.reduceAdd,g3,hc2,hfl]
    refine⟨by omega,by omega,?_⟩
    rw[fs]
    refine bL (jk-1) ⟨[(2,.ptr 0 0),(3,.ptr 1 0),(4,.ptr 2 0),(5,.ptr 3 0),(6,.i64 i),(7,.u64 (a.getD i 0)),(18,.agg (a.map .u64)),(19,.i64 i),(23,.agg (b.map .u64)),(24,.i64 (k+1:Nat))],[bK (a.map .u64),bK (b.map .u64),bK [.u64 0#64,.u64 0#64,.u64 0#64,.u64 0#64,.u64 0#64],bK (cf (ci a b w i (k+1:Nat)))]⟩ (by omega) ?_ rfl (fun _ _ h=>h) ⟨k+1,by omega,rfl⟩
    have hw1:aj ((k:Int)+1)=((k+1:Nat):Int):=by rw[am (by omega) (by omega)];omega
    simp[St.get,af,hw1,-List.map_set,-List.map_map]
  ·obtain rfl:k=5:=by omega
   have hk0':¬ ((5:Nat):Int)<5:=by omega
   simp only[go_sem,↓reduceIte,Int.reduceLT,hi1]
   refine bL (ji-1) ⟨[(2,.ptr 0 0),(3,.ptr 1 0),(4,.ptr 2 0),(5,.ptr 3 0),(18,.agg (a.map .u64)),(19,.i64 (i+1:Nat))],[bK (a.map .u64),bK (b.map .u64),bK [.u64 0#64,.u64 0#64,.u64 0#64,.u64 0#64,.u64 0#64],bK (cf (de a b (i+1:Nat)))]⟩ (by omega) ?_ rfl (fun _ _ h=>h) ⟨i+1,by omega,rfl⟩
   have hw1:aj ((i:Int)+1)=((i+1:Nat):Int):=by rw[am (by omega) (by omega)];omega
   simp[St.get,af,hw1,-List.map_set,-List.map_map]
 ·obtain rfl:i=5:=by omega
  have h0':¬ ((5:Nat):Int)<5:=by omega
  have hml:=nC a b 5
  unfold ba
  simp only[go_sem,↓reduceIte,Int.reduceLT,hwl]
  generalize de a b 5=w at hml ⊢
  have hfl:(cf w).length=10:=by rw[qR,hml]
  have h2m:min 10 10=10:=rfl
  simp only[go_sem,hfl,List.take_of_length_le]
  refine bf (fun jq st=>∃ q:Nat,q+jq=5∧st=⟨[(4,.ptr 2 0),(11,.ptr 4 0),(12,.u64 (bz 0#64 (w.take q)).2),(47,.agg (cf w)),(48,.i64 q)],[bK (a.map .u64),bK (b.map .u64),bK [.u64 0#64,.u64 0#64,.u64 0#64,.u64 0#64,.u64 0#64],bK (cf w),bK ((jB w q).map .u64)]⟩) ?_ ?_
  ·exact bP (5) ⟨[(4,.ptr 2 0),(11,.ptr 4 0),(12,.u64 (bz 0#64 (w.take (0:Nat))).2),(47,.agg (cf w)),(48,.i64 (0:Nat))],[bK (a.map .u64),bK (b.map .u64),bK [.u64 0#64,.u64 0#64,.u64 0#64,.u64 0#64,.u64 0#64],bK (cf w),bK ((jB w (0:Nat)).map .u64)]⟩ (by simp[St.get,af,-List.map_set,-List.map_map,bz]) rfl (fun _ _ h=>h) ⟨0,by omega,rfl⟩
  rintro jq st ⟨q,hq,rfl⟩ _
  simp only[go_sem,↓reduceIte,Nat.reduceEqDiff,Nat.reduceLT,Nat.reduceAdd,Int.reduceLE,Int.reduceLT,Int.reduceToNat,BitVec.reduceOfInt,reduceCtorEq]
  have hpl:=G6 w q (by omega) hml
  by_cases hq0:q<5
  ·have hq0':(q:Int)<5:=by omega
   have fl:=wg w q (by omega)
   obtain⟨o1,o2⟩:=NV w q (by omega) hml
   have hc2:q*2=2*q:=by omega
   have hql:q<(jB w q).length:=by omega
   have hcy:=gQ (w.getD q wz).2 (bz 0#64 (w.take q)).2 0#64 (by decide)
   have had:=vM (w.getD q wz).2 (bz 0#64 (w.take q)).2 0#64 (by decide)
   have oc:((w.getD q wz).1+bn (w.getD q wz).2 (bz 0#64 (w.take q)).2 0#64)<<<13|||((w.getD q wz).2+(bz 0#64 (w.take q)).2+0#64)>>>51=(bz 0#64 (w.take (q+1))).2:=o2
   have hdl:((cf w).drop (2*q)).take 2=[.u64 (w.getD q wz).1,.u64 (w.getD q wz).2]:=fl
   have hm2:min 2 (10-2*q)=2:=by omega
   have hd2:((cf w).drop (2*q)).length=10-2*q:=by rw[List.length_drop,hfl]
   simp only[go_sem,↓reduceIte,Nat.reduceEqDiff,Nat.reduceLT,Nat.reduceAdd,Int.reduceLT,BitVec.reduceOfInt,hq0',hc2,fl,hfl,hm2]
   refine⟨by omega,?_⟩
   refine pB (had) ?_
   simp only[go_sem,↓reduceIte,Nat.reduceEqDiff,Nat.reduceLT,Nat.reduceLeDiff,Nat.reduceAdd,Int.reduceLE,Int.reduceLT,BitVec.reduceOfInt,BitVec.reduceToNat,oc,o1,hpl]
   refine⟨by omega,by omega,?_⟩
   have hw1:aj ((q:Int)+1)=((q+1:Nat):Int):=by rw[am (by omega) (by omega)];omega
   refine dP (jq-1) ⟨[(4,.ptr 2 0),(11,.ptr 4 0),(12,.u64 (bz 0#64 (w.take (q+1:Nat))).2),(47,.agg (cf w)),(48,.i64 (q+1:Nat))],[bK (a.map .u64),bK (b.map .u64),bK [.u64 0#64,.u64 0#64,.u64 0#64,.u64 0#64,.u64 0#64],bK (cf w),bK ((jB w (q+1:Nat)).map .u64)]⟩ [0,1,2,3,4] (by omega) rfl (by simp) rfl (by decide) (by simp[cz,St.get,af,hw1,-List.map_map,-List.map_set,zE,zF]) (by simp[zE,zF]) ⟨q+1,by omega,rfl⟩
  ·obtain rfl:q=5:=by omega
   have hq0':¬ ((5:Nat):Int)<5:=by omega
   have hpe:jB w 5=(bz 0#64 w).1:=by unfold jB;rw[List.take_of_length_le (by omega)];simp
   have hte:w.take 5=w:=List.take_of_length_le (by omega)
   have hol:=pt w 0#64
   rw[hml] at hol
   have hcs:=nt (jQ (bz 0#64 w).1 (bz 0#64 w).2) (by unfold jQ;rw[List.length_set,List.length_set,hol])
   have hcl:=ja (jQ (bz 0#64 w).1 (bz 0#64 w).2) 2
   rw[show(jQ (bz 0#64 w).1 (bz 0#64 w).2).length=5 by unfold jQ;rw[List.length_set,List.length_set,hol]] at hcl
   generalize bW (jQ (bz 0#64 w).1 (bz 0#64 w).2) 2=res at hcs hcl ⊢
   unfold jQ at hcs
   generalize (bz 0#64 w).1=r at*
   obtain⟨r0,r1,r2,r3,r4,rfl⟩:=five r hol
   have hcs':ao Tryz.prog 111 [.agg [.u64 (r0+19#64*((bz 0#64 w).2&&&2251799813685247#64)),.u64 (r1+19#64*((bz 0#64 w).2>>>51)),.u64 r2,.u64 r3,.u64 r4]] (.agg (res.map .u64)):=hcs
   simp only[go_sem,↓reduceIte,Nat.reduceEqDiff,Nat.reduceLT,Nat.reduceLeDiff,Nat.reduceAdd,Int.reduceLE,Int.reduceLT,Int.reduceToNat,BitVec.reduceOfInt,BitVec.reduceToNat,hpe,hte]
   refine ak (hcs') ?_
   simp only[go_sem,↓reduceIte,Nat.reduceEqDiff,Nat.reduceAdd,hcl,bi,List.take_of_length_le]
   done
def bp (r:List (BitVec 64))(m:List Int):Prop:=sm r∧bg m∧((aA r:Nat):Int)%bV=au m%bV
theorem wI (n:Nat):((n%Pq:Nat):Int)=(n:Int)%bV:=by unfold Pq bV;omega
theorem kf {a b:Nat}(h:a%Pq=b%Pq):(a:Int)%bV=(b:Int)%bV:=by rw[←wI,←wI,h]
theorem Kx (s:List (BitVec 8))(h:s.length=32):bp (da s) (eC s 16):=by
 obtain⟨h1,h2⟩:=AF s h
 obtain⟨h3,h4⟩:=BI s h
 exact⟨h1,h3,by rw[h4];exact kf h2⟩
theorem AH {r s:List (BitVec 64)}{m n:List Int}(h:bp r m)(k:bp s n):bp (eI r s) (fm m n 1):=by
 obtain⟨h1,h2⟩:=mF r s h.1 k.1
 obtain⟨h3,h4⟩:=kj m n 1 h.2.1 k.2.1 (by decide)
 refine⟨h1,h3,?_⟩
 rw[h4,kf h2,Int.natCast_add,Int.add_emod,h.2.2,k.2.2,←Int.add_emod,Int.one_mul]
theorem u7 {r s:List (BitVec 64)}{m n:List Int}(h:bp r m)(k:bp s n):bp (eG r s) (fm m n (-1)):=by
 obtain⟨h1,h2⟩:=nK r s h.1 k.1
 obtain⟨h3,h4⟩:=kj m n (-1) h.2.1 k.2.1 (by decide)
 refine⟨h1,h3,?_⟩
 have e:au m+-1*au n=au m-au n:=by omega
 rw[h4,h2,e]
 have h5:=h.2.2
 have k5:=k.2.2
 generalize bV=p at*
 rw[Int.sub_emod,h5,k5,←Int.sub_emod]
theorem ij {r s:List (BitVec 64)}{m n:List Int}(h:bp r m)(k:bp s n):bp (ba r s) (cQ m n):=by
 obtain⟨h1,h2⟩:=dJ r s h.1 k.1
 obtain⟨h3,h4⟩:=jJ m n h.2.1 k.2.1
 refine⟨h1,h3,?_⟩
 rw[h4,kf h2,Int.natCast_mul,Int.mul_emod,h.2.2,k.2.2,←Int.mul_emod]
def sK (m:List Int):List (BitVec 8):=aE (au m%bV).toNat 32
theorem AI {r:List (BitVec 64)}{m:List Int}(h:bp r m):aE (aA r%Pq) 32=sK m:=by
 unfold sK
 rw[←h.2.2,←wI];rfl
def eY:List (BitVec 64)→Nat
 |[]=>0
 |x::l=>x.toNat+18446744073709551616*eY l
theorem IO (l:List (BitVec 64)):∀ j,(l.getD j 0).toNat=eY l/18446744073709551616^j%18446744073709551616:=by
 induction l with
 |nil=>intro j;simp[eY]
 |cons b l ih=>
  intro j
  have hb:=b.isLt
  cases j with
  |zero=>simp only[List.getD_cons_zero,eY,Nat.pow_zero,Nat.div_one];omega
  |succ j=>
   rw[List.getD_cons_succ,ih,eY,Nat.pow_succ,Nat.mul_comm (18446744073709551616^j),←Nat.div_div_eq_div_mul,show(b.toNat+18446744073709551616*eY l)/18446744073709551616=eY l by omega]
def jV (ws:List (BitVec 64))(j:Nat):Prop:=(ws.getD (j/64) 0)>>>(j%64)&&&1#64=1#64
instance (ws:List (BitVec 64)) (j:Nat):Decidable (jV ws j):=by unfold jV;infer_instance
theorem NW (ws:List (BitVec 64))(j:Nat):jV ws j↔eY ws/2^j%2=1:=by
 have hd:=IO ws (j/64)
 have hp:(2:Nat)^j=18446744073709551616^(j/64)*2^(j%64):=by
  rw[show(18446744073709551616:Nat)=2^64 from rfl,←Nat.pow_mul,←Nat.pow_add];congr 1;omega
 have hq:(18446744073709551616:Nat)=2^(j%64)*(2*2^(63-j%64)):=by
  rw[←Nat.pow_succ',←Nat.pow_add,show j%64+(63-j%64).succ=64 by omega]
 unfold jV
 rw[←BitVec.toNat_inj,BitVec.toNat_and,show(1#64).toNat=2^1-1 from rfl,Nat.and_two_pow_sub_one_eq_mod,BitVec.toNat_ushiftRight,Nat.shiftRight_eq_div_pow,hd,hp,←Nat.div_div_eq_div_mul]
 generalize eY ws/18446744073709551616^(j/64)=X
 have :X%18446744073709551616/2^(j%64)%2=X/2^(j%64)%2:=by
  rw[hq,Nat.mod_mul_right_div_self,Nat.mod_mul_right_mod]
 show X%18446744073709551616/2^(j%64)%2^1=1↔_
 rw[show(2:Nat)^1=2 from rfl,this]
def oneE:List (BitVec 64):=[1#64,0#64,0#64,0#64,0#64]
theorem sL:sm oneE:=⟨rfl,fun x hx=>by
 simp only[oneE,List.mem_cons,List.not_mem_nil,or_false,or_self] at hx
 rcases hx with rfl|rfl
 ·exact Nat.lt_of_le_of_lt (Nat.le_refl 1) (by omega)
 ·exact Nat.lt_of_le_of_lt (Nat.le_refl 0) (by omega)⟩
def bM (x ws:List (BitVec 64)):Nat→List (BitVec 64)
 |0=>oneE
 |c+1=>if jV ws (64*ws.length-1-c) then ba (ba (bM x ws c) (bM x ws c)) x else ba (bM x ws c) (bM x ws c)
theorem oe (x ws:List (BitVec 64))(hx:sm x)(c:Nat):sm (bM x ws c):=by
 induction c with
 |zero=>exact sL
 |succ c ih=>
  rw[bM]
  split
  ·exact(dJ _ _ (dJ _ _ ih ih).1 hx).1
  ·exact(dJ _ _ ih ih).1
theorem NX (x ws:List (BitVec 64))(hx:sm x):∀ c,c≤64*ws.length→aA (bM x ws c)%Pq=aA x^(eY ws/2^(64*ws.length-c))%Pq:=by
 have hlt:eY ws<2^(64*ws.length):=by
  have :∀ l:List (BitVec 64),eY l<2^(64*l.length):=by
   intro l
   induction l with
   |nil=>exact Nat.one_pos
   |cons y l ih=>
    have :=y.isLt
    rw[List.length_cons,show 64*(l.length+1)=64*l.length+64 by omega,Nat.pow_add]
    show y.toNat+18446744073709551616*eY l<_
    omega
  exact this ws
 intro c
 induction c with
 |zero=>
  intro _
  rw[Nat.sub_zero,Nat.div_eq_of_lt hlt,Nat.pow_zero]
  rfl
 |succ c ih=>
  intro hc
  have ih:=ih (by omega)
  have hs:=oe x ws hx c
  have t1:=dJ _ _ hs hs
  have e0:64*ws.length-c=(64*ws.length-1-c)+1:=by omega
  have e1:64*ws.length-(c+1)=64*ws.length-1-c:=by omega
  rw[e0] at ih
  rw[e1]
  have hb:=NW ws (64*ws.length-1-c)
  have ha:bM x ws (c+1)=if jV ws (64*ws.length-1-c) then ba (ba (bM x ws c) (bM x ws c)) x else ba (bM x ws c) (bM x ws c):=rfl
  rw[ha]
  clear ha
  generalize 64*ws.length-1-c=j at*
  generalize bM x ws c=r at*
  have t2:=dJ (ba r r) x t1.1 hx
  generalize ba r r=r2 at*
  have hdiv:eY ws/2^(j+1)=eY ws/2^j/2:=by rw[Nat.pow_succ,Nat.div_div_eq_div_mul]
  rw[hdiv] at ih
  generalize eY ws/2^j=E at*
  have hsq:aA r2%Pq=aA x^(2*(E/2))%Pq:=by
   rw[t1.2,Nat.mul_mod,ih,←Nat.mul_mod,←Nat.pow_add,Nat.two_mul]
  by_cases hbit:jV ws j
  ·rw[if_pos hbit]
   have h1:=hb.1 hbit
   have he:E=2*(E/2)+1:=by omega
   have hpw:aA x^E=aA x^(2*(E/2))*aA x:=by rw[←Nat.pow_succ];exact congrArg (aA x^·) he
   rw[t2.2,Nat.mul_mod,hsq,←Nat.mul_mod,hpw]
  ·rw[if_neg hbit]
   have h1:¬ E%2=1:=fun e=>hbit (hb.2 e)
   have he:E=2*(E/2):=by omega
   have hpw:aA x^E=aA x^(2*(E/2)):=congrArg (aA x^·) he
   rw[hsq,hpw]
theorem BK:ao Tryz.prog 75 [] (.agg (oneE.map .u64)):=by
 rw[show oneE.map V.u64=[V.u64 1#64,V.u64 0#64,V.u64 0#64,V.u64 0#64,V.u64 0#64] from rfl]
 refine aB (by kernel_rfl) (fn:=Tryz.f75) (by kernel_rfl) Tryz.func75 rfl (by show 0≤2;decide) (by simp[aa]) (by simp[aa,V.low]) (ae ?_)
 simp only[go_sem,seval,Tryz.ntmps75,Tryz.results75]
theorem zG (x ws:List (BitVec 64))(hx:sm x)(hl:ws.length≤100):ag Tryz.prog 79 [.agg (x.map .u64),.slice 0 0 ws.length 1] [bK (ws.map .u64)] (.agg ((bM x ws (64*ws.length)).map .u64)) [bK (ws.map .u64)]:=by
 have hm:min 5 5=5:=rfl
 have hol:(oneE.map V.u64).length=5:=rfl
 have h1l:oneE.length=5:=rfl
 have hal:∀ c,(bM x ws c).length=5:=fun c=>(oe x ws hx c).1
 have ha0:bM x ws 0=oneE:=rfl
 refine ap (by kernel_rfl) (fn:=Tryz.f79) Tryz.func79 rfl (by show 2≤35;decide) (ae ?_)
 simp only[go_sem,↓reduceIte,Nat.reduceLT,Nat.reduceAdd,Tryz.ntmps79]
 refine ak (BK) ?_
 simp only[go_sem,↓reduceIte,Nat.reduceEqDiff,Nat.reduceLT,Nat.reduceAdd,hol,bi]
 generalize hN:ws.length=N at hl ⊢
 have e0:aj ((N:Int)-1)=(N:Int)-1:=am (by omega) (by omega)
 simp only[go_sem,e0]
 have ha0':oneE=bM x ws (64*0):=rfl
 rw[ha0']
 refine bf (fun ju st=>∃ u:Nat,u+ju=N∧st=⟨[(1,.slice 0 0 N 1),(2,.ptr 1 0),(4,.ptr 2 0),(5,.ptr 3 0),(6,.i64 ((N:Int)-1-u))],[bK (ws.map .u64),bK (x.map .u64),bK [.u64 0#64,.u64 0#64,.u64 0#64,.u64 0#64,.u64 0#64],bK ((bM x ws (64*u)).map .u64)]⟩) ?_ ?_
 ·exact bP (N) ⟨[(1,.slice 0 0 N 1),(2,.ptr 1 0),(4,.ptr 2 0),(5,.ptr 3 0),(6,.i64 ((N:Int)-1-(0:Nat)))],[bK (ws.map .u64),bK (x.map .u64),bK [.u64 0#64,.u64 0#64,.u64 0#64,.u64 0#64,.u64 0#64],bK ((bM x ws (64*(0:Nat))).map .u64)]⟩ (by simp[St.get,af,-List.map_set,-List.map_map]) rfl (fun _ _ h=>h) ⟨0,by omega,rfl⟩
 rintro ju st ⟨u,hu,rfl⟩ _
 simp only[go_sem,↓reduceIte,Nat.reduceEqDiff,Nat.reduceLT,Nat.reduceAdd]
 by_cases h0:u<N
 ·have h0':(0:Int)≤(N:Int)-1-(u:Int):=by omega
  simp only[go_sem,↓reduceIte,h0']
  have hb0:bM x ws (64*u)=bM x ws (64*u+0):=rfl
  rw[hb0]
  refine bf (fun jq st=>∃ q:Nat,q+jq=64∧st=⟨[(1,.slice 0 0 N 1),(2,.ptr 1 0),(4,.ptr 2 0),(5,.ptr 3 0),(6,.i64 ((N:Int)-1-((u:Nat):Int))),(7,.i64 (63-q))],[bK (ws.map .u64),bK (x.map .u64),bK [.u64 0#64,.u64 0#64,.u64 0#64,.u64 0#64,.u64 0#64],bK ((bM x ws (64*u+q)).map .u64)]⟩) ?_ ?_
  ·exact bP (64) ⟨[(1,.slice 0 0 N 1),(2,.ptr 1 0),(4,.ptr 2 0),(5,.ptr 3 0),(6,.i64 ((N:Int)-1-((u:Nat):Int))),(7,.i64 (63-(0:Nat)))],[bK (ws.map .u64),bK (x.map .u64),bK [.u64 0#64,.u64 0#64,.u64 0#64,.u64 0#64,.u64 0#64],bK ((bM x ws (64*u+(0:Nat))).map .u64)]⟩ (by simp[St.get,af,-List.map_set,-List.map_map]) rfl (fun _ _ h=>h) ⟨0,by omega,rfl⟩
  rintro jq st ⟨q,hq,rfl⟩ _
  simp only[go_sem,↓reduceIte,Nat.reduceEqDiff,Nat.reduceLT]
  by_cases hq0:q<64
  ·have hq0':(0:Int)≤63-(q:Int):=by omega
   have ei:(N:Int)-1-(u:Int)=((N-1-u:Nat):Int):=by omega
   have ek:63-(q:Int)=((63-q:Nat):Int):=by omega
   have hl1:=hal (64*u+q)
   have s1:=oe x ws hx (64*u+q)
   have ht1:=dw (bM x ws (64*u+q)) (bM x ws (64*u+q)) hl1 hl1
   have hsq:=(dJ _ _ s1 s1).1
   have hidx:64*ws.length-1-(64*u+q)=64*(N-1-u)+(63-q):=by rw[hN];omega
   have hst:bM x ws (64*u+(q+1))=if jV ws (64*ws.length-1-(64*u+q)) then ba (ba (bM x ws (64*u+q)) (bM x ws (64*u+q))) x else ba (bM x ws (64*u+q)) (bM x ws (64*u+q)):=rfl
   rw[hidx] at hst
   have hb:jV ws (64*(N-1-u)+(63-q))↔(ws.getD (N-1-u) 0)>>>(63-q)&&&1#64=1#64:=by
    unfold jV
    rw[show(64*(N-1-u)+(63-q))/64=N-1-u by omega,show(64*(N-1-u)+(63-q))%64=63-q by omega]
   have hx2:=dw (ba (bM x ws (64*u+q)) (bM x ws (64*u+q))) x hsq.1 hx.1
   have hl2:=(dJ _ _ hsq hx).1.1
   have hg:((N-1-u:Nat):Int)<(N:Int):=by omega
   have hg2:N-1-u<N:=by omega
   have hg3:N-1-u<ws.length:=by omega
   have hdk:aj (((63-q:Nat):Int)-1)=63-((q+1:Nat):Int):=by rw[am (by omega) (by omega)];omega
   simp only[go_sem,ek,ei,hl1,List.take_of_length_le]
   refine ak (ht1) ?_
   simp only[go_sem,↓reduceIte,Nat.reduceEqDiff,Nat.reduceLT,Int.reduceLE,Int.reduceLT,BitVec.reduceOfInt,hl1,hsq.1,bi,List.take_of_length_le,hg,hg2,hN,dQ hg3,hdk]
   refine⟨by omega,by omega,?_⟩
   by_cases hbit:(ws.getD (N-1-u) 0)>>>(63-q)&&&1#64=1#64
   ·rw[if_pos (hb.2 hbit)] at hst
    rw[←hst] at hx2 hl2
    simp only[go_sem,↓reduceIte,hbit,hx.1,List.take_of_length_le]
    refine ak (hx2) ?_
    simp only[go_sem,↓reduceIte,Nat.reduceEqDiff,Nat.reduceLT,hl2,hsq.1,bi,hdk]
    refine bL (jq-1) ⟨[(1,.slice 0 0 N 1),(2,.ptr 1 0),(4,.ptr 2 0),(5,.ptr 3 0),(6,.i64 ((N-1-u:Nat):Int)),(7,.i64 (63-(((q+1:Nat):Nat):Int)))],[bK (ws.map .u64),bK (x.map .u64),bK [.u64 0#64,.u64 0#64,.u64 0#64,.u64 0#64,.u64 0#64],bK ((bM x ws (64*u+(q+1:Nat))).map .u64)]⟩ (by omega) ?_ rfl (fun _ _ h=>h) ⟨q+1,by omega,rfl⟩
    have hw1:aj ((q:Int)+1)=((q+1:Nat):Int):=by rw[am (by omega) (by omega)];omega
    simp[St.get,af,-List.map_set,-List.map_map]
   ·rw[if_neg (fun e=>hbit (hb.1 e))] at hst
    simp only[go_sem,↓reduceIte,hbit,←hst]
    refine bL (jq-1) ⟨[(1,.slice 0 0 N 1),(2,.ptr 1 0),(4,.ptr 2 0),(5,.ptr 3 0),(6,.i64 ((N-1-u:Nat):Int)),(7,.i64 (63-(((q+1:Nat):Nat):Int)))],[bK (ws.map .u64),bK (x.map .u64),bK [.u64 0#64,.u64 0#64,.u64 0#64,.u64 0#64,.u64 0#64],bK ((bM x ws (64*u+(q+1:Nat))).map .u64)]⟩ (by omega) ?_ rfl (fun _ _ h=>h) ⟨q+1,by omega,rfl⟩
    have hw1:aj ((q:Int)+1)=((q+1:Nat):Int):=by rw[am (by omega) (by omega)];omega
    simp[St.get,af,-List.map_set,-List.map_map]
  ·obtain rfl:q=64:=by omega
   have hq0':¬ (0:Int)≤63-((64:Nat):Int):=by omega
   have hdi:aj ((N:Int)-1-(u:Int)-1)=(N:Int)-1-((u+1:Nat):Int):=by rw[am (by omega) (by omega)];omega
   simp only[go_sem,↓reduceIte,Int.reduceLE,Int.reduceSub,Int.reduceNeg,hdi]
   rw[show 64*u+64=64*(u+1) by omega]
   refine bL (ju-1) ⟨[(1,.slice 0 0 N 1),(2,.ptr 1 0),(4,.ptr 2 0),(5,.ptr 3 0),(6,.i64 ((N:Int)-1-(((u+1:Nat):Nat):Int)))],[bK (ws.map .u64),bK (x.map .u64),bK [.u64 0#64,.u64 0#64,.u64 0#64,.u64 0#64,.u64 0#64],bK ((bM x ws (64*(u+1:Nat))).map .u64)]⟩ (by omega) ?_ rfl (fun _ _ h=>h) ⟨u+1,by omega,rfl⟩
   have hw1:aj ((u:Int)+1)=((u+1:Nat):Int):=by rw[am (by omega) (by omega)];omega
   simp[St.get,af,-List.map_set,-List.map_map]
 ·obtain rfl:u=N:=by omega
  have h0':¬ (0:Int)≤(u:Int)-1-(u:Int):=by omega
  simp only[go_sem,↓reduceIte,Nat.reduceEqDiff,Nat.reduceAdd,h0',hal,hm,bi,List.take_of_length_le]
  exact Fin.ren [0] (by simp) (by simp) (by rfl) (by decide) (by simp) (by simp)
def jW:List Int:=[1,0,0,0,0,0,0,0,0,0,0,0,0,0,0,0]
theorem ok_one:bg jW:=⟨rfl,by decide⟩
def iC (m:List Int)(s:List (BitVec 8)):Nat→List Int
 |0=>jW
 |c+1=>if s.getD c 0=49#8 then cQ (cQ (iC m s c) (iC m s c)) m else cQ (iC m s c) (iC m s c)
theorem wJ (m:List Int)(s:List (BitVec 8))(hm:bg m)(c:Nat):bg (iC m s c):=by
 induction c with
 |zero=>exact ok_one
 |succ c ih=>
  rw[iC]
  split
  ·exact(jJ _ _ (jJ _ _ ih ih).1 hm).1
  ·exact(jJ _ _ ih ih).1
def ma (s:List (BitVec 8)):Nat→Nat
 |0=>0
 |c+1=>if s.getD c 0=49#8 then 2*ma s c+1 else 2*ma s c
theorem BL (m:List Int)(s:List (BitVec 8))(hm:bg m)(c:Nat):au (iC m s c)%bV=au m^ma s c%bV:=by
 induction c with
 |zero=>
  show au jW%bV=au m^0%bV
  rw[Int.pow_zero];decide
 |succ c ih=>
  have hs:=wJ m s hm c
  have t1:=jJ _ _ hs hs
  have t2:=jJ _ _ t1.1 hm
  have hsq:au (cQ (iC m s c) (iC m s c))%bV=au m^(2*ma s c)%bV:=by
   rw[t1.2,Int.mul_emod,ih,←Int.mul_emod,←Int.pow_add,Nat.two_mul]
  rw[iC,ma]
  by_cases h:s.getD c 0=49#8
  ·rw[if_pos h,if_pos h,t2.2,Int.mul_emod,hsq,←Int.mul_emod,Int.pow_succ]
  ·rw[if_neg h,if_neg h,hsq]
theorem NY {a b p:Int}(h:a%p=b%p)(k:Nat):a^k%p=b^k%p:=by
 induction k with
 |zero=>rw[Int.pow_zero,Int.pow_zero]
 |succ k ih=>rw[Int.pow_succ,Int.pow_succ,Int.mul_emod,ih,h,←Int.mul_emod]
theorem zH {x ws:List (BitVec 64)}{m:List Int}{s:List (BitVec 8)}(h:bp x m)(he:eY ws=ma s s.length):bp (bM x ws (64*ws.length)) (iC m s s.length):=by
 refine⟨oe x ws h.1 _,wJ m s h.2.1 _,?_⟩
 have h1:=NX x ws h.1 (64*ws.length) (Nat.le_refl _)
 rw[Nat.sub_self,Nat.pow_zero,Nat.div_one,he] at h1
 have h2:=kf h1
 rw[h2,BL m s h.2.1,Int.natCast_pow]
 exact NY h.2.2 _
def iD (n:BitVec 64):List (BitVec 64):=[n-20#64,n,n,n>>>1]
def bitsP:List (BitVec 8):=List.replicate 250 49#8++[48#8,49#8,48#8,49#8,49#8]
theorem AJ:eY (iD 18446744073709551615#64)=ma bitsP bitsP.length:=by kernel_rfl
def tJ (m:List Int):List Int:=iC m bitsP bitsP.length
def cw (s:List (BitVec 8)):List (BitVec 8):=(s.set 0 (s.getD 0 0&&&248#8)).set 31 ((s.getD 31 0&&&127#8)|||64#8)
theorem zI (s:List (BitVec 8)):ao Tryz.prog 51 [.str s] (.tup (if s.length=32 then[.str (cw s),.i64 0] else[.str [],.i64 1])):=by
 by_cases h:s.length=32
 ·rw[if_pos h]
  refine aB (by kernel_rfl) (fn:=Tryz.f51) (by kernel_rfl) Tryz.func51 rfl (by show 1≤24;decide) (by simp[aa,V.low]) (by simp[aa,V.low]) (ae ?_)
  simp only[go_sem,↓reduceIte,Nat.reduceEqDiff,Nat.reduceLT,Nat.reduceLeDiff,Nat.reduceAdd,Int.reduceLE,Int.reduceLT,Int.reduceToNat,BitVec.reduceOfInt,reduceCtorEq,Tryz.ntmps51,Tryz.results51,h,fd]
  rw[List.take_of_length_le (by simp[h])]
  have e:(s.set 0 (s.getD 0 0&&&248#8)).getD 31 0=s.getD 31 0:=by simp[List.getD_eq_getElem?_getD]
  rw[e];rfl
 ·rw[if_neg h]
  have h':¬ (s.length:Int)=32:=by omega
  refine aB (by kernel_rfl) (fn:=Tryz.f51) (by kernel_rfl) Tryz.func51 rfl (by show 1≤24;decide) (by simp[aa,V.low]) (by simp[aa,V.low]) (ae ?_)
  simp only[go_sem,↓reduceIte,Nat.reduceLT,reduceCtorEq,Tryz.ntmps51,Tryz.results51,h']
abbrev Pt:=List Int×List Int
def cN (p:Pt):Prop:=bg p.1∧bg p.2
theorem og {a b:List Int}{t:Int}(ha:bg a)(hb:bg b)(ht:-1≤t∧t≤200000):bg (fm a b t):=(kj a b t ha hb ht).1
theorem kq {a b:List Int}(ha:bg a)(hb:bg b):bg (cQ a b):=(jJ a b ha hb).1
def pS (p:Pt):List Int:=fm p.1 p.2 1
def pD (p:Pt):List Int:=fm p.1 p.2 (-1)
def dA (p:Pt):List Int:=cQ (pS p) (pS p)
def dB (p:Pt):List Int:=cQ (pD p) (pD p)
def dE (p:Pt):List Int:=fm (dA p) (dB p) (-1)
def dF (p:Pt):List Int:=fm (dA p) (dE p) 121665
def kV (p:Pt):Pt:=(cQ (dA p) (dB p),cQ (dE p) (dF p))
def oW (p q:Pt):List Int:=cQ (pD p) (pS q)
def oX (p q:Pt):List Int:=cQ (pS p) (pD q)
def aC (p q:Pt):List Int:=fm (oW p q) (oX p q) 1
def aD (p q:Pt):List Int:=fm (oW p q) (oX p q) (-1)
def nq (p q:Pt):List Int:=cQ (aD p q) (aD p q)
def jy (p q:Pt)(x:List Int):Pt:=(cQ (aC p q) (aC p q),cQ x (nq p q))
theorem mf {p:Pt}(h:cN p):bg (pS p):=og h.1 h.2 (by decide)
theorem mg {p:Pt}(h:cN p):bg (pD p):=og h.1 h.2 (by decide)
theorem oY {p:Pt}(h:cN p):bg (dA p):=kq (mf h) (mf h)
theorem tK {p:Pt}(h:cN p):bg (dB p):=kq (mg h) (mg h)
theorem tM {p:Pt}(h:cN p):bg (dE p):=og (oY h) (tK h) (by decide)
theorem DW {p:Pt}(h:cN p):bg (dF p):=og (oY h) (tM h) (by decide)
theorem C7 {p:Pt}(h:cN p):cN (kV p):=by
 dsimp only[cN,kV]
 exact⟨kq (oY h) (tK h),kq (tM h) (DW h)⟩
theorem sf {p q:Pt}(hp:cN p)(hq:cN q):bg (oW p q):=kq (mg hp) (mf hq)
theorem sh {p q:Pt}(hp:cN p)(hq:cN q):bg (oX p q):=kq (mf hp) (mg hq)
theorem th {p q:Pt}(hp:cN p)(hq:cN q):bg (aC p q):=og (sf hp hq) (sh hp hq) (by decide)
theorem tj {p q:Pt}(hp:cN p)(hq:cN q):bg (aD p q):=og (sf hp hq) (sh hp hq) (by decide)
theorem C8 {p q:Pt}(hp:cN p)(hq:cN q):bg (nq p q):=kq (tj hp hq) (tj hp hq)
theorem C9 {p q:Pt}{x:List Int}(hp:cN p)(hq:cN q)(hx:bg x):cN (jy p q x):=by
 dsimp only[cN,jy]
 exact⟨kq (th hp hq) (th hp hq),kq hx (C8 hp hq)⟩
def dT (x:List Int)(bits:List (BitVec 8)):Nat→Pt×Pt
 |0=>((jW,List.replicate 16 0),(x,jW))
 |c+1=>if bits.getD c 0=48#8 then(kV (dT x bits c).1,jy (dT x bits c).1 (dT x bits c).2 x) else(jy (dT x bits c).1 (dT x bits c).2 x,kV (dT x bits c).2)
theorem Cx:bg (List.replicate 16 0):=⟨rfl,by decide⟩
theorem BM (x:List Int)(bits:List (BitVec 8))(hx:bg x)(c:Nat):cN (dT x bits c).1∧cN (dT x bits c).2:=by
 induction c with
 |zero=>exact⟨⟨ok_one,Cx⟩,⟨hx,ok_one⟩⟩
 |succ c ih=>
  rw[dT]
  split
  ·exact⟨C7 ih.1,C9 ih.1 ih.2 hx⟩
  ·exact⟨C9 ih.1 ih.2 hx,C7 ih.2⟩
section
theorem xM {r s:List (BitVec 64)}{m n:List Int}(h:bp r m)(k:bp s n):bp (ba r s) (cQ n m):=by
 obtain⟨h1,h2⟩:=dJ r s h.1 k.1
 obtain⟨h3,h4⟩:=jJ n m k.2.1 h.2.1
 refine⟨h1,h3,?_⟩
 rw[h4,kf h2,Int.natCast_mul,Int.mul_comm,Int.mul_emod,h.2.2,k.2.2,←Int.mul_emod]
theorem EQ {r s:List (BitVec 64)}{m n:List Int}(h:bp r m)(k:bp s n):bp (eI r s) (fm n m 1):=by
 obtain⟨h1,h2⟩:=mF r s h.1 k.1
 obtain⟨h3,h4⟩:=kj n m 1 k.2.1 h.2.1 (by decide)
 refine⟨h1,h3,?_⟩
 rw[h4,kf h2,Int.natCast_add,Int.add_comm,Int.add_emod,h.2.2,k.2.2,←Int.add_emod,Int.one_mul]
def xF (r:List (BitVec 64))(m:List Int):Prop:=sm r∧bg m∧((aA r:Nat):Int)%bV=(-au m)%bV
theorem Ky {a b p:Int}(h:a%p=b%p):(-a)%p=(-b)%p:=by rw[←Int.zero_sub a,←Int.zero_sub b,Int.sub_emod,h,←Int.sub_emod]
theorem Kz {a b c d p:Int}(h:a%p=b%p)(k:c%p=d%p):(a-c)%p=(b-d)%p:=by rw[Int.sub_emod,h,k,←Int.sub_emod]
theorem KA {r s:List (BitVec 64)}{m n:List Int}(h:bp r m)(k:bp s n):xF (eG r s) (fm n m (-1)):=by
 obtain⟨h1,h2⟩:=nK r s h.1 k.1
 obtain⟨h3,h4⟩:=kj n m (-1) k.2.1 h.2.1 (by decide)
 refine⟨h1,h3,?_⟩
 have e1:=Kz h.2.2 k.2.2
 have e2:=Ky h4
 have e3:-(au n+-1*au m)=au m-au n:=by omega
 rw[e3] at e2
 exact(h2.trans e1).trans e2.symm
theorem IP {r:List (BitVec 64)}{m:List Int}(h:xF r m):bp (ba r r) (cQ m m):=by
 obtain⟨h1,h2⟩:=dJ r r h.1 h.1
 obtain⟨h3,h4⟩:=jJ m m h.2.1 h.2.1
 refine⟨h1,h3,?_⟩
 rw[h4,kf h2,Int.natCast_mul,Int.mul_emod,h.2.2,←Int.mul_emod,Int.neg_mul_neg]
def a24:List (BitVec 64):=[121665#64,0#64,0#64,0#64,0#64]
theorem Da:sm a24:=⟨rfl,fun x hx=>by
 simp only[a24,List.mem_cons,List.not_mem_nil,or_false,or_self] at hx
 rcases hx with rfl|rfl
 ·exact Nat.lt_of_le_of_lt (Nat.le_refl 121665) (by omega)
 ·exact Nat.lt_of_le_of_lt (Nat.le_refl 0) (by omega)⟩
theorem Qx {r s:List (BitVec 64)}{m n:List Int}(h:bp r m)(k:bp s n):bp (eI r (ba a24 s)) (fm m n 121665):=by
 obtain⟨t1,t2⟩:=dJ a24 s Da k.1
 obtain⟨h1,h2⟩:=mF r (ba a24 s) h.1 t1
 obtain⟨h3,h4⟩:=kj m n 121665 h.2.1 k.2.1 (by decide)
 refine⟨h1,h3,?_⟩
 have e:aA a24=121665:=rfl
 rw[e] at t2
 rw[h4,kf h2,Int.natCast_add,Int.add_emod,h.2.2,kf t2,Int.natCast_mul,Int.mul_emod ((121665:Nat):Int),k.2.2,←Int.mul_emod,←Int.add_emod]
 rfl
def kA (x z:List (BitVec 64)):=eI x z
def kB (x z:List (BitVec 64)):=eG x z
def fC (x z:List (BitVec 64)):=ba (kA x z) (kA x z)
def ia (x z:List (BitVec 64)):=ba (kB x z) (kB x z)
def kE (x z:List (BitVec 64)):=eG (fC x z) (ia x z)
def kT (x z:List (BitVec 64)):=ba a24 (kE x z)
def kU (x z:List (BitVec 64)):=eI (fC x z) (kT x z)
def fa (x z:List (BitVec 64)):=ba (fC x z) (ia x z)
def gA (x z:List (BitVec 64)):=ba (kE x z) (kU x z)
def gB (x2 z2 x3 z3:List (BitVec 64)):=ba (kB x3 z3) (kA x2 z2)
def gD (x2 z2 x3 z3:List (BitVec 64)):=ba (kA x3 z3) (kB x2 z2)
def kX (x2 z2 x3 z3:List (BitVec 64)):=eI (gB x2 z2 x3 z3) (gD x2 z2 x3 z3)
def fD (x2 z2 x3 z3:List (BitVec 64)):=ba (kX x2 z2 x3 z3) (kX x2 z2 x3 z3)
def kZ (x2 z2 x3 z3:List (BitVec 64)):=eG (gB x2 z2 x3 z3) (gD x2 z2 x3 z3)
def i7 (x2 z2 x3 z3:List (BitVec 64)):=ba (kZ x2 z2 x3 z3) (kZ x2 z2 x3 z3)
def fE (x x2 z2 x3 z3:List (BitVec 64)):=ba x (i7 x2 z2 x3 z3)
def bI (x z:List (BitVec 64))(p:Pt):Prop:=bp x p.1∧bp z p.2
theorem ot {x z:List (BitVec 64)}{p:Pt}(h:bI x z p):bp (kA x z) (pS p):=AH h.1 h.2
theorem ou {x z:List (BitVec 64)}{p:Pt}(h:bI x z p):bp (kB x z) (pD p):=u7 h.1 h.2
theorem wK {x z:List (BitVec 64)}{p:Pt}(h:bI x z p):bp (fC x z) (dA p):=ij (ot h) (ot h)
theorem Cy {x z:List (BitVec 64)}{p:Pt}(h:bI x z p):bp (ia x z) (dB p):=ij (ou h) (ou h)
theorem Db {x z:List (BitVec 64)}{p:Pt}(h:bI x z p):bp (kE x z) (dE p):=u7 (wK h) (Cy h)
theorem Tb {x z:List (BitVec 64)}{p:Pt}(h:bI x z p):bp (kU x z) (dF p):=Qx (wK h) (Db h)
theorem KB {x z:List (BitVec 64)}{p:Pt}(h:bI x z p):bp (fa x z) (cQ (dA p) (dB p)):=ij (wK h) (Cy h)
theorem KC {x z:List (BitVec 64)}{p:Pt}(h:bI x z p):bp (gA x z) (cQ (dE p) (dF p)):=ij (Db h) (Tb h)
theorem rU {x z:List (BitVec 64)}{p:Pt}(h:bI x z p):bI (fa x z) (gA x z) (kV p):=by
 dsimp only[bI,kV]
 exact⟨KB h,KC h⟩
section
variable {x2 z2 x3 z3 x:List (BitVec 64)}{p q:Pt}{m:List Int}
theorem BN (h:bI x2 z2 p)(k:bI x3 z3 q):bp (gB x2 z2 x3 z3) (oX p q):=xM (ou k) (ot h)
theorem BO (h:bI x2 z2 p)(k:bI x3 z3 q):bp (gD x2 z2 x3 z3) (oW p q):=xM (ot k) (ou h)
theorem BP (h:bI x2 z2 p)(k:bI x3 z3 q):bp (gB x2 z2 x3 z3) (oW q p):=ij (ou k) (ot h)
theorem BR (h:bI x2 z2 p)(k:bI x3 z3 q):bp (gD x2 z2 x3 z3) (oX q p):=ij (ot k) (ou h)
theorem Cz (h:bI x2 z2 p)(k:bI x3 z3 q):bp (kX x2 z2 x3 z3) (aC p q):=EQ (BN h k) (BO h k)
theorem CA (h:bI x2 z2 p)(k:bI x3 z3 q):bp (kX x2 z2 x3 z3) (aC q p):=AH (BP h k) (BR h k)
theorem Tc (h:bI x2 z2 p)(k:bI x3 z3 q):xF (kZ x2 z2 x3 z3) (aD p q):=KA (BN h k) (BO h k)
theorem CB (h:bI x2 z2 p)(k:bI x3 z3 q):bp (kZ x2 z2 x3 z3) (aD q p):=u7 (BP h k) (BR h k)
theorem AL (h:bI x2 z2 p)(k:bI x3 z3 q)(hx:bp x m):bI (fD x2 z2 x3 z3) (fE x x2 z2 x3 z3) (jy p q m):=by
 have e1:bp (fD x2 z2 x3 z3) (cQ (aC p q) (aC p q)):=ij (Cz h k) (Cz h k)
 have e2:bp (i7 x2 z2 x3 z3) (nq p q):=IP (Tc h k)
 have e3:bp (fE x x2 z2 x3 z3) (cQ m (nq p q)):=ij hx e2
 dsimp only[bI,jy]
 exact⟨e1,e3⟩
theorem AM (h:bI x2 z2 p)(k:bI x3 z3 q)(hx:bp x m):bI (fD x2 z2 x3 z3) (fE x x2 z2 x3 z3) (jy q p m):=by
 have e1:bp (fD x2 z2 x3 z3) (cQ (aC q p) (aC q p)):=ij (CA h k) (CA h k)
 have e2:bp (i7 x2 z2 x3 z3) (nq q p):=ij (CB h k) (CB h k)
 have e3:bp (fE x x2 z2 x3 z3) (cQ m (nq q p)):=ij hx e2
 dsimp only[bI,jy]
 exact⟨e1,e3⟩
end
structure L4 where
 x2:List (BitVec 64)
 z2:List (BitVec 64)
 x3:List (BitVec 64)
 z3:List (BitVec 64)
 sw:BitVec 8
def dl (x x2 z2 x3 z3:List (BitVec 64))(bit:BitVec 8):L4:=⟨fa x2 z2,gA x2 z2,fD x2 z2 x3 z3,fE x x2 z2 x3 z3,bit⟩
def kH (x:List (BitVec 64))(L:L4)(bit:BitVec 8):L4:=if bit=L.sw then dl x L.x2 L.z2 L.x3 L.z3 bit else dl x L.x3 L.z3 L.x2 L.z2 bit
def fy (Q:List (BitVec 8))(t:Nat):BitVec 8:=(Q.getD (t/8) 0)>>>(t%8)&&&1#8
theorem NZ (Q:List (BitVec 8))(t:Nat):fy Q t=0#8∨fy Q t=1#8:=by
 have h:(fy Q t).toNat<2:=by
  unfold fy
  rw[BitVec.toNat_and,show(1#8).toNat=2^1-1 from rfl,Nat.and_two_pow_sub_one_eq_mod];omega
 have :(fy Q t).toNat=0∨(fy Q t).toNat=1:=by omega
 rcases this with e|e
 ·exact .inl (BitVec.eq_of_toNat_eq e)
 ·exact .inr (BitVec.eq_of_toNat_eq e)
def aU (x:List (BitVec 64))(Q:List (BitVec 8)):Nat→L4
 |0=>⟨oneE,List.replicate 5 0#64,x,oneE,0#8⟩
 |c+1=>kH x (aU x Q c) (fy Q (254-c))
def nc (Q:List (BitVec 8))(t:Nat):BitVec 8:=if fy Q t=0#8 then 48#8 else 49#8
def d7 (Q:List (BitVec 8)):Nat→List (BitVec 8)
 |0=>[]
 |c+1=>d7 Q c++[nc Q (254-c)]
theorem F0 (Q:List (BitVec 8))(c:Nat):(d7 Q c).length=c:=by
 induction c with
 |zero=>rfl
 |succ c ih=>rw[d7,List.length_append,ih];rfl
theorem zJ (Q:List (BitVec 8))(n:Nat):∀ c,c<n→(d7 Q n).getD c 0=nc Q (254-c):=by
 induction n with
 |zero=>intro c h;omega
 |succ n ih=>
  intro c h
  have hl:=F0 Q n
  rw[d7]
  by_cases h0:c<n
  ·rw[List.getD_eq_getElem?_getD,List.getElem?_append_left (by omega),←List.getD_eq_getElem?_getD,ih c h0]
  ·obtain rfl:c=n:=by omega
   rw[List.getD_eq_getElem?_getD,List.getElem?_append_right (by omega),hl,Nat.sub_self];rfl
def RL (L:L4)(pq:Pt×Pt):Prop:=(L.sw=0#8∧bI L.x2 L.z2 pq.1∧bI L.x3 L.z3 pq.2)∨(L.sw=1#8∧bI L.x3 L.z3 pq.1∧bI L.x2 L.z2 pq.2)
theorem BS {x a b c d:List (BitVec 64)}{p q:Pt}(h:bI (fa a b) (gA a b) p)(k:bI (fD a b c d) (fE x a b c d) q):RL (dl x a b c d 0#8) (p,q):=by
 dsimp only[RL,dl]
 exact .inl ⟨Eq.refl (0#8:BitVec 8),h,k⟩
theorem BT {x a b c d:List (BitVec 64)}{p q:Pt}(h:bI (fa a b) (gA a b) q)(k:bI (fD a b c d) (fE x a b c d) p):RL (dl x a b c d 1#8) (p,q):=by
 dsimp only[RL,dl]
 exact .inr ⟨Eq.refl (1#8:BitVec 8),k,h⟩
theorem BU:bp oneE jW:=⟨sL,ok_one,by decide⟩
theorem AN:bp (List.replicate 5 0#64) (List.replicate 16 0):=⟨⟨rfl,fun x hx=>by rw[List.eq_of_mem_replicate hx];exact Nat.lt_of_le_of_lt (Nat.le_refl 0) (by omega)⟩,Cx,by decide⟩
theorem N2 (x:List (BitVec 64))(m:List Int)(Q:List (BitVec 8))(hx:bp x m)(n:Nat):∀ c,c≤n→RL (aU x Q c) (dT m (d7 Q n) c):=by
 intro c
 induction c with
 |zero=>intro _;exact .inl ⟨rfl,⟨BU,AN⟩,⟨hx,BU⟩⟩
 |succ c ih=>
  intro hc
  have ih:=ih (by omega)
  have hg:=zJ Q n c (by omega)
  have hbt:=NZ Q (254-c)
  rw[aU,dT,hg]
  generalize aU x Q c=L at*
  generalize (dT m (d7 Q n) c)=pq at*
  obtain⟨p,q⟩:=pq
  dsimp only at ih ⊢
  have hs:nc Q (254-c)=if fy Q (254-c)=0#8 then 48#8 else 49#8:=rfl
  rw[hs]
  clear hs hg
  have st1:∀ b,b=L.sw→kH x L b=dl x L.x2 L.z2 L.x3 L.z3 b:=fun b hb=>by unfold kH;rw[if_pos hb]
  have st2:∀ b,¬ b=L.sw→kH x L b=dl x L.x3 L.z3 L.x2 L.z2 b:=fun b hb=>by unfold kH;rw[if_neg hb]
  generalize fy Q (254-c)=bit at*
  have hb2:bit=0#8∨bit=1#8:=by assumption
  rcases hb2 with hb|hb
  ·subst hb
   have e1:(if(0#8:BitVec 8)=0#8 then(48#8:BitVec 8) else 49#8)=48#8:=by decide
   rw[e1,if_pos (Eq.refl (48#8:BitVec 8))]
   rcases ih with⟨h1,h2,h3⟩|⟨h1,h2,h3⟩
   ·rw[st1 _ h1.symm]
    exact BS (rU h2) (AL h2 h3 hx)
   ·rw[st2 _ (by rw[h1];decide)]
    exact BS (rU h2) (AL h2 h3 hx)
  ·subst hb
   have e1:(if(1#8:BitVec 8)=0#8 then(48#8:BitVec 8) else 49#8)=49#8:=by decide
   rw[e1,if_neg (by decide:¬ (49#8:BitVec 8)=48#8)]
   rcases ih with⟨h1,h2,h3⟩|⟨h1,h2,h3⟩
   ·rw[st2 _ (by rw[h1];decide)]
    exact BT (rU h3) (AM h3 h2 hx)
   ·rw[st1 _ h1.symm]
    exact BT (rU h3) (AM h3 h2 hx)
end
theorem Td (x:List (BitVec 64))(Q:List (BitVec 8))(hx:sm x)(c:Nat):sm (aU x Q c).x2∧sm (aU x Q c).z2∧sm (aU x Q c).x3∧sm (aU x Q c).z3:=by
 have core:∀ a b c d bit,sm a→sm b→sm c→sm d→sm (dl x a b c d bit).x2∧sm (dl x a b c d bit).z2∧sm (dl x a b c d bit).x3∧sm (dl x a b c d bit).z3:=by
  intro a b c d bit ha hb hc hd
  have sA:sm (kA a b):=(mF a b ha hb).1
  have sB:sm (kB a b):=(nK a b ha hb).1
  have sC:sm (kA c d):=(mF c d hc hd).1
  have sD:sm (kB c d):=(nK c d hc hd).1
  have sAA:sm (fC a b):=(dJ _ _ sA sA).1
  have sBB:sm (ia a b):=(dJ _ _ sB sB).1
  have sE:sm (kE a b):=(nK _ _ sAA sBB).1
  have sT:sm (kT a b):=(dJ _ _ Da sE).1
  have sU:sm (kU a b):=(mF _ _ sAA sT).1
  have sX2:sm (fa a b):=(dJ _ _ sAA sBB).1
  have sZ2:sm (gA a b):=(dJ _ _ sE sU).1
  have sDA:sm (gB a b c d):=(dJ _ _ sD sA).1
  have sCB:sm (gD a b c d):=(dJ _ _ sC sB).1
  have sX:sm (kX a b c d):=(mF _ _ sDA sCB).1
  have sXX:sm (fD a b c d):=(dJ _ _ sX sX).1
  have sZ:sm (kZ a b c d):=(nK _ _ sDA sCB).1
  have sZZ:sm (i7 a b c d):=(dJ _ _ sZ sZ).1
  have sZ3:sm (fE x a b c d):=(dJ _ _ hx sZZ).1
  dsimp only[dl]
  exact⟨sX2,sZ2,sXX,sZ3⟩
 induction c with
 |zero=>exact⟨sL,AN.1,hx,sL⟩
 |succ c ih=>
  obtain⟨h1,h2,h3,h4⟩:=ih
  rw[aU]
  unfold kH
  split
  ·exact core _ _ _ _ _ h1 h2 h3 h4
  ·exact core _ _ _ _ _ h3 h4 h1 h2
theorem CC (x a b c d:List (BitVec 64))(bit:BitVec 8):(dl x a b c d bit).x2=fa a b:=by dsimp only[dl]
theorem CD (x a b c d:List (BitVec 64))(bit:BitVec 8):(dl x a b c d bit).z2=gA a b:=by dsimp only[dl]
theorem CE (x a b c d:List (BitVec 64))(bit:BitVec 8):(dl x a b c d bit).x3=fD a b c d:=by dsimp only[dl]
theorem CF (x a b c d:List (BitVec 64))(bit:BitVec 8):(dl x a b c d bit).z3=fE x a b c d:=by dsimp only[dl]
theorem CG (x a b c d:List (BitVec 64))(bit:BitVec 8):(dl x a b c d bit).sw=bit:=by dsimp only[dl]
theorem lq (a b:List (BitVec 64))(h:a.length=5):(eI a b).length=5:=by unfold eI;rw[ja,rj,h]
theorem ll (a b:List (BitVec 64))(h:a.length=5):(eG a b).length=5:=by unfold eG;rw[ja,rk,h]
theorem eE (a b:List (BitVec 64)):(ba a b).length=5:=by
 unfold ba jQ
 rw[ja,List.length_set,List.length_set,pt,nC]
theorem G7 (Q U:List (BitVec 8))(hQ:Q.length=32)(hU:U.length=32):ao Tryz.prog 52 [.str Q,.str U] (.str (aE (aA (ba (if(aU (da U) Q 255).sw=1#8 then(aU (da U) Q 255).x3 else(aU (da U) Q 255).x2) (bM (if(aU (da U) Q 255).sw=1#8 then(aU (da U) Q 255).z3 else(aU (da U) Q 255).z2) (iD 18446744073709551615#64) (64*4)))%Pq) 32)):=by
 have hQ':(Q.length:Int)=32:=by omega
 have hr:=Kw U hU
 have hxs:=(AF U hU).1
 generalize da U=x at hr hxs ⊢
 have hx:=hxs.1
 have hm:min 5 5=5:=rfl
 have h24l:a24.length=5:=rfl
 have hol:oneE.length=5:=rfl
 have hone:=BK
 have h24:[V.u64 121665#64,V.u64 0#64,V.u64 0#64,V.u64 0#64,V.u64 0#64]=a24.map .u64:=rfl
 have h0z:[V.u64 0#64,V.u64 0#64,V.u64 0#64,V.u64 0#64,V.u64 0#64]=(List.replicate 5 0#64).map .u64:=rfl
 refine aB (by kernel_rfl) (fn:=Tryz.f52) (by kernel_rfl) Tryz.func52 rfl (by show 2≤122;decide) (by simp[aa,V.low]) (by simp[V.low]) (ae ?_)
 simp only[go_sem,↓reduceIte,Nat.reduceEqDiff,Nat.reduceLT,Nat.reduceMul,Tryz.ntmps52]
 refine ak (hr) ?_
 simp only[go_sem,↓reduceIte,Nat.reduceEqDiff,Nat.reduceLT,Nat.reduceLeDiff,Nat.reduceAdd,Int.reduceLE,Int.reduceLT,BitVec.reduceOfInt,hx,bi]
 refine aH (hone) ?_
 simp only[go_sem,↓reduceIte,Nat.reduceEqDiff,Nat.reduceLT,Nat.reduceAdd,hx,List.take_of_length_le]
 refine aH (hone) ?_
 simp only[go_sem,↓reduceIte,Nat.reduceEqDiff,Nat.reduceLT,Nat.reduceAdd,Int.reduceLT,BitVec.reduceOfInt,hx,hol,bi]
 refine⟨by kernel_rfl,?_⟩
 refine bf (fun jc st=>∃ c:Nat,c+jc=255∧st=⟨[(0,.str Q),(5,.ptr 0 0),(7,.ptr 1 0),(8,.ptr 2 0),(9,.ptr 3 0),(10,.ptr 4 0),(11,.ptr 5 0),(12,.u8 (aU x Q c).sw),(13,.i64 (254-((c:Nat):Int)))],[bK ((x).map .u64),bK ((a24).map .u64),bK (((aU x Q c).x2).map .u64),bK (((aU x Q c).z2).map .u64),bK (((aU x Q c).x3).map .u64),bK (((aU x Q c).z3).map .u64)]⟩) ?_ ?_
 ·exact bP (255) ⟨[(0,.str Q),(5,.ptr 0 0),(7,.ptr 1 0),(8,.ptr 2 0),(9,.ptr 3 0),(10,.ptr 4 0),(11,.ptr 5 0),(12,.u8 (aU x Q (0:Nat)).sw),(13,.i64 (254-(((0:Nat):Nat):Int)))],[bK ((x).map .u64),bK ((a24).map .u64),bK (((aU x Q (0:Nat)).x2).map .u64),bK (((aU x Q (0:Nat)).z2).map .u64),bK (((aU x Q (0:Nat)).x3).map .u64),bK (((aU x Q (0:Nat)).z3).map .u64)]⟩ (by simp[St.get,af,-List.map_set,-List.map_map,aU,oneE,List.replicate]) rfl (fun _ _ h=>h) ⟨0,by omega,rfl⟩
 rintro jc st ⟨c,hc,rfl⟩ _
 simp only[go_sem,↓reduceIte,Nat.reduceEqDiff,Nat.reduceLT,Nat.reduceLeDiff,Nat.reduceAdd,Int.reduceLE,Int.reduceLT,Int.reduceEq,BitVec.reduceOfInt,BitVec.reduceToNat,reduceCtorEq]
 obtain⟨s1,s2,s3,s4⟩:=Td x Q hxs c
 by_cases h0:c<255
 ·have h0':(0:Int)≤254-(c:Int):=by omega
  have ec:254-(c:Int)=((254-c:Nat):Int):=by omega
  have e1:aj (((254-c:Nat):Int)-1)=254-((c+1:Nat):Int):=by rw[am (by omega) (by omega)];omega
  have hst:kH x (aU x Q c) (fy Q (254-c))=aU x Q (c+1):=rfl
  have m1:aj (((254-c:Nat):Int).tdiv 8)=(((254-c)/8:Nat):Int):=by rw[show(8:Int)=((8:Nat):Int) from rfl,Bg,am (by omega) (by omega)]
  have m2:((254-c:Nat):Int).tmod 8=(((254-c)%8:Nat):Int):=rfl
  have g1:(((254-c)/8:Nat):Int)<32:=by omega
  have z1:(0:Int)≤(((254-c)/8:Nat):Int):=by omega
  have z2:(0:Int)≤(((254-c)%8:Nat):Int):=by omega
  have hbit:(Q.getD ((254-c)/8) 0)>>>((254-c)%8)&&&1#8=fy Q (254-c):=rfl
  generalize fy Q (254-c)=bit at*
  generalize hL:aU x Q c=L at*
  obtain⟨X2,Z2,X3,Z3,sw⟩:=L
  have l1:=s1.1
  have l2:=s2.1
  have l3:=s3.1
  have l4:=s4.1
  dsimp only at*
  by_cases hb:bit=sw
  ·have hst2:aU x Q (c+1)=dl x X2 Z2 X3 Z3 bit:=by rw[←hst];unfold kH;rw[if_pos hb]
   have n1:(aU x Q (c+1)).x2=fa X2 Z2:=by rw[hst2,CC]
   have n2:(aU x Q (c+1)).z2=gA X2 Z2:=by rw[hst2,CD]
   have n3:(aU x Q (c+1)).x3=fD X2 Z2 X3 Z3:=by rw[hst2,CE]
   have n4:(aU x Q (c+1)).z3=fE x X2 Z2 X3 Z3:=by rw[hst2,CF]
   have n5:(aU x Q (c+1)).sw=bit:=by rw[hst2,CG]
   clear hst hst2
   have tA:=lk X2 Z2 l1 l2
   rw[show eI X2 Z2=kA X2 Z2 from rfl] at tA
   have lA:(kA X2 Z2).length=5:=lq _ _ l1
   have tB:=lh X2 Z2 l1 l2
   rw[show eG X2 Z2=kB X2 Z2 from rfl] at tB
   have lB:(kB X2 Z2).length=5:=ll _ _ l1
   have tAA:=dw _ _ lA lA
   rw[show ba (kA X2 Z2) (kA X2 Z2)=fC X2 Z2 from rfl] at tAA
   have lAA:(fC X2 Z2).length=5:=eE _ _
   have tBB:=dw _ _ lB lB
   rw[show ba (kB X2 Z2) (kB X2 Z2)=ia X2 Z2 from rfl] at tBB
   have lBB:(ia X2 Z2).length=5:=eE _ _
   have tE:=lh _ _ lAA lBB
   rw[show eG (fC X2 Z2) (ia X2 Z2)=kE X2 Z2 from rfl] at tE
   have lE:(kE X2 Z2).length=5:=ll _ _ lAA
   have tC:=lk X3 Z3 l3 l4
   rw[show eI X3 Z3=kA X3 Z3 from rfl] at tC
   have lC:(kA X3 Z3).length=5:=lq _ _ l3
   have tD:=lh X3 Z3 l3 l4
   rw[show eG X3 Z3=kB X3 Z3 from rfl] at tD
   have lD:(kB X3 Z3).length=5:=ll _ _ l3
   have tDA:=dw _ _ lD lA
   rw[show ba (kB X3 Z3) (kA X2 Z2)=gB X2 Z2 X3 Z3 from rfl] at tDA
   have lDA:(gB X2 Z2 X3 Z3).length=5:=eE _ _
   have tCB:=dw _ _ lC lB
   rw[show ba (kA X3 Z3) (kB X2 Z2)=gD X2 Z2 X3 Z3 from rfl] at tCB
   have lCB:(gD X2 Z2 X3 Z3).length=5:=eE _ _
   have tX:=lk _ _ lDA lCB
   rw[show eI (gB X2 Z2 X3 Z3) (gD X2 Z2 X3 Z3)=kX X2 Z2 X3 Z3 from rfl] at tX
   have lX:(kX X2 Z2 X3 Z3).length=5:=lq _ _ lDA
   have tXX:=dw _ _ lX lX
   rw[show ba (kX X2 Z2 X3 Z3) (kX X2 Z2 X3 Z3)=fD X2 Z2 X3 Z3 from rfl] at tXX
   have lXX:(fD X2 Z2 X3 Z3).length=5:=eE _ _
   have tZ:=lh _ _ lDA lCB
   rw[show eG (gB X2 Z2 X3 Z3) (gD X2 Z2 X3 Z3)=kZ X2 Z2 X3 Z3 from rfl] at tZ
   have lZ:(kZ X2 Z2 X3 Z3).length=5:=ll _ _ lDA
   have tZZ:=dw _ _ lZ lZ
   rw[show ba (kZ X2 Z2 X3 Z3) (kZ X2 Z2 X3 Z3)=i7 X2 Z2 X3 Z3 from rfl] at tZZ
   have lZZ:(i7 X2 Z2 X3 Z3).length=5:=eE _ _
   have tZ3:=dw _ _ hx lZZ
   rw[show ba x (i7 X2 Z2 X3 Z3)=fE x X2 Z2 X3 Z3 from rfl] at tZ3
   have lZ3:(fE x X2 Z2 X3 Z3).length=5:=eE _ _
   have tX2:=dw _ _ lAA lBB
   rw[show ba (fC X2 Z2) (ia X2 Z2)=fa X2 Z2 from rfl] at tX2
   have lX2:(fa X2 Z2).length=5:=eE _ _
   have tT:=dw _ _ h24l lE
   rw[show ba a24 (kE X2 Z2)=kT X2 Z2 from rfl] at tT
   have lT:(kT X2 Z2).length=5:=eE _ _
   have tU:=lk _ _ lAA lT
   rw[show eI (fC X2 Z2) (kT X2 Z2)=kU X2 Z2 from rfl] at tU
   have lU:(kU X2 Z2).length=5:=lq _ _ lAA
   have tZ2:=dw _ _ lE lU
   rw[show ba (kE X2 Z2) (kU X2 Z2)=gA X2 Z2 from rfl] at tZ2
   have lZ2:(gA X2 Z2).length=5:=eE _ _
   generalize gA X2 Z2=vlZ2 at*
   generalize kU X2 Z2=vlU at*
   generalize kT X2 Z2=vlT at*
   generalize fa X2 Z2=vlX2 at*
   generalize fE x X2 Z2 X3 Z3=vlZ3 at*
   generalize i7 X2 Z2 X3 Z3=vlZZ at*
   generalize kZ X2 Z2 X3 Z3=vlZ at*
   generalize fD X2 Z2 X3 Z3=vlXX at*
   generalize kX X2 Z2 X3 Z3=vlX at*
   generalize gD X2 Z2 X3 Z3=vlCB at*
   generalize gB X2 Z2 X3 Z3=vlDA at*
   generalize kB X3 Z3=vlD at*
   generalize kA X3 Z3=vlC at*
   generalize kE X2 Z2=vlE at*
   generalize ia X2 Z2=vlBB at*
   generalize fC X2 Z2=vlAA at*
   generalize kB X2 Z2=vlB at*
   generalize kA X2 Z2=vlA at*
   simp only[go_sem,↓reduceIte,Nat.reduceEqDiff,Nat.reduceLT,Nat.reduceLeDiff,Nat.reduceAdd,Int.reduceLE,Int.reduceLT,BitVec.reduceOfInt,BitVec.reduceToNat,reduceCtorEq,ec,m1,m2,g1,z1,z2,hQ',hbit,hb,l1,l2,l3,l4,hm,bi,List.take_of_length_le]
   refine aH (tA) ?_
   simp only[go_sem,↓reduceIte,Nat.reduceEqDiff,Nat.reduceLT,Nat.reduceAdd,reduceCtorEq,l1,l2,List.take_of_length_le]
   refine aH (tB) ?_
   simp only[go_sem,↓reduceIte,Nat.reduceEqDiff,Nat.reduceLT,Nat.reduceAdd,lA,lB,bi,List.take_of_length_le]
   refine⟨by kernel_rfl,?_⟩
   refine aH (tAA) ?_
   simp only[go_sem,↓reduceIte,Nat.reduceEqDiff,Nat.reduceLT,Nat.reduceAdd,lB,List.take_of_length_le]
   refine aH (tBB) ?_
   simp only[go_sem,↓reduceIte,Nat.reduceEqDiff,Nat.reduceLT,Nat.reduceAdd,lAA,lBB,bi,List.take_of_length_le]
   refine⟨by kernel_rfl,?_⟩
   refine ak (tE) ?_
   simp only[go_sem,↓reduceIte,Nat.reduceEqDiff,Nat.reduceLT,Nat.reduceAdd,reduceCtorEq,l3,l4,lE,bi,List.take_of_length_le]
   refine aH (tC) ?_
   simp only[go_sem,↓reduceIte,Nat.reduceEqDiff,Nat.reduceLT,Nat.reduceAdd,reduceCtorEq,l3,l4,List.take_of_length_le]
   refine aH (tD) ?_
   simp only[go_sem,↓reduceIte,Nat.reduceEqDiff,Nat.reduceLT,Nat.reduceAdd,lA,lC,lD,bi,List.take_of_length_le]
   refine⟨by kernel_rfl,?_⟩
   refine aH (tDA) ?_
   simp only[go_sem,↓reduceIte,Nat.reduceEqDiff,Nat.reduceLT,Nat.reduceAdd,lB,lC,List.take_of_length_le]
   refine aH (tCB) ?_
   simp only[go_sem,↓reduceIte,Nat.reduceEqDiff,Nat.reduceLT,Nat.reduceAdd,lDA,lCB,bi,List.take_of_length_le]
   refine⟨by kernel_rfl,?_⟩
   refine ak (tX) ?_
   simp only[go_sem,↓reduceIte,Nat.reduceEqDiff,Nat.reduceLT,reduceCtorEq,l3,lX,bi,List.take_of_length_le]
   refine ak (tXX) ?_
   simp only[go_sem,↓reduceIte,Nat.reduceEqDiff,Nat.reduceLT,reduceCtorEq,lDA,lCB,lX,lXX,bi,List.take_of_length_le]
   refine ak (tZ) ?_
   simp only[go_sem,↓reduceIte,Nat.reduceEqDiff,Nat.reduceLT,Nat.reduceAdd,reduceCtorEq,hx,l4,lZ,bi,List.take_of_length_le]
   refine aH (tZZ) ?_
   simp only[go_sem,↓reduceIte,Nat.reduceEqDiff,Nat.reduceLT]
   refine aH (tZ3) ?_
   simp only[go_sem,↓reduceIte,Nat.reduceEqDiff,Nat.reduceLT,Nat.reduceAdd,reduceCtorEq,lAA,lBB,lZ,lZ3,bi,List.take_of_length_le]
   refine⟨by kernel_rfl,?_⟩
   refine ak (tX2) ?_
   simp only[go_sem,↓reduceIte,Nat.reduceEqDiff,Nat.reduceLT,Nat.reduceAdd,reduceCtorEq,h24l,l1,lAA,lE,lX2,bi,List.take_of_length_le]
   refine aH (tT) ?_
   simp only[go_sem,↓reduceIte,Nat.reduceEqDiff,Nat.reduceLT]
   refine aH (tU) ?_
   simp only[go_sem,↓reduceIte,Nat.reduceEqDiff,Nat.reduceLT]
   refine aH (tZ2) ?_
   simp only[go_sem,↓reduceIte,Nat.reduceEqDiff,Nat.reduceLT,Nat.reduceAdd,reduceCtorEq,l2,lZ2,bi,e1]
   refine⟨by kernel_rfl,?_⟩
   have hw1:aj ((c:Int)+1)=((c+1:Nat):Int):=by rw[am (by omega) (by omega)];omega
   refine dP (jc-1) ⟨[(0,.str Q),(5,.ptr 0 0),(7,.ptr 1 0),(8,.ptr 2 0),(9,.ptr 3 0),(10,.ptr 4 0),(11,.ptr 5 0),(12,.u8 (aU x Q (c+1:Nat)).sw),(13,.i64 (254-(((c+1:Nat):Nat):Int)))],[bK ((x).map .u64),bK ((a24).map .u64),bK (((aU x Q (c+1:Nat)).x2).map .u64),bK (((aU x Q (c+1:Nat)).z2).map .u64),bK (((aU x Q (c+1:Nat)).x3).map .u64),bK (((aU x Q (c+1:Nat)).z3).map .u64)]⟩ [0,1,2,3,4,5] (by omega) rfl (by simp) rfl (by decide) (by simp[cz,St.get,af,-List.map_map,-List.map_set,n1,n2,n3,n4,n5,hb]) (by simp[n1,n2,n3,n4]) ⟨c+1,by omega,rfl⟩
  ·have hst2:aU x Q (c+1)=dl x X3 Z3 X2 Z2 bit:=by rw[←hst];unfold kH;rw[if_neg hb]
   have n1:(aU x Q (c+1)).x2=fa X3 Z3:=by rw[hst2,CC]
   have n2:(aU x Q (c+1)).z2=gA X3 Z3:=by rw[hst2,CD]
   have n3:(aU x Q (c+1)).x3=fD X3 Z3 X2 Z2:=by rw[hst2,CE]
   have n4:(aU x Q (c+1)).z3=fE x X3 Z3 X2 Z2:=by rw[hst2,CF]
   have n5:(aU x Q (c+1)).sw=bit:=by rw[hst2,CG]
   clear hst hst2
   have tA:=lk X3 Z3 l3 l4
   rw[show eI X3 Z3=kA X3 Z3 from rfl] at tA
   have lA:(kA X3 Z3).length=5:=lq _ _ l3
   have tB:=lh X3 Z3 l3 l4
   rw[show eG X3 Z3=kB X3 Z3 from rfl] at tB
   have lB:(kB X3 Z3).length=5:=ll _ _ l3
   have tAA:=dw _ _ lA lA
   rw[show ba (kA X3 Z3) (kA X3 Z3)=fC X3 Z3 from rfl] at tAA
   have lAA:(fC X3 Z3).length=5:=eE _ _
   have tBB:=dw _ _ lB lB
   rw[show ba (kB X3 Z3) (kB X3 Z3)=ia X3 Z3 from rfl] at tBB
   have lBB:(ia X3 Z3).length=5:=eE _ _
   have tE:=lh _ _ lAA lBB
   rw[show eG (fC X3 Z3) (ia X3 Z3)=kE X3 Z3 from rfl] at tE
   have lE:(kE X3 Z3).length=5:=ll _ _ lAA
   have tC:=lk X2 Z2 l1 l2
   rw[show eI X2 Z2=kA X2 Z2 from rfl] at tC
   have lC:(kA X2 Z2).length=5:=lq _ _ l1
   have tD:=lh X2 Z2 l1 l2
   rw[show eG X2 Z2=kB X2 Z2 from rfl] at tD
   have lD:(kB X2 Z2).length=5:=ll _ _ l1
   have tDA:=dw _ _ lD lA
   rw[show ba (kB X2 Z2) (kA X3 Z3)=gB X3 Z3 X2 Z2 from rfl] at tDA
   have lDA:(gB X3 Z3 X2 Z2).length=5:=eE _ _
   have tCB:=dw _ _ lC lB
   rw[show ba (kA X2 Z2) (kB X3 Z3)=gD X3 Z3 X2 Z2 from rfl] at tCB
   have lCB:(gD X3 Z3 X2 Z2).length=5:=eE _ _
   have tX:=lk _ _ lDA lCB
   rw[show eI (gB X3 Z3 X2 Z2) (gD X3 Z3 X2 Z2)=kX X3 Z3 X2 Z2 from rfl] at tX
   have lX:(kX X3 Z3 X2 Z2).length=5:=lq _ _ lDA
   have tXX:=dw _ _ lX lX
   rw[show ba (kX X3 Z3 X2 Z2) (kX X3 Z3 X2 Z2)=fD X3 Z3 X2 Z2 from rfl] at tXX
   have lXX:(fD X3 Z3 X2 Z2).length=5:=eE _ _
   have tZ:=lh _ _ lDA lCB
   rw[show eG (gB X3 Z3 X2 Z2) (gD X3 Z3 X2 Z2)=kZ X3 Z3 X2 Z2 from rfl] at tZ
   have lZ:(kZ X3 Z3 X2 Z2).length=5:=ll _ _ lDA
   have tZZ:=dw _ _ lZ lZ
   rw[show ba (kZ X3 Z3 X2 Z2) (kZ X3 Z3 X2 Z2)=i7 X3 Z3 X2 Z2 from rfl] at tZZ
   have lZZ:(i7 X3 Z3 X2 Z2).length=5:=eE _ _
   have tZ3:=dw _ _ hx lZZ
   rw[show ba x (i7 X3 Z3 X2 Z2)=fE x X3 Z3 X2 Z2 from rfl] at tZ3
   have lZ3:(fE x X3 Z3 X2 Z2).length=5:=eE _ _
   have tX2:=dw _ _ lAA lBB
   rw[show ba (fC X3 Z3) (ia X3 Z3)=fa X3 Z3 from rfl] at tX2
   have lX2:(fa X3 Z3).length=5:=eE _ _
   have tT:=dw _ _ h24l lE
   rw[show ba a24 (kE X3 Z3)=kT X3 Z3 from rfl] at tT
   have lT:(kT X3 Z3).length=5:=eE _ _
   have tU:=lk _ _ lAA lT
   rw[show eI (fC X3 Z3) (kT X3 Z3)=kU X3 Z3 from rfl] at tU
   have lU:(kU X3 Z3).length=5:=lq _ _ lAA
   have tZ2:=dw _ _ lE lU
   rw[show ba (kE X3 Z3) (kU X3 Z3)=gA X3 Z3 from rfl] at tZ2
   have lZ2:(gA X3 Z3).length=5:=eE _ _
   generalize gA X3 Z3=vlZ2 at*
   generalize kU X3 Z3=vlU at*
   generalize kT X3 Z3=vlT at*
   generalize fa X3 Z3=vlX2 at*
   generalize fE x X3 Z3 X2 Z2=vlZ3 at*
   generalize i7 X3 Z3 X2 Z2=vlZZ at*
   generalize kZ X3 Z3 X2 Z2=vlZ at*
   generalize fD X3 Z3 X2 Z2=vlXX at*
   generalize kX X3 Z3 X2 Z2=vlX at*
   generalize gD X3 Z3 X2 Z2=vlCB at*
   generalize gB X3 Z3 X2 Z2=vlDA at*
   generalize kB X2 Z2=vlD at*
   generalize kA X2 Z2=vlC at*
   generalize kE X3 Z3=vlE at*
   generalize ia X3 Z3=vlBB at*
   generalize fC X3 Z3=vlAA at*
   generalize kB X3 Z3=vlB at*
   generalize kA X3 Z3=vlA at*
   simp only[go_sem,↓reduceIte,Nat.reduceEqDiff,Nat.reduceLT,Nat.reduceLeDiff,Nat.reduceAdd,Int.reduceLE,Int.reduceLT,BitVec.reduceOfInt,BitVec.reduceToNat,reduceCtorEq,ec,m1,m2,g1,z1,z2,hQ',hbit,hb,l1,l2,l3,l4,hm,bi,List.take_of_length_le]
   refine⟨by kernel_rfl,?_⟩
   refine aH (tA) ?_
   simp only[go_sem,↓reduceIte,Nat.reduceEqDiff,Nat.reduceLT,Nat.reduceAdd,reduceCtorEq,l3,l4,List.take_of_length_le]
   refine aH (tB) ?_
   simp only[go_sem,↓reduceIte,Nat.reduceEqDiff,Nat.reduceLT,Nat.reduceAdd,lA,lB,bi,List.take_of_length_le]
   refine⟨by kernel_rfl,?_⟩
   refine aH (tAA) ?_
   simp only[go_sem,↓reduceIte,Nat.reduceEqDiff,Nat.reduceLT,Nat.reduceAdd,lB,List.take_of_length_le]
   refine aH (tBB) ?_
   simp only[go_sem,↓reduceIte,Nat.reduceEqDiff,Nat.reduceLT,Nat.reduceAdd,lAA,lBB,bi,List.take_of_length_le]
   refine⟨by kernel_rfl,?_⟩
   refine ak (tE) ?_
   simp only[go_sem,↓reduceIte,Nat.reduceEqDiff,Nat.reduceLT,Nat.reduceAdd,reduceCtorEq,l1,l2,lE,bi,List.take_of_length_le]
   refine aH (tC) ?_
   simp only[go_sem,↓reduceIte,Nat.reduceEqDiff,Nat.reduceLT,Nat.reduceAdd,reduceCtorEq,l1,l2,List.take_of_length_le]
   refine aH (tD) ?_
   simp only[go_sem,↓reduceIte,Nat.reduceEqDiff,Nat.reduceLT,Nat.reduceAdd,lA,lC,lD,bi,List.take_of_length_le]
   refine⟨by kernel_rfl,?_⟩
   refine aH (tDA) ?_
   simp only[go_sem,↓reduceIte,Nat.reduceEqDiff,Nat.reduceLT,Nat.reduceAdd,lB,lC,List.take_of_length_le]
   refine aH (tCB) ?_
   simp only[go_sem,↓reduceIte,Nat.reduceEqDiff,Nat.reduceLT,Nat.reduceAdd,lDA,lCB,bi,List.take_of_length_le]
   refine⟨by kernel_rfl,?_⟩
   refine ak (tX) ?_
   simp only[go_sem,↓reduceIte,Nat.reduceEqDiff,Nat.reduceLT,reduceCtorEq,l1,lX,bi,List.take_of_length_le]
   refine ak (tXX) ?_
   simp only[go_sem,↓reduceIte,Nat.reduceEqDiff,Nat.reduceLT,reduceCtorEq,lDA,lCB,lX,lXX,bi,List.take_of_length_le]
   refine ak (tZ) ?_
   simp only[go_sem,↓reduceIte,Nat.reduceEqDiff,Nat.reduceLT,Nat.reduceAdd,reduceCtorEq,hx,l2,lZ,bi,List.take_of_length_le]
   refine aH (tZZ) ?_
   simp only[go_sem,↓reduceIte,Nat.reduceEqDiff,Nat.reduceLT]
   refine aH (tZ3) ?_
   simp only[go_sem,↓reduceIte,Nat.reduceEqDiff,Nat.reduceLT,Nat.reduceAdd,reduceCtorEq,lAA,lBB,lZ,lZ3,bi,List.take_of_length_le]
   refine⟨by kernel_rfl,?_⟩
   refine ak (tX2) ?_
   simp only[go_sem,↓reduceIte,Nat.reduceEqDiff,Nat.reduceLT,Nat.reduceAdd,reduceCtorEq,h24l,l3,lAA,lE,lX2,bi,List.take_of_length_le]
   refine aH (tT) ?_
   simp only[go_sem,↓reduceIte,Nat.reduceEqDiff,Nat.reduceLT]
   refine aH (tU) ?_
   simp only[go_sem,↓reduceIte,Nat.reduceEqDiff,Nat.reduceLT]
   refine aH (tZ2) ?_
   simp only[go_sem,↓reduceIte,Nat.reduceEqDiff,Nat.reduceLT,Nat.reduceAdd,reduceCtorEq,l4,lZ2,bi,e1]
   refine⟨by kernel_rfl,?_⟩
   have hw1:aj ((c:Int)+1)=((c+1:Nat):Int):=by rw[am (by omega) (by omega)];omega
   refine dP (jc-1) ⟨[(0,.str Q),(5,.ptr 0 0),(7,.ptr 1 0),(8,.ptr 2 0),(9,.ptr 3 0),(10,.ptr 4 0),(11,.ptr 5 0),(12,.u8 (aU x Q (c+1:Nat)).sw),(13,.i64 (254-(((c+1:Nat):Nat):Int)))],[bK ((x).map .u64),bK ((a24).map .u64),bK (((aU x Q (c+1:Nat)).x2).map .u64),bK (((aU x Q (c+1:Nat)).z2).map .u64),bK (((aU x Q (c+1:Nat)).x3).map .u64),bK (((aU x Q (c+1:Nat)).z3).map .u64)]⟩ [0,1,2,3,4,5] (by omega) rfl (by simp) rfl (by decide) (by simp[cz,St.get,af,-List.map_map,-List.map_set,n1,n2,n3,n4,n5]) (by simp[n1,n2,n3,n4]) ⟨c+1,by omega,rfl⟩
 ·obtain rfl:c=255:=by omega
  have h0':¬ (0:Int)≤254-((255:Nat):Int):=by omega
  have hx0:(255:Int)=((255:Nat):Int):=rfl
  generalize hL:aU x Q 255=L at*
  obtain⟨X2,Z2,X3,Z3,sw⟩:=L
  have l1:=s1.1
  have l2:=s2.1
  have l3:=s3.1
  have l4:=s4.1
  dsimp only at*
  have hiw:[V.u64 18446744073709551595#64,V.u64 18446744073709551615#64,V.u64 18446744073709551615#64,V.u64 9223372036854775807#64]=(iD 18446744073709551615#64).map .u64:=rfl
  have w4:(iD 18446744073709551615#64).length=4:=rfl
  by_cases hb:sw=1#8
  ·rw[if_pos hb,if_pos hb]
   have hp:=zG Z3 (iD 18446744073709551615#64) s4 (by show 4≤100;omega)
   have sp:=oe Z3 (iD 18446744073709551615#64) s4 (64*4)
   rw[w4,←hiw] at hp
   generalize bM Z3 (iD 18446744073709551615#64) (64*4)=P at*
   have ht:=dw X3 P l3 sp.1
   have st:=(dJ X3 P s3 sp).1
   have hte:=zD _ st
   simp only[go_sem,↓reduceIte,Nat.reduceEqDiff,Nat.reduceLT,Nat.reduceLeDiff,Nat.reduceAdd,Int.reduceLE,Int.reduceLT,Int.reduceSub,Int.reduceNeg,BitVec.reduceOfInt,BitVec.reduceToNat,reduceCtorEq,hb,l1,l2,l3,l4,hm,bi,List.take_of_length_le]
   refine⟨by kernel_rfl,?_⟩
   refine qM [6] (hp) (by kernel_rfl) (by simp) rfl (by simp) (by decide) (by simp) (by simp) (by simp) (by simp) (by simp) (by first|(simp[dR,cZ,az,db,Blk.ren,-List.map_map,-List.map_set];done)|simp[go_sem,dR]) ?_
   simp only[go_sem,↓reduceIte,Nat.reduceEqDiff,Nat.reduceLT,Nat.reduceAdd,Nat.reduceSub,Int.reduceNeg]
   refine aH (ht) ?_
   simp only[go_sem,↓reduceIte,Nat.reduceLT,Int.reduceNeg]
   refine aH (hte) ?_
   simp only[go_sem,↓reduceIte,Nat.reduceLT,Int.reduceNeg]
   kernel_rfl
  ·rw[if_neg hb,if_neg hb]
   have hp:=zG Z2 (iD 18446744073709551615#64) s2 (by show 4≤100;omega)
   have sp:=oe Z2 (iD 18446744073709551615#64) s2 (64*4)
   rw[w4,←hiw] at hp
   generalize bM Z2 (iD 18446744073709551615#64) (64*4)=P at*
   have ht:=dw X2 P l1 sp.1
   have st:=(dJ X2 P s1 sp).1
   have hte:=zD _ st
   simp only[go_sem,↓reduceIte,Int.reduceLE,Int.reduceSub,Int.reduceNeg,hb,l1,l2,List.take_of_length_le]
   refine qM [6] (hp) (by kernel_rfl) (by simp) rfl (by simp) (by decide) (by simp) (by simp) (by simp) (by simp) (by simp) (by first|(simp[dR,cZ,az,db,Blk.ren,-List.map_map,-List.map_set];done)|simp[go_sem,dR]) ?_
   simp only[go_sem,↓reduceIte,Nat.reduceEqDiff,Nat.reduceLT,Nat.reduceAdd,Nat.reduceSub,Int.reduceNeg]
   refine aH (ht) ?_
   simp only[go_sem,↓reduceIte,Nat.reduceLT,Int.reduceNeg]
   refine aH (hte) ?_
   simp only[go_sem,↓reduceIte,Nat.reduceLT,Int.reduceNeg]
   kernel_rfl
def iW (u:List (BitVec 8)):List (BitVec 8):=u.set 31 (u.getD 31 0&&&127#8)
theorem yq (u:List (BitVec 8)):(iW u).length=u.length:=by unfold iW;rw[List.length_set]
def bJ (k u:List (BitVec 8)):List (BitVec 8):=aE (aA (ba (if(aU (da (iW u)) (cw k) 255).sw=1#8 then(aU (da (iW u)) (cw k) 255).x3 else(aU (da (iW u)) (cw k) 255).x2) (bM (if(aU (da (iW u)) (cw k) 255).sw=1#8 then(aU (da (iW u)) (cw k) 255).z3 else(aU (da (iW u)) (cw k) 255).z2) (iD 18446744073709551615#64) (64*4)))%Pq) 32
theorem Fg (k:List (BitVec 8)):(cw k).length=k.length:=by unfold cw;rw[List.length_set,List.length_set]
theorem N4 (k u:List (BitVec 8))(h:¬ (k.length=32∧u.length=32)):ao Tryz.prog 33 [.str k,.str u] (.tup [.str [],.i64 1]):=by
 have hc:=zI k
 by_cases hk:k.length=32
 ·have hu:¬ (u.length:Int)=32:=by omega
  rw[if_pos hk] at hc
  refine aB (by kernel_rfl) (fn:=Tryz.f33) (by kernel_rfl) Tryz.func33 rfl (by show 2≤32;decide) (by simp[aa,V.low]) (by simp[aa,V.low]) (ae ?_)
  simp only[go_sem,seval,Tryz.ntmps33]
  refine ak (hc) ?_
  simp only[go_sem,seval,hu]
 ·rw[if_neg hk] at hc
  refine aB (by kernel_rfl) (fn:=Tryz.f33) (by kernel_rfl) Tryz.func33 rfl (by show 2≤32;decide) (by simp[aa,V.low]) (by simp[aa,V.low]) (ae ?_)
  simp only[go_sem,seval,Tryz.ntmps33]
  refine ak (hc) ?_
  simp only[go_sem,seval]
theorem AO (k u:List (BitVec 8))(hk:k.length=32)(hu:u.length=32):ao Tryz.prog 33 [.str k,.str u] (.tup [.str (bJ k u),.i64 0]):=by
 have hu':(u.length:Int)=32:=by omega
 have hc:=zI k
 rw[if_pos hk] at hc
 have hl:=G7 (cw k) (iW u) (by rw[Fg,hk]) (by rw[yq,hu])
 have hm:u.set 31 (u.getD 31 0&&&127#8)=iW u:=rfl
 have hml:=yq u
 rw[hu] at hml
 have g31:31<u.length:=by omega
 have hm32:min 32 32=32:=rfl
 unfold bJ
 refine aB (by kernel_rfl) (fn:=Tryz.f33) (by kernel_rfl) Tryz.func33 rfl (by show 2≤32;decide) (by simp[aa,V.low]) (by simp[aa,V.low]) (ae ?_)
 simp only[go_sem,seval,Tryz.ntmps33]
 refine ak (hc) ?_
 simp only[go_sem,seval,hu,fd g31,hm,hml,List.take_of_length_le]
 refine ak (hl) ?_
 simp only[go_sem,seval]
theorem mj (k u:List (BitVec 8)):(bJ k u).length=32:=by
 unfold bJ
 exact br _ _
def basePt:List (BitVec 8):=[9#8]++List.replicate 31 0#8
theorem IQ:bytesOf (⟨#[9]⟩:ByteArray)=[9#8]:=rfl
theorem Fh:basePt.length=32:=rfl
theorem jd (k:List (BitVec 8))(hk:k.length=32):ao Tryz.prog 24 [.str k] (.tup [.str (bJ k basePt),.i64 0]):=by
 have hr:=nz 31 (by decide)
 have hm:=AO k basePt hk Fh
 generalize bJ k basePt=z at*
 unfold basePt at hm
 generalize hrr:List.replicate 31 0#8=rr at*
 have hrl:rr.length=31:=by rw[←hrr];rfl
 refine aB (by kernel_rfl) (fn:=Tryz.f24) (by kernel_rfl) Tryz.func24 rfl (by show 1≤10;decide) (by simp[aa,V.low]) (by simp[aa,V.low]) (ae ?_)
 simp only[go_sem,seval,Tryz.ntmps24]
 refine ak (hr) ?_
 simp only[go_sem,seval,IQ]
 refine⟨by omega,?_⟩
 refine ak (hm) ?_
 simp only[go_sem,seval]
def qo (k u:List (BitVec 8)):List (BitVec 8)×Int:=if k.length=32∧u.length=32 then(if bJ k u=List.replicate 32 0#8 then([],12) else(bJ k u,0)) else([],1)
theorem IR (k u:List (BitVec 8)):ao Tryz.prog 156 [.str k,.str u] (.tup [.str (qo k u).1,.i64 (qo k u).2]):=by
 unfold qo
 by_cases h:k.length=32∧u.length=32
 ·have hm:=AO k u h.1 h.2
  have hl:=mj k u
  rw[if_pos h]
  generalize bJ k u=z at*
  have ht:=Kk z (by omega)
  have hn:=NI 0#8 z
  rw[hl] at hn
  by_cases hz:z=List.replicate 32 0#8
  ·rw[if_pos hz]
   have hz':=eq_true (hn.2 hz)
   clear hn hz
   refine aB (by kernel_rfl) (fn:=Tryz.f156) (by kernel_rfl) Tryz.func156 rfl (by show 2≤23;decide) (by simp[aa,V.low]) (by simp[aa,V.low]) (ae ?_)
   simp only[go_sem,seval,Tryz.ntmps156]
   refine ak (hm) ?_
   simp only[go_sem,seval]
   refine ak (ht) ?_
   simp only[go_sem,seval,hz']
  ·rw[if_neg hz]
   have hz':=eq_false (fun h=>hz (hn.1 h))
   clear hn hz
   refine aB (by kernel_rfl) (fn:=Tryz.f156) (by kernel_rfl) Tryz.func156 rfl (by show 2≤23;decide) (by simp[aa,V.low]) (by simp[aa,V.low]) (ae ?_)
   simp only[go_sem,seval,Tryz.ntmps156]
   refine ak (hm) ?_
   simp only[go_sem,seval]
   refine ak (ht) ?_
   simp only[go_sem,seval,hz']
 ·have hm:=N4 k u h
  rw[if_neg h]
  refine aB (by kernel_rfl) (fn:=Tryz.f156) (by kernel_rfl) Tryz.func156 rfl (by show 2≤23;decide) (by simp[aa,V.low]) (by simp[aa,V.low]) (ae ?_)
  simp only[go_sem,seval,Tryz.ntmps156]
  refine ak (hm) ?_
  simp only[go_sem,seval]
def im (a b:Int):Prop:=0≤a∧a≤1099511627776∧0≤b∧b≤999999999
instance (a b:Int):Decidable (im a b):=by unfold im;infer_instance
theorem uP (a b:Int):ao Tryz.prog 152 [.agg [.i64 a,.i64 b]] (.bool (decide (im a b))):=by
 unfold im
 by_cases h1:0≤a
 ·by_cases h2:a≤1099511627776
  ·by_cases h3:0≤b
   ·refine aB (by kernel_rfl) (fn:=Tryz.f152) (by kernel_rfl) Tryz.func152 rfl (by show 1≤21;decide) (by simp[aa,V.low]) (by simp[V.low]) (ae ?_)
    simp only[go_sem,seval,Tryz.ntmps152,Tryz.results152,h1,h2,h3]
   ·refine aB (by kernel_rfl) (fn:=Tryz.f152) (by kernel_rfl) Tryz.func152 rfl (by show 1≤21;decide) (by simp[aa,V.low]) (by simp[V.low]) (ae ?_)
    simp only[go_sem,seval,Tryz.ntmps152,Tryz.results152,h1,h2,h3,false_and,and_false]
  ·refine aB (by kernel_rfl) (fn:=Tryz.f152) (by kernel_rfl) Tryz.func152 rfl (by show 1≤21;decide) (by simp[aa,V.low]) (by simp[V.low]) (ae ?_)
   simp only[go_sem,seval,Tryz.ntmps152,Tryz.results152,h1,h2,false_and,and_false]
 ·refine aB (by kernel_rfl) (fn:=Tryz.f152) (by kernel_rfl) Tryz.func152 rfl (by show 1≤21;decide) (by simp[aa,V.low]) (by simp[V.low]) (ae ?_)
  simp only[go_sem,seval,Tryz.ntmps152,Tryz.results152,h1,false_and]
def oJ (s:List (BitVec 8)):Int:=aj (BitVec.ofNat 64 (be (s.take 8))-4611686018427387904#64).toNat
def oK (s:List (BitVec 8)):Int:=be ((s.take 12).drop 8)
theorem Vv (s:List (BitVec 8))(h:12≤s.length):aj ((BitVec.ofNat 64 (be ((s.take 12).drop 8))).toNat:Int)=oK s:=by
 have hl:=DB ((s.take 12).drop 8)
 have :((s.take 12).drop 8).length=4:=by simp;omega
 rw[this] at hl
 rw[BitVec.toNat_ofNat,Nat.mod_eq_of_lt (by omega),am (by omega) (by omega)];rfl
theorem KD (s:List (BitVec 8))(h:12≤s.length):ao Tryz.prog 139 [.str s] (.tup (if s.length=12∧im (oJ s) (oK s) then[.agg [.i64 (oJ s),.i64 (oK s)],.i64 0] else[.agg [.i64 0,.i64 0],.i64 5])):=by
 have h':¬ (s.length:Int)<12:=by omega
 have h2:(8:Int)≤s.length:=by omega
 have h3:(12:Int)≤s.length:=by omega
 have hn:=Vv s h
 have hsec:aj ((BitVec.ofNat 64 (be (s.take 8))-4611686018427387904#64).toNat:Int)=oJ s:=rfl
 refine aB (by kernel_rfl) (fn:=Tryz.f139) (by kernel_rfl) Tryz.func139 rfl (by show 1≤29;decide) (by simp[aa,V.low]) (by simp[aa,V.low,LF]) (ae ?_)
 simp only[go_sem,seval,Tryz.ntmps139,h',h2]
 refine aH (jn _ (by simp;omega)) ?_
 simp only[go_sem,seval,h3]
 refine aH (jn _ (by simp;omega)) ?_
 simp only[go_sem,seval,hn,hsec]
 refine⟨by kernel_rfl,?_⟩
 by_cases h4:(12:Int)<s.length
 ·have h5:¬ s.length=12:=by omega
  simp only[go_sem,seval,h4,h5,false_and]
 ·have h5:s.length=12:=by omega
  simp only[go_sem,seval,h5]
  refine ak (uP _ _) ?_
  by_cases h6:im (oJ s) (oK s)
  ·simp only[go_sem,seval,h6]
  ·simp only[go_sem,seval,h6]
def mb (a b:Int):Int:=if a<b then -1 else if b<a then 1 else 0
theorem nM (a:Int):ao Tryz.prog 161 [.i64 a] (.bool false):=by
 refine aB (by kernel_rfl) (fn:=Tryz.f161) (by kernel_rfl) Tryz.func161 rfl (by show 1≤6;decide) (by simp[aa,V.low]) (by simp[V.low]) (ae ?_)
 simp only[go_sem,seval,Tryz.ntmps161,Tryz.results161]
theorem yr (a b:Int):ao Tryz.prog 141 [.i64 a,.i64 b] (.i64 (mb a b)):=by
 unfold mb
 by_cases h1:a<b
 ·refine aB (by kernel_rfl) (fn:=Tryz.f141) (by kernel_rfl) Tryz.func141 rfl (by show 2≤20;decide) (by simp[aa,V.low]) (by simp[V.low]) (ae ?_)
  simp only[go_sem,seval,Tryz.ntmps141]
  refine ak (nM _) ?_
  simp only[go_sem,seval]
  refine ak (nM _) ?_
  simp only[go_sem,seval,h1]
 ·by_cases h2:b<a
  ·refine aB (by kernel_rfl) (fn:=Tryz.f141) (by kernel_rfl) Tryz.func141 rfl (by show 2≤20;decide) (by simp[aa,V.low]) (by simp[V.low]) (ae ?_)
   simp only[go_sem,seval,Tryz.ntmps141]
   refine ak (nM _) ?_
   simp only[go_sem,seval]
   refine ak (nM _) ?_
   simp only[go_sem,seval,h1,h2]
  ·refine aB (by kernel_rfl) (fn:=Tryz.f141) (by kernel_rfl) Tryz.func141 rfl (by show 2≤20;decide) (by simp[aa,V.low]) (by simp[V.low]) (ae ?_)
   simp only[go_sem,seval,Tryz.ntmps141]
   refine ak (nM _) ?_
   simp only[go_sem,seval]
   refine ak (nM _) ?_
   simp only[go_sem,seval,h1,h2]
theorem Qy (x y:Int):ag Tryz.prog 140 [.slice 0 0 2 1] [bK [.i64 x,.i64 y]] (.i64 (if x=0 then y else x)) [bK [.i64 x,.i64 y]]:=by
 by_cases h1:x=0
 ·by_cases h2:y=0
  ·refine ap (by kernel_rfl) (fn:=Tryz.f140) Tryz.func140 rfl (by show 1≤18;decide) (ae ?_)
   simp only[go_sem,seval,Tryz.ntmps140]
   refine aY 3 ?_
   simp only[go_sem,seval,h1,h2]
   exact Fin.ren [0] (by simp) (by simp) (by rfl) (by decide) (by simp) (by simp)
  ·refine ap (by kernel_rfl) (fn:=Tryz.f140) Tryz.func140 rfl (by show 1≤18;decide) (ae ?_)
   simp only[go_sem,seval,Tryz.ntmps140]
   refine aY 3 ?_
   simp only[go_sem,seval,h1,h2]
   exact Fin.ren [0] (by simp) (by simp) (by rfl) (by decide) (by simp) (by simp)
 ·refine ap (by kernel_rfl) (fn:=Tryz.f140) Tryz.func140 rfl (by show 1≤18;decide) (ae ?_)
  simp only[go_sem,seval,Tryz.ntmps140]
  refine aY 3 ?_
  simp only[go_sem,seval,h1]
  exact Fin.ren [0] (by simp) (by simp) (by rfl) (by decide) (by simp) (by simp)
def later (a b c d:Int):Prop:=c<a∨(a=c∧d<b)
instance (a b c d:Int):Decidable (later a b c d):=by unfold later;infer_instance
theorem KE (a b c d:Int):decide (0<if mb a c=0 then mb b d else mb a c)=decide (later a b c d):=by
 unfold later mb
 refine decide_eq_decide.2 ?_
 by_cases h1:a<c
 ·rw[if_pos h1,if_neg (by decide)];omega
 ·rw[if_neg h1]
  by_cases h2:c<a
  ·rw[if_pos h2,if_neg (by decide)];omega
  ·rw[if_neg h2,if_pos rfl]
   by_cases h3:b<d
   ·rw[if_pos h3];omega
   ·rw[if_neg h3]
    by_cases h4:d<b
    ·rw[if_pos h4];omega
    ·rw[if_neg h4];omega
theorem IS (a b c d:Int):ao Tryz.prog 96 [.agg [.i64 a,.i64 b],.agg [.i64 c,.i64 d]] (.bool (decide (later a b c d))):=by
 refine aB (by kernel_rfl) (fn:=Tryz.f96) (by kernel_rfl) Tryz.func96 rfl (by show 2≤18;decide) (by simp[aa,V.low]) (by simp[V.low]) (ae ?_)
 simp only[go_sem,seval,Tryz.ntmps96]
 refine aH (yr _ _) ?_
 simp only[go_sem,seval]
 refine aH (yr _ _) ?_
 simp only[go_sem,seval]
 refine bh [2] (Qy (mb a c) (mb b d)) (by kernel_rfl) (by simp) rfl (by simp) (by first|decide|simp) (by simp) (by simp) (by simp) (by simp) (by simp) ?_
 simp only[go_sem,seval,KE]
 kernel_rfl
theorem IT (a b:Int):ao Tryz.prog 117 [.agg [.i64 a,.i64 b]] (.tup (if im a b then[.str (ar (4611686018427387904+a.toNat) 8++ar b.toNat 4),.i64 0] else[.str [],.i64 1])):=by
 by_cases h:im a b
 ·rw[if_pos h]
  have hok:=h
  obtain⟨h1,h2,h3,h4⟩:=h
  have e3:(4611686018427387904#64+BitVec.ofInt 64 a).toNat=4611686018427387904+a.toNat:=by
   obtain⟨n,rfl⟩:=Int.eq_ofNat_of_zero_le h1
   rw[BitVec.ofInt_natCast,BitVec.toNat_add,BitVec.toNat_ofNat,BitVec.toNat_ofNat]
   simp;omega
  have e4:(BitVec.ofInt 64 b).toNat=b.toNat:=by
   obtain⟨n,rfl⟩:=Int.eq_ofNat_of_zero_le h3
   rw[BitVec.ofInt_natCast,BitVec.toNat_ofNat]
   simp;omega
  have hl:(ar (4611686018427387904+a.toNat) 8).length=8:=aW _ _
  refine aB (by kernel_rfl) (fn:=Tryz.f117) (by kernel_rfl) Tryz.func117 rfl (by show 1≤17;decide) (by simp[aa,V.low]) (by simp[aa,V.low]) (ae ?_)
  simp only[go_sem,seval,Tryz.ntmps117]
  refine ak (uP _ _) ?_
  simp only[go_sem,seval,hok]
  refine bh [] (pi (4611686018427387904#64+BitVec.ofInt 64 a)) (by kernel_rfl) (by simp) rfl (by simp) (by first|decide|simp) (by simp) (by simp) (by simp) (by simp) (by simp) ?_
  simp only[go_sem,seval,e3]
  refine bh [1] (qP (ar (4611686018427387904+a.toNat) 8) (BitVec.ofInt 64 b) (by rw[hl];decide)) (by kernel_rfl) (by simp[hl]) rfl (by simp) (by first|decide|simp) (by simp) (by simp) (by simp) (by simp) (by simp) ?_
  simp only[go_sem,seval,e4,aW,List.take_of_length_le]
  kernel_rfl
 ·rw[if_neg h]
  refine aB (by kernel_rfl) (fn:=Tryz.f117) (by kernel_rfl) Tryz.func117 rfl (by show 1≤17;decide) (by simp[aa,V.low]) (by simp[aa,V.low]) (ae ?_)
  simp only[go_sem,seval,Tryz.ntmps117]
  refine ak (uP _ _) ?_
  simp only[go_sem,seval,h]
theorem nu (n:Int):ao Tryz.prog 118 [.i64 n] (.bool (decide (n=1∨n=2))):=by
 refine aB (by kernel_rfl) (fn:=Tryz.f118) (by kernel_rfl) Tryz.func118 rfl (by show 1≤9;decide) (by simp[aa,V.low]) (by simp[V.low]) (ae ?_)
 simp only[go_sem,seval,Tryz.ntmps118,Tryz.results118]
 by_cases h1:n=1
 ·subst h1;simp only[go_sem,seval];kernel_rfl
 ·by_cases h2:n=2
  ·subst h2;simp only[go_sem,seval];kernel_rfl
  ·simp[h1,h2]
def aT (e:Int)(cs:List V):List (Option Blk):=[bK [.ptr 1 0,.i64 e],bK cs]
attribute [simp, go_sem] aT
end Go.Vm
end
