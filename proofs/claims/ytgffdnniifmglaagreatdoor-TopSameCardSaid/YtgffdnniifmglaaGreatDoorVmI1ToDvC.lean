/- A part of the proof: laws of a small machine of values, or what one function answers, proved against the model; no conditions beyond those in each theorem. -/
import Derived.Lib.OthersKept
import Derived.Test.YtgffdnniifmglaaGreatDoorVmTToTot2
import Derived.Test.YtgffdnniifmglaaGreatDoorVmYToKh3
import Derived.Test.YtgffdnniifmglaaGreatDoorShelfMulToAeO
import Derived.Test.YtgffdnniifmglaaGreatDoorShelfRepToPoY
import Derived.Test.YtgffdnniifmglaaGreatDoorHeadToShA
set_option linter.unusedVariables false
set_option linter.unusedSimpArgs false
set_option linter.unusedSectionVars false
set_option maxRecDepth 20000
set_option maxHeartbeats 8000000
section
namespace Go.Vm
section
open Go Go.RowKit
structure Iter (S:ByteArray) (b:Nat) (w0:World) (ρ:Nat→Nat×Nat) (s:St) (w:World) (pos:Nat):Prop where
 lt:b<s.H.length
 zero:(ρ b).2=0
 young:w0.heap.size≤(ρ b).1
 here:w.heap[(ρ b).1]?=some (.stringIter S pos)
 own:∀ b' B,aa s.H b'=some B→B.ro=false→(ρ b').1≠(ρ b).1
theorem Iter.step {S:ByteArray}{b m:Nat}{w0 w w':World}{ρ ρ':Nat→Nat×Nat}{s s':St}{pos:Nat}(h:Iter S b w0 ρ s w pos)(k:Step m ρ s w ρ' s' w')(hb:b<m):Iter S b w0 ρ' s' w' pos:=by
 obtain⟨k1,k2,k3⟩:=k
 have e:=k2 b hb
 have hlt:(ρ b).1<w.heap.size:=(Array.getElem?_eq_some_iff.1 h.here).1
 refine⟨by omega,by rw[e];exact h.zero,by rw[e];exact h.young,?_,?_⟩
 ·rw[e,k3.keep _ hlt (fun b' B h1 h2=>h.own b' B h1 h2)];exact h.here
 ·intro b' B hB hro
  rw[e]
  rcases k3.own b' B hB hro with⟨b0,B0,g1,g2,g3⟩|g
  ·rw[←g3];exact h.own b0 B0 g1 g2
  ·omega
section
variable {P:Program}{n:Nat}{S:ByteArray}{b:Nat}{w0 w:World}{ρ:Nat→Nat×Nat}{s:St}{a:Act}{pos:Nat}
end
end
section
open Go Go.RowKit
section
variable {P:Program}{m n:Nat}
end
end
section
open Go Go.RowKit
mutual
def V.flat:V→Bool
 | .slice _ _ _ _=>false
 | .fn _ fs cs=>eu fs&&eu cs
 | .agg cs=>eu cs
 | .tup cs=>eu cs
 | .iface _ v=>v.flat
 | .aFn _ _ v=>v.flat
 |_=>true
def eu:List V→Bool
 |[]=>true
 |v::l=>v.flat&&eu l
end
theorem xe:∀ {l:List V} {i:Nat} {v:V},eu l=true→l[i]?=some v→v.flat=true
 |[],i,v,_,h=>by simp at h
 |x::l,0,v,hf,h=>by
  unfold eu at hf
  simp at h;subst h
  exact(Bool.and_eq_true_iff.1 hf).1
 |x::l,i+1,v,hf,h=>by
  unfold eu at hf
  exact xe (Bool.and_eq_true_iff.1 hf).2 (by simpa using h)
theorem x6:∀ (l:List (BitVec 8)),eu (l.map .u8)=true
 |[]=>rfl
 |x::l=>by rw[List.map_cons];unfold eu;rw[x6 l];rfl
section
variable {ρ:Nat→Nat×Nat}{dom:Nat→Prop}{w w':World}
mutual
theorem VR.flat:∀ {v:V} {r:Value},VR ρ dom w v r→v.flat=true→VR ρ dom w' v r
 | .junk,_,_,_=>by unfold VR;trivial
 | .bool _,_,h,_=>by unfold VR at*;exact h
 | .u8 _,_,h,_=>by unfold VR at*;exact h
 | .u32 _,_,h,_=>by unfold VR at*;exact h
 | .u64 _,_,h,_=>by unfold VR at*;exact h
 | .i64 _,_,h,_=>by unfold VR at*;exact h
 | .i32 _,_,h,_=>by unfold VR at*;exact h
 | .str _,_,h,_=>by unfold VR at*;exact h
 | .ptr b _,_,h,_=>by unfold VR at*;exact h
 | .nilPtr,_,h,_=>by unfold VR at*;exact h
 | .slice _ _ _ _,_,_,hf=>by unfold V.flat at hf;cases hf
 | .nilSlice,_,h,_=>by unfold VR at*;exact h
 | .fn _ fs cs,_,h,hf=>by
  unfold V.flat at hf;unfold VR at*
  obtain⟨f',c',h1,h2,h3⟩:=h
  exact⟨f',c',h1,VRs.flat h2 (Bool.and_eq_true_iff.1 hf).1,VRs.flat h3 (Bool.and_eq_true_iff.1 hf).2⟩
 | .nilFn,_,h,_=>by unfold VR at*;exact h
 | .aFn _ _ v,_,h,hf=>by
  unfold V.flat at hf;unfold VR at*
  obtain⟨x,h1,h2⟩:=h
  exact⟨x,h1,VR.flat h2 hf⟩
 | .agg cs,_,h,hf=>by
  unfold V.flat at hf;unfold VR at*
  obtain⟨a,h1,h2⟩:=h
  exact⟨a,h1,VRs.flat h2 hf⟩
 | .tup cs,_,h,hf=>by
  unfold V.flat at hf;unfold VR at*
  obtain⟨a,h1,h2⟩:=h
  exact⟨a,h1,VRs.flat h2 hf⟩
 | .iface _ v,_,h,hf=>by
  unfold V.flat at hf;unfold VR at*
  obtain⟨r',h1,h2⟩:=h
  exact⟨r',h1,VR.flat h2 hf⟩
 | .nilIface,_,h,_=>by unfold VR at*;exact h
 | .map _,_,h,_=>by unfold VR at*;exact h
theorem VRs.flat:∀ {vs:List V} {rs:List Value},VRs ρ dom w vs rs→eu vs=true→VRs ρ dom w' vs rs
 |[],_,h,_=>by unfold VRs at*;exact h
 |v::vs,_,h,hf=>by
  unfold eu at hf;unfold VRs at*
  obtain⟨r,rs,h1,h2,h3⟩:=h
  exact⟨r,rs,h1,VR.flat h2 (Bool.and_eq_true_iff.1 hf).1,VRs.flat h3 (Bool.and_eq_true_iff.1 hf).2⟩
end
end
def hO (l:List (Nat×V)):Bool:=l.all fun p=>p.2.flat
def gf:List (Option Blk)→Bool
 |[]=>true
 |none::l=>gf l
 |some B::l=>eu B.cs&&gf l
theorem uo:∀ {l:List (Nat×V)},hO l=true→∀ t,(ae l t).flat=true
 |[],_,_=>rfl
 |p::l,h,t=>by
  unfold hO at h
  simp only[List.all_cons,Bool.and_eq_true] at h
  unfold ae
  split
  ·exact h.1
  ·exact uo (l:=l) h.2 t
theorem qe:∀ {l:List (Option Blk)} {b:Nat} {B:Blk},gf l=true→aa l b=some B→eu B.cs=true
 |[],_,_,_,h=>by simp[aa] at h
 |none::l,0,B,hf,h=>by simp[aa] at h
 |some C::l,0,B,hf,h=>by
  unfold gf at hf
  simp[aa] at h;subst h
  exact(Bool.and_eq_true_iff.1 hf).1
 |none::l,b+1,B,hf,h=>by
  unfold gf at hf
  exact qe hf (by simpa [aa] using h)
 |some C::l,b+1,B,hf,h=>by
  unfold gf at hf
  exact qe (Bool.and_eq_true_iff.1 hf).2 (by simpa [aa] using h)
def cu (L:List Nat):List (Option Blk)→Nat→Prop
 |[],_=>True
 |none::l,i=>cu L l (i+1)
 |some _::l,i=>i∈L∧cu L l (i+1)
theorem oB {L:List Nat}:∀ {l:List (Option Blk)} {i b:Nat} {B:Blk},cu L l i→aa l b=some B→i+b∈L
 |[],_,_,_,_,h=>by simp[aa] at h
 |none::l,i,0,B,_,h=>by simp[aa] at h
 |some C::l,i,0,B,hk,h=>hk.1
 |none::l,i,b+1,B,hk,h=>by
  have :=oB (l:=l) (i:=i+1) (b:=b) hk (by simpa [aa] using h)
  rw[show i+(b+1)=i+1+b by omega];exact this
 |some C::l,i,b+1,B,hk,h=>by
  have :=oB (l:=l) (i:=i+1) (b:=b) hk.2 (by simpa [aa] using h)
  rw[show i+(b+1)=i+1+b by omega];exact this
def cellsOf (l:List af):List Value:=Lib.byteCells (l.map UInt8.ofBitVec)
theorem CW (l:List af)(s:ByteArray):cellsOf l++Lib.strCells s=cellsOf (l++bytesOf s):=by
 unfold cellsOf
 rw[Lib.strCells_eq,←Lib.byteCells_append,List.map_append]
 congr 2
 unfold bytesOf
 simp only[List.map_map]
 conv=>lhs;rw[←List.map_id s.data.toList]
 exact List.map_congr_left fun _ _=>rfl
theorem AU (l:List af):(cellsOf l).length=l.length:=by unfold cellsOf;rw[Lib.byteCells_length,List.length_map]
structure Bld (T e:TypeId) (base b:Nat) (L:List Nat) (l:List af) (ρ:Nat→Nat×Nat) (s:St) (w:World):Prop where
 lt:b<s.H.length
 zero:(ρ b).2=0
 here:Lib.IsBuilder T e base (ρ b).1 (cellsOf l) w
 size:base≤w.heap.size
 low:∀ x∈L,(ρ x).1<base
theorem BX {T e:TypeId}{base b:Nat}{bs:List Value}{w w':World}(h:Lib.IsBuilder T e base b bs w)(hk:∀ r,base≤r→r<w.heap.size→w'.heap[r]?=w.heap[r]?):Lib.IsBuilder T e base b bs w':=by
 have key:∀ p,Lib.BuilderAt T e base b p bs w→Lib.BuilderAt T e base b p bs w':=by
  rintro p ⟨hB,v,hb,hown,hne⟩
  have hlt:∀ r o,w.heap[r]?=some o→r<w.heap.size:=fun r o h=>(Array.getElem?_eq_some_iff.1 h).1
  refine⟨hB,v,by rw[hk b hB (hlt _ _ hb)];exact hb,?_,hne⟩
  obtain⟨h1,h2⟩:=hown
  refine⟨h1,?_⟩
  rcases h2 with h2|⟨g,cap,cur,g1,g2,g3,g4⟩
  ·exact .inl h2
  ·exact .inr ⟨g,cap,cur,g1,g2,by rw[hk g g2 (hlt _ _ g3)];exact g3,g4⟩
 exact h.elim (fun x=> .inl (key _ x)) (fun x=> .inr (key _ x))
section
variable {P:Program}{m n:Nat}{T e:TypeId}{base b:Nat}{L:List Nat}{m0:Nat}{ρ0:Nat→Nat×Nat}{s0:St}{w0:World}
theorem Bld.step {ρ ρ':Nat→Nat×Nat}{s s':St}{w w':World}{l:List af}(h:Bld T e base b L l ρ s w)(k:Step m ρ s w ρ' s' w')(hb:b<m)(hL:∀ x∈L,x<m)(hk:cu L s.H 0):Bld T e base b L l ρ' s' w':=by
 obtain⟨k1,k2,k3⟩:=k
 have e:=k2 b hb
 refine⟨by omega,by rw[e];exact h.zero,?_,Nat.le_trans h.size k3.size,fun x hx=>by rw[k2 x (hL x hx)];exact h.low x hx⟩
 rw[e]
 refine BX h.here fun r h1 h2=>k3.keep r h2 fun x B hx _=>?_
 have :=oB hk hx
 rw[Nat.zero_add] at this
 have :=h.low x this
 omega
theorem xf {ρ:Nat→Nat×Nat}{s:St}{a:Act}{w w':World}(hr:RelSt ρ n s a w)(ht:hO s.t=true)(hH:gf s.H=true)(hlow:∀ x B,aa s.H x=some B→(ρ x).1<base)(hsz:base≤w.heap.size)(hb:Below base w w'):RelSt ρ n s a w':=by
 refine⟨⟨hr.tmps.size,hr.tmps.defers,fun t=>(hr.tmps.slot t).flat (uo ht t)⟩,hr.mem.has,fun x B hx=>Nat.lt_of_lt_of_le (hr.mem.lt x B hx) hb.size,hr.mem.inj,fun x B hx i v hv=>?_,fun x B hx ho i hi=>?_,fun x B mm hx hmp=>?_⟩
 ·obtain⟨r,g1,g2⟩:=hr.mem.cell x B hx i v hv
  exact⟨r,by rw[hb.cell (hlow x B hx)];exact g1,g2.flat (xe (qe hH hx) hv)⟩
 ·rw[hb.frozen (hlow x B hx)]
  exact hr.mem.free x B hx ho i hi
 ·exact ge (hr.mem.mapc x B mm hx hmp) (hb.block _ (hlow x B hx))
theorem vW {ρ:Nat→Nat×Nat}{s:St}{w w':World}(h:Step m0 ρ0 s0 w0 ρ s w)(hsz:w0.heap.size≤base)(hb:Below base w w'):Step m0 ρ0 s0 w0 ρ s w':=by
 obtain⟨h1,h2,h3⟩:=h
 refine⟨h1,h2,hb.os.trans h3.os,hb.output.trans h3.output,hb.tape.trans h3.tape,Nat.le_trans h3.size hb.size,fun r hr hn=>?_,fun p o hp=>?_,h3.own⟩
 ·rw[hb.block r (by omega)];exact h3.keep r hr hn
 ·have hlt:p<w0.heap.size:=by
   obtain⟨u,hu⟩:=Option.isSome_iff_exists.1 hp
   exact World.block_lt_of_cell? (a:=⟨p,o,none⟩) w0 hu
  have :=h3.lasts p o hp
  rw[hb.cell (p:=⟨p,o,none⟩) (by show p<base;omega),hb.frozen (p:=⟨p,o,none⟩) (by show p<base;omega)]
  exact this
def BQ (n m:Nat)(T e:TypeId)(base b:Nat)(L:List Nat)(m0:Nat)(ρ0:Nat→Nat×Nat)(s0:St)(w0:World)(Q:Exit→St→List af→Prop)(x:Exit)(a':Act)(w':World):Prop:=
 ∃ s' ρ' l',Q x s' l'∧RelSt ρ' n s' a' w'∧m≤s'.H.length∧Step m0 ρ0 s0 w0 ρ' s' w'∧Bld T e base b L l' ρ' s' w'
def GB (P:Program)(m n:Nat)(T e:TypeId)(base b:Nat)(L:List Nat)(m0:Nat)(ρ0:Nat→Nat×Nat)(s0:St)(w0:World)(c:Code)(Q:Exit→St→List af→Prop)(s:St)(l:List af):Prop:=
 ∀ (ρ:Nat→Nat×Nat) (a:Act) (w:World),RelSt ρ n s a w→m≤s.H.length→Step m0 ρ0 s0 w0 ρ s w→Bld T e base b L l ρ s w→c.wp P (BQ n m T e base b L m0 ρ0 s0 w0 Q) a w
def GF (P:Program)(m n:Nat)(T e:TypeId)(base b:Nat)(L:List Nat)(m0:Nat)(ρ0:Nat→Nat×Nat)(s0:St)(w0:World)(c:Code)(Q:Exit→St→Prop)(s:St)(l:List af):Prop:=
 ∀ (ρ:Nat→Nat×Nat) (a:Act) (w:World),RelSt ρ n s a w→m≤s.H.length→Step m0 ρ0 s0 w0 ρ s w→Bld T e base b L l ρ s w→c.wp P (pD m0 n ρ0 s0 w0 Q) a w
def pP (K:St→List af→Prop)(Q:Exit→St→List af→Prop):Exit→St→List af→Prop
 | .normal,s,l=>K s l
 |e,s,l=>Q e s l
def ua (id:Nat)(Q:Exit→St→List af→Prop):Exit→St→List af→Prop
 | .exit i,s,l=>if i=id then Q .normal s l else Q (.exit i) s l
 |e,s,l=>Q e s l
def Rj (K:St→List af→Prop):Exit→St→List af→Prop
 | .normal,s,l=>K s l
 |_,_,_=>False
theorem Step.cut {ρ ρ':Nat→Nat×Nat}{s s':St}{w w':World}(h:Step m ρ s w ρ' s' w')(hm:m0≤m):Step m0 ρ s w ρ' s' w':=⟨Nat.le_trans hm h.1,fun x hx=>h.2.1 x (by omega),h.2.2⟩
theorem nt (hmix:P.follows .mixedOrders=true)(hb:b<m)(hL:∀ x∈L,x<m)(hm0:m0≤m){c:Code}{Q:Exit→St→List af→Prop}{s:St}{l:List af}(hk:cu L s.H 0)
  (h:vc P m n c (fun x s'=>Q x s' l) s):GB P m n T e base b L m0 ρ0 s0 w0 c Q s l:=fun ρ a w hr hm hs hB=>by
 refine wp_mono (gz hmix c _ s h ρ a w hr hm) ?_
 rintro x a' w' ⟨s',ρ',q1,q2,q3⟩
 exact⟨s',ρ',l,q1,q2,q3.1,hs.trans (q3.cut hm0),hB.step q3 hb hL hk⟩
theorem m5 (hb:b<m)(hL:∀ x∈L,x<m)(hm0:m0≤m){c:Code}{Q:Exit→St→List af→Prop}{s s1:St}{l:List af}(hk:cu L s.H 0)
  (h:GB P m n T e base b L m0 ρ0 s0 w0 c Q s1 l) (hw:Weak m n s s1):GB P m n T e base b L m0 ρ0 s0 w0 c Q s l:=fun ρ a w hr hm hs hB=>by
 obtain⟨ρ',h1,h2⟩:=hw.go ρ a w hr hm
 exact h ρ' a w h1 h2.1 (hs.trans (h2.cut hm0)) (hB.step h2 hb hL hk)
theorem MB (hb:b<m)(hL:∀ x∈L,x<m)(hm0:m0≤m){c:Code}{Q:Exit→St→Prop}{s s1:St}{l:List af}(hk:cu L s.H 0)
  (h:GF P m n T e base b L m0 ρ0 s0 w0 c Q s1 l) (hw:Weak m n s s1):GF P m n T e base b L m0 ρ0 s0 w0 c Q s l:=fun ρ a w hr hm hs hB=>by
 obtain⟨ρ',h1,h2⟩:=hw.go ρ a w hr hm
 exact h ρ' a w h1 h2.1 (hs.trans (h2.cut hm0)) (hB.step h2 hb hL hk)
theorem nh {x y:Code}{K:St→List af→Prop}{Q:Exit→St→List af→Prop}{s:St}{l:List af}(hx:GB P m n T e base b L m0 ρ0 s0 w0 x (pP K Q) s l)(hy:∀ s' l',K s' l'→GB P m n T e base b L m0 ρ0 s0 w0 y Q s' l'):GB P m n T e base b L m0 ρ0 s0 w0 (.seq x y) Q s l:=fun ρ a w hr hm hs hB=>by
 refine wp_seq (wp_mono (hx ρ a w hr hm hs hB) ?_)
 rintro z a' w' ⟨s',ρ',l',q1,q2,q3,q4,q5⟩
 cases z
 case normal=>exact hy s' l' q1 ρ' a' w' q2 q3 q4 q5
 all_goals exact⟨s',ρ',l',q1,q2,q3,q4,q5⟩
theorem Pn {x y:Code}{K:St→List af→Prop}{Q:Exit→St→Prop}{s:St}{l:List af}(hx:GB P m n T e base b L m0 ρ0 s0 w0 x (Rj K) s l)(hy:∀ s' l',K s' l'→GF P m n T e base b L m0 ρ0 s0 w0 y Q s' l'):GF P m n T e base b L m0 ρ0 s0 w0 (.seq x y) Q s l:=fun ρ a w hr hm hs hB=>by
 refine wp_seq (wp_mono (hx ρ a w hr hm hs hB) ?_)
 rintro z a' w' ⟨s',ρ',l',q1,q2,q3,q4,q5⟩
 cases z
 case normal=>exact hy s' l' q1 ρ' a' w' q2 q3 q4 q5
 all_goals exact q1.elim
theorem x7 {id:Nat}{c:Code}{Q:Exit→St→List af→Prop}{s:St}{l:List af}(h:GB P m n T e base b L m0 ρ0 s0 w0 c (ua id Q) s l):GB P m n T e base b L m0 ρ0 s0 w0 (.block id c) Q s l:=fun ρ a w hr hm hs hB=>by
 refine wp_block (wp_mono (h ρ a w hr hm hs hB) ?_)
 rintro z a' w' ⟨s',ρ',l',q1,q⟩
 cases z
 case exit i=>
  simp only[ua] at q1
  simp only[Exit.inBlock]
  split at q1
  ·rename_i h;rw[if_pos h];exact⟨s',ρ',l',q1,q⟩
  ·rename_i h;rw[if_neg h];exact⟨s',ρ',l',q1,q⟩
 all_goals exact⟨s',ρ',l',q1,q⟩
theorem MC {c:Code}{Q:Exit→St→List af→Prop}{s:St}{l:List af}(I:Nat→St→List af→Prop){k0:Nat}(h0:I k0 s l)
  (hr:∀ k s l,I k s l→GB P m n T e base b L m0 ρ0 s0 w0 c (pP (fun s' l'=>∃ k',k'<k∧I k' s' l') Q) s l):GB P m n T e base b L m0 ρ0 s0 w0 (.loop c) Q s l:=fun ρ a w hr0 hm hs hB=>by
 refine qH (fun k a1 w1=>∃ s1 ρ1 l1,I k s1 l1∧RelSt ρ1 n s1 a1 w1∧m≤s1.H.length∧Step m0 ρ0 s0 w0 ρ1 s1 w1∧Bld T e base b L l1 ρ1 s1 w1) (k0:=k0) ⟨s,ρ,l,h0,hr0,hm,hs,hB⟩ ?_
 rintro k a1 w1 ⟨s1,ρ1,l1,i1,i2,i3,i4,i5⟩
 refine wp_mono (hr k s1 l1 i1 ρ1 a1 w1 i2 i3 i4 i5) ?_
 rintro z a' w' ⟨s',ρ',l',q1,q2,q3,q4,q5⟩
 cases z
 case normal=>
  obtain⟨k',hk,hi⟩:=q1
  exact⟨k',hk,s',ρ',l',hi,q2,q3,q4,q5⟩
 all_goals exact⟨s',ρ',l',q1,q2,q3,q4,q5⟩
end
end
section
open Go Go.RowKit
section
variable {P:Program}{m n:Nat}{T e:TypeId}{base b:Nat}{L:List Nat}{m0:Nat}{ρ0:Nat→Nat×Nat}{s0:St}{w0:World}
def zj (P:Program)(f:FuncId)(T e:TypeId):Prop:=∀ (B b:Nat) (bs:List Value) (s:ByteArray) (w:World),Lib.IsBuilder T e B b bs w→bs.length+s.size≤140737488355328→B≤w.heap.size→
 Calls P f #[.pointer (some ⟨b,0,none⟩),.string s] w fun x w'=>x= .returned (.tuple #[.int .i64 s.size,.nilIface])∧(Lib.BuilderAt T e B b (.pointer (some ⟨b,0,none⟩)) (bs++Lib.strCells s) w'∧Below B w w')
def Strings (P:Program)(f:FuncId)(T e:TypeId):Prop:=∀ (B b:Nat) (l:List UInt8) (w:World),Lib.IsBuilder T e B b (Lib.byteCells l) w→B≤w.heap.size→
 Calls P f #[.pointer (some ⟨b,0,none⟩)] w fun x w'=>x= .returned (.string ⟨l.toArray⟩)∧Below B w w'
theorem zk {s:St}{ρ:Nat→Nat×Nat}{w:World}{l:List af}(h:Bld T e base b L l ρ s w)(hk:cu L s.H 0):∀ x B,aa s.H x=some B→(ρ x).1<base:=fun x B hx=>by
 have :=oB hk hx
 rw[Nat.zero_add] at this
 exact h.low x this
theorem Bj {s:St}{d:Tmp}{v:V}(h:hO s.t=true)(hv:v.flat=true):hO (s.put (some d) v).t=true:=by
 show hO ((d,v)::s.t)=true
 unfold hO at*
 rw[List.all_cons,hv,h];rfl
theorem Jf {f:FuncId}(hf:cw P f=true)(hw:zj P f T e)(hsz:w0.heap.size≤base){id:Nat}{o1 o2:Oper}{x:Operand}{tb tz td:Tmp}{ats:Array TypeId}{s:St}{l y:List af}{Q:Exit→St→List af→Prop}
  (h1:o1.op= .move x) (g1:o1.guard=none) (d1:o1.dst=some tz) (z1:tz<n)
  (h2:o2.op= .call ⟨.value (.func f),#[.tmp tb,.tmp tz],ats⟩) (g2:o2.guard=none) (d2:o2.dst=some td) (z2:td<n)
  (hx:s.ev x= .str y) (hb:(s.put (some tz) (.str y)).get tb= .ptr b 0) (hlen:l.length+y.length≤140737488355328)
  (ht:hO s.t=true) (hH:gf s.H=true) (hk:cu L s.H 0)
  (hq:Q .normal ((s.put (some tz) (.str y)).put (some td) (.tup [.i64 y.length,.nilIface])) (l++y)):GB P m n T e base b L m0 ρ0 s0 w0 (.region id #[o1,o2] false) Q s l:=by
 intro ρ a w hr hm hs hB
 have hxv:=hr.tmps.eval x
 rw[hx] at hxv
 unfold VR at hxv
 obtain⟨S,hS,hbs⟩:=hxv
 refine wp_region ?_
 have k1:(execOp a.eval o1).run P w= .ok (.value (.string S)) w:=by
  unfold execOp
  rw[h1]
  simp only[hS,Sem.run_pure]
 have w1:Region.wanted o1 (yielded #[o1,o2] a.tmps)=true:=by unfold Region.wanted;rw[g1]
 show wpOps P #[o1,o2] _ [0,1] a w
 simp only[wpOps,List.getElem?_toArray,List.getElem?_cons_zero,w1,if_true]
 refine .inl ?_
 unfold Oper.wp
 rw[k1,Oper.upon_value,d1]
 have hr1:RelSt ρ n (s.put (some tz) (.str y)) (a.put (some tz) (.string S)) w:=⟨RelT.put hr.tmps (show di n (some tz) from z1) (by unfold VR;exact⟨S,rfl,hbs⟩),hr.mem⟩
 have w2:Region.wanted o2 (yielded #[o1,o2] (a.put (some tz) (.string S)).tmps)=true:=by unfold Region.wanted;rw[g2]
 have hz:(a.put (some tz) (.string S)).tmps.getD tz undef= .string S:=by
  rw[mO a tz _ tz (by rw[hr.tmps.size];exact z1),if_pos rfl]
 have hbv:=hr1.tmps.slot tb
 rw[hb] at hbv
 unfold VR at hbv
 obtain⟨_,hbv⟩:=hbv
 rw[hB.zero,Nat.zero_add] at hbv
 have k2:(execOp (a.put (some tz) (.string S)).eval o2).run P w= .ok (.enter f #[.pointer (some ⟨(ρ b).1,0,none⟩),.string S]) w:=by
  unfold execOp
  rw[h2]
  simp only[resolve,Act.eval,Deferred.ofValue,Sem.run_bind,Sem.run_pure,Result.andThen_ok,invoke,List.map_toArray,List.map_cons,List.map_nil,hz,hbv]
  rw[show(#[]++#[Value.pointer (some ⟨(ρ b).1,0,none⟩),Value.string S]++#[]:Array Value)=#[.pointer (some ⟨(ρ b).1,0,none⟩),.string S] from rfl,mg hf]
 simp only[List.getElem?_cons_succ,List.getElem?_cons_zero,w2,if_true]
 refine .inl ?_
 rw[k2,Oper.upon_enter]
 have hS2:S.size=y.length:=by rw[←hbs,fe]
 refine(hw base (ρ b).1 (cellsOf l) S w hB.here (by rw[AU,hS2];exact hlen) hB.size).mono ?_
 rintro z w' ⟨rfl,hbl,hbel⟩
 rw[d2]
 show BQ n m T e base b L m0 ρ0 s0 w0 Q .normal ((a.put (some tz) (.string S)).put (some td) _) w'
 have hr2:RelSt ρ n (s.put (some tz) (.str y)) (a.put (some tz) (.string S)) w':=xf hr1 (Bj ht rfl) hH (fun x B hx=>zk hB hk x B hx) hB.size hbel
 refine⟨_,ρ,l++y,hq,⟨RelT.put hr2.tmps (show di n (some td) from z2) ?_,hr2.mem⟩,hm,vW hs hsz hbel,hB.lt,hB.zero,.inr ?_,Nat.le_trans hB.size hbel.size,hB.low⟩
 ·unfold VR
  refine⟨_,rfl,VRs.cons (by unfold VR;rw[hS2]) (VRs.cons (by unfold VR;rfl) VRs.nil)⟩
 ·rw[←hbs,←CW];exact hbl
theorem FL {f:FuncId}(hf:cw P f=true)(hw:Strings P f T e)(hsz:w0.heap.size≤base){id:Nat}{o1 o2:Oper}{tb td te:Tmp}{ats:Array TypeId}{s:St}{l:List af}{c2:Code}{Q:Exit→St→Prop}
  (h1:o1.op= .call ⟨.value (.func f),#[.tmp tb],ats⟩) (g1:o1.guard=none) (d1:o1.dst=some td) (z1:td<n)
  (h2:o2.op= .assign (.tmp td)) (g2:o2.guard=none) (d2:o2.dst=some te) (z2:te<n)
  (hb:s.get tb= .ptr b 0)
  (ht:hO s.t=true) (hH:gf s.H=true) (hk:cu L s.H 0) (hm0:m0≤m)
  (hq:GS P m0 n c2 Q ((s.put (some td) (.str l)).put (some te) (.str l))):GF P m n T e base b L m0 ρ0 s0 w0 (.seq (.region id #[o1,o2] false) c2) Q s l:=by
 intro ρ a w hr hm hs hB
 refine wp_seq (wp_region ?_)
 have w1:Region.wanted o1 (yielded #[o1,o2] a.tmps)=true:=by unfold Region.wanted;rw[g1]
 have hbv:=hr.tmps.slot tb
 rw[hb] at hbv
 unfold VR at hbv
 obtain⟨_,hbv⟩:=hbv
 rw[hB.zero,Nat.zero_add] at hbv
 have k1:(execOp a.eval o1).run P w= .ok (.enter f #[.pointer (some ⟨(ρ b).1,0,none⟩)]) w:=by
  unfold execOp
  rw[h1]
  simp only[resolve,Act.eval,Deferred.ofValue,Sem.run_bind,Sem.run_pure,Result.andThen_ok,invoke,List.map_toArray,List.map_cons,List.map_nil,hbv]
  rw[show(#[]++#[Value.pointer (some ⟨(ρ b).1,0,none⟩)]++#[]:Array Value)=#[.pointer (some ⟨(ρ b).1,0,none⟩)] from rfl,mg hf]
 show wpOps P #[o1,o2] _ [0,1] a w
 simp only[wpOps,List.getElem?_toArray,List.getElem?_cons_zero,w1,if_true]
 refine .inl ?_
 unfold Oper.wp
 rw[k1,Oper.upon_enter]
 refine(hw base (ρ b).1 (l.map UInt8.ofBitVec) w hB.here hB.size).mono ?_
 rintro z w' ⟨rfl,hbel⟩
 rw[d1]
 have hr2:RelSt ρ n s a w':=xf hr ht hH (zk hB hk) hB.size hbel
 have hst:VR ρ (· <s.H.length) w' (.str l) (.string ⟨(l.map UInt8.ofBitVec).toArray⟩):=by
  unfold VR
  exact⟨_,rfl,uq l⟩
 have hr3:RelSt ρ n (s.put (some td) (.str l)) (a.put (some td) (.string ⟨(l.map UInt8.ofBitVec).toArray⟩)) w':=⟨RelT.put hr2.tmps (show di n (some td) from z1) hst,hr2.mem⟩
 have w2:Region.wanted o2 (yielded #[o1,o2] (a.put (some td) (.string ⟨(l.map UInt8.ofBitVec).toArray⟩)).tmps)=true:=by unfold Region.wanted;rw[g2]
 have hz:(a.put (some td) (.string ⟨(l.map UInt8.ofBitVec).toArray⟩)).tmps.getD td undef= .string ⟨(l.map UInt8.ofBitVec).toArray⟩:=by
  rw[mO a td _ td (by rw[hr.tmps.size];exact z1),if_pos rfl]
 have k2:(execOp (a.put (some td) (.string ⟨(l.map UInt8.ofBitVec).toArray⟩)).eval o2).run P w'= .ok (.value (.string ⟨(l.map UInt8.ofBitVec).toArray⟩)) w':=by
  unfold execOp
  rw[h2]
  simp only[Act.eval,hz,Sem.run_pure]
 simp only[List.getElem?_cons_succ,List.getElem?_cons_zero,w2,if_true]
 refine .inl ?_
 rw[k2,Oper.upon_value,d2]
 have hr4:RelSt ρ n ((s.put (some td) (.str l)).put (some te) (.str l)) ((a.put (some td) (.string ⟨(l.map UInt8.ofBitVec).toArray⟩)).put (some te) (.string ⟨(l.map UInt8.ofBitVec).toArray⟩)) w':=⟨RelT.put hr3.tmps (show di n (some te) from z2) hst,hr3.mem⟩
 have hs4:Step m0 ρ0 s0 w0 ρ ((s.put (some td) (.str l)).put (some te) (.str l)) w':=vW hs hsz hbel
 refine wp_mono (hq ρ _ w' hr4 (by show m0≤s.H.length;omega)) ?_
 rintro z a' w'' ⟨s',ρ',q1,q2,q3⟩
 exact⟨s',ρ',q1,q2,hs4.trans q3⟩
theorem D3 (hz:∀ w,(zeroValue T).run P w= .ok (.agg #[.pointer none,.slice none 0 0]) w){id:Nat}{o:Oper}{td:Tmp}{c2:Code}{s:St}{Q:Exit→St→Prop}
  (h1:o.op= .alloc T) (g1:o.guard=none) (d1:o.dst=some td) (z1:td<n) (hL:∀ x∈L,(aa s.H x).isSome=true)
  (h:∀ (ρ0:Nat→Nat×Nat) (w0:World),GF P (s.H.length+1) n T e w0.heap.size s.H.length L m0 ρ0 s w0 c2 Q ⟨cz s.t (some td) (.ptr s.H.length 0),s.H++[none]⟩ []):GS P m0 n (.seq (.region id #[o] false) c2) Q s:=by
 intro ρ a w hr hm
 refine wp_seq (wp_region ?_)
 have w1:Region.wanted o (yielded #[o] a.tmps)=true:=by unfold Region.wanted;rw[g1]
 show wpOps P #[o] _ [0] a w
 simp only[wpOps,List.getElem?_toArray,List.getElem?_cons_zero,w1,if_true]
 refine .inl ?_
 have k1:(execOp a.eval o).run P w= .ok (.value (.pointer (some ⟨w.heap.size,0,none⟩))) (w.alloc (.cells #[.pointer none,.slice none 0 0] T)):=by
  unfold execOp
  rw[h1]
  simp[Instr.alloc,hz,newVar,newRow,Value.cells]
 unfold Oper.wp
 rw[k1,Oper.upon_value,d1]
 obtain⟨i1,i2⟩:=vk (m0:=m0) hr hm z1 (.cells #[.pointer none,.slice none 0 0] T)
 have e0:(fun k=>if k=s.H.length then(w.heap.size,0) else ρ k) s.H.length=(w.heap.size,0):=if_pos rfl
 refine h ρ w _ _ _ i1 (by simp) i2 ⟨by simp,by rw[if_pos rfl],?_,?_,fun x hx=>?_⟩
 ·rw[if_pos rfl]
  exact Lib.fresh_isBuilder T e w
 ·show w.heap.size≤(w.heap.push _).size
  rw[Array.size_push];omega
 ·obtain⟨B,hB⟩:=Option.isSome_iff_exists.1 (hL x hx)
  have hne:x≠s.H.length:=by have :=aj hB;omega
  show((if x=s.H.length then(w.heap.size,0) else ρ x):Nat×Nat).1<_
  rw[if_neg hne]
  exact hr.mem.lt x B hB
end
end
end Go.Vm
end
section
namespace Go.Vm
open Go.Proofs
def dQ (E:Nat→List (BitVec 8)):Nat→List (BitVec 8)
 |0=>[]
 |i+1=>dQ E i++E (2+i)
theorem qY (E:Nat→List (BitVec 8))(hE:∀ c,(E c).length=16)(i:Nat):(dQ E i).length=16*i:=by
 induction i with
 |zero=>rfl
 |succ i ih=>rw[dQ,List.length_append,ih,hE];omega
theorem AV:zj Tryz.prog 51 (shelf_lays105_ren.t 72) (shelf_lays105_ren.t 5):=fun B b bs s w h hl hB=>Any.Builder_WriteString {shelf_lays105 with} pU B b bs s w h hl hB
theorem AB:Strings Tryz.prog 53 (shelf_lays105_ren.t 72) (shelf_lays105_ren.t 5):=fun B b l w h hB=>Any.Builder_String_any {shelf_lays105 with} pU B b l w h hB
theorem BY:∀ w,(zeroValue (shelf_lays105_ren.t 72)).run Tryz.prog w= .ok (.agg #[.pointer none,.slice none 0 0]) w:=shelf_lays105.v72
theorem D4 (E:Nat→List (BitVec 8))(hE:∀ c,(E c).length=16)(t:List (BitVec 8))(i:Nat)(h:16*i≤t.length):aO t (dQ E i)++aO (t.drop (16*i)) (E (2+i))=aO t (dQ E (i+1)):=by
 have hl:=qY E hE i
 rw[dQ,xW t (dQ E i) (E (2+i)) (by omega),hl]
theorem D5 (E:Nat→List (BitVec 8))(hE:∀ c,(E c).length=16)(t:List (BitVec 8))(i:Nat):(t.drop (16*i)).drop (aO (t.drop (16*i)) (E (2+i))).length=t.drop (16*(i+1)):=by
 rw[eC,hE,List.drop_drop,List.length_drop]
 by_cases h:t.length-16*i≤16
 ·rw[List.drop_eq_nil_of_le (by omega),List.drop_eq_nil_of_le (by omega)]
 ·rw[Nat.min_eq_right (by omega)];congr 1
theorem vX (E:Nat→List (BitVec 8))(hE:∀ c,(E c).length=16)(n K T t:List (BitVec 8))(R:Nat)(hEe:∀ c,E c=cA (n++bz c 4) K R (R-1))(hn:n.length=12)(ht:t.length≤2016)(hR:2≤R)(hR2:R≤20)(hK:K.length=16*R)(hT:T.length=512)(hf:∀ b:BitVec 8,T.getD (0+b.toNat) 0=b9 b):
  ao Tryz.prog 242 [.agg [.ptr 0 0,.str n],.str t] [some ⟨false,[.ptr 1 0,.str K],none⟩,some ⟨false,T.map .u8,none⟩] (.str (aO t (dQ E ((t.length+15)/16)))) [some ⟨false,[.ptr 1 0,.str K],none⟩,some ⟨false,T.map .u8,none⟩]:=by
 have hblk:∀ c:Nat,c≤100000→ao Tryz.prog 248 [.agg [.ptr 0 0,.str n],.i64 c] [some ⟨false,[.ptr 1 0,.str K],none⟩,some ⟨false,T.map .u8,none⟩] (.str (E c)) [some ⟨false,[.ptr 1 0,.str K],none⟩,some ⟨false,T.map .u8,none⟩]:=fun c hc=>by
  rw[hEe]
  exact vD n K T R c hn hc hR hR2 hK hT hf
 generalize hrd:(t.length+15)/16=rd
 have hrd1:t.length≤16*rd:=by omega
 have hrd2:16*rd≤t.length+15:=by omega
 have hflT:=x6 T
 refine n7 (fn:=Tryz.f242) Tryz.func242 rfl (by show 2≤24;decide) ?_
 refine iY (K:=fun st=>Weak 2 24 st ⟨[(1,.str t),(2,.ptr 2 0)],[some ⟨false,[.ptr 1 0,.str K],none⟩,some ⟨false,T.map .u8,none⟩,some ⟨false,[.ptr 0 0,.str n],none⟩]⟩) (iS (by kernel_rfl) (ag ?_)) (fun st hst=>lh ?_ hst)
 ·simp only[go_sem,seval]
  refine Weak.drop ?_ rfl (fun _ _ h=>h)
  simp[St.get,ae]
 refine D3 (L:=[0,1,2]) (e:=shelf_lays105_ren.t 5) BY rfl rfl rfl (by decide) (by simp[aa]) (fun ρ0 w0=>?_)
 show GF Tryz.prog 4 24 (shelf_lays105_ren.t 72) (shelf_lays105_ren.t 5) w0.heap.size 3 [0,1,2] 2 ρ0 _ w0 _ _ _ _
 let J:Nat→St:=fun i=>⟨[(1,.str (t.drop (16*i))),(2,.ptr 2 0),(5,.ptr 3 0),(6,.i64 (2+i:Nat))],[some ⟨false,[.ptr 1 0,.str K],none⟩,some ⟨false,T.map .u8,none⟩,some ⟨false,[.ptr 0 0,.str n],none⟩,none]⟩
 refine Pn (K:=fun st l=>cu [0,1,2] st.H 0∧l=aO t (dQ E rd)∧Weak 4 24 st ⟨[(5,.ptr 3 0)],[some ⟨false,[.ptr 1 0,.str K],none⟩,some ⟨false,T.map .u8,none⟩,some ⟨false,[.ptr 0 0,.str n],none⟩,none]⟩) ?_ (fun st l hst=>?_)
 rotate_left
 ·obtain⟨k1,rfl,k2⟩:=hst
  refine MB (by decide) (by decide) (by decide) k1 ?_ k2
  refine FL (by kernel_rfl) AB (Nat.le_refl _) rfl rfl rfl (by decide) rfl rfl rfl (by decide) rfl rfl (by simp[gf,eu,V.flat,hflT]) (by simp[cu]) (by decide) ?_
  refine iS (by kernel_rfl) (ag ?_)
  simp only[go_sem,seval]
  exact Fin.ren [0,1] (by simp) (by simp) (by rfl) (by decide) (by simp) (by simp)
 refine nh (K:=fun st l=>cu [0,1,2] st.H 0∧l=[]∧Weak 4 24 st (J 0)) (nt (by kernel_rfl) (by decide) (by decide) (by decide) (by simp[cu]) (ag ?_)) (fun st l hst=>?_)
 ·simp only[go_sem,seval]
  refine⟨by simp[cu],rfl,Weak.drop ?_ rfl (fun _ _ h=>h)⟩
  simp[St.get,ae,cz,J]
 obtain⟨k1,rfl,k2⟩:=hst
 refine m5 (by decide) (by decide) (by decide) k1 ?_ k2
 refine x7 (MC (I:=fun k st l=>∃ i,i+k=rd∧cu [0,1,2] st.H 0∧Weak 4 24 st (J i)∧l=aO t (dQ E i)) (k0:=rd) ⟨0,by omega,by simp[cu,J],Weak.refl _ _ _,by simp[dQ,aO]⟩ ?_)
 rintro k st l ⟨i,hik,k1,k2,rfl⟩
 refine m5 (by decide) (by decide) (by decide) k1 ?_ k2
 clear k1 k2
 refine nh (K:=fun st l=>cu [0,1,2] st.H 0∧l=aO t (dQ E i)∧16*i<t.length∧Weak 4 24 st (J i)) (nt (by kernel_rfl) (by decide) (by decide) (by decide) (by simp[cu,J]) (ag ?_)) (fun st l hst=>?_)
 ·by_cases h0:16*i<t.length
  ·have hne:(t.drop (16*i)=[])=False:=eq_false (fun h=>by have :=congrArg List.length h;rw[List.length_drop] at this;simp at this;omega)
   simp only[go_sem,seval,J,hne]
   refine⟨by simp[cu],rfl,h0,Weak.drop ?_ rfl (fun _ _ h=>h)⟩
   simp[St.get,ae]
  ·have hie:i=rd:=by omega
   have hne:(t.drop (16*i)=[])=True:=eq_true (List.drop_eq_nil_of_le (by omega))
   simp only[go_sem,seval,J,hne]
   refine⟨by simp[cu],by rw[hie],Weak.drop ?_ rfl (fun _ _ h=>h)⟩
   simp[St.get,ae]
 obtain⟨k1,rfl,h0,k2⟩:=hst
 refine m5 (by decide) (by decide) (by decide) k1 ?_ k2
 clear k1 k2
 have hdl:(t.drop (16*i)).length=t.length-16*i:=List.length_drop
 have hX:=oU (t.drop (16*i)) (E (2+i)) (by omega) (by rw[hE];omega)
 have hB:=hblk (2+i) (by omega)
 have hpl:(aO (t.drop (16*i)) (E (2+i))).length=min (t.length-16*i) 16:=by rw[eC,hE,hdl]
 have hleft:=D5 E hE t i
 refine nh (K:=fun st l=>cu [0,1,2] st.H 0∧l=aO t (dQ E (i+1))∧Weak 4 24 st ⟨[(1,.str (t.drop (16*(i+1)))),(2,.ptr 2 0),(5,.ptr 3 0),(6,.i64 (2+i:Nat))],[some ⟨false,[.ptr 1 0,.str K],none⟩,some ⟨false,T.map .u8,none⟩,some ⟨false,[.ptr 0 0,.str n],none⟩,none]⟩) (x7 ?_) (fun st l hst=>?_)
 ·refine nh (K:=fun st l=>cu [0,1,2] st.H 0∧l=aO t (dQ E i)∧Weak 4 24 st ⟨[(7,.str (aO (t.drop (16*i)) (E (2+i)))),(1,.str (t.drop (16*i))),(2,.ptr 2 0),(5,.ptr 3 0),(6,.i64 (2+i:Nat))],[some ⟨false,[.ptr 1 0,.str K],none⟩,some ⟨false,T.map .u8,none⟩,some ⟨false,[.ptr 0 0,.str n],none⟩,none]⟩) (nt (by kernel_rfl) (by decide) (by decide) (by decide) (by simp[cu,J]) (ag ?_)) (fun st l hst=>?_)
  ·simp only[go_sem,seval,J]
   refine aA [0,1] (hB) (by kernel_rfl) (by simp) rfl (by simp) (by first|decide|simp) (by simp) (by simp) (by simp) (by simp) (by simp) ?_
   simp only[go_sem,seval]
   refine ak (hX) ?_
   simp only[go_sem,seval]
   refine⟨by simp[cu],rfl,Weak.drop ?_ rfl (fun _ _ h=>h)⟩
   simp[St.get,ae]
  obtain⟨k1,rfl,k2⟩:=hst
  refine m5 (by decide) (by decide) (by decide) k1 ?_ k2
  refine nh (K:=fun st l=>st=⟨[(18,.tup [.i64 (aO (t.drop (16*i)) (E (2+i))).length,.nilIface]),(17,.str (aO (t.drop (16*i)) (E (2+i)))),(7,.str (aO (t.drop (16*i)) (E (2+i)))),(1,.str (t.drop (16*i))),(2,.ptr 2 0),(5,.ptr 3 0),(6,.i64 (2+i:Nat))],[some ⟨false,[.ptr 1 0,.str K],none⟩,some ⟨false,T.map .u8,none⟩,some ⟨false,[.ptr 0 0,.str n],none⟩,none]⟩∧l=aO t (dQ E (i+1))) (Jf (x:= .tmp 7) (by kernel_rfl) AV (Nat.le_refl _) rfl rfl rfl (by decide) rfl rfl rfl (by decide) rfl rfl ?_ rfl (by simp[gf,eu,V.flat,hflT]) (by simp[cu]) ⟨rfl,D4 E hE t i (by omega)⟩) (fun st l hst=>?_)
  ·have hsl:=qY E hE i
   rw[eC,hpl,hsl];omega
  obtain⟨rfl,rfl⟩:=hst
  refine nt (by kernel_rfl) (by decide) (by decide) (by decide) (by simp[cu]) (ag ?_)
  rw[hpl] at hleft
  have htk:(t.drop (16*i)).take (t.length-16*i)=t.drop (16*i):=List.take_of_length_le (by omega)
  simp only[go_sem,seval,hdl,hpl,htk,hleft]
  refine⟨by omega,?_⟩
  simp only[ua,pP]
  refine⟨by simp[cu],trivial,Weak.drop ?_ rfl (fun _ _ h=>h)⟩
  simp[St.get,ae]
 obtain⟨k1,rfl,k2⟩:=hst
 refine m5 (by decide) (by decide) (by decide) k1 ?_ k2
 refine nt (by kernel_rfl) (by decide) (by decide) (by decide) (by simp[cu]) (ag ?_)
 have hw:((2+i:Nat):Int)+1=((2+(i+1):Nat):Int):=by omega
 have hw2:ai ((2+(i+1):Nat):Int)=((2+(i+1):Nat):Int):=al (by omega) (by omega)
 simp only[go_sem,seval,hw,hw2]
 simp only[pP]
 refine⟨k-1,by omega,i+1,by omega,by simp[cu],Weak.drop ?_ rfl (fun _ _ h=>h),rfl⟩
 simp[St.get,ae,J]
def Rk (p:BitVec 64×BitVec 64):BitVec 64×BitVec 64:=(p.1>>>1 ^^^ ((p.2&&&1#64)*225#64)<<<56,p.2>>>1|||p.1<<<63)
def vT (y:BitVec 64×BitVec 64):Nat→BitVec 64×BitVec 64
 |0=>y
 |i+1=>Rk (vT y i)
def iy (x:BitVec 64×BitVec 64)(i:Nat):Bool:=decide ((if 64≤i then x.2 else x.1)>>>(63-i%64)&&&1#64=1#64)
def zT (x y:BitVec 64×BitVec 64):Nat→BitVec 64×BitVec 64
 |0=>(0#64,0#64)
 |i+1=>if iy x i then((zT x y i).1 ^^^ (vT y i).1,(zT x y i).2 ^^^ (vT y i).2) else zT x y i
theorem vY (s:List (BitVec 8))(h:s.length=16):am Tryz.prog 253 [.str s] (.agg [.u64 (BitVec.ofNat 64 (be (s.take 8))),.u64 (BitVec.ofNat 64 (be (s.drop 8)))]):=by
 have h1:(s.take 8).length=8:=by rw[List.length_take];omega
 have h2:(s.drop 8).length=8:=by rw[List.length_drop];omega
 refine aw (by kernel_rfl) (fn:=Tryz.f253) (by kernel_rfl) Tryz.func253 rfl (by show 1≤10;decide) (by simp[ac,V.low]) (by simp[ac,V.low]) (ag ?_)
 simp only[go_sem,seval,Tryz.ntmps253,h]
 refine aC (k7 _ (by omega)) ?_
 simp only[go_sem,seval,List.take_of_length_le,h]
 refine aC (k7 _ (by omega)) ?_
 simp only[go_sem,seval]
 kernel_rfl
theorem rI (a b c d:BitVec 64):am Tryz.prog 252 [.agg [.u64 a,.u64 b],.agg [.u64 c,.u64 d]] (.agg [.u64 (a ^^^ c),.u64 (b ^^^ d)]):=by
 refine aw (by kernel_rfl) (fn:=Tryz.f252) (by kernel_rfl) Tryz.func252 rfl (by show 2≤16;decide) (by simp[ac,V.low]) (by simp[ac,V.low]) (ag ?_)
 simp only[go_sem,seval,Tryz.ntmps252,Tryz.results252]
theorem D6 (a b:BitVec 64):am Tryz.prog 255 [.agg [.u64 a,.u64 b]] (.str (bz a.toNat 8++bz b.toNat 8)):=by
 have hl:=cn a.toNat 8
 have h8:=nP (bz a.toNat 8) b (by omega)
 rw[hl] at h8
 refine aw (by kernel_rfl) (fn:=Tryz.f255) (by kernel_rfl) Tryz.func255 rfl (by show 1≤10;decide) (by simp[ac,V.low]) (by simp[V.low]) (ag ?_)
 simp only[go_sem,seval,Tryz.ntmps255]
 refine dj [] (ku a) (by kernel_rfl) (by simp) rfl (by simp) (by first|decide|simp) (by simp) (by simp) (by simp) (by simp) (by simp) ?_
 simp only[go_sem,seval]
 refine dj [1] (h8) (by kernel_rfl) (by simp) rfl (by simp) (by first|decide|simp) (by simp) (by simp) (by simp) (by simp) (by simp) ?_
 simp only[go_sem,seval,hl,cn]
 refine⟨by kernel_rfl,?_⟩
 rw[List.take_of_length_le (by rw[List.length_append,cn,cn];decide)]
theorem D7 (x y:BitVec 64×BitVec 64):am Tryz.prog 254 [.agg [.u64 x.1,.u64 x.2],.agg [.u64 y.1,.u64 y.2]] (.agg [.u64 (zT x y 128).1,.u64 (zT x y 128).2]):=by
 refine aw (by kernel_rfl) (fn:=Tryz.f254) (by kernel_rfl) Tryz.func254 rfl (by show 2≤49;decide) (by simp[ac,V.low]) (by simp[ac,V.low]) (ag ?_)
 simp only[go_sem,seval,Tryz.ntmps254]
 refine aH (fun ji st=>∃ i:Nat,i+ji=128∧st=⟨[(2,.ptr 0 0),(3,.ptr 1 0),(4,.ptr 2 0),(5,.ptr 3 0),(9,.i64 i)],[some ⟨false,[.u64 x.1,.u64 x.2],none⟩,some ⟨false,[.u64 (vT y i).1,.u64 (vT y i).2],none⟩,some ⟨false,[.u64 0#64,.u64 0#64],none⟩,some ⟨false,[.u64 (zT x y i).1,.u64 (zT x y i).2],none⟩]⟩) ?_ ?_
 ·exact aX (128) ⟨[(2,.ptr 0 0),(3,.ptr 1 0),(4,.ptr 2 0),(5,.ptr 3 0),(9,.i64 (0:Nat))],[some ⟨false,[.u64 x.1,.u64 x.2],none⟩,some ⟨false,[.u64 (vT y (0:Nat)).1,.u64 (vT y (0:Nat)).2],none⟩,some ⟨false,[.u64 0#64,.u64 0#64],none⟩,some ⟨false,[.u64 (zT x y (0:Nat)).1,.u64 (zT x y (0:Nat)).2],none⟩]⟩ (by simp[St.get,ae,-List.map_set,-List.map_map]) rfl (fun _ _ h=>h) ⟨0,by omega,rfl⟩
 rintro ji st ⟨i,hi,rfl⟩ _
 simp only[go_sem,seval]
 by_cases h0:i<128
 ·have h0':(i:Int)<128:=by omega
  have m1:(i:Int).tmod 64=((i%64:Nat):Int):=by rw[show(64:Int)=((64:Nat):Int) from rfl,xI]
  have m2:ai (63-((i%64:Nat):Int))=((63-i%64:Nat):Int):=by rw[al (by omega) (by omega)];omega
  by_cases h6:64≤i
  ·have h6':(64:Int)≤(i:Int):=by omega
   by_cases hb:x.2>>>(63-i%64)&&&1#64=1#64
   ·have hbx:iy x i=true:=by unfold iy;rw[if_pos h6];exact decide_eq_true hb
    have hz1:(zT x y i).1 ^^^ (vT y i).1=(zT x y (i+1)).1:=by rw[zT,if_pos hbx]
    have hz2:(zT x y i).2 ^^^ (vT y i).2=(zT x y (i+1)).2:=by rw[zT,if_pos hbx]
    simp only[go_sem,seval,h0',h6',m1,m2,hb]
    refine⟨by omega,?_⟩
    refine ak (rI _ _ _ _) ?_
    simp only[go_sem,seval,hz1,hz2]
    refine aS (ji-1) ⟨[(2,.ptr 0 0),(3,.ptr 1 0),(4,.ptr 2 0),(5,.ptr 3 0),(9,.i64 (i+1:Nat))],[some ⟨false,[.u64 x.1,.u64 x.2],none⟩,some ⟨false,[.u64 (vT y (i+1:Nat)).1,.u64 (vT y (i+1:Nat)).2],none⟩,some ⟨false,[.u64 0#64,.u64 0#64],none⟩,some ⟨false,[.u64 (zT x y (i+1:Nat)).1,.u64 (zT x y (i+1:Nat)).2],none⟩]⟩ (by omega) ?_ rfl (fun _ _ h=>h) ⟨i+1,by omega,rfl⟩
    have hw1:ai ((i:Int)+1)=((i+1:Nat):Int):=by rw[al (by omega) (by omega)];omega
    simp[St.get,ae,hw1,-List.map_set,-List.map_map]
   ·have hbx:iy x i=false:=by unfold iy;rw[if_pos h6];exact decide_eq_false hb
    have hz1:zT x y i=zT x y (i+1):=by rw[zT,hbx];rfl
    simp only[go_sem,seval,h0',h6',m1,m2,hb]
    refine⟨by omega,?_⟩
    rw[hz1]
    refine aS (ji-1) ⟨[(2,.ptr 0 0),(3,.ptr 1 0),(4,.ptr 2 0),(5,.ptr 3 0),(9,.i64 (i+1:Nat))],[some ⟨false,[.u64 x.1,.u64 x.2],none⟩,some ⟨false,[.u64 (vT y (i+1:Nat)).1,.u64 (vT y (i+1:Nat)).2],none⟩,some ⟨false,[.u64 0#64,.u64 0#64],none⟩,some ⟨false,[.u64 (zT x y (i+1:Nat)).1,.u64 (zT x y (i+1:Nat)).2],none⟩]⟩ (by omega) ?_ rfl (fun _ _ h=>h) ⟨i+1,by omega,rfl⟩
    have hw1:ai ((i:Int)+1)=((i+1:Nat):Int):=by rw[al (by omega) (by omega)];omega
    simp[St.get,ae,hw1,-List.map_set,-List.map_map]
  ·have h6':¬ (64:Int)≤(i:Int):=by omega
   by_cases hb:x.1>>>(63-i%64)&&&1#64=1#64
   ·have hbx:iy x i=true:=by unfold iy;rw[if_neg h6];exact decide_eq_true hb
    have hz1:(zT x y i).1 ^^^ (vT y i).1=(zT x y (i+1)).1:=by rw[zT,if_pos hbx]
    have hz2:(zT x y i).2 ^^^ (vT y i).2=(zT x y (i+1)).2:=by rw[zT,if_pos hbx]
    simp only[go_sem,seval,h0',h6',m1,m2,hb]
    refine⟨by omega,?_⟩
    refine ak (rI _ _ _ _) ?_
    simp only[go_sem,seval,hz1,hz2]
    refine aS (ji-1) ⟨[(2,.ptr 0 0),(3,.ptr 1 0),(4,.ptr 2 0),(5,.ptr 3 0),(9,.i64 (i+1:Nat))],[some ⟨false,[.u64 x.1,.u64 x.2],none⟩,some ⟨false,[.u64 (vT y (i+1:Nat)).1,.u64 (vT y (i+1:Nat)).2],none⟩,some ⟨false,[.u64 0#64,.u64 0#64],none⟩,some ⟨false,[.u64 (zT x y (i+1:Nat)).1,.u64 (zT x y (i+1:Nat)).2],none⟩]⟩ (by omega) ?_ rfl (fun _ _ h=>h) ⟨i+1,by omega,rfl⟩
    have hw1:ai ((i:Int)+1)=((i+1:Nat):Int):=by rw[al (by omega) (by omega)];omega
    simp[St.get,ae,hw1,-List.map_set,-List.map_map]
   ·have hbx:iy x i=false:=by unfold iy;rw[if_neg h6];exact decide_eq_false hb
    have hz1:zT x y i=zT x y (i+1):=by rw[zT,hbx];rfl
    simp only[go_sem,seval,h0',h6',m1,m2,hb]
    refine⟨by omega,?_⟩
    rw[hz1]
    refine aS (ji-1) ⟨[(2,.ptr 0 0),(3,.ptr 1 0),(4,.ptr 2 0),(5,.ptr 3 0),(9,.i64 (i+1:Nat))],[some ⟨false,[.u64 x.1,.u64 x.2],none⟩,some ⟨false,[.u64 (vT y (i+1:Nat)).1,.u64 (vT y (i+1:Nat)).2],none⟩,some ⟨false,[.u64 0#64,.u64 0#64],none⟩,some ⟨false,[.u64 (zT x y (i+1:Nat)).1,.u64 (zT x y (i+1:Nat)).2],none⟩]⟩ (by omega) ?_ rfl (fun _ _ h=>h) ⟨i+1,by omega,rfl⟩
    have hw1:ai ((i:Int)+1)=((i+1:Nat):Int):=by rw[al (by omega) (by omega)];omega
    simp[St.get,ae,hw1,-List.map_set,-List.map_map]
 ·obtain rfl:i=128:=by omega
  have h0':¬ ((128:Nat):Int)<128:=by omega
  simp only[go_sem,seval]
end Go.Vm
end
section
namespace Go.Vm
def bQ (s:List (BitVec 8)):BitVec 64×BitVec 64:=(BitVec.ofNat 64 (be (s.take 8)),BitVec.ofNat 64 (be (s.drop 8)))
abbrev Pr:=BitVec 64×BitVec 64
def ip (p:Pr):List (BitVec 8):=bz p.1.toNat 8++bz p.2.toNat 8
theorem uS (p:Pr):(ip p).length=16:=by unfold ip;rw[List.length_append,cn,cn]
def Rl (h p:Pr)(c:List (BitVec 8)):Pr:=zT (p.1 ^^^ (bQ c).1,p.2 ^^^ (bQ c).2) h 128
def lW (s:List (BitVec 8)):List (BitVec 8):=s++List.replicate (16-s.length) 0
theorem CX (s:List (BitVec 8))(h:s.length≤16):(lW s).length=16:=by unfold lW;rw[List.length_append,List.length_replicate];omega
def eZ (t:List (BitVec 8))(i:Nat):List (BitVec 8):=lW ((t.drop (16*i)).take 16)
def cL (h p:Pr)(t:List (BitVec 8)):Nat→Pr
 |0=>p
 |i+1=>Rl h (cL h p t i) (eZ t i)
end Go.Vm
end
section
namespace Go.Vm
open Go.Proofs
theorem D8 (x:List (BitVec 8))(h:x.length≤16):splice [V.u8 0#8,V.u8 0#8,V.u8 0#8,V.u8 0#8,V.u8 0#8,V.u8 0#8,V.u8 0#8,V.u8 0#8,V.u8 0#8,V.u8 0#8,V.u8 0#8,V.u8 0#8,V.u8 0#8,V.u8 0#8,V.u8 0#8,V.u8 0#8] 0 (x.map V.u8)=(lW x).map V.u8:=by
 rcases x with _|⟨a,_|⟨b,l⟩⟩
 ·rfl
 ·rfl
 ·have hz:[V.u8 0#8,V.u8 0#8,V.u8 0#8,V.u8 0#8,V.u8 0#8,V.u8 0#8,V.u8 0#8,V.u8 0#8,V.u8 0#8,V.u8 0#8,V.u8 0#8,V.u8 0#8,V.u8 0#8,V.u8 0#8,V.u8 0#8,V.u8 0#8]=List.replicate 16 (V.u8 0#8):=rfl
  rw[hz]
  generalize hy:a::b::l=y at h
  have hs:splice (List.replicate 16 (V.u8 0#8)) 0 (y.map V.u8)=(List.replicate 16 (V.u8 0#8)).take 0++y.map V.u8++(List.replicate 16 (V.u8 0#8)).drop (0+(y.map V.u8).length):=by subst hy;rfl
  rw[hs]
  unfold lW
  simp only[List.take_zero,List.nil_append,Nat.zero_add,List.length_map,List.drop_replicate,List.map_append,List.map_replicate]
  rfl
theorem rJ (h t:List (BitVec 8))(p:Pr)(hh:h.length=16)(ht:t.length≤140737488351232):ao Tryz.prog 251 [.str t,.ptr 0 0,.ptr 1 0] [some ⟨false,[.u64 p.1,.u64 p.2],none⟩,some ⟨false,[.str h],none⟩] (.tup []) [some ⟨false,[.u64 (cL (bQ h) p t ((t.length+15)/16)).1,.u64 (cL (bQ h) p t ((t.length+15)/16)).2],none⟩,some ⟨false,[.str h],none⟩]:=by
 refine aR (by kernel_rfl) (fn:=Tryz.f251) Tryz.func251 rfl (by show 3≤23;decide) (ag ?_)
 simp only[go_sem,seval,Tryz.ntmps251]
 refine aH (fun ji st=>∃ i:Nat,i+ji=(t.length+15)/16∧st=⟨[(0,.str (t.drop (16*i))),(1,.ptr 0 0),(2,.ptr 1 0)],[some ⟨false,[.u64 (cL (bQ h) p t i).1,.u64 (cL (bQ h) p t i).2],none⟩,some ⟨false,[.str h],none⟩]⟩) ?_ ?_
 ·exact aX ((t.length+15)/16) ⟨[(0,.str (t.drop (16*(0:Nat)))),(1,.ptr 0 0),(2,.ptr 1 0)],[some ⟨false,[.u64 (cL (bQ h) p t (0:Nat)).1,.u64 (cL (bQ h) p t (0:Nat)).2],none⟩,some ⟨false,[.str h],none⟩]⟩ (by simp[St.get,ae,-List.map_set,-List.map_map]) rfl (fun _ _ h=>h) ⟨0,by omega,rfl⟩
 rintro ji st ⟨i,hi,rfl⟩ _
 simp only[go_sem,seval]
 have hd:(t.drop (16*i)).length=t.length-16*i:=List.length_drop
 by_cases h0:16*i<t.length
 ·have hne:¬ t.drop (16*i)=[]:=fun e=>by rw[e] at hd;simp at hd;omega
  have hX:(t.drop (16*i)).take (min (t.length-16*i) 16)=(t.drop (16*i)).take 16:=by
   by_cases hc:16≤t.length-16*i
   ·rw[Nat.min_eq_right hc]
   ·rw[Nat.min_eq_left (by omega),List.take_of_length_le (by omega),List.take_of_length_le (by omega)]
  have hsp:=D8 ((t.drop (16*i)).take 16) (by rw[List.length_take];omega)
  rw[show lW ((t.drop (16*i)).take 16)=eZ t i from rfl] at hsp
  have hcl:(eZ t i).length=16:=CX _ (by rw[List.length_take];omega)
  have hrd:=vY (eZ t i) hcl
  have hrh:=vY h hh
  have hpl:=rI (cL (bQ h) p t i).1 (cL (bQ h) p t i).2 (bQ (eZ t i)).1 (bQ (eZ t i)).2
  have htm:=D7 ((cL (bQ h) p t i).1 ^^^ (bQ (eZ t i)).1,(cL (bQ h) p t i).2 ^^^ (bQ (eZ t i)).2) (bQ h)
  have hst:zT ((cL (bQ h) p t i).1 ^^^ (bQ (eZ t i)).1,(cL (bQ h) p t i).2 ^^^ (bQ (eZ t i)).2) (bQ h) 128=cL (bQ h) p t (i+1):=rfl
  rw[hst] at htm
  rw[show(BitVec.ofNat 64 (be (List.take 8 (eZ t i))))=(bQ (eZ t i)).1 from rfl,show(BitVec.ofNat 64 (be (List.drop 8 (eZ t i))))=(bQ (eZ t i)).2 from rfl] at hrd
  rw[show(BitVec.ofNat 64 (be (List.take 8 h)))=(bQ h).1 from rfl,show(BitVec.ofNat 64 (be (List.drop 8 h)))=(bQ h).2 from rfl] at hrh
  simp only[go_sem,seval,hne,hX,hsp,hcl,List.take_of_length_le]
  refine aC (hrd) ?_
  simp only[go_sem,seval]
  refine aC (hpl) ?_
  simp only[go_sem,seval]
  refine aC (hrh) ?_
  simp only[go_sem,seval]
  refine aC (htm) ?_
  simp only[go_sem,seval]
  refine⟨by kernel_rfl,?_⟩
  have hmn:(if((t.length-16*i:Nat):Int)<16 then((t.length-16*i:Nat):Int) else 16)=((min (t.length-16*i) 16:Nat):Int):=by split <;>omega
  have hdr:((t.drop (16*i)).take (t.length-16*i)).drop (min (t.length-16*i) 16)=t.drop (16*(i+1)):=by
   rw[List.take_of_length_le (by omega),List.drop_drop]
   by_cases hh:16≤t.length-16*i
   ·rw[Nat.min_eq_right hh,Nat.mul_add]
   ·rw[Nat.min_eq_left (by omega),List.drop_of_length_le (by omega),List.drop_of_length_le (by omega)]
  simp only[hmn,Int.toNat_natCast,hdr]
  refine⟨⟨by omega,by omega⟩,?_⟩
  have hw1:ai ((i:Int)+1)=((i+1:Nat):Int):=by rw[al (by omega) (by omega)];omega
  refine db (ji-1) ⟨[(0,.str (t.drop (16*(i+1:Nat)))),(1,.ptr 0 0),(2,.ptr 1 0)],[some ⟨false,[.u64 (cL (bQ h) p t (i+1:Nat)).1,.u64 (cL (bQ h) p t (i+1:Nat)).2],none⟩,some ⟨false,[.str h],none⟩]⟩ [0,1] (by omega) rfl (by simp) rfl (by decide) (by simp[cp,St.get,ae,-List.map_map,-List.map_set,cL]) (by simp[cL]) ⟨i+1,by omega,rfl⟩
 ·have he:t.drop (16*i)=[]:=List.drop_of_length_le (by omega)
  obtain rfl:i=(t.length+15)/16:=by omega
  simp only[go_sem,seval,he]
  exact Fin.ren [0,1] (by simp) (by simp) (by rfl) (by decide) (by simp) (by simp)
def lK (l s:List (BitVec 8)):List (BitVec 8):=bz (BitVec.ofInt 64 (l.length:Int)*8#64).toNat 8++bz (BitVec.ofInt 64 (s.length:Int)*8#64).toNat 8
theorem qf (l s:List (BitVec 8)):(lK l s).length=16:=by unfold lK;rw[List.length_append,cn,cn]
def fD (h l s:List (BitVec 8)):Pr:=cL (bQ h) (cL (bQ h) (cL (bQ h) (0#64,0#64) l ((l.length+15)/16)) s ((s.length+15)/16)) (lK l s) 1
theorem Jg (h l s:List (BitVec 8))(hh:h.length=16)(hl:l.length≤140737488351232)(hs:s.length≤140737488351232):am Tryz.prog 246 [.str h,.str l,.str s] (.tup [.str (ip (fD h l s)),.i64 0]):=by
 have h':(h.length:Int)=16:=by omega
 have t1:=rJ h l (0#64,0#64) hh hl
 have t2:=rJ h s (cL (bQ h) (0#64,0#64) l ((l.length+15)/16)) hh hs
 have t3:=rJ h (lK l s) (cL (bQ h) (cL (bQ h) (0#64,0#64) l ((l.length+15)/16)) s ((s.length+15)/16)) hh (by rw[qf];omega)
 rw[qf,show cL (bQ h) (cL (bQ h) (cL (bQ h) (0#64,0#64) l ((l.length+15)/16)) s ((s.length+15)/16)) (lK l s) ((16+15)/16)=fD h l s from rfl] at t3
 have b1:=ku (BitVec.ofInt 64 (l.length:Int)*8#64)
 have hb8:=cn (BitVec.ofInt 64 (l.length:Int)*8#64).toNat 8
 have b2:=nP (bz (BitVec.ofInt 64 (l.length:Int)*8#64).toNat 8) (BitVec.ofInt 64 (s.length:Int)*8#64) (by omega)
 rw[hb8,show bz (BitVec.ofInt 64 (l.length:Int)*8#64).toNat 8++bz (BitVec.ofInt 64 (s.length:Int)*8#64).toNat 8=lK l s from rfl] at b2
 have hx:=D6 (fD h l s).1 (fD h l s).2
 rw[show bz (fD h l s).1.toNat 8++bz (fD h l s).2.toNat 8=ip (fD h l s) from rfl] at hx
 refine aw (by kernel_rfl) (fn:=Tryz.f246) (by kernel_rfl) Tryz.func246 rfl (by show 3≤35;decide) (by simp[ac,V.low]) (by simp[ac,V.low]) (ag ?_)
 simp only[go_sem,seval,Tryz.ntmps246,h']
 refine aA [1,0] (t1) (by kernel_rfl) (by simp) rfl (by simp) (by first|decide|simp) (by simp) (by simp) (by simp) (by simp) (by simp) ?_
 simp only[go_sem,seval]
 refine aA [1,0] (t2) (by kernel_rfl) (by simp) rfl (by simp) (by first|decide|simp) (by simp) (by simp) (by simp) (by simp) (by simp) ?_
 simp only[go_sem,seval]
 refine aA [] (b1) (by kernel_rfl) (by simp) rfl (by simp) (by first|decide|simp) (by simp) (by simp) (by simp) (by simp) (by simp) ?_
 simp only[go_sem,seval]
 refine aA [2] (b2) (by kernel_rfl) (by simp) rfl (by simp) (by first|decide|simp) (by simp) (by simp) (by simp) (by simp) (by simp) ?_
 simp only[go_sem,seval,qf,List.take_of_length_le]
 refine aA [1,0] (t3) (by kernel_rfl) (by simp) rfl (by simp) (by first|decide|simp) (by simp) (by simp) (by simp) (by simp) (by simp) ?_
 simp only[go_sem,seval]
 refine ak (hx) ?_
 simp only[go_sem,seval]
theorem xg (E:Nat→List (BitVec 8))(n K T l s:List (BitVec 8))(R:Nat)(hEe:∀ c,E c=cA (n++bz c 4) K R (R-1))(hE:∀ c,(E c).length=16)(hn:n.length=12)(hl:l.length≤2000)(hs:s.length≤2016)(hR:2≤R)(hR2:R≤20)(hK:K.length=16*R)(hT:T.length=512)(hf:∀ b:BitVec 8,T.getD (0+b.toNat) 0=b9 b):
  ao Tryz.prog 241 [.agg [.ptr 0 0,.str n],.str l,.str s] [some ⟨false,[.ptr 1 0,.str K],none⟩,some ⟨false,T.map .u8,none⟩] (.str (aO (ip (fD (cA (List.replicate 16 0#8) K R (R-1)) l s)) (E 1))) [some ⟨false,[.ptr 1 0,.str K],none⟩,some ⟨false,T.map .u8,none⟩]:=by
 have hb:=vD n K T R 1 hn (by omega) hR hR2 hK hT hf
 rw[←hEe] at hb
 have he:=uR (List.replicate 16 0#8) K T R (by simp) hR hR2 hK hT hf
 have hel:=qw (List.replicate 16 0#8) K R (by simp) hK (R-1) (by omega)
 have hrep:=jA 16 (by decide)
 generalize hze:cA (List.replicate 16 0#8) K R (R-1)=z at*
 have hsum:=Jg z l s hel (by omega) (by omega)
 have htl:=uS (fD z l s)
 have hx:=oU (ip (fD z l s)) (E 1) (by omega) (by rw[hE];omega)
 refine aR (by kernel_rfl) (fn:=Tryz.f241) Tryz.func241 rfl (by show 3≤23;decide) (ag ?_)
 simp only[go_sem,seval,Tryz.ntmps241]
 refine aC (hrep) ?_
 simp only[go_sem,seval]
 refine kl [0,1] (he) (by kernel_rfl) (by simp) rfl (by simp) (by decide) (by simp) (by simp) (by simp) (by simp) (by simp) (by first|(simp[cO,bR,au,cY,Blk.ren,-List.map_map,-List.map_set];done)|simp[go_sem,cO]) ?_
 simp only[go_sem,seval]
 refine aC (hsum) ?_
 simp only[go_sem,seval]
 refine⟨by kernel_rfl,?_⟩
 refine aA [0,1] (hb) (by kernel_rfl) (by simp) rfl (by simp) (by first|decide|simp) (by simp) (by simp) (by simp) (by simp) (by simp) ?_
 simp only[go_sem,seval]
 refine ak (hx) ?_
 simp only[go_sem,seval]
 exact Fin.ren [0,1] (by simp) (by simp) (by rfl) (by decide) (by simp) (by simp)
def fE (k:List (BitVec 8)):List (BitVec 8):=(wl k 8 60).flatten
def gE (k n:List (BitVec 8))(c:Nat):List (BitVec 8):=cA (n++bz c 4) (fE k) 15 14
def gS (k n t:List (BitVec 8)):List (BitVec 8):=aO t (dQ (gE k n) ((t.length+15)/16))
def gT (k n l s:List (BitVec 8)):List (BitVec 8):=aO (ip (fD (cA (List.replicate 16 0#8) (fE k) 15 14) l s)) (gE k n 1)
theorem mt (k:List (BitVec 8))(hk:k.length=32):(fE k).length=240:=yH k 8 (by omega) (by omega) 60
theorem kS (k n:List (BitVec 8))(hk:k.length=32)(hn:n.length=12)(c:Nat):(gE k n c).length=16:=by
 unfold gE
 exact qw _ _ 15 (by rw[List.length_append,cn];omega) (by rw[mt k hk]) 14 (by omega)
theorem rK (k n t:List (BitVec 8))(hk:k.length=32)(hn:n.length=12):(gS k n t).length=t.length:=by
 unfold gS
 rw[eC,qY _ (kS k n hk hn)];omega
theorem rL (k n l s:List (BitVec 8))(hk:k.length=32)(hn:n.length=12):(gT k n l s).length=16:=by
 unfold gT
 rw[eC,uS,kS k n hk hn];rfl
theorem FM (k n l t:List (BitVec 8))(h:cj k n l t 2000≠0):ao Tryz.prog 238 [.str k,.str n,.str l,.str t] [] (.tup [.str [],.i64 (cj k n l t 2000)]) []:=by
 have hc:=mr k n l t 2000
 generalize cj k n l t 2000=e at*
 have he:(e=0)=False:=eq_false h
 refine aR (by kernel_rfl) (fn:=Tryz.f238) Tryz.func238 rfl (by show 4≤34;decide) (ag ?_)
 simp only[go_sem,seval,Tryz.ntmps238]
 refine ak (hc) ?_
 simp only[go_sem,seval,he]
 exact Fin.ren [] (by simp) (by simp) (by rfl) (by decide) (by simp) (by simp)
theorem D9 (k n l t:List (BitVec 8))(hk:k.length=32)(hn:n.length=12)(hl:l.length≤2000)(ht:t.length≤2000):ao Tryz.prog 238 [.str k,.str n,.str l,.str t] [] (.tup [.str (gS k n t++gT k n l (gS k n t)),.i64 0]) []:=by
 have hc:=mr k n l t 2000
 have hc0:cj k n l t 2000=0:=by
  unfold cj;rw[if_neg (by omega),if_neg (by omega)]
 rw[hc0] at hc
 have hnew:=xZ k 8 (.inr rfl) (by omega)
 have hTl:=mE 256
 have hT:=tJ
 have hSl:=rK k n t hk hn
 have hTgl:=rL k n l (gS k n t) hk hn
 rw[show 4*(8+7)=60 from rfl,show(wl k 8 60).flatten=fE k from rfl] at hnew
 have hxo:=vX (gE k n) (kS k n hk hn) n (fE k) (cZ 256) t 15 (fun c=>rfl) hn (by omega) (by omega) (by omega) (by rw[mt k hk]) hTl (fun b=>by rw[Nat.zero_add,hT])
 have htg:=xg (gE k n) n (fE k) (cZ 256) l (gS k n t) 15 (fun c=>rfl) (kS k n hk hn) hn hl (by omega) (by omega) (by omega) (by rw[mt k hk]) hTl (fun b=>by rw[Nat.zero_add,hT])
 rw[show aO t (dQ (gE k n) ((t.length+15)/16))=gS k n t from rfl] at hxo
 rw[show aO (ip (fD (cA (List.replicate 16 0#8) (fE k) 15 (15-1)) l (gS k n t))) (gE k n 1)=gT k n l (gS k n t) from rfl] at htg
 generalize cZ 256=T at*
 generalize fE k=K at*
 generalize gT k n l (gS k n t)=tg at*
 generalize gS k n t=sl at*
 refine aR (by kernel_rfl) (fn:=Tryz.f238) Tryz.func238 rfl (by show 4≤34;decide) (ag ?_)
 simp only[go_sem,seval,Tryz.ntmps238]
 refine ak (hc) ?_
 simp only[go_sem,seval]
 refine aA [] (hnew) (by kernel_rfl) (by simp) rfl (by simp) (by first|decide|simp) (by simp) (by simp) (by simp) (by simp) (by simp) ?_
 simp only[go_sem,seval]
 refine aA [0,1] (hxo) (by kernel_rfl) (by simp) rfl (by simp) (by first|decide|simp) (by simp) (by simp) (by simp) (by simp) (by simp) ?_
 simp only[go_sem,seval]
 refine aA [0,1] (htg) (by kernel_rfl) (by simp) rfl (by simp) (by first|decide|simp) (by simp) (by simp) (by simp) (by simp) (by simp) ?_
 simp only[go_sem,seval]
 refine⟨by omega,?_⟩
 exact Fin.ren [] (by simp) (by simp) (by rfl) (by decide) (by simp) (by simp)
theorem FN (k n l t:List (BitVec 8))(h:cj k n l t 2016≠0):ao Tryz.prog 237 [.str k,.str n,.str l,.str t] [] (.tup [.str [],.i64 (cj k n l t 2016)]) []:=by
 have hc:=mr k n l t 2016
 generalize cj k n l t 2016=e at*
 have he:(e=0)=False:=eq_false h
 refine aR (by kernel_rfl) (fn:=Tryz.f237) Tryz.func237 rfl (by show 4≤50;decide) (ag ?_)
 simp only[go_sem,seval,Tryz.ntmps237]
 refine ak (hc) ?_
 simp only[go_sem,seval,he]
 exact Fin.ren [] (by simp) (by simp) (by rfl) (by decide) (by simp) (by simp)
theorem CY (k n l t:List (BitVec 8))(h:cj k n l t 2016=0)(ht:t.length<16):ao Tryz.prog 237 [.str k,.str n,.str l,.str t] [] (.tup [.str [],.i64 4]) []:=by
 have hc:=mr k n l t 2016
 rw[h] at hc
 have ht':(t.length:Int)<16:=by omega
 refine aR (by kernel_rfl) (fn:=Tryz.f237) Tryz.func237 rfl (by show 4≤50;decide) (ag ?_)
 simp only[go_sem,seval,Tryz.ntmps237]
 refine ak (hc) ?_
 simp only[go_sem,seval,ht']
 exact Fin.ren [] (by simp) (by simp) (by rfl) (by decide) (by simp) (by simp)
theorem Ea (k n l t:List (BitVec 8))(hk:k.length=32)(hn:n.length=12)(hl:l.length≤2000)(ht:t.length≤2016)(h16:16≤t.length):ao Tryz.prog 237 [.str k,.str n,.str l,.str t] []
  (if gT k n l (t.take (t.length-16))=t.drop (t.length-16) then .tup [.str (gS k n (t.take (t.length-16))),.i64 0] else .tup [.str [],.i64 6]) []:=by
 have hc:=mr k n l t 2016
 have hc0:cj k n l t 2016=0:=by
  unfold cj;rw[if_neg (by omega),if_neg (by omega)]
 rw[hc0] at hc
 have hnew:=xZ k 8 (.inr rfl) (by omega)
 have hTl:=mE 256
 have hT:=tJ
 have hsl:(t.take (t.length-16)).length=t.length-16:=by rw[List.length_take];omega
 generalize hs:t.take (t.length-16)=s at*
 have hTgl:=rL k n l s hk hn
 rw[show 4*(8+7)=60 from rfl,show(wl k 8 60).flatten=fE k from rfl] at hnew
 have hxo:=vX (gE k n) (kS k n hk hn) n (fE k) (cZ 256) s 15 (fun c=>rfl) hn (by omega) (by omega) (by omega) (by rw[mt k hk]) hTl (fun b=>by rw[Nat.zero_add,hT])
 have htg:=xg (gE k n) n (fE k) (cZ 256) l s 15 (fun c=>rfl) (kS k n hk hn) hn hl (by omega) (by omega) (by omega) (by rw[mt k hk]) hTl (fun b=>by rw[Nat.zero_add,hT])
 rw[show aO s (dQ (gE k n) ((s.length+15)/16))=gS k n s from rfl] at hxo
 rw[show aO (ip (fD (cA (List.replicate 16 0#8) (fE k) 15 (15-1)) l s)) (gE k n 1)=gT k n l s from rfl] at htg
 generalize cZ 256=T at*
 generalize fE k=K at*
 generalize gT k n l s=tg at*
 generalize gS k n s=sl at*
 have h16':¬ (t.length:Int)<16:=by omega
 have hsub:(t.length:Int)-16=((t.length-16:Nat):Int):=by omega
 have hw:ai ((t.length-16:Nat):Int)=((t.length-16:Nat):Int):=al (by omega) (by omega)
 by_cases he:tg=t.drop (t.length-16)
 ·rw[if_pos he]
  have he':=eq_true he
  refine aR (by kernel_rfl) (fn:=Tryz.f237) Tryz.func237 rfl (by show 4≤50;decide) (ag ?_)
  simp only[go_sem,seval,Tryz.ntmps237]
  refine ak (hc) ?_
  simp only[go_sem,seval,h16']
  refine aA [] (hnew) (by kernel_rfl) (by simp) rfl (by simp) (by first|decide|simp) (by simp) (by simp) (by simp) (by simp) (by simp) ?_
  simp only[go_sem,seval,hsub,hw,hs]
  refine⟨by omega,by omega,by kernel_rfl,?_⟩
  refine aA [0,1] (htg) (by kernel_rfl) (by simp) rfl (by simp) (by first|decide|simp) (by simp) (by simp) (by simp) (by simp) (by simp) ?_
  simp only[go_sem,seval,he']
  refine aA [0,1] (hxo) (by kernel_rfl) (by simp) rfl (by simp) (by first|decide|simp) (by simp) (by simp) (by simp) (by simp) (by simp) ?_
  simp only[go_sem,seval]
  exact Fin.ren [] (by simp) (by simp) (by rfl) (by decide) (by simp) (by simp)
 ·rw[if_neg he]
  have he':=eq_false he
  refine aR (by kernel_rfl) (fn:=Tryz.f237) Tryz.func237 rfl (by show 4≤50;decide) (ag ?_)
  simp only[go_sem,seval,Tryz.ntmps237]
  refine ak (hc) ?_
  simp only[go_sem,seval,h16']
  refine aA [] (hnew) (by kernel_rfl) (by simp) rfl (by simp) (by first|decide|simp) (by simp) (by simp) (by simp) (by simp) (by simp) ?_
  simp only[go_sem,seval,hsub,hw,hs]
  refine⟨by omega,by omega,by kernel_rfl,?_⟩
  refine aA [0,1] (htg) (by kernel_rfl) (by simp) rfl (by simp) (by first|decide|simp) (by simp) (by simp) (by simp) (by simp) (by simp) ?_
  simp only[go_sem,seval,he']
  exact Fin.ren [] (by simp) (by simp) (by rfl) (by decide) (by simp) (by simp)
theorem oO (k n l t:List (BitVec 8))(m:Nat)(h:cj k n l t m=0):k.length=32∧n.length=12∧l.length≤2000∧t.length≤m:=by
 unfold cj at h
 split at h
 ·cases h
 ·split at h
  ·cases h
  ·omega
def gI (k n l t:List (BitVec 8)):List (BitVec 8)×Int:=if cj k n l t 2000=0 then(gS k n t++gT k n l (gS k n t),0) else([],cj k n l t 2000)
def gJ (k n l t:List (BitVec 8)):List (BitVec 8)×Int:=if cj k n l t 2016=0 then(if t.length<16 then([],4) else if gT k n l (t.take (t.length-16))=t.drop (t.length-16) then(gS k n (t.take (t.length-16)),0) else([],6)) else([],cj k n l t 2016)
theorem CZ (k n l t:List (BitVec 8)):ao Tryz.prog 238 [.str k,.str n,.str l,.str t] [] (.tup [.str (gI k n l t).1,.i64 (gI k n l t).2]) []:=by
 unfold gI
 by_cases h:cj k n l t 2000=0
 ·obtain⟨hk,hn,hl,ht⟩:=oO k n l t 2000 h
  rw[if_pos h]
  exact D9 k n l t hk hn hl ht
 ·rw[if_neg h]
  exact FM k n l t h
theorem C0 (k n l t:List (BitVec 8)):ao Tryz.prog 237 [.str k,.str n,.str l,.str t] [] (.tup [.str (gJ k n l t).1,.i64 (gJ k n l t).2]) []:=by
 unfold gJ
 by_cases h:cj k n l t 2016=0
 ·obtain⟨hk,hn,hl,ht⟩:=oO k n l t 2016 h
  rw[if_pos h]
  by_cases h16:t.length<16
  ·rw[if_pos h16]
   exact CY k n l t h h16
  ·rw[if_neg h16]
   have :=Ea k n l t hk hn hl ht (by omega)
   by_cases hq:gT k n l (t.take (t.length-16))=t.drop (t.length-16)
   ·rw[if_pos hq] at this ⊢;exact this
   ·rw[if_neg hq] at this ⊢;exact this
 ·rw[if_neg h]
  exact FN k n l t h
theorem Eb (k c m t:List (BitVec 8)):am Tryz.prog 236 [.agg [],.str k,.str c,.str m,.str t] (.tup [.str (gI k c m t).1,.i64 (gI k c m t).2]):=by
 have h:=nL (by kernel_rfl) (by simp[ac,V.low]) (CZ k c m t)
 generalize gI k c m t=g at*
 refine aw (by kernel_rfl) (fn:=Tryz.f236) (by kernel_rfl) Tryz.func236 rfl (by show 5≤19;decide) (by simp[ac,V.low]) (by simp[ac,V.low]) (ag ?_)
 simp only[go_sem,seval,Tryz.ntmps236]
 refine ak (h) ?_
 simp only[go_sem,seval]
theorem Ec (k c m t:List (BitVec 8)):am Tryz.prog 235 [.agg [],.str k,.str c,.str m,.str t] (.tup [.str (gJ k c m t).1,.i64 (gJ k c m t).2]):=by
 have h:=nL (by kernel_rfl) (by simp[ac,V.low]) (C0 k c m t)
 generalize gJ k c m t=g at*
 refine aw (by kernel_rfl) (fn:=Tryz.f235) (by kernel_rfl) Tryz.func235 rfl (by show 5≤19;decide) (by simp[ac,V.low]) (by simp[ac,V.low]) (ag ?_)
 simp only[go_sem,seval,Tryz.ntmps235]
 refine ak (h) ?_
 simp only[go_sem,seval]
theorem xh (k c m t:List (BitVec 8)):((eK k c m t).2=0→eL (eK k c m t).1.length t.length)∧(eK k c m t).1.length≤t.length+16:=by
 unfold eK eL
 by_cases h:fW k c m t 2000=0
 ·obtain⟨h1,h2,h3,h4⟩:=oL _ _ _ _ _ h
  rw[if_pos h]
  have e1:(xored (dC k c) 1#32 t).length=t.length:=qc _ (fun m=>mf k c m h1 h2) _ _
  have e2:(im k c m (xored (dC k c) 1#32 t)).length=16:=by unfold im;exact oa _ _
  simp only[List.length_append,e1,e2]
  exact⟨fun _=>trivial,Nat.le_refl _⟩
 ·rw[if_neg h]
  exact⟨fun e=>absurd e h,by simp⟩
theorem rM (k c m t:List (BitVec 8)):((dW k c m t).2=0→eG (dW k c m t).1.length t.length)∧(dW k c m t).1.length≤t.length+16:=by
 unfold dW eG
 by_cases h:fW k c m t 2016=0
 ·obtain⟨h1,h2,h3,h4⟩:=oL _ _ _ _ _ h
  rw[if_pos h]
  by_cases h5:t.length<16
  ·rw[if_pos h5];exact⟨fun e=>by simp at e,by simp⟩
  ·rw[if_neg h5]
   split
   ·have e1:(xored (dC k c) 1#32 (t.take (t.length-16))).length=t.length-16:=by
     rw[qc _ (fun m=>mf k c m h1 h2)];simp
    simp only[e1]
    exact⟨fun _=>by omega,by omega⟩
   ·exact⟨fun e=>by simp at e,by simp⟩
 ·rw[if_neg h]
  exact⟨fun e=>absurd e h,by simp⟩
theorem Ed (k n l t:List (BitVec 8)):((gI k n l t).2=0→eL (gI k n l t).1.length t.length)∧(gI k n l t).1.length≤t.length+16:=by
 unfold gI eL
 by_cases h:cj k n l t 2000=0
 ·obtain⟨hk,hn,hl,ht⟩:=oO k n l t 2000 h
  rw[if_pos h]
  simp only[List.length_append,rK k n t hk hn,rL k n l _ hk hn]
  exact⟨fun _=>trivial,Nat.le_refl _⟩
 ·rw[if_neg h]
  exact⟨fun e=>absurd e h,by simp⟩
theorem Ee (k n l t:List (BitVec 8)):((gJ k n l t).2=0→eG (gJ k n l t).1.length t.length)∧(gJ k n l t).1.length≤t.length+16:=by
 unfold gJ eG
 by_cases h:cj k n l t 2016=0
 ·obtain⟨hk,hn,hl,ht⟩:=oO k n l t 2016 h
  rw[if_pos h]
  by_cases h5:t.length<16
  ·rw[if_pos h5];exact⟨fun e=>by simp at e,by simp⟩
  ·rw[if_neg h5]
   split
   ·simp only[rK k n _ hk hn,List.length_take]
    exact⟨fun _=>by omega,by omega⟩
   ·exact⟨fun e=>by simp at e,by simp⟩
 ·rw[if_neg h]
  exact⟨fun e=>absurd e h,by simp⟩
theorem boxSeal258:BoxFn 258 "souterrain/noise.seal" eL:=⟨_,Re,fun k c m x _=>⟨_,DY k c m x,_,_,rfl,xh k c m x⟩⟩
theorem boxSeal259:BoxFn 259 "souterrain/noise.seal" eL:=⟨_,Rh,fun k c m x _=>⟨_,Eb k c m x,_,_,rfl,Ed k c m x⟩⟩
theorem boxOpen258:BoxFn 258 "souterrain/noise.open" eG:=⟨_,Rf,fun k c m x _=>⟨_,DZ k c m x,_,_,rfl,rM k c m x⟩⟩
theorem boxOpen259:BoxFn 259 "souterrain/noise.open" eG:=⟨_,Ri,fun k c m x _=>⟨_,Ec k c m x,_,_,rfl,Ee k c m x⟩⟩
def lY (fit:Nat→Nat→Prop)(x:List af)(v:V):Prop:=∃ (o:List af) (e:Int),v= .tup [.str o,.i64 e]∧(e=0→fit o.length x.length)∧o.length≤x.length+16
theorem FO (s:Int)(hs:s=1∨s=2)(k m x:List af)(n:BitVec 64)(ht:x.length≤549755813888):∃ v,am Tryz.prog 82 [.i64 s,.str k,.u64 n,.str m,.str x] v∧lY eL x v:=by
 obtain⟨_,hof,hsu,ty,rfl⟩:=ue hs
 obtain⟨_,f1,e1,hm1,hn1⟩:=rY hsu
 cases e1
 obtain⟨f2,hm2,hf2⟩:∃ f,cV Tryz.prog ty "souterrain/noise.seal"=some f∧∀ (k c m x:List af),x.length≤549755813888→∃ v,am Tryz.prog f [.agg [],.str k,.str c,.str m,.str x] v∧lY eL x v:=by
  rcases hsu with e|e
  ·cases e;exact boxSeal258.has
  ·cases e;exact boxSeal259.has
 refine ct (Post:=lY eL x) (by kernel_rfl) (by kernel_rfl) (fn:=Tryz.f82) Tryz.func82 rfl (by show 5≤30;decide) (by simp[ac,V.low]) (fun v h=>by obtain⟨o,e,rfl,-⟩:=h;simp[ac,V.low]) (ag ?_)
 simp only[go_sem,seval]
 refine ak hof ?_
 simp only[go_sem,seval,mW,fY hm1]
 repeat refine aJ ?_
 obtain⟨_,hn,nn,hnn,rfl⟩:=hn1 n
 refine aC (hn) ?_
 simp only[go_sem,seval,oM,hm2,Option.isSome_some,fY hm2]
 obtain⟨_,hx,o,e,rfl,he,ho⟩:=hf2 k nn m x ht
 repeat refine aJ ?_
 refine aC (hx) ?_
 simp only[go_sem,seval]
 repeat refine aJ ?_
 exact⟨o,e,rfl,he,ho⟩
theorem FP (s:Int)(hs:s=1∨s=2)(k m x:List af)(n:BitVec 64)(ht:x.length≤549755813888):∃ v,am Tryz.prog 160 [.i64 s,.str k,.u64 n,.str m,.str x] v∧lY eG x v:=by
 obtain⟨_,hof,hsu,ty,rfl⟩:=ue hs
 obtain⟨_,f1,e1,hm1,hn1⟩:=rY hsu
 cases e1
 obtain⟨f2,hm2,hf2⟩:∃ f,cV Tryz.prog ty "souterrain/noise.open"=some f∧∀ (k c m x:List af),x.length≤549755813888→∃ v,am Tryz.prog f [.agg [],.str k,.str c,.str m,.str x] v∧lY eG x v:=by
  rcases hsu with e|e
  ·cases e;exact boxOpen258.has
  ·cases e;exact boxOpen259.has
 refine ct (Post:=lY eG x) (by kernel_rfl) (by kernel_rfl) (fn:=Tryz.f160) Tryz.func160 rfl (by show 5≤30;decide) (by simp[ac,V.low]) (fun v h=>by obtain⟨o,e,rfl,-⟩:=h;simp[ac,V.low]) (ag ?_)
 simp only[go_sem,seval]
 refine ak hof ?_
 simp only[go_sem,seval,mW,fY hm1]
 repeat refine aJ ?_
 obtain⟨_,hn,nn,hnn,rfl⟩:=hn1 n
 refine aC (hn) ?_
 simp only[go_sem,seval,oM,hm2,Option.isSome_some,fY hm2]
 obtain⟨_,hx,o,e,rfl,he,ho⟩:=hf2 k nn m x ht
 repeat refine aJ ?_
 refine aC (hx) ?_
 simp only[go_sem,seval]
 repeat refine aJ ?_
 exact⟨o,e,rfl,he,ho⟩
def fA (c:BitVec 8)(s:List (BitVec 8)):List (BitVec 8):=s.dropWhile (· ==c)
def fB (c:BitVec 8)(s:List (BitVec 8)):List (BitVec 8):=(s.reverse.dropWhile (· ==c)).reverse
theorem Ef (c y:BitVec 8)(r:List (BitVec 8)):fB c (r++[y])=if y=c then fB c r else r++[y]:=by
 unfold fB
 rw[List.reverse_append,List.reverse_singleton,List.singleton_append,List.dropWhile_cons]
 by_cases h:y=c
 ·rw[if_pos h,if_pos (by simp[h])]
 ·rw[if_neg h,if_neg (by simp[h]),List.reverse_cons,List.reverse_reverse]
theorem Eg (s:List (BitVec 8))(c:BitVec 8):am Tryz.prog 172 [.str s,.u8 c] (.str (fA c s)):=by
 refine aw (by kernel_rfl) (fn:=Tryz.f172) (by kernel_rfl) Tryz.func172 rfl (by show 2≤17;decide) (by simp[ac,V.low]) (by simp[V.low]) (ag ?_)
 simp only[go_sem,Nat.reduceLT,Tryz.ntmps172]
 refine aH (fun j st=>∃ x:List (BitVec 8),x.length=j∧fA c x=fA c s∧st=⟨[(0,.str x),(1,.u8 c)],[]⟩) ?_ ?_
 ·exact aX s.length ⟨[(0,.str s),(1,.u8 c)],[]⟩ (by simp[St.get,ae]) rfl (fun _ _ h=>h) ⟨s,rfl,rfl,rfl⟩
 rintro j st ⟨x,hx,he,rfl⟩ _
 cases x with
 |nil=>
  rw[←he,show fA c []=[] from rfl]
  simp only[go_sem,↓reduceIte,Nat.reduceEqDiff,Nat.reduceLT,Int.reduceLT,reduceCtorEq]
 |cons y r=>
  have h0:((0:Int)<((r.length+1:Nat):Int))=True:=eq_true (by omega)
  have h1:(1:Int)≤((r.length+1:Nat):Int):=by omega
  by_cases hy:y=c
  ·have hc:fA c (y::r)=fA c r:=by unfold fA;rw[List.dropWhile_cons,if_pos (by simp[hy])]
   have hy':(y=c)=True:=eq_true hy
   simp only[go_sem,↓reduceIte,Nat.reduceEqDiff,Nat.reduceLT,Int.reduceLE,Int.reduceToNat,reduceCtorEq,h0,hy',h1]
   rw[List.length_cons] at hx
   exact aS (j-1) ⟨[(0,.str r),(1,.u8 c)],[]⟩ (by omega) (by simp[St.get,ae]) rfl (fun _ _ h=>h) ⟨r,by omega,hc▸he,rfl⟩
  ·have hc:fA c (y::r)=y::r:=by unfold fA;rw[List.dropWhile_cons,if_neg (by simp[hy])]
   rw[←he,hc]
   have hy':(y=c)=False:=eq_false hy
   simp only[go_sem,↓reduceIte,Nat.reduceEqDiff,Nat.reduceLT,Int.reduceToNat,reduceCtorEq,h0,hy']
theorem Eh (s:List (BitVec 8))(c:BitVec 8)(hs:s.length≤140737488355328):am Tryz.prog 173 [.str s,.u8 c] (.str (fB c s)):=by
 refine aw (by kernel_rfl) (fn:=Tryz.f173) (by kernel_rfl) Tryz.func173 rfl (by show 2≤23;decide) (by simp[ac,V.low]) (by simp[V.low]) (ag ?_)
 simp only[go_sem,Nat.reduceLT,Tryz.ntmps173]
 refine aH (fun j st=>∃ x:List (BitVec 8),x.length=j∧x.length≤s.length∧fB c x=fB c s∧st=⟨[(0,.str x),(1,.u8 c)],[]⟩) ?_ ?_
 ·exact aX s.length ⟨[(0,.str s),(1,.u8 c)],[]⟩ (by simp[St.get,ae]) rfl (fun _ _ h=>h) ⟨s,rfl,Nat.le_refl _,rfl,rfl⟩
 rintro j st ⟨x,hx,hxs,he,rfl⟩ _
 rcases List.eq_nil_or_concat x with rfl|⟨r,y,rfl⟩
 ·rw[←he,show fB c []=[] from rfl]
  simp only[go_sem,↓reduceIte,Nat.reduceEqDiff,Nat.reduceLT,Int.reduceLT,reduceCtorEq]
 ·rw[List.concat_eq_append] at*
  have hl:(r++[y]).length=r.length+1:=by simp
  have h0:((0:Int)<((r.length+1:Nat):Int))=True:=eq_true (by omega)
  have hw:ai (((r.length+1:Nat):Int)-1)=(r.length:Int):=by rw[al (by omega) (by omega)];omega
  have hz:(0:Int)≤(r.length:Int):=by omega
  have hlt:(r.length:Int)<((r.length+1:Nat):Int):=by omega
  have hle:(r.length:Int)≤((r.length+1:Nat):Int):=by omega
  have hg:(r++[y]).getD r.length 0=y:=by
   rw[List.getD_eq_getElem?_getD,List.getElem?_append_right (Nat.le_refl _),Nat.sub_self];rfl
  have htk:(r++[y]).take r.length=r:=List.take_left
  rw[Ef] at he
  by_cases hy:y=c
  ·rw[if_pos hy] at he
   have hy':(y=c)=True:=eq_true hy
   generalize hx':r++[y]=x at*
   simp only[go_sem,↓reduceIte,Nat.reduceEqDiff,Nat.reduceLT,Int.reduceToNat,reduceCtorEq,h0,hy',hl,hw,hz,hlt,hle,hg,htk]
   exact aS (j-1) ⟨[(0,.str r),(1,.u8 c)],[]⟩ (by omega) (by simp[St.get,ae]) rfl (fun _ _ h=>h) ⟨r,by omega,by omega,he,rfl⟩
  ·rw[if_neg hy] at he
   rw[←he]
   have hy':(y=c)=False:=eq_false hy
   generalize hx':r++[y]=x at*
   simp only[go_sem,↓reduceIte,Nat.reduceEqDiff,Nat.reduceLT,reduceCtorEq,h0,hy',hl,hw,hz,hlt,hg]
theorem FQ (s:List (BitVec 8))(hs:s.length≤140737488355328):am Tryz.prog 166 [.str s,.str [0#8]] (.str (fA 0#8 (fB 0#8 s))):=by
 by_cases h:s=[]
 ·subst h
  rw[show fA 0#8 (fB 0#8 [])=[] from rfl]
  refine aw (by kernel_rfl) (fn:=Tryz.f166) (by kernel_rfl) Tryz.func166 rfl (by show 2≤43;decide) (by simp[ac,V.low]) (by simp[V.low]) (ag ?_)
  simp only[go_sem,↓reduceIte,Nat.reduceEqDiff,Nat.reduceLT,reduceCtorEq,Tryz.ntmps166,Tryz.results166]
 ·have h':=eq_false h
  refine aw (by kernel_rfl) (fn:=Tryz.f166) (by kernel_rfl) Tryz.func166 rfl (by show 2≤43;decide) (by simp[ac,V.low]) (by simp[V.low]) (ag ?_)
  simp only[go_sem,↓reduceIte,Nat.reduceEqDiff,Nat.reduceLT,Int.reduceLE,Int.reduceLT,Int.reduceToNat,BitVec.reduceOfInt,BitVec.reduceLT,reduceCtorEq,Tryz.ntmps166,h']
  refine aC (Eh s 0#8 hs) ?_
  simp only[go_sem,↓reduceIte,Nat.reduceEqDiff,Nat.reduceLT,Int.reduceLT,Int.reduceToNat]
  refine aC (Eg (fB 0#8 s) 0#8) ?_
  simp only[go_sem,↓reduceIte,Nat.reduceLT]
  kernel_rfl
theorem BZ (c:BitVec 8)(s:List (BitVec 8)):s.dropWhile (· ==c)=[]↔∀ x∈s,x=c:=by
 induction s with
 |nil=>simp
 |cons y r ih=>
  rw[List.dropWhile_cons]
  by_cases h:y=c
  ·rw[if_pos (by simp[h]),ih]
   simp[h]
  ·rw[if_neg (by simp[h])]
   simp[h]
theorem FR (c:BitVec 8)(s:List (BitVec 8)):(∀ x∈s.dropWhile (· ==c),x=c)↔∀ x∈s,x=c:=by
 induction s with
 |nil=>simp
 |cons y r ih=>
  rw[List.dropWhile_cons]
  by_cases h:y=c
  ·rw[if_pos (by simp[h]),ih]
   simp[h]
  ·rw[if_neg (by simp[h])]
theorem Jh (c:BitVec 8)(s:List (BitVec 8)):fA c (fB c s)=[]↔s=List.replicate s.length c:=by
 unfold fA
 rw[BZ]
 have h1:(∀ x∈fB c s,x=c)↔∀ x∈s,x=c:=by
  unfold fB
  simp only[List.mem_reverse]
  rw[FR]
  simp only[List.mem_reverse]
 rw[h1,List.eq_replicate_iff]
 simp
end Go.Vm
end
section
namespace Go.Vm
def cg (c:BitVec 64):List (BitVec 64)→List (BitVec 64)×BitVec 64
 |[]=>([],c)
 |x::l=>(((x+c)&&&2251799813685247#64)::(cg ((x+c)>>>51) l).1,(cg ((x+c)>>>51) l).2)
def bZ (c:BitVec 64)(w:List (BitVec 64)):Nat→List (BitVec 64)×BitVec 64
 |0=>(w,c)
 |k+1=>((bZ c w k).1.set k (((bZ c w k).1.getD k 0+(bZ c w k).2)&&&2251799813685247#64),((bZ c w k).1.getD k 0+(bZ c w k).2)>>>51)
theorem uG (c:BitVec 64)(w:List (BitVec 64))(k:Nat):(bZ c w k).1.length=w.length:=by
 induction k with
 |zero=>rfl
 |succ k ih=>rw[bZ,List.length_set,ih]
theorem five {α:Type}(l:List α)(h:l.length=5):∃ a b c d e:α,l=[a,b,c,d,e]:=by
 match l,h with
 |[a,b,c,d,e],_=>exact⟨a,b,c,d,e,rfl⟩
def bJ (w:List (BitVec 64)):List (BitVec 64):=(bZ 0#64 w 5).1.set 0 ((bZ 0#64 w 5).1.getD 0 0+19#64*(bZ 0#64 w 5).2)
theorem uT (w:List (BitVec 64)):(bJ w).length=w.length:=by unfold bJ;rw[List.length_set,uG]
def bS (w:List (BitVec 64)):Nat→List (BitVec 64)
 |0=>w
 |i+1=>bJ (bS w i)
theorem fZ (w:List (BitVec 64))(i:Nat):(bS w i).length=w.length:=by
 induction i with
 |zero=>rfl
 |succ i ih=>rw[bS,uT,ih]
def sm (l:List (BitVec 64)):Prop:=l.length=5∧True
theorem carr5_sm (w:List (BitVec 64))(h:w.length=5):sm (bS w 2):=⟨by rw[fZ,h],trivial⟩
def ij (n:List (BitVec 64)):List (BitVec 64):=(cg 0#64 (n.set 0 (n.getD 0 0+19#64*(cg 19#64 n).2))).1
def ik (a b c d:BitVec 64):List (BitVec 64):=[(a&&&2251799813685247#64)+19#64*(d>>>63),(a>>>51|||b<<<13)&&&2251799813685247#64,(b>>>38|||c<<<26)&&&2251799813685247#64,(c>>>25|||d<<<39)&&&2251799813685247#64,d>>>12&&&2251799813685247#64]
def bO (s:List (BitVec 8))(i:Nat):BitVec 64:=BitVec.ofNat 64 (le ((s.drop (8*i)).take 8))
def iz (r:List (BitVec 64)):List (BitVec 64):=[r.getD 0 0|||r.getD 1 0<<<51,r.getD 1 0>>>13|||r.getD 2 0<<<38,r.getD 2 0>>>26|||r.getD 3 0<<<25,r.getD 3 0>>>39|||r.getD 4 0<<<12]
def eQ (a b:List (BitVec 64)):Nat→List (BitVec 64)
 |0=>a
 |i+1=>(eQ a b i).set i ((eQ a b i).getD i 0+b.getD i 0)
theorem og (a b:List (BitVec 64))(i:Nat):(eQ a b i).length=a.length:=by
 induction i with
 |zero=>rfl
 |succ i ih=>rw[eQ,List.length_set,ih]
def cB (a b:List (BitVec 64)):Nat→List (BitVec 64)
 |0=>a
 |i+1=>if i=0 then(cB a b i).set i ((cB a b i).getD i 0+(9007199254740988#64-b.getD i 0)-72#64) else(cB a b i).set i ((cB a b i).getD i 0+(9007199254740988#64-b.getD i 0))
theorem oh (a b:List (BitVec 64))(i:Nat):(cB a b i).length=a.length:=by
 induction i with
 |zero=>rfl
 |succ i ih=>rw[cB];split <;>rw[List.length_set,ih]
def textF (n:List (BitVec 64)):List (BitVec 8):=aE ((iz (ij (bS (bS n 2) 2))).getD 0 0).toNat 8++(aE ((iz (ij (bS (bS n 2) 2))).getD 1 0).toNat 8++(aE ((iz (ij (bS (bS n 2) 2))).getD 2 0).toNat 8++aE ((iz (ij (bS (bS n 2) 2))).getD 3 0).toNat 8))
theorem textF_length (n:List (BitVec 64)):(textF n).length=32:=by unfold textF;simp only[List.length_append,bL]
def ug (l:List Int):Prop:=l.length=16∧∀ x∈l,0≤x∧x<65536
def fair (w:List Int):Prop:=w.length=16∧∀ x∈w,-1125899906842624≤x∧x≤1125899906842624
abbrev Wd:=BitVec 64×BitVec 64
def fC (w:Wd)(x y:BitVec 64):Wd:=(w.1+bV x y+bj w.2 (x*y) 0#64,w.2+x*y+0#64)
def wz:Wd:=(0#64,0#64)
def jV (a b:List (BitVec 64))(w:List Wd)(i k:Nat):List Wd:=if i+k<5 then w.set (i+k) (fC (w.getD (i+k) wz) (a.getD i 0) (b.getD k 0)) else w.set (i+k-5) (fC (w.getD (i+k-5) wz) (a.getD i 0) (19#64*b.getD k 0))
def ca (a b:List (BitVec 64))(w:List Wd)(i:Nat):Nat→List Wd
 |0=>w
 |k+1=>jV a b (ca a b w i k) i k
def cS (a b:List (BitVec 64)):Nat→List Wd
 |0=>List.replicate 5 wz
 |i+1=>ca a b (cS a b i) i 5
theorem qx (a b:List (BitVec 64))(w:List Wd)(i k:Nat):(ca a b w i k).length=w.length:=by
 induction k with
 |zero=>rfl
 |succ k ih=>rw[ca];unfold jV;split <;>rw[List.length_set,ih]
theorem kx (a b:List (BitVec 64))(i:Nat):(cS a b i).length=5:=by
 induction i with
 |zero=>rfl
 |succ i ih=>rw[cS,qx,ih]
def iA (c:BitVec 64)(x:Wd):BitVec 64:=(x.1+bj x.2 c 0#64)<<<13|||(x.2+c+0#64)>>>51
def bu (c:BitVec 64):List Wd→List (BitVec 64)×BitVec 64
 |[]=>([],c)
 |x::l=>(((x.2+c+0#64)&&&2251799813685247#64)::(bu (iA c x) l).1,(bu (iA c x) l).2)
theorem mu (l:List Wd):∀ c,(bu c l).1.length=l.length:=by
 induction l with
 |nil=>intro c;rfl
 |cons x l ih=>intro c;rw[bu,List.length_cons,List.length_cons,ih]
theorem FU (l:List Wd)(x:Wd):∀ c,bu c (l++[x])=((bu c l).1++[(x.2+(bu c l).2+0#64)&&&2251799813685247#64],iA (bu c l).2 x):=by
 induction l with
 |nil=>intro c;rfl
 |cons y l ih=>intro c;rw[List.cons_append,bu,ih,bu];rfl
def gN (r:List (BitVec 64))(c:BitVec 64):List (BitVec 64):=(r.set 0 (r.getD 0 0+19#64*(c&&&2251799813685247#64))).set 1 ((r.set 0 (r.getD 0 0+19#64*(c&&&2251799813685247#64))).getD 1 0+19#64*(c>>>51))
def bA (a b:List (BitVec 64)):List (BitVec 64):=bS (gN (bu 0#64 (cS a b 5)).1 (bu 0#64 (cS a b 5)).2) 2
theorem dR (a b:List (BitVec 64))(ha:sm a)(hb:sm b):sm (bA a b)∧True:=⟨carr5_sm _ (by unfold gN;rw[List.length_set,List.length_set,mu,kx]),trivial⟩
def dX (a b:List (BitVec 64)):List (BitVec 64):=bS (eQ a b 5) 2
def dP (a b:List (BitVec 64)):List (BitVec 64):=bS (cB a b 5) 2
theorem oQ (a b:List (BitVec 64))(ha:sm a)(hb:sm b):sm (dX a b)∧True:=⟨carr5_sm _ (by rw[og,ha.1]),trivial⟩
theorem oC (a b:List (BitVec 64))(ha:sm a)(hb:sm b):sm (dP a b)∧True:=⟨carr5_sm _ (by rw[oh,ha.1]),trivial⟩
end Go.Vm
end
section
namespace Go.Vm
open Go.Proofs
theorem xm (l:List (BitVec 64))(i:Nat)(x y:BitVec 64):(l.set i x).set i y=l.set i y:=List.set_set ..
theorem vZ (l:List (BitVec 64))(i:Nat)(x:BitVec 64)(h:i<l.length):(l.set i x).getD i 0=x:=by
 rw[List.getD_eq_getElem?_getD,List.getElem?_set_self h];rfl
theorem kj (w:List (BitVec 64))(hw:w.length=5):am Tryz.prog 106 [.agg (w.map .u64)] (.agg ((bS w 2).map .u64)):=by
 refine aw (by kernel_rfl) (fn:=Tryz.f106) (by kernel_rfl) Tryz.func106 rfl (by show 1≤34;decide) (by simp[fL,ac,V.low]) (by simp[fL,V.low]) (ag ?_)
 simp only[go_sem,↓reduceIte,Nat.reduceLT,Tryz.ntmps106]
 refine aH (fun ji st=>∃ i:Nat,i+ji=2∧st=⟨[(1,.ptr 0 0),(2,.ptr 1 0),(5,.i64 i)],[some ⟨false,(bS w i).map .u64,none⟩,some ⟨false,[.u64 0#64,.u64 0#64,.u64 0#64,.u64 0#64,.u64 0#64],none⟩]⟩) ?_ ?_
 ·exact aX (2) ⟨[(1,.ptr 0 0),(2,.ptr 1 0),(5,.i64 (0:Nat))],[some ⟨false,(bS w (0:Nat)).map .u64,none⟩,some ⟨false,[.u64 0#64,.u64 0#64,.u64 0#64,.u64 0#64,.u64 0#64],none⟩]⟩ (by simp[St.get,ae,-List.map_set,-List.map_map]) rfl (fun _ _ h=>h) ⟨0,by omega,rfl⟩
 rintro ji st ⟨i,hi,rfl⟩ _
 simp only[go_sem,↓reduceIte,Nat.reduceEqDiff,Nat.reduceLT,Nat.reduceAdd,Int.reduceLT,BitVec.reduceOfInt]
 by_cases h0:i<2
 ·have h0':(i:Int)<2:=by omega
  have hcl:=fZ w i
  rw[hw] at hcl
  have hi1:bJ (bS w i)=bS w (i+1):=rfl
  simp only[go_sem,↓reduceIte,h0']
  generalize bS w i=v at hcl hi1 ⊢
  refine aH (fun jk st=>∃ k:Nat,k+jk=5∧st=⟨[(1,.ptr 0 0),(2,.ptr 1 0),(3,.u64 (bZ 0#64 v k).2),(5,.i64 i),(7,.i64 k)],[some ⟨false,(bZ 0#64 v k).1.map .u64,none⟩,some ⟨false,[.u64 0#64,.u64 0#64,.u64 0#64,.u64 0#64,.u64 0#64],none⟩]⟩) ?_ ?_
  ·exact aX (5) ⟨[(1,.ptr 0 0),(2,.ptr 1 0),(3,.u64 (bZ 0#64 v (0:Nat)).2),(5,.i64 i),(7,.i64 (0:Nat))],[some ⟨false,(bZ 0#64 v (0:Nat)).1.map .u64,none⟩,some ⟨false,[.u64 0#64,.u64 0#64,.u64 0#64,.u64 0#64,.u64 0#64],none⟩]⟩ (by simp[St.get,ae,-List.map_set,-List.map_map,bZ]) rfl (fun _ _ h=>h) ⟨0,by omega,rfl⟩
  rintro jk st ⟨k,hk,rfl⟩ _
  simp only[go_sem,↓reduceIte,Nat.reduceEqDiff,Nat.reduceLT,Int.reduceLE,Int.reduceLT,Int.reduceToNat,BitVec.reduceOfInt,reduceCtorEq]
  have hpl:=uG 0#64 v k
  rw[hcl] at hpl
  by_cases hk0:k<5
  ·have hk0':(k:Int)<5:=by omega
   have hkl:k<(bZ 0#64 v k).1.length:=by omega
   have hst1:(bZ 0#64 v k).1.set k (((bZ 0#64 v k).1.getD k 0+(bZ 0#64 v k).2)&&&2251799813685247#64)=(bZ 0#64 v (k+1)).1:=rfl
   have hst2:((bZ 0#64 v k).1.getD k 0+(bZ 0#64 v k).2)>>>51=(bZ 0#64 v (k+1)).2:=rfl
   have hsl:∀ x:BitVec 64,k<((bZ 0#64 v k).1.set k x).length:=fun x=>by rw[List.length_set];exact hkl
   have hgs:∀ x:BitVec 64,((bZ 0#64 v k).1.set k x).getD k 0=x:=fun x=>vZ _ _ _ hkl
   simp only[go_sem,↓reduceIte,Nat.reduceEqDiff,Nat.reduceLT,Nat.reduceLeDiff,Int.reduceLE,Int.reduceLT,BitVec.reduceOfInt,BitVec.reduceToNat,hk0',hk0,hpl,dl hkl,dl (hsl _),hgs,xm,hst1,hst2]
   iterate 7 refine⟨by omega,?_⟩
   refine aS (jk-1) ⟨[(1,.ptr 0 0),(2,.ptr 1 0),(3,.u64 (bZ 0#64 v (k+1:Nat)).2),(5,.i64 i),(7,.i64 (k+1:Nat))],[some ⟨false,(bZ 0#64 v (k+1:Nat)).1.map .u64,none⟩,some ⟨false,[.u64 0#64,.u64 0#64,.u64 0#64,.u64 0#64,.u64 0#64],none⟩]⟩ (by omega) ?_ rfl (fun _ _ h=>h) ⟨k+1,by omega,rfl⟩
   have hw1:ai ((k:Int)+1)=((k+1:Nat):Int):=by rw[al (by omega) (by omega)];omega
   simp[St.get,ae,hw1,-List.map_set,-List.map_map]
  ·obtain rfl:k=5:=by omega
   have hk0':¬ ((5:Nat):Int)<5:=by omega
   have hkl:0<(bZ 0#64 v 5).1.length:=by omega
   have hp:(bZ 0#64 v 5).1.set 0 ((bZ 0#64 v 5).1.getD 0 0+19#64*(bZ 0#64 v 5).2)=bS w (i+1):=hi1
   simp only[go_sem,↓reduceIte,Nat.reduceEqDiff,Nat.reduceLT,Nat.reduceLeDiff,Int.reduceLT,Int.reduceToNat,hpl,dl hkl]
   simp only[hp]
   refine aS (ji-1) ⟨[(1,.ptr 0 0),(2,.ptr 1 0),(5,.i64 (i+1:Nat))],[some ⟨false,(bS w (i+1:Nat)).map .u64,none⟩,some ⟨false,[.u64 0#64,.u64 0#64,.u64 0#64,.u64 0#64,.u64 0#64],none⟩]⟩ (by omega) ?_ rfl (fun _ _ h=>h) ⟨i+1,by omega,rfl⟩
   have hw1:ai ((i:Int)+1)=((i+1:Nat):Int):=by rw[al (by omega) (by omega)];omega
   simp[St.get,ae,hw1,-List.map_set,-List.map_map]
 ·obtain rfl:i=2:=by omega
  have h0':¬ ((2:Nat):Int)<2:=by omega
  have hcl:=fZ w 2
  rw[hw] at hcl
  have hm:min 5 5=5:=rfl
  simp only[go_sem,↓reduceIte,Nat.reduceEqDiff,Nat.reduceAdd,Int.reduceLT,hcl,hm,bd,List.take_of_length_le]
theorem iH (a b:List (BitVec 64))(ha:a.length=5)(hb:b.length=5):am Tryz.prog 71 [.agg (a.map .u64),.agg (b.map .u64)] (.agg ((dX a b).map .u64)):=by
 have hs:=og a b 5
 rw[ha] at hs
 have hcs:=kj (eQ a b 5) hs
 have hcl:=fZ (eQ a b 5) 2
 rw[hs] at hcl
 unfold dX
 generalize bS (eQ a b 5) 2=r at hcs hcl ⊢
 refine aw (by kernel_rfl) (fn:=Tryz.f71) (by kernel_rfl) Tryz.func71 rfl (by show 2≤20;decide) (by simp[fL,ac,V.low]) (by simp[fL,V.low]) (ag ?_)
 simp only[go_sem,↓reduceIte,Nat.reduceLT,Nat.reduceAdd,Tryz.ntmps71]
 refine aH (fun ji st=>∃ i:Nat,i+ji=5∧st=⟨[(2,.ptr 0 0),(3,.ptr 1 0),(4,.ptr 2 0),(6,.i64 i)],[some ⟨false,(eQ a b i).map .u64,none⟩,some ⟨false,b.map .u64,none⟩,some ⟨false,[.u64 0#64,.u64 0#64,.u64 0#64,.u64 0#64,.u64 0#64],none⟩]⟩) ?_ ?_
 ·exact aX (5) ⟨[(2,.ptr 0 0),(3,.ptr 1 0),(4,.ptr 2 0),(6,.i64 (0:Nat))],[some ⟨false,(eQ a b (0:Nat)).map .u64,none⟩,some ⟨false,b.map .u64,none⟩,some ⟨false,[.u64 0#64,.u64 0#64,.u64 0#64,.u64 0#64,.u64 0#64],none⟩]⟩ (by simp[St.get,ae,-List.map_set,-List.map_map]) rfl (fun _ _ h=>h) ⟨0,by omega,rfl⟩
 rintro ji st ⟨i,hi,rfl⟩ _
 simp only[go_sem,↓reduceIte,Nat.reduceEqDiff,Nat.reduceLT,Nat.reduceAdd]
 by_cases h0:i<5
 ·have h0':(i:Int)<5:=by omega
  have hl:=og a b i
  rw[ha] at hl
  have h1:i<(eQ a b i).length:=by omega
  have h2:i<b.length:=by omega
  simp only[go_sem,↓reduceIte,Nat.reduceEqDiff,Nat.reduceLT,Nat.reduceLeDiff,Nat.reduceAdd,h0',h0,hl,hb,dl h1,dl h2]
  refine⟨by omega,by omega,by omega,by omega,by kernel_rfl,?_⟩
  refine aS (ji-1) ⟨[(2,.ptr 0 0),(3,.ptr 1 0),(4,.ptr 2 0),(6,.i64 (i+1:Nat))],[some ⟨false,(eQ a b (i+1:Nat)).map .u64,none⟩,some ⟨false,b.map .u64,none⟩,some ⟨false,[.u64 0#64,.u64 0#64,.u64 0#64,.u64 0#64,.u64 0#64],none⟩]⟩ (by omega) ?_ rfl (fun _ _ h=>h) ⟨i+1,by omega,rfl⟩
  have hw1:ai ((i:Int)+1)=((i+1:Nat):Int):=by rw[al (by omega) (by omega)];omega
  simp[St.get,ae,hw1,-List.map_set,-List.map_map]
 ·obtain rfl:i=5:=by omega
  have h0':¬ ((5:Nat):Int)<5:=by omega
  have hm:min 5 5=5:=rfl
  simp only[go_sem,↓reduceIte,Int.reduceLT,hs,List.take_of_length_le]
  refine ak (hcs) ?_
  simp only[go_sem,↓reduceIte,Nat.reduceEqDiff,Nat.reduceAdd,hcl,bd,List.take_of_length_le]
theorem iD (a b:List (BitVec 64))(ha:a.length=5)(hb:b.length=5):am Tryz.prog 72 [.agg (a.map .u64),.agg (b.map .u64)] (.agg ((dP a b).map .u64)):=by
 have hs:=oh a b 5
 rw[ha] at hs
 have hcs:=kj (cB a b 5) hs
 have hcl:=fZ (cB a b 5) 2
 rw[hs] at hcl
 unfold dP
 generalize bS (cB a b 5) 2=r at hcs hcl ⊢
 refine aw (by kernel_rfl) (fn:=Tryz.f72) (by kernel_rfl) Tryz.func72 rfl (by show 2≤28;decide) (by simp[fL,ac,V.low]) (by simp[fL,V.low]) (ag ?_)
 simp only[go_sem,↓reduceIte,Nat.reduceLT,Nat.reduceAdd,Tryz.ntmps72]
 refine aH (fun ji st=>∃ i:Nat,i+ji=5∧st=⟨[(2,.ptr 0 0),(3,.ptr 1 0),(4,.ptr 2 0),(6,.i64 i)],[some ⟨false,(cB a b i).map .u64,none⟩,some ⟨false,b.map .u64,none⟩,some ⟨false,[.u64 0#64,.u64 0#64,.u64 0#64,.u64 0#64,.u64 0#64],none⟩]⟩) ?_ ?_
 ·exact aX (5) ⟨[(2,.ptr 0 0),(3,.ptr 1 0),(4,.ptr 2 0),(6,.i64 (0:Nat))],[some ⟨false,(cB a b (0:Nat)).map .u64,none⟩,some ⟨false,b.map .u64,none⟩,some ⟨false,[.u64 0#64,.u64 0#64,.u64 0#64,.u64 0#64,.u64 0#64],none⟩]⟩ (by simp[St.get,ae,-List.map_set,-List.map_map]) rfl (fun _ _ h=>h) ⟨0,by omega,rfl⟩
 rintro ji st ⟨i,hi,rfl⟩ _
 simp only[go_sem,↓reduceIte,Nat.reduceEqDiff,Nat.reduceLT,Nat.reduceAdd,Int.reduceLE,Int.reduceLT,BitVec.reduceOfInt]
 by_cases h0:i<5
 ·have h0':(i:Int)<5:=by omega
  have hl:=oh a b i
  rw[ha] at hl
  have h1:i<(cB a b i).length:=by omega
  have h2:i<b.length:=by omega
  by_cases hz:i=0
  ·have hz':=eq_true (show(i:Int)=0 by omega)
   have hsl:∀ x:BitVec 64,i<((cB a b i).set i x).length:=fun x=>by rw[List.length_set];exact h1
   have hgs:∀ x:BitVec 64,((cB a b i).set i x).getD i 0=x:=fun x=>vZ _ _ _ h1
   have hst:(cB a b i).set i ((cB a b i).getD i 0+(9007199254740988#64-b.getD i 0)-72#64)=cB a b (i+1):=by rw[cB,if_pos hz]
   simp only[go_sem,↓reduceIte,Nat.reduceEqDiff,Nat.reduceLT,Nat.reduceLeDiff,Nat.reduceAdd,Int.reduceLE,Int.reduceLT,BitVec.reduceOfInt,h0',h0,hl,hb,hz',dl h1,dl h2,dl (hsl _),hgs,xm,hst]
   refine⟨by omega,by omega,by omega,by omega,by kernel_rfl,?_⟩
   refine⟨by omega,by omega,by omega,?_⟩
   refine aS (ji-1) ⟨[(2,.ptr 0 0),(3,.ptr 1 0),(4,.ptr 2 0),(6,.i64 (i+1:Nat))],[some ⟨false,(cB a b (i+1:Nat)).map .u64,none⟩,some ⟨false,b.map .u64,none⟩,some ⟨false,[.u64 0#64,.u64 0#64,.u64 0#64,.u64 0#64,.u64 0#64],none⟩]⟩ (by omega) ?_ rfl (fun _ _ h=>h) ⟨i+1,by omega,rfl⟩
   have hw1:ai ((i:Int)+1)=((i+1:Nat):Int):=by rw[al (by omega) (by omega)];omega
   simp[St.get,ae,hw1,-List.map_set,-List.map_map]
  ·have hz':¬ (i:Int)=0:=by omega
   have hst:(cB a b i).set i ((cB a b i).getD i 0+(9007199254740988#64-b.getD i 0))=cB a b (i+1):=by rw[cB,if_neg hz]
   simp only[go_sem,↓reduceIte,Nat.reduceEqDiff,Nat.reduceLT,Nat.reduceLeDiff,Nat.reduceAdd,h0',h0,hl,hb,hz',dl h1,dl h2,hst]
   refine⟨by omega,by omega,by omega,by omega,by kernel_rfl,?_⟩
   refine aS (ji-1) ⟨[(2,.ptr 0 0),(3,.ptr 1 0),(4,.ptr 2 0),(6,.i64 (i+1:Nat))],[some ⟨false,(cB a b (i+1:Nat)).map .u64,none⟩,some ⟨false,b.map .u64,none⟩,some ⟨false,[.u64 0#64,.u64 0#64,.u64 0#64,.u64 0#64,.u64 0#64],none⟩]⟩ (by omega) ?_ rfl (fun _ _ h=>h) ⟨i+1,by omega,rfl⟩
   have hw1:ai ((i:Int)+1)=((i+1:Nat):Int):=by rw[al (by omega) (by omega)];omega
   simp[St.get,ae,hw1,-List.map_set,-List.map_map]
 ·obtain rfl:i=5:=by omega
  have h0':¬ ((5:Nat):Int)<5:=by omega
  have hm:min 5 5=5:=rfl
  simp only[go_sem,↓reduceIte,Int.reduceLT,hs,List.take_of_length_le]
  refine ak (hcs) ?_
  simp only[go_sem,↓reduceIte,Nat.reduceEqDiff,Nat.reduceAdd,hcl,bd,List.take_of_length_le]
theorem rO (x y c:BitVec 64)(hc:c.toNat≤1):lG Tryz.prog 108 [.u64 x,.u64 y,.u64 c] (.tup [.u64 (x+y+c),.u64 (bj x y c)]):=wZ x y c hc
theorem wb (w:Wd)(x y:BitVec 64):am Tryz.prog 107 [.agg [.u64 w.1,.u64 w.2],.u64 x,.u64 y] (.agg [.u64 (fC w x y).1,.u64 (fC w x y).2]):=by
 have hc:=eV w.2 (x*y) 0#64 (by decide)
 unfold fC
 refine aw (by kernel_rfl) (fn:=Tryz.f107) (by kernel_rfl) Tryz.func107 rfl (by show 3≤34;decide) (by simp[ac,V.low]) (by simp[ac,V.low]) (ag ?_)
 simp only[go_sem,seval,Tryz.ntmps107]
 refine ak (vS x y) ?_
 simp only[go_sem,seval]
 refine mA (rO w.2 (x*y) 0#64 (by decide)) ?_
 simp only[go_sem,seval]
 refine mA (rO w.1 (bV x y) (bj w.2 (x*y) 0#64) hc) ?_
 simp only[go_sem,seval]
def dY (s:List (BitVec 8)):List (BitVec 64):=bS (ik (bO s 0) (bO s 1) (bO s 2) (bO s 3)) 2
theorem FV (s:List (BitVec 8))(h:s.length=32):sm (dY s)∧True:=⟨carr5_sm _ rfl,trivial⟩
theorem FW (s:List (BitVec 8))(h:s.length=32):am Tryz.prog 69 [.str s] (.tup [.agg ((dY s).map .u64),.bool true]):=by
 have h':(s.length:Int)=32:=by omega
 have k0:=dF (s.drop (8*0)) (by rw[List.length_drop];omega)
 have k1:=dF (s.drop (8*1)) (by rw[List.length_drop];omega)
 have k2:=dF (s.drop (8*2)) (by rw[List.length_drop];omega)
 have k3:=dF (s.drop (8*3)) (by rw[List.length_drop];omega)
 rw[show BitVec.ofNat 64 (le ((s.drop (8*0)).take 8))=bO s 0 from rfl,show s.drop (8*0)=s from rfl] at k0
 rw[show BitVec.ofNat 64 (le ((s.drop (8*1)).take 8))=bO s 1 from rfl,show s.drop (8*1)=s.drop 8 from rfl] at k1
 rw[show BitVec.ofNat 64 (le ((s.drop (8*2)).take 8))=bO s 2 from rfl,show s.drop (8*2)=s.drop 16 from rfl] at k2
 rw[show BitVec.ofNat 64 (le ((s.drop (8*3)).take 8))=bO s 3 from rfl,show s.drop (8*3)=s.drop 24 from rfl] at k3
 have hct:s.take 32=s:=List.take_of_length_le (by omega)
 have hlen:=fZ (ik (bO s 0) (bO s 1) (bO s 2) (bO s 3)) 2
 have hcs:=kj (ik (bO s 0) (bO s 1) (bO s 2) (bO s 3)) rfl
 rw[show(ik (bO s 0) (bO s 1) (bO s 2) (bO s 3)).length=5 from rfl] at hlen
 unfold dY
 generalize hr:bS (ik (bO s 0) (bO s 1) (bO s 2) (bO s 3)) 2=r at hlen hcs ⊢
 unfold ik at hcs
 generalize bO s 0=a at*
 generalize bO s 1=b at*
 generalize bO s 2=c at*
 generalize bO s 3=d at*
 refine aw (by kernel_rfl) (fn:=Tryz.f69) (by kernel_rfl) Tryz.func69 rfl (by show 1≤64;decide) (by simp[ac,V.low]) (by simp[fL,ac,V.low]) (ag ?_)
 simp only[go_sem,seval,Tryz.ntmps69,h]
 refine bI 5 ?_
 simp only[go_sem,seval,h',hct]
 refine ak (k0) ?_
 simp only[go_sem,seval,h',hct]
 refine ak (k1) ?_
 simp only[go_sem,seval,h',hct]
 refine ak (k2) ?_
 simp only[go_sem,seval,h',hct]
 refine ak (k3) ?_
 simp only[go_sem,seval]
 refine ak (hcs) ?_
 simp only[go_sem,seval,hlen,bd,List.take_of_length_le]
 done
theorem wc (n:List (BitVec 64))(hn:sm n):am Tryz.prog 75 [.agg (n.map .u64)] (.str (textF n)):=by
 unfold textF
 have h1:=kj n hn.1
 have l1:=fZ n 2
 have h2:=kj (bS n 2) (by rw[l1,hn.1])
 have l2:=fZ (bS n 2) 2
 rw[l1,hn.1] at l2
 rw[hn.1] at l1
 generalize bS (bS n 2) 2=r at h2 l2 ⊢
 generalize bS n 2=m at h1 h2 l1
 obtain⟨a,b,c,d,e,rfl⟩:=five r l2
 generalize hw0:((iz (ij [a,b,c,d,e])).getD 0 0)=w0
 generalize hw1:((iz (ij [a,b,c,d,e])).getD 1 0)=w1
 generalize hw2:((iz (ij [a,b,c,d,e])).getD 2 0)=w2
 generalize hw3:((iz (ij [a,b,c,d,e])).getD 3 0)=w3
 have a0:=pY w0
 have a1:=js (aE w0.toNat 8) w1 (by rw[bL];omega)
 have a2:=js (aE w0.toNat 8++aE w1.toNat 8) w2 (by rw[List.length_append,bL,bL];omega)
 have a3:=js (aE w0.toNat 8++aE w1.toNat 8++aE w2.toNat 8) w3 (by rw[List.length_append,List.length_append,bL,bL,bL];omega)
 rw[bL] at a1
 rw[List.length_append,bL,bL] at a2
 rw[List.length_append,List.length_append,bL,bL,bL] at a3
 have hm5:min 5 5=5:=rfl
 refine aw (by kernel_rfl) (fn:=Tryz.f75) (by kernel_rfl) Tryz.func75 rfl (by show 1≤90;decide) (by simp[fL,ac,V.low]) (by simp[V.low]) (ag ?_)
 simp only[go_sem,↓reduceIte,Nat.reduceLT,Tryz.ntmps75,hn.1,List.take_of_length_le]
 refine ak (h1) ?_
 simp only[go_sem,↓reduceIte,Nat.reduceLT]
 refine ak (h2) ?_
 simp only[go_sem,↓reduceIte,Nat.reduceEqDiff,Nat.reduceLT,Nat.reduceAdd,Int.reduceLE,Int.reduceLT,Int.reduceToNat,Int.reduceSub,BitVec.reduceOfInt,BitVec.reduceToNat,hn.1,bd]
 refine bI 5 ?_
 simp only[go_sem,↓reduceIte,Nat.reduceEqDiff,Nat.reduceLT,Nat.reduceLeDiff,Nat.reduceAdd,Nat.reduceSub,Int.reduceLE,Int.reduceLT,Int.reduceToNat,Int.reduceAdd,Int.reduceNeg,BitVec.reduceOfInt,BitVec.reduceToNat]
 generalize hc:((e+(d+(c+(b+(a+19#64)>>>51)>>>51)>>>51)>>>51)>>>51)=car
 refine bI 6 ?_
 simp only[go_sem,↓reduceIte,Nat.reduceEqDiff,Nat.reduceLT,Nat.reduceLeDiff,Nat.reduceAdd,Nat.reduceSub,Int.reduceLE,Int.reduceLT,Int.reduceToNat,Int.reduceAdd,Int.reduceNeg,BitVec.reduceOfInt,BitVec.reduceToNat]
 simp only[ij,cg,iz,List.set_cons_zero,List.getD_cons_zero,List.getD_cons_succ,hc] at hw0 hw1 hw2 hw3
 simp only[hw0,hw1,hw2,hw3]
 refine bI 5 ?_
 simp only[go_sem,↓reduceIte,Nat.reduceEqDiff,Nat.reduceLT,Nat.reduceAdd,Nat.reduceSub,Int.reduceLT,Int.reduceToNat]
 refine aA [] (a0) (by kernel_rfl) (by simp[-List.map_map,-List.map_set]) rfl (by simp[-List.map_map,-List.map_set]) (by first|decide|simp) (by simp[-List.map_map,-List.map_set]) (by simp[-List.map_map,-List.map_set]) (by simp[-List.map_map,-List.map_set]) (by simp[-List.map_map,-List.map_set]) (by simp) ?_
 simp only[go_sem,↓reduceIte,Nat.reduceEqDiff,Nat.reduceLT,Nat.reduceAdd,Nat.reduceSub,Int.reduceLE,Int.reduceLT,Int.reduceToNat,Int.reduceAdd,Int.reduceNeg]
 refine aA [1] (a1) (by kernel_rfl) (by simp[-List.map_map,-List.map_set]) rfl (by simp[-List.map_map,-List.map_set]) (by first|decide|simp) (by simp[-List.map_map,-List.map_set]) (by simp[-List.map_map,-List.map_set]) (by simp[-List.map_map,-List.map_set]) (by simp[-List.map_map,-List.map_set]) (by simp) ?_
 simp only[go_sem,↓reduceIte,Nat.reduceEqDiff,Nat.reduceLT,Nat.reduceAdd,Nat.reduceSub,Int.reduceLE,Int.reduceLT,Int.reduceToNat,Int.reduceAdd,Int.reduceNeg]
 refine aA [2] (a2) (by kernel_rfl) (by simp[-List.map_map,-List.map_set]) rfl (by simp[-List.map_map,-List.map_set]) (by first|decide|simp) (by simp[-List.map_map,-List.map_set]) (by simp[-List.map_map,-List.map_set]) (by simp[-List.map_map,-List.map_set]) (by simp[-List.map_map,-List.map_set]) (by simp) ?_
 simp only[go_sem,↓reduceIte,Nat.reduceEqDiff,Nat.reduceLT,Nat.reduceAdd,Nat.reduceSub,Int.reduceLE,Int.reduceLT,Int.reduceToNat,Int.reduceAdd,Int.reduceNeg]
 refine aA [3] (a3) (by kernel_rfl) (by simp[-List.map_map,-List.map_set]) rfl (by simp[-List.map_map,-List.map_set]) (by first|decide|simp) (by simp[-List.map_map,-List.map_set]) (by simp[-List.map_map,-List.map_set]) (by simp[-List.map_map,-List.map_set]) (by simp[-List.map_map,-List.map_set]) (by simp) ?_
 simp only[go_sem,↓reduceIte,Nat.reduceEqDiff,Nat.reduceLT,Nat.reduceAdd,Nat.reduceSub,Int.reduceLE,Int.reduceLT,Int.reduceAdd,Int.reduceNeg,bL,List.length_append]
 rw[List.take_of_length_le (by simp only[List.length_append,bL];omega)]
 simp only[List.append_assoc]
def b7:List Wd→List V
 |[]=>[]
 |x::l=> .u64 x.1:: .u64 x.2::b7 l
theorem nS (l:List Wd):(b7 l).length=2*l.length:=by
 induction l with
 |nil=>rfl
 |cons x l ih=>rw[b7,List.length_cons,List.length_cons,ih,List.length_cons];omega
theorem wd (σ:Nat→Nat)(l:List Wd):rens σ (b7 l)=b7 l:=by
 induction l with
 |nil=>rfl
 |cons x l ih=>rw[b7,rens,rens,ih];rfl
theorem we (k:Nat)(l:List Wd):ac k (b7 l):=by
 induction l with
 |nil=>trivial
 |cons x l ih=>exact⟨trivial,trivial,ih⟩
theorem sf (l:List Wd):∀ i,i<l.length→((b7 l).drop (2*i)).take 2=[.u64 (l.getD i wz).1,.u64 (l.getD i wz).2]:=by
 induction l with
 |nil=>intro i h;simp at h
 |cons x l ih=>
  intro i h
  cases i with
  |zero=>rfl
  |succ i=>
   rw[b7,show 2*(i+1)=2*i+1+1 by omega,List.drop_succ_cons,List.drop_succ_cons,ih i (by simpa using h),List.getD_cons_succ]
theorem xn (l:List Wd)(y:Wd):∀ i,i<l.length→(b7 l).take (2*i)++[.u64 y.1,.u64 y.2]++(b7 l).drop (2*i+2)=b7 (l.set i y):=by
 induction l with
 |nil=>intro i h;simp at h
 |cons x l ih=>
  intro i h
  cases i with
  |zero=>rfl
  |succ i=>
   have :=ih i (by simpa using h)
   rw[List.set_cons_succ,b7,b7,←this,show 2*(i+1)=2*i+1+1 by omega,List.take_succ_cons,List.take_succ_cons,show 2*i+1+1+2=(2*i+2)+1+1 by omega,List.drop_succ_cons,List.drop_succ_cons]
   rfl
def gn (w:List Wd)(i:Nat):List (BitVec 64):=(bu 0#64 (w.take i)).1++List.replicate (5-i) 0#64
theorem C1 (w:List Wd)(i:Nat)(h:i≤w.length)(h5:w.length=5):(gn w i).length=5:=by
 unfold gn;rw[List.length_append,mu,List.length_take,List.length_replicate];omega
theorem Jo (w:List Wd)(i:Nat)(h:i<w.length)(h5:w.length=5):(gn w i).set i (((w.getD i wz).2+(bu 0#64 (w.take i)).2+0#64)&&&2251799813685247#64)=gn w (i+1)∧iA (bu 0#64 (w.take i)).2 (w.getD i wz)=(bu 0#64 (w.take (i+1))).2:=by
 have ht:w.take (i+1)=w.take i++[w.getD i wz]:=by
  rw[List.take_succ_eq_append_getElem h,List.getD_eq_getElem?_getD,List.getElem?_eq_getElem h];rfl
 have hl:(bu 0#64 (w.take i)).1.length=i:=by rw[mu,List.length_take];omega
 unfold gn
 rw[ht,FU]
 refine⟨?_,rfl⟩
 rw[List.set_append_right _ _ (by omega),hl,Nat.sub_self,show 5-i=(5-(i+1))+1 by omega,List.replicate_succ,List.set_cons_zero]
 simp
theorem da (a b:List (BitVec 64))(ha:a.length=5)(hb:b.length=5):am Tryz.prog 73 [.agg (a.map .u64),.agg (b.map .u64)] (.agg ((bA a b).map .u64)):=by
 have hm:min 5 5=5:=rfl
 have h25:(2:Nat)*5=10:=rfl
 have hwl:∀ i,(b7 (cS a b i)).length=10:=fun i=>by rw[nS,kx]
 refine aw (by kernel_rfl) (fn:=Tryz.f73) (by kernel_rfl) Tryz.func73 rfl (by show 2≤89;decide) (by simp[fL,ac,V.low]) (by simp[fL,V.low]) (ag ?_)
 simp only[go_sem,↓reduceIte,Nat.reduceEqDiff,Nat.reduceLT,Nat.reduceAdd,Tryz.ntmps73,ha,List.take_of_length_le]
 refine aH (fun ji st=>∃ i:Nat,i+ji=5∧st=⟨[(2,.ptr 0 0),(3,.ptr 1 0),(4,.ptr 2 0),(5,.ptr 3 0),(18,.agg (a.map .u64)),(19,.i64 i)],[some ⟨false,a.map .u64,none⟩,some ⟨false,b.map .u64,none⟩,some ⟨false,[.u64 0#64,.u64 0#64,.u64 0#64,.u64 0#64,.u64 0#64],none⟩,some ⟨false,b7 (cS a b i),none⟩]⟩) ?_ ?_
 ·exact aX (5) ⟨[(2,.ptr 0 0),(3,.ptr 1 0),(4,.ptr 2 0),(5,.ptr 3 0),(18,.agg (a.map .u64)),(19,.i64 (0:Nat))],[some ⟨false,a.map .u64,none⟩,some ⟨false,b.map .u64,none⟩,some ⟨false,[.u64 0#64,.u64 0#64,.u64 0#64,.u64 0#64,.u64 0#64],none⟩,some ⟨false,b7 (cS a b (0:Nat)),none⟩]⟩ (by simp[St.get,ae,-List.map_set,-List.map_map]) rfl (fun _ _ h=>h) ⟨0,by omega,rfl⟩
 rintro ji st ⟨i,hi,rfl⟩ _
 simp only[go_sem,↓reduceIte,Nat.reduceEqDiff,Nat.reduceLT,Nat.reduceAdd,Int.reduceLT,BitVec.reduceOfInt]
 by_cases h0:i<5
 ·have h0':(i:Int)<5:=by omega
  have hml:=kx a b i
  have hia:i<a.length:=by omega
  have hi1:ca a b (cS a b i) i 5=cS a b (i+1):=rfl
  simp only[go_sem,↓reduceIte,h0',h0,ha,hb,dl hia,List.take_of_length_le]
  generalize cS a b i=w at hml hi1 ⊢
  refine⟨by omega,?_⟩
  refine aH (fun jk st=>∃ k:Nat,k+jk=5∧st=⟨[(2,.ptr 0 0),(3,.ptr 1 0),(4,.ptr 2 0),(5,.ptr 3 0),(6,.i64 i),(7,.u64 (a.getD i 0)),(18,.agg (a.map .u64)),(19,.i64 i),(23,.agg (b.map .u64)),(24,.i64 k)],[some ⟨false,a.map .u64,none⟩,some ⟨false,b.map .u64,none⟩,some ⟨false,[.u64 0#64,.u64 0#64,.u64 0#64,.u64 0#64,.u64 0#64],none⟩,some ⟨false,b7 (ca a b w i k),none⟩]⟩) ?_ ?_
  ·exact aX (5) ⟨[(2,.ptr 0 0),(3,.ptr 1 0),(4,.ptr 2 0),(5,.ptr 3 0),(6,.i64 i),(7,.u64 (a.getD i 0)),(18,.agg (a.map .u64)),(19,.i64 i),(23,.agg (b.map .u64)),(24,.i64 (0:Nat))],[some ⟨false,a.map .u64,none⟩,some ⟨false,b.map .u64,none⟩,some ⟨false,[.u64 0#64,.u64 0#64,.u64 0#64,.u64 0#64,.u64 0#64],none⟩,some ⟨false,b7 (ca a b w i (0:Nat)),none⟩]⟩ (by simp[St.get,ae,-List.map_set,-List.map_map]) rfl (fun _ _ h=>h) ⟨0,by omega,rfl⟩
  rintro jk st ⟨k,hk,rfl⟩ _
  simp only[go_sem,↓reduceIte,Nat.reduceEqDiff,Nat.reduceLT,Int.reduceLE,Int.reduceLT,BitVec.reduceOfInt]
  have hrl:=qx a b w i k
  rw[hml] at hrl
  by_cases hk0:k<5
  ·have hk0':(k:Int)<5:=by omega
   have hkb:k<b.length:=by omega
   have e1:ai ((i:Int)+(k:Int))=((i+k:Nat):Int):=by rw[al (by omega) (by omega)];omega
   by_cases hs5:i+k<5
   ·have g1:¬ (5:Int)≤((i+k:Nat):Int):=by omega
    have g3:((i+k:Nat):Int)<5:=by omega
    have fl:=sf (ca a b w i k) (i+k) (by omega)
    have fs:=xn (ca a b w i k) (fC ((ca a b w i k).getD (i+k) wz) (a.getD i 0) (b.getD k 0)) (i+k) (by omega)
    have hat:(ca a b w i k).set (i+k) (fC ((ca a b w i k).getD (i+k) wz) (a.getD i 0) (b.getD k 0))=ca a b w i (k+1):=by rw[ca];unfold jV;rw[if_pos hs5]
    rw[hat] at fs
    have hws:=wb ((ca a b w i k).getD (i+k) wz) (a.getD i 0) (b.getD k 0)
    have hfl:(b7 (ca a b w i k)).length=10:=by rw[nS,hrl]
    have hc2:(i+k)*2=2*(i+k):=by omega
    simp only[go_sem,↓reduceIte,Nat.reduceLeDiff,hk0',hk0,hb,dl hkb,e1,g1,g3,hc2,fl,hfl]
    refine⟨by omega,by omega,by omega,?_⟩
    refine ak (hws) ?_
    simp only[go_sem,↓reduceIte,Nat.reduceEqDiff,Nat.reduceLT,Nat.reduceLeDiff,Nat.reduceAdd,g3,hc2,hfl]
    refine⟨by omega,by omega,?_⟩
    rw[fs]
    refine aS (jk-1) ⟨[(2,.ptr 0 0),(3,.ptr 1 0),(4,.ptr 2 0),(5,.ptr 3 0),(6,.i64 i),(7,.u64 (a.getD i 0)),(18,.agg (a.map .u64)),(19,.i64 i),(23,.agg (b.map .u64)),(24,.i64 (k+1:Nat))],[some ⟨false,a.map .u64,none⟩,some ⟨false,b.map .u64,none⟩,some ⟨false,[.u64 0#64,.u64 0#64,.u64 0#64,.u64 0#64,.u64 0#64],none⟩,some ⟨false,b7 (ca a b w i (k+1:Nat)),none⟩]⟩ (by omega) ?_ rfl (fun _ _ h=>h) ⟨k+1,by omega,rfl⟩
    have hw1:ai ((k:Int)+1)=((k+1:Nat):Int):=by rw[al (by omega) (by omega)];omega
    simp[St.get,ae,hw1,-List.map_set,-List.map_map]
   ·have g1:(5:Int)≤((i+k:Nat):Int):=by omega
    have e2:ai (((i+k:Nat):Int)-5)=((i+k-5:Nat):Int):=by rw[al (by omega) (by omega)];omega
    have g3:((i+k-5:Nat):Int)<5:=by omega
    have g4:i+k-5<5:=by omega
    have fl:=sf (ca a b w i k) (i+k-5) (by omega)
    have fs:=xn (ca a b w i k) (fC ((ca a b w i k).getD (i+k-5) wz) (a.getD i 0) (19#64*b.getD k 0)) (i+k-5) (by omega)
    have hat:(ca a b w i k).set (i+k-5) (fC ((ca a b w i k).getD (i+k-5) wz) (a.getD i 0) (19#64*b.getD k 0))=ca a b w i (k+1):=by rw[ca];unfold jV;rw[if_neg hs5]
    rw[hat] at fs
    have hws:=wb ((ca a b w i k).getD (i+k-5) wz) (a.getD i 0) (19#64*b.getD k 0)
    have hfl:(b7 (ca a b w i k)).length=10:=by rw[nS,hrl]
    have hc2:(i+k-5)*2=2*(i+k-5):=by omega
    simp only[go_sem,↓reduceIte,Nat.reduceEqDiff,Nat.reduceLT,Nat.reduceLeDiff,hk0',hk0,hb,dl hkb,e1,e2,g1,g3,hc2,fl,hfl]
    refine⟨by omega,by omega,by omega,?_⟩
    refine ak (hws) ?_
    simp only[go_sem,↓reduceIte,Nat.reduceEqDiff,Nat.reduceLT,Nat.reduceLeDiff,Nat.reduceAdd,g3,hc2,hfl]
    refine⟨by omega,by omega,?_⟩
    rw[fs]
    refine aS (jk-1) ⟨[(2,.ptr 0 0),(3,.ptr 1 0),(4,.ptr 2 0),(5,.ptr 3 0),(6,.i64 i),(7,.u64 (a.getD i 0)),(18,.agg (a.map .u64)),(19,.i64 i),(23,.agg (b.map .u64)),(24,.i64 (k+1:Nat))],[some ⟨false,a.map .u64,none⟩,some ⟨false,b.map .u64,none⟩,some ⟨false,[.u64 0#64,.u64 0#64,.u64 0#64,.u64 0#64,.u64 0#64],none⟩,some ⟨false,b7 (ca a b w i (k+1:Nat)),none⟩]⟩ (by omega) ?_ rfl (fun _ _ h=>h) ⟨k+1,by omega,rfl⟩
    have hw1:ai ((k:Int)+1)=((k+1:Nat):Int):=by rw[al (by omega) (by omega)];omega
    simp[St.get,ae,hw1,-List.map_set,-List.map_map]
  ·obtain rfl:k=5:=by omega
   have hk0':¬ ((5:Nat):Int)<5:=by omega
   simp only[go_sem,↓reduceIte,Int.reduceLT,hi1]
   refine aS (ji-1) ⟨[(2,.ptr 0 0),(3,.ptr 1 0),(4,.ptr 2 0),(5,.ptr 3 0),(18,.agg (a.map .u64)),(19,.i64 (i+1:Nat))],[some ⟨false,a.map .u64,none⟩,some ⟨false,b.map .u64,none⟩,some ⟨false,[.u64 0#64,.u64 0#64,.u64 0#64,.u64 0#64,.u64 0#64],none⟩,some ⟨false,b7 (cS a b (i+1:Nat)),none⟩]⟩ (by omega) ?_ rfl (fun _ _ h=>h) ⟨i+1,by omega,rfl⟩
   have hw1:ai ((i:Int)+1)=((i+1:Nat):Int):=by rw[al (by omega) (by omega)];omega
   simp[St.get,ae,hw1,-List.map_set,-List.map_map]
 ·obtain rfl:i=5:=by omega
  have h0':¬ ((5:Nat):Int)<5:=by omega
  have hml:=kx a b 5
  unfold bA
  simp only[go_sem,↓reduceIte,Int.reduceLT,hwl]
  generalize cS a b 5=w at hml ⊢
  have hfl:(b7 w).length=10:=by rw[nS,hml]
  have h2m:min 10 10=10:=rfl
  simp only[go_sem,hfl,List.take_of_length_le]
  refine aH (fun jq st=>∃ q:Nat,q+jq=5∧st=⟨[(4,.ptr 2 0),(11,.ptr 4 0),(12,.u64 (bu 0#64 (w.take q)).2),(47,.agg (b7 w)),(48,.i64 q)],[some ⟨false,a.map .u64,none⟩,some ⟨false,b.map .u64,none⟩,some ⟨false,[.u64 0#64,.u64 0#64,.u64 0#64,.u64 0#64,.u64 0#64],none⟩,some ⟨false,b7 w,none⟩,some ⟨false,(gn w q).map .u64,none⟩]⟩) ?_ ?_
  ·exact aX (5) ⟨[(4,.ptr 2 0),(11,.ptr 4 0),(12,.u64 (bu 0#64 (w.take (0:Nat))).2),(47,.agg (b7 w)),(48,.i64 (0:Nat))],[some ⟨false,a.map .u64,none⟩,some ⟨false,b.map .u64,none⟩,some ⟨false,[.u64 0#64,.u64 0#64,.u64 0#64,.u64 0#64,.u64 0#64],none⟩,some ⟨false,b7 w,none⟩,some ⟨false,(gn w (0:Nat)).map .u64,none⟩]⟩ (by simp[St.get,ae,-List.map_set,-List.map_map,bu]) rfl (fun _ _ h=>h) ⟨0,by omega,rfl⟩
  rintro jq st ⟨q,hq,rfl⟩ _
  simp only[go_sem,↓reduceIte,Nat.reduceEqDiff,Nat.reduceLT,Nat.reduceAdd,Int.reduceLE,Int.reduceLT,Int.reduceToNat,BitVec.reduceOfInt,reduceCtorEq]
  have hpl:=C1 w q (by omega) hml
  by_cases hq0:q<5
  ·have hq0':(q:Int)<5:=by omega
   have fl:=sf w q (by omega)
   obtain⟨o1,o2⟩:=Jo w q (by omega) hml
   have hc2:q*2=2*q:=by omega
   have hql:q<(gn w q).length:=by omega
   have hcy:=eV (w.getD q wz).2 (bu 0#64 (w.take q)).2 0#64 (by decide)
   have had:=rO (w.getD q wz).2 (bu 0#64 (w.take q)).2 0#64 (by decide)
   have oc:((w.getD q wz).1+bj (w.getD q wz).2 (bu 0#64 (w.take q)).2 0#64)<<<13|||((w.getD q wz).2+(bu 0#64 (w.take q)).2+0#64)>>>51=(bu 0#64 (w.take (q+1))).2:=o2
   have hdl:((b7 w).drop (2*q)).take 2=[.u64 (w.getD q wz).1,.u64 (w.getD q wz).2]:=fl
   have hm2:min 2 (10-2*q)=2:=by omega
   have hd2:((b7 w).drop (2*q)).length=10-2*q:=by rw[List.length_drop,hfl]
   simp only[go_sem,↓reduceIte,Nat.reduceEqDiff,Nat.reduceLT,Nat.reduceAdd,Int.reduceLT,BitVec.reduceOfInt,hq0',hc2,fl,hfl,hm2]
   refine⟨by omega,?_⟩
   refine mA (had) ?_
   simp only[go_sem,↓reduceIte,Nat.reduceEqDiff,Nat.reduceLT,Nat.reduceLeDiff,Nat.reduceAdd,Int.reduceLE,Int.reduceLT,BitVec.reduceOfInt,BitVec.reduceToNat,oc,o1,hpl]
   refine⟨by omega,by omega,?_⟩
   have hw1:ai ((q:Int)+1)=((q+1:Nat):Int):=by rw[al (by omega) (by omega)];omega
   refine db (jq-1) ⟨[(4,.ptr 2 0),(11,.ptr 4 0),(12,.u64 (bu 0#64 (w.take (q+1:Nat))).2),(47,.agg (b7 w)),(48,.i64 (q+1:Nat))],[some ⟨false,a.map .u64,none⟩,some ⟨false,b.map .u64,none⟩,some ⟨false,[.u64 0#64,.u64 0#64,.u64 0#64,.u64 0#64,.u64 0#64],none⟩,some ⟨false,b7 w,none⟩,some ⟨false,(gn w (q+1:Nat)).map .u64,none⟩]⟩ [0,1,2,3,4] (by omega) rfl (by simp) rfl (by decide) (by simp[cp,St.get,ae,hw1,-List.map_map,-List.map_set,wd,we]) (by simp[-List.map_map,-List.map_set,wd,we]) ⟨q+1,by omega,rfl⟩
  ·obtain rfl:q=5:=by omega
   have hq0':¬ ((5:Nat):Int)<5:=by omega
   have hpe:gn w 5=(bu 0#64 w).1:=by unfold gn;rw[List.take_of_length_le (by omega)];simp
   have hte:w.take 5=w:=List.take_of_length_le (by omega)
   have hol:=mu w 0#64
   rw[hml] at hol
   have hcs:=kj (gN (bu 0#64 w).1 (bu 0#64 w).2) (by unfold gN;rw[List.length_set,List.length_set,hol])
   have hcl:=fZ (gN (bu 0#64 w).1 (bu 0#64 w).2) 2
   rw[show(gN (bu 0#64 w).1 (bu 0#64 w).2).length=5 by unfold gN;rw[List.length_set,List.length_set,hol]] at hcl
   generalize bS (gN (bu 0#64 w).1 (bu 0#64 w).2) 2=res at hcs hcl ⊢
   unfold gN at hcs
   generalize (bu 0#64 w).1=r at*
   obtain⟨r0,r1,r2,r3,r4,rfl⟩:=five r hol
   have hcs':am Tryz.prog 106 [.agg [.u64 (r0+19#64*((bu 0#64 w).2&&&2251799813685247#64)),.u64 (r1+19#64*((bu 0#64 w).2>>>51)),.u64 r2,.u64 r3,.u64 r4]] (.agg (res.map .u64)):=hcs
   simp only[go_sem,↓reduceIte,Nat.reduceEqDiff,Nat.reduceLT,Nat.reduceLeDiff,Nat.reduceAdd,Int.reduceLE,Int.reduceLT,Int.reduceToNat,BitVec.reduceOfInt,BitVec.reduceToNat,hpe,hte]
   refine ak (hcs') ?_
   simp only[go_sem,↓reduceIte,Nat.reduceEqDiff,Nat.reduceAdd,hcl,bd,List.take_of_length_le]
   done
def l8 (ws:List (BitVec 64))(j:Nat):Prop:=(ws.getD (j/64) 0)>>>(j%64)&&&1#64=1#64
instance (ws:List (BitVec 64)) (j:Nat):Decidable (l8 ws j):=by unfold l8;infer_instance
def oneE:List (BitVec 64):=[1#64,0#64,0#64,0#64,0#64]
theorem tj:sm oneE:=⟨rfl,trivial⟩
def cm (x ws:List (BitVec 64)):Nat→List (BitVec 64)
 |0=>oneE
 |c+1=>if l8 ws (64*ws.length-1-c) then bA (bA (cm x ws c) (cm x ws c)) x else bA (cm x ws c) (cm x ws c)
theorem pe (x ws:List (BitVec 64))(hx:sm x)(c:Nat):sm (cm x ws c):=by
 induction c with
 |zero=>exact tj
 |succ c ih=>
  rw[cm]
  split
  ·exact(dR _ _ (dR _ _ ih ih).1 hx).1
  ·exact(dR _ _ ih ih).1
theorem ya:am Tryz.prog 70 [] (.agg (oneE.map .u64)):=by
 rw[show oneE.map V.u64=[V.u64 1#64,V.u64 0#64,V.u64 0#64,V.u64 0#64,V.u64 0#64] from rfl]
 refine aw (by kernel_rfl) (fn:=Tryz.f70) (by kernel_rfl) Tryz.func70 rfl (by show 0≤2;decide) (by simp[ac]) (by simp[ac,V.low]) (ag ?_)
 simp only[go_sem,↓reduceIte,Nat.reduceLT,Nat.reduceLeDiff,Nat.reduceAdd,Int.reduceLE,Int.reduceLT,BitVec.reduceOfInt,Tryz.ntmps70,Tryz.results70]
theorem wg (x ws:List (BitVec 64))(hx:sm x)(hl:ws.length≤100):ao Tryz.prog 74 [.agg (x.map .u64),.slice 0 0 ws.length 1] [some ⟨false,ws.map .u64,none⟩] (.agg ((cm x ws (64*ws.length)).map .u64)) [some ⟨false,ws.map .u64,none⟩]:=by
 have hm:min 5 5=5:=rfl
 have hol:(oneE.map V.u64).length=5:=rfl
 have h1l:oneE.length=5:=rfl
 have hal:∀ c,(cm x ws c).length=5:=fun c=>(pe x ws hx c).1
 have ha0:cm x ws 0=oneE:=rfl
 refine aR (by kernel_rfl) (fn:=Tryz.f74) Tryz.func74 rfl (by show 2≤35;decide) (ag ?_)
 simp only[go_sem,↓reduceIte,Nat.reduceLT,Nat.reduceAdd,Tryz.ntmps74]
 refine ak (ya) ?_
 simp only[go_sem,↓reduceIte,Nat.reduceEqDiff,Nat.reduceLT,Nat.reduceAdd,hol,bd]
 generalize hN:ws.length=N at hl ⊢
 have e0:ai ((N:Int)-1)=(N:Int)-1:=al (by omega) (by omega)
 simp only[go_sem,e0]
 have ha0':oneE=cm x ws (64*0):=rfl
 rw[ha0']
 refine aH (fun ju st=>∃ u:Nat,u+ju=N∧st=⟨[(1,.slice 0 0 N 1),(2,.ptr 1 0),(4,.ptr 2 0),(5,.ptr 3 0),(6,.i64 ((N:Int)-1-u))],[some ⟨false,ws.map .u64,none⟩,some ⟨false,x.map .u64,none⟩,some ⟨false,[.u64 0#64,.u64 0#64,.u64 0#64,.u64 0#64,.u64 0#64],none⟩,some ⟨false,(cm x ws (64*u)).map .u64,none⟩]⟩) ?_ ?_
 ·exact aX (N) ⟨[(1,.slice 0 0 N 1),(2,.ptr 1 0),(4,.ptr 2 0),(5,.ptr 3 0),(6,.i64 ((N:Int)-1-(0:Nat)))],[some ⟨false,ws.map .u64,none⟩,some ⟨false,x.map .u64,none⟩,some ⟨false,[.u64 0#64,.u64 0#64,.u64 0#64,.u64 0#64,.u64 0#64],none⟩,some ⟨false,(cm x ws (64*(0:Nat))).map .u64,none⟩]⟩ (by simp[St.get,ae,-List.map_set,-List.map_map]) rfl (fun _ _ h=>h) ⟨0,by omega,rfl⟩
 rintro ju st ⟨u,hu,rfl⟩ _
 simp only[go_sem,↓reduceIte,Nat.reduceEqDiff,Nat.reduceLT,Nat.reduceAdd]
 by_cases h0:u<N
 ·have h0':(0:Int)≤(N:Int)-1-(u:Int):=by omega
  simp only[go_sem,↓reduceIte,h0']
  have hb0:cm x ws (64*u)=cm x ws (64*u+0):=rfl
  rw[hb0]
  refine aH (fun jq st=>∃ q:Nat,q+jq=64∧st=⟨[(1,.slice 0 0 N 1),(2,.ptr 1 0),(4,.ptr 2 0),(5,.ptr 3 0),(6,.i64 ((N:Int)-1-((u:Nat):Int))),(7,.i64 (63-q))],[some ⟨false,ws.map .u64,none⟩,some ⟨false,x.map .u64,none⟩,some ⟨false,[.u64 0#64,.u64 0#64,.u64 0#64,.u64 0#64,.u64 0#64],none⟩,some ⟨false,(cm x ws (64*u+q)).map .u64,none⟩]⟩) ?_ ?_
  ·exact aX (64) ⟨[(1,.slice 0 0 N 1),(2,.ptr 1 0),(4,.ptr 2 0),(5,.ptr 3 0),(6,.i64 ((N:Int)-1-((u:Nat):Int))),(7,.i64 (63-(0:Nat)))],[some ⟨false,ws.map .u64,none⟩,some ⟨false,x.map .u64,none⟩,some ⟨false,[.u64 0#64,.u64 0#64,.u64 0#64,.u64 0#64,.u64 0#64],none⟩,some ⟨false,(cm x ws (64*u+(0:Nat))).map .u64,none⟩]⟩ (by simp[St.get,ae,-List.map_set,-List.map_map]) rfl (fun _ _ h=>h) ⟨0,by omega,rfl⟩
  rintro jq st ⟨q,hq,rfl⟩ _
  simp only[go_sem,↓reduceIte,Nat.reduceEqDiff,Nat.reduceLT]
  by_cases hq0:q<64
  ·have hq0':(0:Int)≤63-(q:Int):=by omega
   have ei:(N:Int)-1-(u:Int)=((N-1-u:Nat):Int):=by omega
   have ek:63-(q:Int)=((63-q:Nat):Int):=by omega
   have hl1:=hal (64*u+q)
   have s1:=pe x ws hx (64*u+q)
   have ht1:=da (cm x ws (64*u+q)) (cm x ws (64*u+q)) hl1 hl1
   have hsq:=(dR _ _ s1 s1).1
   have hidx:64*ws.length-1-(64*u+q)=64*(N-1-u)+(63-q):=by rw[hN];omega
   have hst:cm x ws (64*u+(q+1))=if l8 ws (64*ws.length-1-(64*u+q)) then bA (bA (cm x ws (64*u+q)) (cm x ws (64*u+q))) x else bA (cm x ws (64*u+q)) (cm x ws (64*u+q)):=rfl
   rw[hidx] at hst
   have hb:l8 ws (64*(N-1-u)+(63-q))↔(ws.getD (N-1-u) 0)>>>(63-q)&&&1#64=1#64:=by
    unfold l8
    rw[show(64*(N-1-u)+(63-q))/64=N-1-u by omega,show(64*(N-1-u)+(63-q))%64=63-q by omega]
   have hx2:=da (bA (cm x ws (64*u+q)) (cm x ws (64*u+q))) x hsq.1 hx.1
   have hl2:=(dR _ _ hsq hx).1.1
   have hg:((N-1-u:Nat):Int)<(N:Int):=by omega
   have hg2:N-1-u<N:=by omega
   have hg3:N-1-u<ws.length:=by omega
   have hdk:ai (((63-q:Nat):Int)-1)=63-((q+1:Nat):Int):=by rw[al (by omega) (by omega)];omega
   simp only[go_sem,ek,ei,hl1,List.take_of_length_le]
   refine ak (ht1) ?_
   simp only[go_sem,↓reduceIte,Nat.reduceEqDiff,Nat.reduceLT,Int.reduceLE,Int.reduceLT,BitVec.reduceOfInt,hl1,hsq.1,bd,List.take_of_length_le,hg,hg2,hN,dl hg3,hdk]
   refine⟨by omega,by omega,?_⟩
   by_cases hbit:(ws.getD (N-1-u) 0)>>>(63-q)&&&1#64=1#64
   ·rw[if_pos (hb.2 hbit)] at hst
    rw[←hst] at hx2 hl2
    simp only[go_sem,↓reduceIte,hbit,hx.1,List.take_of_length_le]
    refine ak (hx2) ?_
    simp only[go_sem,↓reduceIte,Nat.reduceEqDiff,Nat.reduceLT,hl2,hsq.1,bd,hdk]
    refine aS (jq-1) ⟨[(1,.slice 0 0 N 1),(2,.ptr 1 0),(4,.ptr 2 0),(5,.ptr 3 0),(6,.i64 ((N-1-u:Nat):Int)),(7,.i64 (63-(((q+1:Nat):Nat):Int)))],[some ⟨false,ws.map .u64,none⟩,some ⟨false,x.map .u64,none⟩,some ⟨false,[.u64 0#64,.u64 0#64,.u64 0#64,.u64 0#64,.u64 0#64],none⟩,some ⟨false,(cm x ws (64*u+(q+1:Nat))).map .u64,none⟩]⟩ (by omega) ?_ rfl (fun _ _ h=>h) ⟨q+1,by omega,rfl⟩
    have hw1:ai ((q:Int)+1)=((q+1:Nat):Int):=by rw[al (by omega) (by omega)];omega
    simp[St.get,ae,-List.map_set,-List.map_map]
   ·rw[if_neg (fun e=>hbit (hb.1 e))] at hst
    simp only[go_sem,↓reduceIte,hbit,←hst]
    refine aS (jq-1) ⟨[(1,.slice 0 0 N 1),(2,.ptr 1 0),(4,.ptr 2 0),(5,.ptr 3 0),(6,.i64 ((N-1-u:Nat):Int)),(7,.i64 (63-(((q+1:Nat):Nat):Int)))],[some ⟨false,ws.map .u64,none⟩,some ⟨false,x.map .u64,none⟩,some ⟨false,[.u64 0#64,.u64 0#64,.u64 0#64,.u64 0#64,.u64 0#64],none⟩,some ⟨false,(cm x ws (64*u+(q+1:Nat))).map .u64,none⟩]⟩ (by omega) ?_ rfl (fun _ _ h=>h) ⟨q+1,by omega,rfl⟩
    have hw1:ai ((q:Int)+1)=((q+1:Nat):Int):=by rw[al (by omega) (by omega)];omega
    simp[St.get,ae,-List.map_set,-List.map_map]
  ·obtain rfl:q=64:=by omega
   have hq0':¬ (0:Int)≤63-((64:Nat):Int):=by omega
   have hdi:ai ((N:Int)-1-(u:Int)-1)=(N:Int)-1-((u+1:Nat):Int):=by rw[al (by omega) (by omega)];omega
   simp only[go_sem,↓reduceIte,Int.reduceLE,Int.reduceSub,Int.reduceNeg,hdi]
   rw[show 64*u+64=64*(u+1) by omega]
   refine aS (ju-1) ⟨[(1,.slice 0 0 N 1),(2,.ptr 1 0),(4,.ptr 2 0),(5,.ptr 3 0),(6,.i64 ((N:Int)-1-(((u+1:Nat):Nat):Int)))],[some ⟨false,ws.map .u64,none⟩,some ⟨false,x.map .u64,none⟩,some ⟨false,[.u64 0#64,.u64 0#64,.u64 0#64,.u64 0#64,.u64 0#64],none⟩,some ⟨false,(cm x ws (64*(u+1:Nat))).map .u64,none⟩]⟩ (by omega) ?_ rfl (fun _ _ h=>h) ⟨u+1,by omega,rfl⟩
   have hw1:ai ((u:Int)+1)=((u+1:Nat):Int):=by rw[al (by omega) (by omega)];omega
   simp[St.get,ae,-List.map_set,-List.map_map]
 ·obtain rfl:u=N:=by omega
  have h0':¬ (0:Int)≤(u:Int)-1-(u:Int):=by omega
  simp only[go_sem,↓reduceIte,Nat.reduceEqDiff,Nat.reduceAdd,h0',hal,hm,bd,List.take_of_length_le]
  exact Fin.ren [0] (by simp) (by simp) (by rfl) (by decide) (by simp[-List.map_map,-List.map_set]) (by simp[-List.map_map,-List.map_set])
def Sh:List Int:=[1,0,0,0,0,0,0,0,0,0,0,0,0,0,0,0]
theorem ok_one:ug Sh:=⟨rfl,by decide⟩
def gQ (n:BitVec 64):List (BitVec 64):=[n-20#64,n,n,n>>>1]
def gK (s:List (BitVec 8)):List (BitVec 8):=(s.set 0 (s.getD 0 0&&&248#8)).set 31 ((s.getD 31 0&&&127#8)|||64#8)
theorem wj (s:List (BitVec 8)):am Tryz.prog 46 [.str s] (.tup (if s.length=32 then[.str (gK s),.i64 0] else[.str [],.i64 1])):=by
 by_cases h:s.length=32
 ·rw[if_pos h]
  refine aw (by kernel_rfl) (fn:=Tryz.f46) (by kernel_rfl) Tryz.func46 rfl (by show 1≤24;decide) (by simp[ac,V.low]) (by simp[ac,V.low]) (ag ?_)
  simp only[go_sem,↓reduceIte,Nat.reduceEqDiff,Nat.reduceLT,Nat.reduceLeDiff,Nat.reduceAdd,Int.reduceLE,Int.reduceLT,Int.reduceToNat,BitVec.reduceOfInt,reduceCtorEq,Tryz.ntmps46,Tryz.results46,h,dT]
  rw[List.take_of_length_le (by simp[h])]
  have e:(s.set 0 (s.getD 0 0&&&248#8)).getD 31 0=s.getD 31 0:=by simp[List.getD_eq_getElem?_getD]
  rw[e];rfl
 ·rw[if_neg h]
  have h':¬ (s.length:Int)=32:=by omega
  refine aw (by kernel_rfl) (fn:=Tryz.f46) (by kernel_rfl) Tryz.func46 rfl (by show 1≤24;decide) (by simp[ac,V.low]) (by simp[ac,V.low]) (ag ?_)
  simp only[go_sem,↓reduceIte,Nat.reduceLT,reduceCtorEq,Tryz.ntmps46,Tryz.results46,h']
abbrev Pt:=List Int×List Int
section
def a24:List (BitVec 64):=[121665#64,0#64,0#64,0#64,0#64]
theorem Po:sm a24:=⟨rfl,trivial⟩
def kA (x z:List (BitVec 64)):=dX x z
def kB (x z:List (BitVec 64)):=dP x z
def eB (x z:List (BitVec 64)):=bA (kA x z) (kA x z)
def fG (x z:List (BitVec 64)):=bA (kB x z) (kB x z)
def kE (x z:List (BitVec 64)):=dP (eB x z) (fG x z)
def kT (x z:List (BitVec 64)):=bA a24 (kE x z)
def kU (x z:List (BitVec 64)):=dX (eB x z) (kT x z)
def gp (x z:List (BitVec 64)):=bA (eB x z) (fG x z)
def gq (x z:List (BitVec 64)):=bA (kE x z) (kU x z)
def fH (x2 z2 x3 z3:List (BitVec 64)):=bA (kB x3 z3) (kA x2 z2)
def fI (x2 z2 x3 z3:List (BitVec 64)):=bA (kA x3 z3) (kB x2 z2)
def kX (x2 z2 x3 z3:List (BitVec 64)):=dX (fH x2 z2 x3 z3) (fI x2 z2 x3 z3)
def gr (x2 z2 x3 z3:List (BitVec 64)):=bA (kX x2 z2 x3 z3) (kX x2 z2 x3 z3)
def kZ (x2 z2 x3 z3:List (BitVec 64)):=dP (fH x2 z2 x3 z3) (fI x2 z2 x3 z3)
def gV (x2 z2 x3 z3:List (BitVec 64)):=bA (kZ x2 z2 x3 z3) (kZ x2 z2 x3 z3)
def gt (x x2 z2 x3 z3:List (BitVec 64)):=bA x (gV x2 z2 x3 z3)
section
variable {x2 z2 x3 z3 x:List (BitVec 64)}{p q:Pt}{m:List Int}
end
structure L4 where
 x2:List (BitVec 64)
 z2:List (BitVec 64)
 x3:List (BitVec 64)
 z3:List (BitVec 64)
 sw:BitVec 8
def dK (x x2 z2 x3 z3:List (BitVec 64))(bit:BitVec 8):L4:=⟨gp x2 z2,gq x2 z2,gr x2 z2 x3 z3,gt x x2 z2 x3 z3,bit⟩
def nu (x:List (BitVec 64))(L:L4)(bit:BitVec 8):L4:=if bit=L.sw then dK x L.x2 L.z2 L.x3 L.z3 bit else dK x L.x3 L.z3 L.x2 L.z2 bit
def pQ (Q:List (BitVec 8))(t:Nat):BitVec 8:=(Q.getD (t/8) 0)>>>(t%8)&&&1#8
def bf (x:List (BitVec 64))(Q:List (BitVec 8)):Nat→L4
 |0=>⟨oneE,List.replicate 5 0#64,x,oneE,0#8⟩
 |c+1=>nu x (bf x Q c) (pQ Q (254-c))
theorem FX:sm (List.replicate 5 0#64)∧True:=⟨⟨rfl,trivial⟩,trivial⟩
end
theorem Ps (x:List (BitVec 64))(Q:List (BitVec 8))(hx:sm x)(c:Nat):sm (bf x Q c).x2∧sm (bf x Q c).z2∧sm (bf x Q c).x3∧sm (bf x Q c).z3:=by
 have core:∀ a b c d bit,sm a→sm b→sm c→sm d→sm (dK x a b c d bit).x2∧sm (dK x a b c d bit).z2∧sm (dK x a b c d bit).x3∧sm (dK x a b c d bit).z3:=by
  intro a b c d bit ha hb hc hd
  have sA:sm (kA a b):=(oQ a b ha hb).1
  have sB:sm (kB a b):=(oC a b ha hb).1
  have sC:sm (kA c d):=(oQ c d hc hd).1
  have sD:sm (kB c d):=(oC c d hc hd).1
  have sAA:sm (eB a b):=(dR _ _ sA sA).1
  have sBB:sm (fG a b):=(dR _ _ sB sB).1
  have sE:sm (kE a b):=(oC _ _ sAA sBB).1
  have sT:sm (kT a b):=(dR _ _ Po sE).1
  have sU:sm (kU a b):=(oQ _ _ sAA sT).1
  have sX2:sm (gp a b):=(dR _ _ sAA sBB).1
  have sZ2:sm (gq a b):=(dR _ _ sE sU).1
  have sDA:sm (fH a b c d):=(dR _ _ sD sA).1
  have sCB:sm (fI a b c d):=(dR _ _ sC sB).1
  have sX:sm (kX a b c d):=(oQ _ _ sDA sCB).1
  have sXX:sm (gr a b c d):=(dR _ _ sX sX).1
  have sZ:sm (kZ a b c d):=(oC _ _ sDA sCB).1
  have sZZ:sm (gV a b c d):=(dR _ _ sZ sZ).1
  have sZ3:sm (gt x a b c d):=(dR _ _ hx sZZ).1
  dsimp only[dK]
  exact⟨sX2,sZ2,sXX,sZ3⟩
 induction c with
 |zero=>exact⟨tj,FX.1,hx,tj⟩
 |succ c ih=>
  obtain⟨h1,h2,h3,h4⟩:=ih
  rw[bf]
  unfold nu
  split
  ·exact core _ _ _ _ _ h1 h2 h3 h4
  ·exact core _ _ _ _ _ h3 h4 h1 h2
theorem yK (x a b c d:List (BitVec 64))(bit:BitVec 8):(dK x a b c d bit).x2=gp a b:=by dsimp only[dK]
theorem yL (x a b c d:List (BitVec 64))(bit:BitVec 8):(dK x a b c d bit).z2=gq a b:=by dsimp only[dK]
theorem yM (x a b c d:List (BitVec 64))(bit:BitVec 8):(dK x a b c d bit).x3=gr a b c d:=by dsimp only[dK]
theorem yN (x a b c d:List (BitVec 64))(bit:BitVec 8):(dK x a b c d bit).z3=gt x a b c d:=by dsimp only[dK]
theorem yO (x a b c d:List (BitVec 64))(bit:BitVec 8):(dK x a b c d bit).sw=bit:=by dsimp only[dK]
theorem iN (a b:List (BitVec 64))(h:a.length=5):(dX a b).length=5:=by unfold dX;rw[fZ,og,h]
theorem iI (a b:List (BitVec 64))(h:a.length=5):(dP a b).length=5:=by unfold dP;rw[fZ,oh,h]
theorem dz (a b:List (BitVec 64)):(bA a b).length=5:=by
 unfold bA gN
 rw[fZ,List.length_set,List.length_set,mu,kx]
theorem C2 (Q U:List (BitVec 8))(hQ:Q.length=32)(hU:U.length=32):am Tryz.prog 47 [.str Q,.str U] (.str (textF (bA (if(bf (dY U) Q 255).sw=1#8 then(bf (dY U) Q 255).x3 else(bf (dY U) Q 255).x2) (cm (if(bf (dY U) Q 255).sw=1#8 then(bf (dY U) Q 255).z3 else(bf (dY U) Q 255).z2) (gQ 18446744073709551615#64) (64*4))))):=by
 have hQ':(Q.length:Int)=32:=by omega
 have hr:=FW U hU
 have hxs:=(FV U hU).1
 generalize dY U=x at hr hxs ⊢
 have hx:=hxs.1
 have hm:min 5 5=5:=rfl
 have h24l:a24.length=5:=rfl
 have hol:oneE.length=5:=rfl
 have hone:=ya
 have h24:[V.u64 121665#64,V.u64 0#64,V.u64 0#64,V.u64 0#64,V.u64 0#64]=a24.map .u64:=rfl
 have h0z:[V.u64 0#64,V.u64 0#64,V.u64 0#64,V.u64 0#64,V.u64 0#64]=(List.replicate 5 0#64).map .u64:=rfl
 refine aw (by kernel_rfl) (fn:=Tryz.f47) (by kernel_rfl) Tryz.func47 rfl (by show 2≤122;decide) (by simp[ac,V.low]) (by simp[V.low]) (ag ?_)
 simp only[go_sem,↓reduceIte,Nat.reduceEqDiff,Nat.reduceLT,Nat.reduceMul,Tryz.ntmps47]
 refine ak (hr) ?_
 simp only[go_sem,↓reduceIte,Nat.reduceEqDiff,Nat.reduceLT,Nat.reduceLeDiff,Nat.reduceAdd,Int.reduceLE,Int.reduceLT,BitVec.reduceOfInt,hx,bd]
 refine aC (hone) ?_
 simp only[go_sem,↓reduceIte,Nat.reduceEqDiff,Nat.reduceLT,Nat.reduceAdd,hx,List.take_of_length_le]
 refine aC (hone) ?_
 simp only[go_sem,↓reduceIte,Nat.reduceEqDiff,Nat.reduceLT,Nat.reduceAdd,Int.reduceLT,BitVec.reduceOfInt,hx,hol,bd]
 refine⟨by kernel_rfl,?_⟩
 refine aH (fun jc st=>∃ c:Nat,c+jc=255∧st=⟨[(0,.str Q),(5,.ptr 0 0),(7,.ptr 1 0),(8,.ptr 2 0),(9,.ptr 3 0),(10,.ptr 4 0),(11,.ptr 5 0),(12,.u8 (bf x Q c).sw),(13,.i64 (254-((c:Nat):Int)))],[some ⟨false,(x).map .u64,none⟩,some ⟨false,(a24).map .u64,none⟩,some ⟨false,((bf x Q c).x2).map .u64,none⟩,some ⟨false,((bf x Q c).z2).map .u64,none⟩,some ⟨false,((bf x Q c).x3).map .u64,none⟩,some ⟨false,((bf x Q c).z3).map .u64,none⟩]⟩) ?_ ?_
 ·exact aX (255) ⟨[(0,.str Q),(5,.ptr 0 0),(7,.ptr 1 0),(8,.ptr 2 0),(9,.ptr 3 0),(10,.ptr 4 0),(11,.ptr 5 0),(12,.u8 (bf x Q (0:Nat)).sw),(13,.i64 (254-(((0:Nat):Nat):Int)))],[some ⟨false,(x).map .u64,none⟩,some ⟨false,(a24).map .u64,none⟩,some ⟨false,((bf x Q (0:Nat)).x2).map .u64,none⟩,some ⟨false,((bf x Q (0:Nat)).z2).map .u64,none⟩,some ⟨false,((bf x Q (0:Nat)).x3).map .u64,none⟩,some ⟨false,((bf x Q (0:Nat)).z3).map .u64,none⟩]⟩ (by simp[St.get,ae,-List.map_set,-List.map_map,bf,oneE,List.replicate]) rfl (fun _ _ h=>h) ⟨0,by omega,rfl⟩
 rintro jc st ⟨c,hc,rfl⟩ _
 simp only[go_sem,↓reduceIte,Nat.reduceEqDiff,Nat.reduceLT,Nat.reduceLeDiff,Nat.reduceAdd,Int.reduceLE,Int.reduceLT,Int.reduceEq,BitVec.reduceOfInt,BitVec.reduceToNat,reduceCtorEq]
 obtain⟨s1,s2,s3,s4⟩:=Ps x Q hxs c
 by_cases h0:c<255
 ·have h0':(0:Int)≤254-(c:Int):=by omega
  have ec:254-(c:Int)=((254-c:Nat):Int):=by omega
  have e1:ai (((254-c:Nat):Int)-1)=254-((c+1:Nat):Int):=by rw[al (by omega) (by omega)];omega
  have hst:nu x (bf x Q c) (pQ Q (254-c))=bf x Q (c+1):=rfl
  have m1:ai (((254-c:Nat):Int).tdiv 8)=(((254-c)/8:Nat):Int):=by rw[show(8:Int)=((8:Nat):Int) from rfl,xJ,al (by omega) (by omega)]
  have m2:((254-c:Nat):Int).tmod 8=(((254-c)%8:Nat):Int):=rfl
  have g1:(((254-c)/8:Nat):Int)<32:=by omega
  have z1:(0:Int)≤(((254-c)/8:Nat):Int):=by omega
  have z2:(0:Int)≤(((254-c)%8:Nat):Int):=by omega
  have hbit:(Q.getD ((254-c)/8) 0)>>>((254-c)%8)&&&1#8=pQ Q (254-c):=rfl
  generalize pQ Q (254-c)=bit at*
  generalize hL:bf x Q c=L at*
  obtain⟨X2,Z2,X3,Z3,sw⟩:=L
  have l1:=s1.1
  have l2:=s2.1
  have l3:=s3.1
  have l4:=s4.1
  dsimp only at*
  by_cases hb:bit=sw
  ·have hst2:bf x Q (c+1)=dK x X2 Z2 X3 Z3 bit:=by rw[←hst];unfold nu;rw[if_pos hb]
   have n1:(bf x Q (c+1)).x2=gp X2 Z2:=by rw[hst2,yK]
   have n2:(bf x Q (c+1)).z2=gq X2 Z2:=by rw[hst2,yL]
   have n3:(bf x Q (c+1)).x3=gr X2 Z2 X3 Z3:=by rw[hst2,yM]
   have n4:(bf x Q (c+1)).z3=gt x X2 Z2 X3 Z3:=by rw[hst2,yN]
   have n5:(bf x Q (c+1)).sw=bit:=by rw[hst2,yO]
   clear hst hst2
   have tA:=iH X2 Z2 l1 l2
   rw[show dX X2 Z2=kA X2 Z2 from rfl] at tA
   have lA:(kA X2 Z2).length=5:=iN _ _ l1
   have tB:=iD X2 Z2 l1 l2
   rw[show dP X2 Z2=kB X2 Z2 from rfl] at tB
   have lB:(kB X2 Z2).length=5:=iI _ _ l1
   have tAA:=da _ _ lA lA
   rw[show bA (kA X2 Z2) (kA X2 Z2)=eB X2 Z2 from rfl] at tAA
   have lAA:(eB X2 Z2).length=5:=dz _ _
   have tBB:=da _ _ lB lB
   rw[show bA (kB X2 Z2) (kB X2 Z2)=fG X2 Z2 from rfl] at tBB
   have lBB:(fG X2 Z2).length=5:=dz _ _
   have tE:=iD _ _ lAA lBB
   rw[show dP (eB X2 Z2) (fG X2 Z2)=kE X2 Z2 from rfl] at tE
   have lE:(kE X2 Z2).length=5:=iI _ _ lAA
   have tC:=iH X3 Z3 l3 l4
   rw[show dX X3 Z3=kA X3 Z3 from rfl] at tC
   have lC:(kA X3 Z3).length=5:=iN _ _ l3
   have tD:=iD X3 Z3 l3 l4
   rw[show dP X3 Z3=kB X3 Z3 from rfl] at tD
   have lD:(kB X3 Z3).length=5:=iI _ _ l3
   have tDA:=da _ _ lD lA
   rw[show bA (kB X3 Z3) (kA X2 Z2)=fH X2 Z2 X3 Z3 from rfl] at tDA
   have lDA:(fH X2 Z2 X3 Z3).length=5:=dz _ _
   have tCB:=da _ _ lC lB
   rw[show bA (kA X3 Z3) (kB X2 Z2)=fI X2 Z2 X3 Z3 from rfl] at tCB
   have lCB:(fI X2 Z2 X3 Z3).length=5:=dz _ _
   have tX:=iH _ _ lDA lCB
   rw[show dX (fH X2 Z2 X3 Z3) (fI X2 Z2 X3 Z3)=kX X2 Z2 X3 Z3 from rfl] at tX
   have lX:(kX X2 Z2 X3 Z3).length=5:=iN _ _ lDA
   have tXX:=da _ _ lX lX
   rw[show bA (kX X2 Z2 X3 Z3) (kX X2 Z2 X3 Z3)=gr X2 Z2 X3 Z3 from rfl] at tXX
   have lXX:(gr X2 Z2 X3 Z3).length=5:=dz _ _
   have tZ:=iD _ _ lDA lCB
   rw[show dP (fH X2 Z2 X3 Z3) (fI X2 Z2 X3 Z3)=kZ X2 Z2 X3 Z3 from rfl] at tZ
   have lZ:(kZ X2 Z2 X3 Z3).length=5:=iI _ _ lDA
   have tZZ:=da _ _ lZ lZ
   rw[show bA (kZ X2 Z2 X3 Z3) (kZ X2 Z2 X3 Z3)=gV X2 Z2 X3 Z3 from rfl] at tZZ
   have lZZ:(gV X2 Z2 X3 Z3).length=5:=dz _ _
   have tZ3:=da _ _ hx lZZ
   rw[show bA x (gV X2 Z2 X3 Z3)=gt x X2 Z2 X3 Z3 from rfl] at tZ3
   have lZ3:(gt x X2 Z2 X3 Z3).length=5:=dz _ _
   have tX2:=da _ _ lAA lBB
   rw[show bA (eB X2 Z2) (fG X2 Z2)=gp X2 Z2 from rfl] at tX2
   have lX2:(gp X2 Z2).length=5:=dz _ _
   have tT:=da _ _ h24l lE
   rw[show bA a24 (kE X2 Z2)=kT X2 Z2 from rfl] at tT
   have lT:(kT X2 Z2).length=5:=dz _ _
   have tU:=iH _ _ lAA lT
   rw[show dX (eB X2 Z2) (kT X2 Z2)=kU X2 Z2 from rfl] at tU
   have lU:(kU X2 Z2).length=5:=iN _ _ lAA
   have tZ2:=da _ _ lE lU
   rw[show bA (kE X2 Z2) (kU X2 Z2)=gq X2 Z2 from rfl] at tZ2
   have lZ2:(gq X2 Z2).length=5:=dz _ _
   generalize gq X2 Z2=vlZ2 at*
   generalize kU X2 Z2=vlU at*
   generalize kT X2 Z2=vlT at*
   generalize gp X2 Z2=vlX2 at*
   generalize gt x X2 Z2 X3 Z3=vlZ3 at*
   generalize gV X2 Z2 X3 Z3=vlZZ at*
   generalize kZ X2 Z2 X3 Z3=vlZ at*
   generalize gr X2 Z2 X3 Z3=vlXX at*
   generalize kX X2 Z2 X3 Z3=vlX at*
   generalize fI X2 Z2 X3 Z3=vlCB at*
   generalize fH X2 Z2 X3 Z3=vlDA at*
   generalize kB X3 Z3=vlD at*
   generalize kA X3 Z3=vlC at*
   generalize kE X2 Z2=vlE at*
   generalize fG X2 Z2=vlBB at*
   generalize eB X2 Z2=vlAA at*
   generalize kB X2 Z2=vlB at*
   generalize kA X2 Z2=vlA at*
   simp only[go_sem,↓reduceIte,Nat.reduceEqDiff,Nat.reduceLT,Nat.reduceLeDiff,Nat.reduceAdd,Int.reduceLE,Int.reduceLT,BitVec.reduceOfInt,BitVec.reduceToNat,reduceCtorEq,ec,m1,m2,g1,z1,z2,hQ',hbit,hb,l1,l2,l3,l4,hm,bd,List.take_of_length_le]
   refine aC (tA) ?_
   simp only[go_sem,↓reduceIte,Nat.reduceEqDiff,Nat.reduceLT,Nat.reduceAdd,reduceCtorEq,l1,l2,List.take_of_length_le]
   refine aC (tB) ?_
   simp only[go_sem,↓reduceIte,Nat.reduceEqDiff,Nat.reduceLT,Nat.reduceAdd,lA,lB,bd,List.take_of_length_le]
   refine⟨by kernel_rfl,?_⟩
   refine aC (tAA) ?_
   simp only[go_sem,↓reduceIte,Nat.reduceEqDiff,Nat.reduceLT,Nat.reduceAdd,lB,List.take_of_length_le]
   refine aC (tBB) ?_
   simp only[go_sem,↓reduceIte,Nat.reduceEqDiff,Nat.reduceLT,Nat.reduceAdd,lAA,lBB,bd,List.take_of_length_le]
   refine⟨by kernel_rfl,?_⟩
   refine ak (tE) ?_
   simp only[go_sem,↓reduceIte,Nat.reduceEqDiff,Nat.reduceLT,Nat.reduceAdd,reduceCtorEq,l3,l4,lE,bd,List.take_of_length_le]
   refine aC (tC) ?_
   simp only[go_sem,↓reduceIte,Nat.reduceEqDiff,Nat.reduceLT,Nat.reduceAdd,reduceCtorEq,l3,l4,List.take_of_length_le]
   refine aC (tD) ?_
   simp only[go_sem,↓reduceIte,Nat.reduceEqDiff,Nat.reduceLT,Nat.reduceAdd,lA,lC,lD,bd,List.take_of_length_le]
   refine⟨by kernel_rfl,?_⟩
   refine aC (tDA) ?_
   simp only[go_sem,↓reduceIte,Nat.reduceEqDiff,Nat.reduceLT,Nat.reduceAdd,lB,lC,List.take_of_length_le]
   refine aC (tCB) ?_
   simp only[go_sem,↓reduceIte,Nat.reduceEqDiff,Nat.reduceLT,Nat.reduceAdd,lDA,lCB,bd,List.take_of_length_le]
   refine⟨by kernel_rfl,?_⟩
   refine ak (tX) ?_
   simp only[go_sem,↓reduceIte,Nat.reduceEqDiff,Nat.reduceLT,reduceCtorEq,l3,lX,bd,List.take_of_length_le]
   refine ak (tXX) ?_
   simp only[go_sem,↓reduceIte,Nat.reduceEqDiff,Nat.reduceLT,reduceCtorEq,lDA,lCB,lX,lXX,bd,List.take_of_length_le]
   refine ak (tZ) ?_
   simp only[go_sem,↓reduceIte,Nat.reduceEqDiff,Nat.reduceLT,Nat.reduceAdd,reduceCtorEq,hx,l4,lZ,bd,List.take_of_length_le]
   refine aC (tZZ) ?_
   simp only[go_sem,↓reduceIte,Nat.reduceEqDiff,Nat.reduceLT]
   refine aC (tZ3) ?_
   simp only[go_sem,↓reduceIte,Nat.reduceEqDiff,Nat.reduceLT,Nat.reduceAdd,reduceCtorEq,lAA,lBB,lZ,lZ3,bd,List.take_of_length_le]
   refine⟨by kernel_rfl,?_⟩
   refine ak (tX2) ?_
   simp only[go_sem,↓reduceIte,Nat.reduceEqDiff,Nat.reduceLT,Nat.reduceAdd,reduceCtorEq,h24l,l1,lAA,lE,lX2,bd,List.take_of_length_le]
   refine aC (tT) ?_
   simp only[go_sem,↓reduceIte,Nat.reduceEqDiff,Nat.reduceLT]
   refine aC (tU) ?_
   simp only[go_sem,↓reduceIte,Nat.reduceEqDiff,Nat.reduceLT]
   refine aC (tZ2) ?_
   simp only[go_sem,↓reduceIte,Nat.reduceEqDiff,Nat.reduceLT,Nat.reduceAdd,reduceCtorEq,l2,lZ2,bd,e1]
   refine⟨by kernel_rfl,?_⟩
   have hw1:ai ((c:Int)+1)=((c+1:Nat):Int):=by rw[al (by omega) (by omega)];omega
   refine db (jc-1) ⟨[(0,.str Q),(5,.ptr 0 0),(7,.ptr 1 0),(8,.ptr 2 0),(9,.ptr 3 0),(10,.ptr 4 0),(11,.ptr 5 0),(12,.u8 (bf x Q (c+1:Nat)).sw),(13,.i64 (254-(((c+1:Nat):Nat):Int)))],[some ⟨false,(x).map .u64,none⟩,some ⟨false,(a24).map .u64,none⟩,some ⟨false,((bf x Q (c+1:Nat)).x2).map .u64,none⟩,some ⟨false,((bf x Q (c+1:Nat)).z2).map .u64,none⟩,some ⟨false,((bf x Q (c+1:Nat)).x3).map .u64,none⟩,some ⟨false,((bf x Q (c+1:Nat)).z3).map .u64,none⟩]⟩ [0,1,2,3,4,5] (by omega) rfl (by simp) rfl (by decide) (by simp[cp,St.get,ae,-List.map_map,-List.map_set,n1,n2,n3,n4,n5,hb]) (by simp[-List.map_map,-List.map_set,n1,n2,n3,n4]) ⟨c+1,by omega,rfl⟩
  ·have hst2:bf x Q (c+1)=dK x X3 Z3 X2 Z2 bit:=by rw[←hst];unfold nu;rw[if_neg hb]
   have n1:(bf x Q (c+1)).x2=gp X3 Z3:=by rw[hst2,yK]
   have n2:(bf x Q (c+1)).z2=gq X3 Z3:=by rw[hst2,yL]
   have n3:(bf x Q (c+1)).x3=gr X3 Z3 X2 Z2:=by rw[hst2,yM]
   have n4:(bf x Q (c+1)).z3=gt x X3 Z3 X2 Z2:=by rw[hst2,yN]
   have n5:(bf x Q (c+1)).sw=bit:=by rw[hst2,yO]
   clear hst hst2
   have tA:=iH X3 Z3 l3 l4
   rw[show dX X3 Z3=kA X3 Z3 from rfl] at tA
   have lA:(kA X3 Z3).length=5:=iN _ _ l3
   have tB:=iD X3 Z3 l3 l4
   rw[show dP X3 Z3=kB X3 Z3 from rfl] at tB
   have lB:(kB X3 Z3).length=5:=iI _ _ l3
   have tAA:=da _ _ lA lA
   rw[show bA (kA X3 Z3) (kA X3 Z3)=eB X3 Z3 from rfl] at tAA
   have lAA:(eB X3 Z3).length=5:=dz _ _
   have tBB:=da _ _ lB lB
   rw[show bA (kB X3 Z3) (kB X3 Z3)=fG X3 Z3 from rfl] at tBB
   have lBB:(fG X3 Z3).length=5:=dz _ _
   have tE:=iD _ _ lAA lBB
   rw[show dP (eB X3 Z3) (fG X3 Z3)=kE X3 Z3 from rfl] at tE
   have lE:(kE X3 Z3).length=5:=iI _ _ lAA
   have tC:=iH X2 Z2 l1 l2
   rw[show dX X2 Z2=kA X2 Z2 from rfl] at tC
   have lC:(kA X2 Z2).length=5:=iN _ _ l1
   have tD:=iD X2 Z2 l1 l2
   rw[show dP X2 Z2=kB X2 Z2 from rfl] at tD
   have lD:(kB X2 Z2).length=5:=iI _ _ l1
   have tDA:=da _ _ lD lA
   rw[show bA (kB X2 Z2) (kA X3 Z3)=fH X3 Z3 X2 Z2 from rfl] at tDA
   have lDA:(fH X3 Z3 X2 Z2).length=5:=dz _ _
   have tCB:=da _ _ lC lB
   rw[show bA (kA X2 Z2) (kB X3 Z3)=fI X3 Z3 X2 Z2 from rfl] at tCB
   have lCB:(fI X3 Z3 X2 Z2).length=5:=dz _ _
   have tX:=iH _ _ lDA lCB
   rw[show dX (fH X3 Z3 X2 Z2) (fI X3 Z3 X2 Z2)=kX X3 Z3 X2 Z2 from rfl] at tX
   have lX:(kX X3 Z3 X2 Z2).length=5:=iN _ _ lDA
   have tXX:=da _ _ lX lX
   rw[show bA (kX X3 Z3 X2 Z2) (kX X3 Z3 X2 Z2)=gr X3 Z3 X2 Z2 from rfl] at tXX
   have lXX:(gr X3 Z3 X2 Z2).length=5:=dz _ _
   have tZ:=iD _ _ lDA lCB
   rw[show dP (fH X3 Z3 X2 Z2) (fI X3 Z3 X2 Z2)=kZ X3 Z3 X2 Z2 from rfl] at tZ
   have lZ:(kZ X3 Z3 X2 Z2).length=5:=iI _ _ lDA
   have tZZ:=da _ _ lZ lZ
   rw[show bA (kZ X3 Z3 X2 Z2) (kZ X3 Z3 X2 Z2)=gV X3 Z3 X2 Z2 from rfl] at tZZ
   have lZZ:(gV X3 Z3 X2 Z2).length=5:=dz _ _
   have tZ3:=da _ _ hx lZZ
   rw[show bA x (gV X3 Z3 X2 Z2)=gt x X3 Z3 X2 Z2 from rfl] at tZ3
   have lZ3:(gt x X3 Z3 X2 Z2).length=5:=dz _ _
   have tX2:=da _ _ lAA lBB
   rw[show bA (eB X3 Z3) (fG X3 Z3)=gp X3 Z3 from rfl] at tX2
   have lX2:(gp X3 Z3).length=5:=dz _ _
   have tT:=da _ _ h24l lE
   rw[show bA a24 (kE X3 Z3)=kT X3 Z3 from rfl] at tT
   have lT:(kT X3 Z3).length=5:=dz _ _
   have tU:=iH _ _ lAA lT
   rw[show dX (eB X3 Z3) (kT X3 Z3)=kU X3 Z3 from rfl] at tU
   have lU:(kU X3 Z3).length=5:=iN _ _ lAA
   have tZ2:=da _ _ lE lU
   rw[show bA (kE X3 Z3) (kU X3 Z3)=gq X3 Z3 from rfl] at tZ2
   have lZ2:(gq X3 Z3).length=5:=dz _ _
   generalize gq X3 Z3=vlZ2 at*
   generalize kU X3 Z3=vlU at*
   generalize kT X3 Z3=vlT at*
   generalize gp X3 Z3=vlX2 at*
   generalize gt x X3 Z3 X2 Z2=vlZ3 at*
   generalize gV X3 Z3 X2 Z2=vlZZ at*
   generalize kZ X3 Z3 X2 Z2=vlZ at*
   generalize gr X3 Z3 X2 Z2=vlXX at*
   generalize kX X3 Z3 X2 Z2=vlX at*
   generalize fI X3 Z3 X2 Z2=vlCB at*
   generalize fH X3 Z3 X2 Z2=vlDA at*
   generalize kB X2 Z2=vlD at*
   generalize kA X2 Z2=vlC at*
   generalize kE X3 Z3=vlE at*
   generalize fG X3 Z3=vlBB at*
   generalize eB X3 Z3=vlAA at*
   generalize kB X3 Z3=vlB at*
   generalize kA X3 Z3=vlA at*
   simp only[go_sem,↓reduceIte,Nat.reduceEqDiff,Nat.reduceLT,Nat.reduceLeDiff,Nat.reduceAdd,Int.reduceLE,Int.reduceLT,BitVec.reduceOfInt,BitVec.reduceToNat,reduceCtorEq,ec,m1,m2,g1,z1,z2,hQ',hbit,hb,l1,l2,l3,l4,hm,bd,List.take_of_length_le]
   refine⟨by kernel_rfl,?_⟩
   refine aC (tA) ?_
   simp only[go_sem,↓reduceIte,Nat.reduceEqDiff,Nat.reduceLT,Nat.reduceAdd,reduceCtorEq,l3,l4,List.take_of_length_le]
   refine aC (tB) ?_
   simp only[go_sem,↓reduceIte,Nat.reduceEqDiff,Nat.reduceLT,Nat.reduceAdd,lA,lB,bd,List.take_of_length_le]
   refine⟨by kernel_rfl,?_⟩
   refine aC (tAA) ?_
   simp only[go_sem,↓reduceIte,Nat.reduceEqDiff,Nat.reduceLT,Nat.reduceAdd,lB,List.take_of_length_le]
   refine aC (tBB) ?_
   simp only[go_sem,↓reduceIte,Nat.reduceEqDiff,Nat.reduceLT,Nat.reduceAdd,lAA,lBB,bd,List.take_of_length_le]
   refine⟨by kernel_rfl,?_⟩
   refine ak (tE) ?_
   simp only[go_sem,↓reduceIte,Nat.reduceEqDiff,Nat.reduceLT,Nat.reduceAdd,reduceCtorEq,l1,l2,lE,bd,List.take_of_length_le]
   refine aC (tC) ?_
   simp only[go_sem,↓reduceIte,Nat.reduceEqDiff,Nat.reduceLT,Nat.reduceAdd,reduceCtorEq,l1,l2,List.take_of_length_le]
   refine aC (tD) ?_
   simp only[go_sem,↓reduceIte,Nat.reduceEqDiff,Nat.reduceLT,Nat.reduceAdd,lA,lC,lD,bd,List.take_of_length_le]
   refine⟨by kernel_rfl,?_⟩
   refine aC (tDA) ?_
   simp only[go_sem,↓reduceIte,Nat.reduceEqDiff,Nat.reduceLT,Nat.reduceAdd,lB,lC,List.take_of_length_le]
   refine aC (tCB) ?_
   simp only[go_sem,↓reduceIte,Nat.reduceEqDiff,Nat.reduceLT,Nat.reduceAdd,lDA,lCB,bd,List.take_of_length_le]
   refine⟨by kernel_rfl,?_⟩
   refine ak (tX) ?_
   simp only[go_sem,↓reduceIte,Nat.reduceEqDiff,Nat.reduceLT,reduceCtorEq,l1,lX,bd,List.take_of_length_le]
   refine ak (tXX) ?_
   simp only[go_sem,↓reduceIte,Nat.reduceEqDiff,Nat.reduceLT,reduceCtorEq,lDA,lCB,lX,lXX,bd,List.take_of_length_le]
   refine ak (tZ) ?_
   simp only[go_sem,↓reduceIte,Nat.reduceEqDiff,Nat.reduceLT,Nat.reduceAdd,reduceCtorEq,hx,l2,lZ,bd,List.take_of_length_le]
   refine aC (tZZ) ?_
   simp only[go_sem,↓reduceIte,Nat.reduceEqDiff,Nat.reduceLT]
   refine aC (tZ3) ?_
   simp only[go_sem,↓reduceIte,Nat.reduceEqDiff,Nat.reduceLT,Nat.reduceAdd,reduceCtorEq,lAA,lBB,lZ,lZ3,bd,List.take_of_length_le]
   refine⟨by kernel_rfl,?_⟩
   refine ak (tX2) ?_
   simp only[go_sem,↓reduceIte,Nat.reduceEqDiff,Nat.reduceLT,Nat.reduceAdd,reduceCtorEq,h24l,l3,lAA,lE,lX2,bd,List.take_of_length_le]
   refine aC (tT) ?_
   simp only[go_sem,↓reduceIte,Nat.reduceEqDiff,Nat.reduceLT]
   refine aC (tU) ?_
   simp only[go_sem,↓reduceIte,Nat.reduceEqDiff,Nat.reduceLT]
   refine aC (tZ2) ?_
   simp only[go_sem,↓reduceIte,Nat.reduceEqDiff,Nat.reduceLT,Nat.reduceAdd,reduceCtorEq,l4,lZ2,bd,e1]
   refine⟨by kernel_rfl,?_⟩
   have hw1:ai ((c:Int)+1)=((c+1:Nat):Int):=by rw[al (by omega) (by omega)];omega
   refine db (jc-1) ⟨[(0,.str Q),(5,.ptr 0 0),(7,.ptr 1 0),(8,.ptr 2 0),(9,.ptr 3 0),(10,.ptr 4 0),(11,.ptr 5 0),(12,.u8 (bf x Q (c+1:Nat)).sw),(13,.i64 (254-(((c+1:Nat):Nat):Int)))],[some ⟨false,(x).map .u64,none⟩,some ⟨false,(a24).map .u64,none⟩,some ⟨false,((bf x Q (c+1:Nat)).x2).map .u64,none⟩,some ⟨false,((bf x Q (c+1:Nat)).z2).map .u64,none⟩,some ⟨false,((bf x Q (c+1:Nat)).x3).map .u64,none⟩,some ⟨false,((bf x Q (c+1:Nat)).z3).map .u64,none⟩]⟩ [0,1,2,3,4,5] (by omega) rfl (by simp) rfl (by decide) (by simp[cp,St.get,ae,-List.map_map,-List.map_set,n1,n2,n3,n4,n5]) (by simp[-List.map_map,-List.map_set,n1,n2,n3,n4]) ⟨c+1,by omega,rfl⟩
 ·obtain rfl:c=255:=by omega
  have h0':¬ (0:Int)≤254-((255:Nat):Int):=by omega
  have hx0:(255:Int)=((255:Nat):Int):=rfl
  generalize hL:bf x Q 255=L at*
  obtain⟨X2,Z2,X3,Z3,sw⟩:=L
  have l1:=s1.1
  have l2:=s2.1
  have l3:=s3.1
  have l4:=s4.1
  dsimp only at*
  have hiw:[V.u64 18446744073709551595#64,V.u64 18446744073709551615#64,V.u64 18446744073709551615#64,V.u64 9223372036854775807#64]=(gQ 18446744073709551615#64).map .u64:=rfl
  have w4:(gQ 18446744073709551615#64).length=4:=rfl
  by_cases hb:sw=1#8
  ·rw[if_pos hb,if_pos hb]
   have hp:=wg Z3 (gQ 18446744073709551615#64) s4 (by show 4≤100;omega)
   have sp:=pe Z3 (gQ 18446744073709551615#64) s4 (64*4)
   rw[w4,←hiw] at hp
   generalize cm Z3 (gQ 18446744073709551615#64) (64*4)=P at*
   have ht:=da X3 P l3 sp.1
   have st:=(dR X3 P s3 sp).1
   have hte:=wc _ st
   simp only[go_sem,↓reduceIte,Nat.reduceEqDiff,Nat.reduceLT,Nat.reduceLeDiff,Nat.reduceAdd,Int.reduceLE,Int.reduceLT,Int.reduceSub,Int.reduceNeg,BitVec.reduceOfInt,BitVec.reduceToNat,reduceCtorEq,hb,l1,l2,l3,l4,hm,bd,List.take_of_length_le]
   refine⟨by kernel_rfl,?_⟩
   refine kl [6] (hp) (by kernel_rfl) (by simp[-List.map_map,-List.map_set]) rfl (by simp[-List.map_map,-List.map_set]) (by decide) (by simp[-List.map_map,-List.map_set]) (by simp[-List.map_map,-List.map_set]) (by simp[-List.map_map,-List.map_set]) (by simp[-List.map_map,-List.map_set]) (by simp) (by first|(simp[cO,bR,au,cY,Blk.ren,-List.map_map,-List.map_set];done)|simp[go_sem,cO]) ?_
   simp only[go_sem,↓reduceIte,Nat.reduceEqDiff,Nat.reduceLT,Nat.reduceAdd,Nat.reduceSub,Int.reduceNeg]
   refine aC (ht) ?_
   simp only[go_sem,↓reduceIte,Nat.reduceLT,Int.reduceNeg]
   refine aC (hte) ?_
   simp only[go_sem,↓reduceIte,Nat.reduceLT,Int.reduceNeg]
   kernel_rfl
  ·rw[if_neg hb,if_neg hb]
   have hp:=wg Z2 (gQ 18446744073709551615#64) s2 (by show 4≤100;omega)
   have sp:=pe Z2 (gQ 18446744073709551615#64) s2 (64*4)
   rw[w4,←hiw] at hp
   generalize cm Z2 (gQ 18446744073709551615#64) (64*4)=P at*
   have ht:=da X2 P l1 sp.1
   have st:=(dR X2 P s1 sp).1
   have hte:=wc _ st
   simp only[go_sem,↓reduceIte,Int.reduceLE,Int.reduceSub,Int.reduceNeg,hb,l1,l2,List.take_of_length_le]
   refine kl [6] (hp) (by kernel_rfl) (by simp[-List.map_map,-List.map_set]) rfl (by simp[-List.map_map,-List.map_set]) (by decide) (by simp[-List.map_map,-List.map_set]) (by simp[-List.map_map,-List.map_set]) (by simp[-List.map_map,-List.map_set]) (by simp[-List.map_map,-List.map_set]) (by simp) (by first|(simp[cO,bR,au,cY,Blk.ren,-List.map_map,-List.map_set];done)|simp[go_sem,cO]) ?_
   simp only[go_sem,↓reduceIte,Nat.reduceEqDiff,Nat.reduceLT,Nat.reduceAdd,Nat.reduceSub,Int.reduceNeg]
   refine aC (ht) ?_
   simp only[go_sem,↓reduceIte,Nat.reduceLT,Int.reduceNeg]
   refine aC (hte) ?_
   simp only[go_sem,↓reduceIte,Nat.reduceLT,Int.reduceNeg]
   kernel_rfl
def gO (u:List (BitVec 8)):List (BitVec 8):=u.set 31 (u.getD 31 0&&&127#8)
theorem uU (u:List (BitVec 8)):(gO u).length=u.length:=by unfold gO;rw[List.length_set]
def iq (k u:List (BitVec 8)):List (BitVec 8):=textF (bA (if(bf (dY (gO u)) (gK k) 255).sw=1#8 then(bf (dY (gO u)) (gK k) 255).x3 else(bf (dY (gO u)) (gK k) 255).x2) (cm (if(bf (dY (gO u)) (gK k) 255).sw=1#8 then(bf (dY (gO u)) (gK k) 255).z3 else(bf (dY (gO u)) (gK k) 255).z2) (gQ 18446744073709551615#64) (64*4)))
theorem Bk (k:List (BitVec 8)):(gK k).length=k.length:=by unfold gK;rw[List.length_set,List.length_set]
theorem yb (k u:List (BitVec 8))(h:¬ (k.length=32∧u.length=32)):am Tryz.prog 28 [.str k,.str u] (.tup [.str [],.i64 1]):=by
 have hc:=wj k
 by_cases hk:k.length=32
 ·have hu:¬ (u.length:Int)=32:=by omega
  rw[if_pos hk] at hc
  refine aw (by kernel_rfl) (fn:=Tryz.f28) (by kernel_rfl) Tryz.func28 rfl (by show 2≤32;decide) (by simp[ac,V.low]) (by simp[ac,V.low]) (ag ?_)
  simp only[go_sem,seval,Tryz.ntmps28]
  refine ak (hc) ?_
  simp only[go_sem,seval,hu]
 ·rw[if_neg hk] at hc
  refine aw (by kernel_rfl) (fn:=Tryz.f28) (by kernel_rfl) Tryz.func28 rfl (by show 2≤32;decide) (by simp[ac,V.low]) (by simp[ac,V.low]) (ag ?_)
  simp only[go_sem,seval,Tryz.ntmps28]
  refine ak (hc) ?_
  simp only[go_sem,seval]
theorem xo (k u:List (BitVec 8))(hk:k.length=32)(hu:u.length=32):am Tryz.prog 28 [.str k,.str u] (.tup [.str (iq k u),.i64 0]):=by
 have hu':(u.length:Int)=32:=by omega
 have hc:=wj k
 rw[if_pos hk] at hc
 have hl:=C2 (gK k) (gO u) (by rw[Bk,hk]) (by rw[uU,hu])
 have hm:u.set 31 (u.getD 31 0&&&127#8)=gO u:=rfl
 have hml:=uU u
 rw[hu] at hml
 have g31:31<u.length:=by omega
 have hm32:min 32 32=32:=rfl
 unfold iq
 refine aw (by kernel_rfl) (fn:=Tryz.f28) (by kernel_rfl) Tryz.func28 rfl (by show 2≤32;decide) (by simp[ac,V.low]) (by simp[ac,V.low]) (ag ?_)
 simp only[go_sem,seval,Tryz.ntmps28]
 refine ak (hc) ?_
 simp only[go_sem,seval,hu,dT g31,hm,hml,List.take_of_length_le]
 refine ak (hl) ?_
 simp only[go_sem,seval]
theorem qg (k u:List (BitVec 8)):(iq k u).length=32:=by
 unfold iq
 exact textF_length _
def basePt:List (BitVec 8):=[9#8]++List.replicate 31 0#8
theorem wm:bytesOf (⟨#[9]⟩:ByteArray)=[9#8]:=rfl
theorem Bl:basePt.length=32:=rfl
theorem C3 (k:List (BitVec 8))(hk:k.length=32):am Tryz.prog 21 [.str k] (.tup [.str (iq k basePt),.i64 0]):=by
 have hr:=jA 31 (by decide)
 have hm:=xo k basePt hk Bl
 generalize iq k basePt=z at*
 unfold basePt at hm
 generalize hrr:List.replicate 31 0#8=rr at*
 have hrl:rr.length=31:=by rw[←hrr];rfl
 refine aw (by kernel_rfl) (fn:=Tryz.f21) (by kernel_rfl) Tryz.func21 rfl (by show 1≤10;decide) (by simp[ac,V.low]) (by simp[ac,V.low]) (ag ?_)
 simp only[go_sem,seval,Tryz.ntmps21]
 refine ak (hr) ?_
 simp only[go_sem,seval,wm]
 refine⟨by omega,?_⟩
 refine ak (hm) ?_
 simp only[go_sem,seval]
theorem Eo (k:List (BitVec 8))(hk:¬ k.length=32):am Tryz.prog 21 [.str k] (.tup [.str [],.i64 1]):=by
 have hr:=jA 31 (by decide)
 have hm:=yb k basePt (fun h=>hk h.1)
 unfold basePt at hm
 generalize hrr:List.replicate 31 0#8=rr at*
 have hrl:rr.length=31:=by rw[←hrr];rfl
 refine aw (by kernel_rfl) (fn:=Tryz.f21) (by kernel_rfl) Tryz.func21 rfl (by show 1≤10;decide) (by simp[ac,V.low]) (by simp[ac,V.low]) (ag ?_)
 simp only[go_sem,seval,Tryz.ntmps21]
 refine ak (hr) ?_
 simp only[go_sem,seval,wm]
 refine⟨by omega,?_⟩
 refine ak (hm) ?_
 simp only[go_sem,seval]
def lv (k u:List (BitVec 8)):List (BitVec 8)×Int:=if k.length=32∧u.length=32 then(if iq k u=List.replicate 32 0#8 then([],12) else(iq k u,0)) else([],1)
theorem Ep (k u:List (BitVec 8)):am Tryz.prog 151 [.str k,.str u] (.tup [.str (lv k u).1,.i64 (lv k u).2]):=by
 unfold lv
 by_cases h:k.length=32∧u.length=32
 ·have hm:=xo k u h.1 h.2
  have hl:=qg k u
  rw[if_pos h]
  generalize iq k u=z at*
  have ht:=FQ z (by omega)
  have hn:=Jh 0#8 z
  rw[hl] at hn
  by_cases hz:z=List.replicate 32 0#8
  ·rw[if_pos hz]
   have hz':=eq_true (hn.2 hz)
   clear hn hz
   refine aw (by kernel_rfl) (fn:=Tryz.f151) (by kernel_rfl) Tryz.func151 rfl (by show 2≤23;decide) (by simp[ac,V.low]) (by simp[ac,V.low]) (ag ?_)
   simp only[go_sem,seval,Tryz.ntmps151]
   refine ak (hm) ?_
   simp only[go_sem,seval]
   refine ak (ht) ?_
   simp only[go_sem,seval,hz']
  ·rw[if_neg hz]
   have hz':=eq_false (fun h=>hz (hn.1 h))
   clear hn hz
   refine aw (by kernel_rfl) (fn:=Tryz.f151) (by kernel_rfl) Tryz.func151 rfl (by show 2≤23;decide) (by simp[ac,V.low]) (by simp[ac,V.low]) (ag ?_)
   simp only[go_sem,seval,Tryz.ntmps151]
   refine ak (hm) ?_
   simp only[go_sem,seval]
   refine ak (ht) ?_
   simp only[go_sem,seval,hz']
 ·have hm:=yb k u h
  rw[if_neg h]
  refine aw (by kernel_rfl) (fn:=Tryz.f151) (by kernel_rfl) Tryz.func151 rfl (by show 2≤23;decide) (by simp[ac,V.low]) (by simp[ac,V.low]) (ag ?_)
  simp only[go_sem,seval,Tryz.ntmps151]
  refine ak (hm) ?_
  simp only[go_sem,seval]
def il (a b:Int):Prop:=0≤a∧a≤1099511627776∧0≤b∧b≤999999999
instance (a b:Int):Decidable (il a b):=by unfold il;infer_instance
theorem qy (a b:Int):am Tryz.prog 147 [.agg [.i64 a,.i64 b]] (.bool (decide (il a b))):=by
 unfold il
 by_cases h1:0≤a
 ·by_cases h2:a≤1099511627776
  ·by_cases h3:0≤b
   ·refine aw (by kernel_rfl) (fn:=Tryz.f147) (by kernel_rfl) Tryz.func147 rfl (by show 1≤21;decide) (by simp[ac,V.low]) (by simp[V.low]) (ag ?_)
    simp only[go_sem,seval,Tryz.ntmps147,Tryz.results147,h1,h2,h3]
   ·refine aw (by kernel_rfl) (fn:=Tryz.f147) (by kernel_rfl) Tryz.func147 rfl (by show 1≤21;decide) (by simp[ac,V.low]) (by simp[V.low]) (ag ?_)
    simp only[go_sem,seval,Tryz.ntmps147,Tryz.results147,h1,h2,h3,false_and,and_false]
  ·refine aw (by kernel_rfl) (fn:=Tryz.f147) (by kernel_rfl) Tryz.func147 rfl (by show 1≤21;decide) (by simp[ac,V.low]) (by simp[V.low]) (ag ?_)
   simp only[go_sem,seval,Tryz.ntmps147,Tryz.results147,h1,h2,false_and,and_false]
 ·refine aw (by kernel_rfl) (fn:=Tryz.f147) (by kernel_rfl) Tryz.func147 rfl (by show 1≤21;decide) (by simp[ac,V.low]) (by simp[V.low]) (ag ?_)
  simp only[go_sem,seval,Tryz.ntmps147,Tryz.results147,h1,false_and]
def pG (s:List (BitVec 8)):Int:=ai (BitVec.ofNat 64 (be (s.take 8))-4611686018427387904#64).toNat
def pH (s:List (BitVec 8)):Int:=be ((s.take 12).drop 8)
theorem Ro (s:List (BitVec 8))(h:12≤s.length):ai ((BitVec.ofNat 64 (be ((s.take 12).drop 8))).toNat:Int)=pH s:=by
 have hl:=zy ((s.take 12).drop 8)
 have :((s.take 12).drop 8).length=4:=by simp;omega
 rw[this] at hl
 rw[BitVec.toNat_ofNat,Nat.mod_eq_of_lt (by omega),al (by omega) (by omega)];rfl
theorem FY (s:List (BitVec 8))(h:12≤s.length):am Tryz.prog 134 [.str s] (.tup (if s.length=12∧il (pG s) (pH s) then[.agg [.i64 (pG s),.i64 (pH s)],.i64 0] else[.agg [.i64 0,.i64 0],.i64 5])):=by
 have h':¬ (s.length:Int)<12:=by omega
 have h2:(8:Int)≤s.length:=by omega
 have h3:(12:Int)≤s.length:=by omega
 have hn:=Ro s h
 have hsec:ai ((BitVec.ofNat 64 (be (s.take 8))-4611686018427387904#64).toNat:Int)=pG s:=rfl
 refine aw (by kernel_rfl) (fn:=Tryz.f134) (by kernel_rfl) Tryz.func134 rfl (by show 1≤29;decide) (by simp[ac,V.low]) (by simp[ac,V.low,Ha]) (ag ?_)
 simp only[go_sem,seval,Tryz.ntmps134,h',h2]
 refine aC (k7 _ (by simp;omega)) ?_
 simp only[go_sem,seval,h3]
 refine aC (k7 _ (by simp;omega)) ?_
 simp only[go_sem,seval,hn,hsec]
 refine⟨by kernel_rfl,?_⟩
 by_cases h4:(12:Int)<s.length
 ·have h5:¬ s.length=12:=by omega
  simp only[go_sem,seval,h4,h5,false_and]
 ·have h5:s.length=12:=by omega
  simp only[go_sem,seval,h5]
  refine ak (qy _ _) ?_
  by_cases h6:il (pG s) (pH s)
  ·simp only[go_sem,seval,h6]
  ·simp only[go_sem,seval,h6]
def jn (a b:Int):Int:=if a<b then -1 else if b<a then 1 else 0
theorem kI (a:Int):am Tryz.prog 156 [.i64 a] (.bool false):=by
 refine aw (by kernel_rfl) (fn:=Tryz.f156) (by kernel_rfl) Tryz.func156 rfl (by show 1≤6;decide) (by simp[ac,V.low]) (by simp[V.low]) (ag ?_)
 simp only[go_sem,seval,Tryz.ntmps156,Tryz.results156]
theorem uV (a b:Int):am Tryz.prog 136 [.i64 a,.i64 b] (.i64 (jn a b)):=by
 unfold jn
 by_cases h1:a<b
 ·refine aw (by kernel_rfl) (fn:=Tryz.f136) (by kernel_rfl) Tryz.func136 rfl (by show 2≤20;decide) (by simp[ac,V.low]) (by simp[V.low]) (ag ?_)
  simp only[go_sem,seval,Tryz.ntmps136]
  refine ak (kI _) ?_
  simp only[go_sem,seval]
  refine ak (kI _) ?_
  simp only[go_sem,seval,h1]
 ·by_cases h2:b<a
  ·refine aw (by kernel_rfl) (fn:=Tryz.f136) (by kernel_rfl) Tryz.func136 rfl (by show 2≤20;decide) (by simp[ac,V.low]) (by simp[V.low]) (ag ?_)
   simp only[go_sem,seval,Tryz.ntmps136]
   refine ak (kI _) ?_
   simp only[go_sem,seval]
   refine ak (kI _) ?_
   simp only[go_sem,seval,h1,h2]
  ·refine aw (by kernel_rfl) (fn:=Tryz.f136) (by kernel_rfl) Tryz.func136 rfl (by show 2≤20;decide) (by simp[ac,V.low]) (by simp[V.low]) (ag ?_)
   simp only[go_sem,seval,Tryz.ntmps136]
   refine ak (kI _) ?_
   simp only[go_sem,seval]
   refine ak (kI _) ?_
   simp only[go_sem,seval,h1,h2]
theorem MF (x y:Int):ao Tryz.prog 135 [.slice 0 0 2 1] [some ⟨false,[.i64 x,.i64 y],none⟩] (.i64 (if x=0 then y else x)) [some ⟨false,[.i64 x,.i64 y],none⟩]:=by
 by_cases h1:x=0
 ·by_cases h2:y=0
  ·refine aR (by kernel_rfl) (fn:=Tryz.f135) Tryz.func135 rfl (by show 1≤18;decide) (ag ?_)
   simp only[go_sem,seval,Tryz.ntmps135]
   refine bI 3 ?_
   simp only[go_sem,seval,h1,h2]
   exact Fin.ren [0] (by simp) (by simp) (by rfl) (by decide) (by simp) (by simp)
  ·refine aR (by kernel_rfl) (fn:=Tryz.f135) Tryz.func135 rfl (by show 1≤18;decide) (ag ?_)
   simp only[go_sem,seval,Tryz.ntmps135]
   refine bI 3 ?_
   simp only[go_sem,seval,h1,h2]
   exact Fin.ren [0] (by simp) (by simp) (by rfl) (by decide) (by simp) (by simp)
 ·refine aR (by kernel_rfl) (fn:=Tryz.f135) Tryz.func135 rfl (by show 1≤18;decide) (ag ?_)
  simp only[go_sem,seval,Tryz.ntmps135]
  refine bI 3 ?_
  simp only[go_sem,seval,h1]
  exact Fin.ren [0] (by simp) (by simp) (by rfl) (by decide) (by simp) (by simp)
def later (a b c d:Int):Prop:=c<a∨(a=c∧d<b)
instance (a b c d:Int):Decidable (later a b c d):=by unfold later;infer_instance
theorem FZ (a b c d:Int):decide (0<if jn a c=0 then jn b d else jn a c)=decide (later a b c d):=by
 unfold later jn
 refine decide_eq_decide.2 ?_
 by_cases h1:a<c
 ·rw[if_pos h1,if_neg (by decide)];omega
 ·rw[if_neg h1]
  by_cases h2:c<a
  ·rw[if_pos h2,if_neg (by decide)];omega
  ·rw[if_neg h2,if_pos rfl]
   by_cases h3:b<d
   ·rw[if_pos h3];omega
   ·rw[if_neg h3]
    by_cases h4:d<b
    ·rw[if_pos h4];omega
    ·rw[if_neg h4];omega
theorem Er (a b c d:Int):am Tryz.prog 91 [.agg [.i64 a,.i64 b],.agg [.i64 c,.i64 d]] (.bool (decide (later a b c d))):=by
 refine aw (by kernel_rfl) (fn:=Tryz.f91) (by kernel_rfl) Tryz.func91 rfl (by show 2≤18;decide) (by simp[ac,V.low]) (by simp[V.low]) (ag ?_)
 simp only[go_sem,seval,Tryz.ntmps91]
 refine aC (uV _ _) ?_
 simp only[go_sem,seval]
 refine aC (uV _ _) ?_
 simp only[go_sem,seval]
 refine dj [2] (MF (jn a c) (jn b d)) (by kernel_rfl) (by simp) rfl (by simp) (by first|decide|simp) (by simp) (by simp) (by simp) (by simp) (by simp) ?_
 simp only[go_sem,seval,FZ]
 kernel_rfl
theorem Es (a b:Int):am Tryz.prog 112 [.agg [.i64 a,.i64 b]] (.tup (if il a b then[.str (bz (4611686018427387904+a.toNat) 8++bz b.toNat 4),.i64 0] else[.str [],.i64 1])):=by
 by_cases h:il a b
 ·rw[if_pos h]
  have hok:=h
  obtain⟨h1,h2,h3,h4⟩:=h
  have e3:(4611686018427387904#64+BitVec.ofInt 64 a).toNat=4611686018427387904+a.toNat:=by
   obtain⟨n,rfl⟩:=Int.eq_ofNat_of_zero_le h1
   rw[BitVec.ofInt_natCast,BitVec.toNat_add,BitVec.toNat_ofNat,BitVec.toNat_ofNat]
   simp;omega
  have e4:(BitVec.ofInt 64 b).toNat=b.toNat:=by
   obtain⟨n,rfl⟩:=Int.eq_ofNat_of_zero_le h3
   rw[BitVec.ofInt_natCast,BitVec.toNat_ofNat]
   simp;omega
  have hl:(bz (4611686018427387904+a.toNat) 8).length=8:=cn _ _
  refine aw (by kernel_rfl) (fn:=Tryz.f112) (by kernel_rfl) Tryz.func112 rfl (by show 1≤17;decide) (by simp[ac,V.low]) (by simp[ac,V.low]) (ag ?_)
  simp only[go_sem,seval,Tryz.ntmps112]
  refine ak (qy _ _) ?_
  simp only[go_sem,seval,hok]
  refine dj [] (ku (4611686018427387904#64+BitVec.ofInt 64 a)) (by kernel_rfl) (by simp) rfl (by simp) (by first|decide|simp) (by simp) (by simp) (by simp) (by simp) (by simp) ?_
  simp only[go_sem,seval,e3]
  refine dj [1] (nQ (bz (4611686018427387904+a.toNat) 8) (BitVec.ofInt 64 b) (by rw[hl];decide)) (by kernel_rfl) (by simp[hl]) rfl (by simp) (by first|decide|simp) (by simp) (by simp) (by simp) (by simp) (by simp) ?_
  simp only[go_sem,seval,e4,cn,List.take_of_length_le]
  kernel_rfl
 ·rw[if_neg h]
  refine aw (by kernel_rfl) (fn:=Tryz.f112) (by kernel_rfl) Tryz.func112 rfl (by show 1≤17;decide) (by simp[ac,V.low]) (by simp[ac,V.low]) (ag ?_)
  simp only[go_sem,seval,Tryz.ntmps112]
  refine ak (qy _ _) ?_
  simp only[go_sem,seval,h]
theorem km (n:Int):am Tryz.prog 113 [.i64 n] (.bool (decide (n=1∨n=2))):=by
 refine aw (by kernel_rfl) (fn:=Tryz.f113) (by kernel_rfl) Tryz.func113 rfl (by show 1≤9;decide) (by simp[ac,V.low]) (by simp[V.low]) (ag ?_)
 simp only[go_sem,seval,Tryz.ntmps113,Tryz.results113]
 by_cases h1:n=1
 ·subst h1;simp only[go_sem,seval];kernel_rfl
 ·by_cases h2:n=2
  ·subst h2;simp only[go_sem,seval];kernel_rfl
  ·simp[h1,h2]
theorem rP (ss:List (List af))(hn:ss.length≤1000):∃ v h',ao Tryz.prog 114 [.slice 0 0 ss.length 1] [some ⟨false,ss.map .str,none⟩] v h'∧((∃ b,v= .bool b)∧h'=[some ⟨false,ss.map .str,none⟩]):=by
 refine cb (Post:=fun v h'=>(∃ b,v= .bool b)∧h'=[some ⟨false,ss.map .str,none⟩]) (by kernel_rfl) (fn:=Tryz.f114) Tryz.func114 rfl (by show 1≤15;decide) (ag ?_)
 simp only[go_sem,seval]
 refine aH (fun j st=>∃ i:Nat,i+j=ss.length∧st=⟨[(5,.slice 0 0 ss.length 1),(6,.i64 ss.length),(7,.i64 i)],[some ⟨false,ss.map .str,none⟩]⟩) ?_ ?_
 ·exact aX ss.length ⟨[(5,.slice 0 0 ss.length 1),(6,.i64 ss.length),(7,.i64 (0:Nat))],[some ⟨false,ss.map .str,none⟩]⟩ (by simp[St.get,ae]) rfl (fun _ _ h=>h) ⟨0,by omega,rfl⟩
 rintro j st ⟨i,hij,rfl⟩-
 by_cases hi:i<ss.length
 ·have hi':(i:Int)<ss.length:=by omega
  have hw1:=cd (i:=i) (by omega)
  have hg:(ss.map V.str).getD i .junk= .str (ss.getD i []):=by rw[dg V.str [],if_pos hi]
  simp only[go_sem,seval,hi',hg,List.length_map]
  repeat refine aJ ?_
  split
  ·refine⟨_,_,?_,Fin.take 1 (by simp) (by simp) (by simp[V.low,-List.map_take,-List.map_drop,-List.map_map,-List.map_set]) (by simp[aF,-List.map_take,-List.map_drop,-List.map_map,-List.map_set])⟩
   exact⟨⟨_,rfl⟩,rfl⟩
  ·exact aS (j-1) ⟨[(5,.slice 0 0 ss.length 1),(6,.i64 ss.length),(7,.i64 (i+1:Nat))],[some ⟨false,ss.map .str,none⟩]⟩ (by omega) (by simp[St.get,ae,hw1]) rfl (fun _ _ h=>h) ⟨i+1,by omega,rfl⟩
 ·have hi':¬ (i:Int)<ss.length:=by omega
  simp only[go_sem,seval,hi']
  refine⟨_,_,?_,Fin.take 1 (by simp) (by simp) (by simp[V.low,-List.map_take,-List.map_drop,-List.map_map,-List.map_set]) (by simp[aF,-List.map_take,-List.map_drop,-List.map_map,-List.map_set])⟩
  exact⟨⟨_,rfl⟩,rfl⟩
theorem qZ (n:BitVec 32):∃ v,am Tryz.prog 119 [.u32 n] v∧∃ o:List af,o.length=4∧v= .str o:=by
 refine ct (Post:=fun v=>∃ o:List af,o.length=4∧v= .str o) (by kernel_rfl) (by kernel_rfl) (fn:=Tryz.f119) Tryz.func119 rfl (by show 1≤7;decide) (by simp[ac,V.low]) (fun v h=>by first|(obtain⟨s,rfl,h⟩:=h;simp[ac,V.low])|(obtain⟨s,h,rfl⟩:=h;simp[V.low])) (ag ?_)
 simp only[go_sem,seval]
 refine aA [] (nJ (n.setWidth 64)) (by kernel_rfl) (by simp) rfl (by simp) (by first|decide|simp) (by simp) (by simp) (by simp) (by simp) (by simp) ?_
 simp only[go_sem,seval]
 repeat refine aJ ?_
 exact⟨by simp[bL],_,by simp[bL],rfl⟩
def bG (e:Int)(cs:List V):List (Option Blk):=[some ⟨false,[.ptr 1 0,.i64 e],none⟩,some ⟨false,cs,none⟩]
attribute [simp, go_sem] bG
theorem oV (e:Int)(cs:List V)(hst:IsSt cs)(t:List af)(ht:t.length≤549755813888):∃ v h',ao Tryz.prog 116 [.ptr 0 0,.str t] (bG e cs) v h'∧(v= .tup []∧∃ cs',IsSt cs'∧h'=bG e cs'):=by
 obtain⟨_,_,h1,rfl,c2,hst2,rfl⟩:=kv cs hst t ht
 obtain⟨_,_,h2,rfl,c3,hst3,rfl⟩:=vQ c2 hst2 t ht
 have r1:=hst.rens
 have l1:=hst.low
 have r2:=hst2.rens
 have l2:=hst2.low
 have r3:=hst3.rens
 have l3:=hst3.low
 unfold bG
 refine cb (Post:=fun v h'=>v= .tup []∧∃ cs',IsSt cs'∧h'=[some ⟨false,[.ptr 1 0,.i64 e],none⟩,some ⟨false,cs',none⟩]) (by kernel_rfl) (fn:=Tryz.f116) Tryz.func116 rfl (by show 2≤16;decide) (ag ?_)
 simp only[go_sem,seval]
 repeat refine aJ ?_
 refine aA [1] (h1) (by kernel_rfl) (by simp) rfl (by simp) (by first|decide|simp) (by simp) (by simp) (by simp[r1,l1]) (by simp) (by simp) ?_
 simp only[go_sem,seval,r2]
 repeat refine aJ ?_
 refine aA [1] (h2) (by kernel_rfl) (by simp) rfl (by simp) (by first|decide|simp) (by simp) (by simp) (by simp[r2,l2]) (by simp) (by simp) ?_
 simp only[go_sem,seval,r3]
 repeat refine aJ ?_
 refine⟨_,_,?_,Fin.take 2 (by simp) (by simp) (by simp[cN,ac,V.low,-List.map_take,-List.map_drop,-List.map_map,-List.map_set]) (by simp[aF,ac,V.low,-List.map_take,-List.map_drop,-List.map_map,-List.map_set,l3])⟩
 exact⟨rfl,_,hst3,rfl⟩
theorem iJ (e:Int)(cs:List V)(hst:IsSt cs)(k u:List af):∃ v h',ao Tryz.prog 117 [.ptr 0 0,.str k,.str u] (bG e cs) v h'∧(v= .tup []∧∃ e' cs',(e'=0→e=0)∧IsSt cs'∧h'=bG e' cs'):=by
 have hsh:=Ep k u
 have hle:(lv k u).1.length≤32:=by
  unfold lv
  split
  ·split
   ·simp
   ·simp[qg]
  ·simp
 generalize lv k u=z at*
 obtain⟨_,_,h2,rfl,c3,hst3,rfl⟩:=vQ cs hst z.1 (by omega)
 have r1:=hst.rens
 have l1:=hst.low
 have r3:=hst3.rens
 have l3:=hst3.low
 unfold bG
 by_cases he:e=0
 ·subst he
  refine cb (Post:=fun v h'=>v= .tup []∧∃ e' cs',(e'=0→(0:Int)=0)∧IsSt cs'∧h'=[some ⟨false,[.ptr 1 0,.i64 e'],none⟩,some ⟨false,cs',none⟩]) (by kernel_rfl) (fn:=Tryz.f117) Tryz.func117 rfl (by show 3≤32;decide) (ag ?_)
  simp only[go_sem,seval]
  repeat refine aJ ?_
  refine ak (hsh) ?_
  simp only[go_sem,seval]
  repeat refine aJ ?_
  split
  ·refine aA [1] (h2) (by kernel_rfl) (by simp) rfl (by simp) (by first|decide|simp) (by simp) (by simp) (by simp[r1,l1]) (by simp) (by simp) ?_
   simp only[go_sem,seval,r3]
   repeat refine aJ ?_
   refine⟨_,_,?_,Fin.take 2 (by simp) (by simp) (by simp[cN,ac,V.low,-List.map_take,-List.map_drop,-List.map_map,-List.map_set]) (by simp[aF,ac,V.low,-List.map_take,-List.map_drop,-List.map_map,-List.map_set,l3])⟩
   exact⟨rfl,_,_,hst3,rfl⟩
  ·refine⟨_,_,?_,Fin.take 2 (by simp) (by simp) (by simp[cN,ac,V.low,-List.map_take,-List.map_drop,-List.map_map,-List.map_set]) (by simp[aF,ac,V.low,-List.map_take,-List.map_drop,-List.map_map,-List.map_set,l1])⟩
   exact⟨rfl,_,_,hst,rfl⟩
 ·refine cb (Post:=fun v h'=>v= .tup []∧∃ e' cs',(e'=0→e=0)∧IsSt cs'∧h'=[some ⟨false,[.ptr 1 0,.i64 e'],none⟩,some ⟨false,cs',none⟩]) (by kernel_rfl) (fn:=Tryz.f117) Tryz.func117 rfl (by show 3≤32;decide) (ag ?_)
  simp only[go_sem,seval,he]
  repeat refine aJ ?_
  refine⟨_,_,?_,Fin.take 2 (by simp) (by simp) (by simp[cN,ac,V.low,-List.map_take,-List.map_drop,-List.map_map,-List.map_set]) (by simp[aF,ac,V.low,-List.map_take,-List.map_drop,-List.map_map,-List.map_set,l1])⟩
  exact⟨rfl,_,_,fun h=>he h,hst,rfl⟩
theorem rQ (e:Int)(cs:List V)(hst:IsSt cs)(x:List af)(ht:x.length≤274877906944):∃ v h',ao Tryz.prog 118 [.ptr 0 0,.str x] (bG e cs) v h'∧(∃ (o:List af) (e':Int) (cs':List V),v= .str o∧o.length≤x.length+16∧(e'=0→e=0∧o.length=x.length+16)∧IsSt cs'∧h'=bG e' cs'):=by
 obtain⟨_,_,h2,⟨o,e2,rfl,he2,ho⟩,c3,hst3,rfl⟩:=D0 boxSeal258 boxSeal259 cs hst x ht
 have r1:=hst.rens
 have l1:=hst.low
 have r3:=hst3.rens
 have l3:=hst3.low
 unfold bG
 by_cases he:e=0
 ·subst he
  refine cb (Post:=fun v h'=>∃ (o:List af) (e':Int) (cs':List V),v= .str o∧o.length≤x.length+16∧(e'=0→(0:Int)=0∧o.length=x.length+16)∧IsSt cs'∧h'=[some ⟨false,[.ptr 1 0,.i64 e'],none⟩,some ⟨false,cs',none⟩]) (by kernel_rfl) (fn:=Tryz.f118) Tryz.func118 rfl (by show 2≤23;decide) (ag ?_)
  simp only[go_sem,seval]
  repeat refine aJ ?_
  refine aA [1] (h2) (by kernel_rfl) (by simp) rfl (by simp) (by first|decide|simp) (by simp) (by simp) (by simp[r1,l1]) (by simp) (by simp) ?_
  simp only[go_sem,seval,r3]
  repeat refine aJ ?_
  refine⟨_,_,?_,Fin.take 2 (by simp) (by simp) (by simp[V.low,-List.map_take,-List.map_drop,-List.map_map,-List.map_set]) (by simp[aF,ac,V.low,-List.map_take,-List.map_drop,-List.map_map,-List.map_set,l3])⟩
  exact⟨o,e2,c3,rfl,ho,fun h=>he2 h,hst3,rfl⟩
 ·refine cb (Post:=fun v h'=>∃ (o:List af) (e':Int) (cs':List V),v= .str o∧o.length≤x.length+16∧(e'=0→e=0∧o.length=x.length+16)∧IsSt cs'∧h'=[some ⟨false,[.ptr 1 0,.i64 e'],none⟩,some ⟨false,cs',none⟩]) (by kernel_rfl) (fn:=Tryz.f118) Tryz.func118 rfl (by show 2≤23;decide) (ag ?_)
  simp only[go_sem,seval,he]
  repeat refine aJ ?_
  refine⟨_,_,?_,Fin.take 2 (by simp) (by simp) (by simp[V.low,-List.map_take,-List.map_drop,-List.map_map,-List.map_set]) (by simp[aF,ac,V.low,-List.map_take,-List.map_drop,-List.map_map,-List.map_set,l1])⟩
  exact⟨[],e,cs,rfl,by simp,fun h=>absurd h he,hst,rfl⟩
theorem rR (e:Int)(cs:List V)(hst:IsSt cs)(x:List af)(ht:x.length≤274877906944):∃ v h',ao Tryz.prog 133 [.ptr 0 0,.str x] (bG e cs) v h'∧(∃ (o:List af) (e':Int) (cs':List V),v= .str o∧o.length≤x.length+16∧(e'=0→e=0∧x.length=o.length+16)∧IsSt cs'∧h'=bG e' cs'):=by
 obtain⟨_,_,h2,⟨o,e2,rfl,he2,ho⟩,c3,hst3,rfl⟩:=D1 boxOpen258 boxOpen259 cs hst x ht
 have r1:=hst.rens
 have l1:=hst.low
 have r3:=hst3.rens
 have l3:=hst3.low
 unfold bG
 by_cases he:e=0
 ·subst he
  refine cb (Post:=fun v h'=>∃ (o:List af) (e':Int) (cs':List V),v= .str o∧o.length≤x.length+16∧(e'=0→(0:Int)=0∧x.length=o.length+16)∧IsSt cs'∧h'=[some ⟨false,[.ptr 1 0,.i64 e'],none⟩,some ⟨false,cs',none⟩]) (by kernel_rfl) (fn:=Tryz.f133) Tryz.func133 rfl (by show 2≤23;decide) (ag ?_)
  simp only[go_sem,seval]
  repeat refine aJ ?_
  refine aA [1] (h2) (by kernel_rfl) (by simp) rfl (by simp) (by first|decide|simp) (by simp) (by simp) (by simp[r1,l1]) (by simp) (by simp) ?_
  simp only[go_sem,seval,r3]
  repeat refine aJ ?_
  refine⟨_,_,?_,Fin.take 2 (by simp) (by simp) (by simp[V.low,-List.map_take,-List.map_drop,-List.map_map,-List.map_set]) (by simp[aF,ac,V.low,-List.map_take,-List.map_drop,-List.map_map,-List.map_set,l3])⟩
  exact⟨o,e2,c3,rfl,ho,fun h=>he2 h,hst3,rfl⟩
 ·refine cb (Post:=fun v h'=>∃ (o:List af) (e':Int) (cs':List V),v= .str o∧o.length≤x.length+16∧(e'=0→e=0∧x.length=o.length+16)∧IsSt cs'∧h'=[some ⟨false,[.ptr 1 0,.i64 e'],none⟩,some ⟨false,cs',none⟩]) (by kernel_rfl) (fn:=Tryz.f133) Tryz.func133 rfl (by show 2≤23;decide) (ag ?_)
  simp only[go_sem,seval,he]
  repeat refine aJ ?_
  refine⟨_,_,?_,Fin.take 2 (by simp) (by simp) (by simp[V.low,-List.map_take,-List.map_drop,-List.map_map,-List.map_set]) (by simp[aF,ac,V.low,-List.map_take,-List.map_drop,-List.map_map,-List.map_set,l1])⟩
  exact⟨[],e,cs,rfl,by simp,fun h=>absurd h he,hst,rfl⟩
theorem xp (x:Int)(hx:x=1∨x=2)(u:List af)(hu:u.length≤549755813888):∃ v h',ao Tryz.prog 115 [.i64 x,.str u] [] v h'∧(v= .ptr 0 0∧∃ cs',IsSt cs'∧h'=bG 0 cs'):=by
 obtain⟨_,_,h1,rfl,c1,hst1,rfl⟩:=Fo x hx (bytesOf ⟨#[115,111,117,116,101,114,114,97,105,110]⟩++[BitVec.ofInt 8 x]) (by rw[List.length_append];simp[bytesOf])
 obtain⟨_,_,h2,rfl,c2,hst2,rfl⟩:=kv c1 hst1 u hu
 have r1:=hst1.rens
 have l1:=hst1.low
 have r2:=hst2.rens
 have l2:=hst2.low
 unfold bG
 refine cb (Post:=fun v h'=>v= .ptr 0 0∧∃ cs',IsSt cs'∧h'=[some ⟨false,[.ptr 1 0,.i64 0],none⟩,some ⟨false,cs',none⟩]) (by kernel_rfl) (fn:=Tryz.f115) Tryz.func115 rfl (by show 2≤23;decide) (ag ?_)
 simp only[go_sem,seval]
 repeat refine aJ ?_
 refine aA [] (h1) (by kernel_rfl) (by simp) rfl (by simp) (by first|decide|simp) (by simp) (by simp) (by simp) (by simp) (by simp) ?_
 simp only[go_sem,seval,r1]
 repeat refine aJ ?_
 refine aA [1] (h2) (by kernel_rfl) (by simp) rfl (by simp) (by first|decide|simp) (by simp) (by simp) (by simp[r1,l1]) (by simp) (by simp) ?_
 simp only[go_sem,seval,r2]
 repeat refine aJ ?_
 refine⟨_,_,⟨rfl,_,hst2,rfl⟩,?_⟩
 exact Fin.ren [2,1] (by simp) (by simp) (by rfl) (by decide) (by simp) (by simp[r2,l2])
theorem yc (s:List af)(size:Nat)(hs:2≤size)(k:BitVec 8):∃ v,am Tryz.prog 132 [.str s,.i64 size,.u8 k] v∧∃ e:Int,v= .i64 e∧(e=0→s.length=size∧(((s.getD 1 0).toNat:Int)=1∨((s.getD 1 0).toNat:Int)=2)):=by
 refine ct (Post:=fun v=>∃ e:Int,v= .i64 e∧(e=0→s.length=size∧(((s.getD 1 0).toNat:Int)=1∨((s.getD 1 0).toNat:Int)=2))) (by kernel_rfl) (by kernel_rfl) (fn:=Tryz.f132) Tryz.func132 rfl (by show 3≤30;decide) (by simp[ac,V.low]) (fun v h=>by obtain⟨s,rfl,h⟩:=h;simp[V.low]) (ag ?_)
 simp -implicitDefEqProofs only[go_sem,↓reduceIte,Nat.reduceEqDiff,Nat.reduceLT,Nat.reduceAdd,Int.reduceToNat,reduceCtorEq]
 by_cases h1:s.length<size
 ·have h1':(s.length:Int)<size:=by omega
  simp -implicitDefEqProofs only[go_sem,↓reduceIte,h1']
  exact⟨_,rfl,by simp⟩
 have h1':¬ (s.length:Int)<size:=by omega
 by_cases h2:size<s.length
 ·have h2':(size:Int)<s.length:=by omega
  simp -implicitDefEqProofs only[go_sem,↓reduceIte,Nat.reduceEqDiff,Nat.reduceLT,reduceCtorEq,h1',h2']
  exact⟨_,rfl,by simp⟩
 have h2':¬ (size:Int)<s.length:=by omega
 by_cases h3:s.getD 0 0=k
 ·simp -implicitDefEqProofs only[go_sem,↓reduceIte,Nat.reduceEqDiff,Nat.reduceLT,Int.reduceLE,Int.reduceToNat,reduceCtorEq,h1',h2',h3,not_true,decide_false]
  repeat refine aJ ?_
  refine ak (km _) ?_
  simp -implicitDefEqProofs only[go_sem,↓reduceIte,Nat.reduceEqDiff,Nat.reduceLT]
  by_cases h4:((s.getD 1 0).toNat:Int)=1∨((s.getD 1 0).toNat:Int)=2
  ·simp -implicitDefEqProofs only[go_sem,↓reduceIte,h4]
   exact⟨_,rfl,fun _=>by omega⟩
  ·simp -implicitDefEqProofs only[go_sem,↓reduceIte,h4]
   exact⟨_,rfl,by simp⟩
 ·simp -implicitDefEqProofs only[go_sem,↓reduceIte,Nat.reduceEqDiff,Nat.reduceLT,reduceCtorEq,h1',h2',h3,not_false_eq_true,decide_true]
  repeat refine aJ ?_
  exact⟨_,rfl,by simp⟩
theorem F0 (a b:Int):∃ v,am Tryz.prog 112 [.agg [.i64 a,.i64 b]] v∧∃ (o:List af) (e:Int),v= .tup [.str o,.i64 e]∧o.length≤12:=by
 refine⟨_,Es a b,?_⟩
 by_cases h:il a b
 ·rw[if_pos h];exact⟨_,_,rfl,by simp[cn]⟩
 ·rw[if_neg h];exact⟨_,_,rfl,by simp⟩
theorem kJ (k:List af):∃ v,am Tryz.prog 21 [.str k] v∧∃ (o:List af) (e:Int),v= .tup [.str o,.i64 e]∧o.length≤32:=by
 by_cases h:k.length=32
 ·exact⟨_,C3 k h,_,_,rfl,by rw[qg];omega⟩
 ·exact⟨_,Eo k h,_,_,rfl,by simp⟩
def zl (su:Int)(own peer psk once:List af)(id:BitVec 32)(v:V)(h':List (Option Blk)):Prop:=((∃ (e:Int),e≠0∧v= .tup [.str [],.nilPtr,.i64 e])∧h'=[])∨
 ((∃ s:List af,s.length≤1000∧0<s.length∧v= .tup [.str s,.ptr 0 0,.i64 0])∧∃ cs,IsSt cs∧h'=[some ⟨false,cs++[.i64 su,.str own,.str peer,.str psk,.str once,.u32 id],none⟩])
theorem F1 (su:Int)(hsu:su=1∨su=2)(own peer psk once:List af)(sec nano best:Int)(id:BitVec 32)(h1:own.length≤1048576)(h2:peer.length≤1048576)(h3:psk.length≤1048576)(h4:once.length≤1048576):
  ∃ v h',ao Tryz.prog 84 [.agg [.i64 su,.str own,.str peer,.str psk],.str once,.agg [.i64 sec,.i64 nano],.i64 best,.u32 id] [] v h'∧zl su own peer psk once id v h':=by
 have hsu':decide (su=1∨su=2)=true:=decide_eq_true hsu
 refine cb (Post:=zl su own peer psk once id) (by kernel_rfl) (fn:=Tryz.f84) Tryz.func84 rfl (by show 5≤127;decide) (ag ?_)
 simp only[go_sem,seval]
 repeat refine aJ ?_
 refine bh (F0 sec nano) ?_
 rintro _ ⟨wh,e0,rfl,hwh⟩
 simp only[go_sem,seval]
 repeat refine aJ ?_
 refine ak (km su) ?_
 simp only[go_sem,seval,hsu',Bool.not_true]
 repeat refine aJ ?_
 obtain⟨_,_,hk,⟨bk,rfl⟩,rfl⟩:=rP [own,peer,psk,once] (by simp)
 refine aA [2] (hk) (by kernel_rfl) (by simp) rfl (by simp) (by first|decide|simp) (by simp) (by simp) (by simp) (by simp) (by simp) ?_
 simp only[go_sem,seval]
 cases bk
 ·simp only[go_sem,seval,Bool.not_false]
  repeat refine aJ ?_
  refine⟨_,_,?_,Fin.take 0 (by simp) (by simp) (by simp[ac,V.low,-List.map_take,-List.map_drop,-List.map_map,-List.map_set]) (by simp[aF,-List.map_take,-List.map_drop,-List.map_map,-List.map_set])⟩
  exact .inl ⟨⟨1,by decide,rfl⟩,rfl⟩
 simp only[go_sem,seval,Bool.not_true]
 refine ak (km best) ?_
 simp only[go_sem,seval]
 by_cases hb:best=1∨best=2
 rotate_left
 ·simp only[go_sem,seval,hb,decide_false,Bool.not_false]
  repeat refine aJ ?_
  refine⟨_,_,?_,Fin.take 0 (by simp) (by simp) (by simp[ac,V.low,-List.map_take,-List.map_drop,-List.map_map,-List.map_set]) (by simp[aF,-List.map_take,-List.map_drop,-List.map_map,-List.map_set])⟩
  exact .inl ⟨⟨1,by decide,rfl⟩,rfl⟩
 by_cases he0:e0=0
 rotate_left
 ·simp only[go_sem,seval,hb,he0,decide_true,Bool.not_true,not_false_eq_true]
  repeat refine aJ ?_
  refine⟨_,_,?_,Fin.take 0 (by simp) (by simp) (by simp[ac,V.low,-List.map_take,-List.map_drop,-List.map_map,-List.map_set]) (by simp[aF,-List.map_take,-List.map_drop,-List.map_map,-List.map_set])⟩
  exact .inl ⟨⟨1,by decide,rfl⟩,rfl⟩
 subst he0
 simp only[go_sem,seval,hb,decide_true,decide_false,Bool.not_true,not_true]
 repeat refine aJ ?_
 obtain⟨_,_,hbg,rfl,c1,hs1,rfl⟩:=xp su hsu peer (by omega)
 have r1:=hs1.rens
 have l1:=hs1.low
 refine aA [] (hbg) (by kernel_rfl) (by simp) rfl (by simp) (by first|decide|simp) (by simp) (by simp) (by simp) (by simp) (by simp) ?_
 simp only[go_sem,seval,bG,r1]
 repeat refine aJ ?_
 refine bh (kJ once) ?_
 rintro _ ⟨pub,ep,rfl,hpub⟩
 simp only[go_sem,seval]
 repeat refine aJ ?_
 refine bh (kJ own) ?_
 rintro _ ⟨stat,es,rfl,hstat⟩
 simp only[go_sem,seval]
 repeat refine aJ ?_
 obtain⟨_,_,hbo,rfl,c2,hs2,rfl⟩:=oV 0 c1 hs1 pub (by omega)
 have r2:=hs2.rens
 have l2:=hs2.low
 refine aA [3,4] (hbo) (by kernel_rfl) (by simp) rfl (by simp[bG]) (by first|decide|simp) (by simp) (by simp[bG]) (by simp[bG,r1,l1]) (by simp[bG]) (by simp) ?_
 simp only[go_sem,seval,bG,r2]
 repeat refine aJ ?_
 obtain⟨_,_,hse,rfl,e3,c3,he3,hs3,rfl⟩:=iJ 0 c2 hs2 once peer
 have r3:=hs3.rens
 have l3:=hs3.low
 refine aA [3,4] (hse) (by kernel_rfl) (by simp) rfl (by simp[bG]) (by first|decide|simp) (by simp) (by simp[bG]) (by simp[bG,r2,l2]) (by simp[bG]) (by simp) ?_
 simp only[go_sem,seval,bG,r3]
 repeat refine aJ ?_
 obtain⟨_,_,hsl,a,e4,c4,rfl,ha,he4,hs4,rfl⟩:=rQ e3 c3 hs3 stat (by omega)
 have r4:=hs4.rens
 have l4:=hs4.low
 refine aA [3,4] (hsl) (by kernel_rfl) (by simp) rfl (by simp[bG]) (by first|decide|simp) (by simp) (by simp[bG]) (by simp[bG,r3,l3]) (by simp[bG]) (by simp) ?_
 simp only[go_sem,seval,bG,r4]
 repeat refine aJ ?_
 obtain⟨_,_,hs5',rfl,e5,c5,he5,hs5,rfl⟩:=iJ e4 c4 hs4 own peer
 have r5:=hs5.rens
 have l5:=hs5.low
 refine aA [3,4] (hs5') (by kernel_rfl) (by simp) rfl (by simp[bG]) (by first|decide|simp) (by simp) (by simp[bG]) (by simp[bG,r4,l4]) (by simp[bG]) (by simp) ?_
 simp only[go_sem,seval,bG,r5]
 repeat refine aJ ?_
 obtain⟨_,_,hs6',b,e6,c6,rfl,hb6,he6,hs6,rfl⟩:=rQ e5 c5 hs5 (wh++[BitVec.ofInt 8 best]) (by simp;omega)
 have r6:=hs6.rens
 have l6:=hs6.low
 refine aA [3,4] (hs6') (by kernel_rfl) (by simp) rfl (by simp[bG]) (by first|decide|simp) (by simp) (by simp[bG]) (by simp[bG,r5,l5]) (by simp[bG]) (by simp) ?_
 simp only[go_sem,seval,bG,r6]
 repeat refine aJ ?_
 by_cases h6:e6=0
 rotate_left
 ·simp only[go_sem,seval,h6,not_false_eq_true,decide_true]
  repeat refine aJ ?_
  refine⟨_,_,?_,Fin.take 0 (by simp) (by simp) (by simp[ac,V.low,-List.map_take,-List.map_drop,-List.map_map,-List.map_set]) (by simp[aF,-List.map_take,-List.map_drop,-List.map_map,-List.map_set])⟩
  exact .inl ⟨⟨e6,h6,rfl⟩,rfl⟩
 subst h6
 obtain⟨s6,h6,ch6,k6,n6,⟨hsu6,q1,q2,q3⟩,rfl⟩:=hs6
 simp only[go_sem,seval,not_true,decide_false,bD]
 repeat refine aJ ?_
 obtain⟨_,hix,ix,hix2,rfl⟩:=qZ id
 refine aC (hix) ?_
 simp only[go_sem,seval]
 have hb7:b.length≤29:=by simp at hb6;omega
 repeat refine aJ ?_
 have hsr:=fun σ=>d8 hsu6 σ
 have hsl:=fun n=>eR hsu6 n
 refine⟨_,_,.inr ⟨⟨1#8::BitVec.ofInt 8 su::(ix++pub++a++b),by simp;omega,by simp,rfl⟩,bD s6 h6 ch6 k6 n6,⟨s6,h6,ch6,k6,n6,⟨hsu6,q1,q2,q3⟩,rfl⟩,rfl⟩,?_⟩
 exact Fin.ren [7] (by simp) (by simp) (by rfl) (by decide) (by simp[bD]) (by simp[bD,hsr,hsl])
def j5:List V:=[.i64 0,.u32 0#32,.str [],.i64 0,.i64 0,.i64 0]
theorem Jp (s:List af)(h:12≤s.length):∃ v,am Tryz.prog 134 [.str s] v∧∃ a b e:Int,v= .tup [.agg [.i64 a,.i64 b],.i64 e]:=by
 refine⟨_,FY s h,?_⟩
 split <;>exact⟨_,_,_,rfl⟩
def zE (v:V)(h':List (Option Blk)):Prop:=((∃ (e:Int),e≠0∧v= .tup [.agg j5,.nilPtr,.i64 e])∧h'=[])∨
 (∃ (su:Int) (ix:BitVec 32) (st:List af) (sec nano best:Int) (once:List af) (cs:List V),(su=1∨su=2)∧(best=1∨best=2)∧st.length≤1000∧once.length≤1000∧IsSt cs∧
  v= .tup [.agg [.i64 su,.u32 ix,.str st,.i64 sec,.i64 nano,.i64 best],.ptr 0 0,.i64 0]∧h'=[some ⟨false,cs++[.i64 su,.u32 ix,.str once,.str st],none⟩])
theorem Et (e:Int):am Tryz.prog 131 [.i64 e] (.tup [.agg j5,.nilPtr,.i64 e]):=by
 unfold j5
 refine aw (by kernel_rfl) (fn:=Tryz.f131) (by kernel_rfl) Tryz.func131 rfl (by show 1≤7;decide) (by simp[ac,V.low]) (by simp[ac,V.low]) (ag ?_)
 simp -implicitDefEqProofs only[go_sem,↓reduceIte,Nat.reduceEqDiff,Nat.reduceLT,Nat.reduceAdd,reduceCtorEq,Tryz.ntmps131,Tryz.results131]
theorem Jq (own first:List af)(h1:own.length≤1048576)(h2:first.length≤1048576):∃ v h',ao Tryz.prog 90 [.str own,.str first] [] v h'∧zE v h':=by
 have hh:=Et
 unfold j5 at hh
 refine cb (Post:=zE) (by kernel_rfl) (fn:=Tryz.f90) Tryz.func90 rfl (by show 2≤130;decide) (ag ?_)
 simp -implicitDefEqProofs only[go_sem,↓reduceIte,Nat.reduceLT,Nat.reduceLeDiff,reduceCtorEq]
 repeat refine aJ ?_
 obtain⟨_,_,hk,⟨bk,rfl⟩,rfl⟩:=rP [own] (by simp)
 refine aA [1] (hk) (by kernel_rfl) (by simp[-List.map_map,-List.map_set]) rfl (by simp[-List.map_map,-List.map_set]) (by first|decide|simp) (by simp[-List.map_map,-List.map_set]) (by simp[-List.map_map,-List.map_set]) (by simp[-List.map_map,-List.map_set]) (by simp[-List.map_map,-List.map_set]) (by simp) ?_
 simp -implicitDefEqProofs only[go_sem,↓reduceIte,Nat.reduceEqDiff,Nat.reduceLT,Nat.reduceAdd,Nat.reduceSub,Int.reduceLE,Int.reduceLT,BitVec.reduceOfInt]
 cases bk
 ·simp -implicitDefEqProofs only[go_sem,↓reduceIte,Bool.not_false]
  refine ak (hh 1) ?_
  simp -implicitDefEqProofs only[go_sem,↓reduceIte,Nat.reduceEqDiff,Nat.reduceLT,Nat.reduceAdd]
  repeat refine aJ ?_
  refine⟨_,_,?_,Fin.take 0 (by simp) (by simp) (by simp[ac,V.low,-List.map_take,-List.map_drop,-List.map_map,-List.map_set]) (by simp[aF,-List.map_take,-List.map_drop,-List.map_map,-List.map_set])⟩
  exact .inl ⟨⟨1,by decide,rfl⟩,rfl⟩
 simp -implicitDefEqProofs only[go_sem,↓reduceIte,reduceCtorEq,Bool.not_true]
 refine bh (yc first 115 (by omega) 1#8) ?_
 rintro _ ⟨e0,rfl,he0⟩
 simp -implicitDefEqProofs only[go_sem,↓reduceIte,Nat.reduceEqDiff,Nat.reduceLT,reduceCtorEq]
 by_cases h0:e0=0
 rotate_left
 ·simp -implicitDefEqProofs only[go_sem,↓reduceIte,h0,not_false_eq_true,decide_true]
  refine ak (hh e0) ?_
  simp -implicitDefEqProofs only[go_sem,↓reduceIte,Nat.reduceEqDiff,Nat.reduceLT,Nat.reduceAdd]
  repeat refine aJ ?_
  refine⟨_,_,?_,Fin.take 0 (by simp) (by simp) (by simp[ac,V.low,-List.map_take,-List.map_drop,-List.map_map,-List.map_set]) (by simp[aF,-List.map_take,-List.map_drop,-List.map_map,-List.map_set])⟩
  exact .inl ⟨⟨e0,h0,rfl⟩,rfl⟩
 subst h0
 obtain⟨hf1,hf2⟩:=he0 rfl
 simp -implicitDefEqProofs only[go_sem,↓reduceIte,not_true,decide_false]
 refine bh (kJ own) ?_
 rintro _ ⟨pub,ep,rfl,hpub⟩
 simp -implicitDefEqProofs only[go_sem,↓reduceIte,Nat.reduceEqDiff,Nat.reduceLT,Int.reduceLE,Int.reduceToNat]
 repeat refine aJ ?_
 generalize hsu:((first.getD 1 0).toNat:Int)=su at*
 obtain⟨_,_,hbg,rfl,c1,hs1,rfl⟩:=xp su hf2 pub (by omega)
 have r1:=hs1.rens
 have l1:=hs1.low
 refine aA [] (hbg) (by kernel_rfl) (by simp[-List.map_map,-List.map_set]) rfl (by simp[-List.map_map,-List.map_set]) (by first|decide|simp) (by simp[-List.map_map,-List.map_set]) (by simp[-List.map_map,-List.map_set]) (by simp[-List.map_map,-List.map_set]) (by simp[-List.map_map,-List.map_set]) (by simp) ?_
 simp -implicitDefEqProofs only[go_sem,↓reduceIte,Nat.reduceEqDiff,Nat.reduceLT,Nat.reduceAdd,Nat.reduceSub,Int.reduceLE,Int.reduceToNat,r1]
 repeat refine aJ ?_
 generalize hon:List.drop 6 (List.take 38 first)=once at*
 have hon2:once.length=32:=by rw[←hon];simp;omega
 have hon3:once.length≤32:=by omega
 obtain⟨_,_,hbo,rfl,c2,hs2,rfl⟩:=oV 0 c1 hs1 once (by omega)
 have r2:=hs2.rens
 have l2:=hs2.low
 refine aA [2,3] (hbo) (by kernel_rfl) (by simp[-List.map_map,-List.map_set]) rfl (by simp[-List.map_map,-List.map_set]) (by first|decide|simp) (by simp[-List.map_map,-List.map_set]) (by simp[-List.map_map,-List.map_set]) (by simp[-List.map_map,-List.map_set,r1,l1]) (by simp[-List.map_map,-List.map_set]) (by simp) ?_
 simp -implicitDefEqProofs only[go_sem,↓reduceIte,Nat.reduceEqDiff,Nat.reduceLT,Nat.reduceAdd,Nat.reduceSub,reduceCtorEq,r2]
 repeat refine aJ ?_
 obtain⟨_,_,hse,rfl,e3,c3,he3,hs3,rfl⟩:=iJ 0 c2 hs2 own once
 have r3:=hs3.rens
 have l3:=hs3.low
 refine aA [2,3] (hse) (by kernel_rfl) (by simp[-List.map_map,-List.map_set]) rfl (by simp[-List.map_map,-List.map_set]) (by first|decide|simp) (by simp[-List.map_map,-List.map_set]) (by simp[-List.map_map,-List.map_set]) (by simp[-List.map_map,-List.map_set,r2,l2]) (by simp[-List.map_map,-List.map_set]) (by simp) ?_
 simp -implicitDefEqProofs only[go_sem,↓reduceIte,Nat.reduceEqDiff,Nat.reduceLT,Nat.reduceAdd,Nat.reduceSub,Int.reduceLE,Int.reduceToNat,r3]
 repeat refine aJ ?_
 generalize hx1:List.drop 38 (List.take 86 first)=x1 at*
 have hx1l:x1.length=48:=by rw[←hx1];simp;omega
 obtain⟨_,_,hsl,st,e4,c4,rfl,hst4,he4,hs4,rfl⟩:=rR e3 c3 hs3 x1 (by omega)
 have r4:=hs4.rens
 have l4:=hs4.low
 refine aA [2,3] (hsl) (by kernel_rfl) (by simp[-List.map_map,-List.map_set]) rfl (by simp[-List.map_map,-List.map_set]) (by first|decide|simp) (by simp[-List.map_map,-List.map_set]) (by simp[-List.map_map,-List.map_set]) (by simp[-List.map_map,-List.map_set,r3,l3]) (by simp[-List.map_map,-List.map_set]) (by simp) ?_
 simp -implicitDefEqProofs only[go_sem,↓reduceIte,Nat.reduceEqDiff,Nat.reduceLT,Nat.reduceAdd,Nat.reduceSub,reduceCtorEq,r4]
 repeat refine aJ ?_
 obtain⟨_,_,hs5',rfl,e5,c5,he5,hs5,rfl⟩:=iJ e4 c4 hs4 own st
 have r5:=hs5.rens
 have l5:=hs5.low
 refine aA [2,3] (hs5') (by kernel_rfl) (by simp[-List.map_map,-List.map_set]) rfl (by simp[-List.map_map,-List.map_set]) (by first|decide|simp) (by simp[-List.map_map,-List.map_set]) (by simp[-List.map_map,-List.map_set]) (by simp[-List.map_map,-List.map_set,r4,l4]) (by simp[-List.map_map,-List.map_set]) (by simp) ?_
 simp -implicitDefEqProofs only[go_sem,↓reduceIte,Nat.reduceEqDiff,Nat.reduceLT,Nat.reduceAdd,Nat.reduceSub,Int.reduceLE,Int.reduceToNat,r5]
 repeat refine aJ ?_
 generalize hx2:List.drop 86 first=x2 at*
 have hx2l:x2.length=29:=by rw[←hx2];simp;omega
 obtain⟨_,_,hs6',rs,e6,c6,rfl,hb6,he6,hs6,rfl⟩:=rR e5 c5 hs5 x2 (by omega)
 have r6:=hs6.rens
 have l6:=hs6.low
 refine aA [2,3] (hs6') (by kernel_rfl) (by simp[-List.map_map,-List.map_set]) rfl (by simp[-List.map_map,-List.map_set]) (by first|decide|simp) (by simp[-List.map_map,-List.map_set]) (by simp[-List.map_map,-List.map_set]) (by simp[-List.map_map,-List.map_set,r5,l5]) (by simp[-List.map_map,-List.map_set]) (by simp) ?_
 simp -implicitDefEqProofs only[go_sem,↓reduceIte,Nat.reduceEqDiff,Nat.reduceLT,Nat.reduceAdd,Nat.reduceSub,Int.reduceLE,Int.reduceToNat,r6]
 repeat refine aJ ?_
 by_cases h6:e6=0
 rotate_left
 ·simp -implicitDefEqProofs only[go_sem,↓reduceIte,h6,not_false_eq_true,decide_true]
  refine ak (hh e6) ?_
  simp -implicitDefEqProofs only[go_sem,↓reduceIte,Nat.reduceEqDiff,Nat.reduceLT,Nat.reduceAdd]
  repeat refine aJ ?_
  refine⟨_,_,?_,Fin.take 0 (by simp) (by simp) (by simp[ac,V.low,-List.map_take,-List.map_drop,-List.map_map,-List.map_set]) (by simp[aF,-List.map_take,-List.map_drop,-List.map_map,-List.map_set])⟩
  exact .inl ⟨⟨e6,h6,rfl⟩,rfl⟩
 subst h6
 obtain⟨he5',hrl⟩:=he6 rfl
 have hrl13:rs.length=13:=by omega
 obtain⟨s6,h6,ch6,k6,n6,⟨hsu6,q1,q2,q3⟩,rfl⟩:=hs6
 have hsr:=fun σ=>d8 hsu6 σ
 have hsl:=fun n=>eR hsu6 n
 simp -implicitDefEqProofs only[go_sem,↓reduceIte,not_true,decide_false,bD]
 repeat refine aJ ?_
 refine bh (Jp (rs.take 12) (by simp;omega)) ?_
 rintro _ ⟨sec,nano,e7,rfl⟩
 simp -implicitDefEqProofs only[go_sem,↓reduceIte,Nat.reduceEqDiff,Nat.reduceLT,Nat.reduceAdd,Int.reduceLE,Int.reduceToNat]
 repeat refine aJ ?_
 generalize hbest:((rs.getD 12 0).toNat:Int)=best at*
 by_cases h7:e7=0
 rotate_left
 ·simp -implicitDefEqProofs only[go_sem,↓reduceIte,Nat.reduceEqDiff,Nat.reduceLT,h7,not_false_eq_true,decide_true]
  refine ak (hh 5) ?_
  simp -implicitDefEqProofs only[go_sem,↓reduceIte,Nat.reduceEqDiff,Nat.reduceLT,Nat.reduceAdd]
  repeat refine aJ ?_
  refine⟨_,_,?_,Fin.take 0 (by simp) (by simp) (by simp[ac,V.low,-List.map_take,-List.map_drop,-List.map_map,-List.map_set]) (by simp[aF,-List.map_take,-List.map_drop,-List.map_map,-List.map_set])⟩
  exact .inl ⟨⟨5,by decide,rfl⟩,rfl⟩
 subst h7
 simp -implicitDefEqProofs only[go_sem,↓reduceIte,not_true,decide_false]
 refine ak (km best) ?_
 simp -implicitDefEqProofs only[go_sem,↓reduceIte,Nat.reduceEqDiff,Nat.reduceLT,Nat.reduceAdd,Int.reduceLE,Int.reduceToNat]
 by_cases hb:best=1∨best=2
 rotate_left
 ·simp -implicitDefEqProofs only[go_sem,↓reduceIte,hb,decide_false,Bool.not_false]
  refine ak (hh 5) ?_
  simp -implicitDefEqProofs only[go_sem,↓reduceIte,Nat.reduceEqDiff,Nat.reduceLT,Nat.reduceAdd]
  repeat refine aJ ?_
  refine⟨_,_,?_,Fin.take 0 (by simp) (by simp) (by simp[ac,V.low,-List.map_take,-List.map_drop,-List.map_map,-List.map_set]) (by simp[aF,-List.map_take,-List.map_drop,-List.map_map,-List.map_set])⟩
  exact .inl ⟨⟨5,by decide,rfl⟩,rfl⟩
 simp -implicitDefEqProofs only[go_sem,↓reduceIte,hb,decide_true,Bool.not_true,hsu]
 repeat refine aJ ?_
 refine aC (dF _ (by simp;omega)) ?_
 simp -implicitDefEqProofs only[go_sem,↓reduceIte,Nat.reduceEqDiff,Nat.reduceLT,Nat.reduceLeDiff,Nat.reduceAdd]
 repeat refine aJ ?_
 generalize BitVec.setWidth 32 (BitVec.ofNat 64 (le (List.take 8 (List.drop 2 (List.take 6 first)))))=ix at*
 refine⟨_,_,.inr ⟨su,ix,st,sec,nano,best,once,bD s6 h6 ch6 k6 n6,hf2,hb,by omega,by omega,⟨s6,h6,ch6,k6,n6,⟨hsu6,q1,q2,q3⟩,rfl⟩,rfl,rfl⟩,?_⟩
 exact Fin.ren [6] (by simp) (by simp) (by rfl) (by decide) (by simp[-List.map_map,-List.map_set,bD]) (by simp[-List.map_map,-List.map_set,bD,hsr,hsl])
def AnsP (v:V):Prop:=∃ (s a b:List af) (e:Int),v= .tup [.str s,.agg [.str a,.str b],.i64 e]∧s.length≤1000∧a.length≤1000∧b.length≤1000∧(e=0→0<s.length∧a.length=32∧b.length=32)
def px (s:V)(h c k:List af)(n:BitVec 64)(su:Int)(ix:BitVec 32)(on st:List af):List V:=[s,.str h,.str c,.str k,.u64 n,.i64 su,.u32 ix,.str on,.str st]
theorem Eu (s0:V)(h0 ch0 k0:List af)(n0:BitVec 64)(hst:StOk s0 h0 ch0 k0)(su:Int)(ix:BitVec 32)(on st:List af)(psk once:List af)(best:Int)(id:BitVec 32)(h3:psk.length≤1048576)(h4:once.length≤1048576):
  ∃ v h',ao Tryz.prog 92 [.ptr 0 0,.str psk,.str once,.i64 best,.u32 id] [some ⟨false,px s0 h0 ch0 k0 n0 su ix on st,none⟩] v h'∧(AnsP v∧h'=[some ⟨false,px s0 h0 ch0 k0 n0 su ix on st,none⟩]):=by
 obtain⟨hsu0,q1,q2,q3⟩:=hst
 have hst0:IsSt [s0,.str h0,.str ch0,.str k0,.u64 n0]:=⟨s0,h0,ch0,k0,n0,⟨hsu0,q1,q2,q3⟩,rfl⟩
 have hsr:=fun σ=>d8 hsu0 σ
 have hsl:=fun n=>eR hsu0 n
 have hso:=wX hsu0
 unfold px
 refine cb (Post:=fun v h'=>AnsP v∧h'=[some ⟨false,[s0,.str h0,.str ch0,.str k0,.u64 n0,.i64 su,.u32 ix,.str on,.str st],none⟩]) (by kernel_rfl) (fn:=Tryz.f92) Tryz.func92 rfl (by show 5≤112;decide) (ag ?_)
 simp only[go_sem,seval]
 repeat refine aJ ?_
 obtain⟨_,_,hk,⟨bk,rfl⟩,rfl⟩:=rP [psk,once] (by simp)
 refine aA [2] (hk) (by kernel_rfl) (by simp) rfl (by simp) (by first|decide|simp) (by simp) (by simp) (by simp) (by simp) (by simp) ?_
 simp only[go_sem,seval]
 cases bk
 ·simp only[go_sem,seval,Bool.not_false]
  repeat refine aJ ?_
  refine⟨_,_,?_,Fin.take 1 (by simp) (by simp) (by simp[ac,V.low,-List.map_take,-List.map_drop,-List.map_map,-List.map_set]) (by simp[aF,ac,V.low,-List.map_take,-List.map_drop,-List.map_map,-List.map_set,hsl])⟩
  exact⟨⟨[],[],[],1,rfl,by simp,by simp,by simp,by simp⟩,rfl⟩
 simp only[go_sem,seval,Bool.not_true]
 refine ak (km best) ?_
 simp only[go_sem,seval]
 by_cases hb:best=1∨best=2
 rotate_left
 ·simp only[go_sem,seval,hb,decide_false,Bool.not_false]
  repeat refine aJ ?_
  refine⟨_,_,?_,Fin.take 1 (by simp) (by simp) (by simp[ac,V.low,-List.map_take,-List.map_drop,-List.map_map,-List.map_set]) (by simp[aF,ac,V.low,-List.map_take,-List.map_drop,-List.map_map,-List.map_set,hsl])⟩
  exact⟨⟨[],[],[],1,rfl,by simp,by simp,by simp,by simp⟩,rfl⟩
 simp only[go_sem,seval,hb,decide_true,Bool.not_true]
 repeat refine aJ ?_
 refine bh (kJ once) ?_
 rintro _ ⟨pub,ep,rfl,hpub⟩
 simp only[go_sem,seval]
 repeat refine aJ ?_
 obtain⟨_,_,hbo,rfl,c2,hs2,rfl⟩:=oV 0 _ hst0 pub (by omega)
 have r2:=hs2.rens
 have l2:=hs2.low
 refine aA [4,3] (hbo) (by kernel_rfl) (by simp) rfl (by simp) (by first|decide|simp) (by simp) (by simp) (by simp[hsr,hsl]) (by simp) (by simp) ?_
 simp only[go_sem,seval,r2]
 repeat refine aJ ?_
 obtain⟨_,_,hse,rfl,e3,c3,he3,hs3,rfl⟩:=iJ 0 c2 hs2 once on
 have r3:=hs3.rens
 have l3:=hs3.low
 refine aA [4,3] (hse) (by kernel_rfl) (by simp) rfl (by simp) (by first|decide|simp) (by simp) (by simp) (by simp[r2,l2]) (by simp) (by simp) ?_
 simp only[go_sem,seval,r3]
 repeat refine aJ ?_
 obtain⟨_,_,hs5',rfl,e5,c5,he5,hs5,rfl⟩:=iJ e3 c3 hs3 once st
 have r5:=hs5.rens
 have l5:=hs5.low
 refine aA [4,3] (hs5') (by kernel_rfl) (by simp) rfl (by simp) (by first|decide|simp) (by simp) (by simp) (by simp[r3,l3]) (by simp) (by simp) ?_
 simp only[go_sem,seval,r5]
 repeat refine aJ ?_
 obtain⟨_,_,hmb,rfl,c6,hs6,rfl⟩:=vq c5 hs5 psk (by omega)
 have r6:=hs6.rens
 have l6:=hs6.low
 refine aA [3] (hmb) (by kernel_rfl) (by simp) rfl (by simp) (by first|decide|simp) (by simp) (by simp) (by simp[r5,l5]) (by simp) (by simp) ?_
 simp only[go_sem,seval,r6]
 repeat refine aJ ?_
 obtain⟨_,_,hs7',c,e7,c7,rfl,hc7,he7,hs7,rfl⟩:=rQ e5 c6 hs6 [BitVec.ofInt 8 best] (by simp)
 have r7:=hs7.rens
 have l7:=hs7.low
 refine aA [4,3] (hs7') (by kernel_rfl) (by simp) rfl (by simp) (by first|decide|simp) (by simp) (by simp) (by simp[r6,l6]) (by simp) (by simp) ?_
 simp only[go_sem,seval,r7]
 repeat refine aJ ?_
 by_cases h7:e7=0
 rotate_left
 ·simp only[go_sem,seval,h7,not_false_eq_true,decide_true]
  repeat refine aJ ?_
  refine⟨_,_,?_,Fin.take 1 (by simp) (by simp) (by simp[ac,V.low,-List.map_take,-List.map_drop,-List.map_map,-List.map_set]) (by simp[aF,ac,V.low,-List.map_take,-List.map_drop,-List.map_map,-List.map_set,hsl])⟩
  exact⟨⟨[],[],[],e7,rfl,by simp,by simp,by simp,fun h=>absurd h h7⟩,rfl⟩
 subst h7
 simp only[go_sem,seval,not_true,decide_false]
 repeat refine aJ ?_
 obtain⟨_,_,hsp,⟨a,b,ha,hb',rfl⟩,rfl⟩:=wY c7 hs7
 refine aA [3] (hsp) (by kernel_rfl) (by simp) rfl (by simp) (by first|decide|simp) (by simp) (by simp) (by simp[r7,l7]) (by simp) (by simp) ?_
 simp only[go_sem,seval,r7]
 repeat refine aJ ?_
 obtain⟨_,hix1,ix1,hix1',rfl⟩:=qZ id
 refine aC (hix1) ?_
 simp only[go_sem,seval]
 repeat refine aJ ?_
 obtain⟨_,hix2,ix2,hix2',rfl⟩:=qZ ix
 refine aC (hix2) ?_
 simp only[go_sem,seval]
 have hc8:c.length≤17:=by simp at hc7;omega
 repeat refine aJ ?_
 refine⟨_,_,?_,Fin.take 1 (by simp) (by simp) (by simp[ac,V.low,-List.map_take,-List.map_drop,-List.map_map,-List.map_set]) (by simp[aF,ac,V.low,-List.map_take,-List.map_drop,-List.map_map,-List.map_set,hsl])⟩
 exact⟨⟨_,b,a,0,rfl,by simp;omega,by omega,by omega,fun _=>⟨by simp,by omega,by omega⟩⟩,rfl⟩
def FinP (second:List af)(v:V):Prop:=∃ (a b:List af) (best:Int) (ix:BitVec 32) (e:Int),v= .tup [.agg [.str a,.str b],.i64 best,.u32 ix,.i64 e]∧a.length≤1000∧b.length≤1000∧
 (e=0→(best=1∨best=2)∧second.length=59∧(((second.getD 1 0).toNat:Int)=1∨((second.getD 1 0).toNat:Int)=2)∧a.length=32∧b.length=32)
def pz (s:V)(h c k:List af)(n:BitVec 64)(su:Int)(own peer psk once:List af)(id:BitVec 32):List V:=[s,.str h,.str c,.str k,.u64 n,.i64 su,.str own,.str peer,.str psk,.str once,.u32 id]
theorem Ev (s0:V)(h0 ch0 k0:List af)(n0:BitVec 64)(hst:StOk s0 h0 ch0 k0)(su:Int)(own peer psk once:List af)(id:BitVec 32)(sec:List af)(h3:psk.length≤1048576)(h4:sec.length≤1048576):
  ∃ v h',ao Tryz.prog 96 [.ptr 0 0,.str sec] [some ⟨false,pz s0 h0 ch0 k0 n0 su own peer psk once id,none⟩] v h'∧(FinP sec v∧h'=[some ⟨false,pz s0 h0 ch0 k0 n0 su own peer psk once id,none⟩]):=by
 obtain⟨hsu0,q1,q2,q3⟩:=hst
 have hst0:IsSt [s0,.str h0,.str ch0,.str k0,.u64 n0]:=⟨s0,h0,ch0,k0,n0,⟨hsu0,q1,q2,q3⟩,rfl⟩
 have hsr:=fun σ=>d8 hsu0 σ
 have hsl:=fun n=>eR hsu0 n
 have hso:=wX hsu0
 unfold pz
 refine cb (Post:=fun v h'=>FinP sec v∧h'=[some ⟨false,[s0,.str h0,.str ch0,.str k0,.u64 n0,.i64 su,.str own,.str peer,.str psk,.str once,.u32 id],none⟩]) (by kernel_rfl) (fn:=Tryz.f96) Tryz.func96 rfl (by show 2≤121;decide) (ag ?_)
 simp -implicitDefEqProofs only[go_sem,↓reduceIte,Nat.reduceEqDiff,Nat.reduceLT,Int.reduceLE,Int.reduceLT,BitVec.reduceOfInt]
 repeat refine aJ ?_
 refine bh (yc sec 59 (by omega) 2#8) ?_
 rintro _ ⟨e0,rfl,he0⟩
 by_cases h00:e0=0
 rotate_left
 ·simp -implicitDefEqProofs only[go_sem,↓reduceIte,Nat.reduceEqDiff,Nat.reduceLT,Nat.reduceAdd,Int.reduceLT,BitVec.reduceOfInt,h00,ne_eq,not_false_eq_true,decide_true,decide_false]
  repeat refine aJ ?_
  refine⟨_,_,?_,Fin.take 1 (by simp) (by simp) (by simp[ac,V.low,-List.map_take,-List.map_drop,-List.map_map,-List.map_set]) (by simp[aF,ac,V.low,-List.map_take,-List.map_drop,-List.map_map,-List.map_set,hsl])⟩
  exact⟨⟨[],[],0,0,e0,rfl,by simp,by simp,fun h=>absurd h h00⟩,rfl⟩
 subst h00
 obtain⟨hf1,hf2⟩:=he0 rfl
 by_cases hq:((sec.getD 1 0).toNat:Int)=su
 rotate_left
 ·simp -implicitDefEqProofs only[go_sem,↓reduceIte,Nat.reduceEqDiff,Nat.reduceLT,Nat.reduceAdd,Int.reduceLE,Int.reduceLT,Int.reduceToNat,Int.reduceEq,BitVec.reduceOfInt,reduceCtorEq,hq,ne_eq,not_false_eq_true,decide_true]
  repeat refine aJ ?_
  refine⟨_,_,?_,Fin.take 1 (by simp) (by simp) (by simp[ac,V.low,-List.map_take,-List.map_drop,-List.map_map,-List.map_set]) (by simp[aF,ac,V.low,-List.map_take,-List.map_drop,-List.map_map,-List.map_set,hsl])⟩
  exact⟨⟨[],[],0,0,5,rfl,by simp,by simp,by simp⟩,rfl⟩
 simp -implicitDefEqProofs only[go_sem,↓reduceIte,Nat.reduceEqDiff,Nat.reduceLT,Nat.reduceAdd,Int.reduceLE,Int.reduceToNat,reduceCtorEq,hq,ne_eq,not_true,decide_true,decide_false]
 repeat refine aJ ?_
 refine aC (dF _ (by simp;omega)) ?_
 simp -implicitDefEqProofs only[go_sem,↓reduceIte,Nat.reduceEqDiff,Nat.reduceLT,Nat.reduceLeDiff,Nat.reduceAdd,Int.reduceLE,Int.reduceLT,Int.reduceToNat,Int.reduceEq,BitVec.reduceOfInt,reduceCtorEq]
 by_cases hr:BitVec.setWidth 32 (BitVec.ofNat 64 (le (List.take 8 (List.drop 6 (List.take 10 sec)))))=id
 rotate_left
 ·simp -implicitDefEqProofs only[go_sem,↓reduceIte,hr,not_false_eq_true,decide_true]
  repeat refine aJ ?_
  refine⟨_,_,?_,Fin.take 1 (by simp) (by simp) (by simp[ac,V.low,-List.map_take,-List.map_drop,-List.map_map,-List.map_set]) (by simp[aF,ac,V.low,-List.map_take,-List.map_drop,-List.map_map,-List.map_set,hsl])⟩
  exact⟨⟨[],[],0,0,5,rfl,by simp,by simp,by simp⟩,rfl⟩
 simp -implicitDefEqProofs only[go_sem,↓reduceIte,hr,not_true,decide_false]
 repeat refine aJ ?_
 generalize hon:List.drop 10 (List.take 42 sec)=on at*
 have honl:on.length=32:=by rw[←hon];simp;omega
 obtain⟨_,_,hbo,rfl,c2,hs2,rfl⟩:=oV 0 _ hst0 on (by omega)
 have r2:=hs2.rens
 have l2:=hs2.low
 refine aA [3,2] (hbo) (by kernel_rfl) (by simp[-List.map_map,-List.map_set]) rfl (by simp[-List.map_map,-List.map_set]) (by first|decide|simp) (by simp[-List.map_map,-List.map_set]) (by simp[-List.map_map,-List.map_set]) (by simp[-List.map_map,-List.map_set,hsr,hsl]) (by simp[-List.map_map,-List.map_set]) (by simp) ?_
 simp -implicitDefEqProofs only[go_sem,↓reduceIte,Nat.reduceEqDiff,Nat.reduceLT,Nat.reduceAdd,Nat.reduceSub,reduceCtorEq,r2]
 repeat refine aJ ?_
 obtain⟨_,_,hse,rfl,e3,c3,he3,hs3,rfl⟩:=iJ 0 c2 hs2 once on
 have r3:=hs3.rens
 have l3:=hs3.low
 refine aA [3,2] (hse) (by kernel_rfl) (by simp[-List.map_map,-List.map_set]) rfl (by simp[-List.map_map,-List.map_set]) (by first|decide|simp) (by simp[-List.map_map,-List.map_set]) (by simp[-List.map_map,-List.map_set]) (by simp[-List.map_map,-List.map_set,r2,l2]) (by simp[-List.map_map,-List.map_set]) (by simp) ?_
 simp -implicitDefEqProofs only[go_sem,↓reduceIte,Nat.reduceEqDiff,Nat.reduceLT,Nat.reduceAdd,Nat.reduceSub,reduceCtorEq,r3]
 repeat refine aJ ?_
 obtain⟨_,_,hs5',rfl,e5,c5,he5,hs5,rfl⟩:=iJ e3 c3 hs3 own on
 have r5:=hs5.rens
 have l5:=hs5.low
 refine aA [3,2] (hs5') (by kernel_rfl) (by simp[-List.map_map,-List.map_set]) rfl (by simp[-List.map_map,-List.map_set]) (by first|decide|simp) (by simp[-List.map_map,-List.map_set]) (by simp[-List.map_map,-List.map_set]) (by simp[-List.map_map,-List.map_set,r3,l3]) (by simp[-List.map_map,-List.map_set]) (by simp) ?_
 simp -implicitDefEqProofs only[go_sem,↓reduceIte,Nat.reduceEqDiff,Nat.reduceLT,Nat.reduceAdd,Nat.reduceSub,reduceCtorEq,r5]
 repeat refine aJ ?_
 obtain⟨_,_,hmb,rfl,c6,hs6,rfl⟩:=vq c5 hs5 psk (by omega)
 have r6:=hs6.rens
 have l6:=hs6.low
 refine dj [2] (hmb) (by kernel_rfl) (by simp[-List.map_map,-List.map_set]) rfl (by simp[-List.map_map,-List.map_set]) (by first|decide|simp) (by simp[-List.map_map,-List.map_set]) (by simp[-List.map_map,-List.map_set]) (by simp[-List.map_map,-List.map_set,r5,l5]) (by simp[-List.map_map,-List.map_set]) (by simp) ?_
 simp -implicitDefEqProofs only[go_sem,↓reduceIte,Nat.reduceEqDiff,Nat.reduceLT,Nat.reduceAdd,Nat.reduceSub,Int.reduceLE,Int.reduceToNat,r6]
 repeat refine aJ ?_
 generalize hx2:List.drop 42 sec=x2 at*
 have hx2l:x2.length=17:=by rw[←hx2];simp;omega
 obtain⟨_,_,hs7',c,e7,c7,rfl,hc7,he7,hs7,rfl⟩:=rR e5 c6 hs6 x2 (by omega)
 have r7:=hs7.rens
 have l7:=hs7.low
 refine aA [3,2] (hs7') (by kernel_rfl) (by simp[-List.map_map,-List.map_set]) rfl (by simp[-List.map_map,-List.map_set]) (by first|decide|simp) (by simp[-List.map_map,-List.map_set]) (by simp[-List.map_map,-List.map_set]) (by simp[-List.map_map,-List.map_set,r6,l6]) (by simp[-List.map_map,-List.map_set]) (by simp) ?_
 simp -implicitDefEqProofs only[go_sem,↓reduceIte,Nat.reduceEqDiff,Nat.reduceLT,Nat.reduceAdd,Nat.reduceSub,Int.reduceLT,Int.reduceToNat,BitVec.reduceOfInt,r7]
 repeat refine aJ ?_
 by_cases h7:e7=0
 rotate_left
 ·simp -implicitDefEqProofs only[go_sem,↓reduceIte,h7,not_false_eq_true,decide_true]
  repeat refine aJ ?_
  refine⟨_,_,?_,Fin.take 1 (by simp) (by simp) (by simp[ac,V.low,-List.map_take,-List.map_drop,-List.map_map,-List.map_set]) (by simp[aF,ac,V.low,-List.map_take,-List.map_drop,-List.map_map,-List.map_set,hsl])⟩
  exact⟨⟨[],[],0,0,e7,rfl,by simp,by simp,fun h=>absurd h h7⟩,rfl⟩
 subst h7
 have hcl:c.length=1:=by have :=he7 rfl;omega
 simp -implicitDefEqProofs only[go_sem,↓reduceIte,not_true,decide_false]
 repeat refine aJ ?_
 generalize hbest:((c.getD 0 0).toNat:Int)=best at*
 refine ak (km best) ?_
 simp -implicitDefEqProofs only[go_sem,↓reduceIte,Nat.reduceEqDiff,Nat.reduceLT,Nat.reduceAdd,Int.reduceLT,BitVec.reduceOfInt]
 by_cases hb:best=1∨best=2
 rotate_left
 ·simp -implicitDefEqProofs only[go_sem,↓reduceIte,hb,decide_false,Bool.not_false]
  repeat refine aJ ?_
  refine⟨_,_,?_,Fin.take 1 (by simp) (by simp) (by simp[ac,V.low,-List.map_take,-List.map_drop,-List.map_map,-List.map_set]) (by simp[aF,ac,V.low,-List.map_take,-List.map_drop,-List.map_map,-List.map_set,hsl])⟩
  exact⟨⟨[],[],0,0,5,rfl,by simp,by simp,by simp⟩,rfl⟩
 simp -implicitDefEqProofs only[go_sem,↓reduceIte,hb,decide_true,Bool.not_true]
 repeat refine aJ ?_
 obtain⟨_,_,hsp,⟨a,b,ha,hb',rfl⟩,rfl⟩:=wY c7 hs7
 refine aA [2] (hsp) (by kernel_rfl) (by simp[-List.map_map,-List.map_set]) rfl (by simp[-List.map_map,-List.map_set]) (by first|decide|simp) (by simp[-List.map_map,-List.map_set]) (by simp[-List.map_map,-List.map_set]) (by simp[-List.map_map,-List.map_set,r7,l7]) (by simp[-List.map_map,-List.map_set]) (by simp) ?_
 simp -implicitDefEqProofs only[go_sem,↓reduceIte,Nat.reduceEqDiff,Nat.reduceLT,Nat.reduceLeDiff,Nat.reduceAdd,Nat.reduceSub,Int.reduceLE,Int.reduceToNat,r7]
 repeat refine aJ ?_
 refine aC (dF _ (by simp;omega)) ?_
 simp -implicitDefEqProofs only[go_sem,↓reduceIte,Nat.reduceEqDiff,Nat.reduceLT,Nat.reduceAdd]
 repeat refine aJ ?_
 refine⟨_,_,?_,Fin.take 1 (by simp) (by simp) (by simp[ac,V.low,-List.map_take,-List.map_drop,-List.map_map,-List.map_set]) (by simp[aF,ac,V.low,-List.map_take,-List.map_drop,-List.map_map,-List.map_set,hsl])⟩
 exact⟨⟨a,b,_,_,0,rfl,by omega,by omega,fun _=>⟨by rw[hbest];exact hb,hf1,by rw[hq];rw[hq] at hf2;exact hf2,by omega,by omega⟩⟩,rfl⟩
def StrP (n:Nat)(v:V):Prop:=∃ o:List af,v= .str o∧o.length≤n
theorem StrP.low {n:Nat}{v:V}(h:StrP n v):v.low 0:=by obtain⟨o,rfl,-⟩:=h;trivial
theorem lk (key x:List af)(many:Int)(hk:key.length≤1099511627776)(hx:x.length≤1099511627776):∃ v,am Tryz.prog 124 [.str key,.str x,.i64 many] v∧StrP 32 v:=by
 refine ct (Post:=StrP 32) (by kernel_rfl) (by kernel_rfl) (fn:=Tryz.f124) Tryz.func124 rfl (by show 3≤17;decide) (by simp[ac,V.low]) (fun v h=>h.low) (ag ?_)
 simp only[go_sem,seval]
 refine bh (uL key x many hk hx) ?_
 rintro _ (⟨rfl,h⟩|⟨-,g,-,o,ho,rfl⟩)
 ·simp only[go_sem,seval]
  exact⟨_,rfl,by simp⟩
 ·simp only[go_sem,seval]
  exact⟨o,rfl,by omega⟩
theorem wn (u x:List af)(hk:u.length≤549755813888)(hx:x.length≤1099511627776):∃ v,am Tryz.prog 123 [.str u,.str x] v∧StrP 32 v:=by
 refine ct (Post:=StrP 32) (by kernel_rfl) (by kernel_rfl) (fn:=Tryz.f123) Tryz.func123 rfl (by show 2≤10;decide) (by simp[ac,V.low]) (fun v h=>h.low) (ag ?_)
 simp only[go_sem,seval]
 repeat refine aJ ?_
 have hl:(bytesOf ⟨#[109,97,114,107,45,45,45,45]⟩).length=8:=by rw[fe];rfl
 refine And.intro (by omega) ?_
 refine bh (lk [] (bytesOf ⟨#[109,97,114,107,45,45,45,45]⟩++u) 32 (by simp) (by rw[List.length_append];omega)) ?_
 rintro _ ⟨o,rfl,ho⟩
 simp only[go_sem,seval]
 refine bh (lk o x 16 (by omega) hx) ?_
 rintro _ ⟨o2,rfl,ho2⟩
 simp only[go_sem,seval]
 exact⟨o2,rfl,ho2⟩
theorem vE (u c:List af):am Tryz.prog 122 [.str u,.str c] (.i64 (if u.length=32∧(c=[]∨c.length=16) then 0 else 1)):=by
 refine aw (by kernel_rfl) (fn:=Tryz.f122) (by kernel_rfl) Tryz.func122 rfl (by show 2≤17;decide) (by simp[ac,V.low]) (by simp[V.low]) (ag ?_)
 simp only[go_sem,seval,Tryz.ntmps122]
 by_cases h1:(u.length:Int)=32
 ·by_cases h2:c=[]
  ·subst h2
   have h1':u.length=32:=by omega
   simp only[go_sem,seval,h1',not_true,decide_false,true_and,true_or]
  ·by_cases h3:(c.length:Int)=16
   ·have h1':u.length=32:=by omega
    have h3':c.length=16:=by omega
    simp only[go_sem,seval,h1',h2,h3',not_true,not_false_eq_true,decide_true,decide_false,true_and,or_true]
   ·have h3':¬ c.length=16:=by omega
    simp only[go_sem,seval,h1,h2,h3,h3',not_true,not_false_eq_true,decide_true,decide_false,or_self,and_false]
 ·have h1':¬ u.length=32:=by omega
  simp only[go_sem,seval,h1,h1',not_false_eq_true,decide_true,false_and]
def StrE (n:Nat)(v:V):Prop:=∃ (o:List af) (e:Int),v= .tup [.str o,.i64 e]∧o.length≤n
theorem StrE.low {n:Nat}{v:V}(h:StrE n v):v.low 0:=by obtain⟨o,e,rfl,-⟩:=h;simp[V.low,ac]
def StrB (lo hi:Nat)(v:V):Prop:=∃ (o:List af) (e:Int),v= .tup [.str o,.i64 e]∧lo≤o.length∧o.length≤hi
theorem StrB.low {n m:Nat}{v:V}(h:StrB n m v):v.low 0:=by obtain⟨o,e,rfl,-⟩:=h;simp[V.low,ac]
theorem yd (u c x:List af)(hu:u.length=32)(hc:c=[]∨c.length=16)(hx:x.length≤10000000):∃ v,am Tryz.prog 120 [.str u,.str c,.str x] v∧StrB x.length (x.length+64) v:=by
 have hck:=vE u c
 refine ct (Post:=StrB x.length (x.length+64)) (by kernel_rfl) (by kernel_rfl) (fn:=Tryz.f120) Tryz.func120 rfl (by show 3≤31;decide) (by simp[ac,V.low]) (fun v h=>h.low) (ag ?_)
 simp only[go_sem,seval]
 rw[if_pos ⟨hu,hc⟩] at hck
 refine ak (hck) ?_
 simp only[go_sem,seval]
 refine bh (wn u x (by omega) (by omega)) ?_
 rintro _ ⟨o,rfl,ho⟩
 simp only[go_sem,seval]
 repeat refine aJ ?_
 by_cases h0:c=[]
 ·subst h0
  simp only[go_sem,seval]
  refine ak (jA 16 (by decide)) ?_
  simp only[go_sem,seval]
  repeat refine aJ ?_
  exact⟨_,_,rfl,by simp,by simp;omega⟩
 ·have hc16:c.length=16:=hc.resolve_left h0
  simp only[go_sem,seval,h0]
  refine bh (lk c (x++o) 16 (by omega) (by simp;omega)) ?_
  rintro _ ⟨o2,rfl,ho2⟩
  simp only[go_sem,seval]
  repeat refine aJ ?_
  exact⟨_,_,rfl,by simp,by simp;omega⟩
def CheckP (s:List af)(v:V):Prop:=∃ (o:List af) (b:Bool) (e:Int),v= .tup [.str o,.bool b,.i64 e]∧o.length≤s.length
theorem CheckP.low {s:List af}{v:V}(h:CheckP s v):v.low 0:=by obtain⟨o,b,e,rfl,-⟩:=h;simp[V.low,ac]
theorem xq (u c s:List af)(hu:u.length≤1048576)(hc:c.length≤1048576)(hx:s.length≤10000000):∃ v,am Tryz.prog 87 [.str u,.str c,.str s] v∧CheckP s v:=by
 have hck:=vE u c
 refine ct (Post:=CheckP s) (by kernel_rfl) (by kernel_rfl) (fn:=Tryz.f87) Tryz.func87 rfl (by show 3≤52;decide) (by simp[ac,V.low]) (fun v h=>h.low) (ag ?_)
 simp only[go_sem,seval]
 by_cases h:u.length=32∧(c=[]∨c.length=16)
 rotate_left
 ·rw[if_neg h] at hck
  refine ak (hck) ?_
  simp only[go_sem,seval]
  exact⟨_,_,_,rfl,by simp⟩
 rw[if_pos h] at hck
 refine ak (hck) ?_
 simp only[go_sem,seval]
 by_cases h1:s.length<32
 ·have h1':(s.length:Int)<32:=by omega
  simp only[go_sem,seval,h1']
  exact⟨_,_,_,rfl,by simp⟩
 have h1':¬ (s.length:Int)<32:=by omega
 have w1:ai ((s.length:Int)-32)=((s.length-32:Nat):Int):=by rw[al (by omega) (by omega)];omega
 have w2:ai ((s.length:Int)-16)=((s.length-16:Nat):Int):=by rw[al (by omega) (by omega)];omega
 simp only[go_sem,seval,h1',w1,w2,Int.toNat_natCast]
 repeat refine aJ ?_
 refine bh (wn u (s.take (s.length-32)) (by omega) (by simp;omega)) ?_
 rintro _ ⟨o,rfl,ho⟩
 simp only[go_sem,seval]
 repeat refine aJ ?_
 by_cases h2:s.take (s.length-32)++o=s.take (s.length-16)
 rotate_left
 ·simp only[go_sem,seval,h2,not_false_eq_true]
  exact⟨_,_,_,rfl,by simp⟩
 by_cases h0:c=[]
 ·subst h0
  simp only[go_sem,seval,h2,not_true]
  repeat refine aJ ?_
  exact⟨_,_,_,rfl,by simp⟩
 ·simp only[go_sem,seval,h2,h0,not_true,not_false_eq_true,decide_true,decide_false]
  repeat refine aJ ?_
  refine bh (lk c (s.take (s.length-16)) 16 (by omega) (by simp;omega)) ?_
  rintro _ ⟨o2,rfl,ho2⟩
  simp only[go_sem,seval]
  repeat refine aJ ?_
  exact⟨_,_,_,rfl,by simp⟩
theorem Jr (k:List af)(fr:BitVec 32)(now:Int)(hk:k.length≤1048576):∃ v,am Tryz.prog 121 [.str k,.u32 fr,.i64 now] v∧StrE 32 v:=by
 refine ct (Post:=StrE 32) (by kernel_rfl) (by kernel_rfl) (fn:=Tryz.f121) Tryz.func121 rfl (by show 3≤31;decide) (by simp[ac,V.low]) (fun v h=>h.low) (ag ?_)
 simp only[go_sem,seval]
 by_cases h1:(k.length:Int)=32
 rotate_left
 ·simp only[go_sem,seval,h1,not_false_eq_true,decide_true]
  exact⟨_,_,rfl,by simp⟩
 by_cases h2:now<0
 ·simp only[go_sem,seval,h1,h2,not_true,decide_true,decide_false]
  exact⟨_,_,rfl,by simp⟩
 by_cases h3:1099511627776<now
 ·simp only[go_sem,seval,h1,h2,h3,not_true,decide_true,decide_false]
  exact⟨_,_,rfl,by simp⟩
 simp only[go_sem,seval,h1,h2,h3,ne_eq,not_true,decide_false]
 repeat refine aJ ?_
 refine aA [] (ku (BitVec.ofInt 64 (ai (now.tdiv 120)))) (by kernel_rfl) (by simp) rfl (by simp) (by first|decide|simp) (by simp) (by simp) (by simp) (by simp) (by simp) ?_
 simp only[go_sem,seval]
 repeat refine aJ ?_
 have h8:=nQ (bz (BitVec.ofInt 64 (ai (now.tdiv 120))).toNat 8) (fr.setWidth 64) (by rw[cn];omega)
 rw[cn] at h8
 refine aA [0] (h8) (by kernel_rfl) (by simp) rfl (by simp) (by first|decide|simp) (by simp) (by simp) (by simp) (by simp) (by simp) ?_
 simp only[go_sem,seval,cn]
 repeat refine aJ ?_
 refine bh (lk k _ 16 (by omega) (by simp[cn])) ?_
 rintro _ ⟨o2,rfl,ho2⟩
 simp only[go_sem,seval]
 exact⟨_,_,rfl,ho2⟩
theorem wo (s:List af)(h:32≤s.length)(h2:s.length≤10000000):∃ v,am Tryz.prog 127 [.str s] v∧StrP 16 v:=by
 have w1:ai ((s.length:Int)-32)=((s.length-32:Nat):Int):=by rw[al (by omega) (by omega)];omega
 have w2:ai ((s.length:Int)-16)=((s.length-16:Nat):Int):=by rw[al (by omega) (by omega)];omega
 refine ct (Post:=StrP 16) (by kernel_rfl) (by kernel_rfl) (fn:=Tryz.f127) Tryz.func127 rfl (by show 1≤11;decide) (by simp[ac,V.low]) (fun v h=>h.low) (ag ?_)
 simp only[go_sem,seval,w1,w2,Int.toNat_natCast]
 repeat refine aJ ?_
 exact⟨_,rfl,by simp;omega⟩
theorem xr (u:List af)(hu:u.length≤1048576):∃ v,am Tryz.prog 126 [.str u] v∧StrP 32 v:=by
 refine ct (Post:=StrP 32) (by kernel_rfl) (by kernel_rfl) (fn:=Tryz.f126) Tryz.func126 rfl (by show 1≤6;decide) (by simp[ac,V.low]) (fun v h=>h.low) (ag ?_)
 simp only[go_sem,seval]
 have hl:(bytesOf ⟨#[99,111,111,107,105,101,45,45]⟩).length=8:=by rw[fe];rfl
 refine And.intro (by omega) ?_
 refine bh (lk [] (bytesOf ⟨#[99,111,111,107,105,101,45,45]⟩++u) 32 (by simp) (by rw[List.length_append];omega)) ?_
 rintro _ ⟨o,rfl,ho⟩
 simp only[go_sem,seval]
 exact⟨_,rfl,ho⟩
theorem ye (s:List af)(h:6≤s.length):∃ v,am Tryz.prog 128 [.str s] v∧StrP 6 v:=by
 refine ct (Post:=StrP 6) (by kernel_rfl) (by kernel_rfl) (fn:=Tryz.f128) Tryz.func128 rfl (by show 1≤8;decide) (by simp[ac,V.low]) (fun v h=>h.low) (ag ?_)
 simp only[go_sem,seval]
 repeat refine aJ ?_
 exact⟨_,rfl,by simp;omega⟩
theorem F2 (k c m t:List af):(er eK k c m t).1.length≤t.length+16:=by
 unfold er
 split
 ·exact(xh _ _ _ _).2
 ·simp
theorem C4 (k c m t:List af):(er dW k c m t).1.length≤t.length+16:=by
 unfold er
 split
 ·exact(rM _ _ _ _).2
 ·simp
theorem C5 (k c m t:List af)(h:(er dW k c m t).2=0):t.length=(er dW k c m t).1.length+16:=by
 unfold er at h ⊢
 by_cases hk:k.length=32∧c.length=24
 ·rw[if_pos hk] at h ⊢
  exact(rM _ _ _ _).1 h
 ·rw[if_neg hk] at h;cases h
def Str16 (v:V):Prop:=∃ (o:List af) (e:Int),v= .tup [.str o,.i64 e]∧o.length≤1000∧(e=0→o.length=16)
theorem Str16.low {v:V}(h:Str16 v):v.low 0:=by obtain⟨o,e,rfl,-⟩:=h;simp[V.low,ac]
def StrN (n:Nat)(v:V):Prop:=∃ (o:List af) (e:Int),v= .tup [.str o,.i64 e]∧o.length≤n∧(e=0→0<o.length)
theorem StrN.low {n:Nat}{v:V}(h:StrN n v):v.low 0:=by obtain⟨o,e,rfl,-⟩:=h;simp[V.low,ac]
theorem F3 (u n c s:List af)(hu:u.length≤1048576)(hc:c.length≤1048576)(hx:s.length≤10000000):∃ v,am Tryz.prog 88 [.str u,.str n,.str c,.str s] v∧StrN 1000 v:=by
 refine ct (Post:=StrN 1000) (by kernel_rfl) (by kernel_rfl) (fn:=Tryz.f88) Tryz.func88 rfl (by show 4≤46;decide) (by simp[ac,V.low]) (fun v h=>h.low) (ag ?_)
 simp only[go_sem,seval]
 by_cases h1:(u.length:Int)=32
 rotate_left
 ·simp only[go_sem,seval,h1,not_false_eq_true,decide_true]
  exact⟨_,_,rfl,by simp,by simp⟩
 by_cases h2:(n.length:Int)=24
 rotate_left
 ·simp only[go_sem,seval,h1,h2,not_false_eq_true,not_true,decide_false,decide_true]
  exact⟨_,_,rfl,by simp,by simp⟩
 by_cases h3:(c.length:Int)=16
 rotate_left
 ·simp only[go_sem,seval,h1,h2,h3,ne_eq,not_false_eq_true,not_true,decide_false,decide_true]
  exact⟨_,_,rfl,by simp,by simp⟩
 by_cases h4:(s.length:Int)<38
 ·simp only[go_sem,seval,h1,h2,h3,h4,ne_eq,not_false_eq_true,not_true,decide_false,decide_true]
  exact⟨_,_,rfl,by simp,by simp⟩
 simp only[go_sem,seval,h1,h2,h3,h4,ne_eq,not_false_eq_true,not_true,decide_false]
 refine bh (xr u hu) ?_
 rintro _ ⟨ko,rfl,hko⟩
 simp only[go_sem,seval]
 refine bh (wo s (by omega) hx) ?_
 rintro _ ⟨mo,rfl,hmo⟩
 simp only[go_sem,seval]
 refine ak (FC ko n mo c) ?_
 simp only[go_sem,seval]
 have hl:=F2 ko n mo c
 generalize er eK ko n mo c=z at*
 repeat refine aJ ?_
 refine bh (ye s (by omega)) ?_
 rintro _ ⟨hd,rfl,hhd⟩
 simp only[go_sem,seval]
 repeat refine aJ ?_
 exact⟨_,_,rfl,by simp;omega,fun _=>by simp;omega⟩
theorem Ew (u m s:List af)(hu:u.length≤1048576)(hm:m.length≤10000000)(hx:s.length≤10000000):∃ v,am Tryz.prog 98 [.str u,.str m,.str s] v∧Str16 v:=by
 refine ct (Post:=Str16) (by kernel_rfl) (by kernel_rfl) (fn:=Tryz.f98) Tryz.func98 rfl (by show 3≤43;decide) (by simp[ac,V.low]) (fun v h=>h.low) (ag ?_)
 simp only[go_sem,seval]
 by_cases h1:(u.length:Int)=32
 rotate_left
 ·simp only[go_sem,seval,h1,not_false_eq_true]
  exact⟨_,_,rfl,by simp,by simp⟩
 by_cases h2:(m.length:Int)<38
 ·simp only[go_sem,seval,h1,h2,not_true,decide_false,decide_true]
  exact⟨_,_,rfl,by simp,by simp⟩
 by_cases h3:(s.length:Int)<62
 ·simp only[go_sem,seval,h1,h2,h3,not_false_eq_true,not_true,decide_false,decide_true]
  exact⟨_,_,rfl,by simp,by simp⟩
 by_cases h4:62<(s.length:Int)
 ·simp only[go_sem,seval,h1,h2,h3,h4,not_false_eq_true,not_true,decide_false,decide_true]
  repeat refine aJ ?_
  exact⟨_,_,rfl,by simp,by simp⟩
 simp only[go_sem,seval,h1,h2,h3,h4,not_false_eq_true,not_true,decide_false]
 repeat refine aJ ?_
 refine dN (ye m (by omega)) ?_
 rintro _ ⟨hd,rfl,hhd⟩
 simp only[go_sem,seval]
 by_cases h5:s.take 6=hd
 rotate_left
 ·simp only[go_sem,seval,h5,not_false_eq_true]
  repeat refine aJ ?_
  exact⟨_,_,rfl,by simp,by simp⟩
 simp only[go_sem,seval,h5,not_true,decide_false]
 repeat refine aJ ?_
 refine dN (xr u hu) ?_
 rintro _ ⟨ko,rfl,hko⟩
 simp only[go_sem,seval]
 repeat refine aJ ?_
 refine dN (wo m (by omega) hm) ?_
 rintro _ ⟨mo,rfl,hmo⟩
 simp only[go_sem,seval]
 repeat refine aJ ?_
 refine aC (CU ko (List.drop 6 (List.take 30 s)) mo (List.drop 30 s)) ?_
 simp only[go_sem,seval]
 have hl:=C4 ko (List.drop 6 (List.take 30 s)) mo (List.drop 30 s)
 have hf:=C5 ko (List.drop 6 (List.take 30 s)) mo (List.drop 30 s)
 generalize er dW ko (List.drop 6 (List.take 30 s)) mo (List.drop 30 s)=z at*
 repeat refine aJ ?_
 exact⟨_,_,rfl,by simp at hl;omega,fun e=>by have :=hf e;simp at this;omega⟩
def IsTim (cs:List V):Prop:=∃ (w:Bool) (t l:Int) (o:Bool) (u:Int),cs=[.bool w,.i64 t,.i64 l,.bool o,.i64 u]
def ub (v:V)(h':List (Option Blk)):Prop:=(∃ e:Int,v= .i64 e)∧∃ cs',IsTim cs'∧h'=[some ⟨false,cs',none⟩]
theorem C6 (cs:List V)(h:IsTim cs)(k n:Int):∃ v h',ao Tryz.prog 40 [.ptr 0 0,.i64 k,.i64 n] [some ⟨false,cs,none⟩] v h'∧ub v h':=by
 obtain⟨w,t,l,o,u,rfl⟩:=h
 have fin:∀ (e:Int) (w:Bool) (t l:Int) (o:Bool) (u:Int) (s:St) (_:aa s.H 0=some ⟨false,[.bool w,.i64 t,.i64 l,.bool o,.i64 u],none⟩) (_:1≤s.H.length),∃ v' h',ub v' h'∧Fin 1 v' h' (.i64 e) s:=fun e w t l o u s hs hl=>
  ⟨.i64 e,[some ⟨false,[.bool w,.i64 t,.i64 l,.bool o,.i64 u],none⟩],⟨⟨e,rfl⟩,_,⟨w,t,l,o,u,rfl⟩,rfl⟩,Fin.same (Nat.le_refl _) hl trivial fun b B e=>by
   match b with
   |0=>have e':some (⟨false,[.bool w,.i64 t,.i64 l,.bool o,.i64 u],none⟩:Blk)=some B:=e;cases e';exact⟨hs,by simp[ac,V.low]⟩
   |b+1=>simp[aa] at e⟩
 refine cb (Post:=ub) (by kernel_rfl) (fn:=Tryz.f40) Tryz.func40 rfl (by show 3≤67;decide) (ag ?_)
 simp only[go_sem,seval]
 by_cases h1:n<0
 ·simp only[go_sem,seval,h1,decide_true]
  exact fin _ _ _ _ _ _ _ rfl (by simp)
 by_cases h2:1099511627776<n
 ·simp only[go_sem,seval,h1,h2,decide_true,decide_false]
  exact fin _ _ _ _ _ _ _ rfl (by simp)
 simp only[go_sem,seval,h1,h2,decide_false]
 by_cases k1:k=1
 ·simp only[go_sem,seval,k1,decide_true]
  repeat refine aJ ?_
  exact fin _ _ _ _ _ _ _ rfl (by simp)
 by_cases k2:k=2
 ·cases o
  ·simp only[go_sem,seval,k2,decide_true,decide_false,Bool.not_false]
   repeat refine aJ ?_
   exact fin _ _ _ _ _ _ _ rfl (by simp)
  ·simp only[go_sem,seval,k2,decide_true,decide_false,Bool.not_true]
   repeat refine aJ ?_
   exact fin _ _ _ _ _ _ _ rfl (by simp)
 by_cases k3:k=3
 ·simp only[go_sem,seval,k3,decide_true,decide_false]
  repeat refine aJ ?_
  exact fin _ _ _ _ _ _ _ rfl (by simp)
 by_cases k4:k=4
 ·simp only[go_sem,seval,k4,decide_true,decide_false]
  repeat refine aJ ?_
  exact fin _ _ _ _ _ _ _ rfl (by simp)
 by_cases k5:k=5
 ·simp only[go_sem,seval,k5,decide_true,decide_false]
  repeat refine aJ ?_
  exact fin _ _ _ _ _ _ _ rfl (by simp)
 by_cases k6:k=6
 ·simp only[go_sem,seval,k6,decide_true,decide_false]
  repeat refine aJ ?_
  exact fin _ _ _ _ _ _ _ rfl (by simp)
 simp only[go_sem,seval,k1,k2,k3,k4,k5,k6,decide_false]
 exact fin _ _ _ _ _ _ _ rfl (by simp)
def tK (cs:List V)(v:V)(h':List (Option Blk)):Prop:=(∃ e:Int,v= .i64 e)∧h'=[some ⟨false,cs,none⟩]
theorem Ex (cs:List V)(h:IsTim cs)(n:Int):∃ v h',ao Tryz.prog 60 [.ptr 0 0,.i64 n] [some ⟨false,cs,none⟩] v h'∧tK cs v h':=by
 obtain⟨w,t,l,o,u,rfl⟩:=h
 have fin:∀ (e:Int) (s:St) (_:aa s.H 0=some ⟨false,[.bool w,.i64 t,.i64 l,.bool o,.i64 u],none⟩) (_:1≤s.H.length),∃ v' h',tK [.bool w,.i64 t,.i64 l,.bool o,.i64 u] v' h'∧Fin 1 v' h' (.i64 e) s:=fun e s hs hl=>
  ⟨.i64 e,[some ⟨false,[.bool w,.i64 t,.i64 l,.bool o,.i64 u],none⟩],⟨⟨e,rfl⟩,rfl⟩,Fin.same (Nat.le_refl _) hl trivial fun b B e=>by
   match b with
   |0=>have e':some (⟨false,[.bool w,.i64 t,.i64 l,.bool o,.i64 u],none⟩:Blk)=some B:=e;cases e';exact⟨hs,by simp[ac,V.low]⟩
   |b+1=>simp[aa] at e⟩
 refine cb (Post:=tK [.bool w,.i64 t,.i64 l,.bool o,.i64 u]) (by kernel_rfl) (fn:=Tryz.f60) Tryz.func60 rfl (by show 2≤66;decide) (ag ?_)
 simp only[go_sem,seval]
 by_cases h4:ai (u+10)≤n
 all_goals cases o
 all_goals cases w
 all_goals first
  |(simp only[go_sem,seval,h4,decide_true,decide_false]
    exact fin _ _ rfl (by simp))
  |(by_cases h1:t=0
    ·have e1:(t=0)=True:=eq_true h1
     simp only[go_sem,seval,e1,decide_true]
     exact fin _ _ rfl (by simp)
    by_cases h2:ai (l+5)≤n
    ·by_cases h3:t=6
     ·have e3:(t=6)=True:=eq_true h3
      simp only[go_sem,seval,h1,h2,e3,decide_true,decide_false]
      exact fin _ _ rfl (by simp)
     ·simp only[go_sem,seval,h1,h2,h3,decide_true,decide_false]
      exact fin _ _ rfl (by simp)
    ·simp only[go_sem,seval,h4,h1,h2,decide_true,decide_false]
     exact fin _ _ rfl (by simp))
section
variable {G:Gh}{K:Nat→Option Kd}{H:List (Option Blk)}{b p:Nat}
theorem IsTim.rens {cs:List V}(h:IsTim cs)(σ:Nat→Nat):Go.Vm.rens σ cs=cs:=by obtain⟨w,t,l,o,u,rfl⟩:=h;rfl
theorem IsTim.low {cs:List V}(h:IsTim cs)(n:Nat):ac n cs:=by obtain⟨w,t,l,o,u,rfl⟩:=h;simp[ac,V.low]
theorem fh (h:WT G K H)(hb:K b=some .timer)(k n:Int):∃ v G' K' H',Done Tryz.prog 40 [.ptr b 0,.i64 k,.i64 n] K H (fun x=>x=b) v G' K' H'∧br bK G K v G' K':=by
 obtain⟨w,t,l,o,u,hg,-⟩:=h.timer hb
 have h1:IsTim [.bool w,.i64 t,.i64 l,.bool o,.i64 u]:=⟨w,t,l,o,u,rfl⟩
 obtain⟨_,_,hs,⟨e,rfl⟩,cs2,h2,rfl⟩:=C6 _ h1 k n
 refine jZ h hb rfl hg hs (fun _=>rfl) (fun _=>by simp[ac,V.low]) h1.rens h1.low h2.rens (fun _=>rfl) (fun _=>trivial) ?_ ⟨e,rfl⟩
 obtain⟨w,t,l,o,u,rfl⟩:=h2
 exact⟨⟨_,rfl⟩,⟨_,rfl⟩,⟨_,rfl⟩,⟨_,rfl⟩,⟨_,rfl⟩,trivial⟩
theorem MG (h:WT G K H)(hb:K b=some .timer)(n:Int):∃ v G' K' H',Done Tryz.prog 60 [.ptr b 0,.i64 n] K H (fun x=>x=b) v G' K' H'∧br bK G K v G' K':=by
 obtain⟨w,t,l,o,u,hg,-⟩:=h.timer hb
 have h1:IsTim [.bool w,.i64 t,.i64 l,.bool o,.i64 u]:=⟨w,t,l,o,u,rfl⟩
 obtain⟨_,_,hs,⟨e,rfl⟩,rfl⟩:=Ex _ h1 n
 refine jZ h hb rfl hg hs (fun _=>rfl) (fun _=>by simp[ac,V.low]) h1.rens h1.low h1.rens (fun _=>rfl) (fun _=>trivial) ?_ ⟨e,rfl⟩
 exact⟨⟨_,rfl⟩,⟨_,rfl⟩,⟨_,rfl⟩,⟨_,rfl⟩,⟨_,rfl⟩,trivial⟩
theorem sO (h:WT G K H)(hb:K b=some .pair)(n m:Int):∃ v G' K' H',Done Tryz.prog 81 [.ptr b 0,.i64 n,.i64 m] K H (fun _=>False) v G' K' H'∧br lI G K v G' K':=by
 obtain⟨win,send,recv,su,born,sealed,first,hg,hF⟩:=h.pair hb
 refine bE (W:=fun _=>False) (Post:=br lI G K) (by kernel_rfl) (fn:=Tryz.f81) Tryz.func81 rfl (by show 3≤15;decide) (ag ?_)
 simp only[go_sem,seval,hg]
 repeat refine aJ ?_
 exact EndW.of (Cur.refl h _) trivial ⟨rfl,rfl,_,rfl⟩
theorem sh (h:WT G K H)(hb:K b=some .pair)(n:Int):∃ v G' K' H',Done Tryz.prog 55 [.ptr b 0,.i64 n] K H (fun _=>False) v G' K' H'∧br lI G K v G' K':=by
 obtain⟨win,send,recv,su,born,sealed,first,hg,hF⟩:=h.pair hb
 refine bE (W:=fun _=>False) (Post:=br lI G K) (by kernel_rfl) (fn:=Tryz.f55) Tryz.func55 rfl (by show 2≤15;decide) (ag ?_)
 simp only[go_sem,seval]
 repeat refine aJ ?_
 refine aT (sO h hb n 180) (by kernel_rfl) rfl (by simp[ac,V.low,h.lt hb]) h.sane ?_
 rintro _ G1 K1 H1 hC1 hl1 ⟨rfl,rfl,r,rfl⟩
 have hg1:=(hC1.keep b (h.lt hb) id).trans hg
 cases r
 ·simp only[go_sem,seval,hg1]
  repeat refine aJ ?_
  exact EndW.of hC1 trivial ⟨rfl,rfl,_,rfl⟩
 ·simp only[go_sem,seval]
  repeat refine aJ ?_
  exact EndW.of hC1 trivial ⟨rfl,rfl,_,rfl⟩
end
section
variable {G:Gh}{K:Nat→Option Kd}{H:List (Option Blk)}{b p:Nat}
theorem F4 (h:WT G K H)(hb:K b=some .pair)(n:Int):∃ v G' K' H',Done Tryz.prog 59 [.ptr b 0,.i64 n] K H (fun _=>False) v G' K' H'∧br lI G K v G' K':=by
 obtain⟨win,send,recv,su,born,sealed,first,hg,hF⟩:=h.pair hb
 refine bE (W:=fun _=>False) (Post:=br lI G K) (by kernel_rfl) (fn:=Tryz.f59) Tryz.func59 rfl (by show 2≤19;decide) (ag ?_)
 simp only[go_sem,seval]
 repeat refine aJ ?_
 refine aT (sh h hb n) (by kernel_rfl) rfl (by simp[ac,V.low,h.lt hb]) h.sane ?_
 rintro _ G1 K1 H1 hC1 hl1 ⟨rfl,rfl,r,rfl⟩
 have hg1:=(hC1.keep b (h.lt hb) id).trans hg
 cases r
 ·cases first
  ·simp only[go_sem,seval,hg1]
   repeat refine aJ ?_
   exact EndW.of hC1 trivial ⟨rfl,rfl,_,rfl⟩
  ·simp only[go_sem,seval,hg1]
   repeat refine aJ ?_
   refine aT (sO hC1.wt hb n 120) (by kernel_rfl) rfl (by simp[ac,V.low,hC1.wt.lt hb]) hC1.wt.sane ?_
   rintro _ G2 K2 H2 hC2 hl2 ⟨rfl,rfl,r,rfl⟩
   simp only[go_sem,seval]
   exact EndW.of (hC1.call hC2 fun _ _ h=>h) trivial ⟨rfl,rfl,_,rfl⟩
 ·simp only[go_sem,seval]
  repeat refine aJ ?_
  exact EndW.of hC1 trivial ⟨rfl,rfl,_,rfl⟩
def zF (m:Nat)(v:V):Prop:=∃ (n:Int) (s:List af) (e:Int),v= .tup [.i64 n,.str s,.i64 e]∧s.length≤m
theorem Js (h:WT G K H)(hb:K b=some .pair)(x:List af)(hx:x.length≤10000000)(n:Int):∃ v G' K' H',Done Tryz.prog 56 [.ptr b 0,.str x,.i64 n] K H (fun c=>c=b) v G' K' H'∧br (zF (x.length+16)) G K v G' K':=by
 obtain⟨win,send,recv,su,born,sealed,first,hg,hF⟩:=h.pair hb
 have hsu:su=1∨su=2:=by have :=hF.fsuite;omega
 refine bE (W:=fun c=>c=b) (Post:=br (zF (x.length+16)) G K) (by kernel_rfl) (fn:=Tryz.f56) Tryz.func56 rfl (by show 3≤49;decide) (ag ?_)
 simp only[go_sem,seval]
 repeat refine aJ ?_
 refine aT (sh h hb n) (by kernel_rfl) rfl (by simp[ac,V.low,h.lt hb]) h.sane ?_
 rintro _ G1 K1 H1 hC1 hl1 ⟨rfl,rfl,r,rfl⟩
 have hg1:=(hC1.keep b (h.lt hb) id).trans hg
 have hlt:=hC1.wt.lt hb
 have hC2:=hC1.mono (W2:=fun c=>c=b) fun _ h=>h.elim
 cases r
 rotate_left
 ·simp only[go_sem,seval]
  repeat refine aJ ?_
  exact EndW.of hC2 (by simp[V.low,ac]) ⟨rfl,rfl,_,_,_,rfl,by simp⟩
 simp only[go_sem,seval,hg1]
 repeat refine aJ ?_
 refine dN (FO su hsu send [] x (BitVec.ofInt 64 sealed) (by omega)) ?_
 rintro _ ⟨o,e,rfl,he,ho⟩
 simp only[go_sem,seval,hg1]
 repeat refine aJ ?_
 by_cases h0:e=0
 ·subst h0
  simp only[go_sem,seval,aW hlt,not_true,decide_false]
  repeat refine aJ ?_
  exact EndW.of (hC2.putW hb rfl (fun _=>rfl) (PairF.row (sealed:=ai (sealed+1)) {hF with})) (by simp[V.low,ac]) ⟨rfl,rfl,_,_,_,rfl,ho⟩
 ·simp only[go_sem,seval,h0,not_false_eq_true,decide_true]
  repeat refine aJ ?_
  exact EndW.of hC2 (by simp[V.low,ac]) ⟨rfl,rfl,_,_,_,rfl,by simp⟩
end
def jo (next:Int)(bits:BitVec 64)(n:Int):Int:=
 if n<0∨1099511627776<n then 1 else if next-1-n<0 then 0 else if 64≤next-1-n∨bits>>>(next-1-n).toNat&&&1#64=1#64 then 11 else 0
def tM (next n:Int):Int:=if next≤n then n+1 else next
def zH (next:Int)(bits:BitVec 64)(n:Int):BitVec 64:=
 if next≤n then bits<<<(if 64<n+1-next then 64 else n+1-next).toNat|||1#64<<<0 else bits|||1#64<<<(next-1-n).toNat
theorem xt:ao Tryz.prog 157 [] [] (.ptr 0 0) [some ⟨false,[.i64 0,.u64 0#64],none⟩]:=by
 refine aR (by kernel_rfl) (fn:=Tryz.f157) Tryz.func157 rfl (by show 0≤3;decide) (ag ?_)
 simp only[go_sem,seval,Tryz.ntmps157,Tryz.results157]
 exact Fin.ren [0] (by simp) (by simp) (by rfl) (by decide) (by simp) (by simp)
theorem qz (next:Int)(bits:BitVec 64)(n:Int)(h0:0≤next)(h1:next≤1099511627777):ao Tryz.prog 159 [.ptr 0 0,.i64 n] [some ⟨false,[.i64 next,.u64 bits],none⟩] (.i64 (jo next bits n)) [some ⟨false,[.i64 next,.u64 bits],none⟩]:=by
 unfold jo
 by_cases h2:n<0
 ·refine aR (by kernel_rfl) (fn:=Tryz.f159) Tryz.func159 rfl (by show 2≤36;decide) (ag ?_)
  simp only[go_sem,seval,Tryz.ntmps159,Tryz.results159,h2,true_or]
  exact Fin.ren [0] (by simp) (by simp) (by rfl) (by decide) (by simp) (by simp)
 ·by_cases h3:1099511627776<n
  ·refine aR (by kernel_rfl) (fn:=Tryz.f159) Tryz.func159 rfl (by show 2≤36;decide) (ag ?_)
   simp only[go_sem,seval,Tryz.ntmps159,Tryz.results159,h2,h3,false_or]
   exact Fin.ren [0] (by simp) (by simp) (by rfl) (by decide) (by simp) (by simp)
  ·have e1:ai (next-1)=next-1:=al (by omega) (by omega)
   have e2:ai (next-1-n)=next-1-n:=al (by omega) (by omega)
   by_cases h4:next-1-n<0
   ·refine aR (by kernel_rfl) (fn:=Tryz.f159) Tryz.func159 rfl (by show 2≤36;decide) (ag ?_)
    simp only[go_sem,seval,Tryz.ntmps159,Tryz.results159,h2,h3,false_or,e1,e2,h4]
    exact Fin.ren [0] (by simp) (by simp) (by rfl) (by decide) (by simp) (by simp)
   ·by_cases h5:64≤next-1-n
    ·refine aR (by kernel_rfl) (fn:=Tryz.f159) Tryz.func159 rfl (by show 2≤36;decide) (ag ?_)
     simp only[go_sem,seval,Tryz.ntmps159,Tryz.results159,h2,h3,false_or,e1,e2,h4,h5,true_or]
     exact Fin.ren [0] (by simp) (by simp) (by rfl) (by decide) (by simp) (by simp)
    ·refine aR (by kernel_rfl) (fn:=Tryz.f159) Tryz.func159 rfl (by show 2≤36;decide) (ag ?_)
     simp only[go_sem,seval,Tryz.ntmps159,Tryz.results159,h2,h3,false_or,e1,e2,h4,h5]
     refine⟨by omega,?_⟩
     split
     ·exact Fin.ren [0] (by simp) (by simp) (by rfl) (by decide) (by simp) (by simp)
     ·exact Fin.ren [0] (by simp) (by simp) (by rfl) (by decide) (by simp) (by simp)
theorem Jt (next:Int)(bits:BitVec 64)(n:Int)(h0:0≤next)(h1:next≤1099511627777)(h:jo next bits n≠0):ao Tryz.prog 161 [.ptr 0 0,.i64 n] [some ⟨false,[.i64 next,.u64 bits],none⟩] (.i64 (jo next bits n)) [some ⟨false,[.i64 next,.u64 bits],none⟩]:=by
 refine aR (by kernel_rfl) (fn:=Tryz.f161) Tryz.func161 rfl (by show 2≤53;decide) (ag ?_)
 simp only[go_sem,seval,Tryz.ntmps161]
 refine aA [0] (qz next bits n h0 h1) (by kernel_rfl) (by simp) rfl (by simp) (by first|decide|simp) (by simp) (by simp) (by simp) (by simp) (by simp) ?_
 simp only[go_sem,seval,h]
 exact Fin.ren [0] (by simp) (by simp) (by rfl) (by decide) (by simp) (by simp)
theorem F5 (next:Int)(bits:BitVec 64)(n:Int)(h0:0≤next)(h1:next≤1099511627777)(h:jo next bits n=0):ao Tryz.prog 161 [.ptr 0 0,.i64 n] [some ⟨false,[.i64 next,.u64 bits],none⟩] (.i64 0) [some ⟨false,[.i64 (tM next n),.u64 (zH next bits n)],none⟩]:=by
 have hn:0≤n∧n≤1099511627776:=by
  unfold jo at h
  by_cases h2:n<0∨1099511627776<n
  ·rw[if_pos h2] at h;omega
  ·omega
 have e1:ai (next-1)=next-1:=al (by omega) (by omega)
 have e2:ai (next-1-n)=next-1-n:=al (by omega) (by omega)
 have e3:ai (n+1)=n+1:=al (by omega) (by omega)
 have e4:ai (n+1-next)=n+1-next:=al (by omega) (by omega)
 have e5:ai (n+1-1)=n:=by rw[al (by omega) (by omega)];omega
 have e6:ai (n-n)=0:=by rw[al (by omega) (by omega)];omega
 unfold tM zH
 refine aR (by kernel_rfl) (fn:=Tryz.f161) Tryz.func161 rfl (by show 2≤53;decide) (ag ?_)
 simp only[go_sem,seval,Tryz.ntmps161]
 refine aA [0] (qz next bits n h0 h1) (by kernel_rfl) (by simp) rfl (by simp) (by first|decide|simp) (by simp) (by simp) (by simp) (by simp) (by simp) ?_
 simp only[go_sem,seval,h]
 by_cases h2:next≤n
 ·have h3:0≤(if 64<n+1-next then 64 else n+1-next):=by split <;>omega
  simp only[go_sem,seval,h2,e3,e4,h3,e5,e6]
  refine⟨by kernel_rfl,by kernel_rfl,?_⟩
  exact Fin.ren [0] (by simp) (by simp) (by rfl) (by decide) (by simp) (by simp)
 ·have h3:0≤next-1-n:=by omega
  simp only[go_sem,seval,h2,e1,e2,h3]
  refine⟨by kernel_rfl,?_⟩
  exact Fin.ren [0] (by simp) (by simp) (by rfl) (by decide) (by simp) (by simp)
section
variable {G:Gh}{K:Nat→Option Kd}{H:List (Option Blk)}{b p:Nat}
theorem F6 (h:WT G K H)(hb:K b=some .win)(n:Int):∃ v G' K' H',Done Tryz.prog 159 [.ptr b 0,.i64 n] K H (fun x=>x=b) v G' K' H'∧br bK G K v G' K':=by
 obtain⟨nx,bits,hg,hF⟩:=h.win hb
 exact jZ h hb rfl hg (qz nx bits n hF.fnext.1 hF.fnext.2) (fun _=>rfl) (fun _=>by simp[ac,V.low]) (fun _=>rfl) (fun _=>by simp[ac,V.low]) (fun _=>rfl) (fun _=>rfl) (fun _=>trivial) hF.row ⟨_,rfl⟩
theorem Ju (h:WT G K H)(hb:K b=some .win)(n:Int):∃ v G' K' H',Done Tryz.prog 161 [.ptr b 0,.i64 n] K H (fun x=>x=b) v G' K' H'∧br bK G K v G' K':=by
 obtain⟨nx,bits,hg,hF⟩:=h.win hb
 have h1:=hF.fnext.1
 have h2:=hF.fnext.2
 by_cases hw:jo nx bits n=0
 ·have hn:0≤n∧n≤1099511627776:=by
   unfold jo at hw
   by_cases h2:n<0∨1099511627776<n
   ·rw[if_pos h2] at hw;cases hw
   ·omega
  refine jZ h hb rfl hg (F5 nx bits n h1 h2 hw) (fun _=>rfl) (fun _=>by simp[ac,V.low]) (fun _=>rfl) (fun _=>by simp[ac,V.low]) (fun _=>rfl) (fun _=>rfl) (fun _=>trivial) (WinF.row (G:=G) (b:=b) (K:=K) ⟨?_⟩) ⟨_,rfl⟩
  unfold tM
  split <;>omega
 ·exact jZ h hb rfl hg (Jt nx bits n h1 h2 hw) (fun _=>rfl) (fun _=>by simp[ac,V.low]) (fun _=>rfl) (fun _=>by simp[ac,V.low]) (fun _=>rfl) (fun _=>rfl) (fun _=>trivial) hF.row ⟨_,rfl⟩
def zW (m:Nat)(v:V):Prop:=∃ (s:List af) (e:Int),v= .tup [.str s,.i64 e]∧s.length≤m
theorem Jv (h:WT G K H)(hb:K b=some .pair)(m:Int)(x:List af)(hx:x.length≤10000000)(n:Int):∃ v G' K' H',Done Tryz.prog 141 [.ptr b 0,.i64 m,.str x,.i64 n] K H (fun c=>K c=some .win) v G' K' H'∧br (zW (x.length+16)) G K v G' K':=by
 obtain⟨win,send,recv,su,born,sealed,first,hg,hF⟩:=h.pair hb
 have hsu:su=1∨su=2:=by have :=hF.fsuite;omega
 have hw:=hF.fwin
 have hne:b≠win:=fun e=>by subst e;rw[hb] at hw;cases hw
 refine bE (W:=fun c=>K c=some .win) (Post:=br (zW (x.length+16)) G K) (by kernel_rfl) (fn:=Tryz.f141) Tryz.func141 rfl (by show 4≤51;decide) (ag ?_)
 simp only[go_sem,seval]
 repeat refine aJ ?_
 refine aT (sO h hb n 180) (by kernel_rfl) rfl (by simp[ac,V.low,h.lt hb]) h.sane ?_
 rintro _ G1 K1 H1 hC1 hl1 ⟨rfl,rfl,r,rfl⟩
 have hg1:=(hC1.keep b (h.lt hb) id).trans hg
 have hD1:=hC1.mono (W2:=fun c=>K1 c=some .win) fun _ h=>h.elim
 cases r
 rotate_left
 ·simp only[go_sem,seval]
  repeat refine aJ ?_
  exact EndW.of hD1 (by simp[V.low,ac]) ⟨rfl,rfl,_,_,rfl,by simp⟩
 simp only[go_sem,seval,hg1]
 repeat refine aJ ?_
 refine aT (F6 hC1.wt hw m) (by kernel_rfl) rfl (by simp[ac,V.low,hC1.wt.lt hw]) hC1.wt.sane ?_
 rintro _ G2 K2 H2 hC2 hl2 ⟨rfl,rfl,e,rfl⟩
 have hg2:=(hC2.keep b (hC1.wt.lt hb) hne).trans hg1
 have hD2:=hD1.call hC2 fun c _ e=>by subst e;exact hw
 by_cases h0:e=0
 rotate_left
 ·simp only[go_sem,seval,h0,ne_eq,not_false_eq_true,decide_true]
  repeat refine aJ ?_
  exact EndW.of hD2 (by simp[V.low,ac]) ⟨rfl,rfl,_,_,rfl,by simp⟩
 subst h0
 simp only[go_sem,seval,hg2,ne_eq,not_true,decide_false]
 repeat refine aJ ?_
 refine dN (FP su hsu recv [] x (BitVec.ofInt 64 m) (by omega)) ?_
 rintro _ ⟨o,e,rfl,he,ho⟩
 simp only[go_sem,seval,hg2]
 repeat refine aJ ?_
 by_cases h0:e=0
 rotate_left
 ·simp only[go_sem,seval,h0,not_false_eq_true,decide_true]
  repeat refine aJ ?_
  exact EndW.of hD2 (by simp[V.low,ac]) ⟨rfl,rfl,_,_,rfl,by simp⟩
 subst h0
 simp only[go_sem,seval,not_true,decide_false]
 repeat refine aJ ?_
 refine aT (Ju hC2.wt hw m) (by kernel_rfl) rfl (by simp[ac,V.low,hC2.wt.lt hw]) hC2.wt.sane ?_
 rintro _ G3 K3 H3 hC3 hl3 ⟨rfl,rfl,e,rfl⟩
 simp only[go_sem,seval]
 exact EndW.of (hD2.call hC3 fun c _ e=>by subst e;exact hw) (by simp[V.low,ac]) ⟨rfl,rfl,_,_,rfl,ho⟩
end
end Go.Vm
end
