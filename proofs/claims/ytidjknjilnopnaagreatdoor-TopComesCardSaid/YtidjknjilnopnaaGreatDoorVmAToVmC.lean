/- Proved: laws of a machine of values; no conditions but each theorem's own. -/
import Derived.Deep.AppendSrc
import Derived.Deep.MidRow
import Derived.Orders
set_option linter.unusedVariables false
set_option linter.unusedSimpArgs false
set_option maxRecDepth 20000
set_option maxHeartbeats 8000000
section
namespace Go.Vm
abbrev zH:=BitVec 8
inductive V where
 |bH
 |bool (b:Bool)
 |u8 (x:BitVec 8)
 |u32 (x:BitVec 32)
 |u64 (x:BitVec 64)
 |i64 (n:Int)
 |i32 (n:Int)
 |str (s:List zH)
 |ptr (b o:Nat)
 |nilPtr
 |slice (b o len esz:Nat)
 |bG
 |fn (f:FuncId) (first caps:List V)
 |ff
 |iV (name:String) (t:TypeId) (v:V)
 |agg (cs:List V)
 |aZ (vs:List V)
 |iface (t:TypeId) (v:V)
 |nilIface
 |map (b:Nat)
 deriving Inhabited
def bytesOf (b:ByteArray):List zH:=b.data.toList.map UInt8.toBitVec
def FY (l:List zH):ByteArray:=⟨(l.map UInt8.ofBitVec).toArray⟩
theorem Ro (l:List zH):bytesOf (FY l)=l:=by
 unfold bytesOf FY
 simp only[List.map_map]
 conv=>rhs;rw[←List.map_id l]
 exact List.map_congr_left fun _ _=>rfl
theorem RJ (b:ByteArray):FY (bytesOf b)=b:=by
 unfold bytesOf FY
 simp only[List.map_map]
 have :(b.data.toList.map (UInt8.ofBitVec∘UInt8.toBitVec))=b.data.toList:=by
  conv=>rhs;rw[←List.map_id b.data.toList]
  exact List.map_congr_left fun _ _=>rfl
 rw[this]
theorem pR (b:ByteArray):(bytesOf b).length=b.size:=by
 unfold bytesOf;rw[List.length_map,Array.length_toList];rfl
theorem aap {a b:ByteArray}(h:bytesOf a=bytesOf b):a=b:=by
 rw[←RJ a,h,RJ]
structure aV where
 es:List (Nat×BitVec 32×Int)
 clock:Nat
 deriving Inhabited
def hO (e:Nat×BitVec 32×Int):MapEntry:={key:= .int .u32 e.2.1.toNat,val:= .int .i64 e.2.2,born:=e.1}
def AT:Nat×BitVec 32×Int:=(0,0#32,1180591620717411303424)
def uo (e:Nat×BitVec 32×Int):MapEntry:={key:= .agg #[.int .i64 ((e.2.1.toNat/65536:Nat):Int),.int .i64 ((e.2.1.toNat%65536:Nat):Int)],val:= .int .i64 e.2.2,born:=e.1}
def aV.rW (m:aV):Prop:=m.es.head?=some AT
instance (m:aV):Decidable m.rW:=by unfold aV.rW;exact inferInstance
def aV.plain (m:aV):Prop:=∀ e∈m.es,e.2.2<1180591620717411303424
theorem aV.plain.not {m:aV}(h:m.plain):¬ m.rW:=fun e=>by
 unfold aV.rW at e
 cases hl:m.es with
 |nil=>rw[hl] at e;cases e
 |cons x l=>
  rw[hl] at e
  have e:x=AT:=by simpa using e
  have :=h x (by rw[hl];simp)
  rw[e] at this
  exact absurd this (by decide)
def aV.obj (m:aV):Obj:=if m.rW then .map (m.es.tail.map uo).toArray m.clock else .map (m.es.map hO).toArray m.clock
theorem aV.Z8 (m:aV):∃ es c,m.obj= .map es c:=by
 unfold aV.obj
 split <;>exact⟨_,_,rfl⟩
theorem aV.sF {m:aV}(h:m.plain):m.obj= .map (m.es.map hO).toArray m.clock:=if_neg h.not
theorem aV.Fi {m:aV}(h:m.rW):m.obj= .map (m.es.tail.map uo).toArray m.clock:=if_pos h
structure aa where
 ro:Bool
 cs:List V
 mp:Option aV
 deriving Inhabited
mutual
def VR (ρ:Nat→Nat×Nat)(dom:Nat→Prop)(w:World):V→Value→Prop
 | .bH,_=>True
 | .bool b,r=>r= .bool b
 | .u8 x,r=>r= .int .u8 x.toNat
 | .u32 x,r=>r= .int .u32 x.toNat
 | .u64 x,r=>r= .int .u64 x.toNat
 | .i64 n,r=>r= .int .i64 n
 | .i32 n,r=>r= .int .i32 n
 | .str s,r=>∃ b,r= .string b∧bytesOf b=s
 | .ptr b o,r=>dom b∧r= .pointer (some ⟨(ρ b).1,(ρ b).2+o,none⟩)
 | .nilPtr,r=>r= .pointer none
 | .slice b o len esz,r=>dom b∧∃ a cap,r= .slice (some a) len cap∧len≤cap∧
   (cap≠0→a=⟨(ρ b).1,(ρ b).2+o,none⟩∧w.there (ρ b).1 ((ρ b).2+o) (cap*esz))
 | .bG,r=>r= .slice none 0 0
 | .fn f fs cs,r=>∃ f' c',r= .func (.func f) f' c'∧ao ρ dom w fs f'.toList∧ao ρ dom w cs c'.toList
 | .ff,r=>r= .nilFunc
 | .iV nm t v,r=>∃ x,r= .func (.method nm) #[.iface t x] #[]∧VR ρ dom w v x
 | .agg cs,r=>∃ a,r= .agg a∧ao ρ dom w cs a.toList
 | .aZ cs,r=>∃ a,r= .tuple a∧ao ρ dom w cs a.toList
 | .iface t v,r=>∃ r',r= .iface t r'∧VR ρ dom w v r'
 | .nilIface,r=>r= .nilIface
 | .map b,r=>dom b∧r= .map (some (ρ b).1)
def ao (ρ:Nat→Nat×Nat)(dom:Nat→Prop)(w:World):List V→List Value→Prop
 |[],l=>l=[]
 |v::vs,l=>∃ r rs,l=r::rs∧VR ρ dom w v r∧ao ρ dom w vs rs
end
def cN (w w':World):Prop:=∀ b o,(w.cell? ⟨b,o,none⟩).isSome=true→(w'.cell? ⟨b,o,none⟩).isSome=true∧(w.frozen? ⟨b,o,none⟩=false→w'.frozen? ⟨b,o,none⟩=false)
theorem cN.refl (w:World):cN w w:=fun _ _ h=>⟨h,id⟩
theorem cN.trans {a b c:World}(h:cN a b)(k:cN b c):cN a c:=fun p o hp=>
 ⟨(k p o (h p o hp).1).1,fun hf=>(k p o (h p o hp).1).2 ((h p o hp).2 hf)⟩
theorem cN.there {w w':World}(h:cN w w'){b o n:Nat}(k:w.there b o n):w'.there b o n:=fun j hj=>
 ⟨(h b (o+j) (k j hj).1).1,(h b (o+j) (k j hj).1).2 (k j hj).2⟩
section mono
variable {ρ ρ':Nat→Nat×Nat}{dom dom':Nat→Prop}{w w':World}
mutual
theorem VR.mono (hρ:∀ b,dom b→ρ' b=ρ b)(hd:∀ b,dom b→dom' b)(hl:cN w w'):∀ {v:V} {r:Value},VR ρ dom w v r→VR ρ' dom' w' v r
 | .bH,_,_=>by unfold VR;trivial
 | .bool _,_,h=>by unfold VR at*;exact h
 | .u8 _,_,h=>by unfold VR at*;exact h
 | .u32 _,_,h=>by unfold VR at*;exact h
 | .u64 _,_,h=>by unfold VR at*;exact h
 | .i64 _,_,h=>by unfold VR at*;exact h
 | .i32 _,_,h=>by unfold VR at*;exact h
 | .str _,_,h=>by unfold VR at*;exact h
 | .ptr b _,_,h=>by unfold VR at*;exact⟨hd b h.1,by rw[hρ b h.1];exact h.2⟩
 | .nilPtr,_,h=>by unfold VR at*;exact h
 | .slice b _ _ _,_,h=>by
  unfold VR at*
  obtain⟨hb,a,cap,h1,h2,h3⟩:=h
  refine⟨hd b hb,a,cap,h1,h2,fun hc=>?_⟩
  rw[hρ b hb]
  exact⟨(h3 hc).1,hl.there (h3 hc).2⟩
 | .bG,_,h=>by unfold VR at*;exact h
 | .fn _ fs cs,_,h=>by
  unfold VR at*
  obtain⟨f',c',h1,h2,h3⟩:=h
  exact⟨f',c',h1,ao.mono hρ hd hl h2,ao.mono hρ hd hl h3⟩
 | .ff,_,h=>by unfold VR at*;exact h
 | .iV _ _ v,_,h=>by
  unfold VR at*
  obtain⟨x,h1,h2⟩:=h
  exact⟨x,h1,VR.mono hρ hd hl h2⟩
 | .agg cs,_,h=>by
  unfold VR at*
  obtain⟨a,h1,h2⟩:=h
  exact⟨a,h1,ao.mono hρ hd hl h2⟩
 | .aZ cs,_,h=>by
  unfold VR at*
  obtain⟨a,h1,h2⟩:=h
  exact⟨a,h1,ao.mono hρ hd hl h2⟩
 | .iface _ v,_,h=>by
  unfold VR at*
  obtain⟨r',h1,h2⟩:=h
  exact⟨r',h1,VR.mono hρ hd hl h2⟩
 | .nilIface,_,h=>by unfold VR at*;exact h
 | .map b,_,h=>by unfold VR at*;exact⟨hd b h.1,by rw[hρ b h.1];exact h.2⟩
theorem ao.mono (hρ:∀ b,dom b→ρ' b=ρ b)(hd:∀ b,dom b→dom' b)(hl:cN w w'):∀ {vs:List V} {rs:List Value},ao ρ dom w vs rs→ao ρ' dom' w' vs rs
 |[],_,h=>by unfold ao at*;exact h
 |v::vs,_,h=>by
  unfold ao at*
  obtain⟨r,rs,h1,h2,h3⟩:=h
  exact⟨r,rs,h1,VR.mono hρ hd hl h2,ao.mono hρ hd hl h3⟩
end
end mono
section lists
variable {ρ:Nat→Nat×Nat}{dom:Nat→Prop}{w:World}
theorem ao.length:∀ {vs:List V} {rs:List Value},ao ρ dom w vs rs→rs.length=vs.length
 |[],_,h=>by unfold ao at h;simp[h]
 |v::vs,_,h=>by
  unfold ao at h
  obtain⟨r,rs,rfl,_,h3⟩:=h
  simp[ao.length h3]
theorem ao.get:∀ {vs:List V} {rs:List Value},ao ρ dom w vs rs→∀ {i:Nat} {v:V},vs[i]?=some v→∃ r,rs[i]?=some r∧VR ρ dom w v r
 |[],_,_,i,v,hi=>by simp at hi
 |x::vs,_,h,0,v,hi=>by
  unfold ao at h
  obtain⟨r,rs,rfl,h2,_⟩:=h
  simp at hi;subst hi
  exact⟨r,rfl,h2⟩
 |x::vs,_,h,i+1,v,hi=>by
  unfold ao at h
  obtain⟨r,rs,rfl,_,h3⟩:=h
  simpa using ao.get h3 (by simpa using hi)
theorem ao.yz:∀ {vs:List V} {rs:List Value},rs.length=vs.length→(∀ (i:Nat) v r,vs[i]?=some v→rs[i]?=some r→VR ρ dom w v r)→ao ρ dom w vs rs
 |[],rs,hl,_=>by unfold ao;simpa using hl
 |v::vs,[],hl,_=>by simp at hl
 |v::vs,r::rs,hl,h=>by
  unfold ao
  exact⟨r,rs,rfl,h 0 v r rfl rfl,ao.yz (by simpa using hl) fun i v r hv hr=>h (i+1) v r (by simpa using hv) (by simpa using hr)⟩
theorem ao.append {vs us:List V}{rs qs:List Value}(h:ao ρ dom w vs rs)(k:ao ρ dom w us qs):ao ρ dom w (vs++us) (rs++qs):=by
 induction vs generalizing rs with
 |nil=>unfold ao at h;subst h;simpa using k
 |cons v vs ih=>
  unfold ao at h
  obtain⟨r,rs',rfl,h2,h3⟩:=h
  simp only[List.cons_append]
  unfold ao
  exact⟨r,_,rfl,h2,ih h3⟩
theorem ao.nil:ao ρ dom w [] []:=by unfold ao;rfl
theorem ao.cons {v:V}{r:Value}{vs:List V}{rs:List Value}(h:VR ρ dom w v r)(k:ao ρ dom w vs rs):ao ρ dom w (v::vs) (r::rs):=by
 unfold ao;exact⟨r,rs,rfl,h,k⟩
theorem ao.take {vs:List V}{rs:List Value}(h:ao ρ dom w vs rs)(n:Nat):ao ρ dom w (vs.take n) (rs.take n):=by
 refine ao.yz (by simp[h.length]) fun i v r hv hr=>?_
 rw[List.getElem?_take] at hv hr
 split at hv
 ·rename_i hlt
  rw[if_pos hlt] at hr
  obtain⟨r',h1,h2⟩:=h.get hv
  rw[hr] at h1;injection h1 with h1;subst h1;exact h2
 ·cases hv
theorem ao.drop {vs:List V}{rs:List Value}(h:ao ρ dom w vs rs)(n:Nat):ao ρ dom w (vs.drop n) (rs.drop n):=by
 refine ao.yz (by simp[h.length]) fun i v r hv hr=>?_
 rw[List.getElem?_drop] at hv hr
 obtain⟨r',h1,h2⟩:=h.get hv
 rw[hr] at h1;injection h1 with h1;subst h1;exact h2
end lists
def vN (w:World)(r:Nat)(cs:List V)(m:aV):Prop:=match cs with
 |[]=>w.heap[r]?=some m.obj
 |_::_=>∀ o,w.frozen? ⟨r,o,none⟩=false
theorem tj {w w':World}{r:Nat}{cs:List V}{m:aV}(h:vN w r cs m)(he:w'.heap[r]?=w.heap[r]?):vN w' r cs m:=by
 unfold vN at h ⊢
 split at h
 ·rw[he];exact h
 ·intro o
  have :=h o
  unfold World.frozen? at this ⊢
  simp only at this ⊢
  rw[he];exact this
theorem Bk {w:World}{r:Nat}{cs cs':List V}{m:aV}(h:vN w r cs m)(he:cs'.length=cs.length):vN w r cs' m:=by
 cases cs<;>cases cs'<;>simp at he<;>exact h
structure bS (ρ:Nat→Nat×Nat) (dom:Nat→Prop) (get:Nat→Option aa) (w:World):Prop where
 has:∀ b B,get b=some B→dom b
 lt:∀ b B,get b=some B→(ρ b).1<w.heap.size
 inj:∀ b b' B B',get b=some B→get b'=some B'→B.ro=false→b≠b'→(ρ b).1≠(ρ b').1
 cell:∀ b B,get b=some B→∀ (i:Nat) v,B.cs[i]?=some v→∃ r,w.cell? ⟨(ρ b).1,(ρ b).2+i,none⟩=some r∧VR ρ dom w v r
 free:∀ b B,get b=some B→B.ro=false→∀ i,i<B.cs.length→w.frozen? ⟨(ρ b).1,(ρ b).2+i,none⟩=false
 gY:∀ b B m,get b=some B→B.mp=some m→vN w (ρ b).1 B.cs m
structure Frame (ρ:Nat→Nat×Nat) (get:Nat→Option aa) (w:World) (ρ':Nat→Nat×Nat) (get':Nat→Option aa) (w':World):Prop where
 os:w'.os=w.os
 output:w'.output=w.output
 tape:w'.tape=w.tape
 size:w.heap.size≤w'.heap.size
 de:∀ r,r<w.heap.size→(∀ b B,get b=some B→B.ro=false→(ρ b).1≠r)→w'.heap[r]?=w.heap[r]?
 kL:cN w w'
 own:∀ b B,get' b=some B→B.ro=false→(∃ b0 B0,get b0=some B0∧B0.ro=false∧(ρ b0).1=(ρ' b).1)∨w.heap.size≤(ρ' b).1
theorem Frame.refl (ρ:Nat→Nat×Nat)(get:Nat→Option aa)(w:World):Frame ρ get w ρ get w:=
 ⟨rfl,rfl,rfl,Nat.le_refl _,fun _ _ _=>rfl,cN.refl w,fun b B h hr=> .inl ⟨b,B,h,hr,rfl⟩⟩
theorem Frame.trans {ρ ρ' ρ'':Nat→Nat×Nat}{get get' get'':Nat→Option aa}{w w' w'':World}(h:Frame ρ get w ρ' get' w')(k:Frame ρ' get' w' ρ'' get'' w''):Frame ρ get w ρ'' get'' w'':=by
 refine⟨k.os.trans h.os,k.output.trans h.output,k.tape.trans h.tape,Nat.le_trans h.size k.size,fun r hr hb=>?_,h.kL.trans k.kL,fun b B hB hro=>?_⟩
 ·rw[k.de r (Nat.lt_of_lt_of_le hr h.size) (fun b B hB hro e=>?_),h.de r hr hb]
  rcases h.own b B hB hro with⟨b0,B0,h1,h2,h3⟩|h1
  ·exact hb b0 B0 h1 h2 (h3.trans e)
  ·omega
 ·rcases k.own b B hB hro with⟨b0,B0,h1,h2,h3⟩|h1
  ·rcases h.own b0 B0 h1 h2 with⟨b1,B1,h4,h5,h6⟩|h4
   ·exact .inl ⟨b1,B1,h4,h5,h6.trans h3⟩
   ·exact .inr (by omega)
  ·exact .inr (Nat.le_trans h.size h1)
theorem Frame.less {ρ ρ' ρ'':Nat→Nat×Nat}{get get' get'':Nat→Option aa}{w w':World}(h:Frame ρ get w ρ' get' w')
  (hl:∀ b B,get'' b=some B→B.ro=false→∃ b0 B0,get' b0=some B0∧B0.ro=false∧(ρ' b0).1=(ρ'' b).1):Frame ρ get w ρ'' get'' w':=
 ⟨h.os,h.output,h.tape,h.size,h.de,h.kL,fun b B hB hro=>by
  obtain⟨b0,B0,h1,h2,h3⟩:=hl b B hB hro
  rw[←h3]
  exact h.own b0 B0 h1 h2⟩
end Go.Vm
namespace Go.Vm
theorem aI {a b:Prop}(k:b)(h:a:=by first|omega |trivial):a∧b:=⟨h,k⟩
theorem aJ {a b:Prop}(k:b)(h:a:=by first|omega |kernel_rfl|trivial):a∧b:=⟨h,k⟩
abbrev bK (c:List V):Option aa:=some ⟨false,c,none⟩
abbrev nL (i:Nat):Option aa:=some ⟨false,[.ptr i 0,.nilPtr,.bool false,.i64 0],none⟩
abbrev nR (i:Nat):Option aa:=some ⟨false,[.nilPtr,.ptr i 0,.bool false,.i64 0],none⟩
attribute [simp, go_sem] bK nL nR
theorem bT {p:Prop}(h:p:=by simp[lows,V.low]):p:=h
theorem uQ {p:Prop}(h:p:=by simp[V.low]):p:=h
theorem aky {p:Prop}(h:p:=by simp only[go_sem,seval]):p:=h
theorem akp {p:Prop}(h:p:=by simp only[go_sem,seval];rfl):p:=h
theorem yR {p:Prop}(h:p:=by decide+kernel):p:=h
theorem gJ {p:Prop}(h:p:=by simp[St.get,lookS]):p:=h
theorem akl {p:Prop}(h:p:=by simp[lowSl,St.get,lookS,V.low]):p:=h
theorem akw {p:Prop}(h:p:=by simp[blksLow,lows,V.low]):p:=h
theorem cp {p:Prop}(h:p:=by simp;omega):p:=h
theorem I {p:Prop}(h:p:=by omega):p:=h
theorem J {p:Prop}(h:p:=by simp):p:=h
theorem U {p:Prop}(h:p:=by kernel_rfl):p:=h
theorem ag {p:Prop}(h:p:=by decide):p:=h
theorem fO {p:Prop}(h:p:=by first|decide|simp):p:=h
theorem ci {p:Prop}(h:p:=by rfl):p:=h
theorem akk {p:Prop}(h:p:=by trivial):p:=h
theorem qz9 {p:Prop}(h:p:=by simp[lowSl,St.get,lookS,V.low,-List.map_take,-List.map_drop,-List.map_map,-List.map_set]):p:=h
theorem qz8 {p:Prop}(h:p:=by simp[blksLow,lows,V.low,-List.map_take,-List.map_drop,-List.map_map,-List.map_set]):p:=h
theorem db {a b:Nat}(h:Nat.ble a b=true:=by kernel_rfl):a≤b:=Nat.le_of_ble_eq_true h
theorem aw {a b:Nat}(h:Nat.ble (a+1) b=true:=by kernel_rfl):a<b:=Nat.le_of_ble_eq_true h
theorem aH {p q:Prop}(h:q)(e:p=q:=by simp -implicitDefEqProofs only[go_sem,seval];rfl):p:=e▸h
theorem aK {p q:Prop}(h:q)(e:(True→q)→p:=by intro h;simp -implicitDefEqProofs only[go_sem,seval];(repeat refine aI ?_);exact h trivial):p:=e fun _=>h
theorem aG {p q:Prop}(h:q)(e:(True→q)→p:=by intro h;simp -implicitDefEqProofs only[go_sem,seval];(repeat refine aJ ?_);exact h trivial):p:=e fun _=>h
theorem aF {p q:Prop}(h:q)(e:(True→q)→p:=by intro h;(repeat refine aI ?_);exact h trivial):p:=e fun _=>h
theorem aE {p q:Prop}(h:q)(e:(True→q)→p:=by intro h;(repeat refine aJ ?_);exact h trivial):p:=e fun _=>h
section
variable {p q A B C D E F G H Z99 Z98 K L M:Prop}
theorem aL (a:A)(h:q)(z:A→p=q:=by intro a;simp -implicitDefEqProofs only[go_sem,seval,a];rfl):p:=z a▸h
theorem d9 (a:A)(b:B)(h:q)(z:A→B→p=q:=by intro a b;simp -implicitDefEqProofs only[go_sem,seval,a,b];rfl):p:=z a b▸h
theorem i9 (a:A)(b:B)(c:C)(h:q)(z:A→B→C→p=q:=by intro a b c;simp -implicitDefEqProofs only[go_sem,seval,a,b,c];rfl):p:=z a b c▸h
theorem sh (a:A)(b:B)(c:C)(d:D)(h:q)(z:A→B→C→D→p=q:=by intro a b c d;simp -implicitDefEqProofs only[go_sem,seval,a,b,c,d];rfl):p:=z a b c d▸h
theorem Nm (a:A)(b:B)(c:C)(d:D)(e:E)(h:q)(z:A→B→C→D→E→p=q:=by intro a b c d e;simp -implicitDefEqProofs only[go_sem,seval,a,b,c,d,e];rfl):p:=z a b c d e▸h
theorem qa5 (a:A)(b:B)(c:C)(d:D)(e:E)(f:F)(h:q)(z:A→B→C→D→E→F→p=q:=by intro a b c d e f;simp -implicitDefEqProofs only[go_sem,seval,a,b,c,d,e,f];rfl):p:=z a b c d e f▸h
theorem qa9 (a:A)(b:B)(c:C)(d:D)(e:E)(f:F)(g:G)(h:q)(z:A→B→C→D→E→F→G→p=q:=by intro a b c d e f g;simp -implicitDefEqProofs only[go_sem,seval,a,b,c,d,e,f,g];rfl):p:=z a b c d e f g▸h
theorem d8 (a:A)(h:q)(z:A→(True→q)→p:=by intro a h;simp -implicitDefEqProofs only[go_sem,seval,a];(repeat refine aI ?_);exact h trivial):p:=z a fun _=>h
theorem i7 (a:A)(b:B)(h:q)(z:A→B→(True→q)→p:=by intro a b h;simp -implicitDefEqProofs only[go_sem,seval,a,b];(repeat refine aI ?_);exact h trivial):p:=z a b fun _=>h
theorem qA (a:A)(b:B)(c:C)(h:q)(z:A→B→C→(True→q)→p:=by intro a b c h;simp -implicitDefEqProofs only[go_sem,seval,a,b,c];(repeat refine aI ?_);exact h trivial):p:=z a b c fun _=>h
theorem Kd (a:A)(b:B)(c:C)(d:D)(h:q)(z:A→B→C→D→(True→q)→p:=by intro a b c d h;simp -implicitDefEqProofs only[go_sem,seval,a,b,c,d];(repeat refine aI ?_);exact h trivial):p:=z a b c d fun _=>h
theorem qa8 (a:A)(b:B)(c:C)(d:D)(e:E)(f:F)(h:q)(z:A→B→C→D→E→F→(True→q)→p:=by intro a b c d e f h;simp -implicitDefEqProofs only[go_sem,seval,a,b,c,d,e,f];(repeat refine aI ?_);exact h trivial):p:=z a b c d e f fun _=>h
theorem dv (h:q)(z:p=q:=by simp -implicitDefEqProofs only[go_sem,seval,decide_false,decide_true,not_true,not_false_eq_true,ne_eq,Bool.not_true,Bool.false_eq_true,false_and,and_false,true_and,List.length_map,List.length_set,Int.toNat_natCast,List.set_set];rfl):p:=z▸h
theorem g9 (a:A)(h:q)(z:A→p=q:=by intro a;simp -implicitDefEqProofs only[go_sem,seval,decide_false,decide_true,not_true,not_false_eq_true,ne_eq,Bool.not_true,Bool.false_eq_true,false_and,and_false,true_and,List.length_map,List.length_set,Int.toNat_natCast,List.set_set,a];rfl):p:=z a▸h
theorem mq (a:A)(b:B)(h:q)(z:A→B→p=q:=by intro a b;simp -implicitDefEqProofs only[go_sem,seval,decide_false,decide_true,not_true,not_false_eq_true,ne_eq,Bool.not_true,Bool.false_eq_true,false_and,and_false,true_and,List.length_map,List.length_set,Int.toNat_natCast,List.set_set,a,b];rfl):p:=z a b▸h
theorem Ft (a:A)(b:B)(c:C)(h:q)(z:A→B→C→p=q:=by intro a b c;simp -implicitDefEqProofs only[go_sem,seval,decide_false,decide_true,not_true,not_false_eq_true,ne_eq,Bool.not_true,Bool.false_eq_true,false_and,and_false,true_and,List.length_map,List.length_set,Int.toNat_natCast,List.set_set,a,b,c];rfl):p:=z a b c▸h
theorem Wk (a:A)(b:B)(c:C)(d:D)(h:q)(z:A→B→C→D→p=q:=by intro a b c d;simp -implicitDefEqProofs only[go_sem,seval,decide_false,decide_true,not_true,not_false_eq_true,ne_eq,Bool.not_true,Bool.false_eq_true,false_and,and_false,true_and,List.length_map,List.length_set,Int.toNat_natCast,List.set_set,a,b,c,d];rfl):p:=z a b c d▸h
theorem qa6 (a:A)(b:B)(c:C)(d:D)(e:E)(h:q)(z:A→B→C→D→E→p=q:=by intro a b c d e;simp -implicitDefEqProofs only[go_sem,seval,decide_false,decide_true,not_true,not_false_eq_true,ne_eq,Bool.not_true,Bool.false_eq_true,false_and,and_false,true_and,List.length_map,List.length_set,Int.toNat_natCast,List.set_set,a,b,c,d,e];rfl):p:=z a b c d e▸h
theorem qb0 (a:A)(b:B)(c:C)(d:D)(e:E)(f:F)(h:q)(z:A→B→C→D→E→F→p=q:=by intro a b c d e f;simp -implicitDefEqProofs only[go_sem,seval,decide_false,decide_true,not_true,not_false_eq_true,ne_eq,Bool.not_true,Bool.false_eq_true,false_and,and_false,true_and,List.length_map,List.length_set,Int.toNat_natCast,List.set_set,a,b,c,d,e,f];rfl):p:=z a b c d e f▸h
theorem i6 (h:q)(z:(True→q)→p:=by intro h;simp -implicitDefEqProofs only[go_sem,seval,decide_false,decide_true,not_true,not_false_eq_true,ne_eq,Bool.not_true,Bool.false_eq_true,false_and,and_false,true_and,List.length_map,List.length_set,Int.toNat_natCast,List.set_set];(repeat refine aI ?_);exact h trivial):p:=z fun _=>h
theorem pL (a:A)(h:q)(z:A→(True→q)→p:=by intro a h;simp -implicitDefEqProofs only[go_sem,seval,decide_false,decide_true,not_true,not_false_eq_true,ne_eq,Bool.not_true,Bool.false_eq_true,false_and,and_false,true_and,List.length_map,List.length_set,Int.toNat_natCast,List.set_set,a];(repeat refine aI ?_);exact h trivial):p:=z a fun _=>h
theorem Gh (a:A)(b:B)(h:q)(z:A→B→(True→q)→p:=by intro a b h;simp -implicitDefEqProofs only[go_sem,seval,decide_false,decide_true,not_true,not_false_eq_true,ne_eq,Bool.not_true,Bool.false_eq_true,false_and,and_false,true_and,List.length_map,List.length_set,Int.toNat_natCast,List.set_set,a,b];(repeat refine aI ?_);exact h trivial):p:=z a b fun _=>h
theorem WT (a:A)(b:B)(c:C)(h:q)(z:A→B→C→(True→q)→p:=by intro a b c h;simp -implicitDefEqProofs only[go_sem,seval,decide_false,decide_true,not_true,not_false_eq_true,ne_eq,Bool.not_true,Bool.false_eq_true,false_and,and_false,true_and,List.length_map,List.length_set,Int.toNat_natCast,List.set_set,a,b,c];(repeat refine aI ?_);exact h trivial):p:=z a b c fun _=>h
theorem qa7 (a:A)(b:B)(c:C)(d:D)(h:q)(z:A→B→C→D→(True→q)→p:=by intro a b c d h;simp -implicitDefEqProofs only[go_sem,seval,decide_false,decide_true,not_true,not_false_eq_true,ne_eq,Bool.not_true,Bool.false_eq_true,false_and,and_false,true_and,List.length_map,List.length_set,Int.toNat_natCast,List.set_set,a,b,c,d];(repeat refine aI ?_);exact h trivial):p:=z a b c d fun _=>h
theorem qb5 (a:A)(b:B)(c:C)(d:D)(e:E)(h:q)(z:A→B→C→D→E→(True→q)→p:=by intro a b c d e h;simp -implicitDefEqProofs only[go_sem,seval,decide_false,decide_true,not_true,not_false_eq_true,ne_eq,Bool.not_true,Bool.false_eq_true,false_and,and_false,true_and,List.length_map,List.length_set,Int.toNat_natCast,List.set_set,a,b,c,d,e];(repeat refine aI ?_);exact h trivial):p:=z a b c d e fun _=>h
theorem qb8 (a:A)(b:B)(c:C)(d:D)(e:E)(f:F)(h:q)(z:A→B→C→D→E→F→(True→q)→p:=by intro a b c d e f h;simp -implicitDefEqProofs only[go_sem,seval,decide_false,decide_true,not_true,not_false_eq_true,ne_eq,Bool.not_true,Bool.false_eq_true,false_and,and_false,true_and,List.length_map,List.length_set,Int.toNat_natCast,List.set_set,a,b,c,d,e,f];(repeat refine aI ?_);exact h trivial):p:=z a b c d e f fun _=>h
theorem qb9 (a:A)(b:B)(c:C)(d:D)(e:E)(f:F)(g:G)(h:q)(z:A→B→C→D→E→F→G→(True→q)→p:=by intro a b c d e f g h;simp -implicitDefEqProofs only[go_sem,seval,decide_false,decide_true,not_true,not_false_eq_true,ne_eq,Bool.not_true,Bool.false_eq_true,false_and,and_false,true_and,List.length_map,List.length_set,Int.toNat_natCast,List.set_set,a,b,c,d,e,f,g];(repeat refine aI ?_);exact h trivial):p:=z a b c d e f g fun _=>h
theorem qc0 (h:q)(z:p=q:=by simp -implicitDefEqProofs only[go_sem,seval,-BitVec.isValue,-List.reduceReplicate,decide_true,decide_false,List.take_of_length_le];rfl):p:=z▸h
theorem qc2 (a:A)(h:q)(z:A→p=q:=by intro a;simp -implicitDefEqProofs only[go_sem,seval,-BitVec.isValue,-List.reduceReplicate,decide_true,decide_false,List.take_of_length_le,a];rfl):p:=z a▸h
theorem qc4 (a:A)(b:B)(h:q)(z:A→B→p=q:=by intro a b;simp -implicitDefEqProofs only[go_sem,seval,-BitVec.isValue,-List.reduceReplicate,decide_true,decide_false,List.take_of_length_le,a,b];rfl):p:=z a b▸h
theorem qc6 (a:A)(b:B)(c:C)(h:q)(z:A→B→C→p=q:=by intro a b c;simp -implicitDefEqProofs only[go_sem,seval,-BitVec.isValue,-List.reduceReplicate,decide_true,decide_false,List.take_of_length_le,a,b,c];rfl):p:=z a b c▸h
theorem qc8 (a:A)(b:B)(c:C)(d:D)(h:q)(z:A→B→C→D→p=q:=by intro a b c d;simp -implicitDefEqProofs only[go_sem,seval,-BitVec.isValue,-List.reduceReplicate,decide_true,decide_false,List.take_of_length_le,a,b,c,d];rfl):p:=z a b c d▸h
theorem qd0 (a:A)(b:B)(c:C)(d:D)(e:E)(h:q)(z:A→B→C→D→E→p=q:=by intro a b c d e;simp -implicitDefEqProofs only[go_sem,seval,-BitVec.isValue,-List.reduceReplicate,decide_true,decide_false,List.take_of_length_le,a,b,c,d,e];rfl):p:=z a b c d e▸h
theorem qd2 (a:A)(b:B)(c:C)(d:D)(e:E)(f:F)(h:q)(z:A→B→C→D→E→F→p=q:=by intro a b c d e f;simp -implicitDefEqProofs only[go_sem,seval,-BitVec.isValue,-List.reduceReplicate,decide_true,decide_false,List.take_of_length_le,a,b,c,d,e,f];rfl):p:=z a b c d e f▸h
theorem qd4 (a:A)(b:B)(c:C)(d:D)(e:E)(f:F)(g:G)(h:q)(z:A→B→C→D→E→F→G→p=q:=by intro a b c d e f g;simp -implicitDefEqProofs only[go_sem,seval,-BitVec.isValue,-List.reduceReplicate,decide_true,decide_false,List.take_of_length_le,a,b,c,d,e,f,g];rfl):p:=z a b c d e f g▸h
theorem qd6 (a:A)(b:B)(c:C)(d:D)(e:E)(f:F)(g:G)(i:H)(h:q)(z:A→B→C→D→E→F→G→H→p=q:=by intro a b c d e f g i;simp -implicitDefEqProofs only[go_sem,seval,-BitVec.isValue,-List.reduceReplicate,decide_true,decide_false,List.take_of_length_le,a,b,c,d,e,f,g,i];rfl):p:=z a b c d e f g i▸h
theorem qe4 (a:A)(b:B)(c:C)(d:D)(e:E)(f:F)(g:G)(i:H)(j:Z99)(h:q)(z:A→B→C→D→E→F→G→H→Z99→p=q:=by intro a b c d e f g i j;simp -implicitDefEqProofs only[go_sem,seval,-BitVec.isValue,-List.reduceReplicate,decide_true,decide_false,List.take_of_length_le,a,b,c,d,e,f,g,i,j];rfl):p:=z a b c d e f g i j▸h
theorem qd8 (a:A)(b:B)(c:C)(d:D)(e:E)(f:F)(g:G)(i:H)(j:Z99)(k:Z98)(h:q)(z:A→B→C→D→E→F→G→H→Z99→Z98→p=q:=by intro a b c d e f g i j k;simp -implicitDefEqProofs only[go_sem,seval,-BitVec.isValue,-List.reduceReplicate,decide_true,decide_false,List.take_of_length_le,a,b,c,d,e,f,g,i,j,k];rfl):p:=z a b c d e f g i j k▸h
theorem qd9 (a:A)(b:B)(c:C)(d:D)(e:E)(f:F)(g:G)(i:H)(j:Z99)(k:Z98)(l:K)(h:q)(z:A→B→C→D→E→F→G→H→Z99→Z98→K→p=q:=by intro a b c d e f g i j k l;simp -implicitDefEqProofs only[go_sem,seval,-BitVec.isValue,-List.reduceReplicate,decide_true,decide_false,List.take_of_length_le,a,b,c,d,e,f,g,i,j,k,l];rfl):p:=z a b c d e f g i j k l▸h
theorem qc1 (h:q)(z:(True→q)→p:=by intro h;simp -implicitDefEqProofs only[go_sem,seval,-BitVec.isValue,-List.reduceReplicate,decide_true,decide_false,List.take_of_length_le];(repeat refine aI ?_);exact h trivial):p:=z fun _=>h
theorem qc3 (a:A)(h:q)(z:A→(True→q)→p:=by intro a h;simp -implicitDefEqProofs only[go_sem,seval,-BitVec.isValue,-List.reduceReplicate,decide_true,decide_false,List.take_of_length_le,a];(repeat refine aI ?_);exact h trivial):p:=z a fun _=>h
theorem qc5 (a:A)(b:B)(h:q)(z:A→B→(True→q)→p:=by intro a b h;simp -implicitDefEqProofs only[go_sem,seval,-BitVec.isValue,-List.reduceReplicate,decide_true,decide_false,List.take_of_length_le,a,b];(repeat refine aI ?_);exact h trivial):p:=z a b fun _=>h
theorem qc7 (a:A)(b:B)(c:C)(h:q)(z:A→B→C→(True→q)→p:=by intro a b c h;simp -implicitDefEqProofs only[go_sem,seval,-BitVec.isValue,-List.reduceReplicate,decide_true,decide_false,List.take_of_length_le,a,b,c];(repeat refine aI ?_);exact h trivial):p:=z a b c fun _=>h
theorem qc9 (a:A)(b:B)(c:C)(d:D)(h:q)(z:A→B→C→D→(True→q)→p:=by intro a b c d h;simp -implicitDefEqProofs only[go_sem,seval,-BitVec.isValue,-List.reduceReplicate,decide_true,decide_false,List.take_of_length_le,a,b,c,d];(repeat refine aI ?_);exact h trivial):p:=z a b c d fun _=>h
theorem qd3 (a:A)(b:B)(c:C)(d:D)(e:E)(f:F)(h:q)(z:A→B→C→D→E→F→(True→q)→p:=by intro a b c d e f h;simp -implicitDefEqProofs only[go_sem,seval,-BitVec.isValue,-List.reduceReplicate,decide_true,decide_false,List.take_of_length_le,a,b,c,d,e,f];(repeat refine aI ?_);exact h trivial):p:=z a b c d e f fun _=>h
end
abbrev Z:=List (BitVec 8)
abbrev aU:=List (Option aa)
abbrev aQ:=BitVec 32
abbrev aS:=BitVec 64
abbrev xU:=@Go.Addr.add_mid
abbrev SV:=@Array.all_eq_true_iff_forall_mem
abbrev Az:=@Array.ext'
abbrev rA:=@Array.getD_eq_getD_getElem?
abbrev BN:=@Array.getElem?_append_left
abbrev uw:=@Array.getElem?_eq_getElem
abbrev IP:=@Array.getElem?_eq_some_iff
abbrev JT:=@Array.getElem?_push
abbrev Ik:=@Array.getElem?_setIfInBounds
abbrev CI:=@Array.length_toList
abbrev J5:=@Array.toList_append
abbrev Bh:=@Array.toList_map
abbrev iU:=@BitVec.eq_of_toNat_eq
abbrev Bz:=@BitVec.lt_def
abbrev JV:=@BitVec.ofInt_add
abbrev G9:=@BitVec.ofInt_natCast
abbrev jL:=@BitVec.toNat_add
abbrev tP:=@BitVec.toNat_and
abbrev Jr:=@BitVec.toNat_eq
abbrev um:=@BitVec.toNat_mul
abbrev rO:=@BitVec.toNat_ofInt
abbrev fL:=@BitVec.toNat_ofNat
abbrev EQ:=@BitVec.toNat_or
abbrev qq:=@BitVec.toNat_setWidth
abbrev Be:=@BitVec.toNat_shiftLeft
abbrev CR:=@BitVec.toNat_sub
abbrev uJ:=@BitVec.toNat_ushiftRight
abbrev lY:=@Bool.and_eq_true
abbrev xg:=@Bool.and_eq_true_iff
abbrev qw:=@Bool.eq_iff_iff
abbrev fh:=@Bool.false_eq_true
abbrev vm:=@Bool.not_eq_true'
abbrev yh:=@Bool.not_false
abbrev oH:=@Bool.not_true
abbrev DW:=@Bool.or_eq_true
abbrev ug:=@Classical.byContradiction
abbrev zD:=@Go.Code.block.injEq
abbrev DS:=@Go.Code.cond.injEq
abbrev y8:=@Go.Code.loop.injEq
abbrev mJ:=@Go.Code.seq.injEq
abbrev xS:=@Int.add_emod
abbrev JQ:=@Int.add_mul_emod_self_left
abbrev C7:=@Int.emod_eq_of_lt
abbrev dY:=@Int.le_refl
abbrev nG:=@Int.le_trans
abbrev EN:=@Int.lt_of_lt_of_le
abbrev AE:=@Int.mul_assoc
abbrev yg:=@Int.mul_comm
abbrev oD:=@Int.mul_emod
abbrev Cz:=@Int.mul_le_mul_of_nonneg_right
abbrev yY:=@Int.natCast_add
abbrev F1:=@Int.natCast_emod
abbrev zL:=@Int.natCast_mul
abbrev sR:=@Int.pow_succ
abbrev BP:=@Int.pow_zero
abbrev AZ:=@Int.sub_emod
abbrev II:=@Int.tmod_eq_emod_of_nonneg
abbrev iG:=@Int.toNat_natCast
abbrev FH:=@List.Nodup.sublist
abbrev EB:=@List.Sublist.map
abbrev sk:=@List.all_eq_true
abbrev hZ:=@List.append_assoc
abbrev jn:=@List.append_nil
abbrev kG:=@List.cons_append
abbrev Ck:=@List.dropWhile_cons
abbrev JL:=@List.drop_append
abbrev l9:=@List.drop_drop
abbrev wA:=@List.drop_eq_getElem_cons
abbrev FE:=@List.drop_eq_nil_of_le
abbrev oI:=@List.drop_left'
abbrev IK:=@List.drop_length
abbrev lP:=@List.drop_of_length_le
abbrev nj:=@List.drop_succ_cons
abbrev AV:=@List.drop_take
abbrev nW:=@List.drop_zero
abbrev M8:=@List.eq_nil_of_length_eq_zero
abbrev C1:=@List.ext_getElem
abbrev wG:=@List.ext_getElem?
abbrev He:=@List.filter_congr
abbrev zA:=@List.filter_cons
abbrev Dj:=@List.filter_sublist
abbrev ub:=@List.findIdx?_eq_some_iff_getElem
abbrev Ia:=@List.flatten_append
abbrev wT:=@List.flatten_cons
abbrev Jm:=@List.foldl_append
abbrev J1:=@List.foldl_cons
abbrev vO:=@List.forall_mem_cons
abbrev iK:=@List.forall_mem_nil
abbrev vi:=@List.getD_cons_succ
abbrev vr:=@List.getD_cons_zero
abbrev bY:=@List.getD_eq_getElem?_getD
abbrev kY:=@List.getElem?_append_left
abbrev iy:=@List.getElem?_append_right
abbrev nF:=@List.getElem?_cons_succ
abbrev p9:=@List.getElem?_cons_zero
abbrev mA:=@List.getElem?_drop
abbrev bn:=@List.getElem?_eq_getElem
abbrev iW:=@List.getElem?_eq_none
abbrev cA:=@List.getElem?_eq_some_iff
abbrev dU:=@List.getElem?_map
abbrev tS:=@List.getElem?_range
abbrev Bd:=@List.getElem?_set
abbrev mV:=@List.getElem?_set_ne
abbrev kF:=@List.getElem?_set_self
abbrev uE:=@List.getElem?_take
abbrev xX:=@List.getElem?_take_of_lt
abbrev yv:=@List.getElem?_toArray
abbrev v7:=@List.getElem?_zipWith
abbrev I4:=@List.getElem?_zip_eq_some
abbrev Bg:=@List.getElem_append_left
abbrev AY:=@List.getElem_append_right
abbrev GZ:=@List.getElem_cons_zero
abbrev GR:=@List.getElem_inj
abbrev wq:=@List.getElem_map
abbrev eM:=@List.getElem_mem
abbrev lr:=@List.getElem_of_mem
abbrev vS:=@List.getElem_set_ne
abbrev uO:=@List.getElem_set_self
abbrev bA:=@List.length_append
abbrev dM:=@List.length_cons
abbrev dO:=@List.length_drop
abbrev nK:=@List.length_eq_zero_iff
abbrev FZ:=@List.length_eraseIdx_of_lt
abbrev cq:=@List.length_map
abbrev lq:=@List.length_nil
abbrev uS:=@List.length_pos_iff
abbrev CO:=@List.length_range
abbrev kV:=@List.length_replicate
abbrev b7:=@List.length_set
abbrev vY:=@List.length_singleton
abbrev cF:=@List.length_take
abbrev GH:=@List.length_zipWith
abbrev lw:=@List.map_append
abbrev sJ:=@List.map_congr_left
abbrev dD:=@List.map_cons
abbrev ve:=@List.map_drop
abbrev zM:=@List.map_id
abbrev pQ:=@List.map_map
abbrev gi:=@List.map_nil
abbrev wm:=@List.map_set
abbrev sS:=@List.map_take
abbrev gZ:=@List.mem_append
abbrev zr:=@List.mem_append_left
abbrev Db:=@List.mem_append_right
abbrev gz:=@List.mem_cons
abbrev mr:=@List.mem_cons_of_mem
abbrev pA:=@List.mem_cons_self
abbrev qc:=@List.mem_filter
abbrev Cj:=@List.mem_iff_getElem
abbrev eZ:=@List.mem_map
abbrev lm:=@List.mem_of_getElem?
abbrev HJ:=@List.mem_of_mem_drop
abbrev JC:=@List.mem_of_mem_eraseIdx
abbrev F3:=@List.mem_of_mem_take
abbrev Fz:=@List.mem_or_eq_of_mem_set
abbrev Gd:=@List.mem_range
abbrev wW:=@List.mem_range'_1
abbrev oQ:=@List.mem_singleton
abbrev Gs:=@List.mem_zipIdx_iff_getElem?
abbrev iY:=@List.nil_append
abbrev IA:=@List.nodup_append
abbrev yW:=@List.nodup_cons
abbrev xA:=@List.not_mem_nil
abbrev vZ:=@List.replicate_succ
abbrev FG:=@List.set_append_left
abbrev uD:=@List.set_append_right
abbrev xo:=@List.set_cons_succ
abbrev lF:=@List.set_cons_zero
abbrev G7:=@List.set_getElem_self
abbrev nC:=@List.set_set
abbrev yr:=@List.take_append_drop
abbrev CB:=@List.take_append_of_le_length
abbrev mW:=@List.take_left'
abbrev oR:=@List.take_length
abbrev bq:=@List.take_of_length_le
abbrev eU:=@List.take_succ_cons
abbrev uV:=@List.take_succ_eq_append_getElem
abbrev wO:=@List.take_take
abbrev iX:=@List.take_zero
abbrev qe:=@Nat.add_assoc
abbrev CF:=@Nat.add_comm
abbrev As:=@Nat.add_mul
abbrev xY:=@Nat.add_mul_mod_self_left
abbrev D5:=@Nat.add_sub_cancel
abbrev nJ:=@Nat.add_zero
abbrev xk:=@Nat.and_two_pow_sub_one_eq_mod
abbrev rJ:=@Nat.div_div_eq_div_mul
abbrev Fj:=@Nat.div_eq_of_lt
abbrev Dg:=@Nat.div_lt_of_lt_mul
abbrev zt:=@Nat.div_one
abbrev ut:=@Nat.le_add_right
abbrev bz:=@Nat.le_refl
abbrev rI:=@Nat.le_succ
abbrev xt:=@Nat.le_succ_of_le
abbrev j7:=@Nat.le_trans
abbrev DU:=@Nat.lt_irrefl
abbrev xr:=@Nat.lt_of_le_of_lt
abbrev pI:=@Nat.lt_of_lt_of_le
abbrev Hh:=@Nat.lt_succ_self
abbrev JJ:=@Nat.lt_trichotomy
abbrev lH:=@Nat.min_eq_left
abbrev uj:=@Nat.min_eq_right
abbrev lk:=@Nat.mod_eq_of_lt
abbrev AH:=@Nat.mod_lt
abbrev Cb:=@Nat.mod_mul
abbrev qQ:=@Nat.mul_add
abbrev uz:=@Nat.mul_assoc
abbrev og:=@Nat.mul_comm
abbrev uK:=@Nat.mul_le_mul
abbrev EY:=@Nat.mul_le_mul_right
abbrev KR:=@Nat.mul_left_comm
abbrev Hy:=@Nat.mul_lt_mul''
abbrev EU:=@Nat.mul_mod
abbrev BC:=@Nat.ne_of_lt
abbrev vP:=@Nat.pow_add
abbrev Cq:=@Nat.pow_le_pow_right
abbrev nA:=@Nat.pow_succ
abbrev Ea:=@Nat.pow_zero
abbrev Ak:=@Nat.shiftLeft_eq
abbrev tI:=@Nat.shiftRight_eq_div_pow
abbrev k8:=@Nat.sub_self
abbrev KB:=@Nat.two_pow_add_eq_or_of_lt
abbrev eX:=@Nat.zero_add
abbrev lI:=@Nat.zero_le
abbrev BO:=@Go.Oper.upon_enter
abbrev wQ:=@Go.Oper.upon_value
abbrev uN:=@Option.getD_some
abbrev wn:=@Option.isSome_iff_exists
abbrev CS:=@Option.isSome_none
abbrev yM:=@Option.isSome_some
abbrev yy:=@Option.map_eq_some_iff
abbrev xb:=@Option.map_none
abbrev ou:=@Option.map_some
abbrev nc:=@Option.some.inj
abbrev eg:=@Option.some.injEq
abbrev lW:=@Prod.mk.injEq
abbrev eQ:=@Go.Result.andThen_ok
abbrev dx:=@Go.Sem.run_bind
abbrev dI:=@Go.Sem.run_pure
abbrev SA:=@Std.Legacy.Range.forIn_eq_forIn_range'
abbrev Ek:=@Go.World.block_lt_of_cell?
abbrev x9:=@Go.World.cell?_of_block
abbrev FJ:=@Go.World.cell?_setCells_out
abbrev yA:=@Go.World.frozen?_of_block
abbrev E5:=@Go.World.frozen?_setCells
abbrev vo:=@and_false
abbrev gG:=@and_true
abbrev Br:=@beq_iff_eq
abbrev dN:=@congrArg
abbrev oZ:=@decide_eq_false
abbrev nX:=@decide_eq_true
abbrev AG:=@decide_eq_true_eq
abbrev Fm:=@decide_eq_true_iff
abbrev cr:=@decide_false
abbrev cE:=@decide_true
abbrev nY:=@eq_false
abbrev gg:=@eq_true
abbrev tv:=@false_and
abbrev Ep:=@false_implies
abbrev fH:=@if_false
abbrev aq:=@if_neg
abbrev aM:=@if_pos
abbrev eJ:=@if_true
abbrev ED:=@implies_true
abbrev ic:=@ne_eq
abbrev kJ:=@not_false_eq_true
abbrev gD:=@not_true
abbrev yH:=@not_true_eq_false
abbrev yZ:=@of_decide_eq_true
abbrev HE:=@Go.run_storeCells_cells
abbrev dS:=@Go.run_underlying
abbrev qV:=@true_and
abbrev DL:=@Go.wp_cond_split
abbrev ni:=@Go.wp_mono
abbrev zI:=@Go.wp_region
abbrev rm:=@Go.wp_seq
end Go.Vm
end
section
namespace Go.Vm
section
def bh (n:Int):Int:=IntKind.i64.wrap n
theorem bC {n:Int}(h1:-9223372036854775808<=n)(h2:n<=9223372036854775807):bh n=n:=by
 unfold bh IntKind.wrap;have e:(2:Int)^IntKind.i64.bits=18446744073709551616:=ag;have a:(2:Int)^(IntKind.i64.bits-1)=9223372036854775808:=ag;simp only[e,a];by_cases h:n%18446744073709551616≥9223372036854775808
 .rw[aM (by simp[IntKind.signed];omega)];omega
 .rw[aq (by simp[IntKind.signed];omega)];omega
def vk (a:Int)(n:Nat):Int:=bh (a*2^(min n 64))
def Pz (a:Int)(n:Nat):Int:=a.fdiv (2^(min n 64))
def aet (a b:Int):Int:=bh (BitVec.ofInt 64 a&&&BitVec.ofInt 64 b).toNat
def aca (a b:Int):Int:=bh (BitVec.ofInt 64 a|||BitVec.ofInt 64 b).toNat
def X1 (a b:Int):Int:=bh (BitVec.ofInt 64 a ^^^ BitVec.ofInt 64 b).toNat
def gk (k:aQ):List (Nat×aQ×Int)->Option Int
 |[]=>none
 |e::l=>if e.2.1=k then some e.2.2 else gk k l
def pH (k:aQ)(n:Int):List (Nat×aQ×Int)->List (Nat×aQ×Int)
 |[]=>[]
 |e::l=>if e.2.1=k then(e.1,k,n)::l else e::pH k n l
def rM (k:aQ):List (Nat×aQ×Int)->List (Nat×aQ×Int)
 |[]=>[]
 |e::l=>if e.2.1=k then l else e::rM k l
def aV.set (m:aV)(k:aQ)(n:Int):aV:=if(gk k m.es).isSome=true then⟨pH k n m.es,m.clock⟩ else⟨m.es++[(m.clock,k,n)],m.clock+1⟩
def pk (x y:Int):aQ:=BitVec.ofNat 32 (x.toNat*65536+y.toNat)
def aV.Cp (m:aV)(k:aQ)(n:Int):aV:=⟨AT::(aV.set ⟨m.es.tail,m.clock⟩ k n).es,(aV.set ⟨m.es.tail,m.clock⟩ k n).clock⟩
def aV.del (m:aV)(k:aQ):aV:=⟨rM k m.es,m.clock⟩
structure bu where
 v:V
 pre:Prop:=True
 fp:List Nat:=[]
 old:List (Nat×Option aa):=[]
 news:aU:=[]
def ofValue:Value->V
 | .bool b=> .bool b
 | .int .u8 n=>if 0<=n/\n<256 then .u8 (BitVec.ofInt 8 n) else .bH
 | .int .u32 n=>if 0<=n/\n<4294967296 then .u32 (BitVec.ofInt 32 n) else .bH
 | .int .u64 n=>if 0<=n/\n<18446744073709551616 then .u64 (BitVec.ofInt 64 n) else .bH
 | .int .i64 n=> .i64 n
 | .int .i32 n=> .i32 n
 | .string s=> .str (bytesOf s)
 | .pointer none=> .nilPtr
 | .slice none 0 0=> .bG
 | .nilFunc=> .ff
 | .nilIface=> .nilIface
 |_=> .bH
section
variable (P:Program)
def bU (t:TypeId):Option Nat:=(P.info? t).map (·.size)
def qM (t:TypeId):Option Nat:=(P.info? t).map (·.bytes)
def dz (t:TypeId):Option (List V):=(P.info? t).bind fun i=>i.zero.map fun z=>z.cells.toList.map ofValue
def cL (t:TypeId):Option Bool:=(P.underlying t).map fun | .struct _=>true| .array _ _=>true|_=>false
def bR (t:TypeId)(f:Nat):Option (Nat×TypeId):=match P.underlying t with
 |some (.struct a)=>match a[f]? with
  |some x=>some (x.offset,x.type)
  |none=>none
 |_=>none
def nf (t:TypeId):Option TypeId:=match P.underlying t with
 |some (.slice e)=>some e
 |_=>none
def xM (t:TypeId):Bool:=match P.underlying t with
 |some (.map k e)=>(match P.underlying k with|some (.int .u32)=>true|_=>false)&&(match (P.info? e).bind (·.zero) with|some (.int .i64 0)=>true|_=>false)
 |_=>false
def JU (k:TypeId):Bool:=match P.underlying k with
 |some (.array 2 b)=>(match P.underlying b with|some (.int .i64)=>true|_=>false)&&(match (P.info? b).map (·.size) with|some 1=>true|_=>false)
 |_=>false
def BH (t:TypeId):Bool:=match P.underlying t with
 |some (.map k e)=>JU P k&&(match (P.info? e).bind (·.zero) with|some (.int .i64 0)=>true|_=>false)
 |_=>false
def CC (t:TypeId):Option (Nat×TypeId):=match P.underlying t with
 |some (.array n e)=>some (n,e)
 |_=>none
end
def V.one:V->Bool
 | .bH| .iV _ _ _| .agg _| .aZ _=>false
 |_=>true
def V.cells:V->List V
 | .agg a=>a
 |v=>[v]
def wH {n:Nat}(mk:BitVec n->V)(op:BinOp)(x y:BitVec n):Option bu:=
 match op with
 | .add=>some {v:=mk (x+y)}
 | .sub=>some {v:=mk (x-y)}
 | .mul=>some {v:=mk (x*y)}
 | .quo=>some {v:=mk (x/y),pre:=y≠0}
 | .rem=>some {v:=mk (x%y),pre:=y≠0}
 | .and=>some {v:=mk (x&&&y)}
 | .or=>some {v:=mk (x|||y)}
 | .xor=>some {v:=mk (x ^^^ y)}
 | .andNot=>some {v:=mk (x&&&~~~y)}
 | .eql=>some {v:= .bool (decide (x=y))}
 | .neq=>some {v:= .bool (decide (x≠y))}
 | .lss=>some {v:= .bool (decide (x<y))}
 | .leq=>some {v:= .bool (decide (x<=y))}
 | .gtr=>some {v:= .bool (decide (y<x))}
 | .geq=>some {v:= .bool (decide (y<=x))}
 |_=>none
def FD (mk:Int->V)(w:Int->Int)(op:BinOp)(x y:Int):Option bu:=
 match op with
 | .add=>some {v:=mk (w (x+y))}
 | .sub=>some {v:=mk (w (x-y))}
 | .mul=>some {v:=mk (w (x*y))}
 | .quo=>some {v:=mk (w (x.tdiv y)),pre:=y≠0}
 | .rem=>some {v:=mk (x.tmod y),pre:=y≠0}
 | .eql=>some {v:= .bool (decide (x=y))}
 | .neq=>some {v:= .bool (decide (x≠y))}
 | .lss=>some {v:= .bool (decide (x<y))}
 | .leq=>some {v:= .bool (decide (x<=y))}
 | .gtr=>some {v:= .bool (decide (y<x))}
 | .geq=>some {v:= .bool (decide (y<=x))}
 |_=>none
def zF (op:BinOp)(x y:Int):Option bu:=
 match op with
 | .and=>some {v:= .i64 (aet x y)}
 | .or=>some {v:= .i64 (aca x y)}
 | .xor=>some {v:= .i64 (X1 x y)}
 |op=>FD .i64 bh op x y
def yI (op:BinOp)(x y:Z):Option bu:=
 match op with
 | .add=>some {v:= .str (x++y),pre:=x.length+y.length<=4611686018427387904}
 | .eql=>some {v:= .bool (decide (x=y))}
 | .neq=>some {v:= .bool (decide (x≠y))}
 |_=>none
def Cn:V->Option (Nat×Prop)
 | .u8 x=>some (x.toNat,True)
 | .u32 x=>some (x.toNat,True)
 | .u64 x=>some (x.toNat,True)
 | .i64 n=>some (n.toNat,0<=n)
 |_=>none
def yw (op:BinOp)(x:V)(n:Nat)(pre:Prop):Option bu:=
 match op,x with
 | .shl,.u8 x=>some {v:= .u8 (x<<<n),pre:=pre}
 | .shl,.u32 x=>some {v:= .u32 (x<<<n),pre:=pre}
 | .shl,.u64 x=>some {v:= .u64 (x<<<n),pre:=pre}
 | .shl,.i64 x=>some {v:= .i64 (vk x n),pre:=pre}
 | .shr,.u8 x=>some {v:= .u8 (x>>>n),pre:=pre}
 | .shr,.u32 x=>some {v:= .u32 (x>>>n),pre:=pre}
 | .shr,.u64 x=>some {v:= .u64 (x>>>n),pre:=pre}
 | .shr,.i64 x=>some {v:= .i64 (Pz x n),pre:=pre}
 |_,_=>none
def wE:V->Option Bool
 | .nilPtr| .bG| .ff| .nilIface=>some true
 | .ptr _ _| .slice _ _ _ _| .fn _ _ _| .iface _ _=>some false
 |_=>none
def DM (P:Program)(t:TypeId)(x y:V):Bool:=match P.underlying t,x,y with
 |some (.pointer _),.nilPtr,.nilPtr|some (.pointer _),.ptr _ _,.nilPtr|some (.pointer _),.nilPtr,.ptr _ _=>true
 |some (.slice _),.bG,.bG|some (.slice _),.slice _ _ _ _,.bG|some (.slice _),.bG,.slice _ _ _ _=>true
 |some (.func _ _ _),.ff,.ff|some (.func _ _ _),.fn _ _ _,.ff|some (.func _ _ _),.ff,.fn _ _ _=>true
 |some (.interface _),.iface _ _,.nilIface|some (.interface _),.nilIface,.iface _ _=>true
 |_,_,_=>false
def V.Fx:V->V->Option Bool
 | .u8 x,.u8 y=>some (decide (x=y))
 | .u32 x,.u32 y=>some (decide (x=y))
 | .u64 x,.u64 y=>some (decide (x=y))
 | .i64 x,.i64 y=>some (decide (x=y))
 | .i32 x,.i32 y=>some (decide (x=y))
 | .bool x,.bool y=>some (decide (x=y))
 | .str x,.str y=>some (decide (x=y))
 |_,_=>none
def v8 (P:Program)(t:TypeId)(x:V):Bool:=match P.underlying t,x with
 |some (.int _),.u8 _|some (.int _),.u32 _|some (.int _),.u64 _|some (.int _),.i64 _|some (.int _),.i32 _=>true
 |some .bool,.bool _|some .string,.str _=>true
 |_,_=>false
def FU:List Field→Nat→Bool
 |[],_=>true
 |f::fs,i=>f.offset==i&&f.name != "_"&&FU fs (i+1)
def EZ (P:Program)(rec:TypeId→Option (List TypeId)):List Field→Nat→Option (List TypeId)
 |[],_=>some []
 |f::fs,i=>if(f.offset==i&&f.name != "_")=true then match rec f.type with
   |some l=>if bU P f.type=some l.length then(EZ P rec fs (i+l.length)).map (l++·) else none
   |none=>none
  else none
def BL (P:Program):Nat->TypeId->Option (List TypeId)
 |0,_=>none
 |d+1,t=>match P.underlying t with
  |some (.struct a)=>if P.stoodInHeld t=true then none else EZ P (BL P d) a.toList 0
  |some (.array _ _)=>none
  |_=>if bU P t=some 1 then some [t] else none
def HC (P:Program)(t:TypeId):Option (List TypeId):=match P.underlying t with
 |some (.struct d)=>if FU d.toList 0&&! P.stoodInHeld t&&! P.eqGuardType P.depth t then some (d.toList.map (·.type)) else
   if P.eqGuardType P.depth t=true then none else match BL P 4 t with
    |some l=>if bU P t=some l.length then some l else none
    |none=>none
 |some (.array n e)=>if bU P e==some 1&&! P.eqGuardType P.depth t then some (List.replicate n e) else none
 |_=>none
def gF (P:Program):List TypeId->List V->List V->Option Bool
 |[],[],[]=>some true
 |t::d,x::e,y::f=>if v8 P t x then match x.Fx y,gF P d e f with
  |some a,some b=>some (a&&b)
  |_,_=>none
  else none
 |_,_,_=>none
def zm (P:Program)(op:BinOp)(t:TypeId)(x y:V):Option bu:=
 match op with
 | .shl| .shr=>match Cn y with
  |some (n,c)=>yw op x n c
  |none=>none
 |_=>match x,y with
  | .u8 x,.u8 y=>wH .u8 op x y
  | .u32 x,.u32 y=>wH .u32 op x y
  | .u64 x,.u64 y=>wH .u64 op x y
  | .i64 x,.i64 y=>zF op x y
  | .str x,.str y=>yI op x y
  | .i32 x,.i32 y=>match op with
   | .eql=>some {v:= .bool (decide (x=y))}
   | .neq=>some {v:= .bool (decide (x≠y))}
   | .sub=>some {v:= .i32 (IntKind.i32.wrap (x-y))}
   |_=>none
  | .bool x,.bool y=>if v8 P t (.bool x) then match op with
   | .eql=>some {v:= .bool (decide (x=y))}
   | .neq=>some {v:= .bool (! decide (x=y))}
   |_=>none
   else none
  | .agg d,.agg e=>match HC P t with
   |some a=>match gF P a d e with
    |some b=>match op with
     | .eql=>some {v:= .bool b}
     | .neq=>some {v:= .bool (! b)}
     |_=>none
    |none=>none
   |none=>none
  |x,y=>if DM P t x y then match op with
   | .eql=>some {v:= .bool (wE x==wE y)}
   | .neq=>some {v:= .bool (!(wE x==wE y))}
   |_=>none
   else none
def dg (P:Program)(t:TypeId):Option aV:=match dz P t with
 |some [.nilPtr,.i64 _,.u32 _,.u32 _]=>some ⟨[],0⟩
 |_=>none
def Du (P:Program)(op:BinOp)(t:TypeId)(b o d f:Nat)(get:Nat->Option aa):Option bu:=match P.underlying t,get b,get d with
 |some (.pointer e),some ⟨false,c::i,some _⟩,some ⟨false,h::g,some _⟩=>match bU P e with
  |some (_+1)=>match op with
   | .eql=>some {v:= .bool (decide (b=d/\o=f)),fp:=[b,d]}
   | .neq=>some {v:= .bool (! decide (b=d/\o=f)),fp:=[b,d]}
   |_=>none
  |_=>none
 |_,_,_=>none
def wj (P:Program)(op:BinOp)(t:TypeId)(x y:V)(get:Nat->Option aa):Option bu:=match x,y with
 | .ptr b o,.ptr a c=>Du P op t b o a c get
 |x,y=>zm P op t x y
def xN (op:UnOp)(x:V):Option bu:=
 match op,x with
 | .not,.bool b=>some {v:= .bool (! b)}
 | .neg,.u8 x=>some {v:= .u8 (-x)}
 | .neg,.u32 x=>some {v:= .u32 (-x)}
 | .neg,.u64 x=>some {v:= .u64 (-x)}
 | .neg,.i64 n=>some {v:= .i64 (bh (0-n))}
 | .xor,.u8 x=>some {v:= .u8 (~~~x)}
 | .xor,.u32 x=>some {v:= .u32 (~~~x)}
 | .xor,.u64 x=>some {v:= .u64 (~~~x)}
 |_,_=>none
def DO (k:IntKind)(x:V):Option V:=
 match k,x with
 | .u8,.u8 x=>some (.u8 x)
 | .u8,.u32 x=>some (.u8 (x.setWidth 8))
 | .u8,.u64 x=>some (.u8 (x.setWidth 8))
 | .u8,.i64 n=>some (.u8 (BitVec.ofInt 8 n))
 | .u32,.u8 x=>some (.u32 (x.setWidth 32))
 | .u32,.u32 x=>some (.u32 x)
 | .u32,.u64 x=>some (.u32 (x.setWidth 32))
 | .u32,.i64 n=>some (.u32 (BitVec.ofInt 32 n))
 | .u64,.u8 x=>some (.u64 (x.setWidth 64))
 | .u64,.u32 x=>some (.u64 (x.setWidth 64))
 | .u64,.u64 x=>some (.u64 x)
 | .u64,.i64 n=>some (.u64 (BitVec.ofInt 64 n))
 | .i64,.u8 x=>some (.i64 x.toNat)
 | .i64,.u32 x=>some (.i64 x.toNat)
 | .i64,.u64 x=>some (.i64 (bh x.toNat))
 | .i64,.i64 n=>some (.i64 (bh n))
 | .i64,.i32 n=>some (.i64 (bh n))
 |_,_=>none
def V.byte:V->BitVec 8
 | .u8 x=>x
 |_=>0
def yU (P:Program)(s d:TypeId)(x:V)(get:Nat->Option aa)(nid:Nat):Option bu:=
 match P.underlying s,P.underlying d,x with
 |some (.int _),some (.int k),x=>(DO k x).map fun v=>{v}
 |some .string,some .string,.str b=>some {v:= .str b}
 |some .string,some (.slice e),.str b=>match P.underlying e with
  |some (.int .u8)=>some {v:= .slice nid 0 b.length 1,pre:=b.length<=4611686018427387904,news:=[bK (b.map .u8)]}
  |_=>none
 |some (.slice e),some .string,.bG=>match P.underlying e with
  |some (.int .u8)=>some {v:= .str []}
  |_=>none
 |some (.slice e),some .string,.slice b o a 1=>match P.underlying e,get b with
  |some (.int .u8),some B=>some {v:= .str (((B.cs.drop o).take a).map V.byte),pre:=o+a<=B.cs.length/\∀ v∈(B.cs.drop o).take a,∃ x,v= .u8 x,fp:=[b]}
  |_,_=>none
 |_,_,_=>none
def V.nat?:V->Option Int
 | .u8 x=>some x.toNat
 | .u32 x=>some x.toNat
 | .u64 x=>some x.toNat
 | .i64 n=>some n
 | .i32 n=>some n
 |_=>none
def n9 (z:List V):Nat->List V
 |0=>[]
 |n+1=>z++n9 z n
def cC (cs:List V)(o:Nat)(xs:List V):List V:=match xs with
 |[x]=>cs.set o x
 |xs=>cs.take o++xs++cs.drop (o+xs.length)
def V.tN:V->Bool
 | .bH| .iV _ _ _| .aZ _=>false
 |_=>true
def qx (b:Nat->Option (Nat×Nat))(cells:List V):List (Nat×V)->Option (List V)
 |[]=>some cells
 |(i,v)::d=>match b i with
  |none=>none
  |some (e,c)=>if v.tN=true/\v.cells.length=c/\e+c<=cells.length then qx b (cC cells e v.cells) d else none
def dL (P:Program)(t:TypeId):Option (List V×(List (Nat×Nat) ⊕ Nat)):=match dz P t,P.underlying t with
 |some z,some (.struct h)=>(h.toList.mapM (fun f=>(P.info? f.type).map fun i=>(f.offset,i.size))).map fun g=>(z,.inl g)
 |some z,some (.array _ e)=>(bU P e).map fun s=>(z,.inr s)
 |_,_=>none
def rU:Option V->Option Int
 |none=>some 0
 |some v=>v.nat?
def sH (d:Nat):Option V->Option Int
 |none=>some d
 |some v=>v.nat?
def mD (get:Nat->Option aa):V->Option (Nat×List V×Prop×List Nat)
 | .bG=>some (0,[],True,[])
 | .str s=>some (s.length,s.map .u8,True,[])
 | .slice b o e c=>match get b with
  |some B=>some (e,(B.cs.drop o).take (e*c),o+e*c<=B.cs.length,[b])
  |none=>none
 |_=>none
def qm:V->Bool
 | .str _=>true
 |_=>false
def ql (s:Nat):V->Bool
 | .slice _ _ _ a=>a==s
 | .bG=>true
 | .str _=>s==1
 |_=>false
def Ai (P:Program)(tx:TypeId)(y:V):Bool:=match P.underlying tx,y with
 |some (.slice _),.str _=>false
 |some (.slice _),_=>true
 |some .string,.str _=>true
 |_,_=>false
def nM (n m c a:Nat)(x:V)(xs ys:List V)(p q:Prop)(f g:List Nat)(get:Nat->Option aa)(nid:Nat):bu:=
 if m=0 then {v:=x,pre:=q,fp:=f++g}
 else {
  v:= .slice nid 0 (n+m) c
  pre:=p/\q/\((n+m)+(n+m)/4+192)*a<=281474976710656/\n+m<=281474976710656/\(∀ u∈ys,u.one=true)/\ys.length=m*c/\(∀ b∈f,∃ d,get b=bK d)
  fp:=f++g
  old:=f.map fun b=>(b,none)
  news:=[bK (xs++ys)]}
def vt (P:Program)(b:Builtin)(c:List TypeId)(args:List V)(get:Nat->Option aa)(nid:Nat):Option bu:=
 match b,c,args with
 | .len,[t],[x]=>match P.underlying t,x with
  |some .string,.str s=>some {v:= .i64 s.length}
  |some (.array n _),_=>some {v:= .i64 n}
  |some (.slice _),.slice _ _ len _=>some {v:= .i64 len}
  |some (.slice _),.bG=>some {v:= .i64 0}
  |some (.map _ _),.map b=>match get b with
   |some ⟨_,[],some m⟩=>some {v:= .i64 m.es.length,pre:=m.plain,fp:=[b]}
   |_=>none
  |_,_=>none
 | .delete,[t,_],[x,y]=>match xM P t,x,y with
  |true,.map b,.u32 k=>match get b with
   |some ⟨false,[],some m⟩=>some {v:= .aZ [],pre:=m.plain,fp:=[b],old:=[(b,some ⟨false,[],some (m.del k)⟩)]}
   |_=>none
  |_,_,_=>none
 | .min,_,[.i64 x,.i64 y]=>some {v:= .i64 (if y<x then y else x)}
 | .max,_,[.i64 x,.i64 y]=>some {v:= .i64 (if y>x then y else x)}
 | .append,[t,l],[x,y]=>match nf P t,mD get x,mD get y with
  |some e,some (n,r,p,f),some (m,i,q,g)=>match bU P e,qM P e,dz P e with
   |some a,some d,some z=>if z.length=a/\0<a/\qm x=false/\ql a x=true/\ql a y=true/\Ai P l y=true then
     some (nM n m a d x r i p q f g get nid) else none
   |_,_,_=>none
  |_,_,_=>none
 | .copy,[t,_],[x,y]=>match nf P t,x,mD get y with
  |some e,.slice b o len h,some (m,i,q,g)=>match bU P e,get b with
   |some a,some ⟨false,j,none⟩=>if a=1/\h=1/\ql 1 y=true then
     some {v:= .i64 (min m len:Nat),pre:=q/\o+len<=j.length/\i.length=m/\(∀ u∈i,u.one=true),fp:=b::g,old:=[(b,bK (cC j o (i.take (min m len))))]} else none
   |_,_=>none
  |_,_,_=>none
 |_,_,_=>none
def kr (P:Program)(t:TypeId)(name:String):Option FuncId:=match P.info? t,P.underlying t with
 |some i,some d=>match i.methods.find? (·.name==name) with
  |some m=>if m.path.isEmpty=true then(match m.func,d with
   |some (f,true),.pointer _=>some f
   |some (_,true),_=>none
   |some (_,false),.pointer _=>none
   |some (f,false),_=>some f
   |none,_=>none) else none
  |none=>none
 |_,_=>none
def E1 (P:Program)(t:TypeId):Bool:=match P.underlying t with
 |some (.interface _)=>false
 |some _=>true
 |none=>false
def dK (P:Program)(o:Op)(ev:Operand->V)(get:Nat->Option aa)(nid:Nat):Option bu:=
 match o with
 | .move x| .assign x=>some {v:=ev x}
 | .pick c a b=>match ev c with
  | .bool c=>some {v:=if c then ev a else ev b}
  |_=>none
 | .alloc e=>match dz P e with
  |some z=>some {v:= .ptr nid 0,news:=[some ⟨false,z,dg P e⟩]}
  |none=>none
 | .box t x=>match dg P t with
  |none=>match ev x with
   | .bH| .iV _ _ _| .aZ _=>none
   |v=>some {v:= .ptr nid 0,news:=[bK (v.cells)]}
  |some m=>match ev x with
   | .agg (c::cs)=>some {v:= .ptr nid 0,news:=[some ⟨false,c::cs,some m⟩]}
   |_=>none
 | .build t C=>match dL P t with
  |some (z,.inl L)=>(qx (fun i=>L[i]?) z (C.toList.map fun x=>(x.1,ev x.2))).map fun cs=>{v:= .agg cs}
  |some (z,.inr s)=>(qx (fun i=>some (i*s,s)) z (C.toList.map fun x=>(x.1,ev x.2))).map fun cs=>{v:= .agg cs}
  |none=>none
 | .buildSlice t A C=>match nf P t with
  |some e=>match bU P e,dz P e with
   |some s,some z=>if z.length=s/\0<s/\A*s<=1048576 then(qx (fun i=>some (i*s,s)) (n9 z A) (C.toList.map fun x=>(x.1,ev x.2))).map fun cs=>
     {v:= .slice nid 0 A s,news:=[bK cs]} else none
   |_,_=>none
  |none=>none
 | .load t a=>match ev a with
  | .ptr b o=>match get b,cL P t,bU P t with
   |some B,some true,some s=>some {v:= .agg ((B.cs.drop o).take s),pre:=o+s<=B.cs.length,fp:=[b]}
   |some B,some false,some _=>some {v:=B.cs.getD o .bH,pre:=o<B.cs.length,fp:=[b]}
   |_,_,_=>none
  |_=>none
 | .store t a x=>match ev a with
  | .ptr b o=>match get b,bU P t with
   |some ⟨false,cs,none⟩,some s=>if(ev x).cells.length=s then
     some {v:= .bH,pre:=o+s<=cs.length/\∀ u∈(ev x).cells,u.one=true,fp:=[b],old:=[(b,bK (cC cs o (ev x).cells))]} else none
   |some ⟨false,c::cs,some m⟩,some s=>if(ev x).cells.length=s then
     some {v:= .bH,pre:=o+s<=(c::cs).length/\∀ u∈(ev x).cells,u.one=true,fp:=[b],old:=[(b,some ⟨false,cC (c::cs) o (ev x).cells,some m⟩)]} else none
   |_,_=>none
  |_=>none
 | .nilCheck x=>match ev x with
  | .ptr b o=>some {v:= .ptr b o}
  | .fn f a c=>some {v:= .fn f a c}
  | .iV p t v=>if(kr P t p).isSome=true then some {v:= .iV p t v} else none
  | .iface t v=>some {v:= .iface t v}
  |_=>none
 | .binOp G t x y _=>wj P G t (ev x) (ev y) get
 | .unOp G _ x=>xN G (ev x)
 | .makeMap t none=>if xM P t=true then some {v:= .map nid,news:=[some ⟨false,[],some ⟨[],0⟩⟩]} else if BH P t=true then some {v:= .map nid,news:=[some ⟨false,[],some ⟨[AT],0⟩⟩]} else none
 | .lookup t x i K=>match xM P t,ev x,ev i with
  |true,.map b,.u32 k=>match get b with
   |some ⟨_,[],some m⟩=>some {v:=if K then .aZ [.i64 ((gk k m.es).getD 0),.bool (gk k m.es).isSome] else .i64 ((gk k m.es).getD 0),pre:=m.plain,fp:=[b]}
   |_=>none
  |false,.map b,.agg [.i64 x,.i64 y]=>match BH P t,K,get b with
   |true,false,some ⟨_,[],some m⟩=>some {v:= .i64 ((gk (pk x y) m.es.tail).getD 0),pre:=m.rW/\0<=x/\x<65536/\0<=y/\y<65536,fp:=[b]}
   |_,_,_=>none
  |_,_,_=>none
 | .mapUpdate t x i y=>match xM P t,ev x,ev i,ev y with
  |true,.map b,.u32 k,.i64 n=>match get b with
   |some ⟨false,[],some m⟩=>some {v:= .bH,pre:=m.plain/\n<1180591620717411303424,fp:=[b],old:=[(b,some ⟨false,[],some (m.set k n)⟩)]}
   |_=>none
  |false,.map b,.agg [.i64 x,.i64 y],.i64 n=>match BH P t,get b with
   |true,some ⟨false,[],some m⟩=>some {v:= .bH,pre:=m.rW/\0<=x/\x<65536/\0<=y/\y<65536,fp:=[b],old:=[(b,some ⟨false,[],some (m.Cp (pk x y) n)⟩)]}
   |_,_=>none
  |_,_,_,_=>none
 | .makeInterface t x=>if E1 P t=true then some {v:= .iface t (ev x)} else none
 | .convert s d x=>yU P s d (ev x) get nid
 | .sliceToArrayPointer t x=>match CC P t,ev x with
  |some (n,_),.slice b o A _=>some {v:= .ptr b o,pre:=n<=A/\0<A}
  |_,_=>none
 | .makeFunc fn first D=>match fn with
  | .func f=>some {v:= .fn f (first.toList.map ev) (D.toList.map ev)}
  | .method p=>match first.toList.map ev with
   |[.iface t v]=>if D.isEmpty=true then some {v:= .iV p t v} else none
   |_=>none
  |_=>none
 | .makeSlice t l c=>match nf P t,ev l,ev c with
  |some e,.i64 n,.i64 m=>match bU P e,qM P e,dz P e with
   |some s,some q,some z=>if z.length=s/\0<s then some {v:= .slice nid 0 n.toNat s,pre:=n=m/\0<=n/\n*q<=140737488355328/\n<=140737488355328,news:=[bK (n9 z n.toNat)]} else none
   |_,_,_=>none
  |_,_,_=>none
 | .slice t x E F M=>if M.isSome then none else match P.underlying t,ev x with
  |some .string,.str s=>match rU (E.map ev),sH s.length (F.map ev) with
   |some l,some h=>some {v:= .str ((s.take h.toNat).drop l.toNat),pre:=0<=l/\l<=h/\h<=s.length}
   |_,_=>none
  |some (.slice e),.slice b o A g=>match rU (E.map ev),sH A (F.map ev) with
   |some l,some h=>match bU P e with
    |some s=>if s=g then some {v:= .slice b (o+l.toNat*g) (h-l).toNat g,pre:=0<=l/\l<=h/\h<=A} else none
    |none=>none
   |_,_=>none
  |some (.slice e),.bG=>match rU (E.map ev),sH 0 (F.map ev),bU P e with
   |some l,some h,some _=>some {v:= .bG,pre:=l=0/\h=0}
   |_,_,_=>none
  |some (.array n e),.ptr b o=>match rU (E.map ev),sH n (F.map ev),bU P e,get b with
   |some l,some h,some s,some ⟨false,cs,none⟩=>some {v:= .slice b (o+l.toNat*s) (h-l).toNat s,pre:=0<=l/\l<=h/\h<=n/\o+n*s<=cs.length,fp:=[b]}
   |_,_,_,_=>none
  |_,_=>none
 | .fieldAddr s x f=>match bR P s f,ev x with
  |some (H,r),.ptr b o=>match bU P r with
   |some n=>if n=0 then none else some {v:= .ptr b (o+H)}
   |none=>none
  |_,_=>none
 | .indexAddr t x i=>match P.underlying t,ev x,(ev i).nat? with
  |some (.array n e),.ptr b o,some i=>match bU P e with
   |some s=>some {v:= .ptr b (o+i.toNat*s),pre:=0<=i/\i<n}
   |none=>none
  |some (.slice e),.slice b o A g,some i=>match bU P e with
   |some s=>if s=g then some {v:= .ptr b (o+i.toNat*s),pre:=0<=i/\i<A} else none
   |none=>none
  |_,_,_=>none
 | .index t x i=>match P.underlying t,ev x,(ev i).nat? with
  |some (.array n e),.agg cs,some i=>match cL P e,bU P e with
   |some false,some s=>some {v:=cs.getD (i.toNat*s) .bH,pre:=0<=i/\i<n/\i.toNat*s<cs.length}
   |some true,some s=>some {v:= .agg ((cs.drop (i.toNat*s)).take s),pre:=0<=i/\i<n}
   |_,_=>none
  |some .string,.str s,some i=>some {v:= .u8 (s.getD i.toNat 0),pre:=0<=i/\i<s.length}
  |_,_,_=>none
 | .extract t i=>match ev t with
  | .aZ N=>match N[i]? with
   |some v=>some {v}
   |none=>none
  |_=>none
 | .call c=>match c.callee with
  | .builtin b=>vt P b c.argTypes.toList (c.args.toList.map ev) get nid
  |_=>none
 |_=>none
end
def gr (dom:Nat->Prop)(nid k:Nat):Nat->Prop:=fun b=>dom b\/(nid<=b/\b<nid+k)
def lz:List (Nat×Option aa)->Nat->Option aa->Option aa
 |[],_,d=>d
 |(i,x)::r,b,d=>if b=i then x else lz r b d
def eu (get:Nat->Option aa)(old:List (Nat×Option aa))(nid:Nat)(a:aU):Nat->Option aa:=
 fun b=>if nid<=b/\b<nid+a.length then(a[b-nid]?).join else lz old b (get b)
theorem vQ (get:Nat->Option aa)(nid:Nat):eu get [] nid []=get:=by
 funext b;unfold eu;rw[aq J];rfl
theorem CX (get:Nat->Option aa)(i:Nat)(x:Option aa)(nid:Nat):eu get [(i,x)] nid []=fun b=>if b=i then x else get b:=by
 funext b;unfold eu;rw[aq J];rfl
theorem RM (get:Nat->Option aa)(nid:Nat)(x:Option aa):eu get [] nid [x]=fun b=>if b=nid then x else get b:=by
 funext b;unfold eu;by_cases h:b=nid
 .subst h;simp
 .rw[aq cp,aq h];rfl
theorem bS.sn {ρ:Nat->Nat×Nat}{dom dom':Nat->Prop}{get:Nat->Option aa}{w:World}(h:bS ρ dom get w)(c:∀ b,dom b->dom' b):bS ρ dom' get w:=
 ⟨fun b B a=>c b (h.has b B a),h.lt,h.inj,fun b B a i v d=>by
  obtain⟨r,e,f⟩:=h.cell b B a i v d;exact⟨r,e,f.mono (fun _ _=>rfl) c (cN.refl w)⟩,h.free,h.gY⟩
theorem bS.less {ρ:Nat->Nat×Nat}{dom:Nat->Prop}{get k:Nat->Option aa}{w:World}(h:bS ρ dom get w)(c:∀ b B,k b=some B->get b=some B):bS ρ dom k w:=
 ⟨fun b B a=>h.has b B (c b B a),fun b B a=>h.lt b B (c b B a),fun b g B l a e j f=>h.inj b g B l (c b B a) (c g l e) j f,
  fun b B a=>h.cell b B (c b B a),fun b B a=>h.free b B (c b B a),fun b B m a=>h.gY b B m (c b B a)⟩
structure Alike (w w1:World):Prop where
 heap:w1.heap=w.heap
 os:w1.os=w.os
 output:w1.output=w.output
 tape:w1.tape=w.tape
theorem Alike.refl (w:World):Alike w w:=⟨rfl,rfl,rfl,rfl⟩
theorem Alike.drew (w:World):Alike w w.drew:=⟨rfl,rfl,rfl,rfl⟩
theorem Alike.cell {w w1:World}(h:Alike w w1)(a:Addr):w1.cell? a=w.cell? a:=by unfold World.cell?;rw[h.heap]
theorem Alike.frozen {w w1:World}(h:Alike w w1)(a:Addr):w1.frozen? a=w.frozen? a:=by unfold World.frozen?;rw[h.heap]
theorem Alike.kL {w w1:World}(h:Alike w w1):cN w w1:=fun b o a=>⟨by rw[h.cell];exact a,fun c=>by rw[h.frozen];exact c⟩
theorem bS.alike {ρ:Nat->Nat×Nat}{dom:Nat->Prop}{get:Nat->Option aa}{w w1:World}(h:bS ρ dom get w)(k:Alike w w1):bS ρ dom get w1:=
 ⟨h.has,fun b B a=>by rw[k.heap];exact h.lt b B a,h.inj,fun b B a i v c=>by
  obtain⟨r,j,l⟩:=h.cell b B a i v c;exact⟨r,by rw[k.cell];exact j,l.mono (fun _ _=>rfl) (fun _ d=>d) k.kL⟩,fun b B a e i f=>by rw[k.frozen];exact h.free b B a e i f,fun b B m a g=>tj (h.gY b B m a g) (by rw[k.heap])⟩
theorem Frame.alike {ρ:Nat->Nat×Nat}{get:Nat->Option aa}{w w1:World}(k:Alike w w1):Frame ρ get w ρ get w1:=
 ⟨k.os,k.output,k.tape,by rw[k.heap];exact bz _,fun r _ _=>by rw[k.heap],k.kL,fun b B h a=> .inl ⟨b,B,h,a,rfl⟩⟩
theorem Gk (w:World)(o:Obj):cN w (w.alloc o):=fun b p d=>by
 obtain⟨u,f⟩:=wn.1 d;have c:=Ek _ _ f;have a:(⟨b,p,none⟩:Addr).block≠w.heap.size:=BC c;exact⟨by rw[World.cell?_alloc_old _ _ _ a];exact d,fun e=>by rw[World.frozen?_alloc_old _ _ _ a];exact e⟩
def nU (ρ:Nat->Nat×Nat)(nid:Nat)(x:Nat×Nat):Nat->Nat×Nat:=fun b=>if b=nid then x else ρ b
theorem xC {ρ:Nat->Nat×Nat}{dom:Nat->Prop}{nid:Nat}{x:Nat×Nat}(h:¬ dom nid):∀ b,dom b->nU ρ nid x b=ρ b:=fun b a=>by
 unfold nU;rw[aq (fun e=>by subst e;exact h a)]
theorem ku {ρ:Nat->Nat×Nat}{nid:Nat}{x:Nat×Nat}:nU ρ nid x nid=x:=by unfold nU;rw[aM rfl]
theorem cell?_alloc_fz (w:World)(c:Array Value)(e:TypeId)(fz:Nat×Nat)(i:Nat):(w.alloc (.cells c e fz)).cell? ⟨w.heap.size,i,none⟩=c[i]?:=by
 unfold World.alloc World.cell?;simp[-World.alloc_eq]
theorem frozen?_alloc_fz (w:World)(c:Array Value)(e:TypeId)(fz:Nat×Nat)(i:Nat):(w.alloc (.cells c e fz)).frozen? ⟨w.heap.size,i,none⟩=(decide (fz.1<=i)&&decide (i<fz.2)):=by
 unfold World.alloc World.frozen?;simp[-World.alloc_eq]
theorem ah7 {ρ:Nat->Nat×Nat}{dom:Nat->Prop}{get:Nat->Option aa}{w:World}(h:bS ρ dom get w){nid:Nat}(C:¬ dom nid)
  (c:Array Value) (e:TypeId) (fz:Nat×Nat) (cs:List V) (s:∀ (i:Nat) v,cs[i]?=some v->∃ r,c[i]?=some r/\VR ρ dom w v r) (t:∀ i,i<cs.length->¬ (fz.1<=i/\i<fz.2)) (mp:Option aV) (u:∀ m,mp=some m->cs≠[]/\fz=(0,0)):
  bS (nU ρ nid (w.heap.size,0)) (gr dom nid 1) (eu get [] nid [some ⟨false,cs,mp⟩]) (w.alloc (.cells c e fz))/\
  Frame ρ get w (nU ρ nid (w.heap.size,0)) (eu get [] nid [some ⟨false,cs,mp⟩]) (w.alloc (.cells c e fz)):=by
 have F:=xC (ρ:=ρ) (x:=(w.heap.size,0)) C;have y:=Gk w (.cells c e fz);have p:∀ b,dom b->gr dom nid 1 b:=fun b d=> .inl d
 rw[RM];have a:∀ b B,b≠nid->(fun b=>if b=nid then some (⟨false,cs,mp⟩:aa) else get b) b=some B->get b=some B:=fun b B d g=>by simpa [d] using g
 have f:∀ b B,b≠nid->get b=some B->nU ρ nid (w.heap.size,0) b=ρ b:=fun b B d g=>F b (h.has b B g)
 refine⟨⟨fun b B g=>?_,fun b B g=>?_,fun b l B G g j n q=>?_,fun b B g i v A=>?_,fun b B g n i K=>?_,fun b B m g L=>?_⟩,
  ⟨rfl,rfl,rfl,J,fun r n _=>?_,y,fun b B g n=>?_⟩⟩
 .by_cases d:b=nid
  .exact .inr ⟨I,I⟩
  .exact .inl (h.has b B (a b B d g))
 .by_cases d:b=nid
  .subst d;rw[ku];simp
  .have :=h.lt b B (a b B d g);rw[f b B d (a b B d g)];simp;omega
 .by_cases d:b=nid
  .subst d;have k:l≠b:=fun e=>q e.symm
   have :=h.lt l G (a l G k j);rw[ku,f l G k (a l G k j)];simp only;omega
  .have E:=a b B d g;rw[f b B d E];by_cases k:l=nid
   .subst k;rw[ku];have :=h.lt b B E;simp only;omega
   .have H:=a l G k j;rw[f l G k H];exact h.inj b l B G E H n q
 .by_cases d:b=nid
  .subst d;have j:(⟨false,cs,mp⟩:aa)=B:=by simpa using g
   subst j;obtain⟨r,E,H⟩:=s i v A;refine⟨r,?_,H.mono F p y⟩;rw[ku];simpa using(cell?_alloc_fz w c e fz i).trans E
  .have E:=a b B d g;obtain⟨r,H,D⟩:=h.cell b B E i v A;refine⟨r,?_,D.mono F p y⟩;rw[f b B d E,World.cell?_alloc_lt _ _ _ (h.lt b B E)];exact H
 .by_cases d:b=nid
  .subst d;have j:(⟨false,cs,mp⟩:aa)=B:=by simpa using g
   subst j;rw[ku];have :=frozen?_alloc_fz w c e fz i;have M:=t i K;simp only[eX];rw[this];simpa using M
  .have E:=a b B d g;rw[f b B d E,World.frozen?_alloc_old _ _ _ (BC (h.lt b B E))];exact h.free b B E n i K
 .by_cases d:b=nid
  .subst d;have j:(⟨false,cs,mp⟩:aa)=B:=by simpa using g
   subst j;obtain⟨z,rfl⟩:=u m L;rw[ku];show vN _ w.heap.size cs m;cases cs with
   |nil=>exact absurd rfl z
   |cons x cs=>
    intro o;rw[frozen?_alloc_fz];simp
  .have E:=a b B d g;rw[f b B d E];refine tj (h.gY b B m E L) ?_;show(w.heap.push _)[_]?=_;rw[JT,aq (by have :=h.lt b B E;omega)]
 .show(w.heap.push _)[r]?=_;rw[JT,aq I]
 .by_cases d:b=nid
  .subst d;right;rw[ku];exact bz _
  .have E:=a b B d g;exact .inl ⟨b,B,E,n,(by rw[f b B d E])⟩
theorem A1 (b:Nat):∀ (vs:List Value) (o:Nat) (w:World) (r:Nat),r≠b->(w.setCells b o vs).heap[r]?=w.heap[r]?
 |[],_,_,_,_=>rfl
 |v::vs,o,w,r,h=>by
  rw[World.setCells,A1 b vs _ _ r h];exact heap_setCell_other _ _ _ _ h
theorem By (b:Nat):∀ (vs:List Value) (o:Nat) (w:World),(w.setCells b o vs).heap.size=w.heap.size
 |[],_,_=>rfl
 |v::vs,o,w=>by rw[World.setCells,By b vs];simp
theorem yx (b:Nat):∀ (vs:List Value) (o:Nat) (w:World),(w.setCells b o vs).os=w.os/\(w.setCells b o vs).output=w.output/\(w.setCells b o vs).tape=w.tape
 |[],_,_=>⟨rfl,rfl,rfl⟩
 |v::vs,o,w=>by rw[World.setCells];exact yx b vs _ _
theorem ai7 (w:World)(a x:Addr)(v:Value)(h:(w.cell? x).isSome=true):((w.setCell a v).cell? x).isSome=true:=by
 by_cases e:a=x
 .subst e;obtain⟨u,b⟩:=wn.1 h;rw[World.cell?_setCell_same _ _ _ b];rfl
 .rw[World.cell?_setCell_other _ _ _ _ e];exact h
theorem NI (b:Nat):∀ (vs:List Value) (o:Nat) (w:World) (x:Addr),(w.cell? x).isSome=true->((w.setCells b o vs).cell? x).isSome=true
 |[],_,_,_,h=>h
 |v::vs,o,w,x,h=>by rw[World.setCells];exact NI b vs _ _ x (ai7 w _ x v h)
theorem AB (b o:Nat)(vs:List Value)(w:World):cN w (w.setCells b o vs):=fun p q a=>
 ⟨NI b vs o w _ a,fun c=>by rw[E5];exact c⟩
theorem FX {cs:List V}{o:Nat}{xs:List V}(h:o+xs.length<=cs.length)(i:Nat):(cC cs o xs)[i]?=if o<=i/\i<o+xs.length then xs[i-o]? else cs[i]?:=by
 unfold cC;split
 .rename_i x;rw[Bd];simp at h;by_cases e:o=i
  .subst e;rw[aM rfl,aM I,aM J];simp
  .rw[aq e,aq cp]
 .by_cases a:i<o
  .rw[hZ,kY cp,aq I,uE,aM a]
  .by_cases b:i<o+xs.length
   .rw[aM ⟨I,b⟩,kY cp,iy cp];congr 1;simp;omega
   .rw[aq I,iy cp,mA];congr 1;simp;omega
theorem xT {cs:List V}{o:Nat}{xs:List V}(h:o+xs.length<=cs.length):(cC cs o xs).length=cs.length:=by
 unfold cC;split
 .simp
 .simp;omega
theorem DH {ρ:Nat->Nat×Nat}{dom:Nat->Prop}{get:Nat->Option aa}{w:World}(h:bS ρ dom get w){b o nid:Nat}{cs xs:List V}{P:List Value}
  {mp:Option aV} (z:∀ m,mp=some m->cs≠[]) (l:get b=some ⟨false,cs,mp⟩) (E:ao ρ dom w xs P) (O:o+xs.length<=cs.length):
  bS ρ (gr dom nid 0) (eu get [(b,some ⟨false,cC cs o xs,mp⟩)] nid []) (w.setCells (ρ b).1 ((ρ b).2+o) P)/\
  Frame ρ get w ρ (eu get [(b,some ⟨false,cC cs o xs,mp⟩)] nid []) (w.setCells (ρ b).1 ((ρ b).2+o) P):=by
 have S:=E.length;have y:=AB (ρ b).1 ((ρ b).2+o) P w;have n:∀ b,dom b->gr dom nid 0 b:=fun b l=> .inl l
 rw[CX];have k:∀ a B,a≠b->(fun a=>if a=b then some (⟨false,cC cs o xs,mp⟩:aa) else get a) a=some B->get a=some B:=fun a B f d=>by simpa [f] using d
 have p:∀ B,(fun a=>if a=b then some (⟨false,cC cs o xs,mp⟩:aa) else get a) b=some B->B=⟨false,cC cs o xs,mp⟩:=fun B d=>by simpa using d.symm
 have c:∀ a B,(fun a=>if a=b then some (⟨false,cC cs o xs,mp⟩:aa) else get a) a=some B->∃ M,get a=some M/\M.ro=B.ro/\M.cs.length=B.cs.length:=fun a B d=>by
  by_cases e:a=b
  .subst e;rw[p B d];exact⟨_,l,rfl,by simp[xT O]⟩
  .exact⟨B,k a B e d,rfl,rfl⟩
 refine⟨⟨fun a B d=>?_,fun a B d=>?_,fun T F Y B2 L N s f=>?_,fun a B d i v q=>?_,fun a B d s i R=>?_,fun a B m d W=>?_⟩,
  ⟨(yx _ _ _ _).1,(yx _ _ _ _).2.1,(yx _ _ _ _).2.2,by rw[By];exact bz _,fun r s A=>?_,y,fun a B d s=>?_⟩⟩
 .obtain⟨M,L,_⟩:=c a B d;exact .inl (h.has a M L)
 .obtain⟨M,L,_⟩:=c a B d;rw[By];exact h.lt a M L
 .obtain⟨B3,G,H,_⟩:=c T Y L;obtain⟨B5,K,_⟩:=c F B2 N;exact h.inj T F B3 B5 G K (H.trans s) f
 .by_cases e:a=b
  .subst e;rw[p B d] at q;rw[FX O] at q;by_cases R:o<=i/\i<o+xs.length
   .rw[aM R] at q;obtain⟨r,L,N⟩:=E.get q;refine⟨r,?_,N.mono (fun _ _=>rfl) n y⟩;have C:i-o<P.length:=I;have :=World.cell?_setCells_in (ρ a).1 P ((ρ a).2+o) w (fun j C=>by
     obtain⟨u,hu,_⟩:=h.cell a _ l (o+j) (cs[o+j]'(I)) J;rw[show(ρ a).2+o+j=(ρ a).2+(o+j) by omega,hu];rfl) (i-o) C
    rw[show(ρ a).2+o+(i-o)=(ρ a).2+i by omega] at this;rw[this,<-L];simp[C]
   .rw[aq R] at q;obtain⟨r,L,N⟩:=h.cell a _ l i v q;refine⟨r,?_,N.mono (fun _ _=>rfl) n y⟩;rw[FJ _ _ _ _ _ (fun _ _=>by simp only;omega)];exact L
  .have Q:=k a B e d;obtain⟨r,L,N⟩:=h.cell a B Q i v q;refine⟨r,?_,N.mono (fun _ _=>rfl) n y⟩;have f:=h.inj b a _ B l Q rfl (fun x=>e x.symm);rw[FJ _ _ _ _ _ (fun x _=>absurd x.symm f)];exact L
 .obtain⟨M,L,N,G⟩:=c a B d;rw[E5];exact h.free a M L (N.trans s) i I
 .by_cases e:a=b
  .subst e;have D:=p B d;subst D;have t:mp=some m:=W;have g:=h.gY a _ m l t;have X:=z m t;refine Bk (cs:=cs) ?_ (xT O);change vN w (ρ a).1 cs m at g;cases cs with
   |nil=>exact absurd rfl X
   |cons x cs=>
    intro i;rw[E5];exact g i
  .have Q:=k a B e d;have f:=h.inj b a _ B l Q rfl (fun x=>e x.symm);exact tj (h.gY a B m Q W) (A1 _ _ _ _ _ (fun e=>f e.symm))
 .refine A1 _ _ _ _ _ (fun e=>A b _ l rfl e.symm)
 .obtain⟨M,L,N,_⟩:=c a B d;exact .inl ⟨a,M,L,N.trans s,rfl⟩
end Go.Vm
end
