/- Proved: laws of a machine of values; no conditions but each theorem's own. -/
import Derived.Deep.AppendSrc
import Derived.Deep.MidRow
import Derived.Orders
set_option linter.unusedVariables false
set_option linter.unusedSimpArgs false
set_option maxRecDepth 20000
set_option maxHeartbeats 8000000
section
namespace Go.Vm
abbrev ai:=BitVec 8
inductive V where
 |junk
 |bool (b:Bool)
 |u8 (x:BitVec 8)
 |u32 (x:BitVec 32)
 |u64 (x:BitVec 64)
 |i64 (n:Int)
 |i32 (n:Int)
 |str (s:List ai)
 |ptr (b o:Nat)
 |nilPtr
 |slice (b o len esz:Nat)
 |nilSlice
 |fn (f:FuncId) (first caps:List V)
 |nilFn
 |aFn (name:String) (t:TypeId) (v:V)
 |agg (cs:List V)
 |tup (vs:List V)
 |iface (t:TypeId) (v:V)
 |nilIface
 |map (b:Nat)
 deriving Inhabited
def bytesOf (b:ByteArray):List ai:=b.data.toList.map UInt8.toBitVec
def xY (l:List ai):ByteArray:=⟨(l.map UInt8.ofBitVec).toArray⟩
theorem Hf (l:List ai):bytesOf (xY l)=l:=by
 unfold bytesOf xY
 simp only[List.map_map]
 conv=>rhs;rw[←List.map_id l]
 exact List.map_congr_left fun _ _=>rfl
theorem FY (b:ByteArray):xY (bytesOf b)=b:=by
 unfold bytesOf xY
 simp only[List.map_map]
 have :(b.data.toList.map (UInt8.ofBitVec∘UInt8.toBitVec))=b.data.toList:=by
  conv=>rhs;rw[←List.map_id b.data.toList]
  exact List.map_congr_left fun _ _=>rfl
 rw[this]
theorem kF (b:ByteArray):(bytesOf b).length=b.size:=by
 unfold bytesOf;rw[List.length_map,Array.length_toList];rfl
theorem Qj {a b:ByteArray}(h:bytesOf a=bytesOf b):a=b:=by
 rw[←FY a,h,FY]
structure MapC where
 es:List (Nat×BitVec 32×Int)
 clock:Nat
 deriving Inhabited
def du (e:Nat×BitVec 32×Int):MapEntry:={key:= .int .u32 e.2.1.toNat,val:= .int .i64 e.2.2,born:=e.1}
def ku:Nat×BitVec 32×Int:=(0,0#32,1180591620717411303424)
def n8 (e:Nat×BitVec 32×Int):MapEntry:={key:= .agg #[.int .i64 ((e.2.1.toNat/65536:Nat):Int),.int .i64 ((e.2.1.toNat%65536:Nat):Int)],val:= .int .i64 e.2.2,born:=e.1}
def MapC.pairy (m:MapC):Prop:=m.es.head?=some ku
instance (m:MapC):Decidable m.pairy:=by unfold MapC.pairy;exact inferInstance
def MapC.plain (m:MapC):Prop:=∀ e∈m.es,e.2.2<1180591620717411303424
theorem MapC.plain.not {m:MapC}(h:m.plain):¬ m.pairy:=fun e=>by
 unfold MapC.pairy at e
 cases hl:m.es with
 |nil=>rw[hl] at e;cases e
 |cons x l=>
  rw[hl] at e
  have e:x=ku:=by simpa using e
  have :=h x (by rw[hl];simp)
  rw[e] at this
  exact absurd this (by decide)
def MapC.obj (m:MapC):Obj:=if m.pairy then .map (m.es.tail.map n8).toArray m.clock else .map (m.es.map du).toArray m.clock
theorem MapC.obj_is (m:MapC):∃ es c,m.obj= .map es c:=by
 unfold MapC.obj
 split <;>exact⟨_,_,rfl⟩
theorem MapC.obj_plain {m:MapC}(h:m.plain):m.obj= .map (m.es.map du).toArray m.clock:=if_neg h.not
theorem MapC.obj_pairy {m:MapC}(h:m.pairy):m.obj= .map (m.es.tail.map n8).toArray m.clock:=if_pos h
structure Blk where
 ro:Bool
 cs:List V
 mp:Option MapC
 deriving Inhabited
mutual
def VR (ρ:Nat→Nat×Nat)(dom:Nat→Prop)(w:World):V→Value→Prop
 | .junk,_=>True
 | .bool b,r=>r= .bool b
 | .u8 x,r=>r= .int .u8 x.toNat
 | .u32 x,r=>r= .int .u32 x.toNat
 | .u64 x,r=>r= .int .u64 x.toNat
 | .i64 n,r=>r= .int .i64 n
 | .i32 n,r=>r= .int .i32 n
 | .str s,r=>∃ b,r= .string b∧bytesOf b=s
 | .ptr b o,r=>dom b∧r= .pointer (some ⟨(ρ b).1,(ρ b).2+o,none⟩)
 | .nilPtr,r=>r= .pointer none
 | .slice b o len esz,r=>dom b∧∃ a cap,r= .slice (some a) len cap∧len≤cap∧
   (cap≠0→a=⟨(ρ b).1,(ρ b).2+o,none⟩∧w.there (ρ b).1 ((ρ b).2+o) (cap*esz))
 | .nilSlice,r=>r= .slice none 0 0
 | .fn f fs cs,r=>∃ f' c',r= .func (.func f) f' c'∧VRs ρ dom w fs f'.toList∧VRs ρ dom w cs c'.toList
 | .nilFn,r=>r= .nilFunc
 | .aFn nm t v,r=>∃ x,r= .func (.method nm) #[.iface t x] #[]∧VR ρ dom w v x
 | .agg cs,r=>∃ a,r= .agg a∧VRs ρ dom w cs a.toList
 | .tup cs,r=>∃ a,r= .tuple a∧VRs ρ dom w cs a.toList
 | .iface t v,r=>∃ r',r= .iface t r'∧VR ρ dom w v r'
 | .nilIface,r=>r= .nilIface
 | .map b,r=>dom b∧r= .map (some (ρ b).1)
def VRs (ρ:Nat→Nat×Nat)(dom:Nat→Prop)(w:World):List V→List Value→Prop
 |[],l=>l=[]
 |v::vs,l=>∃ r rs,l=r::rs∧VR ρ dom w v r∧VRs ρ dom w vs rs
end
def Lasts (w w':World):Prop:=∀ b o,(w.cell? ⟨b,o,none⟩).isSome=true→(w'.cell? ⟨b,o,none⟩).isSome=true∧(w.frozen? ⟨b,o,none⟩=false→w'.frozen? ⟨b,o,none⟩=false)
theorem Lasts.refl (w:World):Lasts w w:=fun _ _ h=>⟨h,id⟩
theorem Lasts.trans {a b c:World}(h:Lasts a b)(k:Lasts b c):Lasts a c:=fun p o hp=>
 ⟨(k p o (h p o hp).1).1,fun hf=>(k p o (h p o hp).1).2 ((h p o hp).2 hf)⟩
theorem Lasts.there {w w':World}(h:Lasts w w'){b o n:Nat}(k:w.there b o n):w'.there b o n:=fun j hj=>
 ⟨(h b (o+j) (k j hj).1).1,(h b (o+j) (k j hj).1).2 (k j hj).2⟩
section mono
variable {ρ ρ':Nat→Nat×Nat}{dom dom':Nat→Prop}{w w':World}
mutual
theorem VR.mono (hρ:∀ b,dom b→ρ' b=ρ b)(hd:∀ b,dom b→dom' b)(hl:Lasts w w'):∀ {v:V} {r:Value},VR ρ dom w v r→VR ρ' dom' w' v r
 | .junk,_,_=>by unfold VR;trivial
 | .bool _,_,h=>by unfold VR at*;exact h
 | .u8 _,_,h=>by unfold VR at*;exact h
 | .u32 _,_,h=>by unfold VR at*;exact h
 | .u64 _,_,h=>by unfold VR at*;exact h
 | .i64 _,_,h=>by unfold VR at*;exact h
 | .i32 _,_,h=>by unfold VR at*;exact h
 | .str _,_,h=>by unfold VR at*;exact h
 | .ptr b _,_,h=>by unfold VR at*;exact⟨hd b h.1,by rw[hρ b h.1];exact h.2⟩
 | .nilPtr,_,h=>by unfold VR at*;exact h
 | .slice b _ _ _,_,h=>by
  unfold VR at*
  obtain⟨hb,a,cap,h1,h2,h3⟩:=h
  refine⟨hd b hb,a,cap,h1,h2,fun hc=>?_⟩
  rw[hρ b hb]
  exact⟨(h3 hc).1,hl.there (h3 hc).2⟩
 | .nilSlice,_,h=>by unfold VR at*;exact h
 | .fn _ fs cs,_,h=>by
  unfold VR at*
  obtain⟨f',c',h1,h2,h3⟩:=h
  exact⟨f',c',h1,VRs.mono hρ hd hl h2,VRs.mono hρ hd hl h3⟩
 | .nilFn,_,h=>by unfold VR at*;exact h
 | .aFn _ _ v,_,h=>by
  unfold VR at*
  obtain⟨x,h1,h2⟩:=h
  exact⟨x,h1,VR.mono hρ hd hl h2⟩
 | .agg cs,_,h=>by
  unfold VR at*
  obtain⟨a,h1,h2⟩:=h
  exact⟨a,h1,VRs.mono hρ hd hl h2⟩
 | .tup cs,_,h=>by
  unfold VR at*
  obtain⟨a,h1,h2⟩:=h
  exact⟨a,h1,VRs.mono hρ hd hl h2⟩
 | .iface _ v,_,h=>by
  unfold VR at*
  obtain⟨r',h1,h2⟩:=h
  exact⟨r',h1,VR.mono hρ hd hl h2⟩
 | .nilIface,_,h=>by unfold VR at*;exact h
 | .map b,_,h=>by unfold VR at*;exact⟨hd b h.1,by rw[hρ b h.1];exact h.2⟩
theorem VRs.mono (hρ:∀ b,dom b→ρ' b=ρ b)(hd:∀ b,dom b→dom' b)(hl:Lasts w w'):∀ {vs:List V} {rs:List Value},VRs ρ dom w vs rs→VRs ρ' dom' w' vs rs
 |[],_,h=>by unfold VRs at*;exact h
 |v::vs,_,h=>by
  unfold VRs at*
  obtain⟨r,rs,h1,h2,h3⟩:=h
  exact⟨r,rs,h1,VR.mono hρ hd hl h2,VRs.mono hρ hd hl h3⟩
end
end mono
section lists
variable {ρ:Nat→Nat×Nat}{dom:Nat→Prop}{w:World}
theorem VRs.length:∀ {vs:List V} {rs:List Value},VRs ρ dom w vs rs→rs.length=vs.length
 |[],_,h=>by unfold VRs at h;simp[h]
 |v::vs,_,h=>by
  unfold VRs at h
  obtain⟨r,rs,rfl,_,h3⟩:=h
  simp[VRs.length h3]
theorem VRs.get:∀ {vs:List V} {rs:List Value},VRs ρ dom w vs rs→∀ {i:Nat} {v:V},vs[i]?=some v→∃ r,rs[i]?=some r∧VR ρ dom w v r
 |[],_,_,i,v,hi=>by simp at hi
 |x::vs,_,h,0,v,hi=>by
  unfold VRs at h
  obtain⟨r,rs,rfl,h2,_⟩:=h
  simp at hi;subst hi
  exact⟨r,rfl,h2⟩
 |x::vs,_,h,i+1,v,hi=>by
  unfold VRs at h
  obtain⟨r,rs,rfl,_,h3⟩:=h
  simpa using VRs.get h3 (by simpa using hi)
theorem VRs.of_get:∀ {vs:List V} {rs:List Value},rs.length=vs.length→(∀ (i:Nat) v r,vs[i]?=some v→rs[i]?=some r→VR ρ dom w v r)→VRs ρ dom w vs rs
 |[],rs,hl,_=>by unfold VRs;simpa using hl
 |v::vs,[],hl,_=>by simp at hl
 |v::vs,r::rs,hl,h=>by
  unfold VRs
  exact⟨r,rs,rfl,h 0 v r rfl rfl,VRs.of_get (by simpa using hl) fun i v r hv hr=>h (i+1) v r (by simpa using hv) (by simpa using hr)⟩
theorem VRs.append {vs us:List V}{rs qs:List Value}(h:VRs ρ dom w vs rs)(k:VRs ρ dom w us qs):VRs ρ dom w (vs++us) (rs++qs):=by
 induction vs generalizing rs with
 |nil=>unfold VRs at h;subst h;simpa using k
 |cons v vs ih=>
  unfold VRs at h
  obtain⟨r,rs',rfl,h2,h3⟩:=h
  simp only[List.cons_append]
  unfold VRs
  exact⟨r,_,rfl,h2,ih h3⟩
theorem VRs.nil:VRs ρ dom w [] []:=by unfold VRs;rfl
theorem VRs.cons {v:V}{r:Value}{vs:List V}{rs:List Value}(h:VR ρ dom w v r)(k:VRs ρ dom w vs rs):VRs ρ dom w (v::vs) (r::rs):=by
 unfold VRs;exact⟨r,rs,rfl,h,k⟩
theorem VRs.take {vs:List V}{rs:List Value}(h:VRs ρ dom w vs rs)(n:Nat):VRs ρ dom w (vs.take n) (rs.take n):=by
 refine VRs.of_get (by simp[h.length]) fun i v r hv hr=>?_
 rw[List.getElem?_take] at hv hr
 split at hv
 ·rename_i hlt
  rw[if_pos hlt] at hr
  obtain⟨r',h1,h2⟩:=h.get hv
  rw[hr] at h1;injection h1 with h1;subst h1;exact h2
 ·cases hv
theorem VRs.drop {vs:List V}{rs:List Value}(h:VRs ρ dom w vs rs)(n:Nat):VRs ρ dom w (vs.drop n) (rs.drop n):=by
 refine VRs.of_get (by simp[h.length]) fun i v r hv hr=>?_
 rw[List.getElem?_drop] at hv hr
 obtain⟨r',h1,h2⟩:=h.get hv
 rw[hr] at h1;injection h1 with h1;subst h1;exact h2
end lists
def pY (w:World)(r:Nat)(cs:List V)(m:MapC):Prop:=match cs with
 |[]=>w.heap[r]?=some m.obj
 |_::_=>∀ o,w.frozen? ⟨r,o,none⟩=false
theorem nf {w w':World}{r:Nat}{cs:List V}{m:MapC}(h:pY w r cs m)(he:w'.heap[r]?=w.heap[r]?):pY w' r cs m:=by
 unfold pY at h ⊢
 split at h
 ·rw[he];exact h
 ·intro o
  have :=h o
  unfold World.frozen? at this ⊢
  simp only at this ⊢
  rw[he];exact this
theorem xP {w:World}{r:Nat}{cs cs':List V}{m:MapC}(h:pY w r cs m)(he:cs'.length=cs.length):pY w r cs' m:=by
 cases cs<;>cases cs'<;>simp at he<;>exact h
structure MemRel (ρ:Nat→Nat×Nat) (dom:Nat→Prop) (get:Nat→Option Blk) (w:World):Prop where
 has:∀ b B,get b=some B→dom b
 lt:∀ b B,get b=some B→(ρ b).1<w.heap.size
 inj:∀ b b' B B',get b=some B→get b'=some B'→B.ro=false→b≠b'→(ρ b).1≠(ρ b').1
 cell:∀ b B,get b=some B→∀ (i:Nat) v,B.cs[i]?=some v→∃ r,w.cell? ⟨(ρ b).1,(ρ b).2+i,none⟩=some r∧VR ρ dom w v r
 free:∀ b B,get b=some B→B.ro=false→∀ i,i<B.cs.length→w.frozen? ⟨(ρ b).1,(ρ b).2+i,none⟩=false
 mapc:∀ b B m,get b=some B→B.mp=some m→pY w (ρ b).1 B.cs m
structure Frame (ρ:Nat→Nat×Nat) (get:Nat→Option Blk) (w:World) (ρ':Nat→Nat×Nat) (get':Nat→Option Blk) (w':World):Prop where
 os:w'.os=w.os
 output:w'.output=w.output
 tape:w'.tape=w.tape
 size:w.heap.size≤w'.heap.size
 keep:∀ r,r<w.heap.size→(∀ b B,get b=some B→B.ro=false→(ρ b).1≠r)→w'.heap[r]?=w.heap[r]?
 lasts:Lasts w w'
 own:∀ b B,get' b=some B→B.ro=false→(∃ b0 B0,get b0=some B0∧B0.ro=false∧(ρ b0).1=(ρ' b).1)∨w.heap.size≤(ρ' b).1
theorem Frame.refl (ρ:Nat→Nat×Nat)(get:Nat→Option Blk)(w:World):Frame ρ get w ρ get w:=
 ⟨rfl,rfl,rfl,Nat.le_refl _,fun _ _ _=>rfl,Lasts.refl w,fun b B h hr=> .inl ⟨b,B,h,hr,rfl⟩⟩
theorem Frame.trans {ρ ρ' ρ'':Nat→Nat×Nat}{get get' get'':Nat→Option Blk}{w w' w'':World}(h:Frame ρ get w ρ' get' w')(k:Frame ρ' get' w' ρ'' get'' w''):Frame ρ get w ρ'' get'' w'':=by
 refine⟨k.os.trans h.os,k.output.trans h.output,k.tape.trans h.tape,Nat.le_trans h.size k.size,fun r hr hb=>?_,h.lasts.trans k.lasts,fun b B hB hro=>?_⟩
 ·rw[k.keep r (Nat.lt_of_lt_of_le hr h.size) (fun b B hB hro e=>?_),h.keep r hr hb]
  rcases h.own b B hB hro with⟨b0,B0,h1,h2,h3⟩|h1
  ·exact hb b0 B0 h1 h2 (h3.trans e)
  ·omega
 ·rcases k.own b B hB hro with⟨b0,B0,h1,h2,h3⟩|h1
  ·rcases h.own b0 B0 h1 h2 with⟨b1,B1,h4,h5,h6⟩|h4
   ·exact .inl ⟨b1,B1,h4,h5,h6.trans h3⟩
   ·exact .inr (by omega)
  ·exact .inr (Nat.le_trans h.size h1)
theorem Frame.less {ρ ρ' ρ'':Nat→Nat×Nat}{get get' get'':Nat→Option Blk}{w w':World}(h:Frame ρ get w ρ' get' w')
  (hl:∀ b B,get'' b=some B→B.ro=false→∃ b0 B0,get' b0=some B0∧B0.ro=false∧(ρ' b0).1=(ρ'' b).1):Frame ρ get w ρ'' get'' w':=
 ⟨h.os,h.output,h.tape,h.size,h.keep,h.lasts,fun b B hB hro=>by
  obtain⟨b0,B0,h1,h2,h3⟩:=hl b B hB hro
  rw[←h3]
  exact h.own b0 B0 h1 h2⟩
end Go.Vm
namespace Go.Vm
theorem aI {a b:Prop}(k:b)(h:a:=by first|omega |trivial):a∧b:=⟨h,k⟩
theorem aJ {a b:Prop}(k:b)(h:a:=by first|omega |kernel_rfl|trivial):a∧b:=⟨h,k⟩
abbrev bK (c:List V):Option Blk:=some ⟨false,c,none⟩
abbrev nL (i:Nat):Option Blk:=some ⟨false,[.ptr i 0,.nilPtr,.bool false,.i64 0],none⟩
abbrev nR (i:Nat):Option Blk:=some ⟨false,[.nilPtr,.ptr i 0,.bool false,.i64 0],none⟩
attribute [simp, go_sem] bK nL nR
theorem aa {p:Prop}(h:p:=by omega):p:=h
theorem ae {p:Prop}(h:p:=by simp):p:=h
theorem ac {p:Prop}(h:p:=by kernel_rfl):p:=h
theorem ah {p:Prop}(h:p:=by decide):p:=h
theorem aM {p:Prop}(h:p:=by first|decide|simp):p:=h
theorem aZ {p:Prop}(h:p:=by rfl):p:=h
theorem ahu {p:Prop}(h:p:=by trivial):p:=h
theorem am {a b:Nat}(h:Nat.ble a b=true:=by kernel_rfl):a≤b:=Nat.le_of_ble_eq_true h
abbrev Im:=@Array.all_eq_true_iff_forall_mem
abbrev sW:=@Array.ext'
abbrev lY:=@Array.getD_eq_getD_getElem?
abbrev wG:=@Array.getElem?_append_left
abbrev oG:=@Array.getElem?_eq_getElem
abbrev Em:=@Array.getElem?_eq_some_iff
abbrev DP:=@Array.getElem?_push
abbrev BX:=@Array.getElem?_setIfInBounds
abbrev xv:=@Array.length_toList
abbrev Dy:=@Array.toList_append
abbrev vZ:=@Array.toList_map
abbrev eE:=@BitVec.eq_of_toNat_eq
abbrev wE:=@BitVec.lt_def
abbrev Cj:=@BitVec.ofInt_add
abbrev DZ:=@BitVec.ofInt_natCast
abbrev fk:=@BitVec.toNat_add
abbrev nM:=@BitVec.toNat_and
abbrev Dn:=@BitVec.toNat_eq
abbrev nH:=@BitVec.toNat_mul
abbrev l9:=@BitVec.toNat_ofInt
abbrev cx:=@BitVec.toNat_ofNat
abbrev ye:=@BitVec.toNat_or
abbrev mL:=@BitVec.toNat_setWidth
abbrev wY:=@BitVec.toNat_shiftLeft
abbrev uv:=@BitVec.toNat_sub
abbrev oq:=@BitVec.toNat_ushiftRight
abbrev ic:=@Bool.and_eq_true
abbrev qd:=@Bool.and_eq_true_iff
abbrev lN:=@Bool.eq_iff_iff
abbrev ct:=@Bool.false_eq_true
abbrev oA:=@Bool.not_eq_true'
abbrev qY:=@Bool.not_false
abbrev jI:=@Bool.not_true
abbrev zF:=@Bool.or_eq_true
abbrev pX:=@Classical.byContradiction
abbrev sb:=@Int.add_emod
abbrev Cp:=@Int.add_mul_emod_self_left
abbrev y8:=@Int.emod_eq_of_lt
abbrev cC:=@Int.le_refl
abbrev wR:=@Int.le_trans
abbrev vm:=@Int.mul_assoc
abbrev sQ:=@Int.mul_comm
abbrev j5:=@Int.mul_emod
abbrev wO:=@Int.mul_le_mul_of_nonneg_right
abbrev sV:=@Int.natCast_add
abbrev yy:=@Int.natCast_emod
abbrev uO:=@Int.natCast_mul
abbrev mV:=@Int.pow_succ
abbrev xQ:=@Int.pow_zero
abbrev uM:=@Int.sub_emod
abbrev cT:=@Int.toNat_natCast
abbrev yI:=@List.Nodup.sublist
abbrev Ar:=@List.Sublist.map
abbrev mW:=@List.all_eq_true
abbrev dV:=@List.append_assoc
abbrev iw:=@List.append_nil
abbrev fO:=@List.cons_append
abbrev xC:=@List.dropWhile_cons
abbrev hO:=@List.drop_drop
abbrev sO:=@List.drop_eq_getElem_cons
abbrev AD:=@List.drop_eq_nil_of_le
abbrev kg:=@List.drop_left'
abbrev gP:=@List.drop_of_length_le
abbrev iK:=@List.drop_succ_cons
abbrev uB:=@List.drop_take
abbrev jC:=@List.drop_zero
abbrev yu:=@List.ext_getElem
abbrev qM:=@List.ext_getElem?
abbrev Eh:=@List.filter_congr
abbrev vg:=@List.filter_cons
abbrev AF:=@List.filter_sublist
abbrev sM:=@List.findIdx?_eq_some_iff_getElem
abbrev BD:=@List.flatten_append
abbrev qo:=@List.flatten_cons
abbrev Ch:=@List.foldl_append
abbrev A9:=@List.foldl_cons
abbrev qj:=@List.forall_mem_cons
abbrev dT:=@List.forall_mem_nil
abbrev o8:=@List.getD_cons_succ
abbrev ov:=@List.getD_cons_zero
abbrev aW:=@List.getD_eq_getElem?_getD
abbrev gh:=@List.getElem?_append_left
abbrev dL:=@List.getElem?_append_right
abbrev yT:=@List.getElem?_cons_succ
abbrev rv:=@List.getElem?_cons_zero
abbrev il:=@List.getElem?_drop
abbrev aF:=@List.getElem?_eq_getElem
abbrev gi:=@List.getElem?_eq_none
abbrev ca:=@List.getElem?_eq_some_iff
abbrev ci:=@List.getElem?_map
abbrev nB:=@List.getElem?_range
abbrev wH:=@List.getElem?_set
abbrev mF:=@List.getElem?_set_ne
abbrev kL:=@List.getElem?_set_self
abbrev oK:=@List.getElem?_take
abbrev sP:=@List.getElem?_take_of_lt
abbrev rX:=@List.getElem?_toArray
abbrev pK:=@List.getElem?_zipWith
abbrev CX:=@List.getElem?_zip_eq_some
abbrev xa:=@List.getElem_append_left
abbrev tj:=@List.getElem_append_right
abbrev Cq:=@List.getElem_cons_zero
abbrev AR:=@List.getElem_inj
abbrev rS:=@List.getElem_map
abbrev dd:=@List.getElem_mem
abbrev mK:=@List.getElem_of_mem
abbrev uT:=@List.getElem_set_ne
abbrev sR:=@List.getElem_set_self
abbrev aE:=@List.length_append
abbrev ce:=@List.length_cons
abbrev bU:=@List.length_drop
abbrev jJ:=@List.length_eq_zero_iff
abbrev Br:=@List.length_eraseIdx_of_lt
abbrev ba:=@List.length_map
abbrev ig:=@List.length_nil
abbrev rH:=@List.length_pos_iff
abbrev xx:=@List.length_range
abbrev gv:=@List.length_replicate
abbrev aY:=@List.length_set
abbrev qv:=@List.length_singleton
abbrev br:=@List.length_take
abbrev CZ:=@List.length_zipWith
abbrev gD:=@List.map_append
abbrev mX:=@List.map_congr_left
abbrev bN:=@List.map_cons
abbrev pg:=@List.map_drop
abbrev tK:=@List.map_id
abbrev kH:=@List.map_map
abbrev cO:=@List.map_nil
abbrev pB:=@List.map_set
abbrev nc:=@List.map_take
abbrev eB:=@List.mem_append
abbrev vB:=@List.mem_append_left
abbrev Ci:=@List.mem_append_right
abbrev cQ:=@List.mem_cons
abbrev gF:=@List.mem_cons_of_mem
abbrev j8:=@List.mem_cons_self
abbrev kz:=@List.mem_filter
abbrev xE:=@List.mem_iff_getElem
abbrev cD:=@List.mem_map
abbrev kP:=@List.mem_of_getElem?
abbrev BW:=@List.mem_of_mem_drop
abbrev AY:=@List.mem_of_mem_take
abbrev Ae:=@List.mem_or_eq_of_mem_set
abbrev zM:=@List.mem_range
abbrev qf:=@List.mem_range'_1
abbrev lh:=@List.mem_singleton
abbrev A6:=@List.mem_zipIdx_iff_getElem?
abbrev ff:=@List.nil_append
abbrev CK:=@List.nodup_append
abbrev tG:=@List.nodup_cons
abbrev qJ:=@List.not_mem_nil
abbrev pz:=@List.replicate_succ
abbrev y6:=@List.set_append_left
abbrev ou:=@List.set_append_right
abbrev yo:=@List.set_cons_succ
abbrev iI:=@List.set_cons_zero
abbrev Ee:=@List.set_getElem_self
abbrev iX:=@List.set_set
abbrev wC:=@List.take_append_drop
abbrev xH:=@List.take_append_of_le_length
abbrev ja:=@List.take_left'
abbrev o0:=@List.take_length
abbrev ar:=@List.take_of_length_le
abbrev cj:=@List.take_succ_cons
abbrev o7:=@List.take_succ_eq_append_getElem
abbrev sN:=@List.take_take
abbrev ez:=@List.take_zero
abbrev kh:=@Nat.add_assoc
abbrev wN:=@Nat.add_comm
abbrev rA:=@Nat.add_mul
abbrev qQ:=@Nat.add_mul_mod_self_left
abbrev yY:=@Nat.add_sub_cancel
abbrev iQ:=@Nat.add_zero
abbrev rb:=@Nat.and_two_pow_sub_one_eq_mod
abbrev mi:=@Nat.div_div_eq_div_mul
abbrev zR:=@Nat.div_eq_of_lt
abbrev zW:=@Nat.div_lt_of_lt_mul
abbrev ur:=@Nat.div_one
abbrev nW:=@Nat.le_add_right
abbrev aH:=@Nat.le_refl
abbrev nj:=@Nat.le_succ
abbrev rQ:=@Nat.le_succ_of_le
abbrev fF:=@Nat.le_trans
abbrev sK:=@Nat.lt_of_le_of_lt
abbrev mw:=@Nat.lt_of_lt_of_le
abbrev DH:=@Nat.lt_succ_self
abbrev D6:=@Nat.lt_trichotomy
abbrev iM:=@Nat.min_eq_left
abbrev nY:=@Nat.min_eq_right
abbrev gn:=@Nat.mod_eq_of_lt
abbrev vr:=@Nat.mod_lt
abbrev wq:=@Nat.mod_mul
abbrev km:=@Nat.mul_add
abbrev oM:=@Nat.mul_assoc
abbrev jv:=@Nat.mul_comm
abbrev nJ:=@Nat.mul_le_mul
abbrev Aj:=@Nat.mul_le_mul_right
abbrev Eo:=@Nat.mul_left_comm
abbrev CG:=@Nat.mul_lt_mul''
abbrev yd:=@Nat.mul_mod
abbrev vO:=@Nat.ne_of_lt
abbrev qm:=@Nat.pow_add
abbrev xB:=@Nat.pow_le_pow_right
abbrev iT:=@Nat.pow_succ
abbrev Ao:=@Nat.pow_zero
abbrev uo:=@Nat.shiftLeft_eq
abbrev nT:=@Nat.shiftRight_eq_div_pow
abbrev gf:=@Nat.sub_self
abbrev BJ:=@Nat.two_pow_add_eq_or_of_lt
abbrev cw:=@Nat.zero_add
abbrev fg:=@Nat.zero_le
abbrev oo:=@Option.getD_some
abbrev rV:=@Option.isSome_iff_exists
abbrev vG:=@Option.isSome_none
abbrev vw:=@Option.isSome_some
abbrev rO:=@Option.map_eq_some_iff
abbrev qx:=@Option.map_none
abbrev jA:=@Option.map_some
abbrev kJ:=@Option.some.inj
abbrev cf:=@Option.some.injEq
abbrev gI:=@Prod.mk.injEq
end Go.Vm
end
section
namespace Go.Vm
section
def ao (n:Int):Int:=IntKind.i64.wrap n
theorem az {n:Int}(h1:-9223372036854775808<=n)(h2:n<=9223372036854775807):ao n=n:=by
 unfold ao IntKind.wrap;have e:(2:Int)^IntKind.i64.bits=18446744073709551616:=ah;have a:(2:Int)^(IntKind.i64.bits-1)=9223372036854775808:=ah;simp only[e,a];by_cases h:n%18446744073709551616≥9223372036854775808
 ·rw[if_pos (by simp[IntKind.signed];omega)];omega
 ·rw[if_neg (by simp[IntKind.signed];omega)];omega
def F2 (a:Int)(n:Nat):Int:=ao (a*2^(min n 64))
def HX (a:Int)(n:Nat):Int:=a.fdiv (2^(min n 64))
def Xk (a b:Int):Int:=ao (BitVec.ofInt 64 a&&&BitVec.ofInt 64 b).toNat
def ZZ (a b:Int):Int:=ao (BitVec.ofInt 64 a|||BitVec.ofInt 64 b).toNat
def ae8 (a b:Int):Int:=ao (BitVec.ofInt 64 a ^^^ BitVec.ofInt 64 b).toNat
def bB (k:BitVec 32):List (Nat×BitVec 32×Int)->Option Int
 |[]=>none
 |e::l=>if e.2.1=k then some e.2.2 else bB k l
def jf (k:BitVec 32)(n:Int):List (Nat×BitVec 32×Int)->List (Nat×BitVec 32×Int)
 |[]=>[]
 |e::l=>if e.2.1=k then(e.1,k,n)::l else e::jf k n l
def mD (k:BitVec 32):List (Nat×BitVec 32×Int)->List (Nat×BitVec 32×Int)
 |[]=>[]
 |e::l=>if e.2.1=k then l else e::mD k l
def MapC.set (m:MapC)(k:BitVec 32)(n:Int):MapC:=if(bB k m.es).isSome=true then⟨jf k n m.es,m.clock⟩ else⟨m.es++[(m.clock,k,n)],m.clock+1⟩
def pk (x y:Int):BitVec 32:=BitVec.ofNat 32 (x.toNat*65536+y.toNat)
def MapC.set2 (m:MapC)(k:BitVec 32)(n:Int):MapC:=⟨ku::(MapC.set ⟨m.es.tail,m.clock⟩ k n).es,(MapC.set ⟨m.es.tail,m.clock⟩ k n).clock⟩
def MapC.del (m:MapC)(k:BitVec 32):MapC:=⟨mD k m.es,m.clock⟩
structure Res where
 v:V
 pre:Prop:=True
 fp:List Nat:=[]
 old:List (Nat×Option Blk):=[]
 news:List (Option Blk):=[]
def ofValue:Value->V
 | .bool b=> .bool b
 | .int .u8 n=>if 0<=n/\n<256 then .u8 (BitVec.ofInt 8 n) else .junk
 | .int .u32 n=>if 0<=n/\n<4294967296 then .u32 (BitVec.ofInt 32 n) else .junk
 | .int .u64 n=>if 0<=n/\n<18446744073709551616 then .u64 (BitVec.ofInt 64 n) else .junk
 | .int .i64 n=> .i64 n
 | .int .i32 n=> .i32 n
 | .string s=> .str (bytesOf s)
 | .pointer none=> .nilPtr
 | .slice none 0 0=> .nilSlice
 | .nilFunc=> .nilFn
 | .nilIface=> .nilIface
 |_=> .junk
section
variable (P:Program)
def aR (t:TypeId):Option Nat:=(P.info? t).map (·.size)
def lG (t:TypeId):Option Nat:=(P.info? t).map (·.bytes)
def bM (t:TypeId):Option (List V):=(P.info? t).bind fun i=>i.zero.map fun z=>z.cells.toList.map ofValue
def bp (t:TypeId):Option Bool:=(P.underlying t).map fun | .struct _=>true| .array _ _=>true|_=>false
def aP (t:TypeId)(f:Nat):Option (Nat×TypeId):=match P.underlying t with
 |some (.struct fs)=>match fs[f]? with
  |some x=>some (x.offset,x.type)
  |none=>none
 |_=>none
def iH (t:TypeId):Option TypeId:=match P.underlying t with
 |some (.slice e)=>some e
 |_=>none
def qp (t:TypeId):Bool:=match P.underlying t with
 |some (.map k e)=>(match P.underlying k with|some (.int .u32)=>true|_=>false)&&(match (P.info? e).bind (·.zero) with|some (.int .i64 0)=>true|_=>false)
 |_=>false
def CY (k:TypeId):Bool:=match P.underlying k with
 |some (.array 2 el)=>(match P.underlying el with|some (.int .i64)=>true|_=>false)&&(match (P.info? el).map (·.size) with|some 1=>true|_=>false)
 |_=>false
def vE (t:TypeId):Bool:=match P.underlying t with
 |some (.map k e)=>CY P k&&(match (P.info? e).bind (·.zero) with|some (.int .i64 0)=>true|_=>false)
 |_=>false
def wi (t:TypeId):Option (Nat×TypeId):=match P.underlying t with
 |some (.array n e)=>some (n,e)
 |_=>none
end
def V.one:V->Bool
 | .junk| .aFn _ _ _| .agg _| .tup _=>false
 |_=>true
def V.cells:V->List V
 | .agg cs=>cs
 |v=>[v]
def p8 {n:Nat}(mk:BitVec n->V)(op:BinOp)(x y:BitVec n):Option Res:=
 match op with
 | .add=>some {v:=mk (x+y)}
 | .sub=>some {v:=mk (x-y)}
 | .mul=>some {v:=mk (x*y)}
 | .quo=>some {v:=mk (x/y),pre:=y≠0}
 | .rem=>some {v:=mk (x%y),pre:=y≠0}
 | .and=>some {v:=mk (x&&&y)}
 | .or=>some {v:=mk (x|||y)}
 | .xor=>some {v:=mk (x ^^^ y)}
 | .andNot=>some {v:=mk (x&&&~~~y)}
 | .eql=>some {v:= .bool (decide (x=y))}
 | .neq=>some {v:= .bool (decide (x≠y))}
 | .lss=>some {v:= .bool (decide (x<y))}
 | .leq=>some {v:= .bool (decide (x<=y))}
 | .gtr=>some {v:= .bool (decide (y<x))}
 | .geq=>some {v:= .bool (decide (y<=x))}
 |_=>none
def yQ (mk:Int->V)(w:Int->Int)(op:BinOp)(x y:Int):Option Res:=
 match op with
 | .add=>some {v:=mk (w (x+y))}
 | .sub=>some {v:=mk (w (x-y))}
 | .mul=>some {v:=mk (w (x*y))}
 | .quo=>some {v:=mk (w (x.tdiv y)),pre:=y≠0}
 | .rem=>some {v:=mk (x.tmod y),pre:=y≠0}
 | .eql=>some {v:= .bool (decide (x=y))}
 | .neq=>some {v:= .bool (decide (x≠y))}
 | .lss=>some {v:= .bool (decide (x<y))}
 | .leq=>some {v:= .bool (decide (x<=y))}
 | .gtr=>some {v:= .bool (decide (y<x))}
 | .geq=>some {v:= .bool (decide (y<=x))}
 |_=>none
def uK (op:BinOp)(x y:Int):Option Res:=
 match op with
 | .and=>some {v:= .i64 (Xk x y)}
 | .or=>some {v:= .i64 (ZZ x y)}
 | .xor=>some {v:= .i64 (ae8 x y)}
 |op=>yQ .i64 ao op x y
def s8 (op:BinOp)(x y:List ai):Option Res:=
 match op with
 | .add=>some {v:= .str (x++y),pre:=x.length+y.length<=4611686018427387904}
 | .eql=>some {v:= .bool (decide (x=y))}
 | .neq=>some {v:= .bool (decide (x≠y))}
 |_=>none
def wX:V->Option (Nat×Prop)
 | .u8 x=>some (x.toNat,True)
 | .u32 x=>some (x.toNat,True)
 | .u64 x=>some (x.toNat,True)
 | .i64 n=>some (n.toNat,0<=n)
 |_=>none
def sG (op:BinOp)(x:V)(n:Nat)(pre:Prop):Option Res:=
 match op,x with
 | .shl,.u8 x=>some {v:= .u8 (x<<<n),pre:=pre}
 | .shl,.u32 x=>some {v:= .u32 (x<<<n),pre:=pre}
 | .shl,.u64 x=>some {v:= .u64 (x<<<n),pre:=pre}
 | .shl,.i64 x=>some {v:= .i64 (F2 x n),pre:=pre}
 | .shr,.u8 x=>some {v:= .u8 (x>>>n),pre:=pre}
 | .shr,.u32 x=>some {v:= .u32 (x>>>n),pre:=pre}
 | .shr,.u64 x=>some {v:= .u64 (x>>>n),pre:=pre}
 | .shr,.i64 x=>some {v:= .i64 (HX x n),pre:=pre}
 |_,_=>none
def qg:V->Option Bool
 | .nilPtr| .nilSlice| .nilFn| .nilIface=>some true
 | .ptr _ _| .slice _ _ _ _| .fn _ _ _| .iface _ _=>some false
 |_=>none
def zu (P:Program)(t:TypeId)(x y:V):Bool:=match P.underlying t,x,y with
 |some (.pointer _),.nilPtr,.nilPtr|some (.pointer _),.ptr _ _,.nilPtr|some (.pointer _),.nilPtr,.ptr _ _=>true
 |some (.slice _),.nilSlice,.nilSlice|some (.slice _),.slice _ _ _ _,.nilSlice|some (.slice _),.nilSlice,.slice _ _ _ _=>true
 |some (.func _ _ _),.nilFn,.nilFn|some (.func _ _ _),.fn _ _ _,.nilFn|some (.func _ _ _),.nilFn,.fn _ _ _=>true
 |some (.interface _),.iface _ _,.nilIface|some (.interface _),.nilIface,.iface _ _=>true
 |_,_,_=>false
def V.beq1:V->V->Option Bool
 | .u8 x,.u8 y=>some (decide (x=y))
 | .u32 x,.u32 y=>some (decide (x=y))
 | .u64 x,.u64 y=>some (decide (x=y))
 | .i64 x,.i64 y=>some (decide (x=y))
 | .i32 x,.i32 y=>some (decide (x=y))
 | .bool x,.bool y=>some (decide (x=y))
 | .str x,.str y=>some (decide (x=y))
 |_,_=>none
def pC (P:Program)(t:TypeId)(x:V):Bool:=match P.underlying t,x with
 |some (.int _),.u8 _|some (.int _),.u32 _|some (.int _),.u64 _|some (.int _),.i64 _|some (.int _),.i32 _=>true
 |some .bool,.bool _|some .string,.str _=>true
 |_,_=>false
def yt:List Field→Nat→Bool
 |[],_=>true
 |f::fs,i=>f.offset==i&&f.name != "_"&&yt fs (i+1)
def zX (P:Program)(rec:TypeId→Option (List TypeId)):List Field→Nat→Option (List TypeId)
 |[],_=>some []
 |f::fs,i=>if(f.offset==i&&f.name != "_")=true then match rec f.type with
   |some l=>if aR P f.type=some l.length then(zX P rec fs (i+l.length)).map (l++·) else none
   |none=>none
  else none
def xJ (P:Program):Nat->TypeId->Option (List TypeId)
 |0,_=>none
 |d+1,t=>match P.underlying t with
  |some (.struct fs)=>if P.stoodInHeld t=true then none else zX P (xJ P d) fs.toList 0
  |some (.array _ _)=>none
  |_=>if aR P t=some 1 then some [t] else none
def Es (P:Program)(t:TypeId):Option (List TypeId):=match P.underlying t with
 |some (.struct fs)=>if yt fs.toList 0&&! P.stoodInHeld t&&! P.eqGuardType P.depth t then some (fs.toList.map (·.type)) else
   if P.eqGuardType P.depth t=true then none else match xJ P 4 t with
    |some l=>if aR P t=some l.length then some l else none
    |none=>none
 |some (.array n e)=>if aR P e==some 1&&! P.eqGuardType P.depth t then some (List.replicate n e) else none
 |_=>none
def da (P:Program):List TypeId->List V->List V->Option Bool
 |[],[],[]=>some true
 |t::f,x::xs,y::ys=>if pC P t x then match x.beq1 y,da P f xs ys with
  |some a,some b=>some (a&&b)
  |_,_=>none
  else none
 |_,_,_=>none
def tk (P:Program)(op:BinOp)(t:TypeId)(x y:V):Option Res:=
 match op with
 | .shl| .shr=>match wX y with
  |some (n,pre)=>sG op x n pre
  |none=>none
 |_=>match x,y with
  | .u8 x,.u8 y=>p8 .u8 op x y
  | .u32 x,.u32 y=>p8 .u32 op x y
  | .u64 x,.u64 y=>p8 .u64 op x y
  | .i64 x,.i64 y=>uK op x y
  | .str x,.str y=>s8 op x y
  | .i32 x,.i32 y=>match op with
   | .eql=>some {v:= .bool (decide (x=y))}
   | .neq=>some {v:= .bool (decide (x≠y))}
   | .sub=>some {v:= .i32 (IntKind.i32.wrap (x-y))}
   |_=>none
  | .bool x,.bool y=>if pC P t (.bool x) then match op with
   | .eql=>some {v:= .bool (decide (x=y))}
   | .neq=>some {v:= .bool (! decide (x=y))}
   |_=>none
   else none
  | .agg xs,.agg ys=>match Es P t with
   |some a=>match da P a xs ys with
    |some b=>match op with
     | .eql=>some {v:= .bool b}
     | .neq=>some {v:= .bool (! b)}
     |_=>none
    |none=>none
   |none=>none
  |x,y=>if zu P t x y then match op with
   | .eql=>some {v:= .bool (qg x==qg y)}
   | .neq=>some {v:= .bool (!(qg x==qg y))}
   |_=>none
   else none
def bC (P:Program)(t:TypeId):Option MapC:=match bM P t with
 |some [.nilPtr,.i64 _,.u32 _,.u32 _]=>some ⟨[],0⟩
 |_=>none
def yc (P:Program)(op:BinOp)(t:TypeId)(b o d f:Nat)(get:Nat->Option Blk):Option Res:=match P.underlying t,get b,get d with
 |some (.pointer e),some ⟨false,c::cs,some _⟩,some ⟨false,h::g,some _⟩=>match aR P e with
  |some (_+1)=>match op with
   | .eql=>some {v:= .bool (decide (b=d/\o=f)),fp:=[b,d]}
   | .neq=>some {v:= .bool (! decide (b=d/\o=f)),fp:=[b,d]}
   |_=>none
  |_=>none
 |_,_,_=>none
def pV (P:Program)(op:BinOp)(t:TypeId)(x y:V)(get:Nat->Option Blk):Option Res:=match x,y with
 | .ptr b o,.ptr a c=>yc P op t b o a c get
 |x,y=>tk P op t x y
def rL (op:UnOp)(x:V):Option Res:=
 match op,x with
 | .not,.bool b=>some {v:= .bool (! b)}
 | .neg,.u8 x=>some {v:= .u8 (-x)}
 | .neg,.u32 x=>some {v:= .u32 (-x)}
 | .neg,.u64 x=>some {v:= .u64 (-x)}
 | .neg,.i64 n=>some {v:= .i64 (ao (0-n))}
 | .xor,.u8 x=>some {v:= .u8 (~~~x)}
 | .xor,.u32 x=>some {v:= .u32 (~~~x)}
 | .xor,.u64 x=>some {v:= .u64 (~~~x)}
 |_,_=>none
def AB (k:IntKind)(x:V):Option V:=
 match k,x with
 | .u8,.u8 x=>some (.u8 x)
 | .u8,.u32 x=>some (.u8 (x.setWidth 8))
 | .u8,.u64 x=>some (.u8 (x.setWidth 8))
 | .u8,.i64 n=>some (.u8 (BitVec.ofInt 8 n))
 | .u32,.u8 x=>some (.u32 (x.setWidth 32))
 | .u32,.u32 x=>some (.u32 x)
 | .u32,.u64 x=>some (.u32 (x.setWidth 32))
 | .u32,.i64 n=>some (.u32 (BitVec.ofInt 32 n))
 | .u64,.u8 x=>some (.u64 (x.setWidth 64))
 | .u64,.u32 x=>some (.u64 (x.setWidth 64))
 | .u64,.u64 x=>some (.u64 x)
 | .u64,.i64 n=>some (.u64 (BitVec.ofInt 64 n))
 | .i64,.u8 x=>some (.i64 x.toNat)
 | .i64,.u32 x=>some (.i64 x.toNat)
 | .i64,.u64 x=>some (.i64 (ao x.toNat))
 | .i64,.i64 n=>some (.i64 (ao n))
 | .i64,.i32 n=>some (.i64 (ao n))
 |_,_=>none
def V.byte:V->BitVec 8
 | .u8 x=>x
 |_=>0
def uc (P:Program)(s d:TypeId)(x:V)(get:Nat->Option Blk)(nid:Nat):Option Res:=
 match P.underlying s,P.underlying d,x with
 |some (.int _),some (.int k),x=>(AB k x).map fun v=>{v}
 |some .string,some .string,.str b=>some {v:= .str b}
 |some .string,some (.slice e),.str b=>match P.underlying e with
  |some (.int .u8)=>some {v:= .slice nid 0 b.length 1,pre:=b.length<=4611686018427387904,news:=[bK (b.map .u8)]}
  |_=>none
 |some (.slice e),some .string,.nilSlice=>match P.underlying e with
  |some (.int .u8)=>some {v:= .str []}
  |_=>none
 |some (.slice e),some .string,.slice b o len 1=>match P.underlying e,get b with
  |some (.int .u8),some B=>some {v:= .str (((B.cs.drop o).take len).map V.byte),pre:=o+len<=B.cs.length/\∀ v∈(B.cs.drop o).take len,∃ x,v= .u8 x,fp:=[b]}
  |_,_=>none
 |_,_,_=>none
def V.nat?:V->Option Int
 | .u8 x=>some x.toNat
 | .u32 x=>some x.toNat
 | .u64 x=>some x.toNat
 | .i64 n=>some n
 | .i32 n=>some n
 |_=>none
def jr (z:List V):Nat->List V
 |0=>[]
 |n+1=>z++jr z n
def splice (cs:List V)(o:Nat)(xs:List V):List V:=match xs with
 |[x]=>cs.set o x
 |xs=>cs.take o++xs++cs.drop (o+xs.length)
def V.solid:V->Bool
 | .junk| .aFn _ _ _| .tup _=>false
 |_=>true
def lw (place:Nat->Option (Nat×Nat))(cells:List V):List (Nat×V)->Option (List V)
 |[]=>some cells
 |(i,v)::rest=>match place i with
  |none=>none
  |some (off,size)=>if v.solid=true/\v.cells.length=size/\off+size<=cells.length then lw place (splice cells off v.cells) rest else none
def bR (P:Program)(t:TypeId):Option (List V×(List (Nat×Nat) ⊕ Nat)):=match bM P t,P.underlying t with
 |some z,some (.struct fs)=>(fs.toList.mapM (fun f=>(P.info? f.type).map fun i=>(f.offset,i.size))).map fun pl=>(z,.inl pl)
 |some z,some (.array _ e)=>(aR P e).map fun s=>(z,.inr s)
 |_,_=>none
def nk:Option V->Option Int
 |none=>some 0
 |some v=>v.nat?
def mH (d:Nat):Option V->Option Int
 |none=>some d
 |some v=>v.nat?
def iy (get:Nat->Option Blk):V->Option (Nat×List V×Prop×List Nat)
 | .nilSlice=>some (0,[],True,[])
 | .str s=>some (s.length,s.map .u8,True,[])
 | .slice b o len c=>match get b with
  |some B=>some (len,(B.cs.drop o).take (len*c),o+len*c<=B.cs.length,[b])
  |none=>none
 |_=>none
def lv:V->Bool
 | .str _=>true
 |_=>false
def kW (s:Nat):V->Bool
 | .slice _ _ _ a=>a==s
 | .nilSlice=>true
 | .str _=>s==1
 |_=>false
def u4 (P:Program)(a:TypeId)(y:V):Bool:=match P.underlying a,y with
 |some (.slice _),.str _=>false
 |some (.slice _),_=>true
 |some .string,.str _=>true
 |_,_=>false
def iZ (n m c a:Nat)(x:V)(xs ys:List V)(p q:Prop)(f g:List Nat)(get:Nat->Option Blk)(nid:Nat):Res:=
 if m=0 then {v:=x,pre:=q,fp:=f++g}
 else {
  v:= .slice nid 0 (n+m) c
  pre:=p/\q/\((n+m)+(n+m)/4+192)*a<=281474976710656/\n+m<=281474976710656/\(∀ u∈ys,u.one=true)/\ys.length=m*c/\(∀ b∈f,∃ cs,get b=bK cs)
  fp:=f++g
  old:=f.map fun b=>(b,none)
  news:=[bK (xs++ys)]}
def oR (P:Program)(b:Builtin)(c:List TypeId)(args:List V)(get:Nat->Option Blk)(nid:Nat):Option Res:=
 match b,c,args with
 | .len,[t],[x]=>match P.underlying t,x with
  |some .string,.str s=>some {v:= .i64 s.length}
  |some (.array n _),_=>some {v:= .i64 n}
  |some (.slice _),.slice _ _ len _=>some {v:= .i64 len}
  |some (.slice _),.nilSlice=>some {v:= .i64 0}
  |some (.map _ _),.map b=>match get b with
   |some ⟨_,[],some m⟩=>some {v:= .i64 m.es.length,pre:=m.plain,fp:=[b]}
   |_=>none
  |_,_=>none
 | .delete,[t,_],[x,y]=>match qp P t,x,y with
  |true,.map b,.u32 k=>match get b with
   |some ⟨false,[],some m⟩=>some {v:= .tup [],pre:=m.plain,fp:=[b],old:=[(b,some ⟨false,[],some (m.del k)⟩)]}
   |_=>none
  |_,_,_=>none
 | .min,_,[.i64 x,.i64 y]=>some {v:= .i64 (if y<x then y else x)}
 | .max,_,[.i64 x,.i64 y]=>some {v:= .i64 (if y>x then y else x)}
 | .append,[t,i],[x,y]=>match iH P t,iy get x,iy get y with
  |some e,some (n,xs,p,f),some (m,ys,q,g)=>match aR P e,lG P e,bM P e with
   |some a,some d,some z=>if z.length=a/\0<a/\lv x=false/\kW a x=true/\kW a y=true/\u4 P i y=true then
     some (iZ n m a d x xs ys p q f g get nid) else none
   |_,_,_=>none
  |_,_,_=>none
 | .copy,[t,_],[x,y]=>match iH P t,x,iy get y with
  |some e,.slice b o len h,some (m,ys,q,g)=>match aR P e,get b with
   |some a,some ⟨false,cs,none⟩=>if a=1/\h=1/\kW 1 y=true then
     some {v:= .i64 (min m len:Nat),pre:=q/\o+len<=cs.length/\ys.length=m/\(∀ u∈ys,u.one=true),fp:=b::g,old:=[(b,bK (splice cs o (ys.take (min m len))))]} else none
   |_,_=>none
  |_,_,_=>none
 |_,_,_=>none
def fU (P:Program)(t:TypeId)(name:String):Option FuncId:=match P.info? t,P.underlying t with
 |some i,some d=>match i.methods.find? (·.name==name) with
  |some m=>if m.path.isEmpty=true then(match m.func,d with
   |some (f,true),.pointer _=>some f
   |some (_,true),_=>none
   |some (_,false),.pointer _=>none
   |some (f,false),_=>some f
   |none,_=>none) else none
  |none=>none
 |_,_=>none
def yF (P:Program)(t:TypeId):Bool:=match P.underlying t with
 |some (.interface _)=>false
 |some _=>true
 |none=>false
def bP (P:Program)(o:Op)(ev:Operand->V)(get:Nat->Option Blk)(nid:Nat):Option Res:=
 match o with
 | .move x| .assign x=>some {v:=ev x}
 | .pick c a b=>match ev c with
  | .bool c=>some {v:=if c then ev a else ev b}
  |_=>none
 | .alloc e=>match bM P e with
  |some z=>some {v:= .ptr nid 0,news:=[some ⟨false,z,bC P e⟩]}
  |none=>none
 | .box t x=>match bC P t with
  |none=>match ev x with
   | .junk| .aFn _ _ _| .tup _=>none
   |v=>some {v:= .ptr nid 0,news:=[bK (v.cells)]}
  |some m=>match ev x with
   | .agg (c::cs)=>some {v:= .ptr nid 0,news:=[some ⟨false,c::cs,some m⟩]}
   |_=>none
 | .build t parts=>match bR P t with
  |some (z,.inl pl)=>(lw (fun i=>pl[i]?) z (parts.toList.map fun x=>(x.1,ev x.2))).map fun cs=>{v:= .agg cs}
  |some (z,.inr s)=>(lw (fun i=>some (i*s,s)) z (parts.toList.map fun x=>(x.1,ev x.2))).map fun cs=>{v:= .agg cs}
  |none=>none
 | .buildSlice t len parts=>match iH P t with
  |some e=>match aR P e,bM P e with
   |some s,some z=>if z.length=s/\0<s/\len*s<=1048576 then(lw (fun i=>some (i*s,s)) (jr z len) (parts.toList.map fun x=>(x.1,ev x.2))).map fun cs=>
     {v:= .slice nid 0 len s,news:=[bK cs]} else none
   |_,_=>none
  |none=>none
 | .load t a=>match ev a with
  | .ptr b o=>match get b,bp P t,aR P t with
   |some B,some true,some s=>some {v:= .agg ((B.cs.drop o).take s),pre:=o+s<=B.cs.length,fp:=[b]}
   |some B,some false,some _=>some {v:=B.cs.getD o .junk,pre:=o<B.cs.length,fp:=[b]}
   |_,_,_=>none
  |_=>none
 | .store t a x=>match ev a with
  | .ptr b o=>match get b,aR P t with
   |some ⟨false,cs,none⟩,some s=>if(ev x).cells.length=s then
     some {v:= .junk,pre:=o+s<=cs.length/\∀ u∈(ev x).cells,u.one=true,fp:=[b],old:=[(b,bK (splice cs o (ev x).cells))]} else none
   |some ⟨false,c::cs,some m⟩,some s=>if(ev x).cells.length=s then
     some {v:= .junk,pre:=o+s<=(c::cs).length/\∀ u∈(ev x).cells,u.one=true,fp:=[b],old:=[(b,some ⟨false,splice (c::cs) o (ev x).cells,some m⟩)]} else none
   |_,_=>none
  |_=>none
 | .nilCheck x=>match ev x with
  | .ptr b o=>some {v:= .ptr b o}
  | .fn f a c=>some {v:= .fn f a c}
  | .aFn q t v=>if(fU P t q).isSome=true then some {v:= .aFn q t v} else none
  | .iface t v=>some {v:= .iface t v}
  |_=>none
 | .binOp op t x y _=>pV P op t (ev x) (ev y) get
 | .unOp op _ x=>rL op (ev x)
 | .makeMap t none=>if qp P t=true then some {v:= .map nid,news:=[some ⟨false,[],some ⟨[],0⟩⟩]} else if vE P t=true then some {v:= .map nid,news:=[some ⟨false,[],some ⟨[ku],0⟩⟩]} else none
 | .lookup t x i ok=>match qp P t,ev x,ev i with
  |true,.map b,.u32 k=>match get b with
   |some ⟨_,[],some m⟩=>some {v:=if ok then .tup [.i64 ((bB k m.es).getD 0),.bool (bB k m.es).isSome] else .i64 ((bB k m.es).getD 0),pre:=m.plain,fp:=[b]}
   |_=>none
  |false,.map b,.agg [.i64 x,.i64 y]=>match vE P t,ok,get b with
   |true,false,some ⟨_,[],some m⟩=>some {v:= .i64 ((bB (pk x y) m.es.tail).getD 0),pre:=m.pairy/\0<=x/\x<65536/\0<=y/\y<65536,fp:=[b]}
   |_,_,_=>none
  |_,_,_=>none
 | .mapUpdate t x i y=>match qp P t,ev x,ev i,ev y with
  |true,.map b,.u32 k,.i64 n=>match get b with
   |some ⟨false,[],some m⟩=>some {v:= .junk,pre:=m.plain/\n<1180591620717411303424,fp:=[b],old:=[(b,some ⟨false,[],some (m.set k n)⟩)]}
   |_=>none
  |false,.map b,.agg [.i64 x,.i64 y],.i64 n=>match vE P t,get b with
   |true,some ⟨false,[],some m⟩=>some {v:= .junk,pre:=m.pairy/\0<=x/\x<65536/\0<=y/\y<65536,fp:=[b],old:=[(b,some ⟨false,[],some (m.set2 (pk x y) n)⟩)]}
   |_,_=>none
  |_,_,_,_=>none
 | .makeInterface t x=>if yF P t=true then some {v:= .iface t (ev x)} else none
 | .convert s d x=>uc P s d (ev x) get nid
 | .sliceToArrayPointer t x=>match wi P t,ev x with
  |some (n,_),.slice b o len _=>some {v:= .ptr b o,pre:=n<=len/\0<len}
  |_,_=>none
 | .makeFunc fn first caps=>match fn with
  | .func f=>some {v:= .fn f (first.toList.map ev) (caps.toList.map ev)}
  | .method q=>match first.toList.map ev with
   |[.iface t v]=>if caps.isEmpty=true then some {v:= .aFn q t v} else none
   |_=>none
  |_=>none
 | .makeSlice t l c=>match iH P t,ev l,ev c with
  |some e,.i64 n,.i64 m=>match aR P e,lG P e,bM P e with
   |some s,some w,some z=>if z.length=s/\0<s then some {v:= .slice nid 0 n.toNat s,pre:=n=m/\0<=n/\n*w<=140737488355328/\n<=140737488355328,news:=[bK (jr z n.toNat)]} else none
   |_,_,_=>none
  |_,_,_=>none
 | .slice t x lo r A=>if A.isSome then none else match P.underlying t,ev x with
  |some .string,.str s=>match nk (lo.map ev),mH s.length (r.map ev) with
   |some l,some h=>some {v:= .str ((s.take h.toNat).drop l.toNat),pre:=0<=l/\l<=h/\h<=s.length}
   |_,_=>none
  |some (.slice e),.slice b o len g=>match nk (lo.map ev),mH len (r.map ev) with
   |some l,some h=>match aR P e with
    |some s=>if s=g then some {v:= .slice b (o+l.toNat*g) (h-l).toNat g,pre:=0<=l/\l<=h/\h<=len} else none
    |none=>none
   |_,_=>none
  |some (.slice e),.nilSlice=>match nk (lo.map ev),mH 0 (r.map ev),aR P e with
   |some l,some h,some _=>some {v:= .nilSlice,pre:=l=0/\h=0}
   |_,_,_=>none
  |some (.array n e),.ptr b o=>match nk (lo.map ev),mH n (r.map ev),aR P e,get b with
   |some l,some h,some s,some ⟨false,cs,none⟩=>some {v:= .slice b (o+l.toNat*s) (h-l).toNat s,pre:=0<=l/\l<=h/\h<=n/\o+n*s<=cs.length,fp:=[b]}
   |_,_,_,_=>none
  |_,_=>none
 | .fieldAddr s x f=>match aP P s f,ev x with
  |some (off,C),.ptr b o=>match aR P C with
   |some n=>if n=0 then none else some {v:= .ptr b (o+off)}
   |none=>none
  |_,_=>none
 | .indexAddr t x i=>match P.underlying t,ev x,(ev i).nat? with
  |some (.array n e),.ptr b o,some i=>match aR P e with
   |some s=>some {v:= .ptr b (o+i.toNat*s),pre:=0<=i/\i<n}
   |none=>none
  |some (.slice e),.slice b o len g,some i=>match aR P e with
   |some s=>if s=g then some {v:= .ptr b (o+i.toNat*s),pre:=0<=i/\i<len} else none
   |none=>none
  |_,_,_=>none
 | .index t x i=>match P.underlying t,ev x,(ev i).nat? with
  |some (.array n e),.agg cs,some i=>match bp P e,aR P e with
   |some false,some s=>some {v:=cs.getD (i.toNat*s) .junk,pre:=0<=i/\i<n/\i.toNat*s<cs.length}
   |some true,some s=>some {v:= .agg ((cs.drop (i.toNat*s)).take s),pre:=0<=i/\i<n}
   |_,_=>none
  |some .string,.str s,some i=>some {v:= .u8 (s.getD i.toNat 0),pre:=0<=i/\i<s.length}
  |_,_,_=>none
 | .extract t i=>match ev t with
  | .tup vs=>match vs[i]? with
   |some v=>some {v}
   |none=>none
  |_=>none
 | .call c=>match c.callee with
  | .builtin b=>oR P b c.argTypes.toList (c.args.toList.map ev) get nid
  |_=>none
 |_=>none
end
def cU (dom:Nat->Prop)(nid k:Nat):Nat->Prop:=fun b=>dom b\/(nid<=b/\b<nid+k)
def gQ:List (Nat×Option Blk)->Nat->Option Blk->Option Blk
 |[],_,d=>d
 |(i,x)::r,b,d=>if b=i then x else gQ r b d
def bZ (get:Nat->Option Blk)(old:List (Nat×Option Blk))(nid:Nat)(news:List (Option Blk)):Nat->Option Blk:=
 fun b=>if nid<=b/\b<nid+news.length then(news[b-nid]?).join else gQ old b (get b)
theorem p9 (get:Nat->Option Blk)(nid:Nat):bZ get [] nid []=get:=by
 funext b;unfold bZ;rw[if_neg ae];rfl
theorem xu (get:Nat->Option Blk)(i:Nat)(x:Option Blk)(nid:Nat):bZ get [(i,x)] nid []=fun b=>if b=i then x else get b:=by
 funext b;unfold bZ;rw[if_neg ae];rfl
theorem FU (get:Nat->Option Blk)(nid:Nat)(x:Option Blk):bZ get [] nid [x]=fun b=>if b=nid then x else get b:=by
 funext b;unfold bZ;by_cases h:b=nid
 ·subst h;simp
 ·rw[if_neg (by simp;omega),if_neg h];rfl
theorem MemRel.monoDom {ρ:Nat->Nat×Nat}{dom dom':Nat->Prop}{get:Nat->Option Blk}{w:World}(h:MemRel ρ dom get w)(c:∀ b,dom b->dom' b):MemRel ρ dom' get w:=
 ⟨fun b B a=>c b (h.has b B a),h.lt,h.inj,fun b B a i v d=>by
  obtain⟨r,h1,h2⟩:=h.cell b B a i v d;exact⟨r,h1,h2.mono (fun _ _=>rfl) c (Lasts.refl w)⟩,h.free,h.mapc⟩
theorem MemRel.less {ρ:Nat->Nat×Nat}{dom:Nat->Prop}{get c:Nat->Option Blk}{w:World}(h:MemRel ρ dom get w)(d:∀ b B,c b=some B->get b=some B):MemRel ρ dom c w:=
 ⟨fun b B a=>h.has b B (d b B a),fun b B a=>h.lt b B (d b B a),fun b i B B' a f k g=>h.inj b i B B' (d b B a) (d i B' f) k g,
  fun b B a=>h.cell b B (d b B a),fun b B a=>h.free b B (d b B a),fun b B m a=>h.mapc b B m (d b B a)⟩
structure Alike (w w1:World):Prop where
 heap:w1.heap=w.heap
 os:w1.os=w.os
 output:w1.output=w.output
 tape:w1.tape=w.tape
theorem Alike.refl (w:World):Alike w w:=⟨rfl,rfl,rfl,rfl⟩
theorem Alike.drew (w:World):Alike w w.drew:=⟨rfl,rfl,rfl,rfl⟩
theorem Alike.cell {w w1:World}(h:Alike w w1)(a:Addr):w1.cell? a=w.cell? a:=by unfold World.cell?;rw[h.heap]
theorem Alike.frozen {w w1:World}(h:Alike w w1)(a:Addr):w1.frozen? a=w.frozen? a:=by unfold World.frozen?;rw[h.heap]
theorem Alike.lasts {w w1:World}(h:Alike w w1):Lasts w w1:=fun b o hc=>⟨by rw[h.cell];exact hc,fun a=>by rw[h.frozen];exact a⟩
theorem MemRel.alike {ρ:Nat->Nat×Nat}{dom:Nat->Prop}{get:Nat->Option Blk}{w w1:World}(h:MemRel ρ dom get w)(k:Alike w w1):MemRel ρ dom get w1:=
 ⟨h.has,fun b B a=>by rw[k.heap];exact h.lt b B a,h.inj,fun b B a i v c=>by
  obtain⟨r,h1,h2⟩:=h.cell b B a i v c;exact⟨r,by rw[k.cell];exact h1,h2.mono (fun _ _=>rfl) (fun _ d=>d) k.lasts⟩,fun b B a e i f=>by rw[k.frozen];exact h.free b B a e i f,fun b B m a g=>nf (h.mapc b B m a g) (by rw[k.heap])⟩
theorem Frame.alike {ρ:Nat->Nat×Nat}{get:Nat->Option Blk}{w w1:World}(k:Alike w w1):Frame ρ get w ρ get w1:=
 ⟨k.os,k.output,k.tape,by rw[k.heap];exact aH _,fun r _ _=>by rw[k.heap],k.lasts,fun b B h a=> .inl ⟨b,B,h,a,rfl⟩⟩
theorem Ct (w:World)(o:Obj):Lasts w (w.alloc o):=fun b p hc=>by
 obtain⟨u,hu⟩:=rV.1 hc;have c:=World.block_lt_of_cell? _ _ hu;have a:(⟨b,p,none⟩:Addr).block≠w.heap.size:=vO c;exact⟨by rw[World.cell?_alloc_old _ _ _ a];exact hc,fun d=>by rw[World.frozen?_alloc_old _ _ _ a];exact d⟩
def jt (ρ:Nat->Nat×Nat)(nid:Nat)(x:Nat×Nat):Nat->Nat×Nat:=fun b=>if b=nid then x else ρ b
theorem rD {ρ:Nat->Nat×Nat}{dom:Nat->Prop}{nid:Nat}{x:Nat×Nat}(h:¬ dom nid):∀ b,dom b->jt ρ nid x b=ρ b:=fun b a=>by
 unfold jt;rw[if_neg (fun e=>by subst e;exact h a)]
theorem fX {ρ:Nat->Nat×Nat}{nid:Nat}{x:Nat×Nat}:jt ρ nid x nid=x:=by unfold jt;rw[if_pos rfl]
theorem cell?_alloc_fz (w:World)(c:Array Value)(e:TypeId)(fz:Nat×Nat)(i:Nat):(w.alloc (.cells c e fz)).cell? ⟨w.heap.size,i,none⟩=c[i]?:=by
 unfold World.alloc World.cell?;simp[-World.alloc_eq]
theorem frozen?_alloc_fz (w:World)(c:Array Value)(e:TypeId)(fz:Nat×Nat)(i:Nat):(w.alloc (.cells c e fz)).frozen? ⟨w.heap.size,i,none⟩=(decide (fz.1<=i)&&decide (i<fz.2)):=by
 unfold World.alloc World.frozen?;simp[-World.alloc_eq]
theorem aaW {ρ:Nat->Nat×Nat}{dom:Nat->Prop}{get:Nat->Option Blk}{w:World}(h:MemRel ρ dom get w){nid:Nat}(E:¬ dom nid)
  (c:Array Value) (e:TypeId) (fz:Nat×Nat) (cs:List V) (s:∀ (i:Nat) v,cs[i]?=some v->∃ r,c[i]?=some r/\VR ρ dom w v r) (t:∀ i,i<cs.length->¬ (fz.1<=i/\i<fz.2)) (mp:Option MapC) (u:∀ m,mp=some m->cs≠[]/\fz=(0,0)):
  MemRel (jt ρ nid (w.heap.size,0)) (cU dom nid 1) (bZ get [] nid [some ⟨false,cs,mp⟩]) (w.alloc (.cells c e fz))/\
  Frame ρ get w (jt ρ nid (w.heap.size,0)) (bZ get [] nid [some ⟨false,cs,mp⟩]) (w.alloc (.cells c e fz)):=by
 have hold:=rD (ρ:=ρ) (x:=(w.heap.size,0)) E;have y:=Ct w (.cells c e fz);have p:∀ b,dom b->cU dom nid 1 b:=fun b d=> .inl d
 rw[FU];have a:∀ b B,b≠nid->(fun b=>if b=nid then some (⟨false,cs,mp⟩:Blk) else get b) b=some B->get b=some B:=fun b B d g=>by simpa [d] using g
 have f:∀ b B,b≠nid->get b=some B->jt ρ nid (w.heap.size,0) b=ρ b:=fun b B d g=>hold b (h.has b B g)
 refine⟨⟨fun b B g=>?_,fun b B g=>?_,fun b l B B' g j n q=>?_,fun b B g i v A=>?_,fun b B g n i C=>?_,fun b B m g D=>?_⟩,
  ⟨rfl,rfl,rfl,ae,fun r n _=>?_,y,fun b B g n=>?_⟩⟩
 ·by_cases d:b=nid
  ·exact .inr ⟨aa,aa⟩
  ·exact .inl (h.has b B (a b B d g))
 ·by_cases d:b=nid
  ·subst d;rw[fX];simp
  ·have :=h.lt b B (a b B d g);rw[f b B d (a b B d g)];simp;omega
 ·by_cases d:b=nid
  ·subst d;have k:l≠b:=fun e=>q e.symm
   have :=h.lt l B' (a l B' k j);rw[fX,f l B' k (a l B' k j)];simp only;omega
  ·have h1:=a b B d g;rw[f b B d h1];by_cases k:l=nid
   ·subst k;rw[fX];have :=h.lt b B h1;simp only;omega
   ·have h2:=a l B' k j;rw[f l B' k h2];exact h.inj b l B B' h1 h2 n q
 ·by_cases d:b=nid
  ·subst d;have j:(⟨false,cs,mp⟩:Blk)=B:=by simpa using g
   subst j;obtain⟨r,h1,h2⟩:=s i v A;refine⟨r,?_,h2.mono hold p y⟩;rw[fX];simpa using(cell?_alloc_fz w c e fz i).trans h1
  ·have h1:=a b B d g;obtain⟨r,h2,F⟩:=h.cell b B h1 i v A;refine⟨r,?_,F.mono hold p y⟩;rw[f b B d h1,World.cell?_alloc_lt _ _ _ (h.lt b B h1)];exact h2
 ·by_cases d:b=nid
  ·subst d;have j:(⟨false,cs,mp⟩:Blk)=B:=by simpa using g
   subst j;rw[fX];have :=frozen?_alloc_fz w c e fz i;have G:=t i C;simp only[cw];rw[this];simpa using G
  ·have h1:=a b B d g;rw[f b B d h1,World.frozen?_alloc_old _ _ _ (vO (h.lt b B h1))];exact h.free b B h1 n i C
 ·by_cases d:b=nid
  ·subst d;have j:(⟨false,cs,mp⟩:Blk)=B:=by simpa using g
   subst j;obtain⟨z,rfl⟩:=u m D;rw[fX];show pY _ w.heap.size cs m;cases cs with
   |nil=>exact absurd rfl z
   |cons x cs=>
    intro o;rw[frozen?_alloc_fz];simp
  ·have h1:=a b B d g;rw[f b B d h1];refine nf (h.mapc b B m h1 D) ?_;show(w.heap.push _)[_]?=_;rw[DP,if_neg (by have :=h.lt b B h1;omega)]
 ·show(w.heap.push _)[r]?=_;rw[DP,if_neg aa]
 ·by_cases d:b=nid
  ·subst d;right;rw[fX];exact aH _
  ·have h1:=a b B d g;exact .inl ⟨b,B,h1,n,(by rw[f b B d h1])⟩
theorem xr (b:Nat):∀ (vs:List Value) (o:Nat) (w:World) (r:Nat),r≠b->(w.setCells b o vs).heap[r]?=w.heap[r]?
 |[],_,_,_,_=>rfl
 |v::vs,o,w,r,h=>by
  rw[World.setCells,xr b vs _ _ r h];exact heap_setCell_other _ _ _ _ h
theorem wL (b:Nat):∀ (vs:List Value) (o:Nat) (w:World),(w.setCells b o vs).heap.size=w.heap.size
 |[],_,_=>rfl
 |v::vs,o,w=>by rw[World.setCells,wL b vs];simp
theorem sj (b:Nat):∀ (vs:List Value) (o:Nat) (w:World),(w.setCells b o vs).os=w.os/\(w.setCells b o vs).output=w.output/\(w.setCells b o vs).tape=w.tape
 |[],_,_=>⟨rfl,rfl,rfl⟩
 |v::vs,o,w=>by rw[World.setCells];exact sj b vs _ _
theorem agS (w:World)(a x:Addr)(v:Value)(h:(w.cell? x).isSome=true):((w.setCell a v).cell? x).isSome=true:=by
 by_cases e:a=x
 ·subst e;obtain⟨u,hu⟩:=rV.1 h;rw[World.cell?_setCell_same _ _ _ hu];rfl
 ·rw[World.cell?_setCell_other _ _ _ _ e];exact h
theorem KR (b:Nat):∀ (vs:List Value) (o:Nat) (w:World) (x:Addr),(w.cell? x).isSome=true->((w.setCells b o vs).cell? x).isSome=true
 |[],_,_,_,h=>h
 |v::vs,o,w,x,h=>by rw[World.setCells];exact KR b vs _ _ x (agS w _ x v h)
theorem lasts_setCells (b o:Nat)(vs:List Value)(w:World):Lasts w (w.setCells b o vs):=fun p q hc=>
 ⟨KR b vs o w _ hc,fun a=>by rw[World.frozen?_setCells];exact a⟩
theorem Ax {cs:List V}{o:Nat}{xs:List V}(h:o+xs.length<=cs.length)(i:Nat):(splice cs o xs)[i]?=if o<=i/\i<o+xs.length then xs[i-o]? else cs[i]?:=by
 unfold splice;split
 ·rename_i x;rw[wH];simp at h;by_cases e:o=i
  ·subst e;rw[if_pos rfl,if_pos aa,if_pos ae];simp
  ·rw[if_neg e,if_neg (by simp;omega)]
 ·by_cases h1:i<o
  ·rw[dV,gh (by simp;omega),if_neg aa,oK,if_pos h1]
  ·by_cases h2:i<o+xs.length
   ·rw[if_pos ⟨aa,h2⟩,gh (by simp;omega),dL (by simp;omega)];congr 1;simp;omega
   ·rw[if_neg aa,dL (by simp;omega),il];congr 1;simp;omega
theorem rq {cs:List V}{o:Nat}{xs:List V}(h:o+xs.length<=cs.length):(splice cs o xs).length=cs.length:=by
 unfold splice;split
 ·simp
 ·simp;omega
theorem yM {ρ:Nat->Nat×Nat}{dom:Nat->Prop}{get:Nat->Option Blk}{w:World}(h:MemRel ρ dom get w){b o nid:Nat}{cs xs:List V}{rs:List Value}
  {mp:Option MapC} (A:∀ m,mp=some m->cs≠[]) (l:get b=some ⟨false,cs,mp⟩) (G:VRs ρ dom w xs rs) (n:o+xs.length<=cs.length):
  MemRel ρ (cU dom nid 0) (bZ get [(b,some ⟨false,splice cs o xs,mp⟩)] nid []) (w.setCells (ρ b).1 ((ρ b).2+o) rs)/\
  Frame ρ get w ρ (bZ get [(b,some ⟨false,splice cs o xs,mp⟩)] nid []) (w.setCells (ρ b).1 ((ρ b).2+o) rs):=by
 have H:=G.length;have z:=lasts_setCells (ρ b).1 ((ρ b).2+o) rs w;have p:∀ b,dom b->cU dom nid 0 b:=fun b l=> .inl l
 rw[xu];have k:∀ a B,a≠b->(fun a=>if a=b then some (⟨false,splice cs o xs,mp⟩:Blk) else get a) a=some B->get a=some B:=fun a B f d=>by simpa [f] using d
 have q:∀ B,(fun a=>if a=b then some (⟨false,splice cs o xs,mp⟩:Blk) else get a) b=some B->B=⟨false,splice cs o xs,mp⟩:=fun B d=>by simpa using d.symm
 have c:∀ a B,(fun a=>if a=b then some (⟨false,splice cs o xs,mp⟩:Blk) else get a) a=some B->∃ B0,get a=some B0/\B0.ro=B.ro/\B0.cs.length=B.cs.length:=fun a B d=>by
  by_cases e:a=b
  ·subst e;rw[q B d];exact⟨_,l,rfl,by simp[rq n]⟩
  ·exact⟨B,k a B e d,rfl,rfl⟩
 refine⟨⟨fun a B d=>?_,fun a B d=>?_,fun I J B1 B2 h1 h2 t f=>?_,fun a B d i v s=>?_,fun a B d t i C=>?_,fun a B m d K=>?_⟩,
  ⟨(sj _ _ _ _).1,(sj _ _ _ _).2.1,(sj _ _ _ _).2.2,by rw[wL];exact aH _,fun r t D=>?_,z,fun a B d t=>?_⟩⟩
 ·obtain⟨B0,h1,_⟩:=c a B d;exact .inl (h.has a B0 h1)
 ·obtain⟨B0,h1,_⟩:=c a B d;rw[wL];exact h.lt a B0 h1
 ·obtain⟨B3,L,M,_⟩:=c I B1 h1;obtain⟨B5,N,_⟩:=c J B2 h2;exact h.inj I J B3 B5 L N (M.trans t) f
 ·by_cases e:a=b
  ·subst e;rw[q B d] at s;rw[Ax n] at s;by_cases C:o<=i/\i<o+xs.length
   ·rw[if_pos C] at s;obtain⟨r,h1,h2⟩:=G.get s;refine⟨r,?_,h2.mono (fun _ _=>rfl) p z⟩;have E:i-o<rs.length:=aa;have :=World.cell?_setCells_in (ρ a).1 rs ((ρ a).2+o) w (fun j E=>by
     obtain⟨u,hu,_⟩:=h.cell a _ l (o+j) (cs[o+j]'(aa)) ae;rw[show(ρ a).2+o+j=(ρ a).2+(o+j) by omega,hu];rfl) (i-o) E
    rw[show(ρ a).2+o+(i-o)=(ρ a).2+i by omega] at this;rw[this,<-h1];simp[E]
   ·rw[if_neg C] at s;obtain⟨r,h1,h2⟩:=h.cell a _ l i v s;refine⟨r,?_,h2.mono (fun _ _=>rfl) p z⟩;rw[World.cell?_setCells_out _ _ _ _ _ (fun _ _=>by simp only;omega)];exact h1
  ·have h0:=k a B e d;obtain⟨r,h1,h2⟩:=h.cell a B h0 i v s;refine⟨r,?_,h2.mono (fun _ _=>rfl) p z⟩;have f:=h.inj b a _ B l h0 rfl (fun x=>e x.symm);rw[World.cell?_setCells_out _ _ _ _ _ (fun x _=>absurd x.symm f)];exact h1
 ·obtain⟨B0,h1,h2,L⟩:=c a B d;rw[World.frozen?_setCells];exact h.free a B0 h1 (h2.trans t) i aa
 ·by_cases e:a=b
  ·subst e;have F:=q B d;subst F;have y:mp=some m:=K;have g:=h.mapc a _ m l y;have hc:=A m y;refine xP (cs:=cs) ?_ (rq n);change pY w (ρ a).1 cs m at g;cases cs with
   |nil=>exact absurd rfl hc
   |cons x cs=>
    intro i;rw[World.frozen?_setCells];exact g i
  ·have h0:=k a B e d;have f:=h.inj b a _ B l h0 rfl (fun x=>e x.symm);exact nf (h.mapc a B m h0 K) (xr _ _ _ _ _ (fun e=>f e.symm))
 ·refine xr _ _ _ _ _ (fun e=>D b _ l rfl e.symm)
 ·obtain⟨B0,h1,h2,_⟩:=c a B d;exact .inl ⟨a,B0,h1,h2.trans t,rfl⟩
end Go.Vm
end
