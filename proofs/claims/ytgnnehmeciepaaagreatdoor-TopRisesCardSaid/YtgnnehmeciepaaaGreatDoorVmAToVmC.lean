/- Proved: laws of a machine of values, or what a function answers; no conditions but each theorem's own. -/
import Derived.Deep.AppendSrc
import Derived.Deep.MidRow
import Derived.Orders
set_option linter.unusedVariables false
set_option linter.unusedSimpArgs false
set_option linter.unusedSectionVars false
set_option maxRecDepth 20000
set_option maxHeartbeats 8000000
section
namespace Go.Vm
abbrev ac:=BitVec 8
inductive V where
 |junk
 |bool (b:Bool)
 |u8 (x:BitVec 8)
 |u32 (x:BitVec 32)
 |u64 (x:BitVec 64)
 |i64 (n:Int)
 |i32 (n:Int)
 |str (s:List ac)
 |ptr (b o:Nat)
 |nilPtr
 |slice (b o len esz:Nat)
 |nilSlice
 |fn (f:FuncId) (first caps:List V)
 |nilFn
 |aFn (name:String) (t:TypeId) (v:V)
 |agg (cs:List V)
 |tup (vs:List V)
 |iface (t:TypeId) (v:V)
 |nilIface
 |map (b:Nat)
 deriving Inhabited
def bytesOf (b:ByteArray):List ac:=b.data.toList.map UInt8.toBitVec
def sR (l:List ac):ByteArray:=⟨(l.map UInt8.ofBitVec).toArray⟩
theorem xR (l:List ac):bytesOf (sR l)=l:=by
 unfold bytesOf sR
 simp only[List.map_map]
 conv=>rhs;rw[←List.map_id l]
 exact List.map_congr_left fun _ _=>rfl
theorem xS (b:ByteArray):sR (bytesOf b)=b:=by
 unfold bytesOf sR
 simp only[List.map_map]
 have :(b.data.toList.map (UInt8.ofBitVec∘UInt8.toBitVec))=b.data.toList:=by
  conv=>rhs;rw[←List.map_id b.data.toList]
  exact List.map_congr_left fun _ _=>rfl
 rw[this]
theorem iI (b:ByteArray):(bytesOf b).length=b.size:=by
 unfold bytesOf;rw[List.length_map,Array.length_toList];rfl
theorem F9 {a b:ByteArray}(h:bytesOf a=bytesOf b):a=b:=by
 rw[←xS a,h,xS]
structure MapC where
 es:List (Nat×BitVec 32×Int)
 clock:Nat
 deriving Inhabited
def cx (e:Nat×BitVec 32×Int):MapEntry:={key:= .int .u32 e.2.1.toNat,val:= .int .i64 e.2.2,born:=e.1}
def MapC.obj (m:MapC):Obj:= .map (m.es.map cx).toArray m.clock
structure Blk where
 ro:Bool
 cs:List V
 mp:Option MapC
 deriving Inhabited
mutual
def VR (ρ:Nat→Nat×Nat)(dom:Nat→Prop)(w:World):V→Value→Prop
 | .junk,_=>True
 | .bool b,r=>r= .bool b
 | .u8 x,r=>r= .int .u8 x.toNat
 | .u32 x,r=>r= .int .u32 x.toNat
 | .u64 x,r=>r= .int .u64 x.toNat
 | .i64 n,r=>r= .int .i64 n
 | .i32 n,r=>r= .int .i32 n
 | .str s,r=>∃ b,r= .string b∧bytesOf b=s
 | .ptr b o,r=>dom b∧r= .pointer (some ⟨(ρ b).1,(ρ b).2+o,none⟩)
 | .nilPtr,r=>r= .pointer none
 | .slice b o len esz,r=>dom b∧∃ a cap,r= .slice (some a) len cap∧len≤cap∧
   (cap≠0→a=⟨(ρ b).1,(ρ b).2+o,none⟩∧w.there (ρ b).1 ((ρ b).2+o) (cap*esz))
 | .nilSlice,r=>r= .slice none 0 0
 | .fn f fs cs,r=>∃ f' c',r= .func (.func f) f' c'∧VRs ρ dom w fs f'.toList∧VRs ρ dom w cs c'.toList
 | .nilFn,r=>r= .nilFunc
 | .aFn nm t v,r=>∃ x,r= .func (.method nm) #[.iface t x] #[]∧VR ρ dom w v x
 | .agg cs,r=>∃ a,r= .agg a∧VRs ρ dom w cs a.toList
 | .tup cs,r=>∃ a,r= .tuple a∧VRs ρ dom w cs a.toList
 | .iface t v,r=>∃ r',r= .iface t r'∧VR ρ dom w v r'
 | .nilIface,r=>r= .nilIface
 | .map b,r=>dom b∧r= .map (some (ρ b).1)
def VRs (ρ:Nat→Nat×Nat)(dom:Nat→Prop)(w:World):List V→List Value→Prop
 |[],l=>l=[]
 |v::vs,l=>∃ r rs,l=r::rs∧VR ρ dom w v r∧VRs ρ dom w vs rs
end
def Lasts (w w':World):Prop:=∀ b o,(w.cell? ⟨b,o,none⟩).isSome=true→(w'.cell? ⟨b,o,none⟩).isSome=true∧(w.frozen? ⟨b,o,none⟩=false→w'.frozen? ⟨b,o,none⟩=false)
theorem Lasts.refl (w:World):Lasts w w:=fun _ _ h=>⟨h,id⟩
theorem Lasts.trans {a b c:World}(h:Lasts a b)(k:Lasts b c):Lasts a c:=fun p o hp=>
 ⟨(k p o (h p o hp).1).1,fun hf=>(k p o (h p o hp).1).2 ((h p o hp).2 hf)⟩
theorem Lasts.there {w w':World}(h:Lasts w w'){b o n:Nat}(k:w.there b o n):w'.there b o n:=fun j hj=>
 ⟨(h b (o+j) (k j hj).1).1,(h b (o+j) (k j hj).1).2 (k j hj).2⟩
section mono
variable {ρ ρ':Nat→Nat×Nat}{dom dom':Nat→Prop}{w w':World}
mutual
theorem VR.mono (hρ:∀ b,dom b→ρ' b=ρ b)(hd:∀ b,dom b→dom' b)(hl:Lasts w w'):∀ {v:V} {r:Value},VR ρ dom w v r→VR ρ' dom' w' v r
 | .junk,_,_=>by unfold VR;trivial
 | .bool _,_,h=>by unfold VR at*;exact h
 | .u8 _,_,h=>by unfold VR at*;exact h
 | .u32 _,_,h=>by unfold VR at*;exact h
 | .u64 _,_,h=>by unfold VR at*;exact h
 | .i64 _,_,h=>by unfold VR at*;exact h
 | .i32 _,_,h=>by unfold VR at*;exact h
 | .str _,_,h=>by unfold VR at*;exact h
 | .ptr b _,_,h=>by unfold VR at*;exact⟨hd b h.1,by rw[hρ b h.1];exact h.2⟩
 | .nilPtr,_,h=>by unfold VR at*;exact h
 | .slice b _ _ _,_,h=>by
  unfold VR at*
  obtain⟨hb,a,cap,h1,h2,h3⟩:=h
  refine⟨hd b hb,a,cap,h1,h2,fun hc=>?_⟩
  rw[hρ b hb]
  exact⟨(h3 hc).1,hl.there (h3 hc).2⟩
 | .nilSlice,_,h=>by unfold VR at*;exact h
 | .fn _ fs cs,_,h=>by
  unfold VR at*
  obtain⟨f',c',h1,h2,h3⟩:=h
  exact⟨f',c',h1,VRs.mono hρ hd hl h2,VRs.mono hρ hd hl h3⟩
 | .nilFn,_,h=>by unfold VR at*;exact h
 | .aFn _ _ v,_,h=>by
  unfold VR at*
  obtain⟨x,h1,h2⟩:=h
  exact⟨x,h1,VR.mono hρ hd hl h2⟩
 | .agg cs,_,h=>by
  unfold VR at*
  obtain⟨a,h1,h2⟩:=h
  exact⟨a,h1,VRs.mono hρ hd hl h2⟩
 | .tup cs,_,h=>by
  unfold VR at*
  obtain⟨a,h1,h2⟩:=h
  exact⟨a,h1,VRs.mono hρ hd hl h2⟩
 | .iface _ v,_,h=>by
  unfold VR at*
  obtain⟨r',h1,h2⟩:=h
  exact⟨r',h1,VR.mono hρ hd hl h2⟩
 | .nilIface,_,h=>by unfold VR at*;exact h
 | .map b,_,h=>by unfold VR at*;exact⟨hd b h.1,by rw[hρ b h.1];exact h.2⟩
theorem VRs.mono (hρ:∀ b,dom b→ρ' b=ρ b)(hd:∀ b,dom b→dom' b)(hl:Lasts w w'):∀ {vs:List V} {rs:List Value},VRs ρ dom w vs rs→VRs ρ' dom' w' vs rs
 |[],_,h=>by unfold VRs at*;exact h
 |v::vs,_,h=>by
  unfold VRs at*
  obtain⟨r,rs,h1,h2,h3⟩:=h
  exact⟨r,rs,h1,VR.mono hρ hd hl h2,VRs.mono hρ hd hl h3⟩
end
end mono
section lists
variable {ρ:Nat→Nat×Nat}{dom:Nat→Prop}{w:World}
theorem VRs.length:∀ {vs:List V} {rs:List Value},VRs ρ dom w vs rs→rs.length=vs.length
 |[],_,h=>by unfold VRs at h;simp[h]
 |v::vs,_,h=>by
  unfold VRs at h
  obtain⟨r,rs,rfl,_,h3⟩:=h
  simp[VRs.length h3]
theorem VRs.get:∀ {vs:List V} {rs:List Value},VRs ρ dom w vs rs→∀ {i:Nat} {v:V},vs[i]?=some v→∃ r,rs[i]?=some r∧VR ρ dom w v r
 |[],_,_,i,v,hi=>by simp at hi
 |x::vs,_,h,0,v,hi=>by
  unfold VRs at h
  obtain⟨r,rs,rfl,h2,_⟩:=h
  simp at hi;subst hi
  exact⟨r,rfl,h2⟩
 |x::vs,_,h,i+1,v,hi=>by
  unfold VRs at h
  obtain⟨r,rs,rfl,_,h3⟩:=h
  simpa using VRs.get h3 (by simpa using hi)
theorem VRs.of_get:∀ {vs:List V} {rs:List Value},rs.length=vs.length→(∀ (i:Nat) v r,vs[i]?=some v→rs[i]?=some r→VR ρ dom w v r)→VRs ρ dom w vs rs
 |[],rs,hl,_=>by unfold VRs;simpa using hl
 |v::vs,[],hl,_=>by simp at hl
 |v::vs,r::rs,hl,h=>by
  unfold VRs
  exact⟨r,rs,rfl,h 0 v r rfl rfl,VRs.of_get (by simpa using hl) fun i v r hv hr=>h (i+1) v r (by simpa using hv) (by simpa using hr)⟩
theorem VRs.append {vs us:List V}{rs qs:List Value}(h:VRs ρ dom w vs rs)(k:VRs ρ dom w us qs):VRs ρ dom w (vs++us) (rs++qs):=by
 induction vs generalizing rs with
 |nil=>unfold VRs at h;subst h;simpa using k
 |cons v vs ih=>
  unfold VRs at h
  obtain⟨r,rs',rfl,h2,h3⟩:=h
  simp only[List.cons_append]
  unfold VRs
  exact⟨r,_,rfl,h2,ih h3⟩
theorem VRs.nil:VRs ρ dom w [] []:=by unfold VRs;rfl
theorem VRs.cons {v:V}{r:Value}{vs:List V}{rs:List Value}(h:VR ρ dom w v r)(k:VRs ρ dom w vs rs):VRs ρ dom w (v::vs) (r::rs):=by
 unfold VRs;exact⟨r,rs,rfl,h,k⟩
theorem VRs.take {vs:List V}{rs:List Value}(h:VRs ρ dom w vs rs)(n:Nat):VRs ρ dom w (vs.take n) (rs.take n):=by
 refine VRs.of_get (by simp[h.length]) fun i v r hv hr=>?_
 rw[List.getElem?_take] at hv hr
 split at hv
 ·rename_i hlt
  rw[if_pos hlt] at hr
  obtain⟨r',h1,h2⟩:=h.get hv
  rw[hr] at h1;injection h1 with h1;subst h1;exact h2
 ·cases hv
theorem VRs.drop {vs:List V}{rs:List Value}(h:VRs ρ dom w vs rs)(n:Nat):VRs ρ dom w (vs.drop n) (rs.drop n):=by
 refine VRs.of_get (by simp[h.length]) fun i v r hv hr=>?_
 rw[List.getElem?_drop] at hv hr
 obtain⟨r',h1,h2⟩:=h.get hv
 rw[hr] at h1;injection h1 with h1;subst h1;exact h2
end lists
def lV (w:World)(r:Nat)(cs:List V)(m:MapC):Prop:=match cs with
 |[]=>w.heap[r]?=some m.obj
 |_::_=>∀ o,w.frozen? ⟨r,o,none⟩=false
theorem iK {w w':World}{r:Nat}{cs:List V}{m:MapC}(h:lV w r cs m)(he:w'.heap[r]?=w.heap[r]?):lV w' r cs m:=by
 unfold lV at h ⊢
 split at h
 ·rw[he];exact h
 ·intro o
  have :=h o
  unfold World.frozen? at this ⊢
  simp only at this ⊢
  rw[he];exact this
theorem mK {w:World}{r:Nat}{cs cs':List V}{m:MapC}(h:lV w r cs m)(he:cs'.length=cs.length):lV w r cs' m:=by
 cases cs<;>cases cs'<;>simp at he<;>exact h
structure MemRel (ρ:Nat→Nat×Nat) (dom:Nat→Prop) (get:Nat→Option Blk) (w:World):Prop where
 has:∀ b B,get b=some B→dom b
 lt:∀ b B,get b=some B→(ρ b).1<w.heap.size
 inj:∀ b b' B B',get b=some B→get b'=some B'→B.ro=false→b≠b'→(ρ b).1≠(ρ b').1
 cell:∀ b B,get b=some B→∀ (i:Nat) v,B.cs[i]?=some v→∃ r,w.cell? ⟨(ρ b).1,(ρ b).2+i,none⟩=some r∧VR ρ dom w v r
 free:∀ b B,get b=some B→B.ro=false→∀ i,i<B.cs.length→w.frozen? ⟨(ρ b).1,(ρ b).2+i,none⟩=false
 mapc:∀ b B m,get b=some B→B.mp=some m→lV w (ρ b).1 B.cs m
structure Frame (ρ:Nat→Nat×Nat) (get:Nat→Option Blk) (w:World) (ρ':Nat→Nat×Nat) (get':Nat→Option Blk) (w':World):Prop where
 os:w'.os=w.os
 output:w'.output=w.output
 tape:w'.tape=w.tape
 size:w.heap.size≤w'.heap.size
 keep:∀ r,r<w.heap.size→(∀ b B,get b=some B→B.ro=false→(ρ b).1≠r)→w'.heap[r]?=w.heap[r]?
 lasts:Lasts w w'
 own:∀ b B,get' b=some B→B.ro=false→(∃ b0 B0,get b0=some B0∧B0.ro=false∧(ρ b0).1=(ρ' b).1)∨w.heap.size≤(ρ' b).1
theorem Frame.refl (ρ:Nat→Nat×Nat)(get:Nat→Option Blk)(w:World):Frame ρ get w ρ get w:=
 ⟨rfl,rfl,rfl,Nat.le_refl _,fun _ _ _=>rfl,Lasts.refl w,fun b B h hr=> .inl ⟨b,B,h,hr,rfl⟩⟩
theorem Frame.trans {ρ ρ' ρ'':Nat→Nat×Nat}{get get' get'':Nat→Option Blk}{w w' w'':World}(h:Frame ρ get w ρ' get' w')(k:Frame ρ' get' w' ρ'' get'' w''):Frame ρ get w ρ'' get'' w'':=by
 refine⟨k.os.trans h.os,k.output.trans h.output,k.tape.trans h.tape,Nat.le_trans h.size k.size,fun r hr hb=>?_,h.lasts.trans k.lasts,fun b B hB hro=>?_⟩
 ·rw[k.keep r (Nat.lt_of_lt_of_le hr h.size) (fun b B hB hro e=>?_),h.keep r hr hb]
  rcases h.own b B hB hro with⟨b0,B0,h1,h2,h3⟩|h1
  ·exact hb b0 B0 h1 h2 (h3.trans e)
  ·omega
 ·rcases k.own b B hB hro with⟨b0,B0,h1,h2,h3⟩|h1
  ·rcases h.own b0 B0 h1 h2 with⟨b1,B1,h4,h5,h6⟩|h4
   ·exact .inl ⟨b1,B1,h4,h5,h6.trans h3⟩
   ·exact .inr (by omega)
  ·exact .inr (Nat.le_trans h.size h1)
theorem Frame.less {ρ ρ' ρ'':Nat→Nat×Nat}{get get' get'':Nat→Option Blk}{w w':World}(h:Frame ρ get w ρ' get' w')
  (hl:∀ b B,get'' b=some B→B.ro=false→∃ b0 B0,get' b0=some B0∧B0.ro=false∧(ρ' b0).1=(ρ'' b).1):Frame ρ get w ρ'' get'' w':=
 ⟨h.os,h.output,h.tape,h.size,h.keep,h.lasts,fun b B hB hro=>by
  obtain⟨b0,B0,h1,h2,h3⟩:=hl b B hB hro
  rw[←h3]
  exact h.own b0 B0 h1 h2⟩
end Go.Vm
namespace Go.Vm
theorem aI {a b:Prop}(k:b)(h:a:=by first|omega |trivial):a∧b:=⟨h,k⟩
theorem aJ {a b:Prop}(k:b)(h:a:=by first|omega |kernel_rfl|trivial):a∧b:=⟨h,k⟩
abbrev bK (c:List V):Option Blk:=some ⟨false,c,none⟩
abbrev nL (i:Nat):Option Blk:=some ⟨false,[.ptr i 0,.nilPtr,.bool false,.i64 0],none⟩
abbrev nR (i:Nat):Option Blk:=some ⟨false,[.nilPtr,.ptr i 0,.bool false,.i64 0],none⟩
attribute [simp, go_sem] bK nL nR
end Go.Vm
end
section
namespace Go.Vm
section
def aj (n:Int):Int:=IntKind.i64.wrap n
theorem am {n:Int}(h1:-9223372036854775808≤n)(h2:n≤9223372036854775807):aj n=n:=by
 unfold aj IntKind.wrap
 have e:(2:Int)^IntKind.i64.bits=18446744073709551616:=by decide
 have e2:(2:Int)^(IntKind.i64.bits-1)=9223372036854775808:=by decide
 simp only[e,e2]
 by_cases h:n%18446744073709551616≥9223372036854775808
 ·rw[if_pos (by simp[IntKind.signed];omega)];omega
 ·rw[if_neg (by simp[IntKind.signed];omega)];omega
def Dq (a:Int)(n:Nat):Int:=aj (a*2^(min n 64))
def Ds (a:Int)(n:Nat):Int:=a.fdiv (2^(min n 64))
def TM (a b:Int):Int:=aj (BitVec.ofInt 64 a&&&BitVec.ofInt 64 b).toNat
def VT (a b:Int):Int:=aj (BitVec.ofInt 64 a|||BitVec.ofInt 64 b).toNat
def TN (a b:Int):Int:=aj (BitVec.ofInt 64 a ^^^ BitVec.ofInt 64 b).toNat
def dM (k:BitVec 32):List (Nat×BitVec 32×Int)→Option Int
 |[]=>none
 |e::l=>if e.2.1=k then some e.2.2 else dM k l
def lK (k:BitVec 32)(n:Int):List (Nat×BitVec 32×Int)→List (Nat×BitVec 32×Int)
 |[]=>[]
 |e::l=>if e.2.1=k then(e.1,k,n)::l else e::lK k n l
def jN (k:BitVec 32):List (Nat×BitVec 32×Int)→List (Nat×BitVec 32×Int)
 |[]=>[]
 |e::l=>if e.2.1=k then l else e::jN k l
def MapC.set (m:MapC)(k:BitVec 32)(n:Int):MapC:=if(dM k m.es).isSome=true then⟨lK k n m.es,m.clock⟩ else⟨m.es++[(m.clock,k,n)],m.clock+1⟩
def MapC.del (m:MapC)(k:BitVec 32):MapC:=⟨jN k m.es,m.clock⟩
structure Res where
 v:V
 pre:Prop:=True
 fp:List Nat:=[]
 old:List (Nat×Option Blk):=[]
 news:List (Option Blk):=[]
def ofValue:Value→V
 | .bool b=> .bool b
 | .int .u8 n=>if 0≤n∧n<256 then .u8 (BitVec.ofInt 8 n) else .junk
 | .int .u32 n=>if 0≤n∧n<4294967296 then .u32 (BitVec.ofInt 32 n) else .junk
 | .int .u64 n=>if 0≤n∧n<18446744073709551616 then .u64 (BitVec.ofInt 64 n) else .junk
 | .int .i64 n=> .i64 n
 | .int .i32 n=> .i32 n
 | .string s=> .str (bytesOf s)
 | .pointer none=> .nilPtr
 | .slice none 0 0=> .nilSlice
 | .nilFunc=> .nilFn
 | .nilIface=> .nilIface
 |_=> .junk
section
variable (P:Program)
def al (t:TypeId):Option Nat:=(P.info? t).map (·.size)
def aK (t:TypeId):Option Nat:=(P.info? t).map (·.bytes)
def aG (t:TypeId):Option (List V):=(P.info? t).bind fun i=>i.zero.map fun z=>z.cells.toList.map ofValue
def aF (t:TypeId):Option Bool:=(P.underlying t).map fun | .struct _=>true| .array _ _=>true|_=>false
def aw (t:TypeId)(f:Nat):Option (Nat×TypeId):=match P.underlying t with
 |some (.struct fs)=>match fs[f]? with
  |some x=>some (x.offset,x.type)
  |none=>none
 |_=>none
def eX (t:TypeId):Option TypeId:=match P.underlying t with
 |some (.slice e)=>some e
 |_=>none
def nh (t:TypeId):Bool:=match P.underlying t with
 |some (.map k e)=>(match P.underlying k with|some (.int .u32)=>true|_=>false)&&(match (P.info? e).bind (·.zero) with|some (.int .i64 0)=>true|_=>false)
 |_=>false
def cS (t:TypeId):Option (Nat×TypeId):=match P.underlying t with
 |some (.array n e)=>some (n,e)
 |_=>none
end
def V.one:V→Bool
 | .junk| .aFn _ _ _| .agg _| .tup _=>false
 |_=>true
def V.cells:V→List V
 | .agg cs=>cs
 |v=>[v]
def lW {n:Nat}(mk:BitVec n→V)(op:BinOp)(x y:BitVec n):Option Res:=
 match op with
 | .add=>some {v:=mk (x+y)}
 | .sub=>some {v:=mk (x-y)}
 | .mul=>some {v:=mk (x*y)}
 | .quo=>some {v:=mk (x/y),pre:=y≠0}
 | .rem=>some {v:=mk (x%y),pre:=y≠0}
 | .and=>some {v:=mk (x&&&y)}
 | .or=>some {v:=mk (x|||y)}
 | .xor=>some {v:=mk (x ^^^ y)}
 | .andNot=>some {v:=mk (x&&&~~~y)}
 | .eql=>some {v:= .bool (decide (x=y))}
 | .neq=>some {v:= .bool (decide (x≠y))}
 | .lss=>some {v:= .bool (decide (x<y))}
 | .leq=>some {v:= .bool (decide (x≤y))}
 | .gtr=>some {v:= .bool (decide (y<x))}
 | .geq=>some {v:= .bool (decide (y≤x))}
 |_=>none
def tu (mk:Int→V)(w:Int→Int)(op:BinOp)(x y:Int):Option Res:=
 match op with
 | .add=>some {v:=mk (w (x+y))}
 | .sub=>some {v:=mk (w (x-y))}
 | .mul=>some {v:=mk (w (x*y))}
 | .quo=>some {v:=mk (w (x.tdiv y)),pre:=y≠0}
 | .rem=>some {v:=mk (x.tmod y),pre:=y≠0}
 | .eql=>some {v:= .bool (decide (x=y))}
 | .neq=>some {v:= .bool (decide (x≠y))}
 | .lss=>some {v:= .bool (decide (x<y))}
 | .leq=>some {v:= .bool (decide (x≤y))}
 | .gtr=>some {v:= .bool (decide (y<x))}
 | .geq=>some {v:= .bool (decide (y≤x))}
 |_=>none
def om (op:BinOp)(x y:Int):Option Res:=
 match op with
 | .and=>some {v:= .i64 (TM x y)}
 | .or=>some {v:= .i64 (VT x y)}
 | .xor=>some {v:= .i64 (TN x y)}
 |op=>tu .i64 aj op x y
def oL (op:BinOp)(x y:List ac):Option Res:=
 match op with
 | .add=>some {v:= .str (x++y),pre:=x.length+y.length≤4611686018427387904}
 | .eql=>some {v:= .bool (decide (x=y))}
 | .neq=>some {v:= .bool (decide (x≠y))}
 |_=>none
def qv:V→Option (Nat×Prop)
 | .u8 x=>some (x.toNat,True)
 | .u32 x=>some (x.toNat,True)
 | .u64 x=>some (x.toNat,True)
 | .i64 n=>some (n.toNat,0≤n)
 |_=>none
def mT (op:BinOp)(x:V)(n:Nat)(pre:Prop):Option Res:=
 match op,x with
 | .shl,.u8 x=>some {v:= .u8 (x<<<n),pre:=pre}
 | .shl,.u32 x=>some {v:= .u32 (x<<<n),pre:=pre}
 | .shl,.u64 x=>some {v:= .u64 (x<<<n),pre:=pre}
 | .shl,.i64 x=>some {v:= .i64 (Dq x n),pre:=pre}
 | .shr,.u8 x=>some {v:= .u8 (x>>>n),pre:=pre}
 | .shr,.u32 x=>some {v:= .u32 (x>>>n),pre:=pre}
 | .shr,.u64 x=>some {v:= .u64 (x>>>n),pre:=pre}
 | .shr,.i64 x=>some {v:= .i64 (Ds x n),pre:=pre}
 |_,_=>none
def lY:V→Option Bool
 | .nilPtr| .nilSlice| .nilFn| .nilIface=>some true
 | .ptr _ _| .slice _ _ _ _| .fn _ _ _| .iface _ _=>some false
 |_=>none
def sv (P:Program)(t:TypeId)(x y:V):Bool:=match P.underlying t,x,y with
 |some (.pointer _),.nilPtr,.nilPtr|some (.pointer _),.ptr _ _,.nilPtr|some (.pointer _),.nilPtr,.ptr _ _=>true
 |some (.slice _),.nilSlice,.nilSlice|some (.slice _),.slice _ _ _ _,.nilSlice|some (.slice _),.nilSlice,.slice _ _ _ _=>true
 |some (.func _ _ _),.nilFn,.nilFn|some (.func _ _ _),.fn _ _ _,.nilFn|some (.func _ _ _),.nilFn,.fn _ _ _=>true
 |some (.interface _),.iface _ _,.nilIface|some (.interface _),.nilIface,.iface _ _=>true
 |_,_,_=>false
def V.beq1:V→V→Option Bool
 | .u8 x,.u8 y=>some (decide (x=y))
 | .u32 x,.u32 y=>some (decide (x=y))
 | .u64 x,.u64 y=>some (decide (x=y))
 | .i64 x,.i64 y=>some (decide (x=y))
 | .i32 x,.i32 y=>some (decide (x=y))
 | .bool x,.bool y=>some (decide (x=y))
 | .str x,.str y=>some (decide (x=y))
 |_,_=>none
def l6 (P:Program)(t:TypeId)(x:V):Bool:=match P.underlying t,x with
 |some (.int _),.u8 _|some (.int _),.u32 _|some (.int _),.u64 _|some (.int _),.i64 _|some (.int _),.i32 _=>true
 |some .bool,.bool _|some .string,.str _=>true
 |_,_=>false
def sF:List Field→Nat→Bool
 |[],_=>true
 |f::fs,i=>f.offset==i&&f.name != "_"&&sF fs (i+1)
def sG (P:Program)(rec:TypeId→Option (List TypeId)):List Field→Nat→Option (List TypeId)
 |[],_=>some []
 |f::fs,i=>if(f.offset==i&&f.name != "_")=true then match rec f.type with
   |some l=>if al P f.type=some l.length then(sG P rec fs (i+l.length)).map (l++·) else none
   |none=>none
  else none
def ql (P:Program):Nat→TypeId→Option (List TypeId)
 |0,_=>none
 |d+1,t=>match P.underlying t with
  |some (.struct fs)=>if P.stoodInHeld t=true then none else sG P (ql P d) fs.toList 0
  |some (.array _ _)=>none
  |_=>if al P t=some 1 then some [t] else none
def cq (P:Program)(t:TypeId):Option (List TypeId):=match P.underlying t with
 |some (.struct fs)=>if sF fs.toList 0&&! P.stoodInHeld t&&! P.eqGuardType P.depth t then some (fs.toList.map (·.type)) else
   if P.eqGuardType P.depth t=true then none else match ql P 4 t with
    |some l=>if al P t=some l.length then some l else none
    |none=>none
 |some (.array n e)=>if al P e==some 1&&! P.eqGuardType P.depth t then some (List.replicate n e) else none
 |_=>none
def ca (P:Program):List TypeId→List V→List V→Option Bool
 |[],[],[]=>some true
 |t::ts,x::xs,y::ys=>if l6 P t x then match x.beq1 y,ca P ts xs ys with
  |some a,some b=>some (a&&b)
  |_,_=>none
  else none
 |_,_,_=>none
def oM (P:Program)(op:BinOp)(t:TypeId)(x y:V):Option Res:=
 match op with
 | .shl| .shr=>match qv y with
  |some (n,pre)=>mT op x n pre
  |none=>none
 |_=>match x,y with
  | .u8 x,.u8 y=>lW .u8 op x y
  | .u32 x,.u32 y=>lW .u32 op x y
  | .u64 x,.u64 y=>lW .u64 op x y
  | .i64 x,.i64 y=>om op x y
  | .str x,.str y=>oL op x y
  | .i32 x,.i32 y=>match op with
   | .eql=>some {v:= .bool (decide (x=y))}
   | .neq=>some {v:= .bool (decide (x≠y))}
   | .sub=>some {v:= .i32 (IntKind.i32.wrap (x-y))}
   |_=>none
  | .bool x,.bool y=>if l6 P t (.bool x) then match op with
   | .eql=>some {v:= .bool (decide (x=y))}
   | .neq=>some {v:= .bool (! decide (x=y))}
   |_=>none
   else none
  | .agg xs,.agg ys=>match cq P t with
   |some ts=>match ca P ts xs ys with
    |some b=>match op with
     | .eql=>some {v:= .bool b}
     | .neq=>some {v:= .bool (! b)}
     |_=>none
    |none=>none
   |none=>none
  |x,y=>if sv P t x y then match op with
   | .eql=>some {v:= .bool (lY x==lY y)}
   | .neq=>some {v:= .bool (!(lY x==lY y))}
   |_=>none
   else none
def aL (P:Program)(t:TypeId):Option MapC:=match aG P t with
 |some [.nilPtr,.i64 _,.u32 _,.u32 _]=>some ⟨[],0⟩
 |_=>none
def sH (P:Program)(op:BinOp)(t:TypeId)(b o b' o':Nat)(get:Nat→Option Blk):Option Res:=match P.underlying t,get b,get b' with
 |some (.pointer e),some ⟨false,c::cs,some _⟩,some ⟨false,c'::cs',some _⟩=>match al P e with
  |some (_+1)=>match op with
   | .eql=>some {v:= .bool (decide (b=b'∧o=o')),fp:=[b,b']}
   | .neq=>some {v:= .bool (! decide (b=b'∧o=o')),fp:=[b,b']}
   |_=>none
  |_=>none
 |_,_,_=>none
def lO (P:Program)(op:BinOp)(t:TypeId)(x y:V)(get:Nat→Option Blk):Option Res:=match x,y with
 | .ptr b o,.ptr b' o'=>sH P op t b o b' o' get
 |x,y=>oM P op t x y
def nl (op:UnOp)(x:V):Option Res:=
 match op,x with
 | .not,.bool b=>some {v:= .bool (! b)}
 | .neg,.u8 x=>some {v:= .u8 (-x)}
 | .neg,.u32 x=>some {v:= .u32 (-x)}
 | .neg,.u64 x=>some {v:= .u64 (-x)}
 | .neg,.i64 n=>some {v:= .i64 (aj (0-n))}
 | .xor,.u8 x=>some {v:= .u8 (~~~x)}
 | .xor,.u32 x=>some {v:= .u32 (~~~x)}
 | .xor,.u64 x=>some {v:= .u64 (~~~x)}
 |_,_=>none
def rQ (k:IntKind)(x:V):Option V:=
 match k,x with
 | .u8,.u8 x=>some (.u8 x)
 | .u8,.u32 x=>some (.u8 (x.setWidth 8))
 | .u8,.u64 x=>some (.u8 (x.setWidth 8))
 | .u8,.i64 n=>some (.u8 (BitVec.ofInt 8 n))
 | .u32,.u8 x=>some (.u32 (x.setWidth 32))
 | .u32,.u32 x=>some (.u32 x)
 | .u32,.u64 x=>some (.u32 (x.setWidth 32))
 | .u32,.i64 n=>some (.u32 (BitVec.ofInt 32 n))
 | .u64,.u8 x=>some (.u64 (x.setWidth 64))
 | .u64,.u32 x=>some (.u64 (x.setWidth 64))
 | .u64,.u64 x=>some (.u64 x)
 | .u64,.i64 n=>some (.u64 (BitVec.ofInt 64 n))
 | .i64,.u8 x=>some (.i64 x.toNat)
 | .i64,.u32 x=>some (.i64 x.toNat)
 | .i64,.u64 x=>some (.i64 (aj x.toNat))
 | .i64,.i64 n=>some (.i64 (aj n))
 | .i64,.i32 n=>some (.i64 (aj n))
 |_,_=>none
def V.byte:V→BitVec 8
 | .u8 x=>x
 |_=>0
def oD (P:Program)(s d:TypeId)(x:V)(get:Nat→Option Blk)(nid:Nat):Option Res:=
 match P.underlying s,P.underlying d,x with
 |some (.int _),some (.int k),x=>(rQ k x).map fun v=>{v}
 |some .string,some .string,.str b=>some {v:= .str b}
 |some .string,some (.slice e),.str b=>match P.underlying e with
  |some (.int .u8)=>some {v:= .slice nid 0 b.length 1,pre:=b.length≤4611686018427387904,news:=[bK (b.map .u8)]}
  |_=>none
 |some (.slice e),some .string,.nilSlice=>match P.underlying e with
  |some (.int .u8)=>some {v:= .str []}
  |_=>none
 |some (.slice e),some .string,.slice b o len 1=>match P.underlying e,get b with
  |some (.int .u8),some B=>some {v:= .str (((B.cs.drop o).take len).map V.byte),pre:=o+len≤B.cs.length∧∀ v∈(B.cs.drop o).take len,∃ x,v= .u8 x,fp:=[b]}
  |_,_=>none
 |_,_,_=>none
def V.nat?:V→Option Int
 | .u8 x=>some x.toNat
 | .u32 x=>some x.toNat
 | .u64 x=>some x.toNat
 | .i64 n=>some n
 | .i32 n=>some n
 |_=>none
def fP (z:List V):Nat→List V
 |0=>[]
 |n+1=>z++fP z n
def splice (cs:List V)(o:Nat)(xs:List V):List V:=match xs with
 |[x]=>cs.set o x
 |xs=>cs.take o++xs++cs.drop (o+xs.length)
def V.solid:V→Bool
 | .junk| .aFn _ _ _| .tup _=>false
 |_=>true
def ip (place:Nat→Option (Nat×Nat))(cells:List V):List (Nat×V)→Option (List V)
 |[]=>some cells
 |(i,v)::rest=>match place i with
  |none=>none
  |some (off,size)=>if v.solid=true∧v.cells.length=size∧off+size≤cells.length then ip place (splice cells off v.cells) rest else none
def aX (P:Program)(t:TypeId):Option (List V×(List (Nat×Nat) ⊕ Nat)):=match aG P t,P.underlying t with
 |some z,some (.struct fs)=>(fs.toList.mapM (fun f=>(P.info? f.type).map fun i=>(f.offset,i.size))).map fun pl=>(z,.inl pl)
 |some z,some (.array _ e)=>(al P e).map fun s=>(z,.inr s)
 |_,_=>none
def iX:Option V→Option Int
 |none=>some 0
 |some v=>v.nat?
def jr (d:Nat):Option V→Option Int
 |none=>some d
 |some v=>v.nat?
def eP (get:Nat→Option Blk):V→Option (Nat×List V×Prop×List Nat)
 | .nilSlice=>some (0,[],True,[])
 | .str s=>some (s.length,s.map .u8,True,[])
 | .slice b o len esz=>match get b with
  |some B=>some (len,(B.cs.drop o).take (len*esz),o+len*esz≤B.cs.length,[b])
  |none=>none
 |_=>none
def iq:V→Bool
 | .str _=>true
 |_=>false
def ir (s:Nat):V→Bool
 | .slice _ _ _ esz=>esz==s
 | .nilSlice=>true
 | .str _=>s==1
 |_=>false
def oN (P:Program)(tx:TypeId)(y:V):Bool:=match P.underlying tx,y with
 |some (.slice _),.str _=>false
 |some (.slice _),_=>true
 |some .string,.str _=>true
 |_,_=>false
def fc (n m sz by_:Nat)(x:V)(xs ys:List V)(p q:Prop)(f g:List Nat)(get:Nat→Option Blk)(nid:Nat):Res:=
 if m=0 then {v:=x,pre:=q,fp:=f++g}
 else {
  v:= .slice nid 0 (n+m) sz
  pre:=p∧q∧((n+m)+(n+m)/4+192)*by_≤281474976710656∧n+m≤281474976710656∧(∀ u∈ys,u.one=true)∧ys.length=m*sz∧(∀ b∈f,∃ cs,get b=bK cs)
  fp:=f++g
  old:=f.map fun b=>(b,none)
  news:=[bK (xs++ys)]}
def kn (P:Program)(b:Builtin)(ats:List TypeId)(args:List V)(get:Nat→Option Blk)(nid:Nat):Option Res:=
 match b,ats,args with
 | .len,[t],[x]=>match P.underlying t,x with
  |some .string,.str s=>some {v:= .i64 s.length}
  |some (.array n _),_=>some {v:= .i64 n}
  |some (.slice _),.slice _ _ len _=>some {v:= .i64 len}
  |some (.slice _),.nilSlice=>some {v:= .i64 0}
  |some (.map _ _),.map b=>match get b with
   |some ⟨_,[],some m⟩=>some {v:= .i64 m.es.length,fp:=[b]}
   |_=>none
  |_,_=>none
 | .delete,[t,_],[x,y]=>match nh P t,x,y with
  |true,.map b,.u32 k=>match get b with
   |some ⟨false,[],some m⟩=>some {v:= .tup [],fp:=[b],old:=[(b,some ⟨false,[],some (m.del k)⟩)]}
   |_=>none
  |_,_,_=>none
 | .min,_,[.i64 x,.i64 y]=>some {v:= .i64 (if y<x then y else x)}
 | .max,_,[.i64 x,.i64 y]=>some {v:= .i64 (if y>x then y else x)}
 | .append,[t,tx],[x,y]=>match eX P t,eP get x,eP get y with
  |some e,some (n,xs,p,f),some (m,ys,q,g)=>match al P e,aK P e,aG P e with
   |some sz,some by_,some z=>if z.length=sz∧0<sz∧iq x=false∧ir sz x=true∧ir sz y=true∧oN P tx y=true then
     some (fc n m sz by_ x xs ys p q f g get nid) else none
   |_,_,_=>none
  |_,_,_=>none
 | .copy,[t,_],[x,y]=>match eX P t,x,eP get y with
  |some e,.slice b o len esz,some (m,ys,q,g)=>match al P e,get b with
   |some sz,some ⟨false,cs,none⟩=>if sz=1∧esz=1∧ir 1 y=true then
     some {v:= .i64 (min m len:Nat),pre:=q∧o+len≤cs.length∧ys.length=m∧(∀ u∈ys,u.one=true),fp:=b::g,old:=[(b,some ⟨false,splice cs o (ys.take (min m len)),none⟩)]} else none
   |_,_=>none
  |_,_,_=>none
 |_,_,_=>none
def dK (P:Program)(t:TypeId)(name:String):Option FuncId:=match P.info? t,P.underlying t with
 |some i,some d=>match i.methods.find? (·.name==name) with
  |some m=>if m.path.isEmpty=true then(match m.func,d with
   |some (f,true),.pointer _=>some f
   |some (_,true),_=>none
   |some (_,false),.pointer _=>none
   |some (f,false),_=>some f
   |none,_=>none) else none
  |none=>none
 |_,_=>none
def rW (P:Program)(t:TypeId):Bool:=match P.underlying t with
 |some (.interface _)=>false
 |some _=>true
 |none=>false
def bq (P:Program)(o:Op)(ev:Operand→V)(get:Nat→Option Blk)(nid:Nat):Option Res:=
 match o with
 | .move x| .assign x=>some {v:=ev x}
 | .pick c a b=>match ev c with
  | .bool c=>some {v:=if c then ev a else ev b}
  |_=>none
 | .alloc e=>match aG P e with
  |some z=>some {v:= .ptr nid 0,news:=[some ⟨false,z,aL P e⟩]}
  |none=>none
 | .box t x=>match aL P t with
  |none=>match ev x with
   | .junk| .aFn _ _ _| .tup _=>none
   |v=>some {v:= .ptr nid 0,news:=[some ⟨false,v.cells,none⟩]}
  |some m=>match ev x with
   | .agg (c::cs)=>some {v:= .ptr nid 0,news:=[some ⟨false,c::cs,some m⟩]}
   |_=>none
 | .build t parts=>match aX P t with
  |some (z,.inl pl)=>(ip (fun i=>pl[i]?) z (parts.toList.map fun x=>(x.1,ev x.2))).map fun cs=>{v:= .agg cs}
  |some (z,.inr s)=>(ip (fun i=>some (i*s,s)) z (parts.toList.map fun x=>(x.1,ev x.2))).map fun cs=>{v:= .agg cs}
  |none=>none
 | .buildSlice t len parts=>match eX P t with
  |some e=>match al P e,aG P e with
   |some s,some z=>if z.length=s∧0<s∧len*s≤1048576 then(ip (fun i=>some (i*s,s)) (fP z len) (parts.toList.map fun x=>(x.1,ev x.2))).map fun cs=>
     {v:= .slice nid 0 len s,news:=[some ⟨false,cs,none⟩]} else none
   |_,_=>none
  |none=>none
 | .load t a=>match ev a with
  | .ptr b o=>match get b,aF P t,al P t with
   |some B,some true,some s=>some {v:= .agg ((B.cs.drop o).take s),pre:=o+s≤B.cs.length,fp:=[b]}
   |some B,some false,some _=>some {v:=B.cs.getD o .junk,pre:=o<B.cs.length,fp:=[b]}
   |_,_,_=>none
  |_=>none
 | .store t a x=>match ev a with
  | .ptr b o=>match get b,al P t with
   |some ⟨false,cs,none⟩,some s=>if(ev x).cells.length=s then
     some {v:= .junk,pre:=o+s≤cs.length∧∀ u∈(ev x).cells,u.one=true,fp:=[b],old:=[(b,some ⟨false,splice cs o (ev x).cells,none⟩)]} else none
   |some ⟨false,c::cs,some m⟩,some s=>if(ev x).cells.length=s then
     some {v:= .junk,pre:=o+s≤(c::cs).length∧∀ u∈(ev x).cells,u.one=true,fp:=[b],old:=[(b,some ⟨false,splice (c::cs) o (ev x).cells,some m⟩)]} else none
   |_,_=>none
  |_=>none
 | .nilCheck x=>match ev x with
  | .ptr b o=>some {v:= .ptr b o}
  | .fn f a c=>some {v:= .fn f a c}
  | .aFn nm t v=>if(dK P t nm).isSome=true then some {v:= .aFn nm t v} else none
  | .iface t v=>some {v:= .iface t v}
  |_=>none
 | .binOp op t x y _=>lO P op t (ev x) (ev y) get
 | .unOp op _ x=>nl op (ev x)
 | .makeMap t none=>if nh P t=true then some {v:= .map nid,news:=[some ⟨false,[],some ⟨[],0⟩⟩]} else none
 | .lookup t x i ok=>match nh P t,ev x,ev i with
  |true,.map b,.u32 k=>match get b with
   |some ⟨_,[],some m⟩=>some {v:=if ok then .tup [.i64 ((dM k m.es).getD 0),.bool (dM k m.es).isSome] else .i64 ((dM k m.es).getD 0),fp:=[b]}
   |_=>none
  |_,_,_=>none
 | .mapUpdate t x i y=>match nh P t,ev x,ev i,ev y with
  |true,.map b,.u32 k,.i64 n=>match get b with
   |some ⟨false,[],some m⟩=>some {v:= .junk,fp:=[b],old:=[(b,some ⟨false,[],some (m.set k n)⟩)]}
   |_=>none
  |_,_,_,_=>none
 | .makeInterface t x=>if rW P t=true then some {v:= .iface t (ev x)} else none
 | .convert s d x=>oD P s d (ev x) get nid
 | .sliceToArrayPointer t x=>match cS P t,ev x with
  |some (n,_),.slice b o len _=>some {v:= .ptr b o,pre:=n≤len∧0<len}
  |_,_=>none
 | .makeFunc fn first caps=>match fn with
  | .func f=>some {v:= .fn f (first.toList.map ev) (caps.toList.map ev)}
  | .method nm=>match first.toList.map ev with
   |[.iface t v]=>if caps.isEmpty=true then some {v:= .aFn nm t v} else none
   |_=>none
  |_=>none
 | .makeSlice t l c=>match eX P t,ev l,ev c with
  |some e,.i64 n,.i64 m=>match al P e,aK P e,aG P e with
   |some s,some by_,some z=>if z.length=s∧0<s then some {v:= .slice nid 0 n.toNat s,pre:=n=m∧0≤n∧n*by_≤140737488355328∧n≤140737488355328,news:=[some ⟨false,fP z n.toNat,none⟩]} else none
   |_,_,_=>none
  |_,_,_=>none
 | .slice t x lo hi mx=>if mx.isSome then none else match P.underlying t,ev x with
  |some .string,.str s=>match iX (lo.map ev),jr s.length (hi.map ev) with
   |some l,some h=>some {v:= .str ((s.take h.toNat).drop l.toNat),pre:=0≤l∧l≤h∧h≤s.length}
   |_,_=>none
  |some (.slice e),.slice b o len esz=>match iX (lo.map ev),jr len (hi.map ev) with
   |some l,some h=>match al P e with
    |some s=>if s=esz then some {v:= .slice b (o+l.toNat*esz) (h-l).toNat esz,pre:=0≤l∧l≤h∧h≤len} else none
    |none=>none
   |_,_=>none
  |some (.slice e),.nilSlice=>match iX (lo.map ev),jr 0 (hi.map ev),al P e with
   |some l,some h,some _=>some {v:= .nilSlice,pre:=l=0∧h=0}
   |_,_,_=>none
  |some (.array n e),.ptr b o=>match iX (lo.map ev),jr n (hi.map ev),al P e,get b with
   |some l,some h,some s,some ⟨false,cs,none⟩=>some {v:= .slice b (o+l.toNat*s) (h-l).toNat s,pre:=0≤l∧l≤h∧h≤n∧o+n*s≤cs.length,fp:=[b]}
   |_,_,_,_=>none
  |_,_=>none
 | .fieldAddr s x f=>match aw P s f,ev x with
  |some (off,ft),.ptr b o=>match al P ft with
   |some n=>if n=0 then none else some {v:= .ptr b (o+off)}
   |none=>none
  |_,_=>none
 | .indexAddr t x i=>match P.underlying t,ev x,(ev i).nat? with
  |some (.array n e),.ptr b o,some i=>match al P e with
   |some s=>some {v:= .ptr b (o+i.toNat*s),pre:=0≤i∧i<n}
   |none=>none
  |some (.slice e),.slice b o len esz,some i=>match al P e with
   |some s=>if s=esz then some {v:= .ptr b (o+i.toNat*s),pre:=0≤i∧i<len} else none
   |none=>none
  |_,_,_=>none
 | .index t x i=>match P.underlying t,ev x,(ev i).nat? with
  |some (.array n e),.agg cs,some i=>match aF P e,al P e with
   |some false,some s=>some {v:=cs.getD (i.toNat*s) .junk,pre:=0≤i∧i<n∧i.toNat*s<cs.length}
   |some true,some s=>some {v:= .agg ((cs.drop (i.toNat*s)).take s),pre:=0≤i∧i<n}
   |_,_=>none
  |some .string,.str s,some i=>some {v:= .u8 (s.getD i.toNat 0),pre:=0≤i∧i<s.length}
  |_,_,_=>none
 | .extract t i=>match ev t with
  | .tup vs=>match vs[i]? with
   |some v=>some {v}
   |none=>none
  |_=>none
 | .call c=>match c.callee with
  | .builtin b=>kn P b c.argTypes.toList (c.args.toList.map ev) get nid
  |_=>none
 |_=>none
end
def bZ (dom:Nat→Prop)(nid k:Nat):Nat→Prop:=fun b=>dom b∨(nid≤b∧b<nid+k)
def di:List (Nat×Option Blk)→Nat→Option Blk→Option Blk
 |[],_,d=>d
 |(i,x)::r,b,d=>if b=i then x else di r b d
def bv (get:Nat→Option Blk)(old:List (Nat×Option Blk))(nid:Nat)(news:List (Option Blk)):Nat→Option Blk:=
 fun b=>if nid≤b∧b<nid+news.length then(news[b-nid]?).join else di old b (get b)
theorem lF (get:Nat→Option Blk)(nid:Nat):bv get [] nid []=get:=by
 funext b
 unfold bv
 rw[if_neg (by simp)]
 rfl
theorem qc (get:Nat→Option Blk)(i:Nat)(x:Option Blk)(nid:Nat):bv get [(i,x)] nid []=fun b=>if b=i then x else get b:=by
 funext b
 unfold bv
 rw[if_neg (by simp)]
 rfl
theorem Cf (get:Nat→Option Blk)(nid:Nat)(x:Option Blk):bv get [] nid [x]=fun b=>if b=nid then x else get b:=by
 funext b
 unfold bv
 by_cases h:b=nid
 ·subst h;simp
 ·rw[if_neg (by simp;omega),if_neg h];rfl
theorem MemRel.monoDom {ρ:Nat→Nat×Nat}{dom dom':Nat→Prop}{get:Nat→Option Blk}{w:World}(h:MemRel ρ dom get w)(hd:∀ b,dom b→dom' b):MemRel ρ dom' get w:=
 ⟨fun b B hB=>hd b (h.has b B hB),h.lt,h.inj,fun b B hB i v hv=>by
  obtain⟨r,h1,h2⟩:=h.cell b B hB i v hv
  exact⟨r,h1,h2.mono (fun _ _=>rfl) hd (Lasts.refl w)⟩,h.free,h.mapc⟩
theorem MemRel.less {ρ:Nat→Nat×Nat}{dom:Nat→Prop}{get get':Nat→Option Blk}{w:World}(h:MemRel ρ dom get w)(hl:∀ b B,get' b=some B→get b=some B):MemRel ρ dom get' w:=
 ⟨fun b B hB=>h.has b B (hl b B hB),fun b B hB=>h.lt b B (hl b B hB),fun b b' B B' hB hB' hr hne=>h.inj b b' B B' (hl b B hB) (hl b' B' hB') hr hne,
  fun b B hB=>h.cell b B (hl b B hB),fun b B hB=>h.free b B (hl b B hB),fun b B m hB=>h.mapc b B m (hl b B hB)⟩
structure Alike (w w1:World):Prop where
 heap:w1.heap=w.heap
 os:w1.os=w.os
 output:w1.output=w.output
 tape:w1.tape=w.tape
theorem Alike.refl (w:World):Alike w w:=⟨rfl,rfl,rfl,rfl⟩
theorem Alike.drew (w:World):Alike w w.drew:=⟨rfl,rfl,rfl,rfl⟩
theorem Alike.cell {w w1:World}(h:Alike w w1)(a:Addr):w1.cell? a=w.cell? a:=by unfold World.cell?;rw[h.heap]
theorem Alike.frozen {w w1:World}(h:Alike w w1)(a:Addr):w1.frozen? a=w.frozen? a:=by unfold World.frozen?;rw[h.heap]
theorem Alike.lasts {w w1:World}(h:Alike w w1):Lasts w w1:=fun b o hc=>⟨by rw[h.cell];exact hc,fun hf=>by rw[h.frozen];exact hf⟩
theorem MemRel.alike {ρ:Nat→Nat×Nat}{dom:Nat→Prop}{get:Nat→Option Blk}{w w1:World}(h:MemRel ρ dom get w)(k:Alike w w1):MemRel ρ dom get w1:=
 ⟨h.has,fun b B hB=>by rw[k.heap];exact h.lt b B hB,h.inj,fun b B hB i v hv=>by
  obtain⟨r,h1,h2⟩:=h.cell b B hB i v hv
  exact⟨r,by rw[k.cell];exact h1,h2.mono (fun _ _=>rfl) (fun _ hd=>hd) k.lasts⟩,fun b B hB hr i hi=>by rw[k.frozen];exact h.free b B hB hr i hi,fun b B m hB hm=>iK (h.mapc b B m hB hm) (by rw[k.heap])⟩
theorem Frame.alike {ρ:Nat→Nat×Nat}{get:Nat→Option Blk}{w w1:World}(k:Alike w w1):Frame ρ get w ρ get w1:=
 ⟨k.os,k.output,k.tape,by rw[k.heap];exact Nat.le_refl _,fun r _ _=>by rw[k.heap],k.lasts,fun b B h hr=> .inl ⟨b,B,h,hr,rfl⟩⟩
theorem uw (w:World)(o:Obj):Lasts w (w.alloc o):=fun b p hc=>by
 obtain⟨u,hu⟩:=Option.isSome_iff_exists.1 hc
 have hlt:=World.block_lt_of_cell? _ _ hu
 have hne:(⟨b,p,none⟩:Addr).block≠w.heap.size:=Nat.ne_of_lt hlt
 exact⟨by rw[World.cell?_alloc_old _ _ _ hne];exact hc,fun hf=>by rw[World.frozen?_alloc_old _ _ _ hne];exact hf⟩
def fJ (ρ:Nat→Nat×Nat)(nid:Nat)(x:Nat×Nat):Nat→Nat×Nat:=fun b=>if b=nid then x else ρ b
theorem nD {ρ:Nat→Nat×Nat}{dom:Nat→Prop}{nid:Nat}{x:Nat×Nat}(h:¬ dom nid):∀ b,dom b→fJ ρ nid x b=ρ b:=fun b hb=>by
 unfold fJ
 rw[if_neg (fun e=>by subst e;exact h hb)]
theorem dO {ρ:Nat→Nat×Nat}{nid:Nat}{x:Nat×Nat}:fJ ρ nid x nid=x:=by unfold fJ;rw[if_pos rfl]
theorem cell?_alloc_fz (w:World)(c:Array Value)(e:TypeId)(fz:Nat×Nat)(i:Nat):(w.alloc (.cells c e fz)).cell? ⟨w.heap.size,i,none⟩=c[i]?:=by
 unfold World.alloc World.cell?
 simp[-World.alloc_eq]
theorem frozen?_alloc_fz (w:World)(c:Array Value)(e:TypeId)(fz:Nat×Nat)(i:Nat):(w.alloc (.cells c e fz)).frozen? ⟨w.heap.size,i,none⟩=(decide (fz.1≤i)&&decide (i<fz.2)):=by
 unfold World.alloc World.frozen?
 simp[-World.alloc_eq]
theorem Ja {ρ:Nat→Nat×Nat}{dom:Nat→Prop}{get:Nat→Option Blk}{w:World}(h:MemRel ρ dom get w){nid:Nat}(hn:¬ dom nid)
  (c:Array Value) (e:TypeId) (fz:Nat×Nat) (cs:List V) (hcs:∀ (i:Nat) v,cs[i]?=some v→∃ r,c[i]?=some r∧VR ρ dom w v r) (hfz:∀ i,i<cs.length→¬ (fz.1≤i∧i<fz.2)) (mp:Option MapC) (hmp:∀ m,mp=some m→cs≠[]∧fz=(0,0)):
  MemRel (fJ ρ nid (w.heap.size,0)) (bZ dom nid 1) (bv get [] nid [some ⟨false,cs,mp⟩]) (w.alloc (.cells c e fz))∧
  Frame ρ get w (fJ ρ nid (w.heap.size,0)) (bv get [] nid [some ⟨false,cs,mp⟩]) (w.alloc (.cells c e fz)):=by
 have hold:=nD (ρ:=ρ) (x:=(w.heap.size,0)) hn
 have hl:=uw w (.cells c e fz)
 have hdm:∀ b,dom b→bZ dom nid 1 b:=fun b hb=> .inl hb
 rw[Cf]
 have hget:∀ b B,b≠nid→(fun b=>if b=nid then some (⟨false,cs,mp⟩:Blk) else get b) b=some B→get b=some B:=fun b B hb hB=>by simpa [hb] using hB
 have hrho:∀ b B,b≠nid→get b=some B→fJ ρ nid (w.heap.size,0) b=ρ b:=fun b B hb hB=>hold b (h.has b B hB)
 refine⟨⟨fun b B hB=>?_,fun b B hB=>?_,fun b b' B B' hB hB' hr hne=>?_,fun b B hB i v hv=>?_,fun b B hB hr i hi=>?_,fun b B m hB hm=>?_⟩,
  ⟨rfl,rfl,rfl,by simp,fun r hr _=>?_,hl,fun b B hB hr=>?_⟩⟩
 ·by_cases hb:b=nid
  ·exact .inr ⟨by omega,by omega⟩
  ·exact .inl (h.has b B (hget b B hb hB))
 ·by_cases hb:b=nid
  ·subst hb;rw[dO];simp
  ·have :=h.lt b B (hget b B hb hB)
   rw[hrho b B hb (hget b B hb hB)]
   simp;omega
 ·by_cases hb:b=nid
  ·subst hb
   have hb':b'≠b:=fun e=>hne e.symm
   have :=h.lt b' B' (hget b' B' hb' hB')
   rw[dO,hrho b' B' hb' (hget b' B' hb' hB')]
   simp only;omega
  ·have h1:=hget b B hb hB
   rw[hrho b B hb h1]
   by_cases hb':b'=nid
   ·subst hb'
    rw[dO]
    have :=h.lt b B h1
    simp only;omega
   ·have h2:=hget b' B' hb' hB'
    rw[hrho b' B' hb' h2]
    exact h.inj b b' B B' h1 h2 hr hne
 ·by_cases hb:b=nid
  ·subst hb
   have hB':(⟨false,cs,mp⟩:Blk)=B:=by simpa using hB
   subst hB'
   obtain⟨r,h1,h2⟩:=hcs i v hv
   refine⟨r,?_,h2.mono hold hdm hl⟩
   rw[dO]
   simpa using(cell?_alloc_fz w c e fz i).trans h1
  ·have h1:=hget b B hb hB
   obtain⟨r,h2,h3⟩:=h.cell b B h1 i v hv
   refine⟨r,?_,h3.mono hold hdm hl⟩
   rw[hrho b B hb h1,World.cell?_alloc_lt _ _ _ (h.lt b B h1)]
   exact h2
 ·by_cases hb:b=nid
  ·subst hb
   have hB':(⟨false,cs,mp⟩:Blk)=B:=by simpa using hB
   subst hB'
   rw[dO]
   have :=frozen?_alloc_fz w c e fz i
   have hf:=hfz i hi
   simp only[Nat.zero_add]
   rw[this]
   simpa using hf
  ·have h1:=hget b B hb hB
   rw[hrho b B hb h1,World.frozen?_alloc_old _ _ _ (Nat.ne_of_lt (h.lt b B h1))]
   exact h.free b B h1 hr i hi
 ·by_cases hb:b=nid
  ·subst hb
   have hB':(⟨false,cs,mp⟩:Blk)=B:=by simpa using hB
   subst hB'
   obtain⟨hm1,rfl⟩:=hmp m hm
   rw[dO]
   show lV _ w.heap.size cs m
   cases cs with
   |nil=>exact absurd rfl hm1
   |cons x cs=>
    intro o
    rw[frozen?_alloc_fz]
    simp
  ·have h1:=hget b B hb hB
   rw[hrho b B hb h1]
   refine iK (h.mapc b B m h1 hm) ?_
   show(w.heap.push _)[_]?=_
   rw[Array.getElem?_push,if_neg (by have :=h.lt b B h1;omega)]
 ·show(w.heap.push _)[r]?=_
  rw[Array.getElem?_push,if_neg (by omega)]
 ·by_cases hb:b=nid
  ·subst hb;right;rw[dO];exact Nat.le_refl _
  ·have h1:=hget b B hb hB
   exact .inl ⟨b,B,h1,hr,(by rw[hrho b B hb h1])⟩
theorem o9 (b:Nat):∀ (vs:List Value) (o:Nat) (w:World) (r:Nat),r≠b→(w.setCells b o vs).heap[r]?=w.heap[r]?
 |[],_,_,_,_=>rfl
 |v::vs,o,w,r,h=>by
  rw[World.setCells,o9 b vs _ _ r h]
  exact heap_setCell_other _ _ _ _ h
theorem pa (b:Nat):∀ (vs:List Value) (o:Nat) (w:World),(w.setCells b o vs).heap.size=w.heap.size
 |[],_,_=>rfl
 |v::vs,o,w=>by rw[World.setCells,pa b vs];simp
theorem mo (b:Nat):∀ (vs:List Value) (o:Nat) (w:World),(w.setCells b o vs).os=w.os∧(w.setCells b o vs).output=w.output∧(w.setCells b o vs).tape=w.tape
 |[],_,_=>⟨rfl,rfl,rfl⟩
 |v::vs,o,w=>by rw[World.setCells];exact mo b vs _ _
theorem Ex (w:World)(a x:Addr)(v:Value)(h:(w.cell? x).isSome=true):((w.setCell a v).cell? x).isSome=true:=by
 by_cases e:a=x
 ·subst e
  obtain⟨u,hu⟩:=Option.isSome_iff_exists.1 h
  rw[World.cell?_setCell_same _ _ _ hu];rfl
 ·rw[World.cell?_setCell_other _ _ _ _ e];exact h
theorem xK (b:Nat):∀ (vs:List Value) (o:Nat) (w:World) (x:Addr),(w.cell? x).isSome=true→((w.setCells b o vs).cell? x).isSome=true
 |[],_,_,_,h=>h
 |v::vs,o,w,x,h=>by rw[World.setCells];exact xK b vs _ _ x (Ex w _ x v h)
theorem lasts_setCells (b o:Nat)(vs:List Value)(w:World):Lasts w (w.setCells b o vs):=fun p q hc=>
 ⟨xK b vs o w _ hc,fun hf=>by rw[World.frozen?_setCells];exact hf⟩
theorem rp {cs:List V}{o:Nat}{xs:List V}(h:o+xs.length≤cs.length)(i:Nat):(splice cs o xs)[i]?=if o≤i∧i<o+xs.length then xs[i-o]? else cs[i]?:=by
 unfold splice
 split
 ·rename_i x
  rw[List.getElem?_set]
  simp at h
  by_cases e:o=i
  ·subst e
   rw[if_pos rfl,if_pos (by omega),if_pos (by simp)]
   simp
  ·rw[if_neg e,if_neg (by simp;omega)]
 ·by_cases h1:i<o
  ·rw[List.append_assoc,List.getElem?_append_left (by simp;omega),if_neg (by omega),List.getElem?_take,if_pos h1]
  ·by_cases h2:i<o+xs.length
   ·rw[if_pos ⟨by omega,h2⟩,List.getElem?_append_left (by simp;omega),List.getElem?_append_right (by simp;omega)]
    congr 1
    simp;omega
   ·rw[if_neg (by omega),List.getElem?_append_right (by simp;omega),List.getElem?_drop]
    congr 1
    simp;omega
theorem mh {cs:List V}{o:Nat}{xs:List V}(h:o+xs.length≤cs.length):(splice cs o xs).length=cs.length:=by
 unfold splice
 split
 ·simp
 ·simp;omega
theorem qT {ρ:Nat→Nat×Nat}{dom:Nat→Prop}{get:Nat→Option Blk}{w:World}(h:MemRel ρ dom get w){b o nid:Nat}{cs xs:List V}{rs:List Value}
  {mp:Option MapC} (hmp:∀ m,mp=some m→cs≠[]) (hb:get b=some ⟨false,cs,mp⟩) (hx:VRs ρ dom w xs rs) (hle:o+xs.length≤cs.length):
  MemRel ρ (bZ dom nid 0) (bv get [(b,some ⟨false,splice cs o xs,mp⟩)] nid []) (w.setCells (ρ b).1 ((ρ b).2+o) rs)∧
  Frame ρ get w ρ (bv get [(b,some ⟨false,splice cs o xs,mp⟩)] nid []) (w.setCells (ρ b).1 ((ρ b).2+o) rs):=by
 have hlen:=hx.length
 have hl:=lasts_setCells (ρ b).1 ((ρ b).2+o) rs w
 have hdm:∀ b,dom b→bZ dom nid 0 b:=fun b hb=> .inl hb
 rw[qc]
 have hget:∀ b' B,b'≠b→(fun b'=>if b'=b then some (⟨false,splice cs o xs,mp⟩:Blk) else get b') b'=some B→get b'=some B:=fun b' B hne hB=>by simpa [hne] using hB
 have hgb:∀ B,(fun b'=>if b'=b then some (⟨false,splice cs o xs,mp⟩:Blk) else get b') b=some B→B=⟨false,splice cs o xs,mp⟩:=fun B hB=>by simpa using hB.symm
 have hsame:∀ b' B,(fun b'=>if b'=b then some (⟨false,splice cs o xs,mp⟩:Blk) else get b') b'=some B→∃ B0,get b'=some B0∧B0.ro=B.ro∧B0.cs.length=B.cs.length:=fun b' B hB=>by
  by_cases e:b'=b
  ·subst e
   rw[hgb B hB]
   exact⟨_,hb,rfl,by simp[mh hle]⟩
  ·exact⟨B,hget b' B e hB,rfl,rfl⟩
 refine⟨⟨fun b' B hB=>?_,fun b' B hB=>?_,fun b1 b2 B1 B2 h1 h2 hr hne=>?_,fun b' B hB i v hv=>?_,fun b' B hB hr i hi=>?_,fun b' B m hB hm=>?_⟩,
  ⟨(mo _ _ _ _).1,(mo _ _ _ _).2.1,(mo _ _ _ _).2.2,by rw[pa];exact Nat.le_refl _,fun r hr hbr=>?_,hl,fun b' B hB hr=>?_⟩⟩
 ·obtain⟨B0,h1,_⟩:=hsame b' B hB
  exact .inl (h.has b' B0 h1)
 ·obtain⟨B0,h1,_⟩:=hsame b' B hB
  rw[pa];exact h.lt b' B0 h1
 ·obtain⟨B3,h3,h4,_⟩:=hsame b1 B1 h1
  obtain⟨B5,h5,_⟩:=hsame b2 B2 h2
  exact h.inj b1 b2 B3 B5 h3 h5 (h4.trans hr) hne
 ·by_cases e:b'=b
  ·subst e
   rw[hgb B hB] at hv
   rw[rp hle] at hv
   by_cases hi:o≤i∧i<o+xs.length
   ·rw[if_pos hi] at hv
    obtain⟨r,h1,h2⟩:=hx.get hv
    refine⟨r,?_,h2.mono (fun _ _=>rfl) hdm hl⟩
    have hj:i-o<rs.length:=by omega
    have :=World.cell?_setCells_in (ρ b').1 rs ((ρ b').2+o) w (fun j hj=>by
     obtain⟨u,hu,_⟩:=h.cell b' _ hb (o+j) (cs[o+j]'(by omega)) (by simp)
     rw[show(ρ b').2+o+j=(ρ b').2+(o+j) by omega,hu];rfl) (i-o) hj
    rw[show(ρ b').2+o+(i-o)=(ρ b').2+i by omega] at this
    rw[this,←h1]
    simp[hj]
   ·rw[if_neg hi] at hv
    obtain⟨r,h1,h2⟩:=h.cell b' _ hb i v hv
    refine⟨r,?_,h2.mono (fun _ _=>rfl) hdm hl⟩
    rw[World.cell?_setCells_out _ _ _ _ _ (fun _ _=>by simp only;omega)]
    exact h1
  ·have h0:=hget b' B e hB
   obtain⟨r,h1,h2⟩:=h.cell b' B h0 i v hv
   refine⟨r,?_,h2.mono (fun _ _=>rfl) hdm hl⟩
   have hne:=h.inj b b' _ B hb h0 rfl (fun x=>e x.symm)
   rw[World.cell?_setCells_out _ _ _ _ _ (fun x _=>absurd x.symm hne)]
   exact h1
 ·obtain⟨B0,h1,h2,h3⟩:=hsame b' B hB
  rw[World.frozen?_setCells]
  exact h.free b' B0 h1 (h2.trans hr) i (by omega)
 ·by_cases e:b'=b
  ·subst e
   have hB2:=hgb B hB
   subst hB2
   have hm2:mp=some m:=hm
   have g:=h.mapc b' _ m hb hm2
   have hc:=hmp m hm2
   refine mK (cs:=cs) ?_ (mh hle)
   change lV w (ρ b').1 cs m at g
   cases cs with
   |nil=>exact absurd rfl hc
   |cons x cs=>
    intro i
    rw[World.frozen?_setCells]
    exact g i
  ·have h0:=hget b' B e hB
   have hne:=h.inj b b' _ B hb h0 rfl (fun x=>e x.symm)
   exact iK (h.mapc b' B m h0 hm) (o9 _ _ _ _ _ (fun e=>hne e.symm))
 ·refine o9 _ _ _ _ _ (fun e=>hbr b _ hb rfl e.symm)
 ·obtain⟨B0,h1,h2,_⟩:=hsame b' B hB
  exact .inl ⟨b',B0,h1,h2.trans hr,rfl⟩
end Go.Vm
end
