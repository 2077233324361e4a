/- Proved: laws of a machine of values, or what a function answers; no conditions but each theorem's own. -/
import Derived.MapKept
import Derived.ChangeMaps4
import Derived.Test.YtgnnehmeciepaaaGreatDoorVmJ
set_option linter.unusedVariables false
set_option linter.unusedSimpArgs false
set_option linter.unusedSectionVars false
set_option maxRecDepth 20000
set_option maxHeartbeats 8000000
section
namespace Go.Vm
section
open Go.ChangeMaps (setBlock)
theorem vk {P:Program}{t:TypeId}(h:nh P t=true):∃ k e,P.underlying t=some (.map k e)∧P.underlying k=some (.int .u32)∧∀ w:World,(zeroValue e).run P w= .ok (.int .i64 0) w:=by
 unfold nh at h
 split at h
 case h_2=>cases h
 rename_i k e hu
 rw[Bool.and_eq_true] at h
 obtain⟨h1,h2⟩:=h
 split at h1
 case h_2=>cases h1
 rename_i hk
 split at h2
 case h_2=>cases h2
 rename_i hz
 refine⟨k,e,hu,hk,fun w=>?_⟩
 cases hi:P.info? e with
 |none=>rw[hi] at hz;cases hz
 |some i=>
  rw[hi] at hz
  have hz:i.zero=some (.int .i64 0):=hz
  simp[zeroValue,typeInfo,hi,hz]
def gh (k:BitVec 32):List (Nat×BitVec 32×Int)→Nat
 |[]=>0
 |e::l=>if e.2.1=k then 0 else gh k l+1
theorem yy (k:BitVec 32):∀ (l:List (Nat×BitVec 32×Int)) (i:Nat),Instr.findNow (.int .u32) (.int .u32 (k.toNat:Int)) (l.map cx) i=some ((dM k l).map fun n=>(i+gh k l,.int .i64 n))
 |[],i=>rfl
 |e::l,i=>by
  rw[List.map_cons]
  unfold Instr.findNow
  have hs:Instr.sameNow (.int .u32) (.int .u32 (k.toNat:Int)) (cx e).key=some (decide (e.2.1=k)):=by
   unfold cx Instr.sameNow
   simp only[if_true]
   congr 1
   rw[Bool.eq_iff_iff,beq_iff_eq,decide_eq_true_iff]
   constructor
   ·intro h;exact(BitVec.eq_of_toNat_eq (by omega)).symm
   ·intro h;rw[h]
  rw[hs]
  unfold dM gh
  by_cases h:e.2.1=k
  ·rw[decide_eq_true h,if_pos h,if_pos h];rfl
  ·rw[decide_eq_false h,if_neg h,if_neg h]
   show Instr.findNow _ _ _ _=_
   rw[yy k l (i+1),show i+(gh k l+1)=i+1+gh k l by omega]
theorem rI {k:BitVec 32}:∀ {l:List (Nat×BitVec 32×Int)} {n:Int},dM k l=some n→∃ b,l[gh k l]?=some (b,k,n)
 |[],_,h=>by cases h
 |(b,k',m)::l,n,h=>by
  unfold dM at h
  unfold gh
  by_cases e:k'=k
  ·rw[if_pos e] at h;rw[if_pos e]
   injection h with h
   subst e;subst h
   exact⟨b,rfl⟩
  ·rw[if_neg e] at h;rw[if_neg e]
   exact rI (l:=l) h
theorem xW (k:BitVec 32)(n:Int):∀ (l:List (Nat×BitVec 32×Int)),(lK k n l).map cx=(l.map cx).modify (gh k l) fun e=>{e with key:= .int .u32 (k.toNat:Int),val:= .int .i64 n}
 |[]=>rfl
 |e::l=>by
  unfold lK gh
  by_cases h:e.2.1=k
  ·rw[if_pos h,if_pos h];rfl
  ·rw[if_neg h,if_neg h,List.map_cons,List.map_cons,List.modify_succ_cons,xW k n l]
theorem ye (k:BitVec 32):∀ (l:List (Nat×BitVec 32×Int)),jN k l=l.eraseIdx (gh k l)
 |[]=>rfl
 |e::l=>by
  unfold jN gh
  by_cases h:e.2.1=k
  ·rw[if_pos h,if_pos h];rfl
  ·rw[if_neg h,if_neg h,List.eraseIdx_cons_succ,ye k l]
section
variable {P:Program}{w:World}{t k e:TypeId}{r:Nat}{m:MapC}
theorem qD {o':Obj}(hr:w.heap[r]?=some m.obj):(setObj r o').run P w= .ok () (setBlock w r o'):=by
 unfold MapC.obj at hr
 simp[setObj,Sem.run,hr,setBlock]
theorem ul (b:Bool)(n:Nat)(x:Int)(hk:P.underlying k=some (.int .u32)):(Instr.checkKey b (n+1) k (.int .u32 x)).run P w= .ok () w:=by
 simp[Instr.checkKey,run_underlying hk]
theorem uB (hk:P.underlying k=some (.int .u32))(x:BitVec 32):(Instr.findKey k (.int .u32 (x.toNat:Int)) (m.es.map cx).toArray.toList).run P w= .ok ((dM x m.es).map fun n=>(gh x m.es,.int .i64 n)) w:=by
 have :=yy x m.es 0
 rw[show(fun n=>(0+gh x m.es,Value.int .i64 n))=fun n=>(gh x m.es,.int .i64 n) from by simp only[Nat.zero_add]] at this
 unfold Instr.findKey
 simp only[Sem.run_bind,run_underlying hk,Result.andThen_ok,this,Sem.run_pure]
theorem Ho (ht:P.underlying t=some (.map k e))(hk:P.underlying k=some (.int .u32))(hz:∀ w:World,(zeroValue e).run P w= .ok (.int .i64 0) w)(hb:w.heap[r]?=some m.obj)(x:BitVec 32)(ok:Bool):
  (Instr.lookup t (.map (some r)) (.int .u32 (x.toNat:Int)) ok).run P w= .ok (if ok then .tuple #[.int .i64 ((dM x m.es).getD 0),.bool (dM x m.es).isSome] else .int .i64 ((dM x m.es).getD 0)) w:=by
 unfold MapC.obj at hb
 unfold Instr.lookup
 simp only[Sem.run_bind,run_underlying ht,Result.andThen_ok,MapKept.run_getObj_map hb,Sem.run_pure,ul _ 9999 _ hk,uB hk]
 cases dM x m.es with
 |none=>
  simp only[Option.map_none,Sem.run_bind,hz,Result.andThen_ok,Sem.run_pure,Option.getD_none,Option.isSome_none]
 |some n=>
  simp only[Option.map_some,Sem.run_bind,Result.andThen_ok,Sem.run_pure,Option.getD_some,Option.isSome_some]
theorem Fp (n:Nat)(x:Int):Instr.sameBits n (.int .u32 x) (.int .u32 x)=true:=by
 unfold Instr.sameBits
 simp
theorem ET (ht:P.underlying t=some (.map k e))(hk:P.underlying k=some (.int .u32))(hb:w.heap[r]?=some m.obj)(x:BitVec 32)(n:Int):
  (Instr.mapUpdate t (.map (some r)) (.int .u32 (x.toNat:Int)) (.int .i64 n)).run P w= .ok () (setBlock w r (m.set x n).obj):=by
 have hb0:=hb
 unfold MapC.obj at hb
 unfold Instr.mapUpdate
 simp only[Sem.run_bind,run_underlying ht,Result.andThen_ok,MapKept.run_getObj_map hb,ul _ 9999 _ hk,uB hk]
 cases h:dM x m.es with
 |none=>
  simp only[Option.map_none,qD hb0]
  unfold MapC.set MapC.obj
  rw[h]
  simp only[Option.isSome_none,Bool.false_eq_true,if_false]
  congr 3
  simp[cx]
 |some n0=>
  obtain⟨b,hg⟩:=rI h
  have hkey:(((m.es.map cx).toArray[gh x m.es]?.map (·.key)).getD (.int .u32 (x.toNat:Int)))= .int .u32 (x.toNat:Int):=by
   simp only[List.getElem?_toArray,List.getElem?_map,hg,Option.map_some,Option.getD_some]
   rfl
  simp only[Option.map_some,hkey,Instr.keyThatStays,Fp,if_true,Sem.run_bind,Sem.run_pure,Result.andThen_ok,qD hb0]
  unfold MapC.set MapC.obj
  rw[h]
  simp only[Option.isSome_some,if_true]
  congr 3
  rw[xW]
  simp
theorem Hp {u ty:TypeId}(ht:P.underlying t=some (.map k e))(hk:P.underlying k=some (.int .u32))(hb:w.heap[r]?=some m.obj)(x:BitVec 32):
  (Builtin.delete_ #[t,u] ty #[.map (some r),.int .u32 (x.toNat:Int)]).run P w= .ok (.tuple #[]) (setBlock w r (m.del x).obj):=by
 have hb0:=hb
 unfold MapC.obj at hb
 unfold Builtin.delete_
 simp only[List.getElem?_toArray,List.getElem?_cons_zero,List.getElem?_cons_succ,Sem.run_bind,run_underlying ht,Result.andThen_ok,MapKept.run_getObj_map hb,ul _ 9999 _ hk,uB hk]
 cases h:dM x m.es with
 |none=>
  simp only[Option.map_none,qD hb0,Sem.run_bind,Result.andThen_ok,Sem.run_pure]
  unfold MapC.del MapC.obj
  have :jN x m.es=m.es:=by
   generalize m.es=l at h
   induction l with
   |nil=>rfl
   |cons e l ih=>
    unfold dM at h
    unfold jN
    split at h
    ·cases h
    ·rename_i hne
     rw[if_neg hne,ih h]
  rw[this]
 |some n0=>
  obtain⟨b,hg⟩:=rI h
  have hlt:=(List.getElem?_eq_some_iff.1 hg).1
  simp only[Option.map_some,qD hb0,Sem.run_bind,Result.andThen_ok,Sem.run_pure]
  unfold MapC.del MapC.obj
  congr 3
  rw[ye]
  simp[Array.eraseIdxIfInBounds,hlt]
  rw[ChangeMaps.map_eraseIdx]
theorem Hq {ty:TypeId}(ht:P.underlying t=some (.map k e))(hb:w.heap[r]?=some m.obj):(Builtin.len_ #[t] ty #[.map (some r)]).run P w= .ok (.int .i64 m.es.length) w:=by
 unfold MapC.obj at hb
 simp[Builtin.len_,run_underlying ht,MapKept.run_getObj_map hb]
 rfl
end
section
variable {ρ:Nat→Nat×Nat}{dom:Nat→Prop}{P:Program}{w:World}{get:Nat→Option Blk}{nid:Nat}{m:MapC}
theorem ui (w:World)(r:Nat)(o:Obj)(j:Nat):(setBlock w r o).heap[j]?=if j=r then(if r<w.heap.size then some o else none) else w.heap[j]?:=by
 show(w.heap.setIfInBounds r o)[j]?=_
 rw[Array.getElem?_setIfInBounds]
 by_cases h:j=r
 ·subst h;rw[if_pos rfl]
 ·rw[if_neg h,if_neg (fun e=>h e.symm)]
theorem i9 (w:World){r j:Nat}(o:Obj)(h:j≠r):(setBlock w r o).heap[j]?=w.heap[j]?:=by rw[ui,if_neg h]
theorem qG (w:World)(r:Nat)(o:Obj):(setBlock w r o).heap.size=w.heap.size:=Array.size_setIfInBounds ..
def Obj.bare:Obj→Bool
 | .cells _ _ _=>false
 |_=>true
theorem zV {r:Nat}{o:Obj}(h:w.heap[r]?=some o)(ho:Obj.bare o=true)(i:Nat):w.cell? ⟨r,i,none⟩=none:=by
 unfold World.cell?
 rw[show(⟨r,i,none⟩:Addr).block=r from rfl,h]
 cases o<;>first|rfl|cases ho
theorem uc {r:Nat}{o o':Obj}(h:w.heap[r]?=some o)(ho:Obj.bare o=true):Lasts w (setBlock w r o'):=fun p i hp=>by
 have hne:p≠r:=fun e=>by rw[e,zV h ho] at hp;cases hp
 refine⟨?_,fun hf=>?_⟩
 ·rw[World.cell?_of_block (w:=w) (i9 w o' hne)];exact hp
 ·rw[World.frozen?_of_block (w:=w) (i9 w o' hne)];exact hf
theorem zW (h:MemRel ρ dom get w){b:Nat}(hb:get b=some ⟨false,[],some m⟩)(m':MapC):
  MemRel ρ (bZ dom nid 0) (bv get [(b,some ⟨false,[],some m'⟩)] nid []) (setBlock w (ρ b).1 m'.obj)∧
  Frame ρ get w ρ (bv get [(b,some ⟨false,[],some m'⟩)] nid []) (setBlock w (ρ b).1 m'.obj):=by
 have hm:w.heap[(ρ b).1]?=some m.obj:=h.mapc b _ m hb rfl
 have hl:Lasts w (setBlock w (ρ b).1 m'.obj):=uc hm rfl
 have hdm:∀ b,dom b→bZ dom nid 0 b:=fun b hb=> .inl hb
 rw[qc]
 have hget:∀ b' B,b'≠b→(fun b'=>if b'=b then some (⟨false,[],some m'⟩:Blk) else get b') b'=some B→get b'=some B:=fun b' B hne hB=>by simpa [hne] using hB
 have hgb:∀ B,(fun b'=>if b'=b then some (⟨false,[],some m'⟩:Blk) else get b') b=some B→B=⟨false,[],some m'⟩:=fun B hB=>by simpa using hB.symm
 have hsame:∀ b' B,(fun b'=>if b'=b then some (⟨false,[],some m'⟩:Blk) else get b') b'=some B→∃ B0,get b'=some B0∧B0.ro=B.ro:=fun b' B hB=>by
  by_cases e:b'=b
  ·subst e
   rw[hgb B hB]
   exact⟨_,hb,rfl⟩
  ·exact⟨B,hget b' B e hB,rfl⟩
 have hneq:∀ b' B,b'≠b→get b'=some B→(ρ b').1≠(ρ b).1:=fun b' B h1 h2 e=>h.inj b b' _ B hb h2 rfl (fun x=>h1 x.symm) e.symm
 refine⟨⟨fun b' B hB=>?_,fun b' B hB=>?_,fun b1 b2 B1 B2 h1 h2 hr hne=>?_,fun b' B hB i v hv=>?_,fun b' B hB hr i hi=>?_,fun b' B m2 hB hmp=>?_⟩,
  ⟨rfl,rfl,rfl,by rw[qG];exact Nat.le_refl _,fun r hr hbr=>?_,hl,fun b' B hB hr=>?_⟩⟩
 ·obtain⟨B0,h1,_⟩:=hsame b' B hB
  exact .inl (h.has b' B0 h1)
 ·obtain⟨B0,h1,_⟩:=hsame b' B hB
  rw[qG];exact h.lt b' B0 h1
 ·obtain⟨B3,h3,h4⟩:=hsame b1 B1 h1
  obtain⟨B5,h5,_⟩:=hsame b2 B2 h2
  exact h.inj b1 b2 B3 B5 h3 h5 (h4.trans hr) hne
 ·by_cases e:b'=b
  ·subst e
   rw[hgb B hB] at hv
   simp at hv
  ·have h0:=hget b' B e hB
   obtain⟨r,h1,h2⟩:=h.cell b' B h0 i v hv
   refine⟨r,?_,h2.mono (fun _ _=>rfl) hdm hl⟩
   rw[World.cell?_of_block (w:=w) (i9 w m'.obj (hneq b' B e h0))]
   exact h1
 ·by_cases e:b'=b
  ·subst e
   rw[hgb B hB] at hi
   simp at hi
  ·have h0:=hget b' B e hB
   rw[World.frozen?_of_block (w:=w) (i9 w m'.obj (hneq b' B e h0))]
   exact h.free b' B h0 hr i hi
 ·by_cases e:b'=b
  ·subst e
   rw[hgb B hB] at hmp ⊢
   injection hmp with hmp
   subst hmp
   show(setBlock w (ρ b').1 _).heap[(ρ b').1]?=_
   rw[ui,if_pos rfl,if_pos (h.lt b' _ hb)]
  ·have h0:=hget b' B e hB
   exact iK (h.mapc b' B m2 h0 hmp) (i9 w m'.obj (hneq b' B e h0))
 ·exact i9 w m'.obj (fun e=>hbr b _ hb rfl e.symm)
 ·obtain⟨B0,h1,h2⟩:=hsame b' B hB
  exact .inl ⟨b',B0,h1,h2.trans hr,rfl⟩
theorem OP (h:MemRel ρ dom get w)(hn:¬ dom nid)(m':MapC):
  MemRel (fJ ρ nid (w.heap.size,0)) (bZ dom nid 1) (bv get [] nid [some ⟨false,[],some m'⟩]) (w.alloc m'.obj)∧
  Frame ρ get w (fJ ρ nid (w.heap.size,0)) (bv get [] nid [some ⟨false,[],some m'⟩]) (w.alloc m'.obj):=by
 have hold:=nD (ρ:=ρ) (x:=(w.heap.size,0)) hn
 have hl:=uw w m'.obj
 have hdm:∀ b,dom b→bZ dom nid 1 b:=fun b hb=> .inl hb
 rw[Cf]
 have hget:∀ b B,b≠nid→(fun b=>if b=nid then some (⟨false,[],some m'⟩:Blk) else get b) b=some B→get b=some B:=fun b B hb hB=>by simpa [hb] using hB
 have hgn:∀ B,(fun b=>if b=nid then some (⟨false,[],some m'⟩:Blk) else get b) nid=some B→B=⟨false,[],some m'⟩:=fun B hB=>by simpa using hB.symm
 have hrho:∀ b B,b≠nid→get b=some B→fJ ρ nid (w.heap.size,0) b=ρ b:=fun b B hb hB=>hold b (h.has b B hB)
 have hheap:∀ j,j<w.heap.size→(w.alloc m'.obj).heap[j]?=w.heap[j]?:=fun j hj=>by
  show(w.heap.push _)[j]?=_
  rw[Array.getElem?_push,if_neg (by omega)]
 refine⟨⟨fun b B hB=>?_,fun b B hB=>?_,fun b b' B B' hB hB' hr hne=>?_,fun b B hB i v hv=>?_,fun b B hB hr i hi=>?_,fun b B m2 hB hmp=>?_⟩,
  ⟨rfl,rfl,rfl,by simp,fun r hr _=>hheap r hr,hl,fun b B hB hr=>?_⟩⟩
 ·by_cases hb:b=nid
  ·exact .inr ⟨by omega,by omega⟩
  ·exact .inl (h.has b B (hget b B hb hB))
 ·by_cases hb:b=nid
  ·subst hb;rw[dO];simp
  ·have :=h.lt b B (hget b B hb hB)
   rw[hrho b B hb (hget b B hb hB)]
   simp;omega
 ·by_cases hb:b=nid
  ·subst hb
   have hb':b'≠b:=fun e=>hne e.symm
   have :=h.lt b' B' (hget b' B' hb' hB')
   rw[dO,hrho b' B' hb' (hget b' B' hb' hB')]
   simp only;omega
  ·have h1:=hget b B hb hB
   rw[hrho b B hb h1]
   by_cases hb':b'=nid
   ·subst hb'
    rw[dO]
    have :=h.lt b B h1
    simp only;omega
   ·have h2:=hget b' B' hb' hB'
    rw[hrho b' B' hb' h2]
    exact h.inj b b' B B' h1 h2 hr hne
 ·by_cases hb:b=nid
  ·subst hb
   rw[hgn B hB] at hv
   simp at hv
  ·have h1:=hget b B hb hB
   obtain⟨r,h2,h3⟩:=h.cell b B h1 i v hv
   refine⟨r,?_,h3.mono hold hdm hl⟩
   rw[hrho b B hb h1,World.cell?_of_block (w:=w) (hheap _ (h.lt b B h1))]
   exact h2
 ·by_cases hb:b=nid
  ·subst hb
   rw[hgn B hB] at hi
   simp at hi
  ·have h1:=hget b B hb hB
   rw[hrho b B hb h1,World.frozen?_of_block (w:=w) (hheap _ (h.lt b B h1))]
   exact h.free b B h1 hr i hi
 ·by_cases hb:b=nid
  ·subst hb
   rw[hgn B hB] at hmp ⊢
   injection hmp with hmp
   subst hmp
   rw[dO]
   show(w.heap.push _)[w.heap.size]?=_
   simp
  ·have h1:=hget b B hb hB
   rw[hrho b B hb h1]
   exact iK (h.mapc b B m2 h1 hmp) (hheap _ (h.lt b B h1))
 ·by_cases hb:b=nid
  ·subst hb;right;rw[dO];exact Nat.le_refl _
  ·have h1:=hget b B hb hB
   exact .inl ⟨b,B,h1,hr,(by rw[hrho b B hb h1])⟩
end
end
section
section
variable {ρ:Nat→Nat×Nat}{dom:Nat→Prop}{P:Program}{w:World}{get get0:Nat→Option Blk}{nid:Nat}
theorem uR {y:V}{n:Nat}{ys:List V}{q:Prop}{g:List Nat}(h:eP get0 y=some (n,ys,q,g))(hg:∀ b∈g,get b=get0 b):eP get y=some (n,ys,q,g):=by
 unfold eP at*
 split at h
 ·exact h
 ·exact h
 ·split at h
  case h_2=>cases h
  rename_i B hB
  have h':=h
  injection h' with h'
  simp only[Prod.mk.injEq] at h'
  obtain⟨_,_,_,rfl⟩:=h'
  rw[hg _ (by simp),hB]
  exact h
 ·cases h
def Du (ρ:Nat→Nat×Nat)(dom:Nat→Prop)(w:World)(a:Act)(ev:Operand→V)(o:Op):Prop:=∀ x∈o.operands.toList,VR ρ dom w (ev x) (a.eval x)
theorem zX {a:Act}{ev:Operand→V}{x:Option Operand}(h:∀ y∈x.toArray.toList,VR ρ dom w (ev y) (a.eval y)):kW ρ dom w (x.map ev) (x.map a.eval):=by
 cases x with
 |none=>exact .inl ⟨rfl,rfl⟩
 |some y=>exact .inr ⟨_,_,rfl,rfl,h y (by simp)⟩
theorem li {a:Act}{ev:Operand→V}:∀ {l:List Operand},(∀ y∈l,VR ρ dom w (ev y) (a.eval y))→VRs ρ dom w (l.map ev) (l.map a.eval)
 |[],_=>VRs.nil
 |x::l,h=>VRs.cons (h x (by simp)) (li fun y hy=>h y (by simp[hy]))
theorem RunsTo.val {s:Sem Value}{res:Res}(hm:MemRel ρ dom get w)(h:∃ r,s.run P w= .ok r w∧VR ρ dom w res.v r)(ho:res.old=[])(hn:res.news=[]):RunsTo P (do pure (.value (←s)):Sem Next) w ρ dom get nid res:=by
 obtain⟨r,h1,h2⟩:=h
 exact RunsTo.same hm (by rw[Sem.run_bind,h1];rfl) h2 ho hn
theorem RunsTo.weaken {res res':Res}{s:Sem Next}(h:RunsTo P s w ρ dom get nid res)(e1:res.v=res'.v)(e2:res.old=res'.old)(e3:res.news=res'.news):RunsTo P s w ρ dom get nid res':=by
 obtain⟨ρ',w',r,g1,g2,g3,g4,g5⟩:=h
 exact⟨ρ',w',r,g1,g2,by rw[←e2,←e3];exact g3,by rw[←e1,←e3];exact g4,by rw[←e2,←e3];exact g5⟩
theorem Jj {op:BinOp}{t:TypeId}{x y:V}{res:Res}(h:oM P op t x y=some res):res.old=[]∧res.news=[]:=by
 have hu:∀ {n:Nat} (mk:BitVec n→V) (op:BinOp) (x y:BitVec n) (res:Res),lW mk op x y=some res→res.old=[]∧res.news=[]:=fun mk op x y res h=>by
  cases op<;>simp only[lW,Option.some.injEq,seval] at h<;>subst h<;>exact⟨rfl,rfl⟩
 have hi:∀ (op:BinOp) (x y:Int) (res:Res),om op x y=some res→res.old=[]∧res.news=[]:=fun op x y res h=>by
  cases op<;>simp only[om,tu,Option.some.injEq,seval] at h<;>subst h<;>exact⟨rfl,rfl⟩
 have hst:∀ (op:BinOp) (x y:List ac) (res:Res),oL op x y=some res→res.old=[]∧res.news=[]:=fun op x y res h=>by
  cases op<;>simp only[oL,Option.some.injEq,seval] at h<;>subst h<;>exact⟨rfl,rfl⟩
 have hsh:∀ (op:BinOp) (x:V) (n:Nat) (p:Prop) (res:Res),mT op x n p=some res→res.old=[]∧res.news=[]:=fun op x n p res h=>by
  cases op<;>cases x<;>simp only[mT,Option.some.injEq,seval] at h<;>subst h<;>exact⟨rfl,rfl⟩
 unfold oM at h
 repeat' split at h
 all_goals first
  |(exact hu _ _ _ _ _ h)
  |(exact hi _ _ _ _ h)
  |(exact hst _ _ _ _ h)
  |(exact hsh _ _ _ _ _ h)
  |(cases h;done)
  |(simp only[Option.some.injEq] at h;subst h;exact⟨rfl,rfl⟩)
theorem Hr {op:BinOp}{t:TypeId}{x y:V}{get:Nat→Option Blk}{res:Res}(h:lO P op t x y get=some res):res.old=[]∧res.news=[]:=by
 unfold lO at h
 split at h
 ·unfold sH at h
  split at h
  ·split at h
   ·split at h
    ·injection h with h;subst h;exact⟨rfl,rfl⟩
    ·injection h with h;subst h;exact⟨rfl,rfl⟩
    ·cases h
   ·cases h
  ·cases h
 ·exact Jj h
theorem Jk {t ty:TypeId}{x:V}{rx:Value}{res:Res}(h:kn P .len [t] [x] get0 nid=some res)(hm:MemRel ρ dom get w)(hfp:∀ b∈res.fp,get b=get0 b)(hx:VR ρ dom w x rx):
  (∃ r,(Builtin.len_ #[t] ty #[rx]).run P w= .ok r w∧VR ρ dom w res.v r)∧res.old=[]∧res.news=[]:=by
 simp only[kn] at h
 split at h
 case h_5=>
  rename_i k e b hu
  split at h
  case h_2=>cases h
  rename_i ro m hB
  injection h with h;subst h
  unfold VR at hx
  obtain⟨_,rfl⟩:=hx
  have hg:w.heap[(ρ b).1]?=some m.obj:=hm.mapc b _ m ((hfp b (by simp)).trans hB) rfl
  exact⟨⟨_,Hq hu hg,by unfold VR;rfl⟩,rfl,rfl⟩
 all_goals simp only[Option.some.injEq,seval] at h
 all_goals subst h
 all_goals rename_i hu
 ·unfold VR at hx
  obtain⟨b,rfl,rfl⟩:=hx
  exact⟨⟨_,by simp[Builtin.len_,run_underlying hu];rfl,by unfold VR;rw[iI];rfl⟩,rfl,rfl⟩
 ·exact⟨⟨_,by simp[Builtin.len_,run_underlying hu];rfl,by unfold VR;rfl⟩,rfl,rfl⟩
 ·unfold VR at hx
  obtain⟨_,a,c,rfl,_⟩:=hx
  exact⟨⟨_,by simp[Builtin.len_,run_underlying hu];rfl,by unfold VR;rfl⟩,rfl,rfl⟩
 ·unfold VR at hx
  subst hx
  exact⟨⟨_,by simp[Builtin.len_,run_underlying hu];rfl,by unfold VR;rfl⟩,rfl,rfl⟩
theorem VU {l:Array Operand}{ev:Operand→V}{x:V}(h:l.toList.map ev=[x]):∃ o,l=#[o]∧x=ev o:=by
 obtain⟨l⟩:=l
 match l,h with
 |[o],h=>simp at h;exact⟨o,rfl,h.symm⟩
theorem qw {l:Array Operand}{ev:Operand→V}{x y:V}(h:l.toList.map ev=[x,y]):∃ o p,l=#[o,p]∧x=ev o∧y=ev p:=by
 obtain⟨l⟩:=l
 match l,h with
 |[o,p],h=>simp at h;exact⟨o,p,rfl,h.1.symm,h.2.symm⟩
theorem VV {l:Array TypeId}{t:TypeId}(h:l.toList=[t]):l=#[t]:=by
 obtain⟨l⟩:=l;simp at h;rw[h]
theorem xw {l:Array TypeId}{t u:TypeId}(h:l.toList=[t,u]):l=#[t,u]:=by
 obtain⟨l⟩:=l;simp at h;rw[h]
theorem Ge {t tx ty e:TypeId}{x y:V}{rx ry:Value}{n sz:Nat}{xs ys:List V}{p q:Prop}{f g fp:List Nat}(ht:P.underlying t=some (.slice e))(hs:al P e=some sz)
  (hxs:iq x=false) (hey:ir sz y=true) (hk:oN P tx y=true) (hsx:eP get x=some (n,xs,p,f)) (hsy:eP get y=some (0,ys,q,g)) (hq:q)
  (hx:VR ρ dom w x rx) (hy:VR ρ dom w y ry) (hm:MemRel ρ dom get w):RunsTo P (do pure (.value (←Builtin.append_ #[t,tx] ty #[rx,ry])):Sem Next) w ρ dom get nid {v:=x,pre:=q,fp:=fp}:=by
 have hkk:=zS hk
 have hinf:∃ i,P.info? e=some i∧i.size=sz:=by
  unfold al at hs
  cases hi:P.info? e with
  |none=>rw[hi] at hs;cases hs
  |some i=>rw[hi] at hs;injection hs with hs;exact⟨i,rfl,hs⟩
 obtain⟨i,hi,hsz⟩:=hinf
 have hys:ys=[]:=by
  unfold eP at hsy
  split at hsy
  ·injection hsy with hsy;simp only[Prod.mk.injEq] at hsy;exact hsy.2.1.symm
  ·injection hsy with hsy;simp only[Prod.mk.injEq] at hsy
   obtain⟨h1,h2,_⟩:=hsy
   rw[←h2,List.length_eq_zero_iff.1 h1];rfl
  ·split at hsy
   ·injection hsy with hsy;simp only[Prod.mk.injEq] at hsy
    obtain⟨h1,h2,_⟩:=hsy
    rw[←h2,h1];simp
   ·cases hsy
  ·cases hsy
 subst hys
 obtain⟨news,hsrc,hnews⟩:=vj hsy hq hm hy hey hkk (fun u hu=>by cases hu)
 have hn0:news=[]:=by have :=hnews.length;exact List.length_eq_zero_iff.1 (by simpa using this)
 subst hn0
 rw[←hsz] at hsrc
 have hsh:∃ a c,rx= .slice a n c∧n≤c:=by
  unfold eP at hsx
  split at hsx
  ·injection hsx with hsx;simp only[Prod.mk.injEq] at hsx
   obtain⟨rfl,_⟩:=hsx
   unfold VR at hx;exact⟨_,_,hx,Nat.le_refl _⟩
  ·simp[iq] at hxs
  ·split at hsx
   case h_2=>cases hsx
   injection hsx with hsx;simp only[Prod.mk.injEq] at hsx
   obtain⟨rfl,_⟩:=hsx
   unfold VR at hx
   obtain⟨_,a,c,h1,h2,_⟩:=hx
   exact⟨_,_,h1,h2⟩
  ·cases hsx
 obtain⟨a,c,rfl,hle⟩:=hsh
 exact RunsTo.same hm (by rw[Sem.run_bind,run_append_nothing w t tx ty e i ht hi a n c hle ry hsrc];rfl) hx rfl rfl
theorem EU {b:Builtin}{ats:Array TypeId}{args:Array Operand}{ty:TypeId}{consts:Array Bool}{a:Act}{ev:Operand→V}{res:Res}(h:kn P b ats.toList (args.toList.map ev) get0 nid=some res)(hp:res.pre)
  (hr:∀ x∈args.toList,VR ρ dom w (ev x) (a.eval x)) (hm:MemRel ρ dom get w) (hfp:∀ b∈res.fp,get b=get0 b) (hd:∀ b,nid≤b→b<nid+res.news.length→¬ dom b):
  RunsTo P (builtin b ats ty consts (args.map a.eval)) w ρ dom get nid res:=by
 have h0:=h
 have em1:∀ o,(#[o]:Array Operand).map a.eval=#[a.eval o]:=fun o=>by simp
 have em2:∀ o p,(#[o,p]:Array Operand).map a.eval=#[a.eval o,a.eval p]:=fun o p=>by simp
 unfold kn at h
 split at h
 ·rename_i t x ht hx
  obtain⟨o,rfl,rfl⟩:=VU hx
  rw[hx,ht] at h0
  rw[VV ht,em1]
  obtain⟨g1,g2,g3⟩:=Jk (ty:=ty) h0 hm hfp (hr o (by simp))
  exact RunsTo.val hm g1 g2 g3
 ·rename_i t u x y ht hx
  obtain⟨o,p,rfl,e1,e2⟩:=qw hx
  split at h
  case h_2=>cases h
  rename_i b k hmt
  split at h
  case h_2=>cases h
  rename_i m hB
  injection h with h;subst h
  have v1:=hr o (by simp)
  have v2:=hr p (by simp)
  rw[←e1] at v1;rw[←e2] at v2
  unfold VR at v1 v2
  obtain⟨kt,et,hu,hk,hz⟩:=vk hmt
  have hB:=(hfp b (by simp)).trans hB
  have hg:w.heap[(ρ b).1]?=some m.obj:=hm.mapc b _ m hB rfl
  obtain⟨g1,g2⟩:=zW (nid:=nid) hm hB (m.del k)
  refine⟨ρ,_,.tuple #[],.inl ?_,fun _ _=>rfl,g1,by unfold VR;exact⟨_,rfl,VRs.nil⟩,g2⟩
  rw[xw ht,em2,v1.2,v2]
  show(do pure (.value (←Builtin.delete_ #[t,u] ty #[.map (some (ρ b).1),.int .u32 (k.toNat:Int)])):Sem Next).run P w=_
  rw[Sem.run_bind,Hp hu hk hg]
  rfl
 ·rename_i x y hx
  obtain⟨o,p,rfl,e1,e2⟩:=qw hx
  injection h with h;subst h
  have v1:=hr o (by simp)
  have v2:=hr p (by simp)
  rw[←e1] at v1;rw[←e2] at v2
  unfold VR at v1 v2
  refine RunsTo.val hm ⟨.int .i64 (if y<x then y else x),?_,by unfold VR;rfl⟩ rfl rfl
  simp[Builtin.min_,Builtin.min2,v1,v2]
 ·rename_i x y hx
  obtain⟨o,p,rfl,e1,e2⟩:=qw hx
  injection h with h;subst h
  have v1:=hr o (by simp)
  have v2:=hr p (by simp)
  rw[←e1] at v1;rw[←e2] at v2
  unfold VR at v1 v2
  refine RunsTo.val hm ⟨.int .i64 (if y>x then y else x),?_,by unfold VR;rfl⟩ rfl rfl
  simp[Builtin.max_,Builtin.max2,v1,v2]
 ·rename_i t tx x y ht hx
  obtain⟨o,p,rfl,rfl,rfl⟩:=qw hx
  rw[xw ht,em2]
  split at h
  case h_2=>cases h
  rename_i e n xs pp f m ys q g he hsx hsy
  split at h
  case h_2=>cases h
  rename_i sz by_ z hs hb hz
  split at h
  case isFalse=>cases h
  rename_i hc
  obtain⟨c1,c2,c3,c4,c5,c6⟩:=hc
  injection h with h;subst h
  have hfpe:(fc n m sz by_ (ev o) xs ys pp q f g get0 nid).fp=f++g:=by unfold fc;split <;>rfl
  rw[hfpe] at hfp
  have hsx':=uR hsx fun b hb=>hfp b (by simp[hb])
  have hsy':=uR hsy fun b hb=>hfp b (by simp[hb])
  by_cases hm0:m=0
  ·subst hm0
   have hv0:fc n 0 sz by_ (ev o) xs ys pp q f g get0 nid={v:=ev o,pre:=q,fp:=f++g}:=by unfold fc;rw[if_pos rfl]
   rw[hv0] at hp ⊢
   exact Ge (ty:=ty) (ph he) hs c3 c5 c6 hsx' hsy' hp (hr o (by simp)) (hr p (by simp)) hm
  ·have hpre:(fc n m sz by_ (ev o) xs ys pp q f g get nid).pre:=by
    unfold fc at hp ⊢
    rw[if_neg hm0] at hp ⊢
    obtain⟨a1,a2,a3,a4,a5,a6,a7⟩:=hp
    exact⟨a1,a2,a3,a4,a5,a6,fun b hb=>by rw[hfp b (by simp[hb])];exact a7 b hb⟩
   have hnw:(fc n m sz by_ (ev o) xs ys pp q f g get0 nid).news.length=1:=by unfold fc;rw[if_neg hm0];rfl
   refine(Fo (ty:=ty) (nid:=nid) (ph he) hs hb hz c1 c2 c3 c4 c5 c6 hsx' hsy' hpre (hr o (by simp)) (hr p (by simp)) hm (hd nid (Nat.le_refl _) (by omega))).weaken ?_ ?_ ?_<;>(unfold fc;rw[if_neg hm0,if_neg hm0])
 ·rename_i t tx x y ht hx
  obtain⟨o,p,rfl,e1,rfl⟩:=qw hx
  rw[xw ht,em2]
  split at h
  case h_2=>cases h
  rename_i e b p' len esz m ys q g he hsy
  split at h
  case h_2=>cases h
  rename_i sz cs hs hb
  split at h
  case isFalse=>cases h
  rename_i hc
  obtain⟨rfl,rfl,c3⟩:=hc
  injection h with h;subst h
  obtain⟨a1,a2,a3,a4⟩:=hp
  have hb':get b=bK cs:=by rw[hfp b (by simp)];exact hb
  have hsy':=uR hsy fun b hb=>hfp b (by simp[hb])
  have v1:=hr o (by simp)
  rw[←e1] at v1
  exact(Hl (ty:=ty) (nid:=nid) (ph he) hs hb' c3 hsy' a1 a2 a3 a4 v1 (hr p (by simp)) hm).weaken rfl rfl rfl
 ·cases h
end
end
section
section
variable {ρ:Nat→Nat×Nat}{dom:Nat→Prop}{P:Program}{w:World}{get get0:Nat→Option Blk}{nid:Nat}
theorem yz {a:Act}{ev:Operand→V}{parts:Array (Nat×Operand)}(h:∀ x∈parts.toList.map (·.2),VR ρ dom w (ev x) (a.eval x)):
  (parts.map fun(i,x)=>(i,a.eval x)).size=(parts.toList.map fun x=>(x.1,ev x.2)).length∧
  ∀ (i:Nat) x y,(parts.toList.map fun x=>(x.1,ev x.2))[i]?=some x→(parts.map fun(i,x)=>(i,a.eval x)).toList[i]?=some y→x.1=y.1∧VR ρ dom w x.2 y.2:=by
 refine⟨by simp,fun i x y hx hy=>?_⟩
 simp only[Array.toList_map,List.getElem?_map] at hx hy
 cases hp:parts.toList[i]? with
 |none=>rw[hp] at hx;cases hx
 |some p=>
  rw[hp] at hx hy
  simp only[Option.map_some,Option.some.injEq] at hx hy
  subst hx;subst hy
  exact⟨rfl,h p.2 (List.mem_map.2 ⟨p,List.mem_of_getElem? hp,rfl⟩)⟩
theorem Fq {t:TypeId}{nm:String}(h:(dK P t nm).isSome=true)(k:Nat)(v:Value)(w:World):(nilAhead (k+1) t v nm).run P w= .ok (some false) w:=by
 obtain⟨f,h⟩:=Option.isSome_iff_exists.1 h
 unfold dK at h
 split at h
 case h_2=>cases h
 rename_i i d hi hu
 split at h
 case h_2=>cases h
 rename_i mm hm
 split at h
 case isFalse=>cases h
 rename_i hp
 have hpl:mm.path.toList=[]:=by
  have :=Array.isEmpty_iff.1 hp
  rw[this]
 unfold nilAhead
 have h1:(typeInfo t).run P w= .ok i w:=by simp[typeInfo,hi]
 simp only[Sem.run_bind,h1,Result.andThen_ok,hm,hpl,followBlind,Sem.run_pure]
 split at h
 ·rename_i f' hf
  rw[hf]
  simp only[Sem.run_pure]
 ·cases h
 ·cases h
 ·rename_i f' hf hnp
  rw[hf]
  simp only[Sem.run_bind,run_underlying hu,Result.andThen_ok]
  split
  all_goals(first|(rename_i e;exact absurd rfl (hnp _))|simp only[Sem.run_pure])
 ·cases h
theorem Gf {t : TypeId} {nm : String} (h : (dK P t nm).isSome = true) (x : Value) (c : Array Value) (w : World) :
    (do if (← nilAhead ((← program).types.size + Made.depth) t x nm) != some false then
          unsupported (.noEntry "op/nilCheck.the method's receiver behind this interface value is a nil pointer, or cannot be seen to be none, and the arguments act or may panic (ledger 612)")
        pure (.value (.func (.method nm) #[.iface t x] c)) : Sem Next).run P w = .ok (.value (.func (.method nm) #[.iface t x] c)) w := by
  have hpr : (program : Sem Program).run P w = .ok P w := by rfl
  have hd : P.types.size + Made.depth = (P.types.size + Made.depth - 1) + 1 := by unfold Made.depth; omega
  simp only [Sem.run_bind, hpr, Result.andThen_ok]
  rw [hd, Fq h]
  rfl
theorem Jl {o:Oper}{a:Act}{ev:Operand→V}{res:Res}(h:bq P o.op ev get0 nid=some res)(hp:res.pre)(hr:Du ρ dom w a ev o.op)(hm:MemRel ρ dom get w)
  (hfp:∀ b∈res.fp,get b=get0 b) (hd:∀ b,nid≤b→b<nid+res.news.length→¬ dom b):RunsTo P (execOp a.eval o) w ρ dom get nid res:=by
 obtain⟨dst,op,type,pos,after,guard⟩:=o
 simp only at h hr
 unfold Du at hr
 unfold execOp
 cases op<;>simp only[bq,seval] at h<;>simp only[Op.operands] at hr<;>simp only
 case move x=>
  injection h with h;subst h
  exact RunsTo.same hm rfl (hr x (by simp)) rfl rfl
 case assign x=>
  injection h with h;subst h
  exact RunsTo.same hm rfl (hr x (by simp)) rfl rfl
 case pick c x y=>
  split at h
  case h_2=>cases h
  rename_i b hb
  injection h with h;subst h
  have v1:=hr c (by simp)
  rw[hb] at v1
  unfold VR at v1
  refine RunsTo.same (r:=if b then a.eval x else a.eval y) hm (by simp[v1,asBool]) ?_ rfl rfl
  cases b
  ·exact hr y (by simp)
  ·exact hr x (by simp)
 case alloc e=>
  split at h
  case h_2=>cases h
  rename_i z hz
  injection h with h;subst h
  exact(Gc hz hm (hd nid (Nat.le_refl _) (by simp))).weaken rfl rfl rfl
 case box e x=>
  have v1:=hr x (by simp)
  have fin:ev x≠ .junk→(∀ l,ev x≠ .tup l)→res={v:= .ptr nid 0,news:=[bK ((ev x).cells)]}→RunsTo P (do pure (.value (←Instr.box e (a.eval x))):Sem Next) w ρ dom get nid res:=by
   intro h1 h2 h3
   subst h3
   exact zR v1 h1 h2 hm (hd nid (Nat.le_refl _) (by simp))
  split at h
  ·split at h
   ·cases h
   ·cases h
   ·cases h
   ·rename_i hj1 hj3 hj2
    injection h with h
    exact fin (fun e=>hj1 e) (fun l e=>hj2 l e) h.symm
  ·split at h
   ·rename_i m hm2 _ c cs hx2
    injection h with h
    subst h
    rw[hx2] at v1
    exact zR v1 (fun e=>by cases e) (fun l e=>by cases e) hm (hd nid (Nat.le_refl _) (by simp)) (mp:=some m) (fun _ _ e=>by cases e)
   ·cases h
 case build t parts=>
  obtain⟨p1,p2⟩:=yz (ρ:=ρ) (dom:=dom) (w:=w) (a:=a) (ev:=ev) (parts:=parts) (by simpa using hr)
  split at h
  ·rename_i z pl hb
   simp only[Option.map_eq_some_iff] at h
   obtain⟨cs,hf,rfl⟩:=h
   exact RunsTo.val hm (yd hb p1 p2 hf) rfl rfl
  ·rename_i z s hb
   simp only[Option.map_eq_some_iff] at h
   obtain⟨cs,hf,rfl⟩:=h
   exact RunsTo.val hm (yd hb p1 p2 hf) rfl rfl
  ·cases h
 case buildSlice t len parts=>
  obtain⟨p1,p2⟩:=yz (ρ:=ρ) (dom:=dom) (w:=w) (a:=a) (ev:=ev) (parts:=parts) (by simpa using hr)
  split at h
  case h_2=>cases h
  rename_i e he
  split at h
  case h_2=>cases h
  rename_i s z hs hz
  split at h
  case isFalse=>cases h
  rename_i hc
  simp only[Option.map_eq_some_iff] at h
  obtain⟨cs,hf,rfl⟩:=h
  exact Eb (ph he) hs hz hc.1 hc.2.1 hc.2.2 p1 p2 hf hm (hd nid (Nat.le_refl _) (by simp))
 case load t x=>
  have v1:=hr x (by simp)
  split at h
  case h_2=>cases h
  rename_i b p hb
  rw[hb] at v1
  split at h
  ·rename_i B s hB ht hs
   injection h with h;subst h
   have :=rq hm v1 (by rw[hfp b (by simp)];exact hB) ht hs
   simp only[if_true] at this
   exact RunsTo.val hm (this hp) rfl rfl
  ·rename_i B s hB ht hs
   injection h with h;subst h
   have :=rq hm v1 (by rw[hfp b (by simp)];exact hB) ht hs
   simp only[Bool.false_eq_true,if_false] at this
   exact RunsTo.val hm (this hp) rfl rfl
  ·cases h
 case store t x y=>
  have v1:=hr x (by simp)
  have v2:=hr y (by simp)
  split at h
  case h_2=>cases h
  rename_i b p hb
  rw[hb] at v1
  split at h
  case h_3=>cases h
  ·rename_i cs s hB hs
   split at h
   case isFalse=>cases h
   rename_i hc
   injection h with h;subst h
   subst hc
   exact(yw (o:=⟨dst,.store t x y,type,pos,after,guard⟩) (nid:=nid) hm v1 v2 (fun _ h=>by cases h) (by rw[hfp b (by simp)];exact hB) hs hp.1 hp.2).weaken rfl rfl rfl
  ·rename_i c cs m s hB hs
   split at h
   case isFalse=>cases h
   rename_i hc
   injection h with h;subst h
   subst hc
   exact(yw (o:=⟨dst,.store t x y,type,pos,after,guard⟩) (nid:=nid) hm v1 v2 (fun _ _ h=>by cases h) (by rw[hfp b (by simp)];exact hB) hs hp.1 hp.2).weaken rfl rfl rfl
 case nilCheck x=>
  have v1:=hr x (by simp)
  split at h
  ·rename_i b p hb
   injection h with h;subst h
   rw[hb] at v1
   have v2:=v1
   unfold VR at v2
   obtain⟨_,e⟩:=v2
   exact RunsTo.same hm (by rw[e];rfl) v1 rfl rfl
  ·rename_i f x1 x2 hb
   injection h with h;subst h
   rw[hb] at v1
   have v2:=v1
   unfold VR at v2
   obtain⟨f',c',e,_⟩:=v2
   exact RunsTo.same hm (by rw[e];rfl) v1 rfl rfl
  ·rename_i nm t v0 hb
   split at h
   case isFalse=>cases h
   rename_i hmo
   injection h with h;subst h
   rw[hb] at v1
   have v2:=v1
   unfold VR at v2
   obtain⟨x',e,_⟩:=v2
   refine RunsTo.same hm ?_ v1 rfl rfl
   rw[e]
   exact Gf hmo x' #[] w
  ·rename_i t v hb
   injection h with h;subst h
   rw[hb] at v1
   have v2:=v1
   unfold VR at v2
   obtain⟨f',e,_⟩:=v2
   exact RunsTo.same hm (by rw[e];rfl) v1 rfl rfl
  ·cases h
 case binOp op t x y ty=>
  obtain⟨h1,h2⟩:=Hr h
  exact RunsTo.val hm (Hk hm hfp h hp (hr x (by simp)) (hr y (by simp))) h1 h2
 case unOp op t x=>
  have hpure:res.old=[]∧res.news=[]:=by
   unfold nl at h
   split at h<;>simp only[Option.some.injEq,seval] at h<;>subst h<;>exact⟨rfl,rfl⟩
  exact RunsTo.val hm (Lb h (hr x (by simp))) hpure.1 hpure.2
 case convert s d x=>
  have v1:=hr x (by simp)
  unfold oD at h
  split at h
  ·rename_i k1 k2 x' hu1 hu2
   simp only[Option.map_eq_some_iff] at h
   obtain⟨v,hv,rfl⟩:=h
   obtain⟨kk,n,e,hv2⟩:=ER hv v1
   refine RunsTo.val hm ⟨_,?_,hv2⟩ rfl rfl
   rw[e]
   simp[convert,run_underlying hu1,run_underlying hu2,Conv.intToInt]
  ·rename_i b hu1 hu2 hb
   injection h with h;subst h
   rw[hb] at v1
   have v2:=v1
   unfold VR at v2
   obtain⟨b',e,_⟩:=v2
   refine RunsTo.val hm ⟨_,?_,v1⟩ rfl rfl
   rw[e]
   simp[convert,run_underlying hu1,run_underlying hu2]
  ·rename_i e b hu1 hu2 hb
   split at h
   case h_2=>cases h
   rename_i he
   injection h with h;subst h
   rw[hb] at v1
   exact(Ez hu1 hu2 he v1 hm (hd nid (Nat.le_refl _) (by simp))).weaken rfl rfl rfl
  ·rename_i e hu1 hu2 hb
   split at h
   case h_2=>cases h
   rename_i he
   injection h with h;subst h
   rw[hb] at v1
   unfold VR at v1
   refine RunsTo.val hm ⟨.string .empty,?_,by unfold VR;exact⟨_,rfl,rfl⟩⟩ rfl rfl
   rw[v1]
   simp[convert,run_underlying hu1,run_underlying hu2,run_underlying he,Conv.bytesToString]
  ·rename_i e b p len hu1 hu2 hb
   split at h
   case h_2=>cases h
   rename_i B he hB
   injection h with h;subst h
   rw[hb] at v1
   exact RunsTo.val hm (EA hu1 he hu2 hm (by rw[hfp b (by simp)];exact hB) hp.1 hp.2 v1) rfl rfl
  ·cases h
 case makeMap t rsv=>
  cases rsv with
  |some _=>simp at h
  |none=>
   simp only at h
   split at h
   case isFalse=>cases h
   rename_i ht
   injection h with h;subst h
   have hdn:=hd nid (Nat.le_refl _) (by simp)
   obtain⟨g1,g2⟩:=OP hm hdn ⟨[],0⟩
   refine⟨_,_,.map (some w.heap.size),.inl ?_,nD hdn,g1,?_,g2⟩
   ·simp[Instr.makeMap,newObj,Sem.run,MapC.obj]
   ·unfold VR
    exact⟨.inr ⟨by omega,by simp⟩,by rw[dO]⟩
 case lookup t x i ok=>
  have v1:=hr x (by simp)
  have v2:=hr i (by simp)
  split at h
  case h_2=>cases h
  rename_i b k hmt hx hi
  split at h
  case h_2=>cases h
  rename_i ro m hB
  injection h with h;subst h
  rw[hx] at v1;rw[hi] at v2
  unfold VR at v1 v2
  obtain⟨kt,et,hu,hk,hz⟩:=vk hmt
  have hg:w.heap[(ρ b).1]?=some m.obj:=hm.mapc b _ m ((hfp b (by simp)).trans hB) rfl
  refine RunsTo.val hm ⟨_,by rw[v1.2,v2];exact Ho hu hk hz hg k ok,?_⟩ rfl rfl
  cases ok
  ·show VR _ _ _ (.i64 _) _
   unfold VR;rfl
  ·show VR _ _ _ (.tup _) _
   unfold VR
   exact⟨_,rfl,VRs.cons (by unfold VR;rfl) (VRs.cons (by unfold VR;rfl) VRs.nil)⟩
 case mapUpdate t x i y=>
  have v1:=hr x (by simp)
  have v2:=hr i (by simp)
  have v3:=hr y (by simp)
  split at h
  case h_2=>cases h
  rename_i b k n hmt hx hi hy
  split at h
  case h_2=>cases h
  rename_i m hB
  injection h with h;subst h
  rw[hx] at v1;rw[hi] at v2;rw[hy] at v3
  unfold VR at v1 v2 v3
  obtain⟨kt,et,hu,hk,hz⟩:=vk hmt
  have hB:=(hfp b (by simp)).trans hB
  have hg:w.heap[(ρ b).1]?=some m.obj:=hm.mapc b _ m hB rfl
  obtain⟨g1,g2⟩:=zW (nid:=nid) hm hB (m.set k n)
  refine⟨ρ,_,undef,.inr ⟨?_,rfl⟩,fun _ _=>rfl,g1,by unfold VR;trivial,g2⟩
  rw[v1.2,v2,v3,Sem.run_bind,ET hu hk hg]
  rfl
 case makeInterface t x=>
  have v1:=hr x (by simp)
  split at h
  case isFalse=>cases h
  rename_i ht
  injection h with h;subst h
  unfold rW at ht
  split at ht
  ·cases ht
  ·rename_i d hni hu
   refine RunsTo.val hm ⟨.iface t _,?_,by unfold VR;exact⟨_,rfl,v1⟩⟩ rfl rfl
   simp only[Instr.makeInterface,Sem.run_bind,run_underlying hu,Result.andThen_ok]
   rfl
  ·cases ht
 case sliceToArrayPointer t x=>
  have v1:=hr x (by simp)
  split at h
  case h_2=>cases h
  rename_i n _ b p len _ ht hx
  injection h with h;subst h
  rw[hx] at v1
  unfold VR at v1
  obtain⟨hdb,ad,cap,e,hlc,ha⟩:=v1
  obtain⟨hp1,hp2⟩:=hp
  obtain⟨rfl,_⟩:=ha (by omega)
  refine RunsTo.val hm ⟨_,?_,by unfold VR;exact⟨hdb,rfl⟩⟩ rfl rfl
  rw[e]
  have hnl:¬ (len<n):=by omega
  simp[Instr.arrayAt,run_underlying (Ji ht),hnl]
 case makeFunc fn first caps=>
  split at h
  case h_3=>cases h
  case h_2=>
   split at h
   case h_2=>cases h
   rename_i t v hl
   split at h
   case isFalse=>cases h
   rename_i hce
   injection h with h;subst h
   have hls:=li (ρ:=ρ) (dom:=dom) (w:=w) (a:=a) (ev:=ev) (l:=first.toList) fun y hy=>hr y (by simp;exact .inl (by simpa using hy))
   rw[hl] at hls
   unfold VRs at hls
   obtain⟨r,rs,e1,e2,e3⟩:=hls
   unfold VR at e2
   obtain⟨r',e2,hvx⟩:=e2
   unfold VRs at e3
   subst e3 e2
   refine RunsTo.val hm ⟨_,rfl,?_⟩ rfl rfl
   unfold VR
   have hce:caps=#[]:=by simpa using hce
   subst hce
   refine⟨r',?_,hvx⟩
   rw[Array.map_empty,show first.map a.eval=#[.iface t r'] from by
    apply Array.ext'
    rw[Array.toList_map];exact e1]
  rename_i f
  injection h with h;subst h
  refine RunsTo.val hm ⟨_,rfl,?_⟩ rfl rfl
  unfold VR
  exact⟨_,_,rfl,by simpa using li fun y hy=>hr y (by simp;exact .inl (by simpa using hy)),by simpa using li fun y hy=>hr y (by simp;exact .inr (by simpa using hy))⟩
 case makeSlice t l c=>
  have v1:=hr l (by simp)
  have v2:=hr c (by simp)
  split at h
  case h_2=>cases h
  rename_i e n m he hn hm'
  split at h
  case h_2=>cases h
  rename_i s by_ z hs hb hz
  split at h
  case isFalse=>cases h
  rename_i hc
  injection h with h;subst h
  obtain⟨rfl,p2,p3,p4⟩:=hp
  rw[hn] at v1;rw[hm'] at v2
  unfold VR at v1 v2
  rw[v1,v2]
  exact(Ei (ph he) hs hb hz hc.1 hc.2 p2 p3 p4 hm (hd nid (Nat.le_refl _) (by simp))).weaken rfl rfl rfl
 case slice t x lo hi mx=>
  cases mx with
  |some _=>simp at h
  |none=>
   simp only[Option.isSome_none,Bool.false_eq_true,if_false] at h
   have v1:=hr x (by simp)
   have o1:=zX (x:=lo) fun y hy=>hr y (by simp at hy ⊢;simp[hy])
   have o2:=zX (x:=hi) fun y hy=>hr y (by simp at hy ⊢;simp[hy])
   simp only[Option.map_none]
   split at h
   ·rename_i s hu hx
    split at h
    case h_2=>cases h
    rename_i l hh hl hhh
    injection h with h;subst h
    rw[hx] at v1
    exact RunsTo.val hm (Ej hu v1 hl hhh hp.1 hp.2.1 hp.2.2 o1 o2) rfl rfl
   ·rename_i e b p len esz hu hx
    split at h
    case h_2=>cases h
    rename_i l hh hl hhh
    split at h
    case h_2=>cases h
    rename_i s hs
    split at h
    case isFalse=>cases h
    rename_i he
    subst he
    injection h with h;subst h
    rw[hx] at v1
    exact RunsTo.val hm (D8 hu hs v1 hl hhh hp.1 hp.2.1 hp.2.2 o1 o2) rfl rfl
   ·rename_i e hu hx
    split at h
    case h_2=>cases h
    rename_i l hh s hl hhh hs
    injection h with h;subst h
    obtain⟨rfl,rfl⟩:=hp
    rw[hx] at v1
    have v2:=v1
    unfold VR at v2
    have hb:=qL (P:=P) (isS:=true) (cap:=0) hl hhh (Int.le_refl _) (Int.le_refl _) (Int.le_refl _) (Nat.le_refl _) o1 o2
    refine RunsTo.val hm ⟨_,?_,v1⟩ rfl rfl
    rw[v2]
    simp[Instr.sliceAt,run_underlying hu,Instr.slice,hb,kb hs]
   ·rename_i n e b p hu hx
    split at h
    case h_2=>cases h
    rename_i l hh s cs hl hhh hs hB
    injection h with h;subst h
    rw[hx] at v1
    exact RunsTo.val hm (Ek hu hs hm (by rw[hfp b (by simp)];exact hB) v1 hl hhh hp.1 hp.2.1 hp.2.2.1 hp.2.2.2 o1 o2) rfl rfl
   ·cases h
 case fieldAddr s x f=>
  have v1:=hr x (by simp)
  split at h
  case h_2=>cases h
  rename_i off ft b p hfl hx
  split at h
  case h_2=>cases h
  rename_i n hn
  split at h
  case isTrue=>cases h
  rename_i hn0
  injection h with h;subst h
  rw[hx] at v1
  unfold VR at v1
  obtain⟨hdb,e⟩:=v1
  unfold aw at hfl
  split at hfl
  case h_2=>cases hfl
  rename_i fs hu
  split at hfl
  case h_2=>cases hfl
  rename_i fld hfld
  injection hfl with hfl
  simp only[Prod.mk.injEq] at hfl
  obtain⟨rfl,rfl⟩:=hfl
  refine RunsTo.val hm ⟨.pointer (some ⟨(ρ b).1,(ρ b).2+(p+fld.offset),none⟩),?_,by unfold VR;exact⟨hdb,rfl⟩⟩ rfl rfl
  rw[e]
  simp[Instr.fieldAt,run_underlying hu,hfld,Instr.sureAddr,fieldPlace,kb hn,hn0,vW,Nat.add_assoc]
 case indexAddr t x i=>
  have v1:=hr x (by simp)
  have v2:=hr i (by simp)
  split at h
  ·rename_i n e b p ii hu hx hi
   split at h
   case h_2=>cases h
   rename_i s hs
   injection h with h;subst h
   rw[hx] at v1
   exact RunsTo.val hm (El hu hs v1 hi v2 hp.1 hp.2) rfl rfl
  ·rename_i e b p len esz ii hu hx hi
   split at h
   case h_2=>cases h
   rename_i s hs
   split at h
   case isFalse=>cases h
   rename_i he
   subst he
   injection h with h;subst h
   rw[hx] at v1
   exact RunsTo.val hm (D9 hu hs v1 hi v2 hp.1 hp.2) rfl rfl
  ·cases h
 case index t x i=>
  have v1:=hr x (by simp)
  have v2:=hr i (by simp)
  split at h
  ·rename_i n e cs ii hu hx hi
   rw[hx] at v1
   split at h
   ·rename_i s ht hs
    injection h with h;subst h
    have :=xL hu ht hs v1 hi v2 hp.1 hp.2.1
    simp only[Bool.false_eq_true,if_false] at this
    exact RunsTo.val hm (this hp.2.2) rfl rfl
   ·rename_i s ht hs
    injection h with h;subst h
    have :=xL hu ht hs v1 hi v2 hp.1 hp.2
    simp only[if_true] at this
    exact RunsTo.val hm this rfl rfl
   ·cases h
  ·rename_i s ii hu hx hi
   injection h with h;subst h
   rw[hx] at v1
   exact RunsTo.val hm (Em hu v1 hi v2 hp.1 hp.2) rfl rfl
  ·cases h
 case extract t i=>
  have v1:=hr t (by simp)
  split at h
  case h_2=>cases h
  rename_i vs hx
  split at h
  case h_2=>cases h
  rename_i v hv
  injection h with h;subst h
  rw[hx] at v1
  unfold VR at v1
  obtain⟨rs,e,hrs⟩:=v1
  obtain⟨r,g1,g2⟩:=hrs.get hv
  refine RunsTo.val hm ⟨r,?_,g2⟩ rfl rfl
  rw[e]
  have :rs[i]?=some r:=by rw[←g1];simp
  simp[Instr.extract,this]
 case call c=>
  obtain⟨callee,args,argTypes⟩:=c
  cases callee with
  |builtin b=>
   exact EU (ty:=type) (a:=a) h hp (fun y hy=>hr y (by simp[Call.operands];simpa using hy)) hm hfp hd
  |value f=>simp at h
  |invoke r m=>simp at h
 all_goals cases h
end
end
section
structure St where
 t:List (Nat×V)
 H:List (Option Blk)
def af:List (Nat×V)→Nat→V
 |[],_=> .junk
 |(i,v)::r,t=>if i=t then v else af r t
def St.get (s:St)(t:Nat):V:=af s.t t
def ab (H:List (Option Blk))(b:Nat):Option Blk:=(H[b]?).join
def St.ev (s:St):Operand→V
 | .tmp t=>s.get t
 | .const v=>ofValue v
 | .func f=> .fn f [] []
 | .global _=> .junk
def cr (H:List (Option Blk)):List (Nat×Option Blk)→List (Option Blk)
 |[]=>H
 |(i,x)::r=>(cr H r).set i x
def eB (t:List (Nat×V)):Option Tmp→V→List (Nat×V)
 |some d,v=>(d,v)::t
 |none,_=>t
def St.after (s:St)(dst:Option Tmp)(res:Res):St:=⟨eB s.t dst res.v,cr s.H res.old++res.news⟩
def St.put (s:St)(dst:Option Tmp)(v:V):St:=⟨eB s.t dst v,s.H⟩
def dV (n:Nat):Option Tmp→Prop
 |some d=>d<n
 |none=>True
structure RelT (ρ:Nat→Nat×Nat) (dom:Nat→Prop) (w:World) (n:Nat) (T:Nat→V) (a:Act):Prop where
 size:a.tmps.size=n
 defers:a.defers=[]
 slot:∀ t,VR ρ dom w (T t) (a.tmps.getD t undef)
structure RelSt (ρ:Nat→Nat×Nat) (n:Nat) (s:St) (a:Act) (w:World):Prop where
 tmps:RelT ρ (· <s.H.length) w n s.get a
 mem:MemRel ρ (· <s.H.length) (ab s.H) w
section
variable {ρ ρ':Nat→Nat×Nat}{dom dom':Nat→Prop}{P:Program}{w w':World}{n:Nat}{a:Act}
theorem RelT.mono {T:Nat→V}(h:RelT ρ dom w n T a)(hρ:∀ b,dom b→ρ' b=ρ b)(hd:∀ b,dom b→dom' b)(hl:Lasts w w'):RelT ρ' dom' w' n T a:=
 ⟨h.size,h.defers,fun t=>(h.slot t).mono hρ hd hl⟩
theorem RelT.eval {s:St}(h:RelT ρ dom w n s.get a)(x:Operand):VR ρ dom w (s.ev x) (a.eval x):=by
 cases x with
 |tmp t=>exact h.slot t
 |const v=>exact ug v
 |global g=>show VR ρ dom w .junk _;unfold VR;trivial
 |func f=>show VR ρ dom w (.fn f [] []) _;unfold VR;exact⟨#[],#[],rfl,VRs.nil,VRs.nil⟩
theorem pO (a:Act)(d:Tmp)(r:Value)(t:Nat)(hd:d<a.tmps.size):(a.put (some d) r).tmps.getD t undef=if d=t then r else a.tmps.getD t undef:=by
 simp only[Act.put,Array.getD_eq_getD_getElem?,Array.getElem?_setIfInBounds]
 by_cases e:d=t
 ·subst e;simp[hd]
 ·simp[e]
theorem RelT.put {t:List (Nat×V)}{dst:Option Tmp}{v:V}{r:Value}(h:RelT ρ dom w n (af t) a)(hd:dV n dst)(hv:VR ρ dom w v r):RelT ρ dom w n (af (eB t dst v)) (a.put dst r):=by
 cases dst with
 |none=>exact h
 |some d=>
  refine⟨by simpa [Act.put] using h.size,h.defers,fun t'=>?_⟩
  rw[pO a d r t' (by rw[h.size];exact hd)]
  show VR ρ dom w (if d=t' then v else af t t') _
  by_cases e:d=t'
  ·rw[if_pos e,if_pos e];exact hv
  ·rw[if_neg e,if_neg e];exact h.slot t'
theorem d9 (H:List (Option Blk)):∀ old,(cr H old).length=H.length
 |[]=>rfl
 |(i,x)::r=>by simp[cr,d9 H r]
theorem mq (H:List (Option Blk)):∀ old (b:Nat),b<H.length→ab (cr H old) b=di old b (ab H b)
 |[],_,_=>rfl
 |(i,x)::r,b,hb=>by
  have ih:=mq H r b hb
  unfold ab at*
  simp only[cr,di,List.getElem?_set]
  by_cases e:i=b
  ·subst e
   rw[if_pos rfl,if_pos (by rw[d9];exact hb),if_pos rfl];rfl
  ·rw[if_neg e,if_neg (fun x=>e x.symm)];exact ih
theorem Jm (s:St)(dst:Option Tmp)(res:Res)(b:Nat)(B:Blk)(h:ab (s.after dst res).H b=some B):bv (ab s.H) res.old s.H.length res.news b=some B:=by
 unfold bv
 show(if s.H.length≤b∧b<s.H.length+res.news.length then _ else _)=_
 have hl:=d9 s.H res.old
 simp only[St.after] at h
 by_cases hb:b<s.H.length
 ·rw[if_neg (by omega),←mq s.H res.old b hb]
  unfold ab at h ⊢
  rw[List.getElem?_append_left (by omega)] at h
  exact h
 ·unfold ab at h
  rw[List.getElem?_append_right (by omega),hl] at h
  by_cases h2:b<s.H.length+res.news.length
  ·rw[if_pos ⟨by omega,h2⟩];exact h
  ·rw[List.getElem?_eq_none (by omega)] at h;cases h
def Spec (P:Program)(f:FuncId)(args:List V)(get0:Nat→Option Blk)(nid:Nat)(res:Res):Prop:=
 ∀ (ρ:Nat→Nat×Nat) (dom:Nat→Prop) (get:Nat→Option Blk) (w:World) (rargs:Array Value),MemRel ρ dom get w→VRs ρ dom w args rargs.toList→(∀ b∈res.fp,get b=get0 b∧(b<nid→dom b))→(∀ b,nid≤b→b<nid+res.news.length→¬ dom b)→
  Calls P f rargs w fun e w'=>∃ r ρ',e= .returned r∧(∀ b,dom b→ρ' b=ρ b)∧MemRel ρ' (bZ dom nid res.news.length) (bv get res.old nid res.news) w'∧VR ρ' (bZ dom nid res.news.length) w' res.v r∧Frame ρ get w ρ' (bv get res.old nid res.news) w'
def cW (P:Program)(f:FuncId):Bool:=match P.funcs[f]? with
 |some fn=>fn.name != "runtime.NumGoroutine"&&fn.body.isSome
 |none=>false
def oE (P:Program)(f:FuncId)(args:List V)(v:V):Prop:=
 ∀ (ρ:Nat→Nat×Nat) (dom:Nat→Prop) (w:World) (rargs:Array Value),VRs ρ dom w args rargs.toList→∃ r,(callFunc f rargs).run P w= .ok (.value r) w∧VR ρ dom w v r
def VCall (P:Program)(fv:V)(args:List V)(get0:Nat→Option Blk)(nid:Nat)(res:Res):Prop:=
 (∃ f fs cs,fv= .fn f fs cs∧cW P f=true∧res.pre∧Spec P f (fs++args++cs) get0 nid res)∨
 (∃ f fs cs,fv= .fn f fs cs∧res.old=[]∧res.news=[]∧oE P f (fs++args++cs) res.v)∨
 (∃ nm t v f,fv= .aFn nm t v∧dK P t nm=some f∧cW P f=true∧res.pre∧Spec P f (v::args) get0 nid res)
def OpExec (P:Program)(o:Oper)(ev:Operand→V)(get0:Nat→Option Blk)(nid:Nat)(res:Res):Prop:=
 ∀ (ρ:Nat→Nat×Nat) (dom:Nat→Prop) (get:Nat→Option Blk) (w:World) (a:Act) (next:Act→World→Prop) (Q:Exit→Act→World→Prop),
  (∀ x∈o.op.operands.toList,VR ρ dom w (ev x) (a.eval x))→MemRel ρ dom get w→(∀ b∈res.fp,get b=get0 b∧(b<nid→dom b))→(∀ b,nid≤b→b<nid+res.news.length→¬ dom b)→
  (∀ ρ' w' r,(∀ b,dom b→ρ' b=ρ b)→MemRel ρ' (bZ dom nid res.news.length) (bv get res.old nid res.news) w'→VR ρ' (bZ dom nid res.news.length) w' res.v r→Frame ρ get w ρ' (bv get res.old nid res.news) w'→next (a.put o.dst r) w')→
  o.wp P a w next Q
def wy (J:Nat→Option Blk→Prop)(P:Program)(o:Oper)(ev:Operand→V)(get0:Nat→Option Blk)(nid:Nat)(res:Res):Prop:=
 ∀ (ρ:Nat→Nat×Nat) (dom:Nat→Prop) (get:Nat→Option Blk) (w:World) (a:Act) (next:Act→World→Prop) (Q:Exit→Act→World→Prop),
  (∀ x∈o.op.operands.toList,VR ρ dom w (ev x) (a.eval x))→MemRel ρ dom get w→(∀ b∈res.fp,get b=get0 b∧(b<nid→dom b))→(∀ b,nid≤b→b<nid+res.news.length→¬ dom b)→(∀ b,J b (get b))→
  (∀ ρ' w' r,(∀ b,dom b→ρ' b=ρ b)→MemRel ρ' (bZ dom nid res.news.length) (bv get res.old nid res.news) w'→VR ρ' (bZ dom nid res.news.length) w' res.v r→Frame ρ get w ρ' (bv get res.old nid res.news) w'→next (a.put o.dst r) w')→
  o.wp P a w next Q
theorem OpExec.toJ {J:Nat→Option Blk→Prop}{o:Oper}{ev:Operand→V}{get0:Nat→Option Blk}{nid:Nat}{res:Res}(h:OpExec P o ev get0 nid res):wy J P o ev get0 nid res:=
 fun ρ dom get w a next Q h1 h2 h3 h4 _ h5=>h ρ dom get w a next Q h1 h2 h3 h4 h5
theorem OpExec.of_vop {o:Oper}{ev:Operand→V}{get0:Nat→Option Blk}{nid:Nat}{res:Res}(h:bq P o.op ev get0 nid=some res)(hp:res.pre):OpExec P o ev get0 nid res:=by
 intro ρ dom get w a next Q hr hm hfp hd hn
 obtain⟨ρ',w',r,h1,h2,h3,h4,h5⟩:=Jl h hp hr hm (fun b hb=>(hfp b hb).1) hd
 unfold Oper.wp
 rcases h1 with h1|⟨h1,rfl⟩
 ·rw[h1,Oper.upon_value];exact hn ρ' w' r h2 h3 h4 h5
 ·rw[h1,Oper.upon_skip];exact hn ρ' w' undef h2 h3 h4 h5
theorem pd {f:FuncId}{args:Array Value}(h:cW P f=true):(callFunc f args).run P w= .ok (.enter f args) w:=by
 unfold cW at h
 unfold callFunc
 cases hf:P.funcs[f]? with
 |none=>rw[hf] at h;cases h
 |some fn=>
  rw[hf] at h
  simp only[Bool.and_eq_true,bne_iff_ne] at h
  have h2:fn.body≠none:=fun e=>by rw[e] at h;simp at h
  simp[hf,h.1,h2]
theorem Bd {t:TypeId}{name:String}{f:FuncId}(h:dK P t name=some f)(k:Nat)(v:Value)(w:World):(method (k+1) t v name).run P w= .ok (f,v) w:=by
 unfold dK at h
 split at h
 case h_2=>cases h
 rename_i i d hi hu
 split at h
 case h_2=>cases h
 rename_i mm hm
 split at h
 case isFalse=>cases h
 rename_i hp
 have hpl:mm.path.toList=[]:=by
  have :=Array.isEmpty_iff.1 hp
  rw[this]
 unfold method
 have h1:(typeInfo t).run P w= .ok i w:=by simp[typeInfo,hi]
 simp only[Sem.run_bind,h1,Result.andThen_ok,hm,hpl,follow,Sem.run_pure]
 split at h
 ·rename_i f' _ hf
  injection h with h;subst h
  rw[hf]
  simp only[receiverAt,Sem.run_bind,run_underlying hu,Result.andThen_ok,Place.get,Sem.run_pure]
 ·cases h
 ·cases h
 ·rename_i f' hf hnp
  injection h with h;subst h
  rw[hf]
  simp only[receiverAt,Sem.run_bind,run_underlying hu,Result.andThen_ok,Place.get,Sem.run_pure]
 ·cases h
theorem OpExec.of_meth {o:Oper}{c:Call}{fx:Operand}{nm:String}{t:TypeId}{v:V}{f:FuncId}{ev:Operand→V}{get0:Nat→Option Blk}{nid:Nat}{res:Res}(ho:o.op= .call c)(hc:c.callee= .value fx)(hx:ev fx= .aFn nm t v)(hm:dK P t nm=some f)(hcb:cW P f=true)(hs:Spec P f (v::c.args.toList.map ev) get0 nid res):OpExec P o ev get0 nid res:=by
 intro ρ dom get w a next Q hr hmem hfp hd hn
 rw[ho] at hr
 have hv:=hr fx (by simp[Op.operands,Call.operands,hc])
 rw[hx] at hv
 unfold VR at hv
 obtain⟨r0,e,g0⟩:=hv
 have hargs:VRs ρ dom w (c.args.toList.map ev) (c.args.toList.map a.eval):=li fun y hy=>hr y (by simp[Op.operands,Call.operands,hc];exact .inr (by simpa using hy))
 have hall:VRs ρ dom w (v::c.args.toList.map ev) (#[r0]++c.args.map a.eval).toList:=by
  rw[Array.toList_append,Array.toList_map]
  exact VRs.cons g0 hargs
 have hcall:(execOp a.eval o).run P w=(callFunc f (#[r0]++c.args.map a.eval)).run P w:=by
  unfold execOp
  rw[ho]
  have hx0:(#[Value.iface t r0]++c.args.map a.eval)[0]?=some (.iface t r0):=by
   rw[Array.getElem?_append_left (by simp)];rfl
  have hxx:(#[Value.iface t r0]++c.args.map a.eval).extract 1 (#[Value.iface t r0]++c.args.map a.eval).size=c.args.map a.eval:=by
   apply Array.ext'
   simp
   rw[List.take_of_length_le (by simp)]
  have hpr:(program:Sem Program).run P w= .ok P w:=by rfl
  simp only[resolve,hc,e,Deferred.ofValue,Sem.run_bind,Sem.run_pure,Result.andThen_ok,invoke,hx0,callMethod,hxx,hpr]
  have hd:P.types.size+Made.depth=(P.types.size+Made.depth-1)+1:=by unfold Made.depth;omega
  rw[hd,Bd hm]
  rfl
 unfold Oper.wp
 rw[hcall,pd hcb,Oper.upon_enter]
 refine(hs ρ dom get w _ hmem hall hfp hd).mono fun e w' he=>?_
 obtain⟨r,ρ',rfl,h2,h3,h4,h5⟩:=he
 exact hn ρ' w' r h2 h3 h4 h5
theorem OpExec.of_call {o:Oper}{c:Call}{fx:Operand}{ev:Operand→V}{get0:Nat→Option Blk}{nid:Nat}{res:Res}(ho:o.op= .call c)(hc:c.callee= .value fx)(h:VCall P (ev fx) (c.args.toList.map ev) get0 nid res):OpExec P o ev get0 nid res:=by
 rcases h with⟨f,fs,cs,hf,hcb,_,hs⟩|⟨f,fs,cs,hf,h0,h1,hs⟩|⟨nm,t,v,f,hf,hmo,hcb,_,hs⟩
 case inr.inr=>exact OpExec.of_meth ho hc hf hmo hcb hs
 all_goals intro ρ dom get w a next Q hr hm hfp hd hn
 rotate_left
 ·rw[ho] at hr
  have hv:=hr fx (by simp[Op.operands,Call.operands,hc])
  rw[hf] at hv
  unfold VR at hv
  obtain⟨f',c',e,g1,g2⟩:=hv
  have hargs:VRs ρ dom w (c.args.toList.map ev) (c.args.toList.map a.eval):=li fun y hy=>hr y (by simp[Op.operands,Call.operands,hc];exact .inr (by simpa using hy))
  obtain⟨r,hn1,hn2⟩:=hs ρ dom w (f'++c.args.map a.eval++c') (by simpa using(g1.append hargs).append g2)
  have hrun:(execOp a.eval o).run P w= .ok (.value r) w:=by
   unfold execOp
   rw[ho]
   simp only[resolve,hc,e,Deferred.ofValue,Sem.run_bind,Sem.run_pure,Result.andThen_ok,invoke,hn1]
  unfold Oper.wp
  rw[hrun,Oper.upon_value]
  have hsub:∀ b,dom b→bZ dom nid res.news.length b:=fun b hb=>Or.inl hb
  refine hn ρ w r (fun _ _=>rfl) ?_ (hn2.mono (fun b _=>rfl) hsub (Lasts.refl _)) ?_
  ·rw[h0,h1,lF];exact hm.monoDom fun b hb=>Or.inl hb
  ·rw[h0,h1,lF];exact Frame.refl ρ get w
 rw[ho] at hr
 have hv:=hr fx (by simp[Op.operands,Call.operands,hc])
 rw[hf] at hv
 unfold VR at hv
 obtain⟨f',c',e,g1,g2⟩:=hv
 have hargs:VRs ρ dom w (c.args.toList.map ev) (c.args.toList.map a.eval):=li fun y hy=>hr y (by simp[Op.operands,Call.operands,hc];exact .inr (by simpa using hy))
 have hrun:(execOp a.eval o).run P w= .ok (.enter f (f'++c.args.map a.eval++c')) w:=by
  unfold execOp
  rw[ho]
  simp only[resolve,hc,e,Deferred.ofValue,Sem.run_bind,Sem.run_pure,Result.andThen_ok,invoke,pd hcb]
 unfold Oper.wp
 rw[hrun,Oper.upon_enter]
 refine(hs ρ dom get w (f'++c.args.map a.eval++c') hm (by simpa using(g1.append hargs).append g2) hfp hd).mono fun e w' he=>?_
 obtain⟨r,ρ',rfl,h2,h3,h4,h5⟩:=he
 exact hn ρ' w' r h2 h3 h4 h5
theorem OpExec.of_invoke {o:Oper}{c:Call}{x:Operand}{name:String}{t:TypeId}{v:V}{f:FuncId}{ev:Operand→V}{get0:Nat→Option Blk}{nid:Nat}{res:Res}(ho:o.op= .call c)(hc:c.callee= .invoke x name)(hx:ev x= .iface t v)(hm:dK P t name=some f)(h:VCall P (.fn f [] []) (v::c.args.toList.map ev) get0 nid res):OpExec P o ev get0 nid res:=by
 intro ρ dom get w a next Q hr hmem hfp hd hn
 rw[ho] at hr
 have hv:=hr x (by simp[Op.operands,Call.operands,hc])
 rw[hx] at hv
 unfold VR at hv
 obtain⟨r0,e,g0⟩:=hv
 have hargs:VRs ρ dom w (c.args.toList.map ev) (c.args.toList.map a.eval):=li fun y hy=>hr y (by simp[Op.operands,Call.operands,hc];exact .inr (by simpa using hy))
 have hall:VRs ρ dom w (v::c.args.toList.map ev) (#[r0]++c.args.map a.eval).toList:=by
  rw[Array.toList_append,Array.toList_map]
  exact VRs.cons g0 hargs
 have hcall:(execOp a.eval o).run P w=(callFunc f (#[r0]++c.args.map a.eval)).run P w:=by
  unfold execOp
  rw[ho]
  have hx0:(#[Value.iface t r0]++c.args.map a.eval)[0]?=some (.iface t r0):=by
   rw[Array.getElem?_append_left (by simp)];rfl
  have hxx:(#[Value.iface t r0]++c.args.map a.eval).extract 1 (#[Value.iface t r0]++c.args.map a.eval).size=c.args.map a.eval:=by
   apply Array.ext'
   simp
   rw[List.take_of_length_le (by simp)]
  have hpr:(program:Sem Program).run P w= .ok P w:=by rfl
  simp only[resolve,hc,e,Sem.run_bind,Sem.run_pure,Result.andThen_ok,invoke,hx0,callMethod,hxx,hpr]
  have hd:P.types.size+Made.depth=(P.types.size+Made.depth-1)+1:=by unfold Made.depth;omega
  rw[hd,Bd hm]
  rfl
 rcases h with⟨g,fs,cs,hf,hcb,_,hs⟩|⟨g,fs,cs,hf,h0,h1,hs⟩|⟨_,_,_,_,hf,_⟩
 case inr.inr=>cases hf
 rotate_left
 ·injection hf with hf1 hf2 hf3
  subst hf1 hf2 hf3
  simp only[List.nil_append,List.append_nil] at hs
  obtain⟨r,hn1,hn2⟩:=hs ρ dom w _ hall
  unfold Oper.wp
  rw[hcall,hn1,Oper.upon_value]
  have hsub:∀ b,dom b→bZ dom nid res.news.length b:=fun b hb=>Or.inl hb
  refine hn ρ w r (fun _ _=>rfl) ?_ (hn2.mono (fun b _=>rfl) hsub (Lasts.refl _)) ?_
  ·rw[h0,h1,lF];exact hmem.monoDom fun b hb=>Or.inl hb
  ·rw[h0,h1,lF];exact Frame.refl ρ get w
 injection hf with hf1 hf2 hf3
 subst hf1 hf2 hf3
 simp only[List.nil_append,List.append_nil] at hs
 unfold Oper.wp
 rw[hcall,pd hcb,Oper.upon_enter]
 refine(hs ρ dom get w _ hmem hall hfp hd).mono fun e w' he=>?_
 obtain⟨r,ρ',rfl,h2,h3,h4,h5⟩:=he
 exact hn ρ' w' r h2 h3 h4 h5
def eH (r:Option Res)(K:Res→Prop):Prop:=match r with
 |some res=>res.pre∧K res
 |none=>False
theorem Hs (r:Res)(K:Res→Prop):eH (some r) K=(r.pre∧K r):=rfl
def vcall (P:Program)(f:V)(args:List V)(H:List (Option Blk))(K:Res→Prop):Prop:=∃ res,VCall P f args (ab H) H.length res∧K res
def mQ (P:Program)(v:V)(name:String)(args:List V)(H:List (Option Blk))(K:Res→Prop):Prop:=match v with
 | .iface t v=>match dK P t name with
  |some f=>vcall P (.fn f [] []) (v::args) H K
  |none=>False
 |_=>False
def c7 (P:Program)(o:Op)(s:St)(K:Res→Prop):Prop:=match o with
 | .call c=>match c.callee with
  | .value f=>vcall P (s.ev f) (c.args.toList.map s.ev) s.H K
  | .builtin b=>eH (kn P b c.argTypes.toList (c.args.toList.map s.ev) (ab s.H) s.H.length) K
  | .invoke x name=>mQ P (s.ev x) name (c.args.toList.map s.ev) s.H K
 |op=>eH (bq P op s.ev (ab s.H) s.H.length) K
theorem uC {o:Oper}{s:St}{K:Res→Prop}(h:c7 P o.op s K):∃ res,OpExec P o s.ev (ab s.H) s.H.length res∧K res:=by
 have fin:eH (bq P o.op s.ev (ab s.H) s.H.length) K→∃ res,OpExec P o s.ev (ab s.H) s.H.length res∧K res:=fun h=>by
  unfold eH at h
  split at h
  ·rename_i res hv;exact⟨res,OpExec.of_vop hv h.1,h.2⟩
  ·exact h.elim
 unfold c7 at h
 split at h
 ·rename_i c hc
  split at h
  ·rename_i f hf
   obtain⟨res,h1,h2⟩:=h
   exact⟨res,OpExec.of_call hc hf h1,h2⟩
  ·rename_i b hb
   refine fin ?_
   rw[hc]
   simp only[bq,hb]
   exact h
  ·rename_i x name hf
   unfold mQ at h
   split at h
   case h_2=>exact h.elim
   rename_i t v hv
   split at h
   case h_2=>exact h.elim
   rename_i f hm
   obtain⟨res,h1,h2⟩:=h
   exact⟨res,OpExec.of_invoke hc hf hv hm h1,h2⟩
 ·exact fin h
def gd (ops:Array Oper)(j:Nat):Option Tmp:=(ops[j]?).bind (·.dst)
def hold {α:Type}(x:α):α:=x
def gP (v:V)(want:Bool)(X Y:Prop):Prop:=match v with
 | .bool b=>(b=want→X)∧(b≠want→Y)
 | .tup []=>Y
 |_=>False
def bX (P:Program)(n:Nat)(ops:Array Oper):List Oper→St→(St→Prop)→Prop
 |[],s,K=>K s
 |o::rest,s,K=>dV n o.dst∧match o.guard with
  |none=>c7 P o.op s (hold fun res=>bX P n ops rest (s.after o.dst res) K)
  |some (j,want)=>match gd ops j with
   |some d=>d<n∧gP (s.get d) want (c7 P o.op s (hold fun res=>bX P n ops rest (s.after o.dst res) K)) (bX P n ops rest (s.put o.dst (.tup [])) K)
   |none=>False
def Step (m:Nat)(ρ:Nat→Nat×Nat)(s:St)(w:World)(ρ':Nat→Nat×Nat)(s':St)(w':World):Prop:=
 m≤s'.H.length∧(∀ b,b<m→ρ' b=ρ b)∧Frame ρ (ab s.H) w ρ' (ab s'.H) w'
theorem Step.refl {m:Nat}{s:St}(h:m≤s.H.length):Step m ρ s w ρ s w:=⟨h,fun _ _=>rfl,Frame.refl _ _ _⟩
theorem Step.trans {m:Nat}{ρ'':Nat→Nat×Nat}{s s' s'':St}{w'':World}(h:Step m ρ s w ρ' s' w')(k:Step m ρ' s' w' ρ'' s'' w''):Step m ρ s w ρ'' s'' w'':=
 ⟨k.1,fun b hb=>(k.2.1 b hb).trans (h.2.1 b hb),h.2.2.trans k.2.2⟩
def tv (m n:Nat)(ρ:Nat→Nat×Nat)(s:St)(w:World)(K:St→Prop)(a':Act)(w':World):Prop:=∃ s' ρ',K s'∧RelSt ρ' n s' a' w'∧Step m ρ s w ρ' s' w'
theorem yA {ops:Array Oper}{o:Oper}{j d:Nat}{want b:Bool}(hg:o.guard=some (j,want))(hs:gd ops j=some d)(hd:d<a.tmps.size)(hv:a.tmps.getD d undef= .bool b):Region.wanted o (yielded ops a.tmps)=(b==want):=by
 have hy:yielded ops a.tmps j=some b:=by
  unfold yielded
  unfold gd at hs
  rw[hs]
  have :a.tmps[d]?=some (.bool b):=by
   rw[Array.getD_eq_getD_getElem?] at hv
   cases hq:a.tmps[d]? with
   |none=>simp at hq;omega
   |some x=>rw[hq] at hv;simpa using hv
  simp[this]
 unfold Region.wanted
 rw[hg]
 simp only[hy]
 cases b<;>cases want<;>rfl
theorem yf {ops:Array Oper}{o:Oper}{j d:Nat}{want:Bool}(hg:o.guard=some (j,want))(hs:gd ops j=some d)(hv:a.tmps.getD d undef= .tuple #[]):Region.wanted o (yielded ops a.tmps)=false:=by
 have hy:yielded ops a.tmps j=none:=by
  unfold yielded
  unfold gd at hs
  rw[hs]
  rw[Array.getD_eq_getD_getElem?] at hv
  cases hq:a.tmps[d]? with
  |none=>simp[hq]
  |some x=>
   rw[hq] at hv
   have :x= .tuple #[]:=by simpa using hv
   subst this
   simp[hq]
 unfold Region.wanted
 rw[hg]
 simp only[hy]
 cases want<;>rfl
theorem vm:VR ρ dom w (.tup []) undef:=by unfold VR;exact⟨#[],rfl,VRs.nil⟩
theorem zY {m:Nat}{s:St}{o:Oper}{res:Res}{r:Value}(h:RelSt ρ n s a w)(hm:m≤s.H.length)(hd:dV n o.dst)(hρ:∀ b,b<s.H.length→ρ' b=ρ b)
  (h3:MemRel ρ' (bZ (· <s.H.length) s.H.length res.news.length) (bv (ab s.H) res.old s.H.length res.news) w') (h4:VR ρ' (bZ (· <s.H.length) s.H.length res.news.length) w' res.v r)
  (h5:Frame ρ (ab s.H) w ρ' (bv (ab s.H) res.old s.H.length res.news) w'):RelSt ρ' n (s.after o.dst res) (a.put o.dst r) w'∧Step m ρ s w ρ' (s.after o.dst res) w':=by
 have hlen:(s.after o.dst res).H.length=s.H.length+res.news.length:=by simp[St.after,d9]
 have hdm:∀ b,bZ (· <s.H.length) s.H.length res.news.length b→b<(s.after o.dst res).H.length:=fun b hb=>by
  rw[hlen]
  rcases hb with hb|hb
  ·have :b<s.H.length:=hb;omega
  ·exact hb.2
 have hg:=Jm s o.dst res
 refine⟨⟨?_,?_⟩,?_,?_,?_⟩
 ·exact RelT.put (h.tmps.mono hρ (fun b hb=>hdm b (.inl hb)) h5.lasts) hd (h4.mono (fun _ _=>rfl) hdm (Lasts.refl _))
 ·exact(h3.less hg).monoDom hdm
 ·rw[hlen];omega
 ·exact fun b hb=>hρ b (by omega)
 ·exact h5.less fun b B hB hro=>⟨b,B,hg b B hB,hro,rfl⟩
theorem pz {m:Nat}{ops:Array Oper}{Q:Exit→Act→World→Prop}:∀ (l:List Nat) (os:List Oper) (s:St) (K:St→Prop),l.map (ops[·]?)=os.map some→bX P n ops os s K→∀ (ρ:Nat→Nat×Nat) (a:Act) (w:World),RelSt ρ n s a w→m≤s.H.length→
  (∀ a' w',tv m n ρ s w K a' w'→Q .normal a' w')→wpOps P ops Q l a w
 |[],[],s,K,_,h,ρ,a,w,hr,hm,hq=>hq a w ⟨s,ρ,h,hr,Step.refl hm⟩
 |[],_::_,_,_,hl,_,_,_,_,_,_,_=>by simp at hl
 |_::_,[],_,_,hl,_,_,_,_,_,_,_=>by simp at hl
 |i::l,o::os,s,K,hl,h,ρ,a,w,hr,hm,hq=>by
  simp only[List.map_cons,List.cons.injEq] at hl
  obtain⟨ho,hl⟩:=hl
  obtain⟨hd,h⟩:=h
  have go:Region.wanted o (yielded ops a.tmps)=true→(c7 P o.op s fun res=>bX P n ops os (s.after o.dst res) K)→wpOps P ops Q (i::l) a w:=fun hw hx=>by
   obtain⟨res,h1,h2⟩:=uC hx
   simp only[wpOps,ho,hw,if_true]
   refine .inl (h1 ρ (· <s.H.length) (ab s.H) w a _ Q (fun x _=>hr.tmps.eval x) hr.mem (fun _ _=>⟨rfl,id⟩) (fun b hb1 hb2 (hb3:b<s.H.length)=>by omega) ?_)
   intro ρ' w' r g1 g2 g3 g4
   obtain⟨k1,k2⟩:=zY (m:=m) hr hm hd g1 g2 g3 g4
   refine pz l os _ K hl h2 ρ' _ w' k1 k2.1 fun a' w'' ⟨s',ρ'',q1,q2,q3⟩=>hq a' w'' ⟨s',ρ'',q1,q2,k2.trans q3⟩
  cases hg:o.guard with
  |none=>
   rw[hg] at h
   exact go (by unfold Region.wanted;rw[hg]) h
  |some g=>
   obtain⟨j,want⟩:=g
   rw[hg] at h
   simp only at h
   split at h
   case h_2=>exact h.elim
   rename_i d hs
   obtain⟨hdn,h⟩:=h
   unfold gP at h
   split at h
   case h_3=>exact h.elim
   case h_2=>
    rename_i hb
    have hv:=hr.tmps.slot d
    rw[hb] at hv
    unfold VR at hv
    obtain⟨a0,e0,l0⟩:=hv
    have ha0:a0=#[]:=by unfold VRs at l0;exact Array.toList_eq_nil_iff.1 l0
    subst ha0
    have hw':=yf hg hs e0
    simp only[wpOps,ho,hw',Bool.false_eq_true,if_false]
    have k1:RelSt ρ n (s.put o.dst (.tup [])) (a.put o.dst undef) w:=⟨RelT.put hr.tmps hd vm,hr.mem⟩
    exact pz l os _ K hl h ρ _ w k1 hm fun a' w'' ⟨s',ρ'',q1,q2,q3⟩=>hq a' w'' ⟨s',ρ'',q1,q2,q3⟩
   rename_i b hb
   obtain⟨h1,h2⟩:=h
   have hv:=hr.tmps.slot d
   rw[hb] at hv
   unfold VR at hv
   have hw:=yA hg hs (by rw[hr.tmps.size];exact hdn) hv
   by_cases e:b=want
   ·exact go (by rw[hw,e];simp) (h1 e)
   ·have hw':Region.wanted o (yielded ops a.tmps)=false:=by rw[hw];simpa using e
    simp only[wpOps,ho,hw',Bool.false_eq_true,if_false]
    have k1:RelSt ρ n (s.put o.dst (.tup [])) (a.put o.dst undef) w:=⟨RelT.put hr.tmps hd vm,hr.mem⟩
    exact pz l os _ K hl (h2 e) ρ _ w k1 hm fun a' w'' ⟨s',ρ'',q1,q2,q3⟩=>hq a' w'' ⟨s',ρ'',q1,q2,q3⟩
theorem Fs {m id:Nat}{ops:Array Oper}{s:St}{K:St→Prop}{Q:Exit→Act→World→Prop}(h:bX P n ops ops.toList s K)(hr:RelSt ρ n s a w)(hm:m≤s.H.length)(hq:∀ a' w',tv m n ρ s w K a' w'→Q .normal a' w'):(Code.region id ops false).wp P Q a w:=
 wp_region (pz (m:=m) (List.range ops.size) ops.toList s K (by
  refine List.ext_getElem? fun i=>?_
  simp only[List.getElem?_map]
  by_cases hi:i<ops.size
  ·simp[hi]
  ·rw[List.getElem?_eq_none (by simp;omega),List.getElem?_eq_none (by simp;omega)];rfl) h ρ a w hr hm hq)
end
end
def cm {α:Type}(p:Nat→Bool):List (Option α)→Nat→α→α
 |[],_,d=>d
 |none::r,i,d=>cm p r (i+1) d
 |some x::r,i,d=>cm p r (i+1) (if p i then x else d)
theorem j9 {α:Type}{p q:Nat→Bool}:∀ (ws:List (Option α)) (i:Nat) (d:α),(∀ j x,ws[j]?=some (some x)→p (i+j)=q (i+j))→cm p ws i d=cm q ws i d
 |[],_,_,_=>rfl
 |none::r,i,d,h=>j9 r (i+1) d fun j x hx=>by have :=h (j+1) x (by simpa using hx);rwa [show i+(j+1)=i+1+j by omega] at this
 |some x::r,i,d,h=>by
  have h0:p i=q i:=h 0 x rfl
  simp only[cm,h0]
  exact j9 r (i+1) _ fun j y hy=>by have :=h (j+1) y (by simpa using hy);rwa [show i+(j+1)=i+1+j by omega] at this
theorem mv {α:Type}{p:Nat→Bool}:∀ (ws:List (Option α)) (i:Nat) (d:α),(∀ j x,ws[j]?=some (some x)→p (i+j)=false)→cm p ws i d=d
 |[],_,_,_=>rfl
 |none::r,i,d,h=>mv r (i+1) d fun j x hx=>by have :=h (j+1) x (by simpa using hx);rwa [show i+(j+1)=i+1+j by omega] at this
 |some x::r,i,d,h=>by
  have h0:p i=false:=h 0 x rfl
  simp only[cm,h0,Bool.false_eq_true,if_false]
  exact mv r (i+1) d fun j y hy=>by have :=h (j+1) y (by simpa using hy);rwa [show i+(j+1)=i+1+j by omega] at this
theorem pA {α:Type}{p:Nat→Bool}:∀ (ws:List (Option α)) (i:Nat) (d:α) (k:Nat) (x:α),ws[k]?=some (some x)→p (i+k)=true→(∀ j y,k<j→ws[j]?=some (some y)→p (i+j)=false)→cm p ws i d=x
 |[],_,_,_,_,h,_,_=>by simp at h
 |none::r,i,d,0,x,h,_,_=>by simp at h
 |none::r,i,d,k+1,x,h,hp,hl=>pA r (i+1) d k x (by simpa using h) (by rwa [show i+1+k=i+(k+1) by omega]) fun j y hj hy=>by
   have :=hl (j+1) y (by omega) (by simpa using hy);rwa [show i+(j+1)=i+1+j by omega] at this
 |some z::r,i,d,0,x,h,hp,hl=>by
  simp at h;subst h
  have hp':p i=true:=hp
  simp only[cm,hp',if_true]
  exact mv r (i+1) z fun j y hy=>by have :=hl (j+1) y (by omega) (by simpa using hy);rwa [show i+(j+1)=i+1+j by omega] at this
 |some z::r,i,d,k+1,x,h,hp,hl=>by
  simp only[cm]
  exact pA r (i+1) _ k x (by simpa using h) (by rwa [show i+1+k=i+(k+1) by omega]) fun j y hj hy=>by
   have :=hl (j+1) y (by omega) (by simpa using hy);rwa [show i+(j+1)=i+1+j by omega] at this
def qm (o:Oper)(acc:List Nat):Nat:=o.after.toList.foldl (fun s e=>if Region.binds .any e then s|||(1<<<e.on)|||acc.getD e.on 0 else s) 0
def gq:List Oper→List Nat→List Nat
 |[],acc=>acc
 |o::r,acc=>gq r (acc++[qm o acc])
theorem Be:∀ (l:List Oper) (acc:List Nat) (j:Nat),j<acc.length→(gq l acc).getD j 0=acc.getD j 0
 |[],_,_,_=>rfl
 |o::r,acc,j,h=>by
  rw[gq,Be r _ j (by simp;omega)]
  simp[List.getD_eq_getElem?_getD,List.getElem?_append_left h]
theorem Cg:∀ (l:List Oper) (acc:List Nat) (j:Nat) (o:Oper),l[j]?=some o→(gq l acc).getD (acc.length+j) 0=qm o ((gq l acc).take (acc.length+j))
 |[],_,_,_,h=>by simp at h
 |o::r,acc,0,o',h=>by
  simp at h;subst h
  rw[gq,Nat.add_zero,Be r _ _ (by simp)]
  have htake:∀ (l:List Oper) (acc2:List Nat) (k:Nat),k≤acc2.length→(gq l acc2).take k=acc2.take k:=by
   intro l
   induction l with
   |nil=>intro _ _ _;rfl
   |cons o l ih=>intro acc2 k hk;rw[gq,ih _ _ (by simp;omega),List.take_append_of_le_length hk]
  rw[htake r _ _ (by simp)]
  simp[List.getD_eq_getElem?_getD]
 |o::r,acc,j+1,o',h=>by
  have ih:=Cg r (acc++[qm o acc]) j o' (by simpa using h)
  rw[gq]
  simpa [Nat.add_assoc,Nat.add_comm 1 j] using ih
theorem Ld (o:Oper)(acc:List Nat)(i:Nat)(h:(qm o acc).testBit i=true):∃ e∈o.after.toList,Region.binds .any e=true∧(e.on=i∨(acc.getD e.on 0).testBit i=true):=by
 unfold qm at h
 have :∀ (l:List Edge) (s:Nat),(l.foldl (fun s e=>if Region.binds .any e then s|||(1<<<e.on)|||acc.getD e.on 0 else s) s).testBit i=true→s.testBit i=true∨∃ e∈l,Region.binds .any e=true∧(e.on=i∨(acc.getD e.on 0).testBit i=true):=by
  intro l
  induction l with
  |nil=>intro s h;exact .inl h
  |cons e l ih=>
   intro s h
   rw[List.foldl_cons] at h
   rcases ih _ h with h1|⟨e',h1,h2⟩
   ·by_cases hb:Region.binds .any e=true
    ·rw[if_pos hb] at h1
     simp only[Nat.testBit_or,Bool.or_eq_true] at h1
     rcases h1 with(h1|h1)|h1
     ·exact .inl h1
     ·refine .inr ⟨e,by simp,hb,.inl ?_⟩
      rw[Nat.one_shiftLeft,Nat.testBit_two_pow] at h1
      simpa using h1
     ·exact .inr ⟨e,by simp,hb,.inr h1⟩
    ·rw[if_neg hb] at h1;exact .inl h1
   ·exact .inr ⟨e',by simp[h1],h2⟩
 rcases this _ 0 h with h|h
 ·simp at h
 ·exact h
def wA (ops:List Oper)(L:Nat→Bool):Prop:=∀ j o,ops[j]?=some o→L j=true→∀ e∈o.after.toList,Region.binds .any e=true→L e.on=true
theorem yB {ops:List Oper}{L:Nat→Bool}(hc:wA ops L):∀ (j:Nat) (o:Oper),ops[j]?=some o→(∀ e∈o.after.toList,Region.binds .any e=true→L e.on=true)→∀ i,((gq ops []).getD j 0).testBit i=true→L i=true:=by
 intro j
 induction j using Nat.strongRecOn with
 |_ j ih=>
  intro o ho hp i hi
  have hat:=Cg ops [] j o ho
  simp only[List.length_nil,Nat.zero_add] at hat
  rw[hat] at hi
  obtain⟨e,h1,h2,h3⟩:=Ld o _ i hi
  have hl:=hp e h1 h2
  rcases h3 with rfl|h3
  ·exact hl
  ·by_cases hlt:e.on<j
   ·have hg:((gq ops []).take j).getD e.on 0=(gq ops []).getD e.on 0:=by
     simp[List.getD_eq_getElem?_getD,hlt]
    rw[hg] at h3
    cases ho':ops[e.on]? with
    |none=>rw[List.getElem?_eq_none_iff] at ho';have :=(List.getElem?_eq_some_iff.1 ho).1;omega
    |some o'=>exact ih e.on hlt o' ho' (fun e' h4 h5=>hc e.on o' ho' hl e' h4 h5) i h3
   ·have :((gq ops []).take j).getD e.on 0=0:=by
     simp[List.getD_eq_getElem?_getD,List.getElem?_take,hlt]
    rw[this] at h3
    simp at h3
def jM (ops:Array Oper)(o:Oper):List Tmp:=o.dst.toList++(o.op.operands.toList.filterMap fun | .tmp t=>some t|_=>none)++(match o.guard with
 |some (j,_)=>(gd ops j).toList
 |none=>[])
def meets (a b:List Nat):Bool:=a.any fun x=>b.contains x
def fK (ops:Array Oper)(o o':Oper)(e e':List Nat×List Nat):Bool:=
 !(meets o.dst.toList (jM ops o'))&&!(meets o'.dst.toList (jM ops o))&&!(meets e.2 (e'.1++e'.2))&&!(meets e'.2 (e.1++e.2))
def gi (ops:Array Oper)(tr:List (List Nat×List Nat)):Bool:=
 let b:=gq ops.toList []
 let l:=ops.toList.zip tr
 l.zipIdx.all fun(x,j)=>(x.1.after.toList.all fun e=>!(Region.binds .any e)||decide (e.on<j))&&l.zipIdx.all fun(y,i)=>!(decide (i<j))||(b.getD j 0).testBit i||fK ops y.1 x.1 y.2 x.2
section
structure Ent where
 run:Bool
 res:Res
def lG (ops:Array Oper)(n:Nat)(o:Oper)(s:St)(b:Bool):Prop:=match o.guard with
 |none=>b=true
 |some (j,want)=>∃ d,gd ops j=some d∧d<n∧((∃ b',s.get d= .bool b'∧(b'==want)=b)∨(s.get d= .tup []∧b=false))
def cT (s:St)(e:Ent)(b:Nat):Option (Option Blk):=
 if s.H.length≤b∧b<s.H.length+e.res.news.length then some (e.res.news[b-s.H.length]?).join
 else if b<s.H.length∧b∈e.res.old.map (·.1) then some (di e.res.old b none) else none
def Dw (P:Program)(J:Nat→Option Blk→Prop)(n:Nat)(ops:Array Oper)(o:Oper)(s:St)(e:Ent):Prop:=
 dV n o.dst∧lG ops n o s e.run∧if e.run then wy J P o s.ev (ab s.H) s.H.length e.res∧(∀ x∈e.res.old,x.1<s.H.length)∧∀ b x,cT s e b=some x→J b x else e.res={v:= .tup []}
def js (P:Program)(J:Nat→Option Blk→Prop)(n:Nat)(ops:Array Oper):List Oper→St→List Ent→St→Prop
 |[],s,[],s'=>s'=s
 |o::l,s,e::es,s'=>Dw P J n ops o s e∧js P J n ops l (s.after o.dst e.res) es s'
 |_,_,_,_=>False
def bc (s:St)(r:Res):List Nat×List Nat:=(r.fp,r.old.map (·.1)++List.range' s.H.length r.news.length)
def gj:List Oper→St→List Ent→List (List Nat×List Nat)
 |o::l,s,e::es=>bc s e.res::gj l (s.after o.dst e.res) es
 |_,_,_=>[]
def aR (s:St):List Oper→List Ent→Nat→St
 |_,_,0=>s
 |o::l,e::es,i+1=>aR (s.after o.dst e.res) l es i
 |_,_,_=>s
section
variable {P:Program}{J:Nat→Option Blk→Prop}{n:Nat}{ops:Array Oper}
theorem nW:∀ (l:List Oper) (s:St) (es:List Ent) (s':St),js P J n ops l s es s'→es.length=l.length∧aR s l es l.length=s'∧
  ∀ (i:Nat) o e,l[i]?=some o→es[i]?=some e→Dw P J n ops o (aR s l es i) e∧aR s l es (i+1)=(aR s l es i).after o.dst e.res∧(gj l s es)[i]?=some (bc (aR s l es i) e.res)
 |[],s,[],s',h=>⟨rfl,h.symm,fun i o e ho=>by simp at ho⟩
 |[],_,_::_,_,h=>h.elim
 |_::_,_,[],_,h=>h.elim
 |o::l,s,e::es,s',h=>by
  obtain⟨h1,h2⟩:=h
  obtain⟨g1,g2,g3⟩:=nW l _ es s' h2
  refine⟨by simp[g1],g2,fun i o' e' ho he=>?_⟩
  cases i with
  |zero=>
   simp at ho he;subst ho;subst he
   refine⟨h1,?_,rfl⟩
   cases l<;>cases es<;>rfl
  |succ i=>
   have :=g3 i o' e' (by simpa using ho) (by simpa using he)
   simpa [aR,gj] using this
def mX (o:Oper)(e:Ent)(t:Nat):Option V:=if o.dst=some t then some e.res.v else none
def iR:List Oper→List Ent→Nat→List (Option V)
 |o::l,e::es,t=>mX o e t::iR l es t
 |_,_,_=>[]
def ff (s:St):List Oper→List Ent→Nat→List (Option (Option Blk))
 |o::l,e::es,b=>cT s e b::ff (s.after o.dst e.res) l es b
 |_,_,_=>[]
theorem nE:∀ (l:List Oper) (es:List Ent) (t i:Nat) (o:Oper) (e:Ent),l[i]?=some o→es[i]?=some e→(iR l es t)[i]?=some (mX o e t)
 |[],_,_,_,_,_,h,_=>by simp at h
 |_::_,[],_,_,_,_,_,h=>by simp at h
 |o::l,e::es,t,0,o',e',h,h'=>by simp at h h';subst h;subst h';rfl
 |o::l,e::es,t,i+1,o',e',h,h'=>by simpa [iR] using nE l es t i o' e' (by simpa using h) (by simpa using h')
theorem mB:∀ (l:List Oper) (es:List Ent) (s:St) (b i:Nat) (o:Oper) (e:Ent),l[i]?=some o→es[i]?=some e→(ff s l es b)[i]?=some (cT (aR s l es i) e b)
 |[],_,_,_,_,_,_,h,_=>by simp at h
 |_::_,[],_,_,_,_,_,_,h=>by simp at h
 |o::l,e::es,s,b,0,o',e',h,h'=>by simp at h h';subst h;subst h';rfl
 |o::l,e::es,s,b,i+1,o',e',h,h'=>by simpa [ff,aR] using mB l es _ b i o' e' (by simpa using h) (by simpa using h')
theorem ru:∀ (l:List Oper) (es:List Ent) (t:Nat),es.length=l.length→(iR l es t).length=l.length
 |[],[],_,_=>rfl
 |[],_::_,_,h=>by simp at h
 |_::_,[],_,h=>by simp at h
 |o::l,e::es,t,h=>by simp[iR,ru l es t (by simpa using h)]
theorem pH:∀ (l:List Oper) (es:List Ent) (s:St) (t:Nat),es.length=l.length→(ff s l es t).length=l.length
 |[],[],_,_,_=>rfl
 |[],_::_,_,_,h=>by simp at h
 |_::_,[],_,_,h=>by simp at h
 |o::l,e::es,s,t,h=>by simp[ff,pH l es _ t (by simpa using h)]
theorem Jn (s:St)(o:Oper)(e:Ent)(t:Nat):(s.after o.dst e.res).get t=(mX o e t).getD (s.get t):=by
 unfold mX St.get St.after eB
 cases o.dst with
 |none=>simp
 |some d=>
  by_cases h:d=t
  ·subst h;simp[af]
  ·simp[af,h]
theorem uD:∀ (old:List (Nat×Option Blk)) (b:Nat) (d:Option Blk),di old b d=if b∈old.map (·.1) then di old b none else d
 |[],_,_=>rfl
 |(i,x)::r,b,d=>by
  by_cases h:b=i
  ·subst h;simp[di]
  ·simp only[di,List.map_cons,List.mem_cons,h,false_or]
   exact uD r b d
theorem Jo (s:St)(o:Oper)(e:Ent)(b:Nat):ab (s.after o.dst e.res).H b=(cT s e b).getD (ab s.H b):=by
 have hl:=d9 s.H e.res.old
 unfold cT
 show ab (cr s.H e.res.old++e.res.news) b=_
 by_cases hb:b<s.H.length
 ·rw[if_neg (by omega)]
  have :ab (cr s.H e.res.old++e.res.news) b=ab (cr s.H e.res.old) b:=by
   unfold ab;rw[List.getElem?_append_left (by omega)]
  rw[this,mq s.H e.res.old b hb,uD]
  by_cases hm:b∈e.res.old.map (·.1)
  ·rw[if_pos hm,if_pos ⟨hb,hm⟩];rfl
  ·rw[if_neg hm,if_neg (fun h=>hm h.2)];rfl
 ·have :ab (cr s.H e.res.old++e.res.news) b=(e.res.news[b-s.H.length]?).join:=by
   unfold ab;rw[List.getElem?_append_right (by omega),hl]
  rw[this]
  by_cases h2:b<s.H.length+e.res.news.length
  ·rw[if_pos ⟨by omega,h2⟩];rfl
  ·rw[if_neg (by omega),if_neg (fun h=>hb h.1),List.getElem?_eq_none (by omega)]
   show none=ab s.H b
   unfold ab;rw[List.getElem?_eq_none (by omega)];rfl
theorem OQ {s0 s':St}{l:List Oper}{es:List Ent}(h:js P J n ops l s0 es s'):∀ i,i≤l.length→(∀ t,(aR s0 l es i).get t=cm (fun j=>decide (j<i)) (iR l es t) 0 (s0.get t))∧
  (∀ b,ab (aR s0 l es i).H b=cm (fun j=>decide (j<i)) (ff s0 l es b) 0 (ab s0.H b)):=by
 obtain⟨hl,_,hat⟩:=nW l s0 es s' h
 intro i
 induction i with
 |zero=>
  intro _
  have e0:aR s0 l es 0=s0:=by cases l<;>cases es<;>rfl
  rw[e0]
  exact⟨fun t=>(mv _ 0 _ fun j x _=>by simp).symm,fun b=>(mv _ 0 _ fun j x _=>by simp).symm⟩
 |succ i ih=>
  intro hi
  obtain⟨ih1,ih2⟩:=ih (by omega)
  have ho:l[i]?=some (l[i]'(by omega)):=List.getElem?_eq_getElem _
  have he:es[i]?=some (es[i]'(by omega)):=List.getElem?_eq_getElem _
  obtain⟨_,h2,_⟩:=hat i _ _ ho he
  rw[h2]
  have key:∀ {α:Type} (ws:List (Option α)) (d:α) (o:Option α),ws[i]?=some o→o.getD (cm (fun j=>decide (j<i)) ws 0 d)=cm (fun j=>decide (j<i+1)) ws 0 d:=by
   intro α ws d o hw
   cases o with
   |none=>
    refine j9 ws 0 d (fun j x hj=>?_)
    have :j≠i:=fun e=>by subst e;rw[hw] at hj;simp at hj
    simp only[Nat.zero_add]
    rw[Bool.eq_iff_iff]
    simp
    omega
   |some x=>
    refine(pA ws 0 d i x hw (by simp) (fun j y hj _=>?_)).symm
    simp
    omega
  exact⟨fun t=>by rw[Jn,ih1 t];exact key _ _ _ (nE l es t i _ _ ho he),fun b=>by rw[Jo,ih2 b];exact key _ _ _ (mB l es s0 b i _ _ ho he)⟩
theorem Le {s:St}{e:Ent}(h:e.res={v:= .tup []})(b:Nat):cT s e b=none:=by unfold cT;rw[h];simp
theorem vn {α:Type}{p:Nat→Bool}{Q:α→Prop}:∀ (ws:List (Option α)) (i:Nat) (d:α),Q d→(∀ (j:Nat) (x:α),ws[j]?=some (some x)→Q x)→Q (cm p ws i d)
 |[],_,_,hd,_=>hd
 |none::r,i,d,hd,h=>vn r (i+1) d hd fun j x hx=>h (j+1) x (by simpa using hx)
 |some y::r,i,d,hd,h=>vn r (i+1) _ (by split;exact h 0 y rfl;exact hd) fun j x hx=>h (j+1) x (by simpa using hx)
end
end
section
def CY (P:Program)(m n:Nat)(id:Nat)(ops:Array Oper)(s:St)(K:St→Prop):Prop:=
 ∀ (ρ:Nat→Nat×Nat) (a:Act) (w:World) (Q:Exit→Act→World→Prop),RelSt ρ n s a w→m≤s.H.length→(∀ a' w',tv m n ρ s w K a' w'→Q .normal a' w')→(Code.region id ops true).wp P Q a w
section
variable {P:Program}{J:Nat→Option Blk→Prop}{n:Nat}{ops:Array Oper}
theorem Jp {a b:List Nat}:meets a b=true↔∃ x,x∈a∧x∈b:=by
 unfold meets
 simp[List.any_eq_true]
theorem uS {tr:List (List Nat×List Nat)}(h:gi ops tr=true){j:Nat}{oj:Oper}{fj:List Nat×List Nat}(ho:ops.toList[j]?=some oj)(hf:tr[j]?=some fj):
  (∀ e∈oj.after.toList,Region.binds .any e=true→e.on<j)∧
  ∀ (i:Nat) oi fi,ops.toList[i]?=some oi→tr[i]?=some fi→i<j→((gq ops.toList []).getD j 0).testBit i=true∨fK ops oi oj fi fj=true:=by
 unfold gi at h
 have hz:∀ (i:Nat) o f,ops.toList[i]?=some o→tr[i]?=some f→((o,f),i)∈(ops.toList.zip tr).zipIdx:=fun i o f h1 h2=>by
  rw[List.mem_zipIdx_iff_getElem?]
  rw[List.getElem?_zip_eq_some]
  exact⟨h1,h2⟩
 simp only[List.all_eq_true] at h
 have h1:=h _ (hz j oj fj ho hf)
 simp only[Bool.and_eq_true,List.all_eq_true] at h1
 refine⟨fun e he hb=>?_,fun i oi fi hi hfi hlt=>?_⟩
 ·have :=h1.1 e he
  simpa [hb] using this
 ·have :=h1.2 _ (hz i oi fi hi hfi)
  simp only[Bool.or_eq_true,Bool.not_eq_true',decide_eq_false_iff_not] at this
  rcases this with(h2|h2)|h2
  ·exact absurd hlt h2
  ·exact .inl h2
  ·exact .inr h2
theorem mr {o o':Oper}{e e':List Nat×List Nat}(h:fK ops o o' e e'=true):(∀ d,o.dst=some d→d∉jM ops o')∧(∀ d,o'.dst=some d→d∉jM ops o)∧(∀ b,b∈e.2→b∉e'.1∧b∉e'.2)∧(∀ b,b∈e'.2→b∉e.1∧b∉e.2):=by
 unfold fK at h
 simp only[Bool.and_eq_true,Bool.not_eq_true'] at h
 obtain⟨⟨⟨h1,h2⟩,h3⟩,h4⟩:=h
 have nm:∀ {a b:List Nat},meets a b=false→∀ x,x∈a→x∉b:=fun hm x hx hy=>by
  have :=Jp.2 ⟨x,hx,hy⟩
  rw[hm] at this;cases this
 refine⟨fun d hd=>nm h1 d (by simp[hd]),fun d hd=>nm h2 d (by simp[hd]),fun b hb=>?_,fun b hb=>?_⟩
 ·have :=nm h3 b hb;simp at this;exact this
 ·have :=nm h4 b hb;simp at this;exact this
theorem uT {o:Oper}{e:Ent}{t:Nat}{x:V}(h:mX o e t=some x):o.dst=some t∧x=e.res.v:=by
 unfold mX at h
 split at h
 ·rename_i hd;injection h with h;exact⟨hd,h.symm⟩
 ·cases h
theorem vp {s:St}{e:Ent}{b:Nat}{x:Option Blk}(h:cT s e b=some x):b∈(bc s e.res).2:=by
 unfold cT at h
 unfold bc
 simp only[List.mem_append,List.mem_range'_1]
 split at h
 ·rename_i hc;exact .inr ⟨hc.1,hc.2⟩
 ·split at h
  ·rename_i hc;exact .inl hc.2
  ·cases h
theorem zZ {q p:Nat→Bool}:∀ (l:List Nat),(∀ x∈l,q x=true→p x=true)→(∃ x∈l,p x=true∧q x=false)→(l.filter q).length<(l.filter p).length
 |[],_,h=>by obtain⟨x,hx,_⟩:=h;cases hx
 |y::l,hs,h=>by
  have hle:∀ (l:List Nat),(∀ x∈l,q x=true→p x=true)→(l.filter q).length≤(l.filter p).length:=by
   intro l
   induction l with
   |nil=>intro _;exact Nat.le_refl _
   |cons z l ih=>
    intro h
    have :=ih fun x hx=>h x (by simp[hx])
    simp only[List.filter_cons]
    by_cases hq:q z=true
    ·have hp:=h z (by simp) hq
     simp only[hq,hp,if_true,List.length_cons];omega
    ·by_cases hp:p z=true<;>simp only[hq,hp,if_true,List.length_cons]<;>(try simp)<;>omega
  obtain⟨x,hx,hp,hq⟩:=h
  simp only[List.filter_cons]
  rcases List.mem_cons.1 hx with rfl|hx
  ·simp only[hp,hq,if_true,Bool.false_eq_true,if_false,List.length_cons]
   have :=hle l fun x hx=>hs x (by simp[hx])
   omega
  ·have ih:=zZ l (fun x hx=>hs x (by simp[hx])) ⟨x,hx,hp,hq⟩
   by_cases hqy:q y=true
   ·have hpy:=hs y (by simp) hqy
    simp only[hqy,hpy,if_true,List.length_cons];omega
   ·by_cases hpy:p y=true<;>simp only[hqy,hpy,if_true,List.length_cons]<;>(try simp)<;>omega
structure DInv (P:Program) (n:Nat) (ops:Array Oper) (s0:St) (es:List Ent) (ρ0:Nat→Nat×Nat) (w0:World) (L:Nat→Bool) (ρ:Nat→Nat×Nat) (a:Act) (w:World):Prop where
 closed:wA ops.toList L
 tmps:RelT ρ (fun b=>b<s0.H.length∨∃ i e,L i=true∧es[i]?=some e∧(aR s0 ops.toList es i).H.length≤b∧b<(aR s0 ops.toList es i).H.length+e.res.news.length) w n (fun t=>cm L (iR ops.toList es t) 0 (s0.get t)) a
 mem:MemRel ρ (fun b=>b<s0.H.length∨∃ i e,L i=true∧es[i]?=some e∧(aR s0 ops.toList es i).H.length≤b∧b<(aR s0 ops.toList es i).H.length+e.res.news.length) (fun b=>cm L (ff s0 ops.toList es b) 0 (ab s0.H b)) w
 agree:∀ b,b<s0.H.length→ρ b=ρ0 b
 frame:Frame ρ0 (ab s0.H) w0 ρ (fun b=>cm L (ff s0 ops.toList es b) 0 (ab s0.H b)) w
theorem pP {s0 s':St}{es:List Ent}(ht:js P J n ops ops.toList s0 es s'):∀ (i:Nat) o e,ops.toList[i]?=some o→es[i]?=some e→(aR s0 ops.toList es (i+1)).H.length=(aR s0 ops.toList es i).H.length+e.res.news.length:=fun i o e ho he=>by
 obtain⟨_,_,hat⟩:=nW _ _ _ _ ht
 rw[(hat i o e ho he).2.1]
 simp[St.after,d9]
theorem pQ {s0 s':St}{es:List Ent}(ht:js P J n ops ops.toList s0 es s'):∀ (j i:Nat),i≤j→j≤ops.size→(aR s0 ops.toList es i).H.length≤(aR s0 ops.toList es j).H.length:=by
 obtain⟨hl,_,_⟩:=nW _ _ _ _ ht
 intro j
 induction j with
 |zero=>intro i hi _;rw[Nat.le_zero.1 hi];exact Nat.le_refl _
 |succ j ih=>
  intro i hi hj
  have hj':j<ops.toList.length:=by simp;omega
  have :=pP ht j _ _ (List.getElem?_eq_getElem hj') (List.getElem?_eq_getElem (by omega :j<es.length))
  by_cases e:i=j+1
  ·subst e;exact Nat.le_refl _
  ·have :=ih i (by omega) (by omega);omega
theorem wB (s0:St)(l:List Oper)(es:List Ent):aR s0 l es 0=s0:=by cases l<;>cases es<;>rfl
theorem Jq {s0 s':St}{es:List Ent}(ht:js P J n ops ops.toList s0 es s')(hok:gi ops (gj ops.toList s0 es)=true){ρ0:Nat→Nat×Nat}{w0:World}{Q:Exit→Act→World→Prop}{m:Nat}(hm:m≤s0.H.length)(hJ:∀ b,J b (ab s0.H b))
  (hq:∀ ρ a w,RelSt ρ n s' a w→Step m ρ0 s0 w0 ρ s' w→Q .normal a w):
  ∀ (fuel:Nat) (listed:Array Bool) (ρ:Nat→Nat×Nat) (a:Act) (w:World),listed.size=ops.size→((List.range ops.size).filter fun i=>!(listed.getD i false)).length≤fuel→
   DInv P n ops s0 es ρ0 w0 (fun i=>listed.getD i false) ρ a w→wpAny P .any ops Q fuel listed a w:=by
 obtain⟨hl,hfin,hat⟩:=nW _ _ _ _ ht
 have hsp:=OQ ht
 have hN:ops.toList.length=ops.size:=by simp
 have alldone:∀ (listed:Array Bool),listed.size=ops.size→Region.ready .any ops listed=[]→∀ i,i<ops.size→listed.getD i false=true:=by
  intro listed hls hr i
  induction i using Nat.strongRecOn with
  |_ i ih=>
   intro hi
   cases hc:listed.getD i false with
   |true=>rfl
   |false=>
    exfalso
    have hio:ops.toList[i]?=some ops[i]:=by simp[hi]
    have hfi:=(hat i _ _ hio (List.getElem?_eq_getElem (by omega :i<es.length))).2.2
    have hedge:=(uS hok hio hfi).1
    have :i∈Region.ready .any ops listed:=by
     unfold Region.ready
     rw[List.mem_filter]
     refine⟨by simp[hi],?_⟩
     have hg:listed.getD i true=false:=by
      rw[Array.getD_eq_getD_getElem?] at hc ⊢
      rw[Array.getElem?_eq_getElem (by omega)] at hc ⊢
      simpa using hc
     rw[hg]
     simp only[Bool.not_false,Bool.true_and,Array.getElem?_eq_getElem hi,Option.map_some,Option.getD_some]
     rw[Array.all_eq_true_iff_forall_mem]
     intro e he
     by_cases hb:Region.binds .any e=true
     ·have hlt:=hedge e (by simpa using he) hb
      rw[ih e.on hlt (by omega)];simp
     ·simp[hb]
    rw[hr] at this
    cases this
 have fin:∀ (listed:Array Bool) ρ a w,listed.size=ops.size→(∀ i,i<ops.size→listed.getD i false=true)→DInv P n ops s0 es ρ0 w0 (fun i=>listed.getD i false) ρ a w→Q .normal a w:=by
  intro listed ρ a w hls hall hinv
  have hT:∀ t,cm (fun i=>listed.getD i false) (iR ops.toList es t) 0 (s0.get t)=s'.get t:=fun t=>by
   rw[←hfin,(hsp _ (Nat.le_refl _)).1 t]
   refine j9 _ 0 _ (fun j x hj=>?_)
   have hlt:=(List.getElem?_eq_some_iff.1 hj).1
   rw[ru _ _ _ hl] at hlt
   simp only[Nat.zero_add]
   rw[hall j (by omega)]
   simp;omega
  have hG:∀ b,cm (fun i=>listed.getD i false) (ff s0 ops.toList es b) 0 (ab s0.H b)=ab s'.H b:=fun b=>by
   rw[←hfin,(hsp _ (Nat.le_refl _)).2 b]
   refine j9 _ 0 _ (fun j x hj=>?_)
   have hlt:=(List.getElem?_eq_some_iff.1 hj).1
   rw[pH _ _ _ _ hl] at hlt
   simp only[Nat.zero_add]
   rw[hall j (by omega)]
   simp;omega
  have hlen:s0.H.length≤s'.H.length:=by
   have :=pQ ht ops.size 0 (by omega) (Nat.le_refl _)
   rw[wB] at this
   rw[←hfin,hN];exact this
  have hdom:∀ b,(b<s0.H.length∨∃ i e,listed.getD i false=true∧es[i]?=some e∧(aR s0 ops.toList es i).H.length≤b∧b<(aR s0 ops.toList es i).H.length+e.res.news.length)→b<s'.H.length:=by
   rintro b (hb|⟨i,e,_,he,h1,h2⟩)
   ·omega
   ·have hi:i<es.length:=(List.getElem?_eq_some_iff.1 he).1
    have hio:ops.toList[i]?=some (ops.toList[i]'(by omega)):=List.getElem?_eq_getElem _
    have h3:=pP ht i _ e hio he
    have h4:=pQ ht ops.size (i+1) (by omega) (Nat.le_refl _)
    rw[←hfin,hN];omega
  have hGf:(fun b=>cm (fun i=>listed.getD i false) (ff s0 ops.toList es b) 0 (ab s0.H b))=ab s'.H:=funext hG
  refine hq ρ a w ⟨⟨hinv.tmps.size,hinv.tmps.defers,fun t=>?_⟩,?_⟩ ⟨by omega,fun b hb=>hinv.agree b (by omega),?_⟩
  ·have :=(hinv.tmps.slot t).mono (fun _ _=>rfl) hdom (Lasts.refl w)
   rw[hT t] at this;exact this
  ·have :=hinv.mem.monoDom hdom
   rw[hGf] at this;exact this
  ·have :=hinv.frame
   rw[hGf] at this;exact this
 intro fuel
 induction fuel with
 |zero=>
  intro listed ρ a w hls hf hinv
  have hall:∀ i,i<ops.size→listed.getD i false=true:=fun i hi=>by
   have h0:=List.length_eq_zero_iff.1 (Nat.le_zero.1 hf)
   have :i∉(List.range ops.size).filter fun i=>!(listed.getD i false):=by rw[h0];simp
   simp only[List.mem_filter,List.mem_range,Bool.not_eq_true',not_and,Bool.not_eq_false] at this
   exact this hi
  refine⟨?_,fin listed ρ a w hls hall hinv⟩
  refine List.eq_nil_iff_forall_not_mem.2 fun i hi=>?_
  unfold Region.ready at hi
  rw[List.mem_filter] at hi
  obtain⟨h1,h2⟩:=hi
  have hlt:i<ops.size:=by simpa using h1
  have :=hall i hlt
  rw[Array.getD_eq_getD_getElem?,Array.getElem?_eq_getElem (by omega)] at this
  simp only[Bool.and_eq_true,Bool.not_eq_true'] at h2
  have h3:=h2.1
  rw[Array.getD_eq_getD_getElem?,Array.getElem?_eq_getElem (by omega)] at h3
  simp at this h3
  rw[this] at h3;cases h3
 |succ fuel ih=>
  intro listed ρ a w hls hf hinv
  refine⟨fun hr=>fin listed ρ a w hls (alldone listed hls hr) hinv,fun i hi=>?_⟩
  unfold Region.ready at hi
  rw[List.mem_filter] at hi
  obtain⟨h1,h2⟩:=hi
  have hlt:i<ops.size:=by simpa using h1
  have hio:ops.toList[i]?=some ops[i]:=by simp[hlt]
  have hie:es[i]?=some (es[i]'(by omega)):=List.getElem?_eq_getElem _
  generalize hoi:ops[i]=o at*
  generalize hei:es[i]'(by omega)=e at*
  simp only[Bool.and_eq_true,Bool.not_eq_true'] at h2
  have hnl:listed.getD i false=false:=by
   have h3:=h2.1
   rw[Array.getD_eq_getD_getElem?,Array.getElem?_eq_getElem (by omega)] at h3 ⊢
   simpa using h3
  have hpre:∀ e'∈o.after.toList,Region.binds .any e'=true→listed.getD e'.on false=true:=fun e' he' hb=>by
   have h3:=h2.2
   rw[Array.getElem?_eq_getElem hlt,hoi] at h3
   simp only[Option.map_some,Option.getD_some] at h3
   rw[Array.all_eq_true_iff_forall_mem] at h3
   have :=h3 e' (by simpa using he')
   simpa [hb] using this
  obtain⟨hent,hnext,hfi⟩:=hat i o e hio hie
  obtain⟨hd,hg,hrun⟩:=hent
  have hordi:=(uS hok hio hfi).2
  have hahead:∀ j oj ej,j<i→ops.toList[j]?=some oj→es[j]?=some ej→fK ops oj o (bc (aR s0 ops.toList es j) ej.res) (bc (aR s0 ops.toList es i) e.res)=false→listed.getD j false=true:=fun j oj ej hj ho he hap=>by
   rcases hordi j oj _ ho (hat j oj ej ho he).2.2 hj with hb|hb
   ·exact yB hinv.closed i o hio hpre j hb
   ·rw[hap] at hb;cases hb
  have hbehind:∀ j oj ej,i<j→ops.toList[j]?=some oj→es[j]?=some ej→fK ops o oj (bc (aR s0 ops.toList es i) e.res) (bc (aR s0 ops.toList es j) ej.res)=false→listed.getD j false=false:=fun j oj ej hj ho he hap=>by
   cases hc:listed.getD j false with
   |false=>rfl
   |true=>
    exfalso
    rcases(uS hok ho (hat j oj ej ho he).2.2).2 i o _ hio hfi hj with hb|hb
    ·have :=yB hinv.closed j oj ho (fun e' h4 h5=>hinv.closed j oj ho hc e' h4 h5) i hb
     rw[hnl] at this;cases this
    ·rw[hap] at hb;cases hb
  have hjget:∀ j,j<ops.size→∃ oj ej,ops.toList[j]?=some oj∧es[j]?=some ej:=fun j hj=>⟨_,_,List.getElem?_eq_getElem (by omega :j<ops.toList.length),List.getElem?_eq_getElem (by omega :j<es.length)⟩
  have hslot:∀ t,t∈jM ops o→cm (fun i=>listed.getD i false) (iR ops.toList es t) 0 (s0.get t)=(aR s0 ops.toList es i).get t:=fun t hts=>by
   rw[(hsp i (by omega)).1 t]
   refine j9 _ 0 _ (fun j x hj=>?_)
   have hjl:=(List.getElem?_eq_some_iff.1 hj).1
   rw[ru _ _ _ hl] at hjl
   obtain⟨oj,ej,hoj,hej⟩:=hjget j (by omega)
   rw[nE _ _ _ _ _ _ hoj hej] at hj
   injection hj with hj
   have hdst:=(uT hj).1
   simp only[Nat.zero_add]
   rcases Nat.lt_trichotomy j i with hlt'|rfl|hgt
   ·rw[hahead j oj ej hlt' hoj hej (by
     cases hap:fK ops oj o (bc (aR s0 ops.toList es j) ej.res) (bc (aR s0 ops.toList es i) e.res) with
     |false=>rfl
     |true=>exact absurd hts ((mr hap).1 t hdst))]
    simp[hlt']
   ·rw[hnl];simp
   ·rw[hbehind j oj ej hgt hoj hej (by
     cases hap:fK ops o oj (bc (aR s0 ops.toList es i) e.res) (bc (aR s0 ops.toList es j) ej.res) with
     |false=>rfl
     |true=>exact absurd hts ((mr hap).2.1 t hdst))]
    simp;omega
  have hfp:∀ b,b∈e.res.fp→cm (fun i=>listed.getD i false) (ff s0 ops.toList es b) 0 (ab s0.H b)=ab (aR s0 ops.toList es i).H b:=fun b hbf=>by
   rw[(hsp i (by omega)).2 b]
   refine j9 _ 0 _ (fun j x hj=>?_)
   have hjl:=(List.getElem?_eq_some_iff.1 hj).1
   rw[pH _ _ _ _ hl] at hjl
   obtain⟨oj,ej,hoj,hej⟩:=hjget j (by omega)
   rw[mB _ _ _ _ _ _ _ hoj hej] at hj
   injection hj with hj
   have hft:=vp hj
   simp only[Nat.zero_add]
   rcases Nat.lt_trichotomy j i with hlt'|rfl|hgt
   ·rw[hahead j oj ej hlt' hoj hej (by
     cases hap:fK ops oj o (bc (aR s0 ops.toList es j) ej.res) (bc (aR s0 ops.toList es i) e.res) with
     |false=>rfl
     |true=>exact absurd hbf ((mr hap).2.2.1 b hft).1)]
    simp[hlt']
   ·rw[hnl];simp
   ·rw[hbehind j oj ej hgt hoj hej (by
     cases hap:fK ops o oj (bc (aR s0 ops.toList es i) e.res) (bc (aR s0 ops.toList es j) ej.res) with
     |false=>rfl
     |true=>exact absurd hbf ((mr hap).2.2.2 b hft).1)]
    simp;omega
  have hfpd:∀ b,b∈e.res.fp→b<(aR s0 ops.toList es i).H.length→(b<s0.H.length∨∃ i e,listed.getD i false=true∧es[i]?=some e∧(aR s0 ops.toList es i).H.length≤b∧b<(aR s0 ops.toList es i).H.length+e.res.news.length):=fun b hbf hbl=>by
   have key:∀ k,k≤i→b<(aR s0 ops.toList es k).H.length→b<s0.H.length∨∃ j ej,j<k∧es[j]?=some ej∧(aR s0 ops.toList es j).H.length≤b∧b<(aR s0 ops.toList es j).H.length+ej.res.news.length:=by
    intro k
    induction k with
    |zero=>intro _ h;rw[wB] at h;exact .inl h
    |succ k ihk=>
     intro hk h
     obtain⟨ok,ek,hok2,hek⟩:=hjget k (by omega)
     by_cases hbk:b<(aR s0 ops.toList es k).H.length
     ·rcases ihk (by omega) hbk with h1|⟨j,ej,h1,h2,h3⟩
      ·exact .inl h1
      ·exact .inr ⟨j,ej,by omega,h2,h3⟩
     ·have :=pP ht k ok ek hok2 hek
      exact .inr ⟨k,ek,by omega,hek,by omega,by omega⟩
   rcases key i (Nat.le_refl _) hbl with h1|⟨j,ej,h1,h2,h3,h4⟩
   ·exact .inl h1
   ·refine .inr ⟨j,ej,?_,h2,h3,h4⟩
    have hoj:ops.toList[j]?=some (ops.toList[j]'(by omega)):=List.getElem?_eq_getElem _
    refine hahead j _ ej h1 hoj h2 ?_
    cases hap:fK ops (ops.toList[j]'(by omega)) o (bc (aR s0 ops.toList es j) ej.res) (bc (aR s0 ops.toList es i) e.res) with
    |false=>rfl
    |true=>exact absurd hbf ((mr hap).2.2.1 b (by unfold bc;simp only[List.mem_append,List.mem_range'_1];exact .inr ⟨h3,h4⟩)).1
  have hset:∀ j,(listed.setIfInBounds i true).getD j false=if j=i then true else listed.getD j false:=fun j=>by
   rw[Array.getD_eq_getD_getElem?,Array.getD_eq_getD_getElem?,Array.getElem?_setIfInBounds]
   by_cases hji:i=j
   ·subst hji;simp[hls,hlt]
   ·rw[if_neg hji,if_neg (fun x=>hji x.symm)]
  have hTnew:∀ t,cm (fun i'=>(listed.setIfInBounds i true).getD i' false) (iR ops.toList es t) 0 (s0.get t)=if o.dst=some t then e.res.v else cm (fun i=>listed.getD i false) (iR ops.toList es t) 0 (s0.get t):=fun t=>by
   by_cases hdt:o.dst=some t
   ·rw[if_pos hdt]
    refine pA _ 0 _ i e.res.v (by rw[nE _ _ _ _ _ _ hio hie];unfold mX;rw[if_pos hdt]) (by simp only[Nat.zero_add];rw[hset,if_pos rfl]) (fun j y hj hy=>?_)
    have hjl:=(List.getElem?_eq_some_iff.1 hy).1
    rw[ru _ _ _ hl] at hjl
    obtain⟨oj,ej,hoj,hej⟩:=hjget j (by omega)
    rw[nE _ _ _ _ _ _ hoj hej] at hy
    injection hy with hy
    have hdst:=(uT hy).1
    simp only[Nat.zero_add]
    rw[hset,if_neg (by omega)]
    refine hbehind j oj ej hj hoj hej ?_
    cases hap:fK ops o oj (bc (aR s0 ops.toList es i) e.res) (bc (aR s0 ops.toList es j) ej.res) with
    |false=>rfl
    |true=>exact absurd (by unfold jM;simp[hdt]:t∈jM ops o) ((mr hap).2.1 t hdst)
   ·rw[if_neg hdt]
    refine j9 _ 0 _ (fun j x hj=>?_)
    simp only[Nat.zero_add]
    rw[hset]
    by_cases hji:j=i
    ·subst hji
     rw[nE _ _ _ _ _ _ hio hie] at hj
     injection hj with hj
     exact absurd (uT hj).1 hdt
    ·rw[if_neg hji]
  have hGnew:∀ b,cm (fun i'=>(listed.setIfInBounds i true).getD i' false) (ff s0 ops.toList es b) 0 (ab s0.H b)=(cT (aR s0 ops.toList es i) e b).getD (cm (fun i=>listed.getD i false) (ff s0 ops.toList es b) 0 (ab s0.H b)):=fun b=>by
   cases hwb:cT (aR s0 ops.toList es i) e b with
   |some x=>
    refine pA _ 0 _ i x (by rw[mB _ _ _ _ _ _ _ hio hie,hwb]) (by simp only[Nat.zero_add];rw[hset,if_pos rfl]) (fun j y hj hy=>?_)
    have hjl:=(List.getElem?_eq_some_iff.1 hy).1
    rw[pH _ _ _ _ hl] at hjl
    obtain⟨oj,ej,hoj,hej⟩:=hjget j (by omega)
    rw[mB _ _ _ _ _ _ _ hoj hej] at hy
    injection hy with hy
    have hft:=vp hy
    have hft0:=vp hwb
    simp only[Nat.zero_add]
    rw[hset,if_neg (by omega)]
    refine hbehind j oj ej hj hoj hej ?_
    cases hap:fK ops o oj (bc (aR s0 ops.toList es i) e.res) (bc (aR s0 ops.toList es j) ej.res) with
    |false=>rfl
    |true=>exact absurd hft0 ((mr hap).2.2.2 b hft).2
   |none=>
    refine j9 _ 0 _ (fun j x hj=>?_)
    simp only[Nat.zero_add]
    rw[hset]
    by_cases hji:j=i
    ·subst hji
     rw[mB _ _ _ _ _ _ _ hio hie,hwb] at hj
     cases hj
    ·rw[if_neg hji]
  have hclosed:wA ops.toList fun i'=>(listed.setIfInBounds i true).getD i' false:=fun j oj hj hlj e' he' hb=>by
   simp only[hset] at hlj ⊢
   by_cases hji:j=i
   ·subst hji
    rw[hio] at hj;injection hj with hj;subst hj
    by_cases hei':e'.on=j
    ·rw[if_pos hei']
    ·rw[if_neg hei'];exact hpre e' he' hb
   ·rw[if_neg hji] at hlj
    by_cases hei':e'.on=i
    ·rw[if_pos hei']
    ·rw[if_neg hei'];exact hinv.closed j oj hj hlj e' he' hb
  have hfuel:((List.range ops.size).filter fun i'=>!((listed.setIfInBounds i true).getD i' false)).length≤fuel:=by
   have :((List.range ops.size).filter fun i'=>!((listed.setIfInBounds i true).getD i' false)).length<((List.range ops.size).filter fun i=>!(listed.getD i false)).length:=by
    refine zZ _ (fun x hx hq=>?_) ⟨i,by simp[hlt],by simp only[hnl];rfl,by simp only[hset];rfl⟩
    simp only[hset] at hq
    by_cases hxi:x=i
    ·rw[if_pos hxi] at hq;simp at hq
    ·rw[if_neg hxi] at hq;exact hq
   omega
  have hfresh:∀ b,(aR s0 ops.toList es i).H.length≤b→b<(aR s0 ops.toList es i).H.length+e.res.news.length→¬ (b<s0.H.length∨∃ i e,listed.getD i false=true∧es[i]?=some e∧(aR s0 ops.toList es i).H.length≤b∧b<(aR s0 ops.toList es i).H.length+e.res.news.length):=by
   rintro b hb1 hb2 (hb|⟨j,ej,hlj,hej,h3,h4⟩)
   ·have :=pQ ht i 0 (by omega) (by omega)
    rw[wB] at this;omega
   ·have hjl:j<es.length:=(List.getElem?_eq_some_iff.1 hej).1
    have hoj:ops.toList[j]?=some (ops.toList[j]'(by omega)):=List.getElem?_eq_getElem _
    have h5:=pP ht j _ ej hoj hej
    have h6:=pP ht i o e hio hie
    rcases Nat.lt_trichotomy j i with hlt'|rfl|hgt
    ·have :=pQ ht i (j+1) (by omega) (by omega);omega
    ·rw[hnl] at hlj;cases hlj
    ·have :=pQ ht j (i+1) (by omega) (by omega);omega
  have hdomsub:∀ b,(b<s0.H.length∨∃ i e,listed.getD i false=true∧es[i]?=some e∧(aR s0 ops.toList es i).H.length≤b∧b<(aR s0 ops.toList es i).H.length+e.res.news.length)→
    (b<s0.H.length∨∃ i' e,(listed.setIfInBounds i true).getD i' false=true∧es[i']?=some e∧(aR s0 ops.toList es i').H.length≤b∧b<(aR s0 ops.toList es i').H.length+e.res.news.length):=by
   rintro b (hb|⟨j,ej,hlj,hej,h3⟩)
   ·exact .inl hb
   ·exact .inr ⟨j,ej,by rw[hset];split;rfl;exact hlj,hej,h3⟩
  have hdomnew:∀ b,bZ (fun b=>b<s0.H.length∨∃ i e,listed.getD i false=true∧es[i]?=some e∧(aR s0 ops.toList es i).H.length≤b∧b<(aR s0 ops.toList es i).H.length+e.res.news.length) (aR s0 ops.toList es i).H.length e.res.news.length b→
    (b<s0.H.length∨∃ i' e,(listed.setIfInBounds i true).getD i' false=true∧es[i']?=some e∧(aR s0 ops.toList es i').H.length≤b∧b<(aR s0 ops.toList es i').H.length+e.res.news.length):=by
   rintro b (hb|hb)
   ·exact hdomsub b hb
   ·exact .inr ⟨i,e,by rw[hset,if_pos rfl],hie,hb.1,hb.2⟩
  have hopsi:ops[i]?=some o:=by rw[Array.getElem?_eq_getElem hlt,hoi]
  have hwant:Region.wanted o (yielded ops a.tmps)=e.run:=by
   unfold lG at hg
   cases hgd:o.guard with
   |none=>rw[hgd] at hg;simp only at hg;unfold Region.wanted;rw[hgd,hg]
   |some jw=>
    obtain⟨jj,want⟩:=jw
    rw[hgd] at hg
    simp only at hg
    obtain⟨d,g1,g2,g5⟩:=hg
    have hv:=hinv.tmps.slot d
    rcases g5 with⟨b',g3,g4⟩|⟨g3,g4⟩
    ·rw[hslot d (by unfold jM;rw[hgd];simp[g1]),g3] at hv
     unfold VR at hv
     rw[yA hgd g1 (by rw[hinv.tmps.size];exact g2) hv,g4]
    ·rw[hslot d (by unfold jM;rw[hgd];simp[g1]),g3] at hv
     unfold VR at hv
     obtain⟨a0,e0,l0⟩:=hv
     have ha0:a0=#[]:=by unfold VRs at l0;exact Array.toList_eq_nil_iff.1 l0
     subst ha0
     rw[yf hgd g1 e0,g4]
  unfold wpOp
  rw[hopsi]
  simp only[hwant]
  cases hr:e.run with
  |false=>
   rw[hr] at hrun
   simp only[Bool.false_eq_true,if_false] at hrun ⊢
   have hwn:∀ b,cT (aR s0 ops.toList es i) e b=none:=fun b=>by
    unfold cT;rw[hrun];simp
   refine ih _ ρ _ w (by simpa using hls) hfuel ⟨hclosed,⟨by simpa [Act.put] using(show(a.put o.dst undef).tmps.size=n by cases o.dst<;>simp[Act.put,hinv.tmps.size]),by cases o.dst<;>exact hinv.tmps.defers,fun t=>?_⟩,?_,hinv.agree,?_⟩
   ·rw[hTnew]
    cases hdd:o.dst with
    |none=>simp only[seval,if_false,Act.put];exact(hinv.tmps.slot t).mono (fun _ _=>rfl) hdomsub (Lasts.refl w)
    |some d=>
     have hdn:d<a.tmps.size:=by rw[hinv.tmps.size];rw[hdd] at hd;exact hd
     rw[pO a d undef t hdn]
     by_cases hdt:d=t
     ·subst hdt;rw[if_pos rfl,if_pos rfl,hrun];exact vm
     ·rw[if_neg hdt,if_neg (by simpa using hdt)];exact(hinv.tmps.slot t).mono (fun _ _=>rfl) hdomsub (Lasts.refl w)
   ·have :=hinv.mem.monoDom hdomsub
    refine this.less fun b B hB=>?_
    rw[hGnew,hwn] at hB;exact hB
   ·refine hinv.frame.less fun b B hB hro=>⟨b,B,?_,hro,rfl⟩
    rw[hGnew,hwn] at hB;exact hB
  |true=>
   rw[hr] at hrun
   simp only[if_true] at hrun ⊢
   obtain⟨hx,hold,_⟩:=hrun
   have hevs:∀ x∈o.op.operands.toList,VR ρ (fun b=>b<s0.H.length∨∃ i e,listed.getD i false=true∧es[i]?=some e∧(aR s0 ops.toList es i).H.length≤b∧b<(aR s0 ops.toList es i).H.length+e.res.news.length) w ((aR s0 ops.toList es i).ev x) (a.eval x):=fun x hxm=>by
    cases x with
    |tmp t=>
     have hv:=hinv.tmps.slot t
     rw[hslot t (by unfold jM;simp only[List.mem_append,List.mem_filterMap];exact .inl (.inr ⟨_,hxm,rfl⟩))] at hv
     exact hv
    |const v=>exact ug v
    |global g=>show VR _ _ _ .junk _;unfold VR;trivial
    |func f=>show VR _ _ _ (.fn f [] []) _;unfold VR;exact⟨#[],#[],rfl,VRs.nil,VRs.nil⟩
   have hJall:∀ b,J b (cm (fun i=>listed.getD i false) (ff s0 ops.toList es b) 0 (ab s0.H b)):=fun b=>vn _ 0 _ (hJ b) fun j x hj=>by
    have hjl:=(List.getElem?_eq_some_iff.1 hj).1
    rw[pH _ _ _ _ hl] at hjl
    obtain⟨oj,ej,hoj,hej⟩:=hjget j (by omega)
    rw[mB _ _ _ _ _ _ _ hoj hej] at hj
    injection hj with hj
    obtain⟨_,_,hrj⟩:=(hat j oj ej hoj hej).1
    cases hrr:ej.run with
    |false=>
     rw[hrr] at hrj
     simp only[Bool.false_eq_true,if_false] at hrj
     rw[Le hrj] at hj;cases hj
    |true=>
     rw[hrr] at hrj
     simp only[if_true] at hrj
     exact hrj.2.2 b x hj
   refine .inl (hx ρ _ _ w a _ Q hevs hinv.mem (fun b hbf=>⟨hfp b hbf,hfpd b hbf⟩) hfresh hJall ?_)
   intro ρ' w' r k1 k2 k3 k4
   have hle:∀ b B,cm (fun i'=>(listed.setIfInBounds i true).getD i' false) (ff s0 ops.toList es b) 0 (ab s0.H b)=some B→bv (fun b=>cm (fun i=>listed.getD i false) (ff s0 ops.toList es b) 0 (ab s0.H b)) e.res.old (aR s0 ops.toList es i).H.length e.res.news b=some B:=fun b B hB=>by
    rw[hGnew] at hB
    unfold cT at hB
    unfold bv
    by_cases hc:(aR s0 ops.toList es i).H.length≤b∧b<(aR s0 ops.toList es i).H.length+e.res.news.length
    ·rw[if_pos hc] at hB ⊢;exact hB
    ·rw[if_neg hc] at hB ⊢
     rw[uD]
     by_cases hmem:b∈e.res.old.map (·.1)
     ·have hbl:b<(aR s0 ops.toList es i).H.length:=by
       obtain⟨x,hx1,hx2⟩:=List.mem_map.1 hmem
       rw[←hx2];exact hold x hx1
      rw[if_pos ⟨hbl,hmem⟩] at hB
      rw[if_pos hmem];exact hB
     ·rw[if_neg (fun h=>hmem h.2)] at hB
      rw[if_neg hmem];exact hB
   refine ih _ ρ' _ w' (by simpa using hls) hfuel ⟨hclosed,⟨by cases o.dst<;>simp[Act.put,hinv.tmps.size],by cases o.dst<;>exact hinv.tmps.defers,fun t=>?_⟩,(k2.less hle).monoDom hdomnew,fun b hb=>(k1 b (.inl hb)).trans (hinv.agree b hb),?_⟩
   ·rw[hTnew]
    cases hdd:o.dst with
    |none=>simp only[seval,if_false,Act.put];exact(hinv.tmps.slot t).mono k1 hdomsub k4.lasts
    |some d=>
     have hdn:d<a.tmps.size:=by rw[hinv.tmps.size];rw[hdd] at hd;exact hd
     rw[pO a d r t hdn]
     by_cases hdt:d=t
     ·subst hdt;rw[if_pos rfl,if_pos rfl];exact k3.mono (fun _ _=>rfl) hdomnew (Lasts.refl w')
     ·rw[if_neg hdt,if_neg (by simpa using hdt)];exact(hinv.tmps.slot t).mono k1 hdomsub k4.lasts
   ·exact(hinv.frame.trans k4).less fun b B hB hro=>⟨b,B,hle b B hB,hro,rfl⟩
theorem zj {m id:Nat}{s s':St}{es:List Ent}{K:St→Prop}(hmix:P.follows .mixedOrders=true)(ht:js P J n ops ops.toList s es s')(hok:gi ops (gj ops.toList s es)=true)(hJ:∀ b,J b (ab s.H b))(hk:K s'):CY P m n id ops s K:=by
 intro ρ a w Q hr hm hq
 refine wp_region_any hmix ?_
 obtain⟨hl,_,_⟩:=nW _ _ _ _ ht
 have hal:Alike w {w with drawn:=w.drawn+1}:=Alike.drew w
 have hf0:∀ i,(Array.replicate ops.size false).getD i false=false:=fun i=>by
  rw[Array.getD_eq_getD_getElem?,Array.getElem?_replicate];split <;>rfl
 have hT:∀ t,cm (fun i=>(Array.replicate ops.size false).getD i false) (iR ops.toList es t) 0 (s.get t)=s.get t:=fun t=>mv _ 0 _ fun j x _=>hf0 _
 have hG:(fun b=>cm (fun i=>(Array.replicate ops.size false).getD i false) (ff s ops.toList es b) 0 (ab s.H b))=ab s.H:=funext fun b=>mv _ 0 _ fun j x _=>hf0 _
 refine Jq ht hok (ρ0:=ρ) (w0:=w) hm hJ (fun ρ' a' w' h1 h2=>hq a' w' ⟨s',ρ',hk,h1,h2⟩) _ _ ρ a _ (by simp) (Nat.le_trans (List.length_filter_le _ _) (by simp)) ⟨(fun j o _ hj=>by rw[hf0] at hj;cases hj),⟨hr.tmps.size,hr.tmps.defers,fun t=>?_⟩,?_,fun _ _=>rfl,?_⟩
 ·rw[hT]
  exact(hr.tmps.slot t).mono (fun _ _=>rfl) (fun b hb=> .inl hb) hal.lasts
 ·rw[hG]
  exact(hr.mem.alike hal).monoDom fun b hb=> .inl hb
 ·rw[hG]
  exact Frame.alike hal
def dN (P:Program)(n:Nat)(ops:Array Oper)(K:St→Prop):List Oper→List (List Nat×List Nat)→St→Prop
 |[],tr,s=>gi ops tr=true∧K s
 |o::l,tr,s=>dV n o.dst∧match o.guard with
  |none=>c7 P o.op s (hold fun res=>(∀ x∈res.old,x.1<s.H.length)∧dN P n ops K l (tr++[bc s res]) (s.after o.dst res))
  |some (j,want)=>match gd ops j with
   |some d=>d<n∧gP (s.get d) want (c7 P o.op s (hold fun res=>(∀ x∈res.old,x.1<s.H.length)∧dN P n ops K l (tr++[bc s res]) (s.after o.dst res))) (dN P n ops K l (tr++[([],[])]) (s.put o.dst (.tup [])))
   |none=>False
theorem qW {K:St→Prop}:∀ (l:List Oper) (tr:List (List Nat×List Nat)) (s:St),dN P n ops K l tr s→∃ es s',js P (fun _ _=>True) n ops l s es s'∧gi ops (tr++gj l s es)=true∧K s'
 |[],tr,s,h=>⟨[],s,rfl,by simpa [gj] using h.1,h.2⟩
 |o::l,tr,s,h=>by
  obtain⟨hd,h⟩:=h
  have go:lG ops n o s true→(c7 P o.op s fun res=>(∀ x∈res.old,x.1<s.H.length)∧dN P n ops K l (tr++[bc s res]) (s.after o.dst res))→∃ es s',js P (fun _ _=>True) n ops (o::l) s es s'∧gi ops (tr++gj (o::l) s es)=true∧K s':=fun hg hx=>by
   obtain⟨res,h1,h2,h3⟩:=uC hx
   obtain⟨es,s',g1,g2,g3⟩:=qW l _ _ h3
   refine⟨⟨true,res⟩::es,s',⟨⟨hd,hg,by simp only[if_true];exact⟨h1.toJ,h2,fun _ _ _=>trivial⟩⟩,g1⟩,?_,g3⟩
   simpa [gj] using g2
  cases hg:o.guard with
  |none=>rw[hg] at h;exact go (by unfold lG;rw[hg]) h
  |some g=>
   obtain⟨j,want⟩:=g
   rw[hg] at h
   simp only at h
   split at h
   case h_2=>exact h.elim
   rename_i d hs
   obtain⟨hdn,h⟩:=h
   unfold gP at h
   have hput:s.after o.dst {v:= .tup []}=s.put o.dst (.tup []):=by unfold St.after St.put cr;simp
   split at h
   case h_3=>exact h.elim
   case h_2=>
    rename_i hb
    obtain⟨es,s',g1,g2,g3⟩:=qW l _ _ h
    refine⟨⟨false,{v:= .tup []}⟩::es,s',⟨⟨hd,by unfold lG;rw[hg];exact⟨d,hs,hdn,.inr ⟨hb,rfl⟩⟩,rfl⟩,by rw[hput];exact g1⟩,?_,g3⟩
    simp only[gj,hput]
    simpa [bc] using g2
   rename_i b hb
   obtain⟨h1,h2⟩:=h
   by_cases e:b=want
   ·exact go (by unfold lG;rw[hg];exact⟨d,hs,hdn,.inl ⟨b,hb,by rw[e];simp⟩⟩) (h1 e)
   ·obtain⟨es,s',g1,g2,g3⟩:=qW l _ _ (h2 e)
    refine⟨⟨false,{v:= .tup []}⟩::es,s',⟨⟨hd,by unfold lG;rw[hg];exact⟨d,hs,hdn,.inl ⟨b,hb,by simpa using e⟩⟩,rfl⟩,by rw[hput];exact g1⟩,?_,g3⟩
    simp only[gj,hput]
    simpa [bc] using g2
theorem Gg {m id:Nat}{s:St}{K:St→Prop}(hmix:P.follows .mixedOrders=true)(h:dN P n ops K ops.toList [] s):CY P m n id ops s K:=by
 obtain⟨es,s',h1,h2,h3⟩:=qW _ _ _ h
 exact zj hmix h1 (by simpa using h2) (fun _=>trivial) h3
end
end
section
section
variable {ρ ρ':Nat→Nat×Nat}{dom dom':Nat→Prop}{P:Program}{w w':World}{n:Nat}{a:Act}
structure Weak (m n:Nat) (s s':St):Prop where
 len:m≤s.H.length→m≤s'.H.length
 go:∀ (ρ:Nat→Nat×Nat) (a:Act) (w:World),RelSt ρ n s a w→m≤s.H.length→∃ ρ',RelSt ρ' n s' a w∧Step m ρ s w ρ' s' w
theorem Weak.refl (m n:Nat)(s:St):Weak m n s s:=⟨id,fun ρ _ _ h hm=>⟨ρ,h,Step.refl hm⟩⟩
theorem Weak.trans {m n:Nat}{s s' s'':St}(h:Weak m n s s')(k:Weak m n s' s''):Weak m n s s'':=⟨fun e=>k.len (h.len e),fun ρ a w hr hm=>by
 obtain⟨ρ1,h1,h2⟩:=h.go ρ a w hr hm
 obtain⟨ρ2,h3,h4⟩:=k.go ρ1 a w h1 h2.1
 exact⟨ρ2,h3,h2.trans h4⟩⟩
theorem Weak.drop {m n:Nat}{s s':St}(ht:∀ p∈s'.t,p.2=s.get p.1)(hl:s'.H.length=s.H.length)(hH:∀ b B,ab s'.H b=some B→ab s.H b=some B):Weak m n s s':=⟨fun e=>by rw[hl];exact e,fun ρ a w hr hm=>by
 refine⟨ρ,⟨⟨hr.tmps.size,hr.tmps.defers,fun t=>?_⟩,(hr.mem.less hH).monoDom (fun b hb=>by rw[hl];exact hb)⟩,by rw[hl];exact hm,fun _ _=>rfl,?_⟩
 ·have :∀ (l:List (Nat×V)),(∀ p∈l,p.2=s.get p.1)→VR ρ (· <s.H.length) w (af l t) (a.tmps.getD t undef):=by
   intro l
   induction l with
   |nil=>intro _;show VR _ _ _ .junk _;unfold VR;trivial
   |cons p l ih=>
    intro h
    simp only[af]
    split
    ·rename_i e
     rw[h p (by simp),e]
     exact hr.tmps.slot t
    ·exact ih fun q hq=>h q (by simp[hq])
  rw[hl]
  exact this s'.t ht
 ·exact(Frame.refl ρ (ab s.H) w).less fun b B hB hro=>⟨b,B,hH b B hB,hro,rfl⟩⟩
def fo (K:St→Prop)(Q:Exit→St→Prop):Exit→St→Prop
 | .normal,s=>K s
 |e,s=>Q e s
def iS (id:Nat)(Q:Exit→St→Prop):Exit→St→Prop
 | .exit i,s=>if i=id then Q .normal s else Q (.exit i) s
 |e,s=>Q e s
theorem uU {c:Code}{a:Act}{w:World}{Q:Exit→Act→World→Prop}(R:Nat→Act→World→Prop){k0:Nat}(h0:R k0 a w)
  (round:∀ k a w,R k a w→c.wp P (Exit.then (fun a' w'=>∃ k',k'<k∧R k' a' w') Q) a w):(Code.loop c).wp P Q a w:=by
 intro b k cs
 have key:∀ n a w,R n a w→∃ e a' w',Q e a' w'∧Arrives P (lone (b.at a (.code c:: .inLoop c::k)) cs w) b k cs e a' w':=by
  intro n
  induction n using Nat.strongRecOn with
  |_ n ih=>
   intro a w hI
   obtain⟨e,a₁,w₁,hq,harr⟩:=round n a w hI b (.inLoop c::k) cs
   cases e with
   |normal=>
    obtain⟨k',hlt,hI₁⟩:=hq
    obtain⟨e₂,a₂,w₂,hq₂,harr₂⟩:=ih k' hlt a₁ w₁ hI₁
    exact⟨e₂,a₂,w₂,hq₂,.of_steps (Steps.trans harr (.one step_inLoop)) harr₂⟩
   |exit id=>exact⟨_,a₁,w₁,hq,.pass (x:= .inLoop c) rfl (fun _ _=> .inl (by simp)) harr⟩
   |goto l=>exact⟨_,a₁,w₁,hq,.pass (x:= .inLoop c) rfl (fun _ _=> .inl (by simp)) harr⟩
   |ret=>exact⟨_,a₁,w₁,hq,.pass (x:= .inLoop c) rfl (fun _ _=> .inl (by simp)) harr⟩
   |panic ch=>exact⟨_,a₁,w₁,hq,.pass (x:= .inLoop c) rfl (fun _ _=> .inl (by simp)) harr⟩
   |outgrown=>exact⟨_,a₁,w₁,hq,.pass (x:= .inLoop c) rfl (fun _ _=> .inl (by simp)) harr⟩
 obtain⟨e,a',w',hq,harr⟩:=key _ a w h0
 exact⟨e,a',w',hq,.of_steps (.one step_loop) harr⟩
def jP (m n:Nat)(I:Nat→St→Prop)(k:Nat)(s':St):Prop:=∃ k' s'',k'<k∧Weak m n s' s''∧I k' s''
def Dx (m n:Nat)(body:(Exit→St→Prop)→St→Prop)(Q:Exit→St→Prop)(s:St):Prop:=
 ∃ I:Nat→St→Prop,(∃ k s0,Weak m n s s0∧I k s0)∧∀ k s,I k s→m≤s.H.length→body (fo (jP m n I k) Q) s
@[congr] theorem Xs {id:Nat} {Q:Exit→St→Prop} {e:Exit} {s s':St} (h:s=s'):iS id Q e s=iS id Q e s':=by rw[h]
def oF (v:V)(X Y:Prop):Prop:=match v with
 | .bool b=>(b=true→X)∧(b=false→Y)
 |_=>False
def vc (P:Program)(m n:Nat):Code→(Exit→St→Prop)→St→Prop
 | .skip,Q,s=>Q .normal s
 | .label _,Q,s=>Q .normal s
 | .region id ops draw,Q,s=>match draw with
  |true=>dN P n ops (Q .normal) ops.toList [] s
  |false=>bX P n ops ops.toList s (Q .normal)
 | .seq x y,Q,s=>vc P m n x (fo (vc P m n y Q) Q) s
 | .cond c x y,Q,s=>oF (s.ev c) (vc P m n x Q s) (vc P m n y Q s)
 | .block id c,Q,s=>vc P m n c (iS id Q) s
 | .loop c,Q,s=>Dx m n (vc P m n c) Q s
 | .exit id,Q,s=>Q (.exit id) s
 | .ret,Q,s=>Q .ret s
 | .scope _,_,_=>False
 | .goto _,_,_=>False
 | .rangeFunc _ _ _ _,_,_=>False
 | .refuse _,_,_=>False
def sS (m n:Nat)(ρ:Nat→Nat×Nat)(s:St)(w:World)(Q:Exit→St→Prop)(e:Exit)(a':Act)(w':World):Prop:=∃ s' ρ',Q e s'∧RelSt ρ' n s' a' w'∧Step m ρ s w ρ' s' w'
theorem jK (hmix:P.follows .mixedOrders=true){m:Nat}:∀ (c:Code) (Q:Exit→St→Prop) (s:St),vc P m n c Q s→∀ (ρ:Nat→Nat×Nat) (a:Act) (w:World),RelSt ρ n s a w→m≤s.H.length→c.wp P (sS m n ρ s w Q) a w
 | .skip,Q,s,h,ρ,a,w,hr,hm=>wp_skip ⟨s,ρ,h,hr,Step.refl hm⟩
 | .label _,Q,s,h,ρ,a,w,hr,hm=>wp_label ⟨s,ρ,h,hr,Step.refl hm⟩
 | .region id ops true,Q,s,h,ρ,a,w,hr,hm=>Gg (id:=id) hmix h ρ a w _ hr hm fun _ _ ⟨s',ρ',q1,q2,q3⟩=>⟨s',ρ',q1,q2,q3⟩
 | .region id ops false,Q,s,h,ρ,a,w,hr,hm=>Fs h hr hm fun _ _ ⟨s',ρ',q1,q2,q3⟩=>⟨s',ρ',q1,q2,q3⟩
 | .seq x y,Q,s,h,ρ,a,w,hr,hm=>by
  refine wp_seq (wp_mono (jK hmix x _ s h ρ a w hr hm) ?_)
  rintro e a' w' ⟨s',ρ',q1,q2,q3⟩
  cases e
  case normal=>exact wp_mono (jK hmix y Q s' q1 ρ' a' w' q2 q3.1) fun e a'' w'' ⟨s'',ρ'',r1,r2,r3⟩=>⟨s'',ρ'',r1,r2,q3.trans r3⟩
  all_goals exact⟨s',ρ',q1,q2,q3⟩
 | .cond c x y,Q,s,h,ρ,a,w,hr,hm=>by
  simp only[vc,oF] at h
  split at h
  case h_2=>exact h.elim
  rename_i b hb
  have hv:=hr.tmps.eval c
  rw[hb] at hv
  unfold VR at hv
  exact wp_cond_split hv (fun ht=>jK hmix x Q s (h.1 ht) ρ a w hr hm) (fun hf=>jK hmix y Q s (h.2 hf) ρ a w hr hm)
 | .block id c,Q,s,h,ρ,a,w,hr,hm=>by
  refine wp_block (wp_mono (jK hmix c _ s h ρ a w hr hm) ?_)
  rintro e a' w' ⟨s',ρ',q1,q2,q3⟩
  cases e
  case exit i=>
   simp only[iS] at q1
   simp only[Exit.inBlock]
   split at q1
   ·rename_i e;rw[if_pos e];exact⟨s',ρ',q1,q2,q3⟩
   ·rename_i e;rw[if_neg e];exact⟨s',ρ',q1,q2,q3⟩
  all_goals exact⟨s',ρ',q1,q2,q3⟩
 | .loop c,Q,s,h,ρ,a,w,hr,hm=>by
  obtain⟨I,⟨k0,s0,hw0,hi0⟩,round⟩:=h
  obtain⟨ρ0,hr0,hs0⟩:=hw0.go ρ a w hr hm
  refine uU (fun k a1 w1=>∃ s1 ρ1,I k s1∧RelSt ρ1 n s1 a1 w1∧Step m ρ s w ρ1 s1 w1) (k0:=k0) ⟨s0,ρ0,hi0,hr0,hs0⟩ ?_
  rintro k a1 w1 ⟨s1,ρ1,hi,hr1,hs1⟩
  refine wp_mono (jK hmix c _ s1 (round k s1 hi hs1.1) ρ1 a1 w1 hr1 hs1.1) ?_
  rintro e a2 w2 ⟨s2,ρ2,q1,q2,q3⟩
  cases e
  case normal=>
   obtain⟨k',s3,hk,hw,hi'⟩:=q1
   obtain⟨ρ3,hr3,hs3⟩:=hw.go ρ2 a2 w2 q2 q3.1
   exact⟨k',hk,s3,ρ3,hi',hr3,(hs1.trans q3).trans hs3⟩
  all_goals exact⟨s2,ρ2,q1,q2,hs1.trans q3⟩
 | .exit id,Q,s,h,ρ,a,w,hr,hm=>wp_exit ⟨s,ρ,h,hr,Step.refl hm⟩
 | .ret,Q,s,h,ρ,a,w,hr,hm=>wp_ret ⟨s,ρ,h,hr,Step.refl hm⟩
 | .scope _,_,_,h,_,_,_,_,_=>h.elim
 | .goto _,_,_,h,_,_,_,_,_=>h.elim
 | .rangeFunc _ _ _ _,_,_,h,_,_,_,_,_=>h.elim
 | .refuse _,_,_,h,_,_,_,_,_=>h.elim
theorem uV {r:Option Res}{K K':Res→Prop}(h:∀ r,K r→K' r)(hv:eH r K):eH r K':=by
 unfold eH at*
 split at hv
 ·exact⟨hv.1,h _ hv.2⟩
 ·exact hv
theorem nF {o:Op}{s:St}{K K':Res→Prop}(h:∀ r,K r→K' r)(hv:c7 P o s K):c7 P o s K':=by
 unfold c7 at*
 split at hv
 ·split at hv
  ·obtain⟨res,h1,h2⟩:=hv;exact⟨res,h1,h _ h2⟩
  ·exact uV h hv
  ·unfold mQ at*
   split at hv
   ·split at hv
    ·obtain⟨res,h1,h2⟩:=hv;exact⟨res,h1,h _ h2⟩
    ·exact hv
   ·exact hv
 ·exact uV h hv
theorem nP {ops:Array Oper}:∀ (l:List Oper) (s:St) (K K':St→Prop),(∀ s,K s→K' s)→bX P n ops l s K→bX P n ops l s K'
 |[],s,K,K',h,hv=>h s hv
 |o::l,s,K,K',h,hv=>by
  refine⟨hv.1,?_⟩
  have h2:=hv.2
  split at h2
  ·exact nF (fun r hr=>nP l _ K K' h hr) h2
  ·split at h2
   ·refine⟨h2.1,?_⟩
    have h3:=h2.2
    unfold gP at h3 ⊢
    split at h3
    ·exact⟨fun e=>nF (fun r hr=>nP l _ K K' h hr) (h3.1 e),fun e=>nP l _ K K' h (h3.2 e)⟩
    ·exact nP l _ K K' h h3
    ·exact h3
   ·exact h2
theorem nG {ops:Array Oper}:∀ (l:List Oper) (tr:List (List Nat×List Nat)) (s:St) (K K':St→Prop),(∀ s,K s→K' s)→dN P n ops K l tr s→dN P n ops K' l tr s
 |[],tr,s,K,K',h,hv=>⟨hv.1,h s hv.2⟩
 |o::l,tr,s,K,K',h,hv=>by
  refine⟨hv.1,?_⟩
  have h2:=hv.2
  split at h2
  ·exact nF (fun r hr=>⟨hr.1,nG l _ _ K K' h hr.2⟩) h2
  ·split at h2
   ·refine⟨h2.1,?_⟩
    have h3:=h2.2
    unfold gP at h3 ⊢
    split at h3
    ·exact⟨fun e=>nF (fun r hr=>⟨hr.1,nG l _ _ K K' h hr.2⟩) (h3.1 e),fun e=>nG l _ _ K K' h (h3.2 e)⟩
    ·exact nG l _ _ K K' h h3
    ·exact h3
   ·exact h2
theorem eL {m:Nat}:∀ (c:Code) (Q Q':Exit→St→Prop) (s:St),(∀ e s,Q e s→Q' e s)→vc P m n c Q s→vc P m n c Q' s
 | .skip,Q,Q',s,h,hv=>h _ _ hv
 | .label _,Q,Q',s,h,hv=>h _ _ hv
 | .region id ops true,Q,Q',s,h,hv=>nG _ _ _ _ _ (fun s hs=>h _ _ hs) hv
 | .region id ops false,Q,Q',s,h,hv=>nP _ _ _ _ (fun s hs=>h _ _ hs) hv
 | .seq x y,Q,Q',s,h,hv=>eL x _ _ s (fun e s he=>by
   cases e
   case normal=>exact eL y Q Q' s h he
   all_goals exact h _ _ he) hv
 | .cond c x y,Q,Q',s,h,hv=>by
  simp only[vc,oF] at hv ⊢
  split at hv
  ·exact⟨fun hb=>eL x Q Q' s h (hv.1 hb),fun hb=>eL y Q Q' s h (hv.2 hb)⟩
  ·exact hv
 | .block id c,Q,Q',s,h,hv=>eL c _ _ s (fun e s he=>by
   cases e
   case exit i=>
    simp only[iS] at he ⊢
    split at he
    ·rename_i e;rw[if_pos e];exact h _ _ he
    ·rename_i e;rw[if_neg e];exact h _ _ he
   all_goals exact h _ _ he) hv
 | .loop c,Q,Q',s,h,hv=>by
  obtain⟨I,h0,hr⟩:=hv
  refine⟨I,h0,fun k s hi hm=>eL c _ _ s (fun e s he=>?_) (hr k s hi hm)⟩
  cases e
  case normal=>exact he
  all_goals exact h _ _ he
 | .exit id,Q,Q',s,h,hv=>h _ _ hv
 | .ret,Q,Q',s,h,hv=>h _ _ hv
 | .scope _,_,_,_,_,hv=>hv
 | .goto _,_,_,_,_,hv=>hv
 | .rangeFunc _ _ _ _,_,_,_,_,hv=>hv
 | .refuse _,_,_,_,_,hv=>hv
end
end
section
mutual
def V.low (n:Nat):V→Prop
 | .ptr b _=>b<n
 | .slice b _ _ _=>b<n
 | .map b=>b<n
 | .fn _ fs cs=>aa n fs∧aa n cs
 | .agg cs=>aa n cs
 | .tup cs=>aa n cs
 | .iface _ v=>v.low n
 | .aFn _ _ v=>v.low n
 |_=>True
def aa (n:Nat):List V→Prop
 |[]=>True
 |v::l=>v.low n∧aa n l
end
mutual
def V.ren (σ:Nat→Nat):V→V
 | .ptr b o=> .ptr (σ b) o
 | .slice b o len esz=> .slice (σ b) o len esz
 | .map b=> .map (σ b)
 | .fn f fs cs=> .fn f (rens σ fs) (rens σ cs)
 | .agg cs=> .agg (rens σ cs)
 | .tup cs=> .tup (rens σ cs)
 | .iface t v=> .iface t (v.ren σ)
 | .aFn nm t v=> .aFn nm t (v.ren σ)
 |v=>v
def rens (σ:Nat→Nat):List V→List V
 |[]=>[]
 |v::l=>v.ren σ::rens σ l
end
theorem cX (σ:Nat→Nat):∀ l,rens σ l=l.map (V.ren σ)
 |[]=>rfl
 |v::l=>by unfold rens;rw[cX σ l];rfl
section
variable {ρ ρ':Nat→Nat×Nat}{dom dom':Nat→Prop}{P:Program}{w w':World}{n:Nat}{a:Act}
mutual
theorem VR.unren {σ:Nat→Nat}:∀ {v:V} {r:Value},VR ρ dom w (v.ren σ) r→v.low n→VR (fun b=>ρ (σ b)) (· <n) w v r
 | .junk,_,_,_=>by unfold VR;trivial
 | .bool _,_,h,_=>by unfold V.ren at h;unfold VR at*;exact h
 | .u8 _,_,h,_=>by unfold V.ren at h;unfold VR at*;exact h
 | .u32 _,_,h,_=>by unfold V.ren at h;unfold VR at*;exact h
 | .u64 _,_,h,_=>by unfold V.ren at h;unfold VR at*;exact h
 | .i64 _,_,h,_=>by unfold V.ren at h;unfold VR at*;exact h
 | .i32 _,_,h,_=>by unfold V.ren at h;unfold VR at*;exact h
 | .str _,_,h,_=>by unfold V.ren at h;unfold VR at*;exact h
 | .ptr b _,_,h,hb=>by unfold V.ren at h;unfold V.low at hb;unfold VR at*;exact⟨hb,h.2⟩
 | .nilPtr,_,h,_=>by unfold V.ren at h;unfold VR at*;exact h
 | .slice b _ _ _,_,h,hb=>by unfold V.ren at h;unfold V.low at hb;unfold VR at*;exact⟨hb,h.2⟩
 | .nilSlice,_,h,_=>by unfold V.ren at h;unfold VR at*;exact h
 | .fn _ fs cs,_,h,hb=>by
  unfold V.ren at h;unfold V.low at hb;unfold VR at*
  obtain⟨f',c',h1,h2,h3⟩:=h
  exact⟨f',c',h1,VRs.unren h2 hb.1,VRs.unren h3 hb.2⟩
 | .nilFn,_,h,_=>by unfold V.ren at h;unfold VR at*;exact h
 | .aFn _ _ v,_,h,hb=>by
  unfold V.ren at h;unfold V.low at hb;unfold VR at*
  obtain⟨x,h1,h2⟩:=h
  exact⟨x,h1,VR.unren h2 hb⟩
 | .agg cs,_,h,hb=>by
  unfold V.ren at h;unfold V.low at hb;unfold VR at*
  obtain⟨r',h1,h2⟩:=h
  exact⟨r',h1,VRs.unren h2 hb⟩
 | .tup cs,_,h,hb=>by
  unfold V.ren at h;unfold V.low at hb;unfold VR at*
  obtain⟨r',h1,h2⟩:=h
  exact⟨r',h1,VRs.unren h2 hb⟩
 | .iface _ v,_,h,hb=>by
  unfold V.ren at h;unfold V.low at hb;unfold VR at*
  obtain⟨r',h1,h2⟩:=h
  exact⟨r',h1,VR.unren h2 hb⟩
 | .nilIface,_,h,_=>by unfold V.ren at h;unfold VR at*;exact h
 | .map b,_,h,hb=>by unfold V.ren at h;unfold V.low at hb;unfold VR at*;exact⟨hb,h.2⟩
theorem VRs.unren {σ:Nat→Nat}:∀ {vs:List V} {rs:List Value},VRs ρ dom w (rens σ vs) rs→aa n vs→VRs (fun b=>ρ (σ b)) (· <n) w vs rs
 |[],_,h,_=>by unfold rens at h;unfold VRs at*;exact h
 |v::vs,_,h,hb=>by
  unfold rens at h;unfold aa at hb;unfold VRs at*
  obtain⟨r,rs,h1,h2,h3⟩:=h
  exact⟨r,rs,h1,VR.unren h2 hb.1,VRs.unren h3 hb.2⟩
end
mutual
theorem VR.doren {σ:Nat→Nat}(hσ:∀ b,dom b→dom' (σ b))(hρ:∀ b,dom b→ρ' (σ b)=ρ b):∀ {v:V} {r:Value},VR ρ dom w v r→VR ρ' dom' w (v.ren σ) r
 | .junk,_,_=>by unfold V.ren VR;trivial
 | .bool _,_,h=>by unfold V.ren;unfold VR at*;exact h
 | .u8 _,_,h=>by unfold V.ren;unfold VR at*;exact h
 | .u32 _,_,h=>by unfold V.ren;unfold VR at*;exact h
 | .u64 _,_,h=>by unfold V.ren;unfold VR at*;exact h
 | .i64 _,_,h=>by unfold V.ren;unfold VR at*;exact h
 | .i32 _,_,h=>by unfold V.ren;unfold VR at*;exact h
 | .str _,_,h=>by unfold V.ren;unfold VR at*;exact h
 | .ptr b _,_,h=>by unfold V.ren;unfold VR at*;exact⟨hσ b h.1,by rw[hρ b h.1];exact h.2⟩
 | .nilPtr,_,h=>by unfold V.ren;unfold VR at*;exact h
 | .slice b _ _ _,_,h=>by unfold V.ren;unfold VR at*;exact⟨hσ b h.1,by rw[hρ b h.1];exact h.2⟩
 | .nilSlice,_,h=>by unfold V.ren;unfold VR at*;exact h
 | .fn _ fs cs,_,h=>by
  unfold V.ren;unfold VR at*
  obtain⟨f',c',h1,h2,h3⟩:=h
  exact⟨f',c',h1,VRs.doren hσ hρ h2,VRs.doren hσ hρ h3⟩
 | .nilFn,_,h=>by unfold V.ren;unfold VR at*;exact h
 | .aFn _ _ v,_,h=>by
  unfold V.ren;unfold VR at*
  obtain⟨x,h1,h2⟩:=h
  exact⟨x,h1,VR.doren hσ hρ h2⟩
 | .agg cs,_,h=>by
  unfold V.ren;unfold VR at*
  obtain⟨r',h1,h2⟩:=h
  exact⟨r',h1,VRs.doren hσ hρ h2⟩
 | .tup cs,_,h=>by
  unfold V.ren;unfold VR at*
  obtain⟨r',h1,h2⟩:=h
  exact⟨r',h1,VRs.doren hσ hρ h2⟩
 | .iface _ v,_,h=>by
  unfold V.ren;unfold VR at*
  obtain⟨r',h1,h2⟩:=h
  exact⟨r',h1,VR.doren hσ hρ h2⟩
 | .nilIface,_,h=>by unfold V.ren;unfold VR at*;exact h
 | .map b,_,h=>by unfold V.ren;unfold VR at*;exact⟨hσ b h.1,by rw[hρ b h.1];exact h.2⟩
theorem VRs.doren {σ:Nat→Nat}(hσ:∀ b,dom b→dom' (σ b))(hρ:∀ b,dom b→ρ' (σ b)=ρ b):∀ {vs:List V} {rs:List Value},VRs ρ dom w vs rs→VRs ρ' dom' w (rens σ vs) rs
 |[],_,h=>by unfold rens;unfold VRs at*;exact h
 |v::vs,_,h=>by
  unfold rens;unfold VRs at*
  obtain⟨r,rs,h1,h2,h3⟩:=h
  exact⟨r,rs,h1,VR.doren hσ hρ h2,VRs.doren hσ hρ h3⟩
end
mutual
theorem V.ren_id:∀ (v:V),v.ren id=v
 | .junk| .bool _| .u8 _| .u32 _| .u64 _| .i64 _| .i32 _| .str _| .nilPtr| .nilSlice| .nilFn| .nilIface=>by unfold V.ren;rfl
 | .aFn _ _ v=>by unfold V.ren;rw[V.ren_id v]
 | .ptr b _=>by unfold V.ren;rfl
 | .map b=>by unfold V.ren;rfl
 | .slice b _ _ _=>by unfold V.ren;rfl
 | .fn _ fs cs=>by unfold V.ren;rw[mR fs,mR cs]
 | .agg cs=>by unfold V.ren;rw[mR cs]
 | .tup cs=>by unfold V.ren;rw[mR cs]
 | .iface _ v=>by unfold V.ren;rw[V.ren_id v]
theorem mR:∀ (l:List V),rens id l=l
 |[]=>rfl
 |v::l=>by unfold rens;rw[V.ren_id v,mR l]
end
theorem VR.restrict {v:V}{r:Value}(h:VR ρ dom w v r)(hb:v.low n):VR ρ (· <n) w v r:=by
 have h':VR ρ dom w (v.ren id) r:=by rw[V.ren_id];exact h
 exact VR.unren h' hb
theorem VRs.restrict {v:List V}{r:List Value}(h:VRs ρ dom w v r)(hb:aa n v):VRs ρ (· <n) w v r:=by
 have h':VRs ρ dom w (rens id v) r:=by rw[mR];exact h
 exact VRs.unren h' hb
def cO (P:Program)(s:St):List ResultVar→(List V→Prop)→Prop
 |[],K=>K []
 | .tmp t::r,K=>cO P s r fun l=>K (s.get t::l)
 | .cell x t::r,K=>eH (bq P (.load t (.tmp x)) s.ev (ab s.H) s.H.length) (hold fun res=>cO P s r fun l=>K (res.v::l))
def eo:List V→V
 |[v]=>v
 |l=> .tup l
def fQ (P:Program)(fn:Func)(R:V→St→Prop):Exit→St→Prop
 | .normal,s=>cO P s fn.results.toList fun l=>R (eo l) s
 | .ret,s=>cO P s fn.results.toList fun l=>R (eo l) s
 |_,_=>False
def sI (tmps:Array Value):ResultVar→Sem Value
 | .tmp t=>pure (tmps.getD t undef)
 | .cell x t=>do loadVar t (←asAddr (tmps.getD x undef))
theorem Ht (fn:Func)(tmps:Array Value):results fn tmps=(do
  let vs ←fn.results.mapM (sI tmps)
  pure (if h:vs.size=1 then vs[0] else .tuple vs)):=by
 unfold results
 congr 1
theorem um {s:St}(hr:RelSt ρ n s a w):∀ (rs:List ResultVar) (K:List V→Prop),cO P s rs K→∃ l vs,K l∧VRs ρ (· <s.H.length) w l vs∧
  (rs.mapM (sI a.tmps)).run P w= .ok vs w
 |[],K,h=>⟨[],[],h,VRs.nil,by simp⟩
 | .tmp t::rs,K,h=>by
  obtain⟨l,vs,h1,h2,h3⟩:=um hr rs _ h
  exact⟨_,_,h1,VRs.cons (hr.tmps.slot t) h2,by simp only[List.mapM_cons,sI,Sem.run_bind,Sem.run_pure,Result.andThen_ok,h3]⟩
 | .cell x t::rs,K,h=>by
  unfold cO eH at h
  split at h
  case h_2=>exact h.elim
  rename_i res hres
  obtain⟨hp,h⟩:=h
  obtain⟨l,vs,h1,h2,h3⟩:=um hr rs _ h
  have hx:=hr.tmps.slot x
  simp only[bq] at hres
  split at hres
  case h_2=>cases hres
  rename_i b p hb
  have hb':s.get x= .ptr b p:=hb
  rw[hb'] at hx
  have key:∃ r,(Instr.loadAt t (a.tmps.getD x undef)).run P w= .ok r w∧VR ρ (· <s.H.length) w res.v r:=by
   split at hres
   ·rename_i B k hB ht hs
    injection hres with hres;subst hres
    have :=rq hr.mem hx hB ht hs
    simp only[if_true] at this
    exact this hp
   ·rename_i B k hB ht hs
    injection hres with hres;subst hres
    have :=rq hr.mem hx hB ht hs
    simp only[Bool.false_eq_true,if_false] at this
    exact this hp
   ·cases hres
  obtain⟨r,g1,g2⟩:=key
  unfold VR at hx
  obtain⟨_,e⟩:=hx
  rw[e] at g1
  simp only[Instr.loadAt,Instr.sureAddr,Sem.run_bind,Sem.run_pure,Result.andThen_ok] at g1
  have e2:(asAddr (a.tmps.getD x undef)).run P w= .ok ⟨(ρ b).1,(ρ b).2+p,none⟩ w:=by rw[e];rfl
  exact⟨_,_,h1,VRs.cons g2 h2,by simp only[List.mapM_cons,sI,e2,Sem.run_bind,Sem.run_pure,Result.andThen_ok,g1,h3]⟩
theorem xX {s:St}{fn:Func}{R:V→St→Prop}(hr:RelSt ρ n s a w)(h:cO P s fn.results.toList fun l=>R (eo l) s):∃ v r,R v s∧VR ρ (· <s.H.length) w v r∧(results fn a.tmps).run P w= .ok r w:=by
 obtain⟨l,vs,h1,h2,h3⟩:=um (P:=P) hr _ _ h
 have h4:(results fn a.tmps).run P w= .ok (if h:vs.toArray.size=1 then vs.toArray[0] else .tuple vs.toArray) w:=by
  rw[Ht,Array.mapM_eq_mapM_toList]
  simp only[Sem.run_bind,Sem.run_map,Sem.run_pure]
  rw[h3]
  rfl
 match l,vs,h1,h2,h4 with
 |[],vs,h1,h2,h4=>
  have :=h2.length
  obtain rfl:vs=[]:=List.length_eq_zero_iff.1 (by simpa using this)
  exact⟨_,_,h1,by show VR _ _ _ (.tup []) _;unfold VR;exact⟨_,rfl,VRs.nil⟩,h4⟩
 |[v],vs,h1,h2,h4=>
  unfold VRs at h2
  obtain⟨r,rs,rfl,g1,g2⟩:=h2
  unfold VRs at g2
  subst g2
  exact⟨_,_,h1,g1,h4⟩
 |v::v'::l,vs,h1,h2,h4=>
  have hl:=h2.length
  rw[dif_neg (by simp at hl ⊢;omega)] at h4
  exact⟨_,_,h1,by show VR _ _ _ (.tup _) _;unfold VR;exact⟨_,rfl,h2⟩,h4⟩
def fg:List V→Nat→List (Nat×V)
 |[],_=>[]
 |v::l,i=>(i,v)::fg l (i+1)
theorem vq:∀ (l:List V) (i t:Nat),af (fg l i) t=if i≤t∧t<i+l.length then l.getD (t-i) .junk else .junk
 |[],i,t=>by simp[fg,af]
 |v::l,i,t=>by
  simp only[fg,af,vq l (i+1) t,List.length_cons]
  by_cases e:i=t
  ·subst e;simp
  ·rw[if_neg e]
   by_cases h:i+1≤t∧t<i+1+l.length
   ·rw[if_pos h,if_pos (by omega),show t-i=(t-(i+1))+1 by omega];simp
   ·rw[if_neg h,if_neg (by omega)]
def ag (P:Program)(f:FuncId)(args:List V)(h:List (Option Blk))(v:V)(h':List (Option Blk)):Prop:=
 ∀ (ρ:Nat→Nat×Nat) (w:World) (rargs:Array Value),VRs ρ (· <h.length) w args rargs.toList→MemRel ρ (· <h.length) (ab h) w→
  Calls P f rargs w fun e w'=>∃ r ρ',e= .returned r∧VR ρ' (· <h'.length) w' v r∧MemRel ρ' (· <h'.length) (ab h') w'∧h.length≤h'.length∧(∀ b,b<h.length→ρ' b=ρ b)∧Frame ρ (ab h) w ρ' (ab h') w'
def Fin (m:Nat)(v':V)(h':List (Option Blk))(v:V)(s:St):Prop:=m≤h'.length∧
 ∀ (ρ:Nat→Nat×Nat) (w:World) (r:Value),VR ρ (· <s.H.length) w v r→MemRel ρ (· <s.H.length) (ab s.H) w→m≤s.H.length→∃ ρ',VR ρ' (· <h'.length) w v' r∧MemRel ρ' (· <h'.length) (ab h') w∧(∀ b,b<m→ρ' b=ρ b)∧
  (∀ b B,ab h' b=some B→B.ro=false→∃ b0 B0,ab s.H b0=some B0∧B0.ro=false∧(ρ b0).1=(ρ' b).1)
theorem Fin.pure {v:V}{s:St}(hv:v.low 0):Fin 0 v [] v s:=⟨Nat.le_refl _,fun ρ w r h1 h2 _=>⟨ρ,h1.restrict hv,⟨fun b B h=>by simp[ab] at h,fun b B h=>by simp[ab] at h,fun b b' B B' h=>by simp[ab] at h,fun b B h=>by simp[ab] at h,fun b B h=>by simp[ab] at h,fun b B m h=>by simp[ab] at h⟩,fun _ h=>by omega,fun b B h=>by simp[ab] at h⟩⟩
theorem Fin.same {m:Nat}{v:V}{s:St}{h':List (Option Blk)}(hm:m≤h'.length)(hl:h'.length≤s.H.length)(hv:v.low h'.length)(hH:∀ b B,ab h' b=some B→ab s.H b=some B∧aa h'.length B.cs):Fin m v h' v s:=
 ⟨hm,fun ρ w r h1 h2 _=>⟨ρ,h1.restrict hv,⟨fun b B h=>by
   unfold ab at h
   exact Nat.lt_of_not_le (fun hb=>by rw[List.getElem?_eq_none hb] at h;simp at h),
  fun b B h=>h2.lt b B (hH b B h).1,fun b b' B B' h h' hr hne=>h2.inj b b' B B' (hH b B h).1 (hH b' B' h').1 hr hne,
  fun b B h i v hv=>by
   obtain⟨r,g1,g2⟩:=h2.cell b B (hH b B h).1 i v hv
   have hb:=(hH b B h).2
   refine⟨r,g1,g2.restrict ?_⟩
   have :∀ (l:List V) (i:Nat),aa h'.length l→l[i]?=some v→v.low h'.length:=by
    intro l
    induction l with
    |nil=>intro i _ h;simp at h
    |cons x l ih=>
     intro i hb h
     unfold aa at hb
     cases i with
     |zero=>simp at h;subst h;exact hb.1
     |succ i=>exact ih i hb.2 (by simpa using h)
   exact this B.cs i hb hv,
  fun b B h hr i hi=>h2.free b B (hH b B h).1 hr i hi,fun b B m h hmp=>h2.mapc b B m (hH b B h).1 hmp⟩,fun _ _=>rfl,fun b B h hr=>⟨b,B,(hH b B h).1,hr,rfl⟩⟩⟩
theorem ap (hmix:P.follows .mixedOrders=true){f:FuncId}{fn:Func}{c:Code}{args:List V}{h h':List (Option Blk)}{v:V}(hf:P.funcs[f]?=some fn)(hb:fn.body=some c)(hn:args.length≤fn.ntmps)
  (hv:vc P h.length fn.ntmps c (fQ P fn (Fin h.length v h')) ⟨fg args 0,h⟩):ag P f args h v h':=by
 intro ρ w rargs ha hm
 have hal:=ha.length
 refine calls_of_wp hf hb (wp_mono (jK hmix c _ _ hv ρ _ w ⟨⟨?_,rfl,fun t=>?_⟩,hm⟩ (Nat.le_refl _)) ?_)
 ·have :rargs.size=args.length:=by simpa using hal
  simp;omega
 ·show VR _ _ _ (af (fg args 0) t) _
  rw[vq]
  split
  ·rename_i ht
   obtain⟨r,g1,g2⟩:=ha.get (i:=t) (v:=args.getD t .junk) (by rw[List.getD_eq_getElem?_getD,List.getElem?_eq_getElem (by omega)];rfl)
   have hlt:t<rargs.size:=by simpa using(List.getElem?_eq_some_iff.1 g1).1
   simp only[Nat.sub_zero]
   have :(rargs++Array.replicate (fn.ntmps-rargs.size) undef).getD t undef=r:=by
    rw[Array.getD_eq_getD_getElem?,Array.getElem?_append_left hlt]
    have :rargs[t]?=some r:=by rw[←g1];simp
    rw[this];rfl
   rw[this];exact g2
  ·unfold VR;trivial
 ·rintro e a' w' ⟨s',ρ',q1,q2,q3⟩
  have fin:(cO P s' fn.results.toList fun l=>Fin h.length v h' (eo l) s')→∃ r,(results fn a'.tmps).run P w'= .ok r w'∧(∃ r' ρ',Ending.returned r= .returned r'∧VR ρ' (· <h'.length) w' v r'∧MemRel ρ' (· <h'.length) (ab h') w'∧h.length≤h'.length∧(∀ b,b<h.length→ρ' b=ρ b)∧Frame ρ (ab h) w ρ' (ab h') w'):=fun q=>by
   obtain⟨v1,r,g1,g2,g3⟩:=xX q2 q
   obtain⟨ρ2,k1,k2,k3,k4⟩:=g1.2 ρ' w' r g2 q2.mem q3.1
   exact⟨r,g3,r,ρ2,rfl,k1,k2,g1.1,fun b hb=>(k3 b hb).trans (q3.2.1 b hb),q3.2.2.less k4⟩
  cases e
  case normal=>exact⟨q2.tmps.defers,fin q1⟩
  case ret=>exact⟨q2.tmps.defers,fin q1⟩
  all_goals exact q1.elim
def ao (P:Program)(f:FuncId)(args:List V)(v:V):Prop:=cW P f=true∧∀ get0 nid,Spec P f args get0 nid {v:=v}
theorem qH {f:FuncId}{args:List V}{v:V}(hc:cW P f=true)(ha:aa 0 args)(h:ag P f args [] v []):ao P f args v:=⟨hc,fun get0 nid ρ dom get w rargs hm hr _ _=>by
 have he:MemRel ρ (· <([]:List (Option Blk)).length) (ab []) w:=⟨fun b B h=>by simp[ab] at h,fun b B h=>by simp[ab] at h,fun b b' B B' h=>by simp[ab] at h,fun b B h=>by simp[ab] at h,fun b B h=>by simp[ab] at h,fun b B m h=>by simp[ab] at h⟩
 refine(h ρ w rargs (hr.restrict ha) he).mono ?_
 rintro e w' ⟨r,ρ',rfl,h1,_,_,_,h5⟩
 have hk:∀ r,r<w.heap.size→w'.heap[r]?=w.heap[r]?:=fun r hr=>h5.keep r hr (fun b B h=>by simp[ab] at h)
 have hcell:∀ b o,b<w.heap.size→w'.cell? ⟨b,o,none⟩=w.cell? ⟨b,o,none⟩:=fun b o hb=>World.cell?_of_block (hk b hb)
 have hfroz:∀ b o,b<w.heap.size→w'.frozen? ⟨b,o,none⟩=w.frozen? ⟨b,o,none⟩:=fun b o hb=>World.frozen?_of_block (hk b hb)
 refine⟨r,ρ,rfl,fun _ _=>rfl,?_,?_,?_⟩
 ·rw[lF]
  exact⟨fun b B hB=> .inl (hm.has b B hB),fun b B hB=>Nat.lt_of_lt_of_le (hm.lt b B hB) h5.size,hm.inj,fun b B hB i v hv=>by
   obtain⟨r,g1,g2⟩:=hm.cell b B hB i v hv
   exact⟨r,by rw[hcell _ _ (hm.lt b B hB)];exact g1,g2.mono (fun _ _=>rfl) (fun _ h=> .inl h) h5.lasts⟩,
   fun b B hB hr i hi=>by rw[hfroz _ _ (hm.lt b B hB)];exact hm.free b B hB hr i hi,fun b B m hB hmp=>iK (hm.mapc b B m hB hmp) (hk _ (hm.lt b B hB))⟩
 ·exact h1.mono (fun b (hb:b<0)=>by omega) (fun b (hb:b<0)=>by omega) (Lasts.refl _)
 ·rw[lF]
  exact⟨h5.os,h5.output,h5.tape,h5.size,fun r hr _=>hk r hr,h5.lasts,fun b B hB hr=> .inl ⟨b,B,hB,hr,rfl⟩⟩⟩
theorem aB (hmix:P.follows .mixedOrders=true){f:FuncId}{fn:Func}{c:Code}{args:List V}{v:V}(hc:cW P f=true)(hf:P.funcs[f]?=some fn)(hb:fn.body=some c)(hn:args.length≤fn.ntmps)(ha:aa 0 args)(hvb:v.low 0)
  (hv:vc P 0 fn.ntmps c (fQ P fn fun v' _=>v'=v) ⟨fg args 0,[]⟩):ao P f args v:=by
 refine qH hc ha (ap hmix hf hb hn ?_)
 refine eL c _ _ _ (fun e s h=>?_) hv
 have hmono:∀ (rs:List ResultVar) (K K':List V→Prop),(∀ l,K l→K' l)→cO P s rs K→cO P s rs K':=by
  intro rs
  induction rs with
  |nil=>intro K K' h h1;exact h _ h1
  |cons x rs ih=>
   intro K K' h h1
   cases x with
   |tmp t=>exact ih _ _ (fun l hl=>h _ hl) h1
   |cell x t=>
    exact uV (fun r hr=>ih _ _ (fun l hl=>h _ hl) hr) h1
 cases e
 case normal=>exact hmono _ _ _ (fun l (hl:eo l=v)=>hl▸Fin.pure (hl▸hvb)) h
 case ret=>exact hmono _ _ _ (fun l (hl:eo l=v)=>hl▸Fin.pure (hl▸hvb)) h
 all_goals exact h
end
end
section
variable {P:Program}{m n:Nat}{ops:Array Oper}
theorem yC {o:Op}{s:St}{K:Res→Prop}(h:c7 P o s K):∃ res,K res∧c7 P o s (fun r=>r=res):=by
 have fin:∀ {r:Option Res},eH r K→∃ res,K res∧eH r (fun x=>x=res):=fun {r} h=>by
  cases r with
  |none=>exact h.elim
  |some x=>exact⟨x,h.2,h.1,rfl⟩
 have call:∀ {f:V} {args:List V} {H:List (Option Blk)},vcall P f args H K→∃ res,K res∧vcall P f args H (fun x=>x=res):=fun h=>by
  obtain⟨res,h1,h2⟩:=h
  exact⟨res,h2,res,h1,rfl⟩
 unfold c7 at h ⊢
 split at h
 ·split at h
  ·exact call h
  ·exact fin h
  ·unfold mQ at h ⊢
   split at h
   ·split at h
    ·exact call h
    ·exact h.elim
   ·exact h.elim
 ·rename_i hne
  obtain⟨res,h1,h2⟩:=fin h
  refine⟨res,h1,?_⟩
  exact h2
theorem z8 (s:St)(dst:Option Tmp)(res:Res):s.H.length≤(s.after dst res).H.length:=by
 unfold St.after
 rw[List.length_append,d9]
 exact Nat.le_add_right _ _
theorem uW:∀ (l:List Oper) (s:St) (K:St→Prop),bX P n ops l s K→∃ s',s.H.length≤s'.H.length∧K s'∧bX P n ops l s (fun s2=>s2=s')
 |[],s,K,h=>⟨s,Nat.le_refl _,h,rfl⟩
 |o::l,s,K,h=>by
  obtain⟨h1,h2⟩:=h
  have run:c7 P o.op s (hold fun res=>bX P n ops l (s.after o.dst res) K)→∃ s',s.H.length≤s'.H.length∧K s'∧c7 P o.op s (hold fun res=>bX P n ops l (s.after o.dst res) (fun s2=>s2=s')):=fun hv=>by
   obtain⟨res,g1,g2⟩:=yC hv
   obtain⟨s',e1,e2,e3⟩:=uW l _ K g1
   exact⟨s',Nat.le_trans (z8 _ _ _) e1,e2,nF (fun r hr=>by subst hr;exact e3) g2⟩
  cases hg:o.guard with
  |none=>
   rw[hg] at h2
   obtain⟨s',e1,e2,e3⟩:=run h2
   exact⟨s',e1,e2,h1,by rw[hg];exact e3⟩
  |some jw=>
   obtain⟨j,want⟩:=jw
   rw[hg] at h2
   simp only at h2
   cases hs:gd ops j with
   |none=>rw[hs] at h2;exact h2.elim
   |some d=>
    rw[hs] at h2
    obtain⟨hd,h3⟩:=h2
    have skip:bX P n ops l (s.put o.dst (.tup [])) K→∃ s',s.H.length≤s'.H.length∧K s'∧bX P n ops l (s.put o.dst (.tup [])) (fun s2=>s2=s'):=fun hv=>uW l _ K hv
    have key:∃ s',s.H.length≤s'.H.length∧K s'∧gP (s.get d) want (c7 P o.op s (hold fun res=>bX P n ops l (s.after o.dst res) (fun s2=>s2=s'))) (bX P n ops l (s.put o.dst (.tup [])) (fun s2=>s2=s')):=by
     unfold gP at h3 ⊢
     split at h3
     ·rename_i b hb
      by_cases hbw:b=want
      ·obtain⟨s',e1,e2,e3⟩:=run (h3.1 hbw)
       exact⟨s',e1,e2,fun _=>e3,fun k=>absurd hbw k⟩
      ·obtain⟨s',e1,e2,e3⟩:=skip (h3.2 hbw)
       exact⟨s',e1,e2,fun k=>absurd k hbw,fun _=>e3⟩
     ·obtain⟨s',e1,e2,e3⟩:=skip h3
      exact⟨s',e1,e2,e3⟩
     ·exact h3.elim
    obtain⟨s',e1,e2,e3⟩:=key
    exact⟨s',e1,e2,h1,by rw[hg];simp only;rw[hs];exact⟨hd,e3⟩⟩
theorem uE:∀ (l:List Oper) (tr:List (List Nat×List Nat)) (s:St) (K:St→Prop),dN P n ops K l tr s→∃ s',s.H.length≤s'.H.length∧K s'∧dN P n ops (fun s2=>s2=s') l tr s
 |[],tr,s,K,h=>⟨s,Nat.le_refl _,h.2,h.1,rfl⟩
 |o::l,tr,s,K,h=>by
  obtain⟨h1,h2⟩:=h
  have run:c7 P o.op s (hold fun res=>(∀ x∈res.old,x.1<s.H.length)∧dN P n ops K l (tr++[bc s res]) (s.after o.dst res))→
    ∃ s',s.H.length≤s'.H.length∧K s'∧c7 P o.op s (hold fun res=>(∀ x∈res.old,x.1<s.H.length)∧dN P n ops (fun s2=>s2=s') l (tr++[bc s res]) (s.after o.dst res)):=fun hv=>by
   obtain⟨res,g1,g2⟩:=yC hv
   obtain⟨s',e1,e2,e3⟩:=uE l _ _ K g1.2
   exact⟨s',Nat.le_trans (z8 _ _ _) e1,e2,nF (fun r hr=>by subst hr;exact⟨g1.1,e3⟩) g2⟩
  cases hg:o.guard with
  |none=>
   rw[hg] at h2
   obtain⟨s',e1,e2,e3⟩:=run h2
   exact⟨s',e1,e2,h1,by rw[hg];exact e3⟩
  |some jw=>
   obtain⟨j,want⟩:=jw
   rw[hg] at h2
   simp only at h2
   cases hs:gd ops j with
   |none=>rw[hs] at h2;exact h2.elim
   |some d=>
    rw[hs] at h2
    obtain⟨hd,h3⟩:=h2
    have skip:dN P n ops K l (tr++[([],[])]) (s.put o.dst (.tup []))→∃ s',s.H.length≤s'.H.length∧K s'∧dN P n ops (fun s2=>s2=s') l (tr++[([],[])]) (s.put o.dst (.tup [])):=fun hv=>uE l _ _ K hv
    have key:∃ s',s.H.length≤s'.H.length∧K s'∧gP (s.get d) want (c7 P o.op s (hold fun res=>(∀ x∈res.old,x.1<s.H.length)∧dN P n ops (fun s2=>s2=s') l (tr++[bc s res]) (s.after o.dst res))) (dN P n ops (fun s2=>s2=s') l (tr++[([],[])]) (s.put o.dst (.tup []))):=by
     unfold gP at h3 ⊢
     split at h3
     ·rename_i b hb
      by_cases hbw:b=want
      ·obtain⟨s',e1,e2,e3⟩:=run (h3.1 hbw)
       exact⟨s',e1,e2,fun _=>e3,fun k=>absurd hbw k⟩
      ·obtain⟨s',e1,e2,e3⟩:=skip (h3.2 hbw)
       exact⟨s',e1,e2,fun k=>absurd k hbw,fun _=>e3⟩
     ·obtain⟨s',e1,e2,e3⟩:=skip h3
      exact⟨s',e1,e2,e3⟩
     ·exact h3.elim
    obtain⟨s',e1,e2,e3⟩:=key
    exact⟨s',e1,e2,h1,by rw[hg];simp only;rw[hs];exact⟨hd,e3⟩⟩
theorem lu {m:Nat}:∀ (c:Code) (Q:Exit→St→Prop) (s:St),m≤s.H.length→vc P m n c Q s→∃ e s',m≤s'.H.length∧Q e s'∧vc P m n c (fun e2 s2=>e2=e∧s2=s') s
 | .skip,Q,s,hm,h=>⟨_,s,hm,h,rfl,rfl⟩
 | .label _,Q,s,hm,h=>⟨_,s,hm,h,rfl,rfl⟩
 | .region id l true,Q,s,hm,h=>by
  obtain⟨s',e1,e2,e3⟩:=uE _ _ _ _ h
  exact⟨.normal,s',Nat.le_trans hm e1,e2,nG _ _ _ _ _ (fun s hs=>⟨rfl,hs⟩) e3⟩
 | .region id l false,Q,s,hm,h=>by
  obtain⟨s',e1,e2,e3⟩:=uW _ _ _ h
  exact⟨.normal,s',Nat.le_trans hm e1,e2,nP _ _ _ _ (fun s hs=>⟨rfl,hs⟩) e3⟩
 | .seq x y,Q,s,hm,h=>by
  obtain⟨e,s1,h1,h2,h3⟩:=lu x _ s hm h
  by_cases he:e= .normal
  ·subst he
   obtain⟨e',s',g1,g2,g3⟩:=lu y Q s1 h1 h2
   refine⟨e',s',g1,g2,eL x _ _ s (fun e2 s2 hs=>?_) h3⟩
   obtain⟨rfl,rfl⟩:=hs
   exact g3
  ·refine⟨e,s1,h1,?_,eL x _ _ s (fun e2 s2 hs=>?_) h3⟩
   ·cases e
    case normal=>exact absurd rfl he
    all_goals exact h2
   ·obtain⟨rfl,rfl⟩:=hs
    cases e2
    case normal=>exact absurd rfl he
    all_goals exact⟨rfl,rfl⟩
 | .cond c x y,Q,s,hm,h=>by
  simp only[vc,oF] at h ⊢
  split at h
  ·rename_i b hb
   cases b with
   |true=>
    obtain⟨e,s',g1,g2,g3⟩:=lu x Q s hm (h.1 rfl)
    exact⟨e,s',g1,g2,fun _=>g3,fun k=>by cases k⟩
   |false=>
    obtain⟨e,s',g1,g2,g3⟩:=lu y Q s hm (h.2 rfl)
    exact⟨e,s',g1,g2,fun k=>(by cases k),fun _=>g3⟩
  ·exact h.elim
 | .block id c,Q,s,hm,h=>by
  obtain⟨e,s',h1,h2,h3⟩:=lu c _ s hm h
  by_cases he:e= .exit id
  ·subst he
   simp only[iS,if_true] at h2
   refine⟨.normal,s',h1,h2,eL c _ _ s (fun e2 s2 hs=>?_) h3⟩
   obtain⟨rfl,rfl⟩:=hs
   simp[iS]
  ·refine⟨e,s',h1,?_,eL c _ _ s (fun e2 s2 hs=>?_) h3⟩
   ·cases e
    case exit i=>
     have :¬ i=id:=fun k=>he (by rw[k])
     simp only[iS,if_neg this] at h2
     exact h2
    all_goals exact h2
   ·obtain⟨rfl,rfl⟩:=hs
    cases e2
    case exit i=>
     have :¬ i=id:=fun k=>he (by rw[k])
     simp[iS,this]
    all_goals exact⟨rfl,rfl⟩
 | .loop c,Q,s,hm,h=>by
  obtain⟨I,⟨k0,s0,hw0,hi0⟩,hr⟩:=h
  have key:∀ (k:Nat) (s0:St),I k s0→m≤s0.H.length→∃ e s',m≤s'.H.length∧Q e s'∧Dx m n (vc P m n c) (fun e2 s2=>e2=e∧s2=s') s0:=by
   intro k
   induction k using Nat.strongRecOn with
   |_ k ih=>
    intro s0 hi hm0
    obtain⟨e,s1,h1,h2,h3⟩:=lu c _ s0 hm0 (hr k s0 hi hm0)
    by_cases he:e= .normal
    ·subst he
     obtain⟨k',s2,hlt,hw,hi2⟩:=h2
     obtain⟨e',s',g1,g2,I2,⟨k2,s3,hw2,hi3⟩,hr2⟩:=ih k' hlt s2 hi2 (hw.len h1)
     refine⟨e',s',g1,g2,fun j t=>I2 j t∨(j=k2+1∧t=s0),⟨k2+1,s0,Weak.refl _ _ _,.inr ⟨rfl,rfl⟩⟩,fun j t hj hmt=>?_⟩
     rcases hj with hj|⟨rfl,rfl⟩
     ·refine eL c _ _ t (fun e2 t2 ht=>?_) (hr2 j t hj hmt)
      cases e2
      case normal=>
       obtain⟨j',t3,a1,a2,a3⟩:=ht
       exact⟨j',t3,a1,a2,.inl a3⟩
      all_goals exact ht
     ·refine eL c _ _ _ (fun e2 t2 ht=>?_) h3
      obtain⟨rfl,rfl⟩:=ht
      exact⟨k2,s3,Nat.lt_succ_self _,hw.trans hw2,.inl hi3⟩
    ·refine⟨e,s1,h1,?_,fun j t=>t=s0,⟨0,s0,Weak.refl _ _ _,rfl⟩,fun j t hj hmt=>?_⟩
     ·cases e
      case normal=>exact absurd rfl he
      all_goals exact h2
     ·subst hj
      refine eL c _ _ _ (fun e2 t2 ht=>?_) h3
      obtain⟨rfl,rfl⟩:=ht
      cases e2
      case normal=>exact absurd rfl he
      all_goals exact⟨rfl,rfl⟩
  obtain⟨e,s',g1,g2,I2,⟨k2,s3,hw2,hi3⟩,hr2⟩:=key k0 s0 hi0 (hw0.len hm)
  exact⟨e,s',g1,g2,I2,⟨k2,s3,hw0.trans hw2,hi3⟩,hr2⟩
 | .exit id,Q,s,hm,h=>⟨_,s,hm,h,rfl,rfl⟩
 | .ret,Q,s,hm,h=>⟨_,s,hm,h,rfl,rfl⟩
 | .scope _,_,_,_,h=>h.elim
 | .goto _,_,_,_,h=>h.elim
 | .rangeFunc _ _ _ _,_,_,_,h=>h.elim
 | .refuse _,_,_,_,h=>h.elim
end
section
variable {P:Program}{m n:Nat}
theorem mi {s:St}:∀ (rs:List ResultVar) (K K':List V→Prop),(∀ l,K l→K' l)→cO P s rs K→cO P s rs K'
 |[],K,K',h,h1=>h _ h1
 | .tmp t::rs,K,K',h,h1=>mi rs _ _ (fun l hl=>h _ hl) h1
 | .cell x t::rs,K,K',h,h1=>by
  unfold cO eH at h1 ⊢
  split at h1
  ·exact⟨h1.1,mi rs _ _ (fun l hl=>h _ hl) h1.2⟩
  ·exact h1.elim
theorem ud {s:St}:∀ (rs:List ResultVar) (K:List V→Prop),cO P s rs K→∃ l,K l∧cO P s rs (fun l2=>l2=l)
 |[],K,h=>⟨[],h,rfl⟩
 | .tmp t::rs,K,h=>by
  obtain⟨l,h1,h2⟩:=ud rs _ h
  exact⟨_,h1,mi rs _ _ (fun l2 e=>by rw[e]) h2⟩
 | .cell x t::rs,K,h=>by
  unfold cO eH at h
  split at h
  ·rename_i res hres
   obtain⟨l,h1,h2⟩:=ud rs _ h.2
   refine⟨_,h1,?_⟩
   unfold cO eH
   rw[hres]
   exact⟨h.1,mi rs _ _ (fun l2 e=>by rw[e]) h2⟩
  ·exact h.elim
theorem Hu {fn:Func}{R:V→St→Prop}{e:Exit}{s:St}(h:fQ P fn R e s):∃ v,R v s∧fQ P fn (fun v2 s2=>v2=v∧s2=s) e s:=by
 have key:cO P s fn.results.toList (fun l=>R (eo l) s)→∃ v,R v s∧cO P s fn.results.toList (fun l=>eo l=v∧s=s):=fun h=>by
  obtain⟨l,h1,h2⟩:=ud _ _ h
  exact⟨_,h1,mi _ _ _ (fun l2 e=>⟨by rw[e],rfl⟩) h2⟩
 cases e
 case normal=>exact key h
 case ret=>exact key h
 all_goals exact h.elim
theorem wS {fn:Func}{c:Code}{R:V→St→Prop}{s:St}(hm:m≤s.H.length)(h:vc P m n c (fQ P fn R) s):∃ v s',m≤s'.H.length∧R v s'∧vc P m n c (fQ P fn (fun v2 s2=>v2=v∧s2=s')) s:=by
 obtain⟨e,s',h1,h2,h3⟩:=lu c _ s hm h
 obtain⟨v,g1,g2⟩:=Hu h2
 refine⟨v,s',h1,g1,eL c _ _ s (fun e2 s2 hs=>?_) h3⟩
 obtain⟨rfl,rfl⟩:=hs
 exact g2
theorem vr {fn:Func}{R R':V→St→Prop}(h:∀ v s,R v s→R' v s){e:Exit}{s:St}(hr:fQ P fn R e s):fQ P fn R' e s:=by
 cases e
 case normal=>exact mi _ _ _ (fun l hl=>h _ _ hl) hr
 case ret=>exact mi _ _ _ (fun l hl=>h _ _ hl) hr
 all_goals exact hr.elim
theorem Fin.id {v:V}{s:St}(hm:m≤s.H.length):Fin m v s.H v s:=⟨hm,fun ρ w r h1 h2 _=>⟨ρ,h1,h2,fun _ _=>rfl,fun b B e hr=>⟨b,B,e,hr,rfl⟩⟩⟩
theorem eW (hmix:P.follows .mixedOrders=true){f:FuncId}{fn:Func}{c:Code}{args:List V}{Post:V→Prop}(hc:cW P f=true)(hf:P.funcs[f]?=some fn)(hb:fn.body=some c)(hn:args.length≤fn.ntmps)(ha:aa 0 args)(hp:∀ v,Post v→v.low 0)
  (hv:vc P 0 fn.ntmps c (fQ P fn fun v _=>Post v) ⟨fg args 0,[]⟩):∃ v,ao P f args v∧Post v:=by
 obtain⟨v,s',h1,h2,h3⟩:=wS (Nat.zero_le _) hv
 exact⟨v,aB hmix hc hf hb hn ha (hp v h2) (eL c _ _ _ (fun e s hs=>vr (fun v s h=>h.1) hs) h3),h2⟩
end
section
section
variable {m n:Nat}{s s':St}
def ah (sg:List Nat)(b:Nat):Nat:=sg.getD b 0
theorem pR {N:Nat}:∀ {l:List V} {i:Nat} {v:V},aa N l→l[i]?=some v→v.low N
 |[],_,_,_,h=>by simp at h
 |x::l,0,v,hb,h=>by
  unfold aa at hb
  simp at h;subst h;exact hb.1
 |x::l,i+1,v,hb,h=>by
  unfold aa at hb
  exact pR hb.2 (by simpa using h)
theorem aM {H:List (Option Blk)}{b:Nat}{B:Blk}(h:ab H b=some B):b<H.length:=by
 unfold ab at h
 exact Nat.lt_of_not_le (fun hb=>by rw[List.getElem?_eq_none hb] at h;simp at h)
theorem Weak.rename (σ:Nat→Nat)(hm:m≤s'.H.length)(hσm:∀ b,b<m→σ b=b)(ht:∀ p∈s'.t,p.2.ren σ=s.get p.1∧p.2.low s'.H.length)
  (hH:∀ b B,ab s'.H b=some B→ab s.H (σ b)=some ⟨B.ro,rens σ B.cs,B.mp⟩∧aa s'.H.length B.cs)
  (hinj:∀ b b',b<s'.H.length→b'<s'.H.length→b≠b'→σ b≠σ b'):∀ (ρ:Nat→Nat×Nat) (a:Act) (w:World),RelSt ρ n s a w→m≤s.H.length→∃ ρ',RelSt ρ' n s' a w∧Step m ρ s w ρ' s' w:=fun ρ a w hr hms=>by
 refine⟨fun b=>ρ (σ b),⟨⟨hr.tmps.size,hr.tmps.defers,fun t=>?_⟩,?_⟩,hm,fun b hb=>by show ρ (σ b)=ρ b;rw[hσm b hb],?_⟩
 ·have :∀ (l:List (Nat×V)),(∀ p∈l,p.2.ren σ=s.get p.1∧p.2.low s'.H.length)→VR (fun b=>ρ (σ b)) (· <s'.H.length) w (af l t) (a.tmps.getD t undef):=by
   intro l
   induction l with
   |nil=>intro _;show VR _ _ _ .junk _;unfold VR;trivial
   |cons p l ih=>
    intro h
    simp only[af]
    split
    ·rename_i e
     have h1:=h p (by simp)
     have h2:=hr.tmps.slot t
     rw[←e,←h1.1] at h2
     rw[←e]
     exact h2.unren h1.2
    ·exact ih fun q hq=>h q (by simp[hq])
  exact this s'.t ht
 ·refine⟨fun b B h=>aM h,fun b B h=>hr.mem.lt _ _ (hH b B h).1,fun b b' B B' h h' hro hne=>?_,fun b B h i v hv=>?_,fun b B h hro i hi=>?_,fun b B mm h hmp=>mK (hr.mem.mapc _ _ mm (hH b B h).1 hmp) (by show B.cs.length=(rens σ B.cs).length;rw[cX,List.length_map])⟩
  ·exact hr.mem.inj _ _ _ _ (hH b B h).1 (hH b' B' h').1 hro (hinj b b' (aM h) (aM h') hne)
  ·have h1:(rens σ B.cs)[i]?=some (v.ren σ):=by rw[cX,List.getElem?_map,hv];rfl
   obtain⟨r,g1,g2⟩:=hr.mem.cell _ _ (hH b B h).1 i _ h1
   exact⟨r,g1,g2.unren (pR (hH b B h).2 hv)⟩
  ·exact hr.mem.free _ _ (hH b B h).1 hro i (by show i<(rens σ B.cs).length;rw[cX,List.length_map];exact hi)
 ·exact(Frame.refl ρ (ab s.H) w).less fun b B hB hro=>⟨σ b,_,(hH b B hB).1,hro,rfl⟩
def cz (σ:Nat→Nat)(N:Nat)(s:St):List (Nat×V)→Prop
 |[]=>True
 |p::l=>(p.2.ren σ=s.get p.1∧p.2.low N)∧cz σ N s l
def eu (σ:Nat→Nat)(N:Nat)(s:St):List (Option Blk)→Nat→Prop
 |[],_=>True
 |none::l,i=>eu σ N s l (i+1)
 |some B::l,i=>(ab s.H (σ i)=some ⟨B.ro,rens σ B.cs,B.mp⟩∧aa N B.cs)∧eu σ N s l (i+1)
theorem yD {σ:Nat→Nat}{N:Nat}:∀ {l:List (Nat×V)},cz σ N s l→∀ p∈l,p.2.ren σ=s.get p.1∧p.2.low N
 |[],_,p,hp=>by cases hp
 |q::l,h,p,hp=>by
  rcases List.mem_cons.1 hp with e|hp
  ·subst e;exact h.1
  ·exact yD h.2 p hp
theorem nH {σ:Nat→Nat}{N:Nat}:∀ {l:List (Option Blk)} {i:Nat},eu σ N s l i→∀ b B,ab l b=some B→ab s.H (σ (i+b))=some ⟨B.ro,rens σ B.cs,B.mp⟩∧aa N B.cs
 |[],_,_,b,B,h=>by simp[ab] at h
 |none::l,i,hk,b,B,h=>by
  cases b with
  |zero=>simp[ab] at h
  |succ b=>have :=nH (l:=l) hk b B (by simpa [ab] using h);rw[show i+(b+1)=i+1+b by omega];exact this
 |some C::l,i,hk,b,B,h=>by
  cases b with
  |zero=>simp[ab] at h;subst h;exact hk.1
  |succ b=>have :=nH (l:=l) hk.2 b B (by simpa [ab] using h);rw[show i+(b+1)=i+1+b by omega];exact this
theorem Weak.ren (sg:List Nat)(hl:sg.length=s'.H.length)(hm:m≤sg.length)(hp:sg.take m=List.range m)(hnd:sg.Nodup)
  (ht:cz (ah sg) s'.H.length s s'.t) (hH:eu (ah sg) s'.H.length s s'.H 0):Weak m n s s':=
 ⟨fun _=>by omega,Weak.rename (ah sg) (by omega) (fun b hb=>by
   unfold ah
   have h1:(sg.take m)[b]?=some b:=by rw[hp,List.getElem?_range hb]
   rw[List.getElem?_take_of_lt hb] at h1
   rw[List.getD_eq_getElem?_getD,h1];rfl)
  (yD ht) (fun b B h=>by have :=nH hH b B h;rw[Nat.zero_add] at this;exact this)
  (fun b b' hb hb' hne e=>by
   unfold ah at e
   rw[List.getD_eq_getElem?_getD,List.getD_eq_getElem?_getD,List.getElem?_eq_getElem (by omega),List.getElem?_eq_getElem (by omega)] at e
   exact hne ((List.getElem_inj hnd).1 (by simpa using e)))⟩
theorem dP {I:Nat→St→Prop}{k:Nat}(k':Nat)(s'':St)(sg:List Nat)(hk:k'<k)(hl:sg.length=s''.H.length)(hm:m≤sg.length)(hp:sg.take m=List.range m)(hnd:sg.Nodup)
  (ht:cz (ah sg) s''.H.length s s''.t) (hH:eu (ah sg) s''.H.length s s''.H 0) (hi:I k' s''):jP m n I k s:=⟨k',s'',hk,Weak.ren sg hl hm hp hnd ht hH,hi⟩
theorem Aa {I:Nat→St→Prop}(k:Nat)(s0:St)(sg:List Nat)(hl:sg.length=s0.H.length)(hm:m≤sg.length)(hp:sg.take m=List.range m)(hnd:sg.Nodup)
  (ht:cz (ah sg) s0.H.length s s0.t) (hH:eu (ah sg) s0.H.length s s0.H 0) (hi:I k s0):∃ k s0,Weak m n s s0∧I k s0:=⟨k,s0,Weak.ren sg hl hm hp hnd ht hH,hi⟩
end
end
section
def Blk.ren (σ:Nat→Nat)(B:Blk):Blk:=⟨B.ro,rens σ B.cs,B.mp⟩
def db (σ:Nat→Nat)(x:Option Blk):Option Blk:=x.map (Blk.ren σ)
def cZ (σ:Nat→Nat):List Nat→List (Option Blk)→List (Nat×Option Blk)
 |i::sg,x::h=>(i,db σ x)::cZ σ sg h
 |_,_=>[]
def cu (σ:Nat→Nat):List Nat→List (Option Blk)→List (Option Blk)
 |[],h=>h.map (db σ)
 |_::sg,_::h=>cu σ sg h
 |_::_,[]=>[]
theorem jf (σ:Nat→Nat):∀ (sg:List Nat) (h:List (Option Blk)),cu σ sg h=(h.drop sg.length).map (db σ)
 |[],h=>rfl
 |_::sg,x::h=>by rw[cu,jf σ sg h];rfl
 |_::_,[]=>rfl
theorem qX {σ:Nat→Nat}{b:Nat}{d:Option Blk}:∀ {sg:List Nat} {h:List (Option Blk)},b∉sg→di (cZ σ sg h) b d=d
 |[],_,_=>by unfold cZ;rfl
 |_::_,[],_=>by unfold cZ;rfl
 |i::sg,x::h,hb=>by
  unfold cZ di
  rw[if_neg (fun e=>hb (by simp[e]))]
  exact qX (fun h'=>hb (List.mem_cons_of_mem _ h'))
theorem rv {σ:Nat→Nat}{d:Option Blk}:∀ {sg:List Nat} {h:List (Option Blk)} {i b:Nat},sg.Nodup→sg[i]?=some b→i<h.length→di (cZ σ sg h) b d=db σ (h[i]?).join
 |[],_,_,_,_,hi,_=>by simp at hi
 |_::_,[],_,_,_,_,hl=>by simp at hl
 |j::sg,x::h,0,b,hnd,hi,hl=>by
  simp at hi
  subst hi
  unfold cZ di
  rw[if_pos rfl];simp
 |j::sg,x::h,i+1,b,hnd,hi,hl=>by
  have hi':sg[i]?=some b:=by simpa using hi
  have hne:b≠j:=fun e=>by
   subst e
   exact(List.nodup_cons.1 hnd).1 (List.mem_of_getElem? hi')
  unfold cZ di
  rw[if_neg hne,rv (List.nodup_cons.1 hnd).2 hi' (by simpa using hl)]
  simp
section
variable {P:Program}{f:FuncId}{args:List V}{h h':List (Option Blk)}{v:V}{sg:List Nat}{get0:Nat→Option Blk}{nid:Nat}
theorem ef {b:Nat}(hb:b<sg.length):sg[b]?=some (ah sg b):=by
 unfold ah
 rw[List.getD_eq_getElem?_getD,List.getElem?_eq_getElem hb];rfl
theorem lc {l:List Nat}{b:Nat}(hb:b<sg.length):ah (sg++l) b=ah sg b:=by
 unfold ah
 rw[List.getD_eq_getElem?_getD,List.getD_eq_getElem?_getD,List.getElem?_append_left hb]
theorem ld {k b:Nat}(hb:sg.length≤b)(hk:b<sg.length+k):ah (sg++List.range' nid k) b=nid+(b-sg.length):=by
 unfold ah
 rw[List.getD_eq_getElem?_getD,List.getElem?_append_right hb,List.getElem?_range' (by omega)];simp
theorem rJ {H:List (Option Blk)}{b:Nat}{B:Blk}(e:ab H b=some B):H[b]?=some (some B):=by
 have hl:=aM e
 unfold ab at e
 rw[List.getElem?_eq_getElem hl] at e ⊢
 simp at e
 rw[e]
def az (sg:List Nat)(nid:Nat)(h':List (Option Blk)):List Nat:=sg++List.range' nid (h'.length-sg.length)
theorem qE (hs:ag P f args h v h')(hlen:sg.length=h.length)(hlow:aa h.length args)(hnd:sg.Nodup)(hsg:∀ b∈sg,b<nid)
  (hblk:∀ b B,ab h b=some B→get0 (ah sg b)=some ⟨B.ro,rens (ah sg) B.cs,B.mp⟩∧aa h.length B.cs)
  (hro:∀ b B,ab h' b=some B→(h.length≤b∨ab h b=none)→B.ro=false) (hle:h.length≤h'.length):
  Spec P f (rens (ah sg) args) get0 nid {v:=v.ren (ah (az sg nid h')),pre:=True,fp:=sg,old:=cZ (ah (az sg nid h')) sg h',news:=cu (ah (az sg nid h')) sg h'}:=by
 intro ρ dom get w rargs hm hr hfp hdom
 have hnl:(cu (ah (az sg nid h')) sg h').length=h'.length-h.length:=by rw[jf,List.length_map,List.length_drop,hlen]
 simp only[hnl] at hdom ⊢
 have hgot:∀ b B,ab h b=some B→get (ah sg b)=some ⟨B.ro,rens (ah sg) B.cs,B.mp⟩:=fun b B e=>by
  rw[(hfp _ (List.mem_of_getElem? (ef (by rw[hlen];exact aM e)))).1]
  exact(hblk b B e).1
 have hinj:∀ b b',b<h.length→b'<h.length→b≠b'→ah sg b≠ah sg b':=fun b b' hb hb' hne e=>by
  have e1:=ef (sg:=sg) (b:=b) (by omega)
  have e2:=ef (sg:=sg) (b:=b') (by omega)
  rw[e] at e1
  rw[List.getElem?_eq_getElem (by omega)] at e1 e2
  exact hne ((List.getElem_inj hnd).1 (by rw[Option.some.inj e1,Option.some.inj e2]))
 have hm0:MemRel (fun b=>ρ (ah sg b)) (· <h.length) (ab h) w:=by
  refine⟨fun b B e=>aM e,fun b B e=>hm.lt _ _ (hgot b B e),fun b b' B B' e e' hr' hne=>hm.inj _ _ _ _ (hgot b B e) (hgot b' B' e') hr' (hinj b b' (aM e) (aM e') hne),fun b B e i v hv=>?_,fun b B e hr' i hi=>?_,fun b B mm e hmp=>mK (hm.mapc _ _ mm (hgot b B e) hmp) (by show B.cs.length=(rens (ah sg) B.cs).length;rw[cX,List.length_map])⟩
  ·have h1:(rens (ah sg) B.cs)[i]?=some (v.ren (ah sg)):=by rw[cX,List.getElem?_map,hv];rfl
   obtain⟨r,g1,g2⟩:=hm.cell _ _ (hgot b B e) i _ h1
   exact⟨r,g1,g2.unren (pR (hblk b B e).2 hv)⟩
  ·exact hm.free _ _ (hgot b B e) hr' i (by show i<(rens (ah sg) B.cs).length;rw[cX,List.length_map];exact hi)
 refine(hs _ w rargs (hr.unren hlow) hm0).mono ?_
 rintro e w' ⟨r,ρ',rfl,k1,k2,k3,k4,k5⟩
 have hnew:∀ b,nid≤b→b<nid+(h'.length-h.length)→¬ dom b:=hdom
 have hdsg:∀ b,b<h.length→dom (ah sg b):=fun b hb=>by
  have hmem:=List.mem_of_getElem? (ef (sg:=sg) (b:=b) (by rw[hlen];exact hb))
  exact(hfp _ hmem).2 (hsg _ hmem)
 have hsgn:∀ b,b<h.length→ah sg b<nid:=fun b hb=>hsg _ (List.mem_of_getElem? (ef (by omega)))
 let ρ1:Nat→Nat×Nat:=fun b=>if nid≤b∧b<nid+(h'.length-h.length) then ρ' (h.length+(b-nid)) else ρ b
 have hρ1:∀ b,b<h'.length→ρ1 (ah (az sg nid h') b)=ρ' b:=fun b hb=>by
  by_cases hb2:b<h.length
  ·rw[az,lc (by omega)]
   show(if _ then _ else _)=_
   rw[if_neg (by have :=hsgn b hb2;omega),k4 b hb2]
  ·rw[az,ld (by omega) (by omega)]
   show(if _ then _ else _)=_
   rw[if_pos (by omega)]
   congr 1;omega
 have hd1:∀ b,b<h'.length→bZ dom nid (h'.length-h.length) (ah (az sg nid h') b):=fun b hb=>by
  by_cases hb2:b<h.length
  ·rw[az,lc (by omega)];exact .inl (hdsg b hb2)
  ·rw[az,ld (by omega) (by omega)];exact .inr ⟨by omega,by omega⟩
 have cases1:∀ b B,bv get (cZ (ah (az sg nid h')) sg h') nid (cu (ah (az sg nid h')) sg h') b=some B→
   (∃ c C,ab h' c=some C∧B=C.ren (ah (az sg nid h'))∧b=ah (az sg nid h') c∧c<h'.length)∨(get b=some B∧b∉sg∧¬ (nid≤b∧b<nid+(h'.length-h.length))):=fun b B e=>by
  unfold bv at e
  rw[hnl] at e
  by_cases hb:nid≤b∧b<nid+(h'.length-h.length)
  ·rw[if_pos hb,jf,List.getElem?_map,List.getElem?_drop,hlen] at e
   left
   have hl:h.length+(b-nid)<h'.length:=by omega
   rw[List.getElem?_eq_getElem hl] at e
   simp only[Option.map_some,Option.join_some] at e
   obtain⟨C,e1,e2⟩:∃ C,h'[h.length+(b-nid)]=some C∧B=C.ren (ah (az sg nid h')):=by
    unfold db at e
    cases hx:h'[h.length+(b-nid)] with
    |none=>rw[hx] at e;simp at e
    |some C=>rw[hx] at e;simp at e;exact⟨C,rfl,e.symm⟩
   refine⟨h.length+(b-nid),C,?_,e2,?_,hl⟩
   ·unfold ab;rw[List.getElem?_eq_getElem hl,e1];rfl
   ·rw[az,ld (by omega) (by omega)];omega
  ·rw[if_neg hb] at e
   by_cases hin:b∈sg
   ·obtain⟨i,hi,hib⟩:=List.mem_iff_getElem.1 hin
    left
    have hi':sg[i]?=some b:=by rw[List.getElem?_eq_getElem hi,hib]
    rw[rv hnd hi' (by omega)] at e
    have hsb:ah sg i=b:=by have :=ef (sg:=sg) hi;rw[hi'] at this;exact(Option.some.inj this).symm
    obtain⟨C,e1,e2⟩:∃ C,ab h' i=some C∧B=C.ren (ah (az sg nid h')):=by
     unfold db at e
     cases hx:(h'[i]?).join with
     |none=>rw[hx] at e;simp at e
     |some C=>rw[hx] at e;simp at e;exact⟨C,hx,e.symm⟩
    exact⟨i,C,e1,e2,by rw[az,lc hi,hsb],by omega⟩
   ·rw[qX hin] at e
    exact .inr ⟨e,hin,hb⟩
 have away:∀ b B,get b=some B→b∉sg→∀ b0 B0,ab h b0=some B0→B0.ro=false→(ρ (ah sg b0)).1≠(ρ b).1:=fun b B e hb b0 B0 e0 hr0=>by
  refine hm.inj _ _ _ _ (hgot b0 B0 e0) e hr0 (fun e1=>hb ?_)
  rw[←e1];exact List.mem_of_getElem? (ef (by rw[hlen];exact aM e0))
 have still:∀ b B,get b=some B→b∉sg→w'.heap[(ρ b).1]?=w.heap[(ρ b).1]?:=fun b B e hb=>k5.keep _ (hm.lt b B e) fun b0 B0 e0 hr0=>away b B e hb b0 B0 e0 hr0
 have hρout:∀ b,¬ (nid≤b∧b<nid+(h'.length-h.length))→ρ1 b=ρ b:=fun b hb=>if_neg hb
 have hρdom:∀ b,dom b→ρ1 b=ρ b:=fun b hb=>hρout b fun h=>hnew b h.1 h.2 hb
 refine⟨r,ρ1,rfl,hρdom,?_,k1.doren hd1 hρ1,?_⟩
 ·refine⟨fun b B e=>?_,fun b B e=>?_,fun b b' B B' e e' hr' hne=>?_,fun b B e i v hv=>?_,fun b B e hr' i hi=>?_,fun b B mm e hmp=>?_⟩
  ·rcases cases1 b B e with⟨c,C,e1,rfl,rfl,hc⟩|⟨e1,_,_⟩
   ·exact hd1 c hc
   ·exact .inl (hm.has _ _ e1)
  ·rcases cases1 b B e with⟨c,C,e1,rfl,rfl,hc⟩|⟨e1,_,hb⟩
   ·rw[hρ1 c hc];exact k2.lt _ _ e1
   ·rw[hρout b hb];exact Nat.lt_of_lt_of_le (hm.lt _ _ e1) k5.size
  ·rcases cases1 b B e with⟨c,C,e1,rfl,rfl,hc⟩|⟨e1,hb1,hb⟩<;>rcases cases1 b' B' e' with⟨c',C',e1',rfl,rfl,hc'⟩|⟨e1',hb1',hb'⟩
   ·rw[hρ1 c hc,hρ1 c' hc']
    exact k2.inj _ _ _ _ e1 e1' hr' (fun e2=>hne (by rw[e2]))
   ·rw[hρ1 c hc,hρout b' hb']
    rcases k5.own c C e1 hr' with⟨b0,B0,e0,hr0,hx⟩|hx
    ·rw[←hx];exact away b' B' e1' hb1' b0 B0 e0 hr0
    ·have :=hm.lt _ _ e1';omega
   ·rw[hρout b hb,hρ1 c' hc']
    by_cases hc2:c'<h.length
    ·cases he0:ab h c' with
     |some B0=>
      rw[k4 c' hc2]
      refine hm.inj _ _ _ _ e1 (hgot c' B0 he0) hr' (fun e2=>hb1 ?_)
      rw[e2];exact List.mem_of_getElem? (ef (by omega))
     |none=>
      have hcro:=hro c' C' e1' (.inr he0)
      rcases k5.own c' C' e1' hcro with⟨b0,B0,e0,hr0,hx⟩|hx
      ·rw[←hx];exact fun e2=>away b B e1 hb1 b0 B0 e0 hr0 e2.symm
      ·have :=hm.lt _ _ e1;omega
    ·have hcro:=hro c' C' e1' (.inl (by omega))
     rcases k5.own c' C' e1' hcro with⟨b0,B0,e0,hr0,hx⟩|hx
     ·rw[←hx];exact fun e2=>away b B e1 hb1 b0 B0 e0 hr0 e2.symm
     ·have :=hm.lt _ _ e1;omega
   ·rw[hρout b hb,hρout b' hb']
    exact hm.inj _ _ _ _ e1 e1' hr' hne
  ·rcases cases1 b B e with⟨c,C,e1,rfl,rfl,hc⟩|⟨e1,hb1,hb⟩
   ·rw[hρ1 c hc]
    have h2:∃ u,C.cs[i]?=some u∧v=u.ren (ah (az sg nid h')):=by
     have hv':(rens (ah (az sg nid h')) C.cs)[i]?=some v:=hv
     rw[cX,List.getElem?_map] at hv'
     cases hu:C.cs[i]? with
     |none=>rw[hu] at hv';simp at hv'
     |some u=>rw[hu] at hv';simp at hv';exact⟨u,rfl,hv'.symm⟩
    obtain⟨u,hu,rfl⟩:=h2
    obtain⟨r,g1,g2⟩:=k2.cell _ _ e1 i u hu
    exact⟨r,g1,g2.doren hd1 hρ1⟩
   ·rw[hρout b hb]
    obtain⟨r,g1,g2⟩:=hm.cell _ _ e1 i v hv
    refine⟨r,?_,g2.mono hρdom (fun b hb=> .inl hb) k5.lasts⟩
    rw[World.cell?_of_block (w:=w) (a:=⟨(ρ b).1,(ρ b).2+i,none⟩) (still b B e1 hb1)];exact g1
  ·rcases cases1 b B e with⟨c,C,e1,rfl,rfl,hc⟩|⟨e1,hb1,hb⟩
   ·rw[hρ1 c hc]
    exact k2.free _ _ e1 hr' i (by have h3:i<(rens (ah (az sg nid h')) C.cs).length:=hi;rw[cX,List.length_map] at h3;exact h3)
   ·rw[hρout b hb,World.frozen?_of_block (w:=w) (a:=⟨(ρ b).1,(ρ b).2+i,none⟩) (still b B e1 hb1)]
    exact hm.free _ _ e1 hr' i hi
  ·rcases cases1 b B e with⟨c,C,e1,rfl,rfl,hc⟩|⟨e1,hb1,hb⟩
   ·rw[hρ1 c hc]
    exact mK (k2.mapc _ _ mm e1 hmp) (by show(rens (ah (az sg nid h')) C.cs).length=C.cs.length;rw[cX,List.length_map])
   ·rw[hρout b hb]
    exact iK (hm.mapc _ _ mm e1 hmp) (still b B e1 hb1)
 ·refine⟨k5.os,k5.output,k5.tape,k5.size,fun r hr hb=>k5.keep r hr fun b B e hro'=>?_,k5.lasts,fun b B e hro'=>?_⟩
  ·exact hb _ _ (hgot b B e) hro'
  ·rcases cases1 b B e with⟨c,C,e1,rfl,rfl,hc⟩|⟨e1,hb1,hb⟩
   ·rw[hρ1 c hc]
    rcases k5.own c C e1 hro' with⟨b0,B0,e0,hr0,hx⟩|hx
    ·exact .inl ⟨_,_,hgot b0 B0 e0,hr0,hx⟩
    ·exact .inr hx
   ·exact .inl ⟨b,B,e1,hro',by rw[hρout b hb]⟩
theorem EV (hs:ag P f args h v h')(hlen:sg.length=h.length)(hlow:aa h.length args)(hnd:sg.Nodup)(hsg:∀ b∈sg,b<nid)
  (hall:∀ b,b<h.length→∃ B,ab h b=some B)
  (hblk:∀ b B,ab h b=some B→get0 (ah sg b)=some ⟨B.ro,rens (ah sg) B.cs,B.mp⟩∧aa h.length B.cs)
  (hro:∀ b B,ab h' b=some B→h.length≤b→B.ro=false) (hle:h.length≤h'.length):
  Spec P f (rens (ah sg) args) get0 nid {v:=v.ren (ah (az sg nid h')),pre:=True,fp:=sg,old:=cZ (ah (az sg nid h')) sg h',news:=cu (ah (az sg nid h')) sg h'}:=
 qE hs hlen hlow hnd hsg hblk (fun b B e h1=>by
  rcases h1 with h1|h1
  ·exact hro b B e h1
  ·by_cases hb:b<h.length
   ·obtain⟨C,hC⟩:=hall b hb
    rw[hC] at h1;cases h1
   ·exact hro b B e (by omega)) hle
end
end
end Go.Vm
end
section
namespace Go.Vm
inductive Fr where
 |code (c:Code)
 |blk (id:Nat)
section
variable (P:Program)(m n:Nat)(R:Exit→St→Prop)
def kQ:List Fr→Exit→St→Prop
 |[]=>R
 | .code c::k=>fo (vc P m n c (kQ k)) (kQ k)
 | .blk id::k=>iS id (kQ k)
def go (c:Code)(k:List Fr)(s:St):Prop:=vc P m n c (kQ P m n R k) s
def gone (k:List Fr)(e:Exit)(s:St):Prop:=kQ P m n R k e s
def dW (l:List Oper)(ops:Array Oper)(k:List Fr)(s:St):Prop:=bX P n ops l s (kQ P m n R k .normal)
def co (o:Op)(dst:Option Tmp)(l:List Oper)(ops:Array Oper)(k:List Fr)(s:St):Prop:=c7 P o s (hold fun res=>bX P n ops l (s.after dst res) (kQ P m n R k .normal))
def c9 (r:Option Res)(dst:Option Tmp)(l:List Oper)(ops:Array Oper)(k:List Fr)(s:St):Prop:=eH r (hold fun res=>bX P n ops l (s.after dst res) (kQ P m n R k .normal))
def jO (f:V)(args:List V)(dst:Option Tmp)(l:List Oper)(ops:Array Oper)(k:List Fr)(s:St):Prop:=vcall P f args s.H (hold fun res=>bX P n ops l (s.after dst res) (kQ P m n R k .normal))
def qd (v:V)(want:Bool)(o:Op)(dst:Option Tmp)(l:List Oper)(ops:Array Oper)(k:List Fr)(s:St):Prop:=
 gP v want (c7 P o s (hold fun res=>bX P n ops l (s.after dst res) (kQ P m n R k .normal))) (bX P n ops l (s.put dst (.tup [])) (kQ P m n R k .normal))
def qA (g:Option (Nat×Bool))(o:Op)(dst:Option Tmp)(l:List Oper)(ops:Array Oper)(k:List Fr)(s:St):Prop:=match g with
 |none=>co P m n R o dst l ops k s
 |some (j,want)=>match gd ops j with
  |some d=>d<n∧qd P m n R (s.get d) want o dst l ops k s
  |none=>False
abbrev Tr:=List (List Nat×List Nat)
def eN (l:List Oper)(tr:Tr)(ops:Array Oper)(k:List Fr)(s:St):Prop:=dN P n ops (kQ P m n R k .normal) l tr s
def kD (dst:Option Tmp)(l:List Oper)(tr:Tr)(ops:Array Oper)(k:List Fr)(s:St):Res→Prop:=hold fun res=>(∀ x∈res.old,x.1<s.H.length)∧dN P n ops (kQ P m n R k .normal) l (tr++[bc s res]) (s.after dst res)
def cA (o:Op)(dst:Option Tmp)(l:List Oper)(tr:Tr)(ops:Array Oper)(k:List Fr)(s:St):Prop:=c7 P o s (kD P m n R dst l tr ops k s)
def dL (r:Option Res)(dst:Option Tmp)(l:List Oper)(tr:Tr)(ops:Array Oper)(k:List Fr)(s:St):Prop:=eH r (kD P m n R dst l tr ops k s)
def iN (f:V)(args:List V)(dst:Option Tmp)(l:List Oper)(tr:Tr)(ops:Array Oper)(k:List Fr)(s:St):Prop:=vcall P f args s.H (kD P m n R dst l tr ops k s)
def pT (v:V)(want:Bool)(o:Op)(dst:Option Tmp)(l:List Oper)(tr:Tr)(ops:Array Oper)(k:List Fr)(s:St):Prop:=
 gP v want (c7 P o s (kD P m n R dst l tr ops k s)) (dN P n ops (kQ P m n R k .normal) l (tr++[([],[])]) (s.put dst (.tup [])))
def qx (g:Option (Nat×Bool))(o:Op)(dst:Option Tmp)(l:List Oper)(tr:Tr)(ops:Array Oper)(k:List Fr)(s:St):Prop:=match g with
 |none=>cA P m n R o dst l tr ops k s
 |some (j,want)=>match gd ops j with
  |some d=>d<n∧pT P m n R (s.get d) want o dst l tr ops k s
  |none=>False
def wT (v:V)(x y:Code)(k:List Fr)(s:St):Prop:=oF v (go P m n R x k s) (go P m n R y k s)
end
section
variable {P:Program}{m n:Nat}{R:Exit→St→Prop}{k:List Fr}{s:St}{l:List Oper}{ops:Array Oper}{dst:Option Tmp}
theorem ae {c:Code}(h:go P m n R c [] s):vc P m n c R s:=h
theorem OR:go P m n R .skip k s=gone P m n R k .normal s:=rfl
theorem Ra (x y:Code):go P m n R (.seq x y) k s=go P m n R x (.code y::k) s:=rfl
theorem Jr (id:Nat):go P m n R (.region id ops false) k s=dW P m n R ops.toList ops k s:=rfl
theorem OS (c:Operand)(x y:Code):go P m n R (.cond c x y) k s=wT P m n R (s.ev c) x y k s:=rfl
theorem Lf (id:Nat)(c:Code):go P m n R (.block id c) k s=go P m n R c (.blk id::k) s:=rfl
theorem OT (id:Nat):go P m n R (.exit id) k s=gone P m n R k (.exit id) s:=rfl
theorem go_ret:go P m n R .ret k s=gone P m n R k .ret s:=rfl
theorem Lg (e:Exit):gone P m n R [] e s=R e s:=rfl
theorem Ec (c:Code):gone P m n R (.code c::k) .normal s=go P m n R c k s:=rfl
theorem EB (c:Code)(id:Nat):gone P m n R (.code c::k) (.exit id) s=gone P m n R k (.exit id) s:=rfl
theorem EW (c:Code):gone P m n R (.code c::k) .ret s=gone P m n R k .ret s:=rfl
theorem En (id:Nat):gone P m n R (.blk id::k) .normal s=gone P m n R k .normal s:=rfl
theorem Fu (id:Nat):gone P m n R (.blk id::k) .ret s=gone P m n R k .ret s:=rfl
theorem EX (id i:Nat):gone P m n R (.blk id::k) (.exit i) s=if i=id then gone P m n R k .normal s else gone P m n R k (.exit i) s:=rfl
theorem Js:dW P m n R [] ops k s=gone P m n R k .normal s:=rfl
theorem Hv (o:Op)(t:TypeId)(pos:String)(after:Array Edge)(g:Option (Nat×Bool)):dW P m n R (⟨dst,o,t,pos,after,g⟩::l) ops k s=(dV n dst∧qA P m n R g o dst l ops k s):=by
 unfold dW qA
 rw[bX]
 cases g<;>rfl
theorem Lh (o:Op):qA P m n R none o dst l ops k s=co P m n R o dst l ops k s:=rfl
theorem Li (j:Nat)(want:Bool)(o:Op)(d:Nat)(h:gd ops j=some d):qA P m n R (some (j,want)) o dst l ops k s=(d<n∧qd P m n R (s.get d) want o dst l ops k s):=by
 unfold qA
 simp only[h]
theorem Fv (b want:Bool)(o:Op):qd P m n R (.bool b) want o dst l ops k s=if b=want then co P m n R o dst l ops k s else dW P m n R l ops k (s.put dst (.tup [])):=by
 unfold qd gP
 simp only
 by_cases h:b=want
 ·rw[if_pos h];exact propext ⟨fun x=>x.1 h,fun x=>⟨fun _=>x,fun y=>absurd h y⟩⟩
 ·rw[if_neg h];exact propext ⟨fun x=>x.2 h,fun x=>⟨fun y=>absurd y h,fun _=>x⟩⟩
theorem EY (want:Bool)(o:Op):qd P m n R (.tup []) want o dst l ops k s=dW P m n R l ops k (s.put dst (.tup [])):=rfl
theorem Gi (b:Bool)(x y:Code):wT P m n R (.bool b) x y k s=if b=true then go P m n R x k s else go P m n R y k s:=by
 unfold wT oF
 simp only
 cases b
 ·exact propext ⟨fun x=>x.2 rfl,fun x=>⟨fun y=>absurd y (by simp),fun _=>x⟩⟩
 ·exact propext ⟨fun x=>x.1 rfl,fun x=>⟨fun _=>x,fun y=>absurd y (by simp)⟩⟩
theorem Hw (r:Res):c9 P m n R (some r) dst l ops k s=(r.pre∧dW P m n R l ops k (s.after dst r)):=rfl
theorem Hx:c9 P m n R none dst l ops k s=False:=rfl
theorem Ab (x:Operand):co P m n R (.move x) dst l ops k s=dW P m n R l ops k (s.put dst (s.ev x)):=by
 unfold co c7 eH
 simp only[bq,true_and]
 show bX _ _ _ _ (s.after _ _) _=_
 unfold dW
 congr 1
 unfold St.after St.put cr
 simp
theorem Gj (x:Operand):co P m n R (.assign x) dst l ops k s=dW P m n R l ops k (s.put dst (s.ev x)):=Ab x
theorem Lj (op:BinOp)(t:TypeId)(x y:Operand)(u:TypeId):co P m n R (.binOp op t x y u) dst l ops k s=c9 P m n R (lO P op t (s.ev x) (s.ev y) (ab s.H)) dst l ops k s:=rfl
theorem OU (op:UnOp)(t:TypeId)(x:Operand):co P m n R (.unOp op t x) dst l ops k s=c9 P m n R (nl op (s.ev x)) dst l ops k s:=rfl
theorem Jt (c x y:Operand):co P m n R (.pick c x y) dst l ops k s=c9 P m n R (bq P (.pick c x y) s.ev (ab s.H) s.H.length) dst l ops k s:=rfl
theorem Hy (e:TypeId):co P m n R (.alloc e) dst l ops k s=c9 P m n R (bq P (.alloc e) s.ev (ab s.H) s.H.length) dst l ops k s:=rfl
theorem Lk (e:TypeId)(x:Operand):co P m n R (.box e x) dst l ops k s=c9 P m n R (bq P (.box e x) s.ev (ab s.H) s.H.length) dst l ops k s:=rfl
theorem Hz (t:TypeId)(p:Array (Nat×Operand)):co P m n R (.build t p) dst l ops k s=c9 P m n R (bq P (.build t p) s.ev (ab s.H) s.H.length) dst l ops k s:=rfl
theorem Eo (t:TypeId)(i:Nat)(p:Array (Nat×Operand)):co P m n R (.buildSlice t i p) dst l ops k s=c9 P m n R (bq P (.buildSlice t i p) s.ev (ab s.H) s.H.length) dst l ops k s:=rfl
theorem Ju (t:TypeId)(x:Operand):co P m n R (.load t x) dst l ops k s=c9 P m n R (bq P (.load t x) s.ev (ab s.H) s.H.length) dst l ops k s:=rfl
theorem HA (t:TypeId)(x y:Operand):co P m n R (.store t x y) dst l ops k s=c9 P m n R (bq P (.store t x y) s.ev (ab s.H) s.H.length) dst l ops k s:=rfl
theorem EZ (x:Operand):co P m n R (.nilCheck x) dst l ops k s=c9 P m n R (bq P (.nilCheck x) s.ev (ab s.H) s.H.length) dst l ops k s:=rfl
theorem Fw (a b:TypeId)(x:Operand):co P m n R (.convert a b x) dst l ops k s=c9 P m n R (oD P a b (s.ev x) (ab s.H) s.H.length) dst l ops k s:=rfl
theorem Ll (t:TypeId)(x:Operand):co P m n R (.sliceToArrayPointer t x) dst l ops k s=c9 P m n R (bq P (.sliceToArrayPointer t x) s.ev (ab s.H) s.H.length) dst l ops k s:=rfl
theorem E2 (f:Fn)(a c:Array Operand):co P m n R (.makeFunc f a c) dst l ops k s=c9 P m n R (bq P (.makeFunc f a c) s.ev (ab s.H) s.H.length) dst l ops k s:=rfl
theorem EC (t:TypeId)(x y:Operand):co P m n R (.makeSlice t x y) dst l ops k s=c9 P m n R (bq P (.makeSlice t x y) s.ev (ab s.H) s.H.length) dst l ops k s:=rfl
theorem HB (t:TypeId)(x:Operand)(a b c:Option Operand):co P m n R (.slice t x a b c) dst l ops k s=c9 P m n R (bq P (.slice t x a b c) s.ev (ab s.H) s.H.length) dst l ops k s:=rfl
theorem ED (t:TypeId)(x:Operand)(f:Nat):co P m n R (.fieldAddr t x f) dst l ops k s=c9 P m n R (bq P (.fieldAddr t x f) s.ev (ab s.H) s.H.length) dst l ops k s:=rfl
theorem EE (t:TypeId)(x y:Operand):co P m n R (.indexAddr t x y) dst l ops k s=c9 P m n R (bq P (.indexAddr t x y) s.ev (ab s.H) s.H.length) dst l ops k s:=rfl
theorem HC (t:TypeId)(x y:Operand):co P m n R (.index t x y) dst l ops k s=c9 P m n R (bq P (.index t x y) s.ev (ab s.H) s.H.length) dst l ops k s:=rfl
theorem Fx (x:Operand)(i:Nat):co P m n R (.extract x i) dst l ops k s=c9 P m n R (bq P (.extract x i) s.ev (ab s.H) s.H.length) dst l ops k s:=rfl
theorem Fy (b:Builtin)(args:Array Operand)(ats:Array TypeId):co P m n R (.call ⟨.builtin b,args,ats⟩) dst l ops k s=c9 P m n R (kn P b ats.toList (args.toList.map s.ev) (ab s.H) s.H.length) dst l ops k s:=rfl
theorem Jv (f:Operand)(args:Array Operand)(ats:Array TypeId):co P m n R (.call ⟨.value f,args,ats⟩) dst l ops k s=jO P m n R (s.ev f) (args.toList.map s.ev) dst l ops k s:=rfl
theorem EF (t:TypeId)(x:Operand):co P m n R (.makeInterface t x) dst l ops k s=c9 P m n R (bq P (.makeInterface t x) s.ev (ab s.H) s.H.length) dst l ops k s:=rfl
def Lm (P:Program)(m n:Nat)(R:Exit→St→Prop)(v:V)(name:String)(args:List V)(dst:Option Tmp)(l:List Oper)(ops:Array Oper)(k:List Fr)(s:St):Prop:=mQ P v name args s.H (hold fun res=>bX P n ops l (s.after dst res) (kQ P m n R k .normal))
theorem Gk (x:Operand)(name:String)(args:Array Operand)(ats:Array TypeId):co P m n R (.call ⟨.invoke x name,args,ats⟩) dst l ops k s=Lm P m n R (s.ev x) name (args.toList.map s.ev) dst l ops k s:=rfl
theorem OV (id:Nat):go P m n R (.region id ops true) k s=eN P m n R ops.toList [] ops k s:=rfl
theorem HD {tr:Tr}:eN P m n R [] tr ops k s=(gi ops tr=true∧gone P m n R k .normal s):=rfl
theorem Gl {tr:Tr}(o:Op)(t:TypeId)(pos:String)(after:Array Edge)(g:Option (Nat×Bool)):eN P m n R (⟨dst,o,t,pos,after,g⟩::l) tr ops k s=(dV n dst∧qx P m n R g o dst l tr ops k s):=by
 unfold eN qx
 rw[dN]
 cases g<;>rfl
theorem Jw {tr:Tr}(o:Op):qx P m n R none o dst l tr ops k s=cA P m n R o dst l tr ops k s:=rfl
theorem Jx {tr:Tr}(j:Nat)(want:Bool)(o:Op)(d:Nat)(h:gd ops j=some d):qx P m n R (some (j,want)) o dst l tr ops k s=(d<n∧pT P m n R (s.get d) want o dst l tr ops k s):=by
 unfold qx
 simp only[h]
theorem E3 {tr:Tr}(b want:Bool)(o:Op):pT P m n R (.bool b) want o dst l tr ops k s=if b=want then cA P m n R o dst l tr ops k s else eN P m n R l (tr++[([],[])]) ops k (s.put dst (.tup [])):=by
 unfold pT gP
 simp only
 by_cases h:b=want
 ·rw[if_pos h];exact propext ⟨fun x=>x.1 h,fun x=>⟨fun _=>x,fun y=>absurd h y⟩⟩
 ·rw[if_neg h];exact propext ⟨fun x=>x.2 h,fun x=>⟨fun y=>absurd y h,fun _=>x⟩⟩
theorem EG {tr:Tr}(want:Bool)(o:Op):pT P m n R (.tup []) want o dst l tr ops k s=eN P m n R l (tr++[([],[])]) ops k (s.put dst (.tup [])):=rfl
theorem Gm {tr:Tr}(r:Res):dL P m n R (some r) dst l tr ops k s=(r.pre∧(∀ x∈r.old,x.1<s.H.length)∧eN P m n R l (tr++[bc s r]) ops k (s.after dst r)):=rfl
theorem Gn {tr:Tr}:dL P m n R none dst l tr ops k s=False:=rfl
theorem zk {tr:Tr}(x:Operand):cA P m n R (.move x) dst l tr ops k s=eN P m n R l (tr++[([],[])]) ops k (s.put dst (s.ev x)):=by
 unfold cA c7 eH
 simp only[bq,true_and]
 have h1:bc s {v:=s.ev x}=([],[]):=by unfold bc;simp
 have h2:s.after dst {v:=s.ev x}=s.put dst (s.ev x):=by unfold St.after St.put cr;simp
 show((∀ y∈([]:List (Nat×Option Blk)),y.1<s.H.length)∧dN P n ops (kQ P m n R k .normal) l (tr++[bc s {v:=s.ev x}]) (s.after dst {v:=s.ev x}))=_
 rw[h1,h2]
 exact propext ⟨fun h=>h.2,fun h=>⟨by simp,h⟩⟩
theorem Fz {tr:Tr}(x:Operand):cA P m n R (.assign x) dst l tr ops k s=eN P m n R l (tr++[([],[])]) ops k (s.put dst (s.ev x)):=zk x
theorem Jy {tr:Tr}(op:BinOp)(t:TypeId)(x y:Operand)(u:TypeId):cA P m n R (.binOp op t x y u) dst l tr ops k s=dL P m n R (lO P op t (s.ev x) (s.ev y) (ab s.H)) dst l tr ops k s:=rfl
theorem Ln {tr:Tr}(op:UnOp)(t:TypeId)(x:Operand):cA P m n R (.unOp op t x) dst l tr ops k s=dL P m n R (nl op (s.ev x)) dst l tr ops k s:=rfl
theorem HE {tr:Tr}(c x y:Operand):cA P m n R (.pick c x y) dst l tr ops k s=dL P m n R (bq P (.pick c x y) s.ev (ab s.H) s.H.length) dst l tr ops k s:=rfl
theorem Gq {tr:Tr}(e:TypeId):cA P m n R (.alloc e) dst l tr ops k s=dL P m n R (bq P (.alloc e) s.ev (ab s.H) s.H.length) dst l tr ops k s:=rfl
theorem Jz {tr:Tr}(e:TypeId)(x:Operand):cA P m n R (.box e x) dst l tr ops k s=dL P m n R (bq P (.box e x) s.ev (ab s.H) s.H.length) dst l tr ops k s:=rfl
theorem Gr {tr:Tr}(t:TypeId)(p:Array (Nat×Operand)):cA P m n R (.build t p) dst l tr ops k s=dL P m n R (bq P (.build t p) s.ev (ab s.H) s.H.length) dst l tr ops k s:=rfl
theorem Ee {tr:Tr}(t:TypeId)(i:Nat)(p:Array (Nat×Operand)):cA P m n R (.buildSlice t i p) dst l tr ops k s=dL P m n R (bq P (.buildSlice t i p) s.ev (ab s.H) s.H.length) dst l tr ops k s:=rfl
theorem HF {tr:Tr}(t:TypeId)(x:Operand):cA P m n R (.load t x) dst l tr ops k s=dL P m n R (bq P (.load t x) s.ev (ab s.H) s.H.length) dst l tr ops k s:=rfl
theorem Gs {tr:Tr}(t:TypeId)(x y:Operand):cA P m n R (.store t x y) dst l tr ops k s=dL P m n R (bq P (.store t x y) s.ev (ab s.H) s.H.length) dst l tr ops k s:=rfl
theorem EH {tr:Tr}(x:Operand):cA P m n R (.nilCheck x) dst l tr ops k s=dL P m n R (bq P (.nilCheck x) s.ev (ab s.H) s.H.length) dst l tr ops k s:=rfl
theorem E4 {tr:Tr}(a b:TypeId)(x:Operand):cA P m n R (.convert a b x) dst l tr ops k s=dL P m n R (oD P a b (s.ev x) (ab s.H) s.H.length) dst l tr ops k s:=rfl
theorem JA {tr:Tr}(t:TypeId)(x:Operand):cA P m n R (.sliceToArrayPointer t x) dst l tr ops k s=dL P m n R (bq P (.sliceToArrayPointer t x) s.ev (ab s.H) s.H.length) dst l tr ops k s:=rfl
theorem EI {tr:Tr}(f:Fn)(a c:Array Operand):cA P m n R (.makeFunc f a c) dst l tr ops k s=dL P m n R (bq P (.makeFunc f a c) s.ev (ab s.H) s.H.length) dst l tr ops k s:=rfl
theorem Ep {tr:Tr}(t:TypeId)(x y:Operand):cA P m n R (.makeSlice t x y) dst l tr ops k s=dL P m n R (bq P (.makeSlice t x y) s.ev (ab s.H) s.H.length) dst l tr ops k s:=rfl
theorem Gt {tr:Tr}(t:TypeId)(x:Operand)(a b c:Option Operand):cA P m n R (.slice t x a b c) dst l tr ops k s=dL P m n R (bq P (.slice t x a b c) s.ev (ab s.H) s.H.length) dst l tr ops k s:=rfl
theorem Er {tr:Tr}(t:TypeId)(x:Operand)(f:Nat):cA P m n R (.fieldAddr t x f) dst l tr ops k s=dL P m n R (bq P (.fieldAddr t x f) s.ev (ab s.H) s.H.length) dst l tr ops k s:=rfl
theorem Es {tr:Tr}(t:TypeId)(x y:Operand):cA P m n R (.indexAddr t x y) dst l tr ops k s=dL P m n R (bq P (.indexAddr t x y) s.ev (ab s.H) s.H.length) dst l tr ops k s:=rfl
theorem Gu {tr:Tr}(t:TypeId)(x y:Operand):cA P m n R (.index t x y) dst l tr ops k s=dL P m n R (bq P (.index t x y) s.ev (ab s.H) s.H.length) dst l tr ops k s:=rfl
theorem E5 {tr:Tr}(x:Operand)(i:Nat):cA P m n R (.extract x i) dst l tr ops k s=dL P m n R (bq P (.extract x i) s.ev (ab s.H) s.H.length) dst l tr ops k s:=rfl
theorem E6 {tr:Tr}(b:Builtin)(args:Array Operand)(ats:Array TypeId):cA P m n R (.call ⟨.builtin b,args,ats⟩) dst l tr ops k s=dL P m n R (kn P b ats.toList (args.toList.map s.ev) (ab s.H) s.H.length) dst l tr ops k s:=rfl
theorem HG {tr:Tr}(f:Operand)(args:Array Operand)(ats:Array TypeId):cA P m n R (.call ⟨.value f,args,ats⟩) dst l tr ops k s=iN P m n R (s.ev f) (args.toList.map s.ev) dst l tr ops k s:=rfl
theorem Et {tr:Tr}(t:TypeId)(x:Operand):cA P m n R (.makeInterface t x) dst l tr ops k s=dL P m n R (bq P (.makeInterface t x) s.ev (ab s.H) s.H.length) dst l tr ops k s:=rfl
def vt (P:Program)(m n:Nat)(R:Exit→St→Prop)(v:V)(name:String)(args:List V)(dst:Option Tmp)(l:List Oper)(tr:Tr)(ops:Array Oper)(k:List Fr)(s:St):Prop:=mQ P v name args s.H (kD P m n R dst l tr ops k s)
theorem FA {tr:Tr}(x:Operand)(name:String)(args:Array Operand)(ats:Array TypeId):cA P m n R (.call ⟨.invoke x name,args,ats⟩) dst l tr ops k s=vt P m n R (s.ev x) name (args.toList.map s.ev) dst l tr ops k s:=rfl
theorem j8 {tr:Tr}{t:TypeId}{v:V}{name:String}{args:List V}{f:FuncId}(h:dK P t name=some f):vt P m n R (.iface t v) name args dst l tr ops k s=iN P m n R (.fn f [] []) (v::args) dst l tr ops k s:=by
 unfold vt mQ
 simp only[h]
 rfl
theorem Gv {f:FuncId}{fs cs args:List V}{v:V}(h:ao P f (fs++args++cs) v)(hk:dW P m n R l ops k (s.put dst v)):jO P m n R (.fn f fs cs) args dst l ops k s:=by
 refine⟨{v:=v},.inl ⟨f,fs,cs,rfl,h.1,trivial,h.2 _ _⟩,?_⟩
 show bX P n ops l (s.after dst _) _
 unfold dW at hk
 have :s.after dst {v:=v}=s.put dst v:=by unfold St.after St.put cr;simp
 rw[this]
 exact hk
theorem ak {f:FuncId}{args:List V}{v:V}(h:ao P f args v)(hk:dW P m n R l ops k (s.put dst v)):jO P m n R (.fn f [] []) args dst l ops k s:=Gv (by simpa using h) hk
theorem FB {tr:Tr}{f:FuncId}{fs cs args:List V}{v:V}(h:ao P f (fs++args++cs) v)(hk:eN P m n R l (tr++[([],[])]) ops k (s.put dst v)):iN P m n R (.fn f fs cs) args dst l tr ops k s:=by
 refine⟨{v:=v},.inl ⟨f,fs,cs,rfl,h.1,trivial,h.2 _ _⟩,?_,?_⟩
 ·intro x hx;cases hx
 ·have h1:bc s {v:=v}=([],[]):=by unfold bc;simp
  have h2:s.after dst {v:=v}=s.put dst v:=by unfold St.after St.put cr;simp
  rw[h1,h2];exact hk
theorem aH {tr:Tr}{f:FuncId}{args:List V}{v:V}(h:ao P f args v)(hk:eN P m n R l (tr++[([],[])]) ops k (s.put dst v)):iN P m n R (.fn f [] []) args dst l tr ops k s:=FB (by simpa using h) hk
theorem pB {f:FuncId}{args:List V}{v:V}(h:oE P f args v)(hk:dW P m n R l ops k (s.put dst v)):jO P m n R (.fn f [] []) args dst l ops k s:=by
 refine⟨{v:=v},.inr (.inl ⟨f,[],[],rfl,rfl,rfl,by simpa using h⟩),?_⟩
 show bX P n ops l (s.after dst _) _
 unfold dW at hk
 have :s.after dst {v:=v}=s.put dst v:=by unfold St.after St.put cr;simp
 rw[this]
 exact hk
theorem uF {tr:Tr}{f:FuncId}{args:List V}{v:V}(h:oE P f args v)(hk:eN P m n R l (tr++[([],[])]) ops k (s.put dst v)):iN P m n R (.fn f [] []) args dst l tr ops k s:=by
 refine⟨{v:=v},.inr (.inl ⟨f,[],[],rfl,rfl,rfl,by simpa using h⟩),?_,?_⟩
 ·intro x hx;cases hx
 ·have h1:bc s {v:=v}=([],[]):=by unfold bc;simp
  have h2:s.after dst {v:=v}=s.put dst v:=by unfold St.after St.put cr;simp
  rw[h1,h2];exact hk
theorem FC {tr:Tr}{nm:String}{t:TypeId}{x:V}{f:FuncId}{args:List V}{v:V}(hm:dK P t nm=some f)(h:ao P f (x::args) v)(hk:eN P m n R l (tr++[([],[])]) ops k (s.put dst v)):iN P m n R (.aFn nm t x) args dst l tr ops k s:=by
 refine⟨{v:=v},.inr (.inr ⟨nm,t,x,f,rfl,hm,h.1,trivial,h.2 _ _⟩),?_,?_⟩
 ·intro y hy;cases hy
 ·have h1:bc s {v:=v}=([],[]):=by unfold bc;simp
  have h2:s.after dst {v:=v}=s.put dst v:=by unfold St.after St.put cr;simp
  rw[h1,h2];exact hk
theorem bf {c:Code}(I:Nat→St→Prop)(h0:∃ j s0,Weak m n s s0∧I j s0)(hr:∀ j s,I j s→m≤s.H.length→go P m n (fo (jP m n I j) (kQ P m n R k)) c [] s):go P m n R (.loop c) k s:=⟨I,h0,hr⟩
theorem Gw (K:St→Prop)(Q:Exit→St→Prop):fo K Q .normal s=K s:=rfl
theorem JB (K:St→Prop)(Q:Exit→St→Prop)(id:Nat):fo K Q (.exit id) s=Q (.exit id) s:=rfl
theorem Lp (K:St→Prop)(Q:Exit→St→Prop):fo K Q .ret s=Q .ret s:=rfl
theorem OW (e:Exit):kQ P m n R k e s=gone P m n R k e s:=rfl
theorem Lq (fn:Func)(K:V→St→Prop):fQ P fn K .ret s=cO P s fn.results.toList fun l=>K (eo l) s:=rfl
theorem Gx (fn:Func)(K:V→St→Prop):fQ P fn K .normal s=cO P s fn.results.toList fun l=>K (eo l) s:=rfl
end
theorem HH (n:Int)(h:(0≤n∧n<256)=True):ofValue (.int .u8 n)= .u8 (BitVec.ofInt 8 n):=if_pos (by rw[h];trivial)
theorem Gy (n:Int)(h:(0≤n∧n<4294967296)=True):ofValue (.int .u32 n)= .u32 (BitVec.ofInt 32 n):=if_pos (by rw[h];trivial)
theorem Gz (n:Int)(h:(0≤n∧n<18446744073709551616)=True):ofValue (.int .u64 n)= .u64 (BitVec.ofInt 64 n):=if_pos (by rw[h];trivial)
theorem GA (n:Int):ofValue (.int .i64 n)= .i64 n:=rfl
theorem GC (n:Int):ofValue (.int .i32 n)= .i32 n:=rfl
theorem FD (b:Bool):ofValue (.bool b)= .bool b:=rfl
theorem GD (b:ByteArray):ofValue (.string b)= .str (bytesOf b):=rfl
theorem Ef:ofValue (.slice none 0 0)= .nilSlice:=rfl
theorem EJ:ofValue (.pointer none)= .nilPtr:=rfl
theorem Eu:ofValue .nilFunc= .nilFn:=rfl
theorem HI (n d:Nat):dV n (some d)=(d<n):=rfl
theorem HJ (n:Nat):dV n none=True:=rfl
theorem Rb (s:St)(t:Tmp):s.ev (.tmp t)=af s.t t:=rfl
theorem Lr (s:St)(v:Value):s.ev (.const v)=ofValue v:=rfl
theorem OX (s:St)(f:FuncId):s.ev (.func f)= .fn f [] []:=rfl
theorem JC (i:Nat)(v:V)(r:List (Nat×V))(t:Nat):af ((i,v)::r) t=if i=t then v else af r t:=rfl
theorem Ls (t:Nat):af [] t= .junk:=rfl
theorem HK (t:List (Nat×V))(H:List (Option Blk))(d:Nat)(res:Res):St.after ⟨t,H⟩ (some d) res=⟨(d,res.v)::t,cr H res.old++res.news⟩:=rfl
theorem HL (t:List (Nat×V))(H:List (Option Blk))(res:Res):St.after ⟨t,H⟩ none res=⟨t,cr H res.old++res.news⟩:=rfl
theorem Lt (t:List (Nat×V))(H:List (Option Blk))(d:Nat)(v:V):St.put ⟨t,H⟩ (some d) v=⟨(d,v)::t,H⟩:=rfl
theorem Lu (t:List (Nat×V))(H:List (Option Blk))(v:V):St.put ⟨t,H⟩ none v=⟨t,H⟩:=rfl
theorem Lv (H:List (Option Blk)):cr H []=H:=rfl
theorem Rc (t:List (Nat×V))(H:List (Option Blk))(i:Nat):St.get ⟨t,H⟩ i=af t i:=rfl
theorem HM (v:V):eo [v]=v:=rfl
theorem HN (v w:V)(l:List V):eo (v::w::l)= .tup (v::w::l):=rfl
theorem Lw (P:Program)(s:St)(K:List V→Prop):cO P s [] K=K []:=rfl
theorem Lx (P:Program)(s:St)(t:Nat)(r:List ResultVar)(K:List V→Prop):cO P s (.tmp t::r) K=cO P s r fun l=>K (s.get t::l):=rfl
attribute [go_sem] OR Ra Jr OS Lf OT go_ret Lg Ec EB EW En Fu EX Js Hv Lh Li Fv EY Gi Hw Hx
attribute [go_sem] Ab Gj Lj OU Jt Hy Lk Hz Eo Ju HA EZ Fw Ll E2 EC HB ED EE HC Fx Fy Jv EF Gk
attribute [go_sem] Gw JB Lp OW Lq Gx HH Gy Gz GA GC FD GD Ef EJ Eu HI HJ Rb Lr OX JC Ls HK HL Lt Lu Lv Rc HM HN Lw Lx
attribute [go_sem] OV HD Gl Jw Jx E3 EG Gm Gn zk Fz Jy Ln HE Gq Jz Gr Ee HF Gs EH E4 JA EI Ep Gt Er Es Gu E5 E6 HG Et FA
attribute [go_sem] bq lO sH oM lW fg tu om oL qv mT nl rQ gd
end Go.Vm
namespace Go.Vm
theorem bL {m n:Nat}{I:Nat→St→Prop}{k:Nat}{s':St}(k':Nat)(s'':St)(hk:k'<k)(ht:∀ p∈s''.t,p.2=s'.get p.1)(hl:s''.H.length=s'.H.length)(hH:∀ b B,ab s''.H b=some B→ab s'.H b=some B)(hi:I k' s''):jP m n I k s':=
 ⟨k',s'',hk,Weak.drop ht hl hH,hi⟩
theorem bP {m n:Nat}{I:Nat→St→Prop}{s:St}(k:Nat)(s0:St)(ht:∀ p∈s0.t,p.2=s.get p.1)(hl:s0.H.length=s.H.length)(hH:∀ b B,ab s0.H b=some B→ab s.H b=some B)(hi:I k s0):∃ k s0,Weak m n s s0∧I k s0:=
 ⟨k,s0,Weak.drop ht hl hH,hi⟩
end Go.Vm
end
