/- Memory: one operation, run by the machine ('RunsTo'). -/
import Derived.Laws.MakeOwn
import Derived.Test.YtgnnehmeciepaaaGreatDoorVmEToVmF
set_option linter.unusedVariables false
set_option linter.unusedSimpArgs false
set_option linter.unusedSectionVars false
set_option maxRecDepth 20000
set_option maxHeartbeats 8000000
namespace Go.Vm
def RunsTo (P:Program)(s:Sem Next)(w:World)(ρ:Nat→Nat×Nat)(dom:Nat→Prop)(get:Nat→Option Blk)(nid:Nat)(res:Res):Prop:=
 ∃ ρ' w' r,(s.run P w= .ok (.value r) w'∨(s.run P w= .ok .skip w'∧r=undef))∧(∀ b,dom b→ρ' b=ρ b)∧
  MemRel ρ' (bZ dom nid res.news.length) (bv get res.old nid res.news) w'∧VR ρ' (bZ dom nid res.news.length) w' res.v r∧Frame ρ get w ρ' (bv get res.old nid res.news) w'
section
variable {ρ:Nat→Nat×Nat}{dom:Nat→Prop}{P:Program}{w:World}{get:Nat→Option Blk}{nid:Nat}
theorem n8 {k:Nat}:∀ b,dom b→bZ dom nid k b:=fun _ h=> .inl h
theorem RunsTo.same {s:Sem Next}{res:Res}{r:Value}(hm:MemRel ρ dom get w)(hs:s.run P w= .ok (.value r) w)(hv:VR ρ dom w res.v r)(ho:res.old=[])(hn:res.news=[]):RunsTo P s w ρ dom get nid res:=by
 refine⟨ρ,w,r,.inl hs,fun _ _=>rfl,?_,?_,?_⟩
 ·rw[ho,hn,lF];exact hm.monoDom n8
 ·exact hv.mono (fun _ _=>rfl) n8 (Lasts.refl w)
 ·rw[ho,hn,lF];exact Frame.refl ρ get w
theorem RunsTo.fresh {s:Sem Next}{res:Res}{r:Value}{w1:World}{c:Array Value}{e:TypeId}{fz:Nat×Nat}{cs:List V}(hm:MemRel ρ dom get w)(hk:Alike w w1)(hd:¬ dom nid)
  (hs:s.run P w= .ok (.value r) (w1.alloc (.cells c e fz))) (hcs:∀ (i:Nat) v,cs[i]?=some v→∃ r,c[i]?=some r∧VR ρ dom w v r) (hfz:∀ i,i<cs.length→¬ (fz.1≤i∧i<fz.2))
  (hv:VR (fJ ρ nid (w.heap.size,0)) (bZ dom nid 1) (w1.alloc (.cells c e fz)) res.v r) (ho:res.old=[]) {mp:Option MapC} (hn:res.news=[some ⟨false,cs,mp⟩]) (hmp:∀ m,mp=some m→cs≠[]∧fz=(0,0):=by intro _ h;cases h):RunsTo P s w ρ dom get nid res:=by
 have hsz:w1.heap.size=w.heap.size:=by rw[hk.heap]
 have h:=Ja (hm.alike hk) hd c e fz cs (fun i v hi=>by
  obtain⟨r,h1,h2⟩:=hcs i v hi
  exact⟨r,h1,h2.mono (fun _ _=>rfl) (fun _ h=>h) hk.lasts⟩) hfz mp hmp
 rw[hsz] at h
 refine⟨fJ ρ nid (w.heap.size,0),_,r,.inl hs,nD hd,?_,?_,?_⟩
 ·rw[ho,hn];exact h.1
 ·rw[hn];exact hv
 ·rw[ho,hn];exact(Frame.alike hk).trans h.2
theorem Bb {B D:Nat}:∀ (vs:List V) (o:Nat),(∀ (i:Nat) v,vs[i]?=some v→∃ r,w.cell? ⟨B,D+(o+i),none⟩=some r∧VR ρ dom w v r)→
  ∃ rs,VRs ρ dom w vs rs∧w.rangeAt B (D+o) rs
 |[],_,_=>⟨[],VRs.nil,fun j v h=>by simp at h⟩
 |v::vs,o,h=>by
  obtain⟨r,h1,h2⟩:=h 0 v rfl
  obtain⟨rs,h3,h4⟩:=Bb vs (o+1) (fun i v hi=>by
   obtain⟨r,h1,h2⟩:=h (i+1) v (by simpa using hi)
   exact⟨r,by rw[show o+1+i=o+(i+1) by omega];exact h1,h2⟩)
  refine⟨r::rs,VRs.cons h2 h3,fun j u hj=>?_⟩
  cases j with
  |zero=>simp at hj;subst hj;simpa using h1
  |succ j=>
   have :=h4 j u (by simpa using hj)
   rw[show D+o+(j+1)=D+(o+1)+j by omega]
   exact this
theorem MemRel.range (hm:MemRel ρ dom get w){b:Nat}{B:Blk}(hb:get b=some B)(o n:Nat):∃ rs,VRs ρ dom w ((B.cs.drop o).take n) rs∧w.rangeAt (ρ b).1 ((ρ b).2+o) rs:=
 Bb _ o fun i v hi=>by
  rw[List.getElem?_take] at hi
  split at hi
  ·rw[List.getElem?_drop] at hi;exact hm.cell b B hb (o+i) v hi
  ·cases hi
theorem Fm {t:TypeId}{n:Nat}(h:al P t=some n):(P.info? t).map (·.size)=some n:=h
theorem zh {t:TypeId}{b:Bool}(h:aF P t=some b):∃ d,P.underlying t=some d∧d.isRow=b:=by
 unfold aF at h
 cases hu:P.underlying t with
 |none=>rw[hu] at h;cases h
 |some d=>
  rw[hu] at h
  refine⟨d,rfl,?_⟩
  cases d<;>simp at h<;>subst h<;>rfl
theorem rq {t:TypeId}{b o s:Nat}{ra:Value}{B:Blk}{bb:Bool}(hm:MemRel ρ dom get w)(ha:VR ρ dom w (.ptr b o) ra)(hb:get b=some B)(ht:aF P t=some bb)(hz:al P t=some s):
  if bb then(o+s≤B.cs.length→∃ r,(Instr.loadAt t ra).run P w= .ok r w∧VR ρ dom w (.agg ((B.cs.drop o).take s)) r)
  else(o<B.cs.length→∃ r,(Instr.loadAt t ra).run P w= .ok r w∧VR ρ dom w (B.cs.getD o .junk) r):=by
 unfold VR at ha
 obtain⟨_,rfl⟩:=ha
 obtain⟨d,hu,hd⟩:=zh ht
 cases bb
 ·simp only[Bool.false_eq_true,if_false]
  intro ho
  obtain⟨r,h1,h2⟩:=hm.cell b B hb o (B.cs.getD o .junk) (by rw[List.getD_eq_getElem?_getD];simp[ho])
  refine⟨r,?_,h2⟩
  have hagg:(isAgg t).run P w= .ok false w:=by
   unfold isAgg
   rw[Sem.run_bind,run_underlying hu w]
   cases d<;>simp_all
  simp[Instr.loadAt,Instr.sureAddr,loadVar,hagg,h1]
 ·simp only[if_true]
  intro ho
  obtain⟨rs,h1,h2⟩:=hm.range hb o s
  refine⟨.agg rs.toArray,run_loadAt_mid w _ _ t rs d h2 hu hd (by rw[Fm hz,h1.length];simp;omega),?_⟩
  unfold VR
  exact⟨_,rfl,by simpa using h1⟩
theorem yw {o:Oper}{t:TypeId}{b p:Nat}{ra rx:Value}{x:V}{cs:List V}{mp:Option MapC}(hm:MemRel ρ dom get w)(ha:VR ρ dom w (.ptr b p) ra)(hx:VR ρ dom w x rx)(hmp:∀ m,mp=some m→cs≠[])(hb:get b=some ⟨false,cs,mp⟩)
  (hz:al P t=some x.cells.length) (hle:p+x.cells.length≤cs.length) (h1:∀ u∈x.cells,u.one=true):
  RunsTo P (do Instr.storeAt t ra rx;pure .skip:Sem Next) w ρ dom get nid {v:= .junk,old:=[(b,some ⟨false,splice cs p x.cells,mp⟩)]}:=by
 unfold VR at ha
 obtain⟨_,rfl⟩:=ha
 have hj:x≠ .junk:=fun e=>by subst e;have :=h1 .junk (by simp[V.cells]);simp[V.one] at this
 have hj2:∀ l,x≠ .tup l:=fun l e=>by subst e;have :=h1 (.tup l) (by simp[V.cells]);simp[V.one] at this
 have hc:=uA hj hj2 hx
 have hl:=hc.length
 have hone:∀ u∈rx.cells.toList,u.oneCell'=true:=fun u hu=>by
  obtain⟨i,hi,rfl⟩:=List.mem_iff_getElem.1 hu
  obtain⟨r,g1,g2⟩:=hc.get (i:=i) (v:=x.cells[i]'(by omega)) (by simp)
  rw[List.getElem?_eq_getElem hi] at g1
  injection g1 with g1
  rw[g1]
  exact qU (h1 _ (List.getElem_mem _)) g2
 have hst:=run_storeCells_cells (P:=P) (ρ b).1 ((ρ b).2+p) rx.cells.toList 0 w (fun j hj=>by
   obtain⟨u,hu,_⟩:=hm.cell b _ hb (p+j) (cs[p+j]'(by omega)) (by simp)
   rw[show(ρ b).2+p+0+j=(ρ b).2+(p+j) by omega,hu];rfl) (fun j hj=>by
   have :=hm.free b _ hb rfl (p+j) (by show p+j<cs.length;omega)
   rw[show(ρ b).2+p+0+j=(ρ b).2+(p+j) by omega];exact this) hone
 simp only[Nat.add_zero] at hst
 obtain⟨g1,g2⟩:=qT (nid:=nid) hm hmp hb hc (by omega)
 refine⟨ρ,_,undef,.inr ⟨?_,rfl⟩,fun _ _=>rfl,g1,by unfold VR;trivial,g2⟩
 have hs:(sizeOf t).run P w= .ok x.cells.length w:=by
  unfold al at hz
  cases hi:P.info? t with
  |none=>rw[hi] at hz;cases hz
  |some i=>rw[hi] at hz;injection hz with hz;simp[sizeOf,typeInfo,hi,hz]
 have hsz:rx.cells.size=x.cells.length:=by rw[←hl];simp
 simp[Instr.storeAt,Instr.sureAddr,storeVar,hs,hsz,hst]
theorem px {e:TypeId}{z:List V}(h:aG P e=some z):∃ i zv,P.info? e=some i∧i.zero=some zv∧z=zv.cells.toList.map ofValue:=by
 unfold aG at h
 cases hi:P.info? e with
 |none=>rw[hi] at h;cases h
 |some i=>
  rw[hi] at h
  simp only[Option.bind_some] at h
  cases hz:i.zero with
  |none=>rw[hz] at h;cases h
  |some zv=>rw[hz] at h;injection h with h;exact⟨i,zv,rfl,hz,h.symm⟩
theorem pN (zv:Value):VRs ρ dom w (zv.cells.toList.map ofValue) zv.cells.toList:=
 VRs.of_get (by simp) fun i v r hv hr=>by
  rw[List.getElem?_map,hr] at hv
  injection hv with hv
  subst hv
  exact ug r
theorem zQ {s:Sem Next}{e:TypeId}{c:Array Value}{cs:List V}(hm:MemRel ρ dom get w)(hd:¬ dom nid)(hc:VRs ρ dom w cs c.toList)
  (hs:s.run P w= .ok (.value (.pointer (some ⟨w.heap.size,0,none⟩))) (w.alloc (.cells c e))) {mp:Option MapC} (hmp:∀ m,mp=some m→cs≠[]:=by intro _ h;cases h):RunsTo P s w ρ dom get nid {v:= .ptr nid 0,news:=[some ⟨false,cs,mp⟩]}:=
 RunsTo.fresh hm (Alike.refl w) hd hs (fun i v hi=>by
  obtain⟨r,h1,h2⟩:=hc.get hi
  exact⟨r,by simpa using h1,h2⟩) (fun i _ h=>by have :=h.2;simp at this) (by
  unfold VR
  exact⟨.inr ⟨by omega,by omega⟩,by rw[dO]⟩) rfl rfl fun m h=>⟨hmp m h,rfl⟩
theorem Gc {e:TypeId}{z:List V}(h:aG P e=some z)(hm:MemRel ρ dom get w)(hd:¬ dom nid):
  RunsTo P (do pure (.value (←Instr.alloc e true (.tuple #[]))):Sem Next) w ρ dom get nid {v:= .ptr nid 0,news:=[some ⟨false,z,aL P e⟩]}:=by
 have hz:=h
 obtain⟨i,zv,h1,h2,rfl⟩:=px h
 refine zQ (e:=e) (c:=zv.cells) hm hd (pN zv) ?_ fun m hm2 e2=>?_
 rotate_left
 ·unfold aL at hm2;rw[hz,e2] at hm2;cases hm2
 simp[Instr.alloc,zeroValue,typeInfo,h1,h2,newVar,newRow]
theorem zR {e:TypeId}{x:V}{rx:Value}(hx:VR ρ dom w x rx)(hj:x≠ .junk)(hj2:∀ l,x≠ .tup l)(hm:MemRel ρ dom get w)(hd:¬ dom nid){mp:Option MapC}(hmp:∀ m,mp=some m→x.cells≠[]:=by intro _ h;cases h):
  RunsTo P (do pure (.value (←Instr.box e rx)):Sem Next) w ρ dom get nid {v:= .ptr nid 0,news:=[some ⟨false,x.cells,mp⟩]}:=by
 refine zQ (e:=e) (c:=rx.cells) hm hd (uA hj hj2 hx) ?_ hmp
 simp[Instr.box,newVar,newRow]
theorem xU:∀ (vs:List Value) (k off:Nat) (cs:Array Value) (i:Nat),off+k+vs.length≤cs.size→
  ((vs.zipIdx k).foldl (fun cs (x:Value×Nat)=>cs.setIfInBounds (off+x.2) x.1) cs)[i]?=if off+k≤i∧i<off+k+vs.length then vs[i-(off+k)]? else cs[i]?
 |[],k,off,cs,i,_=>by
  simp only[List.zipIdx_nil,List.foldl_nil,List.length_nil,Nat.add_zero]
  rw[if_neg (by omega)]
 |v::vs,k,off,cs,i,h=>by
  simp only[List.length_cons] at h
  rw[List.zipIdx_cons,List.foldl_cons,xU vs (k+1) off _ i (by simp;omega)]
  simp only[List.length_cons]
  by_cases h1:off+(k+1)≤i∧i<off+(k+1)+vs.length
  ·rw[if_pos h1,if_pos (by omega),show i-(off+k)=(i-(off+(k+1)))+1 by omega]
   simp
  ·rw[if_neg h1]
   by_cases h2:i=off+k
   ·subst h2
    rw[if_pos (by omega),Array.getElem?_setIfInBounds_self_of_lt (by omega)]
    simp
   ·rw[if_neg (by omega),Array.getElem?_setIfInBounds_ne (by omega)]
theorem xO:∀ (vs:List (Value×Nat)) (off:Nat) (cs:Array Value),(vs.foldl (fun cs (x:Value×Nat)=>cs.setIfInBounds (off+x.2) x.1) cs).size=cs.size
 |[],_,_=>rfl
 |v::vs,off,cs=>by rw[List.foldl_cons,xO vs];simp
theorem rt {place:Nat→Option (Nat×Nat)}:∀ (parts:List (Nat×V)) (rparts:List (Nat×Value)) (vc cs:List V) (rc:Array Value),
  rparts.length=parts.length→(∀ (i:Nat) x y,parts[i]?=some x→rparts[i]?=some y→x.1=y.1∧VR ρ dom w x.2 y.2)→ip place vc parts=some cs→VRs ρ dom w vc rc.toList→
  ∃ rc',Instr.fill place rc rparts=some rc'∧VRs ρ dom w cs rc'.toList
 |[],[],vc,cs,rc,_,_,h,hv=>by
  simp only[ip,Option.some.injEq] at h
  subst h
  exact⟨rc,rfl,hv⟩
 |[],_::_,_,_,_,hl,_,_,_=>by simp at hl
 |_::_,[],_,_,_,hl,_,_,_=>by simp at hl
 |(i,v)::parts,(i',r)::rparts,vc,cs,rc,hl,hp,h,hv=>by
  obtain⟨e,hvr⟩:=hp 0 _ _ rfl rfl
  simp only at e
  subst e
  simp only[ip] at h
  simp only[Instr.fill]
  cases hpl:place i with
  |none=>rw[hpl] at h;cases h
  |some os=>
   obtain⟨off,size⟩:=os
   rw[hpl] at h
   simp only at h ⊢
   split at h
   case isFalse=>cases h
   rename_i hc
   obtain⟨hso,hsz,hle⟩:=hc
   have hj:v≠ .junk:=fun e=>by subst e;simp[V.solid] at hso
   have hj2:∀ l,v≠ .tup l:=fun l e=>by subst e;simp[V.solid] at hso
   have hcs:=uA hj hj2 hvr
   have hlr:r.cells.size=size:=by have :=hcs.length;simp at this;omega
   have hlc:rc.size=vc.length:=by have :=hv.length;simpa using this
   rw[if_neg (by simp only[Bool.or_eq_true,decide_eq_true_eq,ne_eq,not_or];exact⟨by simpa using hlr,by omega⟩)]
   refine rt parts rparts _ cs _ (by simpa using hl) (fun j x y hx hy=>hp (j+1) x y (by simpa using hx) (by simpa using hy)) h ?_
   refine VRs.of_get ?_ fun j x y hx hy=>?_
   ·simp only[Array.length_toList]
    rw[←Array.foldl_toList,Array.toList_zipIdx,xO,hlc,mh (by omega)]
   ·rw[rp (by omega)] at hx
    have hy':(Array.foldl (fun cs (x:Value×Nat)=>cs.setIfInBounds (off+x.2) x.1) rc r.cells.zipIdx)[j]?=some y:=by rw[←hy];simp
    rw[←Array.foldl_toList,Array.toList_zipIdx,xU _ 0 off rc j (by simp;omega)] at hy'
    simp only[Nat.add_zero,Array.length_toList] at hy'
    by_cases hi:off≤j∧j<off+v.cells.length
    ·rw[if_pos hi] at hx
     rw[if_pos (by omega)] at hy'
     obtain⟨r',g1,g2⟩:=hcs.get hx
     rw[hy'] at g1;injection g1 with g1;subst g1;exact g2
    ·rw[if_neg hi] at hx
     rw[if_neg (by omega)] at hy'
     obtain⟨r',g1,g2⟩:=hv.get hx
     have :rc.toList[j]?=some y:=by rw[←hy'];simp
     rw[this] at g1;injection g1 with g1;subst g1;exact g2
theorem yd {t:TypeId}{z cs:List V}{k:List (Nat×Nat) ⊕ Nat}{parts:List (Nat×V)}{rparts:Array (Nat×Value)}(h:aX P t=some (z,k))(hl:rparts.size=parts.length)
  (hp:∀ (i:Nat) x y,parts[i]?=some x→rparts.toList[i]?=some y→x.1=y.1∧VR ρ dom w x.2 y.2)
  (hf:ip (match k with| .inl pl=>fun i=>pl[i]?| .inr s=>fun i=>some (i*s,s)) z parts=some cs):∃ r,(Instr.build t rparts).run P w= .ok r w∧VR ρ dom w (.agg cs) r:=by
 unfold aX at h
 cases hz:aG P t with
 |none=>rw[hz] at h;simp at h
 |some z'=>
  obtain⟨i,zv,hi,hzv,rfl⟩:=px hz
  cases hu:P.underlying t with
  |none=>rw[hz,hu] at h;simp at h
  |some d=>
   rw[hz,hu] at h
   have fin:∀ rc,P.built t rparts.toList=some rc→VRs ρ dom w cs rc.toList→∃ r,(Instr.build t rparts).run P w= .ok r w∧VR ρ dom w (.agg cs) r:=fun rc h1 h2=>
    ⟨.agg rc,run_build w t rparts rc h1,by unfold VR;exact⟨_,rfl,h2⟩⟩
   cases d<;>simp only[Option.map_eq_some_iff,seval,Prod.mk.injEq] at h
   case struct fs=>
    obtain⟨pl,hpl,rfl,rfl⟩:=h
    obtain⟨rc,h1,h2⟩:=rt parts rparts.toList _ cs zv.cells (by simpa using hl) hp hf (pN zv)
    refine fin rc ?_ h2
    unfold Program.built
    simp only[hi,hu,hzv,hpl]
    simpa using h1
   case array n e=>
    obtain⟨s,hs,rfl,rfl⟩:=h
    obtain⟨rc,h1,h2⟩:=rt parts rparts.toList _ cs zv.cells (by simpa using hl) hp hf (pN zv)
    refine fin rc ?_ h2
    unfold al at hs
    cases hie:P.info? e with
    |none=>rw[hie] at hs;cases hs
    |some ie=>
     rw[hie] at hs
     injection hs with hs
     unfold Program.built
     simp only[hi,hu,hzv,hie,hs]
     exact h1
end
end Go.Vm
