/- Proved: laws of a machine of values, or what a function answers; no conditions but each theorem's own. -/
import Derived.Maps.RangeRun
import Derived.Test.YtgnnehmeciepaaaGreatDoorVmTToTot2
import Derived.Test.YtgnnehmeciepaaaGreatDoorVmZToVmS
set_option linter.unusedVariables false
set_option linter.unusedSimpArgs false
set_option linter.unusedSectionVars false
set_option maxRecDepth 20000
set_option maxHeartbeats 8000000
section
namespace Go.Vm
section
open Go Go.RowKit
open Go.ChangeMaps (setBlock)
section
variable {P:Program}{m n:Nat}
def GS (P:Program)(m n:Nat)(c:Code)(Q:Exit→St→Prop)(s:St):Prop:=
 ∀ (ρ:Nat→Nat×Nat) (a:Act) (w:World),RelSt ρ n s a w→m≤s.H.length→c.wp P (sS m n ρ s w Q) a w
theorem lw (hmix:P.follows .mixedOrders=true){c:Code}{Q:Exit→St→Prop}{s:St}(h:vc P m n c Q s):GS P m n c Q s:=fun ρ a w hr hm=>jK hmix c Q s h ρ a w hr hm
theorem lL {x y:Code}{K:St→Prop}{Q:Exit→St→Prop}{s:St}(hx:GS P m n x (fo K Q) s)(hy:∀ s',K s'→GS P m n y Q s'):GS P m n (.seq x y) Q s:=fun ρ a w hr hm=>by
 refine wp_seq (wp_mono (hx ρ a w hr hm) ?_)
 rintro e a' w' ⟨s',ρ',q1,q2,q3⟩
 cases e
 case normal=>exact wp_mono (hy s' q1 ρ' a' w' q2 q3.1) fun e a'' w'' ⟨s'',ρ'',r1,r2,r3⟩=>⟨s'',ρ'',r1,r2,q3.trans r3⟩
 all_goals exact⟨s',ρ',q1,q2,q3⟩
theorem Bp {m:Nat}{ops:Array Oper}{Q:Exit→Act→World→Prop}{l2:List Nat}{ρ:Nat→Nat×Nat}{a:Act}{w:World}:∀ (l:List Nat) (os:List Oper) (s:St) (K:St→Prop),l.map (ops[·]?)=os.map some→(∀ o∈os,o.guard=none)→bX P n ops os s K→∀ (ρ:Nat→Nat×Nat) (a:Act) (w:World),RelSt ρ n s a w→m≤s.H.length→
  (∀ a' w',tv m n ρ s w K a' w'→wpOps P ops Q l2 a' w')→wpOps P ops Q (l++l2) a w
 |[],[],s,K,_,_,h,ρ,a,w,hr,hm,hq=>hq a w ⟨s,ρ,h,hr,Step.refl hm⟩
 |[],_::_,_,_,hl,_,_,_,_,_,_,_,_=>by simp at hl
 |_::_,[],_,_,hl,_,_,_,_,_,_,_,_=>by simp at hl
 |i::l,o::os,s,K,hl,hg0,h,ρ,a,w,hr,hm,hq=>by
  simp only[List.map_cons,List.cons.injEq] at hl
  obtain⟨ho,hl⟩:=hl
  obtain⟨hd,h⟩:=h
  have hg:=hg0 o (by simp)
  rw[hg] at h
  have hw:Region.wanted o (yielded ops a.tmps)=true:=by unfold Region.wanted;rw[hg]
  obtain⟨res,h1,h2⟩:=uC h
  simp only[List.cons_append,wpOps,ho,hw,if_true]
  refine .inl (h1 ρ (· <s.H.length) (ab s.H) w a _ Q (fun x _=>hr.tmps.eval x) hr.mem (fun _ _=>⟨rfl,id⟩) (fun b hb1 hb2 (hb3:b<s.H.length)=>by omega) ?_)
  intro ρ' w' r g1 g2 g3 g4
  obtain⟨k1,k2⟩:=zY (m:=m) hr hm hd g1 g2 g3 g4
  refine Bp (a:=a) (w:=w) (ρ:=ρ) l os _ K hl (fun o ho=>hg0 o (by simp[ho])) h2 ρ' _ w' k1 k2.1 fun a' w'' ⟨s',ρ'',q1,q2,q3⟩=>hq a' w'' ⟨s',ρ'',q1,q2,k2.trans q3⟩
theorem yJ {m0:Nat}{ρ:Nat→Nat×Nat}{s:St}{a:Act}{w:World}{tit:Tmp}(hr:RelSt ρ n s a w)(hm:m0≤s.H.length)(ht:tit<n)(o:Obj):
  let ρ1:=fun k=>if k=s.H.length then(w.heap.size,0) else ρ k
  let s1:St:=⟨eB s.t (some tit) (.ptr s.H.length 0),s.H++[none]⟩
  RelSt ρ1 n s1 (a.put (some tit) (.pointer (some ⟨w.heap.size,0,none⟩))) (w.alloc o)∧Step m0 ρ s w ρ1 s1 (w.alloc o):=by
 intro ρ1 s1
 have hlen:s1.H.length=s.H.length+1:=by simp[s1]
 have hget:∀ b B,ab s1.H b=some B→ab s.H b=some B∧b<s.H.length:=fun b B hB=>by
  have hB:((s.H++[none])[b]?).join=some B:=hB
  by_cases hb:b<s.H.length
  ·rw[List.getElem?_append_left hb] at hB;exact⟨hB,hb⟩
  ·rw[List.getElem?_append_right (by omega)] at hB
   by_cases hb2:b-s.H.length=0
   ·rw[hb2] at hB;simp at hB
   ·rw[List.getElem?_eq_none (by simp;omega)] at hB;simp at hB
 have hρ:∀ b,b<s.H.length→ρ1 b=ρ b:=fun b hb=>if_neg (by omega)
 have hlast:Lasts w (w.alloc o):=uw w _
 have hold:∀ r,r<w.heap.size→(w.alloc o).heap[r]?=w.heap[r]?:=fun r h=>Below.heap_alloc w _ r h
 have hsize:(w.alloc o).heap.size=w.heap.size+1:=Array.size_push ..
 have hcell:∀ b B,ab s.H b=some B→∀ i,(w.alloc o).cell? ⟨(ρ b).1,i,none⟩=w.cell? ⟨(ρ b).1,i,none⟩:=fun b B hB i=>World.cell?_of_block (hold _ (hr.mem.lt b B hB))
 have hfroz:∀ b B,ab s.H b=some B→∀ i,(w.alloc o).frozen? ⟨(ρ b).1,i,none⟩=w.frozen? ⟨(ρ b).1,i,none⟩:=fun b B hB i=>World.frozen?_of_block (hold _ (hr.mem.lt b B hB))
 have hdom:∀ b,b<s.H.length→b<s1.H.length:=fun b hb=>by omega
 refine⟨⟨?_,?_⟩,⟨by omega,fun b hb=>hρ b (by omega),?_⟩⟩
 ·refine RelT.put (hr.tmps.mono hρ hdom hlast) (show dV n (some tit) from ht) ?_
  unfold VR
  refine⟨by omega,?_⟩
  show _=Value.pointer (some ⟨(ρ1 s.H.length).1,(ρ1 s.H.length).2+0,none⟩)
  have e:ρ1 s.H.length=(w.heap.size,0):=if_pos rfl
  rw[e]
 ·refine⟨fun b B hB=>hdom b (hget b B hB).2,fun b B hB=>?_,fun b b' B B' hB hB' hro hne=>?_,fun b B hB i v hv=>?_,fun b B hB ho i hi=>?_,fun b B mm hB hmp=>?_⟩
  ·obtain⟨h1,h2⟩:=hget b B hB
   rw[hρ b h2,hsize]
   have :=hr.mem.lt b B h1
   omega
  ·obtain⟨h1,h2⟩:=hget b B hB
   obtain⟨h3,h4⟩:=hget b' B' hB'
   rw[hρ b h2,hρ b' h4]
   exact hr.mem.inj b b' B B' h1 h3 hro hne
  ·obtain⟨h1,h2⟩:=hget b B hB
   obtain⟨r,g1,g2⟩:=hr.mem.cell b B h1 i v hv
   exact⟨r,by rw[hρ b h2,hcell b B h1];exact g1,g2.mono hρ hdom hlast⟩
  ·obtain⟨h1,h2⟩:=hget b B hB
   rw[hρ b h2,hfroz b B h1]
   exact hr.mem.free b B h1 ho i hi
  ·obtain⟨h1,h2⟩:=hget b B hB
   rw[hρ b h2]
   exact iK (hr.mem.mapc b B mm h1 hmp) (hold _ (hr.mem.lt b B h1))
 ·refine⟨rfl,rfl,rfl,by omega,fun r hr2 _=>hold r hr2,hlast,fun b B hB ho=>?_⟩
  obtain⟨h1,h2⟩:=hget b B hB
  exact .inl ⟨b,B,h1,ho,by rw[hρ b h2]⟩
structure Beside (o:Obj) (b:Nat) (w0:World) (ρ:Nat→Nat×Nat) (s:St) (w:World):Prop where
 lt:b<s.H.length
 zero:(ρ b).2=0
 young:w0.heap.size≤(ρ b).1
 here:w.heap[(ρ b).1]?=some o
 own:∀ b' B,ab s.H b'=some B→B.ro=false→(ρ b').1≠(ρ b).1
theorem Beside.step {o:Obj}{b:Nat}{w0 w w':World}{ρ ρ':Nat→Nat×Nat}{s s':St}(h:Beside o b w0 ρ s w)(k:Step m ρ s w ρ' s' w')(hb:b<m):Beside o b w0 ρ' s' w':=by
 obtain⟨k1,k2,k3⟩:=k
 have e:=k2 b hb
 have hlt:(ρ b).1<w.heap.size:=(Array.getElem?_eq_some_iff.1 h.here).1
 refine⟨by omega,by rw[e];exact h.zero,by rw[e];exact h.young,?_,?_⟩
 ·rw[e,k3.keep _ hlt (fun b' B h1 h2=>h.own b' B h1 h2)];exact h.here
 ·intro b' B hB hro
  rw[e]
  rcases k3.own b' B hB hro with⟨b0,B0,g1,g2,g3⟩|g
  ·rw[←g3];exact h.own b0 B0 g1 g2
  ·omega
def dk (bm since:Nat)(seen:List Nat)(c0:Nat):Obj:= .mapIter (some bm) since seen.toArray c0
section
variable {a:Act}{w w0:World}{ρ:Nat→Nat×Nat}{s:St}{k bm since c0 bm' since' c0':Nat}{seen seen':List Nat}
theorem RelSt.turnIt (hr:RelSt ρ n s a w)(h:w.heap[k]?=some (dk bm since seen c0))(o:Obj):RelSt ρ n s a (setBlock w k o):=by
 have hl:Lasts w (setBlock w k o):=uc h rfl
 have hne:∀ b B (i:Nat) v,ab s.H b=some B→B.cs[i]?=some v→(ρ b).1≠k:=fun b B i v hB hv e=>by
  obtain⟨r,g1,_⟩:=hr.mem.cell b B hB i v hv
  rw[e,zV h rfl] at g1
  cases g1
 refine⟨hr.tmps.mono (fun _ _=>rfl) (fun _ h=>h) hl,hr.mem.has,fun b B hB=>by rw[qG];exact hr.mem.lt b B hB,hr.mem.inj,
  fun b B hB i v hv=>?_,fun b B hB ho i hi=>?_,fun b B mm hB hmp=>?_⟩
 ·obtain⟨r,g1,g2⟩:=hr.mem.cell b B hB i v hv
  exact⟨r,by rw[World.cell?_of_block (w:=w) (i9 w o (hne b B i v hB hv))];exact g1,g2.mono (fun _ _=>rfl) (fun _ h=>h) hl⟩
 ·rw[World.frozen?_of_block (w:=w) (i9 w o (hne b B i _ hB (List.getElem?_eq_getElem hi)))]
  exact hr.mem.free b B hB ho i hi
 ·have g:=hr.mem.mapc b B mm hB hmp
  cases hc:B.cs with
  |nil=>
   rw[hc] at g
   change w.heap[(ρ b).1]?=_ at g
   have hne:(ρ b).1≠k:=fun e=>by rw[e,h] at g;cases g
   show(setBlock w k o).heap[(ρ b).1]?=_
   rw[i9 w o hne];exact g
  |cons x cs=>
   rw[hc] at g
   exact iK (cs:=x::cs) g (i9 w o (hne b B 0 x hB (by rw[hc];rfl)))
theorem Step.turnIt {m0:Nat}{ρ0:Nat→Nat×Nat}{s0:St}(h:Step m0 ρ0 s0 w0 ρ s w)(hk:w.heap[k]?=some (dk bm since seen c0))(hy:w0.heap.size≤k)(o:Obj):Step m0 ρ0 s0 w0 ρ s (setBlock w k o):=
 ⟨h.1,h.2.1,h.2.2.os,h.2.2.output,h.2.2.tape,by rw[qG];exact h.2.2.size,
  fun r hr hb=>by rw[i9 w o (by omega)];exact h.2.2.keep r hr hb,
  h.2.2.lasts.trans (uc hk rfl),h.2.2.own⟩
theorem RelSt.drew (hr:RelSt ρ n s a w):RelSt ρ n s a w.drew:=
 ⟨hr.tmps.mono (fun _ _=>rfl) (fun _ h=>h) (Alike.drew w).lasts,hr.mem.alike (Alike.drew w)⟩
theorem Step.drew {m0:Nat}{ρ0:Nat→Nat×Nat}{s0:St}(h:Step m0 ρ0 s0 w0 ρ s w):Step m0 ρ0 s0 w0 ρ s w.drew:=
 ⟨h.1,h.2.1,h.2.2.os,h.2.2.output,h.2.2.tape,h.2.2.size,h.2.2.keep,h.2.2.lasts,h.2.2.own⟩
end
end
theorem n9 {P:Program}{m n:Nat}{c:Code}{Q:Exit→St→Prop}{s s1:St}(h:GS P m n c Q s1)(hw:Weak m n s s1):GS P m n c Q s:=fun ρ a w hr hm=>by
 obtain⟨ρ1,h1,h2⟩:=hw.go ρ a w hr hm
 refine wp_mono (h ρ1 a w h1 h2.1) ?_
 rintro e a' w' ⟨s',ρ',q1,q2,q3⟩
 exact⟨s',ρ',q1,q2,h2.trans q3⟩
theorem lI {P:Program}{n:Nat}{ops:Array Oper}{l:List Oper}{s:St}{K:St→Prop}(h:dW P 0 n (fun _ s=>K s) l ops [] s):bX P n ops l s K:=h
theorem qZ {P:Program}{f:FuncId}{fn:Func}{c:Code}{args:List V}{h h':List (Option Blk)}{v:V}(hf:P.funcs[f]?=some fn)(hb:fn.body=some c)(hn:args.length≤fn.ntmps)
  (hv:GS P h.length fn.ntmps c (fQ P fn (Fin h.length v h')) ⟨fg args 0,h⟩):ag P f args h v h':=by
 intro ρ w rargs ha hm
 have hal:=ha.length
 refine calls_of_wp hf hb (wp_mono (hv ρ _ w ⟨⟨?_,rfl,fun t=>?_⟩,hm⟩ (Nat.le_refl _)) ?_)
 ·have :rargs.size=args.length:=by simpa using hal
  simp;omega
 ·show VR _ _ _ (af (fg args 0) t) _
  rw[vq]
  split
  ·rename_i ht
   obtain⟨r,g1,g2⟩:=ha.get (i:=t) (v:=args.getD t .junk) (by rw[List.getD_eq_getElem?_getD,List.getElem?_eq_getElem (by omega)];rfl)
   have hlt:t<rargs.size:=by simpa using(List.getElem?_eq_some_iff.1 g1).1
   simp only[Nat.sub_zero]
   have :(rargs++Array.replicate (fn.ntmps-rargs.size) undef).getD t undef=r:=by
    rw[Array.getD_eq_getD_getElem?,Array.getElem?_append_left hlt]
    have :rargs[t]?=some r:=by rw[←g1];simp
    rw[this];rfl
   rw[this];exact g2
  ·unfold VR;trivial
 ·rintro e a' w' ⟨s',ρ',q1,q2,q3⟩
  have fin:(cO P s' fn.results.toList fun l=>Fin h.length v h' (eo l) s')→∃ r,(results fn a'.tmps).run P w'= .ok r w'∧(∃ r' ρ',Ending.returned r= .returned r'∧VR ρ' (· <h'.length) w' v r'∧MemRel ρ' (· <h'.length) (ab h') w'∧h.length≤h'.length∧(∀ b,b<h.length→ρ' b=ρ b)∧Frame ρ (ab h) w ρ' (ab h') w'):=fun q=>by
   obtain⟨v1,r,g1,g2,g3⟩:=xX q2 q
   obtain⟨ρ2,k1,k2,k3,k4⟩:=g1.2 ρ' w' r g2 q2.mem q3.1
   exact⟨r,g3,r,ρ2,rfl,k1,k2,g1.1,fun b hb=>(k3 b hb).trans (q3.2.1 b hb),q3.2.2.less k4⟩
  cases e
  case normal=>exact⟨q2.tmps.defers,fin q1⟩
  case ret=>exact⟨q2.tmps.defers,fin q1⟩
  all_goals exact q1.elim
end
section
open Go Go.RowKit
open Go.ChangeMaps (setBlock)
section
variable {P:Program}{m n:Nat}
theorem EK {w:World}{t k e:TypeId}{r:Nat}{c:MapC}(ht:P.underlying t=some (.map k e))(hb:w.heap[r]?=some c.obj):
  (Instr.range t (.map (some r))).run P w= .ok (.pointer (some ⟨w.heap.size,0,none⟩)) (w.alloc (dk r c.clock [] c.clock)):=by
 unfold MapC.obj at hb
 exact run_range_map w t k e r _ c.clock ht hb
theorem E9 {w:World}{ty:TypeId}{r b since c0:Nat}{seen:List Nat}{c:MapC}(hr:w.heap[r]?=some (dk b since seen c0))(hb:w.heap[b]?=some c.obj)(hold:∀ e∈c.es,e.1<since)(hsc:since≤c0):
  ((∀ e∈c.es,e.1∈seen)∧(Instr.next (.pointer (some ⟨r,0,none⟩)) false ty).run P w= .ok (.tuple #[.bool false]) w)∨
  ∃ e∈c.es,e.1∉seen∧∃ w1:World,(w1=w∨w1=w.drew)∧(Instr.next (.pointer (some ⟨r,0,none⟩)) false ty).run P w= .ok (.tuple #[.bool true,(cx e).key,(cx e).val]) (setBlock w1 r (dk b since (seen++[e.1]) c.clock)):=by
 unfold MapC.obj at hb
 rcases run_next_at w ty r b since c0 seen.toArray _ c.clock hr hb (by
  intro x hx
  have hx:x∈c.es.map cx:=hx
  obtain⟨e,he,rfl⟩:=List.mem_map.1 hx
  exact hold e he) hsc with⟨h1,h2⟩|⟨e',he,w1,h1,h2⟩
 ·refine .inl ⟨fun e he=>?_,h2⟩
  have :=all_seen _ _ h1 (cx e) (show cx e∈c.es.map cx from List.mem_map.2 ⟨e,he,rfl⟩)
  simpa [cx] using this
 ·obtain⟨h3,h4⟩:=mem_left he
  have h3:e'∈c.es.map cx:=h3
  obtain⟨e,he2,rfl⟩:=List.mem_map.1 h3
  refine .inr ⟨e,he2,by simpa [cx] using h4,w1,h1,?_⟩
  rw[h2]
  unfold dk
  simp[cx]
theorem EL {w:World}{r b since:Nat}{seen:List Nat}{c:MapC}{e:Nat×BitVec 32×Int}(hr:w.heap[r]?=some (dk b since (seen++[e.1]) c.clock))(hb:w.heap[b]?=some c.obj)(he:e∈c.es)(hn:(c.es.map (·.1)).Nodup):
  (Instr.entry (.pointer (some ⟨r,0,none⟩))).run P w= .ok (.tuple #[(cx e).key,(cx e).val]) w:=by
 unfold MapC.obj at hb
 refine run_entry_at w r b since seen.toArray _ c.clock (cx e) ?_ hb (show cx e∈c.es.map cx from List.mem_map.2 ⟨e,he,rfl⟩) ?_
 ·rw[hr]
  unfold dk
  simp[cx]
 ·have :(c.es.map cx).toArray.toList.map (·.born)=c.es.map (·.1):=by
   simp only[List.map_map]
   exact List.map_congr_left fun _ _=>rfl
  rw[this];exact hn
theorem uI {m1 id:Nat}{o:Oper}{os:List Oper}{ops:Array Oper}{tn:Tmp}{v:V}{r:Value}{s:St}{a:Act}{w w':World}{ρ:Nat→Nat×Nat}{K:St→Prop}{Q:Exit→Act→World→Prop}
  (hops:ops.toList=o::os) (hg:o.guard=none) (hd:o.dst=some tn) (hrun:(execOp a.eval o).run P w= .ok (.value r) w')
  (hr:RelSt ρ n (s.put (some tn) v) (a.put (some tn) r) w') (hm:m1≤s.H.length) (hk:bX P n ops os (s.put (some tn) v) K)
  (hq:∀ a' w'' s' ρ',K s'→RelSt ρ' n s' a' w''→Step m1 ρ (s.put (some tn) v) w' ρ' s' w''→Q .normal a' w''):(Code.region id ops false).wp P Q a w:=by
 refine wp_region ?_
 have hsz:ops.size=os.length+1:=by rw[←Array.length_toList,hops];rfl
 rw[hsz,List.range_succ_eq_map]
 have h0:ops[0]?=some o:=by rw[←Array.getElem?_toList,hops];rfl
 have hwant:Region.wanted o (yielded ops a.tmps)=true:=by unfold Region.wanted;rw[hg]
 simp only[wpOps,h0,hwant,if_true]
 refine .inl ?_
 unfold Oper.wp
 rw[hrun,Oper.upon_value,hd]
 refine pz (m:=m1) (List.map Nat.succ (List.range os.length)) os _ K ?_ hk ρ _ w' hr hm ?_
 ·refine List.ext_getElem? fun i=>?_
  simp only[List.getElem?_map]
  by_cases hi2:i<os.length
  ·have :ops[i+1]?=os[i]?:=by rw[←Array.getElem?_toList,hops];rfl
   simp[hi2,this]
  ·rw[List.getElem?_eq_none (by simp;omega),List.getElem?_eq_none (by omega)];rfl
 ·rintro a' w'' ⟨s',ρ',q1,q2,q3⟩
  exact hq a' w'' s' ρ' q1 q2 q3
theorem yK (hmix:P.follows .mixedOrders=true){rid r3 r7 bid b1:Nat}{ops ops7:Array Oper}{pre os7:List Oper}{o2 o3 o4 o5:Oper}{tz tit tn tok te:Tmp}{ty k e:TypeId}{body2:Code}{s S1:St}{bm:Nat}{K:St→Prop}{Q:Exit→St→Prop}
  (I:List Nat→Prop) (J:List Nat→St) (M:List Nat→MapC) (μ:List Nat→Nat)
  (hops:ops=(pre++[o2]).toArray) (hgp:∀ o∈pre,o.guard=none) (hp:bX P n ops pre s (fun s1=>s1=S1)) (ht:S1.get tz= .map bm) (hM0:ab S1.H bm=some ⟨false,[],some (M [])⟩)
  (h2:o2.op= .range ty (.tmp tz)) (g2:o2.guard=none) (d2:o2.dst=some tit) (z2:tit<n) (hty:P.underlying ty=some (.map k e))
  (h3:o3.op= .next (.tmp tit) false) (g3:o3.guard=none) (d3:o3.dst=some tn) (z3:tn<n)
  (hops7:ops7.toList=o5::os7) (h5:o5.op= .entry (.tmp tit)) (g5:o5.guard=none) (d5:o5.dst=some te) (z5:te<n)
  (hI0:I []) (hI:∀ seen,I seen→(∀ e∈(M seen).es,e.1<(M []).clock)∧((M seen).es.map (·.1)).Nodup∧(M []).clock≤(M seen).clock)
  (hJm:∀ seen,I seen→ab (J seen).H bm=some ⟨false,[],some (M seen)⟩)
  (hJ0:Weak (max m (S1.H.length+1)) n ⟨eB S1.t (some tit) (.ptr S1.H.length 0),S1.H++[none]⟩ (J []))
  (hJt:∀ seen,(J seen).get tit= .ptr S1.H.length 0)
  (hend:∀ seen,I seen→(∀ e∈(M seen).es,e.1∈seen)→bX P n #[o3,o4] [o4] ((J seen).put (some tn) (.tup [.bool false])) fun s'=>s'.get tok= .bool false∧K s')
  (hgo:∀ seen e,I seen→e∈(M seen).es→e.1∉seen→I (seen++[e.1])∧μ (seen++[e.1])<μ seen∧
   bX P n #[o3,o4] [o4] ((J seen).put (some tn) (.tup [.bool true,.u32 e.2.1,.i64 e.2.2])) fun s'=>s'.get tok= .bool true∧s'.get tit= .ptr S1.H.length 0∧ab s'.H bm=some ⟨false,[],some (M seen)⟩∧
    bX P n ops7 os7 (s'.put (some te) (.tup [.u32 e.2.1,.i64 e.2.2])) fun s2=>vc P (max m (S1.H.length+1)) n body2 (iS b1 (fun x s''=>x= .normal∧Weak (max m (S1.H.length+1)) n s'' (J (seen++[e.1])))) s2):
  GS P m n (.seq (.region rid ops false) (.block bid (.loop (.seq (.region r3 #[o3,o4] false) (.seq (.cond (.tmp tok) .skip (.exit bid)) (.block b1 (.seq (.region r7 ops7 false) body2))))))) (fo K Q) s:=by
 intro ρ a w hr hm
 refine wp_seq (wp_region ?_)
 have hsz:ops.size=pre.length+1:=by rw[hops];simp
 rw[hsz,List.range_succ]
 refine Bp (m:=m) (a:=a) (w:=w) (ρ:=ρ) (List.range pre.length) pre s (fun s1=>s1=S1) ?_ hgp hp ρ a w hr hm ?_
 ·refine List.ext_getElem? fun i=>?_
  simp only[List.getElem?_map]
  by_cases hi:i<pre.length
  ·have :ops[i]?=pre[i]?:=by rw[hops];simp[List.getElem?_append_left hi]
   simp[hi,this]
  ·rw[List.getElem?_eq_none (by simp;omega),List.getElem?_eq_none (by omega)];rfl
 rintro a1 w1 ⟨s1,ρ1,rfl,hr1,hst0⟩
 have hxv:=hr1.tmps.slot tz
 rw[ht] at hxv
 unfold VR at hxv
 obtain⟨hbl,hz⟩:=hxv
 have hmp:w1.heap[(ρ1 bm).1]?=some (M []).obj:=hr1.mem.mapc bm _ _ hM0 rfl
 have ho2:ops[pre.length]?=some o2:=by rw[hops];simp
 have w2:Region.wanted o2 (yielded ops a1.tmps)=true:=by unfold Region.wanted;rw[g2]
 have k2:(execOp a1.eval o2).run P w1= .ok (.value (.pointer (some ⟨w1.heap.size,0,none⟩))) (w1.alloc (dk (ρ1 bm).1 (M []).clock [] (M []).clock)):=by
  unfold execOp
  rw[h2]
  simp only[Act.eval,hz,Sem.run_bind,EK hty hmp,Result.andThen_ok,Sem.run_pure]
 simp only[wpOps,ho2,w2,if_true]
 refine .inl ?_
 unfold Oper.wp
 rw[k2,Oper.upon_value,d2]
 obtain⟨i1,i2⟩:=yJ (m0:=m) (tit:=tit) hr1 hst0.1 z2 (dk (ρ1 bm).1 (M []).clock [] (M []).clock)
 have i3:Beside (dk (ρ1 bm).1 (M []).clock [] (M []).clock) s1.H.length w (fun k=>if k=s1.H.length then(w1.heap.size,0) else ρ1 k) ⟨eB s1.t (some tit) (.ptr s1.H.length 0),s1.H++[none]⟩ (w1.alloc (dk (ρ1 bm).1 (M []).clock [] (M []).clock)):=by
  refine⟨by simp,by rw[if_pos rfl],by rw[if_pos rfl];exact hst0.2.2.size,by rw[if_pos rfl];exact heap_alloc_new w1 _,fun b B hB ho=>?_⟩
  rw[if_pos rfl]
  have hB:((s1.H++[none])[b]?).join=some B:=hB
  by_cases hb:b<s1.H.length
  ·rw[List.getElem?_append_left hb] at hB
   have :=hr1.mem.lt b B hB
   rw[if_neg (by omega)]
   omega
  ·rw[List.getElem?_append_right (by omega)] at hB
   by_cases hb2:b-s1.H.length=0
   ·rw[hb2] at hB;simp at hB
   ·rw[List.getElem?_eq_none (by simp;omega)] at hB;simp at hB
 have ebm:(fun k=>if k=s1.H.length then(w1.heap.size,0) else ρ1 k) bm=ρ1 bm:=if_neg (by omega)
 have i2:=hst0.trans i2
 have hm1:=hst0.1
 obtain⟨ρ2,j1,j2⟩:=hJ0.go _ _ _ i1 (by simp;omega)
 have i4:=i3.step j2 (by omega)
 have eb2:ρ2 bm=ρ1 bm:=(j2.2.1 bm (by omega)).trans ebm
 have i4:Beside (dk (ρ2 bm).1 (M []).clock [] (M []).clock) s1.H.length w ρ2 (J []) (w1.alloc (dk (ρ1 bm).1 (M []).clock [] (M []).clock)):=by rw[eb2];exact i4
 have j3:Step m ρ s w ρ2 (J []) (w1.alloc (dk (ρ1 bm).1 (M []).clock [] (M []).clock)):=i2.trans ⟨by have :=j2.1;omega,fun x hx=>j2.2.1 x (by omega),j2.2.2⟩
 have j4:max m (s1.H.length+1)≤(J []).H.length:=j2.1
 refine wp_block ?_
 refine uU (fun k a5 w5=>∃ seen ρ5 c0,μ seen=k∧I seen∧(M []).clock≤c0∧RelSt ρ5 n (J seen) a5 w5∧Step m ρ s w ρ5 (J seen) w5∧Beside (dk (ρ5 bm).1 (M []).clock seen c0) s1.H.length w ρ5 (J seen) w5∧max m (s1.H.length+1)≤(J seen).H.length) (k0:=μ []) ⟨[],ρ2,(M []).clock,rfl,hI0,Nat.le_refl _,j1,j3,i4,j4⟩ ?_
 rintro k a5 w5 ⟨seen,ρ5,c0,rfl,hIs,hc0,r1,r2,r3',r4⟩
 obtain⟨hold,hnd,hcl⟩:=hI seen hIs
 have hmap:w5.heap[(ρ5 bm).1]?=some (M seen).obj:=r1.mem.mapc bm _ _ (hJm seen hIs) rfl
 have htv:=r1.tmps.slot tit
 rw[hJt seen] at htv
 unfold VR at htv
 obtain⟨_,htv⟩:=htv
 rw[r3'.zero,Nat.zero_add] at htv
 rcases E9 (P:=P) (ty:=o3.type) r3'.here hmap hold hc0 with⟨hall,hrun⟩|⟨e,he,hns,w6,hw6,hrun⟩
 ·
  have hex:(execOp a5.eval o3).run P w5= .ok (.value (.tuple #[.bool false])) w5:=by
   unfold execOp
   rw[h3]
   simp only[Act.eval,htv,Sem.run_bind,hrun,Result.andThen_ok,Sem.run_pure]
  refine wp_seq (uI (m1:=max m (s1.H.length+1)) (v:= .tup [.bool false]) rfl g3 d3 hex ⟨RelT.put r1.tmps (show dV n (some tn) from z3) (by unfold VR;exact⟨_,rfl,VRs.cons (by unfold VR;rfl) VRs.nil⟩),r1.mem⟩ r4 (hend seen hIs hall) ?_)
  rintro a2 w2' s2 ρ3 ⟨q0,q1⟩ q2 q3
  have hev:=q2.tmps.slot tok
  rw[q0] at hev
  unfold VR at hev
  show Code.wp P _ _ a2 w2'
  refine wp_seq (wp_cond_split hev (fun hT=>by cases hT) fun _=>?_)
  refine wp_exit ?_
  show Exit.inBlock bid (sS m n ρ s w (fo K Q)) (.exit bid) a2 w2'
  simp only[Exit.inBlock,if_true]
  have q4:Step m ρ5 (J seen) w5 ρ3 s2 w2':=⟨by have :=q3.1;omega,fun x hx=>q3.2.1 x (by omega),q3.2.2⟩
  exact⟨s2,ρ3,q1,q2,r2.trans q4⟩
 ·
  obtain⟨hI2,hμ,hvo⟩:=hgo seen e hIs he hns
  have hex:(execOp a5.eval o3).run P w5= .ok (.value (.tuple #[.bool true,(cx e).key,(cx e).val])) (setBlock w6 (ρ5 s1.H.length).1 (dk (ρ5 bm).1 (M []).clock (seen++[e.1]) (M seen).clock)):=by
   unfold execOp
   rw[h3]
   simp only[Act.eval,htv,Sem.run_bind,hrun,Result.andThen_ok,Sem.run_pure]
  have r1':RelSt ρ5 n (J seen) a5 w6:=by rcases hw6 with rfl|rfl;exact r1;exact r1.drew
  have r2':Step m ρ s w ρ5 (J seen) w6:=by rcases hw6 with rfl|rfl;exact r2;exact r2.drew
  have hit:w6.heap[(ρ5 s1.H.length).1]?=some (dk (ρ5 bm).1 (M []).clock seen c0):=by rcases hw6 with rfl|rfl<;>exact r3'.here
  have t1:=r1'.turnIt hit (dk (ρ5 bm).1 (M []).clock (seen++[e.1]) (M seen).clock)
  have t2:=r2'.turnIt hit r3'.young (dk (ρ5 bm).1 (M []).clock (seen++[e.1]) (M seen).clock)
  have hlt6:=(Array.getElem?_eq_some_iff.1 hit).1
  have t3:Beside (dk (ρ5 bm).1 (M []).clock (seen++[e.1]) (M seen).clock) s1.H.length w ρ5 ((J seen).put (some tn) (.tup [.bool true,.u32 e.2.1,.i64 e.2.2])) (setBlock w6 (ρ5 s1.H.length).1 (dk (ρ5 bm).1 (M []).clock (seen++[e.1]) (M seen).clock)):=
   ⟨r3'.lt,r3'.zero,r3'.young,by rw[ui,if_pos rfl,if_pos hlt6],r3'.own⟩
  generalize hw7:setBlock w6 (ρ5 s1.H.length).1 (dk (ρ5 bm).1 (M []).clock (seen++[e.1]) (M seen).clock)=w7 at t1 t2 t3 hex
  refine wp_seq (uI (m1:=max m (s1.H.length+1)) (v:= .tup [.bool true,.u32 e.2.1,.i64 e.2.2]) rfl g3 d3 hex ⟨RelT.put t1.tmps (show dV n (some tn) from z3) (by unfold VR;exact⟨_,rfl,VRs.cons (by unfold VR;rfl) (VRs.cons (by unfold VR;rfl) (VRs.cons (by unfold VR;rfl) VRs.nil))⟩),t1.mem⟩ r4 hvo ?_)
  rintro a2 w2' s2 ρ3 ⟨q0,q1,q5,q6⟩ q2 q3
  have hev:=q2.tmps.slot tok
  rw[q0] at hev
  unfold VR at hev
  have t4:=t3.step q3 (by omega)
  have eb3:ρ3 bm=ρ5 bm:=q3.2.1 bm (by omega)
  show Code.wp P _ _ a2 w2'
  refine wp_seq (wp_cond_split hev (fun _=>?_) (fun hF=>by cases hF))
  refine wp_skip ?_
  show Code.wp P _ _ a2 w2'
  refine wp_block ?_
  have hmap2:=q2.mem.mapc bm _ _ q5 rfl
  have htv2:=q2.tmps.slot tit
  rw[q1] at htv2
  unfold VR at htv2
  obtain⟨_,htv2⟩:=htv2
  rw[t4.zero,Nat.zero_add] at htv2
  have hen:(execOp a2.eval o5).run P w2'= .ok (.value (.tuple #[(cx e).key,(cx e).val])) w2':=by
   unfold execOp
   rw[h5]
   have hh:=t4.here
   rw[←eb3] at hh
   simp only[Act.eval,htv2,Sem.run_bind,EL hh hmap2 he hnd,Result.andThen_ok,Sem.run_pure]
  refine wp_seq (uI (m1:=max m (s1.H.length+1)) (v:= .tup [.u32 e.2.1,.i64 e.2.2]) hops7 g5 d5 hen ⟨RelT.put q2.tmps (show dV n (some te) from z5) (by unfold VR;exact⟨_,rfl,VRs.cons (by unfold VR;rfl) (VRs.cons (by unfold VR;rfl) VRs.nil)⟩),q2.mem⟩ q3.1 q6 ?_)
  intro a3 w3 s3 ρ4 u1 u2 u3
  have t5:Step (max m (s1.H.length+1)) ρ5 (J seen) w7 ρ4 s3 w3:=q3.trans u3
  have t6:Beside (dk (ρ5 bm).1 (M []).clock (seen++[e.1]) (M seen).clock) s1.H.length w ρ4 s3 w3:=t4.step u3 (by omega)
  refine wp_mono (jK hmix body2 _ s3 u1 ρ4 a3 w3 u2 u3.1) ?_
  rintro z a4 w4 ⟨s4,ρ6,v1,v2,v3⟩
  have fin:(Weak (max m (s1.H.length+1)) n s4 (J (seen++[e.1])))→∃ k',k'<μ seen∧∃ seen ρ5 c0,μ seen=k'∧I seen∧(M []).clock≤c0∧RelSt ρ5 n (J seen) a4 w4∧Step m ρ s w ρ5 (J seen) w4∧Beside (dk (ρ5 bm).1 (M []).clock seen c0) s1.H.length w ρ5 (J seen) w4∧max m (s1.H.length+1)≤(J seen).H.length:=fun hw=>by
   obtain⟨ρ7,x1,x2⟩:=hw.go ρ6 a4 w4 v2 v3.1
   have x3:=t5.trans (v3.trans x2)
   have x4:=t6.step (v3.trans x2) (by omega)
   have x5:ρ7 bm=ρ5 bm:=x3.2.1 bm (by omega)
   rw[←x5] at x4
   refine⟨_,hμ,_,ρ7,(M seen).clock,rfl,hI2,hcl,x1,t2.trans ⟨by have :=x3.1;omega,fun x hx=>x3.2.1 x (by omega),x3.2.2⟩,x4,x3.1⟩
  cases z
  case normal=>exact fin v1.2
  case exit i=>
   simp only[iS] at v1
   simp only[Exit.inBlock]
   split at v1
   ·rename_i h;rw[if_pos h];exact fin v1.2
   ·exact absurd v1.1 (by simp)
  all_goals exact absurd v1.1 (by simp)
end
end
theorem GJ:eo []= .tup []:=rfl
attribute [go_sem] and_true true_and and_self Nat.succ_ne_self decide_true decide_false Bool.false_eq_true Nat.one_ne_zero Nat.zero_ne_one Nat.not_lt_zero Nat.zero_lt_succ ge_iff_le gt_iff_lt decide_eq_true_eq Option.some.injEq List.getElem?_cons_zero List.getElem?_cons_succ List.length_cons List.length_nil Int.natCast_zero List.map_cons List.map_nil List.append_nil List.nil_append List.cons_append oD Option.map_some Option.map_none List.getD_cons_zero List.getD_cons_succ List.not_mem_nil false_implies implies_true List.getElem?_toArray Option.bind_some List.set_cons_zero List.set_cons_succ List.take_succ_cons List.take_zero List.drop_succ_cons List.drop_zero List.drop_nil List.take_nil List.forall_mem_cons V.u8.injEq exists_eq' Nat.zero_mul Nat.one_mul Nat.zero_add Nat.mul_one Nat.add_zero Int.toNat_natCast Int.cast_ofNat_Int ne_eq not_true_eq_false not_false_eq_true List.length_set List.length_append List.length_take List.length_drop List.length_replicate Option.isSome_none Option.isSome_some am Bool.not_true Bool.not_false Bool.true_and Bool.false_and Bool.and_true Bool.and_false Bool.true_or Bool.false_or Bool.or_true Bool.or_false Bool.not_eq_true' decide_eq_false_iff_not beq_self_eq_true List.take_length Nat.le_refl Int.le_refl Blk.mk.injEq
attribute [simp] GJ mt jH Ad Ae rens V.ren aa V.low Ch Bi Bj Bk Bl Ci pW iM Bm Bn lH gm zm yF yG vu Ac Bh
section
section
variable {P:Program}{m n:Nat}{R:Exit→St→Prop}{k:List Fr}{s:St}{l:List Oper}{ops:Array Oper}{dst:Option Tmp}
theorem FH (t:TypeId)(r:Option Operand):co P m n R (.makeMap t r) dst l ops k s=c9 P m n R (bq P (.makeMap t r) s.ev (ab s.H) s.H.length) dst l ops k s:=rfl
theorem GK (t:TypeId)(x y:Operand)(b:Bool):co P m n R (.lookup t x y b) dst l ops k s=c9 P m n R (bq P (.lookup t x y b) s.ev (ab s.H) s.H.length) dst l ops k s:=rfl
theorem EM (t:TypeId)(x y z:Operand):co P m n R (.mapUpdate t x y z) dst l ops k s=c9 P m n R (bq P (.mapUpdate t x y z) s.ev (ab s.H) s.H.length) dst l ops k s:=rfl
end
theorem LY (b:Nat):V.one (.map b)=true:=rfl
attribute [go_sem] FH GK EM LY
theorem Pa {P:Program}{m n:Nat}{c:Code}{Q Q':Exit→St→Prop}{s:St}(h:GS P m n c Q s)(hq:∀ e s',Q e s'→Q' e s'):GS P m n c Q' s:=fun ρ a w hr hm=>by
 refine wp_mono (h ρ a w hr hm) ?_
 rintro e a' w' ⟨s',ρ',q1,q2,q3⟩
 exact⟨s',ρ',hq e s' q1,q2,q3⟩
theorem nQ {α β:Type}{f:α→β}:∀ {l:List α},(l.map f).Nodup→∀ {x y:α},x∈l→y∈l→f x=f y→x=y
 |[],_,x,_,hx,_,_=>by cases hx
 |a::l,h,x,y,hx,hy,e=>by
  have h':f a∉l.map f∧(l.map f).Nodup:=List.nodup_cons.1 h
  rcases List.mem_cons.1 hx with h1|h1<;>rcases List.mem_cons.1 hy with h2|h2
  ·rw[h1,h2]
  ·exact absurd (List.mem_map.2 ⟨y,h2,by rw[←e,h1]⟩) h'.1
  ·exact absurd (List.mem_map.2 ⟨x,h1,by rw[e,h2]⟩) h'.1
  ·exact nQ h'.2 h1 h2 e
structure MapC.ok (m:MapC):Prop where
 stamps:(m.es.map (·.1)).Nodup
 below:∀ e∈m.es,e.1<m.clock
 keys:(m.es.map (·.2.1)).Nodup
theorem xZ (k:BitVec 32):∀ (l:List (Nat×BitVec 32×Int)),(l.map (·.2.1)).Nodup→jN k l=l.filter fun e=>!decide (e.2.1=k)
 |[],_=>rfl
 |e::l,h=>by
  have h':e.2.1∉l.map (·.2.1)∧(l.map (·.2.1)).Nodup:=List.nodup_cons.1 h
  unfold jN
  rw[List.filter_cons]
  by_cases hk:e.2.1=k
  ·rw[if_pos hk,decide_eq_true hk]
   simp only[Bool.not_true,Bool.false_eq_true,if_false]
   refine(List.filter_eq_self.2 fun x hx=>?_).symm
   have :x.2.1≠k:=fun e2=>h'.1 (List.mem_map.2 ⟨x,hx,e2.trans hk.symm⟩)
   simp[this]
  ·rw[if_neg hk,decide_eq_false hk]
   simp only[Bool.not_false,if_true]
   rw[xZ k l h'.2]
theorem zn (k:BitVec 32)(n:Int):∀ (l:List (Nat×BitVec 32×Int)),(l.map (·.2.1)).Nodup→lK k n l=l.map fun e=>if e.2.1=k then(e.1,k,n) else e
 |[],_=>rfl
 |e::l,h=>by
  have h':e.2.1∉l.map (·.2.1)∧(l.map (·.2.1)).Nodup:=List.nodup_cons.1 h
  unfold lK
  rw[List.map_cons]
  by_cases hk:e.2.1=k
  ·rw[if_pos hk,if_pos hk]
   congr 1
   conv=>lhs;rw[←List.map_id l]
   refine List.map_congr_left fun x hx=>?_
   have :x.2.1≠k:=fun e2=>h'.1 (List.mem_map.2 ⟨x,hx,e2.trans hk.symm⟩)
   rw[if_neg this];rfl
  ·rw[if_neg hk,if_neg hk,zn k n l h'.2]
theorem Ag {k:BitVec 32}{n:Int}{s:Nat}:∀ {l:List (Nat×BitVec 32×Int)},(l.map (·.2.1)).Nodup→(s,k,n)∈l→dM k l=some n
 |[],_,h=>by cases h
 |e::l,h,hm=>by
  have h':e.2.1∉l.map (·.2.1)∧(l.map (·.2.1)).Nodup:=List.nodup_cons.1 h
  unfold dM
  rcases List.mem_cons.1 hm with rfl|hm
  ·rw[if_pos rfl]
  ·rw[if_neg (fun e2=>h'.1 (List.mem_map.2 ⟨_,hm,e2.symm⟩)),Ag h'.2 hm]
def fH (drop:Int→Bool)(l:List (Nat×BitVec 32×Int))(seen:List Nat):List (Nat×BitVec 32×Int):=l.filter fun e=>!(seen.contains e.1&&drop e.2.2)
theorem FI (drop:Int→Bool)(l:List (Nat×BitVec 32×Int)):fH drop l []=l:=by
 unfold fH;simp
theorem Fa {drop:Int→Bool}{m:MapC}(hm:m.ok){seen:List Nat}{e:Nat×BitVec 32×Int}(he:e∈m.es)(hs:e.1∉seen):
  fH drop m.es (seen++[e.1])=if drop e.2.2=true then jN e.2.1 (fH drop m.es seen) else fH drop m.es seen:=by
 have hk:((fH drop m.es seen).map (·.2.1)).Nodup:=List.Nodup.sublist (List.Sublist.map _ List.filter_sublist) hm.keys
 rw[xZ _ _ hk]
 unfold fH
 by_cases hd:drop e.2.2=true
 ·rw[if_pos hd,List.filter_filter]
  refine List.filter_congr fun x hx=>?_
  by_cases hxe:x=e
  ·subst hxe;simp[hd]
  ·have h1:x.1≠e.1:=fun h=>hxe (nQ hm.stamps hx he h)
   have h2:x.2.1≠e.2.1:=fun h=>hxe (nQ hm.keys hx he h)
   simp[h1,h2]
 ·rw[if_neg hd]
  refine List.filter_congr fun x hx=>?_
  by_cases hxe:x=e
  ·subst hxe;simp[hd,hs]
  ·have h1:x.1≠e.1:=fun h=>hxe (nQ hm.stamps hx he h)
   simp[h1]
theorem FJ {drop:Int→Bool}{l:List (Nat×BitVec 32×Int)}{seen:List Nat}(h:∀ e∈fH drop l seen,e.1∈seen):fH drop l seen=l.filter fun e=>!drop e.2.2:=by
 unfold fH at*
 refine List.filter_congr fun x hx=>?_
 by_cases hs:x.1∈seen
 ·simp[hs]
 ·have :x∈l.filter fun e=>!(seen.contains e.1&&drop e.2.2):=List.mem_filter.2 ⟨hx,by simp[hs]⟩
  exact absurd (h x this) hs
def ku (l:List (Nat×BitVec 32×Int))(seen:List Nat):Nat:=(l.filter fun e=>!seen.contains e.1).length
theorem Ah {l:List (Nat×BitVec 32×Int)}{seen:List Nat}{e:Nat×BitVec 32×Int}(he:e∈l)(hs:e.1∉seen):ku l (seen++[e.1])<ku l seen:=by
 have key:∀ (l:List (Nat×BitVec 32×Int)),ku l (seen++[e.1])≤ku l seen:=fun l=>by
  induction l with
  |nil=>exact Nat.le_refl _
  |cons x l ih=>
   unfold ku at*
   simp only[List.filter_cons]
   by_cases h1:x.1∈seen<;>by_cases h2:x.1=e.1<;>simp[h1,h2] at ih ⊢<;>first|omega |(rw[h2] at h1;simp[h1];omega)|skip
   all_goals simp_all
   all_goals omega
 induction l with
 |nil=>cases he
 |cons x l ih=>
  have hl:=key l
  rcases List.mem_cons.1 he with rfl|he
  ·unfold ku at*
   simp only[List.filter_cons]
   simp[hs] at hl ⊢
   omega
  ·have :=ih he
   unfold ku at*
   simp only[List.filter_cons]
   by_cases h1:x.1∈seen<;>by_cases h2:x.1=e.1
   ·simp[h1];simpa using this
   ·simp[h1];simpa using this
   ·simp[h2,hs];simp at this;omega
   ·simp[h1,h2];simpa using this
end
section
inductive Kd where
 |dev (m n:Nat)
 |peers (d n:Nat)
 |peer (d:Nat)
 |timer
 |waits (p n:Nat)
 |ses
 |pair
 |win
 |begun
 |heard
 |tnode (m:Nat)
 |troot (m:Nat)
 |out (d n:Nat)
 |got (d n:Nat)
 |bucket
 |bmap
 |link (xs:List Nat)
 |nodes (xs:List Nat)
 |node (c m:Nat)
 |air (l n:Nat)
 |all (x n:Nat)
inductive Ft where
 |str|strN|strS|key|key0|ck|u32|u64|i64|bool
 |rng (lo hi:Int)
 |pdev (d:Nat)
 |pnode (x:Nat)
 |ptr (k:Kd)
 |opt (k:Kd)
 |sl (k:Nat→Kd) (esz max:Nat)
 |slE (k:Nat→Kd) (n:Nat)
 |slz (k:Nat→Kd) (esz max:Nat)
 |suite
 |mp
def Pb (v:V):Prop:=v= .iface 258 (.agg [])∨v= .iface 259 (.agg [])
def VW:Nat:=1048576
def Pc (K:Nat→Option Kd):Ft→V→Prop
 | .str,v=>∃ s,v= .str s∧s.length≤VW
 | .strN,v=>∃ s,v= .str s∧s.length≤1000000∧0<s.length
 | .strS,v=>∃ s,v= .str s∧s.length≤2000
 | .key,v=>∃ s,v= .str s∧s.length=32
 | .key0,v=>∃ s,v= .str s∧s.length≤32
 | .ck,v=>∃ s,v= .str s∧(s=[]∨s.length=16)
 | .u32,v=>∃ x,v= .u32 x
 | .u64,v=>∃ x,v= .u64 x
 | .i64,v=>∃ n,v= .i64 n
 | .bool,v=>∃ b,v= .bool b
 | .rng lo hi,v=>∃ n,v= .i64 n∧lo≤n∧n≤hi
 | .pdev d,v=>v= .ptr d 0∧∃ m n,K d=some (.dev m n)
 | .pnode x,v=>v= .ptr x 0∧∃ c m,K x=some (.node c m)
 | .ptr k,v=>∃ c,v= .ptr c 0∧K c=some k
 | .opt k,v=>v= .nilPtr∨∃ c,v= .ptr c 0∧K c=some k
 | .sl k esz mx,v=>v= .nilSlice∨∃ a n,v= .slice a 0 n esz∧0<n∧n≤mx∧K a=some (k n)
 | .slE k n,v=>(n=0∧v= .nilSlice)∨∃ a,v= .slice a 0 n 1∧0<n∧K a=some (k n)
 | .slz k esz mx,v=>v= .nilSlice∨∃ a n,v= .slice a 0 n esz∧n≤mx∧K a=some (k n)
 | .suite,v=>Pb v
 | .mp,v=>∃ c,v= .map c∧K c=some .bmap
structure Gh where
 o:Nat→Nat
 g:Nat→Nat
def D4 (K:Nat→Option Kd):List Ft→List V→Prop
 |[],[]=>True
 |f::fs,v::vs=>Pc K f v∧D4 K fs vs
 |_,_=>False
section
variable {G G':Gh}{K K':Nat→Option Kd}{H H':List (Option Blk)}{b c N:Nat}{k kc:Kd}{f:Ft}{v:V}{fs:List Ft}{cs:List V}{B:Blk}
def VX (K:Nat→Option Kd)(b:Nat)(k:Option Kd):Nat→Option Kd:=fun x=>if x=b then k else K x
def Xw (a:Option Nat)(K:Nat→Option Kd):Nat→Option Kd:=match a with
 |some x=>VX K x none
 |none=>K
def cutH (a:Option Nat)(H:List (Option Blk)):List (Option Blk):=match a with
 |some x=>H.set x none
 |none=>H
end
end
section
def memH (sg:List Nat)(H h':List (Option Blk)):List (Option Blk):=
 cr H (cZ (ah (az sg H.length h')) sg h')++cu (ah (az sg H.length h')) sg h'
section
variable {sg:List Nat}{H h':List (Option Blk)}
theorem jb:(memH sg H h').length=H.length+(h'.length-sg.length):=by
 unfold memH
 rw[List.length_append,d9,jf,List.length_map,List.length_drop]
theorem mD {b:Nat}(hb:b<H.length)(hn:b∉sg):ab (memH sg H h') b=ab H b:=by
 unfold memH
 rw[dx (by rw[d9];exact hb),mq _ _ _ hb,qX hn]
theorem nX {i nid:Nat}(hi:i<sg.length):ah (az sg nid h') i=ah sg i:=lc hi
theorem mL {i nid:Nat}(h1:sg.length≤i)(h2:i<h'.length):ah (az sg nid h') i=nid+(i-sg.length):=ld h1 (by omega)
theorem qe (hnd:sg.Nodup)(hsg:∀ b∈sg,b<H.length){i:Nat}(hi:i<h'.length):
  ab (memH sg H h') (ah (az sg H.length h') i)=db (ah (az sg H.length h')) (ab h' i):=by
 by_cases hl:i<sg.length
 ·rw[nX hl]
  have hm:=ef hl
  have hb:=hsg _ (List.mem_of_getElem? hm)
  unfold memH
  rw[dx (by rw[d9];exact hb),mq _ _ _ hb,rv hnd hm hi]
  unfold ab
  rfl
 ·rw[mL (by omega) hi]
  unfold memH ab
  rw[List.getElem?_append_right (by rw[d9];omega),d9,jf,List.getElem?_map,List.getElem?_drop,show sg.length+(H.length+(i-sg.length)-H.length)=i by omega]
  cases h'[i]?<;>rfl
theorem Bq {σ:Nat→Nat}:∀ {sg:List Nat} {h':List (Option Blk)},sg.length≤h'.length→(cZ σ sg h').map (·.1)=sg
 |[],_,_=>by unfold cZ;rfl
 |_::_,[],h=>by simp at h
 |i::sg,x::h',h=>by
  unfold cZ
  rw[List.map_cons,Bq (by simpa using h)]
end
section
variable {P:Program}{m n:Nat}{R:Exit→St→Prop}{k:List Fr}{s:St}{l:List Oper}{ops:Array Oper}{dst:Option Tmp}
variable {f:FuncId}{fs cs args args0:List V}{v:V}{h h':List (Option Blk)}
end
end
section
section
variable {P:Program}{m n:Nat}{R:Exit→St→Prop}{k:List Fr}{l:List Oper}{ops:Array Oper}{dst:Option Tmp}
variable {f:FuncId}{fs cs args args0:List V}{v:V}{H H0 H':List (Option Blk)}{G G':Gh}{K K0 K':Nat→Option Kd}{W W2:Nat→Prop}{b a:Nat}{kd:Kd}{vs ds:List V}
theorem JH (t:List (Nat×V))(d:Nat)(v:V):eB t (some d) v=(d,v)::t:=rfl
theorem JI (t:List (Nat×V))(v:V):eB t none v=t:=rfl
attribute [go_sem] JH JI
def RoK (H0 H:List (Option Blk)):Prop:=∀ b B,ab H b=some B→B.ro=true→b<H0.length∧ab H0 b=some B
theorem RoK.refl (H:List (Option Blk)):RoK H H:=fun _ _ h _=>⟨aM h,h⟩
theorem RoK.trans (h:RoK H0 H)(k:RoK H H'):RoK H0 H':=fun b B e r=>h b B (k b B e r).2 r
theorem RoK.put (h:RoK H0 H){b:Nat}{cs:List V}{m:Option MapC}:RoK H0 (H.set b (some ⟨false,cs,m⟩)):=fun c B e r=>by
 by_cases hc:b=c
 ·subst hc
  by_cases hb:b<H.length
  ·rw[iJ hb] at e;cases e;cases r
  ·have :=aM e;rw[List.length_set] at this;omega
 ·rw[cp hc] at e;exact h c B e r
theorem RoK.cut (h:RoK H0 H){b:Nat}:RoK H0 (H.set b none):=fun c B e r=>by
 by_cases hc:b=c
 ·subst hc
  by_cases hb:b<H.length
  ·rw[iJ hb] at e;cases e
  ·have :=aM e;rw[List.length_set] at this;omega
 ·rw[cp hc] at e;exact h c B e r
theorem RoK.app (h:RoK H0 H){cs:List V}{m:Option MapC}:RoK H0 (H++[some ⟨false,cs,m⟩]):=fun c B e r=>by
 have hlt:=aM e
 by_cases hb:c<H.length
 ·rw[dx hb] at e;exact h c B e r
 ·obtain rfl:c=H.length:=by rw[List.length_append] at hlt;simp at hlt;omega
  rw[Bo] at e;cases e;cases r
theorem RoK.cutH (h:RoK H0 H)(a:Option Nat):RoK H0 (cutH a H):=by
 cases a with
 |none=>exact h
 |some x=>exact h.cut
open Classical in
noncomputable def xo (W:Nat→Prop) (n:Nat):List Nat:=(List.range n).filter fun b=>decide (W b)
theorem Ai {b n:Nat}:b∈xo W n↔b<n∧W b:=by unfold xo;simp
end
end
section
open Go Go.RowKit
mutual
theorem V.ren_congr {σ τ:Nat→Nat}{n:Nat}(h:∀ b,b<n→σ b=τ b):∀ (v:V),v.low n→v.ren σ=v.ren τ
 | .junk,_| .bool _,_| .u8 _,_| .u32 _,_| .u64 _,_| .i64 _,_| .i32 _,_| .str _,_| .nilPtr,_| .nilSlice,_| .nilFn,_| .nilIface,_=>by unfold V.ren;rfl
 | .aFn _ _ v,hb=>by unfold V.low at hb;unfold V.ren;rw[V.ren_congr h v hb]
 | .ptr b _,hb=>by unfold V.low at hb;unfold V.ren;rw[h b hb]
 | .map b,hb=>by unfold V.low at hb;unfold V.ren;rw[h b hb]
 | .slice b _ _ _,hb=>by unfold V.low at hb;unfold V.ren;rw[h b hb]
 | .fn _ fs cs,hb=>by unfold V.low at hb;unfold V.ren;rw[nI h fs hb.1,nI h cs hb.2]
 | .agg cs,hb=>by unfold V.low at hb;unfold V.ren;rw[nI h cs hb]
 | .tup cs,hb=>by unfold V.low at hb;unfold V.ren;rw[nI h cs hb]
 | .iface _ v,hb=>by unfold V.low at hb;unfold V.ren;rw[V.ren_congr h v hb]
theorem nI {σ τ:Nat→Nat}{n:Nat}(h:∀ b,b<n→σ b=τ b):∀ (l:List V),aa n l→rens σ l=rens τ l
 |[],_=>by unfold rens;rfl
 |v::l,hb=>by unfold aa at hb;unfold rens;rw[V.ren_congr h v hb.1,nI h l hb.2]
end
structure Emb (sg:List Nat) (h H:List (Option Blk)):Prop where
 len:sg.length=h.length
 nd:sg.Nodup
 lt:∀ b∈sg,b<H.length
 blk:∀ b B,ab h b=some B→ab H (ah sg b)=some ⟨B.ro,rens (ah sg) B.cs,B.mp⟩∧aa h.length B.cs
structure Nxt (h h':List (Option Blk)):Prop where
 le:h.length≤h'.length
 ro:∀ b B,ab h' b=some B→(h.length≤b∨ab h b=none)→B.ro=false
 sane:∀ b B,ab h' b=some B→aa h'.length B.cs
section
variable {sg sg1 sg2:List Nat}{h h' h1 h2 h1' H H':List (Option Blk)}{P:Program}{m n:Nat}{R:Exit→St→Prop}{k:List Fr}{l:List Oper}{ops:Array Oper}{dst:Option Tmp}{f:FuncId}{args args0:List V}{v v':V}{t:List (Nat×V)}
theorem Emb.mem (hE:Emb sg h H){i:Nat}(hi:i<h.length):ah sg i∈sg:=List.mem_of_getElem? (ef (by rw[hE.len];exact hi))
theorem Emb.ltOf (hE:Emb sg h H){i:Nat}(hi:i<h.length):ah sg i<H.length:=hE.lt _ (hE.mem hi)
theorem Aj {b N:Nat}(hb:b∈az sg N h'):b∈sg∨(N≤b∧b<N+(h'.length-sg.length)):=by
 rcases List.mem_append.1 hb with hb|hb
 ·exact .inl hb
 ·rw[List.mem_range'_1] at hb;exact .inr hb
theorem Emb.call (hE:Emb sg h H)(hN:Nxt h h'):Emb (az sg H.length h') h' (memH sg H h'):=by
 have hl:=hE.len
 have hle:=hN.le
 refine⟨?_,?_,fun b hb=>?_,fun b B e=>⟨?_,hN.sane b B e⟩⟩
 ·unfold az;rw[List.length_append,List.length_range'];omega
 ·unfold az
  refine List.nodup_append.2 ⟨hE.nd,List.nodup_range',fun a ha b hb e=>?_⟩
  have :=hE.lt a ha
  rw[List.mem_range'_1] at hb
  omega
 ·rw[jb]
  rcases Aj hb with hb|hb
  ·have :=hE.lt b hb;omega
  ·omega
 ·have :=qe (sg:=sg) (H:=H) (h':=h') hE.nd hE.lt (aM e)
  rw[e] at this
  exact this
theorem HX {N:Nat}(h0:0<sg.length):ah (az sg N h') 0=ah sg 0:=nX h0
theorem my (hE:Emb sg h H)(hs:ag P f args0 h v h')(hN:Nxt h h')(hc:cW P f=true)(ha:rens (ah sg) args0=args)(hlow:aa h.length args0)(hv:v.ren (ah (az sg H.length h'))=v')
  (hk:dW P m n R l ops k ⟨eB t dst v',memH sg H h'⟩):jO P m n R (.fn f [] []) args dst l ops k ⟨t,H⟩:=by
 have hS:=qE (get0:=ab H) (nid:=H.length) hs hE.len hlow hE.nd hE.lt hE.blk hN.ro hN.le
 refine⟨dR sg H.length v h',.inl ⟨f,[],[],rfl,hc,trivial,?_⟩,?_⟩
 ·rw[ha] at hS
  rw[List.append_nil]
  exact hS
 ·show bX P n ops l ⟨eB t dst (v.ren (ah (az sg H.length h'))),memH sg H h'⟩ _
  rw[hv]
  exact hk
theorem nw {tr:Tr}(hE:Emb sg h H)(hs:ag P f args0 h v h')(hN:Nxt h h')(hc:cW P f=true)(ha:rens (ah sg) args0=args)(hlow:aa h.length args0)(hv:v.ren (ah (az sg H.length h'))=v')
  (hk:eN P m n R l (tr++[(sg,sg++List.range' H.length (h'.length-sg.length))]) ops k ⟨eB t dst v',memH sg H h'⟩):iN P m n R (.fn f [] []) args dst l tr ops k ⟨t,H⟩:=by
 have hS:=qE (get0:=ab H) (nid:=H.length) hs hE.len hlow hE.nd hE.lt hE.blk hN.ro hN.le
 have hl:=hE.len
 have hle:=hN.le
 have hfo:(dR sg H.length v h').old.map (·.1)=sg:=Bq (by omega)
 have hfn:(dR sg H.length v h').news.length=h'.length-sg.length:=by
  show(cu _ sg h').length=_
  rw[jf,List.length_map,List.length_drop]
 refine⟨dR sg H.length v h',.inl ⟨f,[],[],rfl,hc,trivial,?_⟩,fun x hx=>?_,?_⟩
 ·rw[ha] at hS
  rw[List.append_nil]
  exact hS
 ·have :x.1∈(dR sg H.length v h').old.map (·.1):=List.mem_map.2 ⟨x,hx,rfl⟩
  rw[hfo] at this
  exact hE.lt _ this
 ·have hf:bc ⟨t,H⟩ (dR sg H.length v h')=(sg,sg++List.range' H.length (h'.length-sg.length)):=by
   unfold bc
   rw[hfo,hfn];rfl
  rw[hf]
  show dN P n ops _ l _ ⟨eB t dst (v.ren (ah (az sg H.length h'))),memH sg H h'⟩
  rw[hv]
  exact hk
theorem Emb.stay (hE:Emb sg h H)(hle:H.length≤H'.length)(hk:∀ i B,ab h i=some B→ab H' (ah sg i)=ab H (ah sg i)):Emb sg h H':=
 ⟨hE.len,hE.nd,fun b hb=>Nat.lt_of_lt_of_le (hE.lt b hb) hle,fun b B e=>⟨(hk b B e).trans (hE.blk b B e).1,(hE.blk b B e).2⟩⟩
end
end
section
def cH (σ:Nat→Nat):List Nat→List (Option Blk)→List (Option Blk)→List (Nat×Option Blk)
 |i::sg,some _::h,x::h'=>(i,db σ x)::cH σ sg h h'
 |_::sg,none::h,_::h'=>cH σ sg h h'
 |_,_,_=>[]
theorem qN {σ:Nat→Nat}{b:Nat}{d:Option Blk}:∀ {sg:List Nat} {h h':List (Option Blk)},(∀ i C,sg[i]?=some b→ab h i=some C→False)→di (cH σ sg h h') b d=d
 |[],_,_,_=>by unfold cH;rfl
 |_::_,[],_,_=>by unfold cH;rfl
 |_::_,some _::_,[],_=>by unfold cH;rfl
 |_::_,none::_,[],_=>by unfold cH;rfl
 |i::sg,some C::h,x::h',hb=>by
  unfold cH di
  rw[if_neg (fun e=>hb 0 C (by simp[e]) rfl)]
  exact qN (fun j D h1 h2=>hb (j+1) D (by simpa using h1) h2)
 |i::sg,none::h,x::h',hb=>by
  unfold cH
  exact qN (fun j D h1 h2=>hb (j+1) D (by simpa using h1) h2)
theorem uJ {σ:Nat→Nat}{d:Option Blk}{C:Blk}:∀ {sg:List Nat} {h h':List (Option Blk)} {i b:Nat},sg.Nodup→sg[i]?=some b→ab h i=some C→i<h'.length→di (cH σ sg h h') b d=db σ (h'[i]?).join
 |[],_,_,_,_,_,hi,_,_=>by simp at hi
 |_::_,[],_,_,_,_,_,hC,_=>by simp[ab] at hC
 |_::_,_::_,[],_,_,_,_,_,hl=>by simp at hl
 |j::sg,none::h,x::h',0,b,hnd,hi,hC,hl=>by simp[ab] at hC
 |j::sg,some D::h,x::h',0,b,hnd,hi,hC,hl=>by
  simp at hi
  subst hi
  unfold cH di
  rw[if_pos rfl];simp
 |j::sg,none::h,x::h',i+1,b,hnd,hi,hC,hl=>by
  have hi':sg[i]?=some b:=by simpa using hi
  unfold cH
  rw[uJ (List.nodup_cons.1 hnd).2 hi' hC (by simpa using hl)]
  simp
 |j::sg,some D::h,x::h',i+1,b,hnd,hi,hC,hl=>by
  have hi':sg[i]?=some b:=by simpa using hi
  have hne:b≠j:=fun e=>by
   subst e
   exact(List.nodup_cons.1 hnd).1 (List.mem_of_getElem? hi')
  unfold cH di
  rw[if_neg hne,uJ (List.nodup_cons.1 hnd).2 hi' hC (by simpa using hl)]
  simp
section
variable {P:Program}{f:FuncId}{args:List V}{h h':List (Option Blk)}{v:V}{sg:List Nat}{get0:Nat→Option Blk}{nid:Nat}
theorem xP (hs:ag P f args h v h')(hlen:sg.length=h.length)(hlow:aa h.length args)(hnd:sg.Nodup)(hsg:∀ b∈sg,b<nid)
  (hblk:∀ b B,ab h b=some B→get0 (ah sg b)=some ⟨B.ro,rens (ah sg) B.cs,B.mp⟩∧aa h.length B.cs)
  (hro:∀ b B,ab h' b=some B→h.length≤b→B.ro=false) (hle:h.length≤h'.length):
  Spec P f (rens (ah sg) args) get0 nid {v:=v.ren (ah (az sg nid h')),pre:=True,fp:=sg,old:=cH (ah (az sg nid h')) sg h h',news:=cu (ah (az sg nid h')) sg h'}:=by
 intro ρ dom get w rargs hm hr hfp hdom
 have hnl:(cu (ah (az sg nid h')) sg h').length=h'.length-h.length:=by rw[jf,List.length_map,List.length_drop,hlen]
 simp only[hnl] at hdom ⊢
 have hgot:∀ b B,ab h b=some B→get (ah sg b)=some ⟨B.ro,rens (ah sg) B.cs,B.mp⟩:=fun b B e=>by
  rw[(hfp _ (List.mem_of_getElem? (ef (by rw[hlen];exact aM e)))).1]
  exact(hblk b B e).1
 have hinj:∀ b b',b<h.length→b'<h.length→b≠b'→ah sg b≠ah sg b':=fun b b' hb hb' hne e=>by
  have e1:=ef (sg:=sg) (b:=b) (by omega)
  have e2:=ef (sg:=sg) (b:=b') (by omega)
  rw[e] at e1
  rw[List.getElem?_eq_getElem (by omega)] at e1 e2
  exact hne ((List.getElem_inj hnd).1 (by rw[Option.some.inj e1,Option.some.inj e2]))
 have hm0:MemRel (fun b=>ρ (ah sg b)) (· <h.length) (ab h) w:=by
  refine⟨fun b B e=>aM e,fun b B e=>hm.lt _ _ (hgot b B e),fun b b' B B' e e' hr' hne=>hm.inj _ _ _ _ (hgot b B e) (hgot b' B' e') hr' (hinj b b' (aM e) (aM e') hne),fun b B e i v hv=>?_,fun b B e hr' i hi=>?_,fun b B mm e hmp=>mK (hm.mapc _ _ mm (hgot b B e) hmp) (by show B.cs.length=(rens (ah sg) B.cs).length;rw[cX,List.length_map])⟩
  ·have h1:(rens (ah sg) B.cs)[i]?=some (v.ren (ah sg)):=by rw[cX,List.getElem?_map,hv];rfl
   obtain⟨r,g1,g2⟩:=hm.cell _ _ (hgot b B e) i _ h1
   exact⟨r,g1,g2.unren (pR (hblk b B e).2 hv)⟩
  ·exact hm.free _ _ (hgot b B e) hr' i (by show i<(rens (ah sg) B.cs).length;rw[cX,List.length_map];exact hi)
 refine(hs _ w rargs (hr.unren hlow) hm0).mono ?_
 rintro e w' ⟨r,ρ',rfl,k1,k2,k3,k4,k5⟩
 have hnew:∀ b,nid≤b→b<nid+(h'.length-h.length)→¬ dom b:=hdom
 have hdsg:∀ b,b<h.length→dom (ah sg b):=fun b hb=>by
  have hmem:=List.mem_of_getElem? (ef (sg:=sg) (b:=b) (by rw[hlen];exact hb))
  exact(hfp _ hmem).2 (hsg _ hmem)
 have hsgn:∀ b,b<h.length→ah sg b<nid:=fun b hb=>hsg _ (List.mem_of_getElem? (ef (by omega)))
 let ρ1:Nat→Nat×Nat:=fun b=>if nid≤b∧b<nid+(h'.length-h.length) then ρ' (h.length+(b-nid)) else ρ b
 have hρ1:∀ b,b<h'.length→ρ1 (ah (az sg nid h') b)=ρ' b:=fun b hb=>by
  by_cases hb2:b<h.length
  ·rw[az,lc (by omega)]
   show(if _ then _ else _)=_
   rw[if_neg (by have :=hsgn b hb2;omega),k4 b hb2]
  ·rw[az,ld (by omega) (by omega)]
   show(if _ then _ else _)=_
   rw[if_pos (by omega)]
   congr 1;omega
 have hd1:∀ b,b<h'.length→bZ dom nid (h'.length-h.length) (ah (az sg nid h') b):=fun b hb=>by
  by_cases hb2:b<h.length
  ·rw[az,lc (by omega)];exact .inl (hdsg b hb2)
  ·rw[az,ld (by omega) (by omega)];exact .inr ⟨by omega,by omega⟩
 have cases1:∀ b B,bv get (cH (ah (az sg nid h')) sg h h') nid (cu (ah (az sg nid h')) sg h') b=some B→
   (∃ c C,ab h' c=some C∧B=C.ren (ah (az sg nid h'))∧b=ah (az sg nid h') c∧c<h'.length∧(h.length≤c∨∃ C0,ab h c=some C0))∨(get b=some B∧(∀ c C,ab h c=some C→ah sg c≠b)∧¬ (nid≤b∧b<nid+(h'.length-h.length))):=fun b B e=>by
  unfold bv at e
  rw[hnl] at e
  by_cases hb:nid≤b∧b<nid+(h'.length-h.length)
  ·rw[if_pos hb,jf,List.getElem?_map,List.getElem?_drop,hlen] at e
   left
   have hl:h.length+(b-nid)<h'.length:=by omega
   rw[List.getElem?_eq_getElem hl] at e
   simp only[Option.map_some,Option.join_some] at e
   obtain⟨C,e1,e2⟩:∃ C,h'[h.length+(b-nid)]=some C∧B=C.ren (ah (az sg nid h')):=by
    unfold db at e
    cases hx:h'[h.length+(b-nid)] with
    |none=>rw[hx] at e;simp at e
    |some C=>rw[hx] at e;simp at e;exact⟨C,rfl,e.symm⟩
   refine⟨h.length+(b-nid),C,?_,e2,?_,hl,.inl (by omega)⟩
   ·unfold ab;rw[List.getElem?_eq_getElem hl,e1];rfl
   ·rw[az,ld (by omega) (by omega)];omega
  ·rw[if_neg hb] at e
   by_cases hin:∃ i C,ab h i=some C∧ah sg i=b
   ·obtain⟨i,C0,hC0,hsb⟩:=hin
    have hi:=aM hC0
    left
    have hi':sg[i]?=some b:=by rw[←hsb];exact ef (by omega)
    rw[uJ hnd hi' hC0 (by omega)] at e
    obtain⟨C,e1,e2⟩:∃ C,ab h' i=some C∧B=C.ren (ah (az sg nid h')):=by
     unfold db at e
     cases hx:(h'[i]?).join with
     |none=>rw[hx] at e;simp at e
     |some C=>rw[hx] at e;simp at e;exact⟨C,hx,e.symm⟩
    exact⟨i,C,e1,e2,by rw[az,lc (by omega),hsb],by omega,.inr ⟨C0,hC0⟩⟩
   ·have hout:∀ c C,ab h c=some C→ah sg c≠b:=fun c C hc e=>hin ⟨c,C,hc,e⟩
    rw[qN fun i C hi hC=>hout i C hC (by have :=ef (sg:=sg) (b:=i) (by rw[hlen];exact aM hC);rw[hi] at this;exact(Option.some.inj this).symm)] at e
    exact .inr ⟨e,hout,hb⟩
 have away:∀ b B,get b=some B→(∀ c C,ab h c=some C→ah sg c≠b)→∀ b0 B0,ab h b0=some B0→B0.ro=false→(ρ (ah sg b0)).1≠(ρ b).1:=fun b B e hb b0 B0 e0 hr0=>by
  exact hm.inj _ _ _ _ (hgot b0 B0 e0) e hr0 (hb b0 B0 e0)
 have still:∀ b B,get b=some B→(∀ c C,ab h c=some C→ah sg c≠b)→w'.heap[(ρ b).1]?=w.heap[(ρ b).1]?:=fun b B e hb=>k5.keep _ (hm.lt b B e) fun b0 B0 e0 hr0=>away b B e hb b0 B0 e0 hr0
 have hρout:∀ b,¬ (nid≤b∧b<nid+(h'.length-h.length))→ρ1 b=ρ b:=fun b hb=>if_neg hb
 have hρdom:∀ b,dom b→ρ1 b=ρ b:=fun b hb=>hρout b fun h=>hnew b h.1 h.2 hb
 refine⟨r,ρ1,rfl,hρdom,?_,k1.doren hd1 hρ1,?_⟩
 ·refine⟨fun b B e=>?_,fun b B e=>?_,fun b b' B B' e e' hr' hne=>?_,fun b B e i v hv=>?_,fun b B e hr' i hi=>?_,fun b B mm e hmp=>?_⟩
  ·rcases cases1 b B e with⟨c,C,e1,rfl,rfl,hc,hcs⟩|⟨e1,_,_⟩
   ·exact hd1 c hc
   ·exact .inl (hm.has _ _ e1)
  ·rcases cases1 b B e with⟨c,C,e1,rfl,rfl,hc,hcs⟩|⟨e1,_,hb⟩
   ·rw[hρ1 c hc];exact k2.lt _ _ e1
   ·rw[hρout b hb];exact Nat.lt_of_lt_of_le (hm.lt _ _ e1) k5.size
  ·rcases cases1 b B e with⟨c,C,e1,rfl,rfl,hc,hcs⟩|⟨e1,hb1,hb⟩<;>rcases cases1 b' B' e' with⟨c',C',e1',rfl,rfl,hc',hcs'⟩|⟨e1',hb1',hb'⟩
   ·rw[hρ1 c hc,hρ1 c' hc']
    exact k2.inj _ _ _ _ e1 e1' hr' (fun e2=>hne (by rw[e2]))
   ·rw[hρ1 c hc,hρout b' hb']
    rcases k5.own c C e1 hr' with⟨b0,B0,e0,hr0,hx⟩|hx
    ·rw[←hx];exact away b' B' e1' hb1' b0 B0 e0 hr0
    ·have :=hm.lt _ _ e1';omega
   ·rw[hρout b hb,hρ1 c' hc']
    by_cases hc2:c'<h.length
    ·cases he0:ab h c' with
     |some B0=>
      rw[k4 c' hc2]
      exact hm.inj _ _ _ _ e1 (hgot c' B0 he0) hr' (fun e2=>hb1 c' B0 he0 e2.symm)
     |none=>
      rcases hcs' with hcs'|⟨C0,hC0⟩
      ·omega
      ·rw[he0] at hC0;cases hC0
    ·have hcro:=hro c' C' e1' (by omega)
     rcases k5.own c' C' e1' hcro with⟨b0,B0,e0,hr0,hx⟩|hx
     ·rw[←hx];exact fun e2=>away b B e1 hb1 b0 B0 e0 hr0 e2.symm
     ·have :=hm.lt _ _ e1;omega
   ·rw[hρout b hb,hρout b' hb']
    exact hm.inj _ _ _ _ e1 e1' hr' hne
  ·rcases cases1 b B e with⟨c,C,e1,rfl,rfl,hc,hcs⟩|⟨e1,hb1,hb⟩
   ·rw[hρ1 c hc]
    have h2:∃ u,C.cs[i]?=some u∧v=u.ren (ah (az sg nid h')):=by
     have hv':(rens (ah (az sg nid h')) C.cs)[i]?=some v:=hv
     rw[cX,List.getElem?_map] at hv'
     cases hu:C.cs[i]? with
     |none=>rw[hu] at hv';simp at hv'
     |some u=>rw[hu] at hv';simp at hv';exact⟨u,rfl,hv'.symm⟩
    obtain⟨u,hu,rfl⟩:=h2
    obtain⟨r,g1,g2⟩:=k2.cell _ _ e1 i u hu
    exact⟨r,g1,g2.doren hd1 hρ1⟩
   ·rw[hρout b hb]
    obtain⟨r,g1,g2⟩:=hm.cell _ _ e1 i v hv
    refine⟨r,?_,g2.mono hρdom (fun b hb=> .inl hb) k5.lasts⟩
    rw[World.cell?_of_block (w:=w) (a:=⟨(ρ b).1,(ρ b).2+i,none⟩) (still b B e1 hb1)];exact g1
  ·rcases cases1 b B e with⟨c,C,e1,rfl,rfl,hc,hcs⟩|⟨e1,hb1,hb⟩
   ·rw[hρ1 c hc]
    exact k2.free _ _ e1 hr' i (by have h3:i<(rens (ah (az sg nid h')) C.cs).length:=hi;rw[cX,List.length_map] at h3;exact h3)
   ·rw[hρout b hb,World.frozen?_of_block (w:=w) (a:=⟨(ρ b).1,(ρ b).2+i,none⟩) (still b B e1 hb1)]
    exact hm.free _ _ e1 hr' i hi
  ·rcases cases1 b B e with⟨c,C,e1,rfl,rfl,hc,hcs⟩|⟨e1,hb1,hb⟩
   ·rw[hρ1 c hc]
    exact mK (k2.mapc _ _ mm e1 hmp) (by show(rens (ah (az sg nid h')) C.cs).length=C.cs.length;rw[cX,List.length_map])
   ·rw[hρout b hb]
    exact iK (hm.mapc _ _ mm e1 hmp) (still b B e1 hb1)
 ·refine⟨k5.os,k5.output,k5.tape,k5.size,fun r hr hb=>k5.keep r hr fun b B e hro'=>?_,k5.lasts,fun b B e hro'=>?_⟩
  ·exact hb _ _ (hgot b B e) hro'
  ·rcases cases1 b B e with⟨c,C,e1,rfl,rfl,hc,hcs⟩|⟨e1,hb1,hb⟩
   ·rw[hρ1 c hc]
    rcases k5.own c C e1 hro' with⟨b0,B0,e0,hr0,hx⟩|hx
    ·exact .inl ⟨_,_,hgot b0 B0 e0,hr0,hx⟩
    ·exact .inr hx
   ·exact .inl ⟨b,B,e1,hro',by rw[hρout b hb]⟩
end
section
variable {P:Program}{m n:Nat}{R:Exit→St→Prop}{k:List Fr}{s:St}{l:List Oper}{ops:Array Oper}{dst:Option Tmp}
variable {f:FuncId}{fs cs args args0:List V}{v:V}{h h':List (Option Blk)}
def dj (sg:List Nat)(nid:Nat)(v:V)(h h':List (Option Blk)):Res:={v:=v.ren (ah (az sg nid h')),pre:=True,fp:=sg,old:=cH (ah (az sg nid h')) sg h h',news:=cu (ah (az sg nid h')) sg h'}
theorem rK (sg:List Nat)(hs:ag P f args0 h v h')(hc:cW P f=true)(ha:rens (ah sg) args0=fs++args++cs)(hlen:sg.length=h.length)(hlow:aa h.length args0)(hnd:sg.Nodup)
  (hsg:∀ b∈sg,b<s.H.length) (hblk:eu (ah sg) h.length s h 0) (hro:gm (h'.drop h.length)) (hle:h.length≤h'.length):VCall P (.fn f fs cs) args (ab s.H) s.H.length (dj sg s.H.length v h h'):=
 .inl ⟨f,fs,cs,rfl,hc,trivial,by
  rw[←ha]
  exact xP hs hlen hlow hnd hsg (fun b B e=>by have :=nH hblk b B e;rw[Nat.zero_add] at this;exact this) (fun b B e hb=>zl hro b B e hb) hle⟩
theorem bC (sg:List Nat)(hs:ag P f args0 h v h')(hc:cW P f=true)(ha:rens (ah sg) args0=fs++args++cs)(hlen:sg.length=h.length)(hlow:aa h.length args0)(hnd:sg.Nodup)
  (hsg:∀ b∈sg,b<s.H.length) (hblk:eu (ah sg) h.length s h 0) (hro:gm (h'.drop h.length)) (hle:h.length≤h'.length)
  (hk:dW P m n R l ops k (s.after dst (dj sg s.H.length v h h'))):jO P m n R (.fn f fs cs) args dst l ops k s:=
 ⟨_,rK sg hs hc ha hlen hlow hnd hsg hblk hro hle,hk⟩
theorem gH {tr:Tr}(sg:List Nat)(hs:ag P f args0 h v h')(hc:cW P f=true)(ha:rens (ah sg) args0=fs++args++cs)(hlen:sg.length=h.length)(hlow:aa h.length args0)(hnd:sg.Nodup)
  (hsg:∀ b∈sg,b<s.H.length) (hblk:eu (ah sg) h.length s h 0) (hro:gm (h'.drop h.length)) (hle:h.length≤h'.length)
  (hk:(∀ x∈(dj sg s.H.length v h h').old,x.1<s.H.length)∧eN P m n R l (tr++[bc s (dj sg s.H.length v h h')]) ops k (s.after dst (dj sg s.H.length v h h'))):iN P m n R (.fn f fs cs) args dst l tr ops k s:=
 ⟨_,rK sg hs hc ha hlen hlow hnd hsg hblk hro hle,hk⟩
end
theorem fY (σ:Nat→Nat)(i:Nat)(sg:List Nat)(B:Blk)(h:List (Option Blk))(x:Option Blk)(h':List (Option Blk)):cH σ (i::sg) (some B::h) (x::h')=(i,db σ x)::cH σ sg h h':=by rw[cH]
theorem fZ (σ:Nat→Nat)(i:Nat)(sg:List Nat)(h:List (Option Blk))(x:Option Blk)(h':List (Option Blk)):cH σ (i::sg) (none::h) (x::h')=cH σ sg h h':=by rw[cH]
theorem gf (σ:Nat→Nat)(h h':List (Option Blk)):cH σ [] h h'=[]:=by unfold cH;rfl
attribute [go_sem] dj fY fZ gf
end
section
section
variable {P:Program}{m n:Nat}{R:Exit→St→Prop}{k:List Fr}{s:St}{l:List Oper}{ops:Array Oper}{dst:Option Tmp}
variable {f:FuncId}{fs cs args args0:List V}{v:V}{h h':List (Option Blk)}
theorem qI {tr:Tr}(sg:List Nat)(hs:ag P f args0 h v h')(hc:cW P f=true)(ha:rens (ah sg) args0=fs++args++cs)(hlen:sg.length=h.length)(hlow:aa h.length args0)(hnd:sg.Nodup)
  (hsg:∀ b∈sg,b<s.H.length) (hblk:eu (ah sg) h.length s h 0) (hro:gm (h'.drop h.length)) (hle:h.length≤h'.length)
  (ho:∀ x∈(dj sg s.H.length v h h').old,x.1∈sg∧ab s.H x.1=x.2)
  (hk:eN P m n R l (tr++[bc s (dj sg s.H.length v h h').read]) ops k (s.after dst (dj sg s.H.length v h h').read)):iN P m n R (.fn f fs cs) args dst l tr ops k s:=
 ⟨_,(rK sg hs hc ha hlen hlow hnd hsg hblk hro hle).read ho,fun x hx=>by simp[Res.read] at hx,hk⟩
end
end
section
open Go Go.RowKit
mutual
theorem V.low_ren {σ:Nat→Nat}{n m:Nat}(h:∀ b,b<n→σ b<m):∀ (v:V),v.low n→(v.ren σ).low m
 | .junk,_| .bool _,_| .u8 _,_| .u32 _,_| .u64 _,_| .i64 _,_| .i32 _,_| .str _,_| .nilPtr,_| .nilSlice,_| .nilFn,_| .nilIface,_=>by unfold V.ren V.low;trivial
 | .aFn _ _ v,hb=>by unfold V.low at hb;unfold V.ren V.low;exact V.low_ren h v hb
 | .ptr b _,hb=>by unfold V.low at hb;unfold V.ren V.low;exact h b hb
 | .map b,hb=>by unfold V.low at hb;unfold V.ren V.low;exact h b hb
 | .slice b _ _ _,hb=>by unfold V.low at hb;unfold V.ren V.low;exact h b hb
 | .fn _ fs cs,hb=>by unfold V.low at hb;unfold V.ren V.low;exact⟨nY h fs hb.1,nY h cs hb.2⟩
 | .agg cs,hb=>by unfold V.low at hb;unfold V.ren V.low;exact nY h cs hb
 | .tup cs,hb=>by unfold V.low at hb;unfold V.ren V.low;exact nY h cs hb
 | .iface _ v,hb=>by unfold V.low at hb;unfold V.ren V.low;exact V.low_ren h v hb
theorem nY {σ:Nat→Nat}{n m:Nat}(h:∀ b,b<n→σ b<m):∀ (l:List V),aa n l→aa m (rens σ l)
 |[],_=>by unfold rens;trivial
 |v::l,hb=>by unfold aa at hb;unfold rens;exact⟨V.low_ren h v hb.1,nY h l hb.2⟩
end
mutual
theorem V.ren_ren {σ τ:Nat→Nat}:∀ (v:V),(v.ren τ).ren σ=v.ren (fun b=>σ (τ b))
 | .junk| .bool _| .u8 _| .u32 _| .u64 _| .i64 _| .i32 _| .str _| .nilPtr| .nilSlice| .nilFn| .nilIface=>by simp only[V.ren]
 | .aFn _ _ v=>by simp only[V.ren,V.ren_ren v]
 | .ptr b _=>by simp only[V.ren]
 | .map b=>by simp only[V.ren]
 | .slice b _ _ _=>by simp only[V.ren]
 | .fn _ fs cs=>by simp only[V.ren,nS fs,nS cs]
 | .agg cs=>by simp only[V.ren,nS cs]
 | .tup cs=>by simp only[V.ren,nS cs]
 | .iface _ v=>by simp only[V.ren,V.ren_ren v]
theorem nS {σ τ:Nat→Nat}:∀ (l:List V),rens σ (rens τ l)=rens (fun b=>σ (τ b)) l
 |[]=>by simp only[rens]
 |v::l=>by simp only[rens,V.ren_ren v,nS l]
end
section
variable {sg ix:List Nat}{h h' d d' H H':List (Option Blk)}{P:Program}{f:FuncId}{args:List V}{v:V}
theorem v7 {σ:Nat→Nat}{b:Nat}(hb:b<ix.length):ah (ix.map σ) b=σ (ah ix b):=by
 unfold ah
 rw[List.getD_eq_getElem?_getD,List.getD_eq_getElem?_getD,List.getElem?_map,List.getElem?_eq_getElem hb];rfl
theorem Emb.inj (hE:Emb sg d H){i j:Nat}(hi:i<d.length)(hj:j<d.length)(e:ah sg i=ah sg j):i=j:=by
 have hl:=hE.len
 have e1:=ef (sg:=sg) (b:=i) (by omega)
 have e2:=ef (sg:=sg) (b:=j) (by omega)
 rw[e] at e1
 rw[List.getElem?_eq_getElem (by omega)] at e1 e2
 exact(List.getElem_inj hE.nd).1 (by rw[Option.some.inj e1,Option.some.inj e2])
theorem Emb.trans (h1:Emb ix d' d)(h2:Emb sg d H):Emb (ix.map (ah sg)) d' H:=by
 have hl:=h1.len
 refine⟨by rw[List.length_map];exact hl,?_,fun b hb=>?_,fun b B e=>?_⟩
 ·refine List.Pairwise.map _ (R:=fun a b=>a≠b∧a<d.length∧b<d.length) (fun a b hab e=>hab.1 (h2.inj hab.2.1 hab.2.2 e)) ?_
  exact List.pairwise_iff_getElem.2 fun i j hi hj hij=>⟨List.pairwise_iff_getElem.1 h1.nd i j hi hj hij,h1.lt _ (List.getElem_mem hi),h1.lt _ (List.getElem_mem hj)⟩
 ·obtain⟨i,hi,rfl⟩:=List.mem_map.1 hb
  exact h2.ltOf (h1.lt i hi)
 ·obtain⟨g1,g2⟩:=h1.blk b B e
  have hb:=aM e
  obtain⟨k1,-⟩:=h2.blk _ _ g1
  refine⟨?_,g2⟩
  rw[v7 (by omega),k1]
  show some (Blk.mk _ (rens (ah sg) (rens (ah ix) B.cs)) _)=_
  rw[nS,nI (σ:=fun b=>ah sg (ah ix b)) (τ:=ah (ix.map (ah sg))) (fun b hb=>(v7 (by omega)).symm) _ g2]
def iz (sg:List Nat)(H h h':List (Option Blk)):List (Option Blk):=
 cr H (cH (ah (az sg H.length h')) sg h h')++cu (ah (az sg H.length h')) sg h'
theorem HY (hs:ag P f args h v h')(sg:List Nat)(hlen:sg.length=h.length)(hlow:aa h.length args)(hnd:sg.Nodup)(hsg:∀ b∈sg,b<H.length)
  (hblk:∀ b B,ab h b=some B→ab H (ah sg b)=some ⟨B.ro,rens (ah sg) B.cs,B.mp⟩∧aa h.length B.cs) (hro:∀ b B,ab h' b=some B→h.length≤b→B.ro=false) (hle:h.length≤h'.length):
  ag P f (rens (ah sg) args) H (v.ren (ah (az sg H.length h'))) (iz sg H h h'):=by
 have hS:=xP (get0:=ab H) (nid:=H.length) hs hlen hlow hnd hsg hblk hro hle
 intro ρ w rargs ha hm
 refine(hS ρ (· <H.length) (ab H) w rargs hm ha (fun b hb=>⟨rfl,id⟩) (fun b h1 _ (h2:b<H.length)=>by omega)).mono ?_
 rintro e w' ⟨r,ρ',h1,h2,h3,h4,h5⟩
 have hnl:(cu (ah (az sg H.length h')) sg h').length=h'.length-sg.length:=by rw[jf,List.length_map,List.length_drop]
 have hlen':(iz sg H h h').length=H.length+(h'.length-sg.length):=by
  unfold iz
  rw[List.length_append,d9,jf,List.length_map,List.length_drop]
 have hdom:∀ b,bZ (· <H.length) H.length (cu (ah (az sg H.length h')) sg h').length b→b<(iz sg H h h').length:=fun b hb=>by
  rw[hlen'];rw[hnl] at hb
  rcases hb with hb|⟨_,hb⟩<;>omega
 have hget:∀ b,bv (ab H) (cH (ah (az sg H.length h')) sg h h') H.length (cu (ah (az sg H.length h')) sg h') b=ab (iz sg H h h') b:=fun b=>by
  unfold bv iz
  by_cases hb:b<H.length
  ·rw[if_neg (by omega),dx (by rw[d9];exact hb),mq _ _ _ hb]
  ·have e2:ab (cr H (cH (ah (az sg H.length h')) sg h h')++cu (ah (az sg H.length h')) sg h') b=(cu (ah (az sg H.length h')) sg h')[b-H.length]?.join:=by
    unfold ab;rw[List.getElem?_append_right (by rw[d9];omega),d9]
   rw[e2]
   by_cases h6:b<H.length+(cu (ah (az sg H.length h')) sg h').length
   ·rw[if_pos ⟨by omega,h6⟩]
   ·rw[if_neg (by omega),List.getElem?_eq_none (by omega)]
    have hout:b∉sg:=fun hb2=>hb (hsg b hb2)
    rw[qN (fun i C hi hC=>hout (List.mem_of_getElem? hi)),wD (by omega)];rfl
 have hget':=funext hget
 simp only at h3 h4 h5
 rw[hget'] at h3 h5
 exact⟨r,ρ',h1,h4.mono (fun _ _=>rfl) hdom (Lasts.refl w'),h3.monoDom hdom,by rw[hlen'];omega,h2,h5⟩
structure Dv (d:List (Option Blk)):Prop where
 rw_:∀ b B,ab d b=some B→B.ro=false
 sane:∀ b B,ab d b=some B→aa d.length B.cs
 pos:0<d.length
structure Stp (P:Program) (f:FuncId) (args:List V) (d:List (Option Blk)) (v:V) (d':List (Option Blk)):Prop where
 spec:ag P f args d v d'
 dv:Dv d'
 le:d.length≤d'.length
 low:aa d.length args
 iX:v.low d'.length
theorem Stp.nxt (h:Stp P f args d v d'):Nxt d d':=⟨h.le,fun b B e _=>h.dv.rw_ b B e,h.dv.sane⟩
def fh:List (Option Blk)→Prop
 |[]=>True
 |some B::l=>B.ro=false∧fh l
 |none::l=>fh l
theorem jg:∀ {l:List (Option Blk)},fh l→∀ b B,ab l b=some B→B.ro=false
 |[],_,b,B,e=>by simp[ab] at e
 |some C::l,h,0,B,e=>by
  have e':some C=some B:=e
  cases e'
  exact h.1
 |none::l,h,0,B,e=>by simp[ab] at e
 |some C::l,h,b+1,B,e=>jg h.2 b B e
 |none::l,h,b+1,B,e=>jg (l:=l) h b B e
theorem bE:fh []=True:=rfl
theorem dh {l:List (Option Blk)}:fh (none::l)=fh l:=rfl
theorem bD {B:Blk}{l:List (Option Blk)}:fh (some B::l)=(B.ro=false∧fh l):=rfl
theorem Dv.of (h1:fh d)(h2:aO d.length d)(h3:0<d.length):Dv d:=⟨jg h1,jI h2,h3⟩
def jT (σ:Nat→Nat)(n:Nat)(d:List (Option Blk)):Nat→List (Option Blk)→Prop
 |_,[]=>True
 |i,none::l=>jT σ n d (i+1) l
 |i,some B::l=>(ab d (σ i)=some ⟨B.ro,rens σ B.cs,B.mp⟩∧aa n B.cs)∧jT σ n d (i+1) l
theorem cF {σ:Nat→Nat}{n i:Nat}:jT σ n d i []=True:=rfl
theorem eV {σ:Nat→Nat}{n i:Nat}{l:List (Option Blk)}:jT σ n d i (none::l)=jT σ n d (i+1) l:=rfl
theorem cE {σ:Nat→Nat}{n i:Nat}{B:Blk}{l:List (Option Blk)}:jT σ n d i (some B::l)=((ab d (σ i)=some ⟨B.ro,rens σ B.cs,B.mp⟩∧aa n B.cs)∧jT σ n d (i+1) l):=rfl
theorem v8 {σ:Nat→Nat}{n:Nat}:∀ {l:List (Option Blk)} {i:Nat},jT σ n d i l→∀ b B,ab l b=some B→ab d (σ (i+b))=some ⟨B.ro,rens σ B.cs,B.mp⟩∧aa n B.cs
 |[],_,_,b,B,e=>by simp[ab] at e
 |some C::l,i,h,0,B,e=>by
  have e':some C=some B:=e
  cases e'
  exact h.1
 |none::l,i,h,0,B,e=>by simp[ab] at e
 |some C::l,i,h,b+1,B,e=>by
  have :=v8 h.2 b B e
  rwa [show i+1+b=i+(b+1) by omega] at this
 |none::l,i,h,b+1,B,e=>by
  have :=v8 (l:=l) (i:=i+1) h b B e
  rwa [show i+1+b=i+(b+1) by omega] at this
theorem Emb.of (ix:List Nat)(h1:ix.length=d'.length)(h2:ix.Nodup)(h3:∀ b∈ix,b<d.length)(h4:jT (ah ix) d'.length d 0 d'):Emb ix d' d:=
 ⟨h1,h2,h3,fun b B e=>by have :=v8 h4 b B e;rwa [Nat.zero_add] at this⟩
theorem vA {d1:List (Option Blk)}{args1:List V}{v1:V}(hs:ag P f args h v h')(ix:List Nat)(hE:Emb ix h d)(hlow:aa h.length args)(hro:fh h')(hle:h.length≤h'.length)
  (ha:rens (ah ix) args=args1) (hv:v.ren (ah (az ix d.length h'))=v1) (hm:iz ix d h h'=d1):ag P f args1 d v1 d1:=by
 have :=HY (H:=d) hs ix hE.len hlow hE.nd hE.lt hE.blk (fun b B e _=>jg hro b B e) hle
 rwa [ha,hv,hm] at this
theorem Sane.memH (hs:Sane H)(hE:Emb sg d H)(hN:Nxt d d'):Sane (memH sg H d'):=fun b B e=>by
 have hl:=hE.len
 have hle:=hN.le
 have hlt:=aM e
 rw[jb] at hlt
 refine⟨?_,rfl⟩
 rw[jb]
 have hσ:∀ j,j<d'.length→ah (az sg H.length d') j<H.length+(d'.length-sg.length):=fun j hj=>by
  by_cases hj2:j<sg.length
  ·rw[nX hj2]
   have :=hE.ltOf (i:=j) (by omega)
   omega
  ·rw[mL (by omega) hj];omega
 by_cases hb:b<H.length∧b∉sg
 ·rw[mD hb.1 hb.2] at e
  exact mC (by omega) _ (hs b B e).1
 ·obtain⟨i,hi,rfl⟩:∃ i,i<d'.length∧ah (az sg H.length d') i=b:=by
   by_cases hb2:b<H.length
   ·have hm:b∈sg:=Classical.byContradiction fun hn=>hb ⟨hb2,hn⟩
    obtain⟨i,hi,rfl⟩:=List.getElem_of_mem hm
    exact⟨i,by omega,by rw[nX hi];unfold ah;rw[List.getD_eq_getElem?_getD,List.getElem?_eq_getElem hi];rfl⟩
   ·exact⟨sg.length+(b-H.length),by omega,by rw[mL (by omega) (by omega)];omega⟩
  rw[qe hE.nd hE.lt hi] at e
  cases hx:ab d' i with
  |none=>rw[hx] at e;cases e
  |some C=>
   rw[hx] at e
   cases e
   exact nY hσ _ (hN.sane i C hx)
theorem u0 (hE:Emb sg d H)(hN:Nxt d d'){b:Nat}{B:Blk}(e:ab (memH sg H d') b=some B):(ab H b=some B∧b∉sg∧b<H.length)∨∃ i C,ab d' i=some C∧B=C.ren (ah (az sg H.length d')):=by
 have hl:=hE.len
 have hle:=hN.le
 have hlt:=aM e
 rw[jb] at hlt
 by_cases hb:b<H.length∧b∉sg
 ·rw[mD hb.1 hb.2] at e
  exact .inl ⟨e,hb.2,hb.1⟩
 ·obtain⟨i,hi,rfl⟩:∃ i,i<d'.length∧ah (az sg H.length d') i=b:=by
   by_cases hb2:b<H.length
   ·have hm:b∈sg:=Classical.byContradiction fun hn=>hb ⟨hb2,hn⟩
    obtain⟨i,hi,rfl⟩:=List.getElem_of_mem hm
    exact⟨i,by omega,by rw[nX hi];unfold ah;rw[List.getD_eq_getElem?_getD,List.getElem?_eq_getElem hi];rfl⟩
   ·exact⟨sg.length+(b-H.length),by omega,by rw[mL (by omega) (by omega)];omega⟩
  rw[qe hE.nd hE.lt hi] at e
  cases hx:ab d' i with
  |none=>rw[hx] at e;cases e
  |some C=>
   rw[hx] at e
   cases e
   exact .inr ⟨i,C,hx,rfl⟩
end
end
section
section
variable {G:Gh}{K:Nat→Option Kd}{H:List (Option Blk)}{b:Nat}
end
end
section
section
variable {P:Program}{f:FuncId}{args:List V}{v:V}{H H0 H':List (Option Blk)}{G G':Gh}{K K0 K':Nat→Option Kd}{W:Nat→Prop}{b:Nat}{k:Kd}{cs1 cs2:List V}
theorem rX {b:Nat}{X:List (Option Blk)}(h:b<H.length):ab (H++X) b=ab H b:=dx h X
theorem mS {b:Nat}{X Y:List (Option Blk)}(h:b<H.length):ab (H++X++Y) b=ab H b:=by rw[dx (by rw[List.length_append];omega),dx h]
theorem cP {x:Option Blk}:ab (H++[x]) H.length=x:=Bo H x []
theorem nZ {x:Option Blk}{Y:List (Option Blk)}:ab (H++[x]++Y) H.length=x:=by rw[dx (by simp)];exact cP
theorem Br {x:Option Blk}{Y Z:List (Option Blk)}:ab (H++[x]++Y++Z) H.length=x:=by rw[dx (by simp)];exact nZ
theorem Cj {x y:Option Blk}:ab (H++[x]++[y]) (H.length+1)=y:=by
 have h:=cP (H:=H++[x]) (x:=y)
 rw[List.length_append] at h
 exact h
theorem LZ {x y:Option Blk}{Z:List (Option Blk)}:ab (H++[x]++[y]++Z) (H.length+1)=y:=by rw[dx (by simp)];exact Cj
theorem Pd {x y z:Option Blk}:ab (H++[x]++[y]++[z]) (H.length+2)=z:=by
 have h:=cP (H:=H++[x]++[y]) (x:=z)
 rw[List.length_append,List.length_append] at h
 exact h
attribute [go_sem] cP nZ Br Cj LZ Pd
end
end
section
section
variable {K K':Nat→Option Kd}{f:Ft}{fs gs:List Ft}{cs ds:List V}{n m i:Nat}
end
section
variable {H H0:List (Option Blk)}{G G':Gh}{K K0:Nat→Option Kd}{W:Nat→Prop}{b:Nat}{kd:Kd}{vs:List V}
end
end
def oO (cl:Nat→Nat):List (List Nat×List Nat)→List (List Nat×List Nat)→Prop
 |[],[]=>True
 |x::l,y::l'=>((∀ b∈x.1,cl b∈y.1)∧(∀ b∈x.2,cl b∈y.2))∧oO cl l l'
 |_,_=>False
theorem Bs {cl:Nat→Nat}:∀ {l l':List (List Nat×List Nat)},oO cl l l'→∀ (i:Nat) x,l[i]?=some x→∃ y,l'[i]?=some y∧(∀ b∈x.1,cl b∈y.1)∧(∀ b∈x.2,cl b∈y.2)
 |[],[],_,i,x,h=>by simp at h
 |x::l,y::l',h,0,z,hz=>by simp at hz;subst hz;exact⟨y,rfl,h.1⟩
 |x::l,y::l',h,i+1,z,hz=>by simpa using Bs h.2 i z (by simpa using hz)
 |[],_::_,h,_,_,_=>h.elim
 |_::_,[],h,_,_,_=>h.elim
theorem Ak {cl:Nat→Nat}{a b a' b':List Nat}(ha:∀ x∈a,cl x∈a')(hb:∀ x∈b,cl x∈b')(h:meets a' b'=false):meets a b=false:=by
 unfold meets at*
 rw[List.any_eq_false] at h ⊢
 intro x hx hc
 refine h (cl x) (ha x hx) ?_
 rw[List.contains_iff_mem] at hc ⊢
 exact hb x hc
theorem HZ {ops:Array Oper}{o o':Oper}{cl:Nat→Nat}{e e' f f':List Nat×List Nat}(h1:∀ b∈e.1,cl b∈f.1)(h2:∀ b∈e.2,cl b∈f.2)(h3:∀ b∈e'.1,cl b∈f'.1)(h4:∀ b∈e'.2,cl b∈f'.2)
  (h:fK ops o o' f f'=true):fK ops o o' e e'=true:=by
 unfold fK at*
 simp only[Bool.and_eq_true,Bool.not_eq_true'] at h ⊢
 obtain⟨⟨⟨a1,a2⟩,a3⟩,a4⟩:=h
 refine⟨⟨⟨a1,a2⟩,Ak h2 (fun x hx=>?_) a3⟩,Ak h4 (fun x hx=>?_) a4⟩
 ·rcases List.mem_append.1 hx with h|h
  ·exact List.mem_append.2 (.inl (h3 x h))
  ·exact List.mem_append.2 (.inr (h4 x h))
 ·rcases List.mem_append.1 hx with h|h
  ·exact List.mem_append.2 (.inl (h1 x h))
  ·exact List.mem_append.2 (.inr (h2 x h))
theorem jh {ops:Array Oper}{tr:List (List Nat×List Nat)}(cl:Nat→Nat)(tr':List (List Nat×List Nat))(h:gi ops tr'=true)(hs:oO cl tr tr'):gi ops tr=true:=by
 unfold gi at*
 simp only[List.all_eq_true] at h ⊢
 have up:∀ (x:Oper×(List Nat×List Nat)) (j:Nat),(x,j)∈(ops.toList.zip tr).zipIdx→∃ y,(∀ b∈x.2.1,cl b∈y.1)∧(∀ b∈x.2.2,cl b∈y.2)∧((x.1,y),j)∈(ops.toList.zip tr').zipIdx:=fun x j hx=>by
  rw[List.mem_zipIdx_iff_getElem?] at hx
  simp only at hx
  rw[List.getElem?_zip_eq_some] at hx
  obtain⟨h1,h2⟩:=hx
  obtain⟨y,g1,g2,g3⟩:=Bs hs j x.2 h2
  refine⟨y,g2,g3,?_⟩
  rw[List.mem_zipIdx_iff_getElem?]
  simp only
  rw[List.getElem?_zip_eq_some]
  exact⟨h1,g1⟩
 rintro⟨x,j⟩ hx
 obtain⟨y,a1,a2,a3⟩:=up x j hx
 have hj:=h _ a3
 simp only[Bool.and_eq_true] at hj ⊢
 refine⟨hj.1,?_⟩
 have hj2:=hj.2
 rw[List.all_eq_true] at hj2 ⊢
 rintro⟨z,i⟩ hz
 obtain⟨u,b1,b2,b3⟩:=up z i hz
 have hi:=hj2 _ b3
 simp only[Bool.or_eq_true] at hi ⊢
 rcases hi with hi|hi
 ·exact .inl hi
 ·exact .inr (HZ b1 b2 a1 a2 hi)
def np (N x:Nat):Nat:=if x<N then 0 else 1
theorem qf {N x:Nat}(h:x<N):np N x=0:=if_pos h
theorem Dz (N:Nat):np N N=1:=if_neg (Nat.lt_irrefl N)
theorem Pe (N k:Nat):np N (N+k)=1:=if_neg (by omega)
theorem Pf (N:Nat)(l:List Nat):(∀ b∈l,np N b∈[0,1])=True:=eq_true fun b _=>by unfold np;split <;>simp
theorem jl (cl:Nat→Nat)(x y:List Nat×List Nat)(l l':List (List Nat×List Nat)):oO cl (x::l) (y::l')=(((∀ b∈x.1,cl b∈y.1)∧(∀ b∈x.2,cl b∈y.2))∧oO cl l l'):=rfl
theorem jm (cl:Nat→Nat):oO cl [] []=True:=rfl
theorem aV (Q:Nat→Prop):(∀ b∈([]:List Nat),Q b)=True:=by simp
theorem all_cons (a:Nat)(l:List Nat)(Q:Nat→Prop):(∀ b∈a::l,Q b)=(Q a∧∀ b∈l,Q b):=by simp
theorem jz (l:List Nat):(0∈0::l)=True:=by simp
theorem VY:(1∈[0,1])=True:=by simp
theorem sW:(1∈[1])=True:=by simp
def md (d N x:Nat):Nat:=if x=d then 2 else if x<N then 0 else 1
theorem TO (d N:Nat):md d N d=2:=if_pos rfl
theorem Ck {d N x:Nat}(h:x<N)(hn:x≠d):md d N x=0:=by unfold md;rw[if_neg hn,if_pos h]
theorem Pg {d N k:Nat}(h:d<N):md d N (N+k)=1:=by unfold md;rw[if_neg (by omega),if_neg (by omega)]
theorem TP {d N:Nat}(h:d<N):md d N N=1:=by unfold md;rw[if_neg (by omega),if_neg (by omega)]
theorem VZ (a:Nat):(2∈[a,2])=True:=by simp
section
section
variable {G G':Gh}{K K' K0:Nat→Option Kd}{H H0:List (Option Blk)}{W:Nat→Prop}{d m n:Nat}{cs:List V}{fs:List Ft}
variable {here:BitVec 32}{own pub seed:List ac}{best:Int}{fresh:BitVec 64}{secret:List ac}{index:BitVec 32}{firsts now:Int}{busy:Bool}{peers:V}{paths bucket:Nat}{out got out' got':V}
theorem Pi {b a:Nat}{X Y:List (Option Blk)}{x:Option Blk}(h:b<H.length)(hne:a≠b):ab ((H++X).set a x++Y) b=ab H b:=by
 rw[dx (by rw[List.length_set,List.length_append];omega),cp hne,dx h]
end
end
section
section
variable {P:Program}{m n N k:Nat}{R:Exit→St→Prop}{ks:List Fr}{l:List Oper}{ops:Array Oper}{dst:Option Tmp}{t:List (Nat×V)}
variable {f:FuncId}{args:List V}{H H0:List (Option Blk)}{G:Gh}{K K0:Nat→Option Kd}{W:Nat→Prop}{b:Nat}{bs cs:List ac}
theorem pI {c:Nat}{x y:Option Blk}(h:c<H.length):ab ((H++[x]).set H.length y) c=ab H c:=by rw[cp (by omega),dx h]
theorem rA {x y:Option Blk}:ab ((H++[x]).set H.length y) H.length=y:=iJ (by simp) _
variable {v v':V}{ds:List V}
end
end
section
section
variable {G G':Gh}{K K' K0:Nat→Option Kd}{H H0:List (Option Blk)}{W:Nat→Prop}{p d a:Nat}{ds:List V}
theorem Pj {X y:Option Blk}:ab (H.set p X++[y]) H.length=y:=by
 have :=cP (H:=H.set p X) (x:=y)
 rwa [List.length_set] at this
attribute [go_sem] Pj
variable {tm:Nat}{num:Int}{pub psk:List ac}{at_:BitVec 32}{knows pin:Int}{stamped:Bool}{sec nano:Int}{cookie:List ac}{until_:Int}{waits waits' begun:V}{bindex:BitVec 32}{btext:List ac}{old session next:V}
end
end
section
section
variable {G G':Gh}{K K' K0:Nat→Option Kd}{H H' H0:List (Option Blk)}{W:Nat→Prop}{b c d m n n' N:Nat}{k kc:Kd}{cs ds:List V}
end
end
section
section
variable {G:Gh}{K K0:Nat→Option Kd}{H H0:List (Option Blk)}{W:Nat→Prop}{d m n q:Nat}{ps:List V}
variable {here:BitVec 32}{own pub seed:List ac}{best:Int}{fresh:BitVec 64}{secret:List ac}{index:BitVec 32}{firsts now:Int}{busy:Bool}{peers:V}{paths bucket:Nat}{out got:V}
theorem Bt {b a:Nat}{X Y Z:List (Option Blk)}{x:Option Blk}(h:b<H.length)(hne:a≠b):ab ((H++X++Y).set a x++Z) b=ab H b:=by
 rw[dx (by rw[List.length_set,List.length_append,List.length_append];omega),cp hne,mS h]
theorem Rm:(1∈[1,2])=True:=by simp
end
end
section
open Go Go.RowKit
def d8 (K:Nat→Nat)(n m r:Nat):Nat→Nat:=fun b=>if n≤b∧b<m then r else K b
def iY (a:Option Nat)(K:Nat→Nat):Nat→Nat:=match a with
 |none=>K
 |some x=>fun b=>if b=x then 0 else K b
section
variable {K K0 K':Nat→Nat}{H H0 H':List (Option Blk)}{vs ds zs ys:List V}{b r n m:Nat}{sg:List Nat}{d d':List (Option Blk)}
theorem kp (h:b<n):d8 K n m r b=K b:=if_neg (by omega)
theorem wa (h1:n≤b)(h2:b<m):d8 K n m r b=r:=if_pos ⟨h1,h2⟩
theorem Cl (h:m≤b):d8 K n m r b=K b:=if_neg (by omega)
theorem vB {a:Option Nat}(h:K b=0):iY a K b=0:=by
 cases a with
 |none=>exact h
 |some x=>
  show(if b=x then 0 else K b)=0
  split <;>first|rfl|exact h
theorem wF {a:Option Nat}(h:∀ x,a=some x→b≠x):iY a K b=K b:=by
 cases a with
 |none=>rfl
 |some x=>exact if_neg (h x rfl)
theorem ic {a:Option Nat}:(cutH a H).length=H.length:=by cases a<;>simp[cutH]
theorem Cm {a:Option Nat}(h:∀ x,a=some x→b≠x):ab (cutH a H) b=ab H b:=by
 cases a with
 |none=>rfl
 |some x=>exact cp (fun e=>h x rfl e.symm) _
theorem Sane.app (h:Sane H){ro:Bool}{mm:Option MapC}(hl:aa (H.length+1) vs):Sane (H++[some ⟨ro,vs,mm⟩]):=fun c B e=>by
 refine⟨?_,rfl⟩
 rw[List.length_append]
 by_cases hc:c<H.length
 ·rw[dx hc] at e
  exact mC (by simp) _ (h c B e).1
 ·have :=aM e
  obtain rfl:c=H.length:=by rw[List.length_append] at this;simp at this;omega
  rw[cP] at e
  cases e
  exact hl
theorem Sane.set (h:Sane H){ro:Bool}{mm:Option MapC}(hl:aa H.length vs):Sane (H.set b (some ⟨ro,vs,mm⟩)):=fun c B e=>by
 refine⟨?_,rfl⟩
 rw[List.length_set]
 by_cases hc:b=c
 ·subst hc
  have :=aM e
  rw[List.length_set] at this
  rw[iJ this] at e
  cases e
  exact hl
 ·rw[cp hc] at e
  exact(h c B e).1
theorem Sane.cutO (h:Sane H)(a:Option Nat):Sane (cutH a H):=fun c B e=>by
 refine⟨?_,rfl⟩
 rw[ic]
 cases a with
 |none=>exact(h c B e).1
 |some x=>
  by_cases hc:x=c
  ·subst hc
   have :=aM e
   rw[ic] at this
   have e2:ab (cutH (some x) H) x=none:=iJ this _
   rw[e2] at e;cases e
  ·have e2:ab (cutH (some x) H) c=ab H c:=cp hc _
   rw[e2] at e
   exact(h c B e).1
structure CurL (K0:Nat→Nat) (H0:List (Option Blk)) (K:Nat→Nat) (H:List (Option Blk)):Prop where
 len:H0.length≤H.length
 keep:∀ b,b<H0.length→K0 b=0→ab H b=ab H0 b
 kin:∀ b,b<H0.length→K0 b=0→K b=0
 ro:RoK H0 H
 sane:Sane H
 fresh:∀ b,H.length≤b→K b=0
structure Kp (S:Nat→Prop) (K:Nat→Nat) (H:List (Option Blk)) (K':Nat→Nat) (H':List (Option Blk)):Prop where
 le:H.length≤H'.length
 k:∀ b,S (K b)→K' b=K b
 h:∀ b,S (K b)→ab H' b=ab H b
theorem Kp.mono {S S':Nat→Prop}(h:Kp S K H K' H')(hs:∀ r,S' r→S r):Kp S' K H K' H':=⟨h.le,fun b hb=>h.k b (hs _ hb),fun b hb=>h.h b (hs _ hb)⟩
theorem Kp.trans {S:Nat→Prop}{K2:Nat→Nat}{H2:List (Option Blk)}(h:Kp S K H K' H')(h2:Kp S K' H' K2 H2):Kp S K H K2 H2:=
 ⟨Nat.le_trans h.le h2.le,fun b hb=>(h2.k b (by rw[h.k b hb];exact hb)).trans (h.k b hb),fun b hb=>(h2.h b (by rw[h.k b hb];exact hb)).trans (h.h b hb)⟩
theorem CurL.refl (hs:Sane H)(hf:∀ b,H.length≤b→K b=0):CurL K H K H:=⟨Nat.le_refl _,fun _ _ _=>rfl,fun _ _ h=>h,.refl H,hs,hf⟩
theorem CurL.start (h:CurL K0 H0 K H):CurL K H K H:= .refl h.sane h.fresh
theorem CurL.lt (h:CurL K0 H0 K H)(hb:K b≠0):b<H.length:=Classical.byContradiction fun hn=>hb (h.fresh b (by omega))
theorem CurL.trans (h:CurL K0 H0 K H)(h2:CurL K H K' H'):CurL K0 H0 K' H':=
 ⟨Nat.le_trans h.len h2.len,fun b hb hn=>(h2.keep b (Nat.lt_of_lt_of_le hb h.len) (h.kin b hb hn)).trans (h.keep b hb hn),fun b hb hn=>h2.kin b (Nat.lt_of_lt_of_le hb h.len) (h.kin b hb hn),h.ro.trans h2.ro,h2.sane,h2.fresh⟩
theorem CurL.junk (h:CurL K0 H0 K H)(hl:aa (H.length+1) vs):CurL K0 H0 K (H++[bK vs]):=
 ⟨by rw[List.length_append];exact Nat.le_trans h.len (Nat.le_add_right _ _),fun c hc hn=>by rw[dx (Nat.lt_of_lt_of_le hc h.len)];exact h.keep c hc hn,h.kin,h.ro.app,h.sane.app hl,fun b hb=>h.fresh b (by rw[List.length_append] at hb;omega)⟩
theorem CurL.kpJunk (h:CurL K0 H0 K H){X:List (Option Blk)}:Kp (· ≠0) K H K (H++X):=⟨by simp,fun _ _=>rfl,fun b hb=>dx (h.lt hb) _⟩
theorem CurL.boxed (h:CurL K0 H0 K H)(h1:aa (H.length+1) zs)(h2:aa (H.length+1) ys):CurL K0 H0 K ((H++[bK zs]).set H.length (bK ys)):=by
 have hJ:=h.junk h1
 refine⟨by rw[List.length_set];exact hJ.len,fun c hc hn=>by rw[cp (by have :=h.len;omega)];exact hJ.keep c hc hn,h.kin,hJ.ro.put,hJ.sane.set (by rw[List.length_append];exact h2),fun b hb=>hJ.fresh b (by rw[List.length_set] at hb;exact hb)⟩
theorem CurL.kpBox (h:CurL K0 H0 K H){x y:Option Blk}:Kp (· ≠0) K H K ((H++[x]).set H.length y):=⟨by simp,fun _ _=>rfl,fun b hb=>pI (h.lt hb)⟩
theorem CurL.put (h:CurL K0 H0 K H)(hb:K b≠0)(hl:aa H.length vs):CurL K0 H0 K (H.set b (bK vs)):=
 ⟨by rw[List.length_set];exact h.len,fun c hc hn=>by rw[cp (fun e=>by subst e;exact hb (h.kin _ hc hn))];exact h.keep c hc hn,h.kin,h.ro.put,h.sane.set hl,fun b hb=>h.fresh b (by rw[List.length_set] at hb;exact hb)⟩
theorem CurL.kpPut (h:CurL K0 H0 K H){x:Option Blk}:Kp (fun r=>r≠0∧r≠K b) K H K (H.set b x):=⟨by simp,fun _ _=>rfl,fun c hc=>cp (fun e=>hc.2 (by rw[e])) _⟩
theorem CurL.jput (h:CurL K0 H0 K H)(hb:H0.length≤b)(hl:aa H.length vs):CurL K0 H0 K (H.set b (bK vs)):=
 ⟨by rw[List.length_set];exact h.len,fun c hc hn=>by rw[cp (by omega)];exact h.keep c hc hn,h.kin,h.ro.put,h.sane.set hl,fun b hb=>h.fresh b (by rw[List.length_set] at hb;exact hb)⟩
theorem CurL.grow (h:CurL K0 H0 K H)(hb:K b≠0)(a:Option Nat)(ha:∀ x,a=some x→K x≠0)(r:Nat)(h1:aa (H.length+1) ds)(h2:aa (H.length+1) vs):
  CurL K0 H0 (d8 (iY a K) H.length (H.length+1) r) ((cutH a H++[bK ds]).set b (bK vs)):=by
 have hl:=h.len
 refine⟨by rw[List.length_set,List.length_append,ic];omega,fun c hc hn=>?_,fun c hc hn=>?_,((h.ro.cutH a).app).put,((h.sane.cutO a).app (by rw[ic];exact h1)).set (by rw[List.length_append,ic];exact h2),fun c hc=>?_⟩
 ·have hk:=h.kin c hc hn
  rw[cp (fun e=>by subst e;exact hb hk),dx (by rw[ic];omega),Cm (fun x e e2=>ha x e (by rw[←e2];exact hk))]
  exact h.keep c hc hn
 ·rw[kp (by omega)]
  exact vB (h.kin c hc hn)
 ·rw[List.length_set,List.length_append,ic] at hc
  rw[Cl (by simpa using hc)]
  exact vB (h.fresh c (by omega))
theorem CurL.kpGrow (h:CurL K0 H0 K H)(a:Option Nat)(ha:∀ x,a=some x→K x=r){x y:Option Blk}:Kp (fun q=>q≠0∧q≠K b∧q≠r) K H (d8 (iY a K) H.length (H.length+1) r) ((cutH a H++[x]).set b y):=by
 refine⟨by rw[List.length_set,List.length_append,ic];omega,fun c hc=>?_,fun c hc=>?_⟩
 ·rw[kp (h.lt hc.1),wF fun x e e2=>hc.2.2 (by rw[e2];exact ha x e)]
 ·rw[cp (fun e=>hc.2.1 (by rw[e])),dx (by rw[ic];exact h.lt hc.1),Cm fun x e e2=>hc.2.2 (by rw[e2];exact ha x e)]
theorem CurL.dev (h:CurL K0 H0 K H)(hE:Emb sg d H)(hk:∀ b∈sg,K b=r)(hr:r≠0)(hd:Dv d')(hle:d.length≤d'.length):CurL K0 H0 (d8 K H.length (memH sg H d').length r) (memH sg H d'):=by
 have hN:Nxt d d':=⟨hle,fun b B e _=>hd.rw_ b B e,hd.sane⟩
 have hl:=h.len
 have hml:=jb (sg:=sg) (H:=H) (h':=d')
 refine⟨by omega,fun c hc hn=>?_,fun c hc hn=>?_,h.ro.trans fun c B e hro=>?_,h.sane.memH hE hN,fun c hc=>?_⟩
 ·rw[mD (by omega) fun hm=>hr ((hk c hm).symm.trans (h.kin c hc hn))]
  exact h.keep c hc hn
 ·rw[kp (by omega)];exact h.kin c hc hn
 ·rcases u0 hE hN e with⟨g1,-,g3⟩|⟨i,C,g1,rfl⟩
  ·exact⟨g3,g1⟩
  ·have :=hd.rw_ i C g1
   have e2:(C.ren (ah (az sg H.length d'))).ro=C.ro:=rfl
   rw[e2,this] at hro;cases hro
 ·rw[Cl hc];exact h.fresh c (by omega)
theorem CurL.kpDev (h:CurL K0 H0 K H)(hk:∀ b∈sg,K b=r):Kp (fun q=>q≠0∧q≠r) K H (d8 K H.length (memH sg H d').length r) (memH sg H d'):=
 ⟨by rw[jb];omega,fun b hb=>kp (h.lt hb.1),fun b hb=>mD (h.lt hb.1) fun hm=>hb.2 (hk b hm)⟩
structure DoneL (P:Program) (f:FuncId) (args:List V) (K0:Nat→Nat) (H0:List (Option Blk)) (v:V) (K:Nat→Nat) (H:List (Option Blk)):Prop where
 spec:ag P f args H0 v H
 cur:CurL K0 H0 K H
 low:v.low H.length
def EndL (K0:Nat→Nat)(H0:List (Option Blk))(Post:V→(Nat→Nat)→List (Option Blk)→Prop)(v:V)(s:St):Prop:=∃ K',CurL K0 H0 K' s.H∧v.low s.H.length∧Post v K' s.H
theorem EndL.of {Post:V→(Nat→Nat)→List (Option Blk)→Prop}{v:V}{s:St}(hC:CurL K0 H0 K' s.H)(hl:v.low s.H.length)(hp:Post v K' s.H):EndL K0 H0 Post v s:=⟨K',hC,hl,hp⟩
variable {P:Program}{R:Exit→St→Prop}{k:List Fr}{l:List Oper}{ops:Array Oper}{dst:Option Tmp}{f:FuncId}{fs cs args args0:List V}{v:V}
theorem dg (hmix:P.follows .mixedOrders=true){fn:Func}{c:Code}{Post:V→(Nat→Nat)→List (Option Blk)→Prop}(hf:P.funcs[f]?=some fn)(hb:fn.body=some c)(hn:args.length≤fn.ntmps)
  (hv:vc P H.length fn.ntmps c (fQ P fn (EndL K H Post)) ⟨fg args 0,H⟩):∃ v K' H',DoneL P f args K H v K' H'∧Post v K' H':=by
 obtain⟨v,s',h1,⟨K',h2,h3,h4⟩,h5⟩:=wS (s:=⟨fg args 0,H⟩) (Nat.le_refl _) hv
 exact⟨v,K',s'.H,⟨ap hmix hf hb hn (eL c _ _ _ (fun e s hs=>vr (fun v2 s2 hh=>by
  obtain⟨rfl,rfl⟩:=hh
  exact Fin.id h1) hs) h5),h2,h3⟩,h4⟩
theorem DoneL.whole (h:DoneL P f args K H v K' H')(hl:aa H.length args)(hs:Sane H):Whole P f args H v H' (xo (fun b=>K b≠0) H.length):=
 ⟨h.spec,h.cur.len,hl,hs,h.cur.sane,h.low,fun b hb hn=>h.cur.keep b hb (Classical.byContradiction fun hw=>hn (Ai.2 ⟨hb,hw⟩)),fun b hb=>(Ai.1 hb).1,fun b B e hor=>by
  cases r:B.ro with
  |false=>rfl
  |true=>
   obtain⟨g1,g2⟩:=h.cur.ro b B e r
   rcases hor with hb|hb
   ·omega
   ·rw[g2] at hb;cases hb⟩
theorem bx {t:List (Nat×V)}{Post:V→(Nat→Nat)→List (Option Blk)→Prop}(hd:∃ v K' H',DoneL P f args0 K H v K' H'∧Post v K' H')(hc:cW P f=true)(ha:args0=fs++args++cs)(hl:aa H.length args0)(hs:Sane H)
  (hk:∀ v K' H',CurL K H K' H'→v.low H'.length→Post v K' H'→dW P m n R l ops k ⟨eB t dst v,H'⟩):jO P m n R (.fn f fs cs) args dst l ops k ⟨t,H⟩:=by
 obtain⟨v,K',H',h1,h2⟩:=hd
 exact JG (h1.whole hl hs) hc ha (hk v K' H' h1.cur h1.low h2)
end
abbrev G3:=BitVec 32×BitVec 32×List ac
def g9:Option G3→List V
 |none=>[]
 |some (a,b,s)=>[.u32 a,.u32 b,.str s]
def gk:Option G3→Nat
 |none=>0
 |some _=>1
def l7 (cs:List V):Prop:=(∀ u∈cs,u.one=true)∧(∀ σ,rens σ cs=cs)∧(∀ n,aa n cs)
def AirAt (K:Nat→Nat)(H:List (Option Blk))(va:V)(g:Option G3):Prop:=(va= .nilSlice∧g=none)∨∃ a,va= .slice a 0 (gk g) 3∧K a=5∧ab H a=bK (g9 g)
def AllAt (K:Nat→Nat)(r:Nat)(H:List (Option Blk))(v:V)(k:Nat):Prop:=(v= .nilSlice∧k=0)∨∃ a cs,v= .slice a 0 k 3∧0<k∧K a=r∧ab H a=bK cs∧cs.length=k*3∧l7 cs
structure NAt (K:Nat→Nat) (H:List (Option Blk)) (rn rd ra:Nat) (x:Nat) (sg:List Nat) (v:V) (d:List (Option Blk)) (k:Nat):Prop where
 kx:K x=rn
 ks:∀ b∈sg,K b=rd
 g:ab H x=bK [.ptr (ah sg 0) 0,v]
 e:Emb sg d H
 all:AllAt K ra H v k
 dv:Dv d
structure LAt (K:Nat→Nat) (H:List (Option Blk)) (l na x0 x1:Nat) (va:V) (g:Option G3):Prop where
 kl:K l=1
 ka:K na=2
 gl:ab H l=bK [.slice na 0 2 1,va]
 ga:ab H na=bK [.ptr x0 0,.ptr x1 0]
 air:AirAt K H va g
structure LS (K:Nat→Nat) (H:List (Option Blk)) (l:Nat) (d0 d1:List (Option Blk)) (g:Option G3) (k0 k1:Nat):Prop where
 ex:∃ na x0 x1 va sg0 sg1 v0 v1,LAt K H l na x0 x1 va g∧NAt K H 3 8 6 x0 sg0 v0 d0 k0∧NAt K H 4 9 7 x1 sg1 v1 d1 k1
section
variable {S:Nat→Prop}{K K0 K':Nat→Nat}{H H0 H':List (Option Blk)}{sg ix:List Nat}{d d' d0 d1:List (Option Blk)}{rn rd ra x l na x0 x1 k k0 k1 r:Nat}{v va:V}{g:Option G3}
theorem AllAt.keep (h:AllAt K ra H v k)(hk:Kp S K H K' H')(hs:S ra):AllAt K' ra H' v k:=by
 rcases h with h|⟨a,cs,h1,h2,h3,h4,h5⟩
 ·exact .inl h
 ·exact .inr ⟨a,cs,h1,h2,(hk.k a (by rw[h3];exact hs)).trans h3,(hk.h a (by rw[h3];exact hs)).trans h4,h5⟩
theorem AirAt.keep (h:AirAt K H va g)(hk:Kp S K H K' H')(hs:S 5):AirAt K' H' va g:=by
 rcases h with h|⟨a,h1,h3,h4⟩
 ·exact .inl h
 ·exact .inr ⟨a,h1,(hk.k a (by rw[h3];exact hs)).trans h3,(hk.h a (by rw[h3];exact hs)).trans h4⟩
theorem NAt.keep (h:NAt K H rn rd ra x sg v d k)(hk:Kp S K H K' H')(h1:S rn)(h2:S rd)(h3:S ra):NAt K' H' rn rd ra x sg v d k:=
 ⟨(hk.k x (by rw[h.kx];exact h1)).trans h.kx,fun b hb=>(hk.k b (by rw[h.ks b hb];exact h2)).trans (h.ks b hb),(hk.h x (by rw[h.kx];exact h1)).trans h.g,h.e.stay hk.le (fun i B e=>hk.h _ (by rw[h.ks _ (h.e.mem (aM e))];exact h2)),h.all.keep hk h3,h.dv⟩
theorem LAt.keep (h:LAt K H l na x0 x1 va g)(hk:Kp S K H K' H')(h1:S 1)(h2:S 2)(h5:S 5):LAt K' H' l na x0 x1 va g:=
 ⟨(hk.k l (by rw[h.kl];exact h1)).trans h.kl,(hk.k na (by rw[h.ka];exact h2)).trans h.ka,(hk.h l (by rw[h.kl];exact h1)).trans h.gl,(hk.h na (by rw[h.ka];exact h2)).trans h.ga,h.air.keep hk h5⟩
theorem LS.keep (h:LS K H l d0 d1 g k0 k1)(hk:Kp (· ≠0) K H K' H'):LS K' H' l d0 d1 g k0 k1:=by
 obtain⟨na,x0,x1,va,sg0,sg1,v0,v1,hL,h0,h1⟩:=h.ex
 exact⟨na,x0,x1,va,sg0,sg1,v0,v1,hL.keep hk (by decide) (by decide) (by decide),h0.keep hk (by decide) (by decide) (by decide),h1.keep hk (by decide) (by decide) (by decide)⟩
theorem NAt.head (h:NAt K H rn rd ra x sg v d k):ah sg 0∈sg:=h.e.mem h.dv.pos
theorem NAt.dev (hC:CurL K0 H0 K H)(h:NAt K H rn rd ra x sg v d k)(hd:Dv d')(hle:d.length≤d'.length)(h1:rn≠0∧rn≠rd)(h3:ra≠0∧ra≠rd):NAt (d8 K H.length (memH sg H d').length rd) (memH sg H d') rn rd ra x (az sg H.length d') v d' k:=by
 have hk:=hC.kpDev (d':=d') h.ks
 have hl:=h.e.len
 have hpos:=h.dv.pos
 refine⟨(hk.k x (by rw[h.kx];exact h1)).trans h.kx,fun b hb=>?_,?_,h.e.call ⟨hle,fun b B e _=>hd.rw_ b B e,hd.sane⟩,h.all.keep hk h3,hd⟩
 ·rcases Aj hb with hb|⟨hb1,hb2⟩
  ·rw[kp (h.e.lt b hb)];exact h.ks b hb
  ·rw[wa hb1 (by rw[jb];exact hb2)]
 ·rw[nX (by omega)]
  exact(hk.h x (by rw[h.kx];exact h1)).trans h.g
theorem NAt.canon (h:NAt K H rn rd ra x sg v d k)(hE:Emb ix d' d)(h0:ah ix 0=0)(hd:Dv d'):NAt K H rn rd ra x (ix.map (ah sg)) v d' k:=by
 have hl:=hE.len
 have hpos:=hd.pos
 refine⟨h.kx,fun b hb=>?_,?_,hE.trans h.e,h.all,hd⟩
 ·obtain⟨i,hi,rfl⟩:=List.mem_map.1 hb
  exact h.ks _ (h.e.mem (hE.lt i hi))
 ·rw[v7 (by omega),h0];exact h.g
end
end
section
def eZ (K:Nat→Nat)(r N x:Nat):Nat:=if x<N then(if K x=r then 2 else 0) else 1
section
variable {K:Nat→Nat}{r N x k n:Nat}{sg:List Nat}
theorem iO (h:K x≠r)(hx:x<N):eZ K r N x=0:=by unfold eZ;rw[if_pos hx,if_neg h]
theorem DA (h:K x=r)(hx:x<N):eZ K r N x=2:=by unfold eZ;rw[if_pos hx,if_pos h]
theorem C1 (h:N≤x):eZ K r N x=1:=by unfold eZ;rw[if_neg (by omega)]
theorem qg (h:∀ b∈sg,K b=r)(hl:∀ b∈sg,b<N):(∀ b∈sg,eZ K r N b∈[2])=True:=eq_true fun b hb=>by rw[DA (h b hb) (hl b hb)];simp
theorem pZ (h:∀ b∈sg,K b=r)(hl:∀ b∈sg,b<N)(hn:N≤n):(∀ b∈sg++List.range' n k,eZ K r N b∈[1,2])=True:=eq_true fun b hb=>by
 rcases List.mem_append.1 hb with hb|hb
 ·rw[DA (h b hb) (hl b hb)];simp
 ·rw[List.mem_range'_1] at hb
  rw[C1 (by omega)];simp
theorem rR {H:List (Option Blk)}{b a:Nat}{X:List (Option Blk)}{x:Option Blk}(h:b<H.length)(hne:a≠b):ab (H.set a x++X) b=ab H b:=by
 rw[dx (by rw[List.length_set];exact h),cp hne]
theorem Pk:(eZ K r N x∈[0,1,2])=True:=eq_true (by unfold eZ;split <;>(try split)<;>simp)
theorem Pm {S:Nat→Prop}{K:Nat→Nat}{H:List (Option Blk)}{x:Nat}{B:Option Blk}(h:ab H x=B):Kp S K H K (H.set x B):=⟨by simp,fun _ _=>rfl,fun b _=>by
 by_cases e:x=b
 ·subst e
  by_cases hl:x<H.length
  ·rw[iJ hl];exact h.symm
  ·rw[wD (by rw[List.length_set];omega),wD (by omega)]
 ·exact cp e _⟩
end
section
variable {K K0:Nat→Nat}{H H0:List (Option Blk)}{l na x0 x1 x k n rn rd ra:Nat}{va v v':V}{g:Option G3}{sg:List Nat}{d:List (Option Blk)}{ds:List V}
theorem Pn (g:Option G3)(n:Nat):aa n (g9 g):=by
 cases g with
 |none=>exact trivial
 |some g=>exact⟨trivial,trivial,trivial,trivial⟩
theorem LAt.grow (hC:CurL K0 H0 K H)(hL:LAt K H l na x0 x1 va g)(a:Option Nat)(ha:∀ x,a=some x→K x=5)(g':Option G3):
  CurL K0 H0 (d8 (iY a K) H.length (H.length+1) 5) ((cutH a H++[bK (g9 g')]).set l (bK [.slice na 0 2 1,.slice H.length 0 (gk g') 3]))∧
  Kp (fun q=>q≠0∧q≠1∧q≠5) K H (d8 (iY a K) H.length (H.length+1) 5) ((cutH a H++[bK (g9 g')]).set l (bK [.slice na 0 2 1,.slice H.length 0 (gk g') 3]))∧
  LAt (d8 (iY a K) H.length (H.length+1) 5) ((cutH a H++[bK (g9 g')]).set l (bK [.slice na 0 2 1,.slice H.length 0 (gk g') 3])) l na x0 x1 (.slice H.length 0 (gk g') 3) g':=by
 have hll:=hC.lt (b:=l) (by rw[hL.kl];decide)
 have hla:=hC.lt (b:=na) (by rw[hL.ka];decide)
 have hk:=hC.kpGrow (b:=l) (r:=5) a ha (x:=bK (g9 g')) (y:=bK [.slice na 0 2 1,.slice H.length 0 (gk g') 3])
 rw[hL.kl] at hk
 refine⟨hC.grow (by rw[hL.kl];decide) a (fun x e=>by rw[ha x e];decide) 5 (Pn _ _) ⟨Nat.lt_succ_of_lt hla,Nat.lt_succ_self _,trivial⟩,hk,?_,(hk.k na (by rw[hL.ka];decide)).trans hL.ka,iJ (by rw[List.length_append,ic];omega) _,(hk.h na (by rw[hL.ka];decide)).trans hL.ga,.inr ⟨_,rfl,wa (Nat.le_refl _) (by omega),?_⟩⟩
 ·rw[kp hll,wF fun x e e2=>by have :=ha x e;rw[←e2,hL.kl] at this;omega]
  exact hL.kl
 ·rw[cp (by omega)]
  have :=cP (H:=cutH a H) (x:=bK (g9 g'))
  rw[ic] at this
  exact this
theorem NAt.grow (hC:CurL K0 H0 K H)(hN:NAt K H rn rd ra x sg v d n)(h1:rn≠0∧rn≠ra)(h2:rd≠0∧rd≠rn∧rd≠ra)(h3:ra≠0)(a:Option Nat)(ha:∀ x,a=some x→K x=ra)(hk0:0<k)(hl:ds.length=k*3)(ho:l7 ds):
  CurL K0 H0 (d8 (iY a K) H.length (H.length+1) ra) ((cutH a H++[bK ds]).set x (bK [.ptr (ah sg 0) 0,.slice H.length 0 k 3]))∧
  Kp (fun q=>q≠0∧q≠rn∧q≠ra) K H (d8 (iY a K) H.length (H.length+1) ra) ((cutH a H++[bK ds]).set x (bK [.ptr (ah sg 0) 0,.slice H.length 0 k 3]))∧
  NAt (d8 (iY a K) H.length (H.length+1) ra) ((cutH a H++[bK ds]).set x (bK [.ptr (ah sg 0) 0,.slice H.length 0 k 3])) rn rd ra x sg (.slice H.length 0 k 3) d k:=by
 have hxl:=hC.lt (b:=x) (by rw[hN.kx];exact h1.1)
 have hcl:=hN.e.lt _ hN.head
 have hk:=hC.kpGrow (b:=x) (r:=ra) a ha (x:=bK ds) (y:=bK [.ptr (ah sg 0) 0,.slice H.length 0 k 3])
 rw[hN.kx] at hk
 refine⟨hC.grow (by rw[hN.kx];exact h1.1) a (fun x e=>by rw[ha x e];exact h3) ra (ho.2.2 _) ⟨Nat.lt_succ_of_lt hcl,Nat.lt_succ_self _,trivial⟩,hk,?_,fun b hb=>(hk.k b (by rw[hN.ks b hb];exact h2)).trans (hN.ks b hb),iJ (by rw[List.length_append,ic];omega) _,hN.e.stay hk.le (fun i B e=>hk.h _ (by rw[hN.ks _ (hN.e.mem (aM e))];exact h2)),.inr ⟨_,ds,rfl,hk0,wa (Nat.le_refl _) (by omega),?_,hl,ho⟩,hN.dv⟩
 ·rw[kp hxl,wF fun y e e2=>by have :=ha y e;rw[←e2,hN.kx] at this;exact h1.2 this]
  exact hN.kx
 ·rw[cp (by omega)]
  have :=cP (H:=cutH a H) (x:=bK ds)
  rw[ic] at this
  exact this
end
end
theorem Bu {α:Type}{p:List α→Prop}(h0:p [])(h1:∀ l a,p l→p (l++[a]))(l:List α):p l:=by
 have :∀ l:List α,p l.reverse:=by
  intro l
  induction l with
  |nil=>exact h0
  |cons a l ih=>rw[List.reverse_cons];exact h1 _ _ ih
 have h:=this l.reverse
 rwa [List.reverse_reverse] at h
theorem lM (k:Nat):256^(k+1)=256*256^k:=by rw[Nat.pow_succ,Nat.mul_comm]
def be (s:List (BitVec 8)):Nat:=s.foldl (fun n b=>256*n+b.toNat) 0
def le:List (BitVec 8)→Nat
 |[]=>0
 |b::l=>b.toNat+256*le l
def ar (n:Nat):Nat→List (BitVec 8)
 |0=>[]
 |k+1=>ar (n/256) k++[BitVec.ofNat 8 n]
def aE (n:Nat):Nat→List (BitVec 8)
 |0=>[]
 |k+1=>BitVec.ofNat 8 n::aE (n/256) k
theorem Cn (s:List (BitVec 8))(b:BitVec 8):be (s++[b])=256*be s+b.toNat:=by unfold be;rw[List.foldl_append];rfl
theorem Rn:be []=0:=rfl
theorem DB (s:List (BitVec 8)):be s<256^s.length:=by
 induction s using Bu with
 |h0=>exact Nat.one_pos
 |h1 s b ih=>
  rw[Cn,List.length_append,List.length_singleton,lM]
  have :=b.isLt
  omega
theorem oG (s:List (BitVec 8)):le s<256^s.length:=by
 induction s with
 |nil=>exact Nat.one_pos
 |cons b s ih=>
  rw[le,List.length_cons,lM]
  have :=b.isLt
  omega
theorem aW (n k:Nat):(ar n k).length=k:=by
 induction k generalizing n with
 |zero=>rfl
 |succ k ih=>rw[ar,List.length_append,ih];rfl
theorem br (n k:Nat):(aE n k).length=k:=by
 induction k generalizing n with
 |zero=>rfl
 |succ k ih=>rw[aE,List.length_cons,ih]
theorem C2 (n k:Nat):le (aE n k)=n%256^k:=by
 induction k generalizing n with
 |zero=>simp[aE,le,Nat.mod_one]
 |succ k ih=>
  rw[aE,le,ih,BitVec.toNat_ofNat,lM,Nat.mod_mul]
theorem H9 (m:Nat)(b:BitVec 8):BitVec.ofNat 8 (256*m+b.toNat)=b:=by
 apply BitVec.eq_of_toNat_eq
 have :=b.isLt
 rw[BitVec.toNat_ofNat]
 show(256*m+b.toNat)%256=_
 omega
theorem Ro (s:List (BitVec 8)):aE (le s) s.length=s:=by
 induction s with
 |nil=>rfl
 |cons b s ih=>
  have hb:=b.isLt
  rw[List.length_cons,aE,le,show(b.toNat+256*le s)/256=le s by omega,ih,show b.toNat+256*le s=256*le s+b.toNat by omega,H9]
theorem oa (n k:Nat):aE (n%256^k) k=aE n k:=by
 have h:=Ro (aE n k)
 rw[C2,br] at h;exact h
theorem nT {s:List (BitVec 8)}{i:Nat}(h:i<s.length):s.take (i+1)=s.take i++[s.getD i 0]:=by
 rw[List.take_succ_eq_append_getElem h,List.getD_eq_getElem?_getD,List.getElem?_eq_getElem h];rfl
theorem Po {n:Nat}(h:n<72057594037927936)(b:BitVec 8):BitVec.ofNat 64 n<<<8|||b.setWidth 64=BitVec.ofNat 64 (256*n+b.toNat):=by
 apply BitVec.eq_of_toNat_eq
 have hb:=b.isLt
 rw[BitVec.toNat_or,BitVec.toNat_shiftLeft,BitVec.toNat_ofNat,BitVec.toNat_setWidth,BitVec.toNat_ofNat,Nat.mod_eq_of_lt (by omega :n<2^64),Nat.mod_eq_of_lt (by omega :b.toNat<2^64),Nat.mod_eq_of_lt (by omega :256*n+b.toNat<2^64),
  Nat.mod_eq_of_lt (by rw[Nat.shiftLeft_eq];omega),←Nat.shiftLeft_add_eq_or_of_lt (by omega :b.toNat<2^8),Nat.shiftLeft_eq]
 omega
end Go.Vm
end
