/- A part of the proof: laws of a small machine of values, or what one function answers, proved against the model; no conditions beyond those in each theorem. -/
import Derived.Maps.RangeRun
import Derived.Test.YtgffdnniifmglaaGreatDoorVmTToTot2
set_option linter.unusedVariables false
set_option linter.unusedSimpArgs false
set_option linter.unusedSectionVars false
set_option maxRecDepth 20000
set_option maxHeartbeats 8000000
section
namespace Go.Vm
section
open Go Go.RowKit
open Go.ChangeMaps (setBlock)
section
variable {P:Program}{m n:Nat}
def GS (P:Program)(m n:Nat)(c:Code)(Q:Exit→St→Prop)(s:St):Prop:=
 ∀ (ρ:Nat→Nat×Nat) (a:Act) (w:World),RelSt ρ n s a w→m≤s.H.length→c.wp P (pD m n ρ s w Q) a w
theorem iS (hmix:P.follows .mixedOrders=true){c:Code}{Q:Exit→St→Prop}{s:St}(h:vc P m n c Q s):GS P m n c Q s:=fun ρ a w hr hm=>gz hmix c Q s h ρ a w hr hm
theorem iY {x y:Code}{K:St→Prop}{Q:Exit→St→Prop}{s:St}(hx:GS P m n x (eN K Q) s)(hy:∀ s',K s'→GS P m n y Q s'):GS P m n (.seq x y) Q s:=fun ρ a w hr hm=>by
 refine wp_seq (wp_mono (hx ρ a w hr hm) ?_)
 rintro e a' w' ⟨s',ρ',q1,q2,q3⟩
 cases e
 case normal=>exact wp_mono (hy s' q1 ρ' a' w' q2 q3.1) fun e a'' w'' ⟨s'',ρ'',r1,r2,r3⟩=>⟨s'',ρ'',r1,r2,q3.trans r3⟩
 all_goals exact⟨s',ρ',q1,q2,q3⟩
theorem xR {m:Nat}{ops:Array Oper}{Q:Exit→Act→World→Prop}{l2:List Nat}{ρ:Nat→Nat×Nat}{a:Act}{w:World}:∀ (l:List Nat) (os:List Oper) (s:St) (K:St→Prop),l.map (ops[·]?)=os.map some→(∀ o∈os,o.guard=none)→bT P n ops os s K→∀ (ρ:Nat→Nat×Nat) (a:Act) (w:World),RelSt ρ n s a w→m≤s.H.length→
  (∀ a' w',pL m n ρ s w K a' w'→wpOps P ops Q l2 a' w')→wpOps P ops Q (l++l2) a w
 |[],[],s,K,_,_,h,ρ,a,w,hr,hm,hq=>hq a w ⟨s,ρ,h,hr,Step.refl hm⟩
 |[],_::_,_,_,hl,_,_,_,_,_,_,_,_=>by simp at hl
 |_::_,[],_,_,hl,_,_,_,_,_,_,_,_=>by simp at hl
 |i::l,o::os,s,K,hl,hg0,h,ρ,a,w,hr,hm,hq=>by
  simp only[List.map_cons,List.cons.injEq] at hl
  obtain⟨ho,hl⟩:=hl
  obtain⟨hd,h⟩:=h
  have hg:=hg0 o (by simp)
  rw[hg] at h
  have hw:Region.wanted o (yielded ops a.tmps)=true:=by unfold Region.wanted;rw[hg]
  obtain⟨res,h1,h2⟩:=qn h
  simp only[List.cons_append,wpOps,ho,hw,if_true]
  refine .inl (h1 ρ (· <s.H.length) (aa s.H) w a _ Q (fun x _=>hr.tmps.eval x) hr.mem (fun _ _=>⟨rfl,id⟩) (fun b hb1 hb2 (hb3:b<s.H.length)=>by omega) ?_)
  intro ρ' w' r g1 g2 g3 g4
  obtain⟨k1,k2⟩:=wJ (m:=m) hr hm hd g1 g2 g3 g4
  refine xR (a:=a) (w:=w) (ρ:=ρ) l os _ K hl (fun o ho=>hg0 o (by simp[ho])) h2 ρ' _ w' k1 k2.1 fun a' w'' ⟨s',ρ'',q1,q2,q3⟩=>hq a' w'' ⟨s',ρ'',q1,q2,k2.trans q3⟩
theorem vk {m0:Nat}{ρ:Nat→Nat×Nat}{s:St}{a:Act}{w:World}{tit:Tmp}(hr:RelSt ρ n s a w)(hm:m0≤s.H.length)(ht:tit<n)(o:Obj):
  let ρ1:=fun k=>if k=s.H.length then(w.heap.size,0) else ρ k
  let s1:St:=⟨cz s.t (some tit) (.ptr s.H.length 0),s.H++[none]⟩
  RelSt ρ1 n s1 (a.put (some tit) (.pointer (some ⟨w.heap.size,0,none⟩))) (w.alloc o)∧Step m0 ρ s w ρ1 s1 (w.alloc o):=by
 intro ρ1 s1
 have hlen:s1.H.length=s.H.length+1:=by simp[s1]
 have hget:∀ b B,aa s1.H b=some B→aa s.H b=some B∧b<s.H.length:=fun b B hB=>by
  have hB:((s.H++[none])[b]?).join=some B:=hB
  by_cases hb:b<s.H.length
  ·rw[List.getElem?_append_left hb] at hB;exact⟨hB,hb⟩
  ·rw[List.getElem?_append_right (by omega)] at hB
   by_cases hb2:b-s.H.length=0
   ·rw[hb2] at hB;simp at hB
   ·rw[List.getElem?_eq_none (by simp;omega)] at hB;simp at hB
 have hρ:∀ b,b<s.H.length→ρ1 b=ρ b:=fun b hb=>if_neg (by omega)
 have hlast:Lasts w (w.alloc o):=qj w _
 have hold:∀ r,r<w.heap.size→(w.alloc o).heap[r]?=w.heap[r]?:=fun r h=>Below.heap_alloc w _ r h
 have hsize:(w.alloc o).heap.size=w.heap.size+1:=Array.size_push ..
 have hcell:∀ b B,aa s.H b=some B→∀ i,(w.alloc o).cell? ⟨(ρ b).1,i,none⟩=w.cell? ⟨(ρ b).1,i,none⟩:=fun b B hB i=>World.cell?_of_block (hold _ (hr.mem.lt b B hB))
 have hfroz:∀ b B,aa s.H b=some B→∀ i,(w.alloc o).frozen? ⟨(ρ b).1,i,none⟩=w.frozen? ⟨(ρ b).1,i,none⟩:=fun b B hB i=>World.frozen?_of_block (hold _ (hr.mem.lt b B hB))
 have hdom:∀ b,b<s.H.length→b<s1.H.length:=fun b hb=>by omega
 refine⟨⟨?_,?_⟩,⟨by omega,fun b hb=>hρ b (by omega),?_⟩⟩
 ·refine RelT.put (hr.tmps.mono hρ hdom hlast) (show di n (some tit) from ht) ?_
  unfold VR
  refine⟨by omega,?_⟩
  show _=Value.pointer (some ⟨(ρ1 s.H.length).1,(ρ1 s.H.length).2+0,none⟩)
  have e:ρ1 s.H.length=(w.heap.size,0):=if_pos rfl
  rw[e]
 ·refine⟨fun b B hB=>hdom b (hget b B hB).2,fun b B hB=>?_,fun b b' B B' hB hB' hro hne=>?_,fun b B hB i v hv=>?_,fun b B hB ho i hi=>?_,fun b B mm hB hmp=>?_⟩
  ·obtain⟨h1,h2⟩:=hget b B hB
   rw[hρ b h2,hsize]
   have :=hr.mem.lt b B h1
   omega
  ·obtain⟨h1,h2⟩:=hget b B hB
   obtain⟨h3,h4⟩:=hget b' B' hB'
   rw[hρ b h2,hρ b' h4]
   exact hr.mem.inj b b' B B' h1 h3 hro hne
  ·obtain⟨h1,h2⟩:=hget b B hB
   obtain⟨r,g1,g2⟩:=hr.mem.cell b B h1 i v hv
   exact⟨r,by rw[hρ b h2,hcell b B h1];exact g1,g2.mono hρ hdom hlast⟩
  ·obtain⟨h1,h2⟩:=hget b B hB
   rw[hρ b h2,hfroz b B h1]
   exact hr.mem.free b B h1 ho i hi
  ·obtain⟨h1,h2⟩:=hget b B hB
   rw[hρ b h2]
   exact ge (hr.mem.mapc b B mm h1 hmp) (hold _ (hr.mem.lt b B h1))
 ·refine⟨rfl,rfl,rfl,by omega,fun r hr2 _=>hold r hr2,hlast,fun b B hB ho=>?_⟩
  obtain⟨h1,h2⟩:=hget b B hB
  exact .inl ⟨b,B,h1,ho,by rw[hρ b h2]⟩
structure Beside (o:Obj) (b:Nat) (w0:World) (ρ:Nat→Nat×Nat) (s:St) (w:World):Prop where
 lt:b<s.H.length
 zero:(ρ b).2=0
 young:w0.heap.size≤(ρ b).1
 here:w.heap[(ρ b).1]?=some o
 own:∀ b' B,aa s.H b'=some B→B.ro=false→(ρ b').1≠(ρ b).1
theorem Beside.step {o:Obj}{b:Nat}{w0 w w':World}{ρ ρ':Nat→Nat×Nat}{s s':St}(h:Beside o b w0 ρ s w)(k:Step m ρ s w ρ' s' w')(hb:b<m):Beside o b w0 ρ' s' w':=by
 obtain⟨k1,k2,k3⟩:=k
 have e:=k2 b hb
 have hlt:(ρ b).1<w.heap.size:=(Array.getElem?_eq_some_iff.1 h.here).1
 refine⟨by omega,by rw[e];exact h.zero,by rw[e];exact h.young,?_,?_⟩
 ·rw[e,k3.keep _ hlt (fun b' B h1 h2=>h.own b' B h1 h2)];exact h.here
 ·intro b' B hB hro
  rw[e]
  rcases k3.own b' B hB hro with⟨b0,B0,g1,g2,g3⟩|g
  ·rw[←g3];exact h.own b0 B0 g1 g2
  ·omega
def cX (bm since:Nat)(seen:List Nat)(c0:Nat):Obj:= .mapIter (some bm) since seen.toArray c0
section
variable {a:Act}{w w0:World}{ρ:Nat→Nat×Nat}{s:St}{k bm since c0 bm' since' c0':Nat}{seen seen':List Nat}
theorem RelSt.turnIt (hr:RelSt ρ n s a w)(h:w.heap[k]?=some (cX bm since seen c0))(o:Obj):RelSt ρ n s a (setBlock w k o):=by
 have hl:Lasts w (setBlock w k o):=pW h rfl
 have hne:∀ b B (i:Nat) v,aa s.H b=some B→B.cs[i]?=some v→(ρ b).1≠k:=fun b B i v hB hv e=>by
  obtain⟨r,g1,_⟩:=hr.mem.cell b B hB i v hv
  rw[e,wG h rfl] at g1
  cases g1
 refine⟨hr.tmps.mono (fun _ _=>rfl) (fun _ h=>h) hl,hr.mem.has,fun b B hB=>by rw[nK];exact hr.mem.lt b B hB,hr.mem.inj,
  fun b B hB i v hv=>?_,fun b B hB ho i hi=>?_,fun b B mm hB hmp=>?_⟩
 ·obtain⟨r,g1,g2⟩:=hr.mem.cell b B hB i v hv
  exact⟨r,by rw[World.cell?_of_block (w:=w) (fX w o (hne b B i v hB hv))];exact g1,g2.mono (fun _ _=>rfl) (fun _ h=>h) hl⟩
 ·rw[World.frozen?_of_block (w:=w) (fX w o (hne b B i _ hB (List.getElem?_eq_getElem hi)))]
  exact hr.mem.free b B hB ho i hi
 ·have g:=hr.mem.mapc b B mm hB hmp
  cases hc:B.cs with
  |nil=>
   rw[hc] at g
   change w.heap[(ρ b).1]?=_ at g
   have hne:(ρ b).1≠k:=fun e=>by rw[e,h] at g;cases g
   show(setBlock w k o).heap[(ρ b).1]?=_
   rw[fX w o hne];exact g
  |cons x cs=>
   rw[hc] at g
   exact ge (cs:=x::cs) g (fX w o (hne b B 0 x hB (by rw[hc];rfl)))
theorem Step.turnIt {m0:Nat}{ρ0:Nat→Nat×Nat}{s0:St}(h:Step m0 ρ0 s0 w0 ρ s w)(hk:w.heap[k]?=some (cX bm since seen c0))(hy:w0.heap.size≤k)(o:Obj):Step m0 ρ0 s0 w0 ρ s (setBlock w k o):=
 ⟨h.1,h.2.1,h.2.2.os,h.2.2.output,h.2.2.tape,by rw[nK];exact h.2.2.size,
  fun r hr hb=>by rw[fX w o (by omega)];exact h.2.2.keep r hr hb,
  h.2.2.lasts.trans (pW hk rfl),h.2.2.own⟩
theorem RelSt.drew (hr:RelSt ρ n s a w):RelSt ρ n s a w.drew:=
 ⟨hr.tmps.mono (fun _ _=>rfl) (fun _ h=>h) (Alike.drew w).lasts,hr.mem.alike (Alike.drew w)⟩
theorem Step.drew {m0:Nat}{ρ0:Nat→Nat×Nat}{s0:St}(h:Step m0 ρ0 s0 w0 ρ s w):Step m0 ρ0 s0 w0 ρ s w.drew:=
 ⟨h.1,h.2.1,h.2.2.os,h.2.2.output,h.2.2.tape,h.2.2.size,h.2.2.keep,h.2.2.lasts,h.2.2.own⟩
end
end
theorem lh {P:Program}{m n:Nat}{c:Code}{Q:Exit→St→Prop}{s s1:St}(h:GS P m n c Q s1)(hw:Weak m n s s1):GS P m n c Q s:=fun ρ a w hr hm=>by
 obtain⟨ρ1,h1,h2⟩:=hw.go ρ a w hr hm
 refine wp_mono (h ρ1 a w h1 h2.1) ?_
 rintro e a' w' ⟨s',ρ',q1,q2,q3⟩
 exact⟨s',ρ',q1,q2,h2.trans q3⟩
theorem iX {P:Program}{n:Nat}{ops:Array Oper}{l:List Oper}{s:St}{K:St→Prop}(h:dp P 0 n (fun _ s=>K s) l ops [] s):bT P n ops l s K:=h
theorem n7 {P:Program}{f:FuncId}{fn:Func}{c:Code}{args:List V}{h h':List (Option Blk)}{v:V}(hf:P.funcs[f]?=some fn)(hb:fn.body=some c)(hn:args.length≤fn.ntmps)
  (hv:GS P h.length fn.ntmps c (b8 P fn (Fin h.length v h')) ⟨cW args 0,h⟩):ao P f args h v h':=by
 intro ρ w rargs ha hm
 have hal:=ha.length
 refine calls_of_wp hf hb (wp_mono (hv ρ _ w ⟨⟨?_,rfl,fun t=>?_⟩,hm⟩ (Nat.le_refl _)) ?_)
 ·have :rargs.size=args.length:=by simpa using hal
  simp;omega
 ·show VR _ _ _ (ae (cW args 0) t) _
  rw[ru]
  split
  ·rename_i ht
   obtain⟨r,g1,g2⟩:=ha.get (i:=t) (v:=args.getD t .junk) (by rw[List.getD_eq_getElem?_getD,List.getElem?_eq_getElem (by omega)];rfl)
   have hlt:t<rargs.size:=by simpa using(List.getElem?_eq_some_iff.1 g1).1
   simp only[Nat.sub_zero]
   have :(rargs++Array.replicate (fn.ntmps-rargs.size) undef).getD t undef=r:=by
    rw[Array.getD_eq_getD_getElem?,Array.getElem?_append_left hlt]
    have :rargs[t]?=some r:=by rw[←g1];simp
    rw[this];rfl
   rw[this];exact g2
  ·unfold VR;trivial
 ·rintro e a' w' ⟨s',ρ',q1,q2,q3⟩
  have fin:(cJ P s' fn.results.toList fun l=>Fin h.length v h' (cN l) s')→∃ r,(results fn a'.tmps).run P w'= .ok r w'∧(∃ r' ρ',Ending.returned r= .returned r'∧VR ρ' (· <h'.length) w' v r'∧MemRel ρ' (· <h'.length) (aa h') w'∧h.length≤h'.length∧(∀ b,b<h.length→ρ' b=ρ b)∧Frame ρ (aa h) w ρ' (aa h') w'):=fun q=>by
   obtain⟨v1,r,g1,g2,g3⟩:=uz q2 q
   obtain⟨ρ2,k1,k2,k3,k4⟩:=g1.2 ρ' w' r g2 q2.mem q3.1
   exact⟨r,g3,r,ρ2,rfl,k1,k2,g1.1,fun b hb=>(k3 b hb).trans (q3.2.1 b hb),q3.2.2.less k4⟩
  cases e
  case normal=>exact⟨q2.tmps.defers,fin q1⟩
  case ret=>exact⟨q2.tmps.defers,fin q1⟩
  all_goals exact q1.elim
end
section
open Go Go.RowKit
open Go.ChangeMaps (setBlock)
section
variable {P : Program} {m n : Nat}
theorem AR {w : World} {t k e : TypeId} {r : Nat} {c : MapC} (ht : P.underlying t = some (.map k e)) (hb : w.heap[r]? = some c.obj) :
    (Instr.range t (.map (some r))).run P w = .ok (.pointer (some ⟨w.heap.size, 0, none⟩)) (w.alloc (cX r c.clock [] c.clock)) := by
  unfold MapC.obj at hb
  exact run_range_map w t k e r _ c.clock ht hb
theorem Be {w : World} {ty : TypeId} {r b since c0 : Nat} {seen : List Nat} {c : MapC} (hr : w.heap[r]? = some (cX b since seen c0)) (hb : w.heap[b]? = some c.obj) (hold : ∀ e ∈ c.es, e.1 < since) (hsc : since ≤ c0) :
    ((∀ e ∈ c.es, e.1 ∈ seen) ∧ (Instr.next (.pointer (some ⟨r, 0, none⟩)) false ty).run P w = .ok (.tuple #[.bool false]) w) ∨
    ∃ e ∈ c.es, e.1 ∉ seen ∧ ∃ w1 : World, (w1 = w ∨ w1 = w.drew) ∧ (Instr.next (.pointer (some ⟨r, 0, none⟩)) false ty).run P w = .ok (.tuple #[.bool true, (cv e).key, (cv e).val]) (setBlock w1 r (cX b since (seen ++ [e.1]) c.clock)) := by
  unfold MapC.obj at hb
  rcases run_next_at w ty r b since c0 seen.toArray _ c.clock hr hb (by
    intro x hx
    have hx : x ∈ c.es.map cv := hx
    obtain ⟨e, he, rfl⟩ := List.mem_map.1 hx
    exact hold e he) hsc with ⟨h1, h2⟩ | ⟨e', he, w1, h1, h2⟩
  · refine .inl ⟨fun e he => ?_, h2⟩
    have := all_seen _ _ h1 (cv e) (show cv e ∈ c.es.map cv from List.mem_map.2 ⟨e, he, rfl⟩)
    simpa [cv] using this
  · obtain ⟨h3, h4⟩ := mem_left he
    have h3 : e' ∈ c.es.map cv := h3
    obtain ⟨e, he2, rfl⟩ := List.mem_map.1 h3
    refine .inr ⟨e, he2, by simpa [cv] using h4, w1, h1, ?_⟩
    rw [h2]
    unfold cX
    simp [cv]
theorem AS {w : World} {r b since : Nat} {seen : List Nat} {c : MapC} {e : Nat × BitVec 32 × Int} (hr : w.heap[r]? = some (cX b since (seen ++ [e.1]) c.clock)) (hb : w.heap[b]? = some c.obj) (he : e ∈ c.es) (hn : (c.es.map (·.1)).Nodup) :
    (Instr.entry (.pointer (some ⟨r, 0, none⟩))).run P w = .ok (.tuple #[(cv e).key, (cv e).val]) w := by
  unfold MapC.obj at hb
  refine run_entry_at w r b since seen.toArray _ c.clock (cv e) ?_ hb (show cv e ∈ c.es.map cv from List.mem_map.2 ⟨e, he, rfl⟩) ?_
  · rw [hr]
    unfold cX
    simp [cv]
  · have : (c.es.map cv).toArray.toList.map (·.born) = c.es.map (·.1) := by
      simp only [List.map_map]
      exact List.map_congr_left fun _ _ => rfl
    rw [this]; exact hn
theorem qt {m1 id : Nat} {o : Oper} {os : List Oper} {ops : Array Oper} {tn : Tmp} {v : V} {r : Value} {s : St} {a : Act} {w w' : World} {ρ : Nat → Nat × Nat} {K : St → Prop} {Q : Exit → Act → World → Prop}
    (hops : ops.toList = o :: os) (hg : o.guard = none) (hd : o.dst = some tn) (hrun : (execOp a.eval o).run P w = .ok (.value r) w')
    (hr : RelSt ρ n (s.put (some tn) v) (a.put (some tn) r) w') (hm : m1 ≤ s.H.length) (hk : bT P n ops os (s.put (some tn) v) K)
    (hq : ∀ a' w'' s' ρ', K s' → RelSt ρ' n s' a' w'' → Step m1 ρ (s.put (some tn) v) w' ρ' s' w'' → Q .normal a' w'') : (Code.region id ops false).wp P Q a w := by
  refine wp_region ?_
  have hsz : ops.size = os.length + 1 := by rw [← Array.length_toList, hops]; rfl
  rw [hsz, List.range_succ_eq_map]
  have h0 : ops[0]? = some o := by rw [← Array.getElem?_toList, hops]; rfl
  have hwant : Region.wanted o (yielded ops a.tmps) = true := by unfold Region.wanted; rw [hg]
  simp only [wpOps, h0, hwant, if_true]
  refine .inl ?_
  unfold Oper.wp
  rw [hrun, Oper.upon_value, hd]
  refine mw (m := m1) (List.map Nat.succ (List.range os.length)) os _ K ?_ hk ρ _ w' hr hm ?_
  · refine List.ext_getElem? fun i => ?_
    simp only [List.getElem?_map]
    by_cases hi2 : i < os.length
    · have : ops[i + 1]? = os[i]? := by rw [← Array.getElem?_toList, hops]; rfl
      simp [hi2, this]
    · rw [List.getElem?_eq_none (by simp; omega), List.getElem?_eq_none (by omega)]; rfl
  · rintro a' w'' ⟨s', ρ', q1, q2, q3⟩
    exact hq a' w'' s' ρ' q1 q2 q3
theorem vm (hmix : P.follows .mixedOrders = true) {rid r3 r7 bid b1 : Nat} {ops ops7 : Array Oper} {pre os7 : List Oper} {o2 o3 o4 o5 : Oper} {tz tit tn tok te : Tmp} {ty k e : TypeId} {body2 : Code} {s S1 : St} {bm : Nat} {K : St → Prop} {Q : Exit → St → Prop}
    (I : List Nat → Prop) (J : List Nat → St) (M : List Nat → MapC) (μ : List Nat → Nat)
    (hops : ops = (pre ++ [o2]).toArray) (hgp : ∀ o ∈ pre, o.guard = none) (hp : bT P n ops pre s (fun s1 => s1 = S1)) (ht : S1.get tz = .map bm) (hM0 : aa S1.H bm = some ⟨false, [], some (M [])⟩)
    (h2 : o2.op = .range ty (.tmp tz)) (g2 : o2.guard = none) (d2 : o2.dst = some tit) (z2 : tit < n) (hty : P.underlying ty = some (.map k e))
    (h3 : o3.op = .next (.tmp tit) false) (g3 : o3.guard = none) (d3 : o3.dst = some tn) (z3 : tn < n)
    (hops7 : ops7.toList = o5 :: os7) (h5 : o5.op = .entry (.tmp tit)) (g5 : o5.guard = none) (d5 : o5.dst = some te) (z5 : te < n)
    (hI0 : I []) (hI : ∀ seen, I seen → (∀ e ∈ (M seen).es, e.1 < (M []).clock) ∧ ((M seen).es.map (·.1)).Nodup ∧ (M []).clock ≤ (M seen).clock)
    (hJm : ∀ seen, I seen → aa (J seen).H bm = some ⟨false, [], some (M seen)⟩)
    (hJ0 : Weak (max m (S1.H.length + 1)) n ⟨cz S1.t (some tit) (.ptr S1.H.length 0), S1.H ++ [none]⟩ (J []))
    (hJt : ∀ seen, (J seen).get tit = .ptr S1.H.length 0)
    (hend : ∀ seen, I seen → (∀ e ∈ (M seen).es, e.1 ∈ seen) → bT P n #[o3, o4] [o4] ((J seen).put (some tn) (.tup [.bool false])) fun s' => s'.get tok = .bool false ∧ K s')
    (hgo : ∀ seen e, I seen → e ∈ (M seen).es → e.1 ∉ seen → I (seen ++ [e.1]) ∧ μ (seen ++ [e.1]) < μ seen ∧
      bT P n #[o3, o4] [o4] ((J seen).put (some tn) (.tup [.bool true, .u32 e.2.1, .i64 e.2.2])) fun s' => s'.get tok = .bool true ∧ s'.get tit = .ptr S1.H.length 0 ∧ aa s'.H bm = some ⟨false, [], some (M seen)⟩ ∧
        bT P n ops7 os7 (s'.put (some te) (.tup [.u32 e.2.1, .i64 e.2.2])) fun s2 => vc P (max m (S1.H.length + 1)) n body2 (fO b1 (fun x s'' => x = .normal ∧ Weak (max m (S1.H.length + 1)) n s'' (J (seen ++ [e.1])))) s2) :
    GS P m n (.seq (.region rid ops false) (.block bid (.loop (.seq (.region r3 #[o3, o4] false) (.seq (.cond (.tmp tok) .skip (.exit bid)) (.block b1 (.seq (.region r7 ops7 false) body2))))))) (eN K Q) s := by
  intro ρ a w hr hm
  refine wp_seq (wp_region ?_)
  have hsz : ops.size = pre.length + 1 := by rw [hops]; simp
  rw [hsz, List.range_succ]
  refine xR (m := m) (a := a) (w := w) (ρ := ρ) (List.range pre.length) pre s (fun s1 => s1 = S1) ?_ hgp hp ρ a w hr hm ?_
  · refine List.ext_getElem? fun i => ?_
    simp only [List.getElem?_map]
    by_cases hi : i < pre.length
    · have : ops[i]? = pre[i]? := by rw [hops]; simp [List.getElem?_append_left hi]
      simp [hi, this]
    · rw [List.getElem?_eq_none (by simp; omega), List.getElem?_eq_none (by omega)]; rfl
  rintro a1 w1 ⟨s1, ρ1, rfl, hr1, hst0⟩
  have hxv := hr1.tmps.slot tz
  rw [ht] at hxv
  unfold VR at hxv
  obtain ⟨hbl, hz⟩ := hxv
  have hmp : w1.heap[(ρ1 bm).1]? = some (M []).obj := hr1.mem.mapc bm _ _ hM0 rfl
  have ho2 : ops[pre.length]? = some o2 := by rw [hops]; simp
  have w2 : Region.wanted o2 (yielded ops a1.tmps) = true := by unfold Region.wanted; rw [g2]
  have k2 : (execOp a1.eval o2).run P w1 = .ok (.value (.pointer (some ⟨w1.heap.size, 0, none⟩))) (w1.alloc (cX (ρ1 bm).1 (M []).clock [] (M []).clock)) := by
    unfold execOp
    rw [h2]
    simp only [Act.eval, hz, Sem.run_bind, AR hty hmp, Result.andThen_ok, Sem.run_pure]
  simp only [wpOps, ho2, w2, if_true]
  refine .inl ?_
  unfold Oper.wp
  rw [k2, Oper.upon_value, d2]
  obtain ⟨i1, i2⟩ := vk (m0 := m) (tit := tit) hr1 hst0.1 z2 (cX (ρ1 bm).1 (M []).clock [] (M []).clock)
  have i3 : Beside (cX (ρ1 bm).1 (M []).clock [] (M []).clock) s1.H.length w (fun k => if k = s1.H.length then (w1.heap.size, 0) else ρ1 k) ⟨cz s1.t (some tit) (.ptr s1.H.length 0), s1.H ++ [none]⟩ (w1.alloc (cX (ρ1 bm).1 (M []).clock [] (M []).clock)) := by
    refine ⟨by simp, by rw [if_pos rfl], by rw [if_pos rfl]; exact hst0.2.2.size, by rw [if_pos rfl]; exact heap_alloc_new w1 _, fun b B hB ho => ?_⟩
    rw [if_pos rfl]
    have hB : ((s1.H ++ [none])[b]?).join = some B := hB
    by_cases hb : b < s1.H.length
    · rw [List.getElem?_append_left hb] at hB
      have := hr1.mem.lt b B hB
      rw [if_neg (by omega)]
      omega
    · rw [List.getElem?_append_right (by omega)] at hB
      by_cases hb2 : b - s1.H.length = 0
      · rw [hb2] at hB; simp at hB
      · rw [List.getElem?_eq_none (by simp; omega)] at hB; simp at hB
  have ebm : (fun k => if k = s1.H.length then (w1.heap.size, 0) else ρ1 k) bm = ρ1 bm := if_neg (by omega)
  have i2 := hst0.trans i2
  have hm1 := hst0.1
  obtain ⟨ρ2, j1, j2⟩ := hJ0.go _ _ _ i1 (by simp; omega)
  have i4 := i3.step j2 (by omega)
  have eb2 : ρ2 bm = ρ1 bm := (j2.2.1 bm (by omega)).trans ebm
  have i4 : Beside (cX (ρ2 bm).1 (M []).clock [] (M []).clock) s1.H.length w ρ2 (J []) (w1.alloc (cX (ρ1 bm).1 (M []).clock [] (M []).clock)) := by rw [eb2]; exact i4
  have j3 : Step m ρ s w ρ2 (J []) (w1.alloc (cX (ρ1 bm).1 (M []).clock [] (M []).clock)) := i2.trans ⟨by have := j2.1; omega, fun x hx => j2.2.1 x (by omega), j2.2.2⟩
  have j4 : max m (s1.H.length + 1) ≤ (J []).H.length := j2.1
  -- the loop
  refine wp_block ?_
  refine qH (fun k a5 w5 => ∃ seen ρ5 c0, μ seen = k ∧ I seen ∧ (M []).clock ≤ c0 ∧ RelSt ρ5 n (J seen) a5 w5 ∧ Step m ρ s w ρ5 (J seen) w5 ∧ Beside (cX (ρ5 bm).1 (M []).clock seen c0) s1.H.length w ρ5 (J seen) w5 ∧ max m (s1.H.length + 1) ≤ (J seen).H.length) (k0 := μ []) ⟨[], ρ2, (M []).clock, rfl, hI0, Nat.le_refl _, j1, j3, i4, j4⟩ ?_
  rintro k a5 w5 ⟨seen, ρ5, c0, rfl, hIs, hc0, r1, r2, r3', r4⟩
  obtain ⟨hold, hnd, hcl⟩ := hI seen hIs
  have hmap : w5.heap[(ρ5 bm).1]? = some (M seen).obj := r1.mem.mapc bm _ _ (hJm seen hIs) rfl
  have htv := r1.tmps.slot tit
  rw [hJt seen] at htv
  unfold VR at htv
  obtain ⟨_, htv⟩ := htv
  rw [r3'.zero, Nat.zero_add] at htv
  rcases Be (P := P) (ty := o3.type) r3'.here hmap hold hc0 with ⟨hall, hrun⟩ | ⟨e, he, hns, w6, hw6, hrun⟩
  · -- nothing is left
    have hex : (execOp a5.eval o3).run P w5 = .ok (.value (.tuple #[.bool false])) w5 := by
      unfold execOp
      rw [h3]
      simp only [Act.eval, htv, Sem.run_bind, hrun, Result.andThen_ok, Sem.run_pure]
    refine wp_seq (qt (m1 := max m (s1.H.length + 1)) (v := .tup [.bool false]) rfl g3 d3 hex ⟨RelT.put r1.tmps (show di n (some tn) from z3) (by unfold VR; exact ⟨_, rfl, VRs.cons (by unfold VR; rfl) VRs.nil⟩), r1.mem⟩ r4 (hend seen hIs hall) ?_)
    rintro a2 w2' s2 ρ3 ⟨q0, q1⟩ q2 q3
    have hev := q2.tmps.slot tok
    rw [q0] at hev
    unfold VR at hev
    show Code.wp P _ _ a2 w2'
    refine wp_seq (wp_cond_split hev (fun hT => by cases hT) fun _ => ?_)
    refine wp_exit ?_
    show Exit.inBlock bid (pD m n ρ s w (eN K Q)) (.exit bid) a2 w2'
    simp only [Exit.inBlock, if_true]
    have q4 : Step m ρ5 (J seen) w5 ρ3 s2 w2' := ⟨by have := q3.1; omega, fun x hx => q3.2.1 x (by omega), q3.2.2⟩
    exact ⟨s2, ρ3, q1, q2, r2.trans q4⟩
  · -- one entry comes out
    obtain ⟨hI2, hμ, hvo⟩ := hgo seen e hIs he hns
    have hex : (execOp a5.eval o3).run P w5 = .ok (.value (.tuple #[.bool true, (cv e).key, (cv e).val])) (setBlock w6 (ρ5 s1.H.length).1 (cX (ρ5 bm).1 (M []).clock (seen ++ [e.1]) (M seen).clock)) := by
      unfold execOp
      rw [h3]
      simp only [Act.eval, htv, Sem.run_bind, hrun, Result.andThen_ok, Sem.run_pure]
    have r1' : RelSt ρ5 n (J seen) a5 w6 := by rcases hw6 with rfl | rfl; exact r1; exact r1.drew
    have r2' : Step m ρ s w ρ5 (J seen) w6 := by rcases hw6 with rfl | rfl; exact r2; exact r2.drew
    have hit : w6.heap[(ρ5 s1.H.length).1]? = some (cX (ρ5 bm).1 (M []).clock seen c0) := by rcases hw6 with rfl | rfl <;> exact r3'.here
    have t1 := r1'.turnIt hit (cX (ρ5 bm).1 (M []).clock (seen ++ [e.1]) (M seen).clock)
    have t2 := r2'.turnIt hit r3'.young (cX (ρ5 bm).1 (M []).clock (seen ++ [e.1]) (M seen).clock)
    have hlt6 := (Array.getElem?_eq_some_iff.1 hit).1
    have t3 : Beside (cX (ρ5 bm).1 (M []).clock (seen ++ [e.1]) (M seen).clock) s1.H.length w ρ5 ((J seen).put (some tn) (.tup [.bool true, .u32 e.2.1, .i64 e.2.2])) (setBlock w6 (ρ5 s1.H.length).1 (cX (ρ5 bm).1 (M []).clock (seen ++ [e.1]) (M seen).clock)) :=
      ⟨r3'.lt, r3'.zero, r3'.young, by rw [p9, if_pos rfl, if_pos hlt6], r3'.own⟩
    generalize hw7 : setBlock w6 (ρ5 s1.H.length).1 (cX (ρ5 bm).1 (M []).clock (seen ++ [e.1]) (M seen).clock) = w7 at t1 t2 t3 hex
    refine wp_seq (qt (m1 := max m (s1.H.length + 1)) (v := .tup [.bool true, .u32 e.2.1, .i64 e.2.2]) rfl g3 d3 hex ⟨RelT.put t1.tmps (show di n (some tn) from z3) (by unfold VR; exact ⟨_, rfl, VRs.cons (by unfold VR; rfl) (VRs.cons (by unfold VR; rfl) (VRs.cons (by unfold VR; rfl) VRs.nil))⟩), t1.mem⟩ r4 hvo ?_)
    rintro a2 w2' s2 ρ3 ⟨q0, q1, q5, q6⟩ q2 q3
    have hev := q2.tmps.slot tok
    rw [q0] at hev
    unfold VR at hev
    have t4 := t3.step q3 (by omega)
    have eb3 : ρ3 bm = ρ5 bm := q3.2.1 bm (by omega)
    show Code.wp P _ _ a2 w2'
    refine wp_seq (wp_cond_split hev (fun _ => ?_) (fun hF => by cases hF))
    refine wp_skip ?_
    show Code.wp P _ _ a2 w2'
    refine wp_block ?_
    have hmap2 := q2.mem.mapc bm _ _ q5 rfl
    have htv2 := q2.tmps.slot tit
    rw [q1] at htv2
    unfold VR at htv2
    obtain ⟨_, htv2⟩ := htv2
    rw [t4.zero, Nat.zero_add] at htv2
    have hen : (execOp a2.eval o5).run P w2' = .ok (.value (.tuple #[(cv e).key, (cv e).val])) w2' := by
      unfold execOp
      rw [h5]
      have hh := t4.here
      rw [← eb3] at hh
      simp only [Act.eval, htv2, Sem.run_bind, AS hh hmap2 he hnd, Result.andThen_ok, Sem.run_pure]
    refine wp_seq (qt (m1 := max m (s1.H.length + 1)) (v := .tup [.u32 e.2.1, .i64 e.2.2]) hops7 g5 d5 hen ⟨RelT.put q2.tmps (show di n (some te) from z5) (by unfold VR; exact ⟨_, rfl, VRs.cons (by unfold VR; rfl) (VRs.cons (by unfold VR; rfl) VRs.nil)⟩), q2.mem⟩ q3.1 q6 ?_)
    intro a3 w3 s3 ρ4 u1 u2 u3
    have t5 : Step (max m (s1.H.length + 1)) ρ5 (J seen) w7 ρ4 s3 w3 := q3.trans u3
    have t6 : Beside (cX (ρ5 bm).1 (M []).clock (seen ++ [e.1]) (M seen).clock) s1.H.length w ρ4 s3 w3 := t4.step u3 (by omega)
    refine wp_mono (gz hmix body2 _ s3 u1 ρ4 a3 w3 u2 u3.1) ?_
    rintro z a4 w4 ⟨s4, ρ6, v1, v2, v3⟩
    have fin : (Weak (max m (s1.H.length + 1)) n s4 (J (seen ++ [e.1]))) → ∃ k', k' < μ seen ∧ ∃ seen ρ5 c0, μ seen = k' ∧ I seen ∧ (M []).clock ≤ c0 ∧ RelSt ρ5 n (J seen) a4 w4 ∧ Step m ρ s w ρ5 (J seen) w4 ∧ Beside (cX (ρ5 bm).1 (M []).clock seen c0) s1.H.length w ρ5 (J seen) w4 ∧ max m (s1.H.length + 1) ≤ (J seen).H.length := fun hw => by
      obtain ⟨ρ7, x1, x2⟩ := hw.go ρ6 a4 w4 v2 v3.1
      have x3 := t5.trans (v3.trans x2)
      have x4 := t6.step (v3.trans x2) (by omega)
      have x5 : ρ7 bm = ρ5 bm := x3.2.1 bm (by omega)
      rw [← x5] at x4
      refine ⟨_, hμ, _, ρ7, (M seen).clock, rfl, hI2, hcl, x1, t2.trans ⟨by have := x3.1; omega, fun x hx => x3.2.1 x (by omega), x3.2.2⟩, x4, x3.1⟩
    cases z
    case normal => exact fin v1.2
    case exit i =>
      simp only [fO] at v1
      simp only [Exit.inBlock]
      split at v1
      · rename_i h; rw [if_pos h]; exact fin v1.2
      · exact absurd v1.1 (by simp)
    all_goals exact absurd v1.1 (by simp)
end
end
theorem CJ:cN []= .tup []:=rfl
attribute [go_sem] and_true true_and and_self Nat.succ_ne_self decide_true decide_false Bool.false_eq_true Nat.one_ne_zero Nat.zero_ne_one Nat.not_lt_zero Nat.zero_lt_succ ge_iff_le gt_iff_lt decide_eq_true_eq Option.some.injEq List.getElem?_cons_zero List.getElem?_cons_succ List.length_cons List.length_nil Int.natCast_zero List.map_cons List.map_nil List.append_nil List.nil_append List.cons_append lF Option.map_some Option.map_none List.getD_cons_zero List.getD_cons_succ List.not_mem_nil false_implies implies_true List.getElem?_toArray Option.bind_some List.set_cons_zero List.set_cons_succ List.take_succ_cons List.take_zero List.drop_succ_cons List.drop_zero List.drop_nil List.take_nil List.forall_mem_cons V.u8.injEq exists_eq' Nat.zero_mul Nat.one_mul Nat.zero_add Nat.mul_one Nat.add_zero Int.toNat_natCast Int.cast_ofNat_Int ne_eq not_true_eq_false not_false_eq_true List.length_set List.length_append List.length_take List.length_drop List.length_replicate Option.isSome_none Option.isSome_some al Bool.not_true Bool.not_false Bool.true_and Bool.false_and Bool.and_true Bool.and_false Bool.true_or Bool.false_or Bool.or_true Bool.or_false Bool.not_eq_true' decide_eq_false_iff_not beq_self_eq_true List.take_length Nat.le_refl Int.le_refl Blk.mk.injEq
attribute [simp] CJ qr kr wP wQ rens V.ren ac V.low yB xL xM xN xO yC mV fL xP xQ gC fR vN ve vf rz wO xK
section
section
variable {P:Program}{m n:Nat}{R:Exit→St→Prop}{k:List Fr}{s:St}{l:List Oper}{ops:Array Oper}{dst:Option Tmp}
theorem BI (t:TypeId)(r:Option Operand):ci P m n R (.makeMap t r) dst l ops k s=cR P m n R (bp P (.makeMap t r) s.ev (aa s.H) s.H.length) dst l ops k s:=rfl
theorem CK (t:TypeId)(x y:Operand)(b:Bool):ci P m n R (.lookup t x y b) dst l ops k s=cR P m n R (bp P (.lookup t x y b) s.ev (aa s.H) s.H.length) dst l ops k s:=rfl
theorem AT (t:TypeId)(x y z:Operand):ci P m n R (.mapUpdate t x y z) dst l ops k s=cR P m n R (bp P (.mapUpdate t x y z) s.ev (aa s.H) s.H.length) dst l ops k s:=rfl
end
theorem Hs (b:Nat):V.one (.map b)=true:=rfl
attribute [go_sem] BI CK AT Hs
theorem Kk {P:Program}{m n:Nat}{c:Code}{Q Q':Exit→St→Prop}{s:St}(h:GS P m n c Q s)(hq:∀ e s',Q e s'→Q' e s'):GS P m n c Q' s:=fun ρ a w hr hm=>by
 refine wp_mono (h ρ a w hr hm) ?_
 rintro e a' w' ⟨s',ρ',q1,q2,q3⟩
 exact⟨s',ρ',hq e s' q1,q2,q3⟩
theorem kN {α β:Type}{f:α→β}:∀ {l:List α},(l.map f).Nodup→∀ {x y:α},x∈l→y∈l→f x=f y→x=y
 |[],_,x,_,hx,_,_=>by cases hx
 |a::l,h,x,y,hx,hy,e=>by
  have h':f a∉l.map f∧(l.map f).Nodup:=List.nodup_cons.1 h
  rcases List.mem_cons.1 hx with h1|h1<;>rcases List.mem_cons.1 hy with h2|h2
  ·rw[h1,h2]
  ·exact absurd (List.mem_map.2 ⟨y,h2,by rw[←e,h1]⟩) h'.1
  ·exact absurd (List.mem_map.2 ⟨x,h1,by rw[e,h2]⟩) h'.1
  ·exact kN h'.2 h1 h2 e
structure MapC.ok (m:MapC):Prop where
 stamps:(m.es.map (·.1)).Nodup
 below:∀ e∈m.es,e.1<m.clock
 keys:(m.es.map (·.2.1)).Nodup
theorem uB (k:BitVec 32):∀ (l:List (Nat×BitVec 32×Int)),(l.map (·.2.1)).Nodup→gG k l=l.filter fun e=>!decide (e.2.1=k)
 |[],_=>rfl
 |e::l,h=>by
  have h':e.2.1∉l.map (·.2.1)∧(l.map (·.2.1)).Nodup:=List.nodup_cons.1 h
  unfold gG
  rw[List.filter_cons]
  by_cases hk:e.2.1=k
  ·rw[if_pos hk,decide_eq_true hk]
   simp only[Bool.not_true,Bool.false_eq_true,if_false]
   refine(List.filter_eq_self.2 fun x hx=>?_).symm
   have :x.2.1≠k:=fun e2=>h'.1 (List.mem_map.2 ⟨x,hx,e2.trans hk.symm⟩)
   simp[this]
  ·rw[if_neg hk,decide_eq_false hk]
   simp only[Bool.not_false,if_true]
   rw[uB k l h'.2]
theorem qP (k:BitVec 32)(n:Int):∀ (l:List (Nat×BitVec 32×Int)),(l.map (·.2.1)).Nodup→gF k n l=l.map fun e=>if e.2.1=k then(e.1,k,n) else e
 |[],_=>rfl
 |e::l,h=>by
  have h':e.2.1∉l.map (·.2.1)∧(l.map (·.2.1)).Nodup:=List.nodup_cons.1 h
  unfold gF
  rw[List.map_cons]
  by_cases hk:e.2.1=k
  ·rw[if_pos hk,if_pos hk]
   congr 1
   conv=>lhs;rw[←List.map_id l]
   refine List.map_congr_left fun x hx=>?_
   have :x.2.1≠k:=fun e2=>h'.1 (List.mem_map.2 ⟨x,hx,e2.trans hk.symm⟩)
   rw[if_neg this];rfl
  ·rw[if_neg hk,if_neg hk,qP k n l h'.2]
theorem rB {k:BitVec 32}{n:Int}{s:Nat}:∀ {l:List (Nat×BitVec 32×Int)},(l.map (·.2.1)).Nodup→(s,k,n)∈l→cP k l=some n
 |[],_,h=>by cases h
 |e::l,h,hm=>by
  have h':e.2.1∉l.map (·.2.1)∧(l.map (·.2.1)).Nodup:=List.nodup_cons.1 h
  unfold cP
  rcases List.mem_cons.1 hm with rfl|hm
  ·rw[if_pos rfl]
  ·rw[if_neg (fun e2=>h'.1 (List.mem_map.2 ⟨_,hm,e2.symm⟩)),rB h'.2 hm]
def ef (drop:Int→Bool)(l:List (Nat×BitVec 32×Int))(seen:List Nat):List (Nat×BitVec 32×Int):=l.filter fun e=>!(seen.contains e.1&&drop e.2.2)
theorem BJ (drop:Int→Bool)(l:List (Nat×BitVec 32×Int)):ef drop l []=l:=by
 unfold ef;simp
theorem Bf {drop:Int→Bool}{m:MapC}(hm:m.ok){seen:List Nat}{e:Nat×BitVec 32×Int}(he:e∈m.es)(hs:e.1∉seen):
  ef drop m.es (seen++[e.1])=if drop e.2.2=true then gG e.2.1 (ef drop m.es seen) else ef drop m.es seen:=by
 have hk:((ef drop m.es seen).map (·.2.1)).Nodup:=List.Nodup.sublist (List.Sublist.map _ List.filter_sublist) hm.keys
 rw[uB _ _ hk]
 unfold ef
 by_cases hd:drop e.2.2=true
 ·rw[if_pos hd,List.filter_filter]
  refine List.filter_congr fun x hx=>?_
  by_cases hxe:x=e
  ·subst hxe;simp[hd]
  ·have h1:x.1≠e.1:=fun h=>hxe (kN hm.stamps hx he h)
   have h2:x.2.1≠e.2.1:=fun h=>hxe (kN hm.keys hx he h)
   simp[h1,h2]
 ·rw[if_neg hd]
  refine List.filter_congr fun x hx=>?_
  by_cases hxe:x=e
  ·subst hxe;simp[hd,hs]
  ·have h1:x.1≠e.1:=fun h=>hxe (kN hm.stamps hx he h)
   simp[h1]
theorem BK {drop:Int→Bool}{l:List (Nat×BitVec 32×Int)}{seen:List Nat}(h:∀ e∈ef drop l seen,e.1∈seen):ef drop l seen=l.filter fun e=>!drop e.2.2:=by
 unfold ef at*
 refine List.filter_congr fun x hx=>?_
 by_cases hs:x.1∈seen
 ·simp[hs]
 ·have :x∈l.filter fun e=>!(seen.contains e.1&&drop e.2.2):=List.mem_filter.2 ⟨hx,by simp[hs]⟩
  exact absurd (h x this) hs
def ic (l:List (Nat×BitVec 32×Int))(seen:List Nat):Nat:=(l.filter fun e=>!seen.contains e.1).length
theorem wS {l:List (Nat×BitVec 32×Int)}{seen:List Nat}{e:Nat×BitVec 32×Int}(he:e∈l)(hs:e.1∉seen):ic l (seen++[e.1])<ic l seen:=by
 have key:∀ (l:List (Nat×BitVec 32×Int)),ic l (seen++[e.1])≤ic l seen:=fun l=>by
  induction l with
  |nil=>exact Nat.le_refl _
  |cons x l ih=>
   unfold ic at*
   simp only[List.filter_cons]
   by_cases h1:x.1∈seen<;>by_cases h2:x.1=e.1<;>simp[h1,h2] at ih ⊢<;>first|omega |(rw[h2] at h1;simp[h1];omega)|skip
   all_goals simp_all
   all_goals omega
 induction l with
 |nil=>cases he
 |cons x l ih=>
  have hl:=key l
  rcases List.mem_cons.1 he with rfl|he
  ·unfold ic at*
   simp only[List.filter_cons]
   simp[hs] at hl ⊢
   omega
  ·have :=ih he
   unfold ic at*
   simp only[List.filter_cons]
   by_cases h1:x.1∈seen<;>by_cases h2:x.1=e.1
   ·simp[h1];simpa using this
   ·simp[h1];simpa using this
   ·simp[h2,hs];simp at this;omega
   ·simp[h1,h2];simpa using this
end
section
inductive Kd where
 |dev (m n:Nat)
 |peers (d n:Nat)
 |peer (d:Nat)
 |timer
 |waits (p n:Nat)
 |ses
 |pair
 |win
 |begun
 |heard
 |tnode (m:Nat)
 |troot (m:Nat)
 |out (d n:Nat)
 |got (d n:Nat)
 |bucket
 |bmap
 |link (xs:List Nat)
 |nodes (xs:List Nat)
 |node (c m:Nat)
 |air (l n:Nat)
 |all (x n:Nat)
def Kd.own:Kd→Option Nat
 | .peers d _| .out d _| .got d _=>some d
 | .waits p _=>some p
 | .air l _=>some l
 | .all x _=>some x
 |_=>none
inductive Ft where
 |str|strN|strS|key|key0|ck|u32|u64|i64|bool
 |rng (lo hi:Int)
 |pdev (d:Nat)
 |pnode (x:Nat)
 |ptr (k:Kd)
 |opt (k:Kd)
 |sl (k:Nat→Kd) (esz max:Nat)
 |slE (k:Nat→Kd) (n:Nat)
 |slz (k:Nat→Kd) (esz max:Nat)
 |suite
 |mp
def sL (v:V):Prop:=v= .iface 258 (.agg [])∨v= .iface 259 (.agg [])
def bn:Nat:=1048576
def fieldOk (K:Nat→Option Kd):Ft→V→Prop
 | .str,v=>∃ s,v= .str s∧s.length≤bn
 | .strN,v=>∃ s,v= .str s∧s.length≤1000000∧0<s.length
 | .strS,v=>∃ s,v= .str s∧s.length≤2000
 | .key,v=>∃ s,v= .str s∧s.length=32
 | .key0,v=>∃ s,v= .str s∧s.length≤32
 | .ck,v=>∃ s,v= .str s∧(s=[]∨s.length=16)
 | .u32,v=>∃ x,v= .u32 x
 | .u64,v=>∃ x,v= .u64 x
 | .i64,v=>∃ n,v= .i64 n
 | .bool,v=>∃ b,v= .bool b
 | .rng lo hi,v=>∃ n,v= .i64 n∧lo≤n∧n≤hi
 | .pdev d,v=>v= .ptr d 0∧∃ m n,K d=some (.dev m n)
 | .pnode x,v=>v= .ptr x 0∧∃ c m,K x=some (.node c m)
 | .ptr k,v=>∃ c,v= .ptr c 0∧K c=some k
 | .opt k,v=>v= .nilPtr∨∃ c,v= .ptr c 0∧K c=some k
 | .sl k esz mx,v=>v= .nilSlice∨∃ a n,v= .slice a 0 n esz∧0<n∧n≤mx∧K a=some (k n)
 | .slE k n,v=>(n=0∧v= .nilSlice)∨∃ a,v= .slice a 0 n 1∧0<n∧K a=some (k n)
 | .slz k esz mx,v=>v= .nilSlice∨∃ a n,v= .slice a 0 n esz∧n≤mx∧K a=some (k n)
 | .suite,v=>sL v
 | .mp,v=>∃ c,v= .map c∧K c=some .bmap
structure Gh where
 o:Nat→Nat
 g:Nat→Nat
def aU (n:Nat)(fs:List Ft):List Ft:=match n with
 |0=>[]
 |n+1=>fs++aU n fs
def gramF:List Ft:=[.u32,.u32,.strN]
def packF:List Ft:=[.i64,.u32,.str]
def aV (G:Gh)(b:Nat):Kd→List Ft
 | .dev m n=>[.u32,.str,.str,.str,.rng 1 2,.u64,.str,.u32,.i64,.rng 0 1099511627776,.bool,.slE (.peers b) n,.ptr (.troot m),.ptr .bucket,.sl (.out b) 3 (G.o b),.sl (.got b) 3 (G.g b)]
 | .peers d n=>aU n [.ptr (.peer d)]
 | .peer d=>[.pdev d,.ptr .timer,.i64,.key,.str,.u32,.rng 1 2,.rng 1 2,.bool,.i64,.i64,.ck,.i64,.sl (.waits b) 1 4,.opt .begun,.u32,.str,.opt .ses,.opt .ses,.opt .ses]
 | .timer=>[.bool,.i64,.i64,.bool,.i64]
 | .waits _ n=>aU n [.strS]
 | .ses=>[.ptr .pair,.rng 1 2,.u32,.u32]
 | .pair=>[.ptr .win,.str,.str,.rng 1 2,.i64,.i64,.bool]
 | .win=>[.rng 0 1099511627777,.u64]
 | .begun=>[.suite,.key,.key,.key0,.u64,.rng 1 2,.str,.str,.str,.str,.u32]
 | .heard=>[.suite,.key,.key,.key0,.u64,.rng 1 2,.u32,.str,.str]
 | .tnode m=>[.opt (.tnode m),.opt (.tnode m),.bool,.rng 0 ((m:Int)-1)]
 | .troot m=>[.opt (.tnode m),.opt (.tnode m),.bool,.rng 0 ((m:Int)-1),.i64]
 | .out _ n=>aU n gramF
 | .got _ n=>aU n packF
 | .bucket=>[.rng 0 1099511627776,.mp]
 | .bmap=>[]
 | .link xs=>[.slE (fun _=> .nodes xs) xs.length,.slz (.air b) 3 60]
 | .nodes xs=>xs.map .pnode
 | .node c _=>[.pdev c,.sl (.all b) 3 (G.g b)]
 | .air _ n=>aU n gramF
 | .all _ n=>aU n packF
def Row (K:Nat→Option Kd):List Ft→List V→Prop
 |[],[]=>True
 |f::fs,v::vs=>fieldOk K f v∧Row K fs vs
 |_,_=>False
def jY (m:MapC):Prop:=m.ok∧∀ e∈m.es,0≤e.2.2∧e.2.2≤100
def Kd.mark:Kd→Option MapC
 | .ses=>some ⟨[],0⟩
 |_=>none
def fits (G:Gh)(K:Nat→Option Kd)(b:Nat)(k:Kd)(B:Blk):Prop:=match k with
 | .bmap=>∃ m,B=⟨false,[],some m⟩∧jY m
 |k=>∃ cs,B=⟨false,cs,k.mark⟩∧Row K (aV G b k) cs
structure WT (G:Gh) (K:Nat→Option Kd) (H:List (Option Blk)):Prop where
 all:∀ b k,K b=some k→∃ B,aa H b=some B∧fits G K b k B
 sane:Sane H
def Kd.isBm:Kd→Bool
 | .bmap=>true
 |_=>false
def Kd.isMap:Kd→Bool
 | .bmap=>true
 | .ses=>true
 |_=>false
def Kd.isDev:Kd→Bool
 | .dev _ _=>true
 |_=>false
section
variable {G G':Gh}{K K':Nat→Option Kd}{H H':List (Option Blk)}{b c N:Nat}{k kc:Kd}{f:Ft}{v:V}{fs:List Ft}{cs:List V}{B:Blk}
theorem fieldOk.low (hK:∀ c k,K c=some k→c<N)(h:fieldOk K f v):v.low N:=by
 cases f<;>unfold fieldOk at h
 case str=>obtain⟨s,rfl,-⟩:=h;trivial
 case strN=>obtain⟨s,rfl,-⟩:=h;trivial
 case strS=>obtain⟨s,rfl,-⟩:=h;trivial
 case key=>obtain⟨s,rfl,-⟩:=h;trivial
 case key0=>obtain⟨s,rfl,-⟩:=h;trivial
 case ck=>obtain⟨s,rfl,-⟩:=h;trivial
 case u32=>obtain⟨x,rfl⟩:=h;trivial
 case u64=>obtain⟨x,rfl⟩:=h;trivial
 case i64=>obtain⟨x,rfl⟩:=h;trivial
 case bool=>obtain⟨x,rfl⟩:=h;trivial
 case rng=>obtain⟨x,rfl,-⟩:=h;trivial
 case pdev=>obtain⟨rfl,m,n,h⟩:=h;exact hK _ _ h
 case pnode=>obtain⟨rfl,m,n,h⟩:=h;exact hK _ _ h
 case ptr=>obtain⟨c,rfl,h⟩:=h;exact hK _ _ h
 case opt=>rcases h with rfl|⟨c,rfl,h⟩;trivial;exact hK _ _ h
 case sl=>rcases h with rfl|⟨a,n,rfl,-,-,h⟩;trivial;exact hK _ _ h
 case slE=>rcases h with⟨-,rfl⟩|⟨a,rfl,-,h⟩;trivial;exact hK _ _ h
 case slz=>rcases h with rfl|⟨a,n,rfl,-,h⟩;trivial;exact hK _ _ h
 case suite=>rcases h with rfl|rfl<;>exact trivial
 case mp=>obtain⟨c,rfl,h⟩:=h;exact hK _ _ h
theorem Row.low (hK:∀ c k,K c=some k→c<N):∀ {fs:List Ft} {cs:List V},Row K fs cs→ac N cs
 |[],[],_=>trivial
 |f::fs,v::vs,h=>⟨fieldOk.low hK h.1,Row.low hK h.2⟩
 |[],_::_,h=>h.elim
 |_::_,[],h=>h.elim
theorem WT.lt (h:WT G K H)(hb:K b=some k):b<H.length:=by
 obtain⟨B,hB,-⟩:=h.all b k hb
 exact aj hB
theorem WT.fresh (h:WT G K H)(hb:H.length≤b):K b=none:=by
 cases e:K b with
 |none=>rfl
 |some k=>have :=h.lt e;omega
theorem oI (hk:k.isBm=false):fits G K b k B↔∃ cs,B=⟨false,cs,k.mark⟩∧Row K (aV G b k) cs:=by
 cases k<;>first|rfl|cases hk
theorem WT.rowM (h:WT G K H)(hb:K b=some k)(hk:k.isBm=false):∃ cs,aa H b=some ⟨false,cs,k.mark⟩∧Row K (aV G b k) cs:=by
 obtain⟨B,hB,hf⟩:=h.all b k hb
 obtain⟨cs,rfl,hr⟩:=(oI hk).1 hf
 exact⟨cs,hB,hr⟩
theorem iT (hk:k.isMap=false):fits G K b k B↔∃ cs,B=⟨false,cs,none⟩∧Row K (aV G b k) cs:=by
 cases k<;>first|rfl|cases hk
theorem WT.row (h:WT G K H)(hb:K b=some k)(hk:k.isMap=false):∃ cs,aa H b=some ⟨false,cs,none⟩∧Row K (aV G b k) cs:=by
 obtain⟨B,hB,hf⟩:=h.all b k hb
 obtain⟨cs,rfl,hr⟩:=(iT hk).1 hf
 exact⟨cs,hB,hr⟩
theorem WT.rowOf (h:WT G K H)(hb:K b=some k)(hk:k.isMap=false)(hg:aa H b=some ⟨false,cs,none⟩):Row K (aV G b k) cs:=by
 obtain⟨cs',h1,h2⟩:=h.row hb hk
 rw[hg] at h1
 cases h1
 exact h2
def Ft.refs:Ft→Kd→Prop
 | .ptr k,k'=>k'=k
 | .opt k,k'=>k'=k
 | .sl k _ _,k'=>∃ n,k'=k n
 | .slE k n,k'=>k'=k n
 | .slz k _ _,k'=>∃ n,k'=k n
 | .pnode _,k'=>∃ c m,k'= .node c m
 | .mp,k'=>k'= .bmap
 |_,_=>False
theorem fieldOk.mono (hm:∀ x k',f.refs k'→K x=some k'→K' x=some k')(hd:∀ d m n,K d=some (.dev m n)→∃ m' n',K' d=some (.dev m' n'))(h:fieldOk K f v):fieldOk K' f v:=by
 cases f<;>unfold fieldOk at h ⊢<;>try exact h
 case pdev=>obtain⟨rfl,m,n,h⟩:=h;exact⟨rfl,hd _ _ _ h⟩
 case pnode=>obtain⟨rfl,m,n,h⟩:=h;exact⟨rfl,m,n,hm _ _ ⟨m,n,rfl⟩ h⟩
 case ptr=>obtain⟨c,rfl,h⟩:=h;exact⟨c,rfl,hm _ _ rfl h⟩
 case opt=>rcases h with rfl|⟨c,rfl,h⟩;exact .inl rfl;exact .inr ⟨c,rfl,hm _ _ rfl h⟩
 case sl=>rcases h with rfl|⟨a,n,rfl,h1,h2,h⟩;exact .inl rfl;exact .inr ⟨a,n,rfl,h1,h2,hm _ _ ⟨n,rfl⟩ h⟩
 case slE=>rcases h with⟨h1,rfl⟩|⟨a,rfl,h1,h⟩;exact .inl ⟨h1,rfl⟩;exact .inr ⟨a,rfl,h1,hm _ _ rfl h⟩
 case slz=>rcases h with rfl|⟨a,n,rfl,h2,h⟩;exact .inl rfl;exact .inr ⟨a,n,rfl,h2,hm _ _ ⟨n,rfl⟩ h⟩
 case mp=>obtain⟨c,rfl,h⟩:=h;exact⟨c,rfl,hm _ _ rfl h⟩
theorem Row.mono (hd:∀ d m n,K d=some (.dev m n)→∃ m' n',K' d=some (.dev m' n')):∀ {fs:List Ft} {cs:List V},(∀ f∈fs,∀ x k',f.refs k'→K x=some k'→K' x=some k')→Row K fs cs→Row K' fs cs
 |[],[],_,_=>trivial
 |f::fs,v::vs,hm,h=>⟨fieldOk.mono (hm f (by simp)) hd h.1,Row.mono hd (fun g hg=>hm g (by simp[hg])) h.2⟩
 |[],_::_,_,h=>h.elim
 |_::_,[],_,h=>h.elim
theorem eT:∀ {n:Nat} {fs:List Ft} {f:Ft},f∈aU n fs→f∈fs
 |0,_,_,h=>by cases h
 |n+1,fs,f,h=>by
  rcases List.mem_append.1 h with h|h
  ·exact h
  ·exact eT h
def pM (c:Nat)(f:Ft):Prop:=∀ k',f.refs k'→k'.isDev=false∧(k'.own=none∨k'.own=some c)
theorem Ht:∀ f∈aV G c kc,pM c f:=by
 have none_:∀ f:Ft,(∀ k',¬ f.refs k')→pM c f:=fun f h k' hr=>(h k' hr).elim
 have gram:∀ n,∀ f∈aU n gramF,pM c f:=fun n f hf=>by
  have :=eT hf;simp[gramF] at this;rcases this with rfl|rfl|rfl<;>exact none_ _ fun _ h=>h
 have pack:∀ n,∀ f∈aU n packF,pM c f:=fun n f hf=>by
  have :=eT hf;simp[packF] at this;rcases this with rfl|rfl|rfl<;>exact none_ _ fun _ h=>h
 cases kc<;>unfold aV
 case peers d n=>exact fun f hf=>by have :=eT hf;simp at this;subst this;exact fun k' hr=>by unfold Ft.refs at hr;subst hr;exact⟨rfl,.inl rfl⟩
 case waits p n=>exact fun f hf=>by have :=eT hf;simp at this;subst this;exact none_ _ fun _ h=>h
 case out d n=>exact gram n
 case air d n=>exact gram n
 case got d n=>exact pack n
 case all d n=>exact pack n
 case nodes xs=>exact fun f hf=>by obtain⟨x,-,rfl⟩:=List.mem_map.1 hf;exact fun k' hr=>by obtain⟨c,m,rfl⟩:=hr;exact⟨rfl,.inl rfl⟩
 all_goals
  repeat' first|refine List.forall_mem_cons.2 ⟨?_,?_⟩|exact List.forall_mem_nil _
  all_goals intro k' hr
  all_goals first
   |exact hr.elim
   |(unfold Ft.refs at hr;subst hr;exact⟨rfl,.inl rfl⟩)
   |(unfold Ft.refs at hr;subst hr;exact⟨rfl,.inr rfl⟩)
   |(obtain⟨n,rfl⟩:=hr;exact⟨rfl,.inr rfl⟩)
theorem Row.room (h1:G.o c≤G'.o c)(h2:G.g c≤G'.g c)(h:Row K (aV G c kc) cs):Row K (aV G' c kc) cs:=by
 have sl:∀ {k:Nat→Kd} {e mx mx':Nat} {v:V},mx≤mx'→fieldOk K (.sl k e mx) v→fieldOk K (.sl k e mx') v:=fun hle h=>by
  rcases h with rfl|⟨a,n,rfl,g1,g2,h⟩
  ·exact .inl rfl
  ·exact .inr ⟨a,n,rfl,g1,by omega,h⟩
 cases kc<;>try exact h
 case dev m n=>
  match cs,h with
  |[a0,a1,a2,a3,a4,a5,a6,a7,a8,a9,a10,a11,a12,a13,a14,a15],⟨g0,g1,g2,g3,g4,g5,g6,g7,g8,g9,g10,g11,g12,g13,g14,g15,g16⟩=>exact⟨g0,g1,g2,g3,g4,g5,g6,g7,g8,g9,g10,g11,g12,g13,sl h1 g14,sl h2 g15,g16⟩
 case node x m=>
  match cs,h with
  |[a0,a1],⟨g0,g1,g2⟩=>exact⟨g0,sl h2 g1,g2⟩
theorem fits.frame (hm:∀ x k',k'.isDev=false→(k'.own=none∨k'.own=some c)→K x=some k'→K' x=some k')(hd:∀ d m n,K d=some (.dev m n)→∃ m' n',K' d=some (.dev m' n'))(h1:G.o c≤G'.o c)(h2:G.g c≤G'.g c)(h:fits G K c kc B):fits G' K' c kc B:=by
 by_cases hk:kc.isBm=true
 ·cases kc<;>first|exact h|cases hk
 ·rw[Bool.not_eq_true] at hk
  obtain⟨cs,rfl,hr⟩:=(oI hk).1 h
  refine(oI hk).2 ⟨cs,rfl,Row.mono hd (fun f hf x k' hr' he=>?_) (Row.room h1 h2 hr)⟩
  obtain⟨g1,g2⟩:=Ht f hf k' hr'
  exact hm x k' g1 g2 he
theorem WT.step (h:WT G K H)(b:Nat)(hm:∀ x k',k'.isDev=false→k'.own≠some b→K x=some k'→K' x=some k')(hd:∀ d m n,K d=some (.dev m n)→∃ m' n',K' d=some (.dev m' n'))
  (hn:∀ c kc,K' c=some kc→(∃ B,aa H' c=some B∧fits G' K' c kc B)∨(c≠b∧K c=some kc∧aa H' c=aa H c∧G.o c≤G'.o c∧G.g c≤G'.g c)) (hs:Sane H'):WT G' K' H':=by
 refine⟨fun c kc hc=>?_,hs⟩
 rcases hn c kc hc with h1|⟨h1,h2,h3,h4,h5⟩
 ·exact h1
 ·obtain⟨B,hB,hf⟩:=h.all c kc h2
  exact⟨B,by rw[h3];exact hB,fits.frame (fun x k' g1 g2 g3=>hm x k' g1 (by rcases g2 with g2|g2<;>rw[g2]<;>simp;omega) g3) hd h4 h5 hf⟩
theorem Sane.put (h:Sane H)(hl:ac H.length cs){m:Option MapC}:Sane (H.set b (some ⟨false,cs,m⟩)):=fun c B hB=>by
 rw[List.length_set]
 by_cases e:b=c
 ·subst e
  by_cases hb:b<H.length
  ·rw[aW hb] at hB;cases hB;exact⟨hl,rfl⟩
  ·have :=aj hB;rw[List.length_set] at this;omega
 ·rw[aP (fun e'=>e e')] at hB;exact h c B hB
theorem Sane.cut (h:Sane H):Sane (H.set b none):=fun c B hB=>by
 rw[List.length_set]
 by_cases e:b=c
 ·subst e
  by_cases hb:b<H.length
  ·rw[aW hb] at hB;cases hB
  ·have :=aj hB;rw[List.length_set] at this;omega
 ·rw[aP (fun e'=>e e')] at hB;exact h c B hB
theorem Sane.app1 (h:Sane H)(hl:ac (H.length+1) cs){m:Option MapC}:Sane (H++[some ⟨false,cs,m⟩]):=fun c B hB=>by
 have hlen:(H++[some (⟨false,cs,m⟩:Blk)]).length=H.length+1:=by simp
 rw[hlen]
 have hlt:=aj hB
 rw[hlen] at hlt
 by_cases hb:c<H.length
 ·rw[bW hb] at hB
  exact⟨gw (by omega) _ (h c B hB).1,(h c B hB).2⟩
 ·obtain rfl:c=H.length:=by omega
  rw[d9] at hB;cases hB;exact⟨hl,rfl⟩
theorem WT.klt (h:WT G K H):∀ c k,K c=some k→c<H.length:=fun _ _ e=>h.lt e
theorem WT.put (h:WT G K H)(hb:K b=some k)(hk:k.isMap=false)(hr:Row K (aV G b k) cs):WT G K (H.set b (some ⟨false,cs,none⟩)):=by
 have hlt:=h.lt hb
 refine h.step b (fun _ _ _ _ e=>e) (fun d m n e=>⟨m,n,e⟩) (fun c kc hc=>?_) (h.sane.put (Row.low h.klt hr))
 by_cases e:c=b
 ·subst e
  rw[hb] at hc;cases hc
  exact .inl ⟨_,aW hlt _,(iT hk).2 ⟨cs,rfl,hr⟩⟩
 ·exact .inr ⟨e,hc,aP (fun e'=>e e'.symm) _,Nat.le_refl _,Nat.le_refl _⟩
theorem WT.putMap (h:WT G K H)(hb:K b=some .bmap){m:MapC}(hr:jY m):WT G K (H.set b (some ⟨false,[],some m⟩)):=by
 have hlt:=h.lt hb
 refine h.step b (fun _ _ _ _ e=>e) (fun d m n e=>⟨m,n,e⟩) (fun c kc hc=>?_) (h.sane.put (cs:=[]) trivial)
 by_cases e:c=b
 ·subst e
  rw[hb] at hc;cases hc
  exact .inl ⟨_,aW hlt _,m,rfl,hr⟩
 ·exact .inr ⟨e,hc,aP (fun e'=>e e'.symm) _,Nat.le_refl _,Nat.le_refl _⟩
theorem WT.junk (h:WT G K H)(hl:ac (H.length+1) cs){m:Option MapC}:WT G K (H++[some ⟨false,cs,m⟩]):=by
 refine⟨fun c kc hc=>?_,h.sane.app1 hl⟩
 obtain⟨B,hB,hf⟩:=h.all c kc hc
 exact⟨B,by rw[bW (aj hB)];exact hB,hf⟩
theorem WT.jput (h:WT G K H)(hb:K b=none)(hl:ac H.length cs){m:Option MapC}:WT G K (H.set b (some ⟨false,cs,m⟩)):=by
 refine⟨fun c kc hc=>?_,h.sane.put hl⟩
 obtain⟨B,hB,hf⟩:=h.all c kc hc
 exact⟨B,by rw[aP (fun e=>by subst e;rw[hb] at hc;cases hc)];exact hB,hf⟩
def aQ (K:Nat→Option Kd)(b:Nat)(k:Option Kd):Nat→Option Kd:=fun x=>if x=b then k else K x
theorem bM {k:Option Kd}:aQ K b k b=k:=if_pos rfl
theorem aM {k:Option Kd}(h:c≠b):aQ K b k c=K c:=if_neg h
theorem WT.old (h:WT G K H)(hc:K c=some kc){k:Option Kd}:aQ K H.length k c=some kc:=by
 have :=h.lt hc
 rw[aM (by omega)];exact hc
theorem rX {k:Option Kd}(hk:∀ m n,K b≠some (.dev m n))(d m n:Nat)(e:K d=some (.dev m n)):∃ m' n',aQ K b k d=some (.dev m' n'):=by
 refine⟨m,n,?_⟩
 rw[aM (fun e'=>by subst e';exact hk m n e)];exact e
theorem WT.newM (h:WT G K H)(k:Kd)(hk:k.isBm=false)(hr:Row (aQ K H.length (some k)) (aV G H.length k) cs):WT G (aQ K H.length (some k)) (H++[some ⟨false,cs,k.mark⟩]):=by
 have hf:=h.fresh (Nat.le_refl H.length)
 have hlow:ac (H.length+1) cs:=Row.low (fun c kc hc=>by
  by_cases e:c=H.length
  ·omega
  ·rw[aM e] at hc;have :=h.lt hc;omega) hr
 refine h.step H.length (fun x k' _ _ e=>h.old e) (rX (fun m n e=>by rw[hf] at e;cases e)) (fun c kc hc=>?_) (h.sane.app1 hlow)
 by_cases e:c=H.length
 ·subst e
  rw[bM] at hc;cases hc
  exact .inl ⟨_,d9 _ _ _,(oI hk).2 ⟨cs,rfl,hr⟩⟩
 ·rw[aM e] at hc
  exact .inr ⟨e,hc,bW (h.lt hc) _,Nat.le_refl _,Nat.le_refl _⟩
theorem WT.new (h:WT G K H)(k:Kd)(hk:k.isMap=false)(hr:Row (aQ K H.length (some k)) (aV G H.length k) cs):WT G (aQ K H.length (some k)) (H++[some ⟨false,cs,none⟩]):=by
 have h1:k.isBm=false∧k.mark=none:=by cases k<;>first|exact⟨rfl,rfl⟩|cases hk
 have :=h.newM k h1.1 hr
 rw[h1.2] at this
 exact this
theorem WT.room (h:WT G K H)(h1:∀ c,G.o c≤G'.o c)(h2:∀ c,G.g c≤G'.g c):WT G' K H:=by
 refine⟨fun c kc hc=>?_,h.sane⟩
 obtain⟨B,hB,hf⟩:=h.all c kc hc
 exact⟨B,hB,fits.frame (fun _ _ _ _ e=>e) (fun d m n e=>⟨m,n,e⟩) (h1 c) (h2 c) hf⟩
def bP (a:Option Nat)(K:Nat→Option Kd):Nat→Option Kd:=match a with
 |some x=>aQ K x none
 |none=>K
def cutH (a:Option Nat)(H:List (Option Blk)):List (Option Blk):=match a with
 |some x=>H.set x none
 |none=>H
theorem WT.grow (h:WT G K H)(hb:K b=some k)(hk:k.isMap=false)(a:Option Nat)(ha:∀ x,a=some x→∃ ka,K x=some ka∧ka.own=some b∧x≠b)(k':Kd)(hk':k'.isMap=false)(hG:∀ c,c≠b→G.o c≤G'.o c∧G.g c≤G'.g c)
  {ds:List V} (hds:Row (aQ (bP a K) H.length (some k')) (aV G' H.length k') ds) (hr:Row (aQ (bP a K) H.length (some k')) (aV G' b k) cs):
  WT G' (aQ (bP a K) H.length (some k')) ((cutH a H++[some (⟨false,ds,none⟩:Blk)]).set b (some ⟨false,cs,none⟩)):=by
 have hlt:=h.lt hb
 have hf:=h.fresh (Nat.le_refl H.length)
 have hlen:(cutH a H).length=H.length:=by cases a<;>simp[cutH]
 have hold:∀ c kc,bP a K c=some kc→K c=some kc∧a≠some c:=by
  intro c kc e
  cases a with
  |none=>exact⟨e,fun e2=>by cases e2⟩
  |some x=>
   by_cases e2:c=x
   ·subst e2
    have e3:bP (some c) K c=none:=bM
    rw[e3] at e;cases e
   ·have e4:bP (some x) K c=K c:=aM e2
    rw[e4] at e
    exact⟨e,fun e3=>e2 (Option.some.inj e3).symm⟩
 have hkeep:∀ c kc,K c=some kc→a≠some c→aQ (bP a K) H.length (some k') c=some kc:=fun c kc e hn=>by
  have :=h.lt e
  rw[aM (by omega)]
  cases a with
  |none=>exact e
  |some x=>exact(aM (fun e2=>hn (by rw[e2]))).trans e
 have hget:∀ c,c<H.length→c≠b→a≠some c→aa ((cutH a H++[some (⟨false,ds,none⟩:Blk)]).set b (some ⟨false,cs,none⟩)) c=aa H c:=fun c h1 h2 h3=>by
  rw[aP (fun e=>h2 e.symm),bW (by rw[hlen];exact h1)]
  cases a with
  |none=>rfl
  |some x=>exact aP (fun e=>h3 (by rw[e])) _
 have hK':∀ c kc,aQ (bP a K) H.length (some k') c=some kc→c<H.length+1:=fun c kc e=>by
  by_cases e2:c=H.length
  ·omega
  ·rw[aM e2] at e
   have :=h.lt (hold c kc e).1
   omega
 have hnb:a≠some b:=fun e=>by
  obtain⟨ka,-,-,h3⟩:=ha b e
  exact h3 rfl
 have hs0:Sane (cutH a H):=by
  cases a with
  |none=>exact h.sane
  |some x=>exact h.sane.cut
 refine h.step b (fun x k2 g1 g2 e=>?_) (fun d m n e=>⟨m,n,?_⟩) (fun c kc hc=>?_) ?_
 ·refine hkeep x k2 e fun e2=>?_
  obtain⟨ka,h1,h2,-⟩:=ha x e2
  rw[e] at h1;cases h1
  exact g2 h2
 ·refine hkeep d _ e fun e2=>?_
  obtain⟨ka,h1,h2,-⟩:=ha d e2
  rw[e] at h1;cases h1;cases h2
 ·by_cases e:c=H.length
  ·subst e
   rw[bM] at hc;cases hc
   refine .inl ⟨_,?_,(iT hk').2 ⟨ds,rfl,hds⟩⟩
   rw[aP (by omega)]
   have :=d9 (cutH a H) (some (⟨false,ds,none⟩:Blk)) []
   rw[hlen] at this
   exact this
  ·have hc0:=hc
   rw[aM e] at hc
   obtain⟨g1,g2⟩:=hold c kc hc
   by_cases e2:c=b
   ·subst e2
    rw[hb] at g1;cases g1
    exact .inl ⟨_,aW (by rw[List.length_append,hlen];omega) _,(iT hk).2 ⟨cs,rfl,hr⟩⟩
   ·exact .inr ⟨e2,g1,hget c (h.lt g1) e2 g2,(hG c e2).1,(hG c e2).2⟩
 ·refine Sane.put (Sane.app1 hs0 (by rw[hlen];exact Row.low hK' hds)) ?_
  rw[List.length_append,hlen]
  exact Row.low hK' hr
end
end
section
def az (sg:List Nat)(H h':List (Option Blk)):List (Option Blk):=
 bU H (bR (ah (au sg H.length h')) sg h')++cK (ah (au sg H.length h')) sg h'
section
variable {sg:List Nat}{H h':List (Option Blk)}
theorem df:(az sg H h').length=H.length+(h'.length-sg.length):=by
 unfold az
 rw[List.length_append,dy,iL,List.length_map,List.length_drop]
theorem iM {b:Nat}(hb:b<H.length)(hn:b∉sg):aa (az sg H h') b=aa H b:=by
 unfold az
 rw[bW (by rw[dy];exact hb),jy _ _ _ hb,mj hn]
theorem iU {i nid:Nat}(hi:i<sg.length):ah (au sg nid h') i=ah sg i:=ml hi
theorem fM {i nid:Nat}(h1:sg.length≤i)(h2:i<h'.length):ah (au sg nid h') i=nid+(i-sg.length):=mq h1 (by omega)
theorem Kl (hnd:sg.Nodup)(hsg:∀ b∈sg,b<H.length){i:Nat}(hi:i<h'.length):
  aa (az sg H h') (ah (au sg H.length h') i)=cY (ah (au sg H.length h')) (aa h' i):=by
 by_cases hl:i<sg.length
 ·rw[iU hl]
  have hm:=fK hl
  have hb:=hsg _ (List.mem_of_getElem? hm)
  unfold az
  rw[bW (by rw[dy];exact hb),jy _ _ _ hb,ou hnd hm hi]
  unfold aa
  rfl
 ·rw[fM (by omega) hi]
  unfold az aa
  rw[List.getElem?_append_right (by rw[dy];omega),dy,iL,List.getElem?_map,List.getElem?_drop,show sg.length+(H.length+(i-sg.length)-H.length)=i by omega]
  cases h'[i]?<;>rfl
theorem xS {σ:Nat→Nat}:∀ {sg:List Nat} {h':List (Option Blk)},sg.length≤h'.length→(bR σ sg h').map (·.1)=sg
 |[],_,_=>by unfold bR;rfl
 |_::_,[],h=>by simp at h
 |i::sg,x::h',h=>by
  unfold bR
  rw[List.map_cons,xS (by simpa using h)]
end
section
variable {P:Program}{m n:Nat}{R:Exit→St→Prop}{k:List Fr}{s:St}{l:List Oper}{ops:Array Oper}{dst:Option Tmp}
variable {f:FuncId}{fs cs args args0:List V}{v:V}{h h':List (Option Blk)}
end
end
section
section
variable {P:Program}{m n:Nat}{R:Exit→St→Prop}{k:List Fr}{l:List Oper}{ops:Array Oper}{dst:Option Tmp}
variable {f:FuncId}{fs cs args args0:List V}{v:V}{H H0 H':List (Option Blk)}{G G':Gh}{K K0 K':Nat→Option Kd}{W W2:Nat→Prop}{b a:Nat}{kd:Kd}{vs ds:List V}
theorem Fe (t:List (Nat×V))(d:Nat)(v:V):cz t (some d) v=(d,v)::t:=rfl
theorem Ff (t:List (Nat×V))(v:V):cz t none v=t:=rfl
attribute [go_sem] Fe Ff
def bF (K:Nat→Option Kd)(b:Nat):Prop:=K b≠none
def RoK (H0 H:List (Option Blk)):Prop:=∀ b B,aa H b=some B→B.ro=true→b<H0.length∧aa H0 b=some B
theorem RoK.refl (H:List (Option Blk)):RoK H H:=fun _ _ h _=>⟨aj h,h⟩
theorem RoK.trans (h:RoK H0 H)(k:RoK H H'):RoK H0 H':=fun b B e r=>h b B (k b B e r).2 r
theorem RoK.put (h:RoK H0 H){b:Nat}{cs:List V}{m:Option MapC}:RoK H0 (H.set b (some ⟨false,cs,m⟩)):=fun c B e r=>by
 by_cases hc:b=c
 ·subst hc
  by_cases hb:b<H.length
  ·rw[aW hb] at e;cases e;cases r
  ·have :=aj e;rw[List.length_set] at this;omega
 ·rw[aP hc] at e;exact h c B e r
theorem RoK.cut (h:RoK H0 H){b:Nat}:RoK H0 (H.set b none):=fun c B e r=>by
 by_cases hc:b=c
 ·subst hc
  by_cases hb:b<H.length
  ·rw[aW hb] at e;cases e
  ·have :=aj e;rw[List.length_set] at this;omega
 ·rw[aP hc] at e;exact h c B e r
theorem RoK.app (h:RoK H0 H){cs:List V}{m:Option MapC}:RoK H0 (H++[some ⟨false,cs,m⟩]):=fun c B e r=>by
 have hlt:=aj e
 by_cases hb:c<H.length
 ·rw[bW hb] at e;exact h c B e r
 ·obtain rfl:c=H.length:=by rw[List.length_append] at hlt;simp at hlt;omega
  rw[d9] at e;cases e;cases r
theorem RoK.cutH (h:RoK H0 H)(a:Option Nat):RoK H0 (cutH a H):=by
 cases a with
 |none=>exact h
 |some x=>exact h.cut
structure Cur (K0:Nat→Option Kd) (H0:List (Option Blk)) (W:Nat→Prop) (G:Gh) (K:Nat→Option Kd) (H:List (Option Blk)):Prop where
 wt:WT G K H
 len:H0.length≤H.length
 keep:∀ b,b<H0.length→¬ W b→aa H b=aa H0 b
 kin:∀ b k,b<H0.length→K b=some k→K0 b=some k
 stay:∀ b k,k.own=none→K0 b=some k→K b=some k
 ro:RoK H0 H
structure Done (P:Program) (f:FuncId) (args:List V) (K0:Nat→Option Kd) (H0:List (Option Blk)) (W:Nat→Prop) (v:V) (G:Gh) (K:Nat→Option Kd) (H:List (Option Blk)):Prop where
 spec:ao P f args H0 v H
 cur:Cur K0 H0 W G K H
 low:v.low H.length
theorem Cur.refl (h:WT G K H)(W:Nat→Prop):Cur K H W G K H:=⟨h,Nat.le_refl _,fun _ _ _=>rfl,fun _ _ _ e=>e,fun _ _ _ e=>e,.refl H⟩
theorem Cur.unt (h:Cur K0 H0 W G K H)(b:Nat)(hb:b<H0.length)(e:K0 b=none):K b=none:=by
 cases e2:K b with
 |none=>rfl
 |some k=>rw[h.kin b k hb e2] at e;cases e
theorem Cur.mono (h:Cur K0 H0 W G K H)(hw:∀ b,W b→W2 b):Cur K0 H0 W2 G K H:=⟨h.wt,h.len,fun b hb hn=>h.keep b hb fun e=>hn (hw b e),h.kin,h.stay,h.ro⟩
theorem Cur.typed (h:Cur K0 H0 W G K H)(hb:K b=some kd):b<H0.length→bF K0 b:=fun hl e=>by rw[h.unt b hl e] at hb;cases hb
theorem Cur.call (h:Cur K0 H0 W G K H)(h2:Cur K H W2 G' K' H')(hW:∀ b,b<H0.length→W2 b→W b):Cur K0 H0 W G' K' H':=
 ⟨h2.wt,Nat.le_trans h.len h2.len,fun b hb hn=>(h2.keep b (Nat.lt_of_lt_of_le hb h.len) fun hw=>hn (hW b hb hw)).trans (h.keep b hb hn),fun b k hb e=>h.kin b k hb (h2.kin b k (Nat.lt_of_lt_of_le hb h.len) e),fun b k hk e=>h2.stay b k hk (h.stay b k hk e),h.ro.trans h2.ro⟩
theorem Cur.callB (h:Cur K0 H0 (bF K0) G K H)(h2:Cur K H (bF K) G' K' H'):Cur K0 H0 (bF K0) G' K' H':=
 h.call h2 fun b hb hw e=>hw (h.unt b hb e)
theorem Cur.callW (h:Cur K0 H0 (bF K0) G K H)(h2:Cur K H W2 G' K' H')(hW:∀ b,W2 b→K b≠none):Cur K0 H0 (bF K0) G' K' H':=
 h.call h2 fun b hb hw e=>hW b hw (h.unt b hb e)
theorem Cur.putW (h:Cur K0 H0 W G K H)(hb:K b=some kd)(hk:kd.isMap=false)(hw:b<H0.length→W b)(hr:Row K (aV G b kd) vs):Cur K0 H0 W G K (H.set b (some ⟨false,vs,none⟩)):=
 ⟨h.wt.put hb hk hr,by rw[List.length_set];exact h.len,fun c hc hn=>by rw[aP (fun e=>by subst e;exact hn (hw hc))];exact h.keep c hc hn,h.kin,h.stay,h.ro.put⟩
theorem Cur.put (h:Cur K0 H0 (bF K0) G K H)(hb:K b=some kd)(hk:kd.isMap=false)(hr:Row K (aV G b kd) vs):Cur K0 H0 (bF K0) G K (H.set b (some ⟨false,vs,none⟩)):=h.putW hb hk (h.typed hb) hr
theorem Cur.junk (h:Cur K0 H0 W G K H)(hl:ac (H.length+1) vs){mm:Option MapC}:Cur K0 H0 W G K (H++[some ⟨false,vs,mm⟩]):=
 ⟨h.wt.junk hl,by rw[List.length_append];exact Nat.le_trans h.len (Nat.le_add_right _ _),fun c hc hn=>by rw[bW (Nat.lt_of_lt_of_le hc h.len)];exact h.keep c hc hn,h.kin,h.stay,h.ro.app⟩
theorem Cur.jput (h:Cur K0 H0 W G K H)(hb:K b=none)(hlt:H0.length≤b)(hl:ac H.length vs){mm:Option MapC}:Cur K0 H0 W G K (H.set b (some ⟨false,vs,mm⟩)):=
 ⟨h.wt.jput hb hl,by rw[List.length_set];exact h.len,fun c hc hn=>by rw[aP (by omega)];exact h.keep c hc hn,h.kin,h.stay,h.ro.put⟩
theorem Cur.new (h:Cur K0 H0 W G K H)(k:Kd)(hk:k.isMap=false)(hr:Row (aQ K H.length (some k)) (aV G H.length k) vs):Cur K0 H0 W G (aQ K H.length (some k)) (H++[some ⟨false,vs,none⟩]):=
 ⟨h.wt.new k hk hr,by rw[List.length_append];exact Nat.le_trans h.len (Nat.le_add_right _ _),fun c hc hn=>by rw[bW (Nat.lt_of_lt_of_le hc h.len)];exact h.keep c hc hn,
  fun c k hc e=>by rw[aM (by have :=h.len;omega)] at e;exact h.kin c k hc e,fun c kc hk2 e=>h.wt.old (h.stay c kc hk2 e),h.ro.app⟩
theorem Cur.newM (h:Cur K0 H0 W G K H)(k:Kd)(hk:k.isBm=false)(hr:Row (aQ K H.length (some k)) (aV G H.length k) vs):Cur K0 H0 W G (aQ K H.length (some k)) (H++[some ⟨false,vs,k.mark⟩]):=
 ⟨h.wt.newM k hk hr,by rw[List.length_append];exact Nat.le_trans h.len (Nat.le_add_right _ _),fun c hc hn=>by rw[bW (Nat.lt_of_lt_of_le hc h.len)];exact h.keep c hc hn,
  fun c k hc e=>by rw[aM (by have :=h.len;omega)] at e;exact h.kin c k hc e,fun c kc hk2 e=>h.wt.old (h.stay c kc hk2 e),h.ro.app⟩
theorem Cur.room (h:Cur K0 H0 W G K H)(h1:∀ c,G.o c≤G'.o c)(h2:∀ c,G.g c≤G'.g c):Cur K0 H0 W G' K H:=⟨h.wt.room h1 h2,h.len,h.keep,h.kin,h.stay,h.ro⟩
theorem Cur.grow (h:Cur K0 H0 W G K H)(hb:K b=some kd)(hk:kd.isMap=false)(hw:b<H0.length→W b)(a:Option Nat)(ha:∀ x,a=some x→(∃ ka,K x=some ka∧ka.own=some b∧x≠b)∧(x<H0.length→W x))(k':Kd)(hk':k'.isMap=false)(hG:∀ c,c≠b→G.o c≤G'.o c∧G.g c≤G'.g c)
  (hds:Row (aQ (bP a K) H.length (some k')) (aV G' H.length k') ds) (hr:Row (aQ (bP a K) H.length (some k')) (aV G' b kd) vs):
  Cur K0 H0 W G' (aQ (bP a K) H.length (some k')) ((cutH a H++[some (⟨false,ds,none⟩:Blk)]).set b (some ⟨false,vs,none⟩)):=by
 have hlen:(cutH a H).length=H.length:=by cases a<;>simp[cutH]
 have hl:=h.len
 refine⟨h.wt.grow hb hk a (fun x e=>(ha x e).1) k' hk' hG hds hr,by rw[List.length_set,List.length_append,hlen];omega,fun c hc hn=>?_,fun c kk hc e=>?_,fun c kc hk2 e=>?_,((h.ro.cutH a).app).put⟩
 ·rw[aP (fun e=>by subst e;exact hn (hw hc)),bW (by rw[hlen];omega)]
  cases a with
  |none=>exact h.keep c hc hn
  |some x=>exact(aP (fun e=>by subst e;exact hn ((ha x rfl).2 hc)) _).trans (h.keep c hc hn)
 ·rw[aM (by omega)] at e
  cases a with
  |none=>exact h.kin c _ hc e
  |some x=>
   by_cases e2:c=x
   ·subst e2
    have e3:bP (some c) K c=none:=bM
    rw[e3] at e;cases e
   ·have e3:bP (some x) K c=K c:=aM e2
    rw[e3] at e;exact h.kin c _ hc e
 ·have h1:=h.stay c kc hk2 e
  have h2:=h.wt.lt h1
  rw[aM (by omega)]
  cases a with
  |none=>exact h1
  |some x=>
   refine(aM fun e2=>?_).trans h1
   subst e2
   obtain⟨⟨ka,g1,g2,-⟩,-⟩:=ha c rfl
   rw[h1] at g1;cases g1
   rw[hk2] at g2;cases g2
def Wk (Q:Kd→Prop)(K:Nat→Option Kd)(b:Nat):Prop:=∃ k,K b=some k∧Q k
theorem Cur.callK {Q Q2:Kd→Prop}(h:Cur K0 H0 (Wk Q K0) G K H)(h2:Cur K H (Wk Q2 K) G' K' H')(hq:∀ k,Q2 k→Q k):Cur K0 H0 (Wk Q K0) G' K' H':=
 h.call h2 fun b hb ⟨k,e,hk⟩=>⟨k,h.kin b k hb e,hq k hk⟩
theorem Cur.callP {Q:Kd→Prop}(h:Cur K0 H0 (Wk Q K0) G K H)(h2:Cur K H W2 G' K' H')(hq:∀ b,W2 b→∃ k,K b=some k∧Q k):Cur K0 H0 (Wk Q K0) G' K' H':=
 h.call h2 fun b hb hw=>by
  obtain⟨k,e,hk⟩:=hq b hw
  exact⟨k,h.kin b k hb e,hk⟩
theorem Cur.inK {Q:Kd→Prop}(h:Cur K0 H0 W G K H)(hb:K b=some kd)(hq:Q kd):b<H0.length→Wk Q K0 b:=fun hl=>⟨kd,h.kin b kd hl hb,hq⟩
theorem Cur.putK {Q:Kd→Prop}(h:Cur K0 H0 (Wk Q K0) G K H)(hb:K b=some kd)(hk:kd.isMap=false)(hq:Q kd)(hr:Row K (aV G b kd) vs):Cur K0 H0 (Wk Q K0) G K (H.set b (some ⟨false,vs,none⟩)):=h.putW hb hk (h.inK hb hq) hr
theorem Cur.start {Q:Kd→Prop}(h:WT G K H):Cur K H (Wk Q K) G K H:=Cur.refl h _
def EndW (K0:Nat→Option Kd)(H0:List (Option Blk))(W:Nat→Prop)(Post:V→Gh→(Nat→Option Kd)→Prop)(v:V)(s:St):Prop:=∃ G' K',Cur K0 H0 W G' K' s.H∧v.low s.H.length∧Post v G' K'
theorem EndW.of {Post:V→Gh→(Nat→Option Kd)→Prop}{s:St}(hC:Cur K0 H0 W G' K' s.H)(hl:v.low s.H.length)(hp:Post v G' K'):EndW K0 H0 W Post v s:=⟨G',K',hC,hl,hp⟩
theorem bE (hmix:P.follows .mixedOrders=true){fn:Func}{c:Code}{Post:V→Gh→(Nat→Option Kd)→Prop}(hf:P.funcs[f]?=some fn)(hb:fn.body=some c)(hn:args.length≤fn.ntmps)
  (hv:vc P H.length fn.ntmps c (b8 P fn (EndW K H W Post)) ⟨cW args 0,H⟩):∃ v G' K' H',Done P f args K H W v G' K' H'∧Post v G' K':=by
 obtain⟨v,s',h1,⟨G',K',h2,h3,h4⟩,h5⟩:=pt (s:=⟨cW args 0,H⟩) (Nat.le_refl _) hv
 exact⟨v,G',K',s'.H,⟨aR hmix hf hb hn (dB c _ _ _ (fun e s hs=>mH (fun v2 s2 hh=>by
  obtain⟨rfl,rfl⟩:=hh
  exact Fin.id h1) hs) h5),h2,h3⟩,h4⟩
open Classical in
noncomputable def gM (W:Nat→Prop) (n:Nat):List Nat:=(List.range n).filter fun b=>decide (W b)
theorem kO {b n:Nat}:b∈gM W n↔b<n∧W b:=by unfold gM;simp
theorem Done.whole (h:Done P f args K H W v G' K' H')(hl:ac H.length args)(hs:Sane H):Whole P f args H v H' (gM W H.length):=
 ⟨h.spec,h.cur.len,hl,hs,h.cur.wt.sane,h.low,fun b hb hn=>h.cur.keep b hb fun hw=>hn (kO.2 ⟨hb,hw⟩),fun b hb=>(kO.1 hb).1,fun b B e hor=>by
  cases r:B.ro with
  |false=>rfl
  |true=>
   obtain⟨g1,g2⟩:=h.cur.ro b B e r
   rcases hor with hb|hb
   ·omega
   ·rw[g2] at hb;cases hb⟩
theorem aT {t:List (Nat×V)}{Post:V→Gh→(Nat→Option Kd)→Prop}(hd:∃ v G' K' H',Done P f args0 K H W v G' K' H'∧Post v G' K')(hc:cw P f=true)(ha:args0=fs++args++cs)(hl:ac H.length args0)(hs:Sane H)
  (hk:∀ v G' K' H',Cur K H W G' K' H'→v.low H'.length→Post v G' K'→dp P m n R l ops k ⟨cz t dst v,H'⟩):gH P m n R (.fn f fs cs) args dst l ops k ⟨t,H⟩:=by
 obtain⟨v,G',K',H',h1,h2⟩:=hd
 exact mI (h1.whole hl hs) hc ha (hk v G' K' H' h1.cur h1.low h2)
theorem bN {t:List (Nat×V)}{tr:Tr}{Post:V→Gh→(Nat→Option Kd)→Prop}(hd:∃ v G' K' H',Done P f args0 K H W v G' K' H'∧Post v G' K')(hc:cw P f=true)(ha:args0=fs++args++cs)(hl:ac H.length args0)(hs:Sane H)
  (hk:∀ v G' K' H',Cur K H W G' K' H'→v.low H'.length→Post v G' K'→dn P m n R l (tr++[(List.range H.length,gM W H.length++List.range' H.length (H'.length-H.length))]) ops k ⟨cz t dst v,H'⟩):eF P m n R (.fn f fs cs) args dst l tr ops k ⟨t,H⟩:=by
 obtain⟨v,G',K',H',h1,h2⟩:=hd
 exact DO (h1.whole hl hs) hc ha (hk v G' K' H' h1.cur h1.low h2)
theorem kP {h h':List (Option Blk)}(hs:ao P f args h v h')(sg:List Nat)(hlen:sg.length=h.length)(hlow:ac h.length args)(hnd:sg.Nodup)(hsg:∀ b∈sg,b<H.length)
  (hblk:∀ b B,aa h b=some B→aa H (ah sg b)=some ⟨B.ro,rens (ah sg) B.cs,B.mp⟩∧ac h.length B.cs) (hro:∀ b B,aa h' b=some B→(h.length≤b∨aa h b=none)→B.ro=false) (hle:h.length≤h'.length):
  ao P f (rens (ah sg) args) H (v.ren (ah (au sg H.length h'))) (az sg H h'):=by
 have hS:=md (get0:=aa H) (nid:=H.length) hs hlen hlow hnd hsg hblk hro hle
 intro ρ w rargs ha hm
 refine(hS ρ (· <H.length) (aa H) w rargs hm ha (fun b hb=>⟨rfl,id⟩) (fun b h1 _ (h2:b<H.length)=>by omega)).mono ?_
 rintro e w' ⟨r,ρ',h1,h2,h3,h4,h5⟩
 have hnl:(cK (ah (au sg H.length h')) sg h').length=h'.length-sg.length:=by rw[iL,List.length_map,List.length_drop]
 have hlen':(az sg H h').length=H.length+(h'.length-sg.length):=df
 have hdom:∀ b,bX (· <H.length) H.length (cK (ah (au sg H.length h')) sg h').length b→b<(az sg H h').length:=fun b hb=>by
  rw[hlen'];rw[hnl] at hb
  rcases hb with hb|⟨_,hb⟩<;>omega
 have hget:∀ b,bx (aa H) (bR (ah (au sg H.length h')) sg h') H.length (cK (ah (au sg H.length h')) sg h') b=aa (az sg H h') b:=fun b=>by
  unfold bx az
  by_cases hb:b<H.length
  ·rw[if_neg (by omega),bW (by rw[dy];exact hb),jy _ _ _ hb]
  ·have e2:aa (bU H (bR (ah (au sg H.length h')) sg h')++cK (ah (au sg H.length h')) sg h') b=(cK (ah (au sg H.length h')) sg h')[b-H.length]?.join:=by
    unfold aa;rw[List.getElem?_append_right (by rw[dy];omega),dy]
   rw[e2]
   by_cases h6:b<H.length+(cK (ah (au sg H.length h')) sg h').length
   ·rw[if_pos ⟨by omega,h6⟩]
   ·rw[if_neg (by omega),List.getElem?_eq_none (by omega)]
    have hout:b∉sg:=fun hb2=>hb (hsg b hb2)
    rw[mj hout,sJ (by omega)];rfl
 have hget':=funext hget
 simp only at h3 h4 h5
 rw[hget'] at h3 h5
 exact⟨r,ρ',h1,h4.mono (fun _ _=>rfl) hdom (Lasts.refl w'),h3.monoDom hdom,by rw[hlen'];omega,h2,h5⟩
theorem Fg {cs1 cs2:List V}(hs:ao P f (.ptr 0 0::args) [some ⟨false,cs1,none⟩] v [some ⟨false,cs2,none⟩])(hg:aa H b=some ⟨false,cs1,none⟩)(ha:∀ σ,rens σ args=args)(hal:∀ n,ac n args)(h1:∀ σ,rens σ cs1=cs1)(h1l:∀ n,ac n cs1)(h2:∀ σ,rens σ cs2=cs2)(hv:∀ σ,v.ren σ=v):
  ao P f (.ptr b 0::args) H v (H.set b (some ⟨false,cs2,none⟩)):=by
 have hlt:=aj hg
 have h:=kP (H:=H) hs [b] rfl ⟨Nat.one_pos,hal 1⟩ (by simp) (fun c hc=>by rw[List.mem_singleton.1 hc];exact hlt) (fun c B e=>by
  match c with
  |0=>
   have e':some (⟨false,cs1,none⟩:Blk)=some B:=e
   cases e'
   exact⟨by rw[h1];exact hg,h1l _⟩
  |c+1=>simp[aa] at e) (fun c B e hc=>by
  have :=aj e
  match c with
  |0=>rcases hc with hc|hc<;>simp[aa] at hc
  |c+1=>simp[aa] at e) (Nat.le_refl _)
 have e1:rens (ah [b]) (.ptr 0 0::args)= .ptr b 0::args:=by
  unfold rens V.ren
  rw[ha];rfl
 have e2:az [b] H [some ⟨false,cs2,none⟩]=H.set b (some ⟨false,cs2,none⟩):=by
  unfold az
  simp[bR,cK,bU,cY,Blk.ren,h2]
 rw[e1,e2,hv] at h
 exact h
end
end
section
section
variable {G:Gh}{K:Nat→Option Kd}{H:List (Option Blk)}{b:Nat}
theorem Row.cons {f:Ft}{fs:List Ft}{cs:List V}(h:Row K (f::fs) cs):∃ v vs,cs=v::vs∧fieldOk K f v∧Row K fs vs:=by
 match cs,h with
 |v::vs,h=>exact⟨v,vs,rfl,h.1,h.2⟩
theorem Row.nil {cs:List V}(h:Row K [] cs):cs=[]:=by
 match cs,h with
 |[],_=>rfl
structure DevF (G:Gh) (K:Nat→Option Kd) (b:Nat) (m n:Nat) (here:BitVec 32) (own:List af) (pub:List af) (seed:List af) (best:Int) (fresh:BitVec 64) (secret:List af) (index:BitVec 32) (firsts:Int) (now:Int) (busy:Bool) (peers:V) (paths:Nat) (bucket:Nat) (out:V) (got:V):Prop where
 fown:own.length≤bn
 fpub:pub.length≤bn
 fseed:seed.length≤bn
 fbest:1≤best∧best≤2
 fsecret:secret.length≤bn
 fnow:0≤now∧now≤1099511627776
 fpeers:fieldOk K (.slE (.peers b) n) peers
 fpaths:K paths=some (.troot m)
 fbucket:K bucket=some .bucket
 fout:fieldOk K (.sl (.out b) 3 (G.o b)) out
 fgot:fieldOk K (.sl (.got b) 3 (G.g b)) got
theorem DevF.row {m n:Nat}{here:BitVec 32}{own:List af}{pub:List af}{seed:List af}{best:Int}{fresh:BitVec 64}{secret:List af}{index:BitVec 32}{firsts:Int}{now:Int}{busy:Bool}{peers:V}{paths:Nat}{bucket:Nat}{out:V}{got:V}(h:DevF G K b m n here own pub seed best fresh secret index firsts now busy peers paths bucket out got):Row K (aV G b (.dev m n)) [.u32 here,.str own,.str pub,.str seed,.i64 best,.u64 fresh,.str secret,.u32 index,.i64 firsts,.i64 now,.bool busy,peers,.ptr paths 0,.ptr bucket 0,out,got]:=
 ⟨⟨_,rfl⟩,⟨_,rfl,h.fown⟩,⟨_,rfl,h.fpub⟩,⟨_,rfl,h.fseed⟩,⟨_,rfl,h.fbest.1,h.fbest.2⟩,⟨_,rfl⟩,⟨_,rfl,h.fsecret⟩,⟨_,rfl⟩,⟨_,rfl⟩,⟨_,rfl,h.fnow.1,h.fnow.2⟩,⟨_,rfl⟩,h.fpeers,⟨_,rfl,h.fpaths⟩,⟨_,rfl,h.fbucket⟩,h.fout,h.fgot,trivial⟩
theorem WT.dev {m n:Nat}(h:WT G K H)(hb:K b=some (.dev m n)):∃ here own pub seed best fresh secret index firsts now busy peers paths bucket out got,aa H b=some ⟨false,[.u32 here,.str own,.str pub,.str seed,.i64 best,.u64 fresh,.str secret,.u32 index,.i64 firsts,.i64 now,.bool busy,peers,.ptr paths 0,.ptr bucket 0,out,got],none⟩∧DevF G K b m n here own pub seed best fresh secret index firsts now busy peers paths bucket out got:=by
 obtain⟨cs,hg,hr⟩:=h.row hb rfl
 unfold aV at hr
 obtain⟨v0,c0,rfl,g0,hr⟩:=Row.cons hr
 obtain⟨v1,c1,rfl,g1,hr⟩:=Row.cons hr
 obtain⟨v2,c2,rfl,g2,hr⟩:=Row.cons hr
 obtain⟨v3,c3,rfl,g3,hr⟩:=Row.cons hr
 obtain⟨v4,c4,rfl,g4,hr⟩:=Row.cons hr
 obtain⟨v5,c5,rfl,g5,hr⟩:=Row.cons hr
 obtain⟨v6,c6,rfl,g6,hr⟩:=Row.cons hr
 obtain⟨v7,c7,rfl,g7,hr⟩:=Row.cons hr
 obtain⟨v8,c8,rfl,g8,hr⟩:=Row.cons hr
 obtain⟨v9,c9,rfl,g9,hr⟩:=Row.cons hr
 obtain⟨v10,c10,rfl,g10,hr⟩:=Row.cons hr
 obtain⟨v11,c11,rfl,g11,hr⟩:=Row.cons hr
 obtain⟨v12,c12,rfl,g12,hr⟩:=Row.cons hr
 obtain⟨v13,c13,rfl,g13,hr⟩:=Row.cons hr
 obtain⟨v14,c14,rfl,g14,hr⟩:=Row.cons hr
 obtain⟨v15,c15,rfl,g15,hr⟩:=Row.cons hr
 obtain rfl:=Row.nil hr
 obtain⟨here,rfl⟩:=g0
 obtain⟨own,rfl,q1⟩:=g1
 obtain⟨pub,rfl,q2⟩:=g2
 obtain⟨seed,rfl,q3⟩:=g3
 obtain⟨best,rfl,q4,q4b⟩:=g4
 obtain⟨fresh,rfl⟩:=g5
 obtain⟨secret,rfl,q6⟩:=g6
 obtain⟨index,rfl⟩:=g7
 obtain⟨firsts,rfl⟩:=g8
 obtain⟨now,rfl,q9,q9b⟩:=g9
 obtain⟨busy,rfl⟩:=g10
 obtain⟨paths,rfl,q12⟩:=g12
 obtain⟨bucket,rfl,q13⟩:=g13
 exact⟨here,own,pub,seed,best,fresh,secret,index,firsts,now,busy,v11,paths,bucket,v14,v15,hg,⟨q1,q2,q3,⟨q4,q4b⟩,q6,⟨q9,q9b⟩,g11,q12,q13,g14,g15⟩⟩
theorem WT.devF {m n:Nat}{here:BitVec 32}{own:List af}{pub:List af}{seed:List af}{best:Int}{fresh:BitVec 64}{secret:List af}{index:BitVec 32}{firsts:Int}{now:Int}{busy:Bool}{peers:V}{paths:Nat}{bucket:Nat}{out:V}{got:V}(h:WT G K H)(hb:K b=some (.dev m n))(hg:aa H b=some ⟨false,[.u32 here,.str own,.str pub,.str seed,.i64 best,.u64 fresh,.str secret,.u32 index,.i64 firsts,.i64 now,.bool busy,peers,.ptr paths 0,.ptr bucket 0,out,got],none⟩):DevF G K b m n here own pub seed best fresh secret index firsts now busy peers paths bucket out got:=by
 have hr:=h.rowOf hb rfl hg
 unfold aV at hr
 have g0:=hr.1;replace hr:=hr.2
 have g1:=hr.1;replace hr:=hr.2
 have g2:=hr.1;replace hr:=hr.2
 have g3:=hr.1;replace hr:=hr.2
 have g4:=hr.1;replace hr:=hr.2
 have g5:=hr.1;replace hr:=hr.2
 have g6:=hr.1;replace hr:=hr.2
 have g7:=hr.1;replace hr:=hr.2
 have g8:=hr.1;replace hr:=hr.2
 have g9:=hr.1;replace hr:=hr.2
 have g10:=hr.1;replace hr:=hr.2
 have g11:=hr.1;replace hr:=hr.2
 have g12:=hr.1;replace hr:=hr.2
 have g13:=hr.1;replace hr:=hr.2
 have g14:=hr.1;replace hr:=hr.2
 have g15:=hr.1;replace hr:=hr.2
 have q1:own.length≤bn:=by obtain⟨x,e,q⟩:=g1;cases e;exact q
 have q2:pub.length≤bn:=by obtain⟨x,e,q⟩:=g2;cases e;exact q
 have q3:seed.length≤bn:=by obtain⟨x,e,q⟩:=g3;cases e;exact q
 have q4:1≤best∧best≤2:=by obtain⟨x,e,q,q2⟩:=g4;cases e;exact⟨q,q2⟩
 have q6:secret.length≤bn:=by obtain⟨x,e,q⟩:=g6;cases e;exact q
 have q9:0≤now∧now≤1099511627776:=by obtain⟨x,e,q,q2⟩:=g9;cases e;exact⟨q,q2⟩
 have q12:K paths=some (.troot m):=by obtain⟨x,e,q⟩:=g12;cases e;exact q
 have q13:K bucket=some .bucket:=by obtain⟨x,e,q⟩:=g13;cases e;exact q
 exact⟨q1,q2,q3,q4,q6,q9,g11,q12,q13,g14,g15⟩
structure PeerF (G:Gh) (K:Nat→Option Kd) (b:Nat) (d:Nat) (tm:Nat) (num:Int) (pub:List af) (psk:List af) (at_:BitVec 32) (knows:Int) (pin:Int) (stamped:Bool) (sec:Int) (nano:Int) (cookie:List af) (until_:Int) (waits:V) (begun:V) (bindex:BitVec 32) (btext:List af) (old:V) (session:V) (next:V):Prop where
 fdv:∃ m n,K d=some (.dev m n)
 ftm:K tm=some .timer
 fpub:pub.length=32
 fpsk:psk.length≤bn
 fknows:1≤knows∧knows≤2
 fpin:1≤pin∧pin≤2
 fcookie:cookie=[]∨cookie.length=16
 fwaits:fieldOk K (.sl (.waits b) 1 4) waits
 fbegun:fieldOk K (.opt .begun) begun
 fbtext:btext.length≤bn
 fold:fieldOk K (.opt .ses) old
 fsession:fieldOk K (.opt .ses) session
 fnext:fieldOk K (.opt .ses) next
theorem PeerF.row {d:Nat}{tm:Nat}{num:Int}{pub:List af}{psk:List af}{at_:BitVec 32}{knows:Int}{pin:Int}{stamped:Bool}{sec:Int}{nano:Int}{cookie:List af}{until_:Int}{waits:V}{begun:V}{bindex:BitVec 32}{btext:List af}{old:V}{session:V}{next:V}(h:PeerF G K b d tm num pub psk at_ knows pin stamped sec nano cookie until_ waits begun bindex btext old session next):Row K (aV G b (.peer d)) [.ptr d 0,.ptr tm 0,.i64 num,.str pub,.str psk,.u32 at_,.i64 knows,.i64 pin,.bool stamped,.i64 sec,.i64 nano,.str cookie,.i64 until_,waits,begun,.u32 bindex,.str btext,old,session,next]:=
 ⟨⟨rfl,h.fdv⟩,⟨_,rfl,h.ftm⟩,⟨_,rfl⟩,⟨_,rfl,h.fpub⟩,⟨_,rfl,h.fpsk⟩,⟨_,rfl⟩,⟨_,rfl,h.fknows.1,h.fknows.2⟩,⟨_,rfl,h.fpin.1,h.fpin.2⟩,⟨_,rfl⟩,⟨_,rfl⟩,⟨_,rfl⟩,⟨_,rfl,h.fcookie⟩,⟨_,rfl⟩,h.fwaits,h.fbegun,⟨_,rfl⟩,⟨_,rfl,h.fbtext⟩,h.fold,h.fsession,h.fnext,trivial⟩
theorem WT.peer {d:Nat}(h:WT G K H)(hb:K b=some (.peer d)):∃ tm num pub psk at_ knows pin stamped sec nano cookie until_ waits begun bindex btext old session next,aa H b=some ⟨false,[.ptr d 0,.ptr tm 0,.i64 num,.str pub,.str psk,.u32 at_,.i64 knows,.i64 pin,.bool stamped,.i64 sec,.i64 nano,.str cookie,.i64 until_,waits,begun,.u32 bindex,.str btext,old,session,next],none⟩∧PeerF G K b d tm num pub psk at_ knows pin stamped sec nano cookie until_ waits begun bindex btext old session next:=by
 obtain⟨cs,hg,hr⟩:=h.row hb rfl
 unfold aV at hr
 obtain⟨v0,c0,rfl,g0,hr⟩:=Row.cons hr
 obtain⟨v1,c1,rfl,g1,hr⟩:=Row.cons hr
 obtain⟨v2,c2,rfl,g2,hr⟩:=Row.cons hr
 obtain⟨v3,c3,rfl,g3,hr⟩:=Row.cons hr
 obtain⟨v4,c4,rfl,g4,hr⟩:=Row.cons hr
 obtain⟨v5,c5,rfl,g5,hr⟩:=Row.cons hr
 obtain⟨v6,c6,rfl,g6,hr⟩:=Row.cons hr
 obtain⟨v7,c7,rfl,g7,hr⟩:=Row.cons hr
 obtain⟨v8,c8,rfl,g8,hr⟩:=Row.cons hr
 obtain⟨v9,c9,rfl,g9,hr⟩:=Row.cons hr
 obtain⟨v10,c10,rfl,g10,hr⟩:=Row.cons hr
 obtain⟨v11,c11,rfl,g11,hr⟩:=Row.cons hr
 obtain⟨v12,c12,rfl,g12,hr⟩:=Row.cons hr
 obtain⟨v13,c13,rfl,g13,hr⟩:=Row.cons hr
 obtain⟨v14,c14,rfl,g14,hr⟩:=Row.cons hr
 obtain⟨v15,c15,rfl,g15,hr⟩:=Row.cons hr
 obtain⟨v16,c16,rfl,g16,hr⟩:=Row.cons hr
 obtain⟨v17,c17,rfl,g17,hr⟩:=Row.cons hr
 obtain⟨v18,c18,rfl,g18,hr⟩:=Row.cons hr
 obtain⟨v19,c19,rfl,g19,hr⟩:=Row.cons hr
 obtain rfl:=Row.nil hr
 obtain⟨rfl,q0⟩:=g0
 obtain⟨tm,rfl,q1⟩:=g1
 obtain⟨num,rfl⟩:=g2
 obtain⟨pub,rfl,q3⟩:=g3
 obtain⟨psk,rfl,q4⟩:=g4
 obtain⟨at_,rfl⟩:=g5
 obtain⟨knows,rfl,q6,q6b⟩:=g6
 obtain⟨pin,rfl,q7,q7b⟩:=g7
 obtain⟨stamped,rfl⟩:=g8
 obtain⟨sec,rfl⟩:=g9
 obtain⟨nano,rfl⟩:=g10
 obtain⟨cookie,rfl,q11⟩:=g11
 obtain⟨until_,rfl⟩:=g12
 obtain⟨bindex,rfl⟩:=g15
 obtain⟨btext,rfl,q16⟩:=g16
 exact⟨tm,num,pub,psk,at_,knows,pin,stamped,sec,nano,cookie,until_,v13,v14,bindex,btext,v17,v18,v19,hg,⟨q0,q1,q3,q4,⟨q6,q6b⟩,⟨q7,q7b⟩,q11,g13,g14,q16,g17,g18,g19⟩⟩
theorem WT.peerF {d:Nat}{tm:Nat}{num:Int}{pub:List af}{psk:List af}{at_:BitVec 32}{knows:Int}{pin:Int}{stamped:Bool}{sec:Int}{nano:Int}{cookie:List af}{until_:Int}{waits:V}{begun:V}{bindex:BitVec 32}{btext:List af}{old:V}{session:V}{next:V}(h:WT G K H)(hb:K b=some (.peer d))(hg:aa H b=some ⟨false,[.ptr d 0,.ptr tm 0,.i64 num,.str pub,.str psk,.u32 at_,.i64 knows,.i64 pin,.bool stamped,.i64 sec,.i64 nano,.str cookie,.i64 until_,waits,begun,.u32 bindex,.str btext,old,session,next],none⟩):PeerF G K b d tm num pub psk at_ knows pin stamped sec nano cookie until_ waits begun bindex btext old session next:=by
 have hr:=h.rowOf hb rfl hg
 unfold aV at hr
 have g0:=hr.1;replace hr:=hr.2
 have g1:=hr.1;replace hr:=hr.2
 have g2:=hr.1;replace hr:=hr.2
 have g3:=hr.1;replace hr:=hr.2
 have g4:=hr.1;replace hr:=hr.2
 have g5:=hr.1;replace hr:=hr.2
 have g6:=hr.1;replace hr:=hr.2
 have g7:=hr.1;replace hr:=hr.2
 have g8:=hr.1;replace hr:=hr.2
 have g9:=hr.1;replace hr:=hr.2
 have g10:=hr.1;replace hr:=hr.2
 have g11:=hr.1;replace hr:=hr.2
 have g12:=hr.1;replace hr:=hr.2
 have g13:=hr.1;replace hr:=hr.2
 have g14:=hr.1;replace hr:=hr.2
 have g15:=hr.1;replace hr:=hr.2
 have g16:=hr.1;replace hr:=hr.2
 have g17:=hr.1;replace hr:=hr.2
 have g18:=hr.1;replace hr:=hr.2
 have g19:=hr.1;replace hr:=hr.2
 have q1:K tm=some .timer:=by obtain⟨x,e,q⟩:=g1;cases e;exact q
 have q3:pub.length=32:=by obtain⟨x,e,q⟩:=g3;cases e;exact q
 have q4:psk.length≤bn:=by obtain⟨x,e,q⟩:=g4;cases e;exact q
 have q6:1≤knows∧knows≤2:=by obtain⟨x,e,q,q2⟩:=g6;cases e;exact⟨q,q2⟩
 have q7:1≤pin∧pin≤2:=by obtain⟨x,e,q,q2⟩:=g7;cases e;exact⟨q,q2⟩
 have q11:cookie=[]∨cookie.length=16:=by obtain⟨x,e,q⟩:=g11;cases e;exact q
 have q16:btext.length≤bn:=by obtain⟨x,e,q⟩:=g16;cases e;exact q
 exact⟨g0.2,q1,q3,q4,q6,q7,q11,g13,g14,q16,g17,g18,g19⟩
structure TimerF (G:Gh) (K:Nat→Option Kd) (b:Nat) (w:Bool) (t:Int) (l:Int) (o:Bool) (u:Int):Prop where
theorem TimerF.row {w:Bool}{t:Int}{l:Int}{o:Bool}{u:Int}(h:TimerF G K b w t l o u):Row K (aV G b .timer) [.bool w,.i64 t,.i64 l,.bool o,.i64 u]:=
 ⟨⟨_,rfl⟩,⟨_,rfl⟩,⟨_,rfl⟩,⟨_,rfl⟩,⟨_,rfl⟩,trivial⟩
theorem WT.timer (h:WT G K H)(hb:K b=some .timer):∃ w t l o u,aa H b=some ⟨false,[.bool w,.i64 t,.i64 l,.bool o,.i64 u],none⟩∧TimerF G K b w t l o u:=by
 obtain⟨cs,hg,hr⟩:=h.row hb rfl
 unfold aV at hr
 obtain⟨v0,c0,rfl,g0,hr⟩:=Row.cons hr
 obtain⟨v1,c1,rfl,g1,hr⟩:=Row.cons hr
 obtain⟨v2,c2,rfl,g2,hr⟩:=Row.cons hr
 obtain⟨v3,c3,rfl,g3,hr⟩:=Row.cons hr
 obtain⟨v4,c4,rfl,g4,hr⟩:=Row.cons hr
 obtain rfl:=Row.nil hr
 obtain⟨w,rfl⟩:=g0
 obtain⟨t,rfl⟩:=g1
 obtain⟨l,rfl⟩:=g2
 obtain⟨o,rfl⟩:=g3
 obtain⟨u,rfl⟩:=g4
 exact⟨w,t,l,o,u,hg,⟨⟩⟩
structure SesF (G:Gh) (K:Nat→Option Kd) (b:Nat) (pair:Nat) (suite:Int) (mine:BitVec 32) (theirs:BitVec 32):Prop where
 fpair:K pair=some .pair
 fsuite:1≤suite∧suite≤2
theorem SesF.row {pair:Nat}{suite:Int}{mine:BitVec 32}{theirs:BitVec 32}(h:SesF G K b pair suite mine theirs):Row K (aV G b .ses) [.ptr pair 0,.i64 suite,.u32 mine,.u32 theirs]:=
 ⟨⟨_,rfl,h.fpair⟩,⟨_,rfl,h.fsuite.1,h.fsuite.2⟩,⟨_,rfl⟩,⟨_,rfl⟩,trivial⟩
theorem WT.ses (h:WT G K H)(hb:K b=some .ses):∃ pair suite mine theirs,aa H b=some ⟨false,[.ptr pair 0,.i64 suite,.u32 mine,.u32 theirs],some ⟨[],0⟩⟩∧SesF G K b pair suite mine theirs:=by
 obtain⟨cs,hg,hr⟩:=h.rowM hb rfl
 unfold aV at hr
 obtain⟨v0,c0,rfl,g0,hr⟩:=Row.cons hr
 obtain⟨v1,c1,rfl,g1,hr⟩:=Row.cons hr
 obtain⟨v2,c2,rfl,g2,hr⟩:=Row.cons hr
 obtain⟨v3,c3,rfl,g3,hr⟩:=Row.cons hr
 obtain rfl:=Row.nil hr
 obtain⟨pair,rfl,q0⟩:=g0
 obtain⟨suite,rfl,q1,q1b⟩:=g1
 obtain⟨mine,rfl⟩:=g2
 obtain⟨theirs,rfl⟩:=g3
 exact⟨pair,suite,mine,theirs,hg,⟨q0,⟨q1,q1b⟩⟩⟩
structure PairF (G:Gh) (K:Nat→Option Kd) (b:Nat) (win:Nat) (send:List af) (recv:List af) (suite:Int) (born:Int) (sealed:Int) (first:Bool):Prop where
 fwin:K win=some .win
 fsend:send.length≤bn
 frecv:recv.length≤bn
 fsuite:1≤suite∧suite≤2
theorem PairF.row {win:Nat}{send:List af}{recv:List af}{suite:Int}{born:Int}{sealed:Int}{first:Bool}(h:PairF G K b win send recv suite born sealed first):Row K (aV G b .pair) [.ptr win 0,.str send,.str recv,.i64 suite,.i64 born,.i64 sealed,.bool first]:=
 ⟨⟨_,rfl,h.fwin⟩,⟨_,rfl,h.fsend⟩,⟨_,rfl,h.frecv⟩,⟨_,rfl,h.fsuite.1,h.fsuite.2⟩,⟨_,rfl⟩,⟨_,rfl⟩,⟨_,rfl⟩,trivial⟩
theorem WT.pair (h:WT G K H)(hb:K b=some .pair):∃ win send recv suite born sealed first,aa H b=some ⟨false,[.ptr win 0,.str send,.str recv,.i64 suite,.i64 born,.i64 sealed,.bool first],none⟩∧PairF G K b win send recv suite born sealed first:=by
 obtain⟨cs,hg,hr⟩:=h.row hb rfl
 unfold aV at hr
 obtain⟨v0,c0,rfl,g0,hr⟩:=Row.cons hr
 obtain⟨v1,c1,rfl,g1,hr⟩:=Row.cons hr
 obtain⟨v2,c2,rfl,g2,hr⟩:=Row.cons hr
 obtain⟨v3,c3,rfl,g3,hr⟩:=Row.cons hr
 obtain⟨v4,c4,rfl,g4,hr⟩:=Row.cons hr
 obtain⟨v5,c5,rfl,g5,hr⟩:=Row.cons hr
 obtain⟨v6,c6,rfl,g6,hr⟩:=Row.cons hr
 obtain rfl:=Row.nil hr
 obtain⟨win,rfl,q0⟩:=g0
 obtain⟨send,rfl,q1⟩:=g1
 obtain⟨recv,rfl,q2⟩:=g2
 obtain⟨suite,rfl,q3,q3b⟩:=g3
 obtain⟨born,rfl⟩:=g4
 obtain⟨sealed,rfl⟩:=g5
 obtain⟨first,rfl⟩:=g6
 exact⟨win,send,recv,suite,born,sealed,first,hg,⟨q0,q1,q2,⟨q3,q3b⟩⟩⟩
structure WinF (G:Gh) (K:Nat→Option Kd) (b:Nat) (next:Int) (bits:BitVec 64):Prop where
 fnext:0≤next∧next≤1099511627777
theorem WinF.row {next:Int}{bits:BitVec 64}(h:WinF G K b next bits):Row K (aV G b .win) [.i64 next,.u64 bits]:=
 ⟨⟨_,rfl,h.fnext.1,h.fnext.2⟩,⟨_,rfl⟩,trivial⟩
theorem WT.win (h:WT G K H)(hb:K b=some .win):∃ next bits,aa H b=some ⟨false,[.i64 next,.u64 bits],none⟩∧WinF G K b next bits:=by
 obtain⟨cs,hg,hr⟩:=h.row hb rfl
 unfold aV at hr
 obtain⟨v0,c0,rfl,g0,hr⟩:=Row.cons hr
 obtain⟨v1,c1,rfl,g1,hr⟩:=Row.cons hr
 obtain rfl:=Row.nil hr
 obtain⟨next,rfl,q0,q0b⟩:=g0
 obtain⟨bits,rfl⟩:=g1
 exact⟨next,bits,hg,⟨⟨q0,q0b⟩⟩⟩
structure BegunF (G:Gh) (K:Nat→Option Kd) (b:Nat) (su:V) (hs:List af) (ch:List af) (ky:List af) (n:BitVec 64) (csu:Int) (own:List af) (peer:List af) (psk:List af) (once:List af) (id:BitVec 32):Prop where
 fsu:sL su
 fhs:hs.length=32
 fch:ch.length=32
 fky:ky.length≤32
 fcsu:1≤csu∧csu≤2
 fown:own.length≤bn
 fpeer:peer.length≤bn
 fpsk:psk.length≤bn
 fonce:once.length≤bn
theorem BegunF.row {su:V}{hs:List af}{ch:List af}{ky:List af}{n:BitVec 64}{csu:Int}{own:List af}{peer:List af}{psk:List af}{once:List af}{id:BitVec 32}(h:BegunF G K b su hs ch ky n csu own peer psk once id):Row K (aV G b .begun) [su,.str hs,.str ch,.str ky,.u64 n,.i64 csu,.str own,.str peer,.str psk,.str once,.u32 id]:=
 ⟨h.fsu,⟨_,rfl,h.fhs⟩,⟨_,rfl,h.fch⟩,⟨_,rfl,h.fky⟩,⟨_,rfl⟩,⟨_,rfl,h.fcsu.1,h.fcsu.2⟩,⟨_,rfl,h.fown⟩,⟨_,rfl,h.fpeer⟩,⟨_,rfl,h.fpsk⟩,⟨_,rfl,h.fonce⟩,⟨_,rfl⟩,trivial⟩
theorem WT.begun (h:WT G K H)(hb:K b=some .begun):∃ su hs ch ky n csu own peer psk once id,aa H b=some ⟨false,[su,.str hs,.str ch,.str ky,.u64 n,.i64 csu,.str own,.str peer,.str psk,.str once,.u32 id],none⟩∧BegunF G K b su hs ch ky n csu own peer psk once id:=by
 obtain⟨cs,hg,hr⟩:=h.row hb rfl
 unfold aV at hr
 obtain⟨v0,c0,rfl,g0,hr⟩:=Row.cons hr
 obtain⟨v1,c1,rfl,g1,hr⟩:=Row.cons hr
 obtain⟨v2,c2,rfl,g2,hr⟩:=Row.cons hr
 obtain⟨v3,c3,rfl,g3,hr⟩:=Row.cons hr
 obtain⟨v4,c4,rfl,g4,hr⟩:=Row.cons hr
 obtain⟨v5,c5,rfl,g5,hr⟩:=Row.cons hr
 obtain⟨v6,c6,rfl,g6,hr⟩:=Row.cons hr
 obtain⟨v7,c7,rfl,g7,hr⟩:=Row.cons hr
 obtain⟨v8,c8,rfl,g8,hr⟩:=Row.cons hr
 obtain⟨v9,c9,rfl,g9,hr⟩:=Row.cons hr
 obtain⟨v10,c10,rfl,g10,hr⟩:=Row.cons hr
 obtain rfl:=Row.nil hr
 obtain⟨hs,rfl,q1⟩:=g1
 obtain⟨ch,rfl,q2⟩:=g2
 obtain⟨ky,rfl,q3⟩:=g3
 obtain⟨n,rfl⟩:=g4
 obtain⟨csu,rfl,q5,q5b⟩:=g5
 obtain⟨own,rfl,q6⟩:=g6
 obtain⟨peer,rfl,q7⟩:=g7
 obtain⟨psk,rfl,q8⟩:=g8
 obtain⟨once,rfl,q9⟩:=g9
 obtain⟨id,rfl⟩:=g10
 exact⟨v0,hs,ch,ky,n,csu,own,peer,psk,once,id,hg,⟨g0,q1,q2,q3,⟨q5,q5b⟩,q6,q7,q8,q9⟩⟩
structure HeardF (G:Gh) (K:Nat→Option Kd) (b:Nat) (su:V) (hs:List af) (ch:List af) (ky:List af) (n:BitVec 64) (csu:Int) (ix:BitVec 32) (once:List af) (static_:List af):Prop where
 fsu:sL su
 fhs:hs.length=32
 fch:ch.length=32
 fky:ky.length≤32
 fcsu:1≤csu∧csu≤2
 fonce:once.length≤bn
 fstatic_:static_.length≤bn
theorem HeardF.row {su:V}{hs:List af}{ch:List af}{ky:List af}{n:BitVec 64}{csu:Int}{ix:BitVec 32}{once:List af}{static_:List af}(h:HeardF G K b su hs ch ky n csu ix once static_):Row K (aV G b .heard) [su,.str hs,.str ch,.str ky,.u64 n,.i64 csu,.u32 ix,.str once,.str static_]:=
 ⟨h.fsu,⟨_,rfl,h.fhs⟩,⟨_,rfl,h.fch⟩,⟨_,rfl,h.fky⟩,⟨_,rfl⟩,⟨_,rfl,h.fcsu.1,h.fcsu.2⟩,⟨_,rfl⟩,⟨_,rfl,h.fonce⟩,⟨_,rfl,h.fstatic_⟩,trivial⟩
theorem WT.heard (h:WT G K H)(hb:K b=some .heard):∃ su hs ch ky n csu ix once static_,aa H b=some ⟨false,[su,.str hs,.str ch,.str ky,.u64 n,.i64 csu,.u32 ix,.str once,.str static_],none⟩∧HeardF G K b su hs ch ky n csu ix once static_:=by
 obtain⟨cs,hg,hr⟩:=h.row hb rfl
 unfold aV at hr
 obtain⟨v0,c0,rfl,g0,hr⟩:=Row.cons hr
 obtain⟨v1,c1,rfl,g1,hr⟩:=Row.cons hr
 obtain⟨v2,c2,rfl,g2,hr⟩:=Row.cons hr
 obtain⟨v3,c3,rfl,g3,hr⟩:=Row.cons hr
 obtain⟨v4,c4,rfl,g4,hr⟩:=Row.cons hr
 obtain⟨v5,c5,rfl,g5,hr⟩:=Row.cons hr
 obtain⟨v6,c6,rfl,g6,hr⟩:=Row.cons hr
 obtain⟨v7,c7,rfl,g7,hr⟩:=Row.cons hr
 obtain⟨v8,c8,rfl,g8,hr⟩:=Row.cons hr
 obtain rfl:=Row.nil hr
 obtain⟨hs,rfl,q1⟩:=g1
 obtain⟨ch,rfl,q2⟩:=g2
 obtain⟨ky,rfl,q3⟩:=g3
 obtain⟨n,rfl⟩:=g4
 obtain⟨csu,rfl,q5,q5b⟩:=g5
 obtain⟨ix,rfl⟩:=g6
 obtain⟨once,rfl,q7⟩:=g7
 obtain⟨static_,rfl,q8⟩:=g8
 exact⟨v0,hs,ch,ky,n,csu,ix,once,static_,hg,⟨g0,q1,q2,q3,⟨q5,q5b⟩,q7,q8⟩⟩
structure TnodeF (G:Gh) (K:Nat→Option Kd) (b:Nat) (m:Nat) (k0:V) (k1:V) (is:Bool) (owner:Int):Prop where
 fk0:fieldOk K (.opt (.tnode m)) k0
 fk1:fieldOk K (.opt (.tnode m)) k1
 fowner:0≤owner∧owner≤((m:Int)-1)
theorem TnodeF.row {m:Nat}{k0:V}{k1:V}{is:Bool}{owner:Int}(h:TnodeF G K b m k0 k1 is owner):Row K (aV G b (.tnode m)) [k0,k1,.bool is,.i64 owner]:=
 ⟨h.fk0,h.fk1,⟨_,rfl⟩,⟨_,rfl,h.fowner.1,h.fowner.2⟩,trivial⟩
theorem WT.tnode {m:Nat}(h:WT G K H)(hb:K b=some (.tnode m)):∃ k0 k1 is owner,aa H b=some ⟨false,[k0,k1,.bool is,.i64 owner],none⟩∧TnodeF G K b m k0 k1 is owner:=by
 obtain⟨cs,hg,hr⟩:=h.row hb rfl
 unfold aV at hr
 obtain⟨v0,c0,rfl,g0,hr⟩:=Row.cons hr
 obtain⟨v1,c1,rfl,g1,hr⟩:=Row.cons hr
 obtain⟨v2,c2,rfl,g2,hr⟩:=Row.cons hr
 obtain⟨v3,c3,rfl,g3,hr⟩:=Row.cons hr
 obtain rfl:=Row.nil hr
 obtain⟨is,rfl⟩:=g2
 obtain⟨owner,rfl,q3,q3b⟩:=g3
 exact⟨v0,v1,is,owner,hg,⟨g0,g1,⟨q3,q3b⟩⟩⟩
structure TrootF (G:Gh) (K:Nat→Option Kd) (b:Nat) (m:Nat) (k0:V) (k1:V) (is:Bool) (owner:Int) (many:Int):Prop where
 fk0:fieldOk K (.opt (.tnode m)) k0
 fk1:fieldOk K (.opt (.tnode m)) k1
 fowner:0≤owner∧owner≤((m:Int)-1)
theorem TrootF.row {m:Nat}{k0:V}{k1:V}{is:Bool}{owner:Int}{many:Int}(h:TrootF G K b m k0 k1 is owner many):Row K (aV G b (.troot m)) [k0,k1,.bool is,.i64 owner,.i64 many]:=
 ⟨h.fk0,h.fk1,⟨_,rfl⟩,⟨_,rfl,h.fowner.1,h.fowner.2⟩,⟨_,rfl⟩,trivial⟩
theorem WT.troot {m:Nat}(h:WT G K H)(hb:K b=some (.troot m)):∃ k0 k1 is owner many,aa H b=some ⟨false,[k0,k1,.bool is,.i64 owner,.i64 many],none⟩∧TrootF G K b m k0 k1 is owner many:=by
 obtain⟨cs,hg,hr⟩:=h.row hb rfl
 unfold aV at hr
 obtain⟨v0,c0,rfl,g0,hr⟩:=Row.cons hr
 obtain⟨v1,c1,rfl,g1,hr⟩:=Row.cons hr
 obtain⟨v2,c2,rfl,g2,hr⟩:=Row.cons hr
 obtain⟨v3,c3,rfl,g3,hr⟩:=Row.cons hr
 obtain⟨v4,c4,rfl,g4,hr⟩:=Row.cons hr
 obtain rfl:=Row.nil hr
 obtain⟨is,rfl⟩:=g2
 obtain⟨owner,rfl,q3,q3b⟩:=g3
 obtain⟨many,rfl⟩:=g4
 exact⟨v0,v1,is,owner,many,hg,⟨g0,g1,⟨q3,q3b⟩⟩⟩
structure BucketF (G:Gh) (K:Nat→Option Kd) (b:Nat) (now:Int) (left :Nat):Prop where
 fnow:0≤now∧now≤1099511627776
 fleft:K left =some .bmap
theorem BucketF.row {now:Int}{left :Nat}(h:BucketF G K b now left):Row K (aV G b .bucket) [.i64 now,.map left]:=
 ⟨⟨_,rfl,h.fnow.1,h.fnow.2⟩,⟨_,rfl,h.fleft⟩,trivial⟩
theorem WT.bucket (h:WT G K H)(hb:K b=some .bucket):∃ now left,aa H b=some ⟨false,[.i64 now,.map left],none⟩∧BucketF G K b now left :=by
 obtain⟨cs,hg,hr⟩:=h.row hb rfl
 unfold aV at hr
 obtain⟨v0,c0,rfl,g0,hr⟩:=Row.cons hr
 obtain⟨v1,c1,rfl,g1,hr⟩:=Row.cons hr
 obtain rfl:=Row.nil hr
 obtain⟨now,rfl,q0,q0b⟩:=g0
 obtain⟨left,rfl,q1⟩:=g1
 exact⟨now,left,hg,⟨⟨q0,q0b⟩,q1⟩⟩
structure LinkF (G:Gh) (K:Nat→Option Kd) (b:Nat) (xs:List Nat) (nodes:V) (air:V):Prop where
 fnodes:fieldOk K (.slE (fun _=> .nodes xs) xs.length) nodes
 fair:fieldOk K (.slz (.air b) 3 60) air
theorem LinkF.row {xs:List Nat}{nodes:V}{air:V}(h:LinkF G K b xs nodes air):Row K (aV G b (.link xs)) [nodes,air]:=
 ⟨h.fnodes,h.fair,trivial⟩
theorem WT.link {xs:List Nat}(h:WT G K H)(hb:K b=some (.link xs)):∃ nodes air,aa H b=some ⟨false,[nodes,air],none⟩∧LinkF G K b xs nodes air:=by
 obtain⟨cs,hg,hr⟩:=h.row hb rfl
 unfold aV at hr
 obtain⟨v0,c0,rfl,g0,hr⟩:=Row.cons hr
 obtain⟨v1,c1,rfl,g1,hr⟩:=Row.cons hr
 obtain rfl:=Row.nil hr
 exact⟨v0,v1,hg,⟨g0,g1⟩⟩
theorem WT.linkF {xs:List Nat}{nodes:V}{air:V}(h:WT G K H)(hb:K b=some (.link xs))(hg:aa H b=some ⟨false,[nodes,air],none⟩):LinkF G K b xs nodes air:=by
 have hr:=h.rowOf hb rfl hg
 unfold aV at hr
 have g0:=hr.1;replace hr:=hr.2
 have g1:=hr.1;replace hr:=hr.2
 exact⟨g0,g1⟩
structure NodeF (G:Gh) (K:Nat→Option Kd) (b:Nat) (c m:Nat) (all:V):Prop where
 fdv:∃ m n,K c=some (.dev m n)
 fall:fieldOk K (.sl (.all b) 3 (G.g b)) all
theorem NodeF.row {c m:Nat}{all:V}(h:NodeF G K b c m all):Row K (aV G b (.node c m)) [.ptr c 0,all]:=
 ⟨⟨rfl,h.fdv⟩,h.fall,trivial⟩
theorem WT.node {c m:Nat}(h:WT G K H)(hb:K b=some (.node c m)):∃ all,aa H b=some ⟨false,[.ptr c 0,all],none⟩∧NodeF G K b c m all:=by
 obtain⟨cs,hg,hr⟩:=h.row hb rfl
 unfold aV at hr
 obtain⟨v0,c0,rfl,g0,hr⟩:=Row.cons hr
 obtain⟨v1,c1,rfl,g1,hr⟩:=Row.cons hr
 obtain rfl:=Row.nil hr
 obtain⟨rfl,q0⟩:=g0
 exact⟨v1,hg,⟨q0,g1⟩⟩
theorem WT.nodeF {c m:Nat}{all:V}(h:WT G K H)(hb:K b=some (.node c m))(hg:aa H b=some ⟨false,[.ptr c 0,all],none⟩):NodeF G K b c m all:=by
 have hr:=h.rowOf hb rfl hg
 unfold aV at hr
 have g0:=hr.1;replace hr:=hr.2
 have g1:=hr.1;replace hr:=hr.2
 exact⟨g0.2,g1⟩
end
end
section
section
variable {P:Program}{f:FuncId}{args:List V}{v:V}{H H0 H':List (Option Blk)}{G G':Gh}{K K0 K':Nat→Option Kd}{W:Nat→Prop}{b:Nat}{k:Kd}{cs1 cs2:List V}
def br (Q:V→Prop)(G:Gh)(K:Nat→Option Kd):V→Gh→(Nat→Option Kd)→Prop:=fun v G' K'=>G'=G∧K'=K∧Q v
def bK (v:V):Prop:=∃ e:Int,v= .i64 e
def lI (v:V):Prop:=∃ e:Bool,v= .bool e
theorem jZ {Q:V→Prop}(h:WT G K H)(hb:K b=some k)(hk:k.isMap=false)(hg:aa H b=some ⟨false,cs1,none⟩)(hs:ao P f (.ptr 0 0::args) [some ⟨false,cs1,none⟩] v [some ⟨false,cs2,none⟩])(ha:∀ σ,rens σ args=args)(hal:∀ n,ac n args)(h1:∀ σ,rens σ cs1=cs1)(h1l:∀ n,ac n cs1)(h2:∀ σ,rens σ cs2=cs2)(hv:∀ σ,v.ren σ=v)(hvl:∀ n,v.low n)
  (hr:Row K (aV G b k) cs2) (hq:Q v):∃ v G' K' H',Done P f (.ptr b 0::args) K H (fun x=>x=b) v G' K' H'∧br Q G K v G' K':=
 ⟨v,G,K,_,⟨Fg hs hg ha hal h1 h1l h2 hv,(Cur.refl h _).putW hb hk (fun _=>rfl) hr,hvl _⟩,rfl,rfl,hq⟩
theorem dH {b:Nat}{X:List (Option Blk)}(h:b<H.length):aa (H++X) b=aa H b:=bW h X
theorem eg {b:Nat}{X Y:List (Option Blk)}(h:b<H.length):aa (H++X++Y) b=aa H b:=by rw[bW (by rw[List.length_append];omega),bW h]
theorem o6 {b:Nat}{X Y Z:List (Option Blk)}(h:b<H.length):aa (H++X++Y++Z) b=aa H b:=by rw[bW (by rw[List.length_append,List.length_append];omega),eg h]
theorem dm {x:Option Blk}:aa (H++[x]) H.length=x:=d9 H x []
theorem oS {x:Option Blk}{Y:List (Option Blk)}:aa (H++[x]++Y) H.length=x:=by rw[bW (by simp)];exact dm
theorem xT {x:Option Blk}{Y Z:List (Option Blk)}:aa (H++[x]++Y++Z) H.length=x:=by rw[bW (by simp)];exact oS
theorem o7 {x y:Option Blk}:aa (H++[x]++[y]) (H.length+1)=y:=by
 have h:=dm (H:=H++[x]) (x:=y)
 rw[List.length_append] at h
 exact h
theorem Hu {x y:Option Blk}{Z:List (Option Blk)}:aa (H++[x]++[y]++Z) (H.length+1)=y:=by rw[bW (by simp)];exact o7
theorem sM {x y z:Option Blk}:aa (H++[x]++[y]++[z]) (H.length+2)=z:=by
 have h:=dm (H:=H++[x]++[y]) (x:=z)
 rw[List.length_append,List.length_append] at h
 exact h
attribute [go_sem] dm oS xT o7 Hu sM
end
end
end Go.Vm
end
