/- Proved: laws of a machine of values; no conditions but each theorem's own. -/
import Derived.Maps.RangeRun
import Derived.Test.YtidjknjilnopnaaGreatDoorVmTToTot2
set_option linter.unusedVariables false
set_option linter.unusedSimpArgs false
set_option maxRecDepth 20000
set_option maxHeartbeats 8000000
section
namespace Go.Vm
section
open Go Go.RowKit
open Go.ChangeMaps (setBlock)
section
variable {P:Program}{m n:Nat}
def GS (P:Program)(m n:Nat)(c:Code)(Q:Exit->St->Prop)(s:St):Prop:=
 ∀ (ρ:Nat->Nat×Nat) (a:Act) (w:World),RelSt ρ n s a w->m<=s.H.length->c.wp P (yE m n ρ s w Q) a w
theorem qw (b:P.follows .mixedOrders=true){c:Code}{Q:Exit->St->Prop}{s:St}(h:vc P m n c Q s):GS P m n c Q s:=fun ρ a w d e=>nz b c Q s h ρ a w d e
theorem qc {x y:Code}{K:St->Prop}{Q:Exit->St->Prop}{s:St}(g:GS P m n x (jH K Q) s)(h:∀ s',K s'->GS P m n y Q s'):GS P m n (.seq x y) Q s:=fun ρ a w i j=>by
 refine wp_seq (wp_mono (g ρ a w i j) ?_);rintro e a' w' ⟨s',ρ',d,f,b⟩;cases e
 case normal=>exact wp_mono (h s' d ρ' a' w' f b.1) fun e l o ⟨c,ρ'',r1,r2,r3⟩=>⟨c,ρ'',r1,r2,b.trans r3⟩
 all_goals exact⟨s',ρ',d,f,b⟩
theorem KI {m:Nat}{ops:Array Oper}{Q:Exit->Act->World->Prop}{l2:List Nat}{ρ:Nat->Nat×Nat}{a:Act}{w:World}:∀ (l:List Nat) (os:List Oper) (s:St) (K:St->Prop),l.map (ops[·]?)=os.map some->(∀ o∈os,o.guard=none)->cM P n ops os s K->∀ (ρ:Nat->Nat×Nat) (a:Act) (w:World),RelSt ρ n s a w->m<=s.H.length->
  (∀ a' w',zE m n ρ s w K a' w'->wpOps P ops Q l2 a' w')->wpOps P ops Q (l++l2) a w
 |[],[],s,K,_,_,h,ρ,a,w,e,g,j=>j a w ⟨s,ρ,h,e,Step.refl g⟩
 |[],_::_,_,_,d,_,_,_,_,_,_,_,_=>by simp at d
 |_::_,[],_,_,d,_,_,_,_,_,_,_,_=>by simp at d
 |i::l,o::os,s,K,d,f,h,ρ,a,w,e,g,j=>by
  simp only[bN,List.cons.injEq] at d;obtain⟨p,d⟩:=d;obtain⟨v,h⟩:=h;have u:=f o ae;rw[u] at h;have hw:Region.wanted o (yielded ops a.tmps)=true:=by unfold Region.wanted;rw[u]
  obtain⟨res,h1,h2⟩:=DE h;simp only[fO,wpOps,p,hw,if_true];refine .inl (h1 ρ (· <s.H.length) (ag s.H) w a _ Q (fun x _=>e.tmps.eval x) e.mem (fun _ _=>⟨rfl,id⟩) (fun b y z (A:b<s.H.length)=>by omega) ?_);intro ρ' w' r g1 g2 g3 g4;obtain⟨k1,k2⟩:=Jm (m:=m) e g v g1 g2 g3 g4;refine KI (a:=a) (w:=w) (ρ:=ρ) l os _ K d (fun o p=>f o (by simp[p])) h2 ρ' _ w' k1 k2.1 fun a' q ⟨s',ρ'',B,C,D⟩=>j a' q ⟨s',ρ'',B,C,k2.trans D⟩
theorem Il {m0:Nat}{ρ:Nat->Nat×Nat}{s:St}{a:Act}{w:World}{tit:Tmp}(l:RelSt ρ n s a w)(O:m0<=s.H.length)(J:tit<n)(o:Obj):
  let ρ1:=fun k=>if k=s.H.length then(w.heap.size,0) else ρ k
  let s1:St:=⟨putS s.t (some tit) (.ptr s.H.length 0),s.H++[none]⟩
  RelSt ρ1 n s1 (a.put (some tit) (.pointer (some ⟨w.heap.size,0,none⟩))) (w.alloc o)/\Step m0 ρ s w ρ1 s1 (w.alloc o):=by
 intro ρ1 s1;have I:s1.H.length=s.H.length+1:=by simp[s1]
 have d:∀ b B,ag s1.H b=some B->ag s.H b=some B/\b<s.H.length:=fun b B c=>by
  have c:((s.H++[none])[b]?).join=some B:=c;by_cases x:b<s.H.length
  ·rw[gh x] at c;exact⟨c,x⟩
  ·rw[dL aa] at c;by_cases y:b-s.H.length=0
   ·rw[y] at c;simp at c
   ·rw[gi (by simp;omega)] at c;simp at c
 have j:∀ b,b<s.H.length->ρ1 b=ρ b:=fun b x=>if_neg aa
 have f:Lasts w (w.alloc o):=Ct w _;have hold:∀ r,r<w.heap.size->(w.alloc o).heap[r]?=w.heap[r]?:=fun r h=>Below.heap_alloc w _ r h
 have p:(w.alloc o).heap.size=w.heap.size+1:=Array.size_push ..;have q:∀ b B,ag s.H b=some B->∀ i,(w.alloc o).cell? ⟨(ρ b).1,i,none⟩=w.cell? ⟨(ρ b).1,i,none⟩:=fun b B c i=>World.cell?_of_block (hold _ (l.mem.lt b B c))
 have u:∀ b B,ag s.H b=some B->∀ i,(w.alloc o).frozen? ⟨(ρ b).1,i,none⟩=w.frozen? ⟨(ρ b).1,i,none⟩:=fun b B c i=>World.frozen?_of_block (hold _ (l.mem.lt b B c))
 have g:∀ b,b<s.H.length->b<s1.H.length:=fun b x=>by omega
 refine⟨⟨?_,?_⟩,⟨aa,fun b x=>j b aa,?_⟩⟩
 ·refine RelT.put (l.tmps.mono j g f) (show fV n (some tit) from J) ?_;unfold VR;refine⟨aa,?_⟩;show _=Value.pointer (some ⟨(ρ1 s.H.length).1,(ρ1 s.H.length).2+0,none⟩);have e:ρ1 s.H.length=(w.heap.size,0):=if_pos rfl;rw[e]
 ·refine⟨fun b B c=>g b (d b B c).2,fun b B c=>?_,fun b z B B' c A C D=>?_,fun b B c i v K=>?_,fun b B c E i L=>?_,fun b B mm c F=>?_⟩
  ·obtain⟨h1,h2⟩:=d b B c;rw[j b h2,p];have :=l.mem.lt b B h1;omega
  ·obtain⟨h1,h2⟩:=d b B c;obtain⟨M,N⟩:=d z B' A;rw[j b h2,j z N];exact l.mem.inj b z B B' h1 M C D
  ·obtain⟨h1,h2⟩:=d b B c;obtain⟨r,g1,g2⟩:=l.mem.cell b B h1 i v K;exact⟨r,by rw[j b h2,q b B h1];exact g1,g2.mono j g f⟩
  ·obtain⟨h1,h2⟩:=d b B c;rw[j b h2,u b B h1];exact l.mem.free b B h1 E i L
  ·obtain⟨h1,h2⟩:=d b B c;rw[j b h2];exact nf (l.mem.mapc b B mm h1 F) (hold _ (l.mem.lt b B h1))
 ·refine⟨rfl,rfl,rfl,aa,fun r G _=>hold r G,f,fun b B c E=>?_⟩;obtain⟨h1,h2⟩:=d b B c;exact .inl ⟨b,B,h1,E,by rw[j b h2]⟩
structure Beside (o:Obj) (b:Nat) (w0:World) (ρ:Nat->Nat×Nat) (s:St) (w:World):Prop where
 lt:b<s.H.length
 zero:(ρ b).2=0
 young:w0.heap.size<=(ρ b).1
 here:w.heap[(ρ b).1]?=some o
 own:∀ b' B,ag s.H b'=some B->B.ro=false->(ρ b').1≠(ρ b).1
theorem Beside.step {o:Obj}{b:Nat}{w0 w w':World}{ρ ρ':Nat->Nat×Nat}{s s':St}(h:Beside o b w0 ρ s w)(k:Step m ρ s w ρ' s' w')(j:b<m):Beside o b w0 ρ' s' w':=by
 obtain⟨k1,k2,i⟩:=k;have e:=k2 b j;have c:(ρ b).1<w.heap.size:=(Em.1 h.here).1;refine⟨aa,by rw[e];exact h.zero,by rw[e];exact h.young,?_,?_⟩
 ·rw[e,i.keep _ c (fun d B h1 h2=>h.own d B h1 h2)];exact h.here
 ·intro d B l f;rw[e];rcases i.own d B l f with⟨p,B0,g1,g2,g3⟩|g
  ·rw[<-g3];exact h.own p B0 g1 g2
  ·omega
def eX (bm since:Nat)(seen:List Nat)(c0:Nat):Obj:= .mapIter (some bm) since seen.toArray c0
section
variable {a:Act}{w w0:World}{ρ:Nat->Nat×Nat}{s:St}{k bm since c0 bm' since' c0':Nat}{seen seen':List Nat}
theorem RelSt.turnIt (f:RelSt ρ n s a w)(h:w.heap[k]?=some (eX bm since seen c0))(o:Obj):RelSt ρ n s a (setBlock w k o):=by
 have q:Lasts w (setBlock w k o):=AQ h rfl;have d:∀ b B (i:Nat) v,ag s.H b=some B->B.cs[i]?=some v->(ρ b).1≠k:=fun b B i v c j e=>by
  obtain⟨r,g1,_⟩:=f.mem.cell b B c i v j;rw[e,J9 h rfl] at g1;cases g1
 refine⟨f.tmps.mono (fun _ _=>rfl) (fun _ h=>h) q,f.mem.has,fun b B c=>by rw[yO];exact f.mem.lt b B c,f.mem.inj,
  fun b B c i v j=>?_,fun b B c l i t=>?_,fun b B mm c p=>?_⟩
 ·obtain⟨r,g1,g2⟩:=f.mem.cell b B c i v j;exact⟨r,by rw[World.cell?_of_block (w:=w) (ni w o (d b B i v c j))];exact g1,g2.mono (fun _ _=>rfl) (fun _ h=>h) q⟩
 ·rw[World.frozen?_of_block (w:=w) (ni w o (d b B i _ c (aF t)))];exact f.mem.free b B c l i t
 ·have g:=f.mem.mapc b B mm c p;cases hc:B.cs with
  |nil=>
   rw[hc] at g;change w.heap[(ρ b).1]?=_ at g;have d:(ρ b).1≠k:=fun e=>by obtain⟨es,u,l⟩:=mm.obj_is;rw[e,h,l] at g;cases g
   show(setBlock w k o).heap[(ρ b).1]?=_;rw[ni w o d];exact g
  |cons x cs=>
   rw[hc] at g;exact nf (cs:=x::cs) g (ni w o (d b B 0 x c (by rw[hc];rfl)))
theorem Step.turnIt {m0:Nat}{ρ0:Nat->Nat×Nat}{s0:St}(h:Step m0 ρ0 s0 w0 ρ s w)(b:w.heap[k]?=some (eX bm since seen c0))(e:w0.heap.size<=k)(o:Obj):Step m0 ρ0 s0 w0 ρ s (setBlock w k o):=
 ⟨h.1,h.2.1,h.2.2.os,h.2.2.output,h.2.2.tape,by rw[yO];exact h.2.2.size,
  fun r c d=>by rw[ni w o aa];exact h.2.2.keep r c d,
  h.2.2.lasts.trans (AQ b rfl),h.2.2.own⟩
theorem RelSt.drew (b:RelSt ρ n s a w):RelSt ρ n s a w.drew:=
 ⟨b.tmps.mono (fun _ _=>rfl) (fun _ h=>h) (Alike.drew w).lasts,b.mem.alike (Alike.drew w)⟩
theorem Step.drew {m0:Nat}{ρ0:Nat->Nat×Nat}{s0:St}(h:Step m0 ρ0 s0 w0 ρ s w):Step m0 ρ0 s0 w0 ρ s w.drew:=
 ⟨h.1,h.2.1,h.2.2.os,h.2.2.output,h.2.2.tape,h.2.2.size,h.2.2.keep,h.2.2.lasts,h.2.2.own⟩
end
end
theorem uq {P:Program}{m n:Nat}{c:Code}{Q:Exit->St->Prop}{s s1:St}(h:GS P m n c Q s1)(hw:Weak m n s s1):GS P m n c Q s:=fun ρ a w b d=>by
 obtain⟨ρ1,h1,h2⟩:=hw.go ρ a w b d;refine wp_mono (h ρ1 a w h1 h2.1) ?_;rintro e a' w' ⟨s',ρ',f,g,i⟩;exact⟨s',ρ',f,g,h2.trans i⟩
theorem pH {P:Program}{n:Nat}{ops:Array Oper}{l:List Oper}{s:St}{K:St->Prop}(h:fY P 0 n (fun _ s=>K s) l ops [] s):cM P n ops l s K:=h
theorem yn {P:Program}{f:FuncId}{fn:Func}{c:Code}{args:List V}{h h':List (Option Blk)}{v:V}(F:P.funcs[f]?=some fn)(o:fn.body=some c)(K:args.length<=fn.ntmps)
  (G:GS P h.length fn.ntmps c (eW P fn (Fin h.length v h')) ⟨gU args 0,h⟩):aq P f args h v h':=by
 intro ρ w d B H;have u:=B.length;refine calls_of_wp F o (wp_mono (G ρ _ w ⟨⟨?_,rfl,fun t=>?_⟩,H⟩ (aH _)) ?_)
 ·have :d.size=args.length:=by simpa using u
  simp;omega
 ·show VR _ _ _ (aj (gU args 0) t) _;rw[Er];split
  ·rename_i L;obtain⟨r,g1,g2⟩:=B.get (i:=t) (v:=args.getD t .junk) (by rw[aW,aF aa];rfl);have x:t<d.size:=by simpa using(ca.1 g1).1
   simp only[Nat.sub_zero];have :(d++Array.replicate (fn.ntmps-d.size) undef).getD t undef=r:=by
    rw[lY,wG x];have :d[t]?=some r:=by rw[<-g1];simp
    rw[this];rfl
   rw[this];exact g2
  ·unfold VR;trivial
 ·rintro e a' w' ⟨s',ρ',y,p,z⟩;have fin:(eg P s' fn.results.toList fun l=>Fin h.length v h' (eL l) s')->∃ r,(results fn a'.tmps).run P w'= .ok r w'/\(∃ C ρ',Ending.returned r= .returned C/\VR ρ' (· <h'.length) w' v C/\MemRel ρ' (· <h'.length) (ag h') w'/\h.length<=h'.length/\(∀ b,b<h.length->ρ' b=ρ b)/\Frame ρ (ag h) w ρ' (ag h') w'):=fun q=>by
   obtain⟨M,r,g1,g2,g3⟩:=Ir p q;obtain⟨ρ2,k1,k2,I,J⟩:=g1.2 ρ' w' r g2 p.mem z.1;exact⟨r,g3,r,ρ2,rfl,k1,k2,g1.1,fun b o=>(I b o).trans (z.2.1 b o),z.2.2.less J⟩
  cases e
  case normal=>exact⟨p.tmps.defers,fin y⟩
  case ret=>exact⟨p.tmps.defers,fin y⟩
  all_goals exact y.elim
end
section
open Go Go.RowKit
open Go.ChangeMaps (setBlock)
section
variable {P:Program}{m n:Nat}
theorem aak {w:World}{t k e:TypeId}{r:Nat}{c:MapC}(b:c.plain)(d:P.underlying t=some (.map k e))(a:w.heap[r]?=some c.obj):
  (Instr.range t (.map (some r))).run P w= .ok (.pointer (some ⟨w.heap.size,0,none⟩)) (w.alloc (eX r c.clock [] c.clock)):=by
 rw[MapC.obj_plain b] at a;exact run_range_map w t k e r _ c.clock d a
theorem Ph {w:World}{ty:TypeId}{r b since c0:Nat}{seen:List Nat}{c:MapC}(j:c.plain)(k:w.heap[r]?=some (eX b since seen c0))(i:w.heap[b]?=some c.obj)(hold:∀ e∈c.es,e.1<since)(d:since<=c0):
  ((∀ e∈c.es,e.1∈seen)/\(Instr.next (.pointer (some ⟨r,0,none⟩)) false ty).run P w= .ok (.tuple #[.bool false]) w)\/
  ∃ e∈c.es,e.1∉seen/\∃ w1:World,(w1=w\/w1=w.drew)/\(Instr.next (.pointer (some ⟨r,0,none⟩)) false ty).run P w= .ok (.tuple #[.bool true,(du e).key,(du e).val]) (setBlock w1 r (eX b since (seen++[e.1]) c.clock)):=by
 rw[MapC.obj_plain j] at i;rcases run_next_at w ty r b since c0 seen.toArray _ c.clock k i (by
  intro x f;have f:x∈c.es.map du:=f;obtain⟨e,a,rfl⟩:=cD.1 f;exact hold e a) d with⟨h1,h2⟩|⟨l,a,w1,h1,h2⟩
 ·refine .inl ⟨fun e a=>?_,h2⟩;have :=all_seen _ _ h1 (du e) (show du e∈c.es.map du from cD.2 ⟨e,a,rfl⟩);simpa [du] using this
 ·obtain⟨g,o⟩:=mem_left a;have g:l∈c.es.map du:=g;obtain⟨e,h,rfl⟩:=cD.1 g;refine .inr ⟨e,h,by simpa [du] using o,w1,h1,?_⟩;rw[h2];unfold eX;simp[du]
theorem aen {w:World}{r b since:Nat}{seen:List Nat}{c:MapC}{e:Nat×BitVec 32×Int}(d:c.plain)(f:w.heap[r]?=some (eX b since (seen++[e.1]) c.clock))(a:w.heap[b]?=some c.obj)(g:e∈c.es)(h:(c.es.map (·.1)).Nodup):
  (Instr.entry (.pointer (some ⟨r,0,none⟩))).run P w= .ok (.tuple #[(du e).key,(du e).val]) w:=by
 rw[MapC.obj_plain d] at a;refine run_entry_at w r b since seen.toArray _ c.clock (du e) ?_ a (show du e∈c.es.map du from cD.2 ⟨e,g,rfl⟩) ?_
 ·rw[f];unfold eX;simp[du]
 ·have :(c.es.map du).toArray.toList.map (·.born)=c.es.map (·.1):=by
   simp only[kH];exact mX fun _ _=>rfl
  rw[this];exact h
theorem AN {m1 id:Nat}{o:Oper}{os:List Oper}{ops:Array Oper}{f:Tmp}{v:V}{r:Value}{s:St}{a:Act}{w w':World}{ρ:Nat->Nat×Nat}{K:St->Prop}{Q:Exit->Act->World->Prop}
  (b:ops.toList=o::os) (p:o.guard=none) (q:o.dst=some f) (g:(execOp a.eval o).run P w= .ok (.value r) w')
  (t:RelSt ρ n (s.put (some f) v) (a.put (some f) r) w') (u:m1<=s.H.length) (x:cM P n ops os (s.put (some f) v) K)
  (y:∀ a' c s' ρ',K s'->RelSt ρ' n s' a' c->Step m1 ρ (s.put (some f) v) w' ρ' s' c->Q .normal a' c):(Code.region id ops false).wp P Q a w:=by
 refine wp_region ?_;have j:ops.size=os.length+1:=by rw[<-xv,b];rfl
 rw[j,List.range_succ_eq_map];have h0:ops[0]?=some o:=by rw[<-Array.getElem?_toList,b];rfl
 have e:Region.wanted o (yielded ops a.tmps)=true:=by unfold Region.wanted;rw[p]
 simp only[wpOps,h0,e,if_true];refine .inl ?_;unfold Oper.wp;rw[g,Oper.upon_value,q];refine xg (m:=m1) (List.map Nat.succ (List.range os.length)) os _ K ?_ x ρ _ w' t u ?_
 ·refine qM fun i=>?_
  simp only[ci];by_cases k:i<os.length
  ·have :ops[i+1]?=os[i]?:=by rw[<-Array.getElem?_toList,b];rfl
   simp[k,this]
  ·rw[gi (by simp;omega),gi aa];rfl
 ·rintro a' c ⟨s',ρ',z,B,C⟩;exact y a' c s' ρ' z B C
theorem FD (hmix:P.follows .mixedOrders=true){rid r3 r7 C b1:Nat}{ops r:Array Oper}{pre os7:List Oper}{R D o4 o5:Oper}{tz tit S tok te:Tmp}{ty k e:TypeId}{g:Code}{s S1:St}{bm:Nat}{K:St->Prop}{Q:Exit->St->Prop}
  (I:List Nat->Prop) (J:List Nat->St) (M:List Nat->MapC) (μ:List Nat->Nat)
  (u:ops=(pre++[R]).toArray) (hgp:∀ o∈pre,o.guard=none) (hp:cM P n ops pre s (fun s1=>s1=S1)) (ht:S1.get tz= .map bm) (hM0:ag S1.H bm=some ⟨false,[],some (M [])⟩)
  (h2:R.op= .range ty (.tmp tz)) (g2:R.guard=none) (d2:R.dst=some tit) (z2:tit<n) (hty:P.underlying ty=some (.map k e))
  (h3:D.op= .next (.tmp tit) false) (g3:D.guard=none) (d3:D.dst=some S) (z3:S<n)
  (T:r.toList=o5::os7) (h5:o5.op= .entry (.tmp tit)) (g5:o5.guard=none) (d5:o5.dst=some te) (z5:te<n)
  (hI0:I []) (hI:∀ seen,I seen->(∀ e∈(M seen).es,e.1<(M []).clock)/\((M seen).es.map (·.1)).Nodup/\(M []).clock<=(M seen).clock)
  (U:∀ seen,I seen->(M seen).plain)
  (hJm:∀ seen,I seen->ag (J seen).H bm=some ⟨false,[],some (M seen)⟩)
  (hJ0:Weak (max m (S1.H.length+1)) n ⟨putS S1.t (some tit) (.ptr S1.H.length 0),S1.H++[none]⟩ (J []))
  (hJt:∀ seen,(J seen).get tit= .ptr S1.H.length 0)
  (hend:∀ seen,I seen->(∀ e∈(M seen).es,e.1∈seen)->cM P n #[D,o4] [o4] ((J seen).put (some S) (.tup [.bool false])) fun s'=>s'.get tok= .bool false/\K s')
  (hgo:∀ seen e,I seen->e∈(M seen).es->e.1∉seen->I (seen++[e.1])/\μ (seen++[e.1])<μ seen/\
   cM P n #[D,o4] [o4] ((J seen).put (some S) (.tup [.bool true,.u32 e.2.1,.i64 e.2.2])) fun s'=>s'.get tok= .bool true/\s'.get tit= .ptr S1.H.length 0/\ag s'.H bm=some ⟨false,[],some (M seen)⟩/\
    cM P n r os7 (s'.put (some te) (.tup [.u32 e.2.1,.i64 e.2.2])) fun s2=>vc P (max m (S1.H.length+1)) n g (mu b1 (fun x s''=>x= .normal/\Weak (max m (S1.H.length+1)) n s'' (J (seen++[e.1])))) s2):
  GS P m n (.seq (.region rid ops false) (.block C (.loop (.seq (.region r3 #[D,o4] false) (.seq (.cond (.tmp tok) .skip (.exit C)) (.block b1 (.seq (.region r7 r false) g))))))) (jH K Q) s:=by
 intro ρ a w hr hm;refine wp_seq (wp_region ?_);have hsz:ops.size=pre.length+1:=by rw[u];simp
 rw[hsz,List.range_succ];refine KI (m:=m) (a:=a) (w:=w) (ρ:=ρ) (List.range pre.length) pre s (fun s1=>s1=S1) ?_ hgp hp ρ a w hr hm ?_
 ·refine qM fun i=>?_
  simp only[ci];by_cases hi:i<pre.length
  ·have :ops[i]?=pre[i]?:=by rw[u];simp[gh hi]
   simp[hi,this]
  ·rw[gi (by simp;omega),gi aa];rfl
 rintro a1 w1 ⟨s1,ρ1,rfl,E,p⟩;have V:=E.tmps.slot tz;rw[ht] at V;unfold VR at V;obtain⟨hbl,hz⟩:=V;have hmp:w1.heap[(ρ1 bm).1]?=some (M []).obj:=E.mem.mapc bm _ _ hM0 rfl;have ho2:ops[pre.length]?=some R:=by rw[u];simp
 have w2:Region.wanted R (yielded ops a1.tmps)=true:=by unfold Region.wanted;rw[g2]
 have k2:(execOp a1.eval R).run P w1= .ok (.value (.pointer (some ⟨w1.heap.size,0,none⟩))) (w1.alloc (eX (ρ1 bm).1 (M []).clock [] (M []).clock)):=by
  unfold execOp;rw[h2];simp only[Act.eval,hz,Sem.run_bind,aak (U _ hI0) hty hmp,Result.andThen_ok,Sem.run_pure]
 simp only[wpOps,ho2,w2,if_true];refine .inl ?_;unfold Oper.wp;rw[k2,Oper.upon_value,d2];obtain⟨i1,i2⟩:=Il (m0:=m) (tit:=tit) E p.1 z2 (eX (ρ1 bm).1 (M []).clock [] (M []).clock);have i3:Beside (eX (ρ1 bm).1 (M []).clock [] (M []).clock) s1.H.length w (fun k=>if k=s1.H.length then(w1.heap.size,0) else ρ1 k) ⟨putS s1.t (some tit) (.ptr s1.H.length 0),s1.H++[none]⟩ (w1.alloc (eX (ρ1 bm).1 (M []).clock [] (M []).clock)):=by
  refine⟨ae,by rw[if_pos rfl],by rw[if_pos rfl];exact p.2.2.size,by rw[if_pos rfl];exact heap_alloc_new w1 _,fun b B F ho=>?_⟩;rw[if_pos rfl];have F:((s1.H++[none])[b]?).join=some B:=F;by_cases hb:b<s1.H.length
  ·rw[gh hb] at F;have :=E.mem.lt b B F;rw[if_neg aa];omega
  ·rw[dL aa] at F;by_cases hb2:b-s1.H.length=0
   ·rw[hb2] at F;simp at F
   ·rw[gi (by simp;omega)] at F;simp at F
 have ebm:(fun k=>if k=s1.H.length then(w1.heap.size,0) else ρ1 k) bm=ρ1 bm:=if_neg aa;have i2:=p.trans i2;have hm1:=p.1;obtain⟨ρ2,j1,Z⟩:=hJ0.go _ _ _ i1 (by simp;omega);have i4:=i3.step Z aa;have eb2:ρ2 bm=ρ1 bm:=(Z.2.1 bm aa).trans ebm;have i4:Beside (eX (ρ2 bm).1 (M []).clock [] (M []).clock) s1.H.length w ρ2 (J []) (w1.alloc (eX (ρ1 bm).1 (M []).clock [] (M []).clock)):=by rw[eb2];exact i4
 have j3:Step m ρ s w ρ2 (J []) (w1.alloc (eX (ρ1 bm).1 (M []).clock [] (M []).clock)):=i2.trans ⟨by have :=Z.1;omega,fun x hx=>Z.2.1 x aa,Z.2.2⟩;have j4:max m (s1.H.length+1)<=(J []).H.length:=Z.1;refine wp_block ?_;refine DW (fun k a5 G=>∃ seen ρ5 c0,μ seen=k/\I seen/\(M []).clock<=c0/\RelSt ρ5 n (J seen) a5 G/\Step m ρ s w ρ5 (J seen) G/\Beside (eX (ρ5 bm).1 (M []).clock seen c0) s1.H.length w ρ5 (J seen) G/\max m (s1.H.length+1)<=(J seen).H.length) (k0:=μ []) ⟨[],ρ2,(M []).clock,rfl,hI0,aH _,j1,j3,i4,j4⟩ ?_;rintro k a5 G ⟨seen,ρ5,c0,rfl,q,hc0,r1,r2,d,r4⟩;obtain⟨hold,hnd,hcl⟩:=hI seen q;have hmap:G.heap[(ρ5 bm).1]?=some (M seen).obj:=r1.mem.mapc bm _ _ (hJm seen q) rfl;have j:=r1.tmps.slot tit;rw[hJt seen] at j;unfold VR at j;obtain⟨_,j⟩:=j;rw[d.zero,cw] at j;rcases Ph (P:=P) (ty:=D.type) (U _ q) d.here hmap hold hc0 with⟨hall,y⟩|⟨e,he,hns,w6,W,y⟩
 ·
  have hex:(execOp a5.eval D).run P G= .ok (.value (.tuple #[.bool false])) G:=by
   unfold execOp;rw[h3];simp only[Act.eval,j,Sem.run_bind,y,Result.andThen_ok,Sem.run_pure]
  refine wp_seq (AN (m1:=max m (s1.H.length+1)) (v:= .tup [.bool false]) rfl g3 d3 hex ⟨RelT.put r1.tmps (show fV n (some S) from z3) (by unfold VR;exact⟨_,rfl,VRs.cons (by unfold VR;rfl) VRs.nil⟩),r1.mem⟩ r4 (hend seen q hall) ?_);rintro a2 f s2 ρ3 ⟨q0,q1⟩ L N;have l:=L.tmps.slot tok;rw[q0] at l;unfold VR at l;show Code.wp P _ _ a2 f;refine wp_seq (wp_cond_split l (fun hT=>by cases hT) fun _=>?_);refine wp_exit ?_;show Exit.inBlock C (yE m n ρ s w (jH K Q)) (.exit C) a2 f;simp only[Exit.inBlock,if_true];have q4:Step m ρ5 (J seen) G ρ3 s2 f:=⟨by have :=N.1;omega,fun x hx=>N.2.1 x aa,N.2.2⟩;exact⟨s2,ρ3,q1,L,r2.trans q4⟩
 ·
  obtain⟨hI2,hμ,hvo⟩:=hgo seen e q he hns;have hex:(execOp a5.eval D).run P G= .ok (.value (.tuple #[.bool true,(du e).key,(du e).val])) (setBlock w6 (ρ5 s1.H.length).1 (eX (ρ5 bm).1 (M []).clock (seen++[e.1]) (M seen).clock)):=by
   unfold execOp;rw[h3];simp only[Act.eval,j,Sem.run_bind,y,Result.andThen_ok,Sem.run_pure]
  have r1':RelSt ρ5 n (J seen) a5 w6:=by rcases W with rfl|rfl;exact r1;exact r1.drew
  have r2':Step m ρ s w ρ5 (J seen) w6:=by rcases W with rfl|rfl;exact r2;exact r2.drew
  have X:w6.heap[(ρ5 s1.H.length).1]?=some (eX (ρ5 bm).1 (M []).clock seen c0):=by rcases W with rfl|rfl<;>exact d.here
  have t1:=r1'.turnIt X (eX (ρ5 bm).1 (M []).clock (seen++[e.1]) (M seen).clock);have t2:=r2'.turnIt X d.young (eX (ρ5 bm).1 (M []).clock (seen++[e.1]) (M seen).clock);have hlt6:=(Em.1 X).1;have t3:Beside (eX (ρ5 bm).1 (M []).clock (seen++[e.1]) (M seen).clock) s1.H.length w ρ5 ((J seen).put (some S) (.tup [.bool true,.u32 e.2.1,.i64 e.2.2])) (setBlock w6 (ρ5 s1.H.length).1 (eX (ρ5 bm).1 (M []).clock (seen++[e.1]) (M seen).clock)):=
   ⟨d.lt,d.zero,d.young,by rw[CU,if_pos rfl,if_pos hlt6],d.own⟩
  generalize hw7:setBlock w6 (ρ5 s1.H.length).1 (eX (ρ5 bm).1 (M []).clock (seen++[e.1]) (M seen).clock)=w7 at t1 t2 t3 hex;refine wp_seq (AN (m1:=max m (s1.H.length+1)) (v:= .tup [.bool true,.u32 e.2.1,.i64 e.2.2]) rfl g3 d3 hex ⟨RelT.put t1.tmps (show fV n (some S) from z3) (by unfold VR;exact⟨_,rfl,VRs.cons (by unfold VR;rfl) (VRs.cons (by unfold VR;rfl) (VRs.cons (by unfold VR;rfl) VRs.nil))⟩),t1.mem⟩ r4 hvo ?_);rintro a2 f s2 ρ3 ⟨q0,q1,q5,q6⟩ L N;have l:=L.tmps.slot tok;rw[q0] at l;unfold VR at l;have t4:=t3.step N aa;have eb3:ρ3 bm=ρ5 bm:=N.2.1 bm aa;show Code.wp P _ _ a2 f;refine wp_seq (wp_cond_split l (fun _=>?_) (fun hF=>by cases hF));refine wp_skip ?_;show Code.wp P _ _ a2 f;refine wp_block ?_;have Y:=L.mem.mapc bm _ _ q5 rfl;have c:=L.tmps.slot tit;rw[q1] at c;unfold VR at c;obtain⟨_,c⟩:=c;rw[t4.zero,cw] at c;have hen:(execOp a2.eval o5).run P f= .ok (.value (.tuple #[(du e).key,(du e).val])) f:=by
   unfold execOp;rw[h5];have hh:=t4.here;rw[<-eb3] at hh;simp only[Act.eval,c,Sem.run_bind,aen (U _ q) hh Y he hnd,Result.andThen_ok,Sem.run_pure]
  refine wp_seq (AN (m1:=max m (s1.H.length+1)) (v:= .tup [.u32 e.2.1,.i64 e.2.2]) T g5 d5 hen ⟨RelT.put L.tmps (show fV n (some te) from z5) (by unfold VR;exact⟨_,rfl,VRs.cons (by unfold VR;rfl) (VRs.cons (by unfold VR;rfl) VRs.nil)⟩),L.mem⟩ N.1 q6 ?_);intro a3 w3 s3 ρ4 u1 u2 u3;have t5:Step (max m (s1.H.length+1)) ρ5 (J seen) w7 ρ4 s3 w3:=N.trans u3;have t6:Beside (eX (ρ5 bm).1 (M []).clock (seen++[e.1]) (M seen).clock) s1.H.length w ρ4 s3 w3:=t4.step u3 aa;refine wp_mono (nz hmix g _ s3 u1 ρ4 a3 w3 u2 u3.1) ?_;rintro z a4 w4 ⟨s4,ρ6,v1,v2,v3⟩;have fin:(Weak (max m (s1.H.length+1)) n s4 (J (seen++[e.1])))->∃ k',k'<μ seen/\∃ seen ρ5 c0,μ seen=k'/\I seen/\(M []).clock<=c0/\RelSt ρ5 n (J seen) a4 w4/\Step m ρ s w ρ5 (J seen) w4/\Beside (eX (ρ5 bm).1 (M []).clock seen c0) s1.H.length w ρ5 (J seen) w4/\max m (s1.H.length+1)<=(J seen).H.length:=fun hw=>by
   obtain⟨ρ7,x1,x2⟩:=hw.go ρ6 a4 w4 v2 v3.1;have x3:=t5.trans (v3.trans x2);have x4:=t6.step (v3.trans x2) aa;have x5:ρ7 bm=ρ5 bm:=x3.2.1 bm aa;rw[<-x5] at x4;refine⟨_,hμ,_,ρ7,(M seen).clock,rfl,hI2,hcl,x1,t2.trans ⟨by have :=x3.1;omega,fun x hx=>x3.2.1 x aa,x3.2.2⟩,x4,x3.1⟩
  cases z
  case normal=>exact fin v1.2
  case exit i=>
   simp only[mu] at v1;simp only[Exit.inBlock];split at v1
   ·rename_i h;rw[if_pos h];exact fin v1.2
   ·exact absurd v1.1 ae
  all_goals exact absurd v1.1 ae
end
end
theorem aaG:eL []= .tup []:=rfl
attribute [go_sem] and_true true_and and_self Nat.succ_ne_self decide_true decide_false ct Nat.one_ne_zero Nat.zero_ne_one Nat.not_lt_zero Nat.zero_lt_succ ge_iff_le gt_iff_lt decide_eq_true_eq cf rv yT ce ig Int.natCast_zero bN cO iw ff fO uc jA qx ov o8 qJ false_implies implies_true rX Option.bind_some iI yo cj ez iK jC List.drop_nil List.take_nil qj V.u8.injEq exists_eq' Nat.zero_mul Nat.one_mul cw Nat.mul_one iQ cT Int.cast_ofNat_Int ne_eq not_true_eq_false not_false_eq_true aY aE br bU gv vG vw az jI qY Bool.true_and Bool.false_and Bool.and_true Bool.and_false Bool.true_or Bool.false_or Bool.or_true Bool.or_false oA decide_eq_false_iff_not beq_self_eq_true o0 aH cC Blk.mk.injEq
attribute [simp] aaG adn oZ FL IT rens V.ren af V.low Ko IU Kw J8 Ie EY wQ lR Jg IG lV kS Li EH GO C4 Jh Iz
section
section
variable {P:Program}{m n:Nat}{R:Exit->St->Prop}{k:List Fr}{s:St}{l:List Oper}{ops:Array Oper}{dst:Option Tmp}
theorem MU (t:TypeId)(r:Option Operand):dk P m n R (.makeMap t r) dst l ops k s=eH P m n R (bP P (.makeMap t r) s.ev (ag s.H) s.H.length) dst l ops k s:=rfl
theorem ado (t:TypeId)(x y:Operand)(b:Bool):dk P m n R (.lookup t x y b) dst l ops k s=eH P m n R (bP P (.lookup t x y b) s.ev (ag s.H) s.H.length) dst l ops k s:=rfl
theorem OD (t:TypeId)(x y z:Operand):dk P m n R (.mapUpdate t x y z) dst l ops k s=eH P m n R (bP P (.mapUpdate t x y z) s.ev (ag s.H) s.H.length) dst l ops k s:=rfl
end
theorem Wj (b:Nat):V.one (.map b)=true:=rfl
attribute [go_sem] MU ado OD Wj
theorem adB {P:Program}{m n:Nat}{c:Code}{Q Q':Exit->St->Prop}{s:St}(h:GS P m n c Q s)(b:∀ e s',Q e s'->Q' e s'):GS P m n c Q' s:=fun ρ a w d f=>by
 refine wp_mono (h ρ a w d f) ?_;rintro e a' w' ⟨s',ρ',g,i,j⟩;exact⟨s',ρ',b e s' g,i,j⟩
theorem uA {α β:Type}{f:α->β}:∀ {l:List α},(l.map f).Nodup->∀ {x y:α},x∈l->y∈l->f x=f y->x=y
 |[],_,x,_,b,_,_=>by cases b
 |a::l,h,x,y,b,c,e=>by
  have h':f a∉l.map f/\(l.map f).Nodup:=tG.1 h;rcases cQ.1 b with h1|h1<;>rcases cQ.1 c with h2|h2
  ·rw[h1,h2]
  ·exact absurd (cD.2 ⟨y,h2,by rw[<-e,h1]⟩) h'.1
  ·exact absurd (cD.2 ⟨x,h1,by rw[e,h2]⟩) h'.1
  ·exact uA h'.2 h1 h2 e
structure MapC.ok (m:MapC):Prop where
 stamps:(m.es.map (·.1)).Nodup
 below:∀ e∈m.es,e.1<m.clock
 keys:(m.es.map (·.2.1)).Nodup
theorem KY (k:BitVec 32):∀ (l:List (Nat×BitVec 32×Int)),(l.map (·.2.1)).Nodup->mD k l=l.filter fun e=>! decide (e.2.1=k)
 |[],_=>rfl
 |e::l,h=>by
  have h':e.2.1∉l.map (·.2.1)/\(l.map (·.2.1)).Nodup:=tG.1 h;unfold mD;rw[vg];by_cases a:e.2.1=k
  ·rw[if_pos a,decide_eq_true a];simp only[jI,ct,if_false];refine(List.filter_eq_self.2 fun x b=>?_).symm;have :x.2.1≠k:=fun c=>h'.1 (cD.2 ⟨x,b,c.trans a.symm⟩)
   simp[this]
  ·rw[if_neg a,decide_eq_false a];simp only[qY,if_true];rw[KY k l h'.2]
theorem DO (k:BitVec 32)(n:Int):∀ (l:List (Nat×BitVec 32×Int)),(l.map (·.2.1)).Nodup->jf k n l=l.map fun e=>if e.2.1=k then(e.1,k,n) else e
 |[],_=>rfl
 |e::l,h=>by
  have h':e.2.1∉l.map (·.2.1)/\(l.map (·.2.1)).Nodup:=tG.1 h;unfold jf;rw[bN];by_cases a:e.2.1=k
  ·rw[if_pos a,if_pos a];congr 1
   conv=>lhs;rw[<-tK l]
   refine mX fun x b=>?_
   have :x.2.1≠k:=fun c=>h'.1 (cD.2 ⟨x,b,c.trans a.symm⟩)
   rw[if_neg this];rfl
  ·rw[if_neg a,if_neg a,DO k n l h'.2]
theorem Ef {k:BitVec 32}{n:Int}{s:Nat}:∀ {l:List (Nat×BitVec 32×Int)},(l.map (·.2.1)).Nodup->(s,k,n)∈l->bB k l=some n
 |[],_,h=>by cases h
 |e::l,h,a=>by
  have h':e.2.1∉l.map (·.2.1)/\(l.map (·.2.1)).Nodup:=tG.1 h;unfold bB;rcases cQ.1 a with rfl|a
  ·rw[if_pos rfl]
  ·rw[if_neg (fun b=>h'.1 (cD.2 ⟨_,a,b.symm⟩)),Ef h'.2 a]
def jx (drop:Int->Bool)(l:List (Nat×BitVec 32×Int))(seen:List Nat):List (Nat×BitVec 32×Int):=l.filter fun e=>!(seen.contains e.1&&drop e.2.2)
theorem Yq (drop:Int->Bool)(l:List (Nat×BitVec 32×Int)):jx drop l []=l:=by
 unfold jx;simp
theorem ae0 {drop:Int->Bool}{m:MapC}(b:m.ok){seen:List Nat}{e:Nat×BitVec 32×Int}(f:e∈m.es)(g:e.1∉seen):
  jx drop m.es (seen++[e.1])=if drop e.2.2=true then mD e.2.1 (jx drop m.es seen) else jx drop m.es seen:=by
 have i:((jx drop m.es seen).map (·.2.1)).Nodup:=yI (Ar _ AF) b.keys;rw[KY _ _ i];unfold jx;by_cases c:drop e.2.2=true
 ·rw[if_pos c,List.filter_filter];refine Eh fun x d=>?_
  by_cases a:x=e
  ·subst a;simp[c]
  ·have h1:x.1≠e.1:=fun h=>a (uA b.stamps d f h)
   have h2:x.2.1≠e.2.1:=fun h=>a (uA b.keys d f h)
   simp[h1,h2]
 ·rw[if_neg c];refine Eh fun x d=>?_
  by_cases a:x=e
  ·subst a;simp[c,g]
  ·have h1:x.1≠e.1:=fun h=>a (uA b.stamps d f h)
   simp[h1]
theorem QJ {drop:Int->Bool}{l:List (Nat×BitVec 32×Int)}{seen:List Nat}(h:∀ e∈jx drop l seen,e.1∈seen):jx drop l seen=l.filter fun e=>! drop e.2.2:=by
 unfold jx at*;refine Eh fun x b=>?_
 by_cases a:x.1∈seen
 ·simp[a]
 ·have :x∈l.filter fun e=>!(seen.contains e.1&&drop e.2.2):=kz.2 ⟨b,by simp[a]⟩
  exact absurd (h x this) a
def oJ (l:List (Nat×BitVec 32×Int))(seen:List Nat):Nat:=(l.filter fun e=>! seen.contains e.1).length
theorem Jt {l:List (Nat×BitVec 32×Int)}{seen:List Nat}{e:Nat×BitVec 32×Int}(a:e∈l)(b:e.1∉seen):oJ l (seen++[e.1])<oJ l seen:=by
 have key:∀ (l:List (Nat×BitVec 32×Int)),oJ l (seen++[e.1])<=oJ l seen:=fun l=>by
  induction l with
  |nil=>exact aH _
  |cons x l ih=>
   unfold oJ at*;simp only[vg];by_cases h1:x.1∈seen<;>by_cases h2:x.1=e.1<;>simp[h1,h2] at ih |-<;>first|omega |(rw[h2] at h1;simp[h1];omega)|skip
   all_goals simp_all
   all_goals omega
 induction l with
 |nil=>cases a
 |cons x l ih=>
  have c:=key l;rcases cQ.1 a with rfl|a
  ·unfold oJ at*;simp only[vg];simp[b] at c |-
   omega
  ·have :=ih a;unfold oJ at*;simp only[vg];by_cases h1:x.1∈seen<;>by_cases h2:x.1=e.1
   ·simp[h1];simpa using this
   ·simp[h1];simpa using this
   ·simp[h2,b];simp at this;omega
   ·simp[h1,h2];simpa using this
end
section
def yK (m:MapC):Prop:=m.ok/\∀ e∈m.es,0<=e.2.2/\e.2.2<=100
section
variable {H:List (Option Blk)}{b c:Nat}{cs:List V}
theorem Sane.put (h:Sane H)(d:af H.length cs){m:Option MapC}:Sane (H.set b (some ⟨false,cs,m⟩)):=fun c B a=>by
 rw[aY];by_cases e:b=c
 ·subst e;by_cases f:b<H.length
  ·rw[bG f] at a;cases a;exact⟨d,rfl⟩
  ·have :=aU a;rw[aY] at this;omega
 ·rw[bW (fun g=>e g)] at a;exact h c B a
theorem Sane.cut (h:Sane H):Sane (H.set b none):=fun c B a=>by
 rw[aY];by_cases e:b=c
 ·subst e;by_cases d:b<H.length
  ·rw[bG d] at a;cases a
  ·have :=aU a;rw[aY] at this;omega
 ·rw[bW (fun f=>e f)] at a;exact h c B a
theorem Sane.app1 (h:Sane H)(f:af (H.length+1) cs){m:Option MapC}:Sane (H++[some ⟨false,cs,m⟩]):=fun c B d=>by
 have a:(H++[some (⟨false,cs,m⟩:Blk)]).length=H.length+1:=ae;rw[a];have e:=aU d;rw[a] at e;by_cases g:c<H.length
 ·rw[cz g] at d;exact⟨ma aa _ (h c B d).1,(h c B d).2⟩
 ·obtain rfl:c=H.length:=aa;rw[kj] at d;cases d;exact⟨f,rfl⟩
def cutH (a:Option Nat)(H:List (Option Blk)):List (Option Blk):=match a with
 |some x=>H.set x none
 |none=>H
end
end
section
def memH (sg:List Nat)(H h':List (Option Blk)):List (Option Blk):=
 cK H (cR (aw (bd sg H.length h')) sg h')++dQ (aw (bd sg H.length h')) sg h'
section
variable {sg:List Nat}{H h':List (Option Blk)}
theorem pP:(memH sg H h').length=H.length+(h'.length-sg.length):=by
 unfold memH;rw[aE,eT,pd,ba,bU]
theorem Ab {b:Nat}(a:b<H.length)(c:b∉sg):ag (memH sg H h') b=ag H b:=by
 unfold memH;rw[cz (by rw[eT];exact a),oT _ _ _ a,tM c]
theorem uL {i nid:Nat}(a:i<sg.length):aw (bd sg nid h') i=aw sg i:=uf a
theorem pU {i nid:Nat}(h1:sg.length<=i)(h2:i<h'.length):aw (bd sg nid h') i=nid+(i-sg.length):=sY h1 aa
theorem zS (a:sg.Nodup)(c:∀ b∈sg,b<H.length){i:Nat}(d:i<h'.length):
  ag (memH sg H h') (aw (bd sg H.length h') i)=dx (aw (bd sg H.length h')) (ag h' i):=by
 by_cases e:i<sg.length
 ·rw[uL e];have g:=mv e;have j:=c _ (kP g);unfold memH;rw[cz (by rw[eT];exact j),oT _ _ _ j,xy a g d];unfold ag;rfl
 ·rw[pU aa d];unfold memH ag;rw[dL (by rw[eT];omega),eT,pd,ci,il,show sg.length+(H.length+(i-sg.length)-H.length)=i by omega];cases h'[i]?<;>rfl
end
section
variable {P:Program}{m n:Nat}{R:Exit->St->Prop}{k:List Fr}{s:St}{l:List Oper}{ops:Array Oper}{dst:Option Tmp}
variable {f:FuncId}{fs cs args args0:List V}{v:V}{h h':List (Option Blk)}
end
end
section
section
variable {P:Program}{m n:Nat}{R:Exit->St->Prop}{k:List Fr}{l:List Oper}{ops:Array Oper}{dst:Option Tmp}
variable {f:FuncId}{fs cs args args0:List V}{v:V}{H H0 H':List (Option Blk)}{W W2:Nat->Prop}{b a:Nat}{vs ds:List V}
theorem Ek (t:List (Nat×V))(d:Nat)(v:V):putS t (some d) v=(d,v)::t:=rfl
theorem BU (t:List (Nat×V))(v:V):putS t none v=t:=rfl
attribute [go_sem] Ek BU
def RoK (H0 H:List (Option Blk)):Prop:=∀ b B,ag H b=some B->B.ro=true->b<H0.length/\ag H0 b=some B
theorem RoK.refl (H:List (Option Blk)):RoK H H:=fun _ _ h _=>⟨aU h,h⟩
theorem RoK.trans (h:RoK H0 H)(k:RoK H H'):RoK H0 H':=fun b B e r=>h b B (k b B e r).2 r
theorem RoK.put (h:RoK H0 H){b:Nat}{cs:List V}{m:Option MapC}:RoK H0 (H.set b (some ⟨false,cs,m⟩)):=fun c B e r=>by
 by_cases hc:b=c
 ·subst hc;by_cases d:b<H.length
  ·rw[bG d] at e;cases e;cases r
  ·have :=aU e;rw[aY] at this;omega
 ·rw[bW hc] at e;exact h c B e r
theorem RoK.cut (h:RoK H0 H){b:Nat}:RoK H0 (H.set b none):=fun c B e r=>by
 by_cases hc:b=c
 ·subst hc;by_cases d:b<H.length
  ·rw[bG d] at e;cases e
  ·have :=aU e;rw[aY] at this;omega
 ·rw[bW hc] at e;exact h c B e r
theorem RoK.app (h:RoK H0 H){cs:List V}{m:Option MapC}:RoK H0 (H++[some ⟨false,cs,m⟩]):=fun c B e r=>by
 have d:=aU e;by_cases g:c<H.length
 ·rw[cz g] at e;exact h c B e r
 ·obtain rfl:c=H.length:=by rw[aE] at d;simp at d;omega
  rw[kj] at e;cases e;cases r
theorem RoK.cutH (h:RoK H0 H)(a:Option Nat):RoK H0 (cutH a H):=by
 cases a with
 |none=>exact h
 |some x=>exact h.cut
open Classical in
noncomputable def nE (W:Nat->Prop) (n:Nat):List Nat:=(List.range n).filter fun b=>decide (W b)
theorem xj {b n:Nat}:b∈nE W n↔b<n/\W b:=by unfold nE;simp
theorem qa {h h':List (Option Blk)}(G:aq P f args h v h')(sg:List Nat)(o:sg.length=h.length)(p:af h.length args)(x:sg.Nodup)(q:∀ b∈sg,b<H.length)
  (s:∀ b B,ag h b=some B->ag H (aw sg b)=some ⟨B.ro,rens (aw sg) B.cs,B.mp⟩/\af h.length B.cs) (y:∀ b B,ag h' b=some B->(h.length<=b\/ag h b=none)->B.ro=false) (z:h.length<=h'.length):
  aq P f (rens (aw sg) args) H (v.ren (aw (bd sg H.length h'))) (memH sg H h'):=by
 have I:=C5 (get0:=ag H) (nid:=H.length) G o p x q s y z;intro ρ w i J K;refine(I ρ (· <H.length) (ag H) w i K J (fun b d=>⟨rfl,id⟩) (fun b h1 _ (h2:b<H.length)=>by omega)).mono ?_;rintro e w' ⟨r,ρ',h1,h2,A,F,C⟩;have D:(dQ (aw (bd sg H.length h')) sg h').length=h'.length-sg.length:=by rw[pd,ba,bU]
 have c:(memH sg H h').length=H.length+(h'.length-sg.length):=pP;have g:∀ b,cU (· <H.length) H.length (dQ (aw (bd sg H.length h')) sg h').length b->b<(memH sg H h').length:=fun b d=>by
  rw[c];rw[D] at d;rcases d with d|⟨_,d⟩<;>omega
 have t:∀ b,bZ (ag H) (cR (aw (bd sg H.length h')) sg h') H.length (dQ (aw (bd sg H.length h')) sg h') b=ag (memH sg H h') b:=fun b=>by
  unfold bZ memH;by_cases d:b<H.length
  ·rw[if_neg aa,cz (by rw[eT];exact d),oT _ _ _ d]
  ·have L:ag (cK H (cR (aw (bd sg H.length h')) sg h')++dQ (aw (bd sg H.length h')) sg h') b=(dQ (aw (bd sg H.length h')) sg h')[b-H.length]?.join:=by
    unfold ag;rw[dL (by rw[eT];omega),eT]
   rw[L];by_cases M:b<H.length+(dQ (aw (bd sg H.length h')) sg h').length
   ·rw[if_pos ⟨aa,M⟩]
   ·rw[if_neg aa,gi aa];have u:b∉sg:=fun E=>d (q b E)
    rw[tM u,aai aa];rfl
 have j:=funext t;simp only at A F C;rw[j] at A C;exact⟨r,ρ',h1,F.mono (fun _ _=>rfl) g (Lasts.refl w'),A.monoDom g,by rw[c];omega,h2,C⟩
theorem GV {cs1 cs2:List V}(s:aq P f (.ptr 0 0::args) [bK cs1] v [bK cs2])(p:ag H b=bK cs1)(t:∀ σ,rens σ args=args)(i:∀ n,af n args)(h1:∀ σ,rens σ cs1=cs1)(j:∀ n,af n cs1)(h2:∀ σ,rens σ cs2=cs2)(u:∀ σ,v.ren σ=v):
  aq P f (.ptr b 0::args) H v (H.set b (bK cs2)):=by
 have o:=aU p;have h:=qa (H:=H) s [b] rfl ⟨Nat.one_pos,i 1⟩ ae (fun c hc=>by rw[lh.1 hc];exact o) (fun c B e=>by
  match c with
  |0=>
   have w:bK cs1=some B:=e;cases w;exact⟨by rw[h1];exact p,j _⟩
  |c+1=>simp[ag] at e) (fun c B e hc=>by
  have :=aU e
  match c with
  |0=>rcases hc with hc|hc<;>simp[ag] at hc
  |c+1=>simp[ag] at e) (aH _)
 have x:rens (aw [b]) (.ptr 0 0::args)= .ptr b 0::args:=by
  unfold rens V.ren;rw[t];rfl
 have y:memH [b] H [bK cs2]=H.set b (bK cs2):=by
  unfold memH;simp[cR,dQ,cK,dx,Blk.ren,h2]
 rw[x,y,u] at h;exact h
end
end
section
open Go Go.RowKit
structure Emb (sg:List Nat) (h H:List (Option Blk)):Prop where
 len:sg.length=h.length
 nd:sg.Nodup
 lt:∀ b∈sg,b<H.length
 blk:∀ b B,ag h b=some B->ag H (aw sg b)=some ⟨B.ro,rens (aw sg) B.cs,B.mp⟩/\af h.length B.cs
structure Nxt (h h':List (Option Blk)):Prop where
 le:h.length<=h'.length
 ro:∀ b B,ag h' b=some B->(h.length<=b\/ag h b=none)->B.ro=false
 sane:∀ b B,ag h' b=some B->af h'.length B.cs
section
variable {sg sg1 sg2:List Nat}{h h' h1 h2 h1' H H':List (Option Blk)}{P:Program}{m n:Nat}{R:Exit->St->Prop}{k:List Fr}{l:List Oper}{ops:Array Oper}{dst:Option Tmp}{f:FuncId}{args args0:List V}{v v':V}{t:List (Nat×V)}
theorem Emb.mem (a:Emb sg h H){i:Nat}(b:i<h.length):aw sg i∈sg:=kP (mv (by rw[a.len];exact b))
theorem Emb.ltOf (a:Emb sg h H){i:Nat}(b:i<h.length):aw sg i<H.length:=a.lt _ (a.mem b)
theorem Kq {b N:Nat}(a:b∈bd sg N h'):b∈sg\/(N<=b/\b<N+(h'.length-sg.length)):=by
 rcases eB.1 a with a|a
 ·exact .inl a
 ·rw[qf] at a;exact .inr a
theorem Emb.call (c:Emb sg h H)(g:Nxt h h'):Emb (bd sg H.length h') h' (memH sg H h'):=by
 have o:=c.len;have i:=g.le;refine⟨?_,?_,fun b d=>?_,fun b B e=>⟨?_,g.sane b B e⟩⟩
 ·unfold bd;rw[aE,List.length_range'];omega
 ·unfold bd;refine CK.2 ⟨c.nd,List.nodup_range',fun a j b d e=>?_⟩;have :=c.lt a j;rw[qf] at d;omega
 ·rw[pP];rcases Kq d with d|d
  ·have :=c.lt b d;omega
  ·omega
 ·have :=zS (sg:=sg) (H:=H) (h':=h') c.nd c.lt (aU e);rw[e] at this;exact this
theorem Yg {N:Nat}(h0:0<sg.length):aw (bd sg N h') 0=aw sg 0:=uL h0
theorem Emb.stay (c:Emb sg h H)(d:H.length<=H'.length)(g:∀ i B,ag h i=some B->ag H' (aw sg i)=ag H (aw sg i)):Emb sg h H':=
 ⟨c.len,c.nd,fun b j=>mw (c.lt b j) d,fun b B e=>⟨(g b B e).trans (c.blk b B e).1,(c.blk b B e).2⟩⟩
end
end
section
def mQ (σ:Nat->Nat):List Nat->List (Option Blk)->List (Option Blk)->List (Nat×Option Blk)
 |i::sg,some _::h,x::h'=>(i,dx σ x)::mQ σ sg h h'
 |_::sg,none::h,_::h'=>mQ σ sg h h'
 |_,_,_=>[]
section
variable {P:Program}{f:FuncId}{args:List V}{h h':List (Option Blk)}{v:V}{sg:List Nat}{get0:Nat->Option Blk}{nid:Nat}
end
section
variable {P:Program}{m n:Nat}{R:Exit->St->Prop}{k:List Fr}{s:St}{l:List Oper}{ops:Array Oper}{dst:Option Tmp}
variable {f:FuncId}{fs cs args args0:List V}{v:V}{h h':List (Option Blk)}
def TV (sg:List Nat)(nid:Nat)(v:V)(h h':List (Option Blk)):Res:={v:=v.ren (aw (bd sg nid h')),pre:=True,fp:=sg,old:=mQ (aw (bd sg nid h')) sg h h',news:=dQ (aw (bd sg nid h')) sg h'}
end
theorem XN (σ:Nat->Nat)(i:Nat)(sg:List Nat)(B:Blk)(h:List (Option Blk))(x:Option Blk)(h':List (Option Blk)):mQ σ (i::sg) (some B::h) (x::h')=(i,dx σ x)::mQ σ sg h h':=by rw[mQ]
theorem aeN (σ:Nat->Nat)(i:Nat)(sg:List Nat)(h:List (Option Blk))(x:Option Blk)(h':List (Option Blk)):mQ σ (i::sg) (none::h) (x::h')=mQ σ sg h h':=by rw[mQ]
theorem WS (σ:Nat->Nat)(h h':List (Option Blk)):mQ σ [] h h'=[]:=by unfold mQ;rfl
attribute [go_sem] TV XN aeN WS
end
section
section
variable {P:Program}{m n:Nat}{R:Exit->St->Prop}{k:List Fr}{s:St}{l:List Oper}{ops:Array Oper}{dst:Option Tmp}
variable {f:FuncId}{fs cs args args0:List V}{v:V}{h h':List (Option Blk)}
end
end
section
open Go Go.RowKit
mutual
theorem V.low_ren {σ:Nat->Nat}{n m:Nat}(h:∀ b,b<n->σ b<m):∀ (v:V),v.low n->(v.ren σ).low m
 | .junk,_| .bool _,_| .u8 _,_| .u32 _,_| .u64 _,_| .i64 _,_| .i32 _,_| .str _,_| .nilPtr,_| .nilSlice,_| .nilFn,_| .nilIface,_=>by unfold V.ren V.low;trivial
 | .aFn _ _ v,hb=>by unfold V.low at hb;unfold V.ren V.low;exact V.low_ren h v hb
 | .ptr b _,hb=>by unfold V.low at hb;unfold V.ren V.low;exact h b hb
 | .map b,hb=>by unfold V.low at hb;unfold V.ren V.low;exact h b hb
 | .slice b _ _ _,hb=>by unfold V.low at hb;unfold V.ren V.low;exact h b hb
 | .fn _ fs cs,hb=>by unfold V.low at hb;unfold V.ren V.low;exact⟨u7 h fs hb.1,u7 h cs hb.2⟩
 | .agg cs,hb=>by unfold V.low at hb;unfold V.ren V.low;exact u7 h cs hb
 | .tup cs,hb=>by unfold V.low at hb;unfold V.ren V.low;exact u7 h cs hb
 | .iface _ v,hb=>by unfold V.low at hb;unfold V.ren V.low;exact V.low_ren h v hb
theorem u7 {σ:Nat->Nat}{n m:Nat}(h:∀ b,b<n->σ b<m):∀ (l:List V),af n l->af m (rens σ l)
 |[],_=>by unfold rens;trivial
 |v::l,hb=>by unfold af at hb;unfold rens;exact⟨V.low_ren h v hb.1,u7 h l hb.2⟩
end
section
variable {sg ix:List Nat}{h h' d d' H H':List (Option Blk)}{P:Program}{f:FuncId}{args:List V}{v:V}
structure Dv (d:List (Option Blk)):Prop where
 rw_:∀ b B,ag d b=some B->B.ro=false
 sane:∀ b B,ag d b=some B->af d.length B.cs
 pos:0<d.length
theorem Sane.memH (p:Sane H)(a:Emb sg d H)(o:Nxt d d'):Sane (memH sg H d'):=fun b B e=>by
 have w:=a.len;have q:=o.le;have g:=aU e;rw[pP] at g;refine⟨?_,rfl⟩;rw[pP];have r:∀ j,j<d'.length->aw (bd sg H.length d') j<H.length+(d'.length-sg.length):=fun j s=>by
  by_cases k:j<sg.length
  ·rw[uL k];have :=a.ltOf (i:=j) aa;omega
  ·rw[pU aa s];omega
 by_cases l:b<H.length/\b∉sg
 ·rw[Ab l.1 l.2] at e;exact ma aa _ (p b B e).1
 ·obtain⟨i,c,rfl⟩:∃ i,i<d'.length/\aw (bd sg H.length d') i=b:=by
   by_cases m:b<H.length
   ·have t:b∈sg:=pX fun u=>l ⟨m,u⟩
    obtain⟨i,c,rfl⟩:=mK t;exact⟨i,aa,by rw[uL c];unfold aw;rw[aW,aF c];rfl⟩
   ·exact⟨sg.length+(b-H.length),aa,by rw[pU aa aa];omega⟩
  rw[zS a.nd a.lt c] at e;cases n:ag d' i with
  |none=>rw[n] at e;cases e
  |some C=>
   rw[n] at e;cases e;exact u7 r _ (o.sane i C n)
theorem L5 (g:Emb sg d H)(m:Nxt d d'){b:Nat}{B:Blk}(e:ag (memH sg H d') b=some B):(ag H b=some B/\b∉sg/\b<H.length)\/∃ i C,ag d' i=some C/\B=C.ren (aw (bd sg H.length d')):=by
 have q:=g.len;have n:=m.le;have j:=aU e;rw[pP] at j;by_cases a:b<H.length/\b∉sg
 ·rw[Ab a.1 a.2] at e;exact .inl ⟨e,a.2,a.1⟩
 ·obtain⟨i,c,rfl⟩:∃ i,i<d'.length/\aw (bd sg H.length d') i=b:=by
   by_cases k:b<H.length
   ·have o:b∈sg:=pX fun p=>a ⟨k,p⟩
    obtain⟨i,c,rfl⟩:=mK o;exact⟨i,aa,by rw[uL c];unfold aw;rw[aW,aF c];rfl⟩
   ·exact⟨sg.length+(b-H.length),aa,by rw[pU aa aa];omega⟩
  rw[zS g.nd g.lt c] at e;cases l:ag d' i with
  |none=>rw[l] at e;cases e
  |some C=>
   rw[l] at e;cases e;exact .inr ⟨i,C,l,rfl⟩
end
end
section
section
variable {H:List (Option Blk)}{b:Nat}
end
end
section
section
variable {P:Program}{f:FuncId}{args:List V}{v:V}{H H0 H':List (Option Blk)}{W:Nat->Prop}{b:Nat}{cs1 cs2:List V}
theorem lI {b:Nat}{X:List (Option Blk)}(h:b<H.length):ag (H++X) b=ag H b:=cz h X
theorem m7 {b:Nat}{X Y:List (Option Blk)}(h:b<H.length):ag (H++X++Y) b=ag H b:=by rw[cz (by rw[aE];omega),cz h]
theorem ub {b:Nat}{X Y Z:List (Option Blk)}(h:b<H.length):ag (H++X++Y++Z) b=ag H b:=by rw[cz (by rw[aE,aE];omega),m7 h]
theorem eY {x:Option Blk}:ag (H++[x]) H.length=x:=kj H x []
theorem yx {x:Option Blk}{Y:List (Option Blk)}:ag (H++[x]++Y) H.length=x:=by rw[cz ae];exact eY
theorem Cu {x:Option Blk}{Y Z:List (Option Blk)}:ag (H++[x]++Y++Z) H.length=x:=by rw[cz ae];exact yx
theorem BY {x y:Option Blk}:ag (H++[x]++[y]) (H.length+1)=y:=by
 have h:=eY (H:=H++[x]) (x:=y);rw[aE] at h;exact h
theorem LA {x y:Option Blk}{Z:List (Option Blk)}:ag (H++[x]++[y]++Z) (H.length+1)=y:=by rw[cz ae];exact BY
theorem zj {x y z:Option Blk}:ag (H++[x]++[y]++[z]) (H.length+2)=z:=by
 have h:=eY (H:=H++[x]++[y]) (x:=z);rw[aE,aE] at h;exact h
attribute [go_sem] eY yx Cu BY LA zj
end
end
section
section
variable {cs ds:List V}{n m i:Nat}
end
section
variable {H H0:List (Option Blk)}{W:Nat->Prop}{b:Nat}{vs:List V}
end
end
def rB (a:Nat->Nat):List (List Nat×List Nat)->List (List Nat×List Nat)->Prop
 |[],[]=>True
 |x::l,y::l'=>((∀ b∈x.1,a b∈y.1)/\(∀ b∈x.2,a b∈y.2))/\rB a l l'
 |_,_=>False
theorem He {c:Nat->Nat}:∀ {l l':List (List Nat×List Nat)},rB c l l'->∀ (i:Nat) x,l[i]?=some x->∃ y,l'[i]?=some y/\(∀ b∈x.1,c b∈y.1)/\(∀ b∈x.2,c b∈y.2)
 |[],[],_,i,x,h=>by simp at h
 |x::l,y::l',h,0,z,a=>by simp at a;subst a;exact⟨y,rfl,h.1⟩
 |x::l,y::l',h,i+1,z,a=>by simpa using He h.2 i z (by simpa using a)
 |[],_::_,h,_,_,_=>h.elim
 |_::_,[],h,_,_,_=>h.elim
theorem ES {c:Nat->Nat}{a b a' d:List Nat}(e:∀ x∈a,c x∈a')(f:∀ x∈b,c x∈d)(h:meets a' d=false):meets a b=false:=by
 unfold meets at*;rw[List.any_eq_false] at h |-
 intro x g hc;refine h (c x) (e x g) ?_;rw[List.contains_iff_mem] at hc |-
 exact f x hc
theorem QX {ops:Array Oper}{o i:Oper}{a:Nat->Nat}{e c f d:List Nat×List Nat}(h1:∀ b∈e.1,a b∈f.1)(h2:∀ b∈e.2,a b∈f.2)(k:∀ b∈c.1,a b∈d.1)(j:∀ b∈c.2,a b∈d.2)
  (h:jy ops o i f d=true):jy ops o i e c=true:=by
 unfold jy at*;simp only[ic,oA] at h |-
 obtain⟨⟨⟨l,a2⟩,a3⟩,a4⟩:=h;refine⟨⟨⟨l,a2⟩,ES h2 (fun x g=>?_) a3⟩,ES j (fun x g=>?_) a4⟩
 ·rcases eB.1 g with h|h
  ·exact eB.2 (.inl (k x h))
  ·exact eB.2 (.inr (j x h))
 ·rcases eB.1 g with h|h
  ·exact eB.2 (.inl (h1 x h))
  ·exact eB.2 (.inr (h2 x h))
theorem eC {ops:Array Oper}{tr:List (List Nat×List Nat)}(f:Nat->Nat)(a:List (List Nat×List Nat))(h:iA ops a=true)(k:rB f tr a):iA ops tr=true:=by
 unfold iA at*;simp only[mW] at h |-
 have up:∀ (x:Oper×(List Nat×List Nat)) (j:Nat),(x,j)∈(ops.toList.zip tr).zipIdx->∃ y,(∀ b∈x.2.1,f b∈y.1)/\(∀ b∈x.2.2,f b∈y.2)/\((x.1,y),j)∈(ops.toList.zip a).zipIdx:=fun x j c=>by
  rw[A6] at c;simp only at c;rw[CX] at c;obtain⟨h1,h2⟩:=c;obtain⟨y,g1,g2,g3⟩:=He k j x.2 h2;refine⟨y,g2,g3,?_⟩;rw[A6];simp only;rw[CX];exact⟨h1,g1⟩
 rintro⟨x,j⟩ c;obtain⟨y,l,a2,a3⟩:=up x j c;have g:=h _ a3;simp only[ic] at g |-
 refine⟨g.1,?_⟩;have e:=g.2;rw[mW] at e |-
 rintro⟨z,i⟩ m;obtain⟨u,n,o,p⟩:=up z i m;have d:=e _ p;simp only[zF] at d |-
 rcases d with d|d
 ·exact .inl d
 ·exact .inr (QX n o l a2 d)
def u6 (N x:Nat):Nat:=if x<N then 0 else x-N+1
theorem V4 {N x:Nat}(h:x<N):u6 N x=0:=if_pos h
theorem RD (N:Nat):u6 N N=1:=by unfold u6;rw[if_neg (Nat.lt_irrefl N)];omega
theorem My (N k:Nat):u6 N (N+k)=k+1:=by unfold u6;rw[if_neg aa];omega
theorem JO (a:Nat->Nat):∀ (tr:List (List Nat×List Nat)),rB a tr (tr.map fun e=>(e.1.map a,e.2.map a))
 |[]=>trivial
 |e::tr=>⟨⟨fun b c=>cD.2 ⟨b,c,rfl⟩,fun b c=>cD.2 ⟨b,c,rfl⟩⟩,JO a tr⟩
theorem We {ops:Array Oper}{tr a:List (List Nat×List Nat)}(b:Nat->Nat)(h:iA ops a=true)(c:(tr.map fun e=>(e.1.map b,e.2.map b))=a):iA ops tr=true:=
 eC b a h (by rw[<-c];exact JO b tr)
def fw (N x:Nat):Nat:=if x<N then 0 else 1
theorem dU {N x:Nat}(h:x<N):fw N x=0:=if_pos h
theorem rG (N:Nat):fw N N=1:=if_neg (Nat.lt_irrefl N)
theorem DD (N k:Nat):fw N (N+k)=1:=if_neg aa
theorem mz (N:Nat)(l:List Nat):(∀ b∈l,fw N b∈[0,1])=True:=eq_true fun b _=>by unfold fw;split <;>simp
theorem w8 (N k:Nat):(∀ b∈List.range' N k,fw N b∈[1])=True:=eq_true fun b a=>by
 rw[qf] at a;unfold fw;rw[if_neg aa];simp
theorem YT (N a b:Nat):fw N (N+a+b)=1:=if_neg aa
theorem eO (a:Nat->Nat)(x y:List Nat×List Nat)(l l':List (List Nat×List Nat)):rB a (x::l) (y::l')=(((∀ b∈x.1,a b∈y.1)/\(∀ b∈x.2,a b∈y.2))/\rB a l l'):=rfl
theorem eG (a:Nat->Nat):rB a [] []=True:=rfl
theorem bh (Q:Nat->Prop):(∀ b∈([]:List Nat),Q b)=True:=ae
theorem all_cons (a:Nat)(l:List Nat)(Q:Nat->Prop):(∀ b∈a::l,Q b)=(Q a/\∀ b∈l,Q b):=ae
theorem fC (l:List Nat):(0∈0::l)=True:=ae
theorem MQ:(1∈[0,1])=True:=ae
theorem kN:(1∈[1])=True:=ae
def iD (d N x:Nat):Nat:=if x=d then 2 else if x<N then 0 else 1
theorem wx (d N:Nat):iD d N d=2:=if_pos rfl
theorem om {d N x:Nat}(h:x<N)(a:x≠d):iD d N x=0:=by unfold iD;rw[if_neg a,if_pos h]
theorem CN {d N k:Nat}(h:d<N):iD d N (N+k)=1:=by unfold iD;rw[if_neg aa,if_neg aa]
theorem CT {d N:Nat}(h:d<N):iD d N N=1:=by unfold iD;rw[if_neg aa,if_neg aa]
theorem aas (d N:Nat)(l:List Nat):(∀ b∈l,iD d N b∈[0,1,2])=True:=eq_true fun b _=>by unfold iD;split <;>(try split)<;>simp
theorem yU (a:Nat):(2∈[a,2])=True:=ae
section
section
variable {H H0:List (Option Blk)}{W:Nat->Prop}{d m n:Nat}{cs:List V}
variable {here:BitVec 32}{own pub seed:List ai}{best:Int}{fresh:BitVec 64}{secret:List ai}{index:BitVec 32}{firsts now:Int}{busy:Bool}{peers:V}{paths bucket:Nat}{out got out' got':V}
theorem sa {b a:Nat}{X Y:List (Option Blk)}{x:Option Blk}(h:b<H.length)(c:a≠b):ag ((H++X).set a x++Y) b=ag H b:=by
 rw[cz (by rw[aY,aE];omega),bW c,cz h]
end
end
section
section
variable {P:Program}{m n N k:Nat}{R:Exit->St->Prop}{ks:List Fr}{l:List Oper}{ops:Array Oper}{dst:Option Tmp}{t:List (Nat×V)}
variable {f:FuncId}{args:List V}{H H0:List (Option Blk)}{W:Nat->Prop}{b:Nat}{bs cs:List ai}
theorem lc {c:Nat}{x y:Option Blk}(h:c<H.length):ag ((H++[x]).set H.length y) c=ag H c:=by rw[bW aa,cz h]
theorem lF {x y:Option Blk}:ag ((H++[x]).set H.length y) H.length=y:=bG ae _
theorem wT (N:Nat)(l:List ai):af N (l.map .u8):=by
 induction l with
 |nil=>trivial
 |cons x l ih=>exact⟨trivial,ih⟩
theorem Js (σ:Nat->Nat)(l:List ai):rens σ (l.map .u8)=l.map .u8:=by
 induction l with
 |nil=>unfold rens;rfl
 |cons x l ih=>rw[bN];unfold rens V.ren;rw[ih]
theorem Jd {h':List (Option Blk)}(e:aq P f (.slice 0 0 N 1::args) [bK (bs.map .u8)] (.slice 1 0 k 1) [none,bK (cs.map .u8)])(a:∀ σ,rens σ args=args)(c:af 1 args)(d:ag H b=bK (bs.map .u8)):
  rens (aw [b]) (.slice 0 0 N 1::args)= .slice b 0 N 1::args/\iB (aw [b]) 1 ⟨t,H⟩ [bK (bs.map .u8)] 0/\memH [b] H [none,bK (cs.map .u8)]=H.set b none++[bK (cs.map .u8)]:=by
 refine⟨?_,⟨⟨?_,wT _ _⟩,trivial⟩,?_⟩
 ·unfold rens V.ren;rw[a];rfl
 ·show ag H b=_;rw[d];show _=some (Blk.mk _ (rens _ _) _);rw[Js]
 ·unfold memH;simp only[cR,dQ,cK,dx,qx,jA,bN,cO,Blk.ren,Js]
theorem KO (b:Nat)(x y:Option Blk):aw (bd [b] N [x,y]) 1=N:=by
 rw[pU ae ae];simp
variable {v v':V}{ds:List V}
theorem zD (c:aq P f args [] v [bK ds])(d:∀ σ,rens σ args=args)(a:af 0 args)(g:∀ σ,rens σ ds=ds)(i:∀ σ:Nat->Nat,σ 0=H.length->v.ren σ=v'):aq P f args H v' (H++[bK ds]):=by
 have h:=qa (H:=H) c [] rfl a ae ae (fun b B e=>by simp[ag] at e) (fun b B e _=>by
  match b with
  |0=>have j:bK ds=some B:=e;cases j;rfl
  |b+1=>simp[ag] at e) (fg _)
 have h0:aw (bd [] H.length [bK ds]) 0=H.length:=by rw[pU ae ae];simp
 rw[d,i _ h0] at h;have e:memH [] H [bK ds]=H++[bK ds]:=by simp[memH,cR,dQ,cK,dx,Blk.ren,g]
 rw[e] at h;exact h
end
end
section
open Go Go.RowKit
inductive Rl where
 |link|nodes|air
 |node (j:Nat)|all (j:Nat)
 |dev (j:Nat)|parr (j:Nat)|out (j:Nat)|got (j:Nat)|bk (j:Nat)|bm (j:Nat)|path (j:Nat)
 |peer (j i:Nat)|tm (j i:Nat)|wt (j i:Nat)|bg (j i:Nat)|ses (j i:Nat)|pair (j i a:Nat)|win (j i a:Nat)
abbrev RK:=Nat->Option Rl
def cV (K:RK)(b:Nat)(r:Option Rl):RK:=fun x=>if x=b then r else K x
def fQ (a:Option Nat)(K:RK):RK:=match a with
 |none=>K
 |some x=>cV K x none
structure Cx (K0:RK) (H0:List (Option Blk)) (Q:Rl->Prop) (K:RK) (H:List (Option Blk)):Prop where
 len:H0.length<=H.length
 keep:∀ b,b<H0.length->(∀ r,K0 b=some r->¬ Q r)->ag H b=ag H0 b
 stay:∀ b r,K0 b=some r->¬ Q r->K b=some r
 kin:∀ b r,b<H0.length->K b=some r->∃ r0,K0 b=some r0/\(r0=r\/(Q r0/\Q r))
 ro:RoK H0 H
 sane:Sane H
 fresh:∀ b,H.length<=b->K b=none
 old:∀ b r,K0 b=some r->b<H0.length
section
variable {K K0 K':RK}{H H0 H':List (Option Blk)}{vs ds zs ys:List V}{b c n m:Nat}{r:Rl}{Q Q2:Rl->Prop}{o:Option Rl}
theorem gB:cV K b o b=o:=if_pos rfl
theorem dW (h:c≠b):cV K b o c=K c:=if_neg h
theorem EP {a:Option Nat}(h:∀ x,a=some x->b≠x):fQ a K b=K b:=by
 cases a with
 |none=>rfl
 |some x=>exact dW (h x rfl)
theorem Fq {a:Option Nat}(h:fQ a K b=some r):K b=some r/\∀ x,a=some x->b≠x:=by
 cases a with
 |none=>exact⟨h,fun _ e=>by cases e⟩
 |some x=>
  by_cases e:b=x
  ·subst e;have d:fQ (some b) K b=none:=gB;rw[d] at h;cases h
  ·have g:fQ (some x) K b=K b:=dW e;rw[g] at h;exact⟨h,fun y i=>by cases i;exact e⟩
theorem sL {a:Option Nat}:(cutH a H).length=H.length:=by cases a<;>simp[cutH]
theorem UL {a:Option Nat}(h:∀ x,a=some x->b≠x):ag (cutH a H) b=ag H b:=by
 cases a with
 |none=>rfl
 |some x=>exact bW (fun e=>h x rfl e.symm) _
theorem Sane.cutO (h:Sane H)(a:Option Nat):Sane (cutH a H):=by
 cases a with
 |none=>exact h
 |some x=>exact h.cut
theorem Cx.refl (d:Sane H)(a:∀ b,H.length<=b->K b=none)(Q:Rl->Prop):Cx K H Q K H:=⟨aH _,fun _ _ _=>rfl,fun _ _ e _=>e,fun b r _ e=>⟨r,e,.inl rfl⟩,.refl H,d,a,fun b r e=>pX fun g=>by rw[a b aa] at e;cases e⟩
theorem Cx.start (h:Cx K0 H0 Q K H)(Q2:Rl->Prop):Cx K H Q2 K H:= .refl h.sane h.fresh _
theorem Cx.lt (h:Cx K0 H0 Q K H)(a:K b=some r):b<H.length:=pX fun d=>by rw[h.fresh b aa] at a;cases a
theorem Cx.mono (h:Cx K0 H0 Q K H)(a:∀ r,Q r->Q2 r):Cx K0 H0 Q2 K H:=
 ⟨h.len,fun b d g=>h.keep b d fun r e i=>g r e (a r i),fun b r e g=>h.stay b r e fun i=>g (a r i),fun b r d e=>by
  obtain⟨j,h1,h2⟩:=h.kin b r d e;exact⟨j,h1,h2.imp id fun h=>⟨a _ h.1,a _ h.2⟩⟩,h.ro,h.sane,h.fresh,h.old⟩
theorem Cx.get (h:Cx K0 H0 Q K H)(a:K0 b=some r)(d:b<H0.length)(g:¬ Q r):ag H b=ag H0 b:=h.keep b d fun i e=>by rw[a] at e;cases e;exact g
theorem Cx.call (h:Cx K0 H0 Q K H)(h2:Cx K H Q2 K' H')(j:∀ r,Q2 r->Q r):Cx K0 H0 Q K' H':=by
 have h2:=h2.mono j;refine⟨fF h.len h2.len,fun b a d=>(h2.keep b (mw a h.len) fun r e=>?_).trans (h.keep b a d),fun b r e d=>h2.stay b r (h.stay b r e d) d,fun b r a e=>?_,h.ro.trans h2.ro,h2.sane,h2.fresh,h.old⟩
 ·obtain⟨i,g,h0⟩:=h.kin b r a e;rcases h0 with rfl|⟨h0,-⟩
  ·exact d _ g
  ·exact absurd h0 (d _ g)
 ·obtain⟨r1,p,h1⟩:=h2.kin b r (mw a h.len) e;obtain⟨i,g,h0⟩:=h.kin b r1 a p;refine⟨i,g,?_⟩;rcases h1 with rfl|h1
  ·exact h0
  ·rcases h0 with rfl|h0
   ·exact .inr h1
   ·exact .inr ⟨h0.1,h1.2⟩
theorem Cx.getN (h:Cx K0 H0 Q K H)(a:K0 b=none)(d:b<H0.length):ag H b=ag H0 b:=h.keep b d fun r e=>by rw[a] at e;cases e
def Wr (Q:Rl->Prop)(K:RK)(b:Nat):Prop:=∃ r,K b=some r/\Q r
theorem Cx.keepW (h:Cx K0 H0 Q K H)(a:b<H0.length)(d:¬ Wr Q K0 b):ag H b=ag H0 b:=h.keep b a fun r e g=>d ⟨r,e,g⟩
theorem Cx.inQ (h:Cx K0 H0 Q K H)(e:K b=some r)(g:Q r)(i:b<H0.length):¬ ∀ r,K0 b=some r->¬ Q r:=fun a=>by
 obtain⟨j,d,h0⟩:=h.kin b r i e;rcases h0 with rfl|⟨h0,-⟩
 ·exact a _ d g
 ·exact a _ d h0
theorem Cx.put (h:Cx K0 H0 Q K H)(a:K b=some r)(g:Q r)(i:af H.length vs){mm:Option MapC}:Cx K0 H0 Q K (H.set b (some ⟨false,vs,mm⟩)):=
 ⟨by rw[aY];exact h.len,fun c hc d=>by rw[bW (fun e=>by subst e;exact h.inQ a g hc d)];exact h.keep c hc d,h.stay,h.kin,h.ro.put,h.sane.put i,fun b a=>h.fresh b (by rw[aY] at a;exact a),h.old⟩
theorem Cx.junk (h:Cx K0 H0 Q K H)(a:af (H.length+1) vs){mm:Option MapC}:Cx K0 H0 Q K (H++[some ⟨false,vs,mm⟩]):=
 ⟨by rw[aE];exact fF h.len (nW _ _),fun c hc d=>by rw[cz (mw hc h.len)];exact h.keep c hc d,h.stay,h.kin,h.ro.app,h.sane.app1 a,fun b e=>h.fresh b (by rw[aE] at e;omega),h.old⟩
theorem Cx.jput (h:Cx K0 H0 Q K H)(d:H0.length<=b)(e:af H.length vs){mm:Option MapC}:Cx K0 H0 Q K (H.set b (some ⟨false,vs,mm⟩)):=
 ⟨by rw[aY];exact h.len,fun c hc g=>by rw[bW aa];exact h.keep c hc g,h.stay,h.kin,h.ro.put,h.sane.put e,fun b a=>h.fresh b (by rw[aY] at a;exact a),h.old⟩
theorem Cx.jcut (h:Cx K0 H0 Q K H)(d:H0.length<=b):Cx K0 H0 Q K (H.set b none):=
 ⟨by rw[aY];exact h.len,fun c hc e=>by rw[bW aa];exact h.keep c hc e,h.stay,h.kin,h.ro.cut,h.sane.cut,fun b a=>h.fresh b (by rw[aY] at a;exact a),h.old⟩
theorem Cx.boxed (h:Cx K0 H0 Q K H)(h1:af (H.length+1) zs)(h2:af (H.length+1) ys):Cx K0 H0 Q K ((H++[bK zs]).set H.length (bK ys)):=
 (h.junk h1).jput h.len (by rw[aE];exact h2)
theorem Cx.new (h:Cx K0 H0 Q K H)(r:Rl)(i:af (H.length+1) vs){mm:Option MapC}:Cx K0 H0 Q (cV K H.length (some r)) (H++[some ⟨false,vs,mm⟩]):=by
 have a:=h.junk (mm:=mm) i;refine⟨a.len,a.keep,fun b g e j=>?_,fun b g d e=>?_,a.ro,a.sane,fun b d=>?_,h.old⟩
 ·have h1:=h.stay b g e j;rw[dW (vO (h.lt h1))];exact h1
 ·rw[dW (by have :=h.len;omega)] at e;exact h.kin b g d e
 ·rw[aE] at d;rw[dW (by simp at d;omega)];exact h.fresh b aa
theorem Cx.role (h:Cx K0 H0 Q K H)(g:H0.length<=b)(i:b<H.length)(r:Rl):Cx K0 H0 Q (cV K b (some r)) H:=
 ⟨h.len,h.keep,fun c a e d=>by rw[dW (by have :=h.old c a e;omega)];exact h.stay c a e d,fun c a hc e=>by rw[dW aa] at e;exact h.kin c a hc e,h.ro,h.sane,fun c hc=>by rw[dW aa];exact h.fresh c hc,h.old⟩
theorem Cx.grow (h:Cx K0 H0 Q K H)(s:K b=some r)(t:Q r)(a:Option Nat)(r2:Rl)(q:∀ x,a=some x->K x=some r2)(g:Q r2)(h1:af (H.length+1) ds)(h2:af (H.length+1) vs):
  Cx K0 H0 Q (cV (fQ a K) H.length (some r2)) ((cutH a H++[bK ds]).set b (bK vs)):=by
 have w:=h.len;refine⟨by rw[aY,aE,sL];omega,fun c hc d=>?_,fun c i e d=>?_,fun c i hc e=>?_,((h.ro.cutH a).app).put,((h.sane.cutO a).app1 (by rw[sL];exact h1)).put (by rw[aE,sL];exact h2),fun c hc=>?_,h.old⟩
 ·rw[bW (fun e=>by subst e;exact h.inQ s t hc d),cz (by rw[sL];omega),UL (fun x e p=>by subst p;exact h.inQ (q _ e) g hc d)];exact h.keep c hc d
 ·have j:=h.stay c i e d;have y:=h.lt j;rw[dW aa,EP fun x e p=>by subst p;rw[q _ e] at j;cases j;exact d g];exact j
 ·rw[dW aa] at e;exact h.kin c i hc (Fq e).1
 ·rw[aY,aE,sL] at hc;rw[dW (by simp at hc;omega)];cases u:fQ a K c with
  |none=>rfl
  |some i=>exact absurd (Fq u).1 (by rw[h.fresh c (by simp at hc;omega)];simp)
theorem CP:(1∈[1,2])=True:=ae
theorem SD:(2∈[2])=True:=ae
theorem pO (K:RK)(n:Nat):nE (Wr (fun _=>False) K) n=[]:=by unfold nE Wr;simp
open Classical in
noncomputable def ia (K:RK) (Q:Rl->Prop) (N x:Nat):Nat:=if x<N then(if Wr Q K x then 2 else 0) else 1
theorem vp {x N:Nat}(a:K x=some r)(d:x<N)(g:¬ Q r):ia K Q N x=0:=by
 unfold ia;rw[if_pos d,if_neg];rintro⟨i,e,h⟩;rw[a] at e;cases e;exact g h
theorem tY (N:Nat)(l:List Nat):(∀ b∈l,ia K Q N b∈[0,1,2])=True:=eq_true fun b _=>by unfold ia;split <;>(try split)<;>simp
theorem wM {N n k:Nat}(g:N<=n)(d:∀ r,Q2 r->Q r):(∀ b∈nE (Wr Q2 K) n++List.range' n k,ia K Q N b∈[1,2])=True:=eq_true fun b a=>by
 rcases eB.1 a with a|a
 ·obtain⟨r,e,h⟩:=(xj.1 a).2;unfold ia;split
  ·rw[if_pos ⟨r,e,d _ h⟩];simp
  ·simp
 ·rw[qf] at a;unfold ia;rw[if_neg aa];simp
structure Dx (P:Program) (f:FuncId) (args:List V) (K0:RK) (H0:List (Option Blk)) (Q:Rl->Prop) (v:V) (K:RK) (H:List (Option Blk)):Prop where
 spec:aq P f args H0 v H
 cur:Cx K0 H0 Q K H
 low:v.low H.length
def Ex (K0:RK)(H0:List (Option Blk))(Q:Rl->Prop)(Post:V->RK->List (Option Blk)->Prop)(v:V)(s:St):Prop:=∃ K',Cx K0 H0 Q K' s.H/\v.low s.H.length/\Post v K' s.H
variable {Post:V->RK->List (Option Blk)->Prop}{v:V}{P:Program}{R:Exit->St->Prop}{k:List Fr}{l:List Oper}{ops:Array Oper}{dst:Option Tmp}{f:FuncId}{fs cs args args0:List V}
theorem Ex.of {s:St}(a:Cx K0 H0 Q K' s.H)(d:v.low s.H.length)(e:Post v K' s.H):Ex K0 H0 Q Post v s:=⟨K',a,d,e⟩
theorem bV (a:P.follows .mixedOrders=true){fn:Func}{c:Code}(d:P.funcs[f]?=some fn)(g:fn.body=some c)(h:args.length<=fn.ntmps)
  (i:vc P H.length fn.ntmps c (eW P fn (Ex K H Q Post)) ⟨gU args 0,H⟩):∃ v K' H',Dx P f args K H Q v K' H'/\Post v K' H':=by
 obtain⟨v,s',h1,⟨K',h2,j,p⟩,q⟩:=Et (s:=⟨gU args 0,H⟩) (aH _) i;exact⟨v,K',s'.H,⟨bf a d g h (im c _ _ _ (fun e s t=>yp (fun v2 s2 u=>by
  obtain⟨rfl,rfl⟩:=u;exact Fin.id h1) t) q),h2,j⟩,p⟩
theorem Dx.whole (h:Dx P f args K H Q v K' H')(g:af H.length args)(i:Sane H):Whole P f args H v H' (nE (Wr Q K) H.length):=
 ⟨h.spec,h.cur.len,g,i,h.cur.sane,h.low,fun b a j=>h.cur.keepW a fun hw=>j (xj.2 ⟨a,hw⟩),fun b a=>(xj.1 a).1,fun b B e d=>by
  cases r:B.ro with
  |false=>rfl
  |true=>
   obtain⟨g1,g2⟩:=h.cur.ro b B e r;rcases d with a|a
   ·omega
   ·rw[g2] at a;cases a⟩
theorem bA {t:List (Nat×V)}(a:∃ v K' H',Dx P f args0 K H Q v K' H'/\Post v K' H')(hc:eu P f=true)(d:args0=fs++args++cs)(e:af H.length args0)(g:Sane H)
  (h:∀ v K' H',Cx K H Q K' H'->v.low H'.length->Post v K' H'->fY P m n R l ops k ⟨putS t dst v,H'⟩):n9 P m n R (.fn f fs cs) args dst l ops k ⟨t,H⟩:=by
 obtain⟨v,K',H',h1,h2⟩:=a;exact afo (h1.whole e g) hc d (h v K' H' h1.cur h1.low h2)
theorem cN {t:List (Nat×V)}{tr:Tr}(a:∃ v K' H',Dx P f args0 K H Q v K' H'/\Post v K' H')(hc:eu P f=true)(d:args0=fs++args++cs)(e:af H.length args0)(g:Sane H)
  (h:∀ v K' H',Cx K H Q K' H'->v.low H'.length->Post v K' H'->ir P m n R l (tr++[(List.range H.length,nE (Wr Q K) H.length++List.range' H.length (H'.length-H.length))]) ops k ⟨putS t dst v,H'⟩):mj P m n R (.fn f fs cs) args dst l tr ops k ⟨t,H⟩:=by
 obtain⟨v,K',H',h1,h2⟩:=a;exact LL (h1.whole e g) hc d (h v K' H' h1.cur h1.low h2)
theorem WB {cs1 cs2:List V}(p:Cx K0 H0 Q2 K H)(q:K b=some r)(s:ag H b=bK cs1)(t:aq P f (.ptr 0 0::args) [bK cs1] v [bK cs2])(u:∀ σ,rens σ args=args)(e:∀ n,af n args)(h1:∀ σ,rens σ cs1=cs1)(g:∀ n,af n cs1)(h2:∀ σ,rens σ cs2=cs2)(h:∀ n,af n cs2)(w:∀ σ,v.ren σ=v)(i:∀ n,v.low n)
  (y:Post v K (H.set b (bK cs2))):∃ v K' H',Dx P f (.ptr b 0::args) K H (fun x=>x=r) v K' H'/\Post v K' H':=
 ⟨v,K,_,⟨GV t s u e h1 g h2 w,(p.start (fun x=>x=r)).put q rfl (h _),i _⟩,y⟩
theorem Bs {cs1:List V}(t:Cx K0 H0 Q2 K H)(d:ag H b=bK cs1)(u:aq P f (.ptr 0 0::args) [bK cs1] v [bK cs1])(w:∀ σ,rens σ args=args)(g:∀ n,af n args)(h1:∀ σ,rens σ cs1=cs1)(i:∀ n,af n cs1)(x:∀ σ,v.ren σ=v)(j:∀ n,v.low n)
  (y:Post v K H):∃ v K' H',Dx P f (.ptr b 0::args) K H (fun _=>False) v K' H'/\Post v K' H':=by
 have h:=GV u d w g h1 i h1 x;have e:H.set b (bK cs1)=H:=by
  have q:=aU d;have s:H[b]?=some (bK cs1):=by
   unfold ag at d;rw[aF q] at d |-
   exact congrArg some d
  rw[aF q] at s;rw[<-kJ s,Ee]
 rw[e] at h;exact⟨v,K,H,⟨h,t.start _,j _⟩,y⟩
end
end
end Go.Vm
end
