/- Proved: laws of a machine of values; no conditions but each theorem's own. -/
import Derived.Maps.RangeRun
import Derived.Test.YtidjknjilnopnaaGreatDoorVmTToTot2
set_option linter.unusedVariables false
set_option linter.unusedSimpArgs false
set_option maxRecDepth 20000
set_option maxHeartbeats 8000000
section
namespace Go.Vm
section
open Go Go.RowKit
open Go.ChangeMaps (setBlock)
section
variable {P:Program}{m n:Nat}
def GS (P:Program)(m n:Nat)(c:Code)(Q:Exit->St->Prop)(s:St):Prop:=
 ∀ (d:Nat->Nat×Nat) (a:Act) (w:World),cn d n s a w->m<=s.H.length->c.wp P (E6 m n d s w Q) a w
theorem w8 (b:P.follows .mixedOrders=true){c:Code}{Q:Exit->St->Prop}{s:St}(h:vc P m n c Q s):GS P m n c Q s:=fun e a w d f=>tJ b c Q s h e a w d f
theorem wI {x y:Code}{K:St->Prop}{Q:Exit->St->Prop}{s:St}(f:GS P m n x (oA K Q) s)(g:∀ s',K s'->GS P m n y Q s'):GS P m n (.seq x y) Q s:=fun p a w h q=>by
 refine rm (ni (f p a w h q) ?_);rintro e r t ⟨s',l,o,d,b⟩;cases e
 case normal=>exact ni (g s' o l r t d b.1) fun e i j ⟨c,ρ'',r1,r2,r3⟩=>⟨c,ρ'',r1,r2,b.trans r3⟩
 all_goals exact⟨s',l,o,d,b⟩
theorem Ol {m:Nat}{ops:Array Oper}{Q:Exit->Act->World->Prop}{l2:List Nat}{ρ:Nat->Nat×Nat}{a:Act}{w:World}:∀ (l:List Nat) (os:List Oper) (s:St) (K:St->Prop),l.map (ops[·]?)=os.map some->(∀ o∈os,o.guard=none)->gj P n ops os s K->∀ (ρ:Nat->Nat×Nat) (a:Act) (w:World),cn ρ n s a w->m<=s.H.length->
  (∀ a' w',Eg m n ρ s w K a' w'->wpOps P ops Q l2 a' w')->wpOps P ops Q (l++l2) a w
 |[],[],s,K,_,_,h,ρ,a,w,e,A,g=>g a w ⟨s,ρ,h,e,Step.refl A⟩
 |[],_::_,_,_,d,_,_,_,_,_,_,_,_=>by simp at d
 |_::_,[],_,_,d,_,_,_,_,_,_,_,_=>by simp at d
 |i::l,o::os,s,K,d,f,h,ρ,a,w,e,A,g=>by
  simp only[dD,List.cons.injEq] at d;obtain⟨C,d⟩:=d;obtain⟨q,h⟩:=h;have D:=f o J;rw[D] at h;have F:Region.wanted o (yielded ops a.tmps)=true:=by unfold Region.wanted;rw[D]
  obtain⟨O,R,S⟩:=GK h;simp only[kG,wpOps,C,F,eJ];refine .inl (R ρ (· <s.H.length) (ah s.H) w a _ Q (fun x _=>e.tmps.eval x) e.mem (fun _ _=>⟨rfl,id⟩) (fun b t u (v:b<s.H.length)=>by omega) ?_);intro B w' r G L M N;obtain⟨T,E⟩:=Rb (m:=m) e A q G L M N;refine Ol (a:=a) (w:=w) (ρ:=ρ) l os _ K d (fun o C=>f o (by simp[C])) S B _ w' T E.1 fun a' j ⟨s',ρ'',q1,y,z⟩=>g a' j ⟨s',ρ'',q1,y,E.trans z⟩
theorem Lu {m0:Nat}{ρ:Nat->Nat×Nat}{s:St}{a:Act}{w:World}{tit:Tmp}(l:cn ρ n s a w)(Y:m0<=s.H.length)(ht:tit<n)(o:Obj):
  let ρ1:=fun k=>if k=s.H.length then(w.heap.size,0) else ρ k
  let s1:St:=⟨di s.t (some tit) (.ptr s.H.length 0),s.H++[none]⟩
  cn ρ1 n s1 (a.put (some tit) (.pointer (some ⟨w.heap.size,0,none⟩))) (w.alloc o)/\Step m0 ρ s w ρ1 s1 (w.alloc o):=by
 intro ρ1 s1;have R:s1.H.length=s.H.length+1:=by simp[s1]
 have d:∀ b B,ah s1.H b=some B->ah s.H b=some B/\b<s.H.length:=fun b B c=>by
  have c:((s.H++[none])[b]?).join=some B:=c;by_cases x:b<s.H.length
  .rw[kY x] at c;exact⟨c,x⟩
  .rw[iy I] at c;by_cases y:b-s.H.length=0
   .rw[y] at c;simp at c
   .rw[iW cp] at c;simp at c
 have j:∀ b,b<s.H.length->ρ1 b=ρ b:=fun b x=>aq I
 have f:cN w (w.alloc o):=Gk w _;have M:∀ r,r<w.heap.size->(w.alloc o).heap[r]?=w.heap[r]?:=fun r h=>Below.heap_alloc w _ r h
 have p:(w.alloc o).heap.size=w.heap.size+1:=Array.size_push ..;have q:∀ b B,ah s.H b=some B->∀ i,(w.alloc o).cell? ⟨(ρ b).1,i,none⟩=w.cell? ⟨(ρ b).1,i,none⟩:=fun b B c i=>x9 (M _ (l.mem.lt b B c))
 have u:∀ b B,ah s.H b=some B->∀ i,(w.alloc o).frozen? ⟨(ρ b).1,i,none⟩=w.frozen? ⟨(ρ b).1,i,none⟩:=fun b B c i=>yA (M _ (l.mem.lt b B c))
 have g:∀ b,b<s.H.length->b<s1.H.length:=fun b x=>by omega
 refine⟨⟨?_,?_⟩,⟨I,fun b x=>j b I,?_⟩⟩
 .refine eT.put (l.tmps.mono j g f) (show kh n (some tit) from ht) ?_;unfold VR;refine⟨I,?_⟩;show _=Value.pointer (some ⟨(ρ1 s.H.length).1,(ρ1 s.H.length).2+0,none⟩);have e:ρ1 s.H.length=(w.heap.size,0):=aM rfl;rw[e]
 .refine⟨fun b B c=>g b (d b B c).2,fun b B c=>?_,fun b z B S c A C D=>?_,fun b B c i v G=>?_,fun b B c Q i T=>?_,fun b B V c E=>?_⟩
  .obtain⟨N,O⟩:=d b B c;rw[j b O,p];have :=l.mem.lt b B N;omega
  .obtain⟨N,O⟩:=d b B c;obtain⟨K,L⟩:=d z S A;rw[j b O,j z L];exact l.mem.inj b z B S N K C D
  .obtain⟨N,O⟩:=d b B c;obtain⟨r,W,X⟩:=l.mem.cell b B N i v G;exact⟨r,by rw[j b O,q b B N];exact W,X.mono j g f⟩
  .obtain⟨N,O⟩:=d b B c;rw[j b O,u b B N];exact l.mem.free b B N Q i T
  .obtain⟨N,O⟩:=d b B c;rw[j b O];exact tj (l.mem.gY b B V N E) (M _ (l.mem.lt b B N))
 .refine⟨rfl,rfl,rfl,I,fun r F _=>M r F,f,fun b B c Q=>?_⟩;obtain⟨N,O⟩:=d b B c;exact .inl ⟨b,B,N,Q,by rw[j b O]⟩
structure lK (o:Obj) (b:Nat) (w0:World) (ρ:Nat->Nat×Nat) (s:St) (w:World):Prop where
 lt:b<s.H.length
 zero:(ρ b).2=0
 D6:w0.heap.size<=(ρ b).1
 here:w.heap[(ρ b).1]?=some o
 own:∀ b' B,ah s.H b'=some B->B.ro=false->(ρ b').1≠(ρ b).1
theorem lK.step {o:Obj}{b:Nat}{w0 w w':World}{ρ p:Nat->Nat×Nat}{s s':St}(h:lK o b w0 ρ s w)(k:Step m ρ s w p s' w')(i:b<m):lK o b w0 p s' w':=by
 obtain⟨A,z,q⟩:=k;have e:=z b i;have c:(ρ b).1<w.heap.size:=(IP.1 h.here).1;refine⟨I,by rw[e];exact h.zero,by rw[e];exact h.D6,?_,?_⟩
 .rw[e,q.de _ c (fun d B r t=>h.own d B r t)];exact h.here
 .intro d B j f;rw[e];rcases q.own d B j f with⟨l,u,v,x,y⟩|g
  .rw[<-y];exact h.own l u v x
  .omega
def jK (bm since:Nat)(seen:List Nat)(c0:Nat):Obj:= .mapIter (some bm) since seen.toArray c0
section
variable {a:Act}{w w0:World}{ρ:Nat->Nat×Nat}{s:St}{k bm since c0 bm' since' c0':Nat}{seen seen':List Nat}
theorem cn.Jv (f:cn ρ n s a w)(h:w.heap[k]?=some (jK bm since seen c0))(o:Obj):cn ρ n s a (setBlock w k o):=by
 have p:cN w (setBlock w k o):=Hd h rfl;have d:∀ b B (i:Nat) v,ah s.H b=some B->B.cs[i]?=some v->(ρ b).1≠k:=fun b B i v c j e=>by
  obtain⟨r,t,_⟩:=f.mem.cell b B c i v j;rw[e,Pd h rfl] at t;cases t
 refine⟨f.tmps.mono (fun _ _=>rfl) (fun _ h=>h) p,f.mem.has,fun b B c=>by rw[ES];exact f.mem.lt b B c,f.mem.inj,
  fun b B c i v j=>?_,fun b B c u i y=>?_,fun b B z c l=>?_⟩
 .obtain⟨r,t,A⟩:=f.mem.cell b B c i v j;exact⟨r,by rw[x9 (w:=w) (tf w o (d b B i v c j))];exact t,A.mono (fun _ _=>rfl) (fun _ h=>h) p⟩
 .rw[yA (w:=w) (tf w o (d b B i _ c (bn y)))];exact f.mem.free b B c u i y
 .have g:=f.mem.gY b B z c l;cases hc:B.cs with
  |nil=>
   rw[hc] at g;change w.heap[(ρ b).1]?=_ at g;have d:(ρ b).1≠k:=fun e=>by obtain⟨C,q,u⟩:=z.Z8;rw[e,h,u] at g;cases g
   show(setBlock w k o).heap[(ρ b).1]?=_;rw[tf w o d];exact g
  |cons x cs=>
   rw[hc] at g;exact tj (cs:=x::cs) g (tf w o (d b B 0 x c (by rw[hc];rfl)))
theorem Step.Jv {m0:Nat}{ρ0:Nat->Nat×Nat}{s0:St}(h:Step m0 ρ0 s0 w0 ρ s w)(b:w.heap[k]?=some (jK bm since seen c0))(e:w0.heap.size<=k)(o:Obj):Step m0 ρ0 s0 w0 ρ s (setBlock w k o):=
 ⟨h.1,h.2.1,h.2.2.os,h.2.2.output,h.2.2.tape,by rw[ES];exact h.2.2.size,
  fun r c d=>by rw[tf w o I];exact h.2.2.de r c d,
  h.2.2.kL.trans (Hd b rfl),h.2.2.own⟩
theorem cn.drew (b:cn ρ n s a w):cn ρ n s a w.drew:=
 ⟨b.tmps.mono (fun _ _=>rfl) (fun _ h=>h) (Alike.drew w).kL,b.mem.alike (Alike.drew w)⟩
theorem Step.drew {m0:Nat}{ρ0:Nat->Nat×Nat}{s0:St}(h:Step m0 ρ0 s0 w0 ρ s w):Step m0 ρ0 s0 w0 ρ s w.drew:=
 ⟨h.1,h.2.1,h.2.2.os,h.2.2.output,h.2.2.tape,h.2.2.size,h.2.2.de,h.2.2.kL,h.2.2.own⟩
end
end
theorem yK {P:Program}{m n:Nat}{c:Code}{Q:Exit->St->Prop}{s s1:St}(h:GS P m n c Q s1)(l:bJ m n s s1):GS P m n c Q s:=fun o a w b p=>by
 obtain⟨i,t,j⟩:=l.go o a w b p;refine ni (h i a w t j.1) ?_;rintro e u v ⟨q,g,r,d,f⟩;exact⟨q,g,r,d,j.trans f⟩
theorem wF {P:Program}{n:Nat}{ops:Array Oper}{l:List Oper}{s:St}{K:St->Prop}(h:kC P 0 n (fun _ s=>K s) l ops [] s):gj P n ops l s K:=h
theorem DB {P:Program}{f:FuncId}{fn:Func}{c:Code}{args:List V}{h h':aU}{v:V}(S:P.funcs[f]?=some fn)(j:fn.body=some c)(E:args.length<=fn.ntmps)
  (C:GS P h.length fn.ntmps c (gV P fn (Fin h.length v h')) ⟨jX args 0,h⟩):bp P f args h v h':=by
 intro L w d y T;have p:=y.length;refine calls_of_wp S j (ni (C L _ w ⟨⟨?_,rfl,fun t=>?_⟩,T⟩ (bz _)) ?_)
 .have :d.size=args.length:=by simpa using p
  simp;omega
 .show VR _ _ _ (lookS (jX args 0) t) _;rw[Hr];split
  .rename_i ht;obtain⟨r,K,N⟩:=y.get (i:=t) (v:=args.getD t .bH) (by rw[bY,bn I];rfl);have u:t<d.size:=by simpa using(cA.1 K).1
   simp only[Nat.sub_zero];have :(d++Array.replicate (fn.ntmps-d.size) undef).getD t undef=r:=by
    rw[rA,BN u];have :d[t]?=some r:=by rw[<-K];simp
    rw[this];rfl
   rw[this];exact N
  .unfold VR;trivial
 .rintro e W G ⟨R,F,M,o,x⟩;have H:(jh P R fn.results.toList fun l=>Fin h.length v h' (jv l) R)->∃ r,(results fn W.tmps).run P G= .ok r G/\(∃ z F,Ending.returned r= .returned z/\VR F (· <h'.length) G v z/\bS F (· <h'.length) (ah h') G/\h.length<=h'.length/\(∀ b,b<h.length->F b=L b)/\Frame L (ah h) w F (ah h') G):=fun q=>by
   obtain⟨v1,r,K,N,X⟩:=SW o q;obtain⟨O,Y,k2,k3,D⟩:=K.2 F G r N o.mem x.1;exact⟨r,X,r,O,rfl,Y,k2,K.1,fun b j=>(k3 b j).trans (x.2.1 b j),x.2.2.less D⟩
  cases e
  case normal=>exact⟨o.tmps.defers,H M⟩
  case ret=>exact⟨o.tmps.defers,H M⟩
  all_goals exact M.elim
end
section
open Go Go.RowKit
open Go.ChangeMaps (setBlock)
section
variable {P:Program}{m n:Nat}
theorem ahK {w:World}{t k e:TypeId}{r:Nat}{c:aV}(b:c.plain)(ht:P.underlying t=some (.map k e))(a:w.heap[r]?=some c.obj):
  (Instr.range t (.map (some r))).run P w= .ok (.pointer (some ⟨w.heap.size,0,none⟩)) (w.alloc (jK r c.clock [] c.clock)):=by
 rw[aV.sF b] at a;exact run_range_map w t k e r _ c.clock ht a
theorem YG {w:World}{ty:TypeId}{r b since c0:Nat}{seen:List Nat}{c:aV}(i:c.plain)(j:w.heap[r]?=some (jK b since seen c0))(h:w.heap[b]?=some c.obj)(o:∀ e∈c.es,e.1<since)(a:since<=c0):
  ((∀ e∈c.es,e.1∈seen)/\(Instr.next (.pointer (some ⟨r,0,none⟩)) false ty).run P w= .ok (.tuple #[.bool false]) w)\/
  ∃ e∈c.es,e.1∉seen/\∃ w1:World,(w1=w\/w1=w.drew)/\(Instr.next (.pointer (some ⟨r,0,none⟩)) false ty).run P w= .ok (.tuple #[.bool true,(hO e).key,(hO e).val]) (setBlock w1 r (jK b since (seen++[e.1]) c.clock)):=by
 rw[aV.sF i] at h;rcases run_next_at w ty r b since c0 seen.toArray _ c.clock j h (by
  intro x d;have d:x∈c.es.map hO:=d;obtain⟨e,p,rfl⟩:=eZ.1 d;exact o e p) a with⟨q,s⟩|⟨k,p,w1,q,s⟩
 .refine .inl ⟨fun e p=>?_,s⟩;have :=all_seen _ _ q (hO e) (show hO e∈c.es.map hO from eZ.2 ⟨e,p,rfl⟩);simpa [hO] using this
 .obtain⟨f,l⟩:=mem_left p;have f:k∈c.es.map hO:=f;obtain⟨e,g,rfl⟩:=eZ.1 f;refine .inr ⟨e,g,by simpa [hO] using l,w1,q,?_⟩;rw[s];unfold jK;simp[hO]
theorem ake {w:World}{r b since:Nat}{seen:List Nat}{c:aV}{e:Nat×aQ×Int}(d:c.plain)(f:w.heap[r]?=some (jK b since (seen++[e.1]) c.clock))(a:w.heap[b]?=some c.obj)(h:e∈c.es)(g:(c.es.map (·.1)).Nodup):
  (Instr.entry (.pointer (some ⟨r,0,none⟩))).run P w= .ok (.tuple #[(hO e).key,(hO e).val]) w:=by
 rw[aV.sF d] at a;refine run_entry_at w r b since seen.toArray _ c.clock (hO e) ?_ a (show hO e∈c.es.map hO from eZ.2 ⟨e,h,rfl⟩) ?_
 .rw[f];unfold jK;simp[hO]
 .have :(c.es.map hO).toArray.toList.map (·.born)=c.es.map (·.1):=by
   simp only[pQ];exact sJ fun _ _=>rfl
  rw[this];exact g
theorem Ic {m1 id:Nat}{o:Oper}{os:List Oper}{ops:Array Oper}{f:Tmp}{v:V}{r:Value}{s:St}{a:Act}{w w':World}{ρ:Nat->Nat×Nat}{K:St->Prop}{Q:Exit->Act->World->Prop}
  (b:ops.toList=o::os) (z:o.guard=none) (l:o.dst=some f) (g:(execOp a.eval o).run P w= .ok (.value r) w')
  (p:cn ρ n (s.put (some f) v) (a.put (some f) r) w') (B:m1<=s.H.length) (q:gj P n ops os (s.put (some f) v) K)
  (t:∀ a' c s' y,K s'->cn y n s' a' c->Step m1 ρ (s.put (some f) v) w' y s' c->Q .normal a' c):(Code.region id ops false).wp P Q a w:=by
 refine zI ?_;have j:ops.size=os.length+1:=by rw[<-CI,b];rfl
 rw[j,List.range_succ_eq_map];have C:ops[0]?=some o:=by rw[<-Array.getElem?_toList,b];rfl
 have e:Region.wanted o (yielded ops a.tmps)=true:=by unfold Region.wanted;rw[z]
 simp only[wpOps,C,e,eJ];refine .inl ?_;unfold Oper.wp;rw[g,wQ,l];refine CH (m:=m1) (List.map Nat.succ (List.range os.length)) os _ K ?_ q ρ _ w' p B ?_
 .refine wG fun i=>?_
  simp only[dU];by_cases k:i<os.length
  .have :ops[i+1]?=os[i]?:=by rw[<-Array.getElem?_toList,b];rfl
   simp[k,this]
  .rw[iW cp,iW I];rfl
 .rintro a' c ⟨s',y,D,u,x⟩;exact t a' c s' y D u x
theorem Ls (a6:P.follows .mixedOrders=true){b6 r3 r7 C b1:Nat}{ops r:Array Oper}{pre a7:List Oper}{O D o4 o5:Oper}{tz tit R l0 te:Tmp}{ty k e:TypeId}{g:Code}{s S1:St}{bm:Nat}{K:St->Prop}{Q:Exit->St->Prop}
  (Z99:List Nat->Prop) (Z98:List Nat->St) (M:List Nat->aV) (μ:List Nat->Nat)
  (u:ops=(pre++[O]).toArray) (c1:∀ o∈pre,o.guard=none) (hp:gj P n ops pre s (fun s1=>s1=S1)) (ht:S1.get tz= .map bm) (c2:ah S1.H bm=some ⟨false,[],some (M [])⟩)
  (h2:O.op= .range ty (.tmp tz)) (g2:O.guard=none) (d2:O.dst=some tit) (z2:tit<n) (c3:P.underlying ty=some (.map k e))
  (h3:D.op= .next (.tmp tit) false) (g3:D.guard=none) (d3:D.dst=some R) (z3:R<n)
  (S:r.toList=o5::a7) (h5:o5.op= .entry (.tmp tit)) (g5:o5.guard=none) (d5:o5.dst=some te) (z5:te<n)
  (a8:Z99 []) (hI:∀ seen,Z99 seen->(∀ e∈(M seen).es,e.1<(M []).clock)/\((M seen).es.map (·.1)).Nodup/\(M []).clock<=(M seen).clock)
  (T:∀ seen,Z99 seen->(M seen).plain)
  (c4:∀ seen,Z99 seen->ah (Z98 seen).H bm=some ⟨false,[],some (M seen)⟩)
  (c5:bJ (max m (S1.H.length+1)) n ⟨di S1.t (some tit) (.ptr S1.H.length 0),S1.H++[none]⟩ (Z98 []))
  (c6:∀ seen,(Z98 seen).get tit= .ptr S1.H.length 0)
  (b0:∀ seen,Z99 seen->(∀ e∈(M seen).es,e.1∈seen)->gj P n #[D,o4] [o4] ((Z98 seen).put (some R) (.aZ [.bool false])) fun s'=>s'.get l0= .bool false/\K s')
  (c7:∀ seen e,Z99 seen->e∈(M seen).es->e.1∉seen->Z99 (seen++[e.1])/\μ (seen++[e.1])<μ seen/\
   gj P n #[D,o4] [o4] ((Z98 seen).put (some R) (.aZ [.bool true,.u32 e.2.1,.i64 e.2.2])) fun s'=>s'.get l0= .bool true/\s'.get tit= .ptr S1.H.length 0/\ah s'.H bm=some ⟨false,[],some (M seen)⟩/\
    gj P n r a7 (s'.put (some te) (.aZ [.u32 e.2.1,.i64 e.2.2])) fun s2=>vc P (max m (S1.H.length+1)) n g (rE b1 (fun x c8=>x= .normal/\bJ (max m (S1.H.length+1)) n c8 (Z98 (seen++[e.1])))) s2):
  GS P m n (.seq (.region b6 ops false) (.block C (.loop (.seq (.region r3 #[D,o4] false) (.seq (.cond (.tmp l0) .skip (.exit C)) (.block b1 (.seq (.region r7 r false) g))))))) (oA K Q) s:=by
 intro ρ a w hr hm;refine rm (zI ?_);have c9:ops.size=pre.length+1:=by rw[u];simp
 rw[c9,List.range_succ];refine Ol (m:=m) (a:=a) (w:=w) (ρ:=ρ) (List.range pre.length) pre s (fun s1=>s1=S1) ?_ c1 hp ρ a w hr hm ?_
 .refine wG fun i=>?_
  simp only[dU];by_cases hi:i<pre.length
  .have :ops[i]?=pre[i]?:=by rw[u];simp[kY hi]
   simp[hi,this]
  .rw[iW cp,iW I];rfl
 rintro a1 w1 ⟨s1,k6,rfl,E,p⟩;have V:=E.tmps.slot tz;rw[ht] at V;unfold VR at V;obtain⟨h9,hz⟩:=V;have e0:w1.heap[(k6 bm).1]?=some (M []).obj:=E.mem.gY bm _ _ c2 rfl;have e1:ops[pre.length]?=some O:=by rw[u];simp
 have w2:Region.wanted O (yielded ops a1.tmps)=true:=by unfold Region.wanted;rw[g2]
 have k2:(execOp a1.eval O).run P w1= .ok (.value (.pointer (some ⟨w1.heap.size,0,none⟩))) (w1.alloc (jK (k6 bm).1 (M []).clock [] (M []).clock)):=by
  unfold execOp;rw[h2];simp only[Act.eval,hz,dx,ahK (T _ a8) c3 e0,eQ,dI]
 simp only[wpOps,e1,w2,eJ];refine .inl ?_;unfold Oper.wp;rw[k2,wQ,d2];obtain⟨i1,i2⟩:=Lu (m0:=m) (tit:=tit) E p.1 z2 (jK (k6 bm).1 (M []).clock [] (M []).clock);have i3:lK (jK (k6 bm).1 (M []).clock [] (M []).clock) s1.H.length w (fun k=>if k=s1.H.length then(w1.heap.size,0) else k6 k) ⟨di s1.t (some tit) (.ptr s1.H.length 0),s1.H++[none]⟩ (w1.alloc (jK (k6 bm).1 (M []).clock [] (M []).clock)):=by
  refine⟨J,by rw[aM rfl],by rw[aM rfl];exact p.2.2.size,by rw[aM rfl];exact heap_alloc_new w1 _,fun b B F ho=>?_⟩;rw[aM rfl];have F:((s1.H++[none])[b]?).join=some B:=F;by_cases hb:b<s1.H.length
  .rw[kY hb] at F;have :=E.mem.lt b B F;rw[aq I];omega
  .rw[iy I] at F;by_cases e2:b-s1.H.length=0
   .rw[e2] at F;simp at F
   .rw[iW cp] at F;simp at F
 have e3:(fun k=>if k=s1.H.length then(w1.heap.size,0) else k6 k) bm=k6 bm:=aq I;have i2:=p.trans i2;have k3:=p.1;obtain⟨l4,j1,j2⟩:=c5.go _ _ _ i1 cp;have i4:=i3.step j2 I;have e4:l4 bm=k6 bm:=(j2.2.1 bm I).trans e3;have i4:lK (jK (l4 bm).1 (M []).clock [] (M []).clock) s1.H.length w l4 (Z98 []) (w1.alloc (jK (k6 bm).1 (M []).clock [] (M []).clock)):=by rw[e4];exact i4
 have j3:Step m ρ s w l4 (Z98 []) (w1.alloc (jK (k6 bm).1 (M []).clock [] (M []).clock)):=i2.trans ⟨by have :=j2.1;omega,fun x hx=>j2.2.1 x I,j2.2.2⟩;have j4:max m (s1.H.length+1)<=(Z98 []).H.length:=j2.1;refine wp_block ?_;refine IY (fun k a5 G=>∃ seen k5 c0,μ seen=k/\Z99 seen/\(M []).clock<=c0/\cn k5 n (Z98 seen) a5 G/\Step m ρ s w k5 (Z98 seen) G/\lK (jK (k5 bm).1 (M []).clock seen c0) s1.H.length w k5 (Z98 seen) G/\max m (s1.H.length+1)<=(Z98 seen).H.length) (k0:=μ []) ⟨[],l4,(M []).clock,rfl,a8,bz _,j1,j3,i4,j4⟩ ?_;rintro k a5 G ⟨seen,k5,c0,rfl,q,e5,r1,r2,d,r4⟩;obtain⟨m3,e6,e7⟩:=hI seen q;have b2:G.heap[(k5 bm).1]?=some (M seen).obj:=r1.mem.gY bm _ _ (c4 seen q) rfl;have j:=r1.tmps.slot tit;rw[c6 seen] at j;unfold VR at j;obtain⟨_,j⟩:=j;rw[d.zero,eX] at j;rcases YG (P:=P) (ty:=D.type) (T _ q) d.here b2 m3 e5 with⟨b3,y⟩|⟨e,he,e8,w6,W,y⟩
 ·
  have l5:(execOp a5.eval D).run P G= .ok (.value (.tuple #[.bool false])) G:=by
   unfold execOp;rw[h3];simp only[Act.eval,j,dx,y,eQ,dI]
  refine rm (Ic (m1:=max m (s1.H.length+1)) (v:= .aZ [.bool false]) rfl g3 d3 l5 ⟨eT.put r1.tmps (show kh n (some R) from z3) (by unfold VR;exact⟨_,rfl,ao.cons (by unfold VR;rfl) ao.nil⟩),r1.mem⟩ r4 (b0 seen q b3) ?_);rintro a2 f s2 l6 ⟨q0,q1⟩ L N;have l:=L.tmps.slot l0;rw[q0] at l;unfold VR at l;show Code.wp P _ _ a2 f;refine rm (DL l (fun hT=>by cases hT) fun _=>?_);refine wp_exit ?_;show Exit.inBlock C (E6 m n ρ s w (oA K Q)) (.exit C) a2 f;simp only[Exit.inBlock,eJ];have q4:Step m k5 (Z98 seen) G l6 s2 f:=⟨by have :=N.1;omega,fun x hx=>N.2.1 x I,N.2.2⟩;exact⟨s2,l6,q1,L,r2.trans q4⟩
 ·
  obtain⟨e9,m8,h0⟩:=c7 seen e q he e8;have l5:(execOp a5.eval D).run P G= .ok (.value (.tuple #[.bool true,(hO e).key,(hO e).val])) (setBlock w6 (k5 s1.H.length).1 (jK (k5 bm).1 (M []).clock (seen++[e.1]) (M seen).clock)):=by
   unfold execOp;rw[h3];simp only[Act.eval,j,dx,y,eQ,dI]
  have h1:cn k5 n (Z98 seen) a5 w6:=by rcases W with rfl|rfl;exact r1;exact r1.drew
  have h4:Step m ρ s w k5 (Z98 seen) w6:=by rcases W with rfl|rfl;exact r2;exact r2.drew
  have X:w6.heap[(k5 s1.H.length).1]?=some (jK (k5 bm).1 (M []).clock seen c0):=by rcases W with rfl|rfl<;>exact d.here
  have t1:=h1.Jv X (jK (k5 bm).1 (M []).clock (seen++[e.1]) (M seen).clock);have t2:=h4.Jv X d.D6 (jK (k5 bm).1 (M []).clock (seen++[e.1]) (M seen).clock);have b4:=(IP.1 X).1;have t3:lK (jK (k5 bm).1 (M []).clock (seen++[e.1]) (M seen).clock) s1.H.length w k5 ((Z98 seen).put (some R) (.aZ [.bool true,.u32 e.2.1,.i64 e.2.2])) (setBlock w6 (k5 s1.H.length).1 (jK (k5 bm).1 (M []).clock (seen++[e.1]) (M seen).clock)):=
   ⟨d.lt,d.zero,d.D6,by rw[KG,aM rfl,aM b4],d.own⟩
  generalize k4:setBlock w6 (k5 s1.H.length).1 (jK (k5 bm).1 (M []).clock (seen++[e.1]) (M seen).clock)=w7 at t1 t2 t3 l5;refine rm (Ic (m1:=max m (s1.H.length+1)) (v:= .aZ [.bool true,.u32 e.2.1,.i64 e.2.2]) rfl g3 d3 l5 ⟨eT.put t1.tmps (show kh n (some R) from z3) (by unfold VR;exact⟨_,rfl,ao.cons (by unfold VR;rfl) (ao.cons (by unfold VR;rfl) (ao.cons (by unfold VR;rfl) ao.nil))⟩),t1.mem⟩ r4 h0 ?_);rintro a2 f s2 l6 ⟨q0,q1,q5,q6⟩ L N;have l:=L.tmps.slot l0;rw[q0] at l;unfold VR at l;have t4:=t3.step N I;have h6:l6 bm=k5 bm:=N.2.1 bm I;show Code.wp P _ _ a2 f;refine rm (DL l (fun _=>?_) (fun hF=>by cases hF));refine wp_skip ?_;show Code.wp P _ _ a2 f;refine wp_block ?_;have Y:=L.mem.gY bm _ _ q5 rfl;have c:=L.tmps.slot tit;rw[q1] at c;unfold VR at c;obtain⟨_,c⟩:=c;rw[t4.zero,eX] at c;have h7:(execOp a2.eval o5).run P f= .ok (.value (.tuple #[(hO e).key,(hO e).val])) f:=by
   unfold execOp;rw[h5];have hh:=t4.here;rw[<-h6] at hh;simp only[Act.eval,c,dx,ake (T _ q) hh Y he e6,eQ,dI]
  refine rm (Ic (m1:=max m (s1.H.length+1)) (v:= .aZ [.u32 e.2.1,.i64 e.2.2]) S g5 d5 h7 ⟨eT.put L.tmps (show kh n (some te) from z5) (by unfold VR;exact⟨_,rfl,ao.cons (by unfold VR;rfl) (ao.cons (by unfold VR;rfl) ao.nil)⟩),L.mem⟩ N.1 q6 ?_);intro a3 w3 s3 l7 u1 u2 u3;have t5:Step (max m (s1.H.length+1)) k5 (Z98 seen) w7 l7 s3 w3:=N.trans u3;have t6:lK (jK (k5 bm).1 (M []).clock (seen++[e.1]) (M seen).clock) s1.H.length w l7 s3 w3:=t4.step u3 I;refine ni (tJ a6 g _ s3 u1 l7 a3 w3 u2 u3.1) ?_;rintro z a4 w4 ⟨s4,m7,v1,v2,v3⟩;have m2:(bJ (max m (s1.H.length+1)) n s4 (Z98 (seen++[e.1])))->∃ k',k'<μ seen/\∃ seen k5 c0,μ seen=k'/\Z99 seen/\(M []).clock<=c0/\cn k5 n (Z98 seen) a4 w4/\Step m ρ s w k5 (Z98 seen) w4/\lK (jK (k5 bm).1 (M []).clock seen c0) s1.H.length w k5 (Z98 seen) w4/\max m (s1.H.length+1)<=(Z98 seen).H.length:=fun hw=>by
   obtain⟨m4,x1,x2⟩:=hw.go m7 a4 w4 v2 v3.1;have x3:=t5.trans (v3.trans x2);have x4:=t6.step (v3.trans x2) I;have x5:m4 bm=k5 bm:=x3.2.1 bm I;rw[<-x5] at x4;refine⟨_,m8,_,m4,(M seen).clock,rfl,e9,e7,x1,t2.trans ⟨by have :=x3.1;omega,fun x hx=>x3.2.1 x I,x3.2.2⟩,x4,x3.1⟩
  cases z
  case normal=>exact m2 v1.2
  case exit i=>
   simp only[rE] at v1;simp only[Exit.inBlock];split at v1
   .rename_i h;rw[aM h];exact m2 v1.2
   .exact absurd v1.1 J
  all_goals exact absurd v1.1 J
end
end
theorem aej:jv []= .aZ []:=rfl
attribute [go_sem] gG qV and_self Nat.succ_ne_self cE cr fh Nat.one_ne_zero Nat.zero_ne_one Nat.not_lt_zero Nat.zero_lt_succ ge_iff_le gt_iff_lt AG eg p9 nF dM lq Int.natCast_zero dD gi jn iY kG yU ou xb vr vi xA Ep ED yv Option.bind_some lF xo eU iX nj nW List.drop_nil List.take_nil vO V.u8.injEq exists_eq' Nat.zero_mul Nat.one_mul eX Nat.mul_one nJ iG Int.cast_ofNat_Int ic yH kJ b7 bA cF dO kV CS yM bC oH yh Bool.true_and Bool.false_and Bool.and_true Bool.and_false Bool.true_or Bool.false_or Bool.or_true Bool.or_false vm decide_eq_false_iff_not beq_self_eq_true oR bz dY aa.mk.injEq
attribute [simp] aej VB vj RQ LC aW V.bd lows V.low Pf S8 Qe Oe Oh Lt Cf rG ON Oi pO oe L8 QD NJ Gi Qy OC
section
section
variable {P:Program}{m n:Nat}{R:Exit->St->Prop}{k:List Fr}{s:St}{l:List Oper}{ops:Array Oper}{dst:Option Tmp}
theorem WS (t:TypeId)(r:Option Operand):ir P m n R (.makeMap t r) dst l ops k s=jT P m n R (dK P (.makeMap t r) s.ev (ah s.H) s.H.length) dst l ops k s:=rfl
theorem goOp_lookup (t:TypeId)(x y:Operand)(b:Bool):ir P m n R (.lookup t x y b) dst l ops k s=jT P m n R (dK P (.lookup t x y b) s.ev (ah s.H) s.H.length) dst l ops k s:=rfl
theorem goOp_mapUpdate (t:TypeId)(x y z:Operand):ir P m n R (.mapUpdate t x y z) dst l ops k s=jT P m n R (dK P (.mapUpdate t x y z) s.ev (ah s.H) s.H.length) dst l ops k s:=rfl
end
theorem abW (b:Nat):V.one (.map b)=true:=rfl
attribute [go_sem] WS goOp_lookup goOp_mapUpdate abW
theorem Vh {P:Program}{m n:Nat}{c:Code}{Q Q':Exit->St->Prop}{s:St}(h:GS P m n c Q s)(b:∀ e s',Q e s'->Q' e s'):GS P m n c Q' s:=fun j a w d o=>by
 refine ni (h j a w d o) ?_;rintro e q r ⟨s',i,p,f,g⟩;exact⟨s',i,b e s' p,f,g⟩
theorem y7 {α g:Type}{f:α->g}:∀ {l:List α},(l.map f).Nodup->∀ {x y:α},x∈l->y∈l->f x=f y->x=y
 |[],_,x,_,b,_,_=>by cases b
 |a::l,h,x,y,b,c,e=>by
  have d:f a∉l.map f/\(l.map f).Nodup:=yW.1 h;rcases gz.1 b with h1|h1<;>rcases gz.1 c with h2|h2
  .rw[h1,h2]
  .exact absurd (eZ.2 ⟨y,h2,by rw[<-e,h1]⟩) d.1
  .exact absurd (eZ.2 ⟨x,h1,by rw[e,h2]⟩) d.1
  .exact y7 d.2 h1 h2 e
structure aV.ok (m:aV):Prop where
 stamps:(m.es.map (·.1)).Nodup
 below:∀ e∈m.es,e.1<m.clock
 keys:(m.es.map (·.2.1)).Nodup
theorem L7 (k:aQ):∀ (l:List (Nat×aQ×Int)),(l.map (·.2.1)).Nodup->rM k l=l.filter fun e=>! decide (e.2.1=k)
 |[],_=>rfl
 |e::l,h=>by
  have d:e.2.1∉l.map (·.2.1)/\(l.map (·.2.1)).Nodup:=yW.1 h;unfold rM;rw[zA];by_cases a:e.2.1=k
  .rw[aM a,nX a];simp only[oH,fh,fH];refine(List.filter_eq_self.2 fun x b=>?_).symm;have :x.2.1≠k:=fun c=>d.1 (eZ.2 ⟨x,b,c.trans a.symm⟩)
   simp[this]
  .rw[aq a,oZ a];simp only[yh,eJ];rw[L7 k l d.2]
theorem HP (k:aQ)(n:Int):∀ (l:List (Nat×aQ×Int)),(l.map (·.2.1)).Nodup->pH k n l=l.map fun e=>if e.2.1=k then(e.1,k,n) else e
 |[],_=>rfl
 |e::l,h=>by
  have d:e.2.1∉l.map (·.2.1)/\(l.map (·.2.1)).Nodup:=yW.1 h;unfold pH;rw[dD];by_cases a:e.2.1=k
  .rw[aM a,aM a];congr 1
   conv=>lhs;rw[<-zM l]
   refine sJ fun x b=>?_
   have :x.2.1≠k:=fun c=>d.1 (eZ.2 ⟨x,b,c.trans a.symm⟩)
   rw[aq this];rfl
  .rw[aq a,aq a,HP k n l d.2]
theorem HF {k:aQ}{n:Int}{s:Nat}:∀ {l:List (Nat×aQ×Int)},(l.map (·.2.1)).Nodup->(s,k,n)∈l->gk k l=some n
 |[],_,h=>by cases h
 |e::l,h,hm=>by
  have b:e.2.1∉l.map (·.2.1)/\(l.map (·.2.1)).Nodup:=yW.1 h;unfold gk;rcases gz.1 hm with rfl|hm
  .rw[aM rfl]
  .rw[aq (fun a=>b.1 (eZ.2 ⟨_,hm,a.symm⟩)),HF b.2 hm]
def om (h:Int->Bool)(l:List (Nat×aQ×Int))(seen:List Nat):List (Nat×aQ×Int):=l.filter fun e=>!(seen.contains e.1&&h e.2.2)
theorem aji (a:Int->Bool)(l:List (Nat×aQ×Int)):om a l []=l:=by
 unfold om;simp
theorem ai3 {g:Int->Bool}{m:aV}(i:m.ok){seen:List Nat}{e:Nat×aQ×Int}(j:e∈m.es)(d:e.1∉seen):
  om g m.es (seen++[e.1])=if g e.2.2=true then rM e.2.1 (om g m.es seen) else om g m.es seen:=by
 have f:((om g m.es seen).map (·.2.1)).Nodup:=FH (EB _ Dj) i.keys;rw[L7 _ _ f];unfold om;by_cases b:g e.2.2=true
 .rw[aM b,List.filter_filter];refine He fun x c=>?_
  by_cases a:x=e
  .subst a;simp[b]
  .have o:x.1≠e.1:=fun h=>a (y7 i.stamps c j h)
   have p:x.2.1≠e.2.1:=fun h=>a (y7 i.keys c j h)
   simp[o,p]
 .rw[aq b];refine He fun x c=>?_
  by_cases a:x=e
  .subst a;simp[b,d]
  .have o:x.1≠e.1:=fun h=>a (y7 i.stamps c j h)
   simp[o]
theorem agc {c:Int->Bool}{l:List (Nat×aQ×Int)}{seen:List Nat}(h:∀ e∈om c l seen,e.1∈seen):om c l seen=l.filter fun e=>! c e.2.2:=by
 unfold om at*;refine He fun x b=>?_
 by_cases a:x.1∈seen
 .simp[a]
 .have :x∈l.filter fun e=>!(seen.contains e.1&&c e.2.2):=qc.2 ⟨b,by simp[a]⟩
  exact absurd (h x this) a
def uC (l:List (Nat×aQ×Int))(seen:List Nat):Nat:=(l.filter fun e=>! seen.contains e.1).length
theorem OR {l:List (Nat×aQ×Int)}{seen:List Nat}{e:Nat×aQ×Int}(he:e∈l)(a:e.1∉seen):uC l (seen++[e.1])<uC l seen:=by
 have f:∀ (l:List (Nat×aQ×Int)),uC l (seen++[e.1])<=uC l seen:=fun l=>by
  induction l with
  |nil=>exact bz _
  |cons x l ih=>
   unfold uC at*;simp only[zA];by_cases c:x.1∈seen<;>by_cases d:x.1=e.1<;>simp[c,d] at ih |-<;>first|omega |(rw[d] at c;simp[c];omega)|skip
   all_goals simp_all
   all_goals omega
 induction l with
 |nil=>cases he
 |cons x l ih=>
  have b:=f l;rcases gz.1 he with rfl|he
  .unfold uC at*;simp only[zA];simp[a] at b |-
   omega
  .have :=ih he;unfold uC at*;simp only[zA];by_cases c:x.1∈seen<;>by_cases d:x.1=e.1
   .simp[c];simpa using this
   .simp[c];simpa using this
   .simp[d,a];simp at this;omega
   .simp[c,d];simpa using this
end
section
def Eu (m:aV):Prop:=m.ok/\∀ e∈m.es,0<=e.2.2/\e.2.2<=100
section
variable {H:aU}{b c:Nat}{cs:List V}
theorem cZ.put (h:cZ H)(d:lows H.length cs){m:Option aV}:cZ (H.set b (some ⟨false,cs,m⟩)):=fun c B a=>by
 rw[b7];by_cases e:b=c
 .subst e;by_cases f:b<H.length
  .rw[dr f] at a;cases a;exact⟨d,rfl⟩
  .have :=b8 a;rw[b7] at this;omega
 .rw[eA (fun g=>e g)] at a;exact h c B a
theorem cZ.cut (h:cZ H):cZ (H.set b none):=fun c B a=>by
 rw[b7];by_cases e:b=c
 .subst e;by_cases d:b<H.length
  .rw[dr d] at a;cases a
  .have :=b8 a;rw[b7] at this;omega
 .rw[eA (fun f=>e f)] at a;exact h c B a
theorem cZ.SC (h:cZ H)(e:lows (H.length+1) cs){m:Option aV}:cZ (H++[some ⟨false,cs,m⟩]):=fun c B a=>by
 have g:(H++[some (⟨false,cs,m⟩:aa)]).length=H.length+1:=J;rw[g];have d:=b8 a;rw[g] at d;by_cases f:c<H.length
 .rw[fJ f] at a;exact⟨rS I _ (h c B a).1,(h c B a).2⟩
 .obtain rfl:c=H.length:=I;rw[qb] at a;cases a;exact⟨e,rfl⟩
def cI (a:Option Nat)(H:aU):aU:=match a with
 |some x=>H.set x none
 |none=>H
end
end
section
def cS (sg:List Nat)(H h':aU):aU:=
 fX H (gn (bx (cu sg H.length h')) sg h')++iQ (bx (cu sg H.length h')) sg h'
section
variable {sg:List Nat}{H h':aU}
theorem wX:(cS sg H h').length=H.length+(h'.length-sg.length):=by
 unfold cS;rw[bA,jE,vA,cq,dO]
theorem Fw {b:Nat}(a:b<H.length)(c:b∉sg):ah (cS sg H h') b=ah H b:=by
 unfold cS;rw[fJ (by rw[jE];exact a),uH _ _ _ a,zP c]
theorem Aj {i nid:Nat}(hi:i<sg.length):bx (cu sg nid h') i=bx sg i:=AP hi
theorem xc {i nid:Nat}(h1:sg.length<=i)(h2:i<h'.length):bx (cu sg nid h') i=nid+(i-sg.length):=z8 h1 I
theorem Da (a:sg.Nodup)(c:∀ b∈sg,b<H.length){i:Nat}(hi:i<h'.length):
  ah (cS sg H h') (bx (cu sg H.length h') i)=ik (bx (cu sg H.length h')) (ah h' i):=by
 by_cases d:i<sg.length
 .rw[Aj d];have g:=rj d;have e:=c _ (lm g);unfold cS;rw[fJ (by rw[jE];exact e),uH _ _ _ e,BB a g hi];unfold ah;rfl
 .rw[xc I hi];unfold cS ah;rw[iy (by rw[jE];omega),jE,vA,dU,mA,show sg.length+(H.length+(i-sg.length)-H.length)=i by omega];cases h'[i]?<;>rfl
end
section
variable {P:Program}{m n:Nat}{R:Exit->St->Prop}{k:List Fr}{s:St}{l:List Oper}{ops:Array Oper}{dst:Option Tmp}
variable {f:FuncId}{fs cs args args0:List V}{v:V}{h h':aU}
end
end
section
section
variable {P:Program}{m n:Nat}{R:Exit->St->Prop}{k:List Fr}{l:List Oper}{ops:Array Oper}{dst:Option Tmp}
variable {f:FuncId}{fs cs args args0:List V}{v:V}{H H0 H':aU}{W W2:Nat->Prop}{b a:Nat}{vs ds:List V}
theorem Ge (t:List (Nat×V))(d:Nat)(v:V):di t (some d) v=(d,v)::t:=rfl
theorem HL (t:List (Nat×V))(v:V):di t none v=t:=rfl
attribute [go_sem] Ge HL
def fF (H0 H:aU):Prop:=∀ b B,ah H b=some B->B.ro=true->b<H0.length/\ah H0 b=some B
theorem fF.refl (H:aU):fF H H:=fun _ _ h _=>⟨b8 h,h⟩
theorem fF.trans (h:fF H0 H)(k:fF H H'):fF H0 H':=fun b B e r=>h b B (k b B e r).2 r
theorem fF.put (h:fF H0 H){b:Nat}{cs:List V}{m:Option aV}:fF H0 (H.set b (some ⟨false,cs,m⟩)):=fun c B e r=>by
 by_cases g:b=c
 .subst g;by_cases d:b<H.length
  .rw[dr d] at e;cases e;cases r
  .have :=b8 e;rw[b7] at this;omega
 .rw[eA g] at e;exact h c B e r
theorem fF.cut (h:fF H0 H){b:Nat}:fF H0 (H.set b none):=fun c B e r=>by
 by_cases g:b=c
 .subst g;by_cases d:b<H.length
  .rw[dr d] at e;cases e
  .have :=b8 e;rw[b7] at this;omega
 .rw[eA g] at e;exact h c B e r
theorem fF.app (h:fF H0 H){cs:List V}{m:Option aV}:fF H0 (H++[some ⟨false,cs,m⟩]):=fun c B e r=>by
 have d:=b8 e;by_cases g:c<H.length
 .rw[fJ g] at e;exact h c B e r
 .obtain rfl:c=H.length:=by rw[bA] at d;simp at d;omega
  rw[qb] at e;cases e;cases r
theorem fF.cI (h:fF H0 H)(a:Option Nat):fF H0 (cI a H):=by
 cases a with
 |none=>exact h
 |some x=>exact h.cut
open Classical in
noncomputable def tK (W:Nat->Prop) (n:Nat):List Nat:=(List.range n).filter fun b=>decide (W b)
theorem Bb {b n:Nat}:b∈tK W n↔b<n/\W b:=by unfold tK;simp
theorem wK {h h':aU}(E:bp P f args h v h')(sg:List Nat)(M:sg.length=h.length)(o:lows h.length args)(u:sg.Nodup)(p:∀ b∈sg,b<H.length)
  (q:∀ b B,ah h b=some B->ah H (bx sg b)=some ⟨B.ro,aW (bx sg) B.cs,B.mp⟩/\lows h.length B.cs) (x:∀ b B,ah h' b=some B->(h.length<=b\/ah h b=none)->B.ro=false) (N:h.length<=h'.length):
  bp P f (aW (bx sg) args) H (v.bd (bx (cu sg H.length h'))) (cS sg H h'):=by
 have F:=G5 (get0:=ah H) (nid:=H.length) E M o u p q x N;intro S w i G T;refine(F S (· <H.length) (ah H) w i T G (fun b d=>⟨rfl,id⟩) (fun b h1 _ (Q:b<H.length)=>by omega)).mono ?_;rintro e X ⟨r,O,h1,Q,y,D,z⟩;have A:(iQ (bx (cu sg H.length h')) sg h').length=h'.length-sg.length:=by rw[vA,cq,dO]
 have c:(cS sg H h').length=H.length+(h'.length-sg.length):=wX;have g:∀ b,gr (· <H.length) H.length (iQ (bx (cu sg H.length h')) sg h').length b->b<(cS sg H h').length:=fun b d=>by
  rw[c];rw[A] at d;rcases d with d|⟨_,d⟩<;>omega
 have s:∀ b,eu (ah H) (gn (bx (cu sg H.length h')) sg h') H.length (iQ (bx (cu sg H.length h')) sg h') b=ah (cS sg H h') b:=fun b=>by
  unfold eu cS;by_cases d:b<H.length
  .rw[aq I,fJ (by rw[jE];exact d),uH _ _ _ d]
  .have K:ah (fX H (gn (bx (cu sg H.length h')) sg h')++iQ (bx (cu sg H.length h')) sg h') b=(iQ (bx (cu sg H.length h')) sg h')[b-H.length]?.join:=by
    unfold ah;rw[iy (by rw[jE];omega),jE]
   rw[K];by_cases L:b<H.length+(iQ (bx (cu sg H.length h')) sg h').length
   .rw[aM ⟨I,L⟩]
   .rw[aq I,iW I];have t:b∉sg:=fun C=>d (p b C)
    rw[zP t,TW I];rfl
 have j:=funext s;simp only at y D z;rw[j] at y z;exact⟨r,O,h1,D.mono (fun _ _=>rfl) g (cN.refl X),y.sn g,by rw[c];omega,Q,z⟩
theorem Ow {cs1 cs2:List V}(q:bp P f (.ptr 0 0::args) [bK cs1] v [bK cs2])(y:ah H b=bK cs1)(r:∀ x,aW x args=args)(i:∀ n,lows n args)(h1:∀ x,aW x cs1=cs1)(j:∀ n,lows n cs1)(h2:∀ x,aW x cs2=cs2)(s:∀ x,v.bd x=v):
  bp P f (.ptr b 0::args) H v (H.set b (bK cs2)):=by
 have o:=b8 y;have h:=wK (H:=H) q [b] rfl ⟨Nat.one_pos,i 1⟩ J (fun c hc=>by rw[oQ.1 hc];exact o) (fun c B e=>by
  match c with
  |0=>
   have t:bK cs1=some B:=e;cases t;exact⟨by rw[h1];exact y,j _⟩
  |c+1=>simp[ah] at e) (fun c B e hc=>by
  have :=b8 e
  match c with
  |0=>rcases hc with hc|hc<;>simp[ah] at hc
  |c+1=>simp[ah] at e) (bz _)
 have u:aW (bx [b]) (.ptr 0 0::args)= .ptr b 0::args:=by
  unfold aW V.bd;rw[r];rfl
 have w:cS [b] H [bK cs2]=H.set b (bK cs2):=by
  unfold cS;simp[gn,iQ,fX,ik,aa.bd,h2]
 rw[u,w,s] at h;exact h
end
end
section
open Go Go.RowKit
structure gH (sg:List Nat) (h H:aU):Prop where
 len:sg.length=h.length
 nd:sg.Nodup
 lt:∀ b∈sg,b<H.length
 dc:∀ b B,ah h b=some B->ah H (bx sg b)=some ⟨B.ro,aW (bx sg) B.cs,B.mp⟩/\lows h.length B.cs
structure si (h h':aU):Prop where
 le:h.length<=h'.length
 ro:∀ b B,ah h' b=some B->(h.length<=b\/ah h b=none)->B.ro=false
 bD:∀ b B,ah h' b=some B->lows h'.length B.cs
section
variable {sg sg1 sg2:List Nat}{h h' h1 h2 h1' H H':aU}{P:Program}{m n:Nat}{R:Exit->St->Prop}{k:List Fr}{l:List Oper}{ops:Array Oper}{dst:Option Tmp}{f:FuncId}{args args0:List V}{v v':V}{t:List (Nat×V)}
theorem gH.mem (a:gH sg h H){i:Nat}(hi:i<h.length):bx sg i∈sg:=lm (rj (by rw[a.len];exact hi))
theorem gH.T8 (a:gH sg h H){i:Nat}(hi:i<h.length):bx sg i<H.length:=a.lt _ (a.mem hi)
theorem PB {b N:Nat}(a:b∈cu sg N h'):b∈sg\/(N<=b/\b<N+(h'.length-sg.length)):=by
 rcases gZ.1 a with a|a
 .exact .inl a
 .rw[wW] at a;exact .inr a
theorem gH.call (c:gH sg h H)(g:si h h'):gH (cu sg H.length h') h' (cS sg H h'):=by
 have j:=c.len;have o:=g.le;refine⟨?_,?_,fun b d=>?_,fun b B e=>⟨?_,g.bD b B e⟩⟩
 .unfold cu;rw[bA,List.length_range'];omega
 .unfold cu;refine IA.2 ⟨c.nd,List.nodup_range',fun a i b d e=>?_⟩;have :=c.lt a i;rw[wW] at d;omega
 .rw[wX];rcases PB d with d|d
  .have :=c.lt b d;omega
  .omega
 .have :=Da (sg:=sg) (H:=H) (h':=h') c.nd c.lt (b8 e);rw[e] at this;exact this
theorem agX {N:Nat}(h0:0<sg.length):bx (cu sg N h') 0=bx sg 0:=Aj h0
theorem gH.stay (c:gH sg h H)(j:H.length<=H'.length)(d:∀ i B,ah h i=some B->ah H' (bx sg i)=ah H (bx sg i)):gH sg h H':=
 ⟨c.len,c.nd,fun b g=>pI (c.lt b g) j,fun b B e=>⟨(d b B e).trans (c.dc b B e).1,(c.dc b B e).2⟩⟩
end
end
section
def sG (e:Nat->Nat):List Nat->aU->aU->List (Nat×Option aa)
 |i::sg,some _::h,x::h'=>(i,ik e x)::sG e sg h h'
 |_::sg,none::h,_::h'=>sG e sg h h'
 |_,_,_=>[]
section
variable {P:Program}{f:FuncId}{args:List V}{h h':aU}{v:V}{sg:List Nat}{get0:Nat->Option aa}{nid:Nat}
end
section
variable {P:Program}{m n:Nat}{R:Exit->St->Prop}{k:List Fr}{s:St}{l:List Oper}{ops:Array Oper}{dst:Option Tmp}
variable {f:FuncId}{fs cs args args0:List V}{v:V}{h h':aU}
def V7 (sg:List Nat)(nid:Nat)(v:V)(h h':aU):bu:={v:=v.bd (bx (cu sg nid h')),pre:=True,fp:=sg,old:=sG (bx (cu sg nid h')) sg h h',news:=iQ (bx (cu sg nid h')) sg h'}
end
theorem ai4 (a:Nat->Nat)(i:Nat)(sg:List Nat)(B:aa)(h:aU)(x:Option aa)(h':aU):sG a (i::sg) (some B::h) (x::h')=(i,ik a x)::sG a sg h h':=by rw[sG]
theorem ac7 (a:Nat->Nat)(i:Nat)(sg:List Nat)(h:aU)(x:Option aa)(h':aU):sG a (i::sg) (none::h) (x::h')=sG a sg h h':=by rw[sG]
theorem VP (a:Nat->Nat)(h h':aU):sG a [] h h'=[]:=by unfold sG;rfl
attribute [go_sem] V7 ai4 ac7 VP
end
section
section
variable {P:Program}{m n:Nat}{R:Exit->St->Prop}{k:List Fr}{s:St}{l:List Oper}{ops:Array Oper}{dst:Option Tmp}
variable {f:FuncId}{fs cs args args0:List V}{v:V}{h h':aU}
end
end
section
open Go Go.RowKit
mutual
theorem V.HQ {σ:Nat->Nat}{n m:Nat}(h:∀ b,b<n->σ b<m):∀ (v:V),v.low n->(v.bd σ).low m
 | .bH,_| .bool _,_| .u8 _,_| .u32 _,_| .u64 _,_| .i64 _,_| .i32 _,_| .str _,_| .nilPtr,_| .bG,_| .ff,_| .nilIface,_=>by unfold V.bd V.low;trivial
 | .iV _ _ v,hb=>by unfold V.low at hb;unfold V.bd V.low;exact V.HQ h v hb
 | .ptr b _,hb=>by unfold V.low at hb;unfold V.bd V.low;exact h b hb
 | .map b,hb=>by unfold V.low at hb;unfold V.bd V.low;exact h b hb
 | .slice b _ _ _,hb=>by unfold V.low at hb;unfold V.bd V.low;exact h b hb
 | .fn _ fs cs,hb=>by unfold V.low at hb;unfold V.bd V.low;exact⟨zG h fs hb.1,zG h cs hb.2⟩
 | .agg cs,hb=>by unfold V.low at hb;unfold V.bd V.low;exact zG h cs hb
 | .aZ cs,hb=>by unfold V.low at hb;unfold V.bd V.low;exact zG h cs hb
 | .iface _ v,hb=>by unfold V.low at hb;unfold V.bd V.low;exact V.HQ h v hb
theorem zG {σ:Nat->Nat}{n m:Nat}(h:∀ b,b<n->σ b<m):∀ (l:List V),lows n l->lows m (aW σ l)
 |[],_=>by unfold aW;trivial
 |v::l,hb=>by unfold lows at hb;unfold aW;exact⟨V.HQ h v hb.1,zG h l hb.2⟩
end
section
variable {sg ix:List Nat}{h h' d d' H H':aU}{P:Program}{f:FuncId}{args:List V}{v:V}
structure Dv (d:aU):Prop where
 x7:∀ b B,ah d b=some B->B.ro=false
 bD:∀ b B,ah d b=some B->lows d.length B.cs
 pos:0<d.length
theorem cZ.cS (o:cZ H)(a:gH sg d H)(n:si d d'):cZ (cS sg H d'):=fun b B e=>by
 have s:=a.len;have u:=n.le;have c:=b8 e;rw[wX] at c;refine⟨?_,rfl⟩;rw[wX];have p:∀ j,j<d'.length->bx (cu sg H.length d') j<H.length+(d'.length-sg.length):=fun j q=>by
  by_cases g:j<sg.length
  .rw[Aj g];have :=a.T8 (i:=j) I;omega
  .rw[xc I q];omega
 by_cases k:b<H.length/\b∉sg
 .rw[Fw k.1 k.2] at e;exact rS I _ (o b B e).1
 .obtain⟨i,t,rfl⟩:∃ i,i<d'.length/\bx (cu sg H.length d') i=b:=by
   by_cases l:b<H.length
   .have w:b∈sg:=ug fun r=>k ⟨l,r⟩
    obtain⟨i,t,rfl⟩:=lr w;exact⟨i,I,by rw[Aj t];unfold bx;rw[bY,bn t];rfl⟩
   .exact⟨sg.length+(b-H.length),I,by rw[xc I I];omega⟩
  rw[Da a.nd a.lt t] at e;cases m:ah d' i with
  |none=>rw[m] at e;cases e
  |some C=>
   rw[m] at e;cases e;exact zG p _ (n.bD i C m)
theorem ajo (c:gH sg d H)(l:si d d'){b:Nat}{B:aa}(e:ah (cS sg H d') b=some B):(ah H b=some B/\b∉sg/\b<H.length)\/∃ i C,ah d' i=some C/\B=C.bd (bx (cu sg H.length d')):=by
 have n:=c.len;have p:=l.le;have g:=b8 e;rw[wX] at g;by_cases a:b<H.length/\b∉sg
 .rw[Fw a.1 a.2] at e;exact .inl ⟨e,a.2,a.1⟩
 .obtain⟨i,o,rfl⟩:∃ i,i<d'.length/\bx (cu sg H.length d') i=b:=by
   by_cases j:b<H.length
   .have q:b∈sg:=ug fun m=>a ⟨j,m⟩
    obtain⟨i,o,rfl⟩:=lr q;exact⟨i,I,by rw[Aj o];unfold bx;rw[bY,bn o];rfl⟩
   .exact⟨sg.length+(b-H.length),I,by rw[xc I I];omega⟩
  rw[Da c.nd c.lt o] at e;cases k:ah d' i with
  |none=>rw[k] at e;cases e
  |some C=>
   rw[k] at e;cases e;exact .inr ⟨i,C,k,rfl⟩
end
end
section
section
variable {H:aU}{b:Nat}
end
end
section
section
variable {P:Program}{f:FuncId}{args:List V}{v:V}{H H0 H':aU}{W:Nat->Prop}{b:Nat}{cs1 cs2:List V}
theorem qk {b:Nat}{X:aU}(h:b<H.length):ah (H++X) b=ah H b:=fJ h X
theorem th {b:Nat}{X Y:aU}(h:b<H.length):ah (H++X++Y) b=ah H b:=by rw[fJ (by rw[bA];omega),fJ h]
theorem AW {b:Nat}{X Y Z96:aU}(h:b<H.length):ah (H++X++Y++Z96) b=ah H b:=by rw[fJ (by rw[bA,bA];omega),th h]
theorem ja {x:Option aa}:ah (H++[x]) H.length=x:=qb H x []
theorem Dy {x:Option aa}{Y:aU}:ah (H++[x]++Y) H.length=x:=by rw[fJ J];exact ja
theorem KN {x:Option aa}{Y Z96:aU}:ah (H++[x]++Y++Z96) H.length=x:=by rw[fJ J];exact Dy
theorem KO {x y:Option aa}:ah (H++[x]++[y]) (H.length+1)=y:=by
 have h:=ja (H:=H++[x]) (x:=y);rw[bA] at h;exact h
theorem QQ {x y:Option aa}{Z96:aU}:ah (H++[x]++[y]++Z96) (H.length+1)=y:=by rw[fJ J];exact KO
theorem F9 {x y z:Option aa}:ah (H++[x]++[y]++[z]) (H.length+2)=z:=by
 have h:=ja (H:=H++[x]++[y]) (x:=z);rw[bA,bA] at h;exact h
attribute [go_sem] ja Dy KN KO QQ F9
end
end
section
section
variable {cs ds:List V}{n m i:Nat}
end
section
variable {H H0:aU}{W:Nat->Prop}{b:Nat}{vs:List V}
end
end
def xH (a:Nat->Nat):List (List Nat×List Nat)->List (List Nat×List Nat)->Prop
 |[],[]=>True
 |x::l,y::c=>((∀ b∈x.1,a b∈y.1)/\(∀ b∈x.2,a b∈y.2))/\xH a l c
 |_,_=>False
theorem Of {c:Nat->Nat}:∀ {l l':List (List Nat×List Nat)},xH c l l'->∀ (i:Nat) x,l[i]?=some x->∃ y,l'[i]?=some y/\(∀ b∈x.1,c b∈y.1)/\(∀ b∈x.2,c b∈y.2)
 |[],[],_,i,x,h=>by simp at h
 |x::l,y::l',h,0,z,a=>by simp at a;subst a;exact⟨y,rfl,h.1⟩
 |x::l,y::l',h,i+1,z,a=>by simpa using Of h.2 i z (by simpa using a)
 |[],_::_,h,_,_,_=>h.elim
 |_::_,[],h,_,_,_=>h.elim
theorem Ss {c:Nat->Nat}{a b a' d:List Nat}(e:∀ x∈a,c x∈a')(f:∀ x∈b,c x∈d)(h:meets a' d=false):meets a b=false:=by
 unfold meets at*;rw[List.any_eq_false] at h |-
 intro x g i;refine h (c x) (e x g) ?_;rw[List.contains_iff_mem] at i |-
 exact f x i
theorem afU {ops:Array Oper}{o i:Oper}{a:Nat->Nat}{e c f d:List Nat×List Nat}(h1:∀ b∈e.1,a b∈f.1)(h2:∀ b∈e.2,a b∈f.2)(k:∀ b∈c.1,a b∈d.1)(j:∀ b∈c.2,a b∈d.2)
  (h:oh ops o i f d=true):oh ops o i e c=true:=by
 unfold oh at*;simp only[lY,vm] at h |-
 obtain⟨⟨⟨l,m⟩,n⟩,p⟩:=h;refine⟨⟨⟨l,m⟩,Ss h2 (fun x g=>?_) n⟩,Ss j (fun x g=>?_) p⟩
 .rcases gZ.1 g with h|h
  .exact gZ.2 (.inl (k x h))
  .exact gZ.2 (.inr (j x h))
 .rcases gZ.1 g with h|h
  .exact gZ.2 (.inl (h1 x h))
  .exact gZ.2 (.inr (h2 x h))
theorem jg {ops:Array Oper}{tr:List (List Nat×List Nat)}(e:Nat->Nat)(a:List (List Nat×List Nat))(h:mS ops a=true)(g:xH e tr a):mS ops tr=true:=by
 unfold mS at*;simp only[sk] at h |-
 have n:∀ (x:Oper×(List Nat×List Nat)) (j:Nat),(x,j)∈(ops.toList.zip tr).zipIdx->∃ y,(∀ b∈x.2.1,e b∈y.1)/\(∀ b∈x.2.2,e b∈y.2)/\((x.1,y),j)∈(ops.toList.zip a).zipIdx:=fun x j c=>by
  rw[Gs] at c;simp only at c;rw[I4] at c;obtain⟨o,p⟩:=c;obtain⟨y,q,r,s⟩:=Of g j x.2 p;refine⟨y,r,s,?_⟩;rw[Gs];simp only;rw[I4];exact⟨o,q⟩
 rintro⟨x,j⟩ c;obtain⟨y,t,v,w⟩:=n x j c;have f:=h _ w;simp only[lY] at f |-
 refine⟨f.1,?_⟩;have d:=f.2;rw[sk] at d |-
 rintro⟨z,i⟩ k;obtain⟨u,A,l,m⟩:=n z i k;have hi:=d _ m;simp only[DW] at hi |-
 rcases hi with hi|hi
 .exact .inl hi
 .exact .inr (afU A l t v hi)
def Aw (N x:Nat):Nat:=if x<N then 0 else x-N+1
theorem WW {N x:Nat}(h:x<N):Aw N x=0:=aM h
theorem Wc (N:Nat):Aw N N=1:=by unfold Aw;rw[aq (DU N)];omega
theorem aic (N k:Nat):Aw N (N+k)=k+1:=by unfold Aw;rw[aq I];omega
theorem Mw (a:Nat->Nat):∀ (tr:List (List Nat×List Nat)),xH a tr (tr.map fun e=>(e.1.map a,e.2.map a))
 |[]=>trivial
 |e::tr=>⟨⟨fun b c=>eZ.2 ⟨b,c,rfl⟩,fun b c=>eZ.2 ⟨b,c,rfl⟩⟩,Mw a tr⟩
theorem ahA {ops:Array Oper}{tr a:List (List Nat×List Nat)}(b:Nat->Nat)(h:mS ops a=true)(c:(tr.map fun e=>(e.1.map b,e.2.map b))=a):mS ops tr=true:=
 jg b a h (by rw[<-c];exact Mw b tr)
def jY (N x:Nat):Nat:=if x<N then 0 else 1
theorem iN {N x:Nat}(h:x<N):jY N x=0:=aM h
theorem xx (N:Nat):jY N N=1:=aq (DU N)
theorem KD (N k:Nat):jY N (N+k)=1:=aq I
theorem rN (N:Nat)(l:List Nat):(∀ b∈l,jY N b∈[0,1])=True:=gg fun b _=>by unfold jY;split <;>simp
theorem C6 (N k:Nat):(∀ b∈List.range' N k,jY N b∈[1])=True:=gg fun b a=>by
 rw[wW] at a;unfold jY;rw[aq I];simp
theorem agF (N a b:Nat):jY N (N+a+b)=1:=aq I
theorem jA (a:Nat->Nat)(x y:List Nat×List Nat)(l l':List (List Nat×List Nat)):xH a (x::l) (y::l')=(((∀ b∈x.1,a b∈y.1)/\(∀ b∈x.2,a b∈y.2))/\xH a l l'):=rfl
theorem jy (a:Nat->Nat):xH a [] []=True:=rfl
theorem cv (Q:Nat->Prop):(∀ b∈([]:List Nat),Q b)=True:=J
theorem all_cons (a:Nat)(l:List Nat)(Q:Nat->Prop):(∀ b∈a::l,Q b)=(Q a/\∀ b∈l,Q b):=J
theorem j6 (l:List Nat):(0∈0::l)=True:=J
theorem aa6:(1∈[0,1])=True:=J
theorem pB:(1∈[1])=True:=J
def mL (d N x:Nat):Nat:=if x=d then 2 else if x<N then 0 else 1
theorem B4 (d N:Nat):mL d N d=2:=aM rfl
theorem uX {d N x:Nat}(h:x<N)(a:x≠d):mL d N x=0:=by unfold mL;rw[aq a,aM h]
theorem J3 {d N k:Nat}(h:d<N):mL d N (N+k)=1:=by unfold mL;rw[aq I,aq I]
theorem IN {d N:Nat}(h:d<N):mL d N N=1:=by unfold mL;rw[aq I,aq I]
theorem ZT (d N:Nat)(l:List Nat):(∀ b∈l,mL d N b∈[0,1,2])=True:=gg fun b _=>by unfold mL;split <;>(try split)<;>simp
theorem FO (a:Nat):(2∈[a,2])=True:=J
section
section
variable {H H0:aU}{W:Nat->Prop}{d m n:Nat}{cs:List V}
variable {here:aQ}{own aP af:Z}{ac:Int}{fresh:aS}{cz:Z}{index:aQ}{ct now:Int}{busy:Bool}{kz:V}{paths bucket:Nat}{out aT out' got':V}
theorem xR {b a:Nat}{X Y:aU}{x:Option aa}(h:b<H.length)(c:a≠b):ah ((H++X).set a x++Y) b=ah H b:=by
 rw[fJ (by rw[b7,bA];omega),eA c,fJ h]
end
end
section
section
variable {P:Program}{m n N k:Nat}{R:Exit->St->Prop}{ks:List Fr}{l:List Oper}{ops:Array Oper}{dst:Option Tmp}{t:List (Nat×V)}
variable {f:FuncId}{args:List V}{H H0:aU}{W:Nat->Prop}{b:Nat}{bs cs:Z}
theorem pz {c:Nat}{x y:Option aa}(h:c<H.length):ah ((H++[x]).set H.length y) c=ah H c:=by rw[eA I,fJ h]
theorem pM {x y:Option aa}:ah ((H++[x]).set H.length y) H.length=y:=dr J _
theorem Bi (N:Nat)(l:Z):lows N (l.map .u8):=by
 induction l with
 |nil=>trivial
 |cons x l ih=>exact⟨trivial,ih⟩
theorem S5 (a:Nat->Nat)(l:Z):aW a (l.map .u8)=l.map .u8:=by
 induction l with
 |nil=>unfold aW;rfl
 |cons x l ih=>rw[dD];unfold aW V.bd;rw[ih]
theorem SE {h':aU}(c:bp P f (.slice 0 0 N 1::args) [bK (bs.map .u8)] (.slice 1 0 k 1) [none,bK (cs.map .u8)])(d:∀ g,aW g args=args)(a:lows 1 args)(e:ah H b=bK (bs.map .u8)):
  aW (bx [b]) (.slice 0 0 N 1::args)= .slice b 0 N 1::args/\lu (bx [b]) 1 ⟨t,H⟩ [bK (bs.map .u8)] 0/\cS [b] H [none,bK (cs.map .u8)]=H.set b none++[bK (cs.map .u8)]:=by
 refine⟨?_,⟨⟨?_,Bi _ _⟩,trivial⟩,?_⟩
 .unfold aW V.bd;rw[d];rfl
 .show ah H b=_;rw[e];show _=some (aa.mk _ (aW _ _) _);rw[S5]
 .unfold cS;simp only[gn,iQ,fX,ik,xb,ou,dD,gi,aa.bd,S5]
theorem OI (b:Nat)(x y:Option aa):bx (cu [b] N [x,y]) 1=N:=by
 rw[xc J J];simp
variable {v v':V}{ds:List V}
theorem EV (c:bp P f args [] v [bK ds])(d:∀ o,aW o args=args)(a:lows 0 args)(g:∀ o,aW o ds=ds)(i:∀ o:Nat->Nat,o 0=H.length->v.bd o=v'):bp P f args H v' (H++[bK ds]):=by
 have h:=wK (H:=H) c [] rfl a J J (fun b B e=>by simp[ah] at e) (fun b B e _=>by
  match b with
  |0=>have j:bK ds=some B:=e;cases j;rfl
  |b+1=>simp[ah] at e) (lI _)
 have p:bx (cu [] H.length [bK ds]) 0=H.length:=by rw[xc J J];simp
 rw[d,i _ p] at h;have e:cS [] H [bK ds]=H++[bK ds]:=by simp[cS,gn,iQ,fX,ik,aa.bd,g]
 rw[e] at h;exact h
end
end
end Go.Vm
end
section
namespace Go.Vm
open Go Go.RowKit
inductive Rl where
 |link|nodes|aO
 |node (j:Nat)|all (j:Nat)
 |dev (j:Nat)|pX (j:Nat)|out (j:Nat)|aT (j:Nat)|bk (j:Nat)|bm (j:Nat)|path (j:Nat)
 |peer (j i:Nat)|tm (j i:Nat)|wt (j i:Nat)|bg (j i:Nat)|eC (j i:Nat)|pair (j i a:Nat)|iT (j i a:Nat)
abbrev RK:=Nat->Option Rl
def gm (K:RK)(b:Nat)(r:Option Rl):RK:=fun x=>if x=b then r else K x
def kj (a:Option Nat)(K:RK):RK:=match a with
 |none=>K
 |some x=>gm K x none
structure Cx (K0:RK) (H0:aU) (Q:Rl->Prop) (K:RK) (H:aU):Prop where
 len:H0.length<=H.length
 de:∀ b,b<H0.length->(∀ r,K0 b=some r->¬ Q r)->ah H b=ah H0 b
 stay:∀ b r,K0 b=some r->¬ Q r->K b=some r
 od:∀ b r,b<H0.length->K b=some r->∃ r0,K0 b=some r0/\(r0=r\/(Q r0/\Q r))
 ro:fF H0 H
 bD:cZ H
 fresh:∀ b,H.length<=b->K b=none
 old:∀ b r,K0 b=some r->b<H0.length
section
variable {K K0 K':RK}{H H0 H':aU}{vs ds zs ys:List V}{b c n m:Nat}{r:Rl}{Q Q2:Rl->Prop}{o:Option Rl}
theorem lS:gm K b o b=o:=aM rfl
theorem iS (h:c≠b):gm K b o c=K c:=aq h
theorem Pn {a:Option Nat}(h:∀ x,a=some x->b≠x):kj a K b=K b:=by
 cases a with
 |none=>rfl
 |some x=>exact iS (h x rfl)
theorem Rf {a:Option Nat}(h:kj a K b=some r):K b=some r/\∀ x,a=some x->b≠x:=by
 cases a with
 |none=>exact⟨h,fun _ e=>by cases e⟩
 |some x=>
  by_cases e:b=x
  .subst e;have d:kj (some b) K b=none:=lS;rw[d] at h;cases h
  .have g:kj (some x) K b=K b:=iS e;rw[g] at h;exact⟨h,fun y i=>by cases i;exact e⟩
theorem xu {a:Option Nat}:(cI a H).length=H.length:=by cases a<;>simp[cI]
theorem agl {a:Option Nat}(h:∀ x,a=some x->b≠x):ah (cI a H) b=ah H b:=by
 cases a with
 |none=>rfl
 |some x=>exact eA (fun e=>h x rfl e.symm) _
theorem cZ.afi (h:cZ H)(a:Option Nat):cZ (cI a H):=by
 cases a with
 |none=>exact h
 |some x=>exact h.cut
theorem Cx.refl (a:cZ H)(g:∀ b,H.length<=b->K b=none)(Q:Rl->Prop):Cx K H Q K H:=⟨bz _,fun _ _ _=>rfl,fun _ _ e _=>e,fun b r _ e=>⟨r,e,.inl rfl⟩,.refl H,a,g,fun b r e=>ug fun d=>by rw[g b I] at e;cases e⟩
theorem Cx.start (h:Cx K0 H0 Q K H)(Q2:Rl->Prop):Cx K H Q2 K H:= .refl h.bD h.fresh _
theorem Cx.lt (h:Cx K0 H0 Q K H)(a:K b=some r):b<H.length:=ug fun d=>by rw[h.fresh b I] at a;cases a
theorem Cx.mono (h:Cx K0 H0 Q K H)(a:∀ r,Q r->Q2 r):Cx K0 H0 Q2 K H:=
 ⟨h.len,fun b d g=>h.de b d fun r e i=>g r e (a r i),fun b r e g=>h.stay b r e fun i=>g (a r i),fun b r d e=>by
  obtain⟨j,p,q⟩:=h.od b r d e;exact⟨j,p,q.imp id fun h=>⟨a _ h.1,a _ h.2⟩⟩,h.ro,h.bD,h.fresh,h.old⟩
theorem Cx.get (h:Cx K0 H0 Q K H)(a:K0 b=some r)(d:b<H0.length)(g:¬ Q r):ah H b=ah H0 b:=h.de b d fun i e=>by rw[a] at e;cases e;exact g
theorem Cx.call (h:Cx K0 H0 Q K H)(h2:Cx K H Q2 K' H')(j:∀ r,Q2 r->Q r):Cx K0 H0 Q K' H':=by
 have h2:=h2.mono j;refine⟨j7 h.len h2.len,fun b a d=>(h2.de b (pI a h.len) fun r e=>?_).trans (h.de b a d),fun b r e d=>h2.stay b r (h.stay b r e d) d,fun b r a e=>?_,h.ro.trans h2.ro,h2.bD,h2.fresh,h.old⟩
 .obtain⟨i,g,h0⟩:=h.od b r a e;rcases h0 with rfl|⟨h0,-⟩
  .exact d _ g
  .exact absurd h0 (d _ g)
 .obtain⟨q,p,h1⟩:=h2.od b r (pI a h.len) e;obtain⟨i,g,h0⟩:=h.od b q a p;refine⟨i,g,?_⟩;rcases h1 with rfl|h1
  .exact h0
  .rcases h0 with rfl|h0
   .exact .inr h1
   .exact .inr ⟨h0.1,h1.2⟩
theorem Cx.mQ (h:Cx K0 H0 Q K H)(a:K0 b=none)(d:b<H0.length):ah H b=ah H0 b:=h.de b d fun r e=>by rw[a] at e;cases e
def Wr (Q:Rl->Prop)(K:RK)(b:Nat):Prop:=∃ r,K b=some r/\Q r
theorem Cx.Zx (h:Cx K0 H0 Q K H)(a:b<H0.length)(d:¬ Wr Q K0 b):ah H b=ah H0 b:=h.de b a fun r e g=>d ⟨r,e,g⟩
theorem Cx.DV (h:Cx K0 H0 Q K H)(e:K b=some r)(g:Q r)(i:b<H0.length):¬ ∀ r,K0 b=some r->¬ Q r:=fun a=>by
 obtain⟨j,d,p⟩:=h.od b r i e;rcases p with rfl|⟨p,-⟩
 .exact a _ d g
 .exact a _ d p
theorem Cx.put (h:Cx K0 H0 Q K H)(a:K b=some r)(g:Q r)(i:lows H.length vs){mm:Option aV}:Cx K0 H0 Q K (H.set b (some ⟨false,vs,mm⟩)):=
 ⟨by rw[b7];exact h.len,fun c j d=>by rw[eA (fun e=>by subst e;exact h.DV a g j d)];exact h.de c j d,h.stay,h.od,h.ro.put,h.bD.put i,fun b a=>h.fresh b (by rw[b7] at a;exact a),h.old⟩
theorem Cx.bH (h:Cx K0 H0 Q K H)(a:lows (H.length+1) vs){mm:Option aV}:Cx K0 H0 Q K (H++[some ⟨false,vs,mm⟩]):=
 ⟨by rw[bA];exact j7 h.len (ut _ _),fun c g d=>by rw[fJ (pI g h.len)];exact h.de c g d,h.stay,h.od,h.ro.app,h.bD.SC a,fun b e=>h.fresh b (by rw[bA] at e;omega),h.old⟩
theorem Cx.Gj (h:Cx K0 H0 Q K H)(d:H0.length<=b)(e:lows H.length vs){mm:Option aV}:Cx K0 H0 Q K (H.set b (some ⟨false,vs,mm⟩)):=
 ⟨by rw[b7];exact h.len,fun c i g=>by rw[eA I];exact h.de c i g,h.stay,h.od,h.ro.put,h.bD.put e,fun b a=>h.fresh b (by rw[b7] at a;exact a),h.old⟩
theorem Cx.F2 (h:Cx K0 H0 Q K H)(d:H0.length<=b):Cx K0 H0 Q K (H.set b none):=
 ⟨by rw[b7];exact h.len,fun c g e=>by rw[eA I];exact h.de c g e,h.stay,h.od,h.ro.cut,h.bD.cut,fun b a=>h.fresh b (by rw[b7] at a;exact a),h.old⟩
theorem Cx.boxed (h:Cx K0 H0 Q K H)(h1:lows (H.length+1) zs)(h2:lows (H.length+1) ys):Cx K0 H0 Q K ((H++[bK zs]).set H.length (bK ys)):=
 (h.bH h1).Gj h.len (by rw[bA];exact h2)
theorem Cx.new (h:Cx K0 H0 Q K H)(r:Rl)(i:lows (H.length+1) vs){mm:Option aV}:Cx K0 H0 Q (gm K H.length (some r)) (H++[some ⟨false,vs,mm⟩]):=by
 have a:=h.bH (mm:=mm) i;refine⟨a.len,a.de,fun b g e j=>?_,fun b g d e=>?_,a.ro,a.bD,fun b d=>?_,h.old⟩
 .have p:=h.stay b g e j;rw[iS (BC (h.lt p))];exact p
 .rw[iS (by have :=h.len;omega)] at e;exact h.od b g d e
 .rw[bA] at d;rw[iS (by simp at d;omega)];exact h.fresh b I
theorem Cx.role (h:Cx K0 H0 Q K H)(g:H0.length<=b)(i:b<H.length)(r:Rl):Cx K0 H0 Q (gm K b (some r)) H:=
 ⟨h.len,h.de,fun c a e d=>by rw[iS (by have :=h.old c a e;omega)];exact h.stay c a e d,fun c a j e=>by rw[iS I] at e;exact h.od c a j e,h.ro,h.bD,fun c j=>by rw[iS I];exact h.fresh c j,h.old⟩
theorem Cx.grow (h:Cx K0 H0 Q K H)(s:K b=some r)(t:Q r)(a:Option Nat)(r2:Rl)(q:∀ x,a=some x->K x=some r2)(g:Q r2)(h1:lows (H.length+1) ds)(h2:lows (H.length+1) vs):
  Cx K0 H0 Q (gm (kj a K) H.length (some r2)) ((cI a H++[bK ds]).set b (bK vs)):=by
 have w:=h.len;refine⟨by rw[b7,bA,xu];omega,fun c z d=>?_,fun c i e d=>?_,fun c i z e=>?_,((h.ro.cI a).app).put,((h.bD.afi a).SC (by rw[xu];exact h1)).put (by rw[bA,xu];exact h2),fun c z=>?_,h.old⟩
 .rw[eA (fun e=>by subst e;exact h.DV s t z d),fJ (by rw[xu];omega),agl (fun x e p=>by subst p;exact h.DV (q _ e) g z d)];exact h.de c z d
 .have j:=h.stay c i e d;have y:=h.lt j;rw[iS I,Pn fun x e p=>by subst p;rw[q _ e] at j;cases j;exact d g];exact j
 .rw[iS I] at e;exact h.od c i z (Rf e).1
 .rw[b7,bA,xu] at z;rw[iS (by simp at z;omega)];cases u:kj a K c with
  |none=>rfl
  |some i=>exact absurd (Rf u).1 (by rw[h.fresh c (by simp at z;omega)];simp)
theorem KJ:(1∈[1,2])=True:=J
theorem aeO:(2∈[2])=True:=J
theorem vM (K:RK)(n:Nat):tK (Wr (fun _=>False) K) n=[]:=by unfold tK Wr;simp
open Classical in
noncomputable def me (K:RK) (Q:Rl->Prop) (N x:Nat):Nat:=if x<N then(if Wr Q K x then 2 else 0) else 1
theorem yP {x N:Nat}(a:K x=some r)(d:x<N)(g:¬ Q r):me K Q N x=0:=by
 unfold me;rw[aM d,aq];rintro⟨i,e,h⟩;rw[a] at e;cases e;exact g h
theorem zz (N:Nat)(l:List Nat):(∀ b∈l,me K Q N b∈[0,1,2])=True:=gg fun b _=>by unfold me;split <;>(try split)<;>simp
theorem CU {N n k:Nat}(g:N<=n)(d:∀ r,Q2 r->Q r):(∀ b∈tK (Wr Q2 K) n++List.range' n k,me K Q N b∈[1,2])=True:=gg fun b a=>by
 rcases gZ.1 a with a|a
 .obtain⟨r,e,h⟩:=(Bb.1 a).2;unfold me;split
  .rw[aM ⟨r,e,d _ h⟩];simp
  .simp
 .rw[wW] at a;unfold me;rw[aq I];simp
structure Dx (P:Program) (f:FuncId) (args:List V) (K0:RK) (H0:aU) (Q:Rl->Prop) (v:V) (K:RK) (H:aU):Prop where
 spec:bp P f args H0 v H
 cur:Cx K0 H0 Q K H
 low:v.low H.length
def Ex (K0:RK)(H0:aU)(Q:Rl->Prop)(Post:V->RK->aU->Prop)(v:V)(s:St):Prop:=∃ K',Cx K0 H0 Q K' s.H/\v.low s.H.length/\Post v K' s.H
variable {Post:V->RK->aU->Prop}{v:V}{P:Program}{R:Exit->St->Prop}{k:List Fr}{l:List Oper}{ops:Array Oper}{dst:Option Tmp}{f:FuncId}{fs cs args args0:List V}
theorem Ex.of {s:St}(a:Cx K0 H0 Q K' s.H)(d:v.low s.H.length)(e:Post v K' s.H):Ex K0 H0 Q Post v s:=⟨K',a,d,e⟩
theorem xQ (a:P.follows .mixedOrders=true){fn:Func}{c:Code}(u:P.funcs[f]?=some fn)(d:fn.body=some c)(g:args.length<=fn.ntmps)
  (h:vc P H.length fn.ntmps c (gV P fn (Ex K H Q Post)) ⟨jX args 0,H⟩):∃ v K' H',Dx P f args K H Q v K' H'/\Post v K' H':=by
 obtain⟨v,w,x,⟨K',y,i,j⟩,p⟩:=Gm (s:=⟨jX args 0,H⟩) (bz _) h;exact⟨v,K',w.H,⟨Fp a u d g (mT c _ _ _ (fun e s q=>EJ (fun z A t=>by
  obtain⟨rfl,rfl⟩:=t;exact Fin.id x) q) p),y,i⟩,j⟩
theorem Dx.whole (h:Dx P f args K H Q v K' H')(g:lows H.length args)(i:cZ H):Whole P f args H v H' (tK (Wr Q K) H.length):=
 ⟨h.spec,h.cur.len,g,i,h.cur.bD,h.low,fun b a j=>h.cur.Zx a fun p=>j (Bb.2 ⟨a,p⟩),fun b a=>(Bb.1 a).1,fun b B e d=>by
  cases r:B.ro with
  |false=>rfl
  |true=>
   obtain⟨s,q⟩:=h.cur.ro b B e r;rcases d with a|a
   .omega
   .rw[q] at a;cases a⟩
theorem cQ {t:List (Nat×V)}(a:∃ v K' H',Dx P f args0 K H Q v K' H'/\Post v K' H')(hc:iu P f=true)(d:args0=fs++args++cs)(e:lows H.length args0)(g:cZ H)
  (h:∀ v K' H',Cx K H Q K' H'->v.low H'.length->Post v K' H'->kC P m n R l ops k ⟨di t dst v,H'⟩):s8 P m n R (.fn f fs cs) args dst l ops k ⟨t,H⟩:=by
 obtain⟨v,K',H',i,j⟩:=a;exact YJ (i.whole e g) hc d (h v K' H' i.cur i.low j)
theorem gh {t:List (Nat×V)}{tr:Tr}(a:∃ v K' H',Dx P f args0 K H Q v K' H'/\Post v K' H')(hc:iu P f=true)(d:args0=fs++args++cs)(e:lows H.length args0)(g:cZ H)
  (h:∀ v K' H',Cx K H Q K' H'->v.low H'.length->Post v K' H'->ml P m n R l (tr++[(List.range H.length,tK (Wr Q K) H.length++List.range' H.length (H'.length-H.length))]) ops k ⟨di t dst v,H'⟩):qo P m n R (.fn f fs cs) args dst l tr ops k ⟨t,H⟩:=by
 obtain⟨v,K',H',i,j⟩:=a;exact afk (i.whole e g) hc d (h v K' H' i.cur i.low j)
theorem dx1 {cs1 cs2:List V}(i:Cx K0 H0 Q2 K H)(j:K b=some r)(w:ah H b=bK cs1)(p:bp P f (.ptr 0 0::args) [bK cs1] v [bK cs2])(q:∀ u,aW u args=args)(d:∀ n,lows n args)(h1:∀ u,aW u cs1=cs1)(e:∀ n,lows n cs1)(h2:∀ u,aW u cs2=cs2)(g:∀ n,lows n cs2)(s:∀ u,v.bd u=v)(h:∀ n,v.low n)
  (t:Post v K (H.set b (bK cs2))):∃ v K' H',Dx P f (.ptr b 0::args) K H (fun x=>x=r) v K' H'/\Post v K' H':=
 ⟨v,K,_,⟨Ow p w q d h1 e h2 s,(i.start (fun x=>x=r)).put j rfl (g _),h _⟩,t⟩
theorem Gq {cs1:List V}(q:Cx K0 H0 Q2 K H)(x:ah H b=bK cs1)(s:bp P f (.ptr 0 0::args) [bK cs1] v [bK cs1])(t:∀ y,aW y args=args)(a:∀ n,lows n args)(h1:∀ y,aW y cs1=cs1)(d:∀ n,lows n cs1)(u:∀ y,v.bd y=v)(g:∀ n,v.low n)
  (w:Post v K H):∃ v K' H',Dx P f (.ptr b 0::args) K H (fun _=>False) v K' H'/\Post v K' H':=by
 have h:=Ow s x t a h1 d h1 u;have e:H.set b (bK cs1)=H:=by
  have j:=b8 x;have p:H[b]?=some (bK cs1):=by
   unfold ah at x;rw[bn j] at x |-
   exact dN some x
  rw[bn j] at p;rw[<-nc p,G7]
 rw[e] at h;exact⟨v,K,H,⟨h,q.start _,g _⟩,w⟩
end
end Go.Vm
namespace Go.Vm
theorem ar {P:Program}{f:FuncId}{args:List V}{K:RK}{H:aU}{Q:Rl->Prop}{Post:V->RK->aU->Prop}{fn:Func}{c:Code}(g:P.funcs[f]?=some fn)(h:go P H.length fn.ntmps (gV P fn (Ex K H Q Post)) c [] ⟨jX args 0,H⟩)(d:fn.body=some c:=by exact rfl)(a:P.follows .mixedOrders=true:=by kernel_rfl)(e:args.length<=fn.ntmps:=by exact Nat.le_of_ble_eq_true U):∃ v K' H',Dx P f args K H Q v K' H'/\Post v K' H':=xQ a g d e h
end Go.Vm
end
