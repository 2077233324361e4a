/- Proved: laws of a machine of values; no conditions but each theorem's own. -/
import Derived.Deep.Slices
import Derived.Carry
import Derived.Test.YtidjknjilnopnaaGreatDoorVmTToTot2
set_option linter.unusedVariables false
set_option linter.unusedSimpArgs false
set_option maxRecDepth 20000
set_option maxHeartbeats 8000000
section
namespace Go.Vm
section
open Go.ChangeShapes Go.WideShapes Go.ChangeAt Go.RowKit
def AK.is:AK->V->Prop
 | .u8,v=>∃ x,v= .u8 x
 | .u32,v=>∃ x,v= .u32 x
 | .u64,v=>∃ x,v= .u64 x
 | .i64,v=>∃ n:Int,v= .i64 n/\-9223372036854775808<=n/\n<=9223372036854775807
 | .i32,v=>∃ n:Int,v= .i32 n/\-2147483648<=n/\n<=2147483647
 | .bool,v=>∃ b,v= .bool b
 | .str,v=>∃ s,v= .str s/\s.length<=140737488351232
def fM:List AK->List V->Prop
 |[],l=>l=[]
 |k::b,l=>∃ v a,l=v::a/\k.is v/\fM b a
theorem fM.append:∀ {ks:List AK} {a:List AK} {l l':List V},fM ks l->fM a l'->fM (ks++a) (l++l')
 |[],_,_,_,h,b=>by unfold fM at h;subst h;exact b
 |k::ks,a,l,l',h,b=>by
  obtain⟨v,r,rfl,c,d⟩:=h;exact⟨v,r++l',rfl,c,d.append b⟩
theorem fM.length:∀ {ks:List AK} {l:List V},fM ks l->l.length=ks.length
 |[],_,h=>by unfold fM at h;subst h;rfl
 |_::_,_,h=>by obtain⟨v,r,rfl,_,a⟩:=h;simp[a.length]
inductive Cells (P:Program):TypeId->List AK->Prop
 |one (t:TypeId) (k:AK) (h:k.fits P t):Cells P t [k]
 |struct (t:TypeId) (fs:Array Field) (kss:List (List AK)) (h:P.underlying t=some (.struct fs)) (hc:P.cellsOf t=kss.flatten.length) (hl:fs.size=kss.length)
   (ho:∀ (i:Nat) f ks,fs[i]?=some f->kss[i]?=some ks->f.offset=(kss.take i).flatten.length/\P.cellsOf f.type=ks.length)
   (hf:∀ (i:Nat) f ks,fs[i]?=some f->kss[i]?=some ks->Cells P f.type ks):Cells P t kss.flatten
section
variable {H:Type}{enc:TypeId×Value->H}{P:Program}{W:World}{base:Nat}
def F6 (vs:List V)(c:List Value):Prop:=∀ (d:Nat->Nat×Nat) (b:Nat->Prop) (w:World),ao d b w vs c
theorem KL {t:TypeId}{ks:List AK}(D:Cells P t ks):∀ {T:Nat->Bool} {o:Bool} {fuel:Nat} {cs:List Value} {x:DataW H×List MemPlace},DataW.trod enc P W base T o fuel t cs=some x->(x.1.weights P t).all (· <=reachBytes)=true->
  ∃ vs,fM ks vs/\F6 vs cs:=by
 induction D with
 |one t k g=>
  intro T o fuel cs x h Q;have L:∀ (v:V) (r:Value),k.is v->cs=[r]->(∀ M K w,VR M K w v r)->∃ vs,fM [k] vs/\F6 vs cs:=fun v r N O E=>
   ⟨[v],⟨v,[],rfl,N,rfl⟩,fun M K w=>by rw[O];exact ao.cons (E M K w) ao.nil⟩
  cases k with
  |u8=>
   obtain⟨n,rfl,rfl,a⟩:=DataW.trod_int g h;exact L (.u8 (BitVec.ofInt 8 n)) _ ⟨_,rfl⟩ rfl fun M K w=>by unfold VR;rw[<-Jq (w:=8) a rfl rfl]
  |u32=>
   obtain⟨n,rfl,rfl,a⟩:=DataW.trod_int g h;exact L (.u32 (BitVec.ofInt 32 n)) _ ⟨_,rfl⟩ rfl fun M K w=>by unfold VR;rw[<-Jq (w:=32) a rfl rfl]
  |u64=>
   obtain⟨n,rfl,rfl,a⟩:=DataW.trod_int g h;exact L (.u64 (BitVec.ofInt 64 n)) _ ⟨_,rfl⟩ rfl fun M K w=>by unfold VR;rw[<-Jq (w:=64) a rfl rfl]
  |i64=>
   obtain⟨n,rfl,rfl,a⟩:=DataW.trod_int g h;have e:-9223372036854775808<=n/\n<=9223372036854775807:=by simpa [Lit.wf,IntKind.min,IntKind.max,IntKind.bits,IntKind.signed] using a
   exact L (.i64 n) _ ⟨_,rfl,e.1,e.2⟩ rfl fun M K w=>by unfold VR;rfl
  |i32=>
   obtain⟨n,rfl,rfl,a⟩:=DataW.trod_int g h;have e:-2147483648<=n/\n<=2147483647:=by simpa [Lit.wf,IntKind.min,IntKind.max,IntKind.bits,IntKind.signed] using a
   exact L (.i32 n) _ ⟨_,rfl,e.1,e.2⟩ rfl fun M K w=>by unfold VR;rfl
  |bool=>
   obtain⟨b,rfl,rfl⟩:=DataW.trod_bool g h;exact L (.bool b) _ ⟨_,rfl⟩ rfl fun M K w=>by unfold VR;rfl
  |str=>
   obtain⟨s,rfl,rfl,_⟩:=DataW.trod_string g h;have B:(bytesOf s).length<=140737488351232:=by
    simp[DataW.weights,reachBytes] at Q;simp[bytesOf];exact yZ Q
   exact L (.str (bytesOf s)) _ ⟨_,rfl,B⟩ rfl fun M K w=>by unfold VR;exact⟨s,rfl,rfl⟩
 |struct t R c Y hc B p hf ih=>
  intro T o fuel cs x h Q;obtain⟨S,n,_,rfl,F,G,q⟩:=DataW.trod_struct Y h;have u:(DataW.weightsEach P (R.toList.map (·.type)) (S.map (·.1))).all (· <=reachBytes)=true:=by simpa [DataW.weights,Y] using Q
  have X:∀ i,i<=c.length->∃ vs,fM (c.take i).flatten vs/\F6 vs (cs.take (c.take i).flatten.length):=by
   intro i;induction i with
   |zero=>intro _;exact⟨[],rfl,fun _ _ _=>by simp;exact ao.nil⟩
   |succ i y=>
    intro hi;obtain⟨vs,N,O⟩:=y I;have l:c[i]?=some c[i]:=bn I;have f:R[i]?=some R[i]:=uw I;obtain⟨ho,z⟩:=p i _ _ f l;have C:=q i _ f;rw[bn (by omega :i<S.length)] at C;obtain⟨us,g1,g2⟩:=ih i _ _ f l C (sk.2 fun m hm=>by
     refine sk.1 u m (DataW.weights_mem_each (j:=i) (t:=R[i].type) (d:=S[i].1) ?_ ?_ m hm)
     .rw[dU];simp[f]
     .rw[dU,bn (by omega :i<S.length)];rfl)
    have A:c.take (i+1)=c.take i++[c[i]]:=uV I;rw[A,Ia,List.flatten_singleton];refine⟨vs++us,N.append g1,fun M K w=>?_⟩;have :=(O M K w).append (g2 M K w);rw[ho,z,<-List.take_add] at this;rw[bA];exact this
  obtain⟨vs,N,O⟩:=X c.length (bz _);rw[oR] at N O;exact⟨vs,N,fun M K w=>by have :=O M K w;rwa [bq I] at this⟩
end
inductive mM where
 |cell (k:AK)
 |agg (ks:List AK)
 |row (ks:List AK) (by_:Nat)
def mM.fits (P:Program)(t:TypeId):mM->Prop
 | .cell k=>k.fits P t
 | .agg b=>Cells P t b/\cL P t=some true
 | .row b a=>∃ e,P.underlying t=some (.slice e)/\Cells P e b/\P.cellsOf e=b.length/\P.bytesOf e=a/\0<a/\0<b.length
def Df (P:Program):List TypeId->List mM->Prop
 |[],[]=>True
 |t::a,k::b=>k.fits P t/\Df P a b
 |_,_=>False
def qn:List mM->Nat->List V->aU->Prop
 |[],_,m,h=>m=[]/\h=[]
 | .cell k::o,n,m,h=>∃ v a,m=v::a/\k.is v/\qn o n a h
 | .agg p::o,n,m,h=>∃ l a,m= .agg l::a/\fM p l/\qn o n a h
 | .row p e::o,n,m,h=>(∃ a,m= .bG::a/\qn o n a h)\/
   (∃ (j:List (List V)) (a:List V) (f:Option aa) (q:aU),m= .slice n 0 j.length p.length::a/\h=f::q/\(∀ r∈j,fM p r)/\j.length*e<=140737488351232/\(0<j.length->f=some ⟨true,j.flatten,none⟩)/\(j.length=0->f=none)/\qn o (n+1) a q)
theorem QH {α:Type}{k:Nat}(b:0<k):∀ {rows:List (List α)} (_:∀ r∈rows,r.length=k) (j:Nat),rows.flatten[j]?=(rows[j/k]?).bind fun r=>r[j%k]?
 |[],_,j=>by simp
 |r::rows,h,j=>by
  have a:r.length=k:=h r J;by_cases c:j<k
  .rw[wT,kY I,Fj c,lk c];rfl
  .rw[wT,iy I,a,QH b (fun r a=>h r (by simp[a])) (j-k)];have d:j/k=(j-k)/k+1:=by rw[show j=(j-k)+k by omega,Nat.add_div_right _ b];congr 2;omega
   have e:j%k=(j-k)%k:=by rw[show j=(j-k)+k by omega,Nat.add_mod_right];congr 1;omega
   rw[d,e];rfl
section
variable {H:Type}{enc:TypeId×Value->H}{P:Program}{W:World}{base:Nat}
theorem abO {t:TypeId}{v:Value}(b:cL P t=some true)(c:Value.okWide P W .any base t v):∃ a,v= .agg a/\v.cells.toList=a.toList:=by
 unfold cL at b;unfold Value.okWide at c;cases hu:P.underlying t with
 |none=>rw[hu] at b;simp at b
 |some d=>
  rw[hu] at b c;cases d<;>simp at b c;all_goals(obtain⟨e,rfl,_⟩:=c;exact⟨e,rfl,rfl⟩)
theorem MT {t e:TypeId}{v x:Value}(ht:P.underlying t=some (.slice e))(a:Value.okWide P W .any base t v)(hc:v.cells.toList=[x]):v=x:=by
 cases v with
 |agg b=>simp[Value.okWide,ht,Cell.okWide,Cell.ok] at a
 |_=>simpa [Value.cells] using hc
theorem YY {t:TypeId}{k:AK}{v:Value}(a:k.fits P t)(b:Value.okWide P W .any base t v):v.cells.toList=[v]:=by
 cases v with
 |agg c=>cases k<;>simp[AK.fits] at a<;>simp[Value.okWide,a,Cell.okWide,Cell.ok] at b
 |_=>rfl
theorem A5:∀ {O:List TypeId} {ks:List mM} {args:List Value} {ds:List (DataW H)} {p:List MemPlace} (n:Nat),Df P O ks->DataW.TrodAll enc P W 0 (fun _=>true) true O args ds p->
  (∀ (j:Nat) t v,O[j]?=some t->args[j]?=some v->Value.okWide P W .any base t v)->(DataW.weightsEach P O ds).all (· <=reachBytes)=true->W.noneFrozen p->
  ds.length=ks.length/\∃ (vs:List V) (h:aU) (pl:List (Nat×Nat)),qn ks n vs h/\pl.length=h.length/\
   (∀ (ρ:Nat->Nat×Nat) (dom:Nat->Prop),(∀ i,i<h.length->ρ (n+i)=pl.getD i (0,0)/\dom (n+i))->ao ρ dom W vs args)/\
   (∀ (i:Nat) B,h[i]?=some (some B)->(B.ro=true/\B.mp=none)/\(pl.getD i (0,0)).1<W.heap.size/\∀ (j:Nat) v,B.cs[j]?=some v->∃ r,W.cell? ⟨(pl.getD i (0,0)).1,(pl.getD i (0,0)).2+j,none⟩=some r/\∀ ρ dom w,VR ρ dom w v r)
 |[],[],args,ds,p,n,_,hA,_,_,_=>by
  obtain⟨rfl,rfl,rfl⟩:=trodAll_nil hA;exact⟨rfl,[],[],[],⟨rfl,rfl⟩,rfl,fun _ _ _=>ao.nil,fun i B h=>by simp at h⟩
 |t::O,k::ks,args,ds,p,n,Q,hA,hv,hs,a6=>by
  obtain⟨v0,b6,d0,c0,p0,q0,rfl,rfl,rfl,h0,r0⟩:=trodAll_cons hA;have f:(DataW.weights P t d0).all (· <=reachBytes)=true/\(DataW.weightsEach P O c0).all (· <=reachBytes)=true:=by
   rw[DataW.weightsEach,List.all_append,lY] at hs;exact hs
  have L:W.noneFrozen p0:=fun b o hp=>a6 b o (zr _ hp)
  have u:W.noneFrozen q0:=fun b o hp=>a6 b o (Db _ hp)
  have C:∀ (j:Nat) t v,O[j]?=some t->b6[j]?=some v->Value.okWide P W .any base t v:=fun j t v h1 h2=>hv (j+1) t v h1 h2
  have E:=hv 0 t v0 rfl rfl;obtain⟨h6,hf⟩:=h0;cases k with
  |cell k=>
   obtain⟨M,vs,h,pl,g1,g2,g3,g4⟩:=A5 n Q.2 r0 C f.2 u;have q:k.fits P t:=Q.1;have hc:=YY q E;rw[hc] at hf;obtain⟨us,R,S⟩:=KL (Cells.one t k q) hf f.1;obtain⟨v,c3,rfl,c4,c5⟩:=R;have c6:c3=[]:=c5;subst c6;refine⟨by simp[M],v::vs,h,pl,⟨v,vs,rfl,c4,g1⟩,g2,fun ρ dom c=>?_,g4⟩;have :=S ρ dom W;unfold ao at this;obtain⟨r,rs,e,k1,_⟩:=this;injection e with e _
   subst e;exact ao.cons k1 (g3 ρ dom c)
  |agg cs=>
   obtain⟨M,vs,h,pl,g1,g2,g3,g4⟩:=A5 n Q.2 r0 C f.2 u;have q:Cells P t cs/\cL P t=some true:=Q.1;obtain⟨a,rfl,hc⟩:=abO q.2 E;rw[hc] at hf;obtain⟨us,R,S⟩:=KL q.1 hf f.1;refine⟨by simp[M],.agg us::vs,h,pl,⟨us,vs,rfl,R,g1⟩,g2,fun ρ dom c=>ao.cons ?_ (g3 ρ dom c),g4⟩;unfold VR;exact⟨a,rfl,S ρ dom W⟩
  |row cs T=>
   have q:∃ e,P.underlying t=some (.slice e)/\Cells P e cs/\P.cellsOf e=cs.length/\P.bytesOf e=T/\0<T/\0<cs.length:=Q.1;obtain⟨e,ht,hC,c7,c8,e9,G⟩:=q;rcases Go.Deep.open_slice ht hf with⟨h1,h2⟩|⟨a,e1,h7,m,fu,D,Pl,h1,c9,a7,h3,hm,Y,K⟩
   .obtain⟨M,vs,h,pl,g1,g2,g3,g4⟩:=A5 n Q.2 r0 C f.2 u;obtain rfl:=MT ht E h1;refine⟨by simp[M],.bG::vs,h,pl,.inl ⟨vs,rfl,g1⟩,g2,fun ρ dom c=>ao.cons ?_ (g3 ρ dom c),g4⟩;unfold VR;rfl
   .obtain⟨M,vs,h,pl,g1,g2,g3,g4⟩:=A5 (n+1) Q.2 r0 C f.2 u;obtain rfl:=MT ht E h1;simp only[eJ] at hm;subst hm;injection Y with e0 e4
    subst e0 e4;rw[c7] at K L;have hw:(DataW.weights P t (.slice ((List.range e1).map D) ((List.range (m-e1)).map fun j=>D (e1+j))))=(((List.range e1).map D).length+((List.range (m-e1)).map fun j=>D (e1+j)).length)*P.bytesOf e::(DataW.weightsAll P e ((List.range e1).map D)++DataW.weightsAll P e ((List.range (m-e1)).map fun j=>D (e1+j))):=by
     simp[DataW.weights,ht]
    rw[hw,List.all_cons,lY] at f;have h4:m*T<=140737488351232:=by
     have :=yZ f.1.1;simp only[cq,CO,c8] at this;have e2:e1+(m-e1)=m:=I;rw[e2] at this;exact this
    have e5:∀ i,i<e1->(DataW.weights P e (D i)).all (· <=reachBytes)=true:=fun i hi=>by
     have a8:∀ (l:List (DataW H)) d,d∈l->∀ x∈DataW.weights P e d,x∈DataW.weightsAll P e l:=by
      intro l;induction l with
      |nil=>intro d c;cases c
      |cons y l ih=>
       intro d c x Y;simp only[DataW.weightsAll,gZ];rcases gz.1 c with rfl|c
       .exact .inl Y
       .exact .inr (ih d c x Y)
     refine sk.2 fun x Y=>sk.1 f.1.2 x (zr _ (a8 _ (D i) (eZ.2 ⟨i,by simpa using hi,rfl⟩) x Y))
    obtain⟨F,hF⟩:=Go.Deep.choose_lt (α:=List V×List Value) (n:=e1) (p:=fun i x=>W.cells? 0 (a.add (i*cs.length)) cs.length=some x.2/\fM cs x.1/\F6 x.1 x.2) (fun i hi=>by
     obtain⟨g,k1,k2⟩:=K i I;obtain⟨us,u1,u2⟩:=KL hC k2 (e5 i hi);exact⟨(us,g),k1,u1,u2⟩)
    have X:((List.range e1).map fun i=>(F i).1).length=e1:=J;have b0:∀ r∈(List.range e1).map fun i=>(F i).1,fM cs r:=fun r hr=>by
     obtain⟨i,hi,rfl⟩:=eZ.1 hr;exact(hF i (by simpa using hi)).2.1
    have e6:∀ r∈(List.range e1).map fun i=>(F i).1,r.length=cs.length:=fun r hr=>(b0 r hr).length
    have s:0<m->a.spot=none/\a.block<W.heap.size:=fun b2=>by
     obtain⟨g,k1,_⟩:=K 0 b2;obtain⟨_,k2,k3⟩:=World.cells?_some k1;have N:=k3 0 G;rw[bn (by omega :0<g.length)] at N;have k5:(a.add (0*cs.length)).add 0=a:=by simp[Addr.add]
     rw[k5] at N;exact⟨World.cell?_spot N,Ek (a:=a) W N⟩
    have A:∀ i j,i<m->j<cs.length->∃ r,W.cell? ⟨a.block,a.off+(i*cs.length+j),none⟩=some r/\∀ g,W.cells? 0 (a.add (i*cs.length)) cs.length=some g->g[j]?=some r:=fun i j hi hj=>by
     obtain⟨g,k1,_⟩:=K i hi;obtain⟨_,k2,k3⟩:=World.cells?_some k1;have N:=k3 j hj;rw[bn (by omega :j<g.length)] at N;obtain⟨s1,_⟩:=s I;have k5:(a.add (i*cs.length)).add j=⟨a.block,a.off+(i*cs.length+j),none⟩:=by
      obtain⟨b,o,sp⟩:=a;have :sp=none:=s1;subst this;rw[Go.WideShapes.add_plain,Go.WideShapes.add_plain,qe]
     rw[k5] at N;refine⟨_,N,fun e8 k6=>?_⟩;rw[k1] at k6;injection k6 with k6
     subst k6;exact bn I
    have z:∀ (ρ:Nat->Nat×Nat) (dom:Nat->Prop),ρ n=(a.block,a.off)/\dom n->VR ρ dom W (.slice n 0 e1 cs.length) (.slice (some a) e1 m):=fun ρ dom c=>by
     unfold VR;refine⟨c.2,a,m,rfl,a7,fun b2=>?_⟩;obtain⟨s1,s2⟩:=s I;rw[c.1];refine⟨?_,fun j hj=>?_⟩
     .obtain⟨b,o,sp⟩:=a;have :sp=none:=s1;subst this;rfl
     .have h5:j/cs.length<m:=Dg (by rw[og];exact hj);obtain⟨r,c1,_⟩:=A (j/cs.length) (j%cs.length) h5 (AH _ G);have e2:j/cs.length*cs.length+j%cs.length=j:=by rw[og];exact Nat.div_add_mod j cs.length
      rw[e2] at c1;have e3:a.off+0+j=a.off+j:=I;show(W.cell? ⟨a.block,a.off+0+j,none⟩).isSome=true/\W.frozen? ⟨a.block,a.off+0+j,none⟩=false;rw[e3,c1];exact⟨rfl,L a.block (a.off+j) (zr _ (MemPlace.mem_row.2 ⟨j,hj,rfl⟩))⟩
    by_cases b3:e1=0
    .subst b3;refine⟨by simp[M],.slice n 0 0 cs.length::vs,none::h,(a.block,a.off)::pl,.inr ⟨[],vs,none,h,rfl,rfl,fun r hr=>(by cases hr),J,fun h=>absurd h J,fun _=>rfl,g1⟩,by simp[g2],fun ρ dom c=>ao.cons (z ρ dom (c 0 J)) (g3 ρ dom fun i hi=>?_),fun i B hB=>?_⟩
     .have :=c (i+1) (by simpa using hi);rw[show n+1+i=n+(i+1) by omega];simpa using this
     .cases i with
      |zero=>simp at hB
      |succ i=>simpa using g4 i B (by simpa using hB)
    .refine⟨by simp[M],.slice n 0 e1 cs.length::vs,some ⟨true,((List.range e1).map fun i=>(F i).1).flatten,none⟩::h,(a.block,a.off)::pl,.inr ⟨(List.range e1).map fun i=>(F i).1,vs,_,h,by rw[X],rfl,b0,by
       rw[X];exact j7 (EY _ a7) h4,fun _=>rfl,fun h=>absurd (X▸h) b3,g1⟩,by simp[g2],fun ρ dom c=>ao.cons (z ρ dom (c 0 J)) (g3 ρ dom fun i hi=>?_),fun i B hB=>?_⟩
     .have :=c (i+1) (by simpa using hi);rw[show n+1+i=n+(i+1) by omega];simpa using this
     .cases i with
      |zero=>
       simp at hB;subst hB;refine⟨⟨rfl,rfl⟩,(s I).2,fun j v hj=>?_⟩;have b4:=hj;rw[QH G e6] at b4;obtain⟨row,q1,q2⟩:=Option.bind_eq_some_iff.1 b4;rw[dU] at q1;obtain⟨i',q3,rfl⟩:=yy.1 q1;have b5:j/cs.length<e1:=by
        have :=(cA.1 q3).1;simpa using this
       rw[tS b5] at q3;injection q3 with q3
       subst q3;have e7:=AH j G;obtain⟨r,c1,c2⟩:=A (j/cs.length) (j%cs.length) I e7;have e2:j/cs.length*cs.length+j%cs.length=j:=by rw[og];exact Nat.div_add_mod j cs.length
       rw[e2] at c1;obtain⟨f1,f2,f3⟩:=hF (j/cs.length) b5;refine⟨r,c1,fun ρ dom w=>?_⟩;obtain⟨r',r1,r2⟩:=(f3 ρ dom w).get q2;rw[c2 _ f1] at r1;injection r1 with r1
       subst r1;exact r2
      |succ i=>simpa using g4 i B (by simpa using hB)
 |[],_::_,_,_,_,_,h,_,_,_,_=>h.elim
 |_::_,[],_,_,_,_,h,_,_,_,_=>h.elim
end
end
end Go.Vm
end
section
namespace Go.Vm
open Go.ChangeShapes Go.WideShapes Go.ChangeAt Go.RowKit
section
variable {H:Type}{enc:TypeId×Value->H}{P:Program}{W:World}{base:Nat}
theorem Rn (f:laidOutB P=true){j:World}{b:Nat->Bool}:∀ {c:List TypeId} {vs:List Value} {ds:List (DataW H)} {ps:List MemPlace},(∀ t∈c,P.readableRec t=true/\t<P.types.size)->
  DataW.TrodAll enc P W 0 (fun _=>true) true c vs ds ps->(∀ p∈ps,W.sameAt j p)->(∀ p∈ps,b p.block=true)->DataW.TrodAll enc P j 0 b true c vs ds ps
 |[],_,_,_,_,h,_,_=>by
  obtain⟨rfl,rfl,rfl⟩:=trodAll_nil h;exact trodAll_mk0
 |t::c,_,_,_,e,h,g,i=>by
  obtain⟨v,vs,d,ds,p,q,rfl,rfl,rfl,l,m⟩:=trodAll_cons h;exact trodAll_cons_mk (WideElems.Trod_stays f (e t J).1 (e t J).2 l (fun x a=>g x (zr _ a)) (fun x a=>i x (zr _ a)))
   (Rn f (fun t k=>e t (by simp[k])) m (fun x a=>g x (Db _ a)) (fun x a=>i x (Db _ a)))
theorem adW {f:FuncId}{vs:List V}{h h':aU}{x:List (Nat×Nat)}{args:List Value}{a:Array Value}{b:Bool}(q:bp P f vs h (.bool b) h')(n:a.toList=args)
  (s:∀ (ρ:Nat->Nat×Nat) (dom:Nat->Prop),(∀ i,i<h.length->ρ (0+i)=x.getD i (0,0)/\dom (0+i))->ao ρ dom W vs args)
  (y:∀ (i:Nat) B,h[i]?=some (some B)->(B.ro=true/\B.mp=none)/\(x.getD i (0,0)).1<W.heap.size/\∀ (j:Nat) v,B.cs[j]?=some v->∃ r,W.cell? ⟨(x.getD i (0,0)).1,(x.getD i (0,0)).2+j,none⟩=some r/\∀ ρ dom w,VR ρ dom w v r):
  Calls P f a W fun e G=>e= .returned (.bool b)/\Below W.heap.size W G:=by
 have d:∀ b B,ah h b=some B->B.ro=true:=fun b B e=>(y b B (D0 e)).1.1
 refine(q (fun i=>x.getD i (0,0)) W a (by rw[n];exact s _ _ fun i C=>by simpa using C) ⟨fun b B e=>b8 e,fun b B e=>(y b B (D0 e)).2.1,fun b u B N e _ c _=>by rw[d b B e] at c;simp at c,fun b B e i v C=>?_,fun b B e c=>by rw[d b B e] at c;simp at c,fun b B O e l=>by rw[(y b B (D0 e)).1.2] at l;cases l⟩).mono ?_
 .obtain⟨r,L,M⟩:=(y b B (D0 e)).2.2 i v C;exact⟨r,L,M _ _ _⟩
 .rintro e Q ⟨r,K,rfl,F,_,_,_,m⟩;unfold VR at F;refine⟨by rw[F],m.os,m.tape,m.output,m.size,fun k t=>m.de k t fun b B e c=>by rw[d b B e] at c;simp at c⟩
theorem Uk {f:FuncId}{fn:Func}{s:ChangeSpec}{tb:TypeId}{ks:List mM}{args:Array Value}{ds S:List (DataW H)}{M:List MemPlace}{fresh L nV:Bool}
  (F:laidOutB P=true) (r:∀ t∈fn.params.toList,P.readableRec t=true/\t<P.types.size)
  (G:Df P fn.params.toList ks) (d:fn.resultTypes=#[tb]) (l:P.underlying tb=some .bool) (a:s.vars=[])
  (g:∀ ds:List (DataW H),ds.length=ks.length->(s.fn H ds).results=[.lit (.bool true)]/\(s.fn H ds).args=ds/\(s.fn H ds).vars=[])
  (m:∀ (j:Nat) t v,fn.params[j]?=some t->args[j]?=some v->Value.okWide P W .any base t v)
  (u:DataW.Whole enc P fn.params.toList s.vars false W args.toList ds S M) (n:(DataW.weightsEach P (fn.params.toList++s.plain.varTypes P) (ds++S)).all (· <=reachBytes)=true)
  (R:∀ vs h,qn ks 0 vs h->∃ h',bp P f vs h (.bool true) h'):
  Calls P f args W fun e O=>∃ v,e= .returned v/\s.post enc P fn false fresh L nV W args v O:=by
 have w:=u;have c:=u.lt;obtain⟨p,q,C,D,rfl,i,_⟩:=u;rw[a] at D;obtain⟨rfl,rfl⟩:=trodVars_none D;have y:(DataW.weightsEach P fn.params.toList ds).all (· <=reachBytes)=true:=by
  have :s.plain.varTypes P=[]:=by simp[ChangeSpec.plain,DataSpec.varTypes,a]
  rw[this,jn,jn] at n;exact n
 simp only[jn] at c i;obtain⟨z,vs,h,pl,g1,_,g3,g4⟩:=A5 (base:=base) 0 G C (fun j t v Y h2=>m j t v (by simpa using Y) (by simpa using h2)) y i;obtain⟨k1,k2,k3⟩:=g ds z;obtain⟨h',K⟩:=R vs h g1;refine(adW K rfl g3 g4).mono fun e O ⟨he,hg⟩=>?_
 subst he;have k:∀ x∈p,W.sameAt O x:=fun x o=>hg.same (c x o)
 have T:∀ b N E,DataW.TrodAll enc P O b N E fn.resultTypes.toList ((Value.bool true).resultList fn.resultTypes.size) (s.fn H (ds++[])).results []:=fun b N E=>by
  rw[d,jn,k1];exact trodAll_cons_mk (shut_bool l _) trodAll_mk0
 have V:∀ N:Nat->Bool,(∀ x∈p,N x.block=true)->DataW.TrodAll enc P O 0 N true fn.params.toList args.toList (s.fn H (ds++[])).args p:=fun N A=>by
  rw[jn,k2];exact Rn F r C k A
 have X:∀ N,DataW.TrodVars enc P O N s.vars (s.fn H (ds++[])).vars []:=fun N=>by
  rw[a,jn,k3];rfl
 refine⟨_,rfl,ds,[],p++[],[],p,[],w,T _ _ _,V _ (fun x o=>by simpa using c x o),X _,hg.frame _,fun _=>?_⟩;refine⟨ok_one d rfl (okWide_bool_mk l _),_,_,([]++p)++[],⟨[]++p,[],trodAll_append (V _ fun _ _=>rfl) (T _ _ _),X _,rfl,?_,fun h=>by cases h⟩,?_⟩
 .intro b Q B;simp only[iY,jn] at B;rw[hg.frozen (p:=⟨b,Q,none⟩) (c _ B)];exact i b Q B
 .intro x o _;simpa using o
end
theorem Np:∀ {rows:List (List V)},(∀ r∈rows,fM [.i64] r)->∃ zs:List Int,rows.flatten=zs.map V.i64/\zs.length=rows.length/\∀ z∈zs,-9223372036854775808<=z/\z<=9223372036854775807
 |[],_=>⟨[],rfl,rfl,fun z h=>by cases h⟩
 |r::rows,h=>by
  obtain⟨zs,g,i,c⟩:=Np (rows:=rows) fun r d=>h r (by simp[d])
  obtain⟨v,l,rfl,⟨n,rfl,e⟩,f⟩:=h r J;have a:l=[]:=f;subst a;exact⟨n::zs,by simp[g],by simp[i],fun z b=>by rcases gz.1 b with rfl|b;exact e;exact c z b⟩
end Go.Vm
namespace Go.Vm
end Go.Vm
namespace Go.Vm
end Go.Vm
namespace Go.Vm
end Go.Vm
end
