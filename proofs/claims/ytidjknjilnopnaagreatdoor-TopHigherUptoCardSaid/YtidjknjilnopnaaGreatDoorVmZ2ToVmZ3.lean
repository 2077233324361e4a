/- Proved: laws of a machine of values; no conditions but each theorem's own. -/
import Derived.Deep.Slices
import Derived.Carry
import Derived.Test.YtidjknjilnopnaaGreatDoorVmTToTot2
set_option linter.unusedVariables false
set_option linter.unusedSimpArgs false
set_option maxRecDepth 20000
set_option maxHeartbeats 8000000
section
namespace Go.Vm
section
open Go.ChangeShapes Go.WideShapes Go.ChangeAt Go.RowKit
def AK.is:AK->V->Prop
 | .u8,v=>∃ x,v= .u8 x
 | .u32,v=>∃ x,v= .u32 x
 | .u64,v=>∃ x,v= .u64 x
 | .i64,v=>∃ n:Int,v= .i64 n/\-9223372036854775808<=n/\n<=9223372036854775807
 | .i32,v=>∃ n:Int,v= .i32 n/\-2147483648<=n/\n<=2147483647
 | .bool,v=>∃ b,v= .bool b
 | .str,v=>∃ s,v= .str s/\s.length<=140737488351232
def Kinds:List AK->List V->Prop
 |[],l=>l=[]
 |k::ks,l=>∃ v l',l=v::l'/\k.is v/\Kinds ks l'
theorem Kinds.append:∀ {ks:List AK} {a:List AK} {l l':List V},Kinds ks l->Kinds a l'->Kinds (ks++a) (l++l')
 |[],_,_,_,h,h'=>by unfold Kinds at h;subst h;exact h'
 |k::ks,a,l,l',h,h'=>by
  obtain⟨v,r,rfl,h1,h2⟩:=h;exact⟨v,r++l',rfl,h1,h2.append h'⟩
theorem Kinds.length:∀ {ks:List AK} {l:List V},Kinds ks l->l.length=ks.length
 |[],_,h=>by unfold Kinds at h;subst h;rfl
 |_::_,_,h=>by obtain⟨v,r,rfl,_,h2⟩:=h;simp[h2.length]
inductive Cells (P:Program):TypeId->List AK->Prop
 |one (t:TypeId) (k:AK) (h:k.fits P t):Cells P t [k]
 |struct (t:TypeId) (fs:Array Field) (kss:List (List AK)) (h:P.underlying t=some (.struct fs)) (hc:P.cellsOf t=kss.flatten.length) (hl:fs.size=kss.length)
   (ho:∀ (i:Nat) f ks,fs[i]?=some f->kss[i]?=some ks->f.offset=(kss.take i).flatten.length/\P.cellsOf f.type=ks.length)
   (hf:∀ (i:Nat) f ks,fs[i]?=some f->kss[i]?=some ks->Cells P f.type ks):Cells P t kss.flatten
section
variable {H:Type}{enc:TypeId×Value->H}{P:Program}{W:World}{base:Nat}
def zG (vs:List V)(rs:List Value):Prop:=∀ (ρ:Nat->Nat×Nat) (dom:Nat->Prop) (w:World),VRs ρ dom w vs rs
theorem C6 {t:TypeId}{ks:List AK}(E:Cells P t ks):∀ {sp:Nat->Bool} {o:Bool} {fuel:Nat} {cs:List Value} {x:DataW H×List MemPlace},DataW.trod enc P W base sp o fuel t cs=some x->(x.1.weights P t).all (· <=reachBytes)=true->
  ∃ vs,Kinds ks vs/\zG vs cs:=by
 induction E with
 |one t k g=>
  intro sp o fuel cs x h hw;have fin:∀ (v:V) (r:Value),k.is v->cs=[r]->(∀ ρ dom w,VR ρ dom w v r)->∃ vs,Kinds [k] vs/\zG vs cs:=fun v r h1 h2 F=>
   ⟨[v],⟨v,[],rfl,h1,rfl⟩,fun ρ dom w=>by rw[h2];exact VRs.cons (F ρ dom w) VRs.nil⟩
  cases k with
  |u8=>
   obtain⟨n,rfl,rfl,a⟩:=DataW.trod_int g h;exact fin (.u8 (BitVec.ofInt 8 n)) _ ⟨_,rfl⟩ rfl fun ρ dom w=>by unfold VR;rw[<-B4 (w:=8) a rfl rfl]
  |u32=>
   obtain⟨n,rfl,rfl,a⟩:=DataW.trod_int g h;exact fin (.u32 (BitVec.ofInt 32 n)) _ ⟨_,rfl⟩ rfl fun ρ dom w=>by unfold VR;rw[<-B4 (w:=32) a rfl rfl]
  |u64=>
   obtain⟨n,rfl,rfl,a⟩:=DataW.trod_int g h;exact fin (.u64 (BitVec.ofInt 64 n)) _ ⟨_,rfl⟩ rfl fun ρ dom w=>by unfold VR;rw[<-B4 (w:=64) a rfl rfl]
  |i64=>
   obtain⟨n,rfl,rfl,a⟩:=DataW.trod_int g h;have e:-9223372036854775808<=n/\n<=9223372036854775807:=by simpa [Lit.wf,IntKind.min,IntKind.max,IntKind.bits,IntKind.signed] using a
   exact fin (.i64 n) _ ⟨_,rfl,e.1,e.2⟩ rfl fun ρ dom w=>by unfold VR;rfl
  |i32=>
   obtain⟨n,rfl,rfl,a⟩:=DataW.trod_int g h;have e:-2147483648<=n/\n<=2147483647:=by simpa [Lit.wf,IntKind.min,IntKind.max,IntKind.bits,IntKind.signed] using a
   exact fin (.i32 n) _ ⟨_,rfl,e.1,e.2⟩ rfl fun ρ dom w=>by unfold VR;rfl
  |bool=>
   obtain⟨b,rfl,rfl⟩:=DataW.trod_bool g h;exact fin (.bool b) _ ⟨_,rfl⟩ rfl fun ρ dom w=>by unfold VR;rfl
  |str=>
   obtain⟨s,rfl,rfl,_⟩:=DataW.trod_string g h;have B:(bytesOf s).length<=140737488351232:=by
    simp[DataW.weights,reachBytes] at hw;simp[bytesOf];exact of_decide_eq_true hw
   exact fin (.str (bytesOf s)) _ ⟨_,rfl,B⟩ rfl fun ρ dom w=>by unfold VR;exact⟨s,rfl,rfl⟩
 |struct t fs c C hc B p L ih=>
  intro sp o fuel cs x h hw;obtain⟨xs,n,_,rfl,G,I,q⟩:=DataW.trod_struct C h;have u:(DataW.weightsEach P (fs.toList.map (·.type)) (xs.map (·.1))).all (· <=reachBytes)=true:=by simpa [DataW.weights,C] using hw
  have key:∀ i,i<=c.length->∃ vs,Kinds (c.take i).flatten vs/\zG vs (cs.take (c.take i).flatten.length):=by
   intro i;induction i with
   |zero=>intro _;exact⟨[],rfl,fun _ _ _=>by simp;exact VRs.nil⟩
   |succ i y=>
    intro M;obtain⟨vs,h1,h2⟩:=y aa;have l:c[i]?=some c[i]:=aF aa;have f:fs[i]?=some fs[i]:=oG aa;obtain⟨J,z⟩:=p i _ _ f l;have D:=q i _ f;rw[aF (by omega :i<xs.length)] at D;obtain⟨us,g1,g2⟩:=ih i _ _ f l D (mW.2 fun m K=>by
     refine mW.1 u m (DataW.weights_mem_each (j:=i) (t:=fs[i].type) (d:=xs[i].1) ?_ ?_ m K)
     ·rw[ci];simp[f]
     ·rw[ci,aF (by omega :i<xs.length)];rfl)
    have A:c.take (i+1)=c.take i++[c[i]]:=o7 aa;rw[A,BD,List.flatten_singleton];refine⟨vs++us,h1.append g1,fun ρ dom w=>?_⟩;have :=(h2 ρ dom w).append (g2 ρ dom w);rw[J,z,<-List.take_add] at this;rw[aE];exact this
  obtain⟨vs,h1,h2⟩:=key c.length (aH _);rw[o0] at h1 h2;exact⟨vs,h1,fun ρ dom w=>by have :=h2 ρ dom w;rwa [ar aa] at this⟩
end
inductive ArgK where
 |cell (k:AK)
 |agg (ks:List AK)
 |row (ks:List AK) (by_:Nat)
def ArgK.fits (P:Program)(t:TypeId):ArgK->Prop
 | .cell k=>k.fits P t
 | .agg ks=>Cells P t ks/\bp P t=some true
 | .row ks a=>∃ e,P.underlying t=some (.slice e)/\Cells P e ks/\P.cellsOf e=ks.length/\P.bytesOf e=a/\0<a/\0<ks.length
def wK (P:Program):List TypeId->List ArgK->Prop
 |[],[]=>True
 |t::a,k::ks=>k.fits P t/\wK P a ks
 |_,_=>False
def nO:List ArgK->Nat->List V->List (Option Blk)->Prop
 |[],_,vs,h=>vs=[]/\h=[]
 | .cell k::ks,n,vs,h=>∃ v a,vs=v::a/\k.is v/\nO ks n a h
 | .agg cs::ks,n,vs,h=>∃ l a,vs= .agg l::a/\Kinds cs l/\nO ks n a h
 | .row cs e::ks,n,vs,h=>(∃ a,vs= .nilSlice::a/\nO ks n a h)\/
   (∃ (rows:List (List V)) (a:List V) (f:Option Blk) (h':List (Option Blk)),vs= .slice n 0 rows.length cs.length::a/\h=f::h'/\(∀ r∈rows,Kinds cs r)/\rows.length*e<=140737488351232/\(0<rows.length->f=some ⟨true,rows.flatten,none⟩)/\(rows.length=0->f=none)/\nO ks (n+1) a h')
theorem Gu {α:Type}{k:Nat}(b:0<k):∀ {rows:List (List α)} (_:∀ r∈rows,r.length=k) (j:Nat),rows.flatten[j]?=(rows[j/k]?).bind fun r=>r[j%k]?
 |[],_,j=>by simp
 |r::rows,h,j=>by
  have a:r.length=k:=h r ae;by_cases c:j<k
  ·rw[qo,gh aa,zR c,gn c];rfl
  ·rw[qo,dL aa,a,Gu b (fun r a=>h r (by simp[a])) (j-k)];have d:j/k=(j-k)/k+1:=by rw[show j=(j-k)+k by omega,Nat.add_div_right _ b];congr 2;omega
   have e:j%k=(j-k)%k:=by rw[show j=(j-k)+k by omega,Nat.add_mod_right];congr 1;omega
   rw[d,e];rfl
section
variable {H:Type}{enc:TypeId×Value->H}{P:Program}{W:World}{base:Nat}
theorem Te {t:TypeId}{v:Value}(b:bp P t=some true)(c:Value.okWide P W .any base t v):∃ a,v= .agg a/\v.cells.toList=a.toList:=by
 unfold bp at b;unfold Value.okWide at c;cases hu:P.underlying t with
 |none=>rw[hu] at b;simp at b
 |some d=>
  rw[hu] at b c;cases d<;>simp at b c;all_goals(obtain⟨cs,rfl,_⟩:=c;exact⟨cs,rfl,rfl⟩)
theorem yN {t e:TypeId}{v x:Value}(a:P.underlying t=some (.slice e))(b:Value.okWide P W .any base t v)(hc:v.cells.toList=[x]):v=x:=by
 cases v with
 |agg cs=>simp[Value.okWide,a,Cell.okWide,Cell.ok] at b
 |_=>simpa [Value.cells] using hc
theorem Oc {t:TypeId}{k:AK}{v:Value}(a:k.fits P t)(b:Value.okWide P W .any base t v):v.cells.toList=[v]:=by
 cases v with
 |agg cs=>cases k<;>simp[AK.fits] at a<;>simp[Value.okWide,a,Cell.okWide,Cell.ok] at b
 |_=>rfl
theorem xM:∀ {N:List TypeId} {ks:List ArgK} {args:List Value} {ds:List (DataW H)} {p:List MemPlace} (n:Nat),wK P N ks->DataW.TrodAll enc P W 0 (fun _=>true) true N args ds p->
  (∀ (j:Nat) t v,N[j]?=some t->args[j]?=some v->Value.okWide P W .any base t v)->(DataW.weightsEach P N ds).all (· <=reachBytes)=true->W.noneFrozen p->
  ds.length=ks.length/\∃ (vs:List V) (h:List (Option Blk)) (pl:List (Nat×Nat)),nO ks n vs h/\pl.length=h.length/\
   (∀ (ρ:Nat->Nat×Nat) (dom:Nat->Prop),(∀ i,i<h.length->ρ (n+i)=pl.getD i (0,0)/\dom (n+i))->VRs ρ dom W vs args)/\
   (∀ (i:Nat) B,h[i]?=some (some B)->(B.ro=true/\B.mp=none)/\(pl.getD i (0,0)).1<W.heap.size/\∀ (j:Nat) v,B.cs[j]?=some v->∃ r,W.cell? ⟨(pl.getD i (0,0)).1,(pl.getD i (0,0)).2+j,none⟩=some r/\∀ ρ dom w,VR ρ dom w v r)
 |[],[],args,ds,p,n,_,hA,_,_,_=>by
  obtain⟨rfl,rfl,rfl⟩:=trodAll_nil hA;exact⟨rfl,[],[],[],⟨rfl,rfl⟩,rfl,fun _ _ _=>VRs.nil,fun i B h=>by simp at h⟩
 |t::N,k::ks,args,ds,p,n,O,hA,hv,hs,Z=>by
  obtain⟨v0,vs0,d0,ds0,p0,q0,rfl,rfl,rfl,h0,r0⟩:=trodAll_cons hA;have f:(DataW.weights P t d0).all (· <=reachBytes)=true/\(DataW.weightsEach P N ds0).all (· <=reachBytes)=true:=by
   rw[DataW.weightsEach,List.all_append,ic] at hs;exact hs
  have K:W.noneFrozen p0:=fun b o hp=>Z b o (vB _ hp)
  have u:W.noneFrozen q0:=fun b o hp=>Z b o (Ci _ hp)
  have E:∀ (j:Nat) t v,N[j]?=some t->vs0[j]?=some v->Value.okWide P W .any base t v:=fun j t v h1 h2=>hv (j+1) t v h1 h2
  have G:=hv 0 t v0 rfl rfl;obtain⟨fuel,hf⟩:=h0;cases k with
  |cell k=>
   obtain⟨L,vs,h,pl,g1,g2,g3,g4⟩:=xM n O.2 r0 E f.2 u;have q:k.fits P t:=O.1;have hc:=Oc q G;rw[hc] at hf;obtain⟨us,Q,R⟩:=C6 (Cells.one t k q) hf f.1;obtain⟨v,us',rfl,hu3,hu4⟩:=Q;have hu5:us'=[]:=hu4;subst hu5;refine⟨by simp[L],v::vs,h,pl,⟨v,vs,rfl,hu3,g1⟩,g2,fun ρ dom c=>?_,g4⟩;have :=R ρ dom W;unfold VRs at this;obtain⟨r,rs,e,k1,_⟩:=this;injection e with e _
   subst e;exact VRs.cons k1 (g3 ρ dom c)
  |agg cs=>
   obtain⟨L,vs,h,pl,g1,g2,g3,g4⟩:=xM n O.2 r0 E f.2 u;have q:Cells P t cs/\bp P t=some true:=O.1;obtain⟨a,rfl,hc⟩:=Te q.2 G;rw[hc] at hf;obtain⟨us,Q,R⟩:=C6 q.1 hf f.1;refine⟨by simp[L],.agg us::vs,h,pl,⟨us,vs,rfl,Q,g1⟩,g2,fun ρ dom c=>VRs.cons ?_ (g3 ρ dom c),g4⟩;unfold VR;exact⟨a,rfl,R ρ dom W⟩
  |row cs S=>
   have q:∃ e,P.underlying t=some (.slice e)/\Cells P e cs/\P.cellsOf e=cs.length/\P.bytesOf e=S/\0<S/\0<cs.length:=O.1;obtain⟨e,ht,hC,hce,hby,hb0,I⟩:=q;rcases Go.Deep.open_slice ht hf with⟨h1,h2⟩|⟨a,len,cap,m,fu,D,Pl,h1,hbase,hlc,hcm,hm,U,J⟩
   ·obtain⟨L,vs,h,pl,g1,g2,g3,g4⟩:=xM n O.2 r0 E f.2 u;obtain rfl:=yN ht G h1;refine⟨by simp[L],.nilSlice::vs,h,pl,.inl ⟨vs,rfl,g1⟩,g2,fun ρ dom c=>VRs.cons ?_ (g3 ρ dom c),g4⟩;unfold VR;rfl
   ·obtain⟨L,vs,h,pl,g1,g2,g3,g4⟩:=xM (n+1) O.2 r0 E f.2 u;obtain rfl:=yN ht G h1;simp only[if_true] at hm;subst hm;injection U with hx1 hx2
    subst hx1 hx2;rw[hce] at J K;have hw:(DataW.weights P t (.slice ((List.range len).map D) ((List.range (m-len)).map fun j=>D (len+j))))=(((List.range len).map D).length+((List.range (m-len)).map fun j=>D (len+j)).length)*P.bytesOf e::(DataW.weightsAll P e ((List.range len).map D)++DataW.weightsAll P e ((List.range (m-len)).map fun j=>D (len+j))):=by
     simp[DataW.weights,ht]
    rw[hw,List.all_cons,ic] at f;have hlen:m*S<=140737488351232:=by
     have :=of_decide_eq_true f.1.1;simp only[ba,xx,hby] at this;have e2:len+(m-len)=m:=aa;rw[e2] at this;exact this
    have hwi:∀ i,i<len->(DataW.weights P e (D i)).all (· <=reachBytes)=true:=fun i A=>by
     have hall:∀ (l:List (DataW H)) d,d∈l->∀ x∈DataW.weights P e d,x∈DataW.weightsAll P e l:=by
      intro l;induction l with
      |nil=>intro d c;cases c
      |cons y l ih=>
       intro d c x U;simp only[DataW.weightsAll,eB];rcases cQ.1 c with rfl|c
       ·exact .inl U
       ·exact .inr (ih d c x U)
     refine mW.2 fun x U=>mW.1 f.1.2 x (vB _ (hall _ (D i) (cD.2 ⟨i,by simpa using A,rfl⟩) x U))
    obtain⟨F,hF⟩:=Go.Deep.choose_lt (α:=List V×List Value) (n:=len) (p:=fun i x=>W.cells? 0 (a.add (i*cs.length)) cs.length=some x.2/\Kinds cs x.1/\zG x.1 x.2) (fun i A=>by
     obtain⟨g,k1,k2⟩:=J i aa;obtain⟨us,u1,u2⟩:=C6 hC k2 (hwi i A);exact⟨(us,g),k1,u1,u2⟩)
    have T:((List.range len).map fun i=>(F i).1).length=len:=ae;have hks:∀ r∈(List.range len).map fun i=>(F i).1,Kinds cs r:=fun r hr=>by
     obtain⟨i,A,rfl⟩:=cD.1 hr;exact(hF i (by simpa using A)).2.1
    have hkl:∀ r∈(List.range len).map fun i=>(F i).1,r.length=cs.length:=fun r hr=>(hks r hr).length
    have s:0<m->a.spot=none/\a.block<W.heap.size:=fun hm0=>by
     obtain⟨g,k1,_⟩:=J 0 hm0;obtain⟨_,k2,k3⟩:=World.cells?_some k1;have M:=k3 0 I;rw[aF (by omega :0<g.length)] at M;have k5:(a.add (0*cs.length)).add 0=a:=by simp[Addr.add]
     rw[k5] at M;exact⟨World.cell?_spot M,World.block_lt_of_cell? (a:=a) W M⟩
    have C:∀ i j,i<m->j<cs.length->∃ r,W.cell? ⟨a.block,a.off+(i*cs.length+j),none⟩=some r/\∀ g,W.cells? 0 (a.add (i*cs.length)) cs.length=some g->g[j]?=some r:=fun i j A X=>by
     obtain⟨g,k1,_⟩:=J i A;obtain⟨_,k2,k3⟩:=World.cells?_some k1;have M:=k3 j X;rw[aF (by omega :j<g.length)] at M;obtain⟨s1,_⟩:=s aa;have k5:(a.add (i*cs.length)).add j=⟨a.block,a.off+(i*cs.length+j),none⟩:=by
      obtain⟨b,o,sp⟩:=a;have :sp=none:=s1;subst this;rw[Go.WideShapes.add_plain,Go.WideShapes.add_plain,kh]
     rw[k5] at M;refine⟨_,M,fun cs'' k6=>?_⟩;rw[k1] at k6;injection k6 with k6
     subst k6;exact aF aa
    have z:∀ (ρ:Nat->Nat×Nat) (dom:Nat->Prop),ρ n=(a.block,a.off)/\dom n->VR ρ dom W (.slice n 0 len cs.length) (.slice (some a) len m):=fun ρ dom c=>by
     unfold VR;refine⟨c.2,a,m,rfl,hlc,fun hm0=>?_⟩;obtain⟨s1,s2⟩:=s aa;rw[c.1];refine⟨?_,fun j X=>?_⟩
     ·obtain⟨b,o,sp⟩:=a;have :sp=none:=s1;subst this;rfl
     ·have hdiv:j/cs.length<m:=zW (by rw[jv];exact X);obtain⟨r,c1,_⟩:=C (j/cs.length) (j%cs.length) hdiv (vr _ I);have e2:j/cs.length*cs.length+j%cs.length=j:=by rw[jv];exact Nat.div_add_mod j cs.length
      rw[e2] at c1;have e3:a.off+0+j=a.off+j:=aa;show(W.cell? ⟨a.block,a.off+0+j,none⟩).isSome=true/\W.frozen? ⟨a.block,a.off+0+j,none⟩=false;rw[e3,c1];exact⟨rfl,K a.block (a.off+j) (vB _ (MemPlace.mem_row.2 ⟨j,X,rfl⟩))⟩
    by_cases hl0:len=0
    ·subst hl0;refine⟨by simp[L],.slice n 0 0 cs.length::vs,none::h,(a.block,a.off)::pl,.inr ⟨[],vs,none,h,rfl,rfl,fun r hr=>(by cases hr),ae,fun h=>absurd h ae,fun _=>rfl,g1⟩,by simp[g2],fun ρ dom c=>VRs.cons (z ρ dom (c 0 ae)) (g3 ρ dom fun i A=>?_),fun i B Y=>?_⟩
     ·have :=c (i+1) (by simpa using A);rw[show n+1+i=n+(i+1) by omega];simpa using this
     ·cases i with
      |zero=>simp at Y
      |succ i=>simpa using g4 i B (by simpa using Y)
    ·refine⟨by simp[L],.slice n 0 len cs.length::vs,some ⟨true,((List.range len).map fun i=>(F i).1).flatten,none⟩::h,(a.block,a.off)::pl,.inr ⟨(List.range len).map fun i=>(F i).1,vs,_,h,by rw[T],rfl,hks,by
       rw[T];exact fF (Aj _ hlc) hlen,fun _=>rfl,fun h=>absurd (T▸h) hl0,g1⟩,by simp[g2],fun ρ dom c=>VRs.cons (z ρ dom (c 0 ae)) (g3 ρ dom fun i A=>?_),fun i B Y=>?_⟩
     ·have :=c (i+1) (by simpa using A);rw[show n+1+i=n+(i+1) by omega];simpa using this
     ·cases i with
      |zero=>
       simp at Y;subst Y;refine⟨⟨rfl,rfl⟩,(s aa).2,fun j v X=>?_⟩;have hj':=X;rw[Gu I hkl] at hj';obtain⟨row,q1,q2⟩:=Option.bind_eq_some_iff.1 hj';rw[ci] at q1;obtain⟨i',q3,rfl⟩:=rO.1 q1;have hi':j/cs.length<len:=by
        have :=(ca.1 q3).1;simpa using this
       rw[nB hi'] at q3;injection q3 with q3
       subst q3;have hjm:=vr j I;obtain⟨r,c1,c2⟩:=C (j/cs.length) (j%cs.length) aa hjm;have e2:j/cs.length*cs.length+j%cs.length=j:=by rw[jv];exact Nat.div_add_mod j cs.length
       rw[e2] at c1;obtain⟨f1,f2,f3⟩:=hF (j/cs.length) hi';refine⟨r,c1,fun ρ dom w=>?_⟩;obtain⟨r',r1,r2⟩:=(f3 ρ dom w).get q2;rw[c2 _ f1] at r1;injection r1 with r1
       subst r1;exact r2
      |succ i=>simpa using g4 i B (by simpa using Y)
 |[],_::_,_,_,_,_,h,_,_,_,_=>h.elim
 |_::_,[],_,_,_,_,h,_,_,_,_=>h.elim
end
end
end Go.Vm
end
section
namespace Go.Vm
open Go.ChangeShapes Go.WideShapes Go.ChangeAt Go.RowKit
section
variable {H:Type}{enc:TypeId×Value->H}{P:Program}{W:World}{base:Nat}
theorem Jy (f:laidOutB P=true){W':World}{b:Nat->Bool}:∀ {c:List TypeId} {vs:List Value} {ds:List (DataW H)} {ps:List MemPlace},(∀ t∈c,P.readableRec t=true/\t<P.types.size)->
  DataW.TrodAll enc P W 0 (fun _=>true) true c vs ds ps->(∀ p∈ps,W.sameAt W' p)->(∀ p∈ps,b p.block=true)->DataW.TrodAll enc P W' 0 b true c vs ds ps
 |[],_,_,_,_,h,_,_=>by
  obtain⟨rfl,rfl,rfl⟩:=trodAll_nil h;exact trodAll_mk0
 |t::c,_,_,_,e,h,g,i=>by
  obtain⟨v,vs,d,ds,p,q,rfl,rfl,rfl,h1,h2⟩:=trodAll_cons h;exact trodAll_cons_mk (WideElems.Trod_stays f (e t ae).1 (e t ae).2 h1 (fun x a=>g x (vB _ a)) (fun x a=>i x (vB _ a)))
   (Jy f (fun t j=>e t (by simp[j])) h2 (fun x a=>g x (Ci _ a)) (fun x a=>i x (Ci _ a)))
theorem MK {f:FuncId}{vs:List V}{h h':List (Option Blk)}{pl:List (Nat×Nat)}{args:List Value}{a:Array Value}{b:Bool}(u:aq P f vs h (.bool b) h')(p:a.toList=args)
  (x:∀ (ρ:Nat->Nat×Nat) (dom:Nat->Prop),(∀ i,i<h.length->ρ (0+i)=pl.getD i (0,0)/\dom (0+i))->VRs ρ dom W vs args)
  (o:∀ (i:Nat) B,h[i]?=some (some B)->(B.ro=true/\B.mp=none)/\(pl.getD i (0,0)).1<W.heap.size/\∀ (j:Nat) v,B.cs[j]?=some v->∃ r,W.cell? ⟨(pl.getD i (0,0)).1,(pl.getD i (0,0)).2+j,none⟩=some r/\∀ ρ dom w,VR ρ dom w v r):
  Calls P f a W fun e W'=>e= .returned (.bool b)/\Below W.heap.size W W':=by
 have d:∀ b B,ag h b=some B->B.ro=true:=fun b B e=>(o b B (zO e)).1.1
 refine(u (fun i=>pl.getD i (0,0)) W a (by rw[p];exact x _ _ fun i q=>by simpa using q) ⟨fun b B e=>aU e,fun b B e=>(o b B (zO e)).2.1,fun b z B B' e _ c _=>by rw[d b B e] at c;simp at c,fun b B e i v q=>?_,fun b B e c=>by rw[d b B e] at c;simp at c,fun b B mm e m=>by rw[(o b B (zO e)).1.2] at m;cases m⟩).mono ?_
 ·obtain⟨r,g1,g2⟩:=(o b B (zO e)).2.2 i v q;exact⟨r,g1,g2 _ _ _⟩
 ·rintro e w' ⟨r,ρ',rfl,h1,_,_,_,n⟩;unfold VR at h1;refine⟨by rw[h1],n.os,n.tape,n.output,n.size,fun k y=>n.keep k y fun b B e c=>by rw[d b B e] at c;simp at c⟩
end
theorem Ks:∀ {rows:List (List V)},(∀ r∈rows,Kinds [.i64] r)->∃ zs:List Int,rows.flatten=zs.map V.i64/\zs.length=rows.length/\∀ z∈zs,-9223372036854775808<=z/\z<=9223372036854775807
 |[],_=>⟨[],rfl,rfl,fun z h=>by cases h⟩
 |r::rows,h=>by
  obtain⟨zs,h1,h2,c⟩:=Ks (rows:=rows) fun r d=>h r (by simp[d])
  obtain⟨v,l,rfl,⟨n,rfl,e⟩,f⟩:=h r ae;have a:l=[]:=f;subst a;exact⟨n::zs,by simp[h1],by simp[h2],fun z b=>by rcases cQ.1 b with rfl|b;exact e;exact c z b⟩
end Go.Vm
namespace Go.Vm
end Go.Vm
namespace Go.Vm
end Go.Vm
namespace Go.Vm
end Go.Vm
end
