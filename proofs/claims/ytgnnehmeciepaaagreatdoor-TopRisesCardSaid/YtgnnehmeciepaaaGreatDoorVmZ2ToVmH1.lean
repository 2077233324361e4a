/- Proved: laws of a machine of values, or what a function answers; no conditions but each theorem's own. -/
import Derived.Deep.Slices
import Derived.Carry
import Derived.Test.YtgnnehmeciepaaaGreatDoorVmZToVmS
import Derived.Test.YtgnnehmeciepaaaGreatDoorVmTToTot2
import Derived.ProofKit
set_option linter.unusedVariables false
set_option linter.unusedSimpArgs false
set_option linter.unusedSectionVars false
set_option maxRecDepth 20000
set_option maxHeartbeats 8000000
section
namespace Go.Vm
section
open Go.ChangeShapes Go.WideShapes Go.ChangeAt Go.RowKit
def AK.is:AK→V→Prop
 | .u8,v=>∃ x,v= .u8 x
 | .u32,v=>∃ x,v= .u32 x
 | .u64,v=>∃ x,v= .u64 x
 | .i64,v=>∃ n:Int,v= .i64 n∧-9223372036854775808≤n∧n≤9223372036854775807
 | .i32,v=>∃ n:Int,v= .i32 n∧-2147483648≤n∧n≤2147483647
 | .bool,v=>∃ b,v= .bool b
 | .str,v=>∃ s,v= .str s∧s.length≤140737488351232
def Kinds:List AK→List V→Prop
 |[],l=>l=[]
 |k::ks,l=>∃ v l',l=v::l'∧k.is v∧Kinds ks l'
theorem Kinds.append:∀ {ks:List AK} {ks':List AK} {l l':List V},Kinds ks l→Kinds ks' l'→Kinds (ks++ks') (l++l')
 |[],_,_,_,h,h'=>by unfold Kinds at h;subst h;exact h'
 |k::ks,ks',l,l',h,h'=>by
  obtain⟨v,r,rfl,h1,h2⟩:=h
  exact⟨v,r++l',rfl,h1,h2.append h'⟩
theorem Kinds.length:∀ {ks:List AK} {l:List V},Kinds ks l→l.length=ks.length
 |[],_,h=>by unfold Kinds at h;subst h;rfl
 |_::_,_,h=>by obtain⟨v,r,rfl,_,h2⟩:=h;simp[h2.length]
inductive Cells (P:Program):TypeId→List AK→Prop
 |one (t:TypeId) (k:AK) (h:k.fits P t):Cells P t [k]
 |struct (t:TypeId) (fs:Array Field) (kss:List (List AK)) (h:P.underlying t=some (.struct fs)) (hc:P.cellsOf t=kss.flatten.length) (hl:fs.size=kss.length)
   (ho:∀ (i:Nat) f ks,fs[i]?=some f→kss[i]?=some ks→f.offset=(kss.take i).flatten.length∧P.cellsOf f.type=ks.length)
   (hf:∀ (i:Nat) f ks,fs[i]?=some f→kss[i]?=some ks→Cells P f.type ks):Cells P t kss.flatten
section
variable {H:Type}{enc:TypeId×Value→H}{P:Program}{W:World}{base:Nat}
def tF (vs:List V)(rs:List Value):Prop:=∀ (ρ:Nat→Nat×Nat) (dom:Nat→Prop) (w:World),VRs ρ dom w vs rs
theorem u4 {t:TypeId}{ks:List AK}(hC:Cells P t ks):∀ {sp:Nat→Bool} {hd:Bool} {fuel:Nat} {cs:List Value} {x:DataW H×List MemPlace},DataW.trod enc P W base sp hd fuel t cs=some x→(x.1.weights P t).all (· ≤reachBytes)=true→
  ∃ vs,Kinds ks vs∧tF vs cs:=by
 induction hC with
 |one t k hk=>
  intro sp hd fuel cs x h hw
  have fin:∀ (v:V) (r:Value),k.is v→cs=[r]→(∀ ρ dom w,VR ρ dom w v r)→∃ vs,Kinds [k] vs∧tF vs cs:=fun v r h1 h2 h3=>
   ⟨[v],⟨v,[],rfl,h1,rfl⟩,fun ρ dom w=>by rw[h2];exact VRs.cons (h3 ρ dom w) VRs.nil⟩
  cases k with
  |u8=>
   obtain⟨n,rfl,rfl,hwf⟩:=DataW.trod_int hk h
   exact fin (.u8 (BitVec.ofInt 8 n)) _ ⟨_,rfl⟩ rfl fun ρ dom w=>by unfold VR;rw[←wU (w:=8) hwf rfl rfl]
  |u32=>
   obtain⟨n,rfl,rfl,hwf⟩:=DataW.trod_int hk h
   exact fin (.u32 (BitVec.ofInt 32 n)) _ ⟨_,rfl⟩ rfl fun ρ dom w=>by unfold VR;rw[←wU (w:=32) hwf rfl rfl]
  |u64=>
   obtain⟨n,rfl,rfl,hwf⟩:=DataW.trod_int hk h
   exact fin (.u64 (BitVec.ofInt 64 n)) _ ⟨_,rfl⟩ rfl fun ρ dom w=>by unfold VR;rw[←wU (w:=64) hwf rfl rfl]
  |i64=>
   obtain⟨n,rfl,rfl,hwf⟩:=DataW.trod_int hk h
   have hw':-9223372036854775808≤n∧n≤9223372036854775807:=by simpa [Lit.wf,IntKind.min,IntKind.max,IntKind.bits,IntKind.signed] using hwf
   exact fin (.i64 n) _ ⟨_,rfl,hw'.1,hw'.2⟩ rfl fun ρ dom w=>by unfold VR;rfl
  |i32=>
   obtain⟨n,rfl,rfl,hwf⟩:=DataW.trod_int hk h
   have hw':-2147483648≤n∧n≤2147483647:=by simpa [Lit.wf,IntKind.min,IntKind.max,IntKind.bits,IntKind.signed] using hwf
   exact fin (.i32 n) _ ⟨_,rfl,hw'.1,hw'.2⟩ rfl fun ρ dom w=>by unfold VR;rfl
  |bool=>
   obtain⟨b,rfl,rfl⟩:=DataW.trod_bool hk h
   exact fin (.bool b) _ ⟨_,rfl⟩ rfl fun ρ dom w=>by unfold VR;rfl
  |str=>
   obtain⟨s,rfl,rfl,_⟩:=DataW.trod_string hk h
   have hl:(bytesOf s).length≤140737488351232:=by
    simp[DataW.weights,reachBytes] at hw
    simp[bytesOf]
    exact of_decide_eq_true hw
   exact fin (.str (bytesOf s)) _ ⟨_,rfl,hl⟩ rfl fun ρ dom w=>by unfold VR;exact⟨s,rfl,rfl⟩
 |struct t fs kss ht hc hl hoc hf ih=>
  intro sp hd fuel cs x h hw
  obtain⟨xs,n,_,rfl,hcl,hxl,hfs⟩:=DataW.trod_struct ht h
  have hwe:(DataW.weightsEach P (fs.toList.map (·.type)) (xs.map (·.1))).all (· ≤reachBytes)=true:=by simpa [DataW.weights,ht] using hw
  have key:∀ i,i≤kss.length→∃ vs,Kinds (kss.take i).flatten vs∧tF vs (cs.take (kss.take i).flatten.length):=by
   intro i
   induction i with
   |zero=>intro _;exact⟨[],rfl,fun _ _ _=>by simp;exact VRs.nil⟩
   |succ i ihi=>
    intro hi
    obtain⟨vs,h1,h2⟩:=ihi (by omega)
    have hks:kss[i]?=some kss[i]:=List.getElem?_eq_getElem (by omega)
    have hfi:fs[i]?=some fs[i]:=Array.getElem?_eq_getElem (by omega)
    obtain⟨ho,hcf⟩:=hoc i _ _ hfi hks
    have hx:=hfs i _ hfi
    rw[List.getElem?_eq_getElem (by omega :i<xs.length)] at hx
    obtain⟨us,g1,g2⟩:=ih i _ _ hfi hks hx (List.all_eq_true.2 fun m hm=>by
     refine List.all_eq_true.1 hwe m (DataW.weights_mem_each (j:=i) (t:=fs[i].type) (d:=xs[i].1) ?_ ?_ m hm)
     ·rw[List.getElem?_map];simp[hfi]
     ·rw[List.getElem?_map,List.getElem?_eq_getElem (by omega :i<xs.length)];rfl)
    have ht1:kss.take (i+1)=kss.take i++[kss[i]]:=List.take_succ_eq_append_getElem (by omega)
    rw[ht1,List.flatten_append,List.flatten_singleton]
    refine⟨vs++us,h1.append g1,fun ρ dom w=>?_⟩
    have :=(h2 ρ dom w).append (g2 ρ dom w)
    rw[ho,hcf,←List.take_add] at this
    rw[List.length_append];exact this
  obtain⟨vs,h1,h2⟩:=key kss.length (Nat.le_refl _)
  rw[List.take_length] at h1 h2
  exact⟨vs,h1,fun ρ dom w=>by have :=h2 ρ dom w;rwa [List.take_of_length_le (by omega)] at this⟩
end
inductive ArgK where
 |cell (k:AK)
 |agg (ks:List AK)
 |row (ks:List AK) (by_:Nat)
def ArgK.fits (P:Program)(t:TypeId):ArgK→Prop
 | .cell k=>k.fits P t
 | .agg ks=>Cells P t ks∧aF P t=some true
 | .row ks by_=>∃ e,P.underlying t=some (.slice e)∧Cells P e ks∧P.cellsOf e=ks.length∧P.bytesOf e=by_∧0<by_∧0<ks.length
def sY (P:Program):List TypeId→List ArgK→Prop
 |[],[]=>True
 |t::ts,k::ks=>k.fits P t∧sY P ts ks
 |_,_=>False
def mU:List ArgK→Nat→List V→List (Option Blk)→Prop
 |[],_,vs,h=>vs=[]∧h=[]
 | .cell k::ks,n,vs,h=>∃ v vs',vs=v::vs'∧k.is v∧mU ks n vs' h
 | .agg cs::ks,n,vs,h=>∃ l vs',vs= .agg l::vs'∧Kinds cs l∧mU ks n vs' h
 | .row cs by_::ks,n,vs,h=>(∃ vs',vs= .nilSlice::vs'∧mU ks n vs' h)∨
   (∃ (rows:List (List V)) (vs':List V) (hd:Option Blk) (h':List (Option Blk)),vs= .slice n 0 rows.length cs.length::vs'∧h=hd::h'∧(∀ r∈rows,Kinds cs r)∧rows.length*by_≤140737488351232∧(0<rows.length→hd=some ⟨true,rows.flatten,none⟩)∧(rows.length=0→hd=none)∧mU ks (n+1) vs' h')
theorem yL {α:Type}{k:Nat}(hk:0<k):∀ {rows:List (List α)} (_:∀ r∈rows,r.length=k) (j:Nat),rows.flatten[j]?=(rows[j/k]?).bind fun r=>r[j%k]?
 |[],_,j=>by simp
 |r::rows,h,j=>by
  have hr:r.length=k:=h r (by simp)
  by_cases hj:j<k
  ·rw[List.flatten_cons,List.getElem?_append_left (by omega),Nat.div_eq_of_lt hj,Nat.mod_eq_of_lt hj];rfl
  ·rw[List.flatten_cons,List.getElem?_append_right (by omega),hr,yL hk (fun r hr=>h r (by simp[hr])) (j-k)]
   have e1:j/k=(j-k)/k+1:=by rw[show j=(j-k)+k by omega,Nat.add_div_right _ hk];congr 2;omega
   have e2:j%k=(j-k)%k:=by rw[show j=(j-k)+k by omega,Nat.add_mod_right];congr 1;omega
   rw[e1,e2];rfl
section
variable {H:Type}{enc:TypeId×Value→H}{P:Program}{W:World}{base:Nat}
theorem JL {t:TypeId}{v:Value}(hr:aF P t=some true)(hv:Value.okWide P W .any base t v):∃ a,v= .agg a∧v.cells.toList=a.toList:=by
 unfold aF at hr
 unfold Value.okWide at hv
 cases hu:P.underlying t with
 |none=>rw[hu] at hr;simp at hr
 |some d=>
  rw[hu] at hr hv
  cases d<;>simp at hr hv
  all_goals(obtain⟨cs,rfl,_⟩:=hv;exact⟨cs,rfl,rfl⟩)
theorem yM {t e:TypeId}{v x:Value}(ht:P.underlying t=some (.slice e))(hv:Value.okWide P W .any base t v)(hc:v.cells.toList=[x]):v=x:=by
 cases v with
 |agg cs=>simp[Value.okWide,ht,Cell.okWide,Cell.ok] at hv
 |_=>simpa [Value.cells] using hc
theorem Ia {t:TypeId}{k:AK}{v:Value}(hk:k.fits P t)(hv:Value.okWide P W .any base t v):v.cells.toList=[v]:=by
 cases v with
 |agg cs=>cases k<;>simp[AK.fits] at hk<;>simp[Value.okWide,hk,Cell.okWide,Cell.ok] at hv
 |_=>rfl
theorem pC:∀ {ts:List TypeId} {ks:List ArgK} {args:List Value} {ds:List (DataW H)} {p:List MemPlace} (n:Nat),sY P ts ks→DataW.TrodAll enc P W 0 (fun _=>true) true ts args ds p→
  (∀ (j:Nat) t v,ts[j]?=some t→args[j]?=some v→Value.okWide P W .any base t v)→(DataW.weightsEach P ts ds).all (· ≤reachBytes)=true→W.noneFrozen p→
  ds.length=ks.length∧∃ (vs:List V) (h:List (Option Blk)) (pl:List (Nat×Nat)),mU ks n vs h∧pl.length=h.length∧
   (∀ (ρ:Nat→Nat×Nat) (dom:Nat→Prop),(∀ i,i<h.length→ρ (n+i)=pl.getD i (0,0)∧dom (n+i))→VRs ρ dom W vs args)∧
   (∀ (i:Nat) B,h[i]?=some (some B)→(B.ro=true∧B.mp=none)∧(pl.getD i (0,0)).1<W.heap.size∧∀ (j:Nat) v,B.cs[j]?=some v→∃ r,W.cell? ⟨(pl.getD i (0,0)).1,(pl.getD i (0,0)).2+j,none⟩=some r∧∀ ρ dom w,VR ρ dom w v r)
 |[],[],args,ds,p,n,_,hA,_,_,_=>by
  obtain⟨rfl,rfl,rfl⟩:=trodAll_nil hA
  exact⟨rfl,[],[],[],⟨rfl,rfl⟩,rfl,fun _ _ _=>VRs.nil,fun i B h=>by simp at h⟩
 |t::ts,k::ks,args,ds,p,n,hk,hA,hv,hs,hfz=>by
  obtain⟨v0,vs0,d0,ds0,p0,q0,rfl,rfl,rfl,h0,r0⟩:=trodAll_cons hA
  have hs':(DataW.weights P t d0).all (· ≤reachBytes)=true∧(DataW.weightsEach P ts ds0).all (· ≤reachBytes)=true:=by
   rw[DataW.weightsEach,List.all_append,Bool.and_eq_true] at hs
   exact hs
  have hfz0:W.noneFrozen p0:=fun b o hp=>hfz b o (List.mem_append_left _ hp)
  have hfz1:W.noneFrozen q0:=fun b o hp=>hfz b o (List.mem_append_right _ hp)
  have hv1:∀ (j:Nat) t v,ts[j]?=some t→vs0[j]?=some v→Value.okWide P W .any base t v:=fun j t v h1 h2=>hv (j+1) t v h1 h2
  have h00:=hv 0 t v0 rfl rfl
  obtain⟨fuel,hf⟩:=h0
  cases k with
  |cell k=>
   obtain⟨e1,vs,h,pl,g1,g2,g3,g4⟩:=pC n hk.2 r0 hv1 hs'.2 hfz1
   have hk1:k.fits P t:=hk.1
   have hc:=Ia hk1 h00
   rw[hc] at hf
   obtain⟨us,hu1,hu2⟩:=u4 (Cells.one t k hk1) hf hs'.1
   obtain⟨v,us',rfl,hu3,hu4⟩:=hu1
   have hu5:us'=[]:=hu4
   subst hu5
   refine⟨by simp[e1],v::vs,h,pl,⟨v,vs,rfl,hu3,g1⟩,g2,fun ρ dom hd=>?_,g4⟩
   have :=hu2 ρ dom W
   unfold VRs at this
   obtain⟨r,rs,e,k1,_⟩:=this
   injection e with e _
   subst e
   exact VRs.cons k1 (g3 ρ dom hd)
  |agg cs=>
   obtain⟨e1,vs,h,pl,g1,g2,g3,g4⟩:=pC n hk.2 r0 hv1 hs'.2 hfz1
   have hk1:Cells P t cs∧aF P t=some true:=hk.1
   obtain⟨a,rfl,hc⟩:=JL hk1.2 h00
   rw[hc] at hf
   obtain⟨us,hu1,hu2⟩:=u4 hk1.1 hf hs'.1
   refine⟨by simp[e1],.agg us::vs,h,pl,⟨us,vs,rfl,hu1,g1⟩,g2,fun ρ dom hd=>VRs.cons ?_ (g3 ρ dom hd),g4⟩
   unfold VR
   exact⟨a,rfl,hu2 ρ dom W⟩
  |row cs by_=>
   have hk1:∃ e,P.underlying t=some (.slice e)∧Cells P e cs∧P.cellsOf e=cs.length∧P.bytesOf e=by_∧0<by_∧0<cs.length:=hk.1
   obtain⟨e,ht,hC,hce,hby,hb0,hc0⟩:=hk1
   rcases Go.Deep.open_slice ht hf with⟨h1,h2⟩|⟨a,len,cap,m,fu,D,Pl,h1,hbase,hlc,hcm,hm,hx,hel⟩
   ·obtain⟨e1,vs,h,pl,g1,g2,g3,g4⟩:=pC n hk.2 r0 hv1 hs'.2 hfz1
    obtain rfl:=yM ht h00 h1
    refine⟨by simp[e1],.nilSlice::vs,h,pl,.inl ⟨vs,rfl,g1⟩,g2,fun ρ dom hd=>VRs.cons ?_ (g3 ρ dom hd),g4⟩
    unfold VR;rfl
   ·obtain⟨e1,vs,h,pl,g1,g2,g3,g4⟩:=pC (n+1) hk.2 r0 hv1 hs'.2 hfz1
    obtain rfl:=yM ht h00 h1
    simp only[if_true] at hm
    subst hm
    injection hx with hx1 hx2
    subst hx1 hx2
    rw[hce] at hel hfz0
    have hw:(DataW.weights P t (.slice ((List.range len).map D) ((List.range (m-len)).map fun j=>D (len+j))))=(((List.range len).map D).length+((List.range (m-len)).map fun j=>D (len+j)).length)*P.bytesOf e::(DataW.weightsAll P e ((List.range len).map D)++DataW.weightsAll P e ((List.range (m-len)).map fun j=>D (len+j))):=by
     simp[DataW.weights,ht]
    rw[hw,List.all_cons,Bool.and_eq_true] at hs'
    have hlen:m*by_≤140737488351232:=by
     have :=of_decide_eq_true hs'.1.1
     simp only[List.length_map,List.length_range,hby] at this
     have e2:len+(m-len)=m:=by omega
     rw[e2] at this
     exact this
    have hwi:∀ i,i<len→(DataW.weights P e (D i)).all (· ≤reachBytes)=true:=fun i hi=>by
     have hall:∀ (l:List (DataW H)) d,d∈l→∀ x∈DataW.weights P e d,x∈DataW.weightsAll P e l:=by
      intro l
      induction l with
      |nil=>intro d hd;cases hd
      |cons y l ih=>
       intro d hd x hx
       simp only[DataW.weightsAll,List.mem_append]
       rcases List.mem_cons.1 hd with rfl|hd
       ·exact .inl hx
       ·exact .inr (ih d hd x hx)
     refine List.all_eq_true.2 fun x hx=>List.all_eq_true.1 hs'.1.2 x (List.mem_append_left _ (hall _ (D i) (List.mem_map.2 ⟨i,by simpa using hi,rfl⟩) x hx))
    obtain⟨F,hF⟩:=Go.Deep.choose_lt (α:=List V×List Value) (n:=len) (p:=fun i x=>W.cells? 0 (a.add (i*cs.length)) cs.length=some x.2∧Kinds cs x.1∧tF x.1 x.2) (fun i hi=>by
     obtain⟨cs',k1,k2⟩:=hel i (by omega)
     obtain⟨us,u1,u2⟩:=u4 hC k2 (hwi i hi)
     exact⟨(us,cs'),k1,u1,u2⟩)
    have hrl:((List.range len).map fun i=>(F i).1).length=len:=by simp
    have hks:∀ r∈(List.range len).map fun i=>(F i).1,Kinds cs r:=fun r hr=>by
     obtain⟨i,hi,rfl⟩:=List.mem_map.1 hr
     exact(hF i (by simpa using hi)).2.1
    have hkl:∀ r∈(List.range len).map fun i=>(F i).1,r.length=cs.length:=fun r hr=>(hks r hr).length
    have hspot:0<m→a.spot=none∧a.block<W.heap.size:=fun hm0=>by
     obtain⟨cs',k1,_⟩:=hel 0 hm0
     obtain⟨_,k2,k3⟩:=World.cells?_some k1
     have k4:=k3 0 hc0
     rw[List.getElem?_eq_getElem (by omega :0<cs'.length)] at k4
     have k5:(a.add (0*cs.length)).add 0=a:=by simp[Addr.add]
     rw[k5] at k4
     exact⟨World.cell?_spot k4,World.block_lt_of_cell? (a:=a) W k4⟩
    have hcell:∀ i j,i<m→j<cs.length→∃ r,W.cell? ⟨a.block,a.off+(i*cs.length+j),none⟩=some r∧∀ cs',W.cells? 0 (a.add (i*cs.length)) cs.length=some cs'→cs'[j]?=some r:=fun i j hi hj=>by
     obtain⟨cs',k1,_⟩:=hel i hi
     obtain⟨_,k2,k3⟩:=World.cells?_some k1
     have k4:=k3 j hj
     rw[List.getElem?_eq_getElem (by omega :j<cs'.length)] at k4
     obtain⟨s1,_⟩:=hspot (by omega)
     have k5:(a.add (i*cs.length)).add j=⟨a.block,a.off+(i*cs.length+j),none⟩:=by
      obtain⟨b,o,sp⟩:=a
      have :sp=none:=s1
      subst this
      rw[Go.WideShapes.add_plain,Go.WideShapes.add_plain,Nat.add_assoc]
     rw[k5] at k4
     refine⟨_,k4,fun cs'' k6=>?_⟩
     rw[k1] at k6
     injection k6 with k6
     subst k6
     exact List.getElem?_eq_getElem (by omega)
    have hslice:∀ (ρ:Nat→Nat×Nat) (dom:Nat→Prop),ρ n=(a.block,a.off)∧dom n→VR ρ dom W (.slice n 0 len cs.length) (.slice (some a) len m):=fun ρ dom hd=>by
     unfold VR
     refine⟨hd.2,a,m,rfl,hlc,fun hm0=>?_⟩
     obtain⟨s1,s2⟩:=hspot (by omega)
     rw[hd.1]
     refine⟨?_,fun j hj=>?_⟩
     ·obtain⟨b,o,sp⟩:=a
      have :sp=none:=s1
      subst this;rfl
     ·have hdiv:j/cs.length<m:=Nat.div_lt_of_lt_mul (by rw[Nat.mul_comm];exact hj)
      obtain⟨r,c1,_⟩:=hcell (j/cs.length) (j%cs.length) hdiv (Nat.mod_lt _ hc0)
      have e2:j/cs.length*cs.length+j%cs.length=j:=by rw[Nat.mul_comm];exact Nat.div_add_mod j cs.length
      rw[e2] at c1
      have e3:a.off+0+j=a.off+j:=by omega
      show(W.cell? ⟨a.block,a.off+0+j,none⟩).isSome=true∧W.frozen? ⟨a.block,a.off+0+j,none⟩=false
      rw[e3,c1]
      exact⟨rfl,hfz0 a.block (a.off+j) (List.mem_append_left _ (MemPlace.mem_row.2 ⟨j,hj,rfl⟩))⟩
    by_cases hl0:len=0
    ·subst hl0
     refine⟨by simp[e1],.slice n 0 0 cs.length::vs,none::h,(a.block,a.off)::pl,.inr ⟨[],vs,none,h,rfl,rfl,fun r hr=>(by cases hr),by simp,fun h=>absurd h (by simp),fun _=>rfl,g1⟩,by simp[g2],fun ρ dom hd=>VRs.cons (hslice ρ dom (hd 0 (by simp))) (g3 ρ dom fun i hi=>?_),fun i B hB=>?_⟩
     ·have :=hd (i+1) (by simpa using hi)
      rw[show n+1+i=n+(i+1) by omega];simpa using this
     ·cases i with
      |zero=>simp at hB
      |succ i=>simpa using g4 i B (by simpa using hB)
    ·refine⟨by simp[e1],.slice n 0 len cs.length::vs,some ⟨true,((List.range len).map fun i=>(F i).1).flatten,none⟩::h,(a.block,a.off)::pl,.inr ⟨(List.range len).map fun i=>(F i).1,vs,_,h,by rw[hrl],rfl,hks,by
       rw[hrl];exact Nat.le_trans (Nat.mul_le_mul_right _ hlc) hlen,fun _=>rfl,fun h=>absurd (hrl▸h) hl0,g1⟩,by simp[g2],fun ρ dom hd=>VRs.cons (hslice ρ dom (hd 0 (by simp))) (g3 ρ dom fun i hi=>?_),fun i B hB=>?_⟩
     ·have :=hd (i+1) (by simpa using hi)
      rw[show n+1+i=n+(i+1) by omega];simpa using this
     ·cases i with
      |zero=>
       simp at hB
       subst hB
       refine⟨⟨rfl,rfl⟩,(hspot (by omega)).2,fun j v hj=>?_⟩
       have hj':=hj
       rw[yL hc0 hkl] at hj'
       obtain⟨row,q1,q2⟩:=Option.bind_eq_some_iff.1 hj'
       rw[List.getElem?_map] at q1
       obtain⟨i',q3,rfl⟩:=Option.map_eq_some_iff.1 q1
       have hi':j/cs.length<len:=by
        have :=(List.getElem?_eq_some_iff.1 q3).1
        simpa using this
       rw[List.getElem?_range hi'] at q3
       injection q3 with q3
       subst q3
       have hjm:=Nat.mod_lt j hc0
       obtain⟨r,c1,c2⟩:=hcell (j/cs.length) (j%cs.length) (by omega) hjm
       have e2:j/cs.length*cs.length+j%cs.length=j:=by rw[Nat.mul_comm];exact Nat.div_add_mod j cs.length
       rw[e2] at c1
       obtain⟨f1,f2,f3⟩:=hF (j/cs.length) hi'
       refine⟨r,c1,fun ρ dom w=>?_⟩
       obtain⟨r',r1,r2⟩:=(f3 ρ dom w).get q2
       rw[c2 _ f1] at r1
       injection r1 with r1
       subst r1
       exact r2
      |succ i=>simpa using g4 i B (by simpa using hB)
 |[],_::_,_,_,_,_,h,_,_,_,_=>h.elim
 |_::_,[],_,_,_,_,h,_,_,_,_=>h.elim
end
end
end Go.Vm
end
section
namespace Go.Vm
open Go.ChangeShapes Go.WideShapes Go.ChangeAt Go.RowKit
section
variable {H:Type}{enc:TypeId×Value→H}{P:Program}{W:World}{base:Nat}
theorem x6 (hl:laidOutB P=true){W':World}{sp':Nat→Bool}:∀ {ts:List TypeId} {vs:List Value} {ds:List (DataW H)} {ps:List MemPlace},(∀ t∈ts,P.readableRec t=true∧t<P.types.size)→
  DataW.TrodAll enc P W 0 (fun _=>true) true ts vs ds ps→(∀ p∈ps,W.sameAt W' p)→(∀ p∈ps,sp' p.block=true)→DataW.TrodAll enc P W' 0 sp' true ts vs ds ps
 |[],_,_,_,_,h,_,_=>by
  obtain⟨rfl,rfl,rfl⟩:=trodAll_nil h
  exact trodAll_mk0
 |t::ts,_,_,_,hr,h,hs,hp=>by
  obtain⟨v,vs,d,ds,p,q,rfl,rfl,rfl,h1,h2⟩:=trodAll_cons h
  exact trodAll_cons_mk (WideElems.Trod_stays hl (hr t (by simp)).1 (hr t (by simp)).2 h1 (fun x hx=>hs x (List.mem_append_left _ hx)) (fun x hx=>hp x (List.mem_append_left _ hx)))
   (x6 hl (fun t ht=>hr t (by simp[ht])) h2 (fun x hx=>hs x (List.mem_append_right _ hx)) (fun x hx=>hp x (List.mem_append_right _ hx)))
theorem Ib {f:FuncId}{vs:List V}{h h':List (Option Blk)}{pl:List (Nat×Nat)}{args:List Value}{rargs:Array Value}{b:Bool}(hs:ag P f vs h (.bool b) h')(hra:rargs.toList=args)
  (hv:∀ (ρ:Nat→Nat×Nat) (dom:Nat→Prop),(∀ i,i<h.length→ρ (0+i)=pl.getD i (0,0)∧dom (0+i))→VRs ρ dom W vs args)
  (hm:∀ (i:Nat) B,h[i]?=some (some B)→(B.ro=true∧B.mp=none)∧(pl.getD i (0,0)).1<W.heap.size∧∀ (j:Nat) v,B.cs[j]?=some v→∃ r,W.cell? ⟨(pl.getD i (0,0)).1,(pl.getD i (0,0)).2+j,none⟩=some r∧∀ ρ dom w,VR ρ dom w v r):
  Calls P f rargs W fun e W'=>e= .returned (.bool b)∧Below W.heap.size W W':=by
 have hro:∀ b B,ab h b=some B→B.ro=true:=fun b B e=>(hm b B (rJ e)).1.1
 refine(hs (fun i=>pl.getD i (0,0)) W rargs (by rw[hra];exact hv _ _ fun i hi=>by simpa using hi) ⟨fun b B e=>aM e,fun b B e=>(hm b B (rJ e)).2.1,fun b b' B B' e _ hr _=>by rw[hro b B e] at hr;simp at hr,fun b B e i v hi=>?_,fun b B e hr=>by rw[hro b B e] at hr;simp at hr,fun b B mm e hmp=>by rw[(hm b B (rJ e)).1.2] at hmp;cases hmp⟩).mono ?_
 ·obtain⟨r,g1,g2⟩:=(hm b B (rJ e)).2.2 i v hi
  exact⟨r,g1,g2 _ _ _⟩
 ·rintro e w' ⟨r,ρ',rfl,h1,_,_,_,h5⟩
  unfold VR at h1
  refine⟨by rw[h1],h5.os,h5.tape,h5.output,h5.size,fun k hk=>h5.keep k hk fun b B e hr=>by rw[hro b B e] at hr;simp at hr⟩
theorem JM {f:FuncId}{fn:Func}{s:ChangeSpec}{tb:TypeId}{ks:List ArgK}{args:Array Value}{ds gs:List (DataW H)}{before:List MemPlace}{fresh handsOn jP:Bool}
  (hl:laidOutB P=true) (hrd:∀ t∈fn.params.toList,P.readableRec t=true∧t<P.types.size)
  (hk:sY P fn.params.toList ks) (hres:fn.resultTypes=#[tb]) (htb:P.underlying tb=some .bool) (hvars:s.vars=[])
  (hspec:∀ ds:List (DataW H),ds.length=ks.length→(s.fn H ds).results=[.lit (.bool true)]∧(s.fn H ds).args=ds∧(s.fn H ds).vars=[])
  (hval:∀ (j:Nat) t v,fn.params[j]?=some t→args[j]?=some v→Value.okWide P W .any base t v)
  (hW:DataW.Whole enc P fn.params.toList s.vars false W args.toList ds gs before) (hsz:(DataW.weightsEach P (fn.params.toList++s.plain.varTypes P) (ds++gs)).all (· ≤reachBytes)=true)
  (law:∀ vs h,mU ks 0 vs h→∃ h',ag P f vs h (.bool true) h'):
  Calls P f args W fun e W'=>∃ v,e= .returned v∧s.post enc P fn false fresh handsOn jP W args v W':=by
 have hW':=hW
 have hlt:=hW.lt
 obtain⟨p,q,hA,hV,rfl,hfz,_⟩:=hW
 rw[hvars] at hV
 obtain⟨rfl,rfl⟩:=trodVars_none hV
 have hs2:(DataW.weightsEach P fn.params.toList ds).all (· ≤reachBytes)=true:=by
  have :s.plain.varTypes P=[]:=by simp[ChangeSpec.plain,DataSpec.varTypes,hvars]
  rw[this,List.append_nil,List.append_nil] at hsz
  exact hsz
 simp only[List.append_nil] at hlt hfz
 obtain⟨hdl,vs,h,pl,g1,_,g3,g4⟩:=pC (base:=base) 0 hk hA (fun j t v h1 h2=>hval j t v (by simpa using h1) (by simpa using h2)) hs2 hfz
 obtain⟨k1,k2,k3⟩:=hspec ds hdl
 obtain⟨h',hs⟩:=law vs h g1
 refine(Ib hs rfl g3 g4).mono fun e W' ⟨he,hg⟩=>?_
 subst he
 have hsame:∀ x∈p,W.sameAt W' x:=fun x hx=>hg.same (hlt x hx)
 have r1:∀ b sp hd,DataW.TrodAll enc P W' b sp hd fn.resultTypes.toList ((Value.bool true).resultList fn.resultTypes.size) (s.fn H (ds++[])).results []:=fun b sp hd=>by
  rw[hres,List.append_nil,k1];exact trodAll_cons_mk (shut_bool htb _) trodAll_mk0
 have r2:∀ sp:Nat→Bool,(∀ x∈p,sp x.block=true)→DataW.TrodAll enc P W' 0 sp true fn.params.toList args.toList (s.fn H (ds++[])).args p:=fun sp hsp=>by
  rw[List.append_nil,k2];exact x6 hl hrd hA hsame hsp
 have r3:∀ sp,DataW.TrodVars enc P W' sp s.vars (s.fn H (ds++[])).vars []:=fun sp=>by
  rw[hvars,List.append_nil,k3];rfl
 refine⟨_,rfl,ds,[],p++[],[],p,[],hW',r1 _ _ _,r2 _ (fun x hx=>by simpa using hlt x hx),r3 _,hg.frame _,fun _=>?_⟩
 refine⟨ok_one hres rfl (okWide_bool_mk htb _),_,_,([]++p)++[],⟨[]++p,[],trodAll_append (r2 _ fun _ _=>rfl) (r1 _ _ _),r3 _,rfl,?_,fun h=>by cases h⟩,?_⟩
 ·intro b off hp
  simp only[List.nil_append,List.append_nil] at hp
  rw[hg.frozen (p:=⟨b,off,none⟩) (hlt _ hp)]
  exact hfz b off hp
 ·intro x hx _
  simpa using hx
end
end Go.Vm
namespace Go.Vm
end Go.Vm
namespace Go.Vm
end Go.Vm
namespace Go.Vm
end Go.Vm
end
section
namespace Go.Vm
section
theorem zo:∀ (l:List String),(l.all fun o=>!("cut".toList==o.toList))=true→∀ r,stripLifts l ("cut".toList::r)=([], "cut".toList::r)
 |[],_,r=>rfl
 |o::os,h,r=>by
  rw[List.all_cons,Bool.and_eq_true] at h
  have h1:("cut".toList==o.toList)=false:=by simpa using h.1
  rw[stripLifts,h1,if_neg (by simp)]
  exact zo os h.2 r
theorem Al (r:List (List Char)):stripLifts liftWords ("cut".toList::r)=([], "cut".toList::r):=zo _ (by decide+kernel) r
section
variable {P:Program}{r:List (List Char)}
theorem Eg (h:behindMainWord (wordsSigns P.initOrder.toList)= "cut".toList::r):P.headLifts=[]:=by
 unfold Program.headLifts;rw[h,Al];simp only[ite_self]
theorem Xv (h:behindMainWord (wordsSigns P.initOrder.toList)= "cut".toList::r):P.make=some .cut:=by
 unfold Program.make;rw[h]
 have e1:("cut".toList== "gc".toList)=false:=by decide+kernel
 have e2:("cut".toList== "spec".toList)=false:=by decide+kernel
 simp only[e1,e2,beq_self_eq_true,Bool.or_self,Bool.true_or,↓reduceIte,Bool.false_eq_true]
theorem Xt (h:behindMainWord (wordsSigns P.initOrder.toList)= "cut".toList::r):P.liftsFinal=false:=by
 unfold Program.liftsFinal;rw[h,Eg h]
 have e1:("cut".toList== "carried".toList)=false:=by decide+kernel
 simp only[List.head?_cons,Option.some_beq_some,e1,Bool.false_and,List.contains_nil,Bool.or_self]
theorem Xu (h:behindMainWord (wordsSigns P.initOrder.toList)= "cut".toList::r)(h1:P.laysLater=false)(h2:P.bearsReflect=false)(h3:P.doorFits []=true):P.mayEnter=true:=by
 unfold Program.mayEnter;rw[h]
 simp only[Al,h1,h2,h3,List.head?_cons,beq_self_eq_true,Bool.not_false,Bool.or_true,Bool.and_self,Bool.and_true,List.contains_nil]
end
theorem Nk {P:Program}{f:FuncId}{fn:Func}{s:ChangeSpec}{c:OpenClaim}
  (a1:c.wf (OpenSpec.ofChange s)=true) (a2:laidOutB P=true) (a3:mapsRowed P=true) (a4:fn.params.all (P.readableRec ·)=true) (a5:namedTie P c.named s.vars=true)
  (a6:(c.stops==[])=true) (a7:(P.stops==[])=true) (a8:(c.knobs==[])=true) (a9:(P.stopKnobs==[])=true)
  (b1:(c.inPlace==P.inPlace f)=true) (b2:(c.unfollowed==P.unfollowed f)=true) (b3:(c.recurses==P.recurses f)=true) (b4:(c.named==P.varsNamed f)=true)
  (rest:((c.maps==(fn.params.toList++s.plain.varTypes P).any (P.mapsRec ·))&&(c.ifaces==(fn.params.toList++s.plain.varTypes P).any (P.ifacesRec ·))&&(c.mapsOut==P.mapsAmong fn.resultTypes.toList)&&
   (c.loops==(fn.params.toList++s.plain.varTypes P).any (P.loopsFrom ·))&&(c.wideKeys==(fn.params.toList++s.plain.varTypes P++fn.resultTypes.toList).any (P.wideKeysFrom ·))&&
   s.vars.all (P.varReadable ·)&&fn.resultTypes.all (fun t=>P.readableRec t&&decide (t<P.types.size))&&(c.ifacesOut==fn.resultTypes.toList.any (P.ifacesRec ·))&&(c.loopsOut==fn.resultTypes.toList.any (P.loopsFrom ·)))=true)
  (d1:(c.plainKeys==P.plainKeys)=true) (d2:c.shortTexts.isNone=true) (d3:P.stopsHeard=true) (d4:P.mayEnter=true) (d5:(c.lifted==P.liftsFinal)=true) (d6:(P.make==some c.make)=true)
  (e1:(c.kinds==(if c.domain.isEmpty then[] else fn.params.toList.map fun t=>match P.underlying t with|some (.int k)=>some k|_=>none))=true) (e2:(c.pinned==c.pinnedBy)=true)
  (e3:(c.veiled==(fn.params.toList++s.plain.varTypes P++fn.resultTypes.toList).any (P.veiledRec ·))=true) (e4:c.veiledFits P fn.params.toList (fn.params.toList++s.plain.varTypes P++fn.resultTypes.toList)=true):
  joinedFacts P f fn s c=true:=by
 simp only[Bool.and_eq_true] at rest
 obtain⟨⟨⟨⟨⟨⟨⟨⟨r1,r2⟩,r3⟩,r4⟩,r5⟩,r6⟩,r7⟩,r8⟩,r9⟩:=rest
 unfold joinedFacts
 simp only[a1,a2,a3,a4,a5,a6,a7,a8,a9,b1,b2,b3,b4,r1,r2,r3,r4,r5,r6,r7,r8,r9,d1,d2,d3,d4,d5,d6,e2,e3,e4,Bool.and_self,Bool.true_and,Bool.and_true]
 exact e1
end
end Go.Vm
end
