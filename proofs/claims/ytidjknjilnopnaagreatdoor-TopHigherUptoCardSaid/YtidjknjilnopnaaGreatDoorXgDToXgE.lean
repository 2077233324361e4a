/- Proved: laws of a machine of values; no conditions but each theorem's own. -/
import Derived.Test.YtidjknjilnopnaaGreatDoorDelAToXgC
set_option linter.unusedVariables false
set_option linter.unusedSimpArgs false
set_option maxRecDepth 20000
set_option maxHeartbeats 8000000
section
namespace Go.Vm
open Go.Proofs Go.Proofs.Tryz
section
section
variable {K K0 K':RK}{H H0 H':List (Option Blk)}{Q0 Q:Rl->Prop}{k:LnK}{L:LnS}{bv av:V}{bs:List Int}{seed:List ai}{C:Cfg}{l:Log}{n c A:Nat}{as_:List ActP}
theorem LnAt.offO (h:LnAt K H k L)(b:Off (fun _=>False) K H K' H')(d:H.length<=H'.length):LnAt K' H' k L:=by
 obtain⟨v,g1,g2⟩:=h.gl;exact⟨b.k _ _ h.kl id,b.k _ _ h.ka id,⟨v,(b.h _ _ h.kl id).trans g1,g2.off b id⟩,(b.h _ _ h.ka id).trans h.ga,h.l1,h.l2,h.l3,fun j a h1 h2 e=>(h.nd j a h1 h2 e).off b d id id nX⟩
theorem afE (hs:Sane H)(hb:BvAt H bv bs)(hA:AcAt H av as_)(hl:as_.length<=1048576)(hr:∀ a∈as_,-9223372036854775808<=a.A/\a.A<9223372036854775808)(seed:List ai):
  ∃ v K' H',Dx prog 4 [bv,.str seed,av] kn H qT v K' H'/\v= .bool true:=by
 have hbl:=hb.low;have hal:=hA.low;refine bV (Q:=qT) (Post:=fun v K' H'=>v= .bool true) ac (fn:=f4) func4 rfl am (ak ?_);simp -implicitDefEqProofs only[go_sem,seval];repeat refine aI ?_
 refine bA (ZV hs hb seed) ac rfl (by simp[af,V.low,hbl]) hs ?_;rintro _ K1 H1 hC1 hl1 hP;have hb1:=hb.keep hC1;have hl01:=hC1.len;rcases hP with⟨hbad,rfl⟩|⟨hgood,k,rfl,hM⟩
 ·simp -implicitDefEqProofs only[go_sem,seval];repeat refine aI ?_
  refine bA (Yc hC1.sane hb1 seed hbad) ac rfl (by simp[af,V.low,hb1.low]) hC1.sane ?_;rintro _ K2 H2 hC2 hl2 rfl;simp -implicitDefEqProofs only[go_sem,seval];exact Ex.of (hC1.drop.call hC2 fun _ h=>h) trivial rfl
 have hCo:=zU hgood;have hn:bs.length=2\/bs.length=3:=hCo.n;have hG0:=(IM hgood).gath.1;have hL1:=hM.at_;generalize di (jY seed bs) (jY seed bs).N.length=L0 at*;obtain⟨bb,ro,rfl,hgb⟩:∃ bb ro,bv= .slice bb 0 bs.length 1/\ag H bb=some ⟨ro,bs.map V.i64,none⟩:=by
  rcases hb with⟨e,-⟩|h
  ·rw[e] at hn;simp at hn
  ·exact h
 have hlbb:=aU hgb;simp -implicitDefEqProofs only[go_sem,seval];repeat refine aI ?_
 have hmap:=hC1.junk (vs:=[]) (mm:=some ⟨[ku],0⟩) trivial;have hLm:=hL1.offF ((hC1.start (fun _=>False)).junk (vs:=[]) (mm:=some ⟨[ku],0⟩) trivial);have hA1:AcAt (H1++[some (⟨false,[],some ⟨[ku],0⟩⟩:Blk)]) av as_:=hA.keep (fun b hb=>(cz aa _).trans (hC1.getN rfl hb)) (by simp;omega);have hKm:K1 H1.length=none:=hC1.fresh _ (aH _);have hgm:ag (H1++[some (⟨false,[],some ⟨[ku],0⟩⟩:Blk)]) H1.length=some ⟨false,[],some ⟨[ku],0⟩⟩:=eY;generalize H1.length=mb at*;generalize H1++[some (⟨false,[],some ⟨[ku],0⟩⟩:Blk)]=T at*;refine bA (Uw hmap hA1 aa) ac rfl (by simp[af,hA1.low]) hmap.sane ?_;rintro _ K3 H3 hC3 hl3 rfl;have hD3:=hmap.call hC3 fun _ h=>h.elim
 by_cases hf:∀ a∈as_,a.kind≠6
 rotate_left
 ·simp -implicitDefEqProofs only[go_sem,seval,decide_eq_false hf];repeat refine aI ?_
  exact Ex.of hD3 trivial rfl
 simp -implicitDefEqProofs only[go_sem,seval,decide_eq_true hf];repeat refine aI ?_
 have hL3:=hLm.offF hC3;have hgm3:=(hC3.getN hKm (aU hgm)).trans hgm;have hKm3:=hC3.stayN hKm (aU hgm);have hW0:Was ⟨[ku],0⟩ bs.length L0:=⟨rfl,fun i k hi hk=>by
  show(0:Int)<=_;rw[AI hG0.len.symm hi hk];split
  ·exact cC _
  ·unfold eV jn;cases e1:L0.N[i]? with
   |none=>exact cC _
   |some N=>
    show(0:Int)<=gz ((N.Ps[_]?).bind PeS.se);obtain⟨hlt,rfl⟩:=ca.1 e1;generalize (if i<k then k-1 else k)=q;by_cases hq:q<L0.N[i].Ps.length
    ·rw[aF hq];show(0:Int)<=gz L0.N[i].Ps[q].se;have hPo:=((hG0.N i hlt).P q hq).ok.se;cases hS:L0.N[i].Ps[q].se with
     |none=>exact cC _
     |some S=>have :=(hPo S hS).su;show(0:Int)<=S.su;omega
    ·rw[gi aa];exact cC _⟩
 rcases hA with⟨rfl,rfl⟩|⟨b,rfl,hlb,hga⟩
 ·simp -implicitDefEqProofs only[go_sem,seval];repeat refine aI ?_
  refine dz 1 ?_;simp -implicitDefEqProofs only[go_sem,seval];exact Ex.of hD3 trivial rfl
 simp -implicitDefEqProofs only[go_sem,seval];repeat refine aI ?_
 refine bq (fun j st=>∃ (i:Nat) (Hi:List (Option Blk)) (Ki:RK) (L:LnS) (m:MapC) (lg:Log) (A:Nat),i+j=as_.length/\Cx kn H qT Ki Hi/\LnAt Ki Hi k L/\LG (zp seed bs) lg L (5*i) A/\A<=5*(i*i)/\Ki mb=none/\ag Hi mb=some ⟨false,[],some m⟩/\Was m bs.length L/\st=⟨[(0,.slice bb 0 bs.length 1),(7,.ptr k.l 0),(8,.map mb),(26,.slice b 0 as_.length 7),(27,.i64 as_.length),(28,.i64 i)],Hi⟩) ?_ ?_
 ·exact bJ as_.length ⟨[(0,.slice bb 0 bs.length 1),(7,.ptr k.l 0),(8,.map mb),(26,.slice b 0 as_.length 7),(27,.i64 as_.length),(28,.i64 (0:Nat))],H3⟩ (by simp[St.get,aj]) rfl (fun _ _ h=>h) ⟨0,H3,K3,L0,⟨[ku],0⟩,fun _ _=>none,0,aa,hD3,hL3,hG0,aa,hKm3,hgm3,hW0,rfl⟩
 rintro j st ⟨i,Hi,Ki,L,m,lg,A,hij,hCi,hLi,hGi,hAi,hKi,hgi,hWi,rfl⟩-;by_cases hi:i<as_.length
 rotate_left
 ·have hi':¬ (i:Int)<(as_.length:Int):=aa;simp -implicitDefEqProofs only[go_sem,seval,hi',decide_false];repeat refine aI ?_
  exact Ex.of hCi trivial rfl
 have hi':(i:Int)<(as_.length:Int):=aa;have hi0:(0:Int)<=(i:Int):=aa;have w1:=dw (i:=i) aa;obtain⟨roa,hg0⟩:=hga aa;have hgai:=(hCi.getN rfl hlb).trans hg0;have hcell:=Ca hi;have hlen:=KM as_;have hmul:i*7+7<=as_.length*7:=aa;have hz:Hi.length<(Hi++[bK [.i64 0,.i64 0,.i64 0,.i64 0,.u32 0#32,.u32 0#32,.str []]]).length:=ae;generalize (as_.map fun a=>[V.i64 a.kind,.i64 a.A,.i64 a.B,.i64 a.C,.u32 a.src,.u32 a.dst,.str a.txt]).flatten=rows at*;have h6:=hf _ (dd hi);have hra:=hr _ (dd hi);generalize as_[i]=a at*;have hgm4:=(lc (x:=bK [.i64 0,.i64 0,.i64 0,.i64 0,.u32 0#32,.u32 0#32,.str []]) (y:=bK [.i64 a.kind,.i64 a.A,.i64 a.B,.i64 a.C,.u32 a.src,.u32 a.dst,.str a.txt]) (aU hgi)).trans hgi;have hb4:=lF (H:=Hi) (x:=bK [.i64 0,.i64 0,.i64 0,.i64 0,.u32 0#32,.u32 0#32,.str []]) (y:=bK [.i64 a.kind,.i64 a.A,.i64 a.B,.i64 a.C,.u32 a.src,.u32 a.dst,.str a.txt]);have hbox:=hCi.boxed (zs:=[.i64 0,.i64 0,.i64 0,.i64 0,.u32 0#32,.u32 0#32,.str []]) (ys:=[.i64 a.kind,.i64 a.A,.i64 a.B,.i64 a.C,.u32 a.src,.u32 a.dst,.str a.txt]) (by simp[af,V.low]) (by simp[af,V.low]);have hboxF:=(hCi.start (fun _=>False)).boxed (zs:=[.i64 0,.i64 0,.i64 0,.i64 0,.u32 0#32,.u32 0#32,.str []]) (ys:=[.i64 a.kind,.i64 a.A,.i64 a.B,.i64 a.C,.u32 a.src,.u32 a.dst,.str a.txt]) (by simp[af,V.low]) (by simp[af,V.low]);simp -implicitDefEqProofs only[go_sem,seval,hi',decide_true,hgai,hcell,hlen,hmul,hi0,bG hz];repeat refine aI ?_
 have hL4:=hLi.offF hboxF;have hll4:=hbox.lt hL4.kl;have hii:i*i<=1048576*1048576:=nJ aa aa;generalize ((Hi++[bK [.i64 0,.i64 0,.i64 0,.i64 0,.u32 0#32,.u32 0#32,.str []]]).set Hi.length (bK [.i64 a.kind,.i64 a.A,.i64 a.B,.i64 a.C,.u32 a.src,.u32 a.dst,.str a.txt]))=T4 at*;refine bA (afg hbox hL4 hM.ok hCo hGi hM.x aa aa a h6 hra) ac rfl (by simp[af,V.low,hll4]) hbox.sane ?_;rintro _ K5 H5 hC5 hl5 ⟨e,L',rfl,hL5,⟨lg',-,hG5⟩,hmono⟩;have hD5:=hbox.call hC5 fun _ h=>h
 have hKm5:=hC5.stayN hKi (aU hgm4);have hgm5:=(hC5.getN hKi (aU hgm4)).trans hgm4;have hW5:=hWi.mono hGi.len.symm hG5.len.symm hmono;have hgb5:=(hD5.getN rfl hlbb).trans hgb;have hmbH:H.length<=mb:=aa;simp -implicitDefEqProofs only[go_sem,seval];repeat refine aI ?_
 refine bq (fun j1 st=>∃ (i1:Nat) (Hj:List (Option Blk)) (m1:MapC),i1+j1=bs.length/\Cx kn H qT K5 Hj/\LnAt K5 Hj k L'/\ag Hj mb=some ⟨false,[],some m1⟩/\Was m1 bs.length L'/\st=⟨[(0,.slice bb 0 bs.length 1),(7,.ptr k.l 0),(8,.map mb),(26,.slice b 0 as_.length 7),(27,.i64 as_.length),(28,.i64 i),(36,.i64 bs.length),(37,.i64 i1)],Hj⟩) ?_ ?_
 ·exact bJ bs.length ⟨[(0,.slice bb 0 bs.length 1),(7,.ptr k.l 0),(8,.map mb),(26,.slice b 0 as_.length 7),(27,.i64 as_.length),(28,.i64 i),(36,.i64 bs.length),(37,.i64 (0:Nat))],H5⟩ (by simp[St.get,aj]) rfl (fun _ _ h=>h) ⟨0,H5,m,aa,hD5,hL5,hgm5,hW5,rfl⟩
 rintro j1 st ⟨i1,Hj,m1,hij1,hCj,hLj,hgj,hWj,rfl⟩-;by_cases hi1:i1<bs.length
 rotate_left
 ·have hi1':¬ (i1:Int)<(bs.length:Int):=aa;simp -implicitDefEqProofs only[go_sem,seval,hi1',decide_false];repeat refine aI ?_
  refine bx (j-1) ⟨[(0,.slice bb 0 bs.length 1),(7,.ptr k.l 0),(8,.map mb),(26,.slice b 0 as_.length 7),(27,.i64 as_.length),(28,.i64 (i+1:Nat))],Hj⟩ aa (by simp[St.get,aj,w1]) rfl (fun _ _ h=>h) ⟨i+1,Hj,K5,L',m1,lg',_,aa,hCj,hLj,by rw[show 5*(i+1)=5*i+5 by omega];exact hG5,?_,hKm5,hgj,hWj,rfl⟩;rw[show(i+1)*(i+1)=i*i+i+i+1 by rw[rA,km];omega];omega
 have hi1':(i1:Int)<(bs.length:Int):=aa;have w2:=dw (i:=i1) aa;simp -implicitDefEqProofs only[go_sem,seval,hi1',decide_true];repeat refine aI ?_
 refine bq (fun j2 st=>∃ (i2:Nat) (Hk:List (Option Blk)) (m2:MapC),i2+j2=bs.length/\Cx kn H qT K5 Hk/\LnAt K5 Hk k L'/\ag Hk mb=some ⟨false,[],some m2⟩/\Was m2 bs.length L'/\st=⟨[(0,.slice bb 0 bs.length 1),(7,.ptr k.l 0),(8,.map mb),(11,.i64 i1),(26,.slice b 0 as_.length 7),(27,.i64 as_.length),(28,.i64 i),(36,.i64 bs.length),(37,.i64 i1),(41,.i64 bs.length),(42,.i64 i2)],Hk⟩) ?_ ?_
 ·exact bJ bs.length ⟨[(0,.slice bb 0 bs.length 1),(7,.ptr k.l 0),(8,.map mb),(11,.i64 i1),(26,.slice b 0 as_.length 7),(27,.i64 as_.length),(28,.i64 i),(36,.i64 bs.length),(37,.i64 i1),(41,.i64 bs.length),(42,.i64 (0:Nat))],Hj⟩ (by simp[St.get,aj]) rfl (fun _ _ h=>h) ⟨0,Hj,m1,aa,hCj,hLj,hgj,hWj,rfl⟩
 rintro j2 st ⟨i2,Hk,m2,hij2,hCk,hLk,hgk,hWk,rfl⟩-;by_cases hi2:i2<bs.length
 rotate_left
 ·have hi2':¬ (i2:Int)<(bs.length:Int):=aa;simp -implicitDefEqProofs only[go_sem,seval,hi2',decide_false];repeat refine aI ?_
  exact bx (j1-1) ⟨[(0,.slice bb 0 bs.length 1),(7,.ptr k.l 0),(8,.map mb),(26,.slice b 0 as_.length 7),(27,.i64 as_.length),(28,.i64 i),(36,.i64 bs.length),(37,.i64 (i1+1:Nat))],Hk⟩ aa (by simp[St.get,aj,w2]) rfl (fun _ _ h=>h) ⟨i1+1,Hk,m2,aa,hCk,hLk,hgk,hWk,rfl⟩
 have hi2':(i2:Int)<(bs.length:Int):=aa;have w3:=dw (i:=i2) aa;simp -implicitDefEqProofs only[go_sem,seval,hi2',decide_true];repeat refine aI ?_
 refine bA (U0 hCk hLk hM.ok.x3 (i1:Int) (i2:Int)) ac rfl (by simp[af,V.low,hCk.lt hLk.kl]) hCk.sane ?_;rintro _ K6 H6 hC6 hl6 ⟨rfl,hK6,hH6⟩;obtain rfl:=hK6.symm;obtain rfl:=hH6.symm;obtain⟨le1,le2⟩:=aex hCo hG5 (i:=i1) (k:=i2) hi1 hi2;have le1:¬ bs.getD i1 0<jD L' i1 i2:=by have le1:jD L' i1 i2<=bs.getD i1 0:=le1;omega
 have le2:¬ bs.getD i2 0<jD L' i1 i2:=by have le2:jD L' i1 i2<=bs.getD i2 0:=le2;omega
 have hwas:=hWk.2 i1 i2 hi1 hi2;have hwas:¬ jD L' i1 i2<(bB (pk i1 i2) m2.es.tail).getD 0:=aa;have hWn:=hWk.set aa hi1 hi2;have hpair:=hWk.1;generalize jD L' i1 i2=nn at*;have hgbk:=(hCk.getN rfl hlbb).trans hgb;have hbest:∀ q,q<bs.length->(bs.map V.i64).getD q V.junk=V.i64 (bs.getD q 0):=fun q hq=>by rw[fJ V.i64 0,if_pos hq]
 have b1:=hbest i1 hi1;have b2:=hbest i2 hi2;have z1:(0:Int)<=(i1:Int):=aa;have z2:(0:Int)<=(i2:Int):=aa;have z3:(i1:Int)<65536:=aa;have z4:(i2:Int)<65536:=aa;simp -implicitDefEqProofs only[go_sem,seval,hgk,hpair,z1,z2,z3,z4,hwas,hgbk,b1,b2,hi1,hi2,hi1',hi2',le1,le2,decide_false,ba];repeat refine aI ?_
 have hCn:=hCk.jput (mm:=some (m2.set2 (pk i1 i2) nn)) hmbH (vs:=[]) trivial;refine bx (j2-1) ⟨[(0,.slice bb 0 bs.length 1),(7,.ptr k.l 0),(8,.map mb),(11,.i64 i1),(26,.slice b 0 as_.length 7),(27,.i64 as_.length),(28,.i64 i),(36,.i64 bs.length),(37,.i64 i1),(41,.i64 bs.length),(42,.i64 (i2+1:Nat))],Hk.set mb (some ⟨false,[],some (m2.set2 (pk i1 i2) nn)⟩)⟩ aa (by simp[St.get,aj,w3]) rfl (fun _ _ h=>h) ⟨i2+1,_,m2.set2 (pk i1 i2) nn,aa,hCn,?_,bG (aU hgk) _,hWn,rfl⟩;exact hLk.offO ⟨fun _ _ e _=>e,fun b r e _=>bW (fun e2=>by rw[<-e2,hKm5] at e;cases e) _⟩ (by rw[aY];exact aH _)
end
end
end Go.Vm
end
section
namespace Go.Vm
section
open Go.ChangeShapes Go.WideShapes Go.ChangeAt Go.RowKit
def v8 (N:Nat)(vs:List V):Prop:=∀ b o len w,V.slice b o len w∈vs->len<=N
section
variable {H:Type}{enc:TypeId×Value->H}{P:Program}{W:World}{base N:Nat}
theorem caps {ρ:Nat->Nat×Nat}{dom:Nat->Prop}:∀ {y:List TypeId} {ks:List ArgK} {args:List Value} {ds:List (DataW H)} {p:List MemPlace} {vs:List V} {h:List (Option Blk)} (n:Nat),wK P y ks->DataW.TrodAll enc P W 0 (fun _=>true) true y args ds p->
  (∀ (j:Nat) t v,y[j]?=some t->args[j]?=some v->Value.okWide P W .any base t v)->nO ks n vs h->VRs ρ dom W vs args->(∀ l1 l2,DataW.slice l1 l2∈ds->l1.length<=N)->v8 N vs
 |[],[],args,ds,p,vs,h,n,_,Q,_,z,_,_=>by
  obtain⟨rfl,rfl⟩:=z;intro b o len w F;cases F
 |t::y,k::ks,args,ds,p,vs,h,n,A,Q,R,z,i,hc=>by
  obtain⟨v0,J,d0,K,Z,q0,rfl,rfl,rfl,h0,G⟩:=trodAll_cons Q;have B:=R 0 t v0 rfl rfl;have f:∀ (j:Nat) t v,y[j]?=some t->J[j]?=some v->Value.okWide P W .any base t v:=fun j t v h1 h2=>R (j+1) t v h1 h2
  have g:∀ l1 l2,DataW.slice l1 l2∈K->l1.length<=N:=fun l1 l2 h=>hc l1 l2 (gF _ h)
  have cons:∀ {v:V} {d:List V},(∀ b o len w,v= .slice b o len w->len<=N)->v8 N d->v8 N (v::d):=fun h1 h2 b o len w F=>by
   rcases cQ.1 F with e|e
   ·exact h1 b o len w e.symm
   ·exact h2 b o len w e
  cases k with
  |cell k=>
   obtain⟨v,d,rfl,I,c⟩:=z;unfold VRs at i;obtain⟨r,rs,e,_,q⟩:=i;injection e with s u
   subst s;subst u;refine cons (fun b o len w e=>?_) (caps n A.2 G f c q g);subst e;cases k<;>(unfold AK.is at I;first|(obtain⟨x,C⟩:=I;cases C;done)|(obtain⟨x,C,_⟩:=I;cases C;done)|(cases I;done))
  |agg cs=>
   obtain⟨l,d,rfl,_,c⟩:=z;unfold VRs at i;obtain⟨r,rs,e,_,q⟩:=i;injection e with s u
   subst s;subst u;exact cons (fun b o len w e=>by cases e) (caps n A.2 G f c q g)
  |row cs E=>
   obtain⟨e,L,-⟩:=(A.1:∃ e,P.underlying t=some (.slice e)/\Cells P e cs/\P.cellsOf e=cs.length/\P.bytesOf e=E/\0<E/\0<cs.length);rcases z with⟨d,rfl,c⟩|⟨rows,d,hd,h',rfl,rfl,_,_,_,_,c⟩
   ·unfold VRs at i;obtain⟨r,rs,e,_,q⟩:=i;injection e with s u
    subst s;subst u;exact cons (fun b o len w e=>by cases e) (caps n A.2 G f c q g)
   ·unfold VRs at i;obtain⟨r,rs,e,h2,q⟩:=i;injection e with s u
    subst s;subst u;refine cons (fun b o len w e=>?_) (caps (n+1) A.2 G f c q g);cases e;obtain⟨fuel,S⟩:=h0;unfold VR at h2;rcases Go.Deep.open_slice L S with⟨g1,g2⟩|⟨a,len,cap,m,fu,D,Pl,g1,M,T,U,F,C,X⟩
    ·obtain rfl:=yN L B g1;simp at h2
    ·obtain rfl:=yN L B g1;have hl:rows.length=len:=by
      simp at h2;omega
     injection C with O Y
     have :=hc _ _ (by rw[O];exact j8 ..);simp at this;omega
theorem ahh {f:FuncId}{fn:Func}{s:ChangeSpec}{tb:TypeId}{ks:List ArgK}{args:Array Value}{ds gs:List (DataW H)}{before:List MemPlace}{fresh handsOn jS:Bool}
  (K:laidOutB P=true) (w:∀ t∈fn.params.toList,P.readableRec t=true/\t<P.types.size)
  (G:wK P fn.params.toList ks) (d:fn.resultTypes=#[tb]) (n:P.underlying tb=some .bool) (a:s.vars=[])
  (k:∀ ds:List (DataW H),ds.length=ks.length->(s.fn H ds).results=[.lit (.bool true)]/\(s.fn H ds).args=ds/\(s.fn H ds).vars=[])
  (g:∀ (j:Nat) t v,fn.params[j]?=some t->args[j]?=some v->Value.okWide P W .any base t v)
  (y:DataW.Whole enc P fn.params.toList s.vars false W args.toList ds gs before) (o:(DataW.weightsEach P (fn.params.toList++s.plain.varTypes P) (ds++gs)).all (· <=reachBytes)=true)
  (r:∀ l1 l2,DataW.slice l1 l2∈ds->l1.length<=N)
  (law:∀ vs h,nO ks 0 vs h->v8 N vs->∃ h',aq P f vs h (.bool true) h'):
  Calls P f args W fun e W'=>∃ v,e= .returned v/\s.post enc P fn false fresh handsOn jS W args v W':=by
 have z:=y;have c:=y.lt;obtain⟨p,q,A,I,rfl,l,_⟩:=y;rw[a] at I;obtain⟨rfl,rfl⟩:=trodVars_none I;have B:(DataW.weightsEach P fn.params.toList ds).all (· <=reachBytes)=true:=by
  have :s.plain.varTypes P=[]:=by simp[ChangeSpec.plain,DataSpec.varTypes,a]
  rw[this,iw,iw] at o;exact o
 simp only[iw] at c l;obtain⟨C,vs,h,pl,g1,_,g3,g4⟩:=xM (base:=base) 0 G A (fun j t v h1 h2=>g j t v (by simpa using h1) (by simpa using h2)) B l;obtain⟨k1,k2,L⟩:=k ds C;obtain⟨h',M⟩:=law vs h g1 (caps (base:=base) (ρ:=fun i=>pl.getD i (0,0)) (dom:=fun _=>True) 0 G A (fun j t v h1 h2=>g j t v (by simpa using h1) (by simpa using h2)) g1 (g3 _ _ fun i _=>⟨ae,trivial⟩) r);refine(MK M rfl g3 g4).mono fun e W' ⟨O,D⟩=>?_
 subst O;have m:∀ x∈p,W.sameAt W' x:=fun x u=>D.same (c x u)
 have r1:∀ b sp J,DataW.TrodAll enc P W' b sp J fn.resultTypes.toList ((Value.bool true).resultList fn.resultTypes.size) (s.fn H (ds++[])).results []:=fun b sp J=>by
  rw[d,iw,k1];exact trodAll_cons_mk (shut_bool n _) trodAll_mk0
 have r2:∀ sp:Nat->Bool,(∀ x∈p,sp x.block=true)->DataW.TrodAll enc P W' 0 sp true fn.params.toList args.toList (s.fn H (ds++[])).args p:=fun sp E=>by
  rw[iw,k2];exact Jy K w A m E
 have r3:∀ sp,DataW.TrodVars enc P W' sp s.vars (s.fn H (ds++[])).vars []:=fun sp=>by
  rw[a,iw,L];rfl
 refine⟨_,rfl,ds,[],p++[],[],p,[],z,r1 _ _ _,r2 _ (fun x u=>by simpa using c x u),r3 _,D.frame _,fun _=>?_⟩;refine⟨RowKit.ok_one d rfl (okWide_bool_mk n _),_,_,([]++p)++[],⟨[]++p,[],trodAll_append (r2 _ fun _ _=>rfl) (r1 _ _ _),r3 _,rfl,?_,fun h=>by cases h⟩,?_⟩
 ·intro b off F;simp only[ff,iw] at F;rw[D.frozen (p:=⟨b,off,none⟩) (c _ F)];exact l b off F
 ·intro x u _;simpa using u
end
end
end Go.Vm
end
section
namespace Go.Vm
open Go.Proofs
theorem aeu {r:List V}(h:Kinds [.i64,.i64,.i64,.i64,.u32,.u32,.str] r):∃ a:ActP,r=[V.i64 a.kind,.i64 a.A,.i64 a.B,.i64 a.C,.u32 a.src,.u32 a.dst,.str a.txt]/\-9223372036854775808<=a.A/\a.A<9223372036854775808:=by
 obtain⟨_,l,rfl,⟨k,rfl,-⟩,h⟩:=h;obtain⟨_,l,rfl,⟨a,rfl,e,a2⟩,h⟩:=h;obtain⟨_,l,rfl,⟨b,rfl,-⟩,h⟩:=h;obtain⟨_,l,rfl,⟨c,rfl,-⟩,h⟩:=h;obtain⟨_,l,rfl,⟨s,rfl⟩,h⟩:=h;obtain⟨_,l,rfl,⟨d,rfl⟩,h⟩:=h;obtain⟨_,l,rfl,⟨t,rfl,-⟩,h⟩:=h;have h:l=[]:=h;subst h;exact⟨⟨k,a,b,c,s,d,t⟩,rfl,e,by show a<_;omega⟩
theorem Kf:∀ {rows:List (List V)},(∀ r∈rows,Kinds [.i64,.i64,.i64,.i64,.u32,.u32,.str] r)->∃ as_:List ActP,rows=as_.map (fun a=>[V.i64 a.kind,.i64 a.A,.i64 a.B,.i64 a.C,.u32 a.src,.u32 a.dst,.str a.txt])/\∀ a∈as_,-9223372036854775808<=a.A/\a.A<9223372036854775808
 |[],_=>⟨[],rfl,fun _ h=>nomatch h⟩
 |r::rows,h=>by
  obtain⟨a,rfl,h1⟩:=aeu (h r ae);obtain⟨as_,rfl,h2⟩:=Kf (rows:=rows) fun r c=>h r (by simp[c])
  exact⟨a::as_,rfl,fun x b=>by
   rcases cQ.1 b with rfl|b
   ·exact h1
   ·exact h2 x b⟩
theorem EV (as_:List ActP)(n:Nat):af n (as_.map fun a=>[V.i64 a.kind,.i64 a.A,.i64 a.B,.i64 a.C,.u32 a.src,.u32 a.dst,.str a.txt]).flatten:=by
 induction as_ with
 |nil=>trivial
 |cons a as_ ih=>
  show af n (V.i64 a.kind:: .i64 a.A:: .i64 a.B:: .i64 a.C:: .u32 a.src:: .u32 a.dst:: .str a.txt::_);exact⟨trivial,trivial,trivial,trivial,trivial,trivial,trivial,ih⟩
theorem agP (zs:List Int)(n:Nat):af n (zs.map V.i64):=by
 induction zs with
 |nil=>trivial
 |cons z zs ih=>exact⟨trivial,ih⟩
structure TopArgs (vs:List V) (h:List (Option Blk)) (bv av:V) (seed:List ai) (bs:List Int) (as_:List ActP):Prop where
 vs:vs=[bv,.str seed,av]
 sane:Sane h
 b:BvAt h bv bs
 a:AcAt h av as_
 r:∀ a∈as_,-9223372036854775808<=a.A/\a.A<9223372036854775808
theorem JE {n:Nat}{vs:List V}{h:List (Option Blk)}(d:nO [.row [.i64,.i64,.i64,.i64,.u32,.u32,.str] 56] n vs h):∃ (av:V) (as_:List ActP),vs=[av]/\(∀ a∈as_,-9223372036854775808<=a.A/\a.A<9223372036854775808)/\
  ((av= .nilSlice/\as_=[]/\h=[])\/(av= .slice n 0 as_.length 7/\∃ b,h=[b]/\(0<as_.length->b=some ⟨true,(as_.map fun a=>[V.i64 a.kind,.i64 a.A,.i64 a.B,.i64 a.C,.u32 a.src,.u32 a.dst,.str a.txt]).flatten,none⟩)/\(as_.length=0->b=none))):=by
 rcases d with⟨c,rfl,rfl,rfl⟩|⟨rows,c,b,h',rfl,rfl,e,-,h1,h2,rfl,rfl⟩
 ·exact⟨_,[],rfl,(fun _ h=>nomatch h),.inl ⟨rfl,rfl,rfl⟩⟩
 ·obtain⟨as_,rfl,f⟩:=Kf e;rw[ba] at h1 h2;exact⟨_,as_,rfl,f,.inr ⟨by rw[ba];rfl,b,rfl,h1,h2⟩⟩
theorem TY {vs:List V}{h:List (Option Blk)}(c:nO [.row [.i64] 8,.cell .str,.row [.i64,.i64,.i64,.i64,.u32,.u32,.str] 56] 0 vs h):∃ bv av seed bs as_,TopArgs vs h bv av seed bs as_:=by
 rcases c with⟨a,rfl,⟨v,a,rfl,⟨seed,rfl,-⟩,c⟩⟩|⟨rows,a,j,h',rfl,rfl,k,-,d,l,⟨v,a,rfl,⟨seed,rfl,-⟩,c⟩⟩
 ·obtain⟨av,as_,rfl,f,m⟩:=JE c;rcases m with⟨rfl,rfl,rfl⟩|⟨rfl,j,rfl,h1,h2⟩
  ·exact⟨_,_,seed,[],[],rfl,fun b B e=>by simp[ag] at e,.inl ⟨rfl,.inl rfl⟩,.inl ⟨rfl,rfl⟩,f⟩
  ·refine⟨_,_,seed,[],as_,rfl,fun b B e=>?_,.inl ⟨rfl,.inl rfl⟩,.inr ⟨0,rfl,ae,fun h0=>⟨true,h1 h0⟩⟩,f⟩
   match b,e with
   |0,e=>
    by_cases h0:0<as_.length
    ·rw[h1 h0] at e;obtain rfl:_=B:=by simpa [ag] using e
     exact⟨EV _ _,rfl⟩
    ·rw[h2 aa] at e;simp[ag] at e
   |b+1,e=>simp[ag] at e
 ·obtain⟨zs,g,o,-⟩:=Ks k;obtain⟨av,as_,rfl,f,m⟩:=JE c;have q:BvAt (j::h') (.slice 0 0 rows.length 1) zs:=by
   rw[<-o];by_cases h0:0<rows.length
   ·exact .inr ⟨0,true,rfl,by rw[d h0,g];rfl⟩
   ·have :zs=[]:=jJ.1 aa;rw[this];exact .inl ⟨rfl,.inr ⟨0,rfl,ae⟩⟩
  have i:∀ B,j=some B->∀ n,af n B.cs:=fun B e n=>by
   by_cases h0:0<rows.length
   ·rw[d h0,g] at e;cases e;exact agP _ _
   ·rw[l aa] at e;cases e
  rcases m with⟨rfl,rfl,rfl⟩|⟨rfl,p,rfl,h1,h2⟩
  ·refine⟨_,_,seed,zs,[],rfl,fun b B e=>?_,q,.inl ⟨rfl,rfl⟩,f⟩
   match b,e with
   |0,e=>exact⟨i B e _,rfl⟩
   |b+1,e=>simp[ag] at e
  ·refine⟨_,_,seed,zs,as_,rfl,fun b B e=>?_,q,.inr ⟨1,rfl,ae,fun h0=>⟨true,by rw[h1 h0];rfl⟩⟩,f⟩
   match b,e with
   |0,e=>exact⟨i B e _,rfl⟩
   |1,e=>
    have e:p=some B:=e;by_cases h0:0<as_.length
    ·rw[h1 h0] at e;cases e;exact⟨EV _ _,rfl⟩
    ·rw[h2 aa] at e;cases e
   |b+2,e=>simp[ag] at e
end Go.Vm
end
