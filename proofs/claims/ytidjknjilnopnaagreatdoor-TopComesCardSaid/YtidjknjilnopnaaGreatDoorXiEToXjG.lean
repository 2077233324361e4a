/- Proved: laws of a machine of values; no conditions but each theorem's own. -/
import Derived.Test.YtidjknjilnopnaaGreatDoorDelAToXiD
set_option linter.unusedVariables false
set_option linter.unusedSimpArgs false
set_option maxRecDepth 20000
set_option maxHeartbeats 8000000
section
namespace Go.Vm
open Go.Proofs
section
def pj (x:Z):Nat:=if x.getD 0 0=1#8 then 3 else if x.getD 0 0=2#8 then 2 else 1
def gN:List Gr->Nat
 |[]=>0
 |g::l=>pj g.2.2+gN l
def kW:List aj->Nat
 |[]=>0
 |P::l=>P.waits.length+kW l
theorem wY:∀ (a b:List Gr),gN (a++b)=gN a+gN b
 |[],b=>by show gN b=0+gN b;omega
 |g::a,b=>by show pj g.2.2+gN (a++b)=pj g.2.2+gN a+gN b;rw[wY a b];omega
theorem xB:∀ {ps:List aj} {i:Nat} {P P':aj},ps[i]?=some P->kW (ps.set i P')+P.waits.length=kW ps+P'.waits.length
 |[],i,P,P',h=>by simp at h
 |Q::ps,0,P,P',h=>by
  rw[p9] at h;cases h;rw[lF];unfold kW;omega
 |Q::ps,i+1,P,P',h=>by
  rw[nF] at h;have :=xB (ps:=ps) (P':=P') h;rw[xo];unfold kW;omega
theorem YT (u nonce ck x b:Z)(id:aQ):pj (bW.gI u nonce ck x b id).text=1:=rfl
theorem adi (id:aQ)(k:Int)(z:Z):pj (eI id k z)=1:=rfl
theorem GI {a b:aQ}:∀ {d:List Z} {S:aX},gN (ma a b S d)=d.length
 |[],_=>rfl
 |x::d,S=>by
  show pj (eI _ _ _)+gN (ma a b _ d)=d.length+1;rw[adi,GI];omega
theorem Oz (D:au)(b:aQ)(x:Z):gN (D.goes b x).out<=gN D.out+pj x:=by
 unfold au.goes;split
 .omega
 .show gN (D.out++[_])<=_;rw[wY];show _+(pj x+0)<=_;omega
theorem afl {B:eN}{fr:aQ}{T:Int}(h:B.t<=T):(jN B fr T).2.t<=T:=by
 show(lL B.t T fr B.m).2.1<=T;unfold lL;split
 .exact h
 .dsimp only;split <;>split <;>exact dY _
def fW (C:bO)(l:Log)(G:Gx)(j:Nat)(N N':bf)(c k w:Nat):Prop:=
 ∃ l' G2,Ext j l l'/\Log.ok C l'/\NG C l' j N' (c+k)/\GE (fun s _=>s=j) G G2/\NX C l' G2 j N'/\gN N'.D.out+kW N'.Ps+1<=gN N.D.out+kW N.Ps+w
section
variable {C:bO}{l l' l2:Log}{G G' G1 G2:Gx}{j i s t c n k w:Nat}{D D':au}{P P':aj}{N N':bf}{g:Gr}{M:bW}{S:aX}{B:eN}{F:aQ->Int×Bool}
theorem fW.stay (e:Log.ok C l)(a:NG C l j N c)(d:NX C l G j N)(f:B.ok)(b:B.t<=G.T)(h:1<=w):fW C l G j N {N with B:=B} c k w:=
 ⟨l,G,.refl l,e,⟨(a.D).up (ut _ _),a.P,a.len,f⟩,GE.refl _ _,⟨d.D,d.P,b⟩,by show gN N.D.out+kW N.Ps+1<=_;omega⟩
theorem fW.none (d:Log.ok C l)(a:NG C l j N c)(b:NX C l G j N)(e:1<=w):fW C l G j N N c k w:=fW.stay d a b a.B b.B e
theorem ah8 (hC:C.ok)(ht:t<C.n)(hl:Log.ok C l)(p:NG C l t N c)(o:NX C l G t N){f:bL}{aP m:Z}(hm:MX C l G s t (.first f aP m))(hc:c<=4000000000):fW C l G t N (ov N f m (BitVec.ofNat 32 (s+1))).2 c 2 3:=by
 obtain⟨h0,-,-,Q,H,b5⟩:=hm;obtain⟨hs,-,R,b6,c9,K,-,c0,e5,e6⟩:=hl.here _ _ _ _ h0;have V:=o.D.now;have W:=OB p.B (BitVec.ofNat 32 (s+1)) N.D.now;have X:(jN N.B (BitVec.ofNat 32 (s+1)) N.D.now).2.t<=G.T:=by rw[V];exact afl o.B
 have stay:fW C l G t N {N with B:=(jN N.B (BitVec.ofNat 32 (s+1)) N.D.now).2} c 2 3:=fW.stay hl p o W X ag;unfold ov;by_cases hb:N.D.busy=true/\¬ jV (fS N.D.cz (BitVec.ofNat 32 (s+1)) N.D.now) (f.text++cY N.D.aP f.text) 16=m
 .rw[aM hb];have q:=p.D;have ho:=q.ok;have Y:DG C l t {N.D with fresh:=N.D.fresh+1#64} c:=⟨⟨ho.own,ho.aP,ho.af,ho.ac,ho.cz,ho.now,ho.ct,ho.out,ho.aT⟩,q.here,q.own,q.ac,q.ix,q.new,q.out⟩;have c1:DX C l G t {N.D with fresh:=N.D.fresh+1#64}:=⟨o.D.now,o.D.fi,o.D.x0,o.D.out⟩;have e0:gd N.D.aP (N.D.dR.take 24) (fS N.D.cz (BitVec.ofNat 32 (s+1)) N.D.now) f.text (cY N.D.aP f.text)=(bW.gI N.D.aP (N.D.dR.take 24) (fS N.D.cz (BitVec.ofNat 32 (s+1)) N.D.now) f.text (cY N.D.aP f.text) f.id).text:=rfl;have a6:(N.D.dR.take 24).length=24:=by rw[cF,(N.D.sP ho.af).2];rfl
  have a7:=DI (BitVec.ofNat 32 (s+1)) N.D.now ho.cz;have hm:jm C l t s (gd N.D.aP (N.D.dR.take 24) (fS N.D.cz (BitVec.ofNat 32 (s+1)) N.D.now) f.text (cY N.D.aP f.text)):=by
   rw[q.aP];exact .gI f _ _ h0 a6 a7
  have A:MX C l G t s (.gI N.D.aP (N.D.dR.take 24) (fS N.D.cz (BitVec.ofNat 32 (s+1)) N.D.now) f.text (cY N.D.aP f.text) f.id):=⟨f,h0,a6,a7,q.aP,rfl,by rw[q.aP],rfl⟩;refine⟨l,G,.refl l,hl,⟨Y.goes ((Y.ok.goes _ _).up I) I ht hs (fun e=>R e.symm) hm,p.P,p.len,p.B⟩,GE.refl _ _,⟨?_,o.P,o.B⟩,?_⟩
  .dsimp only;rw[e0];exact c1.goes q.here ht hs (fun e=>R e.symm) A
  .have h1:=Oz {N.D with fresh:=N.D.fresh+1#64} (BitVec.ofNat 32 (s+1)) (gd N.D.aP (N.D.dR.take 24) (fS N.D.cz (BitVec.ofNat 32 (s+1)) N.D.now) f.text (cY N.D.aP f.text));rw[e0,YT] at h1;dsimp only at h1 |-
   rw[e0];omega
 rw[aq hb];by_cases h1:¬ (jN N.B (BitVec.ofNat 32 (s+1)) N.D.now).1=0
 .rw[aM h1];exact stay
 rw[aq h1];by_cases h2:N.D.ac<f.su
 .rw[aM h2];exact stay
 rw[aq h2];cases h3:N.Ps.findIdx? (fun P=>decide (P.aP=bI f.own)) with
 |none=>exact stay
 |some i=>
  dsimp only;cases h4:N.Ps[i]? with
  |none=>exact stay
  |some P=>
   dsimp only;by_cases h5:P.dV=true/\¬ later f.sec f.nano P.sec P.nano
   .rw[aM h5];exact stay
   rw[aq h5];by_cases h6:f.su<P.bP
   .rw[aM h6];exact stay
   rw[aq h6];obtain⟨q1,q2,-⟩:=ub.1 h3;obtain⟨L,c2⟩:=cA.1 h4;have hi:i<C.n-1:=by rw[<-p.len];exact L
   have O:=p.P i L;have d:=o.P i L;rw[c2] at O q2 d;have q2:P.aP=bI f.own:=by simpa using q2
   rw[O.aP,K] at q2;obtain rfl:=hC.Hv _ _ (qj hi ht) hs q2;obtain⟨l',e1,e2,e3,e4⟩:=(ajI ht hi hl p.D O h0 I h6 hc).ex;have a8:=Ja p.D hc;have b0:=(N.D.sP p.D.ok.af).2;have r:=e4.eC;have v:=e4.ok;have q:=p.D;unfold qZ at e3 e4 r v |-
   dsimp only at e3 e4 r v |-
   have b2:cm.ok ⟨f,P.aR,N.D.dR,N.D.ac,N.D.index+1#32⟩:=⟨b6,O.ok.aR,b0,p.D.ok.ac⟩;generalize y:(⟨f,P.aR,N.D.dR,N.D.ac,N.D.index+1#32⟩:cm)=g at*;have E:g.f=f:=by rw[<-y]
   have c3:g.cg=N.D.index+1#32:=by rw[<-y]
   have c4:g.aR=P.aR:=by rw[<-y]
   have c5:g.e=N.D.dR:=by rw[<-y]
   have c6:g.ac=N.D.ac:=by rw[<-y]
   obtain⟨mm,w1,w2,-⟩:=KF v (x:=g.text) (by rw[(g.facts b2).1];decide) N.D.now;have b3:(n7 P g (BitVec.ofNat 32 (bN t i+1)) N.D.now).aP=bI (C.own (bN t i)):=O.aP;rw[b3] at w2;have c7:SG l' t (bN t i) (aX.fresh g.f.su g.cg g.f.id (g.key 1) (g.key 0) N.D.now false):=r _ (.inr (.inr rfl));have hE:=GE.set G t (bN t i) True False;have A:MX C l' (G.set t (bN t i) True False) t (bN t i) (.second g (bI (C.own (bN t i))) mm):=by
    refine⟨by rw[E];exact e1.le _ _ _ h0,c7.1,by rw[c4];exact O.aR,by rw[c5];exact b0,by rw[c6];exact q.ac,rfl,w1,fun e=>⟨.inr ⟨trivial,rfl,rfl⟩,.inl (b5 (by rw[<-E];exact e))⟩,fun z=>?_⟩;have :=o.D.x0 z;show G.X0 t<_;rw[c3,a8];omega
   have b4:DX C l' (G.set t (bN t i) True False) t {N.D with index:=N.D.index+1#32,fresh:=N.D.fresh+1#64}:=⟨o.D.now,o.D.fi,fun z=>by have :=o.D.x0 z;show G.X0 t<=(N.D.index+1#32).toNat;rw[a8];omega,fun g hg=>(o.D.out g hg).mono e1.le hE⟩;refine⟨l',_,e1,e2,p.peer h4 W e1 (k:=2) e3 e4,hE.mono fun s u h=>h.1,NX.peer (G:=G) (fun i' c8 _=>o.P i' c8) X hE ?_ ⟨⟨?_,?_,?_,?_,?_,?_⟩,⟨fun S e=>?_,?_,fun S e=>?_,fun S e e2=>?_,?_,?_⟩,⟨fun _=>?_,fun _=> .inr ⟨trivial,rfl,rfl⟩,fun e=>?_,fun _=>?_⟩,fun z hw=>d.wz z (hw.resolve_right fun h=>h.1)⟩,?_⟩
   .rw[w2];exact b4.goes q.here ht hs (pU) A
   .exact d.tm.wt
   .exact d.tm.tw
   .exact d.tm.tl
   .exact d.tm.tu
   .exact d.tm.r1
   .intro z hf hw ho;obtain⟨a,b⟩:=d.tm.r2 z (fun x=>hf (.inl x)) hw ho;exact⟨a.imp id fun a=>⟨a.1,.inl a.2⟩,b⟩
   .rcases e with e|e|e
    .exact d.ss.bo S (.inl e)
    .exact d.ss.bo S (.inr (.inl e))
    .cases e;show N.D.now<=G.T;omega
   .exact d.ss.sq
   .cases e;exact⟨rfl,rfl⟩
   .cases e;have e2:g.f.su=2:=e2;exact A.2.2.2.2.2.2.2.1 e2
   .exact fun z hf=>d.ss.r3 z fun x=>hf (.inl x)
   .exact fun z hf=>d.ss.fr z (hf.resolve_right fun h=>h.1)
   .show g.f.ac=_;rw[E];exact c0
   .obtain⟨a,b,c⟩:=d.ks.pn e;exact⟨.inl a,.inl b,c⟩
   .show g.f.sec<=G.T/\g.f.nano<G.fi _;rw[E];exact⟨Q,H⟩
   .have h1:=Oz {N.D with index:=N.D.index+1#32,fresh:=N.D.fresh+1#64} (BitVec.ofNat 32 (bN t i+1)) ((n7 P g (BitVec.ofNat 32 (bN t i+1)) N.D.now).gU N.D.now g.text);have h2:=xB (P':=n7 P g (BitVec.ofNat 32 (bN t i+1)) N.D.now) h4;have h3:(n7 P g (BitVec.ofNat 32 (bN t i+1)) N.D.now).waits=P.waits:=rfl;rw[h3] at h2;have h5:pj ((n7 P g (BitVec.ofNat 32 (bN t i+1)) N.D.now).gU N.D.now g.text)=2:=by rw[w2];rfl
    rw[h5] at h1;dsimp only at h1 h2 |-
    omega
theorem aad (p:Log.ok C l)(q:NG C l j N c)(r:NX C l G j N){id:aQ}(ck:Z)(d:ck.length=16):fW C l G j N (oK N id ck).2 c 0 1:=by
 obtain⟨l',o,u,v⟩:=(XU p q (id:=id) ck d).ex;refine⟨l',G,o,u,v,GE.refl _ _,?_⟩;have a:=r.mono o.le (GE.refl (fun _ _=>False) G) fun _ h=>h
 unfold oK;cases h1:N.Ps.findIdx? (iO id) with
 |none=>exact⟨a,bz _⟩
 |some i=>
  dsimp only;cases h2:N.Ps[i]? with
  |none=>exact⟨a,bz _⟩
  |some P=>
   dsimp only;obtain⟨e,f⟩:=cA.1 h2;have b:=a.P i e;rw[f] at b;refine⟨NX.peer (G:=G) (fun x m _=>a.P x m) a.B (GE.refl _ _) a.D ⟨b.tm,b.ss,b.ks,b.wz⟩,?_⟩;have y:=xB (P':={P with ck:=ck,un:=N.D.now+120}) h2;dsimp only at y |-
   omega
end
end
section
theorem ZD {x:Int}{k c m z:Z}(a:z.length=16):(lh x k c m z).1=[]:=by
 have b:z.take (z.length-16)=[]:=by rw[a];rfl
 unfold lh;split
 .unfold pV;rw[b];split
  .split
   .rfl
   .split
    .exact M8 ci
    .rfl
  .rfl
 .unfold uk;rw[b];split
  .split
   .rfl
   .split
    .exact M8 ci
    .rfl
  .rfl
theorem Wj {S:aX}{k:Int}{z:Z}{now:Int}(h:(S.open_ k z now).2.1=0)(e:16<=z.length):
  now<S.bo+180/\(S.open_ k z now).2.2.bo=S.bo/\(S.open_ k z now).2.2.se=S.se/\(S.open_ k z now).2.2.fs=S.fs/\(S.open_ k z now).2.2.eF=S.eF/\(S.open_ k z now).2.2.dX=S.dX/\(S.open_ k z now).2.2.su=S.su/\(S.open_ k z now).2.2.sd=S.sd/\((S.open_ k z now).1≠[]->16<z.length):=by
 unfold aX.open_ at h |-
 by_cases m:S.bo+180<=now
 .rw[aM m] at h;simp at h
 rw[aq m] at h |-
 by_cases f:n8 S.nx S.bits k=0
 .rw[aM f] at h |-
  by_cases a:(lh S.su S.rc (eV S.su (BitVec.ofInt 64 k)) [] z).2=0
  .rw[aM a] at h |-
   refine⟨I,rfl,rfl,rfl,rfl,rfl,rfl,rfl,fun b=>?_⟩;by_cases d:z.length=16
   .exact absurd (ZD d) b
   .omega
  .rw[aq a] at h;exact absurd h a
 .rw[aq f] at h;exact absurd h f
section
variable {C:bO}{l l' l2:Log}{G G' G1 G2:Gx}{j i s t c n w:Nat}{D D':au}{P P':aj}{N N':bf}{g:cm}{M:bW}{S S':aX}{B:eN}{F:aQ->Int×Bool}{aY:Z}
theorem VG (z:C.ok)(A:j<C.n)(W:Log.ok C l)(hG:G.ok)(E:NG C l j N c)(o:NX C l G j N){aP m:Z}(hm:MX C l G s j (.second g aP m)):fW C l G j N (mC N g (BitVec.ofNat 32 (s+1))).2 c 5 2:=by
 obtain⟨h0,H,K,he,v,-,-,X,Y⟩:=hm;obtain⟨-,hs,-,a6,-,-,-,-,b5,b6⟩:=W.here _ _ _ _ h0;have hg:g.ok:=⟨a6,by rw[K];exact(z.aR s j).1,he,by rw[v];exact z.ac s hs⟩;obtain⟨l',e1,e2,L⟩:=(agW A W E h0 H hg v).ex;have c3:mC N g (BitVec.ofNat 32 (s+1))=((mC N g (BitVec.ofNat 32 (s+1))).1,N)->fW C l G j N (mC N g (BitVec.ofNat 32 (s+1))).2 c 5 2:=fun e=>by
  rw[show(mC N g (BitVec.ofNat 32 (s+1))).2=N by rw[e]];exact fW.none W E o ag
 revert L c3;unfold mC;cases h1:N.Ps.findIdx? (iO g.f.id) with
 |none=>exact fun _ h=>h rfl
 |some i=>
  dsimp only;cases h2:N.Ps[i]? with
  |none=>exact fun _ h=>h rfl
  |some P=>
   dsimp only;by_cases h3:g.f.su<P.bP
   .rw[aM h3];exact fun _ h=>h rfl
   rw[aq h3];intro L _;obtain⟨b1,rfl,b3,hP⟩:=Fg E h0 h1 h2;obtain⟨O,a7⟩:=cA.1 h2;have hi:i<C.n-1:=by rw[<-E.len];exact O
   have d:=o.P i O;rw[a7] at d;have Q:=o.D.now;have c0:=hP.ok.wl;have hq:=hG.q.1;obtain⟨c1,c2⟩:=agP P.waits;have p:vg N.D (mK P g (BitVec.ofNat 32 (bN j i+1)) N.D.now)=_:=QY (S:=aX.fresh g.f.su P.bi g.cg (g.key 0) (g.key 1) N.D.now true) (yd z A hi) rfl (by show N.D.now<N.D.now+180;omega) (by show(0:Int)+P.waits.length+1<1000;omega) (fun _=>by show N.D.now<N.D.now+120;omega);have a8:(mK P g (BitVec.ofNat 32 (bN j i+1)) N.D.now).waits=P.waits:=rfl;rw[a8] at p;rw[p] at L |-
   dsimp only at L |-
   have hE:=GE.set G j (bN j i) True True;have b0:∀ R∈ma (BitVec.ofNat 32 (j+1)) (BitVec.ofNat 32 (bN j i+1)) (aX.fresh g.f.su P.bi g.cg (g.key 0) (g.key 1) N.D.now true) (qE P.waits),fV C l' (G.set j (bN j i) True True) R:=by
    refine MJ z A (qj hi A) pU ?_ (dY _) (by show(0:Int)+(qE P.waits).length<1000;omega) (g.rT hg ag) (fun x y=>?_) fun V=>⟨.inl (.inr ⟨trivial,rfl,rfl⟩),fun _=> .inr (.inr (Y V))⟩
    .obtain⟨x,y⟩:=H;exact⟨x,e1.le _ _ _ y⟩
    .unfold qE at y;split at y
     .rw[oQ] at y;subst y;decide
     .exact hP.ok.ws x y
   refine⟨l',_,e1,e2,L,hE.mono fun s u h=>h.1,NX.peer (G:=G) (fun i' b4 _=>o.P i' b4) o.B hE ⟨Q,o.D.fi,o.D.x0,fun R k=>?_⟩ ⟨?_,⟨fun S e=>?_,fun S e=>?_,fun S e=>(nomatch e),fun S e=>(nomatch e),fun V hf=>absurd (.inr ⟨trivial,rfl,rfl⟩) hf,fun V hf S e=>?_⟩,⟨fun _=>v,fun _=> .inr ⟨trivial,rfl,rfl⟩,fun e=>?_,d.ks.st⟩,fun _ _=>rfl⟩,?_⟩
   .rcases gZ.1 k with k|k
    .exact(o.D.out R k).mono e1.le hE
    .rw[E.D.here] at k;exact b0 R k
   .show TX _ j _ (((P.tm.ev 5 N.D.now).ev 1 N.D.now)) _;rw[bw.Kt,bw.uI];exact⟨fun h=>absurd rfl h,fun _=>rfl,d.tm.tl,d.tm.tu,fun _ h=>(nomatch h),fun _ _ _ h=>(nomatch h)⟩
   .rcases e with e|e|e
    .exact d.ss.bo S (.inr (.inl e))
    .cases e;show N.D.now<=G.T;omega
    .cases e
   .cases e;show(0:Int)+(qE P.waits).length<=G.q;omega
   .cases e;refine .inr ?_;show G.T0<=N.D.now;obtain⟨a,b,-⟩:=hG.rd V;omega
   .have e:(if P.bP<g.f.su then g.f.su else P.bP)=2:=e;by_cases r:P.bP<g.f.su
    .rw[aM r] at e;obtain⟨a,b⟩:=X e;have b1:=z.ac j A;have b2:=z.ac _ hs;exact⟨.inr ⟨trivial,rfl,rfl⟩,.inl a,I,I⟩
    .rw[aq r] at e;obtain⟨a,b,c⟩:=d.ks.pn e;exact⟨.inl a,.inl b,c⟩
   .rw[wY,GI];have h5:=xB (P':={mK P g (BitVec.ofNat 32 (bN j i+1)) N.D.now with waits:=[],se:=some {aX.fresh g.f.su P.bi g.cg (g.key 0) (g.key 1) N.D.now true with se:=(aX.fresh g.f.su P.bi g.cg (g.key 0) (g.key 1) N.D.now true).se+(qE P.waits).length},tm:=(mK P g (BitVec.ofNat 32 (bN j i+1)) N.D.now).tm.ev 1 N.D.now}) h2;rw[show({mK P g (BitVec.ofNat 32 (bN j i+1)) N.D.now with waits:=[],se:=some {aX.fresh g.f.su P.bi g.cg (g.key 0) (g.key 1) N.D.now true with se:=(aX.fresh g.f.su P.bi g.cg (g.key 0) (g.key 1) N.D.now true).se+(qE P.waits).length},tm:=(mK P g (BitVec.ofNat 32 (bN j i+1)) N.D.now).tm.ev 1 N.D.now}:aj).waits.length=0 from rfl] at h5;dsimp only at h5 |-
    omega
theorem L6 (r:G.ok)(e:DX C l G j D)(d:PX C G j i P)(fr:aQ)(hc:aY≠[]->G.ro->¬ G.fr j (bN j i)->G.T<=G.T0+12/\G.wz (bN j i) j):
  DX C l G j (k7 D P F fr aY).2.1/\PX C G j i (k7 D P F fr aY).2.2/\(k7 D P F fr aY).2.1.out=D.out/\(k7 D P F fr aY).2.2.waits=P.waits:=by
 have k:PX C G j i {P with at_:=fr}:=⟨d.tm,d.ss,d.ks,d.wz⟩;have h:=e.now;unfold k7;by_cases u:aY=[]
 .rw[aM u];exact⟨e,k,rfl,rfl⟩
 rw[aq u];have f:PX C G j i {P with at_:=fr,tm:=P.tm.ev 2 D.now}:=by
  refine⟨?_,d.ss,d.ks,d.wz⟩;show TX G j _ (P.tm.ev 2 D.now) _;rw[bw.VN];refine⟨d.tm.wt,d.tm.tw,d.tm.tl,?_,d.tm.r1,fun q y z _=>?_⟩
  .show(if _ then _ else _)<=_;split
   .exact d.tm.tu
   .omega
  .dsimp only;by_cases v:P.tm.o=true
   .rw[aM v];exact d.tm.r2 q y z v
   .rw[aq v,h];obtain⟨a,b⟩:=hc u q y;exact⟨.inr ⟨a,b⟩,fun _=>by omega⟩
 by_cases x:(aY.length:Int)<4
 .rw[aM x];exact⟨e,f,rfl,rfl⟩
 rw[aq x];split
 .exact⟨⟨e.now,e.fi,e.x0,e.out⟩,f,rfl,rfl⟩
 .exact⟨e,f,rfl,rfl⟩
theorem aj8 (hC:C.ok)(O:j<C.n)(hl:Log.ok C l)(hG:G.ok)(V:NG C l j N c)(o:NX C l G j N){id:aQ}{k:Int}{z:Z}(hm:MX C l G s j (.data id k z)):fW C l G j N (mH N F id k z (BitVec.ofNat 32 (s+1))).2 c 5 1:=by
 obtain⟨⟨x0,h0⟩,-,-,W,-,X⟩:=hm;obtain⟨l',K,e2,p⟩:=(aas (F:=F) O hl V h0 k z).ex;have c8:mH N F id k z (BitVec.ofNat 32 (s+1))=((mH N F id k z (BitVec.ofNat 32 (s+1))).1,N)->fW C l G j N (mH N F id k z (BitVec.ofNat 32 (s+1))).2 c 5 1:=fun e=>by
  rw[show(mH N F id k z (BitVec.ofNat 32 (s+1))).2=N by rw[e]];exact fW.none hl V o ag
 revert p c8;unfold mH;cases h1:N.Ps.findIdx? (fun P=>(jQ id P).isSome) with
 |none=>exact fun _ h=>h rfl
 |some i=>
  dsimp only;cases h2:N.Ps[i]? with
  |none=>exact fun _ h=>h rfl
  |some P=>
   dsimp only;cases h3:jQ id P with
   |none=>exact fun _ h=>h rfl
   |some w=>
    dsimp only;obtain⟨c4,S,m,Y⟩:=GV h3;rw[m];dsimp only;intro p _;obtain⟨L,a6⟩:=cA.1 h2;have hi:i<C.n-1:=by rw[<-V.len];exact L
    have Q:=V.P i L;rw[a6] at Q;have d:=o.P i L;rw[a6] at d;obtain⟨⟨x',a7⟩,y',b4⟩:=Q.eC S (Hm m);rw[Y,h0] at a7;obtain⟨rfl,rfl⟩:x0=x'/\s=bN j i:=by cases a7;exact⟨rfl,rfl⟩
    have a8:=o.D.now;unfold rk at p |-
    by_cases ho:(S.open_ k z N.D.now).2.1=0
    rotate_left
    .rw[aq ho] at p |-
     refine⟨l',G,K,e2,p,GE.refl _ _,NX.peer (G:=G) (fun i' v _=>o.P i' v) o.B (GE.refl _ _) (o.D.mono K.le (GE.refl (fun _ _=>False) G) rfl) d,?_⟩;have h4:=xB (P':=P) h2;dsimp only;omega
    rw[aM ho] at p |-
    obtain⟨o1,o2,o3,o4,o5,o6,o7,o9,o8⟩:=Wj ho W;have c6:(P.gB w (S.open_ k z N.D.now).2.2).waits=P.waits:=by match w with|0=>rfl|1=>rfl|w+2=>rfl
    generalize (S.open_ k z N.D.now).2.2=S' at*;generalize (S.open_ k z N.D.now).1=aY at*;by_cases b0:w=2
    .subst b0;rw[aM rfl] at p |-
     have y:P.ne=some S:=m;obtain⟨q1,q2⟩:=d.ss.nq S y;have c5:=Q.ok.wl;have hq:=hG.q.1;obtain⟨p1,p2,p3⟩:=Q.ne S y;have b5:=Q.ok.ne S y;have b6:vH N.D (P.gB 2 S') S (BitVec.ofNat 32 (bN j i+1))=_:=NV (S:=S') (P:={P.gB 2 S' with ol:=(P.gB 2 S').se,se:=(P.gB 2 S').ne,ne:=none,bP:=if(P.gB 2 S').bP<S.su then S.su else(P.gB 2 S').bP,at_:=BitVec.ofNat 32 (bN j i+1),tm:=(P.gB 2 S').tm.ev 5 N.D.now}) (yd hC O hi) rfl I (by show S'.se+(P.waits.length:Int)<1000;omega) (fun h=>by rw[o4,q2] at h;cases h);rw[b6] at p |-
     dsimp only at p |-
     simp only[c6] at p |-
     have hE:=GE.set G j (bN j i) False True;have c0:∀ g'∈ma (BitVec.ofNat 32 (j+1)) (BitVec.ofNat 32 (bN j i+1)) S' P.waits,fV C l' (G.set j (bN j i) False True) g':=by
      refine MJ hC O (qj hi O) pU ⟨y',by rw[o6];exact K.le _ _ _ b4⟩ I I ?_ Q.ok.ws fun f=>⟨.inl (.inr ⟨trivial,rfl,rfl⟩),fun hw=>?_⟩
      .rw[o9];exact b5.sd
      .rcases(X f).1 with h|h|h
       .exact .inl (.inl h)
       .exact .inr (.inl ⟨h,.inr ⟨trivial,rfl,rfl⟩⟩)
       .obtain⟨x,hx,-⟩:=hw;rw[d.wz f h] at hx;cases hx
     have b3:DX C l' (G.set j (bN j i) False True) j {N.D with out:=N.D.out++ma N.D.here (BitVec.ofNat 32 (bN j i+1)) S' P.waits}:=⟨a8,o.D.fi,o.D.x0,fun g' r=>by
      rcases gZ.1 r with r|r
      .exact(o.D.out g' r).mono K.le hE
      .rw[V.D.here] at r;exact c0 g' r⟩
     have A:PX C (G.set j (bN j i) False True) j i {P.gB 2 S' with ol:=(P.gB 2 S').se,se:=some {S' with se:=S'.se+P.waits.length},ne:=none,bP:=if(P.gB 2 S').bP<S.su then S.su else(P.gB 2 S').bP,at_:=BitVec.ofNat 32 (bN j i+1),waits:=[],tm:=if P.waits=[] then(P.gB 2 S').tm.ev 5 N.D.now else((P.gB 2 S').tm.ev 5 N.D.now).ev 1 N.D.now}:=by
      have c1:∃ b,(if P.waits=[] then P.tm.ev 5 N.D.now else(P.tm.ev 5 N.D.now).ev 1 N.D.now)=⟨false,0,P.tm.l,b,P.tm.u⟩:=by
       split
       .exact⟨_,bw.Kt _ _⟩
       .exact⟨false,by rw[bw.Kt,bw.uI]⟩
      obtain⟨b,hb⟩:=c1;refine⟨?_,⟨fun S2 e=>?_,fun S2 e=>?_,fun S e=>(nomatch e),fun S e=>(nomatch e),fun f hf=>absurd (.inr ⟨trivial,rfl,rfl⟩) hf,fun f hf S2 e=>?_⟩,⟨fun e=>d.ks.kn (e.resolve_right fun h=>h.1),fun e=> .inl (d.ks.k2 e),fun e=>?_,d.ks.st⟩,fun _ _=>rfl⟩
      .show TX _ j _ (if P.waits=[] then P.tm.ev 5 N.D.now else(P.tm.ev 5 N.D.now).ev 1 N.D.now) _;rw[hb];exact⟨fun h=>absurd rfl h,fun _=>rfl,d.tm.tl,d.tm.tu,fun _ h=>(nomatch h),fun _ hf=>absurd (.inr ⟨trivial,rfl,rfl⟩) hf⟩
      .rcases e with e|e|e
       .exact d.ss.bo S2 (.inr (.inl e))
       .cases e;show S'.bo<=G.T;rw[o2];exact d.ss.bo S (.inr (.inr y))
       .cases e
      .cases e;show S'.se+(P.waits.length:Int)<=G.q;omega
      .cases e;exact .inl (o4.trans q2)
      .have e:(if P.bP<S.su then S.su else P.bP)=2:=e;by_cases E:P.bP<S.su
       .rw[aM E] at e;obtain⟨a,b⟩:=d.ss.n2 S y e;have b1:=hC.ac j O;have b2:=hC.ac _ (qj hi O);exact⟨.inl a,.inl b,I,I⟩
       .rw[aq E] at e;obtain⟨a,b,c⟩:=d.ks.pn e;exact⟨.inl a,.inl b,c⟩
     obtain⟨r1,r2,r3,r4⟩:=L6 (F:=F) (aY:=aY) (hG.ge hE) b3 A (BitVec.ofNat 32 (bN j i+1)) fun _ _ hf=>absurd (.inr ⟨trivial,rfl,rfl⟩) hf
     refine⟨l',_,K,e2,p,hE.mono fun s u h=>h.1,NX.peer (G:=G) (fun i' v _=>o.P i' v) o.B hE r1 r2,?_⟩;have c7:∀ R:Int×au×aj,R.2.1.out=N.D.out++ma N.D.here (BitVec.ofNat 32 (bN j i+1)) S' P.waits->R.2.2.waits=[]->gN R.2.1.out+kW (N.Ps.set i R.2.2)+1<=gN N.D.out+kW N.Ps+1:=fun R a b=>by
      have h5:=xB (P':=R.2.2) h2;rw[b] at h5;rw[a,wY,GI];simp only[lq] at h5;omega
     exact c7 _ r3 r4
    .rw[aq b0] at p |-
     have H:w=0\/w=1:=I;have c2:=o.mono K.le (GE.refl (fun _ _=>False) G) fun _ h=>h
     have A:PX C G j i (P.gB w S'):=by
      rcases H with rfl|rfl
      .have m:P.se=some S:=m;refine⟨d.tm,⟨fun S2 e=>?_,fun S2 e=>?_,d.ss.nq,d.ss.n2,fun f hf S2 e=>?_,fun f hf S2 e=>?_⟩,d.ks,d.wz⟩
       .rcases e with e|e|e
        .exact d.ss.bo S2 (.inl e)
        .cases e;rw[o2];exact d.ss.bo S (.inr (.inl m))
        .exact d.ss.bo S2 (.inr (.inr e))
       .cases e;rw[o3];exact d.ss.sq S m
       .rcases e with e|e
        .exact d.ss.r3 f hf S2 (.inl e)
        .cases e;rw[o5];exact d.ss.r3 f hf S (.inr m)
       .cases e;rw[o4,o2];exact d.ss.fr f hf S m
      .have m:P.ol=some S:=m;refine⟨d.tm,⟨fun S2 e=>?_,d.ss.sq,d.ss.nq,d.ss.n2,fun f hf S2 e=>?_,d.ss.fr⟩,d.ks,d.wz⟩
       .rcases e with e|e|e
        .cases e;rw[o2];exact d.ss.bo S (.inl m)
        .exact d.ss.bo S2 (.inr (.inl e))
        .exact d.ss.bo S2 (.inr (.inr e))
       .rcases e with e|e
        .cases e;rw[o5];exact d.ss.r3 f hf S (.inl m)
        .exact d.ss.r3 f hf S2 (.inr e)
     obtain⟨r1,r2,r3,r4⟩:=L6 (F:=F) (aY:=aY) hG c2.D A (BitVec.ofNat 32 (bN j i+1)) fun c3 f hf=>by
      rcases(X f).2 (o8 c3) with h|h|h
      .exact absurd h hf
      .obtain⟨a,b,-⟩:=hG.rd f;exact⟨I,h.2⟩
      .have :S.eF.toNat<=G.X0 j:=by
        rcases H with rfl|rfl
        .exact d.ss.r3 f hf S (.inr m)
        .exact d.ss.r3 f hf S (.inl m)
       rw[Y] at this;omega
     refine⟨l',G,K,e2,p,GE.refl _ _,NX.peer (G:=G) (fun i' v _=>o.P i' v) o.B (GE.refl _ _) r1 r2,?_⟩;have c7:∀ R:Int×au×aj,R.2.1.out=N.D.out->R.2.2.waits=P.waits->gN R.2.1.out+kW (N.Ps.set i R.2.2)+1<=gN N.D.out+kW N.Ps+1:=fun R a b=>by
      have h5:=xB (P':=R.2.2) h2;rw[b] at h5;rw[a];omega
     exact c7 _ r3 (r4.trans c6)
theorem ahg (y:C.ok)(ht:t<C.n)(v:Log.ok C l)(W:G.ok)(q:NG C l t N c)(E:NX C l G t N)(hm:MX C l G s t M)(hc:c<=4000000000):M.fits N/\fW C l G t N (mB N F (BitVec.ofNat 32 (s+1)) M).2 c 5 (pj M.text):=by
 have r:=q.D.aP;have up:∀ {N':bf} {k w:Nat},k<=5->fW C l G t N N' c k w->fW C l G t N N' c 5 w:=fun hk h=>by
  obtain⟨l',G2,a,b,c,d⟩:=h;exact⟨l',G2,a,b,c.up I,d⟩
 match M,hm with
 | .first f aP m,hm=>
  have o:=hm;obtain⟨h1,h2,p,-⟩:=hm;obtain⟨-,-,-,e,K,-⟩:=v.here _ _ _ _ h1;exact⟨⟨e,K.trans q.D.own.symm,h2.trans r.symm,p⟩,up ag (ah8 y ht v q E o hc)⟩
 | .second g aP m,hm=>
  have o:=hm;obtain⟨h1,h2,p,L,Y,h6,h7,-⟩:=hm;obtain⟨-,X,-,e,-⟩:=v.here _ _ _ _ h1;have hg:g.ok:=⟨e,by rw[p];exact(y.aR s t).1,L,by rw[Y];exact y.ac s X⟩;refine⟨⟨hg,h6.trans r.symm,h7,fun i P O Q=>?_⟩,VG y ht v W q E o⟩;obtain⟨b1,R,-,H⟩:=Fg q h1 O Q;exact⟨b1,by rw[H.aR,R,(y.aR t s).2,p]⟩
 | .gI u a6 ck x b id,hm=>
  obtain⟨f,h1,h2,p,rfl,rfl,rfl,rfl⟩:=hm;obtain⟨-,X,-,e,-⟩:=v.here _ _ _ _ h1;have T:=bL.w9 e;have V:=Ap (bI (C.own s)) f.text (by rw[fa];decide) (by rw[T];decide);refine⟨⟨fa _,h2,p,I,I,V,bL.af1 e,fun i P O Q=>?_⟩,up ag (aad v q E ck p)⟩;obtain⟨b1,R,b3,H⟩:=Fg q h1 O Q;have A:P.aP=bI (C.own s):=by rw[H.aP,R]
  obtain⟨-,-,m,g3,g4⟩:=H.bg f b1;exact⟨A,m,g3,by rw[g4,A]⟩
 | .data id k z,hm=>
  have o:=hm;obtain⟨h0,h1,h2,p,L,-⟩:=hm;exact⟨⟨⟨h1,h2⟩,p,L⟩,aj8 y ht v W q E o⟩
end
end
section
def jP:List bf->List Gr
 |[]=>[]
 |N::l=>N.D.out++jP l
def oO:List bf->Nat
 |[]=>0
 |N::l=>kW N.Ps+oO l
def mu (L:bl):Nat:=gN L.aO+oO L.N
def oa (N:bf):bf:={N with D:={N.D with out:=[],aT:=[]}}
theorem N5:∀ {ns:List bf} {g:Gr},g∈jP ns->∃ N∈ns,g∈N.D.out
 |N::l,g,h=>by
  rcases gZ.1 h with h|h
  .exact⟨N,J,h⟩
  .obtain⟨N',b,d⟩:=N5 h;exact⟨N',by simp[b],d⟩
theorem Dt:∀ {ns:List bf},(∀ N∈ns,N.D.out=[])->jP ns=[]
 |[],_=>rfl
 |N::l,h=>by
  show N.D.out++jP l=[];rw[h N J,Dt fun N' b=>h N' (by simp[b])];rfl
theorem DK:∀ {ns:List bf} {t:Nat} {N':bf},(∀ N∈ns,N.D.out=[])->t<ns.length->jP (ns.set t N')=N'.D.out
 |[],t,N',_,h=>by simp at h
 |N::l,0,N',b,_=>by
  rw[lF];show N'.D.out++jP l=_;rw[Dt fun N' d=>b N' (by simp[d]),jn]
 |N::l,t+1,N',b,h=>by
  rw[xo];show N.D.out++jP (l.set t N')=_;rw[b N J,DK (fun N' d=>b N' (by simp[d])) (by simp at h;omega)];rfl
theorem Nh:∀ {ns:List bf} {t:Nat} {N N':bf},ns[t]?=some N->oO (ns.set t N')+kW N.Ps=oO ns+kW N'.Ps
 |[],t,N,N',h=>by simp at h
 |Q::l,0,N,N',h=>by
  rw[p9] at h;cases h;rw[lF];unfold oO;omega
 |Q::l,t+1,N,N',h=>by
  rw[nF] at h;have :=Nh (ns:=l) (N':=N') h;rw[xo];unfold oO;omega
theorem LU {f:bf->bf}(b:∀ N,(f N).Ps=N.Ps):∀ (ns:List bf),oO (ns.map f)=oO ns
 |[]=>rfl
 |N::l=>by
  show kW (f N).Ps+oO (l.map f)=kW N.Ps+oO l;rw[b,LU b l]
theorem aj9 (n:Nat):∀ (l:List Gr),gN (l.take n)<=gN l:=fun l=>by
 have :=wY (l.take n) (l.drop n);rw[yr] at this;omega
theorem acK (x:Z):pj x<=3:=by
 unfold pj;split
 .omega
 .split <;>omega
theorem Ql:∀ (l:List Gr),gN l<=3*l.length
 |[]=>bz _
 |g::l=>by
  have b:=Ql l;have d:=acK g.2.2;show pj g.2.2+gN l<=3*(l.length+1);omega
theorem Oc:∀ {ps:List aj},(∀ P∈ps,P.waits.length<=4)->kW ps<=4*ps.length
 |[],_=>bz _
 |P::l,h=>by
  have d:=Oc (ps:=l) fun P' b=>h P' (by simp[b])
  have e:=h P J;show P.waits.length+kW l<=4*(l.length+1);omega
theorem PW {b:Nat}:∀ {ns:List bf},(∀ N∈ns,kW N.Ps<=b)->oO ns<=b*ns.length
 |[],_=>bz _
 |N::l,h=>by
  have e:=PW (b:=b) (ns:=l) fun N' d=>h N' (by simp[d])
  have f:=h N J;show kW N.Ps+oO l<=b*(l.length+1);rw[Nat.mul_succ];omega
theorem MA:∀ {ns:List bf} {i:Nat} {N:bf},ns[i]?=some N->jP (ns.take (i+1))=jP (ns.take i)++N.D.out
 |[],i,N,h=>by simp at h
 |Q::l,0,N,h=>by
  rw[p9] at h;cases h;show Q.D.out++jP (l.take 0)=[]++Q.D.out;simp[jP]
 |Q::l,i+1,N,h=>by
  rw[nF] at h;show Q.D.out++jP (l.take (i+1))=(Q.D.out++jP (l.take i))++N.D.out;rw[MA h,hZ]
theorem ahs (a b c:List Gr):((a++b).take 60++c).take 60=(a++b++c).take 60:=by
 rw[List.take_append,wO,List.take_append (l₁:=a++b)];congr 1;by_cases h:(a++b).length<=60
 .rw[bq h]
 .rw[cF,lH I,show 60-(a++b).length=0 by omega]
theorem xq {L:bl}(h1:L.all.length=L.N.length)(m:L.aO.length<=60):∀ i,i<=L.N.length->(∀ j,j<i->(da L i).N[j]?=(L.N[j]?).map oa)/\(∀ j al N,j<i->L.N[j]?=some N->L.all[j]?=some al->(da L i).all[j]?=some (al++N.D.aT))/\(da L i).aO=(L.aO++jP (L.N.take i)).take 60
 |0,_=>⟨fun _ h=>absurd h I,fun _ _ _ h=>absurd h I,by show L.aO=(L.aO++[]).take 60;rw[jn,bq m]⟩
 |i+1,F=>by
  obtain⟨v,w,x⟩:=xq h1 m i I;have b:i<L.N.length:=I;have d:i<L.all.length:=I;have z:=(we (L:=L) (bz i)).1.trans (bn b);have B:=(we (L:=L) (bz i)).2.trans (bn d);have E:=Kn z B;have p:=(cA.1 z).1;have q:=(cA.1 B).1;show(∀ j,j<i+1->(oN (da L i) i).N[j]?=_)/\(∀ j al N,j<i+1->_->_->(oN (da L i) i).all[j]?=_)/\(oN (da L i) i).aO=_;rw[E];refine⟨fun j y=>?_,fun j al N y r f=>?_,?_⟩
  .by_cases e:j=i
   .subst e;show((da L j).N.set j _)[j]?=_;rw[kF p,bn b];rfl
   .show((da L i).N.set i _)[j]?=_;rw[mV (fun h=>e h.symm)];exact v j I
  .by_cases e:j=i
   .subst e;rw[bn b] at r;rw[bn d] at f;cases r;cases f;show((da L j).all.set j _)[j]?=_;rw[kF q]
   .show((da L i).all.set i _)[j]?=_;rw[mV (fun h=>e h.symm)];exact w j al N I r f
  .show((da L i).aO++L.N[i].D.out).take 60=_;rw[x,ahs,hZ,MA (bn b)]
structure LY (C:bO) (l:Log) (G:Gx) (L:bl) (c A:Nat):Prop where
 g:LG C l L c A
 ok:G.ok
 N:∀ j N,L.N[j]?=some N->NX C l G j N
 aO:∀ g∈L.aO,fV C l G g
structure LX (C:bO) (l:Log) (G:Gx) (L:bl) (c A:Nat):Prop extends LY C l G L c A where
 out:∀ N∈L.N,N.D.out=[]/\N.D.aT=[]
section
variable {C:bO}{l l' l2:Log}{G G' G1 G2:Gx}{j i s t c n A a:Nat}{D D':au}{P P':aj}{N N':bf}{M:bW}{L L':bl}{k:b9}{g:Gr}{aO:List Gr}
theorem NX.clr (h:NX C l G j N):NX C l G j (oa N):=⟨⟨h.D.now,h.D.fi,h.D.x0,fun g b=>nomatch b⟩,h.P,h.B⟩
theorem LY.sj (h:LY C l G L c A):LX C l G (da L L.N.length) c (A+c)/\mu (da L L.N.length)<=gN L.aO+gN (jP L.N)+oO L.N:=by
 have e:L.all.length=L.N.length:=by rw[h.g.len,h.g.mO]
 obtain⟨q,r,o⟩:=xq e h.g.iM L.N.length (bz _);have u:=(xd (L:=L) L.N.length).1;rw[oR] at o;have p:(da L L.N.length).N=L.N.map oa:=by
  apply wG;intro j;rw[dU];by_cases b:j<L.N.length
  .exact q j b
  .rw[iW I,iW I];rfl
 refine⟨⟨⟨h.g.sj.1,h.ok,fun j N b=>?_,fun g hg=>?_⟩,fun N m=>?_⟩,?_⟩
 .rw[p,dU] at b;cases d:L.N[j]? with
  |none=>rw[d] at b;cases b
  |some w=>
   rw[d] at b;cases b;exact(h.N j w d).clr
 .rw[o] at hg;rcases gZ.1 (F3 hg) with hg|hg
  .exact h.aO g hg
  .obtain⟨N,v,x⟩:=N5 hg;obtain⟨j,b,rfl⟩:=lr v;exact(h.N j _ (bn b)).D.out g x
 .rw[p] at m;obtain⟨w,-,rfl⟩:=eZ.1 m;exact⟨rfl,rfl⟩
 .unfold mu;rw[p,LU (f:=oa) (fun _=>rfl),o];have v:=aj9 60 (L.aO++jP L.N);rw[wY] at v;omega
theorem QC (e:C.ok)(h:LG C l L c A):mu L<=204:=by
 have u:=Ql L.aO;have v:=h.iM;have o:=e.n;have p:oO L.N<=8*L.N.length:=PW fun N f=>by
  obtain⟨j,m,rfl⟩:=lr f;have d:=h.N j m;have q:kW L.N[j].Ps<=4*L.N[j].Ps.length:=Oc fun P b=>by
   obtain⟨i,r,rfl⟩:=lr b;exact(d.P i r).ok.wl
  have :=d.len;omega
 have :=h.len;unfold mu;omega
theorem LG.aeB (h:LG C l L c A)(f:L.N[j]?=some N)(m:∀ g∈aO,g∈L.aO)(b:aO.length<=60)(d:Ext j l l')(o:Log.ok C l')(p:NG C l' j N' (c+n)):LG C l' {L with aO:=aO,N:=L.N.set j N'} (c+n) A:=by
 obtain⟨q,r⟩:=cA.1 f;refine⟨o,by show(L.N.set j N').length=_;rw[b7];exact h.len,h.mO,fun u v=>?_,fun g x=>(h.aO g (m g x)).mono d.le,b,h.all⟩;have w:u<L.N.length:=by
  have v:u<(L.N.set j N').length:=v;rw[b7] at v;exact v
 show NG C l' u (L.N.set j N')[u] (c+n);by_cases e:u=j
 .subst e;rw[uO];exact p
 .rw[vS (fun h=>e h.symm)];exact((h.N u w).ext d e).up (ut _ _)
theorem LY.node (h:LG C l L c A)(q:G.ok)(r:∀ j' N,j'≠j->L.N[j']?=some N->NX C l G j' N)(b:∀ g∈aO,fV C l G g)(p:L.N[j]?=some N)(u:∀ g∈aO,g∈L.aO)(f:aO.length<=60)(m:Ext j l l')(v:Log.ok C l')(w:NG C l' j N' (c+n))(o:GE (fun s _=>s=j) G G')(y:NX C l' G' j N'):LY C l' G' {L with aO:=aO,N:=L.N.set j N'} (c+n) A:=by
 refine⟨h.aeB p u f m v w,q.ge o,fun j' B z=>?_,fun g E=>(b g E).mono m.le o⟩;have z:(L.N.set j N')[j']?=some B:=z;by_cases e:j'=j
 .subst e;rw[kF (cA.1 p).1] at z;cases z;exact y
 .rw[mV (fun h=>e h.symm)] at z;exact(r j' B e z).mono m.le o fun _ x=>e x
theorem LY.up (h:LY C l G L c A)(hc:c<=n):LY C l G L n A:=⟨h.g.up hc,h.ok,h.N,h.aO⟩
theorem NO (ht:t<3):(BitVec.ofNat 32 (t+1)-1#32).toNat=t/\(BitVec.ofNat 32 (t+1)).toNat=t+1:=by
 have :t=0\/t=1\/t=2:=I;rcases this with rfl|rfl|rfl<;>decide
theorem IQ (f:k.cs.length=L.N.length)(ht:t<L.N.length)(b:t<3){B' C':Int}{src dst:aQ}{aY:Z}(h:a<L.aO.length)(d:L.aO[a].2.1=BitVec.ofNat 32 (t+1))(M:bW):
  cV k L ⟨3,a,B',C',src,dst,aY⟩ M=((mB L.N[t] (k.cs[t]'(I)).F L.aO[a].1 M).1,{L with aO:=L.aO.eraseIdx a,N:=L.N.set t (mB L.N[t] (k.cs[t]'(I)).F L.aO[a].1 M).2}):=by
 unfold cV;dsimp only;rw[aq ag,aq ag,aM ag,aq I];unfold wJ;rw[iG,bn h];dsimp only;rw[aq ag,aq ag,d,(NO b).1,bn ht,bn I]
theorem Kv (q:C.ok)(h:LX C l G L c A)(H:k.xs.length=C.n)(v:k.cs.length=C.n)(hc:c<=3000000000)(m:a<L.aO.length)(K:s<C.n)(ht:t<C.n)(V:L.aO[a].1=BitVec.ofNat 32 (s+1))(d:L.aO[a].2.1=BitVec.ofNat 32 (t+1))(f:L.aO[a].2.2=M.text)(W:MX C l G s t M){B' C':Int}{src dst:aQ}{aY:Z}:
  pY k L a M/\∃ l' G',Log.le l l'/\GE (fun s _=>s=t) G G'/\LY C l' G' (cV k L ⟨3,a,B',C',src,dst,aY⟩ M).2 (c+5) A/\gN (cV k L ⟨3,a,B',C',src,dst,aY⟩ M).2.aO+gN (jP (cV k L ⟨3,a,B',C',src,dst,aY⟩ M).2.N)+oO (cV k L ⟨3,a,B',C',src,dst,aY⟩ M).2.N+1<=mu L:=by
 have T:=h.g.len;have O:=q.n;have b:t<L.N.length:=I;rw[IQ I b I m d,V];have p:=h.g.N t b;obtain⟨f1,l',G',r,w,x,u,y,Q⟩:=ahg (F:=(k.cs[t]'(I)).F) q ht h.g.lo h.ok p (h.N t _ (bn b)) W I;obtain⟨w1,z⟩:=NO (t:=t) I;refine⟨fun g S=>?_,l',G',r.le,u,LY.node h.g h.ok (fun Y N _ B=>h.N Y N B) (fun g S=>h.aO g (JC S)) (bn b) (fun g S=>JC S) (by rw[FZ m];have :=h.g.iM;omega) r w x u y,?_⟩
 .rw[bn m] at S;cases S;rw[d,z,w1];refine⟨I,I,f,fun N o=>?_⟩;rw[bn b] at o;cases o;exact f1
 .have h1:=Nh (N':=(mB L.N[t] (k.cs[t]'(I)).F (BitVec.ofNat 32 (s+1)) M).2) (bn b);have X:jP (L.N.set t (mB L.N[t] (k.cs[t]'(I)).F (BitVec.ofNat 32 (s+1)) M).2)=_:=DK (fun N o=>(h.out N o).1) b;have R:gN L.N[t].D.out=0:=by rw[(h.out _ (eM b)).1];rfl
  have E:gN (L.aO.eraseIdx a)+pj L.aO[a].2.2=gN L.aO:=by
   have e:=wY (L.aO.take a) (L.aO.drop a);rw[yr,wA m] at e;rw[List.eraseIdx_eq_take_drop_succ,wY,e];show _=_+(pj L.aO[a].2.2+_);omega
  rw[f] at E;dsimp only;rw[X];unfold mu;omega
end
end
section
def Gx.tick (G:Gx)(x:Int):Gx:={G with T:=G.T+x,q:=G.q+1,r:=G.r+1}
section
variable {C:bO}{l l' l2:Log}{G G' G1 G2:Gx}{j i s t c n A a:Nat}{D D':au}{P P':aj}{N N':bf}{M:bW}{L L':bl}{k:b9}{g:Gr}{aO:List Gr}{x:Int}
theorem MX.tick (h:MX C l G s t M)(d:¬ G.ro)(v:0<=x):MX C l (G.tick x) s t M:=by
 cases M with
 |first f aP m=>
  obtain⟨y,B,e,p,o,q⟩:=h;exact⟨y,B,e,by show f.sec<=G.T+x;omega,o,q⟩
 |second g aP m=>exact h
 |gI u w F x b E=>exact h
 |data E k z=>
  obtain⟨y,B,e,p,o,q⟩:=h;exact⟨y,B,e,p,o,fun r=>absurd r d⟩
theorem fV.tick (h:fV C l G g)(b:¬ G.ro)(d:0<=x):fV C l (G.tick x) g:=by
 obtain⟨s,t,M,q,r,e,f,m,o,p⟩:=h;exact⟨s,t,M,q,r,e,f,m,o,p.tick b d⟩
theorem GT.tick (d:0<=x)(b:G.ro->x=6):GT j t G (G.tick x):=
 ⟨by show G.T<=G.T+x;omega,dY _,fun _=>dY _,fun _ _ h=>h,fun h=>h,rfl,fun h=>⟨by rw[<-b h];rfl,rfl⟩,rfl,rfl,fun _ _ h=>h,fun h=>h,fun _ _ h=>h,fun h=>h⟩
theorem Oq (v:C.ok)(h:LX C l G L c A)(hc:c<=3000000000)(q:0<=x/\G.T+x<=1099511627776)(w:G.ro->x=6)(z:(G.tick x).ok):∀ i,i<=L.N.length->∃ l' G2,Log.le l l'/\Log.ok C l'/\GE (fun s _=>s<i) (G.tick x) G2/\(∀ j N,j<i->(mI x L i).N[j]?=some N->NG C l' j N (c+4)/\NX C l' G2 j N)/\(∀ j N,i<=j->L.N[j]?=some N->NG C l' j N c/\NX C l' G j N)/\∀ o,o<i->∀ N,L.N[o]?=some N->(dd N x).1=0
 |0,_=>⟨l,G.tick x,fun _ _ _ e=>e,h.g.lo,GE.refl _ _,fun j N f=>absurd f I,fun j N _ f=>by
   obtain⟨d,rfl⟩:=cA.1 f;exact⟨h.g.N j d,h.N j _ f⟩,fun _ f=>absurd f I⟩
 |i+1,W=>by
  obtain⟨l1,G1,E,F,p,H,B,K⟩:=Oq v h hc q w z i I;have d:i<L.N.length:=I;obtain⟨O,X⟩:=B i _ (bz _) (bn d);have Q:∀ t,GT i t G G1:=fun t=>(GT.tick q.1 w).ge p (DU _)
  have r:G1.fi i=G.fi i:=p.fo i fun _=>DU _
  obtain⟨f0,l2,G2,f1,f2,f3,f4,f5⟩:=Uz v (j:=i) (by rw[<-h.g.len];exact d) F O hc (z.ge p) X Q r q p.T (h.out _ (eM d)).1;refine⟨l2,G2,fun s Y y e=>f1.le _ _ _ (E _ _ _ e),f2,(p.mono fun s _ h=>by omega).trans (f4.mono fun s _ h=>by omega),fun j N R f=>?_,fun j N S f=>?_,fun o V N u=>?_⟩
  .by_cases m:j=i
   .subst m;rw[Jt W,aM I,bn d] at f;cases f;exact⟨f3,f5⟩
   .have :(mI x L i).N[j]?=some N:=by
     rw[Jt W,aM I] at f;rw[Jt I,aM I];exact f
    obtain⟨a,b⟩:=H j N I this;exact⟨a.ext f1 m,b.mono f1.le f4 fun _ h=>m h⟩
  .obtain⟨a,b⟩:=B j N I f;exact⟨a.ext f1 I,b.mono f1.le (GE.refl (fun _ _=>False) G) fun _ h=>h⟩
  .by_cases e:o=i
   .subst e;rw[bn d] at u;cases u;exact f0
   .exact K o I N u
theorem Cs (r:C.ok)(h:LX C l G L c A)(hc:c<=3000000000)(u:0<=x/\G.T+x<=1099511627776)(y:G.ro->x=6)(f:G.ro->L.aO=[])(v:(G.tick x).ok){B' C':Int}{src dst:aQ}{aY:Z}(M:bW):
  (cV k L ⟨2,x,B',C',src,dst,aY⟩ M).1=0/\∃ l' G',Log.le l l'/\GE (fun _ _=>True) (G.tick x) G'/\LY C l' G' (cV k L ⟨2,x,B',C',src,dst,aY⟩ M).2 (c+5) A:=by
 have E:=r.n;have H:=h.g.len;have e:cV k L ⟨2,x,B',C',src,dst,aY⟩ M=(Ad x L L.N.length,mI x L L.N.length):=by
  unfold cV;dsimp only;rw[aq ag,aM rfl]
 rw[e];obtain⟨l',G2,p,z,q,w,-,B⟩:=Oq r h hc u y v L.N.length (bz _);refine⟨?_,l',G2,p,q.mono fun _ _ _=>trivial,⟨⟨z,(EA (bz _)).trans H,h.g.mO,fun j d=>?_,fun g F=>(h.g.aO g F).mono p,h.g.iM,h.g.all⟩,v.ge q,fun j N d=>?_,fun g F=>?_⟩⟩
 .obtain⟨m,K⟩:∃ m,L.N.length=m+1:=⟨L.N.length-1,I⟩;rw[K,MW I];exact B m I _ (bn I)
 .have b:j<L.N.length:=by rw[EA (bz _)] at d;exact d
  exact((w j _ b (bn d)).1).up I
 .have b:j<L.N.length:=by
   have :=(cA.1 d).1;rw[EA (bz _)] at this;exact this
  exact(w j N b d).2
 .have F:g∈L.aO:=F;by_cases o:G.ro
  .rw[f o] at F;cases F
  .exact((h.aO g F).tick o u.1).mono p q
theorem WZ (O:C.ok)(h:LX C l G L c A)(hk:k.xs.length=C.n)(S:k.cs.length=C.n)(hc:c<=3000000000)(d:¬ G.ro)(V:(G.more 2).ok)(act:cX)(h6:act.kind≠6)(hT:act.kind=2->act.A<=1000000):
  ∃ M,(act.kind=3->0<=act.A->pY k L act.A.toNat M)/\∃ l' G',Log.le l l'/\¬ G'.ro/\G'.q<=G.q+2/\G'.T<=G.T+1000000/\LY C l' G' (cV k L act M).2 (c+5) A:=by
 have b4:=h.g.len;have hn:=O.n;obtain⟨kind,b,Q,aC,src,dst,aY⟩:=act;dsimp only at h6 hT |-
 by_cases W:kind=3/\0<=b/\b<L.aO.length
 .obtain⟨rfl,g1,g2⟩:=W;obtain⟨a,rfl⟩:∃ a:Nat,b=a:=⟨b.toNat,I⟩;have m:a<L.aO.length:=I;obtain⟨s,t,M,q1,q2,q3,q4,q5,q6,q7⟩:=h.aO _ (eM m);obtain⟨f1,l',G',f2,f3,f4,-⟩:=Kv (B':=Q) (C':=aC) (src:=src) (dst:=dst) (aY:=aY) O h hk S hc m q1 q2 q4 q5 q6 q7;exact⟨M,fun _ _=>f1,l',G',f2,by rw[f3.ro];exact d,by rw[f3.q];omega,by rw[f3.T];omega,f4⟩
 refine⟨.data 0#32 0 [],fun z w g hg=>absurd ⟨z,w,by have :=(cA.1 hg).1;omega⟩ W,?_⟩;have b3:∀ e:Int,∃ l' G',Log.le l l'/\¬ G'.ro/\G'.q<=G.q+2/\G'.T<=G.T+1000000/\LY C l' G' (e,L).2 (c+5) A:=fun e=>⟨l,G,fun _ _ _ e=>e,d,I,I,h.toLY.up I⟩
 by_cases h2:kind=2
 .subst h2;by_cases hx:0<=b/\G.T+b<=1099511627776
  .have hq:=V.q;have a8:G.q+2<=900:=hq.2;have b0:=h.ok.q.1;have X:(G.tick b).ok:=⟨by have :=h.ok.T;show 0<=G.T+b;omega,⟨by show 5<=G.q+1;omega,by show G.q+1<=900;omega⟩,fun r=>absurd r d⟩;obtain⟨-,l',G',z,w,E⟩:=Cs (k:=k) (B':=Q) (C':=aC) (src:=src) (dst:=dst) (aY:=aY) O h hc hx (fun r=>absurd r d) (fun r=>absurd r d) X (.data 0#32 0 []);exact⟨l',G',z,by rw[w.ro];exact d,by rw[w.q];show G.q+1<=_;omega,by rw[w.T];show G.T+b<=_;have :=hT rfl;omega,E⟩
  .have e:(cV k L ⟨2,b,Q,aC,src,dst,aY⟩ (.data 0#32 0 [])).2=L:=by
    unfold cV;dsimp only;rw[aq ag,aM rfl];show mI b L L.N.length=L;unfold mI;have :(L.N.take L.N.length).map (fun N=>(dd N b).2)=L.N:=by
     rw[oR];apply C1 J;intro j h1 h2;rw[wq];have a7:=(h.N j _ (bn h2)).D.now;unfold dd;rw[aM I]
    rw[this,IK,jn]
   rw[e];exact b3 0
 unfold cV;dsimp only;by_cases H:kind=1\/kind=7
 .rw[aM H];by_cases hs:b<0\/(L.N.length:Int)<=b
  .rw[aM hs];exact b3 7
  rw[aq hs];have o:b.toNat<L.N.length:=I;rw[bn o,bn (show b.toNat<k.cs.length by omega)];dsimp only;have p:=h.g.N _ o;have f:=h.N _ _ (bn o);by_cases h1:kind=1
  .rw[aM h1];obtain⟨l',G2,z,w,E,R,e5⟩:=NC O I h.g.lo p hc d V f (k.cs[b.toNat]'(I)).F src dst aY;refine⟨l',G2,z.le,by rw[R.ro];exact d,by rw[R.q];exact dY _,by rw[R.T];show G.T<=_;omega,LY.up (LY.node (G:=G.more 2) (aO:=L.aO) h.g V (fun j' N _ Y=>(h.N j' N Y).more ag) (fun g hg=>(h.aO g hg).more 2) (bn o) (fun _ hg=>hg) h.g.iM z w E R e5) I⟩
  .rw[aq h1];have y:=p.D;have ho:=y.ok;have E:NG C l b.toNat {L.N[b.toNat] with D:={L.N[b.toNat].D with busy:=decide (Q=1)}} (c+0):=⟨⟨⟨ho.own,ho.aP,ho.af,ho.ac,ho.cz,ho.now,ho.ct,ho.out,ho.aT⟩,y.here,y.own,y.ac,y.ix,y.new,y.out⟩,p.P,p.len,p.B⟩;exact⟨l,G,fun _ _ _ e=>e,d,I,I,LY.up (LY.node (G:=G) (aO:=L.aO) h.g h.ok (fun j' N _ Y=>h.N j' N Y) h.aO (bn o) (fun _ hg=>hg) h.g.iM (.refl l) h.g.lo E (GE.refl _ _) ⟨⟨f.D.now,f.D.fi,f.D.x0,f.D.out⟩,f.P,f.B⟩) I⟩
 rw[aq H,aq h2];by_cases u:kind=3\/kind=4\/kind=5
 rotate_left
 .rw[aq u];exact b3 1
 rw[aM u];by_cases r:b<0\/(L.aO.length:Int)<=b
 .rw[aM r];exact b3 7
 rw[aq r];have b2:kind≠3:=fun e=>W ⟨e,I,I⟩
 have m:b.toNat<L.aO.length:=I;unfold wJ;rw[bn m];dsimp only;have v:∀ (aO:List Gr) (e:Int),(∀ g∈aO,g∈L.aO)->aO.length<=60->∃ l' G',Log.le l l'/\¬ G'.ro/\G'.q<=G.q+2/\G'.T<=G.T+1000000/\LY C l' G' (e,{L with aO:=aO}).2 (c+5) A:=fun aO e ha a6=>⟨l,G,fun _ _ _ e=>e,d,I,I,LY.up ⟨⟨h.g.lo,h.g.len,h.g.mO,h.g.N,fun g hg=>h.g.aO g (ha g hg),a6,h.g.all⟩,h.ok,h.N,fun g hg=>h.aO g (ha g hg)⟩ I⟩
 by_cases h5:kind=5
 .rw[aM h5];by_cases K:L.aO.length=60
  .rw[aM K];exact b3 9
  .rw[aq K];refine v _ 0 (fun g hg=>?_) (by have :=h.g.iM;simp;omega);rcases gZ.1 hg with hg|hg
   .exact hg
   .rw[oQ] at hg;subst hg;exact eM m
 .rw[aq h5,aM I];exact v _ 0 (fun g hg=>JC hg) (by rw[FZ m];have :=h.g.iM;omega)
end
end
section
def Gx.init:Gx:=⟨0,5,fun _=>0,fun _ _=>False,False,0,0,fun _ _=>False,fun _ _=>False,fun _=>0⟩
def Gx.rounds (G:Gx)(L:bl):Gx:={G with ro:=True,r:=0,T0:=G.T,fr:=fun _ _=>False,wz:=fun _ _=>False,X0:=fun j=>((L.N[j]?).map fun N=>N.D.index.toNat).getD 0}
def Gx.over (G:Gx):Gx:={G with ro:=False}
section
variable {C:bO}{l l' l2:Log}{G G' G1 G2:Gx}{j i s t c n A a:Nat}{D D':au}{P P':aj}{N N':bf}{M:bW}{L L':bl}{k:b9}{g:Gr}{aO:List Gr}{x:Int}{af:Z}{bs:List Int}
theorem afW (h:¬ ua af bs):LX (vK af bs) (fun _ _=>none) Gx.init (mo af bs) 0 0:=by
 have o:=Mf h;have m:∀ (j:Nat) N,(mo af bs).N[j]?=some N->∃ j,j<bs.length/\N=Ax af j (bs.getD j 0) (ig af j bs.length):=fun j N b=>by
  obtain⟨d,rfl⟩:=cA.1 b;refine⟨j,by simpa [mo] using d,GX af bs d⟩
 refine⟨⟨o,⟨dY _,⟨dY _,by show(5:Int)<=900;decide⟩,fun h=>h.elim⟩,fun j N b=>?_,fun g o=>nomatch o⟩,fun N f=>?_⟩
 .obtain⟨p,-,rfl⟩:=m j N b;refine⟨⟨rfl,rfl,fun h=>h.elim,fun g o=>nomatch o⟩,fun i q=>?_,dY _⟩;have q:i<(kS (ig af p bs.length)).length:=q;show PX _ _ j i (kS (ig af p bs.length))[i];rw[yL];exact⟨⟨fun h=>absurd rfl h,fun _=>rfl,dY _,dY _,fun h=>h.elim,fun h=>h.elim⟩,⟨fun S e=>(by rcases e with e|e|e<;>cases e),fun S e=>(nomatch e),fun S e=>(nomatch e),fun S e=>(nomatch e),fun h=>h.elim,fun h=>h.elim⟩,⟨fun h=>h.elim,fun e=>absurd e (by show ¬ (1:Int)=2;decide),fun e=>absurd e (by show ¬ (1:Int)=2;decide),fun e=>(nomatch e)⟩,fun h=>h.elim⟩
 .obtain⟨j,b,rfl⟩:=lr f;obtain⟨p,-,e⟩:=m j _ (bn b);rw[e];exact⟨rfl,rfl⟩
theorem QK (d:NG C l j N c)(hi:N.Ps[i]?=some P){S:aX}(f:P.ol=some S\/P.se=some S\/P.ne=some S):S.eF.toNat<=N.D.index.toNat:=by
 obtain⟨b,rfl⟩:=cA.1 hi;obtain⟨⟨x,e⟩,-⟩:=(d.P i b).eC S f;refine Nat.le_of_not_lt fun h=>?_
 rw[d.D.new _ h] at e;cases e
theorem agZ (h:LX C l G L c A)(f:L.aO=[]):LX C l (G.rounds L) L c A:=by
 refine⟨⟨h.g,⟨h.ok.T,h.ok.q,fun _=>⟨by show G.T=G.T+6*0;omega,dY _,by show(0:Int)<=12;decide⟩⟩,fun j N o=>?_,fun g w=>by rw[f] at w;cases w⟩,h.out⟩;have p:=h.N j N o;obtain⟨r,u⟩:=cA.1 o;have d:=h.g.N j r;rw[u] at d;have m:(G.rounds L).X0 j=N.D.index.toNat:=by show((L.N[j]?).map fun N=>N.D.index.toNat).getD 0=_;rw[o];rfl
 refine⟨⟨p.D.now,p.D.fi,fun _=>Nat.le_of_eq m,fun g w=>by rw[(h.out N (lm o)).1] at w;cases w⟩,fun i y=>?_,p.B⟩;have b:=p.P i y;have v:=d.P i y;refine⟨⟨b.tm.wt,b.tm.tw,b.tm.tl,b.tm.tu,fun _ _=>?_,fun _ _ _ _=>⟨.inl b.tm.tu,fun z=>?_⟩⟩,⟨b.ss.bo,b.ss.sq,b.ss.nq,b.ss.n2,fun _ _ S e=>?_,fun _ h=>h.elim⟩,⟨b.ks.kn,b.ks.k2,b.ks.pn,b.ks.st⟩,fun _ h=>h.elim⟩
 .have :=v.ok.tm.t0;show(0:Int)-5<=_;omega
 .have z:(1:Int)<=0:=z;omega
 .rw[m];refine QK d (bn y) ?_;rcases e with e|e
  .exact .inl e
  .exact .inr (.inl e)
theorem MX.over (h:MX C l G s t M):MX C l G.over s t M:=by
 cases M with
 |first f aP m=>exact h
 |second g aP m=>
  obtain⟨y,B,d,e,o,p,q,r,v⟩:=h;exact⟨y,B,d,e,o,p,q,r,fun h=>h.elim⟩
 |gI u w F x b E=>exact h
 |data E k z=>
  obtain⟨y,B,d,e,o,p⟩:=h;exact⟨y,B,d,e,o,fun h=>h.elim⟩
theorem fV.over (h:fV C l G g):fV C l G.over g:=by
 obtain⟨s,t,M,o,p,b,d,e,f,m⟩:=h;exact⟨s,t,M,o,p,b,d,e,f,m.over⟩
theorem UI (h:LX C l G L c A):LX C l G.over L c A:=by
 refine⟨⟨h.g,⟨h.ok.T,h.ok.q,fun h=>h.elim⟩,fun j N e=>?_,fun g f=>(h.aO g f).over⟩,h.out⟩;have d:=h.N j N e;refine⟨⟨d.D.now,d.D.fi,fun h=>h.elim,fun g f=>(d.D.out g f).over⟩,fun i m=>?_,d.B⟩;have b:=d.P i m;exact⟨⟨b.tm.wt,b.tm.tw,b.tm.tl,b.tm.tu,fun h=>h.elim,fun h=>h.elim⟩,⟨b.ss.bo,b.ss.sq,b.ss.nq,b.ss.n2,fun h=>h.elim,fun h=>h.elim⟩,⟨b.ks.kn,b.ks.k2,b.ks.pn,b.ks.st⟩,fun h=>h.elim⟩
theorem YB (h:LX C l G L c A)(p:G.ro)(y:G.r=12)(v:L.N[j]?=some N)(hi:N.Ps[i]?=some P):P.tm.w=false:=by
 obtain⟨q,u⟩:=cA.1 v;obtain⟨b,rfl⟩:=cA.1 hi;have e:=h.g.N j q;rw[u] at e;have B:=(e.P i b).ok.tm.t6;have z:=((h.N j N v).P i b).tm.r1 p;cases hw:N.Ps[i].tm.w with
 |false=>rfl
 |true=>have :=z hw;omega
theorem Hq (f:C.ok)(h:LX C l G L c A)(m:k.xs.length=C.n)(e:k.cs.length=C.n)(hc:c<=3000000000)(b:L.aO≠[]):
  ∃ M l' G',pY k L 0 M/\Log.le l l'/\GE (fun _ _=>True) G G'/\LY C l' G' (cV k L dy M).2 (c+5) A/\LX C l' G' (cO k L dy M).2 (c+5) (A+(c+5))/\mu (cO k L dy M).2<mu L:=by
 have d:0<L.aO.length:=uS.2 b;obtain⟨s,t,M,w,o,v,p,q,r,u⟩:=h.aO _ (eM d);obtain⟨f1,l',G',f2,f3,f4,f5⟩:=Kv (B':=0) (C':=0) (src:=0#32) (dst:=0#32) (aY:=[]) f h m e hc d w o p q r u;obtain⟨y,z⟩:=f4.sj;refine⟨M,l',G',f1,f2,f3.mono fun _ _ _=>trivial,f4,y,?_⟩;show mu (da _ _)<_;exact pI (Nat.lt_succ_of_le z) f5
theorem EM (p:C.ok)(h:LX C l G L c A)(q:k.xs.length=C.n)(d:k.cs.length=C.n)(hc:c<=3000000000){u:List Gr}(b:L.aO=g::u)(r:s<C.n)(ht:t<C.n)(v:g.1=BitVec.ofNat 32 (s+1))(f:g.2.1=BitVec.ofNat 32 (t+1))(m:g.2.2=M.text)(w:MX C l G s t M):
  pY k L 0 M/\∃ l' G',Log.le l l'/\GE (fun s _=>s=t) G G'/\LY C l' G' (cV k L dy M).2 (c+5) A/\LX C l' G' (cO k L dy M).2 (c+5) (A+(c+5))/\mu (cO k L dy M).2<mu L:=by
 have o:0<L.aO.length:=by rw[b];simp
 have e:L.aO[0]=g:=by simp[b]
 obtain⟨f1,l',G',f2,f3,f4,f5⟩:=Kv (B':=0) (C':=0) (src:=0#32) (dst:=0#32) (aY:=[]) p h q d hc o r ht (by rw[e];exact v) (by rw[e];exact f) (by rw[e];exact m) w;obtain⟨y,z⟩:=f4.sj;exact⟨f1,l',G',f2,f3,f4,y,pI (Nat.lt_succ_of_le z) f5⟩
theorem Qz (f:N.D.out=[]/\N.D.aT=[]):oa N=N:=by
 have b:({N.D with out:=[],aT:=[]}:au)=N.D:=by
  obtain⟨d,e⟩:=f;generalize N.D=D at*;cases D;simp at d e;simp[d,e]
 unfold oa;rw[b]
theorem EG (E:C.ok)(h:LX C l G L c A)(H:k.cs.length=C.n){R:List Gr}(b:L.aO=g::R)(ht:t<C.n)(q:g.2.1=BitVec.ofNat 32 (t+1))(M:bW)(r:L.N[t]?=some N){F:aQ->Int×Bool}(B:(k.cs[t]?).map (·.F)=some F){al:List Pk}(u:L.all[t]?=some al):
  (cO k L dy M).2.N[t]?=some (oa (mB N F g.1 M).2)/\(∀ j,j≠t->(cO k L dy M).2.N[j]?=L.N[j]?)/\(cO k L dy M).2.aO=(R++(mB N F g.1 M).2.D.out).take 60/\(cO k L dy M).2.all[t]?=some (al++(mB N F g.1 M).2.D.aT):=by
 have Q:=E.n;have S:=h.g.len;have v:0<L.aO.length:=by rw[b];simp
 have e:L.aO[0]=g:=by simp[b]
 have f:t<L.N.length:=I;have w:=(cA.1 r).2;have y:(k.cs[t]'(I)).F=F:=by
  rw[bn (show t<k.cs.length by omega)] at B;exact nc B
 have d:cV k L dy M=_:=IQ (k:=k) (B':=0) (C':=0) (src:=0#32) (dst:=0#32) (aY:=[]) I f I v (by rw[e];exact q) M;rw[e,w,y] at d;have z:L.aO.eraseIdx 0=R:=by rw[b];rfl
 rw[z] at d;show(da (cV k L dy M).2 _).N[t]?=_/\(∀ j,j≠t->(da (cV k L dy M).2 _).N[j]?=_)/\(da (cV k L dy M).2 _).aO=_/\(da (cV k L dy M).2 _).all[t]?=_;rw[d];generalize K:(mB N F g.1 M).2=N';dsimp only;have m:({L with aO:=R,N:=L.N.set t N'}:bl).N.length=L.N.length:=b7;have o:R.length<=60:=by have :=h.g.iM;rw[b] at this;simp at this;omega
 obtain⟨V,Y,g3⟩:=xq (L:={L with aO:=R,N:=L.N.set t N'}) (by rw[m];show L.all.length=_;rw[h.g.mO,S]) o _ (bz _);refine⟨?_,fun j O=>?_,?_,?_⟩
 .rw[V t I];show((L.N.set t N')[t]?).map oa=_;rw[kF f];rfl
 .by_cases p:j<L.N.length
  .rw[V j I];show((L.N.set t N')[j]?).map oa=_;rw[mV (fun h=>O h.symm),bn p];have W:=h.out _ (eM p);exact dN some (Qz W)
  .have T:L.N.length<=j:=I;have X:(da {L with aO:=R,N:=L.N.set t N'} ({L with aO:=R,N:=L.N.set t N'}:bl).N.length).N.length<=j:=by
    rw[(xd (L:={L with aO:=R,N:=L.N.set t N'}) _).1,m];exact T
   rw[iW T];exact iW X
 .rw[g3,oR];show(R++jP (L.N.set t N')).take 60=_;rw[DK (fun N r=>(h.out N r).1) f]
 .exact Y t al N' I (kF f) u
theorem NQ (w:C.ok)(h:LX C l G L c A)(y:k.cs.length=C.n){E:List Gr}(b:L.aO=g::E)(ht:t<C.n)(o:g.2.1=BitVec.ofNat 32 (t+1))(M:bW)(p:j≠t){H:bf}(q:L.N[j]?=some H){al:List Pk}(r:L.all[j]?=some al):(cO k L dy M).2.all[j]?=some al:=by
 have B:=w.n;have F:=h.g.len;have d:0<L.aO.length:=by rw[b];simp
 have e:L.aO[0]=g:=by simp[b]
 have u:t<L.N.length:=I;have f:cV k L dy M=_:=IQ (k:=k) (B':=0) (C':=0) (src:=0#32) (dst:=0#32) (aY:=[]) I u I d (by rw[e];exact o) M;show(da (cV k L dy M).2 _).all[j]?=_;rw[f];generalize (mB L.N[t] _ _ M).2=N';dsimp only;have v:({L with aO:=L.aO.eraseIdx 0,N:=L.N.set t N'}:bl).N.length=L.N.length:=b7;have m:(L.aO.eraseIdx 0).length<=60:=by have :=h.g.iM;rw[FZ d];omega
 obtain⟨-,K,-⟩:=xq (L:={L with aO:=L.aO.eraseIdx 0,N:=L.N.set t N'}) (by rw[v];show L.all.length=_;rw[h.g.mO,F]) m _ (bz _);have z:=(cA.1 q).1;have :=K j al H I (by show(L.N.set t N')[j]?=_;rw[mV (fun h=>p h.symm)];exact q) r;rw[(h.out H (lm q)).2,jn] at this;exact this
end
end
section
def aj.calm (P:aj)(now:Int):Prop:=P.tm.w=false/\∀ S,P.se=some S->S.bo+180<=now
section
variable {C:bO}{l l' l2:Log}{G G' G1 G2:Gx}{j i s t c n A a ia:Nat}{D D':au}{P P':aj}{N N':bf}{M:bW}{L L':bl}{k:b9}{g:Gr}{aO:List Gr}{x now:Int}
theorem LD (h:P.calm D.now):∃ T',cT D P=(D,{P with tm:=T'})/\T'.w=false:=by
 obtain⟨m,d⟩:=h;rcases RN P.tm D.now with⟨-,e⟩|⟨-,e⟩|⟨b,-⟩|⟨b,-⟩
 .rw[m] at e;cases e
 .rw[m] at e;cases e
 .refine⟨P.tm.ev 1 D.now,?_,by rw[bw.uI];exact m⟩;unfold cT;rw[aq I,aM b,aq];unfold aj.my;cases f:P.se with
  |none=>simp
  |some S=>
   have :S.over D.now=true:=by
    have :=d S f;unfold aX.over pd;rw[aM this]
   simp[this]
 .refine⟨P.tm,?_,m⟩;unfold cT;rw[aq I,aq I,aq I]
theorem I8:∀ {ps:List aj} {D:au},(∀ P∈ps,P.calm D.now)->(dj D ps).1=D/\∀ (i:Nat) (P:aj),ps[i]?=some P->∃ T',(dj D ps).2[i]?=some {P with tm:=T'}/\T'.w=false
 |[],D,_=>⟨rfl,fun i P h=>by simp at h⟩
 |Q::ps,D,h=>by
  obtain⟨T',b,d⟩:=LD (h Q J);obtain⟨m,o⟩:=I8 (ps:=ps) (D:=D) fun P e=>h P (by simp[e])
  show(dj (cT D Q).1 ps).1=D/\∀ i P,(Q::ps)[i]?=some P->∃ T',((cT D Q).2::(dj (cT D Q).1 ps).2)[i]?=_/\_;rw[b];refine⟨m,fun i P f=>?_⟩
  match i,f with
  |0,f=>
   rw[p9] at f;cases f;exact⟨T',rfl,d⟩
  |i+1,f=>
   rw[nF] at f |-
   exact o i P f
theorem Mm {Q:aj}:∀ {ps:List aj} {ia:Nat} {D:au},ps[ia]?=some Q->cT D Q=iR D Q->(iR D Q).1.now=D.now->(∀ i P,ps[i]?=some P->i≠ia->P.calm D.now)->(dj D ps).1=(iR D Q).1/\(dj D ps).2[ia]?=some (iR D Q).2/\∀ (i:Nat) (P:aj),ps[i]?=some P->i≠ia->∃ T',(dj D ps).2[i]?=some {P with tm:=T'}/\T'.w=false
 |[],ia,D,h,_,_,_=>by simp at h
 |R::ps,0,D,h,e,f,d=>by
  rw[p9] at h;cases h;obtain⟨u,v⟩:=I8 (ps:=ps) (D:=(iR D Q).1) fun P m=>by
   rw[f];obtain⟨i,q,rfl⟩:=lr m;exact d (i+1) _ (by rw[nF];exact bn q) I
  show(dj (cT D Q).1 ps).1=_/\((cT D Q).2::(dj (cT D Q).1 ps).2)[0]?=_/\∀ i P,(Q::ps)[i]?=some P->i≠0->∃ T',((cT D Q).2::(dj (cT D Q).1 ps).2)[i]?=_/\_;rw[e];refine⟨u,rfl,fun i P q r=>?_⟩
  match i,q,r with
  |i+1,q,_=>
   rw[nF] at q |-
   exact v i P q
 |R::ps,ia+1,D,h,e,f,d=>by
  rw[nF] at h;obtain⟨T',o,p⟩:=LD (d 0 R rfl I);obtain⟨u,v,y⟩:=Mm (ps:=ps) (ia:=ia) (D:=D) h e f fun i P q r=>d (i+1) P (by rw[nF];exact q) I
  show(dj (cT D R).1 ps).1=_/\((cT D R).2::(dj (cT D R).1 ps).2)[ia+1]?=_/\∀ i P,(R::ps)[i]?=some P->i≠ia+1->∃ T',((cT D R).2::(dj (cT D R).1 ps).2)[i]?=_/\_;rw[o];refine⟨u,by rw[nF];exact v,fun i P q r=>?_⟩
  match i,q,r with
  |0,q,_=>
   rw[p9] at q;cases q;exact⟨T',rfl,p⟩
  |i+1,q,r=>
   rw[nF] at q |-
   exact y i P q I
theorem Me (h:LX C l G L c A){B' C':Int}{src dst:aQ}{aY:Z}(M:bW):
  (∀ j:Nat,(cO k L ⟨2,x,B',C',src,dst,aY⟩ M).2.N[j]?=(L.N[j]?).map fun N=>oa (dd N x).2)/\(cO k L ⟨2,x,B',C',src,dst,aY⟩ M).2.aO=(L.aO++jP (L.N.map fun N=>(dd N x).2)).take 60/\(∀ (j:Nat) al N,L.N[j]?=some N->L.all[j]?=some al->(cO k L ⟨2,x,B',C',src,dst,aY⟩ M).2.all[j]?=some (al++(dd N x).2.D.aT)):=by
 have e:cV k L ⟨2,x,B',C',src,dst,aY⟩ M=(Ad x L L.N.length,mI x L L.N.length):=by
  unfold cV;dsimp only;rw[aq ag,aM rfl]
 have f:mI x L L.N.length={L with N:=L.N.map fun N=>(dd N x).2}:=by
  unfold mI;rw[oR,IK,jn]
 show(∀ j:Nat,(da (cV k L ⟨2,x,B',C',src,dst,aY⟩ M).2 _).N[j]?=_)/\(da (cV k L ⟨2,x,B',C',src,dst,aY⟩ M).2 _).aO=_/\∀ (j:Nat) al N,_->_->(da (cV k L ⟨2,x,B',C',src,dst,aY⟩ M).2 _).all[j]?=_;rw[e,f];dsimp only;have b:({L with N:=L.N.map fun N=>(dd N x).2}:bl).N.length=L.N.length:=cq _;obtain⟨v,w,y⟩:=xq (L:={L with N:=L.N.map fun N=>(dd N x).2}) (by rw[b];show L.all.length=_;rw[h.g.mO,h.g.len]) h.g.iM _ (bz _);refine⟨fun j=>?_,?_,fun j al N o m=>?_⟩
 .by_cases q:j<L.N.length
  .rw[v j I];show((L.N.map fun N=>(dd N x).2)[j]?).map oa=_;rw[dU];cases L.N[j]?<;>rfl
  .have r:L.N.length<=j:=I;have u:(da {L with N:=L.N.map fun N=>(dd N x).2} ({L with N:=L.N.map fun N=>(dd N x).2}:bl).N.length).N.length<=j:=by
    rw[(xd (L:={L with N:=L.N.map fun N=>(dd N x).2}) _).1,b];exact r
   rw[iW r];exact iW u
 .rw[y,oR]
 .have p:=(cA.1 o).1;refine w j al _ I ?_ m;show(L.N.map fun N=>(dd N x).2)[j]?=_;rw[dU,o];rfl
theorem Rq (b:¬ (x<0\/1099511627776-N.D.now<x)):dd N x=(0,{N with D:=(dj {N.D with now:=N.D.now+x} N.Ps).1,Ps:=(dj {N.D with now:=N.D.now+x} N.Ps).2}):=by unfold dd;rw[aq b]
theorem Ma (b:¬ (x<0\/1099511627776-N.D.now<x))(d:∀ P∈N.Ps,P.calm (N.D.now+x)):(dd N x).2.D={N.D with now:=N.D.now+x}/\(dd N x).2.B=N.B/\(dd N x).2.Ps.length=N.Ps.length/\∀ (i:Nat) (P:aj),N.Ps[i]?=some P->∃ e,(dd N x).2.Ps[i]?=some {P with tm:=e}/\e.w=false:=by
 rw[Rq b];obtain⟨f,h⟩:=I8 (ps:=N.Ps) (D:={N.D with now:=N.D.now+x}) d;exact⟨f,rfl,CK _ _,h⟩
theorem Lf (i:Nat){P':aj}(hi:(dd N x).2.Ps[i]?=some P')(d:(dd N x).2.Ps.length=N.Ps.length):∃ P,N.Ps[i]?=some P:=by
 have :=(cA.1 hi).1;exact⟨_,bn I⟩
end
end
section
structure Fc (C:bO) (k:b9) (a b ia ib:Nat) (src:aQ) (Fb:aQ->Int×Bool) (tx:Z):Prop where
 co:C.ok
 a1:a<C.n
 b1:b<C.n
 wR:ia<C.n-1
 yV:ib<C.n-1
 ab:bN a ia=b
 ba:bN b ib=a
 kx:k.xs.length=C.n
 kc:k.cs.length=C.n
 F:(k.cs[b]?).map (·.F)=some Fb
 Fs:Fb src=((ib:Int),true)
 t1:tx.length<=1000
def y6 (b ib:Nat)(src:aQ)(tx:Z)(many:Nat)(L:bl):Prop:=∃ e,L.all[b]?=some e/\((ib:Int),src,tx)∈e.drop many
structure vv (l:Log) (G:Gx) (a b ib:Nat) (pkt:Z) (many:Nat) (L:bl) (S:aX) (xs:List Z) (w:Nat) (Sb:aX):Prop where
 aO:L.aO=ma (BitVec.ofNat 32 (a+1)) (BitVec.ofNat 32 (b+1)) S xs
 lg:∃ x,l b S.dX.toNat=some (x,a)
 ro:¬ G.ro
 se:0<=S.se/\S.se+xs.length<1000
 sd:S.sd.length=32
 xl:∀ x∈xs,x.length<=2000
 last:∃ ws,xs=ws++[pkt]
 nb:∃ Nb Pb,L.N[b]?=some Nb/\Nb.Ps[ib]?=some Pb/\Pb.waits=[]/\(w=0\/w=2)/\jQ S.dX Pb=some w/\Pb.slot w=some Sb
 sb:Sb.rc=S.sd/\Sb.su=S.su/\Sb.eF=S.dX/\Sb.nx<=S.se/\G.T<Sb.bo+180
 many:∀ al,L.all[b]?=some al->many<=al.length
structure yc (C:bO) (l:Log) (G:Gx) (a b ia ib:Nat) (pkt:Z) (many:Nat) (L:bl) (g:cm) (aP m:Z):Prop where
 aO:L.aO=[(BitVec.ofNat 32 (b+1),BitVec.ofNat 32 (a+1),(bW.second g aP m).text)]
 mx:MX C l G b a (.second g aP m)
 ro:¬ G.ro
 na:∃ Na Pa,L.N[a]?=some Na/\Na.Ps[ia]?=some Pa/\Pa.bg=some g.f/\Pa.bP<=g.f.su/\∃ ws,Pa.waits=ws++[pkt]
 nb:∃ Nb Pb,L.N[b]?=some Nb/\Nb.Ps[ib]?=some Pb/\Pb.waits=[]/\Pb.ne=some (aX.fresh g.f.su g.cg g.f.id (g.key 1) (g.key 0) G.T false)/\∀ S,Pb.se=some S\/Pb.ol=some S->S.eF≠g.cg
 many:∀ al,L.all[b]?=some al->many<=al.length
section
variable {C:bO}{l l' l2:Log}{G G' G1 G2:Gx}{j i s t c n A a b ia ib many w:Nat}{D D':au}{P P':aj}{N N':bf}{M:bW}{L L':bl}{k:b9}{g:cm}{aO:List Gr}{x now:Int}{src:aQ}{Fb F:aQ->Int×Bool}{tx aP m y pkt:Z}{S Sb:aX}{xs:List Z}
theorem ahZ (d:Sb.su=S.su)(f:Sb.rc=S.sd)(h:S.sd.length=32)(o:y.length<=2000)(h0:0<=S.se/\S.se<1000)(p:Sb.nx<=S.se)(q:now<Sb.bo+180):
  Sb.open_ S.se (jz S.su S.sd S.se y) now=(y,0,{Sb with nx:=pJ Sb.nx S.se,bits:=uZ Sb.nx Sb.bits S.se}):=by
 obtain⟨-,-,r⟩:=yJ (x:=S.su) (k:=S.sd) (c:=eV S.su (BitVec.ofInt 64 S.se)) (m:=[]) (t:=y) h (zj _ _) J o;have u:n8 Sb.nx Sb.bits S.se=0:=by
  unfold n8;rw[aq I,aM I]
 have e:lh Sb.su Sb.rc (eV Sb.su (BitVec.ofInt 64 S.se)) [] (jz S.su S.sd S.se y)=(y,0):=by rw[d,f];exact r
 unfold aX.open_;rw[aq I,aM u,e,aM rfl]
theorem aif (fr:aQ):(k7 D P F fr y).2.1.out=D.out/\(k7 D P F fr y).2.2.waits=P.waits/\(k7 D P F fr y).2.2.se=P.se/\(k7 D P F fr y).2.2.ol=P.ol/\(k7 D P F fr y).2.2.ne=P.ne:=by
 unfold k7;split
 .exact⟨rfl,rfl,rfl,rfl,rfl⟩
 .split
  .exact⟨rfl,rfl,rfl,rfl,rfl⟩
  .split <;>exact⟨rfl,rfl,rfl,rfl,rfl⟩
theorem aiB (src:aQ)(y:Z):ez src y≠[]/\¬ ((ez src y).length:Int)<4/\BitVec.setWidth 32 (BitVec.ofNat 64 (be ((ez src y).take 4)))=src/\(ez src y).drop 4=y:=by
 have d:(cK (src.setWidth 64).toNat 4).length=4:=fD _ _;have f:(ez src y).length=4+y.length:=by unfold ez;rw[bA,d]
 refine⟨fun e=>by rw[e] at f;simp at f;omega,I,?_,?_⟩
 .unfold ez;rw[mW d,Ce];apply iU;have :=src.isLt;rw[qq,fL,qq];omega
 .unfold ez;rw[oI d]
theorem Zw (d:F src=(P.num,true))(fr:aQ):(k7 D P F fr (ez src y)).2.1.aT=D.aT++[(P.num,src,y)]:=by
 obtain⟨h,o,e,f⟩:=aiB src y;unfold k7;rw[aq h,aq o,e,d,aM ⟨rfl,rfl⟩,f]
theorem aeo {P:aj}(h:P.waits=[]):mf D P=(D,P):=by
 unfold mf;rw[h];show(D,{P with waits:=[]})=_;rw[<-h]
theorem U1 {P:aj}{S:aX}(h:P.se=some S):jQ S.eF P=some 0:=by
 unfold jQ;have :jr S.eF P 0=true:=by
  unfold jr;rw[show P.slot 0=some S from h];simp
 rw[aM this]
theorem Zh {P:aj}{S:aX}(h:P.ne=some S)(e:∀ f,P.se=some f\/P.ol=some f->f.eF≠S.eF):jQ S.eF P=some 2:=by
 have o:jr S.eF P 2=true:=by
  unfold jr;rw[show P.slot 2=some S from h];simp
 have p:¬ jr S.eF P 0=true:=by
  unfold jr;rw[show P.slot 0=P.se from rfl];cases d:P.se with
  |none=>simp
  |some f=>simpa using e f (.inl d)
 have q:¬ jr S.eF P 1=true:=by
  unfold jr;rw[show P.slot 1=P.ol from rfl];cases d:P.ol with
  |none=>simp
  |some f=>simpa using e f (.inr d)
 unfold jQ;rw[aq p,aq q,aM o]
theorem T5 (z:NG C l j N c){id:aQ}(e:∃ x,l j id.toNat=some (x,bN j i))(hi:N.Ps[i]?=some P)(B:jQ id P=some w):N.Ps.findIdx? (fun P=>(jQ id P).isSome)=some i:=by
 obtain⟨p,q⟩:=cA.1 hi;obtain⟨x,E⟩:=e;refine ub.2 ⟨p,by rw[q,B];rfl,fun h H=>?_⟩;have f:h<N.Ps.length:=I;cases r:jQ id N.Ps[h] with
 |none=>simp
 |some R=>
  obtain⟨-,S,K,Q⟩:=GV r;obtain⟨⟨y,u⟩,-⟩:=(z.P h f).eC S (Hm K);rw[Q,E] at u;have :bN j i=bN j h:=(Prod.mk.inj (nc u)).2;have :=AJ this;omega
theorem O4 (u:NG C l j N c){f:bL}(d:l j f.id.toNat=some (some f,bN j i))(hi:N.Ps[i]?=some P)(v:P.bg=some f):N.Ps.findIdx? (iO f.id)=some i:=by
 obtain⟨e,h⟩:=cA.1 hi;have z:=u.P i e;rw[h] at z;obtain⟨p,-⟩:=z.bg f v;refine ub.2 ⟨e,by rw[h];unfold iO;rw[v,p];simp,fun q E=>?_⟩;have o:q<N.Ps.length:=I;intro O;unfold iO at O;simp only[lY,AG] at O;obtain⟨Q,R⟩:=O;obtain⟨H,r⟩:=wn.1 Q;obtain⟨K,B,-⟩:=(u.P q o).bg H r;rw[<-K,R,d] at B;have :bN j i=bN j q:=(Prod.mk.inj (nc B)).2;have :=AJ this;omega
theorem Re (h:y6 b ib src tx many L)(d:∀ al,L.all[b]?=some al->∃ e,L'.all[b]?=some (al++e)):y6 b ib src tx many L':=by
 obtain⟨al,o,p⟩:=h;obtain⟨e,f⟩:=d al o;exact⟨_,f,by rw[JL];exact zr _ p⟩
theorem Zt (hc:Fc C k a b ia ib src Fb tx)(h:LX C l G L c A)(Q:c<=3000000000)(e:vv l G a b ib (ez src tx) many L S xs w Sb):
  ∃ M l' G',pY k L 0 M/\Log.le l l'/\GE (fun _ _=>True) G G'/\LY C l' G' (cV k L dy M).2 (c+5) A/\LX C l' G' (cO k L dy M).2 (c+5) (A+(c+5))/\mu (cO k L dy M).2<mu L/\
   (y6 b ib src tx many (cO k L dy M).2\/∃ S' R w' c3,vv l' G' a b ib (ez src tx) many (cO k L dy M).2 S' R w' c3):=by
 obtain⟨Nb,Pb,O,n2,V,n4,n5,n6⟩:=e.nb;obtain⟨s1,s2,s3,s4,s5⟩:=e.sb;obtain⟨ws,d⟩:=e.last;have W:xs≠[]:=by rw[d];simp
 cases xs with
 |nil=>exact absurd rfl W
 |cons y xs=>
  have c1:a≠b:=by have :=pU (j:=a) (i:=ia);rw[hc.ab] at this;exact this
  have B:=e.xl y J;have q:=e.se;simp only[dM] at q;have hz:=yQ (s:=S.su) (n:=S.se) e.sd B;have X:MX C l G a b (.data S.dX S.se (jz S.su S.sd S.se y)):=⟨e.lg,q.1,I,I,I,fun hr=>absurd hr e.ro⟩;have f:L.aO=(BitVec.ofNat 32 (a+1),BitVec.ofNat 32 (b+1),eI S.dX S.se (jz S.su S.sd S.se y))::ma (BitVec.ofNat 32 (a+1)) (BitVec.ofNat 32 (b+1)) {S with se:=S.se+1} xs:=e.aO;obtain⟨d1,l',G',d2,d3,d4,d5,d6⟩:=EM (g:=(BitVec.ofNat 32 (a+1),BitVec.ofNat 32 (b+1),eI S.dX S.se (jz S.su S.sd S.se y))) hc.co h hc.kx hc.kc Q f hc.a1 hc.b1 rfl rfl rfl X;refine⟨_,l',G',d1,d2,d3.mono fun _ _ _=>trivial,d4,d5,d6,?_⟩;have Y:=h.g.mO;have E:L.all[b]?=some (L.all[b]'(by have :=hc.b1;omega)):=bn _;obtain⟨e1,e2,e3,e4⟩:=EG hc.co h hc.kc f hc.b1 rfl (.data S.dX S.se (jz S.su S.sd S.se y)) O hc.F E;have a6:=e.many _ E;generalize L.all[b]'(by have :=hc.b1;omega)=al at*;generalize (cO k L dy (.data S.dX S.se (jz S.su S.sd S.se y))).2=L' at*;have b6:=(h.N b Nb O).D.now;obtain⟨a7,a8⟩:=cA.1 O;have r:=h.g.N b a7;rw[a8] at r;obtain⟨o,b0⟩:=cA.1 n2;have H:=r.P ib o;rw[b0] at H;have p:=H.num;obtain⟨b2,b3⟩:=h.out Nb (lm O);have b4:Nb.Ps.findIdx? (fun P=>(jQ S.dX P).isSome)=some ib:=T5 r (by rw[hc.ba];exact e.lg) n2 n5;have b5:=ahZ (Sb:=Sb) (S:=S) (y:=y) (now:=Nb.D.now) s2 s1 e.sd B ⟨q.1,I⟩ s4 I;have u:∃ P0:aj,(mB Nb Fb (BitVec.ofNat 32 (a+1)) (.data S.dX S.se (jz S.su S.sd S.se y))).2={Nb with D:=(k7 Nb.D P0 Fb (BitVec.ofNat 32 (a+1)) y).2.1,Ps:=Nb.Ps.set ib (k7 Nb.D P0 Fb (BitVec.ofNat 32 (a+1)) y).2.2}/\P0.waits=[]/\P0.num=Pb.num/\P0.se=some {Sb with nx:=pJ Sb.nx S.se,bits:=uZ Sb.nx Sb.bits S.se}:=by
   show ∃ P0:aj,(mH Nb Fb S.dX S.se (jz S.su S.sd S.se y) (BitVec.ofNat 32 (a+1))).2=_/\_;unfold mH;rw[b4];dsimp only;rw[n2];dsimp only;rw[n5];dsimp only;rw[n6];dsimp only;unfold rk;rw[b5];dsimp only;rw[aM rfl];rcases n4 with rfl|rfl
   .rw[aq ag];exact⟨Pb.gB 0 {Sb with nx:=pJ Sb.nx S.se,bits:=uZ Sb.nx Sb.bits S.se},rfl,V,rfl,rfl⟩
   .rw[aM rfl];unfold vH;rw[aeo (by exact V)];exact⟨_,rfl,V,rfl,rfl⟩
  obtain⟨P0,u,p1,p2,p3⟩:=u;rw[u] at e1 e3 e4;obtain⟨k1,k2,k3,-,-⟩:=aif (D:=Nb.D) (P:=P0) (F:=Fb) (y:=y) (BitVec.ofNat 32 (a+1));have v:L'.aO=ma (BitVec.ofNat 32 (a+1)) (BitVec.ofNat 32 (b+1)) {S with se:=S.se+1} xs:=by
   rw[e3];dsimp only;rw[k1,b2,jn,bq];have :=h.g.iM;rw[f] at this;simp only[dM] at this;omega
  by_cases K:xs=[]
  .subst K;have hy:y=ez src tx:=by
    cases ws with
    |nil=>simp at d;exact d
    |cons z zs=>simp at d
   left;refine⟨_,e4,?_⟩;dsimp only;rw[hy,Zw (by rw[hc.Fs,p2,p]),b3,JL];refine Db _ ?_;rw[show many-al.length=0 by omega,p2,p];simp
  .right;refine⟨{S with se:=S.se+1},xs,0,{Sb with nx:=pJ Sb.nx S.se,bits:=uZ Sb.nx Sb.bits S.se},v,?_,by rw[d3.ro];exact e.ro,⟨by show 0<=S.se+1;omega,by show S.se+1+_<_;omega⟩,e.sd,fun x hx=>e.xl x (by simp[hx]),?_,?_,⟨s1,s2,s3,?_,by rw[d3.T];exact s5⟩,fun c2 h'=>?_⟩
   .obtain⟨x,hx⟩:=e.lg;exact⟨x,d2 _ _ _ hx⟩
   .cases ws with
    |nil=>simp at d;exact absurd d.2 K
    |cons z zs=>simp at d;exact⟨zs,d.2⟩
   .refine⟨_,_,e1,?_,k2.trans p1,.inl rfl,?_,k3.trans p3⟩
    .show(Nb.Ps.set ib _)[ib]?=_;exact kF o
    .have :=U1 (k3.trans p3);rw[show({Sb with nx:=pJ Sb.nx S.se,bits:=uZ Sb.nx Sb.bits S.se}:aX).eF=S.dX from s3] at this;exact this
   .show pJ Sb.nx S.se<=S.se+1;unfold pJ;split <;>omega
   .rw[e4] at h';cases h';rw[bA];omega
theorem VF (hc:Fc C k a b ia ib src Fb tx)(h:LX C l G L c A)(K:c<=3000000000)(d:yc C l G a b ia ib (ez src tx) many L g aP m):
  ∃ M l' G',pY k L 0 M/\Log.le l l'/\GE (fun _ _=>True) G G'/\LY C l' G' (cV k L dy M).2 (c+5) A/\LX C l' G' (cO k L dy M).2 (c+5) (A+(c+5))/\mu (cO k L dy M).2<mu L/\
   ∃ S' O w' b6,vv l' G' a b ib (ez src tx) many (cO k L dy M).2 S' O w' b6:=by
 obtain⟨Na,Pa,m1,Q,m3,m4,ws,m5⟩:=d.na;obtain⟨Nb,Pb,n1,n2,n3,n4,n5⟩:=d.nb;have q:a≠b:=by have :=pU (j:=a) (i:=ia);rw[hc.ab] at this;exact this
 obtain⟨d1,l',G',d2,d3,d4,d5,d6⟩:=EM (g:=(BitVec.ofNat 32 (b+1),BitVec.ofNat 32 (a+1),(bW.second g aP m).text)) hc.co h hc.kx hc.kc K d.aO hc.b1 hc.a1 rfl rfl rfl d.mx;refine⟨_,l',G',d1,d2,d3.mono fun _ _ _=>trivial,d4,d5,d6,?_⟩;have R:=h.g.mO;have r:L.all[a]?=some (L.all[a]'(by have :=hc.a1;omega)):=bn _;have V:(k.cs[a]?).map (·.F)=some (k.cs[a]'(by have :=hc.a1;have :=hc.kc;omega)).F:=by rw[bn];rfl
 obtain⟨e1,e2,e3,-⟩:=EG hc.co h hc.kc d.aO hc.a1 rfl (.second g aP m) m1 V r;have u:(cO k L dy (.second g aP m)).2.all[b]?=L.all[b]?:=by
  have v:L.all[b]?=some (L.all[b]'(by have :=hc.b1;omega)):=bn _;rw[v];exact NQ hc.co h hc.kc d.aO hc.a1 rfl (.second g aP m) q.symm n1 v
 generalize (cO k L dy (.second g aP m)).2=L' at*;obtain⟨f1,f2,f3,f4,f5,-,-,f8,-⟩:=d.mx;have b4:=(h.N a Na m1).D.now;obtain⟨W,X⟩:=cA.1 m1;have e:=h.g.N a W;rw[X] at e;obtain⟨z,Y⟩:=cA.1 Q;have p:=e.P ia z;rw[Y] at p;obtain⟨a6,-⟩:=h.out Na (lm m1);have a7:Na.Ps.findIdx? (iO g.f.id)=some ia:=O4 e (by rw[hc.ab];exact f1) Q m3;obtain⟨-,hs,-,a8,-⟩:=h.g.lo.here _ _ _ _ f1;have hg:g.ok:=⟨a8,by rw[f3];exact(hc.co.aR b a).1,f4,by rw[f5];exact hc.co.ac b hc.b1⟩;have b5:=p.ok.wl;have B:Pa.waits≠[]:=by rw[m5];simp
 have E:qE Pa.waits=Pa.waits:=aq B;have b0:BitVec.ofNat 32 (b+1)≠0#32:=by rw[<-hc.ab];exact yd hc.co hc.a1 hc.wR
 have o:vg Na.D (mK Pa g (BitVec.ofNat 32 (b+1)) Na.D.now)=_:=QY (S:=aX.fresh g.f.su Pa.bi g.cg (g.key 0) (g.key 1) Na.D.now true) b0 rfl (by show Na.D.now<Na.D.now+180;omega) (by show(0:Int)+Pa.waits.length+1<1000;omega) (fun _=>by show Na.D.now<Na.D.now+120;omega);have b2:(mK Pa g (BitVec.ofNat 32 (b+1)) Na.D.now).waits=Pa.waits:=rfl;rw[b2,E] at o;have b3:(mB Na (k.cs[a]'(by have :=hc.a1;have :=hc.kc;omega)).F (BitVec.ofNat 32 (b+1)) (.second g aP m)).2.D.out=ma (BitVec.ofNat 32 (a+1)) (BitVec.ofNat 32 (b+1)) (aX.fresh g.f.su Pa.bi g.cg (g.key 0) (g.key 1) Na.D.now true) Pa.waits:=by
  show(mC Na g (BitVec.ofNat 32 (b+1))).2.D.out=_;unfold mC;rw[a7];dsimp only;rw[Q];dsimp only;rw[aq I,o];show Na.D.out++ma Na.D.here (BitVec.ofNat 32 (b+1)) _ _=_;rw[a6,iY,e.D.here]
 rw[b3] at e3;have H:L'.N[b]?=some Nb:=(e2 b q.symm).trans n1;refine⟨aX.fresh g.f.su Pa.bi g.cg (g.key 0) (g.key 1) Na.D.now true,Pa.waits,2,_,?_,?_,by rw[d3.ro];exact d.ro,⟨dY _,by show(0:Int)+Pa.waits.length<1000;omega⟩,g.rT hg ag,p.ok.ws,⟨ws,m5⟩,⟨Nb,Pb,H,n2,n3,.inr rfl,?_,n4⟩,⟨rfl,rfl,rfl,dY _,by rw[d3.T];show G.T<G.T+180;omega⟩,fun al h'=>d.many al (by rw[<-u];exact h')⟩
 .rw[e3,iY,bq];rw[Jn];omega
 .obtain⟨x,hx⟩:=f2;exact⟨x,d2 _ _ _ hx⟩
 .exact Zh n4 n5
end
end
section
structure Fq (G:Gx) (a b ia:Nat) (L:bl):Prop where
 qt:∀ j N i P,L.N[j]?=some N->N.Ps[i]?=some P->¬ (j=a/\i=ia)->P.calm G.T
 bk:∀ N,L.N[b]?=some N->N.B.t+5<=G.T
structure sf (C:bO) (l:Log) (G:Gx) (a b ia ib:Nat) (pkt:Z) (many:Nat) (z:Prop) (tb:Int) (L:bl) (f:bL) (aP m:Z):Prop where
 aO:L.aO=[(BitVec.ofNat 32 (a+1),BitVec.ofNat 32 (b+1),(bW.first f aP m).text)]
 mx:MX C l G a b (.first f aP m)
 ro:¬ G.ro
 na:∃ Na Pa,L.N[a]?=some Na/\Na.Ps[ia]?=some Pa/\Pa.bg=some f/\Pa.bP<=f.su/\(∃ ws,Pa.waits=ws++[pkt])/\Pa.tm.w=true/\Pa.tm.t<=tb/\∀ S,Pa.se=some S->S.bo+180<=G.T
 nb:∃ Nb Pb,L.N[b]?=some Nb/\Nb.Ps[ib]?=some Pb/\(Pb.dV=true->later f.sec f.nano Pb.sec Pb.nano)/\Pb.bP<=f.su/\(z\/jV (fS Nb.D.cz (BitVec.ofNat 32 (a+1)) G.T) (f.text++cY Nb.D.aP f.text) 16=m)
 fq:Fq G a b ia L
 many:∀ al,L.all[b]?=some al->many<=al.length
structure xD (C:bO) (l:Log) (G:Gx) (a b ia:Nat) (pkt:Z) (many:Nat) (z:Prop) (tb:Int) (L:bl) (f:bL) (u nonce ck bb:Z):Prop where
 aO:L.aO=[(BitVec.ofNat 32 (b+1),BitVec.ofNat 32 (a+1),(bW.gI u nonce ck f.text bb f.id).text)]
 mx:MX C l G b a (.gI u nonce ck f.text bb f.id)
 lg:l a f.id.toNat=some (some f,b)
 ro:¬ G.ro
 na:∃ Na Pa,L.N[a]?=some Na/\Na.Ps[ia]?=some Pa/\Pa.bg=some f/\(∃ ws,Pa.waits=ws++[pkt])/\Pa.tm.w=true/\Pa.tm.t<=tb/\∀ S,Pa.se=some S->S.bo+180<=G.T
 nb:∃ Nb,L.N[b]?=some Nb/\ck=fS Nb.D.cz (BitVec.ofNat 32 (a+1)) G.T
 z:z
 fq:Fq G a b ia L
 many:∀ al,L.all[b]?=some al->many<=al.length
structure vL (G:Gx) (a b ia:Nat) (pkt:Z) (many:Nat) (z:Prop) (tb:Int) (L:bl):Prop where
 aO:L.aO=[]
 ro:¬ G.ro
 na:∃ Na Pa,L.N[a]?=some Na/\Na.Ps[ia]?=some Pa/\(∃ ws,Pa.waits=ws++[pkt])/\Pa.tm.w=true/\Pa.tm.t<=tb/\(∀ S,Pa.se=some S->S.bo+180<=G.T)/\Pa.un=G.T+120/\Pa.ck.length=16/\∃ Nb,L.N[b]?=some Nb/\Pa.ck=fS Nb.D.cz (BitVec.ofNat 32 (a+1)) G.T
 z:z
 fq:Fq G a b ia L
 many:∀ al,L.all[b]?=some al->many<=al.length
section
variable {C:bO}{l l' l2:Log}{G G' G1 G2:Gx}{j i s t c n A a b ia ib many w:Nat}{D D':au}{P P':aj}{N N':bf}{M:bW}{L L':bl}{k:b9}{g:cm}{f:bL}{aO:List Gr}{x now tb:Int}{src:aQ}{Fb F:aQ->Int×Bool}{tx aP m y pkt u nonce ck bb:Z}{S Sb:aX}{xs:List Z}{z:Prop}
theorem LX.peer (h:LX C l G L c A)(e:L.N[j]?=some N)(hi:N.Ps[i]?=some P):PG C l j i P/\PX C G j i P/\NG C l j N c/\NX C l G j N:=by
 obtain⟨r,v⟩:=cA.1 e;obtain⟨o,q⟩:=cA.1 hi;have d:=h.g.N j r;rw[v] at d;have p:=h.N j N e;have a:=d.P i o;have b:=p.P i o;rw[q] at a b;exact⟨a,b,d,p⟩
theorem ai2 {B:eN}{fr:aQ}(h:B.t+5<=now)(v:now<=1099511627776)(p:B.ok):(jN B fr now).1=0:=by
 show(lL B.t now fr B.m).1=0;have d:((B.m.more (min (now-B.t) 5)).drop).es=[]:=by
  have o:min (now-B.t) 5=5:=I;rw[o];show((B.m.more 5).es.filter fun e=>! full e.2.2)=[];rw[List.filter_eq_nil_iff];intro e r;have r:e∈(B.m.es.map fun e=>(e.1,e.2.1,e.2.2+5)):=r;obtain⟨y,q,rfl⟩:=eZ.1 r;have :=(p.m.2 y q).1;simp[full];omega
 unfold lL;rw[aq I];dsimp only;rw[d];rfl
theorem Un (p:C.ok)(q:j<C.n)(h:NG C l j N c)(hi:N.Ps[i]?=some P)(ht:bN j i<C.n):N.Ps.findIdx? (fun P=>decide (P.aP=bI (C.own (bN j i))))=some i:=by
 obtain⟨d,r⟩:=cA.1 hi;have E:=h.len;refine ub.2 ⟨d,by rw[(h.P i d).aP];simp,fun o v=>?_⟩;have e:o<N.Ps.length:=I;rw[(h.P o e).aP];intro B;have B:=yZ B;have :=p.Hv _ _ (qj I q) ht B;have :=AJ this;omega
theorem Wq (hc:Fc C k a b ia ib src Fb tx)(h:LX C l G L c A)(R:c<=3000000000)(d:xD C l G a b ia pkt many z tb L f u nonce ck bb):
  ∃ M l' G',pY k L 0 M/\Log.le l l'/\GE (fun _ _=>True) G G'/\LY C l' G' (cV k L dy M).2 (c+5) A/\LX C l' G' (cO k L dy M).2 (c+5) (A+(c+5))/\mu (cO k L dy M).2<mu L/\
   vL G' a b ia pkt many z tb (cO k L dy M).2:=by
 obtain⟨Na,Pa,m1,V,m3,m5,m6,m7,m8⟩:=d.na;obtain⟨Nb,n1,n2⟩:=d.nb;have o:a≠b:=by have :=pU (j:=a) (i:=ia);rw[hc.ab] at this;exact this
 obtain⟨d1,l',G',d2,d3,d4,d5,d6⟩:=EM (g:=(BitVec.ofNat 32 (b+1),BitVec.ofNat 32 (a+1),(bW.gI u nonce ck f.text bb f.id).text)) hc.co h hc.kx hc.kc R d.aO hc.b1 hc.a1 rfl rfl rfl d.mx;refine⟨_,l',G',d1,d2,d3.mono fun _ _ _=>trivial,d4,d5,d6,?_⟩;have W:=h.g.mO;have r:L.all[a]?=some (L.all[a]'(by have :=hc.a1;omega)):=bn _;have X:(k.cs[a]?).map (·.F)=some (k.cs[a]'(by have :=hc.a1;have :=hc.kc;omega)).F:=by rw[bn];rfl
 obtain⟨Y,e2,e3,-⟩:=EG hc.co h hc.kc d.aO hc.a1 rfl (.gI u nonce ck f.text bb f.id) m1 X r;have v:(cO k L dy (.gI u nonce ck f.text bb f.id)).2.all[b]?=L.all[b]?:=by
  have B:L.all[b]?=some (L.all[b]'(by have :=hc.b1;omega)):=bn _;rw[B];exact NQ hc.co h hc.kc d.aO hc.a1 rfl (.gI u nonce ck f.text bb f.id) o.symm n1 B
 generalize (cO k L dy (.gI u nonce ck f.text bb f.id)).2=L' at*;have b4:=(h.N a Na m1).D.now;obtain⟨a6,a7⟩:=cA.1 m1;have E:=h.g.N a a6;rw[a7] at E;obtain⟨H,b5⟩:=cA.1 V;obtain⟨a8,-⟩:=h.out Na (lm m1);have b0:Na.Ps.findIdx? (iO f.id)=some ia:=O4 E (by rw[hc.ab];exact d.lg) V m3;have b2:(mB Na (k.cs[a]'(by have :=hc.a1;have :=hc.kc;omega)).F (BitVec.ofNat 32 (b+1)) (.gI u nonce ck f.text bb f.id)).2={Na with Ps:=Na.Ps.set ia {Pa with ck:=ck,un:=Na.D.now+120}}:=by
  show(oK Na f.id ck).2=_;unfold oK;rw[b0];dsimp only;rw[V]
 rw[b2] at Y e3;have K:=d3.T;have b3:ck.length=16:=by obtain⟨_,_,_,q,_⟩:=d.mx;exact q
 refine⟨by rw[e3];show([]++Na.D.out).take 60=[];rw[a8];rfl,by rw[d3.ro];exact d.ro,⟨_,_,Y,kF H,m5,m6,m7,by rw[K];exact m8,by rw[K];show Na.D.now+120=_;omega,b3,Nb,(e2 b o.symm).trans n1,by rw[K];exact n2⟩,d.z,⟨fun j N i P Q hi p=>?_,fun N hN=>?_⟩,fun al h'=>d.many al (by rw[<-v];exact h')⟩
 .rw[K];by_cases O:j=a
  .subst O;rw[Y] at Q;cases Q;have hi:(Na.Ps.set ia _)[i]?=some P:=hi;rw[mV (fun e=>p ⟨rfl,e.symm⟩)] at hi;exact d.fq.qt j Na i P m1 hi p
  .rw[e2 j O] at Q;exact d.fq.qt j N i P Q hi p
 .rw[K];rw[e2 b o.symm] at hN;exact d.fq.bk N hN
theorem Z5 (hc:Fc C k a b ia ib src Fb tx)(h:LX C l G L c A)(c5:c<=3000000000)(d:sf C l G a b ia ib pkt many z tb L f aP m):
  ∃ M l' G',pY k L 0 M/\Log.le l l'/\GE (fun _ _=>True) G G'/\LY C l' G' (cV k L dy M).2 (c+5) A/\LX C l' G' (cO k L dy M).2 (c+5) (A+(c+5))/\mu (cO k L dy M).2<mu L/\
   ((∃ f u nonce ck bb,xD C l' G' a b ia pkt many z tb (cO k L dy M).2 f u nonce ck bb)\/∃ g aP m,yc C l' G' a b ia ib pkt many (cO k L dy M).2 g aP m):=by
 obtain⟨Na,Pa,m1,m2,m3,m4,m5,m6,m7,m8⟩:=d.na;obtain⟨Nb,Pb,H,n2,n3,n4,n5⟩:=d.nb;have b0:a≠b:=by have :=pU (j:=a) (i:=ia);rw[hc.ab] at this;exact this
 obtain⟨d1,l',G',d2,d3,d4,d5,d6⟩:=EM (g:=(BitVec.ofNat 32 (a+1),BitVec.ofNat 32 (b+1),(bW.first f aP m).text)) hc.co h hc.kx hc.kc c5 d.aO hc.a1 hc.b1 rfl rfl rfl d.mx;refine⟨_,l',G',d1,d2,d3.mono fun _ _ _=>trivial,d4,d5,d6,?_⟩;have c6:=h.g.mO;have b2:L.all[b]?=some (L.all[b]'(by have :=hc.b1;omega)):=bn _;obtain⟨v,e2,K,O⟩:=EG hc.co h hc.kc d.aO hc.b1 rfl (.first f aP m) H hc.F b2;have c7:=d.many _ b2;have b3:BitVec.ofNat 32 (a+1)≠0#32:=by rw[<-hc.ba];exact yd hc.co hc.b1 hc.yV
 have hT:=d3.T;obtain⟨f1,f2,f3,-⟩:=d.mx;obtain⟨-,-,-,c8,j4,W,-,k3,k4,k5⟩:=h.g.lo.here _ _ _ _ f1;have o:=(h.N b Nb H).D.now;have c9:=h.N b Nb H;obtain⟨e0,e5⟩:=cA.1 H;have p:=h.g.N b e0;rw[e5] at p;obtain⟨E,e6⟩:=cA.1 n2;have X:=p.P ib E;have b4:=c9.P ib E;rw[e6] at X b4;have r:=p.D;obtain⟨b5,k6⟩:=h.out Nb (lm H);have Q:(cO k L dy (.first f aP m)).2.N[a]?=some Na:=(e2 a b0).trans m1;by_cases hb:Nb.D.busy=true/\¬ jV (fS Nb.D.cz (BitVec.ofNat 32 (a+1)) Nb.D.now) (f.text++cY Nb.D.aP f.text) 16=m
 ·
  left;have hz:z:=n5.resolve_right fun e=>hb.2 (by rw[o];exact e)
  have Y:(mB Nb Fb (BitVec.ofNat 32 (a+1)) (.first f aP m)).2={Nb with D:=({Nb.D with fresh:=Nb.D.fresh+1#64}:au).goes (BitVec.ofNat 32 (a+1)) (gd Nb.D.aP (Nb.D.dR.take 24) (fS Nb.D.cz (BitVec.ofNat 32 (a+1)) Nb.D.now) f.text (cY Nb.D.aP f.text))}:=by
   show(ov Nb f m (BitVec.ofNat 32 (a+1))).2=_;unfold ov;rw[aM hb]
  rw[Y] at v K O;have e7:(({Nb.D with fresh:=Nb.D.fresh+1#64}:au).goes (BitVec.ofNat 32 (a+1)) (gd Nb.D.aP (Nb.D.dR.take 24) (fS Nb.D.cz (BitVec.ofNat 32 (a+1)) Nb.D.now) f.text (cY Nb.D.aP f.text)))={Nb.D with fresh:=Nb.D.fresh+1#64,out:=Nb.D.out++[(Nb.D.here,BitVec.ofNat 32 (a+1),gd Nb.D.aP (Nb.D.dR.take 24) (fS Nb.D.cz (BitVec.ofNat 32 (a+1)) Nb.D.now) f.text (cY Nb.D.aP f.text))]}:=by
   unfold au.goes;rw[aq b3]
  rw[e7] at v K O;have e8:(Nb.D.dR.take 24).length=24:=by rw[cF,(Nb.D.sP r.ok.af).2];rfl
  have e9:=DI (BitVec.ofNat 32 (a+1)) Nb.D.now r.ok.cz;refine⟨f,Nb.D.aP,Nb.D.dR.take 24,fS Nb.D.cz (BitVec.ofNat 32 (a+1)) Nb.D.now,cY Nb.D.aP f.text,?_,⟨f,d2 _ _ _ f1,e8,e9,r.aP,rfl,by rw[r.aP],rfl⟩,d2 _ _ _ f1,by rw[d3.ro];exact d.ro,⟨Na,Pa,Q,m2,m3,m5,m6,m7,by rw[hT];exact m8⟩,⟨_,v,by rw[hT];show fS Nb.D.cz _ Nb.D.now=fS Nb.D.cz _ _;rw[o]⟩,hz,⟨fun j N i P hj hi b6=>?_,fun N hN=>?_⟩,fun h0 h'=>?_⟩
  .rw[K];show([]++(Nb.D.out++[(Nb.D.here,_,_)])).take 60=_;rw[b5,r.here];rfl
  .rw[hT];by_cases c0:j=b
   .subst c0;rw[v] at hj;cases hj;exact d.fq.qt j Nb i P H hi b6
   .rw[e2 j c0] at hj;exact d.fq.qt j N i P hj hi b6
  .rw[hT];rw[v] at hN;cases hN;exact d.fq.bk Nb H
  .rw[O] at h';cases h';rw[bA];omega
 right;have a6:=r.ok.now.2;have h3:(jN Nb.B (BitVec.ofNat 32 (a+1)) Nb.D.now).1=0:=ai2 (by rw[o];exact d.fq.bk Nb H) a6 p.B;have h4:Nb.Ps.findIdx? (fun P=>decide (P.aP=bI f.own))=some ib:=by
  rw[W,<-hc.ba];exact Un hc.co hc.b1 p n2 (by rw[hc.ba];exact hc.a1)
 have Y:(mB Nb Fb (BitVec.ofNat 32 (a+1)) (.first f aP m)).2={Nb with B:=(jN Nb.B (BitVec.ofNat 32 (a+1)) Nb.D.now).2,D:=(qZ Nb.D Pb f (BitVec.ofNat 32 (a+1))).1,Ps:=Nb.Ps.set ib (qZ Nb.D Pb f (BitVec.ofNat 32 (a+1))).2}:=by
  show(ov Nb f m (BitVec.ofNat 32 (a+1))).2=_;unfold ov;rw[aq hb,aq (fun e=>e h3),aq (by rw[r.ac];omega),h4];dsimp only;rw[n2];dsimp only;rw[aq (fun e=>e.2 (n3 e.1)),aq I]
 rw[Y] at v K O;have h5:=Ja r I;have c1:=(Nb.D.sP r.ok.af).2;have R:cm.ok ⟨f,Pb.aR,Nb.D.dR,Nb.D.ac,Nb.D.index+1#32⟩:=⟨c8,X.ok.aR,c1,r.ok.ac⟩;unfold qZ at v K O;dsimp only at v K O;generalize (cO k L dy (.first f aP m)).2=L' at*;have h6:∃ g:cm,g=⟨f,Pb.aR,Nb.D.dR,Nb.D.ac,Nb.D.index+1#32⟩:=⟨_,rfl⟩;obtain⟨g,q⟩:=h6;rw[<-q] at v K O R;have a7:g.f=f:=by rw[q]
 have h7:g.cg=Nb.D.index+1#32:=by rw[q]
 have h8:g.aR=Pb.aR:=by rw[q]
 have h9:g.e=Nb.D.dR:=by rw[q]
 have j1:g.ac=Nb.D.ac:=by rw[q]
 have c2:(Nb.Ps.set ib (n7 Pb g (BitVec.ofNat 32 (a+1)) Nb.D.now))[ib]?=some (n7 Pb g (BitVec.ofNat 32 (a+1)) Nb.D.now):=kF E;obtain⟨a8,j2,-,-⟩:=d5.peer v c2;obtain⟨mm,w1,w2,-⟩:=KF a8.ok (x:=g.text) (by rw[(g.facts R).1];decide) Nb.D.now;have c3:(n7 Pb g (BitVec.ofNat 32 (a+1)) Nb.D.now).aP=bI (C.own a):=by rw[a8.aP,hc.ba]
 rw[c3] at w2;have V:=a8.eC _ (.inr (.inr rfl));rw[hc.ba] at V;have c4:=j2.ss.n2 _ rfl;rw[hc.ba] at c4;have j3:Pb.waits=[]:=by
  have hq:=(d.fq.qt b Nb ib Pb H n2 fun e=>b0 e.1.symm).1;refine ug fun e=>?_
  have :=b4.tm.wt e;rw[hq] at this;cases this
 refine⟨g,bI (C.own a),mm,?_,⟨by rw[a7];exact d2 _ _ _ f1,V.1,?_,by rw[h9];exact c1,by rw[j1];exact r.ac,rfl,w1,c4,fun hr=>absurd hr (by rw[d3.ro];exact d.ro)⟩,by rw[d3.ro];exact d.ro,⟨Na,Pa,Q,m2,by rw[a7];exact m3,by rw[a7];exact m4,m5⟩,⟨_,_,v,c2,j3,?_,fun S hS=>?_⟩,fun h0 h'=>?_⟩
 .rw[K];unfold au.goes;rw[aq b3];show([]++(Nb.D.out++[(Nb.D.here,_,_)])).take 60=_;rw[b5,r.here];show[(_,_,(n7 Pb g (BitVec.ofNat 32 (a+1)) Nb.D.now).gU Nb.D.now g.text)]=_;rw[w2];rfl
 .rw[h8,X.aR,hc.ba]
 .rw[hT,<-o];rfl
 .have h1:=QK p n2 (S:=S) (by rcases hS with e|e;exact .inr (.inl e);exact .inl e);intro e;rw[e,h7,h5] at h1;omega
 .rw[O] at h';cases h';rw[bA];omega
end
end
section
structure CQ (G:Gx) (L:bl):Prop where
 aO:L.aO=[]
 qt:∀ (j:Nat) (N:bf) (i:Nat) (P:aj),L.N[j]?=some N->N.Ps[i]?=some P->P.calm G.T
 bk:∀ (j:Nat) (N:bf),L.N[j]?=some N->N.B.t+5<=G.T
section
variable {C:bO}{l l' l2:Log}{G G' G1 G2:Gx}{j i s t c n A a b ia ib many w:Nat}{D D':au}{P P':aj}{N N':bf}{M:bW}{L L':bl}{k:b9}{g:cm}{f:bL}{aO:List Gr}{x now tb:Int}{src dst:aQ}{Fa Fb F:aQ->Int×Bool}{tx aP m y pkt u nonce ck bb:Z}{S Sb:aX}{xs:List Z}{z z':Prop}
theorem Lx:∀ {ns:List bf} {a:Nat} {N:bf},ns[a]?=some N->(∀ (j:Nat) N',ns[j]?=some N'->j≠a->N'.D.out=[])->jP ns=N.D.out
 |[],a,N,h,_=>by simp at h
 |Q::l,0,N,h,d=>by
  rw[p9] at h;cases h;show Q.D.out++jP l=_;rw[Dt fun N' p=>by
   obtain⟨j,e,rfl⟩:=lr p;exact d (j+1) _ (by rw[nF];exact bn e) I,jn]
 |Q::l,a+1,N,h,d=>by
  rw[nF] at h;show Q.D.out++jP l=_;rw[d 0 Q rfl I,Lx h fun j N' e o=>d (j+1) N' (by rw[nF];exact e) I];rfl
theorem aaT (act:cX)(M:bW):(cV k L act M).2.all=L.all:=by
 unfold cV;split
 .split
  .rfl
  .split
   .split <;>rfl
   .rfl
 .split
  .rfl
  .split
   .split
    .rfl
    .unfold wJ;split
     .rfl
     .split
      .split <;>rfl
      .split
       .rfl
       .split <;>rfl
   .rfl
theorem EE {act:cX}(h:LY C l G (cV k L act M).2 c A){al:List Pk}(e:L.all[j]?=some al):∃ o,(cO k L act M).2.all[j]?=some (al++o):=by
 have p:(cV k L act M).2.all.length=(cV k L act M).2.N.length:=by rw[h.g.len,h.g.mO]
 obtain⟨-,r,-⟩:=xq p h.g.iM _ (bz _);have d:(cV k L act M).2.all[j]?=some al:=by rw[aaT];exact e
 have q:=(cA.1 d).1;exact⟨_,r j al _ I (bn I) d⟩
theorem Uh (h:LX C l G L c A)(ht:t<L.N.length)(N':bf):(da {L with N:=L.N.set t N'} (L.N.set t N').length).N[t]?=some (oa N')/\(∀ j,j≠t->(da {L with N:=L.N.set t N'} (L.N.set t N').length).N[j]?=L.N[j]?)/\(da {L with N:=L.N.set t N'} (L.N.set t N').length).aO=(L.aO++N'.D.out).take 60:=by
 have d:({L with N:=L.N.set t N'}:bl).N.length=L.N.length:=b7;obtain⟨v,-,B⟩:=xq (L:={L with N:=L.N.set t N'}) (by rw[d];show L.all.length=_;rw[h.g.mO,h.g.len]) h.g.iM _ (bz _);refine⟨?_,fun j p=>?_,?_⟩
 .rw[v t I];show((L.N.set t N')[t]?).map oa=_;rw[kF ht];rfl
 .by_cases e:j<L.N.length
  .rw[v j I];show((L.N.set t N')[j]?).map oa=_;rw[mV (fun h=>p h.symm),bn e];exact dN some (Qz (h.out _ (eM e)))
  .have r:L.N.length<=j:=I;rw[iW r];refine iW ?_;have :=(xd (L:={L with N:=L.N.set t N'}) (L.N.set t N').length).1;rw[this,d];exact r
 .rw[B,oR];show(L.aO++jP (L.N.set t N')).take 60=_;rw[DK (fun N q=>(h.out N q).1) ht]
theorem aj5 (h:DG C l j D c)(o:PG C l j i P)(v:C.ok)(B:j<C.n)(hi:i<C.n-1)(q:G.kn j t->P.kn=C.ac t){p:Int}(r:p=1\/p=2)(h2:p=2->G.kn j t/\C.ac j=2/\C.ac t=2):p<=(fg D P).su:=by
 have E:=(Cm o.ok h.ok).su;rcases r with rfl|rfl
 .omega
 .obtain⟨a,b,d⟩:=h2 rfl;have e:=q a;show 2<=(if P.kn<D.ac then P.kn else D.ac);have H:=h.ac;split <;>omega
theorem Mg (h:P.calm now)(d:0<=x):P.calm (now+x):=⟨h.1,fun S e=>by have :=h.2 S e;omega⟩
theorem Xz (V:C.ok)(h:LX C l G L c A)(hc:c<=3000000000)(r:¬ G.ro)(v:L.aO=[])(W:5<=x/\G.T+x<=1099511627776)(X:(G.tick x).ok)(O:∀ (j:Nat) (N:bf) (i:Nat) (P:aj),L.N[j]?=some N->N.Ps[i]?=some P->P.calm (G.T+x))(M:bW):
  (cO k L (lv x) M).1=0/\∃ l' G',Log.le l l'/\¬ G'.ro/\G'.T=G.T+x/\G'.q=G.q+1/\LY C l' G' (cV k L (lv x) M).2 (c+5) A/\LX C l' G' (cO k L (lv x) M).2 (c+5) (A+(c+5))/\CQ G' (cO k L (lv x) M).2:=by
 obtain⟨d1,l',G',d2,d3,d4⟩:=Cs (k:=k) (B':=0) (C':=0) (src:=0#32) (dst:=0#32) (aY:=[]) V h hc ⟨I,W.2⟩ (fun H=>absurd H r) (fun H=>absurd H r) X M;obtain⟨Q,Y,-⟩:=Me (k:=k) (x:=x) (B':=0) (C':=0) (src:=0#32) (dst:=0#32) (aY:=[]) h M;have R:G'.T=G.T+x:=d3.T;have o:∀ j N,L.N[j]?=some N->_:=fun j N d=>Ma (N:=N) (x:=x) (by have :=(h.N j N d).D.now;omega) (fun P E=>by
  obtain⟨i,hi,rfl⟩:=lr E;rw[(h.N j N d).D.now];exact O j N i _ d (bn hi))
 refine⟨d1,l',G',d2,by rw[d3.ro];exact r,R,d3.q,d4,d4.sj.1,⟨?_,fun j N' i P' d hi=>?_,fun j N' d=>?_⟩⟩
 .refine Y.trans ?_;rw[v,Dt fun N' K=>?_]
  .rfl
  .obtain⟨N,p,rfl⟩:=eZ.1 K;obtain⟨j,d,rfl⟩:=lr p;rw[(o j _ (bn d)).1];exact(h.out _ p).1
 .have d:=(Q j).symm.trans d;cases p:L.N[j]? with
  |none=>rw[p] at d;cases d
  |some N=>
   rw[p] at d;cases d;obtain⟨-,-,q3,q4⟩:=o j N p;have hi:(dd N x).2.Ps[i]?=some P':=hi;obtain⟨P,E⟩:=Lf i hi q3;obtain⟨T',r1,r2⟩:=q4 i P E;rw[r1] at hi;cases hi;exact⟨r2,fun S e=>by rw[R];exact(O j N i P p E).2 S e⟩
 .have d:=(Q j).symm.trans d;cases p:L.N[j]? with
  |none=>rw[p] at d;cases d
  |some N=>
   rw[p] at d;cases d;show(dd N x).2.B.t+5<=_;rw[(o j N p).2.1];have :=(h.N j N p).B;omega
end
end
section
def oE (a:Nat)(src dst:aQ)(tx:Z):cX:=⟨1,a,0,0,src,dst,tx⟩
section
variable {C:bO}{l l' l2:Log}{G G' G1 G2:Gx}{j i s t c n A a b ia ib many w:Nat}{D D':au}{P P':aj}{N N':bf}{M:bW}{L L':bl}{k:b9}{g:cm}{f:bL}{aO:List Gr}{x now tb:Int}{src dst:aQ}{Fa Fb F:aQ->Int×Bool}{tx aP m y pkt u nonce ck bb:Z}{S Sb:aX}{xs:List Z}{z z':Prop}
theorem Ie:(iR D P).1.now=D.now/\(iR D P).1.ct=D.ct+1:=by
 unfold iR au.goes;dsimp only;split <;>exact⟨rfl,rfl⟩
theorem Sy (d:P.at_≠0#32)(e:P.tm.nx D.now=1):cT D P=iR D P:=by
 unfold cT;rw[aM e,aq d]
theorem Om {T:bw}(o:T.w=true)(h:T.t=0\/(T.l+5<=now/\T.t≠6)):T.nx now=1:=by
 unfold bw.nx zE;by_cases d:T.t=0
 .rw[aM ⟨o,d⟩]
 .obtain⟨p,q⟩:=h.resolve_left d;rw[aq (fun e=>d e.2),aM ⟨o,p⟩,aq q]
theorem RC (d:P.at_≠0#32):(iR D P).1.out=D.out++[(D.here,P.at_,P.gU D.now (fg D P).text)]:=by
 unfold iR au.goes;rw[aq d]
theorem Tg (hc:Fc C k a b ia ib src Fb tx)(h:LX C l G L c A)(h':LX C l' G' L' (c+5) n)(X:¬ G'.ro){Na e8 Nb e9:bf}{Pa h0 Pb h1:aj}{T':bw}
  (m1:L.N[a]?=some Na) (m2:Na.Ps[ia]?=some Pa) (n1:L.N[b]?=some Nb) (n2:Nb.Ps[ib]?=some Pb)
  (E:L'.N[a]?=some e8) (H:e8.Ps[ia]?=some h0) (K:L'.N[b]?=some e9) (O:e9.Ps[ib]?=some h1)
  {P:aj} (hP:PG C l a ia P) (e1:P.kn=Pa.kn) (e2:P.bP=Pa.bP) (hx:0<=x) (hD:DG C l a {Na.D with now:=Na.D.now+x} c) (hT:G'.T=G.T+x)
  (d:h0=(iR {Na.D with now:=Na.D.now+x} P).2) (Y:e8.D.ct=Na.D.ct+1) (o:h1={Pb with tm:=T'}) (Q:e9.D.cz=Nb.D.cz)
  (R:L'.aO=[(BitVec.ofNat 32 (a+1),BitVec.ofNat 32 (b+1),P.gU (Na.D.now+x) (fg {Na.D with now:=Na.D.now+x} P).text)])
  (hw:∃ ws,P.waits=ws++[pkt]) (ht:P.tm.t+1<=tb) (a6:∀ S,P.se=some S->S.bo+180<=G'.T)
  (hz:z'\/(¬ P.un<Na.D.now+x/\P.ck≠[]/\P.ck=fS Nb.D.cz (BitVec.ofNat 32 (a+1)) G'.T)) (hq:Fq G' a b ia L') (q:∀ al,L'.all[b]?=some al->many<=al.length) (c8:c<=900000000):
  ∃ f aP m,sf C l' G' a b ia ib pkt many z' tb L' f aP m:=by
 obtain⟨a7,a8,b0,r⟩:=h.peer m1 m2;obtain⟨b2,b3,c9,e0⟩:=h.peer n1 n2;obtain⟨b4,b5,e3,b6⟩:=h'.peer E H;obtain⟨e4,e5,c0,e6⟩:=h'.peer K O;have v:=a8.ks;rw[hc.ab] at v;have B:=b3.ks;rw[hc.ba] at B;have V:=(b4.bg (fg {Na.D with now:=Na.D.now+x} P) (by rw[d];rfl)).2.1;have c1:=b6.D.fi;rw[Y] at c1;obtain⟨mm,w1,w2,w3⟩:=Mv (G:=G') hc.co hc.a1 hc.wR hP hD V (by show Na.D.now+x<=G'.T;have :=r.D.now;omega) (by show Na.D.ct<G'.fi a;omega) fun e=>by
  have :=b5.ks.k2;rw[d] at this;exact this e
 rw[hc.ab] at w1 w2 w3;have W:∀ {p:Int},p=1\/p=2->(p=2->G.kn a b/\C.ac a=2/\C.ac b=2)->p<=(fg {Na.D with now:=Na.D.now+x} P).su:=fun hp h2=>aj5 hD hP hc.co hc.a1 hc.wR (fun e=>by rw[e1];exact v.kn e) hp h2
 have c5:=r.D.now;refine⟨_,_,mm,?_,w2,X,⟨e8,h0,E,H,by rw[d];rfl,?_,by rw[d];exact hw,?_,?_,?_⟩,⟨e9,h1,K,O,?_,?_,?_⟩,hq,q⟩
 .rw[R];exact dN (fun t=>[(_,_,t)]) w1
 .rw[d];show P.bP<=_;rw[e2];exact W a7.ok.bP fun e=>by obtain⟨q1,-,q2,q3⟩:=v.pn e;exact⟨q1,q2,q3⟩
 .rw[d];show(P.tm.ev 4 _).w=true;rw[bw.JM]
 .rw[d];show(P.tm.ev 4 _).t<=tb;rw[bw.JM];exact ht
 .rw[d];exact a6
 .rw[o];intro hs;obtain⟨r1,r2⟩:=B.st hs;have e7:=r.D.fi;have c2:=b0.D.ok.ct;show later (Na.D.now+x) (Na.D.ct.tmod 1000000000) Pb.sec Pb.nano;have c3:Na.D.ct.tmod 1000000000=Na.D.ct:=Int.tmod_eq_of_lt c2.1 I;rw[c3];unfold later;by_cases c4:Pb.sec<Na.D.now+x
  .exact .inl c4
  .exact .inr ⟨I,I⟩
 .rw[o];exact W b2.ok.bP fun e=>by obtain⟨q1,q2,q3,q4⟩:=B.pn e;exact⟨q2,q4,q3⟩
 .rcases hz with hz|⟨z1,z2,z3⟩
  .exact .inl hz
  .refine .inr ?_;rw[Q,<-z3,c0.D.aP];exact(w3 z1 z2).symm
theorem ajB (hc:Fc C k a b ia ib src Fb tx)(O:(k.cs[a]?).map (·.F)=some Fa)(b5:Fa dst=((ia:Int),true))(h:LX C l G L c A)(b6:c<=900000000)(B:¬ G.ro)(hG:(G.more 2).ok)(Q:CQ G L)(M:bW):
  (cO k L (oE a src dst tx) M).1=0/\∃ l' G',Log.le l l'/\¬ G'.ro/\G'.T=G.T/\G'.q=G.q+2/\LY C l' G' (cV k L (oE a src dst tx) M).2 (c+5) A/\LX C l' G' (cO k L (oE a src dst tx) M).2 (c+5) (A+(c+5))/\
   ∃ f aP m,sf C l' G' a b ia ib (ez src tx) ((L.all[b]?.map List.length).getD 0) True 1 (cO k L (oE a src dst tx) M).2 f aP m:=by
 have hn:=hc.co.n;have e3:=h.g.len;have R:a≠b:=by have :=pU (j:=a) (i:=ia);rw[hc.ab] at this;exact this
 have r:a<L.N.length:=by have :=hc.a1;omega
 have V:b<L.N.length:=by have :=hc.b1;omega
 have m1:=bn r;have n1:=bn V;have o:=h.g.N a r;have W:=h.g.N b V;have X:=h.N a _ m1;have c0:=h.out _ (eM r);generalize L.N[a]=Na at*;generalize L.N[b]=Nb at*;have Y:=bn (show ia<Na.Ps.length by have :=hc.wR;have :=o.len;omega);have n2:=bn (show ib<Nb.Ps.length by have :=hc.yV;have :=W.len;omega);generalize Na.Ps[ia]'(by have :=hc.wR;have :=o.len;omega)=Pa at*;generalize Nb.Ps[ib]'(by have :=hc.yV;have :=W.len;omega)=Pb at*;obtain⟨d,c1,-,-⟩:=h.peer m1 Y;obtain⟨cw,cs⟩:=Q.qt a Na ia Pa m1 Y;have e0:=X.D.now;have a6:Pa.at_≠0#32:=by rw[d.at_];exact yd hc.co hc.a1 hc.wR
 have c2:(ez src tx).length<=2000:=by
  have :=hc.t1;unfold ez;rw[bA,fD];omega
 have c3:¬ Pa.my Na.D.now=true:=by
  unfold aj.my;cases hS:Pa.se with
  |none=>simp
  |some S=>
   have :S.over Na.D.now=true:=by
    have :=cs S hS;unfold aX.over pd;rw[aM I]
   simp[this]
 have c4:PG C l a ia {Pa with waits:=lO Pa.waits (ez src tx),tm:=Pa.tm.ev 3 Na.D.now}:=⟨IZ d.ok c2 o.D.ok.now,d.num,d.q,d.aR,d.at_,d.kn,d.bg,d.se,d.ne,d.eC⟩;have c5:=c1.tm.tw cw;have c6:cT Na.D {Pa with waits:=lO Pa.waits (ez src tx),tm:=Pa.tm.ev 3 Na.D.now}=iR Na.D {Pa with waits:=lO Pa.waits (ez src tx),tm:=Pa.tm.ev 3 Na.D.now}:=Sy a6 (by
  show(Pa.tm.ev 3 Na.D.now).nx Na.D.now=1;rw[bw.CD];exact Om rfl (.inl c5))
 have e2:oT Na Fa src dst tx=(0,{Na with D:=(iR Na.D {Pa with waits:=lO Pa.waits (ez src tx),tm:=Pa.tm.ev 3 Na.D.now}).1,Ps:=Na.Ps.set ia (iR Na.D {Pa with waits:=lO Pa.waits (ez src tx),tm:=Pa.tm.ev 3 Na.D.now}).2}):=by
  unfold oT;rw[aq (by have :=hc.t1;omega),b5,aq J,show((ia:Int),true).1.toNat=ia from iG ia,Y];dsimp only;rw[aq c3,c6]
 have p:cV k L (oE a src dst tx) M=((0:Int),{L with N:=L.N.set a (oT Na Fa src dst tx).2}):=by
  have c7:(k.cs[a]'(by have :=hc.a1;have :=hc.kc;omega)).F=Fa:=by
   rw[bn (show a<k.cs.length by have :=hc.a1;have :=hc.kc;omega)] at O;exact nc O
  unfold cV oE;dsimp only;rw[aM (.inl rfl),aq I,iG,m1,bn (show a<k.cs.length by have :=hc.a1;have :=hc.kc;omega)];dsimp only;rw[aM rfl,c7];rw[show(oT Na Fa src dst tx).1=0 by rw[e2]]
 obtain⟨l',G2,d1,d2,d3,d4,d5⟩:=NC hc.co hc.a1 h.g.lo o I B hG X Fa src dst tx;have E:LY C l' G2 (cV k L (oE a src dst tx) M).2 (c+5) A:=by
  rw[p];exact LY.up (LY.node (G:=G.more 2) (aO:=L.aO) h.g hG (fun j' N _ K=>(h.N j' N K).more ag) (fun g hg=>(h.aO g hg).more 2) m1 (fun _ hg=>hg) h.g.iM d1 d2 d3 d4 d5) I
 have hT:G2.T=G.T:=d4.T;have v:=E.sj.1;refine⟨by show(cV k L (oE a src dst tx) M).1=0;rw[p],l',G2,d1.le,by rw[d4.ro];exact B,hT,d4.q,E,v,?_⟩;obtain⟨g1,g2,g3⟩:=Uh h r (oT Na Fa src dst tx).2;have c8:(cO k L (oE a src dst tx) M).2=da {L with N:=L.N.set a (oT Na Fa src dst tx).2} (L.N.set a (oT Na Fa src dst tx).2).length:=by
  show da (cV k L (oE a src dst tx) M).2 _=_;rw[p]
 rw[<-c8] at g1 g2 g3;have a7:∀ al,(cO k L (oE a src dst tx) M).2.all[b]?=some al->(L.all[b]?.map List.length).getD 0<=al.length:=fun al a8=>by
  have b0:b<L.all.length:=by have :=h.g.mO;have :=hc.b1;omega
  obtain⟨e1,q⟩:=EE (j:=b) E (bn b0);rw[q] at a8;cases a8;rw[bn b0];show L.all[b].length<=_;rw[bA];omega
 have v:LX C l' G2 (cO k L (oE a src dst tx) M).2 (c+5) (A+(c+5)):=v;generalize (cO k L (oE a src dst tx) M).2=L' at*;rw[e2] at g1 g3;have H:({Na.D with now:=Na.D.now+0}:au)=Na.D:=by rw[Int.add_zero]
 have b2:=(cA.1 Y).1;refine Tg (x:=0) (T':=Pb.tm) hc h v (by rw[d4.ro];exact B) m1 Y n1 n2 g1 (by show(Na.Ps.set ia _)[ia]?=_;exact kF b2) ((g2 b R.symm).trans n1) n2 c4 rfl rfl ag (by rw[H];exact o.D) I (by rw[H]) Ie.2 rfl rfl ?_ ?_ ?_ ?_ (.inl trivial) ⟨fun j N i P K hi c9=>?_,fun N hN=>?_⟩ a7 b6
 .rw[g3,Q.aO,H,Int.add_zero];show([]++(iR Na.D _).1.out).take 60=_;rw[RC (P:={Pa with waits:=lO Pa.waits (ez src tx),tm:=Pa.tm.ev 3 Na.D.now}) a6,c0.1,o.D.here];show[(_,Pa.at_,_)]=_;rw[d.at_,hc.ab]
 .exact⟨_,rfl⟩
 .show(Pa.tm.ev 3 Na.D.now).t+1<=1;rw[bw.CD];show Pa.tm.t+1<=1;omega
 .rw[hT];exact cs
 .rw[hT];by_cases b3:j=a
  .subst b3;rw[g1] at K;cases K;have hi:(Na.Ps.set ia _)[i]?=some P:=hi;rw[mV (fun e=>c9 ⟨rfl,e.symm⟩)] at hi;exact Q.qt j Na i P m1 hi
  .rw[g2 j b3] at K;exact Q.qt j N i P K hi
 .rw[hT];rw[g2 b R.symm] at hN;exact Q.bk b N hN
end
end
section
section
variable {C:bO}{l l' l2:Log}{G G' G1 G2:Gx}{j i s t c n A a b ia ib many w:Nat}{D D':au}{P P':aj}{N N':bf}{M:bW}{L L':bl}{k:b9}{x now tb:Int}{src dst:aQ}{Fa Fb F:aQ->Int×Bool}{tx pkt:Z}{z z':Prop}
theorem ZZ {d:Z}{fr:aQ}{e f:Int}(h:e.tdiv 120=f.tdiv 120):fS d fr e=fS d fr f:=by
 unfold fS;rw[h]
theorem XF (hc:Fc C k a b ia ib src Fb tx)(h:LX C l G L c A)(b3:c<=900000000)(hw:vL G a b ia pkt many z tb L)(c8:tb<=4)(hx:G.T+6<=1099511627776)(hG:(G.tick 6).ok)(hz:z->z'\/(G.T+6).tdiv 120=G.T.tdiv 120)(M:bW):
  (cO k L (lv 6) M).1=0/\∃ l' G',Log.le l l'/\¬ G'.ro/\G'.T=G.T+6/\G'.q=G.q+1/\LY C l' G' (cV k L (lv 6) M).2 (c+5) A/\LX C l' G' (cO k L (lv 6) M).2 (c+5) (A+(c+5))/\∃ f aP m,sf C l' G' a b ia ib pkt many z' (tb+1) (cO k L (lv 6) M).2 f aP m:=by
 obtain⟨Na,Pa,m1,m2,m3,m4,m5,m6,m7,m8,Nb,Q,m9⟩:=hw.na;have b4:a≠b:=by have :=pU (j:=a) (i:=ia);rw[hc.ab] at this;exact this
 obtain⟨d1,l',G',d2,d3,d4⟩:=Cs (k:=k) (x:=6) (B':=0) (C':=0) (src:=0#32) (dst:=0#32) (aY:=[]) hc.co h I ⟨I,hx⟩ (fun hr=>absurd hr hw.ro) (fun hr=>absurd hr hw.ro) hG M;obtain⟨R,e2,-⟩:=Me (k:=k) (x:=6) (B':=0) (C':=0) (src:=0#32) (dst:=0#32) (aY:=[]) h M;have V:G'.T=G.T+6:=d3.T;have u:=d4.sj.1;refine⟨d1,l',G',d2,by rw[d3.ro];exact hw.ro,V,d3.q,d4,u,?_⟩;have W:∀ al,(cO k L (lv 6) M).2.all[b]?=some al->many<=al.length:=fun al X=>by
  have Y:b<L.all.length:=by have :=h.g.mO;have :=hc.b1;omega
  obtain⟨c9,q⟩:=EE (j:=b) (act:=lv 6) d4 (bn Y);rw[q] at X;cases X;have :=hw.many _ (bn Y);rw[bA];omega
 have R:∀ j:Nat,(cO k L (lv 6) M).2.N[j]?=(L.N[j]?).map fun N=>oa (dd N 6).2:=R
 have e2:(cO k L (lv 6) M).2.aO=(L.aO++jP (L.N.map fun N=>(dd N 6).2)).take 60:=e2;have u:LX C l' G' (cO k L (lv 6) M).2 (c+5) (A+(c+5)):=u;generalize (cO k L (lv 6) M).2=L' at*;obtain⟨K,b5,b6,c0⟩:=h.peer m1 m2;have a6:=c0.D.now;have c1:=h.out Na (lm m1);have a7:Pa.at_≠0#32:=by rw[K.at_];exact yd hc.co hc.a1 hc.wR
 have n2:=bn (show ib<Nb.Ps.length by
  obtain⟨q1,q2⟩:=cA.1 Q;have :=(h.g.N b q1).len;rw[q2] at this;have :=hc.yV;omega)
 generalize Nb.Ps[ib]'_=Pb at n2;have E:∀ (j:Nat) (N:bf),L.N[j]?=some N->¬ ((6:Int)<0\/1099511627776-N.D.now<6):=fun j N d=>by have :=(h.N j N d).D.now;omega
 have o:∀ (j:Nat) (N:bf),j≠a->L.N[j]?=some N->_:=fun j N v d=>Ma (N:=N) (x:=6) (E j N d) (fun P hP=>by
  obtain⟨i,hi,rfl⟩:=lr hP;rw[(h.N j N d).D.now];exact Mg (hw.fq.qt j N i _ d (bn hi) fun e=>v e.1) ag)
 have e3:=b5.tm.tl;have c2:cT {Na.D with now:=Na.D.now+6} Pa=iR {Na.D with now:=Na.D.now+6} Pa:=Sy a7 (Om m4 (.inr ⟨by show Pa.tm.l+5<=Na.D.now+6;omega,I⟩));obtain⟨g1,g2,g3⟩:=Mm (ps:=Na.Ps) (ia:=ia) (D:={Na.D with now:=Na.D.now+6}) m2 c2 Ie.1 fun i P hi p=>by
  show P.calm (Na.D.now+6);rw[a6];exact Mg (hw.fq.qt a Na i P m1 hi fun e=>p e.2) ag
 have O:=Rq (x:=6) (E a Na m1);have H:=b6.D;have y:=H.ok;have c3:DG C l a {Na.D with now:=Na.D.now+6} c:=⟨⟨y.own,y.aP,y.af,y.ac,y.cz,by have :=y.now;show 0<=Na.D.now+6/\Na.D.now+6<=1099511627776;omega,y.ct,y.out,y.aT⟩,H.here,H.own,H.ac,H.ix,H.new,H.out⟩;have c4:=(R a).trans (by rw[m1]);have c5:=(R b).trans (by rw[Q]);obtain⟨r1,r2,r3,r4⟩:=o b Nb b4.symm Q;obtain⟨T',r5,r6⟩:=r4 ib Pb n2;have c6:(oa (dd Na 6).2).Ps[ia]?=some (iR {Na.D with now:=Na.D.now+6} Pa).2:=by
  show(dd Na 6).2.Ps[ia]?=_;rw[O];exact g2
 have a8:(dd Na 6).2.D=(iR {Na.D with now:=Na.D.now+6} Pa).1:=by rw[O];exact g1
 refine Tg (x:=6) (T':=T') hc h u (by rw[d3.ro];exact hw.ro) m1 m2 Q n2 c4 c6 c5 r5 K rfl rfl ag c3 V rfl ?_ rfl ?_ ?_ m3 I (fun S e=>by rw[V];have :=m6 S e;omega) ?_ ⟨fun j N i P d hi p=>?_,fun N r=>?_⟩ W b3
 .show(dd Na 6).2.D.ct=_;rw[a8];exact Ie.2
 .show(dd Nb 6).2.D.cz=_;rw[r1]
 .rw[e2,hw.aO,Lx (a:=a) (N:=(dd Na 6).2) (by rw[dU,m1];rfl) fun j N' d p=>?_]
  .rw[a8,RC a7];show([]++(Na.D.out++[_])).take 60=_;rw[c1.1,K.at_,hc.ab];show[(Na.D.here,_,_)]=_;rw[H.here]
  .rw[dU] at d;cases r:L.N[j]? with
   |none=>rw[r] at d;cases d
   |some N=>
    rw[r] at d;cases d;rw[(o j N p r).1];exact(h.out N (lm r)).1
 .rcases hz hw.z with e|e
  .exact .inl e
  .refine .inr ⟨I,fun e0=>by rw[e0] at m8;simp at m8,?_⟩;rw[m9,V];exact ZZ e.symm
 .rw[V];rw[R] at d;cases r:L.N[j]? with
  |none=>rw[r] at d;cases d
  |some N0=>
   rw[r] at d;cases d;have hi:(dd N0 6).2.Ps[i]?=some P:=hi;by_cases v:j=a
   .subst v;rw[m1] at r;cases r;have c7:i≠ia:=fun e=>p ⟨rfl,e⟩
    rw[O] at hi;have e1:(dj {Na.D with now:=Na.D.now+6} Na.Ps).2.length=Na.Ps.length:=CK _ _;have hi:(dj {Na.D with now:=Na.D.now+6} Na.Ps).2[i]?=some P:=hi;have b0:i<Na.Ps.length:=by have :=(cA.1 hi).1;omega
    obtain⟨T2,s1,s2⟩:=g3 i _ (bn b0) c7;rw[s1] at hi;cases hi;have :=hw.fq.qt j Na i _ m1 (bn b0) p;exact⟨s2,fun S e=>by have :=this.2 S e;omega⟩
   .obtain⟨-,-,q3,q4⟩:=o j N0 v r;obtain⟨P0,b2⟩:=Lf i hi q3;obtain⟨T2,s1,s2⟩:=q4 i P0 b2;rw[s1] at hi;cases hi;have :=hw.fq.qt j N0 i P0 r b2 p;exact⟨s2,fun S e=>by have :=this.2 S e;omega⟩
 .rw[V];rw[R b,Q] at r;cases r;show(dd Nb 6).2.B.t+5<=_;rw[r2];have :=hw.fq.bk Nb Q;omega
end
end
end Go.Vm
end
section
namespace Go.Vm
open Go.Proofs Go.Proofs.Tryz
section
section
variable {K K0 K':RK}{H H0 H':aU}{Q0 Q:Rl->Prop}{k:b9}{L:bl}{C:bO}{l:Log}{n c A r:Nat}
def oq (C:bO)(k:b9)(L:bl)(act:cX)(Post:Int->bl->Prop):Prop:=∃ M l G c A b d,(act.kind=3->0<=act.A->pY k L act.A.toNat M)/\LX C l G L c A/\c<=800000000/\A<=6400000000000/\LY C b d (cV k L act M).2 (c+5) A/\Post (cO k L act M).1 (cO k L act M).2
theorem EH (b:Cx K0 H0 Q0 K H)(j:bM K H k L)(m:k.ok)(o:C.ok)(a:cX){Post:Int->bl->Prop}(h:oq C k L a Post)(p:a.kind≠6)(q:-9223372036854775808<=a.A/\a.A<9223372036854775808):
  ∃ v K' H',Dx prog 10 [.ptr k.l 0,.agg [.i64 a.kind,.i64 a.A,.i64 a.B,.i64 a.C,.u32 a.src,.u32 a.dst,.str a.aY]] K H qT v K' H'/\∃ e L',v= .i64 e/\bM K' H' k L'/\Post e L':=by
 obtain⟨M,l,G,c,A,R,S,y,z,T,u,d,s⟩:=h;obtain⟨v,K',H',E,F,O⟩:=Q9 b j m (z.g.ok o) I a p q M y (fun i N P x t=>by
  obtain⟨f,rfl⟩:=cA.1 x;have w:=(d.g.N i f).D.ok;have :=w.aT;have :=w.out;have :=d.g.all _ (lm t);omega) d.g.iM
 exact⟨v,K',H',E,_,_,F,O,s⟩
theorem KV (s:Cx K0 H0 Q0 K H)(F:bM K H k L)(O:k.ok)(R:C.ok)(P:bl->Nat->Prop)(Q:bl->Prop)
  (S:∀ L r,P L r->L.aO.length<=60) (h0:∀ L r,P L r->L.aO=[]->Q L)
  (T:∀ L r,P L r->L.aO≠[]->oq C k L dy fun _ L'=>∃ u,u<r/\P L' u) (hr:r<400) (h:P L r):
  ∃ v K' H',Dx prog 11 [.ptr k.l 0] K H qT v K' H'/\(v= .bool true/\∃ L',bM K' H' k L'/\Q L'):=by
 have X:=s.lt F.kl;refine ar (Q:=qT) (Post:=fun v K' H'=>v= .bool true/\∃ L',bM K' H' k L'/\Q L') func11 ?_;simp only[go_sem,seval];repeat refine aI ?_
 refine cG (fun j G=>∃ (i:Nat) (t:aU) (w:RK) (L:bl) (r:Nat),i+j=400/\r+i<400/\Cx K H qT w t/\bM w t k L/\P L r/\G=⟨[(0,.ptr k.l 0),(3,.i64 i)],t⟩) ?_ ?_
 .exact dh 400 ⟨[(0,.ptr k.l 0),(3,.i64 (0:Nat))],H⟩ gJ rfl (fun _ _ h=>h) ⟨0,H,K,L,r,I,I,s.start _,F,h,rfl⟩
 rintro j G ⟨i,t,w,L,r,a6,a7,g,q,m,rfl⟩-;have x:(i:Int)<400:=I;have Y:=iq (i:=i) I;simp only[go_sem,seval,x,cE];repeat refine aI ?_
 refine cQ (agk g q (S L r m)) U rfl (by simp[lows,V.low,g.lt q.kl]) g.bD ?_;rintro _ K1 H1 o a8 ⟨M,z⟩;obtain rfl:=z.symm;have d:=g.call o fun _ h=>h.elim
 have f:=q.eH o;by_cases p:L.aO.length=0
 .have b:=nK.1 p;have y:(L.aO.length:Int)=0:=I;rcases M with⟨rfl,-⟩|⟨W,rfl,-,-⟩
  .simp only[go_sem,seval];repeat refine aI ?_
   exact Ex.of d trivial ⟨rfl,L,f,h0 L r m b⟩
  .simp only[go_sem,seval,y,cE];repeat refine aI ?_
   exact Ex.of d trivial ⟨rfl,L,f,h0 L r m b⟩
 have b:L.aO≠[]:=fun e=>p (by rw[e];rfl)
 have y:¬ (L.aO.length:Int)=0:=I;rcases M with⟨rfl,e⟩|⟨W,rfl,-,-⟩
 .exact absurd e p
 simp only[go_sem,seval,y,cr];repeat refine aI ?_
 refine cQ (EH d f O R dy (T L r m b) ag ag) U rfl (by simp[lows,V.low,o.lt f.kl]) o.bD ?_;rintro _ K2 N B b0 ⟨e,L2,rfl,D,u,b2,E⟩;simp only[go_sem,seval];repeat refine aI ?_
 exact cH (j-1) ⟨[(0,.ptr k.l 0),(3,.i64 (i+1:Nat))],N⟩ I (by simp[St.get,lookS,Y]) rfl (fun _ _ h=>h) ⟨i+1,N,K2,L2,u,I,I,d.call B fun _ h=>h,D,E,rfl⟩
end
end
section
section
variable {K K0 K':RK}{H H0 H':aU}{Q0 Q:Rl->Prop}{k:b9}{L:bl}{C:bO}{l:Log}{n c A r:Nat}
theorem G6 (p:Cx K0 H0 Q0 K H)(D:bM K H k L)(E:k.ok)(F:C.ok)(d:Int)(ht:-9223372036854775808<=d/\d<9223372036854775808)(b:Nat)(O:b<=1000)(Z99:Nat->bl->Prop)(P:Nat->bl->Nat->Prop)
  (R:∀ i L,i<b->Z99 i L->oq C k L (lv d) fun e L'=>e=0/\∃ r,r<400/\P i L' r)
  (S:∀ i L r,P i L r->L.aO.length<=60) (h0:∀ i L r,P i L r->L.aO=[]->Z99 (i+1) L)
  (T:∀ i L r,P i L r->L.aO≠[]->oq C k L dy fun _ L'=>∃ G,G<r/\P i L' G) (h:Z99 0 L):
  ∃ v K' H',Dx prog 12 [.ptr k.l 0,.i64 b,.i64 d] K H qT v K' H'/\(v= .bool true/\∃ L',bM K' H' k L'/\Z99 b L'):=by
 have W:=p.lt D.kl;refine ar (Q:=qT) (Post:=fun v K' H'=>v= .bool true/\∃ L',bM K' H' k L'/\Z99 b L') func12 ?_;simp only[go_sem,seval];repeat refine aI ?_
 refine cG (fun j M=>∃ (i:Nat) (t:aU) (u:RK) (L:bl),i+j=b/\Cx K H qT u t/\bM u t k L/\Z99 i L/\M=⟨[(0,.ptr k.l 0),(2,.i64 d),(7,.i64 b),(8,.i64 i)],t⟩) ?_ ?_
 .exact dh b ⟨[(0,.ptr k.l 0),(2,.i64 d),(7,.i64 b),(8,.i64 (0:Nat))],H⟩ gJ rfl (fun _ _ h=>h) ⟨0,H,K,L,I,p.start _,D,h,rfl⟩
 rintro j M ⟨i,t,u,L,a6,f,o,q,rfl⟩-;by_cases X:i<b
 rotate_left
 .have m:¬ (i:Int)<(b:Int):=I;obtain rfl:i=b:=I;simp only[go_sem,seval,m,cr];repeat refine aI ?_
  exact Ex.of f trivial ⟨rfl,L,o,q⟩
 have m:(i:Int)<(b:Int):=I;have Y:=iq (i:=i) I;simp only[go_sem,seval,m,cE];repeat refine aI ?_
 refine cQ (EH f o E F (lv d) (R i L X q) (by show(2:Int)≠6;decide) ht) U rfl (by simp[lows,V.low,f.lt o.kl]) f.bD ?_;rintro _ K1 H1 g a7 ⟨e,L1,rfl,s,rfl,r,hr,x⟩;have w:=f.call g fun _ h=>h
 simp only[go_sem,seval];repeat refine aI ?_
 refine cQ (KV g s E F (P i) (Z99 (i+1)) (S i) (h0 i) (T i) hr x) U rfl (by simp[lows,V.low,g.lt s.kl]) g.bD ?_;rintro _ K2 N y a8 ⟨rfl,L',z,B⟩;simp only[go_sem,seval];repeat refine aI ?_
 exact cH (j-1) ⟨[(0,.ptr k.l 0),(2,.i64 d),(7,.i64 b),(8,.i64 (i+1:Nat))],N⟩ I (by simp[St.get,lookS,Y]) rfl (fun _ _ h=>h) ⟨i+1,N,K2,L',I,w.call y fun _ h=>h,z,B,rfl⟩
end
end
end Go.Vm
end
section
namespace Go.Vm
open Go.Proofs
section
abbrev RX:=Log->Gx->bl->Prop
def SP (C:bO)(R:RX)(T1 q1:Int)(c1:Nat)(L:bl)(r:Nat):Prop:=∃ l G c A,LX C l G L c A/\R l G L/\mu L<=r/\G.T<=T1/\G.q<=q1/\c+5*r<=c1/\A<=100000*c
def SI (C:bO)(R:RX)(T1 q1:Int)(c1:Nat)(L:bl):Prop:=∃ l G c A,LX C l G L c A/\R l G L/\L.aO=[]/\G.T<=T1/\G.q<=q1/\c<=c1/\A<=100000*c
section
variable {C:bO}{l l' l2:Log}{G G':Gx}{j i s t c n A a b ia ib many w r c1:Nat}{N N':bf}{L L':bl}{k:b9}{x T1 q1:Int}{src dst:aQ}{Fa Fb F:aQ->Int×Bool}{tx pkt:Z}{R R':RX}{af:Z}{bs:List Int}
theorem SP.iM (h:SP C R T1 q1 c1 L r):L.aO.length<=60:=by
 obtain⟨l,G,c,A,h,-⟩:=h;exact h.g.iM
theorem SP.calm (h:SP C R T1 q1 c1 L r)(d:L.aO=[]):SI C R T1 q1 c1 L:=by
 obtain⟨l,G,c,A,p,q,m,e,f,o,g⟩:=h;exact⟨l,G,c,A,p,q,d,e,f,I,g⟩
theorem SI.imp (h:SI C R T1 q1 c1 L)(hi:∀ l G c A,LX C l G L c A->L.aO=[]->R l G L->R' l G L):SI C R' T1 q1 c1 L:=by
 obtain⟨l,G,c,A,f,g,d,e⟩:=h;exact⟨l,G,c,A,f,hi l G c A f d g,d,e⟩
theorem SP.step (f:c1<=100000)(h:SP C R T1 q1 c1 L r)
  (g:∀ l G c A,LX C l G L c A->R l G L->c<=3000000000->∃ M l' G',pY k L 0 M/\Log.le l l'/\GE (fun _ _=>True) G G'/\LY C l' G' (cV k L dy M).2 (c+5) A/\LX C l' G' (cO k L dy M).2 (c+5) (A+(c+5))/\mu (cO k L dy M).2<mu L/\R l' G' (cO k L dy M).2):
  oq C k L dy fun _ L'=>∃ e,e<r/\SP C R T1 q1 c1 L' e:=by
 obtain⟨l,G,c,A,y,B,p,m,o,u,v⟩:=h;obtain⟨M,l',G',D,O,z,E,H,P,K⟩:=g l G c A y B I;exact⟨M,l,G,c,A,l',G',fun _ _=>D,y,I,I,E,mu (cO k L dy M).2,I,l',G',c+5,_,H,K,bz _,by rw[z.T];exact m,by rw[z.q];exact o,I,I⟩
theorem SI.step {act:cX}(f:act.kind≠3)(o:C.ok)(p:c1+1030<=100000)(h:SI C R T1 q1 c1 L){H m:Int}(M:bW)
  (u:∀ l G c A,LX C l G L c A->R l G L->L.aO=[]->c<=900000000->G.T<=T1->G.q<=q1->(cO k L act M).1=0/\∃ l' G',LY C l' G' (cV k L act M).2 (c+5) A/\LX C l' G' (cO k L act M).2 (c+5) (A+(c+5))/\G'.T<=H/\G'.q<=m/\R' l' G' (cO k L act M).2):
  oq C k L act fun e L'=>e=0/\∃ r,r<400/\SP C R' H m (c1+1030) L' r:=by
 obtain⟨l,G,c,A,K,P,v,y,z,D,E⟩:=h;obtain⟨Q,l',G',S,O,V,W,X⟩:=u l G c A K P v I y z;have B:=QC o O.g;exact⟨M,l,G,c,A,l',G',fun e=>absurd e f,K,I,I,S,Q,mu (cO k L act M).2,I,l',G',c+5,_,O,X,bz _,V,W,I,I⟩
def R1:RX:=fun _ G _=>¬ G.ro
def Inv1 (C:bO)(i:Nat)(L:bl):Prop:=∃ l G c A,LX C l G L c A/\¬ G.ro/\G.T<=1000000*i/\G.q<=5+2*i/\c<=5*i/\A<=100000*c
theorem Inv1.step (e:C.ok)(f:k.xs.length=C.n)(d:k.cs.length=C.n)(h:Inv1 C i L)(hi:i<60)(act:cX)(g:act.kind≠6)(m:act.kind=2->act.A<=1000000):oq C k L act fun _ L'=>Inv1 C (i+1) L':=by
 obtain⟨l,G,c,A,B,D,p,u,v,y⟩:=h;have z:=B.ok.q.1;obtain⟨M,H,l',G',O,K,P,Q,E⟩:=WZ e B f d I D ⟨B.ok.T,⟨by show 5<=G.q+2;omega,by show G.q+2<=900;omega⟩,fun o=>absurd o D⟩ act g m;exact⟨M,l,G,c,A,l',G',H,B,I,I,E,l',G',c+5,_,E.sj.1,K,I,I,I,I⟩
theorem Inv1.start (d:C.ok)(h:Inv1 C i L)(hi:i<=60):∃ r,r<400/\SP C R1 60000000 125 1320 L r:=by
 obtain⟨l,G,c,A,q,u,m,o,p,e⟩:=h;have f:=QC d q.g;exact⟨mu L,I,l,G,c,A,q,u,bz _,I,I,I,e⟩
theorem adR (g:C.ok)(m:k.xs.length=C.n)(e:k.cs.length=C.n)(h:SP C R1 60000000 125 1320 L r)(d:L.aO≠[]):oq C k L dy fun _ L'=>∃ f,f<r/\SP C R1 60000000 125 1320 L' f:=
 h.step ag fun l G c A p q u=>by
  obtain⟨M,l',G',v,y,o,z,B,D⟩:=Hq g p m e u d;exact⟨M,l',G',v,y,o,z,B,D,by show ¬ G'.ro;rw[o.ro];exact q⟩
def R2 (i:Nat):RX:=fun _ G _=>G.ro/\G.r=i
def I2 (C:bO)(i:Nat):bl->Prop:=SI C (R2 i) (60000000+6*i) (125+i) (1320+1030*i)
def P2 (C:bO)(i:Nat):bl->Nat->Prop:=SP C (R2 (i+1)) (60000000+6*(i+1:Nat)) (125+(i+1:Nat)) (1320+1030*i+1030)
theorem I2.start (h:SI C R1 60000000 125 1320 L):I2 C 0 L:=by
 obtain⟨l,G,c,A,o,p,d,e,f,g,m⟩:=h;exact⟨l,G.rounds L,c,A,agZ o d,⟨trivial,rfl⟩,d,e,f,g,m⟩
theorem I2.tick (f:C.ok)(hi:i<12)(h:I2 C i L):oq C k L (lv 6) fun e L'=>e=0/\∃ r,r<400/\P2 C i L' r:=
 SI.step (by show(2:Int)≠3;decide) f I h (.data 0#32 0 []) fun l G c A E M g P u v=>by
  obtain⟨d,y⟩:=M;have m:=E.ok.q.1;obtain⟨Q,S,V⟩:=E.ok.rd d;have o:=E.ok.T;have p:(G.tick 6).ok:=⟨by show 0<=G.T+6;omega,⟨by show 5<=G.q+1;omega,by show G.q+1<=900;omega⟩,fun _=>⟨by show G.T+6=G.T0+6*(G.r+1);omega,by show 0<=G.r+1;omega,by show G.r+1<=12;omega⟩⟩;obtain⟨O,l',G',W,H,K⟩:=Cs (k:=k) (x:=6) (B':=0) (C':=0) (src:=0#32) (dst:=0#32) (aY:=[]) f E I ⟨ag,I⟩ (fun _=>rfl) (fun _=>g) p (.data 0#32 0 []);have z:G'.T=G.T+6:=H.T;have B:G'.q=G.q+1:=H.q;have D:G'.r=G.r+1:=H.r;exact⟨O,l',G',K,K.sj.1,I,I,by rw[H.ro];exact d,I⟩
theorem P2.step (g:C.ok)(m:k.xs.length=C.n)(e:k.cs.length=C.n)(hi:i<12)(h:P2 C i L r)(d:L.aO≠[]):oq C k L dy fun _ L'=>∃ f,f<r/\P2 C i L' f:=
 SP.step I h fun l G c A q p u=>by
  obtain⟨M,l',G',v,y,o,z,B,D⟩:=Hq g q m e u d;exact⟨M,l',G',v,y,o,z,B,D,by rw[o.ro];exact p.1,by rw[o.r];exact p.2⟩
theorem P2.calm (h:P2 C i L r)(d:L.aO=[]):I2 C (i+1) L:=by
 have :=SP.calm h d;have e:1320+1030*i+1030=1320+1030*(i+1):=I;rw[e] at this;exact this
def R3:RX:=fun _ G L=>¬ G.ro/\∀ (j:Nat) (N:bf) (i:Nat) (P:aj),L.N[j]?=some N->N.Ps[i]?=some P->P.tm.w=false
def R4:RX:=fun _ G L=>¬ G.ro/\CQ G L
theorem I3.start (h:I2 C 12 L):SI C R3 60000072 137 13680 L:=by
 obtain⟨l,G,c,A,p,q,d,e,f,g,m⟩:=h;exact⟨l,G.over,c,A,UI p,⟨fun h=>h,fun j N i P o u=>YB p q.1 q.2 o u⟩,d,e,f,g,m⟩
theorem I3.tick (f:C.ok)(h:SI C R3 60000072 137 13680 L):oq C k L (lv 180) fun e L'=>e=0/\∃ r,r<400/\SP C R4 60000252 138 14710 L' r:=
 SI.step (by show(2:Int)≠3;decide) f I h (.data 0#32 0 []) fun l G c A z D m V v y=>by
  obtain⟨d,E⟩:=D;have o:=z.ok.q.1;have p:=z.ok.T;obtain⟨H,l',G',-,K,W,X,M,O,Q⟩:=Xz (k:=k) (x:=180) f z I d m ⟨ag,I⟩ ⟨by show 0<=G.T+180;omega,⟨by show 5<=G.q+1;omega,by show G.q+1<=900;omega⟩,fun u=>absurd u d⟩ (fun j N i P g B=>⟨E j N i P g B,fun S e=>by
   have :=(z.peer g B).2.1.ss.bo S (.inr (.inl e));omega⟩) (.data 0#32 0 [])
  exact⟨H,l',G',M,O,I,I,K,Q⟩
def Zc:Nat->Int->Prop
 |0,_=>True
 |1,T=>T%120<6
 |_,_=>False
def RF (C:bO)(a b ia ib:Nat)(src:aQ)(tx:Z)(many i:Nat):RX:=fun l G L=>¬ G.ro/\(y6 b ib src tx many L\/(∃ f aP m,sf C l G a b ia ib (ez src tx) many (Zc i G.T) (1+i) L f aP m)\/(∃ f u d e h,xD C l G a b ia (ez src tx) many (Zc i G.T) (1+i) L f u d e h)\/(∃ g aP m,yc C l G a b ia ib (ez src tx) many L g aP m)\/(∃ S o w p,vv l G a b ib (ez src tx) many L S o w p)\/vL G a b ia (ez src tx) many (Zc i G.T) (1+i) L)
def PF (C:bO)(a b ia ib:Nat)(src:aQ)(tx:Z)(many i:Nat):bl->Nat->Prop:=SP C (RF C a b ia ib src tx many i) (60000252+6*i) (140+i) (15740+1030*i)
def IF (C:bO)(a b ia ib:Nat)(src:aQ)(tx:Z)(many i:Nat):bl->Prop:=SI C (fun _ G L=>¬ G.ro/\(y6 b ib src tx many L\/vL G a b ia (ez src tx) many (Zc i G.T) (1+i) L)) (60000252+6*i) (140+i) (15740+1030*i)
theorem PF.calm (h:PF C a b ia ib src tx many i L r)(d:L.aO=[]):IF C a b ia ib src tx many i L:=
 (SP.calm h d).imp fun l G c A _ d h=>⟨h.1,by
  rcases h.2 with h|⟨f,aP,m,h⟩|⟨f,u,p,q,v,h⟩|⟨g,aP,m,h⟩|⟨S,y,w,z,h⟩|h
  .exact .inl h
  .have :=h.aO;rw[d] at this;cases this
  .have :=h.aO;rw[d] at this;cases this
  .have :=h.aO;rw[d] at this;cases this
  .have e:=dN List.length h.aO;rw[d,Jn] at e;obtain⟨B,o⟩:=h.last;rw[o] at e;simp at e
  .exact .inr h⟩
theorem PF.step (hc:Fc C k a b ia ib src Fb tx)(hi:i<=5)(h:PF C a b ia ib src tx many i L r)(p:L.aO≠[]):oq C k L dy fun _ L'=>∃ q,q<r/\PF C a b ia ib src tx many i L' q:=
 SP.step I h fun l G c A H h2 d=>by
  obtain⟨o,h2⟩:=h2;rcases h2 with h2|⟨f,aP,m,h2⟩|⟨f,u,K,P,Q,h2⟩|⟨g,aP,m,h2⟩|⟨S,V,w,W,h2⟩|h2
  .obtain⟨M,l',G',z,B,v,y,D,E⟩:=Hq hc.co H hc.kx hc.kc d p;exact⟨M,l',G',z,B,v,y,D,E,by rw[v.ro];exact o,.inl (Re h2 fun O e=>EE y e)⟩
  .obtain⟨M,l',G',z,B,v,y,D,E,d7⟩:=Z5 hc H d h2;rw[<-v.T] at d7;refine⟨M,l',G',z,B,v,y,D,E,by rw[v.ro];exact o,?_⟩;rcases d7 with d7|d7
   .exact .inr (.inr (.inl d7))
   .exact .inr (.inr (.inr (.inl d7)))
  .obtain⟨M,l',G',z,B,v,y,D,E,d7⟩:=Wq hc H d h2;rw[<-v.T] at d7;exact⟨M,l',G',z,B,v,y,D,E,by rw[v.ro];exact o,.inr (.inr (.inr (.inr (.inr d7))))⟩
  .obtain⟨M,l',G',z,B,v,y,D,E,d7⟩:=VF hc H d h2;exact⟨M,l',G',z,B,v,y,D,E,by rw[v.ro];exact o,.inr (.inr (.inr (.inr (.inl d7))))⟩
  .obtain⟨M,l',G',z,B,v,y,D,E,d7⟩:=Zt hc H d h2;refine⟨M,l',G',z,B,v,y,D,E,by rw[v.ro];exact o,?_⟩;rcases d7 with d7|d7
   .exact .inl d7
   .exact .inr (.inr (.inr (.inr (.inl d7))))
  .exact absurd h2.aO p
theorem afb {T:Int}(d:0<=T)(h:Zc i T):i<=1/\(Zc (i+1) (T+6)\/(T+6).tdiv 120=T.tdiv 120):=by
 rw[Int.tdiv_eq_ediv_of_nonneg I,Int.tdiv_eq_ediv_of_nonneg d]
 match i,h with
 |0,_=>
  refine⟨ag,?_⟩;show(T+6)%120<6\/_;omega
 |1,h=>
  have h:T%120<6:=h;refine⟨ag,.inr ?_⟩;omega
theorem IF.tick (hc:Fc C k a b ia ib src Fb tx)(hi:i<5)(h:IF C a b ia ib src tx many i L):oq C k L (lv 6) fun e L'=>e=0/\∃ r,r<400/\PF C a b ia ib src tx many (i+1) L' r:=by
 have M:oq C k L (lv 6) fun e L'=>e=0/\∃ r,r<400/\SP C (RF C a b ia ib src tx many (i+1)) (60000252+6*(i+1:Nat)) (140+(i+1:Nat)) (15740+1030*i+1030) L' r:=
  SI.step (by show(2:Int)≠3;decide) hc.co I h (.data 0#32 0 []) fun l G c A P h2 y o B D=>by
   obtain⟨d,h2⟩:=h2;have v:=P.ok.q.1;have p:=P.ok.T;have u:(G.tick 6).ok:=⟨by show 0<=G.T+6;omega,⟨by show 5<=G.q+1;omega,by show G.q+1<=900;omega⟩,fun g=>absurd g d⟩;rcases h2 with h2|h2
   .obtain⟨S,l',G',V,O,Q⟩:=Cs (k:=k) (x:=6) (B':=0) (C':=0) (src:=0#32) (dst:=0#32) (aY:=[]) hc.co P I ⟨ag,I⟩ (fun g=>absurd g d) (fun g=>absurd g d) u (.data 0#32 0 []);have E:G'.T=G.T+6:=O.T;have H:G'.q=G.q+1:=O.q;exact⟨S,l',G',Q,Q.sj.1,I,I,by rw[O.ro];exact d,.inl (Re h2 fun al e=>EE (act:=lv 6) Q e)⟩
   .obtain⟨K,X⟩:=afb p h2.z;obtain⟨S,l',G',-,V,O,Q,Y,d6,f,aP,m,W⟩:=XF (z':=Zc (i+1) (G.T+6)) hc P o h2 I I u (fun _=>X) (.data 0#32 0 []);refine⟨S,l',G',Y,d6,I,I,V,.inr (.inl ⟨f,aP,m,?_⟩)⟩;have e:(1:Int)+(i:Nat)+1=1+((i+1:Nat):Int):=I;rw[e,<-O] at W;exact W
 have e:15740+1030*i+1030=15740+1030*(i+1):=I;rw[e] at M;exact M
theorem IF.came (h:IF C a b ia ib src tx many 5 L):y6 b ib src tx many L:=by
 obtain⟨l,G,c,A,-,d,-⟩:=h;rcases d.2 with h|h
 .exact h
 .exact h.z.elim
theorem IF.send (hc:Fc C k a b ia ib src Fb tx)(d:(k.cs[a]?).map (·.F)=some Fa)(g:Fa dst=((ia:Int),true))(h:SI C R4 60000252 138 14710 L):oq C k L (oE a src dst tx) fun e L'=>e=0/\∃ r,r<400/\PF C a b ia ib src tx ((L.all[b]?.map List.length).getD 0) 0 L' r:=
 SI.step (by show(1:Int)≠3;decide) hc.co I h (.data 0#32 0 []) fun l G c A B D v o y z=>by
  have p:=B.ok.q.1;obtain⟨E,l',G',-,H,P,Q,K,M,f,aP,m,O⟩:=ajB hc d g B o D.1 ⟨B.ok.T,⟨by show 5<=G.q+2;omega,by show G.q+2<=900;omega⟩,fun u=>absurd u D.1⟩ D.2 (.data 0#32 0 []);exact⟨E,l',G',K,M,by show _<=60000252+6*((0:Nat):Int);omega,by show _<=140+((0:Nat):Int);omega,H,.inr (.inl ⟨f,aP,m,O⟩)⟩
end
end
end Go.Vm
end
section
namespace Go.Vm
open Go.Proofs Go.Proofs.Tryz
section
theorem Yn (d p:Int):bE prog 14 [.i64 d,.i64 p] (.i64 (if d<=p then bh (p+1) else p)):=by
 by_cases h:d<=p
 .rw[aM h];refine ai func14 ?_;simp only[go_sem,seval,ntmps14,results14,h]
 .rw[aq h];refine ai func14 ?_;simp only[go_sem,seval,ntmps14,results14,h]
theorem Ph:∀ {l:List Pk} {i:Nat} (h:i<l.length),((fy l).drop (i*3)).take 3=[V.i64 l[i].1,.u32 l[i].2.1,.str l[i].2.2]
 |(a,b,s)::l,0,_=>rfl
 |(a,b,s)::l,i+1,h=>by
  have :=Ph (l:=l) (i:=i) (by simp at h;omega);rw[show(i+1)*3=i*3+3 by omega];exact this
section
variable {K K0 K':RK}{H H0 H':aU}{Q0 Q:Rl->Prop}{k:b9}{L:bl}{bv av:V}{bs:List Int}{af:Z}{C:bO}{l:Log}{n c A a b ia ib i:Nat}{as_:List cX}{src dst:aQ}{Fa Fb:aQ->Int×Bool}{y:Z}
theorem ac9 (hC:Cx kn H0 qT K H)(hL:bM K H k L)(hM:k.ok)(hc:Fc C k a b ia ib src Fb y)(e0:(k.cs[a]?).map (·.F)=some Fa)(e4:Fa dst=((ia:Int),true))(b3:BitVec.ofInt 32 (bh (bh (167772160+vk (a:Int) 8)+7))=src)(b4:BitVec.ofInt 32 (bh (bh (167772160+vk (b:Int) 8)+9))=dst)(hQ:SI C R4 60000252 138 14710 L)
  {t:List (Nat×V)} (h3:lookS t 3= .i64 a) (h4:lookS t 4= .i64 b) (h5:lookS t 5= .str y) (B:lookS t 13= .ptr k.l 0) (b5:lookS t 16= .i64 ((L.all[b]?.map List.length).getD 0:Nat))
  (r0 r1 s2 s4 r6 s7 r9 lp e5 e6 c:Code) (hb:f3.body=some (.seq r0 (.seq r1 (.seq s2 (.seq s4 (.seq r6 (.seq s7 (.seq r9 (.seq lp (.seq e5 (.seq e6 c))))))))))):
  vc prog H0.length f3.ntmps c (gV prog f3 (Ex kn H0 qT fun v K' H'=>v= .bool true)) ⟨t,H⟩:=by
 simp only[f3,eg,mJ] at hb;obtain⟨-,-,-,-,-,-,-,-,-,-,rfl⟩:=hb;have e7:=hC.lt hL.kl;have m6:a<3:=by have :=hc.a1;have :=hc.co.n;omega
 generalize e8:(L.all[b]?.map List.length).getD 0=d at b5;refine ce ?_;refine qa8 h3 h4 h5 B b3 b4 ?_
 have b6:=IF.send hc e0 e4 hQ;rw[e8] at b6;refine cQ (EH hC hL hM hc.co (oE a src dst y) b6 (by show(1:Int)≠6;decide) ⟨by show(-9223372036854775808:Int)<=(a:Int);omega,by show(a:Int)<9223372036854775808;omega⟩) U rfl (by simp[lows,V.low,e7]) hC.bD ?_;rintro _ K1 H1 N m9 ⟨e,L1,rfl,c3,rfl,r,hr,l7⟩;have e9:=hC.call N fun _ h=>h
 refine d8 B ?_
 refine cQ (KV N c3 hM hc.co _ _ (fun _ _ h=>SP.iM h) (fun _ _ h e=>PF.calm h e) (fun _ _ h e=>PF.step hc ag h e) hr l7) U rfl (by simp[lows,V.low,N.lt c3.kl]) N.bD ?_;rintro _ K2 H2 O n0 ⟨rfl,L2,c4,m0⟩;have h0:=e9.call O fun _ h=>h
 refine d8 B ?_
 have h6:=G6 O c4 hM hc.co 6 ag 5 ag (IF C a b ia ib src y d) (fun i L r=>i<5/\PF C a b ia ib src y d (i+1) L r) (fun i L hi h=>by
   obtain⟨M,l,G,c,A,l',G',q1,q2,q3,q4,q5,q6,r,q7,q8⟩:=IF.tick (k:=k) hc hi h;exact⟨M,l,G,c,A,l',G',q1,q2,q3,q4,q5,q6,r,q7,hi,q8⟩) (fun _ _ _ h=>SP.iM h.2) (fun _ _ _ h e=>PF.calm h.2 e) (fun i L r h e=>by
   obtain⟨M,l,G,c,A,l',G',q1,q2,q3,q4,q5,r',q7,q8⟩:=PF.step (k:=k) hc (by have :=h.1;omega) h.2 e;exact⟨M,l,G,c,A,l',G',q1,q2,q3,q4,q5,r',q7,h.1,q8⟩) m0
 refine cQ (h6) U rfl (by simp[lows,V.low,O.lt c4.kl]) O.bD ?_;rintro _ K3 H3 P m1 ⟨rfl,L3,R,c5⟩;have h7:=h0.call P fun _ h=>h
 have a6:=c5.came;have m1:=R.l3;have h8:b<k.xs.length:=by rw[hc.kx];exact hc.b1
 have a7:b<L3.all.length:=I;have h9:L3.all[b].length<=900000000000:=by
  obtain⟨l,G,c,A,q1,-,-,-,-,q5,q6⟩:=c5;have :=q1.g.all _ (eM a7);omega
 obtain⟨f,S,c8⟩:=a6;rw[bn a7] at S;have S:L3.all[b]=f:=nc S;refine i7 B h4 ?_
 refine cQ (Qj P R h8 a7 I) U rfl (by simp[lows,V.low,P.lt R.kl]) P.bD ?_;rintro _ K4 s b2 n1 ⟨c6,m2⟩;obtain rfl:=m2.symm;have m7:=R.eH b2;have j1:=h7.call b2 fun _ h=>h.elim
 rw[S] at c6 h9;obtain⟨q,hq,c9⟩:=lr c8;rw[dO] at hq;rw[List.getElem_drop] at c9;rcases c6 with⟨-,e⟩|⟨W,rfl,hW,c7⟩
 .omega
 refine d8 b5 ?_
 have j2:((f.length:Int)-(d:Int)).toNat=f.length-d:=I;have a8:=xy f;have j3:K3 s.length=none:=b2.fresh _ (bz _);have j4:(if(b:Int)<=(ib:Int) then bh ((ib:Int)+1) else(ib:Int))=(a:Int):=by
  have h1:=hc.ba;have h2:=hc.yV;have h4:=hc.co.n;unfold bN at h1;by_cases c0:b<=ib
  .rw[aM c0] at h1;rw[aM I,bC I I];omega
  .rw[aq c0] at h1;rw[aq I];omega
 simp only[j2];refine cG (fun j st=>∃ (i:Nat) (m:aU),i+j=f.length-d/\Cx kn H0 qT K3 m/\s.length<=m.length/\(∀ c,c<s.length->ah m c=ah s c)/\i<=q/\st=⟨[(3,.i64 a),(4,.i64 b),(5,.str y),(17,.u32 src),(110,.slice W (d*3) (f.length-d) 3),(111,.i64 (f.length-d:Nat)),(112,.i64 i)],m⟩) ?_ ?_
 .exact dh (f.length-d) ⟨[(3,.i64 a),(4,.i64 b),(5,.str y),(17,.u32 src),(110,.slice W (d*3) (f.length-d) 3),(111,.i64 (f.length-d:Nat)),(112,.i64 (0:Nat))],s⟩ (by simp[St.get,lookS,h3,h4,h5]) rfl (fun _ _ h=>h) ⟨0,s,I,j1,bz _,fun _ _=>rfl,I,rfl⟩
 rintro j st ⟨i,m,n3,m3,n4,z,m4,rfl⟩-;have k3:(i:Int)<((f.length-d:Nat):Int):=I;have k4:(0:Int)<=(i:Int):=I;have m8:i<f.length-d:=I;have w1:=iq (i:=i) I;have k5:=(z W (b8 c7)).trans c7;have o:=Ph (l:=f) (i:=d+i) I;have k6:i=q->f[d+i]'(I)=((ib:Int),src,y):=fun e=>by subst e;exact c9
 rw[show(d+i)*3=d*3+i*3 by omega] at o;generalize f[d+i]'(I)=p at*;obtain⟨u,T,X⟩:=p;dsimp only at o;have hz:m.length<(m++[bK [.i64 0,.u32 0#32,.str []]]).length:=J;have c1:d*3+i*3+3<=f.length*3:=I;generalize fy f=m5 at*;simp only[go_sem,seval,k3,k4,cE,k5,o,a8,c1,dr hz];refine aF ?_
 have Y:=m3.boxed (zs:=[.i64 0,.u32 0#32,.str []]) (ys:=[.i64 u,.u32 T,.str X]) bT bT;have w:=pM (H:=m) (x:=bK [.i64 0,.u32 0#32,.str []]) (y:=bK [.i64 u,.u32 T,.str X]);have D:∀ c,c<s.length->ah ((m++[bK [.i64 0,.u32 0#32,.str []]]).set m.length (bK [.i64 u,.u32 T,.str X])) c=ah s c:=fun c l5=>(pz I).trans (z c l5)
 have l0:s.length<=((m++[bK [.i64 0,.u32 0#32,.str []]]).set m.length (bK [.i64 u,.u32 T,.str X])).length:=cp;generalize (m++[bK [.i64 0,.u32 0#32,.str []]]).set m.length (bK [.i64 u,.u32 T,.str X])=T4 at*;have E:=Yn b u;have c2:i=q->(if(b:Int)<=u then bh (u+1) else u)=(a:Int)/\T=src/\X=y:=fun e=>by
  obtain⟨rfl,rfl,rfl⟩:u=(ib:Int)/\T=src/\X=y:=by
   have :=k6 e;exact⟨dN (·.1) this,dN (·.2.1) this,dN (·.2.2) this⟩
  exact⟨j4,rfl,rfl⟩
 generalize (if(b:Int)<=u then bh (u+1) else u)=ae at*;have l4:s.length<=T4.length:=l0;have b0:¬ (ae=(a:Int)/\T=src/\X=y)->∃ (i':Nat) (m:aU),i'+(j-1)=f.length-d/\Cx kn H0 qT K3 m/\s.length<=m.length/\(∀ c,c<s.length->ah m c=ah s c)/\i'<=q/\(⟨[(3,.i64 a),(4,.i64 b),(5,.str y),(17,.u32 src),(110,.slice W (d*3) (f.length-d) 3),(111,.i64 (f.length-d:Nat)),(112,.i64 (i+1:Nat))],T4⟩:St)=⟨[(3,.i64 a),(4,.i64 b),(5,.str y),(17,.u32 src),(110,.slice W (d*3) (f.length-d) 3),(111,.i64 (f.length-d:Nat)),(112,.i64 i')],m⟩:=fun l6=>
  ⟨i+1,T4,I,Y,l4,D,Nat.lt_of_le_of_ne m4 fun e=>l6 (c2 e),rfl⟩
 by_cases e1:ae=(a:Int)
 rotate_left
 .refine br (E) ?_;refine pL e1 ?_
  exact cH (j-1) ⟨[(3,.i64 a),(4,.i64 b),(5,.str y),(17,.u32 src),(110,.slice W (d*3) (f.length-d) 3),(111,.i64 (f.length-d:Nat)),(112,.i64 (i+1:Nat))],T4⟩ I (by simp[St.get,lookS,w1]) rfl (fun _ _ h=>h) (b0 fun h=>e1 h.1)
 by_cases e2:T=src
 rotate_left
 .refine br (E) ?_;refine WT w e1 e2 ?_
  exact cH (j-1) ⟨[(3,.i64 a),(4,.i64 b),(5,.str y),(17,.u32 src),(110,.slice W (d*3) (f.length-d) 3),(111,.i64 (f.length-d:Nat)),(112,.i64 (i+1:Nat))],T4⟩ I (by simp[St.get,lookS,w1]) rfl (fun _ _ h=>h) (b0 fun h=>e2 h.2.1)
 by_cases e3:X=y
 rotate_left
 .refine br (E) ?_;refine qa7 w e1 e2 e3 ?_
  exact cH (j-1) ⟨[(3,.i64 a),(4,.i64 b),(5,.str y),(17,.u32 src),(110,.slice W (d*3) (f.length-d) 3),(111,.i64 (f.length-d:Nat)),(112,.i64 (i+1:Nat))],T4⟩ I (by simp[St.get,lookS,w1]) rfl (fun _ _ h=>h) (b0 fun h=>e3 h.2.2)
 refine br (E) ?_;refine qa7 w e1 e2 e3 ?_
 exact Ex.of Y trivial rfl
theorem acX (hC:Cx kn H0 qT K H)(hL:bM K H k L)(hM:k.ok)(hc:Fc C k a b ia ib src Fb y)(a7:(k.cs[a]?).map (·.F)=some Fa)(a8:Fa dst=((ia:Int),true))(O:BitVec.ofInt 32 (bh (bh (167772160+vk (a:Int) 8)+7))=src)(P:BitVec.ofInt 32 (bh (bh (167772160+vk (b:Int) 8)+9))=dst)(hI:Inv1 C i L)(hi:i<=60)
  {t:List (Nat×V)} (h3:lookS t 3= .i64 a) (R:lookS t 4= .i64 b) (h5:lookS t 5= .str y) (d:lookS t 13= .ptr k.l 0)
  (r0 r1 s2 s4 r6 s7 r9 lp x z c:Code) (S:f3.body=some (.seq r0 (.seq r1 (.seq s2 (.seq s4 (.seq r6 (.seq s7 (.seq r9 (.seq lp (.seq x (.seq z c))))))))))):
  vc prog H0.length f3.ntmps (.seq x (.seq z c)) (gV prog f3 (Ex kn H0 qT fun v K' H'=>v= .bool true)) ⟨t,H⟩:=by
 have w:=fun {K1:RK} {H1:aU} {L1:bl} (f:Cx kn H0 qT K1 H1) (o:bM K1 H1 k L1) (B:SI C R4 60000252 138 14710 L1) {t:List (Nat×V)} (h3:lookS t 3= .i64 a) (R:lookS t 4= .i64 b) (h5:lookS t 5= .str y) (d:lookS t 13= .ptr k.l 0) (b0:lookS t 16= .i64 ((L1.all[b]?.map List.length).getD 0:Nat))=>ac9 f o hM hc a7 a8 O P B h3 R h5 d b0 r0 r1 s2 s4 r6 s7 r9 lp x z c S
 simp only[f3,eg,mJ] at S;obtain⟨-,-,-,-,-,-,-,-,rfl,rfl,S⟩:=S;clear S;have b2:=hC.lt hL.kl;refine ce ?_;refine d8 d ?_
 obtain⟨r,hr,c7⟩:=hI.start hc.co hi;refine cQ (KV hC hL hM hc.co _ _ (fun _ _ h=>h.iM) (fun _ _ h e=>h.calm e) (fun _ _ h e=>adR hc.co hc.kx hc.kc h e) hr c7) U rfl (by simp[lows,V.low,b2]) hC.bD ?_;rintro _ K1 H1 f c8 ⟨rfl,L1,o,B⟩;refine d8 d ?_
 have b3:=hC.call f fun _ h=>h
 have b4:=G6 f o hM hc.co 6 ag 12 ag (I2 C) (fun i L r=>i<12/\P2 C i L r) (fun i L hi h=>by
   obtain⟨M,l,G,c,A,l',G',E,q2,q3,q4,N,q6,r,q7,q8⟩:=I2.tick (k:=k) hc.co hi h;exact⟨M,l,G,c,A,l',G',E,q2,q3,q4,N,q6,r,q7,hi,q8⟩) (fun _ _ _ h=>h.2.iM) (fun _ _ _ h e=>h.2.calm e) (fun i L r h e=>by
   obtain⟨M,l,G,c,A,l',G',E,q2,q3,q4,N,r',q7,q8⟩:=P2.step hc.co hc.kx hc.kc h.1 h.2 e;exact⟨M,l,G,c,A,l',G',E,q2,q3,q4,N,r',q7,h.1,q8⟩) (I2.start B)
 refine cQ (b4) U rfl (by simp[lows,V.low,f.lt o.kl]) f.bD ?_;rintro _ K2 H2 p c9 ⟨rfl,L2,Y,c3⟩;have b5:=b3.call p fun _ h=>h
 refine d8 d ?_
 have b6:=G6 p Y hM hc.co 180 ag 1 ag (fun i L=>(i=0/\SI C R3 60000072 137 13680 L)\/(i=1/\SI C R4 60000252 138 14710 L)) (fun i L r=>i=0/\SP C R4 60000252 138 14710 L r) (fun i L hi h=>by
   obtain⟨M,l,G,c,A,l',G',E,q2,q3,q4,N,q6,r,q7,q8⟩:=I3.tick (k:=k) hc.co (by rcases h with h|h;exact h.2;omega);exact⟨M,l,G,c,A,l',G',E,q2,q3,q4,N,q6,r,q7,I,q8⟩) (fun _ _ _ h=>h.2.iM) (fun i _ _ h e=> .inr ⟨I,h.2.calm e⟩) (fun i L r h e=>by
   obtain⟨l,G,c,A,-,q,-⟩:=h.2;exact absurd q.2.aO e) (.inl ⟨rfl,I3.start c3⟩)
 refine cQ (b6) U rfl (by simp[lows,V.low,p.lt Y.kl]) p.bD ?_;rintro _ K3 H3 s c4 ⟨rfl,L3,u,m⟩;have c0:=b5.call s fun _ h=>h
 have m:SI C R4 60000252 138 14710 L3:=by
  rcases m with h|h
  .omega
  .exact h.2
 have c4:=u.l3;have c1:b<k.xs.length:=by rw[hc.kx];exact hc.b1
 have D:b<L3.all.length:=I;have c2:L3.all[b].length<=7000000000000:=by
  obtain⟨l,G,c,A,E,-,-,-,-,N,q6⟩:=m;have :=E.g.all _ (eM D);omega
 refine i7 d R ?_
 have j:(L3.all[b]?.map List.length).getD 0=L3.all[b].length:=by rw[bn D];rfl
 refine cQ (Qj s u c1 D c2) U rfl (by simp[lows,V.low,s.lt u.kl]) s.bD ?_;rintro _ K4 H4 a6 e0 ⟨c5,c6⟩;obtain rfl:=c6.symm;have T:=u.eH a6;have X:=c0.call a6 fun _ h=>h.elim
 rcases c5 with⟨rfl,e⟩|⟨W,rfl,-,-⟩
 .refine aK ?_
  exact w X T m (by simp only[go_sem,seval,h3]) (by simp only[go_sem,seval,R]) (by simp only[go_sem,seval,h5]) (by simp only[go_sem,seval,d]) (by rw[j,e];simp only[go_sem,seval])
 .refine aK ?_
  exact w X T m (by simp only[go_sem,seval,h3]) (by simp only[go_sem,seval,R]) (by simp only[go_sem,seval,h5]) (by simp only[go_sem,seval,d]) (by rw[j];simp only[go_sem,seval])
end
end
end Go.Vm
end
section
namespace Go.Vm
open Go.Proofs
def Fv (t:Nat)(x:Int):aQ:=BitVec.ofInt 32 (bh (bh (167772160+vk (t:Int) 8)+x))
theorem Qo (af:Z){n j t:Nat}(a:n=2\/n=3)(c:j<n)(ht:t<n)(b:j≠t):∃ i,i<n-1/\bN j i=t/\rZ (fC (ig af j n) (n-1)) (Fv t 7)=((i:Int),true)/\rZ (fC (ig af j n) (n-1)) (Fv t 9)=((i:Int),true):=by
 rcases a with rfl|rfl
 .obtain⟨rfl,rfl⟩|⟨rfl,rfl⟩:(j=0/\t=1)\/(j=1/\t=0):=I
  .exact⟨0,ag,rfl,U,U⟩
  .exact⟨0,ag,rfl,U,U⟩
 .obtain⟨rfl,rfl⟩|⟨rfl,rfl⟩|⟨rfl,rfl⟩|⟨rfl,rfl⟩|⟨rfl,rfl⟩|⟨rfl,rfl⟩:(j=0/\t=1)\/(j=0/\t=2)\/(j=1/\t=0)\/(j=1/\t=2)\/(j=2/\t=0)\/(j=2/\t=1):=I
  .exact⟨0,ag,rfl,U,U⟩
  .exact⟨1,ag,rfl,U,U⟩
  .exact⟨0,ag,rfl,U,U⟩
  .exact⟨1,ag,rfl,U,U⟩
  .exact⟨0,ag,rfl,U,U⟩
  .exact⟨1,ag,rfl,U,U⟩
theorem aa4 {af:Z}{bs:List Int}{k:b9}{K:RK}{H:aU}{L:bl}{y:Z}{a b:Nat}(h:¬ ua af bs)(m:k.xs.length=bs.length)(o:qp af bs.length k.cs)(u:bM K H k L)(f:a<bs.length)(g:b<bs.length)(d:a≠b)(v:y.length<=1000):
  ∃ ia ib Fa Fb,Fc (vK af bs) k a b ia ib (Fv a 7) Fb y/\(k.cs[a]?).map (·.F)=some Fa/\Fa (Fv b 9)=((ia:Int),true):=by
 have p:=Bu h;have q:bs.length=2\/bs.length=3:=p.n;have i:k.cs.length=bs.length:=u.l1.trans m;obtain⟨ia,z,A,-,B⟩:=Qo af q f g d;obtain⟨ib,C,w,x,-⟩:=Qo af q g f d.symm;have r:a<k.cs.length:=I;have s:b<k.cs.length:=I;refine⟨ia,ib,(k.cs[a]).F,(k.cs[b]).F,⟨p,f,g,z,C,A,w,m,i,by rw[bn s];rfl,by rw[(o b s).1];exact x,v⟩,by rw[bn r];rfl,by rw[(o a r).1];exact B⟩
end Go.Vm
end
section
namespace Go.Vm
open Go.Proofs Go.Proofs.Tryz
section
section
variable {K K0 K':RK}{H H0 H':aU}{Q0 Q:Rl->Prop}{k:b9}{L:bl}{bv av:V}{bs:List Int}{af:Z}{C:bO}{l:Log}{n c A:Nat}{as_:List cX}
theorem aiF (hs:cZ H)(p:jC H bv bs)(Y:iZ H av as_)(hl:as_.length<=10000000000000)(hr:∀ a∈as_,-9223372036854775808<=a.A/\a.A<9223372036854775808)(af:Z)(f0 t0:Int)(tx:Z)
  (r0 r1 s2 s4 r6 s7 r9 lp c:Code) (G:f3.body=some (.seq r0 (.seq r1 (.seq s2 (.seq s4 (.seq r6 (.seq s7 (.seq r9 (.seq lp c))))))))):
  vc prog H.length f3.ntmps (.seq r0 (.seq r1 (.seq s2 (.seq s4 (.seq r6 (.seq s7 (.seq r9 (.seq lp c)))))))) (gV prog f3 (Ex kn H qT fun v K' H'=>v= .bool true)) ⟨jX [bv,.str af,av,.i64 f0,.i64 t0,.str tx] 0,H⟩:=by
 have e4:=p.low;have l6:=Y.low;have tail:∀ (M O c2:Code),c= .seq M (.seq O c2)->∀ {K1:RK} {H1:aU} {L1:bl} {k:b9} {C:bO} {a b ia ib:Nat} {src dst:aQ} {Fa Fb:aQ->Int×Bool} {y:Z} {i:Nat},Cx kn H qT K1 H1->bM K1 H1 k L1->k.ok->Fc C k a b ia ib src Fb y->(k.cs[a]?).map (·.F)=some Fa->Fa dst=((ia:Int),true)->BitVec.ofInt 32 (bh (bh (167772160+vk (a:Int) 8)+7))=src->BitVec.ofInt 32 (bh (bh (167772160+vk (b:Int) 8)+9))=dst->Inv1 C i L1->i<=60->∀ {t:List (Nat×V)},lookS t 3= .i64 a->lookS t 4= .i64 b->lookS t 5= .str y->lookS t 13= .ptr k.l 0->
   vc prog H.length f3.ntmps c (gV prog f3 (Ex kn H qT fun v K' H'=>v= .bool true)) ⟨t,H1⟩:=fun M O c2 e=>by
  subst e;exact fun hC hL E hc u w c5 c6 hI X t h3 h4 h5 h7=>acX hC hL E hc u w c5 c6 hI X h3 h4 h5 h7 r0 r1 s2 s4 r6 s7 r9 lp M O c2 G
 simp only[f3,eg,mJ] at G;obtain⟨rfl,rfl,rfl,rfl,rfl,rfl,rfl,rfl,e1⟩:=G;have tail:=@tail _ _ _ e1.symm;clear e1;refine ce (aK ?_)
 refine cQ (acC hs p af) U rfl (by simp[lows,V.low,e4]) hs ?_;rintro _ K1 H1 f m1 hP;have a6:=p.de f;have l4:=f.len;rcases hP with⟨c7,rfl⟩|⟨g,k,rfl,E⟩
 .refine aK ?_
  refine cQ (ZA f.bD a6 af c7) U rfl (by simp[lows,V.low,a6.low]) f.bD ?_;rintro _ K2 H2 h8 m2 rfl;refine aK ?_
  exact Ex.of (f.drop.call h8 fun _ h=>h) trivial rfl
 have P:=Bu g;have hn:bs.length=2\/bs.length=3:=P.n;have a7:Inv1 (vK af bs) 0 (da (mo af bs) (mo af bs).N.length):=⟨_,Gx.init,0,0,(afW g).toLY.sj.1,fun h=>h,dY _,dY _,bz _,bz _⟩;have e5:=E.at_;generalize da (mo af bs) (mo af bs).N.length=L0 at*;obtain⟨bb,ro,rfl,m7⟩:∃ bb ro,bv= .slice bb 0 bs.length 1/\ah H bb=some ⟨ro,bs.map V.i64,none⟩:=by
  rcases p with⟨e,-⟩|h
  .rw[e] at hn;simp at hn
  .exact h
 have a8:iZ H1 av as_:=Y.de (fun b p=>f.mQ rfl p) I;refine aK ?_
 refine cQ (YS f a8 I) U rfl (by simp[lows,a8.low]) f.bD ?_;rintro _ K3 H3 z m3 rfl;have r:=f.call z fun _ h=>h.elim
 by_cases hf:∀ a∈as_,a.kind≠6
 rotate_left
 .simp only[go_sem,seval,oZ hf];refine aF ?_
  exact Ex.of r trivial rfl
 have e6:=e5.eH z;have b0:iZ H3 av as_:=Y.de (fun b p=>r.mQ rfl p) r.len;simp only[go_sem,seval,nX hf];refine aF ?_
 refine cQ (aiL z b0 I) U rfl (by simp[lows,b0.low]) z.bD ?_;rintro _ K4 H4 c8 m4 ⟨bo,rfl,h9⟩;have o:=r.call c8 fun _ h=>h.elim
 have s:=e6.eH c8;have l7:iZ H4 av as_:=Y.de (fun b p=>o.mQ rfl p) o.len;cases bo with
 |false=>
  refine aK ?_
  exact Ex.of o trivial rfl
 |true=>
 obtain⟨k4,m8⟩:=h9.1 rfl;have b2:(bs.length:Int)=2\/(bs.length:Int)=3:=I;obtain⟨_,k5,a,rfl,ha⟩:=My f0 b2;obtain⟨_,k6,b,rfl,m9⟩:=My t0 b2;refine aK ?_
 refine br (k5) (aK ?_)
 refine br (k6) (aK ?_)
 by_cases b3:a=b
 .subst b3;refine i6 ?_
  exact Ex.of o trivial rfl
 have b4:¬ (a:Int)=(b:Int):=I;refine pL b4 ?_
 have e7:(List.take (if(1000:Int)<(tx.length:Int) then 1000 else(tx.length:Int)).toNat tx).length<=1000:=by
  rw[cF];split <;>omega
 generalize List.take (if(1000:Int)<(tx.length:Int) then 1000 else(tx.length:Int)).toNat tx=y at*;have R:=E.x;obtain⟨ia,ib,Fa,Fb,e3,u,w⟩:=aa4 g R E.F s (a:=a) (b:=b) I I b3 e7;rcases Y with⟨rfl,rfl⟩|⟨ab,rfl,j1,j2⟩
 .refine aK ?_
  refine ij 1 (aK ?_)
  exact tail o s E.ok e3 u w rfl rfl a7 ag aky aky aky aky
 refine aK ?_
 refine cG (fun j st=>∃ (i:Nat) (q:aU) (Ki:RK) (L:bl),i+j=as_.length/\Cx kn H qT Ki q/\bM Ki q k L/\Inv1 (vK af bs) i L/\st=⟨[(3,.i64 a),(4,.i64 b),(5,.str y),(13,.ptr k.l 0),(52,.slice ab 0 as_.length 7),(53,.i64 as_.length),(54,.i64 i)],q⟩) ?_ ?_
 .exact dh as_.length ⟨[(3,.i64 a),(4,.i64 b),(5,.str y),(13,.ptr k.l 0),(52,.slice ab 0 as_.length 7),(53,.i64 as_.length),(54,.i64 (0:Nat))],H4⟩ gJ rfl (fun _ _ h=>h) ⟨0,H4,K4,L0,I,o,s,a7,rfl⟩
 rintro j st ⟨i,q,Ki,L,m5,D,c9,e0,rfl⟩-;by_cases X:i<as_.length
 rotate_left
 .have S:¬ (i:Int)<(as_.length:Int):=I;refine pL S ?_
  exact tail D c9 E.ok e3 u w rfl rfl e0 I aky aky aky aky
 have S:(i:Int)<(as_.length:Int):=I;have e8:(0:Int)<=(i:Int):=I;have w1:=iq (i:=i) I;obtain⟨n0,l0⟩:=j2 I;have b5:=(D.mQ rfl j1).trans l0;have T:=E4 X;have b6:=Ju as_;have c0:i*7+7<=as_.length*7:=I;have hz:q.length<(q++[bK [.i64 0,.i64 0,.i64 0,.i64 0,.u32 0#32,.u32 0#32,.str []]]).length:=J;generalize (as_.map fun a=>[V.i64 a.kind,.i64 a.A,.i64 a.B,.i64 a.C,.u32 a.src,.u32 a.dst,.str a.aY]).flatten=l5 at*;have h6:=hf _ (eM X);have e9:=hr _ (eM X);have c1:=k4 _ (eM X);generalize as_[i]=d at*;have m0:=pM (H:=q) (x:=bK [.i64 0,.i64 0,.i64 0,.i64 0,.u32 0#32,.u32 0#32,.str []]) (y:=bK [.i64 d.kind,.i64 d.A,.i64 d.B,.i64 d.C,.u32 d.src,.u32 d.dst,.str d.aY]);have m:=D.boxed (zs:=[.i64 0,.i64 0,.i64 0,.i64 0,.u32 0#32,.u32 0#32,.str []]) (ys:=[.i64 d.kind,.i64 d.A,.i64 d.B,.i64 d.C,.u32 d.src,.u32 d.dst,.str d.aY]) bT bT;have W:=(D.start (fun _=>False)).boxed (zs:=[.i64 0,.i64 0,.i64 0,.i64 0,.u32 0#32,.u32 0#32,.str []]) (ys:=[.i64 d.kind,.i64 d.A,.i64 d.B,.i64 d.C,.u32 d.src,.u32 d.dst,.str d.aY]) bT bT;simp only[go_sem,seval,S,cE,b5,T,b6,c0,e8,dr hz];refine aF ?_
 have c3:=c9.eH W;have c4:=m.lt c3.kl;generalize ((q++[bK [.i64 0,.i64 0,.i64 0,.i64 0,.u32 0#32,.u32 0#32,.str []]]).set q.length (bK [.i64 d.kind,.i64 d.A,.i64 d.B,.i64 d.C,.u32 d.src,.u32 d.dst,.str d.aY]))=T4 at*;have h0:oq (vK af bs) k L d fun _ L'=>Inv1 (vK af bs) (i+1) L':=e0.step P R (s.l1.trans R) I d h6 fun e=>by
  refine ug fun e2=>c1 ⟨e,I⟩
 refine cQ (EH m c3 E.ok P d h0 h6 e9) U rfl (by simp[lows,V.low,c4]) m.bD ?_;rintro _ K5 H5 j3 m6 ⟨e,L',rfl,j4,k3⟩;have h1:=m.call j3 fun _ h=>h
 refine aK ?_
 exact cH (j-1) ⟨[(3,.i64 a),(4,.i64 b),(5,.str y),(13,.ptr k.l 0),(52,.slice ab 0 as_.length 7),(53,.i64 as_.length),(54,.i64 (i+1:Nat))],H5⟩ I (by simp[St.get,lookS,w1]) rfl (fun _ _ h=>h) ⟨i+1,H5,K5,L',I,h1,j4,k3,rfl⟩
theorem ajc (b:cZ H)(d:jC H bv bs)(e:iZ H av as_)(f:as_.length<=10000000000000)(g:∀ a∈as_,-9223372036854775808<=a.A/\a.A<9223372036854775808)(af:Z)(f0 h:Int)(tx:Z):
  ∃ v K' H',Dx prog 3 [bv,.str af,av,.i64 f0,.i64 h,.str tx] kn H qT v K' H'/\v= .bool true:=
 xQ U func3 rfl db (aiF b d e f g af f0 h tx _ _ _ _ _ _ _ _ _ rfl)
end
end
end Go.Vm
end
section
namespace Go.Vm
open Go.Proofs
theorem Tp {r:List V}(h:fM [.i64,.i64,.i64,.i64,.u32,.u32,.str] r):∃ a:cX,r=[V.i64 a.kind,.i64 a.A,.i64 a.B,.i64 a.C,.u32 a.src,.u32 a.dst,.str a.aY]/\-9223372036854775808<=a.A/\a.A<9223372036854775808:=by
 obtain⟨_,l,rfl,⟨k,rfl,-⟩,h⟩:=h;obtain⟨_,l,rfl,⟨a,rfl,e,f⟩,h⟩:=h;obtain⟨_,l,rfl,⟨b,rfl,-⟩,h⟩:=h;obtain⟨_,l,rfl,⟨c,rfl,-⟩,h⟩:=h;obtain⟨_,l,rfl,⟨s,rfl⟩,h⟩:=h;obtain⟨_,l,rfl,⟨d,rfl⟩,h⟩:=h;obtain⟨_,l,rfl,⟨t,rfl,-⟩,h⟩:=h;have h:l=[]:=h;subst h;exact⟨⟨k,a,b,c,s,d,t⟩,rfl,e,by show a<_;omega⟩
theorem MU:∀ {rows:List (List V)},(∀ r∈rows,fM [.i64,.i64,.i64,.i64,.u32,.u32,.str] r)->∃ as_:List cX,rows=as_.map (fun a=>[V.i64 a.kind,.i64 a.A,.i64 a.B,.i64 a.C,.u32 a.src,.u32 a.dst,.str a.aY])/\∀ a∈as_,-9223372036854775808<=a.A/\a.A<9223372036854775808
 |[],_=>⟨[],rfl,fun _ h=>nomatch h⟩
 |r::rows,h=>by
  obtain⟨a,rfl,d⟩:=Tp (h r J);obtain⟨as_,rfl,e⟩:=MU (rows:=rows) fun r c=>h r (by simp[c])
  exact⟨a::as_,rfl,fun x b=>by
   rcases gz.1 b with rfl|b
   .exact d
   .exact e x b⟩
theorem Su (as_:List cX)(n:Nat):lows n (as_.map fun a=>[V.i64 a.kind,.i64 a.A,.i64 a.B,.i64 a.C,.u32 a.src,.u32 a.dst,.str a.aY]).flatten:=by
 induction as_ with
 |nil=>trivial
 |cons a as_ ih=>
  show lows n (V.i64 a.kind:: .i64 a.A:: .i64 a.B:: .i64 a.C:: .u32 a.src:: .u32 a.dst:: .str a.aY::_);exact⟨trivial,trivial,trivial,trivial,trivial,trivial,trivial,ih⟩
theorem acO (zs:List Int)(n:Nat):lows n (zs.map V.i64):=by
 induction zs with
 |nil=>trivial
 |cons z zs ih=>exact⟨trivial,ih⟩
structure HU (vs:List V) (h:aU) (bv av:V) (af:Z) (bs:List Int) (as_:List cX):Prop where
 vs:vs=[bv,.str af,av]
 bD:cZ h
 b:jC h bv bs
 a:iZ h av as_
 r:∀ a∈as_,-9223372036854775808<=a.A/\a.A<9223372036854775808
 l:as_.length<=10000000000000
theorem Tb {n:Nat}{vs:List V}{h:aU}(e:qn [.row [.i64,.i64,.i64,.i64,.u32,.u32,.str] 56] n vs h):∃ (av:V) (as_:List cX),vs=[av]/\((∀ a∈as_,-9223372036854775808<=a.A/\a.A<9223372036854775808)/\as_.length<=10000000000000)/\
  ((av= .bG/\as_=[]/\h=[])\/(av= .slice n 0 as_.length 7/\∃ b,h=[b]/\(0<as_.length->b=some ⟨true,(as_.map fun a=>[V.i64 a.kind,.i64 a.A,.i64 a.B,.i64 a.C,.u32 a.src,.u32 a.dst,.str a.aY]).flatten,none⟩)/\(as_.length=0->b=none))):=by
 rcases e with⟨c,rfl,rfl,rfl⟩|⟨i,c,b,l,rfl,rfl,f,d,j,k,rfl,rfl⟩
 .exact⟨_,[],rfl,⟨(fun _ h=>nomatch h),lI _⟩,.inl ⟨rfl,rfl,rfl⟩⟩
 .obtain⟨as_,rfl,g⟩:=MU f;rw[cq] at j k d;exact⟨_,as_,rfl,⟨g,I⟩,.inr ⟨by rw[cq];rfl,b,rfl,j,k⟩⟩
theorem afr {vs:List V}{h:aU}(d:qn [.row [.i64] 8,.cell .str,.row [.i64,.i64,.i64,.i64,.u32,.u32,.str] 56] 0 vs h):∃ bv av af bs as_,HU vs h bv av af bs as_:=by
 rcases d with⟨c,rfl,⟨v,c,rfl,⟨af,rfl,-⟩,d⟩⟩|⟨s,c,j,x,rfl,rfl,k,-,f,l,⟨v,c,rfl,⟨af,rfl,-⟩,d⟩⟩
 .obtain⟨av,as_,rfl,a,m⟩:=Tb d;rcases m with⟨rfl,rfl,rfl⟩|⟨rfl,j,rfl,t,w⟩
  .exact⟨_,_,af,[],[],rfl,fun b B e=>by simp[ah] at e,.inl ⟨rfl,.inl rfl⟩,.inl ⟨rfl,rfl⟩,a.1,a.2⟩
  .refine⟨_,_,af,[],as_,rfl,fun b B e=>?_,.inl ⟨rfl,.inl rfl⟩,.inr ⟨0,rfl,J,fun r=>⟨true,t r⟩⟩,a.1,a.2⟩
   match b,e with
   |0,e=>
    by_cases r:0<as_.length
    .rw[t r] at e;obtain rfl:_=B:=by simpa [ah] using e
     exact⟨Su _ _,rfl⟩
    .rw[w I] at e;simp[ah] at e
   |b+1,e=>simp[ah] at e
 .obtain⟨u,g,o,-⟩:=Np k;obtain⟨av,as_,rfl,a,m⟩:=Tb d;have q:jC (j::x) (.slice 0 0 s.length 1) u:=by
   rw[<-o];by_cases r:0<s.length
   .exact .inr ⟨0,true,rfl,by rw[f r,g];rfl⟩
   .have :u=[]:=nK.1 I;rw[this];exact .inl ⟨rfl,.inr ⟨0,rfl,J⟩⟩
  have i:∀ B,j=some B->∀ n,lows n B.cs:=fun B e n=>by
   by_cases r:0<s.length
   .rw[f r,g] at e;cases e;exact acO _ _
   .rw[l I] at e;cases e
  rcases m with⟨rfl,rfl,rfl⟩|⟨rfl,p,rfl,t,w⟩
  .refine⟨_,_,af,u,[],rfl,fun b B e=>?_,q,.inl ⟨rfl,rfl⟩,a.1,a.2⟩
   match b,e with
   |0,e=>exact⟨i B e _,rfl⟩
   |b+1,e=>simp[ah] at e
  .refine⟨_,_,af,u,as_,rfl,fun b B e=>?_,q,.inr ⟨1,rfl,J,fun r=>⟨true,by rw[t r];rfl⟩⟩,a.1,a.2⟩
   match b,e with
   |0,e=>exact⟨i B e _,rfl⟩
   |1,e=>
    have e:p=some B:=e;by_cases r:0<as_.length
    .rw[t r] at e;cases e;exact⟨Su _ _,rfl⟩
    .rw[w I] at e;cases e
   |b+2,e=>simp[ah] at e
theorem CZ {k3:List mM}(e:∀ {n:Nat} {vs:List V} {h:aU},qn k3 n vs h->h=[]):∀ {ks:List mM} {n:Nat} {vs:List V} {h:aU},qn (ks++k3) n vs h->∃ j l m,vs=j++l/\qn ks n j h/\qn k3 m l []
 |[],n,vs,h,a=>by
  obtain rfl:=e a;exact⟨[],vs,n,rfl,⟨rfl,rfl⟩,a⟩
 | .cell k::ks,n,vs,h,a=>by
  obtain⟨v,b,rfl,s,o⟩:=a;obtain⟨j,l,m,rfl,c,d⟩:=CZ e (ks:=ks) o;exact⟨v::j,l,m,rfl,⟨v,j,rfl,s,c⟩,d⟩
 | .agg t::ks,n,vs,h,a=>by
  obtain⟨v,b,rfl,s,o⟩:=a;obtain⟨j,l,m,rfl,c,d⟩:=CZ e (ks:=ks) o;exact⟨.agg v::j,l,m,rfl,⟨v,j,rfl,s,c⟩,d⟩
 | .row t w::ks,n,vs,h,a=>by
  rcases a with⟨b,rfl,o⟩|⟨p,b,i,u,rfl,rfl,x,y,z,A,o⟩
  .obtain⟨j,l,m,rfl,c,d⟩:=CZ e (ks:=ks) o;exact⟨.bG::j,l,m,rfl,.inl ⟨j,rfl,c⟩,d⟩
  .obtain⟨j,l,m,rfl,c,d⟩:=CZ e (ks:=ks) o;exact⟨_::j,l,m,rfl,.inr ⟨p,j,i,u,rfl,rfl,x,y,z,A,c⟩,d⟩
end Go.Vm
end
