/- Proved: laws of a machine of values; no conditions but each theorem's own. -/
import Derived.Test.YtidjknjilnopnaaGreatDoorCvOToXcM
set_option linter.unusedVariables false
set_option linter.unusedSimpArgs false
set_option maxRecDepth 20000
set_option maxHeartbeats 8000000
section
namespace Go.Vm
open Go.Proofs Go.Proofs.Tryz
section
section
variable {K K0 K':RK}{H H0 H':aU}{Q0 Q:Rl->Prop}{j i d p tm n W a q w arr pb bk pw c:Nat}{P P':aj}{D D':au}{S S':aX}{ps:List Nat}{f:bL}{g:cm}{out aT wv bg ol se ne v:V}
noncomputable def HK (K:RK) (Q:Rl->Prop) (N e x:Nat):Nat:=if x=e then 3 else me K Q N x
theorem yp {N e x:Nat}{l:List Nat}(b:x=e->3∈l)(h:x≠e->me K Q N x∈l):HK K Q N e x∈l:=by
 unfold HK;split
 .exact b ‹_›
 .exact h ‹_›
theorem XC (R:Cx K0 H0 Q K H)(u:cf K H j d D arr ps pb bk out aT)(Y:D.ok n)(T:cj K H j i d p P tm wv bg ol se ne)(a6:P.aR.length=32)(hf:f.ok)(hh:ah H c=bK (zR f))(s:K c=none)
  (ix:aQ) {t:List (Nat×V)} (h0:lookS t 0= .ptr d 0) (a7:lookS t 15= .ptr c 0) (a8:lookS t 16= .ptr p 0) (b0:lookS t 17= .u32 ix) {Q':Exit->St->Prop} {r0 r1 r2 s3 s5 b2 b3 b4 b5 b6 c0 c1 A c2:Code}
  (hc:f69.body=some (.seq r0 (.seq r1 (.seq r2 (.seq s3 (.seq s5 (.seq b2 (.seq b3 (.seq b4 (.seq b5 (.seq b6 (.seq c0 (.seq c1 (.seq A c2)))))))))))))) (hm:H0.length<=H.length)
  (hQ:∀ (N:Nat) (X:aU) (B:List (Nat×V)),Cx K H (fun r=>r= .dev j) K X->cf K X j d {D with fresh:=D.fresh+1#64} arr ps pb bk out aT->H.length<=N->ah X N=bK [.str (cm.key ⟨f,P.aR,D.dR,D.ac,ix⟩ 1),.str (cm.key ⟨f,P.aR,D.dR,D.ac,ix⟩ 0)]->(∀ k,k≠10->k≠18->k≠19->k<147->lookS B k=lookS t k)->lookS B 10= .i64 0->lookS B 18= .str (cm.text ⟨f,P.aR,D.dR,D.ac,ix⟩)->lookS B 19= .ptr N 0->Q' .normal ⟨B,X⟩):
  GP prog H0.length f69.ntmps A Q' ⟨t,H⟩:=by
 have hg:=u.g;have C:=T.gp;unfold au.cs at hg;unfold aj.cs at C;have e1:d≠c:=fun e=>by subst e;rw[u.kd] at s;cases s
 have e3:p≠d:=fun e=>by have :=T.kp;rw[e,u.kd] at this;cases this
 have c3:=R.lt u.kd;have c4:=R.lt T.kp;have c5:=b8 hh;have c6:=T.kp;obtain⟨_,K1,H1,m,rfl,rfl,L⟩:=ET R u Y.af;have E:=L.g;unfold au.cs at E;have c7:=(m.cur.mQ s c5).trans hh;have c8:cm.ok ⟨f,P.aR,D.dR,D.ac,ix⟩:=⟨hf,a6,(D.sP Y.af).2,Y.ac⟩;obtain⟨_,M,l,O,rfl,rfl,rfl⟩:=U2 m.cur c8 c7;generalize cm.key ⟨f,P.aR,D.dR,D.ac,ix⟩ 1=ka at*;generalize cm.key ⟨f,P.aR,D.dR,D.ac,ix⟩ 0=kb at*;generalize cm.text ⟨f,P.aR,D.dR,D.ac,ix⟩=e4 at*;dsimp only at O;generalize D.dR=ks at*;simp only[f69,eg,mJ] at hc;obtain⟨-,-,-,-,-,-,-,-,-,-,-,-,rfl,-⟩:=hc;refine SR (Z98:=NR d 4 (.i64 D.ac)) U (fun b e=>by subst e;exact⟨_,hg,J,rfl⟩) ?_;refine iE aw rfl (by simp only[go_sem,a7];rfl) trivial rfl rfl ?_;refine iE aw rfl (by refine aL a8 ?_;rfl) trivial rfl rfl ?_;refine iE aw rfl akp trivial rfl rfl ?_;refine iE aw rfl akp trivial rfl rfl ?_;refine iE aw rfl (by refine aL C ?_;rfl) J rfl rfl ?_;refine iE aw rfl (by refine aL h0 ?_;rfl) trivial rfl rfl ?_;simp only[go_sem,iY,kG];refine GA (fs:=[]) (cs:=[]) (args:=[.ptr d 0]) aw rfl rfl rfl rfl (m.whole (by simp[lows,V.low,c3]) R.bD) U aky (fun b hb e=>by subst e;exact⟨_,E,J,rfl⟩) ?_;refine iE aw rfl (by refine aL h0 ?_;rfl) trivial rfl rfl ?_;refine iE aw rfl akp trivial rfl rfl ?_;refine iE aw rfl akp trivial rfl rfl ?_;refine O5 (b:=d) (i:=4) (v:= .i64 D.ac) aw rfl rfl aky U (z:=1) U (fun x o=>o rfl) ?_;refine iE aw rfl (by refine aL b0 ?_;rfl) trivial rfl rfl ?_;simp only[go_sem,iY,kG];have c9:=m.cur.len;refine GA (fs:=[]) (cs:=[]) (args:=[.ptr c 0,.str P.aR,.str ks,.i64 D.ac,.u32 ix]) aw rfl rfl rfl rfl (O.whole (by simp[lows,V.low];omega) m.cur.bD) U aky (fun b hb G=>?_) ?_
 .subst G;rcases hb with hb|hb
  .obtain⟨_,_,h⟩:=(Bb.1 hb).2;exact h.elim
  .have :l.length<=b:=hb;omega
 refine iE aw rfl akp trivial rfl rfl ?_;refine iE aw rfl akp trivial rfl rfl ?_;refine iE aw rfl akp trivial rfl rfl ?_;refine iE aw rfl akp trivial rfl rfl ?_;simp only[go_sem,iY,kG];refine Pm aw rfl (by simp only[go_sem];rfl) trivial J (fun b x o G=>?_) ?_
 .subst G;exfalso;unfold kM at o;rw[aq (fun h=>by have :l.length<=b:=h.1;omega),aq (fun h=>by have :=h.2;simp at this)] at o;cases o
 refine iE aw rfl akp trivial rfl rfl ?_;simp only[go_sem,iY,kG];refine Pm (by show True;trivial) rfl (by refine aL @qb ?_;rfl) J (fun y hy=>?_) (fun b x o G=>?_) ?_
 .have e0:y=(l.length,bK [.str ka,.str kb]):=by simpa using hy
  subst e0;show l.length<(l++[bK [.str [],.str []]]).length;simp
 .subst G;exfalso;unfold kM at o;rw[aq (fun h=>by have h1:(l++[bK [.str [],.str []]]).length<=b:=h.1;simp at h1;omega),aq (fun h=>by have :=h.2;simp at this;omega)] at o;cases o
 refine iE aw rfl akp trivial rfl rfl ?_;simp only[go_sem,iY,kG];refine LA ?_ ⟨?_,?_⟩
 .show mS _ [([],[]),([],[]),([],[]),([],[]),([p],[]),([],[]),(List.range H.length,tK (Wr (fun r=>r= .dev j) M) H.length++List.range' H.length (l.length-H.length)),([],[]),([],[]),([],[]),([],[]),([],[]),(List.range l.length,tK (Wr (fun _=>False) M) l.length++List.range' l.length (l.length-l.length)),([],[]),([],[]),([],[]),([],[]),([],[l.length]),([],[]),([l.length],[l.length]),([],[])]=true;have hw:=CU (K:=M) (Q:=fun r=>r= .dev j) (Q2:=fun r=>r= .dev j) (N:=H.length) (n:=H.length) (k:=l.length-H.length) (bz _) (fun _ h=>h);refine jg (HK M (fun r=>r= .dev j) H.length l.length) [([],[]),([],[]),([],[]),([],[]),([0],[]),([],[]),([0,2],[1,2]),([],[]),([],[]),([],[]),([],[]),([],[]),([0,1,2],[]),([],[]),([],[]),([],[]),([],[]),([],[3]),([],[]),([3],[3]),([],[])] U ?_;rw[vM,k8];simp only[jA,jy,cv,all_cons,gG,qV,iY,List.range'_zero];have F:∀ x,me M (fun r=>r= .dev j) H.length x∈[0,1,2]:=fun x=>by unfold me;split <;>(try split)<;>simp
  refine⟨yp I fun _=>by rw[yP c6 c4 J];simp,⟨fun b hb=>by
   rw[Gd] at hb;refine yp I fun _=>?_
   unfold me;rw[aM hb];split <;>simp,fun b hb=>yp (fun e=>?_) fun _=>of_eq_true hw b hb⟩,fun b hb=>?_,yp J J,yp J J,yp J J⟩
  .subst e;exfalso;rcases gZ.1 hb with hb|hb
   .have :=(Bb.1 hb).1;omega
   .rw[wW] at hb;omega
  .rw[Gd] at hb;exact yp I fun _=>F b
 .show H0.length<=((l++[bK [.str [],.str []]]).set l.length (bK [.str ka,.str kb])).length;simp;omega
 .have hB:=(m.cur.start (fun _=>False)).boxed (zs:=[.str [],.str []]) (ys:=[.str ka,.str kb]) bT bT;refine hQ l.length _ _ (m.cur.call hB fun _ h=>h.elim) (L.eH hB.off) c9 (dr J _) (fun k k1 k2 k3 k4=>?_) rfl rfl rfl;simp only[lookS];iterate 20 rw[aq I]
end
end
section
section
variable {K K0 K':RK}{H H0 H':aU}{Q0 Q:Rl->Prop}{j i d p tm n W q Nn:Nat}{P P':aj}{D D':au}{f:bL}{g:cm}{c:cR}{N:bf}{R:Int×bf}
theorem bB.acu (h:bB K H j c N)(a:Cx K H (fun r=>r= .bk j\/r= .bm j) K' H'){B':eN}(b:mG K' H' j c.bk B'):bB K' H' j c {N with B:=B'}:=
 ⟨by obtain⟨_,_,e⟩:=h.dev;exact⟨_,_,e.off a.off J J J J⟩,h.len,fun i k l=>(h.peer i k l).off a.off J J J J J J,b,h.oG.off a.off a.len J⟩
theorem bB.Kl (h:bB K H j c N)(a:Cx K H (fun r=>r= .dev j) K' H')(b:jU K' H' j c.d D' c.arr c.ps c.paths c.bk):bB K' H' j c {N with D:=D'}:=h.BU (a.mono FQ) b
theorem Yw (C:Cx K0 H0 (qD j) K H)(hN:bB K H j c N)(hi:i<c.ps.length)(a7:i<N.Ps.length)(a8:N.Ps[i]=P)(b:P.ok)(hd:N.D.ok n)(hn:n<=900000000)(x:g.ok)(hq:ah H q=bK [.i64 g.f.su,.u32 g.f.id,.str (bI g.f.own),.i64 g.f.sec,.i64 g.f.nano,.i64 g.f.ac])(e9:K q=none)
  (E:ah H Nn=bK [.str (g.key 1),.str (g.key 0)]) {t:List (Nat×V)}
  (h0:lookS t 0= .ptr c.d 0) (b0:lookS t 10= .i64 0) (b2:lookS t 14= .ptr q 0) (F:lookS t 16= .ptr c.ps[i] 0) (b3:lookS t 17= .u32 g.cg) (b4:lookS t 18= .str g.text) (b5:lookS t 19= .ptr Nn 0) {r0 r1 r2 s3 s5 b6 c0 c1 c3 c4 c5 c6 c7 G:Code}
  (hc:f69.body=some (.seq r0 (.seq r1 (.seq r2 (.seq s3 (.seq s5 (.seq b6 (.seq c0 (.seq c1 (.seq c3 (.seq c4 (.seq c5 (.seq c6 (.seq c7 G))))))))))))))
  (hR:R=(0,{N with D:=N.D.goes P.at_ (P.gU N.D.now g.text),Ps:=N.Ps.set i {P with ne:=some (aX.fresh g.f.su g.cg g.f.id (g.key 1) (g.key 0) N.D.now false)}})):
  vc prog H0.length f69.ntmps G (gV prog f69 (Ex K0 H0 (qD j) fun v K' H'=>v= .i64 R.1/\bB K' H' j c R.2)) ⟨t,H⟩:=by
 obtain⟨out,aT,hD⟩:=hN.dev;obtain⟨tm,wv,bg,ol,se,ne,B⟩:=hN.peer i hi a7;rw[a8] at B;have k:=hd.now;have L:=hD.g;have c8:=B.gp;unfold au.cs at L;unfold aj.cs at c8;generalize c9:c.ps[i]=p at*;have e0:=C.lt B.kp;have e1:=C.lt hD.kd;have e2:=b8 hq;have e3:=b8 E;have h1:p≠c.d:=fun e=>by have :=B.kp;rw[e,hD.kd] at this;cases this
 simp only[f69,eg,mJ] at hc;obtain⟨-,-,-,-,-,-,-,-,-,-,-,-,-,rfl⟩:=hc;refine ce ?_;refine d8 b0 ?_
 simp only[go_sem,seval,h0,b2,F,b3,b5,hq,E,L];refine aF ?_
 refine gh (Qw C g.f.su x.f.su (g.key 1) (g.key 0) (g.rT x ag) (g.rT x ag) N.D.now k.1 k.2 false g.cg g.f.id j i) U rfl bT C.bD ?_;rintro _ K1 H1 s h3 ⟨a6,q6,w6,rfl,X,Y⟩;have l:=C.call s fun _ h=>h.elim
 have e4:=hN.eH s;have a:=B.eH s.off;have e5:=hD.eH s.off;have M:=a.gp;unfold aj.cs at M;have w:=l.lt a.kp;have O:∀ {v:V} {o:Option aX},cM K H j i v o->fK v (.ptr a6 0):=fun h=>cM.apart C h X
 obtain⟨l1,l2,l3,l4,l5,l6,l7⟩:=aj.low (l.bD _ _ a.gp).1 (bz _);obtain⟨c2,u⟩:=a.di l (P':={P with ne:=some (aX.fresh g.f.su g.cg g.f.id (g.key 1) (g.key 0) N.D.now false)}) (bg':=bg) (ol':=ol) (se':=se) (ne':= .ptr a6 0) rfl rfl a.sW a.pP a.kP ⟨a6,q6,w6,rfl,Y⟩ a.d1 (O B.pP) (O B.kP) ⟨l4,l5,l6,l.lt Y.ka,trivial⟩;have y:=c2.mono (Q2:=qP j i) fun r h=>by subst h;exact⟨rfl,rfl⟩
 have m:=l.call c2 fun r h=>by subst h;exact rfl
 have z:=e5.off c2.off J J J J;unfold aj.cs at c2 u y m z;dsimp only at c2 u y m z;refine Kd M w F b4 ?_
 refine And.intro ?_ ?_
 .refine jg (jY H.length) [([],[]),([],[]),([0],[]),([0],[]),([],[]),([],[]),([],[]),([0],[]),([],[]),([],[]),([0],[]),([0,1],[1]),([],[]),([],[]),([0],[0])] U (by simp only[jA,jy,cv,rN,all_cons,vM,iY,C6,iN e0,iN e1,iN e2,iN e3,j6,gG])
 have T:({P with ne:=some (aX.fresh g.f.su g.cg g.f.id (g.key 1) (g.key 0) N.D.now false)}:aj).ok:=⟨b.q,b.aP,b.aR,b.kn,b.bP,b.ck,b.un,b.wl,b.ws,b.bg,b.bt,b.ol,b.se,fun S e=>by
  cases e;exact⟨x.f.su,g.rT x ag,g.rT x ag,k,by show(0:Int)<=0/\(0:Int)<=1000;omega,by show(0:Int)<=0/\(0:Int)<=1099511627777;omega⟩,b.tm⟩
 refine cQ (X5 m z u T g.text (by rw[(g.facts x).1];decide) (by have :=hd.out;omega)) U rfl (by simp[lows,V.low,w]) m.bD ?_;rintro _ K3 H3 A h4 ⟨rfl,e8⟩;refine aH ?_;have e6:=u.HD A.off;have e7:=y.call A Fe;subst hR;refine Ex.of (m.call A fun r h=>xv (i:=i) _ (Fe _ h)) trivial ⟨rfl,?_⟩;exact e4.one e7 e8 hi (by rw[c9];exact⟨_,_,_,_,_,_,e6⟩)
theorem adA (T:Cx K0 H0 (qD j) K H)(hN:bB K H j c N)(hi:i<c.ps.length)(X:i<N.Ps.length)(c7:N.Ps[i]=P)(b:P.ok)(a:N.D.ok n)(hn:n<=900000000)(hf:f.ok)(hq:ah H q=bK [.i64 f.su,.u32 f.id,.str (bI f.own),.i64 f.sec,.i64 f.nano,.i64 f.ac])(k:K q=none)
  {m:Nat} (hh:ah H m=bK (zR f)) (u:K m=none) (j4:m≠q) {fr:aQ} {t:List (Nat×V)}
  (h0:lookS t 0= .ptr c.d 0) (h1:lookS t 1= .u32 fr) (Y:lookS t 14= .ptr q 0) (c8:lookS t 15= .ptr m 0) (B:lookS t 16= .ptr c.ps[i] 0) {r0 r1 r2 s3 s5 c9 e1 e2 e3 e4 a6:Code}
  (hc:f69.body=some (.seq r0 (.seq r1 (.seq r2 (.seq s3 (.seq s5 (.seq c9 (.seq e1 (.seq e2 (.seq e3 (.seq e4 a6))))))))))) (hm:H0.length<=H.length)
  (hR:R=(0,{N with D:=(qZ N.D P f fr).1,Ps:=N.Ps.set i (qZ N.D P f fr).2})):
  GP prog H0.length f69.ntmps a6 (gV prog f69 (Ex K0 H0 (qD j) fun v K' H'=>v= .i64 R.1/\bB K' H' j c R.2)) ⟨t,H⟩:=by
 obtain⟨out,aT,hD⟩:=hN.dev;obtain⟨tm,wv,bg,ol,se,ne,z⟩:=hN.peer i hi X;rw[c7] at z;have a7:=z.gp;unfold aj.cs at a7;generalize a8:c.ps[i]=p at*;have C:=T.lt z.kp;have k3:=T.lt hD.kd;have e5:=b8 hq;have e6:p≠q:=fun e=>by have :=z.kp;rw[e,k] at this;cases this
 have k4:c.d≠q:=fun e=>by have :=hD.kd;rw[e,k] at this;cases this
 have k5:p≠c.d:=fun e=>by have :=z.kp;rw[e,hD.kd] at this;cases this
 have k6:p≠m:=fun e=>by have :=z.kp;rw[e,u] at this;cases this
 simp only[f69,eg,mJ] at hc;obtain⟨-,-,-,-,-,-,-,-,-,-,rfl⟩:=hc;refine qX U hm (ce ?_);simp only[go_sem,seval,h1,Y,B,hq,a7,dr C,b7,C,nC,cC];refine aF ?_
 refine And.intro ?_ ?_
 .refine jg (mL q H.length) [([],[]),([],[]),([],[]),([],[]),([],[]),([2],[]),([],[]),([2],[]),([],[]),([],[]),([],[]),([0],[0]),([],[]),([],[]),([0],[0]),([],[]),([],[]),([0],[0]),([],[]),([],[]),([0],[0])] U (by simp only[jA,jy,cv,all_cons,B4,uX C e6,aeO,j6,gG])
 obtain⟨S,A⟩:=z.set T (P':={P with dV:=true,sec:=f.sec,nano:=f.nano,kn:=f.ac,at_:=fr}) (wv':=wv) z.pf (aj.low (T.bD _ _ z.gp).1 (bz _)).2.2.1 rfl rfl rfl rfl rfl rfl;have E:=S.mono (Q2:=qP j i) fun r h=>by subst h;exact⟨rfl,rfl⟩
 have l:=T.call S fun r h=>by subst h;exact rfl
 have o:=hD.off S.off J J J J;have F:=hN.one E ⟨_,_,o⟩ hi (by rw[a8];exact⟨_,_,_,_,_,_,A⟩);have w:=(S.mQ k e5).trans hq;have y:=(S.mQ u (b8 hh)).trans hh;have b0:(H.set p (bK (({P with dV:=true,sec:=f.sec,nano:=f.nano,kn:=f.ac,at_:=fr}:aj).cs c.d tm wv bg ol se ne))).length=H.length:=b7;unfold aj.cs at S A E l o F w y b0;dsimp only at S A E l o F w y b0;generalize H.set p (bK [.ptr c.d 0,.ptr tm 0,.i64 P.num,.str P.aP,.str P.aR,.u32 fr,.i64 f.ac,.i64 P.bP,.bool true,.i64 f.sec,.i64 f.nano,.str P.ck,.i64 P.un,wv,bg,.u32 P.bi,.str P.bt,ol,se,ne])=M at*;intro l0;have b2:=b8 w;refine qX U (by show H0.length<=M.length;omega) (ce ?_);refine d8 h0 ?_
 refine cQ (LZ l o) U rfl (by simp[lows,V.low,l.lt o.kd]) l.bD ?_;rintro _ K2 H2 s l4 ⟨rfl,rfl,c6⟩;have b3:=l.call s fun r h=>by subst h;exact rfl
 have e7:=F.Kl s ⟨_,_,c6⟩;have e8:=A.off s.off J J J J J J;have b4:=(s.mQ k b2).trans w;have e9:=(s.mQ u (b8 y)).trans y;have b5:=b8 b4;refine aH ?_;intro h7;have h3:({N.D with index:=N.D.index+1#32}:au).ok n:=⟨a.own,a.aP,a.af,a.ac,a.cz,a.now,a.ct,a.out,a.aT⟩;refine C2 (K:=fun s'=>H0.length<=s'.H.length->GP _ _ _ _ _ s') (XC b3 c6 h3 e8 b.aR hf e9 u (N.D.index+1#32) (t:=_) ?_ ?_ ?_ ?_ (hc:=rfl) h7 ?_) fun s' q1 q2=>q2 q1
 .simp only[go_sem,seval,h0]
 .simp only[go_sem,seval,c8]
 .simp only[go_sem,seval,B]
 .simp only[go_sem,seval]
 intro N3 H3 t1 G h8 j3 L hk h9 O j1 j2;have h4:=b3.call G fun r h=>by subst h;exact rfl
 have b6:=e7.Kl G ⟨_,_,h8⟩;have h5:=(G.mQ k b5).trans b4;have e0:=hk 0 ag ag ag ag;have c0:=hk 14 ag ag ag ag;have c2:=hk 16 ag ag ag ag;have c3:=hk 17 ag ag ag ag;simp only[go_sem,seval,h0,Y,B] at e0 c0 c2 c3;have eK:∀ (x:aQ),au.dR {N.D with index:=x}=N.D.dR:=fun x=>rfl
 dsimp only at L O b6;rw[eK] at L O;have h6:cm.ok ⟨f,P.aR,N.D.dR,N.D.ac,N.D.index+1#32⟩:=⟨hf,b.aR,(N.D.sP a.af).2,a.ac⟩;have c4:({N.D with index:=N.D.index+1#32,fresh:=N.D.fresh+1#64}:au).ok n:=⟨a.own,a.aP,a.af,a.ac,a.cz,a.now,a.ct,a.out,a.aT⟩;have c5:({P with dV:=true,sec:=f.sec,nano:=f.nano,kn:=f.ac,at_:=fr}:aj).ok:=⟨b.q,b.aP,b.aR,hf.ac,b.bP,b.ck,b.un,b.wl,b.ws,b.bg,b.bt,b.ol,b.se,b.ne,b.tm⟩;refine zx U j2 (Yw (g:=⟨f,P.aR,N.D.dR,N.D.ac,N.D.index+1#32⟩) (P:={P with dV:=true,sec:=f.sec,nano:=f.nano,kn:=f.ac,at_:=fr}) h4 b6 hi (by show i<(N.Ps.set i _).length;rw[b7];exact X) (uO ..) c5 c4 hn h6 h5 k L e0 h9 c0 (by rw[c2,a8]) c3 O j1 (hc:=rfl) ?_);subst hR;unfold qZ n7;dsimp only;rw[nC];rfl
end
end
section
section
variable {K K0 K':RK}{H H0 H':aU}{Q0 Q:Rl->Prop}{j i d p tm n W q Nn:Nat}{P P':aj}{D D':au}{f:bL}{g:cm}{c:cR}{N:bf}{R:Int×bf}
noncomputable def FT (N:bf) (f:bL) (fr:aQ):Int×bf:=if N.D.ac<f.su then(5,N)
 else match N.Ps.findIdx? (fun P=>decide (P.aP=bI f.own)) with
  |none=>(7,N)
  |some i=>match N.Ps[i]? with
   |none=>(7,N)
   |some P=>if P.dV=true/\¬ later f.sec f.nano P.sec P.nano then(11,N)
    else if f.su<P.bP then(10,N)
    else(0,{N with D:=(qZ N.D P f fr).1,Ps:=N.Ps.set i (qZ N.D P f fr).2})
theorem abV (B:Cx K0 H0 (qD j) K H)(C:bB K H j c N)(ho:N.ok n)(hn:n<=900000000)(T:N.Ps.length<=8)(hf:f.ok)(z:ah H q=bK [.i64 f.su,.u32 f.id,.str (bI f.own),.i64 f.sec,.i64 f.nano,.i64 f.ac])(F:K q=none)
  {m:Nat} (hh:ah H m=bK (zR f)) (X:K m=none) (Y:m≠q) {fr:aQ} {t:List (Nat×V)}
  (h0:lookS t 0= .ptr c.d 0) (h1:lookS t 1= .u32 fr) (l:lookS t 14= .ptr q 0) (G:lookS t 15= .ptr m 0) {r0 r1 r2 s3 s5 a6 a7 a8 L:Code}
  (hc:f69.body=some (.seq r0 (.seq r1 (.seq r2 (.seq s3 (.seq s5 (.seq a6 (.seq a7 (.seq a8 L))))))))) (hm:H0.length<=H.length) (a:FT N f fr=R):
  GP prog H0.length f69.ntmps L (gV prog f69 (Ex K0 H0 (qD j) fun v K' H'=>v= .i64 R.1/\bB K' H' j c R.2)) ⟨t,H⟩:=by
 obtain⟨e2,aT,hD⟩:=C.dev;have hg:=hD.g;unfold au.cs at hg;have b0:=B.lt hD.kd;have c3:=b8 z;have c1:=C.len;have c2:=hf.su;simp only[f69,eg,mJ] at hc;obtain⟨-,-,-,-,-,-,-,-,rfl⟩:=hc;have b:∀ (t:List (Nat×V)) (e:Int),R=(e,N)->Ex K0 H0 (qD j) (fun v K' H'=>v= .i64 R.1/\bB K' H' j c R.2) (.i64 e) ⟨t,H⟩:=fun t e h=>by subst h;exact Ex.of (s:=⟨t,H⟩) B trivial ⟨rfl,C⟩
 unfold FT at a;refine qX U hm (ce ?_);refine qA h0 l z ?_
 refine cQ (MK B C T (bI f.own)) U rfl (by simp[lows,V.low,b0]) B.bD ?_;rintro _ K1 H1 c8 c9 ⟨rfl,rfl,rfl⟩;generalize b2:N.Ps.findIdx? (fun P=>decide (P.aP=bI f.own))=fi at*;cases fi with
 |none=>
  simp only[go_sem,seval,rY];intro A;refine qX U A (ce ?_);refine sh h0 l z hg ?_;refine aE ?_
  by_cases k:N.D.ac<f.su
  .rw[aM k] at a;refine g9 k ?_;exact b _ _ a.symm
  .rw[aq k] at a;refine g9 k ?_;refine aE ?_
   exact b _ _ a.symm
 |some i=>
 have x:i<N.Ps.length:=(ub.1 b2).1;have hi:i<c.ps.length:=I;rw[uh hi];have M:=ho.Ps _ (eM x);obtain⟨tm,wv,bg,ol,se,ne,S⟩:=C.peer i hi x;dsimp only at a;rw[bn x] at a;dsimp only at a;have c4:N.Ps[i]=N.Ps[i]:=rfl;generalize b3:N.Ps[i]=P at S a M;have o:=S.gp;unfold aj.cs at o;generalize b4:c.ps[i]=p at*;have c5:=B.lt S.kp;have c6:p≠q:=fun e=>by have :=S.kp;rw[e,F] at this;cases this
 have c7:p≠c.d:=fun e=>by have :=S.kp;rw[e,hD.kd] at this;cases this
 refine aH ?_;intro A;refine qX U A (ce ?_);refine sh h0 l z hg ?_;refine aE ?_
 by_cases k:N.D.ac<f.su
 .rw[aM k] at a;refine g9 k ?_;exact b _ _ a.symm
 rw[aq k] at a;refine Ft l k o ?_;refine aE ?_
 have r:¬ f.su<P.bP->¬ (P.dV=true/\¬ later f.sec f.nano P.sec P.nano)->∀ (E:List (Nat×V)),lookS E 0= .ptr c.d 0->lookS E 1= .u32 fr->lookS E 14= .ptr q 0->lookS E 15= .ptr m 0->lookS E 16= .ptr p 0->_->_:=fun O hl E e0 e1 b5 b6 c0 w=>
  adA (R:=R) B C hi x b3 M ho.D hn hf z F hh X Y e0 e1 b5 b6 (by rw[c0,b4]) (hc:=rfl) w (by rw[aq hl,aq O] at a;exact a.symm)
 cases hst:P.dV
 .simp only[go_sem,seval,l,z,o,hst];refine aE ?_
  have u:¬ (P.dV=true/\¬ later f.sec f.nano P.sec P.nano):=by rw[hst];simp
  rw[aq u] at a;split
  .rename_i h;rw[aM (by simpa using h)] at a;exact b _ _ a.symm
  .rename_i h;have O:¬ f.su<P.bP:=by simpa using h
   refine fun w=>r O u _ ?_ ?_ ?_ ?_ ?_ w<;>simp only[go_sem,seval,h0,h1,l,G]
 .simp only[go_sem,seval,z,o,hst];refine aE ?_
  refine bZ (ZM f.sec f.nano P.sec P.nano) (aG ?_)
  by_cases y:later f.sec f.nano P.sec P.nano
  rotate_left
  .rw[aM ⟨hst,y⟩] at a;simp only[go_sem,seval,y,cr,yh];refine aE ?_
   exact b _ _ a.symm
  .have u:¬ (P.dV=true/\¬ later f.sec f.nano P.sec P.nano):=fun h=>h.2 y
   rw[aq u] at a;simp only[go_sem,seval,l,z,o,hst,y,cE,oH];refine aE ?_
   split
   .rename_i h;rw[aM (by simpa using h)] at a;exact b _ _ a.symm
   .rename_i h;have O:¬ f.su<P.bP:=by simpa using h
    refine fun w=>r O u _ ?_ ?_ ?_ ?_ ?_ w<;>simp only[go_sem,seval,h0,h1,l,G]
end
end
section
section
variable {K K0 K':RK}{H H0 H':aU}{Q0 Q:Rl->Prop}{j i d p tm n W q Nn:Nat}{P P':aj}{D D':au}{f:bL}{g:cm}{c:cR}{N:bf}{R:Int×bf}
theorem abG {r:Program}{a:FuncId}{args:List V}{fn:Func}{b:Code}{Q:Rl->Prop}{Post:V->RK->aU->Prop}(s:r.funcs[a]?=some fn)(h:fn.body=some b)(k:args.length<=fn.ntmps)
  (l:GP r H.length fn.ntmps b (gV r fn (Ex K H Q Post)) ⟨jX args 0,H⟩):∃ v K' H',Dx r a args K H Q v K' H'/\Post v K' H':=by
 obtain⟨e,t,u,w,m⟩:=l;obtain⟨v,⟨K',x,y,z⟩,A⟩:=Qk w;refine⟨v,K',t.H,⟨DB s h k (Hp m ?_),x,y⟩,z⟩;rintro _ _ ⟨rfl,rfl⟩;exact EJ (fun B C o=>by obtain⟨rfl,rfl⟩:=o;exact Fin.id u) A
noncomputable def BI (N:bf) (f:bL) (fr:aQ):Int×bf:=
 if ¬ (jN N.B fr N.D.now).1=0 then((jN N.B fr N.D.now).1,{N with B:=(jN N.B fr N.D.now).2}) else FT {N with B:=(jN N.B fr N.D.now).2} f fr
theorem Qf (o:Cx K0 H0 (qD j) K H)(L:bB K H j c N)(s:N.ok n)(hn:n<=900000000)(O:N.Ps.length<=8)(hf:f.ok)(S:f.q=N.D.own){fr:aQ}{t:List (Nat×V)}
  (h0:lookS t 0= .ptr c.d 0) (h1:lookS t 1= .u32 fr) (h8:lookS t 8= .str f.text) {r0 r1 r2 s3 s5 u:Code}
  (hc:f69.body=some (.seq r0 (.seq r1 (.seq r2 (.seq s3 (.seq s5 u)))))) (hm:H0.length<=H.length) (l:BI N f fr=R):
  GP prog H0.length f69.ntmps u (gV prog f69 (Ex K0 H0 (qD j) fun v K' H'=>v= .i64 R.1/\bB K' H' j c R.2)) ⟨t,H⟩:=by
 obtain⟨c8,aT,hD⟩:=L.dev;have hg:=hD.g;unfold au.cs at hg;have c2:=o.lt hD.kd;simp only[f69,eg,mJ] at hc;obtain⟨-,-,-,-,-,rfl⟩:=hc;unfold BI at l;have hT:=aez o L.mX s.B fr N.D.now;have w:=OB s.B fr N.D.now;generalize jN N.B fr N.D.now=T at*;obtain⟨e1,B1⟩:=T;dsimp only at hT w l;refine qX U hm (ce ?_);refine qA h0 h1 hg ?_
 have X:c.bk<H.length:=by obtain⟨_,kb,-⟩:=L.mX;exact o.lt kb
 refine gh (hT) U rfl (by simp[lows,V.low,X]) o.bD ?_;rintro _ K1 H1 k c4 ⟨rfl,rfl,b6⟩;have z:=L.acu k b6;have a:=o.call k fun r h=>by rcases h with rfl|rfl<;>exact rfl
 refine aK ?_
 by_cases b:e1=0
 rotate_left
 .rw[aM b] at l;subst l;refine g9 b ?_;exact Ex.of a trivial ⟨rfl,z⟩
 rw[aq (by simp[b])] at l;refine g9 b ?_;intro c0;have A:=hD.off k.off J J J J;have C:=A.g;unfold au.cs at C;have c1:=a.lt A.kd;refine qX U c0 (ce ?_);refine qA h0 h8 C ?_
 have E:=afN a hf;rw[S] at E;refine cQ (E) U rfl bT a.bD ?_;rintro _ K3 m F c5 ⟨hb,rfl,rfl,rfl,G⟩;have e:=a.call F fun _ h=>h.elim
 have Y:=z.eH F;have a6:=a.fresh _ (bz _);refine aK ?_
 have a7:=b8 G;have a8:=(e.start (fun _=>False)).boxed (zs:=[.i64 0,.u32 0#32,.str [],.i64 0,.i64 0,.i64 0]) (ys:=[.i64 f.su,.u32 f.id,.str (bI f.own),.i64 f.sec,.i64 f.nano,.i64 f.ac]) bT bT;have b0:=e.boxed (zs:=[.i64 0,.u32 0#32,.str [],.i64 0,.i64 0,.i64 0]) (ys:=[.i64 f.su,.u32 f.id,.str (bI f.own),.i64 f.sec,.i64 f.nano,.i64 f.ac]) bT bT;have b2:=(pz (x:=bK [.i64 0,.u32 0#32,.str [],.i64 0,.i64 0,.i64 0]) (y:=bK [.i64 f.su,.u32 f.id,.str (bI f.own),.i64 f.sec,.i64 f.nano,.i64 f.ac]) a7).trans G;have b3:=pM (H:=m) (x:=bK [.i64 0,.u32 0#32,.str [],.i64 0,.i64 0,.i64 0]) (y:=bK [.i64 f.su,.u32 f.id,.str (bI f.own),.i64 f.sec,.i64 f.nano,.i64 f.ac]);have c3:((m++[bK [.i64 0,.u32 0#32,.str [],.i64 0,.i64 0,.i64 0]]).set m.length (bK [.i64 f.su,.u32 f.id,.str (bI f.own),.i64 f.sec,.i64 f.nano,.i64 f.ac])).length=m.length+1:=J;generalize ((m++[bK [.i64 0,.u32 0#32,.str [],.i64 0,.i64 0,.i64 0]]).set m.length (bK [.i64 f.su,.u32 f.id,.str (bI f.own),.i64 f.sec,.i64 f.nano,.i64 f.ac]))=M at*;intro c6;have b4:=e.fresh _ (bz _);have b5:=Y.eH a8;refine qX U (by show H0.length<=M.length;omega) (ce ?_);refine aH ?_;intro c7;exact abV (R:=R) (fr:=fr) b0 b5 ⟨s.D,s.Ps,w,s.num⟩ hn O hf b3 b4 b2 a6 I (by simp only[go_sem,seval,h0]) (by simp only[go_sem,seval,h1]) aky aky (hc:=rfl) (by show H0.length<=M.length;omega) l
theorem ajt (N:bf)(f:bL)(m:Z)(fr:aQ):ov N f m fr=if N.D.busy=true/\¬ jV (fS N.D.cz fr N.D.now) (f.text++cY N.D.aP f.text) 16=m then
  (14,{N with D:=({N.D with fresh:=N.D.fresh+1#64}:au).goes fr (gd N.D.aP (N.D.dR.take 24) (fS N.D.cz fr N.D.now) f.text (cY N.D.aP f.text))}) else BI N f fr:=by
 unfold ov BI FT;rfl
theorem afa (z:Cx K0 H0 Q0 K H)(S:bB K H j c N)(u:N.ok n)(hn:n<=900000000)(A:N.Ps.length<=8)(Y:f.ok)(B:f.q=N.D.own)(m:Z)(o:m.length=16)(fr:aQ):
  ∃ v K' H',Dx prog 69 [.ptr c.d 0,.u32 fr,.str (f.text++cY N.D.aP f.text++m)] K H (qD j) v K' H'/\(v= .i64 (ov N f m fr).1/\bB K' H' j c (ov N f m fr).2):=by
 obtain⟨out,aT,X⟩:=S.dev;have hg:=X.g;unfold au.cs at hg;have a6:=z.lt X.kd;have a7:N.D.aP.length=32:=by rw[u.D.aP,fa]
 have c5:=bL.w9 Y;have a8:=Ap N.D.aP f.text I I;have C:=DI fr N.D.now u.D.cz;have b0:=Mp N.D.aP (fS N.D.cz fr N.D.now) f.text m a7 C I o;have b2:=Q7 z X u.D fr;generalize a:ov N f m fr=R;rw[ajt] at a;have b3:=fun(t:List (Nat×V))=>aj1 (K0:=K) (H0:=H) (Q:=qD j) (t:=t) (z.start (qD j)) X u.D f.text (cY N.D.aP f.text) m I I a8 o (fS N.D.cz fr N.D.now) C
 generalize E:decide (jV (fS N.D.cz fr N.D.now) (f.text++cY N.D.aP f.text) 16=m)=T at*;generalize gd N.D.aP (N.D.dR.take 24) (fS N.D.cz fr N.D.now) f.text (cY N.D.aP f.text)=rp at*;have e:(¬ jV (fS N.D.cz fr N.D.now) (f.text++cY N.D.aP f.text) 16=m)↔T=false:=by rw[<-E];simp
 have s:(N.D.busy=true/\T=false->R=(14,{N with D:=({N.D with fresh:=N.D.fresh+1#64}:au).goes fr rp}))/\(¬ (N.D.busy=true/\T=false)->BI N f fr=R):=
  ⟨fun h=>by rw[aM ⟨h.1,e.2 h.2⟩] at a;exact a.symm,fun h=>by rw[aq (fun h2=>h ⟨h2.1,e.1 h2.2⟩)] at a;exact a⟩
 clear E e a;generalize f.text++cY N.D.aP f.text++m=c6 at*;generalize fS N.D.cz fr N.D.now=ck at*;have w:=z.start (qD j);refine abG (Q:=qD j) (Post:=fun v K' H'=>v= .i64 R.1/\bB K' H' j c R.2) func69 rfl db ?_;refine qX U (bz _) (ce (aH ?_));intro _;refine qX U (bz _) (ce (aK ?_))
 refine cQ (b2) U rfl (by simp[lows,V.low,a6]) z.bD ?_;rintro _ K1 H1 c7 c8 ⟨rfl,rfl,rfl⟩;refine aH ?_;intro c9;refine qX U (bz _) (ce ?_);refine d8 hg ?_
 refine br (b0) (aH ?_);intro e2;refine qX U (bz _) (ce ?_);refine dv ?_;intro e3;refine C2 (K:=fun k=>H1.length<=k.H.length->GP _ _ _ _ _ k) ?_ (fun k F G=>G F);refine qX U (bz _) (ce ?_);refine d8 hg ?_
 have hB:=s.2;cases hbu:N.D.busy
 .refine dv ?_;intro L;refine Kk (b:=false) aky (zx U (bz _) ?_);simp only[fh,fH];refine ce ?_;simp only[go_sem];intro x;exact Qf (R:=R) (fr:=fr) w S u hn A Y B aky aky aky (hc:=rfl) (bz _) (hB (by rw[hbu];simp))
 cases T
 rotate_left
 .refine dv ?_;intro L;refine Kk (b:=false) aky (zx U (bz _) ?_);simp only[fh,fH];refine ce ?_;simp only[go_sem];intro x;exact Qf (R:=R) (fr:=fr) w S u hn A Y B aky aky aky (hc:=rfl) (bz _) (hB J)
 have b4:=s.1 ⟨hbu,rfl⟩;subst b4;simp only[go_sem,seval,yh];intro L;refine Kk (b:=true) aky ?_;simp only[eJ];refine C2 (K:=fun k=>H1.length<=k.H.length->GP _ _ _ _ _ k) ?_ (fun k F G=>G F);refine C2 (K:=fun k=>H1.length<=k.H.length->GP _ _ _ _ _ k) ?_ (fun k F G=>G F);refine b3 _ aky aky aky (hc:=rfl) (bz _) ?_;intro H2 t1 M y e0 e1 c1 c2 x;have b5:=S.Kl M ⟨_,_,y⟩;simp only[go_sem,seval] at e1;refine zx U x (ce ?_);refine Kd e0 e1 c1 c2 ?_
 have l:=w.call M fun r h=>by subst h;exact rfl
 refine cQ (Fo l y fr rp (by have :=u.D.out;show N.D.out.length<=_;omega)) U rfl (by simp[lows,V.low,l.lt y.kd]) l.bD ?_;rintro _ K7 H7 O e4 ⟨rfl,c3⟩;have b6:=b5.BU O c3;have c0:=l.call O fun r h=>xv (i:=0) _ (Fe _ h)
 simp only[go_sem];intro c4;refine zx U c4 (ce (aH ?_));exact Ex.of c0 trivial ⟨rfl,b6⟩
end
end
section
inductive bW where
 |first(f:bL) (aP m:Z)
 |second (g:cm) (aP m:Z)
 |gI (u nonce ck x b:Z) (id:aQ)
 |data (id:aQ) (k:Int) (z:Z)
noncomputable def bW.text:bW->Z
 | .first f aP m=>f.text++cY aP f.text++m
 | .second g aP m=>g.text++cY aP g.text++m
 | .gI u a d x b _=>gd u a d x b
 | .data e k z=>eI e k z
def bW.fits (N:bf):bW->Prop
 | .first f aP m=>f.ok/\f.q=N.D.own/\aP=N.D.aP/\m.length=16
 | .second g aP m=>g.ok/\aP=N.D.aP/\m.length=16/\∀ i P,N.Ps.findIdx? (iO g.f.id)=some i->N.Ps[i]?=some P->P.bg=some g.f/\P.aR=g.aR
 | .gI u e h x b id=>u.length=32/\e.length=24/\h.length=16/\6<=x.length/\x.length<=1000000/\b.length=16/\List.drop 2 (List.take 6 x)=gA id/\∀ i P,N.Ps.findIdx? (iO id)=some i->N.Ps[i]?=some P->P.aP=u/\∃ m:Z,m.length=16/\P.bt=x++b++m
 | .data _ k z=>(0<=k/\k<=1099511627776)/\16<=z.length/\z.length<=1000000
noncomputable def mB (N:bf) (F:aQ->Int×Bool) (fr:aQ):bW->Int×bf
 | .first f _ m=>ov N f m fr
 | .second g _ _=>mC N g fr
 | .gI _ _ b _ _ a=>oK N a b
 | .data a k z=>mH N F a k z fr
section
variable {K K0 K':RK}{H H0 H':aU}{Q0 Q:Rl->Prop}{j n:Nat}{c:cR}{N:bf}
theorem ajL (hC:Cx K0 H0 Q0 K H)(hN:bB K H j c N)(L:N.ok n)(P:n<=900000000)(A:N.Ps.length<=8)(M:bW)(hM:M.fits N)(fr:aQ):
  ∃ v K' H',Dx prog 50 [.ptr c.d 0,.u32 fr,.str M.text] K H (qD j) v K' H'/\(v= .i64 (mB N c.F fr M).1/\bB K' H' j c (mB N c.F fr M).2):=by
 have a6:c.d<H.length:=by obtain⟨_,_,hD⟩:=hN.dev;exact hC.lt hD.kd
 have t:=(hC.start (fun _=>False)).boxed (zs:=[.ff,.ff,.ff,.ff,.ff]) (ys:=[.ff,.fn 69 [] [],.fn 70 [] [],.fn 71 [] [],.fn 72 [] []]) bT bT;have a7:((H++[bK [.ff,.ff,.ff,.ff,.ff]]).set H.length (bK [.ff,.fn 69 [] [],.fn 70 [] [],.fn 71 [] [],.fn 72 [] []])).length=H.length+1:=J;have B:=hN.eH t;have s:c.d<H.length+1:=I;have O:=t.mono (Q2:=qD j) fun _ h=>h.elim
 match M,hM with
 | .first f aP m,⟨hf,R,E,S⟩=>
  subst E;have o:((f.text++cY N.D.aP f.text++m).getD 0 0).toNat=1:=rfl;have i:f.text++cY N.D.aP f.text++m≠[]:=fun e=>by rw[e] at o;cases o
  have p:(0:Int)<(f.text++cY N.D.aP f.text++m).length:=by have :=uS.2 i;omega
  have C:=afa t B L P A hf R m S fr;show ∃ v K' H',Dx prog 50 [.ptr c.d 0,.u32 fr,.str (f.text++cY N.D.aP f.text++m)] K H (qD j) v K' H'/\(v= .i64 (ov N f m fr).1/\bB K' H' j c (ov N f m fr).2);generalize f.text++cY N.D.aP f.text++m=x at*;refine ar (Q:=qD j) (Post:=fun v K' H'=>v= .i64 (ov N f m fr).1/\bB K' H' j c (ov N f m fr).2) func50 ?_;refine qc3 i ?_
  refine qc7 p o @pM ?_
  refine cQ (C) U rfl (by simp[lows,V.low,s]) t.bD ?_;rintro _ T W q G ⟨rfl,r⟩;refine qc0 ?_;exact Ex.of (O.call q fun _ h=>h) trivial ⟨rfl,r⟩
 | .second g aP m,⟨hg,E,S,X⟩=>
  subst E;have o:((g.text++cY N.D.aP g.text++m).getD 0 0).toNat=2:=rfl;have i:g.text++cY N.D.aP g.text++m≠[]:=fun e=>by rw[e] at o;cases o
  have p:(0:Int)<(g.text++cY N.D.aP g.text++m).length:=by have :=uS.2 i;omega
  have C:=Yy t B L P A hg m S fr X;show ∃ v K' H',Dx prog 50 [.ptr c.d 0,.u32 fr,.str (g.text++cY N.D.aP g.text++m)] K H (qD j) v K' H'/\(v= .i64 (mC N g fr).1/\bB K' H' j c (mC N g fr).2);generalize g.text++cY N.D.aP g.text++m=x at*;refine ar (Q:=qD j) (Post:=fun v K' H'=>v= .i64 (mC N g fr).1/\bB K' H' j c (mC N g fr).2) func50 ?_;refine qc3 i ?_
  refine qc7 p o @pM ?_
  refine cQ (C) U rfl (by simp[lows,V.low,s]) t.bD ?_;rintro _ T W q G ⟨rfl,r⟩;refine qc0 ?_;exact Ex.of (O.call q fun _ h=>h) trivial ⟨rfl,r⟩
 | .gI u a w x b l,⟨Y,h2,h3,h4,h5,h6,h7,h8⟩=>
  have o:((gd u a w x b).getD 0 0).toNat=3:=rfl;have i:gd u a w x b≠[]:=fun e=>by rw[e] at o;cases o
  have p:(0:Int)<(gd u a w x b).length:=by have :=uS.2 i;omega
  have C:=ahI t B L A u a w x b Y h2 h3 h4 h5 h6 l h7 fr h8;show ∃ v K' H',Dx prog 50 [.ptr c.d 0,.u32 fr,.str (gd u a w x b)] K H (qD j) v K' H'/\(v= .i64 (oK N l w).1/\bB K' H' j c (oK N l w).2);generalize gd u a w x b=y at*;refine ar (Q:=qD j) (Post:=fun v K' H'=>v= .i64 (oK N l w).1/\bB K' H' j c (oK N l w).2) func50 ?_;refine qc3 i ?_
  refine qc7 p o @pM ?_
  refine cQ (C) U rfl (by simp[lows,V.low,s]) t.bD ?_;rintro _ T W q G ⟨rfl,r⟩;refine qc0 ?_;exact Ex.of (O.call q fun _ h=>h) trivial ⟨rfl,r⟩
 | .data l k z,⟨Y,h2,h3⟩=>
  have o:((eI l k z).getD 0 0).toNat=4:=rfl;have i:eI l k z≠[]:=fun e=>by rw[e] at o;cases o
  have p:(0:Int)<(eI l k z).length:=by have :=uS.2 i;omega
  have C:=abw t B L P A l k Y z ⟨h2,h3⟩ fr;show ∃ v K' H',Dx prog 50 [.ptr c.d 0,.u32 fr,.str (eI l k z)] K H (qD j) v K' H'/\(v= .i64 (mH N c.F l k z fr).1/\bB K' H' j c (mH N c.F l k z fr).2);generalize eI l k z=y at*;refine ar (Q:=qD j) (Post:=fun v K' H'=>v= .i64 (mH N c.F l k z fr).1/\bB K' H' j c (mH N c.F l k z fr).2) func50 ?_;refine qc3 i ?_
  refine qc7 p o @pM ?_
  refine cQ (C) U rfl (by simp[lows,V.low,s]) t.bD ?_;rintro _ T W q G ⟨rfl,r⟩;refine qc0 ?_;exact Ex.of (O.call q fun _ h=>h) trivial ⟨rfl,r⟩
end
end
section
structure b9 where
 l:Nat
 na:Nat
 xs:List Nat
 cs:List cR
structure bl where
 N:List bf
 aO:List Gr
 all:List (List Pk)
def u6 (K:RK)(H:aU)(v:V)(aO:List Gr):Prop:=(v= .bG/\aO=[])\/∃ a,v= .slice a 0 aO.length 3/\K a=some .aO/\ah H a=bK (dT aO)
def l8 (K:RK)(H:aU)(j x:Nat)(c:cR)(N:bf)(all:List Pk):Prop:=∃ v,K x=some (.node j)/\ah H x=bK [.ptr c.d 0,v]/\jD K H (.all j) v all.length (fy all)/\bB K H j c N
structure bM (K:RK) (H:aU) (k:b9) (L:bl):Prop where
 kl:K k.l=some .link
 ka:K k.na=some .nodes
 gl:∃ v,ah H k.l=bK [.slice k.na 0 k.xs.length 1,v]/\u6 K H v L.aO
 ga:ah H k.na=bK (k.xs.map (fun x=> .ptr x 0))
 l1:k.cs.length=k.xs.length
 l2:L.N.length=k.xs.length
 l3:L.all.length=k.xs.length
 nd:∀ j (_:j<k.xs.length) (h1:j<k.cs.length) (h2:j<L.N.length) (h3:j<L.all.length),l8 K H j k.xs[j] k.cs[j] L.N[j] L.all[j]
section
variable {K K0 K':RK}{H H0 H':aU}{Q0 Q:Rl->Prop}{i j j' n x:Nat}{c:cR}{N N':bf}{k:b9}{L:bl}{v:V}{aO:List Gr}{all:List Pk}
theorem u6.off (h:u6 K H v aO)(e:cD Q K H K' H')(b:¬ Q .aO):u6 K' H' v aO:=by
 rcases h with h|⟨a,g,f,d⟩
 .exact .inl h
 .exact .inr ⟨a,g,e.k _ _ f b,(e.h _ _ f b).trans d⟩
structure nP (Q:Rl->Prop) (j:Nat):Prop where
 d:¬ Q (.dev j)/\¬ Q (.pX j)/\¬ Q (.out j)/\¬ Q (.aT j)/\¬ Q (.bk j)/\¬ Q (.bm j)/\¬ Q (.path j)
 p:∀ i,¬ Q (.peer j i)/\¬ Q (.tm j i)/\¬ Q (.wt j i)/\¬ Q (.bg j i)/\¬ Q (.eC j i)/\∀ a,¬ Q (.pair j i a)/\¬ Q (.iT j i a)
theorem bB.off (h:bB K H j c N)(m:cD Q K H K' H')(b:H.length<=H'.length)(a:nP Q j):bB K' H' j c N:=by
 obtain⟨r,s,t,u,w,y,z⟩:=a.d;refine⟨?_,h.len,fun i o q=>?_,h.mX.off m w y,h.oG.off m b z⟩
 .obtain⟨_,_,e⟩:=h.dev;exact⟨_,_,e.off m r s t u⟩
 .obtain⟨f,A,B,g,C,l⟩:=a.p i;exact(h.peer i o q).off m f A B g C l
theorem l8.off (h:l8 K H j x c N all)(d:cD Q K H K' H')(a:H.length<=H'.length)(h1:¬ Q (.node j))(h2:¬ Q (.all j))(b:nP Q j):l8 K' H' j x c N all:=by
 obtain⟨v,e,f,g,l⟩:=h;exact⟨v,d.k _ _ e h1,(d.h _ _ e h1).trans f,g.off d h2,l.off d a b⟩
theorem vd:nP (fun _=>False) j:=⟨⟨id,id,id,id,id,id,id⟩,fun _=>⟨id,id,id,id,id,fun _=>⟨id,id⟩⟩⟩
theorem SB (h:j≠j'):nP (qD j') j:=⟨⟨h,h,h,h,h,h,h⟩,fun _=>⟨h,h,h,h,h,fun _=>⟨h,h⟩⟩⟩
theorem bM.eH (h:bM K H k L)(b:Cx K H (fun _=>False) K' H'):bM K' H' k L:=by
 have e:=b.off;obtain⟨v,l,m⟩:=h.gl;exact⟨e.k _ _ h.kl id,e.k _ _ h.ka id,⟨v,(e.h _ _ h.kl id).trans l,m.off e id⟩,(e.h _ _ h.ka id).trans h.ga,h.l1,h.l2,h.l3,fun j a f g d=>(h.nd j a f g d).off e b.len id id vd⟩
theorem bM.one (h:bM K H k L)(f:Cx K H (qD j) K' H')(r:j<k.xs.length)(l:j<k.cs.length)(m:bB K' H' j k.cs[j] N'):bM K' H' k {L with N:=L.N.set j N'}:=by
 have t:=f.off;obtain⟨v,y,z⟩:=h.gl;have o:=h.l2;refine⟨t.k _ _ h.kl id,t.k _ _ h.ka id,⟨v,(t.h _ _ h.kl id).trans y,z.off t id⟩,(t.h _ _ h.ka id).trans h.ga,h.l1,by show(L.N.set j N').length=_;rw[b7];exact h.l2,h.l3,fun j' a u A g=>?_⟩;have b:j'<L.N.length:=I;show l8 K' H' j' k.xs[j'] k.cs[j'] ((L.N.set j N')[j']'(by rw[b7];exact b)) L.all[j'];by_cases e:j'=j
 .subst e;rw[uO];obtain⟨v,w,p,q,s⟩:=h.nd j' a u b g;exact⟨v,t.k _ _ w id,(t.h _ _ w id).trans p,q.off t id,m⟩
 .rw[vS (fun h=>e h.symm)];exact(h.nd j' a u b g).off t f.len id id (SB e)
theorem Ot (b:Cx K0 H0 Q0 K H)(a:bM K H k L)(n:Int):
  ∃ v K' H',Dx prog 21 [.ptr k.l 0,.i64 n] K H (fun _=>False) v K' H'/\(v=rY k.xs (if n<0\/(k.xs.length:Int)<=n then none else some n.toNat)/\K'=K/\H'=H):=by
 obtain⟨w,u,-⟩:=a.gl;have d:=a.ga;refine ar (Q:=fun _=>False) (Post:=fun v K' H'=>v=rY k.xs (if n<0\/(k.xs.length:Int)<=n then none else some n.toNat)/\K'=K/\H'=H) func21 ?_;refine d8 u ?_
 by_cases s:n<0
 .refine pL s ?_
  exact Ex.of (b.start _) trivial ⟨by simp;rfl,rfl,rfl⟩
 by_cases t:(k.xs.length:Int)<=n
 .refine Gh s t ?_
  exact Ex.of (b.start _) trivial ⟨by simp;rfl,rfl,rfl⟩
 obtain⟨i,rfl⟩:∃ i:Nat,n=(i:Int):=⟨n.toNat,I⟩;have r:i<k.xs.length:=I;have e:(i:Int)<k.xs.length:=I;have f:(0:Int)<=(i:Int):=I;have h:(k.xs.map (fun p=>V.ptr p 0)).getD i .bH= .ptr k.xs[i] 0:=by
  rw[bY,dU,bn r];rfl
 have m:=a.l1;have o:=a.l2;have q:=a.l3;obtain⟨_,g,-,-,-⟩:=a.nd i r I I I;refine qb9 s t e f u d h ?_
 refine Ex.of (b.start _) (b.lt g) ⟨?_,rfl,rfl⟩;first
  |exact(uh r).symm
  |rw[aq I,iG,uh r]
end
end
end Go.Vm
end
